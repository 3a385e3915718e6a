/-
  Part 43 of the proof that the statement FnExactProvesNoSolutionWithin holds.
-/
import Derived.Test.YtfolipnappekaaaGreatCProvesNoSolutionWithin41
import Derived.Shelf.RegionOpenPlain
import Derived.WalkKit
import Derived.Lib.Walk
namespace Go.Proofs.YtfolipnappekaaaGreat
open Go.RowKit
def ap (p:List Int) (i:Nat):Nat:=(Ja p (i:Int)).toNat
def Pm (n:Nat) (p:List Int):Prop:=p.length=n/\Xb p
theorem Pm.n1 {n:Nat} {p:List Int} (h:Pm n p):1<=n:=h.1▸h.2.pos
theorem Pm.n2 {n:Nat} {p:List Int} (h:Pm n p):n<=20:=h.1▸h.2.len
theorem Pm.Vu {n:Nat} {p:List Int} (h:Pm n p) {i:Nat} (hi:i<n):Ja p (i:Int)=(ap p i:Int)/\ap p i<n:=by
 have jV:i<p.length:=by rw [h.1];exact hi
 have:=h.2.row _ (List.getElem_mem jV)
 unfold ap
 rw [Hx jV]
 have h1:=h.1
 omega
theorem Pm.lt {n:Nat} {p:List Int} (h:Pm n p) {i:Nat} (hi:i<n):ap p i<n:=(h.Vu hi).2
theorem Pm.ext {n:Nat} {p q:List Int} (h:Pm n p) (k:Pm n q) (e: ∀i,i<n->ap p i=ap q i):p=q:=by
 refine List.ext_getElem (by rw [h.1,k.1]) λi h1 h2=>?_
 have hi:i<n:=by rw [<-h.1];exact h1
 have a:=(h.Vu hi).1
 have b:=(k.Vu hi).1
 rw [Hx h1] at a
 rw [Hx h2] at b
 rw [a,b,e i hi]
theorem Pm.inj {n:Nat} {p:List Int} (h:Pm n p) {i j:Nat} (hi:i<n) (hj:j<n) (e:ap p i=ap p j):i=j:=
 h.2.inj i j (by rw [h.1];exact hi) (by rw [h.1];exact hj) e
theorem Pm.TV {n:Nat} {p:List Int} (h:Pm n p) {k:Nat} (hk:k<n): ∃i,i<n/\ap p i=k:=by
 obtain ⟨i,h1,h2⟩:=h.2.TV k (by rw [h.1];exact hk)
 exact ⟨i,by rw [<-h.1];exact h1,h2⟩
theorem Pm.of {n:Nat} {p:List Int} (hl:p.length=n) (h1:1<=n) (h2:n<=20) (f:Nat->Nat) (hf: ∀i,i<n->p[i]?=some (f i:Int)/\f i<n) (hi: ∀i j,i<n->j<n->f i=f j->i=j):Pm n p:=by
 refine ⟨hl,by omega,by omega,λy hy=>?_,?_⟩
 ·obtain ⟨i,hi,rfl⟩:=List.mem_iff_getElem.1 hy
  obtain ⟨h3,h4⟩:=hf i (by omega)
  rw [List.getElem?_eq_getElem hi] at h3
  rw [Option.some.inj h3]
  omega
 ·refine List.pairwise_iff_getElem.2 λi j h3 h4 h5 h6=>?_
  have a:=(hf i (by omega)).1
  have b:=(hf j (by omega)).1
  rw [List.getElem?_eq_getElem h3] at a
  rw [List.getElem?_eq_getElem h4] at b
  rw [Option.some.inj a,Option.some.inj b] at h6
  have:=hi i j (by omega) (by omega) (by omega)
  omega
theorem yH {n:Nat} {p q:List Int} (hp:Pm n p) (hq:Pm n q) {i:Nat} (hi:i<n):(Ab p q)[i]?=some (ap q (ap p i):Int):=by
 have h1:i<p.length:=by rw [hp.1];exact hi
 unfold Ab
 rw [List.getElem?_map,List.getElem?_eq_getElem h1]
 have a:=(hp.Vu hi).1
 rw [Hx h1] at a
 simp only [Option.map_some,a]
 rw [(hq.Vu (hp.Vu hi).2).1]
theorem Pm.comp {n:Nat} {p q:List Int} (hp:Pm n p) (hq:Pm n q):Pm n (Ab p q):=
 Pm.of (by rw [Kl,hp.1]) hp.n1 hp.n2 (λi=>ap q (ap p i)) (λi hi=>⟨yH hp hq hi,hq.lt (hp.lt hi)⟩) λi j hi hj e=>hp.inj hi hj (hq.inj (hp.lt hi) (hp.lt hj) e)
theorem QO {p:List Int} {i k:Nat} (h:p[i]?=some (k:Int)):ap p i=k:=by
 unfold ap Ja
 rw [Int.toNat_natCast,List.getD_eq_getElem?_getD,h]
 simp
theorem Hg {n:Nat} {p q:List Int} (hp:Pm n p) (hq:Pm n q) {i:Nat} (hi:i<n):ap (Ab p q) i=ap q (ap p i):=QO (yH hp hq hi)
theorem eS {n i:Nat} (hi:i<n):(upto n)[i]?=some (i:Int):=by simp [upto,hi]
theorem gw {n i:Nat} (hi:i<n):ap (upto n) i=i:=QO (eS hi)
theorem Pm.id {n:Nat} (h1:1<=n) (h2:n<=20):Pm n (upto n):=Pm.of (by simp [upto]) h1 h2 (λi=>i) (λi hi=>⟨eS hi,hi⟩) λ_ _ _ _ e=>e
theorem KB {n:Nat} {p:List Int} (hp:Pm n p) {i:Nat} (hi:i<n):(Ai p)[ap p i]?=some (i:Int):=SV hp.2 (by rw [hp.1];exact hi)
theorem fb {n:Nat} {p:List Int} (hp:Pm n p) {i:Nat} (hi:i<n):ap (Ai p) (ap p i)=i:=QO (KB hp hi)
theorem vL {n:Nat} {p:List Int} (hp:Pm n p) {k:Nat} (hk:k<n):ap p (ap (Ai p) k)=k:=by
 obtain ⟨i,hi,rfl⟩:=hp.TV hk
 rw [fb hp hi]
theorem Pm.inv {n:Nat} {p:List Int} (hp:Pm n p):Pm n (Ai p):=by
 refine Pm.of (by rw [jZ,hp.1]) hp.n1 hp.n2 (λk=>ap (Ai p) k) (λk hk=>?_) λi j hi hj e=>?_
 ·obtain ⟨i,hi,rfl⟩:=hp.TV hk
  rw [fb hp hi]
  exact ⟨KB hp hi,hi⟩
 ·rw [<-vL hp hi,<-vL hp hj,e]
theorem Gc {n:Nat} {p q r:List Int} (hp:Pm n p) (hq:Pm n q) (hr:Pm n r):Ab (Ab p q) r=Ab p (Ab q r):=
 ((hp.comp hq).comp hr).ext (hp.comp (hq.comp hr)) λi hi=>by rw [Hg (hp.comp hq) hr hi,Hg hp hq hi,Hg hp (hq.comp hr) hi,Hg hq hr (hp.lt hi)]
theorem comp_id {n:Nat} {p:List Int} (hp:Pm n p):Ab p (upto n)=p:=
 (hp.comp (Pm.id hp.n1 hp.n2)).ext hp λi hi=>by rw [Hg hp (Pm.id hp.n1 hp.n2) hi,gw (hp.lt hi)]
theorem id_comp {n:Nat} {p:List Int} (hp:Pm n p):Ab (upto n) p=p:=
 ((Pm.id hp.n1 hp.n2).comp hp).ext hp λi hi=>by rw [Hg (Pm.id hp.n1 hp.n2) hp hi,gw hi]
theorem jA {n:Nat} {p:List Int} (hp:Pm n p):Ab p (Ai p)=upto n:=
 (hp.comp hp.inv).ext (Pm.id hp.n1 hp.n2) λi hi=>by rw [Hg hp hp.inv hi,fb hp hi,gw hi]
theorem aL {n:Nat} {p:List Int} (hp:Pm n p):Ab (Ai p) p=upto n:=
 (hp.inv.comp hp).ext (Pm.id hp.n1 hp.n2) λi hi=>by rw [Hg hp.inv hp hi,vL hp hi,gw hi]
theorem qb {n:Nat} {p q:List Int} (hp:Pm n p) (hq:Pm n q) (h:Ab p q=upto n):Ai p=q:=by
 rw [<-comp_id hp.inv,<-h,<-Gc hp.inv hp hq,aL hp,id_comp hq]
theorem inv_mul {n:Nat} {p q:List Int} (hp:Pm n p) (hq:Pm n q):Ai (Ab p q)=Ab (Ai q) (Ai p):=
 qb (hp.comp hq) (hq.inv.comp hp.inv) (by
  rw [Gc hp hq (hq.inv.comp hp.inv),<-Gc hq hq.inv hp.inv,jA hq,id_comp hp.inv,jA hp])
theorem inv_inv {n:Nat} {p:List Int} (hp:Pm n p):Ai (Ai p)=p:=qb hp.inv hp (aL hp)
theorem SW {n:Nat} (h1:1<=n) (h2:n<=20):Ai (upto n)=upto n:=qb (Pm.id h1 h2) (Pm.id h1 h2) (comp_id (Pm.id h1 h2))
inductive Yk (n:Nat) (S:List Int->Prop):List Int->Prop where
 |id:Yk n S (upto n)
 |mul {p g:List Int} :Yk n S p->S g->Yk n S (Ab p g)
 |inv {p g:List Int} :Yk n S p->S g->Yk n S (Ab p (Ai g))
def yi (n:Nat) (S:List Int->Prop):Prop:=(1<=n/\n<=20)/\ ∀g,S g->Pm n g
theorem Yk.pm {n:Nat} {S:List Int->Prop} (hS:yi n S) {p:List Int} (h:Yk n S p):Pm n p:=by
 induction h with
 |id=>exact Pm.id hS.1.1 hS.1.2
 |mul _ hg ih=>exact ih.comp (hS.2 _ hg)
 |inv _ hg ih=>exact ih.comp (hS.2 _ hg).inv
theorem Yk.comp {n:Nat} {S:List Int->Prop} (hS:yi n S) {p q:List Int} (hp:Yk n S p) (hq:Yk n S q):Yk n S (Ab p q):=by
 induction hq with
 |id=>rw [comp_id (hp.pm hS)];exact hp
 |mul hq hg ih=>rw [<-Gc (hp.pm hS) (hq.pm hS) (hS.2 _ hg)];exact .mul ih hg
 |inv hq hg ih=>rw [<-Gc (hp.pm hS) (hq.pm hS) (hS.2 _ hg).inv];exact .inv ih hg
theorem Yk.one {n:Nat} {S:List Int->Prop} (hS:yi n S) {g:List Int} (hg:S g):Yk n S g:=by
 have:=Yk.mul (n:=n) (S:=S) .id hg
 rwa [id_comp (hS.2 g hg)] at this
theorem Yk.Adr {n:Nat} {S:List Int->Prop} (hS:yi n S) {g:List Int} (hg:S g):Yk n S (Ai g):=by
 have:=Yk.inv (n:=n) (S:=S) .id hg
 rwa [id_comp (hS.2 g hg).inv] at this
theorem Yk.oN {n:Nat} {S:List Int->Prop} (hS:yi n S) {p:List Int} (hp:Yk n S p):Yk n S (Ai p):=by
 induction hp with
 |id=>rw [SW hS.1.1 hS.1.2];exact .id
 |mul hq hg ih=>rw [inv_mul (hq.pm hS) (hS.2 _ hg)];exact (Yk.Adr hS hg).comp hS ih
 |inv hq hg ih=>rw [inv_mul (hq.pm hS) (hS.2 _ hg).inv,inv_inv (hS.2 _ hg)];exact (Yk.one hS hg).comp hS ih
theorem Yk.trans {n:Nat} {S S':List Int->Prop} (hS':yi n S') (h: ∀g,S g->Yk n S' g) {p:List Int} (hp:Yk n S p):Yk n S' p:=by
 induction hp with
 |id=>exact .id
 |mul _ hg ih=>exact ih.comp hS' (h _ hg)
 |inv _ hg ih=>exact ih.comp hS' ((h _ hg).oN hS')
abbrev PO:=Option (List Int)
abbrev Row:=List PO
abbrev Aw:=List Row
def Px (row:Row):List Int:=(upto row.length).filter λy=>(row.getD y.toNat none).isSome
def Ee (T:Aw):Nat->Nat->List Int->Bool
 |0,_,_=>true
 |k+1,i,p=>match (T.getD i []).getD (Ja p (i:Int)).toNat none with
  |none=>false
  |some t=>Ee T k (i+1) (Ab p (Ai t))
def Hj (row:Row):Nat:=row.countP (·.isNone)
def Vw (x:Int) (s:Row×List Int) (o:PO):Row×List Int:=
 match s.1.getD (Ja (o.getD []) x).toNat none with
 |some _=>s
 |none=>(s.1.set (Ja (o.getD []) x).toNat (some (Ab ((s.1.getD x.toNat none).getD []) (o.getD []))),s.2++ [Ja (o.getD []) x])
def Vn (x:Int) (gs:List PO) (s:Row×List Int):Row×List Int:=gs.foldl (Vw x) s
def Vb (gs:List PO):Nat->List Int->Row->Row
 |0,_,row=>row
 |_+1,[],row=>row
 |f+1,x::q,row=>Vb gs f (Vn x gs (row,q)).2 (Vn x gs (row,q)).1
def Tx (gs:List PO) (row:Row):Row:=Vb gs 100 (Px row) row
def Oj (row:Row) (y:Int) (g:PO):List Int:=
 Ab (Ab ((row.getD y.toNat none).getD []) (g.getD [])) (Ai ((row.getD (Ja (g.getD []) y).toNat none).getD []))
def cJ (row:Row) (gs:List PO):List (List Int):=(Px row).flatMap λy=>gs.map λg=>Oj row y g
def Ds:Nat->Nat->List Int->Aw×Aw->Aw×Aw
 |0,_,_,s=>s
 |k+1,l,p,s=>
  if Ee s.2 (k+1) l p=true then s else
   (cJ (Tx (s.1.getD l []++ [some p]) (s.2.getD l [])) (s.1.getD l []++ [some p])).foldl (λs q=>Ds k (l+1) q s)
    (s.1.set l (s.1.getD l []++ [some p]),s.2.set l (Tx (s.1.getD l []++ [some p]) (s.2.getD l [])))
def Fx (l:Nat) (p:List Int):Prop:= ∀i,i<l->ap p i=i
def Gn (n:Nat) (gs:List PO):List Int->Prop:=Yk n λg=>some g∈gs
structure WY (n l:Nat) (gs:List PO) (row:Row) (H:List Int->Prop):Prop where
 pg: ∀o∈gs,∃g,o=some g/\Pm n g/\Fx l g
 rl:row.length=n
 r0:row.getD l none=some (upto n)
 rt: ∀y t,row.getD y none=some t->Pm n t/\Fx l t/\ap t l=y/\Gn n gs t
 cl: ∀y t g,row.getD y none=some t->some g∈gs->row.getD (ap g y) none≠none
 sg: ∀y t g t',row.getD y none=some t->some g∈gs->row.getD (ap g y) none=some t'->H (Ab (Ab t g) (Ai t'))
def fX (n:Nat):Nat->Nat->Aw×Aw->Prop
 |0,l,s=>s.1.getD l []= []
 |k+1,l,s=>fX n k (l+1) s/\WY n l (s.1.getD l []) (s.2.getD l []) (λq=>Ee s.2 k (l+1) q=true)/\ ∀g,some g∈s.1.getD (l+1) []->Gn n (s.1.getD l []) g
theorem ZC {l1 l2:List Nat} (hn:l1.Nodup) (hs: ∀x∈l1,x∈l2) (hl:l2.length<=l1.length): ∀x∈l2,x∈l1:=by
 induction l1 generalizing l2 with
 |nil=>
  intro x hx
  have:l2= []:=List.eq_nil_of_length_eq_zero (by simpa using hl)
  rw [this] at hx;cases hx
 |cons a l ih=>
  intro x hx
  obtain ⟨h1,h2⟩:=List.nodup_cons.1 hn
  have ha:=hs a (by simp)
  by_cases e:x=a
  ·subst e;simp
  ·refine List.mem_cons_of_mem _ (ih (l2:=l2.erase a) h2 (λy hy=>?_) ?_ x ((List.mem_erase_of_ne e).2 hx))
   ·have hya:y≠a:= λe'=>h1 (by rw [<-e'];exact hy)
    exact (List.mem_erase_of_ne hya).2 (hs y (by simp [hy]))
   ·rw [List.length_erase_of_mem ha]
    simp only [List.length_cons] at hl
    omega
theorem FP {n:Nat} {g:List Int} (hg:Pm n g) (D:Nat->Bool) (h: ∀y,y<n->D y=true->D (ap g y)=true) {y:Nat} (hy:y<n) (hD:D y=true): ∃x,x<n/\D x=true/\ap g x=y:=by
 have:=ZC (l1:=((List.range n).filter D).map (ap g)) (l2:=(List.range n).filter D) ?_ ?_ (by simp) y (List.mem_filter.2 ⟨List.mem_range.2 hy,hD⟩)
 ·obtain ⟨x,hx,e⟩:=List.mem_map.1 this
  obtain ⟨h1,h2⟩:=List.mem_filter.1 hx
  exact ⟨x,List.mem_range.1 h1,h2,e⟩
 ·refine List.pairwise_map.2 (List.Pairwise.imp_of_mem ?_ (List.nodup_range.filter D))
  intro a b ha hb Ek e
  exact Ek (hg.inj (List.mem_range.1 (List.mem_filter.1 ha).1) (List.mem_range.1 (List.mem_filter.1 hb).1) e)
 ·intro x hx
  obtain ⟨z,hz,rfl⟩:=List.mem_map.1 hx
  obtain ⟨h1,h2⟩:=List.mem_filter.1 hz
  exact List.mem_filter.2 ⟨List.mem_range.2 (hg.lt (List.mem_range.1 h1)),h z (List.mem_range.1 h1) h2⟩
theorem jR {row:Row} {y:Nat} {t:List Int} (h:row.getD y none=some t):y<row.length:=by
 rw [List.getD_eq_getElem?_getD] at h
 refine Classical.byContradiction λhn=>?_
 rw [List.getElem?_eq_none (by omega)] at h
 cases h
theorem WY.pms {n l:Nat} {gs:List PO} {row:Row} {H:List Int->Prop} (h:WY n l gs row H):yi n λg=>some g∈gs:=by
 refine ⟨?_,λg hg=>?_⟩
 ·have:=(h.rt l _ h.r0).1
  exact ⟨this.n1,this.n2⟩
 ·obtain ⟨g',e,h1,_⟩:=h.pg _ hg
  cases e;exact h1
theorem Fx.inv {n l:Nat} {p:List Int} (hp:Pm n p) (h:Fx l p) (hl:l<=n):Fx l (Ai p):= λi hi=>by
 have:=fb hp (i:=i) (by omega)
 rwa [h i hi] at this
theorem Fx.comp {n l:Nat} {p q:List Int} (hp:Pm n p) (hq:Pm n q) (h1:Fx l p) (h2:Fx l q) (hl:l<=n):Fx l (Ab p q):= λi hi=>by
 rw [Hg hp hq (by omega),h1 i hi,h2 i hi]
theorem Fx.all {n:Nat} {p:List Int} (hp:Pm n p) (h:Fx n p):p=upto n:=hp.ext (Pm.id hp.n1 hp.n2) λi hi=>by rw [h i hi,gw hi]
theorem Fx.div {n l:Nat} {p t:List Int} (hp:Pm n p) (ht:Pm n t) (h1:Fx l p) (h2:Fx l t) (hl:l<n) (e:ap t l=ap p l):Fx (l+1) (Ab p (Ai t)):= λi hi=>by
 rw [Hg hp ht.inv (by omega)]
 by_cases hil:i<l
 ·rw [h1 i hil];exact h2.inv ht (by omega) i hil
 ·have:i=l:=by omega
  subst this
  rw [<-e,fb ht hl]
theorem Oo {n:Nat} (h1:1<=n) (h2:n<=20): ∀(k l:Nat) (s:Aw×Aw),l+k=n->fX n k l s-> ∀p,Pm n p->Fx l p->(Ee s.2 k l p=true↔Gn n (s.1.getD l []) p)
 |0,l,s,hk,hc,p,hp,hf=>by
  have hl:l=n:=by omega
  subst hl
  rw [hf.all hp]
  exact ⟨λ_=> .id,λ_=>rfl⟩
 |k+1,l,s,hk,hc,p,hp,hf=>by
  obtain ⟨c1,c2,c3⟩:=hc
  have hS:=c2.pms
  have ih:=Oo h1 h2 k (l+1) s (by omega) c1
  have hS1:yi n λg=>some g∈s.1.getD (l+1) []:=⟨⟨h1,h2⟩,λg hg=>(c3 g hg).pm hS⟩
  have gM:l<n:=by omega
  constructor
  ·intro h
   simp only [Ee] at h
   rw [show (Ja p (l:Int)).toNat=ap p l from rfl] at h
   split at h
   ·cases h
   ·rename_i t ht
    obtain ⟨t1,t2,t3,t4⟩:=c2.rt _ _ ht
    have CQ:=Fx.div hp t1 hf t2 gM t3
    have hg:=((ih _ (hp.comp t1.inv) CQ).1 h).trans hS c3
    have:=Yk.comp hS hg t4
    rwa [Gc hp t1.inv t1,aL t1,comp_id hp] at this
  ·intro h
   have key: ∀q,Gn n (s.1.getD l []) q-> ∃t,(s.2.getD l []).getD (ap q l) none=some t/\Gn n (s.1.getD (l+1) []) (Ab q (Ai t)):=by
    intro q hq
    induction hq with
    |id=>
     refine ⟨upto n,by rw [gw gM];exact c2.r0,?_⟩
     rw [SW h1 h2,comp_id (Pm.id h1 h2)]
     exact .id
    | @mul q g hq hg ihq=>
     obtain ⟨t,e1,e2⟩:=ihq
     have hqp:=Yk.pm hS hq
     have Oe:=hS.2 _ hg
     obtain ⟨t1,t2,t3,t4⟩:=c2.rt _ _ e1
     cases e3:(s.2.getD l []).getD (ap g (ap q l)) none with
     |none=>exact absurd e3 (c2.cl _ _ _ e1 hg)
     |some t'=>
      obtain ⟨u1,u2,u3,u4⟩:=c2.rt _ _ e3
      have hsg:=c2.sg _ _ _ _ e1 hg e3
      have hfg:Fx (l+1) (Ab (Ab t g) (Ai t')):=Fx.div (t1.comp Oe) u1 (Fx.comp t1 Oe t2 (by obtain ⟨g',e,_,h⟩:=c2.pg _ hg;cases e;exact h) (by omega)) u2 gM (by rw [u3,Hg t1 Oe gM,t3])
      have CR:=(ih _ ((t1.comp Oe).comp u1.inv) hfg).1 hsg
      refine ⟨t',by rw [Hg hqp Oe gM];exact e3,?_⟩
      have:=Yk.comp hS1 e2 CR
      rwa [show Ab (Ab q (Ai t)) (Ab (Ab t g) (Ai t'))=Ab (Ab q g) (Ai t') by
       rw [Gc hqp t1.inv ((t1.comp Oe).comp u1.inv),Gc t1 Oe u1.inv,<-Gc t1.inv t1 (Oe.comp u1.inv),aL t1,id_comp (Oe.comp u1.inv),Gc hqp Oe u1.inv]] at this
    | @inv q g hq hg ihq=>
     obtain ⟨t,e1,e2⟩:=ihq
     have hqp:=Yk.pm hS hq
     have Oe:=hS.2 _ hg
     obtain ⟨t1,t2,t3,t4⟩:=c2.rt _ _ e1
     have hy:ap q l<n:=hqp.lt gM
     obtain ⟨x,hx,hD,he⟩:=FP Oe (λy=>((s.2.getD l []).getD y none).isSome) (λy hy hd=>by
      obtain ⟨t0,ht0⟩:=Option.isSome_iff_exists.1 hd
      exact Option.ne_none_iff_isSome.1 (c2.cl _ _ _ ht0 hg)) hy (by rw [e1];rfl)
     obtain ⟨t',e3⟩:=Option.isSome_iff_exists.1 hD
     obtain ⟨u1,u2,u3,u4⟩:=c2.rt _ _ e3
     have hsg:=c2.sg _ _ _ _ e3 hg (by rw [he];exact e1)
     have hfg:Fx (l+1) (Ab (Ab t' g) (Ai t)):=Fx.div (u1.comp Oe) t1 (Fx.comp u1 Oe u2 (by obtain ⟨g',e,_,h⟩:=c2.pg _ hg;cases e;exact h) (by omega)) t2 gM (by rw [t3,Hg u1 Oe gM,u3,he])
     have CR:=Yk.oN hS1 ((ih _ ((u1.comp Oe).comp t1.inv) hfg).1 hsg)
     have hax:ap (Ai g) (ap q l)=x:=by rw [<-he,fb Oe hx]
     refine ⟨t',by rw [Hg hqp Oe.inv gM,hax];exact e3,?_⟩
     have:=Yk.comp hS1 e2 CR
     rwa [show Ab (Ab q (Ai t)) (Ai (Ab (Ab t' g) (Ai t)))=Ab (Ab q (Ai g)) (Ai t') by
      rw [inv_mul (u1.comp Oe) t1.inv,inv_inv t1,inv_mul u1 Oe,Gc hqp t1.inv (t1.comp (Oe.inv.comp u1.inv)),<-Gc t1.inv t1 (Oe.inv.comp u1.inv),aL t1,id_comp (Oe.inv.comp u1.inv),Gc hqp Oe.inv u1.inv]] at this
   obtain ⟨t,e1,e2⟩:=key p h
   obtain ⟨t1,t2,t3,t4⟩:=c2.rt _ _ e1
   simp only [Ee]
   rw [show (Ja p (l:Int)).toNat=ap p l from rfl,e1]
   exact (ih _ (hp.comp t1.inv) (Fx.div hp t1 hf t2 gM t3)).2 e2
end Go.Proofs.YtfolipnappekaaaGreat

namespace Go.Proofs.YtfolipnappekaaaGreat
open Go.RowKit
theorem Gs {α:Type} (xs:List α) (i j:Nat) (x d:α):(xs.set i x).getD j d=if i=j/\i<xs.length then x else xs.getD j d:=by
 rw [List.getD_eq_getElem?_getD,List.getElem?_set,List.getD_eq_getElem?_getD]
 by_cases e:i=j
 ·subst e
  by_cases h:i<xs.length
  ·rw [if_pos rfl,if_pos h,if_pos ⟨rfl,h⟩];rfl
  ·rw [if_pos rfl,if_neg h,if_neg (λhh=>h hh.2),List.getElem?_eq_none (by omega)]
 ·rw [if_neg e,if_neg (λhh=>e hh.1)]
theorem Yk.mono {n:Nat} {S S':List Int->Prop} (h: ∀g,S g->S' g) {p:List Int} (hp:Yk n S p):Yk n S' p:=by
 induction hp with
 |id=>exact .id
 |mul _ hg ih=>exact .mul ih (h _ hg)
 |inv _ hg ih=>exact .inv ih (h _ hg)
structure Pp (n l:Nat) (gs:List PO) (row:Row):Prop where
 rl:row.length=n
 r0:row.getD l none=some (upto n)
 rt: ∀y t,row.getD y none=some t->Pm n t/\Fx l t/\ap t l=y/\Gn n gs t
def PG (n l:Nat) (gs:List PO):Prop:= ∀o∈gs,∃g,o=some g/\Pm n g/\Fx l g
structure Ext (n l:Nat) (gs:List PO) (row:Row) (q:List Int) (s':Row×List Int):Prop where
 ok:Pp n l gs s'.1
 mono: ∀y t,row.getD y none=some t->s'.1.getD y none=some t
 phi:s'.2.length+Hj s'.1=q.length+Hj row
 sa: ∀y∈q,y∈s'.2
 new: ∀y∈s'.2,y∈q\/ ∃yn:Nat,y=yn/\s'.1.getD yn none≠none
 src: ∀y:Nat,s'.1.getD y none≠none->row.getD y none≠none\/(y:Int)∈s'.2
theorem Ext.refl {n l:Nat} {gs:List PO} {row:Row} {q:List Int} (h:Pp n l gs row):Ext n l gs row q (row,q):=⟨h,λ_ _ h=>h,rfl,λ_ h=>h,λ_ h=> .inl h,λ_ h=> .inl h⟩
theorem bM {a b:Row} (h: ∀y t,a.getD y none=some t->b.getD y none=some t) {y:Nat} (hy:a.getD y none≠none):b.getD y none≠none:=by
 cases e:a.getD y none with
 |none=>exact absurd e hy
 |some t=>rw [h y t e];simp
theorem Ext.trans {n l:Nat} {gs:List PO} {row:Row} {q:List Int} {s1 s2:Row×List Int} (h:Ext n l gs row q s1) (k:Ext n l gs s1.1 s1.2 s2):Ext n l gs row q s2:=by
 refine ⟨k.ok,λy t e=>k.mono y t (h.mono y t e),k.phi.trans h.phi,λy hy=>k.sa y (h.sa y hy),λy hy=>?_,λy hy=>?_⟩
 ·rcases k.new y hy with h1|h1
  ·rcases h.new y h1 with h2|⟨yn,h2,h3⟩
   ·exact .inl h2
   ·exact .inr ⟨yn,h2,bM k.mono h3⟩
  ·exact .inr h1
 ·rcases k.src y hy with h1|h1
  ·exact (h.src y h1).imp id λh2=>k.sa _ h2
  ·exact .inr h1
theorem lX {row:Row} {i:Nat} {t:List Int} (h:row.getD i none=none) (hi:i<row.length):Hj (row.set i (some t))+1=Hj row:=by
 unfold Hj
 have e:row[i]=none:=by
  rw [List.getD_eq_getElem?_getD,List.getElem?_eq_getElem hi] at h
  exact h
 have h1:=List.countP_set (p:= λo:PO=>o.isNone) (l:=row) (i:=i) (a:=some t) hi
 have ME:0<row.countP (·.isNone):=List.countP_pos_iff.2 ⟨row[i],List.getElem_mem hi,by rw [e];rfl⟩
 rw [h1,e]
 simp
 omega
theorem ZB {n l:Nat} {gs:List PO} (gM:l<n) (hg:PG n l gs) {row:Row} {q:List Int} (h:Pp n l gs row) {x:Nat} {t:List Int} (hx:row.getD x none=some t) {g:List Int} (ho:some g∈gs):
  Ext n l gs row q (Vw (x:Int) (row,q) (some g))/\(Vw (x:Int) (row,q) (some g)).1.getD (ap g x) none≠none:=by
 obtain ⟨g',e,Oe,hgf⟩:=hg _ ho
 cases e
 obtain ⟨t1,t2,t3,t4⟩:=h.rt _ _ hx
 have WW:x<n:=by rw [<-h.rl];exact jR hx
 obtain ⟨a1,a2⟩:=Oe.Vu WW
 unfold Vw
 simp only [Option.getD_some,a1,Int.toNat_natCast]
 cases e:row.getD (ap g x) none with
 |some u=>exact ⟨Ext.refl h,by simp only;rw [e];simp⟩
 |none=>
  simp only [hx,Option.getD_some]
  have hl:ap g x<row.length:=by rw [h.rl];exact a2
  have hS:yi n λg=>some g∈gs:=⟨⟨t1.n1,t1.n2⟩,λg Np=>by obtain ⟨g',e,h1,_⟩:=hg _ Np;cases e;exact h1⟩
  have Ad: ∀y,(row.set (ap g x) (some (Ab t g))).getD y none=if ap g x=y/\ap g x<row.length then some (Ab t g) else row.getD y none:= λy=>Gs _ _ _ _ _
  have Ek: ∀y u,row.getD y none=some u->ap g x≠y:= λy u hu e'=>by rw [<-e',e] at hu;cases hu
  refine ⟨⟨⟨by simp [h.rl],?_,λy u hu=>?_⟩,λy u hu=>?_,?_,λy hy=>List.mem_append_left _ hy,λy hy=>?_,λy hy=>?_⟩,?_⟩
  ·rw [Ad,if_neg (λhh=>Ek l _ h.r0 hh.1)];exact h.r0
  ·rw [Ad] at hu
   split at hu
   ·rename_i hc
    cases hu
    exact ⟨t1.comp Oe,Fx.comp t1 Oe t2 hgf (by omega),by rw [Hg t1 Oe gM,t3];exact hc.1, .mul t4 ho⟩
   ·exact h.rt y u hu
  ·show (row.set (ap g x) (some (Ab t g))).getD y none=some u
   rw [Ad,if_neg (λhh=>Ek y u hu hh.1)];exact hu
  ·have:=lX (t:=Ab t g) e hl
   simp only [List.length_append,List.length_cons,List.length_nil]
   omega
  ·rcases List.mem_append.1 hy with hy|hy
   ·exact .inl hy
   ·simp only [List.mem_singleton] at hy
    exact .inr ⟨ap g x,hy,by show (row.set (ap g x) (some (Ab t g))).getD (ap g x) none≠none;rw [Ad,if_pos ⟨rfl,hl⟩];simp⟩
  ·have hy:(row.set (ap g x) (some (Ab t g))).getD y none≠none:=hy
   rw [Ad] at hy
   split at hy
   ·rename_i hc
    exact .inr (by show (y:Int)∈q++ [(ap g x:Int)];rw [<-hc.1];simp)
   ·exact .inl hy
  ·show (row.set (ap g x) (some (Ab t g))).getD (ap g x) none≠none
   rw [Ad,if_pos ⟨rfl,hl⟩];simp
theorem UG {n l:Nat} {gs:List PO} (gM:l<n) (hg:PG n l gs): ∀(gs':List PO) {row:Row} {q:List Int},(∀o∈gs',o∈gs)->Pp n l gs row-> ∀ {x:Nat} {t:List Int},row.getD x none=some t->
  Ext n l gs row q (Vn (x:Int) gs' (row,q))/\ ∀g,some g∈gs'->(Vn (x:Int) gs' (row,q)).1.getD (ap g x) none≠none
 | [],row,q,_,h,x,t,hx=>⟨Ext.refl h,λg hg=>by cases hg⟩
 |o::gs',row,q,hs,h,x,t,hx=>by
  obtain ⟨g,rfl,_,_⟩:=hg o (hs o (by simp))
  obtain ⟨e1,e2⟩:=ZB (q:=q) gM hg h hx (hs (some g) (by simp))
  obtain ⟨f1,f2⟩:=UG gM hg gs' (q:=(Vw (x:Int) (row,q) (some g)).2) (λo ho=>hs o (by simp [ho])) e1.ok (e1.mono x t hx)
  have hb:Vn (x:Int) (some g::gs') (row,q)=Vn (x:Int) gs' ((Vw (x:Int) (row,q) (some g)).1,(Vw (x:Int) (row,q) (some g)).2):=rfl
  rw [hb]
  refine ⟨e1.trans f1,λg' Np=>?_⟩
  rcases List.mem_cons.1 Np with e|Np
  ·cases e;exact bM f1.mono e2
  ·exact f2 g' Np
def LD (gs:List PO) (q:List Int) (row:Row):Prop:=
 (∀y∈q,∃yn:Nat,y=yn/\row.getD yn none≠none)/\ ∀y:Nat,row.getD y none≠none->(y:Int)∈q\/ ∀g,some g∈gs->row.getD (ap g y) none≠none
theorem GG {n l:Nat} {gs:List PO} (gM:l<n) (hg:PG n l gs) {x:Int} {q:List Int} {row:Row} (h:Pp n l gs row) (hq:LD gs (x::q) row):
  Ext n l gs row q (Vn x gs (row,q))/\LD gs (Vn x gs (row,q)).2 (Vn x gs (row,q)).1/\ ∃(xn:Nat) (t:List Int),x=xn/\row.getD xn none=some t:=by
 obtain ⟨xn,rfl,hx⟩:=hq.1 x (by simp)
 cases e:row.getD xn none with
 |none=>exact absurd e hx
 |some t=>
  obtain ⟨e1,e2⟩:=UG gM hg gs (q:=q) (λo ho=>ho) h e
  refine ⟨e1,⟨λy hy=>?_,λy hy=>?_⟩,xn,t,rfl,e⟩
  ·rcases e1.new y hy with h1|h1
   ·obtain ⟨yn,h2,h3⟩:=hq.1 y (by simp [h1])
    exact ⟨yn,h2,bM e1.mono h3⟩
   ·exact h1
  ·rcases e1.src y hy with h1|h1
   ·rcases hq.2 y h1 with h2|h2
    ·rcases List.mem_cons.1 h2 with h2|h2
     ·have:y=xn:=by omega
      subst this
      exact .inr λg Np=>e2 g Np
     ·exact .inl (e1.sa _ h2)
    ·exact .inr λg Np=>bM e1.mono (h2 g Np)
   ·exact .inl h1
theorem UN {n l:Nat} {gs:List PO} (gM:l<n) (hg:PG n l gs): ∀(f:Nat) (q:List Int) (row:Row),q.length+Hj row<=f->Pp n l gs row->LD gs q row->
  Pp n l gs (Vb gs f q row)/\(∀y t,row.getD y none=some t->(Vb gs f q row).getD y none=some t)/\ ∀y t g,(Vb gs f q row).getD y none=some t->some g∈gs->(Vb gs f q row).getD (ap g y) none≠none
 |0,q,row,hf,h,hq=>by
  have:q= []:=List.eq_nil_of_length_eq_zero (by omega)
  subst this
  exact ⟨h,λ_ _ h=>h,λy t g e Np=>by
   rcases hq.2 y (by rw [show row.getD y none=some t from e];simp) with h1|h1
   ·cases h1
   ·exact h1 g Np⟩
 |f+1,[],row,hf,h,hq=>⟨h,λ_ _ h=>h,λy t g e Np=>by
   rcases hq.2 y (by rw [show row.getD y none=some t from e];simp) with h1|h1
   ·cases h1
   ·exact h1 g Np⟩
 |f+1,x::q,row,hf,h,hq=>by
  obtain ⟨e1,e2,_⟩:=GG gM hg h hq
  obtain ⟨r1,r2,r3⟩:=UN gM hg f _ _ (by have:=e1.phi;simp only [List.length_cons] at hf;omega) e1.ok e2
  exact ⟨r1,λy t e=>r2 y t (e1.mono y t e),r3⟩
theorem We {row:Row} {y:Int} :y∈Px row↔ ∃yn:Nat,y=yn/\row.getD yn none≠none:=by
 unfold Px
 rw [List.mem_filter,Un]
 constructor
 ·rintro ⟨h1,h2⟩
  exact ⟨y.toNat,by omega,Option.ne_none_iff_isSome.2 h2⟩
 ·rintro ⟨yn,rfl,h⟩
  obtain ⟨t,ht⟩:=Option.ne_none_iff_exists'.1 h
  exact ⟨by have:=jR ht;omega,by simpa using Option.ne_none_iff_isSome.1 h⟩
theorem wN (row:Row):(Px row).length<=row.length:=by
 unfold Px
 refine Nat.le_trans (List.length_filter_le _ _) (by simp [upto])
theorem e8 (row:Row):Hj row<=row.length:=List.countP_le_length
theorem zV {n l:Nat} {gs:List PO} (gM:l<n) (h2:n<=20) (hg:PG n l gs) {row:Row} (h:Pp n l gs row):
  Pp n l gs (Tx gs row)/\(∀y t,row.getD y none=some t->(Tx gs row).getD y none=some t)/\ ∀y t g,(Tx gs row).getD y none=some t->some g∈gs->(Tx gs row).getD (ap g y) none≠none:=
 UN gM hg 100 _ _ (by have:=wN row;have:=e8 row;have:=h.rl;omega) h ⟨λy hy=>We.1 hy,λy hy=> .inl (We.2 ⟨y,rfl,hy⟩)⟩
theorem yC {n l:Nat} {gs:List PO} (gM:l<n) (hg:PG n l gs): ∀(f:Nat) (q:List Int) (row:Row),q.length+Hj row<=f->Pp n l gs row->LD gs q row->Vb gs f q row=Vb gs (q.length+Hj row) q row
 |0,q,row,hf,_,_=>by
  have:q.length+Hj row=0:=by omega
  rw [this]
 |f+1,[],row,hf,_,_=>by
  cases h:([]:List Int).length+Hj row with
  |zero=>rfl
  |succ m=>rfl
 |f+1,x::q,row,hf,h,hq=>by
  obtain ⟨e1,e2,_⟩:=GG gM hg h hq
  have XZ:=e1.phi
  have:(x::q).length+Hj row=(q.length+Hj row)+1:=by simp only [List.length_cons];omega
  rw [this]
  simp only [Vb]
  rw [yC gM hg f _ _ (by simp only [List.length_cons] at hf;omega) e1.ok e2,XZ]
def sj (row:Row):Nat:=row.countP (·.isSome)
theorem lB: ∀(a b:Row),a.length=b.length->(∀y t,a.getD y none=some t->b.getD y none=some t)->sj a<=sj b/\(sj a=sj b->a=b)
 | [],[],_,_=>⟨Nat.le_refl _,λ_=>rfl⟩
 | [],_::_,h,_=>by simp at h
 |_::_,[],h,_=>by simp at h
 |x::a,y::b,h,hm=>by
  obtain ⟨h1,h2⟩:=lB a b (by simpa using h) λi t e=>by simpa using hm (i+1) t (by simpa using e)
  unfold sj at h1 h2⊢
  cases x with
  |none=>
   cases y with
   |none=>simp only [List.countP_cons];exact ⟨by simpa using h1,λe=>by rw [h2 (by simpa using e)]⟩
   |some u=>
    simp only [List.countP_cons,Option.isSome_none,Option.isSome_some]
    simp only [if_true,Bool.false_eq_true,if_false]
    exact ⟨by omega,λe=>by omega⟩
  |some t=>
   have:=hm 0 t (by simp)
   simp only [List.getD_cons_zero] at this
   subst this
   simp only [List.countP_cons]
   exact ⟨by simpa using h1,λe=>by rw [h2 (by simpa using e)]⟩
def ed (T:Aw):Nat->Nat->Nat
 |0,_=>0
 |k+1,l=>sj (T.getD l [])+ed T k (l+1)
def GBf:Nat->Nat->Aw×Aw->Prop
 |0,_,_=>True
 |k+1,l,s=>GBf k (l+1) s/\(s.1.getD l []).length<=ed s.2 (k+1) l
structure Qo (l0:Nat) (s s':Aw×Aw):Prop where
 MM:s'.1.length=s.1.length
 qh:s'.2.length=s.2.length
 low: ∀i,i<l0->s'.1.getD i []=s.1.getD i []/\s'.2.getD i []=s.2.getD i []
 uc: ∀i o,o∈s.1.getD i []->o∈s'.1.getD i []
 rQ: ∀i y t,(s.2.getD i []).getD y none=some t->(s'.2.getD i []).getD y none=some t
 UM: ∀i,(s'.2.getD i []).length=(s.2.getD i []).length
theorem Qo.refl (l0:Nat) (s:Aw×Aw):Qo l0 s s:=⟨rfl,rfl,λ_ _=>⟨rfl,rfl⟩,λ_ _ h=>h,λ_ _ _ h=>h,λ_=>rfl⟩
theorem Qo.trans {l0 l1:Nat} {a b c:Aw×Aw} (h:Qo l0 a b) (k:Qo l1 b c) (hl:l0<=l1):Qo l0 a c:=
 ⟨k.MM.trans h.MM,k.qh.trans h.qh,λi hi=>⟨(k.low i (by omega)).1.trans (h.low i hi).1,(k.low i (by omega)).2.trans (h.low i hi).2⟩,λi o ho=>k.uc i o (h.uc i o ho),λi y t e=>k.rQ i y t (h.rQ i y t e),λi=>(k.UM i).trans (h.UM i)⟩
theorem Qo.En {l0 l1:Nat} {a b:Aw×Aw} (h:Qo l1 a b) (hl:l0<=l1):Qo l0 a b:=(Qo.refl l0 a).trans h hl
theorem Yz {T T':Aw} : ∀(k l:Nat) (p:List Int),(∀i,l<=i->i<l+k->T'.getD i []=T.getD i [])->Ee T' k l p=Ee T k l p
 |0,_,_,_=>rfl
 |k+1,l,p,h=>by
  simp only [Ee]
  rw [h l (Nat.le_refl _) (by omega)]
  split
  ·rfl
  ·exact Yz k (l+1) _ λi h1 h2=>h i (by omega) (by omega)
theorem Pc {n:Nat} {s s':Aw×Aw} : ∀(k l:Nat),(∀i,l<=i->s'.1.getD i []=s.1.getD i []/\s'.2.getD i []=s.2.getD i [])->fX n k l s->fX n k l s'
 |0,l,h,hc=>by simp only [fX] at hc⊢;rw [(h l (Nat.le_refl _)).1];exact hc
 |k+1,l,h,hc=>by
  simp only [fX] at hc⊢
  obtain ⟨c1,c2,c3⟩:=hc
  refine ⟨Pc k (l+1) (λi hi=>h i (by omega)) c1,?_,?_⟩
  ·rw [(h l (Nat.le_refl _)).1,(h l (Nat.le_refl _)).2]
   have e:(λq=>Ee s'.2 k (l+1) q=true)= λq=>Ee s.2 k (l+1) q=true:=funext λq=>by rw [Yz k (l+1) q λi h1 h2=>(h i (by omega)).2]
   rw [e];exact c2
  ·rw [(h (l+1) (by omega)).1,(h l (Nat.le_refl _)).1];exact c3
theorem uO {T T':Aw} : ∀(k l:Nat),(∀i,l<=i->T'.getD i []=T.getD i [])->ed T' k l=ed T k l
 |0,_,_=>rfl
 |k+1,l,h=>by simp only [ed];rw [h l (Nat.le_refl _),uO k (l+1) λi hi=>h i (by omega)]
theorem Xk {s s':Aw×Aw} : ∀(k l:Nat),(∀i,l<=i->s'.1.getD i []=s.1.getD i []/\s'.2.getD i []=s.2.getD i [])->GBf k l s->GBf k l s'
 |0,_,_,_=>trivial
 |k+1,l,h,hg=>⟨Xk k (l+1) (λi hi=>h i (by omega)) hg.1,by
  rw [(h l (Nat.le_refl _)).1,uO (k+1) l λi hi=>(h i hi).2];exact hg.2⟩
theorem qJ {T T':Aw} (hl: ∀i,(T'.getD i []).length=(T.getD i []).length) (hm: ∀i y t,(T.getD i []).getD y none=some t->(T'.getD i []).getD y none=some t):
  ∀(k l:Nat),ed T k l<=ed T' k l/\(ed T k l=ed T' k l-> ∀i,l<=i->i<l+k->T'.getD i []=T.getD i [])
 |0,l=>⟨Nat.le_refl _,λ_ i h1 h2=>by omega⟩
 |k+1,l=>by
  obtain ⟨h1,h2⟩:=qJ hl hm k (l+1)
  obtain ⟨h3,h4⟩:=lB (T.getD l []) (T'.getD l []) (hl l).symm (hm l)
  simp only [ed]
  refine ⟨by omega,λe i g1 g2=>?_⟩
  by_cases hi:i=l
  ·subst hi;exact (h4 (by omega)).symm
  ·exact h2 (by omega) i (by omega) (by omega)
def V (n k l:Nat) (s:Aw×Aw):Prop:=s.1.length=n/\s.2.length=n/\fX n k l s/\GBf k l s
structure PX (n k l:Nat) (s:Aw×Aw) (p:List Int) (s':Aw×Aw):Prop where
 v:V n k l s'
 grow:Qo l s s'
 Adh:Gn n (s'.1.getD l []) p
 gens: ∀o∈s'.1.getD l [],o∈s.1.getD l []\/o=some p
theorem WY.row {n l:Nat} {gs:List PO} {row:Row} {H:List Int->Prop} (h:WY n l gs row H):Pp n l gs row:=⟨h.rl,h.r0,h.rt⟩
theorem eE {row:Row} {y:Nat} {t g t':List Int} (h1:row.getD y none=some t) (h2:row.getD (ap g y) none=some t'):Oj row (y:Int) (some g)=Ab (Ab t g) (Ai t'):=by
 unfold Oj
 rw [Int.toNat_natCast,h1,Option.getD_some,Option.getD_some,show (Ja g (y:Int)).toNat=ap g y from rfl,h2,Option.getD_some]
theorem lU {n l:Nat} {gs:List PO} {row:Row} (hg:PG n l gs) (_h:Pp n l gs row) (hc: ∀y t g,row.getD y none=some t->some g∈gs->row.getD (ap g y) none≠none) {q:List Int} :
  q∈cJ row gs↔ ∃(y:Nat) (t g t':List Int),row.getD y none=some t/\some g∈gs/\row.getD (ap g y) none=some t'/\q=Ab (Ab t g) (Ai t'):=by
 unfold cJ
 rw [List.mem_flatMap]
 constructor
 ·rintro ⟨y,hy,hq⟩
  obtain ⟨o,ho,rfl⟩:=List.mem_map.1 hq
  obtain ⟨yn,rfl,hyn⟩:=We.1 hy
  obtain ⟨t,ht⟩:=Option.ne_none_iff_exists'.1 hyn
  obtain ⟨g,rfl,Oe,_⟩:=hg o ho
  obtain ⟨t',um⟩:=Option.ne_none_iff_exists'.1 (hc yn t g ht ho)
  exact ⟨yn,t,g,t',ht,ho,um,eE ht um⟩
 ·rintro ⟨y,t,g,t',h1,h2,h3,rfl⟩
  obtain ⟨g',e,Oe,_⟩:=hg _ h2
  cases e
  exact ⟨(y:Int),We.2 ⟨y,rfl,by rw [h1];simp⟩,List.mem_map.2 ⟨some g,h2,eE h1 h3⟩⟩
theorem vJ {n:Nat} (h1:1<=n) (h2:n<=20): ∀(k l:Nat) (p:List Int) (s:Aw×Aw),l+k=n->V n k l s->Pm n p->Fx l p->PX n k l s p (Ds k l p s)
 |0,l,p,s,hk,hv,hp,hf=>by
  have hl:l=n:=by omega
  subst hl
  exact ⟨hv,Qo.refl _ _,by rw [hf.all hp];exact .id,λo ho=> .inl ho⟩
 |k+1,l,p,s,hk,hv,hp,hf=>by
  have gM:l<n:=by omega
  obtain ⟨v1,v2,hc,uh⟩:=hv
  have gI:=hc
  obtain ⟨c1,c2,c3⟩:=hc
  unfold Ds
  by_cases hh:Ee s.2 (k+1) l p=true
  ·rw [if_pos hh]
   exact ⟨⟨v1,v2,gI,uh⟩,Qo.refl _ _,(Oo h1 h2 (k+1) l s hk gI p hp hf).1 hh,λo ho=> .inl ho⟩
  rw [if_neg hh]
  generalize jU:s.1.getD l []++ [some p]=gs
  have Vd:some p∈gs:=by rw [<-jU];simp
  have Kz: ∀o∈s.1.getD l [],o∈gs:= λo ho=>by rw [<-jU];exact List.mem_append_left _ ho
  have hg:PG n l gs:= λo ho=>by
   rw [<-jU] at ho
   rcases List.mem_append.1 ho with ho|ho
   ·exact c2.pg o ho
   ·rw [List.mem_singleton] at ho;exact ⟨p,ho,hp,hf⟩
  have Ahe:Pp n l gs (s.2.getD l []):=⟨c2.rl,c2.r0,λy t e=>⟨(c2.rt y t e).1,(c2.rt y t e).2.1,(c2.rt y t e).2.2.1,(c2.rt y t e).2.2.2.mono λg hg=>Kz _ hg⟩⟩
  obtain ⟨r1,r2,r3⟩:=zV gM h2 hg Ahe
  generalize hR:Tx gs (s.2.getD l [])=R at r1 r2 r3
  have hS:yi n λg=>some g∈gs:=⟨⟨h1,h2⟩,λg Np=>by obtain ⟨g',e,h,_⟩:=hg _ Np;cases e;exact h⟩
  have qU: ∀i,((s.1.set l gs).getD i []=if i=l then gs else s.1.getD i [])/\(s.2.set l R).getD i []=if i=l then R else s.2.getD i []:= λi=>by
   rw [Gs,Gs]
   by_cases e:l=i
   ·subst e;rw [if_pos ⟨rfl,by omega⟩,if_pos rfl,if_pos ⟨rfl,by omega⟩,if_pos rfl];exact ⟨rfl,rfl⟩
   ·rw [if_neg (λhh=>e hh.1),if_neg (Ne.symm e),if_neg (λhh=>e hh.1),if_neg (Ne.symm e)];exact ⟨rfl,rfl⟩
  have uo: ∀i,l+1<=i->(s.1.set l gs).getD i []=s.1.getD i []/\(s.2.set l R).getD i []=s.2.getD i []:= λi hi=>by
   rw [(qU i).1,(qU i).2,if_neg (by omega),if_neg (by omega)];exact ⟨rfl,rfl⟩
  have bD:V n k (l+1) (s.1.set l gs,s.2.set l R):=⟨by simpa using v1,by simpa using v2,Pc k (l+1) uo c1,Xk k (l+1) uo uh.1⟩
  have iP:Qo l s (s.1.set l gs,s.2.set l R):=by
   refine ⟨by simp,by simp,λi hi=>?_,λi o ho=>?_,λi y t e=>?_,λi=>?_⟩
   ·rw [(qU i).1,(qU i).2,if_neg (by omega),if_neg (by omega)];exact ⟨rfl,rfl⟩
   ·rw [(qU i).1]
    split
    ·rename_i hi;subst hi;exact Kz o ho
    ·exact ho
   ·rw [(qU i).2]
    split
    ·rename_i hi;subst hi;exact r2 y t e
    ·exact e
   ·rw [(qU i).2]
    split
    ·rename_i hi;subst hi;rw [r1.rl,c2.rl]
    ·rfl
  have hq: ∀q∈cJ R gs,Pm n q/\Fx (l+1) q/\Gn n gs q:= λq hq=>by
   obtain ⟨y,t,g,t',e1,e2,e3,rfl⟩:=(lU hg r1 r3).1 hq
   obtain ⟨t1,t2,t3,t4⟩:=r1.rt _ _ e1
   obtain ⟨u1,u2,u3,u4⟩:=r1.rt _ _ e3
   obtain ⟨g',e,Oe,hgf⟩:=hg _ e2
   cases e
   exact ⟨(t1.comp Oe).comp u1.inv,Fx.div (t1.comp Oe) u1 (Fx.comp t1 Oe t2 hgf (by omega)) u2 gM (by rw [u3,Hg t1 Oe gM,t3]),Yk.comp hS (.mul t4 e2) (Yk.oN hS u4)⟩
  have fold: ∀(qs:List (List Int)) (s1:Aw×Aw),(∀q∈qs,Pm n q/\Fx (l+1) q)->V n k (l+1) s1->
    V n k (l+1) (qs.foldl (λs q=>Ds k (l+1) q s) s1)/\Qo (l+1) s1 (qs.foldl (λs q=>Ds k (l+1) q s) s1)/\
     (∀q∈qs,Gn n ((qs.foldl (λs q=>Ds k (l+1) q s) s1).1.getD (l+1) []) q)/\ ∀o∈(qs.foldl (λs q=>Ds k (l+1) q s) s1).1.getD (l+1) [],o∈s1.1.getD (l+1) []\/ ∃q∈qs,o=some q:=by
   intro qs
   induction qs with
   |nil=>exact λs1 _ hv=>⟨hv,Qo.refl _ _,(λq hq=>by cases hq),λo ho=>Or.inl ho⟩
   |cons q qs ih=>
    intro s1 MF hv
    have ha:=vJ h1 h2 k (l+1) q s1 (by omega) hv (MF q (by simp)).1 (MF q (by simp)).2
    obtain ⟨g1,g2,g3,g4⟩:=ih (Ds k (l+1) q s1) (λq' gi=>MF q' (by simp [gi])) ha.v
    simp only [List.foldl_cons]
    refine ⟨g1,ha.grow.trans g2 (Nat.le_refl _),λq' gi=>?_,λo ho=>?_⟩
    ·rcases List.mem_cons.1 gi with rfl|gi
     ·exact ha.Adh.mono λg hg=>g2.uc _ _ hg
     ·exact g3 q' gi
    ·rcases g4 o ho with h|⟨q',gi,h⟩
     ·rcases ha.gens o h with h|h
      ·exact .inl h
      ·exact .inr ⟨q,by simp,h⟩
     ·exact .inr ⟨q',by simp [gi],h⟩
  obtain ⟨f1,f2,f3,f4⟩:=fold (cJ R gs) (s.1.set l gs,s.2.set l R) (λq h=>⟨(hq q h).1,(hq q h).2.1⟩) bD
  generalize (cJ R gs).foldl (λs q=>Ds k (l+1) q s) (s.1.set l gs,s.2.set l R)=s' at f1 f2 f3 f4
  obtain ⟨w1,w2,w3,w4⟩:=f1
  have el1:s'.1.getD l []=gs:=by rw [(f2.low l (by omega)).1,(qU l).1,if_pos rfl]
  have el2:s'.2.getD l []=R:=by rw [(f2.low l (by omega)).2,(qU l).2,if_pos rfl]
  have pT:=iP.trans f2 (by omega)
  have Acq:WY n l gs R (λq=>Ee s'.2 k (l+1) q=true):=⟨hg,r1.rl,r1.r0,r1.rt,r3,λy t g t' e1 e2 e3=>by
   have hm:=(lU hg r1 r3).2 ⟨y,t,g,t',e1,e2,e3,rfl⟩
   exact (Oo h1 h2 k (l+1) s' (by omega) w3 _ (hq _ hm).1 (hq _ hm).2.1).2 (f3 _ hm)⟩
  have z9:fX n (k+1) l s':=⟨w3,by rw [el1,el2];exact Acq,λg Np=>by
   rw [el1]
   rcases f4 _ Np with h|⟨q,gi,h⟩
   ·rw [(uo (l+1) (Nat.le_refl _)).1] at h
    exact (c3 g h).mono λg hg=>Kz _ hg
   ·cases h;exact (hq _ gi).2.2⟩
  have dO:Gn n (s'.1.getD l []) p:=by rw [el1];exact Yk.one hS Vd
  refine ⟨⟨w1,w2,z9,w4,?_⟩,pT,dO,λo ho=>?_⟩
  ·have hold:=uh.2
   obtain ⟨p1,p2⟩:=qJ pT.UM pT.rQ (k+1) l
   have Ek:ed s.2 (k+1) l≠ed s'.2 (k+1) l:= λe=>by
    have:=Yz (k+1) l p (p2 e)
    rw [(Oo h1 h2 (k+1) l s' hk z9 p hp hf).2 dO] at this
    exact hh this.symm
   rw [el1,<-jU,List.length_append,List.length_singleton]
   omega
  ·rw [el1,<-jU] at ho
   rcases List.mem_append.1 ho with ho|ho
   ·exact .inl ho
   ·rw [List.mem_singleton] at ho;exact .inr ho
end Go.Proofs.YtfolipnappekaaaGreat

namespace Go.Proofs.YtfolipnappekaaaGreat
open Go.RowKit
theorem UE {n l:Nat} {gs:List PO} {R:Row} (gM:l<n) (hg:PG n l gs) (r1:Pp n l gs R) (r3: ∀y t g,R.getD y none=some t->some g∈gs->R.getD (ap g y) none≠none): ∀q∈cJ R gs,Pm n q/\Fx (l+1) q:=by
 intro q hq
 obtain ⟨y,t,g,t',e1,e2,e3,rfl⟩:=(lU hg r1 r3).1 hq
 obtain ⟨t1,t2,t3,t4⟩:=r1.rt _ _ e1
 obtain ⟨u1,u2,u3,u4⟩:=r1.rt _ _ e3
 obtain ⟨g',e,Oe,hgf⟩:=hg _ e2
 cases e
 exact ⟨(t1.comp Oe).comp u1.inv,Fx.div (t1.comp Oe) u1 (Fx.comp t1 Oe t2 hgf (by omega)) u2 gM (by rw [u3,Hg t1 Oe gM,t3])⟩
theorem V.lower {n k l:Nat} {s:Aw×Aw} (h:V n (k+1) l s) (gs:List PO) (R:Row):V n k (l+1) (s.1.set l gs,s.2.set l R):=by
 obtain ⟨v1,v2,hc,uh⟩:=h
 have uo: ∀i,l+1<=i->(s.1.set l gs).getD i []=s.1.getD i []/\(s.2.set l R).getD i []=s.2.getD i []:= λi hi=>by
  rw [Gs,Gs,if_neg (by omega),if_neg (by omega)];exact ⟨rfl,rfl⟩
 exact ⟨by simpa using v1,by simpa using v2,Pc k (l+1) uo hc.1,Xk k (l+1) uo uh.1⟩
theorem JF {n k l:Nat} (h1:1<=n) (h2:n<=20) (hk:l+k=n): ∀(qs:List (List Int)) (s1:Aw×Aw),(∀q∈qs,Pm n q/\Fx l q)->V n k l s1->
  V n k l (qs.foldl (λs q=>Ds k l q s) s1)/\Qo l s1 (qs.foldl (λs q=>Ds k l q s) s1)
 | [],s1,_,hv=>⟨hv,Qo.refl _ _⟩
 |q::qs,s1,MF,hv=>by
  have ha:=vJ h1 h2 k l q s1 hk hv (MF q (by simp)).1 (MF q (by simp)).2
  obtain ⟨g1,g2⟩:=JF h1 h2 hk qs (Ds k l q s1) (λq' gi=>MF q' (by simp [gi])) ha.v
  exact ⟨g1,ha.grow.trans g2 (Nat.le_refl _)⟩
theorem UF {n:Nat} {s:Aw×Aw} : ∀(k l:Nat),fX n k l s->ed s.2 k l<=n*k
 |0,_,_=>by simp [ed]
 |k+1,l,hc=>by
  have h1:=UF k (l+1) hc.1
  have h2:sj (s.2.getD l [])<=n:=by
   have:=hc.2.1.rl
   have h3:sj (s.2.getD l [])<=(s.2.getD l []).length:=List.countP_le_length
   omega
  simp only [ed]
  rw [Nat.mul_succ]
  omega
theorem JJ {n k l:Nat} {s:Aw×Aw} (h2:n<=20) (hk:l+(k+1)=n) (h:V n (k+1) l s):(s.1.getD l []).length<=400:=by
 have h3:=h.2.2.2.2
 have h4:=UF (k+1) l h.2.2.1
 have h5:n*(k+1)<=20*20:=Nat.mul_le_mul h2 (by omega)
 omega
theorem V.lvl {n k l:Nat} {s:Aw×Aw} (h:V n (k+1) l s):WY n l (s.1.getD l []) (s.2.getD l []) (λq=>Ee s.2 k (l+1) q=true):=h.2.2.1.2.1
theorem V.pg {n k l:Nat} {s:Aw×Aw} (h:V n (k+1) l s) {p:List Int} (hp:Pm n p) (hf:Fx l p):PG n l (s.1.getD l []++ [some p]):= λo ho=>by
 rcases List.mem_append.1 ho with ho|ho
 ·exact h.lvl.pg o ho
 ·rw [List.mem_singleton] at ho;exact ⟨p,ho,hp,hf⟩
theorem V.Anv {n k l:Nat} {s:Aw×Aw} (h:V n (k+1) l s) (p:List Int):Pp n l (s.1.getD l []++ [some p]) (s.2.getD l []):=
 ⟨h.lvl.rl,h.lvl.r0,λy t e=>⟨(h.lvl.rt y t e).1,(h.lvl.rt y t e).2.1,(h.lvl.rt y t e).2.2.1,(h.lvl.rt y t e).2.2.2.mono λ_ hg=>List.mem_append_left _ hg⟩⟩
theorem sX {α:Type} (xs:List (List α)) (i:Nat) (h:i<xs.length):xs.set i (xs.getD i [])=xs:=by
 refine List.ext_getElem (by simp) λj h1 h2=>?_
 rw [List.getElem_set]
 split
 ·rename_i e;subst e;rw [List.getD_eq_getElem?_getD,List.getElem?_eq_getElem h];rfl
 ·rfl
theorem Zz {α:Type} (xs:List (List α)) (i:Nat) (h:i<xs.length) (r:List α):(xs.set i r).getD i []=r:=by
 rw [Gs,if_pos ⟨rfl,h⟩]
end Go.Proofs.YtfolipnappekaaaGreat

namespace Go.Proofs.YtfolipnappekaaaGreat
open Go.RowKit
noncomputable abbrev Tg:MSpec:=jn [none] [(false, .Dm ZD)] false [none] [.row tI 2] (λx=>List.length x.1<=20) (λx=>((Px x.1,()),()))
noncomputable abbrev Fm:Spec:=Cg (.pair tL (.pair tL .unit)) tO false true (λx=>(0<x.1.length/\x.1.length<=20)/\Hz x.2.1.length x.1) (λx=>some (Ab x.1 x.2.1))
noncomputable abbrev Ie:Spec:=Cg (.pair tL (.pair tL .unit)) tL false false (λx=>x.1.length<=20/\Hz x.2.1.length x.1) (λx=>Ab x.1 x.2.1)
noncomputable abbrev eB:Spec:=Cg (.pair tI .unit) tL false true (λx=>0<=x.1/\x.1<=20) (λx=>upto x.1.toNat)
noncomputable abbrev Ku:Spec:=Cg (.pair tI .unit) tO false true (λx=>1<=x.1/\x.1<=20) (λx=>some (upto x.1.toNat))
abbrev sd:TypeId:=22
structure Qm (N L:Nat) (n:Int) (G T:Aw) (l:Int) (p:List Int):Prop where
 n1:1<=N
 n2:N<=20
 en:n=N
 el:l=L
 le:L<=N
 v:V N (N-L) L (G,T)
 pm:Pm N p
 fx:Fx L p
noncomputable abbrev kG:Spec:=Cg (.pair (.ptr l6) (.pair tI (.pair tL .unit))) .bool false true (λx=> ∃N L,Qm N L x.1.1 x.1.2.1 x.1.2.2.1 x.2.1 x.2.2.1) (λx=>Ee x.1.2.2.1 (x.1.1-x.2.1).toNat x.2.1.toNat x.2.2.1)
noncomputable abbrev Ab8:MSpec:= {ptr:=some (141,3),Eh:= [none,none],ins:= [(false, .Dm tI),(false, .Al tO sd true),(false, .Al tO sd true),(false, .Dm tI),(false, .Dm tO)],Ct:=false,Di:= [],outs:= [.Dm tI, .Al tO sd false, .Al tO sd false],fn:= λ_=>none,keeps:= [(1,1),(2,2)],Cn:= λx=>x.2.2.2.1.toNat}
noncomputable abbrev Re (m:Nat):MSpec:=fG Ab8 (λx=>(∃N L q,x.2.2.2.2.1=some q/\Qm N L x.1 x.2.1 x.2.2.1 x.2.2.2.1 q)/\(x.1-x.2.2.2.1).toNat<m)
 (λx=>((x.1,(Ds (x.1-x.2.2.2.1).toNat x.2.2.2.1.toNat (x.2.2.2.2.1.getD []) (x.2.1,x.2.2.1)).1,(Ds (x.1-x.2.2.2.1).toNat x.2.2.2.1.toNat (x.2.2.2.2.1.getD []) (x.2.1,x.2.2.1)).2,()),()))
theorem BY (n:Int) (P:List Int->Prop):(((0:Int)<=n/\n<(↑Be:Int)+(1:Int))/\n=n/\0=0/\(List.replicate n.toNat (Int.ofNat (nat_lit 0))).length=(List.replicate n.toNat (Int.ofNat (nat_lit 0))).length/\Bk (λ(v2:Int×List Int×PUnit) (k3:Int×List Int×PUnit->Prop)=>Br (decide (v2.1<(↑(List.replicate n.toNat (Int.ofNat (nat_lit 0))).length:Int))) (((0:Int)<=v2.1/\v2.1<(↑v2.2.1.length:Int))/\0+v2.1.toNat<v2.2.1.length/\0=0/\v2.2.1.length=(v2.2.1.set (0+v2.1.toNat) v2.1).length/\k3 (IntKind.i64.wrap (v2.1+(1:Int)),v2.2.1.set (0+v2.1.toNat) v2.1,())) (P (List.take v2.2.1.length (List.drop 0 v2.2.1)))) ((0:Int),List.replicate n.toNat (Int.ofNat (nat_lit 0)),PUnit.unit))=fnW Cd (look []) eB Tryz.f105 (n,()) P:=by kernel_rfl
theorem PC (row:List (Option (List Int))) (P:(List Int×Unit)×Unit->Prop):(0=0/\0=([]:List Int).length/\Bk (λ(v2:Int×List Int×PUnit) (k3:Int×List Int×PUnit->Prop)=>Br (decide (v2.1<(↑row.length:Int))) (∃(y4:Option (List Int)),idx row v2.1=some y4/\Br (!y4.isNone) (0=0/\v2.2.1.length=v2.2.1.length/\v2.2.1.length+(List.take 1 (List.drop 0 [v2.1])).length<=Be/\0=0/\(v2.2.1++List.take 1 (List.drop 0 [v2.1])).length=(v2.2.1++List.take 1 (List.drop 0 [v2.1])).length/\k3 (IntKind.i64.wrap (v2.1+(1:Int)),v2.2.1++List.take 1 (List.drop 0 [v2.1]),())) (0=0/\v2.2.1.length=v2.2.1.length/\k3 (IntKind.i64.wrap (v2.1+(1:Int)),v2.2.1,()))) (P ((List.take v2.2.1.length (List.drop 0 v2.2.1),()),()))) ((0:Int),[],PUnit.unit))=fnMW Yn (look []) Tg Tryz.f147 (row,()) P:=by kernel_rfl
theorem Aj4 (c:Int×List (List (Option (List Int)))×List (List (Option (List Int)))×Unit) (l:Int) (p:List Int) (P:Bool->Prop):(Bk (λ(v4:List Int×Int×PUnit) (k5:List Int×Int×PUnit->Prop)=>Br (decide (v4.2.1<c.1)) (∃(y6:List (Option (List Int))),idx c.2.2.1 v4.2.1=some y6/\ ∃(y7:Int),idx v4.1 v4.2.1=some y7/\ ∃(y8:Option (List Int)),idx y6 y7=some y8/\Br y8.isNone (P false) (∃(y9:List Int),Co.fn (y8.getD [],())=some y9/\ ∃(Iu:List Int),Ie.fn (v4.1,y9,())=some Iu/\k5 (Iu,IntKind.i64.wrap (v4.2.1+(1:Int)),()))) (P true)) (p,l,PUnit.unit))=fnW Yn (look [(56,Co),(121,Ie)]) kG Tryz.f99 (c,l,p,()) P:=by kernel_rfl
theorem Sound.loose {P:Program} {f:FuncId} {arg res:Ty} {pre:arg.den->Prop} {val:arg.den->res.den} (h:Sound P f (Go.Proofs.YtfolipnappekaaaGreat.Cg arg res false true pre val)):Sound P f (Go.Proofs.YtfolipnappekaaaGreat.Cg arg res false false pre val):=
 ⟨h.enter,λw S vs x y h1 h2 h3=>Calls.mono (h.calls w S vs x y h1 h2 h3) λe' w' hr=>by
  obtain ⟨v,g1,g2,g3⟩:=hr
  exact ⟨v,g1,g2,Bc.En (S:= λb=>S b\/(true=true/\b<w.heap.size)) g3 λk _ hk=>hk.elim .inl λhh=>absurd (show false=true from hh.1) (by simp)⟩⟩
theorem rh:Sound Tryz.prog 121 Ie:=Sound.loose Rh
theorem ri:Sound Tryz.prog 121 Fm:=Sound.toO Rh λx h=>⟨⟨h.1.2,h.2⟩,λe=>by
 have:=Kl x.1 x.2.1
 rw [e] at this
 have:=h.1.1
 simp only [List.length_nil] at*
 omega⟩
theorem zZ (n:Int) (h:0<=n/\n<=20):fnW Cd (look []) eB Tryz.f105 (n,()) (λ(z:List Int)=>z=upto n.toNat):=by
 refine Eq.mp (BY n _) ⟨⟨by omega,by show n<(4294967296:Int)+1;omega⟩,rfl,rfl,rfl,?_⟩
 refine Ag n.toNat (λv=>v.1) (λj v=>v.2.1.length=n.toNat/\v.2.1.take j=upto j) rfl ⟨by simp,by simp [upto]⟩ ?_
 rintro j ⟨i,ys,⟨⟩⟩ K hj hi ⟨h1,h2⟩ hK
 dsimp only at hi h1 h2⊢
 subst hi
 rw [List.length_replicate]
 simp only [Int.toNat_natCast,Nat.zero_add]
 refine Br.dec (λhl=>⟨⟨by omega,by omega⟩,by omega,trivial,by rw [List.length_set],?_⟩) λhl=>?_
 ·rw [Ah (by omega)]
  refine hK (by omega) _ rfl ⟨by rw [List.length_set];exact h1,?_⟩
  rw [List.take_add_one,List.take_set_of_le (by omega),h2,List.getElem?_set_self (by omega),fU]
  rfl
 ·have:j=ys.length:=by omega
  subst this
  rw [List.take_length] at h2
  rw [List.drop_zero,List.take_length,h2,h1]
theorem og:Sound Tryz.prog 105 eB:=
 Sound.Cg Bi Aj mixed Tryz.func105 (by kernel_rfl) (by kernel_rfl) λx h=>zZ x.1 h
theorem KX {n:Int} (h:1<=n/\n<=20):(0<=n/\n<=20)/\upto n.toNat≠ []:=⟨by omega,λe=>by
 have:=congrArg List.length e
 simp [upto] at this
 omega⟩
theorem oe:Sound Tryz.prog 105 Ku:=Sound.toO og λ_ h=>KX h
theorem zU {row:Row} {j:Nat} :(upto (j+1)).filter (λy=>(row.getD y.toNat none).isSome)=(upto j).filter (λy=>(row.getD y.toNat none).isSome)++if (row.getD j none).isSome=true then [(j:Int)] else []:=by
 rw [fU,List.filter_append]
 congr 1
 simp only [List.filter_cons,List.filter_nil,Int.toNat_natCast]
theorem NF (row:List (Option (List Int))) (h:List.length row<=20):fnMW Yn (look []) Tg Tryz.f147 (row,()) (λ(z:(List Int×Unit)×Unit)=>z=((Px row,()),())):=by
 refine Eq.mp (PC row _) ⟨rfl,rfl,?_⟩
 refine Ag row.length (λv=>v.1) (λj v=>v.2.1=(upto j).filter (λy=>(row.getD y.toNat none).isSome)) rfl rfl ?_
 rintro j ⟨i,ys,⟨⟩⟩ K hj hi h1 hK
 dsimp only at hi h1⊢
 subst hi
 refine Br.dec (λhl=>?_) λhl=>?_
 ·have hl:j<row.length:=by omega
  have hlen:ys.length<=j:=by rw [h1];refine Nat.le_trans (List.length_filter_le _ _) (by simp [upto])
  have hg:row.getD j none=row[j]:=by rw [List.getD_eq_getElem?_getD,List.getElem?_eq_getElem hl];rfl
  refine ⟨_,Aq hl,Br.of (λhb=>⟨rfl,rfl,?_,rfl,rfl,?_⟩) λhb=>⟨rfl,rfl,?_⟩⟩
  ·show ys.length+1<=4294967296
   omega
  ·rw [Ah (by omega)]
   refine hK hl _ rfl ?_
   show ys++ [(j:Int)]=_
   rw [zU,hg,h1,if_pos (by cases e:row[j] with
    |none=>rw [e] at hb;simp at hb
    |some t=>rfl)]
  ·rw [Ah (by omega)]
   refine hK hl _ rfl ?_
   show ys=_
   rw [zU,hg,h1,if_neg (by cases e:row[j] with
    |none=>simp
    |some t=>rw [e] at hb;simp at hb),List.append_nil]
 ·have:j=row.length:=by omega
  subst this
  rw [List.drop_zero,List.take_length,h1]
  rfl
theorem tf:Ay Tryz.prog 147 Tg:=
 Ay.jn rM Aj mixed Tryz.func147 (by kernel_rfl) (by kernel_rfl) λx h=>NF x.1 h
theorem px {n:Nat} {s:Aw×Aw} : ∀(k l:Nat),fX n k l s-> ∀i,l<=i->i<l+k->WY n i (s.1.getD i []) (s.2.getD i []) (λq=>Ee s.2 (l+k-i-1) (i+1) q=true)
 |0,_,_,i,h1,h2=>by omega
 |k+1,l,hc,i,h1,h2=>by
  obtain ⟨c1,c2,_⟩:=hc
  by_cases e:i=l
  ·subst e
   rw [show i+(k+1)-i-1=k by omega]
   exact c2
  ·have:=px k (l+1) c1 i (by omega) (by omega)
   rwa [show l+1+k-i-1=l+(k+1)-i-1 by omega] at this
theorem Aa0 {α:Type} {xs:List (List α)} {i:Nat} (h:i<xs.length):xs.getD i []=xs[i]:=by
 rw [List.getD_eq_getElem?_getD,List.getElem?_eq_getElem h];rfl
theorem yY {α:Type} {xs:List (Option α)} {i:Nat} (h:i<xs.length):xs.getD i none=xs[i]:=by
 rw [List.getD_eq_getElem?_getD,List.getElem?_eq_getElem h];rfl
theorem Pm.row {n:Nat} {p:List Int} (h:Pm n p):Hz n p:=by
 have:=h.2.row
 rwa [h.1] at this
theorem Aig (c:Int×List (List (Option (List Int)))×List (List (Option (List Int)))×Unit) (l:Int) (p:List Int) (h: ∃N L,Qm N L c.1 c.2.1 c.2.2.1 l p):
  fnW Yn (look [(56,Co),(121,Ie)]) kG Tryz.f99 (c,l,p,()) (λ(z:Bool)=>z=Ee c.2.2.1 (c.1-l).toNat l.toNat p):=by
 obtain ⟨n,G,T,⟨⟩⟩:=c
 obtain ⟨N,L,h⟩:=h
 obtain ⟨n1,n2,en,el,hle,v,pm,fx⟩:=h
 dsimp only at en el v⊢
 subst en el
 refine Eq.mp (Aj4 ((N:Int),G,T,()) (L:Int) p _) ?_
 obtain ⟨v1,v2,v3,v4⟩:=v
 dsimp only at v1 v2
 refine ⟨λv=> ∃i:Nat,L<=i/\i<=N/\v.2.1=i/\Pm N v.1/\Fx i v.1/\Ee T (N-i) i v.1=Ee T (N-L) L p,λv=>N-v.2.1.toNat,⟨L,Nat.le_refl _,hle,rfl,pm,fx,rfl⟩,?_⟩
 rintro ⟨p',i',⟨⟩⟩ ⟨i,h1,h2,h3,h4,h5,h6⟩
 dsimp only at h3 h4 h5 h6⊢
 subst h3
 rw [show (((N:Int)-(L:Int)).toNat)=N-L by omega,show ((L:Int)).toNat=L by omega,<-h6]
 refine Br.dec (λhl=>?_) λhl=>?_
 ·have hl:i<N:=by omega
  have Gj:=px (N-L) L v3 i h1 (by omega)
  obtain ⟨a1,a2⟩:=h4.Vu hl
  have hT:i<T.length:=by omega
  have hlen:T[i].length=N:=by have:=Gj.rl;dsimp only at this;rwa [Aa0 hT] at this
  refine ⟨_,Aq hT,_,Aq (by rw [h4.1];exact hl),?_⟩
  have e1:p'[i]'(by rw [h4.1];exact hl)=(ap p' i:Int):=by rw [<-a1,Hx]
  rw [e1]
  refine ⟨_,Aq (by omega),?_⟩
  have e2:N-i=(N-i-1)+1:=by omega
  have e3:(T.getD i []).getD (Ja p' (i:Int)).toNat none=T[i][ap p' i]'(by omega):=by
   rw [Aa0 hT];exact yY (by show ap p' i<_;omega)
  rw [e2]
  simp only [Ee,e3]
  refine Br.of (λhb=>?_) λhb=>?_
  ·cases e:T[i][ap p' i]'(by omega) with
   |none=>rfl
   |some t=>rw [e] at hb;simp at hb
  ·cases e:T[i][ap p' i]'(by omega) with
   |none=>rw [e] at hb;simp at hb
   |some t=>
    have ht:(T.getD i []).getD (ap p' i) none=some t:=by rw [<-e];exact e3
    obtain ⟨t1,t2,t3,t4⟩:=Gj.rt _ _ ht
    simp only [Option.getD_some]
    refine ⟨_,if_pos ⟨by show t.length<=20;rw [t1.1];exact n2,t1.2.row⟩,_,if_pos ⟨by show p'.length<=20;rw [h4.1];exact n2,by show Hz (Ai t).length p';rw [jZ,t1.1];exact h4.row⟩,⟨i+1,by omega,by omega,Ah (by omega),h4.comp t1.inv,Fx.div h4 t1 h5 t2 hl t3,?_⟩,?_⟩
    ·rw [show N-(i+1)=N-i-1 by omega]
    ·show N-(IntKind.i64.wrap ((i:Int)+1)).toNat<N-((i:Int)).toNat
     rw [Ah (by omega)]
     omega
 ·rw [show N-i=0 by omega]
  rfl
theorem vg:Sound Tryz.prog 99 kG:=
 Sound.Cg rM (Ae Ri (Ae rh Aj)) mixed Tryz.func99 (by kernel_rfl) (by kernel_rfl) λx h=>Aig x.1 x.2.1 x.2.2.1 h
end Go.Proofs.YtfolipnappekaaaGreat

namespace Go.Proofs.YtfolipnappekaaaGreat
open Go.RowKit
abbrev xG:Type:=Nat×Nat×Int×List (List (Option (List Int)))×Nat×List (List (Option (List Int)))×Nat×List Int×Int×PUnit
abbrev VD:Type:=Nat×Int×List (List (Option (List Int)))×Nat×List (List (Option (List Int)))×Nat×List Int×Int×PUnit
abbrev VE:Type:=Nat×List (List (Option (List Int)))×Nat×List (List (Option (List Int)))×Nat×List Int×Int×PUnit
abbrev Gw (G:List (List (Option (List Int)))) (l:Int) (p:Option (List Int)) (T:List (List (Option (List Int)))) (y7:Bool) (n:Int):Prop:=0=0/\(G.getD (0+l.toNat) []).length=(G.getD (0+l.toNat) []).length/\(G.getD (0+l.toNat) []).length+(List.take 1 (List.drop 0 [p])).length<=Be/\((0:Int)<=l/\l<(↑G.length:Int))/\0=0/\(G.getD (0+l.toNat) []++List.take 1 (List.drop 0 [p])).length=(G.getD (0+l.toNat) []++List.take 1 (List.drop 0 [p])).length/\0+l.toNat=0+l.toNat/\ [(0,G.length),(0,G.length),(0,G.length),(0,T.length)]= [(0,G.length),(0,G.length),(0,G.length),(0,T.length)]/\(l,p,l,p,y7,l,l,0+l.toNat,p,List.take 1 (List.drop 0 [p]),0+l.toNat,G.set (0+l.toNat) (G.getD (0+l.toNat) []++List.take 1 (List.drop 0 [p])),min G.length (0+l.toNat),T,T.length,n,())=(l,p,l,p,y7,l,l,0+l.toNat,p,List.take 1 (List.drop 0 [p]),0+l.toNat,G.set (0+l.toNat) (G.getD (0+l.toNat) []++List.take 1 (List.drop 0 [p])),min G.length (0+l.toNat),T,T.length,n,PUnit.unit)
theorem Aiz {m:Nat} (n:Int) (G T:List (List (Option (List Int)))) (l:Int) (p:Option (List Int)) (P:(Int×List (List (Option (List Int)))×List (List (Option (List Int)))×Unit)×Unit->Prop):(∃(y7:Bool),kG.fn ((n,List.take G.length (List.drop 0 G),List.take T.length (List.drop 0 T),()),l,p.getD [],())=some y7/\Br y7 ((0=0/\G.length=G.length)/\(0=0/\T.length=T.length)/\(Re (m+1)).Cn (n,G,T,l,p,())<=G.length/\(Re (m+1)).Cn (n,G,T,l,p,())<=T.length/\P ((n,G,T,()),())) (((0:Int)<=l/\l<(↑G.length:Int))/\0=0/\(G.getD (0+l.toNat) []).length=(G.getD (0+l.toNat) []).length/\(G.getD (0+l.toNat) []).length+(List.take 1 (List.drop 0 [p])).length<=Be/\((0:Int)<=l/\l<(↑G.length:Int))/\0=0/\(G.getD (0+l.toNat) []++List.take 1 (List.drop 0 [p])).length=(G.getD (0+l.toNat) []++List.take 1 (List.drop 0 [p])).length/\0+l.toNat=0+l.toNat/\(((0:Int)<=l/\l<(↑T.length:Int))/\ ∃(y8:(List Int×PUnit)×PUnit),Tg.fn (T.getD (0+l.toNat) [],())=some y8/\0=0/\(List.take y8.1.1.length (List.drop 0 y8.1.1)).length=(List.take y8.1.1.length (List.drop 0 y8.1.1)).length/\0=0/\G.length=(G.set (0+l.toNat) (G.getD (0+l.toNat) []++List.take 1 (List.drop 0 [p]))).length/\0=0/\T.length=T.length/\Bk (λ(v9:VE) (k10:VE->Prop)=>Br (decide ((↑v9.2.2.2.2.2.1.length:Int)>(0:Int))) (((0:Int)<=l/\l<(↑v9.2.1.length:Int))/\0=0/\(List.take v9.2.2.2.2.2.1.length (List.drop 0 v9.2.2.2.2.2.1)).length=(List.take v9.2.2.2.2.2.1.length (List.drop 0 v9.2.2.2.2.2.1)).length/\0=0/\v9.2.1.length=v9.2.1.length/\0=0/\v9.2.2.2.1.length=v9.2.2.2.1.length/\Bk (λ(v11:xG) (k12:xG->Prop)=>Br (decide (v11.2.2.1<(↑(v9.2.1.getD (0+l.toNat) []).length:Int))) (((0:Int)<=v11.2.2.1/\v11.2.2.1<(↑(v11.2.2.2.1.getD v11.2.1 []).length:Int))/\((0:Int)<=(0:Int)/\(0:Int)<(↑v11.2.2.2.2.2.2.2.1.length:Int))/\ ∃(Iv:Int),v11.2.2.2.2.2.2.2.1[0+Int.toNat (0:Int)]?=some Iv/\ ∃(Ga:Int),idx (((v11.2.2.2.1.getD v11.2.1 []).getD v11.2.2.1.toNat (none:Option (List Int))).getD []) Iv=some Ga/\((0:Int)<=Ga/\Ga<(↑(v11.2.2.2.2.2.1.getD v11.1 []).length:Int))/\Br ((v11.2.2.2.2.2.1.getD v11.1 []).getD Ga.toNat (none:Option (List Int))).isNone (((0:Int)<=(0:Int)/\(0:Int)<(↑v11.2.2.2.2.2.2.2.1.length:Int))/\ ∃(Lu:Int),v11.2.2.2.2.2.2.2.1[0+Int.toNat (0:Int)]?=some Lu/\((0:Int)<=Lu/\Lu<(↑(v11.2.2.2.2.2.1.getD v11.1 []).length:Int))/\ ∃(Ru:Option (List Int)),Fm.fn (((v11.2.2.2.2.2.1.getD v11.1 []).getD Lu.toNat (none:Option (List Int))).getD [],((v11.2.2.2.1.getD v11.2.1 []).getD v11.2.2.1.toNat (none:Option (List Int))).getD [],())=some Ru/\((0:Int)<=Ga/\Ga<(↑(v11.2.2.2.2.2.1.getD v11.1 []).length:Int))/\0=0/\v11.2.2.2.2.2.2.2.1.length=v11.2.2.2.2.2.2.2.1.length/\v11.2.2.2.2.2.2.2.1.length+(List.take 1 (List.drop 0 [Ga])).length<=Be/\0=0/\(List.take (v11.2.2.2.2.2.2.2.1++List.take 1 (List.drop 0 [Ga])).length (List.drop 0 (v11.2.2.2.2.2.2.2.1++List.take 1 (List.drop 0 [Ga])))).length=(List.take (v11.2.2.2.2.2.2.2.1++List.take 1 (List.drop 0 [Ga])).length (List.drop 0 (v11.2.2.2.2.2.2.2.1++List.take 1 (List.drop 0 [Ga])))).length/\0=0/\v11.2.2.2.1.length=v11.2.2.2.1.length/\0=0/\v11.2.2.2.2.2.1.length=(v11.2.2.2.2.2.1.set v11.1 ((v11.2.2.2.2.2.1.getD v11.1 []).set Ga.toNat Ru)).length/\k12 (v11.1,v11.2.1,IntKind.i64.wrap (v11.2.2.1+(1:Int)),v11.2.2.2.1,v11.2.2.2.2.1,v11.2.2.2.2.2.1.set v11.1 ((v11.2.2.2.2.2.1.getD v11.1 []).set Ga.toNat Ru),v11.2.2.2.2.2.2.1,List.take (v11.2.2.2.2.2.2.2.1++List.take 1 (List.drop 0 [Ga])).length (List.drop 0 (v11.2.2.2.2.2.2.2.1++List.take 1 (List.drop 0 [Ga]))),v11.2.2.2.2.2.2.2.2.1,())) (0=0/\(List.take v11.2.2.2.2.2.2.2.1.length (List.drop 0 v11.2.2.2.2.2.2.2.1)).length=(List.take v11.2.2.2.2.2.2.2.1.length (List.drop 0 v11.2.2.2.2.2.2.2.1)).length/\0=0/\v11.2.2.2.1.length=v11.2.2.2.1.length/\0=0/\v11.2.2.2.2.2.1.length=v11.2.2.2.2.2.1.length/\k12 (v11.1,v11.2.1,IntKind.i64.wrap (v11.2.2.1+(1:Int)),v11.2.2.2.1,v11.2.2.2.2.1,v11.2.2.2.2.2.1,v11.2.2.2.2.2.2.1,List.take v11.2.2.2.2.2.2.2.1.length (List.drop 0 v11.2.2.2.2.2.2.2.1),v11.2.2.2.2.2.2.2.2.1,()))) (((0:Int)<=(1:Int)/\(1:Int)<=(↑v11.2.2.2.2.2.2.2.1.length:Int)/\(↑v11.2.2.2.2.2.2.2.1.length:Int)<=(↑v11.2.2.2.2.2.2.2.1.length:Int))/\0=0/\(List.take ((↑v11.2.2.2.2.2.2.2.1.length:Int).toNat-Int.toNat (1:Int)) (List.drop (0+Int.toNat (1:Int)) v11.2.2.2.2.2.2.2.1)).length=(List.take ((↑v11.2.2.2.2.2.2.2.1.length:Int).toNat-Int.toNat (1:Int)) (List.drop (0+Int.toNat (1:Int)) v11.2.2.2.2.2.2.2.1)).length/\0=0/\v11.2.2.2.1.length=v11.2.2.2.1.length/\0=0/\v11.2.2.2.2.2.1.length=v11.2.2.2.2.2.1.length/\k10 (v11.1,v11.2.2.2.1,v11.2.2.2.2.1,v11.2.2.2.2.2.1,v11.2.2.2.2.2.2.1,List.take ((↑v11.2.2.2.2.2.2.2.1.length:Int).toNat-Int.toNat (1:Int)) (List.drop (0+Int.toNat (1:Int)) v11.2.2.2.2.2.2.2.1),v11.2.2.2.2.2.2.2.2.1,()))) (v9.1,0+l.toNat,(0:Int),v9.2.1,v9.2.2.1,v9.2.2.2.1,v9.2.2.2.2.1,List.take v9.2.2.2.2.2.1.length (List.drop 0 v9.2.2.2.2.2.1),v9.2.2.2.2.2.2.1,PUnit.unit)) (∃(ir:(List Int×PUnit)×PUnit),Tg.fn (v9.2.2.2.1.getD v9.1 [],())=some ir/\0=0/\ir.1.1.length=ir.1.1.length/\0=0/\v9.2.1.length=v9.2.1.length/\0=0/\v9.2.2.2.1.length=v9.2.2.2.1.length/\Bk (λ(Jq:VD) (k13:VD->Prop)=>Br (decide (Jq.2.1<(↑ir.1.1.length:Int))) (((0:Int)<=Jq.2.1/\Jq.2.1<(↑Jq.2.2.2.2.2.2.1.length:Int))/\ ∃(Ga:Int),Jq.2.2.2.2.2.2.1[0+Jq.2.1.toNat]?=some Ga/\((0:Int)<=l/\l<(↑Jq.2.2.1.length:Int))/\0=0/\Jq.2.2.2.2.2.2.1.length=Jq.2.2.2.2.2.2.1.length/\0=0/\Jq.2.2.1.length=Jq.2.2.1.length/\0=0/\Jq.2.2.2.2.1.length=Jq.2.2.2.2.1.length/\Bk (λ(Mg:xG) (k16:xG->Prop)=>Br (decide (Mg.2.2.1<(↑(Jq.2.2.1.getD (0+l.toNat) []).length:Int))) (((0:Int)<=Mg.2.2.1/\Mg.2.2.1<(↑(Mg.2.2.2.1.getD Mg.2.1 []).length:Int))/\((0:Int)<=Ga/\Ga<(↑(Mg.2.2.2.2.2.1.getD Mg.1 []).length:Int))/\ ∃(Vk:Option (List Int)),Fm.fn (((Mg.2.2.2.2.2.1.getD Mg.1 []).getD Ga.toNat (none:Option (List Int))).getD [],((Mg.2.2.2.1.getD Mg.2.1 []).getD Mg.2.2.1.toNat (none:Option (List Int))).getD [],())=some Vk/\ ∃(Ry:Int),idx (((Mg.2.2.2.1.getD Mg.2.1 []).getD Mg.2.2.1.toNat (none:Option (List Int))).getD []) Ga=some Ry/\((0:Int)<=Ry/\Ry<(↑(Mg.2.2.2.2.2.1.getD Mg.1 []).length:Int))/\ ∃(Nb:List Int),Co.fn (((Mg.2.2.2.2.2.1.getD Mg.1 []).getD Ry.toNat (none:Option (List Int))).getD [],())=some Nb/\ ∃(Jx:Option (List Int)),Fm.fn (Vk.getD [],Nb,())=some Jx/\0=0/\Mg.2.2.2.1.length=Mg.2.2.2.1.length/\0=0/\Mg.2.2.2.2.2.1.length=Mg.2.2.2.2.2.1.length/\ ∃(Rz:(Int×List (List (Option (List Int)))×List (List (Option (List Int)))×PUnit)×PUnit),(Re m).fn (Mg.2.2.2.2.2.2.2.2.1,Mg.2.2.2.1,Mg.2.2.2.2.2.1,IntKind.i64.wrap (l+(1:Int)),Jx,())=some Rz/\(Mg.1<(Re m).Cn (Mg.2.2.2.2.2.2.2.2.1,Mg.2.2.2.1,Mg.2.2.2.2.2.1,IntKind.i64.wrap (l+(1:Int)),Jx,())/\Mg.1<(List.length Rz.1.2.2.1))/\(Mg.2.1<(Re m).Cn (Mg.2.2.2.2.2.2.2.2.1,Mg.2.2.2.1,Mg.2.2.2.2.2.1,IntKind.i64.wrap (l+(1:Int)),Jx,())/\Mg.2.1<(List.length Rz.1.2.1))/\(Mg.1<(Re m).Cn (Mg.2.2.2.2.2.2.2.2.1,Mg.2.2.2.1,Mg.2.2.2.2.2.1,IntKind.i64.wrap (l+(1:Int)),Jx,())/\Mg.1<(List.length Rz.1.2.2.1))/\(Mg.1<(Re m).Cn (Mg.2.2.2.2.2.2.2.2.1,Mg.2.2.2.1,Mg.2.2.2.2.2.1,IntKind.i64.wrap (l+(1:Int)),Jx,())/\Mg.1<(List.length Rz.1.2.2.1))/\0=0/\Mg.2.2.2.2.2.2.2.1.length=Mg.2.2.2.2.2.2.2.1.length/\0=0/\Rz.1.2.1.length=Rz.1.2.1.length/\0=0/\Rz.1.2.2.1.length=Rz.1.2.2.1.length/\k16 (Mg.1,Mg.2.1,IntKind.i64.wrap (Mg.2.2.1+(1:Int)),Rz.1.2.1,min Mg.2.2.2.2.1 ((Re m).Cn (Mg.2.2.2.2.2.2.2.2.1,Mg.2.2.2.1,Mg.2.2.2.2.2.1,IntKind.i64.wrap (l+(1:Int)),Jx,())),Rz.1.2.2.1,min Mg.2.2.2.2.2.2.1 ((Re m).Cn (Mg.2.2.2.2.2.2.2.2.1,Mg.2.2.2.1,Mg.2.2.2.2.2.1,IntKind.i64.wrap (l+(1:Int)),Jx,())),Mg.2.2.2.2.2.2.2.1,Rz.1.1,())) (0=0/\Mg.2.2.2.2.2.2.2.1.length=Mg.2.2.2.2.2.2.2.1.length/\0=0/\Mg.2.2.2.1.length=Mg.2.2.2.1.length/\0=0/\Mg.2.2.2.2.2.1.length=Mg.2.2.2.2.2.1.length/\k13 (Mg.1,IntKind.i64.wrap (Jq.2.1+(1:Int)),Mg.2.2.2.1,Mg.2.2.2.2.1,Mg.2.2.2.2.2.1,Mg.2.2.2.2.2.2.1,Mg.2.2.2.2.2.2.2.1,Mg.2.2.2.2.2.2.2.2.1,()))) (Jq.1,0+l.toNat,(0:Int),Jq.2.2.1,Jq.2.2.2.1,Jq.2.2.2.2.1,Jq.2.2.2.2.2.1,Jq.2.2.2.2.2.2.1,Jq.2.2.2.2.2.2.2.1,PUnit.unit)) ((0=0/\Jq.2.2.1.length=Jq.2.2.1.length)/\(0=0/\Jq.2.2.2.2.1.length=Jq.2.2.2.2.1.length)/\(Re (m+1)).Cn (n,G,T,l,p,())<=Jq.2.2.2.1/\(Re (m+1)).Cn (n,G,T,l,p,())<=Jq.2.2.2.2.2.1/\P ((Jq.2.2.2.2.2.2.2.1,Jq.2.2.1,Jq.2.2.2.2.1,()),()))) (v9.1,(0:Int),v9.2.1,v9.2.2.1,v9.2.2.2.1,v9.2.2.2.2.1,ir.1.1,v9.2.2.2.2.2.2.1,PUnit.unit))) (0+l.toNat,G.set (0+l.toNat) (G.getD (0+l.toNat) []++List.take 1 (List.drop 0 [p])),min G.length (0+l.toNat),T,T.length,List.take y8.1.1.length (List.drop 0 y8.1.1),n,PUnit.unit))/\(((((0:Int)<=l/\l<(↑G.length:Int))/\((Gw G l p T y7 n))/\(Gw G l p T y7 n))/\((0:Int)<=l/\l<(↑G.length:Int))/\(Gw G l p T y7 n))/\((0:Int)<=l/\l<(↑G.length:Int))/\(Gw G l p T y7 n))/\(((((0:Int)<=l/\l<(↑G.length:Int))/\((Gw G l p T y7 n))/\(Gw G l p T y7 n))/\((0:Int)<=l/\l<(↑G.length:Int))/\(Gw G l p T y7 n))/\(((0:Int)<=l/\l<(↑G.length:Int))/\(((Gw G l p T y7 n))/\(Gw G l p T y7 n))/\(((Gw G l p T y7 n))/\((Gw G l p T y7 n))/\(Gw G l p T y7 n))/\((Gw G l p T y7 n))/\((Gw G l p T y7 n))/\(Gw G l p T y7 n))/\(((0:Int)<=l/\l<(↑G.length:Int))/\(Gw G l p T y7 n))/\((0:Int)<=l/\l<(↑G.length:Int))/\((Gw G l p T y7 n))/\((Gw G l p T y7 n))/\(Gw G l p T y7 n))/\(((0:Int)<=l/\l<(↑G.length:Int))/\(Gw G l p T y7 n))/\(((0:Int)<=l/\l<(↑G.length:Int))/\(Gw G l p T y7 n))/\((0:Int)<=l/\l<(↑G.length:Int))/\((Gw G l p T y7 n))/\((Gw G l p T y7 n))/\(Gw G l p T y7 n)))=fnMW (VI [Mw+7]) (look [(99,kG),(147,Tg),(121,Fm),(56,Co),(130,Ql.m (Re m))]) (Re (m+1)) Tryz.f130 (n,G,T,l,p,()) P:=by kernel_rfl
theorem yp {k l:Nat} {p:List Int} {s:Aw×Aw} (h:Ee s.2 k l p=true):Ds k l p s=s:=by
 cases k with
 |zero=>rfl
 |succ k=>unfold Ds;rw [if_pos h]
theorem yo (k l:Nat) (p:List Int) (s:Aw×Aw):Ds (k+1) l p s=if Ee s.2 (k+1) l p=true then s else
   (cJ (Tx (s.1.getD l []++ [some p]) (s.2.getD l [])) (s.1.getD l []++ [some p])).foldl (λs q=>Ds k (l+1) q s)
    (s.1.set l (s.1.getD l []++ [some p]),s.2.set l (Tx (s.1.getD l []++ [some p]) (s.2.getD l []))):=rfl
theorem wo {n:Nat} {p:List Int} (h:Pm n p) {i:Nat} (hi:i<n):idx p (i:Int)=some (ap p i:Int):=by
 have jV:i<p.length:=by rw [h.1];exact hi
 rw [Aq jV,<-(h.Vu hi).1,Hx jV]
theorem DC {x:Int} {gs:List PO} {j:Nat} (hj:j<gs.length) (s:Row×List Int):Vn x (gs.take (j+1)) s=Vw x (Vn x (gs.take j) s) gs[j]:=by
 unfold Vn
 rw [List.take_add_one,List.getElem?_eq_getElem hj,Option.toList_some,List.foldl_append]
 rfl
theorem DD {gs:List PO} {f:Nat} {row:Row} :Vb gs f [] row=row:=by cases f<;>rfl
theorem Se {n:Nat} {p:List Int} (h:Pm n p):0<p.length/\p.length<=20:=⟨by rw [h.1];exact h.n1,by rw [h.1];exact h.n2⟩
theorem mb {n:Nat} {p q:List Int} (h:Pm n p) (k:Pm n q):Hz q.length p:=by rw [k.1];exact h.row
theorem Aib {m:Nat} (n:Int) (G T:List (List (Option (List Int)))) (l:Int) (p:Option (List Int)) (h:(∃N L q,p=some q/\Qm N L n G T l q)/\(n-l).toNat<m+1):
  fnMW (VI [Mw+7]) (look [(99,kG),(147,Tg),(121,Fm),(56,Co),(130,Ql.m (Re m))]) (Re (m+1)) Tryz.f130 (n,G,T,l,p,()) (λ(z:(Int×List (List (Option (List Int)))×List (List (Option (List Int)))×Unit)×Unit)=>z=((n,(Ds (n-l).toNat l.toNat (p.getD []) (G,T)).1,(Ds (n-l).toNat l.toNat (p.getD []) (G,T)).2,()),())):=by
 obtain ⟨⟨N,L,q,rfl,h⟩,hm⟩:=h
 have h':=h
 obtain ⟨n1,n2,en,el,hle,v,pm,fx⟩:=h
 subst en el
 have hk:((N:Int)-(L:Int)).toNat=N-L:=by omega
 rw [hk,Int.toNat_natCast]
 refine Eq.mp (Aiz (N:Int) G T (L:Int) (some q) _) ⟨_,if_pos ⟨N,L,?a⟩,?b⟩
 case a=>
  simp only [List.drop_zero,List.take_length,Option.getD_some]
  exact h'
 obtain ⟨v1,v2,v3,v4⟩:=v
 dsimp only at v1 v2
 have hw:IntKind.i64.wrap ((L:Int)+1)=((L+1:Nat):Int):=Ah (by omega)
 simp only [Gw]
 simp only [List.drop_zero,List.take_length,Option.getD_some,hk,Int.toNat_natCast,Nat.zero_add,eq_self,true_and,and_true,List.take_succ_cons,List.take_zero,List.length_cons,List.length_nil,List.length_set,hw]
 refine Br.of (λhh=>⟨by show Int.toNat (L:Int)<=G.length;omega,by show Int.toNat (L:Int)<=T.length;omega,?_⟩) λhh=>?_
 ·rw [yp (s:=(G,T)) hh]
 obtain ⟨k,hNk⟩: ∃k,N-L=k+1:=by
  cases e:N-L with
  |zero=>rw [e] at hh;simp [Ee] at hh
  |succ k=>exact ⟨k,rfl⟩
 have hLN:L<N:=by omega
 have hv:V N (k+1) L (G,T):=by rw [<-hNk];exact ⟨v1,v2,v3,v4⟩
 rw [hNk] at hh⊢
 have e1:(0:Int)<=(L:Int)/\(L:Int)<(G.length:Int):=by omega
 have e1':(0:Int)<=(L:Int)/\(L:Int)<(T.length:Int):=by omega
 have hgl:(G.getD L []).length<=400:=JJ n2 (by omega) hv
 have e2:(G.getD L []).length+1<=Be:=by show _<=4294967296;omega
 simp only [e1,e1',e2,and_self,true_and,and_true]
 generalize jU:G.getD L []++ [some q]=gs
 have Aqw:gs.length<=401:=by rw [<-jU,List.length_append,List.length_singleton];omega
 have hg:PG N L gs:=by rw [<-jU];exact hv.pg pm fx
 have hr0:Pp N L gs (T.getD L []):=by rw [<-jU];exact hv.Anv q
 obtain ⟨r1,r2,r3⟩:=zV hLN n2 hg hr0
 generalize hR:Tx gs (T.getD L [])=R at r1 r2 r3
 have o4:Ds (k+1) L q (G,T)=(cJ R gs).foldl (λs q=>Ds k (L+1) q s) (G.set L gs,T.set L R):=by
  rw [yo,if_neg (by rw [hh];simp)]
  dsimp only
  rw [jU,hR]
 rw [o4]
 have hTl:L<T.length:=by omega
 have hGl:L<G.length:=by omega
 have hG1:(G.set L gs).getD L []=gs:=Zz G L hGl gs
 have hT1: ∀row:Row,(T.set L row).getD L []=row:=Zz T L hTl
 refine ⟨_,if_pos (by show (T.getD L []).length<=20;rw [hr0.rl];exact n2),?_⟩
 dsimp only
 have hn0:(Px (T.getD L [])).length+Hj (T.getD L [])<=40:=by have:=wN (T.getD L []);have:=e8 (T.getD L []);have:=hr0.rl;omega
 have hq0:LD gs (Px (T.getD L [])) (T.getD L []):=⟨λy hy=>We.1 hy,λy hy=> .inl (We.2 ⟨y,rfl,hy⟩)⟩
 refine ⟨λv=> ∃(row:Row) (qu:List Int) (kg kt:Nat),v=(L,G.set L gs,kg,T.set L row,kt,qu,(N:Int),())/\L<=kg/\L<=kt/\qu.length+Hj row<=40/\Pp N L gs row/\LD gs qu row/\Vb gs (qu.length+Hj row) qu row=R,
  fun v=>v.2.2.2.2.2.1.length+Hj (v.2.2.2.1.getD v.1 []),⟨T.getD L [],Px (T.getD L []),min G.length L,T.length,?_,by omega,by omega,hn0,hr0,hq0,?_⟩,?_⟩
 ·rw [sX T L hTl]
 ·rw [<-yC hLN hg 100 _ _ (by omega) hr0 hq0];exact hR
 rintro v ⟨row,qu,kg,kt,rfl,hkg,WQ,hb,SD,hqi,RH⟩
 dsimp only
 simp only [hG1,hT1,List.length_set]
 refine Br.dec (λhl=>⟨e1.2,?_⟩) λhl=>?_
 ·cases qu with
  |nil=>simp at hl
  |cons x qu=>
  obtain ⟨p1,p2,xn,t,rfl,ht⟩:=GG hLN hg SD hqi
  have WW:xn<N:=by rw [<-SD.rl];exact jR ht
  refine Ag gs.length (λv=>v.2.2.1) (λj v=> ∃kg kt:Nat,v=(L,L,(j:Int),G.set L gs,kg,T.set L (Vn (xn:Int) (gs.take j) (row,qu)).1,kt,(xn:Int)::(Vn (xn:Int) (gs.take j) (row,qu)).2,(N:Int),())/\L<=kg/\L<=kt) rfl ⟨kg,kt,rfl,hkg,WQ⟩ ?_
  rintro j v K hj hi ⟨kg,kt,rfl,h1,h2⟩ hK
  dsimp only
  simp only [hG1,hT1,Int.toNat_natCast]
  refine Br.dec (λhl=>?_) λhl=>?_
  ·have hl:j<gs.length:=by omega
   obtain ⟨x1,x2⟩:=UG hLN hg (gs.take j) (q:=qu) (λo ho=>List.mem_of_mem_take ho) SD ht
   have Oq:=DC (x:=(xn:Int)) hl (row,qu)
   generalize Vn (xn:Int) (gs.take j) (row,qu)=s at x1 x2 Oq⊢
   obtain ⟨r,qq⟩:=s
   dsimp only at x1 x2⊢
   obtain ⟨g,lh,Oe,hgf⟩:=hg gs[j] (List.getElem_mem hl)
   have htx:r.getD xn none=some t:=x1.mono _ _ ht
   obtain ⟨t1,t2,t3,t4⟩:=x1.ok.rt _ _ htx
   have YB:r.length=N:=x1.ok.rl
   have hgj:gs.getD j none=some g:=by rw [yY hl];exact lh
   have hy:=Oe.lt WW
   have hga:=(Oe.Vu WW).1
   have XZ:qq.length+Hj r=qu.length+Hj row:=x1.phi
   simp only [List.length_cons] at hb
   simp only [hgj,Option.getD_some]
   refine ⟨⟨by omega,by omega⟩,⟨by omega,by simp only [List.length_cons];omega⟩,_,rfl,_,wo Oe WW,⟨by omega,by omega⟩,?_⟩
   rw [lh] at Oq
   unfold Vw at Oq
   dsimp only at Oq
   rw [Option.getD_some,hga,Int.toNat_natCast,Int.toNat_natCast,htx,Option.getD_some] at Oq
   rw [Int.toNat_natCast]
   refine Br.of (λhn=>?_) λhn=>?_
   ·have hn:r.getD (ap g xn) none=none:=by
     cases e:r.getD (ap g xn) none with
     |none=>rfl
     |some u=>rw [e] at hn;simp at hn
    rw [hn] at Oq
    refine ⟨⟨by omega,by simp only [List.length_cons];omega⟩,_,rfl,⟨by omega,by omega⟩,some (Ab t g),?_,⟨by omega,by omega⟩,?_,?_⟩
    ·rw [Int.toNat_natCast,htx,Option.getD_some]
     exact if_pos ⟨Se t1,mb t1 Oe⟩
    ·show qq.length+1+1<=4294967296
     omega
    ·rw [Ah (by omega)]
     refine hK hl _ rfl ⟨kg,kt,?_,h1,h2⟩
     rw [Oq,List.set_set]
     rfl
   ·have hn: ∃u,r.getD (ap g xn) none=some u:=by
     cases e:r.getD (ap g xn) none with
     |none=>rw [e] at hn;simp at hn
     |some u=>exact ⟨u,rfl⟩
    obtain ⟨u,hn⟩:=hn
    rw [hn] at Oq
    rw [Ah (by omega)]
    refine hK hl _ rfl ⟨kg,kt,?_,h1,h2⟩
    rw [Oq]
  ·have:j=gs.length:=by omega
   subst this
   rw [List.take_length]
   generalize hs:Vn (xn:Int) gs (row,qu)=s at p1 p2⊢
   obtain ⟨r,qq⟩:=s
   dsimp only at p1 p2⊢
   have XZ:qq.length+Hj r=qu.length+Hj row:=p1.phi
   simp only [List.length_cons] at hb RH
   refine ⟨⟨by omega,by simp only [List.length_cons];omega,Int.le_refl _⟩,⟨r,qq,kg,kt,?_,h1,h2,by omega,p1.ok,p2,?_⟩,?_⟩
   ·simp
   ·rw [show qu.length+1+Hj row=(qu.length+Hj row)+1 by omega] at RH
    simp only [Vb,hs] at RH
    rw [XZ]
    exact RH
   ·simp only [List.length_cons]
    have:(List.take (qq.length+1-Int.toNat 1) (List.drop (Int.toNat 1) ((xn:Int)::qq))).length=qq.length:=by simp
    rw [this]
    omega
 ·have:qu= []:=List.eq_nil_of_length_eq_zero (by omega)
  subst this
  rw [DD] at RH
  subst RH
  have hpr:=UE hLN hg SD r3
  have hvl:=hv.lower gs row
  have Aag: ∀qs:List (List Int),(∀q∈qs,q∈cJ row gs)->V N k (L+1) (qs.foldl (λs q=>Ds k (L+1) q s) (G.set L gs,T.set L row))/\Qo (L+1) (G.set L gs,T.set L row) (qs.foldl (λs q=>Ds k (L+1) q s) (G.set L gs,T.set L row)):=
   fun qs MF=>JF n1 n2 (by omega) qs _ (λq hq=>hpr q (MF q hq)) hvl
  refine ⟨_,if_pos (by show row.length<=20;rw [SD.rl];exact n2),?_⟩
  dsimp only
  have hol:=wN row
  have YB:=SD.rl
  refine Ag (Px row).length (λv=>v.2.1) (λi v=> ∃(s:Aw×Aw) (kg kt:Nat),v=(L,(i:Int),s.1,kg,s.2,kt,Px row,(N:Int),())/\L<=kg/\L<=kt/\s=(((Px row).take i).flatMap λy=>gs.map (Oj row y)).foldl (λs q=>Ds k (L+1) q s) (G.set L gs,T.set L row)) rfl ⟨_,kg,kt,rfl,hkg,WQ,rfl⟩ ?_
  rintro i v K hi jV ⟨s,kg,kt,rfl,h1,h2,hs⟩ hK
  dsimp only
  have Kz: ∀q∈((Px row).take i).flatMap (λy=>gs.map (Oj row y)),q∈cJ row gs:= λq hq=>by
   obtain ⟨y,hy,hq⟩:=List.mem_flatMap.1 hq
   exact List.mem_flatMap.2 ⟨y,List.mem_of_mem_take hy,hq⟩
  refine Br.dec (λhl=>?_) λhl=>?_
  ·have hl:i<(Px row).length:=by omega
   obtain ⟨f1,f2⟩:=Aag _ Kz
   rw [<-hs] at f1 f2
   have g1:s.1.getD L []=gs:=by rw [(f2.low L (by omega)).1];exact hG1
   have g2:s.1.length=N:=f1.1
   obtain ⟨yn,hyn,hyr⟩:=We.1 (List.getElem_mem hl)
   obtain ⟨t,ht⟩:=Option.ne_none_iff_exists'.1 hyr
   have hyN:yn<N:=by rw [<-YB];exact jR ht
   obtain ⟨t1,t2,t3,t4⟩:=SD.rt _ _ ht
   refine ⟨⟨by omega,by omega⟩,(yn:Int),by rw [Int.toNat_natCast,List.getElem?_eq_getElem hl,hyn],by omega,?_⟩
   rw [g1]
   refine Ag gs.length (λv=>v.2.2.1) (λj v=> ∃(s':Aw×Aw) (kg kt:Nat),v=(L,L,(j:Int),s'.1,kg,s'.2,kt,Px row,(N:Int),())/\L<=kg/\L<=kt/\s'=(((Px row).take i).flatMap (λy=>gs.map (Oj row y))++(gs.take j).map (Oj row (yn:Int))).foldl (λs q=>Ds k (L+1) q s) (G.set L gs,T.set L row)) rfl ⟨s,kg,kt,rfl,h1,h2,by simpa using hs⟩ ?_
   rintro j v K' hj wc ⟨s',kg,kt,rfl,h1,h2,zi⟩ XL
   dsimp only
   refine Br.dec (λGt=>?_) λGt=>?_
   ·have Gt:j<gs.length:=by omega
    have JX: ∀q∈((Px row).take i).flatMap (λy=>gs.map (Oj row y))++(gs.take j).map (Oj row (yn:Int)),q∈cJ row gs:= λq hq=>by
     rcases List.mem_append.1 hq with hq|hq
     ·exact Kz q hq
     ·obtain ⟨o,ho,rfl⟩:=List.mem_map.1 hq
      exact List.mem_flatMap.2 ⟨(yn:Int),We.2 ⟨yn,rfl,hyr⟩,List.mem_map.2 ⟨o,List.mem_of_mem_take ho,rfl⟩⟩
    obtain ⟨f1',f2'⟩:=Aag _ JX
    rw [<-zi] at f1' f2'
    obtain ⟨G',T'⟩:=s'
    dsimp only at f1' f2'⊢
    have g1':G'.getD L []=gs:=by have:=(f2'.low L (by omega)).1;dsimp only at this;rw [this];exact hG1
    have g3':T'.getD L []=row:=by have:=(f2'.low L (by omega)).2;dsimp only at this;rw [this];exact hT1 row
    have g4':G'.length=N:=f1'.1
    have g5':T'.length=N:=f1'.2.1
    obtain ⟨g,lh,Oe,hgf⟩:=hg gs[j] (List.getElem_mem Gt)
    have hgj:gs.getD j none=some g:=by rw [yY Gt];exact lh
    have yc:some g∈gs:=by rw [<-lh];exact List.getElem_mem Gt
    have hy:=Oe.lt hyN
    obtain ⟨t',um⟩:=Option.ne_none_iff_exists'.1 (r3 yn t g ht yc)
    obtain ⟨u1,u2,u3,u4⟩:=SD.rt _ _ um
    have Ahh:Oj row (yn:Int) gs[j]=Ab (Ab t g) (Ai t'):=by rw [lh];exact eE ht um
    have hqm:=hpr _ (List.mem_flatMap.2 ⟨(yn:Int),We.2 ⟨yn,rfl,hyr⟩,List.mem_map.2 ⟨gs[j],List.getElem_mem Gt,Ahh⟩⟩)
    simp only [g1',g3',Int.toNat_natCast,hgj,ht,Option.getD_some]
    have pX:L<Int.toNat ((L+1:Nat):Int):=by omega
    have RF:=vJ n1 n2 k (L+1) _ (G',T') (by omega) f1' hqm.1 hqm.2
    have Aon:((Ds k (L+1) (Ab (Ab t g) (Ai t')) (G',T')).1).length=N:=RF.v.1
    have Aoo:((Ds k (L+1) (Ab (Ab t g) (Ai t')) (G',T')).2).length=N:=RF.v.2.1
    have WO:((N:Int)-((L+1:Nat):Int)).toNat=k:=by omega
    refine ⟨⟨by omega,by omega⟩,⟨by omega,by omega⟩,some (Ab t g),if_pos ⟨Se t1,mb t1 Oe⟩,_,wo Oe hyN,⟨by omega,by omega⟩,Ai t',?_,some (Ab (Ab t g) (Ai t')),?_,_,if_pos ⟨⟨N,L+1,_,rfl,?pr⟩,?lt⟩,⟨pX,?k1⟩,⟨pX,?k2⟩,⟨pX,?k3⟩,⟨pX,?k4⟩,?go⟩
    case pr=>exact ⟨n1,n2,rfl,rfl,by omega,by rw [show N-(L+1)=k by omega];exact f1',hqm.1,hqm.2⟩
    case lt=>
     show ((N:Int)-((L+1:Nat):Int)).toNat<m
     omega
    case go=>
     dsimp only
     rw [Ah (by omega)]
     refine XL Gt _ rfl ⟨_,_,_,rfl,?_,?_,?_⟩
     ·show L<=min kg (Int.toNat ((L+1:Nat):Int));omega
     ·show L<=min kt (Int.toNat ((L+1:Nat):Int));omega
     ·rw [List.take_add_one,List.getElem?_eq_getElem Gt,Option.toList_some,List.map_append,<-List.append_assoc,List.foldl_append,<-zi]
      simp only [List.map_cons,List.map_nil,List.foldl_cons,List.foldl_nil,Ahh,WO,Int.toNat_natCast,Option.getD_some]
    case k1=>simp only [WO,Int.toNat_natCast,Option.getD_some];omega
    case k2=>simp only [WO,Int.toNat_natCast,Option.getD_some];omega
    case k3=>simp only [WO,Int.toNat_natCast,Option.getD_some];omega
    case k4=>simp only [WO,Int.toNat_natCast,Option.getD_some];omega
    ·rw [Int.toNat_natCast,um,Option.getD_some]
     exact if_pos ⟨by show t'.length<=20;rw [u1.1];exact n2,u1.2.row⟩
    ·exact if_pos ⟨Se (t1.comp Oe),mb (t1.comp Oe) u1.inv⟩
   ·have:j=gs.length:=by omega
    subst this
    rw [Ah (by omega)]
    refine hK hl _ rfl ⟨s',kg,kt,rfl,h1,h2,?_⟩
    rw [zi,List.take_length,List.take_add_one,List.getElem?_eq_getElem hl,Option.toList_some,List.flatMap_append,hyn]
    simp
  ·have:i=(Px row).length:=by omega
   subst this
   rw [List.take_length] at hs
   refine ⟨h1,h2,?_⟩
   rw [hs]
   rfl
theorem UU {m:Nat} (Adg:Ay Tryz.prog 130 (Re m)):Ay Tryz.prog 130 (Re (m+1)):=
 Ay.fG (ZG [Mw+7]) (Ae vg (Er tf (Ae ri (Ae Ri (Er Adg Aj))))) mixed Tryz.func130 (by kernel_rfl) (by kernel_rfl) λx h=>Aib x.1 x.2.1 x.2.2.1 x.2.2.2.1 x.2.2.2.2.1 h
theorem GZ:Ay Tryz.prog 130 (Re 0):=
 Ay.fG rM Aj mixed Tryz.func130 (by kernel_rfl) (by kernel_rfl) λ_ h=>absurd h.2 (Nat.not_lt_zero _)
theorem r9: ∀m,Ay Tryz.prog 130 (Re m)
 |0=>GZ
 |m+1=>UU (r9 m)
noncomputable abbrev xh:MSpec:=fG Ab8 (λx=> ∃N L q,x.2.2.2.2.1=some q/\Qm N L x.1 x.2.1 x.2.2.1 x.2.2.2.1 q)
 (λx=>((x.1,(Ds (x.1-x.2.2.2.1).toNat x.2.2.2.1.toNat (x.2.2.2.2.1.getD []) (x.2.1,x.2.2.1)).1,(Ds (x.1-x.2.2.2.1).toNat x.2.2.2.1.toNat (x.2.2.2.2.1.getD []) (x.2.1,x.2.2.1)).2,()),()))
theorem HB:Ay Tryz.prog 130 xh:=Ay.TS (λx=>(x.1-x.2.2.2.1).toNat) r9
end Go.Proofs.YtfolipnappekaaaGreat

namespace Go.Proofs.YtfolipnappekaaaGreat
open Go.RowKit
def Oa (n:Nat):Aw:=List.replicate n []
def Yf (n i:Nat):Row:=(List.replicate n none).set i (some (upto n))
def Tp (n:Nat):Aw:=(List.range n).map λi=>Yf n i
def Pa (n:Nat) (gens:List PO):Aw×Aw:=gens.foldl (λs o=>Ds n 0 (o.getD []) s) (Oa n,Tp n)
noncomputable abbrev ET:MSpec:= {Eh:= [none,none],ins:= [(false, .Dm tI),(false, .Dm ZD)],Ct:=false,Di:= [none,none,none],outs:= [.Dm tI, .Al tO sd false, .Al tO sd false],fn:= λ_=>none,rp:=some 141}
noncomputable abbrev eC:MSpec:=fG ET (λx=>(1<=x.1/\x.1<=20)/\List.length x.2.1<=4294967296/\ ∀o∈(x.2.1:List PO),∃g,o=some g/\Pm x.1.toNat g)
 (λx=>((x.1,(Pa x.1.toNat x.2.1).1,(Pa x.1.toNat x.2.1).2,()),()))
abbrev Wl:Type:=Int×List (List (Option (List Int)))×Int×List (List (Option (List Int)))×PUnit
theorem CF (n:Int) (gens:List (Option (List Int))) (P:(Int×List (List (Option (List Int)))×List (List (Option (List Int)))×Unit)×Unit->Prop):(((0:Int)<=n/\n<(↑Be:Int)+(1:Int))/\n=n/\0=0/\(List.replicate n.toNat ([]:List (Option (List Int)))).length=(List.replicate n.toNat ([]:List (Option (List Int)))).length/\0=0/\0=([]:List Int).length/\Bk (λ(v3:Wl) (k4:Wl->Prop)=>Br (decide (v3.1<n)) (((0:Int)<=n/\n<(↑Be:Int)+(1:Int))/\n=n/\ ∃(y5:Option (List Int)),Ku.fn (n,())=some y5/\((0:Int)<=v3.1/\v3.1<(↑(List.replicate n.toNat (none:Option (List Int))).length:Int))/\0+v3.1.toNat<(List.replicate n.toNat (none:Option (List Int))).length/\0=0/\(List.replicate n.toNat (none:Option (List Int))).length=((List.replicate n.toNat (none:Option (List Int))).set (0+v3.1.toNat) y5).length/\(0=0/\v3.2.2.2.1.length=v3.2.2.2.1.length)/\(0=0/\1= [(List.replicate n.toNat (none:Option (List Int))).set (0+v3.1.toNat) y5].length)/\0< [(List.replicate n.toNat (none:Option (List Int))).set (0+v3.1.toNat) y5].length/\v3.2.2.2.1.length+ [(List.replicate n.toNat (none:Option (List Int))).set (0+v3.1.toNat) y5].length<=Be/\0=0/\v3.2.1.length=v3.2.1.length/\0=0/\(v3.2.2.2.1++ [(List.replicate n.toNat (none:Option (List Int))).set (0+v3.1.toNat) y5]).length=(v3.2.2.2.1++ [(List.replicate n.toNat (none:Option (List Int))).set (0+v3.1.toNat) y5]).length/\k4 (IntKind.i64.wrap (v3.1+(1:Int)),v3.2.1,v3.2.2.1,v3.2.2.2.1++ [(List.replicate n.toNat (none:Option (List Int))).set (0+v3.1.toNat) y5],())) (0=0/\v3.2.1.length=v3.2.1.length/\0=0/\v3.2.2.2.1.length=v3.2.2.2.1.length/\Bk (λ(v5:Wl) (k6:Wl->Prop)=>Br (decide (v5.1<(↑gens.length:Int))) (∃(y7:Option (List Int)),idx gens v5.1=some y7/\0=0/\v5.2.1.length=v5.2.1.length/\0=0/\v5.2.2.2.1.length=v5.2.2.2.1.length/\ ∃(y8:(Int×List (List (Option (List Int)))×List (List (Option (List Int)))×PUnit)×PUnit),xh.fn (v5.2.2.1,v5.2.1,v5.2.2.2.1,(0:Int),y7,())=some y8/\0=0/\y8.1.2.1.length=y8.1.2.1.length/\0=0/\y8.1.2.2.1.length=y8.1.2.2.1.length/\k6 (IntKind.i64.wrap (v5.1+(1:Int)),y8.1.2.1,y8.1.1,y8.1.2.2.1,())) ((0=0/\v5.2.1.length=v5.2.1.length)/\(0=0/\v5.2.2.2.1.length=v5.2.2.2.1.length)/\P ((v5.2.2.1,v5.2.1,v5.2.2.2.1,()),()))) ((0:Int),v3.2.1,v3.2.2.1,v3.2.2.2.1,PUnit.unit))) ((0:Int),List.replicate n.toNat ([]:List (Option (List Int))),n,[],PUnit.unit))=fnMW Yn (look [(105,Ku),(130,xh)]) eC Tryz.f98 (n,gens,()) P:=by kernel_rfl
theorem To (n i:Nat):(Oa n).getD i []= []:=by
 unfold Oa
 rw [List.getD_eq_getElem?_getD,List.getElem?_replicate]
 split<;>rfl
theorem jf {n i:Nat} (h:i<n):(Tp n).getD i []=Yf n i:=by
 unfold Tp
 rw [List.getD_eq_getElem?_getD,List.getElem?_map,List.getElem?_range h]
 rfl
theorem kW {n i y:Nat} (h:i<n):(Yf n i).getD y none=if i=y then some (upto n) else none:=by
 unfold Yf
 rw [Gs,List.length_replicate]
 by_cases e:i=y
 ·rw [if_pos ⟨e,h⟩,if_pos e]
 ·rw [if_neg (λhh=>e hh.1),if_neg e,List.getD_eq_getElem?_getD,List.getElem?_replicate]
  split<;>rfl
theorem rG {n:Nat} (h1:1<=n) (h2:n<=20): ∀(k l:Nat),l+k=n->fX n k l (Oa n,Tp n)
 |0,l,hk=>To n l
 |k+1,l,hk=>by
  have hl:l<n:=by omega
  have hg: ∀(g:List Int) (j:Nat),some g∈(Oa n).getD j []->False:= λg j hg=>by rw [To] at hg;cases hg
  refine ⟨rG h1 h2 k (l+1) (by omega),⟨λo ho=>?_,?_,?_,λy t e0=>?_,λy t g _ Np=>(hg _ _ Np).elim,λy t g t' _ Np=>(hg _ _ Np).elim⟩,λg Np=>(hg _ _ Np).elim⟩
  ·have ho:o∈(Oa n).getD l []:=ho
   rw [To] at ho;cases ho
  ·show ((Tp n).getD l []).length=n
   rw [jf hl];simp [Yf]
  ·show ((Tp n).getD l []).getD l none=_
   rw [jf hl,kW hl,if_pos rfl]
  ·replace e0:((Tp n).getD l []).getD y none=some t:=e0
   rw [jf hl,kW hl] at e0
   by_cases hy:l=y
   ·rw [if_pos hy] at e0
    have e1:=Option.some.inj e0
    subst e1 hy
    exact ⟨Pm.id h1 h2,λi hi=>gw (by omega),gw hl, .id⟩
   ·rw [if_neg hy] at e0;cases e0
theorem BH (n:Nat): ∀(k l:Nat),GBf k l (Oa n,Tp n)
 |0,_=>trivial
 |k+1,l=>⟨BH n k (l+1),by show ((Oa n).getD l []).length<=_;rw [To];exact Nat.zero_le _⟩
theorem oT {n:Nat} (h1:1<=n) (h2:n<=20):V n n 0 (Oa n,Tp n):=⟨by simp [Oa],by simp [Tp],rG h1 h2 n 0 (by omega),BH n n 0⟩
def PmL (n:Nat) (gens:List PO):Prop:= ∀o∈gens,∃g,o=some g/\Pm n g
theorem ym {n:Nat} {gens:List PO} {j:Nat} (hj:j<gens.length):Pa n (gens.take (j+1))=Ds n 0 (gens[j].getD []) (Pa n (gens.take j)):=by
 unfold Pa
 rw [List.take_add_one,List.getElem?_eq_getElem hj,Option.toList_some,List.foldl_append]
 rfl
theorem lr {n:Nat} (h1:1<=n) (h2:n<=20): ∀(gens:List PO) (s:Aw×Aw),PmL n gens->V n n 0 s->V n n 0 (gens.foldl (λs o=>Ds n 0 (o.getD []) s) s)/\
  Qo 0 s (gens.foldl (λs o=>Ds n 0 (o.getD []) s) s)/\(∀g,some g∈gens->Gn n ((gens.foldl (λs o=>Ds n 0 (o.getD []) s) s).1.getD 0 []) g)/\ ∀o∈(gens.foldl (λs o=>Ds n 0 (o.getD []) s) s).1.getD 0 [],o∈s.1.getD 0 []\/o∈gens
 | [],s,_,hv=>⟨hv,Qo.refl _ _,(λ_ hg=>by cases hg),λ_ ho=> .inl ho⟩
 |o::gens,s,hg,hv=>by
  obtain ⟨g,rfl,Oe⟩:=hg o (by simp)
  have ha:=vJ h1 h2 n 0 g s (by omega) hv Oe (λi hi=>absurd hi (Nat.not_lt_zero _))
  obtain ⟨a1,a2,a3,a4⟩:=lr h1 h2 gens (Ds n 0 g s) (λo ho=>hg o (by simp [ho])) ha.v
  refine ⟨a1,ha.grow.trans a2 (Nat.le_refl _),λg' Np=>?_,λo ho=>?_⟩
  ·rcases List.mem_cons.1 Np with e|Np
   ·cases e;exact ha.Adh.mono λg hg=>a2.uc _ _ hg
   ·exact a3 g' Np
  ·rcases a4 o ho with h|h
   ·rcases ha.gens o h with h|h
    ·exact .inl h
    ·exact .inr (by simp [h])
   ·exact .inr (by simp [h])
theorem yl {n:Nat} (h1:1<=n) (h2:n<=20) {gens:List PO} (hg:PmL n gens):V n n 0 (Pa n gens):=(lr h1 h2 gens _ hg (oT h1 h2)).1
theorem iM {n:Nat} (h1:1<=n) (h2:n<=20) {gens:List PO} (hg:PmL n gens) {p:List Int} (hp:Pm n p):Ee (Pa n gens).2 n 0 p=true↔Gn n gens p:=by
 obtain ⟨a1,a2,a3,a4⟩:=lr h1 h2 gens _ hg (oT h1 h2)
 have hS:yi n λg=>some g∈gens:=⟨⟨h1,h2⟩,λg Np=>by obtain ⟨g',e,h⟩:=hg _ Np;cases e;exact h⟩
 have Kz: ∀g,some g∈(Pa n gens).1.getD 0 []->some g∈gens:= λg Np=>by
  rcases a4 _ Np with h|h
  ·have h:some g∈(Oa n).getD 0 []:=h
   rw [To] at h;cases h
  ·exact h
 have hS':yi n λg=>some g∈(Pa n gens).1.getD 0 []:=⟨⟨h1,h2⟩,λg Np=>hS.2 g (Kz g Np)⟩
 refine (Oo h1 h2 n 0 (Pa n gens) (by omega) a1.2.2.1 p hp λi hi=>absurd hi (Nat.not_lt_zero _)).trans ⟨λh=>h.mono Kz,λh=>h.trans hS' λg Np=>a3 g Np⟩
theorem AH (n:Int) (gens:List (Option (List Int))) (h:(1<=n/\n<=20)/\List.length gens<=4294967296/\ ∀o∈(gens:List PO),∃g,o=some g/\Pm n.toNat g):
  fnMW Yn (look [(105,Ku),(130,xh)]) eC Tryz.f98 (n,gens,()) (λ(z:(Int×List (List (Option (List Int)))×List (List (Option (List Int)))×Unit)×Unit)=>z=((n,(Pa n.toNat gens).1,(Pa n.toNat gens).2,()),())):=by
 obtain ⟨⟨h1,h2⟩,h3,hg⟩:=h
 obtain ⟨N,rfl⟩: ∃N:Nat,n=N:=⟨n.toNat,by omega⟩
 rw [Int.toNat_natCast] at hg⊢
 have h1:1<=N:=by omega
 have h2:N<=20:=by omega
 refine Eq.mp (CF (N:Int) gens _) ?_
 have hm:((0:Int)<=(N:Int)/\(N:Int)<(Be:Int)+1):=⟨by omega,by show (N:Int)<(4294967296:Int)+1;omega⟩
 simp only [hm,and_self,eq_self,true_and,Int.toNat_natCast,Nat.zero_add,List.length_nil,List.length_set,List.length_replicate,List.length_cons,Nat.lt_add_one,List.length_append]
 refine Ag N (λv=>v.1) (λj v=>v=((j:Int),Oa N,(N:Int),(List.range j).map (Yf N),())) rfl rfl ?_
 rintro j v K hj hi rfl hK
 dsimp only
 refine Br.dec (λhl=>?_) λhl=>?_
 ·refine ⟨_,if_pos ⟨by show (1:Int)<=N;omega,by show (N:Int)<=20;omega⟩,⟨by omega,by omega⟩,by rw [Int.toNat_natCast];omega,?_,?_⟩
  ·show _<=4294967296
   simp only [List.length_map,List.length_range]
   omega
  ·rw [Ah (by omega)]
   refine hK (by omega) _ rfl ?_
   rw [List.range_succ,List.map_append]
   rfl
 ·have:j=N:=by omega
  subst this
  refine Ag gens.length (λv=>v.1) (λi v=>v=((i:Int),(Pa j (gens.take i)).1,(j:Int),(Pa j (gens.take i)).2,())) rfl rfl ?_
  rintro i v K' jV Am4 rfl XL
  dsimp only
  refine Br.dec (λGt=>?_) λGt=>?_
  ·have Gt:i<gens.length:=by omega
   obtain ⟨g,lh,Oe⟩:=hg gens[i] (List.getElem_mem Gt)
   have hv:=yl h1 h2 (gens:=gens.take i) λo ho=>hg o (List.mem_of_mem_take ho)
   refine ⟨_,Aq Gt,_,if_pos ⟨j,0,g,lh,h1,h2,rfl,rfl,Nat.zero_le _,hv,Oe,λi hi=>absurd hi (Nat.not_lt_zero _)⟩,?_⟩
   rw [Ah (by omega)]
   refine XL Gt _ rfl ?_
   rw [ym Gt]
   simp only [Int.sub_zero,Int.toNat_natCast]
   rfl
  ·have:i=gens.length:=by omega
   subst this
   rw [List.take_length]
theorem ov:Ay Tryz.prog 98 eC:=
 Ay.fG rM (Ae oe (Er HB Aj)) mixed Tryz.func98 (by kernel_rfl) (by kernel_rfl) λx h=>AH x.1 x.2.1 h
end Go.Proofs.YtfolipnappekaaaGreat

namespace Go.Proofs.YtfolipnappekaaaGreat
open Go.RowKit
noncomputable abbrev zq:MSpec:= {Eh:= [none,none],ins:= [(false, .Dm tI),(false, .Dm cZ)],Ct:=false,Di:= [none,none,none],outs:= [.Dm tI, .Al tO sd false, .Al tO sd false],fn:= λ_=>none,rp:=some 141}
def Yr (n:Int) (g:List (List Int)):Aw×Aw:=Pa n.toNat (g.map some)
noncomputable abbrev Tf:MSpec:=fG zq (λx=>(1<=x.1/\x.1<=20)/\List.length x.2.1<=4294967296/\ ∀g∈(x.2.1:List (List Int)),Pm x.1.toNat g)
 (λx=>((x.1,(Yr x.1 x.2.1).1,(Yr x.1 x.2.1).2,()),()))
noncomputable def Jf (p:PP) (s:List Int):Bool:=(Bx p&&Dc p.1 s)&&Ee (Yr p.1 p.2.2.1).2 p.1.toNat 0 s
noncomputable abbrev Iy:Spec:=Cg (.pair Cp (.pair tL .unit)) .bool false true (λx=>Ck x.1/\short x.2.1) (λx=>Jf x.1 x.2.1)
theorem Cells.told {w:World} {S:Nat->Prop} {e:Ty} {cs:List Value} {xs:List e.den} (h:Cells w S (.slice e) cs xs): ∃o:Option (List e.den),Cells w S (.oslice e) cs o/\o.getD []=xs:=by
 simp only [Cells] at h
 obtain ⟨a,len,cap,rfl,h1,h2,h3⟩:=h
 cases a with
 |none=>
  rcases h3 with rfl|⟨g,o,h,_⟩
  ·refine ⟨none,?_,rfl⟩
   simp only [Cells]
   exact .inl ⟨trivial,cap,by rw [h1];rfl⟩
  ·cases h
 |some ad=>
  refine ⟨some xs,?_,rfl⟩
  simp only [Cells]
  exact .inr ⟨xs,ad,len,cap,rfl,rfl,h1,h2,h3.imp id λ⟨g,o,h,h4⟩=>⟨g,o,Option.some.inj h,h4⟩⟩
theorem CZ {α β:Type} (Q:Nat->α->β->Prop): ∀(xs:List α),(∀i x,xs[i]?=some x-> ∃y,Q i x y)-> ∃ys:List β,ys.length=xs.length/\ ∀i x y,xs[i]?=some x->ys[i]?=some y->Q i x y:=by
 intro xs h
 refine ⟨List.ofFn λi:Fin xs.length=>Classical.choose (h i xs[i] (List.getElem?_eq_getElem i.2)),by simp,λi x y h1 h2=>?_⟩
 obtain ⟨hi,rfl⟩:=List.getElem?_eq_some_iff.1 h1
 obtain ⟨jV,rfl⟩:=List.getElem?_eq_some_iff.1 h2
 rw [List.getElem_ofFn]
 exact Classical.choose_spec (h i xs[i] (List.getElem?_eq_getElem hi))
theorem Bc.Abf {w:World} {S:Nat->Prop} {e:Ty} {v:Value} {xs:List (List e.den)} (h:Bc w S (.slice (.slice e)) v xs): ∃os:List (Option (List e.den)),Bc w S (.slice (.oslice e)) v os/\os.map (·.getD [])=xs:=by
 obtain ⟨cs,hc,rfl⟩:=h
 simp only [Cells] at hc
 obtain ⟨a,len,cap,rfl,h1,h2,h3⟩:=hc
 rcases h3 with rfl|⟨g,o,rfl,hg,hS,h4⟩
 ·refine ⟨[],⟨_,?_,rfl⟩,rfl⟩
  simp only [Cells]
  exact ⟨a,len,cap,rfl,h1,h2, .inl trivial⟩
 ·obtain ⟨os,e1,e2⟩:=CZ (λi (x:List e.den) (y:Option (List e.den))=>y.getD []=x/\ ∃es:List Value,es.length=1/\(∀j u,es[j]?=some u->w.cell? ⟨g,o+i*1+j,none⟩=some u)/\Cells w S (.oslice e) es y) xs λi x hx=>by
   obtain ⟨es,k1,k2,k3⟩:=h4 i x hx
   obtain ⟨y,k4,k5⟩:=Cells.told (e:=e) (by simp only [Cells];exact k3)
   exact ⟨y,k5,es,k1,k2,k4⟩
  refine ⟨os,⟨_,?_,rfl⟩,?_⟩
  ·simp only [Cells]
   refine ⟨_,len,cap,rfl,by rw [h1,e1],h2, .inr ⟨g,o,rfl,hg,hS,λi y hy=>?_⟩⟩
   obtain ⟨hi,_⟩:=List.getElem?_eq_some_iff.1 hy
   obtain ⟨_,es,k1,k2,k3⟩:=e2 i _ y (List.getElem?_eq_getElem (by omega)) hy
   simp only [Cells] at k3
   exact ⟨es,k1,k2,k3⟩
  ·refine List.ext_getElem (by simp [e1]) λi g1 g2=>?_
   rw [List.getElem_map]
   exact (e2 i _ _ (List.getElem?_eq_getElem g2) (List.getElem?_eq_getElem (by omega))).1
theorem rn:Ay Tryz.prog 98 Tf:=by
 have h:=ov
 refine ⟨h.enter,λw S π us x r o g vs h1 hg h2 h3 hS h4 h5=>?_⟩
 obtain ⟨n,gens,⟨⟩⟩:=x
 match us,h2 with
 |u1::u2::us,h2=>
  obtain ⟨h6,⟨h7,h8⟩,h9⟩:=h2
  obtain ⟨os,lg,cV⟩:=Bc.Abf (e:=tI) h8
  have cV:os.map (·.getD [])=(gens:List (List Int)):=cV
  have a5:(1<=n/\n<=20)/\List.length gens<=4294967296/\ ∀g∈(gens:List (List Int)),Pm n.toNat g:=Classical.byContradiction λhn=>by
   have:Tf.fn (n,gens,())=none:=if_neg hn
   rw [this] at h5;cases h5
  have hos:os=gens.map some:=by
   rw [<-cV,List.map_map]
   refine (List.map_id os).symm.trans (List.map_congr_left λx hx=>?_)
   cases x with
   |some y=>rfl
   |none=>
    have:=a5.2.2 [] (by rw [<-cV];exact List.mem_map.2 ⟨none,hx,rfl⟩)
    have h1:=this.n1
    have h2:=this.1
    simp at h2
    omega
  have hv:Tf.fn (n,gens,())=some ((n,(Yr n gens).1,(Yr n gens).2,()),()):=if_pos a5
  rw [hv] at h5
  have h5:=Option.some.inj h5
  refine h.calls w S π (u1::u2::us) (n,os,()) r o g vs h1 hg ⟨h6,⟨h7,lg⟩,h9⟩ h3 hS h4 ?_
  refine (if_pos ⟨a5.1,by rw [hos,List.length_map];exact a5.2.1,λy hy=>?pp⟩).trans (congrArg some ?qq)
  case pp=>
   replace hy:y∈os:=hy
   rw [hos] at hy
   obtain ⟨g,hg,rfl⟩:=List.mem_map.1 hy
   exact ⟨g,rfl,a5.2.2 g hg⟩
  case qq=>subst hos;exact h5
theorem ar {p:PP} (hv:Valid p):(1<=p.1/\p.1<=20)/\List.length p.2.2.1<=4294967296/\ ∀g∈p.2.2.1,Pm p.1.toNat g:=
 ⟨hv.n,by have:=hv.so;omega,λg hg=>⟨by have:=hv.len g hg;omega,bR (hv.perm g hg)⟩⟩
theorem aS {n:Nat} {g:List (List Int)} (h: ∀x∈g,Pm n x):PmL n (g.map some):= λo ho=>by
 obtain ⟨x,hx,rfl⟩:=List.mem_map.1 ho
 exact ⟨x,rfl,h x hx⟩
theorem XE {p:PP} (hv:Valid p):V p.1.toNat p.1.toNat 0 (Yr p.1 p.2.2.1):=by
 have:=hv.n
 exact yl (by omega) (by omega) (aS (ar hv).2.2)
end Go.Proofs.YtfolipnappekaaaGreat

namespace Go.Proofs.YtfolipnappekaaaGreat
open Go.RowKit
theorem kK {g:List (List Int)} {x:List Int} :some x∈g.map some↔x∈g:=by simp
theorem FA {n:Nat} {g:List (List Int)} {x:List Int} (h:Gn n (g.map some) x) {l:Int} (hl:l∈Af g.length):Gn n (g.map some) (Ab x (An g l)):=by
 obtain ⟨k,hk,rfl|rfl⟩:=Ni (Kr hl)
 ·rw [Pe hk];exact .mul h (kK.2 (List.getElem_mem hk))
 ·rw [Pd hk];exact .inv h (kK.2 (List.getElem_mem hk))
theorem Pv {n k:Nat} (hk:k<n):(k:Int)+1∈Af n/\ -((k:Int)+1)∈Af n:=by
 unfold Af
 exact ⟨List.mem_flatMap.2 ⟨k,List.mem_range.2 hk,by simp⟩,List.mem_flatMap.2 ⟨k,List.mem_range.2 hk,by simp⟩⟩
theorem Dn.nodup {m:Nat} {L:List (List Int)} {Il:List Int} (h:Dn m L Il):L.Nodup:=
 List.pairwise_iff_getElem.2 λi j hi hj dN e=>by have:=h.inj hi hj e;omega
end Go.Proofs.YtfolipnappekaaaGreat

namespace Go.Proofs.YtfolipnappekaaaGreat
open Go.RowKit
theorem Fq {α:Type} {xs ys:List α} {i:Nat} {d:α} (h:i<xs.length):(xs++ys).getD i d=xs.getD i d:=by
 rw [List.getD_eq_getElem?_getD,List.getD_eq_getElem?_getD,List.getElem?_append_left h]
theorem fj {α:Type} {xs:List α} {x d:α} :(xs++ [x]).getD xs.length d=x:=by
 rw [List.getD_eq_getElem?_getD,List.getElem?_append_right (Nat.le_refl _),Nat.sub_self];rfl
theorem Tw {α:Type} {xs:List α} {i:Nat} {d:α} (h:i<xs.length):xs.getD i d=xs[i]:=by
 rw [List.getD_eq_getElem?_getD,List.getElem?_eq_getElem h];rfl
structure Lv (g:List (List Int)) (ls:List Int) (k:Nat) (L:List (List Int)) (D:List Int):Prop where
 len:D.length=L.length
 pos:0<L.length
 mono: ∀i j,i<=j->j<L.length->D.getD i 0<=D.getD j 0
 TQ:k<L.length-> ∀j,j<L.length->D.getD j 0<=D.getD k 0+1
 par: ∀j,0<j->j<L.length-> ∃i l,i<j/\l∈ls/\L.getD j []=Ab (L.getD i []) (An g l)/\D.getD j 0=D.getD i 0+1
 zero:D.getD 0 0=0
theorem Lv.add {g:List (List Int)} {ls:List Int} {k:Nat} {L:List (List Int)} {D:List Int} (h:Lv g ls k L D) (hk:k<L.length) {l:Int} (hl:l∈ls):
  Lv g ls k (L++ [Ab (L.getD k []) (An g l)]) (D++ [D.getD k 0+1]):=by
 have hlen:=h.len
 have hD: ∀i,i<L.length->(D++ [D.getD k 0+1]).getD i 0=D.getD i 0:= λi hi=>Fq (by omega)
 have hDl:(D++ [D.getD k 0+1]).getD L.length 0=D.getD k 0+1:=by rw [<-hlen];exact fj
 refine ⟨by simp [hlen],by simp,λi j dN hj=>?_,λ_ j hj=>?_,λj h0 hj=>?_,?_⟩
 ·rw [List.length_append,List.length_singleton] at hj
  by_cases e:j=L.length
  ·subst e
   rw [hDl]
   by_cases e':i=L.length
   ·subst e';rw [hDl];exact Int.le_refl _
   ·rw [hD i (by omega)]
    exact h.TQ hk i (by omega)
  ·rw [hD i (by omega),hD j (by omega)]
   exact h.mono i j dN (by omega)
 ·rw [List.length_append,List.length_singleton] at hj
  rw [hD k hk]
  by_cases e:j=L.length
  ·subst e;rw [hDl];exact Int.le_refl _
  ·rw [hD j (by omega)];exact h.TQ hk j (by omega)
 ·rw [List.length_append,List.length_singleton] at hj
  by_cases e:j=L.length
  ·subst e
   exact ⟨k,l,hk,hl,by rw [fj,Fq hk],by rw [hDl,hD k hk]⟩
  ·obtain ⟨i,l',h1,h2,h3,h4⟩:=h.par j h0 (by omega)
   exact ⟨i,l',h1,h2,by rw [Fq (by omega),Fq (by omega)];exact h3,by rw [hD j (by omega),hD i (by omega)];exact h4⟩
 ·rw [hD 0 h.pos];exact h.zero
theorem pk {g:List (List Int)} {ls:List Int} {k:Nat} : ∀(KG:List Int) (L:List (List Int)) (D:List Int),(∀l∈KG,l∈ls)->Lv g ls k L D->k<L.length-> ∀ {x:List Int} {d:Int},x=L.getD k []->d=D.getD k 0->
  Lv g ls k (Ht g x d KG L D).1 (Ht g x d KG L D).2.1/\(∃A,(Ht g x d KG L D).1=L++A)/\(∃A,(Ht g x d KG L D).2.1=D++A)/\
  ((Ht g x d KG L D).2.2=true-> ∀l∈KG,∃j,j<(Ht g x d KG L D).1.length/\(Ht g x d KG L D).1.getD j []=Ab x (An g l)/\(Ht g x d KG L D).2.1.getD j 0<=d+1)
 | [],L,D,_,h,_,x,d,_,_=>⟨h,⟨[],by simp [Ht]⟩,⟨[],by simp [Ht]⟩,λ_ l hl=>by cases hl⟩
 |l::KG,L,D,hs,h,hk,x,d,hx,hd=>by
  have zi: ∀l∈KG,l∈ls:= λl' h'=>hs l' (List.mem_cons_of_mem _ h')
  have hlen:=h.len
  simp only [Ht]
  split
  ·rename_i hm
   obtain ⟨a1,⟨A,a2⟩,⟨A',a3⟩,a4⟩:=pk KG L D zi h hk hx hd
   refine ⟨a1,⟨A,a2⟩,⟨A',a3⟩,λe l' Gt=>?_⟩
   rcases List.mem_cons.1 Gt with rfl|Gt
   ·obtain ⟨j,hj,hjx⟩:=List.mem_iff_getElem.1 hm
    refine ⟨j,by rw [a2,List.length_append];omega,by rw [a2,Fq hj,Tw hj];exact hjx,?_⟩
    rw [a3,Fq (by omega),hd]
    exact h.TQ hk j hj
   ·exact a4 e l' Gt
  ·split
   ·exact ⟨h,⟨[],by simp⟩,⟨[],by simp⟩,λe=>by cases e⟩
   ·have RF:=h.add hk (hs l (by simp))
    rw [<-hx,<-hd] at RF
    obtain ⟨a1,⟨A,a2⟩,⟨A',a3⟩,a4⟩:=pk KG (L++ [Ab x (An g l)]) (D++ [d+1]) zi RF (by rw [List.length_append];omega) (x:=x) (d:=d) (by rw [Fq hk];exact hx) (by rw [Fq (by omega)];exact hd)
    refine ⟨a1,⟨_::A,by rw [a2,List.append_assoc];rfl⟩,⟨_::A',by rw [a3,List.append_assoc];rfl⟩,λe l' Gt=>?_⟩
    rcases List.mem_cons.1 Gt with rfl|Gt
    ·refine ⟨L.length,by rw [a2,List.length_append,List.length_append];simp only [List.length_singleton];omega,?_,?_⟩
     ·rw [a2,Fq (by simp),fj]
     ·rw [a3,Fq (by simp [hlen]),<-hlen,fj]
      exact Int.le_refl _
    ·exact a4 e l' Gt
structure CW (g:List (List Int)) (ls:List Int) (L:List (List Int)) (D:List Int):Prop where
 len:D.length=L.length
 pos:0<L.length
 zero:D.getD 0 0=0
 par: ∀j,0<j->j<L.length-> ∃i l,i<j/\l∈ls/\L.getD j []=Ab (L.getD i []) (An g l)/\D.getD j 0=D.getD i 0+1
 step: ∀i,i<L.length-> ∀l∈ls,∃j,j<L.length/\L.getD j []=Ab (L.getD i []) (An g l)/\D.getD j 0<=D.getD i 0+1
theorem yA {g:List (List Int)} {ls:List Int} : ∀(f k:Nat) (L:List (List Int)) (D:List Int),3001<=f+k->Lv g ls k L D->k<=L.length->
  (∀i,i<k-> ∀l∈ls,∃j,j<L.length/\L.getD j []=Ab (L.getD i []) (An g l)/\D.getD j 0<=D.getD i 0+1)->
  (Mh g ls f k L D).2.2=true->(Mh g ls f k L D).1.length<=3000->CW g ls (Mh g ls f k L D).1 (Mh g ls f k L D).2.1
 |0,k,L,D,hf,h,hkL,hc,hw,h3=>by
  simp only [Mh] at h3⊢
  omega
 |f+1,k,L,D,hf,h,hkL,hc,hw,h3=>by
  simp only [Mh] at hw h3⊢
  split
  ·rename_i hk
   rw [if_pos hk] at hw h3
   obtain ⟨a1,⟨A,a2⟩,⟨A',a3⟩,a4⟩:=pk (x:=L.getD k []) (d:=D.getD k 0) ls L D (λ_ h=>h) h hk rfl rfl
   have hlen:=h.len
   split
   ·rename_i L' D' he
    rw [he] at a1 a2 a3 a4
    simp only [he] at hw h3
    have a2:L'=L++A:=a2
    have a3:D'=D++A':=a3
    have a4:=a4 rfl
    dsimp only at a4
    have hLl:L.length<=L'.length:=by rw [a2,List.length_append];omega
    refine yA f (k+1) L' D' (by omega) ⟨a1.len,a1.pos,a1.mono,λhk1 j hj=>?_,a1.par,a1.zero⟩ (by omega) (λi hi l hl=>?_) hw h3
    ·have h1:D'.getD j 0<=D'.getD k 0+1:=a1.TQ (show k<L'.length by omega) j hj
     have h2:D'.getD k 0<=D'.getD (k+1) 0:=a1.mono k (k+1) (by omega) hk1
     omega
    ·by_cases e:i=k
     ·subst e
      obtain ⟨j,b1,b2,b3⟩:=a4 l hl
      refine ⟨j,b1,?_,?_⟩
      ·rw [b2,a2,Fq (by omega)]
      ·rw [show D'.getD i 0=D.getD i 0 by rw [a3,Fq (by omega)]];exact b3
     ·obtain ⟨j,b1,b2,b3⟩:=hc i (by omega) l hl
      refine ⟨j,by omega,?_,?_⟩
      ·rw [a2,Fq (by omega),Fq (by omega)];exact b2
      ·rw [a3,Fq (by omega),Fq (by omega)];exact b3
   ·rename_i L' D' he
    simp only [he] at hw
    cases hw
  ·rename_i hk
   exact ⟨h.len,h.pos,h.zero,h.par,λi hi=>hc i (by have hi:i<L.length:=hi;omega)⟩
theorem DE {p:PP} {s:List Int} (hv:Bx p=true) (hs:s.length<=20) (hr: ∀y∈s,0<=y/\y<p.1) (hw:(Gk p.2.2.1 s).2.2=true):
  CW p.2.2.1 (Af p.2.2.1.length) (Gk p.2.2.1 s).1 (Gk p.2.2.1 s).2.1:=by
 have hb:=(DF hv hs hr).1.ok.so
 refine yA 3001 0 [s] [0] (by omega) ⟨rfl,by simp,λi j dN hj=>?_,λ_ j hj=>?_,λj h0 hj=>?_,rfl⟩ (Nat.zero_le _) (λi hi=>absurd hi (Nat.not_lt_zero _)) hw hb
 ·have:j=0:=by simpa using hj
  subst this
  have:i=0:=by omega
  subst this
  exact Int.le_refl _
 ·have:j=0:=by simpa using hj
  subst this
  simp
 ·have:j=0:=by simpa using hj
  omega
theorem zB {p:PP} (hV:Valid p) {x:List Int} (hx: ∀y∈x,0<=y/\y<p.1) {l:Int} (hl:l∈Af p.2.2.1.length):
  -l∈Af p.2.2.1.length/\Ab (Ab x (An p.2.2.1 l)) (An p.2.2.1 (-l))=x:=by
 obtain ⟨k,hk,Na⟩:=Ni (Kr hl)
 have hg:=bR (hV.perm _ (List.getElem_mem hk))
 have hgl:=hV.len _ (List.getElem_mem hk)
 have hn:=hV.n
 have hp:Pm p.1.toNat (p.2.2.1[k]):=⟨by omega,hg⟩
 have key: ∀q r:List Int,Pm p.1.toNat q->Pm p.1.toNat r->Ab q r=upto p.1.toNat->Ab (Ab x q) r=x:= λq r hq hr he=>by
  refine List.ext_getElem (by rw [Kl,Kl]) λi h1 h2=>?_
  have hxi:=hx _ (List.getElem_mem h2)
  obtain ⟨xi,hxe⟩:=Int.eq_ofNat_of_zero_le hxi.1
  have WW:xi<p.1.toNat:=by omega
  have e1:ap (Ab q r) xi=ap (upto p.1.toNat) xi:=congrArg (λz=>ap z xi) he
  rw [Hg hq hr WW,gw WW] at e1
  simp only [Ab,List.getElem_map,hxe]
  have h3:=(hq.Vu WW).1
  have h4:=(hr.Vu (hq.lt WW)).1
  rw [h3,h4,e1]
 rcases Na with rfl|rfl
 ·refine ⟨(Pv hk).2,?_⟩
  rw [Pe hk,Pd hk]
  exact key _ _ hp hp.inv (jA hp)
 ·refine ⟨by rw [Int.neg_neg];exact (Pv hk).1,?_⟩
  rw [Int.neg_neg,Pe hk,Pd hk]
  exact key _ _ hp.inv hp (aL hp)
structure Qn (g:List (List Int)) (ls:List Int) (L:List (List Int)) (S:List Int->Prop) (d:List Int->Int):Prop where
 nn: ∀x∈L,0<=d x
 zero: ∀x∈L,d x=0↔S x
 step: ∀x∈L,∀l∈ls,d (Ab x (An g l))<=d x+1
 down: ∀x∈L,0<d x-> ∃l∈ls,d (Ab x (An g l))=d x-1
structure oW (g:List (List Int)) (ls:List Int) (L:List (List Int)):Prop where
 next: ∀x∈L,∀l∈ls,Ab x (An g l)∈L
 back: ∀x∈L,∀l∈ls,-l∈ls/\Ab (Ab x (An g l)) (An g (-l))=x
theorem Qn.le {g:List (List Int)} {ls:List Int} {L:List (List Int)} {S:List Int->Prop} {d d':List Int->Int} (hc:oW g ls L) (h:Qn g ls L S d) (h':Qn g ls L S d'):
  ∀(n:Nat) (x:List Int),x∈L->d' x=n->d x<=n
 |0,x,hx,e=>by
  have:=(h.zero x hx).2 ((h'.zero x hx).1 e)
  omega
 |n+1,x,hx,e=>by
  obtain ⟨l,hl,hd⟩:=h'.down x hx (by omega)
  obtain ⟨b1,b2⟩:=hc.back x hx l hl
  have h1:=Qn.le hc h h' n _ (hc.next x hx l hl) (by omega)
  have h2:=h.step _ (hc.next x hx l hl) _ b1
  rw [b2] at h2
  omega
theorem Qn.eq {g:List (List Int)} {ls:List Int} {L:List (List Int)} {S:List Int->Prop} {d d':List Int->Int} (hc:oW g ls L) (h:Qn g ls L S d) (h':Qn g ls L S d') {x:List Int} (hx:x∈L):d x=d' x:=by
 have n1:=h.nn x hx
 have n2:=h'.nn x hx
 have h1:=Qn.le hc h h' (d' x).toNat x hx (by omega)
 have h2:=Qn.le hc h' h (d x).toNat x hx (by omega)
 omega
theorem Qn.TQ {g:List (List Int)} {ls:List Int} {L:List (List Int)} {S:List Int->Prop} {d:List Int->Int} (hc:oW g ls L) (h:Qn g ls L S d) {x:List Int} (hx:x∈L) {l:Int} (hl:l∈ls):
  d x-1<=d (Ab x (An g l)):=by
 obtain ⟨b1,b2⟩:=hc.back x hx l hl
 have h2:=h.step _ (hc.next x hx l hl) _ b1
 rw [b2] at h2
 omega
theorem EM {L:List (List Int)} (hn:L.Nodup) {j:Nat} (hj:j<L.length):L.idxOf (L.getD j [])=j:=by
 rw [Tw hj]
 exact hn.idxOf_getElem j hj
theorem QZ {L:List (List Int)} {j:Nat} (hj:j<L.length):L.getD j []∈L:=by rw [Tw hj];exact List.getElem_mem hj
theorem sC {p:PP} (hV:Valid p) {m:Nat} {L:List (List Int)} {D:List Int} (hb:Vl p m L D) (h:CW p.2.2.1 (Af p.2.2.1.length) L D):oW p.2.2.1 (Af p.2.2.1.length) L where
 next x hx l hl:=by
  obtain ⟨i,hi,rfl⟩:=List.mem_iff_getElem.1 hx
  obtain ⟨j,h1,h2,_⟩:=h.step i hi l hl
  rw [Tw hi] at h2
  rw [<-h2]
  exact QZ h1
 back x hx l hl:=zB hV (hb.row x hx) hl
end Go.Proofs.YtfolipnappekaaaGreat

namespace Go.Proofs.YtfolipnappekaaaGreat
open Go.RowKit
noncomputable abbrev Wu:Spec:=Cg (.pair tL (.pair tL .unit)) tL false true (λx=>short x.2.1/\Hz (List.length x.1) x.2.1) (λx=>Cb x.1 x.2.1)
theorem PE (xs is:List Int) (P:List Int->Prop):(((0:Int)<=(↑is.length:Int)/\(↑is.length:Int)<(↑Be:Int)+(1:Int))/\(↑is.length:Int)=(↑is.length:Int)/\0=0/\(List.replicate (↑is.length:Int).toNat (Int.ofNat (nat_lit 0))).length=(List.replicate (↑is.length:Int).toNat (Int.ofNat (nat_lit 0))).length/\Bk (λ(v3:Int×List Int×PUnit) (k4:Int×List Int×PUnit->Prop)=>Br (decide (v3.1<(↑is.length:Int))) (∃(y5:Int),idx is v3.1=some y5/\ ∃(y6:Int),idx xs y5=some y6/\((0:Int)<=v3.1/\v3.1<(↑v3.2.1.length:Int))/\0+v3.1.toNat<v3.2.1.length/\0=0/\v3.2.1.length=(v3.2.1.set (0+v3.1.toNat) y6).length/\k4 (IntKind.i64.wrap (v3.1+(1:Int)),v3.2.1.set (0+v3.1.toNat) y6,())) (P (List.take v3.2.1.length (List.drop 0 v3.2.1)))) ((0:Int),List.replicate (↑is.length:Int).toNat (Int.ofNat (nat_lit 0)),PUnit.unit))=fnW Cd (look []) Wu Tryz.f80 (xs,is,()) P:=by kernel_rfl
theorem ML {p:List Int} (h:Xb p):Fl p=true:=by
 refine Dw.2 ⟨h.pos,h.len,λj h1 h2=>?_⟩
 have:=h.row _ (List.getElem_mem h2)
 exact ⟨by omega,by omega,λhm=>by
  obtain ⟨i,hi,e⟩:=List.mem_iff_getElem.1 hm
  have jV:i<j:=by rw [List.length_take] at hi;omega
  rw [List.getElem_take] at e
  exact (List.pairwise_iff_getElem.1 h.nodup i j (by omega) h2 jV) e⟩
theorem pM {p:PP} (hV:Valid p):yi p.1.toNat λg=>some g∈p.2.2.1.map some:=
 ⟨by have:=hV.n;omega,λg Np=>by obtain ⟨g',e,h⟩:=aS (ar hV).2.2 _ Np;cases e;exact h⟩
theorem Aea {p:PP} (hV:Valid p) {x:List Int} (h:Pm p.1.toNat x):Dc p.1 x=true:=by
 have:=hV.n
 have:=h.1
 exact Dw.2 ⟨by omega,ML h.2⟩
theorem Abv {p:PP} (_hV:Valid p) {x:List Int} (h:Dc p.1 x=true):Pm p.1.toNat x:=by
 obtain ⟨h1,h2⟩:=Dw.1 h
 exact ⟨by omega,bR h2⟩
theorem QR {b:Bool} (h:(!b)=true):b=false:=by cases b<;>simp_all
theorem pz {a b:List Int} :At a b=true↔a=b:=decide_eq_true_iff
theorem NH (xs is:List Int) (h:short is/\Hz xs.length is):fnW Cd (look []) Wu Tryz.f80 (xs,is,()) (λ(z:List Int)=>z=Cb xs is):=by
 obtain ⟨h,hr⟩:=h
 unfold short at h
 have Ky:(Cb xs is).length=is.length:=qH xs is
 refine Eq.mp (PE xs is _) ⟨⟨by omega,by show (is.length:Int)<(4294967296:Int)+1;omega⟩,rfl,rfl,rfl,?_⟩
 refine Ag is.length (λv=>v.1) (λj v=>v.2.1.length=(Cb xs is).length/\v.2.1.take j=(Cb xs is).take j) rfl ⟨by rw [Ky];simp,by simp⟩ ?_
 rintro j ⟨i,ys,⟨⟩⟩ K hj hi ⟨h1,h2⟩ hK
 dsimp only at hi h1 h2⊢
 subst hi
 refine Br.dec (λhl=>?_) λhl=>?_
 ·have hl:j<is.length:=by omega
  have hx:=hr _ (List.getElem_mem hl)
  obtain ⟨xn,hxe⟩:=Int.eq_ofNat_of_zero_le hx.1
  have Gt:j<(Cb xs is).length:=by rw [Ky];exact hl
  have e:xs[xn]'(by omega)=(Cb xs is)[j]:=by
   simp only [Cb,List.getElem_map,Ja,hxe,Int.toNat_natCast]
   rw [Tw]
  refine ⟨_,Aq hl,xs[xn]'(by omega),by rw [hxe];exact Aq (by omega),⟨by omega,by omega⟩,by rw [Int.toNat_natCast,Nat.zero_add];omega,rfl,by rw [List.length_set],?_⟩
  rw [Ah (by omega),Int.toNat_natCast,Nat.zero_add,e]
  refine hK hl _ rfl ⟨by rw [List.length_set];exact h1,?_⟩
  rw [List.take_add_one,List.take_set_of_le (by omega),h2,List.getElem?_set_self (by omega),List.take_add_one,List.getElem?_eq_getElem Gt]
 ·have:j=is.length:=by omega
  subst this
  rw [Bb,<-List.take_length (l:=ys),h1,Ky,h2,<-Ky,List.take_length]
theorem tj:Sound Tryz.prog 80 Wu:=
 Sound.Cg Bi Aj mixed Tryz.func80 (by kernel_rfl) (by kernel_rfl) λx h=>NH x.1 x.2.1 h
end Go.Proofs.YtfolipnappekaaaGreat

namespace Go.Proofs.YtfolipnappekaaaGreat
open Go.RowKit
theorem map_take {α β:Type} (f:α->β) {xs:List α} {j:Nat} (h:j<xs.length):(xs.take (j+1)).map f=(xs.take j).map f++ [f xs[j]]:=by
 rw [List.take_add_one,List.getElem?_eq_getElem h,List.map_append];rfl
end Go.Proofs.YtfolipnappekaaaGreat

namespace Go.Proofs.YtfolipnappekaaaGreat
open Go.RowKit
theorem ur {α:Type} {P:α->Bool} : ∀(l:List α) (i:Nat),l.any P=true-> ∃k,∃h:k<l.length,Dy P l (i:Int)=((i+k:Nat):Int)/\P l[k]=true/\ ∀j (h:j<k),P (l[j]'(by omega))=false
 | [],i,h=>by simp at h
 |y::r,i,h=>by
  simp only [Dy]
  by_cases hy:P y=true
  ·rw [if_pos hy]
   exact ⟨0,by simp,rfl,hy,λj hj=>absurd hj (Nat.not_lt_zero _)⟩
  ·rw [if_neg hy]
   have hr:r.any P=true:=by
    rw [List.any_cons,Bool.or_eq_true] at h
    exact h.resolve_left hy
   obtain ⟨k,hk,h1,h2,h3⟩:=ur r (i+1) hr
   refine ⟨k+1,by simpa using hk,?_,h2,λj hj=>?_⟩
   ·rw [show ((i:Int)+1)=((i+1:Nat):Int) by push_cast;rfl,h1]
    congr 1
    omega
   ·cases j with
    |zero=>exact Bool.not_eq_true _|>.mp hy
    |succ j=>exact h3 j (by omega)
end Go.Proofs.YtfolipnappekaaaGreat

namespace Go.Proofs.YtfolipnappekaaaGreat
open Go.RowKit
theorem ec {s q t:List Int} (h:Hz s.length t):Cb (Ab s q) t=Ab (Cb s t) q:=by
 unfold Cb Ab
 rw [List.map_map]
 refine List.map_congr_left λy hy=>?_
 obtain ⟨h1,h2⟩:=h y hy
 have hy':y.toNat<s.length:=by omega
 show Ja (s.map (Ja q)) y=Ja q (Ja s y)
 unfold Ja
 rw [Tw (by rw [List.length_map];exact hy'),List.getElem_map,Tw hy']
 try rfl
theorem NO {n:Nat} {t:List Int} (h: ∀y∈t,0<=y/\y<(n:Int)):Cb (upto n) t=t:=by
 unfold Cb
 refine (List.map_congr_left λy hy=>?_).trans (List.map_id t)
 obtain ⟨h1,h2⟩:=h y hy
 obtain ⟨k,rfl⟩:=Int.eq_ofNat_of_zero_le h1
 have hk:k<n:=by omega
 show Ja (upto n) (k:Int)=(k:Int)
 unfold Ja
 rw [Int.toNat_natCast,List.getD_eq_getElem?_getD,eS hk]
 rfl
noncomputable def iY (p:PP) (t:List Int):List (List Int):=(Gk p.2.2.1 t).1
noncomputable def TJ (p:PP) (t:List Int):List Int:=(Gk p.2.2.1 t).2.1
theorem BQ {p:PP} {t:List Int} (ht:Cz p t=true): ∀y∈t,0<=y/\y<((p.1.toNat:Nat):Int):= λy hy=>by
 have h1:=(Fe ht).2 y hy
 have:=(valid (My.1 ht).1).n
 omega
theorem Qn.congr {g:List (List Int)} {ls:List Int} {L:List (List Int)} {S S':List Int->Prop} {d:List Int->Int} (h:Qn g ls L S d) (e: ∀x∈L,S x↔S' x):Qn g ls L S' d:=
 ⟨h.nn,λx hx=>(h.zero x hx).trans (e x hx),h.step,h.down⟩
theorem NN {p:PP} {t:List Int} (ht:Cz p t=true):(iY p t).getD 0 []=t/\t∈iY p t:=by
 obtain ⟨_,A,h⟩:=DF (My.1 ht).1 (Fe ht).1 (Fe ht).2
 have h:iY p t=t::A:=h
 rw [h]
 exact ⟨rfl,by simp⟩
end Go.Proofs.YtfolipnappekaaaGreat

namespace Go.Proofs.YtfolipnappekaaaGreat
open Go.RowKit
def known (row:Row):List (List Int):=row.filterMap id
mutual
def fZ (n:Nat):Nat->Nat->List Int->Aw×Aw->Aw×Aw
 |0,_,_,s=>s
 |f+1,k,p,s=>if Ee s.2 (n-k) k p=true then s else
   ((known (s.2.getD k [])).map λu=>Ab u p).foldl (λs q=>cv n f k q s) (s.1.set k (s.1.getD k []++ [some p]),s.2)
def cv (n:Nat):Nat->Nat->List Int->Aw×Aw->Aw×Aw
 |0,_,_,s=>s
 |f+1,k,p,s=>match (s.2.getD k []).getD (ap p k) none with
  |some t=>fZ n f (k+1) (Ab p (Ai t)) s
  |none=>((s.1.getD k []).map λo=>Ab p (o.getD [])).foldl (λs q=>cv n f k q s) (s.1,s.2.set k ((s.2.getD k []).set (ap p k) (some p)))
end
structure Part (n k:Nat) (s:Aw×Aw):Prop where
 l1:s.1.length=n
 l2:s.2.length=n
 pg:PG n k (s.1.getD k [])
 row:Pp n k (s.1.getD k []) (s.2.getD k [])
 comp:fX n (n-(k+1)) (k+1) s
 gb:GBf (n-(k+1)) (k+1) s
 sub: ∀g,some g∈s.1.getD (k+1) []->Gn n (s.1.getD k []) g
def Hd (n k:Nat) (s:Aw×Aw) (q:List Int):Prop:= ∃t,(s.2.getD k []).getD (ap q k) none=some t/\Ee s.2 (n-(k+1)) (k+1) (Ab q (Ai t))=true
structure Yo (n k:Nat) (s s':Aw×Aw):Prop where
 grow:Qo k s s'
 same:s'.1.getD k []=s.1.getD k []
 part:Part n k s'
 Cn: ∀q,Pm n q->Fx k q->Hd n k s q->Hd n k s' q
 new: ∀y t,(s'.2.getD k []).getD y none=some t->(s.2.getD k []).getD y none=some t\/ ∀g,some g∈s.1.getD k []->Hd n k s' (Ab t g)
theorem Yo.refl {n k:Nat} {s:Aw×Aw} (h:Part n k s):Yo n k s s:=⟨Qo.refl _ _,rfl,h,λ_ _ _ h=>h,λ_ _ h=> .inl h⟩
theorem Part.tg {n k:Nat} {s:Aw×Aw} (h:Part n k s) (hk:k<n) {y:Nat} {t g:List Int} (ht:(s.2.getD k []).getD y none=some t) (hg:some g∈s.1.getD k []):Pm n (Ab t g)/\Fx k (Ab t g)/\ap (Ab t g) k=ap g y:=by
 obtain ⟨t1,t2,t3,t4⟩:=h.row.rt _ _ ht
 obtain ⟨g',e,g1,g2⟩:=h.pg _ hg
 cases e
 exact ⟨t1.comp g1,Fx.comp t1 g1 t2 g2 (by omega),by rw [Hg t1 g1 hk,t3]⟩
theorem Yo.trans {n k:Nat} {a b c:Aw×Aw} (hk:k<n) (h:Yo n k a b) (h':Yo n k b c):Yo n k a c:=by
 refine ⟨h.grow.trans h'.grow (Nat.le_refl _),h'.same.trans h.same,h'.part,λq h1 h2 h3=>h'.Cn q h1 h2 (h.Cn q h1 h2 h3),λy t e=>?_⟩
 rcases h'.new y t e with e1|e1
 ·rcases h.new y t e1 with e2|e2
  ·exact .inl e2
  ·refine .inr λg hg=>?_
   obtain ⟨p1,p2,_⟩:=h.part.tg hk e1 (by rw [h.same];exact hg)
   exact h'.Cn _ p1 p2 (e2 g hg)
 ·exact .inr λg hg=>e1 g (by rw [h.same];exact hg)
theorem Part.pms {n k:Nat} {s:Aw×Aw} (h1:1<=n) (h2:n<=20) (h:Part n k s):yi n λg=>some g∈s.1.getD k []:=⟨⟨h1,h2⟩,λg hg=>by obtain ⟨g',e,h,_⟩:=h.pg _ hg;cases e;exact h⟩
theorem Part.v {n k:Nat} {s:Aw×Aw} (h:Part n k s):V n (n-(k+1)) (k+1) s:=⟨h.l1,h.l2,h.comp,h.gb⟩
theorem u7 (row:Row):sj row+Hj row=row.length:=by
 induction row with
 |nil=>rfl
 |cons o r ih=>
  unfold sj Hj at*
  cases o<;>simp [List.countP_cons]<;>omega
theorem FJ {a b:Row} (hl:b.length=a.length) (h: ∀y t,a.getD y none=some t->b.getD y none=some t):Hj b<=Hj a:=by
 have h1:=(lB a b hl.symm h).1
 have h2:=u7 a
 have h3:=u7 b
 omega
def KI (n k:Nat):Nat:=(n-k)*(n+2)+(n+1)
def jo (n k:Nat) (s:Aw×Aw):Nat:=(n-k)*(n+2)+Hj (s.2.getD k [])
theorem Yo.mu {n k:Nat} {s s':Aw×Aw} (h:Yo n k s s'):jo n k s'<=jo n k s:=by
 have:=FJ (h.grow.UM k) (h.grow.rQ k)
 unfold jo;omega
theorem fg {n k f:Nat} (hk:k<n) {gs:List PO}
  (IH: ∀q s,Part n k s->s.1.getD k []=gs->Pm n q->Fx k q->Gn n gs q->jo n k s<=f->(Yo n k s (cv n f k q s)/\Hd n k (cv n f k q s) q)/\ ∀f',f<=f'->cv n f' k q s=cv n f k q s):
  ∀(qs:List (List Int)) (s:Aw×Aw),Part n k s->s.1.getD k []=gs->(∀q∈qs,Pm n q/\Fx k q/\Gn n gs q)->jo n k s<=f->
   Yo n k s (qs.foldl (λs q=>cv n f k q s) s)/\(∀q∈qs,Hd n k (qs.foldl (λs q=>cv n f k q s) s) q)/\ ∀f',f<=f'->qs.foldl (λs q=>cv n f' k q s) s=qs.foldl (λs q=>cv n f k q s) s
 | [],s,hp,_,_,_=>⟨Yo.refl hp,λq hq=>(by cases hq),λ_ _=>rfl⟩
 |q::qs,s,hp,hg,hq,hm=>by
  obtain ⟨q1,q2,q3⟩:=hq q (by simp)
  obtain ⟨⟨a1,a2⟩,a3⟩:=IH q s hp hg q1 q2 q3 hm
  obtain ⟨b1,b2,b3⟩:=fg hk IH qs (cv n f k q s) a1.part (a1.same.trans hg) (λq' h=>hq q' (List.mem_cons_of_mem _ h)) (Nat.le_trans a1.mu hm)
  simp only [List.foldl_cons]
  refine ⟨a1.trans hk b1,λq' gi=>?_,λf' hf=>?_⟩
  ·rcases List.mem_cons.1 gi with rfl|gi
   ·exact b1.Cn _ q1 q2 a2
   ·exact b2 q' gi
  ·rw [a3 f' hf];exact b3 f' hf
theorem z7 {n k:Nat} (h1:1<=n) (h2:n<=20) (hk:k<n) {s s':Aw×Aw} (hs:fX n (n-(k+1)) (k+1) s) (zi:fX n (n-(k+1)) (k+1) s') (hg:Qo k s s') {x:List Int} (hx:Pm n x) (hf:Fx (k+1) x)
  (h:Ee s.2 (n-(k+1)) (k+1) x=true):Ee s'.2 (n-(k+1)) (k+1) x=true:=
 (Oo h1 h2 _ (k+1) s' (by omega) zi x hx hf).2 (((Oo h1 h2 _ (k+1) s (by omega) hs x hx hf).1 h).mono λg yc=>hg.uc _ _ yc)
theorem fF {row:Row} {u:List Int} :u∈known row↔ ∃y,row.getD y none=some u:=by
 unfold known
 rw [List.mem_filterMap]
 constructor
 ·rintro ⟨o,ho,e⟩
  obtain ⟨y,hy,rfl⟩:=List.mem_iff_getElem.1 ho
  exact ⟨y,by rw [List.getD_eq_getElem?_getD,List.getElem?_eq_getElem hy];exact e⟩
 ·rintro ⟨y,hy⟩
  have hl:=jR hy
  rw [List.getD_eq_getElem?_getD,List.getElem?_eq_getElem hl] at hy
  exact ⟨row[y],List.getElem_mem hl,hy⟩
theorem IX {n:Nat} (h1:1<=n) (h2:n<=20): ∀f:Nat,
  (∀k p s,k<=n->V n (n-k) k s->Pm n p->Fx k p->KI n k<=f->PX n (n-k) k s p (fZ n f k p s)/\ ∀f',f<=f'->fZ n f' k p s=fZ n f k p s)/\
  (∀k q s,k<n->Part n k s->Pm n q->Fx k q->Gn n (s.1.getD k []) q->jo n k s<=f->(Yo n k s (cv n f k q s)/\Hd n k (cv n f k q s) q)/\ ∀f',f<=f'->cv n f' k q s=cv n f k q s)
 |0=>⟨λk p s _ _ _ _ h=>by unfold KI at h;omega,λk q s hk _ _ _ _ h=>by
   unfold jo at h
   have:1*(n+2)<=(n-k)*(n+2):=Nat.mul_le_mul_right _ (by omega)
   omega⟩
 |f+1=>by
  obtain ⟨ihG,ihP⟩:=IX h1 h2 f
  refine ⟨λk p s hk hv hp hf WV=>?_,λk q s hk Yl hq hf CR WV=>?_⟩
  ·
   have zl: ∀f',f+1<=f'-> ∃CO,f'=CO+1/\f<=CO:= λf' h=>⟨f'-1,by omega,by omega⟩
   by_cases hh:Ee s.2 (n-k) k p=true
   ·have e: ∀f',fZ n (f'+1) k p s=s:= λf'=>by simp only [fZ];rw [if_pos hh]
    rw [e f]
    refine ⟨⟨hv,Qo.refl _ _,(Oo h1 h2 _ k s (by omega) hv.2.2.1 p hp hf).1 hh,λo ho=> .inl ho⟩,λf' CQ=>?_⟩
    obtain ⟨CO,rfl,_⟩:=zl f' CQ
    exact e CO
   have RT:k<n:=by
    refine Nat.lt_of_le_of_ne hk λe=>hh ?_
    subst e
    rw [Nat.sub_self];rfl
   obtain ⟨v1,v2,hc,uh⟩:=hv
   have gI:=hc
   have Aqv:=uh
   obtain ⟨m,hm⟩: ∃m,n-k=m+1:=⟨n-k-1,by omega⟩
   have zf:n-(k+1)=m:=by omega
   rw [hm] at hc uh
   obtain ⟨c1,c2,c3⟩:=hc
   generalize jU:s.1.getD k []++ [some p]=gs
   have Vd:some p∈gs:=by rw [<-jU];simp
   have Kz: ∀o∈s.1.getD k [],o∈gs:= λo ho=>by rw [<-jU];exact List.mem_append_left _ ho
   have hg:PG n k gs:= λo ho=>by
    rw [<-jU] at ho
    rcases List.mem_append.1 ho with ho|ho
    ·exact c2.pg o ho
    ·rw [List.mem_singleton] at ho;exact ⟨p,ho,hp,hf⟩
   have hS:yi n λg=>some g∈gs:=⟨⟨h1,h2⟩,λg Np=>by obtain ⟨g',e,h,_⟩:=hg _ Np;cases e;exact h⟩
   have qU: ∀i,(s.1.set k gs).getD i []=if i=k then gs else s.1.getD i []:= λi=>by
    rw [Gs]
    by_cases e:k=i
    ·subst e;rw [if_pos ⟨rfl,by omega⟩,if_pos rfl]
    ·rw [if_neg (λhh=>e hh.1),if_neg (Ne.symm e)]
   have uo: ∀i,k+1<=i->(s.1.set k gs).getD i []=s.1.getD i []/\s.2.getD i []=s.2.getD i []:= λi hi=>⟨by rw [qU i,if_neg (by omega)],rfl⟩
   have zg:Part n k (s.1.set k gs,s.2):=by
    refine ⟨by simpa using v1,v2,?_,?_,?_,?_,λg Np=>?_⟩
    ·show PG n k ((s.1.set k gs).getD k []);rw [qU k,if_pos rfl];exact hg
    ·show Pp n k ((s.1.set k gs).getD k []) _
     rw [qU k,if_pos rfl]
     exact ⟨c2.rl,c2.r0,λy t e=>⟨(c2.rt y t e).1,(c2.rt y t e).2.1,(c2.rt y t e).2.2.1,(c2.rt y t e).2.2.2.mono λg hg=>Kz _ hg⟩⟩
    ·rw [zf];exact Pc m (k+1) uo c1
    ·rw [zf];exact Xk m (k+1) uo uh.1
    ·have Np:some g∈(s.1.set k gs).getD (k+1) []:=Np
     rw [(uo (k+1) (Nat.le_refl _)).1] at Np
     show Gn n ((s.1.set k gs).getD k []) g
     rw [qU k,if_pos rfl]
     exact (c3 g Np).mono λg hg=>Kz _ hg
   have fp:((s.1.set k gs,s.2):Aw×Aw).1.getD k []=gs:=by show (s.1.set k gs).getD k []=gs;rw [qU k,if_pos rfl]
   have iP:Qo k s (s.1.set k gs,s.2):=by
    refine ⟨by simp,rfl,λi hi=>⟨?_,rfl⟩,λi o ho=>?_,λi y t e=>e,λi=>rfl⟩
    ·show (s.1.set k gs).getD i []=_;rw [qU i,if_neg (by omega)]
    ·show o∈(s.1.set k gs).getD i []
     rw [qU i]
     split
     ·rename_i hi;subst hi;exact Kz o ho
     ·exact ho
   have hmP:jo n k (s.1.set k gs,s.2)<=f:=by
    have hn:=e8 (s.2.getD k [])
    have hr:=c2.rl
    unfold jo
    unfold KI at WV
    show (n-k)*(n+2)+Hj (s.2.getD k [])<=f
    omega
   have MF: ∀q∈(known (s.2.getD k [])).map (λu=>Ab u p),Pm n q/\Fx k q/\Gn n gs q:= λq hq=>by
    obtain ⟨u,hu,rfl⟩:=List.mem_map.1 hq
    obtain ⟨y,hy⟩:=fF.1 hu
    obtain ⟨t1,t2,t3,t4⟩:=c2.rt _ _ hy
    exact ⟨t1.comp hp,Fx.comp t1 hp t2 hf hk, .mul (t4.mono λg hg=>Kz _ hg) Vd⟩
   obtain ⟨r1,r2,r3⟩:=fg RT (gs:=gs) (λq s jX Np a b c d=>ihP k q s RT jX a b (by rw [Np];exact c) d) ((known (s.2.getD k [])).map λu=>Ab u p) (s.1.set k gs,s.2) zg fp MF hmP
   have e: ∀f',fZ n (f'+1) k p s=((known (s.2.getD k [])).map λu=>Ab u p).foldl (λs q=>cv n f' k q s) (s.1.set k gs,s.2):= λf'=>by simp only [fZ];rw [if_neg hh,jU]
   refine ⟨?_,λf' CQ=>by obtain ⟨CO,rfl,RM⟩:=zl f' CQ;rw [e CO,e f];exact r3 CO RM⟩
   rw [e f]
   generalize ((known (s.2.getD k [])).map λu=>Ab u p).foldl (λs q=>cv n f k q s) (s.1.set k gs,s.2)=s' at r1 r2
   have jX:=r1.part
   have ED:s'.1.getD k []=gs:=r1.same.trans fp
   have hHd: ∀y t g,(s'.2.getD k []).getD y none=some t->some g∈gs->Hd n k s' (Ab t g):= λy t g ht yc=>by
    rcases r1.new y t ht with e1|e1
    ·have e1:(s.2.getD k []).getD y none=some t:=e1
     by_cases Oe:g=p
     ·subst Oe
      exact r2 _ (List.mem_map.2 ⟨t,fF.2 ⟨y,e1⟩,rfl⟩)
     ·have hg0:some g∈s.1.getD k []:=by
       rw [<-jU] at yc
       rcases List.mem_append.1 yc with h|h
       ·exact h
       ·rw [List.mem_singleton] at h;cases h;exact absurd rfl Oe
      obtain ⟨x1,x2,x3⟩:=zg.tg RT e1 (by rw [fp];exact yc)
      refine r1.Cn _ x1 x2 ?_
      obtain ⟨t',um⟩:=Option.ne_none_iff_exists'.1 (c2.cl y t g e1 hg0)
      refine ⟨t',by show (s.2.getD k []).getD _ none=_;rw [x3];exact um,?_⟩
      show Ee s.2 (n-(k+1)) (k+1) _=true
      rw [zf]
      exact c2.sg y t g t' e1 hg0 um
    ·exact e1 g (by rw [fp];exact yc)
   have Acq:WY n k gs (s'.2.getD k []) (λq=>Ee s'.2 m (k+1) q=true):=by
    have hr:=jX.row
    rw [ED] at hr
    refine ⟨hg,hr.rl,hr.r0,hr.rt,λy t g ht yc=>?_,λy t g t' ht yc um=>?_⟩
    ·obtain ⟨t',um,_⟩:=hHd y t g ht yc
     obtain ⟨_,_,x3⟩:=jX.tg RT ht (by rw [ED];exact yc)
     rw [<-x3,um];simp
    ·obtain ⟨t'',Ahm,hx⟩:=hHd y t g ht yc
     obtain ⟨_,_,x3⟩:=jX.tg RT ht (by rw [ED];exact yc)
     rw [x3,um] at Ahm
     cases Ahm
     rw [<-zf];exact hx
   have z9:fX n (m+1) k s':=⟨by rw [<-zf];exact jX.comp,by rw [ED];exact Acq,λg yc=>jX.sub g yc⟩
   have dO:Gn n (s'.1.getD k []) p:=by rw [ED];exact Yk.one hS Vd
   have pT:=iP.trans r1.grow (Nat.le_refl _)
   rw [hm]
   refine ⟨⟨jX.l1,jX.l2,z9,by rw [<-zf];exact jX.gb,?_⟩,pT,dO,λo ho=>?_⟩
   ·have hold:=uh.2
    obtain ⟨p1,p2⟩:=qJ pT.UM pT.rQ (m+1) k
    have Ek:ed s.2 (m+1) k≠ed s'.2 (m+1) k:= λe=>by
     have:=Yz (m+1) k p (p2 e)
     rw [(Oo h1 h2 (m+1) k s' (by omega) z9 p hp hf).2 dO] at this
     rw [hm] at hh
     exact hh this.symm
    rw [ED,<-jU,List.length_append,List.length_singleton]
    omega
   ·rw [ED,<-jU] at ho
    rcases List.mem_append.1 ho with ho|ho
    ·exact .inl ho
    ·rw [List.mem_singleton] at ho;exact .inr ho
  ·
   have zl: ∀f',f+1<=f'-> ∃CO,f'=CO+1/\f<=CO:= λf' h=>⟨f'-1,by omega,by omega⟩
   have hS:=Yl.pms h1 h2
   have hmul:(n-k)*(n+2)=(n-(k+1))*(n+2)+(n+2):=by
    rw [show n-k=n-(k+1)+1 by omega,Nat.add_mul,Nat.one_mul]
   cases Gj:(s.2.getD k []).getD (ap q k) none with
   |some t=>
    have e: ∀f',cv n (f'+1) k q s=fZ n f' (k+1) (Ab q (Ai t)) s:= λf'=>by simp only [cv];rw [Gj]
    obtain ⟨t1,t2,t3,t4⟩:=Yl.row.rt _ _ Gj
    have hx:=hq.comp t1.inv
    have hfx:=Fx.div hq t1 hf t2 hk t3
    have hxg:Gn n (s.1.getD k []) (Ab q (Ai t)):=Yk.comp hS CR (Yk.oN hS t4)
    obtain ⟨a1,a2⟩:=ihG (k+1) _ s (by omega) Yl.v hx hfx (by unfold KI;unfold jo at WV;omega)
    refine ⟨?_,λf' CQ=>by obtain ⟨CO,rfl,RM⟩:=zl f' CQ;rw [e CO,e f];exact a2 CO RM⟩
    rw [e f]
    generalize fZ n f (k+1) (Ab q (Ai t)) s=s' at a1
    obtain ⟨av,ag,ai,ags⟩:=a1
    obtain ⟨w1,w2,w3,w4⟩:=av
    obtain ⟨lo1,lo2⟩:=ag.low k (by omega)
    have Amr:Part n k s':=⟨w1,w2,by rw [lo1];exact Yl.pg,by rw [lo1,lo2];exact Yl.row,w3,w4,λg yc=>by
     rw [lo1]
     rcases ags _ yc with h|h
     ·exact Yl.sub g h
     ·cases h;exact hxg⟩
    refine ⟨⟨ag.En (by omega),lo1,Amr,λq' q1 q2 ⟨t',e1,e2⟩=>?_,λy t e=> .inl (by rw [lo2] at e;exact e)⟩,t,by rw [lo2];exact Gj,?_⟩
    ·obtain ⟨u1,u2,u3,_⟩:=Yl.row.rt _ _ e1
     exact ⟨t',by rw [lo2];exact e1,z7 h1 h2 hk Yl.comp w3 (ag.En (by omega)) (q1.comp u1.inv) (Fx.div q1 u1 q2 u2 hk u3) e2⟩
    ·exact (Oo h1 h2 _ (k+1) s' (by omega) w3 _ hx hfx).2 ai
   |none=>
    have e: ∀f',cv n (f'+1) k q s=((s.1.getD k []).map λo=>Ab q (o.getD [])).foldl (λs q=>cv n f' k q s) (s.1,s.2.set k ((s.2.getD k []).set (ap q k) (some q))):= λf'=>by simp only [cv];rw [Gj]
    have hy:ap q k<n:=hq.lt hk
    have YB:=Yl.row.rl
    have hyk:ap q k≠k:= λh=>by rw [h,Yl.row.r0] at Gj;cases Gj
    have s8:=Yl.l2
    generalize ng:(s.2.getD k []).set (ap q k) (some q)=Rq
    have bk: ∀y,Rq.getD y none=if ap q k=y then some q else (s.2.getD k []).getD y none:= λy=>by
     rw [<-ng,Gs]
     by_cases h:ap q k=y
     ·rw [if_pos ⟨h,by omega⟩,if_pos h]
     ·rw [if_neg λhh=>h hh.1,if_neg h]
    have s12: ∀i,(s.2.set k Rq).getD i []=if i=k then Rq else s.2.getD i []:= λi=>by
     rw [Gs]
     by_cases e:k=i
     ·subst e;rw [if_pos ⟨rfl,by omega⟩,if_pos rfl]
     ·rw [if_neg (λhh=>e hh.1),if_neg (Ne.symm e)]
    have uo: ∀i,k+1<=i->s.1.getD i []=s.1.getD i []/\(s.2.set k Rq).getD i []=s.2.getD i []:= λi hi=>⟨rfl,by rw [s12 i,if_neg (by omega)]⟩
    have RQ:((s.1,s.2.set k Rq):Aw×Aw).2.getD k []=Rq:=by show (s.2.set k Rq).getD k []=Rq;rw [s12 k,if_pos rfl]
    have zg:Part n k (s.1,s.2.set k Rq):=by
     refine ⟨Yl.l1,by simpa using s8,Yl.pg,?_,Pc _ (k+1) uo Yl.comp,Xk _ (k+1) uo Yl.gb,Yl.sub⟩
     rw [RQ]
     refine ⟨by rw [<-ng,List.length_set];exact YB,by rw [bk k,if_neg hyk];exact Yl.row.r0,λy t e=>?_⟩
     rw [bk y] at e
     split at e
     ·rename_i h
      cases e
      exact ⟨hq,hf,h,CR⟩
     ·exact Yl.row.rt y t e
    have iP:Qo k s (s.1,s.2.set k Rq):=by
     refine ⟨rfl,by simp,λi hi=>⟨rfl,?_⟩,λi o ho=>ho,λi y t et=>?_,λi=>?_⟩
     ·show (s.2.set k Rq).getD i []=_;rw [s12 i,if_neg (by omega)]
     ·show ((s.2.set k Rq).getD i []).getD y none=some t
      rw [s12 i]
      split
      ·rename_i hi
       subst hi
       rw [bk y]
       split
       ·rename_i h;rw [<-h,Gj] at et;cases et
       ·exact et
      ·exact et
     ·show ((s.2.set k Rq).getD i []).length=_
      rw [s12 i]
      split
      ·rename_i hi;subst hi;rw [<-ng,List.length_set]
      ·rfl
    have hnn:Hj Rq+1=Hj (s.2.getD k []):=by rw [<-ng];exact lX Gj (by omega)
    have hmP:jo n k (s.1,s.2.set k Rq)<=f:=by
     unfold jo
     rw [RQ]
     unfold jo at WV
     omega
    have MF: ∀x∈(s.1.getD k []).map (λo=>Ab q (o.getD [])),Pm n x/\Fx k x/\Gn n (s.1.getD k []) x:= λx hx=>by
     obtain ⟨o,ho,rfl⟩:=List.mem_map.1 hx
     obtain ⟨g,rfl,g1,g2⟩:=Yl.pg o ho
     exact ⟨hq.comp g1,Fx.comp hq g1 hf g2 (by omega), .mul CR ho⟩
    obtain ⟨r1,r2,r3⟩:=fg hk (gs:=s.1.getD k []) (λq s jX Np a b c d=>ihP k q s hk jX a b (by rw [Np];exact c) d) ((s.1.getD k []).map λo=>Ab q (o.getD [])) (s.1,s.2.set k Rq) zg rfl MF hmP
    have e': ∀f',cv n (f'+1) k q s=((s.1.getD k []).map λo=>Ab q (o.getD [])).foldl (λs q=>cv n f' k q s) (s.1,s.2.set k Rq):= λf'=>by rw [e f',ng]
    refine ⟨?_,λf' CQ=>by obtain ⟨CO,rfl,RM⟩:=zl f' CQ;rw [e' CO,e' f];exact r3 CO RM⟩
    rw [e' f]
    generalize ((s.1.getD k []).map λo=>Ab q (o.getD [])).foldl (λs q=>cv n f k q s) (s.1,s.2.set k Rq)=s' at r1 r2
    have zk:s'.1.getD k []=s.1.getD k []:=r1.same
    have Ack: ∀x,Pm n x->Fx k x->Hd n k s x->Hd n k (s.1,s.2.set k Rq) x:= λx x1 x2 ⟨t',e1,e2⟩=>by
     obtain ⟨u1,u2,u3,_⟩:=Yl.row.rt _ _ e1
     exact ⟨t',iP.rQ k _ _ e1,z7 h1 h2 hk Yl.comp zg.comp iP (x1.comp u1.inv) (Fx.div x1 u1 x2 u2 hk u3) e2⟩
    have hqq:(s'.2.getD k []).getD (ap q k) none=some q:=r1.grow.rQ k _ _ (by rw [RQ,bk,if_pos rfl])
    refine ⟨⟨iP.trans r1.grow (Nat.le_refl _),zk,r1.part,λx x1 x2 x3=>r1.Cn x x1 x2 (Ack x x1 x2 x3),λy t ht=>?_⟩,q,hqq,?_⟩
    ·rcases r1.new y t ht with e1|e1
     ·rw [RQ,bk y] at e1
      split at e1
      ·cases e1
       refine .inr λg hg=>r2 _ (List.mem_map.2 ⟨some g,hg,rfl⟩)
      ·exact .inl e1
     ·exact .inr e1
    ·rw [jA hq]
     exact (Oo h1 h2 _ (k+1) s' (by omega) r1.part.comp _ (Pm.id h1 h2) (λi hi=>gw (by omega))).2 .id
end Go.Proofs.YtfolipnappekaaaGreat

namespace Go.Proofs.YtfolipnappekaaaGreat
open Go.RowKit
theorem IV {n f k:Nat} {p:List Int} {s:Aw×Aw} :fZ n (f+1) k p s=if Ee s.2 (n-k) k p=true then s else
  ((known (s.2.getD k [])).map λu=>Ab u p).foldl (λs q=>cv n f k q s) (s.1.set k (s.1.getD k []++ [some p]),s.2):=by simp only [fZ]
theorem IW {n f k:Nat} {p:List Int} {s:Aw×Aw} :cv n (f+1) k p s=match (s.2.getD k []).getD (ap p k) none with
  |some t=>fZ n f (k+1) (Ab p (Ai t)) s
  |none=>((s.1.getD k []).map λo=>Ab p (o.getD [])).foldl (λs q=>cv n f k q s) (s.1,s.2.set k ((s.2.getD k []).set (ap p k) (some p))):=by simp only [cv]<;>rfl
theorem Ab9 {n k:Nat} (h2:n<=20):(n-k)*(n+2)<=440:=Nat.le_trans (Nat.mul_le_mul (show n-k<=20 by omega) (show n+2<=22 by omega)) (by omega)
theorem TN {n k f:Nat} (h2:n<=20) (hf:500<=f):KI n k<=f:=by have:=Ab9 (k:=k) h2;unfold KI;omega
theorem Adl {n k f:Nat} {s:Aw×Aw} (h2:n<=20) (hp:Part n k s) (hf:500<=f):jo n k s<=f:=by
 have:=Ab9 (k:=k) h2
 have h:=e8 (s.2.getD k [])
 have hr:=hp.row.rl
 unfold jo;omega
theorem Abk {n k:Nat} (h1:1<=n) (h2:n<=20) {p:List Int} {s:Aw×Aw} (hk:k<=n) (hv:V n (n-k) k s) (hp:Pm n p) (hf:Fx k p):PX n (n-k) k s p (fZ n 1000 k p s):=
 ((IX h1 h2 1000).1 k p s hk hv hp hf (TN h2 (by omega))).1
def dF (n k:Nat) (qs:List (List Int)) (s:Aw×Aw):Aw×Aw:=qs.foldl (λs q=>cv n 1000 k q s) s
theorem pG {n k:Nat} (h1:1<=n) (h2:n<=20) (hk:k<n) {qs:List (List Int)} {s:Aw×Aw} (hp:Part n k s) (hq: ∀q∈qs,Pm n q/\Fx k q/\Gn n (s.1.getD k []) q):
  Yo n k s (dF n k qs s)/\qs.foldl (λs q=>cv n 999 k q s) s=dF n k qs s:=by
 have h:=fg hk (f:=999) (gs:=s.1.getD k []) (λq s' jX Np a b c d=>(IX h1 h2 999).2 k q s' hk jX a b (by rw [Np];exact c) d) qs s hp rfl hq (Adl h2 hp (by omega))
 have e:=h.2.2 1000 (by omega)
 refine ⟨?_,e.symm⟩
 unfold dF
 rw [e];exact h.1
theorem pH {n k:Nat} {qs:List (List Int)} {s:Aw×Aw} {j:Nat} (hj:j<qs.length):dF n k (qs.take (j+1)) s=cv n 1000 k qs[j] (dF n k (qs.take j) s):=by
 unfold dF
 rw [List.take_add_one,List.getElem?_eq_getElem hj,Option.toList_some,List.foldl_append]
 rfl
theorem yj {n k:Nat} (h1:1<=n) (h2:n<=20) {p:List Int} {s:Aw×Aw} (RT:k<n) (hv:V n (n-k) k s) (hp:Pm n p) (hf:Fx k p):
  Part n k (s.1.set k (s.1.getD k []++ [some p]),s.2)/\ ∀q∈(known (s.2.getD k [])).map (λu=>Ab u p),Pm n q/\Fx k q/\Gn n ((s.1.set k (s.1.getD k []++ [some p])).getD k []) q:=by
 obtain ⟨v1,v2,hc,uh⟩:=hv
 obtain ⟨m,hm⟩: ∃m,n-k=m+1:=⟨n-k-1,by omega⟩
 have zf:n-(k+1)=m:=by omega
 rw [hm] at hc uh
 obtain ⟨c1,c2,c3⟩:=hc
 generalize jU:s.1.getD k []++ [some p]=gs
 have Vd:some p∈gs:=by rw [<-jU];simp
 have Kz: ∀o∈s.1.getD k [],o∈gs:= λo ho=>by rw [<-jU];exact List.mem_append_left _ ho
 have hg:PG n k gs:= λo ho=>by
  rw [<-jU] at ho
  rcases List.mem_append.1 ho with ho|ho
  ·exact c2.pg o ho
  ·rw [List.mem_singleton] at ho;exact ⟨p,ho,hp,hf⟩
 have qU: ∀i,(s.1.set k gs).getD i []=if i=k then gs else s.1.getD i []:= λi=>by
  rw [Gs]
  by_cases e:k=i
  ·subst e;rw [if_pos ⟨rfl,by omega⟩,if_pos rfl]
  ·rw [if_neg (λhh=>e hh.1),if_neg (Ne.symm e)]
 have uo: ∀i,k+1<=i->(s.1.set k gs).getD i []=s.1.getD i []/\s.2.getD i []=s.2.getD i []:= λi hi=>⟨by rw [qU i,if_neg (by omega)],rfl⟩
 refine ⟨⟨by simpa using v1,v2,?_,?_,?_,?_,λg Np=>?_⟩,λq hq=>?_⟩
 ·show PG n k ((s.1.set k gs).getD k []);rw [qU k,if_pos rfl];exact hg
 ·show Pp n k ((s.1.set k gs).getD k []) _
  rw [qU k,if_pos rfl]
  exact ⟨c2.rl,c2.r0,λy t e=>⟨(c2.rt y t e).1,(c2.rt y t e).2.1,(c2.rt y t e).2.2.1,(c2.rt y t e).2.2.2.mono λg hg=>Kz _ hg⟩⟩
 ·rw [zf];exact Pc m (k+1) uo c1
 ·rw [zf];exact Xk m (k+1) uo uh.1
 ·have Np:some g∈(s.1.set k gs).getD (k+1) []:=Np
  rw [(uo (k+1) (Nat.le_refl _)).1] at Np
  show Gn n ((s.1.set k gs).getD k []) g
  rw [qU k,if_pos rfl]
  exact (c3 g Np).mono λg hg=>Kz _ hg
 ·rw [qU k,if_pos rfl]
  obtain ⟨u,hu,rfl⟩:=List.mem_map.1 hq
  obtain ⟨y,hy⟩:=fF.1 hu
  obtain ⟨t1,t2,t3,t4⟩:=c2.rt _ _ hy
  exact ⟨t1.comp hp,Fx.comp t1 hp t2 hf (by omega), .mul (t4.mono λg hg=>Kz _ hg) Vd⟩
theorem QJ {n k:Nat} (h1:1<=n) (h2:n<=20) {p:List Int} {s:Aw×Aw} (RT:k<n) (hv:V n (n-k) k s) (hp:Pm n p) (hf:Fx k p) (hh: ¬Ee s.2 (n-k) k p=true):
  fZ n 1000 k p s=dF n k ((known (s.2.getD k [])).map λu=>Ab u p) (s.1.set k (s.1.getD k []++ [some p]),s.2):=by
 obtain ⟨a1,a2⟩:=yj h1 h2 RT hv hp hf
 rw [<-(pG h1 h2 RT a1 a2).2]
 exact (IV (f:=999)).trans (if_neg hh)
theorem IU {n k:Nat} {p:List Int} {s:Aw×Aw} (hh:Ee s.2 (n-k) k p=true):fZ n 1000 k p s=s:=by
 exact (IV (f:=999)).trans (if_pos hh)
theorem QL {n k:Nat} (h1:1<=n) (h2:n<=20) {q t:List Int} {s:Aw×Aw} (hk:k<n) (Yl:Part n k s) (hq:Pm n q) (hf:Fx k q) (Gj:(s.2.getD k []).getD (ap q k) none=some t):
  cv n 1000 k q s=fZ n 1000 (k+1) (Ab q (Ai t)) s:=by
 obtain ⟨t1,t2,t3,t4⟩:=Yl.row.rt _ _ Gj
 rw [((IX h1 h2 999).1 (k+1) _ s (by omega) Yl.v (hq.comp t1.inv) (Fx.div hq t1 hf t2 hk t3) (TN h2 (by omega))).2 1000 (by omega)]
 refine (IW (f:=999)).trans ?_
 rw [Gj]
theorem yk {n k:Nat} {q:List Int} {s:Aw×Aw} (hk:k<n) (Yl:Part n k s) (hq:Pm n q) (hf:Fx k q) (CR:Gn n (s.1.getD k []) q) (Gj:(s.2.getD k []).getD (ap q k) none=none):
  Part n k (s.1,s.2.set k ((s.2.getD k []).set (ap q k) (some q)))/\ ∀x∈(s.1.getD k []).map (λo=>Ab q (o.getD [])),Pm n x/\Fx k x/\Gn n (s.1.getD k []) x:=by
 have YB:=Yl.row.rl
 have hy:ap q k<n:=hq.lt hk
 have hyk:ap q k≠k:= λh=>by rw [h,Yl.row.r0] at Gj;cases Gj
 have s8:=Yl.l2
 generalize ng:(s.2.getD k []).set (ap q k) (some q)=Rq
 have bk: ∀y,Rq.getD y none=if ap q k=y then some q else (s.2.getD k []).getD y none:= λy=>by
  rw [<-ng,Gs]
  by_cases h:ap q k=y
  ·rw [if_pos ⟨h,by omega⟩,if_pos h]
  ·rw [if_neg λhh=>h hh.1,if_neg h]
 have s12: ∀i,(s.2.set k Rq).getD i []=if i=k then Rq else s.2.getD i []:= λi=>by
  rw [Gs]
  by_cases e:k=i
  ·subst e;rw [if_pos ⟨rfl,by omega⟩,if_pos rfl]
  ·rw [if_neg (λhh=>e hh.1),if_neg (Ne.symm e)]
 have uo: ∀i,k+1<=i->s.1.getD i []=s.1.getD i []/\(s.2.set k Rq).getD i []=s.2.getD i []:= λi hi=>⟨rfl,by rw [s12 i,if_neg (by omega)]⟩
 have RQ:((s.1,s.2.set k Rq):Aw×Aw).2.getD k []=Rq:=by show (s.2.set k Rq).getD k []=Rq;rw [s12 k,if_pos rfl]
 refine ⟨⟨Yl.l1,by simpa using s8,Yl.pg,?_,Pc _ (k+1) uo Yl.comp,Xk _ (k+1) uo Yl.gb,Yl.sub⟩,λx hx=>?_⟩
 ·rw [RQ]
  refine ⟨by rw [<-ng,List.length_set];exact YB,by rw [bk k,if_neg hyk];exact Yl.row.r0,λy t e=>?_⟩
  rw [bk y] at e
  split at e
  ·rename_i h
   cases e
   exact ⟨hq,hf,h,CR⟩
  ·exact Yl.row.rt y t e
 ·obtain ⟨o,ho,rfl⟩:=List.mem_map.1 hx
  obtain ⟨g,rfl,g1,g2⟩:=Yl.pg o ho
  exact ⟨hq.comp g1,Fx.comp hq g1 hf g2 (by omega), .mul CR ho⟩
theorem QK {n k:Nat} (h1:1<=n) (h2:n<=20) {q:List Int} {s:Aw×Aw} (hk:k<n) (Yl:Part n k s) (hq:Pm n q) (hf:Fx k q) (CR:Gn n (s.1.getD k []) q) (Gj:(s.2.getD k []).getD (ap q k) none=none):
  cv n 1000 k q s=dF n k ((s.1.getD k []).map λo=>Ab q (o.getD [])) (s.1,s.2.set k ((s.2.getD k []).set (ap q k) (some q))):=by
 obtain ⟨a1,a2⟩:=yk hk Yl hq hf CR Gj
 rw [<-(pG h1 h2 hk a1 a2).2]
 refine (IW (f:=999)).trans ?_
 rw [Gj]
def Kv (n:Nat) (gens:List PO):Aw×Aw:=gens.foldl (λs o=>fZ n 1000 0 (o.getD []) s) (Oa n,Tp n)
theorem vI {n:Nat} {gens:List PO} {j:Nat} (hj:j<gens.length):Kv n (gens.take (j+1))=fZ n 1000 0 (gens[j].getD []) (Kv n (gens.take j)):=by
 unfold Kv
 rw [List.take_add_one,List.getElem?_eq_getElem hj,Option.toList_some,List.foldl_append]
 rfl
theorem iy {n:Nat} (h1:1<=n) (h2:n<=20): ∀(gens:List PO) (s:Aw×Aw),PmL n gens->V n n 0 s->V n n 0 (gens.foldl (λs o=>fZ n 1000 0 (o.getD []) s) s)/\
  Qo 0 s (gens.foldl (λs o=>fZ n 1000 0 (o.getD []) s) s)/\(∀g,some g∈gens->Gn n ((gens.foldl (λs o=>fZ n 1000 0 (o.getD []) s) s).1.getD 0 []) g)/\ ∀o∈(gens.foldl (λs o=>fZ n 1000 0 (o.getD []) s) s).1.getD 0 [],o∈s.1.getD 0 []\/o∈gens
 | [],s,_,hv=>⟨hv,Qo.refl _ _,(λ_ hg=>by cases hg),λ_ ho=> .inl ho⟩
 |o::gens,s,hg,hv=>by
  obtain ⟨g,rfl,Oe⟩:=hg o (by simp)
  have ha:=Abk h1 h2 (k:=0) (Nat.zero_le _) (by rw [Nat.sub_zero];exact hv) Oe (λi hi=>absurd hi (Nat.not_lt_zero _))
  have JN:=ha.v
  rw [Nat.sub_zero] at JN
  obtain ⟨a1,a2,a3,a4⟩:=iy h1 h2 gens (fZ n 1000 0 g s) (λo ho=>hg o (by simp [ho])) JN
  refine ⟨a1,ha.grow.trans a2 (Nat.le_refl _),λg' Np=>?_,λo ho=>?_⟩
  ·rcases List.mem_cons.1 Np with e|Np
   ·cases e;exact ha.Adh.mono λg hg=>a2.uc _ _ hg
   ·exact a3 g' Np
  ·rcases a4 o ho with h|h
   ·rcases ha.gens o h with h|h
    ·exact .inl h
    ·exact .inr (by simp [h])
   ·exact .inr (by simp [h])
theorem tU {n:Nat} (h1:1<=n) (h2:n<=20) {gens:List PO} (hg:PmL n gens):V n n 0 (Kv n gens):=(iy h1 h2 gens _ hg (oT h1 h2)).1
theorem z6 {n:Nat} (h1:1<=n) (h2:n<=20) {gens:List PO} (hg:PmL n gens) {p:List Int} (hp:Pm n p):Ee (Kv n gens).2 n 0 p=true↔Gn n gens p:=by
 obtain ⟨a1,a2,a3,a4⟩:=iy h1 h2 gens _ hg (oT h1 h2)
 have hS:yi n λg=>some g∈gens:=⟨⟨h1,h2⟩,λg Np=>by obtain ⟨g',e,h⟩:=hg _ Np;cases e;exact h⟩
 have Kz: ∀g,some g∈(Kv n gens).1.getD 0 []->some g∈gens:= λg Np=>by
  rcases a4 _ Np with h|h
  ·have h:some g∈(Oa n).getD 0 []:=h
   rw [To] at h;cases h
  ·exact h
 have hS':yi n λg=>some g∈(Kv n gens).1.getD 0 []:=⟨⟨h1,h2⟩,λg Np=>hS.2 g (Kz g Np)⟩
 refine (Oo h1 h2 n 0 (Kv n gens) (by omega) a1.2.2.1 p hp λi hi=>absurd hi (Nat.not_lt_zero _)).trans ⟨λh=>h.mono Kz,λh=>h.trans hS' λg Np=>a3 g Np⟩
end Go.Proofs.YtfolipnappekaaaGreat

namespace Go.Proofs.YtfolipnappekaaaGreat
open Go.RowKit
def Jp (T:Aw):Nat->Nat->List Int->List Int×Int×Unit
 |0,l,p=>(p,(l:Int),())
 |k+1,l,p=>match (T.getD l []).getD (Ja p (l:Int)).toNat none with
  |none=>(p,(l:Int),())
  |some t=>Jp T k (l+1) (Ab p (Ai t))
theorem r6 {T:Aw} : ∀(k l:Nat) (p:List Int),(Jp T k l p).2.1=((l+k:Nat):Int)↔Ee T k l p=true
 |0,l,p=>by simp [Jp,Ee]
 |k+1,l,p=>by
  unfold Jp Ee
  cases (T.getD l []).getD (Ja p (l:Int)).toNat none with
  |none=>
   constructor
   ·intro h
    have h:(l:Int)=((l+(k+1):Nat):Int):=h
    omega
   ·intro h;cases h
  |some t=>
   have h:=r6 (T:=T) k (l+1) (Ab p (Ai t))
   rw [show l+1+k=l+(k+1) by omega] at h
   exact h
theorem EZ {row:Row} {y:Nat} (h:y<row.length):known (row.take (y+1))=known (row.take y)++(row[y]).toList:=by
 unfold known
 rw [List.take_succ_eq_append_getElem h,List.filterMap_append]
 cases row[y]<;>rfl
theorem uz (row:Row):(known row).length<=row.length:=List.length_filterMap_le _ _
theorem ub {n k:Nat} (h1:1<=n) (h2:n<=20) (hk:k<n) {qs:List (List Int)} {s:Aw×Aw} (hp:Part n k s) (hq: ∀q∈qs,Pm n q/\Fx k q/\Gn n (s.1.getD k []) q) (j:Nat):Yo n k s (dF n k (qs.take j) s):=
 (pG h1 h2 hk hp λq h=>hq q (List.mem_of_mem_take h)).1
theorem FH {n k:Nat} {s:Aw×Aw} (hp:Part n k s):jo n k s<KI n k:=by
 have h:=e8 (s.2.getD k [])
 have hr:=hp.row.rl
 unfold jo KI
 omega
theorem TO {n k:Nat} {s:Aw×Aw} (hk:k<n):KI n (k+1)<jo n k s:=by
 obtain ⟨m,hm⟩: ∃m,n-k=m+1:=⟨n-k-1,by omega⟩
 have zf:n-(k+1)=m:=by omega
 unfold KI jo
 rw [hm,zf,Nat.succ_mul]
 omega
theorem YL {n k y:Nat} {s:Aw×Aw} {q:List Int} (hk:k<s.2.length) (hy:y<(s.2.getD k []).length) (h:(s.2.getD k []).getD y none=none):
  jo n k (s.1,s.2.set k ((s.2.getD k []).set y (some q)))+1=jo n k s:=by
 have h1:=lX (t:=q) h hy
 have h2:(s.2.set k ((s.2.getD k []).set y (some q))).getD k []=(s.2.getD k []).set y (some q):=by
  rw [Gs,if_pos ⟨rfl,hk⟩]
 unfold jo
 show _+Hj ((s.2.set k ((s.2.getD k []).set y (some q))).getD k [])+1=_
 rw [h2]
 omega
def lA (n:Int) (g:List (List Int)):Aw×Aw:=Kv n.toNat (g.map some)
end Go.Proofs.YtfolipnappekaaaGreat

namespace Go.Proofs.YtfolipnappekaaaGreat
open Go.RowKit
abbrev BB:Type:=List TT×List (ByteArray->Option Int)×Unit
def OT:List (List Int)->List Int->(ByteArray->Option Int)->ByteArray->Option Int
 |x::xs,d::ds,m=>OT xs ds (eQ m (Rx x) d)
 |_,_,m=>m
def Qy (t:TT):ByteArray->Option Int:=OT t.2.1 t.2.2.1 λ_=>none
def Cq (ts:List TT):BB:=(ts,ts.map Qy,())
structure KZ (t:TT):Prop where
 so:t.2.1.length<=3000
 len:t.2.2.1.length=t.2.1.length
 nodup:t.2.1.Nodup
 byte: ∀x∈t.2.1,cy x
 Akw: ∀d∈t.2.2.1,0<=d/\d<=3000
 tl:t.1.length<=20
 pl: ∀x∈t.2.1,x.length<=20
def Uz (ts:List TT):Prop:=ts.length<=4/\ ∀t∈ts,KZ t
def bJ (t:TT) (s:List Int):Int:=t.2.2.1.getD (t.2.1.idxOf (Cb s t.1)) 0
def Pg (ts:List TT) (s:List Int):List Int:=ts.map λt=>bJ t s
def Pw (ts:List TT) (s:List Int):Int:=(Pg ts s).foldl max 0
def Zv (ts:List TT) (s:List Int):Prop:=s.length<=20/\ ∀t∈ts,Hz s.length t.1/\Cb s t.1∈t.2.1
noncomputable abbrev Qc:Spec:=Cg (.pair tv .unit) (.optr Uc) false false (λx=>Uz x.1) (λx=>some (Cq x.1))
def PZ (b:Option BB) (s:List Int):Prop:= ∃ts,Uz ts/\b=some (Cq ts)/\Zv ts s
def TI (b:Option BB) (s:List Int):List Int:=match b with|some b=>Pg b.1 s|none=> []
def Xt (b:Option BB) (s:List Int):Int:=match b with|some b=>Pw b.1 s|none=>0
noncomputable abbrev uU:Spec:=Cg (.pair (.optr Uc) (.pair tL .unit)) tL false true (λx=>PZ x.1 x.2.1) (λx=>TI x.1 x.2.1)
noncomputable abbrev fO:Spec:=Cg (.pair (.optr Uc) (.pair tL .unit)) tI false true (λx=>PZ x.1 x.2.1) (λx=>Xt x.1 x.2.1)
noncomputable abbrev aX:Spec:=Cg (.pair tv (.pair tL .unit)) tL false true (λx=>Uz x.1/\Zv x.1 x.2.1) (λx=>Pg x.1 x.2.1)
noncomputable abbrev fN:Spec:=Cg (.pair tv (.pair tL .unit)) tI false true (λx=>Uz x.1/\Zv x.1 x.2.1) (λx=>Pw x.1 x.2.1)
abbrev kY:Type:=Int×List Int×List (List Int)×List Int×List (List Int×List (List Int)×List Int×PUnit)×(ByteArray->Option Int)×List (ByteArray->Option Int)×PUnit
abbrev l4:Type:=Int×List (List Int×List (List Int)×List Int×PUnit)×List (ByteArray->Option Int)×PUnit
theorem CE (ts:List (List Int×List (List Int)×List Int×Unit)) (P:Option (List (List Int×List (List Int)×List Int×Unit)×List (ByteArray->Option Int)×Unit)->Prop):(0=0/\0=([]:List Int).length/\Bk (λ(v2:l4) (k3:l4->Prop)=>Br (decide (v2.1<(↑ts.length:Int))) (∃(y4:List Int×List (List Int)×List Int×PUnit),idx ts v2.1=some y4/\0=0/\v2.2.2.1.length=v2.2.2.1.length/\Bk (λ(v5:kY) (k6:kY->Prop)=>Br (decide (v5.1<(↑y4.2.1.length:Int))) (∃(y7:List Int),idx y4.2.1 v5.1=some y7/\ ∃(y8:ByteArray),Ge.fn (y7,())=some y8/\ ∃(y9:Int),idx v5.2.2.2.1 v5.1=some y9/\0=0/\v5.2.2.2.2.2.2.1.length=v5.2.2.2.2.2.2.1.length/\k6 (IntKind.i64.wrap (v5.1+(1:Int)),v5.2.1,v5.2.2.1,v5.2.2.2.1,v5.2.2.2.2.1,eQ v5.2.2.2.2.2.1 y8 y9,v5.2.2.2.2.2.2.1,())) (0=0/\v5.2.2.2.2.2.2.1.length=v5.2.2.2.2.2.2.1.length/\v5.2.2.2.2.2.2.1.length+(List.take 1 (List.drop 0 [v5.2.2.2.2.2.1])).length<=Be/\0=0/\(v5.2.2.2.2.2.2.1++List.take 1 (List.drop 0 [v5.2.2.2.2.2.1])).length=(v5.2.2.2.2.2.2.1++List.take 1 (List.drop 0 [v5.2.2.2.2.2.1])).length/\k3 (IntKind.i64.wrap (v2.1+(1:Int)),v5.2.2.2.2.1,v5.2.2.2.2.2.2.1++List.take 1 (List.drop 0 [v5.2.2.2.2.2.1]),()))) ((0:Int),y4.1,y4.2.1,y4.2.2.1,v2.2.1,λ(_:ByteArray)=>none,v2.2.2.1,PUnit.unit)) (P (some (v2.2.1,List.take v2.2.2.1.length (List.drop 0 v2.2.2.1),())))) ((0:Int),ts,[],PUnit.unit))=fnW (HS [Ux+101101]) (look [(79,Ge)]) Qc Tryz.f64 (ts,()) P:=by kernel_rfl
abbrev VA:Type:=List (List Int×List (List Int)×List Int×PUnit)×List (ByteArray->Option Int)×PUnit
theorem Aj0 (b:Option (List (List Int×List (List Int)×List Int×Unit)×List (ByteArray->Option Int)×Unit)) (s:List Int) (P:List Int->Prop):(∃(y3:VA),b=some y3/\0=0/\0=([]:List Int).length/\Bk (λ(v4:Int×List Int×PUnit) (k5:Int×List Int×PUnit->Prop)=>Br (decide (v4.1<(↑y3.1.length:Int))) (∃(y6:List Int×List (List Int)×List Int×PUnit),idx y3.1 v4.1=some y6/\ ∃(y7:VA),b=some y7/\ ∃(y8:ByteArray->Option Int),idx y7.2.1 v4.1=some y8/\ ∃(y9:List Int),Wu.fn (s,y6.1,())=some y9/\ ∃(Iu:ByteArray),Ge.fn (y9,())=some Iu/\0=0/\v4.2.1.length=v4.2.1.length/\v4.2.1.length+(List.take 1 (List.drop 0 [(y8 Iu).getD (Int.ofNat (nat_lit 0))])).length<=Be/\0=0/\(v4.2.1++List.take 1 (List.drop 0 [(y8 Iu).getD (Int.ofNat (nat_lit 0))])).length=(v4.2.1++List.take 1 (List.drop 0 [(y8 Iu).getD (Int.ofNat (nat_lit 0))])).length/\k5 (IntKind.i64.wrap (v4.1+(1:Int)),v4.2.1++List.take 1 (List.drop 0 [(y8 Iu).getD (Int.ofNat (nat_lit 0))]),())) (P (List.take v4.2.1.length (List.drop 0 v4.2.1)))) ((0:Int),[],PUnit.unit))=fnW Cd (look [(79,Ge),(80,Wu)]) uU Tryz.f59 (b,s,()) P:=by kernel_rfl
theorem ZN (b:Option (List (List Int×List (List Int)×List Int×Unit)×List (ByteArray->Option Int)×Unit)) (s:List Int) (P:Int->Prop):(∃(y3:List Int),uU.fn (b,s,())=some y3/\Bk (λ(v4:Int×Int×PUnit) (k5:Int×Int×PUnit->Prop)=>Br (decide (v4.2.1<(↑y3.length:Int))) (∃(y6:Int),idx y3 v4.2.1=some y6/\k5 (if true=true then if y6>v4.1 then y6 else v4.1 else if y6<v4.1 then y6 else v4.1,IntKind.i64.wrap (v4.2.1+(1:Int)),())) (P v4.1)) ((0:Int),(0:Int),PUnit.unit))=fnW Cd (look [(59,uU)]) fO Tryz.f52 (b,s,()) P:=by kernel_rfl
abbrev mI:Type:=List Int×List (List Int)×List Int×PUnit
theorem VZ (ts:List (List Int×List (List Int)×List Int×Unit)) (s:List Int) (P:List Int->Prop):(0=0/\0=([]:List Int).length/\Bk (λ(v3:Int×List Int×PUnit) (k4:Int×List Int×PUnit->Prop)=>Br (decide (v3.1<(↑ts.length:Int))) (∃(y5:mI),idx ts v3.1=some y5/\ ∃(y6:mI),idx ts v3.1=some y6/\ ∃(y7:mI),idx ts v3.1=some y7/\ ∃(y8:List Int),Wv.fn (y7.1,s,())=some y8/\ ∃(y9:Int),Pn.fn (y6,y8,())=some y9/\ ∃(Iu:Int),idx y5.2.2.1 y9=some Iu/\0=0/\v3.2.1.length=v3.2.1.length/\v3.2.1.length+(List.take 1 (List.drop 0 [Iu])).length<=Be/\0=0/\(v3.2.1++List.take 1 (List.drop 0 [Iu])).length=(v3.2.1++List.take 1 (List.drop 0 [Iu])).length/\k4 (IntKind.i64.wrap (v3.1+(1:Int)),v3.2.1++List.take 1 (List.drop 0 [Iu]),())) (P (List.take v3.2.1.length (List.drop 0 v3.2.1)))) ((0:Int),[],PUnit.unit))=fnW Cd (look [(78,Wv),(77,Pn)]) aX Tryz.f57 (ts,s,()) P:=by kernel_rfl
theorem ZM (ts:List (List Int×List (List Int)×List Int×Unit)) (s:List Int) (P:Int->Prop):(∃(y3:List Int),aX.fn (ts,s,())=some y3/\Bk (λ(v4:Int×Int×PUnit) (k5:Int×Int×PUnit->Prop)=>Br (decide (v4.2.1<(↑y3.length:Int))) (∃(y6:Int),idx y3 v4.2.1=some y6/\k5 (if true=true then if y6>v4.1 then y6 else v4.1 else if y6<v4.1 then y6 else v4.1,IntKind.i64.wrap (v4.2.1+(1:Int)),())) (P v4.1)) ((0:Int),(0:Int),PUnit.unit))=fnW Cd (look [(57,aX)]) fN Tryz.f48 (ts,s,()) P:=by kernel_rfl
theorem KZ.short {t:TT} (h:KZ t):Le t:=by
 have h1:=h.so;have h2:=h.len;have h3:=h.tl
 exact ⟨by unfold _root_.Go.Proofs.YtfolipnappekaaaGreat.short;omega,⟨by omega,λr hr=>by have:=h.pl r hr;unfold _root_.Go.Proofs.YtfolipnappekaaaGreat.short;omega⟩,by unfold _root_.Go.Proofs.YtfolipnappekaaaGreat.short;omega⟩
theorem vu {p:PP} {t:TT} (h:Dj p t=true):KZ t/\Cz p t.1=true/\(Gk p.2.2.1 t.1).2.2=true/\t.2.1=iY p t.1/\t.2.2.1=TJ p t.1:=by
 obtain ⟨h1,h2⟩:=Bool.and_eq_true_iff.1 h
 obtain ⟨h3,h4⟩:=aR.1 h1
 have h5:=lR.1 h2
 unfold Dx at h5
 rw [if_pos h1] at h5
 have e1:t.2.1=iY p t.1:=(congrArg (λz:TT=>z.2.1) h5).symm
 have e2:t.2.2.1=TJ p t.1:=(congrArg (λz:TT=>z.2.2.1) h5).symm
 have hv:=(My.1 h3).1
 have hn:=(valid hv).n
 have dP:=x4 h3
 have gf:=dP.ok.so
 have hlen:=dP.len
 have CT:=dP.ok.short
 refine ⟨⟨by rw [e1];exact gf,by rw [e1,e2];exact hlen,by rw [e1];exact dP.ok.nodup,λx hx=>?_,λd hd=>?_,(Fe h3).1,λx hx=>?_⟩,h3,h4,e1,e2⟩
 ·rw [e1] at hx
  intro y hy
  have:=dP.row x hx y hy
  omega
 ·rw [e2] at hd
  obtain ⟨j,hj,rfl⟩:=List.mem_iff_getElem.1 hd
  have h6:=dP.dep j hj
  have wc:j<(Gk p.2.2.1 t.1).2.1.length:=hj
  exact ⟨h6.1,by have:=h6.2;show (Gk p.2.2.1 t.1).2.1[j]<=3000;omega⟩
 ·rw [e1] at hx
  have:=dP.ok.len x hx
  omega
theorem eO {p:PP} {ts:List TT} (h:De p ts=true):Bx p=true/\Uz ts/\ ∀t∈ts,Dj p t=true:=by
 unfold De at h
 rw [Bool.and_eq_true,Bool.and_eq_true,List.all_eq_true,decide_eq_true_iff] at h
 exact ⟨h.1.1,⟨h.1.2,λt ht=>(vu (h.2 t ht)).1⟩,h.2⟩
theorem BO: ∀(xs:List (List Int)) (ds:List Int) (m:ByteArray->Option Int) (x:List Int),xs.length=ds.length->xs.Nodup->(∀y∈xs,cy y)->cy x->OT xs ds m (Rx x)=if x∈xs then some (ds.getD (xs.idxOf x) 0) else m (Rx x)
 | [],ds,m,x,_,_,_,_=>by cases ds<;>simp [OT]
 |y::xs,[],m,x,hl,_,_,_=>by simp at hl
 |y::xs,d::ds,m,x,hl,hn,hb,hx=>by
  obtain ⟨hy,hn⟩:=List.nodup_cons.1 hn
  simp only [OT]
  rw [BO xs ds _ x (by simpa using hl) hn (λz hz=>hb z (List.mem_cons_of_mem _ hz)) hx]
  by_cases hm:x∈xs
  ·have Ek:y≠x:= λe=>hy (e▸hm)
   have hi:(y::xs).idxOf x=xs.idxOf x+1:=by rw [List.idxOf_cons,show (y==x)=false by simpa using Ek];rfl
   rw [if_pos hm,if_pos (List.mem_cons_of_mem _ hm),hi]
   rfl
  ·rw [if_neg hm]
   unfold eQ
   by_cases e:Rx x=Rx y
   ·have:=key_inj hx (hb y (by simp)) e
    subst this
    rw [if_pos e,if_pos (by simp),List.idxOf_cons_self]
    rfl
   ·have Ek:x≠y:= λh=>e (by rw [h])
    rw [if_neg e,if_neg (by simp [Ek,hm])]
theorem VR {t:TT} (h:KZ t) {x:List Int} (hx:x∈t.2.1):Qy t (Rx x)=some (t.2.2.1.getD (t.2.1.idxOf x) 0):=by
 unfold Qy
 rw [BO _ _ _ _ h.len.symm h.nodup h.byte (h.byte x hx),if_pos hx]
theorem AG (ts:List TT) (h:Uz ts):fnW (HS [Ux+101101]) (look [(79,Ge)]) Qc Tryz.f64 (ts,()) (λ(z:Option BB)=>z=some (Cq ts)):=by
 obtain ⟨h4,hd⟩:=h
 refine Eq.mp (CE ts _) ⟨rfl,rfl,?_⟩
 refine Ag ts.length (λv=>v.1) (λi v=>v=((i:Int),ts,(ts.take i).map Qy,())) rfl rfl ?_
 rintro i v K hi hii rfl hK
 dsimp only
 refine Br.dec (λhl=>?_) λhl=>?_
 ·have hl:i<ts.length:=by omega
  have LW:=hd _ (List.getElem_mem hl)
  have gf:=LW.so
  have hlen:=LW.len
  have Ad6:=LW.short
  refine ⟨_,Aq hl,rfl,rfl,?_⟩
  refine Ag (ts[i]).2.1.length (λv=>v.1) (λj v=> ∃m,v=((j:Int),(ts[i]).1,(ts[i]).2.1,(ts[i]).2.2.1,ts,m,(ts.take i).map Qy,())/\OT ((ts[i]).2.1.drop j) ((ts[i]).2.2.1.drop j) m=Qy ts[i]) rfl ⟨_,rfl,by rw [List.drop_zero,List.drop_zero];rfl⟩ ?_
  rintro j v K1 hj hjj ⟨m,rfl,hm⟩ hK1
  dsimp only
  refine Br.dec (λfq=>?_) λfq=>?_
  ·have fq:j<(ts[i]).2.1.length:=by omega
   have s8:j<(ts[i]).2.2.1.length:=by omega
   rw [List.drop_eq_getElem_cons fq,List.drop_eq_getElem_cons s8] at hm
   refine ⟨_,Aq fq,_,if_pos (Ad6.2.1.2 _ (List.getElem_mem fq)),_,Aq s8,rfl,rfl,?_⟩
   rw [Ah (by omega)]
   exact hK1 fq _ rfl ⟨_,rfl,hm⟩
  ·have:j=(ts[i]).2.1.length:=by omega
   subst this
   rw [List.drop_length] at hm
   have hm:m=Qy ts[i]:=by
    rw [<-hm]
    cases List.drop (ts[i]).2.1.length (ts[i]).2.2.1<;>rfl
   subst hm
   refine ⟨rfl,rfl,by show ((ts.take i).map Qy).length+1<=4294967296;rw [List.length_map,List.length_take];omega,rfl,rfl,?_⟩
   rw [Ah (by omega)]
   have hmm:(ts.take (i+1)).map Qy=(ts.take i).map Qy++ [Qy ts[i]]:=by
    rw [List.take_add_one,List.getElem?_eq_getElem hl,Option.toList_some,List.map_append]
    rfl
   refine hK hl _ rfl ?_
   rw [hmm]
   rfl
 ·have:i=ts.length:=by omega
  subst this
  rw [Bb,List.take_length]
  rfl
theorem ou:Sound Tryz.prog 64 Qc:=
 Sound.Cg (HT [Ux+101101]) (Ae Ye Aj) mixed Tryz.func64 (by kernel_rfl) (by kernel_rfl) λx h=>AG x.1 h
theorem jx (ts:List TT) (s:List Int):(Pg ts s).length=ts.length:=by unfold Pg;rw [List.length_map]
theorem DH {t:TT} (h:KZ t) {s:List Int} (hs:Cb s t.1∈t.2.1):0<=bJ t s/\bJ t s<=3000:=by
 have hi:=List.idxOf_lt_length_of_mem hs
 have hl:=h.len
 unfold bJ
 rw [Tw (by omega)]
 exact h.Akw _ (List.getElem_mem _)
theorem LJ {ts:List TT} (h:Uz ts) {s:List Int} (hs:Zv ts s): ∀d∈Pg ts s,0<=d/\d<=3000:= λd hd=>by
 obtain ⟨t,ht,rfl⟩:=List.mem_map.1 hd
 exact DH (h.2 t ht) (hs.2 t ht).2
theorem tX {ts:List TT} {s:List Int} {i:Nat} (hl:i<ts.length):(Pg (ts.take (i+1)) s)=Pg (ts.take i) s++ [bJ ts[i] s]:=by
 unfold Pg
 rw [List.take_add_one,List.getElem?_eq_getElem hl,Option.toList_some,List.map_append]
 rfl
theorem Aic (b:Option BB) (s:List Int) (h:PZ b s):fnW Cd (look [(79,Ge),(80,Wu)]) uU Tryz.f59 (b,s,()) (λ(z:List Int)=>z=TI b s):=by
 obtain ⟨ts,⟨h4,hd⟩,rfl,hs⟩:=h
 refine Eq.mp (Aj0 _ s _) ⟨Cq ts,rfl,rfl,rfl,?_⟩
 show Bk _ _
 refine Ag ts.length (λv=>v.1) (λi v=>v=((i:Int),Pg (ts.take i) s,())) rfl rfl ?_
 rintro i v K hi hii rfl hK
 dsimp only
 refine Br.dec (λhl=>?_) λhl=>?_
 ·have hl:i<ts.length:=by have hl:(i:Int)<(ts.length:Int):=hl;omega
  have LW:=hd _ (List.getElem_mem hl)
  obtain ⟨bD,jl⟩:=hs.2 _ (List.getElem_mem hl)
  have htl:=LW.tl
  have fu:=LW.pl _ jl
  refine ⟨ts[i],Aq hl,Cq ts,rfl,Qy ts[i],?_,_,if_pos ⟨by show (ts[i]).1.length<=4294967296;omega,bD⟩,_,if_pos (by show (Cb s (ts[i]).1).length<=4294967296;omega),rfl,rfl,?_,rfl,rfl,?_⟩
  ·show idx (ts.map Qy) (i:Int)=_
   rw [Aq (by rw [List.length_map];exact hl),List.getElem_map]
  ·show (Pg (ts.take i) s).length+1<=4294967296
   rw [jx,List.length_take];omega
  ·rw [Ah (by omega)]
   refine hK hl _ rfl ?_
   rw [tX hl,show Qy ts[i] (Rx (Cb s (ts[i]).1))=some (bJ ts[i] s) from VR LW jl]
   rfl
 ·have:i=ts.length:=by have hl: ¬(i:Int)<(ts.length:Int):=hl;omega
  subst this
  rw [Bb,List.take_length]
  rfl
theorem OD:Sound Tryz.prog 59 uU:=
 Sound.Cg Bi (Ae Ye (Ae tj Aj)) mixed Tryz.func59 (by kernel_rfl) (by kernel_rfl) λx h=>Aic x.1 x.2.1 h
theorem TP (a b:Int):(if true=true then if b>a then b else a else if b<a then b else a)=max a b:=by
 rw [if_pos rfl]
 by_cases h:b>a
 ·rw [if_pos h,Int.max_eq_right (by omega)]
 ·rw [if_neg h,Int.max_eq_left (by omega)]
theorem QY {xs:List Int} {m:Int} (h: ∀x∈xs,0<=x/\x<=m) (hm:0<=m):0<=xs.foldl max 0/\xs.foldl max 0<=m:=by
 rcases gG xs 0 with h1|h1
 ·rw [h1];exact ⟨Int.le_refl _,hm⟩
 ·exact h _ h1
theorem KF {ts:List TT} (h:Uz ts) {s:List Int} (hs:Zv ts s):0<=Pw ts s/\Pw ts s<=3000:=QY (LJ h hs) (by omega)
theorem YT (b:Option BB) (s:List Int) (h:PZ b s):fnW Cd (look [(59,uU)]) fO Tryz.f52 (b,s,()) (λ(z:Int)=>z=Xt b s):=by
 obtain ⟨ts,ht,hb,hs⟩:=id h
 have hl4:=ht.1
 have hlen:=jx ts s
 obtain ⟨xs,hxs⟩: ∃xs,TI b s=xs:=⟨_,rfl⟩
 have hxe:Xt b s=xs.foldl max 0:=by rw [<-hxs,hb];rfl
 have SI:xs.length=ts.length:=by rw [<-hxs,hb];exact hlen
 refine Eq.mp (ZN b s _) ⟨xs,(if_pos h).trans (congrArg some hxs),?_⟩
 rw [hxe]
 refine Ag xs.length (λv=>v.2.1) (λi v=>v=((xs.take i).foldl max 0,(i:Int),())) rfl rfl ?_
 rintro i v K hi hii rfl hK
 dsimp only
 refine Br.dec (λhl=>?_) λhl=>?_
 ·have hl:i<xs.length:=by omega
  refine ⟨_,Aq hl,?_⟩
  rw [Ah (by omega)]
  refine hK hl _ rfl ?_
  rw [List.take_add_one,List.getElem?_eq_getElem hl,Option.toList_some,List.foldl_append,TP]
  rfl
 ·have:i=xs.length:=by omega
  subst this
  rw [List.take_length]
theorem BC:Sound Tryz.prog 52 fO:=
 Sound.Cg Bi (Ae OD Aj) mixed Tryz.func52 (by kernel_rfl) (by kernel_rfl) λx h=>YT x.1 x.2.1 h
theorem EO {L:List (List Int)} {x:List Int} (hn:L.Nodup) (hx:x∈L):Dy (λq=>decide (q=x)) L 0=((L.idxOf x:Nat):Int):=by
 obtain ⟨k,hk,h1,h2,_⟩:=ur (P:= λq=>decide (q=x)) L 0 (List.any_eq_true.2 ⟨x,hx,decide_eq_true rfl⟩)
 have h3:L[k]=x:=of_decide_eq_true h2
 have h4:=EM hn hk
 rw [Tw hk,h3] at h4
 rw [h4,<-Nat.zero_add k]
 exact h1
theorem TZ (ts:List TT) (s:List Int) (h:Uz ts/\Zv ts s):fnW Cd (look [(78,Wv),(77,Pn)]) aX Tryz.f57 (ts,s,()) (λ(z:List Int)=>z=Pg ts s):=by
 obtain ⟨⟨h4,hd⟩,hs⟩:=h
 refine Eq.mp (VZ ts s _) ⟨rfl,rfl,?_⟩
 refine Ag ts.length (λv=>v.1) (λi v=>v=((i:Int),Pg (ts.take i) s,())) rfl rfl ?_
 rintro i v K hi hii rfl hK
 dsimp only
 refine Br.dec (λhl=>?_) λhl=>?_
 ·have hl:i<ts.length:=by omega
  have LW:=hd _ (List.getElem_mem hl)
  obtain ⟨bD,jl⟩:=hs.2 _ (List.getElem_mem hl)
  have htl:=LW.tl
  have fu:=LW.pl _ jl
  have hix:=List.idxOf_lt_length_of_mem jl
  have hle:=LW.len
  have he:Pn.fn (((ts[i]).1,(ts[i]).2.1,(ts[i]).2.2.1,()),Cb s (ts[i]).1,())=some (((ts[i]).2.1.idxOf (Cb s (ts[i]).1):Nat):Int):=
   (if_pos ⟨LW.short,by show (Cb s (ts[i]).1).length<=4294967296;omega⟩).trans (congrArg some (EO LW.nodup jl))
  refine ⟨_,Aq hl,_,Aq hl,_,Aq hl,_,if_pos ⟨by show (ts[i]).1.length<=4294967296;omega,bD⟩,_,he,_,Aq (by omega),rfl,rfl,?_,rfl,rfl,?_⟩
  ·show (Pg (ts.take i) s).length+1<=4294967296
   rw [jx,List.length_take];omega
  ·rw [Ah (by omega)]
   refine hK hl _ rfl ?_
   rw [tX hl]
   unfold bJ
   rw [Tw (by omega)]
   rfl
 ·have:i=ts.length:=by omega
  subst this
  rw [Bb,List.take_length]
theorem xq:Sound Tryz.prog 57 aX:=
 Sound.Cg Bi (Ae tm (Ae rD Aj)) mixed Tryz.func57 (by kernel_rfl) (by kernel_rfl) λx h=>TZ x.1 x.2.1 h
theorem YS (ts:List TT) (s:List Int) (h:Uz ts/\Zv ts s):fnW Cd (look [(57,aX)]) fN Tryz.f48 (ts,s,()) (λ(z:Int)=>z=Pw ts s):=by
 have hl4:=h.1.1
 have hlen:=jx ts s
 obtain ⟨xs,hxs⟩: ∃xs,Pg ts s=xs:=⟨_,rfl⟩
 have hxe:Pw ts s=xs.foldl max 0:=by rw [<-hxs];rfl
 have SI:xs.length=ts.length:=by rw [<-hxs];exact hlen
 refine Eq.mp (ZM ts s _) ⟨xs,(if_pos h).trans (congrArg some hxs),?_⟩
 rw [hxe]
 refine Ag xs.length (λv=>v.2.1) (λi v=>v=((xs.take i).foldl max 0,(i:Int),())) rfl rfl ?_
 rintro i v K hi hii rfl hK
 dsimp only
 refine Br.dec (λhl=>?_) λhl=>?_
 ·have hl:i<xs.length:=by omega
  refine ⟨_,Aq hl,?_⟩
  rw [Ah (by omega)]
  refine hK hl _ rfl ?_
  rw [List.take_add_one,List.getElem?_eq_getElem hl,Option.toList_some,List.foldl_append,TP]
  rfl
 ·have:i=xs.length:=by omega
  subst this
  rw [List.take_length]
theorem BA:Sound Tryz.prog 48 fN:=
 Sound.Cg Bi (Ae xq Aj) mixed Tryz.func48 (by kernel_rfl) (by kernel_rfl) λx h=>YS x.1 x.2.1 h
end Go.Proofs.YtfolipnappekaaaGreat

namespace Go.Proofs.YtfolipnappekaaaGreat
open Go.RowKit
theorem kA {p:PP} {s:List Int} (h:Jf p s=true):Bx p=true/\Pm p.1.toNat s/\Gn p.1.toNat (p.2.2.1.map some) s:=by
 unfold Jf at h
 rw [Bool.and_eq_true,Bool.and_eq_true] at h
 obtain ⟨⟨hv,hg⟩,hh⟩:=h
 have hV:=valid hv
 have hn:=hV.n
 have hp:=Abv hV hg
 exact ⟨hv,hp,(iM (by omega) (by omega) (aS (ar hV).2.2) hp).1 hh⟩
theorem RC {p:PP} {s:List Int} (hv:Bx p=true) (h:Gn p.1.toNat (p.2.2.1.map some) s):Jf p s=true:=by
 have hV:=valid hv
 have hn:=hV.n
 have hp:=Yk.pm (pM hV) h
 unfold Jf
 rw [hv,Aea hV hp,show Ee (Yr p.1 p.2.2.1).2 p.1.toNat 0 s=true from (iM (by omega) (by omega) (aS (ar hV).2.2) hp).2 h]
 rfl
theorem EB {p:PP} {t s:List Int} (hv:Bx p=true) (hs:Pm p.1.toNat s) (ht:Cz p t=true):Hz s.length t:=by
 have h1:=hs.1
 have hn:=(valid hv).n
 intro y hy
 have:=(Fe ht).2 y hy
 omega
theorem Abw {p:PP} {t:List Int} (hv:Bx p=true) (ht:Cz p t=true) (hw:(Gk p.2.2.1 t).2.2=true) {s:List Int} (hs:Gn p.1.toNat (p.2.2.1.map some) s):Cb s t∈iY p t:=by
 have hV:=valid hv
 have hc:oW p.2.2.1 (Af p.2.2.1.length) (iY p t):=sC hV (x4 ht) (DE hv (Fe ht).1 (Fe ht).2 hw)
 induction hs with
 |id=>rw [NO (BQ ht)];exact (NN ht).2
 |mul h hg ih=>
  have hp:Pm p.1.toNat _:=Yk.pm (pM hV) h
  obtain ⟨k,hk,rfl⟩:=List.mem_iff_getElem.1 (kK.1 hg)
  have:=hc.next _ ih _ (Pv hk).1
  rw [Pe hk] at this
  rw [ec (EB hv hp ht)]
  exact this
 |inv h hg ih=>
  have hp:Pm p.1.toNat _:=Yk.pm (pM hV) h
  obtain ⟨k,hk,rfl⟩:=List.mem_iff_getElem.1 (kK.1 hg)
  have:=hc.next _ ih _ (Pv hk).2
  rw [Pd hk] at this
  rw [ec (EB hv hp ht)]
  exact this
theorem GI {p:PP} {ts:List TT} {s:List Int} (hr:Jf p s=true) (ht:De p ts=true):Zv ts s:=by
 obtain ⟨hv,hp,hg⟩:=kA hr
 obtain ⟨_,_,Fh⟩:=eO ht
 have hn:=(valid hv).n
 refine ⟨by rw [hp.1];omega,λt q7=>?_⟩
 obtain ⟨_,h3,hw,e1,_⟩:=vu (Fh t q7)
 exact ⟨EB hv hp h3,by rw [e1];exact Abw hv h3 hw hg⟩
end Go.Proofs.YtfolipnappekaaaGreat

namespace Go.Proofs.YtfolipnappekaaaGreat
open Go.RowKit Go.Lib
structure Rem (w:World) (g o:Nat) (tid:TypeId) (cur:Array Value) (Fs:List (List Nat)) (ts:List TT) (j:Nat):Prop where
 Md:w.heap[g]?=some (.cells cur tid (0,0))
 els: ∀(i:Nat) (t:TT) (F:List Nat),j<=i->ts[i]?=some t->Fs[i]?=some F-> ∃es:List Value,es.length=3/\(∀c u,es[c]?=some u->cur[(o+i)*3+c]?=some u)/\Ax w F Gz es t
theorem Ax.MM {w:World} {F:List Nat} {e:Ty} {cs:List Value} {x:List e.den} (h:Ax w F (.slice e) cs x):cs.length=1:=by
 simp only [Ax] at h
 obtain ⟨a,n,c,rfl,_⟩:=h
 rfl
theorem Rem.parts {w:World} {g o:Nat} {tid:TypeId} {cur:Array Value} {Fs:List (List Nat)} {ts:List TT} {j:Nat} (h:Rem w g o tid cur Fs ts j) (hl:Fs.length=ts.length) (hn:(g::List.flatten Fs).Nodup) (hj:j<ts.length):
  ∃u0 u1 u2 F0 F1 F2,w.cell? ⟨g,o*3+(j*3),none⟩=some u0/\w.cell? ⟨g,o*3+(j*3)+1,none⟩=some u1/\w.cell? ⟨g,o*3+(j*3)+2,none⟩=some u2/\Fs[j]?=some (F0++(F1++F2))/\(F0++(F1++F2)).Nodup/\g∉F0++(F1++F2)/\
   Ax w F0 tL [u0] ts[j].1/\Ax w F1 cZ [u1] ts[j].2.1/\Ax w F2 tL [u2] ts[j].2.2.1:=by
 have hF:Fs[j]?=some (Fs[j]'(by omega)):=List.getElem?_eq_getElem (by omega)
 obtain ⟨es,e1,e2,e3⟩:=h.els j _ _ (Nat.le_refl j) (List.getElem?_eq_getElem hj) hF
 generalize Fs[j]'(by omega)=F at hF e3
 simp only [Ax] at e3
 obtain ⟨x0,y0,F0,G0,rfl,rfl,t0,x1,y1,F1,G1,rfl,rfl,t1,x2,y2,F2,G2,rfl,rfl,t2,rfl,rfl⟩:=e3
 have b0:=Ax.MM t0
 have b1:=Ax.MM t1
 have b2:=Ax.MM t2
 obtain ⟨u0,rfl⟩:=List.length_eq_one_iff.1 b0
 obtain ⟨u1,rfl⟩:=List.length_eq_one_iff.1 b1
 obtain ⟨u2,rfl⟩:=List.length_eq_one_iff.1 b2
 rw [List.append_nil] at hF
 have hnF:(F0++(F1++F2)).Nodup:=(List.nodup_cons.1 hn).2.sublist (by
  have:=Vj (List.singleton_sublist.2 (List.mem_of_getElem? hF))
  simpa using this)
 have cell: ∀c u,([u0]++([u1]++([u2]++ [])))[c]?=some u->w.cell? ⟨g,o*3+(j*3)+c,none⟩=some u:= λc u hc=>by
  rw [cellOf h.Md,show o*3+j*3+c=(o+j)*3+c by rw [Nat.add_mul]]
  exact e2 c u hc
 exact ⟨u0,u1,u2,F0,F1,F2,cell 0 u0 rfl,cell 1 u1 rfl,cell 2 u2 rfl,hF,hnF,λhh=>(List.nodup_cons.1 hn).1 (List.mem_flatten.2 ⟨_,List.mem_of_getElem? hF,hh⟩),t0,t1,t2⟩
end Go.Proofs.YtfolipnappekaaaGreat
