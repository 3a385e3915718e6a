/-
  Part 43 of the proof that the statement FnExactSolutionsAtDepth holds.
-/
import Derived.Test.YtfolipnappekaaaGreatCSolutionsAtDepth41
import Derived.Shelf.RegionOpenPlain
import Derived.WalkKit
import Derived.Lib.Walk
namespace Go.Proofs.YtfolipnappekaaaGreat
open Go.RowKit
def ap (p:List Int) (i:Nat):Nat:=(Iy p (i:Int)).toNat
def Pm (n:Nat) (p:List Int):Prop:=p.length=n/\Ww p
theorem Pm.n1 {n:Nat} {p:List Int} (h:Pm n p):1<=n:=h.1▸h.2.pos
theorem Pm.n2 {n:Nat} {p:List Int} (h:Pm n p):n<=20:=h.1▸h.2.len
theorem Pm.Vq {n:Nat} {p:List Int} (h:Pm n p) {i:Nat} (hi:i<n):Iy p (i:Int)=(ap p i:Int)/\ap p i<n:=by
 have jN:i<p.length:=by rw [h.1];exact hi
 have:=h.2.row _ (List.getElem_mem jN)
 unfold ap
 rw [Hx jN]
 have h1:=h.1
 omega
theorem Pm.lt {n:Nat} {p:List Int} (h:Pm n p) {i:Nat} (hi:i<n):ap p i<n:=(h.Vq hi).2
theorem Pm.ext {n:Nat} {p q:List Int} (h:Pm n p) (k:Pm n q) (e: ∀i,i<n->ap p i=ap q i):p=q:=by
 refine List.ext_getElem (by rw [h.1,k.1]) λi h1 h2=>?_
 have hi:i<n:=by rw [<-h.1];exact h1
 have a:=(h.Vq hi).1
 have b:=(k.Vq hi).1
 rw [Hx h1] at a
 rw [Hx h2] at b
 rw [a,b,e i hi]
theorem Pm.inj {n:Nat} {p:List Int} (h:Pm n p) {i j:Nat} (hi:i<n) (hj:j<n) (e:ap p i=ap p j):i=j:=
 h.2.inj i j (by rw [h.1];exact hi) (by rw [h.1];exact hj) e
theorem Pm.TK {n:Nat} {p:List Int} (h:Pm n p) {k:Nat} (hk:k<n): ∃i,i<n/\ap p i=k:=by
 obtain ⟨i,h1,h2⟩:=h.2.TK k (by rw [h.1];exact hk)
 exact ⟨i,by rw [<-h.1];exact h1,h2⟩
theorem Pm.of {n:Nat} {p:List Int} (hl:p.length=n) (h1:1<=n) (h2:n<=20) (f:Nat->Nat) (hf: ∀i,i<n->p[i]?=some (f i:Int)/\f i<n) (hi: ∀i j,i<n->j<n->f i=f j->i=j):Pm n p:=by
 refine ⟨hl,by omega,by omega,λy hy=>?_,?_⟩
 ·obtain ⟨i,hi,rfl⟩:=List.mem_iff_getElem.1 hy
  obtain ⟨h3,h4⟩:=hf i (by omega)
  rw [List.getElem?_eq_getElem hi] at h3
  rw [Option.some.inj h3]
  omega
 ·refine List.pairwise_iff_getElem.2 λi j h3 h4 h5 h6=>?_
  have a:=(hf i (by omega)).1
  have b:=(hf j (by omega)).1
  rw [List.getElem?_eq_getElem h3] at a
  rw [List.getElem?_eq_getElem h4] at b
  rw [Option.some.inj a,Option.some.inj b] at h6
  have:=hi i j (by omega) (by omega) (by omega)
  omega
theorem yw {n:Nat} {p q:List Int} (hp:Pm n p) (hq:Pm n q) {i:Nat} (hi:i<n):(Ab p q)[i]?=some (ap q (ap p i):Int):=by
 have h1:i<p.length:=by rw [hp.1];exact hi
 unfold Ab
 rw [List.getElem?_map,List.getElem?_eq_getElem h1]
 have a:=(hp.Vq hi).1
 rw [Hx h1] at a
 simp only [Option.map_some,a]
 rw [(hq.Vq (hp.Vq hi).2).1]
theorem Pm.comp {n:Nat} {p q:List Int} (hp:Pm n p) (hq:Pm n q):Pm n (Ab p q):=
 Pm.of (by rw [Kj,hp.1]) hp.n1 hp.n2 (λi=>ap q (ap p i)) (λi hi=>⟨yw hp hq hi,hq.lt (hp.lt hi)⟩) λi j hi hj e=>hp.inj hi hj (hq.inj (hp.lt hi) (hp.lt hj) e)
theorem QE {p:List Int} {i k:Nat} (h:p[i]?=some (k:Int)):ap p i=k:=by
 unfold ap Iy
 rw [Int.toNat_natCast,List.getD_eq_getElem?_getD,h]
 simp
theorem Hg {n:Nat} {p q:List Int} (hp:Pm n p) (hq:Pm n q) {i:Nat} (hi:i<n):ap (Ab p q) i=ap q (ap p i):=QE (yw hp hq hi)
theorem eP {n i:Nat} (hi:i<n):(upto n)[i]?=some (i:Int):=by simp [upto,hi]
theorem gq {n i:Nat} (hi:i<n):ap (upto n) i=i:=QE (eP hi)
theorem Pm.id {n:Nat} (h1:1<=n) (h2:n<=20):Pm n (upto n):=Pm.of (by simp [upto]) h1 h2 (λi=>i) (λi hi=>⟨eP hi,hi⟩) λ_ _ _ _ e=>e
theorem JT {n:Nat} {p:List Int} (hp:Pm n p) {i:Nat} (hi:i<n):(Ah p)[ap p i]?=some (i:Int):=SI hp.2 (by rw [hp.1];exact hi)
theorem eY {n:Nat} {p:List Int} (hp:Pm n p) {i:Nat} (hi:i<n):ap (Ah p) (ap p i)=i:=QE (JT hp hi)
theorem vE {n:Nat} {p:List Int} (hp:Pm n p) {k:Nat} (hk:k<n):ap p (ap (Ah p) k)=k:=by
 obtain ⟨i,hi,rfl⟩:=hp.TK hk
 rw [eY hp hi]
theorem Pm.inv {n:Nat} {p:List Int} (hp:Pm n p):Pm n (Ah p):=by
 refine Pm.of (by rw [jR,hp.1]) hp.n1 hp.n2 (λk=>ap (Ah p) k) (λk hk=>?_) λi j hi hj e=>?_
 ·obtain ⟨i,hi,rfl⟩:=hp.TK hk
  rw [eY hp hi]
  exact ⟨JT hp hi,hi⟩
 ·rw [<-vE hp hi,<-vE hp hj,e]
theorem Gb {n:Nat} {p q r:List Int} (hp:Pm n p) (hq:Pm n q) (hr:Pm n r):Ab (Ab p q) r=Ab p (Ab q r):=
 ((hp.comp hq).comp hr).ext (hp.comp (hq.comp hr)) λi hi=>by rw [Hg (hp.comp hq) hr hi,Hg hp hq hi,Hg hp (hq.comp hr) hi,Hg hq hr (hp.lt hi)]
theorem comp_id {n:Nat} {p:List Int} (hp:Pm n p):Ab p (upto n)=p:=
 (hp.comp (Pm.id hp.n1 hp.n2)).ext hp λi hi=>by rw [Hg hp (Pm.id hp.n1 hp.n2) hi,gq (hp.lt hi)]
theorem id_comp {n:Nat} {p:List Int} (hp:Pm n p):Ab (upto n) p=p:=
 ((Pm.id hp.n1 hp.n2).comp hp).ext hp λi hi=>by rw [Hg (Pm.id hp.n1 hp.n2) hp hi,gq hi]
theorem js {n:Nat} {p:List Int} (hp:Pm n p):Ab p (Ah p)=upto n:=
 (hp.comp hp.inv).ext (Pm.id hp.n1 hp.n2) λi hi=>by rw [Hg hp hp.inv hi,eY hp hi,gq hi]
theorem aH {n:Nat} {p:List Int} (hp:Pm n p):Ab (Ah p) p=upto n:=
 (hp.inv.comp hp).ext (Pm.id hp.n1 hp.n2) λi hi=>by rw [Hg hp.inv hp hi,vE hp hi,gq hi]
theorem pW {n:Nat} {p q:List Int} (hp:Pm n p) (hq:Pm n q) (h:Ab p q=upto n):Ah p=q:=by
 rw [<-comp_id hp.inv,<-h,<-Gb hp.inv hp hq,aH hp,id_comp hq]
theorem inv_mul {n:Nat} {p q:List Int} (hp:Pm n p) (hq:Pm n q):Ah (Ab p q)=Ab (Ah q) (Ah p):=
 pW (hp.comp hq) (hq.inv.comp hp.inv) (by
  rw [Gb hp hq (hq.inv.comp hp.inv),<-Gb hq hq.inv hp.inv,js hq,id_comp hp.inv,js hp])
theorem inv_inv {n:Nat} {p:List Int} (hp:Pm n p):Ah (Ah p)=p:=pW hp.inv hp (aH hp)
theorem SJ {n:Nat} (h1:1<=n) (h2:n<=20):Ah (upto n)=upto n:=pW (Pm.id h1 h2) (Pm.id h1 h2) (comp_id (Pm.id h1 h2))
inductive Yf (n:Nat) (S:List Int->Prop):List Int->Prop where
 |id:Yf n S (upto n)
 |mul {p g:List Int} :Yf n S p->S g->Yf n S (Ab p g)
 |inv {p g:List Int} :Yf n S p->S g->Yf n S (Ab p (Ah g))
def xX (n:Nat) (S:List Int->Prop):Prop:=(1<=n/\n<=20)/\ ∀g,S g->Pm n g
theorem Yf.pm {n:Nat} {S:List Int->Prop} (hS:xX n S) {p:List Int} (h:Yf n S p):Pm n p:=by
 induction h with
 |id=>exact Pm.id hS.1.1 hS.1.2
 |mul _ hg ih=>exact ih.comp (hS.2 _ hg)
 |inv _ hg ih=>exact ih.comp (hS.2 _ hg).inv
theorem Yf.comp {n:Nat} {S:List Int->Prop} (hS:xX n S) {p q:List Int} (hp:Yf n S p) (hq:Yf n S q):Yf n S (Ab p q):=by
 induction hq with
 |id=>rw [comp_id (hp.pm hS)];exact hp
 |mul hq hg ih=>rw [<-Gb (hp.pm hS) (hq.pm hS) (hS.2 _ hg)];exact .mul ih hg
 |inv hq hg ih=>rw [<-Gb (hp.pm hS) (hq.pm hS) (hS.2 _ hg).inv];exact .inv ih hg
theorem Yf.one {n:Nat} {S:List Int->Prop} (hS:xX n S) {g:List Int} (hg:S g):Yf n S g:=by
 have:=Yf.mul (n:=n) (S:=S) .id hg
 rwa [id_comp (hS.2 g hg)] at this
theorem Yf.Adi {n:Nat} {S:List Int->Prop} (hS:xX n S) {g:List Int} (hg:S g):Yf n S (Ah g):=by
 have:=Yf.inv (n:=n) (S:=S) .id hg
 rwa [id_comp (hS.2 g hg).inv] at this
theorem Yf.oF {n:Nat} {S:List Int->Prop} (hS:xX n S) {p:List Int} (hp:Yf n S p):Yf n S (Ah p):=by
 induction hp with
 |id=>rw [SJ hS.1.1 hS.1.2];exact .id
 |mul hq hg ih=>rw [inv_mul (hq.pm hS) (hS.2 _ hg)];exact (Yf.Adi hS hg).comp hS ih
 |inv hq hg ih=>rw [inv_mul (hq.pm hS) (hS.2 _ hg).inv,inv_inv (hS.2 _ hg)];exact (Yf.one hS hg).comp hS ih
theorem Yf.trans {n:Nat} {S S':List Int->Prop} (hS':xX n S') (h: ∀g,S g->Yf n S' g) {p:List Int} (hp:Yf n S p):Yf n S' p:=by
 induction hp with
 |id=>exact .id
 |mul _ hg ih=>exact ih.comp hS' (h _ hg)
 |inv _ hg ih=>exact ih.comp hS' ((h _ hg).oF hS')
abbrev PO:=Option (List Int)
abbrev Row:=List PO
abbrev Aw:=List Row
def Pw (row:Row):List Int:=(upto row.length).filter λy=>(row.getD y.toNat none).isSome
def Ee (T:Aw):Nat->Nat->List Int->Bool
 |0,_,_=>true
 |k+1,i,p=>match (T.getD i []).getD (Iy p (i:Int)).toNat none with
  |none=>false
  |some t=>Ee T k (i+1) (Ab p (Ah t))
def Hj (row:Row):Nat:=row.countP (·.isNone)
def Vs (x:Int) (s:Row×List Int) (o:PO):Row×List Int:=
 match s.1.getD (Iy (o.getD []) x).toNat none with
 |some _=>s
 |none=>(s.1.set (Iy (o.getD []) x).toNat (some (Ab ((s.1.getD x.toNat none).getD []) (o.getD []))),s.2++ [Iy (o.getD []) x])
def Vj (x:Int) (gs:List PO) (s:Row×List Int):Row×List Int:=gs.foldl (Vs x) s
def Ux (gs:List PO):Nat->List Int->Row->Row
 |0,_,row=>row
 |_+1,[],row=>row
 |f+1,x::q,row=>Ux gs f (Vj x gs (row,q)).2 (Vj x gs (row,q)).1
def Tt (gs:List PO) (row:Row):Row:=Ux gs 100 (Pw row) row
def Oh (row:Row) (y:Int) (g:PO):List Int:=
 Ab (Ab ((row.getD y.toNat none).getD []) (g.getD [])) (Ah ((row.getD (Iy (g.getD []) y).toNat none).getD []))
def cE (row:Row) (gs:List PO):List (List Int):=(Pw row).flatMap λy=>gs.map λg=>Oh row y g
def Dt:Nat->Nat->List Int->Aw×Aw->Aw×Aw
 |0,_,_,s=>s
 |k+1,l,p,s=>
  if Ee s.2 (k+1) l p=true then s else
   (cE (Tt (s.1.getD l []++ [some p]) (s.2.getD l [])) (s.1.getD l []++ [some p])).foldl (λs q=>Dt k (l+1) q s)
    (s.1.set l (s.1.getD l []++ [some p]),s.2.set l (Tt (s.1.getD l []++ [some p]) (s.2.getD l [])))
def Fx (l:Nat) (p:List Int):Prop:= ∀i,i<l->ap p i=i
def Gn (n:Nat) (gs:List PO):List Int->Prop:=Yf n λg=>some g∈gs
structure WM (n l:Nat) (gs:List PO) (row:Row) (H:List Int->Prop):Prop where
 pg: ∀o∈gs,∃g,o=some g/\Pm n g/\Fx l g
 rl:row.length=n
 r0:row.getD l none=some (upto n)
 rt: ∀y t,row.getD y none=some t->Pm n t/\Fx l t/\ap t l=y/\Gn n gs t
 cl: ∀y t g,row.getD y none=some t->some g∈gs->row.getD (ap g y) none≠none
 sg: ∀y t g t',row.getD y none=some t->some g∈gs->row.getD (ap g y) none=some t'->H (Ab (Ab t g) (Ah t'))
def fU (n:Nat):Nat->Nat->Aw×Aw->Prop
 |0,l,s=>s.1.getD l []= []
 |k+1,l,s=>fU n k (l+1) s/\WM n l (s.1.getD l []) (s.2.getD l []) (λq=>Ee s.2 k (l+1) q=true)/\ ∀g,some g∈s.1.getD (l+1) []->Gn n (s.1.getD l []) g
theorem YT {l1 l2:List Nat} (hn:l1.Nodup) (hs: ∀x∈l1,x∈l2) (hl:l2.length<=l1.length): ∀x∈l2,x∈l1:=by
 induction l1 generalizing l2 with
 |nil=>
  intro x hx
  have:l2= []:=List.eq_nil_of_length_eq_zero (by simpa using hl)
  rw [this] at hx;cases hx
 |cons a l ih=>
  intro x hx
  obtain ⟨h1,h2⟩:=List.nodup_cons.1 hn
  have ha:=hs a (by simp)
  by_cases e:x=a
  ·subst e;simp
  ·refine List.mem_cons_of_mem _ (ih (l2:=l2.erase a) h2 (λy hy=>?_) ?_ x ((List.mem_erase_of_ne e).2 hx))
   ·have hya:y≠a:= λe'=>h1 (by rw [<-e'];exact hy)
    exact (List.mem_erase_of_ne hya).2 (hs y (by simp [hy]))
   ·rw [List.length_erase_of_mem ha]
    simp only [List.length_cons] at hl
    omega
theorem FG {n:Nat} {g:List Int} (hg:Pm n g) (D:Nat->Bool) (h: ∀y,y<n->D y=true->D (ap g y)=true) {y:Nat} (hy:y<n) (hD:D y=true): ∃x,x<n/\D x=true/\ap g x=y:=by
 have:=YT (l1:=((List.range n).filter D).map (ap g)) (l2:=(List.range n).filter D) ?_ ?_ (by simp) y (List.mem_filter.2 ⟨List.mem_range.2 hy,hD⟩)
 ·obtain ⟨x,hx,e⟩:=List.mem_map.1 this
  obtain ⟨h1,h2⟩:=List.mem_filter.1 hx
  exact ⟨x,List.mem_range.1 h1,h2,e⟩
 ·refine List.pairwise_map.2 (List.Pairwise.imp_of_mem ?_ (List.nodup_range.filter D))
  intro a b ha hb Ek e
  exact Ek (hg.inj (List.mem_range.1 (List.mem_filter.1 ha).1) (List.mem_range.1 (List.mem_filter.1 hb).1) e)
 ·intro x hx
  obtain ⟨z,hz,rfl⟩:=List.mem_map.1 hx
  obtain ⟨h1,h2⟩:=List.mem_filter.1 hz
  exact List.mem_filter.2 ⟨List.mem_range.2 (hg.lt (List.mem_range.1 h1)),h z (List.mem_range.1 h1) h2⟩
theorem jJ {row:Row} {y:Nat} {t:List Int} (h:row.getD y none=some t):y<row.length:=by
 rw [List.getD_eq_getElem?_getD] at h
 refine Classical.byContradiction λhn=>?_
 rw [List.getElem?_eq_none (by omega)] at h
 cases h
theorem WM.pms {n l:Nat} {gs:List PO} {row:Row} {H:List Int->Prop} (h:WM n l gs row H):xX n λg=>some g∈gs:=by
 refine ⟨?_,λg hg=>?_⟩
 ·have:=(h.rt l _ h.r0).1
  exact ⟨this.n1,this.n2⟩
 ·obtain ⟨g',e,h1,_⟩:=h.pg _ hg
  cases e;exact h1
theorem Fx.inv {n l:Nat} {p:List Int} (hp:Pm n p) (h:Fx l p) (hl:l<=n):Fx l (Ah p):= λi hi=>by
 have:=eY hp (i:=i) (by omega)
 rwa [h i hi] at this
theorem Fx.comp {n l:Nat} {p q:List Int} (hp:Pm n p) (hq:Pm n q) (h1:Fx l p) (h2:Fx l q) (hl:l<=n):Fx l (Ab p q):= λi hi=>by
 rw [Hg hp hq (by omega),h1 i hi,h2 i hi]
theorem Fx.all {n:Nat} {p:List Int} (hp:Pm n p) (h:Fx n p):p=upto n:=hp.ext (Pm.id hp.n1 hp.n2) λi hi=>by rw [h i hi,gq hi]
theorem Fx.div {n l:Nat} {p t:List Int} (hp:Pm n p) (ht:Pm n t) (h1:Fx l p) (h2:Fx l t) (hl:l<n) (e:ap t l=ap p l):Fx (l+1) (Ab p (Ah t)):= λi hi=>by
 rw [Hg hp ht.inv (by omega)]
 by_cases hil:i<l
 ·rw [h1 i hil];exact h2.inv ht (by omega) i hil
 ·have:i=l:=by omega
  subst this
  rw [<-e,eY ht hl]
theorem Om {n:Nat} (h1:1<=n) (h2:n<=20): ∀(k l:Nat) (s:Aw×Aw),l+k=n->fU n k l s-> ∀p,Pm n p->Fx l p->(Ee s.2 k l p=true↔Gn n (s.1.getD l []) p)
 |0,l,s,hk,hc,p,hp,hf=>by
  have hl:l=n:=by omega
  subst hl
  rw [hf.all hp]
  exact ⟨λ_=> .id,λ_=>rfl⟩
 |k+1,l,s,hk,hc,p,hp,hf=>by
  obtain ⟨c1,c2,c3⟩:=hc
  have hS:=c2.pms
  have ih:=Om h1 h2 k (l+1) s (by omega) c1
  have hS1:xX n λg=>some g∈s.1.getD (l+1) []:=⟨⟨h1,h2⟩,λg hg=>(c3 g hg).pm hS⟩
  have gJ:l<n:=by omega
  constructor
  ·intro h
   simp only [Ee] at h
   rw [show (Iy p (l:Int)).toNat=ap p l from rfl] at h
   split at h
   ·cases h
   ·rename_i t ht
    obtain ⟨t1,t2,t3,t4⟩:=c2.rt _ _ ht
    have CG:=Fx.div hp t1 hf t2 gJ t3
    have hg:=((ih _ (hp.comp t1.inv) CG).1 h).trans hS c3
    have:=Yf.comp hS hg t4
    rwa [Gb hp t1.inv t1,aH t1,comp_id hp] at this
  ·intro h
   have key: ∀q,Gn n (s.1.getD l []) q-> ∃t,(s.2.getD l []).getD (ap q l) none=some t/\Gn n (s.1.getD (l+1) []) (Ab q (Ah t)):=by
    intro q hq
    induction hq with
    |id=>
     refine ⟨upto n,by rw [gq gJ];exact c2.r0,?_⟩
     rw [SJ h1 h2,comp_id (Pm.id h1 h2)]
     exact .id
    | @mul q g hq hg ihq=>
     obtain ⟨t,e1,e2⟩:=ihq
     have hqp:=Yf.pm hS hq
     have Oc:=hS.2 _ hg
     obtain ⟨t1,t2,t3,t4⟩:=c2.rt _ _ e1
     cases e3:(s.2.getD l []).getD (ap g (ap q l)) none with
     |none=>exact absurd e3 (c2.cl _ _ _ e1 hg)
     |some t'=>
      obtain ⟨u1,u2,u3,u4⟩:=c2.rt _ _ e3
      have hsg:=c2.sg _ _ _ _ e1 hg e3
      have hfg:Fx (l+1) (Ab (Ab t g) (Ah t')):=Fx.div (t1.comp Oc) u1 (Fx.comp t1 Oc t2 (by obtain ⟨g',e,_,h⟩:=c2.pg _ hg;cases e;exact h) (by omega)) u2 gJ (by rw [u3,Hg t1 Oc gJ,t3])
      have CH:=(ih _ ((t1.comp Oc).comp u1.inv) hfg).1 hsg
      refine ⟨t',by rw [Hg hqp Oc gJ];exact e3,?_⟩
      have:=Yf.comp hS1 e2 CH
      rwa [show Ab (Ab q (Ah t)) (Ab (Ab t g) (Ah t'))=Ab (Ab q g) (Ah t') by
       rw [Gb hqp t1.inv ((t1.comp Oc).comp u1.inv),Gb t1 Oc u1.inv,<-Gb t1.inv t1 (Oc.comp u1.inv),aH t1,id_comp (Oc.comp u1.inv),Gb hqp Oc u1.inv]] at this
    | @inv q g hq hg ihq=>
     obtain ⟨t,e1,e2⟩:=ihq
     have hqp:=Yf.pm hS hq
     have Oc:=hS.2 _ hg
     obtain ⟨t1,t2,t3,t4⟩:=c2.rt _ _ e1
     have hy:ap q l<n:=hqp.lt gJ
     obtain ⟨x,hx,hD,he⟩:=FG Oc (λy=>((s.2.getD l []).getD y none).isSome) (λy hy hd=>by
      obtain ⟨t0,ht0⟩:=Option.isSome_iff_exists.1 hd
      exact Option.ne_none_iff_isSome.1 (c2.cl _ _ _ ht0 hg)) hy (by rw [e1];rfl)
     obtain ⟨t',e3⟩:=Option.isSome_iff_exists.1 hD
     obtain ⟨u1,u2,u3,u4⟩:=c2.rt _ _ e3
     have hsg:=c2.sg _ _ _ _ e3 hg (by rw [he];exact e1)
     have hfg:Fx (l+1) (Ab (Ab t' g) (Ah t)):=Fx.div (u1.comp Oc) t1 (Fx.comp u1 Oc u2 (by obtain ⟨g',e,_,h⟩:=c2.pg _ hg;cases e;exact h) (by omega)) t2 gJ (by rw [t3,Hg u1 Oc gJ,u3,he])
     have CH:=Yf.oF hS1 ((ih _ ((u1.comp Oc).comp t1.inv) hfg).1 hsg)
     have hax:ap (Ah g) (ap q l)=x:=by rw [<-he,eY Oc hx]
     refine ⟨t',by rw [Hg hqp Oc.inv gJ,hax];exact e3,?_⟩
     have:=Yf.comp hS1 e2 CH
     rwa [show Ab (Ab q (Ah t)) (Ah (Ab (Ab t' g) (Ah t)))=Ab (Ab q (Ah g)) (Ah t') by
      rw [inv_mul (u1.comp Oc) t1.inv,inv_inv t1,inv_mul u1 Oc,Gb hqp t1.inv (t1.comp (Oc.inv.comp u1.inv)),<-Gb t1.inv t1 (Oc.inv.comp u1.inv),aH t1,id_comp (Oc.inv.comp u1.inv),Gb hqp Oc.inv u1.inv]] at this
   obtain ⟨t,e1,e2⟩:=key p h
   obtain ⟨t1,t2,t3,t4⟩:=c2.rt _ _ e1
   simp only [Ee]
   rw [show (Iy p (l:Int)).toNat=ap p l from rfl,e1]
   exact (ih _ (hp.comp t1.inv) (Fx.div hp t1 hf t2 gJ t3)).2 e2
end Go.Proofs.YtfolipnappekaaaGreat

namespace Go.Proofs.YtfolipnappekaaaGreat
open Go.RowKit
theorem Gs {α:Type} (xs:List α) (i j:Nat) (x d:α):(xs.set i x).getD j d=if i=j/\i<xs.length then x else xs.getD j d:=by
 rw [List.getD_eq_getElem?_getD,List.getElem?_set,List.getD_eq_getElem?_getD]
 by_cases e:i=j
 ·subst e
  by_cases h:i<xs.length
  ·rw [if_pos rfl,if_pos h,if_pos ⟨rfl,h⟩];rfl
  ·rw [if_pos rfl,if_neg h,if_neg (λhh=>h hh.2),List.getElem?_eq_none (by omega)]
 ·rw [if_neg e,if_neg (λhh=>e hh.1)]
theorem Yf.mono {n:Nat} {S S':List Int->Prop} (h: ∀g,S g->S' g) {p:List Int} (hp:Yf n S p):Yf n S' p:=by
 induction hp with
 |id=>exact .id
 |mul _ hg ih=>exact .mul ih (h _ hg)
 |inv _ hg ih=>exact .inv ih (h _ hg)
structure Po (n l:Nat) (gs:List PO) (row:Row):Prop where
 rl:row.length=n
 r0:row.getD l none=some (upto n)
 rt: ∀y t,row.getD y none=some t->Pm n t/\Fx l t/\ap t l=y/\Gn n gs t
def PG (n l:Nat) (gs:List PO):Prop:= ∀o∈gs,∃g,o=some g/\Pm n g/\Fx l g
structure Ext (n l:Nat) (gs:List PO) (row:Row) (q:List Int) (s':Row×List Int):Prop where
 ok:Po n l gs s'.1
 mono: ∀y t,row.getD y none=some t->s'.1.getD y none=some t
 phi:s'.2.length+Hj s'.1=q.length+Hj row
 rU: ∀y∈q,y∈s'.2
 new: ∀y∈s'.2,y∈q\/ ∃yn:Nat,y=yn/\s'.1.getD yn none≠none
 src: ∀y:Nat,s'.1.getD y none≠none->row.getD y none≠none\/(y:Int)∈s'.2
theorem Ext.refl {n l:Nat} {gs:List PO} {row:Row} {q:List Int} (h:Po n l gs row):Ext n l gs row q (row,q):=⟨h,λ_ _ h=>h,rfl,λ_ h=>h,λ_ h=> .inl h,λ_ h=> .inl h⟩
theorem bJ {a b:Row} (h: ∀y t,a.getD y none=some t->b.getD y none=some t) {y:Nat} (hy:a.getD y none≠none):b.getD y none≠none:=by
 cases e:a.getD y none with
 |none=>exact absurd e hy
 |some t=>rw [h y t e];simp
theorem Ext.trans {n l:Nat} {gs:List PO} {row:Row} {q:List Int} {s1 s2:Row×List Int} (h:Ext n l gs row q s1) (k:Ext n l gs s1.1 s1.2 s2):Ext n l gs row q s2:=by
 refine ⟨k.ok,λy t e=>k.mono y t (h.mono y t e),k.phi.trans h.phi,λy hy=>k.rU y (h.rU y hy),λy hy=>?_,λy hy=>?_⟩
 ·rcases k.new y hy with h1|h1
  ·rcases h.new y h1 with h2|⟨yn,h2,h3⟩
   ·exact .inl h2
   ·exact .inr ⟨yn,h2,bJ k.mono h3⟩
  ·exact .inr h1
 ·rcases k.src y hy with h1|h1
  ·exact (h.src y h1).imp id λh2=>k.rU _ h2
  ·exact .inr h1
theorem lQ {row:Row} {i:Nat} {t:List Int} (h:row.getD i none=none) (hi:i<row.length):Hj (row.set i (some t))+1=Hj row:=by
 unfold Hj
 have e:row[i]=none:=by
  rw [List.getD_eq_getElem?_getD,List.getElem?_eq_getElem hi] at h
  exact h
 have h1:=List.countP_set (p:= λo:PO=>o.isNone) (l:=row) (i:=i) (a:=some t) hi
 have LU:0<row.countP (·.isNone):=List.countP_pos_iff.2 ⟨row[i],List.getElem_mem hi,by rw [e];rfl⟩
 rw [h1,e]
 simp
 omega
theorem YS {n l:Nat} {gs:List PO} (gJ:l<n) (hg:PG n l gs) {row:Row} {q:List Int} (h:Po n l gs row) {x:Nat} {t:List Int} (hx:row.getD x none=some t) {g:List Int} (ho:some g∈gs):
  Ext n l gs row q (Vs (x:Int) (row,q) (some g))/\(Vs (x:Int) (row,q) (some g)).1.getD (ap g x) none≠none:=by
 obtain ⟨g',e,Oc,hgf⟩:=hg _ ho
 cases e
 obtain ⟨t1,t2,t3,t4⟩:=h.rt _ _ hx
 have WK:x<n:=by rw [<-h.rl];exact jJ hx
 obtain ⟨a1,a2⟩:=Oc.Vq WK
 unfold Vs
 simp only [Option.getD_some,a1,Int.toNat_natCast]
 cases e:row.getD (ap g x) none with
 |some u=>exact ⟨Ext.refl h,by simp only;rw [e];simp⟩
 |none=>
  simp only [hx,Option.getD_some]
  have hl:ap g x<row.length:=by rw [h.rl];exact a2
  have hS:xX n λg=>some g∈gs:=⟨⟨t1.n1,t1.n2⟩,λg Nn=>by obtain ⟨g',e,h1,_⟩:=hg _ Nn;cases e;exact h1⟩
  have Ad: ∀y,(row.set (ap g x) (some (Ab t g))).getD y none=if ap g x=y/\ap g x<row.length then some (Ab t g) else row.getD y none:= λy=>Gs _ _ _ _ _
  have Ek: ∀y u,row.getD y none=some u->ap g x≠y:= λy u hu e'=>by rw [<-e',e] at hu;cases hu
  refine ⟨⟨⟨by simp [h.rl],?_,λy u hu=>?_⟩,λy u hu=>?_,?_,λy hy=>List.mem_append_left _ hy,λy hy=>?_,λy hy=>?_⟩,?_⟩
  ·rw [Ad,if_neg (λhh=>Ek l _ h.r0 hh.1)];exact h.r0
  ·rw [Ad] at hu
   split at hu
   ·rename_i hc
    cases hu
    exact ⟨t1.comp Oc,Fx.comp t1 Oc t2 hgf (by omega),by rw [Hg t1 Oc gJ,t3];exact hc.1, .mul t4 ho⟩
   ·exact h.rt y u hu
  ·show (row.set (ap g x) (some (Ab t g))).getD y none=some u
   rw [Ad,if_neg (λhh=>Ek y u hu hh.1)];exact hu
  ·have:=lQ (t:=Ab t g) e hl
   simp only [List.length_append,List.length_cons,List.length_nil]
   omega
  ·rcases List.mem_append.1 hy with hy|hy
   ·exact .inl hy
   ·simp only [List.mem_singleton] at hy
    exact .inr ⟨ap g x,hy,by show (row.set (ap g x) (some (Ab t g))).getD (ap g x) none≠none;rw [Ad,if_pos ⟨rfl,hl⟩];simp⟩
  ·have hy:(row.set (ap g x) (some (Ab t g))).getD y none≠none:=hy
   rw [Ad] at hy
   split at hy
   ·rename_i hc
    exact .inr (by show (y:Int)∈q++ [(ap g x:Int)];rw [<-hc.1];simp)
   ·exact .inl hy
  ·show (row.set (ap g x) (some (Ab t g))).getD (ap g x) none≠none
   rw [Ad,if_pos ⟨rfl,hl⟩];simp
theorem TW {n l:Nat} {gs:List PO} (gJ:l<n) (hg:PG n l gs): ∀(ZS:List PO) {row:Row} {q:List Int},(∀o∈ZS,o∈gs)->Po n l gs row-> ∀ {x:Nat} {t:List Int},row.getD x none=some t->
  Ext n l gs row q (Vj (x:Int) ZS (row,q))/\ ∀g,some g∈ZS->(Vj (x:Int) ZS (row,q)).1.getD (ap g x) none≠none
 | [],row,q,_,h,x,t,hx=>⟨Ext.refl h,λg hg=>by cases hg⟩
 |o::ZS,row,q,hs,h,x,t,hx=>by
  obtain ⟨g,rfl,_,_⟩:=hg o (hs o (by simp))
  obtain ⟨e1,e2⟩:=YS (q:=q) gJ hg h hx (hs (some g) (by simp))
  obtain ⟨f1,f2⟩:=TW gJ hg ZS (q:=(Vs (x:Int) (row,q) (some g)).2) (λo ho=>hs o (by simp [ho])) e1.ok (e1.mono x t hx)
  have hb:Vj (x:Int) (some g::ZS) (row,q)=Vj (x:Int) ZS ((Vs (x:Int) (row,q) (some g)).1,(Vs (x:Int) (row,q) (some g)).2):=rfl
  rw [hb]
  refine ⟨e1.trans f1,λg' Nn=>?_⟩
  rcases List.mem_cons.1 Nn with e|Nn
  ·cases e;exact bJ f1.mono e2
  ·exact f2 g' Nn
def KS (gs:List PO) (q:List Int) (row:Row):Prop:=
 (∀y∈q,∃yn:Nat,y=yn/\row.getD yn none≠none)/\ ∀y:Nat,row.getD y none≠none->(y:Int)∈q\/ ∀g,some g∈gs->row.getD (ap g y) none≠none
theorem FX {n l:Nat} {gs:List PO} (gJ:l<n) (hg:PG n l gs) {x:Int} {q:List Int} {row:Row} (h:Po n l gs row) (hq:KS gs (x::q) row):
  Ext n l gs row q (Vj x gs (row,q))/\KS gs (Vj x gs (row,q)).2 (Vj x gs (row,q)).1/\ ∃(xn:Nat) (t:List Int),x=xn/\row.getD xn none=some t:=by
 obtain ⟨xn,rfl,hx⟩:=hq.1 x (by simp)
 cases e:row.getD xn none with
 |none=>exact absurd e hx
 |some t=>
  obtain ⟨e1,e2⟩:=TW gJ hg gs (q:=q) (λo ho=>ho) h e
  refine ⟨e1,⟨λy hy=>?_,λy hy=>?_⟩,xn,t,rfl,e⟩
  ·rcases e1.new y hy with h1|h1
   ·obtain ⟨yn,h2,h3⟩:=hq.1 y (by simp [h1])
    exact ⟨yn,h2,bJ e1.mono h3⟩
   ·exact h1
  ·rcases e1.src y hy with h1|h1
   ·rcases hq.2 y h1 with h2|h2
    ·rcases List.mem_cons.1 h2 with h2|h2
     ·have:y=xn:=by omega
      subst this
      exact .inr λg Nn=>e2 g Nn
     ·exact .inl (e1.rU _ h2)
    ·exact .inr λg Nn=>bJ e1.mono (h2 g Nn)
   ·exact .inl h1
theorem UD {n l:Nat} {gs:List PO} (gJ:l<n) (hg:PG n l gs): ∀(f:Nat) (q:List Int) (row:Row),q.length+Hj row<=f->Po n l gs row->KS gs q row->
  Po n l gs (Ux gs f q row)/\(∀y t,row.getD y none=some t->(Ux gs f q row).getD y none=some t)/\ ∀y t g,(Ux gs f q row).getD y none=some t->some g∈gs->(Ux gs f q row).getD (ap g y) none≠none
 |0,q,row,hf,h,hq=>by
  have:q= []:=List.eq_nil_of_length_eq_zero (by omega)
  subst this
  exact ⟨h,λ_ _ h=>h,λy t g e Nn=>by
   rcases hq.2 y (by rw [show row.getD y none=some t from e];simp) with h1|h1
   ·cases h1
   ·exact h1 g Nn⟩
 |f+1,[],row,hf,h,hq=>⟨h,λ_ _ h=>h,λy t g e Nn=>by
   rcases hq.2 y (by rw [show row.getD y none=some t from e];simp) with h1|h1
   ·cases h1
   ·exact h1 g Nn⟩
 |f+1,x::q,row,hf,h,hq=>by
  obtain ⟨e1,e2,_⟩:=FX gJ hg h hq
  obtain ⟨r1,r2,r3⟩:=UD gJ hg f _ _ (by have:=e1.phi;simp only [List.length_cons] at hf;omega) e1.ok e2
  exact ⟨r1,λy t e=>r2 y t (e1.mono y t e),r3⟩
theorem Wa {row:Row} {y:Int} :y∈Pw row↔ ∃yn:Nat,y=yn/\row.getD yn none≠none:=by
 unfold Pw
 rw [List.mem_filter,Uj]
 constructor
 ·rintro ⟨h1,h2⟩
  exact ⟨y.toNat,by omega,Option.ne_none_iff_isSome.2 h2⟩
 ·rintro ⟨yn,rfl,h⟩
  obtain ⟨t,ht⟩:=Option.ne_none_iff_exists'.1 h
  exact ⟨by have:=jJ ht;omega,by simpa using Option.ne_none_iff_isSome.1 h⟩
theorem wG (row:Row):(Pw row).length<=row.length:=by
 unfold Pw
 refine Nat.le_trans (List.length_filter_le _ _) (by simp [upto])
theorem dV (row:Row):Hj row<=row.length:=List.countP_le_length
theorem zK {n l:Nat} {gs:List PO} (gJ:l<n) (h2:n<=20) (hg:PG n l gs) {row:Row} (h:Po n l gs row):
  Po n l gs (Tt gs row)/\(∀y t,row.getD y none=some t->(Tt gs row).getD y none=some t)/\ ∀y t g,(Tt gs row).getD y none=some t->some g∈gs->(Tt gs row).getD (ap g y) none≠none:=
 UD gJ hg 100 _ _ (by have:=wG row;have:=dV row;have:=h.rl;omega) h ⟨λy hy=>Wa.1 hy,λy hy=> .inl (Wa.2 ⟨y,rfl,hy⟩)⟩
theorem yp {n l:Nat} {gs:List PO} (gJ:l<n) (hg:PG n l gs): ∀(f:Nat) (q:List Int) (row:Row),q.length+Hj row<=f->Po n l gs row->KS gs q row->Ux gs f q row=Ux gs (q.length+Hj row) q row
 |0,q,row,hf,_,_=>by
  have:q.length+Hj row=0:=by omega
  rw [this]
 |f+1,[],row,hf,_,_=>by
  cases h:([]:List Int).length+Hj row with
  |zero=>rfl
  |succ m=>rfl
 |f+1,x::q,row,hf,h,hq=>by
  obtain ⟨e1,e2,_⟩:=FX gJ hg h hq
  have XP:=e1.phi
  have:(x::q).length+Hj row=(q.length+Hj row)+1:=by simp only [List.length_cons];omega
  rw [this]
  simp only [Ux]
  rw [yp gJ hg f _ _ (by simp only [List.length_cons] at hf;omega) e1.ok e2,XP]
def rZ (row:Row):Nat:=row.countP (·.isSome)
theorem lq: ∀(a b:Row),a.length=b.length->(∀y t,a.getD y none=some t->b.getD y none=some t)->rZ a<=rZ b/\(rZ a=rZ b->a=b)
 | [],[],_,_=>⟨Nat.le_refl _,λ_=>rfl⟩
 | [],_::_,h,_=>by simp at h
 |_::_,[],h,_=>by simp at h
 |x::a,y::b,h,hm=>by
  obtain ⟨h1,h2⟩:=lq a b (by simpa using h) λi t e=>by simpa using hm (i+1) t (by simpa using e)
  unfold rZ at h1 h2⊢
  cases x with
  |none=>
   cases y with
   |none=>simp only [List.countP_cons];exact ⟨by simpa using h1,λe=>by rw [h2 (by simpa using e)]⟩
   |some u=>
    simp only [List.countP_cons,Option.isSome_none,Option.isSome_some]
    simp only [if_true,Bool.false_eq_true,if_false]
    exact ⟨by omega,λe=>by omega⟩
  |some t=>
   have:=hm 0 t (by simp)
   simp only [List.getD_cons_zero] at this
   subst this
   simp only [List.countP_cons]
   exact ⟨by simpa using h1,λe=>by rw [h2 (by simpa using e)]⟩
def dY (T:Aw):Nat->Nat->Nat
 |0,_=>0
 |k+1,l=>rZ (T.getD l [])+dY T k (l+1)
def GBf:Nat->Nat->Aw×Aw->Prop
 |0,_,_=>True
 |k+1,l,s=>GBf k (l+1) s/\(s.1.getD l []).length<=dY s.2 (k+1) l
structure Qn (l0:Nat) (s s':Aw×Aw):Prop where
 MC:s'.1.length=s.1.length
 q9:s'.2.length=s.2.length
 low: ∀i,i<l0->s'.1.getD i []=s.1.getD i []/\s'.2.getD i []=s.2.getD i []
 tY: ∀i o,o∈s.1.getD i []->o∈s'.1.getD i []
 rG: ∀i y t,(s.2.getD i []).getD y none=some t->(s'.2.getD i []).getD y none=some t
 UC: ∀i,(s'.2.getD i []).length=(s.2.getD i []).length
theorem Qn.refl (l0:Nat) (s:Aw×Aw):Qn l0 s s:=⟨rfl,rfl,λ_ _=>⟨rfl,rfl⟩,λ_ _ h=>h,λ_ _ _ h=>h,λ_=>rfl⟩
theorem Qn.trans {l0 l1:Nat} {a b c:Aw×Aw} (h:Qn l0 a b) (k:Qn l1 b c) (hl:l0<=l1):Qn l0 a c:=
 ⟨k.MC.trans h.MC,k.q9.trans h.q9,λi hi=>⟨(k.low i (by omega)).1.trans (h.low i hi).1,(k.low i (by omega)).2.trans (h.low i hi).2⟩,λi o ho=>k.tY i o (h.tY i o ho),λi y t e=>k.rG i y t (h.rG i y t e),λi=>(k.UC i).trans (h.UC i)⟩
theorem Qn.En {l0 l1:Nat} {a b:Aw×Aw} (h:Qn l1 a b) (hl:l0<=l1):Qn l0 a b:=(Qn.refl l0 a).trans h hl
theorem Yu {T T':Aw} : ∀(k l:Nat) (p:List Int),(∀i,l<=i->i<l+k->T'.getD i []=T.getD i [])->Ee T' k l p=Ee T k l p
 |0,_,_,_=>rfl
 |k+1,l,p,h=>by
  simp only [Ee]
  rw [h l (Nat.le_refl _) (by omega)]
  split
  ·rfl
  ·exact Yu k (l+1) _ λi h1 h2=>h i (by omega) (by omega)
theorem Pb {n:Nat} {s s':Aw×Aw} : ∀(k l:Nat),(∀i,l<=i->s'.1.getD i []=s.1.getD i []/\s'.2.getD i []=s.2.getD i [])->fU n k l s->fU n k l s'
 |0,l,h,hc=>by simp only [fU] at hc⊢;rw [(h l (Nat.le_refl _)).1];exact hc
 |k+1,l,h,hc=>by
  simp only [fU] at hc⊢
  obtain ⟨c1,c2,c3⟩:=hc
  refine ⟨Pb k (l+1) (λi hi=>h i (by omega)) c1,?_,?_⟩
  ·rw [(h l (Nat.le_refl _)).1,(h l (Nat.le_refl _)).2]
   have e:(λq=>Ee s'.2 k (l+1) q=true)= λq=>Ee s.2 k (l+1) q=true:=funext λq=>by rw [Yu k (l+1) q λi h1 h2=>(h i (by omega)).2]
   rw [e];exact c2
  ·rw [(h (l+1) (by omega)).1,(h l (Nat.le_refl _)).1];exact c3
theorem uI {T T':Aw} : ∀(k l:Nat),(∀i,l<=i->T'.getD i []=T.getD i [])->dY T' k l=dY T k l
 |0,_,_=>rfl
 |k+1,l,h=>by simp only [dY];rw [h l (Nat.le_refl _),uI k (l+1) λi hi=>h i (by omega)]
theorem Xf {s s':Aw×Aw} : ∀(k l:Nat),(∀i,l<=i->s'.1.getD i []=s.1.getD i []/\s'.2.getD i []=s.2.getD i [])->GBf k l s->GBf k l s'
 |0,_,_,_=>trivial
 |k+1,l,h,hg=>⟨Xf k (l+1) (λi hi=>h i (by omega)) hg.1,by
  rw [(h l (Nat.le_refl _)).1,uI (k+1) l λi hi=>(h i hi).2];exact hg.2⟩
theorem qA {T T':Aw} (hl: ∀i,(T'.getD i []).length=(T.getD i []).length) (hm: ∀i y t,(T.getD i []).getD y none=some t->(T'.getD i []).getD y none=some t):
  ∀(k l:Nat),dY T k l<=dY T' k l/\(dY T k l=dY T' k l-> ∀i,l<=i->i<l+k->T'.getD i []=T.getD i [])
 |0,l=>⟨Nat.le_refl _,λ_ i h1 h2=>by omega⟩
 |k+1,l=>by
  obtain ⟨h1,h2⟩:=qA hl hm k (l+1)
  obtain ⟨h3,h4⟩:=lq (T.getD l []) (T'.getD l []) (hl l).symm (hm l)
  simp only [dY]
  refine ⟨by omega,λe i g1 g2=>?_⟩
  by_cases hi:i=l
  ·subst hi;exact (h4 (by omega)).symm
  ·exact h2 (by omega) i (by omega) (by omega)
def V (n k l:Nat) (s:Aw×Aw):Prop:=s.1.length=n/\s.2.length=n/\fU n k l s/\GBf k l s
structure PK (n k l:Nat) (s:Aw×Aw) (p:List Int) (s':Aw×Aw):Prop where
 v:V n k l s'
 grow:Qn l s s'
 Ad7:Gn n (s'.1.getD l []) p
 gens: ∀o∈s'.1.getD l [],o∈s.1.getD l []\/o=some p
theorem WM.row {n l:Nat} {gs:List PO} {row:Row} {H:List Int->Prop} (h:WM n l gs row H):Po n l gs row:=⟨h.rl,h.r0,h.rt⟩
theorem ez {row:Row} {y:Nat} {t g t':List Int} (h1:row.getD y none=some t) (h2:row.getD (ap g y) none=some t'):Oh row (y:Int) (some g)=Ab (Ab t g) (Ah t'):=by
 unfold Oh
 rw [Int.toNat_natCast,h1,Option.getD_some,Option.getD_some,show (Iy g (y:Int)).toNat=ap g y from rfl,h2,Option.getD_some]
theorem lN {n l:Nat} {gs:List PO} {row:Row} (hg:PG n l gs) (_h:Po n l gs row) (hc: ∀y t g,row.getD y none=some t->some g∈gs->row.getD (ap g y) none≠none) {q:List Int} :
  q∈cE row gs↔ ∃(y:Nat) (t g t':List Int),row.getD y none=some t/\some g∈gs/\row.getD (ap g y) none=some t'/\q=Ab (Ab t g) (Ah t'):=by
 unfold cE
 rw [List.mem_flatMap]
 constructor
 ·rintro ⟨y,hy,hq⟩
  obtain ⟨o,ho,rfl⟩:=List.mem_map.1 hq
  obtain ⟨yn,rfl,hyn⟩:=Wa.1 hy
  obtain ⟨t,ht⟩:=Option.ne_none_iff_exists'.1 hyn
  obtain ⟨g,rfl,Oc,_⟩:=hg o ho
  obtain ⟨t',ud⟩:=Option.ne_none_iff_exists'.1 (hc yn t g ht ho)
  exact ⟨yn,t,g,t',ht,ho,ud,ez ht ud⟩
 ·rintro ⟨y,t,g,t',h1,h2,h3,rfl⟩
  obtain ⟨g',e,Oc,_⟩:=hg _ h2
  cases e
  exact ⟨(y:Int),Wa.2 ⟨y,rfl,by rw [h1];simp⟩,List.mem_map.2 ⟨some g,h2,ez h1 h3⟩⟩
theorem vC {n:Nat} (h1:1<=n) (h2:n<=20): ∀(k l:Nat) (p:List Int) (s:Aw×Aw),l+k=n->V n k l s->Pm n p->Fx l p->PK n k l s p (Dt k l p s)
 |0,l,p,s,hk,hv,hp,hf=>by
  have hl:l=n:=by omega
  subst hl
  exact ⟨hv,Qn.refl _ _,by rw [hf.all hp];exact .id,λo ho=> .inl ho⟩
 |k+1,l,p,s,hk,hv,hp,hf=>by
  have gJ:l<n:=by omega
  obtain ⟨v1,v2,hc,u9⟩:=hv
  have gF:=hc
  obtain ⟨c1,c2,c3⟩:=hc
  unfold Dt
  by_cases hh:Ee s.2 (k+1) l p=true
  ·rw [if_pos hh]
   exact ⟨⟨v1,v2,gF,u9⟩,Qn.refl _ _,(Om h1 h2 (k+1) l s hk gF p hp hf).1 hh,λo ho=> .inl ho⟩
  rw [if_neg hh]
  generalize jM:s.1.getD l []++ [some p]=gs
  have Uz:some p∈gs:=by rw [<-jM];simp
  have Kx: ∀o∈s.1.getD l [],o∈gs:= λo ho=>by rw [<-jM];exact List.mem_append_left _ ho
  have hg:PG n l gs:= λo ho=>by
   rw [<-jM] at ho
   rcases List.mem_append.1 ho with ho|ho
   ·exact c2.pg o ho
   ·rw [List.mem_singleton] at ho;exact ⟨p,ho,hp,hf⟩
  have Ah5:Po n l gs (s.2.getD l []):=⟨c2.rl,c2.r0,λy t e=>⟨(c2.rt y t e).1,(c2.rt y t e).2.1,(c2.rt y t e).2.2.1,(c2.rt y t e).2.2.2.mono λg hg=>Kx _ hg⟩⟩
  obtain ⟨r1,r2,r3⟩:=zK gJ h2 hg Ah5
  generalize hR:Tt gs (s.2.getD l [])=R at r1 r2 r3
  have hS:xX n λg=>some g∈gs:=⟨⟨h1,h2⟩,λg Nn=>by obtain ⟨g',e,h,_⟩:=hg _ Nn;cases e;exact h⟩
  have qL: ∀i,((s.1.set l gs).getD i []=if i=l then gs else s.1.getD i [])/\(s.2.set l R).getD i []=if i=l then R else s.2.getD i []:= λi=>by
   rw [Gs,Gs]
   by_cases e:l=i
   ·subst e;rw [if_pos ⟨rfl,by omega⟩,if_pos rfl,if_pos ⟨rfl,by omega⟩,if_pos rfl];exact ⟨rfl,rfl⟩
   ·rw [if_neg (λhh=>e hh.1),if_neg (Ne.symm e),if_neg (λhh=>e hh.1),if_neg (Ne.symm e)];exact ⟨rfl,rfl⟩
  have ue: ∀i,l+1<=i->(s.1.set l gs).getD i []=s.1.getD i []/\(s.2.set l R).getD i []=s.2.getD i []:= λi hi=>by
   rw [(qL i).1,(qL i).2,if_neg (by omega),if_neg (by omega)];exact ⟨rfl,rfl⟩
  have bz:V n k (l+1) (s.1.set l gs,s.2.set l R):=⟨by simpa using v1,by simpa using v2,Pb k (l+1) ue c1,Xf k (l+1) ue u9.1⟩
  have iH:Qn l s (s.1.set l gs,s.2.set l R):=by
   refine ⟨by simp,by simp,λi hi=>?_,λi o ho=>?_,λi y t e=>?_,λi=>?_⟩
   ·rw [(qL i).1,(qL i).2,if_neg (by omega),if_neg (by omega)];exact ⟨rfl,rfl⟩
   ·rw [(qL i).1]
    split
    ·rename_i hi;subst hi;exact Kx o ho
    ·exact ho
   ·rw [(qL i).2]
    split
    ·rename_i hi;subst hi;exact r2 y t e
    ·exact e
   ·rw [(qL i).2]
    split
    ·rename_i hi;subst hi;rw [r1.rl,c2.rl]
    ·rfl
  have hq: ∀q∈cE R gs,Pm n q/\Fx (l+1) q/\Gn n gs q:= λq hq=>by
   obtain ⟨y,t,g,t',e1,e2,e3,rfl⟩:=(lN hg r1 r3).1 hq
   obtain ⟨t1,t2,t3,t4⟩:=r1.rt _ _ e1
   obtain ⟨u1,u2,u3,u4⟩:=r1.rt _ _ e3
   obtain ⟨g',e,Oc,hgf⟩:=hg _ e2
   cases e
   exact ⟨(t1.comp Oc).comp u1.inv,Fx.div (t1.comp Oc) u1 (Fx.comp t1 Oc t2 hgf (by omega)) u2 gJ (by rw [u3,Hg t1 Oc gJ,t3]),Yf.comp hS (.mul t4 e2) (Yf.oF hS u4)⟩
  have fold: ∀(qs:List (List Int)) (s1:Aw×Aw),(∀q∈qs,Pm n q/\Fx (l+1) q)->V n k (l+1) s1->
    V n k (l+1) (qs.foldl (λs q=>Dt k (l+1) q s) s1)/\Qn (l+1) s1 (qs.foldl (λs q=>Dt k (l+1) q s) s1)/\
     (∀q∈qs,Gn n ((qs.foldl (λs q=>Dt k (l+1) q s) s1).1.getD (l+1) []) q)/\ ∀o∈(qs.foldl (λs q=>Dt k (l+1) q s) s1).1.getD (l+1) [],o∈s1.1.getD (l+1) []\/ ∃q∈qs,o=some q:=by
   intro qs
   induction qs with
   |nil=>exact λs1 _ hv=>⟨hv,Qn.refl _ _,(λq hq=>by cases hq),λo ho=>Or.inl ho⟩
   |cons q qs ih=>
    intro s1 LV hv
    have ha:=vC h1 h2 k (l+1) q s1 (by omega) hv (LV q (by simp)).1 (LV q (by simp)).2
    obtain ⟨g1,g2,g3,g4⟩:=ih (Dt k (l+1) q s1) (λq' gf=>LV q' (by simp [gf])) ha.v
    simp only [List.foldl_cons]
    refine ⟨g1,ha.grow.trans g2 (Nat.le_refl _),λq' gf=>?_,λo ho=>?_⟩
    ·rcases List.mem_cons.1 gf with rfl|gf
     ·exact ha.Ad7.mono λg hg=>g2.tY _ _ hg
     ·exact g3 q' gf
    ·rcases g4 o ho with h|⟨q',gf,h⟩
     ·rcases ha.gens o h with h|h
      ·exact .inl h
      ·exact .inr ⟨q,by simp,h⟩
     ·exact .inr ⟨q',by simp [gf],h⟩
  obtain ⟨f1,f2,f3,f4⟩:=fold (cE R gs) (s.1.set l gs,s.2.set l R) (λq h=>⟨(hq q h).1,(hq q h).2.1⟩) bz
  generalize (cE R gs).foldl (λs q=>Dt k (l+1) q s) (s.1.set l gs,s.2.set l R)=s' at f1 f2 f3 f4
  obtain ⟨w1,w2,w3,w4⟩:=f1
  have el1:s'.1.getD l []=gs:=by rw [(f2.low l (by omega)).1,(qL l).1,if_pos rfl]
  have el2:s'.2.getD l []=R:=by rw [(f2.low l (by omega)).2,(qL l).2,if_pos rfl]
  have pL:=iH.trans f2 (by omega)
  have Ach:WM n l gs R (λq=>Ee s'.2 k (l+1) q=true):=⟨hg,r1.rl,r1.r0,r1.rt,r3,λy t g t' e1 e2 e3=>by
   have hm:=(lN hg r1 r3).2 ⟨y,t,g,t',e1,e2,e3,rfl⟩
   exact (Om h1 h2 k (l+1) s' (by omega) w3 _ (hq _ hm).1 (hq _ hm).2.1).2 (f3 _ hm)⟩
  have yT:fU n (k+1) l s':=⟨w3,by rw [el1,el2];exact Ach,λg Nn=>by
   rw [el1]
   rcases f4 _ Nn with h|⟨q,gf,h⟩
   ·rw [(ue (l+1) (Nat.le_refl _)).1] at h
    exact (c3 g h).mono λg hg=>Kx _ hg
   ·cases h;exact (hq _ gf).2.2⟩
  have dJ:Gn n (s'.1.getD l []) p:=by rw [el1];exact Yf.one hS Uz
  refine ⟨⟨w1,w2,yT,w4,?_⟩,pL,dJ,λo ho=>?_⟩
  ·have hold:=u9.2
   obtain ⟨p1,p2⟩:=qA pL.UC pL.rG (k+1) l
   have Ek:dY s.2 (k+1) l≠dY s'.2 (k+1) l:= λe=>by
    have:=Yu (k+1) l p (p2 e)
    rw [(Om h1 h2 (k+1) l s' hk yT p hp hf).2 dJ] at this
    exact hh this.symm
   rw [el1,<-jM,List.length_append,List.length_singleton]
   omega
  ·rw [el1,<-jM] at ho
   rcases List.mem_append.1 ho with ho|ho
   ·exact .inl ho
   ·rw [List.mem_singleton] at ho;exact .inr ho
end Go.Proofs.YtfolipnappekaaaGreat

namespace Go.Proofs.YtfolipnappekaaaGreat
open Go.RowKit
theorem TU {n l:Nat} {gs:List PO} {R:Row} (gJ:l<n) (hg:PG n l gs) (r1:Po n l gs R) (r3: ∀y t g,R.getD y none=some t->some g∈gs->R.getD (ap g y) none≠none): ∀q∈cE R gs,Pm n q/\Fx (l+1) q:=by
 intro q hq
 obtain ⟨y,t,g,t',e1,e2,e3,rfl⟩:=(lN hg r1 r3).1 hq
 obtain ⟨t1,t2,t3,t4⟩:=r1.rt _ _ e1
 obtain ⟨u1,u2,u3,u4⟩:=r1.rt _ _ e3
 obtain ⟨g',e,Oc,hgf⟩:=hg _ e2
 cases e
 exact ⟨(t1.comp Oc).comp u1.inv,Fx.div (t1.comp Oc) u1 (Fx.comp t1 Oc t2 hgf (by omega)) u2 gJ (by rw [u3,Hg t1 Oc gJ,t3])⟩
theorem V.lower {n k l:Nat} {s:Aw×Aw} (h:V n (k+1) l s) (gs:List PO) (R:Row):V n k (l+1) (s.1.set l gs,s.2.set l R):=by
 obtain ⟨v1,v2,hc,u9⟩:=h
 have ue: ∀i,l+1<=i->(s.1.set l gs).getD i []=s.1.getD i []/\(s.2.set l R).getD i []=s.2.getD i []:= λi hi=>by
  rw [Gs,Gs,if_neg (by omega),if_neg (by omega)];exact ⟨rfl,rfl⟩
 exact ⟨by simpa using v1,by simpa using v2,Pb k (l+1) ue hc.1,Xf k (l+1) ue u9.1⟩
theorem IX {n k l:Nat} (h1:1<=n) (h2:n<=20) (hk:l+k=n): ∀(qs:List (List Int)) (s1:Aw×Aw),(∀q∈qs,Pm n q/\Fx l q)->V n k l s1->
  V n k l (qs.foldl (λs q=>Dt k l q s) s1)/\Qn l s1 (qs.foldl (λs q=>Dt k l q s) s1)
 | [],s1,_,hv=>⟨hv,Qn.refl _ _⟩
 |q::qs,s1,LV,hv=>by
  have ha:=vC h1 h2 k l q s1 hk hv (LV q (by simp)).1 (LV q (by simp)).2
  obtain ⟨g1,g2⟩:=IX h1 h2 hk qs (Dt k l q s1) (λq' gf=>LV q' (by simp [gf])) ha.v
  exact ⟨g1,ha.grow.trans g2 (Nat.le_refl _)⟩
theorem TV {n:Nat} {s:Aw×Aw} : ∀(k l:Nat),fU n k l s->dY s.2 k l<=n*k
 |0,_,_=>by simp [dY]
 |k+1,l,hc=>by
  have h1:=TV k (l+1) hc.1
  have h2:rZ (s.2.getD l [])<=n:=by
   have:=hc.2.1.rl
   have h3:rZ (s.2.getD l [])<=(s.2.getD l []).length:=List.countP_le_length
   omega
  simp only [dY]
  rw [Nat.mul_succ]
  omega
theorem JB {n k l:Nat} {s:Aw×Aw} (h2:n<=20) (hk:l+(k+1)=n) (h:V n (k+1) l s):(s.1.getD l []).length<=400:=by
 have h3:=h.2.2.2.2
 have h4:=TV (k+1) l h.2.2.1
 have h5:n*(k+1)<=20*20:=Nat.mul_le_mul h2 (by omega)
 omega
theorem V.lvl {n k l:Nat} {s:Aw×Aw} (h:V n (k+1) l s):WM n l (s.1.getD l []) (s.2.getD l []) (λq=>Ee s.2 k (l+1) q=true):=h.2.2.1.2.1
theorem V.pg {n k l:Nat} {s:Aw×Aw} (h:V n (k+1) l s) {p:List Int} (hp:Pm n p) (hf:Fx l p):PG n l (s.1.getD l []++ [some p]):= λo ho=>by
 rcases List.mem_append.1 ho with ho|ho
 ·exact h.lvl.pg o ho
 ·rw [List.mem_singleton] at ho;exact ⟨p,ho,hp,hf⟩
theorem V.Anm {n k l:Nat} {s:Aw×Aw} (h:V n (k+1) l s) (p:List Int):Po n l (s.1.getD l []++ [some p]) (s.2.getD l []):=
 ⟨h.lvl.rl,h.lvl.r0,λy t e=>⟨(h.lvl.rt y t e).1,(h.lvl.rt y t e).2.1,(h.lvl.rt y t e).2.2.1,(h.lvl.rt y t e).2.2.2.mono λ_ hg=>List.mem_append_left _ hg⟩⟩
theorem sP {α:Type} (xs:List (List α)) (i:Nat) (h:i<xs.length):xs.set i (xs.getD i [])=xs:=by
 refine List.ext_getElem (by simp) λj h1 h2=>?_
 rw [List.getElem_set]
 split
 ·rename_i e;subst e;rw [List.getD_eq_getElem?_getD,List.getElem?_eq_getElem h];rfl
 ·rfl
theorem Zv {α:Type} (xs:List (List α)) (i:Nat) (h:i<xs.length) (r:List α):(xs.set i r).getD i []=r:=by
 rw [Gs,if_pos ⟨rfl,h⟩]
end Go.Proofs.YtfolipnappekaaaGreat

namespace Go.Proofs.YtfolipnappekaaaGreat
open Go.RowKit
noncomputable abbrev Tc:MSpec:=jf [none] [(false, .Dn YU)] false [none] [.row tI 2] (λx=>List.length x.1<=20) (λx=>((Pw x.1,()),()))
noncomputable abbrev Fl:Spec:=Cg (.pair tL (.pair tL .unit)) tO false true (λx=>(0<x.1.length/\x.1.length<=20)/\Hz x.2.1.length x.1) (λx=>some (Ab x.1 x.2.1))
noncomputable abbrev Ie:Spec:=Cg (.pair tL (.pair tL .unit)) tL false false (λx=>x.1.length<=20/\Hz x.2.1.length x.1) (λx=>Ab x.1 x.2.1)
noncomputable abbrev eu:Spec:=Cg (.pair tI .unit) tL false true (λx=>0<=x.1/\x.1<=20) (λx=>upto x.1.toNat)
noncomputable abbrev Ks:Spec:=Cg (.pair tI .unit) tO false true (λx=>1<=x.1/\x.1<=20) (λx=>some (upto x.1.toNat))
abbrev rV:TypeId:=22
structure Ql (N L:Nat) (n:Int) (G T:Aw) (l:Int) (p:List Int):Prop where
 n1:1<=N
 n2:N<=20
 en:n=N
 el:l=L
 le:L<=N
 v:V N (N-L) L (G,T)
 pm:Pm N p
 fx:Fx L p
noncomputable abbrev kx:Spec:=Cg (.pair (.ptr kU) (.pair tI (.pair tL .unit))) .bool false true (λx=> ∃N L,Ql N L x.1.1 x.1.2.1 x.1.2.2.1 x.2.1 x.2.2.1) (λx=>Ee x.1.2.2.1 (x.1.1-x.2.1).toNat x.2.1.toNat x.2.2.1)
noncomputable abbrev Aaz:MSpec:= {ptr:=some (141,3),Eh:= [none,none],ins:= [(false, .Dn tI),(false, .Al tO rV true),(false, .Al tO rV true),(false, .Dn tI),(false, .Dn tO)],Cs:=false,Di:= [],outs:= [.Dn tI, .Al tO rV false, .Al tO rV false],fn:= λ_=>none,keeps:= [(1,1),(2,2)],Cn:= λx=>x.2.2.2.1.toNat}
noncomputable abbrev Rd (m:Nat):MSpec:=fD Aaz (λx=>(∃N L q,x.2.2.2.2.1=some q/\Ql N L x.1 x.2.1 x.2.2.1 x.2.2.2.1 q)/\(x.1-x.2.2.2.1).toNat<m)
 (λx=>((x.1,(Dt (x.1-x.2.2.2.1).toNat x.2.2.2.1.toNat (x.2.2.2.2.1.getD []) (x.2.1,x.2.2.1)).1,(Dt (x.1-x.2.2.2.1).toNat x.2.2.2.1.toNat (x.2.2.2.2.1.getD []) (x.2.1,x.2.2.1)).2,()),()))
theorem BO (n:Int) (P:List Int->Prop):(((0:Int)<=n/\n<(↑Be:Int)+(1:Int))/\n=n/\0=0/\(List.replicate n.toNat (Int.ofNat (nat_lit 0))).length=(List.replicate n.toNat (Int.ofNat (nat_lit 0))).length/\Bk (λ(v2:Int×List Int×PUnit) (k3:Int×List Int×PUnit->Prop)=>Br (decide (v2.1<(↑(List.replicate n.toNat (Int.ofNat (nat_lit 0))).length:Int))) (((0:Int)<=v2.1/\v2.1<(↑v2.2.1.length:Int))/\0+v2.1.toNat<v2.2.1.length/\0=0/\v2.2.1.length=(v2.2.1.set (0+v2.1.toNat) v2.1).length/\k3 (IntKind.i64.wrap (v2.1+(1:Int)),v2.2.1.set (0+v2.1.toNat) v2.1,())) (P (List.take v2.2.1.length (List.drop 0 v2.2.1)))) ((0:Int),List.replicate n.toNat (Int.ofNat (nat_lit 0)),PUnit.unit))=fnW Cd (look []) eu Tryz.f105 (n,()) P:=by kernel_rfl
theorem OS (row:List (Option (List Int))) (P:(List Int×Unit)×Unit->Prop):(0=0/\0=([]:List Int).length/\Bk (λ(v2:Int×List Int×PUnit) (k3:Int×List Int×PUnit->Prop)=>Br (decide (v2.1<(↑row.length:Int))) (∃(y4:Option (List Int)),idx row v2.1=some y4/\Br (!y4.isNone) (0=0/\v2.2.1.length=v2.2.1.length/\v2.2.1.length+(List.take 1 (List.drop 0 [v2.1])).length<=Be/\0=0/\(v2.2.1++List.take 1 (List.drop 0 [v2.1])).length=(v2.2.1++List.take 1 (List.drop 0 [v2.1])).length/\k3 (IntKind.i64.wrap (v2.1+(1:Int)),v2.2.1++List.take 1 (List.drop 0 [v2.1]),())) (0=0/\v2.2.1.length=v2.2.1.length/\k3 (IntKind.i64.wrap (v2.1+(1:Int)),v2.2.1,()))) (P ((List.take v2.2.1.length (List.drop 0 v2.2.1),()),()))) ((0:Int),[],PUnit.unit))=fnMW Yi (look []) Tc Tryz.f147 (row,()) P:=by kernel_rfl
theorem Aiv (c:Int×List (List (Option (List Int)))×List (List (Option (List Int)))×Unit) (l:Int) (p:List Int) (P:Bool->Prop):(Bk (λ(v4:List Int×Int×PUnit) (k5:List Int×Int×PUnit->Prop)=>Br (decide (v4.2.1<c.1)) (∃(y6:List (Option (List Int))),idx c.2.2.1 v4.2.1=some y6/\ ∃(y7:Int),idx v4.1 v4.2.1=some y7/\ ∃(y8:Option (List Int)),idx y6 y7=some y8/\Br y8.isNone (P false) (∃(y9:List Int),Co.fn (y8.getD [],())=some y9/\ ∃(Jf:List Int),Ie.fn (v4.1,y9,())=some Jf/\k5 (Jf,IntKind.i64.wrap (v4.2.1+(1:Int)),()))) (P true)) (p,l,PUnit.unit))=fnW Yi (look [(56,Co),(121,Ie)]) kx Tryz.f99 (c,l,p,()) P:=by kernel_rfl
theorem Sound.loose {P:Program} {f:FuncId} {arg res:Ty} {pre:arg.den->Prop} {val:arg.den->res.den} (h:Sound P f (Go.Proofs.YtfolipnappekaaaGreat.Cg arg res false true pre val)):Sound P f (Go.Proofs.YtfolipnappekaaaGreat.Cg arg res false false pre val):=
 ⟨h.enter,λw S vs x y h1 h2 h3=>Calls.mono (h.calls w S vs x y h1 h2 h3) λe' w' hr=>by
  obtain ⟨v,g1,g2,g3⟩:=hr
  exact ⟨v,g1,g2,Bc.En (S:= λb=>S b\/(true=true/\b<w.heap.size)) g3 λk _ hk=>hk.elim .inl λhh=>absurd (show false=true from hh.1) (by simp)⟩⟩
theorem qX:Sound Tryz.prog 121 Ie:=Sound.loose Rg
theorem qY:Sound Tryz.prog 121 Fl:=Sound.toO Rg λx h=>⟨⟨h.1.2,h.2⟩,λe=>by
 have:=Kj x.1 x.2.1
 rw [e] at this
 have:=h.1.1
 simp only [List.length_nil] at*
 omega⟩
theorem zO (n:Int) (h:0<=n/\n<=20):fnW Cd (look []) eu Tryz.f105 (n,()) (λ(z:List Int)=>z=upto n.toNat):=by
 refine Eq.mp (BO n _) ⟨⟨by omega,by show n<(4294967296:Int)+1;omega⟩,rfl,rfl,rfl,?_⟩
 refine Aj n.toNat (λv=>v.1) (λj v=>v.2.1.length=n.toNat/\v.2.1.take j=upto j) rfl ⟨by simp,by simp [upto]⟩ ?_
 rintro j ⟨i,ys,⟨⟩⟩ K hj hi ⟨h1,h2⟩ hK
 dsimp only at hi h1 h2⊢
 subst hi
 rw [List.length_replicate]
 simp only [Int.toNat_natCast,Nat.zero_add]
 refine Br.dec (λhl=>⟨⟨by omega,by omega⟩,by omega,trivial,by rw [List.length_set],?_⟩) λhl=>?_
 ·rw [Ag (by omega)]
  refine hK (by omega) _ rfl ⟨by rw [List.length_set];exact h1,?_⟩
  rw [List.take_add_one,List.take_set_of_le (by omega),h2,List.getElem?_set_self (by omega),fR]
  rfl
 ·have:j=ys.length:=by omega
  subst this
  rw [List.take_length] at h2
  rw [List.drop_zero,List.take_length,h2,h1]
theorem o5:Sound Tryz.prog 105 eu:=
 Sound.Cg Bi Ai mixed Tryz.func105 (by kernel_rfl) (by kernel_rfl) λx h=>zO x.1 h
theorem KO {n:Int} (h:1<=n/\n<=20):(0<=n/\n<=20)/\upto n.toNat≠ []:=⟨by omega,λe=>by
 have:=congrArg List.length e
 simp [upto] at this
 omega⟩
theorem o4:Sound Tryz.prog 105 Ks:=Sound.toO o5 λ_ h=>KO h
theorem zJ {row:Row} {j:Nat} :(upto (j+1)).filter (λy=>(row.getD y.toNat none).isSome)=(upto j).filter (λy=>(row.getD y.toNat none).isSome)++if (row.getD j none).isSome=true then [(j:Int)] else []:=by
 rw [fR,List.filter_append]
 congr 1
 simp only [List.filter_cons,List.filter_nil,Int.toNat_natCast]
theorem MU (row:List (Option (List Int))) (h:List.length row<=20):fnMW Yi (look []) Tc Tryz.f147 (row,()) (λ(z:(List Int×Unit)×Unit)=>z=((Pw row,()),())):=by
 refine Eq.mp (OS row _) ⟨rfl,rfl,?_⟩
 refine Aj row.length (λv=>v.1) (λj v=>v.2.1=(upto j).filter (λy=>(row.getD y.toNat none).isSome)) rfl rfl ?_
 rintro j ⟨i,ys,⟨⟩⟩ K hj hi h1 hK
 dsimp only at hi h1⊢
 subst hi
 refine Br.dec (λhl=>?_) λhl=>?_
 ·have hl:j<row.length:=by omega
  have hlen:ys.length<=j:=by rw [h1];refine Nat.le_trans (List.length_filter_le _ _) (by simp [upto])
  have hg:row.getD j none=row[j]:=by rw [List.getD_eq_getElem?_getD,List.getElem?_eq_getElem hl];rfl
  refine ⟨_,Aq hl,Br.of (λhb=>⟨rfl,rfl,?_,rfl,rfl,?_⟩) λhb=>⟨rfl,rfl,?_⟩⟩
  ·show ys.length+1<=4294967296
   omega
  ·rw [Ag (by omega)]
   refine hK hl _ rfl ?_
   show ys++ [(j:Int)]=_
   rw [zJ,hg,h1,if_pos (by cases e:row[j] with
    |none=>rw [e] at hb;simp at hb
    |some t=>rfl)]
  ·rw [Ag (by omega)]
   refine hK hl _ rfl ?_
   show ys=_
   rw [zJ,hg,h1,if_neg (by cases e:row[j] with
    |none=>simp
    |some t=>rw [e] at hb;simp at hb),List.append_nil]
 ·have:j=row.length:=by omega
  subst this
  rw [List.drop_zero,List.take_length,h1]
  rfl
theorem sV:Ay Tryz.prog 147 Tc:=
 Ay.jf rD Ai mixed Tryz.func147 (by kernel_rfl) (by kernel_rfl) λx h=>MU x.1 h
theorem pj {n:Nat} {s:Aw×Aw} : ∀(k l:Nat),fU n k l s-> ∀i,l<=i->i<l+k->WM n i (s.1.getD i []) (s.2.getD i []) (λq=>Ee s.2 (l+k-i-1) (i+1) q=true)
 |0,_,_,i,h1,h2=>by omega
 |k+1,l,hc,i,h1,h2=>by
  obtain ⟨c1,c2,_⟩:=hc
  by_cases e:i=l
  ·subst e
   rw [show i+(k+1)-i-1=k by omega]
   exact c2
  ·have:=pj k (l+1) c1 i (by omega) (by omega)
   rwa [show l+1+k-i-1=l+(k+1)-i-1 by omega] at this
theorem ZR {α:Type} {xs:List (List α)} {i:Nat} (h:i<xs.length):xs.getD i []=xs[i]:=by
 rw [List.getD_eq_getElem?_getD,List.getElem?_eq_getElem h];rfl
theorem yN {α:Type} {xs:List (Option α)} {i:Nat} (h:i<xs.length):xs.getD i none=xs[i]:=by
 rw [List.getD_eq_getElem?_getD,List.getElem?_eq_getElem h];rfl
theorem Pm.row {n:Nat} {p:List Int} (h:Pm n p):Hz n p:=by
 have:=h.2.row
 rwa [h.1] at this
theorem Ai7 (c:Int×List (List (Option (List Int)))×List (List (Option (List Int)))×Unit) (l:Int) (p:List Int) (h: ∃N L,Ql N L c.1 c.2.1 c.2.2.1 l p):
  fnW Yi (look [(56,Co),(121,Ie)]) kx Tryz.f99 (c,l,p,()) (λ(z:Bool)=>z=Ee c.2.2.1 (c.1-l).toNat l.toNat p):=by
 obtain ⟨n,G,T,⟨⟩⟩:=c
 obtain ⟨N,L,h⟩:=h
 obtain ⟨n1,n2,en,el,hle,v,pm,fx⟩:=h
 dsimp only at en el v⊢
 subst en el
 refine Eq.mp (Aiv ((N:Int),G,T,()) (L:Int) p _) ?_
 obtain ⟨v1,v2,v3,v4⟩:=v
 dsimp only at v1 v2
 refine ⟨λv=> ∃i:Nat,L<=i/\i<=N/\v.2.1=i/\Pm N v.1/\Fx i v.1/\Ee T (N-i) i v.1=Ee T (N-L) L p,λv=>N-v.2.1.toNat,⟨L,Nat.le_refl _,hle,rfl,pm,fx,rfl⟩,?_⟩
 rintro ⟨p',i',⟨⟩⟩ ⟨i,h1,h2,h3,h4,h5,h6⟩
 dsimp only at h3 h4 h5 h6⊢
 subst h3
 rw [show (((N:Int)-(L:Int)).toNat)=N-L by omega,show ((L:Int)).toNat=L by omega,<-h6]
 refine Br.dec (λhl=>?_) λhl=>?_
 ·have hl:i<N:=by omega
  have Gj:=pj (N-L) L v3 i h1 (by omega)
  obtain ⟨a1,a2⟩:=h4.Vq hl
  have hT:i<T.length:=by omega
  have hlen:T[i].length=N:=by have:=Gj.rl;dsimp only at this;rwa [ZR hT] at this
  refine ⟨_,Aq hT,_,Aq (by rw [h4.1];exact hl),?_⟩
  have e1:p'[i]'(by rw [h4.1];exact hl)=(ap p' i:Int):=by rw [<-a1,Hx]
  rw [e1]
  refine ⟨_,Aq (by omega),?_⟩
  have e2:N-i=(N-i-1)+1:=by omega
  have e3:(T.getD i []).getD (Iy p' (i:Int)).toNat none=T[i][ap p' i]'(by omega):=by
   rw [ZR hT];exact yN (by show ap p' i<_;omega)
  rw [e2]
  simp only [Ee,e3]
  refine Br.of (λhb=>?_) λhb=>?_
  ·cases e:T[i][ap p' i]'(by omega) with
   |none=>rfl
   |some t=>rw [e] at hb;simp at hb
  ·cases e:T[i][ap p' i]'(by omega) with
   |none=>rw [e] at hb;simp at hb
   |some t=>
    have ht:(T.getD i []).getD (ap p' i) none=some t:=by rw [<-e];exact e3
    obtain ⟨t1,t2,t3,t4⟩:=Gj.rt _ _ ht
    simp only [Option.getD_some]
    refine ⟨_,if_pos ⟨by show t.length<=20;rw [t1.1];exact n2,t1.2.row⟩,_,if_pos ⟨by show p'.length<=20;rw [h4.1];exact n2,by show Hz (Ah t).length p';rw [jR,t1.1];exact h4.row⟩,⟨i+1,by omega,by omega,Ag (by omega),h4.comp t1.inv,Fx.div h4 t1 h5 t2 hl t3,?_⟩,?_⟩
    ·rw [show N-(i+1)=N-i-1 by omega]
    ·show N-(IntKind.i64.wrap ((i:Int)+1)).toNat<N-((i:Int)).toNat
     rw [Ag (by omega)]
     omega
 ·rw [show N-i=0 by omega]
  rfl
theorem uX:Sound Tryz.prog 99 kx:=
 Sound.Cg rD (Ae Rh (Ae qX Ai)) mixed Tryz.func99 (by kernel_rfl) (by kernel_rfl) λx h=>Ai7 x.1 x.2.1 x.2.2.1 h
end Go.Proofs.YtfolipnappekaaaGreat

namespace Go.Proofs.YtfolipnappekaaaGreat
open Go.RowKit
abbrev xx:Type:=Nat×Nat×Int×List (List (Option (List Int)))×Nat×List (List (Option (List Int)))×Nat×List Int×Int×PUnit
abbrev US:Type:=Nat×Int×List (List (Option (List Int)))×Nat×List (List (Option (List Int)))×Nat×List Int×Int×PUnit
abbrev UT:Type:=Nat×List (List (Option (List Int)))×Nat×List (List (Option (List Int)))×Nat×List Int×Int×PUnit
abbrev Gw (G:List (List (Option (List Int)))) (l:Int) (p:Option (List Int)) (T:List (List (Option (List Int)))) (y7:Bool) (n:Int):Prop:=0=0/\(G.getD (0+l.toNat) []).length=(G.getD (0+l.toNat) []).length/\(G.getD (0+l.toNat) []).length+(List.take 1 (List.drop 0 [p])).length<=Be/\((0:Int)<=l/\l<(↑G.length:Int))/\0=0/\(G.getD (0+l.toNat) []++List.take 1 (List.drop 0 [p])).length=(G.getD (0+l.toNat) []++List.take 1 (List.drop 0 [p])).length/\0+l.toNat=0+l.toNat/\ [(0,G.length),(0,G.length),(0,G.length),(0,T.length)]= [(0,G.length),(0,G.length),(0,G.length),(0,T.length)]/\(l,p,l,p,y7,l,l,0+l.toNat,p,List.take 1 (List.drop 0 [p]),0+l.toNat,G.set (0+l.toNat) (G.getD (0+l.toNat) []++List.take 1 (List.drop 0 [p])),min G.length (0+l.toNat),T,T.length,n,())=(l,p,l,p,y7,l,l,0+l.toNat,p,List.take 1 (List.drop 0 [p]),0+l.toNat,G.set (0+l.toNat) (G.getD (0+l.toNat) []++List.take 1 (List.drop 0 [p])),min G.length (0+l.toNat),T,T.length,n,PUnit.unit)
theorem Aiq {m:Nat} (n:Int) (G T:List (List (Option (List Int)))) (l:Int) (p:Option (List Int)) (P:(Int×List (List (Option (List Int)))×List (List (Option (List Int)))×Unit)×Unit->Prop):(∃(y7:Bool),kx.fn ((n,List.take G.length (List.drop 0 G),List.take T.length (List.drop 0 T),()),l,p.getD [],())=some y7/\Br y7 ((0=0/\G.length=G.length)/\(0=0/\T.length=T.length)/\(Rd (m+1)).Cn (n,G,T,l,p,())<=G.length/\(Rd (m+1)).Cn (n,G,T,l,p,())<=T.length/\P ((n,G,T,()),())) (((0:Int)<=l/\l<(↑G.length:Int))/\0=0/\(G.getD (0+l.toNat) []).length=(G.getD (0+l.toNat) []).length/\(G.getD (0+l.toNat) []).length+(List.take 1 (List.drop 0 [p])).length<=Be/\((0:Int)<=l/\l<(↑G.length:Int))/\0=0/\(G.getD (0+l.toNat) []++List.take 1 (List.drop 0 [p])).length=(G.getD (0+l.toNat) []++List.take 1 (List.drop 0 [p])).length/\0+l.toNat=0+l.toNat/\(((0:Int)<=l/\l<(↑T.length:Int))/\ ∃(y8:(List Int×PUnit)×PUnit),Tc.fn (T.getD (0+l.toNat) [],())=some y8/\0=0/\(List.take y8.1.1.length (List.drop 0 y8.1.1)).length=(List.take y8.1.1.length (List.drop 0 y8.1.1)).length/\0=0/\G.length=(G.set (0+l.toNat) (G.getD (0+l.toNat) []++List.take 1 (List.drop 0 [p]))).length/\0=0/\T.length=T.length/\Bk (λ(v9:UT) (k10:UT->Prop)=>Br (decide ((↑v9.2.2.2.2.2.1.length:Int)>(0:Int))) (((0:Int)<=l/\l<(↑v9.2.1.length:Int))/\0=0/\(List.take v9.2.2.2.2.2.1.length (List.drop 0 v9.2.2.2.2.2.1)).length=(List.take v9.2.2.2.2.2.1.length (List.drop 0 v9.2.2.2.2.2.1)).length/\0=0/\v9.2.1.length=v9.2.1.length/\0=0/\v9.2.2.2.1.length=v9.2.2.2.1.length/\Bk (λ(v11:xx) (k12:xx->Prop)=>Br (decide (v11.2.2.1<(↑(v9.2.1.getD (0+l.toNat) []).length:Int))) (((0:Int)<=v11.2.2.1/\v11.2.2.1<(↑(v11.2.2.2.1.getD v11.2.1 []).length:Int))/\((0:Int)<=(0:Int)/\(0:Int)<(↑v11.2.2.2.2.2.2.2.1.length:Int))/\ ∃(It:Int),v11.2.2.2.2.2.2.2.1[0+Int.toNat (0:Int)]?=some It/\ ∃(Fz:Int),idx (((v11.2.2.2.1.getD v11.2.1 []).getD v11.2.2.1.toNat (none:Option (List Int))).getD []) It=some Fz/\((0:Int)<=Fz/\Fz<(↑(v11.2.2.2.2.2.1.getD v11.1 []).length:Int))/\Br ((v11.2.2.2.2.2.1.getD v11.1 []).getD Fz.toNat (none:Option (List Int))).isNone (((0:Int)<=(0:Int)/\(0:Int)<(↑v11.2.2.2.2.2.2.2.1.length:Int))/\ ∃(Lr:Int),v11.2.2.2.2.2.2.2.1[0+Int.toNat (0:Int)]?=some Lr/\((0:Int)<=Lr/\Lr<(↑(v11.2.2.2.2.2.1.getD v11.1 []).length:Int))/\ ∃(Rt:Option (List Int)),Fl.fn (((v11.2.2.2.2.2.1.getD v11.1 []).getD Lr.toNat (none:Option (List Int))).getD [],((v11.2.2.2.1.getD v11.2.1 []).getD v11.2.2.1.toNat (none:Option (List Int))).getD [],())=some Rt/\((0:Int)<=Fz/\Fz<(↑(v11.2.2.2.2.2.1.getD v11.1 []).length:Int))/\0=0/\v11.2.2.2.2.2.2.2.1.length=v11.2.2.2.2.2.2.2.1.length/\v11.2.2.2.2.2.2.2.1.length+(List.take 1 (List.drop 0 [Fz])).length<=Be/\0=0/\(List.take (v11.2.2.2.2.2.2.2.1++List.take 1 (List.drop 0 [Fz])).length (List.drop 0 (v11.2.2.2.2.2.2.2.1++List.take 1 (List.drop 0 [Fz])))).length=(List.take (v11.2.2.2.2.2.2.2.1++List.take 1 (List.drop 0 [Fz])).length (List.drop 0 (v11.2.2.2.2.2.2.2.1++List.take 1 (List.drop 0 [Fz])))).length/\0=0/\v11.2.2.2.1.length=v11.2.2.2.1.length/\0=0/\v11.2.2.2.2.2.1.length=(v11.2.2.2.2.2.1.set v11.1 ((v11.2.2.2.2.2.1.getD v11.1 []).set Fz.toNat Rt)).length/\k12 (v11.1,v11.2.1,IntKind.i64.wrap (v11.2.2.1+(1:Int)),v11.2.2.2.1,v11.2.2.2.2.1,v11.2.2.2.2.2.1.set v11.1 ((v11.2.2.2.2.2.1.getD v11.1 []).set Fz.toNat Rt),v11.2.2.2.2.2.2.1,List.take (v11.2.2.2.2.2.2.2.1++List.take 1 (List.drop 0 [Fz])).length (List.drop 0 (v11.2.2.2.2.2.2.2.1++List.take 1 (List.drop 0 [Fz]))),v11.2.2.2.2.2.2.2.2.1,())) (0=0/\(List.take v11.2.2.2.2.2.2.2.1.length (List.drop 0 v11.2.2.2.2.2.2.2.1)).length=(List.take v11.2.2.2.2.2.2.2.1.length (List.drop 0 v11.2.2.2.2.2.2.2.1)).length/\0=0/\v11.2.2.2.1.length=v11.2.2.2.1.length/\0=0/\v11.2.2.2.2.2.1.length=v11.2.2.2.2.2.1.length/\k12 (v11.1,v11.2.1,IntKind.i64.wrap (v11.2.2.1+(1:Int)),v11.2.2.2.1,v11.2.2.2.2.1,v11.2.2.2.2.2.1,v11.2.2.2.2.2.2.1,List.take v11.2.2.2.2.2.2.2.1.length (List.drop 0 v11.2.2.2.2.2.2.2.1),v11.2.2.2.2.2.2.2.2.1,()))) (((0:Int)<=(1:Int)/\(1:Int)<=(↑v11.2.2.2.2.2.2.2.1.length:Int)/\(↑v11.2.2.2.2.2.2.2.1.length:Int)<=(↑v11.2.2.2.2.2.2.2.1.length:Int))/\0=0/\(List.take ((↑v11.2.2.2.2.2.2.2.1.length:Int).toNat-Int.toNat (1:Int)) (List.drop (0+Int.toNat (1:Int)) v11.2.2.2.2.2.2.2.1)).length=(List.take ((↑v11.2.2.2.2.2.2.2.1.length:Int).toNat-Int.toNat (1:Int)) (List.drop (0+Int.toNat (1:Int)) v11.2.2.2.2.2.2.2.1)).length/\0=0/\v11.2.2.2.1.length=v11.2.2.2.1.length/\0=0/\v11.2.2.2.2.2.1.length=v11.2.2.2.2.2.1.length/\k10 (v11.1,v11.2.2.2.1,v11.2.2.2.2.1,v11.2.2.2.2.2.1,v11.2.2.2.2.2.2.1,List.take ((↑v11.2.2.2.2.2.2.2.1.length:Int).toNat-Int.toNat (1:Int)) (List.drop (0+Int.toNat (1:Int)) v11.2.2.2.2.2.2.2.1),v11.2.2.2.2.2.2.2.2.1,()))) (v9.1,0+l.toNat,(0:Int),v9.2.1,v9.2.2.1,v9.2.2.2.1,v9.2.2.2.2.1,List.take v9.2.2.2.2.2.1.length (List.drop 0 v9.2.2.2.2.2.1),v9.2.2.2.2.2.2.1,PUnit.unit)) (∃(kZ:(List Int×PUnit)×PUnit),Tc.fn (v9.2.2.2.1.getD v9.1 [],())=some kZ/\0=0/\kZ.1.1.length=kZ.1.1.length/\0=0/\v9.2.1.length=v9.2.1.length/\0=0/\v9.2.2.2.1.length=v9.2.2.2.1.length/\Bk (λ(Jo:US) (k13:US->Prop)=>Br (decide (Jo.2.1<(↑kZ.1.1.length:Int))) (((0:Int)<=Jo.2.1/\Jo.2.1<(↑Jo.2.2.2.2.2.2.1.length:Int))/\ ∃(Fz:Int),Jo.2.2.2.2.2.2.1[0+Jo.2.1.toNat]?=some Fz/\((0:Int)<=l/\l<(↑Jo.2.2.1.length:Int))/\0=0/\Jo.2.2.2.2.2.2.1.length=Jo.2.2.2.2.2.2.1.length/\0=0/\Jo.2.2.1.length=Jo.2.2.1.length/\0=0/\Jo.2.2.2.2.1.length=Jo.2.2.2.2.1.length/\Bk (λ(Md:xx) (k16:xx->Prop)=>Br (decide (Md.2.2.1<(↑(Jo.2.2.1.getD (0+l.toNat) []).length:Int))) (((0:Int)<=Md.2.2.1/\Md.2.2.1<(↑(Md.2.2.2.1.getD Md.2.1 []).length:Int))/\((0:Int)<=Fz/\Fz<(↑(Md.2.2.2.2.2.1.getD Md.1 []).length:Int))/\ ∃(Vg:Option (List Int)),Fl.fn (((Md.2.2.2.2.2.1.getD Md.1 []).getD Fz.toNat (none:Option (List Int))).getD [],((Md.2.2.2.1.getD Md.2.1 []).getD Md.2.2.1.toNat (none:Option (List Int))).getD [],())=some Vg/\ ∃(Rx:Int),idx (((Md.2.2.2.1.getD Md.2.1 []).getD Md.2.2.1.toNat (none:Option (List Int))).getD []) Fz=some Rx/\((0:Int)<=Rx/\Rx<(↑(Md.2.2.2.2.2.1.getD Md.1 []).length:Int))/\ ∃(Mz:List Int),Co.fn (((Md.2.2.2.2.2.1.getD Md.1 []).getD Rx.toNat (none:Option (List Int))).getD [],())=some Mz/\ ∃(Jv:Option (List Int)),Fl.fn (Vg.getD [],Mz,())=some Jv/\0=0/\Md.2.2.2.1.length=Md.2.2.2.1.length/\0=0/\Md.2.2.2.2.2.1.length=Md.2.2.2.2.2.1.length/\ ∃(Ry:(Int×List (List (Option (List Int)))×List (List (Option (List Int)))×PUnit)×PUnit),(Rd m).fn (Md.2.2.2.2.2.2.2.2.1,Md.2.2.2.1,Md.2.2.2.2.2.1,IntKind.i64.wrap (l+(1:Int)),Jv,())=some Ry/\(Md.1<(Rd m).Cn (Md.2.2.2.2.2.2.2.2.1,Md.2.2.2.1,Md.2.2.2.2.2.1,IntKind.i64.wrap (l+(1:Int)),Jv,())/\Md.1<(List.length Ry.1.2.2.1))/\(Md.2.1<(Rd m).Cn (Md.2.2.2.2.2.2.2.2.1,Md.2.2.2.1,Md.2.2.2.2.2.1,IntKind.i64.wrap (l+(1:Int)),Jv,())/\Md.2.1<(List.length Ry.1.2.1))/\(Md.1<(Rd m).Cn (Md.2.2.2.2.2.2.2.2.1,Md.2.2.2.1,Md.2.2.2.2.2.1,IntKind.i64.wrap (l+(1:Int)),Jv,())/\Md.1<(List.length Ry.1.2.2.1))/\(Md.1<(Rd m).Cn (Md.2.2.2.2.2.2.2.2.1,Md.2.2.2.1,Md.2.2.2.2.2.1,IntKind.i64.wrap (l+(1:Int)),Jv,())/\Md.1<(List.length Ry.1.2.2.1))/\0=0/\Md.2.2.2.2.2.2.2.1.length=Md.2.2.2.2.2.2.2.1.length/\0=0/\Ry.1.2.1.length=Ry.1.2.1.length/\0=0/\Ry.1.2.2.1.length=Ry.1.2.2.1.length/\k16 (Md.1,Md.2.1,IntKind.i64.wrap (Md.2.2.1+(1:Int)),Ry.1.2.1,min Md.2.2.2.2.1 ((Rd m).Cn (Md.2.2.2.2.2.2.2.2.1,Md.2.2.2.1,Md.2.2.2.2.2.1,IntKind.i64.wrap (l+(1:Int)),Jv,())),Ry.1.2.2.1,min Md.2.2.2.2.2.2.1 ((Rd m).Cn (Md.2.2.2.2.2.2.2.2.1,Md.2.2.2.1,Md.2.2.2.2.2.1,IntKind.i64.wrap (l+(1:Int)),Jv,())),Md.2.2.2.2.2.2.2.1,Ry.1.1,())) (0=0/\Md.2.2.2.2.2.2.2.1.length=Md.2.2.2.2.2.2.2.1.length/\0=0/\Md.2.2.2.1.length=Md.2.2.2.1.length/\0=0/\Md.2.2.2.2.2.1.length=Md.2.2.2.2.2.1.length/\k13 (Md.1,IntKind.i64.wrap (Jo.2.1+(1:Int)),Md.2.2.2.1,Md.2.2.2.2.1,Md.2.2.2.2.2.1,Md.2.2.2.2.2.2.1,Md.2.2.2.2.2.2.2.1,Md.2.2.2.2.2.2.2.2.1,()))) (Jo.1,0+l.toNat,(0:Int),Jo.2.2.1,Jo.2.2.2.1,Jo.2.2.2.2.1,Jo.2.2.2.2.2.1,Jo.2.2.2.2.2.2.1,Jo.2.2.2.2.2.2.2.1,PUnit.unit)) ((0=0/\Jo.2.2.1.length=Jo.2.2.1.length)/\(0=0/\Jo.2.2.2.2.1.length=Jo.2.2.2.2.1.length)/\(Rd (m+1)).Cn (n,G,T,l,p,())<=Jo.2.2.2.1/\(Rd (m+1)).Cn (n,G,T,l,p,())<=Jo.2.2.2.2.2.1/\P ((Jo.2.2.2.2.2.2.2.1,Jo.2.2.1,Jo.2.2.2.2.1,()),()))) (v9.1,(0:Int),v9.2.1,v9.2.2.1,v9.2.2.2.1,v9.2.2.2.2.1,kZ.1.1,v9.2.2.2.2.2.2.1,PUnit.unit))) (0+l.toNat,G.set (0+l.toNat) (G.getD (0+l.toNat) []++List.take 1 (List.drop 0 [p])),min G.length (0+l.toNat),T,T.length,List.take y8.1.1.length (List.drop 0 y8.1.1),n,PUnit.unit))/\(((((0:Int)<=l/\l<(↑G.length:Int))/\((Gw G l p T y7 n))/\(Gw G l p T y7 n))/\((0:Int)<=l/\l<(↑G.length:Int))/\(Gw G l p T y7 n))/\((0:Int)<=l/\l<(↑G.length:Int))/\(Gw G l p T y7 n))/\(((((0:Int)<=l/\l<(↑G.length:Int))/\((Gw G l p T y7 n))/\(Gw G l p T y7 n))/\((0:Int)<=l/\l<(↑G.length:Int))/\(Gw G l p T y7 n))/\(((0:Int)<=l/\l<(↑G.length:Int))/\(((Gw G l p T y7 n))/\(Gw G l p T y7 n))/\(((Gw G l p T y7 n))/\((Gw G l p T y7 n))/\(Gw G l p T y7 n))/\((Gw G l p T y7 n))/\((Gw G l p T y7 n))/\(Gw G l p T y7 n))/\(((0:Int)<=l/\l<(↑G.length:Int))/\(Gw G l p T y7 n))/\((0:Int)<=l/\l<(↑G.length:Int))/\((Gw G l p T y7 n))/\((Gw G l p T y7 n))/\(Gw G l p T y7 n))/\(((0:Int)<=l/\l<(↑G.length:Int))/\(Gw G l p T y7 n))/\(((0:Int)<=l/\l<(↑G.length:Int))/\(Gw G l p T y7 n))/\((0:Int)<=l/\l<(↑G.length:Int))/\((Gw G l p T y7 n))/\((Gw G l p T y7 n))/\(Gw G l p T y7 n)))=fnMW (UY [Mu+7]) (look [(99,kx),(147,Tc),(121,Fl),(56,Co),(130,Qk.m (Rd m))]) (Rd (m+1)) Tryz.f130 (n,G,T,l,p,()) P:=by kernel_rfl
theorem yd {k l:Nat} {p:List Int} {s:Aw×Aw} (h:Ee s.2 k l p=true):Dt k l p s=s:=by
 cases k with
 |zero=>rfl
 |succ k=>unfold Dt;rw [if_pos h]
theorem yc (k l:Nat) (p:List Int) (s:Aw×Aw):Dt (k+1) l p s=if Ee s.2 (k+1) l p=true then s else
   (cE (Tt (s.1.getD l []++ [some p]) (s.2.getD l [])) (s.1.getD l []++ [some p])).foldl (λs q=>Dt k (l+1) q s)
    (s.1.set l (s.1.getD l []++ [some p]),s.2.set l (Tt (s.1.getD l []++ [some p]) (s.2.getD l []))):=rfl
theorem wc {n:Nat} {p:List Int} (h:Pm n p) {i:Nat} (hi:i<n):idx p (i:Int)=some (ap p i:Int):=by
 have jN:i<p.length:=by rw [h.1];exact hi
 rw [Aq jN,<-(h.Vq hi).1,Hx jN]
theorem CT {x:Int} {gs:List PO} {j:Nat} (hj:j<gs.length) (s:Row×List Int):Vj x (gs.take (j+1)) s=Vs x (Vj x (gs.take j) s) gs[j]:=by
 unfold Vj
 rw [List.take_add_one,List.getElem?_eq_getElem hj,Option.toList_some,List.foldl_append]
 rfl
theorem CU {gs:List PO} {f:Nat} {row:Row} :Ux gs f [] row=row:=by cases f<;>rfl
theorem Sd {n:Nat} {p:List Int} (h:Pm n p):0<p.length/\p.length<=20:=⟨by rw [h.1];exact h.n1,by rw [h.1];exact h.n2⟩
theorem m4 {n:Nat} {p q:List Int} (h:Pm n p) (k:Pm n q):Hz q.length p:=by rw [k.1];exact h.row
theorem Ai2 {m:Nat} (n:Int) (G T:List (List (Option (List Int)))) (l:Int) (p:Option (List Int)) (h:(∃N L q,p=some q/\Ql N L n G T l q)/\(n-l).toNat<m+1):
  fnMW (UY [Mu+7]) (look [(99,kx),(147,Tc),(121,Fl),(56,Co),(130,Qk.m (Rd m))]) (Rd (m+1)) Tryz.f130 (n,G,T,l,p,()) (λ(z:(Int×List (List (Option (List Int)))×List (List (Option (List Int)))×Unit)×Unit)=>z=((n,(Dt (n-l).toNat l.toNat (p.getD []) (G,T)).1,(Dt (n-l).toNat l.toNat (p.getD []) (G,T)).2,()),())):=by
 obtain ⟨⟨N,L,q,rfl,h⟩,hm⟩:=h
 have h':=h
 obtain ⟨n1,n2,en,el,hle,v,pm,fx⟩:=h
 subst en el
 have hk:((N:Int)-(L:Int)).toNat=N-L:=by omega
 rw [hk,Int.toNat_natCast]
 refine Eq.mp (Aiq (N:Int) G T (L:Int) (some q) _) ⟨_,if_pos ⟨N,L,?a⟩,?b⟩
 case a=>
  simp only [List.drop_zero,List.take_length,Option.getD_some]
  exact h'
 obtain ⟨v1,v2,v3,v4⟩:=v
 dsimp only at v1 v2
 have hw:IntKind.i64.wrap ((L:Int)+1)=((L+1:Nat):Int):=Ag (by omega)
 simp only [Gw]
 simp only [List.drop_zero,List.take_length,Option.getD_some,hk,Int.toNat_natCast,Nat.zero_add,eq_self,true_and,and_true,List.take_succ_cons,List.take_zero,List.length_cons,List.length_nil,List.length_set,hw]
 refine Br.of (λhh=>⟨by show Int.toNat (L:Int)<=G.length;omega,by show Int.toNat (L:Int)<=T.length;omega,?_⟩) λhh=>?_
 ·rw [yd (s:=(G,T)) hh]
 obtain ⟨k,hNk⟩: ∃k,N-L=k+1:=by
  cases e:N-L with
  |zero=>rw [e] at hh;simp [Ee] at hh
  |succ k=>exact ⟨k,rfl⟩
 have hLN:L<N:=by omega
 have hv:V N (k+1) L (G,T):=by rw [<-hNk];exact ⟨v1,v2,v3,v4⟩
 rw [hNk] at hh⊢
 have e1:(0:Int)<=(L:Int)/\(L:Int)<(G.length:Int):=by omega
 have e1':(0:Int)<=(L:Int)/\(L:Int)<(T.length:Int):=by omega
 have hgl:(G.getD L []).length<=400:=JB n2 (by omega) hv
 have e2:(G.getD L []).length+1<=Be:=by show _<=4294967296;omega
 simp only [e1,e1',e2,and_self,true_and,and_true]
 generalize jM:G.getD L []++ [some q]=gs
 have Aqn:gs.length<=401:=by rw [<-jM,List.length_append,List.length_singleton];omega
 have hg:PG N L gs:=by rw [<-jM];exact hv.pg pm fx
 have hr0:Po N L gs (T.getD L []):=by rw [<-jM];exact hv.Anm q
 obtain ⟨r1,r2,r3⟩:=zK hLN n2 hg hr0
 generalize hR:Tt gs (T.getD L [])=R at r1 r2 r3
 have nU:Dt (k+1) L q (G,T)=(cE R gs).foldl (λs q=>Dt k (L+1) q s) (G.set L gs,T.set L R):=by
  rw [yc,if_neg (by rw [hh];simp)]
  dsimp only
  rw [jM,hR]
 rw [nU]
 have hTl:L<T.length:=by omega
 have hGl:L<G.length:=by omega
 have hG1:(G.set L gs).getD L []=gs:=Zv G L hGl gs
 have hT1: ∀row:Row,(T.set L row).getD L []=row:=Zv T L hTl
 refine ⟨_,if_pos (by show (T.getD L []).length<=20;rw [hr0.rl];exact n2),?_⟩
 dsimp only
 have hn0:(Pw (T.getD L [])).length+Hj (T.getD L [])<=40:=by have:=wG (T.getD L []);have:=dV (T.getD L []);have:=hr0.rl;omega
 have hq0:KS gs (Pw (T.getD L [])) (T.getD L []):=⟨λy hy=>Wa.1 hy,λy hy=> .inl (Wa.2 ⟨y,rfl,hy⟩)⟩
 refine ⟨λv=> ∃(row:Row) (qu:List Int) (kg kt:Nat),v=(L,G.set L gs,kg,T.set L row,kt,qu,(N:Int),())/\L<=kg/\L<=kt/\qu.length+Hj row<=40/\Po N L gs row/\KS gs qu row/\Ux gs (qu.length+Hj row) qu row=R,
  fun v=>v.2.2.2.2.2.1.length+Hj (v.2.2.2.1.getD v.1 []),⟨T.getD L [],Pw (T.getD L []),min G.length L,T.length,?_,by omega,by omega,hn0,hr0,hq0,?_⟩,?_⟩
 ·rw [sP T L hTl]
 ·rw [<-yp hLN hg 100 _ _ (by omega) hr0 hq0];exact hR
 rintro v ⟨row,qu,kg,kt,rfl,hkg,WE,hb,RS,hqi,QU⟩
 dsimp only
 simp only [hG1,hT1,List.length_set]
 refine Br.dec (λhl=>⟨e1.2,?_⟩) λhl=>?_
 ·cases qu with
  |nil=>simp at hl
  |cons x qu=>
  obtain ⟨p1,p2,xn,t,rfl,ht⟩:=FX hLN hg RS hqi
  have WK:xn<N:=by rw [<-RS.rl];exact jJ ht
  refine Aj gs.length (λv=>v.2.2.1) (λj v=> ∃kg kt:Nat,v=(L,L,(j:Int),G.set L gs,kg,T.set L (Vj (xn:Int) (gs.take j) (row,qu)).1,kt,(xn:Int)::(Vj (xn:Int) (gs.take j) (row,qu)).2,(N:Int),())/\L<=kg/\L<=kt) rfl ⟨kg,kt,rfl,hkg,WE⟩ ?_
  rintro j v K hj hi ⟨kg,kt,rfl,h1,h2⟩ hK
  dsimp only
  simp only [hG1,hT1,Int.toNat_natCast]
  refine Br.dec (λhl=>?_) λhl=>?_
  ·have hl:j<gs.length:=by omega
   obtain ⟨x1,x2⟩:=TW hLN hg (gs.take j) (q:=qu) (λo ho=>List.mem_of_mem_take ho) RS ht
   have On:=CT (x:=(xn:Int)) hl (row,qu)
   generalize Vj (xn:Int) (gs.take j) (row,qu)=s at x1 x2 On⊢
   obtain ⟨r,qq⟩:=s
   dsimp only at x1 x2⊢
   obtain ⟨g,l7,Oc,hgf⟩:=hg gs[j] (List.getElem_mem hl)
   have htx:r.getD xn none=some t:=x1.mono _ _ ht
   obtain ⟨t1,t2,t3,t4⟩:=x1.ok.rt _ _ htx
   have XR:r.length=N:=x1.ok.rl
   have hgj:gs.getD j none=some g:=by rw [yN hl];exact l7
   have hy:=Oc.lt WK
   have hga:=(Oc.Vq WK).1
   have XP:qq.length+Hj r=qu.length+Hj row:=x1.phi
   simp only [List.length_cons] at hb
   simp only [hgj,Option.getD_some]
   refine ⟨⟨by omega,by omega⟩,⟨by omega,by simp only [List.length_cons];omega⟩,_,rfl,_,wc Oc WK,⟨by omega,by omega⟩,?_⟩
   rw [l7] at On
   unfold Vs at On
   dsimp only at On
   rw [Option.getD_some,hga,Int.toNat_natCast,Int.toNat_natCast,htx,Option.getD_some] at On
   rw [Int.toNat_natCast]
   refine Br.of (λhn=>?_) λhn=>?_
   ·have hn:r.getD (ap g xn) none=none:=by
     cases e:r.getD (ap g xn) none with
     |none=>rfl
     |some u=>rw [e] at hn;simp at hn
    rw [hn] at On
    refine ⟨⟨by omega,by simp only [List.length_cons];omega⟩,_,rfl,⟨by omega,by omega⟩,some (Ab t g),?_,⟨by omega,by omega⟩,?_,?_⟩
    ·rw [Int.toNat_natCast,htx,Option.getD_some]
     exact if_pos ⟨Sd t1,m4 t1 Oc⟩
    ·show qq.length+1+1<=4294967296
     omega
    ·rw [Ag (by omega)]
     refine hK hl _ rfl ⟨kg,kt,?_,h1,h2⟩
     rw [On,List.set_set]
     rfl
   ·have hn: ∃u,r.getD (ap g xn) none=some u:=by
     cases e:r.getD (ap g xn) none with
     |none=>rw [e] at hn;simp at hn
     |some u=>exact ⟨u,rfl⟩
    obtain ⟨u,hn⟩:=hn
    rw [hn] at On
    rw [Ag (by omega)]
    refine hK hl _ rfl ⟨kg,kt,?_,h1,h2⟩
    rw [On]
  ·have:j=gs.length:=by omega
   subst this
   rw [List.take_length]
   generalize hs:Vj (xn:Int) gs (row,qu)=s at p1 p2⊢
   obtain ⟨r,qq⟩:=s
   dsimp only at p1 p2⊢
   have XP:qq.length+Hj r=qu.length+Hj row:=p1.phi
   simp only [List.length_cons] at hb QU
   refine ⟨⟨by omega,by simp only [List.length_cons];omega,Int.le_refl _⟩,⟨r,qq,kg,kt,?_,h1,h2,by omega,p1.ok,p2,?_⟩,?_⟩
   ·simp
   ·rw [show qu.length+1+Hj row=(qu.length+Hj row)+1 by omega] at QU
    simp only [Ux,hs] at QU
    rw [XP]
    exact QU
   ·simp only [List.length_cons]
    have:(List.take (qq.length+1-Int.toNat 1) (List.drop (Int.toNat 1) ((xn:Int)::qq))).length=qq.length:=by simp
    rw [this]
    omega
 ·have:qu= []:=List.eq_nil_of_length_eq_zero (by omega)
  subst this
  rw [CU] at QU
  subst QU
  have hpr:=TU hLN hg RS r3
  have hvl:=hv.lower gs row
  have Aa7: ∀qs:List (List Int),(∀q∈qs,q∈cE row gs)->V N k (L+1) (qs.foldl (λs q=>Dt k (L+1) q s) (G.set L gs,T.set L row))/\Qn (L+1) (G.set L gs,T.set L row) (qs.foldl (λs q=>Dt k (L+1) q s) (G.set L gs,T.set L row)):=
   fun qs LV=>IX n1 n2 (by omega) qs _ (λq hq=>hpr q (LV q hq)) hvl
  refine ⟨_,if_pos (by show row.length<=20;rw [RS.rl];exact n2),?_⟩
  dsimp only
  have hol:=wG row
  have XR:=RS.rl
  refine Aj (Pw row).length (λv=>v.2.1) (λi v=> ∃(s:Aw×Aw) (kg kt:Nat),v=(L,(i:Int),s.1,kg,s.2,kt,Pw row,(N:Int),())/\L<=kg/\L<=kt/\s=(((Pw row).take i).flatMap λy=>gs.map (Oh row y)).foldl (λs q=>Dt k (L+1) q s) (G.set L gs,T.set L row)) rfl ⟨_,kg,kt,rfl,hkg,WE,rfl⟩ ?_
  rintro i v K hi jN ⟨s,kg,kt,rfl,h1,h2,hs⟩ hK
  dsimp only
  have Kx: ∀q∈((Pw row).take i).flatMap (λy=>gs.map (Oh row y)),q∈cE row gs:= λq hq=>by
   obtain ⟨y,hy,hq⟩:=List.mem_flatMap.1 hq
   exact List.mem_flatMap.2 ⟨y,List.mem_of_mem_take hy,hq⟩
  refine Br.dec (λhl=>?_) λhl=>?_
  ·have hl:i<(Pw row).length:=by omega
   obtain ⟨f1,f2⟩:=Aa7 _ Kx
   rw [<-hs] at f1 f2
   have g1:s.1.getD L []=gs:=by rw [(f2.low L (by omega)).1];exact hG1
   have g2:s.1.length=N:=f1.1
   obtain ⟨yn,hyn,hyr⟩:=Wa.1 (List.getElem_mem hl)
   obtain ⟨t,ht⟩:=Option.ne_none_iff_exists'.1 hyr
   have hyN:yn<N:=by rw [<-XR];exact jJ ht
   obtain ⟨t1,t2,t3,t4⟩:=RS.rt _ _ ht
   refine ⟨⟨by omega,by omega⟩,(yn:Int),by rw [Int.toNat_natCast,List.getElem?_eq_getElem hl,hyn],by omega,?_⟩
   rw [g1]
   refine Aj gs.length (λv=>v.2.2.1) (λj v=> ∃(s':Aw×Aw) (kg kt:Nat),v=(L,L,(j:Int),s'.1,kg,s'.2,kt,Pw row,(N:Int),())/\L<=kg/\L<=kt/\s'=(((Pw row).take i).flatMap (λy=>gs.map (Oh row y))++(gs.take j).map (Oh row (yn:Int))).foldl (λs q=>Dt k (L+1) q s) (G.set L gs,T.set L row)) rfl ⟨s,kg,kt,rfl,h1,h2,by simpa using hs⟩ ?_
   rintro j v K' hj w5 ⟨s',kg,kt,rfl,h1,h2,z7⟩ XB
   dsimp only
   refine Br.dec (λGt=>?_) λGt=>?_
   ·have Gt:j<gs.length:=by omega
    have JP: ∀q∈((Pw row).take i).flatMap (λy=>gs.map (Oh row y))++(gs.take j).map (Oh row (yn:Int)),q∈cE row gs:= λq hq=>by
     rcases List.mem_append.1 hq with hq|hq
     ·exact Kx q hq
     ·obtain ⟨o,ho,rfl⟩:=List.mem_map.1 hq
      exact List.mem_flatMap.2 ⟨(yn:Int),Wa.2 ⟨yn,rfl,hyr⟩,List.mem_map.2 ⟨o,List.mem_of_mem_take ho,rfl⟩⟩
    obtain ⟨f1',f2'⟩:=Aa7 _ JP
    rw [<-z7] at f1' f2'
    obtain ⟨G',T'⟩:=s'
    dsimp only at f1' f2'⊢
    have g1':G'.getD L []=gs:=by have:=(f2'.low L (by omega)).1;dsimp only at this;rw [this];exact hG1
    have g3':T'.getD L []=row:=by have:=(f2'.low L (by omega)).2;dsimp only at this;rw [this];exact hT1 row
    have g4':G'.length=N:=f1'.1
    have g5':T'.length=N:=f1'.2.1
    obtain ⟨g,l7,Oc,hgf⟩:=hg gs[j] (List.getElem_mem Gt)
    have hgj:gs.getD j none=some g:=by rw [yN Gt];exact l7
    have xR:some g∈gs:=by rw [<-l7];exact List.getElem_mem Gt
    have hy:=Oc.lt hyN
    obtain ⟨t',ud⟩:=Option.ne_none_iff_exists'.1 (r3 yn t g ht xR)
    obtain ⟨u1,u2,u3,u4⟩:=RS.rt _ _ ud
    have Ah8:Oh row (yn:Int) gs[j]=Ab (Ab t g) (Ah t'):=by rw [l7];exact ez ht ud
    have hqm:=hpr _ (List.mem_flatMap.2 ⟨(yn:Int),Wa.2 ⟨yn,rfl,hyr⟩,List.mem_map.2 ⟨gs[j],List.getElem_mem Gt,Ah8⟩⟩)
    simp only [g1',g3',Int.toNat_natCast,hgj,ht,Option.getD_some]
    have pP:L<Int.toNat ((L+1:Nat):Int):=by omega
    have QS:=vC n1 n2 k (L+1) _ (G',T') (by omega) f1' hqm.1 hqm.2
    have Aoe:((Dt k (L+1) (Ab (Ab t g) (Ah t')) (G',T')).1).length=N:=QS.v.1
    have Aof:((Dt k (L+1) (Ab (Ab t g) (Ah t')) (G',T')).2).length=N:=QS.v.2.1
    have WD:((N:Int)-((L+1:Nat):Int)).toNat=k:=by omega
    refine ⟨⟨by omega,by omega⟩,⟨by omega,by omega⟩,some (Ab t g),if_pos ⟨Sd t1,m4 t1 Oc⟩,_,wc Oc hyN,⟨by omega,by omega⟩,Ah t',?_,some (Ab (Ab t g) (Ah t')),?_,_,if_pos ⟨⟨N,L+1,_,rfl,?pr⟩,?lt⟩,⟨pP,?k1⟩,⟨pP,?k2⟩,⟨pP,?k3⟩,⟨pP,?k4⟩,?go⟩
    case pr=>exact ⟨n1,n2,rfl,rfl,by omega,by rw [show N-(L+1)=k by omega];exact f1',hqm.1,hqm.2⟩
    case lt=>
     show ((N:Int)-((L+1:Nat):Int)).toNat<m
     omega
    case go=>
     dsimp only
     rw [Ag (by omega)]
     refine XB Gt _ rfl ⟨_,_,_,rfl,?_,?_,?_⟩
     ·show L<=min kg (Int.toNat ((L+1:Nat):Int));omega
     ·show L<=min kt (Int.toNat ((L+1:Nat):Int));omega
     ·rw [List.take_add_one,List.getElem?_eq_getElem Gt,Option.toList_some,List.map_append,<-List.append_assoc,List.foldl_append,<-z7]
      simp only [List.map_cons,List.map_nil,List.foldl_cons,List.foldl_nil,Ah8,WD,Int.toNat_natCast,Option.getD_some]
    case k1=>simp only [WD,Int.toNat_natCast,Option.getD_some];omega
    case k2=>simp only [WD,Int.toNat_natCast,Option.getD_some];omega
    case k3=>simp only [WD,Int.toNat_natCast,Option.getD_some];omega
    case k4=>simp only [WD,Int.toNat_natCast,Option.getD_some];omega
    ·rw [Int.toNat_natCast,ud,Option.getD_some]
     exact if_pos ⟨by show t'.length<=20;rw [u1.1];exact n2,u1.2.row⟩
    ·exact if_pos ⟨Sd (t1.comp Oc),m4 (t1.comp Oc) u1.inv⟩
   ·have:j=gs.length:=by omega
    subst this
    rw [Ag (by omega)]
    refine hK hl _ rfl ⟨s',kg,kt,rfl,h1,h2,?_⟩
    rw [z7,List.take_length,List.take_add_one,List.getElem?_eq_getElem hl,Option.toList_some,List.flatMap_append,hyn]
    simp
  ·have:i=(Pw row).length:=by omega
   subst this
   rw [List.take_length] at hs
   refine ⟨h1,h2,?_⟩
   rw [hs]
   rfl
theorem UK {m:Nat} (Ad6:Ay Tryz.prog 130 (Rd m)):Ay Tryz.prog 130 (Rd (m+1)):=
 Ay.fD (YX [Mu+7]) (Ae uX (Er sV (Ae qY (Ae Rh (Er Ad6 Ai))))) mixed Tryz.func130 (by kernel_rfl) (by kernel_rfl) λx h=>Ai2 x.1 x.2.1 x.2.2.1 x.2.2.2.1 x.2.2.2.2.1 h
theorem GQ:Ay Tryz.prog 130 (Rd 0):=
 Ay.fD rD Ai mixed Tryz.func130 (by kernel_rfl) (by kernel_rfl) λ_ h=>absurd h.2 (Nat.not_lt_zero _)
theorem qT: ∀m,Ay Tryz.prog 130 (Rd m)
 |0=>GQ
 |m+1=>UK (qT m)
noncomputable abbrev x8:MSpec:=fD Aaz (λx=> ∃N L q,x.2.2.2.2.1=some q/\Ql N L x.1 x.2.1 x.2.2.1 x.2.2.2.1 q)
 (λx=>((x.1,(Dt (x.1-x.2.2.2.1).toNat x.2.2.2.1.toNat (x.2.2.2.2.1.getD []) (x.2.1,x.2.2.1)).1,(Dt (x.1-x.2.2.2.1).toNat x.2.2.2.1.toNat (x.2.2.2.2.1.getD []) (x.2.1,x.2.2.1)).2,()),()))
theorem GR:Ay Tryz.prog 130 x8:=Ay.TI (λx=>(x.1-x.2.2.2.1).toNat) qT
end Go.Proofs.YtfolipnappekaaaGreat

namespace Go.Proofs.YtfolipnappekaaaGreat
open Go.RowKit
def Ny (n:Nat):Aw:=List.replicate n []
def Ya (n i:Nat):Row:=(List.replicate n none).set i (some (upto n))
def Tl (n:Nat):Aw:=(List.range n).map λi=>Ya n i
def Oz (n:Nat) (gens:List PO):Aw×Aw:=gens.foldl (λs o=>Dt n 0 (o.getD []) s) (Ny n,Tl n)
noncomputable abbrev EJ:MSpec:= {Eh:= [none,none],ins:= [(false, .Dn tI),(false, .Dn YU)],Cs:=false,Di:= [none,none,none],outs:= [.Dn tI, .Al tO rV false, .Al tO rV false],fn:= λ_=>none,rp:=some 141}
noncomputable abbrev ew:MSpec:=fD EJ (λx=>(1<=x.1/\x.1<=20)/\List.length x.2.1<=4294967296/\ ∀o∈(x.2.1:List PO),∃g,o=some g/\Pm x.1.toNat g)
 (λx=>((x.1,(Oz x.1.toNat x.2.1).1,(Oz x.1.toNat x.2.1).2,()),()))
abbrev Wg:Type:=Int×List (List (Option (List Int)))×Int×List (List (Option (List Int)))×PUnit
theorem BV (n:Int) (gens:List (Option (List Int))) (P:(Int×List (List (Option (List Int)))×List (List (Option (List Int)))×Unit)×Unit->Prop):(((0:Int)<=n/\n<(↑Be:Int)+(1:Int))/\n=n/\0=0/\(List.replicate n.toNat ([]:List (Option (List Int)))).length=(List.replicate n.toNat ([]:List (Option (List Int)))).length/\0=0/\0=([]:List Int).length/\Bk (λ(v3:Wg) (k4:Wg->Prop)=>Br (decide (v3.1<n)) (((0:Int)<=n/\n<(↑Be:Int)+(1:Int))/\n=n/\ ∃(y5:Option (List Int)),Ks.fn (n,())=some y5/\((0:Int)<=v3.1/\v3.1<(↑(List.replicate n.toNat (none:Option (List Int))).length:Int))/\0+v3.1.toNat<(List.replicate n.toNat (none:Option (List Int))).length/\0=0/\(List.replicate n.toNat (none:Option (List Int))).length=((List.replicate n.toNat (none:Option (List Int))).set (0+v3.1.toNat) y5).length/\(0=0/\v3.2.2.2.1.length=v3.2.2.2.1.length)/\(0=0/\1= [(List.replicate n.toNat (none:Option (List Int))).set (0+v3.1.toNat) y5].length)/\0< [(List.replicate n.toNat (none:Option (List Int))).set (0+v3.1.toNat) y5].length/\v3.2.2.2.1.length+ [(List.replicate n.toNat (none:Option (List Int))).set (0+v3.1.toNat) y5].length<=Be/\0=0/\v3.2.1.length=v3.2.1.length/\0=0/\(v3.2.2.2.1++ [(List.replicate n.toNat (none:Option (List Int))).set (0+v3.1.toNat) y5]).length=(v3.2.2.2.1++ [(List.replicate n.toNat (none:Option (List Int))).set (0+v3.1.toNat) y5]).length/\k4 (IntKind.i64.wrap (v3.1+(1:Int)),v3.2.1,v3.2.2.1,v3.2.2.2.1++ [(List.replicate n.toNat (none:Option (List Int))).set (0+v3.1.toNat) y5],())) (0=0/\v3.2.1.length=v3.2.1.length/\0=0/\v3.2.2.2.1.length=v3.2.2.2.1.length/\Bk (λ(v5:Wg) (k6:Wg->Prop)=>Br (decide (v5.1<(↑gens.length:Int))) (∃(y7:Option (List Int)),idx gens v5.1=some y7/\0=0/\v5.2.1.length=v5.2.1.length/\0=0/\v5.2.2.2.1.length=v5.2.2.2.1.length/\ ∃(y8:(Int×List (List (Option (List Int)))×List (List (Option (List Int)))×PUnit)×PUnit),x8.fn (v5.2.2.1,v5.2.1,v5.2.2.2.1,(0:Int),y7,())=some y8/\0=0/\y8.1.2.1.length=y8.1.2.1.length/\0=0/\y8.1.2.2.1.length=y8.1.2.2.1.length/\k6 (IntKind.i64.wrap (v5.1+(1:Int)),y8.1.2.1,y8.1.1,y8.1.2.2.1,())) ((0=0/\v5.2.1.length=v5.2.1.length)/\(0=0/\v5.2.2.2.1.length=v5.2.2.2.1.length)/\P ((v5.2.2.1,v5.2.1,v5.2.2.2.1,()),()))) ((0:Int),v3.2.1,v3.2.2.1,v3.2.2.2.1,PUnit.unit))) ((0:Int),List.replicate n.toNat ([]:List (Option (List Int))),n,[],PUnit.unit))=fnMW Yi (look [(105,Ks),(130,x8)]) ew Tryz.f98 (n,gens,()) P:=by kernel_rfl
theorem Tk (n i:Nat):(Ny n).getD i []= []:=by
 unfold Ny
 rw [List.getD_eq_getElem?_getD,List.getElem?_replicate]
 split<;>rfl
theorem j7 {n i:Nat} (h:i<n):(Tl n).getD i []=Ya n i:=by
 unfold Tl
 rw [List.getD_eq_getElem?_getD,List.getElem?_map,List.getElem?_range h]
 rfl
theorem kN {n i y:Nat} (h:i<n):(Ya n i).getD y none=if i=y then some (upto n) else none:=by
 unfold Ya
 rw [Gs,List.length_replicate]
 by_cases e:i=y
 ·rw [if_pos ⟨e,h⟩,if_pos e]
 ·rw [if_neg (λhh=>e hh.1),if_neg e,List.getD_eq_getElem?_getD,List.getElem?_replicate]
  split<;>rfl
theorem ru {n:Nat} (h1:1<=n) (h2:n<=20): ∀(k l:Nat),l+k=n->fU n k l (Ny n,Tl n)
 |0,l,hk=>Tk n l
 |k+1,l,hk=>by
  have hl:l<n:=by omega
  have hg: ∀(g:List Int) (j:Nat),some g∈(Ny n).getD j []->False:= λg j hg=>by rw [Tk] at hg;cases hg
  refine ⟨ru h1 h2 k (l+1) (by omega),⟨λo ho=>?_,?_,?_,λy t e0=>?_,λy t g _ Nn=>(hg _ _ Nn).elim,λy t g t' _ Nn=>(hg _ _ Nn).elim⟩,λg Nn=>(hg _ _ Nn).elim⟩
  ·have ho:o∈(Ny n).getD l []:=ho
   rw [Tk] at ho;cases ho
  ·show ((Tl n).getD l []).length=n
   rw [j7 hl];simp [Ya]
  ·show ((Tl n).getD l []).getD l none=_
   rw [j7 hl,kN hl,if_pos rfl]
  ·replace e0:((Tl n).getD l []).getD y none=some t:=e0
   rw [j7 hl,kN hl] at e0
   by_cases hy:l=y
   ·rw [if_pos hy] at e0
    have e1:=Option.some.inj e0
    subst e1 hy
    exact ⟨Pm.id h1 h2,λi hi=>gq (by omega),gq hl, .id⟩
   ·rw [if_neg hy] at e0;cases e0
theorem AW (n:Nat): ∀(k l:Nat),GBf k l (Ny n,Tl n)
 |0,_=>trivial
 |k+1,l=>⟨AW n k (l+1),by show ((Ny n).getD l []).length<=_;rw [Tk];exact Nat.zero_le _⟩
theorem oL {n:Nat} (h1:1<=n) (h2:n<=20):V n n 0 (Ny n,Tl n):=⟨by simp [Ny],by simp [Tl],ru h1 h2 n 0 (by omega),AW n n 0⟩
def PmL (n:Nat) (gens:List PO):Prop:= ∀o∈gens,∃g,o=some g/\Pm n g
theorem yb {n:Nat} {gens:List PO} {j:Nat} (hj:j<gens.length):Oz n (gens.take (j+1))=Dt n 0 (gens[j].getD []) (Oz n (gens.take j)):=by
 unfold Oz
 rw [List.take_add_one,List.getElem?_eq_getElem hj,Option.toList_some,List.foldl_append]
 rfl
theorem lg {n:Nat} (h1:1<=n) (h2:n<=20): ∀(gens:List PO) (s:Aw×Aw),PmL n gens->V n n 0 s->V n n 0 (gens.foldl (λs o=>Dt n 0 (o.getD []) s) s)/\
  Qn 0 s (gens.foldl (λs o=>Dt n 0 (o.getD []) s) s)/\(∀g,some g∈gens->Gn n ((gens.foldl (λs o=>Dt n 0 (o.getD []) s) s).1.getD 0 []) g)/\ ∀o∈(gens.foldl (λs o=>Dt n 0 (o.getD []) s) s).1.getD 0 [],o∈s.1.getD 0 []\/o∈gens
 | [],s,_,hv=>⟨hv,Qn.refl _ _,(λ_ hg=>by cases hg),λ_ ho=> .inl ho⟩
 |o::gens,s,hg,hv=>by
  obtain ⟨g,rfl,Oc⟩:=hg o (by simp)
  have ha:=vC h1 h2 n 0 g s (by omega) hv Oc (λi hi=>absurd hi (Nat.not_lt_zero _))
  obtain ⟨a1,a2,a3,a4⟩:=lg h1 h2 gens (Dt n 0 g s) (λo ho=>hg o (by simp [ho])) ha.v
  refine ⟨a1,ha.grow.trans a2 (Nat.le_refl _),λg' Nn=>?_,λo ho=>?_⟩
  ·rcases List.mem_cons.1 Nn with e|Nn
   ·cases e;exact ha.Ad7.mono λg hg=>a2.tY _ _ hg
   ·exact a3 g' Nn
  ·rcases a4 o ho with h|h
   ·rcases ha.gens o h with h|h
    ·exact .inl h
    ·exact .inr (by simp [h])
   ·exact .inr (by simp [h])
theorem ya {n:Nat} (h1:1<=n) (h2:n<=20) {gens:List PO} (hg:PmL n gens):V n n 0 (Oz n gens):=(lg h1 h2 gens _ hg (oL h1 h2)).1
theorem iF {n:Nat} (h1:1<=n) (h2:n<=20) {gens:List PO} (hg:PmL n gens) {p:List Int} (hp:Pm n p):Ee (Oz n gens).2 n 0 p=true↔Gn n gens p:=by
 obtain ⟨a1,a2,a3,a4⟩:=lg h1 h2 gens _ hg (oL h1 h2)
 have hS:xX n λg=>some g∈gens:=⟨⟨h1,h2⟩,λg Nn=>by obtain ⟨g',e,h⟩:=hg _ Nn;cases e;exact h⟩
 have Kx: ∀g,some g∈(Oz n gens).1.getD 0 []->some g∈gens:= λg Nn=>by
  rcases a4 _ Nn with h|h
  ·have h:some g∈(Ny n).getD 0 []:=h
   rw [Tk] at h;cases h
  ·exact h
 have hS':xX n λg=>some g∈(Oz n gens).1.getD 0 []:=⟨⟨h1,h2⟩,λg Nn=>hS.2 g (Kx g Nn)⟩
 refine (Om h1 h2 n 0 (Oz n gens) (by omega) a1.2.2.1 p hp λi hi=>absurd hi (Nat.not_lt_zero _)).trans ⟨λh=>h.mono Kx,λh=>h.trans hS' λg Nn=>a3 g Nn⟩
theorem zV (n:Int) (gens:List (Option (List Int))) (h:(1<=n/\n<=20)/\List.length gens<=4294967296/\ ∀o∈(gens:List PO),∃g,o=some g/\Pm n.toNat g):
  fnMW Yi (look [(105,Ks),(130,x8)]) ew Tryz.f98 (n,gens,()) (λ(z:(Int×List (List (Option (List Int)))×List (List (Option (List Int)))×Unit)×Unit)=>z=((n,(Oz n.toNat gens).1,(Oz n.toNat gens).2,()),())):=by
 obtain ⟨⟨h1,h2⟩,h3,hg⟩:=h
 obtain ⟨N,rfl⟩: ∃N:Nat,n=N:=⟨n.toNat,by omega⟩
 rw [Int.toNat_natCast] at hg⊢
 have h1:1<=N:=by omega
 have h2:N<=20:=by omega
 refine Eq.mp (BV (N:Int) gens _) ?_
 have hm:((0:Int)<=(N:Int)/\(N:Int)<(Be:Int)+1):=⟨by omega,by show (N:Int)<(4294967296:Int)+1;omega⟩
 simp only [hm,and_self,eq_self,true_and,Int.toNat_natCast,Nat.zero_add,List.length_nil,List.length_set,List.length_replicate,List.length_cons,Nat.lt_add_one,List.length_append]
 refine Aj N (λv=>v.1) (λj v=>v=((j:Int),Ny N,(N:Int),(List.range j).map (Ya N),())) rfl rfl ?_
 rintro j v K hj hi rfl hK
 dsimp only
 refine Br.dec (λhl=>?_) λhl=>?_
 ·refine ⟨_,if_pos ⟨by show (1:Int)<=N;omega,by show (N:Int)<=20;omega⟩,⟨by omega,by omega⟩,by rw [Int.toNat_natCast];omega,?_,?_⟩
  ·show _<=4294967296
   simp only [List.length_map,List.length_range]
   omega
  ·rw [Ag (by omega)]
   refine hK (by omega) _ rfl ?_
   rw [List.range_succ,List.map_append]
   rfl
 ·have:j=N:=by omega
  subst this
  refine Aj gens.length (λv=>v.1) (λi v=>v=((i:Int),(Oz j (gens.take i)).1,(j:Int),(Oz j (gens.take i)).2,())) rfl rfl ?_
  rintro i v K' jN Alv rfl XB
  dsimp only
  refine Br.dec (λGt=>?_) λGt=>?_
  ·have Gt:i<gens.length:=by omega
   obtain ⟨g,l7,Oc⟩:=hg gens[i] (List.getElem_mem Gt)
   have hv:=ya h1 h2 (gens:=gens.take i) λo ho=>hg o (List.mem_of_mem_take ho)
   refine ⟨_,Aq Gt,_,if_pos ⟨j,0,g,l7,h1,h2,rfl,rfl,Nat.zero_le _,hv,Oc,λi hi=>absurd hi (Nat.not_lt_zero _)⟩,?_⟩
   rw [Ag (by omega)]
   refine XB Gt _ rfl ?_
   rw [yb Gt]
   simp only [Int.sub_zero,Int.toNat_natCast]
   rfl
  ·have:i=gens.length:=by omega
   subst this
   rw [List.take_length]
theorem oc:Ay Tryz.prog 98 ew:=
 Ay.fD rD (Ae o4 (Er GR Ai)) mixed Tryz.func98 (by kernel_rfl) (by kernel_rfl) λx h=>zV x.1 x.2.1 h
end Go.Proofs.YtfolipnappekaaaGreat

namespace Go.Proofs.YtfolipnappekaaaGreat
open Go.RowKit
noncomputable abbrev zf:MSpec:= {Eh:= [none,none],ins:= [(false, .Dn tI),(false, .Dn cU)],Cs:=false,Di:= [none,none,none],outs:= [.Dn tI, .Al tO rV false, .Al tO rV false],fn:= λ_=>none,rp:=some 141}
def Ym (n:Int) (g:List (List Int)):Aw×Aw:=Oz n.toNat (g.map some)
noncomputable abbrev Tb:MSpec:=fD zf (λx=>(1<=x.1/\x.1<=20)/\List.length x.2.1<=4294967296/\ ∀g∈(x.2.1:List (List Int)),Pm x.1.toNat g)
 (λx=>((x.1,(Ym x.1 x.2.1).1,(Ym x.1 x.2.1).2,()),()))
noncomputable def Jc (p:PP) (s:List Int):Bool:=(Bx p&&Dc p.1 s)&&Ee (Ym p.1 p.2.2.1).2 p.1.toNat 0 s
noncomputable abbrev Iw:Spec:=Cg (.pair Cp (.pair tL .unit)) .bool false true (λx=>Ck x.1/\short x.2.1) (λx=>Jc x.1 x.2.1)
theorem Cells.told {w:World} {S:Nat->Prop} {e:Ty} {cs:List Value} {xs:List e.den} (h:Cells w S (.slice e) cs xs): ∃o:Option (List e.den),Cells w S (.oslice e) cs o/\o.getD []=xs:=by
 simp only [Cells] at h
 obtain ⟨a,len,cap,rfl,h1,h2,h3⟩:=h
 cases a with
 |none=>
  rcases h3 with rfl|⟨g,o,h,_⟩
  ·refine ⟨none,?_,rfl⟩
   simp only [Cells]
   exact .inl ⟨trivial,cap,by rw [h1];rfl⟩
  ·cases h
 |some ad=>
  refine ⟨some xs,?_,rfl⟩
  simp only [Cells]
  exact .inr ⟨xs,ad,len,cap,rfl,rfl,h1,h2,h3.imp id λ⟨g,o,h,h4⟩=>⟨g,o,Option.some.inj h,h4⟩⟩
theorem CQ {α β:Type} (Q:Nat->α->β->Prop): ∀(xs:List α),(∀i x,xs[i]?=some x-> ∃y,Q i x y)-> ∃ys:List β,ys.length=xs.length/\ ∀i x y,xs[i]?=some x->ys[i]?=some y->Q i x y:=by
 intro xs h
 refine ⟨List.ofFn λi:Fin xs.length=>Classical.choose (h i xs[i] (List.getElem?_eq_getElem i.2)),by simp,λi x y h1 h2=>?_⟩
 obtain ⟨hi,rfl⟩:=List.getElem?_eq_some_iff.1 h1
 obtain ⟨jN,rfl⟩:=List.getElem?_eq_some_iff.1 h2
 rw [List.getElem_ofFn]
 exact Classical.choose_spec (h i xs[i] (List.getElem?_eq_getElem hi))
theorem Bc.Ab6 {w:World} {S:Nat->Prop} {e:Ty} {v:Value} {xs:List (List e.den)} (h:Bc w S (.slice (.slice e)) v xs): ∃os:List (Option (List e.den)),Bc w S (.slice (.oslice e)) v os/\os.map (·.getD [])=xs:=by
 obtain ⟨cs,hc,rfl⟩:=h
 simp only [Cells] at hc
 obtain ⟨a,len,cap,rfl,h1,h2,h3⟩:=hc
 rcases h3 with rfl|⟨g,o,rfl,hg,hS,h4⟩
 ·refine ⟨[],⟨_,?_,rfl⟩,rfl⟩
  simp only [Cells]
  exact ⟨a,len,cap,rfl,h1,h2, .inl trivial⟩
 ·obtain ⟨os,e1,e2⟩:=CQ (λi (x:List e.den) (y:Option (List e.den))=>y.getD []=x/\ ∃es:List Value,es.length=1/\(∀j u,es[j]?=some u->w.cell? ⟨g,o+i*1+j,none⟩=some u)/\Cells w S (.oslice e) es y) xs λi x hx=>by
   obtain ⟨es,k1,k2,k3⟩:=h4 i x hx
   obtain ⟨y,k4,k5⟩:=Cells.told (e:=e) (by simp only [Cells];exact k3)
   exact ⟨y,k5,es,k1,k2,k4⟩
  refine ⟨os,⟨_,?_,rfl⟩,?_⟩
  ·simp only [Cells]
   refine ⟨_,len,cap,rfl,by rw [h1,e1],h2, .inr ⟨g,o,rfl,hg,hS,λi y hy=>?_⟩⟩
   obtain ⟨hi,_⟩:=List.getElem?_eq_some_iff.1 hy
   obtain ⟨_,es,k1,k2,k3⟩:=e2 i _ y (List.getElem?_eq_getElem (by omega)) hy
   simp only [Cells] at k3
   exact ⟨es,k1,k2,k3⟩
  ·refine List.ext_getElem (by simp [e1]) λi g1 g2=>?_
   rw [List.getElem_map]
   exact (e2 i _ _ (List.getElem?_eq_getElem g2) (List.getElem?_eq_getElem (by omega))).1
theorem r9:Ay Tryz.prog 98 Tb:=by
 have h:=oc
 refine ⟨h.enter,λw S π us x r o g vs h1 hg h2 h3 hS h4 h5=>?_⟩
 obtain ⟨n,gens,⟨⟩⟩:=x
 match us,h2 with
 |u1::u2::us,h2=>
  obtain ⟨h6,⟨h7,h8⟩,h9⟩:=h2
  obtain ⟨os,l6,cQ⟩:=Bc.Ab6 (e:=tI) h8
  have cQ:os.map (·.getD [])=(gens:List (List Int)):=cQ
  have Zw:(1<=n/\n<=20)/\List.length gens<=4294967296/\ ∀g∈(gens:List (List Int)),Pm n.toNat g:=Classical.byContradiction λhn=>by
   have:Tb.fn (n,gens,())=none:=if_neg hn
   rw [this] at h5;cases h5
  have hos:os=gens.map some:=by
   rw [<-cQ,List.map_map]
   refine (List.map_id os).symm.trans (List.map_congr_left λx hx=>?_)
   cases x with
   |some y=>rfl
   |none=>
    have:=Zw.2.2 [] (by rw [<-cQ];exact List.mem_map.2 ⟨none,hx,rfl⟩)
    have h1:=this.n1
    have h2:=this.1
    simp at h2
    omega
  have hv:Tb.fn (n,gens,())=some ((n,(Ym n gens).1,(Ym n gens).2,()),()):=if_pos Zw
  rw [hv] at h5
  have h5:=Option.some.inj h5
  refine h.calls w S π (u1::u2::us) (n,os,()) r o g vs h1 hg ⟨h6,⟨h7,l6⟩,h9⟩ h3 hS h4 ?_
  refine (if_pos ⟨Zw.1,by rw [hos,List.length_map];exact Zw.2.1,λy hy=>?pp⟩).trans (congrArg some ?qq)
  case pp=>
   replace hy:y∈os:=hy
   rw [hos] at hy
   obtain ⟨g,hg,rfl⟩:=List.mem_map.1 hy
   exact ⟨g,rfl,Zw.2.2 g hg⟩
  case qq=>subst hos;exact h5
theorem al {p:PP} (hv:Valid p):(1<=p.1/\p.1<=20)/\List.length p.2.2.1<=4294967296/\ ∀g∈p.2.2.1,Pm p.1.toNat g:=
 ⟨hv.n,by have:=hv.se;omega,λg hg=>⟨by have:=hv.len g hg;omega,bO (hv.perm g hg)⟩⟩
theorem aO {n:Nat} {g:List (List Int)} (h: ∀x∈g,Pm n x):PmL n (g.map some):= λo ho=>by
 obtain ⟨x,hx,rfl⟩:=List.mem_map.1 ho
 exact ⟨x,rfl,h x hx⟩
theorem WU {p:PP} (hv:Valid p):V p.1.toNat p.1.toNat 0 (Ym p.1 p.2.2.1):=by
 have:=hv.n
 exact ya (by omega) (by omega) (aO (al hv).2.2)
end Go.Proofs.YtfolipnappekaaaGreat

namespace Go.Proofs.YtfolipnappekaaaGreat
open Go.RowKit
theorem kB {g:List (List Int)} {x:List Int} :some x∈g.map some↔x∈g:=by simp
theorem ER {n:Nat} {g:List (List Int)} {x:List Int} (h:Gn n (g.map some) x) {l:Int} (hl:l∈Af g.length):Gn n (g.map some) (Ab x (An g l)):=by
 obtain ⟨k,hk,rfl|rfl⟩:=Ng (Kp hl)
 ·rw [Pd hk];exact .mul h (kB.2 (List.getElem_mem hk))
 ·rw [Pc hk];exact .inv h (kB.2 (List.getElem_mem hk))
theorem Pu {n k:Nat} (hk:k<n):(k:Int)+1∈Af n/\ -((k:Int)+1)∈Af n:=by
 unfold Af
 exact ⟨List.mem_flatMap.2 ⟨k,List.mem_range.2 hk,by simp⟩,List.mem_flatMap.2 ⟨k,List.mem_range.2 hk,by simp⟩⟩
theorem Dp.nodup {m:Nat} {L:List (List Int)} {Il:List Int} (h:Dp m L Il):L.Nodup:=
 List.pairwise_iff_getElem.2 λi j hi hj dI e=>by have:=h.inj hi hj e;omega
end Go.Proofs.YtfolipnappekaaaGreat

namespace Go.Proofs.YtfolipnappekaaaGreat
open Go.RowKit
theorem Fp {α:Type} {xs ys:List α} {i:Nat} {d:α} (h:i<xs.length):(xs++ys).getD i d=xs.getD i d:=by
 rw [List.getD_eq_getElem?_getD,List.getD_eq_getElem?_getD,List.getElem?_append_left h]
theorem fg {α:Type} {xs:List α} {x d:α} :(xs++ [x]).getD xs.length d=x:=by
 rw [List.getD_eq_getElem?_getD,List.getElem?_append_right (Nat.le_refl _),Nat.sub_self];rfl
theorem Ts {α:Type} {xs:List α} {i:Nat} {d:α} (h:i<xs.length):xs.getD i d=xs[i]:=by
 rw [List.getD_eq_getElem?_getD,List.getElem?_eq_getElem h];rfl
structure Lv (g:List (List Int)) (ls:List Int) (k:Nat) (L:List (List Int)) (D:List Int):Prop where
 len:D.length=L.length
 pos:0<L.length
 mono: ∀i j,i<=j->j<L.length->D.getD i 0<=D.getD j 0
 TG:k<L.length-> ∀j,j<L.length->D.getD j 0<=D.getD k 0+1
 par: ∀j,0<j->j<L.length-> ∃i l,i<j/\l∈ls/\L.getD j []=Ab (L.getD i []) (An g l)/\D.getD j 0=D.getD i 0+1
 zero:D.getD 0 0=0
theorem Lv.add {g:List (List Int)} {ls:List Int} {k:Nat} {L:List (List Int)} {D:List Int} (h:Lv g ls k L D) (hk:k<L.length) {l:Int} (hl:l∈ls):
  Lv g ls k (L++ [Ab (L.getD k []) (An g l)]) (D++ [D.getD k 0+1]):=by
 have hlen:=h.len
 have hD: ∀i,i<L.length->(D++ [D.getD k 0+1]).getD i 0=D.getD i 0:= λi hi=>Fp (by omega)
 have ZU:(D++ [D.getD k 0+1]).getD L.length 0=D.getD k 0+1:=by rw [<-hlen];exact fg
 refine ⟨by simp [hlen],by simp,λi j dI hj=>?_,λ_ j hj=>?_,λj h0 hj=>?_,?_⟩
 ·rw [List.length_append,List.length_singleton] at hj
  by_cases e:j=L.length
  ·subst e
   rw [ZU]
   by_cases e':i=L.length
   ·subst e';rw [ZU];exact Int.le_refl _
   ·rw [hD i (by omega)]
    exact h.TG hk i (by omega)
  ·rw [hD i (by omega),hD j (by omega)]
   exact h.mono i j dI (by omega)
 ·rw [List.length_append,List.length_singleton] at hj
  rw [hD k hk]
  by_cases e:j=L.length
  ·subst e;rw [ZU];exact Int.le_refl _
  ·rw [hD j (by omega)];exact h.TG hk j (by omega)
 ·rw [List.length_append,List.length_singleton] at hj
  by_cases e:j=L.length
  ·subst e
   exact ⟨k,l,hk,hl,by rw [fg,Fp hk],by rw [ZU,hD k hk]⟩
  ·obtain ⟨i,l',h1,h2,h3,h4⟩:=h.par j h0 (by omega)
   exact ⟨i,l',h1,h2,by rw [Fp (by omega),Fp (by omega)];exact h3,by rw [hD j (by omega),hD i (by omega)];exact h4⟩
 ·rw [hD 0 h.pos];exact h.zero
theorem pa {g:List (List Int)} {ls:List Int} {k:Nat} : ∀(JY:List Int) (L:List (List Int)) (D:List Int),(∀l∈JY,l∈ls)->Lv g ls k L D->k<L.length-> ∀ {x:List Int} {d:Int},x=L.getD k []->d=D.getD k 0->
  Lv g ls k (Ht g x d JY L D).1 (Ht g x d JY L D).2.1/\(∃A,(Ht g x d JY L D).1=L++A)/\(∃A,(Ht g x d JY L D).2.1=D++A)/\
  ((Ht g x d JY L D).2.2=true-> ∀l∈JY,∃j,j<(Ht g x d JY L D).1.length/\(Ht g x d JY L D).1.getD j []=Ab x (An g l)/\(Ht g x d JY L D).2.1.getD j 0<=d+1)
 | [],L,D,_,h,_,x,d,_,_=>⟨h,⟨[],by simp [Ht]⟩,⟨[],by simp [Ht]⟩,λ_ l hl=>by cases hl⟩
 |l::JY,L,D,hs,h,hk,x,d,hx,hd=>by
  have z7: ∀l∈JY,l∈ls:= λl' h'=>hs l' (List.mem_cons_of_mem _ h')
  have hlen:=h.len
  simp only [Ht]
  split
  ·rename_i hm
   obtain ⟨a1,⟨A,a2⟩,⟨A',a3⟩,a4⟩:=pa JY L D z7 h hk hx hd
   refine ⟨a1,⟨A,a2⟩,⟨A',a3⟩,λe l' Gt=>?_⟩
   rcases List.mem_cons.1 Gt with rfl|Gt
   ·obtain ⟨j,hj,hjx⟩:=List.mem_iff_getElem.1 hm
    refine ⟨j,by rw [a2,List.length_append];omega,by rw [a2,Fp hj,Ts hj];exact hjx,?_⟩
    rw [a3,Fp (by omega),hd]
    exact h.TG hk j hj
   ·exact a4 e l' Gt
  ·split
   ·exact ⟨h,⟨[],by simp⟩,⟨[],by simp⟩,λe=>by cases e⟩
   ·have QS:=h.add hk (hs l (by simp))
    rw [<-hx,<-hd] at QS
    obtain ⟨a1,⟨A,a2⟩,⟨A',a3⟩,a4⟩:=pa JY (L++ [Ab x (An g l)]) (D++ [d+1]) z7 QS (by rw [List.length_append];omega) (x:=x) (d:=d) (by rw [Fp hk];exact hx) (by rw [Fp (by omega)];exact hd)
    refine ⟨a1,⟨_::A,by rw [a2,List.append_assoc];rfl⟩,⟨_::A',by rw [a3,List.append_assoc];rfl⟩,λe l' Gt=>?_⟩
    rcases List.mem_cons.1 Gt with rfl|Gt
    ·refine ⟨L.length,by rw [a2,List.length_append,List.length_append];simp only [List.length_singleton];omega,?_,?_⟩
     ·rw [a2,Fp (by simp),fg]
     ·rw [a3,Fp (by simp [hlen]),<-hlen,fg]
      exact Int.le_refl _
    ·exact a4 e l' Gt
structure CN (g:List (List Int)) (ls:List Int) (L:List (List Int)) (D:List Int):Prop where
 len:D.length=L.length
 pos:0<L.length
 zero:D.getD 0 0=0
 par: ∀j,0<j->j<L.length-> ∃i l,i<j/\l∈ls/\L.getD j []=Ab (L.getD i []) (An g l)/\D.getD j 0=D.getD i 0+1
 step: ∀i,i<L.length-> ∀l∈ls,∃j,j<L.length/\L.getD j []=Ab (L.getD i []) (An g l)/\D.getD j 0<=D.getD i 0+1
theorem ym {g:List (List Int)} {ls:List Int} : ∀(f k:Nat) (L:List (List Int)) (D:List Int),3001<=f+k->Lv g ls k L D->k<=L.length->
  (∀i,i<k-> ∀l∈ls,∃j,j<L.length/\L.getD j []=Ab (L.getD i []) (An g l)/\D.getD j 0<=D.getD i 0+1)->
  (Me g ls f k L D).2.2=true->(Me g ls f k L D).1.length<=3000->CN g ls (Me g ls f k L D).1 (Me g ls f k L D).2.1
 |0,k,L,D,hf,h,hkL,hc,hw,h3=>by
  simp only [Me] at h3⊢
  omega
 |f+1,k,L,D,hf,h,hkL,hc,hw,h3=>by
  simp only [Me] at hw h3⊢
  split
  ·rename_i hk
   rw [if_pos hk] at hw h3
   obtain ⟨a1,⟨A,a2⟩,⟨A',a3⟩,a4⟩:=pa (x:=L.getD k []) (d:=D.getD k 0) ls L D (λ_ h=>h) h hk rfl rfl
   have hlen:=h.len
   split
   ·rename_i L' D' he
    rw [he] at a1 a2 a3 a4
    simp only [he] at hw h3
    have a2:L'=L++A:=a2
    have a3:D'=D++A':=a3
    have a4:=a4 rfl
    dsimp only at a4
    have hLl:L.length<=L'.length:=by rw [a2,List.length_append];omega
    refine ym f (k+1) L' D' (by omega) ⟨a1.len,a1.pos,a1.mono,λhk1 j hj=>?_,a1.par,a1.zero⟩ (by omega) (λi hi l hl=>?_) hw h3
    ·have h1:D'.getD j 0<=D'.getD k 0+1:=a1.TG (show k<L'.length by omega) j hj
     have h2:D'.getD k 0<=D'.getD (k+1) 0:=a1.mono k (k+1) (by omega) hk1
     omega
    ·by_cases e:i=k
     ·subst e
      obtain ⟨j,b1,b2,b3⟩:=a4 l hl
      refine ⟨j,b1,?_,?_⟩
      ·rw [b2,a2,Fp (by omega)]
      ·rw [show D'.getD i 0=D.getD i 0 by rw [a3,Fp (by omega)]];exact b3
     ·obtain ⟨j,b1,b2,b3⟩:=hc i (by omega) l hl
      refine ⟨j,by omega,?_,?_⟩
      ·rw [a2,Fp (by omega),Fp (by omega)];exact b2
      ·rw [a3,Fp (by omega),Fp (by omega)];exact b3
   ·rename_i L' D' he
    simp only [he] at hw
    cases hw
  ·rename_i hk
   exact ⟨h.len,h.pos,h.zero,h.par,λi hi=>hc i (by have hi:i<L.length:=hi;omega)⟩
theorem CV {p:PP} {s:List Int} (hv:Bx p=true) (hs:s.length<=20) (hr: ∀y∈s,0<=y/\y<p.1) (hw:(Gk p.2.2.1 s).2.2=true):
  CN p.2.2.1 (Af p.2.2.1.length) (Gk p.2.2.1 s).1 (Gk p.2.2.1 s).2.1:=by
 have hb:=(CW hv hs hr).1.ok.se
 refine ym 3001 0 [s] [0] (by omega) ⟨rfl,by simp,λi j dI hj=>?_,λ_ j hj=>?_,λj h0 hj=>?_,rfl⟩ (Nat.zero_le _) (λi hi=>absurd hi (Nat.not_lt_zero _)) hw hb
 ·have:j=0:=by simpa using hj
  subst this
  have:i=0:=by omega
  subst this
  exact Int.le_refl _
 ·have:j=0:=by simpa using hj
  subst this
  simp
 ·have:j=0:=by simpa using hj
  omega
theorem zp {p:PP} (hV:Valid p) {x:List Int} (hx: ∀y∈x,0<=y/\y<p.1) {l:Int} (hl:l∈Af p.2.2.1.length):
  -l∈Af p.2.2.1.length/\Ab (Ab x (An p.2.2.1 l)) (An p.2.2.1 (-l))=x:=by
 obtain ⟨k,hk,My⟩:=Ng (Kp hl)
 have hg:=bO (hV.perm _ (List.getElem_mem hk))
 have hgl:=hV.len _ (List.getElem_mem hk)
 have hn:=hV.n
 have hp:Pm p.1.toNat (p.2.2.1[k]):=⟨by omega,hg⟩
 have key: ∀q r:List Int,Pm p.1.toNat q->Pm p.1.toNat r->Ab q r=upto p.1.toNat->Ab (Ab x q) r=x:= λq r hq hr he=>by
  refine List.ext_getElem (by rw [Kj,Kj]) λi h1 h2=>?_
  have hxi:=hx _ (List.getElem_mem h2)
  obtain ⟨xi,hxe⟩:=Int.eq_ofNat_of_zero_le hxi.1
  have WK:xi<p.1.toNat:=by omega
  have e1:ap (Ab q r) xi=ap (upto p.1.toNat) xi:=congrArg (λz=>ap z xi) he
  rw [Hg hq hr WK,gq WK] at e1
  simp only [Ab,List.getElem_map,hxe]
  have h3:=(hq.Vq WK).1
  have h4:=(hr.Vq (hq.lt WK)).1
  rw [h3,h4,e1]
 rcases My with rfl|rfl
 ·refine ⟨(Pu hk).2,?_⟩
  rw [Pd hk,Pc hk]
  exact key _ _ hp hp.inv (js hp)
 ·refine ⟨by rw [Int.neg_neg];exact (Pu hk).1,?_⟩
  rw [Int.neg_neg,Pd hk,Pc hk]
  exact key _ _ hp.inv hp (aH hp)
structure Qm (g:List (List Int)) (ls:List Int) (L:List (List Int)) (S:List Int->Prop) (d:List Int->Int):Prop where
 nn: ∀x∈L,0<=d x
 zero: ∀x∈L,d x=0↔S x
 step: ∀x∈L,∀l∈ls,d (Ab x (An g l))<=d x+1
 down: ∀x∈L,0<d x-> ∃l∈ls,d (Ab x (An g l))=d x-1
structure oO (g:List (List Int)) (ls:List Int) (L:List (List Int)):Prop where
 next: ∀x∈L,∀l∈ls,Ab x (An g l)∈L
 back: ∀x∈L,∀l∈ls,-l∈ls/\Ab (Ab x (An g l)) (An g (-l))=x
theorem Qm.le {g:List (List Int)} {ls:List Int} {L:List (List Int)} {S:List Int->Prop} {d d':List Int->Int} (hc:oO g ls L) (h:Qm g ls L S d) (h':Qm g ls L S d'):
  ∀(n:Nat) (x:List Int),x∈L->d' x=n->d x<=n
 |0,x,hx,e=>by
  have:=(h.zero x hx).2 ((h'.zero x hx).1 e)
  omega
 |n+1,x,hx,e=>by
  obtain ⟨l,hl,hd⟩:=h'.down x hx (by omega)
  obtain ⟨b1,b2⟩:=hc.back x hx l hl
  have h1:=Qm.le hc h h' n _ (hc.next x hx l hl) (by omega)
  have h2:=h.step _ (hc.next x hx l hl) _ b1
  rw [b2] at h2
  omega
theorem Qm.eq {g:List (List Int)} {ls:List Int} {L:List (List Int)} {S:List Int->Prop} {d d':List Int->Int} (hc:oO g ls L) (h:Qm g ls L S d) (h':Qm g ls L S d') {x:List Int} (hx:x∈L):d x=d' x:=by
 have n1:=h.nn x hx
 have n2:=h'.nn x hx
 have h1:=Qm.le hc h h' (d' x).toNat x hx (by omega)
 have h2:=Qm.le hc h' h (d x).toNat x hx (by omega)
 omega
theorem Qm.TG {g:List (List Int)} {ls:List Int} {L:List (List Int)} {S:List Int->Prop} {d:List Int->Int} (hc:oO g ls L) (h:Qm g ls L S d) {x:List Int} (hx:x∈L) {l:Int} (hl:l∈ls):
  d x-1<=d (Ab x (An g l)):=by
 obtain ⟨b1,b2⟩:=hc.back x hx l hl
 have h2:=h.step _ (hc.next x hx l hl) _ b1
 rw [b2] at h2
 omega
theorem ED {L:List (List Int)} (hn:L.Nodup) {j:Nat} (hj:j<L.length):L.idxOf (L.getD j [])=j:=by
 rw [Ts hj]
 exact hn.idxOf_getElem j hj
theorem QO {L:List (List Int)} {j:Nat} (hj:j<L.length):L.getD j []∈L:=by rw [Ts hj];exact List.getElem_mem hj
theorem ss {p:PP} (hV:Valid p) {m:Nat} {L:List (List Int)} {D:List Int} (hb:Vh p m L D) (h:CN p.2.2.1 (Af p.2.2.1.length) L D):oO p.2.2.1 (Af p.2.2.1.length) L where
 next x hx l hl:=by
  obtain ⟨i,hi,rfl⟩:=List.mem_iff_getElem.1 hx
  obtain ⟨j,h1,h2,_⟩:=h.step i hi l hl
  rw [Ts hi] at h2
  rw [<-h2]
  exact QO h1
 back x hx l hl:=zp hV (hb.row x hx) hl
end Go.Proofs.YtfolipnappekaaaGreat

namespace Go.Proofs.YtfolipnappekaaaGreat
open Go.RowKit
noncomputable abbrev Wp:Spec:=Cg (.pair tL (.pair tL .unit)) tL false true (λx=>short x.2.1/\Hz (List.length x.1) x.2.1) (λx=>Cb x.1 x.2.1)
theorem OU (xs is:List Int) (P:List Int->Prop):(((0:Int)<=(↑is.length:Int)/\(↑is.length:Int)<(↑Be:Int)+(1:Int))/\(↑is.length:Int)=(↑is.length:Int)/\0=0/\(List.replicate (↑is.length:Int).toNat (Int.ofNat (nat_lit 0))).length=(List.replicate (↑is.length:Int).toNat (Int.ofNat (nat_lit 0))).length/\Bk (λ(v3:Int×List Int×PUnit) (k4:Int×List Int×PUnit->Prop)=>Br (decide (v3.1<(↑is.length:Int))) (∃(y5:Int),idx is v3.1=some y5/\ ∃(y6:Int),idx xs y5=some y6/\((0:Int)<=v3.1/\v3.1<(↑v3.2.1.length:Int))/\0+v3.1.toNat<v3.2.1.length/\0=0/\v3.2.1.length=(v3.2.1.set (0+v3.1.toNat) y6).length/\k4 (IntKind.i64.wrap (v3.1+(1:Int)),v3.2.1.set (0+v3.1.toNat) y6,())) (P (List.take v3.2.1.length (List.drop 0 v3.2.1)))) ((0:Int),List.replicate (↑is.length:Int).toNat (Int.ofNat (nat_lit 0)),PUnit.unit))=fnW Cd (look []) Wp Tryz.f80 (xs,is,()) P:=by kernel_rfl
theorem MB {p:List Int} (h:Ww p):Fk p=true:=by
 refine Dx.2 ⟨h.pos,h.len,λj h1 h2=>?_⟩
 have:=h.row _ (List.getElem_mem h2)
 exact ⟨by omega,by omega,λhm=>by
  obtain ⟨i,hi,e⟩:=List.mem_iff_getElem.1 hm
  have jN:i<j:=by rw [List.length_take] at hi;omega
  rw [List.getElem_take] at e
  exact (List.pairwise_iff_getElem.1 h.nodup i j (by omega) h2 jN) e⟩
theorem pE {p:PP} (hV:Valid p):xX p.1.toNat λg=>some g∈p.2.2.1.map some:=
 ⟨by have:=hV.n;omega,λg Nn=>by obtain ⟨g',e,h⟩:=aO (al hV).2.2 _ Nn;cases e;exact h⟩
theorem Ae1 {p:PP} (hV:Valid p) {x:List Int} (h:Pm p.1.toNat x):Dc p.1 x=true:=by
 have:=hV.n
 have:=h.1
 exact Dx.2 ⟨by omega,MB h.2⟩
theorem Abm {p:PP} (_hV:Valid p) {x:List Int} (h:Dc p.1 x=true):Pm p.1.toNat x:=by
 obtain ⟨h1,h2⟩:=Dx.1 h
 exact ⟨by omega,bO h2⟩
theorem pn {a b:List Int} :At a b=true↔a=b:=decide_eq_true_iff
theorem MW (xs is:List Int) (h:short is/\Hz xs.length is):fnW Cd (look []) Wp Tryz.f80 (xs,is,()) (λ(z:List Int)=>z=Cb xs is):=by
 obtain ⟨h,hr⟩:=h
 unfold short at h
 have Kw:(Cb xs is).length=is.length:=qy xs is
 refine Eq.mp (OU xs is _) ⟨⟨by omega,by show (is.length:Int)<(4294967296:Int)+1;omega⟩,rfl,rfl,rfl,?_⟩
 refine Aj is.length (λv=>v.1) (λj v=>v.2.1.length=(Cb xs is).length/\v.2.1.take j=(Cb xs is).take j) rfl ⟨by rw [Kw];simp,by simp⟩ ?_
 rintro j ⟨i,ys,⟨⟩⟩ K hj hi ⟨h1,h2⟩ hK
 dsimp only at hi h1 h2⊢
 subst hi
 refine Br.dec (λhl=>?_) λhl=>?_
 ·have hl:j<is.length:=by omega
  have hx:=hr _ (List.getElem_mem hl)
  obtain ⟨xn,hxe⟩:=Int.eq_ofNat_of_zero_le hx.1
  have Gt:j<(Cb xs is).length:=by rw [Kw];exact hl
  have e:xs[xn]'(by omega)=(Cb xs is)[j]:=by
   simp only [Cb,List.getElem_map,Iy,hxe,Int.toNat_natCast]
   rw [Ts]
  refine ⟨_,Aq hl,xs[xn]'(by omega),by rw [hxe];exact Aq (by omega),⟨by omega,by omega⟩,by rw [Int.toNat_natCast,Nat.zero_add];omega,rfl,by rw [List.length_set],?_⟩
  rw [Ag (by omega),Int.toNat_natCast,Nat.zero_add,e]
  refine hK hl _ rfl ⟨by rw [List.length_set];exact h1,?_⟩
  rw [List.take_add_one,List.take_set_of_le (by omega),h2,List.getElem?_set_self (by omega),List.take_add_one,List.getElem?_eq_getElem Gt]
 ·have:j=is.length:=by omega
  subst this
  rw [Bb,<-List.take_length (l:=ys),h1,Kw,h2,<-Kw,List.take_length]
theorem sX:Sound Tryz.prog 80 Wp:=
 Sound.Cg Bi Ai mixed Tryz.func80 (by kernel_rfl) (by kernel_rfl) λx h=>MW x.1 x.2.1 h
end Go.Proofs.YtfolipnappekaaaGreat

namespace Go.Proofs.YtfolipnappekaaaGreat
open Go.RowKit
theorem map_take {α β:Type} (f:α->β) {xs:List α} {j:Nat} (h:j<xs.length):(xs.take (j+1)).map f=(xs.take j).map f++ [f xs[j]]:=by
 rw [List.take_add_one,List.getElem?_eq_getElem h,List.map_append];rfl
end Go.Proofs.YtfolipnappekaaaGreat

namespace Go.Proofs.YtfolipnappekaaaGreat
open Go.RowKit
theorem ug {α:Type} {P:α->Bool} : ∀(l:List α) (i:Nat),l.any P=true-> ∃k,∃h:k<l.length,Dz P l (i:Int)=((i+k:Nat):Int)/\P l[k]=true/\ ∀j (h:j<k),P (l[j]'(by omega))=false
 | [],i,h=>by simp at h
 |y::r,i,h=>by
  simp only [Dz]
  by_cases hy:P y=true
  ·rw [if_pos hy]
   exact ⟨0,by simp,rfl,hy,λj hj=>absurd hj (Nat.not_lt_zero _)⟩
  ·rw [if_neg hy]
   have hr:r.any P=true:=by
    rw [List.any_cons,Bool.or_eq_true] at h
    exact h.resolve_left hy
   obtain ⟨k,hk,h1,h2,h3⟩:=ug r (i+1) hr
   refine ⟨k+1,by simpa using hk,?_,h2,λj hj=>?_⟩
   ·rw [show ((i:Int)+1)=((i+1:Nat):Int) by push_cast;rfl,h1]
    congr 1
    omega
   ·cases j with
    |zero=>exact Bool.not_eq_true _|>.mp hy
    |succ j=>exact h3 j (by omega)
end Go.Proofs.YtfolipnappekaaaGreat

namespace Go.Proofs.YtfolipnappekaaaGreat
open Go.RowKit
theorem dX {s q t:List Int} (h:Hz s.length t):Cb (Ab s q) t=Ab (Cb s t) q:=by
 unfold Cb Ab
 rw [List.map_map]
 refine List.map_congr_left λy hy=>?_
 obtain ⟨h1,h2⟩:=h y hy
 have hy':y.toNat<s.length:=by omega
 show Iy (s.map (Iy q)) y=Iy q (Iy s y)
 unfold Iy
 rw [Ts (by rw [List.length_map];exact hy'),List.getElem_map,Ts hy']
 try rfl
theorem ND {n:Nat} {t:List Int} (h: ∀y∈t,0<=y/\y<(n:Int)):Cb (upto n) t=t:=by
 unfold Cb
 refine (List.map_congr_left λy hy=>?_).trans (List.map_id t)
 obtain ⟨h1,h2⟩:=h y hy
 obtain ⟨k,rfl⟩:=Int.eq_ofNat_of_zero_le h1
 have hk:k<n:=by omega
 show Iy (upto n) (k:Int)=(k:Int)
 unfold Iy
 rw [Int.toNat_natCast,List.getD_eq_getElem?_getD,eP hk]
 rfl
noncomputable def iQ (p:PP) (t:List Int):List (List Int):=(Gk p.2.2.1 t).1
noncomputable def SZ (p:PP) (t:List Int):List Int:=(Gk p.2.2.1 t).2.1
theorem BG {p:PP} {t:List Int} (ht:Cz p t=true): ∀y∈t,0<=y/\y<((p.1.toNat:Nat):Int):= λy hy=>by
 have h1:=(Fe ht).2 y hy
 have:=(valid (Mw.1 ht).1).n
 omega
theorem Qm.congr {g:List (List Int)} {ls:List Int} {L:List (List Int)} {S S':List Int->Prop} {d:List Int->Int} (h:Qm g ls L S d) (e: ∀x∈L,S x↔S' x):Qm g ls L S' d:=
 ⟨h.nn,λx hx=>(h.zero x hx).trans (e x hx),h.step,h.down⟩
theorem NC {p:PP} {t:List Int} (ht:Cz p t=true):(iQ p t).getD 0 []=t/\t∈iQ p t:=by
 obtain ⟨_,A,h⟩:=CW (Mw.1 ht).1 (Fe ht).1 (Fe ht).2
 have h:iQ p t=t::A:=h
 rw [h]
 exact ⟨rfl,by simp⟩
end Go.Proofs.YtfolipnappekaaaGreat

namespace Go.Proofs.YtfolipnappekaaaGreat
open Go.RowKit
def known (row:Row):List (List Int):=row.filterMap id
mutual
def fW (n:Nat):Nat->Nat->List Int->Aw×Aw->Aw×Aw
 |0,_,_,s=>s
 |f+1,k,p,s=>if Ee s.2 (n-k) k p=true then s else
   ((known (s.2.getD k [])).map λu=>Ab u p).foldl (λs q=>cn n f k q s) (s.1.set k (s.1.getD k []++ [some p]),s.2)
def cn (n:Nat):Nat->Nat->List Int->Aw×Aw->Aw×Aw
 |0,_,_,s=>s
 |f+1,k,p,s=>match (s.2.getD k []).getD (ap p k) none with
  |some t=>fW n f (k+1) (Ab p (Ah t)) s
  |none=>((s.1.getD k []).map λo=>Ab p (o.getD [])).foldl (λs q=>cn n f k q s) (s.1,s.2.set k ((s.2.getD k []).set (ap p k) (some p)))
end
structure Part (n k:Nat) (s:Aw×Aw):Prop where
 l1:s.1.length=n
 l2:s.2.length=n
 pg:PG n k (s.1.getD k [])
 row:Po n k (s.1.getD k []) (s.2.getD k [])
 comp:fU n (n-(k+1)) (k+1) s
 gb:GBf (n-(k+1)) (k+1) s
 sub: ∀g,some g∈s.1.getD (k+1) []->Gn n (s.1.getD k []) g
def Hd (n k:Nat) (s:Aw×Aw) (q:List Int):Prop:= ∃t,(s.2.getD k []).getD (ap q k) none=some t/\Ee s.2 (n-(k+1)) (k+1) (Ab q (Ah t))=true
structure Yj (n k:Nat) (s s':Aw×Aw):Prop where
 grow:Qn k s s'
 same:s'.1.getD k []=s.1.getD k []
 part:Part n k s'
 Cn: ∀q,Pm n q->Fx k q->Hd n k s q->Hd n k s' q
 new: ∀y t,(s'.2.getD k []).getD y none=some t->(s.2.getD k []).getD y none=some t\/ ∀g,some g∈s.1.getD k []->Hd n k s' (Ab t g)
theorem Yj.refl {n k:Nat} {s:Aw×Aw} (h:Part n k s):Yj n k s s:=⟨Qn.refl _ _,rfl,h,λ_ _ _ h=>h,λ_ _ h=> .inl h⟩
theorem Part.tg {n k:Nat} {s:Aw×Aw} (h:Part n k s) (hk:k<n) {y:Nat} {t g:List Int} (ht:(s.2.getD k []).getD y none=some t) (hg:some g∈s.1.getD k []):Pm n (Ab t g)/\Fx k (Ab t g)/\ap (Ab t g) k=ap g y:=by
 obtain ⟨t1,t2,t3,t4⟩:=h.row.rt _ _ ht
 obtain ⟨g',e,g1,g2⟩:=h.pg _ hg
 cases e
 exact ⟨t1.comp g1,Fx.comp t1 g1 t2 g2 (by omega),by rw [Hg t1 g1 hk,t3]⟩
theorem Yj.trans {n k:Nat} {a b c:Aw×Aw} (hk:k<n) (h:Yj n k a b) (h':Yj n k b c):Yj n k a c:=by
 refine ⟨h.grow.trans h'.grow (Nat.le_refl _),h'.same.trans h.same,h'.part,λq h1 h2 h3=>h'.Cn q h1 h2 (h.Cn q h1 h2 h3),λy t e=>?_⟩
 rcases h'.new y t e with e1|e1
 ·rcases h.new y t e1 with e2|e2
  ·exact .inl e2
  ·refine .inr λg hg=>?_
   obtain ⟨p1,p2,_⟩:=h.part.tg hk e1 (by rw [h.same];exact hg)
   exact h'.Cn _ p1 p2 (e2 g hg)
 ·exact .inr λg hg=>e1 g (by rw [h.same];exact hg)
theorem Part.pms {n k:Nat} {s:Aw×Aw} (h1:1<=n) (h2:n<=20) (h:Part n k s):xX n λg=>some g∈s.1.getD k []:=⟨⟨h1,h2⟩,λg hg=>by obtain ⟨g',e,h,_⟩:=h.pg _ hg;cases e;exact h⟩
theorem Part.v {n k:Nat} {s:Aw×Aw} (h:Part n k s):V n (n-(k+1)) (k+1) s:=⟨h.l1,h.l2,h.comp,h.gb⟩
theorem tU (row:Row):rZ row+Hj row=row.length:=by
 induction row with
 |nil=>rfl
 |cons o r ih=>
  unfold rZ Hj at*
  cases o<;>simp [List.countP_cons]<;>omega
theorem FA {a b:Row} (hl:b.length=a.length) (h: ∀y t,a.getD y none=some t->b.getD y none=some t):Hj b<=Hj a:=by
 have h1:=(lq a b hl.symm h).1
 have h2:=tU a
 have h3:=tU b
 omega
def KA (n k:Nat):Nat:=(n-k)*(n+2)+(n+1)
def jg (n k:Nat) (s:Aw×Aw):Nat:=(n-k)*(n+2)+Hj (s.2.getD k [])
theorem Yj.mu {n k:Nat} {s s':Aw×Aw} (h:Yj n k s s'):jg n k s'<=jg n k s:=by
 have:=FA (h.grow.UC k) (h.grow.rG k)
 unfold jg;omega
theorem fc {n k f:Nat} (hk:k<n) {gs:List PO}
  (IH: ∀q s,Part n k s->s.1.getD k []=gs->Pm n q->Fx k q->Gn n gs q->jg n k s<=f->(Yj n k s (cn n f k q s)/\Hd n k (cn n f k q s) q)/\ ∀f',f<=f'->cn n f' k q s=cn n f k q s):
  ∀(qs:List (List Int)) (s:Aw×Aw),Part n k s->s.1.getD k []=gs->(∀q∈qs,Pm n q/\Fx k q/\Gn n gs q)->jg n k s<=f->
   Yj n k s (qs.foldl (λs q=>cn n f k q s) s)/\(∀q∈qs,Hd n k (qs.foldl (λs q=>cn n f k q s) s) q)/\ ∀f',f<=f'->qs.foldl (λs q=>cn n f' k q s) s=qs.foldl (λs q=>cn n f k q s) s
 | [],s,hp,_,_,_=>⟨Yj.refl hp,λq hq=>(by cases hq),λ_ _=>rfl⟩
 |q::qs,s,hp,hg,hq,hm=>by
  obtain ⟨q1,q2,q3⟩:=hq q (by simp)
  obtain ⟨⟨a1,a2⟩,a3⟩:=IH q s hp hg q1 q2 q3 hm
  obtain ⟨b1,b2,b3⟩:=fc hk IH qs (cn n f k q s) a1.part (a1.same.trans hg) (λq' h=>hq q' (List.mem_cons_of_mem _ h)) (Nat.le_trans a1.mu hm)
  simp only [List.foldl_cons]
  refine ⟨a1.trans hk b1,λq' gf=>?_,λf' hf=>?_⟩
  ·rcases List.mem_cons.1 gf with rfl|gf
   ·exact b1.Cn _ q1 q2 a2
   ·exact b2 q' gf
  ·rw [a3 f' hf];exact b3 f' hf
theorem yR {n k:Nat} (h1:1<=n) (h2:n<=20) (hk:k<n) {s s':Aw×Aw} (hs:fU n (n-(k+1)) (k+1) s) (z7:fU n (n-(k+1)) (k+1) s') (hg:Qn k s s') {x:List Int} (hx:Pm n x) (hf:Fx (k+1) x)
  (h:Ee s.2 (n-(k+1)) (k+1) x=true):Ee s'.2 (n-(k+1)) (k+1) x=true:=
 (Om h1 h2 _ (k+1) s' (by omega) z7 x hx hf).2 (((Om h1 h2 _ (k+1) s (by omega) hs x hx hf).1 h).mono λg xR=>hg.tY _ _ xR)
theorem fC {row:Row} {u:List Int} :u∈known row↔ ∃y,row.getD y none=some u:=by
 unfold known
 rw [List.mem_filterMap]
 constructor
 ·rintro ⟨o,ho,e⟩
  obtain ⟨y,hy,rfl⟩:=List.mem_iff_getElem.1 ho
  exact ⟨y,by rw [List.getD_eq_getElem?_getD,List.getElem?_eq_getElem hy];exact e⟩
 ·rintro ⟨y,hy⟩
  have hl:=jJ hy
  rw [List.getD_eq_getElem?_getD,List.getElem?_eq_getElem hl] at hy
  exact ⟨row[y],List.getElem_mem hl,hy⟩
theorem IN {n:Nat} (h1:1<=n) (h2:n<=20): ∀f:Nat,
  (∀k p s,k<=n->V n (n-k) k s->Pm n p->Fx k p->KA n k<=f->PK n (n-k) k s p (fW n f k p s)/\ ∀f',f<=f'->fW n f' k p s=fW n f k p s)/\
  (∀k q s,k<n->Part n k s->Pm n q->Fx k q->Gn n (s.1.getD k []) q->jg n k s<=f->(Yj n k s (cn n f k q s)/\Hd n k (cn n f k q s) q)/\ ∀f',f<=f'->cn n f' k q s=cn n f k q s)
 |0=>⟨λk p s _ _ _ _ h=>by unfold KA at h;omega,λk q s hk _ _ _ _ h=>by
   unfold jg at h
   have:1*(n+2)<=(n-k)*(n+2):=Nat.mul_le_mul_right _ (by omega)
   omega⟩
 |f+1=>by
  obtain ⟨ihG,ihP⟩:=IN h1 h2 f
  refine ⟨λk p s hk hv hp hf WJ=>?_,λk q s hk Yg hq hf CH WJ=>?_⟩
  ·
   have za: ∀f',f+1<=f'-> ∃CE,f'=CE+1/\f<=CE:= λf' h=>⟨f'-1,by omega,by omega⟩
   by_cases hh:Ee s.2 (n-k) k p=true
   ·have e: ∀f',fW n (f'+1) k p s=s:= λf'=>by simp only [fW];rw [if_pos hh]
    rw [e f]
    refine ⟨⟨hv,Qn.refl _ _,(Om h1 h2 _ k s (by omega) hv.2.2.1 p hp hf).1 hh,λo ho=> .inl ho⟩,λf' CG=>?_⟩
    obtain ⟨CE,rfl,_⟩:=za f' CG
    exact e CE
   have RI:k<n:=by
    refine Nat.lt_of_le_of_ne hk λe=>hh ?_
    subst e
    rw [Nat.sub_self];rfl
   obtain ⟨v1,v2,hc,u9⟩:=hv
   have gF:=hc
   have Aqm:=u9
   obtain ⟨m,hm⟩: ∃m,n-k=m+1:=⟨n-k-1,by omega⟩
   have yZ:n-(k+1)=m:=by omega
   rw [hm] at hc u9
   obtain ⟨c1,c2,c3⟩:=hc
   generalize jM:s.1.getD k []++ [some p]=gs
   have Uz:some p∈gs:=by rw [<-jM];simp
   have Kx: ∀o∈s.1.getD k [],o∈gs:= λo ho=>by rw [<-jM];exact List.mem_append_left _ ho
   have hg:PG n k gs:= λo ho=>by
    rw [<-jM] at ho
    rcases List.mem_append.1 ho with ho|ho
    ·exact c2.pg o ho
    ·rw [List.mem_singleton] at ho;exact ⟨p,ho,hp,hf⟩
   have hS:xX n λg=>some g∈gs:=⟨⟨h1,h2⟩,λg Nn=>by obtain ⟨g',e,h,_⟩:=hg _ Nn;cases e;exact h⟩
   have qL: ∀i,(s.1.set k gs).getD i []=if i=k then gs else s.1.getD i []:= λi=>by
    rw [Gs]
    by_cases e:k=i
    ·subst e;rw [if_pos ⟨rfl,by omega⟩,if_pos rfl]
    ·rw [if_neg (λhh=>e hh.1),if_neg (Ne.symm e)]
   have ue: ∀i,k+1<=i->(s.1.set k gs).getD i []=s.1.getD i []/\s.2.getD i []=s.2.getD i []:= λi hi=>⟨by rw [qL i,if_neg (by omega)],rfl⟩
   have z0:Part n k (s.1.set k gs,s.2):=by
    refine ⟨by simpa using v1,v2,?_,?_,?_,?_,λg Nn=>?_⟩
    ·show PG n k ((s.1.set k gs).getD k []);rw [qL k,if_pos rfl];exact hg
    ·show Po n k ((s.1.set k gs).getD k []) _
     rw [qL k,if_pos rfl]
     exact ⟨c2.rl,c2.r0,λy t e=>⟨(c2.rt y t e).1,(c2.rt y t e).2.1,(c2.rt y t e).2.2.1,(c2.rt y t e).2.2.2.mono λg hg=>Kx _ hg⟩⟩
    ·rw [yZ];exact Pb m (k+1) ue c1
    ·rw [yZ];exact Xf m (k+1) ue u9.1
    ·have Nn:some g∈(s.1.set k gs).getD (k+1) []:=Nn
     rw [(ue (k+1) (Nat.le_refl _)).1] at Nn
     show Gn n ((s.1.set k gs).getD k []) g
     rw [qL k,if_pos rfl]
     exact (c3 g Nn).mono λg hg=>Kx _ hg
   have fk:((s.1.set k gs,s.2):Aw×Aw).1.getD k []=gs:=by show (s.1.set k gs).getD k []=gs;rw [qL k,if_pos rfl]
   have iH:Qn k s (s.1.set k gs,s.2):=by
    refine ⟨by simp,rfl,λi hi=>⟨?_,rfl⟩,λi o ho=>?_,λi y t e=>e,λi=>rfl⟩
    ·show (s.1.set k gs).getD i []=_;rw [qL i,if_neg (by omega)]
    ·show o∈(s.1.set k gs).getD i []
     rw [qL i]
     split
     ·rename_i hi;subst hi;exact Kx o ho
     ·exact ho
   have hmP:jg n k (s.1.set k gs,s.2)<=f:=by
    have hn:=dV (s.2.getD k [])
    have hr:=c2.rl
    unfold jg
    unfold KA at WJ
    show (n-k)*(n+2)+Hj (s.2.getD k [])<=f
    omega
   have LV: ∀q∈(known (s.2.getD k [])).map (λu=>Ab u p),Pm n q/\Fx k q/\Gn n gs q:= λq hq=>by
    obtain ⟨u,hu,rfl⟩:=List.mem_map.1 hq
    obtain ⟨y,hy⟩:=fC.1 hu
    obtain ⟨t1,t2,t3,t4⟩:=c2.rt _ _ hy
    exact ⟨t1.comp hp,Fx.comp t1 hp t2 hf hk, .mul (t4.mono λg hg=>Kx _ hg) Uz⟩
   obtain ⟨r1,r2,r3⟩:=fc RI (gs:=gs) (λq s jP Nn a b c d=>ihP k q s RI jP a b (by rw [Nn];exact c) d) ((known (s.2.getD k [])).map λu=>Ab u p) (s.1.set k gs,s.2) z0 fk LV hmP
   have e: ∀f',fW n (f'+1) k p s=((known (s.2.getD k [])).map λu=>Ab u p).foldl (λs q=>cn n f' k q s) (s.1.set k gs,s.2):= λf'=>by simp only [fW];rw [if_neg hh,jM]
   refine ⟨?_,λf' CG=>by obtain ⟨CE,rfl,QZ⟩:=za f' CG;rw [e CE,e f];exact r3 CE QZ⟩
   rw [e f]
   generalize ((known (s.2.getD k [])).map λu=>Ab u p).foldl (λs q=>cn n f k q s) (s.1.set k gs,s.2)=s' at r1 r2
   have jP:=r1.part
   have DU:s'.1.getD k []=gs:=r1.same.trans fk
   have hHd: ∀y t g,(s'.2.getD k []).getD y none=some t->some g∈gs->Hd n k s' (Ab t g):= λy t g ht xR=>by
    rcases r1.new y t ht with e1|e1
    ·have e1:(s.2.getD k []).getD y none=some t:=e1
     by_cases Oc:g=p
     ·subst Oc
      exact r2 _ (List.mem_map.2 ⟨t,fC.2 ⟨y,e1⟩,rfl⟩)
     ·have hg0:some g∈s.1.getD k []:=by
       rw [<-jM] at xR
       rcases List.mem_append.1 xR with h|h
       ·exact h
       ·rw [List.mem_singleton] at h;cases h;exact absurd rfl Oc
      obtain ⟨x1,x2,x3⟩:=z0.tg RI e1 (by rw [fk];exact xR)
      refine r1.Cn _ x1 x2 ?_
      obtain ⟨t',ud⟩:=Option.ne_none_iff_exists'.1 (c2.cl y t g e1 hg0)
      refine ⟨t',by show (s.2.getD k []).getD _ none=_;rw [x3];exact ud,?_⟩
      show Ee s.2 (n-(k+1)) (k+1) _=true
      rw [yZ]
      exact c2.sg y t g t' e1 hg0 ud
    ·exact e1 g (by rw [fk];exact xR)
   have Ach:WM n k gs (s'.2.getD k []) (λq=>Ee s'.2 m (k+1) q=true):=by
    have hr:=jP.row
    rw [DU] at hr
    refine ⟨hg,hr.rl,hr.r0,hr.rt,λy t g ht xR=>?_,λy t g t' ht xR ud=>?_⟩
    ·obtain ⟨t',ud,_⟩:=hHd y t g ht xR
     obtain ⟨_,_,x3⟩:=jP.tg RI ht (by rw [DU];exact xR)
     rw [<-x3,ud];simp
    ·obtain ⟨t'',Ahd,hx⟩:=hHd y t g ht xR
     obtain ⟨_,_,x3⟩:=jP.tg RI ht (by rw [DU];exact xR)
     rw [x3,ud] at Ahd
     cases Ahd
     rw [<-yZ];exact hx
   have yT:fU n (m+1) k s':=⟨by rw [<-yZ];exact jP.comp,by rw [DU];exact Ach,λg xR=>jP.sub g xR⟩
   have dJ:Gn n (s'.1.getD k []) p:=by rw [DU];exact Yf.one hS Uz
   have pL:=iH.trans r1.grow (Nat.le_refl _)
   rw [hm]
   refine ⟨⟨jP.l1,jP.l2,yT,by rw [<-yZ];exact jP.gb,?_⟩,pL,dJ,λo ho=>?_⟩
   ·have hold:=u9.2
    obtain ⟨p1,p2⟩:=qA pL.UC pL.rG (m+1) k
    have Ek:dY s.2 (m+1) k≠dY s'.2 (m+1) k:= λe=>by
     have:=Yu (m+1) k p (p2 e)
     rw [(Om h1 h2 (m+1) k s' (by omega) yT p hp hf).2 dJ] at this
     rw [hm] at hh
     exact hh this.symm
    rw [DU,<-jM,List.length_append,List.length_singleton]
    omega
   ·rw [DU,<-jM] at ho
    rcases List.mem_append.1 ho with ho|ho
    ·exact .inl ho
    ·rw [List.mem_singleton] at ho;exact .inr ho
  ·
   have za: ∀f',f+1<=f'-> ∃CE,f'=CE+1/\f<=CE:= λf' h=>⟨f'-1,by omega,by omega⟩
   have hS:=Yg.pms h1 h2
   have hmul:(n-k)*(n+2)=(n-(k+1))*(n+2)+(n+2):=by
    rw [show n-k=n-(k+1)+1 by omega,Nat.add_mul,Nat.one_mul]
   cases Gj:(s.2.getD k []).getD (ap q k) none with
   |some t=>
    have e: ∀f',cn n (f'+1) k q s=fW n f' (k+1) (Ab q (Ah t)) s:= λf'=>by simp only [cn];rw [Gj]
    obtain ⟨t1,t2,t3,t4⟩:=Yg.row.rt _ _ Gj
    have hx:=hq.comp t1.inv
    have hfx:=Fx.div hq t1 hf t2 hk t3
    have hxg:Gn n (s.1.getD k []) (Ab q (Ah t)):=Yf.comp hS CH (Yf.oF hS t4)
    obtain ⟨a1,a2⟩:=ihG (k+1) _ s (by omega) Yg.v hx hfx (by unfold KA;unfold jg at WJ;omega)
    refine ⟨?_,λf' CG=>by obtain ⟨CE,rfl,QZ⟩:=za f' CG;rw [e CE,e f];exact a2 CE QZ⟩
    rw [e f]
    generalize fW n f (k+1) (Ab q (Ah t)) s=s' at a1
    obtain ⟨av,ag,ai,ags⟩:=a1
    obtain ⟨w1,w2,w3,w4⟩:=av
    obtain ⟨lo1,lo2⟩:=ag.low k (by omega)
    have Ami:Part n k s':=⟨w1,w2,by rw [lo1];exact Yg.pg,by rw [lo1,lo2];exact Yg.row,w3,w4,λg xR=>by
     rw [lo1]
     rcases ags _ xR with h|h
     ·exact Yg.sub g h
     ·cases h;exact hxg⟩
    refine ⟨⟨ag.En (by omega),lo1,Ami,λq' q1 q2 ⟨t',e1,e2⟩=>?_,λy t e=> .inl (by rw [lo2] at e;exact e)⟩,t,by rw [lo2];exact Gj,?_⟩
    ·obtain ⟨u1,u2,u3,_⟩:=Yg.row.rt _ _ e1
     exact ⟨t',by rw [lo2];exact e1,yR h1 h2 hk Yg.comp w3 (ag.En (by omega)) (q1.comp u1.inv) (Fx.div q1 u1 q2 u2 hk u3) e2⟩
    ·exact (Om h1 h2 _ (k+1) s' (by omega) w3 _ hx hfx).2 ai
   |none=>
    have e: ∀f',cn n (f'+1) k q s=((s.1.getD k []).map λo=>Ab q (o.getD [])).foldl (λs q=>cn n f' k q s) (s.1,s.2.set k ((s.2.getD k []).set (ap q k) (some q))):= λf'=>by simp only [cn];rw [Gj]
    have hy:ap q k<n:=hq.lt hk
    have XR:=Yg.row.rl
    have hyk:ap q k≠k:= λh=>by rw [h,Yg.row.r0] at Gj;cases Gj
    have rS:=Yg.l2
    generalize mV:(s.2.getD k []).set (ap q k) (some q)=Rp
    have bf: ∀y,Rp.getD y none=if ap q k=y then some q else (s.2.getD k []).getD y none:= λy=>by
     rw [<-mV,Gs]
     by_cases h:ap q k=y
     ·rw [if_pos ⟨h,by omega⟩,if_pos h]
     ·rw [if_neg λhh=>h hh.1,if_neg h]
    have s12: ∀i,(s.2.set k Rp).getD i []=if i=k then Rp else s.2.getD i []:= λi=>by
     rw [Gs]
     by_cases e:k=i
     ·subst e;rw [if_pos ⟨rfl,by omega⟩,if_pos rfl]
     ·rw [if_neg (λhh=>e hh.1),if_neg (Ne.symm e)]
    have ue: ∀i,k+1<=i->s.1.getD i []=s.1.getD i []/\(s.2.set k Rp).getD i []=s.2.getD i []:= λi hi=>⟨rfl,by rw [s12 i,if_neg (by omega)]⟩
    have RF:((s.1,s.2.set k Rp):Aw×Aw).2.getD k []=Rp:=by show (s.2.set k Rp).getD k []=Rp;rw [s12 k,if_pos rfl]
    have z0:Part n k (s.1,s.2.set k Rp):=by
     refine ⟨Yg.l1,by simpa using rS,Yg.pg,?_,Pb _ (k+1) ue Yg.comp,Xf _ (k+1) ue Yg.gb,Yg.sub⟩
     rw [RF]
     refine ⟨by rw [<-mV,List.length_set];exact XR,by rw [bf k,if_neg hyk];exact Yg.row.r0,λy t e=>?_⟩
     rw [bf y] at e
     split at e
     ·rename_i h
      cases e
      exact ⟨hq,hf,h,CH⟩
     ·exact Yg.row.rt y t e
    have iH:Qn k s (s.1,s.2.set k Rp):=by
     refine ⟨rfl,by simp,λi hi=>⟨rfl,?_⟩,λi o ho=>ho,λi y t et=>?_,λi=>?_⟩
     ·show (s.2.set k Rp).getD i []=_;rw [s12 i,if_neg (by omega)]
     ·show ((s.2.set k Rp).getD i []).getD y none=some t
      rw [s12 i]
      split
      ·rename_i hi
       subst hi
       rw [bf y]
       split
       ·rename_i h;rw [<-h,Gj] at et;cases et
       ·exact et
      ·exact et
     ·show ((s.2.set k Rp).getD i []).length=_
      rw [s12 i]
      split
      ·rename_i hi;subst hi;rw [<-mV,List.length_set]
      ·rfl
    have hnn:Hj Rp+1=Hj (s.2.getD k []):=by rw [<-mV];exact lQ Gj (by omega)
    have hmP:jg n k (s.1,s.2.set k Rp)<=f:=by
     unfold jg
     rw [RF]
     unfold jg at WJ
     omega
    have LV: ∀x∈(s.1.getD k []).map (λo=>Ab q (o.getD [])),Pm n x/\Fx k x/\Gn n (s.1.getD k []) x:= λx hx=>by
     obtain ⟨o,ho,rfl⟩:=List.mem_map.1 hx
     obtain ⟨g,rfl,g1,g2⟩:=Yg.pg o ho
     exact ⟨hq.comp g1,Fx.comp hq g1 hf g2 (by omega), .mul CH ho⟩
    obtain ⟨r1,r2,r3⟩:=fc hk (gs:=s.1.getD k []) (λq s jP Nn a b c d=>ihP k q s hk jP a b (by rw [Nn];exact c) d) ((s.1.getD k []).map λo=>Ab q (o.getD [])) (s.1,s.2.set k Rp) z0 rfl LV hmP
    have e': ∀f',cn n (f'+1) k q s=((s.1.getD k []).map λo=>Ab q (o.getD [])).foldl (λs q=>cn n f' k q s) (s.1,s.2.set k Rp):= λf'=>by rw [e f',mV]
    refine ⟨?_,λf' CG=>by obtain ⟨CE,rfl,QZ⟩:=za f' CG;rw [e' CE,e' f];exact r3 CE QZ⟩
    rw [e' f]
    generalize ((s.1.getD k []).map λo=>Ab q (o.getD [])).foldl (λs q=>cn n f k q s) (s.1,s.2.set k Rp)=s' at r1 r2
    have z9:s'.1.getD k []=s.1.getD k []:=r1.same
    have Aca: ∀x,Pm n x->Fx k x->Hd n k s x->Hd n k (s.1,s.2.set k Rp) x:= λx x1 x2 ⟨t',e1,e2⟩=>by
     obtain ⟨u1,u2,u3,_⟩:=Yg.row.rt _ _ e1
     exact ⟨t',iH.rG k _ _ e1,yR h1 h2 hk Yg.comp z0.comp iH (x1.comp u1.inv) (Fx.div x1 u1 x2 u2 hk u3) e2⟩
    have hqq:(s'.2.getD k []).getD (ap q k) none=some q:=r1.grow.rG k _ _ (by rw [RF,bf,if_pos rfl])
    refine ⟨⟨iH.trans r1.grow (Nat.le_refl _),z9,r1.part,λx x1 x2 x3=>r1.Cn x x1 x2 (Aca x x1 x2 x3),λy t ht=>?_⟩,q,hqq,?_⟩
    ·rcases r1.new y t ht with e1|e1
     ·rw [RF,bf y] at e1
      split at e1
      ·cases e1
       refine .inr λg hg=>r2 _ (List.mem_map.2 ⟨some g,hg,rfl⟩)
      ·exact .inl e1
     ·exact .inr e1
    ·rw [js hq]
     exact (Om h1 h2 _ (k+1) s' (by omega) r1.part.comp _ (Pm.id h1 h2) (λi hi=>gq (by omega))).2 .id
end Go.Proofs.YtfolipnappekaaaGreat

namespace Go.Proofs.YtfolipnappekaaaGreat
open Go.RowKit
theorem IL {n f k:Nat} {p:List Int} {s:Aw×Aw} :fW n (f+1) k p s=if Ee s.2 (n-k) k p=true then s else
  ((known (s.2.getD k [])).map λu=>Ab u p).foldl (λs q=>cn n f k q s) (s.1.set k (s.1.getD k []++ [some p]),s.2):=by simp only [fW]
theorem IM {n f k:Nat} {p:List Int} {s:Aw×Aw} :cn n (f+1) k p s=match (s.2.getD k []).getD (ap p k) none with
  |some t=>fW n f (k+1) (Ab p (Ah t)) s
  |none=>((s.1.getD k []).map λo=>Ab p (o.getD [])).foldl (λs q=>cn n f k q s) (s.1,s.2.set k ((s.2.getD k []).set (ap p k) (some p))):=by simp only [cn]<;>rfl
theorem Ab0 {n k:Nat} (h2:n<=20):(n-k)*(n+2)<=440:=Nat.le_trans (Nat.mul_le_mul (show n-k<=20 by omega) (show n+2<=22 by omega)) (by omega)
theorem TD {n k f:Nat} (h2:n<=20) (hf:500<=f):KA n k<=f:=by have:=Ab0 (k:=k) h2;unfold KA;omega
theorem Adb {n k f:Nat} {s:Aw×Aw} (h2:n<=20) (hp:Part n k s) (hf:500<=f):jg n k s<=f:=by
 have:=Ab0 (k:=k) h2
 have h:=dV (s.2.getD k [])
 have hr:=hp.row.rl
 unfold jg;omega
theorem Abb {n k:Nat} (h1:1<=n) (h2:n<=20) {p:List Int} {s:Aw×Aw} (hk:k<=n) (hv:V n (n-k) k s) (hp:Pm n p) (hf:Fx k p):PK n (n-k) k s p (fW n 1000 k p s):=
 ((IN h1 h2 1000).1 k p s hk hv hp hf (TD h2 (by omega))).1
def dA (n k:Nat) (qs:List (List Int)) (s:Aw×Aw):Aw×Aw:=qs.foldl (λs q=>cn n 1000 k q s) s
theorem py {n k:Nat} (h1:1<=n) (h2:n<=20) (hk:k<n) {qs:List (List Int)} {s:Aw×Aw} (hp:Part n k s) (hq: ∀q∈qs,Pm n q/\Fx k q/\Gn n (s.1.getD k []) q):
  Yj n k s (dA n k qs s)/\qs.foldl (λs q=>cn n 999 k q s) s=dA n k qs s:=by
 have h:=fc hk (f:=999) (gs:=s.1.getD k []) (λq s' jP Nn a b c d=>(IN h1 h2 999).2 k q s' hk jP a b (by rw [Nn];exact c) d) qs s hp rfl hq (Adb h2 hp (by omega))
 have e:=h.2.2 1000 (by omega)
 refine ⟨?_,e.symm⟩
 unfold dA
 rw [e];exact h.1
theorem pz {n k:Nat} {qs:List (List Int)} {s:Aw×Aw} {j:Nat} (hj:j<qs.length):dA n k (qs.take (j+1)) s=cn n 1000 k qs[j] (dA n k (qs.take j) s):=by
 unfold dA
 rw [List.take_add_one,List.getElem?_eq_getElem hj,Option.toList_some,List.foldl_append]
 rfl
theorem xY {n k:Nat} (h1:1<=n) (h2:n<=20) {p:List Int} {s:Aw×Aw} (RI:k<n) (hv:V n (n-k) k s) (hp:Pm n p) (hf:Fx k p):
  Part n k (s.1.set k (s.1.getD k []++ [some p]),s.2)/\ ∀q∈(known (s.2.getD k [])).map (λu=>Ab u p),Pm n q/\Fx k q/\Gn n ((s.1.set k (s.1.getD k []++ [some p])).getD k []) q:=by
 obtain ⟨v1,v2,hc,u9⟩:=hv
 obtain ⟨m,hm⟩: ∃m,n-k=m+1:=⟨n-k-1,by omega⟩
 have yZ:n-(k+1)=m:=by omega
 rw [hm] at hc u9
 obtain ⟨c1,c2,c3⟩:=hc
 generalize jM:s.1.getD k []++ [some p]=gs
 have Uz:some p∈gs:=by rw [<-jM];simp
 have Kx: ∀o∈s.1.getD k [],o∈gs:= λo ho=>by rw [<-jM];exact List.mem_append_left _ ho
 have hg:PG n k gs:= λo ho=>by
  rw [<-jM] at ho
  rcases List.mem_append.1 ho with ho|ho
  ·exact c2.pg o ho
  ·rw [List.mem_singleton] at ho;exact ⟨p,ho,hp,hf⟩
 have qL: ∀i,(s.1.set k gs).getD i []=if i=k then gs else s.1.getD i []:= λi=>by
  rw [Gs]
  by_cases e:k=i
  ·subst e;rw [if_pos ⟨rfl,by omega⟩,if_pos rfl]
  ·rw [if_neg (λhh=>e hh.1),if_neg (Ne.symm e)]
 have ue: ∀i,k+1<=i->(s.1.set k gs).getD i []=s.1.getD i []/\s.2.getD i []=s.2.getD i []:= λi hi=>⟨by rw [qL i,if_neg (by omega)],rfl⟩
 refine ⟨⟨by simpa using v1,v2,?_,?_,?_,?_,λg Nn=>?_⟩,λq hq=>?_⟩
 ·show PG n k ((s.1.set k gs).getD k []);rw [qL k,if_pos rfl];exact hg
 ·show Po n k ((s.1.set k gs).getD k []) _
  rw [qL k,if_pos rfl]
  exact ⟨c2.rl,c2.r0,λy t e=>⟨(c2.rt y t e).1,(c2.rt y t e).2.1,(c2.rt y t e).2.2.1,(c2.rt y t e).2.2.2.mono λg hg=>Kx _ hg⟩⟩
 ·rw [yZ];exact Pb m (k+1) ue c1
 ·rw [yZ];exact Xf m (k+1) ue u9.1
 ·have Nn:some g∈(s.1.set k gs).getD (k+1) []:=Nn
  rw [(ue (k+1) (Nat.le_refl _)).1] at Nn
  show Gn n ((s.1.set k gs).getD k []) g
  rw [qL k,if_pos rfl]
  exact (c3 g Nn).mono λg hg=>Kx _ hg
 ·rw [qL k,if_pos rfl]
  obtain ⟨u,hu,rfl⟩:=List.mem_map.1 hq
  obtain ⟨y,hy⟩:=fC.1 hu
  obtain ⟨t1,t2,t3,t4⟩:=c2.rt _ _ hy
  exact ⟨t1.comp hp,Fx.comp t1 hp t2 hf (by omega), .mul (t4.mono λg hg=>Kx _ hg) Uz⟩
theorem PZ {n k:Nat} (h1:1<=n) (h2:n<=20) {p:List Int} {s:Aw×Aw} (RI:k<n) (hv:V n (n-k) k s) (hp:Pm n p) (hf:Fx k p) (hh: ¬Ee s.2 (n-k) k p=true):
  fW n 1000 k p s=dA n k ((known (s.2.getD k [])).map λu=>Ab u p) (s.1.set k (s.1.getD k []++ [some p]),s.2):=by
 obtain ⟨a1,a2⟩:=xY h1 h2 RI hv hp hf
 rw [<-(py h1 h2 RI a1 a2).2]
 exact (IL (f:=999)).trans (if_neg hh)
theorem IK {n k:Nat} {p:List Int} {s:Aw×Aw} (hh:Ee s.2 (n-k) k p=true):fW n 1000 k p s=s:=by
 exact (IL (f:=999)).trans (if_pos hh)
theorem QB {n k:Nat} (h1:1<=n) (h2:n<=20) {q t:List Int} {s:Aw×Aw} (hk:k<n) (Yg:Part n k s) (hq:Pm n q) (hf:Fx k q) (Gj:(s.2.getD k []).getD (ap q k) none=some t):
  cn n 1000 k q s=fW n 1000 (k+1) (Ab q (Ah t)) s:=by
 obtain ⟨t1,t2,t3,t4⟩:=Yg.row.rt _ _ Gj
 rw [((IN h1 h2 999).1 (k+1) _ s (by omega) Yg.v (hq.comp t1.inv) (Fx.div hq t1 hf t2 hk t3) (TD h2 (by omega))).2 1000 (by omega)]
 refine (IM (f:=999)).trans ?_
 rw [Gj]
theorem xZ {n k:Nat} {q:List Int} {s:Aw×Aw} (hk:k<n) (Yg:Part n k s) (hq:Pm n q) (hf:Fx k q) (CH:Gn n (s.1.getD k []) q) (Gj:(s.2.getD k []).getD (ap q k) none=none):
  Part n k (s.1,s.2.set k ((s.2.getD k []).set (ap q k) (some q)))/\ ∀x∈(s.1.getD k []).map (λo=>Ab q (o.getD [])),Pm n x/\Fx k x/\Gn n (s.1.getD k []) x:=by
 have XR:=Yg.row.rl
 have hy:ap q k<n:=hq.lt hk
 have hyk:ap q k≠k:= λh=>by rw [h,Yg.row.r0] at Gj;cases Gj
 have rS:=Yg.l2
 generalize mV:(s.2.getD k []).set (ap q k) (some q)=Rp
 have bf: ∀y,Rp.getD y none=if ap q k=y then some q else (s.2.getD k []).getD y none:= λy=>by
  rw [<-mV,Gs]
  by_cases h:ap q k=y
  ·rw [if_pos ⟨h,by omega⟩,if_pos h]
  ·rw [if_neg λhh=>h hh.1,if_neg h]
 have s12: ∀i,(s.2.set k Rp).getD i []=if i=k then Rp else s.2.getD i []:= λi=>by
  rw [Gs]
  by_cases e:k=i
  ·subst e;rw [if_pos ⟨rfl,by omega⟩,if_pos rfl]
  ·rw [if_neg (λhh=>e hh.1),if_neg (Ne.symm e)]
 have ue: ∀i,k+1<=i->s.1.getD i []=s.1.getD i []/\(s.2.set k Rp).getD i []=s.2.getD i []:= λi hi=>⟨rfl,by rw [s12 i,if_neg (by omega)]⟩
 have RF:((s.1,s.2.set k Rp):Aw×Aw).2.getD k []=Rp:=by show (s.2.set k Rp).getD k []=Rp;rw [s12 k,if_pos rfl]
 refine ⟨⟨Yg.l1,by simpa using rS,Yg.pg,?_,Pb _ (k+1) ue Yg.comp,Xf _ (k+1) ue Yg.gb,Yg.sub⟩,λx hx=>?_⟩
 ·rw [RF]
  refine ⟨by rw [<-mV,List.length_set];exact XR,by rw [bf k,if_neg hyk];exact Yg.row.r0,λy t e=>?_⟩
  rw [bf y] at e
  split at e
  ·rename_i h
   cases e
   exact ⟨hq,hf,h,CH⟩
  ·exact Yg.row.rt y t e
 ·obtain ⟨o,ho,rfl⟩:=List.mem_map.1 hx
  obtain ⟨g,rfl,g1,g2⟩:=Yg.pg o ho
  exact ⟨hq.comp g1,Fx.comp hq g1 hf g2 (by omega), .mul CH ho⟩
theorem QA {n k:Nat} (h1:1<=n) (h2:n<=20) {q:List Int} {s:Aw×Aw} (hk:k<n) (Yg:Part n k s) (hq:Pm n q) (hf:Fx k q) (CH:Gn n (s.1.getD k []) q) (Gj:(s.2.getD k []).getD (ap q k) none=none):
  cn n 1000 k q s=dA n k ((s.1.getD k []).map λo=>Ab q (o.getD [])) (s.1,s.2.set k ((s.2.getD k []).set (ap q k) (some q))):=by
 obtain ⟨a1,a2⟩:=xZ hk Yg hq hf CH Gj
 rw [<-(py h1 h2 hk a1 a2).2]
 refine (IM (f:=999)).trans ?_
 rw [Gj]
def Kt (n:Nat) (gens:List PO):Aw×Aw:=gens.foldl (λs o=>fW n 1000 0 (o.getD []) s) (Ny n,Tl n)
theorem vB {n:Nat} {gens:List PO} {j:Nat} (hj:j<gens.length):Kt n (gens.take (j+1))=fW n 1000 0 (gens[j].getD []) (Kt n (gens.take j)):=by
 unfold Kt
 rw [List.take_add_one,List.getElem?_eq_getElem hj,Option.toList_some,List.foldl_append]
 rfl
theorem im {n:Nat} (h1:1<=n) (h2:n<=20): ∀(gens:List PO) (s:Aw×Aw),PmL n gens->V n n 0 s->V n n 0 (gens.foldl (λs o=>fW n 1000 0 (o.getD []) s) s)/\
  Qn 0 s (gens.foldl (λs o=>fW n 1000 0 (o.getD []) s) s)/\(∀g,some g∈gens->Gn n ((gens.foldl (λs o=>fW n 1000 0 (o.getD []) s) s).1.getD 0 []) g)/\ ∀o∈(gens.foldl (λs o=>fW n 1000 0 (o.getD []) s) s).1.getD 0 [],o∈s.1.getD 0 []\/o∈gens
 | [],s,_,hv=>⟨hv,Qn.refl _ _,(λ_ hg=>by cases hg),λ_ ho=> .inl ho⟩
 |o::gens,s,hg,hv=>by
  obtain ⟨g,rfl,Oc⟩:=hg o (by simp)
  have ha:=Abb h1 h2 (k:=0) (Nat.zero_le _) (by rw [Nat.sub_zero];exact hv) Oc (λi hi=>absurd hi (Nat.not_lt_zero _))
  have JF:=ha.v
  rw [Nat.sub_zero] at JF
  obtain ⟨a1,a2,a3,a4⟩:=im h1 h2 gens (fW n 1000 0 g s) (λo ho=>hg o (by simp [ho])) JF
  refine ⟨a1,ha.grow.trans a2 (Nat.le_refl _),λg' Nn=>?_,λo ho=>?_⟩
  ·rcases List.mem_cons.1 Nn with e|Nn
   ·cases e;exact ha.Ad7.mono λg hg=>a2.tY _ _ hg
   ·exact a3 g' Nn
  ·rcases a4 o ho with h|h
   ·rcases ha.gens o h with h|h
    ·exact .inl h
    ·exact .inr (by simp [h])
   ·exact .inr (by simp [h])
theorem tK {n:Nat} (h1:1<=n) (h2:n<=20) {gens:List PO} (hg:PmL n gens):V n n 0 (Kt n gens):=(im h1 h2 gens _ hg (oL h1 h2)).1
theorem yQ {n:Nat} (h1:1<=n) (h2:n<=20) {gens:List PO} (hg:PmL n gens) {p:List Int} (hp:Pm n p):Ee (Kt n gens).2 n 0 p=true↔Gn n gens p:=by
 obtain ⟨a1,a2,a3,a4⟩:=im h1 h2 gens _ hg (oL h1 h2)
 have hS:xX n λg=>some g∈gens:=⟨⟨h1,h2⟩,λg Nn=>by obtain ⟨g',e,h⟩:=hg _ Nn;cases e;exact h⟩
 have Kx: ∀g,some g∈(Kt n gens).1.getD 0 []->some g∈gens:= λg Nn=>by
  rcases a4 _ Nn with h|h
  ·have h:some g∈(Ny n).getD 0 []:=h
   rw [Tk] at h;cases h
  ·exact h
 have hS':xX n λg=>some g∈(Kt n gens).1.getD 0 []:=⟨⟨h1,h2⟩,λg Nn=>hS.2 g (Kx g Nn)⟩
 refine (Om h1 h2 n 0 (Kt n gens) (by omega) a1.2.2.1 p hp λi hi=>absurd hi (Nat.not_lt_zero _)).trans ⟨λh=>h.mono Kx,λh=>h.trans hS' λg Nn=>a3 g Nn⟩
end Go.Proofs.YtfolipnappekaaaGreat

namespace Go.Proofs.YtfolipnappekaaaGreat
open Go.RowKit
def Jn (T:Aw):Nat->Nat->List Int->List Int×Int×Unit
 |0,l,p=>(p,(l:Int),())
 |k+1,l,p=>match (T.getD l []).getD (Iy p (l:Int)).toNat none with
  |none=>(p,(l:Int),())
  |some t=>Jn T k (l+1) (Ab p (Ah t))
theorem qQ {T:Aw} : ∀(k l:Nat) (p:List Int),(Jn T k l p).2.1=((l+k:Nat):Int)↔Ee T k l p=true
 |0,l,p=>by simp [Jn,Ee]
 |k+1,l,p=>by
  unfold Jn Ee
  cases (T.getD l []).getD (Iy p (l:Int)).toNat none with
  |none=>
   constructor
   ·intro h
    have h:(l:Int)=((l+(k+1):Nat):Int):=h
    omega
   ·intro h;cases h
  |some t=>
   have h:=qQ (T:=T) k (l+1) (Ab p (Ah t))
   rw [show l+1+k=l+(k+1) by omega] at h
   exact h
theorem EP {row:Row} {y:Nat} (h:y<row.length):known (row.take (y+1))=known (row.take y)++(row[y]).toList:=by
 unfold known
 rw [List.take_succ_eq_append_getElem h,List.filterMap_append]
 cases row[y]<;>rfl
theorem uo (row:Row):(known row).length<=row.length:=List.length_filterMap_le _ _
theorem tX {n k:Nat} (h1:1<=n) (h2:n<=20) (hk:k<n) {qs:List (List Int)} {s:Aw×Aw} (hp:Part n k s) (hq: ∀q∈qs,Pm n q/\Fx k q/\Gn n (s.1.getD k []) q) (j:Nat):Yj n k s (dA n k (qs.take j) s):=
 (py h1 h2 hk hp λq h=>hq q (List.mem_of_mem_take h)).1
theorem EY {n k:Nat} {s:Aw×Aw} (hp:Part n k s):jg n k s<KA n k:=by
 have h:=dV (s.2.getD k [])
 have hr:=hp.row.rl
 unfold jg KA
 omega
theorem TE {n k:Nat} {s:Aw×Aw} (hk:k<n):KA n (k+1)<jg n k s:=by
 obtain ⟨m,hm⟩: ∃m,n-k=m+1:=⟨n-k-1,by omega⟩
 have yZ:n-(k+1)=m:=by omega
 unfold KA jg
 rw [hm,yZ,Nat.succ_mul]
 omega
theorem YB {n k y:Nat} {s:Aw×Aw} {q:List Int} (hk:k<s.2.length) (hy:y<(s.2.getD k []).length) (h:(s.2.getD k []).getD y none=none):
  jg n k (s.1,s.2.set k ((s.2.getD k []).set y (some q)))+1=jg n k s:=by
 have h1:=lQ (t:=q) h hy
 have h2:(s.2.set k ((s.2.getD k []).set y (some q))).getD k []=(s.2.getD k []).set y (some q):=by
  rw [Gs,if_pos ⟨rfl,hk⟩]
 unfold jg
 show _+Hj ((s.2.set k ((s.2.getD k []).set y (some q))).getD k [])+1=_
 rw [h2]
 omega
def lp (n:Int) (g:List (List Int)):Aw×Aw:=Kt n.toNat (g.map some)
end Go.Proofs.YtfolipnappekaaaGreat

namespace Go.Proofs.YtfolipnappekaaaGreat
open Go.RowKit
abbrev BB:Type:=List TT×List (ByteArray->Option Int)×Unit
def OI:List (List Int)->List Int->(ByteArray->Option Int)->ByteArray->Option Int
 |x::xs,d::ds,m=>OI xs ds (eN m (Rw x) d)
 |_,_,m=>m
def Qx (t:TT):ByteArray->Option Int:=OI t.2.1 t.2.2.1 λ_=>none
def Cu (ts:List TT):BB:=(ts,ts.map Qx,())
structure KQ (t:TT):Prop where
 se:t.2.1.length<=3000
 len:t.2.2.1.length=t.2.1.length
 nodup:t.2.1.Nodup
 byte: ∀x∈t.2.1,cq x
 Akn: ∀d∈t.2.2.1,0<=d/\d<=3000
 tl:t.1.length<=20
 pl: ∀x∈t.2.1,x.length<=20
def Uv (ts:List TT):Prop:=ts.length<=4/\ ∀t∈ts,KQ t
def bG (t:TT) (s:List Int):Int:=t.2.2.1.getD (t.2.1.idxOf (Cb s t.1)) 0
def Pf (ts:List TT) (s:List Int):List Int:=ts.map λt=>bG t s
def Pv (ts:List TT) (s:List Int):Int:=(Pf ts s).foldl max 0
def Zq (ts:List TT) (s:List Int):Prop:=s.length<=20/\ ∀t∈ts,Hz s.length t.1/\Cb s t.1∈t.2.1
noncomputable abbrev Qb:Spec:=Cg (.pair th .unit) (.optr Tx) false false (λx=>Uv x.1) (λx=>some (Cu x.1))
def PN (b:Option BB) (s:List Int):Prop:= ∃ts,Uv ts/\b=some (Cu ts)/\Zq ts s
def SY (b:Option BB) (s:List Int):List Int:=match b with|some b=>Pf b.1 s|none=> []
def Xo (b:Option BB) (s:List Int):Int:=match b with|some b=>Pv b.1 s|none=>0
noncomputable abbrev uO:Spec:=Cg (.pair (.optr Tx) (.pair tL .unit)) tL false true (λx=>PN x.1 x.2.1) (λx=>SY x.1 x.2.1)
noncomputable abbrev fL:Spec:=Cg (.pair (.optr Tx) (.pair tL .unit)) tI false true (λx=>PN x.1 x.2.1) (λx=>Xo x.1 x.2.1)
noncomputable abbrev aT:Spec:=Cg (.pair th (.pair tL .unit)) tL false true (λx=>Uv x.1/\Zq x.1 x.2.1) (λx=>Pf x.1 x.2.1)
noncomputable abbrev fK:Spec:=Cg (.pair th (.pair tL .unit)) tI false true (λx=>Uv x.1/\Zq x.1 x.2.1) (λx=>Pv x.1 x.2.1)
abbrev kQ:Type:=Int×List Int×List (List Int)×List Int×List (List Int×List (List Int)×List Int×PUnit)×(ByteArray->Option Int)×List (ByteArray->Option Int)×PUnit
abbrev kS:Type:=Int×List (List Int×List (List Int)×List Int×PUnit)×List (ByteArray->Option Int)×PUnit
theorem BU (ts:List (List Int×List (List Int)×List Int×Unit)) (P:Option (List (List Int×List (List Int)×List Int×Unit)×List (ByteArray->Option Int)×Unit)->Prop):(0=0/\0=([]:List Int).length/\Bk (λ(v2:kS) (k3:kS->Prop)=>Br (decide (v2.1<(↑ts.length:Int))) (∃(y4:List Int×List (List Int)×List Int×PUnit),idx ts v2.1=some y4/\0=0/\v2.2.2.1.length=v2.2.2.1.length/\Bk (λ(v5:kQ) (k6:kQ->Prop)=>Br (decide (v5.1<(↑y4.2.1.length:Int))) (∃(y7:List Int),idx y4.2.1 v5.1=some y7/\ ∃(y8:ByteArray),Ge.fn (y7,())=some y8/\ ∃(y9:Int),idx v5.2.2.2.1 v5.1=some y9/\0=0/\v5.2.2.2.2.2.2.1.length=v5.2.2.2.2.2.2.1.length/\k6 (IntKind.i64.wrap (v5.1+(1:Int)),v5.2.1,v5.2.2.1,v5.2.2.2.1,v5.2.2.2.2.1,eN v5.2.2.2.2.2.1 y8 y9,v5.2.2.2.2.2.2.1,())) (0=0/\v5.2.2.2.2.2.2.1.length=v5.2.2.2.2.2.2.1.length/\v5.2.2.2.2.2.2.1.length+(List.take 1 (List.drop 0 [v5.2.2.2.2.2.1])).length<=Be/\0=0/\(v5.2.2.2.2.2.2.1++List.take 1 (List.drop 0 [v5.2.2.2.2.2.1])).length=(v5.2.2.2.2.2.2.1++List.take 1 (List.drop 0 [v5.2.2.2.2.2.1])).length/\k3 (IntKind.i64.wrap (v2.1+(1:Int)),v5.2.2.2.2.1,v5.2.2.2.2.2.2.1++List.take 1 (List.drop 0 [v5.2.2.2.2.2.1]),()))) ((0:Int),y4.1,y4.2.1,y4.2.2.1,v2.2.1,λ(_:ByteArray)=>none,v2.2.2.1,PUnit.unit)) (P (some (v2.2.1,List.take v2.2.2.1.length (List.drop 0 v2.2.2.1),())))) ((0:Int),ts,[],PUnit.unit))=fnW (HK [Ut+101101]) (look [(79,Ge)]) Qb Tryz.f64 (ts,()) P:=by kernel_rfl
abbrev UP:Type:=List (List Int×List (List Int)×List Int×PUnit)×List (ByteArray->Option Int)×PUnit
theorem Air (b:Option (List (List Int×List (List Int)×List Int×Unit)×List (ByteArray->Option Int)×Unit)) (s:List Int) (P:List Int->Prop):(∃(y3:UP),b=some y3/\0=0/\0=([]:List Int).length/\Bk (λ(v4:Int×List Int×PUnit) (k5:Int×List Int×PUnit->Prop)=>Br (decide (v4.1<(↑y3.1.length:Int))) (∃(y6:List Int×List (List Int)×List Int×PUnit),idx y3.1 v4.1=some y6/\ ∃(y7:UP),b=some y7/\ ∃(y8:ByteArray->Option Int),idx y7.2.1 v4.1=some y8/\ ∃(y9:List Int),Wp.fn (s,y6.1,())=some y9/\ ∃(Jf:ByteArray),Ge.fn (y9,())=some Jf/\0=0/\v4.2.1.length=v4.2.1.length/\v4.2.1.length+(List.take 1 (List.drop 0 [(y8 Jf).getD (Int.ofNat (nat_lit 0))])).length<=Be/\0=0/\(v4.2.1++List.take 1 (List.drop 0 [(y8 Jf).getD (Int.ofNat (nat_lit 0))])).length=(v4.2.1++List.take 1 (List.drop 0 [(y8 Jf).getD (Int.ofNat (nat_lit 0))])).length/\k5 (IntKind.i64.wrap (v4.1+(1:Int)),v4.2.1++List.take 1 (List.drop 0 [(y8 Jf).getD (Int.ofNat (nat_lit 0))]),())) (P (List.take v4.2.1.length (List.drop 0 v4.2.1)))) ((0:Int),[],PUnit.unit))=fnW Cd (look [(79,Ge),(80,Wp)]) uO Tryz.f59 (b,s,()) P:=by kernel_rfl
theorem ZE (b:Option (List (List Int×List (List Int)×List Int×Unit)×List (ByteArray->Option Int)×Unit)) (s:List Int) (P:Int->Prop):(∃(y3:List Int),uO.fn (b,s,())=some y3/\Bk (λ(v4:Int×Int×PUnit) (k5:Int×Int×PUnit->Prop)=>Br (decide (v4.2.1<(↑y3.length:Int))) (∃(y6:Int),idx y3 v4.2.1=some y6/\k5 (if true=true then if y6>v4.1 then y6 else v4.1 else if y6<v4.1 then y6 else v4.1,IntKind.i64.wrap (v4.2.1+(1:Int)),())) (P v4.1)) ((0:Int),(0:Int),PUnit.unit))=fnW Cd (look [(59,uO)]) fL Tryz.f52 (b,s,()) P:=by kernel_rfl
abbrev mz:Type:=List Int×List (List Int)×List Int×PUnit
theorem VP (ts:List (List Int×List (List Int)×List Int×Unit)) (s:List Int) (P:List Int->Prop):(0=0/\0=([]:List Int).length/\Bk (λ(v3:Int×List Int×PUnit) (k4:Int×List Int×PUnit->Prop)=>Br (decide (v3.1<(↑ts.length:Int))) (∃(y5:mz),idx ts v3.1=some y5/\ ∃(y6:mz),idx ts v3.1=some y6/\ ∃(y7:mz),idx ts v3.1=some y7/\ ∃(y8:List Int),Wq.fn (y7.1,s,())=some y8/\ ∃(y9:Int),Pl.fn (y6,y8,())=some y9/\ ∃(Jf:Int),idx y5.2.2.1 y9=some Jf/\0=0/\v3.2.1.length=v3.2.1.length/\v3.2.1.length+(List.take 1 (List.drop 0 [Jf])).length<=Be/\0=0/\(v3.2.1++List.take 1 (List.drop 0 [Jf])).length=(v3.2.1++List.take 1 (List.drop 0 [Jf])).length/\k4 (IntKind.i64.wrap (v3.1+(1:Int)),v3.2.1++List.take 1 (List.drop 0 [Jf]),())) (P (List.take v3.2.1.length (List.drop 0 v3.2.1)))) ((0:Int),[],PUnit.unit))=fnW Cd (look [(78,Wq),(77,Pl)]) aT Tryz.f57 (ts,s,()) P:=by kernel_rfl
theorem ZD (ts:List (List Int×List (List Int)×List Int×Unit)) (s:List Int) (P:Int->Prop):(∃(y3:List Int),aT.fn (ts,s,())=some y3/\Bk (λ(v4:Int×Int×PUnit) (k5:Int×Int×PUnit->Prop)=>Br (decide (v4.2.1<(↑y3.length:Int))) (∃(y6:Int),idx y3 v4.2.1=some y6/\k5 (if true=true then if y6>v4.1 then y6 else v4.1 else if y6<v4.1 then y6 else v4.1,IntKind.i64.wrap (v4.2.1+(1:Int)),())) (P v4.1)) ((0:Int),(0:Int),PUnit.unit))=fnW Cd (look [(57,aT)]) fK Tryz.f48 (ts,s,()) P:=by kernel_rfl
theorem KQ.short {t:TT} (h:KQ t):Lc t:=by
 have h1:=h.se;have h2:=h.len;have h3:=h.tl
 exact ⟨by unfold _root_.Go.Proofs.YtfolipnappekaaaGreat.short;omega,⟨by omega,λr hr=>by have:=h.pl r hr;unfold _root_.Go.Proofs.YtfolipnappekaaaGreat.short;omega⟩,by unfold _root_.Go.Proofs.YtfolipnappekaaaGreat.short;omega⟩
theorem vf {p:PP} {t:TT} (h:Dj p t=true):KQ t/\Cz p t.1=true/\(Gk p.2.2.1 t.1).2.2=true/\t.2.1=iQ p t.1/\t.2.2.1=SZ p t.1:=by
 obtain ⟨h1,h2⟩:=Bool.and_eq_true_iff.1 h
 obtain ⟨h3,h4⟩:=aN.1 h1
 have h5:=lK.1 h2
 unfold Dy at h5
 rw [if_pos h1] at h5
 have e1:t.2.1=iQ p t.1:=(congrArg (λz:TT=>z.2.1) h5).symm
 have e2:t.2.2.1=SZ p t.1:=(congrArg (λz:TT=>z.2.2.1) h5).symm
 have hv:=(Mw.1 h3).1
 have hn:=(valid hv).n
 have dK:=wR h3
 have fY:=dK.ok.se
 have hlen:=dK.len
 have CJ:=dK.ok.short
 refine ⟨⟨by rw [e1];exact fY,by rw [e1,e2];exact hlen,by rw [e1];exact dK.ok.nodup,λx hx=>?_,λd hd=>?_,(Fe h3).1,λx hx=>?_⟩,h3,h4,e1,e2⟩
 ·rw [e1] at hx
  intro y hy
  have:=dK.row x hx y hy
  omega
 ·rw [e2] at hd
  obtain ⟨j,hj,rfl⟩:=List.mem_iff_getElem.1 hd
  have h6:=dK.dep j hj
  have w5:j<(Gk p.2.2.1 t.1).2.1.length:=hj
  exact ⟨h6.1,by have:=h6.2;show (Gk p.2.2.1 t.1).2.1[j]<=3000;omega⟩
 ·rw [e1] at hx
  have:=dK.ok.len x hx
  omega
theorem eL {p:PP} {ts:List TT} (h:De p ts=true):Bx p=true/\Uv ts/\ ∀t∈ts,Dj p t=true:=by
 unfold De at h
 rw [Bool.and_eq_true,Bool.and_eq_true,List.all_eq_true,decide_eq_true_iff] at h
 exact ⟨h.1.1,⟨h.1.2,λt ht=>(vf (h.2 t ht)).1⟩,h.2⟩
theorem BE: ∀(xs:List (List Int)) (ds:List Int) (m:ByteArray->Option Int) (x:List Int),xs.length=ds.length->xs.Nodup->(∀y∈xs,cq y)->cq x->OI xs ds m (Rw x)=if x∈xs then some (ds.getD (xs.idxOf x) 0) else m (Rw x)
 | [],ds,m,x,_,_,_,_=>by cases ds<;>simp [OI]
 |y::xs,[],m,x,hl,_,_,_=>by simp at hl
 |y::xs,d::ds,m,x,hl,hn,hb,hx=>by
  obtain ⟨hy,hn⟩:=List.nodup_cons.1 hn
  simp only [OI]
  rw [BE xs ds _ x (by simpa using hl) hn (λz hz=>hb z (List.mem_cons_of_mem _ hz)) hx]
  by_cases hm:x∈xs
  ·have Ek:y≠x:= λe=>hy (e▸hm)
   have hi:(y::xs).idxOf x=xs.idxOf x+1:=by rw [List.idxOf_cons,show (y==x)=false by simpa using Ek];rfl
   rw [if_pos hm,if_pos (List.mem_cons_of_mem _ hm),hi]
   rfl
  ·rw [if_neg hm]
   unfold eN
   by_cases e:Rw x=Rw y
   ·have:=key_inj hx (hb y (by simp)) e
    subst this
    rw [if_pos e,if_pos (by simp),List.idxOf_cons_self]
    rfl
   ·have Ek:x≠y:= λh=>e (by rw [h])
    rw [if_neg e,if_neg (by simp [Ek,hm])]
theorem VH {t:TT} (h:KQ t) {x:List Int} (hx:x∈t.2.1):Qx t (Rw x)=some (t.2.2.1.getD (t.2.1.idxOf x) 0):=by
 unfold Qx
 rw [BE _ _ _ _ h.len.symm h.nodup h.byte (h.byte x hx),if_pos hx]
theorem zU (ts:List TT) (h:Uv ts):fnW (HK [Ut+101101]) (look [(79,Ge)]) Qb Tryz.f64 (ts,()) (λ(z:Option BB)=>z=some (Cu ts)):=by
 obtain ⟨h4,hd⟩:=h
 refine Eq.mp (BU ts _) ⟨rfl,rfl,?_⟩
 refine Aj ts.length (λv=>v.1) (λi v=>v=((i:Int),ts,(ts.take i).map Qx,())) rfl rfl ?_
 rintro i v K hi hii rfl hK
 dsimp only
 refine Br.dec (λhl=>?_) λhl=>?_
 ·have hl:i<ts.length:=by omega
  have LL:=hd _ (List.getElem_mem hl)
  have fY:=LL.se
  have hlen:=LL.len
  have Acx:=LL.short
  refine ⟨_,Aq hl,rfl,rfl,?_⟩
  refine Aj (ts[i]).2.1.length (λv=>v.1) (λj v=> ∃m,v=((j:Int),(ts[i]).1,(ts[i]).2.1,(ts[i]).2.2.1,ts,m,(ts.take i).map Qx,())/\OI ((ts[i]).2.1.drop j) ((ts[i]).2.2.1.drop j) m=Qx ts[i]) rfl ⟨_,rfl,by rw [List.drop_zero,List.drop_zero];rfl⟩ ?_
  rintro j v K1 hj hjj ⟨m,rfl,hm⟩ hK1
  dsimp only
  refine Br.dec (λfm=>?_) λfm=>?_
  ·have fm:j<(ts[i]).2.1.length:=by omega
   have rS:j<(ts[i]).2.2.1.length:=by omega
   rw [List.drop_eq_getElem_cons fm,List.drop_eq_getElem_cons rS] at hm
   refine ⟨_,Aq fm,_,if_pos (Acx.2.1.2 _ (List.getElem_mem fm)),_,Aq rS,rfl,rfl,?_⟩
   rw [Ag (by omega)]
   exact hK1 fm _ rfl ⟨_,rfl,hm⟩
  ·have:j=(ts[i]).2.1.length:=by omega
   subst this
   rw [List.drop_length] at hm
   have hm:m=Qx ts[i]:=by
    rw [<-hm]
    cases List.drop (ts[i]).2.1.length (ts[i]).2.2.1<;>rfl
   subst hm
   refine ⟨rfl,rfl,by show ((ts.take i).map Qx).length+1<=4294967296;rw [List.length_map,List.length_take];omega,rfl,rfl,?_⟩
   rw [Ag (by omega)]
   have hmm:(ts.take (i+1)).map Qx=(ts.take i).map Qx++ [Qx ts[i]]:=by
    rw [List.take_add_one,List.getElem?_eq_getElem hl,Option.toList_some,List.map_append]
    rfl
   refine hK hl _ rfl ?_
   rw [hmm]
   rfl
 ·have:i=ts.length:=by omega
  subst this
  rw [Bb,List.take_length]
  rfl
theorem oa:Sound Tryz.prog 64 Qb:=
 Sound.Cg (HL [Ut+101101]) (Ae Xz Ai) mixed Tryz.func64 (by kernel_rfl) (by kernel_rfl) λx h=>zU x.1 h
theorem jo (ts:List TT) (s:List Int):(Pf ts s).length=ts.length:=by unfold Pf;rw [List.length_map]
theorem CY {t:TT} (h:KQ t) {s:List Int} (hs:Cb s t.1∈t.2.1):0<=bG t s/\bG t s<=3000:=by
 have hi:=List.idxOf_lt_length_of_mem hs
 have hl:=h.len
 unfold bG
 rw [Ts (by omega)]
 exact h.Akn _ (List.getElem_mem _)
theorem KX {ts:List TT} (h:Uv ts) {s:List Int} (hs:Zq ts s): ∀d∈Pf ts s,0<=d/\d<=3000:= λd hd=>by
 obtain ⟨t,ht,rfl⟩:=List.mem_map.1 hd
 exact CY (h.2 t ht) (hs.2 t ht).2
theorem tP {ts:List TT} {s:List Int} {i:Nat} (hl:i<ts.length):(Pf (ts.take (i+1)) s)=Pf (ts.take i) s++ [bG ts[i] s]:=by
 unfold Pf
 rw [List.take_add_one,List.getElem?_eq_getElem hl,Option.toList_some,List.map_append]
 rfl
theorem Ai3 (b:Option BB) (s:List Int) (h:PN b s):fnW Cd (look [(79,Ge),(80,Wp)]) uO Tryz.f59 (b,s,()) (λ(z:List Int)=>z=SY b s):=by
 obtain ⟨ts,⟨h4,hd⟩,rfl,hs⟩:=h
 refine Eq.mp (Air _ s _) ⟨Cu ts,rfl,rfl,rfl,?_⟩
 show Bk _ _
 refine Aj ts.length (λv=>v.1) (λi v=>v=((i:Int),Pf (ts.take i) s,())) rfl rfl ?_
 rintro i v K hi hii rfl hK
 dsimp only
 refine Br.dec (λhl=>?_) λhl=>?_
 ·have hl:i<ts.length:=by have hl:(i:Int)<(ts.length:Int):=hl;omega
  have LL:=hd _ (List.getElem_mem hl)
  obtain ⟨bz,jd⟩:=hs.2 _ (List.getElem_mem hl)
  have htl:=LL.tl
  have fo:=LL.pl _ jd
  refine ⟨ts[i],Aq hl,Cu ts,rfl,Qx ts[i],?_,_,if_pos ⟨by show (ts[i]).1.length<=4294967296;omega,bz⟩,_,if_pos (by show (Cb s (ts[i]).1).length<=4294967296;omega),rfl,rfl,?_,rfl,rfl,?_⟩
  ·show idx (ts.map Qx) (i:Int)=_
   rw [Aq (by rw [List.length_map];exact hl),List.getElem_map]
  ·show (Pf (ts.take i) s).length+1<=4294967296
   rw [jo,List.length_take];omega
  ·rw [Ag (by omega)]
   refine hK hl _ rfl ?_
   rw [tP hl,show Qx ts[i] (Rw (Cb s (ts[i]).1))=some (bG ts[i] s) from VH LL jd]
   rfl
 ·have:i=ts.length:=by have hl: ¬(i:Int)<(ts.length:Int):=hl;omega
  subst this
  rw [Bb,List.take_length]
  rfl
theorem NS:Sound Tryz.prog 59 uO:=
 Sound.Cg Bi (Ae Xz (Ae sX Ai)) mixed Tryz.func59 (by kernel_rfl) (by kernel_rfl) λx h=>Ai3 x.1 x.2.1 h
theorem TF (a b:Int):(if true=true then if b>a then b else a else if b<a then b else a)=max a b:=by
 rw [if_pos rfl]
 by_cases h:b>a
 ·rw [if_pos h,Int.max_eq_right (by omega)]
 ·rw [if_neg h,Int.max_eq_left (by omega)]
theorem QN {xs:List Int} {m:Int} (h: ∀x∈xs,0<=x/\x<=m) (hm:0<=m):0<=xs.foldl max 0/\xs.foldl max 0<=m:=by
 rcases gD xs 0 with h1|h1
 ·rw [h1];exact ⟨Int.le_refl _,hm⟩
 ·exact h _ h1
theorem JX {ts:List TT} (h:Uv ts) {s:List Int} (hs:Zq ts s):0<=Pv ts s/\Pv ts s<=3000:=QN (KX h hs) (by omega)
theorem YJ (b:Option BB) (s:List Int) (h:PN b s):fnW Cd (look [(59,uO)]) fL Tryz.f52 (b,s,()) (λ(z:Int)=>z=Xo b s):=by
 obtain ⟨ts,ht,hb,hs⟩:=id h
 have hl4:=ht.1
 have hlen:=jo ts s
 obtain ⟨xs,hxs⟩: ∃xs,SY b s=xs:=⟨_,rfl⟩
 have hxe:Xo b s=xs.foldl max 0:=by rw [<-hxs,hb];rfl
 have RX:xs.length=ts.length:=by rw [<-hxs,hb];exact hlen
 refine Eq.mp (ZE b s _) ⟨xs,(if_pos h).trans (congrArg some hxs),?_⟩
 rw [hxe]
 refine Aj xs.length (λv=>v.2.1) (λi v=>v=((xs.take i).foldl max 0,(i:Int),())) rfl rfl ?_
 rintro i v K hi hii rfl hK
 dsimp only
 refine Br.dec (λhl=>?_) λhl=>?_
 ·have hl:i<xs.length:=by omega
  refine ⟨_,Aq hl,?_⟩
  rw [Ag (by omega)]
  refine hK hl _ rfl ?_
  rw [List.take_add_one,List.getElem?_eq_getElem hl,Option.toList_some,List.foldl_append,TF]
  rfl
 ·have:i=xs.length:=by omega
  subst this
  rw [List.take_length]
theorem AQ:Sound Tryz.prog 52 fL:=
 Sound.Cg Bi (Ae NS Ai) mixed Tryz.func52 (by kernel_rfl) (by kernel_rfl) λx h=>YJ x.1 x.2.1 h
theorem EF {L:List (List Int)} {x:List Int} (hn:L.Nodup) (hx:x∈L):Dz (λq=>decide (q=x)) L 0=((L.idxOf x:Nat):Int):=by
 obtain ⟨k,hk,h1,h2,_⟩:=ug (P:= λq=>decide (q=x)) L 0 (List.any_eq_true.2 ⟨x,hx,decide_eq_true rfl⟩)
 have h3:L[k]=x:=of_decide_eq_true h2
 have h4:=ED hn hk
 rw [Ts hk,h3] at h4
 rw [h4,<-Nat.zero_add k]
 exact h1
theorem TO (ts:List TT) (s:List Int) (h:Uv ts/\Zq ts s):fnW Cd (look [(78,Wq),(77,Pl)]) aT Tryz.f57 (ts,s,()) (λ(z:List Int)=>z=Pf ts s):=by
 obtain ⟨⟨h4,hd⟩,hs⟩:=h
 refine Eq.mp (VP ts s _) ⟨rfl,rfl,?_⟩
 refine Aj ts.length (λv=>v.1) (λi v=>v=((i:Int),Pf (ts.take i) s,())) rfl rfl ?_
 rintro i v K hi hii rfl hK
 dsimp only
 refine Br.dec (λhl=>?_) λhl=>?_
 ·have hl:i<ts.length:=by omega
  have LL:=hd _ (List.getElem_mem hl)
  obtain ⟨bz,jd⟩:=hs.2 _ (List.getElem_mem hl)
  have htl:=LL.tl
  have fo:=LL.pl _ jd
  have hix:=List.idxOf_lt_length_of_mem jd
  have hle:=LL.len
  have he:Pl.fn (((ts[i]).1,(ts[i]).2.1,(ts[i]).2.2.1,()),Cb s (ts[i]).1,())=some (((ts[i]).2.1.idxOf (Cb s (ts[i]).1):Nat):Int):=
   (if_pos ⟨LL.short,by show (Cb s (ts[i]).1).length<=4294967296;omega⟩).trans (congrArg some (EF LL.nodup jd))
  refine ⟨_,Aq hl,_,Aq hl,_,Aq hl,_,if_pos ⟨by show (ts[i]).1.length<=4294967296;omega,bz⟩,_,he,_,Aq (by omega),rfl,rfl,?_,rfl,rfl,?_⟩
  ·show (Pf (ts.take i) s).length+1<=4294967296
   rw [jo,List.length_take];omega
  ·rw [Ag (by omega)]
   refine hK hl _ rfl ?_
   rw [tP hl]
   unfold bG
   rw [Ts (by omega)]
   rfl
 ·have:i=ts.length:=by omega
  subst this
  rw [Bb,List.take_length]
theorem xf:Sound Tryz.prog 57 aT:=
 Sound.Cg Bi (Ae sY (Ae rm Ai)) mixed Tryz.func57 (by kernel_rfl) (by kernel_rfl) λx h=>TO x.1 x.2.1 h
theorem YI (ts:List TT) (s:List Int) (h:Uv ts/\Zq ts s):fnW Cd (look [(57,aT)]) fK Tryz.f48 (ts,s,()) (λ(z:Int)=>z=Pv ts s):=by
 have hl4:=h.1.1
 have hlen:=jo ts s
 obtain ⟨xs,hxs⟩: ∃xs,Pf ts s=xs:=⟨_,rfl⟩
 have hxe:Pv ts s=xs.foldl max 0:=by rw [<-hxs];rfl
 have RX:xs.length=ts.length:=by rw [<-hxs];exact hlen
 refine Eq.mp (ZD ts s _) ⟨xs,(if_pos h).trans (congrArg some hxs),?_⟩
 rw [hxe]
 refine Aj xs.length (λv=>v.2.1) (λi v=>v=((xs.take i).foldl max 0,(i:Int),())) rfl rfl ?_
 rintro i v K hi hii rfl hK
 dsimp only
 refine Br.dec (λhl=>?_) λhl=>?_
 ·have hl:i<xs.length:=by omega
  refine ⟨_,Aq hl,?_⟩
  rw [Ag (by omega)]
  refine hK hl _ rfl ?_
  rw [List.take_add_one,List.getElem?_eq_getElem hl,Option.toList_some,List.foldl_append,TF]
  rfl
 ·have:i=xs.length:=by omega
  subst this
  rw [List.take_length]
theorem AP:Sound Tryz.prog 48 fK:=
 Sound.Cg Bi (Ae xf Ai) mixed Tryz.func48 (by kernel_rfl) (by kernel_rfl) λx h=>YI x.1 x.2.1 h
end Go.Proofs.YtfolipnappekaaaGreat

namespace Go.Proofs.YtfolipnappekaaaGreat
open Go.RowKit
theorem km {p:PP} {s:List Int} (h:Jc p s=true):Bx p=true/\Pm p.1.toNat s/\Gn p.1.toNat (p.2.2.1.map some) s:=by
 unfold Jc at h
 rw [Bool.and_eq_true,Bool.and_eq_true] at h
 obtain ⟨⟨hv,hg⟩,hh⟩:=h
 have hV:=valid hv
 have hn:=hV.n
 have hp:=Abm hV hg
 exact ⟨hv,hp,(iF (by omega) (by omega) (aO (al hV).2.2) hp).1 hh⟩
theorem QP {p:PP} {s:List Int} (hv:Bx p=true) (h:Gn p.1.toNat (p.2.2.1.map some) s):Jc p s=true:=by
 have hV:=valid hv
 have hn:=hV.n
 have hp:=Yf.pm (pE hV) h
 unfold Jc
 rw [hv,Ae1 hV hp,show Ee (Ym p.1 p.2.2.1).2 p.1.toNat 0 s=true from (iF (by omega) (by omega) (aO (al hV).2.2) hp).2 h]
 rfl
theorem DR {p:PP} {t s:List Int} (hv:Bx p=true) (hs:Pm p.1.toNat s) (ht:Cz p t=true):Hz s.length t:=by
 have h1:=hs.1
 have hn:=(valid hv).n
 intro y hy
 have:=(Fe ht).2 y hy
 omega
theorem Abn {p:PP} {t:List Int} (hv:Bx p=true) (ht:Cz p t=true) (hw:(Gk p.2.2.1 t).2.2=true) {s:List Int} (hs:Gn p.1.toNat (p.2.2.1.map some) s):Cb s t∈iQ p t:=by
 have hV:=valid hv
 have hc:oO p.2.2.1 (Af p.2.2.1.length) (iQ p t):=ss hV (wR ht) (CV hv (Fe ht).1 (Fe ht).2 hw)
 induction hs with
 |id=>rw [ND (BG ht)];exact (NC ht).2
 |mul h hg ih=>
  have hp:Pm p.1.toNat _:=Yf.pm (pE hV) h
  obtain ⟨k,hk,rfl⟩:=List.mem_iff_getElem.1 (kB.1 hg)
  have:=hc.next _ ih _ (Pu hk).1
  rw [Pd hk] at this
  rw [dX (DR hv hp ht)]
  exact this
 |inv h hg ih=>
  have hp:Pm p.1.toNat _:=Yf.pm (pE hV) h
  obtain ⟨k,hk,rfl⟩:=List.mem_iff_getElem.1 (kB.1 hg)
  have:=hc.next _ ih _ (Pu hk).2
  rw [Pc hk] at this
  rw [dX (DR hv hp ht)]
  exact this
theorem FZ {p:PP} {ts:List TT} {s:List Int} (hr:Jc p s=true) (ht:De p ts=true):Zq ts s:=by
 obtain ⟨hv,hp,hg⟩:=km hr
 obtain ⟨_,_,Gc⟩:=eL ht
 have hn:=(valid hv).n
 refine ⟨by rw [hp.1];omega,λt pS=>?_⟩
 obtain ⟨_,h3,hw,e1,_⟩:=vf (Gc t pS)
 exact ⟨DR hv hp h3,by rw [e1];exact Abn hv h3 hw hg⟩
end Go.Proofs.YtfolipnappekaaaGreat

namespace Go.Proofs.YtfolipnappekaaaGreat
open Go.RowKit Go.Lib
structure Rem (w:World) (g o:Nat) (tid:TypeId) (cur:Array Value) (Fs:List (List Nat)) (ts:List TT) (j:Nat):Prop where
 Ma:w.heap[g]?=some (.cells cur tid (0,0))
 els: ∀(i:Nat) (t:TT) (F:List Nat),j<=i->ts[i]?=some t->Fs[i]?=some F-> ∃es:List Value,es.length=3/\(∀c u,es[c]?=some u->cur[(o+i)*3+c]?=some u)/\Ax w F Gz es t
theorem Ax.MC {w:World} {F:List Nat} {e:Ty} {cs:List Value} {x:List e.den} (h:Ax w F (.slice e) cs x):cs.length=1:=by
 simp only [Ax] at h
 obtain ⟨a,n,c,rfl,_⟩:=h
 rfl
theorem Rem.parts {w:World} {g o:Nat} {tid:TypeId} {cur:Array Value} {Fs:List (List Nat)} {ts:List TT} {j:Nat} (h:Rem w g o tid cur Fs ts j) (hl:Fs.length=ts.length) (hn:(g::List.flatten Fs).Nodup) (hj:j<ts.length):
  ∃u0 u1 u2 F0 F1 F2,w.cell? ⟨g,o*3+(j*3),none⟩=some u0/\w.cell? ⟨g,o*3+(j*3)+1,none⟩=some u1/\w.cell? ⟨g,o*3+(j*3)+2,none⟩=some u2/\Fs[j]?=some (F0++(F1++F2))/\(F0++(F1++F2)).Nodup/\g∉F0++(F1++F2)/\
   Ax w F0 tL [u0] ts[j].1/\Ax w F1 cU [u1] ts[j].2.1/\Ax w F2 tL [u2] ts[j].2.2.1:=by
 have hF:Fs[j]?=some (Fs[j]'(by omega)):=List.getElem?_eq_getElem (by omega)
 obtain ⟨es,e1,e2,e3⟩:=h.els j _ _ (Nat.le_refl j) (List.getElem?_eq_getElem hj) hF
 generalize Fs[j]'(by omega)=F at hF e3
 simp only [Ax] at e3
 obtain ⟨x0,y0,F0,G0,rfl,rfl,t0,x1,y1,F1,G1,rfl,rfl,t1,x2,y2,F2,G2,rfl,rfl,t2,rfl,rfl⟩:=e3
 have b0:=Ax.MC t0
 have b1:=Ax.MC t1
 have b2:=Ax.MC t2
 obtain ⟨u0,rfl⟩:=List.length_eq_one_iff.1 b0
 obtain ⟨u1,rfl⟩:=List.length_eq_one_iff.1 b1
 obtain ⟨u2,rfl⟩:=List.length_eq_one_iff.1 b2
 rw [List.append_nil] at hF
 have hnF:(F0++(F1++F2)).Nodup:=(List.nodup_cons.1 hn).2.sublist (by
  have:=Vf (List.singleton_sublist.2 (List.mem_of_getElem? hF))
  simpa using this)
 have cell: ∀c u,([u0]++([u1]++([u2]++ [])))[c]?=some u->w.cell? ⟨g,o*3+(j*3)+c,none⟩=some u:= λc u hc=>by
  rw [cellOf h.Ma,show o*3+j*3+c=(o+j)*3+c by rw [Nat.add_mul]]
  exact e2 c u hc
 exact ⟨u0,u1,u2,F0,F1,F2,cell 0 u0 rfl,cell 1 u1 rfl,cell 2 u2 rfl,hF,hnF,λhh=>(List.nodup_cons.1 hn).1 (List.mem_flatten.2 ⟨_,List.mem_of_getElem? hF,hh⟩),t0,t1,t2⟩
end Go.Proofs.YtfolipnappekaaaGreat
