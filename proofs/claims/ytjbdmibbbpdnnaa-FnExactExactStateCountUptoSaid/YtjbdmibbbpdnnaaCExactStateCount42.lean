/-
  Part 43 of the proof that the statement FnExactExactStateCount holds.
-/
import Derived.Test.YtjbdmibbbpdnnaaCExactStateCount41
namespace Go.Proofs.Ytjbdmibbbpdnnaa
open Go.RowKit
def ap (p:List Int) (i:Nat):Nat:=(Jd p (i:Int)).toNat
def Pm (n:Nat) (p:List Int):Prop:=p.length=n/\Wn p
theorem Pm.n1 {n:Nat} {p:List Int} (h:Pm n p):1<=n:=h.1▸h.2.pos
theorem Pm.n2 {n:Nat} {p:List Int} (h:Pm n p):n<=20:=h.1▸h.2.len
theorem Pm.Tr {n:Nat} {p:List Int} (h:Pm n p) {i:Nat} (hi:i<n):Jd p (i:Int)=(ap p i:Int)/\ap p i<n:=by
 have om:i<p.length:=by rw [h.1];exact hi
 have:=h.2.row _ (List.getElem_mem om)
 unfold ap
 rw [Hz om]
 have h1:=h.1
 omega
theorem Pm.lt {n:Nat} {p:List Int} (h:Pm n p) {i:Nat} (hi:i<n):ap p i<n:=(h.Tr hi).2
theorem Pm.ext {n:Nat} {p q:List Int} (h:Pm n p) (k:Pm n q) (e: ∀i,i<n->ap p i=ap q i):p=q:=by
 refine List.ext_getElem (by rw [h.1,k.1]) λi h1 h2=>?_
 have hi:i<n:=by rw [<-h.1];exact h1
 have a:=(h.Tr hi).1
 have b:=(k.Tr hi).1
 rw [Hz h1] at a
 rw [Hz h2] at b
 rw [a,b,e i hi]
theorem Pm.inj {n:Nat} {p:List Int} (h:Pm n p) {i j:Nat} (hi:i<n) (hj:j<n) (e:ap p i=ap p j):i=j:=
 h.2.inj i j (by rw [h.1];exact hi) (by rw [h.1];exact hj) e
theorem Pm.IU {n:Nat} {p:List Int} (h:Pm n p) {k:Nat} (hk:k<n): ∃i,i<n/\ap p i=k:=by
 obtain ⟨i,h1,h2⟩:=h.2.IU k (by rw [h.1];exact hk)
 exact ⟨i,by rw [<-h.1];exact h1,h2⟩
theorem Pm.of {n:Nat} {p:List Int} (hl:p.length=n) (h1:1<=n) (h2:n<=20) (f:Nat->Nat) (hf: ∀i,i<n->p[i]?=some (f i:Int)/\f i<n) (hi: ∀i j,i<n->j<n->f i=f j->i=j):Pm n p:=by
 refine ⟨hl,by omega,by omega,λy hy=>?_,?_⟩
 ·obtain ⟨i,hi,rfl⟩:=List.mem_iff_getElem.1 hy
  obtain ⟨h3,h4⟩:=hf i (by omega)
  rw [List.getElem?_eq_getElem hi] at h3
  rw [Option.some.inj h3]
  omega
 ·refine List.pairwise_iff_getElem.2 λi j h3 h4 h5 h6=>?_
  have a:=(hf i (by omega)).1
  have b:=(hf j (by omega)).1
  rw [List.getElem?_eq_getElem h3] at a
  rw [List.getElem?_eq_getElem h4] at b
  rw [Option.some.inj a,Option.some.inj b] at h6
  have:=hi i j (by omega) (by omega) (by omega)
  omega
theorem uv {n:Nat} {p q:List Int} (hp:Pm n p) (hq:Pm n q) {i:Nat} (hi:i<n):(Aa p q)[i]?=some (ap q (ap p i):Int):=by
 have h1:i<p.length:=by rw [hp.1];exact hi
 unfold Aa
 rw [List.getElem?_map,List.getElem?_eq_getElem h1]
 have a:=(hp.Tr hi).1
 rw [Hz h1] at a
 simp only [Option.map_some,a]
 rw [(hq.Tr (hp.Tr hi).2).1]
theorem Pm.comp {n:Nat} {p q:List Int} (hp:Pm n p) (hq:Pm n q):Pm n (Aa p q):=
 Pm.of (by rw [Nq,hp.1]) hp.n1 hp.n2 (λi=>ap q (ap p i)) (λi hi=>⟨uv hp hq hi,hq.lt (hp.lt hi)⟩) λi j hi hj e=>hp.inj hi hj (hq.inj (hp.lt hi) (hp.lt hj) e)
theorem GC {p:List Int} {i k:Nat} (h:p[i]?=some (k:Int)):ap p i=k:=by
 unfold ap Jd
 rw [Int.toNat_natCast,List.getD_eq_getElem?_getD,h]
 simp
theorem Ft {n:Nat} {p q:List Int} (hp:Pm n p) (hq:Pm n q) {i:Nat} (hi:i<n):ap (Aa p q) i=ap q (ap p i):=GC (uv hp hq hi)
theorem o6 {n i:Nat} (hi:i<n):(upto n)[i]?=some (i:Int):=by simp [upto,hi]
theorem dE {n i:Nat} (hi:i<n):ap (upto n) i=i:=GC (o6 hi)
theorem Pm.id {n:Nat} (h1:1<=n) (h2:n<=20):Pm n (upto n):=Pm.of (by simp [upto]) h1 h2 (λi=>i) (λi hi=>⟨o6 hi,hi⟩) λ_ _ _ _ e=>e
theorem AN {n:Nat} {p:List Int} (hp:Pm n p) {i:Nat} (hi:i<n):(Al p)[ap p i]?=some (i:Int):=HY hp.2 (by rw [hp.1];exact hi)
theorem cR {n:Nat} {p:List Int} (hp:Pm n p) {i:Nat} (hi:i<n):ap (Al p) (ap p i)=i:=GC (AN hp hi)
theorem rj {n:Nat} {p:List Int} (hp:Pm n p) {k:Nat} (hk:k<n):ap p (ap (Al p) k)=k:=by
 obtain ⟨i,hi,rfl⟩:=hp.IU hk
 rw [cR hp hi]
theorem Pm.inv {n:Nat} {p:List Int} (hp:Pm n p):Pm n (Al p):=by
 refine Pm.of (by rw [ll,hp.1]) hp.n1 hp.n2 (λk=>ap (Al p) k) (λk hk=>?_) λi j hi hj e=>?_
 ·obtain ⟨i,hi,rfl⟩:=hp.IU hk
  rw [cR hp hi]
  exact ⟨AN hp hi,hi⟩
 ·rw [<-rj hp hi,<-rj hp hj,e]
theorem Eb {n:Nat} {p q r:List Int} (hp:Pm n p) (hq:Pm n q) (hr:Pm n r):Aa (Aa p q) r=Aa p (Aa q r):=
 ((hp.comp hq).comp hr).ext (hp.comp (hq.comp hr)) λi hi=>by rw [Ft (hp.comp hq) hr hi,Ft hp hq hi,Ft hp (hq.comp hr) hi,Ft hq hr (hp.lt hi)]
theorem comp_id {n:Nat} {p:List Int} (hp:Pm n p):Aa p (upto n)=p:=
 (hp.comp (Pm.id hp.n1 hp.n2)).ext hp λi hi=>by rw [Ft hp (Pm.id hp.n1 hp.n2) hi,dE (hp.lt hi)]
theorem id_comp {n:Nat} {p:List Int} (hp:Pm n p):Aa (upto n) p=p:=
 ((Pm.id hp.n1 hp.n2).comp hp).ext hp λi hi=>by rw [Ft (Pm.id hp.n1 hp.n2) hp hi,dE hi]
theorem bw {n:Nat} {p:List Int} (hp:Pm n p):Aa p (Al p)=upto n:=
 (hp.comp hp.inv).ext (Pm.id hp.n1 hp.n2) λi hi=>by rw [Ft hp hp.inv hi,cR hp hi,dE hi]
theorem Ut {n:Nat} {p:List Int} (hp:Pm n p):Aa (Al p) p=upto n:=
 (hp.inv.comp hp).ext (Pm.id hp.n1 hp.n2) λi hi=>by rw [Ft hp.inv hp hi,rj hp hi,dE hi]
theorem mA {n:Nat} {p q:List Int} (hp:Pm n p) (hq:Pm n q) (h:Aa p q=upto n):Al p=q:=by
 rw [<-comp_id hp.inv,<-h,<-Eb hp.inv hp hq,Ut hp,id_comp hq]
theorem inv_mul {n:Nat} {p q:List Int} (hp:Pm n p) (hq:Pm n q):Al (Aa p q)=Aa (Al q) (Al p):=
 mA (hp.comp hq) (hq.inv.comp hp.inv) (by
  rw [Eb hp hq (hq.inv.comp hp.inv),<-Eb hq hq.inv hp.inv,bw hq,id_comp hp.inv,bw hp])
theorem inv_inv {n:Nat} {p:List Int} (hp:Pm n p):Al (Al p)=p:=mA hp.inv hp (Ut hp)
theorem HZ {n:Nat} (h1:1<=n) (h2:n<=20):Al (upto n)=upto n:=mA (Pm.id h1 h2) (Pm.id h1 h2) (comp_id (Pm.id h1 h2))
inductive Xc (n:Nat) (S:List Int->Prop):List Int->Prop where
 |id:Xc n S (upto n)
 |mul {p g:List Int} :Xc n S p->S g->Xc n S (Aa p g)
 |inv {p g:List Int} :Xc n S p->S g->Xc n S (Aa p (Al g))
def zG (n:Nat) (S:List Int->Prop):Prop:=(1<=n/\n<=20)/\ ∀g,S g->Pm n g
theorem Xc.pm {n:Nat} {S:List Int->Prop} (hS:zG n S) {p:List Int} (h:Xc n S p):Pm n p:=by
 induction h with
 |id=>exact Pm.id hS.1.1 hS.1.2
 |mul _ hg ih=>exact ih.comp (hS.2 _ hg)
 |inv _ hg ih=>exact ih.comp (hS.2 _ hg).inv
theorem Xc.comp {n:Nat} {S:List Int->Prop} (hS:zG n S) {p q:List Int} (hp:Xc n S p) (hq:Xc n S q):Xc n S (Aa p q):=by
 induction hq with
 |id=>rw [comp_id (hp.pm hS)];exact hp
 |mul hq hg ih=>rw [<-Eb (hp.pm hS) (hq.pm hS) (hS.2 _ hg)];exact .mul ih hg
 |inv hq hg ih=>rw [<-Eb (hp.pm hS) (hq.pm hS) (hS.2 _ hg).inv];exact .inv ih hg
theorem Xc.one {n:Nat} {S:List Int->Prop} (hS:zG n S) {g:List Int} (hg:S g):Xc n S g:=by
 have:=Xc.mul (n:=n) (S:=S) .id hg
 rwa [id_comp (hS.2 g hg)] at this
theorem Xc.SW {n:Nat} {S:List Int->Prop} (hS:zG n S) {g:List Int} (hg:S g):Xc n S (Al g):=by
 have:=Xc.inv (n:=n) (S:=S) .id hg
 rwa [id_comp (hS.2 g hg).inv] at this
theorem Xc.s5 {n:Nat} {S:List Int->Prop} (hS:zG n S) {p:List Int} (hp:Xc n S p):Xc n S (Al p):=by
 induction hp with
 |id=>rw [HZ hS.1.1 hS.1.2];exact .id
 |mul hq hg ih=>rw [inv_mul (hq.pm hS) (hS.2 _ hg)];exact (Xc.SW hS hg).comp hS ih
 |inv hq hg ih=>rw [inv_mul (hq.pm hS) (hS.2 _ hg).inv,inv_inv (hS.2 _ hg)];exact (Xc.one hS hg).comp hS ih
theorem Xc.trans {n:Nat} {S S':List Int->Prop} (VX:zG n S') (h: ∀g,S g->Xc n S' g) {p:List Int} (hp:Xc n S p):Xc n S' p:=by
 induction hp with
 |id=>exact .id
 |mul _ hg ih=>exact ih.comp VX (h _ hg)
 |inv _ hg ih=>exact ih.comp VX ((h _ hg).s5 VX)
abbrev PO:=Option (List Int)
abbrev Row:=List PO
abbrev Cx:=List Row
def Ht (row:Row):List Int:=(upto row.length).filter λy=>(row.getD y.toNat none).isSome
def Is (T:Cx):Nat->Nat->List Int->Bool
 |0,_,_=>true
 |k+1,i,p=>match (T.getD i []).getD (Jd p (i:Int)).toNat none with
  |none=>false
  |some t=>Is T k (i+1) (Aa p (Al t))
def Li (row:Row):Nat:=row.countP (·.isNone)
def Tb (x:Int) (s:Row×List Int) (o:PO):Row×List Int:=
 match s.1.getD (Jd (o.getD []) x).toNat none with
 |some _=>s
 |none=>(s.1.set (Jd (o.getD []) x).toNat (some (Aa ((s.1.getD x.toNat none).getD []) (o.getD []))),s.2++ [Jd (o.getD []) x])
def Sr (x:Int) (gs:List PO) (s:Row×List Int):Row×List Int:=gs.foldl (Tb x) s
def Sj (gs:List PO):Nat->List Int->Row->Row
 |0,_,row=>row
 |_+1,[],row=>row
 |f+1,x::q,row=>Sj gs f (Sr x gs (row,q)).2 (Sr x gs (row,q)).1
def Rf (gs:List PO) (row:Row):Row:=Sj gs 100 (Ht row) row
def Mv (row:Row) (y:Int) (g:PO):List Int:=
 Aa (Aa ((row.getD y.toNat none).getD []) (g.getD [])) (Al ((row.getD (Jd (g.getD []) y).toNat none).getD []))
def aH (row:Row) (gs:List PO):List (List Int):=(Ht row).flatMap λy=>gs.map λg=>Mv row y g
def Dq:Nat->Nat->List Int->Cx×Cx->Cx×Cx
 |0,_,_,s=>s
 |k+1,l,p,s=>
  if Is s.2 (k+1) l p=true then s else
   (aH (Rf (s.1.getD l []++ [some p]) (s.2.getD l [])) (s.1.getD l []++ [some p])).foldl (λs q=>Dq k (l+1) q s)
    (s.1.set l (s.1.getD l []++ [some p]),s.2.set l (Rf (s.1.getD l []++ [some p]) (s.2.getD l [])))
def Fx (l:Nat) (p:List Int):Prop:= ∀i,i<l->ap p i=i
def Gn (n:Nat) (gs:List PO):List Int->Prop:=Xc n λg=>some g∈gs
structure LH (n l:Nat) (gs:List PO) (row:Row) (H:List Int->Prop):Prop where
 pg: ∀o∈gs,∃g,o=some g/\Pm n g/\Fx l g
 rl:row.length=n
 r0:row.getD l none=some (upto n)
 rt: ∀y t,row.getD y none=some t->Pm n t/\Fx l t/\ap t l=y/\Gn n gs t
 cl: ∀y t g,row.getD y none=some t->some g∈gs->row.getD (ap g y) none≠none
 sg: ∀y t g t',row.getD y none=some t->some g∈gs->row.getD (ap g y) none=some t'->H (Aa (Aa t g) (Al t'))
def eC (n:Nat):Nat->Nat->Cx×Cx->Prop
 |0,l,s=>s.1.getD l []= []
 |k+1,l,s=>eC n k (l+1) s/\LH n l (s.1.getD l []) (s.2.getD l []) (λq=>Is s.2 k (l+1) q=true)/\ ∀g,some g∈s.1.getD (l+1) []->Gn n (s.1.getD l []) g
theorem NM {l1 l2:List Nat} (hn:l1.Nodup) (hs: ∀x∈l1,x∈l2) (hl:l2.length<=l1.length): ∀x∈l2,x∈l1:=by
 induction l1 generalizing l2 with
 |nil=>
  intro x hx
  have:l2= []:=List.eq_nil_of_length_eq_zero (by simpa using hl)
  rw [this] at hx;cases hx
 |cons a l ih=>
  intro x hx
  obtain ⟨h1,h2⟩:=List.nodup_cons.1 hn
  have ha:=hs a (by simp)
  by_cases e:x=a
  ·subst e;simp
  ·refine List.mem_cons_of_mem _ (ih (l2:=l2.erase a) h2 (λy hy=>?_) ?_ x ((List.mem_erase_of_ne e).2 hx))
   ·have hya:y≠a:= λe'=>h1 (by rw [<-e'];exact hy)
    exact (List.mem_erase_of_ne hya).2 (hs y (by simp [hy]))
   ·rw [List.length_erase_of_mem ha]
    simp only [List.length_cons] at hl
    omega
theorem yz {n:Nat} {g:List Int} (hg:Pm n g) (D:Nat->Bool) (h: ∀y,y<n->D y=true->D (ap g y)=true) {y:Nat} (hy:y<n) (hD:D y=true): ∃x,x<n/\D x=true/\ap g x=y:=by
 have:=NM (l1:=((List.range n).filter D).map (ap g)) (l2:=(List.range n).filter D) ?_ ?_ (by simp) y (List.mem_filter.2 ⟨List.mem_range.2 hy,hD⟩)
 ·obtain ⟨x,hx,e⟩:=List.mem_map.1 this
  obtain ⟨h1,h2⟩:=List.mem_filter.1 hx
  exact ⟨x,List.mem_range.1 h1,h2,e⟩
 ·refine List.pairwise_map.2 (List.Pairwise.imp_of_mem ?_ (List.nodup_range.filter D))
  intro a b ha hb Fe e
  exact Fe (hg.inj (List.mem_range.1 (List.mem_filter.1 ha).1) (List.mem_range.1 (List.mem_filter.1 hb).1) e)
 ·intro x hx
  obtain ⟨z,hz,rfl⟩:=List.mem_map.1 hx
  obtain ⟨h1,h2⟩:=List.mem_filter.1 hz
  exact List.mem_filter.2 ⟨List.mem_range.2 (hg.lt (List.mem_range.1 h1)),h z (List.mem_range.1 h1) h2⟩
theorem lf {row:Row} {y:Nat} {t:List Int} (h:row.getD y none=some t):y<row.length:=by
 rw [List.getD_eq_getElem?_getD] at h
 refine Classical.byContradiction λhn=>?_
 rw [List.getElem?_eq_none (by omega)] at h
 cases h
theorem LH.pms {n l:Nat} {gs:List PO} {row:Row} {H:List Int->Prop} (h:LH n l gs row H):zG n λg=>some g∈gs:=by
 refine ⟨?_,λg hg=>?_⟩
 ·have:=(h.rt l _ h.r0).1
  exact ⟨this.n1,this.n2⟩
 ·obtain ⟨g',e,h1,_⟩:=h.pg _ hg
  cases e;exact h1
theorem Fx.inv {n l:Nat} {p:List Int} (hp:Pm n p) (h:Fx l p) (hl:l<=n):Fx l (Al p):= λi hi=>by
 have:=cR hp (i:=i) (by omega)
 rwa [h i hi] at this
theorem Fx.comp {n l:Nat} {p q:List Int} (hp:Pm n p) (hq:Pm n q) (h1:Fx l p) (h2:Fx l q) (hl:l<=n):Fx l (Aa p q):= λi hi=>by
 rw [Ft hp hq (by omega),h1 i hi,h2 i hi]
theorem Fx.all {n:Nat} {p:List Int} (hp:Pm n p) (h:Fx n p):p=upto n:=hp.ext (Pm.id hp.n1 hp.n2) λi hi=>by rw [h i hi,dE hi]
theorem Fx.div {n l:Nat} {p t:List Int} (hp:Pm n p) (ht:Pm n t) (h1:Fx l p) (h2:Fx l t) (hl:l<n) (e:ap t l=ap p l):Fx (l+1) (Aa p (Al t)):= λi hi=>by
 rw [Ft hp ht.inv (by omega)]
 by_cases hil:i<l
 ·rw [h1 i hil];exact h2.inv ht (by omega) i hil
 ·have:i=l:=by omega
  subst this
  rw [<-e,cR ht hl]
theorem gk {n:Nat} (h1:1<=n) (h2:n<=20): ∀(k l:Nat) (s:Cx×Cx),l+k=n->eC n k l s-> ∀p,Pm n p->Fx l p->(Is s.2 k l p=true↔Gn n (s.1.getD l []) p)
 |0,l,s,hk,hc,p,hp,hf=>by
  have hl:l=n:=by omega
  subst hl
  rw [hf.all hp]
  exact ⟨λ_=> .id,λ_=>rfl⟩
 |k+1,l,s,hk,hc,p,hp,hf=>by
  obtain ⟨c1,c2,c3⟩:=hc
  have hS:=c2.pms
  have ih:=gk h1 h2 k (l+1) s (by omega) c1
  have hS1:zG n λg=>some g∈s.1.getD (l+1) []:=⟨⟨h1,h2⟩,λg hg=>(c3 g hg).pm hS⟩
  have aB:l<n:=by omega
  constructor
  ·intro h
   simp only [Is] at h
   rw [show (Jd p (l:Int)).toNat=ap p l from rfl] at h
   split at h
   ·cases h
   ·rename_i t ht
    obtain ⟨t1,t2,t3,t4⟩:=c2.rt _ _ ht
    have OX:=Fx.div hp t1 hf t2 aB t3
    have hg:=((ih _ (hp.comp t1.inv) OX).1 h).trans hS c3
    have:=Xc.comp hS hg t4
    rwa [Eb hp t1.inv t1,Ut t1,comp_id hp] at this
  ·intro h
   have key: ∀q,Gn n (s.1.getD l []) q-> ∃t,(s.2.getD l []).getD (ap q l) none=some t/\Gn n (s.1.getD (l+1) []) (Aa q (Al t)):=by
    intro q hq
    induction hq with
    |id=>
     refine ⟨upto n,by rw [dE aB];exact c2.r0,?_⟩
     rw [HZ h1 h2,comp_id (Pm.id h1 h2)]
     exact .id
    | @mul q g hq hg ihq=>
     obtain ⟨t,e1,e2⟩:=ihq
     have PQ:=Xc.pm hS hq
     have Ps:=hS.2 _ hg
     obtain ⟨t1,t2,t3,t4⟩:=c2.rt _ _ e1
     cases e3:(s.2.getD l []).getD (ap g (ap q l)) none with
     |none=>exact absurd e3 (c2.cl _ _ _ e1 hg)
     |some t'=>
      obtain ⟨u1,u2,u3,u4⟩:=c2.rt _ _ e3
      have hsg:=c2.sg _ _ _ _ e1 hg e3
      have hfg:Fx (l+1) (Aa (Aa t g) (Al t')):=Fx.div (t1.comp Ps) u1 (Fx.comp t1 Ps t2 (by obtain ⟨g',e,_,h⟩:=c2.pg _ hg;cases e;exact h) (by omega)) u2 aB (by rw [u3,Ft t1 Ps aB,t3])
      have RJ:=(ih _ ((t1.comp Ps).comp u1.inv) hfg).1 hsg
      refine ⟨t',by rw [Ft PQ Ps aB];exact e3,?_⟩
      have:=Xc.comp hS1 e2 RJ
      rwa [show Aa (Aa q (Al t)) (Aa (Aa t g) (Al t'))=Aa (Aa q g) (Al t') by
       rw [Eb PQ t1.inv ((t1.comp Ps).comp u1.inv),Eb t1 Ps u1.inv,<-Eb t1.inv t1 (Ps.comp u1.inv),Ut t1,id_comp (Ps.comp u1.inv),Eb PQ Ps u1.inv]] at this
    | @inv q g hq hg ihq=>
     obtain ⟨t,e1,e2⟩:=ihq
     have PQ:=Xc.pm hS hq
     have Ps:=hS.2 _ hg
     obtain ⟨t1,t2,t3,t4⟩:=c2.rt _ _ e1
     have hy:ap q l<n:=PQ.lt aB
     obtain ⟨x,hx,hD,he⟩:=yz Ps (λy=>((s.2.getD l []).getD y none).isSome) (λy hy hd=>by
      obtain ⟨t0,XU⟩:=Option.isSome_iff_exists.1 hd
      exact Option.ne_none_iff_isSome.1 (c2.cl _ _ _ XU hg)) hy (by rw [e1];rfl)
     obtain ⟨t',e3⟩:=Option.isSome_iff_exists.1 hD
     obtain ⟨u1,u2,u3,u4⟩:=c2.rt _ _ e3
     have hsg:=c2.sg _ _ _ _ e3 hg (by rw [he];exact e1)
     have hfg:Fx (l+1) (Aa (Aa t' g) (Al t)):=Fx.div (u1.comp Ps) t1 (Fx.comp u1 Ps u2 (by obtain ⟨g',e,_,h⟩:=c2.pg _ hg;cases e;exact h) (by omega)) t2 aB (by rw [t3,Ft u1 Ps aB,u3,he])
     have RJ:=Xc.s5 hS1 ((ih _ ((u1.comp Ps).comp t1.inv) hfg).1 hsg)
     have hax:ap (Al g) (ap q l)=x:=by rw [<-he,cR Ps hx]
     refine ⟨t',by rw [Ft PQ Ps.inv aB,hax];exact e3,?_⟩
     have:=Xc.comp hS1 e2 RJ
     rwa [show Aa (Aa q (Al t)) (Al (Aa (Aa t' g) (Al t)))=Aa (Aa q (Al g)) (Al t') by
      rw [inv_mul (u1.comp Ps) t1.inv,inv_inv t1,inv_mul u1 Ps,Eb PQ t1.inv (t1.comp (Ps.inv.comp u1.inv)),<-Eb t1.inv t1 (Ps.inv.comp u1.inv),Ut t1,id_comp (Ps.inv.comp u1.inv),Eb PQ Ps.inv u1.inv]] at this
   obtain ⟨t,e1,e2⟩:=key p h
   obtain ⟨t1,t2,t3,t4⟩:=c2.rt _ _ e1
   simp only [Is]
   rw [show (Jd p (l:Int)).toNat=ap p l from rfl,e1]
   exact (ih _ (hp.comp t1.inv) (Fx.div hp t1 hf t2 aB t3)).2 e2
end Go.Proofs.Ytjbdmibbbpdnnaa

namespace Go.Proofs.Ytjbdmibbbpdnnaa
open Go.RowKit
theorem Qf {α:Type} (xs:List α) (i j:Nat) (x d:α):(xs.set i x).getD j d=if i=j/\i<xs.length then x else xs.getD j d:=by
 rw [List.getD_eq_getElem?_getD,List.getElem?_set,List.getD_eq_getElem?_getD]
 by_cases e:i=j
 ·subst e
  by_cases h:i<xs.length
  ·rw [if_pos rfl,if_pos h,if_pos ⟨rfl,h⟩];rfl
  ·rw [if_pos rfl,if_neg h,if_neg (λhh=>h hh.2),List.getElem?_eq_none (by omega)]
 ·rw [if_neg e,if_neg (λhh=>e hh.1)]
theorem Xc.mono {n:Nat} {S S':List Int->Prop} (h: ∀g,S g->S' g) {p:List Int} (hp:Xc n S p):Xc n S' p:=by
 induction hp with
 |id=>exact .id
 |mul _ hg ih=>exact .mul ih (h _ hg)
 |inv _ hg ih=>exact .inv ih (h _ hg)
structure Ri (n l:Nat) (gs:List PO) (row:Row):Prop where
 rl:row.length=n
 r0:row.getD l none=some (upto n)
 rt: ∀y t,row.getD y none=some t->Pm n t/\Fx l t/\ap t l=y/\Gn n gs t
def PG (n l:Nat) (gs:List PO):Prop:= ∀o∈gs,∃g,o=some g/\Pm n g/\Fx l g
structure Ext (n l:Nat) (gs:List PO) (row:Row) (q:List Int) (s':Row×List Int):Prop where
 ok:Ri n l gs s'.1
 mono: ∀y t,row.getD y none=some t->s'.1.getD y none=some t
 VC:s'.2.length+Li s'.1=q.length+Li row
 ou: ∀y∈q,y∈s'.2
 new: ∀y∈s'.2,y∈q\/ ∃yn:Nat,y=yn/\s'.1.getD yn none≠none
 src: ∀y:Nat,s'.1.getD y none≠none->row.getD y none≠none\/(y:Int)∈s'.2
theorem Ext.refl {n l:Nat} {gs:List PO} {row:Row} {q:List Int} (h:Ri n l gs row):Ext n l gs row q (row,q):=⟨h,λ_ _ h=>h,rfl,λ_ h=>h,λ_ h=> .inl h,λ_ h=> .inl h⟩
theorem Zq {a b:Row} (h: ∀y t,a.getD y none=some t->b.getD y none=some t) {y:Nat} (hy:a.getD y none≠none):b.getD y none≠none:=by
 cases e:a.getD y none with
 |none=>exact absurd e hy
 |some t=>rw [h y t e];simp
theorem Ext.trans {n l:Nat} {gs:List PO} {row:Row} {q:List Int} {s1 s2:Row×List Int} (h:Ext n l gs row q s1) (k:Ext n l gs s1.1 s1.2 s2):Ext n l gs row q s2:=by
 refine ⟨k.ok,λy t e=>k.mono y t (h.mono y t e),k.VC.trans h.VC,λy hy=>k.ou y (h.ou y hy),λy hy=>?_,λy hy=>?_⟩
 ·rcases k.new y hy with h1|h1
  ·rcases h.new y h1 with h2|⟨yn,h2,h3⟩
   ·exact .inl h2
   ·exact .inr ⟨yn,h2,Zq k.mono h3⟩
  ·exact .inr h1
 ·rcases k.src y hy with h1|h1
  ·exact (h.src y h1).imp id λh2=>k.ou _ h2
  ·exact .inr h1
theorem CS {row:Row} {i:Nat} {t:List Int} (h:row.getD i none=none) (hi:i<row.length):Li (row.set i (some t))+1=Li row:=by
 unfold Li
 have e:row[i]=none:=by
  rw [List.getD_eq_getElem?_getD,List.getElem?_eq_getElem hi] at h
  exact h
 have h1:=List.countP_set (p:= λo:PO=>o.isNone) (l:=row) (i:=i) (a:=some t) hi
 have xT:0<row.countP (·.isNone):=List.countP_pos_iff.2 ⟨row[i],List.getElem_mem hi,by rw [e];rfl⟩
 rw [h1,e]
 simp
 omega
theorem NL {n l:Nat} {gs:List PO} (aB:l<n) (hg:PG n l gs) {row:Row} {q:List Int} (h:Ri n l gs row) {x:Nat} {t:List Int} (hx:row.getD x none=some t) {g:List Int} (ho:some g∈gs):
  Ext n l gs row q (Tb (x:Int) (row,q) (some g))/\(Tb (x:Int) (row,q) (some g)).1.getD (ap g x) none≠none:=by
 obtain ⟨g',e,Ps,RI⟩:=hg _ ho
 cases e
 obtain ⟨t1,t2,t3,t4⟩:=h.rt _ _ hx
 have LC:x<n:=by rw [<-h.rl];exact lf hx
 obtain ⟨a1,a2⟩:=Ps.Tr LC
 unfold Tb
 simp only [Option.getD_some,a1,Int.toNat_natCast]
 cases e:row.getD (ap g x) none with
 |some u=>exact ⟨Ext.refl h,by simp only;rw [e];simp⟩
 |none=>
  simp only [hx,Option.getD_some]
  have hl:ap g x<row.length:=by rw [h.rl];exact a2
  have hS:zG n λg=>some g∈gs:=⟨⟨t1.n1,t1.n2⟩,λg Yq=>by obtain ⟨g',e,h1,_⟩:=hg _ Yq;cases e;exact h1⟩
  have Ad: ∀y,(row.set (ap g x) (some (Aa t g))).getD y none=if ap g x=y/\ap g x<row.length then some (Aa t g) else row.getD y none:= λy=>Qf _ _ _ _ _
  have Fe: ∀y u,row.getD y none=some u->ap g x≠y:= λy u hu e'=>by rw [<-e',e] at hu;cases hu
  refine ⟨⟨⟨by simp [h.rl],?_,λy u hu=>?_⟩,λy u hu=>?_,?_,λy hy=>List.mem_append_left _ hy,λy hy=>?_,λy hy=>?_⟩,?_⟩
  ·rw [Ad,if_neg (λhh=>Fe l _ h.r0 hh.1)];exact h.r0
  ·rw [Ad] at hu
   split at hu
   ·rename_i hc
    cases hu
    exact ⟨t1.comp Ps,Fx.comp t1 Ps t2 RI (by omega),by rw [Ft t1 Ps aB,t3];exact hc.1, .mul t4 ho⟩
   ·exact h.rt y u hu
  ·show (row.set (ap g x) (some (Aa t g))).getD y none=some u
   rw [Ad,if_neg (λhh=>Fe y u hu hh.1)];exact hu
  ·have:=CS (t:=Aa t g) e hl
   simp only [List.length_append,List.length_cons,List.length_nil]
   omega
  ·rcases List.mem_append.1 hy with hy|hy
   ·exact .inl hy
   ·simp only [List.mem_singleton] at hy
    exact .inr ⟨ap g x,hy,by show (row.set (ap g x) (some (Aa t g))).getD (ap g x) none≠none;rw [Ad,if_pos ⟨rfl,hl⟩];simp⟩
  ·have hy:(row.set (ap g x) (some (Aa t g))).getD y none≠none:=hy
   rw [Ad] at hy
   split at hy
   ·rename_i hc
    exact .inr (by show (y:Int)∈q++ [(ap g x:Int)];rw [<-hc.1];simp)
   ·exact .inl hy
  ·show (row.set (ap g x) (some (Aa t g))).getD (ap g x) none≠none
   rw [Ad,if_pos ⟨rfl,hl⟩];simp
theorem JF {n l:Nat} {gs:List PO} (aB:l<n) (hg:PG n l gs): ∀(OL:List PO) {row:Row} {q:List Int},(∀o∈OL,o∈gs)->Ri n l gs row-> ∀ {x:Nat} {t:List Int},row.getD x none=some t->
  Ext n l gs row q (Sr (x:Int) OL (row,q))/\ ∀g,some g∈OL->(Sr (x:Int) OL (row,q)).1.getD (ap g x) none≠none
 | [],row,q,_,h,x,t,hx=>⟨Ext.refl h,λg hg=>by cases hg⟩
 |o::OL,row,q,hs,h,x,t,hx=>by
  obtain ⟨g,rfl,_,_⟩:=hg o (hs o (by simp))
  obtain ⟨e1,e2⟩:=NL (q:=q) aB hg h hx (hs (some g) (by simp))
  obtain ⟨f1,f2⟩:=JF aB hg OL (q:=(Tb (x:Int) (row,q) (some g)).2) (λo ho=>hs o (by simp [ho])) e1.ok (e1.mono x t hx)
  have hb:Sr (x:Int) (some g::OL) (row,q)=Sr (x:Int) OL ((Tb (x:Int) (row,q) (some g)).1,(Tb (x:Int) (row,q) (some g)).2):=rfl
  rw [hb]
  refine ⟨e1.trans f1,λg' Yq=>?_⟩
  rcases List.mem_cons.1 Yq with e|Yq
  ·cases e;exact Zq f1.mono e2
  ·exact f2 g' Yq
def BG (gs:List PO) (q:List Int) (row:Row):Prop:=
 (∀y∈q,∃yn:Nat,y=yn/\row.getD yn none≠none)/\ ∀y:Nat,row.getD y none≠none->(y:Int)∈q\/ ∀g,some g∈gs->row.getD (ap g y) none≠none
theorem yN {n l:Nat} {gs:List PO} (aB:l<n) (hg:PG n l gs) {x:Int} {q:List Int} {row:Row} (h:Ri n l gs row) (hq:BG gs (x::q) row):
  Ext n l gs row q (Sr x gs (row,q))/\BG gs (Sr x gs (row,q)).2 (Sr x gs (row,q)).1/\ ∃(xn:Nat) (t:List Int),x=xn/\row.getD xn none=some t:=by
 obtain ⟨xn,rfl,hx⟩:=hq.1 x (by simp)
 cases e:row.getD xn none with
 |none=>exact absurd e hx
 |some t=>
  obtain ⟨e1,e2⟩:=JF aB hg gs (q:=q) (λo ho=>ho) h e
  refine ⟨e1,⟨λy hy=>?_,λy hy=>?_⟩,xn,t,rfl,e⟩
  ·rcases e1.new y hy with h1|h1
   ·obtain ⟨yn,h2,h3⟩:=hq.1 y (by simp [h1])
    exact ⟨yn,h2,Zq e1.mono h3⟩
   ·exact h1
  ·rcases e1.src y hy with h1|h1
   ·rcases hq.2 y h1 with h2|h2
    ·rcases List.mem_cons.1 h2 with h2|h2
     ·have:y=xn:=by omega
      subst this
      exact .inr λg Yq=>e2 g Yq
     ·exact .inl (e1.ou _ h2)
    ·exact .inr λg Yq=>Zq e1.mono (h2 g Yq)
   ·exact .inl h1
theorem JK {n l:Nat} {gs:List PO} (aB:l<n) (hg:PG n l gs): ∀(f:Nat) (q:List Int) (row:Row),q.length+Li row<=f->Ri n l gs row->BG gs q row->
  Ri n l gs (Sj gs f q row)/\(∀y t,row.getD y none=some t->(Sj gs f q row).getD y none=some t)/\ ∀y t g,(Sj gs f q row).getD y none=some t->some g∈gs->(Sj gs f q row).getD (ap g y) none≠none
 |0,q,row,hf,h,hq=>by
  have:q= []:=List.eq_nil_of_length_eq_zero (by omega)
  subst this
  exact ⟨h,λ_ _ h=>h,λy t g e Yq=>by
   rcases hq.2 y (by rw [show row.getD y none=some t from e];simp) with h1|h1
   ·cases h1
   ·exact h1 g Yq⟩
 |f+1,[],row,hf,h,hq=>⟨h,λ_ _ h=>h,λy t g e Yq=>by
   rcases hq.2 y (by rw [show row.getD y none=some t from e];simp) with h1|h1
   ·cases h1
   ·exact h1 g Yq⟩
 |f+1,x::q,row,hf,h,hq=>by
  obtain ⟨e1,e2,_⟩:=yN aB hg h hq
  obtain ⟨r1,r2,r3⟩:=JK aB hg f _ _ (by have:=e1.VC;simp only [List.length_cons] at hf;omega) e1.ok e2
  exact ⟨r1,λy t e=>r2 y t (e1.mono y t e),r3⟩
theorem My {row:Row} {y:Int} :y∈Ht row↔ ∃yn:Nat,y=yn/\row.getD yn none≠none:=by
 unfold Ht
 rw [List.mem_filter,Ig]
 constructor
 ·rintro ⟨h1,h2⟩
  exact ⟨y.toNat,by omega,Option.ne_none_iff_isSome.2 h2⟩
 ·rintro ⟨yn,rfl,h⟩
  obtain ⟨t,ht⟩:=Option.ne_none_iff_exists'.1 h
  exact ⟨by have:=lf ht;omega,by simpa using Option.ne_none_iff_isSome.1 h⟩
theorem sr (row:Row):(Ht row).length<=row.length:=by
 unfold Ht
 refine Nat.le_trans (List.length_filter_le _ _) (by simp [upto])
theorem vS (row:Row):Li row<=row.length:=List.countP_le_length
theorem vX {n l:Nat} {gs:List PO} (aB:l<n) (h2:n<=20) (hg:PG n l gs) {row:Row} (h:Ri n l gs row):
  Ri n l gs (Rf gs row)/\(∀y t,row.getD y none=some t->(Rf gs row).getD y none=some t)/\ ∀y t g,(Rf gs row).getD y none=some t->some g∈gs->(Rf gs row).getD (ap g y) none≠none:=
 JK aB hg 100 _ _ (by have:=sr row;have:=vS row;have:=h.rl;omega) h ⟨λy hy=>My.1 hy,λy hy=> .inl (My.2 ⟨y,rfl,hy⟩)⟩
theorem uj {n l:Nat} {gs:List PO} (aB:l<n) (hg:PG n l gs): ∀(f:Nat) (q:List Int) (row:Row),q.length+Li row<=f->Ri n l gs row->BG gs q row->Sj gs f q row=Sj gs (q.length+Li row) q row
 |0,q,row,hf,_,_=>by
  have:q.length+Li row=0:=by omega
  rw [this]
 |f+1,[],row,hf,_,_=>by
  cases h:([]:List Int).length+Li row with
  |zero=>rfl
  |succ m=>rfl
 |f+1,x::q,row,hf,h,hq=>by
  obtain ⟨e1,e2,_⟩:=yN aB hg h hq
  have MI:=e1.VC
  have:(x::q).length+Li row=(q.length+Li row)+1:=by simp only [List.length_cons];omega
  rw [this]
  simp only [Sj]
  rw [uj aB hg f _ _ (by simp only [List.length_cons] at hf;omega) e1.ok e2,MI]
def uu (row:Row):Nat:=row.countP (·.isSome)
theorem pU: ∀(a b:Row),a.length=b.length->(∀y t,a.getD y none=some t->b.getD y none=some t)->uu a<=uu b/\(uu a=uu b->a=b)
 | [],[],_,_=>⟨Nat.le_refl _,λ_=>rfl⟩
 | [],_::_,h,_=>by simp at h
 |_::_,[],h,_=>by simp at h
 |x::a,y::b,h,hm=>by
  obtain ⟨h1,h2⟩:=pU a b (by simpa using h) λi t e=>by simpa using hm (i+1) t (by simpa using e)
  unfold uu at h1 h2⊢
  cases x with
  |none=>
   cases y with
   |none=>simp only [List.countP_cons];exact ⟨by simpa using h1,λe=>by rw [h2 (by simpa using e)]⟩
   |some u=>
    simp only [List.countP_cons,Option.isSome_none,Option.isSome_some]
    simp only [if_true,Bool.false_eq_true,if_false]
    exact ⟨by omega,λe=>by omega⟩
  |some t=>
   have:=hm 0 t (by simp)
   simp only [List.getD_cons_zero] at this
   subst this
   simp only [List.countP_cons]
   exact ⟨by simpa using h1,λe=>by rw [h2 (by simpa using e)]⟩
def fj (T:Cx):Nat->Nat->Nat
 |0,_=>0
 |k+1,l=>uu (T.getD l [])+fj T k (l+1)
def VH:Nat->Nat->Cx×Cx->Prop
 |0,_,_=>True
 |k+1,l,s=>VH k (l+1) s/\(s.1.getD l []).length<=fj s.2 (k+1) l
structure Wm (l0:Nat) (s s':Cx×Cx):Prop where
 YL:s'.1.length=s.1.length
 mF:s'.2.length=s.2.length
 low: ∀i,i<l0->s'.1.getD i []=s.1.getD i []/\s'.2.getD i []=s.2.getD i []
 zW: ∀i o,o∈s.1.getD i []->o∈s'.1.getD i []
 KF: ∀i y t,(s.2.getD i []).getD y none=some t->(s'.2.getD i []).getD y none=some t
 TM: ∀i,(s'.2.getD i []).length=(s.2.getD i []).length
theorem Wm.refl (l0:Nat) (s:Cx×Cx):Wm l0 s s:=⟨rfl,rfl,λ_ _=>⟨rfl,rfl⟩,λ_ _ h=>h,λ_ _ _ h=>h,λ_=>rfl⟩
theorem Wm.trans {l0 l1:Nat} {a b c:Cx×Cx} (h:Wm l0 a b) (k:Wm l1 b c) (hl:l0<=l1):Wm l0 a c:=
 ⟨k.YL.trans h.YL,k.mF.trans h.mF,λi hi=>⟨(k.low i (by omega)).1.trans (h.low i hi).1,(k.low i (by omega)).2.trans (h.low i hi).2⟩,λi o ho=>k.zW i o (h.zW i o ho),λi y t e=>k.KF i y t (h.KF i y t e),λi=>(k.TM i).trans (h.TM i)⟩
theorem Wm.Eu {l0 l1:Nat} {a b:Cx×Cx} (h:Wm l1 a b) (hl:l0<=l1):Wm l0 a b:=(Wm.refl l0 a).trans h hl
theorem bN {T T':Cx} : ∀(k l:Nat) (p:List Int),(∀i,l<=i->i<l+k->T'.getD i []=T.getD i [])->Is T' k l p=Is T k l p
 |0,_,_,_=>rfl
 |k+1,l,p,h=>by
  simp only [Is]
  rw [h l (Nat.le_refl _) (by omega)]
  split
  ·rfl
  ·exact bN k (l+1) _ λi h1 h2=>h i (by omega) (by omega)
theorem eM {n:Nat} {s s':Cx×Cx} : ∀(k l:Nat),(∀i,l<=i->s'.1.getD i []=s.1.getD i []/\s'.2.getD i []=s.2.getD i [])->eC n k l s->eC n k l s'
 |0,l,h,hc=>by simp only [eC] at hc⊢;rw [(h l (Nat.le_refl _)).1];exact hc
 |k+1,l,h,hc=>by
  simp only [eC] at hc⊢
  obtain ⟨c1,c2,c3⟩:=hc
  refine ⟨eM k (l+1) (λi hi=>h i (by omega)) c1,?_,?_⟩
  ·rw [(h l (Nat.le_refl _)).1,(h l (Nat.le_refl _)).2]
   have e:(λq=>Is s'.2 k (l+1) q=true)= λq=>Is s.2 k (l+1) q=true:=funext λq=>by rw [bN k (l+1) q λi h1 h2=>(h i (by omega)).2]
   rw [e];exact c2
  ·rw [(h (l+1) (by omega)).1,(h l (Nat.le_refl _)).1];exact c3
theorem qB {T T':Cx} : ∀(k l:Nat),(∀i,l<=i->T'.getD i []=T.getD i [])->fj T' k l=fj T k l
 |0,_,_=>rfl
 |k+1,l,h=>by simp only [fj];rw [h l (Nat.le_refl _),qB k (l+1) λi hi=>h i (by omega)]
theorem ma {s s':Cx×Cx} : ∀(k l:Nat),(∀i,l<=i->s'.1.getD i []=s.1.getD i []/\s'.2.getD i []=s.2.getD i [])->VH k l s->VH k l s'
 |0,_,_,_=>trivial
 |k+1,l,h,hg=>⟨ma k (l+1) (λi hi=>h i (by omega)) hg.1,by
  rw [(h l (Nat.le_refl _)).1,qB (k+1) l λi hi=>(h i hi).2];exact hg.2⟩
theorem wk {T T':Cx} (hl: ∀i,(T'.getD i []).length=(T.getD i []).length) (hm: ∀i y t,(T.getD i []).getD y none=some t->(T'.getD i []).getD y none=some t):
  ∀(k l:Nat),fj T k l<=fj T' k l/\(fj T k l=fj T' k l-> ∀i,l<=i->i<l+k->T'.getD i []=T.getD i [])
 |0,l=>⟨Nat.le_refl _,λ_ i h1 h2=>by omega⟩
 |k+1,l=>by
  obtain ⟨h1,h2⟩:=wk hl hm k (l+1)
  obtain ⟨h3,h4⟩:=pU (T.getD l []) (T'.getD l []) (hl l).symm (hm l)
  simp only [fj]
  refine ⟨by omega,λe i g1 g2=>?_⟩
  by_cases hi:i=l
  ·subst hi;exact (h4 (by omega)).symm
  ·exact h2 (by omega) i (by omega) (by omega)
def V (n k l:Nat) (s:Cx×Cx):Prop:=s.1.length=n/\s.2.length=n/\eC n k l s/\VH k l s
structure VG (n k l:Nat) (s:Cx×Cx) (p:List Int) (s':Cx×Cx):Prop where
 v:V n k l s'
 grow:Wm l s s'
 YJ:Gn n (s'.1.getD l []) p
 gens: ∀o∈s'.1.getD l [],o∈s.1.getD l []\/o=some p
theorem LH.row {n l:Nat} {gs:List PO} {row:Row} {H:List Int->Prop} (h:LH n l gs row H):Ri n l gs row:=⟨h.rl,h.r0,h.rt⟩
theorem cz {row:Row} {y:Nat} {t g t':List Int} (h1:row.getD y none=some t) (h2:row.getD (ap g y) none=some t'):Mv row (y:Int) (some g)=Aa (Aa t g) (Al t'):=by
 unfold Mv
 rw [Int.toNat_natCast,h1,Option.getD_some,Option.getD_some,show (Jd g (y:Int)).toNat=ap g y from rfl,h2,Option.getD_some]
theorem iU {n l:Nat} {gs:List PO} {row:Row} (hg:PG n l gs) (_h:Ri n l gs row) (hc: ∀y t g,row.getD y none=some t->some g∈gs->row.getD (ap g y) none≠none) {q:List Int} :
  q∈aH row gs↔ ∃(y:Nat) (t g t':List Int),row.getD y none=some t/\some g∈gs/\row.getD (ap g y) none=some t'/\q=Aa (Aa t g) (Al t'):=by
 unfold aH
 rw [List.mem_flatMap]
 constructor
 ·rintro ⟨y,hy,hq⟩
  obtain ⟨o,ho,rfl⟩:=List.mem_map.1 hq
  obtain ⟨yn,rfl,PV⟩:=My.1 hy
  obtain ⟨t,ht⟩:=Option.ne_none_iff_exists'.1 PV
  obtain ⟨g,rfl,Ps,_⟩:=hg o ho
  obtain ⟨t',CD⟩:=Option.ne_none_iff_exists'.1 (hc yn t g ht ho)
  exact ⟨yn,t,g,t',ht,ho,CD,cz ht CD⟩
 ·rintro ⟨y,t,g,t',h1,h2,h3,rfl⟩
  obtain ⟨g',e,Ps,_⟩:=hg _ h2
  cases e
  exact ⟨(y:Int),My.2 ⟨y,rfl,by rw [h1];simp⟩,List.mem_map.2 ⟨some g,h2,cz h1 h3⟩⟩
theorem rh {n:Nat} (h1:1<=n) (h2:n<=20): ∀(k l:Nat) (p:List Int) (s:Cx×Cx),l+k=n->V n k l s->Pm n p->Fx l p->VG n k l s p (Dq k l p s)
 |0,l,p,s,hk,hv,hp,hf=>by
  have hl:l=n:=by omega
  subst hl
  exact ⟨hv,Wm.refl _ _,by rw [hf.all hp];exact .id,λo ho=> .inl ho⟩
 |k+1,l,p,s,hk,hv,hp,hf=>by
  have aB:l<n:=by omega
  obtain ⟨v1,v2,hc,FM⟩:=hv
  have eU:=hc
  obtain ⟨c1,c2,c3⟩:=hc
  unfold Dq
  by_cases hh:Is s.2 (k+1) l p=true
  ·rw [if_pos hh]
   exact ⟨⟨v1,v2,eU,FM⟩,Wm.refl _ _,(gk h1 h2 (k+1) l s hk eU p hp hf).1 hh,λo ho=> .inl ho⟩
  rw [if_neg hh]
  generalize AA:s.1.getD l []++ [some p]=gs
  have Xx:some p∈gs:=by rw [<-AA];simp
  have Qh: ∀o∈s.1.getD l [],o∈gs:= λo ho=>by rw [<-AA];exact List.mem_append_left _ ho
  have hg:PG n l gs:= λo ho=>by
   rw [<-AA] at ho
   rcases List.mem_append.1 ho with ho|ho
   ·exact c2.pg o ho
   ·rw [List.mem_singleton] at ho;exact ⟨p,ho,hp,hf⟩
  have XM:Ri n l gs (s.2.getD l []):=⟨c2.rl,c2.r0,λy t e=>⟨(c2.rt y t e).1,(c2.rt y t e).2.1,(c2.rt y t e).2.2.1,(c2.rt y t e).2.2.2.mono λg hg=>Qh _ hg⟩⟩
  obtain ⟨r1,r2,r3⟩:=vX aB h2 hg XM
  generalize hR:Rf gs (s.2.getD l [])=R at r1 r2 r3
  have hS:zG n λg=>some g∈gs:=⟨⟨h1,h2⟩,λg Yq=>by obtain ⟨g',e,h,_⟩:=hg _ Yq;cases e;exact h⟩
  have NI: ∀i,((s.1.set l gs).getD i []=if i=l then gs else s.1.getD i [])/\(s.2.set l R).getD i []=if i=l then R else s.2.getD i []:= λi=>by
   rw [Qf,Qf]
   by_cases e:l=i
   ·subst e;rw [if_pos ⟨rfl,by omega⟩,if_pos rfl,if_pos ⟨rfl,by omega⟩,if_pos rfl];exact ⟨rfl,rfl⟩
   ·rw [if_neg (λhh=>e hh.1),if_neg (Ne.symm e),if_neg (λhh=>e hh.1),if_neg (Ne.symm e)];exact ⟨rfl,rfl⟩
  have PU: ∀i,l+1<=i->(s.1.set l gs).getD i []=s.1.getD i []/\(s.2.set l R).getD i []=s.2.getD i []:= λi hi=>by
   rw [(NI i).1,(NI i).2,if_neg (by omega),if_neg (by omega)];exact ⟨rfl,rfl⟩
  have fC:V n k (l+1) (s.1.set l gs,s.2.set l R):=⟨by simpa using v1,by simpa using v2,eM k (l+1) PU c1,ma k (l+1) PU FM.1⟩
  have RK:Wm l s (s.1.set l gs,s.2.set l R):=by
   refine ⟨by simp,by simp,λi hi=>?_,λi o ho=>?_,λi y t e=>?_,λi=>?_⟩
   ·rw [(NI i).1,(NI i).2,if_neg (by omega),if_neg (by omega)];exact ⟨rfl,rfl⟩
   ·rw [(NI i).1]
    split
    ·rename_i hi;subst hi;exact Qh o ho
    ·exact ho
   ·rw [(NI i).2]
    split
    ·rename_i hi;subst hi;exact r2 y t e
    ·exact e
   ·rw [(NI i).2]
    split
    ·rename_i hi;subst hi;rw [r1.rl,c2.rl]
    ·rfl
  have hq: ∀q∈aH R gs,Pm n q/\Fx (l+1) q/\Gn n gs q:= λq hq=>by
   obtain ⟨y,t,g,t',e1,e2,e3,rfl⟩:=(iU hg r1 r3).1 hq
   obtain ⟨t1,t2,t3,t4⟩:=r1.rt _ _ e1
   obtain ⟨u1,u2,u3,u4⟩:=r1.rt _ _ e3
   obtain ⟨g',e,Ps,RI⟩:=hg _ e2
   cases e
   exact ⟨(t1.comp Ps).comp u1.inv,Fx.div (t1.comp Ps) u1 (Fx.comp t1 Ps t2 RI (by omega)) u2 aB (by rw [u3,Ft t1 Ps aB,t3]),Xc.comp hS (.mul t4 e2) (Xc.s5 hS u4)⟩
  have fold: ∀(qs:List (List Int)) (s1:Cx×Cx),(∀q∈qs,Pm n q/\Fx (l+1) q)->V n k (l+1) s1->
    V n k (l+1) (qs.foldl (λs q=>Dq k (l+1) q s) s1)/\Wm (l+1) s1 (qs.foldl (λs q=>Dq k (l+1) q s) s1)/\
     (∀q∈qs,Gn n ((qs.foldl (λs q=>Dq k (l+1) q s) s1).1.getD (l+1) []) q)/\ ∀o∈(qs.foldl (λs q=>Dq k (l+1) q s) s1).1.getD (l+1) [],o∈s1.1.getD (l+1) []\/ ∃q∈qs,o=some q:=by
   intro qs
   induction qs with
   |nil=>exact λs1 _ hv=>⟨hv,Wm.refl _ _,(λq hq=>by cases hq),λo ho=>Or.inl ho⟩
   |cons q qs ih=>
    intro s1 MK hv
    have ha:=rh h1 h2 k (l+1) q s1 (by omega) hv (MK q (by simp)).1 (MK q (by simp)).2
    obtain ⟨g1,g2,g3,g4⟩:=ih (Dq k (l+1) q s1) (λq' dQ=>MK q' (by simp [dQ])) ha.v
    simp only [List.foldl_cons]
    refine ⟨g1,ha.grow.trans g2 (Nat.le_refl _),λq' dQ=>?_,λo ho=>?_⟩
    ·rcases List.mem_cons.1 dQ with rfl|dQ
     ·exact ha.YJ.mono λg hg=>g2.zW _ _ hg
     ·exact g3 q' dQ
    ·rcases g4 o ho with h|⟨q',dQ,h⟩
     ·rcases ha.gens o h with h|h
      ·exact .inl h
      ·exact .inr ⟨q,by simp,h⟩
     ·exact .inr ⟨q',by simp [dQ],h⟩
  obtain ⟨f1,f2,f3,f4⟩:=fold (aH R gs) (s.1.set l gs,s.2.set l R) (λq h=>⟨(hq q h).1,(hq q h).2.1⟩) fC
  generalize (aH R gs).foldl (λs q=>Dq k (l+1) q s) (s.1.set l gs,s.2.set l R)=s' at f1 f2 f3 f4
  obtain ⟨w1,w2,w3,w4⟩:=f1
  have VK:s'.1.getD l []=gs:=by rw [(f2.low l (by omega)).1,(NI l).1,if_pos rfl]
  have el2:s'.2.getD l []=R:=by rw [(f2.low l (by omega)).2,(NI l).2,if_pos rfl]
  have GY:=RK.trans f2 (by omega)
  have Ad5:LH n l gs R (λq=>Is s'.2 k (l+1) q=true):=⟨hg,r1.rl,r1.r0,r1.rt,r3,λy t g t' e1 e2 e3=>by
   have hm:=(iU hg r1 r3).2 ⟨y,t,g,t',e1,e2,e3,rfl⟩
   exact (gk h1 h2 k (l+1) s' (by omega) w3 _ (hq _ hm).1 (hq _ hm).2.1).2 (f3 _ hm)⟩
  have OU:eC n (k+1) l s':=⟨w3,by rw [VK,el2];exact Ad5,λg Yq=>by
   rw [VK]
   rcases f4 _ Yq with h|⟨q,dQ,h⟩
   ·rw [(PU (l+1) (Nat.le_refl _)).1] at h
    exact (c3 g h).mono λg hg=>Qh _ hg
   ·cases h;exact (hq _ dQ).2.2⟩
  have Ti:Gn n (s'.1.getD l []) p:=by rw [VK];exact Xc.one hS Xx
  refine ⟨⟨w1,w2,OU,w4,?_⟩,GY,Ti,λo ho=>?_⟩
  ·have hold:=FM.2
   obtain ⟨p1,p2⟩:=wk GY.TM GY.KF (k+1) l
   have Fe:fj s.2 (k+1) l≠fj s'.2 (k+1) l:= λe=>by
    have:=bN (k+1) l p (p2 e)
    rw [(gk h1 h2 (k+1) l s' hk OU p hp hf).2 Ti] at this
    exact hh this.symm
   rw [VK,<-AA,List.length_append,List.length_singleton]
   omega
  ·rw [VK,<-AA] at ho
   rcases List.mem_append.1 ho with ho|ho
   ·exact .inl ho
   ·rw [List.mem_singleton] at ho;exact .inr ho
end Go.Proofs.Ytjbdmibbbpdnnaa

namespace Go.Proofs.Ytjbdmibbbpdnnaa
open Go.RowKit
theorem JD {n l:Nat} {gs:List PO} {R:Row} (aB:l<n) (hg:PG n l gs) (r1:Ri n l gs R) (r3: ∀y t g,R.getD y none=some t->some g∈gs->R.getD (ap g y) none≠none): ∀q∈aH R gs,Pm n q/\Fx (l+1) q:=by
 intro q hq
 obtain ⟨y,t,g,t',e1,e2,e3,rfl⟩:=(iU hg r1 r3).1 hq
 obtain ⟨t1,t2,t3,t4⟩:=r1.rt _ _ e1
 obtain ⟨u1,u2,u3,u4⟩:=r1.rt _ _ e3
 obtain ⟨g',e,Ps,RI⟩:=hg _ e2
 cases e
 exact ⟨(t1.comp Ps).comp u1.inv,Fx.div (t1.comp Ps) u1 (Fx.comp t1 Ps t2 RI (by omega)) u2 aB (by rw [u3,Ft t1 Ps aB,t3])⟩
theorem V.lower {n k l:Nat} {s:Cx×Cx} (h:V n (k+1) l s) (gs:List PO) (R:Row):V n k (l+1) (s.1.set l gs,s.2.set l R):=by
 obtain ⟨v1,v2,hc,FM⟩:=h
 have PU: ∀i,l+1<=i->(s.1.set l gs).getD i []=s.1.getD i []/\(s.2.set l R).getD i []=s.2.getD i []:= λi hi=>by
  rw [Qf,Qf,if_neg (by omega),if_neg (by omega)];exact ⟨rfl,rfl⟩
 exact ⟨by simpa using v1,by simpa using v2,eM k (l+1) PU hc.1,ma k (l+1) PU FM.1⟩
theorem zS {n k l:Nat} (h1:1<=n) (h2:n<=20) (hk:l+k=n): ∀(qs:List (List Int)) (s1:Cx×Cx),(∀q∈qs,Pm n q/\Fx l q)->V n k l s1->
  V n k l (qs.foldl (λs q=>Dq k l q s) s1)/\Wm l s1 (qs.foldl (λs q=>Dq k l q s) s1)
 | [],s1,_,hv=>⟨hv,Wm.refl _ _⟩
 |q::qs,s1,MK,hv=>by
  have ha:=rh h1 h2 k l q s1 hk hv (MK q (by simp)).1 (MK q (by simp)).2
  obtain ⟨g1,g2⟩:=zS h1 h2 hk qs (Dq k l q s1) (λq' dQ=>MK q' (by simp [dQ])) ha.v
  exact ⟨g1,ha.grow.trans g2 (Nat.le_refl _)⟩
theorem JE {n:Nat} {s:Cx×Cx} : ∀(k l:Nat),eC n k l s->fj s.2 k l<=n*k
 |0,_,_=>by simp [fj]
 |k+1,l,hc=>by
  have h1:=JE k (l+1) hc.1
  have h2:uu (s.2.getD l [])<=n:=by
   have:=hc.2.1.rl
   have h3:uu (s.2.getD l [])<=(s.2.getD l []).length:=List.countP_le_length
   omega
  simp only [fj]
  rw [Nat.mul_succ]
  omega
theorem LQ {n k l:Nat} {s:Cx×Cx} (h2:n<=20) (hk:l+(k+1)=n) (h:V n (k+1) l s):(s.1.getD l []).length<=400:=by
 have h3:=h.2.2.2.2
 have h4:=JE (k+1) l h.2.2.1
 have h5:n*(k+1)<=20*20:=Nat.mul_le_mul h2 (by omega)
 omega
theorem V.lvl {n k l:Nat} {s:Cx×Cx} (h:V n (k+1) l s):LH n l (s.1.getD l []) (s.2.getD l []) (λq=>Is s.2 k (l+1) q=true):=h.2.2.1.2.1
theorem V.pg {n k l:Nat} {s:Cx×Cx} (h:V n (k+1) l s) {p:List Int} (hp:Pm n p) (hf:Fx l p):PG n l (s.1.getD l []++ [some p]):= λo ho=>by
 rcases List.mem_append.1 ho with ho|ho
 ·exact h.lvl.pg o ho
 ·rw [List.mem_singleton] at ho;exact ⟨p,ho,hp,hf⟩
theorem V.Aee {n k l:Nat} {s:Cx×Cx} (h:V n (k+1) l s) (p:List Int):Ri n l (s.1.getD l []++ [some p]) (s.2.getD l []):=
 ⟨h.lvl.rl,h.lvl.r0,λy t e=>⟨(h.lvl.rt y t e).1,(h.lvl.rt y t e).2.1,(h.lvl.rt y t e).2.2.1,(h.lvl.rt y t e).2.2.2.mono λ_ hg=>List.mem_append_left _ hg⟩⟩
theorem pc {α:Type} (xs:List (List α)) (i:Nat) (h:i<xs.length):xs.set i (xs.getD i [])=xs:=by
 refine List.ext_getElem (by simp) λj h1 h2=>?_
 rw [List.getElem_set]
 split
 ·rename_i e;subst e;rw [List.getD_eq_getElem?_getD,List.getElem?_eq_getElem h];rfl
 ·rfl
theorem dM {α:Type} (xs:List (List α)) (i:Nat) (h:i<xs.length) (r:List α):(xs.set i r).getD i []=r:=by
 rw [Qf,if_pos ⟨rfl,h⟩]
end Go.Proofs.Ytjbdmibbbpdnnaa

namespace Go.Proofs.Ytjbdmibbbpdnnaa
open Go.RowKit
noncomputable abbrev Kn:MSpec:=lq [none] [(false, .Fm VD)] false [none] [.row tI 2] (λx=>List.length x.1<=20) (λx=>((Ht x.1,()),()))
noncomputable abbrev Qp:Spec:=Cu (.pair tL (.pair tL .unit)) tO false true (λx=>(0<x.1.length/\x.1.length<=20)/\It x.2.1.length x.1) (λx=>some (Aa x.1 x.2.1))
noncomputable abbrev a9:Spec:=Cu (.pair tL (.pair tL .unit)) tL false false (λx=>x.1.length<=20/\It x.2.1.length x.1) (λx=>Aa x.1 x.2.1)
noncomputable abbrev Ny:Spec:=Cu (.pair tI .unit) tL false true (λx=>0<=x.1/\x.1<=20) (λx=>upto x.1.toNat)
noncomputable abbrev Wb:Spec:=Cu (.pair tI .unit) tO false true (λx=>1<=x.1/\x.1<=20) (λx=>some (upto x.1.toNat))
abbrev QF:TypeId:=22
structure lx (N L:Nat) (n:Int) (G T:Cx) (l:Int) (p:List Int):Prop where
 n1:1<=N
 n2:N<=20
 en:n=N
 el:l=L
 le:L<=N
 v:V N (N-L) L (G,T)
 pm:Pm N p
 fx:Fx L p
noncomputable abbrev qK:Spec:=Cu (.pair (.ptr tq) (.pair tI (.pair tL .unit))) .bool false true (λx=> ∃N L,lx N L x.1.1 x.1.2.1 x.1.2.2.1 x.2.1 x.2.2.1) (λx=>Is x.1.2.2.1 (x.1.1-x.2.1).toNat x.2.1.toNat x.2.2.1)
noncomputable abbrev PZ:MSpec:= {ptr:=some (179,3),Gv:= [none,none],ins:= [(false, .Fm tI),(false, .Ak tO QF true),(false, .Ak tO QF true),(false, .Fm tI),(false, .Fm tO)],Ef:=false,Gb:= [],outs:= [.Fm tI, .Ak tO QF false, .Ak tO QF false],fn:= λ_=>none,keeps:= [(1,1),(2,2)],Cs:= λx=>x.2.2.2.1.toNat}
noncomputable abbrev Pf (m:Nat):MSpec:=xg PZ (λx=>(∃N L q,x.2.2.2.2.1=some q/\lx N L x.1 x.2.1 x.2.2.1 x.2.2.2.1 q)/\(x.1-x.2.2.2.1).toNat<m)
 (λx=>((x.1,(Dq (x.1-x.2.2.2.1).toNat x.2.2.2.1.toNat (x.2.2.2.2.1.getD []) (x.2.1,x.2.2.1)).1,(Dq (x.1-x.2.2.2.1).toNat x.2.2.2.1.toNat (x.2.2.2.2.1.getD []) (x.2.1,x.2.2.1)).2,()),()))
theorem wV (n:Int) (P:List Int->Prop):(((0:Int)<=n/\n<(↑Bh:Int)+(1:Int))/\n=n/\0=0/\(List.replicate n.toNat (Int.ofNat (nat_lit 0))).length=(List.replicate n.toNat (Int.ofNat (nat_lit 0))).length/\Bl (λ(v2:Int×List Int×PUnit) (k3:Int×List Int×PUnit->Prop)=>Br (decide (v2.1<(↑(List.replicate n.toNat (Int.ofNat (nat_lit 0))).length:Int))) (((0:Int)<=v2.1/\v2.1<(↑v2.2.1.length:Int))/\0+v2.1.toNat<v2.2.1.length/\0=0/\v2.2.1.length=(v2.2.1.set (0+v2.1.toNat) v2.1).length/\k3 (IntKind.i64.wrap (v2.1+(1:Int)),v2.2.1.set (0+v2.1.toNat) v2.1,())) (P (List.take v2.2.1.length (List.drop 0 v2.2.1)))) ((0:Int),List.replicate n.toNat (Int.ofNat (nat_lit 0)),PUnit.unit))=fnW Cj (look []) Ny Try.f127 (n,()) P:=by kernel_rfl
theorem FB (row:List (Option (List Int))) (P:(List Int×Unit)×Unit->Prop):(0=0/\0=([]:List Int).length/\Bl (λ(v2:Int×List Int×PUnit) (k3:Int×List Int×PUnit->Prop)=>Br (decide (v2.1<(↑row.length:Int))) (∃(y4:Option (List Int)),idx row v2.1=some y4/\Br (!y4.isNone) (0=0/\v2.2.1.length=v2.2.1.length/\v2.2.1.length+(List.take 1 (List.drop 0 [v2.1])).length<=Bh/\0=0/\(v2.2.1++List.take 1 (List.drop 0 [v2.1])).length=(v2.2.1++List.take 1 (List.drop 0 [v2.1])).length/\k3 (IntKind.i64.wrap (v2.1+(1:Int)),v2.2.1++List.take 1 (List.drop 0 [v2.1]),())) (0=0/\v2.2.1.length=v2.2.1.length/\k3 (IntKind.i64.wrap (v2.1+(1:Int)),v2.2.1,()))) (P ((List.take v2.2.1.length (List.drop 0 v2.2.1),()),()))) ((0:Int),[],PUnit.unit))=fnMW To (look []) Kn Try.f174 (row,()) P:=by kernel_rfl
theorem ZR (c:Int×List (List (Option (List Int)))×List (List (Option (List Int)))×Unit) (l:Int) (p:List Int) (P:Bool->Prop):(Bl (λ(v4:List Int×Int×PUnit) (k5:List Int×Int×PUnit->Prop)=>Br (decide (v4.2.1<c.1)) (∃(y6:List (Option (List Int))),idx c.2.2.1 v4.2.1=some y6/\ ∃(y7:Int),idx v4.1 v4.2.1=some y7/\ ∃(y8:Option (List Int)),idx y6 y7=some y8/\Br y8.isNone (P false) (∃(y9:List Int),En.fn (y8.getD [],())=some y9/\ ∃(fE:List Int),a9.fn (v4.1,y9,())=some fE/\k5 (fE,IntKind.i64.wrap (v4.2.1+(1:Int)),()))) (P true)) (p,l,PUnit.unit))=fnW To (look [(175,En),(156,a9)]) qK Try.f183 (c,l,p,()) P:=by kernel_rfl
theorem Sound.loose {P:Program} {f:FuncId} {arg res:Ty} {pre:arg.den->Prop} {val:arg.den->res.den} (h:Sound P f (Go.Proofs.Ytjbdmibbbpdnnaa.Cu arg res false true pre val)):Sound P f (Go.Proofs.Ytjbdmibbbpdnnaa.Cu arg res false false pre val):=
 ⟨h.enter,λw S vs x y h1 h2 h3=>Calls.mono (h.calls w S vs x y h1 h2 h3) λe' w' hr=>by
  obtain ⟨v,g1,g2,g3⟩:=hr
  exact ⟨v,g1,g2,Bd.Eu (S:= λb=>S b\/(true=true/\b<w.heap.size)) g3 λk _ hk=>hk.elim .inl λhh=>absurd (show false=true from hh.1) (by simp)⟩⟩
theorem nC:Sound Try.prog 156 a9:=Sound.loose Ph
theorem nD:Sound Try.prog 156 Qp:=Sound.toO Ph λx h=>⟨⟨h.1.2,h.2⟩,λe=>by
 have:=Nq x.1 x.2.1
 rw [e] at this
 have:=h.1.1
 simp only [List.length_nil] at*
 omega⟩
theorem w6 (n:Int) (h:0<=n/\n<=20):fnW Cj (look []) Ny Try.f127 (n,()) (λ(z:List Int)=>z=upto n.toNat):=by
 refine Eq.mp (wV n _) ⟨⟨by omega,by show n<(4294967296:Int)+1;omega⟩,rfl,rfl,rfl,?_⟩
 refine Ai n.toNat (λv=>v.1) (λj v=>v.2.1.length=n.toNat/\v.2.1.take j=upto j) rfl ⟨by simp,by simp [upto]⟩ ?_
 rintro j ⟨i,ys,⟨⟩⟩ K hj hi ⟨h1,h2⟩ hK
 dsimp only at hi h1 h2⊢
 subst hi
 rw [List.length_replicate]
 simp only [Int.toNat_natCast,Nat.zero_add]
 refine Br.dec (λhl=>⟨⟨by omega,by omega⟩,by omega,trivial,by rw [List.length_set],?_⟩) λhl=>?_
 ·rw [Ag (by omega)]
  refine hK (by omega) _ rfl ⟨by rw [List.length_set];exact h1,?_⟩
  rw [List.take_add_one,List.take_set_of_le (by omega),h2,List.getElem?_set_self (by omega),Yo]
  rfl
 ·have:j=ys.length:=by omega
  subst this
  rw [List.take_length] at h2
  rw [List.drop_zero,List.take_length,h2,h1]
theorem aM:Sound Try.prog 127 Ny:=
 Sound.Cu Bj Ao mixed Try.func127 (by kernel_rfl) (by kernel_rfl) λx h=>w6 x.1 h
theorem NS {n:Int} (h:1<=n/\n<=20):(0<=n/\n<=20)/\upto n.toNat≠ []:=⟨by omega,λe=>by
 have:=congrArg List.length e
 simp [upto] at this
 omega⟩
theorem kQ:Sound Try.prog 127 Wb:=Sound.toO aM λ_ h=>NS h
theorem vW {row:Row} {j:Nat} :(upto (j+1)).filter (λy=>(row.getD y.toNat none).isSome)=(upto j).filter (λy=>(row.getD y.toNat none).isSome)++if (row.getD j none).isSome=true then [(j:Int)] else []:=by
 rw [Yo,List.filter_append]
 congr 1
 simp only [List.filter_cons,List.filter_nil,Int.toNat_natCast]
theorem DD (row:List (Option (List Int))) (h:List.length row<=20):fnMW To (look []) Kn Try.f174 (row,()) (λ(z:(List Int×Unit)×Unit)=>z=((Ht row,()),())):=by
 refine Eq.mp (FB row _) ⟨rfl,rfl,?_⟩
 refine Ai row.length (λv=>v.1) (λj v=>v.2.1=(upto j).filter (λy=>(row.getD y.toNat none).isSome)) rfl rfl ?_
 rintro j ⟨i,ys,⟨⟩⟩ K hj hi h1 hK
 dsimp only at hi h1⊢
 subst hi
 refine Br.dec (λhl=>?_) λhl=>?_
 ·have hl:j<row.length:=by omega
  have hlen:ys.length<=j:=by rw [h1];refine Nat.le_trans (List.length_filter_le _ _) (by simp [upto])
  have hg:row.getD j none=row[j]:=by rw [List.getD_eq_getElem?_getD,List.getElem?_eq_getElem hl];rfl
  refine ⟨_,An hl,Br.of (λhb=>⟨rfl,rfl,?_,rfl,rfl,?_⟩) λhb=>⟨rfl,rfl,?_⟩⟩
  ·show ys.length+1<=4294967296
   omega
  ·rw [Ag (by omega)]
   refine hK hl _ rfl ?_
   show ys++ [(j:Int)]=_
   rw [vW,hg,h1,if_pos (by cases e:row[j] with
    |none=>rw [e] at hb;simp at hb
    |some t=>rfl)]
  ·rw [Ag (by omega)]
   refine hK hl _ rfl ?_
   show ys=_
   rw [vW,hg,h1,if_neg (by cases e:row[j] with
    |none=>simp
    |some t=>rw [e] at hb;simp at hb),List.append_nil]
 ·have:j=row.length:=by omega
  subst this
  rw [List.drop_zero,List.take_length,h1]
  rfl
theorem ee:Co Try.prog 174 Kn:=
 Co.lq jo Ao mixed Try.func174 (by kernel_rfl) (by kernel_rfl) λx h=>DD x.1 h
theorem fP {n:Nat} {s:Cx×Cx} : ∀(k l:Nat),eC n k l s-> ∀i,l<=i->i<l+k->LH n i (s.1.getD i []) (s.2.getD i []) (λq=>Is s.2 (l+k-i-1) (i+1) q=true)
 |0,_,_,i,h1,h2=>by omega
 |k+1,l,hc,i,h1,h2=>by
  obtain ⟨c1,c2,_⟩:=hc
  by_cases e:i=l
  ·subst e
   rw [show i+(k+1)-i-1=k by omega]
   exact c2
  ·have:=fP k (l+1) c1 i (by omega) (by omega)
   rwa [show l+1+k-i-1=l+(k+1)-i-1 by omega] at this
theorem uP {α:Type} {xs:List (List α)} {i:Nat} (h:i<xs.length):xs.getD i []=xs[i]:=by
 rw [List.getD_eq_getElem?_getD,List.getElem?_eq_getElem h];rfl
theorem GM {α:Type} {xs:List (Option α)} {i:Nat} (h:i<xs.length):xs.getD i none=xs[i]:=by
 rw [List.getD_eq_getElem?_getD,List.getElem?_eq_getElem h];rfl
theorem Pm.row {n:Nat} {p:List Int} (h:Pm n p):It n p:=by
 have:=h.2.row
 rwa [h.1] at this
theorem YU (c:Int×List (List (Option (List Int)))×List (List (Option (List Int)))×Unit) (l:Int) (p:List Int) (h: ∃N L,lx N L c.1 c.2.1 c.2.2.1 l p):
  fnW To (look [(175,En),(156,a9)]) qK Try.f183 (c,l,p,()) (λ(z:Bool)=>z=Is c.2.2.1 (c.1-l).toNat l.toNat p):=by
 obtain ⟨n,G,T,⟨⟩⟩:=c
 obtain ⟨N,L,h⟩:=h
 obtain ⟨n1,n2,en,el,hle,v,pm,fx⟩:=h
 dsimp only at en el v⊢
 subst en el
 refine Eq.mp (ZR ((N:Int),G,T,()) (L:Int) p _) ?_
 obtain ⟨v1,v2,v3,v4⟩:=v
 dsimp only at v1 v2
 refine ⟨λv=> ∃i:Nat,L<=i/\i<=N/\v.2.1=i/\Pm N v.1/\Fx i v.1/\Is T (N-i) i v.1=Is T (N-L) L p,λv=>N-v.2.1.toNat,⟨L,Nat.le_refl _,hle,rfl,pm,fx,rfl⟩,?_⟩
 rintro ⟨p',i',⟨⟩⟩ ⟨i,h1,h2,h3,h4,h5,h6⟩
 dsimp only at h3 h4 h5 h6⊢
 subst h3
 rw [show (((N:Int)-(L:Int)).toNat)=N-L by omega,show ((L:Int)).toNat=L by omega,<-h6]
 refine Br.dec (λhl=>?_) λhl=>?_
 ·have hl:i<N:=by omega
  have Tj:=fP (N-L) L v3 i h1 (by omega)
  obtain ⟨a1,a2⟩:=h4.Tr hl
  have hT:i<T.length:=by omega
  have hlen:T[i].length=N:=by have:=Tj.rl;dsimp only at this;rwa [uP hT] at this
  refine ⟨_,An hT,_,An (by rw [h4.1];exact hl),?_⟩
  have e1:p'[i]'(by rw [h4.1];exact hl)=(ap p' i:Int):=by rw [<-a1,Hz]
  rw [e1]
  refine ⟨_,An (by omega),?_⟩
  have e2:N-i=(N-i-1)+1:=by omega
  have e3:(T.getD i []).getD (Jd p' (i:Int)).toNat none=T[i][ap p' i]'(by omega):=by
   rw [uP hT];exact GM (by show ap p' i<_;omega)
  rw [e2]
  simp only [Is,e3]
  refine Br.of (λhb=>?_) λhb=>?_
  ·cases e:T[i][ap p' i]'(by omega) with
   |none=>rfl
   |some t=>rw [e] at hb;simp at hb
  ·cases e:T[i][ap p' i]'(by omega) with
   |none=>rw [e] at hb;simp at hb
   |some t=>
    have ht:(T.getD i []).getD (ap p' i) none=some t:=by rw [<-e];exact e3
    obtain ⟨t1,t2,t3,t4⟩:=Tj.rt _ _ ht
    simp only [Option.getD_some]
    refine ⟨_,if_pos ⟨by show t.length<=20;rw [t1.1];exact n2,t1.2.row⟩,_,if_pos ⟨by show p'.length<=20;rw [h4.1];exact n2,by show It (Al t).length p';rw [ll,t1.1];exact h4.row⟩,⟨i+1,by omega,by omega,Ag (by omega),h4.comp t1.inv,Fx.div h4 t1 h5 t2 hl t3,?_⟩,?_⟩
    ·rw [show N-(i+1)=N-i-1 by omega]
    ·show N-(IntKind.i64.wrap ((i:Int)+1)).toNat<N-((i:Int)).toNat
     rw [Ag (by omega)]
     omega
 ·rw [show N-i=0 by omega]
  rfl
theorem EC:Sound Try.prog 183 qK:=
 Sound.Cu jo (Ae Pj (Ae nC Ao)) mixed Try.func183 (by kernel_rfl) (by kernel_rfl) λx h=>YU x.1 x.2.1 x.2.2.1 h
end Go.Proofs.Ytjbdmibbbpdnnaa

namespace Go.Proofs.Ytjbdmibbbpdnnaa
open Go.RowKit
abbrev tp:Type:=Nat×Nat×Int×List (List (Option (List Int)))×Nat×List (List (Option (List Int)))×Nat×List Int×Int×PUnit
abbrev JT:Type:=Nat×Int×List (List (Option (List Int)))×Nat×List (List (Option (List Int)))×Nat×List Int×Int×PUnit
abbrev JU:Type:=Nat×List (List (Option (List Int)))×Nat×List (List (Option (List Int)))×Nat×List Int×Int×PUnit
abbrev Gl (G:List (List (Option (List Int)))) (l:Int) (p:Option (List Int)) (T:List (List (Option (List Int)))) (y7:Bool) (n:Int):Prop:=0=0/\(G.getD (0+l.toNat) []).length=(G.getD (0+l.toNat) []).length/\(G.getD (0+l.toNat) []).length+(List.take 1 (List.drop 0 [p])).length<=Bh/\((0:Int)<=l/\l<(↑G.length:Int))/\0=0/\(G.getD (0+l.toNat) []++List.take 1 (List.drop 0 [p])).length=(G.getD (0+l.toNat) []++List.take 1 (List.drop 0 [p])).length/\0+l.toNat=0+l.toNat/\ [(0,G.length),(0,G.length),(0,G.length),(0,T.length)]= [(0,G.length),(0,G.length),(0,G.length),(0,T.length)]/\(l,p,l,p,y7,l,l,0+l.toNat,p,List.take 1 (List.drop 0 [p]),0+l.toNat,G.set (0+l.toNat) (G.getD (0+l.toNat) []++List.take 1 (List.drop 0 [p])),min G.length (0+l.toNat),T,T.length,n,())=(l,p,l,p,y7,l,l,0+l.toNat,p,List.take 1 (List.drop 0 [p]),0+l.toNat,G.set (0+l.toNat) (G.getD (0+l.toNat) []++List.take 1 (List.drop 0 [p])),min G.length (0+l.toNat),T,T.length,n,PUnit.unit)
theorem ZM {m:Nat} (n:Int) (G T:List (List (Option (List Int)))) (l:Int) (p:Option (List Int)) (P:(Int×List (List (Option (List Int)))×List (List (Option (List Int)))×Unit)×Unit->Prop):(∃(y7:Bool),qK.fn ((n,List.take G.length (List.drop 0 G),List.take T.length (List.drop 0 T),()),l,p.getD [],())=some y7/\Br y7 ((0=0/\G.length=G.length)/\(0=0/\T.length=T.length)/\(Pf (m+1)).Cs (n,G,T,l,p,())<=G.length/\(Pf (m+1)).Cs (n,G,T,l,p,())<=T.length/\P ((n,G,T,()),())) (((0:Int)<=l/\l<(↑G.length:Int))/\0=0/\(G.getD (0+l.toNat) []).length=(G.getD (0+l.toNat) []).length/\(G.getD (0+l.toNat) []).length+(List.take 1 (List.drop 0 [p])).length<=Bh/\((0:Int)<=l/\l<(↑G.length:Int))/\0=0/\(G.getD (0+l.toNat) []++List.take 1 (List.drop 0 [p])).length=(G.getD (0+l.toNat) []++List.take 1 (List.drop 0 [p])).length/\0+l.toNat=0+l.toNat/\(((0:Int)<=l/\l<(↑T.length:Int))/\ ∃(y8:(List Int×PUnit)×PUnit),Kn.fn (T.getD (0+l.toNat) [],())=some y8/\0=0/\(List.take y8.1.1.length (List.drop 0 y8.1.1)).length=(List.take y8.1.1.length (List.drop 0 y8.1.1)).length/\0=0/\G.length=(G.set (0+l.toNat) (G.getD (0+l.toNat) []++List.take 1 (List.drop 0 [p]))).length/\0=0/\T.length=T.length/\Bl (λ(v9:JU) (k10:JU->Prop)=>Br (decide ((↑v9.2.2.2.2.2.1.length:Int)>(0:Int))) (((0:Int)<=l/\l<(↑v9.2.1.length:Int))/\0=0/\(List.take v9.2.2.2.2.2.1.length (List.drop 0 v9.2.2.2.2.2.1)).length=(List.take v9.2.2.2.2.2.1.length (List.drop 0 v9.2.2.2.2.2.1)).length/\0=0/\v9.2.1.length=v9.2.1.length/\0=0/\v9.2.2.2.1.length=v9.2.2.2.1.length/\Bl (λ(v11:tp) (YK:tp->Prop)=>Br (decide (v11.2.2.1<(↑(v9.2.1.getD (0+l.toNat) []).length:Int))) (((0:Int)<=v11.2.2.1/\v11.2.2.1<(↑(v11.2.2.2.1.getD v11.2.1 []).length:Int))/\((0:Int)<=(0:Int)/\(0:Int)<(↑v11.2.2.2.2.2.2.2.1.length:Int))/\ ∃(zC:Int),v11.2.2.2.2.2.2.2.1[0+Int.toNat (0:Int)]?=some zC/\ ∃(aT:Int),idx (((v11.2.2.2.1.getD v11.2.1 []).getD v11.2.2.1.toNat (none:Option (List Int))).getD []) zC=some aT/\((0:Int)<=aT/\aT<(↑(v11.2.2.2.2.2.1.getD v11.1 []).length:Int))/\Br ((v11.2.2.2.2.2.1.getD v11.1 []).getD aT.toNat (none:Option (List Int))).isNone (((0:Int)<=(0:Int)/\(0:Int)<(↑v11.2.2.2.2.2.2.2.1.length:Int))/\ ∃(kv:Int),v11.2.2.2.2.2.2.2.1[0+Int.toNat (0:Int)]?=some kv/\((0:Int)<=kv/\kv<(↑(v11.2.2.2.2.2.1.getD v11.1 []).length:Int))/\ ∃(pL:Option (List Int)),Qp.fn (((v11.2.2.2.2.2.1.getD v11.1 []).getD kv.toNat (none:Option (List Int))).getD [],((v11.2.2.2.1.getD v11.2.1 []).getD v11.2.2.1.toNat (none:Option (List Int))).getD [],())=some pL/\((0:Int)<=aT/\aT<(↑(v11.2.2.2.2.2.1.getD v11.1 []).length:Int))/\0=0/\v11.2.2.2.2.2.2.2.1.length=v11.2.2.2.2.2.2.2.1.length/\v11.2.2.2.2.2.2.2.1.length+(List.take 1 (List.drop 0 [aT])).length<=Bh/\0=0/\(List.take (v11.2.2.2.2.2.2.2.1++List.take 1 (List.drop 0 [aT])).length (List.drop 0 (v11.2.2.2.2.2.2.2.1++List.take 1 (List.drop 0 [aT])))).length=(List.take (v11.2.2.2.2.2.2.2.1++List.take 1 (List.drop 0 [aT])).length (List.drop 0 (v11.2.2.2.2.2.2.2.1++List.take 1 (List.drop 0 [aT])))).length/\0=0/\v11.2.2.2.1.length=v11.2.2.2.1.length/\0=0/\v11.2.2.2.2.2.1.length=(v11.2.2.2.2.2.1.set v11.1 ((v11.2.2.2.2.2.1.getD v11.1 []).set aT.toNat pL)).length/\YK (v11.1,v11.2.1,IntKind.i64.wrap (v11.2.2.1+(1:Int)),v11.2.2.2.1,v11.2.2.2.2.1,v11.2.2.2.2.2.1.set v11.1 ((v11.2.2.2.2.2.1.getD v11.1 []).set aT.toNat pL),v11.2.2.2.2.2.2.1,List.take (v11.2.2.2.2.2.2.2.1++List.take 1 (List.drop 0 [aT])).length (List.drop 0 (v11.2.2.2.2.2.2.2.1++List.take 1 (List.drop 0 [aT]))),v11.2.2.2.2.2.2.2.2.1,())) (0=0/\(List.take v11.2.2.2.2.2.2.2.1.length (List.drop 0 v11.2.2.2.2.2.2.2.1)).length=(List.take v11.2.2.2.2.2.2.2.1.length (List.drop 0 v11.2.2.2.2.2.2.2.1)).length/\0=0/\v11.2.2.2.1.length=v11.2.2.2.1.length/\0=0/\v11.2.2.2.2.2.1.length=v11.2.2.2.2.2.1.length/\YK (v11.1,v11.2.1,IntKind.i64.wrap (v11.2.2.1+(1:Int)),v11.2.2.2.1,v11.2.2.2.2.1,v11.2.2.2.2.2.1,v11.2.2.2.2.2.2.1,List.take v11.2.2.2.2.2.2.2.1.length (List.drop 0 v11.2.2.2.2.2.2.2.1),v11.2.2.2.2.2.2.2.2.1,()))) (((0:Int)<=(1:Int)/\(1:Int)<=(↑v11.2.2.2.2.2.2.2.1.length:Int)/\(↑v11.2.2.2.2.2.2.2.1.length:Int)<=(↑v11.2.2.2.2.2.2.2.1.length:Int))/\0=0/\(List.take ((↑v11.2.2.2.2.2.2.2.1.length:Int).toNat-Int.toNat (1:Int)) (List.drop (0+Int.toNat (1:Int)) v11.2.2.2.2.2.2.2.1)).length=(List.take ((↑v11.2.2.2.2.2.2.2.1.length:Int).toNat-Int.toNat (1:Int)) (List.drop (0+Int.toNat (1:Int)) v11.2.2.2.2.2.2.2.1)).length/\0=0/\v11.2.2.2.1.length=v11.2.2.2.1.length/\0=0/\v11.2.2.2.2.2.1.length=v11.2.2.2.2.2.1.length/\k10 (v11.1,v11.2.2.2.1,v11.2.2.2.2.1,v11.2.2.2.2.2.1,v11.2.2.2.2.2.2.1,List.take ((↑v11.2.2.2.2.2.2.2.1.length:Int).toNat-Int.toNat (1:Int)) (List.drop (0+Int.toNat (1:Int)) v11.2.2.2.2.2.2.2.1),v11.2.2.2.2.2.2.2.2.1,()))) (v9.1,0+l.toNat,(0:Int),v9.2.1,v9.2.2.1,v9.2.2.2.1,v9.2.2.2.2.1,List.take v9.2.2.2.2.2.1.length (List.drop 0 v9.2.2.2.2.2.1),v9.2.2.2.2.2.2.1,PUnit.unit)) (∃(r6:(List Int×PUnit)×PUnit),Kn.fn (v9.2.2.2.1.getD v9.1 [],())=some r6/\0=0/\r6.1.1.length=r6.1.1.length/\0=0/\v9.2.1.length=v9.2.1.length/\0=0/\v9.2.2.2.1.length=v9.2.2.2.1.length/\Bl (λ(Iu:JT) (k13:JT->Prop)=>Br (decide (Iu.2.1<(↑r6.1.1.length:Int))) (((0:Int)<=Iu.2.1/\Iu.2.1<(↑Iu.2.2.2.2.2.2.1.length:Int))/\ ∃(aT:Int),Iu.2.2.2.2.2.2.1[0+Iu.2.1.toNat]?=some aT/\((0:Int)<=l/\l<(↑Iu.2.2.1.length:Int))/\0=0/\Iu.2.2.2.2.2.2.1.length=Iu.2.2.2.2.2.2.1.length/\0=0/\Iu.2.2.1.length=Iu.2.2.1.length/\0=0/\Iu.2.2.2.2.1.length=Iu.2.2.2.2.1.length/\Bl (λ(Kz:tp) (k16:tp->Prop)=>Br (decide (Kz.2.2.1<(↑(Iu.2.2.1.getD (0+l.toNat) []).length:Int))) (((0:Int)<=Kz.2.2.1/\Kz.2.2.1<(↑(Kz.2.2.2.1.getD Kz.2.1 []).length:Int))/\((0:Int)<=aT/\aT<(↑(Kz.2.2.2.2.2.1.getD Kz.1 []).length:Int))/\ ∃(FQ:Option (List Int)),Qp.fn (((Kz.2.2.2.2.2.1.getD Kz.1 []).getD aT.toNat (none:Option (List Int))).getD [],((Kz.2.2.2.1.getD Kz.2.1 []).getD Kz.2.2.1.toNat (none:Option (List Int))).getD [],())=some FQ/\ ∃(LF:Int),idx (((Kz.2.2.2.1.getD Kz.2.1 []).getD Kz.2.2.1.toNat (none:Option (List Int))).getD []) aT=some LF/\((0:Int)<=LF/\LF<(↑(Kz.2.2.2.2.2.1.getD Kz.1 []).length:Int))/\ ∃(y19:List Int),En.fn (((Kz.2.2.2.2.2.1.getD Kz.1 []).getD LF.toNat (none:Option (List Int))).getD [],())=some y19/\ ∃(QH:Option (List Int)),Qp.fn (FQ.getD [],y19,())=some QH/\0=0/\Kz.2.2.2.1.length=Kz.2.2.2.1.length/\0=0/\Kz.2.2.2.2.2.1.length=Kz.2.2.2.2.2.1.length/\ ∃(FR:(Int×List (List (Option (List Int)))×List (List (Option (List Int)))×PUnit)×PUnit),(Pf m).fn (Kz.2.2.2.2.2.2.2.2.1,Kz.2.2.2.1,Kz.2.2.2.2.2.1,IntKind.i64.wrap (l+(1:Int)),QH,())=some FR/\(Kz.1<(Pf m).Cs (Kz.2.2.2.2.2.2.2.2.1,Kz.2.2.2.1,Kz.2.2.2.2.2.1,IntKind.i64.wrap (l+(1:Int)),QH,())/\Kz.1<(List.length FR.1.2.2.1))/\(Kz.2.1<(Pf m).Cs (Kz.2.2.2.2.2.2.2.2.1,Kz.2.2.2.1,Kz.2.2.2.2.2.1,IntKind.i64.wrap (l+(1:Int)),QH,())/\Kz.2.1<(List.length FR.1.2.1))/\(Kz.1<(Pf m).Cs (Kz.2.2.2.2.2.2.2.2.1,Kz.2.2.2.1,Kz.2.2.2.2.2.1,IntKind.i64.wrap (l+(1:Int)),QH,())/\Kz.1<(List.length FR.1.2.2.1))/\(Kz.1<(Pf m).Cs (Kz.2.2.2.2.2.2.2.2.1,Kz.2.2.2.1,Kz.2.2.2.2.2.1,IntKind.i64.wrap (l+(1:Int)),QH,())/\Kz.1<(List.length FR.1.2.2.1))/\0=0/\Kz.2.2.2.2.2.2.2.1.length=Kz.2.2.2.2.2.2.2.1.length/\0=0/\FR.1.2.1.length=FR.1.2.1.length/\0=0/\FR.1.2.2.1.length=FR.1.2.2.1.length/\k16 (Kz.1,Kz.2.1,IntKind.i64.wrap (Kz.2.2.1+(1:Int)),FR.1.2.1,min Kz.2.2.2.2.1 ((Pf m).Cs (Kz.2.2.2.2.2.2.2.2.1,Kz.2.2.2.1,Kz.2.2.2.2.2.1,IntKind.i64.wrap (l+(1:Int)),QH,())),FR.1.2.2.1,min Kz.2.2.2.2.2.2.1 ((Pf m).Cs (Kz.2.2.2.2.2.2.2.2.1,Kz.2.2.2.1,Kz.2.2.2.2.2.1,IntKind.i64.wrap (l+(1:Int)),QH,())),Kz.2.2.2.2.2.2.2.1,FR.1.1,())) (0=0/\Kz.2.2.2.2.2.2.2.1.length=Kz.2.2.2.2.2.2.2.1.length/\0=0/\Kz.2.2.2.1.length=Kz.2.2.2.1.length/\0=0/\Kz.2.2.2.2.2.1.length=Kz.2.2.2.2.2.1.length/\k13 (Kz.1,IntKind.i64.wrap (Iu.2.1+(1:Int)),Kz.2.2.2.1,Kz.2.2.2.2.1,Kz.2.2.2.2.2.1,Kz.2.2.2.2.2.2.1,Kz.2.2.2.2.2.2.2.1,Kz.2.2.2.2.2.2.2.2.1,()))) (Iu.1,0+l.toNat,(0:Int),Iu.2.2.1,Iu.2.2.2.1,Iu.2.2.2.2.1,Iu.2.2.2.2.2.1,Iu.2.2.2.2.2.2.1,Iu.2.2.2.2.2.2.2.1,PUnit.unit)) ((0=0/\Iu.2.2.1.length=Iu.2.2.1.length)/\(0=0/\Iu.2.2.2.2.1.length=Iu.2.2.2.2.1.length)/\(Pf (m+1)).Cs (n,G,T,l,p,())<=Iu.2.2.2.1/\(Pf (m+1)).Cs (n,G,T,l,p,())<=Iu.2.2.2.2.2.1/\P ((Iu.2.2.2.2.2.2.2.1,Iu.2.2.1,Iu.2.2.2.2.1,()),()))) (v9.1,(0:Int),v9.2.1,v9.2.2.1,v9.2.2.2.1,v9.2.2.2.2.1,r6.1.1,v9.2.2.2.2.2.2.1,PUnit.unit))) (0+l.toNat,G.set (0+l.toNat) (G.getD (0+l.toNat) []++List.take 1 (List.drop 0 [p])),min G.length (0+l.toNat),T,T.length,List.take y8.1.1.length (List.drop 0 y8.1.1),n,PUnit.unit))/\(((((0:Int)<=l/\l<(↑G.length:Int))/\((Gl G l p T y7 n))/\(Gl G l p T y7 n))/\((0:Int)<=l/\l<(↑G.length:Int))/\(Gl G l p T y7 n))/\((0:Int)<=l/\l<(↑G.length:Int))/\(Gl G l p T y7 n))/\(((((0:Int)<=l/\l<(↑G.length:Int))/\((Gl G l p T y7 n))/\(Gl G l p T y7 n))/\((0:Int)<=l/\l<(↑G.length:Int))/\(Gl G l p T y7 n))/\(((0:Int)<=l/\l<(↑G.length:Int))/\(((Gl G l p T y7 n))/\(Gl G l p T y7 n))/\(((Gl G l p T y7 n))/\((Gl G l p T y7 n))/\(Gl G l p T y7 n))/\((Gl G l p T y7 n))/\((Gl G l p T y7 n))/\(Gl G l p T y7 n))/\(((0:Int)<=l/\l<(↑G.length:Int))/\(Gl G l p T y7 n))/\((0:Int)<=l/\l<(↑G.length:Int))/\((Gl G l p T y7 n))/\((Gl G l p T y7 n))/\(Gl G l p T y7 n))/\(((0:Int)<=l/\l<(↑G.length:Int))/\(Gl G l p T y7 n))/\(((0:Int)<=l/\l<(↑G.length:Int))/\(Gl G l p T y7 n))/\((0:Int)<=l/\l<(↑G.length:Int))/\((Gl G l p T y7 n))/\((Gl G l p T y7 n))/\(Gl G l p T y7 n)))=fnMW (KA [Lk+7]) (look [(183,qK),(174,Kn),(156,Qp),(175,En),(173,fF.m (Pf m))]) (Pf (m+1)) Try.f173 (n,G,T,l,p,()) P:=by kernel_rfl
theorem u9 {k l:Nat} {p:List Int} {s:Cx×Cx} (h:Is s.2 k l p=true):Dq k l p s=s:=by
 cases k with
 |zero=>rfl
 |succ k=>unfold Dq;rw [if_pos h]
theorem u7 (k l:Nat) (p:List Int) (s:Cx×Cx):Dq (k+1) l p s=if Is s.2 (k+1) l p=true then s else
   (aH (Rf (s.1.getD l []++ [some p]) (s.2.getD l [])) (s.1.getD l []++ [some p])).foldl (λs q=>Dq k (l+1) q s)
    (s.1.set l (s.1.getD l []++ [some p]),s.2.set l (Rf (s.1.getD l []++ [some p]) (s.2.getD l []))):=rfl
theorem HT {n:Nat} {p:List Int} (h:Pm n p) {i:Nat} (hi:i<n):idx p (i:Int)=some (ap p i:Int):=by
 have om:i<p.length:=by rw [h.1];exact hi
 rw [An om,<-(h.Tr hi).1,Hz om]
theorem xp {x:Int} {gs:List PO} {j:Nat} (hj:j<gs.length) (s:Row×List Int):Sr x (gs.take (j+1)) s=Tb x (Sr x (gs.take j) s) gs[j]:=by
 unfold Sr
 rw [List.take_add_one,List.getElem?_eq_getElem hj,Option.toList_some,List.foldl_append]
 rfl
theorem xq {gs:List PO} {f:Nat} {row:Row} :Sj gs f [] row=row:=by cases f<;>rfl
theorem eN {n:Nat} {p:List Int} (h:Pm n p):0<p.length/\p.length<=20:=⟨by rw [h.1];exact h.n1,by rw [h.1];exact h.n2⟩
theorem yW {n:Nat} {p q:List Int} (h:Pm n p) (k:Pm n q):It q.length p:=by rw [k.1];exact h.row
theorem YP {m:Nat} (n:Int) (G T:List (List (Option (List Int)))) (l:Int) (p:Option (List Int)) (h:(∃N L q,p=some q/\lx N L n G T l q)/\(n-l).toNat<m+1):
  fnMW (KA [Lk+7]) (look [(183,qK),(174,Kn),(156,Qp),(175,En),(173,fF.m (Pf m))]) (Pf (m+1)) Try.f173 (n,G,T,l,p,()) (λ(z:(Int×List (List (Option (List Int)))×List (List (Option (List Int)))×Unit)×Unit)=>z=((n,(Dq (n-l).toNat l.toNat (p.getD []) (G,T)).1,(Dq (n-l).toNat l.toNat (p.getD []) (G,T)).2,()),())):=by
 obtain ⟨⟨N,L,q,rfl,h⟩,hm⟩:=h
 have h':=h
 obtain ⟨n1,n2,en,el,hle,v,pm,fx⟩:=h
 subst en el
 have hk:((N:Int)-(L:Int)).toNat=N-L:=by omega
 rw [hk,Int.toNat_natCast]
 refine Eq.mp (ZM (N:Int) G T (L:Int) (some q) _) ⟨_,if_pos ⟨N,L,?a⟩,?b⟩
 case a=>
  simp only [List.drop_zero,List.take_length,Option.getD_some]
  exact h'
 obtain ⟨v1,v2,v3,v4⟩:=v
 dsimp only at v1 v2
 have hw:IntKind.i64.wrap ((L:Int)+1)=((L+1:Nat):Int):=Ag (by omega)
 simp only [Gl]
 simp only [List.drop_zero,List.take_length,Option.getD_some,hk,Int.toNat_natCast,Nat.zero_add,eq_self,true_and,and_true,List.take_succ_cons,List.take_zero,List.length_cons,List.length_nil,List.length_set,hw]
 refine Br.of (λhh=>⟨by show Int.toNat (L:Int)<=G.length;omega,by show Int.toNat (L:Int)<=T.length;omega,?_⟩) λhh=>?_
 ·rw [u9 (s:=(G,T)) hh]
 obtain ⟨k,hNk⟩: ∃k,N-L=k+1:=by
  cases e:N-L with
  |zero=>rw [e] at hh;simp [Is] at hh
  |succ k=>exact ⟨k,rfl⟩
 have VW:L<N:=by omega
 have hv:V N (k+1) L (G,T):=by rw [<-hNk];exact ⟨v1,v2,v3,v4⟩
 rw [hNk] at hh⊢
 have e1:(0:Int)<=(L:Int)/\(L:Int)<(G.length:Int):=by omega
 have e1':(0:Int)<=(L:Int)/\(L:Int)<(T.length:Int):=by omega
 have hgl:(G.getD L []).length<=400:=LQ n2 (by omega) hv
 have e2:(G.getD L []).length+1<=Bh:=by show _<=4294967296;omega
 simp only [e1,e1',e2,and_self,true_and,and_true]
 generalize AA:G.getD L []++ [some q]=gs
 have Ah3:gs.length<=401:=by rw [<-AA,List.length_append,List.length_singleton];omega
 have hg:PG N L gs:=by rw [<-AA];exact hv.pg pm fx
 have RZ:Ri N L gs (T.getD L []):=by rw [<-AA];exact hv.Aee q
 obtain ⟨r1,r2,r3⟩:=vX VW n2 hg RZ
 generalize hR:Rf gs (T.getD L [])=R at r1 r2 r3
 have xV:Dq (k+1) L q (G,T)=(aH R gs).foldl (λs q=>Dq k (L+1) q s) (G.set L gs,T.set L R):=by
  rw [u7,if_neg (by rw [hh];simp)]
  dsimp only
  rw [AA,hR]
 rw [xV]
 have hTl:L<T.length:=by omega
 have hGl:L<G.length:=by omega
 have hG1:(G.set L gs).getD L []=gs:=dM G L hGl gs
 have hT1: ∀row:Row,(T.set L row).getD L []=row:=dM T L hTl
 refine ⟨_,if_pos (by show (T.getD L []).length<=20;rw [RZ.rl];exact n2),?_⟩
 dsimp only
 have hn0:(Ht (T.getD L [])).length+Li (T.getD L [])<=40:=by have:=sr (T.getD L []);have:=vS (T.getD L []);have:=RZ.rl;omega
 have hq0:BG gs (Ht (T.getD L [])) (T.getD L []):=⟨λy hy=>My.1 hy,λy hy=> .inl (My.2 ⟨y,rfl,hy⟩)⟩
 refine ⟨λv=> ∃(row:Row) (qu:List Int) (kg kt:Nat),v=(L,G.set L gs,kg,T.set L row,kt,qu,(N:Int),())/\L<=kg/\L<=kt/\qu.length+Li row<=40/\Ri N L gs row/\BG gs qu row/\Sj gs (qu.length+Li row) qu row=R,
  fun v=>v.2.2.2.2.2.1.length+Li (v.2.2.2.1.getD v.1 []),⟨T.getD L [],Ht (T.getD L []),min G.length L,T.length,?_,by omega,by omega,hn0,RZ,hq0,?_⟩,?_⟩
 ·rw [pc T L hTl]
 ·rw [<-uj VW hg 100 _ _ (by omega) RZ hq0];exact hR
 rintro v ⟨row,qu,kg,kt,rfl,RN,RQ,hb,HJ,hqi,GR⟩
 dsimp only
 simp only [hG1,hT1,List.length_set]
 refine Br.dec (λhl=>⟨e1.2,?_⟩) λhl=>?_
 ·cases qu with
  |nil=>simp at hl
  |cons x qu=>
  obtain ⟨p1,p2,xn,t,rfl,ht⟩:=yN VW hg HJ hqi
  have LC:xn<N:=by rw [<-HJ.rl];exact lf ht
  refine Ai gs.length (λv=>v.2.2.1) (λj v=> ∃kg kt:Nat,v=(L,L,(j:Int),G.set L gs,kg,T.set L (Sr (xn:Int) (gs.take j) (row,qu)).1,kt,(xn:Int)::(Sr (xn:Int) (gs.take j) (row,qu)).2,(N:Int),())/\L<=kg/\L<=kt) rfl ⟨kg,kt,rfl,RN,RQ⟩ ?_
  rintro j v K hj hi ⟨kg,kt,rfl,h1,h2⟩ hK
  dsimp only
  simp only [hG1,hT1,Int.toNat_natCast]
  refine Br.dec (λhl=>?_) λhl=>?_
  ·have hl:j<gs.length:=by omega
   obtain ⟨x1,x2⟩:=JF VW hg (gs.take j) (q:=qu) (λo ho=>List.mem_of_mem_take ho) HJ ht
   have Sf:=xp (x:=(xn:Int)) hl (row,qu)
   generalize Sr (xn:Int) (gs.take j) (row,qu)=s at x1 x2 Sf⊢
   obtain ⟨r,qq⟩:=s
   dsimp only at x1 x2⊢
   obtain ⟨g,oF,Ps,RI⟩:=hg gs[j] (List.getElem_mem hl)
   have htx:r.getD xn none=some t:=x1.mono _ _ ht
   obtain ⟨t1,t2,t3,t4⟩:=x1.ok.rt _ _ htx
   have XL:r.length=N:=x1.ok.rl
   have hgj:gs.getD j none=some g:=by rw [GM hl];exact oF
   have hy:=Ps.lt LC
   have hga:=(Ps.Tr LC).1
   have MI:qq.length+Li r=qu.length+Li row:=x1.VC
   simp only [List.length_cons] at hb
   simp only [hgj,Option.getD_some]
   refine ⟨⟨by omega,by omega⟩,⟨by omega,by simp only [List.length_cons];omega⟩,_,rfl,_,HT Ps LC,⟨by omega,by omega⟩,?_⟩
   rw [oF] at Sf
   unfold Tb at Sf
   dsimp only at Sf
   rw [Option.getD_some,hga,Int.toNat_natCast,Int.toNat_natCast,htx,Option.getD_some] at Sf
   rw [Int.toNat_natCast]
   refine Br.of (λhn=>?_) λhn=>?_
   ·have hn:r.getD (ap g xn) none=none:=by
     cases e:r.getD (ap g xn) none with
     |none=>rfl
     |some u=>rw [e] at hn;simp at hn
    rw [hn] at Sf
    refine ⟨⟨by omega,by simp only [List.length_cons];omega⟩,_,rfl,⟨by omega,by omega⟩,some (Aa t g),?_,⟨by omega,by omega⟩,?_,?_⟩
    ·rw [Int.toNat_natCast,htx,Option.getD_some]
     exact if_pos ⟨eN t1,yW t1 Ps⟩
    ·show qq.length+1+1<=4294967296
     omega
    ·rw [Ag (by omega)]
     refine hK hl _ rfl ⟨kg,kt,?_,h1,h2⟩
     rw [Sf,List.set_set]
     rfl
   ·have hn: ∃u,r.getD (ap g xn) none=some u:=by
     cases e:r.getD (ap g xn) none with
     |none=>rw [e] at hn;simp at hn
     |some u=>exact ⟨u,rfl⟩
    obtain ⟨u,hn⟩:=hn
    rw [hn] at Sf
    rw [Ag (by omega)]
    refine hK hl _ rfl ⟨kg,kt,?_,h1,h2⟩
    rw [Sf]
  ·have:j=gs.length:=by omega
   subst this
   rw [List.take_length]
   generalize hs:Sr (xn:Int) gs (row,qu)=s at p1 p2⊢
   obtain ⟨r,qq⟩:=s
   dsimp only at p1 p2⊢
   have MI:qq.length+Li r=qu.length+Li row:=p1.VC
   simp only [List.length_cons] at hb GR
   refine ⟨⟨by omega,by simp only [List.length_cons];omega,Int.le_refl _⟩,⟨r,qq,kg,kt,?_,h1,h2,by omega,p1.ok,p2,?_⟩,?_⟩
   ·simp
   ·rw [show qu.length+1+Li row=(qu.length+Li row)+1 by omega] at GR
    simp only [Sj,hs] at GR
    rw [MI]
    exact GR
   ·simp only [List.length_cons]
    have:(List.take (qq.length+1-Int.toNat 1) (List.drop (Int.toNat 1) ((xn:Int)::qq))).length=qq.length:=by simp
    rw [this]
    omega
 ·have:qu= []:=List.eq_nil_of_length_eq_zero (by omega)
  subst this
  rw [xq] at GR
  subst GR
  have hpr:=JD VW hg HJ r3
  have XW:=hv.lower gs row
  have OZ: ∀qs:List (List Int),(∀q∈qs,q∈aH row gs)->V N k (L+1) (qs.foldl (λs q=>Dq k (L+1) q s) (G.set L gs,T.set L row))/\Wm (L+1) (G.set L gs,T.set L row) (qs.foldl (λs q=>Dq k (L+1) q s) (G.set L gs,T.set L row)):=
   fun qs MK=>zS n1 n2 (by omega) qs _ (λq hq=>hpr q (MK q hq)) XW
  refine ⟨_,if_pos (by show row.length<=20;rw [HJ.rl];exact n2),?_⟩
  dsimp only
  have hol:=sr row
  have XL:=HJ.rl
  refine Ai (Ht row).length (λv=>v.2.1) (λi v=> ∃(s:Cx×Cx) (kg kt:Nat),v=(L,(i:Int),s.1,kg,s.2,kt,Ht row,(N:Int),())/\L<=kg/\L<=kt/\s=(((Ht row).take i).flatMap λy=>gs.map (Mv row y)).foldl (λs q=>Dq k (L+1) q s) (G.set L gs,T.set L row)) rfl ⟨_,kg,kt,rfl,RN,RQ,rfl⟩ ?_
  rintro i v K hi om ⟨s,kg,kt,rfl,h1,h2,hs⟩ hK
  dsimp only
  have Qh: ∀q∈((Ht row).take i).flatMap (λy=>gs.map (Mv row y)),q∈aH row gs:= λq hq=>by
   obtain ⟨y,hy,hq⟩:=List.mem_flatMap.1 hq
   exact List.mem_flatMap.2 ⟨y,List.mem_of_mem_take hy,hq⟩
  refine Br.dec (λhl=>?_) λhl=>?_
  ·have hl:i<(Ht row).length:=by omega
   obtain ⟨f1,f2⟩:=OZ _ Qh
   rw [<-hs] at f1 f2
   have g1:s.1.getD L []=gs:=by rw [(f2.low L (by omega)).1];exact hG1
   have g2:s.1.length=N:=f1.1
   obtain ⟨yn,PV,YB⟩:=My.1 (List.getElem_mem hl)
   obtain ⟨t,ht⟩:=Option.ne_none_iff_exists'.1 YB
   have hyN:yn<N:=by rw [<-XL];exact lf ht
   obtain ⟨t1,t2,t3,t4⟩:=HJ.rt _ _ ht
   refine ⟨⟨by omega,by omega⟩,(yn:Int),by rw [Int.toNat_natCast,List.getElem?_eq_getElem hl,PV],by omega,?_⟩
   rw [g1]
   refine Ai gs.length (λv=>v.2.2.1) (λj v=> ∃(s':Cx×Cx) (kg kt:Nat),v=(L,L,(j:Int),s'.1,kg,s'.2,kt,Ht row,(N:Int),())/\L<=kg/\L<=kt/\s'=(((Ht row).take i).flatMap (λy=>gs.map (Mv row y))++(gs.take j).map (Mv row (yn:Int))).foldl (λs q=>Dq k (L+1) q s) (G.set L gs,T.set L row)) rfl ⟨s,kg,kt,rfl,h1,h2,by simpa using hs⟩ ?_
   rintro j v K' hj tQ ⟨s',kg,kt,rfl,h1,h2,uY⟩ VV
   dsimp only
   refine Br.dec (λGt=>?_) λGt=>?_
   ·have Gt:j<gs.length:=by omega
    have AK: ∀q∈((Ht row).take i).flatMap (λy=>gs.map (Mv row y))++(gs.take j).map (Mv row (yn:Int)),q∈aH row gs:= λq hq=>by
     rcases List.mem_append.1 hq with hq|hq
     ·exact Qh q hq
     ·obtain ⟨o,ho,rfl⟩:=List.mem_map.1 hq
      exact List.mem_flatMap.2 ⟨(yn:Int),My.2 ⟨yn,rfl,YB⟩,List.mem_map.2 ⟨o,List.mem_of_mem_take ho,rfl⟩⟩
    obtain ⟨UJ,f2'⟩:=OZ _ AK
    rw [<-uY] at UJ f2'
    obtain ⟨G',T'⟩:=s'
    dsimp only at UJ f2'⊢
    have g1':G'.getD L []=gs:=by have:=(f2'.low L (by omega)).1;dsimp only at this;rw [this];exact hG1
    have g3':T'.getD L []=row:=by have:=(f2'.low L (by omega)).2;dsimp only at this;rw [this];exact hT1 row
    have g4':G'.length=N:=UJ.1
    have g5':T'.length=N:=UJ.2.1
    obtain ⟨g,oF,Ps,RI⟩:=hg gs[j] (List.getElem_mem Gt)
    have hgj:gs.getD j none=some g:=by rw [GM Gt];exact oF
    have hgm:some g∈gs:=by rw [<-oF];exact List.getElem_mem Gt
    have hy:=Ps.lt hyN
    obtain ⟨t',CD⟩:=Option.ne_none_iff_exists'.1 (r3 yn t g ht hgm)
    obtain ⟨u1,u2,u3,u4⟩:=HJ.rt _ _ CD
    have XO:Mv row (yn:Int) gs[j]=Aa (Aa t g) (Al t'):=by rw [oF];exact cz ht CD
    have PN:=hpr _ (List.mem_flatMap.2 ⟨(yn:Int),My.2 ⟨yn,rfl,YB⟩,List.mem_map.2 ⟨gs[j],List.getElem_mem Gt,XO⟩⟩)
    simp only [g1',g3',Int.toNat_natCast,hgj,ht,Option.getD_some]
    have mq:L<Int.toNat ((L+1:Nat):Int):=by omega
    have GO:=rh n1 n2 k (L+1) _ (G',T') (by omega) UJ PN.1 PN.2
    have Af6:((Dq k (L+1) (Aa (Aa t g) (Al t')) (G',T')).1).length=N:=GO.v.1
    have Af7:((Dq k (L+1) (Aa (Aa t g) (Al t')) (G',T')).2).length=N:=GO.v.2.1
    have KX:((N:Int)-((L+1:Nat):Int)).toNat=k:=by omega
    refine ⟨⟨by omega,by omega⟩,⟨by omega,by omega⟩,some (Aa t g),if_pos ⟨eN t1,yW t1 Ps⟩,_,HT Ps hyN,⟨by omega,by omega⟩,Al t',?_,some (Aa (Aa t g) (Al t')),?_,_,if_pos ⟨⟨N,L+1,_,rfl,?pr⟩,?lt⟩,⟨mq,?k1⟩,⟨mq,?k2⟩,⟨mq,?k3⟩,⟨mq,?k4⟩,?go⟩
    case pr=>exact ⟨n1,n2,rfl,rfl,by omega,by rw [show N-(L+1)=k by omega];exact UJ,PN.1,PN.2⟩
    case lt=>
     show ((N:Int)-((L+1:Nat):Int)).toNat<m
     omega
    case go=>
     dsimp only
     rw [Ag (by omega)]
     refine VV Gt _ rfl ⟨_,_,_,rfl,?_,?_,?_⟩
     ·show L<=min kg (Int.toNat ((L+1:Nat):Int));omega
     ·show L<=min kt (Int.toNat ((L+1:Nat):Int));omega
     ·rw [List.take_add_one,List.getElem?_eq_getElem Gt,Option.toList_some,List.map_append,<-List.append_assoc,List.foldl_append,<-uY]
      simp only [List.map_cons,List.map_nil,List.foldl_cons,List.foldl_nil,XO,KX,Int.toNat_natCast,Option.getD_some]
    case k1=>simp only [KX,Int.toNat_natCast,Option.getD_some];omega
    case k2=>simp only [KX,Int.toNat_natCast,Option.getD_some];omega
    case k3=>simp only [KX,Int.toNat_natCast,Option.getD_some];omega
    case k4=>simp only [KX,Int.toNat_natCast,Option.getD_some];omega
    ·rw [Int.toNat_natCast,CD,Option.getD_some]
     exact if_pos ⟨by show t'.length<=20;rw [u1.1];exact n2,u1.2.row⟩
    ·exact if_pos ⟨eN (t1.comp Ps),yW (t1.comp Ps) u1.inv⟩
   ·have:j=gs.length:=by omega
    subst this
    rw [Ag (by omega)]
    refine hK hl _ rfl ⟨s',kg,kt,rfl,h1,h2,?_⟩
    rw [uY,List.take_length,List.take_add_one,List.getElem?_eq_getElem hl,Option.toList_some,List.flatMap_append,PV]
    simp
  ·have:i=(Ht row).length:=by omega
   subst this
   rw [List.take_length] at hs
   refine ⟨h1,h2,?_⟩
   rw [hs]
   rfl
theorem JO {m:Nat} (SM:Co Try.prog 173 (Pf m)):Co Try.prog 173 (Pf (m+1)):=
 Co.xg (NP [Lk+7]) (Ae EC (Kc ee (Ae nD (Ae Pj (Kc SM Ao))))) mixed Try.func173 (by kernel_rfl) (by kernel_rfl) λx h=>YP x.1 x.2.1 x.2.2.1 x.2.2.2.1 x.2.2.2.2.1 h
theorem z8:Co Try.prog 173 (Pf 0):=
 Co.xg jo Ao mixed Try.func173 (by kernel_rfl) (by kernel_rfl) λ_ h=>absurd h.2 (Nat.not_lt_zero _)
theorem nB: ∀m,Co Try.prog 173 (Pf m)
 |0=>z8
 |m+1=>JO (nB m)
noncomputable abbrev sP:MSpec:=xg PZ (λx=> ∃N L q,x.2.2.2.2.1=some q/\lx N L x.1 x.2.1 x.2.2.1 x.2.2.2.1 q)
 (λx=>((x.1,(Dq (x.1-x.2.2.2.1).toNat x.2.2.2.1.toNat (x.2.2.2.2.1.getD []) (x.2.1,x.2.2.1)).1,(Dq (x.1-x.2.2.2.1).toNat x.2.2.2.1.toNat (x.2.2.2.2.1.getD []) (x.2.1,x.2.2.1)).2,()),()))
theorem z9:Co Try.prog 173 sP:=Co.YN (λx=>(x.1-x.2.2.2.1).toNat) nB
end Go.Proofs.Ytjbdmibbbpdnnaa

namespace Go.Proofs.Ytjbdmibbbpdnnaa
open Go.RowKit
def Sp (n:Nat):Cx:=List.replicate n []
def Ym (n i:Nat):Row:=(List.replicate n none).set i (some (upto n))
def Wz (n:Nat):Cx:=(List.range n).map λi=>Ym n i
def Nd (n:Nat) (gens:List PO):Cx×Cx:=gens.foldl (λs o=>Dq n 0 (o.getD []) s) (Sp n,Wz n)
noncomputable abbrev yb:MSpec:= {Gv:= [none,none],ins:= [(false, .Fm tI),(false, .Fm VD)],Ef:=false,Gb:= [none,none,none],outs:= [.Fm tI, .Ak tO QF false, .Ak tO QF false],fn:= λ_=>none,rp:=some 179}
noncomputable abbrev cw:MSpec:=xg yb (λx=>(1<=x.1/\x.1<=20)/\List.length x.2.1<=4294967296/\ ∀o∈(x.2.1:List PO),∃g,o=some g/\Pm x.1.toNat g)
 (λx=>((x.1,(Nd x.1.toNat x.2.1).1,(Nd x.1.toNat x.2.1).2,()),()))
abbrev Tn:Type:=Int×List (List (Option (List Int)))×Int×List (List (Option (List Int)))×PUnit
theorem x5 (n:Int) (gens:List (Option (List Int))) (P:(Int×List (List (Option (List Int)))×List (List (Option (List Int)))×Unit)×Unit->Prop):(((0:Int)<=n/\n<(↑Bh:Int)+(1:Int))/\n=n/\0=0/\(List.replicate n.toNat ([]:List (Option (List Int)))).length=(List.replicate n.toNat ([]:List (Option (List Int)))).length/\0=0/\0=([]:List Int).length/\Bl (λ(v3:Tn) (k4:Tn->Prop)=>Br (decide (v3.1<n)) (((0:Int)<=n/\n<(↑Bh:Int)+(1:Int))/\n=n/\ ∃(y5:Option (List Int)),Wb.fn (n,())=some y5/\((0:Int)<=v3.1/\v3.1<(↑(List.replicate n.toNat (none:Option (List Int))).length:Int))/\0+v3.1.toNat<(List.replicate n.toNat (none:Option (List Int))).length/\0=0/\(List.replicate n.toNat (none:Option (List Int))).length=((List.replicate n.toNat (none:Option (List Int))).set (0+v3.1.toNat) y5).length/\(0=0/\v3.2.2.2.1.length=v3.2.2.2.1.length)/\(0=0/\1= [(List.replicate n.toNat (none:Option (List Int))).set (0+v3.1.toNat) y5].length)/\0< [(List.replicate n.toNat (none:Option (List Int))).set (0+v3.1.toNat) y5].length/\v3.2.2.2.1.length+ [(List.replicate n.toNat (none:Option (List Int))).set (0+v3.1.toNat) y5].length<=Bh/\0=0/\v3.2.1.length=v3.2.1.length/\0=0/\(v3.2.2.2.1++ [(List.replicate n.toNat (none:Option (List Int))).set (0+v3.1.toNat) y5]).length=(v3.2.2.2.1++ [(List.replicate n.toNat (none:Option (List Int))).set (0+v3.1.toNat) y5]).length/\k4 (IntKind.i64.wrap (v3.1+(1:Int)),v3.2.1,v3.2.2.1,v3.2.2.2.1++ [(List.replicate n.toNat (none:Option (List Int))).set (0+v3.1.toNat) y5],())) (0=0/\v3.2.1.length=v3.2.1.length/\0=0/\v3.2.2.2.1.length=v3.2.2.2.1.length/\Bl (λ(v5:Tn) (k6:Tn->Prop)=>Br (decide (v5.1<(↑gens.length:Int))) (∃(y7:Option (List Int)),idx gens v5.1=some y7/\0=0/\v5.2.1.length=v5.2.1.length/\0=0/\v5.2.2.2.1.length=v5.2.2.2.1.length/\ ∃(y8:(Int×List (List (Option (List Int)))×List (List (Option (List Int)))×PUnit)×PUnit),sP.fn (v5.2.2.1,v5.2.1,v5.2.2.2.1,(0:Int),y7,())=some y8/\0=0/\y8.1.2.1.length=y8.1.2.1.length/\0=0/\y8.1.2.2.1.length=y8.1.2.2.1.length/\k6 (IntKind.i64.wrap (v5.1+(1:Int)),y8.1.2.1,y8.1.1,y8.1.2.2.1,())) ((0=0/\v5.2.1.length=v5.2.1.length)/\(0=0/\v5.2.2.2.1.length=v5.2.2.2.1.length)/\P ((v5.2.2.1,v5.2.1,v5.2.2.2.1,()),()))) ((0:Int),v3.2.1,v3.2.2.1,v3.2.2.2.1,PUnit.unit))) ((0:Int),List.replicate n.toNat ([]:List (Option (List Int))),n,[],PUnit.unit))=fnMW To (look [(127,Wb),(173,sP)]) cw Try.f154 (n,gens,()) P:=by kernel_rfl
theorem Vh (n i:Nat):(Sp n).getD i []= []:=by
 unfold Sp
 rw [List.getD_eq_getElem?_getD,List.getElem?_replicate]
 split<;>rfl
theorem fu {n i:Nat} (h:i<n):(Wz n).getD i []=Ym n i:=by
 unfold Wz
 rw [List.getD_eq_getElem?_getD,List.getElem?_map,List.getElem?_range h]
 rfl
theorem gY {n i y:Nat} (h:i<n):(Ym n i).getD y none=if i=y then some (upto n) else none:=by
 unfold Ym
 rw [Qf,List.length_replicate]
 by_cases e:i=y
 ·rw [if_pos ⟨e,h⟩,if_pos e]
 ·rw [if_neg (λhh=>e hh.1),if_neg e,List.getD_eq_getElem?_getD,List.getElem?_replicate]
  split<;>rfl
theorem nU {n:Nat} (h1:1<=n) (h2:n<=20): ∀(k l:Nat),l+k=n->eC n k l (Sp n,Wz n)
 |0,l,hk=>Vh n l
 |k+1,l,hk=>by
  have hl:l<n:=by omega
  have hg: ∀(g:List Int) (j:Nat),some g∈(Sp n).getD j []->False:= λg j hg=>by rw [Vh] at hg;cases hg
  refine ⟨nU h1 h2 k (l+1) (by omega),⟨λo ho=>?_,?_,?_,λy t e0=>?_,λy t g _ Yq=>(hg _ _ Yq).elim,λy t g t' _ Yq=>(hg _ _ Yq).elim⟩,λg Yq=>(hg _ _ Yq).elim⟩
  ·have ho:o∈(Sp n).getD l []:=ho
   rw [Vh] at ho;cases ho
  ·show ((Wz n).getD l []).length=n
   rw [fu hl];simp [Ym]
  ·show ((Wz n).getD l []).getD l none=_
   rw [fu hl,gY hl,if_pos rfl]
  ·replace e0:((Wz n).getD l []).getD y none=some t:=e0
   rw [fu hl,gY hl] at e0
   by_cases hy:l=y
   ·rw [if_pos hy] at e0
    have e1:=Option.some.inj e0
    subst e1 hy
    exact ⟨Pm.id h1 h2,λi hi=>dE (by omega),dE hl, .id⟩
   ·rw [if_neg hy] at e0;cases e0
theorem wH (n:Nat): ∀(k l:Nat),VH k l (Sp n,Wz n)
 |0,_=>trivial
 |k+1,l=>⟨wH n k (l+1),by show ((Sp n).getD l []).length<=_;rw [Vh];exact Nat.zero_le _⟩
theorem AY {n:Nat} (h1:1<=n) (h2:n<=20):V n n 0 (Sp n,Wz n):=⟨by simp [Sp],by simp [Wz],nU h1 h2 n 0 (by omega),wH n n 0⟩
def PmL (n:Nat) (gens:List PO):Prop:= ∀o∈gens,∃g,o=some g/\Pm n g
theorem u6 {n:Nat} {gens:List PO} {j:Nat} (hj:j<gens.length):Nd n (gens.take (j+1))=Dq n 0 (gens[j].getD []) (Nd n (gens.take j)):=by
 unfold Nd
 rw [List.take_add_one,List.getElem?_eq_getElem hj,Option.toList_some,List.foldl_append]
 rfl
theorem iv {n:Nat} (h1:1<=n) (h2:n<=20): ∀(gens:List PO) (s:Cx×Cx),PmL n gens->V n n 0 s->V n n 0 (gens.foldl (λs o=>Dq n 0 (o.getD []) s) s)/\
  Wm 0 s (gens.foldl (λs o=>Dq n 0 (o.getD []) s) s)/\(∀g,some g∈gens->Gn n ((gens.foldl (λs o=>Dq n 0 (o.getD []) s) s).1.getD 0 []) g)/\ ∀o∈(gens.foldl (λs o=>Dq n 0 (o.getD []) s) s).1.getD 0 [],o∈s.1.getD 0 []\/o∈gens
 | [],s,_,hv=>⟨hv,Wm.refl _ _,(λ_ hg=>by cases hg),λ_ ho=> .inl ho⟩
 |o::gens,s,hg,hv=>by
  obtain ⟨g,rfl,Ps⟩:=hg o (by simp)
  have ha:=rh h1 h2 n 0 g s (by omega) hv Ps (λi hi=>absurd hi (Nat.not_lt_zero _))
  obtain ⟨a1,a2,a3,a4⟩:=iv h1 h2 gens (Dq n 0 g s) (λo ho=>hg o (by simp [ho])) ha.v
  refine ⟨a1,ha.grow.trans a2 (Nat.le_refl _),λg' Yq=>?_,λo ho=>?_⟩
  ·rcases List.mem_cons.1 Yq with e|Yq
   ·cases e;exact ha.YJ.mono λg hg=>a2.zW _ _ hg
   ·exact a3 g' Yq
  ·rcases a4 o ho with h|h
   ·rcases ha.gens o h with h|h
    ·exact .inl h
    ·exact .inr (by simp [h])
   ·exact .inr (by simp [h])
theorem u5 {n:Nat} (h1:1<=n) (h2:n<=20) {gens:List PO} (hg:PmL n gens):V n n 0 (Nd n gens):=(iv h1 h2 gens _ hg (AY h1 h2)).1
theorem me {n:Nat} (h1:1<=n) (h2:n<=20) {gens:List PO} (hg:PmL n gens) {p:List Int} (hp:Pm n p):Is (Nd n gens).2 n 0 p=true↔Gn n gens p:=by
 obtain ⟨a1,a2,a3,a4⟩:=iv h1 h2 gens _ hg (AY h1 h2)
 have hS:zG n λg=>some g∈gens:=⟨⟨h1,h2⟩,λg Yq=>by obtain ⟨g',e,h⟩:=hg _ Yq;cases e;exact h⟩
 have Qh: ∀g,some g∈(Nd n gens).1.getD 0 []->some g∈gens:= λg Yq=>by
  rcases a4 _ Yq with h|h
  ·have h:some g∈(Sp n).getD 0 []:=h
   rw [Vh] at h;cases h
  ·exact h
 have VX:zG n λg=>some g∈(Nd n gens).1.getD 0 []:=⟨⟨h1,h2⟩,λg Yq=>hS.2 g (Qh g Yq)⟩
 refine (gk h1 h2 n 0 (Nd n gens) (by omega) a1.2.2.1 p hp λi hi=>absurd hi (Nat.not_lt_zero _)).trans ⟨λh=>h.mono Qh,λh=>h.trans VX λg Yq=>a3 g Yq⟩
theorem wc (n:Int) (gens:List (Option (List Int))) (h:(1<=n/\n<=20)/\List.length gens<=4294967296/\ ∀o∈(gens:List PO),∃g,o=some g/\Pm n.toNat g):
  fnMW To (look [(127,Wb),(173,sP)]) cw Try.f154 (n,gens,()) (λ(z:(Int×List (List (Option (List Int)))×List (List (Option (List Int)))×Unit)×Unit)=>z=((n,(Nd n.toNat gens).1,(Nd n.toNat gens).2,()),())):=by
 obtain ⟨⟨h1,h2⟩,h3,hg⟩:=h
 obtain ⟨N,rfl⟩: ∃N:Nat,n=N:=⟨n.toNat,by omega⟩
 rw [Int.toNat_natCast] at hg⊢
 have h1:1<=N:=by omega
 have h2:N<=20:=by omega
 refine Eq.mp (x5 (N:Int) gens _) ?_
 have hm:((0:Int)<=(N:Int)/\(N:Int)<(Bh:Int)+1):=⟨by omega,by show (N:Int)<(4294967296:Int)+1;omega⟩
 simp only [hm,and_self,eq_self,true_and,Int.toNat_natCast,Nat.zero_add,List.length_nil,List.length_set,List.length_replicate,List.length_cons,Nat.lt_add_one,List.length_append]
 refine Ai N (λv=>v.1) (λj v=>v=((j:Int),Sp N,(N:Int),(List.range j).map (Ym N),())) rfl rfl ?_
 rintro j v K hj hi rfl hK
 dsimp only
 refine Br.dec (λhl=>?_) λhl=>?_
 ·refine ⟨_,if_pos ⟨by show (1:Int)<=N;omega,by show (N:Int)<=20;omega⟩,⟨by omega,by omega⟩,by rw [Int.toNat_natCast];omega,?_,?_⟩
  ·show _<=4294967296
   simp only [List.length_map,List.length_range]
   omega
  ·rw [Ag (by omega)]
   refine hK (by omega) _ rfl ?_
   rw [List.range_succ,List.map_append]
   rfl
 ·have:j=N:=by omega
  subst this
  refine Ai gens.length (λv=>v.1) (λi v=>v=((i:Int),(Nd j (gens.take i)).1,(j:Int),(Nd j (gens.take i)).2,())) rfl rfl ?_
  rintro i v K' om Ah5 rfl VV
  dsimp only
  refine Br.dec (λGt=>?_) λGt=>?_
  ·have Gt:i<gens.length:=by omega
   obtain ⟨g,oF,Ps⟩:=hg gens[i] (List.getElem_mem Gt)
   have hv:=u5 h1 h2 (gens:=gens.take i) λo ho=>hg o (List.mem_of_mem_take ho)
   refine ⟨_,An Gt,_,if_pos ⟨j,0,g,oF,h1,h2,rfl,rfl,Nat.zero_le _,hv,Ps,λi hi=>absurd hi (Nat.not_lt_zero _)⟩,?_⟩
   rw [Ag (by omega)]
   refine VV Gt _ rfl ?_
   rw [u6 Gt]
   simp only [Int.sub_zero,Int.toNat_natCast]
   rfl
  ·have:i=gens.length:=by omega
   subst this
   rw [List.take_length]
theorem kW:Co Try.prog 154 cw:=
 Co.xg jo (Ae kQ (Kc z9 Ao)) mixed Try.func154 (by kernel_rfl) (by kernel_rfl) λx h=>wc x.1 x.2.1 h
end Go.Proofs.Ytjbdmibbbpdnnaa

namespace Go.Proofs.Ytjbdmibbbpdnnaa
open Go.RowKit
def Uz (T:Cx):Nat->Nat
 |0=>1
 |j+1=>Uz T j*(Ht (T.getD j [])).length
noncomputable abbrev dr:Spec:=Cu (.pair (.ptr tq) (.pair tI .unit)) tI false true (λx=>x.2.1=0/\ ∃N:Nat,(1<=N/\N<=20)/\x.1.1=N/\V N N 0 (x.1.2.1,x.1.2.2.1)) (λx=>(Uz x.1.2.2.1 x.1.1.toNat:Int))
noncomputable abbrev vf:MSpec:= {Gv:= [none,none],ins:= [(false, .Fm tI),(false, .Fm dt)],Ef:=false,Gb:= [none,none,none],outs:= [.Fm tI, .Ak tO QF false, .Ak tO QF false],fn:= λ_=>none,rp:=some 179}
def Tc (n:Int) (g:List (List Int)):Cx×Cx:=Nd n.toNat (g.map some)
noncomputable abbrev Qs:MSpec:=xg vf (λx=>(1<=x.1/\x.1<=20)/\List.length x.2.1<=4294967296/\ ∀g∈(x.2.1:List (List Int)),Pm x.1.toNat g)
 (λx=>((x.1,(Tc x.1 x.2.1).1,(Tc x.1 x.2.1).2,()),()))
noncomputable def Ox (p:PP):Int:=if Bg p=true then (Uz (Tc p.1 p.2.2.1).2 p.1.toNat:Int) else 0
noncomputable abbrev Ly:Spec:=Cu (.pair Dm .unit) tI false true (λx=>Cp x.1) (λx=>Ox x.1)
theorem NY (c:Int×List (List (Option (List Int)))×List (List (Option (List Int)))×Unit) (l:Int) (P:Int->Prop):(Bl (λ(v3:Int×Int×PUnit) (k4:Int×Int×PUnit->Prop)=>Br (decide (v3.2.1<c.1)) (∃(y5:List (Option (List Int))),idx c.2.2.1 v3.2.1=some y5/\ ∃(y6:(List Int×PUnit)×PUnit),Kn.fn (y5,())=some y6/\ ∃(y7:Int),Qr.fn (List.take y6.1.1.length (List.drop 0 y6.1.1),())=some y7/\k4 (IntKind.i64.wrap (v3.1*y7),IntKind.i64.wrap (v3.2.1+(1:Int)),())) (P v3.1)) ((1:Int),l,PUnit.unit))=fnW To (look [(174,Kn),(82,Qr)]) dr Try.f155 (c,l,()) P:=by kernel_rfl
theorem tN (p:Int×ByteArray×List (List Int)×Unit) (P:Int->Prop):(∃(y2:Bool),Dv.fn ((p.1,p.2.1,p.2.2.1,()),())=some y2/\Br (!y2) (P (0:Int)) (∃(y3:(Int×List (List (Option (List Int)))×List (List (Option (List Int)))×PUnit)×PUnit),Qs.fn (p.1,p.2.2.1,())=some y3/\ ∃(y4:Int),dr.fn ((y3.1.1,List.take y3.1.2.1.length (List.drop 0 y3.1.2.1),List.take y3.1.2.2.1.length (List.drop 0 y3.1.2.2.1),()),(0:Int),())=some y4/\P y4))=fnW Cj (look [(130,Dv),(154,Qs),(155,dr)]) Ly Try.f126 (p,()) P:=by kernel_rfl
theorem NR (n i:Nat):(upto n).countP (λy=>decide ((i:Int)<=y))=n-i:=by
 induction n with
 |zero=>simp [upto]
 |succ n ih=>
  rw [Yo,List.countP_append,ih]
  simp only [List.countP_cons,List.countP_nil,decide_eq_true_eq]
  split<;>omega
theorem MX {n i:Nat} {gs:List PO} {row:Row} {H:List Int->Prop} (hi:i<n) (h:LH n i gs row H):(Ht row).length<=n-i:=by
 rw [<-NR n i]
 unfold Ht
 rw [h.rl,<-List.countP_eq_length_filter]
 refine List.countP_mono_left λy hy hs=>?_
 obtain ⟨h1,h2⟩:=Ig.1 hy
 obtain ⟨t,ht⟩:=Option.isSome_iff_exists.1 hs
 obtain ⟨t1,t2,t3,_⟩:=h.rt _ _ ht
 refine decide_eq_true ?_
 refine Classical.byContradiction λhn=>?_
 have hy':y.toNat<i:=by omega
 have:=t1.inj hi (by omega:y.toNat<n) (by rw [t3,t2 _ hy'])
 omega
def fact:Nat->Nat
 |0=>1
 |n+1=>(n+1)*fact n
theorem uI: ∀n,1<=fact n
 |0=>Nat.le_refl _
 |n+1=>by have:=uI n;simp only [fact];exact Nat.le_trans this (Nat.le_mul_of_pos_left _ (by omega))
theorem BP {a b:Nat} (h:a<=b):fact a<=fact b:=by
 induction h with
 |refl=>exact Nat.le_refl _
 |step _ ih=>simp only [fact];exact Nat.le_trans ih (Nat.le_mul_of_pos_left _ (by omega))
theorem IV {n:Nat} {s:Cx×Cx} (hc:eC n n 0 s): ∀j,j<=n->Uz s.2 j*fact (n-j)<=fact n
 |0,_=>by simp [Uz]
 |j+1,hj=>by
  have ih:=IV hc j (by omega)
  have h1:=MX (by omega) (fP n 0 hc j (by omega) (by omega))
  have e:n-j=(n-(j+1))+1:=by omega
  simp only [Uz]
  rw [e] at ih h1
  simp only [fact] at ih
  rw [Nat.mul_assoc]
  exact Nat.le_trans (Nat.mul_le_mul_left _ (Nat.mul_le_mul_right _ h1)) ih
theorem CV {n:Nat} (h2:n<=20) {s:Cx×Cx} (hc:eC n n 0 s) {j:Nat} (hj:j<=n):Uz s.2 j<=2432902008176640000:=by
 have h1:=IV hc j hj
 have h3:=uI (n-j)
 have h4:fact n<=2432902008176640000:=Nat.le_trans (BP h2) (by decide)
 have h5:Uz s.2 j*1<=Uz s.2 j*fact (n-j):=Nat.mul_le_mul_left _ h3
 omega
theorem ND (c:Int×List (List (Option (List Int)))×List (List (Option (List Int)))×Unit) (l:Int) (h:l=0/\ ∃N:Nat,(1<=N/\N<=20)/\c.1=N/\V N N 0 (c.2.1,c.2.2.1)):
  fnW To (look [(174,Kn),(82,Qr)]) dr Try.f155 (c,l,()) (λ(z:Int)=>z=(Uz c.2.2.1 c.1.toNat:Int)):=by
 obtain ⟨rfl,N,⟨h1,h2⟩,hN,v⟩:=h
 obtain ⟨n,G,T,⟨⟩⟩:=c
 dsimp only at hN v⊢
 subst hN
 refine Eq.mp (NY ((N:Int),G,T,()) 0 _) ?_
 obtain ⟨v1,v2,v3,v4⟩:=v
 dsimp only at v1 v2⊢
 rw [Int.toNat_natCast]
 refine Ai N (λv=>v.2.1) (λj v=>v.1=(Uz T j:Int)) rfl rfl ?_
 rintro j ⟨o,i,⟨⟩⟩ K hj hi ho hK
 dsimp only at hi ho⊢
 subst hi ho
 refine Br.dec (λhl=>?_) λhl=>?_
 ·have hl:j<N:=by omega
  have hT:j<T.length:=by omega
  have Tj:=fP N 0 v3 j (by omega) (by omega)
  have XL:=Tj.rl
  dsimp only at XL
  rw [uP hT] at XL
  refine ⟨_,An hT,_,if_pos (by show (T[j]).length<=20;omega),_,if_pos trivial,?_⟩
  rw [List.drop_zero,List.take_length,Ag (by omega)]
  have hb:=CV h2 v3 (j:=j+1) (by omega)
  simp only [Uz] at hb
  rw [uP hT] at hb
  have e:(Uz T j:Int)*((Ht T[j]).length:Int)=((Uz T j*(Ht T[j]).length:Nat):Int):=by push_cast;rfl
  show K (IntKind.i64.wrap ((Uz T j:Int)*((Ht T[j]).length:Int)),_,())
  rw [e,Ci (by omega) (by omega)]
  refine hK hl _ rfl ?_
  simp only [Uz]
  rw [uP hT]
 ·have:j=N:=by omega
  subst this
  rfl
theorem wG:Sound Try.prog 155 dr:=
 Sound.Cu jo (Kc ee (Ae fp Ao)) mixed Try.func155 (by kernel_rfl) (by kernel_rfl) λx h=>ND x.1 x.2.1 h
theorem Cells.told {w:World} {S:Nat->Prop} {e:Ty} {cs:List Value} {xs:List e.den} (h:Cells w S (.slice e) cs xs): ∃o:Option (List e.den),Cells w S (.oslice e) cs o/\o.getD []=xs:=by
 simp only [Cells] at h
 obtain ⟨a,len,cap,rfl,h1,h2,h3⟩:=h
 cases a with
 |none=>
  rcases h3 with rfl|⟨g,o,h,_⟩
  ·refine ⟨none,?_,rfl⟩
   simp only [Cells]
   exact .inl ⟨trivial,cap,by rw [h1];rfl⟩
  ·cases h
 |some ad=>
  refine ⟨some xs,?_,rfl⟩
  simp only [Cells]
  exact .inr ⟨xs,ad,len,cap,rfl,rfl,h1,h2,h3.imp id λ⟨g,o,h,h4⟩=>⟨g,o,Option.some.inj h,h4⟩⟩
theorem xl {α β:Type} (Q:Nat->α->β->Prop): ∀(xs:List α),(∀i x,xs[i]?=some x-> ∃y,Q i x y)-> ∃ys:List β,ys.length=xs.length/\ ∀i x y,xs[i]?=some x->ys[i]?=some y->Q i x y:=by
 intro xs h
 refine ⟨List.ofFn λi:Fin xs.length=>Classical.choose (h i xs[i] (List.getElem?_eq_getElem i.2)),by simp,λi x y h1 h2=>?_⟩
 obtain ⟨hi,rfl⟩:=List.getElem?_eq_some_iff.1 h1
 obtain ⟨om,rfl⟩:=List.getElem?_eq_some_iff.1 h2
 rw [List.getElem_ofFn]
 exact Classical.choose_spec (h i xs[i] (List.getElem?_eq_getElem hi))
theorem Bd.ZL {w:World} {S:Nat->Prop} {e:Ty} {v:Value} {xs:List (List e.den)} (h:Bd w S (.slice (.slice e)) v xs): ∃os:List (Option (List e.den)),Bd w S (.slice (.oslice e)) v os/\os.map (·.getD [])=xs:=by
 obtain ⟨cs,hc,rfl⟩:=h
 simp only [Cells] at hc
 obtain ⟨a,len,cap,rfl,h1,h2,h3⟩:=hc
 rcases h3 with rfl|⟨g,o,rfl,hg,hS,h4⟩
 ·refine ⟨[],⟨_,?_,rfl⟩,rfl⟩
  simp only [Cells]
  exact ⟨a,len,cap,rfl,h1,h2, .inl trivial⟩
 ·obtain ⟨os,e1,e2⟩:=xl (λi (x:List e.den) (y:Option (List e.den))=>y.getD []=x/\ ∃es:List Value,es.length=1/\(∀j u,es[j]?=some u->w.cell? ⟨g,o+i*1+j,none⟩=some u)/\Cells w S (.oslice e) es y) xs λi x hx=>by
   obtain ⟨es,k1,k2,k3⟩:=h4 i x hx
   obtain ⟨y,k4,k5⟩:=Cells.told (e:=e) (by simp only [Cells];exact k3)
   exact ⟨y,k5,es,k1,k2,k4⟩
  refine ⟨os,⟨_,?_,rfl⟩,?_⟩
  ·simp only [Cells]
   refine ⟨_,len,cap,rfl,by rw [h1,e1],h2, .inr ⟨g,o,rfl,hg,hS,λi y hy=>?_⟩⟩
   obtain ⟨hi,_⟩:=List.getElem?_eq_some_iff.1 hy
   obtain ⟨_,es,k1,k2,k3⟩:=e2 i _ y (List.getElem?_eq_getElem (by omega)) hy
   simp only [Cells] at k3
   exact ⟨es,k1,k2,k3⟩
  ·refine List.ext_getElem (by simp [e1]) λi g1 g2=>?_
   rw [List.getElem_map]
   exact (e2 i _ _ (List.getElem?_eq_getElem g2) (List.getElem?_eq_getElem (by omega))).1
theorem nI:Co Try.prog 154 Qs:=by
 have h:=kW
 refine ⟨h.enter,λw S π us x r o g vs h1 hg h2 h3 hS h4 h5=>?_⟩
 obtain ⟨n,gens,⟨⟩⟩:=x
 match us,h2 with
 |u1::u2::us,h2=>
  obtain ⟨h6,⟨h7,h8⟩,h9⟩:=h2
  obtain ⟨os,jG,dN⟩:=Bd.ZL (e:=tI) h8
  have dN:os.map (·.getD [])=(gens:List (List Int)):=dN
  have eW:(1<=n/\n<=20)/\List.length gens<=4294967296/\ ∀g∈(gens:List (List Int)),Pm n.toNat g:=Classical.byContradiction λhn=>by
   have:Qs.fn (n,gens,())=none:=if_neg hn
   rw [this] at h5;cases h5
  have hos:os=gens.map some:=by
   rw [<-dN,List.map_map]
   refine (List.map_id os).symm.trans (List.map_congr_left λx hx=>?_)
   cases x with
   |some y=>rfl
   |none=>
    have:=eW.2.2 [] (by rw [<-dN];exact List.mem_map.2 ⟨none,hx,rfl⟩)
    have h1:=this.n1
    have h2:=this.1
    simp at h2
    omega
  have hv:Qs.fn (n,gens,())=some ((n,(Tc n gens).1,(Tc n gens).2,()),()):=if_pos eW
  rw [hv] at h5
  have h5:=Option.some.inj h5
  refine h.calls w S π (u1::u2::us) (n,os,()) r o g vs h1 hg ⟨h6,⟨h7,jG⟩,h9⟩ h3 hS h4 ?_
  refine (if_pos ⟨eW.1,by rw [hos,List.length_map];exact eW.2.1,λy hy=>?pp⟩).trans (congrArg some ?qq)
  case pp=>
   replace hy:y∈os:=hy
   rw [hos] at hy
   obtain ⟨g,hg,rfl⟩:=List.mem_map.1 hy
   exact ⟨g,rfl,eW.2.2 g hg⟩
  case qq=>subst hos;exact h5
theorem fO {p:PP} (hv:Valid p):(1<=p.1/\p.1<=20)/\List.length p.2.2.1<=4294967296/\ ∀g∈p.2.2.1,Pm p.1.toNat g:=
 ⟨hv.n,by have:=hv.kE;omega,λg hg=>⟨by have:=hv.len g hg;omega,j4 (hv.perm g hg)⟩⟩
theorem nf {n:Nat} {g:List (List Int)} (h: ∀x∈g,Pm n x):PmL n (g.map some):= λo ho=>by
 obtain ⟨x,hx,rfl⟩:=List.mem_map.1 ho
 exact ⟨x,rfl,h x hx⟩
theorem rz {p:PP} (hv:Valid p):V p.1.toNat p.1.toNat 0 (Tc p.1 p.2.2.1):=by
 have:=hv.n
 exact u5 (by omega) (by omega) (nf (fO hv).2.2)
theorem sC (p:PP) (h:Cp p):fnW Cj (look [(130,Dv),(154,Qs),(155,dr)]) Ly Try.f126 (p,()) (λ(z:Int)=>z=Ox p):=by
 refine Eq.mp (tN p _) ⟨_,if_pos h,?_⟩
 show Br (!Bg p) _ _
 unfold Ox
 cases hv:Bg p with
 |false=>exact Br.of (λ_=>rfl) λhh=>by cases hh
 |true=>
  refine Br.of (λhh=>by cases hh) λ_=>?_
  have hV:=valid hv
  have hn:=hV.n
  refine ⟨_,if_pos (fO hV),_,if_pos ⟨rfl,p.1.toNat,⟨by omega,by omega⟩,(Int.toNat_of_nonneg (by omega:(0:Int)<=p.1)).symm,?vv⟩,?_⟩
  case vv=>
   simp only [List.drop_zero,List.take_length]
   exact rz hV
  simp only [List.drop_zero,List.take_length]
  exact (if_pos trivial).symm
theorem jk:Sound Try.prog 126 Ly:=
 Sound.Cu Bj (Ae Qw (Kc nI (Ae wG Ao))) mixed Try.func126 (by kernel_rfl) (by kernel_rfl) λx h=>sC x.1 h
end Go.Proofs.Ytjbdmibbbpdnnaa

namespace Go.Proofs.Ytjbdmibbbpdnnaa
open Go.RowKit
theorem c6 {α:Type} [DecidableEq α]: ∀ {l1 l2:List α},l1.Nodup->(∀x∈l1,x∈l2)->l1.length<=l2.length
 | [],_,_,_=>Nat.zero_le _
 |a::l,l2,hn,hs=>by
  obtain ⟨h1,h2⟩:=List.nodup_cons.1 hn
  have ha:=hs a (by simp)
  have:=c6 (l1:=l) (l2:=l2.erase a) h2 λy hy=>by
   have hya:y≠a:= λe'=>h1 (by rw [<-e'];exact hy)
   exact (List.mem_erase_of_ne hya).2 (hs y (by simp [hy]))
  rw [List.length_erase_of_mem ha] at this
  have:=List.length_pos_of_mem ha
  simp only [List.length_cons]
  omega
def iT (n:Nat) (T:Cx):Nat->Nat->List (List Int)
 |0,_=> [upto n]
 |k+1,l=>(Ht (T.getD l [])).flatMap λy=>(iT n T k (l+1)).map λq=>Aa q (((T.getD l []).getD y.toNat none).getD [])
def qC (T:Cx):Nat->Nat->Nat
 |0,_=>1
 |k+1,l=>(Ht (T.getD l [])).length*qC T k (l+1)
theorem vK (n:Nat) (T:Cx): ∀k l,(iT n T k l).length=qC T k l
 |0,_=>rfl
 |k+1,l=>by
  simp only [iT,qC,List.length_flatMap,List.length_map,vK n T k (l+1)]
  generalize Ht (T.getD l [])=o
  induction o with
  |nil=>simp
  |cons a o ih=>simp only [List.map_cons,List.sum_cons,ih,List.length_cons,Nat.succ_mul];omega
theorem qt (T:Cx): ∀k j,Uz T (j+k)=Uz T j*qC T k j
 |0,j=>by simp [qC]
 |k+1,j=>by
  have:=qt T k (j+1)
  rw [show j+(k+1)=j+1+k by omega,this]
  simp only [Uz,qC]
  rw [Nat.mul_assoc]
theorem vY (n:Nat) (T:Cx):(iT n T n 0).length=Uz T n:=by
 rw [vK,show Uz T n=Uz T (0+n) by rw [Nat.zero_add],qt]
 simp [Uz]
theorem mK {n:Nat} (h1:1<=n) (h2:n<=20) {s:Cx×Cx} : ∀(k l:Nat),l+k=n->eC n k l s-> ∀p,p∈iT n s.2 k l↔Pm n p/\Fx l p/\Is s.2 k l p=true
 |0,l,hk,hc,p=>by
  have hl:l=n:=by omega
  subst hl
  simp only [iT,List.mem_singleton]
  exact ⟨λe=>by subst e;exact ⟨Pm.id h1 h2,λi hi=>dE hi,rfl⟩,λh=>h.2.1.all h.1⟩
 |k+1,l,hk,hc,p=>by
  obtain ⟨c1,c2,c3⟩:=hc
  have ih:=mK h1 h2 k (l+1) (by omega) c1
  have aB:l<n:=by omega
  simp only [iT,List.mem_flatMap,List.mem_map]
  constructor
  ·rintro ⟨y,hy,q,hq,rfl⟩
   obtain ⟨yn,rfl,PV⟩:=My.1 hy
   obtain ⟨t,ht⟩:=Option.ne_none_iff_exists'.1 PV
   obtain ⟨t1,t2,t3,t4⟩:=c2.rt _ _ ht
   obtain ⟨q1,q2,q3⟩:=(ih q).1 hq
   rw [Int.toNat_natCast,ht,Option.getD_some]
   have hap:ap (Aa q t) l=yn:=by rw [Ft q1 t1 aB,q2 l (by omega),t3]
   refine ⟨q1.comp t1,λi hi=>by rw [Ft q1 t1 (by omega),q2 i (by omega),t2 i hi],?_⟩
   simp only [Is]
   rw [show (Jd (Aa q t) (l:Int)).toNat=ap (Aa q t) l from rfl,hap,ht]
   show Is s.2 k (l+1) (Aa (Aa q t) (Al t))=true
   rw [Eb q1 t1 t1.inv,bw t1,comp_id q1]
   exact q3
  ·rintro ⟨p1,p2,p3⟩
   simp only [Is] at p3
   rw [show (Jd p (l:Int)).toNat=ap p l from rfl] at p3
   split at p3
   ·cases p3
   ·rename_i t ht
    obtain ⟨t1,t2,t3,t4⟩:=c2.rt _ _ ht
    refine ⟨(ap p l:Int),My.2 ⟨ap p l,rfl,by rw [ht];simp⟩,Aa p (Al t),(ih _).2 ⟨p1.comp t1.inv,Fx.div p1 t1 p2 t2 aB t3,p3⟩,?_⟩
    rw [Int.toNat_natCast,ht,Option.getD_some,Eb p1 t1.inv t1,Ut t1,comp_id p1]
theorem mL {n:Nat} (h1:1<=n) (h2:n<=20) {s:Cx×Cx} : ∀(k l:Nat),l+k=n->eC n k l s->(iT n s.2 k l).Nodup
 |0,l,hk,hc=>by simp [iT]
 |k+1,l,hk,hc=>by
  obtain ⟨c1,c2,c3⟩:=hc
  have ih:=mL h1 h2 k (l+1) (by omega) c1
  have hm:=mK h1 h2 k (l+1) (by omega) c1
  have aB:l<n:=by omega
  have rep: ∀y∈Ht (s.2.getD l []),∃(yn:Nat) (t:List Int),y=yn/\((s.2.getD l []).getD y.toNat none).getD []=t/\Pm n t/\ap t l=yn:= λy hy=>by
   obtain ⟨yn,rfl,PV⟩:=My.1 hy
   obtain ⟨t,ht⟩:=Option.ne_none_iff_exists'.1 PV
   obtain ⟨t1,t2,t3,t4⟩:=c2.rt _ _ ht
   exact ⟨yn,t,rfl,by rw [Int.toNat_natCast,ht];rfl,t1,t3⟩
  simp only [iT]
  refine List.pairwise_flatMap.2 ⟨λy hy=>?_,?_⟩
  ·obtain ⟨yn,t,rfl,e,t1,t3⟩:=rep y hy
   rw [e]
   refine List.pairwise_map.2 (List.Pairwise.imp_of_mem ?_ ih)
   intro a b ha hb Fe he
   have ha:=((hm a).1 ha).1
   have hb:=((hm b).1 hb).1
   have h3:=congrArg (λz=>Aa z (Al t)) he
   simp only [Eb ha t1 t1.inv,Eb hb t1 t1.inv,bw t1,comp_id ha,comp_id hb] at h3
   exact Fe h3
  ·refine List.Pairwise.imp_of_mem ?_ ((o7 _).filter _)
   intro y z hy hz Fe a ha b hb he
   obtain ⟨yn,t,rfl,e,t1,t3⟩:=rep y hy
   obtain ⟨zn,u,rfl,e',u1,u3⟩:=rep z hz
   rw [e] at ha
   rw [e'] at hb
   obtain ⟨q,hq,rfl⟩:=List.mem_map.1 ha
   obtain ⟨q',dQ,rfl⟩:=List.mem_map.1 hb
   obtain ⟨a1,a2,_⟩:=(hm q).1 hq
   obtain ⟨b1,b2,_⟩:=(hm q').1 dQ
   have h3:=congrArg (λz=>ap z l) he
   simp only [Ft a1 t1 aB,Ft b1 u1 aB,a2 l (by omega),b2 l (by omega),t3,u3] at h3
   exact Fe (by rw [h3])
theorem ix {g:List (List Int)} (Q:List Int->Prop) {x:List Int} {d:Int} : ∀(ls:List Int) (L:List (List Int)) (D:List Int),(∀l∈ls,Q (Aa x (Af g l)))->(∀y∈L,Q y)->
  (∀y∈(Ea g x d ls L D).1,Q y)/\(∀y∈L,y∈(Ea g x d ls L D).1)/\((Ea g x d ls L D).2.2=true-> ∀l∈ls,Aa x (Af g l)∈(Ea g x d ls L D).1)/\
   ((Ea g x d ls L D).2.2=false->(Ea g x d ls L D).1.length=3000/\ ∃z,Q z/\z∉(Ea g x d ls L D).1)
 | [],L,D,_,h=>⟨h,λ_ h=>h,(λ_ l hl=>by cases hl),(λe=>by cases e)⟩
 |l::ls,L,D,hq,h=>by
  have dQ: ∀l∈ls,Q (Aa x (Af g l)):= λl' h'=>hq l' (List.mem_cons_of_mem _ h')
  simp only [Ea]
  split
  ·rename_i hm
   obtain ⟨a1,a2,a3,a4⟩:=ix Q (d:=d) ls L D dQ h
   refine ⟨a1,a2,λe l' Gt=>?_,a4⟩
   rcases List.mem_cons.1 Gt with rfl|Gt
   ·exact a2 _ hm
   ·exact a3 e l' Gt
  ·rename_i hn
   split
   ·rename_i hf
    exact ⟨h,λ_ h=>h,(λe=>by cases e),λ_=>⟨hf,_,hq l (by simp),hn⟩⟩
   ·obtain ⟨a1,a2,a3,a4⟩:=ix Q (d:=d) ls (L++ [Aa x (Af g l)]) (D++ [d+1]) dQ λy hy=>by
     rcases List.mem_append.1 hy with hy|hy
     ·exact h y hy
     ·rw [List.mem_singleton.1 hy];exact hq l (by simp)
    refine ⟨a1,λy hy=>a2 y (List.mem_append_left _ hy),λe l' Gt=>?_,a4⟩
    rcases List.mem_cons.1 Gt with rfl|Gt
    ·exact a2 _ (List.mem_append_right _ (by simp))
    ·exact a3 e l' Gt
theorem pN {p:PP} (hV:Valid p) {m:Nat} {ls:List Int} (hl: ∀l∈ls,Gq (List.length p.2.2.1) l) (Q:List Int->Prop) (hQ: ∀x,Q x-> ∀l∈ls,Q (Aa x (Af p.2.2.1 l))):
  ∀(f k:Nat) (L:List (List Int)) (D:List Int),3001<=f+k->k<=L.length->Mp p m L D->(∀y∈L,Q y)->(∀(j:Nat) (h:j<L.length),j<k-> ∀l∈ls,Aa L[j] (Af p.2.2.1 l)∈L)->
  (∀y∈(Ff p.2.2.1 ls f k L D).1,Q y)/\((Ff p.2.2.1 ls f k L D).2.2=true-> ∀x∈(Ff p.2.2.1 ls f k L D).1,∀l∈ls,Aa x (Af p.2.2.1 l)∈(Ff p.2.2.1 ls f k L D).1)/\
   ((Ff p.2.2.1 ls f k L D).2.2=false->(Ff p.2.2.1 ls f k L D).1.length=3000/\ ∃z,Q z/\z∉(Ff p.2.2.1 ls f k L D).1)
 |0,k,L,D,hf,HC,hb,hq,hc=>by
  have:=hb.ok.kE
  omega
 |f+1,k,L,D,hf,HC,hb,hq,hc=>by
  simp only [Ff]
  split
  ·rename_i hk
   have uW:k<D.length:=by rw [hb.len];exact hk
   have hd:=hb.dep k uW
   have e:D.getD k 0=D[k]:=by rw [List.getD_eq_getElem?_getD,List.getElem?_eq_getElem uW];rfl
   rw [Mt hk,e]
   obtain ⟨k1,⟨A,k2⟩,_⟩:=fL hV (hb.row _ (List.getElem_mem hk)) (hb.ok.len _ (List.getElem_mem hk)) (d:=D[k]) ls L D hl hb ⟨by omega,by omega⟩
   obtain ⟨a1,a2,a3,a4⟩:=ix (g:=p.2.2.1) Q (x:=L[k]) (d:=D[k]) ls L D (hQ _ (hq _ (List.getElem_mem hk))) hq
   split
   ·rename_i L' D' he
    rw [he] at k1 k2 a1 a2 a3 a4
    have k2:L'=L++A:=k2
    refine pN hV hl Q hQ f (k+1) L' D' (by omega) (by rw [k2,List.length_append];omega) k1 a1 λj hj hjk l Gt=>?_
    by_cases e':j<k
    ·have e2:L'[j]=L[j]:=by simp only [k2];rw [List.getElem_append_left (by omega)]
     rw [e2];exact a2 _ (hc j (by omega) e' l Gt)
    ·have:j=k:=by omega
     subst this
     have e2:L'[j]=L[j]:=by simp only [k2];rw [List.getElem_append_left (by omega)]
     rw [e2];exact a3 rfl l Gt
   ·rename_i L' D' he
    rw [he] at a1 a4
    exact ⟨a1,(λe=>by cases e),λ_=>a4 rfl⟩
  ·rename_i hk
   refine ⟨hq,λ_ x hx l Gt=>?_,λe=>by cases e⟩
   obtain ⟨j,hj,rfl⟩:=List.mem_iff_getElem.1 hx
   have hj:j<L.length:=hj
   exact hc j hj (by omega) l Gt
theorem zL {p:PP} (hv:Bg p=true) {s:List Int} (hs:s.length<=20) (hr: ∀y∈s,0<=y/\y<p.1) (Q:List Int->Prop) (hQs:Q s) (hQ: ∀x,Q x-> ∀l∈Au p.2.2.1.length,Q (Aa x (Af p.2.2.1 l))):
  (∀y∈(Ct p.2.2.1 s).1,Q y)/\((Ct p.2.2.1 s).2.2=true-> ∀x∈(Ct p.2.2.1 s).1,∀l∈Au p.2.2.1.length,Aa x (Af p.2.2.1 l)∈(Ct p.2.2.1 s).1)/\
   ((Ct p.2.2.1 s).2.2=false->(Ct p.2.2.1 s).1.length=3000/\ ∃z,Q z/\z∉(Ct p.2.2.1 s).1):=
 pN (valid hv) (λ_ hl=>Jp hl) Q hQ 3001 0 [s] [0] (by omega) (Nat.zero_le _) (Xe hs hr) (λy hy=>by rw [List.mem_singleton.1 hy];exact hQs) λj _ hj=>absurd hj (Nat.not_lt_zero _)
theorem gR {g:List (List Int)} {x:List Int} :some x∈g.map some↔x∈g:=by simp
theorem yh {n:Nat} {g:List (List Int)} {x:List Int} (h:Gn n (g.map some) x) {l:Int} (hl:l∈Au g.length):Gn n (g.map some) (Aa x (Af g l)):=by
 obtain ⟨k,hk,rfl|rfl⟩:=Ov (Jp hl)
 ·rw [Nh hk];exact .mul h (gR.2 (List.getElem_mem hk))
 ·rw [Ng hk];exact .inv h (gR.2 (List.getElem_mem hk))
theorem Vx {n k:Nat} (hk:k<n):(k:Int)+1∈Au n/\ -((k:Int)+1)∈Au n:=by
 unfold Au
 exact ⟨List.mem_flatMap.2 ⟨k,List.mem_range.2 hk,by simp⟩,List.mem_flatMap.2 ⟨k,List.mem_range.2 hk,by simp⟩⟩
theorem xK {n:Nat} {g:List (List Int)} {L:List (List Int)} (h0:upto n∈L) (hc: ∀x∈L,∀l∈Au g.length,Aa x (Af g l)∈L) {p:List Int} (hp:Gn n (g.map some) p):p∈L:=by
 induction hp with
 |id=>exact h0
 |mul _ hg ih=>
  obtain ⟨k,hk,rfl⟩:=List.mem_iff_getElem.1 (gR.1 hg)
  have:=hc _ ih _ (Vx hk).1
  rwa [Nh hk] at this
 |inv _ hg ih=>
  obtain ⟨k,hk,rfl⟩:=List.mem_iff_getElem.1 (gR.1 hg)
  have:=hc _ ih _ (Vx hk).2
  rwa [Ng hk] at this
structure Reach (p:PP) (L:List (List Int)) (D:List Int) (whole:Bool):Prop where
 ok:Mp p p.1.toNat L D
 nodup:L.Nodup
 first: ∃A,L=upto p.1.toNat::A
 gen: ∀x∈L,Gn p.1.toNat (p.2.2.1.map some) x
 all:whole=true-> ∀x,Gn p.1.toNat (p.2.2.1.map some) x->x∈L
 big:whole=false->L.length=3000/\ ∃z,Gn p.1.toNat (p.2.2.1.map some) z/\z∉L
theorem Dk.nodup {m:Nat} {L:List (List Int)} {Hq:List Int} (h:Dk m L Hq):L.Nodup:=
 List.pairwise_iff_getElem.2 λi j hi hj iM e=>by have:=h.inj hi hj e;omega
theorem gL {p:PP} (hv:Bg p=true):Reach p (Ct p.2.2.1 (upto p.1.toNat)).1 (Ct p.2.2.1 (upto p.1.toNat)).2.1 (Ct p.2.2.1 (upto p.1.toNat)).2.2:=by
 have hV:=valid hv
 have hn:=hV.n
 have hl:(upto p.1.toNat).length=p.1.toNat:=Po _
 have hr: ∀y∈upto p.1.toNat,0<=y/\y<p.1:= λy hy=>by have:=Ig.1 hy;omega
 obtain ⟨b1,b2⟩:=rn hv (by omega) hr
 rw [hl] at b1
 obtain ⟨a1,a2,a3⟩:=zL hv (by omega) hr (λx=>Gn p.1.toNat (p.2.2.1.map some) x) .id λx hx l hl=>yh hx hl
 exact ⟨b1,b1.ok.nodup,b2,a1,λhw x hx=>xK (by obtain ⟨A,e⟩:=b2;rw [e];simp) (a2 hw) hx,a3⟩
theorem Vy {p:PP} (hV:Valid p) {x:List Int} :x∈iT p.1.toNat (Tc p.1 p.2.2.1).2 p.1.toNat 0↔Gn p.1.toNat (p.2.2.1.map some) x:=by
 have hn:=hV.n
 have hg:=nf (fO hV).2.2
 have hS:zG p.1.toNat λg=>some g∈p.2.2.1.map some:=⟨⟨by omega,by omega⟩,λg Yq=>by obtain ⟨g',e,h⟩:=hg _ Yq;cases e;exact h⟩
 refine (mK (by omega) (by omega) _ 0 (by omega) (rz hV).2.2.1 x).trans ⟨λh=>(me (by omega) (by omega) hg h.1).1 h.2.2,λh=>?_⟩
 have hp:=Xc.pm hS h
 exact ⟨hp,λi hi=>absurd hi (Nat.not_lt_zero _),(me (by omega) (by omega) hg hp).2 h⟩
theorem oP {p:PP} (hV:Valid p):(iT p.1.toNat (Tc p.1 p.2.2.1).2 p.1.toNat 0).Nodup:=by
 have hn:=hV.n
 exact mL (by omega) (by omega) _ 0 (by omega) (rz hV).2.2.1
theorem count_eq {p:PP} (hv:Bg p=true):Ox p=((iT p.1.toNat (Tc p.1 p.2.2.1).2 p.1.toNat 0).length:Int):=by
 unfold Ox
 rw [if_pos hv,vY]
theorem ux {p:PP} (hv:Bg p=true):(Ct p.2.2.1 (upto p.1.toNat)).2.2=decide (1<=Ox p/\Ox p<=3000):=by
 have hV:=valid hv
 have h:=gL hv
 rw [count_eq hv]
 have FO:=oP hV
 have h1:=c6 h.nodup λx hx=>(Vy hV).2 (h.gen x hx)
 obtain ⟨A,hA⟩:=h.first
 have xT:1<=(Ct p.2.2.1 (upto p.1.toNat)).1.length:=by rw [hA];simp
 cases hw:(Ct p.2.2.1 (upto p.1.toNat)).2.2 with
 |true=>
  have h2:=c6 FO λx hx=>h.all hw x ((Vy hV).1 hx)
  have h3:=h.ok.ok.kE
  exact (decide_eq_true ⟨by omega,by omega⟩).symm
 |false=>
  obtain ⟨h2,z,h3,h4⟩:=h.big hw
  have h5:=c6 (l1:=z::(Ct p.2.2.1 (upto p.1.toNat)).1) (List.nodup_cons.2 ⟨h4,h.nodup⟩) λx hx=>by
   rcases List.mem_cons.1 hx with rfl|hx
   ·exact (Vy hV).2 h3
   ·exact (Vy hV).2 (h.gen x hx)
  simp only [List.length_cons] at h5
  exact (decide_eq_false (by omega)).symm
end Go.Proofs.Ytjbdmibbbpdnnaa

namespace Go.Proofs.Ytjbdmibbbpdnnaa
open Go.RowKit
def sn (g:List (List Int)) (s:List Int):List (List Int):=(Au g.length).map λl=>Aa s (Af g l)
noncomputable abbrev dq:Spec:=Cu (.pair Dm (.pair tL .unit)) dt false true (λx=>Bg x.1=true/\List.length x.2.1<=20/\ ∀y∈x.2.1,0<=y/\y<x.1.1) (λx=>sn x.1.2.2.1 x.2.1)
abbrev EX:Type:=List (List Int)×List Int×List Int×List Int
def m5 (g:List (List Int)) (k:Int) (x:List Int) (d:Int):List Int->EX->List Int->EX×List Int
 | [],s,row=>(s,row)
 |l::ls,s,row=>if Aa x (Af g l)∈s.1 then m5 g k x d ls s (row++ [(s.1.idxOf (Aa x (Af g l)):Int)])
  else m5 g k x d ls (s.1++ [Aa x (Af g l)],s.2.1++ [d+1],s.2.2.1++ [k],s.2.2.2++ [l]) (row++ [(s.1.length:Int)])
def oD (g:List (List Int)) (ls:List Int):Nat->Nat->EX->List (List Int)->EX×List (List Int)
 |0,_,s,N=>(s,N)
 |f+1,k,s,N=>if k<s.1.length then oD g ls f (k+1) (m5 g (k:Int) (s.1.getD k []) (s.2.1.getD k 0) ls s []).1 (N++ [(m5 g (k:Int) (s.1.getD k []) (s.2.1.getD k 0) ls s []).2]) else (s,N)
def bV (key:ByteArray):List (List Int)->Nat->Option Int
 | [],_=>none
 |x::r,i=>if Ie x=key then some (i:Int) else bV key r (i+1)
def Tl (L:List (List Int)):ByteArray->Option Int:= λkey=>bV key L 0
def VL (p:PP) (r:EX×List (List Int)):o1.den:=(p,r.1.1,r.1.2.1,Tl r.1.1,r.1.2.2.1,r.1.2.2.2,r.2,())
def Sl (p:PP):o1.den:=VL p (oD p.2.2.1 (Au p.2.2.1.length) 3001 0 ([upto p.1.toNat],[0],[0],[0]) [])
noncomputable def Fb (p:PP):Bool:=Bg p&&(Ct p.2.2.1 (upto p.1.toNat)).2.2
noncomputable abbrev Nx:Spec:=Cu (.pair Dm .unit) (.pair (.optr o1) (.pair .bool .unit)) true false (λx=>Cp x.1) (λx=>if Fb x.1=true then (some (Sl x.1),true,()) else (none,false,()))
abbrev wK:Type:=Int×Int×ByteArray×List (List Int)×List (List Int)×PUnit
theorem NX (p:Int×ByteArray×List (List Int)×Unit) (s:List Int) (P:List (List Int)->Prop):(∃(y3:List Int),Hy.fn ((↑p.2.2.1.length:Int),())=some y3/\0=0/\0=([]:List Int).length/\Bl (λ(v4:wK) (k5:wK->Prop)=>Br (decide (v4.1<(↑y3.length:Int))) (∃(y6:Int),idx y3 v4.1=some y6/\ ∃(y7:List Int),Jz.fn (v4.2.2.2.1,y6,())=some y7/\ ∃(y8:List Int),Tu.fn (s,y7,())=some y8/\0=0/\v4.2.2.2.2.1.length=v4.2.2.2.2.1.length/\v4.2.2.2.2.1.length+(List.take 1 (List.drop 0 [y8])).length<=Bh/\0=0/\(v4.2.2.2.2.1++List.take 1 (List.drop 0 [y8])).length=(v4.2.2.2.2.1++List.take 1 (List.drop 0 [y8])).length/\k5 (IntKind.i64.wrap (v4.1+(1:Int)),v4.2.1,v4.2.2.1,v4.2.2.2.1,v4.2.2.2.2.1++List.take 1 (List.drop 0 [y8]),())) (P (List.take v4.2.2.2.2.1.length (List.drop 0 v4.2.2.2.2.1)))) ((0:Int),p.1,p.2.1,p.2.2.1,[],PUnit.unit))=fnW Cj (look [(117,Hy),(157,Jz),(156,Tu)]) dq Try.f129 (p,s,()) P:=by kernel_rfl
theorem NC (p:PP) (s:List Int) (h:Bg p=true/\s.length<=20/\ ∀y∈s,0<=y/\y<p.1):fnW Cj (look [(117,Hy),(157,Jz),(156,Tu)]) dq Try.f129 (p,s,()) (λ(z:List (List Int))=>z=sn p.2.2.1 s):=by
 obtain ⟨hv,hs,hr⟩:=h
 have hV:=valid hv
 have hf:=hV.kE
 refine Eq.mp (NX p s _) ⟨Au p.2.2.1.length,if_pos ⟨Int.natCast_nonneg _,by show ((p.2.2.1.length:Nat):Int)<=8;omega⟩,rfl,rfl,?_⟩
 have hL:=Kk p.2.2.1.length
 refine Ai (Au p.2.2.1.length).length (λv=>v.1) (λj v=>v=((j:Int),p.1,p.2.1,p.2.2.1,((Au p.2.2.1.length).take j).map (λl=>Aa s (Af p.2.2.1 l)),())) rfl (by simp) ?_
 rintro j v K hj hi rfl hK
 dsimp only
 refine Br.dec (λhl=>?_) λhl=>?_
 ·have hl:j<(Au p.2.2.1.length).length:=by omega
  have WT:=Jp (List.getElem_mem hl)
  obtain ⟨h1,h2⟩:=dd hV WT
  refine ⟨_,An hl,_,if_pos ⟨WT,hf.2,hV.perm⟩,_,if_pos ⟨hs,λy hy=>by have:=hr y hy;show 0<=y/\y<((Af p.2.2.1 (Au p.2.2.1.length)[j]).length:Int);omega⟩,rfl,rfl,?_,rfl,rfl,?_⟩
  ·show (((Au p.2.2.1.length).take j).map _).length+1<=4294967296
   rw [List.length_map,List.length_take]
   omega
  ·rw [Ag (by omega)]
   refine hK hl _ rfl ?_
   have e:(Au p.2.2.1.length).take (j+1)=(Au p.2.2.1.length).take j++ [(Au p.2.2.1.length)[j]]:=by
    rw [List.take_add_one,List.getElem?_eq_getElem hl,Option.toList_some]
   rw [e,List.map_append]
   rfl
 ·have:j=(Au p.2.2.1.length).length:=by omega
  subst this
  rw [List.drop_zero,List.take_length,List.take_length]
  rfl
theorem wF:Sound Try.prog 129 dq:=
 Sound.Cu Bj (Ae Wy (Ae cA (Ae Ph Ao))) mixed Try.func129 (by kernel_rfl) (by kernel_rfl) λx h=>NC x.1 x.2.1 h
end Go.Proofs.Ytjbdmibbbpdnnaa

namespace Go.Proofs.Ytjbdmibbbpdnnaa
open Go.RowKit
theorem Fl {α:Type} {xs ys:List α} {i:Nat} {d:α} (h:i<xs.length):(xs++ys).getD i d=xs.getD i d:=by
 rw [List.getD_eq_getElem?_getD,List.getD_eq_getElem?_getD,List.getElem?_append_left h]
theorem cV {α:Type} {xs:List α} {x d:α} :(xs++ [x]).getD xs.length d=x:=by
 rw [List.getD_eq_getElem?_getD,List.getElem?_append_right (Nat.le_refl _),Nat.sub_self];rfl
theorem Js {α:Type} {xs:List α} {i:Nat} {d:α} (h:i<xs.length):xs.getD i d=xs[i]:=by
 rw [List.getD_eq_getElem?_getD,List.getElem?_eq_getElem h];rfl
structure Lv (g:List (List Int)) (ls:List Int) (k:Nat) (L:List (List Int)) (D:List Int):Prop where
 len:D.length=L.length
 pos:0<L.length
 mono: ∀i j,i<=j->j<L.length->D.getD i 0<=D.getD j 0
 IQ:k<L.length-> ∀j,j<L.length->D.getD j 0<=D.getD k 0+1
 par: ∀j,0<j->j<L.length-> ∃i l,i<j/\l∈ls/\L.getD j []=Aa (L.getD i []) (Af g l)/\D.getD j 0=D.getD i 0+1
 zero:D.getD 0 0=0
theorem Lv.add {g:List (List Int)} {ls:List Int} {k:Nat} {L:List (List Int)} {D:List Int} (h:Lv g ls k L D) (hk:k<L.length) {l:Int} (hl:l∈ls):
  Lv g ls k (L++ [Aa (L.getD k []) (Af g l)]) (D++ [D.getD k 0+1]):=by
 have hlen:=h.len
 have hD: ∀i,i<L.length->(D++ [D.getD k 0+1]).getD i 0=D.getD i 0:= λi hi=>Fl (by omega)
 have KU:(D++ [D.getD k 0+1]).getD L.length 0=D.getD k 0+1:=by rw [<-hlen];exact cV
 refine ⟨by simp [hlen],by simp,λi j iM hj=>?_,λ_ j hj=>?_,λj h0 hj=>?_,?_⟩
 ·rw [List.length_append,List.length_singleton] at hj
  by_cases e:j=L.length
  ·subst e
   rw [KU]
   by_cases e':i=L.length
   ·subst e';rw [KU];exact Int.le_refl _
   ·rw [hD i (by omega)]
    exact h.IQ hk i (by omega)
  ·rw [hD i (by omega),hD j (by omega)]
   exact h.mono i j iM (by omega)
 ·rw [List.length_append,List.length_singleton] at hj
  rw [hD k hk]
  by_cases e:j=L.length
  ·subst e;rw [KU];exact Int.le_refl _
  ·rw [hD j (by omega)];exact h.IQ hk j (by omega)
 ·rw [List.length_append,List.length_singleton] at hj
  by_cases e:j=L.length
  ·subst e
   exact ⟨k,l,hk,hl,by rw [cV,Fl hk],by rw [KU,hD k hk]⟩
  ·obtain ⟨i,l',h1,h2,h3,h4⟩:=h.par j h0 (by omega)
   exact ⟨i,l',h1,h2,by rw [Fl (by omega),Fl (by omega)];exact h3,by rw [hD j (by omega),hD i (by omega)];exact h4⟩
 ·rw [hD 0 h.pos];exact h.zero
theorem lP {g:List (List Int)} {ls:List Int} {k:Nat} : ∀(AQ:List Int) (L:List (List Int)) (D:List Int),(∀l∈AQ,l∈ls)->Lv g ls k L D->k<L.length-> ∀ {x:List Int} {d:Int},x=L.getD k []->d=D.getD k 0->
  Lv g ls k (Ea g x d AQ L D).1 (Ea g x d AQ L D).2.1/\(∃A,(Ea g x d AQ L D).1=L++A)/\(∃A,(Ea g x d AQ L D).2.1=D++A)/\
  ((Ea g x d AQ L D).2.2=true-> ∀l∈AQ,∃j,j<(Ea g x d AQ L D).1.length/\(Ea g x d AQ L D).1.getD j []=Aa x (Af g l)/\(Ea g x d AQ L D).2.1.getD j 0<=d+1)
 | [],L,D,_,h,_,x,d,_,_=>⟨h,⟨[],by simp [Ea]⟩,⟨[],by simp [Ea]⟩,λ_ l hl=>by cases hl⟩
 |l::AQ,L,D,hs,h,hk,x,d,hx,hd=>by
  have uY: ∀l∈AQ,l∈ls:= λl' h'=>hs l' (List.mem_cons_of_mem _ h')
  have hlen:=h.len
  simp only [Ea]
  split
  ·rename_i hm
   obtain ⟨a1,⟨A,a2⟩,⟨A',a3⟩,a4⟩:=lP AQ L D uY h hk hx hd
   refine ⟨a1,⟨A,a2⟩,⟨A',a3⟩,λe l' Gt=>?_⟩
   rcases List.mem_cons.1 Gt with rfl|Gt
   ·obtain ⟨j,hj,hjx⟩:=List.mem_iff_getElem.1 hm
    refine ⟨j,by rw [a2,List.length_append];omega,by rw [a2,Fl hj,Js hj];exact hjx,?_⟩
    rw [a3,Fl (by omega),hd]
    exact h.IQ hk j hj
   ·exact a4 e l' Gt
  ·split
   ·exact ⟨h,⟨[],by simp⟩,⟨[],by simp⟩,λe=>by cases e⟩
   ·have GO:=h.add hk (hs l (by simp))
    rw [<-hx,<-hd] at GO
    obtain ⟨a1,⟨A,a2⟩,⟨A',a3⟩,a4⟩:=lP AQ (L++ [Aa x (Af g l)]) (D++ [d+1]) uY GO (by rw [List.length_append];omega) (x:=x) (d:=d) (by rw [Fl hk];exact hx) (by rw [Fl (by omega)];exact hd)
    refine ⟨a1,⟨_::A,by rw [a2,List.append_assoc];rfl⟩,⟨_::A',by rw [a3,List.append_assoc];rfl⟩,λe l' Gt=>?_⟩
    rcases List.mem_cons.1 Gt with rfl|Gt
    ·refine ⟨L.length,by rw [a2,List.length_append,List.length_append];simp only [List.length_singleton];omega,?_,?_⟩
     ·rw [a2,Fl (by simp),cV]
     ·rw [a3,Fl (by simp [hlen]),<-hlen,cV]
      exact Int.le_refl _
    ·exact a4 e l' Gt
structure lB (g:List (List Int)) (ls:List Int) (L:List (List Int)) (D:List Int):Prop where
 len:D.length=L.length
 pos:0<L.length
 zero:D.getD 0 0=0
 par: ∀j,0<j->j<L.length-> ∃i l,i<j/\l∈ls/\L.getD j []=Aa (L.getD i []) (Af g l)/\D.getD j 0=D.getD i 0+1
 step: ∀i,i<L.length-> ∀l∈ls,∃j,j<L.length/\L.getD j []=Aa (L.getD i []) (Af g l)/\D.getD j 0<=D.getD i 0+1
theorem uh {g:List (List Int)} {ls:List Int} : ∀(f k:Nat) (L:List (List Int)) (D:List Int),3001<=f+k->Lv g ls k L D->k<=L.length->
  (∀i,i<k-> ∀l∈ls,∃j,j<L.length/\L.getD j []=Aa (L.getD i []) (Af g l)/\D.getD j 0<=D.getD i 0+1)->
  (Ff g ls f k L D).2.2=true->(Ff g ls f k L D).1.length<=3000->lB g ls (Ff g ls f k L D).1 (Ff g ls f k L D).2.1
 |0,k,L,D,hf,h,HC,hc,hw,h3=>by
  simp only [Ff] at h3⊢
  omega
 |f+1,k,L,D,hf,h,HC,hc,hw,h3=>by
  simp only [Ff] at hw h3⊢
  split
  ·rename_i hk
   rw [if_pos hk] at hw h3
   obtain ⟨a1,⟨A,a2⟩,⟨A',a3⟩,a4⟩:=lP (x:=L.getD k []) (d:=D.getD k 0) ls L D (λ_ h=>h) h hk rfl rfl
   have hlen:=h.len
   split
   ·rename_i L' D' he
    rw [he] at a1 a2 a3 a4
    simp only [he] at hw h3
    have a2:L'=L++A:=a2
    have a3:D'=D++A':=a3
    have a4:=a4 rfl
    dsimp only at a4
    have hLl:L.length<=L'.length:=by rw [a2,List.length_append];omega
    refine uh f (k+1) L' D' (by omega) ⟨a1.len,a1.pos,a1.mono,λhk1 j hj=>?_,a1.par,a1.zero⟩ (by omega) (λi hi l hl=>?_) hw h3
    ·have h1:D'.getD j 0<=D'.getD k 0+1:=a1.IQ (show k<L'.length by omega) j hj
     have h2:D'.getD k 0<=D'.getD (k+1) 0:=a1.mono k (k+1) (by omega) hk1
     omega
    ·by_cases e:i=k
     ·subst e
      obtain ⟨j,b1,b2,b3⟩:=a4 l hl
      refine ⟨j,b1,?_,?_⟩
      ·rw [b2,a2,Fl (by omega)]
      ·rw [show D'.getD i 0=D.getD i 0 by rw [a3,Fl (by omega)]];exact b3
     ·obtain ⟨j,b1,b2,b3⟩:=hc i (by omega) l hl
      refine ⟨j,by omega,?_,?_⟩
      ·rw [a2,Fl (by omega),Fl (by omega)];exact b2
      ·rw [a3,Fl (by omega),Fl (by omega)];exact b3
   ·rename_i L' D' he
    simp only [he] at hw
    cases hw
  ·rename_i hk
   exact ⟨h.len,h.pos,h.zero,h.par,λi hi=>hc i (by have hi:i<L.length:=hi;omega)⟩
theorem eJ {p:PP} {s:List Int} (hv:Bg p=true) (hs:s.length<=20) (hr: ∀y∈s,0<=y/\y<p.1) (hw:(Ct p.2.2.1 s).2.2=true):
  lB p.2.2.1 (Au p.2.2.1.length) (Ct p.2.2.1 s).1 (Ct p.2.2.1 s).2.1:=by
 have hb:=(rn hv hs hr).1.ok.kE
 refine uh 3001 0 [s] [0] (by omega) ⟨rfl,by simp,λi j iM hj=>?_,λ_ j hj=>?_,λj h0 hj=>?_,rfl⟩ (Nat.zero_le _) (λi hi=>absurd hi (Nat.not_lt_zero _)) hw hb
 ·have:j=0:=by simpa using hj
  subst this
  have:i=0:=by omega
  subst this
  exact Int.le_refl _
 ·have:j=0:=by simpa using hj
  subst this
  simp
 ·have:j=0:=by simpa using hj
  omega
theorem vB {p:PP} (hV:Valid p) {x:List Int} (hx: ∀y∈x,0<=y/\y<p.1) {l:Int} (hl:l∈Au p.2.2.1.length):
  -l∈Au p.2.2.1.length/\Aa (Aa x (Af p.2.2.1 l)) (Af p.2.2.1 (-l))=x:=by
 obtain ⟨k,hk,Mh⟩:=Ov (Jp hl)
 have hg:=j4 (hV.perm _ (List.getElem_mem hk))
 have hgl:=hV.len _ (List.getElem_mem hk)
 have hn:=hV.n
 have hp:Pm p.1.toNat (p.2.2.1[k]):=⟨by omega,hg⟩
 have key: ∀q r:List Int,Pm p.1.toNat q->Pm p.1.toNat r->Aa q r=upto p.1.toNat->Aa (Aa x q) r=x:= λq r hq hr he=>by
  refine List.ext_getElem (by rw [Nq,Nq]) λi h1 h2=>?_
  have hxi:=hx _ (List.getElem_mem h2)
  obtain ⟨xi,HN⟩:=Int.eq_ofNat_of_zero_le hxi.1
  have LC:xi<p.1.toNat:=by omega
  have e1:ap (Aa q r) xi=ap (upto p.1.toNat) xi:=congrArg (λz=>ap z xi) he
  rw [Ft hq hr LC,dE LC] at e1
  simp only [Aa,List.getElem_map,HN]
  have h3:=(hq.Tr LC).1
  have h4:=(hr.Tr (hq.lt LC)).1
  rw [h3,h4,e1]
 rcases Mh with rfl|rfl
 ·refine ⟨(Vx hk).2,?_⟩
  rw [Nh hk,Ng hk]
  exact key _ _ hp hp.inv (bw hp)
 ·refine ⟨by rw [Int.neg_neg];exact (Vx hk).1,?_⟩
  rw [Int.neg_neg,Nh hk,Ng hk]
  exact key _ _ hp.inv hp (Ut hp)
structure Ok (g:List (List Int)) (ls:List Int) (L:List (List Int)) (S:List Int->Prop) (d:List Int->Int):Prop where
 nn: ∀x∈L,0<=d x
 zero: ∀x∈L,d x=0↔S x
 step: ∀x∈L,∀l∈ls,d (Aa x (Af g l))<=d x+1
 down: ∀x∈L,0<d x-> ∃l∈ls,d (Aa x (Af g l))=d x-1
structure ly (g:List (List Int)) (ls:List Int) (L:List (List Int)):Prop where
 next: ∀x∈L,∀l∈ls,Aa x (Af g l)∈L
 back: ∀x∈L,∀l∈ls,-l∈ls/\Aa (Aa x (Af g l)) (Af g (-l))=x
theorem Ok.le {g:List (List Int)} {ls:List Int} {L:List (List Int)} {S:List Int->Prop} {d d':List Int->Int} (hc:ly g ls L) (h:Ok g ls L S d) (h':Ok g ls L S d'):
  ∀(n:Nat) (x:List Int),x∈L->d' x=n->d x<=n
 |0,x,hx,e=>by
  have:=(h.zero x hx).2 ((h'.zero x hx).1 e)
  omega
 |n+1,x,hx,e=>by
  obtain ⟨l,hl,hd⟩:=h'.down x hx (by omega)
  obtain ⟨b1,b2⟩:=hc.back x hx l hl
  have h1:=Ok.le hc h h' n _ (hc.next x hx l hl) (by omega)
  have h2:=h.step _ (hc.next x hx l hl) _ b1
  rw [b2] at h2
  omega
theorem Ok.eq {g:List (List Int)} {ls:List Int} {L:List (List Int)} {S:List Int->Prop} {d d':List Int->Int} (hc:ly g ls L) (h:Ok g ls L S d) (h':Ok g ls L S d') {x:List Int} (hx:x∈L):d x=d' x:=by
 have n1:=h.nn x hx
 have n2:=h'.nn x hx
 have h1:=Ok.le hc h h' (d' x).toNat x hx (by omega)
 have h2:=Ok.le hc h' h (d x).toNat x hx (by omega)
 omega
theorem Ok.IQ {g:List (List Int)} {ls:List Int} {L:List (List Int)} {S:List Int->Prop} {d:List Int->Int} (hc:ly g ls L) (h:Ok g ls L S d) {x:List Int} (hx:x∈L) {l:Int} (hl:l∈ls):
  d x-1<=d (Aa x (Af g l)):=by
 obtain ⟨b1,b2⟩:=hc.back x hx l hl
 have h2:=h.step _ (hc.next x hx l hl) _ b1
 rw [b2] at h2
 omega
theorem xX {L:List (List Int)} (hn:L.Nodup) {j:Nat} (hj:j<L.length):L.idxOf (L.getD j [])=j:=by
 rw [Js hj]
 exact hn.idxOf_getElem j hj
theorem gh {L:List (List Int)} {j:Nat} (hj:j<L.length):L.getD j []∈L:=by rw [Js hj];exact List.getElem_mem hj
theorem dV {p:PP} (hV:Valid p) {m:Nat} {L:List (List Int)} {D:List Int} (hb:Mp p m L D) (h:lB p.2.2.1 (Au p.2.2.1.length) L D):ly p.2.2.1 (Au p.2.2.1.length) L where
 next x hx l hl:=by
  obtain ⟨i,hi,rfl⟩:=List.mem_iff_getElem.1 hx
  obtain ⟨j,h1,h2,_⟩:=h.step i hi l hl
  rw [Js hi] at h2
  rw [<-h2]
  exact gh h1
 back x hx l hl:=vB hV (hb.row x hx) hl
end Go.Proofs.Ytjbdmibbbpdnnaa

namespace Go.Proofs.Ytjbdmibbbpdnnaa
open Go.RowKit
abbrev nZ:Type:=Int×Int×ByteArray×List (List Int)×List Int×List (List Int)×List Int×(ByteArray->Option Int)×List Int×List Int×Int×ByteArray×List (List Int)×List (List Int)×PUnit
abbrev o0:Type:=Int×Int×ByteArray×List (List Int)×List (List Int)×List Int×(ByteArray->Option Int)×List Int×List Int×Int×ByteArray×List (List Int)×List (List Int)×PUnit
abbrev Zm:List (Nat×Nat):= [(0,1),(0,1),(0,1),(0,1),(0,1),(0,1),(0,1),(0,1),(0,1),(0,1),(0,1),(0,1),(0,0)]
abbrev Dj (p:Int×ByteArray×List (List Int)×Unit) (y4:List Int) (y2:Int) (y3:Bool) (y6:ByteArray) (y5:ByteArray):Prop:=Zm=Zm/\(p,false,y4,p.1,p.2.1,p.2.2.1,y2,y3,!y3,p.1,y4,p.1,p.2.1,p.2.2.1,y4,y4,y6,p.1,p.2.1,p.2.2.1,p.1,p.2.1,p.2.2.1,[y4],[(0:Int)],Sb (λ(_:ByteArray)=>none) y6 (0:Int),[(0:Int)],[(0:Int)],p.1,p.2.1,p.2.2.1,([]:List (List Int)),())=(p,false,y4,p.1,p.2.1,p.2.2.1,y2,y3,!y3,p.1,y4,p.1,p.2.1,p.2.2.1,y4,y4,y5,p.1,p.2.1,p.2.2.1,p.1,p.2.1,p.2.2.1,[y4],[(0:Int)],Sb (λ(_:ByteArray)=>none) y5 (0:Int),[(0:Int)],[(0:Int)],p.1,p.2.1,p.2.2.1,([]:List (List Int)),PUnit.unit)
theorem EV (p:Int×ByteArray×List (List Int)×Unit) (P:(Option (PP×List (List Int)×List Int×(ByteArray->Option Int)×List Int×List Int×List (List Int)×Unit)×Bool×Unit)->Prop):(∃(y2:Int),Ly.fn ((p.1,p.2.1,p.2.2.1,()),())=some y2/\ ∃(y3:Bool),Bm.fn (y2,(1:Int),(3000:Int),())=some y3/\Br (!y3) (P (none,false,())) (∃(y4:List Int),Ny.fn (p.1,())=some y4/\ ∃(y5:ByteArray),Ck.fn (y4,())=some y5/\(∃(y6:List Int),Hy.fn ((↑p.2.2.1.length:Int),())=some y6/\0=0/\1= [y4].length/\0=0/\1= [(0:Int)].length/\0=0/\1= [(0:Int)].length/\0=0/\1= [(0:Int)].length/\0=0/\0=([]:List Int).length/\Bl (λ(v7:o0) (k8:o0->Prop)=>Br (decide (v7.1<(↑v7.2.2.2.2.1.length:Int))) (((0:Int)<=v7.1/\v7.1<(↑v7.2.2.2.2.1.length:Int))/\ ∃(y9:List Int),v7.2.2.2.2.1[0+v7.1.toNat]?=some y9/\ ∃(fE:List (List Int)),dq.fn ((v7.2.1,v7.2.2.1,v7.2.2.2.1,()),y9,())=some fE/\0=0/\0=([]:List Int).length/\0=0/\v7.2.2.2.2.1.length=v7.2.2.2.2.1.length/\0=0/\v7.2.2.2.2.2.1.length=v7.2.2.2.2.2.1.length/\0=0/\v7.2.2.2.2.2.2.2.1.length=v7.2.2.2.2.2.2.2.1.length/\0=0/\v7.2.2.2.2.2.2.2.2.1.length=v7.2.2.2.2.2.2.2.2.1.length/\0=0/\v7.2.2.2.2.2.2.2.2.2.2.2.2.1.length=v7.2.2.2.2.2.2.2.2.2.2.2.2.1.length/\Bl (λ(v11:nZ) (YK:nZ->Prop)=>Br (decide (v11.1<(↑fE.length:Int))) (∃(zC:List Int),idx fE v11.1=some zC/\ ∃(aT:ByteArray),Ck.fn (zC,())=some aT/\Br (!(v11.2.2.2.2.2.2.2.1 aT).isSome) (∃(kv:Int),dk.fn (List.take v11.2.2.2.2.2.1.length (List.drop 0 v11.2.2.2.2.2.1),())=some kv/\0=0/\v11.2.2.2.2.2.1.length=v11.2.2.2.2.2.1.length/\v11.2.2.2.2.2.1.length+(List.take 1 (List.drop 0 [zC])).length<=Bh/\((0:Int)<=v7.1/\v7.1<(↑v11.2.2.2.2.2.2.1.length:Int))/\ ∃(pL:Int),v11.2.2.2.2.2.2.1[0+v7.1.toNat]?=some pL/\0=0/\v11.2.2.2.2.2.2.1.length=v11.2.2.2.2.2.2.1.length/\v11.2.2.2.2.2.2.1.length+ [IntKind.i64.wrap (pL+(1:Int))].length<=Bh/\0=0/\v11.2.2.2.2.2.2.2.2.1.length=v11.2.2.2.2.2.2.2.2.1.length/\v11.2.2.2.2.2.2.2.2.1.length+(List.take 1 (List.drop 0 [v7.1])).length<=Bh/\ ∃(FQ:Int),idx y6 v11.1=some FQ/\0=0/\v11.2.2.2.2.2.2.2.2.2.1.length=v11.2.2.2.2.2.2.2.2.2.1.length/\v11.2.2.2.2.2.2.2.2.2.1.length+ [FQ].length<=Bh/\0=0/\v11.2.2.2.2.1.length=v11.2.2.2.2.1.length/\v11.2.2.2.2.1.length+(List.take 1 (List.drop 0 [kv])).length<=Bh/\0=0/\(v11.2.2.2.2.1++List.take 1 (List.drop 0 [kv])).length=(v11.2.2.2.2.1++List.take 1 (List.drop 0 [kv])).length/\0=0/\(v11.2.2.2.2.2.1++List.take 1 (List.drop 0 [zC])).length=(v11.2.2.2.2.2.1++List.take 1 (List.drop 0 [zC])).length/\0=0/\(v11.2.2.2.2.2.2.1++ [IntKind.i64.wrap (pL+(1:Int))]).length=(v11.2.2.2.2.2.2.1++ [IntKind.i64.wrap (pL+(1:Int))]).length/\0=0/\(v11.2.2.2.2.2.2.2.2.1++List.take 1 (List.drop 0 [v7.1])).length=(v11.2.2.2.2.2.2.2.2.1++List.take 1 (List.drop 0 [v7.1])).length/\0=0/\(v11.2.2.2.2.2.2.2.2.2.1++ [FQ]).length=(v11.2.2.2.2.2.2.2.2.2.1++ [FQ]).length/\0=0/\v11.2.2.2.2.2.2.2.2.2.2.2.2.2.1.length=v11.2.2.2.2.2.2.2.2.2.2.2.2.2.1.length/\YK (IntKind.i64.wrap (v11.1+(1:Int)),v11.2.1,v11.2.2.1,v11.2.2.2.1,v11.2.2.2.2.1++List.take 1 (List.drop 0 [kv]),v11.2.2.2.2.2.1++List.take 1 (List.drop 0 [zC]),v11.2.2.2.2.2.2.1++ [IntKind.i64.wrap (pL+(1:Int))],Sb v11.2.2.2.2.2.2.2.1 aT kv,v11.2.2.2.2.2.2.2.2.1++List.take 1 (List.drop 0 [v7.1]),v11.2.2.2.2.2.2.2.2.2.1++ [FQ],v11.2.2.2.2.2.2.2.2.2.2.1,v11.2.2.2.2.2.2.2.2.2.2.2.1,v11.2.2.2.2.2.2.2.2.2.2.2.2.1,v11.2.2.2.2.2.2.2.2.2.2.2.2.2.1,())) (0=0/\v11.2.2.2.2.1.length=v11.2.2.2.2.1.length/\v11.2.2.2.2.1.length+(List.take 1 (List.drop 0 [(v11.2.2.2.2.2.2.2.1 aT).getD (Int.ofNat (nat_lit 0))])).length<=Bh/\0=0/\(v11.2.2.2.2.1++List.take 1 (List.drop 0 [(v11.2.2.2.2.2.2.2.1 aT).getD (Int.ofNat (nat_lit 0))])).length=(v11.2.2.2.2.1++List.take 1 (List.drop 0 [(v11.2.2.2.2.2.2.2.1 aT).getD (Int.ofNat (nat_lit 0))])).length/\0=0/\v11.2.2.2.2.2.1.length=v11.2.2.2.2.2.1.length/\0=0/\v11.2.2.2.2.2.2.1.length=v11.2.2.2.2.2.2.1.length/\0=0/\v11.2.2.2.2.2.2.2.2.1.length=v11.2.2.2.2.2.2.2.2.1.length/\0=0/\v11.2.2.2.2.2.2.2.2.2.1.length=v11.2.2.2.2.2.2.2.2.2.1.length/\0=0/\v11.2.2.2.2.2.2.2.2.2.2.2.2.2.1.length=v11.2.2.2.2.2.2.2.2.2.2.2.2.2.1.length/\YK (IntKind.i64.wrap (v11.1+(1:Int)),v11.2.1,v11.2.2.1,v11.2.2.2.1,v11.2.2.2.2.1++List.take 1 (List.drop 0 [(v11.2.2.2.2.2.2.2.1 aT).getD (Int.ofNat (nat_lit 0))]),v11.2.2.2.2.2.1,v11.2.2.2.2.2.2.1,v11.2.2.2.2.2.2.2.1,v11.2.2.2.2.2.2.2.2.1,v11.2.2.2.2.2.2.2.2.2.1,v11.2.2.2.2.2.2.2.2.2.2.1,v11.2.2.2.2.2.2.2.2.2.2.2.1,v11.2.2.2.2.2.2.2.2.2.2.2.2.1,v11.2.2.2.2.2.2.2.2.2.2.2.2.2.1,()))) (0=0/\v11.2.2.2.2.2.2.2.2.2.2.2.2.2.1.length=v11.2.2.2.2.2.2.2.2.2.2.2.2.2.1.length/\v11.2.2.2.2.2.2.2.2.2.2.2.2.2.1.length+(List.take 1 (List.drop 0 [List.take v11.2.2.2.2.1.length (List.drop 0 v11.2.2.2.2.1)])).length<=Bh/\0=0/\v11.2.2.2.2.2.1.length=v11.2.2.2.2.2.1.length/\0=0/\v11.2.2.2.2.2.2.1.length=v11.2.2.2.2.2.2.1.length/\0=0/\v11.2.2.2.2.2.2.2.2.1.length=v11.2.2.2.2.2.2.2.2.1.length/\0=0/\v11.2.2.2.2.2.2.2.2.2.1.length=v11.2.2.2.2.2.2.2.2.2.1.length/\0=0/\(v11.2.2.2.2.2.2.2.2.2.2.2.2.2.1++List.take 1 (List.drop 0 [List.take v11.2.2.2.2.1.length (List.drop 0 v11.2.2.2.2.1)])).length=(v11.2.2.2.2.2.2.2.2.2.2.2.2.2.1++List.take 1 (List.drop 0 [List.take v11.2.2.2.2.1.length (List.drop 0 v11.2.2.2.2.1)])).length/\k8 (IntKind.i64.wrap (v7.1+(1:Int)),v11.2.1,v11.2.2.1,v11.2.2.2.1,v11.2.2.2.2.2.1,v11.2.2.2.2.2.2.1,v11.2.2.2.2.2.2.2.1,v11.2.2.2.2.2.2.2.2.1,v11.2.2.2.2.2.2.2.2.2.1,v11.2.2.2.2.2.2.2.2.2.2.1,v11.2.2.2.2.2.2.2.2.2.2.2.1,v11.2.2.2.2.2.2.2.2.2.2.2.2.1,v11.2.2.2.2.2.2.2.2.2.2.2.2.2.1++List.take 1 (List.drop 0 [List.take v11.2.2.2.2.1.length (List.drop 0 v11.2.2.2.2.1)]),()))) ((0:Int),v7.2.1,v7.2.2.1,v7.2.2.2.1,[],v7.2.2.2.2.1,v7.2.2.2.2.2.1,v7.2.2.2.2.2.2.1,v7.2.2.2.2.2.2.2.1,v7.2.2.2.2.2.2.2.2.1,v7.2.2.2.2.2.2.2.2.2.1,v7.2.2.2.2.2.2.2.2.2.2.1,v7.2.2.2.2.2.2.2.2.2.2.2.1,v7.2.2.2.2.2.2.2.2.2.2.2.2.1,PUnit.unit)) (P (some ((v7.2.2.2.2.2.2.2.2.2.1,v7.2.2.2.2.2.2.2.2.2.2.1,v7.2.2.2.2.2.2.2.2.2.2.2.1,()),List.take v7.2.2.2.2.1.length (List.drop 0 v7.2.2.2.2.1),List.take v7.2.2.2.2.2.1.length (List.drop 0 v7.2.2.2.2.2.1),v7.2.2.2.2.2.2.1,List.take v7.2.2.2.2.2.2.2.1.length (List.drop 0 v7.2.2.2.2.2.2.2.1),List.take v7.2.2.2.2.2.2.2.2.1.length (List.drop 0 v7.2.2.2.2.2.2.2.2.1),List.take v7.2.2.2.2.2.2.2.2.2.2.2.2.1.length (List.drop 0 v7.2.2.2.2.2.2.2.2.2.2.2.2.1),()),true,()))) ((0:Int),p.1,p.2.1,p.2.2.1,[y4],[(0:Int)],Sb (λ(_:ByteArray)=>none) y5 (0:Int),[(0:Int)],[(0:Int)],p.1,p.2.1,p.2.2.1,([]:List (List Int)),PUnit.unit))/\((∃(y6:ByteArray),Ck.fn (y4,())=some y6/\(Dj p y4 y2 y3 y6 y5))/\ ∃(y6:ByteArray),Ck.fn (y4,())=some y6/\((Dj p y4 y2 y3 y6 y5))/\((Dj p y4 y2 y3 y6 y5))/\(Dj p y4 y2 y3 y6 y5))/\((∃(y6:ByteArray),Ck.fn (y4,())=some y6/\(Dj p y4 y2 y3 y6 y5))/\ ∃(y6:ByteArray),Ck.fn (y4,())=some y6/\((Dj p y4 y2 y3 y6 y5))/\((Dj p y4 y2 y3 y6 y5))/\(Dj p y4 y2 y3 y6 y5))/\ ∃(y6:ByteArray),Ck.fn (y4,())=some y6/\(((Dj p y4 y2 y3 y6 y5))/\((Dj p y4 y2 y3 y6 y5))/\(Dj p y4 y2 y3 y6 y5))/\(((Dj p y4 y2 y3 y6 y5))/\((Dj p y4 y2 y3 y6 y5))/\(Dj p y4 y2 y3 y6 y5))/\(((Dj p y4 y2 y3 y6 y5))/\(Dj p y4 y2 y3 y6 y5))/\(((Dj p y4 y2 y3 y6 y5))/\(Dj p y4 y2 y3 y6 y5))/\((Dj p y4 y2 y3 y6 y5))/\Zm=Zm/\(p,false,y4,p.1,p.2.1,p.2.2.1,y2,y3,!y3,p.1,y4,p.1,p.2.1,p.2.2.1,y4,y4,y6,p.1,p.2.1,p.2.2.1,p.1,p.2.1,p.2.2.1,[y4],[(0:Int)],Sb (λ(_:ByteArray)=>none) y6 (0:Int),[(0:Int)],[(0:Int)],p.1,p.2.1,p.2.2.1,([]:List (List Int)),())=(p,false,y4,p.1,p.2.1,p.2.2.1,y2,y3,!y3,p.1,y4,p.1,p.2.1,p.2.2.1,y4,y4,y5,p.1,p.2.1,p.2.2.1,p.1,p.2.1,p.2.2.1,[y4],[(0:Int)],Sb (λ(_:ByteArray)=>none) y5 (0:Int),[(0:Int)],[(0:Int)],p.1,p.2.1,p.2.2.1,[],PUnit.unit)))=fnW Cj (look [(126,Ly),(97,Bm),(127,Ny),(128,Ck),(117,Hy),(129,dq),(58,dk)]) Nx Try.f80 (p,()) P:=by kernel_rfl
theorem m6 {g:List (List Int)} {k:Int} {x:List Int} {d:Int} : ∀(ls:List Int) (s:EX) (row:List Int) (L':List (List Int)) (D':List Int),Ea g x d ls s.1 s.2.1=(L',D',true)->
  (m5 g k x d ls s row).1.1=L'/\(m5 g k x d ls s row).1.2.1=D'
 | [],s,row,L',D',h=>by
  simp only [Ea,Prod.mk.injEq] at h
  exact ⟨h.1,h.2.1⟩
 |l::ls,s,row,L',D',h=>by
  simp only [Ea] at h
  simp only [m5]
  by_cases hm:Aa x (Af g l)∈s.1
  ·rw [if_pos hm] at h
   rw [if_pos hm]
   exact m6 ls s _ L' D' h
  ·rw [if_neg hm] at h
   rw [if_neg hm]
   by_cases hf:s.1.length=3000
   ·rw [if_pos hf] at h
    simp at h
   ·rw [if_neg hf] at h
    exact m6 ls _ _ L' D' h
theorem uF {g:List (List Int)} {ls:List Int} : ∀(f k:Nat) (s:EX) (N:List (List Int)) (L':List (List Int)) (D':List Int),Ff g ls f k s.1 s.2.1=(L',D',true)->
  (oD g ls f k s N).1.1=L'/\(oD g ls f k s N).1.2.1=D'
 |0,k,s,N,L',D',h=>by
  simp only [Ff,Prod.mk.injEq] at h
  exact ⟨h.1,h.2.1⟩
 |f+1,k,s,N,L',D',h=>by
  simp only [Ff] at h
  simp only [oD]
  by_cases hk:k<s.1.length
  ·rw [if_pos hk] at h
   rw [if_pos hk]
   split at h
   ·rename_i L1 D1 he
    obtain ⟨a1,a2⟩:=m6 (k:=(k:Int)) ls s [] L1 D1 he
    refine uF f (k+1) _ _ L' D' ?_
    rw [a1,a2]
    exact h
   ·simp at h
  ·rw [if_neg hk] at h
   rw [if_neg hk]
   simp only [Prod.mk.injEq] at h
   exact ⟨h.1,h.2.1⟩
theorem gB {key:ByteArray} {x:List Int} : ∀(L:List (List Int)) (i:Nat),bV key (L++ [x]) i=if (bV key L i).isSome=true then bV key L i else if Ie x=key then some ((i+L.length:Nat):Int) else none
 | [],i=>by simp [bV]
 |y::L,i=>by
  simp only [List.cons_append,bV]
  split
  ·rfl
  ·rw [gB L (i+1),List.length_cons,show i+1+L.length=i+(L.length+1) by omega]
theorem iQ {x:List Int} (hx:Ol x): ∀(L:List (List Int)) (i:Nat),(∀y∈L,Ol y)->bV (Ie x) L i=if x∈L then some ((i+L.idxOf x:Nat):Int) else none
 | [],i,_=>by simp [bV]
 |y::L,i,h=>by
  have hy:=h y (by simp)
  simp only [bV]
  by_cases e:y=x
  ·subst e
   rw [if_pos rfl,if_pos (by simp),List.idxOf_cons_self]
   rfl
  ·rw [if_neg λhk=>e (key_inj hy hx hk),iQ hx L (i+1) λz hz=>h z (List.mem_cons_of_mem _ hz),show List.idxOf x (y::L)=(List.idxOf x L).succ by rw [List.idxOf_cons,beq_false_of_ne e];rfl]
   have:(x∈y::L)↔(x∈L):=by simp [Ne.symm e]
   by_cases hm:x∈L
   ·rw [if_pos hm,if_pos (this.2 hm),show i+1+List.idxOf x L=i+(List.idxOf x L).succ by omega]
   ·rw [if_neg hm,if_neg λh=>hm (this.1 h)]
theorem CI {x:List Int} {L:List (List Int)} (hx:Ol x) (hL: ∀y∈L,Ol y):Tl L (Ie x)=if x∈L then some (L.idxOf x:Int) else none:=by
 unfold Tl
 rw [iQ hx L 0 hL,Nat.zero_add]
theorem qi {x:List Int} {L:List (List Int)} (hx:Ol x) (hL: ∀y∈L,Ol y) (hn:x∉L):Sb (Tl L) (Ie x) (L.length:Int)=Tl (L++ [x]):=by
 funext key
 unfold Sb Tl
 rw [gB,Nat.zero_add]
 by_cases e:key=Ie x
 ·subst e
  rw [if_pos rfl,iQ hx L 0 hL,if_neg hn,if_neg (by simp),if_pos rfl]
 ·rw [if_neg e,if_neg (c:=Ie x=key) λh=>e h.symm]
  split
  ·rfl
  ·rename_i h
   cases hk:bV key L 0 with
   |none=>rfl
   |some v=>rw [hk] at h;simp at h
theorem xa (p:PP):Hc (Ox p) 1 3000=Fb p:=by
 unfold Fb
 by_cases hv:Bg p=true
 ·rw [hv,Bool.true_and,ux hv]
  rfl
 ·have hv:Bg p=false:=by simpa using hv
  rw [hv,Bool.false_and]
  have:Ox p=0:=by unfold Ox;rw [if_neg (by simp [hv])]
  rw [this]
  rfl
theorem CY (p:PP) (h:Cp p):fnW Cj (look [(126,Ly),(97,Bm),(127,Ny),(128,Ck),(117,Hy),(129,dq),(58,dk)]) Nx Try.f80 (p,()) (λ(z:Option (PP×List (List Int)×List Int×(ByteArray->Option Int)×List Int×List Int×List (List Int)×Unit)×Bool×Unit)=>z=(if Fb p=true then (some (Sl p),true,()) else (none,false,()))):=by
 refine Eq.mp (EV p _) ⟨_,if_pos h,_,if_pos trivial,?_⟩
 show Br (!Hc (Ox p) 1 3000) _ _
 rw [xa p]
 refine Br.of (λhb=>?_) λhb=>?_
 ·rw [if_neg (by simpa using hb)]
 have hw:Fb p=true:=by simpa using hb
 rw [if_pos hw]
 obtain ⟨hv,xL⟩:=Bool.and_eq_true_iff.1 hw
 have hV:=valid hv
 have kG:=hV.kE
 have hn:=hV.n
 obtain ⟨pn,ps,g,⟨⟩⟩:=p
 dsimp only at kG hn xL⊢
 have hI:(upto pn.toNat).length<=20:=by rw [Po];omega
 have hIr: ∀y∈upto pn.toNat,0<=y/\y<pn:= λy hy=>by have:=Ig.1 hy;omega
 have LW:=Xe (p:=(pn,ps,g,())) hI hIr
 obtain ⟨ls,kI⟩: ∃ls,Au g.length=ls:=⟨_,rfl⟩
 have HE:ls.length<=16:=by rw [<-kI,Kk];omega
 have gp: ∀l∈ls,Gq (List.length g) l:= λl hl=>Jp (kI▸hl)
 have mf: ∀x:List Int,(∀y∈x,0<=y/\y<pn)->Ol x:= λx hx y hy=>by have:=hx y hy;omega
 have mu:Ff g ls 3001 0 [upto pn.toNat] [0]=Ct g (upto pn.toNat):=by unfold Ct;rw [kI]
 have oH:Sb (λ(_:ByteArray)=>(none:Option Int)) (Ie (upto pn.toNat)) 0=Tl [upto pn.toNat]:=by
  have:=qi (L:= []) (mf _ hIr) (λy hy=>by cases hy) (by simp)
  exact this
 refine ⟨upto pn.toNat,if_pos ⟨by show (0:Int)<=pn;omega,by show pn<=20;omega⟩,Ie (upto pn.toNat),if_pos (by show short (upto pn.toNat);unfold short;omega),⟨ls,?_,rfl,rfl,rfl,rfl,rfl,rfl,rfl,rfl,rfl,rfl,?_⟩,?_⟩
 ·refine (if_pos ⟨by show (0:Int)<=((g.length:Nat):Int);omega,by show ((g.length:Nat):Int)<=8;omega⟩).trans (congrArg some ?_)
  show Au (((g.length:Nat):Int)).toNat=ls
  rw [Int.toNat_natCast];exact kI
 ·obtain ⟨R,hR⟩: ∃R,oD g ls 3001 0 ([upto pn.toNat],[0],[0],[0]) []=R:=⟨_,rfl⟩
  have Acm:Sl (pn,ps,g,())=VL (pn,ps,g,()) R:=by unfold Sl;rw [kI];exact congrArg _ hR
  rw [Acm]
  refine Bl.mk (λv=> ∃(k:Nat) (s:EX) (N:List (List Int)),v=((k:Int),pn,ps,g,s.1,s.2.1,Tl s.1,s.2.2.1,s.2.2.2,pn,ps,g,N,())/\k<=s.1.length/\Mp (pn,ps,g,()) (upto pn.toNat).length s.1 s.2.1/\s.2.2.1.length=s.1.length/\s.2.2.2.length=s.1.length/\N.length=k/\
    Ff g ls (3001-k) k s.1 s.2.1=Ct g (upto pn.toNat)/\oD g ls (3001-k) k s N=R) (λv=>3001-v.1.toNat)
   ⟨0,([upto pn.toNat],[0],[0],[0]),[],?_,by simp,LW,rfl,rfl,rfl,mu,hR⟩ ?_
  ·rw [<-oH];rfl
  rintro v ⟨k,s0,N,rfl,h1,h2,h3,h4,h5,h6,h7⟩
  obtain ⟨L0,D0,P0,B0⟩:=s0
  dsimp only at h1 h2 h3 h4 h6 h7⊢
  have hL0:=h2.ok.kE
  have hD0:=h2.len
  obtain ⟨f,hf⟩: ∃f,3001-k=f+1:=⟨3000-k,by omega⟩
  refine Br.dec (λhl=>?_) λhl=>?_
  ·have hk:k<L0.length:=by omega
   have uW:k<D0.length:=by omega
   have hx: ∀y∈L0[k],0<=y/\y<pn:=h2.row _ (List.getElem_mem hk)
   have HO:L0[k].length=(upto pn.toNat).length:=h2.ok.len _ (List.getElem_mem hk)
   have hdk:=h2.dep k uW
   have HN:L0.getD k []=L0[k]:=Mt hk
   have GS:D0.getD k 0=D0[k]:=by rw [List.getD_eq_getElem?_getD,List.getElem?_eq_getElem uW];rfl
   have PA: ∀L' D' ok,Ea g L0[k] D0[k] ls L0 D0=(L',D',ok)->Ct g (upto pn.toNat)=if ok=true then Ff g ls f (k+1) L' D' else (L',D',false):=by
    intro L' D' ok he
    rw [<-h6,hf,Ff,if_pos hk,HN,GS,he]
    cases ok<;>rfl
   obtain ⟨E,hE⟩: ∃E,m5 g (k:Int) L0[k] D0[k] ls (L0,D0,P0,B0) []=E:=⟨_,rfl⟩
   have hex:R=oD g ls f (k+1) E.1 (N++ [E.2]):=by
    rw [<-h7,hf,oD,if_pos hk]
    dsimp only
    rw [HN,GS,hE]
   refine ⟨⟨by omega,by omega⟩,L0[k],by rw [Int.toNat_natCast,Nat.zero_add];exact List.getElem?_eq_getElem hk,ls.map (λl=>Aa L0[k] (Af g l)),?_,?_⟩
   ·refine (if_pos ⟨hv,by show L0[k].length<=20;omega,hx⟩).trans (congrArg some ?_)
    show sn g L0[k]=_
    unfold sn
    rw [kI]
   refine ⟨rfl,rfl,rfl,rfl,rfl,rfl,rfl,rfl,rfl,rfl,rfl,rfl,?_⟩
   obtain ⟨nb,hnb⟩: ∃nb,ls.map (λl=>Aa L0[k] (Af g l))=nb:=⟨_,rfl⟩
   have hnl:nb.length=ls.length:=by rw [<-hnb,List.length_map]
   have hni: ∀i (h:i<ls.length),nb[i]'(by omega)=Aa L0[k] (Af g ls[i]):= λi h=>by simp only [<-hnb,List.getElem_map]
   rw [hnb]
   refine Bl.mk (λv=> ∃(i:Nat) (row:List Int) (s:EX),v=((i:Int),pn,ps,g,row,s.1,s.2.1,Tl s.1,s.2.2.1,s.2.2.2,pn,ps,g,N,())/\i<=ls.length/\row.length=i/\Mp (pn,ps,g,()) (upto pn.toNat).length s.1 s.2.1/\s.2.2.1.length=s.1.length/\s.2.2.2.length=s.1.length/\
     (∃A,s.1=L0++A)/\(∃A,s.2.1=D0++A)/\Ea g L0[k] D0[k] (ls.drop i) s.1 s.2.1=Ea g L0[k] D0[k] ls L0 D0/\m5 g (k:Int) L0[k] D0[k] (ls.drop i) s row=E) (λv=>ls.length-v.1.toNat)
    ⟨0,[],(L0,D0,P0,B0),rfl,Nat.zero_le _,rfl,h2,h3,h4,⟨[],by simp⟩,⟨[],by simp⟩,rfl,hE⟩ ?_
   rintro v ⟨i,row,s,rfl,g1,g2,g3,g4,g5,⟨A,g6⟩,⟨A',g7⟩,g8,g9⟩
   obtain ⟨L,D,Pa,By⟩:=s
   dsimp only at g3 g4 g5 g6 g7 g8 g9⊢
   have hLf:=g3.ok.kE
   have KU:=g3.len
   refine Br.dec (λWR=>?_) λWR=>?_
   ·have hi:i<ls.length:=by omega
    have HC:k<L.length:=by rw [g6,List.length_append];omega
    have HB:k<D.length:=by rw [KU];exact HC
    have VQ:D[k]=D0[k]:=by simp only [g7];exact List.getElem_append_left uW
    have rU:=gp _ (List.getElem_mem hi)
    obtain ⟨nl,nr⟩:=lr hV hx rU
    dsimp only at nl nr
    rw [List.drop_eq_getElem_cons hi] at g8 g9
    simp only [Ea] at g8
    simp only [m5] at g9
    have YA:=mf _ nr
    refine ⟨_,An (by omega),?_⟩
    rw [hni i hi]
    generalize hyv:Aa L0[k] (Af g ls[i])=yv at*
    refine ⟨Ie yv,if_pos (by show short yv;unfold short;rw [nl];omega),?_⟩
    rw [CI YA λy hy=>mf _ (g3.row y hy)]
    refine Br.of (λTi=>?_) λTi=>?_
    ·have Ti:yv∉L:= λhm=>by rw [if_pos hm] at Ti;simp at Ti
     rw [if_neg Ti] at g8 g9
     by_cases Pr:L.length=3000
     ·rw [if_pos Pr] at g8
      have:=PA _ _ _ g8.symm
      rw [if_neg (by decide)] at this
      rw [this] at xL
      cases xL
     rw [if_neg Pr] at g8
     refine ⟨_,if_pos trivial,rfl,rfl,?_,⟨by omega,by omega⟩,D0[k],?_,rfl,rfl,?_,rfl,rfl,?_,_,An hi,rfl,rfl,?_,rfl,rfl,?_,rfl,rfl,rfl,rfl,rfl,rfl,rfl,rfl,rfl,rfl,rfl,rfl,?_⟩
     ·show L.length+1<=4294967296;omega
     ·rw [Int.toNat_natCast,Nat.zero_add,List.getElem?_eq_getElem HB,VQ]
     ·show D.length+1<=4294967296;omega
     ·show Pa.length+1<=4294967296;omega
     ·show By.length+1<=4294967296;omega
     ·show row.length+1<=4294967296;omega
     ·dsimp only
      rw [Bn L,Ci (n:=D0[k]+1) (by omega) (by omega),Ag (by omega),qi YA (λy hy=>mf _ (g3.row y hy)) Ti]
      refine ⟨⟨i+1,row++ [(L.length:Int)],(L++ [yv],D++ [D0[k]+1],Pa++ [(k:Int)],By++ [ls[i]]),rfl,hi,by rw [List.length_append,g2];rfl,g3.add Ti (by rw [nl,HO]) (by omega) nr ⟨by omega,by omega⟩,?_,?_,⟨A++ [yv],by rw [g6,List.append_assoc]⟩,⟨A'++ [D0[k]+1],by rw [g7,List.append_assoc]⟩,g8,g9⟩,by omega⟩
      ·simp [g4]
      ·simp [g5]
    ·have Ti:yv∈L:=Classical.byContradiction λhm=>by rw [if_neg hm] at Ti;simp at Ti
     rw [if_pos Ti] at g8 g9
     rw [if_pos Ti]
     refine ⟨rfl,rfl,?_,rfl,rfl,rfl,rfl,rfl,rfl,rfl,rfl,rfl,rfl,rfl,rfl,?_⟩
     ·show row.length+1<=4294967296;omega
     ·rw [Ag (by omega)]
      exact ⟨⟨i+1,row++ [(L.idxOf yv:Int)],(L,D,Pa,By),rfl,hi,by rw [List.length_append,g2];rfl,g3,g4,g5,⟨A,g6⟩,⟨A',g7⟩,g8,g9⟩,by omega⟩
   ·have:i=ls.length:=by omega
    subst this
    rw [List.drop_length,Ea] at g8
    rw [List.drop_length,m5] at g9
    have:=PA _ _ _ g8.symm
    rw [if_pos rfl] at this
    rw [Bn row,Ag (by omega)]
    refine ⟨rfl,rfl,?_,rfl,rfl,rfl,rfl,rfl,rfl,rfl,rfl,rfl,rfl,⟨k+1,(L,D,Pa,By),N++ [row],rfl,by rw [g6,List.length_append];omega,g3,g4,g5,by rw [List.length_append,h5];rfl,?_,?_⟩,by omega⟩
    ·show N.length+1<=4294967296;omega
    ·rw [show 3001-(k+1)=f by omega]
     exact this.symm
    ·rw [show 3001-(k+1)=f by omega,hex,<-g9]
  ·have hk:k=L0.length:=by omega
   rw [hf,oD,if_neg (by show ¬k<L0.length;omega)] at h7
   subst h7
   simp only [List.drop_zero,List.take_length]
   rfl
 ·have xO:Ck.fn (upto pn.toNat,())=some (Ie (upto pn.toNat)):=if_pos (by show short (upto pn.toNat);unfold short;omega)
  repeat' (first|exact ⟨rfl,rfl⟩|refine ⟨_,xO,?_⟩|refine ⟨?_,?_⟩)
theorem pf:Sound Try.prog 80 Nx:=
 Sound.Cu Bj (Ae jk (Ae Pl (Ae aM (Ae Pk (Ae Wy (Ae wF (Ae wC Ao))))))) mixed Try.func80 (by kernel_rfl) (by kernel_rfl) λx h=>CY x.1 h
end Go.Proofs.Ytjbdmibbbpdnnaa

namespace Go.Proofs.Ytjbdmibbbpdnnaa
open Go.RowKit
abbrev XP:Type:=PP×List (List Int)×List Int×(ByteArray->Option Int)×List Int×List Int×List (List Int)×Unit
noncomputable def Bb (p:PP):List (List Int):=(Ct p.2.2.1 (upto p.1.toNat)).1
noncomputable def Eo (p:PP):List Int:=(Ct p.2.2.1 (upto p.1.toNat)).2.1
def QJ (e:XP):Prop:=Fb e.1=true/\e=Sl e.1
noncomputable def fe (p:PP):SS×Bool×Unit:=if Bg p=true then (Ey p.2.2.1 (upto p.1.toNat),Fb p,()) else (([],[],[],false,()),false,())
noncomputable abbrev Lm:Spec:=Cu (.pair Dm .unit) (.pair aj (.pair .bool .unit)) true false (λx=>Cp x.1) (λx=>fe x.1)
noncomputable abbrev Tz:Spec:=Cu (.pair tL (.pair tL .unit)) tL false true (λx=>short x.2.1/\It (List.length x.1) x.2.1) (λx=>Bp x.1 x.2.1)
abbrev Bx:Type:=List (List Int)×List Int×List Int×Bool×PUnit
theorem zz (p:Int×ByteArray×List (List Int)×Unit) (P:((List (List Int)×List Int×List Int×Bool×Unit)×Bool×Unit)->Prop):(∃(y2:Bool),Dv.fn ((p.1,p.2.1,p.2.2.1,()),())=some y2/\Br (!y2) (P ((List.take 0 (List.drop 0 []),List.take 0 (List.drop 0 []),List.take 0 (List.drop 0 []),false,()),false,())) (((((∃(y3:List Int),Cb.fn (p.1,())=some y3/\(∃(y4:Bx),Cy.fn ((p.1,p.2.1,p.2.2.1,()),y3,())=some y4/\((P ((y4.1,y4.2.1,y4.2.2.1,y4.2.2.2.1,()),y4.2.2.2.1,())/\P ((y4.1,y4.2.1,y4.2.2.1,y4.2.2.2.1,()),y4.2.2.2.1,()))/\P ((y4.1,y4.2.1,y4.2.2.1,y4.2.2.2.1,()),y4.2.2.2.1,()))/\(P ((y4.1,y4.2.1,y4.2.2.1,y4.2.2.2.1,()),y4.2.2.2.1,())/\P ((y4.1,y4.2.1,y4.2.2.1,y4.2.2.2.1,()),y4.2.2.2.1,()))/\P ((y4.1,y4.2.1,y4.2.2.1,y4.2.2.2.1,()),y4.2.2.2.1,()))/\ ∃(y4:Bx),Cy.fn ((p.1,p.2.1,p.2.2.1,()),y3,())=some y4/\((P ((y4.1,y4.2.1,y4.2.2.1,y4.2.2.2.1,()),y4.2.2.2.1,())/\P ((y4.1,y4.2.1,y4.2.2.1,y4.2.2.2.1,()),y4.2.2.2.1,()))/\P ((y4.1,y4.2.1,y4.2.2.1,y4.2.2.2.1,()),y4.2.2.2.1,()))/\(P ((y4.1,y4.2.1,y4.2.2.1,y4.2.2.2.1,()),y4.2.2.2.1,())/\P ((y4.1,y4.2.1,y4.2.2.1,y4.2.2.2.1,()),y4.2.2.2.1,()))/\P ((y4.1,y4.2.1,y4.2.2.1,y4.2.2.2.1,()),y4.2.2.2.1,()))/\ ∃(y3:List Int),Cb.fn (p.1,())=some y3/\ ∃(y4:Bx),Cy.fn ((p.1,p.2.1,p.2.2.1,()),y3,())=some y4/\((P ((y4.1,y4.2.1,y4.2.2.1,y4.2.2.2.1,()),y4.2.2.2.1,())/\P ((y4.1,y4.2.1,y4.2.2.1,y4.2.2.2.1,()),y4.2.2.2.1,()))/\P ((y4.1,y4.2.1,y4.2.2.1,y4.2.2.2.1,()),y4.2.2.2.1,()))/\(P ((y4.1,y4.2.1,y4.2.2.1,y4.2.2.2.1,()),y4.2.2.2.1,())/\P ((y4.1,y4.2.1,y4.2.2.1,y4.2.2.2.1,()),y4.2.2.2.1,()))/\P ((y4.1,y4.2.1,y4.2.2.1,y4.2.2.2.1,()),y4.2.2.2.1,()))/\ ∃(y3:List Int),Cb.fn (p.1,())=some y3/\ ∃(y4:Bx),Cy.fn ((p.1,p.2.1,p.2.2.1,()),y3,())=some y4/\((P ((y4.1,y4.2.1,y4.2.2.1,y4.2.2.2.1,()),y4.2.2.2.1,())/\P ((y4.1,y4.2.1,y4.2.2.1,y4.2.2.2.1,()),y4.2.2.2.1,()))/\P ((y4.1,y4.2.1,y4.2.2.1,y4.2.2.2.1,()),y4.2.2.2.1,()))/\(P ((y4.1,y4.2.1,y4.2.2.1,y4.2.2.2.1,()),y4.2.2.2.1,())/\P ((y4.1,y4.2.1,y4.2.2.1,y4.2.2.2.1,()),y4.2.2.2.1,()))/\P ((y4.1,y4.2.1,y4.2.2.1,y4.2.2.2.1,()),y4.2.2.2.1,()))/\ ∃(y3:List Int),Cb.fn (p.1,())=some y3/\ ∃(y4:Bx),Cy.fn ((p.1,p.2.1,p.2.2.1,()),y3,())=some y4/\((P ((y4.1,y4.2.1,y4.2.2.1,y4.2.2.2.1,()),y4.2.2.2.1,())/\P ((y4.1,y4.2.1,y4.2.2.1,y4.2.2.2.1,()),y4.2.2.2.1,()))/\P ((y4.1,y4.2.1,y4.2.2.1,y4.2.2.2.1,()),y4.2.2.2.1,()))/\(P ((y4.1,y4.2.1,y4.2.2.1,y4.2.2.2.1,()),y4.2.2.2.1,())/\P ((y4.1,y4.2.1,y4.2.2.1,y4.2.2.2.1,()),y4.2.2.2.1,()))/\P ((y4.1,y4.2.1,y4.2.2.1,y4.2.2.2.1,()),y4.2.2.2.1,()))/\((((∃(y3:List Int),Cb.fn (p.1,())=some y3/\(∃(y4:Bx),Cy.fn ((p.1,p.2.1,p.2.2.1,()),y3,())=some y4/\((P ((y4.1,y4.2.1,y4.2.2.1,y4.2.2.2.1,()),y4.2.2.2.1,())/\P ((y4.1,y4.2.1,y4.2.2.1,y4.2.2.2.1,()),y4.2.2.2.1,()))/\P ((y4.1,y4.2.1,y4.2.2.1,y4.2.2.2.1,()),y4.2.2.2.1,()))/\(P ((y4.1,y4.2.1,y4.2.2.1,y4.2.2.2.1,()),y4.2.2.2.1,())/\P ((y4.1,y4.2.1,y4.2.2.1,y4.2.2.2.1,()),y4.2.2.2.1,()))/\P ((y4.1,y4.2.1,y4.2.2.1,y4.2.2.2.1,()),y4.2.2.2.1,()))/\ ∃(y4:Bx),Cy.fn ((p.1,p.2.1,p.2.2.1,()),y3,())=some y4/\((P ((y4.1,y4.2.1,y4.2.2.1,y4.2.2.2.1,()),y4.2.2.2.1,())/\P ((y4.1,y4.2.1,y4.2.2.1,y4.2.2.2.1,()),y4.2.2.2.1,()))/\P ((y4.1,y4.2.1,y4.2.2.1,y4.2.2.2.1,()),y4.2.2.2.1,()))/\(P ((y4.1,y4.2.1,y4.2.2.1,y4.2.2.2.1,()),y4.2.2.2.1,())/\P ((y4.1,y4.2.1,y4.2.2.1,y4.2.2.2.1,()),y4.2.2.2.1,()))/\P ((y4.1,y4.2.1,y4.2.2.1,y4.2.2.2.1,()),y4.2.2.2.1,()))/\ ∃(y3:List Int),Cb.fn (p.1,())=some y3/\ ∃(y4:Bx),Cy.fn ((p.1,p.2.1,p.2.2.1,()),y3,())=some y4/\((P ((y4.1,y4.2.1,y4.2.2.1,y4.2.2.2.1,()),y4.2.2.2.1,())/\P ((y4.1,y4.2.1,y4.2.2.1,y4.2.2.2.1,()),y4.2.2.2.1,()))/\P ((y4.1,y4.2.1,y4.2.2.1,y4.2.2.2.1,()),y4.2.2.2.1,()))/\(P ((y4.1,y4.2.1,y4.2.2.1,y4.2.2.2.1,()),y4.2.2.2.1,())/\P ((y4.1,y4.2.1,y4.2.2.1,y4.2.2.2.1,()),y4.2.2.2.1,()))/\P ((y4.1,y4.2.1,y4.2.2.1,y4.2.2.2.1,()),y4.2.2.2.1,()))/\ ∃(y3:List Int),Cb.fn (p.1,())=some y3/\ ∃(y4:Bx),Cy.fn ((p.1,p.2.1,p.2.2.1,()),y3,())=some y4/\((P ((y4.1,y4.2.1,y4.2.2.1,y4.2.2.2.1,()),y4.2.2.2.1,())/\P ((y4.1,y4.2.1,y4.2.2.1,y4.2.2.2.1,()),y4.2.2.2.1,()))/\P ((y4.1,y4.2.1,y4.2.2.1,y4.2.2.2.1,()),y4.2.2.2.1,()))/\(P ((y4.1,y4.2.1,y4.2.2.1,y4.2.2.2.1,()),y4.2.2.2.1,())/\P ((y4.1,y4.2.1,y4.2.2.1,y4.2.2.2.1,()),y4.2.2.2.1,()))/\P ((y4.1,y4.2.1,y4.2.2.1,y4.2.2.2.1,()),y4.2.2.2.1,()))/\(((∃(y3:List Int),Cb.fn (p.1,())=some y3/\(∃(y4:Bx),Cy.fn ((p.1,p.2.1,p.2.2.1,()),y3,())=some y4/\((P ((y4.1,y4.2.1,y4.2.2.1,y4.2.2.2.1,()),y4.2.2.2.1,())/\P ((y4.1,y4.2.1,y4.2.2.1,y4.2.2.2.1,()),y4.2.2.2.1,()))/\P ((y4.1,y4.2.1,y4.2.2.1,y4.2.2.2.1,()),y4.2.2.2.1,()))/\(P ((y4.1,y4.2.1,y4.2.2.1,y4.2.2.2.1,()),y4.2.2.2.1,())/\P ((y4.1,y4.2.1,y4.2.2.1,y4.2.2.2.1,()),y4.2.2.2.1,()))/\P ((y4.1,y4.2.1,y4.2.2.1,y4.2.2.2.1,()),y4.2.2.2.1,()))/\ ∃(y4:Bx),Cy.fn ((p.1,p.2.1,p.2.2.1,()),y3,())=some y4/\((P ((y4.1,y4.2.1,y4.2.2.1,y4.2.2.2.1,()),y4.2.2.2.1,())/\P ((y4.1,y4.2.1,y4.2.2.1,y4.2.2.2.1,()),y4.2.2.2.1,()))/\P ((y4.1,y4.2.1,y4.2.2.1,y4.2.2.2.1,()),y4.2.2.2.1,()))/\(P ((y4.1,y4.2.1,y4.2.2.1,y4.2.2.2.1,()),y4.2.2.2.1,())/\P ((y4.1,y4.2.1,y4.2.2.1,y4.2.2.2.1,()),y4.2.2.2.1,()))/\P ((y4.1,y4.2.1,y4.2.2.1,y4.2.2.2.1,()),y4.2.2.2.1,()))/\ ∃(y3:List Int),Cb.fn (p.1,())=some y3/\ ∃(y4:Bx),Cy.fn ((p.1,p.2.1,p.2.2.1,()),y3,())=some y4/\((P ((y4.1,y4.2.1,y4.2.2.1,y4.2.2.2.1,()),y4.2.2.2.1,())/\P ((y4.1,y4.2.1,y4.2.2.1,y4.2.2.2.1,()),y4.2.2.2.1,()))/\P ((y4.1,y4.2.1,y4.2.2.1,y4.2.2.2.1,()),y4.2.2.2.1,()))/\(P ((y4.1,y4.2.1,y4.2.2.1,y4.2.2.2.1,()),y4.2.2.2.1,())/\P ((y4.1,y4.2.1,y4.2.2.1,y4.2.2.2.1,()),y4.2.2.2.1,()))/\P ((y4.1,y4.2.1,y4.2.2.1,y4.2.2.2.1,()),y4.2.2.2.1,()))/\(∃(y3:List Int),Cb.fn (p.1,())=some y3/\((∃(y4:Bx),Cy.fn ((p.1,p.2.1,p.2.2.1,()),y3,())=some y4/\((P ((y4.1,y4.2.1,y4.2.2.1,y4.2.2.2.1,()),y4.2.2.2.1,())/\P ((y4.1,y4.2.1,y4.2.2.1,y4.2.2.2.1,()),y4.2.2.2.1,()))/\P ((y4.1,y4.2.1,y4.2.2.1,y4.2.2.2.1,()),y4.2.2.2.1,()))/\(P ((y4.1,y4.2.1,y4.2.2.1,y4.2.2.2.1,()),y4.2.2.2.1,())/\P ((y4.1,y4.2.1,y4.2.2.1,y4.2.2.2.1,()),y4.2.2.2.1,()))/\P ((y4.1,y4.2.1,y4.2.2.1,y4.2.2.2.1,()),y4.2.2.2.1,()))/\ ∃(y4:Bx),Cy.fn ((p.1,p.2.1,p.2.2.1,()),y3,())=some y4/\((P ((y4.1,y4.2.1,y4.2.2.1,y4.2.2.2.1,()),y4.2.2.2.1,())/\P ((y4.1,y4.2.1,y4.2.2.1,y4.2.2.2.1,()),y4.2.2.2.1,()))/\P ((y4.1,y4.2.1,y4.2.2.1,y4.2.2.2.1,()),y4.2.2.2.1,()))/\(P ((y4.1,y4.2.1,y4.2.2.1,y4.2.2.2.1,()),y4.2.2.2.1,())/\P ((y4.1,y4.2.1,y4.2.2.1,y4.2.2.2.1,()),y4.2.2.2.1,()))/\P ((y4.1,y4.2.1,y4.2.2.1,y4.2.2.2.1,()),y4.2.2.2.1,()))/\ ∃(y4:Bx),Cy.fn ((p.1,p.2.1,p.2.2.1,()),y3,())=some y4/\((P ((y4.1,y4.2.1,y4.2.2.1,y4.2.2.2.1,()),y4.2.2.2.1,())/\P ((y4.1,y4.2.1,y4.2.2.1,y4.2.2.2.1,()),y4.2.2.2.1,()))/\P ((y4.1,y4.2.1,y4.2.2.1,y4.2.2.2.1,()),y4.2.2.2.1,()))/\(P ((y4.1,y4.2.1,y4.2.2.1,y4.2.2.2.1,()),y4.2.2.2.1,())/\P ((y4.1,y4.2.1,y4.2.2.1,y4.2.2.2.1,()),y4.2.2.2.1,()))/\P ((y4.1,y4.2.1,y4.2.2.1,y4.2.2.2.1,()),y4.2.2.2.1,()))/\(∃(y3:List Int),Cb.fn (p.1,())=some y3/\ ∃(y4:Bx),Cy.fn ((p.1,p.2.1,p.2.2.1,()),y3,())=some y4/\((P ((y4.1,y4.2.1,y4.2.2.1,y4.2.2.2.1,()),y4.2.2.2.1,())/\P ((y4.1,y4.2.1,y4.2.2.1,y4.2.2.2.1,()),y4.2.2.2.1,()))/\P ((y4.1,y4.2.1,y4.2.2.1,y4.2.2.2.1,()),y4.2.2.2.1,()))/\(P ((y4.1,y4.2.1,y4.2.2.1,y4.2.2.2.1,()),y4.2.2.2.1,())/\P ((y4.1,y4.2.1,y4.2.2.1,y4.2.2.2.1,()),y4.2.2.2.1,()))/\P ((y4.1,y4.2.1,y4.2.2.1,y4.2.2.2.1,()),y4.2.2.2.1,()))/\ ∃(y3:List Int),Cb.fn (p.1,())=some y3/\ ∃(y4:Bx),Cy.fn ((p.1,p.2.1,p.2.2.1,()),y3,())=some y4/\((P ((y4.1,y4.2.1,y4.2.2.1,y4.2.2.2.1,()),y4.2.2.2.1,())/\P ((y4.1,y4.2.1,y4.2.2.1,y4.2.2.2.1,()),y4.2.2.2.1,()))/\P ((y4.1,y4.2.1,y4.2.2.1,y4.2.2.2.1,()),y4.2.2.2.1,()))/\(P ((y4.1,y4.2.1,y4.2.2.1,y4.2.2.2.1,()),y4.2.2.2.1,())/\P ((y4.1,y4.2.1,y4.2.2.1,y4.2.2.2.1,()),y4.2.2.2.1,()))/\P ((y4.1,y4.2.1,y4.2.2.1,y4.2.2.2.1,()),y4.2.2.2.1,()))/\(∃(y3:List Int),Cb.fn (p.1,())=some y3/\ ∃(y4:Bx),Cy.fn ((p.1,p.2.1,p.2.2.1,()),y3,())=some y4/\((P ((y4.1,y4.2.1,y4.2.2.1,y4.2.2.2.1,()),y4.2.2.2.1,())/\P ((y4.1,y4.2.1,y4.2.2.1,y4.2.2.2.1,()),y4.2.2.2.1,()))/\P ((y4.1,y4.2.1,y4.2.2.1,y4.2.2.2.1,()),y4.2.2.2.1,()))/\(P ((y4.1,y4.2.1,y4.2.2.1,y4.2.2.2.1,()),y4.2.2.2.1,())/\P ((y4.1,y4.2.1,y4.2.2.1,y4.2.2.2.1,()),y4.2.2.2.1,()))/\P ((y4.1,y4.2.1,y4.2.2.1,y4.2.2.2.1,()),y4.2.2.2.1,()))/\(∃(y3:List Int),Cb.fn (p.1,())=some y3/\ ∃(y4:Bx),Cy.fn ((p.1,p.2.1,p.2.2.1,()),y3,())=some y4/\((P ((y4.1,y4.2.1,y4.2.2.1,y4.2.2.2.1,()),y4.2.2.2.1,())/\P ((y4.1,y4.2.1,y4.2.2.1,y4.2.2.2.1,()),y4.2.2.2.1,()))/\P ((y4.1,y4.2.1,y4.2.2.1,y4.2.2.2.1,()),y4.2.2.2.1,()))/\(P ((y4.1,y4.2.1,y4.2.2.1,y4.2.2.2.1,()),y4.2.2.2.1,())/\P ((y4.1,y4.2.1,y4.2.2.1,y4.2.2.2.1,()),y4.2.2.2.1,()))/\P ((y4.1,y4.2.1,y4.2.2.1,y4.2.2.2.1,()),y4.2.2.2.1,()))/\ ∃(y3:List Int),Cb.fn (p.1,())=some y3/\ ∃(y4:Bx),Cy.fn ((p.1,p.2.1,p.2.2.1,()),y3,())=some y4/\((P ((y4.1,y4.2.1,y4.2.2.1,y4.2.2.2.1,()),y4.2.2.2.1,())/\P ((y4.1,y4.2.1,y4.2.2.1,y4.2.2.2.1,()),y4.2.2.2.1,()))/\P ((y4.1,y4.2.1,y4.2.2.1,y4.2.2.2.1,()),y4.2.2.2.1,()))/\(P ((y4.1,y4.2.1,y4.2.2.1,y4.2.2.2.1,()),y4.2.2.2.1,())/\P ((y4.1,y4.2.1,y4.2.2.1,y4.2.2.2.1,()),y4.2.2.2.1,()))/\P ((y4.1,y4.2.1,y4.2.2.1,y4.2.2.2.1,()),y4.2.2.2.1,()))/\(∃(y3:List Int),Cb.fn (p.1,())=some y3/\ ∃(y4:Bx),Cy.fn ((p.1,p.2.1,p.2.2.1,()),y3,())=some y4/\((P ((y4.1,y4.2.1,y4.2.2.1,y4.2.2.2.1,()),y4.2.2.2.1,())/\P ((y4.1,y4.2.1,y4.2.2.1,y4.2.2.2.1,()),y4.2.2.2.1,()))/\P ((y4.1,y4.2.1,y4.2.2.1,y4.2.2.2.1,()),y4.2.2.2.1,()))/\(P ((y4.1,y4.2.1,y4.2.2.1,y4.2.2.2.1,()),y4.2.2.2.1,())/\P ((y4.1,y4.2.1,y4.2.2.1,y4.2.2.2.1,()),y4.2.2.2.1,()))/\P ((y4.1,y4.2.1,y4.2.2.1,y4.2.2.2.1,()),y4.2.2.2.1,()))/\(∃(y3:List Int),Cb.fn (p.1,())=some y3/\ ∃(y4:Bx),Cy.fn ((p.1,p.2.1,p.2.2.1,()),y3,())=some y4/\((P ((y4.1,y4.2.1,y4.2.2.1,y4.2.2.2.1,()),y4.2.2.2.1,())/\P ((y4.1,y4.2.1,y4.2.2.1,y4.2.2.2.1,()),y4.2.2.2.1,()))/\P ((y4.1,y4.2.1,y4.2.2.1,y4.2.2.2.1,()),y4.2.2.2.1,()))/\(P ((y4.1,y4.2.1,y4.2.2.1,y4.2.2.2.1,()),y4.2.2.2.1,())/\P ((y4.1,y4.2.1,y4.2.2.1,y4.2.2.2.1,()),y4.2.2.2.1,()))/\P ((y4.1,y4.2.1,y4.2.2.1,y4.2.2.2.1,()),y4.2.2.2.1,()))/\(∃(y3:List Int),Cb.fn (p.1,())=some y3/\ ∃(y4:Bx),Cy.fn ((p.1,p.2.1,p.2.2.1,()),y3,())=some y4/\((P ((y4.1,y4.2.1,y4.2.2.1,y4.2.2.2.1,()),y4.2.2.2.1,())/\P ((y4.1,y4.2.1,y4.2.2.1,y4.2.2.2.1,()),y4.2.2.2.1,()))/\P ((y4.1,y4.2.1,y4.2.2.1,y4.2.2.2.1,()),y4.2.2.2.1,()))/\(P ((y4.1,y4.2.1,y4.2.2.1,y4.2.2.2.1,()),y4.2.2.2.1,())/\P ((y4.1,y4.2.1,y4.2.2.1,y4.2.2.2.1,()),y4.2.2.2.1,()))/\P ((y4.1,y4.2.1,y4.2.2.1,y4.2.2.2.1,()),y4.2.2.2.1,()))/\ ∃(y3:List Int),Cb.fn (p.1,())=some y3/\ ∃(y4:Bx),Cy.fn ((p.1,p.2.1,p.2.2.1,()),y3,())=some y4/\((P ((y4.1,y4.2.1,y4.2.2.1,y4.2.2.2.1,()),y4.2.2.2.1,())/\P ((y4.1,y4.2.1,y4.2.2.1,y4.2.2.2.1,()),y4.2.2.2.1,()))/\P ((y4.1,y4.2.1,y4.2.2.1,y4.2.2.2.1,()),y4.2.2.2.1,()))/\(P ((y4.1,y4.2.1,y4.2.2.1,y4.2.2.2.1,()),y4.2.2.2.1,())/\P ((y4.1,y4.2.1,y4.2.2.1,y4.2.2.2.1,()),y4.2.2.2.1,()))/\P ((y4.1,y4.2.1,y4.2.2.1,y4.2.2.2.1,()),y4.2.2.2.1,())))=fnW Cj (look [(110,Dv),(124,Cb),(112,Cy)]) Lm Try.f75 (p,()) P:=by kernel_rfl
theorem FD (xs is:List Int) (P:List Int->Prop):(((0:Int)<=(↑is.length:Int)/\(↑is.length:Int)<(↑Bh:Int)+(1:Int))/\(↑is.length:Int)=(↑is.length:Int)/\0=0/\(List.replicate (↑is.length:Int).toNat (Int.ofNat (nat_lit 0))).length=(List.replicate (↑is.length:Int).toNat (Int.ofNat (nat_lit 0))).length/\Bl (λ(v3:Int×List Int×PUnit) (k4:Int×List Int×PUnit->Prop)=>Br (decide (v3.1<(↑is.length:Int))) (∃(y5:Int),idx is v3.1=some y5/\ ∃(y6:Int),idx xs y5=some y6/\((0:Int)<=v3.1/\v3.1<(↑v3.2.1.length:Int))/\0+v3.1.toNat<v3.2.1.length/\0=0/\v3.2.1.length=(v3.2.1.set (0+v3.1.toNat) y6).length/\k4 (IntKind.i64.wrap (v3.1+(1:Int)),v3.2.1.set (0+v3.1.toNat) y6,())) (P (List.take v3.2.1.length (List.drop 0 v3.2.1)))) ((0:Int),List.replicate (↑is.length:Int).toNat (Int.ofNat (nat_lit 0)),PUnit.unit))=fnW Cj (look []) Tz Try.f167 (xs,is,()) P:=by kernel_rfl
theorem Gz {p:PP} (hw:Fb p=true):Bg p=true/\(Ct p.2.2.1 (upto p.1.toNat)).2.2=true:=Bool.and_eq_true_iff.1 hw
theorem zi {p:PP} (hv:Bg p=true):Mp p p.1.toNat (Bb p) (Eo p):=(gL hv).ok
theorem GL {p:PP} (hV:Valid p):zG p.1.toNat λg=>some g∈p.2.2.1.map some:=
 ⟨by have:=hV.n;omega,λg Yq=>by obtain ⟨g',e,h⟩:=nf (fO hV).2.2 _ Yq;cases e;exact h⟩
theorem QE {p:PP} (hv:Bg p=true) {x:List Int} (hx:x∈Bb p):Pm p.1.toNat x:=Xc.pm (GL (valid hv)) ((gL hv).gen x hx)
theorem zR {p:PP} (hw:Fb p=true):(Sl p).2.1=Bb p/\(Sl p).2.2.1=Eo p:=by
 have h:=(Gz hw).2
 refine uF 3001 0 ([upto p.1.toNat],[0],[0],[0]) [] _ _ ?_
 show Ff p.2.2.1 (Au p.2.2.1.length) 3001 0 [upto p.1.toNat] [0]=(Bb p,Eo p,true)
 rw [<-h]
 rfl
theorem yI (p:PP) (h:Cp p):fnW Cj (look [(110,Dv),(124,Cb),(112,Cy)]) Lm Try.f75 (p,()) (λ(z:SS×Bool×Unit)=>z=fe p):=by
 refine Eq.mp (zz p _) ⟨_,if_pos h,?_⟩
 show Br (!Bg p) _ _
 unfold fe
 by_cases hv:Bg p=true
 ·rw [if_pos hv,hv]
  refine ⟨λhb=>by simp at hb,λ_=>?_⟩
  have hn:=(valid hv).n
  have hid:Cb.fn (p.1,())=some (upto p.1.toNat):=if_pos ⟨by show 0<=p.1;omega,by show p.1<=20;omega⟩
  have PU: ∀y∈upto p.1.toNat,0<=y/\y<p.1:= λy hy=>by have:=Ig.1 hy;omega
  have uU:Cy.fn ((p.1,p.2.1,p.2.2.1,()),upto p.1.toNat,())=some (Ey p.2.2.1 (upto p.1.toNat)):=if_pos ⟨hv,by show (upto p.1.toNat).length<=20;rw [Po];omega,PU⟩
  have hz:(((Ey p.2.2.1 (upto p.1.toNat)).1,(Ey p.2.2.1 (upto p.1.toNat)).2.1,(Ey p.2.2.1 (upto p.1.toNat)).2.2.1,(Ey p.2.2.1 (upto p.1.toNat)).2.2.2.1,()),(Ey p.2.2.1 (upto p.1.toNat)).2.2.2.1,())=(Ey p.2.2.1 (upto p.1.toNat),Fb p,()):=by
   unfold Fb
   rw [hv,Bool.true_and]
   rfl
  repeat' (first|exact hz|refine ⟨_,hid,?_⟩|refine ⟨_,uU,?_⟩|refine ⟨?_,?_⟩)
 ·rw [if_neg hv]
  refine ⟨λ_=>rfl,λhb=>?_⟩
  exact absurd (by simpa using hb) hv
theorem nN:Sound Try.prog 75 Lm:=
 Sound.Cu Bj (Ae Qx (Ae nG (Ae kc Ao))) mixed Try.func75 (by kernel_rfl) (by kernel_rfl) λx h=>yI x.1 h
theorem DF (xs is:List Int) (h:short is/\It xs.length is):fnW Cj (look []) Tz Try.f167 (xs,is,()) (λ(z:List Int)=>z=Bp xs is):=by
 obtain ⟨h,hr⟩:=h
 unfold short at h
 have Lt:(Bp xs is).length=is.length:=nc xs is
 refine Eq.mp (FD xs is _) ⟨⟨by omega,by show (is.length:Int)<(4294967296:Int)+1;omega⟩,rfl,rfl,rfl,?_⟩
 refine Ai is.length (λv=>v.1) (λj v=>v.2.1.length=(Bp xs is).length/\v.2.1.take j=(Bp xs is).take j) rfl ⟨by rw [Lt];simp,by simp⟩ ?_
 rintro j ⟨i,ys,⟨⟩⟩ K hj hi ⟨h1,h2⟩ hK
 dsimp only at hi h1 h2⊢
 subst hi
 refine Br.dec (λhl=>?_) λhl=>?_
 ·have hl:j<is.length:=by omega
  have hx:=hr _ (List.getElem_mem hl)
  obtain ⟨xn,HN⟩:=Int.eq_ofNat_of_zero_le hx.1
  have Gt:j<(Bp xs is).length:=by rw [Lt];exact hl
  have e:xs[xn]'(by omega)=(Bp xs is)[j]:=by
   simp only [Bp,List.getElem_map,Jd,HN,Int.toNat_natCast]
   rw [Js]
  refine ⟨_,An hl,xs[xn]'(by omega),by rw [HN];exact An (by omega),⟨by omega,by omega⟩,by rw [Int.toNat_natCast,Nat.zero_add];omega,rfl,by rw [List.length_set],?_⟩
  rw [Ag (by omega),Int.toNat_natCast,Nat.zero_add,e]
  refine hK hl _ rfl ⟨by rw [List.length_set];exact h1,?_⟩
  rw [List.take_add_one,List.take_set_of_le (by omega),h2,List.getElem?_set_self (by omega),List.take_add_one,List.getElem?_eq_getElem Gt]
 ·have:j=is.length:=by omega
  subst this
  rw [Bn,<-List.take_length (l:=ys),h1,Lt,h2,<-Lt,List.take_length]
theorem po:Sound Try.prog 167 Tz:=
 Sound.Cu Bj Ao mixed Try.func167 (by kernel_rfl) (by kernel_rfl) λx h=>DF x.1 x.2.1 h
theorem nT {p:PP} (hv:Bg p=true):(Bb p).length<=3000:=(zi hv).ok.kE
theorem sD {p:PP} {t s:List Int} (hv:Bg p=true) (hs:s∈Bb p) (ht:Cm p t=true):It s.length t:=by
 have h1:=(QE hv hs).1
 have hn:=(valid hv).n
 intro y hy
 have:=(Ek ht).2 y hy
 omega
theorem nS {p:PP} (hp:Cp p) (hw:Fb p=true):Lm.fn ((p.1,p.2.1,p.2.2.1,()),())=some (Ey p.2.2.1 (upto p.1.toNat),true,()):=
 (if_pos hp).trans (congrArg some ((if_pos (Gz hw).1).trans (by rw [<-hw])))
theorem ta {p:PP} (hp:Cp p) (hw: ¬Fb p=true): ∃f,Lm.fn ((p.1,p.2.1,p.2.2.1,()),())=some (f,false,()):=by
 by_cases hv:Bg p=true
 ·exact ⟨_,(if_pos hp).trans (congrArg some ((if_pos hv).trans (by rw [<-Bool.not_eq_true _|>.mp hw])))⟩
 ·exact ⟨_,(if_pos hp).trans (congrArg some (if_neg hv))⟩
end Go.Proofs.Ytjbdmibbbpdnnaa

namespace Go.Proofs.Ytjbdmibbbpdnnaa
open Go.RowKit
theorem TK {n:Nat} {q:List Int} (h:Pm n q):q.length<=20:=by have:=h.1;have:=h.n2;omega
end Go.Proofs.Ytjbdmibbbpdnnaa

namespace Go.Proofs.Ytjbdmibbbpdnnaa
open Go.RowKit
theorem map_take {α β:Type} (f:α->β) {xs:List α} {j:Nat} (h:j<xs.length):(xs.take (j+1)).map f=(xs.take j).map f++ [f xs[j]]:=by
 rw [List.take_add_one,List.getElem?_eq_getElem h,List.map_append];rfl
end Go.Proofs.Ytjbdmibbbpdnnaa

namespace Go.Proofs.Ytjbdmibbbpdnnaa
open Go.RowKit
theorem qU {p:PP} (hw:Fb p=true):ly p.2.2.1 (Au p.2.2.1.length) (Bb p):=by
 obtain ⟨hv,hb⟩:=Gz hw
 have hV:=valid hv
 have hn:=hV.n
 exact dV hV (zi hv) (eJ hv (by rw [Po];omega) (λy hy=>by have:=Ig.1 hy;omega) hb)
theorem EJ {p:PP} (hw:Fb p=true):lB p.2.2.1 (Au p.2.2.1.length) (Bb p) (Eo p):=by
 obtain ⟨hv,hb⟩:=Gz hw
 have hn:=(valid hv).n
 exact eJ hv (by rw [Po];omega) (λy hy=>by have:=Ig.1 hy;omega) hb
theorem td {p:PP} (hw:Fb p=true) (Q:List Int->Prop) (hQ: ∀x∈Bb p,Q x-> ∀l∈Au p.2.2.1.length,Q (Aa x (Af p.2.2.1 l))) {x:List Int} (hx:x∈Bb p) (hq:Q x):
  ∀y∈Bb p,Q y:=by
 have hc:=qU hw
 have hL:=EJ hw
 have up: ∀(j:Nat),j<(Bb p).length->Q ((Bb p).getD j [])->Q ((Bb p).getD 0 []):=by
  intro j
  induction j using Nat.strongRecOn with
  |_ j ih=>
   intro hj hqj
   by_cases e:j=0
   ·subst e;exact hqj
   ·obtain ⟨i,l,h1,h2,h3,_⟩:=hL.par j (by omega) hj
    have hi:i<(Bb p).length:=by omega
    obtain ⟨b1,b2⟩:=hc.back _ (gh hi) l h2
    refine ih i h1 hi ?_
    have:=hQ _ (gh hj) hqj _ b1
    rwa [h3,b2] at this
 have down:Q ((Bb p).getD 0 [])-> ∀(j:Nat),j<(Bb p).length->Q ((Bb p).getD j []):=by
  intro h0 j
  induction j using Nat.strongRecOn with
  |_ j ih=>
   intro hj
   by_cases e:j=0
   ·subst e;exact h0
   ·obtain ⟨i,l,h1,h2,h3,_⟩:=hL.par j (by omega) hj
    have hi:i<(Bb p).length:=by omega
    rw [h3]
    exact hQ _ (gh hi) (ih i h1 hi) l h2
 obtain ⟨j,hj,rfl⟩:=List.mem_iff_getElem.1 hx
 rw [<-Js (d:= []) hj] at hq
 intro y hy
 obtain ⟨k,hk,rfl⟩:=List.mem_iff_getElem.1 hy
 rw [<-Js (d:= []) hk]
 exact down (up j hj hq) k hk
end Go.Proofs.Ytjbdmibbbpdnnaa

namespace Go.Proofs.Ytjbdmibbbpdnnaa
open Go.RowKit
theorem VM {e:XP} (h:QJ e):e.2.1=Bb e.1:=(congrArg (λz:XP=>z.2.1) h.2).trans (zR h.1).1
theorem QR {e:XP} (h:QJ e):e.2.2.1=Eo e.1:=(congrArg (λz:XP=>z.2.2.1) h.2).trans (zR h.1).2
theorem qc {α:Type} {P:α->Bool} : ∀(l:List α) (i:Nat),l.any P=true-> ∃k,∃h:k<l.length,Du P l (i:Int)=((i+k:Nat):Int)/\P l[k]=true/\ ∀j (h:j<k),P (l[j]'(by omega))=false
 | [],i,h=>by simp at h
 |y::r,i,h=>by
  simp only [Du]
  by_cases hy:P y=true
  ·rw [if_pos hy]
   exact ⟨0,by simp,rfl,hy,λj hj=>absurd hj (Nat.not_lt_zero _)⟩
  ·rw [if_neg hy]
   have hr:r.any P=true:=by
    rw [List.any_cons,Bool.or_eq_true] at h
    exact h.resolve_left hy
   obtain ⟨k,hk,h1,h2,h3⟩:=qc r (i+1) hr
   refine ⟨k+1,by simpa using hk,?_,h2,λj hj=>?_⟩
   ·rw [show ((i:Int)+1)=((i+1:Nat):Int) by push_cast;rfl,h1]
    congr 1
    omega
   ·cases j with
    |zero=>exact Bool.not_eq_true _|>.mp hy
    |succ j=>exact h3 j (by omega)
end Go.Proofs.Ytjbdmibbbpdnnaa

namespace Go.Proofs.Ytjbdmibbbpdnnaa
open Go.RowKit
theorem c9 {s q t:List Int} (h:It s.length t):Bp (Aa s q) t=Aa (Bp s t) q:=by
 unfold Bp Aa
 rw [List.map_map]
 refine List.map_congr_left λy hy=>?_
 obtain ⟨h1,h2⟩:=h y hy
 have hy':y.toNat<s.length:=by omega
 show Jd (s.map (Jd q)) y=Jd q (Jd s y)
 unfold Jd
 rw [Js (by rw [List.length_map];exact hy'),List.getElem_map,Js hy']
 try rfl
theorem qA {n:Nat} {t:List Int} (h: ∀y∈t,0<=y/\y<(n:Int)):Bp (upto n) t=t:=by
 unfold Bp
 refine (List.map_congr_left λy hy=>?_).trans (List.map_id t)
 obtain ⟨h1,h2⟩:=h y hy
 obtain ⟨k,rfl⟩:=Int.eq_ofNat_of_zero_le h1
 have hk:k<n:=by omega
 show Jd (upto n) (k:Int)=(k:Int)
 unfold Jd
 rw [Int.toNat_natCast,List.getD_eq_getElem?_getD,o6 hk]
 rfl
theorem jB {p:PP} (hv:Bg p=true):(Bb p).getD 0 []=upto p.1.toNat/\upto p.1.toNat∈Bb p:=by
 obtain ⟨A,h⟩:=(gL hv).first
 have h:Bb p=upto p.1.toNat::A:=h
 rw [h]
 exact ⟨rfl,by simp⟩
noncomputable def c5 (p:PP) (t:List Int):List (List Int):=(Ct p.2.2.1 t).1
noncomputable def yl (p:PP) (t:List Int):List Int:=(Ct p.2.2.1 t).2.1
theorem ko {p:PP} {t:List Int} (ht:Cm p t=true): ∀y∈t,0<=y/\y<((p.1.toNat:Nat):Int):= λy hy=>by
 have h1:=(Ek ht).2 y hy
 have:=(valid (Ln.1 ht).1).n
 omega
theorem DM {p:PP} {t:List Int} (hw:Fb p=true) (ht:Cm p t=true):(Ct p.2.2.1 t).2.2=true:=by
 have hv:=(Gz hw).1
 have hV:=valid hv
 obtain ⟨t1,t2⟩:=Ek ht
 have bO:=mZ ht
 obtain ⟨a1,_,a3⟩:=zL hv t1 t2 (λx=> ∃s∈Bb p,x=Bp s t) ⟨_,(jB hv).2,(qA (ko ht)).symm⟩ λx ⟨s,hs,hx⟩ l hl=>by
  refine ⟨_,(qU hw).next s hs l hl,?_⟩
  rw [hx,c9 (sD hv hs ht)]
 refine Classical.byContradiction λhn=>?_
 obtain ⟨h1,z,⟨s,hs,hz⟩,h3⟩:=a3 (by simpa using hn)
 have h5:=c6 (l1:=z::(Ct p.2.2.1 t).1) (l2:=(Bb p).map λs=>Bp s t) (List.nodup_cons.2 ⟨h3,bO.ok.nodup⟩) λx hx=>by
  rcases List.mem_cons.1 hx with rfl|hx
  ·exact List.mem_map.2 ⟨s,hs,hz.symm⟩
  ·obtain ⟨s',uY,e⟩:=a1 x hx
   exact List.mem_map.2 ⟨s',uY,e.symm⟩
 have h6:=nT hv
 simp only [List.length_cons,List.length_map] at h5
 omega
theorem Ok.congr {g:List (List Int)} {ls:List Int} {L:List (List Int)} {S S':List Int->Prop} {d:List Int->Int} (h:Ok g ls L S d) (e: ∀x∈L,S x↔S' x):Ok g ls L S' d:=
 ⟨h.nn,λx hx=>(h.zero x hx).trans (e x hx),h.step,h.down⟩
theorem yL {p:PP} {t:List Int} (hw:Fb p=true) (ht:Cm p t=true):lB p.2.2.1 (Au p.2.2.1.length) (c5 p t) (yl p t):=
 eJ (Gz hw).1 (Ek ht).1 (Ek ht).2 (DM hw ht)
theorem DK {p:PP} {t:List Int} (ht:Cm p t=true):(c5 p t).getD 0 []=t/\t∈c5 p t:=by
 obtain ⟨_,A,h⟩:=rn (Ln.1 ht).1 (Ek ht).1 (Ek ht).2
 have h:c5 p t=t::A:=h
 rw [h]
 exact ⟨rfl,by simp⟩
theorem TJ {p:PP} {t:List Int} (hw:Fb p=true) (ht:Cm p t=true): ∀s∈Bb p,Bp s t∈c5 p t:=by
 have hv:=(Gz hw).1
 have hc:=dV (valid hv) (mZ ht) (yL hw ht)
 refine td hw (λs=>Bp s t∈c5 p t) (λx hx hq l hl=>?_) (jB hv).2 ?_
 ·rw [c9 (sD hv hx ht)]
  exact hc.next _ hq l hl
 ·rw [qA (ko ht)]
  exact (DK ht).2
end Go.Proofs.Ytjbdmibbbpdnnaa

namespace Go.Proofs.Ytjbdmibbbpdnnaa
open Go.RowKit
theorem lU {p:PP} (hw:Fb p=true):(Eo p).length=(Bb p).length:=(zi (Gz hw).1).len
end Go.Proofs.Ytjbdmibbbpdnnaa

namespace Go.Proofs.Ytjbdmibbbpdnnaa
open Go.RowKit
abbrev BB:Type:=List TT×List (ByteArray->Option Int)×Unit
def EP:List (List Int)->List Int->(ByteArray->Option Int)->ByteArray->Option Int
 |x::xs,d::ds,m=>EP xs ds (Sb m (Ie x) d)
 |_,_,m=>m
def Oy (t:TT):ByteArray->Option Int:=EP t.2.1 t.2.2.1 λ_=>none
def bY (ts:List TT):BB:=(ts,ts.map Oy,())
structure FV (t:TT):Prop where
 kE:t.2.1.length<=3000
 len:t.2.2.1.length=t.2.1.length
 nodup:t.2.1.Nodup
 byte: ∀x∈t.2.1,Ol x
 Aga: ∀d∈t.2.2.1,0<=d/\d<=3000
 tl:t.1.length<=20
 pl: ∀x∈t.2.1,x.length<=20
def bj (ts:List TT):Prop:=ts.length<=4/\ ∀t∈ts,FV t
def lp (t:TT) (s:List Int):Int:=t.2.2.1.getD (t.2.1.idxOf (Bp s t.1)) 0
def Ow (ts:List TT) (s:List Int):List Int:=ts.map λt=>lp t s
def Sv (ts:List TT) (s:List Int):Int:=(Ow ts s).foldl max 0
def iq (ts:List TT) (s:List Int):Prop:=s.length<=20/\ ∀t∈ts,It s.length t.1/\Bp s t.1∈t.2.1
noncomputable abbrev Ob:Spec:=Cu (.pair zl .unit) (.optr ic) false false (λx=>bj x.1) (λx=>some (bY x.1))
def LG (b:Option BB) (s:List Int):Prop:= ∃ts,bj ts/\b=some (bY ts)/\iq ts s
def IK (b:Option BB) (s:List Int):List Int:=match b with|some b=>Ow b.1 s|none=> []
def yk (b:Option BB) (s:List Int):Int:=match b with|some b=>Sv b.1 s|none=>0
noncomputable abbrev qH:Spec:=Cu (.pair (.optr ic) (.pair tL .unit)) tL false true (λx=>LG x.1 x.2.1) (λx=>IK x.1 x.2.1)
noncomputable abbrev dp:Spec:=Cu (.pair (.optr ic) (.pair tL .unit)) tI false true (λx=>LG x.1 x.2.1) (λx=>yk x.1 x.2.1)
noncomputable abbrev Yh:Spec:=Cu (.pair zl (.pair tL .unit)) tL false true (λx=>bj x.1/\iq x.1 x.2.1) (λx=>Ow x.1 x.2.1)
noncomputable abbrev dm:Spec:=Cu (.pair zl (.pair tL .unit)) tI false true (λx=>bj x.1/\iq x.1 x.2.1) (λx=>Sv x.1 x.2.1)
noncomputable def gE (p:PP) (ts:List TT):Int:=if (Fb p&&Ei p ts)=true then (((List.range (Bb p).length).countP λi=>decide (Sv ts ((Bb p).getD i [])=(Eo p).getD i 0):Nat):Int) else-1
noncomputable abbrev Mz:Spec:=Cu (.pair Dm (.pair zl .unit)) tI false true (λx=>Cp x.1/\Gw x.2.1) (λx=>gE x.1 x.2.1)
abbrev hY:Type:=Int×List Int×List (List Int)×List Int×List (List Int×List (List Int)×List Int×PUnit)×(ByteArray->Option Int)×List (ByteArray->Option Int)×PUnit
abbrev ib:Type:=Int×List (List Int×List (List Int)×List Int×PUnit)×List (ByteArray->Option Int)×PUnit
theorem x4 (ts:List (List Int×List (List Int)×List Int×Unit)) (P:Option (List (List Int×List (List Int)×List Int×Unit)×List (ByteArray->Option Int)×Unit)->Prop):(0=0/\0=([]:List Int).length/\Bl (λ(v2:ib) (k3:ib->Prop)=>Br (decide (v2.1<(↑ts.length:Int))) (∃(y4:List Int×List (List Int)×List Int×PUnit),idx ts v2.1=some y4/\0=0/\v2.2.2.1.length=v2.2.2.1.length/\Bl (λ(v5:hY) (k6:hY->Prop)=>Br (decide (v5.1<(↑y4.2.1.length:Int))) (∃(y7:List Int),idx y4.2.1 v5.1=some y7/\ ∃(y8:ByteArray),Ck.fn (y7,())=some y8/\ ∃(y9:Int),idx v5.2.2.2.1 v5.1=some y9/\0=0/\v5.2.2.2.2.2.2.1.length=v5.2.2.2.2.2.2.1.length/\k6 (IntKind.i64.wrap (v5.1+(1:Int)),v5.2.1,v5.2.2.1,v5.2.2.2.1,v5.2.2.2.2.1,Sb v5.2.2.2.2.2.1 y8 y9,v5.2.2.2.2.2.2.1,())) (0=0/\v5.2.2.2.2.2.2.1.length=v5.2.2.2.2.2.2.1.length/\v5.2.2.2.2.2.2.1.length+(List.take 1 (List.drop 0 [v5.2.2.2.2.2.1])).length<=Bh/\0=0/\(v5.2.2.2.2.2.2.1++List.take 1 (List.drop 0 [v5.2.2.2.2.2.1])).length=(v5.2.2.2.2.2.2.1++List.take 1 (List.drop 0 [v5.2.2.2.2.2.1])).length/\k3 (IntKind.i64.wrap (v2.1+(1:Int)),v5.2.2.2.2.1,v5.2.2.2.2.2.2.1++List.take 1 (List.drop 0 [v5.2.2.2.2.2.1]),()))) ((0:Int),y4.1,y4.2.1,y4.2.2.1,v2.2.1,λ(_:ByteArray)=>none,v2.2.2.1,PUnit.unit)) (P (some (v2.2.1,List.take v2.2.2.1.length (List.drop 0 v2.2.2.1),())))) ((0:Int),ts,[],PUnit.unit))=fnW (JW [Sd+101101]) (look [(128,Ck)]) Ob Try.f90 (ts,()) P:=by kernel_rfl
abbrev JS:Type:=List (List Int×List (List Int)×List Int×PUnit)×List (ByteArray->Option Int)×PUnit
theorem ZN (b:Option (List (List Int×List (List Int)×List Int×Unit)×List (ByteArray->Option Int)×Unit)) (s:List Int) (P:List Int->Prop):(∃(y3:JS),b=some y3/\0=0/\0=([]:List Int).length/\Bl (λ(v4:Int×List Int×PUnit) (k5:Int×List Int×PUnit->Prop)=>Br (decide (v4.1<(↑y3.1.length:Int))) (∃(y6:List Int×List (List Int)×List Int×PUnit),idx y3.1 v4.1=some y6/\ ∃(y7:JS),b=some y7/\ ∃(y8:ByteArray->Option Int),idx y7.2.1 v4.1=some y8/\ ∃(y9:List Int),Tz.fn (s,y6.1,())=some y9/\ ∃(fE:ByteArray),Ck.fn (y9,())=some fE/\0=0/\v4.2.1.length=v4.2.1.length/\v4.2.1.length+(List.take 1 (List.drop 0 [(y8 fE).getD (Int.ofNat (nat_lit 0))])).length<=Bh/\0=0/\(v4.2.1++List.take 1 (List.drop 0 [(y8 fE).getD (Int.ofNat (nat_lit 0))])).length=(v4.2.1++List.take 1 (List.drop 0 [(y8 fE).getD (Int.ofNat (nat_lit 0))])).length/\k5 (IntKind.i64.wrap (v4.1+(1:Int)),v4.2.1++List.take 1 (List.drop 0 [(y8 fE).getD (Int.ofNat (nat_lit 0))]),())) (P (List.take v4.2.1.length (List.drop 0 v4.2.1)))) ((0:Int),[],PUnit.unit))=fnW Cj (look [(128,Ck),(167,Tz)]) qH Try.f140 (b,s,()) P:=by kernel_rfl
theorem NW (b:Option (List (List Int×List (List Int)×List Int×Unit)×List (ByteArray->Option Int)×Unit)) (s:List Int) (P:Int->Prop):(∃(y3:List Int),qH.fn (b,s,())=some y3/\Bl (λ(v4:Int×Int×PUnit) (k5:Int×Int×PUnit->Prop)=>Br (decide (v4.2.1<(↑y3.length:Int))) (∃(y6:Int),idx y3 v4.2.1=some y6/\k5 (if true=true then if y6>v4.1 then y6 else v4.1 else if y6<v4.1 then y6 else v4.1,IntKind.i64.wrap (v4.2.1+(1:Int)),())) (P v4.1)) ((0:Int),(0:Int),PUnit.unit))=fnW Cj (look [(140,qH)]) dp Try.f91 (b,s,()) P:=by kernel_rfl
abbrev jn:Type:=List Int×List (List Int)×List Int×PUnit
theorem KL (ts:List (List Int×List (List Int)×List Int×Unit)) (s:List Int) (P:List Int->Prop):(0=0/\0=([]:List Int).length/\Bl (λ(v3:Int×List Int×PUnit) (k4:Int×List Int×PUnit->Prop)=>Br (decide (v3.1<(↑ts.length:Int))) (∃(y5:jn),idx ts v3.1=some y5/\ ∃(y6:jn),idx ts v3.1=some y6/\ ∃(y7:jn),idx ts v3.1=some y7/\ ∃(y8:List Int),Ua.fn (y7.1,s,())=some y8/\ ∃(y9:Int),Nn.fn (y6,y8,())=some y9/\ ∃(fE:Int),idx y5.2.2.1 y9=some fE/\0=0/\v3.2.1.length=v3.2.1.length/\v3.2.1.length+(List.take 1 (List.drop 0 [fE])).length<=Bh/\0=0/\(v3.2.1++List.take 1 (List.drop 0 [fE])).length=(v3.2.1++List.take 1 (List.drop 0 [fE])).length/\k4 (IntKind.i64.wrap (v3.1+(1:Int)),v3.2.1++List.take 1 (List.drop 0 [fE]),())) (P (List.take v3.2.1.length (List.drop 0 v3.2.1)))) ((0:Int),[],PUnit.unit))=fnW Cj (look [(113,Ua),(163,Nn)]) Yh Try.f136 (ts,s,()) P:=by kernel_rfl
theorem NV (ts:List (List Int×List (List Int)×List Int×Unit)) (s:List Int) (P:Int->Prop):(∃(y3:List Int),Yh.fn (ts,s,())=some y3/\Bl (λ(v4:Int×Int×PUnit) (k5:Int×Int×PUnit->Prop)=>Br (decide (v4.2.1<(↑y3.length:Int))) (∃(y6:Int),idx y3 v4.2.1=some y6/\k5 (if true=true then if y6>v4.1 then y6 else v4.1 else if y6<v4.1 then y6 else v4.1,IntKind.i64.wrap (v4.2.1+(1:Int)),())) (P v4.1)) ((0:Int),(0:Int),PUnit.unit))=fnW Cj (look [(136,Yh)]) dm Try.f87 (ts,s,()) P:=by kernel_rfl
abbrev gZ:Type:=(Int×ByteArray×List (List Int)×PUnit)×List (List Int)×List Int×(ByteArray->Option Int)×List Int×List Int×List (List Int)×PUnit
theorem wX (p:Int×ByteArray×List (List Int)×Unit) (ts:List (List Int×List (List Int)×List Int×Unit)) (P:Int->Prop):(∃(y3:Option ((Int×ByteArray×List (List Int)×PUnit)×List (List Int)×List Int×(ByteArray->Option Int)×List Int×List Int×List (List Int)×PUnit)×Bool×PUnit),Nx.fn ((p.1,p.2.1,p.2.2.1,()),())=some y3/\Br (!y3.2.1) (P (-1:Int)) (∃(y4:Bool),Gm.fn ((p.1,p.2.1,p.2.2.1,()),ts,())=some y4/\Br (!y4) (P (-1:Int)) (∃(y5:Option (List (List Int×List (List Int)×List Int×PUnit)×List (ByteArray->Option Int)×PUnit)),Ob.fn (ts,())=some y5/\ ∃(y6:gZ),y3.1=some y6/\Bl (λ(v7:Int×Int×PUnit) (k8:Int×Int×PUnit->Prop)=>Br (decide (v7.2.1<(↑y6.2.1.length:Int))) (∃(y9:List Int),idx y6.2.1 v7.2.1=some y9/\ ∃(fE:Int),dp.fn (y5,y9,())=some fE/\ ∃(r6:gZ),y3.1=some r6/\ ∃(OA:Int),idx r6.2.2.1 v7.2.1=some OA/\Br (fE==OA) (k8 (IntKind.i64.wrap (v7.1+(1:Int)),IntKind.i64.wrap (v7.2.1+(1:Int)),())) (k8 (v7.1,IntKind.i64.wrap (v7.2.1+(1:Int)),()))) (P v7.1)) ((0:Int),(0:Int),PUnit.unit))))=fnW Cj (look [(80,Nx),(89,Gm),(90,Ob),(91,dp)]) Mz Try.f48 (p,ts,()) P:=by kernel_rfl
abbrev ia:Type:=Int×Int×List (List Int)×List Int×List Int×Bool×PUnit
theorem kr (p:Int×ByteArray×List (List Int)×Unit) (ts:List (List Int×List (List Int)×List Int×Unit)) (P:Int->Prop):(∃(y3:(List (List Int)×List Int×List Int×Bool×PUnit)×Bool×PUnit),Lm.fn ((p.1,p.2.1,p.2.2.1,()),())=some y3/\Br (!y3.2.1) (P (-1:Int)) (∃(y4:Bool),Gm.fn ((p.1,p.2.1,p.2.2.1,()),ts,())=some y4/\Br (!y4) (P (-1:Int)) (Bl (λ(v5:ia) (k6:ia->Prop)=>Br (decide (v5.2.1<(↑v5.2.2.1.length:Int))) (∃(y7:List Int),idx v5.2.2.1 v5.2.1=some y7/\ ∃(y8:Int),dm.fn (ts,y7,())=some y8/\ ∃(y9:Int),idx v5.2.2.2.1 v5.2.1=some y9/\Br (y8==y9) (k6 (IntKind.i64.wrap (v5.1+(1:Int)),IntKind.i64.wrap (v5.2.1+(1:Int)),v5.2.2.1,v5.2.2.2.1,v5.2.2.2.2.1,v5.2.2.2.2.2.1,())) (k6 (v5.1,IntKind.i64.wrap (v5.2.1+(1:Int)),v5.2.2.1,v5.2.2.2.1,v5.2.2.2.2.1,v5.2.2.2.2.2.1,()))) (P v5.1)) ((0:Int),(0:Int),y3.1.1,y3.1.2.1,y3.1.2.2.1,y3.1.2.2.2.1,PUnit.unit))))=fnW Cj (look [(75,Lm),(86,Gm),(87,dm)]) Mz Try.f46 (p,ts,()) P:=by kernel_rfl
abbrev cF:Type:=List (List Int×List (List Int)×List Int×PUnit)
abbrev cG:Type:=Int×ByteArray×List (List Int)×PUnit
theorem zu (p:Int×ByteArray×List (List Int)×Unit) (ts:List (List Int×List (List Int)×List Int×Unit)) (P:Bool->Prop):(∃(y3:Int),qM.fn ((p.1,p.2.1,p.2.2.1,()),(1048576:Int),())=some y3/\Br (decide (y3<(0:Int))) (P true) (∃(y4:Int),jc.fn (ts,y3,())=some y4/\Br (decide (y4<(0:Int))) (P true) (∃(y5:cG),ka.fn ((p.1,p.2.1,p.2.2.1,()),())=some y5/\ ∃(y6:cF),cy.fn (ts,())=some y6/\ ∃(y7:Int),Mz.fn (y5,y6,())=some y7/\ ∃(y8:cG),ka.fn ((p.1,p.2.1,p.2.2.1,()),())=some y8/\ ∃(y9:cF),cy.fn (ts,())=some y9/\ ∃(fE:Int),Mz.fn ((y8.1,y8.2.1,y8.2.2.1,()),y9,())=some fE/\Br (fE !=y7) (P false) (∃(r6:cG),ka.fn ((p.1,p.2.1,p.2.2.1,()),())=some r6/\ ∃(OA:Bool),qJ.fn ((y8.1,y8.2.1,y8.2.2.1,()),r6,())=some OA/\Br (!OA) (P false) (∃(zC:cF),cy.fn (ts,())=some zC/\ ∃(aT:Bool),ja.fn (y9,zC,())=some aT/\Br (!aT) (P false) (P true))))))=fnW Cj (look [(14,qM),(45,jc),(46,Mz),(48,Mz),(16,ka),(47,cy),(19,qJ),(49,ja)]) nu Try.f12 (p,ts,()) P:=by kernel_rfl
theorem FV.short {t:TT} (h:FV t):Ka t:=by
 have h1:=h.kE;have h2:=h.len;have h3:=h.tl
 exact ⟨by unfold _root_.Go.Proofs.Ytjbdmibbbpdnnaa.short;omega,⟨by omega,λr hr=>by have:=h.pl r hr;unfold _root_.Go.Proofs.Ytjbdmibbbpdnnaa.short;omega⟩,by unfold _root_.Go.Proofs.Ytjbdmibbbpdnnaa.short;omega⟩
theorem qY {p:PP} {t:TT} (h:Df p t=true):FV t/\Cm p t.1=true/\(Ct p.2.2.1 t.1).2.2=true/\t.2.1=c5 p t.1/\t.2.2.1=yl p t.1:=by
 obtain ⟨h1,h2⟩:=Bool.and_eq_true_iff.1 h
 obtain ⟨h3,h4⟩:=Yd.1 h1
 have h5:=iR.1 h2
 unfold Dt at h5
 rw [if_pos h1] at h5
 have e1:t.2.1=c5 p t.1:=(congrArg (λz:TT=>z.2.1) h5).symm
 have e2:t.2.2.1=yl p t.1:=(congrArg (λz:TT=>z.2.2.1) h5).symm
 have hv:=(Ln.1 h3).1
 have hn:=(valid hv).n
 have bO:=mZ h3
 have kG:=bO.ok.kE
 have hlen:=bO.len
 have xf:=bO.ok.short
 refine ⟨⟨by rw [e1];exact kG,by rw [e1,e2];exact hlen,by rw [e1];exact bO.ok.nodup,λx hx=>?_,λd hd=>?_,(Ek h3).1,λx hx=>?_⟩,h3,h4,e1,e2⟩
 ·rw [e1] at hx
  intro y hy
  have:=bO.row x hx y hy
  omega
 ·rw [e2] at hd
  obtain ⟨j,hj,rfl⟩:=List.mem_iff_getElem.1 hd
  have h6:=bO.dep j hj
  have tQ:j<(Ct p.2.2.1 t.1).2.1.length:=hj
  exact ⟨h6.1,by have:=h6.2;show (Ct p.2.2.1 t.1).2.1[j]<=3000;omega⟩
 ·rw [e1] at hx
  have:=bO.ok.len x hx
  omega
theorem cH {p:PP} {ts:List TT} (h:Ei p ts=true):Bg p=true/\bj ts/\ ∀t∈ts,Df p t=true:=by
 unfold Ei at h
 rw [Bool.and_eq_true,Bool.and_eq_true,List.all_eq_true,decide_eq_true_iff] at h
 exact ⟨h.1.1,⟨h.1.2,λt ht=>(qY (h.2 t ht)).1⟩,h.2⟩
theorem wO: ∀(xs:List (List Int)) (ds:List Int) (m:ByteArray->Option Int) (x:List Int),xs.length=ds.length->xs.Nodup->(∀y∈xs,Ol y)->Ol x->EP xs ds m (Ie x)=if x∈xs then some (ds.getD (xs.idxOf x) 0) else m (Ie x)
 | [],ds,m,x,_,_,_,_=>by cases ds<;>simp [EP]
 |y::xs,[],m,x,hl,_,_,_=>by simp at hl
 |y::xs,d::ds,m,x,hl,hn,hb,hx=>by
  obtain ⟨hy,hn⟩:=List.nodup_cons.1 hn
  simp only [EP]
  rw [wO xs ds _ x (by simpa using hl) hn (λz hz=>hb z (List.mem_cons_of_mem _ hz)) hx]
  by_cases hm:x∈xs
  ·have Fe:y≠x:= λe=>hy (e▸hm)
   have hi:(y::xs).idxOf x=xs.idxOf x+1:=by rw [List.idxOf_cons,show (y==x)=false by simpa using Fe];rfl
   rw [if_pos hm,if_pos (List.mem_cons_of_mem _ hm),hi]
   rfl
  ·rw [if_neg hm]
   unfold Sb
   by_cases e:Ie x=Ie y
   ·have:=key_inj hx (hb y (by simp)) e
    subst this
    rw [if_pos e,if_pos (by simp),List.idxOf_cons_self]
    rfl
   ·have Fe:x≠y:= λh=>e (by rw [h])
    rw [if_neg e,if_neg (by simp [Fe,hm])]
theorem KE {t:TT} (h:FV t) {x:List Int} (hx:x∈t.2.1):Oy t (Ie x)=some (t.2.2.1.getD (t.2.1.idxOf x) 0):=by
 unfold Oy
 rw [wO _ _ _ _ h.len.symm h.nodup h.byte (h.byte x hx),if_pos hx]
theorem wb (ts:List TT) (h:bj ts):fnW (JW [Sd+101101]) (look [(128,Ck)]) Ob Try.f90 (ts,()) (λ(z:Option BB)=>z=some (bY ts)):=by
 obtain ⟨h4,hd⟩:=h
 refine Eq.mp (x4 ts _) ⟨rfl,rfl,?_⟩
 refine Ai ts.length (λv=>v.1) (λi v=>v=((i:Int),ts,(ts.take i).map Oy,())) rfl rfl ?_
 rintro i v K hi PB rfl hK
 dsimp only
 refine Br.dec (λhl=>?_) λhl=>?_
 ·have hl:i<ts.length:=by omega
  have BU:=hd _ (List.getElem_mem hl)
  have kG:=BU.kE
  have hlen:=BU.len
  have SD:=BU.short
  refine ⟨_,An hl,rfl,rfl,?_⟩
  refine Ai (ts[i]).2.1.length (λv=>v.1) (λj v=> ∃m,v=((j:Int),(ts[i]).1,(ts[i]).2.1,(ts[i]).2.2.1,ts,m,(ts.take i).map Oy,())/\EP ((ts[i]).2.1.drop j) ((ts[i]).2.2.1.drop j) m=Oy ts[i]) rfl ⟨_,rfl,by rw [List.drop_zero,List.drop_zero];rfl⟩ ?_
  rintro j v K1 hj hjj ⟨m,rfl,hm⟩ hK1
  dsimp only
  refine Br.dec (λcZ=>?_) λcZ=>?_
  ·have cZ:j<(ts[i]).2.1.length:=by omega
   have tS:j<(ts[i]).2.2.1.length:=by omega
   rw [List.drop_eq_getElem_cons cZ,List.drop_eq_getElem_cons tS] at hm
   refine ⟨_,An cZ,_,if_pos (SD.2.1.2 _ (List.getElem_mem cZ)),_,An tS,rfl,rfl,?_⟩
   rw [Ag (by omega)]
   exact hK1 cZ _ rfl ⟨_,rfl,hm⟩
  ·have:j=(ts[i]).2.1.length:=by omega
   subst this
   rw [List.drop_length] at hm
   have hm:m=Oy ts[i]:=by
    rw [<-hm]
    cases List.drop (ts[i]).2.1.length (ts[i]).2.2.1<;>rfl
   subst hm
   refine ⟨rfl,rfl,by show ((ts.take i).map Oy).length+1<=4294967296;rw [List.length_map,List.length_take];omega,rfl,rfl,?_⟩
   rw [Ag (by omega)]
   have hmm:(ts.take (i+1)).map Oy=(ts.take i).map Oy++ [Oy ts[i]]:=by
    rw [List.take_add_one,List.getElem?_eq_getElem hl,Option.toList_some,List.map_append]
    rfl
   refine hK hl _ rfl ?_
   rw [hmm]
   rfl
 ·have:i=ts.length:=by omega
  subst this
  rw [Bn,List.take_length]
  rfl
theorem kV:Sound Try.prog 90 Ob:=
 Sound.Cu (JX [Sd+101101]) (Ae Pk Ao) mixed Try.func90 (by kernel_rfl) (by kernel_rfl) λx h=>wb x.1 h
theorem fM (ts:List TT) (s:List Int):(Ow ts s).length=ts.length:=by unfold Ow;rw [List.length_map]
theorem pP {ts:List TT} {s:List Int} {i:Nat} (hl:i<ts.length):(Ow (ts.take (i+1)) s)=Ow (ts.take i) s++ [lp ts[i] s]:=by
 unfold Ow
 rw [List.take_add_one,List.getElem?_eq_getElem hl,Option.toList_some,List.map_append]
 rfl
theorem YQ (b:Option BB) (s:List Int) (h:LG b s):fnW Cj (look [(128,Ck),(167,Tz)]) qH Try.f140 (b,s,()) (λ(z:List Int)=>z=IK b s):=by
 obtain ⟨ts,⟨h4,hd⟩,rfl,hs⟩:=h
 refine Eq.mp (ZN _ s _) ⟨bY ts,rfl,rfl,rfl,?_⟩
 show Bl _ _
 refine Ai ts.length (λv=>v.1) (λi v=>v=((i:Int),Ow (ts.take i) s,())) rfl rfl ?_
 rintro i v K hi PB rfl hK
 dsimp only
 refine Br.dec (λhl=>?_) λhl=>?_
 ·have hl:i<ts.length:=by have hl:(i:Int)<(ts.length:Int):=hl;omega
  have BU:=hd _ (List.getElem_mem hl)
  obtain ⟨fC,oq⟩:=hs.2 _ (List.getElem_mem hl)
  have htl:=BU.tl
  have da:=BU.pl _ oq
  refine ⟨ts[i],An hl,bY ts,rfl,Oy ts[i],?_,_,if_pos ⟨by show (ts[i]).1.length<=4294967296;omega,fC⟩,_,if_pos (by show (Bp s (ts[i]).1).length<=4294967296;omega),rfl,rfl,?_,rfl,rfl,?_⟩
  ·show idx (ts.map Oy) (i:Int)=_
   rw [An (by rw [List.length_map];exact hl),List.getElem_map]
  ·show (Ow (ts.take i) s).length+1<=4294967296
   rw [fM,List.length_take];omega
  ·rw [Ag (by omega)]
   refine hK hl _ rfl ?_
   rw [pP hl,show Oy ts[i] (Ie (Bp s (ts[i]).1))=some (lp ts[i] s) from KE BU oq]
   rfl
 ·have:i=ts.length:=by have hl: ¬(i:Int)<(ts.length:Int):=hl;omega
  subst this
  rw [Bn,List.take_length]
  rfl
theorem DZ:Sound Try.prog 140 qH:=
 Sound.Cu Bj (Ae Pk (Ae po Ao)) mixed Try.func140 (by kernel_rfl) (by kernel_rfl) λx h=>YQ x.1 x.2.1 h
theorem IP (a b:Int):(if true=true then if b>a then b else a else if b<a then b else a)=max a b:=by
 rw [if_pos rfl]
 by_cases h:b>a
 ·rw [if_pos h,Int.max_eq_right (by omega)]
 ·rw [if_neg h,Int.max_eq_left (by omega)]
theorem NB (b:Option BB) (s:List Int) (h:LG b s):fnW Cj (look [(140,qH)]) dp Try.f91 (b,s,()) (λ(z:Int)=>z=yk b s):=by
 obtain ⟨ts,ht,hb,hs⟩:=id h
 have hl4:=ht.1
 have hlen:=fM ts s
 obtain ⟨xs,SJ⟩: ∃xs,IK b s=xs:=⟨_,rfl⟩
 have HN:yk b s=xs.foldl max 0:=by rw [<-SJ,hb];rfl
 have HO:xs.length=ts.length:=by rw [<-SJ,hb];exact hlen
 refine Eq.mp (NW b s _) ⟨xs,(if_pos h).trans (congrArg some SJ),?_⟩
 rw [HN]
 refine Ai xs.length (λv=>v.2.1) (λi v=>v=((xs.take i).foldl max 0,(i:Int),())) rfl rfl ?_
 rintro i v K hi PB rfl hK
 dsimp only
 refine Br.dec (λhl=>?_) λhl=>?_
 ·have hl:i<xs.length:=by omega
  refine ⟨_,An hl,?_⟩
  rw [Ag (by omega)]
  refine hK hl _ rfl ?_
  rw [List.take_add_one,List.getElem?_eq_getElem hl,Option.toList_some,List.foldl_append,IP]
  rfl
 ·have:i=xs.length:=by omega
  subst this
  rw [List.take_length]
theorem wE:Sound Try.prog 91 dp:=
 Sound.Cu Bj (Ae DZ Ao) mixed Try.func91 (by kernel_rfl) (by kernel_rfl) λx h=>NB x.1 x.2.1 h
theorem xY {L:List (List Int)} {x:List Int} (hn:L.Nodup) (hx:x∈L):Du (λq=>decide (q=x)) L 0=((L.idxOf x:Nat):Int):=by
 obtain ⟨k,hk,h1,h2,_⟩:=qc (P:= λq=>decide (q=x)) L 0 (List.any_eq_true.2 ⟨x,hx,decide_eq_true rfl⟩)
 have h3:L[k]=x:=of_decide_eq_true h2
 have h4:=xX hn hk
 rw [Js hk,h3] at h4
 rw [h4,<-Nat.zero_add k]
 exact h1
theorem IZ (ts:List TT) (s:List Int) (h:bj ts/\iq ts s):fnW Cj (look [(113,Ua),(163,Nn)]) Yh Try.f136 (ts,s,()) (λ(z:List Int)=>z=Ow ts s):=by
 obtain ⟨⟨h4,hd⟩,hs⟩:=h
 refine Eq.mp (KL ts s _) ⟨rfl,rfl,?_⟩
 refine Ai ts.length (λv=>v.1) (λi v=>v=((i:Int),Ow (ts.take i) s,())) rfl rfl ?_
 rintro i v K hi PB rfl hK
 dsimp only
 refine Br.dec (λhl=>?_) λhl=>?_
 ·have hl:i<ts.length:=by omega
  have BU:=hd _ (List.getElem_mem hl)
  obtain ⟨fC,oq⟩:=hs.2 _ (List.getElem_mem hl)
  have htl:=BU.tl
  have da:=BU.pl _ oq
  have hix:=List.idxOf_lt_length_of_mem oq
  have hle:=BU.len
  have he:Nn.fn (((ts[i]).1,(ts[i]).2.1,(ts[i]).2.2.1,()),Bp s (ts[i]).1,())=some (((ts[i]).2.1.idxOf (Bp s (ts[i]).1):Nat):Int):=
   (if_pos ⟨BU.short,by show (Bp s (ts[i]).1).length<=4294967296;omega⟩).trans (congrArg some (xY BU.nodup oq))
  refine ⟨_,An hl,_,An hl,_,An hl,_,if_pos ⟨by show (ts[i]).1.length<=4294967296;omega,fC⟩,_,he,_,An (by omega),rfl,rfl,?_,rfl,rfl,?_⟩
  ·show (Ow (ts.take i) s).length+1<=4294967296
   rw [fM,List.length_take];omega
  ·rw [Ag (by omega)]
   refine hK hl _ rfl ?_
   rw [pP hl]
   unfold lp
   rw [Js (by omega)]
   rfl
 ·have:i=ts.length:=by omega
  subst this
  rw [Bn,List.take_length]
theorem sX:Sound Try.prog 136 Yh:=
 Sound.Cu Bj (Ae pq (Ae nP Ao)) mixed Try.func136 (by kernel_rfl) (by kernel_rfl) λx h=>IZ x.1 x.2.1 h
theorem NA (ts:List TT) (s:List Int) (h:bj ts/\iq ts s):fnW Cj (look [(136,Yh)]) dm Try.f87 (ts,s,()) (λ(z:Int)=>z=Sv ts s):=by
 have hl4:=h.1.1
 have hlen:=fM ts s
 obtain ⟨xs,SJ⟩: ∃xs,Ow ts s=xs:=⟨_,rfl⟩
 have HN:Sv ts s=xs.foldl max 0:=by rw [<-SJ];rfl
 have HO:xs.length=ts.length:=by rw [<-SJ];exact hlen
 refine Eq.mp (NV ts s _) ⟨xs,(if_pos h).trans (congrArg some SJ),?_⟩
 rw [HN]
 refine Ai xs.length (λv=>v.2.1) (λi v=>v=((xs.take i).foldl max 0,(i:Int),())) rfl rfl ?_
 rintro i v K hi PB rfl hK
 dsimp only
 refine Br.dec (λhl=>?_) λhl=>?_
 ·have hl:i<xs.length:=by omega
  refine ⟨_,An hl,?_⟩
  rw [Ag (by omega)]
  refine hK hl _ rfl ?_
  rw [List.take_add_one,List.getElem?_eq_getElem hl,Option.toList_some,List.foldl_append,IP]
  rfl
 ·have:i=xs.length:=by omega
  subst this
  rw [List.take_length]
theorem wD:Sound Try.prog 87 dm:=
 Sound.Cu Bj (Ae sX Ao) mixed Try.func87 (by kernel_rfl) (by kernel_rfl) λx h=>NA x.1 x.2.1 h
theorem ke {p:PP} {ts:List TT} (hw:Fb p=true) (ht:Ei p ts=true) {s:List Int} (hs:s∈Bb p):iq ts s:=by
 obtain ⟨hv,_,Hg⟩:=cH ht
 refine ⟨TK (QE hv hs),λt iN=>?_⟩
 obtain ⟨_,h3,_,e1,_⟩:=qY (Hg t iN)
 exact ⟨sD hv hs h3,by rw [e1];exact TJ hw h3 s hs⟩
theorem count_range {q:Nat->Bool} (j:Nat):(List.range (j+1)).countP q=(List.range j).countP q+if q j=true then 1 else 0:=by
 rw [List.range_succ,List.countP_append]
 simp [List.countP_cons]
theorem zP {q:Nat->Bool} (j:Nat):(List.range j).countP q<=j:=Nat.le_trans List.countP_le_length (by simp)
theorem wi (p:PP) (ts:List TT) (h:Cp p/\Gw ts):fnW Cj (look [(75,Lm),(86,Gm),(87,dm)]) Mz Try.f46 (p,ts,()) (λ(z:Int)=>z=gE p ts):=by
 obtain ⟨hp,iN⟩:=h
 unfold gE
 by_cases hw:Fb p=true
 ·have hv:=(Gz hw).1
  rw [hw,Bool.true_and]
  refine Eq.mp (kr p ts _) ⟨_,nS hp hw,λhb=>by simp at hb,λ_=>⟨_,if_pos ⟨hp,iN⟩,Br.of (λhm=>?_) λhm=>?_⟩⟩
  ·rw [if_neg (Dg hm)]
  have hm:Ei p ts=true:=by simpa using hm
  rw [if_pos hm]
  have hlen:=nT hv
  have hdl:=lU hw
  obtain ⟨_,MN,_⟩:=cH hm
  refine Ai (Bb p).length (λv=>v.2.1) (λj v=>v.1=(((List.range j).countP λi=>decide (Sv ts ((Bb p).getD i [])=(Eo p).getD i 0):Nat):Int)/\v.2.2.1=Bb p/\v.2.2.2.1=Eo p) rfl ⟨rfl,rfl,rfl⟩ ?_
  rintro j ⟨c,i,L,D,x2,x3,⟨⟩⟩ K hj hi ⟨hR,hL,hD⟩ hK
  dsimp only at hi hR hL hD⊢
  subst hi hR hL hD
  have hcb:=zP (q:= λi=>decide (Sv ts ((Bb p).getD i [])=(Eo p).getD i 0)) j
  refine Br.dec (λhl=>?_) λhl=>?_
  ·have hl:j<(Bb p).length:=by omega
   have Ti:=List.getElem_mem hl
   have hr:=count_range (q:= λi=>decide (Sv ts ((Bb p).getD i [])=(Eo p).getD i 0)) j
   rw [Js hl,Js (by omega)] at hr
   refine ⟨_,An hl,_,if_pos ⟨MN,ke hw hm Ti⟩,_,An (by omega),Br.of (λhb=>?_) λhb=>?_⟩
   ·have hb:Sv ts (Bb p)[j]=(Eo p)[j]:=by simpa using hb
    rw [if_pos (decide_eq_true hb)] at hr
    rw [Ag (by omega),Ag (by omega)]
    exact hK hl _ rfl ⟨by rw [hr],rfl,rfl⟩
   ·have hb: ¬Sv ts (Bb p)[j]=(Eo p)[j]:=by simpa using hb
    rw [if_neg (by rw [decide_eq_true_iff];exact hb)] at hr
    rw [Ag (by omega)]
    exact hK hl _ rfl ⟨by rw [hr];rfl,rfl,rfl⟩
  ·have:j=(Bb p).length:=by omega
   subst this
   rfl
 ·obtain ⟨f,he⟩:=ta hp hw
  rw [Bool.not_eq_true _|>.mp hw,Bool.false_and,if_neg (by decide)]
  exact Eq.mp (kr p ts _) ⟨_,he,λ_=>rfl,λhb=>by simp at hb⟩
theorem kZ:Sound Try.prog 46 Mz:=
 Sound.Cu Bj (Ae nN (Ae fq (Ae wD Ao))) mixed Try.func46 (by kernel_rfl) (by kernel_rfl) λx h=>wi x.1 x.2.1 h
theorem w8 (p:PP) (ts:List TT) (h:Cp p/\Gw ts):fnW Cj (look [(80,Nx),(89,Gm),(90,Ob),(91,dp)]) Mz Try.f48 (p,ts,()) (λ(z:Int)=>z=gE p ts):=by
 obtain ⟨hp,iN⟩:=h
 unfold gE
 refine Eq.mp (wX p ts _) ?_
 by_cases hw:Fb p=true
 ·have he:Nx.fn (p,())=some (some (Sl p),true,()):=(if_pos hp).trans (congrArg some (if_pos hw))
  rw [hw,Bool.true_and]
  refine ⟨_,he,λhb=>by simp at hb,λ_=>⟨_,if_pos ⟨hp,iN⟩,Br.of (λhm=>?_) λhm=>?_⟩⟩
  ·rw [if_neg (Dg hm)]
  have hm:Ei p ts=true:=by simpa using hm
  rw [if_pos hm]
  have hv:=(Gz hw).1
  have hx:QJ (Sl p):=⟨hw,rfl⟩
  have Sf:(Sl p).2.1=Bb p:=VM hx
  have GS:(Sl p).2.2.1=Eo p:=QR hx
  have hm3:=nT hv
  have hdl:=lU hw
  obtain ⟨_,MN,_⟩:=cH hm
  generalize Sl p=e at*
  refine ⟨_,if_pos MN,e,rfl,?_⟩
  rw [Sf]
  refine Ai (Bb p).length (λv=>v.2.1) (λj v=>v=((((List.range j).countP λi=>decide (Sv ts ((Bb p).getD i [])=(Eo p).getD i 0):Nat):Int),(j:Int),())) rfl rfl ?_
  rintro j v K hj hi rfl hK
  dsimp only
  have hcb:=zP (q:= λi=>decide (Sv ts ((Bb p).getD i [])=(Eo p).getD i 0)) j
  refine Br.dec (λhl=>?_) λhl=>?_
  ·have hl:j<(Bb p).length:=by omega
   have Ti:=List.getElem_mem hl
   have hr:=count_range (q:= λi=>decide (Sv ts ((Bb p).getD i [])=(Eo p).getD i 0)) j
   rw [Js hl,Js (by omega)] at hr
   refine ⟨_,An hl,_,if_pos ⟨ts,MN,rfl,ke hw hm Ti⟩,e,rfl,(Eo p)[j],by rw [GS];exact An (by omega),Br.of (λhb=>?_) λhb=>?_⟩
   ·have hb:Sv ts (Bb p)[j]=(Eo p)[j]:=eq_of_beq hb
    rw [if_pos (decide_eq_true hb)] at hr
    rw [Ag (by omega),Ag (by omega)]
    exact hK hl _ rfl (by rw [hr])
   ·have hb: ¬Sv ts (Bb p)[j]=(Eo p)[j]:= λh=>by
     have:(Sv ts (Bb p)[j]==(Eo p)[j])=false:=hb
     rw [h] at this
     simp at this
    rw [if_neg (by rw [decide_eq_true_iff];exact hb)] at hr
    rw [Ag (by omega)]
    exact hK hl _ rfl (by rw [hr];rfl)
  ·have:j=(Bb p).length:=by omega
   subst this
   rfl
 ·have he:Nx.fn (p,())=some (none,false,()):=(if_pos hp).trans (congrArg some (if_neg hw))
  rw [Bool.not_eq_true _|>.mp hw,Bool.false_and,if_neg (by decide)]
  exact ⟨_,he,λ_=>rfl,λhb=>by simp at hb⟩
theorem kS:Sound Try.prog 48 Mz:=
 Sound.Cu Bj (Ae pf (Ae fo (Ae kV (Ae wE Ao)))) mixed Try.func48 (by kernel_rfl) (by kernel_rfl) λx h=>w8 x.1 x.2.1 h
theorem yD (p:PP) (ts:List TT) (h:Cp p/\Gw ts):fnW Cj (look [(14,qM),(45,jc),(46,Mz),(48,Mz),(16,ka),(47,cy),(19,qJ),(49,ja)]) nu Try.f12 (p,ts,()) (λ(z:Bool)=>z=true):=by
 obtain ⟨h0,h1⟩:=h
 refine Eq.mp (zu p ts _) ⟨_,if_pos ⟨h0,wq⟩,Br.dec (λ_=>rfl) λhn=>⟨_,if_pos ⟨h1,(JQ wq hn).2⟩,Br.dec (λ_=>rfl) λ_=>?_⟩⟩
 refine ⟨_,if_pos h0,_,if_pos h1,_,if_pos ⟨h0,h1⟩,_,if_pos h0,_,if_pos h1,_,if_pos ⟨h0,h1⟩,⟨λhe=>HX he,λ_=>?_⟩⟩
 refine ⟨_,if_pos h0,_,if_pos h0,⟨λhe=>vT (yj p) he,λ_=>?_⟩⟩
 exact ⟨_,if_pos h1,_,if_pos h1,⟨λhe=>vT (decide_eq_true rfl) he,λ_=>rfl⟩⟩
theorem nH:Sound Try.prog 12 nu:=
 Sound.Cu Bj (Ae EF (Ae ze (Ae kZ (Ae kS (Ae EG (Ae zf (Ae EB (Ae zb Ao)))))))) mixed Try.func12 (by kernel_rfl) (by kernel_rfl) λx h=>yD x.1 x.2.1 h
end Go.Proofs.Ytjbdmibbbpdnnaa
