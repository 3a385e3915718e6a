/-
  Part 42 of the proof that the statement FnExactPhaseOneWord holds.
-/
import Derived.Test.YtjbdmibbbpdnnaaCPhaseOneWord40
namespace Go.Proofs.Ytjbdmibbbpdnnaa
open Go.RowKit
def ap (p:List Int) (i:Nat):Nat:=(Cx p (i:Int)).toNat
def Pm (n:Nat) (p:List Int):Prop:=p.length=n/\Uk p
theorem Pm.n1 {n:Nat} {p:List Int} (h:Pm n p):1<=n:=h.1▸h.2.pos
theorem Pm.n2 {n:Nat} {p:List Int} (h:Pm n p):n<=20:=h.1▸h.2.len
theorem Pm.Nh {n:Nat} {p:List Int} (h:Pm n p) {i:Nat} (hi:i<n):Cx p (i:Int)=(ap p i:Int)/\ap p i<n:=by
 have c9:i<p.length:=by rw [h.1];exact hi
 have:=h.2.row _ (List.getElem_mem c9)
 unfold ap
 rw [Ig c9]
 have h1:=h.1
 omega
theorem Pm.lt {n:Nat} {p:List Int} (h:Pm n p) {i:Nat} (hi:i<n):ap p i<n:=(h.Nh hi).2
theorem Pm.ext {n:Nat} {p q:List Int} (h:Pm n p) (k:Pm n q) (e: ∀i,i<n->ap p i=ap q i):p=q:=by
 refine List.ext_getElem (by rw [h.1,k.1]) λi h1 h2=>?_
 have hi:i<n:=by rw [<-h.1];exact h1
 have a:=(h.Nh hi).1
 have b:=(k.Nh hi).1
 rw [Ig h1] at a
 rw [Ig h2] at b
 rw [a,b,e i hi]
theorem Pm.inj {n:Nat} {p:List Int} (h:Pm n p) {i j:Nat} (hi:i<n) (hj:j<n) (e:ap p i=ap p j):i=j:=
 h.2.inj i j (by rw [h.1];exact hi) (by rw [h.1];exact hj) e
theorem Pm.JU {n:Nat} {p:List Int} (h:Pm n p) {k:Nat} (hk:k<n): ∃i,i<n/\ap p i=k:=by
 obtain ⟨i,h1,h2⟩:=h.2.JU k (by rw [h.1];exact hk)
 exact ⟨i,by rw [<-h.1];exact h1,h2⟩
theorem Pm.of {n:Nat} {p:List Int} (hl:p.length=n) (h1:1<=n) (h2:n<=20) (f:Nat->Nat) (hf: ∀i,i<n->p[i]?=some (f i:Int)/\f i<n) (hi: ∀i j,i<n->j<n->f i=f j->i=j):Pm n p:=by
 refine ⟨hl,by omega,by omega,λy hy=>?_,?_⟩
 ·obtain ⟨i,hi,rfl⟩:=List.mem_iff_getElem.1 hy
  obtain ⟨h3,h4⟩:=hf i (by omega)
  rw [List.getElem?_eq_getElem hi] at h3
  rw [Option.some.inj h3]
  omega
 ·refine List.pairwise_iff_getElem.2 λi j h3 h4 h5 h6=>?_
  have a:=(hf i (by omega)).1
  have b:=(hf j (by omega)).1
  rw [List.getElem?_eq_getElem h3] at a
  rw [List.getElem?_eq_getElem h4] at b
  rw [Option.some.inj a,Option.some.inj b] at h6
  have:=hi i j (by omega) (by omega) (by omega)
  omega
theorem uU {n:Nat} {p q:List Int} (hp:Pm n p) (hq:Pm n q) {i:Nat} (hi:i<n):(Aa p q)[i]?=some (ap q (ap p i):Int):=by
 have h1:i<p.length:=by rw [hp.1];exact hi
 unfold Aa
 rw [List.getElem?_map,List.getElem?_eq_getElem h1]
 have a:=(hp.Nh hi).1
 rw [Ig h1] at a
 simp only [Option.map_some,a]
 rw [(hq.Nh (hp.Nh hi).2).1]
theorem Pm.comp {n:Nat} {p q:List Int} (hp:Pm n p) (hq:Pm n q):Pm n (Aa p q):=
 Pm.of (by rw [Ns,hp.1]) hp.n1 hp.n2 (λi=>ap q (ap p i)) (λi hi=>⟨uU hp hq hi,hq.lt (hp.lt hi)⟩) λi j hi hj e=>hp.inj hi hj (hq.inj (hp.lt hi) (hp.lt hj) e)
theorem HE {p:List Int} {i k:Nat} (h:p[i]?=some (k:Int)):ap p i=k:=by
 unfold ap Cx
 rw [Int.toNat_natCast,List.getD_eq_getElem?_getD,h]
 simp
theorem Fq {n:Nat} {p q:List Int} (hp:Pm n p) (hq:Pm n q) {i:Nat} (hi:i<n):ap (Aa p q) i=ap q (ap p i):=HE (uU hp hq hi)
theorem xf {n i:Nat} (hi:i<n):(upto n)[i]?=some (i:Int):=by simp [upto,hi]
theorem dV {n i:Nat} (hi:i<n):ap (upto n) i=i:=HE (xf hi)
theorem Pm.id {n:Nat} (h1:1<=n) (h2:n<=20):Pm n (upto n):=Pm.of (by simp [upto]) h1 h2 (λi=>i) (λi hi=>⟨xf hi,hi⟩) λ_ _ _ _ e=>e
theorem BH {n:Nat} {p:List Int} (hp:Pm n p) {i:Nat} (hi:i<n):(Al p)[ap p i]?=some (i:Int):=JB hp.2 (by rw [hp.1];exact hi)
theorem dm {n:Nat} {p:List Int} (hp:Pm n p) {i:Nat} (hi:i<n):ap (Al p) (ap p i)=i:=HE (BH hp hi)
theorem rD {n:Nat} {p:List Int} (hp:Pm n p) {k:Nat} (hk:k<n):ap p (ap (Al p) k)=k:=by
 obtain ⟨i,hi,rfl⟩:=hp.JU hk
 rw [dm hp hi]
theorem Pm.inv {n:Nat} {p:List Int} (hp:Pm n p):Pm n (Al p):=by
 refine Pm.of (by rw [lK,hp.1]) hp.n1 hp.n2 (λk=>ap (Al p) k) (λk hk=>?_) λi j hi hj e=>?_
 ·obtain ⟨i,hi,rfl⟩:=hp.JU hk
  rw [dm hp hi]
  exact ⟨BH hp hi,hi⟩
 ·rw [<-rD hp hi,<-rD hp hj,e]
theorem Dz {n:Nat} {p q r:List Int} (hp:Pm n p) (hq:Pm n q) (hr:Pm n r):Aa (Aa p q) r=Aa p (Aa q r):=
 ((hp.comp hq).comp hr).ext (hp.comp (hq.comp hr)) λi hi=>by rw [Fq (hp.comp hq) hr hi,Fq hp hq hi,Fq hp (hq.comp hr) hi,Fq hq hr (hp.lt hi)]
theorem comp_id {n:Nat} {p:List Int} (hp:Pm n p):Aa p (upto n)=p:=
 (hp.comp (Pm.id hp.n1 hp.n2)).ext hp λi hi=>by rw [Fq hp (Pm.id hp.n1 hp.n2) hi,dV (hp.lt hi)]
theorem id_comp {n:Nat} {p:List Int} (hp:Pm n p):Aa (upto n) p=p:=
 ((Pm.id hp.n1 hp.n2).comp hp).ext hp λi hi=>by rw [Fq (Pm.id hp.n1 hp.n2) hp hi,dV hi]
theorem bK {n:Nat} {p:List Int} (hp:Pm n p):Aa p (Al p)=upto n:=
 (hp.comp hp.inv).ext (Pm.id hp.n1 hp.n2) λi hi=>by rw [Fq hp hp.inv hi,dm hp hi,dV hi]
theorem Uy {n:Nat} {p:List Int} (hp:Pm n p):Aa (Al p) p=upto n:=
 (hp.inv.comp hp).ext (Pm.id hp.n1 hp.n2) λi hi=>by rw [Fq hp.inv hp hi,rD hp hi,dV hi]
theorem mR {n:Nat} {p q:List Int} (hp:Pm n p) (hq:Pm n q) (h:Aa p q=upto n):Al p=q:=by
 rw [<-comp_id hp.inv,<-h,<-Dz hp.inv hp hq,Uy hp,id_comp hq]
theorem inv_mul {n:Nat} {p q:List Int} (hp:Pm n p) (hq:Pm n q):Al (Aa p q)=Aa (Al q) (Al p):=
 mR (hp.comp hq) (hq.inv.comp hp.inv) (by
  rw [Dz hp hq (hq.inv.comp hp.inv),<-Dz hq hq.inv hp.inv,bK hq,id_comp hp.inv,bK hp])
theorem inv_inv {n:Nat} {p:List Int} (hp:Pm n p):Al (Al p)=p:=mR hp.inv hp (Uy hp)
theorem JC {n:Nat} (h1:1<=n) (h2:n<=20):Al (upto n)=upto n:=mR (Pm.id h1 h2) (Pm.id h1 h2) (comp_id (Pm.id h1 h2))
inductive Xl (n:Nat) (S:List Int->Prop):List Int->Prop where
 |id:Xl n S (upto n)
 |mul {p g:List Int} :Xl n S p->S g->Xl n S (Aa p g)
 |inv {p g:List Int} :Xl n S p->S g->Xl n S (Aa p (Al g))
def zW (n:Nat) (S:List Int->Prop):Prop:=(1<=n/\n<=20)/\ ∀g,S g->Pm n g
theorem Xl.pm {n:Nat} {S:List Int->Prop} (hS:zW n S) {p:List Int} (h:Xl n S p):Pm n p:=by
 induction h with
 |id=>exact Pm.id hS.1.1 hS.1.2
 |mul _ hg ih=>exact ih.comp (hS.2 _ hg)
 |inv _ hg ih=>exact ih.comp (hS.2 _ hg).inv
theorem Xl.comp {n:Nat} {S:List Int->Prop} (hS:zW n S) {p q:List Int} (hp:Xl n S p) (hq:Xl n S q):Xl n S (Aa p q):=by
 induction hq with
 |id=>rw [comp_id (hp.pm hS)];exact hp
 |mul hq hg ih=>rw [<-Dz (hp.pm hS) (hq.pm hS) (hS.2 _ hg)];exact .mul ih hg
 |inv hq hg ih=>rw [<-Dz (hp.pm hS) (hq.pm hS) (hS.2 _ hg).inv];exact .inv ih hg
theorem Xl.one {n:Nat} {S:List Int->Prop} (hS:zW n S) {g:List Int} (hg:S g):Xl n S g:=by
 have:=Xl.mul (n:=n) (S:=S) .id hg
 rwa [id_comp (hS.2 g hg)] at this
theorem Xl.VF {n:Nat} {S:List Int->Prop} (hS:zW n S) {g:List Int} (hg:S g):Xl n S (Al g):=by
 have:=Xl.inv (n:=n) (S:=S) .id hg
 rwa [id_comp (hS.2 g hg).inv] at this
theorem Xl.sl {n:Nat} {S:List Int->Prop} (hS:zW n S) {p:List Int} (hp:Xl n S p):Xl n S (Al p):=by
 induction hp with
 |id=>rw [JC hS.1.1 hS.1.2];exact .id
 |mul hq hg ih=>rw [inv_mul (hq.pm hS) (hS.2 _ hg)];exact (Xl.VF hS hg).comp hS ih
 |inv hq hg ih=>rw [inv_mul (hq.pm hS) (hS.2 _ hg).inv,inv_inv (hS.2 _ hg)];exact (Xl.one hS hg).comp hS ih
theorem Xl.trans {n:Nat} {S S':List Int->Prop} (ZA:zW n S') (h: ∀g,S g->Xl n S' g) {p:List Int} (hp:Xl n S p):Xl n S' p:=by
 induction hp with
 |id=>exact .id
 |mul _ hg ih=>exact ih.comp ZA (h _ hg)
 |inv _ hg ih=>exact ih.comp ZA ((h _ hg).sl ZA)
abbrev PO:=Option (List Int)
abbrev Row:=List PO
abbrev Cz:=List Row
def Hx (row:Row):List Int:=(upto row.length).filter λy=>(row.getD y.toNat none).isSome
def Ix (T:Cz):Nat->Nat->List Int->Bool
 |0,_,_=>true
 |k+1,i,p=>match (T.getD i []).getD (Cx p (i:Int)).toNat none with
  |none=>false
  |some t=>Ix T k (i+1) (Aa p (Al t))
def Lk (row:Row):Nat:=row.countP (·.isNone)
def Tj (x:Int) (s:Row×List Int) (o:PO):Row×List Int:=
 match s.1.getD (Cx (o.getD []) x).toNat none with
 |some _=>s
 |none=>(s.1.set (Cx (o.getD []) x).toNat (some (Aa ((s.1.getD x.toNat none).getD []) (o.getD []))),s.2++ [Cx (o.getD []) x])
def Ta (x:Int) (gs:List PO) (s:Row×List Int):Row×List Int:=gs.foldl (Tj x) s
def Ss (gs:List PO):Nat->List Int->Row->Row
 |0,_,row=>row
 |_+1,[],row=>row
 |f+1,x::q,row=>Ss gs f (Ta x gs (row,q)).2 (Ta x gs (row,q)).1
def Rp (gs:List PO) (row:Row):Row:=Ss gs 100 (Hx row) row
def Mw (row:Row) (y:Int) (g:PO):List Int:=
 Aa (Aa ((row.getD y.toNat none).getD []) (g.getD [])) (Al ((row.getD (Cx (g.getD []) y).toNat none).getD []))
def aX (row:Row) (gs:List PO):List (List Int):=(Hx row).flatMap λy=>gs.map λg=>Mw row y g
def Dr:Nat->Nat->List Int->Cz×Cz->Cz×Cz
 |0,_,_,s=>s
 |k+1,l,p,s=>
  if Ix s.2 (k+1) l p=true then s else
   (aX (Rp (s.1.getD l []++ [some p]) (s.2.getD l [])) (s.1.getD l []++ [some p])).foldl (λs q=>Dr k (l+1) q s)
    (s.1.set l (s.1.getD l []++ [some p]),s.2.set l (Rp (s.1.getD l []++ [some p]) (s.2.getD l [])))
def Fx (l:Nat) (p:List Int):Prop:= ∀i,i<l->ap p i=i
def Gn (n:Nat) (gs:List PO):List Int->Prop:=Xl n λg=>some g∈gs
structure MY (n l:Nat) (gs:List PO) (row:Row) (H:List Int->Prop):Prop where
 pg: ∀o∈gs,∃g,o=some g/\Pm n g/\Fx l g
 rl:row.length=n
 r0:row.getD l none=some (upto n)
 rt: ∀y t,row.getD y none=some t->Pm n t/\Fx l t/\ap t l=y/\Gn n gs t
 cl: ∀y t g,row.getD y none=some t->some g∈gs->row.getD (ap g y) none≠none
 sg: ∀y t g t',row.getD y none=some t->some g∈gs->row.getD (ap g y) none=some t'->H (Aa (Aa t g) (Al t'))
def eZ (n:Nat):Nat->Nat->Cz×Cz->Prop
 |0,l,s=>s.1.getD l []= []
 |k+1,l,s=>eZ n k (l+1) s/\MY n l (s.1.getD l []) (s.2.getD l []) (λq=>Ix s.2 k (l+1) q=true)/\ ∀g,some g∈s.1.getD (l+1) []->Gn n (s.1.getD l []) g
theorem PT {l1 l2:List Nat} (hn:l1.Nodup) (hs: ∀x∈l1,x∈l2) (hl:l2.length<=l1.length): ∀x∈l2,x∈l1:=by
 induction l1 generalizing l2 with
 |nil=>
  intro x hx
  have:l2= []:=List.eq_nil_of_length_eq_zero (by simpa using hl)
  rw [this] at hx;cases hx
 |cons a l ih=>
  intro x hx
  obtain ⟨h1,h2⟩:=List.nodup_cons.1 hn
  have ha:=hs a (by simp)
  by_cases e:x=a
  ·subst e;simp
  ·refine List.mem_cons_of_mem _ (ih (l2:=l2.erase a) h2 (λy hy=>?_) ?_ x ((List.mem_erase_of_ne e).2 hx))
   ·have hya:y≠a:= λe'=>h1 (by rw [<-e'];exact hy)
    exact (List.mem_erase_of_ne hya).2 (hs y (by simp [hy]))
   ·rw [List.length_erase_of_mem ha]
    simp only [List.length_cons] at hl
    omega
theorem yV {n:Nat} {g:List Int} (hg:Pm n g) (D:Nat->Bool) (h: ∀y,y<n->D y=true->D (ap g y)=true) {y:Nat} (hy:y<n) (hD:D y=true): ∃x,x<n/\D x=true/\ap g x=y:=by
 have:=PT (l1:=((List.range n).filter D).map (ap g)) (l2:=(List.range n).filter D) ?_ ?_ (by simp) y (List.mem_filter.2 ⟨List.mem_range.2 hy,hD⟩)
 ·obtain ⟨x,hx,e⟩:=List.mem_map.1 this
  obtain ⟨h1,h2⟩:=List.mem_filter.1 hx
  exact ⟨x,List.mem_range.1 h1,h2,e⟩
 ·refine List.pairwise_map.2 (List.Pairwise.imp_of_mem ?_ (List.nodup_range.filter D))
  intro a b ha hb El e
  exact El (hg.inj (List.mem_range.1 (List.mem_filter.1 ha).1) (List.mem_range.1 (List.mem_filter.1 hb).1) e)
 ·intro x hx
  obtain ⟨z,hz,rfl⟩:=List.mem_map.1 hx
  obtain ⟨h1,h2⟩:=List.mem_filter.1 hz
  exact List.mem_filter.2 ⟨List.mem_range.2 (hg.lt (List.mem_range.1 h1)),h z (List.mem_range.1 h1) h2⟩
theorem lE {row:Row} {y:Nat} {t:List Int} (h:row.getD y none=some t):y<row.length:=by
 rw [List.getD_eq_getElem?_getD] at h
 refine Classical.byContradiction λhn=>?_
 rw [List.getElem?_eq_none (by omega)] at h
 cases h
theorem MY.pms {n l:Nat} {gs:List PO} {row:Row} {H:List Int->Prop} (h:MY n l gs row H):zW n λg=>some g∈gs:=by
 refine ⟨?_,λg hg=>?_⟩
 ·have:=(h.rt l _ h.r0).1
  exact ⟨this.n1,this.n2⟩
 ·obtain ⟨g',e,h1,_⟩:=h.pg _ hg
  cases e;exact h1
theorem Fx.inv {n l:Nat} {p:List Int} (hp:Pm n p) (h:Fx l p) (hl:l<=n):Fx l (Al p):= λi hi=>by
 have:=dm hp (i:=i) (by omega)
 rwa [h i hi] at this
theorem Fx.comp {n l:Nat} {p q:List Int} (hp:Pm n p) (hq:Pm n q) (h1:Fx l p) (h2:Fx l q) (hl:l<=n):Fx l (Aa p q):= λi hi=>by
 rw [Fq hp hq (by omega),h1 i hi,h2 i hi]
theorem Fx.all {n:Nat} {p:List Int} (hp:Pm n p) (h:Fx n p):p=upto n:=hp.ext (Pm.id hp.n1 hp.n2) λi hi=>by rw [h i hi,dV hi]
theorem Fx.div {n l:Nat} {p t:List Int} (hp:Pm n p) (ht:Pm n t) (h1:Fx l p) (h2:Fx l t) (hl:l<n) (e:ap t l=ap p l):Fx (l+1) (Aa p (Al t)):= λi hi=>by
 rw [Fq hp ht.inv (by omega)]
 by_cases MN:i<l
 ·rw [h1 i MN];exact h2.inv ht (by omega) i MN
 ·have:i=l:=by omega
  subst this
  rw [<-e,dm ht hl]
theorem gQ {n:Nat} (h1:1<=n) (h2:n<=20): ∀(k l:Nat) (s:Cz×Cz),l+k=n->eZ n k l s-> ∀p,Pm n p->Fx l p->(Ix s.2 k l p=true↔Gn n (s.1.getD l []) p)
 |0,l,s,hk,hc,p,hp,hf=>by
  have hl:l=n:=by omega
  subst hl
  rw [hf.all hp]
  exact ⟨λ_=> .id,λ_=>rfl⟩
 |k+1,l,s,hk,hc,p,hp,hf=>by
  obtain ⟨c1,c2,c3⟩:=hc
  have hS:=c2.pms
  have ih:=gQ h1 h2 k (l+1) s (by omega) c1
  have XF:zW n λg=>some g∈s.1.getD (l+1) []:=⟨⟨h1,h2⟩,λg hg=>(c3 g hg).pm hS⟩
  have aR:l<n:=by omega
  constructor
  ·intro h
   simp only [Ix] at h
   rw [show (Cx p (l:Int)).toNat=ap p l from rfl] at h
   split at h
   ·cases h
   ·rename_i t ht
    obtain ⟨t1,t2,t3,t4⟩:=c2.rt _ _ ht
    have RH:=Fx.div hp t1 hf t2 aR t3
    have hg:=((ih _ (hp.comp t1.inv) RH).1 h).trans hS c3
    have:=Xl.comp hS hg t4
    rwa [Dz hp t1.inv t1,Uy t1,comp_id hp] at this
  ·intro h
   have key: ∀q,Gn n (s.1.getD l []) q-> ∃t,(s.2.getD l []).getD (ap q l) none=some t/\Gn n (s.1.getD (l+1) []) (Aa q (Al t)):=by
    intro q hq
    induction hq with
    |id=>
     refine ⟨upto n,by rw [dV aR];exact c2.r0,?_⟩
     rw [JC h1 h2,comp_id (Pm.id h1 h2)]
     exact .id
    | @mul q g hq hg ihq=>
     obtain ⟨t,e1,e2⟩:=ihq
     have RV:=Xl.pm hS hq
     have Qa:=hS.2 _ hg
     obtain ⟨t1,t2,t3,t4⟩:=c2.rt _ _ e1
     cases e3:(s.2.getD l []).getD (ap g (ap q l)) none with
     |none=>exact absurd e3 (c2.cl _ _ _ e1 hg)
     |some t'=>
      obtain ⟨u1,u2,u3,u4⟩:=c2.rt _ _ e3
      have hsg:=c2.sg _ _ _ _ e1 hg e3
      have hfg:Fx (l+1) (Aa (Aa t g) (Al t')):=Fx.div (t1.comp Qa) u1 (Fx.comp t1 Qa t2 (by obtain ⟨g',e,_,h⟩:=c2.pg _ hg;cases e;exact h) (by omega)) u2 aR (by rw [u3,Fq t1 Qa aR,t3])
      have TQ:=(ih _ ((t1.comp Qa).comp u1.inv) hfg).1 hsg
      refine ⟨t',by rw [Fq RV Qa aR];exact e3,?_⟩
      have:=Xl.comp XF e2 TQ
      rwa [show Aa (Aa q (Al t)) (Aa (Aa t g) (Al t'))=Aa (Aa q g) (Al t') by
       rw [Dz RV t1.inv ((t1.comp Qa).comp u1.inv),Dz t1 Qa u1.inv,<-Dz t1.inv t1 (Qa.comp u1.inv),Uy t1,id_comp (Qa.comp u1.inv),Dz RV Qa u1.inv]] at this
    | @inv q g hq hg ihq=>
     obtain ⟨t,e1,e2⟩:=ihq
     have RV:=Xl.pm hS hq
     have Qa:=hS.2 _ hg
     obtain ⟨t1,t2,t3,t4⟩:=c2.rt _ _ e1
     have hy:ap q l<n:=RV.lt aR
     obtain ⟨x,hx,hD,he⟩:=yV Qa (λy=>((s.2.getD l []).getD y none).isSome) (λy hy hd=>by
      obtain ⟨t0,OO⟩:=Option.isSome_iff_exists.1 hd
      exact Option.ne_none_iff_isSome.1 (c2.cl _ _ _ OO hg)) hy (by rw [e1];rfl)
     obtain ⟨t',e3⟩:=Option.isSome_iff_exists.1 hD
     obtain ⟨u1,u2,u3,u4⟩:=c2.rt _ _ e3
     have hsg:=c2.sg _ _ _ _ e3 hg (by rw [he];exact e1)
     have hfg:Fx (l+1) (Aa (Aa t' g) (Al t)):=Fx.div (u1.comp Qa) t1 (Fx.comp u1 Qa u2 (by obtain ⟨g',e,_,h⟩:=c2.pg _ hg;cases e;exact h) (by omega)) t2 aR (by rw [t3,Fq u1 Qa aR,u3,he])
     have TQ:=Xl.sl XF ((ih _ ((u1.comp Qa).comp t1.inv) hfg).1 hsg)
     have hax:ap (Al g) (ap q l)=x:=by rw [<-he,dm Qa hx]
     refine ⟨t',by rw [Fq RV Qa.inv aR,hax];exact e3,?_⟩
     have:=Xl.comp XF e2 TQ
     rwa [show Aa (Aa q (Al t)) (Al (Aa (Aa t' g) (Al t)))=Aa (Aa q (Al g)) (Al t') by
      rw [inv_mul (u1.comp Qa) t1.inv,inv_inv t1,inv_mul u1 Qa,Dz RV t1.inv (t1.comp (Qa.inv.comp u1.inv)),<-Dz t1.inv t1 (Qa.inv.comp u1.inv),Uy t1,id_comp (Qa.inv.comp u1.inv),Dz RV Qa.inv u1.inv]] at this
   obtain ⟨t,e1,e2⟩:=key p h
   obtain ⟨t1,t2,t3,t4⟩:=c2.rt _ _ e1
   simp only [Ix]
   rw [show (Cx p (l:Int)).toNat=ap p l from rfl,e1]
   exact (ih _ (hp.comp t1.inv) (Fx.div hp t1 hf t2 aR t3)).2 e2
end Go.Proofs.Ytjbdmibbbpdnnaa

namespace Go.Proofs.Ytjbdmibbbpdnnaa
open Go.RowKit
theorem Nv {α:Type} (xs:List α) (i j:Nat) (x d:α):(xs.set i x).getD j d=if i=j/\i<xs.length then x else xs.getD j d:=by
 rw [List.getD_eq_getElem?_getD,List.getElem?_set,List.getD_eq_getElem?_getD]
 by_cases e:i=j
 ·subst e
  by_cases h:i<xs.length
  ·rw [if_pos rfl,if_pos h,if_pos ⟨rfl,h⟩];rfl
  ·rw [if_pos rfl,if_neg h,if_neg (λhh=>h hh.2),List.getElem?_eq_none (by omega)]
 ·rw [if_neg e,if_neg (λhh=>e hh.1)]
theorem Xl.mono {n:Nat} {S S':List Int->Prop} (h: ∀g,S g->S' g) {p:List Int} (hp:Xl n S p):Xl n S' p:=by
 induction hp with
 |id=>exact .id
 |mul _ hg ih=>exact .mul ih (h _ hg)
 |inv _ hg ih=>exact .inv ih (h _ hg)
structure Ru (n l:Nat) (gs:List PO) (row:Row):Prop where
 rl:row.length=n
 r0:row.getD l none=some (upto n)
 rt: ∀y t,row.getD y none=some t->Pm n t/\Fx l t/\ap t l=y/\Gn n gs t
def PG (n l:Nat) (gs:List PO):Prop:= ∀o∈gs,∃g,o=some g/\Pm n g/\Fx l g
structure Ext (n l:Nat) (gs:List PO) (row:Row) (q:List Int) (s':Row×List Int):Prop where
 ok:Ru n l gs s'.1
 mono: ∀y t,row.getD y none=some t->s'.1.getD y none=some t
 YC:s'.2.length+Lk s'.1=q.length+Lk row
 oE: ∀y∈q,y∈s'.2
 new: ∀y∈s'.2,y∈q\/ ∃yn:Nat,y=yn/\s'.1.getD yn none≠none
 src: ∀y:Nat,s'.1.getD y none≠none->row.getD y none≠none\/(y:Int)∈s'.2
theorem Ext.refl {n l:Nat} {gs:List PO} {row:Row} {q:List Int} (h:Ru n l gs row):Ext n l gs row q (row,q):=⟨h,λ_ _ h=>h,rfl,λ_ h=>h,λ_ h=> .inl h,λ_ h=> .inl h⟩
theorem a9 {a b:Row} (h: ∀y t,a.getD y none=some t->b.getD y none=some t) {y:Nat} (hy:a.getD y none≠none):b.getD y none≠none:=by
 cases e:a.getD y none with
 |none=>exact absurd e hy
 |some t=>rw [h y t e];simp
theorem Ext.trans {n l:Nat} {gs:List PO} {row:Row} {q:List Int} {s1 s2:Row×List Int} (h:Ext n l gs row q s1) (k:Ext n l gs s1.1 s1.2 s2):Ext n l gs row q s2:=by
 refine ⟨k.ok,λy t e=>k.mono y t (h.mono y t e),k.YC.trans h.YC,λy hy=>k.oE y (h.oE y hy),λy hy=>?_,λy hy=>?_⟩
 ·rcases k.new y hy with h1|h1
  ·rcases h.new y h1 with h2|⟨yn,h2,h3⟩
   ·exact .inl h2
   ·exact .inr ⟨yn,h2,a9 k.mono h3⟩
  ·exact .inr h1
 ·rcases k.src y hy with h1|h1
  ·exact (h.src y h1).imp id λh2=>k.oE _ h2
  ·exact .inr h1
theorem DR {row:Row} {i:Nat} {t:List Int} (h:row.getD i none=none) (hi:i<row.length):Lk (row.set i (some t))+1=Lk row:=by
 unfold Lk
 have e:row[i]=none:=by
  rw [List.getD_eq_getElem?_getD,List.getElem?_eq_getElem hi] at h
  exact h
 have h1:=List.countP_set (p:= λo:PO=>o.isNone) (l:=row) (i:=i) (a:=some t) hi
 have jh:0<row.countP (·.isNone):=List.countP_pos_iff.2 ⟨row[i],List.getElem_mem hi,by rw [e];rfl⟩
 rw [h1,e]
 simp
 omega
theorem PS {n l:Nat} {gs:List PO} (aR:l<n) (hg:PG n l gs) {row:Row} {q:List Int} (h:Ru n l gs row) {x:Nat} {t:List Int} (hx:row.getD x none=some t) {g:List Int} (ho:some g∈gs):
  Ext n l gs row q (Tj (x:Int) (row,q) (some g))/\(Tj (x:Int) (row,q) (some g)).1.getD (ap g x) none≠none:=by
 obtain ⟨g',e,Qa,TP⟩:=hg _ ho
 cases e
 obtain ⟨t1,t2,t3,t4⟩:=h.rt _ _ hx
 have uo:x<n:=by rw [<-h.rl];exact lE hx
 obtain ⟨a1,a2⟩:=Qa.Nh uo
 unfold Tj
 simp only [Option.getD_some,a1,Int.toNat_natCast]
 cases e:row.getD (ap g x) none with
 |some u=>exact ⟨Ext.refl h,by simp only;rw [e];simp⟩
 |none=>
  simp only [hx,Option.getD_some]
  have hl:ap g x<row.length:=by rw [h.rl];exact a2
  have hS:zW n λg=>some g∈gs:=⟨⟨t1.n1,t1.n2⟩,λg Zd=>by obtain ⟨g',e,h1,_⟩:=hg _ Zd;cases e;exact h1⟩
  have Ae: ∀y,(row.set (ap g x) (some (Aa t g))).getD y none=if ap g x=y/\ap g x<row.length then some (Aa t g) else row.getD y none:= λy=>Nv _ _ _ _ _
  have El: ∀y u,row.getD y none=some u->ap g x≠y:= λy u hu e'=>by rw [<-e',e] at hu;cases hu
  refine ⟨⟨⟨by simp [h.rl],?_,λy u hu=>?_⟩,λy u hu=>?_,?_,λy hy=>List.mem_append_left _ hy,λy hy=>?_,λy hy=>?_⟩,?_⟩
  ·rw [Ae,if_neg (λhh=>El l _ h.r0 hh.1)];exact h.r0
  ·rw [Ae] at hu
   split at hu
   ·rename_i hc
    cases hu
    exact ⟨t1.comp Qa,Fx.comp t1 Qa t2 TP (by omega),by rw [Fq t1 Qa aR,t3];exact hc.1, .mul t4 ho⟩
   ·exact h.rt y u hu
  ·show (row.set (ap g x) (some (Aa t g))).getD y none=some u
   rw [Ae,if_neg (λhh=>El y u hu hh.1)];exact hu
  ·have:=DR (t:=Aa t g) e hl
   simp only [List.length_append,List.length_cons,List.length_nil]
   omega
  ·rcases List.mem_append.1 hy with hy|hy
   ·exact .inl hy
   ·simp only [List.mem_singleton] at hy
    exact .inr ⟨ap g x,hy,by show (row.set (ap g x) (some (Aa t g))).getD (ap g x) none≠none;rw [Ae,if_pos ⟨rfl,hl⟩];simp⟩
  ·have hy:(row.set (ap g x) (some (Aa t g))).getD y none≠none:=hy
   rw [Ae] at hy
   split at hy
   ·rename_i hc
    exact .inr (by show (y:Int)∈q++ [(ap g x:Int)];rw [<-hc.1];simp)
   ·exact .inl hy
  ·show (row.set (ap g x) (some (Aa t g))).getD (ap g x) none≠none
   rw [Ae,if_pos ⟨rfl,hl⟩];simp
theorem KN {n l:Nat} {gs:List PO} (aR:l<n) (hg:PG n l gs): ∀(QT:List PO) {row:Row} {q:List Int},(∀o∈QT,o∈gs)->Ru n l gs row-> ∀ {x:Nat} {t:List Int},row.getD x none=some t->
  Ext n l gs row q (Ta (x:Int) QT (row,q))/\ ∀g,some g∈QT->(Ta (x:Int) QT (row,q)).1.getD (ap g x) none≠none
 | [],row,q,_,h,x,t,hx=>⟨Ext.refl h,λg hg=>by cases hg⟩
 |o::QT,row,q,hs,h,x,t,hx=>by
  obtain ⟨g,rfl,_,_⟩:=hg o (hs o (by simp))
  obtain ⟨e1,e2⟩:=PS (q:=q) aR hg h hx (hs (some g) (by simp))
  obtain ⟨f1,f2⟩:=KN aR hg QT (q:=(Tj (x:Int) (row,q) (some g)).2) (λo ho=>hs o (by simp [ho])) e1.ok (e1.mono x t hx)
  have hb:Ta (x:Int) (some g::QT) (row,q)=Ta (x:Int) QT ((Tj (x:Int) (row,q) (some g)).1,(Tj (x:Int) (row,q) (some g)).2):=rfl
  rw [hb]
  refine ⟨e1.trans f1,λg' Zd=>?_⟩
  rcases List.mem_cons.1 Zd with e|Zd
  ·cases e;exact a9 f1.mono e2
  ·exact f2 g' Zd
def BZ (gs:List PO) (q:List Int) (row:Row):Prop:=
 (∀y∈q,∃yn:Nat,y=yn/\row.getD yn none≠none)/\ ∀y:Nat,row.getD y none≠none->(y:Int)∈q\/ ∀g,some g∈gs->row.getD (ap g y) none≠none
theorem za {n l:Nat} {gs:List PO} (aR:l<n) (hg:PG n l gs) {x:Int} {q:List Int} {row:Row} (h:Ru n l gs row) (hq:BZ gs (x::q) row):
  Ext n l gs row q (Ta x gs (row,q))/\BZ gs (Ta x gs (row,q)).2 (Ta x gs (row,q)).1/\ ∃(xn:Nat) (t:List Int),x=xn/\row.getD xn none=some t:=by
 obtain ⟨xn,rfl,hx⟩:=hq.1 x (by simp)
 cases e:row.getD xn none with
 |none=>exact absurd e hx
 |some t=>
  obtain ⟨e1,e2⟩:=KN aR hg gs (q:=q) (λo ho=>ho) h e
  refine ⟨e1,⟨λy hy=>?_,λy hy=>?_⟩,xn,t,rfl,e⟩
  ·rcases e1.new y hy with h1|h1
   ·obtain ⟨yn,h2,h3⟩:=hq.1 y (by simp [h1])
    exact ⟨yn,h2,a9 e1.mono h3⟩
   ·exact h1
  ·rcases e1.src y hy with h1|h1
   ·rcases hq.2 y h1 with h2|h2
    ·rcases List.mem_cons.1 h2 with h2|h2
     ·have:y=xn:=by omega
      subst this
      exact .inr λg Zd=>e2 g Zd
     ·exact .inl (e1.oE _ h2)
    ·exact .inr λg Zd=>a9 e1.mono (h2 g Zd)
   ·exact .inl h1
theorem KS {n l:Nat} {gs:List PO} (aR:l<n) (hg:PG n l gs): ∀(f:Nat) (q:List Int) (row:Row),q.length+Lk row<=f->Ru n l gs row->BZ gs q row->
  Ru n l gs (Ss gs f q row)/\(∀y t,row.getD y none=some t->(Ss gs f q row).getD y none=some t)/\ ∀y t g,(Ss gs f q row).getD y none=some t->some g∈gs->(Ss gs f q row).getD (ap g y) none≠none
 |0,q,row,hf,h,hq=>by
  have:q= []:=List.eq_nil_of_length_eq_zero (by omega)
  subst this
  exact ⟨h,λ_ _ h=>h,λy t g e Zd=>by
   rcases hq.2 y (by rw [show row.getD y none=some t from e];simp) with h1|h1
   ·cases h1
   ·exact h1 g Zd⟩
 |f+1,[],row,hf,h,hq=>⟨h,λ_ _ h=>h,λy t g e Zd=>by
   rcases hq.2 y (by rw [show row.getD y none=some t from e];simp) with h1|h1
   ·cases h1
   ·exact h1 g Zd⟩
 |f+1,x::q,row,hf,h,hq=>by
  obtain ⟨e1,e2,_⟩:=za aR hg h hq
  obtain ⟨r1,r2,r3⟩:=KS aR hg f _ _ (by have:=e1.YC;simp only [List.length_cons] at hf;omega) e1.ok e2
  exact ⟨r1,λy t e=>r2 y t (e1.mono y t e),r3⟩
theorem Mz {row:Row} {y:Int} :y∈Hx row↔ ∃yn:Nat,y=yn/\row.getD yn none≠none:=by
 unfold Hx
 rw [List.mem_filter,Im]
 constructor
 ·rintro ⟨h1,h2⟩
  exact ⟨y.toNat,by omega,Option.ne_none_iff_isSome.2 h2⟩
 ·rintro ⟨yn,rfl,h⟩
  obtain ⟨t,ht⟩:=Option.ne_none_iff_exists'.1 h
  exact ⟨by have:=lE ht;omega,by simpa using Option.ne_none_iff_isSome.1 h⟩
theorem sI (row:Row):(Hx row).length<=row.length:=by
 unfold Hx
 refine Nat.le_trans (List.length_filter_le _ _) (by simp [upto])
theorem wu (row:Row):Lk row<=row.length:=List.countP_le_length
theorem wz {n l:Nat} {gs:List PO} (aR:l<n) (h2:n<=20) (hg:PG n l gs) {row:Row} (h:Ru n l gs row):
  Ru n l gs (Rp gs row)/\(∀y t,row.getD y none=some t->(Rp gs row).getD y none=some t)/\ ∀y t g,(Rp gs row).getD y none=some t->some g∈gs->(Rp gs row).getD (ap g y) none≠none:=
 KS aR hg 100 _ _ (by have:=sI row;have:=wu row;have:=h.rl;omega) h ⟨λy hy=>Mz.1 hy,λy hy=> .inl (Mz.2 ⟨y,rfl,hy⟩)⟩
theorem uN {n l:Nat} {gs:List PO} (aR:l<n) (hg:PG n l gs): ∀(f:Nat) (q:List Int) (row:Row),q.length+Lk row<=f->Ru n l gs row->BZ gs q row->Ss gs f q row=Ss gs (q.length+Lk row) q row
 |0,q,row,hf,_,_=>by
  have:q.length+Lk row=0:=by omega
  rw [this]
 |f+1,[],row,hf,_,_=>by
  cases h:([]:List Int).length+Lk row with
  |zero=>rfl
  |succ m=>rfl
 |f+1,x::q,row,hf,h,hq=>by
  obtain ⟨e1,e2,_⟩:=za aR hg h hq
  have OI:=e1.YC
  have:(x::q).length+Lk row=(q.length+Lk row)+1:=by simp only [List.length_cons];omega
  rw [this]
  simp only [Ss]
  rw [uN aR hg f _ _ (by simp only [List.length_cons] at hf;omega) e1.ok e2,OI]
def uT (row:Row):Nat:=row.countP (·.isSome)
theorem q7: ∀(a b:Row),a.length=b.length->(∀y t,a.getD y none=some t->b.getD y none=some t)->uT a<=uT b/\(uT a=uT b->a=b)
 | [],[],_,_=>⟨Nat.le_refl _,λ_=>rfl⟩
 | [],_::_,h,_=>by simp at h
 |_::_,[],h,_=>by simp at h
 |x::a,y::b,h,hm=>by
  obtain ⟨h1,h2⟩:=q7 a b (by simpa using h) λi t e=>by simpa using hm (i+1) t (by simpa using e)
  unfold uT at h1 h2⊢
  cases x with
  |none=>
   cases y with
   |none=>simp only [List.countP_cons];exact ⟨by simpa using h1,λe=>by rw [h2 (by simpa using e)]⟩
   |some u=>
    simp only [List.countP_cons,Option.isSome_none,Option.isSome_some]
    simp only [if_true,Bool.false_eq_true,if_false]
    exact ⟨by omega,λe=>by omega⟩
  |some t=>
   have:=hm 0 t (by simp)
   simp only [List.getD_cons_zero] at this
   subst this
   simp only [List.countP_cons]
   exact ⟨by simpa using h1,λe=>by rw [h2 (by simpa using e)]⟩
def fR (T:Cz):Nat->Nat->Nat
 |0,_=>0
 |k+1,l=>uT (T.getD l [])+fR T k (l+1)
def YI:Nat->Nat->Cz×Cz->Prop
 |0,_,_=>True
 |k+1,l,s=>YI k (l+1) s/\(s.1.getD l []).length<=fR s.2 (k+1) l
structure Ws (l0:Nat) (s s':Cz×Cz):Prop where
 Ab4:s'.1.length=s.1.length
 mW:s'.2.length=s.2.length
 low: ∀i,i<l0->s'.1.getD i []=s.1.getD i []/\s'.2.getD i []=s.2.getD i []
 AO: ∀i o,o∈s.1.getD i []->o∈s'.1.getD i []
 LS: ∀i y t,(s.2.getD i []).getD y none=some t->(s'.2.getD i []).getD y none=some t
 VY: ∀i,(s'.2.getD i []).length=(s.2.getD i []).length
theorem Ws.refl (l0:Nat) (s:Cz×Cz):Ws l0 s s:=⟨rfl,rfl,λ_ _=>⟨rfl,rfl⟩,λ_ _ h=>h,λ_ _ _ h=>h,λ_=>rfl⟩
theorem Ws.trans {l0 l1:Nat} {a b c:Cz×Cz} (h:Ws l0 a b) (k:Ws l1 b c) (hl:l0<=l1):Ws l0 a c:=
 ⟨k.Ab4.trans h.Ab4,k.mW.trans h.mW,λi hi=>⟨(k.low i (by omega)).1.trans (h.low i hi).1,(k.low i (by omega)).2.trans (h.low i hi).2⟩,λi o ho=>k.AO i o (h.AO i o ho),λi y t e=>k.LS i y t (h.LS i y t e),λi=>(k.VY i).trans (h.VY i)⟩
theorem Ws.Ev {l0 l1:Nat} {a b:Cz×Cz} (h:Ws l1 a b) (hl:l0<=l1):Ws l0 a b:=(Ws.refl l0 a).trans h hl
theorem c8 {T T':Cz} : ∀(k l:Nat) (p:List Int),(∀i,l<=i->i<l+k->T'.getD i []=T.getD i [])->Ix T' k l p=Ix T k l p
 |0,_,_,_=>rfl
 |k+1,l,p,h=>by
  simp only [Ix]
  rw [h l (Nat.le_refl _) (by omega)]
  split
  ·rfl
  ·exact c8 k (l+1) _ λi h1 h2=>h i (by omega) (by omega)
theorem fj {n:Nat} {s s':Cz×Cz} : ∀(k l:Nat),(∀i,l<=i->s'.1.getD i []=s.1.getD i []/\s'.2.getD i []=s.2.getD i [])->eZ n k l s->eZ n k l s'
 |0,l,h,hc=>by simp only [eZ] at hc⊢;rw [(h l (Nat.le_refl _)).1];exact hc
 |k+1,l,h,hc=>by
  simp only [eZ] at hc⊢
  obtain ⟨c1,c2,c3⟩:=hc
  refine ⟨fj k (l+1) (λi hi=>h i (by omega)) c1,?_,?_⟩
  ·rw [(h l (Nat.le_refl _)).1,(h l (Nat.le_refl _)).2]
   have e:(λq=>Ix s'.2 k (l+1) q=true)= λq=>Ix s.2 k (l+1) q=true:=funext λq=>by rw [c8 k (l+1) q λi h1 h2=>(h i (by omega)).2]
   rw [e];exact c2
  ·rw [(h (l+1) (by omega)).1,(h l (Nat.le_refl _)).1];exact c3
theorem qM {T T':Cz} : ∀(k l:Nat),(∀i,l<=i->T'.getD i []=T.getD i [])->fR T' k l=fR T k l
 |0,_,_=>rfl
 |k+1,l,h=>by simp only [fR];rw [h l (Nat.le_refl _),qM k (l+1) λi hi=>h i (by omega)]
theorem mA {s s':Cz×Cz} : ∀(k l:Nat),(∀i,l<=i->s'.1.getD i []=s.1.getD i []/\s'.2.getD i []=s.2.getD i [])->YI k l s->YI k l s'
 |0,_,_,_=>trivial
 |k+1,l,h,hg=>⟨mA k (l+1) (λi hi=>h i (by omega)) hg.1,by
  rw [(h l (Nat.le_refl _)).1,qM (k+1) l λi hi=>(h i hi).2];exact hg.2⟩
theorem wJ {T T':Cz} (hl: ∀i,(T'.getD i []).length=(T.getD i []).length) (hm: ∀i y t,(T.getD i []).getD y none=some t->(T'.getD i []).getD y none=some t):
  ∀(k l:Nat),fR T k l<=fR T' k l/\(fR T k l=fR T' k l-> ∀i,l<=i->i<l+k->T'.getD i []=T.getD i [])
 |0,l=>⟨Nat.le_refl _,λ_ i h1 h2=>by omega⟩
 |k+1,l=>by
  obtain ⟨h1,h2⟩:=wJ hl hm k (l+1)
  obtain ⟨h3,h4⟩:=q7 (T.getD l []) (T'.getD l []) (hl l).symm (hm l)
  simp only [fR]
  refine ⟨by omega,λe i g1 g2=>?_⟩
  by_cases hi:i=l
  ·subst hi;exact (h4 (by omega)).symm
  ·exact h2 (by omega) i (by omega) (by omega)
def V (n k l:Nat) (s:Cz×Cz):Prop:=s.1.length=n/\s.2.length=n/\eZ n k l s/\YI k l s
structure YH (n k l:Nat) (s:Cz×Cz) (p:List Int) (s':Cz×Cz):Prop where
 v:V n k l s'
 grow:Ws l s s'
 Ab0:Gn n (s'.1.getD l []) p
 gens: ∀o∈s'.1.getD l [],o∈s.1.getD l []\/o=some p
theorem MY.row {n l:Nat} {gs:List PO} {row:Row} {H:List Int->Prop} (h:MY n l gs row H):Ru n l gs row:=⟨h.rl,h.r0,h.rt⟩
theorem cQ {row:Row} {y:Nat} {t g t':List Int} (h1:row.getD y none=some t) (h2:row.getD (ap g y) none=some t'):Mw row (y:Int) (some g)=Aa (Aa t g) (Al t'):=by
 unfold Mw
 rw [Int.toNat_natCast,h1,Option.getD_some,Option.getD_some,show (Cx g (y:Int)).toNat=ap g y from rfl,h2,Option.getD_some]
theorem jr {n l:Nat} {gs:List PO} {row:Row} (hg:PG n l gs) (_h:Ru n l gs row) (hc: ∀y t g,row.getD y none=some t->some g∈gs->row.getD (ap g y) none≠none) {q:List Int} :
  q∈aX row gs↔ ∃(y:Nat) (t g t':List Int),row.getD y none=some t/\some g∈gs/\row.getD (ap g y) none=some t'/\q=Aa (Aa t g) (Al t'):=by
 unfold aX
 rw [List.mem_flatMap]
 constructor
 ·rintro ⟨y,hy,hq⟩
  obtain ⟨o,ho,rfl⟩:=List.mem_map.1 hq
  obtain ⟨yn,rfl,SC⟩:=Mz.1 hy
  obtain ⟨t,ht⟩:=Option.ne_none_iff_exists'.1 SC
  obtain ⟨g,rfl,Qa,_⟩:=hg o ho
  obtain ⟨t',lJ⟩:=Option.ne_none_iff_exists'.1 (hc yn t g ht ho)
  exact ⟨yn,t,g,t',ht,ho,lJ,cQ ht lJ⟩
 ·rintro ⟨y,t,g,t',h1,h2,h3,rfl⟩
  obtain ⟨g',e,Qa,_⟩:=hg _ h2
  cases e
  exact ⟨(y:Int),Mz.2 ⟨y,rfl,by rw [h1];simp⟩,List.mem_map.2 ⟨some g,h2,cQ h1 h3⟩⟩
theorem rz {n:Nat} (h1:1<=n) (h2:n<=20): ∀(k l:Nat) (p:List Int) (s:Cz×Cz),l+k=n->V n k l s->Pm n p->Fx l p->YH n k l s p (Dr k l p s)
 |0,l,p,s,hk,hv,hp,hf=>by
  have hl:l=n:=by omega
  subst hl
  exact ⟨hv,Ws.refl _ _,by rw [hf.all hp];exact .id,λo ho=> .inl ho⟩
 |k+1,l,p,s,hk,hv,hp,hf=>by
  have aR:l<n:=by omega
  obtain ⟨v1,v2,hc,GM⟩:=hv
  have fv:=hc
  obtain ⟨c1,c2,c3⟩:=hc
  unfold Dr
  by_cases hh:Ix s.2 (k+1) l p=true
  ·rw [if_pos hh]
   exact ⟨⟨v1,v2,fv,GM⟩,Ws.refl _ _,(gQ h1 h2 (k+1) l s hk fv p hp hf).1 hh,λo ho=> .inl ho⟩
  rw [if_neg hh]
  generalize AU:s.1.getD l []++ [some p]=gs
  have Yg:some p∈gs:=by rw [<-AU];simp
  have Nj: ∀o∈s.1.getD l [],o∈gs:= λo ho=>by rw [<-AU];exact List.mem_append_left _ ho
  have hg:PG n l gs:= λo ho=>by
   rw [<-AU] at ho
   rcases List.mem_append.1 ho with ho|ho
   ·exact c2.pg o ho
   ·rw [List.mem_singleton] at ho;exact ⟨p,ho,hp,hf⟩
  have Aae:Ru n l gs (s.2.getD l []):=⟨c2.rl,c2.r0,λy t e=>⟨(c2.rt y t e).1,(c2.rt y t e).2.1,(c2.rt y t e).2.2.1,(c2.rt y t e).2.2.2.mono λg hg=>Nj _ hg⟩⟩
  obtain ⟨r1,r2,r3⟩:=wz aR h2 hg Aae
  generalize hR:Rp gs (s.2.getD l [])=R at r1 r2 r3
  have hS:zW n λg=>some g∈gs:=⟨⟨h1,h2⟩,λg Zd=>by obtain ⟨g',e,h,_⟩:=hg _ Zd;cases e;exact h⟩
  have PM: ∀i,((s.1.set l gs).getD i []=if i=l then gs else s.1.getD i [])/\(s.2.set l R).getD i []=if i=l then R else s.2.getD i []:= λi=>by
   rw [Nv,Nv]
   by_cases e:l=i
   ·subst e;rw [if_pos ⟨rfl,by omega⟩,if_pos rfl,if_pos ⟨rfl,by omega⟩,if_pos rfl];exact ⟨rfl,rfl⟩
   ·rw [if_neg (λhh=>e hh.1),if_neg (Ne.symm e),if_neg (λhh=>e hh.1),if_neg (Ne.symm e)];exact ⟨rfl,rfl⟩
  have SA: ∀i,l+1<=i->(s.1.set l gs).getD i []=s.1.getD i []/\(s.2.set l R).getD i []=s.2.getD i []:= λi hi=>by
   rw [(PM i).1,(PM i).2,if_neg (by omega),if_neg (by omega)];exact ⟨rfl,rfl⟩
  have lI:V n k (l+1) (s.1.set l gs,s.2.set l R):=⟨by simpa using v1,by simpa using v2,fj k (l+1) SA c1,mA k (l+1) SA GM.1⟩
  have TR:Ws l s (s.1.set l gs,s.2.set l R):=by
   refine ⟨by simp,by simp,λi hi=>?_,λi o ho=>?_,λi y t e=>?_,λi=>?_⟩
   ·rw [(PM i).1,(PM i).2,if_neg (by omega),if_neg (by omega)];exact ⟨rfl,rfl⟩
   ·rw [(PM i).1]
    split
    ·rename_i hi;subst hi;exact Nj o ho
    ·exact ho
   ·rw [(PM i).2]
    split
    ·rename_i hi;subst hi;exact r2 y t e
    ·exact e
   ·rw [(PM i).2]
    split
    ·rename_i hi;subst hi;rw [r1.rl,c2.rl]
    ·rfl
  have hq: ∀q∈aX R gs,Pm n q/\Fx (l+1) q/\Gn n gs q:= λq hq=>by
   obtain ⟨y,t,g,t',e1,e2,e3,rfl⟩:=(jr hg r1 r3).1 hq
   obtain ⟨t1,t2,t3,t4⟩:=r1.rt _ _ e1
   obtain ⟨u1,u2,u3,u4⟩:=r1.rt _ _ e3
   obtain ⟨g',e,Qa,TP⟩:=hg _ e2
   cases e
   exact ⟨(t1.comp Qa).comp u1.inv,Fx.div (t1.comp Qa) u1 (Fx.comp t1 Qa t2 TP (by omega)) u2 aR (by rw [u3,Fq t1 Qa aR,t3]),Xl.comp hS (.mul t4 e2) (Xl.sl hS u4)⟩
  have fold: ∀(qs:List (List Int)) (s1:Cz×Cz),(∀q∈qs,Pm n q/\Fx (l+1) q)->V n k (l+1) s1->
    V n k (l+1) (qs.foldl (λs q=>Dr k (l+1) q s) s1)/\Ws (l+1) s1 (qs.foldl (λs q=>Dr k (l+1) q s) s1)/\
     (∀q∈qs,Gn n ((qs.foldl (λs q=>Dr k (l+1) q s) s1).1.getD (l+1) []) q)/\ ∀o∈(qs.foldl (λs q=>Dr k (l+1) q s) s1).1.getD (l+1) [],o∈s1.1.getD (l+1) []\/ ∃q∈qs,o=some q:=by
   intro qs
   induction qs with
   |nil=>exact λs1 _ hv=>⟨hv,Ws.refl _ _,(λq hq=>by cases hq),λo ho=>Or.inl ho⟩
   |cons q qs ih=>
    intro s1 OL hv
    have ha:=rz h1 h2 k (l+1) q s1 (by omega) hv (OL q (by simp)).1 (OL q (by simp)).2
    obtain ⟨g1,g2,g3,g4⟩:=ih (Dr k (l+1) q s1) (λq' ek=>OL q' (by simp [ek])) ha.v
    simp only [List.foldl_cons]
    refine ⟨g1,ha.grow.trans g2 (Nat.le_refl _),λq' ek=>?_,λo ho=>?_⟩
    ·rcases List.mem_cons.1 ek with rfl|ek
     ·exact ha.Ab0.mono λg hg=>g2.AO _ _ hg
     ·exact g3 q' ek
    ·rcases g4 o ho with h|⟨q',ek,h⟩
     ·rcases ha.gens o h with h|h
      ·exact .inl h
      ·exact .inr ⟨q,by simp,h⟩
     ·exact .inr ⟨q',by simp [ek],h⟩
  obtain ⟨f1,f2,f3,f4⟩:=fold (aX R gs) (s.1.set l gs,s.2.set l R) (λq h=>⟨(hq q h).1,(hq q h).2.1⟩) lI
  generalize (aX R gs).foldl (λs q=>Dr k (l+1) q s) (s.1.set l gs,s.2.set l R)=s' at f1 f2 f3 f4
  obtain ⟨w1,w2,w3,w4⟩:=f1
  have YN:s'.1.getD l []=gs:=by rw [(f2.low l (by omega)).1,(PM l).1,if_pos rfl]
  have el2:s'.2.getD l []=R:=by rw [(f2.low l (by omega)).2,(PM l).2,if_pos rfl]
  have IF:=TR.trans f2 (by omega)
  have Afl:MY n l gs R (λq=>Ix s'.2 k (l+1) q=true):=⟨hg,r1.rl,r1.r0,r1.rt,r3,λy t g t' e1 e2 e3=>by
   have hm:=(jr hg r1 r3).2 ⟨y,t,g,t',e1,e2,e3,rfl⟩
   exact (gQ h1 h2 k (l+1) s' (by omega) w3 _ (hq _ hm).1 (hq _ hm).2.1).2 (f3 _ hm)⟩
  have RF:eZ n (k+1) l s':=⟨w3,by rw [YN,el2];exact Afl,λg Zd=>by
   rw [YN]
   rcases f4 _ Zd with h|⟨q,ek,h⟩
   ·rw [(SA (l+1) (Nat.le_refl _)).1] at h
    exact (c3 g h).mono λg hg=>Nj _ hg
   ·cases h;exact (hq _ ek).2.2⟩
  have Ke:Gn n (s'.1.getD l []) p:=by rw [YN];exact Xl.one hS Yg
  refine ⟨⟨w1,w2,RF,w4,?_⟩,IF,Ke,λo ho=>?_⟩
  ·have hold:=GM.2
   obtain ⟨p1,p2⟩:=wJ IF.VY IF.LS (k+1) l
   have El:fR s.2 (k+1) l≠fR s'.2 (k+1) l:= λe=>by
    have:=c8 (k+1) l p (p2 e)
    rw [(gQ h1 h2 (k+1) l s' hk RF p hp hf).2 Ke] at this
    exact hh this.symm
   rw [YN,<-AU,List.length_append,List.length_singleton]
   omega
  ·rw [YN,<-AU] at ho
   rcases List.mem_append.1 ho with ho|ho
   ·exact .inl ho
   ·rw [List.mem_singleton] at ho;exact .inr ho
end Go.Proofs.Ytjbdmibbbpdnnaa

namespace Go.Proofs.Ytjbdmibbbpdnnaa
open Go.RowKit
theorem KG {n l:Nat} {gs:List PO} {R:Row} (aR:l<n) (hg:PG n l gs) (r1:Ru n l gs R) (r3: ∀y t g,R.getD y none=some t->some g∈gs->R.getD (ap g y) none≠none): ∀q∈aX R gs,Pm n q/\Fx (l+1) q:=by
 intro q hq
 obtain ⟨y,t,g,t',e1,e2,e3,rfl⟩:=(jr hg r1 r3).1 hq
 obtain ⟨t1,t2,t3,t4⟩:=r1.rt _ _ e1
 obtain ⟨u1,u2,u3,u4⟩:=r1.rt _ _ e3
 obtain ⟨g',e,Qa,TP⟩:=hg _ e2
 cases e
 exact ⟨(t1.comp Qa).comp u1.inv,Fx.div (t1.comp Qa) u1 (Fx.comp t1 Qa t2 TP (by omega)) u2 aR (by rw [u3,Fq t1 Qa aR,t3])⟩
theorem V.lower {n k l:Nat} {s:Cz×Cz} (h:V n (k+1) l s) (gs:List PO) (R:Row):V n k (l+1) (s.1.set l gs,s.2.set l R):=by
 obtain ⟨v1,v2,hc,GM⟩:=h
 have SA: ∀i,l+1<=i->(s.1.set l gs).getD i []=s.1.getD i []/\(s.2.set l R).getD i []=s.2.getD i []:= λi hi=>by
  rw [Nv,Nv,if_neg (by omega),if_neg (by omega)];exact ⟨rfl,rfl⟩
 exact ⟨by simpa using v1,by simpa using v2,fj k (l+1) SA hc.1,mA k (l+1) SA GM.1⟩
theorem AK {n k l:Nat} (h1:1<=n) (h2:n<=20) (hk:l+k=n): ∀(qs:List (List Int)) (s1:Cz×Cz),(∀q∈qs,Pm n q/\Fx l q)->V n k l s1->
  V n k l (qs.foldl (λs q=>Dr k l q s) s1)/\Ws l s1 (qs.foldl (λs q=>Dr k l q s) s1)
 | [],s1,_,hv=>⟨hv,Ws.refl _ _⟩
 |q::qs,s1,OL,hv=>by
  have ha:=rz h1 h2 k l q s1 hk hv (OL q (by simp)).1 (OL q (by simp)).2
  obtain ⟨g1,g2⟩:=AK h1 h2 hk qs (Dr k l q s1) (λq' ek=>OL q' (by simp [ek])) ha.v
  exact ⟨g1,ha.grow.trans g2 (Nat.le_refl _)⟩
theorem KL {n:Nat} {s:Cz×Cz} : ∀(k l:Nat),eZ n k l s->fR s.2 k l<=n*k
 |0,_,_=>by simp [fR]
 |k+1,l,hc=>by
  have h1:=KL k (l+1) hc.1
  have h2:uT (s.2.getD l [])<=n:=by
   have:=hc.2.1.rl
   have h3:uT (s.2.getD l [])<=(s.2.getD l []).length:=List.countP_le_length
   omega
  simp only [fR]
  rw [Nat.mul_succ]
  omega
theorem NM {n k l:Nat} {s:Cz×Cz} (h2:n<=20) (hk:l+(k+1)=n) (h:V n (k+1) l s):(s.1.getD l []).length<=400:=by
 have h3:=h.2.2.2.2
 have h4:=KL (k+1) l h.2.2.1
 have h5:n*(k+1)<=20*20:=Nat.mul_le_mul h2 (by omega)
 omega
theorem V.lvl {n k l:Nat} {s:Cz×Cz} (h:V n (k+1) l s):MY n l (s.1.getD l []) (s.2.getD l []) (λq=>Ix s.2 k (l+1) q=true):=h.2.2.1.2.1
theorem V.pg {n k l:Nat} {s:Cz×Cz} (h:V n (k+1) l s) {p:List Int} (hp:Pm n p) (hf:Fx l p):PG n l (s.1.getD l []++ [some p]):= λo ho=>by
 rcases List.mem_append.1 ho with ho|ho
 ·exact h.lvl.pg o ho
 ·rw [List.mem_singleton] at ho;exact ⟨p,ho,hp,hf⟩
theorem V.Agu {n k l:Nat} {s:Cz×Cz} (h:V n (k+1) l s) (p:List Int):Ru n l (s.1.getD l []++ [some p]) (s.2.getD l []):=
 ⟨h.lvl.rl,h.lvl.r0,λy t e=>⟨(h.lvl.rt y t e).1,(h.lvl.rt y t e).2.1,(h.lvl.rt y t e).2.2.1,(h.lvl.rt y t e).2.2.2.mono λ_ hg=>List.mem_append_left _ hg⟩⟩
theorem pw {α:Type} (xs:List (List α)) (i:Nat) (h:i<xs.length):xs.set i (xs.getD i [])=xs:=by
 refine List.ext_getElem (by simp) λj h1 h2=>?_
 rw [List.getElem_set]
 split
 ·rename_i e;subst e;rw [List.getD_eq_getElem?_getD,List.getElem?_eq_getElem h];rfl
 ·rfl
theorem ed {α:Type} (xs:List (List α)) (i:Nat) (h:i<xs.length) (r:List α):(xs.set i r).getD i []=r:=by
 rw [Nv,if_pos ⟨rfl,h⟩]
end Go.Proofs.Ytjbdmibbbpdnnaa

namespace Go.Proofs.Ytjbdmibbbpdnnaa
open Go.RowKit
noncomputable abbrev Kr:MSpec:=fM [none] [(false, .Ew YD)] false [none] [.row tI 2] (λx=>List.length x.1<=20) (λx=>((Hx x.1,()),()))
noncomputable abbrev Qw:Spec:=Di (.pair tL (.pair tL .unit)) tO false true (λx=>(0<x.1.length/\x.1.length<=20)/\Mv x.2.1.length x.1) (λx=>some (Aa x.1 x.2.1))
noncomputable abbrev au:Spec:=Di (.pair tL (.pair tL .unit)) tL false false (λx=>x.1.length<=20/\Mv x.2.1.length x.1) (λx=>Aa x.1 x.2.1)
noncomputable abbrev Oc:Spec:=Di (.pair tI .unit) tL false true (λx=>0<=x.1/\x.1<=20) (λx=>upto x.1.toNat)
noncomputable abbrev Wj:Spec:=Di (.pair tI .unit) tO false true (λx=>1<=x.1/\x.1<=20) (λx=>some (upto x.1.toNat))
abbrev SM:TypeId:=22
structure lQ (N L:Nat) (n:Int) (G T:Cz) (l:Int) (p:List Int):Prop where
 n1:1<=N
 n2:N<=20
 en:n=N
 el:l=L
 le:L<=N
 v:V N (N-L) L (G,T)
 pm:Pm N p
 fx:Fx L p
noncomputable abbrev qV:Spec:=Di (.pair (.ptr tQ) (.pair tI (.pair tL .unit))) .bool false true (λx=> ∃N L,lQ N L x.1.1 x.1.2.1 x.1.2.2.1 x.2.1 x.2.2.1) (λx=>Ix x.1.2.2.1 (x.1.1-x.2.1).toNat x.2.1.toNat x.2.2.1)
noncomputable abbrev SH:MSpec:= {ptr:=some (179,3),Ha:= [none,none],ins:= [(false, .Ew tI),(false, .Ak tO SM true),(false, .Ak tO SM true),(false, .Ew tI),(false, .Ew tO)],Ee:=false,Gd:= [],outs:= [.Ew tI, .Ak tO SM false, .Ak tO SM false],fn:= λ_=>none,keeps:= [(1,1),(2,2)],Cr:= λx=>x.2.2.2.1.toNat}
noncomputable abbrev Ph (m:Nat):MSpec:=xF SH (λx=>(∃N L q,x.2.2.2.2.1=some q/\lQ N L x.1 x.2.1 x.2.2.1 x.2.2.2.1 q)/\(x.1-x.2.2.2.1).toNat<m)
 (λx=>((x.1,(Dr (x.1-x.2.2.2.1).toNat x.2.2.2.1.toNat (x.2.2.2.2.1.getD []) (x.2.1,x.2.2.1)).1,(Dr (x.1-x.2.2.2.1).toNat x.2.2.2.1.toNat (x.2.2.2.2.1.getD []) (x.2.1,x.2.2.1)).2,()),()))
theorem xl (n:Int) (P:List Int->Prop):(((0:Int)<=n/\n<(↑Bj:Int)+(1:Int))/\n=n/\0=0/\(List.replicate n.toNat (Int.ofNat (nat_lit 0))).length=(List.replicate n.toNat (Int.ofNat (nat_lit 0))).length/\Bs (λ(v2:Int×List Int×PUnit) (k3:Int×List Int×PUnit->Prop)=>Br (decide (v2.1<(↑(List.replicate n.toNat (Int.ofNat (nat_lit 0))).length:Int))) (((0:Int)<=v2.1/\v2.1<(↑v2.2.1.length:Int))/\0+v2.1.toNat<v2.2.1.length/\0=0/\v2.2.1.length=(v2.2.1.set (0+v2.1.toNat) v2.1).length/\k3 (IntKind.i64.wrap (v2.1+(1:Int)),v2.2.1.set (0+v2.1.toNat) v2.1,())) (P (List.take v2.2.1.length (List.drop 0 v2.2.1)))) ((0:Int),List.replicate n.toNat (Int.ofNat (nat_lit 0)),PUnit.unit))=fnW Da (look []) Oc Try.f127 (n,()) P:=by kernel_rfl
theorem GC (row:List (Option (List Int))) (P:(List Int×Unit)×Unit->Prop):(0=0/\0=([]:List Int).length/\Bs (λ(v2:Int×List Int×PUnit) (k3:Int×List Int×PUnit->Prop)=>Br (decide (v2.1<(↑row.length:Int))) (∃(y4:Option (List Int)),idx row v2.1=some y4/\Br (!y4.isNone) (0=0/\v2.2.1.length=v2.2.1.length/\v2.2.1.length+(List.take 1 (List.drop 0 [v2.1])).length<=Bj/\0=0/\(v2.2.1++List.take 1 (List.drop 0 [v2.1])).length=(v2.2.1++List.take 1 (List.drop 0 [v2.1])).length/\k3 (IntKind.i64.wrap (v2.1+(1:Int)),v2.2.1++List.take 1 (List.drop 0 [v2.1]),())) (0=0/\v2.2.1.length=v2.2.1.length/\k3 (IntKind.i64.wrap (v2.1+(1:Int)),v2.2.1,()))) (P ((List.take v2.2.1.length (List.drop 0 v2.2.1),()),()))) ((0:Int),[],PUnit.unit))=fnMW Tv (look []) Kr Try.f174 (row,()) P:=by kernel_rfl
theorem Abz (c:Int×List (List (Option (List Int)))×List (List (Option (List Int)))×Unit) (l:Int) (p:List Int) (P:Bool->Prop):(Bs (λ(v4:List Int×Int×PUnit) (k5:List Int×Int×PUnit->Prop)=>Br (decide (v4.2.1<c.1)) (∃(y6:List (Option (List Int))),idx c.2.2.1 v4.2.1=some y6/\ ∃(y7:Int),idx v4.1 v4.2.1=some y7/\ ∃(y8:Option (List Int)),idx y6 y7=some y8/\Br y8.isNone (P false) (∃(y9:List Int),Em.fn (y8.getD [],())=some y9/\ ∃(iM:List Int),au.fn (v4.1,y9,())=some iM/\k5 (iM,IntKind.i64.wrap (v4.2.1+(1:Int)),()))) (P true)) (p,l,PUnit.unit))=fnW Tv (look [(175,Em),(156,au)]) qV Try.f183 (c,l,p,()) P:=by kernel_rfl
theorem Sound.loose {P:Program} {f:FuncId} {arg res:Ty} {pre:arg.den->Prop} {val:arg.den->res.den} (h:Sound P f (Go.Proofs.Ytjbdmibbbpdnnaa.Di arg res false true pre val)):Sound P f (Go.Proofs.Ytjbdmibbbpdnnaa.Di arg res false false pre val):=
 ⟨h.enter,λw S vs x y h1 h2 h3=>Calls.mono (h.calls w S vs x y h1 h2 h3) λe' w' hr=>by
  obtain ⟨v,g1,g2,g3⟩:=hr
  exact ⟨v,g1,g2,Bd.Ev (S:= λb=>S b\/(true=true/\b<w.heap.size)) g3 λk _ hk=>hk.elim .inl λhh=>absurd (show false=true from hh.1) (by simp)⟩⟩
theorem nO:Sound Try.prog 156 au:=Sound.loose Pn
theorem nP:Sound Try.prog 156 Qw:=Sound.toO Pn λx h=>⟨⟨h.1.2,h.2⟩,λe=>by
 have:=Ns x.1 x.2.1
 rw [e] at this
 have:=h.1.1
 simp only [List.length_nil] at*
 omega⟩
theorem wC (n:Int) (h:0<=n/\n<=20):fnW Da (look []) Oc Try.f127 (n,()) (λ(z:List Int)=>z=upto n.toNat):=by
 refine Eq.mp (xl n _) ⟨⟨by omega,by show n<(4294967296:Int)+1;omega⟩,rfl,rfl,rfl,?_⟩
 refine Aq n.toNat (λv=>v.1) (λj v=>v.2.1.length=n.toNat/\v.2.1.take j=upto j) rfl ⟨by simp,by simp [upto]⟩ ?_
 rintro j ⟨i,ys,⟨⟩⟩ K hj hi ⟨h1,h2⟩ hK
 dsimp only at hi h1 h2⊢
 subst hi
 rw [List.length_replicate]
 simp only [Int.toNat_natCast,Nat.zero_add]
 refine Br.dec (λhl=>⟨⟨by omega,by omega⟩,by omega,trivial,by rw [List.length_set],?_⟩) λhl=>?_
 ·rw [Ao (by omega)]
  refine hK (by omega) _ rfl ⟨by rw [List.length_set];exact h1,?_⟩
  rw [List.take_add_one,List.take_set_of_le (by omega),h2,List.getElem?_set_self (by omega),Za]
  rfl
 ·have:j=ys.length:=by omega
  subst this
  rw [List.take_length] at h2
  rw [List.drop_zero,List.take_length,h2,h1]
theorem bd:Sound Try.prog 127 Oc:=
 Sound.Di Cb At mixed Try.func127 (by kernel_rfl) (by kernel_rfl) λx h=>wC x.1 h
theorem PZ {n:Int} (h:1<=n/\n<=20):(0<=n/\n<=20)/\upto n.toNat≠ []:=⟨by omega,λe=>by
 have:=congrArg List.length e
 simp [upto] at this
 omega⟩
theorem lp:Sound Try.prog 127 Wj:=Sound.toO bd λ_ h=>PZ h
theorem wy {row:Row} {j:Nat} :(upto (j+1)).filter (λy=>(row.getD y.toNat none).isSome)=(upto j).filter (λy=>(row.getD y.toNat none).isSome)++if (row.getD j none).isSome=true then [(j:Int)] else []:=by
 rw [Za,List.filter_append]
 congr 1
 simp only [List.filter_cons,List.filter_nil,Int.toNat_natCast]
theorem EH (row:List (Option (List Int))) (h:List.length row<=20):fnMW Tv (look []) Kr Try.f174 (row,()) (λ(z:(List Int×Unit)×Unit)=>z=((Hx row,()),())):=by
 refine Eq.mp (GC row _) ⟨rfl,rfl,?_⟩
 refine Aq row.length (λv=>v.1) (λj v=>v.2.1=(upto j).filter (λy=>(row.getD y.toNat none).isSome)) rfl rfl ?_
 rintro j ⟨i,ys,⟨⟩⟩ K hj hi h1 hK
 dsimp only at hi h1⊢
 subst hi
 refine Br.dec (λhl=>?_) λhl=>?_
 ·have hl:j<row.length:=by omega
  have hlen:ys.length<=j:=by rw [h1];refine Nat.le_trans (List.length_filter_le _ _) (by simp [upto])
  have hg:row.getD j none=row[j]:=by rw [List.getD_eq_getElem?_getD,List.getElem?_eq_getElem hl];rfl
  refine ⟨_,Av hl,Br.of (λhb=>⟨rfl,rfl,?_,rfl,rfl,?_⟩) λhb=>⟨rfl,rfl,?_⟩⟩
  ·show ys.length+1<=4294967296
   omega
  ·rw [Ao (by omega)]
   refine hK hl _ rfl ?_
   show ys++ [(j:Int)]=_
   rw [wy,hg,h1,if_pos (by cases e:row[j] with
    |none=>rw [e] at hb;simp at hb
    |some t=>rfl)]
  ·rw [Ao (by omega)]
   refine hK hl _ rfl ?_
   show ys=_
   rw [wy,hg,h1,if_neg (by cases e:row[j] with
    |none=>simp
    |some t=>rw [e] at hb;simp at hb),List.append_nil]
 ·have:j=row.length:=by omega
  subst this
  rw [List.drop_zero,List.take_length,h1]
  rfl
theorem eG:Bz Try.prog 174 Kr:=
 Bz.fM jX At mixed Try.func174 (by kernel_rfl) (by kernel_rfl) λx h=>EH x.1 h
theorem gx {n:Nat} {s:Cz×Cz} : ∀(k l:Nat),eZ n k l s-> ∀i,l<=i->i<l+k->MY n i (s.1.getD i []) (s.2.getD i []) (λq=>Ix s.2 (l+k-i-1) (i+1) q=true)
 |0,_,_,i,h1,h2=>by omega
 |k+1,l,hc,i,h1,h2=>by
  obtain ⟨c1,c2,_⟩:=hc
  by_cases e:i=l
  ·subst e
   rw [show i+(k+1)-i-1=k by omega]
   exact c2
  ·have:=gx k (l+1) c1 i (by omega) (by omega)
   rwa [show l+1+k-i-1=l+(k+1)-i-1 by omega] at this
theorem vB {α:Type} {xs:List (List α)} {i:Nat} (h:i<xs.length):xs.getD i []=xs[i]:=by
 rw [List.getD_eq_getElem?_getD,List.getElem?_eq_getElem h];rfl
theorem HV {α:Type} {xs:List (Option α)} {i:Nat} (h:i<xs.length):xs.getD i none=xs[i]:=by
 rw [List.getD_eq_getElem?_getD,List.getElem?_eq_getElem h];rfl
theorem Pm.row {n:Nat} {p:List Int} (h:Pm n p):Mv n p:=by
 have:=h.2.row
 rwa [h.1] at this
theorem Abe (c:Int×List (List (Option (List Int)))×List (List (Option (List Int)))×Unit) (l:Int) (p:List Int) (h: ∃N L,lQ N L c.1 c.2.1 c.2.2.1 l p):
  fnW Tv (look [(175,Em),(156,au)]) qV Try.f183 (c,l,p,()) (λ(z:Bool)=>z=Ix c.2.2.1 (c.1-l).toNat l.toNat p):=by
 obtain ⟨n,G,T,⟨⟩⟩:=c
 obtain ⟨N,L,h⟩:=h
 obtain ⟨n1,n2,en,el,hle,v,pm,fx⟩:=h
 dsimp only at en el v⊢
 subst en el
 refine Eq.mp (Abz ((N:Int),G,T,()) (L:Int) p _) ?_
 obtain ⟨v1,v2,v3,v4⟩:=v
 dsimp only at v1 v2
 refine ⟨λv=> ∃i:Nat,L<=i/\i<=N/\v.2.1=i/\Pm N v.1/\Fx i v.1/\Ix T (N-i) i v.1=Ix T (N-L) L p,λv=>N-v.2.1.toNat,⟨L,Nat.le_refl _,hle,rfl,pm,fx,rfl⟩,?_⟩
 rintro ⟨p',i',⟨⟩⟩ ⟨i,h1,h2,h3,h4,h5,h6⟩
 dsimp only at h3 h4 h5 h6⊢
 subst h3
 rw [show (((N:Int)-(L:Int)).toNat)=N-L by omega,show ((L:Int)).toNat=L by omega,<-h6]
 refine Br.dec (λhl=>?_) λhl=>?_
 ·have hl:i<N:=by omega
  have Qm:=gx (N-L) L v3 i h1 (by omega)
  obtain ⟨a1,a2⟩:=h4.Nh hl
  have hT:i<T.length:=by omega
  have hlen:T[i].length=N:=by have:=Qm.rl;dsimp only at this;rwa [vB hT] at this
  refine ⟨_,Av hT,_,Av (by rw [h4.1];exact hl),?_⟩
  have e1:p'[i]'(by rw [h4.1];exact hl)=(ap p' i:Int):=by rw [<-a1,Ig]
  rw [e1]
  refine ⟨_,Av (by omega),?_⟩
  have e2:N-i=(N-i-1)+1:=by omega
  have e3:(T.getD i []).getD (Cx p' (i:Int)).toNat none=T[i][ap p' i]'(by omega):=by
   rw [vB hT];exact HV (by show ap p' i<_;omega)
  rw [e2]
  simp only [Ix,e3]
  refine Br.of (λhb=>?_) λhb=>?_
  ·cases e:T[i][ap p' i]'(by omega) with
   |none=>rfl
   |some t=>rw [e] at hb;simp at hb
  ·cases e:T[i][ap p' i]'(by omega) with
   |none=>rw [e] at hb;simp at hb
   |some t=>
    have ht:(T.getD i []).getD (ap p' i) none=some t:=by rw [<-e];exact e3
    obtain ⟨t1,t2,t3,t4⟩:=Qm.rt _ _ ht
    simp only [Option.getD_some]
    refine ⟨_,if_pos ⟨by show t.length<=20;rw [t1.1];exact n2,t1.2.row⟩,_,if_pos ⟨by show p'.length<=20;rw [h4.1];exact n2,by show Mv (Al t).length p';rw [lK,t1.1];exact h4.row⟩,⟨i+1,by omega,by omega,Ao (by omega),h4.comp t1.inv,Fx.div h4 t1 h5 t2 hl t3,?_⟩,?_⟩
    ·rw [show N-(i+1)=N-i-1 by omega]
    ·show N-(IntKind.i64.wrap ((i:Int)+1)).toNat<N-((i:Int)).toNat
     rw [Ao (by omega)]
     omega
 ·rw [show N-i=0 by omega]
  rfl
theorem FB:Sound Try.prog 183 qV:=
 Sound.Di jX (Ah Po (Ah nO At)) mixed Try.func183 (by kernel_rfl) (by kernel_rfl) λx h=>Abe x.1 x.2.1 x.2.2.1 h
end Go.Proofs.Ytjbdmibbbpdnnaa

namespace Go.Proofs.Ytjbdmibbbpdnnaa
open Go.RowKit
abbrev tN:Type:=Nat×Nat×Int×List (List (Option (List Int)))×Nat×List (List (Option (List Int)))×Nat×List Int×Int×PUnit
abbrev LG:Type:=Nat×Int×List (List (Option (List Int)))×Nat×List (List (Option (List Int)))×Nat×List Int×Int×PUnit
abbrev LI:Type:=Nat×List (List (Option (List Int)))×Nat×List (List (Option (List Int)))×Nat×List Int×Int×PUnit
abbrev Gu (G:List (List (Option (List Int)))) (l:Int) (p:Option (List Int)) (T:List (List (Option (List Int)))) (y7:Bool) (n:Int):Prop:=0=0/\(G.getD (0+l.toNat) []).length=(G.getD (0+l.toNat) []).length/\(G.getD (0+l.toNat) []).length+(List.take 1 (List.drop 0 [p])).length<=Bj/\((0:Int)<=l/\l<(↑G.length:Int))/\0=0/\(G.getD (0+l.toNat) []++List.take 1 (List.drop 0 [p])).length=(G.getD (0+l.toNat) []++List.take 1 (List.drop 0 [p])).length/\0+l.toNat=0+l.toNat/\ [(0,G.length),(0,G.length),(0,G.length),(0,T.length)]= [(0,G.length),(0,G.length),(0,G.length),(0,T.length)]/\(l,p,l,p,y7,l,l,0+l.toNat,p,List.take 1 (List.drop 0 [p]),0+l.toNat,G.set (0+l.toNat) (G.getD (0+l.toNat) []++List.take 1 (List.drop 0 [p])),min G.length (0+l.toNat),T,T.length,n,())=(l,p,l,p,y7,l,l,0+l.toNat,p,List.take 1 (List.drop 0 [p]),0+l.toNat,G.set (0+l.toNat) (G.getD (0+l.toNat) []++List.take 1 (List.drop 0 [p])),min G.length (0+l.toNat),T,T.length,n,PUnit.unit)
theorem Abt {m:Nat} (n:Int) (G T:List (List (Option (List Int)))) (l:Int) (p:Option (List Int)) (P:(Int×List (List (Option (List Int)))×List (List (Option (List Int)))×Unit)×Unit->Prop):(∃(y7:Bool),qV.fn ((n,List.take G.length (List.drop 0 G),List.take T.length (List.drop 0 T),()),l,p.getD [],())=some y7/\Br y7 ((0=0/\G.length=G.length)/\(0=0/\T.length=T.length)/\(Ph (m+1)).Cr (n,G,T,l,p,())<=G.length/\(Ph (m+1)).Cr (n,G,T,l,p,())<=T.length/\P ((n,G,T,()),())) (((0:Int)<=l/\l<(↑G.length:Int))/\0=0/\(G.getD (0+l.toNat) []).length=(G.getD (0+l.toNat) []).length/\(G.getD (0+l.toNat) []).length+(List.take 1 (List.drop 0 [p])).length<=Bj/\((0:Int)<=l/\l<(↑G.length:Int))/\0=0/\(G.getD (0+l.toNat) []++List.take 1 (List.drop 0 [p])).length=(G.getD (0+l.toNat) []++List.take 1 (List.drop 0 [p])).length/\0+l.toNat=0+l.toNat/\(((0:Int)<=l/\l<(↑T.length:Int))/\ ∃(y8:(List Int×PUnit)×PUnit),Kr.fn (T.getD (0+l.toNat) [],())=some y8/\0=0/\(List.take y8.1.1.length (List.drop 0 y8.1.1)).length=(List.take y8.1.1.length (List.drop 0 y8.1.1)).length/\0=0/\G.length=(G.set (0+l.toNat) (G.getD (0+l.toNat) []++List.take 1 (List.drop 0 [p]))).length/\0=0/\T.length=T.length/\Bs (λ(v9:LI) (YB:LI->Prop)=>Br (decide ((↑v9.2.2.2.2.2.1.length:Int)>(0:Int))) (((0:Int)<=l/\l<(↑v9.2.1.length:Int))/\0=0/\(List.take v9.2.2.2.2.2.1.length (List.drop 0 v9.2.2.2.2.2.1)).length=(List.take v9.2.2.2.2.2.1.length (List.drop 0 v9.2.2.2.2.2.1)).length/\0=0/\v9.2.1.length=v9.2.1.length/\0=0/\v9.2.2.2.1.length=v9.2.2.2.1.length/\Bs (λ(v11:tN) (k12:tN->Prop)=>Br (decide (v11.2.2.1<(↑(v9.2.1.getD (0+l.toNat) []).length:Int))) (((0:Int)<=v11.2.2.1/\v11.2.2.1<(↑(v11.2.2.2.1.getD v11.2.1 []).length:Int))/\((0:Int)<=(0:Int)/\(0:Int)<(↑v11.2.2.2.2.2.2.2.1.length:Int))/\ ∃(eW:Int),v11.2.2.2.2.2.2.2.1[0+Int.toNat (0:Int)]?=some eW/\ ∃(Wr:Int),idx (((v11.2.2.2.1.getD v11.2.1 []).getD v11.2.2.1.toNat (none:Option (List Int))).getD []) eW=some Wr/\((0:Int)<=Wr/\Wr<(↑(v11.2.2.2.2.2.1.getD v11.1 []).length:Int))/\Br ((v11.2.2.2.2.2.1.getD v11.1 []).getD Wr.toNat (none:Option (List Int))).isNone (((0:Int)<=(0:Int)/\(0:Int)<(↑v11.2.2.2.2.2.2.2.1.length:Int))/\ ∃(Vp:Int),v11.2.2.2.2.2.2.2.1[0+Int.toNat (0:Int)]?=some Vp/\((0:Int)<=Vp/\Vp<(↑(v11.2.2.2.2.2.1.getD v11.1 []).length:Int))/\ ∃(Xm:Option (List Int)),Qw.fn (((v11.2.2.2.2.2.1.getD v11.1 []).getD Vp.toNat (none:Option (List Int))).getD [],((v11.2.2.2.1.getD v11.2.1 []).getD v11.2.2.1.toNat (none:Option (List Int))).getD [],())=some Xm/\((0:Int)<=Wr/\Wr<(↑(v11.2.2.2.2.2.1.getD v11.1 []).length:Int))/\0=0/\v11.2.2.2.2.2.2.2.1.length=v11.2.2.2.2.2.2.2.1.length/\v11.2.2.2.2.2.2.2.1.length+(List.take 1 (List.drop 0 [Wr])).length<=Bj/\0=0/\(List.take (v11.2.2.2.2.2.2.2.1++List.take 1 (List.drop 0 [Wr])).length (List.drop 0 (v11.2.2.2.2.2.2.2.1++List.take 1 (List.drop 0 [Wr])))).length=(List.take (v11.2.2.2.2.2.2.2.1++List.take 1 (List.drop 0 [Wr])).length (List.drop 0 (v11.2.2.2.2.2.2.2.1++List.take 1 (List.drop 0 [Wr])))).length/\0=0/\v11.2.2.2.1.length=v11.2.2.2.1.length/\0=0/\v11.2.2.2.2.2.1.length=(v11.2.2.2.2.2.1.set v11.1 ((v11.2.2.2.2.2.1.getD v11.1 []).set Wr.toNat Xm)).length/\k12 (v11.1,v11.2.1,IntKind.i64.wrap (v11.2.2.1+(1:Int)),v11.2.2.2.1,v11.2.2.2.2.1,v11.2.2.2.2.2.1.set v11.1 ((v11.2.2.2.2.2.1.getD v11.1 []).set Wr.toNat Xm),v11.2.2.2.2.2.2.1,List.take (v11.2.2.2.2.2.2.2.1++List.take 1 (List.drop 0 [Wr])).length (List.drop 0 (v11.2.2.2.2.2.2.2.1++List.take 1 (List.drop 0 [Wr]))),v11.2.2.2.2.2.2.2.2.1,())) (0=0/\(List.take v11.2.2.2.2.2.2.2.1.length (List.drop 0 v11.2.2.2.2.2.2.2.1)).length=(List.take v11.2.2.2.2.2.2.2.1.length (List.drop 0 v11.2.2.2.2.2.2.2.1)).length/\0=0/\v11.2.2.2.1.length=v11.2.2.2.1.length/\0=0/\v11.2.2.2.2.2.1.length=v11.2.2.2.2.2.1.length/\k12 (v11.1,v11.2.1,IntKind.i64.wrap (v11.2.2.1+(1:Int)),v11.2.2.2.1,v11.2.2.2.2.1,v11.2.2.2.2.2.1,v11.2.2.2.2.2.2.1,List.take v11.2.2.2.2.2.2.2.1.length (List.drop 0 v11.2.2.2.2.2.2.2.1),v11.2.2.2.2.2.2.2.2.1,()))) (((0:Int)<=(1:Int)/\(1:Int)<=(↑v11.2.2.2.2.2.2.2.1.length:Int)/\(↑v11.2.2.2.2.2.2.2.1.length:Int)<=(↑v11.2.2.2.2.2.2.2.1.length:Int))/\0=0/\(List.take ((↑v11.2.2.2.2.2.2.2.1.length:Int).toNat-Int.toNat (1:Int)) (List.drop (0+Int.toNat (1:Int)) v11.2.2.2.2.2.2.2.1)).length=(List.take ((↑v11.2.2.2.2.2.2.2.1.length:Int).toNat-Int.toNat (1:Int)) (List.drop (0+Int.toNat (1:Int)) v11.2.2.2.2.2.2.2.1)).length/\0=0/\v11.2.2.2.1.length=v11.2.2.2.1.length/\0=0/\v11.2.2.2.2.2.1.length=v11.2.2.2.2.2.1.length/\YB (v11.1,v11.2.2.2.1,v11.2.2.2.2.1,v11.2.2.2.2.2.1,v11.2.2.2.2.2.2.1,List.take ((↑v11.2.2.2.2.2.2.2.1.length:Int).toNat-Int.toNat (1:Int)) (List.drop (0+Int.toNat (1:Int)) v11.2.2.2.2.2.2.2.1),v11.2.2.2.2.2.2.2.2.1,()))) (v9.1,0+l.toNat,(0:Int),v9.2.1,v9.2.2.1,v9.2.2.2.1,v9.2.2.2.2.1,List.take v9.2.2.2.2.2.1.length (List.drop 0 v9.2.2.2.2.2.1),v9.2.2.2.2.2.2.1,PUnit.unit)) (∃(iN:(List Int×PUnit)×PUnit),Kr.fn (v9.2.2.2.1.getD v9.1 [],())=some iN/\0=0/\iN.1.1.length=iN.1.1.length/\0=0/\v9.2.1.length=v9.2.1.length/\0=0/\v9.2.2.2.1.length=v9.2.2.2.1.length/\Bs (λ(gb:LG) (k13:LG->Prop)=>Br (decide (gb.2.1<(↑iN.1.1.length:Int))) (((0:Int)<=gb.2.1/\gb.2.1<(↑gb.2.2.2.2.2.2.1.length:Int))/\ ∃(Wr:Int),gb.2.2.2.2.2.2.1[0+gb.2.1.toNat]?=some Wr/\((0:Int)<=l/\l<(↑gb.2.2.1.length:Int))/\0=0/\gb.2.2.2.2.2.2.1.length=gb.2.2.2.2.2.2.1.length/\0=0/\gb.2.2.1.length=gb.2.2.1.length/\0=0/\gb.2.2.2.2.1.length=gb.2.2.2.2.1.length/\Bs (λ(Ld:tN) (k16:tN->Prop)=>Br (decide (Ld.2.2.1<(↑(gb.2.2.1.getD (0+l.toNat) []).length:Int))) (((0:Int)<=Ld.2.2.1/\Ld.2.2.1<(↑(Ld.2.2.2.1.getD Ld.2.1 []).length:Int))/\((0:Int)<=Wr/\Wr<(↑(Ld.2.2.2.2.2.1.getD Ld.1 []).length:Int))/\ ∃(uh:Option (List Int)),Qw.fn (((Ld.2.2.2.2.2.1.getD Ld.1 []).getD Wr.toNat (none:Option (List Int))).getD [],((Ld.2.2.2.1.getD Ld.2.1 []).getD Ld.2.2.1.toNat (none:Option (List Int))).getD [],())=some uh/\ ∃(xA:Int),idx (((Ld.2.2.2.1.getD Ld.2.1 []).getD Ld.2.2.1.toNat (none:Option (List Int))).getD []) Wr=some xA/\((0:Int)<=xA/\xA<(↑(Ld.2.2.2.2.2.1.getD Ld.1 []).length:Int))/\ ∃(QJ:List Int),Em.fn (((Ld.2.2.2.2.2.1.getD Ld.1 []).getD xA.toNat (none:Option (List Int))).getD [],())=some QJ/\ ∃(GQ:Option (List Int)),Qw.fn (uh.getD [],QJ,())=some GQ/\0=0/\Ld.2.2.2.1.length=Ld.2.2.2.1.length/\0=0/\Ld.2.2.2.2.2.1.length=Ld.2.2.2.2.2.1.length/\ ∃(xG:(Int×List (List (Option (List Int)))×List (List (Option (List Int)))×PUnit)×PUnit),(Ph m).fn (Ld.2.2.2.2.2.2.2.2.1,Ld.2.2.2.1,Ld.2.2.2.2.2.1,IntKind.i64.wrap (l+(1:Int)),GQ,())=some xG/\(Ld.1<(Ph m).Cr (Ld.2.2.2.2.2.2.2.2.1,Ld.2.2.2.1,Ld.2.2.2.2.2.1,IntKind.i64.wrap (l+(1:Int)),GQ,())/\Ld.1<(List.length xG.1.2.2.1))/\(Ld.2.1<(Ph m).Cr (Ld.2.2.2.2.2.2.2.2.1,Ld.2.2.2.1,Ld.2.2.2.2.2.1,IntKind.i64.wrap (l+(1:Int)),GQ,())/\Ld.2.1<(List.length xG.1.2.1))/\(Ld.1<(Ph m).Cr (Ld.2.2.2.2.2.2.2.2.1,Ld.2.2.2.1,Ld.2.2.2.2.2.1,IntKind.i64.wrap (l+(1:Int)),GQ,())/\Ld.1<(List.length xG.1.2.2.1))/\(Ld.1<(Ph m).Cr (Ld.2.2.2.2.2.2.2.2.1,Ld.2.2.2.1,Ld.2.2.2.2.2.1,IntKind.i64.wrap (l+(1:Int)),GQ,())/\Ld.1<(List.length xG.1.2.2.1))/\0=0/\Ld.2.2.2.2.2.2.2.1.length=Ld.2.2.2.2.2.2.2.1.length/\0=0/\xG.1.2.1.length=xG.1.2.1.length/\0=0/\xG.1.2.2.1.length=xG.1.2.2.1.length/\k16 (Ld.1,Ld.2.1,IntKind.i64.wrap (Ld.2.2.1+(1:Int)),xG.1.2.1,min Ld.2.2.2.2.1 ((Ph m).Cr (Ld.2.2.2.2.2.2.2.2.1,Ld.2.2.2.1,Ld.2.2.2.2.2.1,IntKind.i64.wrap (l+(1:Int)),GQ,())),xG.1.2.2.1,min Ld.2.2.2.2.2.2.1 ((Ph m).Cr (Ld.2.2.2.2.2.2.2.2.1,Ld.2.2.2.1,Ld.2.2.2.2.2.1,IntKind.i64.wrap (l+(1:Int)),GQ,())),Ld.2.2.2.2.2.2.2.1,xG.1.1,())) (0=0/\Ld.2.2.2.2.2.2.2.1.length=Ld.2.2.2.2.2.2.2.1.length/\0=0/\Ld.2.2.2.1.length=Ld.2.2.2.1.length/\0=0/\Ld.2.2.2.2.2.1.length=Ld.2.2.2.2.2.1.length/\k13 (Ld.1,IntKind.i64.wrap (gb.2.1+(1:Int)),Ld.2.2.2.1,Ld.2.2.2.2.1,Ld.2.2.2.2.2.1,Ld.2.2.2.2.2.2.1,Ld.2.2.2.2.2.2.2.1,Ld.2.2.2.2.2.2.2.2.1,()))) (gb.1,0+l.toNat,(0:Int),gb.2.2.1,gb.2.2.2.1,gb.2.2.2.2.1,gb.2.2.2.2.2.1,gb.2.2.2.2.2.2.1,gb.2.2.2.2.2.2.2.1,PUnit.unit)) ((0=0/\gb.2.2.1.length=gb.2.2.1.length)/\(0=0/\gb.2.2.2.2.1.length=gb.2.2.2.2.1.length)/\(Ph (m+1)).Cr (n,G,T,l,p,())<=gb.2.2.2.1/\(Ph (m+1)).Cr (n,G,T,l,p,())<=gb.2.2.2.2.2.1/\P ((gb.2.2.2.2.2.2.2.1,gb.2.2.1,gb.2.2.2.2.1,()),()))) (v9.1,(0:Int),v9.2.1,v9.2.2.1,v9.2.2.2.1,v9.2.2.2.2.1,iN.1.1,v9.2.2.2.2.2.2.1,PUnit.unit))) (0+l.toNat,G.set (0+l.toNat) (G.getD (0+l.toNat) []++List.take 1 (List.drop 0 [p])),min G.length (0+l.toNat),T,T.length,List.take y8.1.1.length (List.drop 0 y8.1.1),n,PUnit.unit))/\(((((0:Int)<=l/\l<(↑G.length:Int))/\((Gu G l p T y7 n))/\(Gu G l p T y7 n))/\((0:Int)<=l/\l<(↑G.length:Int))/\(Gu G l p T y7 n))/\((0:Int)<=l/\l<(↑G.length:Int))/\(Gu G l p T y7 n))/\(((((0:Int)<=l/\l<(↑G.length:Int))/\((Gu G l p T y7 n))/\(Gu G l p T y7 n))/\((0:Int)<=l/\l<(↑G.length:Int))/\(Gu G l p T y7 n))/\(((0:Int)<=l/\l<(↑G.length:Int))/\(((Gu G l p T y7 n))/\(Gu G l p T y7 n))/\(((Gu G l p T y7 n))/\((Gu G l p T y7 n))/\(Gu G l p T y7 n))/\((Gu G l p T y7 n))/\((Gu G l p T y7 n))/\(Gu G l p T y7 n))/\(((0:Int)<=l/\l<(↑G.length:Int))/\(Gu G l p T y7 n))/\((0:Int)<=l/\l<(↑G.length:Int))/\((Gu G l p T y7 n))/\((Gu G l p T y7 n))/\(Gu G l p T y7 n))/\(((0:Int)<=l/\l<(↑G.length:Int))/\(Gu G l p T y7 n))/\(((0:Int)<=l/\l<(↑G.length:Int))/\(Gu G l p T y7 n))/\((0:Int)<=l/\l<(↑G.length:Int))/\((Gu G l p T y7 n))/\((Gu G l p T y7 n))/\(Gu G l p T y7 n)))=fnMW (LM [Hq+7]) (look [(183,qV),(174,Kr),(156,Qw),(175,Em),(173,Vt.m (Ph m))]) (Ph (m+1)) Try.f173 (n,G,T,l,p,()) P:=by kernel_rfl
theorem uE {k l:Nat} {p:List Int} {s:Cz×Cz} (h:Ix s.2 k l p=true):Dr k l p s=s:=by
 cases k with
 |zero=>rfl
 |succ k=>unfold Dr;rw [if_pos h]
theorem uD (k l:Nat) (p:List Int) (s:Cz×Cz):Dr (k+1) l p s=if Ix s.2 (k+1) l p=true then s else
   (aX (Rp (s.1.getD l []++ [some p]) (s.2.getD l [])) (s.1.getD l []++ [some p])).foldl (λs q=>Dr k (l+1) q s)
    (s.1.set l (s.1.getD l []++ [some p]),s.2.set l (Rp (s.1.getD l []++ [some p]) (s.2.getD l []))):=rfl
theorem IX {n:Nat} {p:List Int} (h:Pm n p) {i:Nat} (hi:i<n):idx p (i:Int)=some (ap p i:Int):=by
 have c9:i<p.length:=by rw [h.1];exact hi
 rw [Av c9,<-(h.Nh hi).1,Ig c9]
theorem xP {x:Int} {gs:List PO} {j:Nat} (hj:j<gs.length) (s:Row×List Int):Ta x (gs.take (j+1)) s=Tj x (Ta x (gs.take j) s) gs[j]:=by
 unfold Ta
 rw [List.take_add_one,List.getElem?_eq_getElem hj,Option.toList_some,List.foldl_append]
 rfl
theorem xQ {gs:List PO} {f:Nat} {row:Row} :Ss gs f [] row=row:=by cases f<;>rfl
theorem fk {n:Nat} {p:List Int} (h:Pm n p):0<p.length/\p.length<=20:=⟨by rw [h.1];exact h.n1,by rw [h.1];exact h.n2⟩
theorem zj {n:Nat} {p q:List Int} (h:Pm n p) (k:Pm n q):Mv q.length p:=by rw [k.1];exact h.row
theorem Ab8 {m:Nat} (n:Int) (G T:List (List (Option (List Int)))) (l:Int) (p:Option (List Int)) (h:(∃N L q,p=some q/\lQ N L n G T l q)/\(n-l).toNat<m+1):
  fnMW (LM [Hq+7]) (look [(183,qV),(174,Kr),(156,Qw),(175,Em),(173,Vt.m (Ph m))]) (Ph (m+1)) Try.f173 (n,G,T,l,p,()) (λ(z:(Int×List (List (Option (List Int)))×List (List (Option (List Int)))×Unit)×Unit)=>z=((n,(Dr (n-l).toNat l.toNat (p.getD []) (G,T)).1,(Dr (n-l).toNat l.toNat (p.getD []) (G,T)).2,()),())):=by
 obtain ⟨⟨N,L,q,rfl,h⟩,hm⟩:=h
 have h':=h
 obtain ⟨n1,n2,en,el,hle,v,pm,fx⟩:=h
 subst en el
 have hk:((N:Int)-(L:Int)).toNat=N-L:=by omega
 rw [hk,Int.toNat_natCast]
 refine Eq.mp (Abt (N:Int) G T (L:Int) (some q) _) ⟨_,if_pos ⟨N,L,?a⟩,?b⟩
 case a=>
  simp only [List.drop_zero,List.take_length,Option.getD_some]
  exact h'
 obtain ⟨v1,v2,v3,v4⟩:=v
 dsimp only at v1 v2
 have hw:IntKind.i64.wrap ((L:Int)+1)=((L+1:Nat):Int):=Ao (by omega)
 simp only [Gu]
 simp only [List.drop_zero,List.take_length,Option.getD_some,hk,Int.toNat_natCast,Nat.zero_add,eq_self,true_and,and_true,List.take_succ_cons,List.take_zero,List.length_cons,List.length_nil,List.length_set,hw]
 refine Br.of (λhh=>⟨by show Int.toNat (L:Int)<=G.length;omega,by show Int.toNat (L:Int)<=T.length;omega,?_⟩) λhh=>?_
 ·rw [uE (s:=(G,T)) hh]
 obtain ⟨k,hNk⟩: ∃k,N-L=k+1:=by
  cases e:N-L with
  |zero=>rw [e] at hh;simp [Ix] at hh
  |succ k=>exact ⟨k,rfl⟩
 have YZ:L<N:=by omega
 have hv:V N (k+1) L (G,T):=by rw [<-hNk];exact ⟨v1,v2,v3,v4⟩
 rw [hNk] at hh⊢
 have e1:(0:Int)<=(L:Int)/\(L:Int)<(G.length:Int):=by omega
 have e1':(0:Int)<=(L:Int)/\(L:Int)<(T.length:Int):=by omega
 have hgl:(G.getD L []).length<=400:=NM n2 (by omega) hv
 have e2:(G.getD L []).length+1<=Bj:=by show _<=4294967296;omega
 simp only [e1,e1',e2,and_self,true_and,and_true]
 generalize AU:G.getD L []++ [some q]=gs
 have Ak3:gs.length<=401:=by rw [<-AU,List.length_append,List.length_singleton];omega
 have hg:PG N L gs:=by rw [<-AU];exact hv.pg pm fx
 have UL:Ru N L gs (T.getD L []):=by rw [<-AU];exact hv.Agu q
 obtain ⟨r1,r2,r3⟩:=wz YZ n2 hg UL
 generalize hR:Rp gs (T.getD L [])=R at r1 r2 r3
 have lj:Dr (k+1) L q (G,T)=(aX R gs).foldl (λs q=>Dr k (L+1) q s) (G.set L gs,T.set L R):=by
  rw [uD,if_neg (by rw [hh];simp)]
  dsimp only
  rw [AU,hR]
 rw [lj]
 have hTl:L<T.length:=by omega
 have hGl:L<G.length:=by omega
 have hG1:(G.set L gs).getD L []=gs:=ed G L hGl gs
 have hT1: ∀row:Row,(T.set L row).getD L []=row:=ed T L hTl
 refine ⟨_,if_pos (by show (T.getD L []).length<=20;rw [UL.rl];exact n2),?_⟩
 dsimp only
 have XQ:(Hx (T.getD L [])).length+Lk (T.getD L [])<=40:=by have:=sI (T.getD L []);have:=wu (T.getD L []);have:=UL.rl;omega
 have hq0:BZ gs (Hx (T.getD L [])) (T.getD L []):=⟨λy hy=>Mz.1 hy,λy hy=> .inl (Mz.2 ⟨y,rfl,hy⟩)⟩
 refine ⟨λv=> ∃(row:Row) (qu:List Int) (kg kt:Nat),v=(L,G.set L gs,kg,T.set L row,kt,qu,(N:Int),())/\L<=kg/\L<=kt/\qu.length+Lk row<=40/\Ru N L gs row/\BZ gs qu row/\Ss gs (qu.length+Lk row) qu row=R,
  fun v=>v.2.2.2.2.2.1.length+Lk (v.2.2.2.1.getD v.1 []),⟨T.getD L [],Hx (T.getD L []),min G.length L,T.length,?_,by omega,by omega,XQ,UL,hq0,?_⟩,?_⟩
 ·rw [pw T L hTl]
 ·rw [<-uN YZ hg 100 _ _ (by omega) UL hq0];exact hR
 rintro v ⟨row,qu,kg,kt,rfl,TV,TY,hb,IP,hqi,IA⟩
 dsimp only
 simp only [hG1,hT1,List.length_set]
 refine Br.dec (λhl=>⟨e1.2,?_⟩) λhl=>?_
 ·cases qu with
  |nil=>simp at hl
  |cons x qu=>
  obtain ⟨p1,p2,xn,t,rfl,ht⟩:=za YZ hg IP hqi
  have uo:xn<N:=by rw [<-IP.rl];exact lE ht
  refine Aq gs.length (λv=>v.2.2.1) (λj v=> ∃kg kt:Nat,v=(L,L,(j:Int),G.set L gs,kg,T.set L (Ta (xn:Int) (gs.take j) (row,qu)).1,kt,(xn:Int)::(Ta (xn:Int) (gs.take j) (row,qu)).2,(N:Int),())/\L<=kg/\L<=kt) rfl ⟨kg,kt,rfl,TV,TY⟩ ?_
  rintro j v K hj hi ⟨kg,kt,rfl,h1,h2⟩ hK
  dsimp only
  simp only [hG1,hT1,Int.toNat_natCast]
  refine Br.dec (λhl=>?_) λhl=>?_
  ·have hl:j<gs.length:=by omega
   obtain ⟨x1,x2⟩:=KN YZ hg (gs.take j) (q:=qu) (λo ho=>List.mem_of_mem_take ho) IP ht
   have Qn:=xP (x:=(xn:Int)) hl (row,qu)
   generalize Ta (xn:Int) (gs.take j) (row,qu)=s at x1 x2 Qn⊢
   obtain ⟨r,qq⟩:=s
   dsimp only at x1 x2⊢
   obtain ⟨g,oN,Qa,TP⟩:=hg gs[j] (List.getElem_mem hl)
   have htx:r.getD xn none=some t:=x1.mono _ _ ht
   obtain ⟨t1,t2,t3,t4⟩:=x1.ok.rt _ _ htx
   have hrl:r.length=N:=x1.ok.rl
   have hgj:gs.getD j none=some g:=by rw [HV hl];exact oN
   have hy:=Qa.lt uo
   have hga:=(Qa.Nh uo).1
   have OI:qq.length+Lk r=qu.length+Lk row:=x1.YC
   simp only [List.length_cons] at hb
   simp only [hgj,Option.getD_some]
   refine ⟨⟨by omega,by omega⟩,⟨by omega,by simp only [List.length_cons];omega⟩,_,rfl,_,IX Qa uo,⟨by omega,by omega⟩,?_⟩
   rw [oN] at Qn
   unfold Tj at Qn
   dsimp only at Qn
   rw [Option.getD_some,hga,Int.toNat_natCast,Int.toNat_natCast,htx,Option.getD_some] at Qn
   rw [Int.toNat_natCast]
   refine Br.of (λhn=>?_) λhn=>?_
   ·have hn:r.getD (ap g xn) none=none:=by
     cases e:r.getD (ap g xn) none with
     |none=>rfl
     |some u=>rw [e] at hn;simp at hn
    rw [hn] at Qn
    refine ⟨⟨by omega,by simp only [List.length_cons];omega⟩,_,rfl,⟨by omega,by omega⟩,some (Aa t g),?_,⟨by omega,by omega⟩,?_,?_⟩
    ·rw [Int.toNat_natCast,htx,Option.getD_some]
     exact if_pos ⟨fk t1,zj t1 Qa⟩
    ·show qq.length+1+1<=4294967296
     omega
    ·rw [Ao (by omega)]
     refine hK hl _ rfl ⟨kg,kt,?_,h1,h2⟩
     rw [Qn,List.set_set]
     rfl
   ·have hn: ∃u,r.getD (ap g xn) none=some u:=by
     cases e:r.getD (ap g xn) none with
     |none=>rw [e] at hn;simp at hn
     |some u=>exact ⟨u,rfl⟩
    obtain ⟨u,hn⟩:=hn
    rw [hn] at Qn
    rw [Ao (by omega)]
    refine hK hl _ rfl ⟨kg,kt,?_,h1,h2⟩
    rw [Qn]
  ·have:j=gs.length:=by omega
   subst this
   rw [List.take_length]
   generalize hs:Ta (xn:Int) gs (row,qu)=s at p1 p2⊢
   obtain ⟨r,qq⟩:=s
   dsimp only at p1 p2⊢
   have OI:qq.length+Lk r=qu.length+Lk row:=p1.YC
   simp only [List.length_cons] at hb IA
   refine ⟨⟨by omega,by simp only [List.length_cons];omega,Int.le_refl _⟩,⟨r,qq,kg,kt,?_,h1,h2,by omega,p1.ok,p2,?_⟩,?_⟩
   ·simp
   ·rw [show qu.length+1+Lk row=(qu.length+Lk row)+1 by omega] at IA
    simp only [Ss,hs] at IA
    rw [OI]
    exact IA
   ·simp only [List.length_cons]
    have:(List.take (qq.length+1-Int.toNat 1) (List.drop (Int.toNat 1) ((xn:Int)::qq))).length=qq.length:=by simp
    rw [this]
    omega
 ·have:qu= []:=List.eq_nil_of_length_eq_zero (by omega)
  subst this
  rw [xQ] at IA
  subst IA
  have hpr:=KG YZ hg IP r3
  have hvl:=hv.lower gs row
  have RI: ∀qs:List (List Int),(∀q∈qs,q∈aX row gs)->V N k (L+1) (qs.foldl (λs q=>Dr k (L+1) q s) (G.set L gs,T.set L row))/\Ws (L+1) (G.set L gs,T.set L row) (qs.foldl (λs q=>Dr k (L+1) q s) (G.set L gs,T.set L row)):=
   fun qs OL=>AK n1 n2 (by omega) qs _ (λq hq=>hpr q (OL q hq)) hvl
  refine ⟨_,if_pos (by show row.length<=20;rw [IP.rl];exact n2),?_⟩
  dsimp only
  have hol:=sI row
  have hrl:=IP.rl
  refine Aq (Hx row).length (λv=>v.2.1) (λi v=> ∃(s:Cz×Cz) (kg kt:Nat),v=(L,(i:Int),s.1,kg,s.2,kt,Hx row,(N:Int),())/\L<=kg/\L<=kt/\s=(((Hx row).take i).flatMap λy=>gs.map (Mw row y)).foldl (λs q=>Dr k (L+1) q s) (G.set L gs,T.set L row)) rfl ⟨_,kg,kt,rfl,TV,TY,rfl⟩ ?_
  rintro i v K hi c9 ⟨s,kg,kt,rfl,h1,h2,hs⟩ hK
  dsimp only
  have Nj: ∀q∈((Hx row).take i).flatMap (λy=>gs.map (Mw row y)),q∈aX row gs:= λq hq=>by
   obtain ⟨y,hy,hq⟩:=List.mem_flatMap.1 hq
   exact List.mem_flatMap.2 ⟨y,List.mem_of_mem_take hy,hq⟩
  refine Br.dec (λhl=>?_) λhl=>?_
  ·have hl:i<(Hx row).length:=by omega
   obtain ⟨f1,f2⟩:=RI _ Nj
   rw [<-hs] at f1 f2
   have g1:s.1.getD L []=gs:=by rw [(f2.low L (by omega)).1];exact hG1
   have g2:s.1.length=N:=f1.1
   obtain ⟨yn,SC,hyr⟩:=Mz.1 (List.getElem_mem hl)
   obtain ⟨t,ht⟩:=Option.ne_none_iff_exists'.1 hyr
   have hyN:yn<N:=by rw [<-hrl];exact lE ht
   obtain ⟨t1,t2,t3,t4⟩:=IP.rt _ _ ht
   refine ⟨⟨by omega,by omega⟩,(yn:Int),by rw [Int.toNat_natCast,List.getElem?_eq_getElem hl,SC],by omega,?_⟩
   rw [g1]
   refine Aq gs.length (λv=>v.2.2.1) (λj v=> ∃(s':Cz×Cz) (kg kt:Nat),v=(L,L,(j:Int),s'.1,kg,s'.2,kt,Hx row,(N:Int),())/\L<=kg/\L<=kt/\s'=(((Hx row).take i).flatMap (λy=>gs.map (Mw row y))++(gs.take j).map (Mw row (yn:Int))).foldl (λs q=>Dr k (L+1) q s) (G.set L gs,T.set L row)) rfl ⟨s,kg,kt,rfl,h1,h2,by simpa using hs⟩ ?_
   rintro j v K' hj s7 ⟨s',kg,kt,rfl,h1,h2,um⟩ YX
   dsimp only
   refine Br.dec (λHg=>?_) λHg=>?_
   ·have Hg:j<gs.length:=by omega
    have BE: ∀q∈((Hx row).take i).flatMap (λy=>gs.map (Mw row y))++(gs.take j).map (Mw row (yn:Int)),q∈aX row gs:= λq hq=>by
     rcases List.mem_append.1 hq with hq|hq
     ·exact Nj q hq
     ·obtain ⟨o,ho,rfl⟩:=List.mem_map.1 hq
      exact List.mem_flatMap.2 ⟨(yn:Int),Mz.2 ⟨yn,rfl,hyr⟩,List.mem_map.2 ⟨o,List.mem_of_mem_take ho,rfl⟩⟩
    obtain ⟨XC,f2'⟩:=RI _ BE
    rw [<-um] at XC f2'
    obtain ⟨G',T'⟩:=s'
    dsimp only at XC f2'⊢
    have g1':G'.getD L []=gs:=by have:=(f2'.low L (by omega)).1;dsimp only at this;rw [this];exact hG1
    have g3':T'.getD L []=row:=by have:=(f2'.low L (by omega)).2;dsimp only at this;rw [this];exact hT1 row
    have g4':G'.length=N:=XC.1
    have g5':T'.length=N:=XC.2.1
    obtain ⟨g,oN,Qa,TP⟩:=hg gs[j] (List.getElem_mem Hg)
    have hgj:gs.getD j none=some g:=by rw [HV Hg];exact oN
    have hgm:some g∈gs:=by rw [<-oN];exact List.getElem_mem Hg
    have hy:=Qa.lt hyN
    obtain ⟨t',lJ⟩:=Option.ne_none_iff_exists'.1 (r3 yn t g ht hgm)
    obtain ⟨u1,u2,u3,u4⟩:=IP.rt _ _ lJ
    have Aag:Mw row (yn:Int) gs[j]=Aa (Aa t g) (Al t'):=by rw [oN];exact cQ ht lJ
    have RU:=hpr _ (List.mem_flatMap.2 ⟨(yn:Int),Mz.2 ⟨yn,rfl,hyr⟩,List.mem_map.2 ⟨gs[j],List.getElem_mem Hg,Aag⟩⟩)
    simp only [g1',g3',Int.toNat_natCast,hgj,ht,Option.getD_some]
    have mL:L<Int.toNat ((L+1:Nat):Int):=by omega
    have HX:=rz n1 n2 k (L+1) _ (G',T') (by omega) XC RU.1 RU.2
    have Ahr:((Dr k (L+1) (Aa (Aa t g) (Al t')) (G',T')).1).length=N:=HX.v.1
    have Ahs:((Dr k (L+1) (Aa (Aa t g) (Al t')) (G',T')).2).length=N:=HX.v.2.1
    have MP:((N:Int)-((L+1:Nat):Int)).toNat=k:=by omega
    refine ⟨⟨by omega,by omega⟩,⟨by omega,by omega⟩,some (Aa t g),if_pos ⟨fk t1,zj t1 Qa⟩,_,IX Qa hyN,⟨by omega,by omega⟩,Al t',?_,some (Aa (Aa t g) (Al t')),?_,_,if_pos ⟨⟨N,L+1,_,rfl,?pr⟩,?lt⟩,⟨mL,?k1⟩,⟨mL,?k2⟩,⟨mL,?k3⟩,⟨mL,?k4⟩,?go⟩
    case pr=>exact ⟨n1,n2,rfl,rfl,by omega,by rw [show N-(L+1)=k by omega];exact XC,RU.1,RU.2⟩
    case lt=>
     show ((N:Int)-((L+1:Nat):Int)).toNat<m
     omega
    case go=>
     dsimp only
     rw [Ao (by omega)]
     refine YX Hg _ rfl ⟨_,_,_,rfl,?_,?_,?_⟩
     ·show L<=min kg (Int.toNat ((L+1:Nat):Int));omega
     ·show L<=min kt (Int.toNat ((L+1:Nat):Int));omega
     ·rw [List.take_add_one,List.getElem?_eq_getElem Hg,Option.toList_some,List.map_append,<-List.append_assoc,List.foldl_append,<-um]
      simp only [List.map_cons,List.map_nil,List.foldl_cons,List.foldl_nil,Aag,MP,Int.toNat_natCast,Option.getD_some]
    case k1=>simp only [MP,Int.toNat_natCast,Option.getD_some];omega
    case k2=>simp only [MP,Int.toNat_natCast,Option.getD_some];omega
    case k3=>simp only [MP,Int.toNat_natCast,Option.getD_some];omega
    case k4=>simp only [MP,Int.toNat_natCast,Option.getD_some];omega
    ·rw [Int.toNat_natCast,lJ,Option.getD_some]
     exact if_pos ⟨by show t'.length<=20;rw [u1.1];exact n2,u1.2.row⟩
    ·exact if_pos ⟨fk (t1.comp Qa),zj (t1.comp Qa) u1.inv⟩
   ·have:j=gs.length:=by omega
    subst this
    rw [Ao (by omega)]
    refine hK hl _ rfl ⟨s',kg,kt,rfl,h1,h2,?_⟩
    rw [um,List.take_length,List.take_add_one,List.getElem?_eq_getElem hl,Option.toList_some,List.flatMap_append,SC]
    simp
  ·have:i=(Hx row).length:=by omega
   subst this
   rw [List.take_length] at hs
   refine ⟨h1,h2,?_⟩
   rw [hs]
   rfl
theorem KZ {m:Nat} (UX:Bz Try.prog 173 (Ph m)):Bz Try.prog 173 (Ph (m+1)):=
 Bz.xF (PW [Hq+7]) (Ah FB (Hj eG (Ah nP (Ah Po (Hj UX At))))) mixed Try.func173 (by kernel_rfl) (by kernel_rfl) λx h=>Ab8 x.1 x.2.1 x.2.2.1 x.2.2.2.1 x.2.2.2.2.1 h
theorem zr:Bz Try.prog 173 (Ph 0):=
 Bz.xF jX At mixed Try.func173 (by kernel_rfl) (by kernel_rfl) λ_ h=>absurd h.2 (Nat.not_lt_zero _)
theorem nN: ∀m,Bz Try.prog 173 (Ph m)
 |0=>zr
 |m+1=>KZ (nN m)
noncomputable abbrev tf:MSpec:=xF SH (λx=> ∃N L q,x.2.2.2.2.1=some q/\lQ N L x.1 x.2.1 x.2.2.1 x.2.2.2.1 q)
 (λx=>((x.1,(Dr (x.1-x.2.2.2.1).toNat x.2.2.2.1.toNat (x.2.2.2.2.1.getD []) (x.2.1,x.2.2.1)).1,(Dr (x.1-x.2.2.2.1).toNat x.2.2.2.1.toNat (x.2.2.2.2.1.getD []) (x.2.1,x.2.2.1)).2,()),()))
theorem zt:Bz Try.prog 173 tf:=Bz.Ab6 (λx=>(x.1-x.2.2.2.1).toNat) nN
end Go.Proofs.Ytjbdmibbbpdnnaa

namespace Go.Proofs.Ytjbdmibbbpdnnaa
open Go.RowKit
def Sy (n:Nat):Cz:=List.replicate n []
def Yz (n i:Nat):Row:=(List.replicate n none).set i (some (upto n))
def Xh (n:Nat):Cz:=(List.range n).map λi=>Yz n i
def Ng (n:Nat) (gens:List PO):Cz×Cz:=gens.foldl (λs o=>Dr n 0 (o.getD []) s) (Sy n,Xh n)
noncomputable abbrev yC:MSpec:= {Ha:= [none,none],ins:= [(false, .Ew tI),(false, .Ew YD)],Ee:=false,Gd:= [none,none,none],outs:= [.Ew tI, .Ak tO SM false, .Ak tO SM false],fn:= λ_=>none,rp:=some 179}
noncomputable abbrev cP:MSpec:=xF yC (λx=>(1<=x.1/\x.1<=20)/\List.length x.2.1<=4294967296/\ ∀o∈(x.2.1:List PO),∃g,o=some g/\Pm x.1.toNat g)
 (λx=>((x.1,(Ng x.1.toNat x.2.1).1,(Ng x.1.toNat x.2.1).2,()),()))
abbrev Tu:Type:=Int×List (List (Option (List Int)))×Int×List (List (Option (List Int)))×PUnit
theorem xp (n:Int) (gens:List (Option (List Int))) (P:(Int×List (List (Option (List Int)))×List (List (Option (List Int)))×Unit)×Unit->Prop):(((0:Int)<=n/\n<(↑Bj:Int)+(1:Int))/\n=n/\0=0/\(List.replicate n.toNat ([]:List (Option (List Int)))).length=(List.replicate n.toNat ([]:List (Option (List Int)))).length/\0=0/\0=([]:List Int).length/\Bs (λ(v3:Tu) (k4:Tu->Prop)=>Br (decide (v3.1<n)) (((0:Int)<=n/\n<(↑Bj:Int)+(1:Int))/\n=n/\ ∃(y5:Option (List Int)),Wj.fn (n,())=some y5/\((0:Int)<=v3.1/\v3.1<(↑(List.replicate n.toNat (none:Option (List Int))).length:Int))/\0+v3.1.toNat<(List.replicate n.toNat (none:Option (List Int))).length/\0=0/\(List.replicate n.toNat (none:Option (List Int))).length=((List.replicate n.toNat (none:Option (List Int))).set (0+v3.1.toNat) y5).length/\(0=0/\v3.2.2.2.1.length=v3.2.2.2.1.length)/\(0=0/\1= [(List.replicate n.toNat (none:Option (List Int))).set (0+v3.1.toNat) y5].length)/\0< [(List.replicate n.toNat (none:Option (List Int))).set (0+v3.1.toNat) y5].length/\v3.2.2.2.1.length+ [(List.replicate n.toNat (none:Option (List Int))).set (0+v3.1.toNat) y5].length<=Bj/\0=0/\v3.2.1.length=v3.2.1.length/\0=0/\(v3.2.2.2.1++ [(List.replicate n.toNat (none:Option (List Int))).set (0+v3.1.toNat) y5]).length=(v3.2.2.2.1++ [(List.replicate n.toNat (none:Option (List Int))).set (0+v3.1.toNat) y5]).length/\k4 (IntKind.i64.wrap (v3.1+(1:Int)),v3.2.1,v3.2.2.1,v3.2.2.2.1++ [(List.replicate n.toNat (none:Option (List Int))).set (0+v3.1.toNat) y5],())) (0=0/\v3.2.1.length=v3.2.1.length/\0=0/\v3.2.2.2.1.length=v3.2.2.2.1.length/\Bs (λ(v5:Tu) (k6:Tu->Prop)=>Br (decide (v5.1<(↑gens.length:Int))) (∃(y7:Option (List Int)),idx gens v5.1=some y7/\0=0/\v5.2.1.length=v5.2.1.length/\0=0/\v5.2.2.2.1.length=v5.2.2.2.1.length/\ ∃(y8:(Int×List (List (Option (List Int)))×List (List (Option (List Int)))×PUnit)×PUnit),tf.fn (v5.2.2.1,v5.2.1,v5.2.2.2.1,(0:Int),y7,())=some y8/\0=0/\y8.1.2.1.length=y8.1.2.1.length/\0=0/\y8.1.2.2.1.length=y8.1.2.2.1.length/\k6 (IntKind.i64.wrap (v5.1+(1:Int)),y8.1.2.1,y8.1.1,y8.1.2.2.1,())) ((0=0/\v5.2.1.length=v5.2.1.length)/\(0=0/\v5.2.2.2.1.length=v5.2.2.2.1.length)/\P ((v5.2.2.1,v5.2.1,v5.2.2.2.1,()),()))) ((0:Int),v3.2.1,v3.2.2.1,v3.2.2.2.1,PUnit.unit))) ((0:Int),List.replicate n.toNat ([]:List (Option (List Int))),n,[],PUnit.unit))=fnMW Tv (look [(127,Wj),(173,tf)]) cP Try.f154 (n,gens,()) P:=by kernel_rfl
theorem Vk (n i:Nat):(Sy n).getD i []= []:=by
 unfold Sy
 rw [List.getD_eq_getElem?_getD,List.getElem?_replicate]
 split<;>rfl
theorem fX {n i:Nat} (h:i<n):(Xh n).getD i []=Yz n i:=by
 unfold Xh
 rw [List.getD_eq_getElem?_getD,List.getElem?_map,List.getElem?_range h]
 rfl
theorem iF {n i y:Nat} (h:i<n):(Yz n i).getD y none=if i=y then some (upto n) else none:=by
 unfold Yz
 rw [Nv,List.length_replicate]
 by_cases e:i=y
 ·rw [if_pos ⟨e,h⟩,if_pos e]
 ·rw [if_neg (λhh=>e hh.1),if_neg e,List.getD_eq_getElem?_getD,List.getElem?_replicate]
  split<;>rfl
theorem o6 {n:Nat} (h1:1<=n) (h2:n<=20): ∀(k l:Nat),l+k=n->eZ n k l (Sy n,Xh n)
 |0,l,hk=>Vk n l
 |k+1,l,hk=>by
  have hl:l<n:=by omega
  have hg: ∀(g:List Int) (j:Nat),some g∈(Sy n).getD j []->False:= λg j hg=>by rw [Vk] at hg;cases hg
  refine ⟨o6 h1 h2 k (l+1) (by omega),⟨λo ho=>?_,?_,?_,λy t e0=>?_,λy t g _ Zd=>(hg _ _ Zd).elim,λy t g t' _ Zd=>(hg _ _ Zd).elim⟩,λg Zd=>(hg _ _ Zd).elim⟩
  ·have ho:o∈(Sy n).getD l []:=ho
   rw [Vk] at ho;cases ho
  ·show ((Xh n).getD l []).length=n
   rw [fX hl];simp [Yz]
  ·show ((Xh n).getD l []).getD l none=_
   rw [fX hl,iF hl,if_pos rfl]
  ·replace e0:((Xh n).getD l []).getD y none=some t:=e0
   rw [fX hl,iF hl] at e0
   by_cases hy:l=y
   ·rw [if_pos hy] at e0
    have e1:=Option.some.inj e0
    subst e1 hy
    exact ⟨Pm.id h1 h2,λi hi=>dV (by omega),dV hl, .id⟩
   ·rw [if_neg hy] at e0;cases e0
theorem x5 (n:Nat): ∀(k l:Nat),YI k l (Sy n,Xh n)
 |0,_=>trivial
 |k+1,l=>⟨x5 n k (l+1),by show ((Sy n).getD l []).length<=_;rw [Vk];exact Nat.zero_le _⟩
theorem BR {n:Nat} (h1:1<=n) (h2:n<=20):V n n 0 (Sy n,Xh n):=⟨by simp [Sy],by simp [Xh],o6 h1 h2 n 0 (by omega),x5 n n 0⟩
def PmL (n:Nat) (gens:List PO):Prop:= ∀o∈gens,∃g,o=some g/\Pm n g
theorem uC {n:Nat} {gens:List PO} {j:Nat} (hj:j<gens.length):Ng n (gens.take (j+1))=Dr n 0 (gens[j].getD []) (Ng n (gens.take j)):=by
 unfold Ng
 rw [List.take_add_one,List.getElem?_eq_getElem hj,Option.toList_some,List.foldl_append]
 rfl
theorem iW {n:Nat} (h1:1<=n) (h2:n<=20): ∀(gens:List PO) (s:Cz×Cz),PmL n gens->V n n 0 s->V n n 0 (gens.foldl (λs o=>Dr n 0 (o.getD []) s) s)/\
  Ws 0 s (gens.foldl (λs o=>Dr n 0 (o.getD []) s) s)/\(∀g,some g∈gens->Gn n ((gens.foldl (λs o=>Dr n 0 (o.getD []) s) s).1.getD 0 []) g)/\ ∀o∈(gens.foldl (λs o=>Dr n 0 (o.getD []) s) s).1.getD 0 [],o∈s.1.getD 0 []\/o∈gens
 | [],s,_,hv=>⟨hv,Ws.refl _ _,(λ_ hg=>by cases hg),λ_ ho=> .inl ho⟩
 |o::gens,s,hg,hv=>by
  obtain ⟨g,rfl,Qa⟩:=hg o (by simp)
  have ha:=rz h1 h2 n 0 g s (by omega) hv Qa (λi hi=>absurd hi (Nat.not_lt_zero _))
  obtain ⟨a1,a2,a3,a4⟩:=iW h1 h2 gens (Dr n 0 g s) (λo ho=>hg o (by simp [ho])) ha.v
  refine ⟨a1,ha.grow.trans a2 (Nat.le_refl _),λg' Zd=>?_,λo ho=>?_⟩
  ·rcases List.mem_cons.1 Zd with e|Zd
   ·cases e;exact ha.Ab0.mono λg hg=>a2.AO _ _ hg
   ·exact a3 g' Zd
  ·rcases a4 o ho with h|h
   ·rcases ha.gens o h with h|h
    ·exact .inl h
    ·exact .inr (by simp [h])
   ·exact .inr (by simp [h])
theorem uz {n:Nat} (h1:1<=n) (h2:n<=20) {gens:List PO} (hg:PmL n gens):V n n 0 (Ng n gens):=(iW h1 h2 gens _ hg (BR h1 h2)).1
theorem mD {n:Nat} (h1:1<=n) (h2:n<=20) {gens:List PO} (hg:PmL n gens) {p:List Int} (hp:Pm n p):Ix (Ng n gens).2 n 0 p=true↔Gn n gens p:=by
 obtain ⟨a1,a2,a3,a4⟩:=iW h1 h2 gens _ hg (BR h1 h2)
 have hS:zW n λg=>some g∈gens:=⟨⟨h1,h2⟩,λg Zd=>by obtain ⟨g',e,h⟩:=hg _ Zd;cases e;exact h⟩
 have Nj: ∀g,some g∈(Ng n gens).1.getD 0 []->some g∈gens:= λg Zd=>by
  rcases a4 _ Zd with h|h
  ·have h:some g∈(Sy n).getD 0 []:=h
   rw [Vk] at h;cases h
  ·exact h
 have ZA:zW n λg=>some g∈(Ng n gens).1.getD 0 []:=⟨⟨h1,h2⟩,λg Zd=>hS.2 g (Nj g Zd)⟩
 refine (gQ h1 h2 n 0 (Ng n gens) (by omega) a1.2.2.1 p hp λi hi=>absurd hi (Nat.not_lt_zero _)).trans ⟨λh=>h.mono Nj,λh=>h.trans ZA λg Zd=>a3 g Zd⟩
theorem wF (n:Int) (gens:List (Option (List Int))) (h:(1<=n/\n<=20)/\List.length gens<=4294967296/\ ∀o∈(gens:List PO),∃g,o=some g/\Pm n.toNat g):
  fnMW Tv (look [(127,Wj),(173,tf)]) cP Try.f154 (n,gens,()) (λ(z:(Int×List (List (Option (List Int)))×List (List (Option (List Int)))×Unit)×Unit)=>z=((n,(Ng n.toNat gens).1,(Ng n.toNat gens).2,()),())):=by
 obtain ⟨⟨h1,h2⟩,h3,hg⟩:=h
 obtain ⟨N,rfl⟩: ∃N:Nat,n=N:=⟨n.toNat,by omega⟩
 rw [Int.toNat_natCast] at hg⊢
 have h1:1<=N:=by omega
 have h2:N<=20:=by omega
 refine Eq.mp (xp (N:Int) gens _) ?_
 have hm:((0:Int)<=(N:Int)/\(N:Int)<(Bj:Int)+1):=⟨by omega,by show (N:Int)<(4294967296:Int)+1;omega⟩
 simp only [hm,and_self,eq_self,true_and,Int.toNat_natCast,Nat.zero_add,List.length_nil,List.length_set,List.length_replicate,List.length_cons,Nat.lt_add_one,List.length_append]
 refine Aq N (λv=>v.1) (λj v=>v=((j:Int),Sy N,(N:Int),(List.range j).map (Yz N),())) rfl rfl ?_
 rintro j v K hj hi rfl hK
 dsimp only
 refine Br.dec (λhl=>?_) λhl=>?_
 ·refine ⟨_,if_pos ⟨by show (1:Int)<=N;omega,by show (N:Int)<=20;omega⟩,⟨by omega,by omega⟩,by rw [Int.toNat_natCast];omega,?_,?_⟩
  ·show _<=4294967296
   simp only [List.length_map,List.length_range]
   omega
  ·rw [Ao (by omega)]
   refine hK (by omega) _ rfl ?_
   rw [List.range_succ,List.map_append]
   rfl
 ·have:j=N:=by omega
  subst this
  refine Aq gens.length (λv=>v.1) (λi v=>v=((i:Int),(Ng j (gens.take i)).1,(j:Int),(Ng j (gens.take i)).2,())) rfl rfl ?_
  rintro i v K' c9 Ak5 rfl YX
  dsimp only
  refine Br.dec (λHg=>?_) λHg=>?_
  ·have Hg:i<gens.length:=by omega
   obtain ⟨g,oN,Qa⟩:=hg gens[i] (List.getElem_mem Hg)
   have hv:=uz h1 h2 (gens:=gens.take i) λo ho=>hg o (List.mem_of_mem_take ho)
   refine ⟨_,Av Hg,_,if_pos ⟨j,0,g,oN,h1,h2,rfl,rfl,Nat.zero_le _,hv,Qa,λi hi=>absurd hi (Nat.not_lt_zero _)⟩,?_⟩
   rw [Ao (by omega)]
   refine YX Hg _ rfl ?_
   rw [uC Hg]
   simp only [Int.sub_zero,Int.toNat_natCast]
   rfl
  ·have:i=gens.length:=by omega
   subst this
   rw [List.take_length]
theorem lr:Bz Try.prog 154 cP:=
 Bz.xF jX (Ah lp (Hj zt At)) mixed Try.func154 (by kernel_rfl) (by kernel_rfl) λx h=>wF x.1 x.2.1 h
end Go.Proofs.Ytjbdmibbbpdnnaa

namespace Go.Proofs.Ytjbdmibbbpdnnaa
open Go.RowKit
def Vd (T:Cz):Nat->Nat
 |0=>1
 |j+1=>Vd T j*(Hx (T.getD j [])).length
noncomputable abbrev dJ:Spec:=Di (.pair (.ptr tQ) (.pair tI .unit)) tI false true (λx=>x.2.1=0/\ ∃N:Nat,(1<=N/\N<=20)/\x.1.1=N/\V N N 0 (x.1.2.1,x.1.2.2.1)) (λx=>(Vd x.1.2.2.1 x.1.1.toNat:Int))
noncomputable abbrev vO:MSpec:= {Ha:= [none,none],ins:= [(false, .Ew tI),(false, .Ew iS)],Ee:=false,Gd:= [none,none,none],outs:= [.Ew tI, .Ak tO SM false, .Ak tO SM false],fn:= λ_=>none,rp:=some 179}
def Tk (n:Int) (g:List (List Int)):Cz×Cz:=Ng n.toNat (g.map some)
noncomputable abbrev Rb:MSpec:=xF vO (λx=>(1<=x.1/\x.1<=20)/\List.length x.2.1<=4294967296/\ ∀g∈(x.2.1:List (List Int)),Pm x.1.toNat g)
 (λx=>((x.1,(Tk x.1 x.2.1).1,(Tk x.1 x.2.1).2,()),()))
noncomputable def Oy (p:PP):Int:=if Az p=true then (Vd (Tk p.1 p.2.2.1).2 p.1.toNat:Int) else 0
noncomputable abbrev Lx:Spec:=Di (.pair Ck .unit) tI false true (λx=>Cp x.1) (λx=>Oy x.1)
theorem QG (c:Int×List (List (Option (List Int)))×List (List (Option (List Int)))×Unit) (l:Int) (P:Int->Prop):(Bs (λ(v3:Int×Int×PUnit) (k4:Int×Int×PUnit->Prop)=>Br (decide (v3.2.1<c.1)) (∃(y5:List (Option (List Int))),idx c.2.2.1 v3.2.1=some y5/\ ∃(y6:(List Int×PUnit)×PUnit),Kr.fn (y5,())=some y6/\ ∃(y7:Int),Mk.fn (List.take y6.1.1.length (List.drop 0 y6.1.1),())=some y7/\k4 (IntKind.i64.wrap (v3.1*y7),IntKind.i64.wrap (v3.2.1+(1:Int)),())) (P v3.1)) ((1:Int),l,PUnit.unit))=fnW Tv (look [(174,Kr),(82,Mk)]) dJ Try.f155 (c,l,()) P:=by kernel_rfl
theorem ue (p:Int×ByteArray×List (List Int)×Unit) (P:Int->Prop):(∃(y2:Bool),Eo.fn ((p.1,p.2.1,p.2.2.1,()),())=some y2/\Br (!y2) (P (0:Int)) (∃(y3:(Int×List (List (Option (List Int)))×List (List (Option (List Int)))×PUnit)×PUnit),Rb.fn (p.1,p.2.2.1,())=some y3/\ ∃(y4:Int),dJ.fn ((y3.1.1,List.take y3.1.2.1.length (List.drop 0 y3.1.2.1),List.take y3.1.2.2.1.length (List.drop 0 y3.1.2.2.1),()),(0:Int),())=some y4/\P y4))=fnW Da (look [(130,Eo),(154,Rb),(155,dJ)]) Lx Try.f126 (p,()) P:=by kernel_rfl
theorem PY (n i:Nat):(upto n).countP (λy=>decide ((i:Int)<=y))=n-i:=by
 induction n with
 |zero=>simp [upto]
 |succ n ih=>
  rw [Za,List.countP_append,ih]
  simp only [List.countP_cons,List.countP_nil,decide_eq_true_eq]
  split<;>omega
theorem OX {n i:Nat} {gs:List PO} {row:Row} {H:List Int->Prop} (hi:i<n) (h:MY n i gs row H):(Hx row).length<=n-i:=by
 rw [<-PY n i]
 unfold Hx
 rw [h.rl,<-List.countP_eq_length_filter]
 refine List.countP_mono_left λy hy hs=>?_
 obtain ⟨h1,h2⟩:=Im.1 hy
 obtain ⟨t,ht⟩:=Option.isSome_iff_exists.1 hs
 obtain ⟨t1,t2,t3,_⟩:=h.rt _ _ ht
 refine decide_eq_true ?_
 refine Classical.byContradiction λhn=>?_
 have hy':y.toNat<i:=by omega
 have:=t1.inj hi (by omega:y.toNat<n) (by rw [t3,t2 _ hy'])
 omega
def fact:Nat->Nat
 |0=>1
 |n+1=>(n+1)*fact n
theorem vn: ∀n,1<=fact n
 |0=>Nat.le_refl _
 |n+1=>by have:=vn n;simp only [fact];exact Nat.le_trans this (Nat.le_mul_of_pos_left _ (by omega))
theorem CL {a b:Nat} (h:a<=b):fact a<=fact b:=by
 induction h with
 |refl=>exact Nat.le_refl _
 |step _ ih=>simp only [fact];exact Nat.le_trans ih (Nat.le_mul_of_pos_left _ (by omega))
theorem JV {n:Nat} {s:Cz×Cz} (hc:eZ n n 0 s): ∀j,j<=n->Vd s.2 j*fact (n-j)<=fact n
 |0,_=>by simp [Vd]
 |j+1,hj=>by
  have ih:=JV hc j (by omega)
  have h1:=OX (by omega) (gx n 0 hc j (by omega) (by omega))
  have e:n-j=(n-(j+1))+1:=by omega
  simp only [Vd]
  rw [e] at ih h1
  simp only [fact] at ih
  rw [Nat.mul_assoc]
  exact Nat.le_trans (Nat.mul_le_mul_left _ (Nat.mul_le_mul_right _ h1)) ih
theorem DV {n:Nat} (h2:n<=20) {s:Cz×Cz} (hc:eZ n n 0 s) {j:Nat} (hj:j<=n):Vd s.2 j<=2432902008176640000:=by
 have h1:=JV hc j hj
 have h3:=vn (n-j)
 have h4:fact n<=2432902008176640000:=Nat.le_trans (CL h2) (by decide)
 have h5:Vd s.2 j*1<=Vd s.2 j*fact (n-j):=Nat.mul_le_mul_left _ h3
 omega
theorem PE (c:Int×List (List (Option (List Int)))×List (List (Option (List Int)))×Unit) (l:Int) (h:l=0/\ ∃N:Nat,(1<=N/\N<=20)/\c.1=N/\V N N 0 (c.2.1,c.2.2.1)):
  fnW Tv (look [(174,Kr),(82,Mk)]) dJ Try.f155 (c,l,()) (λ(z:Int)=>z=(Vd c.2.2.1 c.1.toNat:Int)):=by
 obtain ⟨rfl,N,⟨h1,h2⟩,hN,v⟩:=h
 obtain ⟨n,G,T,⟨⟩⟩:=c
 dsimp only at hN v⊢
 subst hN
 refine Eq.mp (QG ((N:Int),G,T,()) 0 _) ?_
 obtain ⟨v1,v2,v3,v4⟩:=v
 dsimp only at v1 v2⊢
 rw [Int.toNat_natCast]
 refine Aq N (λv=>v.2.1) (λj v=>v.1=(Vd T j:Int)) rfl rfl ?_
 rintro j ⟨o,i,⟨⟩⟩ K hj hi ho hK
 dsimp only at hi ho⊢
 subst hi ho
 refine Br.dec (λhl=>?_) λhl=>?_
 ·have hl:j<N:=by omega
  have hT:j<T.length:=by omega
  have Qm:=gx N 0 v3 j (by omega) (by omega)
  have hrl:=Qm.rl
  dsimp only at hrl
  rw [vB hT] at hrl
  refine ⟨_,Av hT,_,if_pos (by show (T[j]).length<=20;omega),_,if_pos trivial,?_⟩
  rw [List.drop_zero,List.take_length,Ao (by omega)]
  have hb:=DV h2 v3 (j:=j+1) (by omega)
  simp only [Vd] at hb
  rw [vB hT] at hb
  have e:(Vd T j:Int)*((Hx T[j]).length:Int)=((Vd T j*(Hx T[j]).length:Nat):Int):=by push_cast;rfl
  show K (IntKind.i64.wrap ((Vd T j:Int)*((Hx T[j]).length:Int)),_,())
  rw [e,Bt (by omega) (by omega)]
  refine hK hl _ rfl ?_
  simp only [Vd]
  rw [vB hT]
 ·have:j=N:=by omega
  subst this
  rfl
theorem wX:Sound Try.prog 155 dJ:=
 Sound.Di jX (Hj eG (Ah aB At)) mixed Try.func155 (by kernel_rfl) (by kernel_rfl) λx h=>PE x.1 x.2.1 h
theorem Cells.told {w:World} {S:Nat->Prop} {e:Ty} {cs:List Value} {xs:List e.den} (h:Cells w S (.slice e) cs xs): ∃o:Option (List e.den),Cells w S (.oslice e) cs o/\o.getD []=xs:=by
 simp only [Cells] at h
 obtain ⟨a,len,cap,rfl,h1,h2,h3⟩:=h
 cases a with
 |none=>
  rcases h3 with rfl|⟨g,o,h,_⟩
  ·refine ⟨none,?_,rfl⟩
   simp only [Cells]
   exact .inl ⟨trivial,cap,by rw [h1];rfl⟩
  ·cases h
 |some ad=>
  refine ⟨some xs,?_,rfl⟩
  simp only [Cells]
  exact .inr ⟨xs,ad,len,cap,rfl,rfl,h1,h2,h3.imp id λ⟨g,o,h,h4⟩=>⟨g,o,Option.some.inj h,h4⟩⟩
theorem xL {α β:Type} (Q:Nat->α->β->Prop): ∀(xs:List α),(∀i x,xs[i]?=some x-> ∃y,Q i x y)-> ∃ys:List β,ys.length=xs.length/\ ∀i x y,xs[i]?=some x->ys[i]?=some y->Q i x y:=by
 intro xs h
 refine ⟨List.ofFn λi:Fin xs.length=>Classical.choose (h i xs[i] (List.getElem?_eq_getElem i.2)),by simp,λi x y h1 h2=>?_⟩
 obtain ⟨hi,rfl⟩:=List.getElem?_eq_some_iff.1 h1
 obtain ⟨c9,rfl⟩:=List.getElem?_eq_some_iff.1 h2
 rw [List.getElem_ofFn]
 exact Classical.choose_spec (h i xs[i] (List.getElem?_eq_getElem hi))
theorem Bd.Abs {w:World} {S:Nat->Prop} {e:Ty} {v:Value} {xs:List (List e.den)} (h:Bd w S (.slice (.slice e)) v xs): ∃os:List (Option (List e.den)),Bd w S (.slice (.oslice e)) v os/\os.map (·.getD [])=xs:=by
 obtain ⟨cs,hc,rfl⟩:=h
 simp only [Cells] at hc
 obtain ⟨a,len,cap,rfl,h1,h2,h3⟩:=hc
 rcases h3 with rfl|⟨g,o,rfl,hg,hS,h4⟩
 ·refine ⟨[],⟨_,?_,rfl⟩,rfl⟩
  simp only [Cells]
  exact ⟨a,len,cap,rfl,h1,h2, .inl trivial⟩
 ·obtain ⟨os,e1,e2⟩:=xL (λi (x:List e.den) (y:Option (List e.den))=>y.getD []=x/\ ∃es:List Value,es.length=1/\(∀j u,es[j]?=some u->w.cell? ⟨g,o+i*1+j,none⟩=some u)/\Cells w S (.oslice e) es y) xs λi x hx=>by
   obtain ⟨es,k1,k2,k3⟩:=h4 i x hx
   obtain ⟨y,k4,k5⟩:=Cells.told (e:=e) (by simp only [Cells];exact k3)
   exact ⟨y,k5,es,k1,k2,k4⟩
  refine ⟨os,⟨_,?_,rfl⟩,?_⟩
  ·simp only [Cells]
   refine ⟨_,len,cap,rfl,by rw [h1,e1],h2, .inr ⟨g,o,rfl,hg,hS,λi y hy=>?_⟩⟩
   obtain ⟨hi,_⟩:=List.getElem?_eq_some_iff.1 hy
   obtain ⟨_,es,k1,k2,k3⟩:=e2 i _ y (List.getElem?_eq_getElem (by omega)) hy
   simp only [Cells] at k3
   exact ⟨es,k1,k2,k3⟩
  ·refine List.ext_getElem (by simp [e1]) λi g1 g2=>?_
   rw [List.getElem_map]
   exact (e2 i _ _ (List.getElem?_eq_getElem g2) (List.getElem?_eq_getElem (by omega))).1
theorem nT:Bz Try.prog 154 Rb:=by
 have h:=lr
 refine ⟨h.enter,λw S π us x r o g vs h1 hg h2 h3 hS h4 h5=>?_⟩
 obtain ⟨n,gens,⟨⟩⟩:=x
 match us,h2 with
 |u1::u2::us,h2=>
  obtain ⟨h6,⟨h7,h8⟩,h9⟩:=h2
  obtain ⟨os,kv,ee⟩:=Bd.Abs (e:=tI) h8
  have ee:os.map (·.getD [])=(gens:List (List Int)):=ee
  have fC:(1<=n/\n<=20)/\List.length gens<=4294967296/\ ∀g∈(gens:List (List Int)),Pm n.toNat g:=Classical.byContradiction λhn=>by
   have:Rb.fn (n,gens,())=none:=if_neg hn
   rw [this] at h5;cases h5
  have hos:os=gens.map some:=by
   rw [<-ee,List.map_map]
   refine (List.map_id os).symm.trans (List.map_congr_left λx hx=>?_)
   cases x with
   |some y=>rfl
   |none=>
    have:=fC.2.2 [] (by rw [<-ee];exact List.mem_map.2 ⟨none,hx,rfl⟩)
    have h1:=this.n1
    have h2:=this.1
    simp at h2
    omega
  have hv:Rb.fn (n,gens,())=some ((n,(Tk n gens).1,(Tk n gens).2,()),()):=if_pos fC
  rw [hv] at h5
  have h5:=Option.some.inj h5
  refine h.calls w S π (u1::u2::us) (n,os,()) r o g vs h1 hg ⟨h6,⟨h7,kv⟩,h9⟩ h3 hS h4 ?_
  refine (if_pos ⟨fC.1,by rw [hos,List.length_map];exact fC.2.1,λy hy=>?pp⟩).trans (congrArg some ?qq)
  case pp=>
   replace hy:y∈os:=hy
   rw [hos] at hy
   obtain ⟨g,hg,rfl⟩:=List.mem_map.1 hy
   exact ⟨g,rfl,fC.2.2 g hg⟩
  case qq=>subst hos;exact h5
theorem gw {p:PP} (hv:Valid p):(1<=p.1/\p.1<=20)/\List.length p.2.2.1<=4294967296/\ ∀g∈p.2.2.1,Pm p.1.toNat g:=
 ⟨hv.n,by have:=hv.gK;omega,λg hg=>⟨by have:=hv.len g hg;omega,fQ (hv.perm g hg)⟩⟩
theorem nz {n:Nat} {g:List (List Int)} (h: ∀x∈g,Pm n x):PmL n (g.map some):= λo ho=>by
 obtain ⟨x,hx,rfl⟩:=List.mem_map.1 ho
 exact ⟨x,rfl,h x hx⟩
theorem rK {p:PP} (hv:Valid p):V p.1.toNat p.1.toNat 0 (Tk p.1 p.2.2.1):=by
 have:=hv.n
 exact uz (by omega) (by omega) (nz (gw hv).2.2)
theorem sQ (p:PP) (h:Cp p):fnW Da (look [(130,Eo),(154,Rb),(155,dJ)]) Lx Try.f126 (p,()) (λ(z:Int)=>z=Oy p):=by
 refine Eq.mp (ue p _) ⟨_,if_pos h,?_⟩
 show Br (!Az p) _ _
 unfold Oy
 cases hv:Az p with
 |false=>exact Br.of (λ_=>rfl) λhh=>by cases hh
 |true=>
  refine Br.of (λhh=>by cases hh) λ_=>?_
  have hV:=valid hv
  have hn:=hV.n
  refine ⟨_,if_pos (gw hV),_,if_pos ⟨rfl,p.1.toNat,⟨by omega,by omega⟩,(Int.toNat_of_nonneg (by omega:(0:Int)<=p.1)).symm,?vv⟩,?_⟩
  case vv=>
   simp only [List.drop_zero,List.take_length]
   exact rK hV
  simp only [List.drop_zero,List.take_length]
  exact (if_pos trivial).symm
theorem jQ:Sound Try.prog 126 Lx:=
 Sound.Di Cb (Ah Yy (Hj nT (Ah wX At))) mixed Try.func126 (by kernel_rfl) (by kernel_rfl) λx h=>sQ x.1 h
end Go.Proofs.Ytjbdmibbbpdnnaa

namespace Go.Proofs.Ytjbdmibbbpdnnaa
open Go.RowKit
theorem cv {α:Type} [DecidableEq α]: ∀ {l1 l2:List α},l1.Nodup->(∀x∈l1,x∈l2)->l1.length<=l2.length
 | [],_,_,_=>Nat.zero_le _
 |a::l,l2,hn,hs=>by
  obtain ⟨h1,h2⟩:=List.nodup_cons.1 hn
  have ha:=hs a (by simp)
  have:=cv (l1:=l) (l2:=l2.erase a) h2 λy hy=>by
   have hya:y≠a:= λe'=>h1 (by rw [<-e'];exact hy)
   exact (List.mem_erase_of_ne hya).2 (hs y (by simp [hy]))
  rw [List.length_erase_of_mem ha] at this
  have:=List.length_pos_of_mem ha
  simp only [List.length_cons]
  omega
def jq (n:Nat) (T:Cz):Nat->Nat->List (List Int)
 |0,_=> [upto n]
 |k+1,l=>(Hx (T.getD l [])).flatMap λy=>(jq n T k (l+1)).map λq=>Aa q (((T.getD l []).getD y.toNat none).getD [])
def qN (T:Cz):Nat->Nat->Nat
 |0,_=>1
 |k+1,l=>(Hx (T.getD l [])).length*qN T k (l+1)
theorem we (n:Nat) (T:Cz): ∀k l,(jq n T k l).length=qN T k l
 |0,_=>rfl
 |k+1,l=>by
  simp only [jq,qN,List.length_flatMap,List.length_map,we n T k (l+1)]
  generalize Hx (T.getD l [])=o
  induction o with
  |nil=>simp
  |cons a o ih=>simp only [List.map_cons,List.sum_cons,ih,List.length_cons,Nat.succ_mul];omega
theorem qG (T:Cz): ∀k j,Vd T (j+k)=Vd T j*qN T k j
 |0,j=>by simp [qN]
 |k+1,j=>by
  have:=qG T k (j+1)
  rw [show j+(k+1)=j+1+k by omega,this]
  simp only [Vd,qN]
  rw [Nat.mul_assoc]
theorem wA (n:Nat) (T:Cz):(jq n T n 0).length=Vd T n:=by
 rw [we,show Vd T n=Vd T (0+n) by rw [Nat.zero_add],qG]
 simp [Vd]
theorem nc {n:Nat} (h1:1<=n) (h2:n<=20) {s:Cz×Cz} : ∀(k l:Nat),l+k=n->eZ n k l s-> ∀p,p∈jq n s.2 k l↔Pm n p/\Fx l p/\Ix s.2 k l p=true
 |0,l,hk,hc,p=>by
  have hl:l=n:=by omega
  subst hl
  simp only [jq,List.mem_singleton]
  exact ⟨λe=>by subst e;exact ⟨Pm.id h1 h2,λi hi=>dV hi,rfl⟩,λh=>h.2.1.all h.1⟩
 |k+1,l,hk,hc,p=>by
  obtain ⟨c1,c2,c3⟩:=hc
  have ih:=nc h1 h2 k (l+1) (by omega) c1
  have aR:l<n:=by omega
  simp only [jq,List.mem_flatMap,List.mem_map]
  constructor
  ·rintro ⟨y,hy,q,hq,rfl⟩
   obtain ⟨yn,rfl,SC⟩:=Mz.1 hy
   obtain ⟨t,ht⟩:=Option.ne_none_iff_exists'.1 SC
   obtain ⟨t1,t2,t3,t4⟩:=c2.rt _ _ ht
   obtain ⟨q1,q2,q3⟩:=(ih q).1 hq
   rw [Int.toNat_natCast,ht,Option.getD_some]
   have hap:ap (Aa q t) l=yn:=by rw [Fq q1 t1 aR,q2 l (by omega),t3]
   refine ⟨q1.comp t1,λi hi=>by rw [Fq q1 t1 (by omega),q2 i (by omega),t2 i hi],?_⟩
   simp only [Ix]
   rw [show (Cx (Aa q t) (l:Int)).toNat=ap (Aa q t) l from rfl,hap,ht]
   show Ix s.2 k (l+1) (Aa (Aa q t) (Al t))=true
   rw [Dz q1 t1 t1.inv,bK t1,comp_id q1]
   exact q3
  ·rintro ⟨p1,p2,p3⟩
   simp only [Ix] at p3
   rw [show (Cx p (l:Int)).toNat=ap p l from rfl] at p3
   split at p3
   ·cases p3
   ·rename_i t ht
    obtain ⟨t1,t2,t3,t4⟩:=c2.rt _ _ ht
    refine ⟨(ap p l:Int),Mz.2 ⟨ap p l,rfl,by rw [ht];simp⟩,Aa p (Al t),(ih _).2 ⟨p1.comp t1.inv,Fx.div p1 t1 p2 t2 aR t3,p3⟩,?_⟩
    rw [Int.toNat_natCast,ht,Option.getD_some,Dz p1 t1.inv t1,Uy t1,comp_id p1]
theorem nd {n:Nat} (h1:1<=n) (h2:n<=20) {s:Cz×Cz} : ∀(k l:Nat),l+k=n->eZ n k l s->(jq n s.2 k l).Nodup
 |0,l,hk,hc=>by simp [jq]
 |k+1,l,hk,hc=>by
  obtain ⟨c1,c2,c3⟩:=hc
  have ih:=nd h1 h2 k (l+1) (by omega) c1
  have hm:=nc h1 h2 k (l+1) (by omega) c1
  have aR:l<n:=by omega
  have rep: ∀y∈Hx (s.2.getD l []),∃(yn:Nat) (t:List Int),y=yn/\((s.2.getD l []).getD y.toNat none).getD []=t/\Pm n t/\ap t l=yn:= λy hy=>by
   obtain ⟨yn,rfl,SC⟩:=Mz.1 hy
   obtain ⟨t,ht⟩:=Option.ne_none_iff_exists'.1 SC
   obtain ⟨t1,t2,t3,t4⟩:=c2.rt _ _ ht
   exact ⟨yn,t,rfl,by rw [Int.toNat_natCast,ht];rfl,t1,t3⟩
  simp only [jq]
  refine List.pairwise_flatMap.2 ⟨λy hy=>?_,?_⟩
  ·obtain ⟨yn,t,rfl,e,t1,t3⟩:=rep y hy
   rw [e]
   refine List.pairwise_map.2 (List.Pairwise.imp_of_mem ?_ ih)
   intro a b ha hb El he
   have ha:=((hm a).1 ha).1
   have hb:=((hm b).1 hb).1
   have h3:=congrArg (λz=>Aa z (Al t)) he
   simp only [Dz ha t1 t1.inv,Dz hb t1 t1.inv,bK t1,comp_id ha,comp_id hb] at h3
   exact El h3
  ·refine List.Pairwise.imp_of_mem ?_ ((oq _).filter _)
   intro y z hy hz El a ha b hb he
   obtain ⟨yn,t,rfl,e,t1,t3⟩:=rep y hy
   obtain ⟨zn,u,rfl,e',u1,u3⟩:=rep z hz
   rw [e] at ha
   rw [e'] at hb
   obtain ⟨q,hq,rfl⟩:=List.mem_map.1 ha
   obtain ⟨q',ek,rfl⟩:=List.mem_map.1 hb
   obtain ⟨a1,a2,_⟩:=(hm q).1 hq
   obtain ⟨b1,b2,_⟩:=(hm q').1 ek
   have h3:=congrArg (λz=>ap z l) he
   simp only [Fq a1 t1 aR,Fq b1 u1 aR,a2 l (by omega),b2 l (by omega),t3,u3] at h3
   exact El (by rw [h3])
theorem iY {g:List (List Int)} (Q:List Int->Prop) {x:List Int} {d:Int} : ∀(ls:List Int) (L:List (List Int)) (D:List Int),(∀l∈ls,Q (Aa x (Af g l)))->(∀y∈L,Q y)->
  (∀y∈(Et g x d ls L D).1,Q y)/\(∀y∈L,y∈(Et g x d ls L D).1)/\((Et g x d ls L D).2.2=true-> ∀l∈ls,Aa x (Af g l)∈(Et g x d ls L D).1)/\
   ((Et g x d ls L D).2.2=false->(Et g x d ls L D).1.length=3000/\ ∃z,Q z/\z∉(Et g x d ls L D).1)
 | [],L,D,_,h=>⟨h,λ_ h=>h,(λ_ l hl=>by cases hl),(λe=>by cases e)⟩
 |l::ls,L,D,hq,h=>by
  have ek: ∀l∈ls,Q (Aa x (Af g l)):= λl' h'=>hq l' (List.mem_cons_of_mem _ h')
  simp only [Et]
  split
  ·rename_i hm
   obtain ⟨a1,a2,a3,a4⟩:=iY Q (d:=d) ls L D ek h
   refine ⟨a1,a2,λe l' Hg=>?_,a4⟩
   rcases List.mem_cons.1 Hg with rfl|Hg
   ·exact a2 _ hm
   ·exact a3 e l' Hg
  ·rename_i hn
   split
   ·rename_i hf
    exact ⟨h,λ_ h=>h,(λe=>by cases e),λ_=>⟨hf,_,hq l (by simp),hn⟩⟩
   ·obtain ⟨a1,a2,a3,a4⟩:=iY Q (d:=d) ls (L++ [Aa x (Af g l)]) (D++ [d+1]) ek λy hy=>by
     rcases List.mem_append.1 hy with hy|hy
     ·exact h y hy
     ·rw [List.mem_singleton.1 hy];exact hq l (by simp)
    refine ⟨a1,λy hy=>a2 y (List.mem_append_left _ hy),λe l' Hg=>?_,a4⟩
    rcases List.mem_cons.1 Hg with rfl|Hg
    ·exact a2 _ (List.mem_append_right _ (by simp))
    ·exact a3 e l' Hg
theorem pV {p:PP} (hV:Valid p) {m:Nat} {ls:List Int} (hl: ∀l∈ls,Ft (List.length p.2.2.1) l) (Q:List Int->Prop) (hQ: ∀x,Q x-> ∀l∈ls,Q (Aa x (Af p.2.2.1 l))):
  ∀(f k:Nat) (L:List (List Int)) (D:List Int),3001<=f+k->k<=L.length->Rr p m L D->(∀y∈L,Q y)->(∀(j:Nat) (h:j<L.length),j<k-> ∀l∈ls,Aa L[j] (Af p.2.2.1 l)∈L)->
  (∀y∈(Gl p.2.2.1 ls f k L D).1,Q y)/\((Gl p.2.2.1 ls f k L D).2.2=true-> ∀x∈(Gl p.2.2.1 ls f k L D).1,∀l∈ls,Aa x (Af p.2.2.1 l)∈(Gl p.2.2.1 ls f k L D).1)/\
   ((Gl p.2.2.1 ls f k L D).2.2=false->(Gl p.2.2.1 ls f k L D).1.length=3000/\ ∃z,Q z/\z∉(Gl p.2.2.1 ls f k L D).1)
 |0,k,L,D,hf,RJ,hb,hq,hc=>by
  have:=hb.ok.gK
  omega
 |f+1,k,L,D,hf,RJ,hb,hq,hc=>by
  simp only [Gl]
  split
  ·rename_i hk
   have CT:k<D.length:=by rw [hb.len];exact hk
   have hd:=hb.dep k CT
   have e:D.getD k 0=D[k]:=by rw [List.getD_eq_getElem?_getD,List.getElem?_eq_getElem CT];rfl
   rw [Oo hk,e]
   obtain ⟨k1,⟨A,k2⟩,_⟩:=gr hV (hb.row _ (List.getElem_mem hk)) (hb.ok.len _ (List.getElem_mem hk)) (d:=D[k]) ls L D hl hb ⟨by omega,by omega⟩
   obtain ⟨a1,a2,a3,a4⟩:=iY (g:=p.2.2.1) Q (x:=L[k]) (d:=D[k]) ls L D (hQ _ (hq _ (List.getElem_mem hk))) hq
   split
   ·rename_i L' D' he
    rw [he] at k1 k2 a1 a2 a3 a4
    have k2:L'=L++A:=k2
    refine pV hV hl Q hQ f (k+1) L' D' (by omega) (by rw [k2,List.length_append];omega) k1 a1 λj hj hjk l Hg=>?_
    by_cases e':j<k
    ·have e2:L'[j]=L[j]:=by simp only [k2];rw [List.getElem_append_left (by omega)]
     rw [e2];exact a2 _ (hc j (by omega) e' l Hg)
    ·have:j=k:=by omega
     subst this
     have e2:L'[j]=L[j]:=by simp only [k2];rw [List.getElem_append_left (by omega)]
     rw [e2];exact a3 rfl l Hg
   ·rename_i L' D' he
    rw [he] at a1 a4
    exact ⟨a1,(λe=>by cases e),λ_=>a4 rfl⟩
  ·rename_i hk
   refine ⟨hq,λ_ x hx l Hg=>?_,λe=>by cases e⟩
   obtain ⟨j,hj,rfl⟩:=List.mem_iff_getElem.1 hx
   have hj:j<L.length:=hj
   exact hc j hj (by omega) l Hg
theorem ND {p:PP} (hv:Az p=true) {s:List Int} (hs:s.length<=20) (hr: ∀y∈s,0<=y/\y<p.1) (Q:List Int->Prop) (hQs:Q s) (hQ: ∀x,Q x-> ∀l∈Ag p.2.2.1.length,Q (Aa x (Af p.2.2.1 l))):
  (∀y∈(Fg p.2.2.1 s).1,Q y)/\((Fg p.2.2.1 s).2.2=true-> ∀x∈(Fg p.2.2.1 s).1,∀l∈Ag p.2.2.1.length,Aa x (Af p.2.2.1 l)∈(Fg p.2.2.1 s).1)/\
   ((Fg p.2.2.1 s).2.2=false->(Fg p.2.2.1 s).1.length=3000/\ ∃z,Q z/\z∉(Fg p.2.2.1 s).1):=
 pV (valid hv) (λ_ hl=>Il hl) Q hQ 3001 0 [s] [0] (by omega) (Nat.zero_le _) (dp hs hr) (λy hy=>by rw [List.mem_singleton.1 hy];exact hQs) λj _ hj=>absurd hj (Nat.not_lt_zero _)
theorem Yw {g:List (List Int)} {x:List Int} :some x∈g.map some↔x∈g:=by simp
theorem yI {n:Nat} {g:List (List Int)} {x:List Int} (h:Gn n (g.map some) x) {l:Int} (hl:l∈Ag g.length):Gn n (g.map some) (Aa x (Af g l)):=by
 obtain ⟨k,hk,rfl|rfl⟩:=Ox (Il hl)
 ·rw [Nl hk];exact .mul h (Yw.2 (List.getElem_mem hk))
 ·rw [Nk hk];exact .inv h (Yw.2 (List.getElem_mem hk))
theorem We {n k:Nat} (hk:k<n):(k:Int)+1∈Ag n/\ -((k:Int)+1)∈Ag n:=by
 unfold Ag
 exact ⟨List.mem_flatMap.2 ⟨k,List.mem_range.2 hk,by simp⟩,List.mem_flatMap.2 ⟨k,List.mem_range.2 hk,by simp⟩⟩
theorem yj {n:Nat} {g:List (List Int)} {L:List (List Int)} (h0:upto n∈L) (hc: ∀x∈L,∀l∈Ag g.length,Aa x (Af g l)∈L) {p:List Int} (hp:Gn n (g.map some) p):p∈L:=by
 induction hp with
 |id=>exact h0
 |mul _ hg ih=>
  obtain ⟨k,hk,rfl⟩:=List.mem_iff_getElem.1 (Yw.1 hg)
  have:=hc _ ih _ (We hk).1
  rwa [Nl hk] at this
 |inv _ hg ih=>
  obtain ⟨k,hk,rfl⟩:=List.mem_iff_getElem.1 (Yw.1 hg)
  have:=hc _ ih _ (We hk).2
  rwa [Nk hk] at this
structure Reach (p:PP) (L:List (List Int)) (D:List Int) (whole:Bool):Prop where
 ok:Rr p p.1.toNat L D
 nodup:L.Nodup
 first: ∃A,L=upto p.1.toNat::A
 gen: ∀x∈L,Gn p.1.toNat (p.2.2.1.map some) x
 all:whole=true-> ∀x,Gn p.1.toNat (p.2.2.1.map some) x->x∈L
 big:whole=false->L.length=3000/\ ∃z,Gn p.1.toNat (p.2.2.1.map some) z/\z∉L
theorem Db.nodup {m:Nat} {L:List (List Int)} {Hv:List Int} (h:Db m L Hv):L.Nodup:=
 List.pairwise_iff_getElem.2 λi j hi hj ei e=>by have:=h.inj hi hj e;omega
theorem Vf {p:PP} (hv:Az p=true):Reach p (Fg p.2.2.1 (upto p.1.toNat)).1 (Fg p.2.2.1 (upto p.1.toNat)).2.1 (Fg p.2.2.1 (upto p.1.toNat)).2.2:=by
 have hV:=valid hv
 have hn:=hV.n
 have hl:(upto p.1.toNat).length=p.1.toNat:=Pr _
 have hr: ∀y∈upto p.1.toNat,0<=y/\y<p.1:= λy hy=>by have:=Im.1 hy;omega
 obtain ⟨b1,b2⟩:=HH hv (by omega) hr
 rw [hl] at b1
 obtain ⟨a1,a2,a3⟩:=ND hv (by omega) hr (λx=>Gn p.1.toNat (p.2.2.1.map some) x) .id λx hx l hl=>yI hx hl
 exact ⟨b1,b1.ok.nodup,b2,a1,λhw x hx=>yj (by obtain ⟨A,e⟩:=b2;rw [e];simp) (a2 hw) hx,a3⟩
theorem Wg {p:PP} (hV:Valid p) {x:List Int} :x∈jq p.1.toNat (Tk p.1 p.2.2.1).2 p.1.toNat 0↔Gn p.1.toNat (p.2.2.1.map some) x:=by
 have hn:=hV.n
 have hg:=nz (gw hV).2.2
 have hS:zW p.1.toNat λg=>some g∈p.2.2.1.map some:=⟨⟨by omega,by omega⟩,λg Zd=>by obtain ⟨g',e,h⟩:=hg _ Zd;cases e;exact h⟩
 refine (nc (by omega) (by omega) _ 0 (by omega) (rK hV).2.2.1 x).trans ⟨λh=>(mD (by omega) (by omega) hg h.1).1 h.2.2,λh=>?_⟩
 have hp:=Xl.pm hS h
 exact ⟨hp,λi hi=>absurd hi (Nat.not_lt_zero _),(mD (by omega) (by omega) hg hp).2 h⟩
theorem p7 {p:PP} (hV:Valid p):(jq p.1.toNat (Tk p.1 p.2.2.1).2 p.1.toNat 0).Nodup:=by
 have hn:=hV.n
 exact nd (by omega) (by omega) _ 0 (by omega) (rK hV).2.2.1
theorem count_eq {p:PP} (hv:Az p=true):Oy p=((jq p.1.toNat (Tk p.1 p.2.2.1).2 p.1.toNat 0).length:Int):=by
 unfold Oy
 rw [if_pos hv,wA]
theorem uW {p:PP} (hv:Az p=true):(Fg p.2.2.1 (upto p.1.toNat)).2.2=decide (1<=Oy p/\Oy p<=3000):=by
 have hV:=valid hv
 have h:=Vf hv
 rw [count_eq hv]
 have oT:=p7 hV
 have h1:=cv h.nodup λx hx=>(Wg hV).2 (h.gen x hx)
 obtain ⟨A,hA⟩:=h.first
 have jh:1<=(Fg p.2.2.1 (upto p.1.toNat)).1.length:=by rw [hA];simp
 cases hw:(Fg p.2.2.1 (upto p.1.toNat)).2.2 with
 |true=>
  have h2:=cv oT λx hx=>h.all hw x ((Wg hV).1 hx)
  have h3:=h.ok.ok.gK
  exact (decide_eq_true ⟨by omega,by omega⟩).symm
 |false=>
  obtain ⟨h2,z,h3,h4⟩:=h.big hw
  have h5:=cv (l1:=z::(Fg p.2.2.1 (upto p.1.toNat)).1) (List.nodup_cons.2 ⟨h4,h.nodup⟩) λx hx=>by
   rcases List.mem_cons.1 hx with rfl|hx
   ·exact (Wg hV).2 h3
   ·exact (Wg hV).2 (h.gen x hx)
  simp only [List.length_cons] at h5
  exact (decide_eq_false (by omega)).symm
end Go.Proofs.Ytjbdmibbbpdnnaa

namespace Go.Proofs.Ytjbdmibbbpdnnaa
open Go.RowKit
def sD (g:List (List Int)) (s:List Int):List (List Int):=(Ag g.length).map λl=>Aa s (Af g l)
noncomputable abbrev dI:Spec:=Di (.pair Ck (.pair tL .unit)) iS false true (λx=>Az x.1=true/\List.length x.2.1<=20/\ ∀y∈x.2.1,0<=y/\y<x.1.1) (λx=>sD x.1.2.2.1 x.2.1)
abbrev EX:Type:=List (List Int)×List Int×List Int×List Int
def Vq (g:List (List Int)) (k:Int) (x:List Int) (d:Int):List Int->EX->List Int->EX×List Int
 | [],s,row=>(s,row)
 |l::ls,s,row=>if Aa x (Af g l)∈s.1 then Vq g k x d ls s (row++ [(s.1.idxOf (Aa x (Af g l)):Int)])
  else Vq g k x d ls (s.1++ [Aa x (Af g l)],s.2.1++ [d+1],s.2.2.1++ [k],s.2.2.2++ [l]) (row++ [(s.1.length:Int)])
def Ww (g:List (List Int)) (ls:List Int):Nat->Nat->EX->List (List Int)->EX×List (List Int)
 |0,_,s,N=>(s,N)
 |f+1,k,s,N=>if k<s.1.length then Ww g ls f (k+1) (Vq g (k:Int) (s.1.getD k []) (s.2.1.getD k 0) ls s []).1 (N++ [(Vq g (k:Int) (s.1.getD k []) (s.2.1.getD k 0) ls s []).2]) else (s,N)
def ck (key:ByteArray):List (List Int)->Nat->Option Int
 | [],_=>none
 |x::r,i=>if Mc x=key then some (i:Int) else ck key r (i+1)
def Ro (L:List (List Int)):ByteArray->Option Int:= λkey=>ck key L 0
def YO (p:PP) (r:EX×List (List Int)):eL.den:=(p,r.1.1,r.1.2.1,Ro r.1.1,r.1.2.2.1,r.1.2.2.2,r.2,())
def Gt (p:PP):eL.den:=YO p (Ww p.2.2.1 (Ag p.2.2.1.length) 3001 0 ([upto p.1.toNat],[0],[0],[0]) [])
noncomputable def Cs (p:PP):Bool:=Az p&&(Fg p.2.2.1 (upto p.1.toNat)).2.2
noncomputable abbrev Kq:Spec:=Di (.pair Ck .unit) (.pair (.optr eL) (.pair .bool .unit)) true false (λx=>Cp x.1) (λx=>if Cs x.1=true then (some (Gt x.1),true,()) else (none,false,()))
abbrev xa:Type:=Int×Int×ByteArray×List (List Int)×List (List Int)×PUnit
theorem QF (p:Int×ByteArray×List (List Int)×Unit) (s:List Int) (P:List (List Int)->Prop):(∃(y3:List Int),Ic.fn ((↑p.2.2.1.length:Int),())=some y3/\0=0/\0=([]:List Int).length/\Bs (λ(v4:xa) (k5:xa->Prop)=>Br (decide (v4.1<(↑y3.length:Int))) (∃(y6:Int),idx y3 v4.1=some y6/\ ∃(y7:List Int),Ra.fn (v4.2.2.2.1,y6,())=some y7/\ ∃(y8:List Int),Ub.fn (s,y7,())=some y8/\0=0/\v4.2.2.2.2.1.length=v4.2.2.2.2.1.length/\v4.2.2.2.2.1.length+(List.take 1 (List.drop 0 [y8])).length<=Bj/\0=0/\(v4.2.2.2.2.1++List.take 1 (List.drop 0 [y8])).length=(v4.2.2.2.2.1++List.take 1 (List.drop 0 [y8])).length/\k5 (IntKind.i64.wrap (v4.1+(1:Int)),v4.2.1,v4.2.2.1,v4.2.2.2.1,v4.2.2.2.2.1++List.take 1 (List.drop 0 [y8]),())) (P (List.take v4.2.2.2.2.1.length (List.drop 0 v4.2.2.2.2.1)))) ((0:Int),p.1,p.2.1,p.2.2.1,[],PUnit.unit))=fnW Da (look [(117,Ic),(157,Ra),(156,Ub)]) dI Try.f129 (p,s,()) P:=by kernel_rfl
theorem PD (p:PP) (s:List Int) (h:Az p=true/\s.length<=20/\ ∀y∈s,0<=y/\y<p.1):fnW Da (look [(117,Ic),(157,Ra),(156,Ub)]) dI Try.f129 (p,s,()) (λ(z:List (List Int))=>z=sD p.2.2.1 s):=by
 obtain ⟨hv,hs,hr⟩:=h
 have hV:=valid hv
 have hf:=hV.gK
 refine Eq.mp (QF p s _) ⟨Ag p.2.2.1.length,if_pos ⟨Int.natCast_nonneg _,by show ((p.2.2.1.length:Nat):Int)<=8;omega⟩,rfl,rfl,?_⟩
 have hL:=Kn p.2.2.1.length
 refine Aq (Ag p.2.2.1.length).length (λv=>v.1) (λj v=>v=((j:Int),p.1,p.2.1,p.2.2.1,((Ag p.2.2.1.length).take j).map (λl=>Aa s (Af p.2.2.1 l)),())) rfl (by simp) ?_
 rintro j v K hj hi rfl hK
 dsimp only
 refine Br.dec (λhl=>?_) λhl=>?_
 ·have hl:j<(Ag p.2.2.1.length).length:=by omega
  have XM:=Il (List.getElem_mem hl)
  obtain ⟨h1,h2⟩:=jm hV XM
  refine ⟨_,Av hl,_,if_pos ⟨XM,hf.2,hV.perm⟩,_,if_pos ⟨hs,λy hy=>by have:=hr y hy;show 0<=y/\y<((Af p.2.2.1 (Ag p.2.2.1.length)[j]).length:Int);omega⟩,rfl,rfl,?_,rfl,rfl,?_⟩
  ·show (((Ag p.2.2.1.length).take j).map _).length+1<=4294967296
   rw [List.length_map,List.length_take]
   omega
  ·rw [Ao (by omega)]
   refine hK hl _ rfl ?_
   have e:(Ag p.2.2.1.length).take (j+1)=(Ag p.2.2.1.length).take j++ [(Ag p.2.2.1.length)[j]]:=by
    rw [List.take_add_one,List.getElem?_eq_getElem hl,Option.toList_some]
   rw [e,List.map_append]
   rfl
 ·have:j=(Ag p.2.2.1.length).length:=by omega
  subst this
  rw [List.drop_zero,List.take_length,List.take_length]
  rfl
theorem wW:Sound Try.prog 129 dI:=
 Sound.Di Cb (Ah Xg (Ah nS (Ah Pn At))) mixed Try.func129 (by kernel_rfl) (by kernel_rfl) λx h=>PD x.1 x.2.1 h
end Go.Proofs.Ytjbdmibbbpdnnaa

namespace Go.Proofs.Ytjbdmibbbpdnnaa
open Go.RowKit
theorem Fa {α:Type} {xs ys:List α} {i:Nat} {d:α} (h:i<xs.length):(xs++ys).getD i d=xs.getD i d:=by
 rw [List.getD_eq_getElem?_getD,List.getD_eq_getElem?_getD,List.getElem?_append_left h]
theorem du {α:Type} {xs:List α} {x d:α} :(xs++ [x]).getD xs.length d=x:=by
 rw [List.getD_eq_getElem?_getD,List.getElem?_append_right (Nat.le_refl _),Nat.sub_self];rfl
theorem Dk {α:Type} {xs:List α} {i:Nat} {d:α} (h:i<xs.length):xs.getD i d=xs[i]:=by
 rw [List.getD_eq_getElem?_getD,List.getElem?_eq_getElem h];rfl
structure Lv (g:List (List Int)) (ls:List Int) (k:Nat) (L:List (List Int)) (D:List Int):Prop where
 len:D.length=L.length
 pos:0<L.length
 mono: ∀i j,i<=j->j<L.length->D.getD i 0<=D.getD j 0
 DO:k<L.length-> ∀j,j<L.length->D.getD j 0<=D.getD k 0+1
 par: ∀j,0<j->j<L.length-> ∃i l,i<j/\l∈ls/\L.getD j []=Aa (L.getD i []) (Af g l)/\D.getD j 0=D.getD i 0+1
 zero:D.getD 0 0=0
theorem Lv.add {g:List (List Int)} {ls:List Int} {k:Nat} {L:List (List Int)} {D:List Int} (h:Lv g ls k L D) (hk:k<L.length) {l:Int} (hl:l∈ls):
  Lv g ls k (L++ [Aa (L.getD k []) (Af g l)]) (D++ [D.getD k 0+1]):=by
 have hlen:=h.len
 have hD: ∀i,i<L.length->(D++ [D.getD k 0+1]).getD i 0=D.getD i 0:= λi hi=>Fa (by omega)
 have QV:(D++ [D.getD k 0+1]).getD L.length 0=D.getD k 0+1:=by rw [<-hlen];exact du
 refine ⟨by simp [hlen],by simp,λi j ei hj=>?_,λ_ j hj=>?_,λj h0 hj=>?_,?_⟩
 ·rw [List.length_append,List.length_singleton] at hj
  by_cases e:j=L.length
  ·subst e
   rw [QV]
   by_cases e':i=L.length
   ·subst e';rw [QV];exact Int.le_refl _
   ·rw [hD i (by omega)]
    exact h.DO hk i (by omega)
  ·rw [hD i (by omega),hD j (by omega)]
   exact h.mono i j ei (by omega)
 ·rw [List.length_append,List.length_singleton] at hj
  rw [hD k hk]
  by_cases e:j=L.length
  ·subst e;rw [QV];exact Int.le_refl _
  ·rw [hD j (by omega)];exact h.DO hk j (by omega)
 ·rw [List.length_append,List.length_singleton] at hj
  by_cases e:j=L.length
  ·subst e
   exact ⟨k,l,hk,hl,by rw [du,Fa hk],by rw [QV,hD k hk]⟩
  ·obtain ⟨i,l',h1,h2,h3,h4⟩:=h.par j h0 (by omega)
   exact ⟨i,l',h1,h2,by rw [Fa (by omega),Fa (by omega)];exact h3,by rw [hD j (by omega),hD i (by omega)];exact h4⟩
 ·rw [hD 0 h.pos];exact h.zero
theorem mb {g:List (List Int)} {ls:List Int} {k:Nat} : ∀(BK:List Int) (L:List (List Int)) (D:List Int),(∀l∈BK,l∈ls)->Lv g ls k L D->k<L.length-> ∀ {x:List Int} {d:Int},x=L.getD k []->d=D.getD k 0->
  Lv g ls k (Et g x d BK L D).1 (Et g x d BK L D).2.1/\(∃A,(Et g x d BK L D).1=L++A)/\(∃A,(Et g x d BK L D).2.1=D++A)/\
  ((Et g x d BK L D).2.2=true-> ∀l∈BK,∃j,j<(Et g x d BK L D).1.length/\(Et g x d BK L D).1.getD j []=Aa x (Af g l)/\(Et g x d BK L D).2.1.getD j 0<=d+1)
 | [],L,D,_,h,_,x,d,_,_=>⟨h,⟨[],by simp [Et]⟩,⟨[],by simp [Et]⟩,λ_ l hl=>by cases hl⟩
 |l::BK,L,D,hs,h,hk,x,d,hx,hd=>by
  have um: ∀l∈BK,l∈ls:= λl' h'=>hs l' (List.mem_cons_of_mem _ h')
  have hlen:=h.len
  simp only [Et]
  split
  ·rename_i hm
   obtain ⟨a1,⟨A,a2⟩,⟨A',a3⟩,a4⟩:=mb BK L D um h hk hx hd
   refine ⟨a1,⟨A,a2⟩,⟨A',a3⟩,λe l' Hg=>?_⟩
   rcases List.mem_cons.1 Hg with rfl|Hg
   ·obtain ⟨j,hj,hjx⟩:=List.mem_iff_getElem.1 hm
    refine ⟨j,by rw [a2,List.length_append];omega,by rw [a2,Fa hj,Dk hj];exact hjx,?_⟩
    rw [a3,Fa (by omega),hd]
    exact h.DO hk j hj
   ·exact a4 e l' Hg
  ·split
   ·exact ⟨h,⟨[],by simp⟩,⟨[],by simp⟩,λe=>by cases e⟩
   ·have HX:=h.add hk (hs l (by simp))
    rw [<-hx,<-hd] at HX
    obtain ⟨a1,⟨A,a2⟩,⟨A',a3⟩,a4⟩:=mb BK (L++ [Aa x (Af g l)]) (D++ [d+1]) um HX (by rw [List.length_append];omega) (x:=x) (d:=d) (by rw [Fa hk];exact hx) (by rw [Fa (by omega)];exact hd)
    refine ⟨a1,⟨_::A,by rw [a2,List.append_assoc];rfl⟩,⟨_::A',by rw [a3,List.append_assoc];rfl⟩,λe l' Hg=>?_⟩
    rcases List.mem_cons.1 Hg with rfl|Hg
    ·refine ⟨L.length,by rw [a2,List.length_append,List.length_append];simp only [List.length_singleton];omega,?_,?_⟩
     ·rw [a2,Fa (by simp),du]
     ·rw [a3,Fa (by simp [hlen]),<-hlen,du]
      exact Int.le_refl _
    ·exact a4 e l' Hg
structure rm (g:List (List Int)) (ls:List Int) (L:List (List Int)) (D:List Int):Prop where
 len:D.length=L.length
 pos:0<L.length
 zero:D.getD 0 0=0
 par: ∀j,0<j->j<L.length-> ∃i l,i<j/\l∈ls/\L.getD j []=Aa (L.getD i []) (Af g l)/\D.getD j 0=D.getD i 0+1
 step: ∀i,i<L.length-> ∀l∈ls,∃j,j<L.length/\L.getD j []=Aa (L.getD i []) (Af g l)/\D.getD j 0<=D.getD i 0+1
theorem uL {g:List (List Int)} {ls:List Int} : ∀(f k:Nat) (L:List (List Int)) (D:List Int),3001<=f+k->Lv g ls k L D->k<=L.length->
  (∀i,i<k-> ∀l∈ls,∃j,j<L.length/\L.getD j []=Aa (L.getD i []) (Af g l)/\D.getD j 0<=D.getD i 0+1)->
  (Gl g ls f k L D).2.2=true->(Gl g ls f k L D).1.length<=3000->rm g ls (Gl g ls f k L D).1 (Gl g ls f k L D).2.1
 |0,k,L,D,hf,h,RJ,hc,hw,h3=>by
  simp only [Gl] at h3⊢
  omega
 |f+1,k,L,D,hf,h,RJ,hc,hw,h3=>by
  simp only [Gl] at hw h3⊢
  split
  ·rename_i hk
   rw [if_pos hk] at hw h3
   obtain ⟨a1,⟨A,a2⟩,⟨A',a3⟩,a4⟩:=mb (x:=L.getD k []) (d:=D.getD k 0) ls L D (λ_ h=>h) h hk rfl rfl
   have hlen:=h.len
   split
   ·rename_i L' D' he
    rw [he] at a1 a2 a3 a4
    simp only [he] at hw h3
    have a2:L'=L++A:=a2
    have a3:D'=D++A':=a3
    have a4:=a4 rfl
    dsimp only at a4
    have hLl:L.length<=L'.length:=by rw [a2,List.length_append];omega
    refine uL f (k+1) L' D' (by omega) ⟨a1.len,a1.pos,a1.mono,λhk1 j hj=>?_,a1.par,a1.zero⟩ (by omega) (λi hi l hl=>?_) hw h3
    ·have h1:D'.getD j 0<=D'.getD k 0+1:=a1.DO (show k<L'.length by omega) j hj
     have h2:D'.getD k 0<=D'.getD (k+1) 0:=a1.mono k (k+1) (by omega) hk1
     omega
    ·by_cases e:i=k
     ·subst e
      obtain ⟨j,b1,b2,b3⟩:=a4 l hl
      refine ⟨j,b1,?_,?_⟩
      ·rw [b2,a2,Fa (by omega)]
      ·rw [show D'.getD i 0=D.getD i 0 by rw [a3,Fa (by omega)]];exact b3
     ·obtain ⟨j,b1,b2,b3⟩:=hc i (by omega) l hl
      refine ⟨j,by omega,?_,?_⟩
      ·rw [a2,Fa (by omega),Fa (by omega)];exact b2
      ·rw [a3,Fa (by omega),Fa (by omega)];exact b3
   ·rename_i L' D' he
    simp only [he] at hw
    cases hw
  ·rename_i hk
   exact ⟨h.len,h.pos,h.zero,h.par,λi hi=>hc i (by have hi:i<L.length:=hi;omega)⟩
theorem mc {p:PP} {s:List Int} (hv:Az p=true) (hs:s.length<=20) (hr: ∀y∈s,0<=y/\y<p.1) (hw:(Fg p.2.2.1 s).2.2=true):
  rm p.2.2.1 (Ag p.2.2.1.length) (Fg p.2.2.1 s).1 (Fg p.2.2.1 s).2.1:=by
 have hb:=(HH hv hs hr).1.ok.gK
 refine uL 3001 0 [s] [0] (by omega) ⟨rfl,by simp,λi j ei hj=>?_,λ_ j hj=>?_,λj h0 hj=>?_,rfl⟩ (Nat.zero_le _) (λi hi=>absurd hi (Nat.not_lt_zero _)) hw hb
 ·have:j=0:=by simpa using hj
  subst this
  have:i=0:=by omega
  subst this
  exact Int.le_refl _
 ·have:j=0:=by simpa using hj
  subst this
  simp
 ·have:j=0:=by simpa using hj
  omega
theorem vY {p:PP} (hV:Valid p) {x:List Int} (hx: ∀y∈x,0<=y/\y<p.1) {l:Int} (hl:l∈Ag p.2.2.1.length):
  -l∈Ag p.2.2.1.length/\Aa (Aa x (Af p.2.2.1 l)) (Af p.2.2.1 (-l))=x:=by
 obtain ⟨k,hk,Ht⟩:=Ox (Il hl)
 have hg:=fQ (hV.perm _ (List.getElem_mem hk))
 have hgl:=hV.len _ (List.getElem_mem hk)
 have hn:=hV.n
 have hp:Pm p.1.toNat (p.2.2.1[k]):=⟨by omega,hg⟩
 have key: ∀q r:List Int,Pm p.1.toNat q->Pm p.1.toNat r->Aa q r=upto p.1.toNat->Aa (Aa x q) r=x:= λq r hq hr he=>by
  refine List.ext_getElem (by rw [Ns,Ns]) λi h1 h2=>?_
  have hxi:=hx _ (List.getElem_mem h2)
  obtain ⟨xi,hxe⟩:=Int.eq_ofNat_of_zero_le hxi.1
  have uo:xi<p.1.toNat:=by omega
  have e1:ap (Aa q r) xi=ap (upto p.1.toNat) xi:=congrArg (λz=>ap z xi) he
  rw [Fq hq hr uo,dV uo] at e1
  simp only [Aa,List.getElem_map,hxe]
  have h3:=(hq.Nh uo).1
  have h4:=(hr.Nh (hq.lt uo)).1
  rw [h3,h4,e1]
 rcases Ht with rfl|rfl
 ·refine ⟨(We hk).2,?_⟩
  rw [Nl hk,Nk hk]
  exact key _ _ hp hp.inv (bK hp)
 ·refine ⟨by rw [Int.neg_neg];exact (We hk).1,?_⟩
  rw [Int.neg_neg,Nl hk,Nk hk]
  exact key _ _ hp.inv hp (Uy hp)
structure Ju (g:List (List Int)) (ls:List Int) (L:List (List Int)) (S:List Int->Prop) (d:List Int->Int):Prop where
 nn: ∀x∈L,0<=d x
 zero: ∀x∈L,d x=0↔S x
 step: ∀x∈L,∀l∈ls,d (Aa x (Af g l))<=d x+1
 down: ∀x∈L,0<d x-> ∃l∈ls,d (Aa x (Af g l))=d x-1
structure lR (g:List (List Int)) (ls:List Int) (L:List (List Int)):Prop where
 next: ∀x∈L,∀l∈ls,Aa x (Af g l)∈L
 back: ∀x∈L,∀l∈ls,-l∈ls/\Aa (Aa x (Af g l)) (Af g (-l))=x
theorem Ju.le {g:List (List Int)} {ls:List Int} {L:List (List Int)} {S:List Int->Prop} {d d':List Int->Int} (hc:lR g ls L) (h:Ju g ls L S d) (h':Ju g ls L S d'):
  ∀(n:Nat) (x:List Int),x∈L->d' x=n->d x<=n
 |0,x,hx,e=>by
  have:=(h.zero x hx).2 ((h'.zero x hx).1 e)
  omega
 |n+1,x,hx,e=>by
  obtain ⟨l,hl,hd⟩:=h'.down x hx (by omega)
  obtain ⟨b1,b2⟩:=hc.back x hx l hl
  have h1:=Ju.le hc h h' n _ (hc.next x hx l hl) (by omega)
  have h2:=h.step _ (hc.next x hx l hl) _ b1
  rw [b2] at h2
  omega
theorem Ju.eq {g:List (List Int)} {ls:List Int} {L:List (List Int)} {S:List Int->Prop} {d d':List Int->Int} (hc:lR g ls L) (h:Ju g ls L S d) (h':Ju g ls L S d') {x:List Int} (hx:x∈L):d x=d' x:=by
 have n1:=h.nn x hx
 have n2:=h'.nn x hx
 have h1:=Ju.le hc h h' (d' x).toNat x hx (by omega)
 have h2:=Ju.le hc h' h (d x).toNat x hx (by omega)
 omega
theorem Ju.DO {g:List (List Int)} {ls:List Int} {L:List (List Int)} {S:List Int->Prop} {d:List Int->Int} (hc:lR g ls L) (h:Ju g ls L S d) {x:List Int} (hx:x∈L) {l:Int} (hl:l∈ls):
  d x-1<=d (Aa x (Af g l)):=by
 obtain ⟨b1,b2⟩:=hc.back x hx l hl
 have h2:=h.step _ (hc.next x hx l hl) _ b1
 rw [b2] at h2
 omega
theorem Qp {L:List (List Int)} (hn:L.Nodup) {j:Nat} (hj:j<L.length):L.idxOf (L.getD j [])=j:=by
 rw [Dk hj]
 exact hn.idxOf_getElem j hj
theorem Kh {L:List (List Int)} {j:Nat} (hj:j<L.length):L.getD j []∈L:=by rw [Dk hj];exact List.getElem_mem hj
theorem oZ {p:PP} (hV:Valid p) {m:Nat} {L:List (List Int)} {D:List Int} (hb:Rr p m L D) (h:rm p.2.2.1 (Ag p.2.2.1.length) L D):lR p.2.2.1 (Ag p.2.2.1.length) L where
 next x hx l hl:=by
  obtain ⟨i,hi,rfl⟩:=List.mem_iff_getElem.1 hx
  obtain ⟨j,h1,h2,_⟩:=h.step i hi l hl
  rw [Dk hi] at h2
  rw [<-h2]
  exact Kh h1
 back x hx l hl:=vY hV (hb.row x hx) hl
end Go.Proofs.Ytjbdmibbbpdnnaa

namespace Go.Proofs.Ytjbdmibbbpdnnaa
open Go.RowKit
def Pv (x:Int):List Int->List Int×List Int->List Int×List Int
 | [],s=>s
 |t::r,s=>if s.1.getD t.toNat 0<0 then Pv x r (s.1.set t.toNat (s.1.getD x.toNat 0+1),s.2++ [t]) else Pv x r s
def l7 (N:Nat->List Int):Nat->List Int->List Int->List Int
 |0,out,_=>out
 |_+1,out,[]=>out
 |f+1,out,x::q=>l7 N f (Pv x (N x.toNat) (out,q)).1 (Pv x (N x.toNat) (out,q)).2
def yd (S:Nat->Bool) (m:Nat):List Int:=(List.range m).map λi=>if S i=true then 0 else-1
def MJ (S:Nat->Bool) (m:Nat):List Int:=((List.range m).filter S).map λ(i:Nat)=>(i:Int)
def bq (N:Nat->List Int) (S:Nat->Bool) (m:Nat):List Int:=l7 N (m+1) (yd S m) (MJ S m)
def Tr (out:List Int):Nat:=out.countP λv=>decide (v<0)
theorem dv {xs:List Int} {i j:Nat} {v:Int} (hj:j<xs.length):(xs.set i v).getD j 0=if i=j then v else xs.getD j 0:=by
 rw [Nv]
 by_cases e:i=j
 ·subst e;rw [if_pos ⟨rfl,hj⟩,if_pos rfl]
 ·rw [if_neg λh=>e h.1,if_neg e]
theorem nh {xs:List Int} {i:Nat} {v:Int} (hi:i<xs.length) (h:xs.getD i 0<0) (hv:0<=v):Tr (xs.set i v)+1=Tr xs:=by
 unfold Tr
 rw [List.countP_set hi]
 rw [NN hi] at h
 have hp:0<xs.countP λv=>decide (v<0):=List.countP_pos_iff.2 ⟨xs[i],List.getElem_mem hi,decide_eq_true h⟩
 simp only [decide_eq_true h,if_true]
 rw [if_neg (by simp;omega)]
 omega
structure DI (N:Nat->List Int) (S:Nat->Bool) (m:Nat) (w:Nat->Prop) (out q:List Int):Prop where
 len:out.length=m
 ge: ∀i,i<m-> -1<=out.getD i 0
 SF: ∀y∈q,0<=y/\y<m/\0<=out.getD y.toNat 0
 src: ∀i,i<m->S i=true->out.getD i 0=0
 KW: ∀i,i<m->out.getD i 0=0->S i=true
 par: ∀i,i<m->0<out.getD i 0-> ∃j,j<m/\(i:Int)∈N j/\out.getD j 0=out.getD i 0-1
 done: ∀i,i<m->0<=out.getD i 0->(i:Int)∉q-> ¬w i-> ∀t∈N i,0<=out.getD t.toNat 0/\out.getD t.toNat 0<=out.getD i 0+1
 ord:q.Pairwise λa b=>out.getD a.toNat 0<=out.getD b.toNat 0
structure DX (N:Nat->List Int) (S:Nat->Bool) (m:Nat) (x:Nat) (d:Int) (out q:List Int):Prop where
 base:DI N S m (λi=>i=x) out q
 lt:x<m
 Nh:out.getD x 0=d
 d0:0<=d
 lo: ∀y∈q,d<=out.getD y.toNat 0
 hi: ∀i,i<m->out.getD i 0<=d+1
def Zh (N:Nat->List Int) (m:Nat):Prop:= ∀i,i<m-> ∀t∈N i,0<=t/\t<m
theorem rP {N:Nat->List Int} {S:Nat->Bool} {m x:Nat} {d:Int} {out q:List Int} (hr:Zh N m) (h:DX N S m x d out q) {t:Int} (ht:t∈N x) (MV:0<=t/\t<m) (bn:out.getD t.toNat 0<0):
  DX N S m x d (out.set t.toNat (d+1)) (q++ [t]):=by
 obtain ⟨⟨b1,b2,b3,b4,b5,b6,b7,b8⟩,h1,h2,h3,h4,h5⟩:=h
 obtain ⟨tn,rfl⟩:=Int.eq_ofNat_of_zero_le MV.1
 simp only [Int.toNat_natCast] at bn⊢
 have UQ:tn<m:=by omega
 have hg: ∀i,i<m->(out.set tn (d+1)).getD i 0=if tn=i then d+1 else out.getD i 0:= λi hi=>dv (by omega)
 have El: ∀i,0<=out.getD i 0->tn≠i:= λi hi e=>by subst e;omega
 have hq: ∀y∈q,(out.set tn (d+1)).getD y.toNat 0=out.getD y.toNat 0:= λy hy=>by
  have:=b3 y hy
  rw [hg _ (by omega),if_neg (El _ this.2.2)]
 refine ⟨⟨by rw [List.length_set];exact b1,λi hi=>?_,λy hy=>?_,λi hi hs=>?_,λi hi h0=>?_,λi hi h0=>?_,λi hi h0 hn hw=>?_,?_⟩,h1,?_,h3,λy hy=>?_,λi hi=>?_⟩
 ·rw [hg i hi];split
  ·omega
  ·exact b2 i hi
 ·rcases List.mem_append.1 hy with hy|hy
  ·rw [hq y hy];exact b3 y hy
  ·rw [List.mem_singleton.1 hy]
   refine ⟨by omega,by omega,?_⟩
   rw [hg _ (by omega),if_pos (by omega)];omega
 ·have:=b4 i hi hs
  rw [hg i hi,if_neg (El i (by omega))];exact this
 ·rw [hg i hi] at h0
  split at h0
  ·omega
  ·exact b5 i hi h0
 ·rw [hg i hi] at h0⊢
  by_cases e:tn=i
  ·subst e
   rw [if_pos rfl]
   exact ⟨x,h1,ht,by rw [hg x h1,if_neg (El x (by omega)),h2];omega⟩
  ·rw [if_neg e] at h0⊢
   obtain ⟨j,j1,j2,j3⟩:=b6 i hi h0
   exact ⟨j,j1,j2,by rw [hg j j1,if_neg (El j (by omega))];exact j3⟩
 ·rw [hg i hi] at h0⊢
  have Ke: ¬tn=i:= λe=>hn (by rw [<-e];simp)
  rw [if_neg Ke] at h0⊢
  intro t lJ
  obtain ⟨c1,c2⟩:=b7 i hi h0 (λh=>hn (List.mem_append_left _ h)) hw t lJ
  have:=hr i hi t lJ
  rw [hg _ (by omega),if_neg (El _ c1)]
  exact ⟨c1,c2⟩
 ·refine List.pairwise_append.2 ⟨?_,List.pairwise_singleton _ _,λa ha b hb=>?_⟩
  ·refine b8.imp_of_mem λha hb h=>?_
   rw [hq _ ha,hq _ hb];exact h
  ·rw [List.mem_singleton.1 hb,hq _ ha,hg _ (by omega),if_pos (by omega)]
   have:=b3 a ha
   exact h5 _ (by omega)
 ·rw [hg x h1,if_neg (El x (by omega))];exact h2
 ·rcases List.mem_append.1 hy with hy|hy
  ·rw [hq y hy];exact h4 y hy
  ·rw [List.mem_singleton.1 hy,hg _ (by omega),if_pos (by omega)];omega
 ·rw [hg i hi];split
  ·exact Int.le_refl _
  ·exact h5 i hi
theorem HR {N:Nat->List Int} {S:Nat->Bool} {m x:Nat} {d:Int} (hr:Zh N m): ∀(ts:List Int) (out q:List Int),(∀t∈ts,t∈N x)->DX N S m x d out q->
  DX N S m x d (Pv x ts (out,q)).1 (Pv x ts (out,q)).2/\(Pv x ts (out,q)).2.length+Tr (Pv x ts (out,q)).1=q.length+Tr out/\
  (∀t∈ts,0<=(Pv x ts (out,q)).1.getD t.toNat 0)/\(∀i,i<m->0<=out.getD i 0->(Pv x ts (out,q)).1.getD i 0=out.getD i 0)
 | [],out,q,_,h=>⟨h,rfl,(λt ht=>nomatch ht),λ_ _ _=>rfl⟩
 |t::ts,out,q,hs,h=>by
  have um: ∀t∈ts,t∈N x:= λt' h'=>hs t' (List.mem_cons_of_mem _ h')
  have MV:=hr x h.lt t (hs t (by simp))
  simp only [Pv]
  have XZ:out.getD ((x:Nat):Int).toNat 0=d:=by rw [Int.toNat_natCast];exact h.Nh
  by_cases bn:out.getD t.toNat 0<0
  ·rw [if_pos bn,XZ]
   have h1:=rP hr h (hs t (by simp)) MV bn
   have hd:=h.d0
   have hlen:=h.base.len
   obtain ⟨a1,a2,a3,a4⟩:=HR hr ts _ _ um h1
   have hti:(out.set t.toNat (d+1)).getD t.toNat 0=d+1:=by rw [dv (by omega),if_pos rfl]
   refine ⟨a1,?_,λt' lJ=>?_,λi hi h0=>?_⟩
   ·have:=nh (xs:=out) (i:=t.toNat) (v:=d+1) (by omega) bn (by omega)
    rw [a2,List.length_append,List.length_singleton]
    omega
   ·rcases List.mem_cons.1 lJ with rfl|lJ
    ·rw [a4 _ (by omega) (by omega),hti];omega
    ·exact a3 t' lJ
   ·have El: ¬t.toNat=i:= λe=>by subst e;omega
    have e:(out.set t.toNat (d+1)).getD i 0=out.getD i 0:=by rw [dv (by omega),if_neg El]
    rw [a4 i hi (by rw [e];exact h0),e]
  ·rw [if_neg bn]
   obtain ⟨a1,a2,a3,a4⟩:=HR hr ts _ _ um h
   refine ⟨a1,a2,λt' lJ=>?_,a4⟩
   rcases List.mem_cons.1 lJ with rfl|lJ
   ·rw [a4 _ (by omega) (by omega)];omega
   ·exact a3 t' lJ
structure DQ (N:Nat->List Int) (S:Nat->Bool) (m:Nat) (out q:List Int):Prop where
 base:DI N S m (λ_=>False) out q
 hi: ∀x q',q=x::q'-> ∀i,i<m->out.getD i 0<=out.getD x.toNat 0+1
theorem rO {N:Nat->List Int} {S:Nat->Bool} {m:Nat} (hr:Zh N m) {x:Int} {out q:List Int} (h:DQ N S m out (x::q)):
  DQ N S m (Pv x (N x.toNat) (out,q)).1 (Pv x (N x.toNat) (out,q)).2/\(Pv x (N x.toNat) (out,q)).2.length+Tr (Pv x (N x.toNat) (out,q)).1=q.length+Tr out/\ ∀i,i<m->(Pv x (N x.toNat) (out,q)).1.getD i 0<=out.getD x.toNat 0+1:=by
 obtain ⟨b,hi⟩:=h
 obtain ⟨h1,h2,h3⟩:=b.SF x (by simp)
 obtain ⟨xn,rfl⟩:=Int.eq_ofNat_of_zero_le h1
 simp only [Int.toNat_natCast] at h3⊢
 obtain ⟨o1,o2⟩:=List.pairwise_cons.1 b.ord
 simp only [Int.toNat_natCast] at o1
 have hx:DX N S m xn (out.getD xn 0) out q:=by
  refine ⟨⟨b.len,b.ge,λy hy=>b.SF y (List.mem_cons_of_mem _ hy),b.src,b.KW,b.par,λi hi h0 hn hw=>b.done i hi h0 (λhm=>?_) (λh=>h),o2⟩,by omega,rfl,h3,o1,?_⟩
  ·rcases List.mem_cons.1 hm with e|hm
   ·exact hw (by omega)
   ·exact hn hm
  ·have:=hi xn q rfl
   rwa [Int.toNat_natCast] at this
 obtain ⟨a1,a2,a3,a4⟩:=HR hr (N xn) out q (λ_ h=>h) hx
 obtain ⟨c,c1,c2,c3,c4,c5⟩:=a1
 refine ⟨⟨⟨c.len,c.ge,c.SF,c.src,c.KW,c.par,λi c9 h0 hn _ t ht=>?_,c.ord⟩,λy q' e i hi=>?_⟩,a2,c5⟩
 ·by_cases e:i=xn
  ·subst e
   refine ⟨a3 t ht,?_⟩
   rw [c2]
   have:=hr i c9 t ht
   exact c5 _ (by omega)
  ·exact c.done i c9 h0 hn e t ht
 ·have h4:=c4 y (by rw [e];simp)
  have h5:=c5 i hi
  omega
theorem yc {N:Nat->List Int} {S:Nat->Bool} {m:Nat} (hr:Zh N m) {x:Int} {out q:List Int} (h:DQ N S m out (x::q)):
  DQ N S m (Pv x (N x.toNat) (out,q)).1 (Pv x (N x.toNat) (out,q)).2/\(Pv x (N x.toNat) (out,q)).2.length+Tr (Pv x (N x.toNat) (out,q)).1=q.length+Tr out:=⟨(rO hr h).1,(rO hr h).2.1⟩
theorem HO {N:Nat->List Int} {S:Nat->Bool} {m M:Nat} (hr:Zh N m): ∀(f:Nat) (out q:List Int) (T:Nat),DQ N S m out q->(∀i,i<m->out.getD i 0<=T)->T+(q.length+Tr out)<=M-> ∀i,i<m->(l7 N f out q).getD i 0<=M
 |0,out,q,T,_,h1,h2,i,hi=>by have:=h1 i hi;simp only [l7];omega
 |f+1,out,[],T,_,h1,h2,i,hi=>by have:=h1 i hi;simp only [l7];omega
 |f+1,out,x::q,T,h,h1,h2,i,hi=>by
  obtain ⟨a1,a2,a3⟩:=rO hr h
  have hx:=h.base.SF x (by simp)
  have hxT:=h1 x.toNat (by omega)
  simp only [l7]
  simp only [List.length_cons] at h2
  exact HO hr f _ _ (T+1) a1 (λj hj=>by have:=a3 j hj;push_cast;omega) (by omega) i hi
theorem HQ {N:Nat->List Int} {S:Nat->Bool} {m:Nat} (hr:Zh N m): ∀(f:Nat) (out q:List Int),q.length+Tr out<f->DQ N S m out q->DQ N S m (l7 N f out q) []
 |0,out,q,hf,_=>absurd hf (Nat.not_lt_zero _)
 |f+1,out,[],_,h=>h
 |f+1,out,x::q,hf,h=>by
  obtain ⟨h1,h2⟩:=yc hr h
  simp only [l7]
  simp only [List.length_cons] at hf
  exact HQ hr f _ _ (by omega) h1
theorem Ol {S:Nat->Bool} {m i:Nat} (hi:i<m):(yd S m).getD i 0=if S i=true then 0 else-1:=by
 unfold yd
 rw [List.getD_eq_getElem?_getD,List.getElem?_map,List.getElem?_range hi]
 rfl
theorem ij {S:Nat->Bool} {m:Nat} {y:Int} :y∈MJ S m↔ ∃i:Nat,y=i/\i<m/\S i=true:=by
 unfold MJ
 simp only [List.mem_map,List.mem_filter,List.mem_range]
 constructor
 ·rintro ⟨i,⟨h1,h2⟩,rfl⟩;exact ⟨i,rfl,h1,h2⟩
 ·rintro ⟨i,rfl,h1,h2⟩;exact ⟨i,⟨h1,h2⟩,rfl⟩
theorem gz (N:Nat->List Int) (S:Nat->Bool) (m:Nat):DQ N S m (yd S m) (MJ S m):=by
 have hle: ∀i,i<m->(yd S m).getD i 0<=0:= λi hi=>by rw [Ol hi];split<;>omega
 refine ⟨⟨by simp [yd],λi hi=>?_,λy hy=>?_,λi hi hs=>?_,λi hi h0=>?_,λi hi h0=>?_,λi hi h0 hn _=>?_,?_⟩,λx q' e i hi=>?_⟩
 ·rw [Ol hi];split<;>omega
 ·obtain ⟨i,rfl,h1,h2⟩:=ij.1 hy
  rw [Int.toNat_natCast,Ol h1,if_pos h2]
  exact ⟨by omega,by omega,Int.le_refl _⟩
 ·rw [Ol hi,if_pos hs]
 ·rw [Ol hi] at h0
  split at h0
  ·assumption
  ·omega
 ·have:=hle i hi;omega
 ·rw [Ol hi] at h0
  split at h0
  ·rename_i hs
   exact absurd (ij.2 ⟨i,rfl,hi,hs⟩) hn
  ·omega
 ·refine List.Pairwise.imp_of_mem (R:= λ_ _=>True) (λha hb _=>?_) (List.pairwise_of_forall λ_ _=>trivial)
  obtain ⟨i,rfl,h1,h2⟩:=ij.1 ha
  obtain ⟨j,rfl,h3,h4⟩:=ij.1 hb
  rw [Int.toNat_natCast,Int.toNat_natCast,Ol h1,Ol h3,if_pos h2,if_pos h4]
  exact Int.le_refl _
 ·obtain ⟨j,rfl,h3,h4⟩:=ij.1 (show x∈MJ S m by rw [e];simp)
  have:=hle i hi
  rw [Int.toNat_natCast,Ol h3,if_pos h4]
  omega
theorem qD {S:Nat->Bool} {m:Nat} :(MJ S m).length+Tr (yd S m)=m:=by
 unfold MJ Tr yd
 rw [List.length_map,List.countP_map]
 have h:(List.range m).countP ((λv=>decide (v<0))∘ λi=>if S i=true then (0:Int) else-1)=(List.range m).countP λi=>!S i:=by
  refine List.countP_congr λi _=>?_
  simp only [Function.comp]
  by_cases e:S i=true
  ·simp [e]
  ·simp [Bool.not_eq_true _▸e]
 rw [h,<-List.countP_eq_length_filter]
 have:=List.length_eq_countP_add_countP (l:=List.range m) S
 rw [List.length_range] at this
 have e:(List.range m).countP (λa=>decide ¬S a=true)=(List.range m).countP λi=>!S i:=List.countP_congr λi _=>by cases S i<;>simp
 rw [e] at this
 omega
theorem QP {N:Nat->List Int} {S:Nat->Bool} {m:Nat} (hr:Zh N m):DI N S m (λ_=>False) (bq N S m) []:=
 (HQ hr (m+1) _ _ (by rw [qD];omega) (gz N S m)).base
theorem YM {N:Nat->List Int} {S:Nat->Bool} {m:Nat} (hr:Zh N m) {i:Nat} (hi:i<m):(bq N S m).getD i 0<=m:=
 HO hr (m+1) _ _ 0 (gz N S m) (λj hj=>by rw [Ol hj];split<;>omega) (by rw [qD];omega) i hi
end Go.Proofs.Ytjbdmibbbpdnnaa

namespace Go.Proofs.Ytjbdmibbbpdnnaa
open Go.RowKit
abbrev od:Type:=Int×Int×ByteArray×List (List Int)×List Int×List (List Int)×List Int×(ByteArray->Option Int)×List Int×List Int×Int×ByteArray×List (List Int)×List (List Int)×PUnit
abbrev og:Type:=Int×Int×ByteArray×List (List Int)×List (List Int)×List Int×(ByteArray->Option Int)×List Int×List Int×Int×ByteArray×List (List Int)×List (List Int)×PUnit
abbrev a5:List (Nat×Nat):= [(0,1),(0,1),(0,1),(0,1),(0,1),(0,1),(0,1),(0,1),(0,1),(0,1),(0,1),(0,1),(0,0)]
abbrev Dl (p:Int×ByteArray×List (List Int)×Unit) (y4:List Int) (y2:Int) (y3:Bool) (y6:ByteArray) (y5:ByteArray):Prop:=a5=a5/\(p,false,y4,p.1,p.2.1,p.2.2.1,y2,y3,!y3,p.1,y4,p.1,p.2.1,p.2.2.1,y4,y4,y6,p.1,p.2.1,p.2.2.1,p.1,p.2.1,p.2.2.1,[y4],[(0:Int)],aH (λ(_:ByteArray)=>none) y6 (0:Int),[(0:Int)],[(0:Int)],p.1,p.2.1,p.2.2.1,([]:List (List Int)),())=(p,false,y4,p.1,p.2.1,p.2.2.1,y2,y3,!y3,p.1,y4,p.1,p.2.1,p.2.2.1,y4,y4,y5,p.1,p.2.1,p.2.2.1,p.1,p.2.1,p.2.2.1,[y4],[(0:Int)],aH (λ(_:ByteArray)=>none) y5 (0:Int),[(0:Int)],[(0:Int)],p.1,p.2.1,p.2.2.1,([]:List (List Int)),PUnit.unit)
theorem FV (p:Int×ByteArray×List (List Int)×Unit) (P:(Option (PP×List (List Int)×List Int×(ByteArray->Option Int)×List Int×List Int×List (List Int)×Unit)×Bool×Unit)->Prop):(∃(y2:Int),Lx.fn ((p.1,p.2.1,p.2.2.1,()),())=some y2/\ ∃(y3:Bool),Bn.fn (y2,(1:Int),(3000:Int),())=some y3/\Br (!y3) (P (none,false,())) (∃(y4:List Int),Oc.fn (p.1,())=some y4/\ ∃(y5:ByteArray),Eh.fn (y4,())=some y5/\(∃(y6:List Int),Ic.fn ((↑p.2.2.1.length:Int),())=some y6/\0=0/\1= [y4].length/\0=0/\1= [(0:Int)].length/\0=0/\1= [(0:Int)].length/\0=0/\1= [(0:Int)].length/\0=0/\0=([]:List Int).length/\Bs (λ(v7:og) (k8:og->Prop)=>Br (decide (v7.1<(↑v7.2.2.2.2.1.length:Int))) (((0:Int)<=v7.1/\v7.1<(↑v7.2.2.2.2.1.length:Int))/\ ∃(y9:List Int),v7.2.2.2.2.1[0+v7.1.toNat]?=some y9/\ ∃(iM:List (List Int)),dI.fn ((v7.2.1,v7.2.2.1,v7.2.2.2.1,()),y9,())=some iM/\0=0/\0=([]:List Int).length/\0=0/\v7.2.2.2.2.1.length=v7.2.2.2.2.1.length/\0=0/\v7.2.2.2.2.2.1.length=v7.2.2.2.2.2.1.length/\0=0/\v7.2.2.2.2.2.2.2.1.length=v7.2.2.2.2.2.2.2.1.length/\0=0/\v7.2.2.2.2.2.2.2.2.1.length=v7.2.2.2.2.2.2.2.2.1.length/\0=0/\v7.2.2.2.2.2.2.2.2.2.2.2.2.1.length=v7.2.2.2.2.2.2.2.2.2.2.2.2.1.length/\Bs (λ(v11:od) (k12:od->Prop)=>Br (decide (v11.1<(↑iM.length:Int))) (∃(eW:List Int),idx iM v11.1=some eW/\ ∃(Wr:ByteArray),Eh.fn (eW,())=some Wr/\Br (!(v11.2.2.2.2.2.2.2.1 Wr).isSome) (∃(Vp:Int),Na.fn (List.take v11.2.2.2.2.2.1.length (List.drop 0 v11.2.2.2.2.2.1),())=some Vp/\0=0/\v11.2.2.2.2.2.1.length=v11.2.2.2.2.2.1.length/\v11.2.2.2.2.2.1.length+(List.take 1 (List.drop 0 [eW])).length<=Bj/\((0:Int)<=v7.1/\v7.1<(↑v11.2.2.2.2.2.2.1.length:Int))/\ ∃(Xm:Int),v11.2.2.2.2.2.2.1[0+v7.1.toNat]?=some Xm/\0=0/\v11.2.2.2.2.2.2.1.length=v11.2.2.2.2.2.2.1.length/\v11.2.2.2.2.2.2.1.length+ [IntKind.i64.wrap (Xm+(1:Int))].length<=Bj/\0=0/\v11.2.2.2.2.2.2.2.2.1.length=v11.2.2.2.2.2.2.2.2.1.length/\v11.2.2.2.2.2.2.2.2.1.length+(List.take 1 (List.drop 0 [v7.1])).length<=Bj/\ ∃(uh:Int),idx y6 v11.1=some uh/\0=0/\v11.2.2.2.2.2.2.2.2.2.1.length=v11.2.2.2.2.2.2.2.2.2.1.length/\v11.2.2.2.2.2.2.2.2.2.1.length+ [uh].length<=Bj/\0=0/\v11.2.2.2.2.1.length=v11.2.2.2.2.1.length/\v11.2.2.2.2.1.length+(List.take 1 (List.drop 0 [Vp])).length<=Bj/\0=0/\(v11.2.2.2.2.1++List.take 1 (List.drop 0 [Vp])).length=(v11.2.2.2.2.1++List.take 1 (List.drop 0 [Vp])).length/\0=0/\(v11.2.2.2.2.2.1++List.take 1 (List.drop 0 [eW])).length=(v11.2.2.2.2.2.1++List.take 1 (List.drop 0 [eW])).length/\0=0/\(v11.2.2.2.2.2.2.1++ [IntKind.i64.wrap (Xm+(1:Int))]).length=(v11.2.2.2.2.2.2.1++ [IntKind.i64.wrap (Xm+(1:Int))]).length/\0=0/\(v11.2.2.2.2.2.2.2.2.1++List.take 1 (List.drop 0 [v7.1])).length=(v11.2.2.2.2.2.2.2.2.1++List.take 1 (List.drop 0 [v7.1])).length/\0=0/\(v11.2.2.2.2.2.2.2.2.2.1++ [uh]).length=(v11.2.2.2.2.2.2.2.2.2.1++ [uh]).length/\0=0/\v11.2.2.2.2.2.2.2.2.2.2.2.2.2.1.length=v11.2.2.2.2.2.2.2.2.2.2.2.2.2.1.length/\k12 (IntKind.i64.wrap (v11.1+(1:Int)),v11.2.1,v11.2.2.1,v11.2.2.2.1,v11.2.2.2.2.1++List.take 1 (List.drop 0 [Vp]),v11.2.2.2.2.2.1++List.take 1 (List.drop 0 [eW]),v11.2.2.2.2.2.2.1++ [IntKind.i64.wrap (Xm+(1:Int))],aH v11.2.2.2.2.2.2.2.1 Wr Vp,v11.2.2.2.2.2.2.2.2.1++List.take 1 (List.drop 0 [v7.1]),v11.2.2.2.2.2.2.2.2.2.1++ [uh],v11.2.2.2.2.2.2.2.2.2.2.1,v11.2.2.2.2.2.2.2.2.2.2.2.1,v11.2.2.2.2.2.2.2.2.2.2.2.2.1,v11.2.2.2.2.2.2.2.2.2.2.2.2.2.1,())) (0=0/\v11.2.2.2.2.1.length=v11.2.2.2.2.1.length/\v11.2.2.2.2.1.length+(List.take 1 (List.drop 0 [(v11.2.2.2.2.2.2.2.1 Wr).getD (Int.ofNat (nat_lit 0))])).length<=Bj/\0=0/\(v11.2.2.2.2.1++List.take 1 (List.drop 0 [(v11.2.2.2.2.2.2.2.1 Wr).getD (Int.ofNat (nat_lit 0))])).length=(v11.2.2.2.2.1++List.take 1 (List.drop 0 [(v11.2.2.2.2.2.2.2.1 Wr).getD (Int.ofNat (nat_lit 0))])).length/\0=0/\v11.2.2.2.2.2.1.length=v11.2.2.2.2.2.1.length/\0=0/\v11.2.2.2.2.2.2.1.length=v11.2.2.2.2.2.2.1.length/\0=0/\v11.2.2.2.2.2.2.2.2.1.length=v11.2.2.2.2.2.2.2.2.1.length/\0=0/\v11.2.2.2.2.2.2.2.2.2.1.length=v11.2.2.2.2.2.2.2.2.2.1.length/\0=0/\v11.2.2.2.2.2.2.2.2.2.2.2.2.2.1.length=v11.2.2.2.2.2.2.2.2.2.2.2.2.2.1.length/\k12 (IntKind.i64.wrap (v11.1+(1:Int)),v11.2.1,v11.2.2.1,v11.2.2.2.1,v11.2.2.2.2.1++List.take 1 (List.drop 0 [(v11.2.2.2.2.2.2.2.1 Wr).getD (Int.ofNat (nat_lit 0))]),v11.2.2.2.2.2.1,v11.2.2.2.2.2.2.1,v11.2.2.2.2.2.2.2.1,v11.2.2.2.2.2.2.2.2.1,v11.2.2.2.2.2.2.2.2.2.1,v11.2.2.2.2.2.2.2.2.2.2.1,v11.2.2.2.2.2.2.2.2.2.2.2.1,v11.2.2.2.2.2.2.2.2.2.2.2.2.1,v11.2.2.2.2.2.2.2.2.2.2.2.2.2.1,()))) (0=0/\v11.2.2.2.2.2.2.2.2.2.2.2.2.2.1.length=v11.2.2.2.2.2.2.2.2.2.2.2.2.2.1.length/\v11.2.2.2.2.2.2.2.2.2.2.2.2.2.1.length+(List.take 1 (List.drop 0 [List.take v11.2.2.2.2.1.length (List.drop 0 v11.2.2.2.2.1)])).length<=Bj/\0=0/\v11.2.2.2.2.2.1.length=v11.2.2.2.2.2.1.length/\0=0/\v11.2.2.2.2.2.2.1.length=v11.2.2.2.2.2.2.1.length/\0=0/\v11.2.2.2.2.2.2.2.2.1.length=v11.2.2.2.2.2.2.2.2.1.length/\0=0/\v11.2.2.2.2.2.2.2.2.2.1.length=v11.2.2.2.2.2.2.2.2.2.1.length/\0=0/\(v11.2.2.2.2.2.2.2.2.2.2.2.2.2.1++List.take 1 (List.drop 0 [List.take v11.2.2.2.2.1.length (List.drop 0 v11.2.2.2.2.1)])).length=(v11.2.2.2.2.2.2.2.2.2.2.2.2.2.1++List.take 1 (List.drop 0 [List.take v11.2.2.2.2.1.length (List.drop 0 v11.2.2.2.2.1)])).length/\k8 (IntKind.i64.wrap (v7.1+(1:Int)),v11.2.1,v11.2.2.1,v11.2.2.2.1,v11.2.2.2.2.2.1,v11.2.2.2.2.2.2.1,v11.2.2.2.2.2.2.2.1,v11.2.2.2.2.2.2.2.2.1,v11.2.2.2.2.2.2.2.2.2.1,v11.2.2.2.2.2.2.2.2.2.2.1,v11.2.2.2.2.2.2.2.2.2.2.2.1,v11.2.2.2.2.2.2.2.2.2.2.2.2.1,v11.2.2.2.2.2.2.2.2.2.2.2.2.2.1++List.take 1 (List.drop 0 [List.take v11.2.2.2.2.1.length (List.drop 0 v11.2.2.2.2.1)]),()))) ((0:Int),v7.2.1,v7.2.2.1,v7.2.2.2.1,[],v7.2.2.2.2.1,v7.2.2.2.2.2.1,v7.2.2.2.2.2.2.1,v7.2.2.2.2.2.2.2.1,v7.2.2.2.2.2.2.2.2.1,v7.2.2.2.2.2.2.2.2.2.1,v7.2.2.2.2.2.2.2.2.2.2.1,v7.2.2.2.2.2.2.2.2.2.2.2.1,v7.2.2.2.2.2.2.2.2.2.2.2.2.1,PUnit.unit)) (P (some ((v7.2.2.2.2.2.2.2.2.2.1,v7.2.2.2.2.2.2.2.2.2.2.1,v7.2.2.2.2.2.2.2.2.2.2.2.1,()),List.take v7.2.2.2.2.1.length (List.drop 0 v7.2.2.2.2.1),List.take v7.2.2.2.2.2.1.length (List.drop 0 v7.2.2.2.2.2.1),v7.2.2.2.2.2.2.1,List.take v7.2.2.2.2.2.2.2.1.length (List.drop 0 v7.2.2.2.2.2.2.2.1),List.take v7.2.2.2.2.2.2.2.2.1.length (List.drop 0 v7.2.2.2.2.2.2.2.2.1),List.take v7.2.2.2.2.2.2.2.2.2.2.2.2.1.length (List.drop 0 v7.2.2.2.2.2.2.2.2.2.2.2.2.1),()),true,()))) ((0:Int),p.1,p.2.1,p.2.2.1,[y4],[(0:Int)],aH (λ(_:ByteArray)=>none) y5 (0:Int),[(0:Int)],[(0:Int)],p.1,p.2.1,p.2.2.1,([]:List (List Int)),PUnit.unit))/\((∃(y6:ByteArray),Eh.fn (y4,())=some y6/\(Dl p y4 y2 y3 y6 y5))/\ ∃(y6:ByteArray),Eh.fn (y4,())=some y6/\((Dl p y4 y2 y3 y6 y5))/\((Dl p y4 y2 y3 y6 y5))/\(Dl p y4 y2 y3 y6 y5))/\((∃(y6:ByteArray),Eh.fn (y4,())=some y6/\(Dl p y4 y2 y3 y6 y5))/\ ∃(y6:ByteArray),Eh.fn (y4,())=some y6/\((Dl p y4 y2 y3 y6 y5))/\((Dl p y4 y2 y3 y6 y5))/\(Dl p y4 y2 y3 y6 y5))/\ ∃(y6:ByteArray),Eh.fn (y4,())=some y6/\(((Dl p y4 y2 y3 y6 y5))/\((Dl p y4 y2 y3 y6 y5))/\(Dl p y4 y2 y3 y6 y5))/\(((Dl p y4 y2 y3 y6 y5))/\((Dl p y4 y2 y3 y6 y5))/\(Dl p y4 y2 y3 y6 y5))/\(((Dl p y4 y2 y3 y6 y5))/\(Dl p y4 y2 y3 y6 y5))/\(((Dl p y4 y2 y3 y6 y5))/\(Dl p y4 y2 y3 y6 y5))/\((Dl p y4 y2 y3 y6 y5))/\a5=a5/\(p,false,y4,p.1,p.2.1,p.2.2.1,y2,y3,!y3,p.1,y4,p.1,p.2.1,p.2.2.1,y4,y4,y6,p.1,p.2.1,p.2.2.1,p.1,p.2.1,p.2.2.1,[y4],[(0:Int)],aH (λ(_:ByteArray)=>none) y6 (0:Int),[(0:Int)],[(0:Int)],p.1,p.2.1,p.2.2.1,([]:List (List Int)),())=(p,false,y4,p.1,p.2.1,p.2.2.1,y2,y3,!y3,p.1,y4,p.1,p.2.1,p.2.2.1,y4,y4,y5,p.1,p.2.1,p.2.2.1,p.1,p.2.1,p.2.2.1,[y4],[(0:Int)],aH (λ(_:ByteArray)=>none) y5 (0:Int),[(0:Int)],[(0:Int)],p.1,p.2.1,p.2.2.1,[],PUnit.unit)))=fnW Da (look [(126,Lx),(97,Bn),(127,Oc),(128,Eh),(117,Ic),(129,dI),(58,Na)]) Kq Try.f80 (p,()) P:=by kernel_rfl
theorem mr {g:List (List Int)} {k:Int} {x:List Int} {d:Int} : ∀(ls:List Int) (s:EX) (row:List Int) (L':List (List Int)) (D':List Int),Et g x d ls s.1 s.2.1=(L',D',true)->
  (Vq g k x d ls s row).1.1=L'/\(Vq g k x d ls s row).1.2.1=D'
 | [],s,row,L',D',h=>by
  simp only [Et,Prod.mk.injEq] at h
  exact ⟨h.1,h.2.1⟩
 |l::ls,s,row,L',D',h=>by
  simp only [Et] at h
  simp only [Vq]
  by_cases hm:Aa x (Af g l)∈s.1
  ·rw [if_pos hm] at h
   rw [if_pos hm]
   exact mr ls s _ L' D' h
  ·rw [if_neg hm] at h
   rw [if_neg hm]
   by_cases hf:s.1.length=3000
   ·rw [if_pos hf] at h
    simp at h
   ·rw [if_neg hf] at h
    exact mr ls _ _ L' D' h
theorem vf {g:List (List Int)} {ls:List Int} : ∀(f k:Nat) (s:EX) (N:List (List Int)) (L':List (List Int)) (D':List Int),Gl g ls f k s.1 s.2.1=(L',D',true)->
  (Ww g ls f k s N).1.1=L'/\(Ww g ls f k s N).1.2.1=D'
 |0,k,s,N,L',D',h=>by
  simp only [Gl,Prod.mk.injEq] at h
  exact ⟨h.1,h.2.1⟩
 |f+1,k,s,N,L',D',h=>by
  simp only [Gl] at h
  simp only [Ww]
  by_cases hk:k<s.1.length
  ·rw [if_pos hk] at h
   rw [if_pos hk]
   split at h
   ·rename_i L1 D1 he
    obtain ⟨a1,a2⟩:=mr (k:=(k:Int)) ls s [] L1 D1 he
    refine vf f (k+1) _ _ L' D' ?_
    rw [a1,a2]
    exact h
   ·simp at h
  ·rw [if_neg hk] at h
   rw [if_neg hk]
   simp only [Prod.mk.injEq] at h
   exact ⟨h.1,h.2.1⟩
theorem hJ {key:ByteArray} {x:List Int} : ∀(L:List (List Int)) (i:Nat),ck key (L++ [x]) i=if (ck key L i).isSome=true then ck key L i else if Mc x=key then some ((i+L.length:Nat):Int) else none
 | [],i=>by simp [ck]
 |y::L,i=>by
  simp only [List.cons_append,ck]
  split
  ·rfl
  ·rw [hJ L (i+1),List.length_cons,show i+1+L.length=i+(L.length+1) by omega]
theorem jl {x:List Int} (hx:Pz x): ∀(L:List (List Int)) (i:Nat),(∀y∈L,Pz y)->ck (Mc x) L i=if x∈L then some ((i+L.idxOf x:Nat):Int) else none
 | [],i,_=>by simp [ck]
 |y::L,i,h=>by
  have hy:=h y (by simp)
  simp only [ck]
  by_cases e:y=x
  ·subst e
   rw [if_pos rfl,if_pos (by simp),List.idxOf_cons_self]
   rfl
  ·rw [if_neg λhk=>e (key_inj hy hx hk),jl hx L (i+1) λz hz=>h z (List.mem_cons_of_mem _ hz),show List.idxOf x (y::L)=(List.idxOf x L).succ by rw [List.idxOf_cons,beq_false_of_ne e];rfl]
   have:(x∈y::L)↔(x∈L):=by simp [Ne.symm e]
   by_cases hm:x∈L
   ·rw [if_pos hm,if_pos (this.2 hm),show i+1+List.idxOf x L=i+(List.idxOf x L).succ by omega]
   ·rw [if_neg hm,if_neg λh=>hm (this.1 h)]
theorem qx {x:List Int} {L:List (List Int)} (hx:Pz x) (hL: ∀y∈L,Pz y):Ro L (Mc x)=if x∈L then some (L.idxOf x:Int) else none:=by
 unfold Ro
 rw [jl hx L 0 hL,Nat.zero_add]
theorem qw {x:List Int} {L:List (List Int)} (hx:Pz x) (hL: ∀y∈L,Pz y) (hn:x∉L):aH (Ro L) (Mc x) (L.length:Int)=Ro (L++ [x]):=by
 funext key
 unfold aH Ro
 rw [hJ,Nat.zero_add]
 by_cases e:key=Mc x
 ·subst e
  rw [if_pos rfl,jl hx L 0 hL,if_neg hn,if_neg (by simp),if_pos rfl]
 ·rw [if_neg e,if_neg (c:=Mc x=key) λh=>e h.symm]
  split
  ·rfl
  ·rename_i h
   cases hk:ck key L 0 with
   |none=>rfl
   |some v=>rw [hk] at h;simp at h
theorem xw (p:PP):Hf (Oy p) 1 3000=Cs p:=by
 unfold Cs
 by_cases hv:Az p=true
 ·rw [hv,Bool.true_and,uW hv]
  rfl
 ·have hv:Az p=false:=by simpa using hv
  rw [hv,Bool.false_and]
  have:Oy p=0:=by unfold Oy;rw [if_neg (by simp [hv])]
  rw [this]
  rfl
theorem EA (p:PP) (h:Cp p):fnW Da (look [(126,Lx),(97,Bn),(127,Oc),(128,Eh),(117,Ic),(129,dI),(58,Na)]) Kq Try.f80 (p,()) (λ(z:Option (PP×List (List Int)×List Int×(ByteArray->Option Int)×List Int×List Int×List (List Int)×Unit)×Bool×Unit)=>z=(if Cs p=true then (some (Gt p),true,()) else (none,false,()))):=by
 refine Eq.mp (FV p _) ⟨_,if_pos h,_,if_pos trivial,?_⟩
 show Br (!Hf (Oy p) 1 3000) _ _
 rw [xw p]
 refine Br.of (λhb=>?_) λhb=>?_
 ·rw [if_neg (by simpa using hb)]
 have hw:Cs p=true:=by simpa using hb
 rw [if_pos hw]
 obtain ⟨hv,yk⟩:=Bool.and_eq_true_iff.1 hw
 have hV:=valid hv
 have yo:=hV.gK
 have hn:=hV.n
 obtain ⟨pn,ps,g,⟨⟩⟩:=p
 dsimp only at yo hn yk⊢
 have hI:(upto pn.toNat).length<=20:=by rw [Pr];omega
 have hIr: ∀y∈upto pn.toNat,0<=y/\y<pn:= λy hy=>by have:=Im.1 hy;omega
 have TF:=dp (p:=(pn,ps,g,())) hI hIr
 obtain ⟨ls,ej⟩: ∃ls,Ag g.length=ls:=⟨_,rfl⟩
 have MR:ls.length<=16:=by rw [<-ej,Kn];omega
 have fz: ∀l∈ls,Ft (List.length g) l:= λl hl=>Il (ej▸hl)
 have AS: ∀x:List Int,(∀y∈x,0<=y/\y<pn)->Pz x:= λx hx y hy=>by have:=hx y hy;omega
 have yw:Gl g ls 3001 0 [upto pn.toNat] [0]=Fg g (upto pn.toNat):=by unfold Fg;rw [ej]
 have oP:aH (λ(_:ByteArray)=>(none:Option Int)) (Mc (upto pn.toNat)) 0=Ro [upto pn.toNat]:=by
  have:=qw (L:= []) (AS _ hIr) (λy hy=>by cases hy) (by simp)
  exact this
 refine ⟨upto pn.toNat,if_pos ⟨by show (0:Int)<=pn;omega,by show pn<=20;omega⟩,Mc (upto pn.toNat),if_pos (by show short (upto pn.toNat);unfold short;omega),⟨ls,?_,rfl,rfl,rfl,rfl,rfl,rfl,rfl,rfl,rfl,rfl,?_⟩,?_⟩
 ·refine (if_pos ⟨by show (0:Int)<=((g.length:Nat):Int);omega,by show ((g.length:Nat):Int)<=8;omega⟩).trans (congrArg some ?_)
  show Ag (((g.length:Nat):Int)).toNat=ls
  rw [Int.toNat_natCast];exact ej
 ·obtain ⟨R,hR⟩: ∃R,Ww g ls 3001 0 ([upto pn.toNat],[0],[0],[0]) []=R:=⟨_,rfl⟩
  have Aet:Gt (pn,ps,g,())=YO (pn,ps,g,()) R:=by unfold Gt;rw [ej];exact congrArg _ hR
  rw [Aet]
  refine Bs.mk (λv=> ∃(k:Nat) (s:EX) (N:List (List Int)),v=((k:Int),pn,ps,g,s.1,s.2.1,Ro s.1,s.2.2.1,s.2.2.2,pn,ps,g,N,())/\k<=s.1.length/\Rr (pn,ps,g,()) (upto pn.toNat).length s.1 s.2.1/\s.2.2.1.length=s.1.length/\s.2.2.2.length=s.1.length/\N.length=k/\
    Gl g ls (3001-k) k s.1 s.2.1=Fg g (upto pn.toNat)/\Ww g ls (3001-k) k s N=R) (λv=>3001-v.1.toNat)
   ⟨0,([upto pn.toNat],[0],[0],[0]),[],?_,by simp,TF,rfl,rfl,rfl,yw,hR⟩ ?_
  ·rw [<-oP];rfl
  rintro v ⟨k,s0,N,rfl,h1,h2,h3,h4,h5,h6,h7⟩
  obtain ⟨L0,D0,P0,B0⟩:=s0
  dsimp only at h1 h2 h3 h4 h6 h7⊢
  have hL0:=h2.ok.gK
  have hD0:=h2.len
  obtain ⟨f,hf⟩: ∃f,3001-k=f+1:=⟨3000-k,by omega⟩
  refine Br.dec (λhl=>?_) λhl=>?_
  ·have hk:k<L0.length:=by omega
   have CT:k<D0.length:=by omega
   have hx: ∀y∈L0[k],0<=y/\y<pn:=h2.row _ (List.getElem_mem hk)
   have SB:L0[k].length=(upto pn.toNat).length:=h2.ok.len _ (List.getElem_mem hk)
   have hdk:=h2.dep k CT
   have hxe:L0.getD k []=L0[k]:=Oo hk
   have NX:D0.getD k 0=D0[k]:=by rw [List.getD_eq_getElem?_getD,List.getElem?_eq_getElem CT];rfl
   have ZP: ∀L' D' ok,Et g L0[k] D0[k] ls L0 D0=(L',D',ok)->Fg g (upto pn.toNat)=if ok=true then Gl g ls f (k+1) L' D' else (L',D',false):=by
    intro L' D' ok he
    rw [<-h6,hf,Gl,if_pos hk,hxe,NX,he]
    cases ok<;>rfl
   obtain ⟨E,hE⟩: ∃E,Vq g (k:Int) L0[k] D0[k] ls (L0,D0,P0,B0) []=E:=⟨_,rfl⟩
   have hex:R=Ww g ls f (k+1) E.1 (N++ [E.2]):=by
    rw [<-h7,hf,Ww,if_pos hk]
    dsimp only
    rw [hxe,NX,hE]
   refine ⟨⟨by omega,by omega⟩,L0[k],by rw [Int.toNat_natCast,Nat.zero_add];exact List.getElem?_eq_getElem hk,ls.map (λl=>Aa L0[k] (Af g l)),?_,?_⟩
   ·refine (if_pos ⟨hv,by show L0[k].length<=20;omega,hx⟩).trans (congrArg some ?_)
    show sD g L0[k]=_
    unfold sD
    rw [ej]
   refine ⟨rfl,rfl,rfl,rfl,rfl,rfl,rfl,rfl,rfl,rfl,rfl,rfl,?_⟩
   obtain ⟨nb,hnb⟩: ∃nb,ls.map (λl=>Aa L0[k] (Af g l))=nb:=⟨_,rfl⟩
   have hnl:nb.length=ls.length:=by rw [<-hnb,List.length_map]
   have hni: ∀i (h:i<ls.length),nb[i]'(by omega)=Aa L0[k] (Af g ls[i]):= λi h=>by simp only [<-hnb,List.getElem_map]
   rw [hnb]
   refine Bs.mk (λv=> ∃(i:Nat) (row:List Int) (s:EX),v=((i:Int),pn,ps,g,row,s.1,s.2.1,Ro s.1,s.2.2.1,s.2.2.2,pn,ps,g,N,())/\i<=ls.length/\row.length=i/\Rr (pn,ps,g,()) (upto pn.toNat).length s.1 s.2.1/\s.2.2.1.length=s.1.length/\s.2.2.2.length=s.1.length/\
     (∃A,s.1=L0++A)/\(∃A,s.2.1=D0++A)/\Et g L0[k] D0[k] (ls.drop i) s.1 s.2.1=Et g L0[k] D0[k] ls L0 D0/\Vq g (k:Int) L0[k] D0[k] (ls.drop i) s row=E) (λv=>ls.length-v.1.toNat)
    ⟨0,[],(L0,D0,P0,B0),rfl,Nat.zero_le _,rfl,h2,h3,h4,⟨[],by simp⟩,⟨[],by simp⟩,rfl,hE⟩ ?_
   rintro v ⟨i,row,s,rfl,g1,g2,g3,g4,g5,⟨A,g6⟩,⟨A',g7⟩,g8,g9⟩
   obtain ⟨L,D,Pa,By⟩:=s
   dsimp only at g3 g4 g5 g6 g7 g8 g9⊢
   have hLf:=g3.ok.gK
   have QV:=g3.len
   refine Br.dec (λhli=>?_) λhli=>?_
   ·have hi:i<ls.length:=by omega
    have RJ:k<L.length:=by rw [g6,List.length_append];omega
    have TU:k<D.length:=by rw [QV];exact RJ
    have hDk:D[k]=D0[k]:=by simp only [g7];exact List.getElem_append_left CT
    have sa:=fz _ (List.getElem_mem hi)
    obtain ⟨nl,nr⟩:=lM hV hx sa
    dsimp only at nl nr
    rw [List.drop_eq_getElem_cons hi] at g8 g9
    simp only [Et] at g8
    simp only [Vq] at g9
    have hyb:=AS _ nr
    refine ⟨_,Av (by omega),?_⟩
    rw [hni i hi]
    generalize hyv:Aa L0[k] (Af g ls[i])=yv at*
    refine ⟨Mc yv,if_pos (by show short yv;unfold short;rw [nl];omega),?_⟩
    rw [qx hyb λy hy=>AS _ (g3.row y hy)]
    refine Br.of (λKe=>?_) λKe=>?_
    ·have Ke:yv∉L:= λhm=>by rw [if_pos hm] at Ke;simp at Ke
     rw [if_neg Ke] at g8 g9
     by_cases eh:L.length=3000
     ·rw [if_pos eh] at g8
      have:=ZP _ _ _ g8.symm
      rw [if_neg (by decide)] at this
      rw [this] at yk
      cases yk
     rw [if_neg eh] at g8
     refine ⟨_,if_pos trivial,rfl,rfl,?_,⟨by omega,by omega⟩,D0[k],?_,rfl,rfl,?_,rfl,rfl,?_,_,Av hi,rfl,rfl,?_,rfl,rfl,?_,rfl,rfl,rfl,rfl,rfl,rfl,rfl,rfl,rfl,rfl,rfl,rfl,?_⟩
     ·show L.length+1<=4294967296;omega
     ·rw [Int.toNat_natCast,Nat.zero_add,List.getElem?_eq_getElem TU,hDk]
     ·show D.length+1<=4294967296;omega
     ·show Pa.length+1<=4294967296;omega
     ·show By.length+1<=4294967296;omega
     ·show row.length+1<=4294967296;omega
     ·dsimp only
      rw [Bh L,Bt (n:=D0[k]+1) (by omega) (by omega),Ao (by omega),qw hyb (λy hy=>AS _ (g3.row y hy)) Ke]
      refine ⟨⟨i+1,row++ [(L.length:Int)],(L++ [yv],D++ [D0[k]+1],Pa++ [(k:Int)],By++ [ls[i]]),rfl,hi,by rw [List.length_append,g2];rfl,g3.add Ke (by rw [nl,SB]) (by omega) nr ⟨by omega,by omega⟩,?_,?_,⟨A++ [yv],by rw [g6,List.append_assoc]⟩,⟨A'++ [D0[k]+1],by rw [g7,List.append_assoc]⟩,g8,g9⟩,by omega⟩
      ·simp [g4]
      ·simp [g5]
    ·have Ke:yv∈L:=Classical.byContradiction λhm=>by rw [if_neg hm] at Ke;simp at Ke
     rw [if_pos Ke] at g8 g9
     rw [if_pos Ke]
     refine ⟨rfl,rfl,?_,rfl,rfl,rfl,rfl,rfl,rfl,rfl,rfl,rfl,rfl,rfl,rfl,?_⟩
     ·show row.length+1<=4294967296;omega
     ·rw [Ao (by omega)]
      exact ⟨⟨i+1,row++ [(L.idxOf yv:Int)],(L,D,Pa,By),rfl,hi,by rw [List.length_append,g2];rfl,g3,g4,g5,⟨A,g6⟩,⟨A',g7⟩,g8,g9⟩,by omega⟩
   ·have:i=ls.length:=by omega
    subst this
    rw [List.drop_length,Et] at g8
    rw [List.drop_length,Vq] at g9
    have:=ZP _ _ _ g8.symm
    rw [if_pos rfl] at this
    rw [Bh row,Ao (by omega)]
    refine ⟨rfl,rfl,?_,rfl,rfl,rfl,rfl,rfl,rfl,rfl,rfl,rfl,rfl,⟨k+1,(L,D,Pa,By),N++ [row],rfl,by rw [g6,List.length_append];omega,g3,g4,g5,by rw [List.length_append,h5];rfl,?_,?_⟩,by omega⟩
    ·show N.length+1<=4294967296;omega
    ·rw [show 3001-(k+1)=f by omega]
     exact this.symm
    ·rw [show 3001-(k+1)=f by omega,hex,<-g9]
  ·have hk:k=L0.length:=by omega
   rw [hf,Ww,if_neg (by show ¬k<L0.length;omega)] at h7
   subst h7
   simp only [List.drop_zero,List.take_length]
   rfl
 ·have yp:Eh.fn (upto pn.toNat,())=some (Mc (upto pn.toNat)):=if_pos (by show short (upto pn.toNat);unfold short;omega)
  repeat' (first|exact ⟨rfl,rfl⟩|refine ⟨_,yp,?_⟩|refine ⟨?_,?_⟩)
theorem pB:Sound Try.prog 80 Kq:=
 Sound.Di Cb (Ah jQ (Ah Pp (Ah bd (Ah cV (Ah Xg (Ah wW (Ah cT At))))))) mixed Try.func80 (by kernel_rfl) (by kernel_rfl) λx h=>EA x.1 h
end Go.Proofs.Ytjbdmibbbpdnnaa

namespace Go.Proofs.Ytjbdmibbbpdnnaa
open Go.RowKit
abbrev XP:Type:=PP×List (List Int)×List Int×(ByteArray->Option Int)×List Int×List Int×List (List Int)×Unit
noncomputable def Ab (p:PP):List (List Int):=(Fg p.2.2.1 (upto p.1.toNat)).1
noncomputable def cn (p:PP):List Int:=(Fg p.2.2.1 (upto p.1.toNat)).2.1
def uw (e:XP):Prop:=Cs e.1=true/\e=Gt e.1
noncomputable def Qr (p:PP) (s:List Int):Int×Bool×Unit:=if s∈Ab p then ((List.idxOf s (Ab p):Nat),true,()) else (0,false,())
noncomputable def JN (e:Option XP) (s:List Int):Int×Bool×Unit:=match e with|some e=>Qr e.1 s|none=>(0,false,())
noncomputable abbrev aw:Spec:=Di (.pair (.optr eL) (.pair tL .unit)) (.pair tI (.pair .bool .unit)) true true (λx=>(∃e:XP,x.1=some e/\uw e)/\short x.2.1) (λx=>JN x.1 x.2.1)
noncomputable def Ga (p:PP):SS×Bool×Unit:=if Az p=true then (An p.2.2.1 (upto p.1.toNat),Cs p,()) else (([],[],[],false,()),false,())
noncomputable abbrev Kd:Spec:=Di (.pair Ck .unit) (.pair Nc (.pair .bool .unit)) true false (λx=>Cp x.1) (λx=>Ga x.1)
noncomputable abbrev Uc:Spec:=Di (.pair Ck (.pair Nc (.pair tL .unit))) .bool false true (λx=>Cp x.1/\short x.2.2.1/\Az x.1=true/\x.2.1=An x.1.2.2.1 (upto x.1.1.toNat)) (λx=>decide (x.2.2.1∈Ab x.1))
noncomputable abbrev jI:Spec:=Di (.pair Ck (.pair tL (.pair tL .unit))) .bool false true (λx=>Cp x.1/\short x.2.1/\short x.2.2.1) (λ_=>true)
abbrev BV:Type:=(Int×ByteArray×List (List Int)×PUnit)×List (List Int)×List Int×(ByteArray->Option Int)×List Int×List Int×List (List Int)×PUnit
theorem WN (e:Option (PP×List (List Int)×List Int×(ByteArray->Option Int)×List Int×List Int×List (List Int)×Unit)) (s:List Int) (P:(Int×Bool×Unit)->Prop):(∃(y3:BV),e=some y3/\ ∃(y4:Bool),Qz.fn (y3.1,s,())=some y4/\Br (!y4) (P ((0:Int),false,())) (∃(y5:BV),e=some y5/\ ∃(y6:ByteArray),Eh.fn (s,())=some y6/\P ((y5.2.2.2.1 y6).getD (Int.ofNat (nat_lit 0)),(y5.2.2.2.1 y6).isSome,())))=fnW Da (look [(141,Qz),(128,Eh)]) aw Try.f98 (e,s,()) P:=by kernel_rfl
abbrev Bx:Type:=List (List Int)×List Int×List Int×Bool×PUnit
theorem zR (p:Int×ByteArray×List (List Int)×Unit) (P:((List (List Int)×List Int×List Int×Bool×Unit)×Bool×Unit)->Prop):(∃(y2:Bool),Eo.fn ((p.1,p.2.1,p.2.2.1,()),())=some y2/\Br (!y2) (P ((List.take 0 (List.drop 0 []),List.take 0 (List.drop 0 []),List.take 0 (List.drop 0 []),false,()),false,())) (((((∃(y3:List Int),Cd.fn (p.1,())=some y3/\(∃(y4:Bx),Dn.fn ((p.1,p.2.1,p.2.2.1,()),y3,())=some y4/\((P ((y4.1,y4.2.1,y4.2.2.1,y4.2.2.2.1,()),y4.2.2.2.1,())/\P ((y4.1,y4.2.1,y4.2.2.1,y4.2.2.2.1,()),y4.2.2.2.1,()))/\P ((y4.1,y4.2.1,y4.2.2.1,y4.2.2.2.1,()),y4.2.2.2.1,()))/\(P ((y4.1,y4.2.1,y4.2.2.1,y4.2.2.2.1,()),y4.2.2.2.1,())/\P ((y4.1,y4.2.1,y4.2.2.1,y4.2.2.2.1,()),y4.2.2.2.1,()))/\P ((y4.1,y4.2.1,y4.2.2.1,y4.2.2.2.1,()),y4.2.2.2.1,()))/\ ∃(y4:Bx),Dn.fn ((p.1,p.2.1,p.2.2.1,()),y3,())=some y4/\((P ((y4.1,y4.2.1,y4.2.2.1,y4.2.2.2.1,()),y4.2.2.2.1,())/\P ((y4.1,y4.2.1,y4.2.2.1,y4.2.2.2.1,()),y4.2.2.2.1,()))/\P ((y4.1,y4.2.1,y4.2.2.1,y4.2.2.2.1,()),y4.2.2.2.1,()))/\(P ((y4.1,y4.2.1,y4.2.2.1,y4.2.2.2.1,()),y4.2.2.2.1,())/\P ((y4.1,y4.2.1,y4.2.2.1,y4.2.2.2.1,()),y4.2.2.2.1,()))/\P ((y4.1,y4.2.1,y4.2.2.1,y4.2.2.2.1,()),y4.2.2.2.1,()))/\ ∃(y3:List Int),Cd.fn (p.1,())=some y3/\ ∃(y4:Bx),Dn.fn ((p.1,p.2.1,p.2.2.1,()),y3,())=some y4/\((P ((y4.1,y4.2.1,y4.2.2.1,y4.2.2.2.1,()),y4.2.2.2.1,())/\P ((y4.1,y4.2.1,y4.2.2.1,y4.2.2.2.1,()),y4.2.2.2.1,()))/\P ((y4.1,y4.2.1,y4.2.2.1,y4.2.2.2.1,()),y4.2.2.2.1,()))/\(P ((y4.1,y4.2.1,y4.2.2.1,y4.2.2.2.1,()),y4.2.2.2.1,())/\P ((y4.1,y4.2.1,y4.2.2.1,y4.2.2.2.1,()),y4.2.2.2.1,()))/\P ((y4.1,y4.2.1,y4.2.2.1,y4.2.2.2.1,()),y4.2.2.2.1,()))/\ ∃(y3:List Int),Cd.fn (p.1,())=some y3/\ ∃(y4:Bx),Dn.fn ((p.1,p.2.1,p.2.2.1,()),y3,())=some y4/\((P ((y4.1,y4.2.1,y4.2.2.1,y4.2.2.2.1,()),y4.2.2.2.1,())/\P ((y4.1,y4.2.1,y4.2.2.1,y4.2.2.2.1,()),y4.2.2.2.1,()))/\P ((y4.1,y4.2.1,y4.2.2.1,y4.2.2.2.1,()),y4.2.2.2.1,()))/\(P ((y4.1,y4.2.1,y4.2.2.1,y4.2.2.2.1,()),y4.2.2.2.1,())/\P ((y4.1,y4.2.1,y4.2.2.1,y4.2.2.2.1,()),y4.2.2.2.1,()))/\P ((y4.1,y4.2.1,y4.2.2.1,y4.2.2.2.1,()),y4.2.2.2.1,()))/\ ∃(y3:List Int),Cd.fn (p.1,())=some y3/\ ∃(y4:Bx),Dn.fn ((p.1,p.2.1,p.2.2.1,()),y3,())=some y4/\((P ((y4.1,y4.2.1,y4.2.2.1,y4.2.2.2.1,()),y4.2.2.2.1,())/\P ((y4.1,y4.2.1,y4.2.2.1,y4.2.2.2.1,()),y4.2.2.2.1,()))/\P ((y4.1,y4.2.1,y4.2.2.1,y4.2.2.2.1,()),y4.2.2.2.1,()))/\(P ((y4.1,y4.2.1,y4.2.2.1,y4.2.2.2.1,()),y4.2.2.2.1,())/\P ((y4.1,y4.2.1,y4.2.2.1,y4.2.2.2.1,()),y4.2.2.2.1,()))/\P ((y4.1,y4.2.1,y4.2.2.1,y4.2.2.2.1,()),y4.2.2.2.1,()))/\((((∃(y3:List Int),Cd.fn (p.1,())=some y3/\(∃(y4:Bx),Dn.fn ((p.1,p.2.1,p.2.2.1,()),y3,())=some y4/\((P ((y4.1,y4.2.1,y4.2.2.1,y4.2.2.2.1,()),y4.2.2.2.1,())/\P ((y4.1,y4.2.1,y4.2.2.1,y4.2.2.2.1,()),y4.2.2.2.1,()))/\P ((y4.1,y4.2.1,y4.2.2.1,y4.2.2.2.1,()),y4.2.2.2.1,()))/\(P ((y4.1,y4.2.1,y4.2.2.1,y4.2.2.2.1,()),y4.2.2.2.1,())/\P ((y4.1,y4.2.1,y4.2.2.1,y4.2.2.2.1,()),y4.2.2.2.1,()))/\P ((y4.1,y4.2.1,y4.2.2.1,y4.2.2.2.1,()),y4.2.2.2.1,()))/\ ∃(y4:Bx),Dn.fn ((p.1,p.2.1,p.2.2.1,()),y3,())=some y4/\((P ((y4.1,y4.2.1,y4.2.2.1,y4.2.2.2.1,()),y4.2.2.2.1,())/\P ((y4.1,y4.2.1,y4.2.2.1,y4.2.2.2.1,()),y4.2.2.2.1,()))/\P ((y4.1,y4.2.1,y4.2.2.1,y4.2.2.2.1,()),y4.2.2.2.1,()))/\(P ((y4.1,y4.2.1,y4.2.2.1,y4.2.2.2.1,()),y4.2.2.2.1,())/\P ((y4.1,y4.2.1,y4.2.2.1,y4.2.2.2.1,()),y4.2.2.2.1,()))/\P ((y4.1,y4.2.1,y4.2.2.1,y4.2.2.2.1,()),y4.2.2.2.1,()))/\ ∃(y3:List Int),Cd.fn (p.1,())=some y3/\ ∃(y4:Bx),Dn.fn ((p.1,p.2.1,p.2.2.1,()),y3,())=some y4/\((P ((y4.1,y4.2.1,y4.2.2.1,y4.2.2.2.1,()),y4.2.2.2.1,())/\P ((y4.1,y4.2.1,y4.2.2.1,y4.2.2.2.1,()),y4.2.2.2.1,()))/\P ((y4.1,y4.2.1,y4.2.2.1,y4.2.2.2.1,()),y4.2.2.2.1,()))/\(P ((y4.1,y4.2.1,y4.2.2.1,y4.2.2.2.1,()),y4.2.2.2.1,())/\P ((y4.1,y4.2.1,y4.2.2.1,y4.2.2.2.1,()),y4.2.2.2.1,()))/\P ((y4.1,y4.2.1,y4.2.2.1,y4.2.2.2.1,()),y4.2.2.2.1,()))/\ ∃(y3:List Int),Cd.fn (p.1,())=some y3/\ ∃(y4:Bx),Dn.fn ((p.1,p.2.1,p.2.2.1,()),y3,())=some y4/\((P ((y4.1,y4.2.1,y4.2.2.1,y4.2.2.2.1,()),y4.2.2.2.1,())/\P ((y4.1,y4.2.1,y4.2.2.1,y4.2.2.2.1,()),y4.2.2.2.1,()))/\P ((y4.1,y4.2.1,y4.2.2.1,y4.2.2.2.1,()),y4.2.2.2.1,()))/\(P ((y4.1,y4.2.1,y4.2.2.1,y4.2.2.2.1,()),y4.2.2.2.1,())/\P ((y4.1,y4.2.1,y4.2.2.1,y4.2.2.2.1,()),y4.2.2.2.1,()))/\P ((y4.1,y4.2.1,y4.2.2.1,y4.2.2.2.1,()),y4.2.2.2.1,()))/\(((∃(y3:List Int),Cd.fn (p.1,())=some y3/\(∃(y4:Bx),Dn.fn ((p.1,p.2.1,p.2.2.1,()),y3,())=some y4/\((P ((y4.1,y4.2.1,y4.2.2.1,y4.2.2.2.1,()),y4.2.2.2.1,())/\P ((y4.1,y4.2.1,y4.2.2.1,y4.2.2.2.1,()),y4.2.2.2.1,()))/\P ((y4.1,y4.2.1,y4.2.2.1,y4.2.2.2.1,()),y4.2.2.2.1,()))/\(P ((y4.1,y4.2.1,y4.2.2.1,y4.2.2.2.1,()),y4.2.2.2.1,())/\P ((y4.1,y4.2.1,y4.2.2.1,y4.2.2.2.1,()),y4.2.2.2.1,()))/\P ((y4.1,y4.2.1,y4.2.2.1,y4.2.2.2.1,()),y4.2.2.2.1,()))/\ ∃(y4:Bx),Dn.fn ((p.1,p.2.1,p.2.2.1,()),y3,())=some y4/\((P ((y4.1,y4.2.1,y4.2.2.1,y4.2.2.2.1,()),y4.2.2.2.1,())/\P ((y4.1,y4.2.1,y4.2.2.1,y4.2.2.2.1,()),y4.2.2.2.1,()))/\P ((y4.1,y4.2.1,y4.2.2.1,y4.2.2.2.1,()),y4.2.2.2.1,()))/\(P ((y4.1,y4.2.1,y4.2.2.1,y4.2.2.2.1,()),y4.2.2.2.1,())/\P ((y4.1,y4.2.1,y4.2.2.1,y4.2.2.2.1,()),y4.2.2.2.1,()))/\P ((y4.1,y4.2.1,y4.2.2.1,y4.2.2.2.1,()),y4.2.2.2.1,()))/\ ∃(y3:List Int),Cd.fn (p.1,())=some y3/\ ∃(y4:Bx),Dn.fn ((p.1,p.2.1,p.2.2.1,()),y3,())=some y4/\((P ((y4.1,y4.2.1,y4.2.2.1,y4.2.2.2.1,()),y4.2.2.2.1,())/\P ((y4.1,y4.2.1,y4.2.2.1,y4.2.2.2.1,()),y4.2.2.2.1,()))/\P ((y4.1,y4.2.1,y4.2.2.1,y4.2.2.2.1,()),y4.2.2.2.1,()))/\(P ((y4.1,y4.2.1,y4.2.2.1,y4.2.2.2.1,()),y4.2.2.2.1,())/\P ((y4.1,y4.2.1,y4.2.2.1,y4.2.2.2.1,()),y4.2.2.2.1,()))/\P ((y4.1,y4.2.1,y4.2.2.1,y4.2.2.2.1,()),y4.2.2.2.1,()))/\(∃(y3:List Int),Cd.fn (p.1,())=some y3/\((∃(y4:Bx),Dn.fn ((p.1,p.2.1,p.2.2.1,()),y3,())=some y4/\((P ((y4.1,y4.2.1,y4.2.2.1,y4.2.2.2.1,()),y4.2.2.2.1,())/\P ((y4.1,y4.2.1,y4.2.2.1,y4.2.2.2.1,()),y4.2.2.2.1,()))/\P ((y4.1,y4.2.1,y4.2.2.1,y4.2.2.2.1,()),y4.2.2.2.1,()))/\(P ((y4.1,y4.2.1,y4.2.2.1,y4.2.2.2.1,()),y4.2.2.2.1,())/\P ((y4.1,y4.2.1,y4.2.2.1,y4.2.2.2.1,()),y4.2.2.2.1,()))/\P ((y4.1,y4.2.1,y4.2.2.1,y4.2.2.2.1,()),y4.2.2.2.1,()))/\ ∃(y4:Bx),Dn.fn ((p.1,p.2.1,p.2.2.1,()),y3,())=some y4/\((P ((y4.1,y4.2.1,y4.2.2.1,y4.2.2.2.1,()),y4.2.2.2.1,())/\P ((y4.1,y4.2.1,y4.2.2.1,y4.2.2.2.1,()),y4.2.2.2.1,()))/\P ((y4.1,y4.2.1,y4.2.2.1,y4.2.2.2.1,()),y4.2.2.2.1,()))/\(P ((y4.1,y4.2.1,y4.2.2.1,y4.2.2.2.1,()),y4.2.2.2.1,())/\P ((y4.1,y4.2.1,y4.2.2.1,y4.2.2.2.1,()),y4.2.2.2.1,()))/\P ((y4.1,y4.2.1,y4.2.2.1,y4.2.2.2.1,()),y4.2.2.2.1,()))/\ ∃(y4:Bx),Dn.fn ((p.1,p.2.1,p.2.2.1,()),y3,())=some y4/\((P ((y4.1,y4.2.1,y4.2.2.1,y4.2.2.2.1,()),y4.2.2.2.1,())/\P ((y4.1,y4.2.1,y4.2.2.1,y4.2.2.2.1,()),y4.2.2.2.1,()))/\P ((y4.1,y4.2.1,y4.2.2.1,y4.2.2.2.1,()),y4.2.2.2.1,()))/\(P ((y4.1,y4.2.1,y4.2.2.1,y4.2.2.2.1,()),y4.2.2.2.1,())/\P ((y4.1,y4.2.1,y4.2.2.1,y4.2.2.2.1,()),y4.2.2.2.1,()))/\P ((y4.1,y4.2.1,y4.2.2.1,y4.2.2.2.1,()),y4.2.2.2.1,()))/\(∃(y3:List Int),Cd.fn (p.1,())=some y3/\ ∃(y4:Bx),Dn.fn ((p.1,p.2.1,p.2.2.1,()),y3,())=some y4/\((P ((y4.1,y4.2.1,y4.2.2.1,y4.2.2.2.1,()),y4.2.2.2.1,())/\P ((y4.1,y4.2.1,y4.2.2.1,y4.2.2.2.1,()),y4.2.2.2.1,()))/\P ((y4.1,y4.2.1,y4.2.2.1,y4.2.2.2.1,()),y4.2.2.2.1,()))/\(P ((y4.1,y4.2.1,y4.2.2.1,y4.2.2.2.1,()),y4.2.2.2.1,())/\P ((y4.1,y4.2.1,y4.2.2.1,y4.2.2.2.1,()),y4.2.2.2.1,()))/\P ((y4.1,y4.2.1,y4.2.2.1,y4.2.2.2.1,()),y4.2.2.2.1,()))/\ ∃(y3:List Int),Cd.fn (p.1,())=some y3/\ ∃(y4:Bx),Dn.fn ((p.1,p.2.1,p.2.2.1,()),y3,())=some y4/\((P ((y4.1,y4.2.1,y4.2.2.1,y4.2.2.2.1,()),y4.2.2.2.1,())/\P ((y4.1,y4.2.1,y4.2.2.1,y4.2.2.2.1,()),y4.2.2.2.1,()))/\P ((y4.1,y4.2.1,y4.2.2.1,y4.2.2.2.1,()),y4.2.2.2.1,()))/\(P ((y4.1,y4.2.1,y4.2.2.1,y4.2.2.2.1,()),y4.2.2.2.1,())/\P ((y4.1,y4.2.1,y4.2.2.1,y4.2.2.2.1,()),y4.2.2.2.1,()))/\P ((y4.1,y4.2.1,y4.2.2.1,y4.2.2.2.1,()),y4.2.2.2.1,()))/\(∃(y3:List Int),Cd.fn (p.1,())=some y3/\ ∃(y4:Bx),Dn.fn ((p.1,p.2.1,p.2.2.1,()),y3,())=some y4/\((P ((y4.1,y4.2.1,y4.2.2.1,y4.2.2.2.1,()),y4.2.2.2.1,())/\P ((y4.1,y4.2.1,y4.2.2.1,y4.2.2.2.1,()),y4.2.2.2.1,()))/\P ((y4.1,y4.2.1,y4.2.2.1,y4.2.2.2.1,()),y4.2.2.2.1,()))/\(P ((y4.1,y4.2.1,y4.2.2.1,y4.2.2.2.1,()),y4.2.2.2.1,())/\P ((y4.1,y4.2.1,y4.2.2.1,y4.2.2.2.1,()),y4.2.2.2.1,()))/\P ((y4.1,y4.2.1,y4.2.2.1,y4.2.2.2.1,()),y4.2.2.2.1,()))/\(∃(y3:List Int),Cd.fn (p.1,())=some y3/\ ∃(y4:Bx),Dn.fn ((p.1,p.2.1,p.2.2.1,()),y3,())=some y4/\((P ((y4.1,y4.2.1,y4.2.2.1,y4.2.2.2.1,()),y4.2.2.2.1,())/\P ((y4.1,y4.2.1,y4.2.2.1,y4.2.2.2.1,()),y4.2.2.2.1,()))/\P ((y4.1,y4.2.1,y4.2.2.1,y4.2.2.2.1,()),y4.2.2.2.1,()))/\(P ((y4.1,y4.2.1,y4.2.2.1,y4.2.2.2.1,()),y4.2.2.2.1,())/\P ((y4.1,y4.2.1,y4.2.2.1,y4.2.2.2.1,()),y4.2.2.2.1,()))/\P ((y4.1,y4.2.1,y4.2.2.1,y4.2.2.2.1,()),y4.2.2.2.1,()))/\ ∃(y3:List Int),Cd.fn (p.1,())=some y3/\ ∃(y4:Bx),Dn.fn ((p.1,p.2.1,p.2.2.1,()),y3,())=some y4/\((P ((y4.1,y4.2.1,y4.2.2.1,y4.2.2.2.1,()),y4.2.2.2.1,())/\P ((y4.1,y4.2.1,y4.2.2.1,y4.2.2.2.1,()),y4.2.2.2.1,()))/\P ((y4.1,y4.2.1,y4.2.2.1,y4.2.2.2.1,()),y4.2.2.2.1,()))/\(P ((y4.1,y4.2.1,y4.2.2.1,y4.2.2.2.1,()),y4.2.2.2.1,())/\P ((y4.1,y4.2.1,y4.2.2.1,y4.2.2.2.1,()),y4.2.2.2.1,()))/\P ((y4.1,y4.2.1,y4.2.2.1,y4.2.2.2.1,()),y4.2.2.2.1,()))/\(∃(y3:List Int),Cd.fn (p.1,())=some y3/\ ∃(y4:Bx),Dn.fn ((p.1,p.2.1,p.2.2.1,()),y3,())=some y4/\((P ((y4.1,y4.2.1,y4.2.2.1,y4.2.2.2.1,()),y4.2.2.2.1,())/\P ((y4.1,y4.2.1,y4.2.2.1,y4.2.2.2.1,()),y4.2.2.2.1,()))/\P ((y4.1,y4.2.1,y4.2.2.1,y4.2.2.2.1,()),y4.2.2.2.1,()))/\(P ((y4.1,y4.2.1,y4.2.2.1,y4.2.2.2.1,()),y4.2.2.2.1,())/\P ((y4.1,y4.2.1,y4.2.2.1,y4.2.2.2.1,()),y4.2.2.2.1,()))/\P ((y4.1,y4.2.1,y4.2.2.1,y4.2.2.2.1,()),y4.2.2.2.1,()))/\(∃(y3:List Int),Cd.fn (p.1,())=some y3/\ ∃(y4:Bx),Dn.fn ((p.1,p.2.1,p.2.2.1,()),y3,())=some y4/\((P ((y4.1,y4.2.1,y4.2.2.1,y4.2.2.2.1,()),y4.2.2.2.1,())/\P ((y4.1,y4.2.1,y4.2.2.1,y4.2.2.2.1,()),y4.2.2.2.1,()))/\P ((y4.1,y4.2.1,y4.2.2.1,y4.2.2.2.1,()),y4.2.2.2.1,()))/\(P ((y4.1,y4.2.1,y4.2.2.1,y4.2.2.2.1,()),y4.2.2.2.1,())/\P ((y4.1,y4.2.1,y4.2.2.1,y4.2.2.2.1,()),y4.2.2.2.1,()))/\P ((y4.1,y4.2.1,y4.2.2.1,y4.2.2.2.1,()),y4.2.2.2.1,()))/\(∃(y3:List Int),Cd.fn (p.1,())=some y3/\ ∃(y4:Bx),Dn.fn ((p.1,p.2.1,p.2.2.1,()),y3,())=some y4/\((P ((y4.1,y4.2.1,y4.2.2.1,y4.2.2.2.1,()),y4.2.2.2.1,())/\P ((y4.1,y4.2.1,y4.2.2.1,y4.2.2.2.1,()),y4.2.2.2.1,()))/\P ((y4.1,y4.2.1,y4.2.2.1,y4.2.2.2.1,()),y4.2.2.2.1,()))/\(P ((y4.1,y4.2.1,y4.2.2.1,y4.2.2.2.1,()),y4.2.2.2.1,())/\P ((y4.1,y4.2.1,y4.2.2.1,y4.2.2.2.1,()),y4.2.2.2.1,()))/\P ((y4.1,y4.2.1,y4.2.2.1,y4.2.2.2.1,()),y4.2.2.2.1,()))/\ ∃(y3:List Int),Cd.fn (p.1,())=some y3/\ ∃(y4:Bx),Dn.fn ((p.1,p.2.1,p.2.2.1,()),y3,())=some y4/\((P ((y4.1,y4.2.1,y4.2.2.1,y4.2.2.2.1,()),y4.2.2.2.1,())/\P ((y4.1,y4.2.1,y4.2.2.1,y4.2.2.2.1,()),y4.2.2.2.1,()))/\P ((y4.1,y4.2.1,y4.2.2.1,y4.2.2.2.1,()),y4.2.2.2.1,()))/\(P ((y4.1,y4.2.1,y4.2.2.1,y4.2.2.2.1,()),y4.2.2.2.1,())/\P ((y4.1,y4.2.1,y4.2.2.1,y4.2.2.2.1,()),y4.2.2.2.1,()))/\P ((y4.1,y4.2.1,y4.2.2.1,y4.2.2.2.1,()),y4.2.2.2.1,())))=fnW Da (look [(110,Eo),(124,Cd),(112,Dn)]) Kd Try.f75 (p,()) P:=by kernel_rfl
theorem FW (p:Int×ByteArray×List (List Int)×Unit) (f:List (List Int)×List Int×List Int×Bool×Unit) (s:List Int) (P:Bool->Prop):(∃(y4:Bool),Uf.fn ((p.1,p.2.1,p.2.2.1,()),s,())=some y4/\Br y4 (∃(y5:Int),Fh.fn ((f.1,f.2.1,f.2.2.1,f.2.2.2.1,()),s,())=some y5/\P (decide (y5>=(0:Int)))) (P false))=fnW Da (look [(103,Uf),(54,Fh)]) Uc Try.f53 (p,f,s,()) P:=by kernel_rfl
theorem DD {p:List Int} (h:Uk p):Fu p=true:=by
 refine Du.2 ⟨h.pos,h.len,λj h1 h2=>?_⟩
 have:=h.row _ (List.getElem_mem h2)
 exact ⟨by omega,by omega,λhm=>by
  obtain ⟨i,hi,e⟩:=List.mem_iff_getElem.1 hm
  have c9:i<j:=by rw [List.length_take] at hi;omega
  rw [List.getElem_take] at e
  exact (List.pairwise_iff_getElem.1 h.nodup i j (by omega) h2 c9) e⟩
theorem Cu {p:PP} (hw:Cs p=true):Az p=true/\(Fg p.2.2.1 (upto p.1.toNat)).2.2=true:=Bool.and_eq_true_iff.1 hw
theorem x4 {p:PP} (hw:Cs p=true):Reach p (Ab p) (cn p) true:=by
 have h:=Vf (Cu hw).1
 rw [(Cu hw).2] at h
 exact h
theorem jS {p:PP} (hv:Az p=true):Rr p p.1.toNat (Ab p) (cn p):=(Vf hv).ok
theorem HU {p:PP} (hV:Valid p):zW p.1.toNat λg=>some g∈p.2.2.1.map some:=
 ⟨by have:=hV.n;omega,λg Zd=>by obtain ⟨g',e,h⟩:=nz (gw hV).2.2 _ Zd;cases e;exact h⟩
theorem o5 {p:PP} (hv:Az p=true) {x:List Int} (hx:x∈Ab p):Pm p.1.toNat x:=Xl.pm (HU (valid hv)) ((Vf hv).gen x hx)
theorem VV {p:PP} (hV:Valid p) {x:List Int} (h:Pm p.1.toNat x):Ei p.1 x=true:=by
 have:=hV.n
 have:=h.1
 exact Du.2 ⟨by omega,DD h.2⟩
theorem HT {p:PP} (_hV:Valid p) {x:List Int} (h:Ei p.1 x=true):Pm p.1.toNat x:=by
 obtain ⟨h1,h2⟩:=Du.1 h
 exact ⟨by omega,fQ h2⟩
theorem KX {p:PP} (hv:Az p=true) {x:List Int} (hx:x∈Ab p):Ei p.1 x=true:=VV (valid hv) (o5 hv hx)
theorem PQ {p:PP} (hv:Az p=true) {x:List Int} (hx:x∈Ab p):Pz x:= λy hy=>by
 have h1:=(jS hv).row x hx y hy
 have:=(valid hv).n
 omega
theorem PI {n:Nat} {x:List Int} (h:Pm n x):Pz x:= λy hy=>by
 have h1:=h.row y hy
 have:=h.n2
 omega
theorem KJ {n:Nat} {x:List Int} (h:Pm n x):short x:=by
 have h1:=h.1
 have:=h.n2
 unfold short;omega
theorem lB {p:PP} (hw:Cs p=true):(Gt p).2.1=Ab p/\(Gt p).2.2.1=cn p:=by
 have h:=(Cu hw).2
 refine vf 3001 0 ([upto p.1.toNat],[0],[0],[0]) [] _ _ ?_
 show Gl p.2.2.1 (Ag p.2.2.1.length) 3001 0 [upto p.1.toNat] [0]=(Ab p,cn p,true)
 rw [<-h]
 rfl
theorem NL {p:PP} (hw:Cs p=true) {s:List Int} (hs:Pz s):(Gt p).2.2.2.1 (Mc s)=if s∈Ab p then some (((Ab p).idxOf s:Nat):Int) else none:=by
 show Ro (Gt p).2.1 (Mc s)=_
 rw [(lB hw).1,qx hs λy hy=>PQ (Cu hw).1 hy]
theorem VK (e:Option XP) (s:List Int) (h:(∃e':XP,e=some e'/\uw e')/\short s):fnW Da (look [(141,Qz),(128,Eh)]) aw Try.f98 (e,s,()) (λ(z:Int×Bool×Unit)=>z=JN e s):=by
 obtain ⟨⟨e',rfl,h1,h2⟩,hs⟩:=h
 have hv:=(Cu h1).1
 refine Eq.mp (WN (some e') s _) ⟨e',rfl,_,if_pos hs,Br.of (λhb=>?_) λhb=>⟨e',rfl,_,if_pos hs,?_⟩⟩
 ·have hb:=Cv hb
  show (0,false,())=Qr e'.1 s
  unfold Qr
  rw [if_neg λhm=>hb (KX hv hm)]
 ·have hb:Ei e'.1.1 s=true:=by simpa using hb
  have hp:=HT (valid hv) hb
  dsimp only
  have e3:e'.2.2.2.1=(Gt e'.1).2.2.2.1:=by rw [<-h2]
  rw [e3,NL h1 (PI hp)]
  show _=Qr e'.1 s
  unfold Qr
  split<;>rfl
theorem nQ:Sound Try.prog 98 aw:=
 Sound.Di Cb (Ah fW (Ah cV At)) mixed Try.func98 (by kernel_rfl) (by kernel_rfl) λx h=>VK x.1 x.2.1 h
theorem z7 (p:PP) (h:Cp p):fnW Da (look [(110,Eo),(124,Cd),(112,Dn)]) Kd Try.f75 (p,()) (λ(z:SS×Bool×Unit)=>z=Ga p):=by
 refine Eq.mp (zR p _) ⟨_,if_pos h,?_⟩
 show Br (!Az p) _ _
 unfold Ga
 by_cases hv:Az p=true
 ·rw [if_pos hv,hv]
  refine ⟨λhb=>by simp at hb,λ_=>?_⟩
  have hn:=(valid hv).n
  have hid:Cd.fn (p.1,())=some (upto p.1.toNat):=if_pos ⟨by show 0<=p.1;omega,by show p.1<=20;omega⟩
  have SA: ∀y∈upto p.1.toNat,0<=y/\y<p.1:= λy hy=>by have:=Im.1 hy;omega
  have vG:Dn.fn ((p.1,p.2.1,p.2.2.1,()),upto p.1.toNat,())=some (An p.2.2.1 (upto p.1.toNat)):=if_pos ⟨hv,by show (upto p.1.toNat).length<=20;rw [Pr];omega,SA⟩
  have hz:(((An p.2.2.1 (upto p.1.toNat)).1,(An p.2.2.1 (upto p.1.toNat)).2.1,(An p.2.2.1 (upto p.1.toNat)).2.2.1,(An p.2.2.1 (upto p.1.toNat)).2.2.2.1,()),(An p.2.2.1 (upto p.1.toNat)).2.2.2.1,())=(An p.2.2.1 (upto p.1.toNat),Cs p,()):=by
   unfold Cs
   rw [hv,Bool.true_and]
   rfl
  repeat' (first|exact hz|refine ⟨_,hid,?_⟩|refine ⟨_,vG,?_⟩|refine ⟨?_,?_⟩)
 ·rw [if_neg hv]
  refine ⟨λ_=>rfl,λhb=>?_⟩
  exact absurd (by simpa using hb) hv
theorem nY:Sound Try.prog 75 Kd:=
 Sound.Di Cb (Ah Rf (Ah nR (Ah wY At))) mixed Try.func75 (by kernel_rfl) (by kernel_rfl) λx h=>z7 x.1 h
theorem EB (p:PP) (f:SS) (s:List Int) (h:Cp p/\short s/\Az p=true/\f=An p.2.2.1 (upto p.1.toNat)):fnW Da (look [(103,Uf),(54,Fh)]) Uc Try.f53 (p,f,s,()) (λ(z:Bool)=>z=decide (s∈Ab p)):=by
 obtain ⟨hp,hs,hv,rfl⟩:=h
 refine Eq.mp (FW p _ s _) ⟨_,if_pos ⟨hp,hs⟩,?_⟩
 show Br (Az p&&Ei p.1 s) _ _
 rw [hv,Bool.true_and]
 refine Br.of (λhb=>?_) λhb=>?_
 ·have MU:=HT (valid hv) hb
  refine ⟨_,if_pos (by show Db s.length (Ab p) (Tf (Ab p));rw [MU.1];exact (jS hv).ok),?_⟩
  show decide (Si (Ab p) s>=0)=_
  unfold Si
  split
  ·rename_i hm
   rw [decide_eq_true hm]
   exact decide_eq_true (by omega)
  ·rename_i hm
   rw [decide_eq_false hm]
   rfl
 ·exact (decide_eq_false λhm=>by rw [KX hv hm] at hb;cases hb).symm
theorem pC:Sound Try.prog 53 Uc:=
 Sound.Di Cb (Ah iE (Ah Tt At)) mixed Try.func53 (by kernel_rfl) (by kernel_rfl) λx h=>EB x.1 x.2.1 x.2.2.1 h
theorem cZ {p:PP} (hv:Az p=true):(Ab p).length<=3000:=(jS hv).ok.gK
theorem o4 {p:PP} (hp:Cp p) (hw:Cs p=true):Kd.fn ((p.1,p.2.1,p.2.2.1,()),())=some (An p.2.2.1 (upto p.1.toNat),true,()):=
 (if_pos hp).trans (congrArg some ((if_pos (Cu hw).1).trans (by rw [<-hw])))
end Go.Proofs.Ytjbdmibbbpdnnaa

namespace Go.Proofs.Ytjbdmibbbpdnnaa
open Go.RowKit
theorem VW {n:Nat} {q:List Int} (h:Pm n q):q.length<=20:=by have:=h.1;have:=h.n2;omega
theorem KI {p:PP} (hV:Valid p) {q:List Int} (h:Pm p.1.toNat q): ∀y∈q,0<=y/\y<p.1:= λy hy=>by
 have:=h.row y hy
 have:=hV.n
 omega
end Go.Proofs.Ytjbdmibbbpdnnaa

namespace Go.Proofs.Ytjbdmibbbpdnnaa
open Go.RowKit
def Pb (b:ByteArray) (t:List Int):ByteArray:=t.foldl (λa k=>a++b.extract k.toNat (k+1).toNat) ByteArray.empty
def Co (p:PP) (t:List Int):PP:=(p.1,Pb p.2.1 t,t.map λk=>p.2.2.1.getD k.toNat [],())
noncomputable abbrev Rd:Spec:=Di (.pair Ck (.pair tL .unit)) Ck false true (λx=>Cp x.1/\Bl x.1 x.2.1=true) (λx=>Co x.1 x.2.1)
noncomputable abbrev Ly:Spec:=Di (.pair Ck (.pair tL .unit)) Ck false true (λx=>Cp x.1/\Bl x.1 x.2.1=true) (λx=>Co x.1 x.2.1)
abbrev HP:Type:=Option XP×List Int×Option XP×Unit
noncomputable def Ji (p:PP) (t:List Int):Bool:=Cs p&&Bl p t
noncomputable def Fv (p:PP) (t:List Int):HP:=(some (Gt p),t,some (Gt (Co p t)),())
noncomputable abbrev Js:Spec:=Di (.pair Ck (.pair tL .unit)) (.pair (.optr dM) (.pair .bool .unit)) true false (λx=>Cp x.1/\short x.2.1) (λx=>if Ji x.1 x.2.1=true then (some (Fv x.1 x.2.1),true,()) else (none,false,()))
noncomputable abbrev Lm:Spec:=Di (.pair Ck (.pair tL (.pair tL .unit))) (.pair (.optr dM) (.pair tI (.pair .bool .unit))) true false (λx=>Cp x.1/\short x.2.1/\short x.2.2.1)
 (λx=>if Ji x.1 x.2.1=true then (some (Fv x.1 x.2.1),(Qr x.1 x.2.2.1).1,(Qr x.1 x.2.2.1).2.1,()) else (none,0,false,()))
noncomputable def fK (h:Option HP) (i:Int):Bool:=match h with
 |some (some e,t,_)=>decide ((Ab e.1).getD i.toNat []∈Ab (Co e.1 t))
 |_=>false
noncomputable abbrev fT:Spec:=Di (.pair (.optr dM) (.pair tI .unit)) .bool false true (λx=>(∃p t,Ji p t=true/\x.1=some (Fv p t)/\0<=x.2.1/\x.2.1<(Ab p).length)) (λx=>fK x.1 x.2.1)
noncomputable abbrev cO:Spec:=Di (.pair Ck (.pair tL .unit)) (.pair Nc (.pair Nc (.pair .bool .unit))) true false (λx=>Cp x.1/\short x.2.1)
 (λx=>(if Ji x.1 x.2.1=true then (An x.1.2.2.1 (upto x.1.1.toNat),An (Co x.1 x.2.1).2.2.1 (upto x.1.1.toNat),true,()) else ((Ga x.1).1,(Ga x.1).1,false,())))
abbrev kW:Type:=Int×Int×ByteArray×List (List Int)×Int×ByteArray×Int×ByteArray×List (List Int)×List (List Int)×PUnit
theorem zQ (p:Int×ByteArray×List (List Int)×Unit) (t:List Int) (P:(Int×ByteArray×List (List Int)×Unit)->Prop):(0=0/\0=([]:List Int).length/\0=0/\0=([]:List Int).length/\Bs (λ(v3:kW) (k4:kW->Prop)=>Br (decide (v3.1<(↑t.length:Int))) (∃(y5:Int),idx t v3.1=some y5/\((0:Int)<=y5/\y5<=IntKind.i64.wrap (y5+(1:Int))/\IntKind.i64.wrap (y5+(1:Int))<=(↑v3.2.2.1.size:Int))/\v3.2.2.2.2.2.2.2.1.size+(v3.2.2.1.extract y5.toNat (IntKind.i64.wrap (y5+(1:Int))).toNat).size<=4294967296/\ ∃(y6:List Int),idx v3.2.2.2.1 y5=some y6/\ ∃(y7:List Int),Kc.fn (y6,())=some y7/\0=0/\v3.2.2.2.2.2.2.2.2.2.1.length=v3.2.2.2.2.2.2.2.2.2.1.length/\v3.2.2.2.2.2.2.2.2.2.1.length+ [y7].length<=Bj/\0=0/\v3.2.2.2.2.2.2.2.2.1.length=v3.2.2.2.2.2.2.2.2.1.length/\0=0/\(v3.2.2.2.2.2.2.2.2.2.1++ [y7]).length=(v3.2.2.2.2.2.2.2.2.2.1++ [y7]).length/\k4 (IntKind.i64.wrap (v3.1+(1:Int)),v3.2.1,v3.2.2.1,v3.2.2.2.1,v3.2.2.2.2.1,v3.2.2.2.2.2.1,v3.2.2.2.2.2.2.1,v3.2.2.2.2.2.2.2.1++v3.2.2.1.extract y5.toNat (IntKind.i64.wrap (y5+(1:Int))).toNat,v3.2.2.2.2.2.2.2.2.1,v3.2.2.2.2.2.2.2.2.2.1++ [y7],())) (P (v3.2.2.2.2.2.2.1,v3.2.2.2.2.2.2.2.1,List.take v3.2.2.2.2.2.2.2.2.2.1.length (List.drop 0 v3.2.2.2.2.2.2.2.2.2.1),()))) ((0:Int),p.1,p.2.1,p.2.2.1,Int.ofNat (nat_lit 0), {data:= #[]},p.1, {data:= #[]},[],[],PUnit.unit))=fnW Da (look [(123,Kc)]) Rd Try.f102 (p,t,()) P:=by kernel_rfl
abbrev eK:Type:=Int×Int×ByteArray×List (List Int)×Int×ByteArray×Int×ByteArray×List (List Int)×List (List Int)×PUnit
theorem uf (p:Int×ByteArray×List (List Int)×Unit) (t:List Int) (P:(Int×ByteArray×List (List Int)×Unit)->Prop):(0=0/\0=([]:List Int).length/\0=0/\0=([]:List Int).length/\Bs (λ(v3:eK) (k4:eK->Prop)=>Br (decide (v3.1<(↑t.length:Int))) (∃(y5:Int),idx t v3.1=some y5/\((0:Int)<=y5/\y5<=IntKind.i64.wrap (y5+(1:Int))/\IntKind.i64.wrap (y5+(1:Int))<=(↑v3.2.2.1.size:Int))/\v3.2.2.2.2.2.2.2.1.size+(v3.2.2.1.extract y5.toNat (IntKind.i64.wrap (y5+(1:Int))).toNat).size<=4294967296/\ ∃(y6:List Int),idx v3.2.2.2.1 y5=some y6/\ ∃(y7:List Int),iy.fn (y6,())=some y7/\0=0/\v3.2.2.2.2.2.2.2.2.2.1.length=v3.2.2.2.2.2.2.2.2.2.1.length/\v3.2.2.2.2.2.2.2.2.2.1.length+ [y7].length<=Bj/\0=0/\v3.2.2.2.2.2.2.2.2.1.length=v3.2.2.2.2.2.2.2.2.1.length/\0=0/\(v3.2.2.2.2.2.2.2.2.2.1++ [y7]).length=(v3.2.2.2.2.2.2.2.2.2.1++ [y7]).length/\k4 (IntKind.i64.wrap (v3.1+(1:Int)),v3.2.1,v3.2.2.1,v3.2.2.2.1,v3.2.2.2.2.1,v3.2.2.2.2.2.1,v3.2.2.2.2.2.2.1,v3.2.2.2.2.2.2.2.1++v3.2.2.1.extract y5.toNat (IntKind.i64.wrap (y5+(1:Int))).toNat,v3.2.2.2.2.2.2.2.2.1,v3.2.2.2.2.2.2.2.2.2.1++ [y7],())) (P (v3.2.2.2.2.2.2.1,v3.2.2.2.2.2.2.2.1,List.take v3.2.2.2.2.2.2.2.2.2.1.length (List.drop 0 v3.2.2.2.2.2.2.2.2.2.1),()))) ((0:Int),p.1,p.2.1,p.2.2.1,Int.ofNat (nat_lit 0), {data:= #[]},p.1, {data:= #[]},[],[],PUnit.unit))=fnW Da (look [(145,iy)]) Ly Try.f107 (p,t,()) P:=by kernel_rfl
abbrev iH:Type:=Option ((Int×ByteArray×List (List Int)×PUnit)×List (List Int)×List Int×(ByteArray->Option Int)×List Int×List Int×List (List Int)×PUnit)×Bool×PUnit
theorem kZ (p:Int×ByteArray×List (List Int)×Unit) (t:List Int) (P:(Option (Option XP×List Int×Option XP×Unit)×Bool×Unit)->Prop):(∃(y3:iH),Kq.fn ((p.1,p.2.1,p.2.2.1,()),())=some y3/\Br (!y3.2.1) (P (none,false,())) (∃(y4:Bool),Es.fn ((p.1,p.2.1,p.2.2.1,()),t,())=some y4/\Br (!y4) (P (none,false,())) (∃(y5:Int×ByteArray×List (List Int)×PUnit),Ly.fn ((p.1,p.2.1,p.2.2.1,()),t,())=some y5/\ ∃(y6:iH),Kq.fn (y5,())=some y6/\P (some (y3.1,t,y6.1,()),true,()))))=fnW Da (look [(80,Kq),(106,Es),(107,Ly)]) Js Try.f57 (p,t,()) P:=by kernel_rfl
theorem oA (p:Int×ByteArray×List (List Int)×Unit) (t s:List Int) (P:(Option (Option XP×List Int×Option XP×Unit)×Int×Bool×Unit)->Prop):(∃(y4:Option (Option ((Int×ByteArray×List (List Int)×PUnit)×List (List Int)×List Int×(ByteArray->Option Int)×List Int×List Int×List (List Int)×PUnit)×List Int×Option ((Int×ByteArray×List (List Int)×PUnit)×List (List Int)×List Int×(ByteArray->Option Int)×List Int×List Int×List (List Int)×PUnit)×PUnit)×Bool×PUnit),Js.fn ((p.1,p.2.1,p.2.2.1,()),t,())=some y4/\Br (!y4.2.1) (P (none,(0:Int),false,())) (∃(y5:Option ((Int×ByteArray×List (List Int)×PUnit)×List (List Int)×List Int×(ByteArray->Option Int)×List Int×List Int×List (List Int)×PUnit)×List Int×Option ((Int×ByteArray×List (List Int)×PUnit)×List (List Int)×List Int×(ByteArray->Option Int)×List Int×List Int×List (List Int)×PUnit)×PUnit),y4.1=some y5/\ ∃(y6:Int×Bool×PUnit),aw.fn (y5.1,s,())=some y6/\P (y4.1,y6.1,y6.2.1,())))=fnW Da (look [(57,Js),(98,aw)]) Lm Try.f55 (p,t,s,()) P:=by kernel_rfl
abbrev BW:Type:=Option ((Int×ByteArray×List (List Int)×PUnit)×List (List Int)×List Int×(ByteArray->Option Int)×List Int×List Int×List (List Int)×PUnit)×List Int×Option ((Int×ByteArray×List (List Int)×PUnit)×List (List Int)×List Int×(ByteArray->Option Int)×List Int×List Int×List (List Int)×PUnit)×PUnit
theorem WO (h:Option (Option XP×List Int×Option XP×Unit)) (i:Int) (P:Bool->Prop):(∃(y3:BW),h=some y3/\ ∃(y4:BW),h=some y4/\ ∃(y5:(Int×ByteArray×List (List Int)×PUnit)×List (List Int)×List Int×(ByteArray->Option Int)×List Int×List Int×List (List Int)×PUnit),y4.1=some y5/\ ∃(y6:List Int),idx y5.2.1 i=some y6/\ ∃(y7:Int×Bool×PUnit),aw.fn (y3.2.2.1,y6,())=some y7/\P y7.2.1)=fnW Da (look [(98,aw)]) fT Try.f56 (h,i,()) P:=by kernel_rfl
abbrev BU:Type:=(List (List Int)×List Int×List Int×Bool×PUnit)×Bool×PUnit
theorem WL (p:Int×ByteArray×List (List Int)×Unit) (t:List Int) (P:(SS×SS×Bool×Unit)->Prop):(∃(y3:BU),Kd.fn ((p.1,p.2.1,p.2.2.1,()),())=some y3/\Br (!y3.2.1) ((P ((y3.1.1,y3.1.2.1,y3.1.2.2.1,y3.1.2.2.2.1,()),(y3.1.1,y3.1.2.1,y3.1.2.2.1,y3.1.2.2.2.1,()),false,())/\P ((y3.1.1,y3.1.2.1,y3.1.2.2.1,y3.1.2.2.2.1,()),(y3.1.1,y3.1.2.1,y3.1.2.2.1,y3.1.2.2.2.1,()),false,()))/\P ((y3.1.1,y3.1.2.1,y3.1.2.2.1,y3.1.2.2.2.1,()),(y3.1.1,y3.1.2.1,y3.1.2.2.1,y3.1.2.2.2.1,()),false,())) (∃(y4:Bool),Es.fn ((p.1,p.2.1,p.2.2.1,()),t,())=some y4/\Br (!y4) ((P ((y3.1.1,y3.1.2.1,y3.1.2.2.1,y3.1.2.2.2.1,()),(y3.1.1,y3.1.2.1,y3.1.2.2.1,y3.1.2.2.2.1,()),false,())/\P ((y3.1.1,y3.1.2.1,y3.1.2.2.1,y3.1.2.2.2.1,()),(y3.1.1,y3.1.2.1,y3.1.2.2.1,y3.1.2.2.2.1,()),false,()))/\P ((y3.1.1,y3.1.2.1,y3.1.2.2.1,y3.1.2.2.2.1,()),(y3.1.1,y3.1.2.1,y3.1.2.2.1,y3.1.2.2.2.1,()),false,())) (∃(y5:Int×ByteArray×List (List Int)×PUnit),Rd.fn ((p.1,p.2.1,p.2.2.1,()),t,())=some y5/\ ∃(y6:BU),Kd.fn (y5,())=some y6/\(P ((y3.1.1,y3.1.2.1,y3.1.2.2.1,y3.1.2.2.2.1,()),(y6.1.1,y6.1.2.1,y6.1.2.2.1,y6.1.2.2.2.1,()),true,())/\P ((y3.1.1,y3.1.2.1,y3.1.2.2.1,y3.1.2.2.2.1,()),(y6.1.1,y6.1.2.1,y6.1.2.2.1,y6.1.2.2.2.1,()),true,()))/\P ((y3.1.1,y3.1.2.1,y3.1.2.2.1,y3.1.2.2.2.1,()),(y6.1.1,y6.1.2.1,y6.1.2.2.1,y6.1.2.2.2.1,()),true,()))))=fnW Da (look [(75,Kd),(101,Es),(102,Rd)]) cO Try.f52 (p,t,()) P:=by kernel_rfl
theorem xO (b:ByteArray) (i:Nat):b[i]?=b.data[i]?:=by
 by_cases h:i<b.size
 ·rw [getElem?_pos b i h,getElem?_pos b.data i h];rfl
 ·rw [getElem?_neg b i h,getElem?_neg b.data i h]
theorem SU (a b:ByteArray) (k j:Nat) (hk:k<b.size):(a++b.extract k (k+1))[j]?=if j<a.size then a[j]? else if j=a.size then b[k]? else none:=by
 rw [xO,ByteArray.data_append,ByteArray.data_extract,Array.getElem?_append]
 by_cases h:j<a.size
 ·rw [if_pos h,if_pos (show j<a.data.size from h),xO]
 ·rw [if_neg h,if_neg (show ¬j<a.data.size from h)]
  have gi:k<b.data.size:=hk
  by_cases e:j=a.size
  ·rw [if_pos e,xO]
   have:j-a.data.size=0:=by have:a.data.size=a.size:=rfl
                            omega
   rw [this,Array.getElem?_extract,if_pos (by omega),Nat.add_zero]
  ·rw [if_neg e,Array.getElem?_extract,if_neg]
   have:a.data.size=a.size:=rfl
   omega
theorem tK {b:ByteArray} : ∀(t:List Int) (a:ByteArray),(∀k∈t,0<=k/\k<b.size)->
  (t.foldl (λ(a:ByteArray) (k:Int)=>a++b.extract k.toNat (k+1).toNat) a).size=a.size+t.length/\
  ∀j,(t.foldl (λ(a:ByteArray) (k:Int)=>a++b.extract k.toNat (k+1).toNat) a)[j]?=if j<a.size then a[j]? else (t[j-a.size]?).bind λk=>b[k.toNat]?
 | [],a,_=>by
  refine ⟨rfl,λj=>?_⟩
  by_cases h:j<a.size
  ·rw [if_pos h];rfl
  ·rw [if_neg h]
   simp only [List.foldl_nil,List.getElem?_nil,Option.bind_none]
   exact getElem?_neg a j h
 |k::t,a,h=>by
  obtain ⟨h1,h2⟩:=h k (by simp)
  obtain ⟨kn,rfl⟩:=Int.eq_ofNat_of_zero_le h1
  have hkb:kn<b.size:=by omega
  have Ps:(a++b.extract kn (kn+1)).size=a.size+1:=by rw [ByteArray.size_append,ByteArray.size_extract];omega
  obtain ⟨g1,g2⟩:=tK t (a++b.extract kn (kn+1)) λk' gi=>h k' (List.mem_cons_of_mem _ gi)
  simp only [List.foldl_cons]
  rw [show ((kn:Nat):Int).toNat=kn from Int.toNat_natCast kn,show (((kn:Nat):Int)+1).toNat=kn+1 by omega]
  refine ⟨by rw [g1,Ps,List.length_cons];omega,λj=>?_⟩
  rw [g2 j,Ps,SU a b kn j hkb]
  by_cases e1:j<a.size
  ·rw [if_pos (by omega),if_pos e1,if_pos e1]
  ·rw [if_neg e1]
   by_cases e2:j=a.size
   ·subst e2
    rw [if_pos (by omega),if_pos rfl,if_neg (by omega),Nat.sub_self]
    simp
   ·rw [if_neg (by omega),if_neg e1,show j-a.size=(j-(a.size+1))+1 by omega,List.getElem?_cons_succ]
theorem dL {b:ByteArray} (t:List Int) (h: ∀k∈t,0<=k/\k<b.size):(Pb b t).size=t.length:=by
 have:=(tK t ByteArray.empty h).1
 rw [ByteArray.size_empty,Nat.zero_add] at this
 exact this
theorem x6 {b:ByteArray} (t:List Int) (h: ∀k∈t,0<=k/\k<b.size) (j:Nat):(Pb b t)[j]?=(t[j]?).bind λk=>b[k.toNat]?:=by
 have:=(tK t ByteArray.empty h).2 j
 rw [ByteArray.size_empty,if_neg (Nat.not_lt_zero _),Nat.sub_zero] at this
 exact this
theorem rh (b:ByteArray) {t:List Int} {j:Nat} (hl:j<t.length):Pb b (t.take (j+1))=Pb b (t.take j)++b.extract (t[j]).toNat (t[j]+1).toNat:=by
 unfold Pb
 rw [List.take_add_one,List.getElem?_eq_getElem hl,Option.toList_some,List.foldl_append]
 rfl
structure HB (p:PP) (t:List Int):Prop where
 valid:Az p=true
 pos:0<t.length
 gK:t.length<=p.2.2.1.length
 g8:p.2.2.1.length<=8
 size:p.2.1.size=p.2.2.1.length
 Nh: ∀ {j:Nat} (h:j<t.length),∃k:Nat,t[j]=(k:Int)/\k<p.2.2.1.length
 inc: ∀ {i j:Nat} (hi:i<t.length) (hj:j<t.length),i<j->t[i]<t[j]
theorem KH {n:Int} {xs:List Int} (h:PL n xs xs.length): ∀(j i:Nat) (hi:i<xs.length) (hj:j<xs.length),i<j->xs[i]<xs[j]
 |0,_,_,_,ei=>absurd ei (Nat.not_lt_zero _)
 |j+1,i,hi,hj,ei=>by
  have h1:=(h (j+1) hj hj).2.2 (by omega)
  simp only [Nat.add_sub_cancel] at h1
  by_cases e:i=j
  ·subst e;exact h1
  ·have:=KH h j i hi (by omega) (by omega)
   omega
theorem o8 {p:PP} {t:List Int} (h:Bl p t=true):HB p t:=by
 obtain ⟨hv,hp⟩:=Du.1 h
 obtain ⟨h1,h2⟩:=Du.1 hp
 have hV:=valid hv
 obtain ⟨_,_,Ps⟩:=Du.1 hv
 have NT: ∀ {j:Nat} (h:j<t.length),∃k:Nat,t[j]=(k:Int)/\k<p.2.2.1.length:= λ {j} hj=>by
  have:=h2 j hj hj
  obtain ⟨k,hk⟩:=Int.eq_ofNat_of_zero_le this.1
  exact ⟨k,hk,by omega⟩
 refine ⟨hv,h1,?_,hV.gK.2,Ps,NT,λhi hj ei=>KH h2 _ _ hi hj ei⟩
 have h5:=z9 h2 (t.length-1) (by omega)
 obtain ⟨k,e,hk⟩:=NT (show t.length-1<t.length by omega)
 omega
theorem HB.YA {p:PP} {t:List Int} (h:HB p t): ∀k∈t,0<=k/\k<p.2.1.size:= λk hk=>by
 obtain ⟨j,hj,rfl⟩:=List.mem_iff_getElem.1 hk
 obtain ⟨kn,e,mK⟩:=h.Nh hj
 rw [h.size,e]
 omega
theorem fY {p:PP} {t:List Int} (h:Bl p t=true):Az (Co p t)=true:=by
 have hs:=o8 h
 have hV:=valid hs.valid
 obtain ⟨hg,hnm,_⟩:=Du.1 hs.valid
 obtain ⟨g1,g2,g3⟩:=Du.1 hg
 obtain ⟨n1,n2⟩:=Du.1 hnm
 have Ps:=dL t hs.YA
 refine Du.2 ⟨Du.2 ⟨g1,?_,λq hq=>?_⟩,Du.2 ⟨⟨?_,?_⟩,λj hj=>?_⟩,?_⟩
 ·show (t.map _).length<=8
  rw [List.length_map]
  have:=hs.gK
  have:=hs.g8
  omega
 ·obtain ⟨k,hk,rfl⟩:=List.mem_map.1 hq
  obtain ⟨j,hj,rfl⟩:=List.mem_iff_getElem.1 hk
  obtain ⟨kn,e,mK⟩:=hs.Nh hj
  rw [e,Int.toNat_natCast,Dk mK]
  exact g3 _ (List.getElem_mem mK)
 ·show 1<=(Pb p.2.1 t).size
  rw [Ps];exact hs.pos
 ·show (Pb p.2.1 t).size<=8
  rw [Ps];have:=hs.gK;have:=hs.g8;omega
 ·have hj:j<t.length:=by rw [<-Ps];exact hj
  obtain ⟨kn,e,mK⟩:=hs.Nh hj
  obtain ⟨c,c1,c2,c3,c4⟩:=n2 kn (by rw [hs.size];exact mK)
  refine ⟨c,?_,c2,c3,λi hi=>?_⟩
  ·show (Pb p.2.1 t)[j]?=some c
   rw [x6 t hs.YA,List.getElem?_eq_getElem hj,e,Option.bind_some,Int.toNat_natCast,c1]
  ·show (Pb p.2.1 t)[i]?≠some c
   have c9:i<t.length:=by omega
   obtain ⟨k2,e2,MO⟩:=hs.Nh c9
   have:=hs.inc c9 hj hi
   rw [x6 t hs.YA,List.getElem?_eq_getElem c9,e2,Option.bind_some,Int.toNat_natCast]
   exact c4 k2 (by omega)
 ·show (Pb p.2.1 t).size=(t.map _).length
  rw [Ps,List.length_map]
theorem o7 {p:PP} {t:List Int} (hp:Cp p) (h:Bl p t=true):Cp (Co p t):=by
 have hs:=o8 h
 have h1:=hs.gK
 have h2:=hs.g8
 refine ⟨?_,?_,λq hq=>?_⟩
 ·show (Pb p.2.1 t).size<=4294967296
  rw [dL t hs.YA];omega
 ·show (t.map _).length<=4294967296
  rw [List.length_map];omega
 ·obtain ⟨k,hk,rfl⟩:=List.mem_map.1 hq
  obtain ⟨j,hj,rfl⟩:=List.mem_iff_getElem.1 hk
  obtain ⟨kn,e,mK⟩:=hs.Nh hj
  rw [e,Int.toNat_natCast,Dk mK]
  exact hp.2.2 _ (List.getElem_mem mK)
theorem BT {p:PP} {t:List Int} (h:Bl p t=true) {x:List Int} (hx:Gn p.1.toNat ((Co p t).2.2.1.map some) x):Gn p.1.toNat (p.2.2.1.map some) x:=by
 refine Xl.mono (λg hg=>?_) hx
 have hg:=Yw.1 hg
 obtain ⟨k,hk,rfl⟩:=List.mem_map.1 hg
 obtain ⟨j,hj,rfl⟩:=List.mem_iff_getElem.1 hk
 obtain ⟨kn,e,mK⟩:=(o8 h).Nh hj
 rw [e,Int.toNat_natCast,Dk mK]
 exact Yw.2 (List.getElem_mem mK)
theorem jU {p:PP} {t:List Int} (hw:Cs p=true) (h:Bl p t=true):Cs (Co p t)=true:=by
 have xE:=fY h
 have hr:=Vf xE
 refine Bool.and_eq_true_iff.2 ⟨xE,Classical.byContradiction λhn=>?_⟩
 have hn:(Fg (Co p t).2.2.1 (upto (Co p t).1.toNat)).2.2=false:=by simpa using hn
 obtain ⟨h1,z,h2,h3⟩:=hr.big hn
 have h5:=cv (l1:=z::(Fg (Co p t).2.2.1 (upto (Co p t).1.toNat)).1) (l2:=Ab p) (List.nodup_cons.2 ⟨h3,hr.nodup⟩) λx hx=>by
  rcases List.mem_cons.1 hx with rfl|hx
  ·exact (x4 hw).all rfl _ (BT h h2)
  ·exact (x4 hw).all rfl _ (BT h (hr.gen x hx))
 have h6:=cZ (Cu hw).1
 simp only [List.length_cons] at h5
 omega
theorem map_take {α β:Type} (f:α->β) {xs:List α} {j:Nat} (h:j<xs.length):(xs.take (j+1)).map f=(xs.take j).map f++ [f xs[j]]:=by
 rw [List.take_add_one,List.getElem?_eq_getElem h,List.map_append];rfl
theorem z6 (p:PP) (t:List Int) (h:Cp p/\Bl p t=true):fnW Da (look [(123,Kc)]) Rd Try.f102 (p,t,()) (λ(z:PP)=>z=Co p t):=by
 obtain ⟨hp,Nj⟩:=h
 have hs:=o8 Nj
 refine Eq.mp (zQ p t _) ⟨rfl,rfl,rfl,rfl,?_⟩
 refine Aq t.length (λv=>v.1) (λj v=>v=((j:Int),p.1,p.2.1,p.2.2.1,0,ByteArray.empty,p.1,Pb p.2.1 (t.take j),[],(t.take j).map λk=>p.2.2.1.getD k.toNat [],())) rfl rfl ?_
 rintro j v K hj hi hR hK
 subst hR
 dsimp only
 have hlen:=hs.gK
 have hg8:=hs.g8
 refine Br.dec (λhl=>?_) λhl=>?_
 ·have hl:j<t.length:=by omega
  obtain ⟨kn,hk,mK⟩:=hs.Nh hl
  have hkb:kn<p.2.1.size:=by rw [hs.size];exact mK
  have hw:IntKind.i64.wrap ((kn:Int)+1)=(kn:Int)+1:=Bt (by have:=hs.g8;omega) (by have:=hs.g8;omega)
  have Ps:=dL (b:=p.2.1) (t.take j) λk gi=>hs.YA k (List.mem_of_mem_take gi)
  have hex:(p.2.1.extract kn (kn+1)).size=1:=by rw [ByteArray.size_extract];omega
  refine ⟨_,Av hl,?_⟩
  rw [hk,hw]
  refine ⟨⟨by omega,by omega,by omega⟩,by rw [show ((kn:Int)+1).toNat=kn+1 by omega,Int.toNat_natCast,hex,Ps];have:=List.length_take_le j t;omega,_,Av mK,_,if_pos (hp.2.2 _ (List.getElem_mem mK)),rfl,rfl,?_,rfl,rfl,rfl,rfl,?_⟩
  ·show ((t.take j).map _).length+1<=4294967296
   rw [List.length_map];have:=List.length_take_le j t;have:=hs.g8;omega
  ·rw [Ao (by omega),show ((kn:Int)+1).toNat=kn+1 by omega,Int.toNat_natCast]
   refine hK hl _ rfl ?_
   rw [rh _ hl,map_take _ hl,hk,Int.toNat_natCast,show ((kn:Int)+1).toNat=kn+1 by omega,Dk mK]
 ·have:j=t.length:=by omega
  subst this
  rw [List.take_length,Bh]
  rfl
theorem nW:Sound Try.prog 102 Rd:=
 Sound.Di Cb (Ah cR At) mixed Try.func102 (by kernel_rfl) (by kernel_rfl) λx h=>z6 x.1 x.2.1 h
theorem sR (p:PP) (t:List Int) (h:Cp p/\Bl p t=true):fnW Da (look [(145,iy)]) Ly Try.f107 (p,t,()) (λ(z:PP)=>z=Co p t):=by
 obtain ⟨hp,Nj⟩:=h
 have hs:=o8 Nj
 refine Eq.mp (uf p t _) ⟨rfl,rfl,rfl,rfl,?_⟩
 refine Aq t.length (λv=>v.1) (λj v=>v=((j:Int),p.1,p.2.1,p.2.2.1,0,ByteArray.empty,p.1,Pb p.2.1 (t.take j),[],(t.take j).map λk=>p.2.2.1.getD k.toNat [],())) rfl rfl ?_
 rintro j v K hj hi hR hK
 subst hR
 dsimp only
 have hlen:=hs.gK
 have hg8:=hs.g8
 refine Br.dec (λhl=>?_) λhl=>?_
 ·have hl:j<t.length:=by omega
  obtain ⟨kn,hk,mK⟩:=hs.Nh hl
  have hkb:kn<p.2.1.size:=by rw [hs.size];exact mK
  have hw:IntKind.i64.wrap ((kn:Int)+1)=(kn:Int)+1:=Bt (by have:=hs.g8;omega) (by have:=hs.g8;omega)
  have Ps:=dL (b:=p.2.1) (t.take j) λk gi=>hs.YA k (List.mem_of_mem_take gi)
  have hex:(p.2.1.extract kn (kn+1)).size=1:=by rw [ByteArray.size_extract];omega
  refine ⟨_,Av hl,?_⟩
  rw [hk,hw]
  refine ⟨⟨by omega,by omega,by omega⟩,by rw [show ((kn:Int)+1).toNat=kn+1 by omega,Int.toNat_natCast,hex,Ps];have:=List.length_take_le j t;omega,_,Av mK,_,if_pos (hp.2.2 _ (List.getElem_mem mK)),rfl,rfl,?_,rfl,rfl,rfl,rfl,?_⟩
  ·show ((t.take j).map _).length+1<=4294967296
   rw [List.length_map];have:=List.length_take_le j t;have:=hs.g8;omega
  ·rw [Ao (by omega),show ((kn:Int)+1).toNat=kn+1 by omega,Int.toNat_natCast]
   refine hK hl _ rfl ?_
   rw [rh _ hl,map_take _ hl,hk,Int.toNat_natCast,show ((kn:Int)+1).toNat=kn+1 by omega,Dk mK]
 ·have:j=t.length:=by omega
  subst this
  rw [List.take_length,Bh]
  rfl
theorem jR:Sound Try.prog 107 Ly:=
 Sound.Di Cb (Ah tt At) mixed Try.func107 (by kernel_rfl) (by kernel_rfl) λx h=>sR x.1 x.2.1 h
theorem Jj {p:PP} {t:List Int} :Ji p t=true↔Cs p=true/\Bl p t=true:=by unfold Ji;rw [Bool.and_eq_true]
theorem wG (p:PP) (t:List Int) (h:Cp p/\short t):fnW Da (look [(80,Kq),(106,Es),(107,Ly)]) Js Try.f57 (p,t,()) (λ(z:Option (Option XP×List Int×Option XP×Unit)×Bool×Unit)=>z=(if Ji p t=true then (some (Fv p t),true,()) else (none,false,()))):=by
 obtain ⟨hp,ht⟩:=h
 by_cases hw:Cs p=true
 ·have he:Kq.fn ((p.1,p.2.1,p.2.2.1,()),())=some (some (Gt p),true,()):=(if_pos hp).trans (congrArg some (if_pos hw))
  refine Eq.mp (kZ p t _) ⟨_,he,λhb=>by simp at hb,λ_=>⟨_,if_pos ⟨hp,ht⟩,Br.of (λhm=>?_) λhm=>?_⟩⟩
  ·have hm: ¬Bl p t=true:=Cv hm
   rw [if_neg λh=>hm (Jj.1 h).2]
  have hm:Bl p t=true:=by simpa using hm
  have hws:=jU hw hm
  have Zc:Kq.fn (Co p t,())=some (some (Gt (Co p t)),true,()):=(if_pos (o7 hp hm)).trans (congrArg some (if_pos hws))
  rw [if_pos (Jj.2 ⟨hw,hm⟩)]
  exact ⟨_,if_pos ⟨hp,hm⟩,_,Zc,rfl⟩
 ·have he:Kq.fn ((p.1,p.2.1,p.2.2.1,()),())=some (none,false,()):=(if_pos hp).trans (congrArg some (if_neg hw))
  rw [if_neg λh=>hw (Jj.1 h).1]
  exact Eq.mp (kZ p t _) ⟨_,he,λ_=>rfl,λhb=>by simp at hb⟩
theorem lu:Sound Try.prog 57 Js:=
 Sound.Di Cb (Ah pB (Ah cS (Ah jR At))) mixed Try.func57 (by kernel_rfl) (by kernel_rfl) λx h=>wG x.1 x.2.1 h
theorem yZ (p:PP) (t s:List Int) (h:Cp p/\short t/\short s):fnW Da (look [(57,Js),(98,aw)]) Lm Try.f55 (p,t,s,()) (λ(z:Option (Option XP×List Int×Option XP×Unit)×Int×Bool×Unit)=>z=(if Ji p t=true then (some (Fv p t),(Qr p s).1,(Qr p s).2.1,()) else (none,0,false,()))):=by
 obtain ⟨hp,ht,hs⟩:=h
 by_cases hw:Ji p t=true
 ·have he:Js.fn ((p.1,p.2.1,p.2.2.1,()),t,())=some (some (Fv p t),true,()):=(if_pos ⟨hp,ht⟩).trans (congrArg some (if_pos hw))
  rw [if_pos hw]
  refine Eq.mp (oA p t s _) ⟨_,he,λhb=>by simp at hb,λ_=>⟨_,rfl,_,if_pos ⟨⟨Gt p,rfl,(Jj.1 hw).1,rfl⟩,hs⟩,?_⟩⟩
  rfl
 ·have he:Js.fn ((p.1,p.2.1,p.2.2.1,()),t,())=some (none,false,()):=(if_pos ⟨hp,ht⟩).trans (congrArg some (if_neg hw))
  rw [if_neg hw]
  exact Eq.mp (oA p t s _) ⟨_,he,λ_=>rfl,λhb=>by simp at hb⟩
theorem nU:Sound Try.prog 55 Lm:=
 Sound.Di Cb (Ah lu (Ah nQ At)) mixed Try.func55 (by kernel_rfl) (by kernel_rfl) λx h=>yZ x.1 x.2.1 x.2.2.1 h
theorem VL (h:Option HP) (i:Int) (hh: ∃p t,Ji p t=true/\h=some (Fv p t)/\0<=i/\i<(Ab p).length):fnW Da (look [(98,aw)]) fT Try.f56 (h,i,()) (λ(z:Bool)=>z=fK h i):=by
 obtain ⟨p,t,hw,rfl,h1,h2⟩:=hh
 obtain ⟨k,rfl⟩:=Int.eq_ofNat_of_zero_le h1
 have hk:k<(Ab p).length:=by omega
 obtain ⟨qk,hm⟩:=Jj.1 hw
 have Qn:=(lB qk).1
 refine Eq.mp (WO _ _ _) ⟨Fv p t,rfl,Fv p t,rfl,Gt p,rfl,(Ab p)[k],by rw [Qn];exact Av hk,_,if_pos ⟨⟨Gt (Co p t),rfl,jU qk hm,rfl⟩,KJ (o5 (Cu qk).1 (List.getElem_mem hk))⟩,?_⟩
 show (Qr (Co p t) (Ab p)[k]).2.1=decide ((Ab p).getD ((k:Nat):Int).toNat []∈Ab (Co p t))
 rw [Int.toNat_natCast,Dk hk]
 unfold Qr
 split
 ·rename_i h;rw [decide_eq_true h]
 ·rename_i h;rw [decide_eq_false h]
theorem zw:Sound Try.prog 56 fT:=
 Sound.Di Cb (Ah nQ At) mixed Try.func56 (by kernel_rfl) (by kernel_rfl) λx h=>VL x.1 x.2.1 h
theorem Ab2 {p:PP} {s:List Int} :(Qr p s).2.1=decide (s∈Ab p):=by
 unfold Qr
 split
 ·rename_i h;rw [decide_eq_true h]
 ·rename_i h;rw [decide_eq_false h]
theorem Ab1 {p:PP} {s:List Int} (h:s∈Ab p):0<=(Qr p s).1/\(Qr p s).1<(Ab p).length/\(Ab p).getD (Qr p s).1.toNat []=s:=by
 unfold Qr
 rw [if_pos h]
 have h1:=List.idxOf_lt_length_of_mem h
 refine ⟨Int.natCast_nonneg _,by show ((List.idxOf s (Ab p):Nat):Int)<_;omega,?_⟩
 show (Ab p).getD ((List.idxOf s (Ab p):Nat):Int).toNat []=s
 rw [Int.toNat_natCast,Dk h1]
 exact List.getElem_idxOf h1
theorem VI (p:PP) (t:List Int) (h:Cp p/\short t):fnW Da (look [(75,Kd),(101,Es),(102,Rd)]) cO Try.f52 (p,t,()) (λ(z:SS×SS×Bool×Unit)=>z=(if Ji p t=true then (An p.2.2.1 (upto p.1.toNat),An (Co p t).2.2.1 (upto p.1.toNat),true,()) else ((Ga p).1,(Ga p).1,false,()))):=by
 obtain ⟨hp,ht⟩:=h
 refine Eq.mp (WL p t _) ⟨_,if_pos hp,?_⟩
 have hz: ∀(x:SS),((x.1,x.2.1,x.2.2.1,x.2.2.2.1,()),(x.1,x.2.1,x.2.2.1,x.2.2.2.1,()),false,())=(x,x,false,()):= λx=>rfl
 dsimp only
 by_cases hw:Cs p=true
 ·have hv:=(Cu hw).1
  have e1:Ga (p.1,p.2.1,p.2.2.1,())=(An p.2.2.1 (upto p.1.toNat),true,()):=(if_pos hv).trans (by rw [<-hw])
  rw [e1]
  refine ⟨λhb=>by simp at hb,λ_=>⟨_,if_pos ⟨hp,ht⟩,Br.of (λhm=>?_) λhm=>?_⟩⟩
  ·have hm: ¬Bl p t=true:=Cv hm
   rw [if_neg λh=>hm (Jj.1 h).2]
   exact ⟨⟨rfl,rfl⟩,rfl⟩
  have hm:Bl p t=true:=by simpa using hm
  rw [if_pos (Jj.2 ⟨hw,hm⟩)]
  have Zc:Kd.fn (Co p t,())=some (An (Co p t).2.2.1 (upto p.1.toNat),true,()):=o4 (p:=Co p t) (o7 hp hm) (jU hw hm)
  exact ⟨_,if_pos ⟨hp,hm⟩,_,Zc,⟨rfl,rfl⟩,rfl⟩
 ·have hwf:(Ga (p.1,p.2.1,p.2.2.1,())).2.1=false:=by
   show (Ga p).2.1=false
   unfold Ga
   split
   ·exact Bool.not_eq_true _|>.mp hw
   ·rfl
  rw [hwf,if_neg λh=>hw (Jj.1 h).1]
  exact ⟨λ_=>⟨⟨rfl,rfl⟩,rfl⟩,λhb=>by simp at hb⟩
theorem zu:Sound Try.prog 52 cO:=
 Sound.Di Cb (Ah nY (Ah cU (Ah nW At))) mixed Try.func52 (by kernel_rfl) (by kernel_rfl) λx h=>VI x.1 x.2.1 h
theorem KY {p:PP} (hv:Az p=true):1<=(Ab p).length:=by
 obtain ⟨A,h⟩:=(Vf hv).first
 show 1<=(Fg p.2.2.1 (upto p.1.toNat)).1.length
 rw [h];simp
end Go.Proofs.Ytjbdmibbbpdnnaa
