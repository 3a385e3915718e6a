/-
  Part 42 of the proof that the statement FnPatterns holds.
-/
import Derived.Test.YtkkdpknjohcekaaGreatCFPatterns40
namespace Go.Proofs.YtkkdpknjohcekaaGreat
open Go.RowKit
def ap (p:List Int) (i:Nat):Nat:=(Hi p (i:Int)).toNat
def Pm (n:Nat) (p:List Int):Prop:=p.length=n/\bA p
theorem Pm.n1 {n:Nat} {p:List Int} (h:Pm n p):1<=n:=h.1▸h.2.pos
theorem Pm.n2 {n:Nat} {p:List Int} (h:Pm n p):n<=20:=h.1▸h.2.len
theorem Pm.Xm {n:Nat} {p:List Int} (h:Pm n p) {i:Nat} (hi:i<n):Hi p (i:Int)=(ap p i:Int)/\ap p i<n:=by
 have kZ:i<p.length:=by rw [h.1];exact hi
 have:=h.2.row _ (Al kZ)
 unfold ap
 rw [Is kZ]
 have h1:=h.1
 omega
theorem Pm.lt {n:Nat} {p:List Int} (h:Pm n p) {i:Nat} (hi:i<n):ap p i<n:=(h.Xm hi).2
theorem Pm.ext {n:Nat} {p q:List Int} (h:Pm n p) (k:Pm n q) (e: ∀i,i<n->ap p i=ap q i):p=q:=by
 refine List.ext_getElem (by rw [h.1,k.1]) λi h1 h2=>?_
 have hi:i<n:=by rw [<-h.1];exact h1
 have a:=(h.Xm hi).1
 have b:=(k.Xm hi).1
 rw [Is h1] at a
 rw [Is h2] at b
 rw [a,b,e i hi]
theorem Pm.inj {n:Nat} {p:List Int} (h:Pm n p) {i j:Nat} (hi:i<n) (hj:j<n) (e:ap p i=ap p j):i=j:=
 h.2.inj i j (by rw [h.1];exact hi) (by rw [h.1];exact hj) e
theorem Pm.UW {n:Nat} {p:List Int} (h:Pm n p) {k:Nat} (hk:k<n): ∃i,i<n/\ap p i=k:=by
 obtain ⟨i,h1,h2⟩:=h.2.UW k (by rw [h.1];exact hk)
 exact ⟨i,by rw [<-h.1];exact h1,h2⟩
theorem Pm.of {n:Nat} {p:List Int} (hl:p.length=n) (h1:1<=n) (h2:n<=20) (f:Nat->Nat) (hf: ∀i,i<n->p[i]?=some (f i:Int)/\f i<n) (hi: ∀i j,i<n->j<n->f i=f j->i=j):Pm n p:=by
 refine ⟨hl,by omega,by omega,λy hy=>?_,?_⟩
 ·obtain ⟨i,hi,rfl⟩:=Bh.1 hy
  obtain ⟨h3,h4⟩:=hf i (by omega)
  rw [Ac hi] at h3
  rw [Bd h3]
  omega
 ·refine Ds.2 λi j h3 h4 h5 h6=>?_
  have a:=(hf i (by omega)).1
  have b:=(hf j (by omega)).1
  rw [Ac h3] at a
  rw [Ac h4] at b
  rw [Bd a,Bd b] at h6
  have:=hi i j (by omega) (by omega) (by omega)
  omega
theorem EG {n:Nat} {p q:List Int} (hp:Pm n p) (hq:Pm n q) {i:Nat} (hi:i<n):(Af p q)[i]?=some (ap q (ap p i):Int):=by
 have h1:i<p.length:=by rw [hp.1];exact hi
 unfold Af
 rw [Et,Ac h1]
 have a:=(hp.Xm hi).1
 rw [Is h1] at a
 simp only [Am,a]
 rw [(hq.Xm (hp.Xm hi).2).1]
theorem Pm.comp {n:Nat} {p q:List Int} (hp:Pm n p) (hq:Pm n q):Pm n (Af p q):=
 Pm.of (by rw [Pf,hp.1]) hp.n1 hp.n2 (λi=>ap q (ap p i)) (λi hi=>⟨EG hp hq hi,hq.lt (hp.lt hi)⟩) λi j hi hj e=>hp.inj hi hj (hq.inj (hp.lt hi) (hp.lt hj) e)
theorem YU {p:List Int} {i k:Nat} (h:p[i]?=some (k:Int)):ap p i=k:=by
 unfold ap Hi
 rw [Aj,Ai,h]
 simp
theorem Jw {n:Nat} {p q:List Int} (hp:Pm n p) (hq:Pm n q) {i:Nat} (hi:i<n):ap (Af p q) i=ap q (ap p i):=YU (EG hp hq hi)
theorem vz {n i:Nat} (hi:i<n):(upto n)[i]?=some (i:Int):=by simp [upto,hi]
theorem iq {n i:Nat} (hi:i<n):ap (upto n) i=i:=YU (vz hi)
theorem Pm.id {n:Nat} (h1:1<=n) (h2:n<=20):Pm n (upto n):=Pm.of (by simp [upto]) h1 h2 (λi=>i) (λi hi=>⟨vz hi,hi⟩) λ_ _ _ _ e=>e
theorem RZ {n:Nat} {p:List Int} (hp:Pm n p) {i:Nat} (hi:i<n):(Bb p)[ap p i]?=some (i:Int):=Aah hp.2 (by rw [hp.1];exact hi)
theorem jO {n:Nat} {p:List Int} (hp:Pm n p) {i:Nat} (hi:i<n):ap (Bb p) (ap p i)=i:=YU (RZ hp hi)
theorem yT {n:Nat} {p:List Int} (hp:Pm n p) {k:Nat} (hk:k<n):ap p (ap (Bb p) k)=k:=by
 obtain ⟨i,hi,rfl⟩:=hp.UW hk
 rw [jO hp hi]
theorem Pm.inv {n:Nat} {p:List Int} (hp:Pm n p):Pm n (Bb p):=by
 refine Pm.of (by rw [nC,hp.1]) hp.n1 hp.n2 (λk=>ap (Bb p) k) (λk hk=>?_) λi j hi hj e=>?_
 ·obtain ⟨i,hi,rfl⟩:=hp.UW hk
  rw [jO hp hi]
  exact ⟨RZ hp hi,hi⟩
 ·rw [<-yT hp hi,<-yT hp hj,e]
theorem Gd {n:Nat} {p q r:List Int} (hp:Pm n p) (hq:Pm n q) (hr:Pm n r):Af (Af p q) r=Af p (Af q r):=
 ((hp.comp hq).comp hr).ext (hp.comp (hq.comp hr)) λi hi=>by rw [Jw (hp.comp hq) hr hi,Jw hp hq hi,Jw hp (hq.comp hr) hi,Jw hq hr (hp.lt hi)]
theorem comp_id {n:Nat} {p:List Int} (hp:Pm n p):Af p (upto n)=p:=
 (hp.comp (Pm.id hp.n1 hp.n2)).ext hp λi hi=>by rw [Jw hp (Pm.id hp.n1 hp.n2) hi,iq (hp.lt hi)]
theorem id_comp {n:Nat} {p:List Int} (hp:Pm n p):Af (upto n) p=p:=
 ((Pm.id hp.n1 hp.n2).comp hp).ext hp λi hi=>by rw [Jw (Pm.id hp.n1 hp.n2) hp hi,iq hi]
theorem Wd {n:Nat} {p:List Int} (hp:Pm n p):Af p (Bb p)=upto n:=
 (hp.comp hp.inv).ext (Pm.id hp.n1 hp.n2) λi hi=>by rw [Jw hp hp.inv hi,jO hp hi,iq hi]
theorem bS {n:Nat} {p:List Int} (hp:Pm n p):Af (Bb p) p=upto n:=
 (hp.inv.comp hp).ext (Pm.id hp.n1 hp.n2) λi hi=>by rw [Jw hp.inv hp hi,yT hp hi,iq hi]
theorem tA {n:Nat} {p q:List Int} (hp:Pm n p) (hq:Pm n q) (h:Af p q=upto n):Bb p=q:=by
 rw [<-comp_id hp.inv,<-h,<-Gd hp.inv hp hq,bS hp,id_comp hq]
theorem inv_mul {n:Nat} {p q:List Int} (hp:Pm n p) (hq:Pm n q):Bb (Af p q)=Af (Bb q) (Bb p):=
 tA (hp.comp hq) (hq.inv.comp hp.inv) (by
  rw [Gd hp hq (hq.inv.comp hp.inv),<-Gd hq hq.inv hp.inv,Wd hq,id_comp hp.inv,Wd hp])
theorem inv_inv {n:Nat} {p:List Int} (hp:Pm n p):Bb (Bb p)=p:=tA hp.inv hp (bS hp)
theorem MI {n:Nat} (h1:1<=n) (h2:n<=20):Bb (upto n)=upto n:=tA (Pm.id h1 h2) (Pm.id h1 h2) (comp_id (Pm.id h1 h2))
inductive cz (n:Nat) (S:List Int->Prop):List Int->Prop where
 |id:cz n S (upto n)
 |mul {p g:List Int} :cz n S p->S g->cz n S (Af p g)
 |inv {p g:List Int} :cz n S p->S g->cz n S (Af p (Bb g))
def DB (n:Nat) (S:List Int->Prop):Prop:=(1<=n/\n<=20)/\ ∀g,S g->Pm n g
theorem cz.pm {n:Nat} {S:List Int->Prop} (hS:DB n S) {p:List Int} (h:cz n S p):Pm n p:=by
 induction h with
 |id=>exact Pm.id hS.1.1 hS.1.2
 |mul _ hg ih=>exact ih.comp (hS.2 _ hg)
 |inv _ hg ih=>exact ih.comp (hS.2 _ hg).inv
theorem cz.comp {n:Nat} {S:List Int->Prop} (hS:DB n S) {p q:List Int} (hp:cz n S p) (hq:cz n S q):cz n S (Af p q):=by
 induction hq with
 |id=>rw [comp_id (hp.pm hS)];exact hp
 |mul hq hg ih=>rw [<-Gd (hp.pm hS) (hq.pm hS) (hS.2 _ hg)];exact .mul ih hg
 |inv hq hg ih=>rw [<-Gd (hp.pm hS) (hq.pm hS) (hS.2 _ hg).inv];exact .inv ih hg
theorem cz.one {n:Nat} {S:List Int->Prop} (hS:DB n S) {g:List Int} (hg:S g):cz n S g:=by
 have:=cz.mul (n:=n) (S:=S) .id hg
 rwa [id_comp (hS.2 g hg)] at this
theorem cz.Ajx {n:Nat} {S:List Int->Prop} (hS:DB n S) {g:List Int} (hg:S g):cz n S (Bb g):=by
 have:=cz.inv (n:=n) (S:=S) .id hg
 rwa [id_comp (hS.2 g hg).inv] at this
theorem cz.rU {n:Nat} {S:List Int->Prop} (hS:DB n S) {p:List Int} (hp:cz n S p):cz n S (Bb p):=by
 induction hp with
 |id=>rw [MI hS.1.1 hS.1.2];exact .id
 |mul hq hg ih=>rw [inv_mul (hq.pm hS) (hS.2 _ hg)];exact (cz.Ajx hS hg).comp hS ih
 |inv hq hg ih=>rw [inv_mul (hq.pm hS) (hS.2 _ hg).inv,inv_inv (hS.2 _ hg)];exact (cz.one hS hg).comp hS ih
theorem cz.trans {n:Nat} {S S':List Int->Prop} (hS':DB n S') (h: ∀g,S g->cz n S' g) {p:List Int} (hp:cz n S p):cz n S' p:=by
 induction hp with
 |id=>exact .id
 |mul _ hg ih=>exact ih.comp hS' (h _ hg)
 |inv _ hg ih=>exact ih.comp hS' ((h _ hg).rU hS')
abbrev PO:=Option (List Int)
abbrev Row:=List PO
abbrev Cf:=List Row
def Kz (row:Row):List Int:=(upto row.length).filter λy=>(row.getD y.toNat none).isSome
def Iu (T:Cf):Nat->Nat->List Int->Bool
 |0,_,_=>true
 |k+1,i,p=>match (T.getD i []).getD (Hi p (i:Int)).toNat none with
  |none=>false
  |some t=>Iu T k (i+1) (Af p (Bb t))
def Mf (row:Row):Nat:=row.countP (·.isNone)
def aK (x:Int) (s:Row×List Int) (o:PO):Row×List Int:=
 match s.1.getD (Hi (o.getD []) x).toNat none with
 |some _=>s
 |none=>(s.1.set (Hi (o.getD []) x).toNat (some (Af ((s.1.getD x.toNat none).getD []) (o.getD []))),s.2++ [Hi (o.getD []) x])
def az (x:Int) (gs:List PO) (s:Row×List Int):Row×List Int:=gs.foldl (aK x) s
def ak (gs:List PO):Nat->List Int->Row->Row
 |0,_,row=>row
 |_+1,[],row=>row
 |f+1,x::q,row=>ak gs f (az x gs (row,q)).2 (az x gs (row,q)).1
def Zm (gs:List PO) (row:Row):Row:=ak gs 100 (Kz row) row
def Uc (row:Row) (y:Int) (g:PO):List Int:=
 Af (Af ((row.getD y.toNat none).getD []) (g.getD [])) (Bb ((row.getD (Hi (g.getD []) y).toNat none).getD []))
def gH (row:Row) (gs:List PO):List (List Int):=(Kz row).flatMap λy=>gs.map λg=>Uc row y g
def Hx:Nat->Nat->List Int->Cf×Cf->Cf×Cf
 |0,_,_,s=>s
 |k+1,l,p,s=>
  if Iu s.2 (k+1) l p=true then s else
   (gH (Zm (s.1.getD l []++ [some p]) (s.2.getD l [])) (s.1.getD l []++ [some p])).foldl (λs q=>Hx k (l+1) q s)
    (s.1.set l (s.1.getD l []++ [some p]),s.2.set l (Zm (s.1.getD l []++ [some p]) (s.2.getD l [])))
def Fx (l:Nat) (p:List Int):Prop:= ∀i,i<l->ap p i=i
def Gn (n:Nat) (gs:List PO):List Int->Prop:=cz n λg=>some g∈gs
structure Lvl (n l:Nat) (gs:List PO) (row:Row) (H:List Int->Prop):Prop where
 pg: ∀o∈gs,∃g,o=some g/\Pm n g/\Fx l g
 rl:row.length=n
 r0:row.getD l none=some (upto n)
 rt: ∀y t,row.getD y none=some t->Pm n t/\Fx l t/\ap t l=y/\Gn n gs t
 cl: ∀y t g,row.getD y none=some t->some g∈gs->row.getD (ap g y) none≠none
 sg: ∀y t g t',row.getD y none=some t->some g∈gs->row.getD (ap g y) none=some t'->H (Af (Af t g) (Bb t'))
def dP (n:Nat):Nat->Nat->Cf×Cf->Prop
 |0,l,s=>s.1.getD l []= []
 |k+1,l,s=>dP n k (l+1) s/\Lvl n l (s.1.getD l []) (s.2.getD l []) (λq=>Iu s.2 k (l+1) q=true)/\ ∀g,some g∈s.1.getD (l+1) []->Gn n (s.1.getD l []) g
theorem Afl {l1 l2:List Nat} (hn:l1.Nodup) (hs: ∀x∈l1,x∈l2) (hl:l2.length<=l1.length): ∀x∈l2,x∈l1:=by
 induction l1 generalizing l2 with
 |nil=>
  intro x hx
  have:l2= []:=Ck (by simpa using hl)
  rw [this] at hx;cases hx
 |cons a l ih=>
  intro x hx
  obtain ⟨h1,h2⟩:=Ce.1 hn
  have ha:=hs a (by simp)
  by_cases e:x=a
  ·subst e;simp
  ·refine Aq _ (ih (l2:=l2.erase a) h2 (λy hy=>?_) ?_ x ((List.mem_erase_of_ne e).2 hx))
   ·have hya:y≠a:= λe'=>h1 (by rw [<-e'];exact hy)
    exact (List.mem_erase_of_ne hya).2 (hs y (by simp [hy]))
   ·rw [Xd ha]
    simp only [Aw] at hl
    omega
theorem NG {n:Nat} {g:List Int} (hg:Pm n g) (D:Nat->Bool) (h: ∀y,y<n->D y=true->D (ap g y)=true) {y:Nat} (hy:y<n) (hD:D y=true): ∃x,x<n/\D x=true/\ap g x=y:=by
 have:=Afl (l1:=((List.range n).filter D).map (ap g)) (l2:=(List.range n).filter D) ?_ ?_ (by simp) y (Bt.2 ⟨Eu.2 hy,hD⟩)
 ·obtain ⟨x,hx,e⟩:=Bg.1 this
  obtain ⟨h1,h2⟩:=Bt.1 hx
  exact ⟨x,Eu.1 h1,h2,e⟩
 ·refine List.pairwise_map.2 (List.Pairwise.imp_of_mem ?_ (List.nodup_range.filter D))
  intro a b ha hb Iz e
  exact Iz (hg.inj (Eu.1 (Bt.1 ha).1) (Eu.1 (Bt.1 hb).1) e)
 ·intro x hx
  obtain ⟨z,hz,rfl⟩:=Bg.1 hx
  obtain ⟨h1,h2⟩:=Bt.1 hz
  exact Bt.2 ⟨Eu.2 (hg.lt (Eu.1 h1)),h z (Eu.1 h1) h2⟩
theorem nu {row:Row} {y:Nat} {t:List Int} (h:row.getD y none=some t):y<row.length:=by
 rw [Ai] at h
 refine Bk λhn=>?_
 rw [Dz (by omega)] at h
 cases h
theorem Lvl.pms {n l:Nat} {gs:List PO} {row:Row} {H:List Int->Prop} (h:Lvl n l gs row H):DB n λg=>some g∈gs:=by
 refine ⟨?_,λg hg=>?_⟩
 ·have:=(h.rt l _ h.r0).1
  exact ⟨this.n1,this.n2⟩
 ·obtain ⟨g',e,h1,_⟩:=h.pg _ hg
  cases e;exact h1
theorem Fx.inv {n l:Nat} {p:List Int} (hp:Pm n p) (h:Fx l p) (hl:l<=n):Fx l (Bb p):= λi hi=>by
 have:=jO hp (i:=i) (by omega)
 rwa [h i hi] at this
theorem Fx.comp {n l:Nat} {p q:List Int} (hp:Pm n p) (hq:Pm n q) (h1:Fx l p) (h2:Fx l q) (hl:l<=n):Fx l (Af p q):= λi hi=>by
 rw [Jw hp hq (by omega),h1 i hi,h2 i hi]
theorem Fx.all {n:Nat} {p:List Int} (hp:Pm n p) (h:Fx n p):p=upto n:=hp.ext (Pm.id hp.n1 hp.n2) λi hi=>by rw [h i hi,iq hi]
theorem Fx.div {n l:Nat} {p t:List Int} (hp:Pm n p) (ht:Pm n t) (h1:Fx l p) (h2:Fx l t) (hl:l<n) (e:ap t l=ap p l):Fx (l+1) (Af p (Bb t)):= λi hi=>by
 rw [Jw hp ht.inv (by omega)]
 by_cases hil:i<l
 ·rw [h1 i hil];exact h2.inv ht (by omega) i hil
 ·have:i=l:=by omega
  subst this
  rw [<-e,jO ht hl]
theorem Ug {n:Nat} (h1:1<=n) (h2:n<=20): ∀(k l:Nat) (s:Cf×Cf),l+k=n->dP n k l s-> ∀p,Pm n p->Fx l p->(Iu s.2 k l p=true↔Gn n (s.1.getD l []) p)
 |0,l,s,hk,hc,p,hp,hf=>by
  have hl:l=n:=by omega
  subst hl
  rw [hf.all hp]
  exact ⟨λ_=> .id,λ_=>rfl⟩
 |k+1,l,s,hk,hc,p,hp,hf=>by
  obtain ⟨c1,c2,c3⟩:=hc
  have hS:=c2.pms
  have ih:=Ug h1 h2 k (l+1) s (by omega) c1
  have hS1:DB n λg=>some g∈s.1.getD (l+1) []:=⟨⟨h1,h2⟩,λg hg=>(c3 g hg).pm hS⟩
  have gA:l<n:=by omega
  constructor
  ·intro h
   simp only [Iu] at h
   rw [show (Hi p (l:Int)).toNat=ap p l from rfl] at h
   split at h
   ·cases h
   ·rename_i t ht
    obtain ⟨t1,t2,t3,t4⟩:=c2.rt _ _ ht
    have KB:=Fx.div hp t1 hf t2 gA t3
    have hg:=((ih _ (hp.comp t1.inv) KB).1 h).trans hS c3
    have:=cz.comp hS hg t4
    rwa [Gd hp t1.inv t1,bS t1,comp_id hp] at this
  ·intro h
   have key: ∀q,Gn n (s.1.getD l []) q-> ∃t,(s.2.getD l []).getD (ap q l) none=some t/\Gn n (s.1.getD (l+1) []) (Af q (Bb t)):=by
    intro q hq
    induction hq with
    |id=>
     refine ⟨upto n,by rw [iq gA];exact c2.r0,?_⟩
     rw [MI h1 h2,comp_id (Pm.id h1 h2)]
     exact .id
    | @mul q g hq hg ihq=>
     obtain ⟨t,e1,e2⟩:=ihq
     have hqp:=cz.pm hS hq
     have Ts:=hS.2 _ hg
     obtain ⟨t1,t2,t3,t4⟩:=c2.rt _ _ e1
     cases e3:(s.2.getD l []).getD (ap g (ap q l)) none with
     |none=>exact absurd e3 (c2.cl _ _ _ e1 hg)
     |some t'=>
      obtain ⟨u1,u2,u3,u4⟩:=c2.rt _ _ e3
      have hsg:=c2.sg _ _ _ _ e1 hg e3
      have hfg:Fx (l+1) (Af (Af t g) (Bb t')):=Fx.div (t1.comp Ts) u1 (Fx.comp t1 Ts t2 (by obtain ⟨g',e,_,h⟩:=c2.pg _ hg;cases e;exact h) (by omega)) u2 gA (by rw [u3,Jw t1 Ts gA,t3])
      have KC:=(ih _ ((t1.comp Ts).comp u1.inv) hfg).1 hsg
      refine ⟨t',by rw [Jw hqp Ts gA];exact e3,?_⟩
      have:=cz.comp hS1 e2 KC
      rwa [show Af (Af q (Bb t)) (Af (Af t g) (Bb t'))=Af (Af q g) (Bb t') by
       rw [Gd hqp t1.inv ((t1.comp Ts).comp u1.inv),Gd t1 Ts u1.inv,<-Gd t1.inv t1 (Ts.comp u1.inv),bS t1,id_comp (Ts.comp u1.inv),Gd hqp Ts u1.inv]] at this
    | @inv q g hq hg ihq=>
     obtain ⟨t,e1,e2⟩:=ihq
     have hqp:=cz.pm hS hq
     have Ts:=hS.2 _ hg
     obtain ⟨t1,t2,t3,t4⟩:=c2.rt _ _ e1
     have hy:ap q l<n:=hqp.lt gA
     obtain ⟨x,hx,hD,he⟩:=NG Ts (λy=>((s.2.getD l []).getD y none).isSome) (λy hy hd=>by
      obtain ⟨t0,ht0⟩:=Xf.1 hd
      exact Option.ne_none_iff_isSome.1 (c2.cl _ _ _ ht0 hg)) hy (by rw [e1];rfl)
     obtain ⟨t',e3⟩:=Xf.1 hD
     obtain ⟨u1,u2,u3,u4⟩:=c2.rt _ _ e3
     have hsg:=c2.sg _ _ _ _ e3 hg (by rw [he];exact e1)
     have hfg:Fx (l+1) (Af (Af t' g) (Bb t)):=Fx.div (u1.comp Ts) t1 (Fx.comp u1 Ts u2 (by obtain ⟨g',e,_,h⟩:=c2.pg _ hg;cases e;exact h) (by omega)) t2 gA (by rw [t3,Jw u1 Ts gA,u3,he])
     have KC:=cz.rU hS1 ((ih _ ((u1.comp Ts).comp t1.inv) hfg).1 hsg)
     have hax:ap (Bb g) (ap q l)=x:=by rw [<-he,jO Ts hx]
     refine ⟨t',by rw [Jw hqp Ts.inv gA,hax];exact e3,?_⟩
     have:=cz.comp hS1 e2 KC
     rwa [show Af (Af q (Bb t)) (Bb (Af (Af t' g) (Bb t)))=Af (Af q (Bb g)) (Bb t') by
      rw [inv_mul (u1.comp Ts) t1.inv,inv_inv t1,inv_mul u1 Ts,Gd hqp t1.inv (t1.comp (Ts.inv.comp u1.inv)),<-Gd t1.inv t1 (Ts.inv.comp u1.inv),bS t1,id_comp (Ts.inv.comp u1.inv),Gd hqp Ts.inv u1.inv]] at this
   obtain ⟨t,e1,e2⟩:=key p h
   obtain ⟨t1,t2,t3,t4⟩:=c2.rt _ _ e1
   simp only [Iu]
   rw [show (Hi p (l:Int)).toNat=ap p l from rfl,e1]
   exact (ih _ (hp.comp t1.inv) (Fx.div hp t1 hf t2 gA t3)).2 e2
theorem Li {α:Type} (xs:List α) (i j:Nat) (x d:α):(xs.set i x).getD j d=if i=j/\i<xs.length then x else xs.getD j d:=by
 rw [Ai,Eh,Ai]
 by_cases e:i=j
 ·subst e
  by_cases h:i<xs.length
  ·rw [Ab rfl,Ab h,Ab ⟨rfl,h⟩];rfl
  ·rw [Ab rfl,Ak h,Ak (λhh=>h hh.2),Dz (by omega)]
 ·rw [Ak e,Ak (λhh=>e hh.1)]
theorem cz.mono {n:Nat} {S S':List Int->Prop} (h: ∀g,S g->S' g) {p:List Int} (hp:cz n S p):cz n S' p:=by
 induction hp with
 |id=>exact .id
 |mul _ hg ih=>exact .mul ih (h _ hg)
 |inv _ hg ih=>exact .inv ih (h _ hg)
structure Vd (n l:Nat) (gs:List PO) (row:Row):Prop where
 rl:row.length=n
 r0:row.getD l none=some (upto n)
 rt: ∀y t,row.getD y none=some t->Pm n t/\Fx l t/\ap t l=y/\Gn n gs t
def PG (n l:Nat) (gs:List PO):Prop:= ∀o∈gs,∃g,o=some g/\Pm n g/\Fx l g
structure Ext (n l:Nat) (gs:List PO) (row:Row) (q:List Int) (s':Row×List Int):Prop where
 ok:Vd n l gs s'.1
 mono: ∀y t,row.getD y none=some t->s'.1.getD y none=some t
 phi:s'.2.length+Mf s'.1=q.length+Mf row
 vM: ∀y∈q,y∈s'.2
 new: ∀y∈s'.2,y∈q\/ ∃yn:Nat,y=yn/\s'.1.getD yn none≠none
 src: ∀y:Nat,s'.1.getD y none≠none->row.getD y none≠none\/(y:Int)∈s'.2
theorem Ext.refl {n l:Nat} {gs:List PO} {row:Row} {q:List Int} (h:Vd n l gs row):Ext n l gs row q (row,q):=⟨h,λ_ _ h=>h,rfl,λ_ h=>h,λ_ h=> .inl h,λ_ h=> .inl h⟩
theorem fE {a b:Row} (h: ∀y t,a.getD y none=some t->b.getD y none=some t) {y:Nat} (hy:a.getD y none≠none):b.getD y none≠none:=by
 cases e:a.getD y none with
 |none=>exact absurd e hy
 |some t=>rw [h y t e];simp
theorem Ext.trans {n l:Nat} {gs:List PO} {row:Row} {q:List Int} {s1 s2:Row×List Int} (h:Ext n l gs row q s1) (k:Ext n l gs s1.1 s1.2 s2):Ext n l gs row q s2:=by
 refine ⟨k.ok,λy t e=>k.mono y t (h.mono y t e),k.phi.trans h.phi,λy hy=>k.vM y (h.vM y hy),λy hy=>?_,λy hy=>?_⟩
 ·rcases k.new y hy with h1|h1
  ·rcases h.new y h1 with h2|⟨yn,h2,h3⟩
   ·exact .inl h2
   ·exact .inr ⟨yn,h2,fE k.mono h3⟩
  ·exact .inr h1
 ·rcases k.src y hy with h1|h1
  ·exact (h.src y h1).imp id λh2=>k.vM _ h2
  ·exact .inr h1
theorem pk {row:Row} {i:Nat} {t:List Int} (h:row.getD i none=none) (hi:i<row.length):Mf (row.set i (some t))+1=Mf row:=by
 unfold Mf
 have e:row[i]=none:=by
  rw [Ai,Ac hi] at h
  exact h
 have h1:=List.countP_set (p:= λo:PO=>o.isNone) (l:=row) (i:=i) (a:=some t) hi
 have MA:0<row.countP (·.isNone):=List.countP_pos_iff.2 ⟨row[i],Al hi,by rw [e];rfl⟩
 rw [h1,e]
 simp
 omega
theorem Afk {n l:Nat} {gs:List PO} (gA:l<n) (hg:PG n l gs) {row:Row} {q:List Int} (h:Vd n l gs row) {x:Nat} {t:List Int} (hx:row.getD x none=some t) {g:List Int} (ho:some g∈gs):
  Ext n l gs row q (aK (x:Int) (row,q) (some g))/\(aK (x:Int) (row,q) (some g)).1.getD (ap g x) none≠none:=by
 obtain ⟨g',e,Ts,hgf⟩:=hg _ ho
 cases e
 obtain ⟨t1,t2,t3,t4⟩:=h.rt _ _ hx
 have hxn:x<n:=by rw [<-h.rl];exact nu hx
 obtain ⟨a1,a2⟩:=Ts.Xm hxn
 unfold aK
 simp only [Bq,a1,Aj]
 cases e:row.getD (ap g x) none with
 |some u=>exact ⟨Ext.refl h,by simp only;rw [e];simp⟩
 |none=>
  simp only [hx,Bq]
  have hl:ap g x<row.length:=by rw [h.rl];exact a2
  have hS:DB n λg=>some g∈gs:=⟨⟨t1.n1,t1.n2⟩,λg Se=>by obtain ⟨g',e,h1,_⟩:=hg _ Se;cases e;exact h1⟩
  have At: ∀y,(row.set (ap g x) (some (Af t g))).getD y none=if ap g x=y/\ap g x<row.length then some (Af t g) else row.getD y none:= λy=>Li _ _ _ _ _
  have Iz: ∀y u,row.getD y none=some u->ap g x≠y:= λy u hu e'=>by rw [<-e',e] at hu;cases hu
  refine ⟨⟨⟨by simp [h.rl],?_,λy u hu=>?_⟩,λy u hu=>?_,?_,λy hy=>Bj _ hy,λy hy=>?_,λy hy=>?_⟩,?_⟩
  ·rw [At,Ak (λhh=>Iz l _ h.r0 hh.1)];exact h.r0
  ·rw [At] at hu
   split at hu
   ·rename_i hc
    cases hu
    exact ⟨t1.comp Ts,Fx.comp t1 Ts t2 hgf (by omega),by rw [Jw t1 Ts gA,t3];exact hc.1, .mul t4 ho⟩
   ·exact h.rt y u hu
  ·show (row.set (ap g x) (some (Af t g))).getD y none=some u
   rw [At,Ak (λhh=>Iz y u hu hh.1)];exact hu
  ·have:=pk (t:=Af t g) e hl
   simp only [Au,Aw,Fb]
   omega
  ·rcases Az.1 hy with hy|hy
   ·exact .inl hy
   ·simp only [Ad] at hy
    exact .inr ⟨ap g x,hy,by show (row.set (ap g x) (some (Af t g))).getD (ap g x) none≠none;rw [At,Ab ⟨rfl,hl⟩];simp⟩
  ·have hy:(row.set (ap g x) (some (Af t g))).getD y none≠none:=hy
   rw [At] at hy
   split at hy
   ·rename_i hc
    exact .inr (by show (y:Int)∈q++ [(ap g x:Int)];rw [<-hc.1];simp)
   ·exact .inl hy
  ·show (row.set (ap g x) (some (Af t g))).getD (ap g x) none≠none
   rw [At,Ab ⟨rfl,hl⟩];simp
theorem Abo {n l:Nat} {gs:List PO} (gA:l<n) (hg:PG n l gs): ∀(gs':List PO) {row:Row} {q:List Int},(∀o∈gs',o∈gs)->Vd n l gs row-> ∀ {x:Nat} {t:List Int},row.getD x none=some t->
  Ext n l gs row q (az (x:Int) gs' (row,q))/\ ∀g,some g∈gs'->(az (x:Int) gs' (row,q)).1.getD (ap g x) none≠none
 | [],row,q,_,h,x,t,hx=>⟨Ext.refl h,λg hg=>by cases hg⟩
 |o::gs',row,q,hs,h,x,t,hx=>by
  obtain ⟨g,rfl,_,_⟩:=hg o (hs o (by simp))
  obtain ⟨e1,e2⟩:=Afk (q:=q) gA hg h hx (hs (some g) (by simp))
  obtain ⟨f1,f2⟩:=Abo gA hg gs' (q:=(aK (x:Int) (row,q) (some g)).2) (λo ho=>hs o (by simp [ho])) e1.ok (e1.mono x t hx)
  have hb:az (x:Int) (some g::gs') (row,q)=az (x:Int) gs' ((aK (x:Int) (row,q) (some g)).1,(aK (x:Int) (row,q) (some g)).2):=rfl
  rw [hb]
  refine ⟨e1.trans f1,λg' Se=>?_⟩
  rcases Be.1 Se with e|Se
  ·cases e;exact fE f1.mono e2
  ·exact f2 g' Se
def TB (gs:List PO) (q:List Int) (row:Row):Prop:=
 (∀y∈q,∃yn:Nat,y=yn/\row.getD yn none≠none)/\ ∀y:Nat,row.getD y none≠none->(y:Int)∈q\/ ∀g,some g∈gs->row.getD (ap g y) none≠none
theorem OC {n l:Nat} {gs:List PO} (gA:l<n) (hg:PG n l gs) {x:Int} {q:List Int} {row:Row} (h:Vd n l gs row) (hq:TB gs (x::q) row):
  Ext n l gs row q (az x gs (row,q))/\TB gs (az x gs (row,q)).2 (az x gs (row,q)).1/\ ∃(xn:Nat) (t:List Int),x=xn/\row.getD xn none=some t:=by
 obtain ⟨xn,rfl,hx⟩:=hq.1 x (by simp)
 cases e:row.getD xn none with
 |none=>exact absurd e hx
 |some t=>
  obtain ⟨e1,e2⟩:=Abo gA hg gs (q:=q) (λo ho=>ho) h e
  refine ⟨e1,⟨λy hy=>?_,λy hy=>?_⟩,xn,t,rfl,e⟩
  ·rcases e1.new y hy with h1|h1
   ·obtain ⟨yn,h2,h3⟩:=hq.1 y (by simp [h1])
    exact ⟨yn,h2,fE e1.mono h3⟩
   ·exact h1
  ·rcases e1.src y hy with h1|h1
   ·rcases hq.2 y h1 with h2|h2
    ·rcases Be.1 h2 with h2|h2
     ·have:y=xn:=by omega
      subst this
      exact .inr λg Se=>e2 g Se
     ·exact .inl (e1.vM _ h2)
    ·exact .inr λg Se=>fE e1.mono (h2 g Se)
   ·exact .inl h1
theorem Abw {n l:Nat} {gs:List PO} (gA:l<n) (hg:PG n l gs): ∀(f:Nat) (q:List Int) (row:Row),q.length+Mf row<=f->Vd n l gs row->TB gs q row->
  Vd n l gs (ak gs f q row)/\(∀y t,row.getD y none=some t->(ak gs f q row).getD y none=some t)/\ ∀y t g,(ak gs f q row).getD y none=some t->some g∈gs->(ak gs f q row).getD (ap g y) none≠none
 |0,q,row,hf,h,hq=>by
  have:q= []:=Ck (by omega)
  subst this
  exact ⟨h,λ_ _ h=>h,λy t g e Se=>by
   rcases hq.2 y (by rw [show row.getD y none=some t from e];simp) with h1|h1
   ·cases h1
   ·exact h1 g Se⟩
 |f+1,[],row,hf,h,hq=>⟨h,λ_ _ h=>h,λy t g e Se=>by
   rcases hq.2 y (by rw [show row.getD y none=some t from e];simp) with h1|h1
   ·cases h1
   ·exact h1 g Se⟩
 |f+1,x::q,row,hf,h,hq=>by
  obtain ⟨e1,e2,_⟩:=OC gA hg h hq
  obtain ⟨r1,r2,r3⟩:=Abw gA hg f _ _ (by have:=e1.phi;simp only [Aw] at hf;omega) e1.ok e2
  exact ⟨r1,λy t e=>r2 y t (e1.mono y t e),r3⟩
theorem Ul {row:Row} {y:Int} :y∈Kz row↔ ∃yn:Nat,y=yn/\row.getD yn none≠none:=by
 unfold Kz
 rw [Bt,Lt]
 constructor
 ·rintro ⟨h1,h2⟩
  exact ⟨y.toNat,by omega,Option.ne_none_iff_isSome.2 h2⟩
 ·rintro ⟨yn,rfl,h⟩
  obtain ⟨t,ht⟩:=Kk.1 h
  exact ⟨by have:=nu ht;omega,by simpa using Option.ne_none_iff_isSome.1 h⟩
theorem zX (row:Row):(Kz row).length<=row.length:=by
 unfold Kz
 refine Ib (List.length_filter_le _ _) (by simp [upto])
theorem j8 (row:Row):Mf row<=row.length:=List.countP_le_length
theorem HI {n l:Nat} {gs:List PO} (gA:l<n) (h2:n<=20) (hg:PG n l gs) {row:Row} (h:Vd n l gs row):
  Vd n l gs (Zm gs row)/\(∀y t,row.getD y none=some t->(Zm gs row).getD y none=some t)/\ ∀y t g,(Zm gs row).getD y none=some t->some g∈gs->(Zm gs row).getD (ap g y) none≠none:=
 Abw gA hg 100 _ _ (by have:=zX row;have:=j8 row;have:=h.rl;omega) h ⟨λy hy=>Ul.1 hy,λy hy=> .inl (Ul.2 ⟨y,rfl,hy⟩)⟩
theorem EA {n l:Nat} {gs:List PO} (gA:l<n) (hg:PG n l gs): ∀(f:Nat) (q:List Int) (row:Row),q.length+Mf row<=f->Vd n l gs row->TB gs q row->ak gs f q row=ak gs (q.length+Mf row) q row
 |0,q,row,hf,_,_=>by
  have:q.length+Mf row=0:=by omega
  rw [this]
 |f+1,[],row,hf,_,_=>by
  cases h:([]:List Int).length+Mf row with
  |zero=>rfl
  |succ m=>rfl
 |f+1,x::q,row,hf,h,hq=>by
  obtain ⟨e1,e2,_⟩:=OC gA hg h hq
  have Aek:=e1.phi
  have:(x::q).length+Mf row=(q.length+Mf row)+1:=by simp only [Aw];omega
  rw [this]
  simp only [ak]
  rw [EA gA hg f _ _ (by simp only [Aw] at hf;omega) e1.ok e2,Aek]
def vR (row:Row):Nat:=row.countP (·.isSome)
theorem oP: ∀(a b:Row),a.length=b.length->(∀y t,a.getD y none=some t->b.getD y none=some t)->vR a<=vR b/\(vR a=vR b->a=b)
 | [],[],_,_=>⟨Ao _,λ_=>rfl⟩
 | [],_::_,h,_=>by simp at h
 |_::_,[],h,_=>by simp at h
 |x::a,y::b,h,hm=>by
  obtain ⟨h1,h2⟩:=oP a b (by simpa using h) λi t e=>by simpa using hm (i+1) t (by simpa using e)
  unfold vR at h1 h2⊢
  cases x with
  |none=>
   cases y with
   |none=>simp only [eU];exact ⟨by simpa using h1,λe=>by rw [h2 (by simpa using e)]⟩
   |some u=>
    simp only [eU,Option.isSome_none,Option.isSome_some]
    simp only [Ph,Dd,Rl]
    exact ⟨by omega,λe=>by omega⟩
  |some t=>
   have:=hm 0 t (by simp)
   simp only [Xr] at this
   subst this
   simp only [eU]
   exact ⟨by simpa using h1,λe=>by rw [h2 (by simpa using e)]⟩
def jc (T:Cf):Nat->Nat->Nat
 |0,_=>0
 |k+1,l=>vR (T.getD l [])+jc T k (l+1)
def GBf:Nat->Nat->Cf×Cf->Prop
 |0,_,_=>True
 |k+1,l,s=>GBf k (l+1) s/\(s.1.getD l []).length<=jc s.2 (k+1) l
structure Wa (l0:Nat) (s s':Cf×Cf):Prop where
 Aod:s'.1.length=s.1.length
 tH:s'.2.length=s.2.length
 low: ∀i,i<l0->s'.1.getD i []=s.1.getD i []/\s'.2.getD i []=s.2.getD i []
 xx: ∀i o,o∈s.1.getD i []->o∈s'.1.getD i []
 vu: ∀i y t,(s.2.getD i []).getD y none=some t->(s'.2.getD i []).getD y none=some t
 Abv: ∀i,(s'.2.getD i []).length=(s.2.getD i []).length
theorem Wa.refl (l0:Nat) (s:Cf×Cf):Wa l0 s s:=⟨rfl,rfl,λ_ _=>⟨rfl,rfl⟩,λ_ _ h=>h,λ_ _ _ h=>h,λ_=>rfl⟩
theorem Wa.trans {l0 l1:Nat} {a b c:Cf×Cf} (h:Wa l0 a b) (k:Wa l1 b c) (hl:l0<=l1):Wa l0 a c:=
 ⟨k.Aod.trans h.Aod,k.tH.trans h.tH,λi hi=>⟨(k.low i (by omega)).1.trans (h.low i hi).1,(k.low i (by omega)).2.trans (h.low i hi).2⟩,λi o ho=>k.xx i o (h.xx i o ho),λi y t e=>k.vu i y t (h.vu i y t e),λi=>(k.Abv i).trans (h.Abv i)⟩
theorem Wa.It {l0 l1:Nat} {a b:Cf×Cf} (h:Wa l1 a b) (hl:l0<=l1):Wa l0 a b:=(Wa.refl l0 a).trans h hl
theorem cK {T T':Cf} : ∀(k l:Nat) (p:List Int),(∀i,l<=i->i<l+k->T'.getD i []=T.getD i [])->Iu T' k l p=Iu T k l p
 |0,_,_,_=>rfl
 |k+1,l,p,h=>by
  simp only [Iu]
  rw [h l (Ao _) (by omega)]
  split
  ·rfl
  ·exact cK k (l+1) _ λi h1 h2=>h i (by omega) (by omega)
theorem Uu {n:Nat} {s s':Cf×Cf} : ∀(k l:Nat),(∀i,l<=i->s'.1.getD i []=s.1.getD i []/\s'.2.getD i []=s.2.getD i [])->dP n k l s->dP n k l s'
 |0,l,h,hc=>by simp only [dP] at hc⊢;rw [(h l (Ao _)).1];exact hc
 |k+1,l,h,hc=>by
  simp only [dP] at hc⊢
  obtain ⟨c1,c2,c3⟩:=hc
  refine ⟨Uu k (l+1) (λi hi=>h i (by omega)) c1,?_,?_⟩
  ·rw [(h l (Ao _)).1,(h l (Ao _)).2]
   have e:(λq=>Iu s'.2 k (l+1) q=true)= λq=>Iu s.2 k (l+1) q=true:=funext λq=>by rw [cK k (l+1) q λi h1 h2=>(h i (by omega)).2]
   rw [e];exact c2
  ·rw [(h (l+1) (by omega)).1,(h l (Ao _)).1];exact c3
theorem yg {T T':Cf} : ∀(k l:Nat),(∀i,l<=i->T'.getD i []=T.getD i [])->jc T' k l=jc T k l
 |0,_,_=>rfl
 |k+1,l,h=>by simp only [jc];rw [h l (Ao _),yg k (l+1) λi hi=>h i (by omega)]
theorem bN {s s':Cf×Cf} : ∀(k l:Nat),(∀i,l<=i->s'.1.getD i []=s.1.getD i []/\s'.2.getD i []=s.2.getD i [])->GBf k l s->GBf k l s'
 |0,_,_,_=>trivial
 |k+1,l,h,hg=>⟨bN k (l+1) (λi hi=>h i (by omega)) hg.1,by
  rw [(h l (Ao _)).1,yg (k+1) l λi hi=>(h i hi).2];exact hg.2⟩
theorem uh {T T':Cf} (hl: ∀i,(T'.getD i []).length=(T.getD i []).length) (hm: ∀i y t,(T.getD i []).getD y none=some t->(T'.getD i []).getD y none=some t):
  ∀(k l:Nat),jc T k l<=jc T' k l/\(jc T k l=jc T' k l-> ∀i,l<=i->i<l+k->T'.getD i []=T.getD i [])
 |0,l=>⟨Ao _,λ_ i h1 h2=>by omega⟩
 |k+1,l=>by
  obtain ⟨h1,h2⟩:=uh hl hm k (l+1)
  obtain ⟨h3,h4⟩:=oP (T.getD l []) (T'.getD l []) (hl l).symm (hm l)
  simp only [jc]
  refine ⟨by omega,λe i g1 g2=>?_⟩
  by_cases hi:i=l
  ·subst hi;exact (h4 (by omega)).symm
  ·exact h2 (by omega) i (by omega) (by omega)
def V (n k l:Nat) (s:Cf×Cf):Prop:=s.1.length=n/\s.2.length=n/\dP n k l s/\GBf k l s
structure YG (n k l:Nat) (s:Cf×Cf) (p:List Int) (s':Cf×Cf):Prop where
 v:V n k l s'
 grow:Wa l s s'
 Ajn:Gn n (s'.1.getD l []) p
 gens: ∀o∈s'.1.getD l [],o∈s.1.getD l []\/o=some p
theorem Lvl.row {n l:Nat} {gs:List PO} {row:Row} {H:List Int->Prop} (h:Lvl n l gs row H):Vd n l gs row:=⟨h.rl,h.r0,h.rt⟩
theorem jt {row:Row} {y:Nat} {t g t':List Int} (h1:row.getD y none=some t) (h2:row.getD (ap g y) none=some t'):Uc row (y:Int) (some g)=Af (Af t g) (Bb t'):=by
 unfold Uc
 rw [Aj,h1,Bq,Bq,show (Hi g (y:Int)).toNat=ap g y from rfl,h2,Bq]
theorem pf {n l:Nat} {gs:List PO} {row:Row} (hg:PG n l gs) (_h:Vd n l gs row) (hc: ∀y t g,row.getD y none=some t->some g∈gs->row.getD (ap g y) none≠none) {q:List Int} :
  q∈gH row gs↔ ∃(y:Nat) (t g t':List Int),row.getD y none=some t/\some g∈gs/\row.getD (ap g y) none=some t'/\q=Af (Af t g) (Bb t'):=by
 unfold gH
 rw [Gf]
 constructor
 ·rintro ⟨y,hy,hq⟩
  obtain ⟨o,ho,rfl⟩:=Bg.1 hq
  obtain ⟨yn,rfl,hyn⟩:=Ul.1 hy
  obtain ⟨t,ht⟩:=Kk.1 hyn
  obtain ⟨g,rfl,Ts,_⟩:=hg o ho
  obtain ⟨t',vK⟩:=Kk.1 (hc yn t g ht ho)
  exact ⟨yn,t,g,t',ht,ho,vK,jt ht vK⟩
 ·rintro ⟨y,t,g,t',h1,h2,h3,rfl⟩
  obtain ⟨g',e,Ts,_⟩:=hg _ h2
  cases e
  exact ⟨(y:Int),Ul.2 ⟨y,rfl,by rw [h1];simp⟩,Bg.2 ⟨some g,h2,jt h1 h3⟩⟩
theorem yR {n:Nat} (h1:1<=n) (h2:n<=20): ∀(k l:Nat) (p:List Int) (s:Cf×Cf),l+k=n->V n k l s->Pm n p->Fx l p->YG n k l s p (Hx k l p s)
 |0,l,p,s,hk,hv,hp,hf=>by
  have hl:l=n:=by omega
  subst hl
  exact ⟨hv,Wa.refl _ _,by rw [hf.all hp];exact .id,λo ho=> .inl ho⟩
 |k+1,l,p,s,hk,hv,hp,hf=>by
  have gA:l<n:=by omega
  obtain ⟨v1,v2,hc,xC⟩:=hv
  have jU:=hc
  obtain ⟨c1,c2,c3⟩:=hc
  unfold Hx
  by_cases hh:Iu s.2 (k+1) l p=true
  ·rw [Ab hh]
   exact ⟨⟨v1,v2,jU,xC⟩,Wa.refl _ _,(Ug h1 h2 (k+1) l s hk jU p hp hf).1 hh,λo ho=> .inl ho⟩
  rw [Ak hh]
  generalize ny:s.1.getD l []++ [some p]=gs
  have Zx:some p∈gs:=by rw [<-ny];simp
  have Ps: ∀o∈s.1.getD l [],o∈gs:= λo ho=>by rw [<-ny];exact Bj _ ho
  have hg:PG n l gs:= λo ho=>by
   rw [<-ny] at ho
   rcases Az.1 ho with ho|ho
   ·exact c2.pg o ho
   ·rw [Ad] at ho;exact ⟨p,ho,hp,hf⟩
  have Anh:Vd n l gs (s.2.getD l []):=⟨c2.rl,c2.r0,λy t e=>⟨(c2.rt y t e).1,(c2.rt y t e).2.1,(c2.rt y t e).2.2.1,(c2.rt y t e).2.2.2.mono λg hg=>Ps _ hg⟩⟩
  obtain ⟨r1,r2,r3⟩:=HI gA h2 hg Anh
  generalize hR:Zm gs (s.2.getD l [])=R at r1 r2 r3
  have hS:DB n λg=>some g∈gs:=⟨⟨h1,h2⟩,λg Se=>by obtain ⟨g',e,h,_⟩:=hg _ Se;cases e;exact h⟩
  have uz: ∀i,((s.1.set l gs).getD i []=if i=l then gs else s.1.getD i [])/\(s.2.set l R).getD i []=if i=l then R else s.2.getD i []:= λi=>by
   rw [Li,Li]
   by_cases e:l=i
   ·subst e;rw [Ab ⟨rfl,by omega⟩,Ab rfl,Ab ⟨rfl,by omega⟩,Ab rfl];exact ⟨rfl,rfl⟩
   ·rw [Ak (λhh=>e hh.1),Ak (Gg e),Ak (λhh=>e hh.1),Ak (Gg e)];exact ⟨rfl,rfl⟩
  have vL: ∀i,l+1<=i->(s.1.set l gs).getD i []=s.1.getD i []/\(s.2.set l R).getD i []=s.2.getD i []:= λi hi=>by
   rw [(uz i).1,(uz i).2,Ak (by omega),Ak (by omega)];exact ⟨rfl,rfl⟩
  have kG:V n k (l+1) (s.1.set l gs,s.2.set l R):=⟨by simpa using v1,by simpa using v2,Uu k (l+1) vL c1,bN k (l+1) vL xC.1⟩
  have m4:Wa l s (s.1.set l gs,s.2.set l R):=by
   refine ⟨by simp,by simp,λi hi=>?_,λi o ho=>?_,λi y t e=>?_,λi=>?_⟩
   ·rw [(uz i).1,(uz i).2,Ak (by omega),Ak (by omega)];exact ⟨rfl,rfl⟩
   ·rw [(uz i).1]
    split
    ·rename_i hi;subst hi;exact Ps o ho
    ·exact ho
   ·rw [(uz i).2]
    split
    ·rename_i hi;subst hi;exact r2 y t e
    ·exact e
   ·rw [(uz i).2]
    split
    ·rename_i hi;subst hi;rw [r1.rl,c2.rl]
    ·rfl
  have hq: ∀q∈gH R gs,Pm n q/\Fx (l+1) q/\Gn n gs q:= λq hq=>by
   obtain ⟨y,t,g,t',e1,e2,e3,rfl⟩:=(pf hg r1 r3).1 hq
   obtain ⟨t1,t2,t3,t4⟩:=r1.rt _ _ e1
   obtain ⟨u1,u2,u3,u4⟩:=r1.rt _ _ e3
   obtain ⟨g',e,Ts,hgf⟩:=hg _ e2
   cases e
   exact ⟨(t1.comp Ts).comp u1.inv,Fx.div (t1.comp Ts) u1 (Fx.comp t1 Ts t2 hgf (by omega)) u2 gA (by rw [u3,Jw t1 Ts gA,t3]),cz.comp hS (.mul t4 e2) (cz.rU hS u4)⟩
  have fold: ∀(qs:List (List Int)) (s1:Cf×Cf),(∀q∈qs,Pm n q/\Fx (l+1) q)->V n k (l+1) s1->
    V n k (l+1) (qs.foldl (λs q=>Hx k (l+1) q s) s1)/\Wa (l+1) s1 (qs.foldl (λs q=>Hx k (l+1) q s) s1)/\
     (∀q∈qs,Gn n ((qs.foldl (λs q=>Hx k (l+1) q s) s1).1.getD (l+1) []) q)/\ ∀o∈(qs.foldl (λs q=>Hx k (l+1) q s) s1).1.getD (l+1) [],o∈s1.1.getD (l+1) []\/ ∃q∈qs,o=some q:=by
   intro qs
   induction qs with
   |nil=>exact λs1 _ hv=>⟨hv,Wa.refl _ _,(λq hq=>by cases hq),λo ho=>Or.inl ho⟩
   |cons q qs ih=>
    intro s1 UF hv
    have ha:=yR h1 h2 k (l+1) q s1 (by omega) hv (UF q (by simp)).1 (UF q (by simp)).2
    obtain ⟨g1,g2,g3,g4⟩:=ih (Hx k (l+1) q s1) (λq' gB=>UF q' (by simp [gB])) ha.v
    simp only [Qx]
    refine ⟨g1,ha.grow.trans g2 (Ao _),λq' gB=>?_,λo ho=>?_⟩
    ·rcases Be.1 gB with rfl|gB
     ·exact ha.Ajn.mono λg hg=>g2.xx _ _ hg
     ·exact g3 q' gB
    ·rcases g4 o ho with h|⟨q',gB,h⟩
     ·rcases ha.gens o h with h|h
      ·exact .inl h
      ·exact .inr ⟨q,by simp,h⟩
     ·exact .inr ⟨q',by simp [gB],h⟩
  obtain ⟨f1,f2,f3,f4⟩:=fold (gH R gs) (s.1.set l gs,s.2.set l R) (λq h=>⟨(hq q h).1,(hq q h).2.1⟩) kG
  generalize (gH R gs).foldl (λs q=>Hx k (l+1) q s) (s.1.set l gs,s.2.set l R)=s' at f1 f2 f3 f4
  obtain ⟨w1,w2,w3,w4⟩:=f1
  have el1:s'.1.getD l []=gs:=by rw [(f2.low l (by omega)).1,(uz l).1,Ab rfl]
  have el2:s'.2.getD l []=R:=by rw [(f2.low l (by omega)).2,(uz l).2,Ab rfl]
  have th:=m4.trans f2 (by omega)
  have Aiw:Lvl n l gs R (λq=>Iu s'.2 k (l+1) q=true):=⟨hg,r1.rl,r1.r0,r1.rt,r3,λy t g t' e1 e2 e3=>by
   have hm:=(pf hg r1 r3).2 ⟨y,t,g,t',e1,e2,e3,rfl⟩
   exact (Ug h1 h2 k (l+1) s' (by omega) w3 _ (hq _ hm).1 (hq _ hm).2.1).2 (f3 _ hm)⟩
  have FH:dP n (k+1) l s':=⟨w3,by rw [el1,el2];exact Aiw,λg Se=>by
   rw [el1]
   rcases f4 _ Se with h|⟨q,gB,h⟩
   ·rw [(vL (l+1) (Ao _)).1] at h
    exact (c3 g h).mono λg hg=>Ps _ hg
   ·cases h;exact (hq _ gB).2.2⟩
  have Zw:Gn n (s'.1.getD l []) p:=by rw [el1];exact cz.one hS Zx
  refine ⟨⟨w1,w2,FH,w4,?_⟩,th,Zw,λo ho=>?_⟩
  ·have hold:=xC.2
   obtain ⟨p1,p2⟩:=uh th.Abv th.vu (k+1) l
   have Iz:jc s.2 (k+1) l≠jc s'.2 (k+1) l:= λe=>by
    have:=cK (k+1) l p (p2 e)
    rw [(Ug h1 h2 (k+1) l s' hk FH p hp hf).2 Zw] at this
    exact hh this.symm
   rw [el1,<-ny,Au,Cg]
   omega
  ·rw [el1,<-ny] at ho
   rcases Az.1 ho with ho|ho
   ·exact .inl ho
   ·rw [Ad] at ho;exact .inr ho
theorem Abk {n l:Nat} {gs:List PO} {R:Row} (gA:l<n) (hg:PG n l gs) (r1:Vd n l gs R) (r3: ∀y t g,R.getD y none=some t->some g∈gs->R.getD (ap g y) none≠none): ∀q∈gH R gs,Pm n q/\Fx (l+1) q:=by
 intro q hq
 obtain ⟨y,t,g,t',e1,e2,e3,rfl⟩:=(pf hg r1 r3).1 hq
 obtain ⟨t1,t2,t3,t4⟩:=r1.rt _ _ e1
 obtain ⟨u1,u2,u3,u4⟩:=r1.rt _ _ e3
 obtain ⟨g',e,Ts,hgf⟩:=hg _ e2
 cases e
 exact ⟨(t1.comp Ts).comp u1.inv,Fx.div (t1.comp Ts) u1 (Fx.comp t1 Ts t2 hgf (by omega)) u2 gA (by rw [u3,Jw t1 Ts gA,t3])⟩
theorem V.lower {n k l:Nat} {s:Cf×Cf} (h:V n (k+1) l s) (gs:List PO) (R:Row):V n k (l+1) (s.1.set l gs,s.2.set l R):=by
 obtain ⟨v1,v2,hc,xC⟩:=h
 have vL: ∀i,l+1<=i->(s.1.set l gs).getD i []=s.1.getD i []/\(s.2.set l R).getD i []=s.2.getD i []:= λi hi=>by
  rw [Li,Li,Ak (by omega),Ak (by omega)];exact ⟨rfl,rfl⟩
 exact ⟨by simpa using v1,by simpa using v2,Uu k (l+1) vL hc.1,bN k (l+1) vL xC.1⟩
theorem QZ {n k l:Nat} (h1:1<=n) (h2:n<=20) (hk:l+k=n): ∀(qs:List (List Int)) (s1:Cf×Cf),(∀q∈qs,Pm n q/\Fx l q)->V n k l s1->
  V n k l (qs.foldl (λs q=>Hx k l q s) s1)/\Wa l s1 (qs.foldl (λs q=>Hx k l q s) s1)
 | [],s1,_,hv=>⟨hv,Wa.refl _ _⟩
 |q::qs,s1,UF,hv=>by
  have ha:=yR h1 h2 k l q s1 hk hv (UF q (by simp)).1 (UF q (by simp)).2
  obtain ⟨g1,g2⟩:=QZ h1 h2 hk qs (Hx k l q s1) (λq' gB=>UF q' (by simp [gB])) ha.v
  exact ⟨g1,ha.grow.trans g2 (Ao _)⟩
theorem Abn {n:Nat} {s:Cf×Cf} : ∀(k l:Nat),dP n k l s->jc s.2 k l<=n*k
 |0,_,_=>by simp [jc]
 |k+1,l,hc=>by
  have h1:=Abn k (l+1) hc.1
  have h2:vR (s.2.getD l [])<=n:=by
   have:=hc.2.1.rl
   have h3:vR (s.2.getD l [])<=(s.2.getD l []).length:=List.countP_le_length
   omega
  simp only [jc]
  rw [Nat.mul_succ]
  omega
theorem RF {n k l:Nat} {s:Cf×Cf} (h2:n<=20) (hk:l+(k+1)=n) (h:V n (k+1) l s):(s.1.getD l []).length<=400:=by
 have h3:=h.2.2.2.2
 have h4:=Abn (k+1) l h.2.2.1
 have h5:n*(k+1)<=20*20:=dN h2 (by omega)
 omega
theorem V.lvl {n k l:Nat} {s:Cf×Cf} (h:V n (k+1) l s):Lvl n l (s.1.getD l []) (s.2.getD l []) (λq=>Iu s.2 k (l+1) q=true):=h.2.2.1.2.1
theorem V.pg {n k l:Nat} {s:Cf×Cf} (h:V n (k+1) l s) {p:List Int} (hp:Pm n p) (hf:Fx l p):PG n l (s.1.getD l []++ [some p]):= λo ho=>by
 rcases Az.1 ho with ho|ho
 ·exact h.lvl.pg o ho
 ·rw [Ad] at ho;exact ⟨p,ho,hp,hf⟩
theorem V.Aub {n k l:Nat} {s:Cf×Cf} (h:V n (k+1) l s) (p:List Int):Vd n l (s.1.getD l []++ [some p]) (s.2.getD l []):=
 ⟨h.lvl.rl,h.lvl.r0,λy t e=>⟨(h.lvl.rt y t e).1,(h.lvl.rt y t e).2.1,(h.lvl.rt y t e).2.2.1,(h.lvl.rt y t e).2.2.2.mono λ_ hg=>Bj _ hg⟩⟩
theorem wH {α:Type} (xs:List (List α)) (i:Nat) (h:i<xs.length):xs.set i (xs.getD i [])=xs:=by
 refine List.ext_getElem (by simp) λj h1 h2=>?_
 rw [List.getElem_set]
 split
 ·rename_i e;subst e;rw [Ai,Ac h];rfl
 ·rfl
theorem du {α:Type} (xs:List (List α)) (i:Nat) (h:i<xs.length) (r:List α):(xs.set i r).getD i []=r:=by
 rw [Li,Ab ⟨rfl,h⟩]
noncomputable abbrev Qs:MSpec:=qA [none] [(false, .Fz tLO)] false [none] [.row tI 2] (λx=>List.length x.1<=20) (λx=>((Kz x.1,()),()))
noncomputable abbrev Ka:Spec:=Gt (.pair tL (.pair tL .unit)) tO false true (λx=>(0<x.1.length/\x.1.length<=20)/\Lq x.2.1.length x.1) (λx=>some (Af x.1 x.2.1))
noncomputable abbrev Sb:Spec:=Gt (.pair tL (.pair tL .unit)) tL false false (λx=>x.1.length<=20/\Lq x.2.1.length x.1) (λx=>Af x.1 x.2.1)
noncomputable abbrev Nt:Spec:=Gt (.pair tI .unit) tL false true (λx=>0<=x.1/\x.1<=20) (λx=>upto x.1.toNat)
noncomputable abbrev Po:Spec:=Gt (.pair tI .unit) tO false true (λx=>1<=x.1/\x.1<=20) (λx=>some (upto x.1.toNat))
abbrev vN:TypeId:=27
structure dk (N L:Nat) (n:Int) (G T:Cf) (l:Int) (p:List Int):Prop where
 n1:1<=N
 n2:N<=20
 en:n=N
 el:l=L
 le:L<=N
 v:V N (N-L) L (G,T)
 pm:Pm N p
 fx:Fx L p
noncomputable abbrev yr:Spec:=Gt (.pair (.ptr kz) (.pair tI (.pair tL .unit))) .bool false true (λx=> ∃N L,dk N L x.1.1 x.1.2.1 x.1.2.2.1 x.2.1 x.2.2.1) (λx=>Iu x.1.2.2.1 (x.1.1-x.2.1).toNat x.2.1.toNat x.2.2.1)
noncomputable abbrev Ahg:MSpec:= {ptr:=some (165,3),Ii:= [none,none],ins:= [(false, .Fz tI),(false, .Bl tO vN true),(false, .Bl tO vN true),(false, .Fz tI),(false, .Fz tO)],Hk:=false,Gz:= [],outs:= [.Fz tI, .Bl tO vN false, .Bl tO vN false],fn:= λ_=>none,keeps:= [(1,1),(2,2)],Fk:= λx=>x.2.2.2.1.toNat}
noncomputable abbrev Ws (m:Nat):MSpec:=cS Ahg (λx=>(∃N L q,x.2.2.2.2.1=some q/\dk N L x.1 x.2.1 x.2.2.1 x.2.2.2.1 q)/\(x.1-x.2.2.2.1).toNat<m)
 (λx=>((x.1,(Hx (x.1-x.2.2.2.1).toNat x.2.2.2.1.toNat (x.2.2.2.2.1.getD []) (x.2.1,x.2.2.1)).1,(Hx (x.1-x.2.2.2.1).toNat x.2.2.2.1.toNat (x.2.2.2.2.1.getD []) (x.2.1,x.2.2.1)).2,()),()))
theorem JK (n:Int) (P:List Int->Prop):(((0:Int)<=n/\n<(↑Db:Int)+(1:Int))/\n=n/\0=0/\(List.replicate n.toNat (Int.ofNat (nat_lit 0))).length=(List.replicate n.toNat (Int.ofNat (nat_lit 0))).length/\Dm (λ(v2:Int×List Int×PUnit) (k3:Int×List Int×PUnit->Prop)=>Br (decide (v2.1<(↑(List.replicate n.toNat (Int.ofNat (nat_lit 0))).length:Int))) (((0:Int)<=v2.1/\v2.1<(↑v2.2.1.length:Int))/\0+v2.1.toNat<v2.2.1.length/\0=0/\v2.2.1.length=(v2.2.1.set (0+v2.1.toNat) v2.1).length/\k3 (IntKind.i64.wrap (v2.1+(1:Int)),v2.2.1.set (0+v2.1.toNat) v2.1,())) (P (List.take v2.2.1.length (List.drop 0 v2.2.1)))) ((0:Int),List.replicate n.toNat (Int.ofNat (nat_lit 0)),PUnit.unit))=fnW Gb (look []) Nt Tryz.f133 (n,()) P:=by kernel_rfl
theorem XO (row:List (Option (List Int))) (P:(List Int×Unit)×Unit->Prop):(0=0/\0=([]:List Int).length/\Dm (λ(v2:Int×List Int×PUnit) (k3:Int×List Int×PUnit->Prop)=>Br (decide (v2.1<(↑row.length:Int))) (∃(y4:Option (List Int)),idx row v2.1=some y4/\Br (!y4.isNone) (0=0/\v2.2.1.length=v2.2.1.length/\v2.2.1.length+(List.take 1 (List.drop 0 [v2.1])).length<=Db/\0=0/\(v2.2.1++List.take 1 (List.drop 0 [v2.1])).length=(v2.2.1++List.take 1 (List.drop 0 [v2.1])).length/\k3 (IntKind.i64.wrap (v2.1+(1:Int)),v2.2.1++List.take 1 (List.drop 0 [v2.1]),())) (0=0/\v2.2.1.length=v2.2.1.length/\k3 (IntKind.i64.wrap (v2.1+(1:Int)),v2.2.1,()))) (P ((List.take v2.2.1.length (List.drop 0 v2.2.1),()),()))) ((0:Int),[],PUnit.unit))=fnMW aZ (look []) Qs Tryz.f178 (row,()) P:=by kernel_rfl
theorem Apc (c:Int×List (List (Option (List Int)))×List (List (Option (List Int)))×Unit) (l:Int) (p:List Int) (P:Bool->Prop):(Dm (λ(v4:List Int×Int×PUnit) (k5:List Int×Int×PUnit->Prop)=>Br (decide (v4.2.1<c.1)) (∃(y6:List (Option (List Int))),idx c.2.2.1 v4.2.1=some y6/\ ∃(y7:Int),idx v4.1 v4.2.1=some y7/\ ∃(y8:Option (List Int)),idx y6 y7=some y8/\Br y8.isNone (P false) (∃(y9:List Int),Fo.fn (y8.getD [],())=some y9/\ ∃(cq:List Int),Sb.fn (v4.1,y9,())=some cq/\k5 (cq,IntKind.i64.wrap (v4.2.1+(1:Int)),()))) (P true)) (p,l,PUnit.unit))=fnW aZ (look [(58,Fo),(134,Sb)]) yr Tryz.f158 (c,l,p,()) P:=by kernel_rfl
theorem Sound.loose {P:Program} {f:FuncId} {arg res:Ty} {pre:arg.den->Prop} {val:arg.den->res.den} (h:Sound P f (Go.Proofs.YtkkdpknjohcekaaGreat.Gt arg res false true pre val)):Sound P f (Go.Proofs.YtkkdpknjohcekaaGreat.Gt arg res false false pre val):=
 ⟨h.enter,λw S vs x y h1 h2 h3=>Calls.mono (h.calls w S vs x y h1 h2 h3) λe' w' hr=>by
  obtain ⟨v,g1,g2,g3⟩:=hr
  exact ⟨v,g1,g2,Cw.It (S:= λb=>S b\/(true=true/\b<w.heap.size)) g3 λk _ hk=>hk.elim .inl λhh=>absurd (show false=true from hh.1) (by simp)⟩⟩
theorem uM:Sound Tryz.prog 134 Sb:=Sound.loose Rg
theorem uN:Sound Tryz.prog 134 Ka:=Sound.toO Rg λx h=>⟨⟨h.1.2,h.2⟩,λe=>by
 have:=Pf x.1 x.2.1
 rw [e] at this
 have:=h.1.1
 simp only [Fb] at*
 omega⟩
theorem HK (n:Int) (h:0<=n/\n<=20):fnW Gb (look []) Nt Tryz.f133 (n,()) (λ(z:List Int)=>z=upto n.toNat):=by
 refine Eq.mp (JK n _) ⟨⟨by omega,by show n<(4294967296:Int)+1;omega⟩,rfl,rfl,rfl,?_⟩
 refine Bw n.toNat (λv=>v.1) (λj v=>v.2.1.length=n.toNat/\v.2.1.take j=upto j) rfl ⟨by simp,by simp [upto]⟩ ?_
 rintro j ⟨i,ys,⟨⟩⟩ K hj hi ⟨h1,h2⟩ hK
 dsimp only at hi h1 h2⊢
 subst hi
 rw [Gh]
 simp only [Aj,Bo]
 refine Br.dec (λhl=>⟨⟨by omega,by omega⟩,by omega,trivial,by rw [Cm],?_⟩) λhl=>?_
 ·rw [Bm (by omega)]
  refine hK (by omega) _ rfl ⟨by rw [Cm];exact h1,?_⟩
  rw [Ia,List.take_set_of_le (by omega),h2,List.getElem?_set_self (by omega),Zb]
  rfl
 ·have:j=ys.length:=by omega
  subst this
  rw [Ay] at h2
  rw [Ea,Ay,h2,h1]
theorem au:Sound Tryz.prog 133 Nt:=
 Sound.Gt Dt Bp mixed Tryz.func133 (by kernel_rfl) (by kernel_rfl) λx h=>HK x.1 h
theorem SX {n:Int} (h:1<=n/\n<=20):(0<=n/\n<=20)/\upto n.toNat≠ []:=⟨by omega,λe=>by
 have:=Fq List.length e
 simp [upto] at this
 omega⟩
theorem ry:Sound Tryz.prog 133 Po:=Sound.toO au λ_ h=>SX h
theorem HH {row:Row} {j:Nat} :(upto (j+1)).filter (λy=>(row.getD y.toNat none).isSome)=(upto j).filter (λy=>(row.getD y.toNat none).isSome)++if (row.getD j none).isSome=true then [(j:Int)] else []:=by
 rw [Zb,List.filter_append]
 congr 1
 simp only [List.filter_cons,List.filter_nil,Aj]
theorem VJ (row:List (Option (List Int))) (h:List.length row<=20):fnMW aZ (look []) Qs Tryz.f178 (row,()) (λ(z:(List Int×Unit)×Unit)=>z=((Kz row,()),())):=by
 refine Eq.mp (XO row _) ⟨rfl,rfl,?_⟩
 refine Bw row.length (λv=>v.1) (λj v=>v.2.1=(upto j).filter (λy=>(row.getD y.toNat none).isSome)) rfl rfl ?_
 rintro j ⟨i,ys,⟨⟩⟩ K hj hi h1 hK
 dsimp only at hi h1⊢
 subst hi
 refine Br.dec (λhl=>?_) λhl=>?_
 ·have hl:j<row.length:=by omega
  have hlen:ys.length<=j:=by rw [h1];refine Ib (List.length_filter_le _ _) (by simp [upto])
  have hg:row.getD j none=row[j]:=by rw [Ai,Ac hl];rfl
  refine ⟨_,Co hl,Br.of (λhb=>⟨rfl,rfl,?_,rfl,rfl,?_⟩) λhb=>⟨rfl,rfl,?_⟩⟩
  ·show ys.length+1<=4294967296
   omega
  ·rw [Bm (by omega)]
   refine hK hl _ rfl ?_
   show ys++ [(j:Int)]=_
   rw [HH,hg,h1,Ab (by cases e:row[j] with
    |none=>rw [e] at hb;simp at hb
    |some t=>rfl)]
  ·rw [Bm (by omega)]
   refine hK hl _ rfl ?_
   show ys=_
   rw [HH,hg,h1,Ak (by cases e:row[j] with
    |none=>simp
    |some t=>rw [e] at hb;simp at hb),List.append_nil]
 ·have:j=row.length:=by omega
  subst this
  rw [Ea,Ay,h1]
  rfl
theorem lk:Cp Tryz.prog 178 Qs:=
 Cp.qA pT Bp mixed Tryz.func178 (by kernel_rfl) (by kernel_rfl) λx h=>VJ x.1 h
theorem dX {n:Nat} {s:Cf×Cf} : ∀(k l:Nat),dP n k l s-> ∀i,l<=i->i<l+k->Lvl n i (s.1.getD i []) (s.2.getD i []) (λq=>Iu s.2 (l+k-i-1) (i+1) q=true)
 |0,_,_,i,h1,h2=>by omega
 |k+1,l,hc,i,h1,h2=>by
  obtain ⟨c1,c2,_⟩:=hc
  by_cases e:i=l
  ·subst e
   rw [show i+(k+1)-i-1=k by omega]
   exact c2
  ·have:=dX k (l+1) c1 i (by omega) (by omega)
   rwa [show l+1+k-i-1=l+(k+1)-i-1 by omega] at this
theorem qi {α:Type} {xs:List (List α)} {i:Nat} (h:i<xs.length):xs.getD i []=xs[i]:=by
 rw [Ai,Ac h];rfl
theorem FC {α:Type} {xs:List (Option α)} {i:Nat} (h:i<xs.length):xs.getD i none=xs[i]:=by
 rw [Ai,Ac h];rfl
theorem Pm.row {n:Nat} {p:List Int} (h:Pm n p):Lq n p:=by
 have:=h.2.row
 rwa [h.1] at this
theorem Aoo (c:Int×List (List (Option (List Int)))×List (List (Option (List Int)))×Unit) (l:Int) (p:List Int) (h: ∃N L,dk N L c.1 c.2.1 c.2.2.1 l p):
  fnW aZ (look [(58,Fo),(134,Sb)]) yr Tryz.f158 (c,l,p,()) (λ(z:Bool)=>z=Iu c.2.2.1 (c.1-l).toNat l.toNat p):=by
 obtain ⟨n,G,T,⟨⟩⟩:=c
 obtain ⟨N,L,h⟩:=h
 obtain ⟨n1,n2,en,el,hle,v,pm,fx⟩:=h
 dsimp only at en el v⊢
 subst en el
 refine Eq.mp (Apc ((N:Int),G,T,()) (L:Int) p _) ?_
 obtain ⟨v1,v2,v3,v4⟩:=v
 dsimp only at v1 v2
 refine ⟨λv=> ∃i:Nat,L<=i/\i<=N/\v.2.1=i/\Pm N v.1/\Fx i v.1/\Iu T (N-i) i v.1=Iu T (N-L) L p,λv=>N-v.2.1.toNat,⟨L,Ao _,hle,rfl,pm,fx,rfl⟩,?_⟩
 rintro ⟨p',i',⟨⟩⟩ ⟨i,h1,h2,h3,h4,h5,h6⟩
 dsimp only at h3 h4 h5 h6⊢
 subst h3
 rw [show (((N:Int)-(L:Int)).toNat)=N-L by omega,show ((L:Int)).toNat=L by omega,<-h6]
 refine Br.dec (λhl=>?_) λhl=>?_
 ·have hl:i<N:=by omega
  have Kd:=dX (N-L) L v3 i h1 (by omega)
  obtain ⟨a1,a2⟩:=h4.Xm hl
  have hT:i<T.length:=by omega
  have hlen:T[i].length=N:=by have:=Kd.rl;dsimp only at this;rwa [qi hT] at this
  refine ⟨_,Co hT,_,Co (by rw [h4.1];exact hl),?_⟩
  have e1:p'[i]'(by rw [h4.1];exact hl)=(ap p' i:Int):=by rw [<-a1,Is]
  rw [e1]
  refine ⟨_,Co (by omega),?_⟩
  have e2:N-i=(N-i-1)+1:=by omega
  have e3:(T.getD i []).getD (Hi p' (i:Int)).toNat none=T[i][ap p' i]'(by omega):=by
   rw [qi hT];exact FC (by show ap p' i<_;omega)
  rw [e2]
  simp only [Iu,e3]
  refine Br.of (λhb=>?_) λhb=>?_
  ·cases e:T[i][ap p' i]'(by omega) with
   |none=>rfl
   |some t=>rw [e] at hb;simp at hb
  ·cases e:T[i][ap p' i]'(by omega) with
   |none=>rw [e] at hb;simp at hb
   |some t=>
    have ht:(T.getD i []).getD (ap p' i) none=some t:=by rw [<-e];exact e3
    obtain ⟨t1,t2,t3,t4⟩:=Kd.rt _ _ ht
    simp only [Bq]
    refine ⟨_,Ab ⟨by show t.length<=20;rw [t1.1];exact n2,t1.2.row⟩,_,Ab ⟨by show p'.length<=20;rw [h4.1];exact n2,by show Lq (Bb t).length p';rw [nC,t1.1];exact h4.row⟩,⟨i+1,by omega,by omega,Bm (by omega),h4.comp t1.inv,Fx.div h4 t1 h5 t2 hl t3,?_⟩,?_⟩
    ·rw [show N-(i+1)=N-i-1 by omega]
    ·show N-(IntKind.i64.wrap ((i:Int)+1)).toNat<N-((i:Int)).toNat
     rw [Bm (by omega)]
     omega
 ·rw [show N-i=0 by omega]
  rfl
theorem WJ:Sound Tryz.prog 158 yr:=
 Sound.Gt pT (Av Ww (Av uM Bp)) mixed Tryz.func158 (by kernel_rfl) (by kernel_rfl) λx h=>Aoo x.1 x.2.1 x.2.2.1 h
abbrev CA:Type:=Nat×Nat×Int×List (List (Option (List Int)))×Nat×List (List (Option (List Int)))×Nat×List Int×Int×PUnit
abbrev Acd:Type:=Nat×Int×List (List (Option (List Int)))×Nat×List (List (Option (List Int)))×Nat×List Int×Int×PUnit
abbrev Acg:Type:=Nat×List (List (Option (List Int)))×Nat×List (List (Option (List Int)))×Nat×List Int×Int×PUnit
abbrev Lm (G:List (List (Option (List Int)))) (l:Int) (p:Option (List Int)) (T:List (List (Option (List Int)))) (y7:Bool) (n:Int):Prop:=0=0/\(G.getD (0+l.toNat) []).length=(G.getD (0+l.toNat) []).length/\(G.getD (0+l.toNat) []).length+(List.take 1 (List.drop 0 [p])).length<=Db/\((0:Int)<=l/\l<(↑G.length:Int))/\0=0/\(G.getD (0+l.toNat) []++List.take 1 (List.drop 0 [p])).length=(G.getD (0+l.toNat) []++List.take 1 (List.drop 0 [p])).length/\0+l.toNat=0+l.toNat/\ [(0,G.length),(0,G.length),(0,G.length),(0,T.length)]= [(0,G.length),(0,G.length),(0,G.length),(0,T.length)]/\(l,p,l,p,y7,l,l,0+l.toNat,p,List.take 1 (List.drop 0 [p]),0+l.toNat,G.set (0+l.toNat) (G.getD (0+l.toNat) []++List.take 1 (List.drop 0 [p])),min G.length (0+l.toNat),T,T.length,n,())=(l,p,l,p,y7,l,l,0+l.toNat,p,List.take 1 (List.drop 0 [p]),0+l.toNat,G.set (0+l.toNat) (G.getD (0+l.toNat) []++List.take 1 (List.drop 0 [p])),min G.length (0+l.toNat),T,T.length,n,PUnit.unit)
theorem Ap7 {m:Nat} (n:Int) (G T:List (List (Option (List Int)))) (l:Int) (p:Option (List Int)) (P:(Int×List (List (Option (List Int)))×List (List (Option (List Int)))×Unit)×Unit->Prop):(∃(y7:Bool),yr.fn ((n,List.take G.length (List.drop 0 G),List.take T.length (List.drop 0 T),()),l,p.getD [],())=some y7/\Br y7 ((0=0/\G.length=G.length)/\(0=0/\T.length=T.length)/\(Ws (m+1)).Fk (n,G,T,l,p,())<=G.length/\(Ws (m+1)).Fk (n,G,T,l,p,())<=T.length/\P ((n,G,T,()),())) (((0:Int)<=l/\l<(↑G.length:Int))/\0=0/\(G.getD (0+l.toNat) []).length=(G.getD (0+l.toNat) []).length/\(G.getD (0+l.toNat) []).length+(List.take 1 (List.drop 0 [p])).length<=Db/\((0:Int)<=l/\l<(↑G.length:Int))/\0=0/\(G.getD (0+l.toNat) []++List.take 1 (List.drop 0 [p])).length=(G.getD (0+l.toNat) []++List.take 1 (List.drop 0 [p])).length/\0+l.toNat=0+l.toNat/\(((0:Int)<=l/\l<(↑T.length:Int))/\ ∃(y8:(List Int×PUnit)×PUnit),Qs.fn (T.getD (0+l.toNat) [],())=some y8/\0=0/\(List.take y8.1.1.length (List.drop 0 y8.1.1)).length=(List.take y8.1.1.length (List.drop 0 y8.1.1)).length/\0=0/\G.length=(G.set (0+l.toNat) (G.getD (0+l.toNat) []++List.take 1 (List.drop 0 [p]))).length/\0=0/\T.length=T.length/\Dm (λ(v9:Acg) (k10:Acg->Prop)=>Br (decide ((↑v9.2.2.2.2.2.1.length:Int)>(0:Int))) (((0:Int)<=l/\l<(↑v9.2.1.length:Int))/\0=0/\(List.take v9.2.2.2.2.2.1.length (List.drop 0 v9.2.2.2.2.2.1)).length=(List.take v9.2.2.2.2.2.1.length (List.drop 0 v9.2.2.2.2.2.1)).length/\0=0/\v9.2.1.length=v9.2.1.length/\0=0/\v9.2.2.2.1.length=v9.2.2.2.1.length/\Dm (λ(v11:CA) (k12:CA->Prop)=>Br (decide (v11.2.2.1<(↑(v9.2.1.getD (0+l.toNat) []).length:Int))) (((0:Int)<=v11.2.2.1/\v11.2.2.1<(↑(v11.2.2.2.1.getD v11.2.1 []).length:Int))/\((0:Int)<=(0:Int)/\(0:Int)<(↑v11.2.2.2.2.2.2.2.1.length:Int))/\ ∃(vO:Int),v11.2.2.2.2.2.2.2.1[0+Int.toNat (0:Int)]?=some vO/\ ∃(ah:Int),idx (((v11.2.2.2.1.getD v11.2.1 []).getD v11.2.2.1.toNat (none:Option (List Int))).getD []) vO=some ah/\((0:Int)<=ah/\ah<(↑(v11.2.2.2.2.2.1.getD v11.1 []).length:Int))/\Br ((v11.2.2.2.2.2.1.getD v11.1 []).getD ah.toNat (none:Option (List Int))).isNone (((0:Int)<=(0:Int)/\(0:Int)<(↑v11.2.2.2.2.2.2.2.1.length:Int))/\ ∃(oA:Int),v11.2.2.2.2.2.2.2.1[0+Int.toNat (0:Int)]?=some oA/\((0:Int)<=oA/\oA<(↑(v11.2.2.2.2.2.1.getD v11.1 []).length:Int))/\ ∃(s8:Option (List Int)),Ka.fn (((v11.2.2.2.2.2.1.getD v11.1 []).getD oA.toNat (none:Option (List Int))).getD [],((v11.2.2.2.1.getD v11.2.1 []).getD v11.2.2.1.toNat (none:Option (List Int))).getD [],())=some s8/\((0:Int)<=ah/\ah<(↑(v11.2.2.2.2.2.1.getD v11.1 []).length:Int))/\0=0/\v11.2.2.2.2.2.2.2.1.length=v11.2.2.2.2.2.2.2.1.length/\v11.2.2.2.2.2.2.2.1.length+(List.take 1 (List.drop 0 [ah])).length<=Db/\0=0/\(List.take (v11.2.2.2.2.2.2.2.1++List.take 1 (List.drop 0 [ah])).length (List.drop 0 (v11.2.2.2.2.2.2.2.1++List.take 1 (List.drop 0 [ah])))).length=(List.take (v11.2.2.2.2.2.2.2.1++List.take 1 (List.drop 0 [ah])).length (List.drop 0 (v11.2.2.2.2.2.2.2.1++List.take 1 (List.drop 0 [ah])))).length/\0=0/\v11.2.2.2.1.length=v11.2.2.2.1.length/\0=0/\v11.2.2.2.2.2.1.length=(v11.2.2.2.2.2.1.set v11.1 ((v11.2.2.2.2.2.1.getD v11.1 []).set ah.toNat s8)).length/\k12 (v11.1,v11.2.1,IntKind.i64.wrap (v11.2.2.1+(1:Int)),v11.2.2.2.1,v11.2.2.2.2.1,v11.2.2.2.2.2.1.set v11.1 ((v11.2.2.2.2.2.1.getD v11.1 []).set ah.toNat s8),v11.2.2.2.2.2.2.1,List.take (v11.2.2.2.2.2.2.2.1++List.take 1 (List.drop 0 [ah])).length (List.drop 0 (v11.2.2.2.2.2.2.2.1++List.take 1 (List.drop 0 [ah]))),v11.2.2.2.2.2.2.2.2.1,())) (0=0/\(List.take v11.2.2.2.2.2.2.2.1.length (List.drop 0 v11.2.2.2.2.2.2.2.1)).length=(List.take v11.2.2.2.2.2.2.2.1.length (List.drop 0 v11.2.2.2.2.2.2.2.1)).length/\0=0/\v11.2.2.2.1.length=v11.2.2.2.1.length/\0=0/\v11.2.2.2.2.2.1.length=v11.2.2.2.2.2.1.length/\k12 (v11.1,v11.2.1,IntKind.i64.wrap (v11.2.2.1+(1:Int)),v11.2.2.2.1,v11.2.2.2.2.1,v11.2.2.2.2.2.1,v11.2.2.2.2.2.2.1,List.take v11.2.2.2.2.2.2.2.1.length (List.drop 0 v11.2.2.2.2.2.2.2.1),v11.2.2.2.2.2.2.2.2.1,()))) (((0:Int)<=(1:Int)/\(1:Int)<=(↑v11.2.2.2.2.2.2.2.1.length:Int)/\(↑v11.2.2.2.2.2.2.2.1.length:Int)<=(↑v11.2.2.2.2.2.2.2.1.length:Int))/\0=0/\(List.take ((↑v11.2.2.2.2.2.2.2.1.length:Int).toNat-Int.toNat (1:Int)) (List.drop (0+Int.toNat (1:Int)) v11.2.2.2.2.2.2.2.1)).length=(List.take ((↑v11.2.2.2.2.2.2.2.1.length:Int).toNat-Int.toNat (1:Int)) (List.drop (0+Int.toNat (1:Int)) v11.2.2.2.2.2.2.2.1)).length/\0=0/\v11.2.2.2.1.length=v11.2.2.2.1.length/\0=0/\v11.2.2.2.2.2.1.length=v11.2.2.2.2.2.1.length/\k10 (v11.1,v11.2.2.2.1,v11.2.2.2.2.1,v11.2.2.2.2.2.1,v11.2.2.2.2.2.2.1,List.take ((↑v11.2.2.2.2.2.2.2.1.length:Int).toNat-Int.toNat (1:Int)) (List.drop (0+Int.toNat (1:Int)) v11.2.2.2.2.2.2.2.1),v11.2.2.2.2.2.2.2.2.1,()))) (v9.1,0+l.toNat,(0:Int),v9.2.1,v9.2.2.1,v9.2.2.2.1,v9.2.2.2.2.1,List.take v9.2.2.2.2.2.1.length (List.drop 0 v9.2.2.2.2.2.1),v9.2.2.2.2.2.2.1,PUnit.unit)) (∃(Xp:(List Int×PUnit)×PUnit),Qs.fn (v9.2.2.2.1.getD v9.1 [],())=some Xp/\0=0/\Xp.1.1.length=Xp.1.1.length/\0=0/\v9.2.1.length=v9.2.1.length/\0=0/\v9.2.2.2.1.length=v9.2.2.2.1.length/\Dm (λ(Od:Acd) (k13:Acd->Prop)=>Br (decide (Od.2.1<(↑Xp.1.1.length:Int))) (((0:Int)<=Od.2.1/\Od.2.1<(↑Od.2.2.2.2.2.2.1.length:Int))/\ ∃(ah:Int),Od.2.2.2.2.2.2.1[0+Od.2.1.toNat]?=some ah/\((0:Int)<=l/\l<(↑Od.2.2.1.length:Int))/\0=0/\Od.2.2.2.2.2.2.1.length=Od.2.2.2.2.2.2.1.length/\0=0/\Od.2.2.1.length=Od.2.2.1.length/\0=0/\Od.2.2.2.2.1.length=Od.2.2.2.2.1.length/\Dm (λ(Rj:CA) (k16:CA->Prop)=>Br (decide (Rj.2.2.1<(↑(Od.2.2.1.getD (0+l.toNat) []).length:Int))) (((0:Int)<=Rj.2.2.1/\Rj.2.2.1<(↑(Rj.2.2.2.1.getD Rj.2.1 []).length:Int))/\((0:Int)<=ah/\ah<(↑(Rj.2.2.2.2.2.1.getD Rj.1 []).length:Int))/\ ∃(QI:Option (List Int)),Ka.fn (((Rj.2.2.2.2.2.1.getD Rj.1 []).getD ah.toNat (none:Option (List Int))).getD [],((Rj.2.2.2.1.getD Rj.2.1 []).getD Rj.2.2.1.toNat (none:Option (List Int))).getD [],())=some QI/\ ∃(XX:Int),idx (((Rj.2.2.2.1.getD Rj.2.1 []).getD Rj.2.2.1.toNat (none:Option (List Int))).getD []) ah=some XX/\((0:Int)<=XX/\XX<(↑(Rj.2.2.2.2.2.1.getD Rj.1 []).length:Int))/\ ∃(y19:List Int),Fo.fn (((Rj.2.2.2.2.2.1.getD Rj.1 []).getD XX.toNat (none:Option (List Int))).getD [],())=some y19/\ ∃(y20:Option (List Int)),Ka.fn (QI.getD [],y19,())=some y20/\0=0/\Rj.2.2.2.1.length=Rj.2.2.2.1.length/\0=0/\Rj.2.2.2.2.2.1.length=Rj.2.2.2.2.2.1.length/\ ∃(YF:(Int×List (List (Option (List Int)))×List (List (Option (List Int)))×PUnit)×PUnit),(Ws m).fn (Rj.2.2.2.2.2.2.2.2.1,Rj.2.2.2.1,Rj.2.2.2.2.2.1,IntKind.i64.wrap (l+(1:Int)),y20,())=some YF/\(Rj.1<(Ws m).Fk (Rj.2.2.2.2.2.2.2.2.1,Rj.2.2.2.1,Rj.2.2.2.2.2.1,IntKind.i64.wrap (l+(1:Int)),y20,())/\Rj.1<(List.length YF.1.2.2.1))/\(Rj.2.1<(Ws m).Fk (Rj.2.2.2.2.2.2.2.2.1,Rj.2.2.2.1,Rj.2.2.2.2.2.1,IntKind.i64.wrap (l+(1:Int)),y20,())/\Rj.2.1<(List.length YF.1.2.1))/\(Rj.1<(Ws m).Fk (Rj.2.2.2.2.2.2.2.2.1,Rj.2.2.2.1,Rj.2.2.2.2.2.1,IntKind.i64.wrap (l+(1:Int)),y20,())/\Rj.1<(List.length YF.1.2.2.1))/\(Rj.1<(Ws m).Fk (Rj.2.2.2.2.2.2.2.2.1,Rj.2.2.2.1,Rj.2.2.2.2.2.1,IntKind.i64.wrap (l+(1:Int)),y20,())/\Rj.1<(List.length YF.1.2.2.1))/\0=0/\Rj.2.2.2.2.2.2.2.1.length=Rj.2.2.2.2.2.2.2.1.length/\0=0/\YF.1.2.1.length=YF.1.2.1.length/\0=0/\YF.1.2.2.1.length=YF.1.2.2.1.length/\k16 (Rj.1,Rj.2.1,IntKind.i64.wrap (Rj.2.2.1+(1:Int)),YF.1.2.1,min Rj.2.2.2.2.1 ((Ws m).Fk (Rj.2.2.2.2.2.2.2.2.1,Rj.2.2.2.1,Rj.2.2.2.2.2.1,IntKind.i64.wrap (l+(1:Int)),y20,())),YF.1.2.2.1,min Rj.2.2.2.2.2.2.1 ((Ws m).Fk (Rj.2.2.2.2.2.2.2.2.1,Rj.2.2.2.1,Rj.2.2.2.2.2.1,IntKind.i64.wrap (l+(1:Int)),y20,())),Rj.2.2.2.2.2.2.2.1,YF.1.1,())) (0=0/\Rj.2.2.2.2.2.2.2.1.length=Rj.2.2.2.2.2.2.2.1.length/\0=0/\Rj.2.2.2.1.length=Rj.2.2.2.1.length/\0=0/\Rj.2.2.2.2.2.1.length=Rj.2.2.2.2.2.1.length/\k13 (Rj.1,IntKind.i64.wrap (Od.2.1+(1:Int)),Rj.2.2.2.1,Rj.2.2.2.2.1,Rj.2.2.2.2.2.1,Rj.2.2.2.2.2.2.1,Rj.2.2.2.2.2.2.2.1,Rj.2.2.2.2.2.2.2.2.1,()))) (Od.1,0+l.toNat,(0:Int),Od.2.2.1,Od.2.2.2.1,Od.2.2.2.2.1,Od.2.2.2.2.2.1,Od.2.2.2.2.2.2.1,Od.2.2.2.2.2.2.2.1,PUnit.unit)) ((0=0/\Od.2.2.1.length=Od.2.2.1.length)/\(0=0/\Od.2.2.2.2.1.length=Od.2.2.2.2.1.length)/\(Ws (m+1)).Fk (n,G,T,l,p,())<=Od.2.2.2.1/\(Ws (m+1)).Fk (n,G,T,l,p,())<=Od.2.2.2.2.2.1/\P ((Od.2.2.2.2.2.2.2.1,Od.2.2.1,Od.2.2.2.2.1,()),()))) (v9.1,(0:Int),v9.2.1,v9.2.2.1,v9.2.2.2.1,v9.2.2.2.2.1,Xp.1.1,v9.2.2.2.2.2.2.1,PUnit.unit))) (0+l.toNat,G.set (0+l.toNat) (G.getD (0+l.toNat) []++List.take 1 (List.drop 0 [p])),min G.length (0+l.toNat),T,T.length,List.take y8.1.1.length (List.drop 0 y8.1.1),n,PUnit.unit))/\(((((0:Int)<=l/\l<(↑G.length:Int))/\((Lm G l p T y7 n))/\(Lm G l p T y7 n))/\((0:Int)<=l/\l<(↑G.length:Int))/\(Lm G l p T y7 n))/\((0:Int)<=l/\l<(↑G.length:Int))/\(Lm G l p T y7 n))/\(((((0:Int)<=l/\l<(↑G.length:Int))/\((Lm G l p T y7 n))/\(Lm G l p T y7 n))/\((0:Int)<=l/\l<(↑G.length:Int))/\(Lm G l p T y7 n))/\(((0:Int)<=l/\l<(↑G.length:Int))/\(((Lm G l p T y7 n))/\(Lm G l p T y7 n))/\(((Lm G l p T y7 n))/\((Lm G l p T y7 n))/\(Lm G l p T y7 n))/\((Lm G l p T y7 n))/\((Lm G l p T y7 n))/\(Lm G l p T y7 n))/\(((0:Int)<=l/\l<(↑G.length:Int))/\(Lm G l p T y7 n))/\((0:Int)<=l/\l<(↑G.length:Int))/\((Lm G l p T y7 n))/\((Lm G l p T y7 n))/\(Lm G l p T y7 n))/\(((0:Int)<=l/\l<(↑G.length:Int))/\(Lm G l p T y7 n))/\(((0:Int)<=l/\l<(↑G.length:Int))/\(Lm G l p T y7 n))/\((0:Int)<=l/\l<(↑G.length:Int))/\((Lm G l p T y7 n))/\((Lm G l p T y7 n))/\(Lm G l p T y7 n)))=fnMW (Ack [Sa+7]) (look [(158,yr),(178,Qs),(134,Ka),(58,Fo),(176,bx.m (Ws m))]) (Ws (m+1)) Tryz.f176 (n,G,T,l,p,()) P:=by kernel_rfl
theorem DP {k l:Nat} {p:List Int} {s:Cf×Cf} (h:Iu s.2 k l p=true):Hx k l p s=s:=by
 cases k with
 |zero=>rfl
 |succ k=>unfold Hx;rw [Ab h]
theorem DO (k l:Nat) (p:List Int) (s:Cf×Cf):Hx (k+1) l p s=if Iu s.2 (k+1) l p=true then s else
   (gH (Zm (s.1.getD l []++ [some p]) (s.2.getD l [])) (s.1.getD l []++ [some p])).foldl (λs q=>Hx k (l+1) q s)
    (s.1.set l (s.1.getD l []++ [some p]),s.2.set l (Zm (s.1.getD l []++ [some p]) (s.2.getD l []))):=rfl
theorem zz {n:Nat} {p:List Int} (h:Pm n p) {i:Nat} (hi:i<n):idx p (i:Int)=some (ap p i:Int):=by
 have kZ:i<p.length:=by rw [h.1];exact hi
 rw [Co kZ,<-(h.Xm hi).1,Is kZ]
theorem KO {x:Int} {gs:List PO} {j:Nat} (hj:j<gs.length) (s:Row×List Int):az x (gs.take (j+1)) s=aK x (az x (gs.take j) s) gs[j]:=by
 unfold az
 rw [Ia,Ac hj,Tr,ct]
 rfl
theorem KP {gs:List PO} {f:Nat} {row:Row} :ak gs f [] row=row:=by cases f<;>rfl
theorem Xy {n:Nat} {p:List Int} (h:Pm n p):0<p.length/\p.length<=20:=⟨by rw [h.1];exact h.n1,by rw [h.1];exact h.n2⟩
theorem pC {n:Nat} {p q:List Int} (h:Pm n p) (k:Pm n q):Lq q.length p:=by rw [k.1];exact h.row
theorem Aoj {m:Nat} (n:Int) (G T:List (List (Option (List Int)))) (l:Int) (p:Option (List Int)) (h:(∃N L q,p=some q/\dk N L n G T l q)/\(n-l).toNat<m+1):
  fnMW (Ack [Sa+7]) (look [(158,yr),(178,Qs),(134,Ka),(58,Fo),(176,bx.m (Ws m))]) (Ws (m+1)) Tryz.f176 (n,G,T,l,p,()) (λ(z:(Int×List (List (Option (List Int)))×List (List (Option (List Int)))×Unit)×Unit)=>z=((n,(Hx (n-l).toNat l.toNat (p.getD []) (G,T)).1,(Hx (n-l).toNat l.toNat (p.getD []) (G,T)).2,()),())):=by
 obtain ⟨⟨N,L,q,rfl,h⟩,hm⟩:=h
 have h':=h
 obtain ⟨n1,n2,en,el,hle,v,pm,fx⟩:=h
 subst en el
 have hk:((N:Int)-(L:Int)).toNat=N-L:=by omega
 rw [hk,Aj]
 refine Eq.mp (Ap7 (N:Int) G T (L:Int) (some q) _) ⟨_,Ab ⟨N,L,?a⟩,?b⟩
 case a=>
  simp only [Ea,Ay,Bq]
  exact h'
 obtain ⟨v1,v2,v3,v4⟩:=v
 dsimp only at v1 v2
 have hw:IntKind.i64.wrap ((L:Int)+1)=((L+1:Nat):Int):=Bm (by omega)
 simp only [Lm]
 simp only [Ea,Ay,Bq,hk,Aj,Bo,eq_self,true_and,Oh,List.take_succ_cons,List.take_zero,Aw,Fb,Cm,hw]
 refine Br.of (λhh=>⟨by show Int.toNat (L:Int)<=G.length;omega,by show Int.toNat (L:Int)<=T.length;omega,?_⟩) λhh=>?_
 ·rw [DP (s:=(G,T)) hh]
 obtain ⟨k,hNk⟩: ∃k,N-L=k+1:=by
  cases e:N-L with
  |zero=>rw [e] at hh;simp [Iu] at hh
  |succ k=>exact ⟨k,rfl⟩
 have hLN:L<N:=by omega
 have hv:V N (k+1) L (G,T):=by rw [<-hNk];exact ⟨v1,v2,v3,v4⟩
 rw [hNk] at hh⊢
 have e1:(0:Int)<=(L:Int)/\(L:Int)<(G.length:Int):=by omega
 have e1':(0:Int)<=(L:Int)/\(L:Int)<(T.length:Int):=by omega
 have hgl:(G.getD L []).length<=400:=RF n2 (by omega) hv
 have e2:(G.getD L []).length+1<=Db:=by show _<=4294967296;omega
 simp only [e1,e1',e2,and_self,true_and,Oh]
 generalize ny:G.getD L []++ [some q]=gs
 have Axq:gs.length<=401:=by rw [<-ny,Au,Cg];omega
 have hg:PG N L gs:=by rw [<-ny];exact hv.pg pm fx
 have hr0:Vd N L gs (T.getD L []):=by rw [<-ny];exact hv.Aub q
 obtain ⟨r1,r2,r3⟩:=HI hLN n2 hg hr0
 generalize hR:Zm gs (T.getD L [])=R at r1 r2 r3
 have zx:Hx (k+1) L q (G,T)=(gH R gs).foldl (λs q=>Hx k (L+1) q s) (G.set L gs,T.set L R):=by
  rw [DO,Ak (by rw [hh];simp)]
  dsimp only
  rw [ny,hR]
 rw [zx]
 have hTl:L<T.length:=by omega
 have hGl:L<G.length:=by omega
 have hG1:(G.set L gs).getD L []=gs:=du G L hGl gs
 have hT1: ∀row:Row,(T.set L row).getD L []=row:=du T L hTl
 refine ⟨_,Ab (by show (T.getD L []).length<=20;rw [hr0.rl];exact n2),?_⟩
 dsimp only
 have hn0:(Kz (T.getD L [])).length+Mf (T.getD L [])<=40:=by have:=zX (T.getD L []);have:=j8 (T.getD L []);have:=hr0.rl;omega
 have hq0:TB gs (Kz (T.getD L [])) (T.getD L []):=⟨λy hy=>Ul.1 hy,λy hy=> .inl (Ul.2 ⟨y,rfl,hy⟩)⟩
 refine ⟨λv=> ∃(row:Row) (qu:List Int) (kg kt:Nat),v=(L,G.set L gs,kg,T.set L row,kt,qu,(N:Int),())/\L<=kg/\L<=kt/\qu.length+Mf row<=40/\Vd N L gs row/\TB gs qu row/\ak gs (qu.length+Mf row) qu row=R,
  fun v=>v.2.2.2.2.2.1.length+Mf (v.2.2.2.1.getD v.1 []),⟨T.getD L [],Kz (T.getD L []),min G.length L,T.length,?_,by omega,by omega,hn0,hr0,hq0,?_⟩,?_⟩
 ·rw [wH T L hTl]
 ·rw [<-EA hLN hg 100 _ _ (by omega) hr0 hq0];exact hR
 rintro v ⟨row,qu,kg,kt,rfl,hkg,hkt,hb,hro,hqi,ZM⟩
 dsimp only
 simp only [hG1,hT1,Cm]
 refine Br.dec (λhl=>⟨e1.2,?_⟩) λhl=>?_
 ·cases qu with
  |nil=>simp at hl
  |cons x qu=>
  obtain ⟨p1,p2,xn,t,rfl,ht⟩:=OC hLN hg hro hqi
  have hxn:xn<N:=by rw [<-hro.rl];exact nu ht
  refine Bw gs.length (λv=>v.2.2.1) (λj v=> ∃kg kt:Nat,v=(L,L,(j:Int),G.set L gs,kg,T.set L (az (xn:Int) (gs.take j) (row,qu)).1,kt,(xn:Int)::(az (xn:Int) (gs.take j) (row,qu)).2,(N:Int),())/\L<=kg/\L<=kt) rfl ⟨kg,kt,rfl,hkg,hkt⟩ ?_
  rintro j v K hj hi ⟨kg,kt,rfl,h1,h2⟩ hK
  dsimp only
  simp only [hG1,hT1,Aj]
  refine Br.dec (λhl=>?_) λhl=>?_
  ·have hl:j<gs.length:=by omega
   obtain ⟨x1,x2⟩:=Abo hLN hg (gs.take j) (q:=qu) (λo ho=>En ho) hro ht
   have Uh:=KO (x:=(xn:Int)) hl (row,qu)
   generalize az (xn:Int) (gs.take j) (row,qu)=s at x1 x2 Uh⊢
   obtain ⟨r,qq⟩:=s
   dsimp only at x1 x2⊢
   obtain ⟨g,oD,Ts,hgf⟩:=hg gs[j] (Al hl)
   have htx:r.getD xn none=some t:=x1.mono _ _ ht
   obtain ⟨t1,t2,t3,t4⟩:=x1.ok.rt _ _ htx
   have KE:r.length=N:=x1.ok.rl
   have hgj:gs.getD j none=some g:=by rw [FC hl];exact oD
   have hy:=Ts.lt hxn
   have hga:=(Ts.Xm hxn).1
   have Aek:qq.length+Mf r=qu.length+Mf row:=x1.phi
   simp only [Aw] at hb
   simp only [hgj,Bq]
   refine ⟨⟨by omega,by omega⟩,⟨by omega,by simp only [Aw];omega⟩,_,rfl,_,zz Ts hxn,⟨by omega,by omega⟩,?_⟩
   rw [oD] at Uh
   unfold aK at Uh
   dsimp only at Uh
   rw [Bq,hga,Aj,Aj,htx,Bq] at Uh
   rw [Aj]
   refine Br.of (λhn=>?_) λhn=>?_
   ·have hn:r.getD (ap g xn) none=none:=by
     cases e:r.getD (ap g xn) none with
     |none=>rfl
     |some u=>rw [e] at hn;simp at hn
    rw [hn] at Uh
    refine ⟨⟨by omega,by simp only [Aw];omega⟩,_,rfl,⟨by omega,by omega⟩,some (Af t g),?_,⟨by omega,by omega⟩,?_,?_⟩
    ·rw [Aj,htx,Bq]
     exact Ab ⟨Xy t1,pC t1 Ts⟩
    ·show qq.length+1+1<=4294967296
     omega
    ·rw [Bm (by omega)]
     refine hK hl _ rfl ⟨kg,kt,?_,h1,h2⟩
     rw [Uh,List.set_set]
     rfl
   ·have hn: ∃u,r.getD (ap g xn) none=some u:=by
     cases e:r.getD (ap g xn) none with
     |none=>rw [e] at hn;simp at hn
     |some u=>exact ⟨u,rfl⟩
    obtain ⟨u,hn⟩:=hn
    rw [hn] at Uh
    rw [Bm (by omega)]
    refine hK hl _ rfl ⟨kg,kt,?_,h1,h2⟩
    rw [Uh]
  ·have:j=gs.length:=by omega
   subst this
   rw [Ay]
   generalize hs:az (xn:Int) gs (row,qu)=s at p1 p2⊢
   obtain ⟨r,qq⟩:=s
   dsimp only at p1 p2⊢
   have Aek:qq.length+Mf r=qu.length+Mf row:=p1.phi
   simp only [Aw] at hb ZM
   refine ⟨⟨by omega,by simp only [Aw];omega,Sf _⟩,⟨r,qq,kg,kt,?_,h1,h2,by omega,p1.ok,p2,?_⟩,?_⟩
   ·simp
   ·rw [show qu.length+1+Mf row=(qu.length+Mf row)+1 by omega] at ZM
    simp only [ak,hs] at ZM
    rw [Aek]
    exact ZM
   ·simp only [Aw]
    have:(List.take (qq.length+1-Int.toNat 1) (List.drop (Int.toNat 1) ((xn:Int)::qq))).length=qq.length:=by simp
    rw [this]
    omega
 ·have:qu= []:=Ck (by omega)
  subst this
  rw [KP] at ZM
  subst ZM
  have hpr:=Abk hLN hg hro r3
  have hvl:=hv.lower gs row
  have Agr: ∀qs:List (List Int),(∀q∈qs,q∈gH row gs)->V N k (L+1) (qs.foldl (λs q=>Hx k (L+1) q s) (G.set L gs,T.set L row))/\Wa (L+1) (G.set L gs,T.set L row) (qs.foldl (λs q=>Hx k (L+1) q s) (G.set L gs,T.set L row)):=
   fun qs UF=>QZ n1 n2 (by omega) qs _ (λq hq=>hpr q (UF q hq)) hvl
  refine ⟨_,Ab (by show row.length<=20;rw [hro.rl];exact n2),?_⟩
  dsimp only
  have hol:=zX row
  have KE:=hro.rl
  refine Bw (Kz row).length (λv=>v.2.1) (λi v=> ∃(s:Cf×Cf) (kg kt:Nat),v=(L,(i:Int),s.1,kg,s.2,kt,Kz row,(N:Int),())/\L<=kg/\L<=kt/\s=(((Kz row).take i).flatMap λy=>gs.map (Uc row y)).foldl (λs q=>Hx k (L+1) q s) (G.set L gs,T.set L row)) rfl ⟨_,kg,kt,rfl,hkg,hkt,rfl⟩ ?_
  rintro i v K hi kZ ⟨s,kg,kt,rfl,h1,h2,hs⟩ hK
  dsimp only
  have Ps: ∀q∈((Kz row).take i).flatMap (λy=>gs.map (Uc row y)),q∈gH row gs:= λq hq=>by
   obtain ⟨y,hy,hq⟩:=Gf.1 hq
   exact Gf.2 ⟨y,En hy,hq⟩
  refine Br.dec (λhl=>?_) λhl=>?_
  ·have hl:i<(Kz row).length:=by omega
   obtain ⟨f1,f2⟩:=Agr _ Ps
   rw [<-hs] at f1 f2
   have g1:s.1.getD L []=gs:=by rw [(f2.low L (by omega)).1];exact hG1
   have g2:s.1.length=N:=f1.1
   obtain ⟨yn,hyn,hyr⟩:=Ul.1 (Al hl)
   obtain ⟨t,ht⟩:=Kk.1 hyr
   have hyN:yn<N:=by rw [<-KE];exact nu ht
   obtain ⟨t1,t2,t3,t4⟩:=hro.rt _ _ ht
   refine ⟨⟨by omega,by omega⟩,(yn:Int),by rw [Aj,Ac hl,hyn],by omega,?_⟩
   rw [g1]
   refine Bw gs.length (λv=>v.2.2.1) (λj v=> ∃(s':Cf×Cf) (kg kt:Nat),v=(L,L,(j:Int),s'.1,kg,s'.2,kt,Kz row,(N:Int),())/\L<=kg/\L<=kt/\s'=(((Kz row).take i).flatMap (λy=>gs.map (Uc row y))++(gs.take j).map (Uc row (yn:Int))).foldl (λs q=>Hx k (L+1) q s) (G.set L gs,T.set L row)) rfl ⟨s,kg,kt,rfl,h1,h2,by simpa using hs⟩ ?_
   rintro j v K' hj LS ⟨s',kg,kt,rfl,h1,h2,zw⟩ hK'
   dsimp only
   refine Br.dec (λJv=>?_) λJv=>?_
   ·have Jv:j<gs.length:=by omega
    have RV: ∀q∈((Kz row).take i).flatMap (λy=>gs.map (Uc row y))++(gs.take j).map (Uc row (yn:Int)),q∈gH row gs:= λq hq=>by
     rcases Az.1 hq with hq|hq
     ·exact Ps q hq
     ·obtain ⟨o,ho,rfl⟩:=Bg.1 hq
      exact Gf.2 ⟨(yn:Int),Ul.2 ⟨yn,rfl,hyr⟩,Bg.2 ⟨o,En ho,rfl⟩⟩
    obtain ⟨f1',f2'⟩:=Agr _ RV
    rw [<-zw] at f1' f2'
    obtain ⟨G',T'⟩:=s'
    dsimp only at f1' f2'⊢
    have g1':G'.getD L []=gs:=by have:=(f2'.low L (by omega)).1;dsimp only at this;rw [this];exact hG1
    have g3':T'.getD L []=row:=by have:=(f2'.low L (by omega)).2;dsimp only at this;rw [this];exact hT1 row
    have g4':G'.length=N:=f1'.1
    have g5':T'.length=N:=f1'.2.1
    obtain ⟨g,oD,Ts,hgf⟩:=hg gs[j] (Al Jv)
    have hgj:gs.getD j none=some g:=by rw [FC Jv];exact oD
    have DC:some g∈gs:=by rw [<-oD];exact Al Jv
    have hy:=Ts.lt hyN
    obtain ⟨t',vK⟩:=Kk.1 (r3 yn t g ht DC)
    obtain ⟨u1,u2,u3,u4⟩:=hro.rt _ _ vK
    have Ank:Uc row (yn:Int) gs[j]=Af (Af t g) (Bb t'):=by rw [oD];exact jt ht vK
    have hqm:=hpr _ (Gf.2 ⟨(yn:Int),Ul.2 ⟨yn,rfl,hyr⟩,Bg.2 ⟨gs[j],Al Jv,Ank⟩⟩)
    simp only [g1',g3',Aj,hgj,ht,Bq]
    have tp:L<Int.toNat ((L+1:Nat):Int):=by omega
    have ZL:=yR n1 n2 k (L+1) _ (G',T') (by omega) f1' hqm.1 hqm.2
    have Av7:((Hx k (L+1) (Af (Af t g) (Bb t')) (G',T')).1).length=N:=ZL.v.1
    have Av8:((Hx k (L+1) (Af (Af t g) (Bb t')) (G',T')).2).length=N:=ZL.v.2.1
    have hkk:((N:Int)-((L+1:Nat):Int)).toNat=k:=by omega
    refine ⟨⟨by omega,by omega⟩,⟨by omega,by omega⟩,some (Af t g),Ab ⟨Xy t1,pC t1 Ts⟩,_,zz Ts hyN,⟨by omega,by omega⟩,Bb t',?_,some (Af (Af t g) (Bb t')),?_,_,Ab ⟨⟨N,L+1,_,rfl,?pr⟩,?lt⟩,⟨tp,?k1⟩,⟨tp,?k2⟩,⟨tp,?k3⟩,⟨tp,?k4⟩,?go⟩
    case pr=>exact ⟨n1,n2,rfl,rfl,by omega,by rw [show N-(L+1)=k by omega];exact f1',hqm.1,hqm.2⟩
    case lt=>
     show ((N:Int)-((L+1:Nat):Int)).toNat<m
     omega
    case go=>
     dsimp only
     rw [Bm (by omega)]
     refine hK' Jv _ rfl ⟨_,_,_,rfl,?_,?_,?_⟩
     ·show L<=min kg (Int.toNat ((L+1:Nat):Int));omega
     ·show L<=min kt (Int.toNat ((L+1:Nat):Int));omega
     ·rw [Ia,Ac Jv,Tr,Ko,<-Ct,ct,<-zw]
      simp only [Bu,List.map_nil,Qx,List.foldl_nil,Ank,hkk,Aj,Bq]
    case k1=>simp only [hkk,Aj,Bq];omega
    case k2=>simp only [hkk,Aj,Bq];omega
    case k3=>simp only [hkk,Aj,Bq];omega
    case k4=>simp only [hkk,Aj,Bq];omega
    ·rw [Aj,vK,Bq]
     exact Ab ⟨by show t'.length<=20;rw [u1.1];exact n2,u1.2.row⟩
    ·exact Ab ⟨Xy (t1.comp Ts),pC (t1.comp Ts) u1.inv⟩
   ·have:j=gs.length:=by omega
    subst this
    rw [Bm (by omega)]
    refine hK hl _ rfl ⟨s',kg,kt,rfl,h1,h2,?_⟩
    rw [zw,Ay,Ia,Ac hl,Tr,List.flatMap_append,hyn]
    simp
  ·have:i=(Kz row).length:=by omega
   subst this
   rw [Ay] at hs
   refine ⟨h1,h2,?_⟩
   rw [hs]
   rfl
theorem Ac4 {m:Nat} (Ajm:Cp Tryz.prog 176 (Ws m)):Cp Tryz.prog 176 (Ws (m+1)):=
 Cp.cS (Afq [Sa+7]) (Av WJ (Fu lk (Av uN (Av Ww (Fu Ajm Bp))))) mixed Tryz.func176 (by kernel_rfl) (by kernel_rfl) λx h=>Aoj x.1 x.2.1 x.2.2.1 x.2.2.2.1 x.2.2.2.2.1 h
theorem OT:Cp Tryz.prog 176 (Ws 0):=
 Cp.cS pT Bp mixed Tryz.func176 (by kernel_rfl) (by kernel_rfl) λ_ h=>absurd h.2 (Dn _)
theorem uK: ∀m,Cp Tryz.prog 176 (Ws m)
 |0=>OT
 |m+1=>Ac4 (uK m)
noncomputable abbrev BC:MSpec:=cS Ahg (λx=> ∃N L q,x.2.2.2.2.1=some q/\dk N L x.1 x.2.1 x.2.2.1 x.2.2.2.1 q)
 (λx=>((x.1,(Hx (x.1-x.2.2.2.1).toNat x.2.2.2.1.toNat (x.2.2.2.2.1.getD []) (x.2.1,x.2.2.1)).1,(Hx (x.1-x.2.2.2.1).toNat x.2.2.2.1.toNat (x.2.2.2.2.1.getD []) (x.2.1,x.2.2.1)).2,()),()))
theorem OU:Cp Tryz.prog 176 BC:=Cp.Ahj (λx=>(x.1-x.2.2.2.1).toNat) uK
def Tk (n:Nat):Cf:=List.replicate n []
def cf (n i:Nat):Row:=(List.replicate n none).set i (some (upto n))
def Za (n:Nat):Cf:=(List.range n).map λi=>cf n i
def Us (n:Nat) (gens:List PO):Cf×Cf:=gens.foldl (λs o=>Hx n 0 (o.getD []) s) (Tk n,Za n)
noncomputable abbrev MJ:MSpec:= {Ii:= [none,none],ins:= [(false, .Fz tI),(false, .Fz tLO)],Hk:=false,Gz:= [none,none,none],outs:= [.Fz tI, .Bl tO vN false, .Bl tO vN false],fn:= λ_=>none,rp:=some 165}
noncomputable abbrev js:MSpec:=cS MJ (λx=>(1<=x.1/\x.1<=20)/\List.length x.2.1<=4294967296/\ ∀o∈(x.2.1:List PO),∃g,o=some g/\Pm x.1.toNat g)
 (λx=>((x.1,(Us x.1.toNat x.2.1).1,(Us x.1.toNat x.2.1).2,()),()))
abbrev aY:Type:=Int×List (List (Option (List Int)))×Int×List (List (Option (List Int)))×PUnit
theorem JQ (n:Int) (gens:List (Option (List Int))) (P:(Int×List (List (Option (List Int)))×List (List (Option (List Int)))×Unit)×Unit->Prop):(((0:Int)<=n/\n<(↑Db:Int)+(1:Int))/\n=n/\0=0/\(List.replicate n.toNat ([]:List (Option (List Int)))).length=(List.replicate n.toNat ([]:List (Option (List Int)))).length/\0=0/\0=([]:List Int).length/\Dm (λ(v3:aY) (k4:aY->Prop)=>Br (decide (v3.1<n)) (((0:Int)<=n/\n<(↑Db:Int)+(1:Int))/\n=n/\ ∃(y5:Option (List Int)),Po.fn (n,())=some y5/\((0:Int)<=v3.1/\v3.1<(↑(List.replicate n.toNat (none:Option (List Int))).length:Int))/\0+v3.1.toNat<(List.replicate n.toNat (none:Option (List Int))).length/\0=0/\(List.replicate n.toNat (none:Option (List Int))).length=((List.replicate n.toNat (none:Option (List Int))).set (0+v3.1.toNat) y5).length/\(0=0/\v3.2.2.2.1.length=v3.2.2.2.1.length)/\(0=0/\1= [(List.replicate n.toNat (none:Option (List Int))).set (0+v3.1.toNat) y5].length)/\0< [(List.replicate n.toNat (none:Option (List Int))).set (0+v3.1.toNat) y5].length/\v3.2.2.2.1.length+ [(List.replicate n.toNat (none:Option (List Int))).set (0+v3.1.toNat) y5].length<=Db/\0=0/\v3.2.1.length=v3.2.1.length/\0=0/\(v3.2.2.2.1++ [(List.replicate n.toNat (none:Option (List Int))).set (0+v3.1.toNat) y5]).length=(v3.2.2.2.1++ [(List.replicate n.toNat (none:Option (List Int))).set (0+v3.1.toNat) y5]).length/\k4 (IntKind.i64.wrap (v3.1+(1:Int)),v3.2.1,v3.2.2.1,v3.2.2.2.1++ [(List.replicate n.toNat (none:Option (List Int))).set (0+v3.1.toNat) y5],())) (0=0/\v3.2.1.length=v3.2.1.length/\0=0/\v3.2.2.2.1.length=v3.2.2.2.1.length/\Dm (λ(v5:aY) (k6:aY->Prop)=>Br (decide (v5.1<(↑gens.length:Int))) (∃(y7:Option (List Int)),idx gens v5.1=some y7/\0=0/\v5.2.1.length=v5.2.1.length/\0=0/\v5.2.2.2.1.length=v5.2.2.2.1.length/\ ∃(y8:(Int×List (List (Option (List Int)))×List (List (Option (List Int)))×PUnit)×PUnit),BC.fn (v5.2.2.1,v5.2.1,v5.2.2.2.1,(0:Int),y7,())=some y8/\0=0/\y8.1.2.1.length=y8.1.2.1.length/\0=0/\y8.1.2.2.1.length=y8.1.2.2.1.length/\k6 (IntKind.i64.wrap (v5.1+(1:Int)),y8.1.2.1,y8.1.1,y8.1.2.2.1,())) ((0=0/\v5.2.1.length=v5.2.1.length)/\(0=0/\v5.2.2.2.1.length=v5.2.2.2.1.length)/\P ((v5.2.2.1,v5.2.1,v5.2.2.2.1,()),()))) ((0:Int),v3.2.1,v3.2.2.1,v3.2.2.2.1,PUnit.unit))) ((0:Int),List.replicate n.toNat ([]:List (Option (List Int))),n,[],PUnit.unit))=fnMW aZ (look [(133,Po),(176,BC)]) js Tryz.f157 (n,gens,()) P:=by kernel_rfl
theorem Yz (n i:Nat):(Tk n).getD i []= []:=by
 unfold Tk
 rw [Ai,Ze]
 split<;>rfl
theorem mC {n i:Nat} (h:i<n):(Za n).getD i []=cf n i:=by
 unfold Za
 rw [Ai,Et,Xs h]
 rfl
theorem om {n i y:Nat} (h:i<n):(cf n i).getD y none=if i=y then some (upto n) else none:=by
 unfold cf
 rw [Li,Gh]
 by_cases e:i=y
 ·rw [Ab ⟨e,h⟩,Ab e]
 ·rw [Ak (λhh=>e hh.1),Ak e,Ai,Ze]
  split<;>rfl
theorem ve {n:Nat} (h1:1<=n) (h2:n<=20): ∀(k l:Nat),l+k=n->dP n k l (Tk n,Za n)
 |0,l,hk=>Yz n l
 |k+1,l,hk=>by
  have hl:l<n:=by omega
  have hg: ∀(g:List Int) (j:Nat),some g∈(Tk n).getD j []->False:= λg j hg=>by rw [Yz] at hg;cases hg
  refine ⟨ve h1 h2 k (l+1) (by omega),⟨λo ho=>?_,?_,?_,λy t e0=>?_,λy t g _ Se=>(hg _ _ Se).elim,λy t g t' _ Se=>(hg _ _ Se).elim⟩,λg Se=>(hg _ _ Se).elim⟩
  ·have ho:o∈(Tk n).getD l []:=ho
   rw [Yz] at ho;cases ho
  ·show ((Za n).getD l []).length=n
   rw [mC hl];simp [cf]
  ·show ((Za n).getD l []).getD l none=_
   rw [mC hl,om hl,Ab rfl]
  ·replace e0:((Za n).getD l []).getD y none=some t:=e0
   rw [mC hl,om hl] at e0
   by_cases hy:l=y
   ·rw [Ab hy] at e0
    have e1:=Bd e0
    subst e1 hy
    exact ⟨Pm.id h1 h2,λi hi=>iq (by omega),iq hl, .id⟩
   ·rw [Ak hy] at e0;cases e0
theorem IT (n:Nat): ∀(k l:Nat),GBf k l (Tk n,Za n)
 |0,_=>trivial
 |k+1,l=>⟨IT n k (l+1),by show ((Tk n).getD l []).length<=_;rw [Yz];exact Ja _⟩
theorem rX {n:Nat} (h1:1<=n) (h2:n<=20):V n n 0 (Tk n,Za n):=⟨by simp [Tk],by simp [Za],ve h1 h2 n 0 (by omega),IT n n 0⟩
def PmL (n:Nat) (gens:List PO):Prop:= ∀o∈gens,∃g,o=some g/\Pm n g
theorem DN {n:Nat} {gens:List PO} {j:Nat} (hj:j<gens.length):Us n (gens.take (j+1))=Hx n 0 (gens[j].getD []) (Us n (gens.take j)):=by
 unfold Us
 rw [Ia,Ac hj,Tr,ct]
 rfl
theorem oL {n:Nat} (h1:1<=n) (h2:n<=20): ∀(gens:List PO) (s:Cf×Cf),PmL n gens->V n n 0 s->V n n 0 (gens.foldl (λs o=>Hx n 0 (o.getD []) s) s)/\
  Wa 0 s (gens.foldl (λs o=>Hx n 0 (o.getD []) s) s)/\(∀g,some g∈gens->Gn n ((gens.foldl (λs o=>Hx n 0 (o.getD []) s) s).1.getD 0 []) g)/\ ∀o∈(gens.foldl (λs o=>Hx n 0 (o.getD []) s) s).1.getD 0 [],o∈s.1.getD 0 []\/o∈gens
 | [],s,_,hv=>⟨hv,Wa.refl _ _,(λ_ hg=>by cases hg),λ_ ho=> .inl ho⟩
 |o::gens,s,hg,hv=>by
  obtain ⟨g,rfl,Ts⟩:=hg o (by simp)
  have ha:=yR h1 h2 n 0 g s (by omega) hv Ts (λi hi=>absurd hi (Dn _))
  obtain ⟨a1,a2,a3,a4⟩:=oL h1 h2 gens (Hx n 0 g s) (λo ho=>hg o (by simp [ho])) ha.v
  refine ⟨a1,ha.grow.trans a2 (Ao _),λg' Se=>?_,λo ho=>?_⟩
  ·rcases Be.1 Se with e|Se
   ·cases e;exact ha.Ajn.mono λg hg=>a2.xx _ _ hg
   ·exact a3 g' Se
  ·rcases a4 o ho with h|h
   ·rcases ha.gens o h with h|h
    ·exact .inl h
    ·exact .inr (by simp [h])
   ·exact .inr (by simp [h])
theorem DM {n:Nat} (h1:1<=n) (h2:n<=20) {gens:List PO} (hg:PmL n gens):V n n 0 (Us n gens):=(oL h1 h2 gens _ hg (rX h1 h2)).1
theorem sY {n:Nat} (h1:1<=n) (h2:n<=20) {gens:List PO} (hg:PmL n gens) {p:List Int} (hp:Pm n p):Iu (Us n gens).2 n 0 p=true↔Gn n gens p:=by
 obtain ⟨a1,a2,a3,a4⟩:=oL h1 h2 gens _ hg (rX h1 h2)
 have hS:DB n λg=>some g∈gens:=⟨⟨h1,h2⟩,λg Se=>by obtain ⟨g',e,h⟩:=hg _ Se;cases e;exact h⟩
 have Ps: ∀g,some g∈(Us n gens).1.getD 0 []->some g∈gens:= λg Se=>by
  rcases a4 _ Se with h|h
  ·have h:some g∈(Tk n).getD 0 []:=h
   rw [Yz] at h;cases h
  ·exact h
 have hS':DB n λg=>some g∈(Us n gens).1.getD 0 []:=⟨⟨h1,h2⟩,λg Se=>hS.2 g (Ps g Se)⟩
 refine (Ug h1 h2 n 0 (Us n gens) (by omega) a1.2.2.1 p hp λi hi=>absurd hi (Dn _)).trans ⟨λh=>h.mono Ps,λh=>h.trans hS' λg Se=>a3 g Se⟩
theorem HQ (n:Int) (gens:List (Option (List Int))) (h:(1<=n/\n<=20)/\List.length gens<=4294967296/\ ∀o∈(gens:List PO),∃g,o=some g/\Pm n.toNat g):
  fnMW aZ (look [(133,Po),(176,BC)]) js Tryz.f157 (n,gens,()) (λ(z:(Int×List (List (Option (List Int)))×List (List (Option (List Int)))×Unit)×Unit)=>z=((n,(Us n.toNat gens).1,(Us n.toNat gens).2,()),())):=by
 obtain ⟨⟨h1,h2⟩,h3,hg⟩:=h
 obtain ⟨N,rfl⟩: ∃N:Nat,n=N:=⟨n.toNat,by omega⟩
 rw [Aj] at hg⊢
 have h1:1<=N:=by omega
 have h2:N<=20:=by omega
 refine Eq.mp (JQ (N:Int) gens _) ?_
 have hm:((0:Int)<=(N:Int)/\(N:Int)<(Db:Int)+1):=⟨by omega,by show (N:Int)<(4294967296:Int)+1;omega⟩
 simp only [hm,and_self,eq_self,true_and,Aj,Bo,Fb,Cm,Gh,Aw,Nat.lt_add_one,Au]
 refine Bw N (λv=>v.1) (λj v=>v=((j:Int),Tk N,(N:Int),(List.range j).map (cf N),())) rfl rfl ?_
 rintro j v K hj hi rfl hK
 dsimp only
 refine Br.dec (λhl=>?_) λhl=>?_
 ·refine ⟨_,Ab ⟨by show (1:Int)<=N;omega,by show (N:Int)<=20;omega⟩,⟨by omega,by omega⟩,by rw [Aj];omega,?_,?_⟩
  ·show _<=4294967296
   simp only [Ch,cv]
   omega
  ·rw [Bm (by omega)]
   refine hK (by omega) _ rfl ?_
   rw [il,Ko]
   rfl
 ·have:j=N:=by omega
  subst this
  refine Bw gens.length (λv=>v.1) (λi v=>v=((i:Int),(Us j (gens.take i)).1,(j:Int),(Us j (gens.take i)).2,())) rfl rfl ?_
  rintro i v K' kZ Asg rfl hK'
  dsimp only
  refine Br.dec (λJv=>?_) λJv=>?_
  ·have Jv:i<gens.length:=by omega
   obtain ⟨g,oD,Ts⟩:=hg gens[i] (Al Jv)
   have hv:=DM h1 h2 (gens:=gens.take i) λo ho=>hg o (En ho)
   refine ⟨_,Co Jv,_,Ab ⟨j,0,g,oD,h1,h2,rfl,rfl,Ja _,hv,Ts,λi hi=>absurd hi (Dn _)⟩,?_⟩
   rw [Bm (by omega)]
   refine hK' Jv _ rfl ?_
   rw [DN Jv]
   simp only [Int.sub_zero,Aj]
   rfl
  ·have:i=gens.length:=by omega
   subst this
   rw [Ay]
theorem rF:Cp Tryz.prog 157 js:=
 Cp.cS pT (Av ry (Fu OU Bp)) mixed Tryz.func157 (by kernel_rfl) (by kernel_rfl) λx h=>HQ x.1 x.2.1 h
def Ux (T:Cf):Nat->Nat
 |0=>1
 |j+1=>Ux T j*(Kz (T.getD j [])).length
noncomputable abbrev ku:Spec:=Gt (.pair (.ptr kz) (.pair tI .unit)) tI false true (λx=>x.2.1=0/\ ∃N:Nat,(1<=N/\N<=20)/\x.1.1=N/\V N N 0 (x.1.2.1,x.1.2.2.1)) (λx=>(Ux x.1.2.2.1 x.1.1.toNat:Int))
noncomputable abbrev FX:MSpec:= {Ii:= [none,none],ins:= [(false, .Fz tI),(false, .Fz rH)],Hk:=false,Gz:= [none,none,none],outs:= [.Fz tI, .Bl tO vN false, .Bl tO vN false],fn:= λ_=>none,rp:=some 165}
def aL (n:Int) (g:List (List Int)):Cf×Cf:=Us n.toNat (g.map some)
noncomputable abbrev Ys:MSpec:=cS FX (λx=>(1<=x.1/\x.1<=20)/\List.length x.2.1<=4294967296/\ ∀g∈(x.2.1:List (List Int)),Pm x.1.toNat g)
 (λx=>((x.1,(aL x.1 x.2.1).1,(aL x.1 x.2.1).2,()),()))
noncomputable def Wn (p:PP):Int:=if Cb p=true then (Ux (aL p.1 p.2.2.1).2 p.1.toNat:Int) else 0
noncomputable abbrev Sq:Spec:=Gt (.pair Ix .unit) tI false true (λx=>Gw x.1) (λx=>Wn x.1)
theorem Ag0 (c:Int×List (List (Option (List Int)))×List (List (Option (List Int)))×Unit) (l:Int) (P:Int->Prop):(Dm (λ(v3:Int×Int×PUnit) (k4:Int×Int×PUnit->Prop)=>Br (decide (v3.2.1<c.1)) (∃(y5:List (Option (List Int))),idx c.2.2.1 v3.2.1=some y5/\ ∃(y6:(List Int×PUnit)×PUnit),Qs.fn (y5,())=some y6/\ ∃(y7:Int),Tg.fn (List.take y6.1.1.length (List.drop 0 y6.1.1),())=some y7/\k4 (IntKind.i64.wrap (v3.1*y7),IntKind.i64.wrap (v3.2.1+(1:Int)),())) (P v3.1)) ((1:Int),l,PUnit.unit))=fnW aZ (look [(178,Qs),(105,Tg)]) ku Tryz.f168 (c,l,()) P:=by kernel_rfl
theorem CZ (p:Int×ByteArray×List (List Int)×Unit) (P:Int->Prop):(∃(y2:Bool),Ig.fn ((p.1,p.2.1,p.2.2.1,()),())=some y2/\Br (!y2) (P (0:Int)) (∃(y3:(Int×List (List (Option (List Int)))×List (List (Option (List Int)))×PUnit)×PUnit),Ys.fn (p.1,p.2.2.1,())=some y3/\ ∃(y4:Int),ku.fn ((y3.1.1,List.take y3.1.2.1.length (List.drop 0 y3.1.2.1),List.take y3.1.2.2.1.length (List.drop 0 y3.1.2.2.1),()),(0:Int),())=some y4/\P y4))=fnW Gb (look [(99,Ig),(157,Ys),(168,ku)]) Sq Tryz.f142 (p,()) P:=by kernel_rfl
theorem Afu (n i:Nat):(upto n).countP (λy=>decide ((i:Int)<=y))=n-i:=by
 induction n with
 |zero=>simp [upto]
 |succ n ih=>
  rw [Zb,List.countP_append,ih]
  simp only [eU,List.countP_nil,Ng]
  split<;>omega
theorem Af3 {n i:Nat} {gs:List PO} {row:Row} {H:List Int->Prop} (hi:i<n) (h:Lvl n i gs row H):(Kz row).length<=n-i:=by
 rw [<-Afu n i]
 unfold Kz
 rw [h.rl,<-List.countP_eq_length_filter]
 refine List.countP_mono_left λy hy hs=>?_
 obtain ⟨h1,h2⟩:=Lt.1 hy
 obtain ⟨t,ht⟩:=Xf.1 hs
 obtain ⟨t1,t2,t3,_⟩:=h.rt _ _ ht
 refine Dl ?_
 refine Bk λhn=>?_
 have hy':y.toNat<i:=by omega
 have:=t1.inj hi (by omega:y.toNat<n) (by rw [t3,t2 _ hy'])
 omega
def fact:Nat->Nat
 |0=>1
 |n+1=>(n+1)*fact n
theorem ET: ∀n,1<=fact n
 |0=>Ao _
 |n+1=>by have:=ET n;simp only [fact];exact Ib this (Nat.le_mul_of_pos_left _ (by omega))
theorem TR {a b:Nat} (h:a<=b):fact a<=fact b:=by
 induction h with
 |refl=>exact Ao _
 |step _ ih=>simp only [fact];exact Ib ih (Nat.le_mul_of_pos_left _ (by omega))
theorem Ab7 {n:Nat} {s:Cf×Cf} (hc:dP n n 0 s): ∀j,j<=n->Ux s.2 j*fact (n-j)<=fact n
 |0,_=>by simp [Ux]
 |j+1,hj=>by
  have ih:=Ab7 hc j (by omega)
  have h1:=Af3 (by omega) (dX n 0 hc j (by omega) (by omega))
  have e:n-j=(n-(j+1))+1:=by omega
  simp only [Ux]
  rw [e] at ih h1
  simp only [fact] at ih
  rw [Nat.mul_assoc]
  exact Ib (Nat.mul_le_mul_left _ (Eo _ h1)) ih
theorem xX {n:Nat} (h2:n<=20) {s:Cf×Cf} (hc:dP n n 0 s) {j:Nat} (hj:j<=n):Ux s.2 j<=2432902008176640000:=by
 have h1:=Ab7 hc j hj
 have h3:=ET (n-j)
 have h4:fact n<=2432902008176640000:=Ib (TR h2) (by decide)
 have h5:Ux s.2 j*1<=Ux s.2 j*fact (n-j):=Nat.mul_le_mul_left _ h3
 omega
theorem Af9 (c:Int×List (List (Option (List Int)))×List (List (Option (List Int)))×Unit) (l:Int) (h:l=0/\ ∃N:Nat,(1<=N/\N<=20)/\c.1=N/\V N N 0 (c.2.1,c.2.2.1)):
  fnW aZ (look [(178,Qs),(105,Tg)]) ku Tryz.f168 (c,l,()) (λ(z:Int)=>z=(Ux c.2.2.1 c.1.toNat:Int)):=by
 obtain ⟨rfl,N,⟨h1,h2⟩,hN,v⟩:=h
 obtain ⟨n,G,T,⟨⟩⟩:=c
 dsimp only at hN v⊢
 subst hN
 refine Eq.mp (Ag0 ((N:Int),G,T,()) 0 _) ?_
 obtain ⟨v1,v2,v3,v4⟩:=v
 dsimp only at v1 v2⊢
 rw [Aj]
 refine Bw N (λv=>v.2.1) (λj v=>v.1=(Ux T j:Int)) rfl rfl ?_
 rintro j ⟨o,i,⟨⟩⟩ K hj hi ho hK
 dsimp only at hi ho⊢
 subst hi ho
 refine Br.dec (λhl=>?_) λhl=>?_
 ·have hl:j<N:=by omega
  have hT:j<T.length:=by omega
  have Kd:=dX N 0 v3 j (by omega) (by omega)
  have KE:=Kd.rl
  dsimp only at KE
  rw [qi hT] at KE
  refine ⟨_,Co hT,_,Ab (by show (T[j]).length<=20;omega),_,Ab trivial,?_⟩
  rw [Ea,Ay,Bm (by omega)]
  have hb:=xX h2 v3 (j:=j+1) (by omega)
  simp only [Ux] at hb
  rw [qi hT] at hb
  have e:(Ux T j:Int)*((Kz T[j]).length:Int)=((Ux T j*(Kz T[j]).length:Nat):Int):=by push_cast;rfl
  show K (IntKind.i64.wrap ((Ux T j:Int)*((Kz T[j]).length:Int)),_,())
  rw [e,Df (by omega) (by omega)]
  refine hK hl _ rfl ?_
  simp only [Ux]
  rw [qi hT]
 ·have:j=N:=by omega
  subst this
  rfl
theorem IM:Sound Tryz.prog 168 ku:=
 Sound.Gt pT (Fu lk (Av fV Bp)) mixed Tryz.func168 (by kernel_rfl) (by kernel_rfl) λx h=>Af9 x.1 x.2.1 h
theorem Cells.told {w:World} {S:Nat->Prop} {e:Ty} {cs:List Value} {xs:List e.den} (h:Cells w S (.slice e) cs xs): ∃o:Option (List e.den),Cells w S (.oslice e) cs o/\o.getD []=xs:=by
 simp only [Cells] at h
 obtain ⟨a,len,cap,rfl,h1,h2,h3⟩:=h
 cases a with
 |none=>
  rcases h3 with rfl|⟨g,o,h,_⟩
  ·refine ⟨none,?_,rfl⟩
   simp only [Cells]
   exact .inl ⟨trivial,cap,by rw [h1];rfl⟩
  ·cases h
 |some ad=>
  refine ⟨some xs,?_,rfl⟩
  simp only [Cells]
  exact .inr ⟨xs,ad,len,cap,rfl,rfl,h1,h2,h3.imp id λ⟨g,o,h,h4⟩=>⟨g,o,Bd h,h4⟩⟩
theorem KK {α β:Type} (Q:Nat->α->β->Prop): ∀(xs:List α),(∀i x,xs[i]?=some x-> ∃y,Q i x y)-> ∃ys:List β,ys.length=xs.length/\ ∀i x y,xs[i]?=some x->ys[i]?=some y->Q i x y:=by
 intro xs h
 refine ⟨List.ofFn λi:Fin xs.length=>Classical.choose (h i xs[i] (Ac i.2)),by simp,λi x y h1 h2=>?_⟩
 obtain ⟨hi,rfl⟩:=An.1 h1
 obtain ⟨kZ,rfl⟩:=An.1 h2
 rw [List.getElem_ofFn]
 exact Classical.choose_spec (h i xs[i] (Ac hi))
theorem Cw.Ahq {w:World} {S:Nat->Prop} {e:Ty} {v:Value} {xs:List (List e.den)} (h:Cw w S (.slice (.slice e)) v xs): ∃os:List (Option (List e.den)),Cw w S (.slice (.oslice e)) v os/\os.map (·.getD [])=xs:=by
 obtain ⟨cs,hc,rfl⟩:=h
 simp only [Cells] at hc
 obtain ⟨a,len,cap,rfl,h1,h2,h3⟩:=hc
 rcases h3 with rfl|⟨g,o,rfl,hg,hS,h4⟩
 ·refine ⟨[],⟨_,?_,rfl⟩,rfl⟩
  simp only [Cells]
  exact ⟨a,len,cap,rfl,h1,h2, .inl trivial⟩
 ·obtain ⟨os,e1,e2⟩:=KK (λi (x:List e.den) (y:Option (List e.den))=>y.getD []=x/\ ∃es:List Value,es.length=1/\(∀j u,es[j]?=some u->w.cell? ⟨g,o+i*1+j,none⟩=some u)/\Cells w S (.oslice e) es y) xs λi x hx=>by
   obtain ⟨es,k1,k2,k3⟩:=h4 i x hx
   obtain ⟨y,k4,k5⟩:=Cells.told (e:=e) (by simp only [Cells];exact k3)
   exact ⟨y,k5,es,k1,k2,k4⟩
  refine ⟨os,⟨_,?_,rfl⟩,?_⟩
  ·simp only [Cells]
   refine ⟨_,len,cap,rfl,by rw [h1,e1],h2, .inr ⟨g,o,rfl,hg,hS,λi y hy=>?_⟩⟩
   obtain ⟨hi,_⟩:=An.1 hy
   obtain ⟨_,es,k1,k2,k3⟩:=e2 i _ y (Ac (by omega)) hy
   simp only [Cells] at k3
   exact ⟨es,k1,k2,k3⟩
  ·refine List.ext_getElem (by simp [e1]) λi g1 g2=>?_
   rw [Sx]
   exact (e2 i _ _ (Ac g2) (Ac (by omega))).1
theorem uT:Cp Tryz.prog 157 Ys:=by
 have h:=rF
 refine ⟨h.enter,λw S π us x r o g vs h1 hg h2 h3 hS h4 h5=>?_⟩
 obtain ⟨n,gens,⟨⟩⟩:=x
 match us,h2 with
 |u1::u2::us,h2=>
  obtain ⟨h6,⟨h7,h8⟩,h9⟩:=h2
  obtain ⟨os,oC,gT⟩:=Cw.Ahq (e:=tI) h8
  have gT:os.map (·.getD [])=(gens:List (List Int)):=gT
  have gW:(1<=n/\n<=20)/\List.length gens<=4294967296/\ ∀g∈(gens:List (List Int)),Pm n.toNat g:=Bk λhn=>by
   have:Ys.fn (n,gens,())=none:=Ak hn
   rw [this] at h5;cases h5
  have hos:os=gens.map some:=by
   rw [<-gT,List.map_map]
   refine (List.map_id os).symm.trans (Ei λx hx=>?_)
   cases x with
   |some y=>rfl
   |none=>
    have:=gW.2.2 [] (by rw [<-gT];exact Bg.2 ⟨none,hx,rfl⟩)
    have h1:=this.n1
    have h2:=this.1
    simp at h2
    omega
  have hv:Ys.fn (n,gens,())=some ((n,(aL n gens).1,(aL n gens).2,()),()):=Ab gW
  rw [hv] at h5
  have h5:=Bd h5
  refine h.calls w S π (u1::u2::us) (n,os,()) r o g vs h1 hg ⟨h6,⟨h7,oC⟩,h9⟩ h3 hS h4 ?_
  refine (Ab ⟨gW.1,by rw [hos,Ch];exact gW.2.1,λy hy=>?pp⟩).trans (Fq some ?qq)
  case pp=>
   replace hy:y∈os:=hy
   rw [hos] at hy
   obtain ⟨g,hg,rfl⟩:=Bg.1 hy
   exact ⟨g,rfl,gW.2.2 g hg⟩
  case qq=>subst hos;exact h5
theorem iB {p:PP} (hv:Valid p):(1<=p.1/\p.1<=20)/\List.length p.2.2.1<=4294967296/\ ∀g∈p.2.2.1,Pm p.1.toNat g:=
 ⟨hv.n,by have:=hv.nj;omega,λg hg=>⟨by have:=hv.len g hg;omega,dA (hv.perm g hg)⟩⟩
theorem jb {n:Nat} {g:List (List Int)} (h: ∀x∈g,Pm n x):PmL n (g.map some):= λo ho=>by
 obtain ⟨x,hx,rfl⟩:=Bg.1 ho
 exact ⟨x,rfl,h x hx⟩
theorem z7 {p:PP} (hv:Valid p):V p.1.toNat p.1.toNat 0 (aL p.1 p.2.2.1):=by
 have:=hv.n
 exact DM (by omega) (by omega) (jb (iB hv).2.2)
theorem AK (p:PP) (h:Gw p):fnW Gb (look [(99,Ig),(157,Ys),(168,ku)]) Sq Tryz.f142 (p,()) (λ(z:Int)=>z=Wn p):=by
 refine Eq.mp (CZ p _) ⟨_,Ab h,?_⟩
 show Br (!Cb p) _ _
 unfold Wn
 cases hv:Cb p with
 |false=>exact Br.of (λ_=>rfl) λhh=>by cases hh
 |true=>
  refine Br.of (λhh=>by cases hh) λ_=>?_
  have hV:=valid hv
  have hn:=hV.n
  refine ⟨_,Ab (iB hV),_,Ab ⟨rfl,p.1.toNat,⟨by omega,by omega⟩,(Int.toNat_of_nonneg (by omega:(0:Int)<=p.1)).symm,?vv⟩,?_⟩
  case vv=>
   simp only [Ea,Ay]
   exact z7 hV
  simp only [Ea,Ay]
  exact (Ab trivial).symm
theorem pO:Sound Tryz.prog 142 Sq:=
 Sound.Gt Dt (Av eR (Fu uT (Av IM Bp))) mixed Tryz.func142 (by kernel_rfl) (by kernel_rfl) λx h=>AK x.1 h
theorem Ry {α:Type} [DecidableEq α]: ∀ {l1 l2:List α},l1.Nodup->(∀x∈l1,x∈l2)->l1.length<=l2.length
 | [],_,_,_=>Ja _
 |a::l,l2,hn,hs=>by
  obtain ⟨h1,h2⟩:=Ce.1 hn
  have ha:=hs a (by simp)
  have:=Ry (l1:=l) (l2:=l2.erase a) h2 λy hy=>by
   have hya:y≠a:= λe'=>h1 (by rw [<-e'];exact hy)
   exact (List.mem_erase_of_ne hya).2 (hs y (by simp [hy]))
  rw [Xd ha] at this
  have:=List.length_pos_of_mem ha
  simp only [Aw]
  omega
def kH (n:Nat) (T:Cf):Nat->Nat->List (List Int)
 |0,_=> [upto n]
 |k+1,l=>(Kz (T.getD l [])).flatMap λy=>(kH n T k (l+1)).map λq=>Af q (((T.getD l []).getD y.toNat none).getD [])
def yh (T:Cf):Nat->Nat->Nat
 |0,_=>1
 |k+1,l=>(Kz (T.getD l [])).length*yh T k (l+1)
theorem GR (n:Nat) (T:Cf): ∀k l,(kH n T k l).length=yh T k l
 |0,_=>rfl
 |k+1,l=>by
  simp only [kH,yh,List.length_flatMap,Ch,GR n T k (l+1)]
  generalize Kz (T.getD l [])=o
  induction o with
  |nil=>simp
  |cons a o ih=>simp only [Bu,Xe,ih,Aw,Nat.succ_mul];omega
theorem xW (T:Cf): ∀k j,Ux T (j+k)=Ux T j*yh T k j
 |0,j=>by simp [yh]
 |k+1,j=>by
  have:=xW T k (j+1)
  rw [show j+(k+1)=j+1+k by omega,this]
  simp only [Ux,yh]
  rw [Nat.mul_assoc]
theorem qE (n:Nat) (T:Cf):(kH n T n 0).length=Ux T n:=by
 rw [GR,show Ux T n=Ux T (0+n) by rw [Bo],xW]
 simp [Ux]
theorem nP {n:Nat} (h1:1<=n) (h2:n<=20) {s:Cf×Cf} : ∀(k l:Nat),l+k=n->dP n k l s-> ∀p,p∈kH n s.2 k l↔Pm n p/\Fx l p/\Iu s.2 k l p=true
 |0,l,hk,hc,p=>by
  have hl:l=n:=by omega
  subst hl
  simp only [kH,Ad]
  exact ⟨λe=>by subst e;exact ⟨Pm.id h1 h2,λi hi=>iq hi,rfl⟩,λh=>h.2.1.all h.1⟩
 |k+1,l,hk,hc,p=>by
  obtain ⟨c1,c2,c3⟩:=hc
  have ih:=nP h1 h2 k (l+1) (by omega) c1
  have gA:l<n:=by omega
  simp only [kH,Gf,Bg]
  constructor
  ·rintro ⟨y,hy,q,hq,rfl⟩
   obtain ⟨yn,rfl,hyn⟩:=Ul.1 hy
   obtain ⟨t,ht⟩:=Kk.1 hyn
   obtain ⟨t1,t2,t3,t4⟩:=c2.rt _ _ ht
   obtain ⟨q1,q2,q3⟩:=(ih q).1 hq
   rw [Aj,ht,Bq]
   have hap:ap (Af q t) l=yn:=by rw [Jw q1 t1 gA,q2 l (by omega),t3]
   refine ⟨q1.comp t1,λi hi=>by rw [Jw q1 t1 (by omega),q2 i (by omega),t2 i hi],?_⟩
   simp only [Iu]
   rw [show (Hi (Af q t) (l:Int)).toNat=ap (Af q t) l from rfl,hap,ht]
   show Iu s.2 k (l+1) (Af (Af q t) (Bb t))=true
   rw [Gd q1 t1 t1.inv,Wd t1,comp_id q1]
   exact q3
  ·rintro ⟨p1,p2,p3⟩
   simp only [Iu] at p3
   rw [show (Hi p (l:Int)).toNat=ap p l from rfl] at p3
   split at p3
   ·cases p3
   ·rename_i t ht
    obtain ⟨t1,t2,t3,t4⟩:=c2.rt _ _ ht
    refine ⟨(ap p l:Int),Ul.2 ⟨ap p l,rfl,by rw [ht];simp⟩,Af p (Bb t),(ih _).2 ⟨p1.comp t1.inv,Fx.div p1 t1 p2 t2 gA t3,p3⟩,?_⟩
    rw [Aj,ht,Bq,Gd p1 t1.inv t1,bS t1,comp_id p1]
theorem mh {n:Nat} (h1:1<=n) (h2:n<=20) {s:Cf×Cf} : ∀(k l:Nat),l+k=n->dP n k l s->(kH n s.2 k l).Nodup
 |0,l,hk,hc=>by simp [kH]
 |k+1,l,hk,hc=>by
  obtain ⟨c1,c2,c3⟩:=hc
  have ih:=mh h1 h2 k (l+1) (by omega) c1
  have hm:=nP h1 h2 k (l+1) (by omega) c1
  have gA:l<n:=by omega
  have rep: ∀y∈Kz (s.2.getD l []),∃(yn:Nat) (t:List Int),y=yn/\((s.2.getD l []).getD y.toNat none).getD []=t/\Pm n t/\ap t l=yn:= λy hy=>by
   obtain ⟨yn,rfl,hyn⟩:=Ul.1 hy
   obtain ⟨t,ht⟩:=Kk.1 hyn
   obtain ⟨t1,t2,t3,t4⟩:=c2.rt _ _ ht
   exact ⟨yn,t,rfl,by rw [Aj,ht];rfl,t1,t3⟩
  simp only [kH]
  refine List.pairwise_flatMap.2 ⟨λy hy=>?_,?_⟩
  ·obtain ⟨yn,t,rfl,e,t1,t3⟩:=rep y hy
   rw [e]
   refine List.pairwise_map.2 (List.Pairwise.imp_of_mem ?_ ih)
   intro a b ha hb Iz he
   have ha:=((hm a).1 ha).1
   have hb:=((hm b).1 hb).1
   have h3:=Fq (λz=>Af z (Bb t)) he
   simp only [Gd ha t1 t1.inv,Gd hb t1 t1.inv,Wd t1,comp_id ha,comp_id hb] at h3
   exact Iz h3
  ·refine List.Pairwise.imp_of_mem ?_ ((mE _).filter _)
   intro y z hy hz Iz a ha b hb he
   obtain ⟨yn,t,rfl,e,t1,t3⟩:=rep y hy
   obtain ⟨zn,u,rfl,e',u1,u3⟩:=rep z hz
   rw [e] at ha
   rw [e'] at hb
   obtain ⟨q,hq,rfl⟩:=Bg.1 ha
   obtain ⟨q',gB,rfl⟩:=Bg.1 hb
   obtain ⟨a1,a2,_⟩:=(hm q).1 hq
   obtain ⟨b1,b2,_⟩:=(hm q').1 gB
   have h3:=Fq (λz=>ap z l) he
   simp only [Jw a1 t1 gA,Jw b1 u1 gA,a2 l (by omega),b2 l (by omega),t3,u3] at h3
   exact Iz (by rw [h3])
theorem oO {g:List (List Int)} (Q:List Int->Prop) {x:List Int} {d:Int} : ∀(ls:List Int) (L:List (List Int)) (D:List Int),(∀l∈ls,Q (Af x (Ax g l)))->(∀y∈L,Q y)->
  (∀y∈(Hp g x d ls L D).1,Q y)/\(∀y∈L,y∈(Hp g x d ls L D).1)/\((Hp g x d ls L D).2.2=true-> ∀l∈ls,Af x (Ax g l)∈(Hp g x d ls L D).1)/\
   ((Hp g x d ls L D).2.2=false->(Hp g x d ls L D).1.length=3000/\ ∃z,Q z/\z∉(Hp g x d ls L D).1)
 | [],L,D,_,h=>⟨h,λ_ h=>h,(λ_ l hl=>by cases hl),(λe=>by cases e)⟩
 |l::ls,L,D,hq,h=>by
  have gB: ∀l∈ls,Q (Af x (Ax g l)):= λl' h'=>hq l' (Aq _ h')
  simp only [Hp]
  split
  ·rename_i hm
   obtain ⟨a1,a2,a3,a4⟩:=oO Q (d:=d) ls L D gB h
   refine ⟨a1,a2,λe l' Jv=>?_,a4⟩
   rcases Be.1 Jv with rfl|Jv
   ·exact a2 _ hm
   ·exact a3 e l' Jv
  ·rename_i hn
   split
   ·rename_i hf
    exact ⟨h,λ_ h=>h,(λe=>by cases e),λ_=>⟨hf,_,hq l (by simp),hn⟩⟩
   ·obtain ⟨a1,a2,a3,a4⟩:=oO Q (d:=d) ls (L++ [Af x (Ax g l)]) (D++ [d+1]) gB λy hy=>by
     rcases Az.1 hy with hy|hy
     ·exact h y hy
     ·rw [Ad.1 hy];exact hq l (by simp)
    refine ⟨a1,λy hy=>a2 y (Bj _ hy),λe l' Jv=>?_,a4⟩
    rcases Be.1 Jv with rfl|Jv
    ·exact a2 _ (Ci _ (by simp))
    ·exact a3 e l' Jv
theorem xj {p:PP} (hV:Valid p) {m:Nat} {ls:List Int} (hl: ∀l∈ls,Hq (List.length p.2.2.1) l) (Q:List Int->Prop) (hQ: ∀x,Q x-> ∀l∈ls,Q (Af x (Ax p.2.2.1 l))):
  ∀(f k:Nat) (L:List (List Int)) (D:List Int),3001<=f+k->k<=L.length->Sw p m L D->(∀y∈L,Q y)->(∀(j:Nat) (h:j<L.length),j<k-> ∀l∈ls,Af L[j] (Ax p.2.2.1 l)∈L)->
  (∀y∈(Jn p.2.2.1 ls f k L D).1,Q y)/\((Jn p.2.2.1 ls f k L D).2.2=true-> ∀x∈(Jn p.2.2.1 ls f k L D).1,∀l∈ls,Af x (Ax p.2.2.1 l)∈(Jn p.2.2.1 ls f k L D).1)/\
   ((Jn p.2.2.1 ls f k L D).2.2=false->(Jn p.2.2.1 ls f k L D).1.length=3000/\ ∃z,Q z/\z∉(Jn p.2.2.1 ls f k L D).1)
 |0,k,L,D,hf,ZX,hb,hq,hc=>by
  have:=hb.ok.nj
  omega
 |f+1,k,L,D,hf,ZX,hb,hq,hc=>by
  simp only [Jn]
  split
  ·rename_i hk
   have FK:k<D.length:=by rw [hb.len];exact hk
   have hd:=hb.dep k FK
   have e:D.getD k 0=D[k]:=by rw [Ai,Ac FK];rfl
   rw [Tx hk,e]
   obtain ⟨k1,⟨A,k2⟩,_⟩:=mQ hV (hb.row _ (Al hk)) (hb.ok.len _ (Al hk)) (d:=D[k]) ls L D hl hb ⟨by omega,by omega⟩
   obtain ⟨a1,a2,a3,a4⟩:=oO (g:=p.2.2.1) Q (x:=L[k]) (d:=D[k]) ls L D (hQ _ (hq _ (Al hk))) hq
   split
   ·rename_i L' D' he
    rw [he] at k1 k2 a1 a2 a3 a4
    have k2:L'=L++A:=k2
    refine xj hV hl Q hQ f (k+1) L' D' (by omega) (by rw [k2,Au];omega) k1 a1 λj hj hjk l Jv=>?_
    by_cases e':j<k
    ·have e2:L'[j]=L[j]:=by simp only [k2];rw [Lo (by omega)]
     rw [e2];exact a2 _ (hc j (by omega) e' l Jv)
    ·have:j=k:=by omega
     subst this
     have e2:L'[j]=L[j]:=by simp only [k2];rw [Lo (by omega)]
     rw [e2];exact a3 rfl l Jv
   ·rename_i L' D' he
    rw [he] at a1 a4
    exact ⟨a1,(λe=>by cases e),λ_=>a4 rfl⟩
  ·rename_i hk
   refine ⟨hq,λ_ x hx l Jv=>?_,λe=>by cases e⟩
   obtain ⟨j,hj,rfl⟩:=Bh.1 hx
   have hj:j<L.length:=hj
   exact hc j hj (by omega) l Jv
theorem yW {p:PP} (hv:Cb p=true) {s:List Int} (hs:s.length<=20) (hr: ∀y∈s,0<=y/\y<p.1) (Q:List Int->Prop) (hQs:Q s) (hQ: ∀x,Q x-> ∀l∈Ca p.2.2.1.length,Q (Af x (Ax p.2.2.1 l))):
  (∀y∈(Gy p.2.2.1 s).1,Q y)/\((Gy p.2.2.1 s).2.2=true-> ∀x∈(Gy p.2.2.1 s).1,∀l∈Ca p.2.2.1.length,Af x (Ax p.2.2.1 l)∈(Gy p.2.2.1 s).1)/\
   ((Gy p.2.2.1 s).2.2=false->(Gy p.2.2.1 s).1.length=3000/\ ∃z,Q z/\z∉(Gy p.2.2.1 s).1):=
 xj (valid hv) (λ_ hl=>Lc hl) Q hQ 3001 0 [s] [0] (by omega) (Ja _) (dS hs hr) (λy hy=>by rw [Ad.1 hy];exact hQs) λj _ hj=>absurd hj (Dn _)
theorem o6 {g:List (List Int)} {x:List Int} :some x∈g.map some↔x∈g:=by simp
theorem MQ {n:Nat} {g:List (List Int)} {x:List Int} (h:Gn n (g.map some) x) {l:Int} (hl:l∈Ca g.length):Gn n (g.map some) (Af x (Ax g l)):=by
 obtain ⟨k,hk,rfl|rfl⟩:=Pv (Lc hl)
 ·rw [Px hk];exact .mul h (o6.2 (Al hk))
 ·rw [Pw hk];exact .inv h (o6.2 (Al hk))
theorem Vj {n k:Nat} (hk:k<n):(k:Int)+1∈Ca n/\ -((k:Int)+1)∈Ca n:=by
 unfold Ca
 exact ⟨Gf.2 ⟨k,Eu.2 hk,by simp⟩,Gf.2 ⟨k,Eu.2 hk,by simp⟩⟩
theorem LM {n:Nat} {g:List (List Int)} {L:List (List Int)} (h0:upto n∈L) (hc: ∀x∈L,∀l∈Ca g.length,Af x (Ax g l)∈L) {p:List Int} (hp:Gn n (g.map some) p):p∈L:=by
 induction hp with
 |id=>exact h0
 |mul _ hg ih=>
  obtain ⟨k,hk,rfl⟩:=Bh.1 (o6.1 hg)
  have:=hc _ ih _ (Vj hk).1
  rwa [Px hk] at this
 |inv _ hg ih=>
  obtain ⟨k,hk,rfl⟩:=Bh.1 (o6.1 hg)
  have:=hc _ ih _ (Vj hk).2
  rwa [Pw hk] at this
structure Reach (p:PP) (L:List (List Int)) (D:List Int) (whole:Bool):Prop where
 ok:Sw p p.1.toNat L D
 nodup:L.Nodup
 first: ∃A,L=upto p.1.toNat::A
 gen: ∀x∈L,Gn p.1.toNat (p.2.2.1.map some) x
 all:whole=true-> ∀x,Gn p.1.toNat (p.2.2.1.map some) x->x∈L
 big:whole=false->L.length=3000/\ ∃z,Gn p.1.toNat (p.2.2.1.map some) z/\z∉L
theorem Gs.nodup {m:Nat} {L:List (List Int)} {My:List Int} (h:Gs m L My):L.Nodup:=
 Ds.2 λi j hi hj jZ e=>by have:=h.inj hi hj e;omega
theorem bZ {p:PP} (hv:Cb p=true):Reach p (Gy p.2.2.1 (upto p.1.toNat)).1 (Gy p.2.2.1 (upto p.1.toNat)).2.1 (Gy p.2.2.1 (upto p.1.toNat)).2.2:=by
 have hV:=valid hv
 have hn:=hV.n
 have hl:(upto p.1.toNat).length=p.1.toNat:=Mu _
 have hr: ∀y∈upto p.1.toNat,0<=y/\y<p.1:= λy hy=>by have:=Lt.1 hy;omega
 obtain ⟨b1,b2⟩:=yX hv (by omega) hr
 rw [hl] at b1
 obtain ⟨a1,a2,a3⟩:=yW hv (by omega) hr (λx=>Gn p.1.toNat (p.2.2.1.map some) x) .id λx hx l hl=>MQ hx hl
 exact ⟨b1,b1.ok.nodup,b2,a1,λhw x hx=>LM (by obtain ⟨A,e⟩:=b2;rw [e];simp) (a2 hw) hx,a3⟩
theorem cR {p:PP} (hV:Valid p) {x:List Int} :x∈kH p.1.toNat (aL p.1 p.2.2.1).2 p.1.toNat 0↔Gn p.1.toNat (p.2.2.1.map some) x:=by
 have hn:=hV.n
 have hg:=jb (iB hV).2.2
 have hS:DB p.1.toNat λg=>some g∈p.2.2.1.map some:=⟨⟨by omega,by omega⟩,λg Se=>by obtain ⟨g',e,h⟩:=hg _ Se;cases e;exact h⟩
 refine (nP (by omega) (by omega) _ 0 (by omega) (z7 hV).2.2.1 x).trans ⟨λh=>(sY (by omega) (by omega) hg h.1).1 h.2.2,λh=>?_⟩
 have hp:=cz.pm hS h
 exact ⟨hp,λi hi=>absurd hi (Dn _),(sY (by omega) (by omega) hg hp).2 h⟩
theorem wc {p:PP} (hV:Valid p):(kH p.1.toNat (aL p.1 p.2.2.1).2 p.1.toNat 0).Nodup:=by
 have hn:=hV.n
 exact mh (by omega) (by omega) _ 0 (by omega) (z7 hV).2.2.1
theorem count_eq {p:PP} (hv:Cb p=true):Wn p=((kH p.1.toNat (aL p.1 p.2.2.1).2 p.1.toNat 0).length:Int):=by
 unfold Wn
 rw [Ab hv,qE]
theorem EI {p:PP} (hv:Cb p=true):(Gy p.2.2.1 (upto p.1.toNat)).2.2=decide (1<=Wn p/\Wn p<=3000):=by
 have hV:=valid hv
 have h:=bZ hv
 rw [count_eq hv]
 have KD:=wc hV
 have h1:=Ry h.nodup λx hx=>(cR hV).2 (h.gen x hx)
 obtain ⟨A,hA⟩:=h.first
 have MA:1<=(Gy p.2.2.1 (upto p.1.toNat)).1.length:=by rw [hA];simp
 cases hw:(Gy p.2.2.1 (upto p.1.toNat)).2.2 with
 |true=>
  have h2:=Ry KD λx hx=>h.all hw x ((cR hV).1 hx)
  have h3:=h.ok.ok.nj
  exact (Dl ⟨by omega,by omega⟩).symm
 |false=>
  obtain ⟨h2,z,h3,h4⟩:=h.big hw
  have h5:=Ry (l1:=z::(Gy p.2.2.1 (upto p.1.toNat)).1) (Ce.2 ⟨h4,h.nodup⟩) λx hx=>by
   rcases Be.1 hx with rfl|hx
   ·exact (cR hV).2 h3
   ·exact (cR hV).2 (h.gen x hx)
  simp only [Aw] at h5
  exact (Ft (by omega)).symm
def zR (g:List (List Int)) (s:List Int):List (List Int):=(Ca g.length).map λl=>Af s (Ax g l)
noncomputable abbrev kr:Spec:=Gt (.pair Ix (.pair tL .unit)) rH false true (λx=>Cb x.1=true/\List.length x.2.1<=20/\ ∀y∈x.2.1,0<=y/\y<x.1.1) (λx=>zR x.1.2.2.1 x.2.1)
abbrev EX:Type:=List (List Int)×List Int×List Int×List Int
def sN (g:List (List Int)) (k:Int) (x:List Int) (d:Int):List Int->EX->List Int->EX×List Int
 | [],s,row=>(s,row)
 |l::ls,s,row=>if Af x (Ax g l)∈s.1 then sN g k x d ls s (row++ [(s.1.idxOf (Af x (Ax g l)):Int)])
  else sN g k x d ls (s.1++ [Af x (Ax g l)],s.2.1++ [d+1],s.2.2.1++ [k],s.2.2.2++ [l]) (row++ [(s.1.length:Int)])
def vW (g:List (List Int)) (ls:List Int):Nat->Nat->EX->List (List Int)->EX×List (List Int)
 |0,_,s,N=>(s,N)
 |f+1,k,s,N=>if k<s.1.length then vW g ls f (k+1) (sN g (k:Int) (s.1.getD k []) (s.2.1.getD k 0) ls s []).1 (N++ [(sN g (k:Int) (s.1.getD k []) (s.2.1.getD k 0) ls s []).2]) else (s,N)
def j5 (key:ByteArray):List (List Int)->Nat->Option Int
 | [],_=>none
 |x::r,i=>if Sz x=key then some (i:Int) else j5 key r (i+1)
def aU (L:List (List Int)):ByteArray->Option Int:= λkey=>j5 key L 0
def Alq (p:PP) (r:EX×List (List Int)):JB.den:=(p,r.1.1,r.1.2.1,aU r.1.1,r.1.2.2.1,r.1.2.2.2,r.2,())
def me (p:PP):JB.den:=Alq p (vW p.2.2.1 (Ca p.2.2.1.length) 3001 0 ([upto p.1.toNat],[0],[0],[0]) [])
noncomputable def Gl (p:PP):Bool:=Cb p&&(Gy p.2.2.1 (upto p.1.toNat)).2.2
noncomputable abbrev Vo:Spec:=Gt (.pair Ix .unit) (.pair (.optr JB) (.pair .bool .unit)) true false (λx=>Gw x.1) (λx=>if Gl x.1=true then (some (me x.1),true,()) else (none,false,()))
abbrev IY:Type:=Int×Int×ByteArray×List (List Int)×List (List Int)×PUnit
theorem Afz (p:Int×ByteArray×List (List Int)×Unit) (s:List Int) (P:List (List Int)->Prop):(∃(y3:List Int),Nj.fn ((↑p.2.2.1.length:Int),())=some y3/\0=0/\0=([]:List Int).length/\Dm (λ(v4:IY) (k5:IY->Prop)=>Br (decide (v4.1<(↑y3.length:Int))) (∃(y6:Int),idx y3 v4.1=some y6/\ ∃(y7:List Int),Hy.fn (v4.2.2.2.1,y6,())=some y7/\ ∃(y8:List Int),Jc.fn (s,y7,())=some y8/\0=0/\v4.2.2.2.2.1.length=v4.2.2.2.2.1.length/\v4.2.2.2.2.1.length+(List.take 1 (List.drop 0 [y8])).length<=Db/\0=0/\(v4.2.2.2.2.1++List.take 1 (List.drop 0 [y8])).length=(v4.2.2.2.2.1++List.take 1 (List.drop 0 [y8])).length/\k5 (IntKind.i64.wrap (v4.1+(1:Int)),v4.2.1,v4.2.2.1,v4.2.2.2.1,v4.2.2.2.2.1++List.take 1 (List.drop 0 [y8]),())) (P (List.take v4.2.2.2.2.1.length (List.drop 0 v4.2.2.2.2.1)))) ((0:Int),p.1,p.2.1,p.2.2.1,[],PUnit.unit))=fnW Gb (look [(139,Nj),(135,Hy),(134,Jc)]) kr Tryz.f143 (p,s,()) P:=by kernel_rfl
theorem Af8 (p:PP) (s:List Int) (h:Cb p=true/\s.length<=20/\ ∀y∈s,0<=y/\y<p.1):fnW Gb (look [(139,Nj),(135,Hy),(134,Jc)]) kr Tryz.f143 (p,s,()) (λ(z:List (List Int))=>z=zR p.2.2.1 s):=by
 obtain ⟨hv,hs,hr⟩:=h
 have hV:=valid hv
 have hf:=hV.nj
 refine Eq.mp (Afz p s _) ⟨Ca p.2.2.1.length,Ab ⟨Int.natCast_nonneg _,by show ((p.2.2.1.length:Nat):Int)<=8;omega⟩,rfl,rfl,?_⟩
 have hL:=Qp p.2.2.1.length
 refine Bw (Ca p.2.2.1.length).length (λv=>v.1) (λj v=>v=((j:Int),p.1,p.2.1,p.2.2.1,((Ca p.2.2.1.length).take j).map (λl=>Af s (Ax p.2.2.1 l)),())) rfl (by simp) ?_
 rintro j v K hj hi rfl hK
 dsimp only
 refine Br.dec (λhl=>?_) λhl=>?_
 ·have hl:j<(Ca p.2.2.1.length).length:=by omega
  have hlj:=Lc (Al hl)
  obtain ⟨h1,h2⟩:=kc hV hlj
  refine ⟨_,Co hl,_,Ab ⟨hlj,hf.2,hV.perm⟩,_,Ab ⟨hs,λy hy=>by have:=hr y hy;show 0<=y/\y<((Ax p.2.2.1 (Ca p.2.2.1.length)[j]).length:Int);omega⟩,rfl,rfl,?_,rfl,rfl,?_⟩
  ·show (((Ca p.2.2.1.length).take j).map _).length+1<=4294967296
   rw [Ch,Dc]
   omega
  ·rw [Bm (by omega)]
   refine hK hl _ rfl ?_
   have e:(Ca p.2.2.1.length).take (j+1)=(Ca p.2.2.1.length).take j++ [(Ca p.2.2.1.length)[j]]:=by
    rw [Ia,Ac hl,Tr]
   rw [e,Ko]
   rfl
 ·have:j=(Ca p.2.2.1.length).length:=by omega
  subst this
  rw [Ea,Ay,Ay]
  rfl
theorem IL:Sound Tryz.prog 143 kr:=
 Sound.Gt Dt (Av dE (Av cc (Av Rg Bp))) mixed Tryz.func143 (by kernel_rfl) (by kernel_rfl) λx h=>Af8 x.1 x.2.1 h
theorem Kc {α:Type} {xs ys:List α} {i:Nat} {d:α} (h:i<xs.length):(xs++ys).getD i d=xs.getD i d:=by
 rw [Ai,Ai,As h]
theorem jT {α:Type} {xs:List α} {x d:α} :(xs++ [x]).getD xs.length d=x:=by
 rw [Ai,Ar (Ao _),Nat.sub_self];rfl
theorem Lh {α:Type} {xs:List α} {i:Nat} {d:α} (h:i<xs.length):xs.getD i d=xs[i]:=by
 rw [Ai,Ac h];rfl
structure Lv (g:List (List Int)) (ls:List Int) (k:Nat) (L:List (List Int)) (D:List Int):Prop where
 len:D.length=L.length
 pos:0<L.length
 mono: ∀i j,i<=j->j<L.length->D.getD i 0<=D.getD j 0
 Aey:k<L.length-> ∀j,j<L.length->D.getD j 0<=D.getD k 0+1
 par: ∀j,0<j->j<L.length-> ∃i l,i<j/\l∈ls/\L.getD j []=Af (L.getD i []) (Ax g l)/\D.getD j 0=D.getD i 0+1
 zero:D.getD 0 0=0
theorem Lv.add {g:List (List Int)} {ls:List Int} {k:Nat} {L:List (List Int)} {D:List Int} (h:Lv g ls k L D) (hk:k<L.length) {l:Int} (hl:l∈ls):
  Lv g ls k (L++ [Af (L.getD k []) (Ax g l)]) (D++ [D.getD k 0+1]):=by
 have hlen:=h.len
 have hD: ∀i,i<L.length->(D++ [D.getD k 0+1]).getD i 0=D.getD i 0:= λi hi=>Kc (by omega)
 have hDl:(D++ [D.getD k 0+1]).getD L.length 0=D.getD k 0+1:=by rw [<-hlen];exact jT
 refine ⟨by simp [hlen],by simp,λi j jZ hj=>?_,λ_ j hj=>?_,λj h0 hj=>?_,?_⟩
 ·rw [Au,Cg] at hj
  by_cases e:j=L.length
  ·subst e
   rw [hDl]
   by_cases e':i=L.length
   ·subst e';rw [hDl];exact Sf _
   ·rw [hD i (by omega)]
    exact h.Aey hk i (by omega)
  ·rw [hD i (by omega),hD j (by omega)]
   exact h.mono i j jZ (by omega)
 ·rw [Au,Cg] at hj
  rw [hD k hk]
  by_cases e:j=L.length
  ·subst e;rw [hDl];exact Sf _
  ·rw [hD j (by omega)];exact h.Aey hk j (by omega)
 ·rw [Au,Cg] at hj
  by_cases e:j=L.length
  ·subst e
   exact ⟨k,l,hk,hl,by rw [jT,Kc hk],by rw [hDl,hD k hk]⟩
  ·obtain ⟨i,l',h1,h2,h3,h4⟩:=h.par j h0 (by omega)
   exact ⟨i,l',h1,h2,by rw [Kc (by omega),Kc (by omega)];exact h3,by rw [hD j (by omega),hD i (by omega)];exact h4⟩
 ·rw [hD 0 h.pos];exact h.zero
theorem sA {g:List (List Int)} {ls:List Int} {k:Nat} : ∀(SD:List Int) (L:List (List Int)) (D:List Int),(∀l∈SD,l∈ls)->Lv g ls k L D->k<L.length-> ∀ {x:List Int} {d:Int},x=L.getD k []->d=D.getD k 0->
  Lv g ls k (Hp g x d SD L D).1 (Hp g x d SD L D).2.1/\(∃A,(Hp g x d SD L D).1=L++A)/\(∃A,(Hp g x d SD L D).2.1=D++A)/\
  ((Hp g x d SD L D).2.2=true-> ∀l∈SD,∃j,j<(Hp g x d SD L D).1.length/\(Hp g x d SD L D).1.getD j []=Af x (Ax g l)/\(Hp g x d SD L D).2.1.getD j 0<=d+1)
 | [],L,D,_,h,_,x,d,_,_=>⟨h,⟨[],by simp [Hp]⟩,⟨[],by simp [Hp]⟩,λ_ l hl=>by cases hl⟩
 |l::SD,L,D,hs,h,hk,x,d,hx,hd=>by
  have zw: ∀l∈SD,l∈ls:= λl' h'=>hs l' (Aq _ h')
  have hlen:=h.len
  simp only [Hp]
  split
  ·rename_i hm
   obtain ⟨a1,⟨A,a2⟩,⟨A',a3⟩,a4⟩:=sA SD L D zw h hk hx hd
   refine ⟨a1,⟨A,a2⟩,⟨A',a3⟩,λe l' Jv=>?_⟩
   rcases Be.1 Jv with rfl|Jv
   ·obtain ⟨j,hj,hjx⟩:=Bh.1 hm
    refine ⟨j,by rw [a2,Au];omega,by rw [a2,Kc hj,Lh hj];exact hjx,?_⟩
    rw [a3,Kc (by omega),hd]
    exact h.Aey hk j hj
   ·exact a4 e l' Jv
  ·split
   ·exact ⟨h,⟨[],by simp⟩,⟨[],by simp⟩,λe=>by cases e⟩
   ·have ZL:=h.add hk (hs l (by simp))
    rw [<-hx,<-hd] at ZL
    obtain ⟨a1,⟨A,a2⟩,⟨A',a3⟩,a4⟩:=sA SD (L++ [Af x (Ax g l)]) (D++ [d+1]) zw ZL (by rw [Au];omega) (x:=x) (d:=d) (by rw [Kc hk];exact hx) (by rw [Kc (by omega)];exact hd)
    refine ⟨a1,⟨_::A,by rw [a2,Ct];rfl⟩,⟨_::A',by rw [a3,Ct];rfl⟩,λe l' Jv=>?_⟩
    rcases Be.1 Jv with rfl|Jv
    ·refine ⟨L.length,by rw [a2,Au,Au];simp only [Cg];omega,?_,?_⟩
     ·rw [a2,Kc (by simp),jT]
     ·rw [a3,Kc (by simp [hlen]),<-hlen,jT]
      exact Sf _
    ·exact a4 e l' Jv
structure oG (g:List (List Int)) (ls:List Int) (L:List (List Int)) (D:List Int):Prop where
 len:D.length=L.length
 pos:0<L.length
 zero:D.getD 0 0=0
 par: ∀j,0<j->j<L.length-> ∃i l,i<j/\l∈ls/\L.getD j []=Af (L.getD i []) (Ax g l)/\D.getD j 0=D.getD i 0+1
 step: ∀i,i<L.length-> ∀l∈ls,∃j,j<L.length/\L.getD j []=Af (L.getD i []) (Ax g l)/\D.getD j 0<=D.getD i 0+1
theorem DX {g:List (List Int)} {ls:List Int} : ∀(f k:Nat) (L:List (List Int)) (D:List Int),3001<=f+k->Lv g ls k L D->k<=L.length->
  (∀i,i<k-> ∀l∈ls,∃j,j<L.length/\L.getD j []=Af (L.getD i []) (Ax g l)/\D.getD j 0<=D.getD i 0+1)->
  (Jn g ls f k L D).2.2=true->(Jn g ls f k L D).1.length<=3000->oG g ls (Jn g ls f k L D).1 (Jn g ls f k L D).2.1
 |0,k,L,D,hf,h,ZX,hc,hw,h3=>by
  simp only [Jn] at h3⊢
  omega
 |f+1,k,L,D,hf,h,ZX,hc,hw,h3=>by
  simp only [Jn] at hw h3⊢
  split
  ·rename_i hk
   rw [Ab hk] at hw h3
   obtain ⟨a1,⟨A,a2⟩,⟨A',a3⟩,a4⟩:=sA (x:=L.getD k []) (d:=D.getD k 0) ls L D (λ_ h=>h) h hk rfl rfl
   have hlen:=h.len
   split
   ·rename_i L' D' he
    rw [he] at a1 a2 a3 a4
    simp only [he] at hw h3
    have a2:L'=L++A:=a2
    have a3:D'=D++A':=a3
    have a4:=a4 rfl
    dsimp only at a4
    have hLl:L.length<=L'.length:=by rw [a2,Au];omega
    refine DX f (k+1) L' D' (by omega) ⟨a1.len,a1.pos,a1.mono,λhk1 j hj=>?_,a1.par,a1.zero⟩ (by omega) (λi hi l hl=>?_) hw h3
    ·have h1:D'.getD j 0<=D'.getD k 0+1:=a1.Aey (show k<L'.length by omega) j hj
     have h2:D'.getD k 0<=D'.getD (k+1) 0:=a1.mono k (k+1) (by omega) hk1
     omega
    ·by_cases e:i=k
     ·subst e
      obtain ⟨j,b1,b2,b3⟩:=a4 l hl
      refine ⟨j,b1,?_,?_⟩
      ·rw [b2,a2,Kc (by omega)]
      ·rw [show D'.getD i 0=D.getD i 0 by rw [a3,Kc (by omega)]];exact b3
     ·obtain ⟨j,b1,b2,b3⟩:=hc i (by omega) l hl
      refine ⟨j,by omega,?_,?_⟩
      ·rw [a2,Kc (by omega),Kc (by omega)];exact b2
      ·rw [a3,Kc (by omega),Kc (by omega)];exact b3
   ·rename_i L' D' he
    simp only [he] at hw
    cases hw
  ·rename_i hk
   exact ⟨h.len,h.pos,h.zero,h.par,λi hi=>hc i (by have hi:i<L.length:=hi;omega)⟩
theorem lQ {p:PP} {s:List Int} (hv:Cb p=true) (hs:s.length<=20) (hr: ∀y∈s,0<=y/\y<p.1) (hw:(Gy p.2.2.1 s).2.2=true):
  oG p.2.2.1 (Ca p.2.2.1.length) (Gy p.2.2.1 s).1 (Gy p.2.2.1 s).2.1:=by
 have hb:=(yX hv hs hr).1.ok.nj
 refine DX 3001 0 [s] [0] (by omega) ⟨rfl,by simp,λi j jZ hj=>?_,λ_ j hj=>?_,λj h0 hj=>?_,rfl⟩ (Ja _) (λi hi=>absurd hi (Dn _)) hw hb
 ·have:j=0:=by simpa using hj
  subst this
  have:i=0:=by omega
  subst this
  exact Sf _
 ·have:j=0:=by simpa using hj
  subst this
  simp
 ·have:j=0:=by simpa using hj
  omega
theorem qw {p:PP} (hV:Valid p) {x:List Int} (hx: ∀y∈x,0<=y/\y<p.1) {l:Int} (hl:l∈Ca p.2.2.1.length):
  -l∈Ca p.2.2.1.length/\Af (Af x (Ax p.2.2.1 l)) (Ax p.2.2.1 (-l))=x:=by
 obtain ⟨k,hk,Rk⟩:=Pv (Lc hl)
 have hg:=dA (hV.perm _ (Al hk))
 have hgl:=hV.len _ (Al hk)
 have hn:=hV.n
 have hp:Pm p.1.toNat (p.2.2.1[k]):=⟨by omega,hg⟩
 have key: ∀q r:List Int,Pm p.1.toNat q->Pm p.1.toNat r->Af q r=upto p.1.toNat->Af (Af x q) r=x:= λq r hq hr he=>by
  refine List.ext_getElem (by rw [Pf,Pf]) λi h1 h2=>?_
  have hxi:=hx _ (Al h2)
  obtain ⟨xi,hxe⟩:=Qw hxi.1
  have hxn:xi<p.1.toNat:=by omega
  have e1:ap (Af q r) xi=ap (upto p.1.toNat) xi:=Fq (λz=>ap z xi) he
  rw [Jw hq hr hxn,iq hxn] at e1
  simp only [Af,Sx,hxe]
  have h3:=(hq.Xm hxn).1
  have h4:=(hr.Xm (hq.lt hxn)).1
  rw [h3,h4,e1]
 rcases Rk with rfl|rfl
 ·refine ⟨(Vj hk).2,?_⟩
  rw [Px hk,Pw hk]
  exact key _ _ hp hp.inv (Wd hp)
 ·refine ⟨by rw [Int.neg_neg];exact (Vj hk).1,?_⟩
  rw [Int.neg_neg,Px hk,Pw hk]
  exact key _ _ hp.inv hp (bS hp)
structure Rn (g:List (List Int)) (ls:List Int) (L:List (List Int)) (S:List Int->Prop) (d:List Int->Int):Prop where
 nn: ∀x∈L,0<=d x
 zero: ∀x∈L,d x=0↔S x
 step: ∀x∈L,∀l∈ls,d (Af x (Ax g l))<=d x+1
 down: ∀x∈L,0<d x-> ∃l∈ls,d (Af x (Ax g l))=d x-1
structure s9 (g:List (List Int)) (ls:List Int) (L:List (List Int)):Prop where
 next: ∀x∈L,∀l∈ls,Af x (Ax g l)∈L
 back: ∀x∈L,∀l∈ls,-l∈ls/\Af (Af x (Ax g l)) (Ax g (-l))=x
theorem Rn.le {g:List (List Int)} {ls:List Int} {L:List (List Int)} {S:List Int->Prop} {d d':List Int->Int} (hc:s9 g ls L) (h:Rn g ls L S d) (h':Rn g ls L S d'):
  ∀(n:Nat) (x:List Int),x∈L->d' x=n->d x<=n
 |0,x,hx,e=>by
  have:=(h.zero x hx).2 ((h'.zero x hx).1 e)
  omega
 |n+1,x,hx,e=>by
  obtain ⟨l,hl,hd⟩:=h'.down x hx (by omega)
  obtain ⟨b1,b2⟩:=hc.back x hx l hl
  have h1:=Rn.le hc h h' n _ (hc.next x hx l hl) (by omega)
  have h2:=h.step _ (hc.next x hx l hl) _ b1
  rw [b2] at h2
  omega
theorem Rn.eq {g:List (List Int)} {ls:List Int} {L:List (List Int)} {S:List Int->Prop} {d d':List Int->Int} (hc:s9 g ls L) (h:Rn g ls L S d) (h':Rn g ls L S d') {x:List Int} (hx:x∈L):d x=d' x:=by
 have n1:=h.nn x hx
 have n2:=h'.nn x hx
 have h1:=Rn.le hc h h' (d' x).toNat x hx (by omega)
 have h2:=Rn.le hc h' h (d x).toNat x hx (by omega)
 omega
def Lr (L:List (List Int)) (D:List Int) (x:List Int):Int:=if x∈L then D.getD (L.idxOf x) 0 else-1
theorem fq {L:List (List Int)} (hn:L.Nodup) {j:Nat} (hj:j<L.length):L.idxOf (L.getD j [])=j:=by
 rw [Lh hj]
 exact hn.idxOf_getElem j hj
theorem ej {L:List (List Int)} {j:Nat} (hj:j<L.length):L.getD j []∈L:=by rw [Lh hj];exact Al hj
theorem lU {L:List (List Int)} {D:List Int} (hn:L.Nodup) {j:Nat} (hj:j<L.length):Lr L D (L.getD j [])=D.getD j 0:=by
 unfold Lr
 rw [Ab (ej hj),fq hn hj]
theorem l9 {p:PP} (hV:Valid p) {m:Nat} {L:List (List Int)} {D:List Int} (hb:Sw p m L D) (h:oG p.2.2.1 (Ca p.2.2.1.length) L D):s9 p.2.2.1 (Ca p.2.2.1.length) L where
 next x hx l hl:=by
  obtain ⟨i,hi,rfl⟩:=Bh.1 hx
  obtain ⟨j,h1,h2,_⟩:=h.step i hi l hl
  rw [Lh hi] at h2
  rw [<-h2]
  exact ej h1
 back x hx l hl:=qw hV (hb.row x hx) hl
theorem qx {p:PP} (hV:Valid p) {m:Nat} {L:List (List Int)} {D:List Int} (hb:Sw p m L D) (h:oG p.2.2.1 (Ca p.2.2.1.length) L D):
  Rn p.2.2.1 (Ca p.2.2.1.length) L (λx=>x=L.getD 0 []) (Lr L D) where
 nn x hx:=by
  obtain ⟨i,hi,rfl⟩:=Bh.1 hx
  rw [<-Lh (d:= []) hi,lU hb.ok.nodup hi]
  have:=hb.dep i (by rw [hb.len];exact hi)
  rw [Lh (by rw [hb.len];exact hi)]
  omega
 zero x hx:=by
  obtain ⟨i,hi,rfl⟩:=Bh.1 hx
  rw [<-Lh (d:= []) hi,lU hb.ok.nodup hi]
  constructor
  ·intro h0
   by_cases e:i=0
   ·rw [e]
   ·obtain ⟨k,l,h1,_,_,h4⟩:=h.par i (by omega) hi
    have hk:k<D.length:=by rw [hb.len];omega
    have:=hb.dep k hk
    rw [<-Lh (d:=0) hk] at this
    omega
  ·intro e
   have:i=0:=by
    have h1:=fq hb.ok.nodup hi
    have h2:=fq hb.ok.nodup h.pos
    rw [e,h2] at h1
    exact h1.symm
   rw [this]
   exact h.zero
 step x hx l hl:=by
  obtain ⟨i,hi,rfl⟩:=Bh.1 hx
  rw [<-Lh (d:= []) hi,lU hb.ok.nodup hi]
  obtain ⟨j,h1,h2,h3⟩:=h.step i hi l hl
  rw [<-h2,lU hb.ok.nodup h1]
  exact h3
 down x hx h0:=by
  obtain ⟨i,hi,rfl⟩:=Bh.1 hx
  rw [<-Lh (d:= []) hi,lU hb.ok.nodup hi] at h0⊢
  have hi0:0<i:=by
   rcases Tq i with e|e
   ·subst e;rw [h.zero] at h0;omega
   ·exact e
  obtain ⟨k,l,h1,h2,h3,h4⟩:=h.par i hi0 hi
  have hk:k<L.length:=by omega
  obtain ⟨b1,b2⟩:=qw hV (hb.row _ (ej hk)) h2
  refine ⟨-l,b1,?_⟩
  rw [h3,b2,lU hb.ok.nodup hk]
  omega
abbrev vn:Type:=Int×Int×ByteArray×List (List Int)×List Int×List (List Int)×List Int×(ByteArray->Option Int)×List Int×List Int×Int×ByteArray×List (List Int)×List (List Int)×PUnit
abbrev vo:Type:=Int×Int×ByteArray×List (List Int)×List (List Int)×List Int×(ByteArray->Option Int)×List Int×List Int×Int×ByteArray×List (List Int)×List (List Int)×PUnit
abbrev fw:List (Nat×Nat):= [(0,1),(0,1),(0,1),(0,1),(0,1),(0,1),(0,1),(0,1),(0,1),(0,1),(0,1),(0,1),(0,0)]
abbrev Ho (p:Int×ByteArray×List (List Int)×Unit) (y4:List Int) (y2:Int) (y3:Bool) (y6:ByteArray) (y5:ByteArray):Prop:=fw=fw/\(p,false,y4,p.1,p.2.1,p.2.2.1,y2,y3,!y3,p.1,y4,p.1,p.2.1,p.2.2.1,y4,y4,y6,p.1,p.2.1,p.2.2.1,p.1,p.2.1,p.2.2.1,[y4],[(0:Int)],cj (λ(_:ByteArray)=>none) y6 (0:Int),[(0:Int)],[(0:Int)],p.1,p.2.1,p.2.2.1,([]:List (List Int)),())=(p,false,y4,p.1,p.2.1,p.2.2.1,y2,y3,!y3,p.1,y4,p.1,p.2.1,p.2.2.1,y4,y4,y5,p.1,p.2.1,p.2.2.1,p.1,p.2.1,p.2.2.1,[y4],[(0:Int)],cj (λ(_:ByteArray)=>none) y5 (0:Int),[(0:Int)],[(0:Int)],p.1,p.2.1,p.2.2.1,([]:List (List Int)),PUnit.unit)
theorem XH (p:Int×ByteArray×List (List Int)×Unit) (P:(Option (PP×List (List Int)×List Int×(ByteArray->Option Int)×List Int×List Int×List (List Int)×Unit)×Bool×Unit)->Prop):(∃(y2:Int),Sq.fn ((p.1,p.2.1,p.2.2.1,()),())=some y2/\ ∃(y3:Bool),Cr.fn (y2,(1:Int),(3000:Int),())=some y3/\Br (!y3) (P (none,false,())) (∃(y4:List Int),Nt.fn (p.1,())=some y4/\ ∃(y5:ByteArray),Il.fn (y4,())=some y5/\(∃(y6:List Int),Nj.fn ((↑p.2.2.1.length:Int),())=some y6/\0=0/\1= [y4].length/\0=0/\1= [(0:Int)].length/\0=0/\1= [(0:Int)].length/\0=0/\1= [(0:Int)].length/\0=0/\0=([]:List Int).length/\Dm (λ(v7:vo) (k8:vo->Prop)=>Br (decide (v7.1<(↑v7.2.2.2.2.1.length:Int))) (((0:Int)<=v7.1/\v7.1<(↑v7.2.2.2.2.1.length:Int))/\ ∃(y9:List Int),v7.2.2.2.2.1[0+v7.1.toNat]?=some y9/\ ∃(cq:List (List Int)),kr.fn ((v7.2.1,v7.2.2.1,v7.2.2.2.1,()),y9,())=some cq/\0=0/\0=([]:List Int).length/\0=0/\v7.2.2.2.2.1.length=v7.2.2.2.2.1.length/\0=0/\v7.2.2.2.2.2.1.length=v7.2.2.2.2.2.1.length/\0=0/\v7.2.2.2.2.2.2.2.1.length=v7.2.2.2.2.2.2.2.1.length/\0=0/\v7.2.2.2.2.2.2.2.2.1.length=v7.2.2.2.2.2.2.2.2.1.length/\0=0/\v7.2.2.2.2.2.2.2.2.2.2.2.2.1.length=v7.2.2.2.2.2.2.2.2.2.2.2.2.1.length/\Dm (λ(v11:vn) (k12:vn->Prop)=>Br (decide (v11.1<(↑cq.length:Int))) (∃(vO:List Int),idx cq v11.1=some vO/\ ∃(ah:ByteArray),Il.fn (vO,())=some ah/\Br (!(v11.2.2.2.2.2.2.2.1 ah).isSome) (∃(oA:Int),Un.fn (List.take v11.2.2.2.2.2.1.length (List.drop 0 v11.2.2.2.2.2.1),())=some oA/\0=0/\v11.2.2.2.2.2.1.length=v11.2.2.2.2.2.1.length/\v11.2.2.2.2.2.1.length+(List.take 1 (List.drop 0 [vO])).length<=Db/\((0:Int)<=v7.1/\v7.1<(↑v11.2.2.2.2.2.2.1.length:Int))/\ ∃(s8:Int),v11.2.2.2.2.2.2.1[0+v7.1.toNat]?=some s8/\0=0/\v11.2.2.2.2.2.2.1.length=v11.2.2.2.2.2.2.1.length/\v11.2.2.2.2.2.2.1.length+ [IntKind.i64.wrap (s8+(1:Int))].length<=Db/\0=0/\v11.2.2.2.2.2.2.2.2.1.length=v11.2.2.2.2.2.2.2.2.1.length/\v11.2.2.2.2.2.2.2.2.1.length+(List.take 1 (List.drop 0 [v7.1])).length<=Db/\ ∃(QI:Int),idx y6 v11.1=some QI/\0=0/\v11.2.2.2.2.2.2.2.2.2.1.length=v11.2.2.2.2.2.2.2.2.2.1.length/\v11.2.2.2.2.2.2.2.2.2.1.length+ [QI].length<=Db/\0=0/\v11.2.2.2.2.1.length=v11.2.2.2.2.1.length/\v11.2.2.2.2.1.length+(List.take 1 (List.drop 0 [oA])).length<=Db/\0=0/\(v11.2.2.2.2.1++List.take 1 (List.drop 0 [oA])).length=(v11.2.2.2.2.1++List.take 1 (List.drop 0 [oA])).length/\0=0/\(v11.2.2.2.2.2.1++List.take 1 (List.drop 0 [vO])).length=(v11.2.2.2.2.2.1++List.take 1 (List.drop 0 [vO])).length/\0=0/\(v11.2.2.2.2.2.2.1++ [IntKind.i64.wrap (s8+(1:Int))]).length=(v11.2.2.2.2.2.2.1++ [IntKind.i64.wrap (s8+(1:Int))]).length/\0=0/\(v11.2.2.2.2.2.2.2.2.1++List.take 1 (List.drop 0 [v7.1])).length=(v11.2.2.2.2.2.2.2.2.1++List.take 1 (List.drop 0 [v7.1])).length/\0=0/\(v11.2.2.2.2.2.2.2.2.2.1++ [QI]).length=(v11.2.2.2.2.2.2.2.2.2.1++ [QI]).length/\0=0/\v11.2.2.2.2.2.2.2.2.2.2.2.2.2.1.length=v11.2.2.2.2.2.2.2.2.2.2.2.2.2.1.length/\k12 (IntKind.i64.wrap (v11.1+(1:Int)),v11.2.1,v11.2.2.1,v11.2.2.2.1,v11.2.2.2.2.1++List.take 1 (List.drop 0 [oA]),v11.2.2.2.2.2.1++List.take 1 (List.drop 0 [vO]),v11.2.2.2.2.2.2.1++ [IntKind.i64.wrap (s8+(1:Int))],cj v11.2.2.2.2.2.2.2.1 ah oA,v11.2.2.2.2.2.2.2.2.1++List.take 1 (List.drop 0 [v7.1]),v11.2.2.2.2.2.2.2.2.2.1++ [QI],v11.2.2.2.2.2.2.2.2.2.2.1,v11.2.2.2.2.2.2.2.2.2.2.2.1,v11.2.2.2.2.2.2.2.2.2.2.2.2.1,v11.2.2.2.2.2.2.2.2.2.2.2.2.2.1,())) (0=0/\v11.2.2.2.2.1.length=v11.2.2.2.2.1.length/\v11.2.2.2.2.1.length+(List.take 1 (List.drop 0 [(v11.2.2.2.2.2.2.2.1 ah).getD (Int.ofNat (nat_lit 0))])).length<=Db/\0=0/\(v11.2.2.2.2.1++List.take 1 (List.drop 0 [(v11.2.2.2.2.2.2.2.1 ah).getD (Int.ofNat (nat_lit 0))])).length=(v11.2.2.2.2.1++List.take 1 (List.drop 0 [(v11.2.2.2.2.2.2.2.1 ah).getD (Int.ofNat (nat_lit 0))])).length/\0=0/\v11.2.2.2.2.2.1.length=v11.2.2.2.2.2.1.length/\0=0/\v11.2.2.2.2.2.2.1.length=v11.2.2.2.2.2.2.1.length/\0=0/\v11.2.2.2.2.2.2.2.2.1.length=v11.2.2.2.2.2.2.2.2.1.length/\0=0/\v11.2.2.2.2.2.2.2.2.2.1.length=v11.2.2.2.2.2.2.2.2.2.1.length/\0=0/\v11.2.2.2.2.2.2.2.2.2.2.2.2.2.1.length=v11.2.2.2.2.2.2.2.2.2.2.2.2.2.1.length/\k12 (IntKind.i64.wrap (v11.1+(1:Int)),v11.2.1,v11.2.2.1,v11.2.2.2.1,v11.2.2.2.2.1++List.take 1 (List.drop 0 [(v11.2.2.2.2.2.2.2.1 ah).getD (Int.ofNat (nat_lit 0))]),v11.2.2.2.2.2.1,v11.2.2.2.2.2.2.1,v11.2.2.2.2.2.2.2.1,v11.2.2.2.2.2.2.2.2.1,v11.2.2.2.2.2.2.2.2.2.1,v11.2.2.2.2.2.2.2.2.2.2.1,v11.2.2.2.2.2.2.2.2.2.2.2.1,v11.2.2.2.2.2.2.2.2.2.2.2.2.1,v11.2.2.2.2.2.2.2.2.2.2.2.2.2.1,()))) (0=0/\v11.2.2.2.2.2.2.2.2.2.2.2.2.2.1.length=v11.2.2.2.2.2.2.2.2.2.2.2.2.2.1.length/\v11.2.2.2.2.2.2.2.2.2.2.2.2.2.1.length+(List.take 1 (List.drop 0 [List.take v11.2.2.2.2.1.length (List.drop 0 v11.2.2.2.2.1)])).length<=Db/\0=0/\v11.2.2.2.2.2.1.length=v11.2.2.2.2.2.1.length/\0=0/\v11.2.2.2.2.2.2.1.length=v11.2.2.2.2.2.2.1.length/\0=0/\v11.2.2.2.2.2.2.2.2.1.length=v11.2.2.2.2.2.2.2.2.1.length/\0=0/\v11.2.2.2.2.2.2.2.2.2.1.length=v11.2.2.2.2.2.2.2.2.2.1.length/\0=0/\(v11.2.2.2.2.2.2.2.2.2.2.2.2.2.1++List.take 1 (List.drop 0 [List.take v11.2.2.2.2.1.length (List.drop 0 v11.2.2.2.2.1)])).length=(v11.2.2.2.2.2.2.2.2.2.2.2.2.2.1++List.take 1 (List.drop 0 [List.take v11.2.2.2.2.1.length (List.drop 0 v11.2.2.2.2.1)])).length/\k8 (IntKind.i64.wrap (v7.1+(1:Int)),v11.2.1,v11.2.2.1,v11.2.2.2.1,v11.2.2.2.2.2.1,v11.2.2.2.2.2.2.1,v11.2.2.2.2.2.2.2.1,v11.2.2.2.2.2.2.2.2.1,v11.2.2.2.2.2.2.2.2.2.1,v11.2.2.2.2.2.2.2.2.2.2.1,v11.2.2.2.2.2.2.2.2.2.2.2.1,v11.2.2.2.2.2.2.2.2.2.2.2.2.1,v11.2.2.2.2.2.2.2.2.2.2.2.2.2.1++List.take 1 (List.drop 0 [List.take v11.2.2.2.2.1.length (List.drop 0 v11.2.2.2.2.1)]),()))) ((0:Int),v7.2.1,v7.2.2.1,v7.2.2.2.1,[],v7.2.2.2.2.1,v7.2.2.2.2.2.1,v7.2.2.2.2.2.2.1,v7.2.2.2.2.2.2.2.1,v7.2.2.2.2.2.2.2.2.1,v7.2.2.2.2.2.2.2.2.2.1,v7.2.2.2.2.2.2.2.2.2.2.1,v7.2.2.2.2.2.2.2.2.2.2.2.1,v7.2.2.2.2.2.2.2.2.2.2.2.2.1,PUnit.unit)) (P (some ((v7.2.2.2.2.2.2.2.2.2.1,v7.2.2.2.2.2.2.2.2.2.2.1,v7.2.2.2.2.2.2.2.2.2.2.2.1,()),List.take v7.2.2.2.2.1.length (List.drop 0 v7.2.2.2.2.1),List.take v7.2.2.2.2.2.1.length (List.drop 0 v7.2.2.2.2.2.1),v7.2.2.2.2.2.2.1,List.take v7.2.2.2.2.2.2.2.1.length (List.drop 0 v7.2.2.2.2.2.2.2.1),List.take v7.2.2.2.2.2.2.2.2.1.length (List.drop 0 v7.2.2.2.2.2.2.2.2.1),List.take v7.2.2.2.2.2.2.2.2.2.2.2.2.1.length (List.drop 0 v7.2.2.2.2.2.2.2.2.2.2.2.2.1),()),true,()))) ((0:Int),p.1,p.2.1,p.2.2.1,[y4],[(0:Int)],cj (λ(_:ByteArray)=>none) y5 (0:Int),[(0:Int)],[(0:Int)],p.1,p.2.1,p.2.2.1,([]:List (List Int)),PUnit.unit))/\((∃(y6:ByteArray),Il.fn (y4,())=some y6/\(Ho p y4 y2 y3 y6 y5))/\ ∃(y6:ByteArray),Il.fn (y4,())=some y6/\((Ho p y4 y2 y3 y6 y5))/\((Ho p y4 y2 y3 y6 y5))/\(Ho p y4 y2 y3 y6 y5))/\((∃(y6:ByteArray),Il.fn (y4,())=some y6/\(Ho p y4 y2 y3 y6 y5))/\ ∃(y6:ByteArray),Il.fn (y4,())=some y6/\((Ho p y4 y2 y3 y6 y5))/\((Ho p y4 y2 y3 y6 y5))/\(Ho p y4 y2 y3 y6 y5))/\ ∃(y6:ByteArray),Il.fn (y4,())=some y6/\(((Ho p y4 y2 y3 y6 y5))/\((Ho p y4 y2 y3 y6 y5))/\(Ho p y4 y2 y3 y6 y5))/\(((Ho p y4 y2 y3 y6 y5))/\((Ho p y4 y2 y3 y6 y5))/\(Ho p y4 y2 y3 y6 y5))/\(((Ho p y4 y2 y3 y6 y5))/\(Ho p y4 y2 y3 y6 y5))/\(((Ho p y4 y2 y3 y6 y5))/\(Ho p y4 y2 y3 y6 y5))/\((Ho p y4 y2 y3 y6 y5))/\fw=fw/\(p,false,y4,p.1,p.2.1,p.2.2.1,y2,y3,!y3,p.1,y4,p.1,p.2.1,p.2.2.1,y4,y4,y6,p.1,p.2.1,p.2.2.1,p.1,p.2.1,p.2.2.1,[y4],[(0:Int)],cj (λ(_:ByteArray)=>none) y6 (0:Int),[(0:Int)],[(0:Int)],p.1,p.2.1,p.2.2.1,([]:List (List Int)),())=(p,false,y4,p.1,p.2.1,p.2.2.1,y2,y3,!y3,p.1,y4,p.1,p.2.1,p.2.2.1,y4,y4,y5,p.1,p.2.1,p.2.2.1,p.1,p.2.1,p.2.2.1,[y4],[(0:Int)],cj (λ(_:ByteArray)=>none) y5 (0:Int),[(0:Int)],[(0:Int)],p.1,p.2.1,p.2.2.1,[],PUnit.unit)))=fnW Gb (look [(142,Sq),(100,Cr),(133,Nt),(121,Il),(139,Nj),(143,kr),(91,Un)]) Vo Tryz.f92 (p,()) P:=by kernel_rfl
theorem sO {g:List (List Int)} {k:Int} {x:List Int} {d:Int} : ∀(ls:List Int) (s:EX) (row:List Int) (L':List (List Int)) (D':List Int),Hp g x d ls s.1 s.2.1=(L',D',true)->
  (sN g k x d ls s row).1.1=L'/\(sN g k x d ls s row).1.2.1=D'
 | [],s,row,L',D',h=>by
  simp only [Hp,Ae] at h
  exact ⟨h.1,h.2.1⟩
 |l::ls,s,row,L',D',h=>by
  simp only [Hp] at h
  simp only [sN]
  by_cases hm:Af x (Ax g l)∈s.1
  ·rw [Ab hm] at h
   rw [Ab hm]
   exact sO ls s _ L' D' h
  ·rw [Ak hm] at h
   rw [Ak hm]
   by_cases hf:s.1.length=3000
   ·rw [Ab hf] at h
    simp at h
   ·rw [Ak hf] at h
    exact sO ls _ _ L' D' h
theorem ER {g:List (List Int)} {ls:List Int} : ∀(f k:Nat) (s:EX) (N:List (List Int)) (L':List (List Int)) (D':List Int),Jn g ls f k s.1 s.2.1=(L',D',true)->
  (vW g ls f k s N).1.1=L'/\(vW g ls f k s N).1.2.1=D'
 |0,k,s,N,L',D',h=>by
  simp only [Jn,Ae] at h
  exact ⟨h.1,h.2.1⟩
 |f+1,k,s,N,L',D',h=>by
  simp only [Jn] at h
  simp only [vW]
  by_cases hk:k<s.1.length
  ·rw [Ab hk] at h
   rw [Ab hk]
   split at h
   ·rename_i L1 D1 he
    obtain ⟨a1,a2⟩:=sO (k:=(k:Int)) ls s [] L1 D1 he
    refine ER f (k+1) _ _ L' D' ?_
    rw [a1,a2]
    exact h
   ·simp at h
  ·rw [Ak hk] at h
   rw [Ak hk]
   simp only [Ae] at h
   exact ⟨h.1,h.2.1⟩
theorem nJ {key:ByteArray} {x:List Int} : ∀(L:List (List Int)) (i:Nat),j5 key (L++ [x]) i=if (j5 key L i).isSome=true then j5 key L i else if Sz x=key then some ((i+L.length:Nat):Int) else none
 | [],i=>by simp [j5]
 |y::L,i=>by
  simp only [Oz,j5]
  split
  ·rfl
  ·rw [nJ L (i+1),Aw,show i+1+L.length=i+(L.length+1) by omega]
theorem pb {x:List Int} (hx:Zs x): ∀(L:List (List Int)) (i:Nat),(∀y∈L,Zs y)->j5 (Sz x) L i=if x∈L then some ((i+L.idxOf x:Nat):Int) else none
 | [],i,_=>by simp [j5]
 |y::L,i,h=>by
  have hy:=h y (by simp)
  simp only [j5]
  by_cases e:y=x
  ·subst e
   rw [Ab rfl,Ab (by simp),List.idxOf_cons_self]
   rfl
  ·rw [Ak λhk=>e (key_inj hy hx hk),pb hx L (i+1) λz hz=>h z (Aq _ hz),show List.idxOf x (y::L)=(List.idxOf x L).succ by rw [List.idxOf_cons,beq_false_of_ne e];rfl]
   have:(x∈y::L)↔(x∈L):=by simp [Gg e]
   by_cases hm:x∈L
   ·rw [Ab hm,Ab (this.2 hm),show i+1+List.idxOf x L=i+(List.idxOf x L).succ by omega]
   ·rw [Ak hm,Ak λh=>hm (this.1 h)]
theorem UK {x:List Int} {L:List (List Int)} (hx:Zs x) (hL: ∀y∈L,Zs y):aU L (Sz x)=if x∈L then some (L.idxOf x:Int) else none:=by
 unfold aU
 rw [pb hx L 0 hL,Bo]
theorem xO {x:List Int} {L:List (List Int)} (hx:Zs x) (hL: ∀y∈L,Zs y) (hn:x∉L):cj (aU L) (Sz x) (L.length:Int)=aU (L++ [x]):=by
 funext key
 unfold cj aU
 rw [nJ,Bo]
 by_cases e:key=Sz x
 ·subst e
  rw [Ab rfl,pb hx L 0 hL,Ak hn,Ak (by simp),Ab rfl]
 ·rw [Ak e,Ak (c:=Sz x=key) λh=>e h.symm]
  split
  ·rfl
  ·rename_i h
   cases hk:j5 key L 0 with
   |none=>rfl
   |some v=>rw [hk] at h;simp at h
theorem JU (p:PP):Ml (Wn p) 1 3000=Gl p:=by
 unfold Gl
 by_cases hv:Cb p=true
 ·rw [hv,Pd,EI hv]
  rfl
 ·have hv:Cb p=false:=by simpa using hv
  rw [hv,Bool.false_and]
  have:Wn p=0:=by unfold Wn;rw [Ak (by simp [hv])]
  rw [this]
  rfl
theorem VC (p:PP) (h:Gw p):fnW Gb (look [(142,Sq),(100,Cr),(133,Nt),(121,Il),(139,Nj),(143,kr),(91,Un)]) Vo Tryz.f92 (p,()) (λ(z:Option (PP×List (List Int)×List Int×(ByteArray->Option Int)×List Int×List Int×List (List Int)×Unit)×Bool×Unit)=>z=(if Gl p=true then (some (me p),true,()) else (none,false,()))):=by
 refine Eq.mp (XH p _) ⟨_,Ab h,_,Ab trivial,?_⟩
 show Br (!Ml (Wn p) 1 3000) _ _
 rw [JU p]
 refine Br.of (λhb=>?_) λhb=>?_
 ·rw [Ak (by simpa using hb)]
 have hw:Gl p=true:=by simpa using hb
 rw [Ab hw]
 obtain ⟨hv,LO⟩:=Bc.1 hw
 have hV:=valid hv
 have td:=hV.nj
 have hn:=hV.n
 obtain ⟨pn,ps,g,⟨⟩⟩:=p
 dsimp only at td hn LO⊢
 have hI:(upto pn.toNat).length<=20:=by rw [Mu];omega
 have hIr: ∀y∈upto pn.toNat,0<=y/\y<pn:= λy hy=>by have:=Lt.1 hy;omega
 have hb0:=dS (p:=(pn,ps,g,())) hI hIr
 obtain ⟨ls,rj⟩: ∃ls,Ca g.length=ls:=⟨_,rfl⟩
 have hll:ls.length<=16:=by rw [<-rj,Qp];omega
 have nz: ∀l∈ls,Hq (List.length g) l:= λl hl=>Lc (rj▸hl)
 have sZ: ∀x:List Int,(∀y∈x,0<=y/\y<pn)->Zs x:= λx hx y hy=>by have:=hx y hy;omega
 have tu:Jn g ls 3001 0 [upto pn.toNat] [0]=Gy g (upto pn.toNat):=by unfold Gy;rw [rj]
 have vH:cj (λ(_:ByteArray)=>(none:Option Int)) (Sz (upto pn.toNat)) 0=aU [upto pn.toNat]:=by
  have:=xO (L:= []) (sZ _ hIr) (λy hy=>by cases hy) (by simp)
  exact this
 refine ⟨upto pn.toNat,Ab ⟨by show (0:Int)<=pn;omega,by show pn<=20;omega⟩,Sz (upto pn.toNat),Ab (by show short (upto pn.toNat);unfold short;omega),⟨ls,?_,rfl,rfl,rfl,rfl,rfl,rfl,rfl,rfl,rfl,rfl,?_⟩,?_⟩
 ·refine (Ab ⟨by show (0:Int)<=((g.length:Nat):Int);omega,by show ((g.length:Nat):Int)<=8;omega⟩).trans (Fq some ?_)
  show Ca (((g.length:Nat):Int)).toNat=ls
  rw [Aj];exact rj
 ·obtain ⟨R,hR⟩: ∃R,vW g ls 3001 0 ([upto pn.toNat],[0],[0],[0]) []=R:=⟨_,rfl⟩
  have As9:me (pn,ps,g,())=Alq (pn,ps,g,()) R:=by unfold me;rw [rj];exact Fq _ hR
  rw [As9]
  refine Dm.mk (λv=> ∃(k:Nat) (s:EX) (N:List (List Int)),v=((k:Int),pn,ps,g,s.1,s.2.1,aU s.1,s.2.2.1,s.2.2.2,pn,ps,g,N,())/\k<=s.1.length/\Sw (pn,ps,g,()) (upto pn.toNat).length s.1 s.2.1/\s.2.2.1.length=s.1.length/\s.2.2.2.length=s.1.length/\N.length=k/\
    Jn g ls (3001-k) k s.1 s.2.1=Gy g (upto pn.toNat)/\vW g ls (3001-k) k s N=R) (λv=>3001-v.1.toNat)
   ⟨0,([upto pn.toNat],[0],[0],[0]),[],?_,by simp,hb0,rfl,rfl,rfl,tu,hR⟩ ?_
  ·rw [<-vH];rfl
  rintro v ⟨k,s0,N,rfl,h1,h2,h3,h4,h5,h6,h7⟩
  obtain ⟨L0,D0,P0,B0⟩:=s0
  dsimp only at h1 h2 h3 h4 h6 h7⊢
  have ZJ:=h2.ok.nj
  have hD0:=h2.len
  obtain ⟨f,hf⟩: ∃f,3001-k=f+1:=⟨3000-k,by omega⟩
  refine Br.dec (λhl=>?_) λhl=>?_
  ·have hk:k<L0.length:=by omega
   have FK:k<D0.length:=by omega
   have hx: ∀y∈L0[k],0<=y/\y<pn:=h2.row _ (Al hk)
   have hxl:L0[k].length=(upto pn.toNat).length:=h2.ok.len _ (Al hk)
   have hdk:=h2.dep k FK
   have hxe:L0.getD k []=L0[k]:=Tx hk
   have hde:D0.getD k 0=D0[k]:=by rw [Ai,Ac FK];rfl
   have hgo: ∀L' D' ok,Hp g L0[k] D0[k] ls L0 D0=(L',D',ok)->Gy g (upto pn.toNat)=if ok=true then Jn g ls f (k+1) L' D' else (L',D',false):=by
    intro L' D' ok he
    rw [<-h6,hf,Jn,Ab hk,hxe,hde,he]
    cases ok<;>rfl
   obtain ⟨E,hE⟩: ∃E,sN g (k:Int) L0[k] D0[k] ls (L0,D0,P0,B0) []=E:=⟨_,rfl⟩
   have hex:R=vW g ls f (k+1) E.1 (N++ [E.2]):=by
    rw [<-h7,hf,vW,Ab hk]
    dsimp only
    rw [hxe,hde,hE]
   refine ⟨⟨by omega,by omega⟩,L0[k],by rw [Aj,Bo];exact Ac hk,ls.map (λl=>Af L0[k] (Ax g l)),?_,?_⟩
   ·refine (Ab ⟨hv,by show L0[k].length<=20;omega,hx⟩).trans (Fq some ?_)
    show zR g L0[k]=_
    unfold zR
    rw [rj]
   refine ⟨rfl,rfl,rfl,rfl,rfl,rfl,rfl,rfl,rfl,rfl,rfl,rfl,?_⟩
   obtain ⟨nb,hnb⟩: ∃nb,ls.map (λl=>Af L0[k] (Ax g l))=nb:=⟨_,rfl⟩
   have hnl:nb.length=ls.length:=by rw [<-hnb,Ch]
   have hni: ∀i (h:i<ls.length),nb[i]'(by omega)=Af L0[k] (Ax g ls[i]):= λi h=>by simp only [<-hnb,Sx]
   rw [hnb]
   refine Dm.mk (λv=> ∃(i:Nat) (row:List Int) (s:EX),v=((i:Int),pn,ps,g,row,s.1,s.2.1,aU s.1,s.2.2.1,s.2.2.2,pn,ps,g,N,())/\i<=ls.length/\row.length=i/\Sw (pn,ps,g,()) (upto pn.toNat).length s.1 s.2.1/\s.2.2.1.length=s.1.length/\s.2.2.2.length=s.1.length/\
     (∃A,s.1=L0++A)/\(∃A,s.2.1=D0++A)/\Hp g L0[k] D0[k] (ls.drop i) s.1 s.2.1=Hp g L0[k] D0[k] ls L0 D0/\sN g (k:Int) L0[k] D0[k] (ls.drop i) s row=E) (λv=>ls.length-v.1.toNat)
    ⟨0,[],(L0,D0,P0,B0),rfl,Ja _,rfl,h2,h3,h4,⟨[],by simp⟩,⟨[],by simp⟩,rfl,hE⟩ ?_
   rintro v ⟨i,row,s,rfl,g1,g2,g3,g4,g5,⟨A,g6⟩,⟨A',g7⟩,g8,g9⟩
   obtain ⟨L,D,Pa,By⟩:=s
   dsimp only at g3 g4 g5 g6 g7 g8 g9⊢
   have hLf:=g3.ok.nj
   have hDl:=g3.len
   refine Br.dec (λhli=>?_) λhli=>?_
   ·have hi:i<ls.length:=by omega
    have ZX:k<L.length:=by rw [g6,Au];omega
    have ZW:k<D.length:=by rw [hDl];exact ZX
    have hDk:D[k]=D0[k]:=by simp only [g7];exact Lo FK
    have m5:=nz _ (Al hi)
    obtain ⟨nl,nr⟩:=nR hV hx m5
    dsimp only at nl nr
    rw [Gm hi] at g8 g9
    simp only [Hp] at g8
    simp only [sN] at g9
    have hyb:=sZ _ nr
    refine ⟨_,Co (by omega),?_⟩
    rw [hni i hi]
    generalize hyv:Af L0[k] (Ax g ls[i])=yv at*
    refine ⟨Sz yv,Ab (by show short yv;unfold short;rw [nl];omega),?_⟩
    rw [UK hyb λy hy=>sZ _ (g3.row y hy)]
    refine Br.of (λZw=>?_) λZw=>?_
    ·have Zw:yv∉L:= λhm=>by rw [Ab hm] at Zw;simp at Zw
     rw [Ak Zw] at g8 g9
     by_cases Vh:L.length=3000
     ·rw [Ab Vh] at g8
      have:=hgo _ _ _ g8.symm
      rw [Ak (by decide)] at this
      rw [this] at LO
      cases LO
     rw [Ak Vh] at g8
     refine ⟨_,Ab trivial,rfl,rfl,?_,⟨by omega,by omega⟩,D0[k],?_,rfl,rfl,?_,rfl,rfl,?_,_,Co hi,rfl,rfl,?_,rfl,rfl,?_,rfl,rfl,rfl,rfl,rfl,rfl,rfl,rfl,rfl,rfl,rfl,rfl,?_⟩
     ·show L.length+1<=4294967296;omega
     ·rw [Aj,Bo,Ac ZW,hDk]
     ·show D.length+1<=4294967296;omega
     ·show Pa.length+1<=4294967296;omega
     ·show By.length+1<=4294967296;omega
     ·show row.length+1<=4294967296;omega
     ·dsimp only
      rw [Dk L,Df (n:=D0[k]+1) (by omega) (by omega),Bm (by omega),xO hyb (λy hy=>sZ _ (g3.row y hy)) Zw]
      refine ⟨⟨i+1,row++ [(L.length:Int)],(L++ [yv],D++ [D0[k]+1],Pa++ [(k:Int)],By++ [ls[i]]),rfl,hi,by rw [Au,g2];rfl,g3.add Zw (by rw [nl,hxl]) (by omega) nr ⟨by omega,by omega⟩,?_,?_,⟨A++ [yv],by rw [g6,Ct]⟩,⟨A'++ [D0[k]+1],by rw [g7,Ct]⟩,g8,g9⟩,by omega⟩
      ·simp [g4]
      ·simp [g5]
    ·have Zw:yv∈L:=Bk λhm=>by rw [Ak hm] at Zw;simp at Zw
     rw [Ab Zw] at g8 g9
     rw [Ab Zw]
     refine ⟨rfl,rfl,?_,rfl,rfl,rfl,rfl,rfl,rfl,rfl,rfl,rfl,rfl,rfl,rfl,?_⟩
     ·show row.length+1<=4294967296;omega
     ·rw [Bm (by omega)]
      exact ⟨⟨i+1,row++ [(L.idxOf yv:Int)],(L,D,Pa,By),rfl,hi,by rw [Au,g2];rfl,g3,g4,g5,⟨A,g6⟩,⟨A',g7⟩,g8,g9⟩,by omega⟩
   ·have:i=ls.length:=by omega
    subst this
    rw [Pb,Hp] at g8
    rw [Pb,sN] at g9
    have:=hgo _ _ _ g8.symm
    rw [Ab rfl] at this
    rw [Dk row,Bm (by omega)]
    refine ⟨rfl,rfl,?_,rfl,rfl,rfl,rfl,rfl,rfl,rfl,rfl,rfl,rfl,⟨k+1,(L,D,Pa,By),N++ [row],rfl,by rw [g6,Au];omega,g3,g4,g5,by rw [Au,h5];rfl,?_,?_⟩,by omega⟩
    ·show N.length+1<=4294967296;omega
    ·rw [show 3001-(k+1)=f by omega]
     exact this.symm
    ·rw [show 3001-(k+1)=f by omega,hex,<-g9]
  ·have hk:k=L0.length:=by omega
   rw [hf,vW,Ak (by show ¬k<L0.length;omega)] at h7
   subst h7
   simp only [Ea,Ay]
   rfl
 ·have LU:Il.fn (upto pn.toNat,())=some (Sz (upto pn.toNat)):=Ab (by show short (upto pn.toNat);unfold short;omega)
  repeat' (first|exact ⟨rfl,rfl⟩|refine ⟨_,LU,?_⟩|refine ⟨?_,?_⟩)
theorem wL:Sound Tryz.prog 92 Vo:=
 Sound.Gt Dt (Av pO (Av Su (Av au (Av jx (Av dE (Av IL (Av jv Bp))))))) mixed Tryz.func92 (by kernel_rfl) (by kernel_rfl) λx h=>VC x.1 h
noncomputable def Ba (p:PP):List (List Int):=(Gy p.2.2.1 (upto p.1.toNat)).1
noncomputable def Hj (p:PP):List Int:=(Gy p.2.2.1 (upto p.1.toNat)).2.1
noncomputable def Zk (p:PP) (s:List Int):Bool:=Gl p&&decide (s∈Ba p)
def SE (goal s:List Int):Bool:=List.all goal λx=>decide (Hi s x=x)
noncomputable def Fa (p:PP):SS×Bool×Unit:=if Cb p=true then (Ou p.2.2.1 (upto p.1.toNat),Gl p,()) else (([],[],[],false,()),false,())
noncomputable abbrev Yw:Spec:=Gt (.pair Ix .unit) (.pair dg (.pair .bool .unit)) true false (λx=>Gw x.1) (λx=>Fa x.1)
noncomputable def Sn (p:PP) (t q:List Int):Bool:=Di p t&&mc p.1 q (t.length:Int)
noncomputable abbrev Oj:Spec:=Gt (.pair Ix (.pair tL (.pair tL .unit))) .bool false true (λx=>Gw x.1/\short x.2.1/\short x.2.2.1) (λx=>Sn x.1 x.2.1 x.2.2.1)
noncomputable def pe (p:PP) (t q:List Int):Int:=if (Gl p&&Sn p t q)=true then (((Ba p).countP λs=>decide (Bv s t=q):Nat):Int) else-1
noncomputable abbrev Yx:Spec:=Gt (.pair Ix (.pair tL (.pair tL .unit))) tI false true (λx=>Gw x.1/\short x.2.1/\short x.2.2.1) (λx=>pe x.1 x.2.1 x.2.2.1)
noncomputable abbrev Nk:Spec:=Gt (.pair tL (.pair tL .unit)) tL false true (λx=>short x.2.1/\Lq (List.length x.1) x.2.1) (λx=>Bv x.1 x.2.1)
abbrev Ek:Type:=List (List Int)×List Int×List Int×Bool×PUnit
theorem QG (p:Int×ByteArray×List (List Int)×Unit) (P:((List (List Int)×List Int×List Int×Bool×Unit)×Bool×Unit)->Prop):(∃(y2:Bool),Ig.fn ((p.1,p.2.1,p.2.2.1,()),())=some y2/\Br (!y2) (P ((List.take 0 (List.drop 0 []),List.take 0 (List.drop 0 []),List.take 0 (List.drop 0 []),false,()),false,())) (((((∃(y3:List Int),Dp.fn (p.1,())=some y3/\(∃(y4:Ek),Ht.fn ((p.1,p.2.1,p.2.2.1,()),y3,())=some y4/\((P ((y4.1,y4.2.1,y4.2.2.1,y4.2.2.2.1,()),y4.2.2.2.1,())/\P ((y4.1,y4.2.1,y4.2.2.1,y4.2.2.2.1,()),y4.2.2.2.1,()))/\P ((y4.1,y4.2.1,y4.2.2.1,y4.2.2.2.1,()),y4.2.2.2.1,()))/\(P ((y4.1,y4.2.1,y4.2.2.1,y4.2.2.2.1,()),y4.2.2.2.1,())/\P ((y4.1,y4.2.1,y4.2.2.1,y4.2.2.2.1,()),y4.2.2.2.1,()))/\P ((y4.1,y4.2.1,y4.2.2.1,y4.2.2.2.1,()),y4.2.2.2.1,()))/\ ∃(y4:Ek),Ht.fn ((p.1,p.2.1,p.2.2.1,()),y3,())=some y4/\((P ((y4.1,y4.2.1,y4.2.2.1,y4.2.2.2.1,()),y4.2.2.2.1,())/\P ((y4.1,y4.2.1,y4.2.2.1,y4.2.2.2.1,()),y4.2.2.2.1,()))/\P ((y4.1,y4.2.1,y4.2.2.1,y4.2.2.2.1,()),y4.2.2.2.1,()))/\(P ((y4.1,y4.2.1,y4.2.2.1,y4.2.2.2.1,()),y4.2.2.2.1,())/\P ((y4.1,y4.2.1,y4.2.2.1,y4.2.2.2.1,()),y4.2.2.2.1,()))/\P ((y4.1,y4.2.1,y4.2.2.1,y4.2.2.2.1,()),y4.2.2.2.1,()))/\ ∃(y3:List Int),Dp.fn (p.1,())=some y3/\ ∃(y4:Ek),Ht.fn ((p.1,p.2.1,p.2.2.1,()),y3,())=some y4/\((P ((y4.1,y4.2.1,y4.2.2.1,y4.2.2.2.1,()),y4.2.2.2.1,())/\P ((y4.1,y4.2.1,y4.2.2.1,y4.2.2.2.1,()),y4.2.2.2.1,()))/\P ((y4.1,y4.2.1,y4.2.2.1,y4.2.2.2.1,()),y4.2.2.2.1,()))/\(P ((y4.1,y4.2.1,y4.2.2.1,y4.2.2.2.1,()),y4.2.2.2.1,())/\P ((y4.1,y4.2.1,y4.2.2.1,y4.2.2.2.1,()),y4.2.2.2.1,()))/\P ((y4.1,y4.2.1,y4.2.2.1,y4.2.2.2.1,()),y4.2.2.2.1,()))/\ ∃(y3:List Int),Dp.fn (p.1,())=some y3/\ ∃(y4:Ek),Ht.fn ((p.1,p.2.1,p.2.2.1,()),y3,())=some y4/\((P ((y4.1,y4.2.1,y4.2.2.1,y4.2.2.2.1,()),y4.2.2.2.1,())/\P ((y4.1,y4.2.1,y4.2.2.1,y4.2.2.2.1,()),y4.2.2.2.1,()))/\P ((y4.1,y4.2.1,y4.2.2.1,y4.2.2.2.1,()),y4.2.2.2.1,()))/\(P ((y4.1,y4.2.1,y4.2.2.1,y4.2.2.2.1,()),y4.2.2.2.1,())/\P ((y4.1,y4.2.1,y4.2.2.1,y4.2.2.2.1,()),y4.2.2.2.1,()))/\P ((y4.1,y4.2.1,y4.2.2.1,y4.2.2.2.1,()),y4.2.2.2.1,()))/\ ∃(y3:List Int),Dp.fn (p.1,())=some y3/\ ∃(y4:Ek),Ht.fn ((p.1,p.2.1,p.2.2.1,()),y3,())=some y4/\((P ((y4.1,y4.2.1,y4.2.2.1,y4.2.2.2.1,()),y4.2.2.2.1,())/\P ((y4.1,y4.2.1,y4.2.2.1,y4.2.2.2.1,()),y4.2.2.2.1,()))/\P ((y4.1,y4.2.1,y4.2.2.1,y4.2.2.2.1,()),y4.2.2.2.1,()))/\(P ((y4.1,y4.2.1,y4.2.2.1,y4.2.2.2.1,()),y4.2.2.2.1,())/\P ((y4.1,y4.2.1,y4.2.2.1,y4.2.2.2.1,()),y4.2.2.2.1,()))/\P ((y4.1,y4.2.1,y4.2.2.1,y4.2.2.2.1,()),y4.2.2.2.1,()))/\((((∃(y3:List Int),Dp.fn (p.1,())=some y3/\(∃(y4:Ek),Ht.fn ((p.1,p.2.1,p.2.2.1,()),y3,())=some y4/\((P ((y4.1,y4.2.1,y4.2.2.1,y4.2.2.2.1,()),y4.2.2.2.1,())/\P ((y4.1,y4.2.1,y4.2.2.1,y4.2.2.2.1,()),y4.2.2.2.1,()))/\P ((y4.1,y4.2.1,y4.2.2.1,y4.2.2.2.1,()),y4.2.2.2.1,()))/\(P ((y4.1,y4.2.1,y4.2.2.1,y4.2.2.2.1,()),y4.2.2.2.1,())/\P ((y4.1,y4.2.1,y4.2.2.1,y4.2.2.2.1,()),y4.2.2.2.1,()))/\P ((y4.1,y4.2.1,y4.2.2.1,y4.2.2.2.1,()),y4.2.2.2.1,()))/\ ∃(y4:Ek),Ht.fn ((p.1,p.2.1,p.2.2.1,()),y3,())=some y4/\((P ((y4.1,y4.2.1,y4.2.2.1,y4.2.2.2.1,()),y4.2.2.2.1,())/\P ((y4.1,y4.2.1,y4.2.2.1,y4.2.2.2.1,()),y4.2.2.2.1,()))/\P ((y4.1,y4.2.1,y4.2.2.1,y4.2.2.2.1,()),y4.2.2.2.1,()))/\(P ((y4.1,y4.2.1,y4.2.2.1,y4.2.2.2.1,()),y4.2.2.2.1,())/\P ((y4.1,y4.2.1,y4.2.2.1,y4.2.2.2.1,()),y4.2.2.2.1,()))/\P ((y4.1,y4.2.1,y4.2.2.1,y4.2.2.2.1,()),y4.2.2.2.1,()))/\ ∃(y3:List Int),Dp.fn (p.1,())=some y3/\ ∃(y4:Ek),Ht.fn ((p.1,p.2.1,p.2.2.1,()),y3,())=some y4/\((P ((y4.1,y4.2.1,y4.2.2.1,y4.2.2.2.1,()),y4.2.2.2.1,())/\P ((y4.1,y4.2.1,y4.2.2.1,y4.2.2.2.1,()),y4.2.2.2.1,()))/\P ((y4.1,y4.2.1,y4.2.2.1,y4.2.2.2.1,()),y4.2.2.2.1,()))/\(P ((y4.1,y4.2.1,y4.2.2.1,y4.2.2.2.1,()),y4.2.2.2.1,())/\P ((y4.1,y4.2.1,y4.2.2.1,y4.2.2.2.1,()),y4.2.2.2.1,()))/\P ((y4.1,y4.2.1,y4.2.2.1,y4.2.2.2.1,()),y4.2.2.2.1,()))/\ ∃(y3:List Int),Dp.fn (p.1,())=some y3/\ ∃(y4:Ek),Ht.fn ((p.1,p.2.1,p.2.2.1,()),y3,())=some y4/\((P ((y4.1,y4.2.1,y4.2.2.1,y4.2.2.2.1,()),y4.2.2.2.1,())/\P ((y4.1,y4.2.1,y4.2.2.1,y4.2.2.2.1,()),y4.2.2.2.1,()))/\P ((y4.1,y4.2.1,y4.2.2.1,y4.2.2.2.1,()),y4.2.2.2.1,()))/\(P ((y4.1,y4.2.1,y4.2.2.1,y4.2.2.2.1,()),y4.2.2.2.1,())/\P ((y4.1,y4.2.1,y4.2.2.1,y4.2.2.2.1,()),y4.2.2.2.1,()))/\P ((y4.1,y4.2.1,y4.2.2.1,y4.2.2.2.1,()),y4.2.2.2.1,()))/\(((∃(y3:List Int),Dp.fn (p.1,())=some y3/\(∃(y4:Ek),Ht.fn ((p.1,p.2.1,p.2.2.1,()),y3,())=some y4/\((P ((y4.1,y4.2.1,y4.2.2.1,y4.2.2.2.1,()),y4.2.2.2.1,())/\P ((y4.1,y4.2.1,y4.2.2.1,y4.2.2.2.1,()),y4.2.2.2.1,()))/\P ((y4.1,y4.2.1,y4.2.2.1,y4.2.2.2.1,()),y4.2.2.2.1,()))/\(P ((y4.1,y4.2.1,y4.2.2.1,y4.2.2.2.1,()),y4.2.2.2.1,())/\P ((y4.1,y4.2.1,y4.2.2.1,y4.2.2.2.1,()),y4.2.2.2.1,()))/\P ((y4.1,y4.2.1,y4.2.2.1,y4.2.2.2.1,()),y4.2.2.2.1,()))/\ ∃(y4:Ek),Ht.fn ((p.1,p.2.1,p.2.2.1,()),y3,())=some y4/\((P ((y4.1,y4.2.1,y4.2.2.1,y4.2.2.2.1,()),y4.2.2.2.1,())/\P ((y4.1,y4.2.1,y4.2.2.1,y4.2.2.2.1,()),y4.2.2.2.1,()))/\P ((y4.1,y4.2.1,y4.2.2.1,y4.2.2.2.1,()),y4.2.2.2.1,()))/\(P ((y4.1,y4.2.1,y4.2.2.1,y4.2.2.2.1,()),y4.2.2.2.1,())/\P ((y4.1,y4.2.1,y4.2.2.1,y4.2.2.2.1,()),y4.2.2.2.1,()))/\P ((y4.1,y4.2.1,y4.2.2.1,y4.2.2.2.1,()),y4.2.2.2.1,()))/\ ∃(y3:List Int),Dp.fn (p.1,())=some y3/\ ∃(y4:Ek),Ht.fn ((p.1,p.2.1,p.2.2.1,()),y3,())=some y4/\((P ((y4.1,y4.2.1,y4.2.2.1,y4.2.2.2.1,()),y4.2.2.2.1,())/\P ((y4.1,y4.2.1,y4.2.2.1,y4.2.2.2.1,()),y4.2.2.2.1,()))/\P ((y4.1,y4.2.1,y4.2.2.1,y4.2.2.2.1,()),y4.2.2.2.1,()))/\(P ((y4.1,y4.2.1,y4.2.2.1,y4.2.2.2.1,()),y4.2.2.2.1,())/\P ((y4.1,y4.2.1,y4.2.2.1,y4.2.2.2.1,()),y4.2.2.2.1,()))/\P ((y4.1,y4.2.1,y4.2.2.1,y4.2.2.2.1,()),y4.2.2.2.1,()))/\(∃(y3:List Int),Dp.fn (p.1,())=some y3/\((∃(y4:Ek),Ht.fn ((p.1,p.2.1,p.2.2.1,()),y3,())=some y4/\((P ((y4.1,y4.2.1,y4.2.2.1,y4.2.2.2.1,()),y4.2.2.2.1,())/\P ((y4.1,y4.2.1,y4.2.2.1,y4.2.2.2.1,()),y4.2.2.2.1,()))/\P ((y4.1,y4.2.1,y4.2.2.1,y4.2.2.2.1,()),y4.2.2.2.1,()))/\(P ((y4.1,y4.2.1,y4.2.2.1,y4.2.2.2.1,()),y4.2.2.2.1,())/\P ((y4.1,y4.2.1,y4.2.2.1,y4.2.2.2.1,()),y4.2.2.2.1,()))/\P ((y4.1,y4.2.1,y4.2.2.1,y4.2.2.2.1,()),y4.2.2.2.1,()))/\ ∃(y4:Ek),Ht.fn ((p.1,p.2.1,p.2.2.1,()),y3,())=some y4/\((P ((y4.1,y4.2.1,y4.2.2.1,y4.2.2.2.1,()),y4.2.2.2.1,())/\P ((y4.1,y4.2.1,y4.2.2.1,y4.2.2.2.1,()),y4.2.2.2.1,()))/\P ((y4.1,y4.2.1,y4.2.2.1,y4.2.2.2.1,()),y4.2.2.2.1,()))/\(P ((y4.1,y4.2.1,y4.2.2.1,y4.2.2.2.1,()),y4.2.2.2.1,())/\P ((y4.1,y4.2.1,y4.2.2.1,y4.2.2.2.1,()),y4.2.2.2.1,()))/\P ((y4.1,y4.2.1,y4.2.2.1,y4.2.2.2.1,()),y4.2.2.2.1,()))/\ ∃(y4:Ek),Ht.fn ((p.1,p.2.1,p.2.2.1,()),y3,())=some y4/\((P ((y4.1,y4.2.1,y4.2.2.1,y4.2.2.2.1,()),y4.2.2.2.1,())/\P ((y4.1,y4.2.1,y4.2.2.1,y4.2.2.2.1,()),y4.2.2.2.1,()))/\P ((y4.1,y4.2.1,y4.2.2.1,y4.2.2.2.1,()),y4.2.2.2.1,()))/\(P ((y4.1,y4.2.1,y4.2.2.1,y4.2.2.2.1,()),y4.2.2.2.1,())/\P ((y4.1,y4.2.1,y4.2.2.1,y4.2.2.2.1,()),y4.2.2.2.1,()))/\P ((y4.1,y4.2.1,y4.2.2.1,y4.2.2.2.1,()),y4.2.2.2.1,()))/\(∃(y3:List Int),Dp.fn (p.1,())=some y3/\ ∃(y4:Ek),Ht.fn ((p.1,p.2.1,p.2.2.1,()),y3,())=some y4/\((P ((y4.1,y4.2.1,y4.2.2.1,y4.2.2.2.1,()),y4.2.2.2.1,())/\P ((y4.1,y4.2.1,y4.2.2.1,y4.2.2.2.1,()),y4.2.2.2.1,()))/\P ((y4.1,y4.2.1,y4.2.2.1,y4.2.2.2.1,()),y4.2.2.2.1,()))/\(P ((y4.1,y4.2.1,y4.2.2.1,y4.2.2.2.1,()),y4.2.2.2.1,())/\P ((y4.1,y4.2.1,y4.2.2.1,y4.2.2.2.1,()),y4.2.2.2.1,()))/\P ((y4.1,y4.2.1,y4.2.2.1,y4.2.2.2.1,()),y4.2.2.2.1,()))/\ ∃(y3:List Int),Dp.fn (p.1,())=some y3/\ ∃(y4:Ek),Ht.fn ((p.1,p.2.1,p.2.2.1,()),y3,())=some y4/\((P ((y4.1,y4.2.1,y4.2.2.1,y4.2.2.2.1,()),y4.2.2.2.1,())/\P ((y4.1,y4.2.1,y4.2.2.1,y4.2.2.2.1,()),y4.2.2.2.1,()))/\P ((y4.1,y4.2.1,y4.2.2.1,y4.2.2.2.1,()),y4.2.2.2.1,()))/\(P ((y4.1,y4.2.1,y4.2.2.1,y4.2.2.2.1,()),y4.2.2.2.1,())/\P ((y4.1,y4.2.1,y4.2.2.1,y4.2.2.2.1,()),y4.2.2.2.1,()))/\P ((y4.1,y4.2.1,y4.2.2.1,y4.2.2.2.1,()),y4.2.2.2.1,()))/\(∃(y3:List Int),Dp.fn (p.1,())=some y3/\ ∃(y4:Ek),Ht.fn ((p.1,p.2.1,p.2.2.1,()),y3,())=some y4/\((P ((y4.1,y4.2.1,y4.2.2.1,y4.2.2.2.1,()),y4.2.2.2.1,())/\P ((y4.1,y4.2.1,y4.2.2.1,y4.2.2.2.1,()),y4.2.2.2.1,()))/\P ((y4.1,y4.2.1,y4.2.2.1,y4.2.2.2.1,()),y4.2.2.2.1,()))/\(P ((y4.1,y4.2.1,y4.2.2.1,y4.2.2.2.1,()),y4.2.2.2.1,())/\P ((y4.1,y4.2.1,y4.2.2.1,y4.2.2.2.1,()),y4.2.2.2.1,()))/\P ((y4.1,y4.2.1,y4.2.2.1,y4.2.2.2.1,()),y4.2.2.2.1,()))/\(∃(y3:List Int),Dp.fn (p.1,())=some y3/\ ∃(y4:Ek),Ht.fn ((p.1,p.2.1,p.2.2.1,()),y3,())=some y4/\((P ((y4.1,y4.2.1,y4.2.2.1,y4.2.2.2.1,()),y4.2.2.2.1,())/\P ((y4.1,y4.2.1,y4.2.2.1,y4.2.2.2.1,()),y4.2.2.2.1,()))/\P ((y4.1,y4.2.1,y4.2.2.1,y4.2.2.2.1,()),y4.2.2.2.1,()))/\(P ((y4.1,y4.2.1,y4.2.2.1,y4.2.2.2.1,()),y4.2.2.2.1,())/\P ((y4.1,y4.2.1,y4.2.2.1,y4.2.2.2.1,()),y4.2.2.2.1,()))/\P ((y4.1,y4.2.1,y4.2.2.1,y4.2.2.2.1,()),y4.2.2.2.1,()))/\ ∃(y3:List Int),Dp.fn (p.1,())=some y3/\ ∃(y4:Ek),Ht.fn ((p.1,p.2.1,p.2.2.1,()),y3,())=some y4/\((P ((y4.1,y4.2.1,y4.2.2.1,y4.2.2.2.1,()),y4.2.2.2.1,())/\P ((y4.1,y4.2.1,y4.2.2.1,y4.2.2.2.1,()),y4.2.2.2.1,()))/\P ((y4.1,y4.2.1,y4.2.2.1,y4.2.2.2.1,()),y4.2.2.2.1,()))/\(P ((y4.1,y4.2.1,y4.2.2.1,y4.2.2.2.1,()),y4.2.2.2.1,())/\P ((y4.1,y4.2.1,y4.2.2.1,y4.2.2.2.1,()),y4.2.2.2.1,()))/\P ((y4.1,y4.2.1,y4.2.2.1,y4.2.2.2.1,()),y4.2.2.2.1,()))/\(∃(y3:List Int),Dp.fn (p.1,())=some y3/\ ∃(y4:Ek),Ht.fn ((p.1,p.2.1,p.2.2.1,()),y3,())=some y4/\((P ((y4.1,y4.2.1,y4.2.2.1,y4.2.2.2.1,()),y4.2.2.2.1,())/\P ((y4.1,y4.2.1,y4.2.2.1,y4.2.2.2.1,()),y4.2.2.2.1,()))/\P ((y4.1,y4.2.1,y4.2.2.1,y4.2.2.2.1,()),y4.2.2.2.1,()))/\(P ((y4.1,y4.2.1,y4.2.2.1,y4.2.2.2.1,()),y4.2.2.2.1,())/\P ((y4.1,y4.2.1,y4.2.2.1,y4.2.2.2.1,()),y4.2.2.2.1,()))/\P ((y4.1,y4.2.1,y4.2.2.1,y4.2.2.2.1,()),y4.2.2.2.1,()))/\(∃(y3:List Int),Dp.fn (p.1,())=some y3/\ ∃(y4:Ek),Ht.fn ((p.1,p.2.1,p.2.2.1,()),y3,())=some y4/\((P ((y4.1,y4.2.1,y4.2.2.1,y4.2.2.2.1,()),y4.2.2.2.1,())/\P ((y4.1,y4.2.1,y4.2.2.1,y4.2.2.2.1,()),y4.2.2.2.1,()))/\P ((y4.1,y4.2.1,y4.2.2.1,y4.2.2.2.1,()),y4.2.2.2.1,()))/\(P ((y4.1,y4.2.1,y4.2.2.1,y4.2.2.2.1,()),y4.2.2.2.1,())/\P ((y4.1,y4.2.1,y4.2.2.1,y4.2.2.2.1,()),y4.2.2.2.1,()))/\P ((y4.1,y4.2.1,y4.2.2.1,y4.2.2.2.1,()),y4.2.2.2.1,()))/\(∃(y3:List Int),Dp.fn (p.1,())=some y3/\ ∃(y4:Ek),Ht.fn ((p.1,p.2.1,p.2.2.1,()),y3,())=some y4/\((P ((y4.1,y4.2.1,y4.2.2.1,y4.2.2.2.1,()),y4.2.2.2.1,())/\P ((y4.1,y4.2.1,y4.2.2.1,y4.2.2.2.1,()),y4.2.2.2.1,()))/\P ((y4.1,y4.2.1,y4.2.2.1,y4.2.2.2.1,()),y4.2.2.2.1,()))/\(P ((y4.1,y4.2.1,y4.2.2.1,y4.2.2.2.1,()),y4.2.2.2.1,())/\P ((y4.1,y4.2.1,y4.2.2.1,y4.2.2.2.1,()),y4.2.2.2.1,()))/\P ((y4.1,y4.2.1,y4.2.2.1,y4.2.2.2.1,()),y4.2.2.2.1,()))/\ ∃(y3:List Int),Dp.fn (p.1,())=some y3/\ ∃(y4:Ek),Ht.fn ((p.1,p.2.1,p.2.2.1,()),y3,())=some y4/\((P ((y4.1,y4.2.1,y4.2.2.1,y4.2.2.2.1,()),y4.2.2.2.1,())/\P ((y4.1,y4.2.1,y4.2.2.1,y4.2.2.2.1,()),y4.2.2.2.1,()))/\P ((y4.1,y4.2.1,y4.2.2.1,y4.2.2.2.1,()),y4.2.2.2.1,()))/\(P ((y4.1,y4.2.1,y4.2.2.1,y4.2.2.2.1,()),y4.2.2.2.1,())/\P ((y4.1,y4.2.1,y4.2.2.1,y4.2.2.2.1,()),y4.2.2.2.1,()))/\P ((y4.1,y4.2.1,y4.2.2.1,y4.2.2.2.1,()),y4.2.2.2.1,())))=fnW Gb (look [(63,Ig),(96,Dp),(126,Ht)]) Yw Tryz.f114 (p,()) P:=by kernel_rfl
theorem JL (p:Int×ByteArray×List (List Int)×Unit) (t q:List Int) (P:Bool->Prop):(∃(y4:Bool),Fy.fn ((p.1,p.2.1,p.2.2.1,()),t,())=some y4/\Br y4 (∃(y5:Bool),Vp.fn (p.1,(↑t.length:Int),q,())=some y5/\P y5) (P false))=fnW Gb (look [(77,Fy),(85,Vp)]) Oj Tryz.f36 (p,t,q,()) P:=by kernel_rfl
theorem XQ (xs is:List Int) (P:List Int->Prop):(((0:Int)<=(↑is.length:Int)/\(↑is.length:Int)<(↑Db:Int)+(1:Int))/\(↑is.length:Int)=(↑is.length:Int)/\0=0/\(List.replicate (↑is.length:Int).toNat (Int.ofNat (nat_lit 0))).length=(List.replicate (↑is.length:Int).toNat (Int.ofNat (nat_lit 0))).length/\Dm (λ(v3:Int×List Int×PUnit) (k4:Int×List Int×PUnit->Prop)=>Br (decide (v3.1<(↑is.length:Int))) (∃(y5:Int),idx is v3.1=some y5/\ ∃(y6:Int),idx xs y5=some y6/\((0:Int)<=v3.1/\v3.1<(↑v3.2.1.length:Int))/\0+v3.1.toNat<v3.2.1.length/\0=0/\v3.2.1.length=(v3.2.1.set (0+v3.1.toNat) y6).length/\k4 (IntKind.i64.wrap (v3.1+(1:Int)),v3.2.1.set (0+v3.1.toNat) y6,())) (P (List.take v3.2.1.length (List.drop 0 v3.2.1)))) ((0:Int),List.replicate (↑is.length:Int).toNat (Int.ofNat (nat_lit 0)),PUnit.unit))=fnW Gb (look []) Nk Tryz.f79 (xs,is,()) P:=by kernel_rfl
theorem lB (p:Int×ByteArray×List (List Int)×Unit) (t q:List Int) (P:Int->Prop):(∃(y4:Option ((Int×ByteArray×List (List Int)×PUnit)×List (List Int)×List Int×(ByteArray->Option Int)×List Int×List Int×List (List Int)×PUnit)×Bool×PUnit),Vo.fn ((p.1,p.2.1,p.2.2.1,()),())=some y4/\Br (!y4.2.1) (P (-1:Int)) (∃(y5:Bool),Oj.fn ((p.1,p.2.1,p.2.2.1,()),t,q,())=some y5/\Br (!y5) (P (-1:Int)) (∃(y6:(Int×ByteArray×List (List Int)×PUnit)×List (List Int)×List Int×(ByteArray->Option Int)×List Int×List Int×List (List Int)×PUnit),y4.1=some y6/\Dm (λ(v7:Int×Int×PUnit) (k8:Int×Int×PUnit->Prop)=>Br (decide (v7.2.1<(↑y6.2.1.length:Int))) (∃(y9:List Int),idx y6.2.1 v7.2.1=some y9/\ ∃(cq:List Int),Nk.fn (y9,t,())=some cq/\ ∃(Xp:Bool),Ik.fn (cq,q,())=some Xp/\Br Xp (k8 (IntKind.i64.wrap (v7.1+(1:Int)),IntKind.i64.wrap (v7.2.1+(1:Int)),())) (k8 (v7.1,IntKind.i64.wrap (v7.2.1+(1:Int)),()))) (P v7.1)) ((0:Int),(0:Int),PUnit.unit))))=fnW Gb (look [(92,Vo),(36,Oj),(79,Nk),(93,Ik)]) Yx Tryz.f40 (p,t,q,()) P:=by kernel_rfl
theorem xJ {p:List Int} (h:bA p):Jy p=true:=by
 refine Gi.2 ⟨h.pos,h.len,λj h1 h2=>?_⟩
 have:=h.row _ (Al h2)
 exact ⟨by omega,by omega,λhm=>by
  obtain ⟨i,hi,e⟩:=Bh.1 hm
  have kZ:i<j:=by rw [Dc] at hi;omega
  rw [List.getElem_take] at e
  exact (Ds.1 h.nodup i j (by omega) h2 kZ) e⟩
theorem Fl {p:PP} (hw:Gl p=true):Cb p=true/\(Gy p.2.2.1 (upto p.1.toNat)).2.2=true:=Bc.1 hw
theorem pP {p:PP} (hv:Cb p=true):Sw p p.1.toNat (Ba p) (Hj p):=(bZ hv).ok
theorem ZH {p:PP} (hV:Valid p):DB p.1.toNat λg=>some g∈p.2.2.1.map some:=
 ⟨by have:=hV.n;omega,λg Se=>by obtain ⟨g',e,h⟩:=jb (iB hV).2.2 _ Se;cases e;exact h⟩
theorem Wz {p:PP} (hv:Cb p=true) {x:List Int} (hx:x∈Ba p):Pm p.1.toNat x:=cz.pm (ZH (valid hv)) ((bZ hv).gen x hx)
theorem AN {p:PP} (hV:Valid p) {x:List Int} (h:Pm p.1.toNat x):Hm p.1 x=true:=by
 have:=hV.n
 have:=h.1
 exact Gi.2 ⟨by omega,xJ h.2⟩
theorem Ai8 {p:PP} (_hV:Valid p) {x:List Int} (h:Hm p.1 x=true):Pm p.1.toNat x:=by
 obtain ⟨h1,h2⟩:=Gi.1 h
 exact ⟨by omega,dA h2⟩
theorem Akc {p:PP} (hv:Cb p=true) {x:List Int} (hx:x∈Ba p):Hm p.1 x=true:=AN (valid hv) (Wz hv hx)
theorem nV {n:Nat} {x:List Int} (h:Pm n x):short x:=by
 have h1:=h.1
 have:=h.n2
 unfold short;omega
theorem Ae2 {p:PP} (hw:Gl p=true):(me p).2.1=Ba p/\(me p).2.2.1=Hj p:=by
 have h:=(Fl hw).2
 refine ER 3001 0 ([upto p.1.toNat],[0],[0],[0]) [] _ _ ?_
 show Jn p.2.2.1 (Ca p.2.2.1.length) 3001 0 [upto p.1.toNat] [0]=(Ba p,Hj p,true)
 rw [<-h]
 rfl
theorem TW {p:PP} {s:List Int} :Zk p s=true↔Gl p=true/\s∈Ba p:=by
 unfold Zk;rw [Ag,Jf]
theorem NW (p:PP) (h:Gw p):fnW Gb (look [(63,Ig),(96,Dp),(126,Ht)]) Yw Tryz.f114 (p,()) (λ(z:SS×Bool×Unit)=>z=Fa p):=by
 refine Eq.mp (QG p _) ⟨_,Ab h,?_⟩
 show Br (!Cb p) _ _
 unfold Fa
 by_cases hv:Cb p=true
 ·rw [Ab hv,hv]
  refine ⟨λhb=>by simp at hb,λ_=>?_⟩
  have hn:=(valid hv).n
  have RL:Dp.fn (p.1,())=some (upto p.1.toNat):=Ab ⟨by show 0<=p.1;omega,by show p.1<=20;omega⟩
  have vL: ∀y∈upto p.1.toNat,0<=y/\y<p.1:= λy hy=>by have:=Lt.1 hy;omega
  have zp:Ht.fn ((p.1,p.2.1,p.2.2.1,()),upto p.1.toNat,())=some (Ou p.2.2.1 (upto p.1.toNat)):=Ab ⟨hv,by show (upto p.1.toNat).length<=20;rw [Mu];omega,vL⟩
  have hz:(((Ou p.2.2.1 (upto p.1.toNat)).1,(Ou p.2.2.1 (upto p.1.toNat)).2.1,(Ou p.2.2.1 (upto p.1.toNat)).2.2.1,(Ou p.2.2.1 (upto p.1.toNat)).2.2.2.1,()),(Ou p.2.2.1 (upto p.1.toNat)).2.2.2.1,())=(Ou p.2.2.1 (upto p.1.toNat),Gl p,()):=by
   unfold Gl
   rw [hv,Pd]
   rfl
  repeat' (first|exact hz|refine ⟨_,RL,?_⟩|refine ⟨_,zp,?_⟩|refine ⟨?_,?_⟩)
 ·rw [Ak hv]
  refine ⟨λ_=>rfl,λhb=>?_⟩
  exact absurd (by simpa using hb) hv
theorem uZ:Sound Tryz.prog 114 Yw:=
 Sound.Gt Dt (Av Ss (Av Wv (Av IN Bp))) mixed Tryz.func114 (by kernel_rfl) (by kernel_rfl) λx h=>NW x.1 h
theorem sH {a b:List Int} :Me a b=true↔a=b:=Jf
theorem qa {α:Type} (q:α->Bool) (xs:List α) {j:Nat} (h:j<xs.length):(xs.take (j+1)).countP q=(xs.take j).countP q+if q xs[j]=true then 1 else 0:=by
 rw [Ia,Ac h,List.countP_append]
 simp [eU]
theorem za {α:Type} (q:α->Bool) (xs:List α) (j:Nat):(xs.take j).countP q<=xs.length:=
 Ib List.countP_le_length (by rw [Dc];omega)
theorem XA {p:PP} {t:List Int} (h:Di p t=true):nOK p.1:=by
 have:=(valid (Nv.1 h).1).n
 unfold nOK;omega
theorem HL (p:PP) (t q:List Int) (h:Gw p/\short t/\short q):fnW Gb (look [(77,Fy),(85,Vp)]) Oj Tryz.f36 (p,t,q,()) (λ(z:Bool)=>z=Sn p t q):=by
 refine Eq.mp (JL p t q _) ⟨_,Ab ⟨h.1,h.2.1⟩,?_⟩
 unfold Sn
 refine Br.of (λht=>?_) λht=>?_
 ·have ht:Di p t=true:=ht
  rw [ht,Pd]
  exact ⟨_,Ab ⟨XA ht,h.2.2⟩,rfl⟩
 ·have ht:Di p t=false:=ht
  rw [ht,Bool.false_and]
theorem Up:Sound Tryz.prog 36 Oj:=
 Sound.Gt Dt (Av Wx (Av rC Bp)) mixed Tryz.func36 (by kernel_rfl) (by kernel_rfl) λx h=>HL x.1 x.2.1 x.2.2.1 h
theorem VL (xs is:List Int) (h:short is/\Lq xs.length is):fnW Gb (look []) Nk Tryz.f79 (xs,is,()) (λ(z:List Int)=>z=Bv xs is):=by
 obtain ⟨h,hr⟩:=h
 unfold short at h
 have Pc:(Bv xs is).length=is.length:=nU xs is
 refine Eq.mp (XQ xs is _) ⟨⟨by omega,by show (is.length:Int)<(4294967296:Int)+1;omega⟩,rfl,rfl,rfl,?_⟩
 refine Bw is.length (λv=>v.1) (λj v=>v.2.1.length=(Bv xs is).length/\v.2.1.take j=(Bv xs is).take j) rfl ⟨by rw [Pc];simp,by simp⟩ ?_
 rintro j ⟨i,ys,⟨⟩⟩ K hj hi ⟨h1,h2⟩ hK
 dsimp only at hi h1 h2⊢
 subst hi
 refine Br.dec (λhl=>?_) λhl=>?_
 ·have hl:j<is.length:=by omega
  have hx:=hr _ (Al hl)
  obtain ⟨xn,hxe⟩:=Qw hx.1
  have Jv:j<(Bv xs is).length:=by rw [Pc];exact hl
  have e:xs[xn]'(by omega)=(Bv xs is)[j]:=by
   simp only [Bv,Sx,Hi,hxe,Aj]
   rw [Lh]
  refine ⟨_,Co hl,xs[xn]'(by omega),by rw [hxe];exact Co (by omega),⟨by omega,by omega⟩,by rw [Aj,Bo];omega,rfl,by rw [Cm],?_⟩
  rw [Bm (by omega),Aj,Bo,e]
  refine hK hl _ rfl ⟨by rw [Cm];exact h1,?_⟩
  rw [Ia,List.take_set_of_le (by omega),h2,List.getElem?_set_self (by omega),Ia,Ac Jv]
 ·have:j=is.length:=by omega
  subst this
  rw [Dk,<-Ay (l:=ys),h1,Pc,h2,<-Pc,Ay]
theorem dF:Sound Tryz.prog 79 Nk:=
 Sound.Gt Dt Bp mixed Tryz.func79 (by kernel_rfl) (by kernel_rfl) λx h=>VL x.1 x.2.1 h
theorem IS {p:PP} (hv:Cb p=true):(Ba p).length<=3000:=(pP hv).ok.nj
theorem aX {p:PP} {t s:List Int} (hv:Cb p=true) (hs:s∈Ba p) (ht:Di p t=true):Lq s.length t:=by
 have h1:=(Wz hv hs).1
 have hn:=(valid hv).n
 intro y hy
 have:=(Iy ht).2 y hy
 omega
theorem p9 {p:PP} {t q:List Int} (h:Sn p t q=true):Di p t=true:=(Bc.1 h).1
theorem wx (p:PP) (t q:List Int) (h:Gw p/\short t/\short q):fnW Gb (look [(92,Vo),(36,Oj),(79,Nk),(93,Ik)]) Yx Tryz.f40 (p,t,q,()) (λ(z:Int)=>z=pe p t q):=by
 obtain ⟨hp,ht,hq⟩:=h
 unfold pe
 by_cases hw:Gl p=true
 ·have he:Vo.fn ((p.1,p.2.1,p.2.2.1,()),())=some (some (me p),true,()):=(Ab hp).trans (Fq some (Ab hw))
  have hv:=(Fl hw).1
  rw [hw,Pd]
  refine Eq.mp (lB p t q _) ⟨_,he,λhb=>by simp at hb,λ_=>⟨_,Ab ⟨hp,ht,hq⟩,Br.of (λhm=>?_) λhm=>⟨_,rfl,?_⟩⟩⟩
  ·rw [Ak (Ew hm)]
  have hm:Sn p t q=true:=by simpa using hm
  rw [Ab hm,(Ae2 hw).1]
  have hlen:=IS hv
  refine Bw (Ba p).length (λv=>v.2.1) (λj v=>v.1=((((Ba p).take j).countP λs=>decide (Bv s t=q):Nat):Int)) rfl (by simp) ?_
  rintro j ⟨c,i,⟨⟩⟩ K hj hi hR hK
  dsimp only at hi hR⊢
  subst hi hR
  have hb:=za (λs=>decide (Bv s t=q)) (Ba p) j
  refine Br.dec (λhl=>?_) λhl=>?_
  ·have hl:j<(Ba p).length:=by omega
   refine ⟨_,Co hl,_,Ab ⟨ht,aX hv (Al hl) (p9 hm)⟩,_,Ab (by show short (Bv _ t);unfold short at*;rw [nU];exact ht),Br.of (λhb=>?_) λhb=>?_⟩
   ·have hb:Me (Bv (Ba p)[j] t) q=true:=hb
    rw [Bm (by omega),Bm (by omega)]
    refine hK hl _ rfl ?_
    rw [qa _ _ hl,Ab (Dl (sH.1 hb))]
   ·have hb:Me (Bv (Ba p)[j] t) q=false:=hb
    rw [Bm (by omega)]
    refine hK hl _ rfl ?_
    rw [qa _ _ hl,Ak (by simp only [Ng];exact λe=>by rw [sH.2 e] at hb;cases hb)]
    rfl
  ·have:j=(Ba p).length:=by omega
   subst this
   rw [Ay]
 ·have he:Vo.fn ((p.1,p.2.1,p.2.2.1,()),())=some (none,false,()):=(Ab hp).trans (Fq some (Ak hw))
  rw [Ge _|>.mp hw,Bool.false_and,Ak (by decide)]
  exact Eq.mp (lB p t q _) ⟨_,he,λ_=>rfl,λhb=>by simp at hb⟩
theorem oa:Sound Tryz.prog 40 Yx:=
 Sound.Gt Dt (Av wL (Av Up (Av dF (Av dc Bp)))) mixed Tryz.func40 (by kernel_rfl) (by kernel_rfl) λx h=>wx x.1 x.2.1 x.2.2.1 h
def Gk (g:List (List Int)) (s w:List Int):List Int:=w.foldl (λq l=>Af q (Ax g l)) s
noncomputable abbrev Ln:Spec:=Gt (.pair tI (.pair rH (.pair tL .unit))) tL false true (λx=> ∃p:PP,Cb p=true/\p.1=x.1/\p.2.2.1=x.2.1/\Ic (List.length x.2.1:Nat) x.2.2.1=true) (λx=>Gk x.2.1 (upto x.1.toNat) x.2.2.1)
theorem PV (n:Int) (g:List (List Int)) (w:List Int) (P:List Int->Prop):(∃(y4:List Int),Nt.fn (n,())=some y4/\Dm (λ(v5:List Int×Int×PUnit) (k6:List Int×Int×PUnit->Prop)=>Br (decide (v5.2.1<(↑w.length:Int))) (∃(y7:Int),idx w v5.2.1=some y7/\ ∃(y8:List Int),Hy.fn (g,y7,())=some y8/\ ∃(y9:List Int),Jc.fn (v5.1,y8,())=some y9/\k6 (y9,IntKind.i64.wrap (v5.2.1+(1:Int)),())) (P v5.1)) (y4,(0:Int),PUnit.unit))=fnW Gb (look [(133,Nt),(134,Jc),(135,Hy)]) Ln Tryz.f84 (n,g,w,()) P:=by kernel_rfl
theorem Yk {p:PP} (hV:Valid p) {l:Int} (hl:Hq (List.length p.2.2.1) l):Pm p.1.toNat (Ax p.2.2.1 l):=by
 have hn:=hV.n
 obtain ⟨k,hk,Rk⟩:=Pv hl
 have hp:Pm p.1.toNat (p.2.2.1[k]):=⟨by have:=hV.len _ (Al hk);omega,dA (hV.perm _ (Al hk))⟩
 rcases Rk with rfl|rfl
 ·rw [Px hk];exact hp
 ·rw [Pw hk];exact hp.inv
theorem iu {p:PP} (hV:Valid p): ∀(w s:List Int),(∀l∈w,Hq (List.length p.2.2.1) l)->Pm p.1.toNat s->Pm p.1.toNat (Gk p.2.2.1 s w)
 | [],s,_,hs=>hs
 |l::w,s,hl,hs=>by
  have h1:=Yk hV (hl l (by simp))
  exact iu hV w _ (λl' h=>hl l' (Aq _ h)) (hs.comp h1)
theorem pY {p:PP} (hV:Valid p) {s:List Int} (hs:Pm p.1.toNat s): ∀(w q:List Int),(∀l∈w,Hq (List.length p.2.2.1) l)->Pm p.1.toNat q->Af s (Gk p.2.2.1 q w)=Gk p.2.2.1 (Af s q) w
 | [],q,_,_=>rfl
 |l::w,q,hl,hq=>by
  have h1:=Yk hV (hl l (by simp))
  have h2:=pY hV hs w _ (λl' h=>hl l' (Aq _ h)) (hq.comp h1)
  show Af s (Gk p.2.2.1 (Af q (Ax p.2.2.1 l)) w)=Gk p.2.2.1 (Af (Af s q) (Ax p.2.2.1 l)) w
  rw [h2,Gd hs hq h1]
theorem su {g:List (List Int)} {s w:List Int} {j:Nat} (h:j<w.length):Gk g s (w.take (j+1))=Af (Gk g s (w.take j)) (Ax g w[j]):=by
 unfold Gk
 rw [Ia,Ac h,Tr,ct]
 rfl
theorem OA {n:Nat} {q:List Int} (h:Pm n q):q.length<=20:=by have:=h.1;have:=h.n2;omega
theorem ug {n:Nat} {p q:List Int} (hp:Pm n p) (hq:Pm n q):Lq q.length p:=by rw [hq.1];exact hp.row
theorem NL (n:Int) (g:List (List Int)) (w:List Int) (h: ∃p:PP,Cb p=true/\p.1=n/\p.2.2.1=g/\Ic (List.length g:Nat) w=true):fnW Gb (look [(133,Nt),(134,Jc),(135,Hy)]) Ln Tryz.f84 (n,g,w,()) (λ(z:List Int)=>z=Gk g (upto n.toNat) w):=by
 obtain ⟨p,hv,rfl,rfl,hw⟩:=h
 have hV:=valid hv
 have hn:=hV.n
 have hf:=hV.nj
 obtain ⟨w1,w2⟩:=Mi hw
 refine Eq.mp (PV p.1 p.2.2.1 w _) ⟨upto p.1.toNat,Ab ⟨by show 0<=p.1;omega,by show p.1<=20;omega⟩,?_⟩
 refine Bw w.length (λv=>v.2.1) (λj v=>v.1=Gk p.2.2.1 (upto p.1.toNat) (w.take j)) rfl rfl ?_
 rintro j ⟨q,i,⟨⟩⟩ K hj hi hR hK
 dsimp only at hi hR⊢
 subst hi hR
 have hq:=iu hV (w.take j) _ (λl hl=>w2 l (En hl)) (Pm.id (n:=p.1.toNat) (by omega) (by omega))
 refine Br.dec (λhl=>?_) λhl=>?_
 ·have hl:j<w.length:=by omega
  have m5:=w2 _ (Al hl)
  have p7:=Yk hV m5
  refine ⟨_,Co hl,_,Ab ⟨m5,hf.2,hV.perm⟩,_,Ab ⟨OA hq,ug hq p7⟩,?_⟩
  rw [Bm (by omega)]
  exact hK hl _ rfl (su hl).symm
 ·have:j=w.length:=by omega
  subst this
  rw [Ay]
theorem uP:Sound Tryz.prog 84 Ln:=
 Sound.Gt Dt (Av au (Av Rg (Av cc Bp))) mixed Tryz.func84 (by kernel_rfl) (by kernel_rfl) λx h=>NL x.1 x.2.1 x.2.2.1 h
theorem map_take {α β:Type} (f:α->β) {xs:List α} {j:Nat} (h:j<xs.length):(xs.take (j+1)).map f=(xs.take j).map f++ [f xs[j]]:=by
 rw [Ia,Ac h,Ko];rfl
theorem bt {p:PP} (hw:Gl p=true):s9 p.2.2.1 (Ca p.2.2.1.length) (Ba p):=by
 obtain ⟨hv,hb⟩:=Fl hw
 have hV:=valid hv
 have hn:=hV.n
 exact l9 hV (pP hv) (lQ hv (by rw [Mu];omega) (λy hy=>by have:=Lt.1 hy;omega) hb)
theorem yD {p:PP} (hw:Gl p=true):oG p.2.2.1 (Ca p.2.2.1.length) (Ba p) (Hj p):=by
 obtain ⟨hv,hb⟩:=Fl hw
 have hn:=(valid hv).n
 exact lQ hv (by rw [Mu];omega) (λy hy=>by have:=Lt.1 hy;omega) hb
theorem BS {p:PP} (hw:Gl p=true) (Q:List Int->Prop) (hQ: ∀x∈Ba p,Q x-> ∀l∈Ca p.2.2.1.length,Q (Af x (Ax p.2.2.1 l))) {x:List Int} (hx:x∈Ba p) (hq:Q x):
  ∀y∈Ba p,Q y:=by
 have hc:=bt hw
 have hL:=yD hw
 have up: ∀(j:Nat),j<(Ba p).length->Q ((Ba p).getD j [])->Q ((Ba p).getD 0 []):=by
  intro j
  induction j using Nat.strongRecOn with
  |_ j ih=>
   intro hj hqj
   by_cases e:j=0
   ·subst e;exact hqj
   ·obtain ⟨i,l,h1,h2,h3,_⟩:=hL.par j (by omega) hj
    have hi:i<(Ba p).length:=by omega
    obtain ⟨b1,b2⟩:=hc.back _ (ej hi) l h2
    refine ih i h1 hi ?_
    have:=hQ _ (ej hj) hqj _ b1
    rwa [h3,b2] at this
 have down:Q ((Ba p).getD 0 [])-> ∀(j:Nat),j<(Ba p).length->Q ((Ba p).getD j []):=by
  intro h0 j
  induction j using Nat.strongRecOn with
  |_ j ih=>
   intro hj
   by_cases e:j=0
   ·subst e;exact h0
   ·obtain ⟨i,l,h1,h2,h3,_⟩:=hL.par j (by omega) hj
    have hi:i<(Ba p).length:=by omega
    rw [h3]
    exact hQ _ (ej hi) (ih i h1 hi) l h2
 obtain ⟨j,hj,rfl⟩:=Bh.1 hx
 rw [<-Lh (d:= []) hj] at hq
 intro y hy
 obtain ⟨k,hk,rfl⟩:=Bh.1 hy
 rw [<-Lh (d:= []) hk]
 exact down (up j hj hq) k hk
theorem xG {α:Type} {P:α->Bool} : ∀(l:List α) (i:Nat),l.any P=true-> ∃k,∃h:k<l.length,Ep P l (i:Int)=((i+k:Nat):Int)/\P l[k]=true/\ ∀j (h:j<k),P (l[j]'(by omega))=false
 | [],i,h=>by simp at h
 |y::r,i,h=>by
  simp only [Ep]
  by_cases hy:P y=true
  ·rw [Ab hy]
   exact ⟨0,by simp,rfl,hy,λj hj=>absurd hj (Dn _)⟩
  ·rw [Ak hy]
   have hr:r.any P=true:=by
    rw [List.any_cons,Kn] at h
    exact h.resolve_left hy
   obtain ⟨k,hk,h1,h2,h3⟩:=xG r (i+1) hr
   refine ⟨k+1,by simpa using hk,?_,h2,λj hj=>?_⟩
   ·rw [show ((i:Int)+1)=((i+1:Nat):Int) by push_cast;rfl,h1]
    congr 1
    omega
   ·cases j with
    |zero=>exact Ge _|>.mp hy
    |succ j=>exact h3 j (by omega)
theorem Jz {s q t:List Int} (h:Lq s.length t):Bv (Af s q) t=Af (Bv s t) q:=by
 unfold Bv Af
 rw [List.map_map]
 refine Ei λy hy=>?_
 obtain ⟨h1,h2⟩:=h y hy
 have hy':y.toNat<s.length:=by omega
 show Hi (s.map (Hi q)) y=Hi q (Hi s y)
 unfold Hi
 rw [Lh (by rw [Ch];exact hy'),Sx,Lh hy']
 try rfl
theorem bh {n:Nat} {t:List Int} (h: ∀y∈t,0<=y/\y<(n:Int)):Bv (upto n) t=t:=by
 unfold Bv
 refine (Ei λy hy=>?_).trans (List.map_id t)
 obtain ⟨h1,h2⟩:=h y hy
 obtain ⟨k,rfl⟩:=Qw h1
 have hk:k<n:=by omega
 show Hi (upto n) (k:Int)=(k:Int)
 unfold Hi
 rw [Aj,Ai,vz hk]
 rfl
theorem sat_iff {goal s:List Int} :SE goal s=true↔Bv s goal=goal:=by
 unfold SE Bv
 rw [Bf]
 constructor
 ·intro h
  exact (Ei λy hy=>He (h y hy)).trans (List.map_id goal)
 ·intro h y hy
  obtain ⟨j,hj,rfl⟩:=Bh.1 hy
  have h2:(goal.map (Hi s))[j]?=goal[j]?:=Fq (λz:List Int=>z[j]?) h
  rw [Et,Ac hj] at h2
  exact Dl (Bd h2)
theorem Md {p:PP} (hv:Cb p=true):(Ba p).getD 0 []=upto p.1.toNat/\upto p.1.toNat∈Ba p:=by
 obtain ⟨A,h⟩:=(bZ hv).first
 have h:Ba p=upto p.1.toNat::A:=h
 rw [h]
 exact ⟨rfl,by simp⟩
noncomputable def La (p:PP) (t:List Int):List (List Int):=(Gy p.2.2.1 t).1
noncomputable def mf (p:PP) (t:List Int):List Int:=(Gy p.2.2.1 t).2.1
noncomputable def eD (p:PP) (t x:List Int):Int:=Lr (La p t) (mf p t) x
theorem Vs {p:PP} {t:List Int} (ht:Di p t=true): ∀y∈t,0<=y/\y<((p.1.toNat:Nat):Int):= λy hy=>by
 have h1:=(Iy ht).2 y hy
 have:=(valid (Nv.1 ht).1).n
 omega
theorem VR {p:PP} {t:List Int} (hw:Gl p=true) (ht:Di p t=true):(Gy p.2.2.1 t).2.2=true:=by
 have hv:=(Fl hw).1
 have hV:=valid hv
 obtain ⟨t1,t2⟩:=Iy ht
 have l4:=px ht
 obtain ⟨a1,_,a3⟩:=yW hv t1 t2 (λx=> ∃s∈Ba p,x=Bv s t) ⟨_,(Md hv).2,(bh (Vs ht)).symm⟩ λx ⟨s,hs,hx⟩ l hl=>by
  refine ⟨_,(bt hw).next s hs l hl,?_⟩
  rw [hx,Jz (aX hv hs ht)]
 refine Bk λhn=>?_
 obtain ⟨h1,z,⟨s,hs,hz⟩,h3⟩:=a3 (by simpa using hn)
 have h5:=Ry (l1:=z::(Gy p.2.2.1 t).1) (l2:=(Ba p).map λs=>Bv s t) (Ce.2 ⟨h3,l4.ok.nodup⟩) λx hx=>by
  rcases Be.1 hx with rfl|hx
  ·exact Bg.2 ⟨s,hs,hz.symm⟩
  ·obtain ⟨s',zw,e⟩:=a1 x hx
   exact Bg.2 ⟨s',zw,e.symm⟩
 have h6:=IS hv
 simp only [Aw,Ch] at h5
 omega
theorem uc {p:PP} {t:List Int} (hw:Gl p=true) (ht:Di p t=true):oG p.2.2.1 (Ca p.2.2.1.length) (La p t) (mf p t):=
 lQ (Fl hw).1 (Iy ht).1 (Iy ht).2 (VR hw ht)
theorem yb {p:PP} {t:List Int} (ht:Di p t=true):(La p t).getD 0 []=t/\t∈La p t:=by
 obtain ⟨_,A,h⟩:=yX (Nv.1 ht).1 (Iy ht).1 (Iy ht).2
 have h:La p t=t::A:=h
 rw [h]
 exact ⟨rfl,by simp⟩
theorem Abl {p:PP} {t:List Int} (hw:Gl p=true) (ht:Di p t=true): ∀s∈Ba p,Bv s t∈La p t:=by
 have hv:=(Fl hw).1
 have hc:=l9 (valid hv) (px ht) (uc hw ht)
 refine BS hw (λs=>Bv s t∈La p t) (λx hx hq l hl=>?_) (Md hv).2 ?_
 ·rw [Jz (aX hv hx ht)]
  exact hc.next _ hq l hl
 ·rw [bh (Vs ht)]
  exact (yb ht).2
theorem HT {p:PP} {t:List Int} (hw:Gl p=true) (ht:Di p t=true):
  Rn p.2.2.1 (Ca p.2.2.1.length) (Ba p) (λs=>SE t s=true) (λs=>eD p t (Bv s t)):=by
 have hv:=(Fl hw).1
 have hd:=qx (valid hv) (px ht) (uc hw ht)
 have Zw:=Abl hw ht
 refine ⟨λx hx=>hd.nn _ (Zw x hx),λx hx=>(hd.zero _ (Zw x hx)).trans ?_,λx hx l hl=>?_,λx hx h0=>?_⟩
 ·rw [show (Gy p.2.2.1 t).1.getD 0 []=t from (yb ht).1]
  exact sat_iff.symm
 ·rw [Jz (aX hv hx ht)]
  exact hd.step _ (Zw x hx) l hl
 ·obtain ⟨l,hl,h1⟩:=hd.down _ (Zw x hx) h0
  refine ⟨l,hl,?_⟩
  rw [Jz (aX hv hx ht)]
  exact h1
theorem Ajk {p:PP} {t:List Int} (ht:Di p t=true):SE t (upto p.1.toNat)=true:=sat_iff.2 (bh (Vs ht))
noncomputable abbrev bl:Spec:=Gt (.pair dg (.pair tL .unit)) tI false true (λx=>Gs (List.length x.2.1) x.1.1 x.1.2.2.1/\List.length x.1.2.1=List.length x.1.1) (λx=>Lr x.1.1 x.1.2.1 x.2.1)
theorem XG (f:List (List Int)×List Int×List Int×Bool×Unit) (s:List Int) (P:Int->Prop):(∃(y3:Int),Wt.fn ((f.1,f.2.1,f.2.2.1,f.2.2.2.1,()),s,())=some y3/\Br (decide (y3<(0:Int))) (P (-1:Int)) (∃(y4:Int),idx f.2.1 y3=some y4/\P y4))=fnW Gb (look [(75,Wt)]) bl Tryz.f115 (f,s,()) P:=by kernel_rfl
theorem VB (f:SS) (s:List Int) (h:Gs (List.length s) f.1 f.2.2.1/\List.length f.2.1=List.length f.1):fnW Gb (look [(75,Wt)]) bl Tryz.f115 (f,s,()) (λ(z:Int)=>z=Lr f.1 f.2.1 s):=by
 obtain ⟨h1,h2⟩:=h
 refine Eq.mp (XG f s _) ⟨_,Ab h1,?_⟩
 show Br (decide (lb f.1 s<0)) _ _
 unfold lb Lr
 by_cases hm:s∈f.1
 ·have hl:=List.idxOf_lt_length_of_mem hm
  rw [Ab hm,Ab hm]
  refine Br.dec (λhn=>absurd hn (by omega)) λ_=>?_
  have LV:List.idxOf s f.1<f.2.1.length:=by omega
  refine ⟨f.2.1[List.idxOf s f.1],?_,by rw [Lh LV]⟩
  show idx f.2.1 (if s∈f.1 then ((List.idxOf s f.1:Nat):Int) else-1)=_
  rw [Ab hm]
  exact Co LV
 ·rw [Ak hm,Ak hm]
  exact ⟨λ_=>rfl,λhn=>by simp at hn⟩
theorem wK:Sound Tryz.prog 115 bl:=
 Sound.Gt Dt (Av od Bp) mixed Tryz.func115 (by kernel_rfl) (by kernel_rfl) λx h=>VB x.1 x.2.1 h
theorem We {p:PP} (hw:Gl p=true):Rn p.2.2.1 (Ca p.2.2.1.length) (Ba p) (λx=>x=(Ba p).getD 0 []) (Lr (Ba p) (Hj p)):=
 qx (valid (Fl hw).1) (pP (Fl hw).1) (yD hw)
theorem TP {p:PP} (hw:Gl p=true) {x:List Int} (hx:x∈Ba p):0<=Lr (Ba p) (Hj p) x/\Lr (Ba p) (Hj p) x<=3000:=by
 have l4:=pP (Fl hw).1
 have td:=l4.ok.nj
 refine ⟨(We hw).nn x hx,?_⟩
 obtain ⟨i,hi,rfl⟩:=Bh.1 hx
 have hiD:i<(Hj p).length:=by rw [l4.len];exact hi
 have h1:=l4.dep i hiD
 have h2:Lr (Ba p) (Hj p) ((Ba p)[i])=(Hj p).getD i 0:=by
  rw [<-Lh (d:= []) hi];exact lU l4.ok.nodup hi
 rw [h2,Lh hiD]
 omega
def known (row:Row):List (List Int):=row.filterMap id
mutual
def kD (n:Nat):Nat->Nat->List Int->Cf×Cf->Cf×Cf
 |0,_,_,s=>s
 |f+1,k,p,s=>if Iu s.2 (n-k) k p=true then s else
   ((known (s.2.getD k [])).map λu=>Af u p).foldl (λs q=>gq n f k q s) (s.1.set k (s.1.getD k []++ [some p]),s.2)
def gq (n:Nat):Nat->Nat->List Int->Cf×Cf->Cf×Cf
 |0,_,_,s=>s
 |f+1,k,p,s=>match (s.2.getD k []).getD (ap p k) none with
  |some t=>kD n f (k+1) (Af p (Bb t)) s
  |none=>((s.1.getD k []).map λo=>Af p (o.getD [])).foldl (λs q=>gq n f k q s) (s.1,s.2.set k ((s.2.getD k []).set (ap p k) (some p)))
end
structure Part (n k:Nat) (s:Cf×Cf):Prop where
 l1:s.1.length=n
 l2:s.2.length=n
 pg:PG n k (s.1.getD k [])
 row:Vd n k (s.1.getD k []) (s.2.getD k [])
 comp:dP n (n-(k+1)) (k+1) s
 gb:GBf (n-(k+1)) (k+1) s
 sub: ∀g,some g∈s.1.getD (k+1) []->Gn n (s.1.getD k []) g
def Hd (n k:Nat) (s:Cf×Cf) (q:List Int):Prop:= ∃t,(s.2.getD k []).getD (ap q k) none=some t/\Iu s.2 (n-(k+1)) (k+1) (Af q (Bb t))=true
structure cA (n k:Nat) (s s':Cf×Cf):Prop where
 grow:Wa k s s'
 same:s'.1.getD k []=s.1.getD k []
 part:Part n k s'
 Fk: ∀q,Pm n q->Fx k q->Hd n k s q->Hd n k s' q
 new: ∀y t,(s'.2.getD k []).getD y none=some t->(s.2.getD k []).getD y none=some t\/ ∀g,some g∈s.1.getD k []->Hd n k s' (Af t g)
theorem cA.refl {n k:Nat} {s:Cf×Cf} (h:Part n k s):cA n k s s:=⟨Wa.refl _ _,rfl,h,λ_ _ _ h=>h,λ_ _ h=> .inl h⟩
theorem Part.tg {n k:Nat} {s:Cf×Cf} (h:Part n k s) (hk:k<n) {y:Nat} {t g:List Int} (ht:(s.2.getD k []).getD y none=some t) (hg:some g∈s.1.getD k []):Pm n (Af t g)/\Fx k (Af t g)/\ap (Af t g) k=ap g y:=by
 obtain ⟨t1,t2,t3,t4⟩:=h.row.rt _ _ ht
 obtain ⟨g',e,g1,g2⟩:=h.pg _ hg
 cases e
 exact ⟨t1.comp g1,Fx.comp t1 g1 t2 g2 (by omega),by rw [Jw t1 g1 hk,t3]⟩
theorem cA.trans {n k:Nat} {a b c:Cf×Cf} (hk:k<n) (h:cA n k a b) (h':cA n k b c):cA n k a c:=by
 refine ⟨h.grow.trans h'.grow (Ao _),h'.same.trans h.same,h'.part,λq h1 h2 h3=>h'.Fk q h1 h2 (h.Fk q h1 h2 h3),λy t e=>?_⟩
 rcases h'.new y t e with e1|e1
 ·rcases h.new y t e1 with e2|e2
  ·exact .inl e2
  ·refine .inr λg hg=>?_
   obtain ⟨p1,p2,_⟩:=h.part.tg hk e1 (by rw [h.same];exact hg)
   exact h'.Fk _ p1 p2 (e2 g hg)
 ·exact .inr λg hg=>e1 g (by rw [h.same];exact hg)
theorem Part.pms {n k:Nat} {s:Cf×Cf} (h1:1<=n) (h2:n<=20) (h:Part n k s):DB n λg=>some g∈s.1.getD k []:=⟨⟨h1,h2⟩,λg hg=>by obtain ⟨g',e,h,_⟩:=h.pg _ hg;cases e;exact h⟩
theorem Part.v {n k:Nat} {s:Cf×Cf} (h:Part n k s):V n (n-(k+1)) (k+1) s:=⟨h.l1,h.l2,h.comp,h.gb⟩
theorem xp (row:Row):vR row+Mf row=row.length:=by
 induction row with
 |nil=>rfl
 |cons o r ih=>
  unfold vR Mf at*
  cases o<;>simp [eU]<;>omega
theorem MY {a b:Row} (hl:b.length=a.length) (h: ∀y t,a.getD y none=some t->b.getD y none=some t):Mf b<=Mf a:=by
 have h1:=(oP a b hl.symm h).1
 have h2:=xp a
 have h3:=xp b
 omega
def SH (n k:Nat):Nat:=(n-k)*(n+2)+(n+1)
def mI (n k:Nat) (s:Cf×Cf):Nat:=(n-k)*(n+2)+Mf (s.2.getD k [])
theorem cA.mu {n k:Nat} {s s':Cf×Cf} (h:cA n k s s'):mI n k s'<=mI n k s:=by
 have:=MY (h.grow.Abv k) (h.grow.vu k)
 unfold mI;omega
theorem jS {n k f:Nat} (hk:k<n) {gs:List PO}
  (IH: ∀q s,Part n k s->s.1.getD k []=gs->Pm n q->Fx k q->Gn n gs q->mI n k s<=f->(cA n k s (gq n f k q s)/\Hd n k (gq n f k q s) q)/\ ∀f',f<=f'->gq n f' k q s=gq n f k q s):
  ∀(qs:List (List Int)) (s:Cf×Cf),Part n k s->s.1.getD k []=gs->(∀q∈qs,Pm n q/\Fx k q/\Gn n gs q)->mI n k s<=f->
   cA n k s (qs.foldl (λs q=>gq n f k q s) s)/\(∀q∈qs,Hd n k (qs.foldl (λs q=>gq n f k q s) s) q)/\ ∀f',f<=f'->qs.foldl (λs q=>gq n f' k q s) s=qs.foldl (λs q=>gq n f k q s) s
 | [],s,hp,_,_,_=>⟨cA.refl hp,λq hq=>(by cases hq),λ_ _=>rfl⟩
 |q::qs,s,hp,hg,hq,hm=>by
  obtain ⟨q1,q2,q3⟩:=hq q (by simp)
  obtain ⟨⟨a1,a2⟩,a3⟩:=IH q s hp hg q1 q2 q3 hm
  obtain ⟨b1,b2,b3⟩:=jS hk IH qs (gq n f k q s) a1.part (a1.same.trans hg) (λq' h=>hq q' (Aq _ h)) (Ib a1.mu hm)
  simp only [Qx]
  refine ⟨a1.trans hk b1,λq' gB=>?_,λf' hf=>?_⟩
  ·rcases Be.1 gB with rfl|gB
   ·exact b1.Fk _ q1 q2 a2
   ·exact b2 q' gB
  ·rw [a3 f' hf];exact b3 f' hf
theorem FG {n k:Nat} (h1:1<=n) (h2:n<=20) (hk:k<n) {s s':Cf×Cf} (hs:dP n (n-(k+1)) (k+1) s) (zw:dP n (n-(k+1)) (k+1) s') (hg:Wa k s s') {x:List Int} (hx:Pm n x) (hf:Fx (k+1) x)
  (h:Iu s.2 (n-(k+1)) (k+1) x=true):Iu s'.2 (n-(k+1)) (k+1) x=true:=
 (Ug h1 h2 _ (k+1) s' (by omega) zw x hx hf).2 (((Ug h1 h2 _ (k+1) s (by omega) hs x hx hf).1 h).mono λg DC=>hg.xx _ _ DC)
theorem ke {row:Row} {u:List Int} :u∈known row↔ ∃y,row.getD y none=some u:=by
 unfold known
 rw [List.mem_filterMap]
 constructor
 ·rintro ⟨o,ho,e⟩
  obtain ⟨y,hy,rfl⟩:=Bh.1 ho
  exact ⟨y,by rw [Ai,Ac hy];exact e⟩
 ·rintro ⟨y,hy⟩
  have hl:=nu hy
  rw [Ai,Ac hl] at hy
  exact ⟨row[y],Al hl,hy⟩
theorem QQ {n:Nat} (h1:1<=n) (h2:n<=20): ∀f:Nat,
  (∀k p s,k<=n->V n (n-k) k s->Pm n p->Fx k p->SH n k<=f->YG n (n-k) k s p (kD n f k p s)/\ ∀f',f<=f'->kD n f' k p s=kD n f k p s)/\
  (∀k q s,k<n->Part n k s->Pm n q->Fx k q->Gn n (s.1.getD k []) q->mI n k s<=f->(cA n k s (gq n f k q s)/\Hd n k (gq n f k q s) q)/\ ∀f',f<=f'->gq n f' k q s=gq n f k q s)
 |0=>⟨λk p s _ _ _ _ h=>by unfold SH at h;omega,λk q s hk _ _ _ _ h=>by
   unfold mI at h
   have:1*(n+2)<=(n-k)*(n+2):=Eo _ (by omega)
   omega⟩
 |f+1=>by
  obtain ⟨ihG,ihP⟩:=QQ h1 h2 f
  refine ⟨λk p s hk hv hp hf hmu=>?_,λk q s hk cw hq hf KC hmu=>?_⟩
  ·
   have FR: ∀f',f+1<=f'-> ∃JY,f'=JY+1/\f<=JY:= λf' h=>⟨f'-1,by omega,by omega⟩
   by_cases hh:Iu s.2 (n-k) k p=true
   ·have e: ∀f',kD n (f'+1) k p s=s:= λf'=>by simp only [kD];rw [Ab hh]
    rw [e f]
    refine ⟨⟨hv,Wa.refl _ _,(Ug h1 h2 _ k s (by omega) hv.2.2.1 p hp hf).1 hh,λo ho=> .inl ho⟩,λf' KB=>?_⟩
    obtain ⟨JY,rfl,_⟩:=FR f' KB
    exact e JY
   have RN:k<n:=by
    refine Nat.lt_of_le_of_ne hk λe=>hh ?_
    subst e
    rw [Nat.sub_self];rfl
   obtain ⟨v1,v2,hc,xC⟩:=hv
   have jU:=hc
   have Axp:=xC
   obtain ⟨m,hm⟩: ∃m,n-k=m+1:=⟨n-k-1,by omega⟩
   have FL:n-(k+1)=m:=by omega
   rw [hm] at hc xC
   obtain ⟨c1,c2,c3⟩:=hc
   generalize ny:s.1.getD k []++ [some p]=gs
   have Zx:some p∈gs:=by rw [<-ny];simp
   have Ps: ∀o∈s.1.getD k [],o∈gs:= λo ho=>by rw [<-ny];exact Bj _ ho
   have hg:PG n k gs:= λo ho=>by
    rw [<-ny] at ho
    rcases Az.1 ho with ho|ho
    ·exact c2.pg o ho
    ·rw [Ad] at ho;exact ⟨p,ho,hp,hf⟩
   have hS:DB n λg=>some g∈gs:=⟨⟨h1,h2⟩,λg Se=>by obtain ⟨g',e,h,_⟩:=hg _ Se;cases e;exact h⟩
   have uz: ∀i,(s.1.set k gs).getD i []=if i=k then gs else s.1.getD i []:= λi=>by
    rw [Li]
    by_cases e:k=i
    ·subst e;rw [Ab ⟨rfl,by omega⟩,Ab rfl]
    ·rw [Ak (λhh=>e hh.1),Ak (Gg e)]
   have vL: ∀i,k+1<=i->(s.1.set k gs).getD i []=s.1.getD i []/\s.2.getD i []=s.2.getD i []:= λi hi=>⟨by rw [uz i,Ak (by omega)],rfl⟩
   have FM:Part n k (s.1.set k gs,s.2):=by
    refine ⟨by simpa using v1,v2,?_,?_,?_,?_,λg Se=>?_⟩
    ·show PG n k ((s.1.set k gs).getD k []);rw [uz k,Ab rfl];exact hg
    ·show Vd n k ((s.1.set k gs).getD k []) _
     rw [uz k,Ab rfl]
     exact ⟨c2.rl,c2.r0,λy t e=>⟨(c2.rt y t e).1,(c2.rt y t e).2.1,(c2.rt y t e).2.2.1,(c2.rt y t e).2.2.2.mono λg hg=>Ps _ hg⟩⟩
    ·rw [FL];exact Uu m (k+1) vL c1
    ·rw [FL];exact bN m (k+1) vL xC.1
    ·have Se:some g∈(s.1.set k gs).getD (k+1) []:=Se
     rw [(vL (k+1) (Ao _)).1] at Se
     show Gn n ((s.1.set k gs).getD k []) g
     rw [uz k,Ab rfl]
     exact (c3 g Se).mono λg hg=>Ps _ hg
   have jY:((s.1.set k gs,s.2):Cf×Cf).1.getD k []=gs:=by show (s.1.set k gs).getD k []=gs;rw [uz k,Ab rfl]
   have m4:Wa k s (s.1.set k gs,s.2):=by
    refine ⟨by simp,rfl,λi hi=>⟨?_,rfl⟩,λi o ho=>?_,λi y t e=>e,λi=>rfl⟩
    ·show (s.1.set k gs).getD i []=_;rw [uz i,Ak (by omega)]
    ·show o∈(s.1.set k gs).getD i []
     rw [uz i]
     split
     ·rename_i hi;subst hi;exact Ps o ho
     ·exact ho
   have hmP:mI n k (s.1.set k gs,s.2)<=f:=by
    have hn:=j8 (s.2.getD k [])
    have hr:=c2.rl
    unfold mI
    unfold SH at hmu
    show (n-k)*(n+2)+Mf (s.2.getD k [])<=f
    omega
   have UF: ∀q∈(known (s.2.getD k [])).map (λu=>Af u p),Pm n q/\Fx k q/\Gn n gs q:= λq hq=>by
    obtain ⟨u,hu,rfl⟩:=Bg.1 hq
    obtain ⟨y,hy⟩:=ke.1 hu
    obtain ⟨t1,t2,t3,t4⟩:=c2.rt _ _ hy
    exact ⟨t1.comp hp,Fx.comp t1 hp t2 hf hk, .mul (t4.mono λg hg=>Ps _ hg) Zx⟩
   obtain ⟨r1,r2,r3⟩:=jS RN (gs:=gs) (λq s nA Se a b c d=>ihP k q s RN nA a b (by rw [Se];exact c) d) ((known (s.2.getD k [])).map λu=>Af u p) (s.1.set k gs,s.2) FM jY UF hmP
   have e: ∀f',kD n (f'+1) k p s=((known (s.2.getD k [])).map λu=>Af u p).foldl (λs q=>gq n f' k q s) (s.1.set k gs,s.2):= λf'=>by simp only [kD];rw [Ak hh,ny]
   refine ⟨?_,λf' KB=>by obtain ⟨JY,rfl,ZQ⟩:=FR f' KB;rw [e JY,e f];exact r3 JY ZQ⟩
   rw [e f]
   generalize ((known (s.2.getD k [])).map λu=>Af u p).foldl (λs q=>gq n f k q s) (s.1.set k gs,s.2)=s' at r1 r2
   have nA:=r1.part
   have LR:s'.1.getD k []=gs:=r1.same.trans jY
   have hHd: ∀y t g,(s'.2.getD k []).getD y none=some t->some g∈gs->Hd n k s' (Af t g):= λy t g ht DC=>by
    rcases r1.new y t ht with e1|e1
    ·have e1:(s.2.getD k []).getD y none=some t:=e1
     by_cases Ts:g=p
     ·subst Ts
      exact r2 _ (Bg.2 ⟨t,ke.2 ⟨y,e1⟩,rfl⟩)
     ·have hg0:some g∈s.1.getD k []:=by
       rw [<-ny] at DC
       rcases Az.1 DC with h|h
       ·exact h
       ·rw [Ad] at h;cases h;exact absurd rfl Ts
      obtain ⟨x1,x2,x3⟩:=FM.tg RN e1 (by rw [jY];exact DC)
      refine r1.Fk _ x1 x2 ?_
      obtain ⟨t',vK⟩:=Kk.1 (c2.cl y t g e1 hg0)
      refine ⟨t',by show (s.2.getD k []).getD _ none=_;rw [x3];exact vK,?_⟩
      show Iu s.2 (n-(k+1)) (k+1) _=true
      rw [FL]
      exact c2.sg y t g t' e1 hg0 vK
    ·exact e1 g (by rw [jY];exact DC)
   have Aiw:Lvl n k gs (s'.2.getD k []) (λq=>Iu s'.2 m (k+1) q=true):=by
    have hr:=nA.row
    rw [LR] at hr
    refine ⟨hg,hr.rl,hr.r0,hr.rt,λy t g ht DC=>?_,λy t g t' ht DC vK=>?_⟩
    ·obtain ⟨t',vK,_⟩:=hHd y t g ht DC
     obtain ⟨_,_,x3⟩:=nA.tg RN ht (by rw [LR];exact DC)
     rw [<-x3,vK];simp
    ·obtain ⟨t'',Anp,hx⟩:=hHd y t g ht DC
     obtain ⟨_,_,x3⟩:=nA.tg RN ht (by rw [LR];exact DC)
     rw [x3,vK] at Anp
     cases Anp
     rw [<-FL];exact hx
   have FH:dP n (m+1) k s':=⟨by rw [<-FL];exact nA.comp,by rw [LR];exact Aiw,λg DC=>nA.sub g DC⟩
   have Zw:Gn n (s'.1.getD k []) p:=by rw [LR];exact cz.one hS Zx
   have th:=m4.trans r1.grow (Ao _)
   rw [hm]
   refine ⟨⟨nA.l1,nA.l2,FH,by rw [<-FL];exact nA.gb,?_⟩,th,Zw,λo ho=>?_⟩
   ·have hold:=xC.2
    obtain ⟨p1,p2⟩:=uh th.Abv th.vu (m+1) k
    have Iz:jc s.2 (m+1) k≠jc s'.2 (m+1) k:= λe=>by
     have:=cK (m+1) k p (p2 e)
     rw [(Ug h1 h2 (m+1) k s' (by omega) FH p hp hf).2 Zw] at this
     rw [hm] at hh
     exact hh this.symm
    rw [LR,<-ny,Au,Cg]
    omega
   ·rw [LR,<-ny] at ho
    rcases Az.1 ho with ho|ho
    ·exact .inl ho
    ·rw [Ad] at ho;exact .inr ho
  ·
   have FR: ∀f',f+1<=f'-> ∃JY,f'=JY+1/\f<=JY:= λf' h=>⟨f'-1,by omega,by omega⟩
   have hS:=cw.pms h1 h2
   have hmul:(n-k)*(n+2)=(n-(k+1))*(n+2)+(n+2):=by
    rw [show n-k=n-(k+1)+1 by omega,Dj,Sh]
   cases Kd:(s.2.getD k []).getD (ap q k) none with
   |some t=>
    have e: ∀f',gq n (f'+1) k q s=kD n f' (k+1) (Af q (Bb t)) s:= λf'=>by simp only [gq];rw [Kd]
    obtain ⟨t1,t2,t3,t4⟩:=cw.row.rt _ _ Kd
    have hx:=hq.comp t1.inv
    have hfx:=Fx.div hq t1 hf t2 hk t3
    have hxg:Gn n (s.1.getD k []) (Af q (Bb t)):=cz.comp hS KC (cz.rU hS t4)
    obtain ⟨a1,a2⟩:=ihG (k+1) _ s (by omega) cw.v hx hfx (by unfold SH;unfold mI at hmu;omega)
    refine ⟨?_,λf' KB=>by obtain ⟨JY,rfl,ZQ⟩:=FR f' KB;rw [e JY,e f];exact a2 JY ZQ⟩
    rw [e f]
    generalize kD n f (k+1) (Af q (Bb t)) s=s' at a1
    obtain ⟨av,ag,ai,ags⟩:=a1
    obtain ⟨w1,w2,w3,w4⟩:=av
    obtain ⟨lo1,lo2⟩:=ag.low k (by omega)
    have At9:Part n k s':=⟨w1,w2,by rw [lo1];exact cw.pg,by rw [lo1,lo2];exact cw.row,w3,w4,λg DC=>by
     rw [lo1]
     rcases ags _ DC with h|h
     ·exact cw.sub g h
     ·cases h;exact hxg⟩
    refine ⟨⟨ag.It (by omega),lo1,At9,λq' q1 q2 ⟨t',e1,e2⟩=>?_,λy t e=> .inl (by rw [lo2] at e;exact e)⟩,t,by rw [lo2];exact Kd,?_⟩
    ·obtain ⟨u1,u2,u3,_⟩:=cw.row.rt _ _ e1
     exact ⟨t',by rw [lo2];exact e1,FG h1 h2 hk cw.comp w3 (ag.It (by omega)) (q1.comp u1.inv) (Fx.div q1 u1 q2 u2 hk u3) e2⟩
    ·exact (Ug h1 h2 _ (k+1) s' (by omega) w3 _ hx hfx).2 ai
   |none=>
    have e: ∀f',gq n (f'+1) k q s=((s.1.getD k []).map λo=>Af q (o.getD [])).foldl (λs q=>gq n f' k q s) (s.1,s.2.set k ((s.2.getD k []).set (ap q k) (some q))):= λf'=>by simp only [gq];rw [Kd]
    have hy:ap q k<n:=hq.lt hk
    have KE:=cw.row.rl
    have hyk:ap q k≠k:= λh=>by rw [h,cw.row.r0] at Kd;cases Kd
    have LV:=cw.l2
    generalize qo:(s.2.getD k []).set (ap q k) (some q)=Xj
    have dO: ∀y,Xj.getD y none=if ap q k=y then some q else (s.2.getD k []).getD y none:= λy=>by
     rw [<-qo,Li]
     by_cases h:ap q k=y
     ·rw [Ab ⟨h,by omega⟩,Ab h]
     ·rw [Ak λhh=>h hh.1,Ak h]
    have s12: ∀i,(s.2.set k Xj).getD i []=if i=k then Xj else s.2.getD i []:= λi=>by
     rw [Li]
     by_cases e:k=i
     ·subst e;rw [Ab ⟨rfl,by omega⟩,Ab rfl]
     ·rw [Ak (λhh=>e hh.1),Ak (Gg e)]
    have vL: ∀i,k+1<=i->s.1.getD i []=s.1.getD i []/\(s.2.set k Xj).getD i []=s.2.getD i []:= λi hi=>⟨rfl,by rw [s12 i,Ak (by omega)]⟩
    have ZV:((s.1,s.2.set k Xj):Cf×Cf).2.getD k []=Xj:=by show (s.2.set k Xj).getD k []=Xj;rw [s12 k,Ab rfl]
    have FM:Part n k (s.1,s.2.set k Xj):=by
     refine ⟨cw.l1,by simpa using LV,cw.pg,?_,Uu _ (k+1) vL cw.comp,bN _ (k+1) vL cw.gb,cw.sub⟩
     rw [ZV]
     refine ⟨by rw [<-qo,Cm];exact KE,by rw [dO k,Ak hyk];exact cw.row.r0,λy t e=>?_⟩
     rw [dO y] at e
     split at e
     ·rename_i h
      cases e
      exact ⟨hq,hf,h,KC⟩
     ·exact cw.row.rt y t e
    have m4:Wa k s (s.1,s.2.set k Xj):=by
     refine ⟨rfl,by simp,λi hi=>⟨rfl,?_⟩,λi o ho=>ho,λi y t et=>?_,λi=>?_⟩
     ·show (s.2.set k Xj).getD i []=_;rw [s12 i,Ak (by omega)]
     ·show ((s.2.set k Xj).getD i []).getD y none=some t
      rw [s12 i]
      split
      ·rename_i hi
       subst hi
       rw [dO y]
       split
       ·rename_i h;rw [<-h,Kd] at et;cases et
       ·exact et
      ·exact et
     ·show ((s.2.set k Xj).getD i []).length=_
      rw [s12 i]
      split
      ·rename_i hi;subst hi;rw [<-qo,Cm]
      ·rfl
    have hnn:Mf Xj+1=Mf (s.2.getD k []):=by rw [<-qo];exact pk Kd (by omega)
    have hmP:mI n k (s.1,s.2.set k Xj)<=f:=by
     unfold mI
     rw [ZV]
     unfold mI at hmu
     omega
    have UF: ∀x∈(s.1.getD k []).map (λo=>Af q (o.getD [])),Pm n x/\Fx k x/\Gn n (s.1.getD k []) x:= λx hx=>by
     obtain ⟨o,ho,rfl⟩:=Bg.1 hx
     obtain ⟨g,rfl,g1,g2⟩:=cw.pg o ho
     exact ⟨hq.comp g1,Fx.comp hq g1 hf g2 (by omega), .mul KC ho⟩
    obtain ⟨r1,r2,r3⟩:=jS hk (gs:=s.1.getD k []) (λq s nA Se a b c d=>ihP k q s hk nA a b (by rw [Se];exact c) d) ((s.1.getD k []).map λo=>Af q (o.getD [])) (s.1,s.2.set k Xj) FM rfl UF hmP
    have e': ∀f',gq n (f'+1) k q s=((s.1.getD k []).map λo=>Af q (o.getD [])).foldl (λs q=>gq n f' k q s) (s.1,s.2.set k Xj):= λf'=>by rw [e f',qo]
    refine ⟨?_,λf' KB=>by obtain ⟨JY,rfl,ZQ⟩:=FR f' KB;rw [e' JY,e' f];exact r3 JY ZQ⟩
    rw [e' f]
    generalize ((s.1.getD k []).map λo=>Af q (o.getD [])).foldl (λs q=>gq n f k q s) (s.1,s.2.set k Xj)=s' at r1 r2
    have FP:s'.1.getD k []=s.1.getD k []:=r1.same
    have Air: ∀x,Pm n x->Fx k x->Hd n k s x->Hd n k (s.1,s.2.set k Xj) x:= λx x1 x2 ⟨t',e1,e2⟩=>by
     obtain ⟨u1,u2,u3,_⟩:=cw.row.rt _ _ e1
     exact ⟨t',m4.vu k _ _ e1,FG h1 h2 hk cw.comp FM.comp m4 (x1.comp u1.inv) (Fx.div x1 u1 x2 u2 hk u3) e2⟩
    have hqq:(s'.2.getD k []).getD (ap q k) none=some q:=r1.grow.vu k _ _ (by rw [ZV,dO,Ab rfl])
    refine ⟨⟨m4.trans r1.grow (Ao _),FP,r1.part,λx x1 x2 x3=>r1.Fk x x1 x2 (Air x x1 x2 x3),λy t ht=>?_⟩,q,hqq,?_⟩
    ·rcases r1.new y t ht with e1|e1
     ·rw [ZV,dO y] at e1
      split at e1
      ·cases e1
       refine .inr λg hg=>r2 _ (Bg.2 ⟨some g,hg,rfl⟩)
      ·exact .inl e1
     ·exact .inr e1
    ·rw [Wd hq]
     exact (Ug h1 h2 _ (k+1) s' (by omega) r1.part.comp _ (Pm.id h1 h2) (λi hi=>iq (by omega))).2 .id
theorem QO {n f k:Nat} {p:List Int} {s:Cf×Cf} :kD n (f+1) k p s=if Iu s.2 (n-k) k p=true then s else
  ((known (s.2.getD k [])).map λu=>Af u p).foldl (λs q=>gq n f k q s) (s.1.set k (s.1.getD k []++ [some p]),s.2):=by simp only [kD]
theorem QP {n f k:Nat} {p:List Int} {s:Cf×Cf} :gq n (f+1) k p s=match (s.2.getD k []).getD (ap p k) none with
  |some t=>kD n f (k+1) (Af p (Bb t)) s
  |none=>((s.1.getD k []).map λo=>Af p (o.getD [])).foldl (λs q=>gq n f k q s) (s.1,s.2.set k ((s.2.getD k []).set (ap p k) (some p))):=by simp only [gq]<;>rfl
theorem Ahh {n k:Nat} (h2:n<=20):(n-k)*(n+2)<=440:=Ib (dN (show n-k<=20 by omega) (show n+2<=22 by omega)) (by omega)
theorem Aax {n k f:Nat} (h2:n<=20) (hf:500<=f):SH n k<=f:=by have:=Ahh (k:=k) h2;unfold SH;omega
theorem Ajs {n k f:Nat} {s:Cf×Cf} (h2:n<=20) (hp:Part n k s) (hf:500<=f):mI n k s<=f:=by
 have:=Ahh (k:=k) h2
 have h:=j8 (s.2.getD k [])
 have hr:=hp.row.rl
 unfold mI;omega
theorem Ahx {n k:Nat} (h1:1<=n) (h2:n<=20) {p:List Int} {s:Cf×Cf} (hk:k<=n) (hv:V n (n-k) k s) (hp:Pm n p) (hf:Fx k p):YG n (n-k) k s p (kD n 1000 k p s):=
 ((QQ h1 h2 1000).1 k p s hk hv hp hf (Aax h2 (by omega))).1
def iO (n k:Nat) (qs:List (List Int)) (s:Cf×Cf):Cf×Cf:=qs.foldl (λs q=>gq n 1000 k q s) s
theorem sQ {n k:Nat} (h1:1<=n) (h2:n<=20) (hk:k<n) {qs:List (List Int)} {s:Cf×Cf} (hp:Part n k s) (hq: ∀q∈qs,Pm n q/\Fx k q/\Gn n (s.1.getD k []) q):
  cA n k s (iO n k qs s)/\qs.foldl (λs q=>gq n 999 k q s) s=iO n k qs s:=by
 have h:=jS hk (f:=999) (gs:=s.1.getD k []) (λq s' nA Se a b c d=>(QQ h1 h2 999).2 k q s' hk nA a b (by rw [Se];exact c) d) qs s hp rfl hq (Ajs h2 hp (by omega))
 have e:=h.2.2 1000 (by omega)
 refine ⟨?_,e.symm⟩
 unfold iO
 rw [e];exact h.1
theorem sR {n k:Nat} {qs:List (List Int)} {s:Cf×Cf} {j:Nat} (hj:j<qs.length):iO n k (qs.take (j+1)) s=gq n 1000 k qs[j] (iO n k (qs.take j) s):=by
 unfold iO
 rw [Ia,Ac hj,Tr,ct]
 rfl
theorem DJ {n k:Nat} (h1:1<=n) (h2:n<=20) {p:List Int} {s:Cf×Cf} (RN:k<n) (hv:V n (n-k) k s) (hp:Pm n p) (hf:Fx k p):
  Part n k (s.1.set k (s.1.getD k []++ [some p]),s.2)/\ ∀q∈(known (s.2.getD k [])).map (λu=>Af u p),Pm n q/\Fx k q/\Gn n ((s.1.set k (s.1.getD k []++ [some p])).getD k []) q:=by
 obtain ⟨v1,v2,hc,xC⟩:=hv
 obtain ⟨m,hm⟩: ∃m,n-k=m+1:=⟨n-k-1,by omega⟩
 have FL:n-(k+1)=m:=by omega
 rw [hm] at hc xC
 obtain ⟨c1,c2,c3⟩:=hc
 generalize ny:s.1.getD k []++ [some p]=gs
 have Zx:some p∈gs:=by rw [<-ny];simp
 have Ps: ∀o∈s.1.getD k [],o∈gs:= λo ho=>by rw [<-ny];exact Bj _ ho
 have hg:PG n k gs:= λo ho=>by
  rw [<-ny] at ho
  rcases Az.1 ho with ho|ho
  ·exact c2.pg o ho
  ·rw [Ad] at ho;exact ⟨p,ho,hp,hf⟩
 have uz: ∀i,(s.1.set k gs).getD i []=if i=k then gs else s.1.getD i []:= λi=>by
  rw [Li]
  by_cases e:k=i
  ·subst e;rw [Ab ⟨rfl,by omega⟩,Ab rfl]
  ·rw [Ak (λhh=>e hh.1),Ak (Gg e)]
 have vL: ∀i,k+1<=i->(s.1.set k gs).getD i []=s.1.getD i []/\s.2.getD i []=s.2.getD i []:= λi hi=>⟨by rw [uz i,Ak (by omega)],rfl⟩
 refine ⟨⟨by simpa using v1,v2,?_,?_,?_,?_,λg Se=>?_⟩,λq hq=>?_⟩
 ·show PG n k ((s.1.set k gs).getD k []);rw [uz k,Ab rfl];exact hg
 ·show Vd n k ((s.1.set k gs).getD k []) _
  rw [uz k,Ab rfl]
  exact ⟨c2.rl,c2.r0,λy t e=>⟨(c2.rt y t e).1,(c2.rt y t e).2.1,(c2.rt y t e).2.2.1,(c2.rt y t e).2.2.2.mono λg hg=>Ps _ hg⟩⟩
 ·rw [FL];exact Uu m (k+1) vL c1
 ·rw [FL];exact bN m (k+1) vL xC.1
 ·have Se:some g∈(s.1.set k gs).getD (k+1) []:=Se
  rw [(vL (k+1) (Ao _)).1] at Se
  show Gn n ((s.1.set k gs).getD k []) g
  rw [uz k,Ab rfl]
  exact (c3 g Se).mono λg hg=>Ps _ hg
 ·rw [uz k,Ab rfl]
  obtain ⟨u,hu,rfl⟩:=Bg.1 hq
  obtain ⟨y,hy⟩:=ke.1 hu
  obtain ⟨t1,t2,t3,t4⟩:=c2.rt _ _ hy
  exact ⟨t1.comp hp,Fx.comp t1 hp t2 hf (by omega), .mul (t4.mono λg hg=>Ps _ hg) Zx⟩
theorem YP {n k:Nat} (h1:1<=n) (h2:n<=20) {p:List Int} {s:Cf×Cf} (RN:k<n) (hv:V n (n-k) k s) (hp:Pm n p) (hf:Fx k p) (hh: ¬Iu s.2 (n-k) k p=true):
  kD n 1000 k p s=iO n k ((known (s.2.getD k [])).map λu=>Af u p) (s.1.set k (s.1.getD k []++ [some p]),s.2):=by
 obtain ⟨a1,a2⟩:=DJ h1 h2 RN hv hp hf
 rw [<-(sQ h1 h2 RN a1 a2).2]
 exact (QO (f:=999)).trans (Ak hh)
theorem QN {n k:Nat} {p:List Int} {s:Cf×Cf} (hh:Iu s.2 (n-k) k p=true):kD n 1000 k p s=s:=by
 exact (QO (f:=999)).trans (Ab hh)
theorem YR {n k:Nat} (h1:1<=n) (h2:n<=20) {q t:List Int} {s:Cf×Cf} (hk:k<n) (cw:Part n k s) (hq:Pm n q) (hf:Fx k q) (Kd:(s.2.getD k []).getD (ap q k) none=some t):
  gq n 1000 k q s=kD n 1000 (k+1) (Af q (Bb t)) s:=by
 obtain ⟨t1,t2,t3,t4⟩:=cw.row.rt _ _ Kd
 rw [((QQ h1 h2 999).1 (k+1) _ s (by omega) cw.v (hq.comp t1.inv) (Fx.div hq t1 hf t2 hk t3) (Aax h2 (by omega))).2 1000 (by omega)]
 refine (QP (f:=999)).trans ?_
 rw [Kd]
theorem DK {n k:Nat} {q:List Int} {s:Cf×Cf} (hk:k<n) (cw:Part n k s) (hq:Pm n q) (hf:Fx k q) (KC:Gn n (s.1.getD k []) q) (Kd:(s.2.getD k []).getD (ap q k) none=none):
  Part n k (s.1,s.2.set k ((s.2.getD k []).set (ap q k) (some q)))/\ ∀x∈(s.1.getD k []).map (λo=>Af q (o.getD [])),Pm n x/\Fx k x/\Gn n (s.1.getD k []) x:=by
 have KE:=cw.row.rl
 have hy:ap q k<n:=hq.lt hk
 have hyk:ap q k≠k:= λh=>by rw [h,cw.row.r0] at Kd;cases Kd
 have LV:=cw.l2
 generalize qo:(s.2.getD k []).set (ap q k) (some q)=Xj
 have dO: ∀y,Xj.getD y none=if ap q k=y then some q else (s.2.getD k []).getD y none:= λy=>by
  rw [<-qo,Li]
  by_cases h:ap q k=y
  ·rw [Ab ⟨h,by omega⟩,Ab h]
  ·rw [Ak λhh=>h hh.1,Ak h]
 have s12: ∀i,(s.2.set k Xj).getD i []=if i=k then Xj else s.2.getD i []:= λi=>by
  rw [Li]
  by_cases e:k=i
  ·subst e;rw [Ab ⟨rfl,by omega⟩,Ab rfl]
  ·rw [Ak (λhh=>e hh.1),Ak (Gg e)]
 have vL: ∀i,k+1<=i->s.1.getD i []=s.1.getD i []/\(s.2.set k Xj).getD i []=s.2.getD i []:= λi hi=>⟨rfl,by rw [s12 i,Ak (by omega)]⟩
 have ZV:((s.1,s.2.set k Xj):Cf×Cf).2.getD k []=Xj:=by show (s.2.set k Xj).getD k []=Xj;rw [s12 k,Ab rfl]
 refine ⟨⟨cw.l1,by simpa using LV,cw.pg,?_,Uu _ (k+1) vL cw.comp,bN _ (k+1) vL cw.gb,cw.sub⟩,λx hx=>?_⟩
 ·rw [ZV]
  refine ⟨by rw [<-qo,Cm];exact KE,by rw [dO k,Ak hyk];exact cw.row.r0,λy t e=>?_⟩
  rw [dO y] at e
  split at e
  ·rename_i h
   cases e
   exact ⟨hq,hf,h,KC⟩
  ·exact cw.row.rt y t e
 ·obtain ⟨o,ho,rfl⟩:=Bg.1 hx
  obtain ⟨g,rfl,g1,g2⟩:=cw.pg o ho
  exact ⟨hq.comp g1,Fx.comp hq g1 hf g2 (by omega), .mul KC ho⟩
theorem YQ {n k:Nat} (h1:1<=n) (h2:n<=20) {q:List Int} {s:Cf×Cf} (hk:k<n) (cw:Part n k s) (hq:Pm n q) (hf:Fx k q) (KC:Gn n (s.1.getD k []) q) (Kd:(s.2.getD k []).getD (ap q k) none=none):
  gq n 1000 k q s=iO n k ((s.1.getD k []).map λo=>Af q (o.getD [])) (s.1,s.2.set k ((s.2.getD k []).set (ap q k) (some q))):=by
 obtain ⟨a1,a2⟩:=DK hk cw hq hf KC Kd
 rw [<-(sQ h1 h2 hk a1 a2).2]
 refine (QP (f:=999)).trans ?_
 rw [Kd]
def Pp (n:Nat) (gens:List PO):Cf×Cf:=gens.foldl (λs o=>kD n 1000 0 (o.getD []) s) (Tk n,Za n)
theorem yQ {n:Nat} {gens:List PO} {j:Nat} (hj:j<gens.length):Pp n (gens.take (j+1))=kD n 1000 0 (gens[j].getD []) (Pp n (gens.take j)):=by
 unfold Pp
 rw [Ia,Ac hj,Tr,ct]
 rfl
theorem lJ {n:Nat} (h1:1<=n) (h2:n<=20): ∀(gens:List PO) (s:Cf×Cf),PmL n gens->V n n 0 s->V n n 0 (gens.foldl (λs o=>kD n 1000 0 (o.getD []) s) s)/\
  Wa 0 s (gens.foldl (λs o=>kD n 1000 0 (o.getD []) s) s)/\(∀g,some g∈gens->Gn n ((gens.foldl (λs o=>kD n 1000 0 (o.getD []) s) s).1.getD 0 []) g)/\ ∀o∈(gens.foldl (λs o=>kD n 1000 0 (o.getD []) s) s).1.getD 0 [],o∈s.1.getD 0 []\/o∈gens
 | [],s,_,hv=>⟨hv,Wa.refl _ _,(λ_ hg=>by cases hg),λ_ ho=> .inl ho⟩
 |o::gens,s,hg,hv=>by
  obtain ⟨g,rfl,Ts⟩:=hg o (by simp)
  have ha:=Ahx h1 h2 (k:=0) (Ja _) (by rw [Nat.sub_zero];exact hv) Ts (λi hi=>absurd hi (Dn _))
  have RJ:=ha.v
  rw [Nat.sub_zero] at RJ
  obtain ⟨a1,a2,a3,a4⟩:=lJ h1 h2 gens (kD n 1000 0 g s) (λo ho=>hg o (by simp [ho])) RJ
  refine ⟨a1,ha.grow.trans a2 (Ao _),λg' Se=>?_,λo ho=>?_⟩
  ·rcases Be.1 Se with e|Se
   ·cases e;exact ha.Ajn.mono λg hg=>a2.xx _ _ hg
   ·exact a3 g' Se
  ·rcases a4 o ho with h|h
   ·rcases ha.gens o h with h|h
    ·exact .inl h
    ·exact .inr (by simp [h])
   ·exact .inr (by simp [h])
theorem oK {n:Nat} (h1:1<=n) (h2:n<=20) {gens:List PO} (hg:PmL n gens):V n n 0 (Pp n gens):=(lJ h1 h2 gens _ hg (rX h1 h2)).1
theorem qj {n:Nat} (h1:1<=n) (h2:n<=20) {gens:List PO} (hg:PmL n gens) {p:List Int} (hp:Pm n p):Iu (Pp n gens).2 n 0 p=true↔Gn n gens p:=by
 obtain ⟨a1,a2,a3,a4⟩:=lJ h1 h2 gens _ hg (rX h1 h2)
 have hS:DB n λg=>some g∈gens:=⟨⟨h1,h2⟩,λg Se=>by obtain ⟨g',e,h⟩:=hg _ Se;cases e;exact h⟩
 have Ps: ∀g,some g∈(Pp n gens).1.getD 0 []->some g∈gens:= λg Se=>by
  rcases a4 _ Se with h|h
  ·have h:some g∈(Tk n).getD 0 []:=h
   rw [Yz] at h;cases h
  ·exact h
 have hS':DB n λg=>some g∈(Pp n gens).1.getD 0 []:=⟨⟨h1,h2⟩,λg Se=>hS.2 g (Ps g Se)⟩
 refine (Ug h1 h2 n 0 (Pp n gens) (by omega) a1.2.2.1 p hp λi hi=>absurd hi (Dn _)).trans ⟨λh=>h.mono Ps,λh=>h.trans hS' λg Se=>a3 g Se⟩
def Tj (T:Cf):Nat->Nat->List Int->List Int×Int×Unit
 |0,l,p=>(p,(l:Int),())
 |k+1,l,p=>match (T.getD l []).getD (Hi p (l:Int)).toNat none with
  |none=>(p,(l:Int),())
  |some t=>Tj T k (l+1) (Af p (Bb t))
theorem IG {T:Cf} : ∀(k l:Nat) (p:List Int),(Tj T k l p).2.1=((l+k:Nat):Int)↔Iu T k l p=true
 |0,l,p=>by simp [Tj,Iu]
 |k+1,l,p=>by
  unfold Tj Iu
  cases (T.getD l []).getD (Hi p (l:Int)).toNat none with
  |none=>
   constructor
   ·intro h
    have h:(l:Int)=((l+(k+1):Nat):Int):=h
    omega
   ·intro h;cases h
  |some t=>
   have h:=IG (T:=T) k (l+1) (Af p (Bb t))
   rw [show l+1+k=l+(k+1) by omega] at h
   exact h
theorem MP {row:Row} {y:Nat} (h:y<row.length):known (row.take (y+1))=known (row.take y)++(row[y]).toList:=by
 unfold known
 rw [Cy h,List.filterMap_append]
 cases row[y]<;>rfl
theorem xP (row:Row):(known row).length<=row.length:=List.length_filterMap_le _ _
theorem xw {n k:Nat} (h1:1<=n) (h2:n<=20) (hk:k<n) {qs:List (List Int)} {s:Cf×Cf} (hp:Part n k s) (hq: ∀q∈qs,Pm n q/\Fx k q/\Gn n (s.1.getD k []) q) (j:Nat):cA n k s (iO n k (qs.take j) s):=
 (sQ h1 h2 hk hp λq h=>hq q (En h)).1
theorem MW {n k:Nat} {s:Cf×Cf} (hp:Part n k s):mI n k s<SH n k:=by
 have h:=j8 (s.2.getD k [])
 have hr:=hp.row.rl
 unfold mI SH
 omega
theorem Aay {n k:Nat} {s:Cf×Cf} (hk:k<n):SH n (k+1)<mI n k s:=by
 obtain ⟨m,hm⟩: ∃m,n-k=m+1:=⟨n-k-1,by omega⟩
 have FL:n-(k+1)=m:=by omega
 unfold SH mI
 rw [hm,FL,Nat.succ_mul]
 omega
theorem Aex {n k y:Nat} {s:Cf×Cf} {q:List Int} (hk:k<s.2.length) (hy:y<(s.2.getD k []).length) (h:(s.2.getD k []).getD y none=none):
  mI n k (s.1,s.2.set k ((s.2.getD k []).set y (some q)))+1=mI n k s:=by
 have h1:=pk (t:=q) h hy
 have h2:(s.2.set k ((s.2.getD k []).set y (some q))).getD k []=(s.2.getD k []).set y (some q):=by
  rw [Li,Ab ⟨rfl,hk⟩]
 unfold mI
 show _+Mf ((s.2.set k ((s.2.getD k []).set y (some q))).getD k [])+1=_
 rw [h2]
 omega
def bG (n:Int) (g:List (List Int)):Cf×Cf:=Pp n.toNat (g.map some)
def yK (p:PP) (gs:List (List Int)):Prop:=gs.length<=5/\ ∀g∈gs,Di p g=true
theorem yK.take {p:PP} {gs:List (List Int)} (h:yK p gs) (j:Nat):yK p (gs.take j):=⟨by rw [Dc];have:=h.1;omega,λg hg=>h.2 g (En hg)⟩
structure All (t:TT):Prop where
 nj:t.2.1.length<=3000
 len:t.2.2.1.length=t.2.1.length
 nodup:t.2.1.Nodup
 byte: ∀x∈t.2.1,Zs x
 Alo: ∀d∈t.2.2.1,0<=d/\d<=3000
 tl:t.1.length<=20
 pl: ∀x∈t.2.1,x.length<=20
theorem All.short {t:TT} (h:All t):OQ t:=by
 have h1:=h.nj;have h2:=h.len;have h3:=h.tl
 exact ⟨by unfold _root_.Go.Proofs.YtkkdpknjohcekaaGreat.short;omega,⟨by omega,λr hr=>by have:=h.pl r hr;unfold _root_.Go.Proofs.YtkkdpknjohcekaaGreat.short;omega⟩,by unfold _root_.Go.Proofs.YtkkdpknjohcekaaGreat.short;omega⟩
theorem ME {L:List (List Int)} {x:List Int} (hn:L.Nodup) (hx:x∈L):Ep (λq=>decide (q=x)) L 0=((L.idxOf x:Nat):Int):=by
 obtain ⟨k,hk,h1,h2,_⟩:=xG (P:= λq=>decide (q=x)) L 0 (Ey.2 ⟨x,hx,Dl rfl⟩)
 have h3:L[k]=x:=He h2
 have h4:=fq hn hk
 rw [Lh hk,h3] at h4
 rw [h4,<-Bo k]
 exact h1
end Go.Proofs.YtkkdpknjohcekaaGreat
