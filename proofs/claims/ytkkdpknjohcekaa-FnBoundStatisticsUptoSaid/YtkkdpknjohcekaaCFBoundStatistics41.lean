/-
  Part 42 of the proof that the statement FnBoundStatistics holds.
-/
import Derived.Test.YtkkdpknjohcekaaCFBoundStatistics40
namespace Go.Proofs.Ytkkdpknjohcekaa
open Go.RowKit
def ap (p:List Int) (i:Nat):Nat:=(Gw p (i:Int)).toNat
def Pm (n:Nat) (p:List Int):Prop:=p.length=n/\bx p
theorem Pm.n1 {n:Nat} {p:List Int} (h:Pm n p):1<=n:=h.1▸h.2.pos
theorem Pm.n2 {n:Nat} {p:List Int} (h:Pm n p):n<=20:=h.1▸h.2.len
theorem Pm.Zk {n:Nat} {p:List Int} (h:Pm n p) {i:Nat} (hi:i<n):Gw p (i:Int)=(ap p i:Int)/\ap p i<n:=by
 have l5:i<p.length:=by rw [h.1];exact hi
 have:=h.2.row _ (Al l5)
 unfold ap
 rw [Ig l5]
 have h1:=h.1
 omega
theorem Pm.lt {n:Nat} {p:List Int} (h:Pm n p) {i:Nat} (hi:i<n):ap p i<n:=(h.Zk hi).2
theorem Pm.ext {n:Nat} {p q:List Int} (h:Pm n p) (k:Pm n q) (e: ∀i,i<n->ap p i=ap q i):p=q:=by
 refine eL (by rw [h.1,k.1]) λi h1 h2=>?_
 have hi:i<n:=by rw [<-h.1];exact h1
 have a:=(h.Zk hi).1
 have b:=(k.Zk hi).1
 rw [Ig h1] at a
 rw [Ig h2] at b
 rw [a,b,e i hi]
theorem Pm.inj {n:Nat} {p:List Int} (h:Pm n p) {i j:Nat} (hi:i<n) (hj:j<n) (e:ap p i=ap p j):i=j:=
 h.2.inj i j (by rw [h.1];exact hi) (by rw [h.1];exact hj) e
theorem Pm.TM {n:Nat} {p:List Int} (h:Pm n p) {k:Nat} (hk:k<n): ∃i,i<n/\ap p i=k:=by
 obtain ⟨i,h1,h2⟩:=h.2.TM k (by rw [h.1];exact hk)
 exact ⟨i,by rw [<-h.1];exact h1,h2⟩
theorem Pm.of {n:Nat} {p:List Int} (hl:p.length=n) (h1:1<=n) (h2:n<=20) (f:Nat->Nat) (hf: ∀i,i<n->p[i]?=some (f i:Int)/\f i<n) (hi: ∀i j,i<n->j<n->f i=f j->i=j):Pm n p:=by
 refine ⟨hl,by omega,by omega,λy hy=>?_,?_⟩
 ·obtain ⟨i,hi,rfl⟩:=Bf.1 hy
  obtain ⟨h3,h4⟩:=hf i (by omega)
  rw [Ab hi] at h3
  rw [Bb h3]
  omega
 ·refine Dp.2 λi j h3 h4 h5 h6=>?_
  have a:=(hf i (by omega)).1
  have b:=(hf j (by omega)).1
  rw [Ab h3] at a
  rw [Ab h4] at b
  rw [Bb a,Bb b] at h6
  have:=hi i j (by omega) (by omega) (by omega)
  omega
theorem DC {n:Nat} {p q:List Int} (hp:Pm n p) (hq:Pm n q) {i:Nat} (hi:i<n):(Ai p q)[i]?=some (ap q (ap p i):Int):=by
 have h1:i<p.length:=by rw [hp.1];exact hi
 unfold Ai
 rw [En,Ab h1]
 have a:=(hp.Zk hi).1
 rw [Ig h1] at a
 simp only [Am,a]
 rw [(hq.Zk (hp.Zk hi).2).1]
theorem Pm.comp {n:Nat} {p q:List Int} (hp:Pm n p) (hq:Pm n q):Pm n (Ai p q):=
 Pm.of (by rw [Pl,hp.1]) hp.n1 hp.n2 (λi=>ap q (ap p i)) (λi hi=>⟨DC hp hq hi,hq.lt (hp.lt hi)⟩) λi j hi hj e=>hp.inj hi hj (hq.inj (hp.lt hi) (hp.lt hj) e)
theorem XA {p:List Int} {i k:Nat} (h:p[i]?=some (k:Int)):ap p i=k:=by
 unfold ap Gw
 rw [Aj,Ah,h]
 simp
theorem Ju {n:Nat} {p q:List Int} (hp:Pm n p) (hq:Pm n q) {i:Nat} (hi:i<n):ap (Ai p q) i=ap q (ap p i):=XA (DC hp hq hi)
theorem vd {n i:Nat} (hi:i<n):(upto n)[i]?=some (i:Int):=by simp [upto,hi]
theorem ia {n i:Nat} (hi:i<n):ap (upto n) i=i:=XA (vd hi)
theorem Pm.id {n:Nat} (h1:1<=n) (h2:n<=20):Pm n (upto n):=Pm.of (by simp [upto]) h1 h2 (λi=>i) (λi hi=>⟨vd hi,hi⟩) λ_ _ _ _ e=>e
theorem QM {n:Nat} {p:List Int} (hp:Pm n p) {i:Nat} (hi:i<n):(Bg p)[ap p i]?=some (i:Int):=ZF hp.2 (by rw [hp.1];exact hi)
theorem jL {n:Nat} {p:List Int} (hp:Pm n p) {i:Nat} (hi:i<n):ap (Bg p) (ap p i)=i:=XA (QM hp hi)
theorem yA {n:Nat} {p:List Int} (hp:Pm n p) {k:Nat} (hk:k<n):ap p (ap (Bg p) k)=k:=by
 obtain ⟨i,hi,rfl⟩:=hp.TM hk
 rw [jL hp hi]
theorem Pm.inv {n:Nat} {p:List Int} (hp:Pm n p):Pm n (Bg p):=by
 refine Pm.of (by rw [nA,hp.1]) hp.n1 hp.n2 (λk=>ap (Bg p) k) (λk hk=>?_) λi j hi hj e=>?_
 ·obtain ⟨i,hi,rfl⟩:=hp.TM hk
  rw [jL hp hi]
  exact ⟨QM hp hi,hi⟩
 ·rw [<-yA hp hi,<-yA hp hj,e]
theorem Ie {n:Nat} {p q r:List Int} (hp:Pm n p) (hq:Pm n q) (hr:Pm n r):Ai (Ai p q) r=Ai p (Ai q r):=
 ((hp.comp hq).comp hr).ext (hp.comp (hq.comp hr)) λi hi=>by rw [Ju (hp.comp hq) hr hi,Ju hp hq hi,Ju hp (hq.comp hr) hi,Ju hq hr (hp.lt hi)]
theorem comp_id {n:Nat} {p:List Int} (hp:Pm n p):Ai p (upto n)=p:=
 (hp.comp (Pm.id hp.n1 hp.n2)).ext hp λi hi=>by rw [Ju hp (Pm.id hp.n1 hp.n2) hi,ia (hp.lt hi)]
theorem id_comp {n:Nat} {p:List Int} (hp:Pm n p):Ai (upto n) p=p:=
 ((Pm.id hp.n1 hp.n2).comp hp).ext hp λi hi=>by rw [Ju (Pm.id hp.n1 hp.n2) hp hi,ia hi]
theorem dO {n:Nat} {p:List Int} (hp:Pm n p):Ai p (Bg p)=upto n:=
 (hp.comp hp.inv).ext (Pm.id hp.n1 hp.n2) λi hi=>by rw [Ju hp hp.inv hi,jL hp hi,ia hi]
theorem bR {n:Nat} {p:List Int} (hp:Pm n p):Ai (Bg p) p=upto n:=
 (hp.inv.comp hp).ext (Pm.id hp.n1 hp.n2) λi hi=>by rw [Ju hp.inv hp hi,yA hp hi,ia hi]
theorem tG {n:Nat} {p q:List Int} (hp:Pm n p) (hq:Pm n q) (h:Ai p q=upto n):Bg p=q:=by
 rw [<-comp_id hp.inv,<-h,<-Ie hp.inv hp hq,bR hp,id_comp hq]
theorem inv_mul {n:Nat} {p q:List Int} (hp:Pm n p) (hq:Pm n q):Bg (Ai p q)=Ai (Bg q) (Bg p):=
 tG (hp.comp hq) (hq.inv.comp hp.inv) (by
  rw [Ie hp hq (hq.inv.comp hp.inv),<-Ie hq hq.inv hp.inv,dO hq,id_comp hp.inv,dO hp])
theorem inv_inv {n:Nat} {p:List Int} (hp:Pm n p):Bg (Bg p)=p:=tG hp.inv hp (bR hp)
theorem ZG {n:Nat} (h1:1<=n) (h2:n<=20):Bg (upto n)=upto n:=tG (Pm.id h1 h2) (Pm.id h1 h2) (comp_id (Pm.id h1 h2))
inductive cq (n:Nat) (S:List Int->Prop):List Int->Prop where
 |id:cq n S (upto n)
 |mul {p g:List Int} :cq n S p->S g->cq n S (Ai p g)
 |inv {p g:List Int} :cq n S p->S g->cq n S (Ai p (Bg g))
def BX (n:Nat) (S:List Int->Prop):Prop:=(1<=n/\n<=20)/\ ∀g,S g->Pm n g
theorem cq.pm {n:Nat} {S:List Int->Prop} (hS:BX n S) {p:List Int} (h:cq n S p):Pm n p:=by
 induction h with
 |id=>exact Pm.id hS.1.1 hS.1.2
 |mul _ hg ih=>exact ih.comp (hS.2 _ hg)
 |inv _ hg ih=>exact ih.comp (hS.2 _ hg).inv
theorem cq.comp {n:Nat} {S:List Int->Prop} (hS:BX n S) {p q:List Int} (hp:cq n S p) (hq:cq n S q):cq n S (Ai p q):=by
 induction hq with
 |id=>rw [comp_id (hp.pm hS)];exact hp
 |mul hq hg ih=>rw [<-Ie (hp.pm hS) (hq.pm hS) (hS.2 _ hg)];exact .mul ih hg
 |inv hq hg ih=>rw [<-Ie (hp.pm hS) (hq.pm hS) (hS.2 _ hg).inv];exact .inv ih hg
theorem cq.one {n:Nat} {S:List Int->Prop} (hS:BX n S) {g:List Int} (hg:S g):cq n S g:=by
 have:=cq.mul (n:=n) (S:=S) .id hg
 rwa [id_comp (hS.2 g hg)] at this
theorem cq.Aj0 {n:Nat} {S:List Int->Prop} (hS:BX n S) {g:List Int} (hg:S g):cq n S (Bg g):=by
 have:=cq.inv (n:=n) (S:=S) .id hg
 rwa [id_comp (hS.2 g hg).inv] at this
theorem cq.sd {n:Nat} {S:List Int->Prop} (hS:BX n S) {p:List Int} (hp:cq n S p):cq n S (Bg p):=by
 induction hp with
 |id=>rw [ZG hS.1.1 hS.1.2];exact .id
 |mul hq hg ih=>rw [inv_mul (hq.pm hS) (hS.2 _ hg)];exact (cq.Aj0 hS hg).comp hS ih
 |inv hq hg ih=>rw [inv_mul (hq.pm hS) (hS.2 _ hg).inv,inv_inv (hS.2 _ hg)];exact (cq.one hS hg).comp hS ih
theorem cq.trans {n:Nat} {S S':List Int->Prop} (hS':BX n S') (h: ∀g,S g->cq n S' g) {p:List Int} (hp:cq n S p):cq n S' p:=by
 induction hp with
 |id=>exact .id
 |mul _ hg ih=>exact ih.comp hS' (h _ hg)
 |inv _ hg ih=>exact ih.comp hS' ((h _ hg).sd hS')
abbrev PO:=Option (List Int)
abbrev Row:=List PO
abbrev Cc:=List Row
def Lb (row:Row):List Int:=(upto row.length).filter λy=>(row.getD y.toNat none).isSome
def Ix (T:Cc):Nat->Nat->List Int->Bool
 |0,_,_=>true
 |k+1,i,p=>match (T.getD i []).getD (Gw p (i:Int)).toNat none with
  |none=>false
  |some t=>Ix T k (i+1) (Ai p (Bg t))
def Me (row:Row):Nat:=row.countP (·.isNone)
def aK (x:Int) (s:Row×List Int) (o:PO):Row×List Int:=
 match s.1.getD (Gw (o.getD []) x).toNat none with
 |some _=>s
 |none=>(s.1.set (Gw (o.getD []) x).toNat (some (Ai ((s.1.getD x.toNat none).getD []) (o.getD []))),s.2++ [Gw (o.getD []) x])
def az (x:Int) (gs:List PO) (s:Row×List Int):Row×List Int:=gs.foldl (aK x) s
def al (gs:List PO):Nat->List Int->Row->Row
 |0,_,row=>row
 |_+1,[],row=>row
 |f+1,x::q,row=>al gs f (az x gs (row,q)).2 (az x gs (row,q)).1
def Zp (gs:List PO) (row:Row):Row:=al gs 100 (Lb row) row
def Ud (row:Row) (y:Int) (g:PO):List Int:=
 Ai (Ai ((row.getD y.toNat none).getD []) (g.getD [])) (Bg ((row.getD (Gw (g.getD []) y).toNat none).getD []))
def gx (row:Row) (gs:List PO):List (List Int):=(Lb row).flatMap λy=>gs.map λg=>Ud row y g
def Ht:Nat->Nat->List Int->Cc×Cc->Cc×Cc
 |0,_,_,s=>s
 |k+1,l,p,s=>
  if Ix s.2 (k+1) l p=true then s else
   (gx (Zp (s.1.getD l []++ [some p]) (s.2.getD l [])) (s.1.getD l []++ [some p])).foldl (λs q=>Ht k (l+1) q s)
    (s.1.set l (s.1.getD l []++ [some p]),s.2.set l (Zp (s.1.getD l []++ [some p]) (s.2.getD l [])))
def Fx (l:Nat) (p:List Int):Prop:= ∀i,i<l->ap p i=i
def Gn (n:Nat) (gs:List PO):List Int->Prop:=cq n λg=>some g∈gs
structure Lvl (n l:Nat) (gs:List PO) (row:Row) (H:List Int->Prop):Prop where
 pg: ∀o∈gs,∃g,o=some g/\Pm n g/\Fx l g
 rl:row.length=n
 r0:row.getD l none=some (upto n)
 rt: ∀y t,row.getD y none=some t->Pm n t/\Fx l t/\ap t l=y/\Gn n gs t
 cl: ∀y t g,row.getD y none=some t->some g∈gs->row.getD (ap g y) none≠none
 sg: ∀y t g t',row.getD y none=some t->some g∈gs->row.getD (ap g y) none=some t'->H (Ai (Ai t g) (Bg t'))
def dH (n:Nat):Nat->Nat->Cc×Cc->Prop
 |0,l,s=>s.1.getD l []= []
 |k+1,l,s=>dH n k (l+1) s/\Lvl n l (s.1.getD l []) (s.2.getD l []) (λq=>Ix s.2 k (l+1) q=true)/\ ∀g,some g∈s.1.getD (l+1) []->Gn n (s.1.getD l []) g
theorem Aek {l1 l2:List Nat} (hn:l1.Nodup) (hs: ∀x∈l1,x∈l2) (hl:l2.length<=l1.length): ∀x∈l2,x∈l1:=by
 induction l1 generalizing l2 with
 |nil=>
  intro x hx
  have:l2= []:=Cl (by simpa using hl)
  rw [this] at hx;cases hx
 |cons a l ih=>
  intro x hx
  obtain ⟨h1,h2⟩:=Bx.1 hn
  have ha:=hs a (by simp)
  by_cases e:x=a
  ·subst e;simp
  ·refine Aq _ (ih (l2:=l2.erase a) h2 (λy hy=>?_) ?_ x ((List.mem_erase_of_ne e).2 hx))
   ·have hya:y≠a:= λe'=>h1 (by rw [<-e'];exact hy)
    exact (List.mem_erase_of_ne hya).2 (hs y (by simp [hy]))
   ·rw [Xj ha]
    simp only [Av] at hl
    omega
theorem MI {n:Nat} {g:List Int} (hg:Pm n g) (D:Nat->Bool) (h: ∀y,y<n->D y=true->D (ap g y)=true) {y:Nat} (hy:y<n) (hD:D y=true): ∃x,x<n/\D x=true/\ap g x=y:=by
 have:=Aek (l1:=((List.range n).filter D).map (ap g)) (l2:=(List.range n).filter D) ?_ ?_ (by simp) y (Cg.2 ⟨Dn.2 hy,hD⟩)
 ·obtain ⟨x,hx,e⟩:=Ay.1 this
  obtain ⟨h1,h2⟩:=Cg.1 hx
  exact ⟨x,Dn.1 h1,h2,e⟩
 ·refine List.pairwise_map.2 (List.Pairwise.imp_of_mem ?_ (List.nodup_range.filter D))
  intro a b ha hb Iv e
  exact Iv (hg.inj (Dn.1 (Cg.1 ha).1) (Dn.1 (Cg.1 hb).1) e)
 ·intro x hx
  obtain ⟨z,hz,rfl⟩:=Ay.1 hx
  obtain ⟨h1,h2⟩:=Cg.1 hz
  exact Cg.2 ⟨Dn.2 (hg.lt (Dn.1 h1)),h z (Dn.1 h1) h2⟩
theorem np {row:Row} {y:Nat} {t:List Int} (h:row.getD y none=some t):y<row.length:=by
 rw [Ah] at h
 refine Bj λhn=>?_
 rw [Dy (by omega)] at h
 cases h
theorem Lvl.pms {n l:Nat} {gs:List PO} {row:Row} {H:List Int->Prop} (h:Lvl n l gs row H):BX n λg=>some g∈gs:=by
 refine ⟨?_,λg hg=>?_⟩
 ·have:=(h.rt l _ h.r0).1
  exact ⟨this.n1,this.n2⟩
 ·obtain ⟨g',e,h1,_⟩:=h.pg _ hg
  cases e;exact h1
theorem Fx.inv {n l:Nat} {p:List Int} (hp:Pm n p) (h:Fx l p) (hl:l<=n):Fx l (Bg p):= λi hi=>by
 have:=jL hp (i:=i) (by omega)
 rwa [h i hi] at this
theorem Fx.comp {n l:Nat} {p q:List Int} (hp:Pm n p) (hq:Pm n q) (h1:Fx l p) (h2:Fx l q) (hl:l<=n):Fx l (Ai p q):= λi hi=>by
 rw [Ju hp hq (by omega),h1 i hi,h2 i hi]
theorem Fx.all {n:Nat} {p:List Int} (hp:Pm n p) (h:Fx n p):p=upto n:=hp.ext (Pm.id hp.n1 hp.n2) λi hi=>by rw [h i hi,ia hi]
theorem Fx.div {n l:Nat} {p t:List Int} (hp:Pm n p) (ht:Pm n t) (h1:Fx l p) (h2:Fx l t) (hl:l<n) (e:ap t l=ap p l):Fx (l+1) (Ai p (Bg t)):= λi hi=>by
 rw [Ju hp ht.inv (by omega)]
 by_cases hil:i<l
 ·rw [h1 i hil];exact h2.inv ht (by omega) i hil
 ·have:i=l:=by omega
  subst this
  rw [<-e,jL ht hl]
theorem Uh {n:Nat} (h1:1<=n) (h2:n<=20): ∀(k l:Nat) (s:Cc×Cc),l+k=n->dH n k l s-> ∀p,Pm n p->Fx l p->(Ix s.2 k l p=true↔Gn n (s.1.getD l []) p)
 |0,l,s,hk,hc,p,hp,hf=>by
  have hl:l=n:=by omega
  subst hl
  rw [hf.all hp]
  exact ⟨λ_=> .id,λ_=>rfl⟩
 |k+1,l,s,hk,hc,p,hp,hf=>by
  obtain ⟨c1,c2,c3⟩:=hc
  have hS:=c2.pms
  have ih:=Uh h1 h2 k (l+1) s (by omega) c1
  have hS1:BX n λg=>some g∈s.1.getD (l+1) []:=⟨⟨h1,h2⟩,λg hg=>(c3 g hg).pm hS⟩
  have gk:l<n:=by omega
  constructor
  ·intro h
   simp only [Ix] at h
   rw [show (Gw p (l:Int)).toNat=ap p l from rfl] at h
   split at h
   ·cases h
   ·rename_i t ht
    obtain ⟨t1,t2,t3,t4⟩:=c2.rt _ _ ht
    have JC:=Fx.div hp t1 hf t2 gk t3
    have hg:=((ih _ (hp.comp t1.inv) JC).1 h).trans hS c3
    have:=cq.comp hS hg t4
    rwa [Ie hp t1.inv t1,bR t1,comp_id hp] at this
  ·intro h
   have key: ∀q,Gn n (s.1.getD l []) q-> ∃t,(s.2.getD l []).getD (ap q l) none=some t/\Gn n (s.1.getD (l+1) []) (Ai q (Bg t)):=by
    intro q hq
    induction hq with
    |id=>
     refine ⟨upto n,by rw [ia gk];exact c2.r0,?_⟩
     rw [ZG h1 h2,comp_id (Pm.id h1 h2)]
     exact .id
    | @mul q g hq hg ihq=>
     obtain ⟨t,e1,e2⟩:=ihq
     have hqp:=cq.pm hS hq
     have Tt:=hS.2 _ hg
     obtain ⟨t1,t2,t3,t4⟩:=c2.rt _ _ e1
     cases e3:(s.2.getD l []).getD (ap g (ap q l)) none with
     |none=>exact absurd e3 (c2.cl _ _ _ e1 hg)
     |some t'=>
      obtain ⟨u1,u2,u3,u4⟩:=c2.rt _ _ e3
      have hsg:=c2.sg _ _ _ _ e1 hg e3
      have hfg:Fx (l+1) (Ai (Ai t g) (Bg t')):=Fx.div (t1.comp Tt) u1 (Fx.comp t1 Tt t2 (by obtain ⟨g',e,_,h⟩:=c2.pg _ hg;cases e;exact h) (by omega)) u2 gk (by rw [u3,Ju t1 Tt gk,t3])
      have JD:=(ih _ ((t1.comp Tt).comp u1.inv) hfg).1 hsg
      refine ⟨t',by rw [Ju hqp Tt gk];exact e3,?_⟩
      have:=cq.comp hS1 e2 JD
      rwa [show Ai (Ai q (Bg t)) (Ai (Ai t g) (Bg t'))=Ai (Ai q g) (Bg t') by
       rw [Ie hqp t1.inv ((t1.comp Tt).comp u1.inv),Ie t1 Tt u1.inv,<-Ie t1.inv t1 (Tt.comp u1.inv),bR t1,id_comp (Tt.comp u1.inv),Ie hqp Tt u1.inv]] at this
    | @inv q g hq hg ihq=>
     obtain ⟨t,e1,e2⟩:=ihq
     have hqp:=cq.pm hS hq
     have Tt:=hS.2 _ hg
     obtain ⟨t1,t2,t3,t4⟩:=c2.rt _ _ e1
     have hy:ap q l<n:=hqp.lt gk
     obtain ⟨x,hx,hD,he⟩:=MI Tt (λy=>((s.2.getD l []).getD y none).isSome) (λy hy hd=>by
      obtain ⟨t0,ht0⟩:=Xk.1 hd
      exact Option.ne_none_iff_isSome.1 (c2.cl _ _ _ ht0 hg)) hy (by rw [e1];rfl)
     obtain ⟨t',e3⟩:=Xk.1 hD
     obtain ⟨u1,u2,u3,u4⟩:=c2.rt _ _ e3
     have hsg:=c2.sg _ _ _ _ e3 hg (by rw [he];exact e1)
     have hfg:Fx (l+1) (Ai (Ai t' g) (Bg t)):=Fx.div (u1.comp Tt) t1 (Fx.comp u1 Tt u2 (by obtain ⟨g',e,_,h⟩:=c2.pg _ hg;cases e;exact h) (by omega)) t2 gk (by rw [t3,Ju u1 Tt gk,u3,he])
     have JD:=cq.sd hS1 ((ih _ ((u1.comp Tt).comp t1.inv) hfg).1 hsg)
     have hax:ap (Bg g) (ap q l)=x:=by rw [<-he,jL Tt hx]
     refine ⟨t',by rw [Ju hqp Tt.inv gk,hax];exact e3,?_⟩
     have:=cq.comp hS1 e2 JD
     rwa [show Ai (Ai q (Bg t)) (Bg (Ai (Ai t' g) (Bg t)))=Ai (Ai q (Bg g)) (Bg t') by
      rw [inv_mul (u1.comp Tt) t1.inv,inv_inv t1,inv_mul u1 Tt,Ie hqp t1.inv (t1.comp (Tt.inv.comp u1.inv)),<-Ie t1.inv t1 (Tt.inv.comp u1.inv),bR t1,id_comp (Tt.inv.comp u1.inv),Ie hqp Tt.inv u1.inv]] at this
   obtain ⟨t,e1,e2⟩:=key p h
   obtain ⟨t1,t2,t3,t4⟩:=c2.rt _ _ e1
   simp only [Ix]
   rw [show (Gw p (l:Int)).toNat=ap p l from rfl,e1]
   exact (ih _ (hp.comp t1.inv) (Fx.div hp t1 hf t2 gk t3)).2 e2
theorem Li {α:Type} (xs:List α) (i j:Nat) (x d:α):(xs.set i x).getD j d=if i=j/\i<xs.length then x else xs.getD j d:=by
 rw [Ah,Ds,Ah]
 by_cases e:i=j
 ·subst e
  by_cases h:i<xs.length
  ·rw [Ac rfl,Ac h,Ac ⟨rfl,h⟩];rfl
  ·rw [Ac rfl,Ak h,Ak (λhh=>h hh.2),Dy (by omega)]
 ·rw [Ak e,Ak (λhh=>e hh.1)]
theorem cq.mono {n:Nat} {S S':List Int->Prop} (h: ∀g,S g->S' g) {p:List Int} (hp:cq n S p):cq n S' p:=by
 induction hp with
 |id=>exact .id
 |mul _ hg ih=>exact .mul ih (h _ hg)
 |inv _ hg ih=>exact .inv ih (h _ hg)
structure Va (n l:Nat) (gs:List PO) (row:Row):Prop where
 rl:row.length=n
 r0:row.getD l none=some (upto n)
 rt: ∀y t,row.getD y none=some t->Pm n t/\Fx l t/\ap t l=y/\Gn n gs t
def PG (n l:Nat) (gs:List PO):Prop:= ∀o∈gs,∃g,o=some g/\Pm n g/\Fx l g
structure Ext (n l:Nat) (gs:List PO) (row:Row) (q:List Int) (s':Row×List Int):Prop where
 ok:Va n l gs s'.1
 mono: ∀y t,row.getD y none=some t->s'.1.getD y none=some t
 phi:s'.2.length+Me s'.1=q.length+Me row
 vz: ∀y∈q,y∈s'.2
 new: ∀y∈s'.2,y∈q\/ ∃yn:Nat,y=yn/\s'.1.getD yn none≠none
 src: ∀y:Nat,s'.1.getD y none≠none->row.getD y none≠none\/(y:Int)∈s'.2
theorem Ext.refl {n l:Nat} {gs:List PO} {row:Row} {q:List Int} (h:Va n l gs row):Ext n l gs row q (row,q):=⟨h,λ_ _ h=>h,rfl,λ_ h=>h,λ_ h=> .inl h,λ_ h=> .inl h⟩
theorem fq {a b:Row} (h: ∀y t,a.getD y none=some t->b.getD y none=some t) {y:Nat} (hy:a.getD y none≠none):b.getD y none≠none:=by
 cases e:a.getD y none with
 |none=>exact absurd e hy
 |some t=>rw [h y t e];simp
theorem Ext.trans {n l:Nat} {gs:List PO} {row:Row} {q:List Int} {s1 s2:Row×List Int} (h:Ext n l gs row q s1) (k:Ext n l gs s1.1 s1.2 s2):Ext n l gs row q s2:=by
 refine ⟨k.ok,λy t e=>k.mono y t (h.mono y t e),k.phi.trans h.phi,λy hy=>k.vz y (h.vz y hy),λy hy=>?_,λy hy=>?_⟩
 ·rcases k.new y hy with h1|h1
  ·rcases h.new y h1 with h2|⟨yn,h2,h3⟩
   ·exact .inl h2
   ·exact .inr ⟨yn,h2,fq k.mono h3⟩
  ·exact .inr h1
 ·rcases k.src y hy with h1|h1
  ·exact (h.src y h1).imp id λh2=>k.vz _ h2
  ·exact .inr h1
theorem pj {row:Row} {i:Nat} {t:List Int} (h:row.getD i none=none) (hi:i<row.length):Me (row.set i (some t))+1=Me row:=by
 unfold Me
 have e:row[i]=none:=by
  rw [Ah,Ab hi] at h
  exact h
 have h1:=List.countP_set (p:= λo:PO=>o.isNone) (l:=row) (i:=i) (a:=some t) hi
 have tz:0<row.countP (·.isNone):=List.countP_pos_iff.2 ⟨row[i],Al hi,by rw [e];rfl⟩
 rw [h1,e]
 simp
 omega
theorem Aej {n l:Nat} {gs:List PO} (gk:l<n) (hg:PG n l gs) {row:Row} {q:List Int} (h:Va n l gs row) {x:Nat} {t:List Int} (hx:row.getD x none=some t) {g:List Int} (ho:some g∈gs):
  Ext n l gs row q (aK (x:Int) (row,q) (some g))/\(aK (x:Int) (row,q) (some g)).1.getD (ap g x) none≠none:=by
 obtain ⟨g',e,Tt,hgf⟩:=hg _ ho
 cases e
 obtain ⟨t1,t2,t3,t4⟩:=h.rt _ _ hx
 have hxn:x<n:=by rw [<-h.rl];exact np hx
 obtain ⟨a1,a2⟩:=Tt.Zk hxn
 unfold aK
 simp only [Bp,a1,Aj]
 cases e:row.getD (ap g x) none with
 |some u=>exact ⟨Ext.refl h,by simp only;rw [e];simp⟩
 |none=>
  simp only [hx,Bp]
  have hl:ap g x<row.length:=by rw [h.rl];exact a2
  have hS:BX n λg=>some g∈gs:=⟨⟨t1.n1,t1.n2⟩,λg Sm=>by obtain ⟨g',e,h1,_⟩:=hg _ Sm;cases e;exact h1⟩
  have At: ∀y,(row.set (ap g x) (some (Ai t g))).getD y none=if ap g x=y/\ap g x<row.length then some (Ai t g) else row.getD y none:= λy=>Li _ _ _ _ _
  have Iv: ∀y u,row.getD y none=some u->ap g x≠y:= λy u hu e'=>by rw [<-e',e] at hu;cases hu
  refine ⟨⟨⟨by simp [h.rl],?_,λy u hu=>?_⟩,λy u hu=>?_,?_,λy hy=>Bi _ hy,λy hy=>?_,λy hy=>?_⟩,?_⟩
  ·rw [At,Ak (λhh=>Iv l _ h.r0 hh.1)];exact h.r0
  ·rw [At] at hu
   split at hu
   ·rename_i hc
    cases hu
    exact ⟨t1.comp Tt,Fx.comp t1 Tt t2 hgf (by omega),by rw [Ju t1 Tt gk,t3];exact hc.1, .mul t4 ho⟩
   ·exact h.rt y u hu
  ·show (row.set (ap g x) (some (Ai t g))).getD y none=some u
   rw [At,Ak (λhh=>Iv y u hu hh.1)];exact hu
  ·have:=pj (t:=Ai t g) e hl
   simp only [Au,Av,Fg]
   omega
  ·rcases Ax.1 hy with hy|hy
   ·exact .inl hy
   ·simp only [Ad] at hy
    exact .inr ⟨ap g x,hy,by show (row.set (ap g x) (some (Ai t g))).getD (ap g x) none≠none;rw [At,Ac ⟨rfl,hl⟩];simp⟩
  ·have hy:(row.set (ap g x) (some (Ai t g))).getD y none≠none:=hy
   rw [At] at hy
   split at hy
   ·rename_i hc
    exact .inr (by show (y:Int)∈q++ [(ap g x:Int)];rw [<-hc.1];simp)
   ·exact .inl hy
  ·show (row.set (ap g x) (some (Ai t g))).getD (ap g x) none≠none
   rw [At,Ac ⟨rfl,hl⟩];simp
theorem Aal {n l:Nat} {gs:List PO} (gk:l<n) (hg:PG n l gs): ∀(gs':List PO) {row:Row} {q:List Int},(∀o∈gs',o∈gs)->Va n l gs row-> ∀ {x:Nat} {t:List Int},row.getD x none=some t->
  Ext n l gs row q (az (x:Int) gs' (row,q))/\ ∀g,some g∈gs'->(az (x:Int) gs' (row,q)).1.getD (ap g x) none≠none
 | [],row,q,_,h,x,t,hx=>⟨Ext.refl h,λg hg=>by cases hg⟩
 |o::gs',row,q,hs,h,x,t,hx=>by
  obtain ⟨g,rfl,_,_⟩:=hg o (hs o (by simp))
  obtain ⟨e1,e2⟩:=Aej (q:=q) gk hg h hx (hs (some g) (by simp))
  obtain ⟨f1,f2⟩:=Aal gk hg gs' (q:=(aK (x:Int) (row,q) (some g)).2) (λo ho=>hs o (by simp [ho])) e1.ok (e1.mono x t hx)
  have hb:az (x:Int) (some g::gs') (row,q)=az (x:Int) gs' ((aK (x:Int) (row,q) (some g)).1,(aK (x:Int) (row,q) (some g)).2):=rfl
  rw [hb]
  refine ⟨e1.trans f1,λg' Sm=>?_⟩
  rcases Bc.1 Sm with e|Sm
  ·cases e;exact fq f1.mono e2
  ·exact f2 g' Sm
def RP (gs:List PO) (q:List Int) (row:Row):Prop:=
 (∀y∈q,∃yn:Nat,y=yn/\row.getD yn none≠none)/\ ∀y:Nat,row.getD y none≠none->(y:Int)∈q\/ ∀g,some g∈gs->row.getD (ap g y) none≠none
theorem MX {n l:Nat} {gs:List PO} (gk:l<n) (hg:PG n l gs) {x:Int} {q:List Int} {row:Row} (h:Va n l gs row) (hq:RP gs (x::q) row):
  Ext n l gs row q (az x gs (row,q))/\RP gs (az x gs (row,q)).2 (az x gs (row,q)).1/\ ∃(xn:Nat) (t:List Int),x=xn/\row.getD xn none=some t:=by
 obtain ⟨xn,rfl,hx⟩:=hq.1 x (by simp)
 cases e:row.getD xn none with
 |none=>exact absurd e hx
 |some t=>
  obtain ⟨e1,e2⟩:=Aal gk hg gs (q:=q) (λo ho=>ho) h e
  refine ⟨e1,⟨λy hy=>?_,λy hy=>?_⟩,xn,t,rfl,e⟩
  ·rcases e1.new y hy with h1|h1
   ·obtain ⟨yn,h2,h3⟩:=hq.1 y (by simp [h1])
    exact ⟨yn,h2,fq e1.mono h3⟩
   ·exact h1
  ·rcases e1.src y hy with h1|h1
   ·rcases hq.2 y h1 with h2|h2
    ·rcases Bc.1 h2 with h2|h2
     ·have:y=xn:=by omega
      subst this
      exact .inr λg Sm=>e2 g Sm
     ·exact .inl (e1.vz _ h2)
    ·exact .inr λg Sm=>fq e1.mono (h2 g Sm)
   ·exact .inl h1
theorem Aat {n l:Nat} {gs:List PO} (gk:l<n) (hg:PG n l gs): ∀(f:Nat) (q:List Int) (row:Row),q.length+Me row<=f->Va n l gs row->RP gs q row->
  Va n l gs (al gs f q row)/\(∀y t,row.getD y none=some t->(al gs f q row).getD y none=some t)/\ ∀y t g,(al gs f q row).getD y none=some t->some g∈gs->(al gs f q row).getD (ap g y) none≠none
 |0,q,row,hf,h,hq=>by
  have:q= []:=Cl (by omega)
  subst this
  exact ⟨h,λ_ _ h=>h,λy t g e Sm=>by
   rcases hq.2 y (by rw [show row.getD y none=some t from e];simp) with h1|h1
   ·cases h1
   ·exact h1 g Sm⟩
 |f+1,[],row,hf,h,hq=>⟨h,λ_ _ h=>h,λy t g e Sm=>by
   rcases hq.2 y (by rw [show row.getD y none=some t from e];simp) with h1|h1
   ·cases h1
   ·exact h1 g Sm⟩
 |f+1,x::q,row,hf,h,hq=>by
  obtain ⟨e1,e2,_⟩:=MX gk hg h hq
  obtain ⟨r1,r2,r3⟩:=Aat gk hg f _ _ (by have:=e1.phi;simp only [Av] at hf;omega) e1.ok e2
  exact ⟨r1,λy t e=>r2 y t (e1.mono y t e),r3⟩
theorem Ul {row:Row} {y:Int} :y∈Lb row↔ ∃yn:Nat,y=yn/\row.getD yn none≠none:=by
 unfold Lb
 rw [Cg,Ms]
 constructor
 ·rintro ⟨h1,h2⟩
  exact ⟨y.toNat,by omega,Option.ne_none_iff_isSome.2 h2⟩
 ·rintro ⟨yn,rfl,h⟩
  obtain ⟨t,ht⟩:=Ko.1 h
  exact ⟨by have:=np ht;omega,by simpa using Option.ne_none_iff_isSome.1 h⟩
theorem zz (row:Row):(Lb row).length<=row.length:=by
 unfold Lb
 refine Gx (List.length_filter_le _ _) (by simp [upto])
theorem j5 (row:Row):Me row<=row.length:=List.countP_le_length
theorem GD {n l:Nat} {gs:List PO} (gk:l<n) (h2:n<=20) (hg:PG n l gs) {row:Row} (h:Va n l gs row):
  Va n l gs (Zp gs row)/\(∀y t,row.getD y none=some t->(Zp gs row).getD y none=some t)/\ ∀y t g,(Zp gs row).getD y none=some t->some g∈gs->(Zp gs row).getD (ap g y) none≠none:=
 Aat gk hg 100 _ _ (by have:=zz row;have:=j5 row;have:=h.rl;omega) h ⟨λy hy=>Ul.1 hy,λy hy=> .inl (Ul.2 ⟨y,rfl,hy⟩)⟩
theorem CX {n l:Nat} {gs:List PO} (gk:l<n) (hg:PG n l gs): ∀(f:Nat) (q:List Int) (row:Row),q.length+Me row<=f->Va n l gs row->RP gs q row->al gs f q row=al gs (q.length+Me row) q row
 |0,q,row,hf,_,_=>by
  have:q.length+Me row=0:=by omega
  rw [this]
 |f+1,[],row,hf,_,_=>by
  cases h:([]:List Int).length+Me row with
  |zero=>rfl
  |succ m=>rfl
 |f+1,x::q,row,hf,h,hq=>by
  obtain ⟨e1,e2,_⟩:=MX gk hg h hq
  have Adj:=e1.phi
  have:(x::q).length+Me row=(q.length+Me row)+1:=by simp only [Av];omega
  rw [this]
  simp only [al]
  rw [CX gk hg f _ _ (by simp only [Av] at hf;omega) e1.ok e2,Adj]
def vD (row:Row):Nat:=row.countP (·.isSome)
theorem oP: ∀(a b:Row),a.length=b.length->(∀y t,a.getD y none=some t->b.getD y none=some t)->vD a<=vD b/\(vD a=vD b->a=b)
 | [],[],_,_=>⟨Ap _,λ_=>rfl⟩
 | [],_::_,h,_=>by simp at h
 |_::_,[],h,_=>by simp at h
 |x::a,y::b,h,hm=>by
  obtain ⟨h1,h2⟩:=oP a b (by simpa using h) λi t e=>by simpa using hm (i+1) t (by simpa using e)
  unfold vD at h1 h2⊢
  cases x with
  |none=>
   cases y with
   |none=>simp only [eK];exact ⟨by simpa using h1,λe=>by rw [h2 (by simpa using e)]⟩
   |some u=>
    simp only [eK,Option.isSome_none,Option.isSome_some]
    simp only [Po,Dc,Rn]
    exact ⟨by omega,λe=>by omega⟩
  |some t=>
   have:=hm 0 t (by simp)
   simp only [Xv] at this
   subst this
   simp only [eK]
   exact ⟨by simpa using h1,λe=>by rw [h2 (by simpa using e)]⟩
def ja (T:Cc):Nat->Nat->Nat
 |0,_=>0
 |k+1,l=>vD (T.getD l [])+ja T k (l+1)
def GBf:Nat->Nat->Cc×Cc->Prop
 |0,_,_=>True
 |k+1,l,s=>GBf k (l+1) s/\(s.1.getD l []).length<=ja s.2 (k+1) l
structure Wa (l0:Nat) (s s':Cc×Cc):Prop where
 An9:s'.1.length=s.1.length
 tN:s'.2.length=s.2.length
 low: ∀i,i<l0->s'.1.getD i []=s.1.getD i []/\s'.2.getD i []=s.2.getD i []
 xb: ∀i o,o∈s.1.getD i []->o∈s'.1.getD i []
 uZ: ∀i y t,(s.2.getD i []).getD y none=some t->(s'.2.getD i []).getD y none=some t
 Aas: ∀i,(s'.2.getD i []).length=(s.2.getD i []).length
theorem Wa.refl (l0:Nat) (s:Cc×Cc):Wa l0 s s:=⟨rfl,rfl,λ_ _=>⟨rfl,rfl⟩,λ_ _ h=>h,λ_ _ _ h=>h,λ_=>rfl⟩
theorem Wa.trans {l0 l1:Nat} {a b c:Cc×Cc} (h:Wa l0 a b) (k:Wa l1 b c) (hl:l0<=l1):Wa l0 a c:=
 ⟨k.An9.trans h.An9,k.tN.trans h.tN,λi hi=>⟨(k.low i (by omega)).1.trans (h.low i hi).1,(k.low i (by omega)).2.trans (h.low i hi).2⟩,λi o ho=>k.xb i o (h.xb i o ho),λi y t e=>k.uZ i y t (h.uZ i y t e),λi=>(k.Aas i).trans (h.Aas i)⟩
theorem Wa.Iw {l0 l1:Nat} {a b:Cc×Cc} (h:Wa l1 a b) (hl:l0<=l1):Wa l0 a b:=(Wa.refl l0 a).trans h hl
theorem cF {T T':Cc} : ∀(k l:Nat) (p:List Int),(∀i,l<=i->i<l+k->T'.getD i []=T.getD i [])->Ix T' k l p=Ix T k l p
 |0,_,_,_=>rfl
 |k+1,l,p,h=>by
  simp only [Ix]
  rw [h l (Ap _) (by omega)]
  split
  ·rfl
  ·exact cF k (l+1) _ λi h1 h2=>h i (by omega) (by omega)
theorem Us {n:Nat} {s s':Cc×Cc} : ∀(k l:Nat),(∀i,l<=i->s'.1.getD i []=s.1.getD i []/\s'.2.getD i []=s.2.getD i [])->dH n k l s->dH n k l s'
 |0,l,h,hc=>by simp only [dH] at hc⊢;rw [(h l (Ap _)).1];exact hc
 |k+1,l,h,hc=>by
  simp only [dH] at hc⊢
  obtain ⟨c1,c2,c3⟩:=hc
  refine ⟨Us k (l+1) (λi hi=>h i (by omega)) c1,?_,?_⟩
  ·rw [(h l (Ap _)).1,(h l (Ap _)).2]
   have e:(λq=>Ix s'.2 k (l+1) q=true)= λq=>Ix s.2 k (l+1) q=true:=funext λq=>by rw [cF k (l+1) q λi h1 h2=>(h i (by omega)).2]
   rw [e];exact c2
  ·rw [(h (l+1) (by omega)).1,(h l (Ap _)).1];exact c3
theorem xO {T T':Cc} : ∀(k l:Nat),(∀i,l<=i->T'.getD i []=T.getD i [])->ja T' k l=ja T k l
 |0,_,_=>rfl
 |k+1,l,h=>by simp only [ja];rw [h l (Ap _),xO k (l+1) λi hi=>h i (by omega)]
theorem bL {s s':Cc×Cc} : ∀(k l:Nat),(∀i,l<=i->s'.1.getD i []=s.1.getD i []/\s'.2.getD i []=s.2.getD i [])->GBf k l s->GBf k l s'
 |0,_,_,_=>trivial
 |k+1,l,h,hg=>⟨bL k (l+1) (λi hi=>h i (by omega)) hg.1,by
  rw [(h l (Ap _)).1,xO (k+1) l λi hi=>(h i hi).2];exact hg.2⟩
theorem ud {T T':Cc} (hl: ∀i,(T'.getD i []).length=(T.getD i []).length) (hm: ∀i y t,(T.getD i []).getD y none=some t->(T'.getD i []).getD y none=some t):
  ∀(k l:Nat),ja T k l<=ja T' k l/\(ja T k l=ja T' k l-> ∀i,l<=i->i<l+k->T'.getD i []=T.getD i [])
 |0,l=>⟨Ap _,λ_ i h1 h2=>by omega⟩
 |k+1,l=>by
  obtain ⟨h1,h2⟩:=ud hl hm k (l+1)
  obtain ⟨h3,h4⟩:=oP (T.getD l []) (T'.getD l []) (hl l).symm (hm l)
  simp only [ja]
  refine ⟨by omega,λe i g1 g2=>?_⟩
  by_cases hi:i=l
  ·subst hi;exact (h4 (by omega)).symm
  ·exact h2 (by omega) i (by omega) (by omega)
def V (n k l:Nat) (s:Cc×Cc):Prop:=s.1.length=n/\s.2.length=n/\dH n k l s/\GBf k l s
structure WK (n k l:Nat) (s:Cc×Cc) (p:List Int) (s':Cc×Cc):Prop where
 v:V n k l s'
 grow:Wa l s s'
 Ail:Gn n (s'.1.getD l []) p
 gens: ∀o∈s'.1.getD l [],o∈s.1.getD l []\/o=some p
theorem Lvl.row {n l:Nat} {gs:List PO} {row:Row} {H:List Int->Prop} (h:Lvl n l gs row H):Va n l gs row:=⟨h.rl,h.r0,h.rt⟩
theorem jr {row:Row} {y:Nat} {t g t':List Int} (h1:row.getD y none=some t) (h2:row.getD (ap g y) none=some t'):Ud row (y:Int) (some g)=Ai (Ai t g) (Bg t'):=by
 unfold Ud
 rw [Aj,h1,Bp,Bp,show (Gw g (y:Int)).toNat=ap g y from rfl,h2,Bp]
theorem pe {n l:Nat} {gs:List PO} {row:Row} (hg:PG n l gs) (_h:Va n l gs row) (hc: ∀y t g,row.getD y none=some t->some g∈gs->row.getD (ap g y) none≠none) {q:List Int} :
  q∈gx row gs↔ ∃(y:Nat) (t g t':List Int),row.getD y none=some t/\some g∈gs/\row.getD (ap g y) none=some t'/\q=Ai (Ai t g) (Bg t'):=by
 unfold gx
 rw [Ga]
 constructor
 ·rintro ⟨y,hy,hq⟩
  obtain ⟨o,ho,rfl⟩:=Ay.1 hq
  obtain ⟨yn,rfl,hyn⟩:=Ul.1 hy
  obtain ⟨t,ht⟩:=Ko.1 hyn
  obtain ⟨g,rfl,Tt,_⟩:=hg o ho
  obtain ⟨t',vu⟩:=Ko.1 (hc yn t g ht ho)
  exact ⟨yn,t,g,t',ht,ho,vu,jr ht vu⟩
 ·rintro ⟨y,t,g,t',h1,h2,h3,rfl⟩
  obtain ⟨g',e,Tt,_⟩:=hg _ h2
  cases e
  exact ⟨(y:Int),Ul.2 ⟨y,rfl,by rw [h1];simp⟩,Ay.2 ⟨some g,h2,jr h1 h3⟩⟩
theorem yy {n:Nat} (h1:1<=n) (h2:n<=20): ∀(k l:Nat) (p:List Int) (s:Cc×Cc),l+k=n->V n k l s->Pm n p->Fx l p->WK n k l s p (Ht k l p s)
 |0,l,p,s,hk,hv,hp,hf=>by
  have hl:l=n:=by omega
  subst hl
  exact ⟨hv,Wa.refl _ _,by rw [hf.all hp];exact .id,λo ho=> .inl ho⟩
 |k+1,l,p,s,hk,hv,hp,hf=>by
  have gk:l<n:=by omega
  obtain ⟨v1,v2,hc,xg⟩:=hv
  have jQ:=hc
  obtain ⟨c1,c2,c3⟩:=hc
  unfold Ht
  by_cases hh:Ix s.2 (k+1) l p=true
  ·rw [Ac hh]
   exact ⟨⟨v1,v2,jQ,xg⟩,Wa.refl _ _,(Uh h1 h2 (k+1) l s hk jQ p hp hf).1 hh,λo ho=> .inl ho⟩
  rw [Ak hh]
  generalize nv:s.1.getD l []++ [some p]=gs
  have Zx:some p∈gs:=by rw [<-nv];simp
  have Qa: ∀o∈s.1.getD l [],o∈gs:= λo ho=>by rw [<-nv];exact Bi _ ho
  have hg:PG n l gs:= λo ho=>by
   rw [<-nv] at ho
   rcases Ax.1 ho with ho|ho
   ·exact c2.pg o ho
   ·rw [Ad] at ho;exact ⟨p,ho,hp,hf⟩
  have Amh:Va n l gs (s.2.getD l []):=⟨c2.rl,c2.r0,λy t e=>⟨(c2.rt y t e).1,(c2.rt y t e).2.1,(c2.rt y t e).2.2.1,(c2.rt y t e).2.2.2.mono λg hg=>Qa _ hg⟩⟩
  obtain ⟨r1,r2,r3⟩:=GD gk h2 hg Amh
  generalize hR:Zp gs (s.2.getD l [])=R at r1 r2 r3
  have hS:BX n λg=>some g∈gs:=⟨⟨h1,h2⟩,λg Sm=>by obtain ⟨g',e,h,_⟩:=hg _ Sm;cases e;exact h⟩
  have uu: ∀i,((s.1.set l gs).getD i []=if i=l then gs else s.1.getD i [])/\(s.2.set l R).getD i []=if i=l then R else s.2.getD i []:= λi=>by
   rw [Li,Li]
   by_cases e:l=i
   ·subst e;rw [Ac ⟨rfl,by omega⟩,Ac rfl,Ac ⟨rfl,by omega⟩,Ac rfl];exact ⟨rfl,rfl⟩
   ·rw [Ak (λhh=>e hh.1),Ak (Gb e),Ak (λhh=>e hh.1),Ak (Gb e)];exact ⟨rfl,rfl⟩
  have xl: ∀i,l+1<=i->(s.1.set l gs).getD i []=s.1.getD i []/\(s.2.set l R).getD i []=s.2.getD i []:= λi hi=>by
   rw [(uu i).1,(uu i).2,Ak (by omega),Ak (by omega)];exact ⟨rfl,rfl⟩
  have iP:V n k (l+1) (s.1.set l gs,s.2.set l R):=⟨by simpa using v1,by simpa using v2,Us k (l+1) xl c1,bL k (l+1) xl xg.1⟩
  have m5:Wa l s (s.1.set l gs,s.2.set l R):=by
   refine ⟨by simp,by simp,λi hi=>?_,λi o ho=>?_,λi y t e=>?_,λi=>?_⟩
   ·rw [(uu i).1,(uu i).2,Ak (by omega),Ak (by omega)];exact ⟨rfl,rfl⟩
   ·rw [(uu i).1]
    split
    ·rename_i hi;subst hi;exact Qa o ho
    ·exact ho
   ·rw [(uu i).2]
    split
    ·rename_i hi;subst hi;exact r2 y t e
    ·exact e
   ·rw [(uu i).2]
    split
    ·rename_i hi;subst hi;rw [r1.rl,c2.rl]
    ·rfl
  have hq: ∀q∈gx R gs,Pm n q/\Fx (l+1) q/\Gn n gs q:= λq hq=>by
   obtain ⟨y,t,g,t',e1,e2,e3,rfl⟩:=(pe hg r1 r3).1 hq
   obtain ⟨t1,t2,t3,t4⟩:=r1.rt _ _ e1
   obtain ⟨u1,u2,u3,u4⟩:=r1.rt _ _ e3
   obtain ⟨g',e,Tt,hgf⟩:=hg _ e2
   cases e
   exact ⟨(t1.comp Tt).comp u1.inv,Fx.div (t1.comp Tt) u1 (Fx.comp t1 Tt t2 hgf (by omega)) u2 gk (by rw [u3,Ju t1 Tt gk,t3]),cq.comp hS (.mul t4 e2) (cq.sd hS u4)⟩
  have fold: ∀(qs:List (List Int)) (s1:Cc×Cc),(∀q∈qs,Pm n q/\Fx (l+1) q)->V n k (l+1) s1->
    V n k (l+1) (qs.foldl (λs q=>Ht k (l+1) q s) s1)/\Wa (l+1) s1 (qs.foldl (λs q=>Ht k (l+1) q s) s1)/\
     (∀q∈qs,Gn n ((qs.foldl (λs q=>Ht k (l+1) q s) s1).1.getD (l+1) []) q)/\ ∀o∈(qs.foldl (λs q=>Ht k (l+1) q s) s1).1.getD (l+1) [],o∈s1.1.getD (l+1) []\/ ∃q∈qs,o=some q:=by
   intro qs
   induction qs with
   |nil=>exact λs1 _ hv=>⟨hv,Wa.refl _ _,(λq hq=>by cases hq),λo ho=>Or.inl ho⟩
   |cons q qs ih=>
    intro s1 SV hv
    have ha:=yy h1 h2 k (l+1) q s1 (by omega) hv (SV q (by simp)).1 (SV q (by simp)).2
    obtain ⟨g1,g2,g3,g4⟩:=ih (Ht k (l+1) q s1) (λq' gm=>SV q' (by simp [gm])) ha.v
    simp only [Jj]
    refine ⟨g1,ha.grow.trans g2 (Ap _),λq' gm=>?_,λo ho=>?_⟩
    ·rcases Bc.1 gm with rfl|gm
     ·exact ha.Ail.mono λg hg=>g2.xb _ _ hg
     ·exact g3 q' gm
    ·rcases g4 o ho with h|⟨q',gm,h⟩
     ·rcases ha.gens o h with h|h
      ·exact .inl h
      ·exact .inr ⟨q,by simp,h⟩
     ·exact .inr ⟨q',by simp [gm],h⟩
  obtain ⟨f1,f2,f3,f4⟩:=fold (gx R gs) (s.1.set l gs,s.2.set l R) (λq h=>⟨(hq q h).1,(hq q h).2.1⟩) iP
  generalize (gx R gs).foldl (λs q=>Ht k (l+1) q s) (s.1.set l gs,s.2.set l R)=s' at f1 f2 f3 f4
  obtain ⟨w1,w2,w3,w4⟩:=f1
  have el1:s'.1.getD l []=gs:=by rw [(f2.low l (by omega)).1,(uu l).1,Ac rfl]
  have el2:s'.2.getD l []=R:=by rw [(f2.low l (by omega)).2,(uu l).2,Ac rfl]
  have tn:=m5.trans f2 (by omega)
  have Ahv:Lvl n l gs R (λq=>Ix s'.2 k (l+1) q=true):=⟨hg,r1.rl,r1.r0,r1.rt,r3,λy t g t' e1 e2 e3=>by
   have hm:=(pe hg r1 r3).2 ⟨y,t,g,t',e1,e2,e3,rfl⟩
   exact (Uh h1 h2 k (l+1) s' (by omega) w3 _ (hq _ hm).1 (hq _ hm).2.1).2 (f3 _ hm)⟩
  have EC:dH n (k+1) l s':=⟨w3,by rw [el1,el2];exact Ahv,λg Sm=>by
   rw [el1]
   rcases f4 _ Sm with h|⟨q,gm,h⟩
   ·rw [(xl (l+1) (Ap _)).1] at h
    exact (c3 g h).mono λg hg=>Qa _ hg
   ·cases h;exact (hq _ gm).2.2⟩
  have Xm:Gn n (s'.1.getD l []) p:=by rw [el1];exact cq.one hS Zx
  refine ⟨⟨w1,w2,EC,w4,?_⟩,tn,Xm,λo ho=>?_⟩
  ·have hold:=xg.2
   obtain ⟨p1,p2⟩:=ud tn.Aas tn.uZ (k+1) l
   have Iv:ja s.2 (k+1) l≠ja s'.2 (k+1) l:= λe=>by
    have:=cF (k+1) l p (p2 e)
    rw [(Uh h1 h2 (k+1) l s' hk EC p hp hf).2 Xm] at this
    exact hh this.symm
   rw [el1,<-nv,Au,Cd]
   omega
  ·rw [el1,<-nv] at ho
   rcases Ax.1 ho with ho|ho
   ·exact .inl ho
   ·rw [Ad] at ho;exact .inr ho
theorem Aag {n l:Nat} {gs:List PO} {R:Row} (gk:l<n) (hg:PG n l gs) (r1:Va n l gs R) (r3: ∀y t g,R.getD y none=some t->some g∈gs->R.getD (ap g y) none≠none): ∀q∈gx R gs,Pm n q/\Fx (l+1) q:=by
 intro q hq
 obtain ⟨y,t,g,t',e1,e2,e3,rfl⟩:=(pe hg r1 r3).1 hq
 obtain ⟨t1,t2,t3,t4⟩:=r1.rt _ _ e1
 obtain ⟨u1,u2,u3,u4⟩:=r1.rt _ _ e3
 obtain ⟨g',e,Tt,hgf⟩:=hg _ e2
 cases e
 exact ⟨(t1.comp Tt).comp u1.inv,Fx.div (t1.comp Tt) u1 (Fx.comp t1 Tt t2 hgf (by omega)) u2 gk (by rw [u3,Ju t1 Tt gk,t3])⟩
theorem V.lower {n k l:Nat} {s:Cc×Cc} (h:V n (k+1) l s) (gs:List PO) (R:Row):V n k (l+1) (s.1.set l gs,s.2.set l R):=by
 obtain ⟨v1,v2,hc,xg⟩:=h
 have xl: ∀i,l+1<=i->(s.1.set l gs).getD i []=s.1.getD i []/\(s.2.set l R).getD i []=s.2.getD i []:= λi hi=>by
  rw [Li,Li,Ak (by omega),Ak (by omega)];exact ⟨rfl,rfl⟩
 exact ⟨by simpa using v1,by simpa using v2,Us k (l+1) xl hc.1,bL k (l+1) xl xg.1⟩
theorem PR {n k l:Nat} (h1:1<=n) (h2:n<=20) (hk:l+k=n): ∀(qs:List (List Int)) (s1:Cc×Cc),(∀q∈qs,Pm n q/\Fx l q)->V n k l s1->
  V n k l (qs.foldl (λs q=>Ht k l q s) s1)/\Wa l s1 (qs.foldl (λs q=>Ht k l q s) s1)
 | [],s1,_,hv=>⟨hv,Wa.refl _ _⟩
 |q::qs,s1,SV,hv=>by
  have ha:=yy h1 h2 k l q s1 hk hv (SV q (by simp)).1 (SV q (by simp)).2
  obtain ⟨g1,g2⟩:=PR h1 h2 hk qs (Ht k l q s1) (λq' gm=>SV q' (by simp [gm])) ha.v
  exact ⟨g1,ha.grow.trans g2 (Ap _)⟩
theorem Aak {n:Nat} {s:Cc×Cc} : ∀(k l:Nat),dH n k l s->ja s.2 k l<=n*k
 |0,_,_=>by simp [ja]
 |k+1,l,hc=>by
  have h1:=Aak k (l+1) hc.1
  have h2:vD (s.2.getD l [])<=n:=by
   have:=hc.2.1.rl
   have h3:vD (s.2.getD l [])<=(s.2.getD l []).length:=List.countP_le_length
   omega
  simp only [ja]
  rw [Nat.mul_succ]
  omega
theorem PV {n k l:Nat} {s:Cc×Cc} (h2:n<=20) (hk:l+(k+1)=n) (h:V n (k+1) l s):(s.1.getD l []).length<=400:=by
 have h3:=h.2.2.2.2
 have h4:=Aak (k+1) l h.2.2.1
 have h5:n*(k+1)<=20*20:=dF h2 (by omega)
 omega
theorem V.lvl {n k l:Nat} {s:Cc×Cc} (h:V n (k+1) l s):Lvl n l (s.1.getD l []) (s.2.getD l []) (λq=>Ix s.2 k (l+1) q=true):=h.2.2.1.2.1
theorem V.pg {n k l:Nat} {s:Cc×Cc} (h:V n (k+1) l s) {p:List Int} (hp:Pm n p) (hf:Fx l p):PG n l (s.1.getD l []++ [some p]):= λo ho=>by
 rcases Ax.1 ho with ho|ho
 ·exact h.lvl.pg o ho
 ·rw [Ad] at ho;exact ⟨p,ho,hp,hf⟩
theorem V.At8 {n k l:Nat} {s:Cc×Cc} (h:V n (k+1) l s) (p:List Int):Va n l (s.1.getD l []++ [some p]) (s.2.getD l []):=
 ⟨h.lvl.rl,h.lvl.r0,λy t e=>⟨(h.lvl.rt y t e).1,(h.lvl.rt y t e).2.1,(h.lvl.rt y t e).2.2.1,(h.lvl.rt y t e).2.2.2.mono λ_ hg=>Bi _ hg⟩⟩
theorem wk {α:Type} (xs:List (List α)) (i:Nat) (h:i<xs.length):xs.set i (xs.getD i [])=xs:=by
 refine eL (by simp) λj h1 h2=>?_
 rw [List.getElem_set]
 split
 ·rename_i e;subst e;rw [Ah,Ab h];rfl
 ·rfl
theorem dm {α:Type} (xs:List (List α)) (i:Nat) (h:i<xs.length) (r:List α):(xs.set i r).getD i []=r:=by
 rw [Li,Ac ⟨rfl,h⟩]
noncomputable abbrev Qz:MSpec:=lg [none] [(false, .Fy tLO)] false [none] [.row tI 2] (λx=>List.length x.1<=20) (λx=>((Lb x.1,()),()))
noncomputable abbrev Jz:Spec:=Ib (.pair tL (.pair tL .unit)) tO false true (λx=>(0<x.1.length/\x.1.length<=20)/\Ny x.2.1.length x.1) (λx=>some (Ai x.1 x.2.1))
noncomputable abbrev Sj:Spec:=Ib (.pair tL (.pair tL .unit)) tL false false (λx=>x.1.length<=20/\Ny x.2.1.length x.1) (λx=>Ai x.1 x.2.1)
noncomputable abbrev Vl:Spec:=Ib (.pair tI .unit) tL false true (λx=>0<=x.1/\x.1<=20) (λx=>upto x.1.toNat)
noncomputable abbrev Pv:Spec:=Ib (.pair tI .unit) tO false true (λx=>1<=x.1/\x.1<=20) (λx=>some (upto x.1.toNat))
abbrev vA:TypeId:=27
structure de (N L:Nat) (n:Int) (G T:Cc) (l:Int) (p:List Int):Prop where
 n1:1<=N
 n2:N<=20
 en:n=N
 el:l=L
 le:L<=N
 v:V N (N-L) L (G,T)
 pm:Pm N p
 fx:Fx L p
noncomputable abbrev xY:Spec:=Ib (.pair (.ptr kv) (.pair tI (.pair tL .unit))) .bool false true (λx=> ∃N L,de N L x.1.1 x.1.2.1 x.1.2.2.1 x.2.1 x.2.2.1) (λx=>Ix x.1.2.2.1 (x.1.1-x.2.1).toNat x.2.1.toNat x.2.2.1)
noncomputable abbrev Agh:MSpec:= {ptr:=some (198,3),Ip:= [none,none],ins:= [(false, .Fy tI),(false, .Bl tO vA true),(false, .Bl tO vA true),(false, .Fy tI),(false, .Fy tO)],Hi:=false,Hb:= [],outs:= [.Fy tI, .Bl tO vA false, .Bl tO vA false],fn:= λ_=>none,keeps:= [(1,1),(2,2)],Fb:= λx=>x.2.2.2.1.toNat}
noncomputable abbrev Wv (m:Nat):MSpec:=eM Agh (λx=>(∃N L q,x.2.2.2.2.1=some q/\de N L x.1 x.2.1 x.2.2.1 x.2.2.2.1 q)/\(x.1-x.2.2.2.1).toNat<m)
 (λx=>((x.1,(Ht (x.1-x.2.2.2.1).toNat x.2.2.2.1.toNat (x.2.2.2.2.1.getD []) (x.2.1,x.2.2.1)).1,(Ht (x.1-x.2.2.2.1).toNat x.2.2.2.1.toNat (x.2.2.2.2.1.getD []) (x.2.1,x.2.2.1)).2,()),()))
theorem IJ (n:Int) (P:List Int->Prop):(((0:Int)<=n/\n<(↑Ct:Int)+(1:Int))/\n=n/\0=0/\(List.replicate n.toNat (Int.ofNat (nat_lit 0))).length=(List.replicate n.toNat (Int.ofNat (nat_lit 0))).length/\Dh (λ(v2:Int×List Int×PUnit) (k3:Int×List Int×PUnit->Prop)=>Br (decide (v2.1<(↑(List.replicate n.toNat (Int.ofNat (nat_lit 0))).length:Int))) (((0:Int)<=v2.1/\v2.1<(↑v2.2.1.length:Int))/\0+v2.1.toNat<v2.2.1.length/\0=0/\v2.2.1.length=(v2.2.1.set (0+v2.1.toNat) v2.1).length/\k3 (IntKind.i64.wrap (v2.1+(1:Int)),v2.2.1.set (0+v2.1.toNat) v2.1,())) (P (List.take v2.2.1.length (List.drop 0 v2.2.1)))) ((0:Int),List.replicate n.toNat (Int.ofNat (nat_lit 0)),PUnit.unit))=fnW Hf (look []) Vl Try.f120 (n,()) P:=by kernel_rfl
theorem VV (row:List (Option (List Int))) (P:(List Int×Unit)×Unit->Prop):(0=0/\0=([]:List Int).length/\Dh (λ(v2:Int×List Int×PUnit) (k3:Int×List Int×PUnit->Prop)=>Br (decide (v2.1<(↑row.length:Int))) (∃(y4:Option (List Int)),idx row v2.1=some y4/\Br (!y4.isNone) (0=0/\v2.2.1.length=v2.2.1.length/\v2.2.1.length+(List.take 1 (List.drop 0 [v2.1])).length<=Ct/\0=0/\(v2.2.1++List.take 1 (List.drop 0 [v2.1])).length=(v2.2.1++List.take 1 (List.drop 0 [v2.1])).length/\k3 (IntKind.i64.wrap (v2.1+(1:Int)),v2.2.1++List.take 1 (List.drop 0 [v2.1]),())) (0=0/\v2.2.1.length=v2.2.1.length/\k3 (IntKind.i64.wrap (v2.1+(1:Int)),v2.2.1,()))) (P ((List.take v2.2.1.length (List.drop 0 v2.2.1),()),()))) ((0:Int),[],PUnit.unit))=fnMW aY (look []) Qz Try.f213 (row,()) P:=by kernel_rfl
theorem Aoa (c:Int×List (List (Option (List Int)))×List (List (Option (List Int)))×Unit) (l:Int) (p:List Int) (P:Bool->Prop):(Dh (λ(v4:List Int×Int×PUnit) (k5:List Int×Int×PUnit->Prop)=>Br (decide (v4.2.1<c.1)) (∃(y6:List (Option (List Int))),idx c.2.2.1 v4.2.1=some y6/\ ∃(y7:Int),idx v4.1 v4.2.1=some y7/\ ∃(y8:Option (List Int)),idx y6 y7=some y8/\Br y8.isNone (P false) (∃(y9:List Int),Gk.fn (y8.getD [],())=some y9/\ ∃(Kq:List Int),Sj.fn (v4.1,y9,())=some Kq/\k5 (Kq,IntKind.i64.wrap (v4.2.1+(1:Int)),()))) (P true)) (p,l,PUnit.unit))=fnW aY (look [(143,Gk),(142,Sj)]) xY Try.f229 (c,l,p,()) P:=by kernel_rfl
theorem Sound.loose {P:Program} {f:FuncId} {arg res:Ty} {pre:arg.den->Prop} {val:arg.den->res.den} (h:Sound P f (Go.Proofs.Ytkkdpknjohcekaa.Ib arg res false true pre val)):Sound P f (Go.Proofs.Ytkkdpknjohcekaa.Ib arg res false false pre val):=
 ⟨h.enter,λw S vs x y h1 h2 h3=>Calls.mono (h.calls w S vs x y h1 h2 h3) λe' w' hr=>by
  obtain ⟨v,g1,g2,g3⟩:=hr
  exact ⟨v,g1,g2,Cw.Iw (S:= λb=>S b\/(true=true/\b<w.heap.size)) g3 λk _ hk=>hk.elim .inl λhh=>absurd (show false=true from hh.1) (by simp)⟩⟩
theorem uF:Sound Try.prog 142 Sj:=Sound.loose Xa
theorem uG:Sound Try.prog 142 Jz:=Sound.toO Xa λx h=>⟨⟨h.1.2,h.2⟩,λe=>by
 have:=Pl x.1 x.2.1
 rw [e] at this
 have:=h.1.1
 simp only [Fg] at*
 omega⟩
theorem GI (n:Int) (h:0<=n/\n<=20):fnW Hf (look []) Vl Try.f120 (n,()) (λ(z:List Int)=>z=upto n.toNat):=by
 refine Eq.mp (IJ n _) ⟨⟨by omega,by show n<(4294967296:Int)+1;omega⟩,rfl,rfl,rfl,?_⟩
 refine Bs n.toNat (λv=>v.1) (λj v=>v.2.1.length=n.toNat/\v.2.1.take j=upto j) rfl ⟨by simp,by simp [upto]⟩ ?_
 rintro j ⟨i,ys,⟨⟩⟩ K hj hi ⟨h1,h2⟩ hK
 dsimp only at hi h1 h2⊢
 subst hi
 rw [Gd]
 simp only [Aj,Bo]
 refine Br.dec (λhl=>⟨⟨by omega,by omega⟩,by omega,trivial,by rw [Cf],?_⟩) λhl=>?_
 ·rw [Bk (by omega)]
  refine hK (by omega) _ rfl ⟨by rw [Cf];exact h1,?_⟩
  rw [Fc,List.take_set_of_le (by omega),h2,List.getElem?_set_self (by omega),Ze]
  rfl
 ·have:j=ys.length:=by omega
  subst this
  rw [Aw] at h2
  rw [Dj,Aw,h2,h1]
theorem gD:Sound Try.prog 120 Vl:=
 Sound.Ib Ew Bw mixed Try.func120 (by kernel_rfl) (by kernel_rfl) λx h=>GI x.1 h
theorem RL {n:Int} (h:1<=n/\n<=20):(0<=n/\n<=20)/\upto n.toNat≠ []:=⟨by omega,λe=>by
 have:=Gc List.length e
 simp [upto] at this
 omega⟩
theorem rF:Sound Try.prog 120 Pv:=Sound.toO gD λ_ h=>RL h
theorem GC {row:Row} {j:Nat} :(upto (j+1)).filter (λy=>(row.getD y.toNat none).isSome)=(upto j).filter (λy=>(row.getD y.toNat none).isSome)++if (row.getD j none).isSome=true then [(j:Int)] else []:=by
 rw [Ze,List.filter_append]
 congr 1
 simp only [List.filter_cons,List.filter_nil,Aj]
theorem TX (row:List (Option (List Int))) (h:List.length row<=20):fnMW aY (look []) Qz Try.f213 (row,()) (λ(z:(List Int×Unit)×Unit)=>z=((Lb row,()),())):=by
 refine Eq.mp (VV row _) ⟨rfl,rfl,?_⟩
 refine Bs row.length (λv=>v.1) (λj v=>v.2.1=(upto j).filter (λy=>(row.getD y.toNat none).isSome)) rfl rfl ?_
 rintro j ⟨i,ys,⟨⟩⟩ K hj hi h1 hK
 dsimp only at hi h1⊢
 subst hi
 refine Br.dec (λhl=>?_) λhl=>?_
 ·have hl:j<row.length:=by omega
  have hlen:ys.length<=j:=by rw [h1];refine Gx (List.length_filter_le _ _) (by simp [upto])
  have hg:row.getD j none=row[j]:=by rw [Ah,Ab hl];rfl
  refine ⟨_,Ck hl,Br.of (λhb=>⟨rfl,rfl,?_,rfl,rfl,?_⟩) λhb=>⟨rfl,rfl,?_⟩⟩
  ·show ys.length+1<=4294967296
   omega
  ·rw [Bk (by omega)]
   refine hK hl _ rfl ?_
   show ys++ [(j:Int)]=_
   rw [GC,hg,h1,Ac (by cases e:row[j] with
    |none=>rw [e] at hb;simp at hb
    |some t=>rfl)]
  ·rw [Bk (by omega)]
   refine hK hl _ rfl ?_
   show ys=_
   rw [GC,hg,h1,Ak (by cases e:row[j] with
    |none=>simp
    |some t=>rw [e] at hb;simp at hb),List.append_nil]
 ·have:j=row.length:=by omega
  subst this
  rw [Dj,Aw,h1]
  rfl
theorem lq:Cn Try.prog 213 Qz:=
 Cn.lg pU Bw mixed Try.func213 (by kernel_rfl) (by kernel_rfl) λx h=>TX x.1 h
theorem dP {n:Nat} {s:Cc×Cc} : ∀(k l:Nat),dH n k l s-> ∀i,l<=i->i<l+k->Lvl n i (s.1.getD i []) (s.2.getD i []) (λq=>Ix s.2 (l+k-i-1) (i+1) q=true)
 |0,_,_,i,h1,h2=>by omega
 |k+1,l,hc,i,h1,h2=>by
  obtain ⟨c1,c2,_⟩:=hc
  by_cases e:i=l
  ·subst e
   rw [show i+(k+1)-i-1=k by omega]
   exact c2
  ·have:=dP k (l+1) c1 i (by omega) (by omega)
   rwa [show l+1+k-i-1=l+(k+1)-i-1 by omega] at this
theorem qh {α:Type} {xs:List (List α)} {i:Nat} (h:i<xs.length):xs.getD i []=xs[i]:=by
 rw [Ah,Ab h];rfl
theorem DX {α:Type} {xs:List (Option α)} {i:Nat} (h:i<xs.length):xs.getD i none=xs[i]:=by
 rw [Ah,Ab h];rfl
theorem Pm.row {n:Nat} {p:List Int} (h:Pm n p):Ny n p:=by
 have:=h.2.row
 rwa [h.1] at this
theorem Anl (c:Int×List (List (Option (List Int)))×List (List (Option (List Int)))×Unit) (l:Int) (p:List Int) (h: ∃N L,de N L c.1 c.2.1 c.2.2.1 l p):
  fnW aY (look [(143,Gk),(142,Sj)]) xY Try.f229 (c,l,p,()) (λ(z:Bool)=>z=Ix c.2.2.1 (c.1-l).toNat l.toNat p):=by
 obtain ⟨n,G,T,⟨⟩⟩:=c
 obtain ⟨N,L,h⟩:=h
 obtain ⟨n1,n2,en,el,hle,v,pm,fx⟩:=h
 dsimp only at en el v⊢
 subst en el
 refine Eq.mp (Aoa ((N:Int),G,T,()) (L:Int) p _) ?_
 obtain ⟨v1,v2,v3,v4⟩:=v
 dsimp only at v1 v2
 refine ⟨λv=> ∃i:Nat,L<=i/\i<=N/\v.2.1=i/\Pm N v.1/\Fx i v.1/\Ix T (N-i) i v.1=Ix T (N-L) L p,λv=>N-v.2.1.toNat,⟨L,Ap _,hle,rfl,pm,fx,rfl⟩,?_⟩
 rintro ⟨p',i',⟨⟩⟩ ⟨i,h1,h2,h3,h4,h5,h6⟩
 dsimp only at h3 h4 h5 h6⊢
 subst h3
 rw [show (((N:Int)-(L:Int)).toNat)=N-L by omega,show ((L:Int)).toNat=L by omega,<-h6]
 refine Br.dec (λhl=>?_) λhl=>?_
 ·have hl:i<N:=by omega
  have Kf:=dP (N-L) L v3 i h1 (by omega)
  obtain ⟨a1,a2⟩:=h4.Zk hl
  have hT:i<T.length:=by omega
  have hlen:T[i].length=N:=by have:=Kf.rl;dsimp only at this;rwa [qh hT] at this
  refine ⟨_,Ck hT,_,Ck (by rw [h4.1];exact hl),?_⟩
  have e1:p'[i]'(by rw [h4.1];exact hl)=(ap p' i:Int):=by rw [<-a1,Ig]
  rw [e1]
  refine ⟨_,Ck (by omega),?_⟩
  have e2:N-i=(N-i-1)+1:=by omega
  have e3:(T.getD i []).getD (Gw p' (i:Int)).toNat none=T[i][ap p' i]'(by omega):=by
   rw [qh hT];exact DX (by show ap p' i<_;omega)
  rw [e2]
  simp only [Ix,e3]
  refine Br.of (λhb=>?_) λhb=>?_
  ·cases e:T[i][ap p' i]'(by omega) with
   |none=>rfl
   |some t=>rw [e] at hb;simp at hb
  ·cases e:T[i][ap p' i]'(by omega) with
   |none=>rw [e] at hb;simp at hb
   |some t=>
    have ht:(T.getD i []).getD (ap p' i) none=some t:=by rw [<-e];exact e3
    obtain ⟨t1,t2,t3,t4⟩:=Kf.rt _ _ ht
    simp only [Bp]
    refine ⟨_,Ac ⟨by show t.length<=20;rw [t1.1];exact n2,t1.2.row⟩,_,Ac ⟨by show p'.length<=20;rw [h4.1];exact n2,by show Ny (Bg t).length p';rw [nA,t1.1];exact h4.row⟩,⟨i+1,by omega,by omega,Bk (by omega),h4.comp t1.inv,Fx.div h4 t1 h5 t2 hl t3,?_⟩,?_⟩
    ·rw [show N-(i+1)=N-i-1 by omega]
    ·show N-(IntKind.i64.wrap ((i:Int)+1)).toNat<N-((i:Int)).toNat
     rw [Bk (by omega)]
     omega
 ·rw [show N-i=0 by omega]
  rfl
theorem UW:Sound Try.prog 229 xY:=
 Sound.Ib pU (Bd Xb (Bd uF Bw)) mixed Try.func229 (by kernel_rfl) (by kernel_rfl) λx h=>Anl x.1 x.2.1 x.2.2.1 h
abbrev AY:Type:=Nat×Nat×Int×List (List (Option (List Int)))×Nat×List (List (Option (List Int)))×Nat×List Int×Int×PUnit
abbrev Ab7:Type:=Nat×Int×List (List (Option (List Int)))×Nat×List (List (Option (List Int)))×Nat×List Int×Int×PUnit
abbrev Ab9:Type:=Nat×List (List (Option (List Int)))×Nat×List (List (Option (List Int)))×Nat×List Int×Int×PUnit
abbrev Lm (G:List (List (Option (List Int)))) (l:Int) (p:Option (List Int)) (T:List (List (Option (List Int)))) (y7:Bool) (n:Int):Prop:=0=0/\(G.getD (0+l.toNat) []).length=(G.getD (0+l.toNat) []).length/\(G.getD (0+l.toNat) []).length+(List.take 1 (List.drop 0 [p])).length<=Ct/\((0:Int)<=l/\l<(↑G.length:Int))/\0=0/\(G.getD (0+l.toNat) []++List.take 1 (List.drop 0 [p])).length=(G.getD (0+l.toNat) []++List.take 1 (List.drop 0 [p])).length/\0+l.toNat=0+l.toNat/\ [(0,G.length),(0,G.length),(0,G.length),(0,T.length)]= [(0,G.length),(0,G.length),(0,G.length),(0,T.length)]/\(l,p,l,p,y7,l,l,0+l.toNat,p,List.take 1 (List.drop 0 [p]),0+l.toNat,G.set (0+l.toNat) (G.getD (0+l.toNat) []++List.take 1 (List.drop 0 [p])),min G.length (0+l.toNat),T,T.length,n,())=(l,p,l,p,y7,l,l,0+l.toNat,p,List.take 1 (List.drop 0 [p]),0+l.toNat,G.set (0+l.toNat) (G.getD (0+l.toNat) []++List.take 1 (List.drop 0 [p])),min G.length (0+l.toNat),T,T.length,n,PUnit.unit)
theorem Ao5 {m:Nat} (n:Int) (G T:List (List (Option (List Int)))) (l:Int) (p:Option (List Int)) (P:(Int×List (List (Option (List Int)))×List (List (Option (List Int)))×Unit)×Unit->Prop):(∃(y7:Bool),xY.fn ((n,List.take G.length (List.drop 0 G),List.take T.length (List.drop 0 T),()),l,p.getD [],())=some y7/\Br y7 ((0=0/\G.length=G.length)/\(0=0/\T.length=T.length)/\(Wv (m+1)).Fb (n,G,T,l,p,())<=G.length/\(Wv (m+1)).Fb (n,G,T,l,p,())<=T.length/\P ((n,G,T,()),())) (((0:Int)<=l/\l<(↑G.length:Int))/\0=0/\(G.getD (0+l.toNat) []).length=(G.getD (0+l.toNat) []).length/\(G.getD (0+l.toNat) []).length+(List.take 1 (List.drop 0 [p])).length<=Ct/\((0:Int)<=l/\l<(↑G.length:Int))/\0=0/\(G.getD (0+l.toNat) []++List.take 1 (List.drop 0 [p])).length=(G.getD (0+l.toNat) []++List.take 1 (List.drop 0 [p])).length/\0+l.toNat=0+l.toNat/\(((0:Int)<=l/\l<(↑T.length:Int))/\ ∃(y8:(List Int×PUnit)×PUnit),Qz.fn (T.getD (0+l.toNat) [],())=some y8/\0=0/\(List.take y8.1.1.length (List.drop 0 y8.1.1)).length=(List.take y8.1.1.length (List.drop 0 y8.1.1)).length/\0=0/\G.length=(G.set (0+l.toNat) (G.getD (0+l.toNat) []++List.take 1 (List.drop 0 [p]))).length/\0=0/\T.length=T.length/\Dh (λ(v9:Ab9) (k10:Ab9->Prop)=>Br (decide ((↑v9.2.2.2.2.2.1.length:Int)>(0:Int))) (((0:Int)<=l/\l<(↑v9.2.1.length:Int))/\0=0/\(List.take v9.2.2.2.2.2.1.length (List.drop 0 v9.2.2.2.2.2.1)).length=(List.take v9.2.2.2.2.2.1.length (List.drop 0 v9.2.2.2.2.2.1)).length/\0=0/\v9.2.1.length=v9.2.1.length/\0=0/\v9.2.2.2.1.length=v9.2.2.2.1.length/\Dh (λ(v11:AY) (k12:AY->Prop)=>Br (decide (v11.2.2.1<(↑(v9.2.1.getD (0+l.toNat) []).length:Int))) (((0:Int)<=v11.2.2.1/\v11.2.2.1<(↑(v11.2.2.2.1.getD v11.2.1 []).length:Int))/\((0:Int)<=(0:Int)/\(0:Int)<(↑v11.2.2.2.2.2.2.2.1.length:Int))/\ ∃(Iq:Int),v11.2.2.2.2.2.2.2.1[0+Int.toNat (0:Int)]?=some Iq/\ ∃(Fq:Int),idx (((v11.2.2.2.1.getD v11.2.1 []).getD v11.2.2.1.toNat (none:Option (List Int))).getD []) Iq=some Fq/\((0:Int)<=Fq/\Fq<(↑(v11.2.2.2.2.2.1.getD v11.1 []).length:Int))/\Br ((v11.2.2.2.2.2.1.getD v11.1 []).getD Fq.toNat (none:Option (List Int))).isNone (((0:Int)<=(0:Int)/\(0:Int)<(↑v11.2.2.2.2.2.2.2.1.length:Int))/\ ∃(Hx:Int),v11.2.2.2.2.2.2.2.1[0+Int.toNat (0:Int)]?=some Hx/\((0:Int)<=Hx/\Hx<(↑(v11.2.2.2.2.2.1.getD v11.1 []).length:Int))/\ ∃(Hm:Option (List Int)),Jz.fn (((v11.2.2.2.2.2.1.getD v11.1 []).getD Hx.toNat (none:Option (List Int))).getD [],((v11.2.2.2.1.getD v11.2.1 []).getD v11.2.2.1.toNat (none:Option (List Int))).getD [],())=some Hm/\((0:Int)<=Fq/\Fq<(↑(v11.2.2.2.2.2.1.getD v11.1 []).length:Int))/\0=0/\v11.2.2.2.2.2.2.2.1.length=v11.2.2.2.2.2.2.2.1.length/\v11.2.2.2.2.2.2.2.1.length+(List.take 1 (List.drop 0 [Fq])).length<=Ct/\0=0/\(List.take (v11.2.2.2.2.2.2.2.1++List.take 1 (List.drop 0 [Fq])).length (List.drop 0 (v11.2.2.2.2.2.2.2.1++List.take 1 (List.drop 0 [Fq])))).length=(List.take (v11.2.2.2.2.2.2.2.1++List.take 1 (List.drop 0 [Fq])).length (List.drop 0 (v11.2.2.2.2.2.2.2.1++List.take 1 (List.drop 0 [Fq])))).length/\0=0/\v11.2.2.2.1.length=v11.2.2.2.1.length/\0=0/\v11.2.2.2.2.2.1.length=(v11.2.2.2.2.2.1.set v11.1 ((v11.2.2.2.2.2.1.getD v11.1 []).set Fq.toNat Hm)).length/\k12 (v11.1,v11.2.1,IntKind.i64.wrap (v11.2.2.1+(1:Int)),v11.2.2.2.1,v11.2.2.2.2.1,v11.2.2.2.2.2.1.set v11.1 ((v11.2.2.2.2.2.1.getD v11.1 []).set Fq.toNat Hm),v11.2.2.2.2.2.2.1,List.take (v11.2.2.2.2.2.2.2.1++List.take 1 (List.drop 0 [Fq])).length (List.drop 0 (v11.2.2.2.2.2.2.2.1++List.take 1 (List.drop 0 [Fq]))),v11.2.2.2.2.2.2.2.2.1,())) (0=0/\(List.take v11.2.2.2.2.2.2.2.1.length (List.drop 0 v11.2.2.2.2.2.2.2.1)).length=(List.take v11.2.2.2.2.2.2.2.1.length (List.drop 0 v11.2.2.2.2.2.2.2.1)).length/\0=0/\v11.2.2.2.1.length=v11.2.2.2.1.length/\0=0/\v11.2.2.2.2.2.1.length=v11.2.2.2.2.2.1.length/\k12 (v11.1,v11.2.1,IntKind.i64.wrap (v11.2.2.1+(1:Int)),v11.2.2.2.1,v11.2.2.2.2.1,v11.2.2.2.2.2.1,v11.2.2.2.2.2.2.1,List.take v11.2.2.2.2.2.2.2.1.length (List.drop 0 v11.2.2.2.2.2.2.2.1),v11.2.2.2.2.2.2.2.2.1,()))) (((0:Int)<=(1:Int)/\(1:Int)<=(↑v11.2.2.2.2.2.2.2.1.length:Int)/\(↑v11.2.2.2.2.2.2.2.1.length:Int)<=(↑v11.2.2.2.2.2.2.2.1.length:Int))/\0=0/\(List.take ((↑v11.2.2.2.2.2.2.2.1.length:Int).toNat-Int.toNat (1:Int)) (List.drop (0+Int.toNat (1:Int)) v11.2.2.2.2.2.2.2.1)).length=(List.take ((↑v11.2.2.2.2.2.2.2.1.length:Int).toNat-Int.toNat (1:Int)) (List.drop (0+Int.toNat (1:Int)) v11.2.2.2.2.2.2.2.1)).length/\0=0/\v11.2.2.2.1.length=v11.2.2.2.1.length/\0=0/\v11.2.2.2.2.2.1.length=v11.2.2.2.2.2.1.length/\k10 (v11.1,v11.2.2.2.1,v11.2.2.2.2.1,v11.2.2.2.2.2.1,v11.2.2.2.2.2.2.1,List.take ((↑v11.2.2.2.2.2.2.2.1.length:Int).toNat-Int.toNat (1:Int)) (List.drop (0+Int.toNat (1:Int)) v11.2.2.2.2.2.2.2.1),v11.2.2.2.2.2.2.2.2.1,()))) (v9.1,0+l.toNat,(0:Int),v9.2.1,v9.2.2.1,v9.2.2.2.1,v9.2.2.2.2.1,List.take v9.2.2.2.2.2.1.length (List.drop 0 v9.2.2.2.2.2.1),v9.2.2.2.2.2.2.1,PUnit.unit)) (∃(Jq:(List Int×PUnit)×PUnit),Qz.fn (v9.2.2.2.1.getD v9.1 [],())=some Jq/\0=0/\Jq.1.1.length=Jq.1.1.length/\0=0/\v9.2.1.length=v9.2.1.length/\0=0/\v9.2.2.2.1.length=v9.2.2.2.1.length/\Dh (λ(Oj:Ab7) (k13:Ab7->Prop)=>Br (decide (Oj.2.1<(↑Jq.1.1.length:Int))) (((0:Int)<=Oj.2.1/\Oj.2.1<(↑Oj.2.2.2.2.2.2.1.length:Int))/\ ∃(Fq:Int),Oj.2.2.2.2.2.2.1[0+Oj.2.1.toNat]?=some Fq/\((0:Int)<=l/\l<(↑Oj.2.2.1.length:Int))/\0=0/\Oj.2.2.2.2.2.2.1.length=Oj.2.2.2.2.2.2.1.length/\0=0/\Oj.2.2.1.length=Oj.2.2.1.length/\0=0/\Oj.2.2.2.2.1.length=Oj.2.2.2.2.1.length/\Dh (λ(Rk:AY) (k16:AY->Prop)=>Br (decide (Rk.2.2.1<(↑(Oj.2.2.1.getD (0+l.toNat) []).length:Int))) (((0:Int)<=Rk.2.2.1/\Rk.2.2.1<(↑(Rk.2.2.2.1.getD Rk.2.1 []).length:Int))/\((0:Int)<=Fq/\Fq<(↑(Rk.2.2.2.2.2.1.getD Rk.1 []).length:Int))/\ ∃(Is:Option (List Int)),Jz.fn (((Rk.2.2.2.2.2.1.getD Rk.1 []).getD Fq.toNat (none:Option (List Int))).getD [],((Rk.2.2.2.1.getD Rk.2.1 []).getD Rk.2.2.1.toNat (none:Option (List Int))).getD [],())=some Is/\ ∃(y18:Int),idx (((Rk.2.2.2.1.getD Rk.2.1 []).getD Rk.2.2.1.toNat (none:Option (List Int))).getD []) Fq=some y18/\((0:Int)<=y18/\y18<(↑(Rk.2.2.2.2.2.1.getD Rk.1 []).length:Int))/\ ∃(y19:List Int),Gk.fn (((Rk.2.2.2.2.2.1.getD Rk.1 []).getD y18.toNat (none:Option (List Int))).getD [],())=some y19/\ ∃(y20:Option (List Int)),Jz.fn (Is.getD [],y19,())=some y20/\0=0/\Rk.2.2.2.1.length=Rk.2.2.2.1.length/\0=0/\Rk.2.2.2.2.2.1.length=Rk.2.2.2.2.2.1.length/\ ∃(WJ:(Int×List (List (Option (List Int)))×List (List (Option (List Int)))×PUnit)×PUnit),(Wv m).fn (Rk.2.2.2.2.2.2.2.2.1,Rk.2.2.2.1,Rk.2.2.2.2.2.1,IntKind.i64.wrap (l+(1:Int)),y20,())=some WJ/\(Rk.1<(Wv m).Fb (Rk.2.2.2.2.2.2.2.2.1,Rk.2.2.2.1,Rk.2.2.2.2.2.1,IntKind.i64.wrap (l+(1:Int)),y20,())/\Rk.1<(List.length WJ.1.2.2.1))/\(Rk.2.1<(Wv m).Fb (Rk.2.2.2.2.2.2.2.2.1,Rk.2.2.2.1,Rk.2.2.2.2.2.1,IntKind.i64.wrap (l+(1:Int)),y20,())/\Rk.2.1<(List.length WJ.1.2.1))/\(Rk.1<(Wv m).Fb (Rk.2.2.2.2.2.2.2.2.1,Rk.2.2.2.1,Rk.2.2.2.2.2.1,IntKind.i64.wrap (l+(1:Int)),y20,())/\Rk.1<(List.length WJ.1.2.2.1))/\(Rk.1<(Wv m).Fb (Rk.2.2.2.2.2.2.2.2.1,Rk.2.2.2.1,Rk.2.2.2.2.2.1,IntKind.i64.wrap (l+(1:Int)),y20,())/\Rk.1<(List.length WJ.1.2.2.1))/\0=0/\Rk.2.2.2.2.2.2.2.1.length=Rk.2.2.2.2.2.2.2.1.length/\0=0/\WJ.1.2.1.length=WJ.1.2.1.length/\0=0/\WJ.1.2.2.1.length=WJ.1.2.2.1.length/\k16 (Rk.1,Rk.2.1,IntKind.i64.wrap (Rk.2.2.1+(1:Int)),WJ.1.2.1,min Rk.2.2.2.2.1 ((Wv m).Fb (Rk.2.2.2.2.2.2.2.2.1,Rk.2.2.2.1,Rk.2.2.2.2.2.1,IntKind.i64.wrap (l+(1:Int)),y20,())),WJ.1.2.2.1,min Rk.2.2.2.2.2.2.1 ((Wv m).Fb (Rk.2.2.2.2.2.2.2.2.1,Rk.2.2.2.1,Rk.2.2.2.2.2.1,IntKind.i64.wrap (l+(1:Int)),y20,())),Rk.2.2.2.2.2.2.2.1,WJ.1.1,())) (0=0/\Rk.2.2.2.2.2.2.2.1.length=Rk.2.2.2.2.2.2.2.1.length/\0=0/\Rk.2.2.2.1.length=Rk.2.2.2.1.length/\0=0/\Rk.2.2.2.2.2.1.length=Rk.2.2.2.2.2.1.length/\k13 (Rk.1,IntKind.i64.wrap (Oj.2.1+(1:Int)),Rk.2.2.2.1,Rk.2.2.2.2.1,Rk.2.2.2.2.2.1,Rk.2.2.2.2.2.2.1,Rk.2.2.2.2.2.2.2.1,Rk.2.2.2.2.2.2.2.2.1,()))) (Oj.1,0+l.toNat,(0:Int),Oj.2.2.1,Oj.2.2.2.1,Oj.2.2.2.2.1,Oj.2.2.2.2.2.1,Oj.2.2.2.2.2.2.1,Oj.2.2.2.2.2.2.2.1,PUnit.unit)) ((0=0/\Oj.2.2.1.length=Oj.2.2.1.length)/\(0=0/\Oj.2.2.2.2.1.length=Oj.2.2.2.2.1.length)/\(Wv (m+1)).Fb (n,G,T,l,p,())<=Oj.2.2.2.1/\(Wv (m+1)).Fb (n,G,T,l,p,())<=Oj.2.2.2.2.2.1/\P ((Oj.2.2.2.2.2.2.2.1,Oj.2.2.1,Oj.2.2.2.2.1,()),()))) (v9.1,(0:Int),v9.2.1,v9.2.2.1,v9.2.2.2.1,v9.2.2.2.2.1,Jq.1.1,v9.2.2.2.2.2.2.1,PUnit.unit))) (0+l.toNat,G.set (0+l.toNat) (G.getD (0+l.toNat) []++List.take 1 (List.drop 0 [p])),min G.length (0+l.toNat),T,T.length,List.take y8.1.1.length (List.drop 0 y8.1.1),n,PUnit.unit))/\(((((0:Int)<=l/\l<(↑G.length:Int))/\((Lm G l p T y7 n))/\(Lm G l p T y7 n))/\((0:Int)<=l/\l<(↑G.length:Int))/\(Lm G l p T y7 n))/\((0:Int)<=l/\l<(↑G.length:Int))/\(Lm G l p T y7 n))/\(((((0:Int)<=l/\l<(↑G.length:Int))/\((Lm G l p T y7 n))/\(Lm G l p T y7 n))/\((0:Int)<=l/\l<(↑G.length:Int))/\(Lm G l p T y7 n))/\(((0:Int)<=l/\l<(↑G.length:Int))/\(((Lm G l p T y7 n))/\(Lm G l p T y7 n))/\(((Lm G l p T y7 n))/\((Lm G l p T y7 n))/\(Lm G l p T y7 n))/\((Lm G l p T y7 n))/\((Lm G l p T y7 n))/\(Lm G l p T y7 n))/\(((0:Int)<=l/\l<(↑G.length:Int))/\(Lm G l p T y7 n))/\((0:Int)<=l/\l<(↑G.length:Int))/\((Lm G l p T y7 n))/\((Lm G l p T y7 n))/\(Lm G l p T y7 n))/\(((0:Int)<=l/\l<(↑G.length:Int))/\(Lm G l p T y7 n))/\(((0:Int)<=l/\l<(↑G.length:Int))/\(Lm G l p T y7 n))/\((0:Int)<=l/\l<(↑G.length:Int))/\((Lm G l p T y7 n))/\((Lm G l p T y7 n))/\(Lm G l p T y7 n)))=fnMW (Abd [Si+7]) (look [(229,xY),(213,Qz),(142,Jz),(143,Gk),(212,bw.m (Wv m))]) (Wv (m+1)) Try.f212 (n,G,T,l,p,()) P:=by kernel_rfl
theorem CL {k l:Nat} {p:List Int} {s:Cc×Cc} (h:Ix s.2 k l p=true):Ht k l p s=s:=by
 cases k with
 |zero=>rfl
 |succ k=>unfold Ht;rw [Ac h]
theorem CJ (k l:Nat) (p:List Int) (s:Cc×Cc):Ht (k+1) l p s=if Ix s.2 (k+1) l p=true then s else
   (gx (Zp (s.1.getD l []++ [some p]) (s.2.getD l [])) (s.1.getD l []++ [some p])).foldl (λs q=>Ht k (l+1) q s)
    (s.1.set l (s.1.getD l []++ [some p]),s.2.set l (Zp (s.1.getD l []++ [some p]) (s.2.getD l []))):=rfl
theorem za {n:Nat} {p:List Int} (h:Pm n p) {i:Nat} (hi:i<n):idx p (i:Int)=some (ap p i:Int):=by
 have l5:i<p.length:=by rw [h.1];exact hi
 rw [Ck l5,<-(h.Zk hi).1,Ig l5]
theorem JP {x:Int} {gs:List PO} {j:Nat} (hj:j<gs.length) (s:Row×List Int):az x (gs.take (j+1)) s=aK x (az x (gs.take j) s) gs[j]:=by
 unfold az
 rw [Fc,Ab hj,Mb,Rc]
 rfl
theorem JQ {gs:List PO} {f:Nat} {row:Row} :al gs f [] row=row:=by cases f<;>rfl
theorem Yc {n:Nat} {p:List Int} (h:Pm n p):0<p.length/\p.length<=20:=⟨by rw [h.1];exact h.n1,by rw [h.1];exact h.n2⟩
theorem pC {n:Nat} {p q:List Int} (h:Pm n p) (k:Pm n q):Ny q.length p:=by rw [k.1];exact h.row
theorem Ang {m:Nat} (n:Int) (G T:List (List (Option (List Int)))) (l:Int) (p:Option (List Int)) (h:(∃N L q,p=some q/\de N L n G T l q)/\(n-l).toNat<m+1):
  fnMW (Abd [Si+7]) (look [(229,xY),(213,Qz),(142,Jz),(143,Gk),(212,bw.m (Wv m))]) (Wv (m+1)) Try.f212 (n,G,T,l,p,()) (λ(z:(Int×List (List (Option (List Int)))×List (List (Option (List Int)))×Unit)×Unit)=>z=((n,(Ht (n-l).toNat l.toNat (p.getD []) (G,T)).1,(Ht (n-l).toNat l.toNat (p.getD []) (G,T)).2,()),())):=by
 obtain ⟨⟨N,L,q,rfl,h⟩,hm⟩:=h
 have h':=h
 obtain ⟨n1,n2,en,el,hle,v,pm,fx⟩:=h
 subst en el
 have hk:((N:Int)-(L:Int)).toNat=N-L:=by omega
 rw [hk,Aj]
 refine Eq.mp (Ao5 (N:Int) G T (L:Int) (some q) _) ⟨_,Ac ⟨N,L,?a⟩,?b⟩
 case a=>
  simp only [Dj,Aw,Bp]
  exact h'
 obtain ⟨v1,v2,v3,v4⟩:=v
 dsimp only at v1 v2
 have hw:IntKind.i64.wrap ((L:Int)+1)=((L+1:Nat):Int):=Bk (by omega)
 simp only [Lm]
 simp only [Dj,Aw,Bp,hk,Aj,Bo,eq_self,true_and,On,List.take_succ_cons,List.take_zero,Av,Fg,Cf,hw]
 refine Br.of (λhh=>⟨by show Int.toNat (L:Int)<=G.length;omega,by show Int.toNat (L:Int)<=T.length;omega,?_⟩) λhh=>?_
 ·rw [CL (s:=(G,T)) hh]
 obtain ⟨k,hNk⟩: ∃k,N-L=k+1:=by
  cases e:N-L with
  |zero=>rw [e] at hh;simp [Ix] at hh
  |succ k=>exact ⟨k,rfl⟩
 have hLN:L<N:=by omega
 have hv:V N (k+1) L (G,T):=by rw [<-hNk];exact ⟨v1,v2,v3,v4⟩
 rw [hNk] at hh⊢
 have e1:(0:Int)<=(L:Int)/\(L:Int)<(G.length:Int):=by omega
 have e1':(0:Int)<=(L:Int)/\(L:Int)<(T.length:Int):=by omega
 have hgl:(G.getD L []).length<=400:=PV n2 (by omega) hv
 have e2:(G.getD L []).length+1<=Ct:=by show _<=4294967296;omega
 simp only [e1,e1',e2,and_self,true_and,On]
 generalize nv:G.getD L []++ [some q]=gs
 have Awc:gs.length<=401:=by rw [<-nv,Au,Cd];omega
 have hg:PG N L gs:=by rw [<-nv];exact hv.pg pm fx
 have hr0:Va N L gs (T.getD L []):=by rw [<-nv];exact hv.At8 q
 obtain ⟨r1,r2,r3⟩:=GD hLN n2 hg hr0
 generalize hR:Zp gs (T.getD L [])=R at r1 r2 r3
 have z8:Ht (k+1) L q (G,T)=(gx R gs).foldl (λs q=>Ht k (L+1) q s) (G.set L gs,T.set L R):=by
  rw [CJ,Ak (by rw [hh];simp)]
  dsimp only
  rw [nv,hR]
 rw [z8]
 have hTl:L<T.length:=by omega
 have hGl:L<G.length:=by omega
 have hG1:(G.set L gs).getD L []=gs:=dm G L hGl gs
 have hT1: ∀row:Row,(T.set L row).getD L []=row:=dm T L hTl
 refine ⟨_,Ac (by show (T.getD L []).length<=20;rw [hr0.rl];exact n2),?_⟩
 dsimp only
 have hn0:(Lb (T.getD L [])).length+Me (T.getD L [])<=40:=by have:=zz (T.getD L []);have:=j5 (T.getD L []);have:=hr0.rl;omega
 have hq0:RP gs (Lb (T.getD L [])) (T.getD L []):=⟨λy hy=>Ul.1 hy,λy hy=> .inl (Ul.2 ⟨y,rfl,hy⟩)⟩
 refine ⟨λv=> ∃(row:Row) (qu:List Int) (kg kt:Nat),v=(L,G.set L gs,kg,T.set L row,kt,qu,(N:Int),())/\L<=kg/\L<=kt/\qu.length+Me row<=40/\Va N L gs row/\RP gs qu row/\al gs (qu.length+Me row) qu row=R,
  fun v=>v.2.2.2.2.2.1.length+Me (v.2.2.2.1.getD v.1 []),⟨T.getD L [],Lb (T.getD L []),min G.length L,T.length,?_,by omega,by omega,hn0,hr0,hq0,?_⟩,?_⟩
 ·rw [wk T L hTl]
 ·rw [<-CX hLN hg 100 _ _ (by omega) hr0 hq0];exact hR
 rintro v ⟨row,qu,kg,kt,rfl,hkg,hkt,hb,YS,hqi,XY⟩
 dsimp only
 simp only [hG1,hT1,Cf]
 refine Br.dec (λhl=>⟨e1.2,?_⟩) λhl=>?_
 ·cases qu with
  |nil=>simp at hl
  |cons x qu=>
  obtain ⟨p1,p2,xn,t,rfl,ht⟩:=MX hLN hg YS hqi
  have hxn:xn<N:=by rw [<-YS.rl];exact np ht
  refine Bs gs.length (λv=>v.2.2.1) (λj v=> ∃kg kt:Nat,v=(L,L,(j:Int),G.set L gs,kg,T.set L (az (xn:Int) (gs.take j) (row,qu)).1,kt,(xn:Int)::(az (xn:Int) (gs.take j) (row,qu)).2,(N:Int),())/\L<=kg/\L<=kt) rfl ⟨kg,kt,rfl,hkg,hkt⟩ ?_
  rintro j v K hj hi ⟨kg,kt,rfl,h1,h2⟩ hK
  dsimp only
  simp only [hG1,hT1,Aj]
  refine Br.dec (λhl=>?_) λhl=>?_
  ·have hl:j<gs.length:=by omega
   obtain ⟨x1,x2⟩:=Aal hLN hg (gs.take j) (q:=qu) (λo ho=>Et ho) YS ht
   have Vz:=JP (x:=(xn:Int)) hl (row,qu)
   generalize az (xn:Int) (gs.take j) (row,qu)=s at x1 x2 Vz⊢
   obtain ⟨r,qq⟩:=s
   dsimp only at x1 x2⊢
   obtain ⟨g,oD,Tt,hgf⟩:=hg gs[j] (Al hl)
   have htx:r.getD xn none=some t:=x1.mono _ _ ht
   obtain ⟨t1,t2,t3,t4⟩:=x1.ok.rt _ _ htx
   have JF:r.length=N:=x1.ok.rl
   have hgj:gs.getD j none=some g:=by rw [DX hl];exact oD
   have hy:=Tt.lt hxn
   have hga:=(Tt.Zk hxn).1
   have Adj:qq.length+Me r=qu.length+Me row:=x1.phi
   simp only [Av] at hb
   simp only [hgj,Bp]
   refine ⟨⟨by omega,by omega⟩,⟨by omega,by simp only [Av];omega⟩,_,rfl,_,za Tt hxn,⟨by omega,by omega⟩,?_⟩
   rw [oD] at Vz
   unfold aK at Vz
   dsimp only at Vz
   rw [Bp,hga,Aj,Aj,htx,Bp] at Vz
   rw [Aj]
   refine Br.of (λhn=>?_) λhn=>?_
   ·have hn:r.getD (ap g xn) none=none:=by
     cases e:r.getD (ap g xn) none with
     |none=>rfl
     |some u=>rw [e] at hn;simp at hn
    rw [hn] at Vz
    refine ⟨⟨by omega,by simp only [Av];omega⟩,_,rfl,⟨by omega,by omega⟩,some (Ai t g),?_,⟨by omega,by omega⟩,?_,?_⟩
    ·rw [Aj,htx,Bp]
     exact Ac ⟨Yc t1,pC t1 Tt⟩
    ·show qq.length+1+1<=4294967296
     omega
    ·rw [Bk (by omega)]
     refine hK hl _ rfl ⟨kg,kt,?_,h1,h2⟩
     rw [Vz,List.set_set]
     rfl
   ·have hn: ∃u,r.getD (ap g xn) none=some u:=by
     cases e:r.getD (ap g xn) none with
     |none=>rw [e] at hn;simp at hn
     |some u=>exact ⟨u,rfl⟩
    obtain ⟨u,hn⟩:=hn
    rw [hn] at Vz
    rw [Bk (by omega)]
    refine hK hl _ rfl ⟨kg,kt,?_,h1,h2⟩
    rw [Vz]
  ·have:j=gs.length:=by omega
   subst this
   rw [Aw]
   generalize hs:az (xn:Int) gs (row,qu)=s at p1 p2⊢
   obtain ⟨r,qq⟩:=s
   dsimp only at p1 p2⊢
   have Adj:qq.length+Me r=qu.length+Me row:=p1.phi
   simp only [Av] at hb XY
   refine ⟨⟨by omega,by simp only [Av];omega,Qj _⟩,⟨r,qq,kg,kt,?_,h1,h2,by omega,p1.ok,p2,?_⟩,?_⟩
   ·simp
   ·rw [show qu.length+1+Me row=(qu.length+Me row)+1 by omega] at XY
    simp only [al,hs] at XY
    rw [Adj]
    exact XY
   ·simp only [Av]
    have:(List.take (qq.length+1-Int.toNat 1) (List.drop (Int.toNat 1) ((xn:Int)::qq))).length=qq.length:=by simp
    rw [this]
    omega
 ·have:qu= []:=Cl (by omega)
  subst this
  rw [JQ] at XY
  subst XY
  have hpr:=Aag hLN hg YS r3
  have hvl:=hv.lower gs row
  have Afs: ∀qs:List (List Int),(∀q∈qs,q∈gx row gs)->V N k (L+1) (qs.foldl (λs q=>Ht k (L+1) q s) (G.set L gs,T.set L row))/\Wa (L+1) (G.set L gs,T.set L row) (qs.foldl (λs q=>Ht k (L+1) q s) (G.set L gs,T.set L row)):=
   fun qs SV=>PR n1 n2 (by omega) qs _ (λq hq=>hpr q (SV q hq)) hvl
  refine ⟨_,Ac (by show row.length<=20;rw [YS.rl];exact n2),?_⟩
  dsimp only
  have hol:=zz row
  have JF:=YS.rl
  refine Bs (Lb row).length (λv=>v.2.1) (λi v=> ∃(s:Cc×Cc) (kg kt:Nat),v=(L,(i:Int),s.1,kg,s.2,kt,Lb row,(N:Int),())/\L<=kg/\L<=kt/\s=(((Lb row).take i).flatMap λy=>gs.map (Ud row y)).foldl (λs q=>Ht k (L+1) q s) (G.set L gs,T.set L row)) rfl ⟨_,kg,kt,rfl,hkg,hkt,rfl⟩ ?_
  rintro i v K hi l5 ⟨s,kg,kt,rfl,h1,h2,hs⟩ hK
  dsimp only
  have Qa: ∀q∈((Lb row).take i).flatMap (λy=>gs.map (Ud row y)),q∈gx row gs:= λq hq=>by
   obtain ⟨y,hy,hq⟩:=Ga.1 hq
   exact Ga.2 ⟨y,Et hy,hq⟩
  refine Br.dec (λhl=>?_) λhl=>?_
  ·have hl:i<(Lb row).length:=by omega
   obtain ⟨f1,f2⟩:=Afs _ Qa
   rw [<-hs] at f1 f2
   have g1:s.1.getD L []=gs:=by rw [(f2.low L (by omega)).1];exact hG1
   have g2:s.1.length=N:=f1.1
   obtain ⟨yn,hyn,hyr⟩:=Ul.1 (Al hl)
   obtain ⟨t,ht⟩:=Ko.1 hyr
   have hyN:yn<N:=by rw [<-JF];exact np ht
   obtain ⟨t1,t2,t3,t4⟩:=YS.rt _ _ ht
   refine ⟨⟨by omega,by omega⟩,(yn:Int),by rw [Aj,Ab hl,hyn],by omega,?_⟩
   rw [g1]
   refine Bs gs.length (λv=>v.2.2.1) (λj v=> ∃(s':Cc×Cc) (kg kt:Nat),v=(L,L,(j:Int),s'.1,kg,s'.2,kt,Lb row,(N:Int),())/\L<=kg/\L<=kt/\s'=(((Lb row).take i).flatMap (λy=>gs.map (Ud row y))++(gs.take j).map (Ud row (yn:Int))).foldl (λs q=>Ht k (L+1) q s) (G.set L gs,T.set L row)) rfl ⟨s,kg,kt,rfl,h1,h2,by simpa using hs⟩ ?_
   rintro j v K' hj KS ⟨s',kg,kt,rfl,h1,h2,z7⟩ hK'
   dsimp only
   refine Br.dec (λKe=>?_) λKe=>?_
   ·have Ke:j<gs.length:=by omega
    have QJ: ∀q∈((Lb row).take i).flatMap (λy=>gs.map (Ud row y))++(gs.take j).map (Ud row (yn:Int)),q∈gx row gs:= λq hq=>by
     rcases Ax.1 hq with hq|hq
     ·exact Qa q hq
     ·obtain ⟨o,ho,rfl⟩:=Ay.1 hq
      exact Ga.2 ⟨(yn:Int),Ul.2 ⟨yn,rfl,hyr⟩,Ay.2 ⟨o,Et ho,rfl⟩⟩
    obtain ⟨f1',f2'⟩:=Afs _ QJ
    rw [<-z7] at f1' f2'
    obtain ⟨G',T'⟩:=s'
    dsimp only at f1' f2'⊢
    have g1':G'.getD L []=gs:=by have:=(f2'.low L (by omega)).1;dsimp only at this;rw [this];exact hG1
    have g3':T'.getD L []=row:=by have:=(f2'.low L (by omega)).2;dsimp only at this;rw [this];exact hT1 row
    have g4':G'.length=N:=f1'.1
    have g5':T'.length=N:=f1'.2.1
    obtain ⟨g,oD,Tt,hgf⟩:=hg gs[j] (Al Ke)
    have hgj:gs.getD j none=some g:=by rw [DX Ke];exact oD
    have BY:some g∈gs:=by rw [<-oD];exact Al Ke
    have hy:=Tt.lt hyN
    obtain ⟨t',vu⟩:=Ko.1 (r3 yn t g ht BY)
    obtain ⟨u1,u2,u3,u4⟩:=YS.rt _ _ vu
    have Amk:Ud row (yn:Int) gs[j]=Ai (Ai t g) (Bg t'):=by rw [oD];exact jr ht vu
    have hqm:=hpr _ (Ga.2 ⟨(yn:Int),Ul.2 ⟨yn,rfl,hyr⟩,Ay.2 ⟨gs[j],Al Ke,Amk⟩⟩)
    simp only [g1',g3',Aj,hgj,ht,Bp]
    have tt:L<Int.toNat ((L+1:Nat):Int):=by omega
    have XX:=yy n1 n2 k (L+1) _ (G',T') (by omega) f1' hqm.1 hqm.2
    have Au9:((Ht k (L+1) (Ai (Ai t g) (Bg t')) (G',T')).1).length=N:=XX.v.1
    have Aua:((Ht k (L+1) (Ai (Ai t g) (Bg t')) (G',T')).2).length=N:=XX.v.2.1
    have hkk:((N:Int)-((L+1:Nat):Int)).toNat=k:=by omega
    refine ⟨⟨by omega,by omega⟩,⟨by omega,by omega⟩,some (Ai t g),Ac ⟨Yc t1,pC t1 Tt⟩,_,za Tt hyN,⟨by omega,by omega⟩,Bg t',?_,some (Ai (Ai t g) (Bg t')),?_,_,Ac ⟨⟨N,L+1,_,rfl,?pr⟩,?lt⟩,⟨tt,?k1⟩,⟨tt,?k2⟩,⟨tt,?k3⟩,⟨tt,?k4⟩,?go⟩
    case pr=>exact ⟨n1,n2,rfl,rfl,by omega,by rw [show N-(L+1)=k by omega];exact f1',hqm.1,hqm.2⟩
    case lt=>
     show ((N:Int)-((L+1:Nat):Int)).toNat<m
     omega
    case go=>
     dsimp only
     rw [Bk (by omega)]
     refine hK' Ke _ rfl ⟨_,_,_,rfl,?_,?_,?_⟩
     ·show L<=min kg (Int.toNat ((L+1:Nat):Int));omega
     ·show L<=min kt (Int.toNat ((L+1:Nat):Int));omega
     ·rw [Fc,Ab Ke,Mb,Il,<-Cs,Rc,<-z7]
      simp only [Bm,List.map_nil,Jj,List.foldl_nil,Amk,hkk,Aj,Bp]
    case k1=>simp only [hkk,Aj,Bp];omega
    case k2=>simp only [hkk,Aj,Bp];omega
    case k3=>simp only [hkk,Aj,Bp];omega
    case k4=>simp only [hkk,Aj,Bp];omega
    ·rw [Aj,vu,Bp]
     exact Ac ⟨by show t'.length<=20;rw [u1.1];exact n2,u1.2.row⟩
    ·exact Ac ⟨Yc (t1.comp Tt),pC (t1.comp Tt) u1.inv⟩
   ·have:j=gs.length:=by omega
    subst this
    rw [Bk (by omega)]
    refine hK hl _ rfl ⟨s',kg,kt,rfl,h1,h2,?_⟩
    rw [z7,Aw,Fc,Ab hl,Mb,List.flatMap_append,hyn]
    simp
  ·have:i=(Lb row).length:=by omega
   subst this
   rw [Aw] at hs
   refine ⟨h1,h2,?_⟩
   rw [hs]
   rfl
theorem Ab0 {m:Nat} (Aik:Cn Try.prog 212 (Wv m)):Cn Try.prog 212 (Wv (m+1)):=
 Cn.eM (Aep [Si+7]) (Bd UW (Ft lq (Bd uG (Bd Xb (Ft Aik Bw))))) mixed Try.func212 (by kernel_rfl) (by kernel_rfl) λx h=>Ang x.1 x.2.1 x.2.2.1 x.2.2.2.1 x.2.2.2.2.1 h
theorem NO:Cn Try.prog 212 (Wv 0):=
 Cn.eM pU Bw mixed Try.func212 (by kernel_rfl) (by kernel_rfl) λ_ h=>absurd h.2 (Ec _)
theorem uD: ∀m,Cn Try.prog 212 (Wv m)
 |0=>NO
 |m+1=>Ab0 (uD m)
noncomputable abbrev zY:MSpec:=eM Agh (λx=> ∃N L q,x.2.2.2.2.1=some q/\de N L x.1 x.2.1 x.2.2.1 x.2.2.2.1 q)
 (λx=>((x.1,(Ht (x.1-x.2.2.2.1).toNat x.2.2.2.1.toNat (x.2.2.2.2.1.getD []) (x.2.1,x.2.2.1)).1,(Ht (x.1-x.2.2.2.1).toNat x.2.2.2.1.toNat (x.2.2.2.2.1.getD []) (x.2.1,x.2.2.1)).2,()),()))
theorem NP:Cn Try.prog 212 zY:=Cn.Agk (λx=>(x.1-x.2.2.2.1).toNat) uD
def Tn (n:Nat):Cc:=List.replicate n []
def cb (n i:Nat):Row:=(List.replicate n none).set i (some (upto n))
def Zd (n:Nat):Cc:=(List.range n).map λi=>cb n i
def Uq (n:Nat) (gens:List PO):Cc×Cc:=gens.foldl (λs o=>Ht n 0 (o.getD []) s) (Tn n,Zd n)
noncomputable abbrev LI:MSpec:= {Ip:= [none,none],ins:= [(false, .Fy tI),(false, .Fy tLO)],Hi:=false,Hb:= [none,none,none],outs:= [.Fy tI, .Bl tO vA false, .Bl tO vA false],fn:= λ_=>none,rp:=some 198}
noncomputable abbrev jq:MSpec:=eM LI (λx=>(1<=x.1/\x.1<=20)/\List.length x.2.1<=4294967296/\ ∀o∈(x.2.1:List PO),∃g,o=some g/\Pm x.1.toNat g)
 (λx=>((x.1,(Uq x.1.toNat x.2.1).1,(Uq x.1.toNat x.2.1).2,()),()))
abbrev aX:Type:=Int×List (List (Option (List Int)))×Int×List (List (Option (List Int)))×PUnit
theorem IQ (n:Int) (gens:List (Option (List Int))) (P:(Int×List (List (Option (List Int)))×List (List (Option (List Int)))×Unit)×Unit->Prop):(((0:Int)<=n/\n<(↑Ct:Int)+(1:Int))/\n=n/\0=0/\(List.replicate n.toNat ([]:List (Option (List Int)))).length=(List.replicate n.toNat ([]:List (Option (List Int)))).length/\0=0/\0=([]:List Int).length/\Dh (λ(v3:aX) (k4:aX->Prop)=>Br (decide (v3.1<n)) (((0:Int)<=n/\n<(↑Ct:Int)+(1:Int))/\n=n/\ ∃(y5:Option (List Int)),Pv.fn (n,())=some y5/\((0:Int)<=v3.1/\v3.1<(↑(List.replicate n.toNat (none:Option (List Int))).length:Int))/\0+v3.1.toNat<(List.replicate n.toNat (none:Option (List Int))).length/\0=0/\(List.replicate n.toNat (none:Option (List Int))).length=((List.replicate n.toNat (none:Option (List Int))).set (0+v3.1.toNat) y5).length/\(0=0/\v3.2.2.2.1.length=v3.2.2.2.1.length)/\(0=0/\1= [(List.replicate n.toNat (none:Option (List Int))).set (0+v3.1.toNat) y5].length)/\0< [(List.replicate n.toNat (none:Option (List Int))).set (0+v3.1.toNat) y5].length/\v3.2.2.2.1.length+ [(List.replicate n.toNat (none:Option (List Int))).set (0+v3.1.toNat) y5].length<=Ct/\0=0/\v3.2.1.length=v3.2.1.length/\0=0/\(v3.2.2.2.1++ [(List.replicate n.toNat (none:Option (List Int))).set (0+v3.1.toNat) y5]).length=(v3.2.2.2.1++ [(List.replicate n.toNat (none:Option (List Int))).set (0+v3.1.toNat) y5]).length/\k4 (IntKind.i64.wrap (v3.1+(1:Int)),v3.2.1,v3.2.2.1,v3.2.2.2.1++ [(List.replicate n.toNat (none:Option (List Int))).set (0+v3.1.toNat) y5],())) (0=0/\v3.2.1.length=v3.2.1.length/\0=0/\v3.2.2.2.1.length=v3.2.2.2.1.length/\Dh (λ(v5:aX) (k6:aX->Prop)=>Br (decide (v5.1<(↑gens.length:Int))) (∃(y7:Option (List Int)),idx gens v5.1=some y7/\0=0/\v5.2.1.length=v5.2.1.length/\0=0/\v5.2.2.2.1.length=v5.2.2.2.1.length/\ ∃(y8:(Int×List (List (Option (List Int)))×List (List (Option (List Int)))×PUnit)×PUnit),zY.fn (v5.2.2.1,v5.2.1,v5.2.2.2.1,(0:Int),y7,())=some y8/\0=0/\y8.1.2.1.length=y8.1.2.1.length/\0=0/\y8.1.2.2.1.length=y8.1.2.2.1.length/\k6 (IntKind.i64.wrap (v5.1+(1:Int)),y8.1.2.1,y8.1.1,y8.1.2.2.1,())) ((0=0/\v5.2.1.length=v5.2.1.length)/\(0=0/\v5.2.2.2.1.length=v5.2.2.2.1.length)/\P ((v5.2.2.1,v5.2.1,v5.2.2.2.1,()),()))) ((0:Int),v3.2.1,v3.2.2.1,v3.2.2.2.1,PUnit.unit))) ((0:Int),List.replicate n.toNat ([]:List (Option (List Int))),n,[],PUnit.unit))=fnMW aY (look [(120,Pv),(212,zY)]) jq Try.f193 (n,gens,()) P:=by kernel_rfl
theorem Zc (n i:Nat):(Tn n).getD i []= []:=by
 unfold Tn
 rw [Ah,Zh]
 split<;>rfl
theorem mz {n i:Nat} (h:i<n):(Zd n).getD i []=cb n i:=by
 unfold Zd
 rw [Ah,En,Xw h]
 rfl
theorem oc {n i y:Nat} (h:i<n):(cb n i).getD y none=if i=y then some (upto n) else none:=by
 unfold cb
 rw [Li,Gd]
 by_cases e:i=y
 ·rw [Ac ⟨e,h⟩,Ac e]
 ·rw [Ak (λhh=>e hh.1),Ak e,Ah,Zh]
  split<;>rfl
theorem uQ {n:Nat} (h1:1<=n) (h2:n<=20): ∀(k l:Nat),l+k=n->dH n k l (Tn n,Zd n)
 |0,l,hk=>Zc n l
 |k+1,l,hk=>by
  have hl:l<n:=by omega
  have hg: ∀(g:List Int) (j:Nat),some g∈(Tn n).getD j []->False:= λg j hg=>by rw [Zc] at hg;cases hg
  refine ⟨uQ h1 h2 k (l+1) (by omega),⟨λo ho=>?_,?_,?_,λy t e0=>?_,λy t g _ Sm=>(hg _ _ Sm).elim,λy t g t' _ Sm=>(hg _ _ Sm).elim⟩,λg Sm=>(hg _ _ Sm).elim⟩
  ·have ho:o∈(Tn n).getD l []:=ho
   rw [Zc] at ho;cases ho
  ·show ((Zd n).getD l []).length=n
   rw [mz hl];simp [cb]
  ·show ((Zd n).getD l []).getD l none=_
   rw [mz hl,oc hl,Ac rfl]
  ·replace e0:((Zd n).getD l []).getD y none=some t:=e0
   rw [mz hl,oc hl] at e0
   by_cases hy:l=y
   ·rw [Ac hy] at e0
    have e1:=Bb e0
    subst e1 hy
    exact ⟨Pm.id h1 h2,λi hi=>ia (by omega),ia hl, .id⟩
   ·rw [Ak hy] at e0;cases e0
theorem HP (n:Nat): ∀(k l:Nat),GBf k l (Tn n,Zd n)
 |0,_=>trivial
 |k+1,l=>⟨HP n k (l+1),by show ((Tn n).getD l []).length<=_;rw [Zc];exact Ja _⟩
theorem si {n:Nat} (h1:1<=n) (h2:n<=20):V n n 0 (Tn n,Zd n):=⟨by simp [Tn],by simp [Zd],uQ h1 h2 n 0 (by omega),HP n n 0⟩
def PmL (n:Nat) (gens:List PO):Prop:= ∀o∈gens,∃g,o=some g/\Pm n g
theorem CI {n:Nat} {gens:List PO} {j:Nat} (hj:j<gens.length):Uq n (gens.take (j+1))=Ht n 0 (gens[j].getD []) (Uq n (gens.take j)):=by
 unfold Uq
 rw [Fc,Ab hj,Mb,Rc]
 rfl
theorem oM {n:Nat} (h1:1<=n) (h2:n<=20): ∀(gens:List PO) (s:Cc×Cc),PmL n gens->V n n 0 s->V n n 0 (gens.foldl (λs o=>Ht n 0 (o.getD []) s) s)/\
  Wa 0 s (gens.foldl (λs o=>Ht n 0 (o.getD []) s) s)/\(∀g,some g∈gens->Gn n ((gens.foldl (λs o=>Ht n 0 (o.getD []) s) s).1.getD 0 []) g)/\ ∀o∈(gens.foldl (λs o=>Ht n 0 (o.getD []) s) s).1.getD 0 [],o∈s.1.getD 0 []\/o∈gens
 | [],s,_,hv=>⟨hv,Wa.refl _ _,(λ_ hg=>by cases hg),λ_ ho=> .inl ho⟩
 |o::gens,s,hg,hv=>by
  obtain ⟨g,rfl,Tt⟩:=hg o (by simp)
  have ha:=yy h1 h2 n 0 g s (by omega) hv Tt (λi hi=>absurd hi (Ec _))
  obtain ⟨a1,a2,a3,a4⟩:=oM h1 h2 gens (Ht n 0 g s) (λo ho=>hg o (by simp [ho])) ha.v
  refine ⟨a1,ha.grow.trans a2 (Ap _),λg' Sm=>?_,λo ho=>?_⟩
  ·rcases Bc.1 Sm with e|Sm
   ·cases e;exact ha.Ail.mono λg hg=>a2.xb _ _ hg
   ·exact a3 g' Sm
  ·rcases a4 o ho with h|h
   ·rcases ha.gens o h with h|h
    ·exact .inl h
    ·exact .inr (by simp [h])
   ·exact .inr (by simp [h])
theorem CH {n:Nat} (h1:1<=n) (h2:n<=20) {gens:List PO} (hg:PmL n gens):V n n 0 (Uq n gens):=(oM h1 h2 gens _ hg (si h1 h2)).1
theorem td {n:Nat} (h1:1<=n) (h2:n<=20) {gens:List PO} (hg:PmL n gens) {p:List Int} (hp:Pm n p):Ix (Uq n gens).2 n 0 p=true↔Gn n gens p:=by
 obtain ⟨a1,a2,a3,a4⟩:=oM h1 h2 gens _ hg (si h1 h2)
 have hS:BX n λg=>some g∈gens:=⟨⟨h1,h2⟩,λg Sm=>by obtain ⟨g',e,h⟩:=hg _ Sm;cases e;exact h⟩
 have Qa: ∀g,some g∈(Uq n gens).1.getD 0 []->some g∈gens:= λg Sm=>by
  rcases a4 _ Sm with h|h
  ·have h:some g∈(Tn n).getD 0 []:=h
   rw [Zc] at h;cases h
  ·exact h
 have hS':BX n λg=>some g∈(Uq n gens).1.getD 0 []:=⟨⟨h1,h2⟩,λg Sm=>hS.2 g (Qa g Sm)⟩
 refine (Uh h1 h2 n 0 (Uq n gens) (by omega) a1.2.2.1 p hp λi hi=>absurd hi (Ec _)).trans ⟨λh=>h.mono Qa,λh=>h.trans hS' λg Sm=>a3 g Sm⟩
theorem GO (n:Int) (gens:List (Option (List Int))) (h:(1<=n/\n<=20)/\List.length gens<=4294967296/\ ∀o∈(gens:List PO),∃g,o=some g/\Pm n.toNat g):
  fnMW aY (look [(120,Pv),(212,zY)]) jq Try.f193 (n,gens,()) (λ(z:(Int×List (List (Option (List Int)))×List (List (Option (List Int)))×Unit)×Unit)=>z=((n,(Uq n.toNat gens).1,(Uq n.toNat gens).2,()),())):=by
 obtain ⟨⟨h1,h2⟩,h3,hg⟩:=h
 obtain ⟨N,rfl⟩: ∃N:Nat,n=N:=⟨n.toNat,by omega⟩
 rw [Aj] at hg⊢
 have h1:1<=N:=by omega
 have h2:N<=20:=by omega
 refine Eq.mp (IQ (N:Int) gens _) ?_
 have hm:((0:Int)<=(N:Int)/\(N:Int)<(Ct:Int)+1):=⟨by omega,by show (N:Int)<(4294967296:Int)+1;omega⟩
 simp only [hm,and_self,eq_self,true_and,Aj,Bo,Fg,Cf,Gd,Av,Nat.lt_add_one,Au]
 refine Bs N (λv=>v.1) (λj v=>v=((j:Int),Tn N,(N:Int),(List.range j).map (cb N),())) rfl rfl ?_
 rintro j v K hj hi rfl hK
 dsimp only
 refine Br.dec (λhl=>?_) λhl=>?_
 ·refine ⟨_,Ac ⟨by show (1:Int)<=N;omega,by show (N:Int)<=20;omega⟩,⟨by omega,by omega⟩,by rw [Aj];omega,?_,?_⟩
  ·show _<=4294967296
   simp only [Bt,Nl]
   omega
  ·rw [Bk (by omega)]
   refine hK (by omega) _ rfl ?_
   rw [bb,Il]
   rfl
 ·have:j=N:=by omega
  subst this
  refine Bs gens.length (λv=>v.1) (λi v=>v=((i:Int),(Uq j (gens.take i)).1,(j:Int),(Uq j (gens.take i)).2,())) rfl rfl ?_
  rintro i v K' l5 Ard rfl hK'
  dsimp only
  refine Br.dec (λKe=>?_) λKe=>?_
  ·have Ke:i<gens.length:=by omega
   obtain ⟨g,oD,Tt⟩:=hg gens[i] (Al Ke)
   have hv:=CH h1 h2 (gens:=gens.take i) λo ho=>hg o (Et ho)
   refine ⟨_,Ck Ke,_,Ac ⟨j,0,g,oD,h1,h2,rfl,rfl,Ja _,hv,Tt,λi hi=>absurd hi (Ec _)⟩,?_⟩
   rw [Bk (by omega)]
   refine hK' Ke _ rfl ?_
   rw [CI Ke]
   simp only [Int.sub_zero,Aj]
   rfl
  ·have:i=gens.length:=by omega
   subst this
   rw [Aw]
theorem rK:Cn Try.prog 193 jq:=
 Cn.eM pU (Bd rF (Ft NP Bw)) mixed Try.func193 (by kernel_rfl) (by kernel_rfl) λx h=>GO x.1 x.2.1 h
def Uv (T:Cc):Nat->Nat
 |0=>1
 |j+1=>Uv T j*(Lb (T.getD j [])).length
noncomputable abbrev km:Spec:=Ib (.pair (.ptr kv) (.pair tI .unit)) tI false true (λx=>x.2.1=0/\ ∃N:Nat,(1<=N/\N<=20)/\x.1.1=N/\V N N 0 (x.1.2.1,x.1.2.2.1)) (λx=>(Uv x.1.2.2.1 x.1.1.toNat:Int))
noncomputable abbrev ER:MSpec:= {Ip:= [none,none],ins:= [(false, .Fy tI),(false, .Fy mG)],Hi:=false,Hb:= [none,none,none],outs:= [.Fy tI, .Bl tO vA false, .Bl tO vA false],fn:= λ_=>none,rp:=some 198}
def aL (n:Int) (g:List (List Int)):Cc×Cc:=Uq n.toNat (g.map some)
noncomputable abbrev Yw:MSpec:=eM ER (λx=>(1<=x.1/\x.1<=20)/\List.length x.2.1<=4294967296/\ ∀g∈(x.2.1:List (List Int)),Pm x.1.toNat g)
 (λx=>((x.1,(aL x.1 x.2.1).1,(aL x.1 x.2.1).2,()),()))
noncomputable def Wn (p:PP):Int:=if Cy p=true then (Uv (aL p.1 p.2.2.1).2 p.1.toNat:Int) else 0
noncomputable abbrev Sy:Spec:=Ib (.pair Ma .unit) tI false true (λx=>Hv x.1) (λx=>Wn x.1)
theorem Af0 (c:Int×List (List (Option (List Int)))×List (List (Option (List Int)))×Unit) (l:Int) (P:Int->Prop):(Dh (λ(v3:Int×Int×PUnit) (k4:Int×Int×PUnit->Prop)=>Br (decide (v3.2.1<c.1)) (∃(y5:List (Option (List Int))),idx c.2.2.1 v3.2.1=some y5/\ ∃(y6:(List Int×PUnit)×PUnit),Qz.fn (y5,())=some y6/\ ∃(y7:Int),Yv.fn (List.take y6.1.1.length (List.drop 0 y6.1.1),())=some y7/\k4 (IntKind.i64.wrap (v3.1*y7),IntKind.i64.wrap (v3.2.1+(1:Int)),())) (P v3.1)) ((1:Int),l,PUnit.unit))=fnW aY (look [(213,Qz),(140,Yv)]) km Try.f194 (c,l,()) P:=by kernel_rfl
theorem BV (p:Int×ByteArray×List (List Int)×Unit) (P:Int->Prop):(∃(y2:Bool),Jd.fn ((p.1,p.2.1,p.2.2.1,()),())=some y2/\Br (!y2) (P (0:Int)) (∃(y3:(Int×List (List (Option (List Int)))×List (List (Option (List Int)))×PUnit)×PUnit),Yw.fn (p.1,p.2.2.1,())=some y3/\ ∃(y4:Int),km.fn ((y3.1.1,List.take y3.1.2.1.length (List.drop 0 y3.1.2.1),List.take y3.1.2.2.1.length (List.drop 0 y3.1.2.2.1),()),(0:Int),())=some y4/\P y4))=fnW Hf (look [(119,Jd),(193,Yw),(194,km)]) Sy Try.f154 (p,()) P:=by kernel_rfl
theorem Aet (n i:Nat):(upto n).countP (λy=>decide ((i:Int)<=y))=n-i:=by
 induction n with
 |zero=>simp [upto]
 |succ n ih=>
  rw [Ze,List.countP_append,ih]
  simp only [eK,List.countP_nil,Rd]
  split<;>omega
theorem Ae5 {n i:Nat} {gs:List PO} {row:Row} {H:List Int->Prop} (hi:i<n) (h:Lvl n i gs row H):(Lb row).length<=n-i:=by
 rw [<-Aet n i]
 unfold Lb
 rw [h.rl,<-List.countP_eq_length_filter]
 refine List.countP_mono_left λy hy hs=>?_
 obtain ⟨h1,h2⟩:=Ms.1 hy
 obtain ⟨t,ht⟩:=Xk.1 hs
 obtain ⟨t1,t2,t3,_⟩:=h.rt _ _ ht
 refine Eo ?_
 refine Bj λhn=>?_
 have hy':y.toNat<i:=by omega
 have:=t1.inj hi (by omega:y.toNat<n) (by rw [t3,t2 _ hy'])
 omega
def fact:Nat->Nat
 |0=>1
 |n+1=>(n+1)*fact n
theorem DP: ∀n,1<=fact n
 |0=>Ap _
 |n+1=>by have:=DP n;simp only [fact];exact Gx this (Nat.le_mul_of_pos_left _ (by omega))
theorem SG {a b:Nat} (h:a<=b):fact a<=fact b:=by
 induction h with
 |refl=>exact Ap _
 |step _ ih=>simp only [fact];exact Gx ih (Nat.le_mul_of_pos_left _ (by omega))
theorem Aa5 {n:Nat} {s:Cc×Cc} (hc:dH n n 0 s): ∀j,j<=n->Uv s.2 j*fact (n-j)<=fact n
 |0,_=>by simp [Uv]
 |j+1,hj=>by
  have ih:=Aa5 hc j (by omega)
  have h1:=Ae5 (by omega) (dP n 0 hc j (by omega) (by omega))
  have e:n-j=(n-(j+1))+1:=by omega
  simp only [Uv]
  rw [e] at ih h1
  simp only [fact] at ih
  rw [Nat.mul_assoc]
  exact Gx (Nat.mul_le_mul_left _ (Ej _ h1)) ih
theorem xF {n:Nat} (h2:n<=20) {s:Cc×Cc} (hc:dH n n 0 s) {j:Nat} (hj:j<=n):Uv s.2 j<=2432902008176640000:=by
 have h1:=Aa5 hc j hj
 have h3:=DP (n-j)
 have h4:fact n<=2432902008176640000:=Gx (SG h2) (by decide)
 have h5:Uv s.2 j*1<=Uv s.2 j*fact (n-j):=Nat.mul_le_mul_left _ h3
 omega
theorem Aeb (c:Int×List (List (Option (List Int)))×List (List (Option (List Int)))×Unit) (l:Int) (h:l=0/\ ∃N:Nat,(1<=N/\N<=20)/\c.1=N/\V N N 0 (c.2.1,c.2.2.1)):
  fnW aY (look [(213,Qz),(140,Yv)]) km Try.f194 (c,l,()) (λ(z:Int)=>z=(Uv c.2.2.1 c.1.toNat:Int)):=by
 obtain ⟨rfl,N,⟨h1,h2⟩,hN,v⟩:=h
 obtain ⟨n,G,T,⟨⟩⟩:=c
 dsimp only at hN v⊢
 subst hN
 refine Eq.mp (Af0 ((N:Int),G,T,()) 0 _) ?_
 obtain ⟨v1,v2,v3,v4⟩:=v
 dsimp only at v1 v2⊢
 rw [Aj]
 refine Bs N (λv=>v.2.1) (λj v=>v.1=(Uv T j:Int)) rfl rfl ?_
 rintro j ⟨o,i,⟨⟩⟩ K hj hi ho hK
 dsimp only at hi ho⊢
 subst hi ho
 refine Br.dec (λhl=>?_) λhl=>?_
 ·have hl:j<N:=by omega
  have hT:j<T.length:=by omega
  have Kf:=dP N 0 v3 j (by omega) (by omega)
  have JF:=Kf.rl
  dsimp only at JF
  rw [qh hT] at JF
  refine ⟨_,Ck hT,_,Ac (by show (T[j]).length<=20;omega),_,Ac trivial,?_⟩
  rw [Dj,Aw,Bk (by omega)]
  have hb:=xF h2 v3 (j:=j+1) (by omega)
  simp only [Uv] at hb
  rw [qh hT] at hb
  have e:(Uv T j:Int)*((Lb T[j]).length:Int)=((Uv T j*(Lb T[j]).length:Nat):Int):=by push_cast;rfl
  show K (IntKind.i64.wrap ((Uv T j:Int)*((Lb T[j]).length:Int)),_,())
  rw [e,Dl (by omega) (by omega)]
  refine hK hl _ rfl ?_
  simp only [Uv]
  rw [qh hT]
 ·have:j=N:=by omega
  subst this
  rfl
theorem HM:Sound Try.prog 194 km:=
 Sound.Ib pU (Ft lq (Bd mw Bw)) mixed Try.func194 (by kernel_rfl) (by kernel_rfl) λx h=>Aeb x.1 x.2.1 h
theorem Cells.told {w:World} {S:Nat->Prop} {e:Ty} {cs:List Value} {xs:List e.den} (h:Cells w S (.slice e) cs xs): ∃o:Option (List e.den),Cells w S (.oslice e) cs o/\o.getD []=xs:=by
 simp only [Cells] at h
 obtain ⟨a,len,cap,rfl,h1,h2,h3⟩:=h
 cases a with
 |none=>
  rcases h3 with rfl|⟨g,o,h,_⟩
  ·refine ⟨none,?_,rfl⟩
   simp only [Cells]
   exact .inl ⟨trivial,cap,by rw [h1];rfl⟩
  ·cases h
 |some ad=>
  refine ⟨some xs,?_,rfl⟩
  simp only [Cells]
  exact .inr ⟨xs,ad,len,cap,rfl,rfl,h1,h2,h3.imp id λ⟨g,o,h,h4⟩=>⟨g,o,Bb h,h4⟩⟩
theorem JM {α β:Type} (Q:Nat->α->β->Prop): ∀(xs:List α),(∀i x,xs[i]?=some x-> ∃y,Q i x y)-> ∃ys:List β,ys.length=xs.length/\ ∀i x y,xs[i]?=some x->ys[i]?=some y->Q i x y:=by
 intro xs h
 refine ⟨List.ofFn λi:Fin xs.length=>Classical.choose (h i xs[i] (Ab i.2)),by simp,λi x y h1 h2=>?_⟩
 obtain ⟨hi,rfl⟩:=An.1 h1
 obtain ⟨l5,rfl⟩:=An.1 h2
 rw [List.getElem_ofFn]
 exact Classical.choose_spec (h i xs[i] (Ab hi))
theorem Cw.Agp {w:World} {S:Nat->Prop} {e:Ty} {v:Value} {xs:List (List e.den)} (h:Cw w S (.slice (.slice e)) v xs): ∃os:List (Option (List e.den)),Cw w S (.slice (.oslice e)) v os/\os.map (·.getD [])=xs:=by
 obtain ⟨cs,hc,rfl⟩:=h
 simp only [Cells] at hc
 obtain ⟨a,len,cap,rfl,h1,h2,h3⟩:=hc
 rcases h3 with rfl|⟨g,o,rfl,hg,hS,h4⟩
 ·refine ⟨[],⟨_,?_,rfl⟩,rfl⟩
  simp only [Cells]
  exact ⟨a,len,cap,rfl,h1,h2, .inl trivial⟩
 ·obtain ⟨os,e1,e2⟩:=JM (λi (x:List e.den) (y:Option (List e.den))=>y.getD []=x/\ ∃es:List Value,es.length=1/\(∀j u,es[j]?=some u->w.cell? ⟨g,o+i*1+j,none⟩=some u)/\Cells w S (.oslice e) es y) xs λi x hx=>by
   obtain ⟨es,k1,k2,k3⟩:=h4 i x hx
   obtain ⟨y,k4,k5⟩:=Cells.told (e:=e) (by simp only [Cells];exact k3)
   exact ⟨y,k5,es,k1,k2,k4⟩
  refine ⟨os,⟨_,?_,rfl⟩,?_⟩
  ·simp only [Cells]
   refine ⟨_,len,cap,rfl,by rw [h1,e1],h2, .inr ⟨g,o,rfl,hg,hS,λi y hy=>?_⟩⟩
   obtain ⟨hi,_⟩:=An.1 hy
   obtain ⟨_,es,k1,k2,k3⟩:=e2 i _ y (Ab (by omega)) hy
   simp only [Cells] at k3
   exact ⟨es,k1,k2,k3⟩
  ·refine eL (by simp [e1]) λi g1 g2=>?_
   rw [Mn]
   exact (e2 i _ _ (Ab g2) (Ab (by omega))).1
theorem uI:Cn Try.prog 193 Yw:=by
 have h:=rK
 refine ⟨h.enter,λw S π us x r o g vs h1 hg h2 h3 hS h4 h5=>?_⟩
 obtain ⟨n,gens,⟨⟩⟩:=x
 match us,h2 with
 |u1::u2::us,h2=>
  obtain ⟨h6,⟨h7,h8⟩,h9⟩:=h2
  obtain ⟨os,oC,gL⟩:=Cw.Agp (e:=tI) h8
  have gL:os.map (·.getD [])=(gens:List (List Int)):=gL
  have gO:(1<=n/\n<=20)/\List.length gens<=4294967296/\ ∀g∈(gens:List (List Int)),Pm n.toNat g:=Bj λhn=>by
   have:Yw.fn (n,gens,())=none:=Ak hn
   rw [this] at h5;cases h5
  have hos:os=gens.map some:=by
   rw [<-gL,List.map_map]
   refine (List.map_id os).symm.trans (Eh λx hx=>?_)
   cases x with
   |some y=>rfl
   |none=>
    have:=gO.2.2 [] (by rw [<-gL];exact Ay.2 ⟨none,hx,rfl⟩)
    have h1:=this.n1
    have h2:=this.1
    simp at h2
    omega
  have hv:Yw.fn (n,gens,())=some ((n,(aL n gens).1,(aL n gens).2,()),()):=Ac gO
  rw [hv] at h5
  have h5:=Bb h5
  refine h.calls w S π (u1::u2::us) (n,os,()) r o g vs h1 hg ⟨h6,⟨h7,oC⟩,h9⟩ h3 hS h4 ?_
  refine (Ac ⟨gO.1,by rw [hos,Bt];exact gO.2.1,λy hy=>?pp⟩).trans (Gc some ?qq)
  case pp=>
   replace hy:y∈os:=hy
   rw [hos] at hy
   obtain ⟨g,hg,rfl⟩:=Ay.1 hy
   exact ⟨g,rfl,gO.2.2 g hg⟩
  case qq=>subst hos;exact h5
theorem ir {p:PP} (hv:Valid p):(1<=p.1/\p.1<=20)/\List.length p.2.2.1<=4294967296/\ ∀g∈p.2.2.1,Pm p.1.toNat g:=
 ⟨hv.n,by have:=hv.oV;omega,λg hg=>⟨by have:=hv.len g hg;omega,j8 (hv.perm g hg)⟩⟩
theorem j9 {n:Nat} {g:List (List Int)} (h: ∀x∈g,Pm n x):PmL n (g.map some):= λo ho=>by
 obtain ⟨x,hx,rfl⟩:=Ay.1 ho
 exact ⟨x,rfl,h x hx⟩
theorem yI {p:PP} (hv:Valid p):V p.1.toNat p.1.toNat 0 (aL p.1 p.2.2.1):=by
 have:=hv.n
 exact CH (by omega) (by omega) (j9 (ir hv).2.2)
theorem zI (p:PP) (h:Hv p):fnW Hf (look [(119,Jd),(193,Yw),(194,km)]) Sy Try.f154 (p,()) (λ(z:Int)=>z=Wn p):=by
 refine Eq.mp (BV p _) ⟨_,Ac h,?_⟩
 show Br (!Cy p) _ _
 unfold Wn
 cases hv:Cy p with
 |false=>exact Br.of (λ_=>rfl) λhh=>by cases hh
 |true=>
  refine Br.of (λhh=>by cases hh) λ_=>?_
  have hV:=valid hv
  have hn:=hV.n
  refine ⟨_,Ac (ir hV),_,Ac ⟨rfl,p.1.toNat,⟨by omega,by omega⟩,(Int.toNat_of_nonneg (by omega:(0:Int)<=p.1)).symm,?vv⟩,?_⟩
  case vv=>
   simp only [Dj,Aw]
   exact yI hV
  simp only [Dj,Aw]
  exact (Ac trivial).symm
theorem pR:Sound Try.prog 154 Sy:=
 Sound.Ib Ew (Bd Zb (Ft uI (Bd HM Bw))) mixed Try.func154 (by kernel_rfl) (by kernel_rfl) λx h=>zI x.1 h
theorem Uc {α:Type} [DecidableEq α]: ∀ {l1 l2:List α},l1.Nodup->(∀x∈l1,x∈l2)->l1.length<=l2.length
 | [],_,_,_=>Ja _
 |a::l,l2,hn,hs=>by
  obtain ⟨h1,h2⟩:=Bx.1 hn
  have ha:=hs a (by simp)
  have:=Uc (l1:=l) (l2:=l2.erase a) h2 λy hy=>by
   have hya:y≠a:= λe'=>h1 (by rw [<-e'];exact hy)
   exact (List.mem_erase_of_ne hya).2 (hs y (by simp [hy]))
  rw [Xj ha] at this
  have:=List.length_pos_of_mem ha
  simp only [Av]
  omega
def kG (n:Nat) (T:Cc):Nat->Nat->List (List Int)
 |0,_=> [upto n]
 |k+1,l=>(Lb (T.getD l [])).flatMap λy=>(kG n T k (l+1)).map λq=>Ai q (((T.getD l []).getD y.toNat none).getD [])
def xP (T:Cc):Nat->Nat->Nat
 |0,_=>1
 |k+1,l=>(Lb (T.getD l [])).length*xP T k (l+1)
theorem FN (n:Nat) (T:Cc): ∀k l,(kG n T k l).length=xP T k l
 |0,_=>rfl
 |k+1,l=>by
  simp only [kG,xP,List.length_flatMap,Bt,FN n T k (l+1)]
  generalize Lb (T.getD l [])=o
  induction o with
  |nil=>simp
  |cons a o ih=>simp only [Bm,Sn,ih,Av,Nat.succ_mul];omega
theorem xE (T:Cc): ∀k j,Uv T (j+k)=Uv T j*xP T k j
 |0,j=>by simp [xP]
 |k+1,j=>by
  have:=xE T k (j+1)
  rw [show j+(k+1)=j+1+k by omega,this]
  simp only [Uv,xP]
  rw [Nat.mul_assoc]
theorem qE (n:Nat) (T:Cc):(kG n T n 0).length=Uv T n:=by
 rw [FN,show Uv T n=Uv T (0+n) by rw [Bo],xE]
 simp [Uv]
theorem nN {n:Nat} (h1:1<=n) (h2:n<=20) {s:Cc×Cc} : ∀(k l:Nat),l+k=n->dH n k l s-> ∀p,p∈kG n s.2 k l↔Pm n p/\Fx l p/\Ix s.2 k l p=true
 |0,l,hk,hc,p=>by
  have hl:l=n:=by omega
  subst hl
  simp only [kG,Ad]
  exact ⟨λe=>by subst e;exact ⟨Pm.id h1 h2,λi hi=>ia hi,rfl⟩,λh=>h.2.1.all h.1⟩
 |k+1,l,hk,hc,p=>by
  obtain ⟨c1,c2,c3⟩:=hc
  have ih:=nN h1 h2 k (l+1) (by omega) c1
  have gk:l<n:=by omega
  simp only [kG,Ga,Ay]
  constructor
  ·rintro ⟨y,hy,q,hq,rfl⟩
   obtain ⟨yn,rfl,hyn⟩:=Ul.1 hy
   obtain ⟨t,ht⟩:=Ko.1 hyn
   obtain ⟨t1,t2,t3,t4⟩:=c2.rt _ _ ht
   obtain ⟨q1,q2,q3⟩:=(ih q).1 hq
   rw [Aj,ht,Bp]
   have hap:ap (Ai q t) l=yn:=by rw [Ju q1 t1 gk,q2 l (by omega),t3]
   refine ⟨q1.comp t1,λi hi=>by rw [Ju q1 t1 (by omega),q2 i (by omega),t2 i hi],?_⟩
   simp only [Ix]
   rw [show (Gw (Ai q t) (l:Int)).toNat=ap (Ai q t) l from rfl,hap,ht]
   show Ix s.2 k (l+1) (Ai (Ai q t) (Bg t))=true
   rw [Ie q1 t1 t1.inv,dO t1,comp_id q1]
   exact q3
  ·rintro ⟨p1,p2,p3⟩
   simp only [Ix] at p3
   rw [show (Gw p (l:Int)).toNat=ap p l from rfl] at p3
   split at p3
   ·cases p3
   ·rename_i t ht
    obtain ⟨t1,t2,t3,t4⟩:=c2.rt _ _ ht
    refine ⟨(ap p l:Int),Ul.2 ⟨ap p l,rfl,by rw [ht];simp⟩,Ai p (Bg t),(ih _).2 ⟨p1.comp t1.inv,Fx.div p1 t1 p2 t2 gk t3,p3⟩,?_⟩
    rw [Aj,ht,Bp,Ie p1 t1.inv t1,bR t1,comp_id p1]
theorem mf {n:Nat} (h1:1<=n) (h2:n<=20) {s:Cc×Cc} : ∀(k l:Nat),l+k=n->dH n k l s->(kG n s.2 k l).Nodup
 |0,l,hk,hc=>by simp [kG]
 |k+1,l,hk,hc=>by
  obtain ⟨c1,c2,c3⟩:=hc
  have ih:=mf h1 h2 k (l+1) (by omega) c1
  have hm:=nN h1 h2 k (l+1) (by omega) c1
  have gk:l<n:=by omega
  have rep: ∀y∈Lb (s.2.getD l []),∃(yn:Nat) (t:List Int),y=yn/\((s.2.getD l []).getD y.toNat none).getD []=t/\Pm n t/\ap t l=yn:= λy hy=>by
   obtain ⟨yn,rfl,hyn⟩:=Ul.1 hy
   obtain ⟨t,ht⟩:=Ko.1 hyn
   obtain ⟨t1,t2,t3,t4⟩:=c2.rt _ _ ht
   exact ⟨yn,t,rfl,by rw [Aj,ht];rfl,t1,t3⟩
  simp only [kG]
  refine List.pairwise_flatMap.2 ⟨λy hy=>?_,?_⟩
  ·obtain ⟨yn,t,rfl,e,t1,t3⟩:=rep y hy
   rw [e]
   refine List.pairwise_map.2 (List.Pairwise.imp_of_mem ?_ ih)
   intro a b ha hb Iv he
   have ha:=((hm a).1 ha).1
   have hb:=((hm b).1 hb).1
   have h3:=Gc (λz=>Ai z (Bg t)) he
   simp only [Ie ha t1 t1.inv,Ie hb t1 t1.inv,dO t1,comp_id ha,comp_id hb] at h3
   exact Iv h3
  ·refine List.Pairwise.imp_of_mem ?_ ((mB _).filter _)
   intro y z hy hz Iv a ha b hb he
   obtain ⟨yn,t,rfl,e,t1,t3⟩:=rep y hy
   obtain ⟨zn,u,rfl,e',u1,u3⟩:=rep z hz
   rw [e] at ha
   rw [e'] at hb
   obtain ⟨q,hq,rfl⟩:=Ay.1 ha
   obtain ⟨q',gm,rfl⟩:=Ay.1 hb
   obtain ⟨a1,a2,_⟩:=(hm q).1 hq
   obtain ⟨b1,b2,_⟩:=(hm q').1 gm
   have h3:=Gc (λz=>ap z l) he
   simp only [Ju a1 t1 gk,Ju b1 u1 gk,a2 l (by omega),b2 l (by omega),t3,u3] at h3
   exact Iv (by rw [h3])
theorem oO {g:List (List Int)} (Q:List Int->Prop) {x:List Int} {d:Int} : ∀(ls:List Int) (L:List (List Int)) (D:List Int),(∀l∈ls,Q (Ai x (Az g l)))->(∀y∈L,Q y)->
  (∀y∈(Hc g x d ls L D).1,Q y)/\(∀y∈L,y∈(Hc g x d ls L D).1)/\((Hc g x d ls L D).2.2=true-> ∀l∈ls,Ai x (Az g l)∈(Hc g x d ls L D).1)/\
   ((Hc g x d ls L D).2.2=false->(Hc g x d ls L D).1.length=3000/\ ∃z,Q z/\z∉(Hc g x d ls L D).1)
 | [],L,D,_,h=>⟨h,λ_ h=>h,(λ_ l hl=>by cases hl),(λe=>by cases e)⟩
 |l::ls,L,D,hq,h=>by
  have gm: ∀l∈ls,Q (Ai x (Az g l)):= λl' h'=>hq l' (Aq _ h')
  simp only [Hc]
  split
  ·rename_i hm
   obtain ⟨a1,a2,a3,a4⟩:=oO Q (d:=d) ls L D gm h
   refine ⟨a1,a2,λe l' Ke=>?_,a4⟩
   rcases Bc.1 Ke with rfl|Ke
   ·exact a2 _ hm
   ·exact a3 e l' Ke
  ·rename_i hn
   split
   ·rename_i hf
    exact ⟨h,λ_ h=>h,(λe=>by cases e),λ_=>⟨hf,_,hq l (by simp),hn⟩⟩
   ·obtain ⟨a1,a2,a3,a4⟩:=oO Q (d:=d) ls (L++ [Ai x (Az g l)]) (D++ [d+1]) gm λy hy=>by
     rcases Ax.1 hy with hy|hy
     ·exact h y hy
     ·rw [Ad.1 hy];exact hq l (by simp)
    refine ⟨a1,λy hy=>a2 y (Bi _ hy),λe l' Ke=>?_,a4⟩
    rcases Bc.1 Ke with rfl|Ke
    ·exact a2 _ (Ci _ (by simp))
    ·exact a3 e l' Ke
theorem wU {p:PP} (hV:Valid p) {m:Nat} {ls:List Int} (hl: ∀l∈ls,La (List.length p.2.2.1) l) (Q:List Int->Prop) (hQ: ∀x,Q x-> ∀l∈ls,Q (Ai x (Az p.2.2.1 l))):
  ∀(f k:Nat) (L:List (List Int)) (D:List Int),3001<=f+k->k<=L.length->Tb p m L D->(∀y∈L,Q y)->(∀(j:Nat) (h:j<L.length),j<k-> ∀l∈ls,Ai L[j] (Az p.2.2.1 l)∈L)->
  (∀y∈(Jn p.2.2.1 ls f k L D).1,Q y)/\((Jn p.2.2.1 ls f k L D).2.2=true-> ∀x∈(Jn p.2.2.1 ls f k L D).1,∀l∈ls,Ai x (Az p.2.2.1 l)∈(Jn p.2.2.1 ls f k L D).1)/\
   ((Jn p.2.2.1 ls f k L D).2.2=false->(Jn p.2.2.1 ls f k L D).1.length=3000/\ ∃z,Q z/\z∉(Jn p.2.2.1 ls f k L D).1)
 |0,k,L,D,hf,YJ,hb,hq,hc=>by
  have:=hb.ok.oV
  omega
 |f+1,k,L,D,hf,YJ,hb,hq,hc=>by
  simp only [Jn]
  split
  ·rename_i hk
   have EG:k<D.length:=by rw [hb.len];exact hk
   have hd:=hb.dep k EG
   have e:D.getD k 0=D[k]:=by rw [Ah,Ab EG];rfl
   rw [Tz hk,e]
   obtain ⟨k1,⟨A,k2⟩,_⟩:=mO hV (hb.row _ (Al hk)) (hb.ok.len _ (Al hk)) (d:=D[k]) ls L D hl hb ⟨by omega,by omega⟩
   obtain ⟨a1,a2,a3,a4⟩:=oO (g:=p.2.2.1) Q (x:=L[k]) (d:=D[k]) ls L D (hQ _ (hq _ (Al hk))) hq
   split
   ·rename_i L' D' he
    rw [he] at k1 k2 a1 a2 a3 a4
    have k2:L'=L++A:=k2
    refine wU hV hl Q hQ f (k+1) L' D' (by omega) (by rw [k2,Au];omega) k1 a1 λj hj hjk l Ke=>?_
    by_cases e':j<k
    ·have e2:L'[j]=L[j]:=by simp only [k2];rw [Ln (by omega)]
     rw [e2];exact a2 _ (hc j (by omega) e' l Ke)
    ·have:j=k:=by omega
     subst this
     have e2:L'[j]=L[j]:=by simp only [k2];rw [Ln (by omega)]
     rw [e2];exact a3 rfl l Ke
   ·rename_i L' D' he
    rw [he] at a1 a4
    exact ⟨a1,(λe=>by cases e),λ_=>a4 rfl⟩
  ·rename_i hk
   refine ⟨hq,λ_ x hx l Ke=>?_,λe=>by cases e⟩
   obtain ⟨j,hj,rfl⟩:=Bf.1 hx
   have hj:j<L.length:=hj
   exact hc j hj (by omega) l Ke
theorem PE {p:PP} (hv:Cy p=true) {s:List Int} (hs:s.length<=20) (hr: ∀y∈s,0<=y/\y<p.1) (Q:List Int->Prop) (hQs:Q s) (hQ: ∀x,Q x-> ∀l∈Bz p.2.2.1.length,Q (Ai x (Az p.2.2.1 l))):
  (∀y∈(Fu p.2.2.1 s).1,Q y)/\((Fu p.2.2.1 s).2.2=true-> ∀x∈(Fu p.2.2.1 s).1,∀l∈Bz p.2.2.1.length,Ai x (Az p.2.2.1 l)∈(Fu p.2.2.1 s).1)/\
   ((Fu p.2.2.1 s).2.2=false->(Fu p.2.2.1 s).1.length=3000/\ ∃z,Q z/\z∉(Fu p.2.2.1 s).1):=
 wU (valid hv) (λ_ hl=>Md hl) Q hQ 3001 0 [s] [0] (by omega) (Ja _) (dK hs hr) (λy hy=>by rw [Ad.1 hy];exact hQs) λj _ hj=>absurd hj (Ec _)
theorem o1 {g:List (List Int)} {x:List Int} :some x∈g.map some↔x∈g:=by simp
theorem LP {n:Nat} {g:List (List Int)} {x:List Int} (h:Gn n (g.map some) x) {l:Int} (hl:l∈Bz g.length):Gn n (g.map some) (Ai x (Az g l)):=by
 obtain ⟨k,hk,rfl|rfl⟩:=Sv (Md hl)
 ·rw [Rz hk];exact .mul h (o1.2 (Al hk))
 ·rw [Ry hk];exact .inv h (o1.2 (Al hk))
theorem cK {n k:Nat} (hk:k<n):(k:Int)+1∈Bz n/\ -((k:Int)+1)∈Bz n:=by
 unfold Bz
 exact ⟨Ga.2 ⟨k,Dn.2 hk,by simp⟩,Ga.2 ⟨k,Dn.2 hk,by simp⟩⟩
theorem KL {n:Nat} {g:List (List Int)} {L:List (List Int)} (h0:upto n∈L) (hc: ∀x∈L,∀l∈Bz g.length,Ai x (Az g l)∈L) {p:List Int} (hp:Gn n (g.map some) p):p∈L:=by
 induction hp with
 |id=>exact h0
 |mul _ hg ih=>
  obtain ⟨k,hk,rfl⟩:=Bf.1 (o1.1 hg)
  have:=hc _ ih _ (cK hk).1
  rwa [Rz hk] at this
 |inv _ hg ih=>
  obtain ⟨k,hk,rfl⟩:=Bf.1 (o1.1 hg)
  have:=hc _ ih _ (cK hk).2
  rwa [Ry hk] at this
structure Reach (p:PP) (L:List (List Int)) (D:List Int) (whole:Bool):Prop where
 ok:Tb p p.1.toNat L D
 nodup:L.Nodup
 first: ∃A,L=upto p.1.toNat::A
 gen: ∀x∈L,Gn p.1.toNat (p.2.2.1.map some) x
 all:whole=true-> ∀x,Gn p.1.toNat (p.2.2.1.map some) x->x∈L
 big:whole=false->L.length=3000/\ ∃z,Gn p.1.toNat (p.2.2.1.map some) z/\z∉L
theorem Hg.nodup {m:Nat} {L:List (List Int)} {Nd:List Int} (h:Hg m L Nd):L.Nodup:=
 Dp.2 λi j hi hj jV e=>by have:=h.inj hi hj e;omega
theorem a8 {p:PP} (hv:Cy p=true):Reach p (Fu p.2.2.1 (upto p.1.toNat)).1 (Fu p.2.2.1 (upto p.1.toNat)).2.1 (Fu p.2.2.1 (upto p.1.toNat)).2.2:=by
 have hV:=valid hv
 have hn:=hV.n
 have hl:(upto p.1.toNat).length=p.1.toNat:=Kb _
 have hr: ∀y∈upto p.1.toNat,0<=y/\y<p.1:= λy hy=>by have:=Ms.1 hy;omega
 obtain ⟨b1,b2⟩:=yD hv (by omega) hr
 rw [hl] at b1
 obtain ⟨a1,a2,a3⟩:=PE hv (by omega) hr (λx=>Gn p.1.toNat (p.2.2.1.map some) x) .id λx hx l hl=>LP hx hl
 exact ⟨b1,b1.ok.nodup,b2,a1,λhw x hx=>KL (by obtain ⟨A,e⟩:=b2;rw [e];simp) (a2 hw) hx,a3⟩
theorem cM {p:PP} (hV:Valid p) {x:List Int} :x∈kG p.1.toNat (aL p.1 p.2.2.1).2 p.1.toNat 0↔Gn p.1.toNat (p.2.2.1.map some) x:=by
 have hn:=hV.n
 have hg:=j9 (ir hV).2.2
 have hS:BX p.1.toNat λg=>some g∈p.2.2.1.map some:=⟨⟨by omega,by omega⟩,λg Sm=>by obtain ⟨g',e,h⟩:=hg _ Sm;cases e;exact h⟩
 refine (nN (by omega) (by omega) _ 0 (by omega) (yI hV).2.2.1 x).trans ⟨λh=>(td (by omega) (by omega) hg h.1).1 h.2.2,λh=>?_⟩
 have hp:=cq.pm hS h
 exact ⟨hp,λi hi=>absurd hi (Ec _),(td (by omega) (by omega) hg hp).2 h⟩
theorem vU {p:PP} (hV:Valid p):(kG p.1.toNat (aL p.1 p.2.2.1).2 p.1.toNat 0).Nodup:=by
 have hn:=hV.n
 exact mf (by omega) (by omega) _ 0 (by omega) (yI hV).2.2.1
theorem count_eq {p:PP} (hv:Cy p=true):Wn p=((kG p.1.toNat (aL p.1 p.2.2.1).2 p.1.toNat 0).length:Int):=by
 unfold Wn
 rw [Ac hv,qE]
theorem DE {p:PP} (hv:Cy p=true):(Fu p.2.2.1 (upto p.1.toNat)).2.2=decide (1<=Wn p/\Wn p<=3000):=by
 have hV:=valid hv
 have h:=a8 hv
 rw [count_eq hv]
 have JE:=vU hV
 have h1:=Uc h.nodup λx hx=>(cM hV).2 (h.gen x hx)
 obtain ⟨A,hA⟩:=h.first
 have tz:1<=(Fu p.2.2.1 (upto p.1.toNat)).1.length:=by rw [hA];simp
 cases hw:(Fu p.2.2.1 (upto p.1.toNat)).2.2 with
 |true=>
  have h2:=Uc JE λx hx=>h.all hw x ((cM hV).1 hx)
  have h3:=h.ok.ok.oV
  exact (Eo ⟨by omega,by omega⟩).symm
 |false=>
  obtain ⟨h2,z,h3,h4⟩:=h.big hw
  have h5:=Uc (l1:=z::(Fu p.2.2.1 (upto p.1.toNat)).1) (Bx.2 ⟨h4,h.nodup⟩) λx hx=>by
   rcases Bc.1 hx with rfl|hx
   ·exact (cM hV).2 h3
   ·exact (cM hV).2 (h.gen x hx)
  simp only [Av] at h5
  exact (Io (by omega)).symm
def zu (g:List (List Int)) (s:List Int):List (List Int):=(Bz g.length).map λl=>Ai s (Az g l)
noncomputable abbrev kl:Spec:=Ib (.pair Ma (.pair tL .unit)) mG false true (λx=>Cy x.1=true/\List.length x.2.1<=20/\ ∀y∈x.2.1,0<=y/\y<x.1.1) (λx=>zu x.1.2.2.1 x.2.1)
abbrev EX:Type:=List (List Int)×List Int×List Int×List Int
def sR (g:List (List Int)) (k:Int) (x:List Int) (d:Int):List Int->EX->List Int->EX×List Int
 | [],s,row=>(s,row)
 |l::ls,s,row=>if Ai x (Az g l)∈s.1 then sR g k x d ls s (row++ [(s.1.idxOf (Ai x (Az g l)):Int)])
  else sR g k x d ls (s.1++ [Ai x (Az g l)],s.2.1++ [d+1],s.2.2.1++ [k],s.2.2.2++ [l]) (row++ [(s.1.length:Int)])
def vI (g:List (List Int)) (ls:List Int):Nat->Nat->EX->List (List Int)->EX×List (List Int)
 |0,_,s,N=>(s,N)
 |f+1,k,s,N=>if k<s.1.length then vI g ls f (k+1) (sR g (k:Int) (s.1.getD k []) (s.2.1.getD k 0) ls s []).1 (N++ [(sR g (k:Int) (s.1.getD k []) (s.2.1.getD k 0) ls s []).2]) else (s,N)
def iX (key:ByteArray):List (List Int)->Nat->Option Int
 | [],_=>none
 |x::r,i=>if Oa x=key then some (i:Int) else iX key r (i+1)
def aT (L:List (List Int)):ByteArray->Option Int:= λkey=>iX key L 0
def Aks (p:PP) (r:EX×List (List Int)):uW.den:=(p,r.1.1,r.1.2.1,aT r.1.1,r.1.2.2.1,r.1.2.2.2,r.2,())
def Ti (p:PP):uW.den:=Aks p (vI p.2.2.1 (Bz p.2.2.1.length) 3001 0 ([upto p.1.toNat],[0],[0],[0]) [])
noncomputable def Gz (p:PP):Bool:=Cy p&&(Fu p.2.2.1 (upto p.1.toNat)).2.2
noncomputable abbrev Mk:Spec:=Ib (.pair Ma .unit) (.pair (.optr uW) (.pair .bool .unit)) true false (λx=>Hv x.1) (λx=>if Gz x.1=true then (some (Ti x.1),true,()) else (none,false,()))
abbrev HU:Type:=Int×Int×ByteArray×List (List Int)×List (List Int)×PUnit
theorem Aez (p:Int×ByteArray×List (List Int)×Unit) (s:List Int) (P:List (List Int)->Prop):(∃(y3:List Int),Np.fn ((↑p.2.2.1.length:Int),())=some y3/\0=0/\0=([]:List Int).length/\Dh (λ(v4:HU) (k5:HU->Prop)=>Br (decide (v4.1<(↑y3.length:Int))) (∃(y6:Int),idx y3 v4.1=some y6/\ ∃(y7:List Int),Qg.fn (v4.2.2.2.1,y6,())=some y7/\ ∃(y8:List Int),Sw.fn (s,y7,())=some y8/\0=0/\v4.2.2.2.2.1.length=v4.2.2.2.2.1.length/\v4.2.2.2.2.1.length+(List.take 1 (List.drop 0 [y8])).length<=Ct/\0=0/\(v4.2.2.2.2.1++List.take 1 (List.drop 0 [y8])).length=(v4.2.2.2.2.1++List.take 1 (List.drop 0 [y8])).length/\k5 (IntKind.i64.wrap (v4.1+(1:Int)),v4.2.1,v4.2.2.1,v4.2.2.2.1,v4.2.2.2.2.1++List.take 1 (List.drop 0 [y8]),())) (P (List.take v4.2.2.2.2.1.length (List.drop 0 v4.2.2.2.2.1)))) ((0:Int),p.1,p.2.1,p.2.2.1,[],PUnit.unit))=fnW Hf (look [(121,Np),(147,Qg),(142,Sw)]) kl Try.f155 (p,s,()) P:=by kernel_rfl
theorem Aea (p:PP) (s:List Int) (h:Cy p=true/\s.length<=20/\ ∀y∈s,0<=y/\y<p.1):fnW Hf (look [(121,Np),(147,Qg),(142,Sw)]) kl Try.f155 (p,s,()) (λ(z:List (List Int))=>z=zu p.2.2.1 s):=by
 obtain ⟨hv,hs,hr⟩:=h
 have hV:=valid hv
 have hf:=hV.oV
 refine Eq.mp (Aez p s _) ⟨Bz p.2.2.1.length,Ac ⟨Int.natCast_nonneg _,by show ((p.2.2.1.length:Nat):Int)<=8;omega⟩,rfl,rfl,?_⟩
 have hL:=Qv p.2.2.1.length
 refine Bs (Bz p.2.2.1.length).length (λv=>v.1) (λj v=>v=((j:Int),p.1,p.2.1,p.2.2.1,((Bz p.2.2.1.length).take j).map (λl=>Ai s (Az p.2.2.1 l)),())) rfl (by simp) ?_
 rintro j v K hj hi rfl hK
 dsimp only
 refine Br.dec (λhl=>?_) λhl=>?_
 ·have hl:j<(Bz p.2.2.1.length).length:=by omega
  have hlj:=Md (Al hl)
  obtain ⟨h1,h2⟩:=jY hV hlj
  refine ⟨_,Ck hl,_,Ac ⟨hlj,hf.2,hV.perm⟩,_,Ac ⟨hs,λy hy=>by have:=hr y hy;show 0<=y/\y<((Az p.2.2.1 (Bz p.2.2.1.length)[j]).length:Int);omega⟩,rfl,rfl,?_,rfl,rfl,?_⟩
  ·show (((Bz p.2.2.1.length).take j).map _).length+1<=4294967296
   rw [Bt,Db]
   omega
  ·rw [Bk (by omega)]
   refine hK hl _ rfl ?_
   have e:(Bz p.2.2.1.length).take (j+1)=(Bz p.2.2.1.length).take j++ [(Bz p.2.2.1.length)[j]]:=by
    rw [Fc,Ab hl,Mb]
   rw [e,Il]
   rfl
 ·have:j=(Bz p.2.2.1.length).length:=by omega
  subst this
  rw [Dj,Aw,Aw]
  rfl
theorem HL:Sound Try.prog 155 kl:=
 Sound.Ib Ew (Bd dy (Bd ju (Bd Xa Bw))) mixed Try.func155 (by kernel_rfl) (by kernel_rfl) λx h=>Aea x.1 x.2.1 h
theorem Kd {α:Type} {xs ys:List α} {i:Nat} {d:α} (h:i<xs.length):(xs++ys).getD i d=xs.getD i d:=by
 rw [Ah,Ah,As h]
theorem jP {α:Type} {xs:List α} {x d:α} :(xs++ [x]).getD xs.length d=x:=by
 rw [Ah,Ar (Ap _),Nat.sub_self];rfl
theorem Na {α:Type} {xs:List α} {i:Nat} {d:α} (h:i<xs.length):xs.getD i d=xs[i]:=by
 rw [Ah,Ab h];rfl
structure Lv (g:List (List Int)) (ls:List Int) (k:Nat) (L:List (List Int)) (D:List Int):Prop where
 len:D.length=L.length
 pos:0<L.length
 mono: ∀i j,i<=j->j<L.length->D.getD i 0<=D.getD j 0
 Ae1:k<L.length-> ∀j,j<L.length->D.getD j 0<=D.getD k 0+1
 par: ∀j,0<j->j<L.length-> ∃i l,i<j/\l∈ls/\L.getD j []=Ai (L.getD i []) (Az g l)/\D.getD j 0=D.getD i 0+1
 zero:D.getD 0 0=0
theorem Lv.add {g:List (List Int)} {ls:List Int} {k:Nat} {L:List (List Int)} {D:List Int} (h:Lv g ls k L D) (hk:k<L.length) {l:Int} (hl:l∈ls):
  Lv g ls k (L++ [Ai (L.getD k []) (Az g l)]) (D++ [D.getD k 0+1]):=by
 have hlen:=h.len
 have hD: ∀i,i<L.length->(D++ [D.getD k 0+1]).getD i 0=D.getD i 0:= λi hi=>Kd (by omega)
 have hDl:(D++ [D.getD k 0+1]).getD L.length 0=D.getD k 0+1:=by rw [<-hlen];exact jP
 refine ⟨by simp [hlen],by simp,λi j jV hj=>?_,λ_ j hj=>?_,λj h0 hj=>?_,?_⟩
 ·rw [Au,Cd] at hj
  by_cases e:j=L.length
  ·subst e
   rw [hDl]
   by_cases e':i=L.length
   ·subst e';rw [hDl];exact Qj _
   ·rw [hD i (by omega)]
    exact h.Ae1 hk i (by omega)
  ·rw [hD i (by omega),hD j (by omega)]
   exact h.mono i j jV (by omega)
 ·rw [Au,Cd] at hj
  rw [hD k hk]
  by_cases e:j=L.length
  ·subst e;rw [hDl];exact Qj _
  ·rw [hD j (by omega)];exact h.Ae1 hk j (by omega)
 ·rw [Au,Cd] at hj
  by_cases e:j=L.length
  ·subst e
   exact ⟨k,l,hk,hl,by rw [jP,Kd hk],by rw [hDl,hD k hk]⟩
  ·obtain ⟨i,l',h1,h2,h3,h4⟩:=h.par j h0 (by omega)
   exact ⟨i,l',h1,h2,by rw [Kd (by omega),Kd (by omega)];exact h3,by rw [hD j (by omega),hD i (by omega)];exact h4⟩
 ·rw [hD 0 h.pos];exact h.zero
theorem sF {g:List (List Int)} {ls:List Int} {k:Nat} : ∀(QR:List Int) (L:List (List Int)) (D:List Int),(∀l∈QR,l∈ls)->Lv g ls k L D->k<L.length-> ∀ {x:List Int} {d:Int},x=L.getD k []->d=D.getD k 0->
  Lv g ls k (Hc g x d QR L D).1 (Hc g x d QR L D).2.1/\(∃A,(Hc g x d QR L D).1=L++A)/\(∃A,(Hc g x d QR L D).2.1=D++A)/\
  ((Hc g x d QR L D).2.2=true-> ∀l∈QR,∃j,j<(Hc g x d QR L D).1.length/\(Hc g x d QR L D).1.getD j []=Ai x (Az g l)/\(Hc g x d QR L D).2.1.getD j 0<=d+1)
 | [],L,D,_,h,_,x,d,_,_=>⟨h,⟨[],by simp [Hc]⟩,⟨[],by simp [Hc]⟩,λ_ l hl=>by cases hl⟩
 |l::QR,L,D,hs,h,hk,x,d,hx,hd=>by
  have z7: ∀l∈QR,l∈ls:= λl' h'=>hs l' (Aq _ h')
  have hlen:=h.len
  simp only [Hc]
  split
  ·rename_i hm
   obtain ⟨a1,⟨A,a2⟩,⟨A',a3⟩,a4⟩:=sF QR L D z7 h hk hx hd
   refine ⟨a1,⟨A,a2⟩,⟨A',a3⟩,λe l' Ke=>?_⟩
   rcases Bc.1 Ke with rfl|Ke
   ·obtain ⟨j,hj,hjx⟩:=Bf.1 hm
    refine ⟨j,by rw [a2,Au];omega,by rw [a2,Kd hj,Na hj];exact hjx,?_⟩
    rw [a3,Kd (by omega),hd]
    exact h.Ae1 hk j hj
   ·exact a4 e l' Ke
  ·split
   ·exact ⟨h,⟨[],by simp⟩,⟨[],by simp⟩,λe=>by cases e⟩
   ·have XX:=h.add hk (hs l (by simp))
    rw [<-hx,<-hd] at XX
    obtain ⟨a1,⟨A,a2⟩,⟨A',a3⟩,a4⟩:=sF QR (L++ [Ai x (Az g l)]) (D++ [d+1]) z7 XX (by rw [Au];omega) (x:=x) (d:=d) (by rw [Kd hk];exact hx) (by rw [Kd (by omega)];exact hd)
    refine ⟨a1,⟨_::A,by rw [a2,Cs];rfl⟩,⟨_::A',by rw [a3,Cs];rfl⟩,λe l' Ke=>?_⟩
    rcases Bc.1 Ke with rfl|Ke
    ·refine ⟨L.length,by rw [a2,Au,Au];simp only [Cd];omega,?_,?_⟩
     ·rw [a2,Kd (by simp),jP]
     ·rw [a3,Kd (by simp [hlen]),<-hlen,jP]
      exact Qj _
    ·exact a4 e l' Ke
structure oG (g:List (List Int)) (ls:List Int) (L:List (List Int)) (D:List Int):Prop where
 len:D.length=L.length
 pos:0<L.length
 zero:D.getD 0 0=0
 par: ∀j,0<j->j<L.length-> ∃i l,i<j/\l∈ls/\L.getD j []=Ai (L.getD i []) (Az g l)/\D.getD j 0=D.getD i 0+1
 step: ∀i,i<L.length-> ∀l∈ls,∃j,j<L.length/\L.getD j []=Ai (L.getD i []) (Az g l)/\D.getD j 0<=D.getD i 0+1
theorem CU {g:List (List Int)} {ls:List Int} : ∀(f k:Nat) (L:List (List Int)) (D:List Int),3001<=f+k->Lv g ls k L D->k<=L.length->
  (∀i,i<k-> ∀l∈ls,∃j,j<L.length/\L.getD j []=Ai (L.getD i []) (Az g l)/\D.getD j 0<=D.getD i 0+1)->
  (Jn g ls f k L D).2.2=true->(Jn g ls f k L D).1.length<=3000->oG g ls (Jn g ls f k L D).1 (Jn g ls f k L D).2.1
 |0,k,L,D,hf,h,YJ,hc,hw,h3=>by
  simp only [Jn] at h3⊢
  omega
 |f+1,k,L,D,hf,h,YJ,hc,hw,h3=>by
  simp only [Jn] at hw h3⊢
  split
  ·rename_i hk
   rw [Ac hk] at hw h3
   obtain ⟨a1,⟨A,a2⟩,⟨A',a3⟩,a4⟩:=sF (x:=L.getD k []) (d:=D.getD k 0) ls L D (λ_ h=>h) h hk rfl rfl
   have hlen:=h.len
   split
   ·rename_i L' D' he
    rw [he] at a1 a2 a3 a4
    simp only [he] at hw h3
    have a2:L'=L++A:=a2
    have a3:D'=D++A':=a3
    have a4:=a4 rfl
    dsimp only at a4
    have hLl:L.length<=L'.length:=by rw [a2,Au];omega
    refine CU f (k+1) L' D' (by omega) ⟨a1.len,a1.pos,a1.mono,λhk1 j hj=>?_,a1.par,a1.zero⟩ (by omega) (λi hi l hl=>?_) hw h3
    ·have h1:D'.getD j 0<=D'.getD k 0+1:=a1.Ae1 (show k<L'.length by omega) j hj
     have h2:D'.getD k 0<=D'.getD (k+1) 0:=a1.mono k (k+1) (by omega) hk1
     omega
    ·by_cases e:i=k
     ·subst e
      obtain ⟨j,b1,b2,b3⟩:=a4 l hl
      refine ⟨j,b1,?_,?_⟩
      ·rw [b2,a2,Kd (by omega)]
      ·rw [show D'.getD i 0=D.getD i 0 by rw [a3,Kd (by omega)]];exact b3
     ·obtain ⟨j,b1,b2,b3⟩:=hc i (by omega) l hl
      refine ⟨j,by omega,?_,?_⟩
      ·rw [a2,Kd (by omega),Kd (by omega)];exact b2
      ·rw [a3,Kd (by omega),Kd (by omega)];exact b3
   ·rename_i L' D' he
    simp only [he] at hw
    cases hw
  ·rename_i hk
   exact ⟨h.len,h.pos,h.zero,h.par,λi hi=>hc i (by have hi:i<L.length:=hi;omega)⟩
theorem lS {p:PP} {s:List Int} (hv:Cy p=true) (hs:s.length<=20) (hr: ∀y∈s,0<=y/\y<p.1) (hw:(Fu p.2.2.1 s).2.2=true):
  oG p.2.2.1 (Bz p.2.2.1.length) (Fu p.2.2.1 s).1 (Fu p.2.2.1 s).2.1:=by
 have hb:=(yD hv hs hr).1.ok.oV
 refine CU 3001 0 [s] [0] (by omega) ⟨rfl,by simp,λi j jV hj=>?_,λ_ j hj=>?_,λj h0 hj=>?_,rfl⟩ (Ja _) (λi hi=>absurd hi (Ec _)) hw hb
 ·have:j=0:=by simpa using hj
  subst this
  have:i=0:=by omega
  subst this
  exact Qj _
 ·have:j=0:=by simpa using hj
  subst this
  simp
 ·have:j=0:=by simpa using hj
  omega
theorem qw {p:PP} (hV:Valid p) {x:List Int} (hx: ∀y∈x,0<=y/\y<p.1) {l:Int} (hl:l∈Bz p.2.2.1.length):
  -l∈Bz p.2.2.1.length/\Ai (Ai x (Az p.2.2.1 l)) (Az p.2.2.1 (-l))=x:=by
 obtain ⟨k,hk,Rl⟩:=Sv (Md hl)
 have hg:=j8 (hV.perm _ (Al hk))
 have hgl:=hV.len _ (Al hk)
 have hn:=hV.n
 have hp:Pm p.1.toNat (p.2.2.1[k]):=⟨by omega,hg⟩
 have key: ∀q r:List Int,Pm p.1.toNat q->Pm p.1.toNat r->Ai q r=upto p.1.toNat->Ai (Ai x q) r=x:= λq r hq hr he=>by
  refine eL (by rw [Pl,Pl]) λi h1 h2=>?_
  have hxi:=hx _ (Al h2)
  obtain ⟨xi,hxe⟩:=Ml hxi.1
  have hxn:xi<p.1.toNat:=by omega
  have e1:ap (Ai q r) xi=ap (upto p.1.toNat) xi:=Gc (λz=>ap z xi) he
  rw [Ju hq hr hxn,ia hxn] at e1
  simp only [Ai,Mn,hxe]
  have h3:=(hq.Zk hxn).1
  have h4:=(hr.Zk (hq.lt hxn)).1
  rw [h3,h4,e1]
 rcases Rl with rfl|rfl
 ·refine ⟨(cK hk).2,?_⟩
  rw [Rz hk,Ry hk]
  exact key _ _ hp hp.inv (dO hp)
 ·refine ⟨by rw [Int.neg_neg];exact (cK hk).1,?_⟩
  rw [Int.neg_neg,Rz hk,Ry hk]
  exact key _ _ hp.inv hp (bR hp)
structure Ro (g:List (List Int)) (ls:List Int) (L:List (List Int)) (S:List Int->Prop) (d:List Int->Int):Prop where
 nn: ∀x∈L,0<=d x
 zero: ∀x∈L,d x=0↔S x
 step: ∀x∈L,∀l∈ls,d (Ai x (Az g l))<=d x+1
 down: ∀x∈L,0<d x-> ∃l∈ls,d (Ai x (Az g l))=d x-1
structure sl (g:List (List Int)) (ls:List Int) (L:List (List Int)):Prop where
 next: ∀x∈L,∀l∈ls,Ai x (Az g l)∈L
 back: ∀x∈L,∀l∈ls,-l∈ls/\Ai (Ai x (Az g l)) (Az g (-l))=x
theorem Ro.le {g:List (List Int)} {ls:List Int} {L:List (List Int)} {S:List Int->Prop} {d d':List Int->Int} (hc:sl g ls L) (h:Ro g ls L S d) (h':Ro g ls L S d'):
  ∀(n:Nat) (x:List Int),x∈L->d' x=n->d x<=n
 |0,x,hx,e=>by
  have:=(h.zero x hx).2 ((h'.zero x hx).1 e)
  omega
 |n+1,x,hx,e=>by
  obtain ⟨l,hl,hd⟩:=h'.down x hx (by omega)
  obtain ⟨b1,b2⟩:=hc.back x hx l hl
  have h1:=Ro.le hc h h' n _ (hc.next x hx l hl) (by omega)
  have h2:=h.step _ (hc.next x hx l hl) _ b1
  rw [b2] at h2
  omega
theorem Ro.eq {g:List (List Int)} {ls:List Int} {L:List (List Int)} {S:List Int->Prop} {d d':List Int->Int} (hc:sl g ls L) (h:Ro g ls L S d) (h':Ro g ls L S d') {x:List Int} (hx:x∈L):d x=d' x:=by
 have n1:=h.nn x hx
 have n2:=h'.nn x hx
 have h1:=Ro.le hc h h' (d' x).toNat x hx (by omega)
 have h2:=Ro.le hc h' h (d x).toNat x hx (by omega)
 omega
def cL (L:List (List Int)) (D:List Int) (x:List Int):Int:=if x∈L then D.getD (L.idxOf x) 0 else-1
theorem m6 {L:List (List Int)} (hn:L.Nodup) {j:Nat} (hj:j<L.length):L.idxOf (L.getD j [])=j:=by
 rw [Na hj]
 exact hn.idxOf_getElem j hj
theorem bM {L:List (List Int)} {j:Nat} (hj:j<L.length):L.getD j []∈L:=by rw [Na hj];exact Al hj
theorem lV {L:List (List Int)} {D:List Int} (hn:L.Nodup) {j:Nat} (hj:j<L.length):cL L D (L.getD j [])=D.getD j 0:=by
 unfold cL
 rw [Ac (bM hj),m6 hn hj]
theorem lb {p:PP} (hV:Valid p) {m:Nat} {L:List (List Int)} {D:List Int} (hb:Tb p m L D) (h:oG p.2.2.1 (Bz p.2.2.1.length) L D):sl p.2.2.1 (Bz p.2.2.1.length) L where
 next x hx l hl:=by
  obtain ⟨i,hi,rfl⟩:=Bf.1 hx
  obtain ⟨j,h1,h2,_⟩:=h.step i hi l hl
  rw [Na hi] at h2
  rw [<-h2]
  exact bM h1
 back x hx l hl:=qw hV (hb.row x hx) hl
theorem qx {p:PP} (hV:Valid p) {m:Nat} {L:List (List Int)} {D:List Int} (hb:Tb p m L D) (h:oG p.2.2.1 (Bz p.2.2.1.length) L D):
  Ro p.2.2.1 (Bz p.2.2.1.length) L (λx=>x=L.getD 0 []) (cL L D) where
 nn x hx:=by
  obtain ⟨i,hi,rfl⟩:=Bf.1 hx
  rw [<-Na (d:= []) hi,lV hb.ok.nodup hi]
  have:=hb.dep i (by rw [hb.len];exact hi)
  rw [Na (by rw [hb.len];exact hi)]
  omega
 zero x hx:=by
  obtain ⟨i,hi,rfl⟩:=Bf.1 hx
  rw [<-Na (d:= []) hi,lV hb.ok.nodup hi]
  constructor
  ·intro h0
   by_cases e:i=0
   ·rw [e]
   ·obtain ⟨k,l,h1,_,_,h4⟩:=h.par i (by omega) hi
    have hk:k<D.length:=by rw [hb.len];omega
    have:=hb.dep k hk
    rw [<-Na (d:=0) hk] at this
    omega
  ·intro e
   have:i=0:=by
    have h1:=m6 hb.ok.nodup hi
    have h2:=m6 hb.ok.nodup h.pos
    rw [e,h2] at h1
    exact h1.symm
   rw [this]
   exact h.zero
 step x hx l hl:=by
  obtain ⟨i,hi,rfl⟩:=Bf.1 hx
  rw [<-Na (d:= []) hi,lV hb.ok.nodup hi]
  obtain ⟨j,h1,h2,h3⟩:=h.step i hi l hl
  rw [<-h2,lV hb.ok.nodup h1]
  exact h3
 down x hx h0:=by
  obtain ⟨i,hi,rfl⟩:=Bf.1 hx
  rw [<-Na (d:= []) hi,lV hb.ok.nodup hi] at h0⊢
  have hi0:0<i:=by
   rcases Ts i with e|e
   ·subst e;rw [h.zero] at h0;omega
   ·exact e
  obtain ⟨k,l,h1,h2,h3,h4⟩:=h.par i hi0 hi
  have hk:k<L.length:=by omega
  obtain ⟨b1,b2⟩:=qw hV (hb.row _ (bM hk)) h2
  refine ⟨-l,b1,?_⟩
  rw [h3,b2,lV hb.ok.nodup hk]
  omega
abbrev uU:Type:=Int×Int×ByteArray×List (List Int)×List Int×List (List Int)×List Int×(ByteArray->Option Int)×List Int×List Int×Int×ByteArray×List (List Int)×List (List Int)×PUnit
abbrev uV:Type:=Int×Int×ByteArray×List (List Int)×List (List Int)×List Int×(ByteArray->Option Int)×List Int×List Int×Int×ByteArray×List (List Int)×List (List Int)×PUnit
abbrev fh:List (Nat×Nat):= [(0,1),(0,1),(0,1),(0,1),(0,1),(0,1),(0,1),(0,1),(0,1),(0,1),(0,1),(0,1),(0,0)]
abbrev Ha (p:Int×ByteArray×List (List Int)×Unit) (y4:List Int) (y2:Int) (y3:Bool) (y6:ByteArray) (y5:ByteArray):Prop:=fh=fh/\(p,false,y4,p.1,p.2.1,p.2.2.1,y2,y3,!y3,p.1,y4,p.1,p.2.1,p.2.2.1,y4,y4,y6,p.1,p.2.1,p.2.2.1,p.1,p.2.1,p.2.2.1,[y4],[(0:Int)],aj (λ(_:ByteArray)=>none) y6 (0:Int),[(0:Int)],[(0:Int)],p.1,p.2.1,p.2.2.1,([]:List (List Int)),())=(p,false,y4,p.1,p.2.1,p.2.2.1,y2,y3,!y3,p.1,y4,p.1,p.2.1,p.2.2.1,y4,y4,y5,p.1,p.2.1,p.2.2.1,p.1,p.2.1,p.2.2.1,[y4],[(0:Int)],aj (λ(_:ByteArray)=>none) y5 (0:Int),[(0:Int)],[(0:Int)],p.1,p.2.1,p.2.2.1,([]:List (List Int)),PUnit.unit)
theorem VQ (p:Int×ByteArray×List (List Int)×Unit) (P:(Option (PP×List (List Int)×List Int×(ByteArray->Option Int)×List Int×List Int×List (List Int)×Unit)×Bool×Unit)->Prop):(∃(y2:Int),Sy.fn ((p.1,p.2.1,p.2.2.1,()),())=some y2/\ ∃(y3:Bool),Df.fn (y2,(1:Int),(3000:Int),())=some y3/\Br (!y3) (P (none,false,())) (∃(y4:List Int),Vl.fn (p.1,())=some y4/\ ∃(y5:ByteArray),Fh.fn (y4,())=some y5/\(∃(y6:List Int),Np.fn ((↑p.2.2.1.length:Int),())=some y6/\0=0/\1= [y4].length/\0=0/\1= [(0:Int)].length/\0=0/\1= [(0:Int)].length/\0=0/\1= [(0:Int)].length/\0=0/\0=([]:List Int).length/\Dh (λ(v7:uV) (k8:uV->Prop)=>Br (decide (v7.1<(↑v7.2.2.2.2.1.length:Int))) (((0:Int)<=v7.1/\v7.1<(↑v7.2.2.2.2.1.length:Int))/\ ∃(y9:List Int),v7.2.2.2.2.1[0+v7.1.toNat]?=some y9/\ ∃(Kq:List (List Int)),kl.fn ((v7.2.1,v7.2.2.1,v7.2.2.2.1,()),y9,())=some Kq/\0=0/\0=([]:List Int).length/\0=0/\v7.2.2.2.2.1.length=v7.2.2.2.2.1.length/\0=0/\v7.2.2.2.2.2.1.length=v7.2.2.2.2.2.1.length/\0=0/\v7.2.2.2.2.2.2.2.1.length=v7.2.2.2.2.2.2.2.1.length/\0=0/\v7.2.2.2.2.2.2.2.2.1.length=v7.2.2.2.2.2.2.2.2.1.length/\0=0/\v7.2.2.2.2.2.2.2.2.2.2.2.2.1.length=v7.2.2.2.2.2.2.2.2.2.2.2.2.1.length/\Dh (λ(v11:uU) (k12:uU->Prop)=>Br (decide (v11.1<(↑Kq.length:Int))) (∃(Iq:List Int),idx Kq v11.1=some Iq/\ ∃(Fq:ByteArray),Fh.fn (Iq,())=some Fq/\Br (!(v11.2.2.2.2.2.2.2.1 Fq).isSome) (∃(Hx:Int),ki.fn (List.take v11.2.2.2.2.2.1.length (List.drop 0 v11.2.2.2.2.2.1),())=some Hx/\0=0/\v11.2.2.2.2.2.1.length=v11.2.2.2.2.2.1.length/\v11.2.2.2.2.2.1.length+(List.take 1 (List.drop 0 [Iq])).length<=Ct/\((0:Int)<=v7.1/\v7.1<(↑v11.2.2.2.2.2.2.1.length:Int))/\ ∃(Hm:Int),v11.2.2.2.2.2.2.1[0+v7.1.toNat]?=some Hm/\0=0/\v11.2.2.2.2.2.2.1.length=v11.2.2.2.2.2.2.1.length/\v11.2.2.2.2.2.2.1.length+ [IntKind.i64.wrap (Hm+(1:Int))].length<=Ct/\0=0/\v11.2.2.2.2.2.2.2.2.1.length=v11.2.2.2.2.2.2.2.2.1.length/\v11.2.2.2.2.2.2.2.2.1.length+(List.take 1 (List.drop 0 [v7.1])).length<=Ct/\ ∃(Is:Int),idx y6 v11.1=some Is/\0=0/\v11.2.2.2.2.2.2.2.2.2.1.length=v11.2.2.2.2.2.2.2.2.2.1.length/\v11.2.2.2.2.2.2.2.2.2.1.length+ [Is].length<=Ct/\0=0/\v11.2.2.2.2.1.length=v11.2.2.2.2.1.length/\v11.2.2.2.2.1.length+(List.take 1 (List.drop 0 [Hx])).length<=Ct/\0=0/\(v11.2.2.2.2.1++List.take 1 (List.drop 0 [Hx])).length=(v11.2.2.2.2.1++List.take 1 (List.drop 0 [Hx])).length/\0=0/\(v11.2.2.2.2.2.1++List.take 1 (List.drop 0 [Iq])).length=(v11.2.2.2.2.2.1++List.take 1 (List.drop 0 [Iq])).length/\0=0/\(v11.2.2.2.2.2.2.1++ [IntKind.i64.wrap (Hm+(1:Int))]).length=(v11.2.2.2.2.2.2.1++ [IntKind.i64.wrap (Hm+(1:Int))]).length/\0=0/\(v11.2.2.2.2.2.2.2.2.1++List.take 1 (List.drop 0 [v7.1])).length=(v11.2.2.2.2.2.2.2.2.1++List.take 1 (List.drop 0 [v7.1])).length/\0=0/\(v11.2.2.2.2.2.2.2.2.2.1++ [Is]).length=(v11.2.2.2.2.2.2.2.2.2.1++ [Is]).length/\0=0/\v11.2.2.2.2.2.2.2.2.2.2.2.2.2.1.length=v11.2.2.2.2.2.2.2.2.2.2.2.2.2.1.length/\k12 (IntKind.i64.wrap (v11.1+(1:Int)),v11.2.1,v11.2.2.1,v11.2.2.2.1,v11.2.2.2.2.1++List.take 1 (List.drop 0 [Hx]),v11.2.2.2.2.2.1++List.take 1 (List.drop 0 [Iq]),v11.2.2.2.2.2.2.1++ [IntKind.i64.wrap (Hm+(1:Int))],aj v11.2.2.2.2.2.2.2.1 Fq Hx,v11.2.2.2.2.2.2.2.2.1++List.take 1 (List.drop 0 [v7.1]),v11.2.2.2.2.2.2.2.2.2.1++ [Is],v11.2.2.2.2.2.2.2.2.2.2.1,v11.2.2.2.2.2.2.2.2.2.2.2.1,v11.2.2.2.2.2.2.2.2.2.2.2.2.1,v11.2.2.2.2.2.2.2.2.2.2.2.2.2.1,())) (0=0/\v11.2.2.2.2.1.length=v11.2.2.2.2.1.length/\v11.2.2.2.2.1.length+(List.take 1 (List.drop 0 [(v11.2.2.2.2.2.2.2.1 Fq).getD (Int.ofNat (nat_lit 0))])).length<=Ct/\0=0/\(v11.2.2.2.2.1++List.take 1 (List.drop 0 [(v11.2.2.2.2.2.2.2.1 Fq).getD (Int.ofNat (nat_lit 0))])).length=(v11.2.2.2.2.1++List.take 1 (List.drop 0 [(v11.2.2.2.2.2.2.2.1 Fq).getD (Int.ofNat (nat_lit 0))])).length/\0=0/\v11.2.2.2.2.2.1.length=v11.2.2.2.2.2.1.length/\0=0/\v11.2.2.2.2.2.2.1.length=v11.2.2.2.2.2.2.1.length/\0=0/\v11.2.2.2.2.2.2.2.2.1.length=v11.2.2.2.2.2.2.2.2.1.length/\0=0/\v11.2.2.2.2.2.2.2.2.2.1.length=v11.2.2.2.2.2.2.2.2.2.1.length/\0=0/\v11.2.2.2.2.2.2.2.2.2.2.2.2.2.1.length=v11.2.2.2.2.2.2.2.2.2.2.2.2.2.1.length/\k12 (IntKind.i64.wrap (v11.1+(1:Int)),v11.2.1,v11.2.2.1,v11.2.2.2.1,v11.2.2.2.2.1++List.take 1 (List.drop 0 [(v11.2.2.2.2.2.2.2.1 Fq).getD (Int.ofNat (nat_lit 0))]),v11.2.2.2.2.2.1,v11.2.2.2.2.2.2.1,v11.2.2.2.2.2.2.2.1,v11.2.2.2.2.2.2.2.2.1,v11.2.2.2.2.2.2.2.2.2.1,v11.2.2.2.2.2.2.2.2.2.2.1,v11.2.2.2.2.2.2.2.2.2.2.2.1,v11.2.2.2.2.2.2.2.2.2.2.2.2.1,v11.2.2.2.2.2.2.2.2.2.2.2.2.2.1,()))) (0=0/\v11.2.2.2.2.2.2.2.2.2.2.2.2.2.1.length=v11.2.2.2.2.2.2.2.2.2.2.2.2.2.1.length/\v11.2.2.2.2.2.2.2.2.2.2.2.2.2.1.length+(List.take 1 (List.drop 0 [List.take v11.2.2.2.2.1.length (List.drop 0 v11.2.2.2.2.1)])).length<=Ct/\0=0/\v11.2.2.2.2.2.1.length=v11.2.2.2.2.2.1.length/\0=0/\v11.2.2.2.2.2.2.1.length=v11.2.2.2.2.2.2.1.length/\0=0/\v11.2.2.2.2.2.2.2.2.1.length=v11.2.2.2.2.2.2.2.2.1.length/\0=0/\v11.2.2.2.2.2.2.2.2.2.1.length=v11.2.2.2.2.2.2.2.2.2.1.length/\0=0/\(v11.2.2.2.2.2.2.2.2.2.2.2.2.2.1++List.take 1 (List.drop 0 [List.take v11.2.2.2.2.1.length (List.drop 0 v11.2.2.2.2.1)])).length=(v11.2.2.2.2.2.2.2.2.2.2.2.2.2.1++List.take 1 (List.drop 0 [List.take v11.2.2.2.2.1.length (List.drop 0 v11.2.2.2.2.1)])).length/\k8 (IntKind.i64.wrap (v7.1+(1:Int)),v11.2.1,v11.2.2.1,v11.2.2.2.1,v11.2.2.2.2.2.1,v11.2.2.2.2.2.2.1,v11.2.2.2.2.2.2.2.1,v11.2.2.2.2.2.2.2.2.1,v11.2.2.2.2.2.2.2.2.2.1,v11.2.2.2.2.2.2.2.2.2.2.1,v11.2.2.2.2.2.2.2.2.2.2.2.1,v11.2.2.2.2.2.2.2.2.2.2.2.2.1,v11.2.2.2.2.2.2.2.2.2.2.2.2.2.1++List.take 1 (List.drop 0 [List.take v11.2.2.2.2.1.length (List.drop 0 v11.2.2.2.2.1)]),()))) ((0:Int),v7.2.1,v7.2.2.1,v7.2.2.2.1,[],v7.2.2.2.2.1,v7.2.2.2.2.2.1,v7.2.2.2.2.2.2.1,v7.2.2.2.2.2.2.2.1,v7.2.2.2.2.2.2.2.2.1,v7.2.2.2.2.2.2.2.2.2.1,v7.2.2.2.2.2.2.2.2.2.2.1,v7.2.2.2.2.2.2.2.2.2.2.2.1,v7.2.2.2.2.2.2.2.2.2.2.2.2.1,PUnit.unit)) (P (some ((v7.2.2.2.2.2.2.2.2.2.1,v7.2.2.2.2.2.2.2.2.2.2.1,v7.2.2.2.2.2.2.2.2.2.2.2.1,()),List.take v7.2.2.2.2.1.length (List.drop 0 v7.2.2.2.2.1),List.take v7.2.2.2.2.2.1.length (List.drop 0 v7.2.2.2.2.2.1),v7.2.2.2.2.2.2.1,List.take v7.2.2.2.2.2.2.2.1.length (List.drop 0 v7.2.2.2.2.2.2.2.1),List.take v7.2.2.2.2.2.2.2.2.1.length (List.drop 0 v7.2.2.2.2.2.2.2.2.1),List.take v7.2.2.2.2.2.2.2.2.2.2.2.2.1.length (List.drop 0 v7.2.2.2.2.2.2.2.2.2.2.2.2.1),()),true,()))) ((0:Int),p.1,p.2.1,p.2.2.1,[y4],[(0:Int)],aj (λ(_:ByteArray)=>none) y5 (0:Int),[(0:Int)],[(0:Int)],p.1,p.2.1,p.2.2.1,([]:List (List Int)),PUnit.unit))/\((∃(y6:ByteArray),Fh.fn (y4,())=some y6/\(Ha p y4 y2 y3 y6 y5))/\ ∃(y6:ByteArray),Fh.fn (y4,())=some y6/\((Ha p y4 y2 y3 y6 y5))/\((Ha p y4 y2 y3 y6 y5))/\(Ha p y4 y2 y3 y6 y5))/\((∃(y6:ByteArray),Fh.fn (y4,())=some y6/\(Ha p y4 y2 y3 y6 y5))/\ ∃(y6:ByteArray),Fh.fn (y4,())=some y6/\((Ha p y4 y2 y3 y6 y5))/\((Ha p y4 y2 y3 y6 y5))/\(Ha p y4 y2 y3 y6 y5))/\ ∃(y6:ByteArray),Fh.fn (y4,())=some y6/\(((Ha p y4 y2 y3 y6 y5))/\((Ha p y4 y2 y3 y6 y5))/\(Ha p y4 y2 y3 y6 y5))/\(((Ha p y4 y2 y3 y6 y5))/\((Ha p y4 y2 y3 y6 y5))/\(Ha p y4 y2 y3 y6 y5))/\(((Ha p y4 y2 y3 y6 y5))/\(Ha p y4 y2 y3 y6 y5))/\(((Ha p y4 y2 y3 y6 y5))/\(Ha p y4 y2 y3 y6 y5))/\((Ha p y4 y2 y3 y6 y5))/\fh=fh/\(p,false,y4,p.1,p.2.1,p.2.2.1,y2,y3,!y3,p.1,y4,p.1,p.2.1,p.2.2.1,y4,y4,y6,p.1,p.2.1,p.2.2.1,p.1,p.2.1,p.2.2.1,[y4],[(0:Int)],aj (λ(_:ByteArray)=>none) y6 (0:Int),[(0:Int)],[(0:Int)],p.1,p.2.1,p.2.2.1,([]:List (List Int)),())=(p,false,y4,p.1,p.2.1,p.2.2.1,y2,y3,!y3,p.1,y4,p.1,p.2.1,p.2.2.1,y4,y4,y5,p.1,p.2.1,p.2.2.1,p.1,p.2.1,p.2.2.1,[y4],[(0:Int)],aj (λ(_:ByteArray)=>none) y5 (0:Int),[(0:Int)],[(0:Int)],p.1,p.2.1,p.2.2.1,[],PUnit.unit)))=fnW Hf (look [(154,Sy),(94,Df),(120,Vl),(107,Fh),(121,Np),(155,kl),(95,ki)]) Mk Try.f88 (p,()) P:=by kernel_rfl
theorem sS {g:List (List Int)} {k:Int} {x:List Int} {d:Int} : ∀(ls:List Int) (s:EX) (row:List Int) (L':List (List Int)) (D':List Int),Hc g x d ls s.1 s.2.1=(L',D',true)->
  (sR g k x d ls s row).1.1=L'/\(sR g k x d ls s row).1.2.1=D'
 | [],s,row,L',D',h=>by
  simp only [Hc,Ae] at h
  exact ⟨h.1,h.2.1⟩
 |l::ls,s,row,L',D',h=>by
  simp only [Hc] at h
  simp only [sR]
  by_cases hm:Ai x (Az g l)∈s.1
  ·rw [Ac hm] at h
   rw [Ac hm]
   exact sS ls s _ L' D' h
  ·rw [Ak hm] at h
   rw [Ak hm]
   by_cases hf:s.1.length=3000
   ·rw [Ac hf] at h
    simp at h
   ·rw [Ak hf] at h
    exact sS ls _ _ L' D' h
theorem DN {g:List (List Int)} {ls:List Int} : ∀(f k:Nat) (s:EX) (N:List (List Int)) (L':List (List Int)) (D':List Int),Jn g ls f k s.1 s.2.1=(L',D',true)->
  (vI g ls f k s N).1.1=L'/\(vI g ls f k s N).1.2.1=D'
 |0,k,s,N,L',D',h=>by
  simp only [Jn,Ae] at h
  exact ⟨h.1,h.2.1⟩
 |f+1,k,s,N,L',D',h=>by
  simp only [Jn] at h
  simp only [vI]
  by_cases hk:k<s.1.length
  ·rw [Ac hk] at h
   rw [Ac hk]
   split at h
   ·rename_i L1 D1 he
    obtain ⟨a1,a2⟩:=sS (k:=(k:Int)) ls s [] L1 D1 he
    refine DN f (k+1) _ _ L' D' ?_
    rw [a1,a2]
    exact h
   ·simp at h
  ·rw [Ak hk] at h
   rw [Ak hk]
   simp only [Ae] at h
   exact ⟨h.1,h.2.1⟩
theorem nH {key:ByteArray} {x:List Int} : ∀(L:List (List Int)) (i:Nat),iX key (L++ [x]) i=if (iX key L i).isSome=true then iX key L i else if Oa x=key then some ((i+L.length:Nat):Int) else none
 | [],i=>by simp [iX]
 |y::L,i=>by
  simp only [Ph,iX]
  split
  ·rfl
  ·rw [nH L (i+1),Av,show i+1+L.length=i+(L.length+1) by omega]
theorem pb {x:List Int} (hx:Wb x): ∀(L:List (List Int)) (i:Nat),(∀y∈L,Wb y)->iX (Oa x) L i=if x∈L then some ((i+L.idxOf x:Nat):Int) else none
 | [],i,_=>by simp [iX]
 |y::L,i,h=>by
  have hy:=h y (by simp)
  simp only [iX]
  by_cases e:y=x
  ·subst e
   rw [Ac rfl,Ac (by simp),List.idxOf_cons_self]
   rfl
  ·rw [Ak λhk=>e (key_inj hy hx hk),pb hx L (i+1) λz hz=>h z (Aq _ hz),show List.idxOf x (y::L)=(List.idxOf x L).succ by rw [List.idxOf_cons,beq_false_of_ne e];rfl]
   have:(x∈y::L)↔(x∈L):=by simp [Gb e]
   by_cases hm:x∈L
   ·rw [Ac hm,Ac (this.2 hm),show i+1+List.idxOf x L=i+(List.idxOf x L).succ by omega]
   ·rw [Ak hm,Ak λh=>hm (this.1 h)]
theorem TA {x:List Int} {L:List (List Int)} (hx:Wb x) (hL: ∀y∈L,Wb y):aT L (Oa x)=if x∈L then some (L.idxOf x:Int) else none:=by
 unfold aT
 rw [pb hx L 0 hL,Bo]
theorem xu {x:List Int} {L:List (List Int)} (hx:Wb x) (hL: ∀y∈L,Wb y) (hn:x∉L):aj (aT L) (Oa x) (L.length:Int)=aT (L++ [x]):=by
 funext key
 unfold aj aT
 rw [nH,Bo]
 by_cases e:key=Oa x
 ·subst e
  rw [Ac rfl,pb hx L 0 hL,Ak hn,Ak (by simp),Ac rfl]
 ·rw [Ak e,Ak (c:=Oa x=key) λh=>e h.symm]
  split
  ·rfl
  ·rename_i h
   cases hk:iX key L 0 with
   |none=>rfl
   |some v=>rw [hk] at h;simp at h
theorem IW (p:PP):Mj (Wn p) 1 3000=Gz p:=by
 unfold Gz
 by_cases hv:Cy p=true
 ·rw [hv,Bool.true_and,DE hv]
  rfl
 ·have hv:Cy p=false:=by simpa using hv
  rw [hv,Bool.false_and]
  have:Wn p=0:=by unfold Wn;rw [Ak (by simp [hv])]
  rw [this]
  rfl
theorem TR (p:PP) (h:Hv p):fnW Hf (look [(154,Sy),(94,Df),(120,Vl),(107,Fh),(121,Np),(155,kl),(95,ki)]) Mk Try.f88 (p,()) (λ(z:Option (PP×List (List Int)×List Int×(ByteArray->Option Int)×List Int×List Int×List (List Int)×Unit)×Bool×Unit)=>z=(if Gz p=true then (some (Ti p),true,()) else (none,false,()))):=by
 refine Eq.mp (VQ p _) ⟨_,Ac h,_,Ac trivial,?_⟩
 show Br (!Mj (Wn p) 1 3000) _ _
 rw [IW p]
 refine Br.of (λhb=>?_) λhb=>?_
 ·rw [Ak (by simpa using hb)]
 have hw:Gz p=true:=by simpa using hb
 rw [Ac hw]
 obtain ⟨hv,KO⟩:=Ce.1 hw
 have hV:=valid hv
 have nt:=hV.oV
 have hn:=hV.n
 obtain ⟨pn,ps,g,⟨⟩⟩:=p
 dsimp only at nt hn KO⊢
 have hI:(upto pn.toNat).length<=20:=by rw [Kb];omega
 have hIr: ∀y∈upto pn.toNat,0<=y/\y<pn:= λy hy=>by have:=Ms.1 hy;omega
 have hb0:=dK (p:=(pn,ps,g,())) hI hIr
 obtain ⟨ls,rk⟩: ∃ls,Bz g.length=ls:=⟨_,rfl⟩
 have SN:ls.length<=16:=by rw [<-rk,Qv];omega
 have nw: ∀l∈ls,La (List.length g) l:= λl hl=>Md (rk▸hl)
 have tf: ∀x:List Int,(∀y∈x,0<=y/\y<pn)->Wb x:= λx hx y hy=>by have:=hx y hy;omega
 have tA:Jn g ls 3001 0 [upto pn.toNat] [0]=Fu g (upto pn.toNat):=by unfold Fu;rw [rk]
 have vL:aj (λ(_:ByteArray)=>(none:Option Int)) (Oa (upto pn.toNat)) 0=aT [upto pn.toNat]:=by
  have:=xu (L:= []) (tf _ hIr) (λy hy=>by cases hy) (by simp)
  exact this
 refine ⟨upto pn.toNat,Ac ⟨by show (0:Int)<=pn;omega,by show pn<=20;omega⟩,Oa (upto pn.toNat),Ac (by show short (upto pn.toNat);unfold short;omega),⟨ls,?_,rfl,rfl,rfl,rfl,rfl,rfl,rfl,rfl,rfl,rfl,?_⟩,?_⟩
 ·refine (Ac ⟨by show (0:Int)<=((g.length:Nat):Int);omega,by show ((g.length:Nat):Int)<=8;omega⟩).trans (Gc some ?_)
  show Bz (((g.length:Nat):Int)).toNat=ls
  rw [Aj];exact rk
 ·obtain ⟨R,hR⟩: ∃R,vI g ls 3001 0 ([upto pn.toNat],[0],[0],[0]) []=R:=⟨_,rfl⟩
  have Ar7:Ti (pn,ps,g,())=Aks (pn,ps,g,()) R:=by unfold Ti;rw [rk];exact Gc _ hR
  rw [Ar7]
  refine Dh.mk (λv=> ∃(k:Nat) (s:EX) (N:List (List Int)),v=((k:Int),pn,ps,g,s.1,s.2.1,aT s.1,s.2.2.1,s.2.2.2,pn,ps,g,N,())/\k<=s.1.length/\Tb (pn,ps,g,()) (upto pn.toNat).length s.1 s.2.1/\s.2.2.1.length=s.1.length/\s.2.2.2.length=s.1.length/\N.length=k/\
    Jn g ls (3001-k) k s.1 s.2.1=Fu g (upto pn.toNat)/\vI g ls (3001-k) k s N=R) (λv=>3001-v.1.toNat)
   ⟨0,([upto pn.toNat],[0],[0],[0]),[],?_,by simp,hb0,rfl,rfl,rfl,tA,hR⟩ ?_
  ·rw [<-vL];rfl
  rintro v ⟨k,s0,N,rfl,h1,h2,h3,h4,h5,h6,h7⟩
  obtain ⟨L0,D0,P0,B0⟩:=s0
  dsimp only at h1 h2 h3 h4 h6 h7⊢
  have XV:=h2.ok.oV
  have hD0:=h2.len
  obtain ⟨f,hf⟩: ∃f,3001-k=f+1:=⟨3000-k,by omega⟩
  refine Br.dec (λhl=>?_) λhl=>?_
  ·have hk:k<L0.length:=by omega
   have EG:k<D0.length:=by omega
   have hx: ∀y∈L0[k],0<=y/\y<pn:=h2.row _ (Al hk)
   have hxl:L0[k].length=(upto pn.toNat).length:=h2.ok.len _ (Al hk)
   have hdk:=h2.dep k EG
   have hxe:L0.getD k []=L0[k]:=Tz hk
   have XZ:D0.getD k 0=D0[k]:=by rw [Ah,Ab EG];rfl
   have hgo: ∀L' D' ok,Hc g L0[k] D0[k] ls L0 D0=(L',D',ok)->Fu g (upto pn.toNat)=if ok=true then Jn g ls f (k+1) L' D' else (L',D',false):=by
    intro L' D' ok he
    rw [<-h6,hf,Jn,Ac hk,hxe,XZ,he]
    cases ok<;>rfl
   obtain ⟨E,hE⟩: ∃E,sR g (k:Int) L0[k] D0[k] ls (L0,D0,P0,B0) []=E:=⟨_,rfl⟩
   have hex:R=vI g ls f (k+1) E.1 (N++ [E.2]):=by
    rw [<-h7,hf,vI,Ac hk]
    dsimp only
    rw [hxe,XZ,hE]
   refine ⟨⟨by omega,by omega⟩,L0[k],by rw [Aj,Bo];exact Ab hk,ls.map (λl=>Ai L0[k] (Az g l)),?_,?_⟩
   ·refine (Ac ⟨hv,by show L0[k].length<=20;omega,hx⟩).trans (Gc some ?_)
    show zu g L0[k]=_
    unfold zu
    rw [rk]
   refine ⟨rfl,rfl,rfl,rfl,rfl,rfl,rfl,rfl,rfl,rfl,rfl,rfl,?_⟩
   obtain ⟨nb,hnb⟩: ∃nb,ls.map (λl=>Ai L0[k] (Az g l))=nb:=⟨_,rfl⟩
   have hnl:nb.length=ls.length:=by rw [<-hnb,Bt]
   have hni: ∀i (h:i<ls.length),nb[i]'(by omega)=Ai L0[k] (Az g ls[i]):= λi h=>by simp only [<-hnb,Mn]
   rw [hnb]
   refine Dh.mk (λv=> ∃(i:Nat) (row:List Int) (s:EX),v=((i:Int),pn,ps,g,row,s.1,s.2.1,aT s.1,s.2.2.1,s.2.2.2,pn,ps,g,N,())/\i<=ls.length/\row.length=i/\Tb (pn,ps,g,()) (upto pn.toNat).length s.1 s.2.1/\s.2.2.1.length=s.1.length/\s.2.2.2.length=s.1.length/\
     (∃A,s.1=L0++A)/\(∃A,s.2.1=D0++A)/\Hc g L0[k] D0[k] (ls.drop i) s.1 s.2.1=Hc g L0[k] D0[k] ls L0 D0/\sR g (k:Int) L0[k] D0[k] (ls.drop i) s row=E) (λv=>ls.length-v.1.toNat)
    ⟨0,[],(L0,D0,P0,B0),rfl,Ja _,rfl,h2,h3,h4,⟨[],by simp⟩,⟨[],by simp⟩,rfl,hE⟩ ?_
   rintro v ⟨i,row,s,rfl,g1,g2,g3,g4,g5,⟨A,g6⟩,⟨A',g7⟩,g8,g9⟩
   obtain ⟨L,D,Pa,By⟩:=s
   dsimp only at g3 g4 g5 g6 g7 g8 g9⊢
   have hLf:=g3.ok.oV
   have hDl:=g3.len
   refine Br.dec (λhli=>?_) λhli=>?_
   ·have hi:i<ls.length:=by omega
    have YJ:k<L.length:=by rw [g6,Au];omega
    have YI:k<D.length:=by rw [hDl];exact YJ
    have hDk:D[k]=D0[k]:=by simp only [g7];exact Ln EG
    have yZ:=nw _ (Al hi)
    obtain ⟨nl,nr⟩:=nP hV hx yZ
    dsimp only at nl nr
    rw [Ez hi] at g8 g9
    simp only [Hc] at g8
    simp only [sR] at g9
    have hyb:=tf _ nr
    refine ⟨_,Ck (by omega),?_⟩
    rw [hni i hi]
    generalize hyv:Ai L0[k] (Az g ls[i])=yv at*
    refine ⟨Oa yv,Ac (by show short yv;unfold short;rw [nl];omega),?_⟩
    rw [TA hyb λy hy=>tf _ (g3.row y hy)]
    refine Br.of (λXm=>?_) λXm=>?_
    ·have Xm:yv∉L:= λhm=>by rw [Ac hm] at Xm;simp at Xm
     rw [Ak Xm] at g8 g9
     by_cases Ve:L.length=3000
     ·rw [Ac Ve] at g8
      have:=hgo _ _ _ g8.symm
      rw [Ak (by decide)] at this
      rw [this] at KO
      cases KO
     rw [Ak Ve] at g8
     refine ⟨_,Ac trivial,rfl,rfl,?_,⟨by omega,by omega⟩,D0[k],?_,rfl,rfl,?_,rfl,rfl,?_,_,Ck hi,rfl,rfl,?_,rfl,rfl,?_,rfl,rfl,rfl,rfl,rfl,rfl,rfl,rfl,rfl,rfl,rfl,rfl,?_⟩
     ·show L.length+1<=4294967296;omega
     ·rw [Aj,Bo,Ab YI,hDk]
     ·show D.length+1<=4294967296;omega
     ·show Pa.length+1<=4294967296;omega
     ·show By.length+1<=4294967296;omega
     ·show row.length+1<=4294967296;omega
     ·dsimp only
      rw [Cq L,Dl (n:=D0[k]+1) (by omega) (by omega),Bk (by omega),xu hyb (λy hy=>tf _ (g3.row y hy)) Xm]
      refine ⟨⟨i+1,row++ [(L.length:Int)],(L++ [yv],D++ [D0[k]+1],Pa++ [(k:Int)],By++ [ls[i]]),rfl,hi,by rw [Au,g2];rfl,g3.add Xm (by rw [nl,hxl]) (by omega) nr ⟨by omega,by omega⟩,?_,?_,⟨A++ [yv],by rw [g6,Cs]⟩,⟨A'++ [D0[k]+1],by rw [g7,Cs]⟩,g8,g9⟩,by omega⟩
      ·simp [g4]
      ·simp [g5]
    ·have Xm:yv∈L:=Bj λhm=>by rw [Ak hm] at Xm;simp at Xm
     rw [Ac Xm] at g8 g9
     rw [Ac Xm]
     refine ⟨rfl,rfl,?_,rfl,rfl,rfl,rfl,rfl,rfl,rfl,rfl,rfl,rfl,rfl,rfl,?_⟩
     ·show row.length+1<=4294967296;omega
     ·rw [Bk (by omega)]
      exact ⟨⟨i+1,row++ [(L.idxOf yv:Int)],(L,D,Pa,By),rfl,hi,by rw [Au,g2];rfl,g3,g4,g5,⟨A,g6⟩,⟨A',g7⟩,g8,g9⟩,by omega⟩
   ·have:i=ls.length:=by omega
    subst this
    rw [Pj,Hc] at g8
    rw [Pj,sR] at g9
    have:=hgo _ _ _ g8.symm
    rw [Ac rfl] at this
    rw [Cq row,Bk (by omega)]
    refine ⟨rfl,rfl,?_,rfl,rfl,rfl,rfl,rfl,rfl,rfl,rfl,rfl,rfl,⟨k+1,(L,D,Pa,By),N++ [row],rfl,by rw [g6,Au];omega,g3,g4,g5,by rw [Au,h5];rfl,?_,?_⟩,by omega⟩
    ·show N.length+1<=4294967296;omega
    ·rw [show 3001-(k+1)=f by omega]
     exact this.symm
    ·rw [show 3001-(k+1)=f by omega,hex,<-g9]
  ·have hk:k=L0.length:=by omega
   rw [hf,vI,Ak (by show ¬k<L0.length;omega)] at h7
   subst h7
   simp only [Dj,Aw]
   rfl
 ·have KT:Fh.fn (upto pn.toNat,())=some (Oa (upto pn.toNat)):=Ac (by show short (upto pn.toNat);unfold short;omega)
  repeat' (first|exact ⟨rfl,rfl⟩|refine ⟨_,KT,?_⟩|refine ⟨?_,?_⟩)
theorem lp:Sound Try.prog 88 Mk:=
 Sound.Ib Ew (Bd pR (Bd Xd (Bd gD (Bd Xc (Bd dy (Bd HL (Bd HK Bw))))))) mixed Try.func88 (by kernel_rfl) (by kernel_rfl) λx h=>TR x.1 h
abbrev XP:Type:=PP×List (List Int)×List Int×(ByteArray->Option Int)×List Int×List Int×List (List Int)×Unit
noncomputable def Be (p:PP):List (List Int):=(Fu p.2.2.1 (upto p.1.toNat)).1
noncomputable def Fv (p:PP):List Int:=(Fu p.2.2.1 (upto p.1.toNat)).2.1
def Acq (e:XP):Prop:=Gz e.1=true/\e=Ti e.1
def QS (goal s:List Int):Bool:=List.all goal λx=>decide (Gw s x=x)
noncomputable abbrev bp:Spec:=Ib (.pair tL (.pair tL .unit)) tL false true (λx=>short x.2.1/\Ny (List.length x.1) x.2.1) (λx=>Ef x.1 x.2.1)
theorem VX (xs is:List Int) (P:List Int->Prop):(((0:Int)<=(↑is.length:Int)/\(↑is.length:Int)<(↑Ct:Int)+(1:Int))/\(↑is.length:Int)=(↑is.length:Int)/\0=0/\(List.replicate (↑is.length:Int).toNat (Int.ofNat (nat_lit 0))).length=(List.replicate (↑is.length:Int).toNat (Int.ofNat (nat_lit 0))).length/\Dh (λ(v3:Int×List Int×PUnit) (k4:Int×List Int×PUnit->Prop)=>Br (decide (v3.1<(↑is.length:Int))) (∃(y5:Int),idx is v3.1=some y5/\ ∃(y6:Int),idx xs y5=some y6/\((0:Int)<=v3.1/\v3.1<(↑v3.2.1.length:Int))/\0+v3.1.toNat<v3.2.1.length/\0=0/\v3.2.1.length=(v3.2.1.set (0+v3.1.toNat) y6).length/\k4 (IntKind.i64.wrap (v3.1+(1:Int)),v3.2.1.set (0+v3.1.toNat) y6,())) (P (List.take v3.2.1.length (List.drop 0 v3.2.1)))) ((0:Int),List.replicate (↑is.length:Int).toNat (Int.ofNat (nat_lit 0)),PUnit.unit))=fnW Hf (look []) bp Try.f106 (xs,is,()) P:=by kernel_rfl
theorem SZ {p:List Int} (h:bx p):Nz p=true:=by
 refine Hy.2 ⟨h.pos,h.len,λj h1 h2=>?_⟩
 have:=h.row _ (Al h2)
 exact ⟨by omega,by omega,λhm=>by
  obtain ⟨i,hi,e⟩:=Bf.1 hm
  have l5:i<j:=by rw [Db] at hi;omega
  rw [List.getElem_take] at e
  exact (Dp.1 h.nodup i j (by omega) h2 l5) e⟩
theorem Gg {p:PP} (hw:Gz p=true):Cy p=true/\(Fu p.2.2.1 (upto p.1.toNat)).2.2=true:=Ce.1 hw
theorem AP {p:PP} (hv:Cy p=true):Tb p p.1.toNat (Be p) (Fv p):=(a8 hv).ok
theorem XT {p:PP} (hV:Valid p):BX p.1.toNat λg=>some g∈p.2.2.1.map some:=
 ⟨by have:=hV.n;omega,λg Sm=>by obtain ⟨g',e,h⟩:=j9 (ir hV).2.2 _ Sm;cases e;exact h⟩
theorem yf {p:PP} (hv:Cy p=true) {x:List Int} (hx:x∈Be p):Pm p.1.toNat x:=cq.pm (XT (valid hv)) ((a8 hv).gen x hx)
theorem Aaj {n:Nat} {x:List Int} (h:Pm n x):short x:=by
 have h1:=h.1
 have:=h.n2
 unfold short;omega
theorem PM {p:PP} (hw:Gz p=true):(Ti p).2.1=Be p/\(Ti p).2.2.1=Fv p:=by
 have h:=(Gg hw).2
 refine DN 3001 0 ([upto p.1.toNat],[0],[0],[0]) [] _ _ ?_
 show Jn p.2.2.1 (Bz p.2.2.1.length) 3001 0 [upto p.1.toNat] [0]=(Be p,Fv p,true)
 rw [<-h]
 rfl
theorem TZ (xs is:List Int) (h:short is/\Ny xs.length is):fnW Hf (look []) bp Try.f106 (xs,is,()) (λ(z:List Int)=>z=Ef xs is):=by
 obtain ⟨h,hr⟩:=h
 unfold short at h
 have Qk:(Ef xs is).length=is.length:=GU xs is
 refine Eq.mp (VX xs is _) ⟨⟨by omega,by show (is.length:Int)<(4294967296:Int)+1;omega⟩,rfl,rfl,rfl,?_⟩
 refine Bs is.length (λv=>v.1) (λj v=>v.2.1.length=(Ef xs is).length/\v.2.1.take j=(Ef xs is).take j) rfl ⟨by rw [Qk];simp,by simp⟩ ?_
 rintro j ⟨i,ys,⟨⟩⟩ K hj hi ⟨h1,h2⟩ hK
 dsimp only at hi h1 h2⊢
 subst hi
 refine Br.dec (λhl=>?_) λhl=>?_
 ·have hl:j<is.length:=by omega
  have hx:=hr _ (Al hl)
  obtain ⟨xn,hxe⟩:=Ml hx.1
  have Ke:j<(Ef xs is).length:=by rw [Qk];exact hl
  have e:xs[xn]'(by omega)=(Ef xs is)[j]:=by
   simp only [Ef,Mn,Gw,hxe,Aj]
   rw [Na]
  refine ⟨_,Ck hl,xs[xn]'(by omega),by rw [hxe];exact Ck (by omega),⟨by omega,by omega⟩,by rw [Aj,Bo];omega,rfl,by rw [Cf],?_⟩
  rw [Bk (by omega),Aj,Bo,e]
  refine hK hl _ rfl ⟨by rw [Cf];exact h1,?_⟩
  rw [Fc,List.take_set_of_le (by omega),h2,List.getElem?_set_self (by omega),Fc,Ab Ke]
 ·have:j=is.length:=by omega
  subst this
  rw [Cq,<-Aw (l:=ys),h1,Qk,h2,<-Qk,Aw]
theorem wx:Sound Try.prog 106 bp:=
 Sound.Ib Ew Bw mixed Try.func106 (by kernel_rfl) (by kernel_rfl) λx h=>TZ x.1 x.2.1 h
theorem oa {p:PP} (hv:Cy p=true):(Be p).length<=3000:=(AP hv).ok.oV
theorem nS {p:PP} {t s:List Int} (hv:Cy p=true) (hs:s∈Be p) (ht:El p t=true):Ny s.length t:=by
 have h1:=(yf hv hs).1
 have hn:=(valid hv).n
 intro y hy
 have:=(Iz ht).2 y hy
 omega
theorem TG {p:PP} (hV:Valid p) {l:Int} (hl:La (List.length p.2.2.1) l):Pm p.1.toNat (Az p.2.2.1 l):=by
 have hn:=hV.n
 obtain ⟨k,hk,Rl⟩:=Sv hl
 have hp:Pm p.1.toNat (p.2.2.1[k]):=⟨by have:=hV.len _ (Al hk);omega,j8 (hV.perm _ (Al hk))⟩
 rcases Rl with rfl|rfl
 ·rw [Rz hk];exact hp
 ·rw [Ry hk];exact hp.inv
theorem Aja {n:Nat} {q:List Int} (h:Pm n q):q.length<=20:=by have:=h.1;have:=h.n2;omega
theorem map_take {α β:Type} (f:α->β) {xs:List α} {j:Nat} (h:j<xs.length):(xs.take (j+1)).map f=(xs.take j).map f++ [f xs[j]]:=by
 rw [Fc,Ab h,Il];rfl
theorem Aji {p:PP} (hv:Cy p=true):1<=(Be p).length:=by
 obtain ⟨A,h⟩:=(a8 hv).first
 show 1<=(Fu p.2.2.1 (upto p.1.toNat)).1.length
 rw [h];simp
theorem pS {p:PP} (hw:Gz p=true):sl p.2.2.1 (Bz p.2.2.1.length) (Be p):=by
 obtain ⟨hv,hb⟩:=Gg hw
 have hV:=valid hv
 have hn:=hV.n
 exact lb hV (AP hv) (lS hv (by rw [Kb];omega) (λy hy=>by have:=Ms.1 hy;omega) hb)
theorem ye {p:PP} (hw:Gz p=true):oG p.2.2.1 (Bz p.2.2.1.length) (Be p) (Fv p):=by
 obtain ⟨hv,hb⟩:=Gg hw
 have hn:=(valid hv).n
 exact lS hv (by rw [Kb];omega) (λy hy=>by have:=Ms.1 hy;omega) hb
theorem AO {p:PP} (hw:Gz p=true) (Q:List Int->Prop) (hQ: ∀x∈Be p,Q x-> ∀l∈Bz p.2.2.1.length,Q (Ai x (Az p.2.2.1 l))) {x:List Int} (hx:x∈Be p) (hq:Q x):
  ∀y∈Be p,Q y:=by
 have hc:=pS hw
 have hL:=ye hw
 have up: ∀(j:Nat),j<(Be p).length->Q ((Be p).getD j [])->Q ((Be p).getD 0 []):=by
  intro j
  induction j using Nat.strongRecOn with
  |_ j ih=>
   intro hj hqj
   by_cases e:j=0
   ·subst e;exact hqj
   ·obtain ⟨i,l,h1,h2,h3,_⟩:=hL.par j (by omega) hj
    have hi:i<(Be p).length:=by omega
    obtain ⟨b1,b2⟩:=hc.back _ (bM hi) l h2
    refine ih i h1 hi ?_
    have:=hQ _ (bM hj) hqj _ b1
    rwa [h3,b2] at this
 have down:Q ((Be p).getD 0 [])-> ∀(j:Nat),j<(Be p).length->Q ((Be p).getD j []):=by
  intro h0 j
  induction j using Nat.strongRecOn with
  |_ j ih=>
   intro hj
   by_cases e:j=0
   ·subst e;exact h0
   ·obtain ⟨i,l,h1,h2,h3,_⟩:=hL.par j (by omega) hj
    have hi:i<(Be p).length:=by omega
    rw [h3]
    exact hQ _ (bM hi) (ih i h1 hi) l h2
 obtain ⟨j,hj,rfl⟩:=Bf.1 hx
 rw [<-Na (d:= []) hj] at hq
 intro y hy
 obtain ⟨k,hk,rfl⟩:=Bf.1 hy
 rw [<-Na (d:= []) hk]
 exact down (up j hj hq) k hk
theorem Af9 {e:XP} (h:Acq e):e.2.1=Be e.1:=(Gc (λz:XP=>z.2.1) h.2).trans (PM h.1).1
theorem Ah5 {e:XP} (h:Acq e):e.2.2.1=Fv e.1:=(Gc (λz:XP=>z.2.2.1) h.2).trans (PM h.1).2
theorem Ws {s q t:List Int} (h:Ny s.length t):Ef (Ai s q) t=Ai (Ef s t) q:=by
 unfold Ef Ai
 rw [List.map_map]
 refine Eh λy hy=>?_
 obtain ⟨h1,h2⟩:=h y hy
 have hy':y.toNat<s.length:=by omega
 show Gw (s.map (Gw q)) y=Gw q (Gw s y)
 unfold Gw
 rw [Na (by rw [Bt];exact hy'),Mn,Na hy']
 try rfl
theorem px {n:Nat} {t:List Int} (h: ∀y∈t,0<=y/\y<(n:Int)):Ef (upto n) t=t:=by
 unfold Ef
 refine (Eh λy hy=>?_).trans (List.map_id t)
 obtain ⟨h1,h2⟩:=h y hy
 obtain ⟨k,rfl⟩:=Ml h1
 have hk:k<n:=by omega
 show Gw (upto n) (k:Int)=(k:Int)
 unfold Gw
 rw [Aj,Ah,vd hk]
 rfl
theorem sat_iff {goal s:List Int} :QS goal s=true↔Ef s goal=goal:=by
 unfold QS Ef
 rw [Ba]
 constructor
 ·intro h
  exact (Eh λy hy=>Lg (h y hy)).trans (List.map_id goal)
 ·intro h y hy
  obtain ⟨j,hj,rfl⟩:=Bf.1 hy
  have h2:(goal.map (Gw s))[j]?=goal[j]?:=Gc (λz:List Int=>z[j]?) h
  rw [En,Ab hj] at h2
  exact Eo (Bb h2)
theorem Nt {p:PP} (hv:Cy p=true):(Be p).getD 0 []=upto p.1.toNat/\upto p.1.toNat∈Be p:=by
 obtain ⟨A,h⟩:=(a8 hv).first
 have h:Be p=upto p.1.toNat::A:=h
 rw [h]
 exact ⟨rfl,by simp⟩
noncomputable def fo (p:PP) (t:List Int):List (List Int):=(Fu p.2.2.1 t).1
noncomputable def zv (p:PP) (t:List Int):List Int:=(Fu p.2.2.1 t).2.1
noncomputable def FI (p:PP) (t x:List Int):Int:=cL (fo p t) (zv p t) x
theorem jC {p:PP} {t:List Int} (ht:El p t=true): ∀y∈t,0<=y/\y<((p.1.toNat:Nat):Int):= λy hy=>by
 have h1:=(Iz ht).2 y hy
 have:=(valid (Pw.1 ht).1).n
 omega
theorem UD {p:PP} {t:List Int} (hw:Gz p=true) (ht:El p t=true):(Fu p.2.2.1 t).2.2=true:=by
 have hv:=(Gg hw).1
 have hV:=valid hv
 obtain ⟨t1,t2⟩:=Iz ht
 have ee:=pw ht
 obtain ⟨a1,_,a3⟩:=PE hv t1 t2 (λx=> ∃s∈Be p,x=Ef s t) ⟨_,(Nt hv).2,(px (jC ht)).symm⟩ λx ⟨s,hs,hx⟩ l hl=>by
  refine ⟨_,(pS hw).next s hs l hl,?_⟩
  rw [hx,Ws (nS hv hs ht)]
 refine Bj λhn=>?_
 obtain ⟨h1,z,⟨s,hs,hz⟩,h3⟩:=a3 (by simpa using hn)
 have h5:=Uc (l1:=z::(Fu p.2.2.1 t).1) (l2:=(Be p).map λs=>Ef s t) (Bx.2 ⟨h3,ee.ok.nodup⟩) λx hx=>by
  rcases Bc.1 hx with rfl|hx
  ·exact Ay.2 ⟨s,hs,hz.symm⟩
  ·obtain ⟨s',z7,e⟩:=a1 x hx
   exact Ay.2 ⟨s',z7,e.symm⟩
 have h6:=oa hv
 simp only [Av,Bt] at h5
 omega
theorem ub {p:PP} {t:List Int} (hw:Gz p=true) (ht:El p t=true):oG p.2.2.1 (Bz p.2.2.1.length) (fo p t) (zv p t):=
 lS (Gg hw).1 (Iz ht).1 (Iz ht).2 (UD hw ht)
theorem xJ {p:PP} {t:List Int} (ht:El p t=true):(fo p t).getD 0 []=t/\t∈fo p t:=by
 obtain ⟨_,A,h⟩:=yD (Pw.1 ht).1 (Iz ht).1 (Iz ht).2
 have h:fo p t=t::A:=h
 rw [h]
 exact ⟨rfl,by simp⟩
theorem MT {p:PP} {t:List Int} (hw:Gz p=true) (ht:El p t=true): ∀s∈Be p,Ef s t∈fo p t:=by
 have hv:=(Gg hw).1
 have hc:=lb (valid hv) (pw ht) (ub hw ht)
 refine AO hw (λs=>Ef s t∈fo p t) (λx hx hq l hl=>?_) (Nt hv).2 ?_
 ·rw [Ws (nS hv hx ht)]
  exact hc.next _ hq l hl
 ·rw [px (jC ht)]
  exact (xJ ht).2
theorem Aah {p:PP} {t:List Int} (hw:Gz p=true) (ht:El p t=true):
  Ro p.2.2.1 (Bz p.2.2.1.length) (Be p) (λs=>QS t s=true) (λs=>FI p t (Ef s t)):=by
 have hv:=(Gg hw).1
 have hd:=qx (valid hv) (pw ht) (ub hw ht)
 have Xm:=MT hw ht
 refine ⟨λx hx=>hd.nn _ (Xm x hx),λx hx=>(hd.zero _ (Xm x hx)).trans ?_,λx hx l hl=>?_,λx hx h0=>?_⟩
 ·rw [show (Fu p.2.2.1 t).1.getD 0 []=t from (xJ ht).1]
  exact sat_iff.symm
 ·rw [Ws (nS hv hx ht)]
  exact hd.step _ (Xm x hx) l hl
 ·obtain ⟨l,hl,h1⟩:=hd.down _ (Xm x hx) h0
  refine ⟨l,hl,?_⟩
  rw [Ws (nS hv hx ht)]
  exact h1
theorem Aii {p:PP} {t:List Int} (ht:El p t=true):QS t (upto p.1.toNat)=true:=sat_iff.2 (px (jC ht))
theorem iA {p:PP} (hw:Gz p=true):Ro p.2.2.1 (Bz p.2.2.1.length) (Be p) (λx=>x=(Be p).getD 0 []) (cL (Be p) (Fv p)):=
 qx (valid (Gg hw).1) (AP (Gg hw).1) (ye hw)
theorem KD {p:PP} (hw:Gz p=true):(Fv p).length=(Be p).length:=(AP (Gg hw).1).len
def known (row:Row):List (List Int):=row.filterMap id
mutual
def kC (n:Nat):Nat->Nat->List Int->Cc×Cc->Cc×Cc
 |0,_,_,s=>s
 |f+1,k,p,s=>if Ix s.2 (n-k) k p=true then s else
   ((known (s.2.getD k [])).map λu=>Ai u p).foldl (λs q=>fZ n f k q s) (s.1.set k (s.1.getD k []++ [some p]),s.2)
def fZ (n:Nat):Nat->Nat->List Int->Cc×Cc->Cc×Cc
 |0,_,_,s=>s
 |f+1,k,p,s=>match (s.2.getD k []).getD (ap p k) none with
  |some t=>kC n f (k+1) (Ai p (Bg t)) s
  |none=>((s.1.getD k []).map λo=>Ai p (o.getD [])).foldl (λs q=>fZ n f k q s) (s.1,s.2.set k ((s.2.getD k []).set (ap p k) (some p)))
end
structure Part (n k:Nat) (s:Cc×Cc):Prop where
 l1:s.1.length=n
 l2:s.2.length=n
 pg:PG n k (s.1.getD k [])
 row:Va n k (s.1.getD k []) (s.2.getD k [])
 comp:dH n (n-(k+1)) (k+1) s
 gb:GBf (n-(k+1)) (k+1) s
 sub: ∀g,some g∈s.1.getD (k+1) []->Gn n (s.1.getD k []) g
def Hd (n k:Nat) (s:Cc×Cc) (q:List Int):Prop:= ∃t,(s.2.getD k []).getD (ap q k) none=some t/\Ix s.2 (n-(k+1)) (k+1) (Ai q (Bg t))=true
structure cr (n k:Nat) (s s':Cc×Cc):Prop where
 grow:Wa k s s'
 same:s'.1.getD k []=s.1.getD k []
 part:Part n k s'
 Fb: ∀q,Pm n q->Fx k q->Hd n k s q->Hd n k s' q
 new: ∀y t,(s'.2.getD k []).getD y none=some t->(s.2.getD k []).getD y none=some t\/ ∀g,some g∈s.1.getD k []->Hd n k s' (Ai t g)
theorem cr.refl {n k:Nat} {s:Cc×Cc} (h:Part n k s):cr n k s s:=⟨Wa.refl _ _,rfl,h,λ_ _ _ h=>h,λ_ _ h=> .inl h⟩
theorem Part.tg {n k:Nat} {s:Cc×Cc} (h:Part n k s) (hk:k<n) {y:Nat} {t g:List Int} (ht:(s.2.getD k []).getD y none=some t) (hg:some g∈s.1.getD k []):Pm n (Ai t g)/\Fx k (Ai t g)/\ap (Ai t g) k=ap g y:=by
 obtain ⟨t1,t2,t3,t4⟩:=h.row.rt _ _ ht
 obtain ⟨g',e,g1,g2⟩:=h.pg _ hg
 cases e
 exact ⟨t1.comp g1,Fx.comp t1 g1 t2 g2 (by omega),by rw [Ju t1 g1 hk,t3]⟩
theorem cr.trans {n k:Nat} {a b c:Cc×Cc} (hk:k<n) (h:cr n k a b) (h':cr n k b c):cr n k a c:=by
 refine ⟨h.grow.trans h'.grow (Ap _),h'.same.trans h.same,h'.part,λq h1 h2 h3=>h'.Fb q h1 h2 (h.Fb q h1 h2 h3),λy t e=>?_⟩
 rcases h'.new y t e with e1|e1
 ·rcases h.new y t e1 with e2|e2
  ·exact .inl e2
  ·refine .inr λg hg=>?_
   obtain ⟨p1,p2,_⟩:=h.part.tg hk e1 (by rw [h.same];exact hg)
   exact h'.Fb _ p1 p2 (e2 g hg)
 ·exact .inr λg hg=>e1 g (by rw [h.same];exact hg)
theorem Part.pms {n k:Nat} {s:Cc×Cc} (h1:1<=n) (h2:n<=20) (h:Part n k s):BX n λg=>some g∈s.1.getD k []:=⟨⟨h1,h2⟩,λg hg=>by obtain ⟨g',e,h,_⟩:=h.pg _ hg;cases e;exact h⟩
theorem Part.v {n k:Nat} {s:Cc×Cc} (h:Part n k s):V n (n-(k+1)) (k+1) s:=⟨h.l1,h.l2,h.comp,h.gb⟩
theorem x5 (row:Row):vD row+Me row=row.length:=by
 induction row with
 |nil=>rfl
 |cons o r ih=>
  unfold vD Me at*
  cases o<;>simp [eK]<;>omega
theorem MB {a b:Row} (hl:b.length=a.length) (h: ∀y t,a.getD y none=some t->b.getD y none=some t):Me b<=Me a:=by
 have h1:=(oP a b hl.symm h).1
 have h2:=x5 a
 have h3:=x5 b
 omega
def QV (n k:Nat):Nat:=(n-k)*(n+2)+(n+1)
def mF (n k:Nat) (s:Cc×Cc):Nat:=(n-k)*(n+2)+Me (s.2.getD k [])
theorem cr.mu {n k:Nat} {s s':Cc×Cc} (h:cr n k s s'):mF n k s'<=mF n k s:=by
 have:=MB (h.grow.Aas k) (h.grow.uZ k)
 unfold mF;omega
theorem jO {n k f:Nat} (hk:k<n) {gs:List PO}
  (IH: ∀q s,Part n k s->s.1.getD k []=gs->Pm n q->Fx k q->Gn n gs q->mF n k s<=f->(cr n k s (fZ n f k q s)/\Hd n k (fZ n f k q s) q)/\ ∀f',f<=f'->fZ n f' k q s=fZ n f k q s):
  ∀(qs:List (List Int)) (s:Cc×Cc),Part n k s->s.1.getD k []=gs->(∀q∈qs,Pm n q/\Fx k q/\Gn n gs q)->mF n k s<=f->
   cr n k s (qs.foldl (λs q=>fZ n f k q s) s)/\(∀q∈qs,Hd n k (qs.foldl (λs q=>fZ n f k q s) s) q)/\ ∀f',f<=f'->qs.foldl (λs q=>fZ n f' k q s) s=qs.foldl (λs q=>fZ n f k q s) s
 | [],s,hp,_,_,_=>⟨cr.refl hp,λq hq=>(by cases hq),λ_ _=>rfl⟩
 |q::qs,s,hp,hg,hq,hm=>by
  obtain ⟨q1,q2,q3⟩:=hq q (by simp)
  obtain ⟨⟨a1,a2⟩,a3⟩:=IH q s hp hg q1 q2 q3 hm
  obtain ⟨b1,b2,b3⟩:=jO hk IH qs (fZ n f k q s) a1.part (a1.same.trans hg) (λq' h=>hq q' (Aq _ h)) (Gx a1.mu hm)
  simp only [Jj]
  refine ⟨a1.trans hk b1,λq' gm=>?_,λf' hf=>?_⟩
  ·rcases Bc.1 gm with rfl|gm
   ·exact b1.Fb _ q1 q2 a2
   ·exact b2 q' gm
  ·rw [a3 f' hf];exact b3 f' hf
theorem EB {n k:Nat} (h1:1<=n) (h2:n<=20) (hk:k<n) {s s':Cc×Cc} (hs:dH n (n-(k+1)) (k+1) s) (z7:dH n (n-(k+1)) (k+1) s') (hg:Wa k s s') {x:List Int} (hx:Pm n x) (hf:Fx (k+1) x)
  (h:Ix s.2 (n-(k+1)) (k+1) x=true):Ix s'.2 (n-(k+1)) (k+1) x=true:=
 (Uh h1 h2 _ (k+1) s' (by omega) z7 x hx hf).2 (((Uh h1 h2 _ (k+1) s (by omega) hs x hx hf).1 h).mono λg BY=>hg.xb _ _ BY)
theorem kb {row:Row} {u:List Int} :u∈known row↔ ∃y,row.getD y none=some u:=by
 unfold known
 rw [List.mem_filterMap]
 constructor
 ·rintro ⟨o,ho,e⟩
  obtain ⟨y,hy,rfl⟩:=Bf.1 ho
  exact ⟨y,by rw [Ah,Ab hy];exact e⟩
 ·rintro ⟨y,hy⟩
  have hl:=np hy
  rw [Ah,Ab hl] at hy
  exact ⟨row[y],Al hl,hy⟩
theorem PB {n:Nat} (h1:1<=n) (h2:n<=20): ∀f:Nat,
  (∀k p s,k<=n->V n (n-k) k s->Pm n p->Fx k p->QV n k<=f->WK n (n-k) k s p (kC n f k p s)/\ ∀f',f<=f'->kC n f' k p s=kC n f k p s)/\
  (∀k q s,k<n->Part n k s->Pm n q->Fx k q->Gn n (s.1.getD k []) q->mF n k s<=f->(cr n k s (fZ n f k q s)/\Hd n k (fZ n f k q s) q)/\ ∀f',f<=f'->fZ n f' k q s=fZ n f k q s)
 |0=>⟨λk p s _ _ _ _ h=>by unfold QV at h;omega,λk q s hk _ _ _ _ h=>by
   unfold mF at h
   have:1*(n+2)<=(n-k)*(n+2):=Ej _ (by omega)
   omega⟩
 |f+1=>by
  obtain ⟨ihG,ihP⟩:=PB h1 h2 f
  refine ⟨λk p s hk hv hp hf hmu=>?_,λk q s hk cn hq hf JD hmu=>?_⟩
  ·
   have EL: ∀f',f+1<=f'-> ∃JA,f'=JA+1/\f<=JA:= λf' h=>⟨f'-1,by omega,by omega⟩
   by_cases hh:Ix s.2 (n-k) k p=true
   ·have e: ∀f',kC n (f'+1) k p s=s:= λf'=>by simp only [kC];rw [Ac hh]
    rw [e f]
    refine ⟨⟨hv,Wa.refl _ _,(Uh h1 h2 _ k s (by omega) hv.2.2.1 p hp hf).1 hh,λo ho=> .inl ho⟩,λf' JC=>?_⟩
    obtain ⟨JA,rfl,_⟩:=EL f' JC
    exact e JA
   have YL:k<n:=by
    refine Nat.lt_of_le_of_ne hk λe=>hh ?_
    subst e
    rw [Nat.sub_self];rfl
   obtain ⟨v1,v2,hc,xg⟩:=hv
   have jQ:=hc
   have Awb:=xg
   obtain ⟨m,hm⟩: ∃m,n-k=m+1:=⟨n-k-1,by omega⟩
   have EH:n-(k+1)=m:=by omega
   rw [hm] at hc xg
   obtain ⟨c1,c2,c3⟩:=hc
   generalize nv:s.1.getD k []++ [some p]=gs
   have Zx:some p∈gs:=by rw [<-nv];simp
   have Qa: ∀o∈s.1.getD k [],o∈gs:= λo ho=>by rw [<-nv];exact Bi _ ho
   have hg:PG n k gs:= λo ho=>by
    rw [<-nv] at ho
    rcases Ax.1 ho with ho|ho
    ·exact c2.pg o ho
    ·rw [Ad] at ho;exact ⟨p,ho,hp,hf⟩
   have hS:BX n λg=>some g∈gs:=⟨⟨h1,h2⟩,λg Sm=>by obtain ⟨g',e,h,_⟩:=hg _ Sm;cases e;exact h⟩
   have uu: ∀i,(s.1.set k gs).getD i []=if i=k then gs else s.1.getD i []:= λi=>by
    rw [Li]
    by_cases e:k=i
    ·subst e;rw [Ac ⟨rfl,by omega⟩,Ac rfl]
    ·rw [Ak (λhh=>e hh.1),Ak (Gb e)]
   have xl: ∀i,k+1<=i->(s.1.set k gs).getD i []=s.1.getD i []/\s.2.getD i []=s.2.getD i []:= λi hi=>⟨by rw [uu i,Ak (by omega)],rfl⟩
   have tw:Part n k (s.1.set k gs,s.2):=by
    refine ⟨by simpa using v1,v2,?_,?_,?_,?_,λg Sm=>?_⟩
    ·show PG n k ((s.1.set k gs).getD k []);rw [uu k,Ac rfl];exact hg
    ·show Va n k ((s.1.set k gs).getD k []) _
     rw [uu k,Ac rfl]
     exact ⟨c2.rl,c2.r0,λy t e=>⟨(c2.rt y t e).1,(c2.rt y t e).2.1,(c2.rt y t e).2.2.1,(c2.rt y t e).2.2.2.mono λg hg=>Qa _ hg⟩⟩
    ·rw [EH];exact Us m (k+1) xl c1
    ·rw [EH];exact bL m (k+1) xl xg.1
    ·have Sm:some g∈(s.1.set k gs).getD (k+1) []:=Sm
     rw [(xl (k+1) (Ap _)).1] at Sm
     show Gn n ((s.1.set k gs).getD k []) g
     rw [uu k,Ac rfl]
     exact (c3 g Sm).mono λg hg=>Qa _ hg
   have jU:((s.1.set k gs,s.2):Cc×Cc).1.getD k []=gs:=by show (s.1.set k gs).getD k []=gs;rw [uu k,Ac rfl]
   have m5:Wa k s (s.1.set k gs,s.2):=by
    refine ⟨by simp,rfl,λi hi=>⟨?_,rfl⟩,λi o ho=>?_,λi y t e=>e,λi=>rfl⟩
    ·show (s.1.set k gs).getD i []=_;rw [uu i,Ak (by omega)]
    ·show o∈(s.1.set k gs).getD i []
     rw [uu i]
     split
     ·rename_i hi;subst hi;exact Qa o ho
     ·exact ho
   have hmP:mF n k (s.1.set k gs,s.2)<=f:=by
    have hn:=j5 (s.2.getD k [])
    have hr:=c2.rl
    unfold mF
    unfold QV at hmu
    show (n-k)*(n+2)+Me (s.2.getD k [])<=f
    omega
   have SV: ∀q∈(known (s.2.getD k [])).map (λu=>Ai u p),Pm n q/\Fx k q/\Gn n gs q:= λq hq=>by
    obtain ⟨u,hu,rfl⟩:=Ay.1 hq
    obtain ⟨y,hy⟩:=kb.1 hu
    obtain ⟨t1,t2,t3,t4⟩:=c2.rt _ _ hy
    exact ⟨t1.comp hp,Fx.comp t1 hp t2 hf hk, .mul (t4.mono λg hg=>Qa _ hg) Zx⟩
   obtain ⟨r1,r2,r3⟩:=jO YL (gs:=gs) (λq s ny Sm a b c d=>ihP k q s YL ny a b (by rw [Sm];exact c) d) ((known (s.2.getD k [])).map λu=>Ai u p) (s.1.set k gs,s.2) tw jU SV hmP
   have e: ∀f',kC n (f'+1) k p s=((known (s.2.getD k [])).map λu=>Ai u p).foldl (λs q=>fZ n f' k q s) (s.1.set k gs,s.2):= λf'=>by simp only [kC];rw [Ak hh,nv]
   refine ⟨?_,λf' JC=>by obtain ⟨JA,rfl,YC⟩:=EL f' JC;rw [e JA,e f];exact r3 JA YC⟩
   rw [e f]
   generalize ((known (s.2.getD k [])).map λu=>Ai u p).foldl (λs q=>fZ n f k q s) (s.1.set k gs,s.2)=s' at r1 r2
   have ny:=r1.part
   have KR:s'.1.getD k []=gs:=r1.same.trans jU
   have hHd: ∀y t g,(s'.2.getD k []).getD y none=some t->some g∈gs->Hd n k s' (Ai t g):= λy t g ht BY=>by
    rcases r1.new y t ht with e1|e1
    ·have e1:(s.2.getD k []).getD y none=some t:=e1
     by_cases Tt:g=p
     ·subst Tt
      exact r2 _ (Ay.2 ⟨t,kb.2 ⟨y,e1⟩,rfl⟩)
     ·have hg0:some g∈s.1.getD k []:=by
       rw [<-nv] at BY
       rcases Ax.1 BY with h|h
       ·exact h
       ·rw [Ad] at h;cases h;exact absurd rfl Tt
      obtain ⟨x1,x2,x3⟩:=tw.tg YL e1 (by rw [jU];exact BY)
      refine r1.Fb _ x1 x2 ?_
      obtain ⟨t',vu⟩:=Ko.1 (c2.cl y t g e1 hg0)
      refine ⟨t',by show (s.2.getD k []).getD _ none=_;rw [x3];exact vu,?_⟩
      show Ix s.2 (n-(k+1)) (k+1) _=true
      rw [EH]
      exact c2.sg y t g t' e1 hg0 vu
    ·exact e1 g (by rw [jU];exact BY)
   have Ahv:Lvl n k gs (s'.2.getD k []) (λq=>Ix s'.2 m (k+1) q=true):=by
    have hr:=ny.row
    rw [KR] at hr
    refine ⟨hg,hr.rl,hr.r0,hr.rt,λy t g ht BY=>?_,λy t g t' ht BY vu=>?_⟩
    ·obtain ⟨t',vu,_⟩:=hHd y t g ht BY
     obtain ⟨_,_,x3⟩:=ny.tg YL ht (by rw [KR];exact BY)
     rw [<-x3,vu];simp
    ·obtain ⟨t'',Amp,hx⟩:=hHd y t g ht BY
     obtain ⟨_,_,x3⟩:=ny.tg YL ht (by rw [KR];exact BY)
     rw [x3,vu] at Amp
     cases Amp
     rw [<-EH];exact hx
   have EC:dH n (m+1) k s':=⟨by rw [<-EH];exact ny.comp,by rw [KR];exact Ahv,λg BY=>ny.sub g BY⟩
   have Xm:Gn n (s'.1.getD k []) p:=by rw [KR];exact cq.one hS Zx
   have tn:=m5.trans r1.grow (Ap _)
   rw [hm]
   refine ⟨⟨ny.l1,ny.l2,EC,by rw [<-EH];exact ny.gb,?_⟩,tn,Xm,λo ho=>?_⟩
   ·have hold:=xg.2
    obtain ⟨p1,p2⟩:=ud tn.Aas tn.uZ (m+1) k
    have Iv:ja s.2 (m+1) k≠ja s'.2 (m+1) k:= λe=>by
     have:=cF (m+1) k p (p2 e)
     rw [(Uh h1 h2 (m+1) k s' (by omega) EC p hp hf).2 Xm] at this
     rw [hm] at hh
     exact hh this.symm
    rw [KR,<-nv,Au,Cd]
    omega
   ·rw [KR,<-nv] at ho
    rcases Ax.1 ho with ho|ho
    ·exact .inl ho
    ·rw [Ad] at ho;exact .inr ho
  ·
   have EL: ∀f',f+1<=f'-> ∃JA,f'=JA+1/\f<=JA:= λf' h=>⟨f'-1,by omega,by omega⟩
   have hS:=cn.pms h1 h2
   have hmul:(n-k)*(n+2)=(n-(k+1))*(n+2)+(n+2):=by
    rw [show n-k=n-(k+1)+1 by omega,Dg,So]
   cases Kf:(s.2.getD k []).getD (ap q k) none with
   |some t=>
    have e: ∀f',fZ n (f'+1) k q s=kC n f' (k+1) (Ai q (Bg t)) s:= λf'=>by simp only [fZ];rw [Kf]
    obtain ⟨t1,t2,t3,t4⟩:=cn.row.rt _ _ Kf
    have hx:=hq.comp t1.inv
    have hfx:=Fx.div hq t1 hf t2 hk t3
    have hxg:Gn n (s.1.getD k []) (Ai q (Bg t)):=cq.comp hS JD (cq.sd hS t4)
    obtain ⟨a1,a2⟩:=ihG (k+1) _ s (by omega) cn.v hx hfx (by unfold QV;unfold mF at hmu;omega)
    refine ⟨?_,λf' JC=>by obtain ⟨JA,rfl,YC⟩:=EL f' JC;rw [e JA,e f];exact a2 JA YC⟩
    rw [e f]
    generalize kC n f (k+1) (Ai q (Bg t)) s=s' at a1
    obtain ⟨av,ag,ai,ags⟩:=a1
    obtain ⟨w1,w2,w3,w4⟩:=av
    obtain ⟨lo1,lo2⟩:=ag.low k (by omega)
    have As5:Part n k s':=⟨w1,w2,by rw [lo1];exact cn.pg,by rw [lo1,lo2];exact cn.row,w3,w4,λg BY=>by
     rw [lo1]
     rcases ags _ BY with h|h
     ·exact cn.sub g h
     ·cases h;exact hxg⟩
    refine ⟨⟨ag.Iw (by omega),lo1,As5,λq' q1 q2 ⟨t',e1,e2⟩=>?_,λy t e=> .inl (by rw [lo2] at e;exact e)⟩,t,by rw [lo2];exact Kf,?_⟩
    ·obtain ⟨u1,u2,u3,_⟩:=cn.row.rt _ _ e1
     exact ⟨t',by rw [lo2];exact e1,EB h1 h2 hk cn.comp w3 (ag.Iw (by omega)) (q1.comp u1.inv) (Fx.div q1 u1 q2 u2 hk u3) e2⟩
    ·exact (Uh h1 h2 _ (k+1) s' (by omega) w3 _ hx hfx).2 ai
   |none=>
    have e: ∀f',fZ n (f'+1) k q s=((s.1.getD k []).map λo=>Ai q (o.getD [])).foldl (λs q=>fZ n f' k q s) (s.1,s.2.set k ((s.2.getD k []).set (ap q k) (some q))):= λf'=>by simp only [fZ];rw [Kf]
    have hy:ap q k<n:=hq.lt hk
    have JF:=cn.row.rl
    have hyk:ap q k≠k:= λh=>by rw [h,cn.row.r0] at Kf;cases Kf
    have CA:=cn.l2
    generalize qo:(s.2.getD k []).set (ap q k) (some q)=Xo
    have dG: ∀y,Xo.getD y none=if ap q k=y then some q else (s.2.getD k []).getD y none:= λy=>by
     rw [<-qo,Li]
     by_cases h:ap q k=y
     ·rw [Ac ⟨h,by omega⟩,Ac h]
     ·rw [Ak λhh=>h hh.1,Ak h]
    have s12: ∀i,(s.2.set k Xo).getD i []=if i=k then Xo else s.2.getD i []:= λi=>by
     rw [Li]
     by_cases e:k=i
     ·subst e;rw [Ac ⟨rfl,by omega⟩,Ac rfl]
     ·rw [Ak (λhh=>e hh.1),Ak (Gb e)]
    have xl: ∀i,k+1<=i->s.1.getD i []=s.1.getD i []/\(s.2.set k Xo).getD i []=s.2.getD i []:= λi hi=>⟨rfl,by rw [s12 i,Ak (by omega)]⟩
    have YH:((s.1,s.2.set k Xo):Cc×Cc).2.getD k []=Xo:=by show (s.2.set k Xo).getD k []=Xo;rw [s12 k,Ac rfl]
    have tw:Part n k (s.1,s.2.set k Xo):=by
     refine ⟨cn.l1,by simpa using CA,cn.pg,?_,Us _ (k+1) xl cn.comp,bL _ (k+1) xl cn.gb,cn.sub⟩
     rw [YH]
     refine ⟨by rw [<-qo,Cf];exact JF,by rw [dG k,Ak hyk];exact cn.row.r0,λy t e=>?_⟩
     rw [dG y] at e
     split at e
     ·rename_i h
      cases e
      exact ⟨hq,hf,h,JD⟩
     ·exact cn.row.rt y t e
    have m5:Wa k s (s.1,s.2.set k Xo):=by
     refine ⟨rfl,by simp,λi hi=>⟨rfl,?_⟩,λi o ho=>ho,λi y t et=>?_,λi=>?_⟩
     ·show (s.2.set k Xo).getD i []=_;rw [s12 i,Ak (by omega)]
     ·show ((s.2.set k Xo).getD i []).getD y none=some t
      rw [s12 i]
      split
      ·rename_i hi
       subst hi
       rw [dG y]
       split
       ·rename_i h;rw [<-h,Kf] at et;cases et
       ·exact et
      ·exact et
     ·show ((s.2.set k Xo).getD i []).length=_
      rw [s12 i]
      split
      ·rename_i hi;subst hi;rw [<-qo,Cf]
      ·rfl
    have hnn:Me Xo+1=Me (s.2.getD k []):=by rw [<-qo];exact pj Kf (by omega)
    have hmP:mF n k (s.1,s.2.set k Xo)<=f:=by
     unfold mF
     rw [YH]
     unfold mF at hmu
     omega
    have SV: ∀x∈(s.1.getD k []).map (λo=>Ai q (o.getD [])),Pm n x/\Fx k x/\Gn n (s.1.getD k []) x:= λx hx=>by
     obtain ⟨o,ho,rfl⟩:=Ay.1 hx
     obtain ⟨g,rfl,g1,g2⟩:=cn.pg o ho
     exact ⟨hq.comp g1,Fx.comp hq g1 hf g2 (by omega), .mul JD ho⟩
    obtain ⟨r1,r2,r3⟩:=jO hk (gs:=s.1.getD k []) (λq s ny Sm a b c d=>ihP k q s hk ny a b (by rw [Sm];exact c) d) ((s.1.getD k []).map λo=>Ai q (o.getD [])) (s.1,s.2.set k Xo) tw rfl SV hmP
    have e': ∀f',fZ n (f'+1) k q s=((s.1.getD k []).map λo=>Ai q (o.getD [])).foldl (λs q=>fZ n f' k q s) (s.1,s.2.set k Xo):= λf'=>by rw [e f',qo]
    refine ⟨?_,λf' JC=>by obtain ⟨JA,rfl,YC⟩:=EL f' JC;rw [e' JA,e' f];exact r3 JA YC⟩
    rw [e' f]
    generalize ((s.1.getD k []).map λo=>Ai q (o.getD [])).foldl (λs q=>fZ n f k q s) (s.1,s.2.set k Xo)=s' at r1 r2
    have EK:s'.1.getD k []=s.1.getD k []:=r1.same
    have Ahr: ∀x,Pm n x->Fx k x->Hd n k s x->Hd n k (s.1,s.2.set k Xo) x:= λx x1 x2 ⟨t',e1,e2⟩=>by
     obtain ⟨u1,u2,u3,_⟩:=cn.row.rt _ _ e1
     exact ⟨t',m5.uZ k _ _ e1,EB h1 h2 hk cn.comp tw.comp m5 (x1.comp u1.inv) (Fx.div x1 u1 x2 u2 hk u3) e2⟩
    have hqq:(s'.2.getD k []).getD (ap q k) none=some q:=r1.grow.uZ k _ _ (by rw [YH,dG,Ac rfl])
    refine ⟨⟨m5.trans r1.grow (Ap _),EK,r1.part,λx x1 x2 x3=>r1.Fb x x1 x2 (Ahr x x1 x2 x3),λy t ht=>?_⟩,q,hqq,?_⟩
    ·rcases r1.new y t ht with e1|e1
     ·rw [YH,dG y] at e1
      split at e1
      ·cases e1
       refine .inr λg hg=>r2 _ (Ay.2 ⟨some g,hg,rfl⟩)
      ·exact .inl e1
     ·exact .inr e1
    ·rw [dO hq]
     exact (Uh h1 h2 _ (k+1) s' (by omega) r1.part.comp _ (Pm.id h1 h2) (λi hi=>ia (by omega))).2 .id
theorem OZ {n f k:Nat} {p:List Int} {s:Cc×Cc} :kC n (f+1) k p s=if Ix s.2 (n-k) k p=true then s else
  ((known (s.2.getD k [])).map λu=>Ai u p).foldl (λs q=>fZ n f k q s) (s.1.set k (s.1.getD k []++ [some p]),s.2):=by simp only [kC]
theorem PA {n f k:Nat} {p:List Int} {s:Cc×Cc} :fZ n (f+1) k p s=match (s.2.getD k []).getD (ap p k) none with
  |some t=>kC n f (k+1) (Ai p (Bg t)) s
  |none=>((s.1.getD k []).map λo=>Ai p (o.getD [])).foldl (λs q=>fZ n f k q s) (s.1,s.2.set k ((s.2.getD k []).set (ap p k) (some p))):=by simp only [fZ]<;>rfl
theorem Agi {n k:Nat} (h2:n<=20):(n-k)*(n+2)<=440:=Gx (dF (show n-k<=20 by omega) (show n+2<=22 by omega)) (by omega)
theorem ZW {n k f:Nat} (h2:n<=20) (hf:500<=f):QV n k<=f:=by have:=Agi (k:=k) h2;unfold QV;omega
theorem Ait {n k f:Nat} {s:Cc×Cc} (h2:n<=20) (hp:Part n k s) (hf:500<=f):mF n k s<=f:=by
 have:=Agi (k:=k) h2
 have h:=j5 (s.2.getD k [])
 have hr:=hp.row.rl
 unfold mF;omega
theorem Agw {n k:Nat} (h1:1<=n) (h2:n<=20) {p:List Int} {s:Cc×Cc} (hk:k<=n) (hv:V n (n-k) k s) (hp:Pm n p) (hf:Fx k p):WK n (n-k) k s p (kC n 1000 k p s):=
 ((PB h1 h2 1000).1 k p s hk hv hp hf (ZW h2 (by omega))).1
def iH (n k:Nat) (qs:List (List Int)) (s:Cc×Cc):Cc×Cc:=qs.foldl (λs q=>fZ n 1000 k q s) s
theorem sU {n k:Nat} (h1:1<=n) (h2:n<=20) (hk:k<n) {qs:List (List Int)} {s:Cc×Cc} (hp:Part n k s) (hq: ∀q∈qs,Pm n q/\Fx k q/\Gn n (s.1.getD k []) q):
  cr n k s (iH n k qs s)/\qs.foldl (λs q=>fZ n 999 k q s) s=iH n k qs s:=by
 have h:=jO hk (f:=999) (gs:=s.1.getD k []) (λq s' ny Sm a b c d=>(PB h1 h2 999).2 k q s' hk ny a b (by rw [Sm];exact c) d) qs s hp rfl hq (Ait h2 hp (by omega))
 have e:=h.2.2 1000 (by omega)
 refine ⟨?_,e.symm⟩
 unfold iH
 rw [e];exact h.1
theorem sV {n k:Nat} {qs:List (List Int)} {s:Cc×Cc} {j:Nat} (hj:j<qs.length):iH n k (qs.take (j+1)) s=fZ n 1000 k qs[j] (iH n k (qs.take j) s):=by
 unfold iH
 rw [Fc,Ab hj,Mb,Rc]
 rfl
theorem CF {n k:Nat} (h1:1<=n) (h2:n<=20) {p:List Int} {s:Cc×Cc} (YL:k<n) (hv:V n (n-k) k s) (hp:Pm n p) (hf:Fx k p):
  Part n k (s.1.set k (s.1.getD k []++ [some p]),s.2)/\ ∀q∈(known (s.2.getD k [])).map (λu=>Ai u p),Pm n q/\Fx k q/\Gn n ((s.1.set k (s.1.getD k []++ [some p])).getD k []) q:=by
 obtain ⟨v1,v2,hc,xg⟩:=hv
 obtain ⟨m,hm⟩: ∃m,n-k=m+1:=⟨n-k-1,by omega⟩
 have EH:n-(k+1)=m:=by omega
 rw [hm] at hc xg
 obtain ⟨c1,c2,c3⟩:=hc
 generalize nv:s.1.getD k []++ [some p]=gs
 have Zx:some p∈gs:=by rw [<-nv];simp
 have Qa: ∀o∈s.1.getD k [],o∈gs:= λo ho=>by rw [<-nv];exact Bi _ ho
 have hg:PG n k gs:= λo ho=>by
  rw [<-nv] at ho
  rcases Ax.1 ho with ho|ho
  ·exact c2.pg o ho
  ·rw [Ad] at ho;exact ⟨p,ho,hp,hf⟩
 have uu: ∀i,(s.1.set k gs).getD i []=if i=k then gs else s.1.getD i []:= λi=>by
  rw [Li]
  by_cases e:k=i
  ·subst e;rw [Ac ⟨rfl,by omega⟩,Ac rfl]
  ·rw [Ak (λhh=>e hh.1),Ak (Gb e)]
 have xl: ∀i,k+1<=i->(s.1.set k gs).getD i []=s.1.getD i []/\s.2.getD i []=s.2.getD i []:= λi hi=>⟨by rw [uu i,Ak (by omega)],rfl⟩
 refine ⟨⟨by simpa using v1,v2,?_,?_,?_,?_,λg Sm=>?_⟩,λq hq=>?_⟩
 ·show PG n k ((s.1.set k gs).getD k []);rw [uu k,Ac rfl];exact hg
 ·show Va n k ((s.1.set k gs).getD k []) _
  rw [uu k,Ac rfl]
  exact ⟨c2.rl,c2.r0,λy t e=>⟨(c2.rt y t e).1,(c2.rt y t e).2.1,(c2.rt y t e).2.2.1,(c2.rt y t e).2.2.2.mono λg hg=>Qa _ hg⟩⟩
 ·rw [EH];exact Us m (k+1) xl c1
 ·rw [EH];exact bL m (k+1) xl xg.1
 ·have Sm:some g∈(s.1.set k gs).getD (k+1) []:=Sm
  rw [(xl (k+1) (Ap _)).1] at Sm
  show Gn n ((s.1.set k gs).getD k []) g
  rw [uu k,Ac rfl]
  exact (c3 g Sm).mono λg hg=>Qa _ hg
 ·rw [uu k,Ac rfl]
  obtain ⟨u,hu,rfl⟩:=Ay.1 hq
  obtain ⟨y,hy⟩:=kb.1 hu
  obtain ⟨t1,t2,t3,t4⟩:=c2.rt _ _ hy
  exact ⟨t1.comp hp,Fx.comp t1 hp t2 hf (by omega), .mul (t4.mono λg hg=>Qa _ hg) Zx⟩
theorem WV {n k:Nat} (h1:1<=n) (h2:n<=20) {p:List Int} {s:Cc×Cc} (YL:k<n) (hv:V n (n-k) k s) (hp:Pm n p) (hf:Fx k p) (hh: ¬Ix s.2 (n-k) k p=true):
  kC n 1000 k p s=iH n k ((known (s.2.getD k [])).map λu=>Ai u p) (s.1.set k (s.1.getD k []++ [some p]),s.2):=by
 obtain ⟨a1,a2⟩:=CF h1 h2 YL hv hp hf
 rw [<-(sU h1 h2 YL a1 a2).2]
 exact (OZ (f:=999)).trans (Ak hh)
theorem OY {n k:Nat} {p:List Int} {s:Cc×Cc} (hh:Ix s.2 (n-k) k p=true):kC n 1000 k p s=s:=by
 exact (OZ (f:=999)).trans (Ac hh)
theorem WX {n k:Nat} (h1:1<=n) (h2:n<=20) {q t:List Int} {s:Cc×Cc} (hk:k<n) (cn:Part n k s) (hq:Pm n q) (hf:Fx k q) (Kf:(s.2.getD k []).getD (ap q k) none=some t):
  fZ n 1000 k q s=kC n 1000 (k+1) (Ai q (Bg t)) s:=by
 obtain ⟨t1,t2,t3,t4⟩:=cn.row.rt _ _ Kf
 rw [((PB h1 h2 999).1 (k+1) _ s (by omega) cn.v (hq.comp t1.inv) (Fx.div hq t1 hf t2 hk t3) (ZW h2 (by omega))).2 1000 (by omega)]
 refine (PA (f:=999)).trans ?_
 rw [Kf]
theorem CG {n k:Nat} {q:List Int} {s:Cc×Cc} (hk:k<n) (cn:Part n k s) (hq:Pm n q) (hf:Fx k q) (JD:Gn n (s.1.getD k []) q) (Kf:(s.2.getD k []).getD (ap q k) none=none):
  Part n k (s.1,s.2.set k ((s.2.getD k []).set (ap q k) (some q)))/\ ∀x∈(s.1.getD k []).map (λo=>Ai q (o.getD [])),Pm n x/\Fx k x/\Gn n (s.1.getD k []) x:=by
 have JF:=cn.row.rl
 have hy:ap q k<n:=hq.lt hk
 have hyk:ap q k≠k:= λh=>by rw [h,cn.row.r0] at Kf;cases Kf
 have CA:=cn.l2
 generalize qo:(s.2.getD k []).set (ap q k) (some q)=Xo
 have dG: ∀y,Xo.getD y none=if ap q k=y then some q else (s.2.getD k []).getD y none:= λy=>by
  rw [<-qo,Li]
  by_cases h:ap q k=y
  ·rw [Ac ⟨h,by omega⟩,Ac h]
  ·rw [Ak λhh=>h hh.1,Ak h]
 have s12: ∀i,(s.2.set k Xo).getD i []=if i=k then Xo else s.2.getD i []:= λi=>by
  rw [Li]
  by_cases e:k=i
  ·subst e;rw [Ac ⟨rfl,by omega⟩,Ac rfl]
  ·rw [Ak (λhh=>e hh.1),Ak (Gb e)]
 have xl: ∀i,k+1<=i->s.1.getD i []=s.1.getD i []/\(s.2.set k Xo).getD i []=s.2.getD i []:= λi hi=>⟨rfl,by rw [s12 i,Ak (by omega)]⟩
 have YH:((s.1,s.2.set k Xo):Cc×Cc).2.getD k []=Xo:=by show (s.2.set k Xo).getD k []=Xo;rw [s12 k,Ac rfl]
 refine ⟨⟨cn.l1,by simpa using CA,cn.pg,?_,Us _ (k+1) xl cn.comp,bL _ (k+1) xl cn.gb,cn.sub⟩,λx hx=>?_⟩
 ·rw [YH]
  refine ⟨by rw [<-qo,Cf];exact JF,by rw [dG k,Ak hyk];exact cn.row.r0,λy t e=>?_⟩
  rw [dG y] at e
  split at e
  ·rename_i h
   cases e
   exact ⟨hq,hf,h,JD⟩
  ·exact cn.row.rt y t e
 ·obtain ⟨o,ho,rfl⟩:=Ay.1 hx
  obtain ⟨g,rfl,g1,g2⟩:=cn.pg o ho
  exact ⟨hq.comp g1,Fx.comp hq g1 hf g2 (by omega), .mul JD ho⟩
theorem WW {n k:Nat} (h1:1<=n) (h2:n<=20) {q:List Int} {s:Cc×Cc} (hk:k<n) (cn:Part n k s) (hq:Pm n q) (hf:Fx k q) (JD:Gn n (s.1.getD k []) q) (Kf:(s.2.getD k []).getD (ap q k) none=none):
  fZ n 1000 k q s=iH n k ((s.1.getD k []).map λo=>Ai q (o.getD [])) (s.1,s.2.set k ((s.2.getD k []).set (ap q k) (some q))):=by
 obtain ⟨a1,a2⟩:=CG hk cn hq hf JD Kf
 rw [<-(sU h1 h2 hk a1 a2).2]
 refine (PA (f:=999)).trans ?_
 rw [Kf]
def Px (n:Nat) (gens:List PO):Cc×Cc:=gens.foldl (λs o=>kC n 1000 0 (o.getD []) s) (Tn n,Zd n)
theorem yx {n:Nat} {gens:List PO} {j:Nat} (hj:j<gens.length):Px n (gens.take (j+1))=kC n 1000 0 (gens[j].getD []) (Px n (gens.take j)):=by
 unfold Px
 rw [Fc,Ab hj,Mb,Rc]
 rfl
theorem lL {n:Nat} (h1:1<=n) (h2:n<=20): ∀(gens:List PO) (s:Cc×Cc),PmL n gens->V n n 0 s->V n n 0 (gens.foldl (λs o=>kC n 1000 0 (o.getD []) s) s)/\
  Wa 0 s (gens.foldl (λs o=>kC n 1000 0 (o.getD []) s) s)/\(∀g,some g∈gens->Gn n ((gens.foldl (λs o=>kC n 1000 0 (o.getD []) s) s).1.getD 0 []) g)/\ ∀o∈(gens.foldl (λs o=>kC n 1000 0 (o.getD []) s) s).1.getD 0 [],o∈s.1.getD 0 []\/o∈gens
 | [],s,_,hv=>⟨hv,Wa.refl _ _,(λ_ hg=>by cases hg),λ_ ho=> .inl ho⟩
 |o::gens,s,hg,hv=>by
  obtain ⟨g,rfl,Tt⟩:=hg o (by simp)
  have ha:=Agw h1 h2 (k:=0) (Ja _) (by rw [Nat.sub_zero];exact hv) Tt (λi hi=>absurd hi (Ec _))
  have PZ:=ha.v
  rw [Nat.sub_zero] at PZ
  obtain ⟨a1,a2,a3,a4⟩:=lL h1 h2 gens (kC n 1000 0 g s) (λo ho=>hg o (by simp [ho])) PZ
  refine ⟨a1,ha.grow.trans a2 (Ap _),λg' Sm=>?_,λo ho=>?_⟩
  ·rcases Bc.1 Sm with e|Sm
   ·cases e;exact ha.Ail.mono λg hg=>a2.xb _ _ hg
   ·exact a3 g' Sm
  ·rcases a4 o ho with h|h
   ·rcases ha.gens o h with h|h
    ·exact .inl h
    ·exact .inr (by simp [h])
   ·exact .inr (by simp [h])
theorem oL {n:Nat} (h1:1<=n) (h2:n<=20) {gens:List PO} (hg:PmL n gens):V n n 0 (Px n gens):=(lL h1 h2 gens _ hg (si h1 h2)).1
theorem qi {n:Nat} (h1:1<=n) (h2:n<=20) {gens:List PO} (hg:PmL n gens) {p:List Int} (hp:Pm n p):Ix (Px n gens).2 n 0 p=true↔Gn n gens p:=by
 obtain ⟨a1,a2,a3,a4⟩:=lL h1 h2 gens _ hg (si h1 h2)
 have hS:BX n λg=>some g∈gens:=⟨⟨h1,h2⟩,λg Sm=>by obtain ⟨g',e,h⟩:=hg _ Sm;cases e;exact h⟩
 have Qa: ∀g,some g∈(Px n gens).1.getD 0 []->some g∈gens:= λg Sm=>by
  rcases a4 _ Sm with h|h
  ·have h:some g∈(Tn n).getD 0 []:=h
   rw [Zc] at h;cases h
  ·exact h
 have hS':BX n λg=>some g∈(Px n gens).1.getD 0 []:=⟨⟨h1,h2⟩,λg Sm=>hS.2 g (Qa g Sm)⟩
 refine (Uh h1 h2 n 0 (Px n gens) (by omega) a1.2.2.1 p hp λi hi=>absurd hi (Ec _)).trans ⟨λh=>h.mono Qa,λh=>h.trans hS' λg Sm=>a3 g Sm⟩
def Tm (T:Cc):Nat->Nat->List Int->List Int×Int×Unit
 |0,l,p=>(p,(l:Int),())
 |k+1,l,p=>match (T.getD l []).getD (Gw p (l:Int)).toNat none with
  |none=>(p,(l:Int),())
  |some t=>Tm T k (l+1) (Ai p (Bg t))
theorem HH {T:Cc} : ∀(k l:Nat) (p:List Int),(Tm T k l p).2.1=((l+k:Nat):Int)↔Ix T k l p=true
 |0,l,p=>by simp [Tm,Ix]
 |k+1,l,p=>by
  unfold Tm Ix
  cases (T.getD l []).getD (Gw p (l:Int)).toNat none with
  |none=>
   constructor
   ·intro h
    have h:(l:Int)=((l+(k+1):Nat):Int):=h
    omega
   ·intro h;cases h
  |some t=>
   have h:=HH (T:=T) k (l+1) (Ai p (Bg t))
   rw [show l+1+k=l+(k+1) by omega] at h
   exact h
theorem LO {row:Row} {y:Nat} (h:y<row.length):known (row.take (y+1))=known (row.take y)++(row[y]).toList:=by
 unfold known
 rw [Ch h,List.filterMap_append]
 cases row[y]<;>rfl
theorem xw (row:Row):(known row).length<=row.length:=List.length_filterMap_le _ _
theorem xa {n k:Nat} (h1:1<=n) (h2:n<=20) (hk:k<n) {qs:List (List Int)} {s:Cc×Cc} (hp:Part n k s) (hq: ∀q∈qs,Pm n q/\Fx k q/\Gn n (s.1.getD k []) q) (j:Nat):cr n k s (iH n k (qs.take j) s):=
 (sU h1 h2 hk hp λq h=>hq q (Et h)).1
theorem LZ {n k:Nat} {s:Cc×Cc} (hp:Part n k s):mF n k s<QV n k:=by
 have h:=j5 (s.2.getD k [])
 have hr:=hp.row.rl
 unfold mF QV
 omega
theorem ZX {n k:Nat} {s:Cc×Cc} (hk:k<n):QV n (k+1)<mF n k s:=by
 obtain ⟨m,hm⟩: ∃m,n-k=m+1:=⟨n-k-1,by omega⟩
 have EH:n-(k+1)=m:=by omega
 unfold QV mF
 rw [hm,EH,Nat.succ_mul]
 omega
theorem Ae0 {n k y:Nat} {s:Cc×Cc} {q:List Int} (hk:k<s.2.length) (hy:y<(s.2.getD k []).length) (h:(s.2.getD k []).getD y none=none):
  mF n k (s.1,s.2.set k ((s.2.getD k []).set y (some q)))+1=mF n k s:=by
 have h1:=pj (t:=q) h hy
 have h2:(s.2.set k ((s.2.getD k []).set y (some q))).getD k []=(s.2.getD k []).set y (some q):=by
  rw [Li,Ac ⟨rfl,hk⟩]
 unfold mF
 show _+Me ((s.2.set k ((s.2.getD k []).set y (some q))).getD k [])+1=_
 rw [h2]
 omega
def bE (n:Int) (g:List (List Int)):Cc×Cc:=Px n.toNat (g.map some)
def yo (p:PP) (gs:List (List Int)):Prop:=gs.length<=5/\ ∀g∈gs,El p g=true
theorem yo.take {p:PP} {gs:List (List Int)} (h:yo p gs) (j:Nat):yo p (gs.take j):=⟨by rw [Db];have:=h.1;omega,λg hg=>h.2 g (Et hg)⟩
abbrev BB:Type:=List TT×List (ByteArray->Option Int)×Unit
def VK:List (List Int)->List Int->(ByteArray->Option Int)->ByteArray->Option Int
 |x::xs,d::ds,m=>VK xs ds (aj m (Oa x) d)
 |_,_,m=>m
def Wp (t:TT):ByteArray->Option Int:=VK t.2.1 t.2.2.1 λ_=>none
def iY (ts:List TT):BB:=(ts,ts.map Wp,())
structure RN (t:TT):Prop where
 oV:t.2.1.length<=3000
 len:t.2.2.1.length=t.2.1.length
 nodup:t.2.1.Nodup
 byte: ∀x∈t.2.1,Wb x
 Aq4: ∀d∈t.2.2.1,0<=d/\d<=3000
 tl:t.1.length<=20
 pl: ∀x∈t.2.1,x.length<=20
def oI (ts:List TT):Prop:=ts.length<=4/\ ∀t∈ts,RN t
def Zo (t:TT) (s:List Int):Int:=t.2.2.1.getD (t.2.1.idxOf (Ef s t.1)) 0
def dt (ts:List TT) (s:List Int):List Int:=ts.map λt=>Zo t s
def Sb (ts:List TT) (s:List Int):Int:=(dt ts s).foldl max 0
def yt (ts:List TT) (s:List Int):Prop:=s.length<=20/\ ∀t∈ts,Ny s.length t.1/\Ef s t.1∈t.2.1
noncomputable abbrev Ob:Spec:=Ib (.pair tTS .unit) (.optr oq) false false (λx=>oI x.1) (λx=>some (iY x.1))
def Acp (b:Option BB) (s:List Int):Prop:= ∃ts,oI ts/\b=some (iY ts)/\yt ts s
def ZS (b:Option BB) (s:List Int):List Int:=match b with|some b=>dt b.1 s|none=> []
def LV (b:Option BB) (s:List Int):Int:=match b with|some b=>Sb b.1 s|none=>0
noncomputable abbrev xV:Spec:=Ib (.pair (.optr oq) (.pair tL .unit)) tL false true (λx=>Acp x.1 x.2.1) (λx=>ZS x.1 x.2.1)
noncomputable abbrev aW:Spec:=Ib (.pair (.optr oq) (.pair tL .unit)) tI false true (λx=>Acp x.1 x.2.1) (λx=>LV x.1 x.2.1)
noncomputable def jZ (p:PP) (ts:List TT):Int:=if (Gz p&&Gr p ts)=true then (((List.range (Be p).length).countP λi=>decide (Sb ts ((Be p).getD i [])=(Fv p).getD i 0):Nat):Int) else-1
noncomputable abbrev aV:Spec:=Ib (.pair Ma (.pair tTS .unit)) tI false true (λx=>Hv x.1/\Wx x.2.1) (λx=>jZ x.1 x.2.1)
abbrev og:Type:=Int×List Int×List (List Int)×List Int×List (List Int×List (List Int)×List Int×PUnit)×(ByteArray->Option Int)×List (ByteArray->Option Int)×PUnit
abbrev om:Type:=Int×List (List Int×List (List Int)×List Int×PUnit)×List (ByteArray->Option Int)×PUnit
theorem IP (ts:List (List Int×List (List Int)×List Int×Unit)) (P:Option (List (List Int×List (List Int)×List Int×Unit)×List (ByteArray->Option Int)×Unit)->Prop):(0=0/\0=([]:List Int).length/\Dh (λ(v2:om) (k3:om->Prop)=>Br (decide (v2.1<(↑ts.length:Int))) (∃(y4:List Int×List (List Int)×List Int×PUnit),idx ts v2.1=some y4/\0=0/\v2.2.2.1.length=v2.2.2.1.length/\Dh (λ(v5:og) (k6:og->Prop)=>Br (decide (v5.1<(↑y4.2.1.length:Int))) (∃(y7:List Int),idx y4.2.1 v5.1=some y7/\ ∃(y8:ByteArray),Fh.fn (y7,())=some y8/\ ∃(y9:Int),idx v5.2.2.2.1 v5.1=some y9/\0=0/\v5.2.2.2.2.2.2.1.length=v5.2.2.2.2.2.2.1.length/\k6 (IntKind.i64.wrap (v5.1+(1:Int)),v5.2.1,v5.2.2.1,v5.2.2.2.1,v5.2.2.2.2.1,aj v5.2.2.2.2.2.1 y8 y9,v5.2.2.2.2.2.2.1,())) (0=0/\v5.2.2.2.2.2.2.1.length=v5.2.2.2.2.2.2.1.length/\v5.2.2.2.2.2.2.1.length+(List.take 1 (List.drop 0 [v5.2.2.2.2.2.1])).length<=Ct/\0=0/\(v5.2.2.2.2.2.2.1++List.take 1 (List.drop 0 [v5.2.2.2.2.2.1])).length=(v5.2.2.2.2.2.2.1++List.take 1 (List.drop 0 [v5.2.2.2.2.2.1])).length/\k3 (IntKind.i64.wrap (v2.1+(1:Int)),v5.2.2.2.2.1,v5.2.2.2.2.2.2.1++List.take 1 (List.drop 0 [v5.2.2.2.2.2.1]),()))) ((0:Int),y4.1,y4.2.1,y4.2.2.1,v2.2.1,λ(_:ByteArray)=>none,v2.2.2.1,PUnit.unit)) (P (some (v2.2.1,List.take v2.2.2.1.length (List.drop 0 v2.2.2.1),())))) ((0:Int),ts,[],PUnit.unit))=fnW (BD [Od+101101]) (look [(107,Fh)]) Ob Try.f130 (ts,()) P:=by kernel_rfl
abbrev Ab2:Type:=List (List Int×List (List Int)×List Int×PUnit)×List (ByteArray->Option Int)×PUnit
theorem Ao6 (b:Option (List (List Int×List (List Int)×List Int×Unit)×List (ByteArray->Option Int)×Unit)) (s:List Int) (P:List Int->Prop):(∃(y3:Ab2),b=some y3/\0=0/\0=([]:List Int).length/\Dh (λ(v4:Int×List Int×PUnit) (k5:Int×List Int×PUnit->Prop)=>Br (decide (v4.1<(↑y3.1.length:Int))) (∃(y6:List Int×List (List Int)×List Int×PUnit),idx y3.1 v4.1=some y6/\ ∃(y7:Ab2),b=some y7/\ ∃(y8:ByteArray->Option Int),idx y7.2.1 v4.1=some y8/\ ∃(y9:List Int),bp.fn (s,y6.1,())=some y9/\ ∃(Kq:ByteArray),Fh.fn (y9,())=some Kq/\0=0/\v4.2.1.length=v4.2.1.length/\v4.2.1.length+(List.take 1 (List.drop 0 [(y8 Kq).getD (Int.ofNat (nat_lit 0))])).length<=Ct/\0=0/\(v4.2.1++List.take 1 (List.drop 0 [(y8 Kq).getD (Int.ofNat (nat_lit 0))])).length=(v4.2.1++List.take 1 (List.drop 0 [(y8 Kq).getD (Int.ofNat (nat_lit 0))])).length/\k5 (IntKind.i64.wrap (v4.1+(1:Int)),v4.2.1++List.take 1 (List.drop 0 [(y8 Kq).getD (Int.ofNat (nat_lit 0))]),())) (P (List.take v4.2.1.length (List.drop 0 v4.2.1)))) ((0:Int),[],PUnit.unit))=fnW Hf (look [(107,Fh),(106,bp)]) xV Try.f182 (b,s,()) P:=by kernel_rfl
theorem Aey (b:Option (List (List Int×List (List Int)×List Int×Unit)×List (ByteArray->Option Int)×Unit)) (s:List Int) (P:Int->Prop):(∃(y3:List Int),xV.fn (b,s,())=some y3/\Dh (λ(v4:Int×Int×PUnit) (k5:Int×Int×PUnit->Prop)=>Br (decide (v4.2.1<(↑y3.length:Int))) (∃(y6:Int),idx y3 v4.2.1=some y6/\k5 (if true=true then if y6>v4.1 then y6 else v4.1 else if y6<v4.1 then y6 else v4.1,IntKind.i64.wrap (v4.2.1+(1:Int)),())) (P v4.1)) ((0:Int),(0:Int),PUnit.unit))=fnW Hf (look [(182,xV)]) aW Try.f131 (b,s,()) P:=by kernel_rfl
abbrev od:Type:=(Int×ByteArray×List (List Int)×PUnit)×List (List Int)×List Int×(ByteArray->Option Int)×List Int×List Int×List (List Int)×PUnit
theorem IL (p:Int×ByteArray×List (List Int)×Unit) (ts:List (List Int×List (List Int)×List Int×Unit)) (P:Int->Prop):(∃(y3:Option ((Int×ByteArray×List (List Int)×PUnit)×List (List Int)×List Int×(ByteArray->Option Int)×List Int×List Int×List (List Int)×PUnit)×Bool×PUnit),Mk.fn ((p.1,p.2.1,p.2.2.1,()),())=some y3/\Br (!y3.2.1) (P (-1:Int)) (∃(y4:Bool),Qh.fn ((p.1,p.2.1,p.2.2.1,()),ts,())=some y4/\Br (!y4) (P (-1:Int)) (∃(y5:Option (List (List Int×List (List Int)×List Int×PUnit)×List (ByteArray->Option Int)×PUnit)),Ob.fn (ts,())=some y5/\ ∃(y6:od),y3.1=some y6/\Dh (λ(v7:Int×Int×PUnit) (k8:Int×Int×PUnit->Prop)=>Br (decide (v7.2.1<(↑y6.2.1.length:Int))) (∃(y9:List Int),idx y6.2.1 v7.2.1=some y9/\ ∃(Kq:Int),aW.fn (y5,y9,())=some Kq/\ ∃(Jq:od),y3.1=some Jq/\ ∃(He:Int),idx Jq.2.2.1 v7.2.1=some He/\Br (Kq==He) (k8 (IntKind.i64.wrap (v7.1+(1:Int)),IntKind.i64.wrap (v7.2.1+(1:Int)),())) (k8 (v7.1,IntKind.i64.wrap (v7.2.1+(1:Int)),()))) (P v7.1)) ((0:Int),(0:Int),PUnit.unit))))=fnW Hf (look [(88,Mk),(129,Qh),(130,Ob),(131,aW)]) aV Try.f57 (p,ts,()) P:=by kernel_rfl
theorem RN.short {t:TT} (h:RN t):aw t:=by
 have h1:=h.oV;have h2:=h.len;have h3:=h.tl
 exact ⟨by unfold _root_.Go.Proofs.Ytkkdpknjohcekaa.short;omega,⟨by omega,λr hr=>by have:=h.pl r hr;unfold _root_.Go.Proofs.Ytkkdpknjohcekaa.short;omega⟩,by unfold _root_.Go.Proofs.Ytkkdpknjohcekaa.short;omega⟩
theorem kz {p:PP} {t:TT} (h:Gf p t=true):RN t/\El p t.1=true/\(Fu p.2.2.1 t.1).2.2=true/\t.2.1=fo p t.1/\t.2.2.1=zv p t.1:=by
 obtain ⟨h1,h2⟩:=Ce.1 h
 obtain ⟨h3,h4⟩:=eo.1 h1
 have h5:=TI.1 h2
 unfold Em at h5
 rw [Ac h1] at h5
 have e1:t.2.1=fo p t.1:=(Gc (λz:TT=>z.2.1) h5).symm
 have e2:t.2.2.1=zv p t.1:=(Gc (λz:TT=>z.2.2.1) h5).symm
 have hv:=(Pw.1 h3).1
 have hn:=(valid hv).n
 have ee:=pw h3
 have nt:=ee.ok.oV
 have hlen:=ee.len
 have JH:=ee.ok.short
 refine ⟨⟨by rw [e1];exact nt,by rw [e1,e2];exact hlen,by rw [e1];exact ee.ok.nodup,λx hx=>?_,λd hd=>?_,(Iz h3).1,λx hx=>?_⟩,h3,h4,e1,e2⟩
 ·rw [e1] at hx
  intro y hy
  have:=ee.row x hx y hy
  omega
 ·rw [e2] at hd
  obtain ⟨j,hj,rfl⟩:=Bf.1 hd
  have h6:=ee.dep j hj
  have KS:j<(Fu p.2.2.1 t.1).2.1.length:=hj
  exact ⟨h6.1,by have:=h6.2;show (Fu p.2.2.1 t.1).2.1[j]<=3000;omega⟩
 ·rw [e1] at hx
  have:=ee.ok.len x hx
  omega
theorem Vq {p:PP} {ts:List TT} (h:Gr p ts=true):Cy p=true/\oI ts/\ ∀t∈ts,Gf p t=true:=by
 unfold Gr at h
 rw [Af,Af,Ba,Mc] at h
 exact ⟨h.1.1,⟨h.1.2,λt ht=>(kz (h.2 t ht)).1⟩,h.2⟩
theorem HZ: ∀(xs:List (List Int)) (ds:List Int) (m:ByteArray->Option Int) (x:List Int),xs.length=ds.length->xs.Nodup->(∀y∈xs,Wb y)->Wb x->VK xs ds m (Oa x)=if x∈xs then some (ds.getD (xs.idxOf x) 0) else m (Oa x)
 | [],ds,m,x,_,_,_,_=>by cases ds<;>simp [VK]
 |y::xs,[],m,x,hl,_,_,_=>by simp at hl
 |y::xs,d::ds,m,x,hl,hn,hb,hx=>by
  obtain ⟨hy,hn⟩:=Bx.1 hn
  simp only [VK]
  rw [HZ xs ds _ x (by simpa using hl) hn (λz hz=>hb z (Aq _ hz)) hx]
  by_cases hm:x∈xs
  ·have Iv:y≠x:= λe=>hy (e▸hm)
   have hi:(y::xs).idxOf x=xs.idxOf x+1:=by rw [List.idxOf_cons,show (y==x)=false by simpa using Iv];rfl
   rw [Ac hm,Ac (Aq _ hm),hi]
   rfl
  ·rw [Ak hm]
   unfold aj
   by_cases e:Oa x=Oa y
   ·have:=key_inj hx (hb y (by simp)) e
    subst this
    rw [Ac e,Ac (by simp),List.idxOf_cons_self]
    rfl
   ·have Iv:x≠y:= λh=>e (by rw [h])
    rw [Ak e,Ak (by simp [Iv,hm])]
theorem Abk {t:TT} (h:RN t) {x:List Int} (hx:x∈t.2.1):Wp t (Oa x)=some (t.2.2.1.getD (t.2.1.idxOf x) 0):=by
 unfold Wp
 rw [HZ _ _ _ _ h.len.symm h.nodup h.byte (h.byte x hx),Ac hx]
theorem GN (ts:List TT) (h:oI ts):fnW (BD [Od+101101]) (look [(107,Fh)]) Ob Try.f130 (ts,()) (λ(z:Option BB)=>z=some (iY ts)):=by
 obtain ⟨h4,hd⟩:=h
 refine Eq.mp (IP ts _) ⟨rfl,rfl,?_⟩
 refine Bs ts.length (λv=>v.1) (λi v=>v=((i:Int),ts,(ts.take i).map Wp,())) rfl rfl ?_
 rintro i v K hi hii rfl hK
 dsimp only
 refine Br.dec (λhl=>?_) λhl=>?_
 ·have hl:i<ts.length:=by omega
  have hdb:=hd _ (Al hl)
  have nt:=hdb.oV
  have hlen:=hdb.len
  have Ai9:=hdb.short
  refine ⟨_,Ck hl,rfl,rfl,?_⟩
  refine Bs (ts[i]).2.1.length (λv=>v.1) (λj v=> ∃m,v=((j:Int),(ts[i]).1,(ts[i]).2.1,(ts[i]).2.2.1,ts,m,(ts.take i).map Wp,())/\VK ((ts[i]).2.1.drop j) ((ts[i]).2.2.1.drop j) m=Wp ts[i]) rfl ⟨_,rfl,by rw [Dj,Dj];rfl⟩ ?_
  rintro j v K1 hj hjj ⟨m,rfl,hm⟩ hK1
  dsimp only
  refine Br.dec (λs8=>?_) λs8=>?_
  ·have s8:j<(ts[i]).2.1.length:=by omega
   have CA:j<(ts[i]).2.2.1.length:=by omega
   rw [Ez s8,Ez CA] at hm
   refine ⟨_,Ck s8,_,Ac (Ai9.2.1.2 _ (Al s8)),_,Ck CA,rfl,rfl,?_⟩
   rw [Bk (by omega)]
   exact hK1 s8 _ rfl ⟨_,rfl,hm⟩
  ·have:j=(ts[i]).2.1.length:=by omega
   subst this
   rw [Pj] at hm
   have hm:m=Wp ts[i]:=by
    rw [<-hm]
    cases List.drop (ts[i]).2.1.length (ts[i]).2.2.1<;>rfl
   subst hm
   refine ⟨rfl,rfl,by show ((ts.take i).map Wp).length+1<=4294967296;rw [Bt,Db];omega,rfl,rfl,?_⟩
   rw [Bk (by omega)]
   have hmm:(ts.take (i+1)).map Wp=(ts.take i).map Wp++ [Wp ts[i]]:=by
    rw [Fc,Ab hl,Mb,Il]
    rfl
   refine hK hl _ rfl ?_
   rw [hmm]
   rfl
 ·have:i=ts.length:=by omega
  subst this
  rw [Cq,Aw]
  rfl
theorem gE:Sound Try.prog 130 Ob:=
 Sound.Ib (BE [Od+101101]) (Bd Xc Bw) mixed Try.func130 (by kernel_rfl) (by kernel_rfl) λx h=>GN x.1 h
theorem CY (ts:List TT) (s:List Int):(dt ts s).length=ts.length:=by unfold dt;rw [Bt]
theorem JS {t:TT} (h:RN t) {s:List Int} (hs:Ef s t.1∈t.2.1):0<=Zo t s/\Zo t s<=3000:=by
 have hi:=List.idxOf_lt_length_of_mem hs
 have hl:=h.len
 unfold Zo
 rw [Na (by omega)]
 exact h.Aq4 _ (Al _)
theorem RU {ts:List TT} (h:oI ts) {s:List Int} (hs:yt ts s): ∀d∈dt ts s,0<=d/\d<=3000:= λd hd=>by
 obtain ⟨t,ht,rfl⟩:=Ay.1 hd
 exact JS (h.2 t ht) (hs.2 t ht).2
theorem RV {ts:List TT} {s:List Int} {i:Nat} (hl:i<ts.length):(dt (ts.take (i+1)) s)=dt (ts.take i) s++ [Zo ts[i] s]:=by
 unfold dt
 rw [Fc,Ab hl,Mb,Il]
 rfl
theorem Anh (b:Option BB) (s:List Int) (h:Acp b s):fnW Hf (look [(107,Fh),(106,bp)]) xV Try.f182 (b,s,()) (λ(z:List Int)=>z=ZS b s):=by
 obtain ⟨ts,⟨h4,hd⟩,rfl,hs⟩:=h
 refine Eq.mp (Ao6 _ s _) ⟨iY ts,rfl,rfl,rfl,?_⟩
 show Dh _ _
 refine Bs ts.length (λv=>v.1) (λi v=>v=((i:Int),dt (ts.take i) s,())) rfl rfl ?_
 rintro i v K hi hii rfl hK
 dsimp only
 refine Br.dec (λhl=>?_) λhl=>?_
 ·have hl:i<ts.length:=by have hl:(i:Int)<(ts.length:Int):=hl;omega
  have hdb:=hd _ (Al hl)
  obtain ⟨iP,rq⟩:=hs.2 _ (Al hl)
  have htl:=hdb.tl
  have kF:=hdb.pl _ rq
  refine ⟨ts[i],Ck hl,iY ts,rfl,Wp ts[i],?_,_,Ac ⟨by show (ts[i]).1.length<=4294967296;omega,iP⟩,_,Ac (by show (Ef s (ts[i]).1).length<=4294967296;omega),rfl,rfl,?_,rfl,rfl,?_⟩
  ·show idx (ts.map Wp) (i:Int)=_
   rw [Ck (by rw [Bt];exact hl),Mn]
  ·show (dt (ts.take i) s).length+1<=4294967296
   rw [CY,Db];omega
  ·rw [Bk (by omega)]
   refine hK hl _ rfl ?_
   rw [RV hl,show Wp ts[i] (Oa (Ef s (ts[i]).1))=some (Zo ts[i] s) from Abk hdb rq]
   rfl
 ·have:i=ts.length:=by have hl: ¬(i:Int)<(ts.length:Int):=hl;omega
  subst this
  rw [Cq,Aw]
  rfl
theorem UR:Sound Try.prog 182 xV:=
 Sound.Ib Ew (Bd Xc (Bd wx Bw)) mixed Try.func182 (by kernel_rfl) (by kernel_rfl) λx h=>Anh x.1 x.2.1 h
theorem Aiu (a b:Int):(if true=true then if b>a then b else a else if b<a then b else a)=max a b:=by
 rw [Ac rfl]
 by_cases h:b>a
 ·rw [Ac h,Int.max_eq_right (by omega)]
 ·rw [Ak h,Int.max_eq_left (by omega)]
theorem XR {xs:List Int} {m:Int} (h: ∀x∈xs,0<=x/\x<=m) (hm:0<=m):0<=xs.foldl max 0/\xs.foldl max 0<=m:=by
 rcases dj xs 0 with h1|h1
 ·rw [h1];exact ⟨Qj _,hm⟩
 ·exact h _ h1
theorem QQ {ts:List TT} (h:oI ts) {s:List Int} (hs:yt ts s):0<=Sb ts s/\Sb ts s<=3000:=XR (RU h hs) (by omega)
theorem Ae9 (b:Option BB) (s:List Int) (h:Acp b s):fnW Hf (look [(182,xV)]) aW Try.f131 (b,s,()) (λ(z:Int)=>z=LV b s):=by
 obtain ⟨ts,ht,hb,hs⟩:=id h
 have hl4:=ht.1
 have hlen:=CY ts s
 obtain ⟨xs,hxs⟩: ∃xs,ZS b s=xs:=⟨_,rfl⟩
 have hxe:LV b s=xs.foldl max 0:=by rw [<-hxs,hb];rfl
 have hxl:xs.length=ts.length:=by rw [<-hxs,hb];exact hlen
 refine Eq.mp (Aey b s _) ⟨xs,(Ac h).trans (Gc some hxs),?_⟩
 rw [hxe]
 refine Bs xs.length (λv=>v.2.1) (λi v=>v=((xs.take i).foldl max 0,(i:Int),())) rfl rfl ?_
 rintro i v K hi hii rfl hK
 dsimp only
 refine Br.dec (λhl=>?_) λhl=>?_
 ·have hl:i<xs.length:=by omega
  refine ⟨_,Ck hl,?_⟩
  rw [Bk (by omega)]
  refine hK hl _ rfl ?_
  rw [Fc,Ab hl,Mb,Rc,Aiu]
  rfl
 ·have:i=xs.length:=by omega
  subst this
  rw [Aw]
theorem qQ:Sound Try.prog 131 aW:=
 Sound.Ib Ew (Bd UR Bw) mixed Try.func131 (by kernel_rfl) (by kernel_rfl) λx h=>Ae9 x.1 x.2.1 h
theorem cZ {p:PP} {ts:List TT} (hw:Gz p=true) (ht:Gr p ts=true) {s:List Int} (hs:s∈Be p):yt ts s:=by
 obtain ⟨hv,_,Kl⟩:=Vq ht
 refine ⟨Aja (yf hv hs),λt p8=>?_⟩
 obtain ⟨_,h3,_,e1,_⟩:=kz (Kl t p8)
 exact ⟨nS hv hs h3,by rw [e1];exact MT hw h3 s hs⟩
theorem count_range {q:Nat->Bool} (j:Nat):(List.range (j+1)).countP q=(List.range j).countP q+if q j=true then 1 else 0:=by
 rw [bb,List.countP_append]
 simp [eK]
theorem Acx {q:Nat->Bool} (j:Nat):(List.range j).countP q<=j:=Gx List.countP_le_length (by simp)
theorem GK (p:PP) (ts:List TT) (h:Hv p/\Wx ts):fnW Hf (look [(88,Mk),(129,Qh),(130,Ob),(131,aW)]) aV Try.f57 (p,ts,()) (λ(z:Int)=>z=jZ p ts):=by
 obtain ⟨hp,p8⟩:=h
 unfold jZ
 refine Eq.mp (IL p ts _) ?_
 by_cases hw:Gz p=true
 ·have he:Mk.fn (p,())=some (some (Ti p),true,()):=(Ac hp).trans (Gc some (Ac hw))
  rw [hw,Bool.true_and]
  refine ⟨_,he,λhb=>by simp at hb,λ_=>⟨_,Ac ⟨hp,p8⟩,Br.of (λhm=>?_) λhm=>?_⟩⟩
  ·rw [Ak (Hl hm)]
  have hm:Gr p ts=true:=by simpa using hm
  rw [Ac hm]
  have hv:=(Gg hw).1
  have hx:Acq (Ti p):=⟨hw,rfl⟩
  have Vz:(Ti p).2.1=Be p:=Af9 hx
  have XZ:(Ti p).2.2.1=Fv p:=Ah5 hx
  have hm3:=oa hv
  have hdl:=KD hw
  obtain ⟨_,KZ,_⟩:=Vq hm
  generalize Ti p=e at*
  refine ⟨_,Ac KZ,e,rfl,?_⟩
  rw [Vz]
  refine Bs (Be p).length (λv=>v.2.1) (λj v=>v=((((List.range j).countP λi=>decide (Sb ts ((Be p).getD i [])=(Fv p).getD i 0):Nat):Int),(j:Int),())) rfl rfl ?_
  rintro j v K hj hi rfl hK
  dsimp only
  have hcb:=Acx (q:= λi=>decide (Sb ts ((Be p).getD i [])=(Fv p).getD i 0)) j
  refine Br.dec (λhl=>?_) λhl=>?_
  ·have hl:j<(Be p).length:=by omega
   have Xm:=Al hl
   have hr:=count_range (q:= λi=>decide (Sb ts ((Be p).getD i [])=(Fv p).getD i 0)) j
   rw [Na hl,Na (by omega)] at hr
   refine ⟨_,Ck hl,_,Ac ⟨ts,KZ,rfl,cZ hw hm Xm⟩,e,rfl,(Fv p)[j],by rw [XZ];exact Ck (by omega),Br.of (λhb=>?_) λhb=>?_⟩
   ·have hb:Sb ts (Be p)[j]=(Fv p)[j]:=eq_of_beq hb
    rw [Ac (Eo hb)] at hr
    rw [Bk (by omega),Bk (by omega)]
    exact hK hl _ rfl (by rw [hr])
   ·have hb: ¬Sb ts (Be p)[j]=(Fv p)[j]:= λh=>by
     have:(Sb ts (Be p)[j]==(Fv p)[j])=false:=hb
     rw [h] at this
     simp at this
    rw [Ak (by rw [Mc];exact hb)] at hr
    rw [Bk (by omega)]
    exact hK hl _ rfl (by rw [hr];rfl)
  ·have:j=(Be p).length:=by omega
   subst this
   rfl
 ·have he:Mk.fn (p,())=some (none,false,()):=(Ac hp).trans (Gc some (Ak hw))
  rw [Ho _|>.mp hw,Bool.false_and,Ak (by decide)]
  exact ⟨_,he,λ_=>rfl,λhb=>by simp at hb⟩
theorem rH:Sound Try.prog 57 aV:=
 Sound.Ib Ew (Bd lp (Bd c9 (Bd gE (Bd qQ Bw)))) mixed Try.func57 (by kernel_rfl) (by kernel_rfl) λx h=>GK x.1 x.2.1 h
noncomputable def Wo (p:PP) (ts:List TT):List Int:=(Be p).map (Sb ts)
noncomputable def Zz (p:PP) (ts:List TT):List Int:=if (Gz p&&Gr p ts)=true then j0 (Wo p ts) else []
noncomputable abbrev c7:MSpec:=lg [some 3,none] [(false, .Fy tI),(false, .Fy .str),(false, .Fy mG),(false, .Fy tTS)] false [none] [rL] (λx=>Hv (x.1,x.2.1,x.2.2.1,())/\Wx x.2.2.2.1) (λx=>((Zz (x.1,x.2.1,x.2.2.1,()) x.2.2.2.1,()),()))
theorem Abu (n:Int) (s:ByteArray) (g:List (List Int)) (ts:List (List Int×List (List Int)×List Int×Unit)) (P:((List Int×Unit)×Unit)->Prop):(∃(y5:Option ((Int×ByteArray×List (List Int)×PUnit)×List (List Int)×List Int×(ByteArray->Option Int)×List Int×List Int×List (List Int)×PUnit)×Bool×PUnit),Mk.fn ((n,s,g,()),())=some y5/\Br (!y5.2.1) (P ((List.take 0 (List.drop 0 []),()),())) (∃(y6:Bool),Qh.fn ((n,s,g,()),ts,())=some y6/\Br (!y6) (P ((List.take 0 (List.drop 0 []),()),())) (∃(y7:Option (List (List Int×List (List Int)×List Int×PUnit)×List (ByteArray->Option Int)×PUnit)),Ob.fn (ts,())=some y7/\ ∃(y8:(Int×ByteArray×List (List Int)×PUnit)×List (List Int)×List Int×(ByteArray->Option Int)×List Int×List Int×List (List Int)×PUnit),y5.1=some y8/\0=0/\0=([]:List Int).length/\Dh (λ(v9:Int×List Int×PUnit) (k10:Int×List Int×PUnit->Prop)=>Br (decide (v9.1<(↑y8.2.1.length:Int))) (∃(Jq:List Int),idx y8.2.1 v9.1=some Jq/\ ∃(He:Int),aW.fn (y7,Jq,())=some He/\0=0/\v9.2.1.length=v9.2.1.length/\v9.2.1.length+(List.take 1 (List.drop 0 [He])).length<=Ct/\0=0/\(v9.2.1++List.take 1 (List.drop 0 [He])).length=(v9.2.1++List.take 1 (List.drop 0 [He])).length/\k10 (IntKind.i64.wrap (v9.1+(1:Int)),v9.2.1++List.take 1 (List.drop 0 [He]),())) (∃(Jq:(List Int×PUnit)×PUnit),Vk.fn (List.take v9.2.1.length (List.drop 0 v9.2.1),())=some Jq/\P ((List.take Jq.1.1.length (List.drop 0 Jq.1.1),()),()))) ((0:Int),[],PUnit.unit))))=fnMW Xe (look [(88,Mk),(129,Qh),(130,Ob),(131,aW),(103,Vk)]) c7 Try.f56 (n,s,g,ts,()) P:=by kernel_rfl
theorem nK (p:PP) (ts:List TT):(Wo p ts).length=(Be p).length:=by unfold Wo;rw [Bt]
theorem Adx {p:PP} {ts:List TT} {j:Nat} (h:j<(Be p).length):(Wo p ts)[j]'(by rw [nK];exact h)=Sb ts (Be p)[j]:=by simp [Wo]
theorem LS {p:PP} {ts:List TT} (hw:Gz p=true) (ht:Gr p ts=true):small (Wo p ts):=by
 have hv:=(Gg hw).1
 have h1:=Aji hv
 have h2:=oa hv
 obtain ⟨_,KZ,_⟩:=Vq ht
 refine ⟨by rw [nK];exact h1,by unfold short;rw [nK];omega,λx hx=>?_⟩
 obtain ⟨s,hs,rfl⟩:=Ay.1 hx
 exact QQ KZ (cZ hw ht hs)
theorem Aaa (n:Int) (s:ByteArray) (g:List (List Int)) (ts:List TT) (h:Hv (n,s,g,())/\Wx ts):fnMW Xe (look [(88,Mk),(129,Qh),(130,Ob),(131,aW),(103,Vk)]) c7 Try.f56 (n,s,g,ts,()) (λ(z:(List Int×Unit)×Unit)=>z=((Zz (n,s,g,()) ts,()),())):=by
 obtain ⟨hp,p8⟩:=h
 obtain ⟨p,hpe⟩: ∃p:PP,p=(n,s,g,()):=⟨_,rfl⟩
 refine Eq.mp (Abu n s g ts _) ?_
 rw [<-hpe] at hp⊢
 unfold Zz
 by_cases hw:Gz p=true
 ·have he:Mk.fn (p,())=some (some (Ti p),true,()):=(Ac hp).trans (Gc some (Ac hw))
  rw [hw,Bool.true_and]
  refine ⟨_,he,λhb=>by simp at hb,λ_=>⟨_,Ac ⟨hp,p8⟩,Br.of (λhm=>?_) λhm=>?_⟩⟩
  ·rw [Ak (Hl hm)];rfl
  have hm:Gr p ts=true:=by simpa using hm
  rw [Ac hm]
  have hv:=(Gg hw).1
  have hx:Acq (Ti p):=⟨hw,rfl⟩
  have Vz:(Ti p).2.1=Be p:=Af9 hx
  have hm3:=oa hv
  obtain ⟨_,KZ,_⟩:=Vq hm
  have hsm:=LS hw hm
  have SN:=nK p ts
  generalize Ti p=e at*
  refine ⟨_,Ac KZ,e,rfl,rfl,rfl,?_⟩
  rw [Vz]
  refine Bs (Be p).length (λv=>v.1) (λj v=>v=((j:Int),(Wo p ts).take j,())) rfl (by rw [List.take_zero];rfl) ?_
  rintro j v K hj hi rfl hK
  dsimp only
  refine Br.dec (λhl=>?_) λhl=>?_
  ·have hl:j<(Be p).length:=by omega
   have Xm:=Al hl
   refine ⟨_,Ck hl,_,Ac ⟨ts,KZ,rfl,cZ hw hm Xm⟩,rfl,rfl,?_,rfl,rfl,?_⟩
   ·show ((Wo p ts).take j).length+1<=4294967296
    rw [Db];omega
   ·rw [Bk (by omega)]
    refine hK hl _ rfl ?_
    rw [Ch (show j<(Wo p ts).length by omega),Adx hl]
    rfl
  ·have:j=(Be p).length:=by omega
   subst this
   rw [<-SN,Aw,Cq]
   refine ⟨_,Ac hsm,?_⟩
   simp only [Cq]
 ·have he:Mk.fn (p,())=some (none,false,()):=(Ac hp).trans (Gc some (Ak hw))
  rw [Ho _|>.mp hw,Bool.false_and,Ak (by decide)]
  exact ⟨_,he,λ_=>rfl,λhb=>by simp at hb⟩
theorem AI:Cn Try.prog 56 c7:=
 Cn.lg Uy (Bd lp (Bd c9 (Bd gE (Bd qQ (Ft rE Bw))))) mixed Try.func56 (by kernel_rfl) (by kernel_rfl) λx h=>Aaa x.1 x.2.1 x.2.2.1 x.2.2.2.1 h
end Go.Proofs.Ytkkdpknjohcekaa
