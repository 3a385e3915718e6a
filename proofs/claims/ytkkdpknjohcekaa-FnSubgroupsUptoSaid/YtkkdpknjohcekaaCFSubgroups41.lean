/-
  Part 42 of the proof that the statement FnSubgroups holds.
-/
import Derived.Test.YtkkdpknjohcekaaCFSubgroups40
namespace Go.Proofs.Ytkkdpknjohcekaa
open Go.RowKit
def ap (p:List Int) (i:Nat):Nat:=(Cr p (i:Int)).toNat
def Pm (n:Nat) (p:List Int):Prop:=p.length=n/\bu p
theorem Pm.n1 {n:Nat} {p:List Int} (h:Pm n p):1<=n:=h.1▸h.2.pos
theorem Pm.n2 {n:Nat} {p:List Int} (h:Pm n p):n<=20:=h.1▸h.2.len
theorem Pm.Ss {n:Nat} {p:List Int} (h:Pm n p) {i:Nat} (hi:i<n):Cr p (i:Int)=(ap p i:Int)/\ap p i<n:=by
 have dP:i<p.length:=by rw [h.1];exact hi
 have:=h.2.row _ (An dP)
 unfold ap
 rw [Jj dP]
 have h1:=h.1
 omega
theorem Pm.lt {n:Nat} {p:List Int} (h:Pm n p) {i:Nat} (hi:i<n):ap p i<n:=(h.Ss hi).2
theorem Pm.ext {n:Nat} {p q:List Int} (h:Pm n p) (k:Pm n q) (e: ∀i,i<n->ap p i=ap q i):p=q:=by
 refine List.ext_getElem (by rw [h.1,k.1]) λi h1 h2=>?_
 have hi:i<n:=by rw [<-h.1];exact h1
 have a:=(h.Ss hi).1
 have b:=(k.Ss hi).1
 rw [Jj h1] at a
 rw [Jj h2] at b
 rw [a,b,e i hi]
theorem Pm.inj {n:Nat} {p:List Int} (h:Pm n p) {i j:Nat} (hi:i<n) (hj:j<n) (e:ap p i=ap p j):i=j:=
 h.2.inj i j (by rw [h.1];exact hi) (by rw [h.1];exact hj) e
theorem Pm.UR {n:Nat} {p:List Int} (h:Pm n p) {k:Nat} (hk:k<n): ∃i,i<n/\ap p i=k:=by
 obtain ⟨i,h1,h2⟩:=h.2.UR k (by rw [h.1];exact hk)
 exact ⟨i,by rw [<-h.1];exact h1,h2⟩
theorem Pm.of {n:Nat} {p:List Int} (hl:p.length=n) (h1:1<=n) (h2:n<=20) (f:Nat->Nat) (hf: ∀i,i<n->p[i]?=some (f i:Int)/\f i<n) (hi: ∀i j,i<n->j<n->f i=f j->i=j):Pm n p:=by
 refine ⟨hl,by omega,by omega,λy hy=>?_,?_⟩
 ·obtain ⟨i,hi,rfl⟩:=Bj.1 hy
  obtain ⟨h3,h4⟩:=hf i (by omega)
  rw [Ad hi] at h3
  rw [Bd h3]
  omega
 ·refine Fk.2 λi j h3 h4 h5 h6=>?_
  have a:=(hf i (by omega)).1
  have b:=(hf j (by omega)).1
  rw [Ad h3] at a
  rw [Ad h4] at b
  rw [Bd a,Bd b] at h6
  have:=hi i j (by omega) (by omega) (by omega)
  omega
theorem EE {n:Nat} {p q:List Int} (hp:Pm n p) (hq:Pm n q) {i:Nat} (hi:i<n):(Af p q)[i]?=some (ap q (ap p i):Int):=by
 have h1:i<p.length:=by rw [hp.1];exact hi
 unfold Af
 rw [Ex,Ad h1]
 have a:=(hp.Ss hi).1
 rw [Jj h1] at a
 simp only [Am,a]
 rw [(hq.Ss (hp.Ss hi).2).1]
theorem Pm.comp {n:Nat} {p q:List Int} (hp:Pm n p) (hq:Pm n q):Pm n (Af p q):=
 Pm.of (by rw [Oz,hp.1]) hp.n1 hp.n2 (λi=>ap q (ap p i)) (λi hi=>⟨EE hp hq hi,hq.lt (hp.lt hi)⟩) λi j hi hj e=>hp.inj hi hj (hq.inj (hp.lt hi) (hp.lt hj) e)
theorem YK {p:List Int} {i k:Nat} (h:p[i]?=some (k:Int)):ap p i=k:=by
 unfold ap Cr
 rw [Ac,Al,h]
 simp
theorem Jh {n:Nat} {p q:List Int} (hp:Pm n p) (hq:Pm n q) {i:Nat} (hi:i<n):ap (Af p q) i=ap q (ap p i):=YK (EE hp hq hi)
theorem JD {n i:Nat} (hi:i<n):(upto n)[i]?=some (i:Int):=by simp [upto,hi]
theorem iC {n i:Nat} (hi:i<n):ap (upto n) i=i:=YK (JD hi)
theorem Pm.id {n:Nat} (h1:1<=n) (h2:n<=20):Pm n (upto n):=Pm.of (by simp [upto]) h1 h2 (λi=>i) (λi hi=>⟨JD hi,hi⟩) λ_ _ _ _ e=>e
theorem RP {n:Nat} {p:List Int} (hp:Pm n p) {i:Nat} (hi:i<n):(Bb p)[ap p i]?=some (i:Int):=Aac hp.2 (by rw [hp.1];exact hi)
theorem kf {n:Nat} {p:List Int} (hp:Pm n p) {i:Nat} (hi:i<n):ap (Bb p) (ap p i)=i:=YK (RP hp hi)
theorem yQ {n:Nat} {p:List Int} (hp:Pm n p) {k:Nat} (hk:k<n):ap p (ap (Bb p) k)=k:=by
 obtain ⟨i,hi,rfl⟩:=hp.UR hk
 rw [kf hp hi]
theorem Pm.inv {n:Nat} {p:List Int} (hp:Pm n p):Pm n (Bb p):=by
 refine Pm.of (by rw [nY,hp.1]) hp.n1 hp.n2 (λk=>ap (Bb p) k) (λk hk=>?_) λi j hi hj e=>?_
 ·obtain ⟨i,hi,rfl⟩:=hp.UR hk
  rw [kf hp hi]
  exact ⟨RP hp hi,hi⟩
 ·rw [<-yQ hp hi,<-yQ hp hj,e]
theorem Fc {n:Nat} {p q r:List Int} (hp:Pm n p) (hq:Pm n q) (hr:Pm n r):Af (Af p q) r=Af p (Af q r):=
 ((hp.comp hq).comp hr).ext (hp.comp (hq.comp hr)) λi hi=>by rw [Jh (hp.comp hq) hr hi,Jh hp hq hi,Jh hp (hq.comp hr) hi,Jh hq hr (hp.lt hi)]
theorem comp_id {n:Nat} {p:List Int} (hp:Pm n p):Af p (upto n)=p:=
 (hp.comp (Pm.id hp.n1 hp.n2)).ext hp λi hi=>by rw [Jh hp (Pm.id hp.n1 hp.n2) hi,iC (hp.lt hi)]
theorem id_comp {n:Nat} {p:List Int} (hp:Pm n p):Af (upto n) p=p:=
 ((Pm.id hp.n1 hp.n2).comp hp).ext hp λi hi=>by rw [Jh (Pm.id hp.n1 hp.n2) hp hi,iC hi]
theorem Tq {n:Nat} {p:List Int} (hp:Pm n p):Af p (Bb p)=upto n:=
 (hp.comp hp.inv).ext (Pm.id hp.n1 hp.n2) λi hi=>by rw [Jh hp hp.inv hi,kf hp hi,iC hi]
theorem Zw {n:Nat} {p:List Int} (hp:Pm n p):Af (Bb p) p=upto n:=
 (hp.inv.comp hp).ext (Pm.id hp.n1 hp.n2) λi hi=>by rw [Jh hp.inv hp hi,yQ hp hi,iC hi]
theorem tP {n:Nat} {p q:List Int} (hp:Pm n p) (hq:Pm n q) (h:Af p q=upto n):Bb p=q:=by
 rw [<-comp_id hp.inv,<-h,<-Fc hp.inv hp hq,Zw hp,id_comp hq]
theorem inv_mul {n:Nat} {p q:List Int} (hp:Pm n p) (hq:Pm n q):Bb (Af p q)=Af (Bb q) (Bb p):=
 tP (hp.comp hq) (hq.inv.comp hp.inv) (by
  rw [Fc hp hq (hq.inv.comp hp.inv),<-Fc hq hq.inv hp.inv,Tq hq,id_comp hp.inv,Tq hp])
theorem inv_inv {n:Nat} {p:List Int} (hp:Pm n p):Bb (Bb p)=p:=tP hp.inv hp (Zw hp)
theorem MD {n:Nat} (h1:1<=n) (h2:n<=20):Bb (upto n)=upto n:=tP (Pm.id h1 h2) (Pm.id h1 h2) (comp_id (Pm.id h1 h2))
inductive cn (n:Nat) (S:List Int->Prop):List Int->Prop where
 |id:cn n S (upto n)
 |mul {p g:List Int} :cn n S p->S g->cn n S (Af p g)
 |inv {p g:List Int} :cn n S p->S g->cn n S (Af p (Bb g))
def DA (n:Nat) (S:List Int->Prop):Prop:=(1<=n/\n<=20)/\ ∀g,S g->Pm n g
theorem cn.pm {n:Nat} {S:List Int->Prop} (hS:DA n S) {p:List Int} (h:cn n S p):Pm n p:=by
 induction h with
 |id=>exact Pm.id hS.1.1 hS.1.2
 |mul _ hg ih=>exact ih.comp (hS.2 _ hg)
 |inv _ hg ih=>exact ih.comp (hS.2 _ hg).inv
theorem cn.comp {n:Nat} {S:List Int->Prop} (hS:DA n S) {p q:List Int} (hp:cn n S p) (hq:cn n S q):cn n S (Af p q):=by
 induction hq with
 |id=>rw [comp_id (hp.pm hS)];exact hp
 |mul hq hg ih=>rw [<-Fc (hp.pm hS) (hq.pm hS) (hS.2 _ hg)];exact .mul ih hg
 |inv hq hg ih=>rw [<-Fc (hp.pm hS) (hq.pm hS) (hS.2 _ hg).inv];exact .inv ih hg
theorem cn.one {n:Nat} {S:List Int->Prop} (hS:DA n S) {g:List Int} (hg:S g):cn n S g:=by
 have:=cn.mul (n:=n) (S:=S) .id hg
 rwa [id_comp (hS.2 g hg)] at this
theorem cn.Akk {n:Nat} {S:List Int->Prop} (hS:DA n S) {g:List Int} (hg:S g):cn n S (Bb g):=by
 have:=cn.inv (n:=n) (S:=S) .id hg
 rwa [id_comp (hS.2 g hg).inv] at this
theorem cn.sq {n:Nat} {S:List Int->Prop} (hS:DA n S) {p:List Int} (hp:cn n S p):cn n S (Bb p):=by
 induction hp with
 |id=>rw [MD hS.1.1 hS.1.2];exact .id
 |mul hq hg ih=>rw [inv_mul (hq.pm hS) (hS.2 _ hg)];exact (cn.Akk hS hg).comp hS ih
 |inv hq hg ih=>rw [inv_mul (hq.pm hS) (hS.2 _ hg).inv,inv_inv (hS.2 _ hg)];exact (cn.one hS hg).comp hS ih
theorem cn.trans {n:Nat} {S S':List Int->Prop} (hS':DA n S') (h: ∀g,S g->cn n S' g) {p:List Int} (hp:cn n S p):cn n S' p:=by
 induction hp with
 |id=>exact .id
 |mul _ hg ih=>exact ih.comp hS' (h _ hg)
 |inv _ hg ih=>exact ih.comp hS' ((h _ hg).sq hS')
abbrev PO:=Option (List Int)
abbrev Row:=List PO
abbrev Ch:=List Row
def Ku (row:Row):List Int:=(upto row.length).filter λy=>(row.getD y.toNat none).isSome
def Hc (T:Ch):Nat->Nat->List Int->Bool
 |0,_,_=>true
 |k+1,i,p=>match (T.getD i []).getD (Cr p (i:Int)).toNat none with
  |none=>false
  |some t=>Hc T k (i+1) (Af p (Bb t))
def Lu (row:Row):Nat:=row.countP (·.isNone)
def aN (x:Int) (s:Row×List Int) (o:PO):Row×List Int:=
 match s.1.getD (Cr (o.getD []) x).toNat none with
 |some _=>s
 |none=>(s.1.set (Cr (o.getD []) x).toNat (some (Af ((s.1.getD x.toNat none).getD []) (o.getD []))),s.2++ [Cr (o.getD []) x])
def aE (x:Int) (gs:List PO) (s:Row×List Int):Row×List Int:=gs.foldl (aN x) s
def an (gs:List PO):Nat->List Int->Row->Row
 |0,_,row=>row
 |_+1,[],row=>row
 |f+1,x::q,row=>an gs f (aE x gs (row,q)).2 (aE x gs (row,q)).1
def Zi (gs:List PO) (row:Row):Row:=an gs 100 (Ku row) row
def Tw (row:Row) (y:Int) (g:PO):List Int:=
 Af (Af ((row.getD y.toNat none).getD []) (g.getD [])) (Bb ((row.getD (Cr (g.getD []) y).toNat none).getD []))
def gO (row:Row) (gs:List PO):List (List Int):=(Ku row).flatMap λy=>gs.map λg=>Tw row y g
def Hl:Nat->Nat->List Int->Ch×Ch->Ch×Ch
 |0,_,_,s=>s
 |k+1,l,p,s=>
  if Hc s.2 (k+1) l p=true then s else
   (gO (Zi (s.1.getD l []++ [some p]) (s.2.getD l [])) (s.1.getD l []++ [some p])).foldl (λs q=>Hl k (l+1) q s)
    (s.1.set l (s.1.getD l []++ [some p]),s.2.set l (Zi (s.1.getD l []++ [some p]) (s.2.getD l [])))
def Fx (l:Nat) (p:List Int):Prop:= ∀i,i<l->ap p i=i
def Gn (n:Nat) (gs:List PO):List Int->Prop:=cn n λg=>some g∈gs
structure Lvl (n l:Nat) (gs:List PO) (row:Row) (H:List Int->Prop):Prop where
 pg: ∀o∈gs,∃g,o=some g/\Pm n g/\Fx l g
 rl:row.length=n
 r0:row.getD l none=some (upto n)
 rt: ∀y t,row.getD y none=some t->Pm n t/\Fx l t/\ap t l=y/\Gn n gs t
 cl: ∀y t g,row.getD y none=some t->some g∈gs->row.getD (ap g y) none≠none
 sg: ∀y t g t',row.getD y none=some t->some g∈gs->row.getD (ap g y) none=some t'->H (Af (Af t g) (Bb t'))
def dT (n:Nat):Nat->Nat->Ch×Ch->Prop
 |0,l,s=>s.1.getD l []= []
 |k+1,l,s=>dT n k (l+1) s/\Lvl n l (s.1.getD l []) (s.2.getD l []) (λq=>Hc s.2 k (l+1) q=true)/\ ∀g,some g∈s.1.getD (l+1) []->Gn n (s.1.getD l []) g
theorem Ag6 {l1 l2:List Nat} (hn:l1.Nodup) (hs: ∀x∈l1,x∈l2) (hl:l2.length<=l1.length): ∀x∈l2,x∈l1:=by
 induction l1 generalizing l2 with
 |nil=>
  intro x hx
  have:l2= []:=Co (by simpa using hl)
  rw [this] at hx;cases hx
 |cons a l ih=>
  intro x hx
  obtain ⟨h1,h2⟩:=Cg.1 hn
  have ha:=hs a (by simp)
  by_cases e:x=a
  ·subst e;simp
  ·refine Ar _ (ih (l2:=l2.erase a) h2 (λy hy=>?_) ?_ x ((List.mem_erase_of_ne e).2 hx))
   ·have hya:y≠a:= λe'=>h1 (by rw [<-e'];exact hy)
    exact (List.mem_erase_of_ne hya).2 (hs y (by simp [hy]))
   ·rw [Wy ha]
    simp only [Av] at hl
    omega
theorem NA {n:Nat} {g:List Int} (hg:Pm n g) (D:Nat->Bool) (h: ∀y,y<n->D y=true->D (ap g y)=true) {y:Nat} (hy:y<n) (hD:D y=true): ∃x,x<n/\D x=true/\ap g x=y:=by
 have:=Ag6 (l1:=((List.range n).filter D).map (ap g)) (l2:=(List.range n).filter D) ?_ ?_ (by simp) y (Bm.2 ⟨Es.2 hy,hD⟩)
 ·obtain ⟨x,hx,e⟩:=Ba.1 this
  obtain ⟨h1,h2⟩:=Bm.1 hx
  exact ⟨x,Es.1 h1,h2,e⟩
 ·refine List.pairwise_map.2 (im ?_ (List.nodup_range.filter D))
  intro a b ha hb Ig e
  exact Ig (hg.inj (Es.1 (Bm.1 ha).1) (Es.1 (Bm.1 hb).1) e)
 ·intro x hx
  obtain ⟨z,hz,rfl⟩:=Ba.1 hx
  obtain ⟨h1,h2⟩:=Bm.1 hz
  exact Bm.2 ⟨Es.2 (hg.lt (Es.1 h1)),h z (Es.1 h1) h2⟩
theorem nS {row:Row} {y:Nat} {t:List Int} (h:row.getD y none=some t):y<row.length:=by
 rw [Al] at h
 refine Bk λhn=>?_
 rw [Ee (by omega)] at h
 cases h
theorem Lvl.pms {n l:Nat} {gs:List PO} {row:Row} {H:List Int->Prop} (h:Lvl n l gs row H):DA n λg=>some g∈gs:=by
 refine ⟨?_,λg hg=>?_⟩
 ·have:=(h.rt l _ h.r0).1
  exact ⟨this.n1,this.n2⟩
 ·obtain ⟨g',e,h1,_⟩:=h.pg _ hg
  cases e;exact h1
theorem Fx.inv {n l:Nat} {p:List Int} (hp:Pm n p) (h:Fx l p) (hl:l<=n):Fx l (Bb p):= λi hi=>by
 have:=kf hp (i:=i) (by omega)
 rwa [h i hi] at this
theorem Fx.comp {n l:Nat} {p q:List Int} (hp:Pm n p) (hq:Pm n q) (h1:Fx l p) (h2:Fx l q) (hl:l<=n):Fx l (Af p q):= λi hi=>by
 rw [Jh hp hq (by omega),h1 i hi,h2 i hi]
theorem Fx.all {n:Nat} {p:List Int} (hp:Pm n p) (h:Fx n p):p=upto n:=hp.ext (Pm.id hp.n1 hp.n2) λi hi=>by rw [h i hi,iC hi]
theorem Fx.div {n l:Nat} {p t:List Int} (hp:Pm n p) (ht:Pm n t) (h1:Fx l p) (h2:Fx l t) (hl:l<n) (e:ap t l=ap p l):Fx (l+1) (Af p (Bb t)):= λi hi=>by
 rw [Jh hp ht.inv (by omega)]
 by_cases hil:i<l
 ·rw [h1 i hil];exact h2.inv ht (by omega) i hil
 ·have:i=l:=by omega
  subst this
  rw [<-e,kf ht hl]
theorem Ue {n:Nat} (h1:1<=n) (h2:n<=20): ∀(k l:Nat) (s:Ch×Ch),l+k=n->dT n k l s-> ∀p,Pm n p->Fx l p->(Hc s.2 k l p=true↔Gn n (s.1.getD l []) p)
 |0,l,s,hk,hc,p,hp,hf=>by
  have hl:l=n:=by omega
  subst hl
  rw [hf.all hp]
  exact ⟨λ_=> .id,λ_=>rfl⟩
 |k+1,l,s,hk,hc,p,hp,hf=>by
  obtain ⟨c1,c2,c3⟩:=hc
  have hS:=c2.pms
  have ih:=Ue h1 h2 k (l+1) s (by omega) c1
  have hS1:DA n λg=>some g∈s.1.getD (l+1) []:=⟨⟨h1,h2⟩,λg hg=>(c3 g hg).pm hS⟩
  have eW:l<n:=by omega
  constructor
  ·intro h
   simp only [Hc] at h
   rw [show (Cr p (l:Int)).toNat=ap p l from rfl] at h
   split at h
   ·cases h
   ·rename_i t ht
    obtain ⟨t1,t2,t3,t4⟩:=c2.rt _ _ ht
    have JY:=Fx.div hp t1 hf t2 eW t3
    have hg:=((ih _ (hp.comp t1.inv) JY).1 h).trans hS c3
    have:=cn.comp hS hg t4
    rwa [Fc hp t1.inv t1,Zw t1,comp_id hp] at this
  ·intro h
   have key: ∀q,Gn n (s.1.getD l []) q-> ∃t,(s.2.getD l []).getD (ap q l) none=some t/\Gn n (s.1.getD (l+1) []) (Af q (Bb t)):=by
    intro q hq
    induction hq with
    |id=>
     refine ⟨upto n,by rw [iC eW];exact c2.r0,?_⟩
     rw [MD h1 h2,comp_id (Pm.id h1 h2)]
     exact .id
    | @mul q g hq hg ihq=>
     obtain ⟨t,e1,e2⟩:=ihq
     have hqp:=cn.pm hS hq
     have Tm:=hS.2 _ hg
     obtain ⟨t1,t2,t3,t4⟩:=c2.rt _ _ e1
     cases e3:(s.2.getD l []).getD (ap g (ap q l)) none with
     |none=>exact absurd e3 (c2.cl _ _ _ e1 hg)
     |some t'=>
      obtain ⟨u1,u2,u3,u4⟩:=c2.rt _ _ e3
      have hsg:=c2.sg _ _ _ _ e1 hg e3
      have hfg:Fx (l+1) (Af (Af t g) (Bb t')):=Fx.div (t1.comp Tm) u1 (Fx.comp t1 Tm t2 (by obtain ⟨g',e,_,h⟩:=c2.pg _ hg;cases e;exact h) (by omega)) u2 eW (by rw [u3,Jh t1 Tm eW,t3])
      have JZ:=(ih _ ((t1.comp Tm).comp u1.inv) hfg).1 hsg
      refine ⟨t',by rw [Jh hqp Tm eW];exact e3,?_⟩
      have:=cn.comp hS1 e2 JZ
      rwa [show Af (Af q (Bb t)) (Af (Af t g) (Bb t'))=Af (Af q g) (Bb t') by
       rw [Fc hqp t1.inv ((t1.comp Tm).comp u1.inv),Fc t1 Tm u1.inv,<-Fc t1.inv t1 (Tm.comp u1.inv),Zw t1,id_comp (Tm.comp u1.inv),Fc hqp Tm u1.inv]] at this
    | @inv q g hq hg ihq=>
     obtain ⟨t,e1,e2⟩:=ihq
     have hqp:=cn.pm hS hq
     have Tm:=hS.2 _ hg
     obtain ⟨t1,t2,t3,t4⟩:=c2.rt _ _ e1
     have hy:ap q l<n:=hqp.lt eW
     obtain ⟨x,hx,hD,he⟩:=NA Tm (λy=>((s.2.getD l []).getD y none).isSome) (λy hy hd=>by
      obtain ⟨t0,ht0⟩:=Wz.1 hd
      exact Option.ne_none_iff_isSome.1 (c2.cl _ _ _ ht0 hg)) hy (by rw [e1];rfl)
     obtain ⟨t',e3⟩:=Wz.1 hD
     obtain ⟨u1,u2,u3,u4⟩:=c2.rt _ _ e3
     have hsg:=c2.sg _ _ _ _ e3 hg (by rw [he];exact e1)
     have hfg:Fx (l+1) (Af (Af t' g) (Bb t)):=Fx.div (u1.comp Tm) t1 (Fx.comp u1 Tm u2 (by obtain ⟨g',e,_,h⟩:=c2.pg _ hg;cases e;exact h) (by omega)) t2 eW (by rw [t3,Jh u1 Tm eW,u3,he])
     have JZ:=cn.sq hS1 ((ih _ ((u1.comp Tm).comp t1.inv) hfg).1 hsg)
     have hax:ap (Bb g) (ap q l)=x:=by rw [<-he,kf Tm hx]
     refine ⟨t',by rw [Jh hqp Tm.inv eW,hax];exact e3,?_⟩
     have:=cn.comp hS1 e2 JZ
     rwa [show Af (Af q (Bb t)) (Bb (Af (Af t' g) (Bb t)))=Af (Af q (Bb g)) (Bb t') by
      rw [inv_mul (u1.comp Tm) t1.inv,inv_inv t1,inv_mul u1 Tm,Fc hqp t1.inv (t1.comp (Tm.inv.comp u1.inv)),<-Fc t1.inv t1 (Tm.inv.comp u1.inv),Zw t1,id_comp (Tm.inv.comp u1.inv),Fc hqp Tm.inv u1.inv]] at this
   obtain ⟨t,e1,e2⟩:=key p h
   obtain ⟨t1,t2,t3,t4⟩:=c2.rt _ _ e1
   simp only [Hc]
   rw [show (Cr p (l:Int)).toNat=ap p l from rfl,e1]
   exact (ih _ (hp.comp t1.inv) (Fx.div hp t1 hf t2 eW t3)).2 e2
theorem Ke {α:Type} (xs:List α) (i j:Nat) (x d:α):(xs.set i x).getD j d=if i=j/\i<xs.length then x else xs.getD j d:=by
 rw [Al,Em,Al]
 by_cases e:i=j
 ·subst e
  by_cases h:i<xs.length
  ·rw [Ab rfl,Ab h,Ab ⟨rfl,h⟩];rfl
  ·rw [Ab rfl,Ak h,Ak (λhh=>h hh.2),Ee (by omega)]
 ·rw [Ak e,Ak (λhh=>e hh.1)]
theorem cn.mono {n:Nat} {S S':List Int->Prop} (h: ∀g,S g->S' g) {p:List Int} (hp:cn n S p):cn n S' p:=by
 induction hp with
 |id=>exact .id
 |mul _ hg ih=>exact .mul ih (h _ hg)
 |inv _ hg ih=>exact .inv ih (h _ hg)
structure Uy (n l:Nat) (gs:List PO) (row:Row):Prop where
 rl:row.length=n
 r0:row.getD l none=some (upto n)
 rt: ∀y t,row.getD y none=some t->Pm n t/\Fx l t/\ap t l=y/\Gn n gs t
def PG (n l:Nat) (gs:List PO):Prop:= ∀o∈gs,∃g,o=some g/\Pm n g/\Fx l g
structure Ext (n l:Nat) (gs:List PO) (row:Row) (q:List Int) (s':Row×List Int):Prop where
 ok:Uy n l gs s'.1
 mono: ∀y t,row.getD y none=some t->s'.1.getD y none=some t
 phi:s'.2.length+Lu s'.1=q.length+Lu row
 vP: ∀y∈q,y∈s'.2
 new: ∀y∈s'.2,y∈q\/ ∃yn:Nat,y=yn/\s'.1.getD yn none≠none
 src: ∀y:Nat,s'.1.getD y none≠none->row.getD y none≠none\/(y:Int)∈s'.2
theorem Ext.refl {n l:Nat} {gs:List PO} {row:Row} {q:List Int} (h:Uy n l gs row):Ext n l gs row q (row,q):=⟨h,λ_ _ h=>h,rfl,λ_ h=>h,λ_ h=> .inl h,λ_ h=> .inl h⟩
theorem fH {a b:Row} (h: ∀y t,a.getD y none=some t->b.getD y none=some t) {y:Nat} (hy:a.getD y none≠none):b.getD y none≠none:=by
 cases e:a.getD y none with
 |none=>exact absurd e hy
 |some t=>rw [h y t e];simp
theorem Ext.trans {n l:Nat} {gs:List PO} {row:Row} {q:List Int} {s1 s2:Row×List Int} (h:Ext n l gs row q s1) (k:Ext n l gs s1.1 s1.2 s2):Ext n l gs row q s2:=by
 refine ⟨k.ok,λy t e=>k.mono y t (h.mono y t e),k.phi.trans h.phi,λy hy=>k.vP y (h.vP y hy),λy hy=>?_,λy hy=>?_⟩
 ·rcases k.new y hy with h1|h1
  ·rcases h.new y h1 with h2|⟨yn,h2,h3⟩
   ·exact .inl h2
   ·exact .inr ⟨yn,h2,fH k.mono h3⟩
  ·exact .inr h1
 ·rcases k.src y hy with h1|h1
  ·exact (h.src y h1).imp id λh2=>k.vP _ h2
  ·exact .inr h1
theorem pN {row:Row} {i:Nat} {t:List Int} (h:row.getD i none=none) (hi:i<row.length):Lu (row.set i (some t))+1=Lu row:=by
 unfold Lu
 have e:row[i]=none:=by
  rw [Al,Ad hi] at h
  exact h
 have h1:=List.countP_set (p:= λo:PO=>o.isNone) (l:=row) (i:=i) (a:=some t) hi
 have rV:0<row.countP (·.isNone):=List.countP_pos_iff.2 ⟨row[i],An hi,by rw [e];rfl⟩
 rw [h1,e]
 simp
 omega
theorem Ag4 {n l:Nat} {gs:List PO} (eW:l<n) (hg:PG n l gs) {row:Row} {q:List Int} (h:Uy n l gs row) {x:Nat} {t:List Int} (hx:row.getD x none=some t) {g:List Int} (ho:some g∈gs):
  Ext n l gs row q (aN (x:Int) (row,q) (some g))/\(aN (x:Int) (row,q) (some g)).1.getD (ap g x) none≠none:=by
 obtain ⟨g',e,Tm,hgf⟩:=hg _ ho
 cases e
 obtain ⟨t1,t2,t3,t4⟩:=h.rt _ _ hx
 have RN:x<n:=by rw [<-h.rl];exact nS hx
 obtain ⟨a1,a2⟩:=Tm.Ss RN
 unfold aN
 simp only [Bx,a1,Ac]
 cases e:row.getD (ap g x) none with
 |some u=>exact ⟨Ext.refl h,by simp only;rw [e];simp⟩
 |none=>
  simp only [hx,Bx]
  have hl:ap g x<row.length:=by rw [h.rl];exact a2
  have hS:DA n λg=>some g∈gs:=⟨⟨t1.n1,t1.n2⟩,λg Rv=>by obtain ⟨g',e,h1,_⟩:=hg _ Rv;cases e;exact h1⟩
  have Aw: ∀y,(row.set (ap g x) (some (Af t g))).getD y none=if ap g x=y/\ap g x<row.length then some (Af t g) else row.getD y none:= λy=>Ke _ _ _ _ _
  have Ig: ∀y u,row.getD y none=some u->ap g x≠y:= λy u hu e'=>by rw [<-e',e] at hu;cases hu
  refine ⟨⟨⟨by simp [h.rl],?_,λy u hu=>?_⟩,λy u hu=>?_,?_,λy hy=>Bi _ hy,λy hy=>?_,λy hy=>?_⟩,?_⟩
  ·rw [Aw,Ak (λhh=>Ig l _ h.r0 hh.1)];exact h.r0
  ·rw [Aw] at hu
   split at hu
   ·rename_i hc
    cases hu
    exact ⟨t1.comp Tm,Fx.comp t1 Tm t2 hgf (by omega),by rw [Jh t1 Tm eW,t3];exact hc.1, .mul t4 ho⟩
   ·exact h.rt y u hu
  ·show (row.set (ap g x) (some (Af t g))).getD y none=some u
   rw [Aw,Ak (λhh=>Ig y u hu hh.1)];exact hu
  ·have:=pN (t:=Af t g) e hl
   simp only [Ay,Av,Di]
   omega
  ·rcases Az.1 hy with hy|hy
   ·exact .inl hy
   ·simp only [Ae] at hy
    exact .inr ⟨ap g x,hy,by show (row.set (ap g x) (some (Af t g))).getD (ap g x) none≠none;rw [Aw,Ab ⟨rfl,hl⟩];simp⟩
  ·have hy:(row.set (ap g x) (some (Af t g))).getD y none≠none:=hy
   rw [Aw] at hy
   split at hy
   ·rename_i hc
    exact .inr (by show (y:Int)∈q++ [(ap g x:Int)];rw [<-hc.1];simp)
   ·exact .inl hy
  ·show (row.set (ap g x) (some (Af t g))).getD (ap g x) none≠none
   rw [Aw,Ab ⟨rfl,hl⟩];simp
theorem Abm {n l:Nat} {gs:List PO} (eW:l<n) (hg:PG n l gs): ∀(gs':List PO) {row:Row} {q:List Int},(∀o∈gs',o∈gs)->Uy n l gs row-> ∀ {x:Nat} {t:List Int},row.getD x none=some t->
  Ext n l gs row q (aE (x:Int) gs' (row,q))/\ ∀g,some g∈gs'->(aE (x:Int) gs' (row,q)).1.getD (ap g x) none≠none
 | [],row,q,_,h,x,t,hx=>⟨Ext.refl h,λg hg=>by cases hg⟩
 |o::gs',row,q,hs,h,x,t,hx=>by
  obtain ⟨g,rfl,_,_⟩:=hg o (hs o (by simp))
  obtain ⟨e1,e2⟩:=Ag4 (q:=q) eW hg h hx (hs (some g) (by simp))
  obtain ⟨f1,f2⟩:=Abm eW hg gs' (q:=(aN (x:Int) (row,q) (some g)).2) (λo ho=>hs o (by simp [ho])) e1.ok (e1.mono x t hx)
  have hb:aE (x:Int) (some g::gs') (row,q)=aE (x:Int) gs' ((aN (x:Int) (row,q) (some g)).1,(aN (x:Int) (row,q) (some g)).2):=rfl
  rw [hb]
  refine ⟨e1.trans f1,λg' Rv=>?_⟩
  rcases Bc.1 Rv with e|Rv
  ·cases e;exact fH f1.mono e2
  ·exact f2 g' Rv
def SW (gs:List PO) (q:List Int) (row:Row):Prop:=
 (∀y∈q,∃yn:Nat,y=yn/\row.getD yn none≠none)/\ ∀y:Nat,row.getD y none≠none->(y:Int)∈q\/ ∀g,some g∈gs->row.getD (ap g y) none≠none
theorem NQ {n l:Nat} {gs:List PO} (eW:l<n) (hg:PG n l gs) {x:Int} {q:List Int} {row:Row} (h:Uy n l gs row) (hq:SW gs (x::q) row):
  Ext n l gs row q (aE x gs (row,q))/\SW gs (aE x gs (row,q)).2 (aE x gs (row,q)).1/\ ∃(xn:Nat) (t:List Int),x=xn/\row.getD xn none=some t:=by
 obtain ⟨xn,rfl,hx⟩:=hq.1 x (by simp)
 cases e:row.getD xn none with
 |none=>exact absurd e hx
 |some t=>
  obtain ⟨e1,e2⟩:=Abm eW hg gs (q:=q) (λo ho=>ho) h e
  refine ⟨e1,⟨λy hy=>?_,λy hy=>?_⟩,xn,t,rfl,e⟩
  ·rcases e1.new y hy with h1|h1
   ·obtain ⟨yn,h2,h3⟩:=hq.1 y (by simp [h1])
    exact ⟨yn,h2,fH e1.mono h3⟩
   ·exact h1
  ·rcases e1.src y hy with h1|h1
   ·rcases hq.2 y h1 with h2|h2
    ·rcases Bc.1 h2 with h2|h2
     ·have:y=xn:=by omega
      subst this
      exact .inr λg Rv=>e2 g Rv
     ·exact .inl (e1.vP _ h2)
    ·exact .inr λg Rv=>fH e1.mono (h2 g Rv)
   ·exact .inl h1
theorem Abv {n l:Nat} {gs:List PO} (eW:l<n) (hg:PG n l gs): ∀(f:Nat) (q:List Int) (row:Row),q.length+Lu row<=f->Uy n l gs row->SW gs q row->
  Uy n l gs (an gs f q row)/\(∀y t,row.getD y none=some t->(an gs f q row).getD y none=some t)/\ ∀y t g,(an gs f q row).getD y none=some t->some g∈gs->(an gs f q row).getD (ap g y) none≠none
 |0,q,row,hf,h,hq=>by
  have:q= []:=Co (by omega)
  subst this
  exact ⟨h,λ_ _ h=>h,λy t g e Rv=>by
   rcases hq.2 y (by rw [show row.getD y none=some t from e];simp) with h1|h1
   ·cases h1
   ·exact h1 g Rv⟩
 |f+1,[],row,hf,h,hq=>⟨h,λ_ _ h=>h,λy t g e Rv=>by
   rcases hq.2 y (by rw [show row.getD y none=some t from e];simp) with h1|h1
   ·cases h1
   ·exact h1 g Rv⟩
 |f+1,x::q,row,hf,h,hq=>by
  obtain ⟨e1,e2,_⟩:=NQ eW hg h hq
  obtain ⟨r1,r2,r3⟩:=Abv eW hg f _ _ (by have:=e1.phi;simp only [Av] at hf;omega) e1.ok e2
  exact ⟨r1,λy t e=>r2 y t (e1.mono y t e),r3⟩
theorem Uj {row:Row} {y:Int} :y∈Ku row↔ ∃yn:Nat,y=yn/\row.getD yn none≠none:=by
 unfold Ku
 rw [Bm,Nk]
 constructor
 ·rintro ⟨h1,h2⟩
  exact ⟨y.toNat,by omega,Option.ne_none_iff_isSome.2 h2⟩
 ·rintro ⟨yn,rfl,h⟩
  obtain ⟨t,ht⟩:=Jy.1 h
  exact ⟨by have:=nS ht;omega,by simpa using Option.ne_none_iff_isSome.1 h⟩
theorem zU (row:Row):(Ku row).length<=row.length:=by
 unfold Ku
 refine Hq (List.length_filter_le _ _) (by simp [upto])
theorem jn (row:Row):Lu row<=row.length:=List.countP_le_length
theorem HN {n l:Nat} {gs:List PO} (eW:l<n) (h2:n<=20) (hg:PG n l gs) {row:Row} (h:Uy n l gs row):
  Uy n l gs (Zi gs row)/\(∀y t,row.getD y none=some t->(Zi gs row).getD y none=some t)/\ ∀y t g,(Zi gs row).getD y none=some t->some g∈gs->(Zi gs row).getD (ap g y) none≠none:=
 Abv eW hg 100 _ _ (by have:=zU row;have:=jn row;have:=h.rl;omega) h ⟨λy hy=>Uj.1 hy,λy hy=> .inl (Uj.2 ⟨y,rfl,hy⟩)⟩
theorem EA {n l:Nat} {gs:List PO} (eW:l<n) (hg:PG n l gs): ∀(f:Nat) (q:List Int) (row:Row),q.length+Lu row<=f->Uy n l gs row->SW gs q row->an gs f q row=an gs (q.length+Lu row) q row
 |0,q,row,hf,_,_=>by
  have:q.length+Lu row=0:=by omega
  rw [this]
 |f+1,[],row,hf,_,_=>by
  cases h:([]:List Int).length+Lu row with
  |zero=>rfl
  |succ m=>rfl
 |f+1,x::q,row,hf,h,hq=>by
  obtain ⟨e1,e2,_⟩:=NQ eW hg h hq
  have Af0:=e1.phi
  have:(x::q).length+Lu row=(q.length+Lu row)+1:=by simp only [Av];omega
  rw [this]
  simp only [an]
  rw [EA eW hg f _ _ (by simp only [Av] at hf;omega) e1.ok e2,Af0]
def vT (row:Row):Nat:=row.countP (·.isSome)
theorem pf: ∀(a b:Row),a.length=b.length->(∀y t,a.getD y none=some t->b.getD y none=some t)->vT a<=vT b/\(vT a=vT b->a=b)
 | [],[],_,_=>⟨Aq _,λ_=>rfl⟩
 | [],_::_,h,_=>by simp at h
 |_::_,[],h,_=>by simp at h
 |x::a,y::b,h,hm=>by
  obtain ⟨h1,h2⟩:=pf a b (by simpa using h) λi t e=>by simpa using hm (i+1) t (by simpa using e)
  unfold vT at h1 h2⊢
  cases x with
  |none=>
   cases y with
   |none=>simp only [List.countP_cons];exact ⟨by simpa using h1,λe=>by rw [h2 (by simpa using e)]⟩
   |some u=>
    simp only [List.countP_cons,Option.isSome_none,Option.isSome_some]
    simp only [Ny,Df,Rb]
    exact ⟨by omega,λe=>by omega⟩
  |some t=>
   have:=hm 0 t (by simp)
   simp only [Xh] at this
   subst this
   simp only [List.countP_cons]
   exact ⟨by simpa using h1,λe=>by rw [h2 (by simpa using e)]⟩
def js (T:Ch):Nat->Nat->Nat
 |0,_=>0
 |k+1,l=>vT (T.getD l [])+js T k (l+1)
def GBf:Nat->Nat->Ch×Ch->Prop
 |0,_,_=>True
 |k+1,l,s=>GBf k (l+1) s/\(s.1.getD l []).length<=js s.2 (k+1) l
structure Vx (l0:Nat) (s s':Ch×Ch):Prop where
 Apj:s'.1.length=s.1.length
 GC:s'.2.length=s.2.length
 low: ∀i,i<l0->s'.1.getD i []=s.1.getD i []/\s'.2.getD i []=s.2.getD i []
 xm: ∀i o,o∈s.1.getD i []->o∈s'.1.getD i []
 vC: ∀i y t,(s.2.getD i []).getD y none=some t->(s'.2.getD i []).getD y none=some t
 Abu: ∀i,(s'.2.getD i []).length=(s.2.getD i []).length
theorem Vx.refl (l0:Nat) (s:Ch×Ch):Vx l0 s s:=⟨rfl,rfl,λ_ _=>⟨rfl,rfl⟩,λ_ _ h=>h,λ_ _ _ h=>h,λ_=>rfl⟩
theorem Vx.trans {l0 l1:Nat} {a b c:Ch×Ch} (h:Vx l0 a b) (k:Vx l1 b c) (hl:l0<=l1):Vx l0 a c:=
 ⟨k.Apj.trans h.Apj,k.GC.trans h.GC,λi hi=>⟨(k.low i (by omega)).1.trans (h.low i hi).1,(k.low i (by omega)).2.trans (h.low i hi).2⟩,λi o ho=>k.xm i o (h.xm i o ho),λi y t e=>k.vC i y t (h.vC i y t e),λi=>(k.Abu i).trans (h.Abu i)⟩
theorem Vx.Ii {l0 l1:Nat} {a b:Ch×Ch} (h:Vx l1 a b) (hl:l0<=l1):Vx l0 a b:=(Vx.refl l0 a).trans h hl
theorem cL {T T':Ch} : ∀(k l:Nat) (p:List Int),(∀i,l<=i->i<l+k->T'.getD i []=T.getD i [])->Hc T' k l p=Hc T k l p
 |0,_,_,_=>rfl
 |k+1,l,p,h=>by
  simp only [Hc]
  rw [h l (Aq _) (by omega)]
  split
  ·rfl
  ·exact cL k (l+1) _ λi h1 h2=>h i (by omega) (by omega)
theorem Uq {n:Nat} {s s':Ch×Ch} : ∀(k l:Nat),(∀i,l<=i->s'.1.getD i []=s.1.getD i []/\s'.2.getD i []=s.2.getD i [])->dT n k l s->dT n k l s'
 |0,l,h,hc=>by simp only [dT] at hc⊢;rw [(h l (Aq _)).1];exact hc
 |k+1,l,h,hc=>by
  simp only [dT] at hc⊢
  obtain ⟨c1,c2,c3⟩:=hc
  refine ⟨Uq k (l+1) (λi hi=>h i (by omega)) c1,?_,?_⟩
  ·rw [(h l (Aq _)).1,(h l (Aq _)).2]
   have e:(λq=>Hc s'.2 k (l+1) q=true)= λq=>Hc s.2 k (l+1) q=true:=funext λq=>by rw [cL k (l+1) q λi h1 h2=>(h i (by omega)).2]
   rw [e];exact c2
  ·rw [(h (l+1) (by omega)).1,(h l (Aq _)).1];exact c3
theorem ya {T T':Ch} : ∀(k l:Nat),(∀i,l<=i->T'.getD i []=T.getD i [])->js T' k l=js T k l
 |0,_,_=>rfl
 |k+1,l,h=>by simp only [js];rw [h l (Aq _),ya k (l+1) λi hi=>h i (by omega)]
theorem bJ {s s':Ch×Ch} : ∀(k l:Nat),(∀i,l<=i->s'.1.getD i []=s.1.getD i []/\s'.2.getD i []=s.2.getD i [])->GBf k l s->GBf k l s'
 |0,_,_,_=>trivial
 |k+1,l,h,hg=>⟨bJ k (l+1) (λi hi=>h i (by omega)) hg.1,by
  rw [(h l (Aq _)).1,ya (k+1) l λi hi=>(h i hi).2];exact hg.2⟩
theorem uu {T T':Ch} (hl: ∀i,(T'.getD i []).length=(T.getD i []).length) (hm: ∀i y t,(T.getD i []).getD y none=some t->(T'.getD i []).getD y none=some t):
  ∀(k l:Nat),js T k l<=js T' k l/\(js T k l=js T' k l-> ∀i,l<=i->i<l+k->T'.getD i []=T.getD i [])
 |0,l=>⟨Aq _,λ_ i h1 h2=>by omega⟩
 |k+1,l=>by
  obtain ⟨h1,h2⟩:=uu hl hm k (l+1)
  obtain ⟨h3,h4⟩:=pf (T.getD l []) (T'.getD l []) (hl l).symm (hm l)
  simp only [js]
  refine ⟨by omega,λe i g1 g2=>?_⟩
  by_cases hi:i=l
  ·subst hi;exact (h4 (by omega)).symm
  ·exact h2 (by omega) i (by omega) (by omega)
def V (n k l:Nat) (s:Ch×Ch):Prop:=s.1.length=n/\s.2.length=n/\dT n k l s/\GBf k l s
structure XV (n k l:Nat) (s:Ch×Ch) (p:List Int) (s':Ch×Ch):Prop where
 v:V n k l s'
 grow:Vx l s s'
 Ak9:Gn n (s'.1.getD l []) p
 gens: ∀o∈s'.1.getD l [],o∈s.1.getD l []\/o=some p
theorem Lvl.row {n l:Nat} {gs:List PO} {row:Row} {H:List Int->Prop} (h:Lvl n l gs row H):Uy n l gs row:=⟨h.rl,h.r0,h.rt⟩
theorem jJ {row:Row} {y:Nat} {t g t':List Int} (h1:row.getD y none=some t) (h2:row.getD (ap g y) none=some t'):Tw row (y:Int) (some g)=Af (Af t g) (Bb t'):=by
 unfold Tw
 rw [Ac,h1,Bx,Bx,show (Cr g (y:Int)).toNat=ap g y from rfl,h2,Bx]
theorem pK {n l:Nat} {gs:List PO} {row:Row} (hg:PG n l gs) (_h:Uy n l gs row) (hc: ∀y t g,row.getD y none=some t->some g∈gs->row.getD (ap g y) none≠none) {q:List Int} :
  q∈gO row gs↔ ∃(y:Nat) (t g t':List Int),row.getD y none=some t/\some g∈gs/\row.getD (ap g y) none=some t'/\q=Af (Af t g) (Bb t'):=by
 unfold gO
 rw [Fz]
 constructor
 ·rintro ⟨y,hy,hq⟩
  obtain ⟨o,ho,rfl⟩:=Ba.1 hq
  obtain ⟨yn,rfl,hyn⟩:=Uj.1 hy
  obtain ⟨t,ht⟩:=Jy.1 hyn
  obtain ⟨g,rfl,Tm,_⟩:=hg o ho
  obtain ⟨t',kT⟩:=Jy.1 (hc yn t g ht ho)
  exact ⟨yn,t,g,t',ht,ho,kT,jJ ht kT⟩
 ·rintro ⟨y,t,g,t',h1,h2,h3,rfl⟩
  obtain ⟨g',e,Tm,_⟩:=hg _ h2
  cases e
  exact ⟨(y:Int),Uj.2 ⟨y,rfl,by rw [h1];simp⟩,Ba.2 ⟨some g,h2,jJ h1 h3⟩⟩
theorem yO {n:Nat} (h1:1<=n) (h2:n<=20): ∀(k l:Nat) (p:List Int) (s:Ch×Ch),l+k=n->V n k l s->Pm n p->Fx l p->XV n k l s p (Hl k l p s)
 |0,l,p,s,hk,hv,hp,hf=>by
  have hl:l=n:=by omega
  subst hl
  exact ⟨hv,Vx.refl _ _,by rw [hf.all hp];exact .id,λo ho=> .inl ho⟩
 |k+1,l,p,s,hk,hv,hp,hf=>by
  have eW:l<n:=by omega
  obtain ⟨v1,v2,hc,xt⟩:=hv
  have kq:=hc
  obtain ⟨c1,c2,c3⟩:=hc
  unfold Hl
  by_cases hh:Hc s.2 (k+1) l p=true
  ·rw [Ab hh]
   exact ⟨⟨v1,v2,kq,xt⟩,Vx.refl _ _,(Ue h1 h2 (k+1) l s hk kq p hp hf).1 hh,λo ho=> .inl ho⟩
  rw [Ak hh]
  generalize lp:s.1.getD l []++ [some p]=gs
  have Zu:some p∈gs:=by rw [<-lp];simp
  have Jl: ∀o∈s.1.getD l [],o∈gs:= λo ho=>by rw [<-lp];exact Bi _ ho
  have hg:PG n l gs:= λo ho=>by
   rw [<-lp] at ho
   rcases Az.1 ho with ho|ho
   ·exact c2.pg o ho
   ·rw [Ae] at ho;exact ⟨p,ho,hp,hf⟩
  have Aop:Uy n l gs (s.2.getD l []):=⟨c2.rl,c2.r0,λy t e=>⟨(c2.rt y t e).1,(c2.rt y t e).2.1,(c2.rt y t e).2.2.1,(c2.rt y t e).2.2.2.mono λg hg=>Jl _ hg⟩⟩
  obtain ⟨r1,r2,r3⟩:=HN eW h2 hg Aop
  generalize hR:Zi gs (s.2.getD l [])=R at r1 r2 r3
  have hS:DA n λg=>some g∈gs:=⟨⟨h1,h2⟩,λg Rv=>by obtain ⟨g',e,h,_⟩:=hg _ Rv;cases e;exact h⟩
  have uH: ∀i,((s.1.set l gs).getD i []=if i=l then gs else s.1.getD i [])/\(s.2.set l R).getD i []=if i=l then R else s.2.getD i []:= λi=>by
   rw [Ke,Ke]
   by_cases e:l=i
   ·subst e;rw [Ab ⟨rfl,by omega⟩,Ab rfl,Ab ⟨rfl,by omega⟩,Ab rfl];exact ⟨rfl,rfl⟩
   ·rw [Ak (λhh=>e hh.1),Ak (Gb e),Ak (λhh=>e hh.1),Ak (Gb e)];exact ⟨rfl,rfl⟩
  have xz: ∀i,l+1<=i->(s.1.set l gs).getD i []=s.1.getD i []/\(s.2.set l R).getD i []=s.2.getD i []:= λi hi=>by
   rw [(uH i).1,(uH i).2,Ak (by omega),Ak (by omega)];exact ⟨rfl,rfl⟩
  have kS:V n k (l+1) (s.1.set l gs,s.2.set l R):=⟨by simpa using v1,by simpa using v2,Uq k (l+1) xz c1,bJ k (l+1) xz xt.1⟩
  have mw:Vx l s (s.1.set l gs,s.2.set l R):=by
   refine ⟨by simp,by simp,λi hi=>?_,λi o ho=>?_,λi y t e=>?_,λi=>?_⟩
   ·rw [(uH i).1,(uH i).2,Ak (by omega),Ak (by omega)];exact ⟨rfl,rfl⟩
   ·rw [(uH i).1]
    split
    ·rename_i hi;subst hi;exact Jl o ho
    ·exact ho
   ·rw [(uH i).2]
    split
    ·rename_i hi;subst hi;exact r2 y t e
    ·exact e
   ·rw [(uH i).2]
    split
    ·rename_i hi;subst hi;rw [r1.rl,c2.rl]
    ·rfl
  have hq: ∀q∈gO R gs,Pm n q/\Fx (l+1) q/\Gn n gs q:= λq hq=>by
   obtain ⟨y,t,g,t',e1,e2,e3,rfl⟩:=(pK hg r1 r3).1 hq
   obtain ⟨t1,t2,t3,t4⟩:=r1.rt _ _ e1
   obtain ⟨u1,u2,u3,u4⟩:=r1.rt _ _ e3
   obtain ⟨g',e,Tm,hgf⟩:=hg _ e2
   cases e
   exact ⟨(t1.comp Tm).comp u1.inv,Fx.div (t1.comp Tm) u1 (Fx.comp t1 Tm t2 hgf (by omega)) u2 eW (by rw [u3,Jh t1 Tm eW,t3]),cn.comp hS (.mul t4 e2) (cn.sq hS u4)⟩
  have fold: ∀(qs:List (List Int)) (s1:Ch×Ch),(∀q∈qs,Pm n q/\Fx (l+1) q)->V n k (l+1) s1->
    V n k (l+1) (qs.foldl (λs q=>Hl k (l+1) q s) s1)/\Vx (l+1) s1 (qs.foldl (λs q=>Hl k (l+1) q s) s1)/\
     (∀q∈qs,Gn n ((qs.foldl (λs q=>Hl k (l+1) q s) s1).1.getD (l+1) []) q)/\ ∀o∈(qs.foldl (λs q=>Hl k (l+1) q s) s1).1.getD (l+1) [],o∈s1.1.getD (l+1) []\/ ∃q∈qs,o=some q:=by
   intro qs
   induction qs with
   |nil=>exact λs1 _ hv=>⟨hv,Vx.refl _ _,(λq hq=>by cases hq),λo ho=>Or.inl ho⟩
   |cons q qs ih=>
    intro s1 TZ hv
    have ha:=yO h1 h2 k (l+1) q s1 (by omega) hv (TZ q (by simp)).1 (TZ q (by simp)).2
    obtain ⟨g1,g2,g3,g4⟩:=ih (Hl k (l+1) q s1) (λq' gJ=>TZ q' (by simp [gJ])) ha.v
    simp only [Nm]
    refine ⟨g1,ha.grow.trans g2 (Aq _),λq' gJ=>?_,λo ho=>?_⟩
    ·rcases Bc.1 gJ with rfl|gJ
     ·exact ha.Ak9.mono λg hg=>g2.xm _ _ hg
     ·exact g3 q' gJ
    ·rcases g4 o ho with h|⟨q',gJ,h⟩
     ·rcases ha.gens o h with h|h
      ·exact .inl h
      ·exact .inr ⟨q,by simp,h⟩
     ·exact .inr ⟨q',by simp [gJ],h⟩
  obtain ⟨f1,f2,f3,f4⟩:=fold (gO R gs) (s.1.set l gs,s.2.set l R) (λq h=>⟨(hq q h).1,(hq q h).2.1⟩) kS
  generalize (gO R gs).foldl (λs q=>Hl k (l+1) q s) (s.1.set l gs,s.2.set l R)=s' at f1 f2 f3 f4
  obtain ⟨w1,w2,w3,w4⟩:=f1
  have el1:s'.1.getD l []=gs:=by rw [(f2.low l (by omega)).1,(uH l).1,Ab rfl]
  have el2:s'.2.getD l []=R:=by rw [(f2.low l (by omega)).2,(uH l).2,Ab rfl]
  have tC:=mw.trans f2 (by omega)
  have Ajk:Lvl n l gs R (λq=>Hc s'.2 k (l+1) q=true):=⟨hg,r1.rl,r1.r0,r1.rt,r3,λy t g t' e1 e2 e3=>by
   have hm:=(pK hg r1 r3).2 ⟨y,t,g,t',e1,e2,e3,rfl⟩
   exact (Ue h1 h2 k (l+1) s' (by omega) w3 _ (hq _ hm).1 (hq _ hm).2.1).2 (f3 _ hm)⟩
  have FH:dT n (k+1) l s':=⟨w3,by rw [el1,el2];exact Ajk,λg Rv=>by
   rw [el1]
   rcases f4 _ Rv with h|⟨q,gJ,h⟩
   ·rw [(xz (l+1) (Aq _)).1] at h
    exact (c3 g h).mono λg hg=>Jl _ hg
   ·cases h;exact (hq _ gJ).2.2⟩
  have Rw:Gn n (s'.1.getD l []) p:=by rw [el1];exact cn.one hS Zu
  refine ⟨⟨w1,w2,FH,w4,?_⟩,tC,Rw,λo ho=>?_⟩
  ·have hold:=xt.2
   obtain ⟨p1,p2⟩:=uu tC.Abu tC.vC (k+1) l
   have Ig:js s.2 (k+1) l≠js s'.2 (k+1) l:= λe=>by
    have:=cL (k+1) l p (p2 e)
    rw [(Ue h1 h2 (k+1) l s' hk FH p hp hf).2 Rw] at this
    exact hh this.symm
   rw [el1,<-lp,Ay,Bu]
   omega
  ·rw [el1,<-lp] at ho
   rcases Az.1 ho with ho|ho
   ·exact .inl ho
   ·rw [Ae] at ho;exact .inr ho
theorem Abg {n l:Nat} {gs:List PO} {R:Row} (eW:l<n) (hg:PG n l gs) (r1:Uy n l gs R) (r3: ∀y t g,R.getD y none=some t->some g∈gs->R.getD (ap g y) none≠none): ∀q∈gO R gs,Pm n q/\Fx (l+1) q:=by
 intro q hq
 obtain ⟨y,t,g,t',e1,e2,e3,rfl⟩:=(pK hg r1 r3).1 hq
 obtain ⟨t1,t2,t3,t4⟩:=r1.rt _ _ e1
 obtain ⟨u1,u2,u3,u4⟩:=r1.rt _ _ e3
 obtain ⟨g',e,Tm,hgf⟩:=hg _ e2
 cases e
 exact ⟨(t1.comp Tm).comp u1.inv,Fx.div (t1.comp Tm) u1 (Fx.comp t1 Tm t2 hgf (by omega)) u2 eW (by rw [u3,Jh t1 Tm eW,t3])⟩
theorem V.lower {n k l:Nat} {s:Ch×Ch} (h:V n (k+1) l s) (gs:List PO) (R:Row):V n k (l+1) (s.1.set l gs,s.2.set l R):=by
 obtain ⟨v1,v2,hc,xt⟩:=h
 have xz: ∀i,l+1<=i->(s.1.set l gs).getD i []=s.1.getD i []/\(s.2.set l R).getD i []=s.2.getD i []:= λi hi=>by
  rw [Ke,Ke,Ak (by omega),Ak (by omega)];exact ⟨rfl,rfl⟩
 exact ⟨by simpa using v1,by simpa using v2,Uq k (l+1) xz hc.1,bJ k (l+1) xz xt.1⟩
theorem QP {n k l:Nat} (h1:1<=n) (h2:n<=20) (hk:l+k=n): ∀(qs:List (List Int)) (s1:Ch×Ch),(∀q∈qs,Pm n q/\Fx l q)->V n k l s1->
  V n k l (qs.foldl (λs q=>Hl k l q s) s1)/\Vx l s1 (qs.foldl (λs q=>Hl k l q s) s1)
 | [],s1,_,hv=>⟨hv,Vx.refl _ _⟩
 |q::qs,s1,TZ,hv=>by
  have ha:=yO h1 h2 k l q s1 hk hv (TZ q (by simp)).1 (TZ q (by simp)).2
  obtain ⟨g1,g2⟩:=QP h1 h2 hk qs (Hl k l q s1) (λq' gJ=>TZ q' (by simp [gJ])) ha.v
  exact ⟨g1,ha.grow.trans g2 (Aq _)⟩
theorem Abl {n:Nat} {s:Ch×Ch} : ∀(k l:Nat),dT n k l s->js s.2 k l<=n*k
 |0,_,_=>by simp [js]
 |k+1,l,hc=>by
  have h1:=Abl k (l+1) hc.1
  have h2:vT (s.2.getD l [])<=n:=by
   have:=hc.2.1.rl
   have h3:vT (s.2.getD l [])<=(s.2.getD l []).length:=List.countP_le_length
   omega
  simp only [js]
  rw [Nat.mul_succ]
  omega
theorem QT {n k l:Nat} {s:Ch×Ch} (h2:n<=20) (hk:l+(k+1)=n) (h:V n (k+1) l s):(s.1.getD l []).length<=400:=by
 have h3:=h.2.2.2.2
 have h4:=Abl (k+1) l h.2.2.1
 have h5:n*(k+1)<=20*20:=dO h2 (by omega)
 omega
theorem V.lvl {n k l:Nat} {s:Ch×Ch} (h:V n (k+1) l s):Lvl n l (s.1.getD l []) (s.2.getD l []) (λq=>Hc s.2 k (l+1) q=true):=h.2.2.1.2.1
theorem V.pg {n k l:Nat} {s:Ch×Ch} (h:V n (k+1) l s) {p:List Int} (hp:Pm n p) (hf:Fx l p):PG n l (s.1.getD l []++ [some p]):= λo ho=>by
 rcases Az.1 ho with ho|ho
 ·exact h.lvl.pg o ho
 ·rw [Ae] at ho;exact ⟨p,ho,hp,hf⟩
theorem V.Avc {n k l:Nat} {s:Ch×Ch} (h:V n (k+1) l s) (p:List Int):Uy n l (s.1.getD l []++ [some p]) (s.2.getD l []):=
 ⟨h.lvl.rl,h.lvl.r0,λy t e=>⟨(h.lvl.rt y t e).1,(h.lvl.rt y t e).2.1,(h.lvl.rt y t e).2.2.1,(h.lvl.rt y t e).2.2.2.mono λ_ hg=>Bi _ hg⟩⟩
theorem wC {α:Type} (xs:List (List α)) (i:Nat) (h:i<xs.length):xs.set i (xs.getD i [])=xs:=by
 refine List.ext_getElem (by simp) λj h1 h2=>?_
 rw [List.getElem_set]
 split
 ·rename_i e;subst e;rw [Al,Ad h];rfl
 ·rfl
theorem dt {α:Type} (xs:List (List α)) (i:Nat) (h:i<xs.length) (r:List α):(xs.set i r).getD i []=r:=by
 rw [Ke,Ab ⟨rfl,h⟩]
noncomputable abbrev Qn:MSpec:=ir [none] [(false, .Fe tLO)] false [none] [.row tI 2] (λx=>List.length x.1<=20) (λx=>((Ku x.1,()),()))
noncomputable abbrev Jo:Spec:=Ht (.pair tL (.pair tL .unit)) tO false true (λx=>(0<x.1.length/\x.1.length<=20)/\Rk x.2.1.length x.1) (λx=>some (Af x.1 x.2.1))
noncomputable abbrev Mm:Spec:=Ht (.pair tL (.pair tL .unit)) tL false false (λx=>x.1.length<=20/\Rk x.2.1.length x.1) (λx=>Af x.1 x.2.1)
noncomputable abbrev Vj:Spec:=Ht (.pair tI .unit) tL false true (λx=>0<=x.1/\x.1<=20) (λx=>upto x.1.toNat)
noncomputable abbrev Pf:Spec:=Ht (.pair tI .unit) tO false true (λx=>1<=x.1/\x.1<=20) (λx=>some (upto x.1.toNat))
abbrev vQ:TypeId:=27
structure Vw (N L:Nat) (n:Int) (G T:Ch) (l:Int) (p:List Int):Prop where
 n1:1<=N
 n2:N<=20
 en:n=N
 el:l=L
 le:L<=N
 v:V N (N-L) L (G,T)
 pm:Pm N p
 fx:Fx L p
noncomputable abbrev yk:Spec:=Ht (.pair (.ptr df) (.pair tI (.pair tL .unit))) .bool false true (λx=> ∃N L,Vw N L x.1.1 x.1.2.1 x.1.2.2.1 x.2.1 x.2.2.1) (λx=>Hc x.1.2.2.1 (x.1.1-x.2.1).toNat x.2.1.toNat x.2.2.1)
noncomputable abbrev Ai6:MSpec:= {ptr:=some (198,3),Hw:= [none,none],ins:= [(false, .Fe tI),(false, .Bo tO vQ true),(false, .Bo tO vQ true),(false, .Fe tI),(false, .Fe tO)],Gl:=false,Gz:= [],outs:= [.Fe tI, .Bo tO vQ false, .Bo tO vQ false],fn:= λ_=>none,keeps:= [(1,1),(2,2)],Fm:= λx=>x.2.2.2.1.toNat}
noncomputable abbrev Wq (m:Nat):MSpec:=dS Ai6 (λx=>(∃N L q,x.2.2.2.2.1=some q/\Vw N L x.1 x.2.1 x.2.2.1 x.2.2.2.1 q)/\(x.1-x.2.2.2.1).toNat<m)
 (λx=>((x.1,(Hl (x.1-x.2.2.2.1).toNat x.2.2.2.1.toNat (x.2.2.2.2.1.getD []) (x.2.1,x.2.2.1)).1,(Hl (x.1-x.2.2.2.1).toNat x.2.2.2.1.toNat (x.2.2.2.2.1.getD []) (x.2.1,x.2.2.1)).2,()),()))
theorem JI (n:Int) (P:List Int->Prop):(((0:Int)<=n/\n<(↑Dn:Int)+(1:Int))/\n=n/\0=0/\(List.replicate n.toNat (Int.ofNat (nat_lit 0))).length=(List.replicate n.toNat (Int.ofNat (nat_lit 0))).length/\Ev (λ(v2:Int×List Int×PUnit) (k3:Int×List Int×PUnit->Prop)=>Br (decide (v2.1<(↑(List.replicate n.toNat (Int.ofNat (nat_lit 0))).length:Int))) (((0:Int)<=v2.1/\v2.1<(↑v2.2.1.length:Int))/\0+v2.1.toNat<v2.2.1.length/\0=0/\v2.2.1.length=(v2.2.1.set (0+v2.1.toNat) v2.1).length/\k3 (IntKind.i64.wrap (v2.1+(1:Int)),v2.2.1.set (0+v2.1.toNat) v2.1,())) (P (List.take v2.2.1.length (List.drop 0 v2.2.1)))) ((0:Int),List.replicate n.toNat (Int.ofNat (nat_lit 0)),PUnit.unit))=fnW Hz (look []) Vj Try.f120 (n,()) P:=by kernel_rfl
theorem XD (row:List (Option (List Int))) (P:(List Int×Unit)×Unit->Prop):(0=0/\0=([]:List Int).length/\Ev (λ(v2:Int×List Int×PUnit) (k3:Int×List Int×PUnit->Prop)=>Br (decide (v2.1<(↑row.length:Int))) (∃(y4:Option (List Int)),idx row v2.1=some y4/\Br (!y4.isNone) (0=0/\v2.2.1.length=v2.2.1.length/\v2.2.1.length+(List.take 1 (List.drop 0 [v2.1])).length<=Dn/\0=0/\(v2.2.1++List.take 1 (List.drop 0 [v2.1])).length=(v2.2.1++List.take 1 (List.drop 0 [v2.1])).length/\k3 (IntKind.i64.wrap (v2.1+(1:Int)),v2.2.1++List.take 1 (List.drop 0 [v2.1]),())) (0=0/\v2.2.1.length=v2.2.1.length/\k3 (IntKind.i64.wrap (v2.1+(1:Int)),v2.2.1,()))) (P ((List.take v2.2.1.length (List.drop 0 v2.2.1),()),()))) ((0:Int),[],PUnit.unit))=fnMW aY (look []) Qn Try.f213 (row,()) P:=by kernel_rfl
theorem Aqg (c:Int×List (List (Option (List Int)))×List (List (Option (List Int)))×Unit) (l:Int) (p:List Int) (P:Bool->Prop):(Ev (λ(v4:List Int×Int×PUnit) (k5:List Int×Int×PUnit->Prop)=>Br (decide (v4.2.1<c.1)) (∃(y6:List (Option (List Int))),idx c.2.2.1 v4.2.1=some y6/\ ∃(y7:Int),idx v4.1 v4.2.1=some y7/\ ∃(y8:Option (List Int)),idx y6 y7=some y8/\Br y8.isNone (P false) (∃(y9:List Int),Fp.fn (y8.getD [],())=some y9/\ ∃(Qp:List Int),Mm.fn (v4.1,y9,())=some Qp/\k5 (Qp,IntKind.i64.wrap (v4.2.1+(1:Int)),()))) (P true)) (p,l,PUnit.unit))=fnW aY (look [(143,Fp),(142,Mm)]) yk Try.f229 (c,l,p,()) P:=by kernel_rfl
theorem Sound.loose {P:Program} {f:FuncId} {arg res:Ty} {pre:arg.den->Prop} {val:arg.den->res.den} (h:Sound P f (Go.Proofs.Ytkkdpknjohcekaa.Ht arg res false true pre val)):Sound P f (Go.Proofs.Ytkkdpknjohcekaa.Ht arg res false false pre val):=
 ⟨h.enter,λw S vs x y h1 h2 h3=>Calls.mono (h.calls w S vs x y h1 h2 h3) λe' w' hr=>by
  obtain ⟨v,g1,g2,g3⟩:=hr
  exact ⟨v,g1,g2,Da.Ii (S:= λb=>S b\/(true=true/\b<w.heap.size)) g3 λk _ hk=>hk.elim .inl λhh=>absurd (show false=true from hh.1) (by simp)⟩⟩
theorem uR:Sound Try.prog 142 Mm:=Sound.loose Ws
theorem uS:Sound Try.prog 142 Jo:=Sound.toO Ws λx h=>⟨⟨h.1.2,h.2⟩,λe=>by
 have:=Oz x.1 x.2.1
 rw [e] at this
 have:=h.1.1
 simp only [Di] at*
 omega⟩
theorem HO (n:Int) (h:0<=n/\n<=20):fnW Hz (look []) Vj Try.f120 (n,()) (λ(z:List Int)=>z=upto n.toNat):=by
 refine Eq.mp (JI n _) ⟨⟨by omega,by show n<(4294967296:Int)+1;omega⟩,rfl,rfl,rfl,?_⟩
 refine Cj n.toNat (λv=>v.1) (λj v=>v.2.1.length=n.toNat/\v.2.1.take j=upto j) rfl ⟨by simp,by simp [upto]⟩ ?_
 rintro j ⟨i,ys,⟨⟩⟩ K hj hi ⟨h1,h2⟩ hK
 dsimp only at hi h1 h2⊢
 subst hi
 rw [Dt]
 simp only [Ac,Bn]
 refine Br.dec (λhl=>⟨⟨by omega,by omega⟩,by omega,trivial,by rw [Bv],?_⟩) λhl=>?_
 ·rw [Cd (by omega)]
  refine hK (by omega) _ rfl ⟨by rw [Bv];exact h1,?_⟩
  rw [Hp,List.take_set_of_le (by omega),h2,List.getElem?_set_self (by omega),Yw]
  rfl
 ·have:j=ys.length:=by omega
  subst this
  rw [Bg] at h2
  rw [Dy,Bg,h2,h1]
theorem gU:Sound Try.prog 120 Vj:=
 Sound.Ht Ge Cb mixed Try.func120 (by kernel_rfl) (by kernel_rfl) λx h=>HO x.1 h
theorem SS {n:Int} (h:1<=n/\n<=20):(0<=n/\n<=20)/\upto n.toNat≠ []:=⟨by omega,λe=>by
 have:=Cx List.length e
 simp [upto] at this
 omega⟩
theorem rZ:Sound Try.prog 120 Pf:=Sound.toO gU λ_ h=>SS h
theorem HM {row:Row} {j:Nat} :(upto (j+1)).filter (λy=>(row.getD y.toNat none).isSome)=(upto j).filter (λy=>(row.getD y.toNat none).isSome)++if (row.getD j none).isSome=true then [(j:Int)] else []:=by
 rw [Yw,List.filter_append]
 congr 1
 simp only [List.filter_cons,List.filter_nil,Ac]
theorem VH (row:List (Option (List Int))) (h:List.length row<=20):fnMW aY (look []) Qn Try.f213 (row,()) (λ(z:(List Int×Unit)×Unit)=>z=((Ku row,()),())):=by
 refine Eq.mp (XD row _) ⟨rfl,rfl,?_⟩
 refine Cj row.length (λv=>v.1) (λj v=>v.2.1=(upto j).filter (λy=>(row.getD y.toNat none).isSome)) rfl rfl ?_
 rintro j ⟨i,ys,⟨⟩⟩ K hj hi h1 hK
 dsimp only at hi h1⊢
 subst hi
 refine Br.dec (λhl=>?_) λhl=>?_
 ·have hl:j<row.length:=by omega
  have hlen:ys.length<=j:=by rw [h1];refine Hq (List.length_filter_le _ _) (by simp [upto])
  have hg:row.getD j none=row[j]:=by rw [Al,Ad hl];rfl
  refine ⟨_,Dk hl,Br.of (λhb=>⟨rfl,rfl,?_,rfl,rfl,?_⟩) λhb=>⟨rfl,rfl,?_⟩⟩
  ·show ys.length+1<=4294967296
   omega
  ·rw [Cd (by omega)]
   refine hK hl _ rfl ?_
   show ys++ [(j:Int)]=_
   rw [HM,hg,h1,Ab (by cases e:row[j] with
    |none=>rw [e] at hb;simp at hb
    |some t=>rfl)]
  ·rw [Cd (by omega)]
   refine hK hl _ rfl ?_
   show ys=_
   rw [HM,hg,h1,Ak (by cases e:row[j] with
    |none=>simp
    |some t=>rw [e] at hb;simp at hb),List.append_nil]
 ·have:j=row.length:=by omega
  subst this
  rw [Dy,Bg,h1]
  rfl
theorem lE:Ci Try.prog 213 Qn:=
 Ci.ir qn Cb mixed Try.func213 (by kernel_rfl) (by kernel_rfl) λx h=>VH x.1 h
theorem dY {n:Nat} {s:Ch×Ch} : ∀(k l:Nat),dT n k l s-> ∀i,l<=i->i<l+k->Lvl n i (s.1.getD i []) (s.2.getD i []) (λq=>Hc s.2 (l+k-i-1) (i+1) q=true)
 |0,_,_,i,h1,h2=>by omega
 |k+1,l,hc,i,h1,h2=>by
  obtain ⟨c1,c2,_⟩:=hc
  by_cases e:i=l
  ·subst e
   rw [show i+(k+1)-i-1=k by omega]
   exact c2
  ·have:=dY k (l+1) c1 i (by omega) (by omega)
   rwa [show l+1+k-i-1=l+(k+1)-i-1 by omega] at this
theorem qK {α:Type} {xs:List (List α)} {i:Nat} (h:i<xs.length):xs.getD i []=xs[i]:=by
 rw [Al,Ad h];rfl
theorem FD {α:Type} {xs:List (Option α)} {i:Nat} (h:i<xs.length):xs.getD i none=xs[i]:=by
 rw [Al,Ad h];rfl
theorem Pm.row {n:Nat} {p:List Int} (h:Pm n p):Rk n p:=by
 have:=h.2.row
 rwa [h.1] at this
theorem Apw (c:Int×List (List (Option (List Int)))×List (List (Option (List Int)))×Unit) (l:Int) (p:List Int) (h: ∃N L,Vw N L c.1 c.2.1 c.2.2.1 l p):
  fnW aY (look [(143,Fp),(142,Mm)]) yk Try.f229 (c,l,p,()) (λ(z:Bool)=>z=Hc c.2.2.1 (c.1-l).toNat l.toNat p):=by
 obtain ⟨n,G,T,⟨⟩⟩:=c
 obtain ⟨N,L,h⟩:=h
 obtain ⟨n1,n2,en,el,hle,v,pm,fx⟩:=h
 dsimp only at en el v⊢
 subst en el
 refine Eq.mp (Aqg ((N:Int),G,T,()) (L:Int) p _) ?_
 obtain ⟨v1,v2,v3,v4⟩:=v
 dsimp only at v1 v2
 refine ⟨λv=> ∃i:Nat,L<=i/\i<=N/\v.2.1=i/\Pm N v.1/\Fx i v.1/\Hc T (N-i) i v.1=Hc T (N-L) L p,λv=>N-v.2.1.toNat,⟨L,Aq _,hle,rfl,pm,fx,rfl⟩,?_⟩
 rintro ⟨p',i',⟨⟩⟩ ⟨i,h1,h2,h3,h4,h5,h6⟩
 dsimp only at h3 h4 h5 h6⊢
 subst h3
 rw [show (((N:Int)-(L:Int)).toNat)=N-L by omega,show ((L:Int)).toNat=L by omega,<-h6]
 refine Br.dec (λhl=>?_) λhl=>?_
 ·have hl:i<N:=by omega
  have Ka:=dY (N-L) L v3 i h1 (by omega)
  obtain ⟨a1,a2⟩:=h4.Ss hl
  have hT:i<T.length:=by omega
  have hlen:T[i].length=N:=by have:=Ka.rl;dsimp only at this;rwa [qK hT] at this
  refine ⟨_,Dk hT,_,Dk (by rw [h4.1];exact hl),?_⟩
  have e1:p'[i]'(by rw [h4.1];exact hl)=(ap p' i:Int):=by rw [<-a1,Jj]
  rw [e1]
  refine ⟨_,Dk (by omega),?_⟩
  have e2:N-i=(N-i-1)+1:=by omega
  have e3:(T.getD i []).getD (Cr p' (i:Int)).toNat none=T[i][ap p' i]'(by omega):=by
   rw [qK hT];exact FD (by show ap p' i<_;omega)
  rw [e2]
  simp only [Hc,e3]
  refine Br.of (λhb=>?_) λhb=>?_
  ·cases e:T[i][ap p' i]'(by omega) with
   |none=>rfl
   |some t=>rw [e] at hb;simp at hb
  ·cases e:T[i][ap p' i]'(by omega) with
   |none=>rw [e] at hb;simp at hb
   |some t=>
    have ht:(T.getD i []).getD (ap p' i) none=some t:=by rw [<-e];exact e3
    obtain ⟨t1,t2,t3,t4⟩:=Ka.rt _ _ ht
    simp only [Bx]
    refine ⟨_,Ab ⟨by show t.length<=20;rw [t1.1];exact n2,t1.2.row⟩,_,Ab ⟨by show p'.length<=20;rw [h4.1];exact n2,by show Rk (Bb t).length p';rw [nY,t1.1];exact h4.row⟩,⟨i+1,by omega,by omega,Cd (by omega),h4.comp t1.inv,Fx.div h4 t1 h5 t2 hl t3,?_⟩,?_⟩
    ·rw [show N-(i+1)=N-i-1 by omega]
    ·show N-(IntKind.i64.wrap ((i:Int)+1)).toNat<N-((i:Int)).toNat
     rw [Cd (by omega)]
     omega
 ·rw [show N-i=0 by omega]
  rfl
theorem WB:Sound Try.prog 229 yk:=
 Sound.Ht qn (Be Wt (Be uR Cb)) mixed Try.func229 (by kernel_rfl) (by kernel_rfl) λx h=>Apw x.1 x.2.1 x.2.2.1 h
abbrev CB:Type:=Nat×Nat×Int×List (List (Option (List Int)))×Nat×List (List (Option (List Int)))×Nat×List Int×Int×PUnit
abbrev Acd:Type:=Nat×Int×List (List (Option (List Int)))×Nat×List (List (Option (List Int)))×Nat×List Int×Int×PUnit
abbrev Acg:Type:=Nat×List (List (Option (List Int)))×Nat×List (List (Option (List Int)))×Nat×List Int×Int×PUnit
abbrev Lf (G:List (List (Option (List Int)))) (l:Int) (p:Option (List Int)) (T:List (List (Option (List Int)))) (y7:Bool) (n:Int):Prop:=0=0/\(G.getD (0+l.toNat) []).length=(G.getD (0+l.toNat) []).length/\(G.getD (0+l.toNat) []).length+(List.take 1 (List.drop 0 [p])).length<=Dn/\((0:Int)<=l/\l<(↑G.length:Int))/\0=0/\(G.getD (0+l.toNat) []++List.take 1 (List.drop 0 [p])).length=(G.getD (0+l.toNat) []++List.take 1 (List.drop 0 [p])).length/\0+l.toNat=0+l.toNat/\ [(0,G.length),(0,G.length),(0,G.length),(0,T.length)]= [(0,G.length),(0,G.length),(0,G.length),(0,T.length)]/\(l,p,l,p,y7,l,l,0+l.toNat,p,List.take 1 (List.drop 0 [p]),0+l.toNat,G.set (0+l.toNat) (G.getD (0+l.toNat) []++List.take 1 (List.drop 0 [p])),min G.length (0+l.toNat),T,T.length,n,())=(l,p,l,p,y7,l,l,0+l.toNat,p,List.take 1 (List.drop 0 [p]),0+l.toNat,G.set (0+l.toNat) (G.getD (0+l.toNat) []++List.take 1 (List.drop 0 [p])),min G.length (0+l.toNat),T,T.length,n,PUnit.unit)
theorem Aqb {m:Nat} (n:Int) (G T:List (List (Option (List Int)))) (l:Int) (p:Option (List Int)) (P:(Int×List (List (Option (List Int)))×List (List (Option (List Int)))×Unit)×Unit->Prop):(∃(y7:Bool),yk.fn ((n,List.take G.length (List.drop 0 G),List.take T.length (List.drop 0 T),()),l,p.getD [],())=some y7/\Br y7 ((0=0/\G.length=G.length)/\(0=0/\T.length=T.length)/\(Wq (m+1)).Fm (n,G,T,l,p,())<=G.length/\(Wq (m+1)).Fm (n,G,T,l,p,())<=T.length/\P ((n,G,T,()),())) (((0:Int)<=l/\l<(↑G.length:Int))/\0=0/\(G.getD (0+l.toNat) []).length=(G.getD (0+l.toNat) []).length/\(G.getD (0+l.toNat) []).length+(List.take 1 (List.drop 0 [p])).length<=Dn/\((0:Int)<=l/\l<(↑G.length:Int))/\0=0/\(G.getD (0+l.toNat) []++List.take 1 (List.drop 0 [p])).length=(G.getD (0+l.toNat) []++List.take 1 (List.drop 0 [p])).length/\0+l.toNat=0+l.toNat/\(((0:Int)<=l/\l<(↑T.length:Int))/\ ∃(y8:(List Int×PUnit)×PUnit),Qn.fn (T.getD (0+l.toNat) [],())=some y8/\0=0/\(List.take y8.1.1.length (List.drop 0 y8.1.1)).length=(List.take y8.1.1.length (List.drop 0 y8.1.1)).length/\0=0/\G.length=(G.set (0+l.toNat) (G.getD (0+l.toNat) []++List.take 1 (List.drop 0 [p]))).length/\0=0/\T.length=T.length/\Ev (λ(v9:Acg) (k10:Acg->Prop)=>Br (decide ((↑v9.2.2.2.2.2.1.length:Int)>(0:Int))) (((0:Int)<=l/\l<(↑v9.2.1.length:Int))/\0=0/\(List.take v9.2.2.2.2.2.1.length (List.drop 0 v9.2.2.2.2.2.1)).length=(List.take v9.2.2.2.2.2.1.length (List.drop 0 v9.2.2.2.2.2.1)).length/\0=0/\v9.2.1.length=v9.2.1.length/\0=0/\v9.2.2.2.1.length=v9.2.2.2.1.length/\Ev (λ(v11:CB) (k12:CB->Prop)=>Br (decide (v11.2.2.1<(↑(v9.2.1.getD (0+l.toNat) []).length:Int))) (((0:Int)<=v11.2.2.1/\v11.2.2.1<(↑(v11.2.2.2.1.getD v11.2.1 []).length:Int))/\((0:Int)<=(0:Int)/\(0:Int)<(↑v11.2.2.2.2.2.2.2.1.length:Int))/\ ∃(hJ:Int),v11.2.2.2.2.2.2.2.1[0+Int.toNat (0:Int)]?=some hJ/\ ∃(Ub:Int),idx (((v11.2.2.2.1.getD v11.2.1 []).getD v11.2.2.1.toNat (none:Option (List Int))).getD []) hJ=some Ub/\((0:Int)<=Ub/\Ub<(↑(v11.2.2.2.2.2.1.getD v11.1 []).length:Int))/\Br ((v11.2.2.2.2.2.1.getD v11.1 []).getD Ub.toNat (none:Option (List Int))).isNone (((0:Int)<=(0:Int)/\(0:Int)<(↑v11.2.2.2.2.2.2.2.1.length:Int))/\ ∃(JT:Int),v11.2.2.2.2.2.2.2.1[0+Int.toNat (0:Int)]?=some JT/\((0:Int)<=JT/\JT<(↑(v11.2.2.2.2.2.1.getD v11.1 []).length:Int))/\ ∃(oU:Option (List Int)),Jo.fn (((v11.2.2.2.2.2.1.getD v11.1 []).getD JT.toNat (none:Option (List Int))).getD [],((v11.2.2.2.1.getD v11.2.1 []).getD v11.2.2.1.toNat (none:Option (List Int))).getD [],())=some oU/\((0:Int)<=Ub/\Ub<(↑(v11.2.2.2.2.2.1.getD v11.1 []).length:Int))/\0=0/\v11.2.2.2.2.2.2.2.1.length=v11.2.2.2.2.2.2.2.1.length/\v11.2.2.2.2.2.2.2.1.length+(List.take 1 (List.drop 0 [Ub])).length<=Dn/\0=0/\(List.take (v11.2.2.2.2.2.2.2.1++List.take 1 (List.drop 0 [Ub])).length (List.drop 0 (v11.2.2.2.2.2.2.2.1++List.take 1 (List.drop 0 [Ub])))).length=(List.take (v11.2.2.2.2.2.2.2.1++List.take 1 (List.drop 0 [Ub])).length (List.drop 0 (v11.2.2.2.2.2.2.2.1++List.take 1 (List.drop 0 [Ub])))).length/\0=0/\v11.2.2.2.1.length=v11.2.2.2.1.length/\0=0/\v11.2.2.2.2.2.1.length=(v11.2.2.2.2.2.1.set v11.1 ((v11.2.2.2.2.2.1.getD v11.1 []).set Ub.toNat oU)).length/\k12 (v11.1,v11.2.1,IntKind.i64.wrap (v11.2.2.1+(1:Int)),v11.2.2.2.1,v11.2.2.2.2.1,v11.2.2.2.2.2.1.set v11.1 ((v11.2.2.2.2.2.1.getD v11.1 []).set Ub.toNat oU),v11.2.2.2.2.2.2.1,List.take (v11.2.2.2.2.2.2.2.1++List.take 1 (List.drop 0 [Ub])).length (List.drop 0 (v11.2.2.2.2.2.2.2.1++List.take 1 (List.drop 0 [Ub]))),v11.2.2.2.2.2.2.2.2.1,())) (0=0/\(List.take v11.2.2.2.2.2.2.2.1.length (List.drop 0 v11.2.2.2.2.2.2.2.1)).length=(List.take v11.2.2.2.2.2.2.2.1.length (List.drop 0 v11.2.2.2.2.2.2.2.1)).length/\0=0/\v11.2.2.2.1.length=v11.2.2.2.1.length/\0=0/\v11.2.2.2.2.2.1.length=v11.2.2.2.2.2.1.length/\k12 (v11.1,v11.2.1,IntKind.i64.wrap (v11.2.2.1+(1:Int)),v11.2.2.2.1,v11.2.2.2.2.1,v11.2.2.2.2.2.1,v11.2.2.2.2.2.2.1,List.take v11.2.2.2.2.2.2.2.1.length (List.drop 0 v11.2.2.2.2.2.2.2.1),v11.2.2.2.2.2.2.2.2.1,()))) (((0:Int)<=(1:Int)/\(1:Int)<=(↑v11.2.2.2.2.2.2.2.1.length:Int)/\(↑v11.2.2.2.2.2.2.2.1.length:Int)<=(↑v11.2.2.2.2.2.2.2.1.length:Int))/\0=0/\(List.take ((↑v11.2.2.2.2.2.2.2.1.length:Int).toNat-Int.toNat (1:Int)) (List.drop (0+Int.toNat (1:Int)) v11.2.2.2.2.2.2.2.1)).length=(List.take ((↑v11.2.2.2.2.2.2.2.1.length:Int).toNat-Int.toNat (1:Int)) (List.drop (0+Int.toNat (1:Int)) v11.2.2.2.2.2.2.2.1)).length/\0=0/\v11.2.2.2.1.length=v11.2.2.2.1.length/\0=0/\v11.2.2.2.2.2.1.length=v11.2.2.2.2.2.1.length/\k10 (v11.1,v11.2.2.2.1,v11.2.2.2.2.1,v11.2.2.2.2.2.1,v11.2.2.2.2.2.2.1,List.take ((↑v11.2.2.2.2.2.2.2.1.length:Int).toNat-Int.toNat (1:Int)) (List.drop (0+Int.toNat (1:Int)) v11.2.2.2.2.2.2.2.1),v11.2.2.2.2.2.2.2.2.1,()))) (v9.1,0+l.toNat,(0:Int),v9.2.1,v9.2.2.1,v9.2.2.2.1,v9.2.2.2.2.1,List.take v9.2.2.2.2.2.1.length (List.drop 0 v9.2.2.2.2.2.1),v9.2.2.2.2.2.2.1,PUnit.unit)) (∃(Nu:(List Int×PUnit)×PUnit),Qn.fn (v9.2.2.2.1.getD v9.1 [],())=some Nu/\0=0/\Nu.1.1.length=Nu.1.1.length/\0=0/\v9.2.1.length=v9.2.1.length/\0=0/\v9.2.2.2.1.length=v9.2.2.2.1.length/\Ev (λ(mY:Acd) (k13:Acd->Prop)=>Br (decide (mY.2.1<(↑Nu.1.1.length:Int))) (((0:Int)<=mY.2.1/\mY.2.1<(↑mY.2.2.2.2.2.2.1.length:Int))/\ ∃(Ub:Int),mY.2.2.2.2.2.2.1[0+mY.2.1.toNat]?=some Ub/\((0:Int)<=l/\l<(↑mY.2.2.1.length:Int))/\0=0/\mY.2.2.2.2.2.2.1.length=mY.2.2.2.2.2.2.1.length/\0=0/\mY.2.2.1.length=mY.2.2.1.length/\0=0/\mY.2.2.2.2.1.length=mY.2.2.2.2.1.length/\Ev (λ(Qy:CB) (k16:CB->Prop)=>Br (decide (Qy.2.2.1<(↑(mY.2.2.1.getD (0+l.toNat) []).length:Int))) (((0:Int)<=Qy.2.2.1/\Qy.2.2.1<(↑(Qy.2.2.2.1.getD Qy.2.1 []).length:Int))/\((0:Int)<=Ub/\Ub<(↑(Qy.2.2.2.2.2.1.getD Qy.1 []).length:Int))/\ ∃(y17:Option (List Int)),Jo.fn (((Qy.2.2.2.2.2.1.getD Qy.1 []).getD Ub.toNat (none:Option (List Int))).getD [],((Qy.2.2.2.1.getD Qy.2.1 []).getD Qy.2.2.1.toNat (none:Option (List Int))).getD [],())=some y17/\ ∃(y18:Int),idx (((Qy.2.2.2.1.getD Qy.2.1 []).getD Qy.2.2.1.toNat (none:Option (List Int))).getD []) Ub=some y18/\((0:Int)<=y18/\y18<(↑(Qy.2.2.2.2.2.1.getD Qy.1 []).length:Int))/\ ∃(y19:List Int),Fp.fn (((Qy.2.2.2.2.2.1.getD Qy.1 []).getD y18.toNat (none:Option (List Int))).getD [],())=some y19/\ ∃(y20:Option (List Int)),Jo.fn (y17.getD [],y19,())=some y20/\0=0/\Qy.2.2.2.1.length=Qy.2.2.2.1.length/\0=0/\Qy.2.2.2.2.2.1.length=Qy.2.2.2.2.2.1.length/\ ∃(XU:(Int×List (List (Option (List Int)))×List (List (Option (List Int)))×PUnit)×PUnit),(Wq m).fn (Qy.2.2.2.2.2.2.2.2.1,Qy.2.2.2.1,Qy.2.2.2.2.2.1,IntKind.i64.wrap (l+(1:Int)),y20,())=some XU/\(Qy.1<(Wq m).Fm (Qy.2.2.2.2.2.2.2.2.1,Qy.2.2.2.1,Qy.2.2.2.2.2.1,IntKind.i64.wrap (l+(1:Int)),y20,())/\Qy.1<(List.length XU.1.2.2.1))/\(Qy.2.1<(Wq m).Fm (Qy.2.2.2.2.2.2.2.2.1,Qy.2.2.2.1,Qy.2.2.2.2.2.1,IntKind.i64.wrap (l+(1:Int)),y20,())/\Qy.2.1<(List.length XU.1.2.1))/\(Qy.1<(Wq m).Fm (Qy.2.2.2.2.2.2.2.2.1,Qy.2.2.2.1,Qy.2.2.2.2.2.1,IntKind.i64.wrap (l+(1:Int)),y20,())/\Qy.1<(List.length XU.1.2.2.1))/\(Qy.1<(Wq m).Fm (Qy.2.2.2.2.2.2.2.2.1,Qy.2.2.2.1,Qy.2.2.2.2.2.1,IntKind.i64.wrap (l+(1:Int)),y20,())/\Qy.1<(List.length XU.1.2.2.1))/\0=0/\Qy.2.2.2.2.2.2.2.1.length=Qy.2.2.2.2.2.2.2.1.length/\0=0/\XU.1.2.1.length=XU.1.2.1.length/\0=0/\XU.1.2.2.1.length=XU.1.2.2.1.length/\k16 (Qy.1,Qy.2.1,IntKind.i64.wrap (Qy.2.2.1+(1:Int)),XU.1.2.1,min Qy.2.2.2.2.1 ((Wq m).Fm (Qy.2.2.2.2.2.2.2.2.1,Qy.2.2.2.1,Qy.2.2.2.2.2.1,IntKind.i64.wrap (l+(1:Int)),y20,())),XU.1.2.2.1,min Qy.2.2.2.2.2.2.1 ((Wq m).Fm (Qy.2.2.2.2.2.2.2.2.1,Qy.2.2.2.1,Qy.2.2.2.2.2.1,IntKind.i64.wrap (l+(1:Int)),y20,())),Qy.2.2.2.2.2.2.2.1,XU.1.1,())) (0=0/\Qy.2.2.2.2.2.2.2.1.length=Qy.2.2.2.2.2.2.2.1.length/\0=0/\Qy.2.2.2.1.length=Qy.2.2.2.1.length/\0=0/\Qy.2.2.2.2.2.1.length=Qy.2.2.2.2.2.1.length/\k13 (Qy.1,IntKind.i64.wrap (mY.2.1+(1:Int)),Qy.2.2.2.1,Qy.2.2.2.2.1,Qy.2.2.2.2.2.1,Qy.2.2.2.2.2.2.1,Qy.2.2.2.2.2.2.2.1,Qy.2.2.2.2.2.2.2.2.1,()))) (mY.1,0+l.toNat,(0:Int),mY.2.2.1,mY.2.2.2.1,mY.2.2.2.2.1,mY.2.2.2.2.2.1,mY.2.2.2.2.2.2.1,mY.2.2.2.2.2.2.2.1,PUnit.unit)) ((0=0/\mY.2.2.1.length=mY.2.2.1.length)/\(0=0/\mY.2.2.2.2.1.length=mY.2.2.2.2.1.length)/\(Wq (m+1)).Fm (n,G,T,l,p,())<=mY.2.2.2.1/\(Wq (m+1)).Fm (n,G,T,l,p,())<=mY.2.2.2.2.2.1/\P ((mY.2.2.2.2.2.2.2.1,mY.2.2.1,mY.2.2.2.2.1,()),()))) (v9.1,(0:Int),v9.2.1,v9.2.2.1,v9.2.2.2.1,v9.2.2.2.2.1,Nu.1.1,v9.2.2.2.2.2.2.1,PUnit.unit))) (0+l.toNat,G.set (0+l.toNat) (G.getD (0+l.toNat) []++List.take 1 (List.drop 0 [p])),min G.length (0+l.toNat),T,T.length,List.take y8.1.1.length (List.drop 0 y8.1.1),n,PUnit.unit))/\(((((0:Int)<=l/\l<(↑G.length:Int))/\((Lf G l p T y7 n))/\(Lf G l p T y7 n))/\((0:Int)<=l/\l<(↑G.length:Int))/\(Lf G l p T y7 n))/\((0:Int)<=l/\l<(↑G.length:Int))/\(Lf G l p T y7 n))/\(((((0:Int)<=l/\l<(↑G.length:Int))/\((Lf G l p T y7 n))/\(Lf G l p T y7 n))/\((0:Int)<=l/\l<(↑G.length:Int))/\(Lf G l p T y7 n))/\(((0:Int)<=l/\l<(↑G.length:Int))/\(((Lf G l p T y7 n))/\(Lf G l p T y7 n))/\(((Lf G l p T y7 n))/\((Lf G l p T y7 n))/\(Lf G l p T y7 n))/\((Lf G l p T y7 n))/\((Lf G l p T y7 n))/\(Lf G l p T y7 n))/\(((0:Int)<=l/\l<(↑G.length:Int))/\(Lf G l p T y7 n))/\((0:Int)<=l/\l<(↑G.length:Int))/\((Lf G l p T y7 n))/\((Lf G l p T y7 n))/\(Lf G l p T y7 n))/\(((0:Int)<=l/\l<(↑G.length:Int))/\(Lf G l p T y7 n))/\(((0:Int)<=l/\l<(↑G.length:Int))/\(Lf G l p T y7 n))/\((0:Int)<=l/\l<(↑G.length:Int))/\((Lf G l p T y7 n))/\((Lf G l p T y7 n))/\(Lf G l p T y7 n)))=fnMW (Acj [Mk+7]) (look [(229,yk),(213,Qn),(142,Jo),(143,Fp),(212,bq.m (Wq m))]) (Wq (m+1)) Try.f212 (n,G,T,l,p,()) P:=by kernel_rfl
theorem DO {k l:Nat} {p:List Int} {s:Ch×Ch} (h:Hc s.2 k l p=true):Hl k l p s=s:=by
 cases k with
 |zero=>rfl
 |succ k=>unfold Hl;rw [Ab h]
theorem DN (k l:Nat) (p:List Int) (s:Ch×Ch):Hl (k+1) l p s=if Hc s.2 (k+1) l p=true then s else
   (gO (Zi (s.1.getD l []++ [some p]) (s.2.getD l [])) (s.1.getD l []++ [some p])).foldl (λs q=>Hl k (l+1) q s)
    (s.1.set l (s.1.getD l []++ [some p]),s.2.set l (Zi (s.1.getD l []++ [some p]) (s.2.getD l []))):=rfl
theorem zu {n:Nat} {p:List Int} (h:Pm n p) {i:Nat} (hi:i<n):idx p (i:Int)=some (ap p i:Int):=by
 have dP:i<p.length:=by rw [h.1];exact hi
 rw [Dk dP,<-(h.Ss hi).1,Jj dP]
theorem KO {x:Int} {gs:List PO} {j:Nat} (hj:j<gs.length) (s:Row×List Int):aE x (gs.take (j+1)) s=aN x (aE x (gs.take j) s) gs[j]:=by
 unfold aE
 rw [Hp,Ad hj,Ls,Vs]
 rfl
theorem KP {gs:List PO} {f:Nat} {row:Row} :an gs f [] row=row:=by cases f<;>rfl
theorem Xn {n:Nat} {p:List Int} (h:Pm n p):0<p.length/\p.length<=20:=⟨by rw [h.1];exact h.n1,by rw [h.1];exact h.n2⟩
theorem pY {n:Nat} {p q:List Int} (h:Pm n p) (k:Pm n q):Rk q.length p:=by rw [k.1];exact h.row
theorem Apr {m:Nat} (n:Int) (G T:List (List (Option (List Int)))) (l:Int) (p:Option (List Int)) (h:(∃N L q,p=some q/\Vw N L n G T l q)/\(n-l).toNat<m+1):
  fnMW (Acj [Mk+7]) (look [(229,yk),(213,Qn),(142,Jo),(143,Fp),(212,bq.m (Wq m))]) (Wq (m+1)) Try.f212 (n,G,T,l,p,()) (λ(z:(Int×List (List (Option (List Int)))×List (List (Option (List Int)))×Unit)×Unit)=>z=((n,(Hl (n-l).toNat l.toNat (p.getD []) (G,T)).1,(Hl (n-l).toNat l.toNat (p.getD []) (G,T)).2,()),())):=by
 obtain ⟨⟨N,L,q,rfl,h⟩,hm⟩:=h
 have h':=h
 obtain ⟨n1,n2,en,el,hle,v,pm,fx⟩:=h
 subst en el
 have hk:((N:Int)-(L:Int)).toNat=N-L:=by omega
 rw [hk,Ac]
 refine Eq.mp (Aqb (N:Int) G T (L:Int) (some q) _) ⟨_,Ab ⟨N,L,?a⟩,?b⟩
 case a=>
  simp only [Dy,Bg,Bx]
  exact h'
 obtain ⟨v1,v2,v3,v4⟩:=v
 dsimp only at v1 v2
 have hw:IntKind.i64.wrap ((L:Int)+1)=((L+1:Nat):Int):=Cd (by omega)
 simp only [Lf]
 simp only [Dy,Bg,Bx,hk,Ac,Bn,eq_self,true_and,Oa,List.take_succ_cons,List.take_zero,Av,Di,Bv,hw]
 refine Br.of (λhh=>⟨by show Int.toNat (L:Int)<=G.length;omega,by show Int.toNat (L:Int)<=T.length;omega,?_⟩) λhh=>?_
 ·rw [DO (s:=(G,T)) hh]
 obtain ⟨k,hNk⟩: ∃k,N-L=k+1:=by
  cases e:N-L with
  |zero=>rw [e] at hh;simp [Hc] at hh
  |succ k=>exact ⟨k,rfl⟩
 have hLN:L<N:=by omega
 have hv:V N (k+1) L (G,T):=by rw [<-hNk];exact ⟨v1,v2,v3,v4⟩
 rw [hNk] at hh⊢
 have e1:(0:Int)<=(L:Int)/\(L:Int)<(G.length:Int):=by omega
 have e1':(0:Int)<=(L:Int)/\(L:Int)<(T.length:Int):=by omega
 have hgl:(G.getD L []).length<=400:=QT n2 (by omega) hv
 have e2:(G.getD L []).length+1<=Dn:=by show _<=4294967296;omega
 simp only [e1,e1',e2,and_self,true_and,Oa]
 generalize lp:G.getD L []++ [some q]=gs
 have Ayr:gs.length<=401:=by rw [<-lp,Ay,Bu];omega
 have hg:PG N L gs:=by rw [<-lp];exact hv.pg pm fx
 have hr0:Uy N L gs (T.getD L []):=by rw [<-lp];exact hv.Avc q
 obtain ⟨r1,r2,r3⟩:=HN hLN n2 hg hr0
 generalize hR:Zi gs (T.getD L [])=R at r1 r2 r3
 have pB:Hl (k+1) L q (G,T)=(gO R gs).foldl (λs q=>Hl k (L+1) q s) (G.set L gs,T.set L R):=by
  rw [DN,Ak (by rw [hh];simp)]
  dsimp only
  rw [lp,hR]
 rw [pB]
 have hTl:L<T.length:=by omega
 have hGl:L<G.length:=by omega
 have hG1:(G.set L gs).getD L []=gs:=dt G L hGl gs
 have hT1: ∀row:Row,(T.set L row).getD L []=row:=dt T L hTl
 refine ⟨_,Ab (by show (T.getD L []).length<=20;rw [hr0.rl];exact n2),?_⟩
 dsimp only
 have hn0:(Ku (T.getD L [])).length+Lu (T.getD L [])<=40:=by have:=zU (T.getD L []);have:=jn (T.getD L []);have:=hr0.rl;omega
 have hq0:SW gs (Ku (T.getD L [])) (T.getD L []):=⟨λy hy=>Uj.1 hy,λy hy=> .inl (Uj.2 ⟨y,rfl,hy⟩)⟩
 refine ⟨λv=> ∃(row:Row) (qu:List Int) (kg kt:Nat),v=(L,G.set L gs,kg,T.set L row,kt,qu,(N:Int),())/\L<=kg/\L<=kt/\qu.length+Lu row<=40/\Uy N L gs row/\SW gs qu row/\an gs (qu.length+Lu row) qu row=R,
  fun v=>v.2.2.2.2.2.1.length+Lu (v.2.2.2.1.getD v.1 []),⟨T.getD L [],Ku (T.getD L []),min G.length L,T.length,?_,by omega,by omega,hn0,hr0,hq0,?_⟩,?_⟩
 ·rw [wC T L hTl]
 ·rw [<-EA hLN hg 100 _ _ (by omega) hr0 hq0];exact hR
 rintro v ⟨row,qu,kg,kt,rfl,hkg,hkt,hb,hro,hqi,ZK⟩
 dsimp only
 simp only [hG1,hT1,Bv]
 refine Br.dec (λhl=>⟨e1.2,?_⟩) λhl=>?_
 ·cases qu with
  |nil=>simp at hl
  |cons x qu=>
  obtain ⟨p1,p2,xn,t,rfl,ht⟩:=NQ hLN hg hro hqi
  have RN:xn<N:=by rw [<-hro.rl];exact nS ht
  refine Cj gs.length (λv=>v.2.2.1) (λj v=> ∃kg kt:Nat,v=(L,L,(j:Int),G.set L gs,kg,T.set L (aE (xn:Int) (gs.take j) (row,qu)).1,kt,(xn:Int)::(aE (xn:Int) (gs.take j) (row,qu)).2,(N:Int),())/\L<=kg/\L<=kt) rfl ⟨kg,kt,rfl,hkg,hkt⟩ ?_
  rintro j v K hj hi ⟨kg,kt,rfl,h1,h2⟩ hK
  dsimp only
  simp only [hG1,hT1,Ac]
  refine Br.dec (λhl=>?_) λhl=>?_
  ·have hl:j<gs.length:=by omega
   obtain ⟨x1,x2⟩:=Abm hLN hg (gs.take j) (q:=qu) (λo ho=>Er ho) hro ht
   have Rj:=KO (x:=(xn:Int)) hl (row,qu)
   generalize aE (xn:Int) (gs.take j) (row,qu)=s at x1 x2 Rj⊢
   obtain ⟨r,qq⟩:=s
   dsimp only at x1 x2⊢
   obtain ⟨g,oY,Tm,hgf⟩:=hg gs[j] (An hl)
   have htx:r.getD xn none=some t:=x1.mono _ _ ht
   obtain ⟨t1,t2,t3,t4⟩:=x1.ok.rt _ _ htx
   have KA:r.length=N:=x1.ok.rl
   have hgj:gs.getD j none=some g:=by rw [FD hl];exact oY
   have hy:=Tm.lt RN
   have hga:=(Tm.Ss RN).1
   have Af0:qq.length+Lu r=qu.length+Lu row:=x1.phi
   simp only [Av] at hb
   simp only [hgj,Bx]
   refine ⟨⟨by omega,by omega⟩,⟨by omega,by simp only [Av];omega⟩,_,rfl,_,zu Tm RN,⟨by omega,by omega⟩,?_⟩
   rw [oY] at Rj
   unfold aN at Rj
   dsimp only at Rj
   rw [Bx,hga,Ac,Ac,htx,Bx] at Rj
   rw [Ac]
   refine Br.of (λhn=>?_) λhn=>?_
   ·have hn:r.getD (ap g xn) none=none:=by
     cases e:r.getD (ap g xn) none with
     |none=>rfl
     |some u=>rw [e] at hn;simp at hn
    rw [hn] at Rj
    refine ⟨⟨by omega,by simp only [Av];omega⟩,_,rfl,⟨by omega,by omega⟩,some (Af t g),?_,⟨by omega,by omega⟩,?_,?_⟩
    ·rw [Ac,htx,Bx]
     exact Ab ⟨Xn t1,pY t1 Tm⟩
    ·show qq.length+1+1<=4294967296
     omega
    ·rw [Cd (by omega)]
     refine hK hl _ rfl ⟨kg,kt,?_,h1,h2⟩
     rw [Rj,List.set_set]
     rfl
   ·have hn: ∃u,r.getD (ap g xn) none=some u:=by
     cases e:r.getD (ap g xn) none with
     |none=>rw [e] at hn;simp at hn
     |some u=>exact ⟨u,rfl⟩
    obtain ⟨u,hn⟩:=hn
    rw [hn] at Rj
    rw [Cd (by omega)]
    refine hK hl _ rfl ⟨kg,kt,?_,h1,h2⟩
    rw [Rj]
  ·have:j=gs.length:=by omega
   subst this
   rw [Bg]
   generalize hs:aE (xn:Int) gs (row,qu)=s at p1 p2⊢
   obtain ⟨r,qq⟩:=s
   dsimp only at p1 p2⊢
   have Af0:qq.length+Lu r=qu.length+Lu row:=p1.phi
   simp only [Av] at hb ZK
   refine ⟨⟨by omega,by simp only [Av];omega,Pu _⟩,⟨r,qq,kg,kt,?_,h1,h2,by omega,p1.ok,p2,?_⟩,?_⟩
   ·simp
   ·rw [show qu.length+1+Lu row=(qu.length+Lu row)+1 by omega] at ZK
    simp only [an,hs] at ZK
    rw [Af0]
    exact ZK
   ·simp only [Av]
    have:(List.take (qq.length+1-Int.toNat 1) (List.drop (Int.toNat 1) ((xn:Int)::qq))).length=qq.length:=by simp
    rw [this]
    omega
 ·have:qu= []:=Co (by omega)
  subst this
  rw [KP] at ZK
  subst ZK
  have hpr:=Abg hLN hg hro r3
  have hvl:=hv.lower gs row
  have Ahe: ∀qs:List (List Int),(∀q∈qs,q∈gO row gs)->V N k (L+1) (qs.foldl (λs q=>Hl k (L+1) q s) (G.set L gs,T.set L row))/\Vx (L+1) (G.set L gs,T.set L row) (qs.foldl (λs q=>Hl k (L+1) q s) (G.set L gs,T.set L row)):=
   fun qs TZ=>QP n1 n2 (by omega) qs _ (λq hq=>hpr q (TZ q hq)) hvl
  refine ⟨_,Ab (by show row.length<=20;rw [hro.rl];exact n2),?_⟩
  dsimp only
  have hol:=zU row
  have KA:=hro.rl
  refine Cj (Ku row).length (λv=>v.2.1) (λi v=> ∃(s:Ch×Ch) (kg kt:Nat),v=(L,(i:Int),s.1,kg,s.2,kt,Ku row,(N:Int),())/\L<=kg/\L<=kt/\s=(((Ku row).take i).flatMap λy=>gs.map (Tw row y)).foldl (λs q=>Hl k (L+1) q s) (G.set L gs,T.set L row)) rfl ⟨_,kg,kt,rfl,hkg,hkt,rfl⟩ ?_
  rintro i v K hi dP ⟨s,kg,kt,rfl,h1,h2,hs⟩ hK
  dsimp only
  have Jl: ∀q∈((Ku row).take i).flatMap (λy=>gs.map (Tw row y)),q∈gO row gs:= λq hq=>by
   obtain ⟨y,hy,hq⟩:=Fz.1 hq
   exact Fz.2 ⟨y,Er hy,hq⟩
  refine Br.dec (λhl=>?_) λhl=>?_
  ·have hl:i<(Ku row).length:=by omega
   obtain ⟨f1,f2⟩:=Ahe _ Jl
   rw [<-hs] at f1 f2
   have g1:s.1.getD L []=gs:=by rw [(f2.low L (by omega)).1];exact hG1
   have g2:s.1.length=N:=f1.1
   obtain ⟨yn,hyn,hyr⟩:=Uj.1 (An hl)
   obtain ⟨t,ht⟩:=Jy.1 hyr
   have hyN:yn<N:=by rw [<-KA];exact nS ht
   obtain ⟨t1,t2,t3,t4⟩:=hro.rt _ _ ht
   refine ⟨⟨by omega,by omega⟩,(yn:Int),by rw [Ac,Ad hl,hyn],by omega,?_⟩
   rw [g1]
   refine Cj gs.length (λv=>v.2.2.1) (λj v=> ∃(s':Ch×Ch) (kg kt:Nat),v=(L,L,(j:Int),s'.1,kg,s'.2,kt,Ku row,(N:Int),())/\L<=kg/\L<=kt/\s'=(((Ku row).take i).flatMap (λy=>gs.map (Tw row y))++(gs.take j).map (Tw row (yn:Int))).foldl (λs q=>Hl k (L+1) q s) (G.set L gs,T.set L row)) rfl ⟨s,kg,kt,rfl,h1,h2,by simpa using hs⟩ ?_
   rintro j v K' hj hj' ⟨s',kg,kt,rfl,h1,h2,xy⟩ hK'
   dsimp only
   refine Br.dec (λJg=>?_) λJg=>?_
   ·have Jg:j<gs.length:=by omega
    have RL: ∀q∈((Ku row).take i).flatMap (λy=>gs.map (Tw row y))++(gs.take j).map (Tw row (yn:Int)),q∈gO row gs:= λq hq=>by
     rcases Az.1 hq with hq|hq
     ·exact Jl q hq
     ·obtain ⟨o,ho,rfl⟩:=Ba.1 hq
      exact Fz.2 ⟨(yn:Int),Uj.2 ⟨yn,rfl,hyr⟩,Ba.2 ⟨o,Er ho,rfl⟩⟩
    obtain ⟨f1',f2'⟩:=Ahe _ RL
    rw [<-xy] at f1' f2'
    obtain ⟨G',T'⟩:=s'
    dsimp only at f1' f2'⊢
    have g1':G'.getD L []=gs:=by have:=(f2'.low L (by omega)).1;dsimp only at this;rw [this];exact hG1
    have g3':T'.getD L []=row:=by have:=(f2'.low L (by omega)).2;dsimp only at this;rw [this];exact hT1 row
    have g4':G'.length=N:=f1'.1
    have g5':T'.length=N:=f1'.2.1
    obtain ⟨g,oY,Tm,hgf⟩:=hg gs[j] (An Jg)
    have hgj:gs.getD j none=some g:=by rw [FD Jg];exact oY
    have DB:some g∈gs:=by rw [<-oY];exact An Jg
    have hy:=Tm.lt hyN
    obtain ⟨t',kT⟩:=Jy.1 (r3 yn t g ht DB)
    obtain ⟨u1,u2,u3,u4⟩:=hro.rt _ _ kT
    have Aos:Tw row (yn:Int) gs[j]=Af (Af t g) (Bb t'):=by rw [oY];exact jJ ht kT
    have hqm:=hpr _ (Fz.2 ⟨(yn:Int),Uj.2 ⟨yn,rfl,hyr⟩,Ba.2 ⟨gs[j],An Jg,Aos⟩⟩)
    simp only [g1',g3',Ac,hgj,ht,Bx]
    have tF:L<Int.toNat ((L+1:Nat):Int):=by omega
    have ZJ:=yO n1 n2 k (L+1) _ (G',T') (by omega) f1' hqm.1 hqm.2
    have Aw7:((Hl k (L+1) (Af (Af t g) (Bb t')) (G',T')).1).length=N:=ZJ.v.1
    have Aw8:((Hl k (L+1) (Af (Af t g) (Bb t')) (G',T')).2).length=N:=ZJ.v.2.1
    have hkk:((N:Int)-((L+1:Nat):Int)).toNat=k:=by omega
    refine ⟨⟨by omega,by omega⟩,⟨by omega,by omega⟩,some (Af t g),Ab ⟨Xn t1,pY t1 Tm⟩,_,zu Tm hyN,⟨by omega,by omega⟩,Bb t',?_,some (Af (Af t g) (Bb t')),?_,_,Ab ⟨⟨N,L+1,_,rfl,?pr⟩,?lt⟩,⟨tF,?k1⟩,⟨tF,?k2⟩,⟨tF,?k3⟩,⟨tF,?k4⟩,?go⟩
    case pr=>exact ⟨n1,n2,rfl,rfl,by omega,by rw [show N-(L+1)=k by omega];exact f1',hqm.1,hqm.2⟩
    case lt=>
     show ((N:Int)-((L+1:Nat):Int)).toNat<m
     omega
    case go=>
     dsimp only
     rw [Cd (by omega)]
     refine hK' Jg _ rfl ⟨_,_,_,rfl,?_,?_,?_⟩
     ·show L<=min kg (Int.toNat ((L+1:Nat):Int));omega
     ·show L<=min kt (Int.toNat ((L+1:Nat):Int));omega
     ·rw [Hp,Ad Jg,Ls,It,<-Ck,Vs,<-xy]
      simp only [Ca,List.map_nil,Nm,List.foldl_nil,Aos,hkk,Ac,Bx]
    case k1=>simp only [hkk,Ac,Bx];omega
    case k2=>simp only [hkk,Ac,Bx];omega
    case k3=>simp only [hkk,Ac,Bx];omega
    case k4=>simp only [hkk,Ac,Bx];omega
    ·rw [Ac,kT,Bx]
     exact Ab ⟨by show t'.length<=20;rw [u1.1];exact n2,u1.2.row⟩
    ·exact Ab ⟨Xn (t1.comp Tm),pY (t1.comp Tm) u1.inv⟩
   ·have:j=gs.length:=by omega
    subst this
    rw [Cd (by omega)]
    refine hK hl _ rfl ⟨s',kg,kt,rfl,h1,h2,?_⟩
    rw [xy,Bg,Hp,Ad hl,Ls,List.flatMap_append,hyn]
    simp
  ·have:i=(Ku row).length:=by omega
   subst this
   rw [Bg] at hs
   refine ⟨h1,h2,?_⟩
   rw [hs]
   rfl
theorem Ac5 {m:Nat} (Ak8:Ci Try.prog 212 (Wq m)):Ci Try.prog 212 (Wq (m+1)):=
 Ci.dS (Agc [Mk+7]) (Be WB (Ez lE (Be uS (Be Wt (Ez Ak8 Cb))))) mixed Try.func212 (by kernel_rfl) (by kernel_rfl) λx h=>Apr x.1 x.2.1 x.2.2.1 x.2.2.2.1 x.2.2.2.2.1 h
theorem OH:Ci Try.prog 212 (Wq 0):=
 Ci.dS qn Cb mixed Try.func212 (by kernel_rfl) (by kernel_rfl) λ_ h=>absurd h.2 (Dj _)
theorem uO: ∀m,Ci Try.prog 212 (Wq m)
 |0=>OH
 |m+1=>Ac5 (uO m)
noncomputable abbrev AW:MSpec:=dS Ai6 (λx=> ∃N L q,x.2.2.2.2.1=some q/\Vw N L x.1 x.2.1 x.2.2.1 x.2.2.2.1 q)
 (λx=>((x.1,(Hl (x.1-x.2.2.2.1).toNat x.2.2.2.1.toNat (x.2.2.2.2.1.getD []) (x.2.1,x.2.2.1)).1,(Hl (x.1-x.2.2.2.1).toNat x.2.2.2.1.toNat (x.2.2.2.2.1.getD []) (x.2.1,x.2.2.1)).2,()),()))
theorem OI:Ci Try.prog 212 AW:=Ci.Ai9 (λx=>(x.1-x.2.2.2.1).toNat) uO
def Tf (n:Nat):Ch:=List.replicate n []
def cd (n i:Nat):Row:=(List.replicate n none).set i (some (upto n))
def Yu (n:Nat):Ch:=(List.range n).map λi=>cd n i
def Uo (n:Nat) (gens:List PO):Ch×Ch:=gens.foldl (λs o=>Hl n 0 (o.getD []) s) (Tf n,Yu n)
noncomputable abbrev ME:MSpec:= {Hw:= [none,none],ins:= [(false, .Fe tI),(false, .Fe tLO)],Gl:=false,Gz:= [none,none,none],outs:= [.Fe tI, .Bo tO vQ false, .Bo tO vQ false],fn:= λ_=>none,rp:=some 198}
noncomputable abbrev jH:MSpec:=dS ME (λx=>(1<=x.1/\x.1<=20)/\List.length x.2.1<=4294967296/\ ∀o∈(x.2.1:List PO),∃g,o=some g/\Pm x.1.toNat g)
 (λx=>((x.1,(Uo x.1.toNat x.2.1).1,(Uo x.1.toNat x.2.1).2,()),()))
abbrev aX:Type:=Int×List (List (Option (List Int)))×Int×List (List (Option (List Int)))×PUnit
theorem JK (n:Int) (gens:List (Option (List Int))) (P:(Int×List (List (Option (List Int)))×List (List (Option (List Int)))×Unit)×Unit->Prop):(((0:Int)<=n/\n<(↑Dn:Int)+(1:Int))/\n=n/\0=0/\(List.replicate n.toNat ([]:List (Option (List Int)))).length=(List.replicate n.toNat ([]:List (Option (List Int)))).length/\0=0/\0=([]:List Int).length/\Ev (λ(v3:aX) (k4:aX->Prop)=>Br (decide (v3.1<n)) (((0:Int)<=n/\n<(↑Dn:Int)+(1:Int))/\n=n/\ ∃(y5:Option (List Int)),Pf.fn (n,())=some y5/\((0:Int)<=v3.1/\v3.1<(↑(List.replicate n.toNat (none:Option (List Int))).length:Int))/\0+v3.1.toNat<(List.replicate n.toNat (none:Option (List Int))).length/\0=0/\(List.replicate n.toNat (none:Option (List Int))).length=((List.replicate n.toNat (none:Option (List Int))).set (0+v3.1.toNat) y5).length/\(0=0/\v3.2.2.2.1.length=v3.2.2.2.1.length)/\(0=0/\1= [(List.replicate n.toNat (none:Option (List Int))).set (0+v3.1.toNat) y5].length)/\0< [(List.replicate n.toNat (none:Option (List Int))).set (0+v3.1.toNat) y5].length/\v3.2.2.2.1.length+ [(List.replicate n.toNat (none:Option (List Int))).set (0+v3.1.toNat) y5].length<=Dn/\0=0/\v3.2.1.length=v3.2.1.length/\0=0/\(v3.2.2.2.1++ [(List.replicate n.toNat (none:Option (List Int))).set (0+v3.1.toNat) y5]).length=(v3.2.2.2.1++ [(List.replicate n.toNat (none:Option (List Int))).set (0+v3.1.toNat) y5]).length/\k4 (IntKind.i64.wrap (v3.1+(1:Int)),v3.2.1,v3.2.2.1,v3.2.2.2.1++ [(List.replicate n.toNat (none:Option (List Int))).set (0+v3.1.toNat) y5],())) (0=0/\v3.2.1.length=v3.2.1.length/\0=0/\v3.2.2.2.1.length=v3.2.2.2.1.length/\Ev (λ(v5:aX) (k6:aX->Prop)=>Br (decide (v5.1<(↑gens.length:Int))) (∃(y7:Option (List Int)),idx gens v5.1=some y7/\0=0/\v5.2.1.length=v5.2.1.length/\0=0/\v5.2.2.2.1.length=v5.2.2.2.1.length/\ ∃(y8:(Int×List (List (Option (List Int)))×List (List (Option (List Int)))×PUnit)×PUnit),AW.fn (v5.2.2.1,v5.2.1,v5.2.2.2.1,(0:Int),y7,())=some y8/\0=0/\y8.1.2.1.length=y8.1.2.1.length/\0=0/\y8.1.2.2.1.length=y8.1.2.2.1.length/\k6 (IntKind.i64.wrap (v5.1+(1:Int)),y8.1.2.1,y8.1.1,y8.1.2.2.1,())) ((0=0/\v5.2.1.length=v5.2.1.length)/\(0=0/\v5.2.2.2.1.length=v5.2.2.2.1.length)/\P ((v5.2.2.1,v5.2.1,v5.2.2.2.1,()),()))) ((0:Int),v3.2.1,v3.2.2.1,v3.2.2.2.1,PUnit.unit))) ((0:Int),List.replicate n.toNat ([]:List (Option (List Int))),n,[],PUnit.unit))=fnMW aY (look [(120,Pf),(212,AW)]) jH Try.f193 (n,gens,()) P:=by kernel_rfl
theorem Yt (n i:Nat):(Tf n).getD i []= []:=by
 unfold Tf
 rw [Al,Yz]
 split<;>rfl
theorem mV {n i:Nat} (h:i<n):(Yu n).getD i []=cd n i:=by
 unfold Yu
 rw [Al,Ex,Qz h]
 rfl
theorem oN {n i y:Nat} (h:i<n):(cd n i).getD y none=if i=y then some (upto n) else none:=by
 unfold cd
 rw [Ke,Dt]
 by_cases e:i=y
 ·rw [Ab ⟨e,h⟩,Ab e]
 ·rw [Ak (λhh=>e hh.1),Ak e,Al,Yz]
  split<;>rfl
theorem vg {n:Nat} (h1:1<=n) (h2:n<=20): ∀(k l:Nat),l+k=n->dT n k l (Tf n,Yu n)
 |0,l,hk=>Yt n l
 |k+1,l,hk=>by
  have hl:l<n:=by omega
  have hg: ∀(g:List Int) (j:Nat),some g∈(Tf n).getD j []->False:= λg j hg=>by rw [Yt] at hg;cases hg
  refine ⟨vg h1 h2 k (l+1) (by omega),⟨λo ho=>?_,?_,?_,λy t e0=>?_,λy t g _ Rv=>(hg _ _ Rv).elim,λy t g t' _ Rv=>(hg _ _ Rv).elim⟩,λg Rv=>(hg _ _ Rv).elim⟩
  ·have ho:o∈(Tf n).getD l []:=ho
   rw [Yt] at ho;cases ho
  ·show ((Yu n).getD l []).length=n
   rw [mV hl];simp [cd]
  ·show ((Yu n).getD l []).getD l none=_
   rw [mV hl,oN hl,Ab rfl]
  ·replace e0:((Yu n).getD l []).getD y none=some t:=e0
   rw [mV hl,oN hl] at e0
   by_cases hy:l=y
   ·rw [Ab hy] at e0
    have e1:=Bd e0
    subst e1 hy
    exact ⟨Pm.id h1 h2,λi hi=>iC (by omega),iC hl, .id⟩
   ·rw [Ak hy] at e0;cases e0
theorem IT (n:Nat): ∀(k l:Nat),GBf k l (Tf n,Yu n)
 |0,_=>trivial
 |k+1,l=>⟨IT n k (l+1),by show ((Tf n).getD l []).length<=_;rw [Yt];exact Jx _⟩
theorem ss {n:Nat} (h1:1<=n) (h2:n<=20):V n n 0 (Tf n,Yu n):=⟨by simp [Tf],by simp [Yu],vg h1 h2 n 0 (by omega),IT n n 0⟩
def PmL (n:Nat) (gens:List PO):Prop:= ∀o∈gens,∃g,o=some g/\Pm n g
theorem DM {n:Nat} {gens:List PO} {j:Nat} (hj:j<gens.length):Uo n (gens.take (j+1))=Hl n 0 (gens[j].getD []) (Uo n (gens.take j)):=by
 unfold Uo
 rw [Hp,Ad hj,Ls,Vs]
 rfl
theorem pa {n:Nat} (h1:1<=n) (h2:n<=20): ∀(gens:List PO) (s:Ch×Ch),PmL n gens->V n n 0 s->V n n 0 (gens.foldl (λs o=>Hl n 0 (o.getD []) s) s)/\
  Vx 0 s (gens.foldl (λs o=>Hl n 0 (o.getD []) s) s)/\(∀g,some g∈gens->Gn n ((gens.foldl (λs o=>Hl n 0 (o.getD []) s) s).1.getD 0 []) g)/\ ∀o∈(gens.foldl (λs o=>Hl n 0 (o.getD []) s) s).1.getD 0 [],o∈s.1.getD 0 []\/o∈gens
 | [],s,_,hv=>⟨hv,Vx.refl _ _,(λ_ hg=>by cases hg),λ_ ho=> .inl ho⟩
 |o::gens,s,hg,hv=>by
  obtain ⟨g,rfl,Tm⟩:=hg o (by simp)
  have ha:=yO h1 h2 n 0 g s (by omega) hv Tm (λi hi=>absurd hi (Dj _))
  obtain ⟨a1,a2,a3,a4⟩:=pa h1 h2 gens (Hl n 0 g s) (λo ho=>hg o (by simp [ho])) ha.v
  refine ⟨a1,ha.grow.trans a2 (Aq _),λg' Rv=>?_,λo ho=>?_⟩
  ·rcases Bc.1 Rv with e|Rv
   ·cases e;exact ha.Ak9.mono λg hg=>a2.xm _ _ hg
   ·exact a3 g' Rv
  ·rcases a4 o ho with h|h
   ·rcases ha.gens o h with h|h
    ·exact .inl h
    ·exact .inr (by simp [h])
   ·exact .inr (by simp [h])
theorem DK {n:Nat} (h1:1<=n) (h2:n<=20) {gens:List PO} (hg:PmL n gens):V n n 0 (Uo n gens):=(pa h1 h2 gens _ hg (ss h1 h2)).1
theorem bL {n:Nat} (h1:1<=n) (h2:n<=20) {gens:List PO} (hg:PmL n gens) {p:List Int} (hp:Pm n p):Hc (Uo n gens).2 n 0 p=true↔Gn n gens p:=by
 obtain ⟨a1,a2,a3,a4⟩:=pa h1 h2 gens _ hg (ss h1 h2)
 have hS:DA n λg=>some g∈gens:=⟨⟨h1,h2⟩,λg Rv=>by obtain ⟨g',e,h⟩:=hg _ Rv;cases e;exact h⟩
 have Jl: ∀g,some g∈(Uo n gens).1.getD 0 []->some g∈gens:= λg Rv=>by
  rcases a4 _ Rv with h|h
  ·have h:some g∈(Tf n).getD 0 []:=h
   rw [Yt] at h;cases h
  ·exact h
 have hS':DA n λg=>some g∈(Uo n gens).1.getD 0 []:=⟨⟨h1,h2⟩,λg Rv=>hS.2 g (Jl g Rv)⟩
 refine (Ue h1 h2 n 0 (Uo n gens) (by omega) a1.2.2.1 p hp λi hi=>absurd hi (Dj _)).trans ⟨λh=>h.mono Jl,λh=>h.trans hS' λg Rv=>a3 g Rv⟩
theorem HS (n:Int) (gens:List (Option (List Int))) (h:(1<=n/\n<=20)/\List.length gens<=4294967296/\ ∀o∈(gens:List PO),∃g,o=some g/\Pm n.toNat g):
  fnMW aY (look [(120,Pf),(212,AW)]) jH Try.f193 (n,gens,()) (λ(z:(Int×List (List (Option (List Int)))×List (List (Option (List Int)))×Unit)×Unit)=>z=((n,(Uo n.toNat gens).1,(Uo n.toNat gens).2,()),())):=by
 obtain ⟨⟨h1,h2⟩,h3,hg⟩:=h
 obtain ⟨N,rfl⟩: ∃N:Nat,n=N:=⟨n.toNat,by omega⟩
 rw [Ac] at hg⊢
 have h1:1<=N:=by omega
 have h2:N<=20:=by omega
 refine Eq.mp (JK (N:Int) gens _) ?_
 have hm:((0:Int)<=(N:Int)/\(N:Int)<(Dn:Int)+1):=⟨by omega,by show (N:Int)<(4294967296:Int)+1;omega⟩
 simp only [hm,and_self,eq_self,true_and,Ac,Bn,Di,Bv,Dt,Av,Nat.lt_add_one,Ay]
 refine Cj N (λv=>v.1) (λj v=>v=((j:Int),Tf N,(N:Int),(List.range j).map (cd N),())) rfl rfl ?_
 rintro j v K hj hi rfl hK
 dsimp only
 refine Br.dec (λhl=>?_) λhl=>?_
 ·refine ⟨_,Ab ⟨by show (1:Int)<=N;omega,by show (N:Int)<=20;omega⟩,⟨by omega,by omega⟩,by rw [Ac];omega,?_,?_⟩
  ·show _<=4294967296
   simp only [Bs,Vt]
   omega
  ·rw [Cd (by omega)]
   refine hK (by omega) _ rfl ?_
   rw [bb,It]
   rfl
 ·have:j=N:=by omega
  subst this
  refine Cj gens.length (λv=>v.1) (λi v=>v=((i:Int),(Uo j (gens.take i)).1,(j:Int),(Uo j (gens.take i)).2,())) rfl rfl ?_
  rintro i v K' dP Ath rfl hK'
  dsimp only
  refine Br.dec (λJg=>?_) λJg=>?_
  ·have Jg:i<gens.length:=by omega
   obtain ⟨g,oY,Tm⟩:=hg gens[i] (An Jg)
   have hv:=DK h1 h2 (gens:=gens.take i) λo ho=>hg o (Er ho)
   refine ⟨_,Dk Jg,_,Ab ⟨j,0,g,oY,h1,h2,rfl,rfl,Jx _,hv,Tm,λi hi=>absurd hi (Dj _)⟩,?_⟩
   rw [Cd (by omega)]
   refine hK' Jg _ rfl ?_
   rw [DM Jg]
   simp only [Int.sub_zero,Ac]
   rfl
  ·have:i=gens.length:=by omega
   subst this
   rw [Bg]
theorem sa:Ci Try.prog 193 jH:=
 Ci.dS qn (Be rZ (Ez OI Cb)) mixed Try.func193 (by kernel_rfl) (by kernel_rfl) λx h=>HS x.1 x.2.1 h
def Uu (T:Ch):Nat->Nat
 |0=>1
 |j+1=>Uu T j*(Ku (T.getD j [])).length
noncomputable abbrev kI:Spec:=Ht (.pair (.ptr df) (.pair tI .unit)) tI false true (λx=>x.2.1=0/\ ∃N:Nat,(1<=N/\N<=20)/\x.1.1=N/\V N N 0 (x.1.2.1,x.1.2.2.1)) (λx=>(Uu x.1.2.2.1 x.1.1.toNat:Int))
noncomputable abbrev FX:MSpec:= {Hw:= [none,none],ins:= [(false, .Fe tI),(false, .Fe se)],Gl:=false,Gz:= [none,none,none],outs:= [.Fe tI, .Bo tO vQ false, .Bo tO vQ false],fn:= λ_=>none,rp:=some 198}
def Ud (n:Int) (g:List (List Int)):Ch×Ch:=Uo n.toNat (g.map some)
noncomputable abbrev Yo:MSpec:=dS FX (λx=>(1<=x.1/\x.1<=20)/\List.length x.2.1<=4294967296/\ ∀g∈(x.2.1:List (List Int)),Pm x.1.toNat g)
 (λx=>((x.1,(Ud x.1 x.2.1).1,(Ud x.1 x.2.1).2,()),()))
noncomputable def Wj (p:PP):Int:=if Cs p=true then (Uu (Ud p.1 p.2.2.1).2 p.1.toNat:Int) else 0
noncomputable abbrev Sk:Spec:=Ht (.pair Lq .unit) tI false true (λx=>Gt x.1) (λx=>Wj x.1)
noncomputable def cQ (p:PP) (s:List Int):Bool:=(Cs p&&Gr p.1 s)&&Hc (Ud p.1 p.2.2.1).2 p.1.toNat 0 s
noncomputable abbrev Ym:Spec:=Ht (.pair Lq (.pair tL .unit)) .bool false true (λx=>Gt x.1/\short x.2.1) (λx=>cQ x.1 x.2.1)
theorem Agm (c:Int×List (List (Option (List Int)))×List (List (Option (List Int)))×Unit) (l:Int) (P:Int->Prop):(Ev (λ(v3:Int×Int×PUnit) (k4:Int×Int×PUnit->Prop)=>Br (decide (v3.2.1<c.1)) (∃(y5:List (Option (List Int))),idx c.2.2.1 v3.2.1=some y5/\ ∃(y6:(List Int×PUnit)×PUnit),Qn.fn (y5,())=some y6/\ ∃(y7:Int),Tc.fn (List.take y6.1.1.length (List.drop 0 y6.1.1),())=some y7/\k4 (IntKind.i64.wrap (v3.1*y7),IntKind.i64.wrap (v3.2.1+(1:Int)),())) (P v3.1)) ((1:Int),l,PUnit.unit))=fnW aY (look [(213,Qn),(140,Tc)]) kI Try.f194 (c,l,()) P:=by kernel_rfl
theorem CW (p:Int×ByteArray×List (List Int)×Unit) (P:Int->Prop):(∃(y2:Bool),Ie.fn ((p.1,p.2.1,p.2.2.1,()),())=some y2/\Br (!y2) (P (0:Int)) (∃(y3:(Int×List (List (Option (List Int)))×List (List (Option (List Int)))×PUnit)×PUnit),Yo.fn (p.1,p.2.2.1,())=some y3/\ ∃(y4:Int),kI.fn ((y3.1.1,List.take y3.1.2.1.length (List.drop 0 y3.1.2.1),List.take y3.1.2.2.1.length (List.drop 0 y3.1.2.2.1),()),(0:Int),())=some y4/\P y4))=fnW Hz (look [(119,Ie),(193,Yo),(194,kI)]) Sk Try.f154 (p,()) P:=by kernel_rfl
theorem Agg (n i:Nat):(upto n).countP (λy=>decide ((i:Int)<=y))=n-i:=by
 induction n with
 |zero=>simp [upto]
 |succ n ih=>
  rw [Yw,List.countP_append,ih]
  simp only [List.countP_cons,List.countP_nil,Qq]
  split<;>omega
theorem Afm {n i:Nat} {gs:List PO} {row:Row} {H:List Int->Prop} (hi:i<n) (h:Lvl n i gs row H):(Ku row).length<=n-i:=by
 rw [<-Agg n i]
 unfold Ku
 rw [h.rl,<-Ln]
 refine List.countP_mono_left λy hy hs=>?_
 obtain ⟨h1,h2⟩:=Nk.1 hy
 obtain ⟨t,ht⟩:=Wz.1 hs
 obtain ⟨t1,t2,t3,_⟩:=h.rt _ _ ht
 refine Cl ?_
 refine Bk λhn=>?_
 have hy':y.toNat<i:=by omega
 have:=t1.inj hi (by omega:y.toNat<n) (by rw [t3,t2 _ hy'])
 omega
def fact:Nat->Nat
 |0=>1
 |n+1=>(n+1)*fact n
theorem ES: ∀n,1<=fact n
 |0=>Aq _
 |n+1=>by have:=ES n;simp only [fact];exact Hq this (Nat.le_mul_of_pos_left _ (by omega))
theorem TN {a b:Nat} (h:a<=b):fact a<=fact b:=by
 induction h with
 |refl=>exact Aq _
 |step _ ih=>simp only [fact];exact Hq ih (Nat.le_mul_of_pos_left _ (by omega))
theorem Ab3 {n:Nat} {s:Ch×Ch} (hc:dT n n 0 s): ∀j,j<=n->Uu s.2 j*fact (n-j)<=fact n
 |0,_=>by simp [Uu]
 |j+1,hj=>by
  have ih:=Ab3 hc j (by omega)
  have h1:=Afm (by omega) (dY n 0 hc j (by omega) (by omega))
  have e:n-j=(n-(j+1))+1:=by omega
  simp only [Uu]
  rw [e] at ih h1
  simp only [fact] at ih
  rw [Nat.mul_assoc]
  exact Hq (Nat.mul_le_mul_left _ (Et _ h1)) ih
theorem xT {n:Nat} (h2:n<=20) {s:Ch×Ch} (hc:dT n n 0 s) {j:Nat} (hj:j<=n):Uu s.2 j<=2432902008176640000:=by
 have h1:=Ab3 hc j hj
 have h3:=ES (n-j)
 have h4:fact n<=2432902008176640000:=Hq (TN h2) (by decide)
 have h5:Uu s.2 j*1<=Uu s.2 j*fact (n-j):=Nat.mul_le_mul_left _ h3
 omega
theorem Afs (c:Int×List (List (Option (List Int)))×List (List (Option (List Int)))×Unit) (l:Int) (h:l=0/\ ∃N:Nat,(1<=N/\N<=20)/\c.1=N/\V N N 0 (c.2.1,c.2.2.1)):
  fnW aY (look [(213,Qn),(140,Tc)]) kI Try.f194 (c,l,()) (λ(z:Int)=>z=(Uu c.2.2.1 c.1.toNat:Int)):=by
 obtain ⟨rfl,N,⟨h1,h2⟩,hN,v⟩:=h
 obtain ⟨n,G,T,⟨⟩⟩:=c
 dsimp only at hN v⊢
 subst hN
 refine Eq.mp (Agm ((N:Int),G,T,()) 0 _) ?_
 obtain ⟨v1,v2,v3,v4⟩:=v
 dsimp only at v1 v2⊢
 rw [Ac]
 refine Cj N (λv=>v.2.1) (λj v=>v.1=(Uu T j:Int)) rfl rfl ?_
 rintro j ⟨o,i,⟨⟩⟩ K hj hi ho hK
 dsimp only at hi ho⊢
 subst hi ho
 refine Br.dec (λhl=>?_) λhl=>?_
 ·have hl:j<N:=by omega
  have hT:j<T.length:=by omega
  have Ka:=dY N 0 v3 j (by omega) (by omega)
  have KA:=Ka.rl
  dsimp only at KA
  rw [qK hT] at KA
  refine ⟨_,Dk hT,_,Ab (by show (T[j]).length<=20;omega),_,Ab trivial,?_⟩
  rw [Dy,Bg,Cd (by omega)]
  have hb:=xT h2 v3 (j:=j+1) (by omega)
  simp only [Uu] at hb
  rw [qK hT] at hb
  have e:(Uu T j:Int)*((Ku T[j]).length:Int)=((Uu T j*(Ku T[j]).length:Nat):Int):=by push_cast;rfl
  show K (IntKind.i64.wrap ((Uu T j:Int)*((Ku T[j]).length:Int)),_,())
  rw [e,Dq (by omega) (by omega)]
  refine hK hl _ rfl ?_
  simp only [Uu]
  rw [qK hT]
 ·have:j=N:=by omega
  subst this
  rfl
theorem IP:Sound Try.prog 194 kI:=
 Sound.Ht qn (Ez lE (Be fZ Cb)) mixed Try.func194 (by kernel_rfl) (by kernel_rfl) λx h=>Afs x.1 x.2.1 h
theorem Cells.told {w:World} {S:Nat->Prop} {e:Ty} {cs:List Value} {xs:List e.den} (h:Cells w S (.slice e) cs xs): ∃o:Option (List e.den),Cells w S (.oslice e) cs o/\o.getD []=xs:=by
 simp only [Cells] at h
 obtain ⟨a,len,cap,rfl,h1,h2,h3⟩:=h
 cases a with
 |none=>
  rcases h3 with rfl|⟨g,o,h,_⟩
  ·refine ⟨none,?_,rfl⟩
   simp only [Cells]
   exact .inl ⟨trivial,cap,by rw [h1];rfl⟩
  ·cases h
 |some ad=>
  refine ⟨some xs,?_,rfl⟩
  simp only [Cells]
  exact .inr ⟨xs,ad,len,cap,rfl,rfl,h1,h2,h3.imp id λ⟨g,o,h,h4⟩=>⟨g,o,Bd h,h4⟩⟩
theorem KI {α β:Type} (Q:Nat->α->β->Prop): ∀(xs:List α),(∀i x,xs[i]?=some x-> ∃y,Q i x y)-> ∃ys:List β,ys.length=xs.length/\ ∀i x y,xs[i]?=some x->ys[i]?=some y->Q i x y:=by
 intro xs h
 refine ⟨List.ofFn λi:Fin xs.length=>Classical.choose (h i xs[i] (Ad i.2)),by simp,λi x y h1 h2=>?_⟩
 obtain ⟨hi,rfl⟩:=Ao.1 h1
 obtain ⟨dP,rfl⟩:=Ao.1 h2
 rw [List.getElem_ofFn]
 exact Classical.choose_spec (h i xs[i] (Ad hi))
theorem Da.Aie {w:World} {S:Nat->Prop} {e:Ty} {v:Value} {xs:List (List e.den)} (h:Da w S (.slice (.slice e)) v xs): ∃os:List (Option (List e.den)),Da w S (.slice (.oslice e)) v os/\os.map (·.getD [])=xs:=by
 obtain ⟨cs,hc,rfl⟩:=h
 simp only [Cells] at hc
 obtain ⟨a,len,cap,rfl,h1,h2,h3⟩:=hc
 rcases h3 with rfl|⟨g,o,rfl,hg,hS,h4⟩
 ·refine ⟨[],⟨_,?_,rfl⟩,rfl⟩
  simp only [Cells]
  exact ⟨a,len,cap,rfl,h1,h2, .inl trivial⟩
 ·obtain ⟨os,e1,e2⟩:=KI (λi (x:List e.den) (y:Option (List e.den))=>y.getD []=x/\ ∃es:List Value,es.length=1/\(∀j u,es[j]?=some u->w.cell? ⟨g,o+i*1+j,none⟩=some u)/\Cells w S (.oslice e) es y) xs λi x hx=>by
   obtain ⟨es,k1,k2,k3⟩:=h4 i x hx
   obtain ⟨y,k4,k5⟩:=Cells.told (e:=e) (by simp only [Cells];exact k3)
   exact ⟨y,k5,es,k1,k2,k4⟩
  refine ⟨os,⟨_,?_,rfl⟩,?_⟩
  ·simp only [Cells]
   refine ⟨_,len,cap,rfl,by rw [h1,e1],h2, .inr ⟨g,o,rfl,hg,hS,λi y hy=>?_⟩⟩
   obtain ⟨hi,_⟩:=Ao.1 hy
   obtain ⟨_,es,k1,k2,k3⟩:=e2 i _ y (Ad (by omega)) hy
   simp only [Cells] at k3
   exact ⟨es,k1,k2,k3⟩
  ·refine List.ext_getElem (by simp [e1]) λi g1 g2=>?_
   rw [Za]
   exact (e2 i _ _ (Ad g2) (Ad (by omega))).1
theorem uY:Ci Try.prog 193 Yo:=by
 have h:=sa
 refine ⟨h.enter,λw S π us x r o g vs h1 hg h2 h3 hS h4 h5=>?_⟩
 obtain ⟨n,gens,⟨⟩⟩:=x
 match us,h2 with
 |u1::u2::us,h2=>
  obtain ⟨h6,⟨h7,h8⟩,h9⟩:=h2
  obtain ⟨os,oX,hZ⟩:=Da.Aie (e:=tI) h8
  have hZ:os.map (·.getD [])=(gens:List (List Int)):=hZ
  have du:(1<=n/\n<=20)/\List.length gens<=4294967296/\ ∀g∈(gens:List (List Int)),Pm n.toNat g:=Bk λhn=>by
   have:Yo.fn (n,gens,())=none:=Ak hn
   rw [this] at h5;cases h5
  have hos:os=gens.map some:=by
   rw [<-hZ,List.map_map]
   refine (List.map_id os).symm.trans (Gj λx hx=>?_)
   cases x with
   |some y=>rfl
   |none=>
    have:=du.2.2 [] (by rw [<-hZ];exact Ba.2 ⟨none,hx,rfl⟩)
    have h1:=this.n1
    have h2:=this.1
    simp at h2
    omega
  have hv:Yo.fn (n,gens,())=some ((n,(Ud n gens).1,(Ud n gens).2,()),()):=Ab du
  rw [hv] at h5
  have h5:=Bd h5
  refine h.calls w S π (u1::u2::us) (n,os,()) r o g vs h1 hg ⟨h6,⟨h7,oX⟩,h9⟩ h3 hS h4 ?_
  refine (Ab ⟨du.1,by rw [hos,Bs];exact du.2.1,λy hy=>?pp⟩).trans (Cx some ?qq)
  case pp=>
   replace hy:y∈os:=hy
   rw [hos] at hy
   obtain ⟨g,hg,rfl⟩:=Ba.1 hy
   exact ⟨g,rfl,du.2.2 g hg⟩
  case qq=>subst hos;exact h5
theorem Zq {p:PP} (hv:Valid p):(1<=p.1/\p.1<=20)/\List.length p.2.2.1<=4294967296/\ ∀g∈p.2.2.1,Pm p.1.toNat g:=
 ⟨hv.n,by have:=hv.oW;omega,λg hg=>⟨by have:=hv.len g hg;omega,dz (hv.perm g hg)⟩⟩
theorem Wo {n:Nat} {g:List (List Int)} (h: ∀x∈g,Pm n x):PmL n (g.map some):= λo ho=>by
 obtain ⟨x,hx,rfl⟩:=Ba.1 ho
 exact ⟨x,rfl,h x hx⟩
theorem yW {p:PP} (hv:Valid p):V p.1.toNat p.1.toNat 0 (Ud p.1 p.2.2.1):=by
 have:=hv.n
 exact DK (by omega) (by omega) (Wo (Zq hv).2.2)
theorem AE (p:PP) (h:Gt p):fnW Hz (look [(119,Ie),(193,Yo),(194,kI)]) Sk Try.f154 (p,()) (λ(z:Int)=>z=Wj p):=by
 refine Eq.mp (CW p _) ⟨_,Ab h,?_⟩
 show Br (!Cs p) _ _
 unfold Wj
 cases hv:Cs p with
 |false=>exact Br.of (λ_=>rfl) λhh=>by cases hh
 |true=>
  refine Br.of (λhh=>by cases hh) λ_=>?_
  have hV:=valid hv
  have hn:=hV.n
  refine ⟨_,Ab (Zq hV),_,Ab ⟨rfl,p.1.toNat,⟨by omega,by omega⟩,(gy (by omega:(0:Int)<=p.1)).symm,?vv⟩,?_⟩
  case vv=>
   simp only [Dy,Bg]
   exact yW hV
  simp only [Dy,Bg]
  exact (Ab trivial).symm
theorem qh:Sound Try.prog 154 Sk:=
 Sound.Ht Ge (Be eS (Ez uY (Be IP Cb))) mixed Try.func154 (by kernel_rfl) (by kernel_rfl) λx h=>AE x.1 h
theorem Rq {α:Type} [DecidableEq α]: ∀ {l1 l2:List α},l1.Nodup->(∀x∈l1,x∈l2)->l1.length<=l2.length
 | [],_,_,_=>Jx _
 |a::l,l2,hn,hs=>by
  obtain ⟨h1,h2⟩:=Cg.1 hn
  have ha:=hs a (by simp)
  have:=Rq (l1:=l) (l2:=l2.erase a) h2 λy hy=>by
   have hya:y≠a:= λe'=>h1 (by rw [<-e'];exact hy)
   exact (List.mem_erase_of_ne hya).2 (hs y (by simp [hy]))
  rw [Wy ha] at this
  have:=List.length_pos_of_mem ha
  simp only [Av]
  omega
def kU (n:Nat) (T:Ch):Nat->Nat->List (List Int)
 |0,_=> [upto n]
 |k+1,l=>(Ku (T.getD l [])).flatMap λy=>(kU n T k (l+1)).map λq=>Af q (((T.getD l []).getD y.toNat none).getD [])
def yb (T:Ch):Nat->Nat->Nat
 |0,_=>1
 |k+1,l=>(Ku (T.getD l [])).length*yb T k (l+1)
theorem GW (n:Nat) (T:Ch): ∀k l,(kU n T k l).length=yb T k l
 |0,_=>rfl
 |k+1,l=>by
  simp only [kU,yb,List.length_flatMap,Bs,GW n T k (l+1)]
  generalize Ku (T.getD l [])=o
  induction o with
  |nil=>simp
  |cons a o ih=>simp only [Ca,List.sum_cons,ih,Av,Nat.succ_mul];omega
theorem xS (T:Ch): ∀k j,Uu T (j+k)=Uu T j*yb T k j
 |0,j=>by simp [yb]
 |k+1,j=>by
  have:=xS T k (j+1)
  rw [show j+(k+1)=j+1+k by omega,this]
  simp only [Uu,yb]
  rw [Nat.mul_assoc]
theorem r6 (n:Nat) (T:Ch):(kU n T n 0).length=Uu T n:=by
 rw [GW,show Uu T n=Uu T (0+n) by rw [Bn],xS]
 simp [Uu]
theorem oq {n:Nat} (h1:1<=n) (h2:n<=20) {s:Ch×Ch} : ∀(k l:Nat),l+k=n->dT n k l s-> ∀p,p∈kU n s.2 k l↔Pm n p/\Fx l p/\Hc s.2 k l p=true
 |0,l,hk,hc,p=>by
  have hl:l=n:=by omega
  subst hl
  simp only [kU,Ae]
  exact ⟨λe=>by subst e;exact ⟨Pm.id h1 h2,λi hi=>iC hi,rfl⟩,λh=>h.2.1.all h.1⟩
 |k+1,l,hk,hc,p=>by
  obtain ⟨c1,c2,c3⟩:=hc
  have ih:=oq h1 h2 k (l+1) (by omega) c1
  have eW:l<n:=by omega
  simp only [kU,Fz,Ba]
  constructor
  ·rintro ⟨y,hy,q,hq,rfl⟩
   obtain ⟨yn,rfl,hyn⟩:=Uj.1 hy
   obtain ⟨t,ht⟩:=Jy.1 hyn
   obtain ⟨t1,t2,t3,t4⟩:=c2.rt _ _ ht
   obtain ⟨q1,q2,q3⟩:=(ih q).1 hq
   rw [Ac,ht,Bx]
   have hap:ap (Af q t) l=yn:=by rw [Jh q1 t1 eW,q2 l (by omega),t3]
   refine ⟨q1.comp t1,λi hi=>by rw [Jh q1 t1 (by omega),q2 i (by omega),t2 i hi],?_⟩
   simp only [Hc]
   rw [show (Cr (Af q t) (l:Int)).toNat=ap (Af q t) l from rfl,hap,ht]
   show Hc s.2 k (l+1) (Af (Af q t) (Bb t))=true
   rw [Fc q1 t1 t1.inv,Tq t1,comp_id q1]
   exact q3
  ·rintro ⟨p1,p2,p3⟩
   simp only [Hc] at p3
   rw [show (Cr p (l:Int)).toNat=ap p l from rfl] at p3
   split at p3
   ·cases p3
   ·rename_i t ht
    obtain ⟨t1,t2,t3,t4⟩:=c2.rt _ _ ht
    refine ⟨(ap p l:Int),Uj.2 ⟨ap p l,rfl,by rw [ht];simp⟩,Af p (Bb t),(ih _).2 ⟨p1.comp t1.inv,Fx.div p1 t1 p2 t2 eW t3,p3⟩,?_⟩
    rw [Ac,ht,Bx,Fc p1 t1.inv t1,Zw t1,comp_id p1]
theorem mI {n:Nat} (h1:1<=n) (h2:n<=20) {s:Ch×Ch} : ∀(k l:Nat),l+k=n->dT n k l s->(kU n s.2 k l).Nodup
 |0,l,hk,hc=>by simp [kU]
 |k+1,l,hk,hc=>by
  obtain ⟨c1,c2,c3⟩:=hc
  have ih:=mI h1 h2 k (l+1) (by omega) c1
  have hm:=oq h1 h2 k (l+1) (by omega) c1
  have eW:l<n:=by omega
  have rep: ∀y∈Ku (s.2.getD l []),∃(yn:Nat) (t:List Int),y=yn/\((s.2.getD l []).getD y.toNat none).getD []=t/\Pm n t/\ap t l=yn:= λy hy=>by
   obtain ⟨yn,rfl,hyn⟩:=Uj.1 hy
   obtain ⟨t,ht⟩:=Jy.1 hyn
   obtain ⟨t1,t2,t3,t4⟩:=c2.rt _ _ ht
   exact ⟨yn,t,rfl,by rw [Ac,ht];rfl,t1,t3⟩
  simp only [kU]
  refine List.pairwise_flatMap.2 ⟨λy hy=>?_,?_⟩
  ·obtain ⟨yn,t,rfl,e,t1,t3⟩:=rep y hy
   rw [e]
   refine List.pairwise_map.2 (im ?_ ih)
   intro a b ha hb Ig he
   have ha:=((hm a).1 ha).1
   have hb:=((hm b).1 hb).1
   have h3:=Cx (λz=>Af z (Bb t)) he
   simp only [Fc ha t1 t1.inv,Fc hb t1 t1.inv,Tq t1,comp_id ha,comp_id hb] at h3
   exact Ig h3
  ·refine im ?_ ((mX _).filter _)
   intro y z hy hz Ig a ha b hb he
   obtain ⟨yn,t,rfl,e,t1,t3⟩:=rep y hy
   obtain ⟨zn,u,rfl,e',u1,u3⟩:=rep z hz
   rw [e] at ha
   rw [e'] at hb
   obtain ⟨q,hq,rfl⟩:=Ba.1 ha
   obtain ⟨q',gJ,rfl⟩:=Ba.1 hb
   obtain ⟨a1,a2,_⟩:=(hm q).1 hq
   obtain ⟨b1,b2,_⟩:=(hm q').1 gJ
   have h3:=Cx (λz=>ap z l) he
   simp only [Jh a1 t1 eW,Jh b1 u1 eW,a2 l (by omega),b2 l (by omega),t3,u3] at h3
   exact Ig (by rw [h3])
theorem pc {g:List (List Int)} (Q:List Int->Prop) {x:List Int} {d:Int} : ∀(ls:List Int) (L:List (List Int)) (D:List Int),(∀l∈ls,Q (Af x (Ax g l)))->(∀y∈L,Q y)->
  (∀y∈(Ir g x d ls L D).1,Q y)/\(∀y∈L,y∈(Ir g x d ls L D).1)/\((Ir g x d ls L D).2.2=true-> ∀l∈ls,Af x (Ax g l)∈(Ir g x d ls L D).1)/\
   ((Ir g x d ls L D).2.2=false->(Ir g x d ls L D).1.length=3000/\ ∃z,Q z/\z∉(Ir g x d ls L D).1)
 | [],L,D,_,h=>⟨h,λ_ h=>h,(λ_ l hl=>by cases hl),(λe=>by cases e)⟩
 |l::ls,L,D,hq,h=>by
  have gJ: ∀l∈ls,Q (Af x (Ax g l)):= λl' h'=>hq l' (Ar _ h')
  simp only [Ir]
  split
  ·rename_i hm
   obtain ⟨a1,a2,a3,a4⟩:=pc Q (d:=d) ls L D gJ h
   refine ⟨a1,a2,λe l' Jg=>?_,a4⟩
   rcases Bc.1 Jg with rfl|Jg
   ·exact a2 _ hm
   ·exact a3 e l' Jg
  ·rename_i hn
   split
   ·rename_i hf
    exact ⟨h,λ_ h=>h,(λe=>by cases e),λ_=>⟨hf,_,hq l (by simp),hn⟩⟩
   ·obtain ⟨a1,a2,a3,a4⟩:=pc Q (d:=d) ls (L++ [Af x (Ax g l)]) (D++ [d+1]) gJ λy hy=>by
     rcases Az.1 hy with hy|hy
     ·exact h y hy
     ·rw [Ae.1 hy];exact hq l (by simp)
    refine ⟨a1,λy hy=>a2 y (Bi _ hy),λe l' Jg=>?_,a4⟩
    rcases Bc.1 Jg with rfl|Jg
    ·exact a2 _ (Cm _ (by simp))
    ·exact a3 e l' Jg
theorem x9 {p:PP} (hV:Valid p) {m:Nat} {ls:List Int} (hl: ∀l∈ls,Ic (List.length p.2.2.1) l) (Q:List Int->Prop) (hQ: ∀x,Q x-> ∀l∈ls,Q (Af x (Ax p.2.2.1 l))):
  ∀(f k:Nat) (L:List (List Int)) (D:List Int),3001<=f+k->k<=L.length->aB p m L D->(∀y∈L,Q y)->(∀(j:Nat) (h:j<L.length),j<k-> ∀l∈ls,Af L[j] (Ax p.2.2.1 l)∈L)->
  (∀y∈(Md p.2.2.1 ls f k L D).1,Q y)/\((Md p.2.2.1 ls f k L D).2.2=true-> ∀x∈(Md p.2.2.1 ls f k L D).1,∀l∈ls,Af x (Ax p.2.2.1 l)∈(Md p.2.2.1 ls f k L D).1)/\
   ((Md p.2.2.1 ls f k L D).2.2=false->(Md p.2.2.1 ls f k L D).1.length=3000/\ ∃z,Q z/\z∉(Md p.2.2.1 ls f k L D).1)
 |0,k,L,D,hf,hkL,hb,hq,hc=>by
  have:=hb.ok.oW
  omega
 |f+1,k,L,D,hf,hkL,hb,hq,hc=>by
  simp only [Md]
  split
  ·rename_i hk
   have hkD:k<D.length:=by rw [hb.len];exact hk
   have hd:=hb.dep k hkD
   have e:D.getD k 0=D[k]:=by rw [Al,Ad hkD];rfl
   rw [nT hk,e]
   obtain ⟨k1,⟨A,k2⟩,_⟩:=nw hV (hb.row _ (An hk)) (hb.ok.len _ (An hk)) (d:=D[k]) ls L D hl hb ⟨by omega,by omega⟩
   obtain ⟨a1,a2,a3,a4⟩:=pc (g:=p.2.2.1) Q (x:=L[k]) (d:=D[k]) ls L D (hQ _ (hq _ (An hk))) hq
   split
   ·rename_i L' D' he
    rw [he] at k1 k2 a1 a2 a3 a4
    have k2:L'=L++A:=k2
    refine x9 hV hl Q hQ f (k+1) L' D' (by omega) (by rw [k2,Ay];omega) k1 a1 λj hj hjk l Jg=>?_
    by_cases e':j<k
    ·have e2:L'[j]=L[j]:=by simp only [k2];rw [List.getElem_append_left (by omega)]
     rw [e2];exact a2 _ (hc j (by omega) e' l Jg)
    ·have:j=k:=by omega
     subst this
     have e2:L'[j]=L[j]:=by simp only [k2];rw [List.getElem_append_left (by omega)]
     rw [e2];exact a3 rfl l Jg
   ·rename_i L' D' he
    rw [he] at a1 a4
    exact ⟨a1,(λe=>by cases e),λ_=>a4 rfl⟩
  ·rename_i hk
   refine ⟨hq,λ_ x hx l Jg=>?_,λe=>by cases e⟩
   obtain ⟨j,hj,rfl⟩:=Bj.1 hx
   have hj:j<L.length:=hj
   exact hc j hj (by omega) l Jg
theorem Ae4 {p:PP} (hv:Cs p=true) {s:List Int} (hs:s.length<=20) (hr: ∀y∈s,0<=y/\y<p.1) (Q:List Int->Prop) (hQs:Q s) (hQ: ∀x,Q x-> ∀l∈Au p.2.2.1.length,Q (Af x (Ax p.2.2.1 l))):
  (∀y∈(Kt p.2.2.1 s).1,Q y)/\((Kt p.2.2.1 s).2.2=true-> ∀x∈(Kt p.2.2.1 s).1,∀l∈Au p.2.2.1.length,Af x (Ax p.2.2.1 l)∈(Kt p.2.2.1 s).1)/\
   ((Kt p.2.2.1 s).2.2=false->(Kt p.2.2.1 s).1.length=3000/\ ∃z,Q z/\z∉(Kt p.2.2.1 s).1):=
 x9 (valid hv) (λ_ hl=>Nj hl) Q hQ 3001 0 [s] [0] (by omega) (Jx _) (pe hs hr) (λy hy=>by rw [Ae.1 hy];exact hQs) λj _ hj=>absurd hj (Dj _)
theorem eP {g:List (List Int)} {x:List Int} :some x∈g.map some↔x∈g:=by simp
theorem ML {n:Nat} {g:List (List Int)} {x:List Int} (h:Gn n (g.map some) x) {l:Int} (hl:l∈Au g.length):Gn n (g.map some) (Af x (Ax g l)):=by
 obtain ⟨k,hk,rfl|rfl⟩:=Se (Nj hl)
 ·rw [Rn hk];exact .mul h (eP.2 (An hk))
 ·rw [Rl hk];exact .inv h (eP.2 (An hk))
theorem Ve {n k:Nat} (hk:k<n):(k:Int)+1∈Au n/\ -((k:Int)+1)∈Au n:=by
 unfold Au
 exact ⟨Fz.2 ⟨k,Es.2 hk,by simp⟩,Fz.2 ⟨k,Es.2 hk,by simp⟩⟩
theorem LL {n:Nat} {g:List (List Int)} {L:List (List Int)} (h0:upto n∈L) (hc: ∀x∈L,∀l∈Au g.length,Af x (Ax g l)∈L) {p:List Int} (hp:Gn n (g.map some) p):p∈L:=by
 induction hp with
 |id=>exact h0
 |mul _ hg ih=>
  obtain ⟨k,hk,rfl⟩:=Bj.1 (eP.1 hg)
  have:=hc _ ih _ (Ve hk).1
  rwa [Rn hk] at this
 |inv _ hg ih=>
  obtain ⟨k,hk,rfl⟩:=Bj.1 (eP.1 hg)
  have:=hc _ ih _ (Ve hk).2
  rwa [Rl hk] at this
structure Reach (p:PP) (L:List (List Int)) (D:List Int) (whole:Bool):Prop where
 ok:aB p p.1.toNat L D
 nodup:L.Nodup
 first: ∃A,L=upto p.1.toNat::A
 gen: ∀x∈L,Gn p.1.toNat (p.2.2.1.map some) x
 all:whole=true-> ∀x,Gn p.1.toNat (p.2.2.1.map some) x->x∈L
 big:whole=false->L.length=3000/\ ∃z,Gn p.1.toNat (p.2.2.1.map some) z/\z∉L
theorem Og.nodup {m:Nat} {L:List (List Int)} {dE:List Int} (h:Og m L dE):L.Nodup:=
 Fk.2 λi j hi hj fw e=>by have:=h.inj hi hj e;omega
theorem Oo {p:PP} (hv:Cs p=true):Reach p (Kt p.2.2.1 (upto p.1.toNat)).1 (Kt p.2.2.1 (upto p.1.toNat)).2.1 (Kt p.2.2.1 (upto p.1.toNat)).2.2:=by
 have hV:=valid hv
 have hn:=hV.n
 have hl:(upto p.1.toNat).length=p.1.toNat:=Ou _
 have hr: ∀y∈upto p.1.toNat,0<=y/\y<p.1:= λy hy=>by have:=Nk.1 hy;omega
 obtain ⟨b1,b2⟩:=YO hv (by omega) hr
 rw [hl] at b1
 obtain ⟨a1,a2,a3⟩:=Ae4 hv (by omega) hr (λx=>Gn p.1.toNat (p.2.2.1.map some) x) .id λx hx l hl=>ML hx hl
 exact ⟨b1,b1.ok.nodup,b2,a1,λhw x hx=>LL (by obtain ⟨A,e⟩:=b2;rw [e];simp) (a2 hw) hx,a3⟩
theorem cR {p:PP} (hV:Valid p) {x:List Int} :x∈kU p.1.toNat (Ud p.1 p.2.2.1).2 p.1.toNat 0↔Gn p.1.toNat (p.2.2.1.map some) x:=by
 have hn:=hV.n
 have hg:=Wo (Zq hV).2.2
 have hS:DA p.1.toNat λg=>some g∈p.2.2.1.map some:=⟨⟨by omega,by omega⟩,λg Rv=>by obtain ⟨g',e,h⟩:=hg _ Rv;cases e;exact h⟩
 refine (oq (by omega) (by omega) _ 0 (by omega) (yW hV).2.2.1 x).trans ⟨λh=>(bL (by omega) (by omega) hg h.1).1 h.2.2,λh=>?_⟩
 have hp:=cn.pm hS h
 exact ⟨hp,λi hi=>absurd hi (Dj _),(bL (by omega) (by omega) hg hp).2 h⟩
theorem wh {p:PP} (hV:Valid p):(kU p.1.toNat (Ud p.1 p.2.2.1).2 p.1.toNat 0).Nodup:=by
 have hn:=hV.n
 exact mI (by omega) (by omega) _ 0 (by omega) (yW hV).2.2.1
theorem count_eq {p:PP} (hv:Cs p=true):Wj p=((kU p.1.toNat (Ud p.1 p.2.2.1).2 p.1.toNat 0).length:Int):=by
 unfold Wj
 rw [Ab hv,r6]
theorem EG {p:PP} (hv:Cs p=true):(Kt p.2.2.1 (upto p.1.toNat)).2.2=decide (1<=Wj p/\Wj p<=3000):=by
 have hV:=valid hv
 have h:=Oo hv
 rw [count_eq hv]
 have rS:=wh hV
 have h1:=Rq h.nodup λx hx=>(cR hV).2 (h.gen x hx)
 obtain ⟨A,hA⟩:=h.first
 have rV:1<=(Kt p.2.2.1 (upto p.1.toNat)).1.length:=by rw [hA];simp
 cases hw:(Kt p.2.2.1 (upto p.1.toNat)).2.2 with
 |true=>
  have h2:=Rq rS λx hx=>h.all hw x ((cR hV).1 hx)
  have h3:=h.ok.ok.oW
  exact (Cl ⟨by omega,by omega⟩).symm
 |false=>
  obtain ⟨h2,z,h3,h4⟩:=h.big hw
  have h5:=Rq (l1:=z::(Kt p.2.2.1 (upto p.1.toNat)).1) (Cg.2 ⟨h4,h.nodup⟩) λx hx=>by
   rcases Bc.1 hx with rfl|hx
   ·exact (cR hV).2 h3
   ·exact (cR hV).2 (h.gen x hx)
  simp only [Av] at h5
  exact (Iu (by omega)).symm
def zN (g:List (List Int)) (s:List Int):List (List Int):=(Au g.length).map λl=>Af s (Ax g l)
noncomputable abbrev kH:Spec:=Ht (.pair Lq (.pair tL .unit)) se false true (λx=>Cs x.1=true/\List.length x.2.1<=20/\ ∀y∈x.2.1,0<=y/\y<x.1.1) (λx=>zN x.1.2.2.1 x.2.1)
abbrev EX:Type:=List (List Int)×List Int×List Int×List Int
def ct (g:List (List Int)) (k:Int) (x:List Int) (d:Int):List Int->EX->List Int->EX×List Int
 | [],s,row=>(s,row)
 |l::ls,s,row=>if Af x (Ax g l)∈s.1 then ct g k x d ls s (row++ [(s.1.idxOf (Af x (Ax g l)):Int)])
  else ct g k x d ls (s.1++ [Af x (Ax g l)],s.2.1++ [d+1],s.2.2.1++ [k],s.2.2.2++ [l]) (row++ [(s.1.length:Int)])
def dq (g:List (List Int)) (ls:List Int):Nat->Nat->EX->List (List Int)->EX×List (List Int)
 |0,_,s,N=>(s,N)
 |f+1,k,s,N=>if k<s.1.length then dq g ls f (k+1) (ct g (k:Int) (s.1.getD k []) (s.2.1.getD k 0) ls s []).1 (N++ [(ct g (k:Int) (s.1.getD k []) (s.2.1.getD k 0) ls s []).2]) else (s,N)
def jg (key:ByteArray):List (List Int)->Nat->Option Int
 | [],_=>none
 |x::r,i=>if Su x=key then some (i:Int) else jg key r (i+1)
def Zg (L:List (List Int)):ByteArray->Option Int:= λkey=>jg key L 0
def Ams (p:PP) (r:EX×List (List Int)):gW.den:=(p,r.1.1,r.1.2.1,Zg r.1.1,r.1.2.2.1,r.1.2.2.2,r.2,())
def Il (p:PP):gW.den:=Ams p (dq p.2.2.1 (Au p.2.2.1.length) 3001 0 ([upto p.1.toNat],[0],[0],[0]) [])
noncomputable def Ds (p:PP):Bool:=Cs p&&(Kt p.2.2.1 (upto p.1.toNat)).2.2
noncomputable abbrev Qm:Spec:=Ht (.pair Lq .unit) (.pair (.optr gW) (.pair .bool .unit)) true false (λx=>Gt x.1) (λx=>if Ds x.1=true then (some (Il x.1),true,()) else (none,false,()))
abbrev IY:Type:=Int×Int×ByteArray×List (List Int)×List (List Int)×PUnit
theorem Agl (p:Int×ByteArray×List (List Int)×Unit) (s:List Int) (P:List (List Int)->Prop):(∃(y3:List Int),Kl.fn ((↑p.2.2.1.length:Int),())=some y3/\0=0/\0=([]:List Int).length/\Ev (λ(v4:IY) (k5:IY->Prop)=>Br (decide (v4.1<(↑y3.length:Int))) (∃(y6:Int),idx y3 v4.1=some y6/\ ∃(y7:List Int),Lg.fn (v4.2.2.2.1,y6,())=some y7/\ ∃(y8:List Int),Kk.fn (s,y7,())=some y8/\0=0/\v4.2.2.2.2.1.length=v4.2.2.2.2.1.length/\v4.2.2.2.2.1.length+(List.take 1 (List.drop 0 [y8])).length<=Dn/\0=0/\(v4.2.2.2.2.1++List.take 1 (List.drop 0 [y8])).length=(v4.2.2.2.2.1++List.take 1 (List.drop 0 [y8])).length/\k5 (IntKind.i64.wrap (v4.1+(1:Int)),v4.2.1,v4.2.2.1,v4.2.2.2.1,v4.2.2.2.2.1++List.take 1 (List.drop 0 [y8]),())) (P (List.take v4.2.2.2.2.1.length (List.drop 0 v4.2.2.2.2.1)))) ((0:Int),p.1,p.2.1,p.2.2.1,[],PUnit.unit))=fnW Hz (look [(121,Kl),(147,Lg),(142,Kk)]) kH Try.f155 (p,s,()) P:=by kernel_rfl
theorem Afr (p:PP) (s:List Int) (h:Cs p=true/\s.length<=20/\ ∀y∈s,0<=y/\y<p.1):fnW Hz (look [(121,Kl),(147,Lg),(142,Kk)]) kH Try.f155 (p,s,()) (λ(z:List (List Int))=>z=zN p.2.2.1 s):=by
 obtain ⟨hv,hs,hr⟩:=h
 have hV:=valid hv
 have hf:=hV.oW
 refine Eq.mp (Agl p s _) ⟨Au p.2.2.1.length,Ab ⟨Int.natCast_nonneg _,by show ((p.2.2.1.length:Nat):Int)<=8;omega⟩,rfl,rfl,?_⟩
 have hL:=Zh p.2.2.1.length
 refine Cj (Au p.2.2.1.length).length (λv=>v.1) (λj v=>v=((j:Int),p.1,p.2.1,p.2.2.1,((Au p.2.2.1.length).take j).map (λl=>Af s (Ax p.2.2.1 l)),())) rfl (by simp) ?_
 rintro j v K hj hi rfl hK
 dsimp only
 refine Br.dec (λhl=>?_) λhl=>?_
 ·have hl:j<(Au p.2.2.1.length).length:=by omega
  have hlj:=Nj (An hl)
  obtain ⟨h1,h2⟩:=xL hV hlj
  refine ⟨_,Dk hl,_,Ab ⟨hlj,hf.2,hV.perm⟩,_,Ab ⟨hs,λy hy=>by have:=hr y hy;show 0<=y/\y<((Ax p.2.2.1 (Au p.2.2.1.length)[j]).length:Int);omega⟩,rfl,rfl,?_,rfl,rfl,?_⟩
  ·show (((Au p.2.2.1.length).take j).map _).length+1<=4294967296
   rw [Bs,Hg]
   omega
  ·rw [Cd (by omega)]
   refine hK hl _ rfl ?_
   have e:(Au p.2.2.1.length).take (j+1)=(Au p.2.2.1.length).take j++ [(Au p.2.2.1.length)[j]]:=by
    rw [Hp,Ad hl,Ls]
   rw [e,It]
   rfl
 ·have:j=(Au p.2.2.1.length).length:=by omega
  subst this
  rw [Dy,Bg,Bg]
  rfl
theorem IN:Sound Try.prog 155 kH:=
 Sound.Ht Ge (Be Zm (Be uX (Be Ws Cb))) mixed Try.func155 (by kernel_rfl) (by kernel_rfl) λx h=>Afr x.1 x.2.1 h
theorem Iz {α:Type} {xs ys:List α} {i:Nat} {d:α} (h:i<xs.length):(xs++ys).getD i d=xs.getD i d:=by
 rw [Al,Al,At h]
theorem km {α:Type} {xs:List α} {x d:α} :(xs++ [x]).getD xs.length d=x:=by
 rw [Al,As (Aq _),eV];rfl
theorem En {α:Type} {xs:List α} {i:Nat} {d:α} (h:i<xs.length):xs.getD i d=xs[i]:=by
 rw [Al,Ad h];rfl
structure Lv (g:List (List Int)) (ls:List Int) (k:Nat) (L:List (List Int)) (D:List Int):Prop where
 len:D.length=L.length
 pos:0<L.length
 mono: ∀i j,i<=j->j<L.length->D.getD i 0<=D.getD j 0
 UO:k<L.length-> ∀j,j<L.length->D.getD j 0<=D.getD k 0+1
 par: ∀j,0<j->j<L.length-> ∃i l,i<j/\l∈ls/\L.getD j []=Af (L.getD i []) (Ax g l)/\D.getD j 0=D.getD i 0+1
 zero:D.getD 0 0=0
theorem Lv.add {g:List (List Int)} {ls:List Int} {k:Nat} {L:List (List Int)} {D:List Int} (h:Lv g ls k L D) (hk:k<L.length) {l:Int} (hl:l∈ls):
  Lv g ls k (L++ [Af (L.getD k []) (Ax g l)]) (D++ [D.getD k 0+1]):=by
 have hlen:=h.len
 have hD: ∀i,i<L.length->(D++ [D.getD k 0+1]).getD i 0=D.getD i 0:= λi hi=>Iz (by omega)
 have hDl:(D++ [D.getD k 0+1]).getD L.length 0=D.getD k 0+1:=by rw [<-hlen];exact km
 refine ⟨by simp [hlen],by simp,λi j fw hj=>?_,λ_ j hj=>?_,λj h0 hj=>?_,?_⟩
 ·rw [Ay,Bu] at hj
  by_cases e:j=L.length
  ·subst e
   rw [hDl]
   by_cases e':i=L.length
   ·subst e';rw [hDl];exact Pu _
   ·rw [hD i (by omega)]
    exact h.UO hk i (by omega)
  ·rw [hD i (by omega),hD j (by omega)]
   exact h.mono i j fw (by omega)
 ·rw [Ay,Bu] at hj
  rw [hD k hk]
  by_cases e:j=L.length
  ·subst e;rw [hDl];exact Pu _
  ·rw [hD j (by omega)];exact h.UO hk j (by omega)
 ·rw [Ay,Bu] at hj
  by_cases e:j=L.length
  ·subst e
   exact ⟨k,l,hk,hl,by rw [km,Iz hk],by rw [hDl,hD k hk]⟩
  ·obtain ⟨i,l',h1,h2,h3,h4⟩:=h.par j h0 (by omega)
   exact ⟨i,l',h1,h2,by rw [Iz (by omega),Iz (by omega)];exact h3,by rw [hD j (by omega),hD i (by omega)];exact h4⟩
 ·rw [hD 0 h.pos];exact h.zero
theorem sQ {g:List (List Int)} {ls:List Int} {k:Nat} : ∀(RV:List Int) (L:List (List Int)) (D:List Int),(∀l∈RV,l∈ls)->Lv g ls k L D->k<L.length-> ∀ {x:List Int} {d:Int},x=L.getD k []->d=D.getD k 0->
  Lv g ls k (Ir g x d RV L D).1 (Ir g x d RV L D).2.1/\(∃A,(Ir g x d RV L D).1=L++A)/\(∃A,(Ir g x d RV L D).2.1=D++A)/\
  ((Ir g x d RV L D).2.2=true-> ∀l∈RV,∃j,j<(Ir g x d RV L D).1.length/\(Ir g x d RV L D).1.getD j []=Af x (Ax g l)/\(Ir g x d RV L D).2.1.getD j 0<=d+1)
 | [],L,D,_,h,_,x,d,_,_=>⟨h,⟨[],by simp [Ir]⟩,⟨[],by simp [Ir]⟩,λ_ l hl=>by cases hl⟩
 |l::RV,L,D,hs,h,hk,x,d,hx,hd=>by
  have xy: ∀l∈RV,l∈ls:= λl' h'=>hs l' (Ar _ h')
  have hlen:=h.len
  simp only [Ir]
  split
  ·rename_i hm
   obtain ⟨a1,⟨A,a2⟩,⟨A',a3⟩,a4⟩:=sQ RV L D xy h hk hx hd
   refine ⟨a1,⟨A,a2⟩,⟨A',a3⟩,λe l' Jg=>?_⟩
   rcases Bc.1 Jg with rfl|Jg
   ·obtain ⟨j,hj,hjx⟩:=Bj.1 hm
    refine ⟨j,by rw [a2,Ay];omega,by rw [a2,Iz hj,En hj];exact hjx,?_⟩
    rw [a3,Iz (by omega),hd]
    exact h.UO hk j hj
   ·exact a4 e l' Jg
  ·split
   ·exact ⟨h,⟨[],by simp⟩,⟨[],by simp⟩,λe=>by cases e⟩
   ·have ZJ:=h.add hk (hs l (by simp))
    rw [<-hx,<-hd] at ZJ
    obtain ⟨a1,⟨A,a2⟩,⟨A',a3⟩,a4⟩:=sQ RV (L++ [Af x (Ax g l)]) (D++ [d+1]) xy ZJ (by rw [Ay];omega) (x:=x) (d:=d) (by rw [Iz hk];exact hx) (by rw [Iz (by omega)];exact hd)
    refine ⟨a1,⟨_::A,by rw [a2,Ck];rfl⟩,⟨_::A',by rw [a3,Ck];rfl⟩,λe l' Jg=>?_⟩
    rcases Bc.1 Jg with rfl|Jg
    ·refine ⟨L.length,by rw [a2,Ay,Ay];simp only [Bu];omega,?_,?_⟩
     ·rw [a2,Iz (by simp),km]
     ·rw [a3,Iz (by simp [hlen]),<-hlen,km]
      exact Pu _
    ·exact a4 e l' Jg
structure sy (g:List (List Int)) (ls:List Int) (L:List (List Int)) (D:List Int):Prop where
 len:D.length=L.length
 pos:0<L.length
 zero:D.getD 0 0=0
 par: ∀j,0<j->j<L.length-> ∃i l,i<j/\l∈ls/\L.getD j []=Af (L.getD i []) (Ax g l)/\D.getD j 0=D.getD i 0+1
 step: ∀i,i<L.length-> ∀l∈ls,∃j,j<L.length/\L.getD j []=Af (L.getD i []) (Ax g l)/\D.getD j 0<=D.getD i 0+1
theorem DY {g:List (List Int)} {ls:List Int} : ∀(f k:Nat) (L:List (List Int)) (D:List Int),3001<=f+k->Lv g ls k L D->k<=L.length->
  (∀i,i<k-> ∀l∈ls,∃j,j<L.length/\L.getD j []=Af (L.getD i []) (Ax g l)/\D.getD j 0<=D.getD i 0+1)->
  (Md g ls f k L D).2.2=true->(Md g ls f k L D).1.length<=3000->sy g ls (Md g ls f k L D).1 (Md g ls f k L D).2.1
 |0,k,L,D,hf,h,hkL,hc,hw,h3=>by
  simp only [Md] at h3⊢
  omega
 |f+1,k,L,D,hf,h,hkL,hc,hw,h3=>by
  simp only [Md] at hw h3⊢
  split
  ·rename_i hk
   rw [Ab hk] at hw h3
   obtain ⟨a1,⟨A,a2⟩,⟨A',a3⟩,a4⟩:=sQ (x:=L.getD k []) (d:=D.getD k 0) ls L D (λ_ h=>h) h hk rfl rfl
   have hlen:=h.len
   split
   ·rename_i L' D' he
    rw [he] at a1 a2 a3 a4
    simp only [he] at hw h3
    have a2:L'=L++A:=a2
    have a3:D'=D++A':=a3
    have a4:=a4 rfl
    dsimp only at a4
    have hLl:L.length<=L'.length:=by rw [a2,Ay];omega
    refine DY f (k+1) L' D' (by omega) ⟨a1.len,a1.pos,a1.mono,λhk1 j hj=>?_,a1.par,a1.zero⟩ (by omega) (λi hi l hl=>?_) hw h3
    ·have h1:D'.getD j 0<=D'.getD k 0+1:=a1.UO (show k<L'.length by omega) j hj
     have h2:D'.getD k 0<=D'.getD (k+1) 0:=a1.mono k (k+1) (by omega) hk1
     omega
    ·by_cases e:i=k
     ·subst e
      obtain ⟨j,b1,b2,b3⟩:=a4 l hl
      refine ⟨j,b1,?_,?_⟩
      ·rw [b2,a2,Iz (by omega)]
      ·rw [show D'.getD i 0=D.getD i 0 by rw [a3,Iz (by omega)]];exact b3
     ·obtain ⟨j,b1,b2,b3⟩:=hc i (by omega) l hl
      refine ⟨j,by omega,?_,?_⟩
      ·rw [a2,Iz (by omega),Iz (by omega)];exact b2
      ·rw [a3,Iz (by omega),Iz (by omega)];exact b3
   ·rename_i L' D' he
    simp only [he] at hw
    cases hw
  ·rename_i hk
   exact ⟨h.len,h.pos,h.zero,h.par,λi hi=>hc i (by have hi:i<L.length:=hi;omega)⟩
theorem sR {p:PP} {s:List Int} (hv:Cs p=true) (hs:s.length<=20) (hr: ∀y∈s,0<=y/\y<p.1) (hw:(Kt p.2.2.1 s).2.2=true):
  sy p.2.2.1 (Au p.2.2.1.length) (Kt p.2.2.1 s).1 (Kt p.2.2.1 s).2.1:=by
 have hb:=(YO hv hs hr).1.ok.oW
 refine DY 3001 0 [s] [0] (by omega) ⟨rfl,by simp,λi j fw hj=>?_,λ_ j hj=>?_,λj h0 hj=>?_,rfl⟩ (Jx _) (λi hi=>absurd hi (Dj _)) hw hb
 ·have:j=0:=by simpa using hj
  subst this
  have:i=0:=by omega
  subst this
  exact Pu _
 ·have:j=0:=by simpa using hj
  subst this
  simp
 ·have:j=0:=by simpa using hj
  omega
theorem qT {p:PP} (hV:Valid p) {x:List Int} (hx: ∀y∈x,0<=y/\y<p.1) {l:Int} (hl:l∈Au p.2.2.1.length):
  -l∈Au p.2.2.1.length/\Af (Af x (Ax p.2.2.1 l)) (Ax p.2.2.1 (-l))=x:=by
 obtain ⟨k,hk,My⟩:=Se (Nj hl)
 have hg:=dz (hV.perm _ (An hk))
 have hgl:=hV.len _ (An hk)
 have hn:=hV.n
 have hp:Pm p.1.toNat (p.2.2.1[k]):=⟨by omega,hg⟩
 have key: ∀q r:List Int,Pm p.1.toNat q->Pm p.1.toNat r->Af q r=upto p.1.toNat->Af (Af x q) r=x:= λq r hq hr he=>by
  refine List.ext_getElem (by rw [Oz,Oz]) λi h1 h2=>?_
  have hxi:=hx _ (An h2)
  obtain ⟨xi,hxe⟩:=Bt hxi.1
  have RN:xi<p.1.toNat:=by omega
  have e1:ap (Af q r) xi=ap (upto p.1.toNat) xi:=Cx (λz=>ap z xi) he
  rw [Jh hq hr RN,iC RN] at e1
  simp only [Af,Za,hxe]
  have h3:=(hq.Ss RN).1
  have h4:=(hr.Ss (hq.lt RN)).1
  rw [h3,h4,e1]
 rcases My with rfl|rfl
 ·refine ⟨(Ve hk).2,?_⟩
  rw [Rn hk,Rl hk]
  exact key _ _ hp hp.inv (Tq hp)
 ·refine ⟨by rw [Int.neg_neg];exact (Ve hk).1,?_⟩
  rw [Int.neg_neg,Rn hk,Rl hk]
  exact key _ _ hp.inv hp (Zw hp)
structure Ju (g:List (List Int)) (ls:List Int) (L:List (List Int)) (S:List Int->Prop) (d:List Int->Int):Prop where
 nn: ∀x∈L,0<=d x
 zero: ∀x∈L,d x=0↔S x
 step: ∀x∈L,∀l∈ls,d (Af x (Ax g l))<=d x+1
 down: ∀x∈L,0<d x-> ∃l∈ls,d (Af x (Ax g l))=d x-1
structure lX (g:List (List Int)) (ls:List Int) (L:List (List Int)):Prop where
 next: ∀x∈L,∀l∈ls,Af x (Ax g l)∈L
 back: ∀x∈L,∀l∈ls,-l∈ls/\Af (Af x (Ax g l)) (Ax g (-l))=x
theorem Ju.le {g:List (List Int)} {ls:List Int} {L:List (List Int)} {S:List Int->Prop} {d d':List Int->Int} (hc:lX g ls L) (h:Ju g ls L S d) (h':Ju g ls L S d'):
  ∀(n:Nat) (x:List Int),x∈L->d' x=n->d x<=n
 |0,x,hx,e=>by
  have:=(h.zero x hx).2 ((h'.zero x hx).1 e)
  omega
 |n+1,x,hx,e=>by
  obtain ⟨l,hl,hd⟩:=h'.down x hx (by omega)
  obtain ⟨b1,b2⟩:=hc.back x hx l hl
  have h1:=Ju.le hc h h' n _ (hc.next x hx l hl) (by omega)
  have h2:=h.step _ (hc.next x hx l hl) _ b1
  rw [b2] at h2
  omega
theorem Ju.eq {g:List (List Int)} {ls:List Int} {L:List (List Int)} {S:List Int->Prop} {d d':List Int->Int} (hc:lX g ls L) (h:Ju g ls L S d) (h':Ju g ls L S d') {x:List Int} (hx:x∈L):d x=d' x:=by
 have n1:=h.nn x hx
 have n2:=h'.nn x hx
 have h1:=Ju.le hc h h' (d' x).toNat x hx (by omega)
 have h2:=Ju.le hc h' h (d x).toNat x hx (by omega)
 omega
theorem Ju.UO {g:List (List Int)} {ls:List Int} {L:List (List Int)} {S:List Int->Prop} {d:List Int->Int} (hc:lX g ls L) (h:Ju g ls L S d) {x:List Int} (hx:x∈L) {l:Int} (hl:l∈ls):
  d x-1<=d (Af x (Ax g l)):=by
 obtain ⟨b1,b2⟩:=hc.back x hx l hl
 have h2:=h.step _ (hc.next x hx l hl) _ b1
 rw [b2] at h2
 omega
def Li (L:List (List Int)) (D:List Int) (x:List Int):Int:=if x∈L then D.getD (L.idxOf x) 0 else-1
theorem Pk {L:List (List Int)} (hn:L.Nodup) {j:Nat} (hj:j<L.length):L.idxOf (L.getD j [])=j:=by
 rw [En hj]
 exact hn.idxOf_getElem j hj
theorem Py {L:List (List Int)} {j:Nat} (hj:j<L.length):L.getD j []∈L:=by rw [En hj];exact An hj
theorem mh {L:List (List Int)} {D:List Int} (hn:L.Nodup) {j:Nat} (hj:j<L.length):Li L D (L.getD j [])=D.getD j 0:=by
 unfold Li
 rw [Ab (Py hj),Pk hn hj]
theorem wg {p:PP} (hV:Valid p) {m:Nat} {L:List (List Int)} {D:List Int} (hb:aB p m L D) (h:sy p.2.2.1 (Au p.2.2.1.length) L D):lX p.2.2.1 (Au p.2.2.1.length) L where
 next x hx l hl:=by
  obtain ⟨i,hi,rfl⟩:=Bj.1 hx
  obtain ⟨j,h1,h2,_⟩:=h.step i hi l hl
  rw [En hi] at h2
  rw [<-h2]
  exact Py h1
 back x hx l hl:=qT hV (hb.row x hx) hl
theorem GJ {p:PP} (hV:Valid p) {m:Nat} {L:List (List Int)} {D:List Int} (hb:aB p m L D) (h:sy p.2.2.1 (Au p.2.2.1.length) L D):
  Ju p.2.2.1 (Au p.2.2.1.length) L (λx=>x=L.getD 0 []) (Li L D) where
 nn x hx:=by
  obtain ⟨i,hi,rfl⟩:=Bj.1 hx
  rw [<-En (d:= []) hi,mh hb.ok.nodup hi]
  have:=hb.dep i (by rw [hb.len];exact hi)
  rw [En (by rw [hb.len];exact hi)]
  omega
 zero x hx:=by
  obtain ⟨i,hi,rfl⟩:=Bj.1 hx
  rw [<-En (d:= []) hi,mh hb.ok.nodup hi]
  constructor
  ·intro h0
   by_cases e:i=0
   ·rw [e]
   ·obtain ⟨k,l,h1,_,_,h4⟩:=h.par i (by omega) hi
    have hk:k<D.length:=by rw [hb.len];omega
    have:=hb.dep k hk
    rw [<-En (d:=0) hk] at this
    omega
  ·intro e
   have:i=0:=by
    have h1:=Pk hb.ok.nodup hi
    have h2:=Pk hb.ok.nodup h.pos
    rw [e,h2] at h1
    exact h1.symm
   rw [this]
   exact h.zero
 step x hx l hl:=by
  obtain ⟨i,hi,rfl⟩:=Bj.1 hx
  rw [<-En (d:= []) hi,mh hb.ok.nodup hi]
  obtain ⟨j,h1,h2,h3⟩:=h.step i hi l hl
  rw [<-h2,mh hb.ok.nodup h1]
  exact h3
 down x hx h0:=by
  obtain ⟨i,hi,rfl⟩:=Bj.1 hx
  rw [<-En (d:= []) hi,mh hb.ok.nodup hi] at h0⊢
  have hi0:0<i:=by
   rcases Tl i with e|e
   ·subst e;rw [h.zero] at h0;omega
   ·exact e
  obtain ⟨k,l,h1,h2,h3,h4⟩:=h.par i hi0 hi
  have hk:k<L.length:=by omega
  obtain ⟨b1,b2⟩:=qT hV (hb.row _ (Py hk)) h2
  refine ⟨-l,b1,?_⟩
  rw [h3,b2,mh hb.ok.nodup hk]
  omega
def aP (x:Int):List Int->List Int×List Int->List Int×List Int
 | [],s=>s
 |t::r,s=>if s.1.getD t.toNat 0<0 then aP x r (s.1.set t.toNat (s.1.getD x.toNat 0+1),s.2++ [t]) else aP x r s
def vU (N:Nat->List Int):Nat->List Int->List Int->List Int
 |0,out,_=>out
 |_+1,out,[]=>out
 |f+1,out,x::q=>vU N f (aP x (N x.toNat) (out,q)).1 (aP x (N x.toNat) (out,q)).2
def XM (S:Nat->Bool) (m:Nat):List Int:=(List.range m).map λi=>if S i=true then 0 else-1
def dq0 (S:Nat->Bool) (m:Nat):List Int:=((List.range m).filter S).map λ(i:Nat)=>(i:Int)
def pG (N:Nat->List Int) (S:Nat->Bool) (m:Nat):List Int:=vU N (m+1) (XM S m) (dq0 S m)
def eF (out:List Int):Nat:=out.countP λv=>decide (v<0)
theorem ko {xs:List Int} {i j:Nat} {v:Int} (hj:j<xs.length):(xs.set i v).getD j 0=if i=j then v else xs.getD j 0:=by
 rw [Ke]
 by_cases e:i=j
 ·subst e;rw [Ab ⟨rfl,hj⟩,Ab rfl]
 ·rw [Ak λh=>e h.1,Ak e]
theorem HC {xs:List Int} {i:Nat} {v:Int} (hi:i<xs.length) (h:xs.getD i 0<0) (hv:0<=v):eF (xs.set i v)+1=eF xs:=by
 unfold eF
 rw [List.countP_set hi]
 rw [Aef hi] at h
 have hp:0<xs.countP λv=>decide (v<0):=List.countP_pos_iff.2 ⟨xs[i],An hi,Cl h⟩
 simp only [Cl h,Ny]
 rw [Ak (by simp;omega)]
 omega
structure DI (N:Nat->List Int) (S:Nat->Bool) (m:Nat) (w:Nat->Prop) (out q:List Int):Prop where
 len:out.length=m
 ge: ∀i,i<m-> -1<=out.getD i 0
 inq: ∀y∈q,0<=y/\y<m/\0<=out.getD y.toNat 0
 src: ∀i,i<m->S i=true->out.getD i 0=0
 Ag1: ∀i,i<m->out.getD i 0=0->S i=true
 par: ∀i,i<m->0<out.getD i 0-> ∃j,j<m/\(i:Int)∈N j/\out.getD j 0=out.getD i 0-1
 done: ∀i,i<m->0<=out.getD i 0->(i:Int)∉q-> ¬w i-> ∀t∈N i,0<=out.getD t.toNat 0/\out.getD t.toNat 0<=out.getD i 0+1
 ord:q.Pairwise λa b=>out.getD a.toNat 0<=out.getD b.toNat 0
structure DX (N:Nat->List Int) (S:Nat->Bool) (m:Nat) (x:Nat) (d:Int) (out q:List Int):Prop where
 base:DI N S m (λi=>i=x) out q
 lt:x<m
 Ss:out.getD x 0=d
 d0:0<=d
 lo: ∀y∈q,d<=out.getD y.toNat 0
 hi: ∀i,i<m->out.getD i 0<=d+1
def fa (N:Nat->List Int) (m:Nat):Prop:= ∀i,i<m-> ∀t∈N i,0<=t/\t<m
theorem QK {N:Nat->List Int} {S:Nat->Bool} {m x:Nat} {d:Int} {out q:List Int} (hr:fa N m) (h:DX N S m x d out q) {t:Int} (ht:t∈N x) (htm:0<=t/\t<m) (rT:out.getD t.toNat 0<0):
  DX N S m x d (out.set t.toNat (d+1)) (q++ [t]):=by
 obtain ⟨⟨b1,b2,b3,b4,b5,b6,b7,b8⟩,h1,h2,h3,h4,h5⟩:=h
 obtain ⟨tn,rfl⟩:=Bt htm.1
 simp only [Ac] at rT⊢
 have htn:tn<m:=by omega
 have hg: ∀i,i<m->(out.set tn (d+1)).getD i 0=if tn=i then d+1 else out.getD i 0:= λi hi=>ko (by omega)
 have Ig: ∀i,0<=out.getD i 0->tn≠i:= λi hi e=>by subst e;omega
 have hq: ∀y∈q,(out.set tn (d+1)).getD y.toNat 0=out.getD y.toNat 0:= λy hy=>by
  have:=b3 y hy
  rw [hg _ (by omega),Ak (Ig _ this.2.2)]
 refine ⟨⟨by rw [Bv];exact b1,λi hi=>?_,λy hy=>?_,λi hi hs=>?_,λi hi h0=>?_,λi hi h0=>?_,λi hi h0 hn hw=>?_,?_⟩,h1,?_,h3,λy hy=>?_,λi hi=>?_⟩
 ·rw [hg i hi];split
  ·omega
  ·exact b2 i hi
 ·rcases Az.1 hy with hy|hy
  ·rw [hq y hy];exact b3 y hy
  ·rw [Ae.1 hy]
   refine ⟨by omega,by omega,?_⟩
   rw [hg _ (by omega),Ab (by omega)];omega
 ·have:=b4 i hi hs
  rw [hg i hi,Ak (Ig i (by omega))];exact this
 ·rw [hg i hi] at h0
  split at h0
  ·omega
  ·exact b5 i hi h0
 ·rw [hg i hi] at h0⊢
  by_cases e:tn=i
  ·subst e
   rw [Ab rfl]
   exact ⟨x,h1,ht,by rw [hg x h1,Ak (Ig x (by omega)),h2];omega⟩
  ·rw [Ak e] at h0⊢
   obtain ⟨j,j1,j2,j3⟩:=b6 i hi h0
   exact ⟨j,j1,j2,by rw [hg j j1,Ak (Ig j (by omega))];exact j3⟩
 ·rw [hg i hi] at h0⊢
  have Rw: ¬tn=i:= λe=>hn (by rw [<-e];simp)
  rw [Ak Rw] at h0⊢
  intro t kT
  obtain ⟨c1,c2⟩:=b7 i hi h0 (λh=>hn (Bi _ h)) hw t kT
  have:=hr i hi t kT
  rw [hg _ (by omega),Ak (Ig _ c1)]
  exact ⟨c1,c2⟩
 ·refine dN.2 ⟨?_,List.pairwise_singleton _ _,λa ha b hb=>?_⟩
  ·refine b8.imp_of_mem λha hb h=>?_
   rw [hq _ ha,hq _ hb];exact h
  ·rw [Ae.1 hb,hq _ ha,hg _ (by omega),Ab (by omega)]
   have:=b3 a ha
   exact h5 _ (by omega)
 ·rw [hg x h1,Ak (Ig x (by omega))];exact h2
 ·rcases Az.1 hy with hy|hy
  ·rw [hq y hy];exact h4 y hy
  ·rw [Ae.1 hy,hg _ (by omega),Ab (by omega)];omega
 ·rw [hg i hi];split
  ·exact Pu _
  ·exact h5 i hi
theorem YZ {N:Nat->List Int} {S:Nat->Bool} {m x:Nat} {d:Int} (hr:fa N m): ∀(ts:List Int) (out q:List Int),(∀t∈ts,t∈N x)->DX N S m x d out q->
  DX N S m x d (aP x ts (out,q)).1 (aP x ts (out,q)).2/\(aP x ts (out,q)).2.length+eF (aP x ts (out,q)).1=q.length+eF out/\
  (∀t∈ts,0<=(aP x ts (out,q)).1.getD t.toNat 0)/\(∀i,i<m->0<=out.getD i 0->(aP x ts (out,q)).1.getD i 0=out.getD i 0)
 | [],out,q,_,h=>⟨h,rfl,(λt ht=>nomatch ht),λ_ _ _=>rfl⟩
 |t::ts,out,q,hs,h=>by
  have xy: ∀t∈ts,t∈N x:= λt' h'=>hs t' (Ar _ h')
  have htm:=hr x h.lt t (hs t (by simp))
  simp only [aP]
  have hx0:out.getD ((x:Nat):Int).toNat 0=d:=by rw [Ac];exact h.Ss
  by_cases rT:out.getD t.toNat 0<0
  ·rw [Ab rT,hx0]
   have h1:=QK hr h (hs t (by simp)) htm rT
   have hd:=h.d0
   have hlen:=h.base.len
   obtain ⟨a1,a2,a3,a4⟩:=YZ hr ts _ _ xy h1
   have hti:(out.set t.toNat (d+1)).getD t.toNat 0=d+1:=by rw [ko (by omega),Ab rfl]
   refine ⟨a1,?_,λt' kT=>?_,λi hi h0=>?_⟩
   ·have:=HC (xs:=out) (i:=t.toNat) (v:=d+1) (by omega) rT (by omega)
    rw [a2,Ay,Bu]
    omega
   ·rcases Bc.1 kT with rfl|kT
    ·rw [a4 _ (by omega) (by omega),hti];omega
    ·exact a3 t' kT
   ·have Ig: ¬t.toNat=i:= λe=>by subst e;omega
    have e:(out.set t.toNat (d+1)).getD i 0=out.getD i 0:=by rw [ko (by omega),Ak Ig]
    rw [a4 i hi (by rw [e];exact h0),e]
  ·rw [Ak rT]
   obtain ⟨a1,a2,a3,a4⟩:=YZ hr ts _ _ xy h
   refine ⟨a1,a2,λt' kT=>?_,a4⟩
   rcases Bc.1 kT with rfl|kT
   ·rw [a4 _ (by omega) (by omega)];omega
   ·exact a3 t' kT
structure DQ (N:Nat->List Int) (S:Nat->Bool) (m:Nat) (out q:List Int):Prop where
 base:DI N S m (λ_=>False) out q
 hi: ∀x q',q=x::q'-> ∀i,i<m->out.getD i 0<=out.getD x.toNat 0+1
theorem z6 {N:Nat->List Int} {S:Nat->Bool} {m:Nat} (hr:fa N m) {x:Int} {out q:List Int} (h:DQ N S m out (x::q)):
  DQ N S m (aP x (N x.toNat) (out,q)).1 (aP x (N x.toNat) (out,q)).2/\(aP x (N x.toNat) (out,q)).2.length+eF (aP x (N x.toNat) (out,q)).1=q.length+eF out/\ ∀i,i<m->(aP x (N x.toNat) (out,q)).1.getD i 0<=out.getD x.toNat 0+1:=by
 obtain ⟨b,hi⟩:=h
 obtain ⟨h1,h2,h3⟩:=b.inq x (by simp)
 obtain ⟨xn,rfl⟩:=Bt h1
 simp only [Ac] at h3⊢
 obtain ⟨o1,o2⟩:=List.pairwise_cons.1 b.ord
 simp only [Ac] at o1
 have hx:DX N S m xn (out.getD xn 0) out q:=by
  refine ⟨⟨b.len,b.ge,λy hy=>b.inq y (Ar _ hy),b.src,b.Ag1,b.par,λi hi h0 hn hw=>b.done i hi h0 (λhm=>?_) (λh=>h),o2⟩,by omega,rfl,h3,o1,?_⟩
  ·rcases Bc.1 hm with e|hm
   ·exact hw (by omega)
   ·exact hn hm
  ·have:=hi xn q rfl
   rwa [Ac] at this
 obtain ⟨a1,a2,a3,a4⟩:=YZ hr (N xn) out q (λ_ h=>h) hx
 obtain ⟨c,c1,c2,c3,c4,c5⟩:=a1
 refine ⟨⟨⟨c.len,c.ge,c.inq,c.src,c.Ag1,c.par,λi dP h0 hn _ t ht=>?_,c.ord⟩,λy q' e i hi=>?_⟩,a2,c5⟩
 ·by_cases e:i=xn
  ·subst e
   refine ⟨a3 t ht,?_⟩
   rw [c2]
   have:=hr i dP t ht
   exact c5 _ (by omega)
  ·exact c.done i dP h0 hn e t ht
 ·have h4:=c4 y (by rw [e];simp)
  have h5:=c5 i hi
  omega
theorem YW {N:Nat->List Int} {S:Nat->Bool} {m:Nat} (hr:fa N m) {x:Int} {out q:List Int} (h:DQ N S m out (x::q)):
  DQ N S m (aP x (N x.toNat) (out,q)).1 (aP x (N x.toNat) (out,q)).2/\(aP x (N x.toNat) (out,q)).2.length+eF (aP x (N x.toNat) (out,q)).1=q.length+eF out:=⟨(z6 hr h).1,(z6 hr h).2.1⟩
theorem YX {N:Nat->List Int} {S:Nat->Bool} {m M:Nat} (hr:fa N m): ∀(f:Nat) (out q:List Int) (T:Nat),DQ N S m out q->(∀i,i<m->out.getD i 0<=T)->T+(q.length+eF out)<=M-> ∀i,i<m->(vU N f out q).getD i 0<=M
 |0,out,q,T,_,h1,h2,i,hi=>by have:=h1 i hi;simp only [vU];omega
 |f+1,out,[],T,_,h1,h2,i,hi=>by have:=h1 i hi;simp only [vU];omega
 |f+1,out,x::q,T,h,h1,h2,i,hi=>by
  obtain ⟨a1,a2,a3⟩:=z6 hr h
  have hx:=h.base.inq x (by simp)
  have hxT:=h1 x.toNat (by omega)
  simp only [vU]
  simp only [Av] at h2
  exact YX hr f _ _ (T+1) a1 (λj hj=>by have:=a3 j hj;push_cast;omega) (by omega) i hi
theorem YY {N:Nat->List Int} {S:Nat->Bool} {m:Nat} (hr:fa N m): ∀(f:Nat) (out q:List Int),q.length+eF out<f->DQ N S m out q->DQ N S m (vU N f out q) []
 |0,out,q,hf,_=>absurd hf (Dj _)
 |f+1,out,[],_,h=>h
 |f+1,out,x::q,hf,h=>by
  obtain ⟨h1,h2⟩:=YW hr h
  simp only [vU]
  simp only [Av] at hf
  exact YY hr f _ _ (by omega) h1
theorem aq {S:Nat->Bool} {m i:Nat} (hi:i<m):(XM S m).getD i 0=if S i=true then 0 else-1:=by
 unfold XM
 rw [Al,Ex,Qz hi]
 rfl
theorem ou {S:Nat->Bool} {m:Nat} {y:Int} :y∈dq0 S m↔ ∃i:Nat,y=i/\i<m/\S i=true:=by
 unfold dq0
 simp only [Ba,Bm,Es]
 constructor
 ·rintro ⟨i,⟨h1,h2⟩,rfl⟩;exact ⟨i,rfl,h1,h2⟩
 ·rintro ⟨i,rfl,h1,h2⟩;exact ⟨i,⟨h1,h2⟩,rfl⟩
theorem sX (N:Nat->List Int) (S:Nat->Bool) (m:Nat):DQ N S m (XM S m) (dq0 S m):=by
 have hle: ∀i,i<m->(XM S m).getD i 0<=0:= λi hi=>by rw [aq hi];split<;>omega
 refine ⟨⟨by simp [XM],λi hi=>?_,λy hy=>?_,λi hi hs=>?_,λi hi h0=>?_,λi hi h0=>?_,λi hi h0 hn _=>?_,?_⟩,λx q' e i hi=>?_⟩
 ·rw [aq hi];split<;>omega
 ·obtain ⟨i,rfl,h1,h2⟩:=ou.1 hy
  rw [Ac,aq h1,Ab h2]
  exact ⟨by omega,by omega,Pu _⟩
 ·rw [aq hi,Ab hs]
 ·rw [aq hi] at h0
  split at h0
  ·assumption
  ·omega
 ·have:=hle i hi;omega
 ·rw [aq hi] at h0
  split at h0
  ·rename_i hs
   exact absurd (ou.2 ⟨i,rfl,hi,hs⟩) hn
  ·omega
 ·refine im (R:= λ_ _=>True) (λha hb _=>?_) (List.pairwise_of_forall λ_ _=>trivial)
  obtain ⟨i,rfl,h1,h2⟩:=ou.1 ha
  obtain ⟨j,rfl,h3,h4⟩:=ou.1 hb
  rw [Ac,Ac,aq h1,aq h3,Ab h2,Ab h4]
  exact Pu _
 ·obtain ⟨j,rfl,h3,h4⟩:=ou.1 (show x∈dq0 S m by rw [e];simp)
  have:=hle i hi
  rw [Ac,aq h3,Ab h4]
  omega
theorem SD {S:Nat->Bool} {m:Nat} :(dq0 S m).length+eF (XM S m)=m:=by
 unfold dq0 eF XM
 rw [Bs,List.countP_map]
 have h:(List.range m).countP ((λv=>decide (v<0))∘ λi=>if S i=true then (0:Int) else-1)=(List.range m).countP λi=>!S i:=by
  refine List.countP_congr λi _=>?_
  simp only [Function.comp]
  by_cases e:S i=true
  ·simp [e]
  ·simp [Fa _▸e]
 rw [h,<-Ln]
 have:=List.length_eq_countP_add_countP (l:=List.range m) S
 rw [Vt] at this
 have e:(List.range m).countP (λa=>decide ¬S a=true)=(List.range m).countP λi=>!S i:=List.countP_congr λi _=>by cases S i<;>simp
 rw [e] at this
 omega
theorem Agw {N:Nat->List Int} {S:Nat->Bool} {m:Nat} (hr:fa N m):DI N S m (λ_=>False) (pG N S m) []:=
 (YY hr (m+1) _ _ (by rw [SD];omega) (sX N S m)).base
theorem Amq {N:Nat->List Int} {S:Nat->Bool} {m:Nat} (hr:fa N m) {i:Nat} (hi:i<m):(pG N S m).getD i 0<=m:=
 YX hr (m+1) _ _ 0 (sX N S m) (λj hj=>by rw [aq hj];split<;>omega) (by rw [SD];omega) i hi
abbrev vr:Type:=Int×Int×ByteArray×List (List Int)×List Int×List (List Int)×List Int×(ByteArray->Option Int)×List Int×List Int×Int×ByteArray×List (List Int)×List (List Int)×PUnit
abbrev vz:Type:=Int×Int×ByteArray×List (List Int)×List (List Int)×List Int×(ByteArray->Option Int)×List Int×List Int×Int×ByteArray×List (List Int)×List (List Int)×PUnit
abbrev fD:List (Nat×Nat):= [(0,1),(0,1),(0,1),(0,1),(0,1),(0,1),(0,1),(0,1),(0,1),(0,1),(0,1),(0,1),(0,0)]
abbrev Hb (p:Int×ByteArray×List (List Int)×Unit) (y4:List Int) (y2:Int) (y3:Bool) (y6:ByteArray) (y5:ByteArray):Prop:=fD=fD/\(p,false,y4,p.1,p.2.1,p.2.2.1,y2,y3,!y3,p.1,y4,p.1,p.2.1,p.2.2.1,y4,y4,y6,p.1,p.2.1,p.2.2.1,p.1,p.2.1,p.2.2.1,[y4],[(0:Int)],gr (λ(_:ByteArray)=>none) y6 (0:Int),[(0:Int)],[(0:Int)],p.1,p.2.1,p.2.2.1,([]:List (List Int)),())=(p,false,y4,p.1,p.2.1,p.2.2.1,y2,y3,!y3,p.1,y4,p.1,p.2.1,p.2.2.1,y4,y4,y5,p.1,p.2.1,p.2.2.1,p.1,p.2.1,p.2.2.1,[y4],[(0:Int)],gr (λ(_:ByteArray)=>none) y5 (0:Int),[(0:Int)],[(0:Int)],p.1,p.2.1,p.2.2.1,([]:List (List Int)),PUnit.unit)
theorem WW (p:Int×ByteArray×List (List Int)×Unit) (P:(Option (PP×List (List Int)×List Int×(ByteArray->Option Int)×List Int×List Int×List (List Int)×Unit)×Bool×Unit)->Prop):(∃(y2:Int),Sk.fn ((p.1,p.2.1,p.2.2.1,()),())=some y2/\ ∃(y3:Bool),Dl.fn (y2,(1:Int),(3000:Int),())=some y3/\Br (!y3) (P (none,false,())) (∃(y4:List Int),Vj.fn (p.1,())=some y4/\ ∃(y5:ByteArray),Ih.fn (y4,())=some y5/\(∃(y6:List Int),Kl.fn ((↑p.2.2.1.length:Int),())=some y6/\0=0/\1= [y4].length/\0=0/\1= [(0:Int)].length/\0=0/\1= [(0:Int)].length/\0=0/\1= [(0:Int)].length/\0=0/\0=([]:List Int).length/\Ev (λ(v7:vz) (k8:vz->Prop)=>Br (decide (v7.1<(↑v7.2.2.2.2.1.length:Int))) (((0:Int)<=v7.1/\v7.1<(↑v7.2.2.2.2.1.length:Int))/\ ∃(y9:List Int),v7.2.2.2.2.1[0+v7.1.toNat]?=some y9/\ ∃(Qp:List (List Int)),kH.fn ((v7.2.1,v7.2.2.1,v7.2.2.2.1,()),y9,())=some Qp/\0=0/\0=([]:List Int).length/\0=0/\v7.2.2.2.2.1.length=v7.2.2.2.2.1.length/\0=0/\v7.2.2.2.2.2.1.length=v7.2.2.2.2.2.1.length/\0=0/\v7.2.2.2.2.2.2.2.1.length=v7.2.2.2.2.2.2.2.1.length/\0=0/\v7.2.2.2.2.2.2.2.2.1.length=v7.2.2.2.2.2.2.2.2.1.length/\0=0/\v7.2.2.2.2.2.2.2.2.2.2.2.2.1.length=v7.2.2.2.2.2.2.2.2.2.2.2.2.1.length/\Ev (λ(v11:vr) (k12:vr->Prop)=>Br (decide (v11.1<(↑Qp.length:Int))) (∃(hJ:List Int),idx Qp v11.1=some hJ/\ ∃(Ub:ByteArray),Ih.fn (hJ,())=some Ub/\Br (!(v11.2.2.2.2.2.2.2.1 Ub).isSome) (∃(JT:Int),Od.fn (List.take v11.2.2.2.2.2.1.length (List.drop 0 v11.2.2.2.2.2.1),())=some JT/\0=0/\v11.2.2.2.2.2.1.length=v11.2.2.2.2.2.1.length/\v11.2.2.2.2.2.1.length+(List.take 1 (List.drop 0 [hJ])).length<=Dn/\((0:Int)<=v7.1/\v7.1<(↑v11.2.2.2.2.2.2.1.length:Int))/\ ∃(oU:Int),v11.2.2.2.2.2.2.1[0+v7.1.toNat]?=some oU/\0=0/\v11.2.2.2.2.2.2.1.length=v11.2.2.2.2.2.2.1.length/\v11.2.2.2.2.2.2.1.length+ [IntKind.i64.wrap (oU+(1:Int))].length<=Dn/\0=0/\v11.2.2.2.2.2.2.2.2.1.length=v11.2.2.2.2.2.2.2.2.1.length/\v11.2.2.2.2.2.2.2.2.1.length+(List.take 1 (List.drop 0 [v7.1])).length<=Dn/\ ∃(y17:Int),idx y6 v11.1=some y17/\0=0/\v11.2.2.2.2.2.2.2.2.2.1.length=v11.2.2.2.2.2.2.2.2.2.1.length/\v11.2.2.2.2.2.2.2.2.2.1.length+ [y17].length<=Dn/\0=0/\v11.2.2.2.2.1.length=v11.2.2.2.2.1.length/\v11.2.2.2.2.1.length+(List.take 1 (List.drop 0 [JT])).length<=Dn/\0=0/\(v11.2.2.2.2.1++List.take 1 (List.drop 0 [JT])).length=(v11.2.2.2.2.1++List.take 1 (List.drop 0 [JT])).length/\0=0/\(v11.2.2.2.2.2.1++List.take 1 (List.drop 0 [hJ])).length=(v11.2.2.2.2.2.1++List.take 1 (List.drop 0 [hJ])).length/\0=0/\(v11.2.2.2.2.2.2.1++ [IntKind.i64.wrap (oU+(1:Int))]).length=(v11.2.2.2.2.2.2.1++ [IntKind.i64.wrap (oU+(1:Int))]).length/\0=0/\(v11.2.2.2.2.2.2.2.2.1++List.take 1 (List.drop 0 [v7.1])).length=(v11.2.2.2.2.2.2.2.2.1++List.take 1 (List.drop 0 [v7.1])).length/\0=0/\(v11.2.2.2.2.2.2.2.2.2.1++ [y17]).length=(v11.2.2.2.2.2.2.2.2.2.1++ [y17]).length/\0=0/\v11.2.2.2.2.2.2.2.2.2.2.2.2.2.1.length=v11.2.2.2.2.2.2.2.2.2.2.2.2.2.1.length/\k12 (IntKind.i64.wrap (v11.1+(1:Int)),v11.2.1,v11.2.2.1,v11.2.2.2.1,v11.2.2.2.2.1++List.take 1 (List.drop 0 [JT]),v11.2.2.2.2.2.1++List.take 1 (List.drop 0 [hJ]),v11.2.2.2.2.2.2.1++ [IntKind.i64.wrap (oU+(1:Int))],gr v11.2.2.2.2.2.2.2.1 Ub JT,v11.2.2.2.2.2.2.2.2.1++List.take 1 (List.drop 0 [v7.1]),v11.2.2.2.2.2.2.2.2.2.1++ [y17],v11.2.2.2.2.2.2.2.2.2.2.1,v11.2.2.2.2.2.2.2.2.2.2.2.1,v11.2.2.2.2.2.2.2.2.2.2.2.2.1,v11.2.2.2.2.2.2.2.2.2.2.2.2.2.1,())) (0=0/\v11.2.2.2.2.1.length=v11.2.2.2.2.1.length/\v11.2.2.2.2.1.length+(List.take 1 (List.drop 0 [(v11.2.2.2.2.2.2.2.1 Ub).getD (Int.ofNat (nat_lit 0))])).length<=Dn/\0=0/\(v11.2.2.2.2.1++List.take 1 (List.drop 0 [(v11.2.2.2.2.2.2.2.1 Ub).getD (Int.ofNat (nat_lit 0))])).length=(v11.2.2.2.2.1++List.take 1 (List.drop 0 [(v11.2.2.2.2.2.2.2.1 Ub).getD (Int.ofNat (nat_lit 0))])).length/\0=0/\v11.2.2.2.2.2.1.length=v11.2.2.2.2.2.1.length/\0=0/\v11.2.2.2.2.2.2.1.length=v11.2.2.2.2.2.2.1.length/\0=0/\v11.2.2.2.2.2.2.2.2.1.length=v11.2.2.2.2.2.2.2.2.1.length/\0=0/\v11.2.2.2.2.2.2.2.2.2.1.length=v11.2.2.2.2.2.2.2.2.2.1.length/\0=0/\v11.2.2.2.2.2.2.2.2.2.2.2.2.2.1.length=v11.2.2.2.2.2.2.2.2.2.2.2.2.2.1.length/\k12 (IntKind.i64.wrap (v11.1+(1:Int)),v11.2.1,v11.2.2.1,v11.2.2.2.1,v11.2.2.2.2.1++List.take 1 (List.drop 0 [(v11.2.2.2.2.2.2.2.1 Ub).getD (Int.ofNat (nat_lit 0))]),v11.2.2.2.2.2.1,v11.2.2.2.2.2.2.1,v11.2.2.2.2.2.2.2.1,v11.2.2.2.2.2.2.2.2.1,v11.2.2.2.2.2.2.2.2.2.1,v11.2.2.2.2.2.2.2.2.2.2.1,v11.2.2.2.2.2.2.2.2.2.2.2.1,v11.2.2.2.2.2.2.2.2.2.2.2.2.1,v11.2.2.2.2.2.2.2.2.2.2.2.2.2.1,()))) (0=0/\v11.2.2.2.2.2.2.2.2.2.2.2.2.2.1.length=v11.2.2.2.2.2.2.2.2.2.2.2.2.2.1.length/\v11.2.2.2.2.2.2.2.2.2.2.2.2.2.1.length+(List.take 1 (List.drop 0 [List.take v11.2.2.2.2.1.length (List.drop 0 v11.2.2.2.2.1)])).length<=Dn/\0=0/\v11.2.2.2.2.2.1.length=v11.2.2.2.2.2.1.length/\0=0/\v11.2.2.2.2.2.2.1.length=v11.2.2.2.2.2.2.1.length/\0=0/\v11.2.2.2.2.2.2.2.2.1.length=v11.2.2.2.2.2.2.2.2.1.length/\0=0/\v11.2.2.2.2.2.2.2.2.2.1.length=v11.2.2.2.2.2.2.2.2.2.1.length/\0=0/\(v11.2.2.2.2.2.2.2.2.2.2.2.2.2.1++List.take 1 (List.drop 0 [List.take v11.2.2.2.2.1.length (List.drop 0 v11.2.2.2.2.1)])).length=(v11.2.2.2.2.2.2.2.2.2.2.2.2.2.1++List.take 1 (List.drop 0 [List.take v11.2.2.2.2.1.length (List.drop 0 v11.2.2.2.2.1)])).length/\k8 (IntKind.i64.wrap (v7.1+(1:Int)),v11.2.1,v11.2.2.1,v11.2.2.2.1,v11.2.2.2.2.2.1,v11.2.2.2.2.2.2.1,v11.2.2.2.2.2.2.2.1,v11.2.2.2.2.2.2.2.2.1,v11.2.2.2.2.2.2.2.2.2.1,v11.2.2.2.2.2.2.2.2.2.2.1,v11.2.2.2.2.2.2.2.2.2.2.2.1,v11.2.2.2.2.2.2.2.2.2.2.2.2.1,v11.2.2.2.2.2.2.2.2.2.2.2.2.2.1++List.take 1 (List.drop 0 [List.take v11.2.2.2.2.1.length (List.drop 0 v11.2.2.2.2.1)]),()))) ((0:Int),v7.2.1,v7.2.2.1,v7.2.2.2.1,[],v7.2.2.2.2.1,v7.2.2.2.2.2.1,v7.2.2.2.2.2.2.1,v7.2.2.2.2.2.2.2.1,v7.2.2.2.2.2.2.2.2.1,v7.2.2.2.2.2.2.2.2.2.1,v7.2.2.2.2.2.2.2.2.2.2.1,v7.2.2.2.2.2.2.2.2.2.2.2.1,v7.2.2.2.2.2.2.2.2.2.2.2.2.1,PUnit.unit)) (P (some ((v7.2.2.2.2.2.2.2.2.2.1,v7.2.2.2.2.2.2.2.2.2.2.1,v7.2.2.2.2.2.2.2.2.2.2.2.1,()),List.take v7.2.2.2.2.1.length (List.drop 0 v7.2.2.2.2.1),List.take v7.2.2.2.2.2.1.length (List.drop 0 v7.2.2.2.2.2.1),v7.2.2.2.2.2.2.1,List.take v7.2.2.2.2.2.2.2.1.length (List.drop 0 v7.2.2.2.2.2.2.2.1),List.take v7.2.2.2.2.2.2.2.2.1.length (List.drop 0 v7.2.2.2.2.2.2.2.2.1),List.take v7.2.2.2.2.2.2.2.2.2.2.2.2.1.length (List.drop 0 v7.2.2.2.2.2.2.2.2.2.2.2.2.1),()),true,()))) ((0:Int),p.1,p.2.1,p.2.2.1,[y4],[(0:Int)],gr (λ(_:ByteArray)=>none) y5 (0:Int),[(0:Int)],[(0:Int)],p.1,p.2.1,p.2.2.1,([]:List (List Int)),PUnit.unit))/\((∃(y6:ByteArray),Ih.fn (y4,())=some y6/\(Hb p y4 y2 y3 y6 y5))/\ ∃(y6:ByteArray),Ih.fn (y4,())=some y6/\((Hb p y4 y2 y3 y6 y5))/\((Hb p y4 y2 y3 y6 y5))/\(Hb p y4 y2 y3 y6 y5))/\((∃(y6:ByteArray),Ih.fn (y4,())=some y6/\(Hb p y4 y2 y3 y6 y5))/\ ∃(y6:ByteArray),Ih.fn (y4,())=some y6/\((Hb p y4 y2 y3 y6 y5))/\((Hb p y4 y2 y3 y6 y5))/\(Hb p y4 y2 y3 y6 y5))/\ ∃(y6:ByteArray),Ih.fn (y4,())=some y6/\(((Hb p y4 y2 y3 y6 y5))/\((Hb p y4 y2 y3 y6 y5))/\(Hb p y4 y2 y3 y6 y5))/\(((Hb p y4 y2 y3 y6 y5))/\((Hb p y4 y2 y3 y6 y5))/\(Hb p y4 y2 y3 y6 y5))/\(((Hb p y4 y2 y3 y6 y5))/\(Hb p y4 y2 y3 y6 y5))/\(((Hb p y4 y2 y3 y6 y5))/\(Hb p y4 y2 y3 y6 y5))/\((Hb p y4 y2 y3 y6 y5))/\fD=fD/\(p,false,y4,p.1,p.2.1,p.2.2.1,y2,y3,!y3,p.1,y4,p.1,p.2.1,p.2.2.1,y4,y4,y6,p.1,p.2.1,p.2.2.1,p.1,p.2.1,p.2.2.1,[y4],[(0:Int)],gr (λ(_:ByteArray)=>none) y6 (0:Int),[(0:Int)],[(0:Int)],p.1,p.2.1,p.2.2.1,([]:List (List Int)),())=(p,false,y4,p.1,p.2.1,p.2.2.1,y2,y3,!y3,p.1,y4,p.1,p.2.1,p.2.2.1,y4,y4,y5,p.1,p.2.1,p.2.2.1,p.1,p.2.1,p.2.2.1,[y4],[(0:Int)],gr (λ(_:ByteArray)=>none) y5 (0:Int),[(0:Int)],[(0:Int)],p.1,p.2.1,p.2.2.1,[],PUnit.unit)))=fnW Hz (look [(154,Sk),(94,Dl),(120,Vj),(107,Ih),(121,Kl),(155,kH),(95,Od)]) Qm Try.f88 (p,()) P:=by kernel_rfl
theorem th {g:List (List Int)} {k:Int} {x:List Int} {d:Int} : ∀(ls:List Int) (s:EX) (row:List Int) (L':List (List Int)) (D':List Int),Ir g x d ls s.1 s.2.1=(L',D',true)->
  (ct g k x d ls s row).1.1=L'/\(ct g k x d ls s row).1.2.1=D'
 | [],s,row,L',D',h=>by
  simp only [Ir,Ah] at h
  exact ⟨h.1,h.2.1⟩
 |l::ls,s,row,L',D',h=>by
  simp only [Ir] at h
  simp only [ct]
  by_cases hm:Af x (Ax g l)∈s.1
  ·rw [Ab hm] at h
   rw [Ab hm]
   exact th ls s _ L' D' h
  ·rw [Ak hm] at h
   rw [Ak hm]
   by_cases hf:s.1.length=3000
   ·rw [Ab hf] at h
    simp at h
   ·rw [Ak hf] at h
    exact th ls _ _ L' D' h
theorem EP {g:List (List Int)} {ls:List Int} : ∀(f k:Nat) (s:EX) (N:List (List Int)) (L':List (List Int)) (D':List Int),Md g ls f k s.1 s.2.1=(L',D',true)->
  (dq g ls f k s N).1.1=L'/\(dq g ls f k s N).1.2.1=D'
 |0,k,s,N,L',D',h=>by
  simp only [Md,Ah] at h
  exact ⟨h.1,h.2.1⟩
 |f+1,k,s,N,L',D',h=>by
  simp only [Md] at h
  simp only [dq]
  by_cases hk:k<s.1.length
  ·rw [Ab hk] at h
   rw [Ab hk]
   split at h
   ·rename_i L1 D1 he
    obtain ⟨a1,a2⟩:=th (k:=(k:Int)) ls s [] L1 D1 he
    refine EP f (k+1) _ _ L' D' ?_
    rw [a1,a2]
    exact h
   ·simp at h
  ·rw [Ak hk] at h
   rw [Ak hk]
   simp only [Ah] at h
   exact ⟨h.1,h.2.1⟩
theorem o8 {key:ByteArray} {x:List Int} : ∀(L:List (List Int)) (i:Nat),jg key (L++ [x]) i=if (jg key L i).isSome=true then jg key L i else if Su x=key then some ((i+L.length:Nat):Int) else none
 | [],i=>by simp [jg]
 |y::L,i=>by
  simp only [Mb,jg]
  split
  ·rfl
  ·rw [o8 L (i+1),Av,show i+1+L.length=i+(L.length+1) by omega]
theorem pE {x:List Int} (hx:Xe x): ∀(L:List (List Int)) (i:Nat),(∀y∈L,Xe y)->jg (Su x) L i=if x∈L then some ((i+L.idxOf x:Nat):Int) else none
 | [],i,_=>by simp [jg]
 |y::L,i,h=>by
  have hy:=h y (by simp)
  simp only [jg]
  by_cases e:y=x
  ·subst e
   rw [Ab rfl,Ab (by simp),List.idxOf_cons_self]
   rfl
  ·rw [Ak λhk=>e (key_inj hy hx hk),pE hx L (i+1) λz hz=>h z (Ar _ hz),show List.idxOf x (y::L)=(List.idxOf x L).succ by rw [List.idxOf_cons,beq_false_of_ne e];rfl]
   have:(x∈y::L)↔(x∈L):=by simp [Gb e]
   by_cases hm:x∈L
   ·rw [Ab hm,Ab (this.2 hm),show i+1+List.idxOf x L=i+(List.idxOf x L).succ by omega]
   ·rw [Ak hm,Ak λh=>hm (this.1 h)]
theorem xI {x:List Int} {L:List (List Int)} (hx:Xe x) (hL: ∀y∈L,Xe y):Zg L (Su x)=if x∈L then some (L.idxOf x:Int) else none:=by
 unfold Zg
 rw [pE hx L 0 hL,Bn]
theorem xH {x:List Int} {L:List (List Int)} (hx:Xe x) (hL: ∀y∈L,Xe y) (hn:x∉L):gr (Zg L) (Su x) (L.length:Int)=Zg (L++ [x]):=by
 funext key
 unfold gr Zg
 rw [o8,Bn]
 by_cases e:key=Su x
 ·subst e
  rw [Ab rfl,pE hx L 0 hL,Ak hn,Ak (by simp),Ab rfl]
 ·rw [Ak e,Ak (c:=Su x=key) λh=>e h.symm]
  split
  ·rfl
  ·rename_i h
   cases hk:jg key L 0 with
   |none=>rfl
   |some v=>rw [hk] at h;simp at h
theorem JP (p:PP):Ma (Wj p) 1 3000=Ds p:=by
 unfold Ds
 by_cases hv:Cs p=true
 ·rw [hv,bt,EG hv]
  rfl
 ·have hv:Cs p=false:=by simpa using hv
  rw [hv,Tk]
  have:Wj p=0:=by unfold Wj;rw [Ak (by simp [hv])]
  rw [this]
  rfl
theorem UZ (p:PP) (h:Gt p):fnW Hz (look [(154,Sk),(94,Dl),(120,Vj),(107,Ih),(121,Kl),(155,kH),(95,Od)]) Qm Try.f88 (p,()) (λ(z:Option (PP×List (List Int)×List Int×(ByteArray->Option Int)×List Int×List Int×List (List Int)×Unit)×Bool×Unit)=>z=(if Ds p=true then (some (Il p),true,()) else (none,false,()))):=by
 refine Eq.mp (WW p _) ⟨_,Ab h,_,Ab trivial,?_⟩
 show Br (!Ma (Wj p) 1 3000) _ _
 rw [JP p]
 refine Br.of (λhb=>?_) λhb=>?_
 ·rw [Ak (by simpa using hb)]
 have hw:Ds p=true:=by simpa using hb
 rw [Ab hw]
 obtain ⟨hv,LN⟩:=Ct.1 hw
 have hV:=valid hv
 have Aep:=hV.oW
 have hn:=hV.n
 obtain ⟨pn,ps,g,⟨⟩⟩:=p
 dsimp only at Aep hn LN⊢
 have hI:(upto pn.toNat).length<=20:=by rw [Ou];omega
 have hIr: ∀y∈upto pn.toNat,0<=y/\y<pn:= λy hy=>by have:=Nk.1 hy;omega
 have hb0:=pe (p:=(pn,ps,g,())) hI hIr
 obtain ⟨ls,xx⟩: ∃ls,Au g.length=ls:=⟨_,rfl⟩
 have hll:ls.length<=16:=by rw [<-xx,Zh];omega
 have zm: ∀l∈ls,Ic (List.length g) l:= λl hl=>Nj (xx▸hl)
 have QY: ∀x:List Int,(∀y∈x,0<=y/\y<pn)->Xe x:= λx hx y hy=>by have:=hx y hy;omega
 have Ajy:Md g ls 3001 0 [upto pn.toNat] [0]=Kt g (upto pn.toNat):=by unfold Kt;rw [xx]
 have vM:gr (λ(_:ByteArray)=>(none:Option Int)) (Su (upto pn.toNat)) 0=Zg [upto pn.toNat]:=by
  have:=xH (L:= []) (QY _ hIr) (λy hy=>by cases hy) (by simp)
  exact this
 refine ⟨upto pn.toNat,Ab ⟨by show (0:Int)<=pn;omega,by show pn<=20;omega⟩,Su (upto pn.toNat),Ab (by show short (upto pn.toNat);unfold short;omega),⟨ls,?_,rfl,rfl,rfl,rfl,rfl,rfl,rfl,rfl,rfl,rfl,?_⟩,?_⟩
 ·refine (Ab ⟨by show (0:Int)<=((g.length:Nat):Int);omega,by show ((g.length:Nat):Int)<=8;omega⟩).trans (Cx some ?_)
  show Au (((g.length:Nat):Int)).toNat=ls
  rw [Ac];exact xx
 ·obtain ⟨R,hR⟩: ∃R,dq g ls 3001 0 ([upto pn.toNat],[0],[0],[0]) []=R:=⟨_,rfl⟩
  have Atb:Il (pn,ps,g,())=Ams (pn,ps,g,()) R:=by unfold Il;rw [xx];exact Cx _ hR
  rw [Atb]
  refine Ev.mk (λv=> ∃(k:Nat) (s:EX) (N:List (List Int)),v=((k:Int),pn,ps,g,s.1,s.2.1,Zg s.1,s.2.2.1,s.2.2.2,pn,ps,g,N,())/\k<=s.1.length/\aB (pn,ps,g,()) (upto pn.toNat).length s.1 s.2.1/\s.2.2.1.length=s.1.length/\s.2.2.2.length=s.1.length/\N.length=k/\
    Md g ls (3001-k) k s.1 s.2.1=Kt g (upto pn.toNat)/\dq g ls (3001-k) k s N=R) (λv=>3001-v.1.toNat)
   ⟨0,([upto pn.toNat],[0],[0],[0]),[],?_,by simp,hb0,rfl,rfl,rfl,Ajy,hR⟩ ?_
  ·rw [<-vM];rfl
  rintro v ⟨k,s0,N,rfl,h1,h2,h3,h4,h5,h6,h7⟩
  obtain ⟨L0,D0,P0,B0⟩:=s0
  dsimp only at h1 h2 h3 h4 h6 h7⊢
  have hL0:=h2.ok.oW
  have hD0:=h2.len
  obtain ⟨f,hf⟩: ∃f,3001-k=f+1:=⟨3000-k,by omega⟩
  refine Br.dec (λhl=>?_) λhl=>?_
  ·have hk:k<L0.length:=by omega
   have hkD:k<D0.length:=by omega
   have hx: ∀y∈L0[k],0<=y/\y<pn:=h2.row _ (An hk)
   have hxl:L0[k].length=(upto pn.toNat).length:=h2.ok.len _ (An hk)
   have hdk:=h2.dep k hkD
   have hxe:L0.getD k []=L0[k]:=nT hk
   have LP:D0.getD k 0=D0[k]:=by rw [Al,Ad hkD];rfl
   have hgo: ∀L' D' ok,Ir g L0[k] D0[k] ls L0 D0=(L',D',ok)->Kt g (upto pn.toNat)=if ok=true then Md g ls f (k+1) L' D' else (L',D',false):=by
    intro L' D' ok he
    rw [<-h6,hf,Md,Ab hk,hxe,LP,he]
    cases ok<;>rfl
   obtain ⟨E,hE⟩: ∃E,ct g (k:Int) L0[k] D0[k] ls (L0,D0,P0,B0) []=E:=⟨_,rfl⟩
   have hex:R=dq g ls f (k+1) E.1 (N++ [E.2]):=by
    rw [<-h7,hf,dq,Ab hk]
    dsimp only
    rw [hxe,LP,hE]
   refine ⟨⟨by omega,by omega⟩,L0[k],by rw [Ac,Bn];exact Ad hk,ls.map (λl=>Af L0[k] (Ax g l)),?_,?_⟩
   ·refine (Ab ⟨hv,by show L0[k].length<=20;omega,hx⟩).trans (Cx some ?_)
    show zN g L0[k]=_
    unfold zN
    rw [xx]
   refine ⟨rfl,rfl,rfl,rfl,rfl,rfl,rfl,rfl,rfl,rfl,rfl,rfl,?_⟩
   obtain ⟨nb,hnb⟩: ∃nb,ls.map (λl=>Af L0[k] (Ax g l))=nb:=⟨_,rfl⟩
   have hnl:nb.length=ls.length:=by rw [<-hnb,Bs]
   have hni: ∀i (h:i<ls.length),nb[i]'(by omega)=Af L0[k] (Ax g ls[i]):= λi h=>by simp only [<-hnb,Za]
   rw [hnb]
   refine Ev.mk (λv=> ∃(i:Nat) (row:List Int) (s:EX),v=((i:Int),pn,ps,g,row,s.1,s.2.1,Zg s.1,s.2.2.1,s.2.2.2,pn,ps,g,N,())/\i<=ls.length/\row.length=i/\aB (pn,ps,g,()) (upto pn.toNat).length s.1 s.2.1/\s.2.2.1.length=s.1.length/\s.2.2.2.length=s.1.length/\
     (∃A,s.1=L0++A)/\(∃A,s.2.1=D0++A)/\Ir g L0[k] D0[k] (ls.drop i) s.1 s.2.1=Ir g L0[k] D0[k] ls L0 D0/\ct g (k:Int) L0[k] D0[k] (ls.drop i) s row=E) (λv=>ls.length-v.1.toNat)
    ⟨0,[],(L0,D0,P0,B0),rfl,Jx _,rfl,h2,h3,h4,⟨[],by simp⟩,⟨[],by simp⟩,rfl,hE⟩ ?_
   rintro v ⟨i,row,s,rfl,g1,g2,g3,g4,g5,⟨A,g6⟩,⟨A',g7⟩,g8,g9⟩
   obtain ⟨L,D,Pa,By⟩:=s
   dsimp only at g3 g4 g5 g6 g7 g8 g9⊢
   have hLf:=g3.ok.oW
   have hDl:=g3.len
   refine Br.dec (λhli=>?_) λhli=>?_
   ·have hi:i<ls.length:=by omega
    have hkL:k<L.length:=by rw [g6,Ay];omega
    have Atv:k<D.length:=by rw [hDl];exact hkL
    have hDk:D[k]=D0[k]:=by simp only [g7];exact List.getElem_append_left hkD
    have Aeu:=zm _ (An hi)
    obtain ⟨nl,nr⟩:=SE hV hx Aeu
    dsimp only at nl nr
    rw [Nw hi] at g8 g9
    simp only [Ir] at g8
    simp only [ct] at g9
    have hyb:=QY _ nr
    refine ⟨_,Dk (by omega),?_⟩
    rw [hni i hi]
    generalize hyv:Af L0[k] (Ax g ls[i])=yv at*
    refine ⟨Su yv,Ab (by show short yv;unfold short;rw [nl];omega),?_⟩
    rw [xI hyb λy hy=>QY _ (g3.row y hy)]
    refine Br.of (λRw=>?_) λRw=>?_
    ·have Rw:yv∉L:= λhm=>by rw [Ab hm] at Rw;simp at Rw
     rw [Ak Rw] at g8 g9
     by_cases RC:L.length=3000
     ·rw [Ab RC] at g8
      have:=hgo _ _ _ g8.symm
      rw [Ak (by decide)] at this
      rw [this] at LN
      cases LN
     rw [Ak RC] at g8
     refine ⟨_,Ab trivial,rfl,rfl,?_,⟨by omega,by omega⟩,D0[k],?_,rfl,rfl,?_,rfl,rfl,?_,_,Dk hi,rfl,rfl,?_,rfl,rfl,?_,rfl,rfl,rfl,rfl,rfl,rfl,rfl,rfl,rfl,rfl,rfl,rfl,?_⟩
     ·show L.length+1<=4294967296;omega
     ·rw [Ac,Bn,Ad Atv,hDk]
     ·show D.length+1<=4294967296;omega
     ·show Pa.length+1<=4294967296;omega
     ·show By.length+1<=4294967296;omega
     ·show row.length+1<=4294967296;omega
     ·dsimp only
      rw [Dz L,Dq (n:=D0[k]+1) (by omega) (by omega),Cd (by omega),xH hyb (λy hy=>QY _ (g3.row y hy)) Rw]
      refine ⟨⟨i+1,row++ [(L.length:Int)],(L++ [yv],D++ [D0[k]+1],Pa++ [(k:Int)],By++ [ls[i]]),rfl,hi,by rw [Ay,g2];rfl,g3.add Rw (by rw [nl,hxl]) (by omega) nr ⟨by omega,by omega⟩,?_,?_,⟨A++ [yv],by rw [g6,Ck]⟩,⟨A'++ [D0[k]+1],by rw [g7,Ck]⟩,g8,g9⟩,by omega⟩
      ·simp [g4]
      ·simp [g5]
    ·have Rw:yv∈L:=Bk λhm=>by rw [Ak hm] at Rw;simp at Rw
     rw [Ab Rw] at g8 g9
     rw [Ab Rw]
     refine ⟨rfl,rfl,?_,rfl,rfl,rfl,rfl,rfl,rfl,rfl,rfl,rfl,rfl,rfl,rfl,?_⟩
     ·show row.length+1<=4294967296;omega
     ·rw [Cd (by omega)]
      exact ⟨⟨i+1,row++ [(L.idxOf yv:Int)],(L,D,Pa,By),rfl,hi,by rw [Ay,g2];rfl,g3,g4,g5,⟨A,g6⟩,⟨A',g7⟩,g8,g9⟩,by omega⟩
   ·have:i=ls.length:=by omega
    subst this
    rw [List.drop_length,Ir] at g8
    rw [List.drop_length,ct] at g9
    have:=hgo _ _ _ g8.symm
    rw [Ab rfl] at this
    rw [Dz row,Cd (by omega)]
    refine ⟨rfl,rfl,?_,rfl,rfl,rfl,rfl,rfl,rfl,rfl,rfl,rfl,rfl,⟨k+1,(L,D,Pa,By),N++ [row],rfl,by rw [g6,Ay];omega,g3,g4,g5,by rw [Ay,h5];rfl,?_,?_⟩,by omega⟩
    ·show N.length+1<=4294967296;omega
    ·rw [show 3001-(k+1)=f by omega]
     exact this.symm
    ·rw [show 3001-(k+1)=f by omega,hex,<-g9]
  ·have hk:k=L0.length:=by omega
   rw [hf,dq,Ak (by show ¬k<L0.length;omega)] at h7
   subst h7
   simp only [Dy,Bg]
   rfl
 ·have LS:Ih.fn (upto pn.toNat,())=some (Su (upto pn.toNat)):=Ab (by show short (upto pn.toNat);unfold short;omega)
  repeat' (first|exact ⟨rfl,rfl⟩|refine ⟨_,LS,?_⟩|refine ⟨?_,?_⟩)
theorem wH:Sound Try.prog 88 Qm:=
 Sound.Ht Ge (Be qh (Be Wu (Be gU (Be jL (Be Zm (Be IN (Be db Cb))))))) mixed Try.func88 (by kernel_rfl) (by kernel_rfl) λx h=>UZ x.1 h
abbrev XP:Type:=PP×List (List Int)×List Int×(ByteArray->Option Int)×List Int×List Int×List (List Int)×Unit
noncomputable def Ag (p:PP):List (List Int):=(Kt p.2.2.1 (upto p.1.toNat)).1
noncomputable def Bh (p:PP):List Int:=(Kt p.2.2.1 (upto p.1.toNat)).2.1
def p8 (e:XP):Prop:=Ds e.1=true/\e=Il e.1
noncomputable def Ni (p:PP) (s:List Int):Int×Bool×Unit:=if s∈Ag p then ((List.idxOf s (Ag p):Nat),true,()) else (0,false,())
noncomputable def Aao (e:Option XP) (s:List Int):Int×Bool×Unit:=match e with|some e=>Ni e.1 s|none=>(0,false,())
noncomputable abbrev Yh:Spec:=Ht (.pair (.optr gW) (.pair tL .unit)) (.pair tI (.pair .bool .unit)) true true (λx=>(∃e:XP,x.1=some e/\p8 e)/\short x.2.1) (λx=>Aao x.1 x.2.1)
abbrev SN:Type:=(Int×ByteArray×List (List Int)×PUnit)×List (List Int)×List Int×(ByteArray->Option Int)×List Int×List Int×List (List Int)×PUnit
theorem Ale (e:Option (PP×List (List Int)×List Int×(ByteArray->Option Int)×List Int×List Int×List (List Int)×Unit)) (s:List Int) (P:(Int×Bool×Unit)->Prop):(∃(y3:SN),e=some y3/\ ∃(y4:Bool),Yn.fn (y3.1,s,())=some y4/\Br (!y4) (P ((0:Int),false,())) (∃(y5:SN),e=some y5/\ ∃(y6:ByteArray),Ih.fn (s,())=some y6/\P ((y5.2.2.2.1 y6).getD (Int.ofNat (nat_lit 0)),(y5.2.2.2.1 y6).isSome,())))=fnW Hz (look [(67,Yn),(107,Ih)]) Yh Try.f135 (e,s,()) P:=by kernel_rfl
theorem xD {p:List Int} (h:bu p):Kb p=true:=by
 refine Ej.2 ⟨h.pos,h.len,λj h1 h2=>?_⟩
 have:=h.row _ (An h2)
 exact ⟨by omega,by omega,λhm=>by
  obtain ⟨i,hi,e⟩:=Bj.1 hm
  have dP:i<j:=by rw [Hg] at hi;omega
  rw [List.getElem_take] at e
  exact (Fk.1 h.nodup i j (by omega) h2 dP) e⟩
theorem Cw {p:PP} (hw:Ds p=true):Cs p=true/\(Kt p.2.2.1 (upto p.1.toNat)).2.2=true:=Ct.1 hw
theorem yx {p:PP} (hw:Ds p=true):Reach p (Ag p) (Bh p) true:=by
 have h:=Oo (Cw hw).1
 rw [(Cw hw).2] at h
 exact h
theorem mU {p:PP} (hv:Cs p=true):aB p p.1.toNat (Ag p) (Bh p):=(Oo hv).ok
theorem FB {p:PP} (hV:Valid p):DA p.1.toNat λg=>some g∈p.2.2.1.map some:=
 ⟨by have:=hV.n;omega,λg Rv=>by obtain ⟨g',e,h⟩:=Wo (Zq hV).2.2 _ Rv;cases e;exact h⟩
theorem cc {p:PP} (hv:Cs p=true) {x:List Int} (hx:x∈Ag p):Pm p.1.toNat x:=cn.pm (FB (valid hv)) ((Oo hv).gen x hx)
theorem NP {p:PP} (hV:Valid p) {x:List Int} (h:Pm p.1.toNat x):Gr p.1 x=true:=by
 have:=hV.n
 have:=h.1
 exact Ej.2 ⟨by omega,xD h.2⟩
theorem ZD {p:PP} (_hV:Valid p) {x:List Int} (h:Gr p.1 x=true):Pm p.1.toNat x:=by
 obtain ⟨h1,h2⟩:=Ej.1 h
 exact ⟨by omega,dz h2⟩
theorem Al3 {p:PP} (hv:Cs p=true) {x:List Int} (hx:x∈Ag p):Gr p.1 x=true:=NP (valid hv) (cc hv hx)
theorem Ag2 {p:PP} (hv:Cs p=true) {x:List Int} (hx:x∈Ag p):Xe x:= λy hy=>by
 have h1:=(mU hv).row x hx y hy
 have:=(valid hv).n
 omega
theorem Afv {n:Nat} {x:List Int} (h:Pm n x):Xe x:= λy hy=>by
 have h1:=h.row y hy
 have:=h.n2
 omega
theorem jr {n:Nat} {x:List Int} (h:Pm n x):short x:=by
 have h1:=h.1
 have:=h.n2
 unfold short;omega
theorem cF {p:PP} (hw:Ds p=true):(Il p).2.1=Ag p/\(Il p).2.2.1=Bh p:=by
 have h:=(Cw hw).2
 refine EP 3001 0 ([upto p.1.toNat],[0],[0],[0]) [] _ _ ?_
 show Md p.2.2.1 (Au p.2.2.1.length) 3001 0 [upto p.1.toNat] [0]=(Ag p,Bh p,true)
 rw [<-h]
 rfl
theorem Aee {p:PP} (hw:Ds p=true) {s:List Int} (hs:Xe s):(Il p).2.2.2.1 (Su s)=if s∈Ag p then some (((Ag p).idxOf s:Nat):Int) else none:=by
 show Zg (Il p).2.1 (Su s)=_
 rw [(cF hw).1,xI hs λy hy=>Ag2 (Cw hw).1 hy]
theorem Akn (e:Option XP) (s:List Int) (h:(∃e':XP,e=some e'/\p8 e')/\short s):fnW Hz (look [(67,Yn),(107,Ih)]) Yh Try.f135 (e,s,()) (λ(z:Int×Bool×Unit)=>z=Aao e s):=by
 obtain ⟨⟨e',rfl,h1,h2⟩,hs⟩:=h
 have hv:=(Cw h1).1
 refine Eq.mp (Ale (some e') s _) ⟨e',rfl,_,Ab hs,Br.of (λhb=>?_) λhb=>⟨e',rfl,_,Ab hs,?_⟩⟩
 ·have hb:=Iy hb
  show (0,false,())=Ni e'.1 s
  unfold Ni
  rw [Ak λhm=>hb (Al3 hv hm)]
 ·have hb:Gr e'.1.1 s=true:=by simpa using hb
  have hp:=ZD (valid hv) hb
  dsimp only
  have e3:e'.2.2.2.1=(Il e'.1).2.2.2.1:=by rw [<-h2]
  rw [e3,Aee h1 (Afv hp)]
  show _=Ni e'.1 s
  unfold Ni
  split<;>rfl
theorem mS:Sound Try.prog 135 Yh:=
 Sound.Ht Ge (Be mT (Be jL Cb)) mixed Try.func135 (by kernel_rfl) (by kernel_rfl) λx h=>Akn x.1 x.2.1 h
theorem jP {p:PP} (hv:Cs p=true):(Ag p).length<=3000:=(mU hv).ok.oW
def Jm (g:List (List Int)) (s w:List Int):List Int:=w.foldl (λq l=>Af q (Ax g l)) s
noncomputable abbrev Yg:Spec:=Ht (.pair tI (.pair se (.pair tL .unit))) tL false true (λx=> ∃p:PP,Cs p=true/\p.1=x.1/\p.2.2.1=x.2.1/\Mj (List.length x.2.1:Nat) x.2.2.1=true) (λx=>Jm x.2.1 (upto x.1.toNat) x.2.2.1)
theorem eD {p:PP} (hV:Valid p) {l:Int} (hl:Ic (List.length p.2.2.1) l):Pm p.1.toNat (Ax p.2.2.1 l):=by
 have hn:=hV.n
 obtain ⟨k,hk,My⟩:=Se hl
 have hp:Pm p.1.toNat (p.2.2.1[k]):=⟨by have:=hV.len _ (An hk);omega,dz (hV.perm _ (An hk))⟩
 rcases My with rfl|rfl
 ·rw [Rn hk];exact hp
 ·rw [Rl hk];exact hp.inv
theorem sL {p:PP} (hV:Valid p): ∀(w s:List Int),(∀l∈w,Ic (List.length p.2.2.1) l)->Pm p.1.toNat s->Pm p.1.toNat (Jm p.2.2.1 s w)
 | [],s,_,hs=>hs
 |l::w,s,hl,hs=>by
  have h1:=eD hV (hl l (by simp))
  exact sL hV w _ (λl' h=>hl l' (Ar _ h)) (hs.comp h1)
theorem qy {p:PP} (hV:Valid p) {s:List Int} (hs:Pm p.1.toNat s): ∀(w q:List Int),(∀l∈w,Ic (List.length p.2.2.1) l)->Pm p.1.toNat q->Af s (Jm p.2.2.1 q w)=Jm p.2.2.1 (Af s q) w
 | [],q,_,_=>rfl
 |l::w,q,hl,hq=>by
  have h1:=eD hV (hl l (by simp))
  have h2:=qy hV hs w _ (λl' h=>hl l' (Ar _ h)) (hq.comp h1)
  show Af s (Jm p.2.2.1 (Af q (Ax p.2.2.1 l)) w)=Jm p.2.2.1 (Af (Af s q) (Ax p.2.2.1 l)) w
  rw [h2,Fc hs hq h1]
theorem KJ {g:List (List Int)} {s w:List Int} {j:Nat} (h:j<w.length):Jm g s (w.take (j+1))=Af (Jm g s (w.take j)) (Ax g w[j]):=by
 unfold Jm
 rw [Hp,Ad h,Ls,Vs]
 rfl
theorem Abj {n:Nat} {q:List Int} (h:Pm n q):q.length<=20:=by have:=h.1;have:=h.n2;omega
theorem HX {n:Nat} {p q:List Int} (hp:Pm n p) (hq:Pm n q):Rk q.length p:=by rw [hq.1];exact hp.row
def Wk (b:ByteArray) (t:List Int):ByteArray:=t.foldl (λa k=>a++b.extract k.toNat (k+1).toNat) ByteArray.empty
def Cf (p:PP) (t:List Int):PP:=(p.1,Wk p.2.1 t,t.map λk=>p.2.2.1.getD k.toNat [],())
noncomputable abbrev Sm:Spec:=Ht (.pair Lq (.pair tL .unit)) Lq false true (λx=>Gt x.1/\Dp x.1 x.2.1=true) (λx=>Cf x.1 x.2.1)
noncomputable abbrev Sl:MSpec:=ir [some 3,none] [(false, .Fe tI),(false, .Fe .str),(false, .Fe se),(false, .Fe tL)] false [some 3] [.Fe tI, .Fe .str,xLL]
 (λx=>Gt (x.1,x.2.1,x.2.2.1,())/\Dp (x.1,x.2.1,x.2.2.1,()) x.2.2.2.1=true) (λx=>(((Cf (x.1,x.2.1,x.2.2.1,()) x.2.2.2.1).1,(Cf (x.1,x.2.1,x.2.2.1,()) x.2.2.2.1).2.1,(Cf (x.1,x.2.1,x.2.2.1,()) x.2.2.2.1).2.2.1,()),()))
abbrev HP:Type:=Option XP×List Int×Option XP×Unit
noncomputable def Jn (p:PP) (t:List Int):Bool:=Ds p&&Dp p t
noncomputable def Fq (p:PP) (t:List Int):HP:=(some (Il p),t,some (Il (Cf p t)),())
noncomputable abbrev Gq:Spec:=Ht (.pair Lq (.pair tL .unit)) (.pair (.optr gj) (.pair .bool .unit)) true false (λx=>Gt x.1/\short x.2.1) (λx=>if Jn x.1 x.2.1=true then (some (Fq x.1 x.2.1),true,()) else (none,false,()))
noncomputable abbrev Hm:Spec:=Ht (.pair Lq (.pair tL (.pair tL .unit))) (.pair (.optr gj) (.pair tI (.pair .bool .unit))) true false (λx=>Gt x.1/\short x.2.1/\short x.2.2.1)
 (λx=>if Jn x.1 x.2.1=true then (some (Fq x.1 x.2.1),(Ni x.1 x.2.2.1).1,(Ni x.1 x.2.2.1).2.1,()) else (none,0,false,()))
noncomputable def mF (h:Option HP) (i:Int):Bool:=match h with
 |some (some e,t,_)=>decide ((Ag e.1).getD i.toNat []∈Ag (Cf e.1 t))
 |_=>false
noncomputable abbrev dC:Spec:=Ht (.pair (.optr gj) (.pair tI .unit)) .bool false true (λx=>(∃p t,Jn p t=true/\x.1=some (Fq p t)/\0<=x.2.1/\x.2.1<(Ag p).length)) (λx=>mF x.1 x.2.1)
noncomputable def od (p:PP) (t s:List Int):Bool:=Jn p t&&(decide (s∈Ag p)&&decide (s∈Ag (Cf p t)))
noncomputable abbrev fW:Spec:=Ht (.pair Lq (.pair tL (.pair tL .unit))) .bool false true (λx=>Gt x.1/\short x.2.1/\short x.2.2.1) (λx=>od x.1 x.2.1 x.2.2.1)
noncomputable def ji (p:PP) (t:List Int):Int:=if Jn p t=true then ((Ag p).length:Int).tdiv ((Ag (Cf p t)).length:Int) else-1
noncomputable abbrev c6:Spec:=Ht (.pair Lq (.pair tL .unit)) tI false true (λx=>Gt x.1/\short x.2.1) (λx=>ji x.1 x.2.1)
noncomputable def bU (p:PP) (t:List Int):PP:=if Jn p t=true then Cf p t else (0,ByteArray.empty,[],())
noncomputable abbrev Yj:MSpec:=ir [some 3,none] [(false, .Fe tI),(false, .Fe .str),(false, .Fe se),(false, .Fe tL)] true [some 3,none] [.Fe tI, .Fe .str,xLL, .Fe .bool]
 (λx=>Gt (x.1,x.2.1,x.2.2.1,())/\short x.2.2.2.1) (λx=>(((bU (x.1,x.2.1,x.2.2.1,()) x.2.2.2.1).1,(bU (x.1,x.2.1,x.2.2.1,()) x.2.2.2.1).2.1,(bU (x.1,x.2.1,x.2.2.1,()) x.2.2.2.1).2.2.1,Jn (x.1,x.2.1,x.2.2.1,()) x.2.2.2.1,()),()))
abbrev lJ:Type:=Int×Int×ByteArray×List (List Int)×Int×ByteArray×Int×ByteArray×List (List Int)×List (List Int)×PUnit
theorem CY (p:Int×ByteArray×List (List Int)×Unit) (t:List Int) (P:(Int×ByteArray×List (List Int)×Unit)->Prop):(0=0/\0=([]:List Int).length/\0=0/\0=([]:List Int).length/\Ev (λ(v3:lJ) (k4:lJ->Prop)=>Br (decide (v3.1<(↑t.length:Int))) (∃(y5:Int),idx t v3.1=some y5/\((0:Int)<=y5/\y5<=IntKind.i64.wrap (y5+(1:Int))/\IntKind.i64.wrap (y5+(1:Int))<=(↑v3.2.2.1.size:Int))/\v3.2.2.2.2.2.2.2.1.size+(v3.2.2.1.extract y5.toNat (IntKind.i64.wrap (y5+(1:Int))).toNat).size<=4294967296/\ ∃(y6:List Int),idx v3.2.2.2.1 y5=some y6/\ ∃(y7:List Int),oG.fn (y6,())=some y7/\0=0/\v3.2.2.2.2.2.2.2.2.2.1.length=v3.2.2.2.2.2.2.2.2.2.1.length/\v3.2.2.2.2.2.2.2.2.2.1.length+ [y7].length<=Dn/\0=0/\v3.2.2.2.2.2.2.2.2.1.length=v3.2.2.2.2.2.2.2.2.1.length/\0=0/\(v3.2.2.2.2.2.2.2.2.2.1++ [y7]).length=(v3.2.2.2.2.2.2.2.2.2.1++ [y7]).length/\k4 (IntKind.i64.wrap (v3.1+(1:Int)),v3.2.1,v3.2.2.1,v3.2.2.2.1,v3.2.2.2.2.1,v3.2.2.2.2.2.1,v3.2.2.2.2.2.2.1,v3.2.2.2.2.2.2.2.1++v3.2.2.1.extract y5.toNat (IntKind.i64.wrap (y5+(1:Int))).toNat,v3.2.2.2.2.2.2.2.2.1,v3.2.2.2.2.2.2.2.2.2.1++ [y7],())) (P (v3.2.2.2.2.2.2.1,v3.2.2.2.2.2.2.2.1,List.take v3.2.2.2.2.2.2.2.2.2.1.length (List.drop 0 v3.2.2.2.2.2.2.2.2.2.1),()))) ((0:Int),p.1,p.2.1,p.2.2.1,Int.ofNat (nat_lit 0), {data:= #[]},p.1, {data:= #[]},[],[],PUnit.unit))=fnW Hz (look [(90,oG)]) Sm Try.f109 (p,t,()) P:=by kernel_rfl
abbrev dG:Type:=Int×Int×ByteArray×List (List Int)×Int×ByteArray×Int×ByteArray×List (List Int)×List (List Int)×PUnit
abbrev Qj (v5:dG) (Nu:(List Int×PUnit)×PUnit) (y9:(List Int×PUnit)×PUnit) (y7:Int) (t:List Int) (Qp:List Int) (y8:List Int):Prop:=0=0/\v5.2.2.2.2.2.2.2.2.2.1.length=v5.2.2.2.2.2.2.2.2.2.1.length/\v5.2.2.2.2.2.2.2.2.2.1.length+(List.take 1 (List.drop 0 [List.take Nu.1.1.length (List.drop 0 Nu.1.1)])).length<=Dn/\ [(0,(v5.2.2.2.2.2.2.2.2.2.1++List.take 1 (List.drop 0 [List.take Nu.1.1.length (List.drop 0 Nu.1.1)])).length),(0,v5.2.2.2.2.2.2.2.2.1.length),(0,(v5.2.2.2.2.2.2.2.2.2.1++List.take 1 (List.drop 0 [List.take Nu.1.1.length (List.drop 0 Nu.1.1)])).length)]= [(0,(v5.2.2.2.2.2.2.2.2.2.1++List.take 1 (List.drop 0 [List.take y9.1.1.length (List.drop 0 y9.1.1)])).length),(0,v5.2.2.2.2.2.2.2.2.1.length),(0,(v5.2.2.2.2.2.2.2.2.2.1++List.take 1 (List.drop 0 [List.take y9.1.1.length (List.drop 0 y9.1.1)])).length)]/\(y7,t,(↑t.length:Int),v5.1,decide (v5.1<(↑t.length:Int)),y7,y7,v5.2.2.2.2.2.2.2.1,v5.2.2.1,y7,y7,IntKind.i64.wrap (y7+(1:Int)),v5.2.2.1.extract y7.toNat (IntKind.i64.wrap (y7+(1:Int))).toNat,v5.2.2.2.2.2.2.2.1++v5.2.2.1.extract y7.toNat (IntKind.i64.wrap (y7+(1:Int))).toNat,v5.2.2.2.1,y7,Qp,Qp,List.take Nu.1.1.length (List.drop 0 Nu.1.1),List.take 1 (List.drop 0 [List.take Nu.1.1.length (List.drop 0 Nu.1.1)]),v5.2.1,v5.2.2.1,v5.2.2.2.1,v5.2.2.2.2.1,v5.2.2.2.2.2.1,v5.2.2.2.2.2.2.1,v5.2.2.2.2.2.2.2.1++v5.2.2.1.extract y7.toNat (IntKind.i64.wrap (y7+(1:Int))).toNat,v5.2.2.2.2.2.2.2.2.1,v5.2.2.2.2.2.2.2.2.2.1++List.take 1 (List.drop 0 [List.take Nu.1.1.length (List.drop 0 Nu.1.1)]),())=(y7,t,(↑t.length:Int),v5.1,decide (v5.1<(↑t.length:Int)),y7,y7,v5.2.2.2.2.2.2.2.1,v5.2.2.1,y7,y7,IntKind.i64.wrap (y7+(1:Int)),v5.2.2.1.extract y7.toNat (IntKind.i64.wrap (y7+(1:Int))).toNat,v5.2.2.2.2.2.2.2.1++v5.2.2.1.extract y7.toNat (IntKind.i64.wrap (y7+(1:Int))).toNat,v5.2.2.2.1,y7,y8,y8,List.take y9.1.1.length (List.drop 0 y9.1.1),List.take 1 (List.drop 0 [List.take y9.1.1.length (List.drop 0 y9.1.1)]),v5.2.1,v5.2.2.1,v5.2.2.2.1,v5.2.2.2.2.1,v5.2.2.2.2.2.1,v5.2.2.2.2.2.2.1,v5.2.2.2.2.2.2.2.1++v5.2.2.1.extract y7.toNat (IntKind.i64.wrap (y7+(1:Int))).toNat,v5.2.2.2.2.2.2.2.2.1,v5.2.2.2.2.2.2.2.2.2.1++List.take 1 (List.drop 0 [List.take y9.1.1.length (List.drop 0 y9.1.1)]),PUnit.unit)
theorem CX (n:Int) (str:ByteArray) (g:List (List Int)) (t:List Int) (P:((Int×ByteArray×List (List Int)×Unit)×Unit)->Prop):(0=0/\0=([]:List Int).length/\0=0/\0=([]:List Int).length/\Ev (λ(v5:dG) (k6:dG->Prop)=>Br (decide (v5.1<(↑t.length:Int))) (∃(y7:Int),idx t v5.1=some y7/\((0:Int)<=y7/\y7<=IntKind.i64.wrap (y7+(1:Int))/\IntKind.i64.wrap (y7+(1:Int))<=(↑v5.2.2.1.size:Int))/\v5.2.2.2.2.2.2.2.1.size+(v5.2.2.1.extract y7.toNat (IntKind.i64.wrap (y7+(1:Int))).toNat).size<=4294967296/\ ∃(y8:List Int),idx v5.2.2.2.1 y7=some y8/\ ∃(y9:(List Int×PUnit)×PUnit),Tu.fn (y8,())=some y9/\0=0/\v5.2.2.2.2.2.2.2.2.2.1.length=v5.2.2.2.2.2.2.2.2.2.1.length/\v5.2.2.2.2.2.2.2.2.2.1.length+(List.take 1 (List.drop 0 [List.take y9.1.1.length (List.drop 0 y9.1.1)])).length<=Dn/\(0=0/\v5.2.2.2.2.2.2.2.2.1.length=v5.2.2.2.2.2.2.2.2.1.length/\0=0/\(v5.2.2.2.2.2.2.2.2.2.1++List.take 1 (List.drop 0 [List.take y9.1.1.length (List.drop 0 y9.1.1)])).length=(v5.2.2.2.2.2.2.2.2.2.1++List.take 1 (List.drop 0 [List.take y9.1.1.length (List.drop 0 y9.1.1)])).length/\k6 (IntKind.i64.wrap (v5.1+(1:Int)),v5.2.1,v5.2.2.1,v5.2.2.2.1,v5.2.2.2.2.1,v5.2.2.2.2.2.1,v5.2.2.2.2.2.2.1,v5.2.2.2.2.2.2.2.1++v5.2.2.1.extract y7.toNat (IntKind.i64.wrap (y7+(1:Int))).toNat,v5.2.2.2.2.2.2.2.2.1,v5.2.2.2.2.2.2.2.2.2.1++List.take 1 (List.drop 0 [List.take y9.1.1.length (List.drop 0 y9.1.1)]),()))/\(∃(Qp:List Int),idx v5.2.2.2.1 y7=some Qp/\ ∃(Nu:(List Int×PUnit)×PUnit),Tu.fn (Qp,())=some Nu/\(Qj v5 Nu y9 y7 t Qp y8))/\(∃(Qp:List Int),idx v5.2.2.2.1 y7=some Qp/\ ∃(Nu:(List Int×PUnit)×PUnit),Tu.fn (Qp,())=some Nu/\(Qj v5 Nu y9 y7 t Qp y8))/\ ∃(Qp:List Int),idx v5.2.2.2.1 y7=some Qp/\(∃(Nu:(List Int×PUnit)×PUnit),Tu.fn (Qp,())=some Nu/\(Qj v5 Nu y9 y7 t Qp y8))/\(∃(Nu:(List Int×PUnit)×PUnit),Tu.fn (Qp,())=some Nu/\(Qj v5 Nu y9 y7 t Qp y8))/\ ∃(Nu:(List Int×PUnit)×PUnit),Tu.fn (Qp,())=some Nu/\((Qj v5 Nu y9 y7 t Qp y8))/\(Qj v5 Nu y9 y7 t Qp y8)) (P ((v5.2.2.2.2.2.2.1,v5.2.2.2.2.2.2.2.1,List.take v5.2.2.2.2.2.2.2.2.2.1.length (List.drop 0 v5.2.2.2.2.2.2.2.2.2.1),()),()))) ((0:Int),n,str,g,Int.ofNat (nat_lit 0), {data:= #[]},n, {data:= #[]},[],[],PUnit.unit))=fnMW Sp (look [(90,Tu)]) Sl Try.f109 (n,str,g,t,()) P:=by kernel_rfl
abbrev oO:Type:=Option ((Int×ByteArray×List (List Int)×PUnit)×List (List Int)×List Int×(ByteArray->Option Int)×List Int×List Int×List (List Int)×PUnit)×Bool×PUnit
theorem rG (p:Int×ByteArray×List (List Int)×Unit) (t:List Int) (P:(Option (Option XP×List Int×Option XP×Unit)×Bool×Unit)->Prop):(∃(y3:oO),Qm.fn ((p.1,p.2.1,p.2.2.1,()),())=some y3/\Br (!y3.2.1) (P (none,false,())) (∃(y4:Bool),Si.fn ((p.1,p.2.1,p.2.2.1,()),t,())=some y4/\Br (!y4) (P (none,false,())) (∃(y5:Int×ByteArray×List (List Int)×PUnit),Sm.fn ((p.1,p.2.1,p.2.2.1,()),t,())=some y5/\ ∃(y6:oO),Qm.fn (y5,())=some y6/\P (some (y3.1,t,y6.1,()),true,()))))=fnW Hz (look [(88,Qm),(164,Si),(109,Sm)]) Gq Try.f108 (p,t,()) P:=by kernel_rfl
theorem vH (p:Int×ByteArray×List (List Int)×Unit) (t s:List Int) (P:(Option (Option XP×List Int×Option XP×Unit)×Int×Bool×Unit)->Prop):(∃(y4:Option (Option ((Int×ByteArray×List (List Int)×PUnit)×List (List Int)×List Int×(ByteArray->Option Int)×List Int×List Int×List (List Int)×PUnit)×List Int×Option ((Int×ByteArray×List (List Int)×PUnit)×List (List Int)×List Int×(ByteArray->Option Int)×List Int×List Int×List (List Int)×PUnit)×PUnit)×Bool×PUnit),Gq.fn ((p.1,p.2.1,p.2.2.1,()),t,())=some y4/\Br (!y4.2.1) (P (none,(0:Int),false,())) (∃(y5:Option ((Int×ByteArray×List (List Int)×PUnit)×List (List Int)×List Int×(ByteArray->Option Int)×List Int×List Int×List (List Int)×PUnit)×List Int×Option ((Int×ByteArray×List (List Int)×PUnit)×List (List Int)×List Int×(ByteArray->Option Int)×List Int×List Int×List (List Int)×PUnit)×PUnit),y4.1=some y5/\ ∃(y6:Int×Bool×PUnit),Yh.fn (y5.1,s,())=some y6/\P (y4.1,y6.1,y6.2.1,())))=fnW Hz (look [(108,Gq),(135,Yh)]) Hm Try.f110 (p,t,s,()) P:=by kernel_rfl
abbrev SO:Type:=Option ((Int×ByteArray×List (List Int)×PUnit)×List (List Int)×List Int×(ByteArray->Option Int)×List Int×List Int×List (List Int)×PUnit)×List Int×Option ((Int×ByteArray×List (List Int)×PUnit)×List (List Int)×List Int×(ByteArray->Option Int)×List Int×List Int×List (List Int)×PUnit)×PUnit
theorem Alg (h:Option (Option XP×List Int×Option XP×Unit)) (i:Int) (P:Bool->Prop):(∃(y3:SO),h=some y3/\ ∃(y4:SO),h=some y4/\ ∃(y5:(Int×ByteArray×List (List Int)×PUnit)×List (List Int)×List Int×(ByteArray->Option Int)×List Int×List Int×List (List Int)×PUnit),y4.1=some y5/\ ∃(y6:List Int),idx y5.2.1 i=some y6/\ ∃(y7:Int×Bool×PUnit),Yh.fn (y3.2.2.1,y6,())=some y7/\P y7.2.1)=fnW Hz (look [(135,Yh)]) dC Try.f113 (h,i,()) P:=by kernel_rfl
theorem rF (p:Int×ByteArray×List (List Int)×Unit) (t s:List Int) (P:Bool->Prop):(∃(y4:Option (Option ((Int×ByteArray×List (List Int)×PUnit)×List (List Int)×List Int×(ByteArray->Option Int)×List Int×List Int×List (List Int)×PUnit)×List Int×Option ((Int×ByteArray×List (List Int)×PUnit)×List (List Int)×List Int×(ByteArray->Option Int)×List Int×List Int×List (List Int)×PUnit)×PUnit)×Int×Bool×PUnit),Hm.fn ((p.1,p.2.1,p.2.2.1,()),t,s,())=some y4/\Br y4.2.2.1 (∃(y5:Bool),dC.fn (y4.1,y4.2.1,())=some y5/\P y5) (P false))=fnW Hz (look [(110,Hm),(113,dC)]) fW Try.f48 (p,t,s,()) P:=by kernel_rfl
abbrev lH:Type:=Option ((Int×ByteArray×List (List Int)×PUnit)×List (List Int)×List Int×(ByteArray->Option Int)×List Int×List Int×List (List Int)×PUnit)×List Int×Option ((Int×ByteArray×List (List Int)×PUnit)×List (List Int)×List Int×(ByteArray->Option Int)×List Int×List Int×List (List Int)×PUnit)×PUnit
abbrev lK:Type:=(Int×ByteArray×List (List Int)×PUnit)×List (List Int)×List Int×(ByteArray->Option Int)×List Int×List Int×List (List Int)×PUnit
theorem oS (p:Int×ByteArray×List (List Int)×Unit) (t:List Int) (P:Int->Prop):(∃(y3:Option (Option ((Int×ByteArray×List (List Int)×PUnit)×List (List Int)×List Int×(ByteArray->Option Int)×List Int×List Int×List (List Int)×PUnit)×List Int×Option ((Int×ByteArray×List (List Int)×PUnit)×List (List Int)×List Int×(ByteArray->Option Int)×List Int×List Int×List (List Int)×PUnit)×PUnit)×Bool×PUnit),Gq.fn ((p.1,p.2.1,p.2.2.1,()),t,())=some y3/\Br (!y3.2.1) (P (-1:Int)) (∃(y4:lH),y3.1=some y4/\ ∃(y5:lK),y4.1=some y5/\ ∃(y6:Int),Od.fn (y5.2.1,())=some y6/\ ∃(y7:lH),y3.1=some y7/\ ∃(y8:lK),y7.2.2.1=some y8/\ ∃(y9:Int),Od.fn (y8.2.1,())=some y9/\y9≠(0:Int)/\P (IntKind.i64.wrap (y6.tdiv y9))))=fnW Hz (look [(108,Gq),(95,Od)]) c6 Try.f50 (p,t,()) P:=by kernel_rfl
theorem yG (n:Int) (str:ByteArray) (g:List (List Int)) (t:List Int) (P:((Int×ByteArray×List (List Int)×Bool×Unit)×Unit)->Prop):(∃(y5:Option (Option ((Int×ByteArray×List (List Int)×PUnit)×List (List Int)×List Int×(ByteArray->Option Int)×List Int×List Int×List (List Int)×PUnit)×List Int×Option ((Int×ByteArray×List (List Int)×PUnit)×List (List Int)×List Int×(ByteArray->Option Int)×List Int×List Int×List (List Int)×PUnit)×PUnit)×Bool×PUnit),Gq.fn ((n,str,g,()),t,())=some y5/\Br (!y5.2.1) (P ((Int.ofNat (nat_lit 0), {data:= #[]},List.take 0 (List.drop 0 []),false,()),())) (∃(y6:(Int×ByteArray×List (List Int)×PUnit)×PUnit),Sl.fn (n,str,g,t,())=some y6/\P ((y6.1.1,y6.1.2.1,List.take y6.1.2.2.1.length (List.drop 0 y6.1.2.2.1),true,()),())))=fnMW Sp (look [(108,Gq),(109,Sl)]) Yj Try.f44 (n,str,g,t,()) P:=by kernel_rfl
theorem KN (b:ByteArray) (i:Nat):b[i]?=b.data[i]?:=by
 by_cases h:i<b.size
 ·rw [getElem?_pos b i h,getElem?_pos b.data i h];rfl
 ·rw [getElem?_neg b i h,getElem?_neg b.data i h]
theorem Aip (a b:ByteArray) (k j:Nat) (hk:k<b.size):(a++b.extract k (k+1))[j]?=if j<a.size then a[j]? else if j=a.size then b[k]? else none:=by
 rw [KN,ByteArray.data_append,ByteArray.data_extract,Array.getElem?_append]
 by_cases h:j<a.size
 ·rw [Ab h,Ab (show j<a.data.size from h),KN]
 ·rw [Ak h,Ak (show ¬j<a.data.size from h)]
  have ng:k<b.data.size:=hk
  by_cases e:j=a.size
  ·rw [Ab e,KN]
   have:j-a.data.size=0:=by have:a.data.size=a.size:=rfl
                            omega
   rw [this,Array.getElem?_extract,Ab (by omega),Dv]
  ·rw [Ak e,Array.getElem?_extract,Ak]
   have:a.data.size=a.size:=rfl
   omega
theorem BX {b:ByteArray} : ∀(t:List Int) (a:ByteArray),(∀k∈t,0<=k/\k<b.size)->
  (t.foldl (λ(a:ByteArray) (k:Int)=>a++b.extract k.toNat (k+1).toNat) a).size=a.size+t.length/\
  ∀j,(t.foldl (λ(a:ByteArray) (k:Int)=>a++b.extract k.toNat (k+1).toNat) a)[j]?=if j<a.size then a[j]? else (t[j-a.size]?).bind λk=>b[k.toNat]?
 | [],a,_=>by
  refine ⟨rfl,λj=>?_⟩
  by_cases h:j<a.size
  ·rw [Ab h];rfl
  ·rw [Ak h]
   simp only [List.foldl_nil,List.getElem?_nil,Option.bind_none]
   exact getElem?_neg a j h
 |k::t,a,h=>by
  obtain ⟨h1,h2⟩:=h k (by simp)
  obtain ⟨kn,rfl⟩:=Bt h1
  have hkb:kn<b.size:=by omega
  have Uf:(a++b.extract kn (kn+1)).size=a.size+1:=by rw [ByteArray.size_append,ByteArray.size_extract];omega
  obtain ⟨g1,g2⟩:=BX t (a++b.extract kn (kn+1)) λk' ng=>h k' (Ar _ ng)
  simp only [Nm]
  rw [show ((kn:Nat):Int).toNat=kn from Ac kn,show (((kn:Nat):Int)+1).toNat=kn+1 by omega]
  refine ⟨by rw [g1,Uf,Av];omega,λj=>?_⟩
  rw [g2 j,Uf,Aip a b kn j hkb]
  by_cases e1:j<a.size
  ·rw [Ab (by omega),Ab e1,Ab e1]
  ·rw [Ak e1]
   by_cases e2:j=a.size
   ·subst e2
    rw [Ab (by omega),Ab rfl,Ak (by omega),eV]
    simp
   ·rw [Ak (by omega),Ak e1,show j-a.size=(j-(a.size+1))+1 by omega,Jq]
theorem kL {b:ByteArray} (t:List Int) (h: ∀k∈t,0<=k/\k<b.size):(Wk b t).size=t.length:=by
 have:=(BX t ByteArray.empty h).1
 rw [ByteArray.size_empty,Bn] at this
 exact this
theorem IV {b:ByteArray} (t:List Int) (h: ∀k∈t,0<=k/\k<b.size) (j:Nat):(Wk b t)[j]?=(t[j]?).bind λk=>b[k.toNat]?:=by
 have:=(BX t ByteArray.empty h).2 j
 rw [ByteArray.size_empty,Ak (Dj _),Nat.sub_zero] at this
 exact this
theorem yz (b:ByteArray) {t:List Int} {j:Nat} (hl:j<t.length):Wk b (t.take (j+1))=Wk b (t.take j)++b.extract (t[j]).toNat (t[j]+1).toNat:=by
 unfold Wk
 rw [Hp,Ad hl,Ls,Vs]
 rfl
structure YD (p:PP) (t:List Int):Prop where
 valid:Cs p=true
 pos:0<t.length
 oW:t.length<=p.2.2.1.length
 g8:p.2.2.1.length<=8
 size:p.2.1.size=p.2.2.1.length
 Ss: ∀ {j:Nat} (h:j<t.length),∃k:Nat,t[j]=(k:Int)/\k<p.2.2.1.length
 inc: ∀ {i j:Nat} (hi:i<t.length) (hj:j<t.length),i<j->t[i]<t[j]
theorem Abh {n:Int} {xs:List Int} (h:PL n xs xs.length): ∀(j i:Nat) (hi:i<xs.length) (hj:j<xs.length),i<j->xs[i]<xs[j]
 |0,_,_,_,fw=>absurd fw (Dj _)
 |j+1,i,hi,hj,fw=>by
  have h1:=(h (j+1) hj hj).2.2 (by omega)
  simp only [Nat.add_sub_cancel] at h1
  by_cases e:i=j
  ·subst e;exact h1
  ·have:=Abh h j i hi (by omega) (by omega)
   omega
theorem jR {p:PP} {t:List Int} (h:Dp p t=true):YD p t:=by
 obtain ⟨hv,hp⟩:=Ej.1 h
 obtain ⟨h1,h2⟩:=Ej.1 hp
 have hV:=valid hv
 obtain ⟨_,_,Uf⟩:=Ej.1 hv
 have hat: ∀ {j:Nat} (h:j<t.length),∃k:Nat,t[j]=(k:Int)/\k<p.2.2.1.length:= λ {j} hj=>by
  have:=h2 j hj hj
  obtain ⟨k,hk⟩:=Bt this.1
  exact ⟨k,hk,by omega⟩
 refine ⟨hv,h1,?_,hV.oW.2,Uf,hat,λhi hj fw=>Abh h2 _ _ hi hj fw⟩
 have h5:=Abi h2 (t.length-1) (by omega)
 obtain ⟨k,e,hk⟩:=hat (show t.length-1<t.length by omega)
 omega
theorem YD.in' {p:PP} {t:List Int} (h:YD p t): ∀k∈t,0<=k/\k<p.2.1.size:= λk hk=>by
 obtain ⟨j,hj,rfl⟩:=Bj.1 hk
 obtain ⟨kn,e,j8⟩:=h.Ss hj
 rw [h.size,e]
 omega
theorem cg {p:PP} {t:List Int} (h:Dp p t=true):Cs (Cf p t)=true:=by
 have hs:=jR h
 have hV:=valid hs.valid
 obtain ⟨hg,hnm,_⟩:=Ej.1 hs.valid
 obtain ⟨g1,g2,g3⟩:=Ej.1 hg
 obtain ⟨n1,n2⟩:=Ej.1 hnm
 have Uf:=kL t hs.in'
 refine Ej.2 ⟨Ej.2 ⟨g1,?_,λq hq=>?_⟩,Ej.2 ⟨⟨?_,?_⟩,λj hj=>?_⟩,?_⟩
 ·show (t.map _).length<=8
  rw [Bs]
  have:=hs.oW
  have:=hs.g8
  omega
 ·obtain ⟨k,hk,rfl⟩:=Ba.1 hq
  obtain ⟨j,hj,rfl⟩:=Bj.1 hk
  obtain ⟨kn,e,j8⟩:=hs.Ss hj
  rw [e,Ac,En j8]
  exact g3 _ (An j8)
 ·show 1<=(Wk p.2.1 t).size
  rw [Uf];exact hs.pos
 ·show (Wk p.2.1 t).size<=8
  rw [Uf];have:=hs.oW;have:=hs.g8;omega
 ·have hj:j<t.length:=by rw [<-Uf];exact hj
  obtain ⟨kn,e,j8⟩:=hs.Ss hj
  obtain ⟨c,c1,c2,c3,c4⟩:=n2 kn (by rw [hs.size];exact j8)
  refine ⟨c,?_,c2,c3,λi hi=>?_⟩
  ·show (Wk p.2.1 t)[j]?=some c
   rw [IV t hs.in',Ad hj,e,Eu,Ac,c1]
  ·show (Wk p.2.1 t)[i]?≠some c
   have dP:i<t.length:=by omega
   obtain ⟨k2,e2,XQ⟩:=hs.Ss dP
   have:=hs.inc dP hj hi
   rw [IV t hs.in',Ad dP,e2,Eu,Ac]
   exact c4 k2 (by omega)
 ·show (Wk p.2.1 t).size=(t.map _).length
  rw [Uf,Bs]
theorem vh {p:PP} {t:List Int} (hp:Gt p) (h:Dp p t=true):Gt (Cf p t):=by
 have hs:=jR h
 have h1:=hs.oW
 have h2:=hs.g8
 refine ⟨?_,?_,λq hq=>?_⟩
 ·show (Wk p.2.1 t).size<=4294967296
  rw [kL t hs.in'];omega
 ·show (t.map _).length<=4294967296
  rw [Bs];omega
 ·obtain ⟨k,hk,rfl⟩:=Ba.1 hq
  obtain ⟨j,hj,rfl⟩:=Bj.1 hk
  obtain ⟨kn,e,j8⟩:=hs.Ss hj
  rw [e,Ac,En j8]
  exact hp.2.2 _ (An j8)
theorem BY {p:PP} {t:List Int} (h:Dp p t=true) {x:List Int} (hx:Gn p.1.toNat ((Cf p t).2.2.1.map some) x):Gn p.1.toNat (p.2.2.1.map some) x:=by
 refine cn.mono (λg hg=>?_) hx
 have hg:=eP.1 hg
 obtain ⟨k,hk,rfl⟩:=Ba.1 hg
 obtain ⟨j,hj,rfl⟩:=Bj.1 hk
 obtain ⟨kn,e,j8⟩:=(jR h).Ss hj
 rw [e,Ac,En j8]
 exact eP.2 (An j8)
theorem Yv {p:PP} {t:List Int} (hw:Ds p=true) (h:Dp p t=true):Ds (Cf p t)=true:=by
 have tJ:=cg h
 have hr:=Oo tJ
 refine Ct.2 ⟨tJ,Bk λhn=>?_⟩
 have hn:(Kt (Cf p t).2.2.1 (upto (Cf p t).1.toNat)).2.2=false:=by simpa using hn
 obtain ⟨h1,z,h2,h3⟩:=hr.big hn
 have h5:=Rq (l1:=z::(Kt (Cf p t).2.2.1 (upto (Cf p t).1.toNat)).1) (l2:=Ag p) (Cg.2 ⟨h3,hr.nodup⟩) λx hx=>by
  rcases Bc.1 hx with rfl|hx
  ·exact (yx hw).all rfl _ (BY h h2)
  ·exact (yx hw).all rfl _ (BY h (hr.gen x hx))
 have h6:=jP (Cw hw).1
 simp only [Av] at h5
 omega
theorem gg {p:PP} {t:List Int} (hw:Ds p=true) (h:Dp p t=true) {x:List Int} (hx:x∈Ag (Cf p t)):x∈Ag p:=
 (yx hw).all rfl _ (BY h ((Oo (cg h)).gen x hx))
theorem map_take {α β:Type} (f:α->β) {xs:List α} {j:Nat} (h:j<xs.length):(xs.take (j+1)).map f=(xs.take j).map f++ [f xs[j]]:=by
 rw [Hp,Ad h,It];rfl
theorem AG (p:PP) (t:List Int) (h:Gt p/\Dp p t=true):fnW Hz (look [(90,oG)]) Sm Try.f109 (p,t,()) (λ(z:PP)=>z=Cf p t):=by
 obtain ⟨hp,Jl⟩:=h
 have hs:=jR Jl
 refine Eq.mp (CY p t _) ⟨rfl,rfl,rfl,rfl,?_⟩
 refine Cj t.length (λv=>v.1) (λj v=>v=((j:Int),p.1,p.2.1,p.2.2.1,0,ByteArray.empty,p.1,Wk p.2.1 (t.take j),[],(t.take j).map λk=>p.2.2.1.getD k.toNat [],())) rfl rfl ?_
 rintro j v K hj hi hR hK
 subst hR
 dsimp only
 have hlen:=hs.oW
 have hg8:=hs.g8
 refine Br.dec (λhl=>?_) λhl=>?_
 ·have hl:j<t.length:=by omega
  obtain ⟨kn,hk,j8⟩:=hs.Ss hl
  have hkb:kn<p.2.1.size:=by rw [hs.size];exact j8
  have hw:IntKind.i64.wrap ((kn:Int)+1)=(kn:Int)+1:=Dq (by have:=hs.g8;omega) (by have:=hs.g8;omega)
  have Uf:=kL (b:=p.2.1) (t.take j) λk ng=>hs.in' k (Er ng)
  have hex:(p.2.1.extract kn (kn+1)).size=1:=by rw [ByteArray.size_extract];omega
  refine ⟨_,Dk hl,?_⟩
  rw [hk,hw]
  refine ⟨⟨by omega,by omega,by omega⟩,by rw [show ((kn:Int)+1).toNat=kn+1 by omega,Ac,hex,Uf];have:=List.length_take_le j t;omega,_,Dk j8,_,Ab (hp.2.2 _ (An j8)),rfl,rfl,?_,rfl,rfl,rfl,rfl,?_⟩
  ·show ((t.take j).map _).length+1<=4294967296
   rw [Bs];have:=List.length_take_le j t;have:=hs.g8;omega
  ·rw [Cd (by omega),show ((kn:Int)+1).toNat=kn+1 by omega,Ac]
   refine hK hl _ rfl ?_
   rw [yz _ hl,map_take _ hl,hk,Ac,show ((kn:Int)+1).toNat=kn+1 by omega,En j8]
 ·have:j=t.length:=by omega
  subst this
  rw [Bg,Dz]
  rfl
theorem qj:Sound Try.prog 109 Sm:=
 Sound.Ht Ge (Be BG Cb) mixed Try.func109 (by kernel_rfl) (by kernel_rfl) λx h=>AG x.1 x.2.1 h
theorem AF (n:Int) (str:ByteArray) (g:List (List Int)) (t:List Int) (h:Gt (n,str,g,())/\Dp (n,str,g,()) t=true):
  fnMW Sp (look [(90,Tu)]) Sl Try.f109 (n,str,g,t,()) (λ(z:(Int×ByteArray×List (List Int)×Unit)×Unit)=>z=(((Cf (n,str,g,()) t).1,(Cf (n,str,g,()) t).2.1,(Cf (n,str,g,()) t).2.2.1,()),())):=by
 obtain ⟨hp,Jl⟩:=h
 have hs:=jR Jl
 have Aov:=hs.size
 dsimp only at Aov
 refine Eq.mp (CX n str g t _) ⟨rfl,rfl,rfl,rfl,?_⟩
 refine Cj t.length (λv=>v.1) (λj v=>v=((j:Int),n,str,g,0,ByteArray.empty,n,Wk str (t.take j),[],(t.take j).map λk=>g.getD k.toNat [],())) rfl rfl ?_
 rintro j v K hj hi hR hK
 subst hR
 dsimp only
 have hlen:=hs.oW
 have hg8:=hs.g8
 dsimp only at hlen hg8
 refine Br.dec (λhl=>?_) λhl=>?_
 ·have hl:j<t.length:=by omega
  obtain ⟨kn,hk,j8⟩:=hs.Ss hl
  dsimp only at j8
  have hkb:kn<str.size:=by omega
  have hw:IntKind.i64.wrap ((kn:Int)+1)=(kn:Int)+1:=Dq (by omega) (by omega)
  have Uf:=kL (b:=str) (t.take j) λk ng=>hs.in' k (Er ng)
  have hex:(str.extract kn (kn+1)).size=1:=by rw [ByteArray.size_extract];omega
  have hsh:short g[kn]:=hp.2.2 _ (An j8)
  have Ant:idx g (kn:Int)=some g[kn]:=Dk j8
  have Qf:Tu.fn (g[kn],())=some ((g[kn],()),()):=Ab hsh
  have Ao2:((t.take j).map λk=>g.getD k.toNat []).length+(List.take 1 (List.drop 0 [List.take (g[kn]).length (List.drop 0 g[kn])])).length<=4294967296:=by
   show ((t.take j).map _).length+1<=4294967296
   rw [Bs];have:=List.length_take_le j t;omega
  refine ⟨_,Dk hl,?_⟩
  rw [hk,hw]
  refine ⟨⟨by omega,by omega,by omega⟩,by rw [show ((kn:Int)+1).toNat=kn+1 by omega,Ac,hex,Uf];have:=List.length_take_le j t;omega,_,Ant,_,Qf,rfl,rfl,Ao2,⟨rfl,rfl,rfl,rfl,?_⟩,?_⟩
  ·rw [Cd (by omega),show ((kn:Int)+1).toNat=kn+1 by omega,Ac]
   refine hK hl _ rfl ?_
   rw [yz _ hl,map_take _ hl,hk,Ac,show ((kn:Int)+1).toNat=kn+1 by omega,En j8,Dz]
   rfl
  ·repeat' (first|exact ⟨rfl,rfl⟩|exact rfl|exact Ao2|refine ⟨_,Ant,?_⟩|refine ⟨_,Qf,?_⟩|refine ⟨?_,?_⟩)
 ·have:j=t.length:=by omega
  subst this
  rw [Bg,Dz]
  rfl
theorem qi:Ci Try.prog 109 Sl:=
 Ci.ir Rt (Ez BE Cb) mixed Try.func109 (by kernel_rfl) (by kernel_rfl) λx h=>AF x.1 x.2.1 x.2.2.1 x.2.2.2.1 h
theorem Qa {p:PP} {t:List Int} :Jn p t=true↔Ds p=true/\Dp p t=true:=by unfold Jn;rw [Ai]
theorem HT (p:PP) (t:List Int) (h:Gt p/\short t):fnW Hz (look [(88,Qm),(164,Si),(109,Sm)]) Gq Try.f108 (p,t,()) (λ(z:Option (Option XP×List Int×Option XP×Unit)×Bool×Unit)=>z=(if Jn p t=true then (some (Fq p t),true,()) else (none,false,()))):=by
 obtain ⟨hp,ht⟩:=h
 by_cases hw:Ds p=true
 ·have he:Qm.fn ((p.1,p.2.1,p.2.2.1,()),())=some (some (Il p),true,()):=(Ab hp).trans (Cx some (Ab hw))
  refine Eq.mp (rG p t _) ⟨_,he,λhb=>by simp at hb,λ_=>⟨_,Ab ⟨hp,ht⟩,Br.of (λhm=>?_) λhm=>?_⟩⟩
  ·have hm: ¬Dp p t=true:=Iy hm
   rw [Ak λh=>hm (Qa.1 h).2]
  have hm:Dp p t=true:=by simpa using hm
  have FT:=Yv hw hm
  have fv:Qm.fn (Cf p t,())=some (some (Il (Cf p t)),true,()):=(Ab (vh hp hm)).trans (Cx some (Ab FT))
  rw [Ab (Qa.2 ⟨hw,hm⟩)]
  exact ⟨_,Ab ⟨hp,hm⟩,_,fv,rfl⟩
 ·have he:Qm.fn ((p.1,p.2.1,p.2.2.1,()),())=some (none,false,()):=(Ab hp).trans (Cx some (Ak hw))
  rw [Ak λh=>hw (Qa.1 h).1]
  exact Eq.mp (rG p t _) ⟨_,he,λ_=>rfl,λhb=>by simp at hb⟩
theorem aA:Sound Try.prog 108 Gq:=
 Sound.Ht Ge (Be wH (Be jK (Be qj Cb))) mixed Try.func108 (by kernel_rfl) (by kernel_rfl) λx h=>HT x.1 x.2.1 h
theorem NK (p:PP) (t s:List Int) (h:Gt p/\short t/\short s):fnW Hz (look [(108,Gq),(135,Yh)]) Hm Try.f110 (p,t,s,()) (λ(z:Option (Option XP×List Int×Option XP×Unit)×Int×Bool×Unit)=>z=(if Jn p t=true then (some (Fq p t),(Ni p s).1,(Ni p s).2.1,()) else (none,0,false,()))):=by
 obtain ⟨hp,ht,hs⟩:=h
 by_cases hw:Jn p t=true
 ·have he:Gq.fn ((p.1,p.2.1,p.2.2.1,()),t,())=some (some (Fq p t),true,()):=(Ab ⟨hp,ht⟩).trans (Cx some (Ab hw))
  rw [Ab hw]
  refine Eq.mp (vH p t s _) ⟨_,he,λhb=>by simp at hb,λ_=>⟨_,rfl,_,Ab ⟨⟨Il p,rfl,(Qa.1 hw).1,rfl⟩,hs⟩,?_⟩⟩
  rfl
 ·have he:Gq.fn ((p.1,p.2.1,p.2.2.1,()),t,())=some (none,false,()):=(Ab ⟨hp,ht⟩).trans (Cx some (Ak hw))
  rw [Ak hw]
  exact Eq.mp (vH p t s _) ⟨_,he,λ_=>rfl,λhb=>by simp at hb⟩
theorem c9:Sound Try.prog 110 Hm:=
 Sound.Ht Ge (Be aA (Be mS Cb)) mixed Try.func110 (by kernel_rfl) (by kernel_rfl) λx h=>NK x.1 x.2.1 x.2.2.1 h
theorem Akp (h:Option HP) (i:Int) (hh: ∃p t,Jn p t=true/\h=some (Fq p t)/\0<=i/\i<(Ag p).length):fnW Hz (look [(135,Yh)]) dC Try.f113 (h,i,()) (λ(z:Bool)=>z=mF h i):=by
 obtain ⟨p,t,hw,rfl,h1,h2⟩:=hh
 obtain ⟨k,rfl⟩:=Bt h1
 have hk:k<(Ag p).length:=by omega
 obtain ⟨tK,hm⟩:=Qa.1 hw
 have Rj:=(cF tK).1
 refine Eq.mp (Alg _ _ _) ⟨Fq p t,rfl,Fq p t,rfl,Il p,rfl,(Ag p)[k],by rw [Rj];exact Dk hk,_,Ab ⟨⟨Il (Cf p t),rfl,Yv tK hm,rfl⟩,jr (cc (Cw tK).1 (An hk))⟩,?_⟩
 show (Ni (Cf p t) (Ag p)[k]).2.1=decide ((Ag p).getD ((k:Nat):Int).toNat []∈Ag (Cf p t))
 rw [Ac,En hk]
 unfold Ni
 split
 ·rename_i h;rw [Cl h]
 ·rename_i h;rw [Iu h]
theorem uU:Sound Try.prog 113 dC:=
 Sound.Ht Ge (Be mS Cb) mixed Try.func113 (by kernel_rfl) (by kernel_rfl) λx h=>Akp x.1 x.2.1 h
theorem RR {p:PP} {s:List Int} :(Ni p s).2.1=decide (s∈Ag p):=by
 unfold Ni
 split
 ·rename_i h;rw [Cl h]
 ·rename_i h;rw [Iu h]
theorem RQ {p:PP} {s:List Int} (h:s∈Ag p):0<=(Ni p s).1/\(Ni p s).1<(Ag p).length/\(Ag p).getD (Ni p s).1.toNat []=s:=by
 unfold Ni
 rw [Ab h]
 have h1:=Mc h
 refine ⟨Int.natCast_nonneg _,by show ((List.idxOf s (Ag p):Nat):Int)<_;omega,?_⟩
 show (Ag p).getD ((List.idxOf s (Ag p):Nat):Int).toNat []=s
 rw [Ac,En h1]
 exact List.getElem_idxOf h1
theorem HQ (p:PP) (t s:List Int) (h:Gt p/\short t/\short s):fnW Hz (look [(110,Hm),(113,dC)]) fW Try.f48 (p,t,s,()) (λ(z:Bool)=>z=od p t s):=by
 obtain ⟨hp,ht,hs⟩:=h
 unfold od
 by_cases hw:Jn p t=true
 ·have he:Hm.fn ((p.1,p.2.1,p.2.2.1,()),t,s,())=some (some (Fq p t),(Ni p s).1,(Ni p s).2.1,()):=(Ab ⟨hp,ht,hs⟩).trans (Cx some (Ab hw))
  rw [hw,bt]
  refine Eq.mp (rF p t s _) ⟨_,he,?_⟩
  dsimp only
  rw [RR]
  refine Br.dec (λhm=>?_) λhm=>?_
  ·obtain ⟨i1,i2,i3⟩:=RQ hm
   refine ⟨_,Ab ⟨p,t,hw,rfl,i1,i2⟩,?_⟩
   rw [Cl hm,bt]
   show decide ((Ag p).getD (Ni p s).1.toNat []∈Ag (Cf p t))=_
   rw [i3]
  ·rw [Iu hm,Tk]
 ·have he:Hm.fn ((p.1,p.2.1,p.2.2.1,()),t,s,())=some (none,0,false,()):=(Ab ⟨hp,ht,hs⟩).trans (Cx some (Ak hw))
  rw [Fa _|>.mp hw,Tk]
  exact Eq.mp (rF p t s _) ⟨_,he,λhb=>by simp at hb,λ_=>rfl⟩
theorem s8:Sound Try.prog 48 fW:=
 Sound.Ht Ge (Be c9 (Be uU Cb)) mixed Try.func48 (by kernel_rfl) (by kernel_rfl) λx h=>HQ x.1 x.2.1 x.2.2.1 h
theorem OS {p:PP} (hv:Cs p=true):1<=(Ag p).length:=by
 obtain ⟨A,h⟩:=(Oo hv).first
 show 1<=(Kt p.2.2.1 (upto p.1.toNat)).1.length
 rw [h];simp
theorem LC {p:PP} {t:List Int} (hw:Jn p t=true):((Ag (Cf p t)).length:Int)≠0/\IntKind.i64.wrap (((Ag p).length:Int).tdiv ((Ag (Cf p t)).length:Int))=((Ag p).length:Int).tdiv ((Ag (Cf p t)).length:Int):=by
 obtain ⟨tK,hm⟩:=Qa.1 hw
 have h1:=OS (cg hm)
 have h2:=jP (Cw tK).1
 refine ⟨by omega,?_⟩
 have h3:((Ag p).length:Int).tdiv ((Ag (Cf p t)).length:Int)=(((Ag p).length/(Ag (Cf p t)).length:Nat):Int):=by
  rw [Int.tdiv_eq_ediv_of_nonneg (by omega)];rfl
 have h4:=Nat.div_le_self (Ag p).length (Ag (Cf p t)).length
 rw [h3]
 generalize (Ag p).length/(Ag (Cf p t)).length=q at*
 exact Dq (by omega) (by omega)
theorem zW (p:PP) (t:List Int) (h:Gt p/\short t):fnW Hz (look [(108,Gq),(95,Od)]) c6 Try.f50 (p,t,()) (λ(z:Int)=>z=ji p t):=by
 unfold ji
 by_cases hw:Jn p t=true
 ·have he:Gq.fn ((p.1,p.2.1,p.2.2.1,()),t,())=some (some (Fq p t),true,()):=(Ab h).trans (Cx some (Ab hw))
  obtain ⟨tK,hm⟩:=Qa.1 hw
  obtain ⟨c1,c2⟩:=LC hw
  rw [Ab hw]
  refine Eq.mp (oS p t _) ⟨_,he,λhb=>by simp at hb,λ_=>⟨Fq p t,rfl,Il p,rfl,_,Ab trivial,Fq p t,rfl,Il (Cf p t),rfl,_,Ab trivial,?_⟩⟩
  dsimp only
  rw [(cF tK).1,(cF (Yv tK hm)).1]
  exact ⟨c1,c2⟩
 ·have he:Gq.fn ((p.1,p.2.1,p.2.2.1,()),t,())=some (none,false,()):=(Ab h).trans (Cx some (Ak hw))
  rw [Ak hw]
  exact Eq.mp (oS p t _) ⟨_,he,λ_=>rfl,λhb=>by simp at hb⟩
theorem qf:Sound Try.prog 50 c6:=
 Sound.Ht Ge (Be aA (Be db Cb)) mixed Try.func50 (by kernel_rfl) (by kernel_rfl) λx h=>zW x.1 x.2.1 h
theorem VB (n:Int) (str:ByteArray) (g:List (List Int)) (t:List Int) (h:Gt (n,str,g,())/\short t):
  fnMW Sp (look [(108,Gq),(109,Sl)]) Yj Try.f44 (n,str,g,t,()) (λ(z:(Int×ByteArray×List (List Int)×Bool×Unit)×Unit)=>z=(((bU (n,str,g,()) t).1,(bU (n,str,g,()) t).2.1,(bU (n,str,g,()) t).2.2.1,Jn (n,str,g,()) t,()),())):=by
 unfold bU
 by_cases hw:Jn (n,str,g,()) t=true
 ·have he:Gq.fn ((n,str,g,()),t,())=some (some (Fq (n,str,g,()) t),true,()):=(Ab h).trans (Cx some (Ab hw))
  rw [Ab hw,hw]
  refine Eq.mp (yG n str g t _) ⟨_,he,λhb=>by simp at hb,λ_=>⟨_,Ab ⟨h.1,(Qa.1 hw).2⟩,?_⟩⟩
  dsimp only
  rw [Dz]
 ·have he:Gq.fn ((n,str,g,()),t,())=some (none,false,()):=(Ab h).trans (Cx some (Ak hw))
  rw [Ak hw,Fa _|>.mp hw]
  exact Eq.mp (yG n str g t _) ⟨_,he,λ_=>rfl,λhb=>by simp at hb⟩
theorem wJ:Ci Try.prog 44 Yj:=
 Ci.ir Rt (Be aA (Ez qi Cb)) mixed Try.func44 (by kernel_rfl) (by kernel_rfl) λx h=>VB x.1 x.2.1 x.2.2.1 x.2.2.2.1 h
end Go.Proofs.Ytkkdpknjohcekaa
