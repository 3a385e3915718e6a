/-
  Part 42 of the proof that the statement FnLowerBounds holds.
-/
import Derived.Test.YtkkdpknjohcekaaGreatCFLowerBounds40
namespace Go.Proofs.YtkkdpknjohcekaaGreat
open Go.RowKit
def ap (p:List Int) (i:Nat):Nat:=(Hu p (i:Int)).toNat
def Pm (n:Nat) (p:List Int):Prop:=p.length=n/\bJ p
theorem Pm.n1 {n:Nat} {p:List Int} (h:Pm n p):1<=n:=h.1▸h.2.pos
theorem Pm.n2 {n:Nat} {p:List Int} (h:Pm n p):n<=20:=h.1▸h.2.len
theorem Pm.aw {n:Nat} {p:List Int} (h:Pm n p) {i:Nat} (hi:i<n):Hu p (i:Int)=(ap p i:Int)/\ap p i<n:=by
 have mI:i<p.length:=by rw [h.1];exact hi
 have:=h.2.row _ (Ak mI)
 unfold ap
 rw [La mI]
 have h1:=h.1
 omega
theorem Pm.lt {n:Nat} {p:List Int} (h:Pm n p) {i:Nat} (hi:i<n):ap p i<n:=(h.aw hi).2
theorem Pm.ext {n:Nat} {p q:List Int} (h:Pm n p) (k:Pm n q) (e: ∀i,i<n->ap p i=ap q i):p=q:=by
 refine List.ext_getElem (by rw [h.1,k.1]) λi h1 h2=>?_
 have hi:i<n:=by rw [<-h.1];exact h1
 have a:=(h.aw hi).1
 have b:=(k.aw hi).1
 rw [La h1] at a
 rw [La h2] at b
 rw [a,b,e i hi]
theorem Pm.inj {n:Nat} {p:List Int} (h:Pm n p) {i j:Nat} (hi:i<n) (hj:j<n) (e:ap p i=ap p j):i=j:=
 h.2.inj i j (by rw [h.1];exact hi) (by rw [h.1];exact hj) e
theorem Pm.SM {n:Nat} {p:List Int} (h:Pm n p) {k:Nat} (hk:k<n): ∃i,i<n/\ap p i=k:=by
 obtain ⟨i,h1,h2⟩:=h.2.SM k (by rw [h.1];exact hk)
 exact ⟨i,by rw [<-h.1];exact h1,h2⟩
theorem Pm.of {n:Nat} {p:List Int} (hl:p.length=n) (h1:1<=n) (h2:n<=20) (f:Nat->Nat) (hf: ∀i,i<n->p[i]?=some (f i:Int)/\f i<n) (hi: ∀i j,i<n->j<n->f i=f j->i=j):Pm n p:=by
 refine ⟨hl,by omega,by omega,λy hy=>?_,?_⟩
 ·obtain ⟨i,hi,rfl⟩:=Bf.1 hy
  obtain ⟨h3,h4⟩:=hf i (by omega)
  rw [Ac hi] at h3
  rw [Bc h3]
  omega
 ·refine El.2 λi j h3 h4 h5 h6=>?_
  have a:=(hf i (by omega)).1
  have b:=(hf j (by omega)).1
  rw [Ac h3] at a
  rw [Ac h4] at b
  rw [Bc a,Bc b] at h6
  have:=hi i j (by omega) (by omega) (by omega)
  omega
theorem CJ {n:Nat} {p q:List Int} (hp:Pm n p) (hq:Pm n q) {i:Nat} (hi:i<n):(Ai p q)[i]?=some (ap q (ap p i):Int):=by
 have h1:i<p.length:=by rw [hp.1];exact hi
 unfold Ai
 rw [Fl,Ac h1]
 have a:=(hp.aw hi).1
 rw [La h1] at a
 simp only [Al,a]
 rw [(hq.aw (hp.aw hi).2).1]
theorem Pm.comp {n:Nat} {p q:List Int} (hp:Pm n p) (hq:Pm n q):Pm n (Ai p q):=
 Pm.of (by rw [Sp,hp.1]) hp.n1 hp.n2 (λi=>ap q (ap p i)) (λi hi=>⟨CJ hp hq hi,hq.lt (hp.lt hi)⟩) λi j hi hj e=>hp.inj hi hj (hq.inj (hp.lt hi) (hp.lt hj) e)
theorem VZ {p:List Int} {i k:Nat} (h:p[i]?=some (k:Int)):ap p i=k:=by
 unfold ap Hu
 rw [Aq,Ah,h]
 simp
theorem Kj {n:Nat} {p q:List Int} (hp:Pm n p) (hq:Pm n q) {i:Nat} (hi:i<n):ap (Ai p q) i=ap q (ap p i):=VZ (CJ hp hq hi)
theorem uS {n i:Nat} (hi:i<n):(upto n)[i]?=some (i:Int):=by simp [upto,hi]
theorem kL {n i:Nat} (hi:i<n):ap (upto n) i=i:=VZ (uS hi)
theorem Pm.id {n:Nat} (h1:1<=n) (h2:n<=20):Pm n (upto n):=Pm.of (by simp [upto]) h1 h2 (λi=>i) (λi hi=>⟨uS hi,hi⟩) λ_ _ _ _ e=>e
theorem PN {n:Nat} {p:List Int} (hp:Pm n p) {i:Nat} (hi:i<n):(Bg p)[ap p i]?=some (i:Int):=YF hp.2 (by rw [hp.1];exact hi)
theorem jM {n:Nat} {p:List Int} (hp:Pm n p) {i:Nat} (hi:i<n):ap (Bg p) (ap p i)=i:=VZ (PN hp hi)
theorem yq {n:Nat} {p:List Int} (hp:Pm n p) {k:Nat} (hk:k<n):ap p (ap (Bg p) k)=k:=by
 obtain ⟨i,hi,rfl⟩:=hp.SM hk
 rw [jM hp hi]
theorem Pm.inv {n:Nat} {p:List Int} (hp:Pm n p):Pm n (Bg p):=by
 refine Pm.of (by rw [rX,hp.1]) hp.n1 hp.n2 (λk=>ap (Bg p) k) (λk hk=>?_) λi j hi hj e=>?_
 ·obtain ⟨i,hi,rfl⟩:=hp.SM hk
  rw [jM hp hi]
  exact ⟨PN hp hi,hi⟩
 ·rw [<-yq hp hi,<-yq hp hj,e]
theorem Hb {n:Nat} {p q r:List Int} (hp:Pm n p) (hq:Pm n q) (hr:Pm n r):Ai (Ai p q) r=Ai p (Ai q r):=
 ((hp.comp hq).comp hr).ext (hp.comp (hq.comp hr)) λi hi=>by rw [Kj (hp.comp hq) hr hi,Kj hp hq hi,Kj hp (hq.comp hr) hi,Kj hq hr (hp.lt hi)]
theorem comp_id {n:Nat} {p:List Int} (hp:Pm n p):Ai p (upto n)=p:=
 (hp.comp (Pm.id hp.n1 hp.n2)).ext hp λi hi=>by rw [Kj hp (Pm.id hp.n1 hp.n2) hi,kL (hp.lt hi)]
theorem id_comp {n:Nat} {p:List Int} (hp:Pm n p):Ai (upto n) p=p:=
 ((Pm.id hp.n1 hp.n2).comp hp).ext hp λi hi=>by rw [Kj (Pm.id hp.n1 hp.n2) hp hi,kL hi]
theorem dX {n:Nat} {p:List Int} (hp:Pm n p):Ai p (Bg p)=upto n:=
 (hp.comp hp.inv).ext (Pm.id hp.n1 hp.n2) λi hi=>by rw [Kj hp hp.inv hi,jM hp hi,kL hi]
theorem c7 {n:Nat} {p:List Int} (hp:Pm n p):Ai (Bg p) p=upto n:=
 (hp.inv.comp hp).ext (Pm.id hp.n1 hp.n2) λi hi=>by rw [Kj hp.inv hp hi,yq hp hi,kL hi]
theorem tm {n:Nat} {p q:List Int} (hp:Pm n p) (hq:Pm n q) (h:Ai p q=upto n):Bg p=q:=by
 rw [<-comp_id hp.inv,<-h,<-Hb hp.inv hp hq,c7 hp,id_comp hq]
theorem inv_mul {n:Nat} {p q:List Int} (hp:Pm n p) (hq:Pm n q):Bg (Ai p q)=Ai (Bg q) (Bg p):=
 tm (hp.comp hq) (hq.inv.comp hp.inv) (by
  rw [Hb hp hq (hq.inv.comp hp.inv),<-Hb hq hq.inv hp.inv,dX hq,id_comp hp.inv,dX hp])
theorem inv_inv {n:Nat} {p:List Int} (hp:Pm n p):Bg (Bg p)=p:=tm hp.inv hp (c7 hp)
theorem KF {n:Nat} (h1:1<=n) (h2:n<=20):Bg (upto n)=upto n:=tm (Pm.id h1 h2) (Pm.id h1 h2) (comp_id (Pm.id h1 h2))
inductive cE (n:Nat) (S:List Int->Prop):List Int->Prop where
 |id:cE n S (upto n)
 |mul {p g:List Int} :cE n S p->S g->cE n S (Ai p g)
 |inv {p g:List Int} :cE n S p->S g->cE n S (Ai p (Bg g))
def OC (n:Nat) (S:List Int->Prop):Prop:=(1<=n/\n<=20)/\ ∀g,S g->Pm n g
theorem cE.pm {n:Nat} {S:List Int->Prop} (hS:OC n S) {p:List Int} (h:cE n S p):Pm n p:=by
 induction h with
 |id=>exact Pm.id hS.1.1 hS.1.2
 |mul _ hg ih=>exact ih.comp (hS.2 _ hg)
 |inv _ hg ih=>exact ih.comp (hS.2 _ hg).inv
theorem cE.comp {n:Nat} {S:List Int->Prop} (hS:OC n S) {p q:List Int} (hp:cE n S p) (hq:cE n S q):cE n S (Ai p q):=by
 induction hq with
 |id=>rw [comp_id (hp.pm hS)];exact hp
 |mul hq hg ih=>rw [<-Hb (hp.pm hS) (hq.pm hS) (hS.2 _ hg)];exact .mul ih hg
 |inv hq hg ih=>rw [<-Hb (hp.pm hS) (hq.pm hS) (hS.2 _ hg).inv];exact .inv ih hg
theorem cE.one {n:Nat} {S:List Int->Prop} (hS:OC n S) {g:List Int} (hg:S g):cE n S g:=by
 have:=cE.mul (n:=n) (S:=S) .id hg
 rwa [id_comp (hS.2 g hg)] at this
theorem cE.Ai0 {n:Nat} {S:List Int->Prop} (hS:OC n S) {g:List Int} (hg:S g):cE n S (Bg g):=by
 have:=cE.inv (n:=n) (S:=S) .id hg
 rwa [id_comp (hS.2 g hg).inv] at this
theorem cE.rY {n:Nat} {S:List Int->Prop} (hS:OC n S) {p:List Int} (hp:cE n S p):cE n S (Bg p):=by
 induction hp with
 |id=>rw [KF hS.1.1 hS.1.2];exact .id
 |mul hq hg ih=>rw [inv_mul (hq.pm hS) (hS.2 _ hg)];exact (cE.Ai0 hS hg).comp hS ih
 |inv hq hg ih=>rw [inv_mul (hq.pm hS) (hS.2 _ hg).inv,inv_inv (hS.2 _ hg)];exact (cE.one hS hg).comp hS ih
theorem cE.trans {n:Nat} {S S':List Int->Prop} (hS':OC n S') (h: ∀g,S g->cE n S' g) {p:List Int} (hp:cE n S p):cE n S' p:=by
 induction hp with
 |id=>exact .id
 |mul _ hg ih=>exact ih.comp hS' (h _ hg)
 |inv _ hg ih=>exact ih.comp hS' ((h _ hg).rY hS')
abbrev PO:=Option (List Int)
abbrev Row:=List PO
abbrev Fk:=List Row
def No (row:Row):List Int:=(upto row.length).filter λy=>(row.getD y.toNat none).isSome
def Mz (T:Fk):Nat->Nat->List Int->Bool
 |0,_,_=>true
 |k+1,i,p=>match (T.getD i []).getD (Hu p (i:Int)).toNat none with
  |none=>false
  |some t=>Mz T k (i+1) (Ai p (Bg t))
def Tb (row:Row):Nat:=row.countP (·.isNone)
def aU (x:Int) (s:Row×List Int) (o:PO):Row×List Int:=
 match s.1.getD (Hu (o.getD []) x).toNat none with
 |some _=>s
 |none=>(s.1.set (Hu (o.getD []) x).toNat (some (Ai ((s.1.getD x.toNat none).getD []) (o.getD []))),s.2++ [Hu (o.getD []) x])
def aJ (x:Int) (gs:List PO) (s:Row×List Int):Row×List Int:=gs.foldl (aU x) s
def az (gs:List PO):Nat->List Int->Row->Row
 |0,_,row=>row
 |_+1,[],row=>row
 |f+1,x::q,row=>az gs f (aJ x gs (row,q)).2 (aJ x gs (row,q)).1
def Zx (gs:List PO) (row:Row):Row:=az gs 100 (No row) row
def Uy (row:Row) (y:Int) (g:PO):List Int:=
 Ai (Ai ((row.getD y.toNat none).getD []) (g.getD [])) (Bg ((row.getD (Hu (g.getD []) y).toNat none).getD []))
def gF (row:Row) (gs:List PO):List (List Int):=(No row).flatMap λy=>gs.map λg=>Uy row y g
def Ig:Nat->Nat->List Int->Fk×Fk->Fk×Fk
 |0,_,_,s=>s
 |k+1,l,p,s=>
  if Mz s.2 (k+1) l p=true then s else
   (gF (Zx (s.1.getD l []++ [some p]) (s.2.getD l [])) (s.1.getD l []++ [some p])).foldl (λs q=>Ig k (l+1) q s)
    (s.1.set l (s.1.getD l []++ [some p]),s.2.set l (Zx (s.1.getD l []++ [some p]) (s.2.getD l [])))
def Fx (l:Nat) (p:List Int):Prop:= ∀i,i<l->ap p i=i
def Gn (n:Nat) (gs:List PO):List Int->Prop:=cE n λg=>some g∈gs
structure Lvl (n l:Nat) (gs:List PO) (row:Row) (H:List Int->Prop):Prop where
 pg: ∀o∈gs,∃g,o=some g/\Pm n g/\Fx l g
 rl:row.length=n
 r0:row.getD l none=some (upto n)
 rt: ∀y t,row.getD y none=some t->Pm n t/\Fx l t/\ap t l=y/\Gn n gs t
 cl: ∀y t g,row.getD y none=some t->some g∈gs->row.getD (ap g y) none≠none
 sg: ∀y t g t',row.getD y none=some t->some g∈gs->row.getD (ap g y) none=some t'->H (Ai (Ai t g) (Bg t'))
def ky (n:Nat):Nat->Nat->Fk×Fk->Prop
 |0,l,s=>s.1.getD l []= []
 |k+1,l,s=>ky n k (l+1) s/\Lvl n l (s.1.getD l []) (s.2.getD l []) (λq=>Mz s.2 k (l+1) q=true)/\ ∀g,some g∈s.1.getD (l+1) []->Gn n (s.1.getD l []) g
theorem Ads {l1 l2:List Nat} (hn:l1.Nodup) (hs: ∀x∈l1,x∈l2) (hl:l2.length<=l1.length): ∀x∈l2,x∈l1:=by
 induction l1 generalizing l2 with
 |nil=>
  intro x hx
  have:l2= []:=Ci (by simpa using hl)
  rw [this] at hx;cases hx
 |cons a l ih=>
  intro x hx
  obtain ⟨h1,h2⟩:=Cb.1 hn
  have ha:=hs a (by simp)
  by_cases e:x=a
  ·subst e;simp
  ·refine An _ (ih (l2:=l2.erase a) h2 (λy hy=>?_) ?_ x ((List.mem_erase_of_ne e).2 hx))
   ·have hya:y≠a:= λe'=>h1 (by rw [<-e'];exact hy)
    exact (List.mem_erase_of_ne hya).2 (hs y (by simp [hy]))
   ·rw [List.length_erase_of_mem ha]
    simp only [Ay] at hl
    omega
theorem LC {n:Nat} {g:List Int} (hg:Pm n g) (D:Nat->Bool) (h: ∀y,y<n->D y=true->D (ap g y)=true) {y:Nat} (hy:y<n) (hD:D y=true): ∃x,x<n/\D x=true/\ap g x=y:=by
 have:=Ads (l1:=((List.range n).filter D).map (ap g)) (l2:=(List.range n).filter D) ?_ ?_ (by simp) y (Ce.2 ⟨Et.2 hy,hD⟩)
 ·obtain ⟨x,hx,e⟩:=Be.1 this
  obtain ⟨h1,h2⟩:=Ce.1 hx
  exact ⟨x,Et.1 h1,h2,e⟩
 ·refine List.pairwise_map.2 (List.Pairwise.imp_of_mem ?_ (List.nodup_range.filter D))
  intro a b ha hb Jd e
  exact Jd (hg.inj (Et.1 (Ce.1 ha).1) (Et.1 (Ce.1 hb).1) e)
 ·intro x hx
  obtain ⟨z,hz,rfl⟩:=Be.1 hx
  obtain ⟨h1,h2⟩:=Ce.1 hz
  exact Ce.2 ⟨Et.2 (hg.lt (Et.1 h1)),h z (Et.1 h1) h2⟩
theorem rQ {row:Row} {y:Nat} {t:List Int} (h:row.getD y none=some t):y<row.length:=by
 rw [Ah] at h
 refine Bo λhn=>?_
 rw [Eb (by omega)] at h
 cases h
theorem Lvl.pms {n l:Nat} {gs:List PO} {row:Row} {H:List Int->Prop} (h:Lvl n l gs row H):OC n λg=>some g∈gs:=by
 refine ⟨?_,λg hg=>?_⟩
 ·have:=(h.rt l _ h.r0).1
  exact ⟨this.n1,this.n2⟩
 ·obtain ⟨g',e,h1,_⟩:=h.pg _ hg
  cases e;exact h1
theorem Fx.inv {n l:Nat} {p:List Int} (hp:Pm n p) (h:Fx l p) (hl:l<=n):Fx l (Bg p):= λi hi=>by
 have:=jM hp (i:=i) (by omega)
 rwa [h i hi] at this
theorem Fx.comp {n l:Nat} {p q:List Int} (hp:Pm n p) (hq:Pm n q) (h1:Fx l p) (h2:Fx l q) (hl:l<=n):Fx l (Ai p q):= λi hi=>by
 rw [Kj hp hq (by omega),h1 i hi,h2 i hi]
theorem Fx.all {n:Nat} {p:List Int} (hp:Pm n p) (h:Fx n p):p=upto n:=hp.ext (Pm.id hp.n1 hp.n2) λi hi=>by rw [h i hi,kL hi]
theorem Fx.div {n l:Nat} {p t:List Int} (hp:Pm n p) (ht:Pm n t) (h1:Fx l p) (h2:Fx l t) (hl:l<n) (e:ap t l=ap p l):Fx (l+1) (Ai p (Bg t)):= λi hi=>by
 rw [Kj hp ht.inv (by omega)]
 by_cases hil:i<l
 ·rw [h1 i hil];exact h2.inv ht (by omega) i hil
 ·have:i=l:=by omega
  subst this
  rw [<-e,jM ht hl]
theorem nA {n:Nat} (h1:1<=n) (h2:n<=20): ∀(k l:Nat) (s:Fk×Fk),l+k=n->ky n k l s-> ∀p,Pm n p->Fx l p->(Mz s.2 k l p=true↔Gn n (s.1.getD l []) p)
 |0,l,s,hk,hc,p,hp,hf=>by
  have hl:l=n:=by omega
  subst hl
  rw [hf.all hp]
  exact ⟨λ_=> .id,λ_=>rfl⟩
 |k+1,l,s,hk,hc,p,hp,hf=>by
  obtain ⟨c1,c2,c3⟩:=hc
  have hS:=c2.pms
  have ih:=nA h1 h2 k (l+1) s (by omega) c1
  have hS1:OC n λg=>some g∈s.1.getD (l+1) []:=⟨⟨h1,h2⟩,λg hg=>(c3 g hg).pm hS⟩
  have gz:l<n:=by omega
  constructor
  ·intro h
   simp only [Mz] at h
   rw [show (Hu p (l:Int)).toNat=ap p l from rfl] at h
   split at h
   ·cases h
   ·rename_i t ht
    obtain ⟨t1,t2,t3,t4⟩:=c2.rt _ _ ht
    have hf':=Fx.div hp t1 hf t2 gz t3
    have hg:=((ih _ (hp.comp t1.inv) hf').1 h).trans hS c3
    have:=cE.comp hS hg t4
    rwa [Hb hp t1.inv t1,c7 t1,comp_id hp] at this
  ·intro h
   have key: ∀q,Gn n (s.1.getD l []) q-> ∃t,(s.2.getD l []).getD (ap q l) none=some t/\Gn n (s.1.getD (l+1) []) (Ai q (Bg t)):=by
    intro q hq
    induction hq with
    |id=>
     refine ⟨upto n,by rw [kL gz];exact c2.r0,?_⟩
     rw [KF h1 h2,comp_id (Pm.id h1 h2)]
     exact .id
    | @mul q g hq hg ihq=>
     obtain ⟨t,e1,e2⟩:=ihq
     have hqp:=cE.pm hS hq
     have Yd:=hS.2 _ hg
     obtain ⟨t1,t2,t3,t4⟩:=c2.rt _ _ e1
     cases e3:(s.2.getD l []).getD (ap g (ap q l)) none with
     |none=>exact absurd e3 (c2.cl _ _ _ e1 hg)
     |some t'=>
      obtain ⟨u1,u2,u3,u4⟩:=c2.rt _ _ e3
      have hsg:=c2.sg _ _ _ _ e1 hg e3
      have hfg:Fx (l+1) (Ai (Ai t g) (Bg t')):=Fx.div (t1.comp Yd) u1 (Fx.comp t1 Yd t2 (by obtain ⟨g',e,_,h⟩:=c2.pg _ hg;cases e;exact h) (by omega)) u2 gz (by rw [u3,Kj t1 Yd gz,t3])
      have hgn:=(ih _ ((t1.comp Yd).comp u1.inv) hfg).1 hsg
      refine ⟨t',by rw [Kj hqp Yd gz];exact e3,?_⟩
      have:=cE.comp hS1 e2 hgn
      rwa [show Ai (Ai q (Bg t)) (Ai (Ai t g) (Bg t'))=Ai (Ai q g) (Bg t') by
       rw [Hb hqp t1.inv ((t1.comp Yd).comp u1.inv),Hb t1 Yd u1.inv,<-Hb t1.inv t1 (Yd.comp u1.inv),c7 t1,id_comp (Yd.comp u1.inv),Hb hqp Yd u1.inv]] at this
    | @inv q g hq hg ihq=>
     obtain ⟨t,e1,e2⟩:=ihq
     have hqp:=cE.pm hS hq
     have Yd:=hS.2 _ hg
     obtain ⟨t1,t2,t3,t4⟩:=c2.rt _ _ e1
     have hy:ap q l<n:=hqp.lt gz
     obtain ⟨x,hx,hD,he⟩:=LC Yd (λy=>((s.2.getD l []).getD y none).isSome) (λy hy hd=>by
      obtain ⟨t0,ht0⟩:=Xv.1 hd
      exact Option.ne_none_iff_isSome.1 (c2.cl _ _ _ ht0 hg)) hy (by rw [e1];rfl)
     obtain ⟨t',e3⟩:=Xv.1 hD
     obtain ⟨u1,u2,u3,u4⟩:=c2.rt _ _ e3
     have hsg:=c2.sg _ _ _ _ e3 hg (by rw [he];exact e1)
     have hfg:Fx (l+1) (Ai (Ai t' g) (Bg t)):=Fx.div (u1.comp Yd) t1 (Fx.comp u1 Yd u2 (by obtain ⟨g',e,_,h⟩:=c2.pg _ hg;cases e;exact h) (by omega)) t2 gz (by rw [t3,Kj u1 Yd gz,u3,he])
     have hgn:=cE.rY hS1 ((ih _ ((u1.comp Yd).comp t1.inv) hfg).1 hsg)
     have hax:ap (Bg g) (ap q l)=x:=by rw [<-he,jM Yd hx]
     refine ⟨t',by rw [Kj hqp Yd.inv gz,hax];exact e3,?_⟩
     have:=cE.comp hS1 e2 hgn
     rwa [show Ai (Ai q (Bg t)) (Bg (Ai (Ai t' g) (Bg t)))=Ai (Ai q (Bg g)) (Bg t') by
      rw [inv_mul (u1.comp Yd) t1.inv,inv_inv t1,inv_mul u1 Yd,Hb hqp t1.inv (t1.comp (Yd.inv.comp u1.inv)),<-Hb t1.inv t1 (Yd.inv.comp u1.inv),c7 t1,id_comp (Yd.inv.comp u1.inv),Hb hqp Yd.inv u1.inv]] at this
   obtain ⟨t,e1,e2⟩:=key p h
   obtain ⟨t1,t2,t3,t4⟩:=c2.rt _ _ e1
   simp only [Mz]
   rw [show (Hu p (l:Int)).toNat=ap p l from rfl,e1]
   exact (ih _ (hp.comp t1.inv) (Fx.div hp t1 hf t2 gz t3)).2 e2
theorem Yu {α:Type} (xs:List α) (i j:Nat) (x d:α):(xs.set i x).getD j d=if i=j/\i<xs.length then x else xs.getD j d:=by
 rw [Ah,Ej,Ah]
 by_cases e:i=j
 ·subst e
  by_cases h:i<xs.length
  ·rw [Ab rfl,Ab h,Ab ⟨rfl,h⟩];rfl
  ·rw [Ab rfl,Aj h,Aj (λhh=>h hh.2),Eb (by omega)]
 ·rw [Aj e,Aj (λhh=>e hh.1)]
theorem cE.mono {n:Nat} {S S':List Int->Prop} (h: ∀g,S g->S' g) {p:List Int} (hp:cE n S p):cE n S' p:=by
 induction hp with
 |id=>exact .id
 |mul _ hg ih=>exact .mul ih (h _ hg)
 |inv _ hg ih=>exact .inv ih (h _ hg)
structure Yb (n l:Nat) (gs:List PO) (row:Row):Prop where
 rl:row.length=n
 r0:row.getD l none=some (upto n)
 rt: ∀y t,row.getD y none=some t->Pm n t/\Fx l t/\ap t l=y/\Gn n gs t
def PG (n l:Nat) (gs:List PO):Prop:= ∀o∈gs,∃g,o=some g/\Pm n g/\Fx l g
structure Ext (n l:Nat) (gs:List PO) (row:Row) (q:List Int) (s':Row×List Int):Prop where
 ok:Yb n l gs s'.1
 mono: ∀y t,row.getD y none=some t->s'.1.getD y none=some t
 phi:s'.2.length+Tb s'.1=q.length+Tb row
 vh: ∀y∈q,y∈s'.2
 new: ∀y∈s'.2,y∈q\/ ∃yn:Nat,y=yn/\s'.1.getD yn none≠none
 src: ∀y:Nat,s'.1.getD y none≠none->row.getD y none≠none\/(y:Int)∈s'.2
theorem Ext.refl {n l:Nat} {gs:List PO} {row:Row} {q:List Int} (h:Yb n l gs row):Ext n l gs row q (row,q):=⟨h,λ_ _ h=>h,rfl,λ_ h=>h,λ_ h=> .inl h,λ_ h=> .inl h⟩
theorem fF {a b:Row} (h: ∀y t,a.getD y none=some t->b.getD y none=some t) {y:Nat} (hy:a.getD y none≠none):b.getD y none≠none:=by
 cases e:a.getD y none with
 |none=>exact absurd e hy
 |some t=>rw [h y t e];simp
theorem Ext.trans {n l:Nat} {gs:List PO} {row:Row} {q:List Int} {s1 s2:Row×List Int} (h:Ext n l gs row q s1) (k:Ext n l gs s1.1 s1.2 s2):Ext n l gs row q s2:=by
 refine ⟨k.ok,λy t e=>k.mono y t (h.mono y t e),k.phi.trans h.phi,λy hy=>k.vh y (h.vh y hy),λy hy=>?_,λy hy=>?_⟩
 ·rcases k.new y hy with h1|h1
  ·rcases h.new y h1 with h2|⟨yn,h2,h3⟩
   ·exact .inl h2
   ·exact .inr ⟨yn,h2,fF k.mono h3⟩
  ·exact .inr h1
 ·rcases k.src y hy with h1|h1
  ·exact (h.src y h1).imp id λh2=>k.vh _ h2
  ·exact .inr h1
theorem SK {row:Row} {i:Nat} {t:List Int} (h:row.getD i none=none) (hi:i<row.length):Tb (row.set i (some t))+1=Tb row:=by
 unfold Tb
 have e:row[i]=none:=by
  rw [Ah,Ac hi] at h
  exact h
 have h1:=List.countP_set (p:= λo:PO=>o.isNone) (l:=row) (i:=i) (a:=some t) hi
 have JY:0<row.countP (·.isNone):=List.countP_pos_iff.2 ⟨row[i],Ak hi,by rw [e];rfl⟩
 rw [h1,e]
 simp
 omega
theorem Adr {n l:Nat} {gs:List PO} (gz:l<n) (hg:PG n l gs) {row:Row} {q:List Int} (h:Yb n l gs row) {x:Nat} {t:List Int} (hx:row.getD x none=some t) {g:List Int} (ho:some g∈gs):
  Ext n l gs row q (aU (x:Int) (row,q) (some g))/\(aU (x:Int) (row,q) (some g)).1.getD (ap g x) none≠none:=by
 obtain ⟨g',e,Yd,hgf⟩:=hg _ ho
 cases e
 obtain ⟨t1,t2,t3,t4⟩:=h.rt _ _ hx
 have hxn:x<n:=by rw [<-h.rl];exact rQ hx
 obtain ⟨a1,a2⟩:=Yd.aw hxn
 unfold aU
 simp only [Ct,a1,Aq]
 cases e:row.getD (ap g x) none with
 |some u=>exact ⟨Ext.refl h,by simp only;rw [e];simp⟩
 |none=>
  simp only [hx,Ct]
  have hl:ap g x<row.length:=by rw [h.rl];exact a2
  have hS:OC n λg=>some g∈gs:=⟨⟨t1.n1,t1.n2⟩,λg eT=>by obtain ⟨g',e,h1,_⟩:=hg _ eT;cases e;exact h1⟩
  have At: ∀y,(row.set (ap g x) (some (Ai t g))).getD y none=if ap g x=y/\ap g x<row.length then some (Ai t g) else row.getD y none:= λy=>Yu _ _ _ _ _
  have Jd: ∀y u,row.getD y none=some u->ap g x≠y:= λy u hu e'=>by rw [<-e',e] at hu;cases hu
  refine ⟨⟨⟨by simp [h.rl],?_,λy u hu=>?_⟩,λy u hu=>?_,?_,λy hy=>Bj _ hy,λy hy=>?_,λy hy=>?_⟩,?_⟩
  ·rw [At,Aj (λhh=>Jd l _ h.r0 hh.1)];exact h.r0
  ·rw [At] at hu
   split at hu
   ·rename_i hc
    cases hu
    exact ⟨t1.comp Yd,Fx.comp t1 Yd t2 hgf (by omega),by rw [Kj t1 Yd gz,t3];exact hc.1, .mul t4 ho⟩
   ·exact h.rt y u hu
  ·show (row.set (ap g x) (some (Ai t g))).getD y none=some u
   rw [At,Aj (λhh=>Jd y u hu hh.1)];exact hu
  ·have:=SK (t:=Ai t g) e hl
   simp only [Av,Ay,Fq]
   omega
  ·rcases Az.1 hy with hy|hy
   ·exact .inl hy
   ·simp only [Ad] at hy
    exact .inr ⟨ap g x,hy,by show (row.set (ap g x) (some (Ai t g))).getD (ap g x) none≠none;rw [At,Ab ⟨rfl,hl⟩];simp⟩
  ·have hy:(row.set (ap g x) (some (Ai t g))).getD y none≠none:=hy
   rw [At] at hy
   split at hy
   ·rename_i hc
    exact .inr (by show (y:Int)∈q++ [(ap g x:Int)];rw [<-hc.1];simp)
   ·exact .inl hy
  ·show (row.set (ap g x) (some (Ai t g))).getD (ap g x) none≠none
   rw [At,Ab ⟨rfl,hl⟩];simp
theorem ZU {n l:Nat} {gs:List PO} (gz:l<n) (hg:PG n l gs): ∀(gs':List PO) {row:Row} {q:List Int},(∀o∈gs',o∈gs)->Yb n l gs row-> ∀ {x:Nat} {t:List Int},row.getD x none=some t->
  Ext n l gs row q (aJ (x:Int) gs' (row,q))/\ ∀g,some g∈gs'->(aJ (x:Int) gs' (row,q)).1.getD (ap g x) none≠none
 | [],row,q,_,h,x,t,hx=>⟨Ext.refl h,λg hg=>by cases hg⟩
 |o::gs',row,q,hs,h,x,t,hx=>by
  obtain ⟨g,rfl,_,_⟩:=hg o (hs o (by simp))
  obtain ⟨e1,e2⟩:=Adr (q:=q) gz hg h hx (hs (some g) (by simp))
  obtain ⟨f1,f2⟩:=ZU gz hg gs' (q:=(aU (x:Int) (row,q) (some g)).2) (λo ho=>hs o (by simp [ho])) e1.ok (e1.mono x t hx)
  have hb:aJ (x:Int) (some g::gs') (row,q)=aJ (x:Int) gs' ((aU (x:Int) (row,q) (some g)).1,(aU (x:Int) (row,q) (some g)).2):=rfl
  rw [hb]
  refine ⟨e1.trans f1,λg' eT=>?_⟩
  rcases Bd.1 eT with e|eT
  ·cases e;exact fF f1.mono e2
  ·exact f2 g' eT
def QT (gs:List PO) (q:List Int) (row:Row):Prop:=
 (∀y∈q,∃yn:Nat,y=yn/\row.getD yn none≠none)/\ ∀y:Nat,row.getD y none≠none->(y:Int)∈q\/ ∀g,some g∈gs->row.getD (ap g y) none≠none
theorem LW {n l:Nat} {gs:List PO} (gz:l<n) (hg:PG n l gs) {x:Int} {q:List Int} {row:Row} (h:Yb n l gs row) (hq:QT gs (x::q) row):
  Ext n l gs row q (aJ x gs (row,q))/\QT gs (aJ x gs (row,q)).2 (aJ x gs (row,q)).1/\ ∃(xn:Nat) (t:List Int),x=xn/\row.getD xn none=some t:=by
 obtain ⟨xn,rfl,hx⟩:=hq.1 x (by simp)
 cases e:row.getD xn none with
 |none=>exact absurd e hx
 |some t=>
  obtain ⟨e1,e2⟩:=ZU gz hg gs (q:=q) (λo ho=>ho) h e
  refine ⟨e1,⟨λy hy=>?_,λy hy=>?_⟩,xn,t,rfl,e⟩
  ·rcases e1.new y hy with h1|h1
   ·obtain ⟨yn,h2,h3⟩:=hq.1 y (by simp [h1])
    exact ⟨yn,h2,fF e1.mono h3⟩
   ·exact h1
  ·rcases e1.src y hy with h1|h1
   ·rcases hq.2 y h1 with h2|h2
    ·rcases Bd.1 h2 with h2|h2
     ·have:y=xn:=by omega
      subst this
      exact .inr λg eT=>e2 g eT
     ·exact .inl (e1.vh _ h2)
    ·exact .inr λg eT=>fF e1.mono (h2 g eT)
   ·exact .inl h1
theorem Aa1 {n l:Nat} {gs:List PO} (gz:l<n) (hg:PG n l gs): ∀(f:Nat) (q:List Int) (row:Row),q.length+Tb row<=f->Yb n l gs row->QT gs q row->
  Yb n l gs (az gs f q row)/\(∀y t,row.getD y none=some t->(az gs f q row).getD y none=some t)/\ ∀y t g,(az gs f q row).getD y none=some t->some g∈gs->(az gs f q row).getD (ap g y) none≠none
 |0,q,row,hf,h,hq=>by
  have:q= []:=Ci (by omega)
  subst this
  exact ⟨h,λ_ _ h=>h,λy t g e eT=>by
   rcases hq.2 y (by rw [show row.getD y none=some t from e];simp) with h1|h1
   ·cases h1
   ·exact h1 g eT⟩
 |f+1,[],row,hf,h,hq=>⟨h,λ_ _ h=>h,λy t g e eT=>by
   rcases hq.2 y (by rw [show row.getD y none=some t from e];simp) with h1|h1
   ·cases h1
   ·exact h1 g eT⟩
 |f+1,x::q,row,hf,h,hq=>by
  obtain ⟨e1,e2,_⟩:=LW gz hg h hq
  obtain ⟨r1,r2,r3⟩:=Aa1 gz hg f _ _ (by have:=e1.phi;simp only [Ay] at hf;omega) e1.ok e2
  exact ⟨r1,λy t e=>r2 y t (e1.mono y t e),r3⟩
theorem Ve {row:Row} {y:Int} :y∈No row↔ ∃yn:Nat,y=yn/\row.getD yn none≠none:=by
 unfold No
 rw [Ce,Oi]
 constructor
 ·rintro ⟨h1,h2⟩
  exact ⟨y.toNat,by omega,Option.ne_none_iff_isSome.2 h2⟩
 ·rintro ⟨yn,rfl,h⟩
  obtain ⟨t,ht⟩:=Nu.1 h
  exact ⟨by have:=rQ ht;omega,by simpa using Option.ne_none_iff_isSome.1 h⟩
theorem zo (row:Row):(No row).length<=row.length:=by
 unfold No
 refine Kh (List.length_filter_le _ _) (by simp [upto])
theorem EZ (row:Row):Tb row<=row.length:=List.countP_le_length
theorem FF {n l:Nat} {gs:List PO} (gz:l<n) (h2:n<=20) (hg:PG n l gs) {row:Row} (h:Yb n l gs row):
  Yb n l gs (Zx gs row)/\(∀y t,row.getD y none=some t->(Zx gs row).getD y none=some t)/\ ∀y t g,(Zx gs row).getD y none=some t->some g∈gs->(Zx gs row).getD (ap g y) none≠none:=
 Aa1 gz hg 100 _ _ (by have:=zo row;have:=EZ row;have:=h.rl;omega) h ⟨λy hy=>Ve.1 hy,λy hy=> .inl (Ve.2 ⟨y,rfl,hy⟩)⟩
theorem CD {n l:Nat} {gs:List PO} (gz:l<n) (hg:PG n l gs): ∀(f:Nat) (q:List Int) (row:Row),q.length+Tb row<=f->Yb n l gs row->QT gs q row->az gs f q row=az gs (q.length+Tb row) q row
 |0,q,row,hf,_,_=>by
  have:q.length+Tb row=0:=by omega
  rw [this]
 |f+1,[],row,hf,_,_=>by
  cases h:([]:List Int).length+Tb row with
  |zero=>rfl
  |succ m=>rfl
 |f+1,x::q,row,hf,h,hq=>by
  obtain ⟨e1,e2,_⟩:=LW gz hg h hq
  have Acr:=e1.phi
  have:(x::q).length+Tb row=(q.length+Tb row)+1:=by simp only [Ay];omega
  rw [this]
  simp only [az]
  rw [CD gz hg f _ _ (by simp only [Ay] at hf;omega) e1.ok e2,Acr]
def CI (row:Row):Nat:=row.countP (·.isSome)
theorem wZ: ∀(a b:Row),a.length=b.length->(∀y t,a.getD y none=some t->b.getD y none=some t)->CI a<=CI b/\(CI a=CI b->a=b)
 | [],[],_,_=>⟨Ap _,λ_=>rfl⟩
 | [],_::_,h,_=>by simp at h
 |_::_,[],h,_=>by simp at h
 |x::a,y::b,h,hm=>by
  obtain ⟨h1,h2⟩:=wZ a b (by simpa using h) λi t e=>by simpa using hm (i+1) t (by simpa using e)
  unfold CI at h1 h2⊢
  cases x with
  |none=>
   cases y with
   |none=>simp only [List.countP_cons];exact ⟨by simpa using h1,λe=>by rw [h2 (by simpa using e)]⟩
   |some u=>
    simp only [List.countP_cons,Option.isSome_none,Option.isSome_some]
    simp only [Qi,Cz,Sm]
    exact ⟨by omega,λe=>by omega⟩
  |some t=>
   have:=hm 0 t (by simp)
   simp only [Yg] at this
   subst this
   simp only [List.countP_cons]
   exact ⟨by simpa using h1,λe=>by rw [h2 (by simpa using e)]⟩
def mu (T:Fk):Nat->Nat->Nat
 |0,_=>0
 |k+1,l=>CI (T.getD l [])+mu T k (l+1)
def GBf:Nat->Nat->Fk×Fk->Prop
 |0,_,_=>True
 |k+1,l,s=>GBf k (l+1) s/\(s.1.getD l []).length<=mu s.2 (k+1) l
structure bI (l0:Nat) (s s':Fk×Fk):Prop where
 Amh:s'.1.length=s.1.length
 tu:s'.2.length=s.2.length
 low: ∀i,i<l0->s'.1.getD i []=s.1.getD i []/\s'.2.getD i []=s.2.getD i []
 OS: ∀i o,o∈s.1.getD i []->o∈s'.1.getD i []
 Aaq: ∀i y t,(s.2.getD i []).getD y none=some t->(s'.2.getD i []).getD y none=some t
 Aie: ∀i,(s'.2.getD i []).length=(s.2.getD i []).length
theorem bI.refl (l0:Nat) (s:Fk×Fk):bI l0 s s:=⟨rfl,rfl,λ_ _=>⟨rfl,rfl⟩,λ_ _ h=>h,λ_ _ _ h=>h,λ_=>rfl⟩
theorem bI.trans {l0 l1:Nat} {a b c:Fk×Fk} (h:bI l0 a b) (k:bI l1 b c) (hl:l0<=l1):bI l0 a c:=
 ⟨k.Amh.trans h.Amh,k.tu.trans h.tu,λi hi=>⟨(k.low i (by omega)).1.trans (h.low i hi).1,(k.low i (by omega)).2.trans (h.low i hi).2⟩,λi o ho=>k.OS i o (h.OS i o ho),λi y t e=>k.Aaq i y t (h.Aaq i y t e),λi=>(k.Aie i).trans (h.Aie i)⟩
theorem bI.Jn {l0 l1:Nat} {a b:Fk×Fk} (h:bI l1 a b) (hl:l0<=l1):bI l0 a b:=(bI.refl l0 a).trans h hl
theorem iU {T T':Fk} : ∀(k l:Nat) (p:List Int),(∀i,l<=i->i<l+k->T'.getD i []=T.getD i [])->Mz T' k l p=Mz T k l p
 |0,_,_,_=>rfl
 |k+1,l,p,h=>by
  simp only [Mz]
  rw [h l (Ap _) (by omega)]
  split
  ·rfl
  ·exact iU k (l+1) _ λi h1 h2=>h i (by omega) (by omega)
theorem lW {n:Nat} {s s':Fk×Fk} : ∀(k l:Nat),(∀i,l<=i->s'.1.getD i []=s.1.getD i []/\s'.2.getD i []=s.2.getD i [])->ky n k l s->ky n k l s'
 |0,l,h,hc=>by simp only [ky] at hc⊢;rw [(h l (Ap _)).1];exact hc
 |k+1,l,h,hc=>by
  simp only [ky] at hc⊢
  obtain ⟨c1,c2,c3⟩:=hc
  refine ⟨lW k (l+1) (λi hi=>h i (by omega)) c1,?_,?_⟩
  ·rw [(h l (Ap _)).1,(h l (Ap _)).2]
   have e:(λq=>Mz s'.2 k (l+1) q=true)= λq=>Mz s.2 k (l+1) q=true:=funext λq=>by rw [iU k (l+1) q λi h1 h2=>(h i (by omega)).2]
   rw [e];exact c2
  ·rw [(h (l+1) (by omega)).1,(h l (Ap _)).1];exact c3
theorem xF {T T':Fk} : ∀(k l:Nat),(∀i,l<=i->T'.getD i []=T.getD i [])->mu T' k l=mu T k l
 |0,_,_=>rfl
 |k+1,l,h=>by simp only [mu];rw [h l (Ap _),xF k (l+1) λi hi=>h i (by omega)]
theorem sO {s s':Fk×Fk} : ∀(k l:Nat),(∀i,l<=i->s'.1.getD i []=s.1.getD i []/\s'.2.getD i []=s.2.getD i [])->GBf k l s->GBf k l s'
 |0,_,_,_=>trivial
 |k+1,l,h,hg=>⟨sO k (l+1) (λi hi=>h i (by omega)) hg.1,by
  rw [(h l (Ap _)).1,xF (k+1) l λi hi=>(h i hi).2];exact hg.2⟩
theorem GA {T T':Fk} (hl: ∀i,(T'.getD i []).length=(T.getD i []).length) (hm: ∀i y t,(T.getD i []).getD y none=some t->(T'.getD i []).getD y none=some t):
  ∀(k l:Nat),mu T k l<=mu T' k l/\(mu T k l=mu T' k l-> ∀i,l<=i->i<l+k->T'.getD i []=T.getD i [])
 |0,l=>⟨Ap _,λ_ i h1 h2=>by omega⟩
 |k+1,l=>by
  obtain ⟨h1,h2⟩:=GA hl hm k (l+1)
  obtain ⟨h3,h4⟩:=wZ (T.getD l []) (T'.getD l []) (hl l).symm (hm l)
  simp only [mu]
  refine ⟨by omega,λe i g1 g2=>?_⟩
  by_cases hi:i=l
  ·subst hi;exact (h4 (by omega)).symm
  ·exact h2 (by omega) i (by omega) (by omega)
def V (n k l:Nat) (s:Fk×Fk):Prop:=s.1.length=n/\s.2.length=n/\ky n k l s/\GBf k l s
structure Aju (n k l:Nat) (s:Fk×Fk) (p:List Int) (s':Fk×Fk):Prop where
 v:V n k l s'
 grow:bI l s s'
 Ama:Gn n (s'.1.getD l []) p
 gens: ∀o∈s'.1.getD l [],o∈s.1.getD l []\/o=some p
theorem Lvl.row {n l:Nat} {gs:List PO} {row:Row} {H:List Int->Prop} (h:Lvl n l gs row H):Yb n l gs row:=⟨h.rl,h.r0,h.rt⟩
theorem jv {row:Row} {y:Nat} {t g t':List Int} (h1:row.getD y none=some t) (h2:row.getD (ap g y) none=some t'):Uy row (y:Int) (some g)=Ai (Ai t g) (Bg t'):=by
 unfold Uy
 rw [Aq,h1,Ct,Ct,show (Hu g (y:Int)).toNat=ap g y from rfl,h2,Ct]
theorem pf {n l:Nat} {gs:List PO} {row:Row} (hg:PG n l gs) (_h:Yb n l gs row) (hc: ∀y t g,row.getD y none=some t->some g∈gs->row.getD (ap g y) none≠none) {q:List Int} :
  q∈gF row gs↔ ∃(y:Nat) (t g t':List Int),row.getD y none=some t/\some g∈gs/\row.getD (ap g y) none=some t'/\q=Ai (Ai t g) (Bg t'):=by
 unfold gF
 rw [He]
 constructor
 ·rintro ⟨y,hy,hq⟩
  obtain ⟨o,ho,rfl⟩:=Be.1 hq
  obtain ⟨yn,rfl,hyn⟩:=Ve.1 hy
  obtain ⟨t,ht⟩:=Nu.1 hyn
  obtain ⟨g,rfl,Yd,_⟩:=hg o ho
  obtain ⟨t',KA⟩:=Nu.1 (hc yn t g ht ho)
  exact ⟨yn,t,g,t',ht,ho,KA,jv ht KA⟩
 ·rintro ⟨y,t,g,t',h1,h2,h3,rfl⟩
  obtain ⟨g',e,Yd,_⟩:=hg _ h2
  cases e
  exact ⟨(y:Int),Ve.2 ⟨y,rfl,by rw [h1];simp⟩,Be.2 ⟨some g,h2,jv h1 h3⟩⟩
theorem yo {n:Nat} (h1:1<=n) (h2:n<=20): ∀(k l:Nat) (p:List Int) (s:Fk×Fk),l+k=n->V n k l s->Pm n p->Fx l p->Aju n k l s p (Ig k l p s)
 |0,l,p,s,hk,hv,hp,hf=>by
  have hl:l=n:=by omega
  subst hl
  exact ⟨hv,bI.refl _ _,by rw [hf.all hp];exact .id,λo ho=> .inl ho⟩
 |k+1,l,p,s,hk,hv,hp,hf=>by
  have gz:l<n:=by omega
  obtain ⟨v1,v2,hc,VK⟩:=hv
  have kC:=hc
  obtain ⟨c1,c2,c3⟩:=hc
  unfold Ig
  by_cases hh:Mz s.2 (k+1) l p=true
  ·rw [Ab hh]
   exact ⟨⟨v1,v2,kC,VK⟩,bI.refl _ _,(nA h1 h2 (k+1) l s hk kC p hp hf).1 hh,λo ho=> .inl ho⟩
  rw [Aj hh]
  generalize OW:s.1.getD l []++ [some p]=gs
  have dy:some p∈gs:=by rw [<-OW];simp
  have Yw: ∀o∈s.1.getD l [],o∈gs:= λo ho=>by rw [<-OW];exact Bj _ ho
  have hg:PG n l gs:= λo ho=>by
   rw [<-OW] at ho
   rcases Az.1 ho with ho|ho
   ·exact c2.pg o ho
   ·rw [Ad] at ho;exact ⟨p,ho,hp,hf⟩
  have Alm:Yb n l gs (s.2.getD l []):=⟨c2.rl,c2.r0,λy t e=>⟨(c2.rt y t e).1,(c2.rt y t e).2.1,(c2.rt y t e).2.2.1,(c2.rt y t e).2.2.2.mono λg hg=>Yw _ hg⟩⟩
  obtain ⟨r1,r2,r3⟩:=FF gz h2 hg Alm
  generalize hR:Zx gs (s.2.getD l [])=R at r1 r2 r3
  have hS:OC n λg=>some g∈gs:=⟨⟨h1,h2⟩,λg eT=>by obtain ⟨g',e,h,_⟩:=hg _ eT;cases e;exact h⟩
  have s11: ∀i,((s.1.set l gs).getD i []=if i=l then gs else s.1.getD i [])/\(s.2.set l R).getD i []=if i=l then R else s.2.getD i []:= λi=>by
   rw [Yu,Yu]
   by_cases e:l=i
   ·subst e;rw [Ab ⟨rfl,by omega⟩,Ab rfl,Ab ⟨rfl,by omega⟩,Ab rfl];exact ⟨rfl,rfl⟩
   ·rw [Aj (λhh=>e hh.1),Aj (Hm e),Aj (λhh=>e hh.1),Aj (Hm e)];exact ⟨rfl,rfl⟩
  have hup: ∀i,l+1<=i->(s.1.set l gs).getD i []=s.1.getD i []/\(s.2.set l R).getD i []=s.2.getD i []:= λi hi=>by
   rw [(s11 i).1,(s11 i).2,Aj (by omega),Aj (by omega)];exact ⟨rfl,rfl⟩
  have gY:V n k (l+1) (s.1.set l gs,s.2.set l R):=⟨by simpa using v1,by simpa using v2,lW k (l+1) hup c1,sO k (l+1) hup VK.1⟩
  have Agr:bI l s (s.1.set l gs,s.2.set l R):=by
   refine ⟨by simp,by simp,λi hi=>?_,λi o ho=>?_,λi y t e=>?_,λi=>?_⟩
   ·rw [(s11 i).1,(s11 i).2,Aj (by omega),Aj (by omega)];exact ⟨rfl,rfl⟩
   ·rw [(s11 i).1]
    split
    ·rename_i hi;subst hi;exact Yw o ho
    ·exact ho
   ·rw [(s11 i).2]
    split
    ·rename_i hi;subst hi;exact r2 y t e
    ·exact e
   ·rw [(s11 i).2]
    split
    ·rename_i hi;subst hi;rw [r1.rl,c2.rl]
    ·rfl
  have hq: ∀q∈gF R gs,Pm n q/\Fx (l+1) q/\Gn n gs q:= λq hq=>by
   obtain ⟨y,t,g,t',e1,e2,e3,rfl⟩:=(pf hg r1 r3).1 hq
   obtain ⟨t1,t2,t3,t4⟩:=r1.rt _ _ e1
   obtain ⟨u1,u2,u3,u4⟩:=r1.rt _ _ e3
   obtain ⟨g',e,Yd,hgf⟩:=hg _ e2
   cases e
   exact ⟨(t1.comp Yd).comp u1.inv,Fx.div (t1.comp Yd) u1 (Fx.comp t1 Yd t2 hgf (by omega)) u2 gz (by rw [u3,Kj t1 Yd gz,t3]),cE.comp hS (.mul t4 e2) (cE.rY hS u4)⟩
  have fold: ∀(qs:List (List Int)) (s1:Fk×Fk),(∀q∈qs,Pm n q/\Fx (l+1) q)->V n k (l+1) s1->
    V n k (l+1) (qs.foldl (λs q=>Ig k (l+1) q s) s1)/\bI (l+1) s1 (qs.foldl (λs q=>Ig k (l+1) q s) s1)/\
     (∀q∈qs,Gn n ((qs.foldl (λs q=>Ig k (l+1) q s) s1).1.getD (l+1) []) q)/\ ∀o∈(qs.foldl (λs q=>Ig k (l+1) q s) s1).1.getD (l+1) [],o∈s1.1.getD (l+1) []\/ ∃q∈qs,o=some q:=by
   intro qs
   induction qs with
   |nil=>exact λs1 _ hv=>⟨hv,bI.refl _ _,(λq hq=>by cases hq),λo ho=>Or.inl ho⟩
   |cons q qs ih=>
    intro s1 hqs hv
    have ha:=yo h1 h2 k (l+1) q s1 (by omega) hv (hqs q (by simp)).1 (hqs q (by simp)).2
    obtain ⟨g1,g2,g3,g4⟩:=ih (Ig k (l+1) q s1) (λq' jW=>hqs q' (by simp [jW])) ha.v
    simp only [On]
    refine ⟨g1,ha.grow.trans g2 (Ap _),λq' jW=>?_,λo ho=>?_⟩
    ·rcases Bd.1 jW with rfl|jW
     ·exact ha.Ama.mono λg hg=>g2.OS _ _ hg
     ·exact g3 q' jW
    ·rcases g4 o ho with h|⟨q',jW,h⟩
     ·rcases ha.gens o h with h|h
      ·exact .inl h
      ·exact .inr ⟨q,by simp,h⟩
     ·exact .inr ⟨q',by simp [jW],h⟩
  obtain ⟨f1,f2,f3,f4⟩:=fold (gF R gs) (s.1.set l gs,s.2.set l R) (λq h=>⟨(hq q h).1,(hq q h).2.1⟩) gY
  generalize (gF R gs).foldl (λs q=>Ig k (l+1) q s) (s.1.set l gs,s.2.set l R)=s' at f1 f2 f3 f4
  obtain ⟨w1,w2,w3,w4⟩:=f1
  have el1:s'.1.getD l []=gs:=by rw [(f2.low l (by omega)).1,(s11 l).1,Ab rfl]
  have el2:s'.2.getD l []=R:=by rw [(f2.low l (by omega)).2,(s11 l).2,Ab rfl]
  have XD:=Agr.trans f2 (by omega)
  have Ar2:Lvl n l gs R (λq=>Mz s'.2 k (l+1) q=true):=⟨hg,r1.rl,r1.r0,r1.rt,r3,λy t g t' e1 e2 e3=>by
   have hm:=(pf hg r1 r3).2 ⟨y,t,g,t',e1,e2,e3,rfl⟩
   exact (nA h1 h2 k (l+1) s' (by omega) w3 _ (hq _ hm).1 (hq _ hm).2.1).2 (f3 _ hm)⟩
  have Aet:ky n (k+1) l s':=⟨w3,by rw [el1,el2];exact Ar2,λg eT=>by
   rw [el1]
   rcases f4 _ eT with h|⟨q,jW,h⟩
   ·rw [(hup (l+1) (Ap _)).1] at h
    exact (c3 g h).mono λg hg=>Yw _ hg
   ·cases h;exact (hq _ jW).2.2⟩
  have aL:Gn n (s'.1.getD l []) p:=by rw [el1];exact cE.one hS dy
  refine ⟨⟨w1,w2,Aet,w4,?_⟩,XD,aL,λo ho=>?_⟩
  ·have hold:=VK.2
   obtain ⟨p1,p2⟩:=GA XD.Aie XD.Aaq (k+1) l
   have Jd:mu s.2 (k+1) l≠mu s'.2 (k+1) l:= λe=>by
    have:=iU (k+1) l p (p2 e)
    rw [(nA h1 h2 (k+1) l s' hk Aet p hp hf).2 aL] at this
    exact hh this.symm
   rw [el1,<-OW,Av,Cc]
   omega
  ·rw [el1,<-OW] at ho
   rcases Az.1 ho with ho|ho
   ·exact .inl ho
   ·rw [Ad] at ho;exact .inr ho
theorem ZR {n l:Nat} {gs:List PO} {R:Row} (gz:l<n) (hg:PG n l gs) (r1:Yb n l gs R) (r3: ∀y t g,R.getD y none=some t->some g∈gs->R.getD (ap g y) none≠none): ∀q∈gF R gs,Pm n q/\Fx (l+1) q:=by
 intro q hq
 obtain ⟨y,t,g,t',e1,e2,e3,rfl⟩:=(pf hg r1 r3).1 hq
 obtain ⟨t1,t2,t3,t4⟩:=r1.rt _ _ e1
 obtain ⟨u1,u2,u3,u4⟩:=r1.rt _ _ e3
 obtain ⟨g',e,Yd,hgf⟩:=hg _ e2
 cases e
 exact ⟨(t1.comp Yd).comp u1.inv,Fx.div (t1.comp Yd) u1 (Fx.comp t1 Yd t2 hgf (by omega)) u2 gz (by rw [u3,Kj t1 Yd gz,t3])⟩
theorem V.lower {n k l:Nat} {s:Fk×Fk} (h:V n (k+1) l s) (gs:List PO) (R:Row):V n k (l+1) (s.1.set l gs,s.2.set l R):=by
 obtain ⟨v1,v2,hc,VK⟩:=h
 have hup: ∀i,l+1<=i->(s.1.set l gs).getD i []=s.1.getD i []/\(s.2.set l R).getD i []=s.2.getD i []:= λi hi=>by
  rw [Yu,Yu,Aj (by omega),Aj (by omega)];exact ⟨rfl,rfl⟩
 exact ⟨by simpa using v1,by simpa using v2,lW k (l+1) hup hc.1,sO k (l+1) hup VK.1⟩
theorem OO {n k l:Nat} (h1:1<=n) (h2:n<=20) (hk:l+k=n): ∀(qs:List (List Int)) (s1:Fk×Fk),(∀q∈qs,Pm n q/\Fx l q)->V n k l s1->
  V n k l (qs.foldl (λs q=>Ig k l q s) s1)/\bI l s1 (qs.foldl (λs q=>Ig k l q s) s1)
 | [],s1,_,hv=>⟨hv,bI.refl _ _⟩
 |q::qs,s1,hqs,hv=>by
  have ha:=yo h1 h2 k l q s1 hk hv (hqs q (by simp)).1 (hqs q (by simp)).2
  obtain ⟨g1,g2⟩:=OO h1 h2 hk qs (Ig k l q s1) (λq' jW=>hqs q' (by simp [jW])) ha.v
  exact ⟨g1,ha.grow.trans g2 (Ap _)⟩
theorem ZT {n:Nat} {s:Fk×Fk} : ∀(k l:Nat),ky n k l s->mu s.2 k l<=n*k
 |0,_,_=>by simp [mu]
 |k+1,l,hc=>by
  have h1:=ZT k (l+1) hc.1
  have h2:CI (s.2.getD l [])<=n:=by
   have:=hc.2.1.rl
   have h3:CI (s.2.getD l [])<=(s.2.getD l []).length:=List.countP_le_length
   omega
  simp only [mu]
  rw [Nat.mul_succ]
  omega
theorem Ac9 {n k l:Nat} {s:Fk×Fk} (h2:n<=20) (hk:l+(k+1)=n) (h:V n (k+1) l s):(s.1.getD l []).length<=400:=by
 have h3:=h.2.2.2.2
 have h4:=ZT (k+1) l h.2.2.1
 have h5:n*(k+1)<=20*20:=Nat.mul_le_mul h2 (by omega)
 omega
theorem V.lvl {n k l:Nat} {s:Fk×Fk} (h:V n (k+1) l s):Lvl n l (s.1.getD l []) (s.2.getD l []) (λq=>Mz s.2 k (l+1) q=true):=h.2.2.1.2.1
theorem V.pg {n k l:Nat} {s:Fk×Fk} (h:V n (k+1) l s) {p:List Int} (hp:Pm n p) (hf:Fx l p):PG n l (s.1.getD l []++ [some p]):= λo ho=>by
 rcases Az.1 ho with ho|ho
 ·exact h.lvl.pg o ho
 ·rw [Ad] at ho;exact ⟨p,ho,hp,hf⟩
theorem V.Asf {n k l:Nat} {s:Fk×Fk} (h:V n (k+1) l s) (p:List Int):Yb n l (s.1.getD l []++ [some p]) (s.2.getD l []):=
 ⟨h.lvl.rl,h.lvl.r0,λy t e=>⟨(h.lvl.rt y t e).1,(h.lvl.rt y t e).2.1,(h.lvl.rt y t e).2.2.1,(h.lvl.rt y t e).2.2.2.mono λ_ hg=>Bj _ hg⟩⟩
theorem w8 {α:Type} (xs:List (List α)) (i:Nat) (h:i<xs.length):xs.set i (xs.getD i [])=xs:=by
 refine List.ext_getElem (by simp) λj h1 h2=>?_
 rw [List.getElem_set]
 split
 ·rename_i e;subst e;rw [Ah,Ac h];rfl
 ·rfl
theorem kV {α:Type} (xs:List (List α)) (i:Nat) (h:i<xs.length) (r:List α):(xs.set i r).getD i []=r:=by
 rw [Yu,Ab ⟨rfl,h⟩]
noncomputable abbrev Rr:MSpec:=lg [none] [(false, .Ft tLO)] false [none] [.row tI 2] (λx=>List.length x.1<=20) (λx=>((No x.1,()),()))
noncomputable abbrev Ze:Spec:=Gu (.pair tL (.pair tL .unit)) tO false true (λx=>(0<x.1.length/\x.1.length<=20)/\Og x.2.1.length x.1) (λx=>some (Ai x.1 x.2.1))
noncomputable abbrev fV:Spec:=Gu (.pair tL (.pair tL .unit)) tL false false (λx=>x.1.length<=20/\Og x.2.1.length x.1) (λx=>Ai x.1 x.2.1)
noncomputable abbrev Wc:Spec:=Gu (.pair tI .unit) tL false true (λx=>0<=x.1/\x.1<=20) (λx=>upto x.1.toNat)
noncomputable abbrev dc:Spec:=Gu (.pair tI .unit) tO false true (λx=>1<=x.1/\x.1<=20) (λx=>some (upto x.1.toNat))
abbrev teG:TypeId:=27
structure s9 (N L:Nat) (n:Int) (G T:Fk) (l:Int) (p:List Int):Prop where
 n1:1<=N
 n2:N<=20
 en:n=N
 el:l=L
 le:L<=N
 v:V N (N-L) L (G,T)
 pm:Pm N p
 fx:Fx L p
noncomputable abbrev o6:Spec:=Gu (.pair (.ptr AO) (.pair tI (.pair tL .unit))) .bool false true (λx=> ∃N L,s9 N L x.1.1 x.1.2.1 x.1.2.2.1 x.2.1 x.2.2.1) (λx=>Mz x.1.2.2.1 (x.1.1-x.2.1).toNat x.2.1.toNat x.2.2.1)
noncomputable abbrev Afl:MSpec:= {ptr:=some (165,3),Jl:= [none,none],ins:= [(false, .Ft tI),(false, .Bp tO teG true),(false, .Bp tO teG true),(false, .Ft tI),(false, .Ft tO)],Im:=false,Ip:= [],outs:= [.Ft tI, .Bp tO teG false, .Bp tO teG false],fn:= λ_=>none,keeps:= [(1,1),(2,2)],Fw:= λx=>x.2.2.2.1.toNat}
noncomputable abbrev Xj (m:Nat):MSpec:=lf Afl (λx=>(∃N L q,x.2.2.2.2.1=some q/\s9 N L x.1 x.2.1 x.2.2.1 x.2.2.2.1 q)/\(x.1-x.2.2.2.1).toNat<m)
 (λx=>((x.1,(Ig (x.1-x.2.2.2.1).toNat x.2.2.2.1.toNat (x.2.2.2.2.1.getD []) (x.2.1,x.2.2.1)).1,(Ig (x.1-x.2.2.2.1).toNat x.2.2.2.1.toNat (x.2.2.2.2.1.getD []) (x.2.1,x.2.2.1)).2,()),()))
theorem HK (n:Int) (P:List Int->Prop):(((0:Int)<=n/\n<(↑Cn:Int)+(1:Int))/\n=n/\0=0/\(List.replicate n.toNat (Int.ofNat (nat_lit 0))).length=(List.replicate n.toNat (Int.ofNat (nat_lit 0))).length/\Dl (λ(v2:Int×List Int×PUnit) (k3:Int×List Int×PUnit->Prop)=>Br (decide (v2.1<(↑(List.replicate n.toNat (Int.ofNat (nat_lit 0))).length:Int))) (((0:Int)<=v2.1/\v2.1<(↑v2.2.1.length:Int))/\0+v2.1.toNat<v2.2.1.length/\0=0/\v2.2.1.length=(v2.2.1.set (0+v2.1.toNat) v2.1).length/\k3 (IntKind.i64.wrap (v2.1+(1:Int)),v2.2.1.set (0+v2.1.toNat) v2.1,())) (P (List.take v2.2.1.length (List.drop 0 v2.2.1)))) ((0:Int),List.replicate n.toNat (Int.ofNat (nat_lit 0)),PUnit.unit))=fnW Fz (look []) Wc Tryz.f133 (n,()) P:=by kernel_rfl
theorem UZ (row:List (Option (List Int))) (P:(List Int×Unit)×Unit->Prop):(0=0/\0=([]:List Int).length/\Dl (λ(v2:Int×List Int×PUnit) (k3:Int×List Int×PUnit->Prop)=>Br (decide (v2.1<(↑row.length:Int))) (∃(y4:Option (List Int)),idx row v2.1=some y4/\Br (!y4.isNone) (0=0/\v2.2.1.length=v2.2.1.length/\v2.2.1.length+(List.take 1 (List.drop 0 [v2.1])).length<=Cn/\0=0/\(v2.2.1++List.take 1 (List.drop 0 [v2.1])).length=(v2.2.1++List.take 1 (List.drop 0 [v2.1])).length/\k3 (IntKind.i64.wrap (v2.1+(1:Int)),v2.2.1++List.take 1 (List.drop 0 [v2.1]),())) (0=0/\v2.2.1.length=v2.2.1.length/\k3 (IntKind.i64.wrap (v2.1+(1:Int)),v2.2.1,()))) (P ((List.take v2.2.1.length (List.drop 0 v2.2.1),()),()))) ((0:Int),[],PUnit.unit))=fnMW bk (look []) Rr Tryz.f178 (row,()) P:=by kernel_rfl
theorem Ang (c:Int×List (List (Option (List Int)))×List (List (Option (List Int)))×Unit) (l:Int) (p:List Int) (P:Bool->Prop):(Dl (λ(v4:List Int×Int×PUnit) (k5:List Int×Int×PUnit->Prop)=>Br (decide (v4.2.1<c.1)) (∃(y6:List (Option (List Int))),idx c.2.2.1 v4.2.1=some y6/\ ∃(y7:Int),idx v4.1 v4.2.1=some y7/\ ∃(y8:Option (List Int)),idx y6 y7=some y8/\Br y8.isNone (P false) (∃(y9:List Int),Gv.fn (y8.getD [],())=some y9/\ ∃(Ki:List Int),fV.fn (v4.1,y9,())=some Ki/\k5 (Ki,IntKind.i64.wrap (v4.2.1+(1:Int)),()))) (P true)) (p,l,PUnit.unit))=fnW bk (look [(58,Gv),(134,fV)]) o6 Tryz.f158 (c,l,p,()) P:=by kernel_rfl
theorem Sound.loose {P:Program} {f:FuncId} {arg res:Ty} {pre:arg.den->Prop} {val:arg.den->res.den} (h:Sound P f (Go.Proofs.YtkkdpknjohcekaaGreat.Gu arg res false true pre val)):Sound P f (Go.Proofs.YtkkdpknjohcekaaGreat.Gu arg res false false pre val):=
 ⟨h.enter,λw S vs x y h1 h2 h3=>Calls.mono (h.calls w S vs x y h1 h2 h3) λe' w' hr=>by
  obtain ⟨v,g1,g2,g3⟩:=hr
  exact ⟨v,g1,g2,Cu.Jn (S:= λb=>S b\/(true=true/\b<w.heap.size)) g3 λk _ hk=>hk.elim .inl λhh=>absurd (show false=true from hh.1) (by simp)⟩⟩
theorem uq:Sound Tryz.prog 134 fV:=Sound.loose Xo
theorem ur:Sound Tryz.prog 134 Ze:=Sound.toO Xo λx h=>⟨⟨h.1.2,h.2⟩,λe=>by
 have:=Sp x.1 x.2.1
 rw [e] at this
 have:=h.1.1
 simp only [Fq] at*
 omega⟩
theorem FJ (n:Int) (h:0<=n/\n<=20):fnW Fz (look []) Wc Tryz.f133 (n,()) (λ(z:List Int)=>z=upto n.toNat):=by
 refine Eq.mp (HK n _) ⟨⟨by omega,by show n<(4294967296:Int)+1;omega⟩,rfl,rfl,rfl,?_⟩
 refine Bw n.toNat (λv=>v.1) (λj v=>v.2.1.length=n.toNat/\v.2.1.take j=upto j) rfl ⟨by simp,by simp [upto]⟩ ?_
 rintro j ⟨i,ys,⟨⟩⟩ K hj hi ⟨h1,h2⟩ hK
 dsimp only at hi h1 h2⊢
 subst hi
 rw [Ix]
 simp only [Aq,Bu]
 refine Br.dec (λhl=>⟨⟨by omega,by omega⟩,by omega,trivial,by rw [Dg],?_⟩) λhl=>?_
 ·rw [Bv (by omega)]
  refine hK (by omega) _ rfl ⟨by rw [Dg];exact h1,?_⟩
  rw [Gi,List.take_set_of_le (by omega),h2,List.getElem?_set_self (by omega),bG]
  rfl
 ·have:j=ys.length:=by omega
  subst this
  rw [Ax] at h2
  rw [Ds,Ax,h2,h1]
theorem gL:Sound Tryz.prog 133 Wc:=
 Sound.Gu Dq Bn mixed Tryz.func133 (by kernel_rfl) (by kernel_rfl) λx h=>FJ x.1 h
theorem Adz {n:Int} (h:1<=n/\n<=20):(0<=n/\n<=20)/\upto n.toNat≠ []:=⟨by omega,λe=>by
 have:=Dk List.length e
 simp [upto] at this
 omega⟩
theorem rv:Sound Tryz.prog 133 dc:=Sound.toO gL λ_ h=>Adz h
theorem FE {row:Row} {j:Nat} :(upto (j+1)).filter (λy=>(row.getD y.toNat none).isSome)=(upto j).filter (λy=>(row.getD y.toNat none).isSome)++if (row.getD j none).isSome=true then [(j:Int)] else []:=by
 rw [bG,List.filter_append]
 congr 1
 simp only [List.filter_cons,List.filter_nil,Aq]
theorem TB (row:List (Option (List Int))) (h:List.length row<=20):fnMW bk (look []) Rr Tryz.f178 (row,()) (λ(z:(List Int×Unit)×Unit)=>z=((No row,()),())):=by
 refine Eq.mp (UZ row _) ⟨rfl,rfl,?_⟩
 refine Bw row.length (λv=>v.1) (λj v=>v.2.1=(upto j).filter (λy=>(row.getD y.toNat none).isSome)) rfl rfl ?_
 rintro j ⟨i,ys,⟨⟩⟩ K hj hi h1 hK
 dsimp only at hi h1⊢
 subst hi
 refine Br.dec (λhl=>?_) λhl=>?_
 ·have hl:j<row.length:=by omega
  have hlen:ys.length<=j:=by rw [h1];refine Kh (List.length_filter_le _ _) (by simp [upto])
  have hg:row.getD j none=row[j]:=by rw [Ah,Ac hl];rfl
  refine ⟨_,Cd hl,Br.of (λhb=>⟨rfl,rfl,?_,rfl,rfl,?_⟩) λhb=>⟨rfl,rfl,?_⟩⟩
  ·show ys.length+1<=4294967296
   omega
  ·rw [Bv (by omega)]
   refine hK hl _ rfl ?_
   show ys++ [(j:Int)]=_
   rw [FE,hg,h1,Ab (by cases e:row[j] with
    |none=>rw [e] at hb;simp at hb
    |some t=>rfl)]
  ·rw [Bv (by omega)]
   refine hK hl _ rfl ?_
   show ys=_
   rw [FE,hg,h1,Aj (by cases e:row[j] with
    |none=>simp
    |some t=>rw [e] at hb;simp at hb),List.append_nil]
 ·have:j=row.length:=by omega
  subst this
  rw [Ds,Ax,h1]
  rfl
theorem lp:Dc Tryz.prog 178 Rr:=
 Dc.lg pP Bn mixed Tryz.func178 (by kernel_rfl) (by kernel_rfl) λx h=>TB x.1 h
theorem mU {n:Nat} {s:Fk×Fk} : ∀(k l:Nat),ky n k l s-> ∀i,l<=i->i<l+k->Lvl n i (s.1.getD i []) (s.2.getD i []) (λq=>Mz s.2 (l+k-i-1) (i+1) q=true)
 |0,_,_,i,h1,h2=>by omega
 |k+1,l,hc,i,h1,h2=>by
  obtain ⟨c1,c2,_⟩:=hc
  by_cases e:i=l
  ·subst e
   rw [show i+(k+1)-i-1=k by omega]
   exact c2
  ·have:=mU k (l+1) c1 i (by omega) (by omega)
   rwa [show l+1+k-i-1=l+(k+1)-i-1 by omega] at this
theorem DD {α:Type} {xs:List (List α)} {i:Nat} (h:i<xs.length):xs.getD i []=xs[i]:=by
 rw [Ah,Ac h];rfl
theorem WO {α:Type} {xs:List (Option α)} {i:Nat} (h:i<xs.length):xs.getD i none=xs[i]:=by
 rw [Ah,Ac h];rfl
theorem Pm.row {n:Nat} {p:List Int} (h:Pm n p):Og n p:=by
 have:=h.2.row
 rwa [h.1] at this
theorem Amr (c:Int×List (List (Option (List Int)))×List (List (Option (List Int)))×Unit) (l:Int) (p:List Int) (h: ∃N L,s9 N L c.1 c.2.1 c.2.2.1 l p):
  fnW bk (look [(58,Gv),(134,fV)]) o6 Tryz.f158 (c,l,p,()) (λ(z:Bool)=>z=Mz c.2.2.1 (c.1-l).toNat l.toNat p):=by
 obtain ⟨n,G,T,⟨⟩⟩:=c
 obtain ⟨N,L,h⟩:=h
 obtain ⟨n1,n2,en,el,hle,v,pm,fx⟩:=h
 dsimp only at en el v⊢
 subst en el
 refine Eq.mp (Ang ((N:Int),G,T,()) (L:Int) p _) ?_
 obtain ⟨v1,v2,v3,v4⟩:=v
 dsimp only at v1 v2
 refine ⟨λv=> ∃i:Nat,L<=i/\i<=N/\v.2.1=i/\Pm N v.1/\Fx i v.1/\Mz T (N-i) i v.1=Mz T (N-L) L p,λv=>N-v.2.1.toNat,⟨L,Ap _,hle,rfl,pm,fx,rfl⟩,?_⟩
 rintro ⟨p',i',⟨⟩⟩ ⟨i,h1,h2,h3,h4,h5,h6⟩
 dsimp only at h3 h4 h5 h6⊢
 subst h3
 rw [show (((N:Int)-(L:Int)).toNat)=N-L by omega,show ((L:Int)).toNat=L by omega,<-h6]
 refine Br.dec (λhl=>?_) λhl=>?_
 ·have hl:i<N:=by omega
  have bd:=mU (N-L) L v3 i h1 (by omega)
  obtain ⟨a1,a2⟩:=h4.aw hl
  have hT:i<T.length:=by omega
  have hlen:T[i].length=N:=by have:=bd.rl;dsimp only at this;rwa [DD hT] at this
  refine ⟨_,Cd hT,_,Cd (by rw [h4.1];exact hl),?_⟩
  have e1:p'[i]'(by rw [h4.1];exact hl)=(ap p' i:Int):=by rw [<-a1,La]
  rw [e1]
  refine ⟨_,Cd (by omega),?_⟩
  have e2:N-i=(N-i-1)+1:=by omega
  have e3:(T.getD i []).getD (Hu p' (i:Int)).toNat none=T[i][ap p' i]'(by omega):=by
   rw [DD hT];exact WO (by show ap p' i<_;omega)
  rw [e2]
  simp only [Mz,e3]
  refine Br.of (λhb=>?_) λhb=>?_
  ·cases e:T[i][ap p' i]'(by omega) with
   |none=>rfl
   |some t=>rw [e] at hb;simp at hb
  ·cases e:T[i][ap p' i]'(by omega) with
   |none=>rw [e] at hb;simp at hb
   |some t=>
    have ht:(T.getD i []).getD (ap p' i) none=some t:=by rw [<-e];exact e3
    obtain ⟨t1,t2,t3,t4⟩:=bd.rt _ _ ht
    simp only [Ct]
    refine ⟨_,Ab ⟨by show t.length<=20;rw [t1.1];exact n2,t1.2.row⟩,_,Ab ⟨by show p'.length<=20;rw [h4.1];exact n2,by show Og (Bg t).length p';rw [rX,t1.1];exact h4.row⟩,⟨i+1,by omega,by omega,Bv (by omega),h4.comp t1.inv,Fx.div h4 t1 h5 t2 hl t3,?_⟩,?_⟩
    ·rw [show N-(i+1)=N-i-1 by omega]
    ·show N-(IntKind.i64.wrap ((i:Int)+1)).toNat<N-((i:Int)).toNat
     rw [Bv (by omega)]
     omega
 ·rw [show N-i=0 by omega]
  rfl
theorem xY:Sound Tryz.prog 158 o6:=
 Sound.Gu pP (Aw Sh (Aw uq Bn)) mixed Tryz.func158 (by kernel_rfl) (by kernel_rfl) λx h=>Amr x.1 x.2.1 x.2.2.1 h
abbrev AL:Type:=Nat×Nat×Int×List (List (Option (List Int)))×Nat×List (List (Option (List Int)))×Nat×List Int×Int×PUnit
abbrev Aaf:Type:=Nat×Int×List (List (Option (List Int)))×Nat×List (List (Option (List Int)))×Nat×List Int×Int×PUnit
abbrev Aai:Type:=Nat×List (List (Option (List Int)))×Nat×List (List (Option (List Int)))×Nat×List Int×Int×PUnit
abbrev Ly (G:List (List (Option (List Int)))) (l:Int) (p:Option (List Int)) (T:List (List (Option (List Int)))) (y7:Bool) (n:Int):Prop:=0=0/\(G.getD (0+l.toNat) []).length=(G.getD (0+l.toNat) []).length/\(G.getD (0+l.toNat) []).length+(List.take 1 (List.drop 0 [p])).length<=Cn/\((0:Int)<=l/\l<(↑G.length:Int))/\0=0/\(G.getD (0+l.toNat) []++List.take 1 (List.drop 0 [p])).length=(G.getD (0+l.toNat) []++List.take 1 (List.drop 0 [p])).length/\0+l.toNat=0+l.toNat/\ [(0,G.length),(0,G.length),(0,G.length),(0,T.length)]= [(0,G.length),(0,G.length),(0,G.length),(0,T.length)]/\(l,p,l,p,y7,l,l,0+l.toNat,p,List.take 1 (List.drop 0 [p]),0+l.toNat,G.set (0+l.toNat) (G.getD (0+l.toNat) []++List.take 1 (List.drop 0 [p])),min G.length (0+l.toNat),T,T.length,n,())=(l,p,l,p,y7,l,l,0+l.toNat,p,List.take 1 (List.drop 0 [p]),0+l.toNat,G.set (0+l.toNat) (G.getD (0+l.toNat) []++List.take 1 (List.drop 0 [p])),min G.length (0+l.toNat),T,T.length,n,PUnit.unit)
theorem Anb {m:Nat} (n:Int) (G T:List (List (Option (List Int)))) (l:Int) (p:Option (List Int)) (P:(Int×List (List (Option (List Int)))×List (List (Option (List Int)))×Unit)×Unit->Prop):(∃(y7:Bool),o6.fn ((n,List.take G.length (List.drop 0 G),List.take T.length (List.drop 0 T),()),l,p.getD [],())=some y7/\Br y7 ((0=0/\G.length=G.length)/\(0=0/\T.length=T.length)/\(Xj (m+1)).Fw (n,G,T,l,p,())<=G.length/\(Xj (m+1)).Fw (n,G,T,l,p,())<=T.length/\P ((n,G,T,()),())) (((0:Int)<=l/\l<(↑G.length:Int))/\0=0/\(G.getD (0+l.toNat) []).length=(G.getD (0+l.toNat) []).length/\(G.getD (0+l.toNat) []).length+(List.take 1 (List.drop 0 [p])).length<=Cn/\((0:Int)<=l/\l<(↑G.length:Int))/\0=0/\(G.getD (0+l.toNat) []++List.take 1 (List.drop 0 [p])).length=(G.getD (0+l.toNat) []++List.take 1 (List.drop 0 [p])).length/\0+l.toNat=0+l.toNat/\(((0:Int)<=l/\l<(↑T.length:Int))/\ ∃(y8:(List Int×PUnit)×PUnit),Rr.fn (T.getD (0+l.toNat) [],())=some y8/\0=0/\(List.take y8.1.1.length (List.drop 0 y8.1.1)).length=(List.take y8.1.1.length (List.drop 0 y8.1.1)).length/\0=0/\G.length=(G.set (0+l.toNat) (G.getD (0+l.toNat) []++List.take 1 (List.drop 0 [p]))).length/\0=0/\T.length=T.length/\Dl (λ(v9:Aai) (k10:Aai->Prop)=>Br (decide ((↑v9.2.2.2.2.2.1.length:Int)>(0:Int))) (((0:Int)<=l/\l<(↑v9.2.1.length:Int))/\0=0/\(List.take v9.2.2.2.2.2.1.length (List.drop 0 v9.2.2.2.2.2.1)).length=(List.take v9.2.2.2.2.2.1.length (List.drop 0 v9.2.2.2.2.2.1)).length/\0=0/\v9.2.1.length=v9.2.1.length/\0=0/\v9.2.2.2.1.length=v9.2.2.2.1.length/\Dl (λ(v11:AL) (k12:AL->Prop)=>Br (decide (v11.2.2.1<(↑(v9.2.1.getD (0+l.toNat) []).length:Int))) (((0:Int)<=v11.2.2.1/\v11.2.2.1<(↑(v11.2.2.2.1.getD v11.2.1 []).length:Int))/\((0:Int)<=(0:Int)/\(0:Int)<(↑v11.2.2.2.2.2.2.2.1.length:Int))/\ ∃(Ja:Int),v11.2.2.2.2.2.2.2.1[0+Int.toNat (0:Int)]?=some Ja/\ ∃(Ie:Int),idx (((v11.2.2.2.1.getD v11.2.1 []).getD v11.2.2.1.toNat (none:Option (List Int))).getD []) Ja=some Ie/\((0:Int)<=Ie/\Ie<(↑(v11.2.2.2.2.2.1.getD v11.1 []).length:Int))/\Br ((v11.2.2.2.2.2.1.getD v11.1 []).getD Ie.toNat (none:Option (List Int))).isNone (((0:Int)<=(0:Int)/\(0:Int)<(↑v11.2.2.2.2.2.2.2.1.length:Int))/\ ∃(Hx:Int),v11.2.2.2.2.2.2.2.1[0+Int.toNat (0:Int)]?=some Hx/\((0:Int)<=Hx/\Hx<(↑(v11.2.2.2.2.2.1.getD v11.1 []).length:Int))/\ ∃(Gb:Option (List Int)),Ze.fn (((v11.2.2.2.2.2.1.getD v11.1 []).getD Hx.toNat (none:Option (List Int))).getD [],((v11.2.2.2.1.getD v11.2.1 []).getD v11.2.2.1.toNat (none:Option (List Int))).getD [],())=some Gb/\((0:Int)<=Ie/\Ie<(↑(v11.2.2.2.2.2.1.getD v11.1 []).length:Int))/\0=0/\v11.2.2.2.2.2.2.2.1.length=v11.2.2.2.2.2.2.2.1.length/\v11.2.2.2.2.2.2.2.1.length+(List.take 1 (List.drop 0 [Ie])).length<=Cn/\0=0/\(List.take (v11.2.2.2.2.2.2.2.1++List.take 1 (List.drop 0 [Ie])).length (List.drop 0 (v11.2.2.2.2.2.2.2.1++List.take 1 (List.drop 0 [Ie])))).length=(List.take (v11.2.2.2.2.2.2.2.1++List.take 1 (List.drop 0 [Ie])).length (List.drop 0 (v11.2.2.2.2.2.2.2.1++List.take 1 (List.drop 0 [Ie])))).length/\0=0/\v11.2.2.2.1.length=v11.2.2.2.1.length/\0=0/\v11.2.2.2.2.2.1.length=(v11.2.2.2.2.2.1.set v11.1 ((v11.2.2.2.2.2.1.getD v11.1 []).set Ie.toNat Gb)).length/\k12 (v11.1,v11.2.1,IntKind.i64.wrap (v11.2.2.1+(1:Int)),v11.2.2.2.1,v11.2.2.2.2.1,v11.2.2.2.2.2.1.set v11.1 ((v11.2.2.2.2.2.1.getD v11.1 []).set Ie.toNat Gb),v11.2.2.2.2.2.2.1,List.take (v11.2.2.2.2.2.2.2.1++List.take 1 (List.drop 0 [Ie])).length (List.drop 0 (v11.2.2.2.2.2.2.2.1++List.take 1 (List.drop 0 [Ie]))),v11.2.2.2.2.2.2.2.2.1,())) (0=0/\(List.take v11.2.2.2.2.2.2.2.1.length (List.drop 0 v11.2.2.2.2.2.2.2.1)).length=(List.take v11.2.2.2.2.2.2.2.1.length (List.drop 0 v11.2.2.2.2.2.2.2.1)).length/\0=0/\v11.2.2.2.1.length=v11.2.2.2.1.length/\0=0/\v11.2.2.2.2.2.1.length=v11.2.2.2.2.2.1.length/\k12 (v11.1,v11.2.1,IntKind.i64.wrap (v11.2.2.1+(1:Int)),v11.2.2.2.1,v11.2.2.2.2.1,v11.2.2.2.2.2.1,v11.2.2.2.2.2.2.1,List.take v11.2.2.2.2.2.2.2.1.length (List.drop 0 v11.2.2.2.2.2.2.2.1),v11.2.2.2.2.2.2.2.2.1,()))) (((0:Int)<=(1:Int)/\(1:Int)<=(↑v11.2.2.2.2.2.2.2.1.length:Int)/\(↑v11.2.2.2.2.2.2.2.1.length:Int)<=(↑v11.2.2.2.2.2.2.2.1.length:Int))/\0=0/\(List.take ((↑v11.2.2.2.2.2.2.2.1.length:Int).toNat-Int.toNat (1:Int)) (List.drop (0+Int.toNat (1:Int)) v11.2.2.2.2.2.2.2.1)).length=(List.take ((↑v11.2.2.2.2.2.2.2.1.length:Int).toNat-Int.toNat (1:Int)) (List.drop (0+Int.toNat (1:Int)) v11.2.2.2.2.2.2.2.1)).length/\0=0/\v11.2.2.2.1.length=v11.2.2.2.1.length/\0=0/\v11.2.2.2.2.2.1.length=v11.2.2.2.2.2.1.length/\k10 (v11.1,v11.2.2.2.1,v11.2.2.2.2.1,v11.2.2.2.2.2.1,v11.2.2.2.2.2.2.1,List.take ((↑v11.2.2.2.2.2.2.2.1.length:Int).toNat-Int.toNat (1:Int)) (List.drop (0+Int.toNat (1:Int)) v11.2.2.2.2.2.2.2.1),v11.2.2.2.2.2.2.2.2.1,()))) (v9.1,0+l.toNat,(0:Int),v9.2.1,v9.2.2.1,v9.2.2.2.1,v9.2.2.2.2.1,List.take v9.2.2.2.2.2.1.length (List.drop 0 v9.2.2.2.2.2.1),v9.2.2.2.2.2.2.1,PUnit.unit)) (∃(Jp:(List Int×PUnit)×PUnit),Rr.fn (v9.2.2.2.1.getD v9.1 [],())=some Jp/\0=0/\Jp.1.1.length=Jp.1.1.length/\0=0/\v9.2.1.length=v9.2.1.length/\0=0/\v9.2.2.2.1.length=v9.2.2.2.1.length/\Dl (λ(Oz:Aaf) (k13:Aaf->Prop)=>Br (decide (Oz.2.1<(↑Jp.1.1.length:Int))) (((0:Int)<=Oz.2.1/\Oz.2.1<(↑Oz.2.2.2.2.2.2.1.length:Int))/\ ∃(Ie:Int),Oz.2.2.2.2.2.2.1[0+Oz.2.1.toNat]?=some Ie/\((0:Int)<=l/\l<(↑Oz.2.2.1.length:Int))/\0=0/\Oz.2.2.2.2.2.2.1.length=Oz.2.2.2.2.2.2.1.length/\0=0/\Oz.2.2.1.length=Oz.2.2.1.length/\0=0/\Oz.2.2.2.2.1.length=Oz.2.2.2.2.1.length/\Dl (λ(Sk:AL) (k16:AL->Prop)=>Br (decide (Sk.2.2.1<(↑(Oz.2.2.1.getD (0+l.toNat) []).length:Int))) (((0:Int)<=Sk.2.2.1/\Sk.2.2.1<(↑(Sk.2.2.2.1.getD Sk.2.1 []).length:Int))/\((0:Int)<=Ie/\Ie<(↑(Sk.2.2.2.2.2.1.getD Sk.1 []).length:Int))/\ ∃(Ez:Option (List Int)),Ze.fn (((Sk.2.2.2.2.2.1.getD Sk.1 []).getD Ie.toNat (none:Option (List Int))).getD [],((Sk.2.2.2.1.getD Sk.2.1 []).getD Sk.2.2.1.toNat (none:Option (List Int))).getD [],())=some Ez/\ ∃(bn:Int),idx (((Sk.2.2.2.1.getD Sk.2.1 []).getD Sk.2.2.1.toNat (none:Option (List Int))).getD []) Ie=some bn/\((0:Int)<=bn/\bn<(↑(Sk.2.2.2.2.2.1.getD Sk.1 []).length:Int))/\ ∃(hZ:List Int),Gv.fn (((Sk.2.2.2.2.2.1.getD Sk.1 []).getD bn.toNat (none:Option (List Int))).getD [],())=some hZ/\ ∃(y20:Option (List Int)),Ze.fn (Ez.getD [],hZ,())=some y20/\0=0/\Sk.2.2.2.1.length=Sk.2.2.2.1.length/\0=0/\Sk.2.2.2.2.2.1.length=Sk.2.2.2.2.2.1.length/\ ∃(VO:(Int×List (List (Option (List Int)))×List (List (Option (List Int)))×PUnit)×PUnit),(Xj m).fn (Sk.2.2.2.2.2.2.2.2.1,Sk.2.2.2.1,Sk.2.2.2.2.2.1,IntKind.i64.wrap (l+(1:Int)),y20,())=some VO/\(Sk.1<(Xj m).Fw (Sk.2.2.2.2.2.2.2.2.1,Sk.2.2.2.1,Sk.2.2.2.2.2.1,IntKind.i64.wrap (l+(1:Int)),y20,())/\Sk.1<(List.length VO.1.2.2.1))/\(Sk.2.1<(Xj m).Fw (Sk.2.2.2.2.2.2.2.2.1,Sk.2.2.2.1,Sk.2.2.2.2.2.1,IntKind.i64.wrap (l+(1:Int)),y20,())/\Sk.2.1<(List.length VO.1.2.1))/\(Sk.1<(Xj m).Fw (Sk.2.2.2.2.2.2.2.2.1,Sk.2.2.2.1,Sk.2.2.2.2.2.1,IntKind.i64.wrap (l+(1:Int)),y20,())/\Sk.1<(List.length VO.1.2.2.1))/\(Sk.1<(Xj m).Fw (Sk.2.2.2.2.2.2.2.2.1,Sk.2.2.2.1,Sk.2.2.2.2.2.1,IntKind.i64.wrap (l+(1:Int)),y20,())/\Sk.1<(List.length VO.1.2.2.1))/\0=0/\Sk.2.2.2.2.2.2.2.1.length=Sk.2.2.2.2.2.2.2.1.length/\0=0/\VO.1.2.1.length=VO.1.2.1.length/\0=0/\VO.1.2.2.1.length=VO.1.2.2.1.length/\k16 (Sk.1,Sk.2.1,IntKind.i64.wrap (Sk.2.2.1+(1:Int)),VO.1.2.1,min Sk.2.2.2.2.1 ((Xj m).Fw (Sk.2.2.2.2.2.2.2.2.1,Sk.2.2.2.1,Sk.2.2.2.2.2.1,IntKind.i64.wrap (l+(1:Int)),y20,())),VO.1.2.2.1,min Sk.2.2.2.2.2.2.1 ((Xj m).Fw (Sk.2.2.2.2.2.2.2.2.1,Sk.2.2.2.1,Sk.2.2.2.2.2.1,IntKind.i64.wrap (l+(1:Int)),y20,())),Sk.2.2.2.2.2.2.2.1,VO.1.1,())) (0=0/\Sk.2.2.2.2.2.2.2.1.length=Sk.2.2.2.2.2.2.2.1.length/\0=0/\Sk.2.2.2.1.length=Sk.2.2.2.1.length/\0=0/\Sk.2.2.2.2.2.1.length=Sk.2.2.2.2.2.1.length/\k13 (Sk.1,IntKind.i64.wrap (Oz.2.1+(1:Int)),Sk.2.2.2.1,Sk.2.2.2.2.1,Sk.2.2.2.2.2.1,Sk.2.2.2.2.2.2.1,Sk.2.2.2.2.2.2.2.1,Sk.2.2.2.2.2.2.2.2.1,()))) (Oz.1,0+l.toNat,(0:Int),Oz.2.2.1,Oz.2.2.2.1,Oz.2.2.2.2.1,Oz.2.2.2.2.2.1,Oz.2.2.2.2.2.2.1,Oz.2.2.2.2.2.2.2.1,PUnit.unit)) ((0=0/\Oz.2.2.1.length=Oz.2.2.1.length)/\(0=0/\Oz.2.2.2.2.1.length=Oz.2.2.2.2.1.length)/\(Xj (m+1)).Fw (n,G,T,l,p,())<=Oz.2.2.2.1/\(Xj (m+1)).Fw (n,G,T,l,p,())<=Oz.2.2.2.2.2.1/\P ((Oz.2.2.2.2.2.2.2.1,Oz.2.2.1,Oz.2.2.2.2.1,()),()))) (v9.1,(0:Int),v9.2.1,v9.2.2.1,v9.2.2.2.1,v9.2.2.2.2.1,Jp.1.1,v9.2.2.2.2.2.2.1,PUnit.unit))) (0+l.toNat,G.set (0+l.toNat) (G.getD (0+l.toNat) []++List.take 1 (List.drop 0 [p])),min G.length (0+l.toNat),T,T.length,List.take y8.1.1.length (List.drop 0 y8.1.1),n,PUnit.unit))/\(((((0:Int)<=l/\l<(↑G.length:Int))/\((Ly G l p T y7 n))/\(Ly G l p T y7 n))/\((0:Int)<=l/\l<(↑G.length:Int))/\(Ly G l p T y7 n))/\((0:Int)<=l/\l<(↑G.length:Int))/\(Ly G l p T y7 n))/\(((((0:Int)<=l/\l<(↑G.length:Int))/\((Ly G l p T y7 n))/\(Ly G l p T y7 n))/\((0:Int)<=l/\l<(↑G.length:Int))/\(Ly G l p T y7 n))/\(((0:Int)<=l/\l<(↑G.length:Int))/\(((Ly G l p T y7 n))/\(Ly G l p T y7 n))/\(((Ly G l p T y7 n))/\((Ly G l p T y7 n))/\(Ly G l p T y7 n))/\((Ly G l p T y7 n))/\((Ly G l p T y7 n))/\(Ly G l p T y7 n))/\(((0:Int)<=l/\l<(↑G.length:Int))/\(Ly G l p T y7 n))/\((0:Int)<=l/\l<(↑G.length:Int))/\((Ly G l p T y7 n))/\((Ly G l p T y7 n))/\(Ly G l p T y7 n))/\(((0:Int)<=l/\l<(↑G.length:Int))/\(Ly G l p T y7 n))/\(((0:Int)<=l/\l<(↑G.length:Int))/\(Ly G l p T y7 n))/\((0:Int)<=l/\l<(↑G.length:Int))/\((Ly G l p T y7 n))/\((Ly G l p T y7 n))/\(Ly G l p T y7 n)))=fnMW (Aam [Td+7]) (look [(158,o6),(178,Rr),(134,Ze),(58,Gv),(176,mJ.m (Xj m))]) (Xj (m+1)) Tryz.f176 (n,G,T,l,p,()) P:=by kernel_rfl
theorem BQ {k l:Nat} {p:List Int} {s:Fk×Fk} (h:Mz s.2 k l p=true):Ig k l p s=s:=by
 cases k with
 |zero=>rfl
 |succ k=>unfold Ig;rw [Ab h]
theorem BP (k l:Nat) (p:List Int) (s:Fk×Fk):Ig (k+1) l p s=if Mz s.2 (k+1) l p=true then s else
   (gF (Zx (s.1.getD l []++ [some p]) (s.2.getD l [])) (s.1.getD l []++ [some p])).foldl (λs q=>Ig k (l+1) q s)
    (s.1.set l (s.1.getD l []++ [some p]),s.2.set l (Zx (s.1.getD l []++ [some p]) (s.2.getD l []))):=rfl
theorem YB {n:Nat} {p:List Int} (h:Pm n p) {i:Nat} (hi:i<n):idx p (i:Int)=some (ap p i:Int):=by
 have mI:i<p.length:=by rw [h.1];exact hi
 rw [Cd mI,<-(h.aw hi).1,La mI]
theorem IP {x:Int} {gs:List PO} {j:Nat} (hj:j<gs.length) (s:Row×List Int):aJ x (gs.take (j+1)) s=aU x (aJ x (gs.take j) s) gs[j]:=by
 unfold aJ
 rw [Gi,Ac hj,Mn,cG]
 rfl
theorem IQ {gs:List PO} {f:Nat} {row:Row} :az gs f [] row=row:=by cases f<;>rfl
theorem lX {n:Nat} {p:List Int} (h:Pm n p):0<p.length/\p.length<=20:=⟨by rw [h.1];exact h.n1,by rw [h.1];exact h.n2⟩
theorem MF {n:Nat} {p q:List Int} (h:Pm n p) (k:Pm n q):Og q.length p:=by rw [k.1];exact h.row
theorem Amn {m:Nat} (n:Int) (G T:List (List (Option (List Int)))) (l:Int) (p:Option (List Int)) (h:(∃N L q,p=some q/\s9 N L n G T l q)/\(n-l).toNat<m+1):
  fnMW (Aam [Td+7]) (look [(158,o6),(178,Rr),(134,Ze),(58,Gv),(176,mJ.m (Xj m))]) (Xj (m+1)) Tryz.f176 (n,G,T,l,p,()) (λ(z:(Int×List (List (Option (List Int)))×List (List (Option (List Int)))×Unit)×Unit)=>z=((n,(Ig (n-l).toNat l.toNat (p.getD []) (G,T)).1,(Ig (n-l).toNat l.toNat (p.getD []) (G,T)).2,()),())):=by
 obtain ⟨⟨N,L,q,rfl,h⟩,hm⟩:=h
 have h':=h
 obtain ⟨n1,n2,en,el,hle,v,pm,fx⟩:=h
 subst en el
 have hk:((N:Int)-(L:Int)).toNat=N-L:=by omega
 rw [hk,Aq]
 refine Eq.mp (Anb (N:Int) G T (L:Int) (some q) _) ⟨_,Ab ⟨N,L,?a⟩,?b⟩
 case a=>
  simp only [Ds,Ax,Ct]
  exact h'
 obtain ⟨v1,v2,v3,v4⟩:=v
 dsimp only at v1 v2
 have hw:IntKind.i64.wrap ((L:Int)+1)=((L+1:Nat):Int):=Bv (by omega)
 simp only [Ly]
 simp only [Ds,Ax,Ct,hk,Aq,Bu,eq_self,true_and,bo,List.take_succ_cons,List.take_zero,Ay,Fq,Dg,hw]
 refine Br.of (λhh=>⟨by show Int.toNat (L:Int)<=G.length;omega,by show Int.toNat (L:Int)<=T.length;omega,?_⟩) λhh=>?_
 ·rw [BQ (s:=(G,T)) hh]
 obtain ⟨k,hNk⟩: ∃k,N-L=k+1:=by
  cases e:N-L with
  |zero=>rw [e] at hh;simp [Mz] at hh
  |succ k=>exact ⟨k,rfl⟩
 have hLN:L<N:=by omega
 have hv:V N (k+1) L (G,T):=by rw [<-hNk];exact ⟨v1,v2,v3,v4⟩
 rw [hNk] at hh⊢
 have e1:(0:Int)<=(L:Int)/\(L:Int)<(G.length:Int):=by omega
 have e1':(0:Int)<=(L:Int)/\(L:Int)<(T.length:Int):=by omega
 have hgl:(G.getD L []).length<=400:=Ac9 n2 (by omega) hv
 have e2:(G.getD L []).length+1<=Cn:=by show _<=4294967296;omega
 simp only [e1,e1',e2,and_self,true_and,bo]
 generalize OW:G.getD L []++ [some q]=gs
 have Avm:gs.length<=401:=by rw [<-OW,Av,Cc];omega
 have hg:PG N L gs:=by rw [<-OW];exact hv.pg pm fx
 have hr0:Yb N L gs (T.getD L []):=by rw [<-OW];exact hv.Asf q
 obtain ⟨r1,r2,r3⟩:=FF hLN n2 hg hr0
 generalize hR:Zx gs (T.getD L [])=R at r1 r2 r3
 have RV:Ig (k+1) L q (G,T)=(gF R gs).foldl (λs q=>Ig k (L+1) q s) (G.set L gs,T.set L R):=by
  rw [BP,Aj (by rw [hh];simp)]
  dsimp only
  rw [OW,hR]
 rw [RV]
 have hTl:L<T.length:=by omega
 have hGl:L<G.length:=by omega
 have hG1:(G.set L gs).getD L []=gs:=kV G L hGl gs
 have hT1: ∀row:Row,(T.set L row).getD L []=row:=kV T L hTl
 refine ⟨_,Ab (by show (T.getD L []).length<=20;rw [hr0.rl];exact n2),?_⟩
 dsimp only
 have hn0:(No (T.getD L [])).length+Tb (T.getD L [])<=40:=by have:=zo (T.getD L []);have:=EZ (T.getD L []);have:=hr0.rl;omega
 have hq0:QT gs (No (T.getD L [])) (T.getD L []):=⟨λy hy=>Ve.1 hy,λy hy=> .inl (Ve.2 ⟨y,rfl,hy⟩)⟩
 refine ⟨λv=> ∃(row:Row) (qu:List Int) (kg kt:Nat),v=(L,G.set L gs,kg,T.set L row,kt,qu,(N:Int),())/\L<=kg/\L<=kt/\qu.length+Tb row<=40/\Yb N L gs row/\QT gs qu row/\az gs (qu.length+Tb row) qu row=R,
  fun v=>v.2.2.2.2.2.1.length+Tb (v.2.2.2.1.getD v.1 []),⟨T.getD L [],No (T.getD L []),min G.length L,T.length,?_,by omega,by omega,hn0,hr0,hq0,?_⟩,?_⟩
 ·rw [w8 T L hTl]
 ·rw [<-CD hLN hg 100 _ _ (by omega) hr0 hq0];exact hR
 rintro v ⟨row,qu,kg,kt,rfl,hkg,hkt,hb,XR,hqi,WV⟩
 dsimp only
 simp only [hG1,hT1,Dg]
 refine Br.dec (λhl=>⟨e1.2,?_⟩) λhl=>?_
 ·cases qu with
  |nil=>simp at hl
  |cons x qu=>
  obtain ⟨p1,p2,xn,t,rfl,ht⟩:=LW hLN hg XR hqi
  have hxn:xn<N:=by rw [<-XR.rl];exact rQ ht
  refine Bw gs.length (λv=>v.2.2.1) (λj v=> ∃kg kt:Nat,v=(L,L,(j:Int),G.set L gs,kg,T.set L (aJ (xn:Int) (gs.take j) (row,qu)).1,kt,(xn:Int)::(aJ (xn:Int) (gs.take j) (row,qu)).2,(N:Int),())/\L<=kg/\L<=kt) rfl ⟨kg,kt,rfl,hkg,hkt⟩ ?_
  rintro j v K hj hi ⟨kg,kt,rfl,h1,h2⟩ hK
  dsimp only
  simp only [hG1,hT1,Aq]
  refine Br.dec (λhl=>?_) λhl=>?_
  ·have hl:j<gs.length:=by omega
   obtain ⟨x1,x2⟩:=ZU hLN hg (gs.take j) (q:=qu) (λo ho=>Ij ho) XR ht
   have Si:=IP (x:=(xn:Int)) hl (row,qu)
   generalize aJ (xn:Int) (gs.take j) (row,qu)=s at x1 x2 Si⊢
   obtain ⟨r,qq⟩:=s
   dsimp only at x1 x2⊢
   obtain ⟨g,vD,Yd,hgf⟩:=hg gs[j] (Ak hl)
   have htx:r.getD xn none=some t:=x1.mono _ _ ht
   obtain ⟨t1,t2,t3,t4⟩:=x1.ok.rt _ _ htx
   have hrl:r.length=N:=x1.ok.rl
   have hgj:gs.getD j none=some g:=by rw [WO hl];exact vD
   have hy:=Yd.lt hxn
   have hga:=(Yd.aw hxn).1
   have Acr:qq.length+Tb r=qu.length+Tb row:=x1.phi
   simp only [Ay] at hb
   simp only [hgj,Ct]
   refine ⟨⟨by omega,by omega⟩,⟨by omega,by simp only [Ay];omega⟩,_,rfl,_,YB Yd hxn,⟨by omega,by omega⟩,?_⟩
   rw [vD] at Si
   unfold aU at Si
   dsimp only at Si
   rw [Ct,hga,Aq,Aq,htx,Ct] at Si
   rw [Aq]
   refine Br.of (λhn=>?_) λhn=>?_
   ·have hn:r.getD (ap g xn) none=none:=by
     cases e:r.getD (ap g xn) none with
     |none=>rfl
     |some u=>rw [e] at hn;simp at hn
    rw [hn] at Si
    refine ⟨⟨by omega,by simp only [Ay];omega⟩,_,rfl,⟨by omega,by omega⟩,some (Ai t g),?_,⟨by omega,by omega⟩,?_,?_⟩
    ·rw [Aq,htx,Ct]
     exact Ab ⟨lX t1,MF t1 Yd⟩
    ·show qq.length+1+1<=4294967296
     omega
    ·rw [Bv (by omega)]
     refine hK hl _ rfl ⟨kg,kt,?_,h1,h2⟩
     rw [Si,List.set_set]
     rfl
   ·have hn: ∃u,r.getD (ap g xn) none=some u:=by
     cases e:r.getD (ap g xn) none with
     |none=>rw [e] at hn;simp at hn
     |some u=>exact ⟨u,rfl⟩
    obtain ⟨u,hn⟩:=hn
    rw [hn] at Si
    rw [Bv (by omega)]
    refine hK hl _ rfl ⟨kg,kt,?_,h1,h2⟩
    rw [Si]
  ·have:j=gs.length:=by omega
   subst this
   rw [Ax]
   generalize hs:aJ (xn:Int) gs (row,qu)=s at p1 p2⊢
   obtain ⟨r,qq⟩:=s
   dsimp only at p1 p2⊢
   have Acr:qq.length+Tb r=qu.length+Tb row:=p1.phi
   simp only [Ay] at hb WV
   refine ⟨⟨by omega,by simp only [Ay];omega,Rb _⟩,⟨r,qq,kg,kt,?_,h1,h2,by omega,p1.ok,p2,?_⟩,?_⟩
   ·simp
   ·rw [show qu.length+1+Tb row=(qu.length+Tb row)+1 by omega] at WV
    simp only [az,hs] at WV
    rw [Acr]
    exact WV
   ·simp only [Ay]
    have:(List.take (qq.length+1-Int.toNat 1) (List.drop (Int.toNat 1) ((xn:Int)::qq))).length=qq.length:=by simp
    rw [this]
    omega
 ·have:qu= []:=Ci (by omega)
  subst this
  rw [IQ] at WV
  subst WV
  have hpr:=ZR hLN hg XR r3
  have hvl:=hv.lower gs row
  have Aey: ∀qs:List (List Int),(∀q∈qs,q∈gF row gs)->V N k (L+1) (qs.foldl (λs q=>Ig k (L+1) q s) (G.set L gs,T.set L row))/\bI (L+1) (G.set L gs,T.set L row) (qs.foldl (λs q=>Ig k (L+1) q s) (G.set L gs,T.set L row)):=
   fun qs hqs=>OO n1 n2 (by omega) qs _ (λq hq=>hpr q (hqs q hq)) hvl
  refine ⟨_,Ab (by show row.length<=20;rw [XR.rl];exact n2),?_⟩
  dsimp only
  have hol:=zo row
  have hrl:=XR.rl
  refine Bw (No row).length (λv=>v.2.1) (λi v=> ∃(s:Fk×Fk) (kg kt:Nat),v=(L,(i:Int),s.1,kg,s.2,kt,No row,(N:Int),())/\L<=kg/\L<=kt/\s=(((No row).take i).flatMap λy=>gs.map (Uy row y)).foldl (λs q=>Ig k (L+1) q s) (G.set L gs,T.set L row)) rfl ⟨_,kg,kt,rfl,hkg,hkt,rfl⟩ ?_
  rintro i v K hi mI ⟨s,kg,kt,rfl,h1,h2,hs⟩ hK
  dsimp only
  have Yw: ∀q∈((No row).take i).flatMap (λy=>gs.map (Uy row y)),q∈gF row gs:= λq hq=>by
   obtain ⟨y,hy,hq⟩:=He.1 hq
   exact He.2 ⟨y,Ij hy,hq⟩
  refine Br.dec (λhl=>?_) λhl=>?_
  ·have hl:i<(No row).length:=by omega
   obtain ⟨f1,f2⟩:=Aey _ Yw
   rw [<-hs] at f1 f2
   have g1:s.1.getD L []=gs:=by rw [(f2.low L (by omega)).1];exact hG1
   have g2:s.1.length=N:=f1.1
   obtain ⟨yn,hyn,hyr⟩:=Ve.1 (Ak hl)
   obtain ⟨t,ht⟩:=Nu.1 hyr
   have hyN:yn<N:=by rw [<-hrl];exact rQ ht
   obtain ⟨t1,t2,t3,t4⟩:=XR.rt _ _ ht
   refine ⟨⟨by omega,by omega⟩,(yn:Int),by rw [Aq,Ac hl,hyn],by omega,?_⟩
   rw [g1]
   refine Bw gs.length (λv=>v.2.2.1) (λj v=> ∃(s':Fk×Fk) (kg kt:Nat),v=(L,L,(j:Int),s'.1,kg,s'.2,kt,No row,(N:Int),())/\L<=kg/\L<=kt/\s'=(((No row).take i).flatMap (λy=>gs.map (Uy row y))++(gs.take j).map (Uy row (yn:Int))).foldl (λs q=>Ig k (L+1) q s) (G.set L gs,T.set L row)) rfl ⟨s,kg,kt,rfl,h1,h2,by simpa using hs⟩ ?_
   rintro j v K' hj OZ ⟨s',kg,kt,rfl,h1,h2,DO⟩ hK'
   dsimp only
   refine Br.dec (λMb=>?_) λMb=>?_
   ·have Mb:j<gs.length:=by omega
    have PJ: ∀q∈((No row).take i).flatMap (λy=>gs.map (Uy row y))++(gs.take j).map (Uy row (yn:Int)),q∈gF row gs:= λq hq=>by
     rcases Az.1 hq with hq|hq
     ·exact Yw q hq
     ·obtain ⟨o,ho,rfl⟩:=Be.1 hq
      exact He.2 ⟨(yn:Int),Ve.2 ⟨yn,rfl,hyr⟩,Be.2 ⟨o,Ij ho,rfl⟩⟩
    obtain ⟨f1',f2'⟩:=Aey _ PJ
    rw [<-DO] at f1' f2'
    obtain ⟨G',T'⟩:=s'
    dsimp only at f1' f2'⊢
    have g1':G'.getD L []=gs:=by have:=(f2'.low L (by omega)).1;dsimp only at this;rw [this];exact hG1
    have g3':T'.getD L []=row:=by have:=(f2'.low L (by omega)).2;dsimp only at this;rw [this];exact hT1 row
    have g4':G'.length=N:=f1'.1
    have g5':T'.length=N:=f1'.2.1
    obtain ⟨g,vD,Yd,hgf⟩:=hg gs[j] (Ak Mb)
    have hgj:gs.getD j none=some g:=by rw [WO Mb];exact vD
    have hgm:some g∈gs:=by rw [<-vD];exact Ak Mb
    have hy:=Yd.lt hyN
    obtain ⟨t',KA⟩:=Nu.1 (r3 yn t g ht hgm)
    obtain ⟨u1,u2,u3,u4⟩:=XR.rt _ _ KA
    have Alp:Uy row (yn:Int) gs[j]=Ai (Ai t g) (Bg t'):=by rw [vD];exact jv ht KA
    have hqm:=hpr _ (He.2 ⟨(yn:Int),Ve.2 ⟨yn,rfl,hyr⟩,Be.2 ⟨gs[j],Ak Mb,Alp⟩⟩)
    simp only [g1',g3',Aq,hgj,ht,Ct]
    have sZ:L<Int.toNat ((L+1:Nat):Int):=by omega
    have WT:=yo n1 n2 k (L+1) _ (G',T') (by omega) f1' hqm.1 hqm.2
    have Atc:((Ig k (L+1) (Ai (Ai t g) (Bg t')) (G',T')).1).length=N:=WT.v.1
    have Atd:((Ig k (L+1) (Ai (Ai t g) (Bg t')) (G',T')).2).length=N:=WT.v.2.1
    have hkk:((N:Int)-((L+1:Nat):Int)).toNat=k:=by omega
    refine ⟨⟨by omega,by omega⟩,⟨by omega,by omega⟩,some (Ai t g),Ab ⟨lX t1,MF t1 Yd⟩,_,YB Yd hyN,⟨by omega,by omega⟩,Bg t',?_,some (Ai (Ai t g) (Bg t')),?_,_,Ab ⟨⟨N,L+1,_,rfl,?pr⟩,?lt⟩,⟨sZ,?k1⟩,⟨sZ,?k2⟩,⟨sZ,?k3⟩,⟨sZ,?k4⟩,?go⟩
    case pr=>exact ⟨n1,n2,rfl,rfl,by omega,by rw [show N-(L+1)=k by omega];exact f1',hqm.1,hqm.2⟩
    case lt=>
     show ((N:Int)-((L+1:Nat):Int)).toNat<m
     omega
    case go=>
     dsimp only
     rw [Bv (by omega)]
     refine hK' Mb _ rfl ⟨_,_,_,rfl,?_,?_,?_⟩
     ·show L<=min kg (Int.toNat ((L+1:Nat):Int));omega
     ·show L<=min kt (Int.toNat ((L+1:Nat):Int));omega
     ·rw [Gi,Ac Mb,Mn,Iy,<-Co,cG,<-DO]
      simp only [Bz,List.map_nil,On,List.foldl_nil,Alp,hkk,Aq,Ct]
    case k1=>simp only [hkk,Aq,Ct];omega
    case k2=>simp only [hkk,Aq,Ct];omega
    case k3=>simp only [hkk,Aq,Ct];omega
    case k4=>simp only [hkk,Aq,Ct];omega
    ·rw [Aq,KA,Ct]
     exact Ab ⟨by show t'.length<=20;rw [u1.1];exact n2,u1.2.row⟩
    ·exact Ab ⟨lX (t1.comp Yd),MF (t1.comp Yd) u1.inv⟩
   ·have:j=gs.length:=by omega
    subst this
    rw [Bv (by omega)]
    refine hK hl _ rfl ⟨s',kg,kt,rfl,h1,h2,?_⟩
    rw [DO,Ax,Gi,Ac hl,Mn,List.flatMap_append,hyn]
    simp
  ·have:i=(No row).length:=by omega
   subst this
   rw [Ax] at hs
   refine ⟨h1,h2,?_⟩
   rw [hs]
   rfl
theorem Aa8 {m:Nat} (Aho:Dc Tryz.prog 176 (Xj m)):Dc Tryz.prog 176 (Xj (m+1)):=
 Dc.lf (Adw [Td+7]) (Aw xY (Fv lp (Aw ur (Aw Sh (Fv Aho Bn))))) mixed Tryz.func176 (by kernel_rfl) (by kernel_rfl) λx h=>Amn x.1 x.2.1 x.2.2.1 x.2.2.2.1 x.2.2.2.2.1 h
theorem MN:Dc Tryz.prog 176 (Xj 0):=
 Dc.lf pP Bn mixed Tryz.func176 (by kernel_rfl) (by kernel_rfl) λ_ h=>absurd h.2 (Gp _)
theorem uo: ∀m,Dc Tryz.prog 176 (Xj m)
 |0=>MN
 |m+1=>Aa8 (uo m)
noncomputable abbrev zO:MSpec:=lf Afl (λx=> ∃N L q,x.2.2.2.2.1=some q/\s9 N L x.1 x.2.1 x.2.2.1 x.2.2.2.1 q)
 (λx=>((x.1,(Ig (x.1-x.2.2.2.1).toNat x.2.2.2.1.toNat (x.2.2.2.2.1.getD []) (x.2.1,x.2.2.1)).1,(Ig (x.1-x.2.2.2.1).toNat x.2.2.2.1.toNat (x.2.2.2.2.1.getD []) (x.2.1,x.2.2.1)).2,()),()))
theorem MO:Dc Tryz.prog 176 zO:=Dc.Aml (λx=>(x.1-x.2.2.2.1).toNat) uo
def aH (n:Nat):Fk:=List.replicate n []
def eR (n i:Nat):Row:=(List.replicate n none).set i (some (upto n))
def dJ (n:Nat):Fk:=(List.range n).map λi=>eR n i
def Vk (n:Nat) (gens:List PO):Fk×Fk:=gens.foldl (λs o=>Ig n 0 (o.getD []) s) (aH n,dJ n)
noncomputable abbrev KG:MSpec:= {Jl:= [none,none],ins:= [(false, .Ft tI),(false, .Ft tLO)],Im:=false,Ip:= [none,none,none],outs:= [.Ft tI, .Bp tO teG false, .Bp tO teG false],fn:= λ_=>none,rp:=some 165}
noncomputable abbrev ju:MSpec:=lf KG (λx=>(1<=x.1/\x.1<=20)/\List.length x.2.1<=4294967296/\ ∀o∈(x.2.1:List PO),∃g,o=some g/\Pm x.1.toNat g)
 (λx=>((x.1,(Vk x.1.toNat x.2.1).1,(Vk x.1.toNat x.2.1).2,()),()))
abbrev bh:Type:=Int×List (List (Option (List Int)))×Int×List (List (Option (List Int)))×PUnit
theorem HR (n:Int) (gens:List (Option (List Int))) (P:(Int×List (List (Option (List Int)))×List (List (Option (List Int)))×Unit)×Unit->Prop):(((0:Int)<=n/\n<(↑Cn:Int)+(1:Int))/\n=n/\0=0/\(List.replicate n.toNat ([]:List (Option (List Int)))).length=(List.replicate n.toNat ([]:List (Option (List Int)))).length/\0=0/\0=([]:List Int).length/\Dl (λ(v3:bh) (k4:bh->Prop)=>Br (decide (v3.1<n)) (((0:Int)<=n/\n<(↑Cn:Int)+(1:Int))/\n=n/\ ∃(y5:Option (List Int)),dc.fn (n,())=some y5/\((0:Int)<=v3.1/\v3.1<(↑(List.replicate n.toNat (none:Option (List Int))).length:Int))/\0+v3.1.toNat<(List.replicate n.toNat (none:Option (List Int))).length/\0=0/\(List.replicate n.toNat (none:Option (List Int))).length=((List.replicate n.toNat (none:Option (List Int))).set (0+v3.1.toNat) y5).length/\(0=0/\v3.2.2.2.1.length=v3.2.2.2.1.length)/\(0=0/\1= [(List.replicate n.toNat (none:Option (List Int))).set (0+v3.1.toNat) y5].length)/\0< [(List.replicate n.toNat (none:Option (List Int))).set (0+v3.1.toNat) y5].length/\v3.2.2.2.1.length+ [(List.replicate n.toNat (none:Option (List Int))).set (0+v3.1.toNat) y5].length<=Cn/\0=0/\v3.2.1.length=v3.2.1.length/\0=0/\(v3.2.2.2.1++ [(List.replicate n.toNat (none:Option (List Int))).set (0+v3.1.toNat) y5]).length=(v3.2.2.2.1++ [(List.replicate n.toNat (none:Option (List Int))).set (0+v3.1.toNat) y5]).length/\k4 (IntKind.i64.wrap (v3.1+(1:Int)),v3.2.1,v3.2.2.1,v3.2.2.2.1++ [(List.replicate n.toNat (none:Option (List Int))).set (0+v3.1.toNat) y5],())) (0=0/\v3.2.1.length=v3.2.1.length/\0=0/\v3.2.2.2.1.length=v3.2.2.2.1.length/\Dl (λ(v5:bh) (k6:bh->Prop)=>Br (decide (v5.1<(↑gens.length:Int))) (∃(y7:Option (List Int)),idx gens v5.1=some y7/\0=0/\v5.2.1.length=v5.2.1.length/\0=0/\v5.2.2.2.1.length=v5.2.2.2.1.length/\ ∃(y8:(Int×List (List (Option (List Int)))×List (List (Option (List Int)))×PUnit)×PUnit),zO.fn (v5.2.2.1,v5.2.1,v5.2.2.2.1,(0:Int),y7,())=some y8/\0=0/\y8.1.2.1.length=y8.1.2.1.length/\0=0/\y8.1.2.2.1.length=y8.1.2.2.1.length/\k6 (IntKind.i64.wrap (v5.1+(1:Int)),y8.1.2.1,y8.1.1,y8.1.2.2.1,())) ((0=0/\v5.2.1.length=v5.2.1.length)/\(0=0/\v5.2.2.2.1.length=v5.2.2.2.1.length)/\P ((v5.2.2.1,v5.2.1,v5.2.2.2.1,()),()))) ((0:Int),v3.2.1,v3.2.2.1,v3.2.2.2.1,PUnit.unit))) ((0:Int),List.replicate n.toNat ([]:List (Option (List Int))),n,[],PUnit.unit))=fnMW bk (look [(133,dc),(176,zO)]) ju Tryz.f157 (n,gens,()) P:=by kernel_rfl
theorem cv (n i:Nat):(aH n).getD i []= []:=by
 unfold aH
 rw [Ah,Zq]
 split<;>rfl
theorem mD {n i:Nat} (h:i<n):(dJ n).getD i []=eR n i:=by
 unfold dJ
 rw [Ah,Fl,Yh h]
 rfl
theorem oq {n i y:Nat} (h:i<n):(eR n i).getD y none=if i=y then some (upto n) else none:=by
 unfold eR
 rw [Yu,Ix]
 by_cases e:i=y
 ·rw [Ab ⟨e,h⟩,Ab e]
 ·rw [Aj (λhh=>e hh.1),Aj e,Ah,Zq]
  split<;>rfl
theorem uH {n:Nat} (h1:1<=n) (h2:n<=20): ∀(k l:Nat),l+k=n->ky n k l (aH n,dJ n)
 |0,l,hk=>cv n l
 |k+1,l,hk=>by
  have hl:l<n:=by omega
  have hg: ∀(g:List Int) (j:Nat),some g∈(aH n).getD j []->False:= λg j hg=>by rw [cv] at hg;cases hg
  refine ⟨uH h1 h2 k (l+1) (by omega),⟨λo ho=>?_,?_,?_,λy t e0=>?_,λy t g _ eT=>(hg _ _ eT).elim,λy t g t' _ eT=>(hg _ _ eT).elim⟩,λg eT=>(hg _ _ eT).elim⟩
  ·have ho:o∈(aH n).getD l []:=ho
   rw [cv] at ho;cases ho
  ·show ((dJ n).getD l []).length=n
   rw [mD hl];simp [eR]
  ·show ((dJ n).getD l []).getD l none=_
   rw [mD hl,oq hl,Ab rfl]
  ·replace e0:((dJ n).getD l []).getD y none=some t:=e0
   rw [mD hl,oq hl] at e0
   by_cases hy:l=y
   ·rw [Ab hy] at e0
    have e1:=Bc e0
    subst e1 hy
    exact ⟨Pm.id h1 h2,λi hi=>kL (by omega),kL hl, .id⟩
   ·rw [Aj hy] at e0;cases e0
theorem GR (n:Nat): ∀(k l:Nat),GBf k l (aH n,dJ n)
 |0,_=>trivial
 |k+1,l=>⟨GR n k (l+1),by show ((aH n).getD l []).length<=_;rw [cv];exact Kd _⟩
theorem QI {n:Nat} (h1:1<=n) (h2:n<=20):V n n 0 (aH n,dJ n):=⟨by simp [aH],by simp [dJ],uH h1 h2 n 0 (by omega),GR n n 0⟩
def PmL (n:Nat) (gens:List PO):Prop:= ∀o∈gens,∃g,o=some g/\Pm n g
theorem BO {n:Nat} {gens:List PO} {j:Nat} (hj:j<gens.length):Vk n (gens.take (j+1))=Ig n 0 (gens[j].getD []) (Vk n (gens.take j)):=by
 unfold Vk
 rw [Gi,Ac hj,Mn,cG]
 rfl
theorem oM {n:Nat} (h1:1<=n) (h2:n<=20): ∀(gens:List PO) (s:Fk×Fk),PmL n gens->V n n 0 s->V n n 0 (gens.foldl (λs o=>Ig n 0 (o.getD []) s) s)/\
  bI 0 s (gens.foldl (λs o=>Ig n 0 (o.getD []) s) s)/\(∀g,some g∈gens->Gn n ((gens.foldl (λs o=>Ig n 0 (o.getD []) s) s).1.getD 0 []) g)/\ ∀o∈(gens.foldl (λs o=>Ig n 0 (o.getD []) s) s).1.getD 0 [],o∈s.1.getD 0 []\/o∈gens
 | [],s,_,hv=>⟨hv,bI.refl _ _,(λ_ hg=>by cases hg),λ_ ho=> .inl ho⟩
 |o::gens,s,hg,hv=>by
  obtain ⟨g,rfl,Yd⟩:=hg o (by simp)
  have ha:=yo h1 h2 n 0 g s (by omega) hv Yd (λi hi=>absurd hi (Gp _))
  obtain ⟨a1,a2,a3,a4⟩:=oM h1 h2 gens (Ig n 0 g s) (λo ho=>hg o (by simp [ho])) ha.v
  refine ⟨a1,ha.grow.trans a2 (Ap _),λg' eT=>?_,λo ho=>?_⟩
  ·rcases Bd.1 eT with e|eT
   ·cases e;exact ha.Ama.mono λg hg=>a2.OS _ _ hg
   ·exact a3 g' eT
  ·rcases a4 o ho with h|h
   ·rcases ha.gens o h with h|h
    ·exact .inl h
    ·exact .inr (by simp [h])
   ·exact .inr (by simp [h])
theorem BN {n:Nat} (h1:1<=n) (h2:n<=20) {gens:List PO} (hg:PmL n gens):V n n 0 (Vk n gens):=(oM h1 h2 gens _ hg (QI h1 h2)).1
theorem fq {n:Nat} (h1:1<=n) (h2:n<=20) {gens:List PO} (hg:PmL n gens) {p:List Int} (hp:Pm n p):Mz (Vk n gens).2 n 0 p=true↔Gn n gens p:=by
 obtain ⟨a1,a2,a3,a4⟩:=oM h1 h2 gens _ hg (QI h1 h2)
 have hS:OC n λg=>some g∈gens:=⟨⟨h1,h2⟩,λg eT=>by obtain ⟨g',e,h⟩:=hg _ eT;cases e;exact h⟩
 have Yw: ∀g,some g∈(Vk n gens).1.getD 0 []->some g∈gens:= λg eT=>by
  rcases a4 _ eT with h|h
  ·have h:some g∈(aH n).getD 0 []:=h
   rw [cv] at h;cases h
  ·exact h
 have hS':OC n λg=>some g∈(Vk n gens).1.getD 0 []:=⟨⟨h1,h2⟩,λg eT=>hS.2 g (Yw g eT)⟩
 refine (nA h1 h2 n 0 (Vk n gens) (by omega) a1.2.2.1 p hp λi hi=>absurd hi (Gp _)).trans ⟨λh=>h.mono Yw,λh=>h.trans hS' λg eT=>a3 g eT⟩
theorem FQ (n:Int) (gens:List (Option (List Int))) (h:(1<=n/\n<=20)/\List.length gens<=4294967296/\ ∀o∈(gens:List PO),∃g,o=some g/\Pm n.toNat g):
  fnMW bk (look [(133,dc),(176,zO)]) ju Tryz.f157 (n,gens,()) (λ(z:(Int×List (List (Option (List Int)))×List (List (Option (List Int)))×Unit)×Unit)=>z=((n,(Vk n.toNat gens).1,(Vk n.toNat gens).2,()),())):=by
 obtain ⟨⟨h1,h2⟩,h3,hg⟩:=h
 obtain ⟨N,rfl⟩: ∃N:Nat,n=N:=⟨n.toNat,by omega⟩
 rw [Aq] at hg⊢
 have h1:1<=N:=by omega
 have h2:N<=20:=by omega
 refine Eq.mp (HR (N:Int) gens _) ?_
 have hm:((0:Int)<=(N:Int)/\(N:Int)<(Cn:Int)+1):=⟨by omega,by show (N:Int)<(4294967296:Int)+1;omega⟩
 simp only [hm,and_self,eq_self,true_and,Aq,Bu,Fq,Dg,Ix,Ay,Nat.lt_add_one,Av]
 refine Bw N (λv=>v.1) (λj v=>v=((j:Int),aH N,(N:Int),(List.range j).map (eR N),())) rfl rfl ?_
 rintro j v K hj hi rfl hK
 dsimp only
 refine Br.dec (λhl=>?_) λhl=>?_
 ·refine ⟨_,Ab ⟨by show (1:Int)<=N;omega,by show (N:Int)<=20;omega⟩,⟨by omega,by omega⟩,by rw [Aq];omega,?_,?_⟩
  ·show _<=4294967296
   simp only [Dd,List.length_range]
   omega
  ·rw [Bv (by omega)]
   refine hK (by omega) _ rfl ?_
   rw [List.range_succ,Iy]
   rfl
 ·have:j=N:=by omega
  subst this
  refine Bw gens.length (λv=>v.1) (λi v=>v=((i:Int),(Vk j (gens.take i)).1,(j:Int),(Vk j (gens.take i)).2,())) rfl rfl ?_
  rintro i v K' mI Avo rfl hK'
  dsimp only
  refine Br.dec (λMb=>?_) λMb=>?_
  ·have Mb:i<gens.length:=by omega
   obtain ⟨g,vD,Yd⟩:=hg gens[i] (Ak Mb)
   have hv:=BN h1 h2 (gens:=gens.take i) λo ho=>hg o (Ij ho)
   refine ⟨_,Cd Mb,_,Ab ⟨j,0,g,vD,h1,h2,rfl,rfl,Kd _,hv,Yd,λi hi=>absurd hi (Gp _)⟩,?_⟩
   rw [Bv (by omega)]
   refine hK' Mb _ rfl ?_
   rw [BO Mb]
   simp only [Int.sub_zero,Aq]
   rfl
  ·have:i=gens.length:=by omega
   subst this
   rw [Ax]
theorem rE:Dc Tryz.prog 157 ju:=
 Dc.lf pP (Aw rv (Fv MO Bn)) mixed Tryz.func157 (by kernel_rfl) (by kernel_rfl) λx h=>FQ x.1 x.2.1 h
def cd (T:Fk):Nat->Nat
 |0=>1
 |j+1=>cd T j*(No (T.getD j [])).length
noncomputable abbrev ku:Spec:=Gu (.pair (.ptr AO) (.pair tI .unit)) tI false true (λx=>x.2.1=0/\ ∃N:Nat,(1<=N/\N<=20)/\x.1.1=N/\V N N 0 (x.1.2.1,x.1.2.2.1)) (λx=>(cd x.1.2.2.1 x.1.1.toNat:Int))
noncomputable abbrev DU:MSpec:= {Jl:= [none,none],ins:= [(false, .Ft tI),(false, .Ft mE)],Im:=false,Ip:= [none,none,none],outs:= [.Ft tI, .Bp tO teG false, .Bp tO teG false],fn:= λ_=>none,rp:=some 165}
def Wp (n:Int) (g:List (List Int)):Fk×Fk:=Vk n.toNat (g.map some)
noncomputable abbrev Qy:MSpec:=lf DU (λx=>(1<=x.1/\x.1<=20)/\List.length x.2.1<=4294967296/\ ∀g∈(x.2.1:List (List Int)),Pm x.1.toNat g)
 (λx=>((x.1,(Wp x.1 x.2.1).1,(Wp x.1 x.2.1).2,()),()))
noncomputable def Xd (p:PP):Int:=if Bm p=true then (cd (Wp p.1 p.2.2.1).2 p.1.toNat:Int) else 0
noncomputable abbrev Tr:Spec:=Gu (.pair Hk .unit) tI false true (λx=>Dp x.1) (λx=>Xd x.1)
noncomputable def Mk (p:PP) (s:List Int):Bool:=(Bm p&&Hq p.1 s)&&Mz (Wp p.1 p.2.2.1).2 p.1.toNat 0 s
noncomputable abbrev bB:Spec:=Gu (.pair Hk (.pair tL .unit)) .bool false true (λx=>Dp x.1/\short x.2.1) (λx=>Mk x.1 x.2.1)
theorem Ae7 (c:Int×List (List (Option (List Int)))×List (List (Option (List Int)))×Unit) (l:Int) (P:Int->Prop):(Dl (λ(v3:Int×Int×PUnit) (k4:Int×Int×PUnit->Prop)=>Br (decide (v3.2.1<c.1)) (∃(y5:List (Option (List Int))),idx c.2.2.1 v3.2.1=some y5/\ ∃(y6:(List Int×PUnit)×PUnit),Rr.fn (y5,())=some y6/\ ∃(y7:Int),Uh.fn (List.take y6.1.1.length (List.drop 0 y6.1.1),())=some y7/\k4 (IntKind.i64.wrap (v3.1*y7),IntKind.i64.wrap (v3.2.1+(1:Int)),())) (P v3.1)) ((1:Int),l,PUnit.unit))=fnW bk (look [(178,Rr),(105,Uh)]) ku Tryz.f168 (c,l,()) P:=by kernel_rfl
theorem BF (p:Int×ByteArray×List (List Int)×Unit) (P:Int->Prop):(∃(y2:Bool),Ge.fn ((p.1,p.2.1,p.2.2.1,()),())=some y2/\Br (!y2) (P (0:Int)) (∃(y3:(Int×List (List (Option (List Int)))×List (List (Option (List Int)))×PUnit)×PUnit),Qy.fn (p.1,p.2.2.1,())=some y3/\ ∃(y4:Int),ku.fn ((y3.1.1,List.take y3.1.2.1.length (List.drop 0 y3.1.2.1),List.take y3.1.2.2.1.length (List.drop 0 y3.1.2.2.1),()),(0:Int),())=some y4/\P y4))=fnW Fz (look [(99,Ge),(157,Qy),(168,ku)]) Tr Tryz.f142 (p,()) P:=by kernel_rfl
theorem Ady (n i:Nat):(upto n).countP (λy=>decide ((i:Int)<=y))=n-i:=by
 induction n with
 |zero=>simp [upto]
 |succ n ih=>
  rw [bG,List.countP_append,ih]
  simp only [List.countP_cons,List.countP_nil,Nv]
  split<;>omega
theorem Ada {n i:Nat} {gs:List PO} {row:Row} {H:List Int->Prop} (hi:i<n) (h:Lvl n i gs row H):(No row).length<=n-i:=by
 rw [<-Ady n i]
 unfold No
 rw [h.rl,<-List.countP_eq_length_filter]
 refine List.countP_mono_left λy hy hs=>?_
 obtain ⟨h1,h2⟩:=Oi.1 hy
 obtain ⟨t,ht⟩:=Xv.1 hs
 obtain ⟨t1,t2,t3,_⟩:=h.rt _ _ ht
 refine Ec ?_
 refine Bo λhn=>?_
 have hy':y.toNat<i:=by omega
 have:=t1.inj hi (by omega:y.toNat<n) (by rw [t3,t2 _ hy'])
 omega
def fact:Nat->Nat
 |0=>1
 |n+1=>(n+1)*fact n
theorem CW: ∀n,1<=fact n
 |0=>Ap _
 |n+1=>by have:=CW n;simp only [fact];exact Kh this (Nat.le_mul_of_pos_left _ (by omega))
theorem RJ {a b:Nat} (h:a<=b):fact a<=fact b:=by
 induction h with
 |refl=>exact Ap _
 |step _ ih=>simp only [fact];exact Kh ih (Nat.le_mul_of_pos_left _ (by omega))
theorem ZE {n:Nat} {s:Fk×Fk} (hc:ky n n 0 s): ∀j,j<=n->cd s.2 j*fact (n-j)<=fact n
 |0,_=>by simp [cd]
 |j+1,hj=>by
  have ih:=ZE hc j (by omega)
  have h1:=Ada (by omega) (mU n 0 hc j (by omega) (by omega))
  have e:n-j=(n-(j+1))+1:=by omega
  simp only [cd]
  rw [e] at ih h1
  simp only [fact] at ih
  rw [Nat.mul_assoc]
  exact Kh (Nat.mul_le_mul_left _ (Fa _ h1)) ih
theorem SO {n:Nat} (h2:n<=20) {s:Fk×Fk} (hc:ky n n 0 s) {j:Nat} (hj:j<=n):cd s.2 j<=2432902008176640000:=by
 have h1:=ZE hc j hj
 have h3:=CW (n-j)
 have h4:fact n<=2432902008176640000:=Kh (RJ h2) (by decide)
 have h5:cd s.2 j*1<=cd s.2 j*fact (n-j):=Nat.mul_le_mul_left _ h3
 omega
theorem Adi (c:Int×List (List (Option (List Int)))×List (List (Option (List Int)))×Unit) (l:Int) (h:l=0/\ ∃N:Nat,(1<=N/\N<=20)/\c.1=N/\V N N 0 (c.2.1,c.2.2.1)):
  fnW bk (look [(178,Rr),(105,Uh)]) ku Tryz.f168 (c,l,()) (λ(z:Int)=>z=(cd c.2.2.1 c.1.toNat:Int)):=by
 obtain ⟨rfl,N,⟨h1,h2⟩,hN,v⟩:=h
 obtain ⟨n,G,T,⟨⟩⟩:=c
 dsimp only at hN v⊢
 subst hN
 refine Eq.mp (Ae7 ((N:Int),G,T,()) 0 _) ?_
 obtain ⟨v1,v2,v3,v4⟩:=v
 dsimp only at v1 v2⊢
 rw [Aq]
 refine Bw N (λv=>v.2.1) (λj v=>v.1=(cd T j:Int)) rfl rfl ?_
 rintro j ⟨o,i,⟨⟩⟩ K hj hi ho hK
 dsimp only at hi ho⊢
 subst hi ho
 refine Br.dec (λhl=>?_) λhl=>?_
 ·have hl:j<N:=by omega
  have hT:j<T.length:=by omega
  have bd:=mU N 0 v3 j (by omega) (by omega)
  have hrl:=bd.rl
  dsimp only at hrl
  rw [DD hT] at hrl
  refine ⟨_,Cd hT,_,Ab (by show (T[j]).length<=20;omega),_,Ab trivial,?_⟩
  rw [Ds,Ax,Bv (by omega)]
  have hb:=SO h2 v3 (j:=j+1) (by omega)
  simp only [cd] at hb
  rw [DD hT] at hb
  have e:(cd T j:Int)*((No T[j]).length:Int)=((cd T j*(No T[j]).length:Nat):Int):=by push_cast;rfl
  show K (IntKind.i64.wrap ((cd T j:Int)*((No T[j]).length:Int)),_,())
  rw [e,Cy (by omega) (by omega)]
  refine hK hl _ rfl ?_
  simp only [cd]
  rw [DD hT]
 ·have:j=N:=by omega
  subst this
  rfl
theorem GQ:Sound Tryz.prog 168 ku:=
 Sound.Gu pP (Fv lp (Aw fY Bn)) mixed Tryz.func168 (by kernel_rfl) (by kernel_rfl) λx h=>Adi x.1 x.2.1 h
theorem Cells.told {w:World} {S:Nat->Prop} {e:Ty} {cs:List Value} {xs:List e.den} (h:Cells w S (.slice e) cs xs): ∃o:Option (List e.den),Cells w S (.oslice e) cs o/\o.getD []=xs:=by
 simp only [Cells] at h
 obtain ⟨a,len,cap,rfl,h1,h2,h3⟩:=h
 cases a with
 |none=>
  rcases h3 with rfl|⟨g,o,h,_⟩
  ·refine ⟨none,?_,rfl⟩
   simp only [Cells]
   exact .inl ⟨trivial,cap,by rw [h1];rfl⟩
  ·cases h
 |some ad=>
  refine ⟨some xs,?_,rfl⟩
  simp only [Cells]
  exact .inr ⟨xs,ad,len,cap,rfl,rfl,h1,h2,h3.imp id λ⟨g,o,h,h4⟩=>⟨g,o,Bc h,h4⟩⟩
theorem IK {α β:Type} (Q:Nat->α->β->Prop): ∀(xs:List α),(∀i x,xs[i]?=some x-> ∃y,Q i x y)-> ∃ys:List β,ys.length=xs.length/\ ∀i x y,xs[i]?=some x->ys[i]?=some y->Q i x y:=by
 intro xs h
 refine ⟨List.ofFn λi:Fin xs.length=>Classical.choose (h i xs[i] (Ac i.2)),by simp,λi x y h1 h2=>?_⟩
 obtain ⟨hi,rfl⟩:=Am.1 h1
 obtain ⟨mI,rfl⟩:=Am.1 h2
 rw [List.getElem_ofFn]
 exact Classical.choose_spec (h i xs[i] (Ac hi))
theorem Cu.Ana {w:World} {S:Nat->Prop} {e:Ty} {v:Value} {xs:List (List e.den)} (h:Cu w S (.slice (.slice e)) v xs): ∃os:List (Option (List e.den)),Cu w S (.slice (.oslice e)) v os/\os.map (·.getD [])=xs:=by
 obtain ⟨cs,hc,rfl⟩:=h
 simp only [Cells] at hc
 obtain ⟨a,len,cap,rfl,h1,h2,h3⟩:=hc
 rcases h3 with rfl|⟨g,o,rfl,hg,hS,h4⟩
 ·refine ⟨[],⟨_,?_,rfl⟩,rfl⟩
  simp only [Cells]
  exact ⟨a,len,cap,rfl,h1,h2, .inl trivial⟩
 ·obtain ⟨os,e1,e2⟩:=IK (λi (x:List e.den) (y:Option (List e.den))=>y.getD []=x/\ ∃es:List Value,es.length=1/\(∀j u,es[j]?=some u->w.cell? ⟨g,o+i*1+j,none⟩=some u)/\Cells w S (.oslice e) es y) xs λi x hx=>by
   obtain ⟨es,k1,k2,k3⟩:=h4 i x hx
   obtain ⟨y,k4,k5⟩:=Cells.told (e:=e) (by simp only [Cells];exact k3)
   exact ⟨y,k5,es,k1,k2,k4⟩
  refine ⟨os,⟨_,?_,rfl⟩,?_⟩
  ·simp only [Cells]
   refine ⟨_,len,cap,rfl,by rw [h1,e1],h2, .inr ⟨g,o,rfl,hg,hS,λi y hy=>?_⟩⟩
   obtain ⟨hi,_⟩:=Am.1 hy
   obtain ⟨_,es,k1,k2,k3⟩:=e2 i _ y (Ac (by omega)) hy
   simp only [Cells] at k3
   exact ⟨es,k1,k2,k3⟩
  ·refine List.ext_getElem (by simp [e1]) λi g1 g2=>?_
   rw [Tx]
   exact (e2 i _ _ (Ac g2) (Ac (by omega))).1
theorem jx:Dc Tryz.prog 157 Qy:=by
 have h:=rE
 refine ⟨h.enter,λw S π us x r o g vs h1 hg h2 h3 hS h4 h5=>?_⟩
 obtain ⟨n,gens,⟨⟩⟩:=x
 match us,h2 with
 |u1::u2::us,h2=>
  obtain ⟨h6,⟨h7,h8⟩,h9⟩:=h2
  obtain ⟨os,qd,kW⟩:=Cu.Ana (e:=tI) h8
  have kW:os.map (·.getD [])=(gens:List (List Int)):=kW
  have rh:(1<=n/\n<=20)/\List.length gens<=4294967296/\ ∀g∈(gens:List (List Int)),Pm n.toNat g:=Bo λhn=>by
   have:Qy.fn (n,gens,())=none:=Aj hn
   rw [this] at h5;cases h5
  have hos:os=gens.map some:=by
   rw [<-kW,List.map_map]
   refine (List.map_id os).symm.trans (Ev λx hx=>?_)
   cases x with
   |some y=>rfl
   |none=>
    have:=rh.2.2 [] (by rw [<-kW];exact Be.2 ⟨none,hx,rfl⟩)
    have h1:=this.n1
    have h2:=this.1
    simp at h2
    omega
  have hv:Qy.fn (n,gens,())=some ((n,(Wp n gens).1,(Wp n gens).2,()),()):=Ab rh
  rw [hv] at h5
  have h5:=Bc h5
  refine h.calls w S π (u1::u2::us) (n,os,()) r o g vs h1 hg ⟨h6,⟨h7,qd⟩,h9⟩ h3 hS h4 ?_
  refine (Ab ⟨rh.1,by rw [hos,Dd];exact rh.2.1,λy hy=>?pp⟩).trans (Dk some ?qq)
  case pp=>
   replace hy:y∈os:=hy
   rw [hos] at hy
   obtain ⟨g,hg,rfl⟩:=Be.1 hy
   exact ⟨g,rfl,rh.2.2 g hg⟩
  case qq=>subst hos;exact h5
theorem bP {p:PP} (hv:Valid p):(1<=p.1/\p.1<=20)/\List.length p.2.2.1<=4294967296/\ ∀g∈p.2.2.1,Pm p.1.toNat g:=
 ⟨hv.n,by have:=hv.kB;omega,λg hg=>⟨by have:=hv.len g hg;omega,dE (hv.perm g hg)⟩⟩
theorem jd {n:Nat} {g:List (List Int)} (h: ∀x∈g,Pm n x):PmL n (g.map some):= λo ho=>by
 obtain ⟨x,hx,rfl⟩:=Be.1 ho
 exact ⟨x,rfl,h x hx⟩
theorem rK {p:PP} (hv:Valid p):V p.1.toNat p.1.toNat 0 (Wp p.1 p.2.2.1):=by
 have:=hv.n
 exact BN (by omega) (by omega) (jd (bP hv).2.2)
theorem zx (p:PP) (h:Dp p):fnW Fz (look [(99,Ge),(157,Qy),(168,ku)]) Tr Tryz.f142 (p,()) (λ(z:Int)=>z=Xd p):=by
 refine Eq.mp (BF p _) ⟨_,Ab h,?_⟩
 show Br (!Bm p) _ _
 unfold Xd
 cases hv:Bm p with
 |false=>exact Br.of (λ_=>rfl) λhh=>by cases hh
 |true=>
  refine Br.of (λhh=>by cases hh) λ_=>?_
  have hV:=valid hv
  have hn:=hV.n
  refine ⟨_,Ab (bP hV),_,Ab ⟨rfl,p.1.toNat,⟨by omega,by omega⟩,(Sl (by omega:(0:Int)<=p.1)).symm,?vv⟩,?_⟩
  case vv=>
   simp only [Ds,Ax]
   exact rK hV
  simp only [Ds,Ax]
  exact (Ab trivial).symm
theorem pM:Sound Tryz.prog 142 Tr:=
 Sound.Gu Dq (Aw Tt (Fv jx (Aw GQ Bn))) mixed Tryz.func142 (by kernel_rfl) (by kernel_rfl) λx h=>zx x.1 h
theorem eD {α:Type} [DecidableEq α]: ∀ {l1 l2:List α},l1.Nodup->(∀x∈l1,x∈l2)->l1.length<=l2.length
 | [],_,_,_=>Kd _
 |a::l,l2,hn,hs=>by
  obtain ⟨h1,h2⟩:=Cb.1 hn
  have ha:=hs a (by simp)
  have:=eD (l1:=l) (l2:=l2.erase a) h2 λy hy=>by
   have hya:y≠a:= λe'=>h1 (by rw [<-e'];exact hy)
   exact (List.mem_erase_of_ne hya).2 (hs y (by simp [hy]))
  rw [List.length_erase_of_mem ha] at this
  have:=List.length_pos_of_mem ha
  simp only [Ay]
  omega
def pe (n:Nat) (T:Fk):Nat->Nat->List (List Int)
 |0,_=> [upto n]
 |k+1,l=>(No (T.getD l [])).flatMap λy=>(pe n T k (l+1)).map λq=>Ai q (((T.getD l []).getD y.toNat none).getD [])
def xG (T:Fk):Nat->Nat->Nat
 |0,_=>1
 |k+1,l=>(No (T.getD l [])).length*xG T k (l+1)
theorem EO (n:Nat) (T:Fk): ∀k l,(pe n T k l).length=xG T k l
 |0,_=>rfl
 |k+1,l=>by
  simp only [pe,xG,List.length_flatMap,Dd,EO n T k (l+1)]
  generalize No (T.getD l [])=o
  induction o with
  |nil=>simp
  |cons a o ih=>simp only [Bz,List.sum_cons,ih,Ay,Nat.succ_mul];omega
theorem xy (T:Fk): ∀k j,cd T (j+k)=cd T j*xG T k j
 |0,j=>by simp [xG]
 |k+1,j=>by
  have:=xy T k (j+1)
  rw [show j+(k+1)=j+1+k by omega,this]
  simp only [cd,xG]
  rw [Nat.mul_assoc]
theorem FG (n:Nat) (T:Fk):(pe n T n 0).length=cd T n:=by
 rw [EO,show cd T n=cd T (0+n) by rw [Bu],xy]
 simp [cd]
theorem tA {n:Nat} (h1:1<=n) (h2:n<=20) {s:Fk×Fk} : ∀(k l:Nat),l+k=n->ky n k l s-> ∀p,p∈pe n s.2 k l↔Pm n p/\Fx l p/\Mz s.2 k l p=true
 |0,l,hk,hc,p=>by
  have hl:l=n:=by omega
  subst hl
  simp only [pe,Ad]
  exact ⟨λe=>by subst e;exact ⟨Pm.id h1 h2,λi hi=>kL hi,rfl⟩,λh=>h.2.1.all h.1⟩
 |k+1,l,hk,hc,p=>by
  obtain ⟨c1,c2,c3⟩:=hc
  have ih:=tA h1 h2 k (l+1) (by omega) c1
  have gz:l<n:=by omega
  simp only [pe,He,Be]
  constructor
  ·rintro ⟨y,hy,q,hq,rfl⟩
   obtain ⟨yn,rfl,hyn⟩:=Ve.1 hy
   obtain ⟨t,ht⟩:=Nu.1 hyn
   obtain ⟨t1,t2,t3,t4⟩:=c2.rt _ _ ht
   obtain ⟨q1,q2,q3⟩:=(ih q).1 hq
   rw [Aq,ht,Ct]
   have hap:ap (Ai q t) l=yn:=by rw [Kj q1 t1 gz,q2 l (by omega),t3]
   refine ⟨q1.comp t1,λi hi=>by rw [Kj q1 t1 (by omega),q2 i (by omega),t2 i hi],?_⟩
   simp only [Mz]
   rw [show (Hu (Ai q t) (l:Int)).toNat=ap (Ai q t) l from rfl,hap,ht]
   show Mz s.2 k (l+1) (Ai (Ai q t) (Bg t))=true
   rw [Hb q1 t1 t1.inv,dX t1,comp_id q1]
   exact q3
  ·rintro ⟨p1,p2,p3⟩
   simp only [Mz] at p3
   rw [show (Hu p (l:Int)).toNat=ap p l from rfl] at p3
   split at p3
   ·cases p3
   ·rename_i t ht
    obtain ⟨t1,t2,t3,t4⟩:=c2.rt _ _ ht
    refine ⟨(ap p l:Int),Ve.2 ⟨ap p l,rfl,by rw [ht];simp⟩,Ai p (Bg t),(ih _).2 ⟨p1.comp t1.inv,Fx.div p1 t1 p2 t2 gz t3,p3⟩,?_⟩
    rw [Aq,ht,Ct,Hb p1 t1.inv t1,c7 t1,comp_id p1]
theorem tC {n:Nat} (h1:1<=n) (h2:n<=20) {s:Fk×Fk} : ∀(k l:Nat),l+k=n->ky n k l s->(pe n s.2 k l).Nodup
 |0,l,hk,hc=>by simp [pe]
 |k+1,l,hk,hc=>by
  obtain ⟨c1,c2,c3⟩:=hc
  have ih:=tC h1 h2 k (l+1) (by omega) c1
  have hm:=tA h1 h2 k (l+1) (by omega) c1
  have gz:l<n:=by omega
  have rep: ∀y∈No (s.2.getD l []),∃(yn:Nat) (t:List Int),y=yn/\((s.2.getD l []).getD y.toNat none).getD []=t/\Pm n t/\ap t l=yn:= λy hy=>by
   obtain ⟨yn,rfl,hyn⟩:=Ve.1 hy
   obtain ⟨t,ht⟩:=Nu.1 hyn
   obtain ⟨t1,t2,t3,t4⟩:=c2.rt _ _ ht
   exact ⟨yn,t,rfl,by rw [Aq,ht];rfl,t1,t3⟩
  simp only [pe]
  refine List.pairwise_flatMap.2 ⟨λy hy=>?_,?_⟩
  ·obtain ⟨yn,t,rfl,e,t1,t3⟩:=rep y hy
   rw [e]
   refine List.pairwise_map.2 (List.Pairwise.imp_of_mem ?_ ih)
   intro a b ha hb Jd he
   have ha:=((hm a).1 ha).1
   have hb:=((hm b).1 hb).1
   have h3:=Dk (λz=>Ai z (Bg t)) he
   simp only [Hb ha t1 t1.inv,Hb hb t1 t1.inv,dX t1,comp_id ha,comp_id hb] at h3
   exact Jd h3
  ·refine List.Pairwise.imp_of_mem ?_ ((uT _).filter _)
   intro y z hy hz Jd a ha b hb he
   obtain ⟨yn,t,rfl,e,t1,t3⟩:=rep y hy
   obtain ⟨zn,u,rfl,e',u1,u3⟩:=rep z hz
   rw [e] at ha
   rw [e'] at hb
   obtain ⟨q,hq,rfl⟩:=Be.1 ha
   obtain ⟨q',jW,rfl⟩:=Be.1 hb
   obtain ⟨a1,a2,_⟩:=(hm q).1 hq
   obtain ⟨b1,b2,_⟩:=(hm q').1 jW
   have h3:=Dk (λz=>ap z l) he
   simp only [Kj a1 t1 gz,Kj b1 u1 gz,a2 l (by omega),b2 l (by omega),t3,u3] at h3
   exact Jd (by rw [h3])
theorem oO {g:List (List Int)} (Q:List Int->Prop) {x:List Int} {d:Int} : ∀(ls:List Int) (L:List (List Int)) (D:List Int),(∀l∈ls,Q (Ai x (Au g l)))->(∀y∈L,Q y)->
  (∀y∈(Ht g x d ls L D).1,Q y)/\(∀y∈L,y∈(Ht g x d ls L D).1)/\((Ht g x d ls L D).2.2=true-> ∀l∈ls,Ai x (Au g l)∈(Ht g x d ls L D).1)/\
   ((Ht g x d ls L D).2.2=false->(Ht g x d ls L D).1.length=3000/\ ∃z,Q z/\z∉(Ht g x d ls L D).1)
 | [],L,D,_,h=>⟨h,λ_ h=>h,(λ_ l hl=>by cases hl),(λe=>by cases e)⟩
 |l::ls,L,D,hq,h=>by
  have jW: ∀l∈ls,Q (Ai x (Au g l)):= λl' h'=>hq l' (An _ h')
  simp only [Ht]
  split
  ·rename_i hm
   obtain ⟨a1,a2,a3,a4⟩:=oO Q (d:=d) ls L D jW h
   refine ⟨a1,a2,λe l' Mb=>?_,a4⟩
   rcases Bd.1 Mb with rfl|Mb
   ·exact a2 _ hm
   ·exact a3 e l' Mb
  ·rename_i hn
   split
   ·rename_i hf
    exact ⟨h,λ_ h=>h,(λe=>by cases e),λ_=>⟨hf,_,hq l (by simp),hn⟩⟩
   ·obtain ⟨a1,a2,a3,a4⟩:=oO Q (d:=d) ls (L++ [Ai x (Au g l)]) (D++ [d+1]) jW λy hy=>by
     rcases Az.1 hy with hy|hy
     ·exact h y hy
     ·rw [Ad.1 hy];exact hq l (by simp)
    refine ⟨a1,λy hy=>a2 y (Bj _ hy),λe l' Mb=>?_,a4⟩
    rcases Bd.1 Mb with rfl|Mb
    ·exact a2 _ (Cf _ (by simp))
    ·exact a3 e l' Mb
theorem wR {p:PP} (hV:Valid p) {m:Nat} {ls:List Int} (hl: ∀l∈ls,Il (List.length p.2.2.1) l) (Q:List Int->Prop) (hQ: ∀x,Q x-> ∀l∈ls,Q (Ai x (Au p.2.2.1 l))):
  ∀(f k:Nat) (L:List (List Int)) (D:List Int),3001<=f+k->k<=L.length->Tw p m L D->(∀y∈L,Q y)->(∀(j:Nat) (h:j<L.length),j<k-> ∀l∈ls,Ai L[j] (Au p.2.2.1 l)∈L)->
  (∀y∈(Jz p.2.2.1 ls f k L D).1,Q y)/\((Jz p.2.2.1 ls f k L D).2.2=true-> ∀x∈(Jz p.2.2.1 ls f k L D).1,∀l∈ls,Ai x (Au p.2.2.1 l)∈(Jz p.2.2.1 ls f k L D).1)/\
   ((Jz p.2.2.1 ls f k L D).2.2=false->(Jz p.2.2.1 ls f k L D).1.length=3000/\ ∃z,Q z/\z∉(Jz p.2.2.1 ls f k L D).1)
 |0,k,L,D,hf,XH,hb,hq,hc=>by
  have:=hb.ok.kB
  omega
 |f+1,k,L,D,hf,XH,hb,hq,hc=>by
  simp only [Jz]
  split
  ·rename_i hk
   have DM:k<D.length:=by rw [hb.len];exact hk
   have hd:=hb.dep k DM
   have e:D.getD k 0=D[k]:=by rw [Ah,Ac DM];rfl
   rw [Uu hk,e]
   obtain ⟨k1,⟨A,k2⟩,_⟩:=mR hV (hb.row _ (Ak hk)) (hb.ok.len _ (Ak hk)) (d:=D[k]) ls L D hl hb ⟨by omega,by omega⟩
   obtain ⟨a1,a2,a3,a4⟩:=oO (g:=p.2.2.1) Q (x:=L[k]) (d:=D[k]) ls L D (hQ _ (hq _ (Ak hk))) hq
   split
   ·rename_i L' D' he
    rw [he] at k1 k2 a1 a2 a3 a4
    have k2:L'=L++A:=k2
    refine wR hV hl Q hQ f (k+1) L' D' (by omega) (by rw [k2,Av];omega) k1 a1 λj hj hjk l Mb=>?_
    by_cases e':j<k
    ·have e2:L'[j]=L[j]:=by simp only [k2];rw [Lz (by omega)]
     rw [e2];exact a2 _ (hc j (by omega) e' l Mb)
    ·have:j=k:=by omega
     subst this
     have e2:L'[j]=L[j]:=by simp only [k2];rw [Lz (by omega)]
     rw [e2];exact a3 rfl l Mb
   ·rename_i L' D' he
    rw [he] at a1 a4
    exact ⟨a1,(λe=>by cases e),λ_=>a4 rfl⟩
  ·rename_i hk
   refine ⟨hq,λ_ x hx l Mb=>?_,λe=>by cases e⟩
   obtain ⟨j,hj,rfl⟩:=Bf.1 hx
   have hj:j<L.length:=hj
   exact hc j hj (by omega) l Mb
theorem OG {p:PP} (hv:Bm p=true) {s:List Int} (hs:s.length<=20) (hr: ∀y∈s,0<=y/\y<p.1) (Q:List Int->Prop) (hQs:Q s) (hQ: ∀x,Q x-> ∀l∈Bi p.2.2.1.length,Q (Ai x (Au p.2.2.1 l))):
  (∀y∈(Gd p.2.2.1 s).1,Q y)/\((Gd p.2.2.1 s).2.2=true-> ∀x∈(Gd p.2.2.1 s).1,∀l∈Bi p.2.2.1.length,Ai x (Au p.2.2.1 l)∈(Gd p.2.2.1 s).1)/\
   ((Gd p.2.2.1 s).2.2=false->(Gd p.2.2.1 s).1.length=3000/\ ∃z,Q z/\z∉(Gd p.2.2.1 s).1):=
 wR (valid hv) (λ_ hl=>Ku hl) Q hQ 3001 0 [s] [0] (by omega) (Kd _) (dT hs hr) (λy hy=>by rw [Ad.1 hy];exact hQs) λj _ hj=>absurd hj (Gp _)
theorem eP {g:List (List Int)} {x:List Int} :some x∈g.map some↔x∈g:=by simp
theorem KN {n:Nat} {g:List (List Int)} {x:List Int} (h:Gn n (g.map some) x) {l:Int} (hl:l∈Bi g.length):Gn n (g.map some) (Ai x (Au g l)):=by
 obtain ⟨k,hk,rfl|rfl⟩:=Qt (Ku hl)
 ·rw [Ox hk];exact .mul h (eP.2 (Ak hk))
 ·rw [Ow hk];exact .inv h (eP.2 (Ak hk))
theorem Qk {n k:Nat} (hk:k<n):(k:Int)+1∈Bi n/\ -((k:Int)+1)∈Bi n:=by
 unfold Bi
 exact ⟨He.2 ⟨k,Et.2 hk,by simp⟩,He.2 ⟨k,Et.2 hk,by simp⟩⟩
theorem JM {n:Nat} {g:List (List Int)} {L:List (List Int)} (h0:upto n∈L) (hc: ∀x∈L,∀l∈Bi g.length,Ai x (Au g l)∈L) {p:List Int} (hp:Gn n (g.map some) p):p∈L:=by
 induction hp with
 |id=>exact h0
 |mul _ hg ih=>
  obtain ⟨k,hk,rfl⟩:=Bf.1 (eP.1 hg)
  have:=hc _ ih _ (Qk hk).1
  rwa [Ox hk] at this
 |inv _ hg ih=>
  obtain ⟨k,hk,rfl⟩:=Bf.1 (eP.1 hg)
  have:=hc _ ih _ (Qk hk).2
  rwa [Ow hk] at this
structure Reach (p:PP) (L:List (List Int)) (D:List Int) (whole:Bool):Prop where
 ok:Tw p p.1.toNat L D
 nodup:L.Nodup
 first: ∃A,L=upto p.1.toNat::A
 gen: ∀x∈L,Gn p.1.toNat (p.2.2.1.map some) x
 all:whole=true-> ∀x,Gn p.1.toNat (p.2.2.1.map some) x->x∈L
 big:whole=false->L.length=3000/\ ∃z,Gn p.1.toNat (p.2.2.1.map some) z/\z∉L
theorem Gw.nodup {m:Nat} {L:List (List Int)} {Nk:List Int} (h:Gw m L Nk):L.Nodup:=
 El.2 λi j hi hj kD e=>by have:=h.inj hi hj e;omega
theorem jk {p:PP} (hv:Bm p=true):Reach p (Gd p.2.2.1 (upto p.1.toNat)).1 (Gd p.2.2.1 (upto p.1.toNat)).2.1 (Gd p.2.2.1 (upto p.1.toNat)).2.2:=by
 have hV:=valid hv
 have hn:=hV.n
 have hl:(upto p.1.toNat).length=p.1.toNat:=Ti _
 have hr: ∀y∈upto p.1.toNat,0<=y/\y<p.1:= λy hy=>by have:=Oi.1 hy;omega
 obtain ⟨b1,b2⟩:=yu hv (by omega) hr
 rw [hl] at b1
 obtain ⟨a1,a2,a3⟩:=OG hv (by omega) hr (λx=>Gn p.1.toNat (p.2.2.1.map some) x) .id λx hx l hl=>KN hx hl
 exact ⟨b1,b1.ok.nodup,b2,a1,λhw x hx=>JM (by obtain ⟨A,e⟩:=b2;rw [e];simp) (a2 hw) hx,a3⟩
theorem cV {p:PP} (hV:Valid p) {x:List Int} :x∈pe p.1.toNat (Wp p.1 p.2.2.1).2 p.1.toNat 0↔Gn p.1.toNat (p.2.2.1.map some) x:=by
 have hn:=hV.n
 have hg:=jd (bP hV).2.2
 have hS:OC p.1.toNat λg=>some g∈p.2.2.1.map some:=⟨⟨by omega,by omega⟩,λg eT=>by obtain ⟨g',e,h⟩:=hg _ eT;cases e;exact h⟩
 refine (tA (by omega) (by omega) _ 0 (by omega) (rK hV).2.2.1 x).trans ⟨λh=>(fq (by omega) (by omega) hg h.1).1 h.2.2,λh=>?_⟩
 have hp:=cE.pm hS h
 exact ⟨hp,λi hi=>absurd hi (Gp _),(fq (by omega) (by omega) hg hp).2 h⟩
theorem vK {p:PP} (hV:Valid p):(pe p.1.toNat (Wp p.1 p.2.2.1).2 p.1.toNat 0).Nodup:=by
 have hn:=hV.n
 exact tC (by omega) (by omega) _ 0 (by omega) (rK hV).2.2.1
theorem count_eq {p:PP} (hv:Bm p=true):Xd p=((pe p.1.toNat (Wp p.1 p.2.2.1).2 p.1.toNat 0).length:Int):=by
 unfold Xd
 rw [Ab hv,FG]
theorem CM {p:PP} (hv:Bm p=true):(Gd p.2.2.1 (upto p.1.toNat)).2.2=decide (1<=Xd p/\Xd p<=3000):=by
 have hV:=valid hv
 have h:=jk hv
 rw [count_eq hv]
 have IC:=vK hV
 have h1:=eD h.nodup λx hx=>(cV hV).2 (h.gen x hx)
 obtain ⟨A,hA⟩:=h.first
 have JY:1<=(Gd p.2.2.1 (upto p.1.toNat)).1.length:=by rw [hA];simp
 cases hw:(Gd p.2.2.1 (upto p.1.toNat)).2.2 with
 |true=>
  have h2:=eD IC λx hx=>h.all hw x ((cV hV).1 hx)
  have h3:=h.ok.ok.kB
  exact (Ec ⟨by omega,by omega⟩).symm
 |false=>
  obtain ⟨h2,z,h3,h4⟩:=h.big hw
  have h5:=eD (l1:=z::(Gd p.2.2.1 (upto p.1.toNat)).1) (Cb.2 ⟨h4,h.nodup⟩) λx hx=>by
   rcases Bd.1 hx with rfl|hx
   ·exact (cV hV).2 h3
   ·exact (cV hV).2 (h.gen x hx)
  simp only [Ay] at h5
  exact (Fu (by omega)).symm
def Xe (g:List (List Int)) (s:List Int):List (List Int):=(Bi g.length).map λl=>Ai s (Au g l)
noncomputable abbrev kr:Spec:=Gu (.pair Hk (.pair tL .unit)) mE false true (λx=>Bm x.1=true/\List.length x.2.1<=20/\ ∀y∈x.2.1,0<=y/\y<x.1.1) (λx=>Xe x.1.2.2.1 x.2.1)
abbrev EX:Type:=List (List Int)×List Int×List Int×List Int
def sJ (g:List (List Int)) (k:Int) (x:List Int) (d:Int):List Int->EX->List Int->EX×List Int
 | [],s,row=>(s,row)
 |l::ls,s,row=>if Ai x (Au g l)∈s.1 then sJ g k x d ls s (row++ [(s.1.idxOf (Ai x (Au g l)):Int)])
  else sJ g k x d ls (s.1++ [Ai x (Au g l)],s.2.1++ [d+1],s.2.2.1++ [k],s.2.2.2++ [l]) (row++ [(s.1.length:Int)])
def vA (g:List (List Int)) (ls:List Int):Nat->Nat->EX->List (List Int)->EX×List (List Int)
 |0,_,s,N=>(s,N)
 |f+1,k,s,N=>if k<s.1.length then vA g ls f (k+1) (sJ g (k:Int) (s.1.getD k []) (s.2.1.getD k 0) ls s []).1 (N++ [(sJ g (k:Int) (s.1.getD k []) (s.2.1.getD k 0) ls s []).2]) else (s,N)
def j6 (key:ByteArray):List (List Int)->Nat->Option Int
 | [],_=>none
 |x::r,i=>if Mp x=key then some (i:Int) else j6 key r (i+1)
def Zw (L:List (List Int)):ByteArray->Option Int:= λkey=>j6 key L 0
def Ajz (p:PP) (r:EX×List (List Int)):uN.den:=(p,r.1.1,r.1.2.1,Zw r.1.1,r.1.2.2.1,r.1.2.2.2,r.2,())
def Rx (p:PP):uN.den:=Ajz p (vA p.2.2.1 (Bi p.2.2.1.length) 3001 0 ([upto p.1.toNat],[0],[0],[0]) [])
noncomputable def Fp (p:PP):Bool:=Bm p&&(Gd p.2.2.1 (upto p.1.toNat)).2.2
noncomputable abbrev Wb:Spec:=Gu (.pair Hk .unit) (.pair (.optr uN) (.pair .bool .unit)) true false (λx=>Dp x.1) (λx=>if Fp x.1=true then (some (Rx x.1),true,()) else (none,false,()))
abbrev GW:Type:=Int×Int×ByteArray×List (List Int)×List (List Int)×PUnit
theorem Ae6 (p:Int×ByteArray×List (List Int)×Unit) (s:List Int) (P:List (List Int)->Prop):(∃(y3:List Int),Nx.fn ((↑p.2.2.1.length:Int),())=some y3/\0=0/\0=([]:List Int).length/\Dl (λ(v4:GW) (k5:GW->Prop)=>Br (decide (v4.1<(↑y3.length:Int))) (∃(y6:Int),idx y3 v4.1=some y6/\ ∃(y7:List Int),Jv.fn (v4.2.2.2.1,y6,())=some y7/\ ∃(y8:List Int),Lf.fn (s,y7,())=some y8/\0=0/\v4.2.2.2.2.1.length=v4.2.2.2.2.1.length/\v4.2.2.2.2.1.length+(List.take 1 (List.drop 0 [y8])).length<=Cn/\0=0/\(v4.2.2.2.2.1++List.take 1 (List.drop 0 [y8])).length=(v4.2.2.2.2.1++List.take 1 (List.drop 0 [y8])).length/\k5 (IntKind.i64.wrap (v4.1+(1:Int)),v4.2.1,v4.2.2.1,v4.2.2.2.1,v4.2.2.2.2.1++List.take 1 (List.drop 0 [y8]),())) (P (List.take v4.2.2.2.2.1.length (List.drop 0 v4.2.2.2.2.1)))) ((0:Int),p.1,p.2.1,p.2.2.1,[],PUnit.unit))=fnW Fz (look [(139,Nx),(135,Jv),(134,Lf)]) kr Tryz.f143 (p,s,()) P:=by kernel_rfl
theorem Adh (p:PP) (s:List Int) (h:Bm p=true/\s.length<=20/\ ∀y∈s,0<=y/\y<p.1):fnW Fz (look [(139,Nx),(135,Jv),(134,Lf)]) kr Tryz.f143 (p,s,()) (λ(z:List (List Int))=>z=Xe p.2.2.1 s):=by
 obtain ⟨hv,hs,hr⟩:=h
 have hV:=valid hv
 have hf:=hV.kB
 refine Eq.mp (Ae6 p s _) ⟨Bi p.2.2.1.length,Ab ⟨Int.natCast_nonneg _,by show ((p.2.2.1.length:Nat):Int)<=8;omega⟩,rfl,rfl,?_⟩
 have hL:=Mq p.2.2.1.length
 refine Bw (Bi p.2.2.1.length).length (λv=>v.1) (λj v=>v=((j:Int),p.1,p.2.1,p.2.2.1,((Bi p.2.2.1.length).take j).map (λl=>Ai s (Au p.2.2.1 l)),())) rfl (by simp) ?_
 rintro j v K hj hi rfl hK
 dsimp only
 refine Br.dec (λhl=>?_) λhl=>?_
 ·have hl:j<(Bi p.2.2.1.length).length:=by omega
  have hlj:=Ku (Ak hl)
  obtain ⟨h1,h2⟩:=ka hV hlj
  refine ⟨_,Cd hl,_,Ab ⟨hlj,hf.2,hV.perm⟩,_,Ab ⟨hs,λy hy=>by have:=hr y hy;show 0<=y/\y<((Au p.2.2.1 (Bi p.2.2.1.length)[j]).length:Int);omega⟩,rfl,rfl,?_,rfl,rfl,?_⟩
  ·show (((Bi p.2.2.1.length).take j).map _).length+1<=4294967296
   rw [Dd,De]
   omega
  ·rw [Bv (by omega)]
   refine hK hl _ rfl ?_
   have e:(Bi p.2.2.1.length).take (j+1)=(Bi p.2.2.1.length).take j++ [(Bi p.2.2.1.length)[j]]:=by
    rw [Gi,Ac hl,Mn]
   rw [e,Iy]
   rfl
 ·have:j=(Bi p.2.2.1.length).length:=by omega
  subst this
  rw [Ds,Ax,Ax]
  rfl
theorem GP:Sound Tryz.prog 143 kr:=
 Sound.Gu Dq (Aw dH (Aw jw (Aw Xo Bn))) mixed Tryz.func143 (by kernel_rfl) (by kernel_rfl) λx h=>Adh x.1 x.2.1 h
theorem Kq {α:Type} {xs ys:List α} {i:Nat} {d:α} (h:i<xs.length):(xs++ys).getD i d=xs.getD i d:=by
 rw [Ah,Ah,As h]
theorem jR {α:Type} {xs:List α} {x d:α} :(xs++ [x]).getD xs.length d=x:=by
 rw [Ah,Ar (Ap _),Nat.sub_self];rfl
theorem Mj {α:Type} {xs:List α} {i:Nat} {d:α} (h:i<xs.length):xs.getD i d=xs[i]:=by
 rw [Ah,Ac h];rfl
structure Lv (g:List (List Int)) (ls:List Int) (k:Nat) (L:List (List Int)) (D:List Int):Prop where
 len:D.length=L.length
 pos:0<L.length
 mono: ∀i j,i<=j->j<L.length->D.getD i 0<=D.getD j 0
 SI:k<L.length-> ∀j,j<L.length->D.getD j 0<=D.getD k 0+1
 par: ∀j,0<j->j<L.length-> ∃i l,i<j/\l∈ls/\L.getD j []=Ai (L.getD i []) (Au g l)/\D.getD j 0=D.getD i 0+1
 zero:D.getD 0 0=0
theorem Lv.add {g:List (List Int)} {ls:List Int} {k:Nat} {L:List (List Int)} {D:List Int} (h:Lv g ls k L D) (hk:k<L.length) {l:Int} (hl:l∈ls):
  Lv g ls k (L++ [Ai (L.getD k []) (Au g l)]) (D++ [D.getD k 0+1]):=by
 have hlen:=h.len
 have hD: ∀i,i<L.length->(D++ [D.getD k 0+1]).getD i 0=D.getD i 0:= λi hi=>Kq (by omega)
 have hDl:(D++ [D.getD k 0+1]).getD L.length 0=D.getD k 0+1:=by rw [<-hlen];exact jR
 refine ⟨by simp [hlen],by simp,λi j kD hj=>?_,λ_ j hj=>?_,λj h0 hj=>?_,?_⟩
 ·rw [Av,Cc] at hj
  by_cases e:j=L.length
  ·subst e
   rw [hDl]
   by_cases e':i=L.length
   ·subst e';rw [hDl];exact Rb _
   ·rw [hD i (by omega)]
    exact h.SI hk i (by omega)
  ·rw [hD i (by omega),hD j (by omega)]
   exact h.mono i j kD (by omega)
 ·rw [Av,Cc] at hj
  rw [hD k hk]
  by_cases e:j=L.length
  ·subst e;rw [hDl];exact Rb _
  ·rw [hD j (by omega)];exact h.SI hk j (by omega)
 ·rw [Av,Cc] at hj
  by_cases e:j=L.length
  ·subst e
   exact ⟨k,l,hk,hl,by rw [jR,Kq hk],by rw [hDl,hD k hk]⟩
  ·obtain ⟨i,l',h1,h2,h3,h4⟩:=h.par j h0 (by omega)
   exact ⟨i,l',h1,h2,by rw [Kq (by omega),Kq (by omega)];exact h3,by rw [hD j (by omega),hD i (by omega)];exact h4⟩
 ·rw [hD 0 h.pos];exact h.zero
theorem sx {g:List (List Int)} {ls:List Int} {k:Nat} : ∀(PU:List Int) (L:List (List Int)) (D:List Int),(∀l∈PU,l∈ls)->Lv g ls k L D->k<L.length-> ∀ {x:List Int} {d:Int},x=L.getD k []->d=D.getD k 0->
  Lv g ls k (Ht g x d PU L D).1 (Ht g x d PU L D).2.1/\(∃A,(Ht g x d PU L D).1=L++A)/\(∃A,(Ht g x d PU L D).2.1=D++A)/\
  ((Ht g x d PU L D).2.2=true-> ∀l∈PU,∃j,j<(Ht g x d PU L D).1.length/\(Ht g x d PU L D).1.getD j []=Ai x (Au g l)/\(Ht g x d PU L D).2.1.getD j 0<=d+1)
 | [],L,D,_,h,_,x,d,_,_=>⟨h,⟨[],by simp [Ht]⟩,⟨[],by simp [Ht]⟩,λ_ l hl=>by cases hl⟩
 |l::PU,L,D,hs,h,hk,x,d,hx,hd=>by
  have DO: ∀l∈PU,l∈ls:= λl' h'=>hs l' (An _ h')
  have hlen:=h.len
  simp only [Ht]
  split
  ·rename_i hm
   obtain ⟨a1,⟨A,a2⟩,⟨A',a3⟩,a4⟩:=sx PU L D DO h hk hx hd
   refine ⟨a1,⟨A,a2⟩,⟨A',a3⟩,λe l' Mb=>?_⟩
   rcases Bd.1 Mb with rfl|Mb
   ·obtain ⟨j,hj,hjx⟩:=Bf.1 hm
    refine ⟨j,by rw [a2,Av];omega,by rw [a2,Kq hj,Mj hj];exact hjx,?_⟩
    rw [a3,Kq (by omega),hd]
    exact h.SI hk j hj
   ·exact a4 e l' Mb
  ·split
   ·exact ⟨h,⟨[],by simp⟩,⟨[],by simp⟩,λe=>by cases e⟩
   ·have WT:=h.add hk (hs l (by simp))
    rw [<-hx,<-hd] at WT
    obtain ⟨a1,⟨A,a2⟩,⟨A',a3⟩,a4⟩:=sx PU (L++ [Ai x (Au g l)]) (D++ [d+1]) DO WT (by rw [Av];omega) (x:=x) (d:=d) (by rw [Kq hk];exact hx) (by rw [Kq (by omega)];exact hd)
    refine ⟨a1,⟨_::A,by rw [a2,Co];rfl⟩,⟨_::A',by rw [a3,Co];rfl⟩,λe l' Mb=>?_⟩
    rcases Bd.1 Mb with rfl|Mb
    ·refine ⟨L.length,by rw [a2,Av,Av];simp only [Cc];omega,?_,?_⟩
     ·rw [a2,Kq (by simp),jR]
     ·rw [a3,Kq (by simp [hlen]),<-hlen,jR]
      exact Rb _
    ·exact a4 e l' Mb
structure oJ (g:List (List Int)) (ls:List Int) (L:List (List Int)) (D:List Int):Prop where
 len:D.length=L.length
 pos:0<L.length
 zero:D.getD 0 0=0
 par: ∀j,0<j->j<L.length-> ∃i l,i<j/\l∈ls/\L.getD j []=Ai (L.getD i []) (Au g l)/\D.getD j 0=D.getD i 0+1
 step: ∀i,i<L.length-> ∀l∈ls,∃j,j<L.length/\L.getD j []=Ai (L.getD i []) (Au g l)/\D.getD j 0<=D.getD i 0+1
theorem CA {g:List (List Int)} {ls:List Int} : ∀(f k:Nat) (L:List (List Int)) (D:List Int),3001<=f+k->Lv g ls k L D->k<=L.length->
  (∀i,i<k-> ∀l∈ls,∃j,j<L.length/\L.getD j []=Ai (L.getD i []) (Au g l)/\D.getD j 0<=D.getD i 0+1)->
  (Jz g ls f k L D).2.2=true->(Jz g ls f k L D).1.length<=3000->oJ g ls (Jz g ls f k L D).1 (Jz g ls f k L D).2.1
 |0,k,L,D,hf,h,XH,hc,hw,h3=>by
  simp only [Jz] at h3⊢
  omega
 |f+1,k,L,D,hf,h,XH,hc,hw,h3=>by
  simp only [Jz] at hw h3⊢
  split
  ·rename_i hk
   rw [Ab hk] at hw h3
   obtain ⟨a1,⟨A,a2⟩,⟨A',a3⟩,a4⟩:=sx (x:=L.getD k []) (d:=D.getD k 0) ls L D (λ_ h=>h) h hk rfl rfl
   have hlen:=h.len
   split
   ·rename_i L' D' he
    rw [he] at a1 a2 a3 a4
    simp only [he] at hw h3
    have a2:L'=L++A:=a2
    have a3:D'=D++A':=a3
    have a4:=a4 rfl
    dsimp only at a4
    have hLl:L.length<=L'.length:=by rw [a2,Av];omega
    refine CA f (k+1) L' D' (by omega) ⟨a1.len,a1.pos,a1.mono,λhk1 j hj=>?_,a1.par,a1.zero⟩ (by omega) (λi hi l hl=>?_) hw h3
    ·have h1:D'.getD j 0<=D'.getD k 0+1:=a1.SI (show k<L'.length by omega) j hj
     have h2:D'.getD k 0<=D'.getD (k+1) 0:=a1.mono k (k+1) (by omega) hk1
     omega
    ·by_cases e:i=k
     ·subst e
      obtain ⟨j,b1,b2,b3⟩:=a4 l hl
      refine ⟨j,b1,?_,?_⟩
      ·rw [b2,a2,Kq (by omega)]
      ·rw [show D'.getD i 0=D.getD i 0 by rw [a3,Kq (by omega)]];exact b3
     ·obtain ⟨j,b1,b2,b3⟩:=hc i (by omega) l hl
      refine ⟨j,by omega,?_,?_⟩
      ·rw [a2,Kq (by omega),Kq (by omega)];exact b2
      ·rw [a3,Kq (by omega),Kq (by omega)];exact b3
   ·rename_i L' D' he
    simp only [he] at hw
    cases hw
  ·rename_i hk
   exact ⟨h.len,h.pos,h.zero,h.par,λi hi=>hc i (by have hi:i<L.length:=hi;omega)⟩
theorem fe {p:PP} {s:List Int} (hv:Bm p=true) (hs:s.length<=20) (hr: ∀y∈s,0<=y/\y<p.1) (hw:(Gd p.2.2.1 s).2.2=true):
  oJ p.2.2.1 (Bi p.2.2.1.length) (Gd p.2.2.1 s).1 (Gd p.2.2.1 s).2.1:=by
 have hb:=(yu hv hs hr).1.ok.kB
 refine CA 3001 0 [s] [0] (by omega) ⟨rfl,by simp,λi j kD hj=>?_,λ_ j hj=>?_,λj h0 hj=>?_,rfl⟩ (Kd _) (λi hi=>absurd hi (Gp _)) hw hb
 ·have:j=0:=by simpa using hj
  subst this
  have:i=0:=by omega
  subst this
  exact Rb _
 ·have:j=0:=by simpa using hj
  subst this
  simp
 ·have:j=0:=by simpa using hj
  omega
theorem qk {p:PP} (hV:Valid p) {x:List Int} (hx: ∀y∈x,0<=y/\y<p.1) {l:Int} (hl:l∈Bi p.2.2.1.length):
  -l∈Bi p.2.2.1.length/\Ai (Ai x (Au p.2.2.1 l)) (Au p.2.2.1 (-l))=x:=by
 obtain ⟨k,hk,To⟩:=Qt (Ku hl)
 have hg:=dE (hV.perm _ (Ak hk))
 have hgl:=hV.len _ (Ak hk)
 have hn:=hV.n
 have hp:Pm p.1.toNat (p.2.2.1[k]):=⟨by omega,hg⟩
 have key: ∀q r:List Int,Pm p.1.toNat q->Pm p.1.toNat r->Ai q r=upto p.1.toNat->Ai (Ai x q) r=x:= λq r hq hr he=>by
  refine List.ext_getElem (by rw [Sp,Sp]) λi h1 h2=>?_
  have hxi:=hx _ (Ak h2)
  obtain ⟨xi,hxe⟩:=Rw hxi.1
  have hxn:xi<p.1.toNat:=by omega
  have e1:ap (Ai q r) xi=ap (upto p.1.toNat) xi:=Dk (λz=>ap z xi) he
  rw [Kj hq hr hxn,kL hxn] at e1
  simp only [Ai,Tx,hxe]
  have h3:=(hq.aw hxn).1
  have h4:=(hr.aw (hq.lt hxn)).1
  rw [h3,h4,e1]
 rcases To with rfl|rfl
 ·refine ⟨(Qk hk).2,?_⟩
  rw [Ox hk,Ow hk]
  exact key _ _ hp hp.inv (dX hp)
 ·refine ⟨by rw [Int.neg_neg];exact (Qk hk).1,?_⟩
  rw [Int.neg_neg,Ox hk,Ow hk]
  exact key _ _ hp.inv hp (c7 hp)
structure Pl (g:List (List Int)) (ls:List Int) (L:List (List Int)) (S:List Int->Prop) (d:List Int->Int):Prop where
 nn: ∀x∈L,0<=d x
 zero: ∀x∈L,d x=0↔S x
 step: ∀x∈L,∀l∈ls,d (Ai x (Au g l))<=d x+1
 down: ∀x∈L,0<d x-> ∃l∈ls,d (Ai x (Au g l))=d x-1
structure lI (g:List (List Int)) (ls:List Int) (L:List (List Int)):Prop where
 next: ∀x∈L,∀l∈ls,Ai x (Au g l)∈L
 back: ∀x∈L,∀l∈ls,-l∈ls/\Ai (Ai x (Au g l)) (Au g (-l))=x
theorem Pl.le {g:List (List Int)} {ls:List Int} {L:List (List Int)} {S:List Int->Prop} {d d':List Int->Int} (hc:lI g ls L) (h:Pl g ls L S d) (h':Pl g ls L S d'):
  ∀(n:Nat) (x:List Int),x∈L->d' x=n->d x<=n
 |0,x,hx,e=>by
  have:=(h.zero x hx).2 ((h'.zero x hx).1 e)
  omega
 |n+1,x,hx,e=>by
  obtain ⟨l,hl,hd⟩:=h'.down x hx (by omega)
  obtain ⟨b1,b2⟩:=hc.back x hx l hl
  have h1:=Pl.le hc h h' n _ (hc.next x hx l hl) (by omega)
  have h2:=h.step _ (hc.next x hx l hl) _ b1
  rw [b2] at h2
  omega
theorem Pl.eq {g:List (List Int)} {ls:List Int} {L:List (List Int)} {S:List Int->Prop} {d d':List Int->Int} (hc:lI g ls L) (h:Pl g ls L S d) (h':Pl g ls L S d') {x:List Int} (hx:x∈L):d x=d' x:=by
 have n1:=h.nn x hx
 have n2:=h'.nn x hx
 have h1:=Pl.le hc h h' (d' x).toNat x hx (by omega)
 have h2:=Pl.le hc h' h (d x).toNat x hx (by omega)
 omega
theorem Pl.SI {g:List (List Int)} {ls:List Int} {L:List (List Int)} {S:List Int->Prop} {d:List Int->Int} (hc:lI g ls L) (h:Pl g ls L S d) {x:List Int} (hx:x∈L) {l:Int} (hl:l∈ls):
  d x-1<=d (Ai x (Au g l)):=by
 obtain ⟨b1,b2⟩:=hc.back x hx l hl
 have h2:=h.step _ (hc.next x hx l hl) _ b1
 rw [b2] at h2
 omega
def Js (L:List (List Int)) (D:List Int) (x:List Int):Int:=if x∈L then D.getD (L.idxOf x) 0 else-1
theorem m8 {L:List (List Int)} (hn:L.Nodup) {j:Nat} (hj:j<L.length):L.idxOf (L.getD j [])=j:=by
 rw [Mj hj]
 exact hn.idxOf_getElem j hj
theorem eg {L:List (List Int)} {j:Nat} (hj:j<L.length):L.getD j []∈L:=by rw [Mj hj];exact Ak hj
theorem lY {L:List (List Int)} {D:List Int} (hn:L.Nodup) {j:Nat} (hj:j<L.length):Js L D (L.getD j [])=D.getD j 0:=by
 unfold Js
 rw [Ab (eg hj),m8 hn hj]
theorem dB {p:PP} (hV:Valid p) {m:Nat} {L:List (List Int)} {D:List Int} (hb:Tw p m L D) (h:oJ p.2.2.1 (Bi p.2.2.1.length) L D):lI p.2.2.1 (Bi p.2.2.1.length) L where
 next x hx l hl:=by
  obtain ⟨i,hi,rfl⟩:=Bf.1 hx
  obtain ⟨j,h1,h2,_⟩:=h.step i hi l hl
  rw [Mj hi] at h2
  rw [<-h2]
  exact eg h1
 back x hx l hl:=qk hV (hb.row x hx) hl
theorem ql {p:PP} (hV:Valid p) {m:Nat} {L:List (List Int)} {D:List Int} (hb:Tw p m L D) (h:oJ p.2.2.1 (Bi p.2.2.1.length) L D):
  Pl p.2.2.1 (Bi p.2.2.1.length) L (λx=>x=L.getD 0 []) (Js L D) where
 nn x hx:=by
  obtain ⟨i,hi,rfl⟩:=Bf.1 hx
  rw [<-Mj (d:= []) hi,lY hb.ok.nodup hi]
  have:=hb.dep i (by rw [hb.len];exact hi)
  rw [Mj (by rw [hb.len];exact hi)]
  omega
 zero x hx:=by
  obtain ⟨i,hi,rfl⟩:=Bf.1 hx
  rw [<-Mj (d:= []) hi,lY hb.ok.nodup hi]
  constructor
  ·intro h0
   by_cases e:i=0
   ·rw [e]
   ·obtain ⟨k,l,h1,_,_,h4⟩:=h.par i (by omega) hi
    have hk:k<D.length:=by rw [hb.len];omega
    have:=hb.dep k hk
    rw [<-Mj (d:=0) hk] at this
    omega
  ·intro e
   have:i=0:=by
    have h1:=m8 hb.ok.nodup hi
    have h2:=m8 hb.ok.nodup h.pos
    rw [e,h2] at h1
    exact h1.symm
   rw [this]
   exact h.zero
 step x hx l hl:=by
  obtain ⟨i,hi,rfl⟩:=Bf.1 hx
  rw [<-Mj (d:= []) hi,lY hb.ok.nodup hi]
  obtain ⟨j,h1,h2,h3⟩:=h.step i hi l hl
  rw [<-h2,lY hb.ok.nodup h1]
  exact h3
 down x hx h0:=by
  obtain ⟨i,hi,rfl⟩:=Bf.1 hx
  rw [<-Mj (d:= []) hi,lY hb.ok.nodup hi] at h0⊢
  have hi0:0<i:=by
   rcases Up i with e|e
   ·subst e;rw [h.zero] at h0;omega
   ·exact e
  obtain ⟨k,l,h1,h2,h3,h4⟩:=h.par i hi0 hi
  have hk:k<L.length:=by omega
  obtain ⟨b1,b2⟩:=qk hV (hb.row _ (eg hk)) h2
  refine ⟨-l,b1,?_⟩
  rw [h3,b2,lY hb.ok.nodup hk]
  omega
abbrev uL:Type:=Int×Int×ByteArray×List (List Int)×List Int×List (List Int)×List Int×(ByteArray->Option Int)×List Int×List Int×Int×ByteArray×List (List Int)×List (List Int)×PUnit
abbrev uM:Type:=Int×Int×ByteArray×List (List Int)×List (List Int)×List Int×(ByteArray->Option Int)×List Int×List Int×Int×ByteArray×List (List Int)×List (List Int)×PUnit
abbrev fy:List (Nat×Nat):= [(0,1),(0,1),(0,1),(0,1),(0,1),(0,1),(0,1),(0,1),(0,1),(0,1),(0,1),(0,1),(0,0)]
abbrev Hr (p:Int×ByteArray×List (List Int)×Unit) (y4:List Int) (y2:Int) (y3:Bool) (y6:ByteArray) (y5:ByteArray):Prop:=fy=fy/\(p,false,y4,p.1,p.2.1,p.2.2.1,y2,y3,!y3,p.1,y4,p.1,p.2.1,p.2.2.1,y4,y4,y6,p.1,p.2.1,p.2.2.1,p.1,p.2.1,p.2.2.1,[y4],[(0:Int)],au (λ(_:ByteArray)=>none) y6 (0:Int),[(0:Int)],[(0:Int)],p.1,p.2.1,p.2.2.1,([]:List (List Int)),())=(p,false,y4,p.1,p.2.1,p.2.2.1,y2,y3,!y3,p.1,y4,p.1,p.2.1,p.2.2.1,y4,y4,y5,p.1,p.2.1,p.2.2.1,p.1,p.2.1,p.2.2.1,[y4],[(0:Int)],au (λ(_:ByteArray)=>none) y5 (0:Int),[(0:Int)],[(0:Int)],p.1,p.2.1,p.2.2.1,([]:List (List Int)),PUnit.unit)
theorem UR (p:Int×ByteArray×List (List Int)×Unit) (P:(Option (PP×List (List Int)×List Int×(ByteArray->Option Int)×List Int×List Int×List (List Int)×Unit)×Bool×Unit)->Prop):(∃(y2:Int),Tr.fn ((p.1,p.2.1,p.2.2.1,()),())=some y2/\ ∃(y3:Bool),Cr.fn (y2,(1:Int),(3000:Int),())=some y3/\Br (!y3) (P (none,false,())) (∃(y4:List Int),Wc.fn (p.1,())=some y4/\ ∃(y5:ByteArray),Dx.fn (y4,())=some y5/\(∃(y6:List Int),Nx.fn ((↑p.2.2.1.length:Int),())=some y6/\0=0/\1= [y4].length/\0=0/\1= [(0:Int)].length/\0=0/\1= [(0:Int)].length/\0=0/\1= [(0:Int)].length/\0=0/\0=([]:List Int).length/\Dl (λ(v7:uM) (k8:uM->Prop)=>Br (decide (v7.1<(↑v7.2.2.2.2.1.length:Int))) (((0:Int)<=v7.1/\v7.1<(↑v7.2.2.2.2.1.length:Int))/\ ∃(y9:List Int),v7.2.2.2.2.1[0+v7.1.toNat]?=some y9/\ ∃(Ki:List (List Int)),kr.fn ((v7.2.1,v7.2.2.1,v7.2.2.2.1,()),y9,())=some Ki/\0=0/\0=([]:List Int).length/\0=0/\v7.2.2.2.2.1.length=v7.2.2.2.2.1.length/\0=0/\v7.2.2.2.2.2.1.length=v7.2.2.2.2.2.1.length/\0=0/\v7.2.2.2.2.2.2.2.1.length=v7.2.2.2.2.2.2.2.1.length/\0=0/\v7.2.2.2.2.2.2.2.2.1.length=v7.2.2.2.2.2.2.2.2.1.length/\0=0/\v7.2.2.2.2.2.2.2.2.2.2.2.2.1.length=v7.2.2.2.2.2.2.2.2.2.2.2.2.1.length/\Dl (λ(v11:uL) (k12:uL->Prop)=>Br (decide (v11.1<(↑Ki.length:Int))) (∃(Ja:List Int),idx Ki v11.1=some Ja/\ ∃(Ie:ByteArray),Dx.fn (Ja,())=some Ie/\Br (!(v11.2.2.2.2.2.2.2.1 Ie).isSome) (∃(Hx:Int),kq.fn (List.take v11.2.2.2.2.2.1.length (List.drop 0 v11.2.2.2.2.2.1),())=some Hx/\0=0/\v11.2.2.2.2.2.1.length=v11.2.2.2.2.2.1.length/\v11.2.2.2.2.2.1.length+(List.take 1 (List.drop 0 [Ja])).length<=Cn/\((0:Int)<=v7.1/\v7.1<(↑v11.2.2.2.2.2.2.1.length:Int))/\ ∃(Gb:Int),v11.2.2.2.2.2.2.1[0+v7.1.toNat]?=some Gb/\0=0/\v11.2.2.2.2.2.2.1.length=v11.2.2.2.2.2.2.1.length/\v11.2.2.2.2.2.2.1.length+ [IntKind.i64.wrap (Gb+(1:Int))].length<=Cn/\0=0/\v11.2.2.2.2.2.2.2.2.1.length=v11.2.2.2.2.2.2.2.2.1.length/\v11.2.2.2.2.2.2.2.2.1.length+(List.take 1 (List.drop 0 [v7.1])).length<=Cn/\ ∃(Ez:Int),idx y6 v11.1=some Ez/\0=0/\v11.2.2.2.2.2.2.2.2.2.1.length=v11.2.2.2.2.2.2.2.2.2.1.length/\v11.2.2.2.2.2.2.2.2.2.1.length+ [Ez].length<=Cn/\0=0/\v11.2.2.2.2.1.length=v11.2.2.2.2.1.length/\v11.2.2.2.2.1.length+(List.take 1 (List.drop 0 [Hx])).length<=Cn/\0=0/\(v11.2.2.2.2.1++List.take 1 (List.drop 0 [Hx])).length=(v11.2.2.2.2.1++List.take 1 (List.drop 0 [Hx])).length/\0=0/\(v11.2.2.2.2.2.1++List.take 1 (List.drop 0 [Ja])).length=(v11.2.2.2.2.2.1++List.take 1 (List.drop 0 [Ja])).length/\0=0/\(v11.2.2.2.2.2.2.1++ [IntKind.i64.wrap (Gb+(1:Int))]).length=(v11.2.2.2.2.2.2.1++ [IntKind.i64.wrap (Gb+(1:Int))]).length/\0=0/\(v11.2.2.2.2.2.2.2.2.1++List.take 1 (List.drop 0 [v7.1])).length=(v11.2.2.2.2.2.2.2.2.1++List.take 1 (List.drop 0 [v7.1])).length/\0=0/\(v11.2.2.2.2.2.2.2.2.2.1++ [Ez]).length=(v11.2.2.2.2.2.2.2.2.2.1++ [Ez]).length/\0=0/\v11.2.2.2.2.2.2.2.2.2.2.2.2.2.1.length=v11.2.2.2.2.2.2.2.2.2.2.2.2.2.1.length/\k12 (IntKind.i64.wrap (v11.1+(1:Int)),v11.2.1,v11.2.2.1,v11.2.2.2.1,v11.2.2.2.2.1++List.take 1 (List.drop 0 [Hx]),v11.2.2.2.2.2.1++List.take 1 (List.drop 0 [Ja]),v11.2.2.2.2.2.2.1++ [IntKind.i64.wrap (Gb+(1:Int))],au v11.2.2.2.2.2.2.2.1 Ie Hx,v11.2.2.2.2.2.2.2.2.1++List.take 1 (List.drop 0 [v7.1]),v11.2.2.2.2.2.2.2.2.2.1++ [Ez],v11.2.2.2.2.2.2.2.2.2.2.1,v11.2.2.2.2.2.2.2.2.2.2.2.1,v11.2.2.2.2.2.2.2.2.2.2.2.2.1,v11.2.2.2.2.2.2.2.2.2.2.2.2.2.1,())) (0=0/\v11.2.2.2.2.1.length=v11.2.2.2.2.1.length/\v11.2.2.2.2.1.length+(List.take 1 (List.drop 0 [(v11.2.2.2.2.2.2.2.1 Ie).getD (Int.ofNat (nat_lit 0))])).length<=Cn/\0=0/\(v11.2.2.2.2.1++List.take 1 (List.drop 0 [(v11.2.2.2.2.2.2.2.1 Ie).getD (Int.ofNat (nat_lit 0))])).length=(v11.2.2.2.2.1++List.take 1 (List.drop 0 [(v11.2.2.2.2.2.2.2.1 Ie).getD (Int.ofNat (nat_lit 0))])).length/\0=0/\v11.2.2.2.2.2.1.length=v11.2.2.2.2.2.1.length/\0=0/\v11.2.2.2.2.2.2.1.length=v11.2.2.2.2.2.2.1.length/\0=0/\v11.2.2.2.2.2.2.2.2.1.length=v11.2.2.2.2.2.2.2.2.1.length/\0=0/\v11.2.2.2.2.2.2.2.2.2.1.length=v11.2.2.2.2.2.2.2.2.2.1.length/\0=0/\v11.2.2.2.2.2.2.2.2.2.2.2.2.2.1.length=v11.2.2.2.2.2.2.2.2.2.2.2.2.2.1.length/\k12 (IntKind.i64.wrap (v11.1+(1:Int)),v11.2.1,v11.2.2.1,v11.2.2.2.1,v11.2.2.2.2.1++List.take 1 (List.drop 0 [(v11.2.2.2.2.2.2.2.1 Ie).getD (Int.ofNat (nat_lit 0))]),v11.2.2.2.2.2.1,v11.2.2.2.2.2.2.1,v11.2.2.2.2.2.2.2.1,v11.2.2.2.2.2.2.2.2.1,v11.2.2.2.2.2.2.2.2.2.1,v11.2.2.2.2.2.2.2.2.2.2.1,v11.2.2.2.2.2.2.2.2.2.2.2.1,v11.2.2.2.2.2.2.2.2.2.2.2.2.1,v11.2.2.2.2.2.2.2.2.2.2.2.2.2.1,()))) (0=0/\v11.2.2.2.2.2.2.2.2.2.2.2.2.2.1.length=v11.2.2.2.2.2.2.2.2.2.2.2.2.2.1.length/\v11.2.2.2.2.2.2.2.2.2.2.2.2.2.1.length+(List.take 1 (List.drop 0 [List.take v11.2.2.2.2.1.length (List.drop 0 v11.2.2.2.2.1)])).length<=Cn/\0=0/\v11.2.2.2.2.2.1.length=v11.2.2.2.2.2.1.length/\0=0/\v11.2.2.2.2.2.2.1.length=v11.2.2.2.2.2.2.1.length/\0=0/\v11.2.2.2.2.2.2.2.2.1.length=v11.2.2.2.2.2.2.2.2.1.length/\0=0/\v11.2.2.2.2.2.2.2.2.2.1.length=v11.2.2.2.2.2.2.2.2.2.1.length/\0=0/\(v11.2.2.2.2.2.2.2.2.2.2.2.2.2.1++List.take 1 (List.drop 0 [List.take v11.2.2.2.2.1.length (List.drop 0 v11.2.2.2.2.1)])).length=(v11.2.2.2.2.2.2.2.2.2.2.2.2.2.1++List.take 1 (List.drop 0 [List.take v11.2.2.2.2.1.length (List.drop 0 v11.2.2.2.2.1)])).length/\k8 (IntKind.i64.wrap (v7.1+(1:Int)),v11.2.1,v11.2.2.1,v11.2.2.2.1,v11.2.2.2.2.2.1,v11.2.2.2.2.2.2.1,v11.2.2.2.2.2.2.2.1,v11.2.2.2.2.2.2.2.2.1,v11.2.2.2.2.2.2.2.2.2.1,v11.2.2.2.2.2.2.2.2.2.2.1,v11.2.2.2.2.2.2.2.2.2.2.2.1,v11.2.2.2.2.2.2.2.2.2.2.2.2.1,v11.2.2.2.2.2.2.2.2.2.2.2.2.2.1++List.take 1 (List.drop 0 [List.take v11.2.2.2.2.1.length (List.drop 0 v11.2.2.2.2.1)]),()))) ((0:Int),v7.2.1,v7.2.2.1,v7.2.2.2.1,[],v7.2.2.2.2.1,v7.2.2.2.2.2.1,v7.2.2.2.2.2.2.1,v7.2.2.2.2.2.2.2.1,v7.2.2.2.2.2.2.2.2.1,v7.2.2.2.2.2.2.2.2.2.1,v7.2.2.2.2.2.2.2.2.2.2.1,v7.2.2.2.2.2.2.2.2.2.2.2.1,v7.2.2.2.2.2.2.2.2.2.2.2.2.1,PUnit.unit)) (P (some ((v7.2.2.2.2.2.2.2.2.2.1,v7.2.2.2.2.2.2.2.2.2.2.1,v7.2.2.2.2.2.2.2.2.2.2.2.1,()),List.take v7.2.2.2.2.1.length (List.drop 0 v7.2.2.2.2.1),List.take v7.2.2.2.2.2.1.length (List.drop 0 v7.2.2.2.2.2.1),v7.2.2.2.2.2.2.1,List.take v7.2.2.2.2.2.2.2.1.length (List.drop 0 v7.2.2.2.2.2.2.2.1),List.take v7.2.2.2.2.2.2.2.2.1.length (List.drop 0 v7.2.2.2.2.2.2.2.2.1),List.take v7.2.2.2.2.2.2.2.2.2.2.2.2.1.length (List.drop 0 v7.2.2.2.2.2.2.2.2.2.2.2.2.1),()),true,()))) ((0:Int),p.1,p.2.1,p.2.2.1,[y4],[(0:Int)],au (λ(_:ByteArray)=>none) y5 (0:Int),[(0:Int)],[(0:Int)],p.1,p.2.1,p.2.2.1,([]:List (List Int)),PUnit.unit))/\((∃(y6:ByteArray),Dx.fn (y4,())=some y6/\(Hr p y4 y2 y3 y6 y5))/\ ∃(y6:ByteArray),Dx.fn (y4,())=some y6/\((Hr p y4 y2 y3 y6 y5))/\((Hr p y4 y2 y3 y6 y5))/\(Hr p y4 y2 y3 y6 y5))/\((∃(y6:ByteArray),Dx.fn (y4,())=some y6/\(Hr p y4 y2 y3 y6 y5))/\ ∃(y6:ByteArray),Dx.fn (y4,())=some y6/\((Hr p y4 y2 y3 y6 y5))/\((Hr p y4 y2 y3 y6 y5))/\(Hr p y4 y2 y3 y6 y5))/\ ∃(y6:ByteArray),Dx.fn (y4,())=some y6/\(((Hr p y4 y2 y3 y6 y5))/\((Hr p y4 y2 y3 y6 y5))/\(Hr p y4 y2 y3 y6 y5))/\(((Hr p y4 y2 y3 y6 y5))/\((Hr p y4 y2 y3 y6 y5))/\(Hr p y4 y2 y3 y6 y5))/\(((Hr p y4 y2 y3 y6 y5))/\(Hr p y4 y2 y3 y6 y5))/\(((Hr p y4 y2 y3 y6 y5))/\(Hr p y4 y2 y3 y6 y5))/\((Hr p y4 y2 y3 y6 y5))/\fy=fy/\(p,false,y4,p.1,p.2.1,p.2.2.1,y2,y3,!y3,p.1,y4,p.1,p.2.1,p.2.2.1,y4,y4,y6,p.1,p.2.1,p.2.2.1,p.1,p.2.1,p.2.2.1,[y4],[(0:Int)],au (λ(_:ByteArray)=>none) y6 (0:Int),[(0:Int)],[(0:Int)],p.1,p.2.1,p.2.2.1,([]:List (List Int)),())=(p,false,y4,p.1,p.2.1,p.2.2.1,y2,y3,!y3,p.1,y4,p.1,p.2.1,p.2.2.1,y4,y4,y5,p.1,p.2.1,p.2.2.1,p.1,p.2.1,p.2.2.1,[y4],[(0:Int)],au (λ(_:ByteArray)=>none) y5 (0:Int),[(0:Int)],[(0:Int)],p.1,p.2.1,p.2.2.1,[],PUnit.unit)))=fnW Fz (look [(142,Tr),(100,Cr),(133,Wc),(121,Dx),(139,Nx),(143,kr),(91,kq)]) Wb Tryz.f92 (p,()) P:=by kernel_rfl
theorem sK {g:List (List Int)} {k:Int} {x:List Int} {d:Int} : ∀(ls:List Int) (s:EX) (row:List Int) (L':List (List Int)) (D':List Int),Ht g x d ls s.1 s.2.1=(L',D',true)->
  (sJ g k x d ls s row).1.1=L'/\(sJ g k x d ls s row).1.2.1=D'
 | [],s,row,L',D',h=>by
  simp only [Ht,Ae] at h
  exact ⟨h.1,h.2.1⟩
 |l::ls,s,row,L',D',h=>by
  simp only [Ht] at h
  simp only [sJ]
  by_cases hm:Ai x (Au g l)∈s.1
  ·rw [Ab hm] at h
   rw [Ab hm]
   exact sK ls s _ L' D' h
  ·rw [Aj hm] at h
   rw [Aj hm]
   by_cases hf:s.1.length=3000
   ·rw [Ab hf] at h
    simp at h
   ·rw [Aj hf] at h
    exact sK ls _ _ L' D' h
theorem CU {g:List (List Int)} {ls:List Int} : ∀(f k:Nat) (s:EX) (N:List (List Int)) (L':List (List Int)) (D':List Int),Jz g ls f k s.1 s.2.1=(L',D',true)->
  (vA g ls f k s N).1.1=L'/\(vA g ls f k s N).1.2.1=D'
 |0,k,s,N,L',D',h=>by
  simp only [Jz,Ae] at h
  exact ⟨h.1,h.2.1⟩
 |f+1,k,s,N,L',D',h=>by
  simp only [Jz] at h
  simp only [vA]
  by_cases hk:k<s.1.length
  ·rw [Ab hk] at h
   rw [Ab hk]
   split at h
   ·rename_i L1 D1 he
    obtain ⟨a1,a2⟩:=sK (k:=(k:Int)) ls s [] L1 D1 he
    refine CU f (k+1) _ _ L' D' ?_
    rw [a1,a2]
    exact h
   ·simp at h
  ·rw [Aj hk] at h
   rw [Aj hk]
   simp only [Ae] at h
   exact ⟨h.1,h.2.1⟩
theorem nM {key:ByteArray} {x:List Int} : ∀(L:List (List Int)) (i:Nat),j6 key (L++ [x]) i=if (j6 key L i).isSome=true then j6 key L i else if Mp x=key then some ((i+L.length:Nat):Int) else none
 | [],i=>by simp [j6]
 |y::L,i=>by
  simp only [Qc,j6]
  split
  ·rfl
  ·rw [nM L (i+1),Ay,show i+1+L.length=i+(L.length+1) by omega]
theorem pa {x:List Int} (hx:Ua x): ∀(L:List (List Int)) (i:Nat),(∀y∈L,Ua y)->j6 (Mp x) L i=if x∈L then some ((i+L.idxOf x:Nat):Int) else none
 | [],i,_=>by simp [j6]
 |y::L,i,h=>by
  have hy:=h y (by simp)
  simp only [j6]
  by_cases e:y=x
  ·subst e
   rw [Ab rfl,Ab (by simp),List.idxOf_cons_self]
   rfl
  ·rw [Aj λhk=>e (key_inj hy hx hk),pa hx L (i+1) λz hz=>h z (An _ hz),show List.idxOf x (y::L)=(List.idxOf x L).succ by rw [List.idxOf_cons,beq_false_of_ne e];rfl]
   have:(x∈y::L)↔(x∈L):=by simp [Hm e]
   by_cases hm:x∈L
   ·rw [Ab hm,Ab (this.2 hm),show i+1+List.idxOf x L=i+(List.idxOf x L).succ by omega]
   ·rw [Aj hm,Aj λh=>hm (this.1 h)]
theorem xo {x:List Int} {L:List (List Int)} (hx:Ua x) (hL: ∀y∈L,Ua y):Zw L (Mp x)=if x∈L then some (L.idxOf x:Int) else none:=by
 unfold Zw
 rw [pa hx L 0 hL,Bu]
theorem xm {x:List Int} {L:List (List Int)} (hx:Ua x) (hL: ∀y∈L,Ua y) (hn:x∉L):au (Zw L) (Mp x) (L.length:Int)=Zw (L++ [x]):=by
 funext key
 unfold au Zw
 rw [nM,Bu]
 by_cases e:key=Mp x
 ·subst e
  rw [Ab rfl,pa hx L 0 hL,Aj hn,Aj (by simp),Ab rfl]
 ·rw [Aj e,Aj (c:=Mp x=key) λh=>e h.symm]
  split
  ·rfl
  ·rename_i h
   cases hk:j6 key L 0 with
   |none=>rfl
   |some v=>rw [hk] at h;simp at h
theorem HW (p:PP):Mv (Xd p) 1 3000=Fp p:=by
 unfold Fp
 by_cases hv:Bm p=true
 ·rw [hv,Qe,CM hv]
  rfl
 ·have hv:Bm p=false:=by simpa using hv
  rw [hv,Bool.false_and]
  have:Xd p=0:=by unfold Xd;rw [Aj (by simp [hv])]
  rw [this]
  rfl
theorem SU (p:PP) (h:Dp p):fnW Fz (look [(142,Tr),(100,Cr),(133,Wc),(121,Dx),(139,Nx),(143,kr),(91,kq)]) Wb Tryz.f92 (p,()) (λ(z:Option (PP×List (List Int)×List Int×(ByteArray->Option Int)×List Int×List Int×List (List Int)×Unit)×Bool×Unit)=>z=(if Fp p=true then (some (Rx p),true,()) else (none,false,()))):=by
 refine Eq.mp (UR p _) ⟨_,Ab h,_,Ab trivial,?_⟩
 show Br (!Mv (Xd p) 1 3000) _ _
 rw [HW p]
 refine Br.of (λhb=>?_) λhb=>?_
 ·rw [Aj (by simpa using hb)]
 have hw:Fp p=true:=by simpa using hb
 rw [Ab hw]
 obtain ⟨hv,JQ⟩:=Bt.1 hw
 have hV:=valid hv
 have nB:=hV.kB
 have hn:=hV.n
 obtain ⟨pn,ps,g,⟨⟩⟩:=p
 dsimp only at nB hn JQ⊢
 have hI:(upto pn.toNat).length<=20:=by rw [Ti];omega
 have hIr: ∀y∈upto pn.toNat,0<=y/\y<pn:= λy hy=>by have:=Oi.1 hy;omega
 have hb0:=dT (p:=(pn,ps,g,())) hI hIr
 obtain ⟨ls,re⟩: ∃ls,Bi g.length=ls:=⟨_,rfl⟩
 have XK:ls.length<=16:=by rw [<-re,Mq];omega
 have nE: ∀l∈ls,Il (List.length g) l:= λl hl=>Ku (re▸hl)
 have sS: ∀x:List Int,(∀y∈x,0<=y/\y<pn)->Ua x:= λx hx y hy=>by have:=hx y hy;omega
 have td:Jz g ls 3001 0 [upto pn.toNat] [0]=Gd g (upto pn.toNat):=by unfold Gd;rw [re]
 have vf:au (λ(_:ByteArray)=>(none:Option Int)) (Mp (upto pn.toNat)) 0=Zw [upto pn.toNat]:=by
  have:=xm (L:= []) (sS _ hIr) (λy hy=>by cases hy) (by simp)
  exact this
 refine ⟨upto pn.toNat,Ab ⟨by show (0:Int)<=pn;omega,by show pn<=20;omega⟩,Mp (upto pn.toNat),Ab (by show short (upto pn.toNat);unfold short;omega),⟨ls,?_,rfl,rfl,rfl,rfl,rfl,rfl,rfl,rfl,rfl,rfl,?_⟩,?_⟩
 ·refine (Ab ⟨by show (0:Int)<=((g.length:Nat):Int);omega,by show ((g.length:Nat):Int)<=8;omega⟩).trans (Dk some ?_)
  show Bi (((g.length:Nat):Int)).toNat=ls
  rw [Aq];exact re
 ·obtain ⟨R,hR⟩: ∃R,vA g ls 3001 0 ([upto pn.toNat],[0],[0],[0]) []=R:=⟨_,rfl⟩
  have Aqi:Rx (pn,ps,g,())=Ajz (pn,ps,g,()) R:=by unfold Rx;rw [re];exact Dk _ hR
  rw [Aqi]
  refine Dl.mk (λv=> ∃(k:Nat) (s:EX) (N:List (List Int)),v=((k:Int),pn,ps,g,s.1,s.2.1,Zw s.1,s.2.2.1,s.2.2.2,pn,ps,g,N,())/\k<=s.1.length/\Tw (pn,ps,g,()) (upto pn.toNat).length s.1 s.2.1/\s.2.2.1.length=s.1.length/\s.2.2.2.length=s.1.length/\N.length=k/\
    Jz g ls (3001-k) k s.1 s.2.1=Gd g (upto pn.toNat)/\vA g ls (3001-k) k s N=R) (λv=>3001-v.1.toNat)
   ⟨0,([upto pn.toNat],[0],[0],[0]),[],?_,by simp,hb0,rfl,rfl,rfl,td,hR⟩ ?_
  ·rw [<-vf];rfl
  rintro v ⟨k,s0,N,rfl,h1,h2,h3,h4,h5,h6,h7⟩
  obtain ⟨L0,D0,P0,B0⟩:=s0
  dsimp only at h1 h2 h3 h4 h6 h7⊢
  have WQ:=h2.ok.kB
  have hD0:=h2.len
  obtain ⟨f,hf⟩: ∃f,3001-k=f+1:=⟨3000-k,by omega⟩
  refine Br.dec (λhl=>?_) λhl=>?_
  ·have hk:k<L0.length:=by omega
   have DM:k<D0.length:=by omega
   have hx: ∀y∈L0[k],0<=y/\y<pn:=h2.row _ (Ak hk)
   have hxl:L0[k].length=(upto pn.toNat).length:=h2.ok.len _ (Ak hk)
   have hdk:=h2.dep k DM
   have hxe:L0.getD k []=L0[k]:=Uu hk
   have hde:D0.getD k 0=D0[k]:=by rw [Ah,Ac DM];rfl
   have hgo: ∀L' D' ok,Ht g L0[k] D0[k] ls L0 D0=(L',D',ok)->Gd g (upto pn.toNat)=if ok=true then Jz g ls f (k+1) L' D' else (L',D',false):=by
    intro L' D' ok he
    rw [<-h6,hf,Jz,Ab hk,hxe,hde,he]
    cases ok<;>rfl
   obtain ⟨E,hE⟩: ∃E,sJ g (k:Int) L0[k] D0[k] ls (L0,D0,P0,B0) []=E:=⟨_,rfl⟩
   have hex:R=vA g ls f (k+1) E.1 (N++ [E.2]):=by
    rw [<-h7,hf,vA,Ab hk]
    dsimp only
    rw [hxe,hde,hE]
   refine ⟨⟨by omega,by omega⟩,L0[k],by rw [Aq,Bu];exact Ac hk,ls.map (λl=>Ai L0[k] (Au g l)),?_,?_⟩
   ·refine (Ab ⟨hv,by show L0[k].length<=20;omega,hx⟩).trans (Dk some ?_)
    show Xe g L0[k]=_
    unfold Xe
    rw [re]
   refine ⟨rfl,rfl,rfl,rfl,rfl,rfl,rfl,rfl,rfl,rfl,rfl,rfl,?_⟩
   obtain ⟨nb,hnb⟩: ∃nb,ls.map (λl=>Ai L0[k] (Au g l))=nb:=⟨_,rfl⟩
   have hnl:nb.length=ls.length:=by rw [<-hnb,Dd]
   have hni: ∀i (h:i<ls.length),nb[i]'(by omega)=Ai L0[k] (Au g ls[i]):= λi h=>by simp only [<-hnb,Tx]
   rw [hnb]
   refine Dl.mk (λv=> ∃(i:Nat) (row:List Int) (s:EX),v=((i:Int),pn,ps,g,row,s.1,s.2.1,Zw s.1,s.2.2.1,s.2.2.2,pn,ps,g,N,())/\i<=ls.length/\row.length=i/\Tw (pn,ps,g,()) (upto pn.toNat).length s.1 s.2.1/\s.2.2.1.length=s.1.length/\s.2.2.2.length=s.1.length/\
     (∃A,s.1=L0++A)/\(∃A,s.2.1=D0++A)/\Ht g L0[k] D0[k] (ls.drop i) s.1 s.2.1=Ht g L0[k] D0[k] ls L0 D0/\sJ g (k:Int) L0[k] D0[k] (ls.drop i) s row=E) (λv=>ls.length-v.1.toNat)
    ⟨0,[],(L0,D0,P0,B0),rfl,Kd _,rfl,h2,h3,h4,⟨[],by simp⟩,⟨[],by simp⟩,rfl,hE⟩ ?_
   rintro v ⟨i,row,s,rfl,g1,g2,g3,g4,g5,⟨A,g6⟩,⟨A',g7⟩,g8,g9⟩
   obtain ⟨L,D,Pa,By⟩:=s
   dsimp only at g3 g4 g5 g6 g7 g8 g9⊢
   have hLf:=g3.ok.kB
   have hDl:=g3.len
   refine Br.dec (λhli=>?_) λhli=>?_
   ·have hi:i<ls.length:=by omega
    have XH:k<L.length:=by rw [g6,Av];omega
    have XG:k<D.length:=by rw [hDl];exact XH
    have hDk:D[k]=D0[k]:=by simp only [g7];exact Lz DM
    have r8:=nE _ (Ak hi)
    obtain ⟨nl,nr⟩:=nV hV hx r8
    dsimp only at nl nr
    rw [Fg hi] at g8 g9
    simp only [Ht] at g8
    simp only [sJ] at g9
    have hyb:=sS _ nr
    refine ⟨_,Cd (by omega),?_⟩
    rw [hni i hi]
    generalize hyv:Ai L0[k] (Au g ls[i])=yv at*
    refine ⟨Mp yv,Ab (by show short yv;unfold short;rw [nl];omega),?_⟩
    rw [xo hyb λy hy=>sS _ (g3.row y hy)]
    refine Br.of (λaL=>?_) λaL=>?_
    ·have aL:yv∉L:= λhm=>by rw [Ab hm] at aL;simp at aL
     rw [Aj aL] at g8 g9
     by_cases Vu:L.length=3000
     ·rw [Ab Vu] at g8
      have:=hgo _ _ _ g8.symm
      rw [Aj (by decide)] at this
      rw [this] at JQ
      cases JQ
     rw [Aj Vu] at g8
     refine ⟨_,Ab trivial,rfl,rfl,?_,⟨by omega,by omega⟩,D0[k],?_,rfl,rfl,?_,rfl,rfl,?_,_,Cd hi,rfl,rfl,?_,rfl,rfl,?_,rfl,rfl,rfl,rfl,rfl,rfl,rfl,rfl,rfl,rfl,rfl,rfl,?_⟩
     ·show L.length+1<=4294967296;omega
     ·rw [Aq,Bu,Ac XG,hDk]
     ·show D.length+1<=4294967296;omega
     ·show Pa.length+1<=4294967296;omega
     ·show By.length+1<=4294967296;omega
     ·show row.length+1<=4294967296;omega
     ·dsimp only
      rw [Ch L,Cy (n:=D0[k]+1) (by omega) (by omega),Bv (by omega),xm hyb (λy hy=>sS _ (g3.row y hy)) aL]
      refine ⟨⟨i+1,row++ [(L.length:Int)],(L++ [yv],D++ [D0[k]+1],Pa++ [(k:Int)],By++ [ls[i]]),rfl,hi,by rw [Av,g2];rfl,g3.add aL (by rw [nl,hxl]) (by omega) nr ⟨by omega,by omega⟩,?_,?_,⟨A++ [yv],by rw [g6,Co]⟩,⟨A'++ [D0[k]+1],by rw [g7,Co]⟩,g8,g9⟩,by omega⟩
      ·simp [g4]
      ·simp [g5]
    ·have aL:yv∈L:=Bo λhm=>by rw [Aj hm] at aL;simp at aL
     rw [Ab aL] at g8 g9
     rw [Ab aL]
     refine ⟨rfl,rfl,?_,rfl,rfl,rfl,rfl,rfl,rfl,rfl,rfl,rfl,rfl,rfl,rfl,?_⟩
     ·show row.length+1<=4294967296;omega
     ·rw [Bv (by omega)]
      exact ⟨⟨i+1,row++ [(L.idxOf yv:Int)],(L,D,Pa,By),rfl,hi,by rw [Av,g2];rfl,g3,g4,g5,⟨A,g6⟩,⟨A',g7⟩,g8,g9⟩,by omega⟩
   ·have:i=ls.length:=by omega
    subst this
    rw [Qd,Ht] at g8
    rw [Qd,sJ] at g9
    have:=hgo _ _ _ g8.symm
    rw [Ab rfl] at this
    rw [Ch row,Bv (by omega)]
    refine ⟨rfl,rfl,?_,rfl,rfl,rfl,rfl,rfl,rfl,rfl,rfl,rfl,rfl,⟨k+1,(L,D,Pa,By),N++ [row],rfl,by rw [g6,Av];omega,g3,g4,g5,by rw [Av,h5];rfl,?_,?_⟩,by omega⟩
    ·show N.length+1<=4294967296;omega
    ·rw [show 3001-(k+1)=f by omega]
     exact this.symm
    ·rw [show 3001-(k+1)=f by omega,hex,<-g9]
  ·have hk:k=L0.length:=by omega
   rw [hf,vA,Aj (by show ¬k<L0.length;omega)] at h7
   subst h7
   simp only [Ds,Ax]
   rfl
 ·have JS:Dx.fn (upto pn.toNat,())=some (Mp (upto pn.toNat)):=Ab (by show short (upto pn.toNat);unfold short;omega)
  repeat' (first|exact ⟨rfl,rfl⟩|refine ⟨_,JS,?_⟩|refine ⟨?_,?_⟩)
theorem wc:Sound Tryz.prog 92 Wb:=
 Sound.Gu Dq (Aw pM (Aw Xq (Aw gL (Aw Px (Aw dH (Aw GP (Aw GO Bn))))))) mixed Tryz.func92 (by kernel_rfl) (by kernel_rfl) λx h=>SU x.1 h
abbrev XP:Type:=PP×List (List Int)×List Int×(ByteArray->Option Int)×List Int×List Int×List (List Int)×Unit
noncomputable def Ba (p:PP):List (List Int):=(Gd p.2.2.1 (upto p.1.toNat)).1
noncomputable def Dm (p:PP):List Int:=(Gd p.2.2.1 (upto p.1.toNat)).2.1
def Afx (e:XP):Prop:=Fp e.1=true/\e=Rx e.1
noncomputable def pb (p:PP) (s:List Int):Int×Bool×Unit:=if s∈Ba p then ((List.idxOf s (Ba p):Nat),true,()) else (0,false,())
noncomputable def Pe (p:PP) (s:List Int):Bool:=Fp p&&decide (s∈Ba p)
noncomputable def YS (e:Option XP) (s:List Int):Int×Bool×Unit:=match e with|some e=>pb e.1 s|none=>(0,false,())
noncomputable abbrev pD:Spec:=Gu (.pair (.optr uN) (.pair tL .unit)) (.pair tI (.pair .bool .unit)) true true (λx=>(∃e:XP,x.1=some e/\Afx e)/\short x.2.1) (λx=>YS x.1 x.2.1)
noncomputable def Vw (p:PP) (s:List Int):Option XP×Int×Bool×Unit:=if Fp p=true then (some (Rx p),(pb p s).1,(pb p s).2.1,()) else (none,0,false,())
noncomputable abbrev bx:Spec:=Gu (.pair Hk (.pair tL .unit)) (.pair (.optr uN) (.pair tI (.pair .bool .unit))) true false (λx=>Dp x.1/\short x.2.1) (λx=>Vw x.1 x.2.1)
def PX (goal s:List Int):Bool:=List.all goal λx=>decide (Hu s x=x)
noncomputable def Ex (p:PP):SS×Bool×Unit:=if Bm p=true then (Ka p.2.2.1 (upto p.1.toNat),Fp p,()) else (([],[],[],false,()),false,())
noncomputable abbrev Zl:Spec:=Gu (.pair Hk .unit) (.pair bj (.pair .bool .unit)) true false (λx=>Dp x.1) (λx=>Ex x.1)
noncomputable abbrev Tq:Spec:=Gu (.pair tL (.pair tL .unit)) tL false true (λx=>short x.2.1/\Og (List.length x.1) x.2.1) (λx=>Dv x.1 x.2.1)
abbrev QK:Type:=(Int×ByteArray×List (List Int)×PUnit)×List (List Int)×List Int×(ByteArray->Option Int)×List Int×List Int×List (List Int)×PUnit
theorem Ais (e:Option (PP×List (List Int)×List Int×(ByteArray->Option Int)×List Int×List Int×List (List Int)×Unit)) (s:List Int) (P:(Int×Bool×Unit)->Prop):(∃(y3:QK),e=some y3/\ ∃(y4:Bool),Qx.fn (y3.1,s,())=some y4/\Br (!y4) (P ((0:Int),false,())) (∃(y5:QK),e=some y5/\ ∃(y6:ByteArray),Dx.fn (s,())=some y6/\P ((y5.2.2.2.1 y6).getD (Int.ofNat (nat_lit 0)),(y5.2.2.2.1 y6).isSome,())))=fnW Fz (look [(78,Qx),(121,Dx)]) pD Tryz.f117 (e,s,()) P:=by kernel_rfl
theorem yg (p:Int×ByteArray×List (List Int)×Unit) (s:List Int) (P:(Option (PP×List (List Int)×List Int×(ByteArray->Option Int)×List Int×List Int×List (List Int)×Unit)×Int×Bool×Unit)->Prop):(∃(y3:Option ((Int×ByteArray×List (List Int)×PUnit)×List (List Int)×List Int×(ByteArray->Option Int)×List Int×List Int×List (List Int)×PUnit)×Bool×PUnit),Wb.fn ((p.1,p.2.1,p.2.2.1,()),())=some y3/\Br (!y3.2.1) (P (none,(0:Int),false,())) (∃(y4:Int×Bool×PUnit),pD.fn (y3.1,s,())=some y4/\P (y3.1,y4.1,y4.2.1,())))=fnW Fz (look [(92,Wb),(117,pD)]) bx Tryz.f59 (p,s,()) P:=by kernel_rfl
abbrev Ek:Type:=List (List Int)×List Int×List Int×Bool×PUnit
theorem NW (p:Int×ByteArray×List (List Int)×Unit) (P:((List (List Int)×List Int×List Int×Bool×Unit)×Bool×Unit)->Prop):(∃(y2:Bool),Ge.fn ((p.1,p.2.1,p.2.2.1,()),())=some y2/\Br (!y2) (P ((List.take 0 (List.drop 0 []),List.take 0 (List.drop 0 []),List.take 0 (List.drop 0 []),false,()),false,())) (((((∃(y3:List Int),Dj.fn (p.1,())=some y3/\(∃(y4:Ek),Gz.fn ((p.1,p.2.1,p.2.2.1,()),y3,())=some y4/\((P ((y4.1,y4.2.1,y4.2.2.1,y4.2.2.2.1,()),y4.2.2.2.1,())/\P ((y4.1,y4.2.1,y4.2.2.1,y4.2.2.2.1,()),y4.2.2.2.1,()))/\P ((y4.1,y4.2.1,y4.2.2.1,y4.2.2.2.1,()),y4.2.2.2.1,()))/\(P ((y4.1,y4.2.1,y4.2.2.1,y4.2.2.2.1,()),y4.2.2.2.1,())/\P ((y4.1,y4.2.1,y4.2.2.1,y4.2.2.2.1,()),y4.2.2.2.1,()))/\P ((y4.1,y4.2.1,y4.2.2.1,y4.2.2.2.1,()),y4.2.2.2.1,()))/\ ∃(y4:Ek),Gz.fn ((p.1,p.2.1,p.2.2.1,()),y3,())=some y4/\((P ((y4.1,y4.2.1,y4.2.2.1,y4.2.2.2.1,()),y4.2.2.2.1,())/\P ((y4.1,y4.2.1,y4.2.2.1,y4.2.2.2.1,()),y4.2.2.2.1,()))/\P ((y4.1,y4.2.1,y4.2.2.1,y4.2.2.2.1,()),y4.2.2.2.1,()))/\(P ((y4.1,y4.2.1,y4.2.2.1,y4.2.2.2.1,()),y4.2.2.2.1,())/\P ((y4.1,y4.2.1,y4.2.2.1,y4.2.2.2.1,()),y4.2.2.2.1,()))/\P ((y4.1,y4.2.1,y4.2.2.1,y4.2.2.2.1,()),y4.2.2.2.1,()))/\ ∃(y3:List Int),Dj.fn (p.1,())=some y3/\ ∃(y4:Ek),Gz.fn ((p.1,p.2.1,p.2.2.1,()),y3,())=some y4/\((P ((y4.1,y4.2.1,y4.2.2.1,y4.2.2.2.1,()),y4.2.2.2.1,())/\P ((y4.1,y4.2.1,y4.2.2.1,y4.2.2.2.1,()),y4.2.2.2.1,()))/\P ((y4.1,y4.2.1,y4.2.2.1,y4.2.2.2.1,()),y4.2.2.2.1,()))/\(P ((y4.1,y4.2.1,y4.2.2.1,y4.2.2.2.1,()),y4.2.2.2.1,())/\P ((y4.1,y4.2.1,y4.2.2.1,y4.2.2.2.1,()),y4.2.2.2.1,()))/\P ((y4.1,y4.2.1,y4.2.2.1,y4.2.2.2.1,()),y4.2.2.2.1,()))/\ ∃(y3:List Int),Dj.fn (p.1,())=some y3/\ ∃(y4:Ek),Gz.fn ((p.1,p.2.1,p.2.2.1,()),y3,())=some y4/\((P ((y4.1,y4.2.1,y4.2.2.1,y4.2.2.2.1,()),y4.2.2.2.1,())/\P ((y4.1,y4.2.1,y4.2.2.1,y4.2.2.2.1,()),y4.2.2.2.1,()))/\P ((y4.1,y4.2.1,y4.2.2.1,y4.2.2.2.1,()),y4.2.2.2.1,()))/\(P ((y4.1,y4.2.1,y4.2.2.1,y4.2.2.2.1,()),y4.2.2.2.1,())/\P ((y4.1,y4.2.1,y4.2.2.1,y4.2.2.2.1,()),y4.2.2.2.1,()))/\P ((y4.1,y4.2.1,y4.2.2.1,y4.2.2.2.1,()),y4.2.2.2.1,()))/\ ∃(y3:List Int),Dj.fn (p.1,())=some y3/\ ∃(y4:Ek),Gz.fn ((p.1,p.2.1,p.2.2.1,()),y3,())=some y4/\((P ((y4.1,y4.2.1,y4.2.2.1,y4.2.2.2.1,()),y4.2.2.2.1,())/\P ((y4.1,y4.2.1,y4.2.2.1,y4.2.2.2.1,()),y4.2.2.2.1,()))/\P ((y4.1,y4.2.1,y4.2.2.1,y4.2.2.2.1,()),y4.2.2.2.1,()))/\(P ((y4.1,y4.2.1,y4.2.2.1,y4.2.2.2.1,()),y4.2.2.2.1,())/\P ((y4.1,y4.2.1,y4.2.2.1,y4.2.2.2.1,()),y4.2.2.2.1,()))/\P ((y4.1,y4.2.1,y4.2.2.1,y4.2.2.2.1,()),y4.2.2.2.1,()))/\((((∃(y3:List Int),Dj.fn (p.1,())=some y3/\(∃(y4:Ek),Gz.fn ((p.1,p.2.1,p.2.2.1,()),y3,())=some y4/\((P ((y4.1,y4.2.1,y4.2.2.1,y4.2.2.2.1,()),y4.2.2.2.1,())/\P ((y4.1,y4.2.1,y4.2.2.1,y4.2.2.2.1,()),y4.2.2.2.1,()))/\P ((y4.1,y4.2.1,y4.2.2.1,y4.2.2.2.1,()),y4.2.2.2.1,()))/\(P ((y4.1,y4.2.1,y4.2.2.1,y4.2.2.2.1,()),y4.2.2.2.1,())/\P ((y4.1,y4.2.1,y4.2.2.1,y4.2.2.2.1,()),y4.2.2.2.1,()))/\P ((y4.1,y4.2.1,y4.2.2.1,y4.2.2.2.1,()),y4.2.2.2.1,()))/\ ∃(y4:Ek),Gz.fn ((p.1,p.2.1,p.2.2.1,()),y3,())=some y4/\((P ((y4.1,y4.2.1,y4.2.2.1,y4.2.2.2.1,()),y4.2.2.2.1,())/\P ((y4.1,y4.2.1,y4.2.2.1,y4.2.2.2.1,()),y4.2.2.2.1,()))/\P ((y4.1,y4.2.1,y4.2.2.1,y4.2.2.2.1,()),y4.2.2.2.1,()))/\(P ((y4.1,y4.2.1,y4.2.2.1,y4.2.2.2.1,()),y4.2.2.2.1,())/\P ((y4.1,y4.2.1,y4.2.2.1,y4.2.2.2.1,()),y4.2.2.2.1,()))/\P ((y4.1,y4.2.1,y4.2.2.1,y4.2.2.2.1,()),y4.2.2.2.1,()))/\ ∃(y3:List Int),Dj.fn (p.1,())=some y3/\ ∃(y4:Ek),Gz.fn ((p.1,p.2.1,p.2.2.1,()),y3,())=some y4/\((P ((y4.1,y4.2.1,y4.2.2.1,y4.2.2.2.1,()),y4.2.2.2.1,())/\P ((y4.1,y4.2.1,y4.2.2.1,y4.2.2.2.1,()),y4.2.2.2.1,()))/\P ((y4.1,y4.2.1,y4.2.2.1,y4.2.2.2.1,()),y4.2.2.2.1,()))/\(P ((y4.1,y4.2.1,y4.2.2.1,y4.2.2.2.1,()),y4.2.2.2.1,())/\P ((y4.1,y4.2.1,y4.2.2.1,y4.2.2.2.1,()),y4.2.2.2.1,()))/\P ((y4.1,y4.2.1,y4.2.2.1,y4.2.2.2.1,()),y4.2.2.2.1,()))/\ ∃(y3:List Int),Dj.fn (p.1,())=some y3/\ ∃(y4:Ek),Gz.fn ((p.1,p.2.1,p.2.2.1,()),y3,())=some y4/\((P ((y4.1,y4.2.1,y4.2.2.1,y4.2.2.2.1,()),y4.2.2.2.1,())/\P ((y4.1,y4.2.1,y4.2.2.1,y4.2.2.2.1,()),y4.2.2.2.1,()))/\P ((y4.1,y4.2.1,y4.2.2.1,y4.2.2.2.1,()),y4.2.2.2.1,()))/\(P ((y4.1,y4.2.1,y4.2.2.1,y4.2.2.2.1,()),y4.2.2.2.1,())/\P ((y4.1,y4.2.1,y4.2.2.1,y4.2.2.2.1,()),y4.2.2.2.1,()))/\P ((y4.1,y4.2.1,y4.2.2.1,y4.2.2.2.1,()),y4.2.2.2.1,()))/\(((∃(y3:List Int),Dj.fn (p.1,())=some y3/\(∃(y4:Ek),Gz.fn ((p.1,p.2.1,p.2.2.1,()),y3,())=some y4/\((P ((y4.1,y4.2.1,y4.2.2.1,y4.2.2.2.1,()),y4.2.2.2.1,())/\P ((y4.1,y4.2.1,y4.2.2.1,y4.2.2.2.1,()),y4.2.2.2.1,()))/\P ((y4.1,y4.2.1,y4.2.2.1,y4.2.2.2.1,()),y4.2.2.2.1,()))/\(P ((y4.1,y4.2.1,y4.2.2.1,y4.2.2.2.1,()),y4.2.2.2.1,())/\P ((y4.1,y4.2.1,y4.2.2.1,y4.2.2.2.1,()),y4.2.2.2.1,()))/\P ((y4.1,y4.2.1,y4.2.2.1,y4.2.2.2.1,()),y4.2.2.2.1,()))/\ ∃(y4:Ek),Gz.fn ((p.1,p.2.1,p.2.2.1,()),y3,())=some y4/\((P ((y4.1,y4.2.1,y4.2.2.1,y4.2.2.2.1,()),y4.2.2.2.1,())/\P ((y4.1,y4.2.1,y4.2.2.1,y4.2.2.2.1,()),y4.2.2.2.1,()))/\P ((y4.1,y4.2.1,y4.2.2.1,y4.2.2.2.1,()),y4.2.2.2.1,()))/\(P ((y4.1,y4.2.1,y4.2.2.1,y4.2.2.2.1,()),y4.2.2.2.1,())/\P ((y4.1,y4.2.1,y4.2.2.1,y4.2.2.2.1,()),y4.2.2.2.1,()))/\P ((y4.1,y4.2.1,y4.2.2.1,y4.2.2.2.1,()),y4.2.2.2.1,()))/\ ∃(y3:List Int),Dj.fn (p.1,())=some y3/\ ∃(y4:Ek),Gz.fn ((p.1,p.2.1,p.2.2.1,()),y3,())=some y4/\((P ((y4.1,y4.2.1,y4.2.2.1,y4.2.2.2.1,()),y4.2.2.2.1,())/\P ((y4.1,y4.2.1,y4.2.2.1,y4.2.2.2.1,()),y4.2.2.2.1,()))/\P ((y4.1,y4.2.1,y4.2.2.1,y4.2.2.2.1,()),y4.2.2.2.1,()))/\(P ((y4.1,y4.2.1,y4.2.2.1,y4.2.2.2.1,()),y4.2.2.2.1,())/\P ((y4.1,y4.2.1,y4.2.2.1,y4.2.2.2.1,()),y4.2.2.2.1,()))/\P ((y4.1,y4.2.1,y4.2.2.1,y4.2.2.2.1,()),y4.2.2.2.1,()))/\(∃(y3:List Int),Dj.fn (p.1,())=some y3/\((∃(y4:Ek),Gz.fn ((p.1,p.2.1,p.2.2.1,()),y3,())=some y4/\((P ((y4.1,y4.2.1,y4.2.2.1,y4.2.2.2.1,()),y4.2.2.2.1,())/\P ((y4.1,y4.2.1,y4.2.2.1,y4.2.2.2.1,()),y4.2.2.2.1,()))/\P ((y4.1,y4.2.1,y4.2.2.1,y4.2.2.2.1,()),y4.2.2.2.1,()))/\(P ((y4.1,y4.2.1,y4.2.2.1,y4.2.2.2.1,()),y4.2.2.2.1,())/\P ((y4.1,y4.2.1,y4.2.2.1,y4.2.2.2.1,()),y4.2.2.2.1,()))/\P ((y4.1,y4.2.1,y4.2.2.1,y4.2.2.2.1,()),y4.2.2.2.1,()))/\ ∃(y4:Ek),Gz.fn ((p.1,p.2.1,p.2.2.1,()),y3,())=some y4/\((P ((y4.1,y4.2.1,y4.2.2.1,y4.2.2.2.1,()),y4.2.2.2.1,())/\P ((y4.1,y4.2.1,y4.2.2.1,y4.2.2.2.1,()),y4.2.2.2.1,()))/\P ((y4.1,y4.2.1,y4.2.2.1,y4.2.2.2.1,()),y4.2.2.2.1,()))/\(P ((y4.1,y4.2.1,y4.2.2.1,y4.2.2.2.1,()),y4.2.2.2.1,())/\P ((y4.1,y4.2.1,y4.2.2.1,y4.2.2.2.1,()),y4.2.2.2.1,()))/\P ((y4.1,y4.2.1,y4.2.2.1,y4.2.2.2.1,()),y4.2.2.2.1,()))/\ ∃(y4:Ek),Gz.fn ((p.1,p.2.1,p.2.2.1,()),y3,())=some y4/\((P ((y4.1,y4.2.1,y4.2.2.1,y4.2.2.2.1,()),y4.2.2.2.1,())/\P ((y4.1,y4.2.1,y4.2.2.1,y4.2.2.2.1,()),y4.2.2.2.1,()))/\P ((y4.1,y4.2.1,y4.2.2.1,y4.2.2.2.1,()),y4.2.2.2.1,()))/\(P ((y4.1,y4.2.1,y4.2.2.1,y4.2.2.2.1,()),y4.2.2.2.1,())/\P ((y4.1,y4.2.1,y4.2.2.1,y4.2.2.2.1,()),y4.2.2.2.1,()))/\P ((y4.1,y4.2.1,y4.2.2.1,y4.2.2.2.1,()),y4.2.2.2.1,()))/\(∃(y3:List Int),Dj.fn (p.1,())=some y3/\ ∃(y4:Ek),Gz.fn ((p.1,p.2.1,p.2.2.1,()),y3,())=some y4/\((P ((y4.1,y4.2.1,y4.2.2.1,y4.2.2.2.1,()),y4.2.2.2.1,())/\P ((y4.1,y4.2.1,y4.2.2.1,y4.2.2.2.1,()),y4.2.2.2.1,()))/\P ((y4.1,y4.2.1,y4.2.2.1,y4.2.2.2.1,()),y4.2.2.2.1,()))/\(P ((y4.1,y4.2.1,y4.2.2.1,y4.2.2.2.1,()),y4.2.2.2.1,())/\P ((y4.1,y4.2.1,y4.2.2.1,y4.2.2.2.1,()),y4.2.2.2.1,()))/\P ((y4.1,y4.2.1,y4.2.2.1,y4.2.2.2.1,()),y4.2.2.2.1,()))/\ ∃(y3:List Int),Dj.fn (p.1,())=some y3/\ ∃(y4:Ek),Gz.fn ((p.1,p.2.1,p.2.2.1,()),y3,())=some y4/\((P ((y4.1,y4.2.1,y4.2.2.1,y4.2.2.2.1,()),y4.2.2.2.1,())/\P ((y4.1,y4.2.1,y4.2.2.1,y4.2.2.2.1,()),y4.2.2.2.1,()))/\P ((y4.1,y4.2.1,y4.2.2.1,y4.2.2.2.1,()),y4.2.2.2.1,()))/\(P ((y4.1,y4.2.1,y4.2.2.1,y4.2.2.2.1,()),y4.2.2.2.1,())/\P ((y4.1,y4.2.1,y4.2.2.1,y4.2.2.2.1,()),y4.2.2.2.1,()))/\P ((y4.1,y4.2.1,y4.2.2.1,y4.2.2.2.1,()),y4.2.2.2.1,()))/\(∃(y3:List Int),Dj.fn (p.1,())=some y3/\ ∃(y4:Ek),Gz.fn ((p.1,p.2.1,p.2.2.1,()),y3,())=some y4/\((P ((y4.1,y4.2.1,y4.2.2.1,y4.2.2.2.1,()),y4.2.2.2.1,())/\P ((y4.1,y4.2.1,y4.2.2.1,y4.2.2.2.1,()),y4.2.2.2.1,()))/\P ((y4.1,y4.2.1,y4.2.2.1,y4.2.2.2.1,()),y4.2.2.2.1,()))/\(P ((y4.1,y4.2.1,y4.2.2.1,y4.2.2.2.1,()),y4.2.2.2.1,())/\P ((y4.1,y4.2.1,y4.2.2.1,y4.2.2.2.1,()),y4.2.2.2.1,()))/\P ((y4.1,y4.2.1,y4.2.2.1,y4.2.2.2.1,()),y4.2.2.2.1,()))/\(∃(y3:List Int),Dj.fn (p.1,())=some y3/\ ∃(y4:Ek),Gz.fn ((p.1,p.2.1,p.2.2.1,()),y3,())=some y4/\((P ((y4.1,y4.2.1,y4.2.2.1,y4.2.2.2.1,()),y4.2.2.2.1,())/\P ((y4.1,y4.2.1,y4.2.2.1,y4.2.2.2.1,()),y4.2.2.2.1,()))/\P ((y4.1,y4.2.1,y4.2.2.1,y4.2.2.2.1,()),y4.2.2.2.1,()))/\(P ((y4.1,y4.2.1,y4.2.2.1,y4.2.2.2.1,()),y4.2.2.2.1,())/\P ((y4.1,y4.2.1,y4.2.2.1,y4.2.2.2.1,()),y4.2.2.2.1,()))/\P ((y4.1,y4.2.1,y4.2.2.1,y4.2.2.2.1,()),y4.2.2.2.1,()))/\ ∃(y3:List Int),Dj.fn (p.1,())=some y3/\ ∃(y4:Ek),Gz.fn ((p.1,p.2.1,p.2.2.1,()),y3,())=some y4/\((P ((y4.1,y4.2.1,y4.2.2.1,y4.2.2.2.1,()),y4.2.2.2.1,())/\P ((y4.1,y4.2.1,y4.2.2.1,y4.2.2.2.1,()),y4.2.2.2.1,()))/\P ((y4.1,y4.2.1,y4.2.2.1,y4.2.2.2.1,()),y4.2.2.2.1,()))/\(P ((y4.1,y4.2.1,y4.2.2.1,y4.2.2.2.1,()),y4.2.2.2.1,())/\P ((y4.1,y4.2.1,y4.2.2.1,y4.2.2.2.1,()),y4.2.2.2.1,()))/\P ((y4.1,y4.2.1,y4.2.2.1,y4.2.2.2.1,()),y4.2.2.2.1,()))/\(∃(y3:List Int),Dj.fn (p.1,())=some y3/\ ∃(y4:Ek),Gz.fn ((p.1,p.2.1,p.2.2.1,()),y3,())=some y4/\((P ((y4.1,y4.2.1,y4.2.2.1,y4.2.2.2.1,()),y4.2.2.2.1,())/\P ((y4.1,y4.2.1,y4.2.2.1,y4.2.2.2.1,()),y4.2.2.2.1,()))/\P ((y4.1,y4.2.1,y4.2.2.1,y4.2.2.2.1,()),y4.2.2.2.1,()))/\(P ((y4.1,y4.2.1,y4.2.2.1,y4.2.2.2.1,()),y4.2.2.2.1,())/\P ((y4.1,y4.2.1,y4.2.2.1,y4.2.2.2.1,()),y4.2.2.2.1,()))/\P ((y4.1,y4.2.1,y4.2.2.1,y4.2.2.2.1,()),y4.2.2.2.1,()))/\(∃(y3:List Int),Dj.fn (p.1,())=some y3/\ ∃(y4:Ek),Gz.fn ((p.1,p.2.1,p.2.2.1,()),y3,())=some y4/\((P ((y4.1,y4.2.1,y4.2.2.1,y4.2.2.2.1,()),y4.2.2.2.1,())/\P ((y4.1,y4.2.1,y4.2.2.1,y4.2.2.2.1,()),y4.2.2.2.1,()))/\P ((y4.1,y4.2.1,y4.2.2.1,y4.2.2.2.1,()),y4.2.2.2.1,()))/\(P ((y4.1,y4.2.1,y4.2.2.1,y4.2.2.2.1,()),y4.2.2.2.1,())/\P ((y4.1,y4.2.1,y4.2.2.1,y4.2.2.2.1,()),y4.2.2.2.1,()))/\P ((y4.1,y4.2.1,y4.2.2.1,y4.2.2.2.1,()),y4.2.2.2.1,()))/\(∃(y3:List Int),Dj.fn (p.1,())=some y3/\ ∃(y4:Ek),Gz.fn ((p.1,p.2.1,p.2.2.1,()),y3,())=some y4/\((P ((y4.1,y4.2.1,y4.2.2.1,y4.2.2.2.1,()),y4.2.2.2.1,())/\P ((y4.1,y4.2.1,y4.2.2.1,y4.2.2.2.1,()),y4.2.2.2.1,()))/\P ((y4.1,y4.2.1,y4.2.2.1,y4.2.2.2.1,()),y4.2.2.2.1,()))/\(P ((y4.1,y4.2.1,y4.2.2.1,y4.2.2.2.1,()),y4.2.2.2.1,())/\P ((y4.1,y4.2.1,y4.2.2.1,y4.2.2.2.1,()),y4.2.2.2.1,()))/\P ((y4.1,y4.2.1,y4.2.2.1,y4.2.2.2.1,()),y4.2.2.2.1,()))/\ ∃(y3:List Int),Dj.fn (p.1,())=some y3/\ ∃(y4:Ek),Gz.fn ((p.1,p.2.1,p.2.2.1,()),y3,())=some y4/\((P ((y4.1,y4.2.1,y4.2.2.1,y4.2.2.2.1,()),y4.2.2.2.1,())/\P ((y4.1,y4.2.1,y4.2.2.1,y4.2.2.2.1,()),y4.2.2.2.1,()))/\P ((y4.1,y4.2.1,y4.2.2.1,y4.2.2.2.1,()),y4.2.2.2.1,()))/\(P ((y4.1,y4.2.1,y4.2.2.1,y4.2.2.2.1,()),y4.2.2.2.1,())/\P ((y4.1,y4.2.1,y4.2.2.1,y4.2.2.2.1,()),y4.2.2.2.1,()))/\P ((y4.1,y4.2.1,y4.2.2.1,y4.2.2.2.1,()),y4.2.2.2.1,())))=fnW Fz (look [(63,Ge),(96,Dj),(126,Gz)]) Zl Tryz.f114 (p,()) P:=by kernel_rfl
theorem VB (xs is:List Int) (P:List Int->Prop):(((0:Int)<=(↑is.length:Int)/\(↑is.length:Int)<(↑Cn:Int)+(1:Int))/\(↑is.length:Int)=(↑is.length:Int)/\0=0/\(List.replicate (↑is.length:Int).toNat (Int.ofNat (nat_lit 0))).length=(List.replicate (↑is.length:Int).toNat (Int.ofNat (nat_lit 0))).length/\Dl (λ(v3:Int×List Int×PUnit) (k4:Int×List Int×PUnit->Prop)=>Br (decide (v3.1<(↑is.length:Int))) (∃(y5:Int),idx is v3.1=some y5/\ ∃(y6:Int),idx xs y5=some y6/\((0:Int)<=v3.1/\v3.1<(↑v3.2.1.length:Int))/\0+v3.1.toNat<v3.2.1.length/\0=0/\v3.2.1.length=(v3.2.1.set (0+v3.1.toNat) y6).length/\k4 (IntKind.i64.wrap (v3.1+(1:Int)),v3.2.1.set (0+v3.1.toNat) y6,())) (P (List.take v3.2.1.length (List.drop 0 v3.2.1)))) ((0:Int),List.replicate (↑is.length:Int).toNat (Int.ofNat (nat_lit 0)),PUnit.unit))=fnW Fz (look []) Tq Tryz.f79 (xs,is,()) P:=by kernel_rfl
theorem xh {p:List Int} (h:bJ p):Jj p=true:=by
 refine Ik.2 ⟨h.pos,h.len,λj h1 h2=>?_⟩
 have:=h.row _ (Ak h2)
 exact ⟨by omega,by omega,λhm=>by
  obtain ⟨i,hi,e⟩:=Bf.1 hm
  have mI:i<j:=by rw [De] at hi;omega
  rw [List.getElem_take] at e
  exact (El.1 h.nodup i j (by omega) h2 mI) e⟩
theorem Gm {p:PP} (hw:Fp p=true):Bm p=true/\(Gd p.2.2.1 (upto p.1.toNat)).2.2=true:=Bt.1 hw
theorem jB {p:PP} (hv:Bm p=true):Tw p p.1.toNat (Ba p) (Dm p):=(jk hv).ok
theorem iS {p:PP} (hV:Valid p):OC p.1.toNat λg=>some g∈p.2.2.1.map some:=
 ⟨by have:=hV.n;omega,λg eT=>by obtain ⟨g',e,h⟩:=jd (bP hV).2.2 _ eT;cases e;exact h⟩
theorem gP {p:PP} (hv:Bm p=true) {x:List Int} (hx:x∈Ba p):Pm p.1.toNat x:=cE.pm (iS (valid hv)) ((jk hv).gen x hx)
theorem zA {p:PP} (hV:Valid p) {x:List Int} (h:Pm p.1.toNat x):Hq p.1 x=true:=by
 have:=hV.n
 have:=h.1
 exact Ik.2 ⟨by omega,xh h.2⟩
theorem JN {p:PP} (_hV:Valid p) {x:List Int} (h:Hq p.1 x=true):Pm p.1.toNat x:=by
 obtain ⟨h1,h2⟩:=Ik.1 h
 exact ⟨by omega,dE h2⟩
theorem Aa5 {p:PP} (hv:Bm p=true) {x:List Int} (hx:x∈Ba p):Hq p.1 x=true:=zA (valid hv) (gP hv hx)
theorem Adp {p:PP} (hv:Bm p=true) {x:List Int} (hx:x∈Ba p):Ua x:= λy hy=>by
 have h1:=(jB hv).row x hx y hy
 have:=(valid hv).n
 omega
theorem Adk {n:Nat} {x:List Int} (h:Pm n x):Ua x:= λy hy=>by
 have h1:=h.row y hy
 have:=h.n2
 omega
theorem jc {n:Nat} {x:List Int} (h:Pm n x):short x:=by
 have h1:=h.1
 have:=h.n2
 unfold short;omega
theorem ON {p:PP} (hw:Fp p=true):(Rx p).2.1=Ba p/\(Rx p).2.2.1=Dm p:=by
 have h:=(Gm hw).2
 refine CU 3001 0 ([upto p.1.toNat],[0],[0],[0]) [] _ _ ?_
 show Jz p.2.2.1 (Bi p.2.2.1.length) 3001 0 [upto p.1.toNat] [0]=(Ba p,Dm p,true)
 rw [<-h]
 rfl
theorem Ac7 {p:PP} (hw:Fp p=true) {s:List Int} (hs:Ua s):(Rx p).2.2.2.1 (Mp s)=if s∈Ba p then some (((Ba p).idxOf s:Nat):Int) else none:=by
 show Zw (Rx p).2.1 (Mp s)=_
 rw [(ON hw).1,xo hs λy hy=>Adp (Gm hw).1 hy]
theorem Ai4 (e:Option XP) (s:List Int) (h:(∃e':XP,e=some e'/\Afx e')/\short s):fnW Fz (look [(78,Qx),(121,Dx)]) pD Tryz.f117 (e,s,()) (λ(z:Int×Bool×Unit)=>z=YS e s):=by
 obtain ⟨⟨e',rfl,h1,h2⟩,hs⟩:=h
 have hv:=(Gm h1).1
 refine Eq.mp (Ais (some e') s _) ⟨e',rfl,_,Ab hs,Br.of (λhb=>?_) λhb=>⟨e',rfl,_,Ab hs,?_⟩⟩
 ·have hb:=Hy hb
  show (0,false,())=pb e'.1 s
  unfold pb
  rw [Aj λhm=>hb (Aa5 hv hm)]
 ·have hb:Hq e'.1.1 s=true:=by simpa using hb
  have hp:=JN (valid hv) hb
  dsimp only
  have e3:e'.2.2.2.1=(Rx e'.1).2.2.2.1:=by rw [<-h2]
  rw [e3,Ac7 h1 (Adk hp)]
  show _=pb e'.1 s
  unfold pb
  split<;>rfl
theorem MR:Sound Tryz.prog 117 pD:=
 Sound.Gu Dq (Aw cr (Aw Px Bn)) mixed Tryz.func117 (by kernel_rfl) (by kernel_rfl) λx h=>Ai4 x.1 x.2.1 h
theorem SR (p:PP) (s:List Int) (h:Dp p/\short s):fnW Fz (look [(92,Wb),(117,pD)]) bx Tryz.f59 (p,s,()) (λ(z:Option XP×Int×Bool×Unit)=>z=Vw p s):=by
 unfold Vw
 by_cases hw:Fp p=true
 ·rw [Ab hw]
  have he:Wb.fn ((p.1,p.2.1,p.2.2.1,()),())=some (some (Rx p),true,()):=(Ab h.1).trans (Dk some (Ab hw))
  refine Eq.mp (yg p s _) ⟨_,he,λhb=>by simp at hb,λ_=>⟨_,Ab ⟨⟨Rx p,rfl,hw,rfl⟩,h.2⟩,?_⟩⟩
  rfl
 ·rw [Aj hw]
  have he:Wb.fn ((p.1,p.2.1,p.2.2.1,()),())=some (none,false,()):=(Ab h.1).trans (Dk some (Aj hw))
  exact Eq.mp (yg p s _) ⟨_,he,λ_=>rfl,λhb=>by simp at hb⟩
theorem wb:Sound Tryz.prog 59 bx:=
 Sound.Gu Dq (Aw wc (Aw MR Bn)) mixed Tryz.func59 (by kernel_rfl) (by kernel_rfl) λx h=>SR x.1 x.2.1 h
theorem jQ {p:PP} {s:List Int} :Pe p s=true↔Fp p=true/\s∈Ba p:=by
 unfold Pe;rw [Af,Mo]
theorem JK {p:PP} {s:List Int} :(Vw p s).2.2.1=Pe p s:=by
 unfold Vw pb Pe
 by_cases hw:Fp p=true
 ·rw [Ab hw,hw,Qe]
  by_cases hm:s∈Ba p
  ·rw [Ab hm,Ec hm]
  ·rw [Aj hm,Fu hm]
 ·rw [Aj hw,Hc _|>.mp hw,Bool.false_and]
theorem LQ (p:PP) (h:Dp p):fnW Fz (look [(63,Ge),(96,Dj),(126,Gz)]) Zl Tryz.f114 (p,()) (λ(z:SS×Bool×Unit)=>z=Ex p):=by
 refine Eq.mp (NW p _) ⟨_,Ab h,?_⟩
 show Br (!Bm p) _ _
 unfold Ex
 by_cases hv:Bm p=true
 ·rw [Ab hv,hv]
  refine ⟨λhb=>by simp at hb,λ_=>?_⟩
  have hn:=(valid hv).n
  have XE:Dj.fn (p.1,())=some (upto p.1.toNat):=Ab ⟨by show 0<=p.1;omega,by show p.1<=20;omega⟩
  have hup: ∀y∈upto p.1.toNat,0<=y/\y<p.1:= λy hy=>by have:=Oi.1 hy;omega
  have yN:Gz.fn ((p.1,p.2.1,p.2.2.1,()),upto p.1.toNat,())=some (Ka p.2.2.1 (upto p.1.toNat)):=Ab ⟨hv,by show (upto p.1.toNat).length<=20;rw [Ti];omega,hup⟩
  have hz:(((Ka p.2.2.1 (upto p.1.toNat)).1,(Ka p.2.2.1 (upto p.1.toNat)).2.1,(Ka p.2.2.1 (upto p.1.toNat)).2.2.1,(Ka p.2.2.1 (upto p.1.toNat)).2.2.2.1,()),(Ka p.2.2.1 (upto p.1.toNat)).2.2.2.1,())=(Ka p.2.2.1 (upto p.1.toNat),Fp p,()):=by
   unfold Fp
   rw [hv,Qe]
   rfl
  repeat' (first|exact hz|refine ⟨_,XE,?_⟩|refine ⟨_,yN,?_⟩|refine ⟨?_,?_⟩)
 ·rw [Aj hv]
  refine ⟨λ_=>rfl,λhb=>?_⟩
  exact absurd (by simpa using hb) hv
theorem uF:Sound Tryz.prog 114 Zl:=
 Sound.Gu Dq (Aw Tu (Aw cq (Aw qH Bn))) mixed Tryz.func114 (by kernel_rfl) (by kernel_rfl) λx h=>LQ x.1 h
theorem Ag2 {b:Bool} (h:(!b)=true):b=false:=by cases b<;>simp_all
theorem TD (xs is:List Int) (h:short is/\Og xs.length is):fnW Fz (look []) Tq Tryz.f79 (xs,is,()) (λ(z:List Int)=>z=Dv xs is):=by
 obtain ⟨h,hr⟩:=h
 unfold short at h
 have Rc:(Dv xs is).length=is.length:=FX xs is
 refine Eq.mp (VB xs is _) ⟨⟨by omega,by show (is.length:Int)<(4294967296:Int)+1;omega⟩,rfl,rfl,rfl,?_⟩
 refine Bw is.length (λv=>v.1) (λj v=>v.2.1.length=(Dv xs is).length/\v.2.1.take j=(Dv xs is).take j) rfl ⟨by rw [Rc];simp,by simp⟩ ?_
 rintro j ⟨i,ys,⟨⟩⟩ K hj hi ⟨h1,h2⟩ hK
 dsimp only at hi h1 h2⊢
 subst hi
 refine Br.dec (λhl=>?_) λhl=>?_
 ·have hl:j<is.length:=by omega
  have hx:=hr _ (Ak hl)
  obtain ⟨xn,hxe⟩:=Rw hx.1
  have Mb:j<(Dv xs is).length:=by rw [Rc];exact hl
  have e:xs[xn]'(by omega)=(Dv xs is)[j]:=by
   simp only [Dv,Tx,Hu,hxe,Aq]
   rw [Mj]
  refine ⟨_,Cd hl,xs[xn]'(by omega),by rw [hxe];exact Cd (by omega),⟨by omega,by omega⟩,by rw [Aq,Bu];omega,rfl,by rw [Dg],?_⟩
  rw [Bv (by omega),Aq,Bu,e]
  refine hK hl _ rfl ⟨by rw [Dg];exact h1,?_⟩
  rw [Gi,List.take_set_of_le (by omega),h2,List.getElem?_set_self (by omega),Gi,Ac Mb]
 ·have:j=is.length:=by omega
  subst this
  rw [Ch,<-Ax (l:=ys),h1,Rc,h2,<-Rc,Ax]
theorem lq:Sound Tryz.prog 79 Tq:=
 Sound.Gu Dq Bn mixed Tryz.func79 (by kernel_rfl) (by kernel_rfl) λx h=>TD x.1 x.2.1 h
theorem Aa6 {p:PP} (hv:Bm p=true):(Ba p).length<=3000:=(jB hv).ok.kB
theorem nY {p:PP} {t s:List Int} (hv:Bm p=true) (hs:s∈Ba p) (ht:Ep p t=true):Og s.length t:=by
 have h1:=(gP hv hs).1
 have hn:=(valid hv).n
 intro y hy
 have:=(Hl ht).2 y hy
 omega
def Oh (g:List (List Int)) (s w:List Int):List Int:=w.foldl (λq l=>Ai q (Au g l)) s
noncomputable abbrev Zg:Spec:=Gu (.pair tI (.pair mE (.pair tL .unit))) tL false true (λx=> ∃p:PP,Bm p=true/\p.1=x.1/\p.2.2.1=x.2.1/\Nc (List.length x.2.1:Nat) x.2.2.1=true) (λx=>Oh x.2.1 (upto x.1.toNat) x.2.2.1)
theorem eB {p:PP} (hV:Valid p) {l:Int} (hl:Il (List.length p.2.2.1) l):Pm p.1.toNat (Au p.2.2.1 l):=by
 have hn:=hV.n
 obtain ⟨k,hk,To⟩:=Qt hl
 have hp:Pm p.1.toNat (p.2.2.1[k]):=⟨by have:=hV.len _ (Ak hk);omega,dE (hV.perm _ (Ak hk))⟩
 rcases To with rfl|rfl
 ·rw [Ox hk];exact hp
 ·rw [Ow hk];exact hp.inv
theorem sr {p:PP} (hV:Valid p): ∀(w s:List Int),(∀l∈w,Il (List.length p.2.2.1) l)->Pm p.1.toNat s->Pm p.1.toNat (Oh p.2.2.1 s w)
 | [],s,_,hs=>hs
 |l::w,s,hl,hs=>by
  have h1:=eB hV (hl l (by simp))
  exact sr hV w _ (λl' h=>hl l' (An _ h)) (hs.comp h1)
theorem pV {p:PP} (hV:Valid p) {s:List Int} (hs:Pm p.1.toNat s): ∀(w q:List Int),(∀l∈w,Il (List.length p.2.2.1) l)->Pm p.1.toNat q->Ai s (Oh p.2.2.1 q w)=Oh p.2.2.1 (Ai s q) w
 | [],q,_,_=>rfl
 |l::w,q,hl,hq=>by
  have h1:=eB hV (hl l (by simp))
  have h2:=pV hV hs w _ (λl' h=>hl l' (An _ h)) (hq.comp h1)
  show Ai s (Oh p.2.2.1 (Ai q (Au p.2.2.1 l)) w)=Oh p.2.2.1 (Ai (Ai s q) (Au p.2.2.1 l)) w
  rw [h2,Hb hs hq h1]
theorem IL {g:List (List Int)} {s w:List Int} {j:Nat} (h:j<w.length):Oh g s (w.take (j+1))=Ai (Oh g s (w.take j)) (Au g w[j]):=by
 unfold Oh
 rw [Gi,Ac h,Mn,cG]
 rfl
theorem zB {n:Nat} {q:List Int} (h:Pm n q):q.length<=20:=by have:=h.1;have:=h.n2;omega
theorem FZ {n:Nat} {p q:List Int} (hp:Pm n p) (hq:Pm n q):Og q.length p:=by rw [hq.1];exact hp.row
theorem ZS {p:PP} (hV:Valid p) {q:List Int} (h:Pm p.1.toNat q): ∀y∈q,0<=y/\y<p.1:= λy hy=>by
 have:=h.row y hy
 have:=hV.n
 omega
theorem map_take {α β:Type} (f:α->β) {xs:List α} {j:Nat} (h:j<xs.length):(xs.take (j+1)).map f=(xs.take j).map f++ [f xs[j]]:=by
 rw [Gi,Ac h,Iy];rfl
theorem Zn {p:PP} (hw:Fp p=true):lI p.2.2.1 (Bi p.2.2.1.length) (Ba p):=by
 obtain ⟨hv,hb⟩:=Gm hw
 have hV:=valid hv
 have hn:=hV.n
 exact dB hV (jB hv) (fe hv (by rw [Ti];omega) (λy hy=>by have:=Oi.1 hy;omega) hb)
theorem y0 {p:PP} (hw:Fp p=true):oJ p.2.2.1 (Bi p.2.2.1.length) (Ba p) (Dm p):=by
 obtain ⟨hv,hb⟩:=Gm hw
 have hn:=(valid hv).n
 exact fe hv (by rw [Ti];omega) (λy hy=>by have:=Oi.1 hy;omega) hb
theorem AE {p:PP} (hw:Fp p=true) (Q:List Int->Prop) (hQ: ∀x∈Ba p,Q x-> ∀l∈Bi p.2.2.1.length,Q (Ai x (Au p.2.2.1 l))) {x:List Int} (hx:x∈Ba p) (hq:Q x):
  ∀y∈Ba p,Q y:=by
 have hc:=Zn hw
 have hL:=y0 hw
 have up: ∀(j:Nat),j<(Ba p).length->Q ((Ba p).getD j [])->Q ((Ba p).getD 0 []):=by
  intro j
  induction j using Nat.strongRecOn with
  |_ j ih=>
   intro hj hqj
   by_cases e:j=0
   ·subst e;exact hqj
   ·obtain ⟨i,l,h1,h2,h3,_⟩:=hL.par j (by omega) hj
    have hi:i<(Ba p).length:=by omega
    obtain ⟨b1,b2⟩:=hc.back _ (eg hi) l h2
    refine ih i h1 hi ?_
    have:=hQ _ (eg hj) hqj _ b1
    rwa [h3,b2] at this
 have down:Q ((Ba p).getD 0 [])-> ∀(j:Nat),j<(Ba p).length->Q ((Ba p).getD j []):=by
  intro h0 j
  induction j using Nat.strongRecOn with
  |_ j ih=>
   intro hj
   by_cases e:j=0
   ·subst e;exact h0
   ·obtain ⟨i,l,h1,h2,h3,_⟩:=hL.par j (by omega) hj
    have hi:i<(Ba p).length:=by omega
    rw [h3]
    exact hQ _ (eg hi) (ih i h1 hi) l h2
 obtain ⟨j,hj,rfl⟩:=Bf.1 hx
 rw [<-Mj (d:= []) hj] at hq
 intro y hy
 obtain ⟨k,hk,rfl⟩:=Bf.1 hy
 rw [<-Mj (d:= []) hk]
 exact down (up j hj hq) k hk
theorem Ag9 {e:XP} (h:Afx e):e.2.2.1=Dm e.1:=(Dk (λz:XP=>z.2.2.1) h.2).trans (ON h.1).2
theorem Pv {s q t:List Int} (h:Og s.length t):Dv (Ai s q) t=Ai (Dv s t) q:=by
 unfold Dv Ai
 rw [List.map_map]
 refine Ev λy hy=>?_
 obtain ⟨h1,h2⟩:=h y hy
 have hy':y.toNat<s.length:=by omega
 show Hu (s.map (Hu q)) y=Hu q (Hu s y)
 unfold Hu
 rw [Mj (by rw [Dd];exact hy'),Tx,Mj hy']
 try rfl
theorem ke {n:Nat} {t:List Int} (h: ∀y∈t,0<=y/\y<(n:Int)):Dv (upto n) t=t:=by
 unfold Dv
 refine (Ev λy hy=>?_).trans (List.map_id t)
 obtain ⟨h1,h2⟩:=h y hy
 obtain ⟨k,rfl⟩:=Rw h1
 have hk:k<n:=by omega
 show Hu (upto n) (k:Int)=(k:Int)
 unfold Hu
 rw [Aq,Ah,uS hk]
 rfl
theorem sat_iff {goal s:List Int} :PX goal s=true↔Dv s goal=goal:=by
 unfold PX Dv
 rw [Bb]
 constructor
 ·intro h
  exact (Ev λy hy=>Ls (h y hy)).trans (List.map_id goal)
 ·intro h y hy
  obtain ⟨j,hj,rfl⟩:=Bf.1 hy
  have h2:(goal.map (Hu s))[j]?=goal[j]?:=Dk (λz:List Int=>z[j]?) h
  rw [Fl,Ac hj] at h2
  exact Ec (Bc h2)
theorem Qg {p:PP} (hv:Bm p=true):(Ba p).getD 0 []=upto p.1.toNat/\upto p.1.toNat∈Ba p:=by
 obtain ⟨A,h⟩:=(jk hv).first
 have h:Ba p=upto p.1.toNat::A:=h
 rw [h]
 exact ⟨rfl,by simp⟩
noncomputable def cc (p:PP) (t:List Int):List (List Int):=(Gd p.2.2.1 t).1
noncomputable def zh (p:PP) (t:List Int):List Int:=(Gd p.2.2.1 t).2.1
noncomputable def EJ (p:PP) (t x:List Int):Int:=Js (cc p t) (zh p t) x
theorem dm {p:PP} {t:List Int} (ht:Ep p t=true): ∀y∈t,0<=y/\y<((p.1.toNat:Nat):Int):= λy hy=>by
 have h1:=(Hl ht).2 y hy
 have:=(valid (Tg.1 ht).1).n
 omega
theorem TI {p:PP} {t:List Int} (hw:Fp p=true) (ht:Ep p t=true):(Gd p.2.2.1 t).2.2=true:=by
 have hv:=(Gm hw).1
 have hV:=valid hv
 obtain ⟨t1,t2⟩:=Hl ht
 have eU:=mr ht
 obtain ⟨a1,_,a3⟩:=OG hv t1 t2 (λx=> ∃s∈Ba p,x=Dv s t) ⟨_,(Qg hv).2,(ke (dm ht)).symm⟩ λx ⟨s,hs,hx⟩ l hl=>by
  refine ⟨_,(Zn hw).next s hs l hl,?_⟩
  rw [hx,Pv (nY hv hs ht)]
 refine Bo λhn=>?_
 obtain ⟨h1,z,⟨s,hs,hz⟩,h3⟩:=a3 (by simpa using hn)
 have h5:=eD (l1:=z::(Gd p.2.2.1 t).1) (l2:=(Ba p).map λs=>Dv s t) (Cb.2 ⟨h3,eU.ok.nodup⟩) λx hx=>by
  rcases Bd.1 hx with rfl|hx
  ·exact Be.2 ⟨s,hs,hz.symm⟩
  ·obtain ⟨s',DO,e⟩:=a1 x hx
   exact Be.2 ⟨s',DO,e.symm⟩
 have h6:=Aa6 hv
 simp only [Ay,Dd] at h5
 omega
theorem tU {p:PP} {t:List Int} (hw:Fp p=true) (ht:Ep p t=true):oJ p.2.2.1 (Bi p.2.2.1.length) (cc p t) (zh p t):=
 fe (Gm hw).1 (Hl ht).1 (Hl ht).2 (TI hw ht)
theorem pw {p:PP} {t:List Int} (ht:Ep p t=true):(cc p t).getD 0 []=t/\t∈cc p t:=by
 obtain ⟨_,A,h⟩:=yu (Tg.1 ht).1 (Hl ht).1 (Hl ht).2
 have h:cc p t=t::A:=h
 rw [h]
 exact ⟨rfl,by simp⟩
theorem LS {p:PP} {t:List Int} (hw:Fp p=true) (ht:Ep p t=true): ∀s∈Ba p,Dv s t∈cc p t:=by
 have hv:=(Gm hw).1
 have hc:=dB (valid hv) (mr ht) (tU hw ht)
 refine AE hw (λs=>Dv s t∈cc p t) (λx hx hq l hl=>?_) (Qg hv).2 ?_
 ·rw [Pv (nY hv hx ht)]
  exact hc.next _ hq l hl
 ·rw [ke (dm ht)]
  exact (pw ht).2
theorem FV {p:PP} {t:List Int} (hw:Fp p=true) (ht:Ep p t=true):
  Pl p.2.2.1 (Bi p.2.2.1.length) (Ba p) (λs=>PX t s=true) (λs=>EJ p t (Dv s t)):=by
 have hv:=(Gm hw).1
 have hd:=ql (valid hv) (mr ht) (tU hw ht)
 have aL:=LS hw ht
 refine ⟨λx hx=>hd.nn _ (aL x hx),λx hx=>(hd.zero _ (aL x hx)).trans ?_,λx hx l hl=>?_,λx hx h0=>?_⟩
 ·rw [show (Gd p.2.2.1 t).1.getD 0 []=t from (pw ht).1]
  exact sat_iff.symm
 ·rw [Pv (nY hv hx ht)]
  exact hd.step _ (aL x hx) l hl
 ·obtain ⟨l,hl,h1⟩:=hd.down _ (aL x hx) h0
  refine ⟨l,hl,?_⟩
  rw [Pv (nY hv hx ht)]
  exact h1
theorem Ahn {p:PP} {t:List Int} (ht:Ep p t=true):PX t (upto p.1.toNat)=true:=sat_iff.2 (ke (dm ht))
noncomputable abbrev bu:Spec:=Gu (.pair bj (.pair tL .unit)) tI false true (λx=>Gw (List.length x.2.1) x.1.1 x.1.2.2.1/\List.length x.1.2.1=List.length x.1.1) (λx=>Js x.1.1 x.1.2.1 x.2.1)
theorem UQ (f:List (List Int)×List Int×List Int×Bool×Unit) (s:List Int) (P:Int->Prop):(∃(y3:Int),Xl.fn ((f.1,f.2.1,f.2.2.1,f.2.2.2.1,()),s,())=some y3/\Br (decide (y3<(0:Int))) (P (-1:Int)) (∃(y4:Int),idx f.2.1 y3=some y4/\P y4))=fnW Fz (look [(75,Xl)]) bu Tryz.f115 (f,s,()) P:=by kernel_rfl
theorem SQ (f:SS) (s:List Int) (h:Gw (List.length s) f.1 f.2.2.1/\List.length f.2.1=List.length f.1):fnW Fz (look [(75,Xl)]) bu Tryz.f115 (f,s,()) (λ(z:Int)=>z=Js f.1 f.2.1 s):=by
 obtain ⟨h1,h2⟩:=h
 refine Eq.mp (UQ f s _) ⟨_,Ab h1,?_⟩
 show Br (decide (ld f.1 s<0)) _ _
 unfold ld Js
 by_cases hm:s∈f.1
 ·have hl:=List.idxOf_lt_length_of_mem hm
  rw [Ab hm,Ab hm]
  refine Br.dec (λhn=>absurd hn (by omega)) λ_=>?_
  have JT:List.idxOf s f.1<f.2.1.length:=by omega
  refine ⟨f.2.1[List.idxOf s f.1],?_,by rw [Mj JT]⟩
  show idx f.2.1 (if s∈f.1 then ((List.idxOf s f.1:Nat):Int) else-1)=_
  rw [Ab hm]
  exact Cd JT
 ·rw [Aj hm,Aj hm]
  exact ⟨λ_=>rfl,λhn=>by simp at hn⟩
theorem wa:Sound Tryz.prog 115 bu:=
 Sound.Gu Dq (Aw oh Bn) mixed Tryz.func115 (by kernel_rfl) (by kernel_rfl) λx h=>SQ x.1 x.2.1 h
theorem Wt {p:PP} (hw:Fp p=true):Pl p.2.2.1 (Bi p.2.2.1.length) (Ba p) (λx=>x=(Ba p).getD 0 []) (Js (Ba p) (Dm p)):=
 ql (valid (Gm hw).1) (jB (Gm hw).1) (y0 hw)
theorem Ag4 {p:PP} {x:List Int} (hx:x∈Ba p):(Dm p).getD ((Ba p).idxOf x) 0=Js (Ba p) (Dm p) x:=by unfold Js;rw [Ab hx]
theorem oQ {p:PP} (hw:Fp p=true) {x:List Int} (hx:x∈Ba p):0<=Js (Ba p) (Dm p) x/\Js (Ba p) (Dm p) x<=3000:=by
 have eU:=jB (Gm hw).1
 have nB:=eU.ok.kB
 refine ⟨(Wt hw).nn x hx,?_⟩
 obtain ⟨i,hi,rfl⟩:=Bf.1 hx
 have hiD:i<(Dm p).length:=by rw [eU.len];exact hi
 have h1:=eU.dep i hiD
 have h2:Js (Ba p) (Dm p) ((Ba p)[i])=(Dm p).getD i 0:=by
  rw [<-Mj (d:= []) hi];exact lY eU.ok.nodup hi
 rw [h2,Mj hiD]
 omega
structure Part (n k:Nat) (s:Fk×Fk):Prop where
 l1:s.1.length=n
 l2:s.2.length=n
 pg:PG n k (s.1.getD k [])
 row:Yb n k (s.1.getD k []) (s.2.getD k [])
 comp:ky n (n-(k+1)) (k+1) s
 gb:GBf (n-(k+1)) (k+1) s
 sub: ∀g,some g∈s.1.getD (k+1) []->Gn n (s.1.getD k []) g
def Hd (n k:Nat) (s:Fk×Fk) (q:List Int):Prop:= ∃t,(s.2.getD k []).getD (ap q k) none=some t/\Mz s.2 (n-(k+1)) (k+1) (Ai q (Bg t))=true
structure wP (n k:Nat) (s s':Fk×Fk):Prop where
 grow:bI k s s'
 same:s'.1.getD k []=s.1.getD k []
 part:Part n k s'
 Fw: ∀q,Pm n q->Fx k q->Hd n k s q->Hd n k s' q
 new: ∀y t,(s'.2.getD k []).getD y none=some t->(s.2.getD k []).getD y none=some t\/ ∀g,some g∈s.1.getD k []->Hd n k s' (Ai t g)
theorem wP.refl {n k:Nat} {s:Fk×Fk} (h:Part n k s):wP n k s s:=⟨bI.refl _ _,rfl,h,λ_ _ _ h=>h,λ_ _ h=> .inl h⟩
theorem Part.tg {n k:Nat} {s:Fk×Fk} (h:Part n k s) (hk:k<n) {y:Nat} {t g:List Int} (ht:(s.2.getD k []).getD y none=some t) (hg:some g∈s.1.getD k []):Pm n (Ai t g)/\Fx k (Ai t g)/\ap (Ai t g) k=ap g y:=by
 obtain ⟨t1,t2,t3,t4⟩:=h.row.rt _ _ ht
 obtain ⟨g',e,g1,g2⟩:=h.pg _ hg
 cases e
 exact ⟨t1.comp g1,Fx.comp t1 g1 t2 g2 (by omega),by rw [Kj t1 g1 hk,t3]⟩
theorem wP.trans {n k:Nat} {a b c:Fk×Fk} (hk:k<n) (h:wP n k a b) (h':wP n k b c):wP n k a c:=by
 refine ⟨h.grow.trans h'.grow (Ap _),h'.same.trans h.same,h'.part,λq h1 h2 h3=>h'.Fw q h1 h2 (h.Fw q h1 h2 h3),λy t e=>?_⟩
 rcases h'.new y t e with e1|e1
 ·rcases h.new y t e1 with e2|e2
  ·exact .inl e2
  ·refine .inr λg hg=>?_
   obtain ⟨p1,p2,_⟩:=h.part.tg hk e1 (by rw [h.same];exact hg)
   exact h'.Fw _ p1 p2 (e2 g hg)
 ·exact .inr λg hg=>e1 g (by rw [h.same];exact hg)
theorem Part.v {n k:Nat} {s:Fk×Fk} (h:Part n k s):V n (n-(k+1)) (k+1) s:=⟨h.l1,h.l2,h.comp,h.gb⟩
abbrev BB:Type:=List TT×List (ByteArray->Option Int)×Unit
def UM:List (List Int)->List Int->(ByteArray->Option Int)->ByteArray->Option Int
 |x::xs,d::ds,m=>UM xs ds (au m (Mp x) d)
 |_,_,m=>m
def Sy (t:TT):ByteArray->Option Int:=UM t.2.1 t.2.2.1 λ_=>none
def Xc (ts:List TT):BB:=(ts,ts.map Sy,())
structure QR (t:TT):Prop where
 kB:t.2.1.length<=3000
 len:t.2.2.1.length=t.2.1.length
 nodup:t.2.1.Nodup
 byte: ∀x∈t.2.1,Ua x
 Ag5: ∀d∈t.2.2.1,0<=d/\d<=3000
 tl:t.1.length<=20
 pl: ∀x∈t.2.1,x.length<=20
def lL (ts:List TT):Prop:=ts.length<=4/\ ∀t∈ts,QR t
def Se (t:TT) (s:List Int):Int:=t.2.2.1.getD (t.2.1.idxOf (Dv s t.1)) 0
def Hp (ts:List TT) (s:List Int):List Int:=ts.map λt=>Se t s
def It (ts:List TT) (s:List Int):Int:=(Hp ts s).foldl max 0
def lK (ts:List TT) (s:List Int):Prop:=s.length<=20/\ ∀t∈ts,Og s.length t.1/\Dv s t.1∈t.2.1
noncomputable abbrev Ok:Spec:=Gu (.pair tTS .unit) (.optr dk) false false (λx=>lL x.1) (λx=>some (Xc x.1))
def QQ (b:Option BB) (s:List Int):Prop:= ∃ts,lL ts/\b=some (Xc ts)/\lK ts s
def EI (b:Option BB) (s:List Int):List Int:=match b with|some b=>Hp b.1 s|none=> []
def KQ (b:Option BB) (s:List Int):Int:=match b with|some b=>It b.1 s|none=>0
noncomputable abbrev o5:Spec:=Gu (.pair (.optr dk) (.pair tL .unit)) tL false true (λx=>QQ x.1 x.2.1) (λx=>EI x.1 x.2.1)
noncomputable abbrev Ph:Spec:=Gu (.pair (.optr dk) (.pair tL .unit)) tI false true (λx=>QQ x.1 x.2.1) (λx=>KQ x.1 x.2.1)
abbrev ov:Type:=Int×List Int×List (List Int)×List Int×List (List Int×List (List Int)×List Int×PUnit)×(ByteArray->Option Int)×List (ByteArray->Option Int)×PUnit
abbrev oz:Type:=Int×List (List Int×List (List Int)×List Int×PUnit)×List (ByteArray->Option Int)×PUnit
theorem HQ (ts:List (List Int×List (List Int)×List Int×Unit)) (P:Option (List (List Int×List (List Int)×List Int×Unit)×List (ByteArray->Option Int)×Unit)->Prop):(0=0/\0=([]:List Int).length/\Dl (λ(v2:oz) (k3:oz->Prop)=>Br (decide (v2.1<(↑ts.length:Int))) (∃(y4:List Int×List (List Int)×List Int×PUnit),idx ts v2.1=some y4/\0=0/\v2.2.2.1.length=v2.2.2.1.length/\Dl (λ(v5:ov) (k6:ov->Prop)=>Br (decide (v5.1<(↑y4.2.1.length:Int))) (∃(y7:List Int),idx y4.2.1 v5.1=some y7/\ ∃(y8:ByteArray),Dx.fn (y7,())=some y8/\ ∃(y9:Int),idx v5.2.2.2.1 v5.1=some y9/\0=0/\v5.2.2.2.2.2.2.1.length=v5.2.2.2.2.2.2.1.length/\k6 (IntKind.i64.wrap (v5.1+(1:Int)),v5.2.1,v5.2.2.1,v5.2.2.2.1,v5.2.2.2.2.1,au v5.2.2.2.2.2.1 y8 y9,v5.2.2.2.2.2.2.1,())) (0=0/\v5.2.2.2.2.2.2.1.length=v5.2.2.2.2.2.2.1.length/\v5.2.2.2.2.2.2.1.length+(List.take 1 (List.drop 0 [v5.2.2.2.2.2.1])).length<=Cn/\0=0/\(v5.2.2.2.2.2.2.1++List.take 1 (List.drop 0 [v5.2.2.2.2.2.1])).length=(v5.2.2.2.2.2.2.1++List.take 1 (List.drop 0 [v5.2.2.2.2.2.1])).length/\k3 (IntKind.i64.wrap (v2.1+(1:Int)),v5.2.2.2.2.1,v5.2.2.2.2.2.2.1++List.take 1 (List.drop 0 [v5.2.2.2.2.2.1]),()))) ((0:Int),y4.1,y4.2.1,y4.2.2.1,v2.2.1,λ(_:ByteArray)=>none,v2.2.2.1,PUnit.unit)) (P (some (v2.2.1,List.take v2.2.2.1.length (List.drop 0 v2.2.2.1),())))) ((0:Int),ts,[],PUnit.unit))=fnW (uO [Om+101101]) (look [(121,Dx)]) Ok Tryz.f61 (ts,()) P:=by kernel_rfl
abbrev Aa9:Type:=List (List Int×List (List Int)×List Int×PUnit)×List (ByteArray->Option Int)×PUnit
theorem Anc (b:Option (List (List Int×List (List Int)×List Int×Unit)×List (ByteArray->Option Int)×Unit)) (s:List Int) (P:List Int->Prop):(∃(y3:Aa9),b=some y3/\0=0/\0=([]:List Int).length/\Dl (λ(v4:Int×List Int×PUnit) (k5:Int×List Int×PUnit->Prop)=>Br (decide (v4.1<(↑y3.1.length:Int))) (∃(y6:List Int×List (List Int)×List Int×PUnit),idx y3.1 v4.1=some y6/\ ∃(y7:Aa9),b=some y7/\ ∃(y8:ByteArray->Option Int),idx y7.2.1 v4.1=some y8/\ ∃(y9:List Int),Tq.fn (s,y6.1,())=some y9/\ ∃(Ki:ByteArray),Dx.fn (y9,())=some Ki/\0=0/\v4.2.1.length=v4.2.1.length/\v4.2.1.length+(List.take 1 (List.drop 0 [(y8 Ki).getD (Int.ofNat (nat_lit 0))])).length<=Cn/\0=0/\(v4.2.1++List.take 1 (List.drop 0 [(y8 Ki).getD (Int.ofNat (nat_lit 0))])).length=(v4.2.1++List.take 1 (List.drop 0 [(y8 Ki).getD (Int.ofNat (nat_lit 0))])).length/\k5 (IntKind.i64.wrap (v4.1+(1:Int)),v4.2.1++List.take 1 (List.drop 0 [(y8 Ki).getD (Int.ofNat (nat_lit 0))]),())) (P (List.take v4.2.1.length (List.drop 0 v4.2.1)))) ((0:Int),[],PUnit.unit))=fnW Fz (look [(121,Dx),(79,Tq)]) o5 Tryz.f62 (b,s,()) P:=by kernel_rfl
theorem Ae5 (b:Option (List (List Int×List (List Int)×List Int×Unit)×List (ByteArray->Option Int)×Unit)) (s:List Int) (P:Int->Prop):(∃(y3:List Int),o5.fn (b,s,())=some y3/\Dl (λ(v4:Int×Int×PUnit) (k5:Int×Int×PUnit->Prop)=>Br (decide (v4.2.1<(↑y3.length:Int))) (∃(y6:Int),idx y3 v4.2.1=some y6/\k5 (if true=true then if y6>v4.1 then y6 else v4.1 else if y6<v4.1 then y6 else v4.1,IntKind.i64.wrap (v4.2.1+(1:Int)),())) (P v4.1)) ((0:Int),(0:Int),PUnit.unit))=fnW Fz (look [(62,o5)]) Ph Tryz.f57 (b,s,()) P:=by kernel_rfl
theorem QR.short {t:TT} (h:QR t):aG t:=by
 have h1:=h.kB;have h2:=h.len;have h3:=h.tl
 exact ⟨by unfold _root_.Go.Proofs.YtkkdpknjohcekaaGreat.short;omega,⟨by omega,λr hr=>by have:=h.pl r hr;unfold _root_.Go.Proofs.YtkkdpknjohcekaaGreat.short;omega⟩,by unfold _root_.Go.Proofs.YtkkdpknjohcekaaGreat.short;omega⟩
theorem bH {p:PP} {t:TT} (h:Gl p t=true):QR t/\Ep p t.1=true/\(Gd p.2.2.1 t.1).2.2=true/\t.2.1=cc p t.1/\t.2.2.1=zh p t.1:=by
 obtain ⟨h1,h2⟩:=Bt.1 h
 obtain ⟨h3,h4⟩:=eE.1 h1
 have h5:=SG.1 h2
 unfold Eo at h5
 rw [Ab h1] at h5
 have e1:t.2.1=cc p t.1:=(Dk (λz:TT=>z.2.1) h5).symm
 have e2:t.2.2.1=zh p t.1:=(Dk (λz:TT=>z.2.2.1) h5).symm
 have hv:=(Tg.1 h3).1
 have hn:=(valid hv).n
 have eU:=mr h3
 have nB:=eU.ok.kB
 have hlen:=eU.len
 have IE:=eU.ok.short
 refine ⟨⟨by rw [e1];exact nB,by rw [e1,e2];exact hlen,by rw [e1];exact eU.ok.nodup,λx hx=>?_,λd hd=>?_,(Hl h3).1,λx hx=>?_⟩,h3,h4,e1,e2⟩
 ·rw [e1] at hx
  intro y hy
  have:=eU.row x hx y hy
  omega
 ·rw [e2] at hd
  obtain ⟨j,hj,rfl⟩:=Bf.1 hd
  have h6:=eU.dep j hj
  have OZ:j<(Gd p.2.2.1 t.1).2.1.length:=hj
  exact ⟨h6.1,by have:=h6.2;show (Gd p.2.2.1 t.1).2.1[j]<=3000;omega⟩
 ·rw [e1] at hx
  have:=eU.ok.len x hx
  omega
theorem Qp {p:PP} {ts:List TT} (h:Dw p ts=true):Bm p=true/\lL ts/\ ∀t∈ts,Gl p t=true:=by
 unfold Dw at h
 rw [Af,Af,Bb,Mo] at h
 exact ⟨h.1.1,⟨h.1.2,λt ht=>(bH (h.2 t ht)).1⟩,h.2⟩
theorem HB: ∀(xs:List (List Int)) (ds:List Int) (m:ByteArray->Option Int) (x:List Int),xs.length=ds.length->xs.Nodup->(∀y∈xs,Ua y)->Ua x->UM xs ds m (Mp x)=if x∈xs then some (ds.getD (xs.idxOf x) 0) else m (Mp x)
 | [],ds,m,x,_,_,_,_=>by cases ds<;>simp [UM]
 |y::xs,[],m,x,hl,_,_,_=>by simp at hl
 |y::xs,d::ds,m,x,hl,hn,hb,hx=>by
  obtain ⟨hy,hn⟩:=Cb.1 hn
  simp only [UM]
  rw [HB xs ds _ x (by simpa using hl) hn (λz hz=>hb z (An _ hz)) hx]
  by_cases hm:x∈xs
  ·have Jd:y≠x:= λe=>hy (e▸hm)
   have hi:(y::xs).idxOf x=xs.idxOf x+1:=by rw [List.idxOf_cons,show (y==x)=false by simpa using Jd];rfl
   rw [Ab hm,Ab (An _ hm),hi]
   rfl
  ·rw [Aj hm]
   unfold au
   by_cases e:Mp x=Mp y
   ·have:=key_inj hx (hb y (by simp)) e
    subst this
    rw [Ab e,Ab (by simp),List.idxOf_cons_self]
    rfl
   ·have Jd:x≠y:= λh=>e (by rw [h])
    rw [Aj e,Aj (by simp [Jd,hm])]
theorem HC {t:TT} (h:QR t) {x:List Int} (hx:x∈t.2.1):Sy t (Mp x)=some (t.2.2.1.getD (t.2.1.idxOf x) 0):=by
 unfold Sy
 rw [HB _ _ _ _ h.len.symm h.nodup h.byte (h.byte x hx),Ab hx]
theorem FP (ts:List TT) (h:lL ts):fnW (uO [Om+101101]) (look [(121,Dx)]) Ok Tryz.f61 (ts,()) (λ(z:Option BB)=>z=some (Xc ts)):=by
 obtain ⟨h4,hd⟩:=h
 refine Eq.mp (HQ ts _) ⟨rfl,rfl,?_⟩
 refine Bw ts.length (λv=>v.1) (λi v=>v=((i:Int),ts,(ts.take i).map Sy,())) rfl rfl ?_
 rintro i v K hi hii rfl hK
 dsimp only
 refine Br.dec (λhl=>?_) λhl=>?_
 ·have hl:i<ts.length:=by omega
  have WW:=hd _ (Ak hl)
  have nB:=WW.kB
  have hlen:=WW.len
  have Ahe:=WW.short
  refine ⟨_,Cd hl,rfl,rfl,?_⟩
  refine Bw (ts[i]).2.1.length (λv=>v.1) (λj v=> ∃m,v=((j:Int),(ts[i]).1,(ts[i]).2.1,(ts[i]).2.2.1,ts,m,(ts.take i).map Sy,())/\UM ((ts[i]).2.1.drop j) ((ts[i]).2.2.1.drop j) m=Sy ts[i]) rfl ⟨_,rfl,by rw [Ds,Ds];rfl⟩ ?_
  rintro j v K1 hj hjj ⟨m,rfl,hm⟩ hK1
  dsimp only
  refine Br.dec (λrU=>?_) λrU=>?_
  ·have rU:j<(ts[i]).2.1.length:=by omega
   have JT:j<(ts[i]).2.2.1.length:=by omega
   rw [Fg rU,Fg JT] at hm
   refine ⟨_,Cd rU,_,Ab (Ahe.2.1.2 _ (Ak rU)),_,Cd JT,rfl,rfl,?_⟩
   rw [Bv (by omega)]
   exact hK1 rU _ rfl ⟨_,rfl,hm⟩
  ·have:j=(ts[i]).2.1.length:=by omega
   subst this
   rw [Qd] at hm
   have hm:m=Sy ts[i]:=by
    rw [<-hm]
    cases List.drop (ts[i]).2.1.length (ts[i]).2.2.1<;>rfl
   subst hm
   refine ⟨rfl,rfl,by show ((ts.take i).map Sy).length+1<=4294967296;rw [Dd,De];omega,rfl,rfl,?_⟩
   rw [Bv (by omega)]
   have hmm:(ts.take (i+1)).map Sy=(ts.take i).map Sy++ [Sy ts[i]]:=by
    rw [Gi,Ac hl,Mn,Iy]
    rfl
   refine hK hl _ rfl ?_
   rw [hmm]
   rfl
 ·have:i=ts.length:=by omega
  subst this
  rw [Ch,Ax]
  rfl
theorem gN:Sound Tryz.prog 61 Ok:=
 Sound.Gu (uP [Om+101101]) (Aw Px Bn) mixed Tryz.func61 (by kernel_rfl) (by kernel_rfl) λx h=>FP x.1 h
theorem mS (ts:List TT) (s:List Int):(Hp ts s).length=ts.length:=by unfold Hp;rw [Dd]
theorem IT {t:TT} (h:QR t) {s:List Int} (hs:Dv s t.1∈t.2.1):0<=Se t s/\Se t s<=3000:=by
 have hi:=List.idxOf_lt_length_of_mem hs
 have hl:=h.len
 unfold Se
 rw [Mj (by omega)]
 exact h.Ag5 _ (Ak _)
theorem wT {ts:List TT} (h:lL ts) {s:List Int} (hs:lK ts s): ∀d∈Hp ts s,0<=d/\d<=3000:= λd hd=>by
 obtain ⟨t,ht,rfl⟩:=Be.1 hd
 exact IT (h.2 t ht) (hs.2 t ht).2
theorem wU {ts:List TT} {s:List Int} {i:Nat} (hl:i<ts.length):(Hp (ts.take (i+1)) s)=Hp (ts.take i) s++ [Se ts[i] s]:=by
 unfold Hp
 rw [Gi,Ac hl,Mn,Iy]
 rfl
theorem Amo (b:Option BB) (s:List Int) (h:QQ b s):fnW Fz (look [(121,Dx),(79,Tq)]) o5 Tryz.f62 (b,s,()) (λ(z:List Int)=>z=EI b s):=by
 obtain ⟨ts,⟨h4,hd⟩,rfl,hs⟩:=h
 refine Eq.mp (Anc _ s _) ⟨Xc ts,rfl,rfl,rfl,?_⟩
 show Dl _ _
 refine Bw ts.length (λv=>v.1) (λi v=>v=((i:Int),Hp (ts.take i) s,())) rfl rfl ?_
 rintro i v K hi hii rfl hK
 dsimp only
 refine Br.dec (λhl=>?_) λhl=>?_
 ·have hl:i<ts.length:=by have hl:(i:Int)<(ts.length:Int):=hl;omega
  have WW:=hd _ (Ak hl)
  obtain ⟨gY,oG⟩:=hs.2 _ (Ak hl)
  have htl:=WW.tl
  have jV:=WW.pl _ oG
  refine ⟨ts[i],Cd hl,Xc ts,rfl,Sy ts[i],?_,_,Ab ⟨by show (ts[i]).1.length<=4294967296;omega,gY⟩,_,Ab (by show (Dv s (ts[i]).1).length<=4294967296;omega),rfl,rfl,?_,rfl,rfl,?_⟩
  ·show idx (ts.map Sy) (i:Int)=_
   rw [Cd (by rw [Dd];exact hl),Tx]
  ·show (Hp (ts.take i) s).length+1<=4294967296
   rw [mS,De];omega
  ·rw [Bv (by omega)]
   refine hK hl _ rfl ?_
   rw [wU hl,show Sy ts[i] (Mp (Dv s (ts[i]).1))=some (Se ts[i] s) from HC WW oG]
   rfl
 ·have:i=ts.length:=by have hl: ¬(i:Int)<(ts.length:Int):=hl;omega
  subst this
  rw [Ch,Ax]
  rfl
theorem xX:Sound Tryz.prog 62 o5:=
 Sound.Gu Dq (Aw Px (Aw lq Bn)) mixed Tryz.func62 (by kernel_rfl) (by kernel_rfl) λx h=>Amo x.1 x.2.1 h
theorem YX (a b:Int):(if true=true then if b>a then b else a else if b<a then b else a)=max a b:=by
 rw [Ab rfl]
 by_cases h:b>a
 ·rw [Ab h,Int.max_eq_right (by omega)]
 ·rw [Aj h,Int.max_eq_left (by omega)]
theorem WM {xs:List Int} {m:Int} (h: ∀x∈xs,0<=x/\x<=m) (hm:0<=m):0<=xs.foldl max 0/\xs.foldl max 0<=m:=by
 rcases dw xs 0 with h1|h1
 ·rw [h1];exact ⟨Rb _,hm⟩
 ·exact h _ h1
theorem PS {ts:List TT} (h:lL ts) {s:List Int} (hs:lK ts s):0<=It ts s/\It ts s<=3000:=WM (wT h hs) (by omega)
theorem Adg (b:Option BB) (s:List Int) (h:QQ b s):fnW Fz (look [(62,o5)]) Ph Tryz.f57 (b,s,()) (λ(z:Int)=>z=KQ b s):=by
 obtain ⟨ts,ht,hb,hs⟩:=id h
 have hl4:=ht.1
 have hlen:=mS ts s
 obtain ⟨xs,hxs⟩: ∃xs,EI b s=xs:=⟨_,rfl⟩
 have hxe:KQ b s=xs.foldl max 0:=by rw [<-hxs,hb];rfl
 have hxl:xs.length=ts.length:=by rw [<-hxs,hb];exact hlen
 refine Eq.mp (Ae5 b s _) ⟨xs,(Ab h).trans (Dk some hxs),?_⟩
 rw [hxe]
 refine Bw xs.length (λv=>v.2.1) (λi v=>v=((xs.take i).foldl max 0,(i:Int),())) rfl rfl ?_
 rintro i v K hi hii rfl hK
 dsimp only
 refine Br.dec (λhl=>?_) λhl=>?_
 ·have hl:i<xs.length:=by omega
  refine ⟨_,Cd hl,?_⟩
  rw [Bv (by omega)]
  refine hK hl _ rfl ?_
  rw [Gi,Ac hl,Mn,cG,YX]
  rfl
 ·have:i=xs.length:=by omega
  subst this
  rw [Ax]
theorem de:Sound Tryz.prog 57 Ph:=
 Sound.Gu Dq (Aw xX Bn) mixed Tryz.func57 (by kernel_rfl) (by kernel_rfl) λx h=>Adg x.1 x.2.1 h
theorem qJ {p:PP} {ts:List TT} (hw:Fp p=true) (ht:Dw p ts=true) {s:List Int} (hs:s∈Ba p):lK ts s:=by
 obtain ⟨hv,_,Lc⟩:=Qp ht
 refine ⟨zB (gP hv hs),λt rj=>?_⟩
 obtain ⟨_,h3,_,e1,_⟩:=bH (Lc t rj)
 exact ⟨nY hv hs h3,by rw [e1];exact LS hw h3 s hs⟩
theorem tZ {p:PP} {s:List Int} (h:Mk p s=true):Bm p=true/\Pm p.1.toNat s/\Gn p.1.toNat (p.2.2.1.map some) s:=by
 unfold Mk at h
 rw [Af,Af] at h
 obtain ⟨⟨hv,hg⟩,hh⟩:=h
 have hV:=valid hv
 have hn:=hV.n
 have hp:=JN hV hg
 exact ⟨hv,hp,(fq (by omega) (by omega) (jd (bP hV).2.2) hp).1 hh⟩
theorem DF {p:PP} {s:List Int} (hv:Bm p=true) (h:Gn p.1.toNat (p.2.2.1.map some) s):Mk p s=true:=by
 have hV:=valid hv
 have hn:=hV.n
 have hp:=cE.pm (iS hV) h
 unfold Mk
 rw [hv,zA hV hp,show Mz (Wp p.1 p.2.2.1).2 p.1.toNat 0 s=true from (fq (by omega) (by omega) (jd (bP hV).2.2) hp).2 h]
 rfl
theorem JO {p:PP} {t s:List Int} (hv:Bm p=true) (hs:Pm p.1.toNat s) (ht:Ep p t=true):Og s.length t:=by
 have h1:=hs.1
 have hn:=(valid hv).n
 intro y hy
 have:=(Hl ht).2 y hy
 omega
theorem Agc {p:PP} {t:List Int} (hv:Bm p=true) (ht:Ep p t=true) (hw:(Gd p.2.2.1 t).2.2=true) {s:List Int} (hs:Gn p.1.toNat (p.2.2.1.map some) s):Dv s t∈cc p t:=by
 have hV:=valid hv
 have hc:lI p.2.2.1 (Bi p.2.2.1.length) (cc p t):=dB hV (mr ht) (fe hv (Hl ht).1 (Hl ht).2 hw)
 induction hs with
 |id=>rw [ke (dm ht)];exact (pw ht).2
 |mul h hg ih=>
  have hp:Pm p.1.toNat _:=cE.pm (iS hV) h
  obtain ⟨k,hk,rfl⟩:=Bf.1 (eP.1 hg)
  have:=hc.next _ ih _ (Qk hk).1
  rw [Ox hk] at this
  rw [Pv (JO hv hp ht)]
  exact this
 |inv h hg ih=>
  have hp:Pm p.1.toNat _:=cE.pm (iS hV) h
  obtain ⟨k,hk,rfl⟩:=Bf.1 (eP.1 hg)
  have:=hc.next _ ih _ (Qk hk).2
  rw [Ow hk] at this
  rw [Pv (JO hv hp ht)]
  exact this
theorem u5 {p:PP} {ts:List TT} {s:List Int} (hr:Mk p s=true) (ht:Dw p ts=true):lK ts s:=by
 obtain ⟨hv,hp,hg⟩:=tZ hr
 obtain ⟨_,_,Lc⟩:=Qp ht
 have hn:=(valid hv).n
 refine ⟨by rw [hp.1];omega,λt rj=>?_⟩
 obtain ⟨_,h3,hw,e1,_⟩:=bH (Lc t rj)
 exact ⟨JO hv hp h3,by rw [e1];exact Agc hv h3 hw hg⟩
theorem TO {p:PP} {s:List Int} (hr:Mk p s=true):Mk p (Bg s)=true:=by
 obtain ⟨hv,_,hg⟩:=tZ hr
 exact DF hv (cE.rY (iS (valid hv)) hg)
theorem LY {p:PP} {s:List Int} (hr:Mk p s=true):Jj s=true:=by
 unfold Mk at hr
 rw [Af,Af] at hr
 exact (Ik.1 hr.1.2).2
theorem wI (p q:List Int) (P:List Int->Prop):(0=0/\0=([]:List Int).length/\Dl (λ(v3:Int×List Int×PUnit) (k4:Int×List Int×PUnit->Prop)=>Br (decide (v3.1<(↑p.length:Int))) (∃(y5:Int),idx p v3.1=some y5/\ ∃(y6:Int),idx q y5=some y6/\0=0/\v3.2.1.length=v3.2.1.length/\v3.2.1.length+(List.take 1 (List.drop 0 [y6])).length<=Cn/\0=0/\(v3.2.1++List.take 1 (List.drop 0 [y6])).length=(v3.2.1++List.take 1 (List.drop 0 [y6])).length/\k4 (IntKind.i64.wrap (v3.1+(1:Int)),v3.2.1++List.take 1 (List.drop 0 [y6]),())) (P (List.take v3.2.1.length (List.drop 0 v3.2.1)))) ((0:Int),[],PUnit.unit))=fnW Fz (look []) Lf Tryz.f81 (p,q,()) P:=by kernel_rfl
theorem RD {p q:List Int} {j:Nat} (h:j<p.length):(Ai p q).take (j+1)=(Ai p q).take j++ [Hu q p[j]]:=by
 unfold Ai
 rw [Cv (by rw [Dd];exact h),Tx]
theorem vW (p q:List Int) (h:List.length p<=20/\Og (List.length q) p):fnW Fz (look []) Lf Tryz.f81 (p,q,()) (λ(z:List Int)=>z=Ai p q):=by
 obtain ⟨h1,h2⟩:=h
 refine Eq.mp (wI p q _) ⟨rfl,rfl,?_⟩
 refine Bw p.length (λv=>v.1) (λj v=>v=((j:Int),(Ai p q).take j,())) rfl rfl ?_
 rintro j v K hj hi rfl hK
 dsimp only
 have hlen:((Ai p q).take j).length<=20:=by rw [De];unfold Ai;rw [Dd];omega
 refine Br.dec (λhl=>?_) λhl=>?_
 ·have hl:j<p.length:=by omega
  have hr:=h2 p[j] (Ak hl)
  refine ⟨_,Cd hl,Hu q p[j],iY hr.1 hr.2,rfl,rfl,?_,rfl,rfl,?_⟩
  ·show ((Ai p q).take j).length+1<=4294967296
   omega
  ·rw [Bv (by omega)]
   refine hK hl _ rfl ?_
   rw [RD hl]
   rfl
 ·have:j=p.length:=by omega
  subst this
  rw [Ch,<-Sp p q,Ax]
theorem dg:Sound Tryz.prog 81 Lf:=
 Sound.Gu Dq Bn mixed Tryz.func81 (by kernel_rfl) (by kernel_rfl) λx h=>vW x.1 x.2.1 h
theorem HN (p:Int×ByteArray×List (List Int)×Unit) (s:List Int) (P:Bool->Prop):(∃(y3:Bool),Ji.fn ((p.1,p.2.1,p.2.2.1,()),s,())=some y3/\Br y3 (∃(y4:(Int×List (List (Option (List Int)))×List (List (Option (List Int)))×PUnit)×PUnit),Qy.fn (p.1,p.2.2.1,())=some y4/\ ∃(y5:Bool),o6.fn ((y4.1.1,List.take y4.1.2.1.length (List.drop 0 y4.1.2.1),List.take y4.1.2.2.1.length (List.drop 0 y4.1.2.2.1),()),(0:Int),s,())=some y5/\P y5) (P false))=fnW Fz (look [(156,Ji),(157,Qy),(158,o6)]) bB Tryz.f116 (p,s,()) P:=by kernel_rfl
theorem WN {n:Int} {s:List Int} (h:Hq n s=true):Pm n.toNat s:=by
 obtain ⟨a,b⟩:=Ik.1 h
 exact ⟨by omega,dE b⟩
theorem FM (p:PP) (s:List Int) (h:Dp p/\short s):fnW Fz (look [(156,Ji),(157,Qy),(158,o6)]) bB Tryz.f116 (p,s,()) (λ(z:Bool)=>z=Mk p s):=by
 refine Eq.mp (HN p s _) ⟨_,Ab h,?_⟩
 show Br (Bm p&&Hq p.1 s) _ _
 unfold Mk
 refine Br.of (λhb=>?_) λhb=>by rw [hb];rfl
 obtain ⟨hv,hg⟩:=Bt.1 hb
 have hV:=valid hv
 have hn:=hV.n
 have DI:=rK hV
 refine ⟨_,Ab (bP hV),_,Ab ⟨p.1.toNat,0,?vv⟩,?_⟩
 case vv=>
  simp only [Ch]
  exact ⟨by omega,by omega,(Sl (by omega)).symm,rfl,Kd _,by rw [Nat.sub_zero];exact DI,WN hg,λi hi=>absurd hi (Gp _)⟩
 simp only [Ch]
 rw [hb,Qe,Int.sub_zero]
 rfl
theorem rC:Sound Tryz.prog 116 bB:=
 Sound.Gu Dq (Aw od (Fv jx (Aw xY Bn))) mixed Tryz.func116 (by kernel_rfl) (by kernel_rfl) λx h=>FM x.1 x.2.1 h
noncomputable def Sw (p:PP) (ts:List TT) (s:List Int):Bool:=Mk p s&&Dw p ts
noncomputable abbrev Ju:Spec:=Gu (.pair Hk (.pair tTS (.pair tL .unit))) (.pair (.optr dk) (.pair .bool .unit)) true false (λx=>Dp x.1/\Lw x.2.1/\short x.2.2.1) (λx=>if Sw x.1 x.2.1 x.2.2.1=true then (some (Xc x.2.1),true,()) else (none,false,()))
noncomputable def zf (p:PP) (ts:List TT) (s:List Int):Int:=if Sw p ts s=true then It ts s else-1
noncomputable def zg (p:PP) (ts:List TT) (s:List Int):Int:=if Sw p ts s=true then max (It ts s) (It ts (Bg s)) else-1
noncomputable def rZ (p:PP) (ts:List TT) (s:List Int):Int:=if Sw p ts s=true then Pf (Hp ts s) (It ts s) 0 else-1
noncomputable abbrev aE:Spec:=Gu (.pair Hk (.pair tTS (.pair tL .unit))) tI false true (λx=>Dp x.1/\Lw x.2.1/\short x.2.2.1) (λx=>zf x.1 x.2.1 x.2.2.1)
noncomputable abbrev mA:Spec:=Gu (.pair Hk (.pair tTS (.pair tL .unit))) tI false true (λx=>Dp x.1/\Lw x.2.1/\short x.2.2.1) (λx=>zg x.1 x.2.1 x.2.2.1)
noncomputable abbrev fU:Spec:=Gu (.pair Hk (.pair tTS (.pair tL .unit))) tI false true (λx=>Dp x.1/\Lw x.2.1/\short x.2.2.1) (λx=>rZ x.1 x.2.1 x.2.2.1)
theorem NK (p:Int×ByteArray×List (List Int)×Unit) (ts:List (List Int×List (List Int)×List Int×Unit)) (s:List Int) (P:(Option (List (List Int×List (List Int)×List Int×Unit)×List (ByteArray->Option Int)×Unit)×Bool×Unit)->Prop):(∃(y4:Bool),bB.fn ((p.1,p.2.1,p.2.2.1,()),s,())=some y4/\Br (!y4) (P (none,false,())) (∃(y5:Bool),Qz.fn ((p.1,p.2.1,p.2.2.1,()),ts,())=some y5/\Br (!y5) (P (none,false,())) (∃(y6:Option (List (List Int×List (List Int)×List Int×PUnit)×List (ByteArray->Option Int)×PUnit)),Ok.fn (ts,())=some y6/\P (y6,true,()))))=fnW Fz (look [(116,bB),(60,Qz),(61,Ok)]) Ju Tryz.f54 (p,ts,s,()) P:=by kernel_rfl
theorem NO (p:Int×ByteArray×List (List Int)×Unit) (ts:List (List Int×List (List Int)×List Int×Unit)) (s:List Int) (P:Int->Prop):(∃(y4:Option (List (List Int×List (List Int)×List Int×PUnit)×List (ByteArray->Option Int)×PUnit)×Bool×PUnit),Ju.fn ((p.1,p.2.1,p.2.2.1,()),ts,s,())=some y4/\Br (!y4.2.1) (P (-1:Int)) (∃(y5:Int),Ph.fn (y4.1,s,())=some y5/\P y5))=fnW Fz (look [(54,Ju),(57,Ph)]) aE Tryz.f18 (p,ts,s,()) P:=by kernel_rfl
theorem NP (p:Int×ByteArray×List (List Int)×Unit) (ts:List (List Int×List (List Int)×List Int×Unit)) (s:List Int) (P:Int->Prop):(∃(y4:Option (List (List Int×List (List Int)×List Int×PUnit)×List (ByteArray->Option Int)×PUnit)×Bool×PUnit),Ju.fn ((p.1,p.2.1,p.2.2.1,()),ts,s,())=some y4/\Br (!y4.2.1) (P (-1:Int)) (∃(y5:Int),Ph.fn (y4.1,s,())=some y5/\ ∃(y6:List Int),Gv.fn (s,())=some y6/\ ∃(y7:Int),Ph.fn (y4.1,y6,())=some y7/\P (if true=true then if y7>y5 then y7 else y5 else if y7<y5 then y7 else y5)))=fnW Fz (look [(54,Ju),(57,Ph),(58,Gv)]) mA Tryz.f19 (p,ts,s,()) P:=by kernel_rfl
theorem HL (p:Int×ByteArray×List (List Int)×Unit) (ts:List (List Int×List (List Int)×List Int×Unit)) (s:List Int) (P:Int->Prop):(∃(y4:Option (List (List Int×List (List Int)×List Int×PUnit)×List (ByteArray->Option Int)×PUnit)×Bool×PUnit),Ju.fn ((p.1,p.2.1,p.2.2.1,()),ts,s,())=some y4/\Br (!y4.2.1) (P (-1:Int)) (∃(y5:List Int),o5.fn (y4.1,s,())=some y5/\ ∃(y6:Int),Ph.fn (y4.1,s,())=some y6/\ ∃(y7:Int),ko.fn (y5,y6,())=some y7/\P y7))=fnW Fz (look [(54,Ju),(57,Ph),(62,o5),(70,ko)]) fU Tryz.f26 (p,ts,s,()) P:=by kernel_rfl
theorem eu {p:PP} {ts:List TT} {s:List Int} (h:Sw p ts s=true):lL ts/\lK ts s/\Mk p s=true:=by
 unfold Sw at h
 obtain ⟨h1,h2⟩:=Bt.1 h
 exact ⟨(Qp h2).2.1,u5 h1 h2,h1⟩
theorem XA {p:PP} {ts:List TT} {s:List Int} (h:Sw p ts s=true):lK ts (Bg s)/\Jj s=true:=by
 unfold Sw at h
 obtain ⟨h1,h2⟩:=Bt.1 h
 exact ⟨u5 (TO h1) h2,LY h1⟩
theorem LD (p:PP) (ts:List TT) (s:List Int) (h:Dp p/\Lw ts/\short s):fnW Fz (look [(116,bB),(60,Qz),(61,Ok)]) Ju Tryz.f54 (p,ts,s,()) (λ(z:Option BB×Bool×Unit)=>z=if Sw p ts s=true then (some (Xc ts),true,()) else (none,false,())):=by
 obtain ⟨h0,h1,h2⟩:=h
 refine Eq.mp (NK p ts s _) ⟨_,Ab ⟨h0,h2⟩,?_⟩
 show Br (!Mk p s) _ _
 have hh:Sw p ts s=(Mk p s&&Dw p ts):=rfl
 rw [hh]
 refine Br.of (λhb=>?_) λhb=>?_
 ·have hb:Mk p s=false:=by simpa using hb
  rw [hb];rfl
 ·have hb:Mk p s=true:=by simpa using hb
  refine ⟨_,Ab ⟨h0,h1⟩,?_⟩
  show Br (!Dw p ts) _ _
  refine Br.of (λhc=>?_) λhc=>?_
  ·have hc:Dw p ts=false:=by simpa using hc
   rw [hb,hc];rfl
  ·have hc:Dw p ts=true:=by simpa using hc
   refine ⟨_,Ab (Qp hc).2.1,?_⟩
   rw [hb,hc];rfl
theorem Xn:Sound Tryz.prog 54 Ju:=
 Sound.Gu Dq (Aw rC (Aw ct (Aw gN Bn))) mixed Tryz.func54 (by kernel_rfl) (by kernel_rfl) λx h=>LD x.1 x.2.1 x.2.2.1 h
theorem LI (p:PP) (ts:List TT) (s:List Int) (h:Dp p/\Lw ts/\short s):fnW Fz (look [(54,Ju),(57,Ph)]) aE Tryz.f18 (p,ts,s,()) (λ(z:Int)=>z=zf p ts s):=by
 refine Eq.mp (NO p ts s _) ?_
 unfold zf
 by_cases hh:Sw p ts s=true
 ·obtain ⟨a,b,_⟩:=eu hh
  rw [Ab hh]
  exact ⟨_,(Ab h).trans (Dk some (Ab hh)),λhb=>by simp at hb,λ_=>⟨_,Ab ⟨ts,a,rfl,b⟩,rfl⟩⟩
 ·rw [Aj hh]
  exact ⟨_,(Ab h).trans (Dk some (Aj hh)),λ_=>rfl,λhb=>by simp at hb⟩
theorem uv:Sound Tryz.prog 18 aE:=
 Sound.Gu Dq (Aw Xn (Aw de Bn)) mixed Tryz.func18 (by kernel_rfl) (by kernel_rfl) λx h=>LI x.1 x.2.1 x.2.2.1 h
theorem LJ (p:PP) (ts:List TT) (s:List Int) (h:Dp p/\Lw ts/\short s):fnW Fz (look [(54,Ju),(57,Ph),(58,Gv)]) mA Tryz.f19 (p,ts,s,()) (λ(z:Int)=>z=zg p ts s):=by
 refine Eq.mp (NP p ts s _) ?_
 unfold zg
 by_cases hh:Sw p ts s=true
 ·obtain ⟨a,b,hr⟩:=eu hh
  obtain ⟨b',_⟩:=XA hh
  obtain ⟨_,hp,_⟩:=tZ hr
  rw [Ab hh]
  refine ⟨_,(Ab h).trans (Dk some (Ab hh)),λhb=>by simp at hb,λ_=>⟨_,Ab ⟨ts,a,rfl,b⟩,_,Ab ⟨hp.2.len,hp.2.row⟩,_,Ab ⟨ts,a,rfl,b'⟩,?_⟩⟩
  exact YX _ _
 ·rw [Aj hh]
  exact ⟨_,(Ab h).trans (Dk some (Aj hh)),λ_=>rfl,λhb=>by simp at hb⟩
theorem uw:Sound Tryz.prog 19 mA:=
 Sound.Gu Dq (Aw Xn (Aw de (Aw Sh Bn))) mixed Tryz.func19 (by kernel_rfl) (by kernel_rfl) λx h=>LJ x.1 x.2.1 x.2.2.1 h
theorem FK (p:PP) (ts:List TT) (s:List Int) (h:Dp p/\Lw ts/\short s):fnW Fz (look [(54,Ju),(57,Ph),(62,o5),(70,ko)]) fU Tryz.f26 (p,ts,s,()) (λ(z:Int)=>z=rZ p ts s):=by
 refine Eq.mp (HL p ts s _) ?_
 unfold rZ
 by_cases hh:Sw p ts s=true
 ·obtain ⟨a,b,_⟩:=eu hh
  have h4:=a.1
  have hl:=mS ts s
  rw [Ab hh]
  exact ⟨_,(Ab h).trans (Dk some (Ab hh)),λhb=>by simp at hb,λ_=>⟨_,Ab ⟨ts,a,rfl,b⟩,_,Ab ⟨ts,a,rfl,b⟩,_,Ab (by show (Hp ts s).length<=4294967296;omega),rfl⟩⟩
 ·rw [Aj hh]
  exact ⟨_,(Ab h).trans (Dk some (Aj hh)),λ_=>rfl,λhb=>by simp at hb⟩
theorem ry:Sound Tryz.prog 26 fU:=
 Sound.Gu Dq (Aw Xn (Aw de (Aw xX (Aw GN Bn)))) mixed Tryz.func26 (by kernel_rfl) (by kernel_rfl) λx h=>FK x.1 x.2.1 x.2.2.1 h
end Go.Proofs.YtkkdpknjohcekaaGreat
