/-
  Part 42 of the proof that the statement FnMethods holds.
-/
import Derived.Test.YtkkdpknjohcekaaGreatCFMethods40
namespace Go.Proofs.YtkkdpknjohcekaaGreat
open Go.RowKit
def ap (p:List Int) (i:Nat):Nat:=(Dp p (i:Int)).toNat
def Pm (n:Nat) (p:List Int):Prop:=p.length=n/\bL p
theorem Pm.n1 {n:Nat} {p:List Int} (h:Pm n p):1<=n:=h.1▸h.2.pos
theorem Pm.n2 {n:Nat} {p:List Int} (h:Pm n p):n<=20:=h.1▸h.2.len
theorem Pm.Wl {n:Nat} {p:List Int} (h:Pm n p) {i:Nat} (hi:i<n):Dp p (i:Int)=(ap p i:Int)/\ap p i<n:=by
 have gM:i<p.length:=by rw [h.1];exact hi
 have:=h.2.row _ (Am gM)
 unfold ap
 rw [Ks gM]
 have h1:=h.1
 omega
theorem Pm.lt {n:Nat} {p:List Int} (h:Pm n p) {i:Nat} (hi:i<n):ap p i<n:=(h.Wl hi).2
theorem Pm.ext {n:Nat} {p q:List Int} (h:Pm n p) (k:Pm n q) (e: ∀i,i<n->ap p i=ap q i):p=q:=by
 refine eZ (by rw [h.1,k.1]) λi h1 h2=>?_
 have hi:i<n:=by rw [<-h.1];exact h1
 have a:=(h.Wl hi).1
 have b:=(k.Wl hi).1
 rw [Ks h1] at a
 rw [Ks h2] at b
 rw [a,b,e i hi]
theorem Pm.inj {n:Nat} {p:List Int} (h:Pm n p) {i j:Nat} (hi:i<n) (hj:j<n) (e:ap p i=ap p j):i=j:=
 h.2.inj i j (by rw [h.1];exact hi) (by rw [h.1];exact hj) e
theorem Pm.VE {n:Nat} {p:List Int} (h:Pm n p) {k:Nat} (hk:k<n): ∃i,i<n/\ap p i=k:=by
 obtain ⟨i,h1,h2⟩:=h.2.VE k (by rw [h.1];exact hk)
 exact ⟨i,by rw [<-h.1];exact h1,h2⟩
theorem Pm.of {n:Nat} {p:List Int} (hl:p.length=n) (h1:1<=n) (h2:n<=20) (f:Nat->Nat) (hf: ∀i,i<n->p[i]?=some (f i:Int)/\f i<n) (hi: ∀i j,i<n->j<n->f i=f j->i=j):Pm n p:=by
 refine ⟨hl,by omega,by omega,λy hy=>?_,?_⟩
 ·obtain ⟨i,hi,rfl⟩:=Bg.1 hy
  obtain ⟨h3,h4⟩:=hf i (by omega)
  rw [Ac hi] at h3
  rw [Bd h3]
  omega
 ·refine Fa.2 λi j h3 h4 h5 h6=>?_
  have a:=(hf i (by omega)).1
  have b:=(hf j (by omega)).1
  rw [Ac h3] at a
  rw [Ac h4] at b
  rw [Bd a,Bd b] at h6
  have:=hi i j (by omega) (by omega) (by omega)
  omega
theorem ES {n:Nat} {p q:List Int} (hp:Pm n p) (hq:Pm n q) {i:Nat} (hi:i<n):(Aj p q)[i]?=some (ap q (ap p i):Int):=by
 have h1:i<p.length:=by rw [hp.1];exact hi
 unfold Aj
 rw [Fo,Ac h1]
 have a:=(hp.Wl hi).1
 rw [Ks h1] at a
 simp only [An,a]
 rw [(hq.Wl (hp.Wl hi).2).1]
theorem Pm.comp {n:Nat} {p q:List Int} (hp:Pm n p) (hq:Pm n q):Pm n (Aj p q):=
 Pm.of (by rw [Sn,hp.1]) hp.n1 hp.n2 (λi=>ap q (ap p i)) (λi hi=>⟨ES hp hq hi,hq.lt (hp.lt hi)⟩) λi j hi hj e=>hp.inj hi hj (hq.inj (hp.lt hi) (hp.lt hj) e)
theorem ZD {p:List Int} {i k:Nat} (h:p[i]?=some (k:Int)):ap p i=k:=by
 unfold ap Dp
 rw [Ae,Ak,h]
 simp
theorem Kr {n:Nat} {p q:List Int} (hp:Pm n p) (hq:Pm n q) {i:Nat} (hi:i<n):ap (Aj p q) i=ap q (ap p i):=ZD (ES hp hq hi)
theorem oX {n i:Nat} (hi:i<n):(upto n)[i]?=some (i:Int):=by simp [upto,hi]
theorem l5 {n i:Nat} (hi:i<n):ap (upto n) i=i:=ZD (oX hi)
theorem Pm.id {n:Nat} (h1:1<=n) (h2:n<=20):Pm n (upto n):=Pm.of (by simp [upto]) h1 h2 (λi=>i) (λi hi=>⟨oX hi,hi⟩) λ_ _ _ _ e=>e
theorem SJ {n:Nat} {p:List Int} (hp:Pm n p) {i:Nat} (hi:i<n):(Bv p)[ap p i]?=some (i:Int):=Aat hp.2 (by rw [hp.1];exact hi)
theorem kl {n:Nat} {p:List Int} (hp:Pm n p) {i:Nat} (hi:i<n):ap (Bv p) (ap p i)=i:=ZD (SJ hp hi)
theorem zf {n:Nat} {p:List Int} (hp:Pm n p) {k:Nat} (hk:k<n):ap p (ap (Bv p) k)=k:=by
 obtain ⟨i,hi,rfl⟩:=hp.VE hk
 rw [kl hp hi]
theorem Pm.inv {n:Nat} {p:List Int} (hp:Pm n p):Pm n (Bv p):=by
 refine Pm.of (by rw [su,hp.1]) hp.n1 hp.n2 (λk=>ap (Bv p) k) (λk hk=>?_) λi j hi hj e=>?_
 ·obtain ⟨i,hi,rfl⟩:=hp.VE hk
  rw [kl hp hi]
  exact ⟨SJ hp hi,hi⟩
 ·rw [<-zf hp hi,<-zf hp hj,e]
theorem It {n:Nat} {p q r:List Int} (hp:Pm n p) (hq:Pm n q) (hr:Pm n r):Aj (Aj p q) r=Aj p (Aj q r):=
 ((hp.comp hq).comp hr).ext (hp.comp (hq.comp hr)) λi hi=>by rw [Kr (hp.comp hq) hr hi,Kr hp hq hi,Kr hp (hq.comp hr) hi,Kr hq hr (hp.lt hi)]
theorem comp_id {n:Nat} {p:List Int} (hp:Pm n p):Aj p (upto n)=p:=
 (hp.comp (Pm.id hp.n1 hp.n2)).ext hp λi hi=>by rw [Kr hp (Pm.id hp.n1 hp.n2) hi,l5 (hp.lt hi)]
theorem id_comp {n:Nat} {p:List Int} (hp:Pm n p):Aj (upto n) p=p:=
 ((Pm.id hp.n1 hp.n2).comp hp).ext hp λi hi=>by rw [Kr (Pm.id hp.n1 hp.n2) hp hi,l5 hi]
theorem iT {n:Nat} {p:List Int} (hp:Pm n p):Aj p (Bv p)=upto n:=
 (hp.comp hp.inv).ext (Pm.id hp.n1 hp.n2) λi hi=>by rw [Kr hp hp.inv hi,kl hp hi,l5 hi]
theorem cd {n:Nat} {p:List Int} (hp:Pm n p):Aj (Bv p) p=upto n:=
 (hp.inv.comp hp).ext (Pm.id hp.n1 hp.n2) λi hi=>by rw [Kr hp.inv hp hi,zf hp hi,l5 hi]
theorem tY {n:Nat} {p q:List Int} (hp:Pm n p) (hq:Pm n q) (h:Aj p q=upto n):Bv p=q:=by
 rw [<-comp_id hp.inv,<-h,<-It hp.inv hp hq,cd hp,id_comp hq]
theorem inv_mul {n:Nat} {p q:List Int} (hp:Pm n p) (hq:Pm n q):Bv (Aj p q)=Aj (Bv q) (Bv p):=
 tY (hp.comp hq) (hq.inv.comp hp.inv) (by
  rw [It hp hq (hq.inv.comp hp.inv),<-It hq hq.inv hp.inv,iT hq,id_comp hp.inv,iT hp])
theorem inv_inv {n:Nat} {p:List Int} (hp:Pm n p):Bv (Bv p)=p:=tY hp.inv hp (cd hp)
theorem Aau {n:Nat} (h1:1<=n) (h2:n<=20):Bv (upto n)=upto n:=tY (Pm.id h1 h2) (Pm.id h1 h2) (comp_id (Pm.id h1 h2))
inductive dW (n:Nat) (S:List Int->Prop):List Int->Prop where
 |id:dW n S (upto n)
 |mul {p g:List Int} :dW n S p->S g->dW n S (Aj p g)
 |inv {p g:List Int} :dW n S p->S g->dW n S (Aj p (Bv g))
def QS (n:Nat) (S:List Int->Prop):Prop:=(1<=n/\n<=20)/\ ∀g,S g->Pm n g
theorem dW.pm {n:Nat} {S:List Int->Prop} (hS:QS n S) {p:List Int} (h:dW n S p):Pm n p:=by
 induction h with
 |id=>exact Pm.id hS.1.1 hS.1.2
 |mul _ hg ih=>exact ih.comp (hS.2 _ hg)
 |inv _ hg ih=>exact ih.comp (hS.2 _ hg).inv
theorem dW.comp {n:Nat} {S:List Int->Prop} (hS:QS n S) {p q:List Int} (hp:dW n S p) (hq:dW n S q):dW n S (Aj p q):=by
 induction hq with
 |id=>rw [comp_id (hp.pm hS)];exact hp
 |mul hq hg ih=>rw [<-It (hp.pm hS) (hq.pm hS) (hS.2 _ hg)];exact .mul ih hg
 |inv hq hg ih=>rw [<-It (hp.pm hS) (hq.pm hS) (hS.2 _ hg).inv];exact .inv ih hg
theorem dW.one {n:Nat} {S:List Int->Prop} (hS:QS n S) {g:List Int} (hg:S g):dW n S g:=by
 have:=dW.mul (n:=n) (S:=S) .id hg
 rwa [id_comp (hS.2 g hg)] at this
theorem dW.Akw {n:Nat} {S:List Int->Prop} (hS:QS n S) {g:List Int} (hg:S g):dW n S (Bv g):=by
 have:=dW.inv (n:=n) (S:=S) .id hg
 rwa [id_comp (hS.2 g hg).inv] at this
theorem dW.zS {n:Nat} {S:List Int->Prop} (hS:QS n S) {p:List Int} (hp:dW n S p):dW n S (Bv p):=by
 induction hp with
 |id=>rw [Aau hS.1.1 hS.1.2];exact .id
 |mul hq hg ih=>rw [inv_mul (hq.pm hS) (hS.2 _ hg)];exact (dW.Akw hS hg).comp hS ih
 |inv hq hg ih=>rw [inv_mul (hq.pm hS) (hS.2 _ hg).inv,inv_inv (hS.2 _ hg)];exact (dW.one hS hg).comp hS ih
theorem dW.trans {n:Nat} {S S':List Int->Prop} (hS':QS n S') (h: ∀g,S g->dW n S' g) {p:List Int} (hp:dW n S p):dW n S' p:=by
 induction hp with
 |id=>exact .id
 |mul _ hg ih=>exact ih.comp hS' (h _ hg)
 |inv _ hg ih=>exact ih.comp hS' ((h _ hg).zS hS')
abbrev PO:=Option (List Int)
abbrev Row:=List PO
abbrev Gg:=List Row
def Ny (row:Row):List Int:=(upto row.length).filter λy=>(row.getD y.toNat none).isSome
def On (T:Gg):Nat->Nat->List Int->Bool
 |0,_,_=>true
 |k+1,i,p=>match (T.getD i []).getD (Dp p (i:Int)).toNat none with
  |none=>false
  |some t=>On T k (i+1) (Aj p (Bv t))
def Sw (row:Row):Nat:=row.countP (·.isNone)
def aU (x:Int) (s:Row×List Int) (o:PO):Row×List Int:=
 match s.1.getD (Dp (o.getD []) x).toNat none with
 |some _=>s
 |none=>(s.1.set (Dp (o.getD []) x).toNat (some (Aj ((s.1.getD x.toNat none).getD []) (o.getD []))),s.2++ [Dp (o.getD []) x])
def aL (x:Int) (gs:List PO) (s:Row×List Int):Row×List Int:=gs.foldl (aU x) s
def az (gs:List PO):Nat->List Int->Row->Row
 |0,_,row=>row
 |_+1,[],row=>row
 |f+1,x::q,row=>az gs f (aL x gs (row,q)).2 (aL x gs (row,q)).1
def Zt (gs:List PO) (row:Row):Row:=az gs 100 (Ny row) row
def Up (row:Row) (y:Int) (g:PO):List Int:=
 Aj (Aj ((row.getD y.toNat none).getD []) (g.getD [])) (Bv ((row.getD (Dp (g.getD []) y).toNat none).getD []))
def gV (row:Row) (gs:List PO):List (List Int):=(Ny row).flatMap λy=>gs.map λg=>Up row y g
def Is:Nat->Nat->List Int->Gg×Gg->Gg×Gg
 |0,_,_,s=>s
 |k+1,l,p,s=>
  if On s.2 (k+1) l p=true then s else
   (gV (Zt (s.1.getD l []++ [some p]) (s.2.getD l [])) (s.1.getD l []++ [some p])).foldl (λs q=>Is k (l+1) q s)
    (s.1.set l (s.1.getD l []++ [some p]),s.2.set l (Zt (s.1.getD l []++ [some p]) (s.2.getD l [])))
def Fx (l:Nat) (p:List Int):Prop:= ∀i,i<l->ap p i=i
def Gn (n:Nat) (gs:List PO):List Int->Prop:=dW n λg=>some g∈gs
structure Lvl (n l:Nat) (gs:List PO) (row:Row) (H:List Int->Prop):Prop where
 pg: ∀o∈gs,∃g,o=some g/\Pm n g/\Fx l g
 rl:row.length=n
 r0:row.getD l none=some (upto n)
 rt: ∀y t,row.getD y none=some t->Pm n t/\Fx l t/\ap t l=y/\Gn n gs t
 cl: ∀y t g,row.getD y none=some t->some g∈gs->row.getD (ap g y) none≠none
 sg: ∀y t g t',row.getD y none=some t->some g∈gs->row.getD (ap g y) none=some t'->H (Aj (Aj t g) (Bv t'))
def kT (n:Nat):Nat->Nat->Gg×Gg->Prop
 |0,l,s=>s.1.getD l []= []
 |k+1,l,s=>kT n k (l+1) s/\Lvl n l (s.1.getD l []) (s.2.getD l []) (λq=>On s.2 k (l+1) q=true)/\ ∀g,some g∈s.1.getD (l+1) []->Gn n (s.1.getD l []) g
theorem Agl {l1 l2:List Nat} (hn:l1.Nodup) (hs: ∀x∈l1,x∈l2) (hl:l2.length<=l1.length): ∀x∈l2,x∈l1:=by
 induction l1 generalizing l2 with
 |nil=>
  intro x hx
  have:l2= []:=Cm (by simpa using hl)
  rw [this] at hx;cases hx
 |cons a l ih=>
  intro x hx
  obtain ⟨h1,h2⟩:=Cg.1 hn
  have ha:=hs a (by simp)
  by_cases e:x=a
  ·subst e;simp
  ·refine Ap _ (ih (l2:=l2.erase a) h2 (λy hy=>?_) ?_ x ((List.mem_erase_of_ne e).2 hx))
   ·have hya:y≠a:= λe'=>h1 (by rw [<-e'];exact hy)
    exact (List.mem_erase_of_ne hya).2 (hs y (by simp [hy]))
   ·rw [Xr ha]
    simp only [Ay] at hl
    omega
theorem NK {n:Nat} {g:List Int} (hg:Pm n g) (D:Nat->Bool) (h: ∀y,y<n->D y=true->D (ap g y)=true) {y:Nat} (hy:y<n) (hD:D y=true): ∃x,x<n/\D x=true/\ap g x=y:=by
 have:=Agl (l1:=((List.range n).filter D).map (ap g)) (l2:=(List.range n).filter D) ?_ ?_ (by simp) y (Cf.2 ⟨Ff.2 hy,hD⟩)
 ·obtain ⟨x,hx,e⟩:=Bf.1 this
  obtain ⟨h1,h2⟩:=Cf.1 hx
  exact ⟨x,Ff.1 h1,h2,e⟩
 ·refine List.pairwise_map.2 (iA ?_ (List.nodup_range.filter D))
  intro a b ha hb Jd e
  exact Jd (hg.inj (Ff.1 (Cf.1 ha).1) (Ff.1 (Cf.1 hb).1) e)
 ·intro x hx
  obtain ⟨z,hz,rfl⟩:=Bf.1 hx
  obtain ⟨h1,h2⟩:=Cf.1 hz
  exact Cf.2 ⟨Ff.2 (hg.lt (Ff.1 h1)),h z (Ff.1 h1) h2⟩
theorem sl {row:Row} {y:Nat} {t:List Int} (h:row.getD y none=some t):y<row.length:=by
 rw [Ak] at h
 refine Bp λhn=>?_
 rw [Ei (by omega)] at h
 cases h
theorem Lvl.pms {n l:Nat} {gs:List PO} {row:Row} {H:List Int->Prop} (h:Lvl n l gs row H):QS n λg=>some g∈gs:=by
 refine ⟨?_,λg hg=>?_⟩
 ·have:=(h.rt l _ h.r0).1
  exact ⟨this.n1,this.n2⟩
 ·obtain ⟨g',e,h1,_⟩:=h.pg _ hg
  cases e;exact h1
theorem Fx.inv {n l:Nat} {p:List Int} (hp:Pm n p) (h:Fx l p) (hl:l<=n):Fx l (Bv p):= λi hi=>by
 have:=kl hp (i:=i) (by omega)
 rwa [h i hi] at this
theorem Fx.comp {n l:Nat} {p q:List Int} (hp:Pm n p) (hq:Pm n q) (h1:Fx l p) (h2:Fx l q) (hl:l<=n):Fx l (Aj p q):= λi hi=>by
 rw [Kr hp hq (by omega),h1 i hi,h2 i hi]
theorem Fx.all {n:Nat} {p:List Int} (hp:Pm n p) (h:Fx n p):p=upto n:=hp.ext (Pm.id hp.n1 hp.n2) λi hi=>by rw [h i hi,l5 hi]
theorem Fx.div {n l:Nat} {p t:List Int} (hp:Pm n p) (ht:Pm n t) (h1:Fx l p) (h2:Fx l t) (hl:l<n) (e:ap t l=ap p l):Fx (l+1) (Aj p (Bv t)):= λi hi=>by
 rw [Kr hp ht.inv (by omega)]
 by_cases hil:i<l
 ·rw [h1 i hil];exact h2.inv ht (by omega) i hil
 ·have:i=l:=by omega
  subst this
  rw [<-e,kl ht hl]
theorem nV {n:Nat} (h1:1<=n) (h2:n<=20): ∀(k l:Nat) (s:Gg×Gg),l+k=n->kT n k l s-> ∀p,Pm n p->Fx l p->(On s.2 k l p=true↔Gn n (s.1.getD l []) p)
 |0,l,s,hk,hc,p,hp,hf=>by
  have hl:l=n:=by omega
  subst hl
  rw [hf.all hp]
  exact ⟨λ_=> .id,λ_=>rfl⟩
 |k+1,l,s,hk,hc,p,hp,hf=>by
  obtain ⟨c1,c2,c3⟩:=hc
  have hS:=c2.pms
  have ih:=nV h1 h2 k (l+1) s (by omega) c1
  have hS1:QS n λg=>some g∈s.1.getD (l+1) []:=⟨⟨h1,h2⟩,λg hg=>(c3 g hg).pm hS⟩
  have gN:l<n:=by omega
  constructor
  ·intro h
   simp only [On] at h
   rw [show (Dp p (l:Int)).toNat=ap p l from rfl] at h
   split at h
   ·cases h
   ·rename_i t ht
    obtain ⟨t1,t2,t3,t4⟩:=c2.rt _ _ ht
    have hf':=Fx.div hp t1 hf t2 gN t3
    have hg:=((ih _ (hp.comp t1.inv) hf').1 h).trans hS c3
    have:=dW.comp hS hg t4
    rwa [It hp t1.inv t1,cd t1,comp_id hp] at this
  ·intro h
   have key: ∀q,Gn n (s.1.getD l []) q-> ∃t,(s.2.getD l []).getD (ap q l) none=some t/\Gn n (s.1.getD (l+1) []) (Aj q (Bv t)):=by
    intro q hq
    induction hq with
    |id=>
     refine ⟨upto n,by rw [l5 gN];exact c2.r0,?_⟩
     rw [Aau h1 h2,comp_id (Pm.id h1 h2)]
     exact .id
    | @mul q g hq hg ihq=>
     obtain ⟨t,e1,e2⟩:=ihq
     have hqp:=dW.pm hS hq
     have Ya:=hS.2 _ hg
     obtain ⟨t1,t2,t3,t4⟩:=c2.rt _ _ e1
     cases e3:(s.2.getD l []).getD (ap g (ap q l)) none with
     |none=>exact absurd e3 (c2.cl _ _ _ e1 hg)
     |some t'=>
      obtain ⟨u1,u2,u3,u4⟩:=c2.rt _ _ e3
      have hsg:=c2.sg _ _ _ _ e1 hg e3
      have hfg:Fx (l+1) (Aj (Aj t g) (Bv t')):=Fx.div (t1.comp Ya) u1 (Fx.comp t1 Ya t2 (by obtain ⟨g',e,_,h⟩:=c2.pg _ hg;cases e;exact h) (by omega)) u2 gN (by rw [u3,Kr t1 Ya gN,t3])
      have hgn:=(ih _ ((t1.comp Ya).comp u1.inv) hfg).1 hsg
      refine ⟨t',by rw [Kr hqp Ya gN];exact e3,?_⟩
      have:=dW.comp hS1 e2 hgn
      rwa [show Aj (Aj q (Bv t)) (Aj (Aj t g) (Bv t'))=Aj (Aj q g) (Bv t') by
       rw [It hqp t1.inv ((t1.comp Ya).comp u1.inv),It t1 Ya u1.inv,<-It t1.inv t1 (Ya.comp u1.inv),cd t1,id_comp (Ya.comp u1.inv),It hqp Ya u1.inv]] at this
    | @inv q g hq hg ihq=>
     obtain ⟨t,e1,e2⟩:=ihq
     have hqp:=dW.pm hS hq
     have Ya:=hS.2 _ hg
     obtain ⟨t1,t2,t3,t4⟩:=c2.rt _ _ e1
     have hy:ap q l<n:=hqp.lt gN
     obtain ⟨x,hx,hD,he⟩:=NK Ya (λy=>((s.2.getD l []).getD y none).isSome) (λy hy hd=>by
      obtain ⟨t0,ht0⟩:=Xs.1 hd
      exact Option.ne_none_iff_isSome.1 (c2.cl _ _ _ ht0 hg)) hy (by rw [e1];rfl)
     obtain ⟨t',e3⟩:=Xs.1 hD
     obtain ⟨u1,u2,u3,u4⟩:=c2.rt _ _ e3
     have hsg:=c2.sg _ _ _ _ e3 hg (by rw [he];exact e1)
     have hfg:Fx (l+1) (Aj (Aj t' g) (Bv t)):=Fx.div (u1.comp Ya) t1 (Fx.comp u1 Ya u2 (by obtain ⟨g',e,_,h⟩:=c2.pg _ hg;cases e;exact h) (by omega)) t2 gN (by rw [t3,Kr u1 Ya gN,u3,he])
     have hgn:=dW.zS hS1 ((ih _ ((u1.comp Ya).comp t1.inv) hfg).1 hsg)
     have hax:ap (Bv g) (ap q l)=x:=by rw [<-he,kl Ya hx]
     refine ⟨t',by rw [Kr hqp Ya.inv gN,hax];exact e3,?_⟩
     have:=dW.comp hS1 e2 hgn
     rwa [show Aj (Aj q (Bv t)) (Bv (Aj (Aj t' g) (Bv t)))=Aj (Aj q (Bv g)) (Bv t') by
      rw [inv_mul (u1.comp Ya) t1.inv,inv_inv t1,inv_mul u1 Ya,It hqp t1.inv (t1.comp (Ya.inv.comp u1.inv)),<-It t1.inv t1 (Ya.inv.comp u1.inv),cd t1,id_comp (Ya.inv.comp u1.inv),It hqp Ya.inv u1.inv]] at this
   obtain ⟨t,e1,e2⟩:=key p h
   obtain ⟨t1,t2,t3,t4⟩:=c2.rt _ _ e1
   simp only [On]
   rw [show (Dp p (l:Int)).toNat=ap p l from rfl,e1]
   exact (ih _ (hp.comp t1.inv) (Fx.div hp t1 hf t2 gN t3)).2 e2
theorem Vt {α:Type} (xs:List α) (i j:Nat) (x d:α):(xs.set i x).getD j d=if i=j/\i<xs.length then x else xs.getD j d:=by
 rw [Ak,Ex,Ak]
 by_cases e:i=j
 ·subst e
  by_cases h:i<xs.length
  ·rw [Ab rfl,Ab h,Ab ⟨rfl,h⟩];rfl
  ·rw [Ab rfl,Ai h,Ai (λhh=>h hh.2),Ei (by omega)]
 ·rw [Ai e,Ai (λhh=>e hh.1)]
theorem dW.mono {n:Nat} {S S':List Int->Prop} (h: ∀g,S g->S' g) {p:List Int} (hp:dW n S p):dW n S' p:=by
 induction hp with
 |id=>exact .id
 |mul _ hg ih=>exact .mul ih (h _ hg)
 |inv _ hg ih=>exact .inv ih (h _ hg)
structure Xx (n l:Nat) (gs:List PO) (row:Row):Prop where
 rl:row.length=n
 r0:row.getD l none=some (upto n)
 rt: ∀y t,row.getD y none=some t->Pm n t/\Fx l t/\ap t l=y/\Gn n gs t
def PG (n l:Nat) (gs:List PO):Prop:= ∀o∈gs,∃g,o=some g/\Pm n g/\Fx l g
structure Ext (n l:Nat) (gs:List PO) (row:Row) (q:List Int) (s':Row×List Int):Prop where
 ok:Xx n l gs s'.1
 mono: ∀y t,row.getD y none=some t->s'.1.getD y none=some t
 phi:s'.2.length+Sw s'.1=q.length+Sw row
 vW: ∀y∈q,y∈s'.2
 new: ∀y∈s'.2,y∈q\/ ∃yn:Nat,y=yn/\s'.1.getD yn none≠none
 src: ∀y:Nat,s'.1.getD y none≠none->row.getD y none≠none\/(y:Int)∈s'.2
theorem Ext.refl {n l:Nat} {gs:List PO} {row:Row} {q:List Int} (h:Xx n l gs row):Ext n l gs row q (row,q):=⟨h,λ_ _ h=>h,rfl,λ_ h=>h,λ_ h=> .inl h,λ_ h=> .inl h⟩
theorem fM {a b:Row} (h: ∀y t,a.getD y none=some t->b.getD y none=some t) {y:Nat} (hy:a.getD y none≠none):b.getD y none≠none:=by
 cases e:a.getD y none with
 |none=>exact absurd e hy
 |some t=>rw [h y t e];simp
theorem Ext.trans {n l:Nat} {gs:List PO} {row:Row} {q:List Int} {s1 s2:Row×List Int} (h:Ext n l gs row q s1) (k:Ext n l gs s1.1 s1.2 s2):Ext n l gs row q s2:=by
 refine ⟨k.ok,λy t e=>k.mono y t (h.mono y t e),k.phi.trans h.phi,λy hy=>k.vW y (h.vW y hy),λy hy=>?_,λy hy=>?_⟩
 ·rcases k.new y hy with h1|h1
  ·rcases h.new y h1 with h2|⟨yn,h2,h3⟩
   ·exact .inl h2
   ·exact .inr ⟨yn,h2,fM k.mono h3⟩
  ·exact .inr h1
 ·rcases k.src y hy with h1|h1
  ·exact (h.src y h1).imp id λh2=>k.vW _ h2
  ·exact .inr h1
theorem VC {row:Row} {i:Nat} {t:List Int} (h:row.getD i none=none) (hi:i<row.length):Sw (row.set i (some t))+1=Sw row:=by
 unfold Sw
 have e:row[i]=none:=by
  rw [Ak,Ac hi] at h
  exact h
 have h1:=List.countP_set (p:= λo:PO=>o.isNone) (l:=row) (i:=i) (a:=some t) hi
 have rV:0<row.countP (·.isNone):=List.countP_pos_iff.2 ⟨row[i],Am hi,by rw [e];rfl⟩
 rw [h1,e]
 simp
 omega
theorem Agk {n l:Nat} {gs:List PO} (gN:l<n) (hg:PG n l gs) {row:Row} {q:List Int} (h:Xx n l gs row) {x:Nat} {t:List Int} (hx:row.getD x none=some t) {g:List Int} (ho:some g∈gs):
  Ext n l gs row q (aU (x:Int) (row,q) (some g))/\(aU (x:Int) (row,q) (some g)).1.getD (ap g x) none≠none:=by
 obtain ⟨g',e,Ya,hgf⟩:=hg _ ho
 cases e
 obtain ⟨t1,t2,t3,t4⟩:=h.rt _ _ hx
 have SH:x<n:=by rw [<-h.rl];exact sl hx
 obtain ⟨a1,a2⟩:=Ya.Wl SH
 unfold aU
 simp only [Df,a1,Ae]
 cases e:row.getD (ap g x) none with
 |some u=>exact ⟨Ext.refl h,by simp only;rw [e];simp⟩
 |none=>
  simp only [hx,Df]
  have hl:ap g x<row.length:=by rw [h.rl];exact a2
  have hS:QS n λg=>some g∈gs:=⟨⟨t1.n1,t1.n2⟩,λg fa=>by obtain ⟨g',e,h1,_⟩:=hg _ fa;cases e;exact h1⟩
  have Av: ∀y,(row.set (ap g x) (some (Aj t g))).getD y none=if ap g x=y/\ap g x<row.length then some (Aj t g) else row.getD y none:= λy=>Vt _ _ _ _ _
  have Jd: ∀y u,row.getD y none=some u->ap g x≠y:= λy u hu e'=>by rw [<-e',e] at hu;cases hu
  refine ⟨⟨⟨by simp [h.rl],?_,λy u hu=>?_⟩,λy u hu=>?_,?_,λy hy=>Bi _ hy,λy hy=>?_,λy hy=>?_⟩,?_⟩
  ·rw [Av,Ai (λhh=>Jd l _ h.r0 hh.1)];exact h.r0
  ·rw [Av] at hu
   split at hu
   ·rename_i hc
    cases hu
    exact ⟨t1.comp Ya,Fx.comp t1 Ya t2 hgf (by omega),by rw [Kr t1 Ya gN,t3];exact hc.1, .mul t4 ho⟩
   ·exact h.rt y u hu
  ·show (row.set (ap g x) (some (Aj t g))).getD y none=some u
   rw [Av,Ai (λhh=>Jd y u hu hh.1)];exact hu
  ·have:=VC (t:=Aj t g) e hl
   simp only [Aw,Ay,Gp]
   omega
  ·rcases Ba.1 hy with hy|hy
   ·exact .inl hy
   ·simp only [Ad] at hy
    exact .inr ⟨ap g x,hy,by show (row.set (ap g x) (some (Aj t g))).getD (ap g x) none≠none;rw [Av,Ab ⟨rfl,hl⟩];simp⟩
  ·have hy:(row.set (ap g x) (some (Aj t g))).getD y none≠none:=hy
   rw [Av] at hy
   split at hy
   ·rename_i hc
    exact .inr (by show (y:Int)∈q++ [(ap g x:Int)];rw [<-hc.1];simp)
   ·exact .inl hy
  ·show (row.set (ap g x) (some (Aj t g))).getD (ap g x) none≠none
   rw [Av,Ab ⟨rfl,hl⟩];simp
theorem Ac5 {n l:Nat} {gs:List PO} (gN:l<n) (hg:PG n l gs): ∀(gs':List PO) {row:Row} {q:List Int},(∀o∈gs',o∈gs)->Xx n l gs row-> ∀ {x:Nat} {t:List Int},row.getD x none=some t->
  Ext n l gs row q (aL (x:Int) gs' (row,q))/\ ∀g,some g∈gs'->(aL (x:Int) gs' (row,q)).1.getD (ap g x) none≠none
 | [],row,q,_,h,x,t,hx=>⟨Ext.refl h,λg hg=>by cases hg⟩
 |o::gs',row,q,hs,h,x,t,hx=>by
  obtain ⟨g,rfl,_,_⟩:=hg o (hs o (by simp))
  obtain ⟨e1,e2⟩:=Agk (q:=q) gN hg h hx (hs (some g) (by simp))
  obtain ⟨f1,f2⟩:=Ac5 gN hg gs' (q:=(aU (x:Int) (row,q) (some g)).2) (λo ho=>hs o (by simp [ho])) e1.ok (e1.mono x t hx)
  have hb:aL (x:Int) (some g::gs') (row,q)=aL (x:Int) gs' ((aU (x:Int) (row,q) (some g)).1,(aU (x:Int) (row,q) (some g)).2):=rfl
  rw [hb]
  refine ⟨e1.trans f1,λg' fa=>?_⟩
  rcases Bb.1 fa with e|fa
  ·cases e;exact fM f1.mono e2
  ·exact f2 g' fa
def TL (gs:List PO) (q:List Int) (row:Row):Prop:=
 (∀y∈q,∃yn:Nat,y=yn/\row.getD yn none≠none)/\ ∀y:Nat,row.getD y none≠none->(y:Int)∈q\/ ∀g,some g∈gs->row.getD (ap g y) none≠none
theorem OC {n l:Nat} {gs:List PO} (gN:l<n) (hg:PG n l gs) {x:Int} {q:List Int} {row:Row} (h:Xx n l gs row) (hq:TL gs (x::q) row):
  Ext n l gs row q (aL x gs (row,q))/\TL gs (aL x gs (row,q)).2 (aL x gs (row,q)).1/\ ∃(xn:Nat) (t:List Int),x=xn/\row.getD xn none=some t:=by
 obtain ⟨xn,rfl,hx⟩:=hq.1 x (by simp)
 cases e:row.getD xn none with
 |none=>exact absurd e hx
 |some t=>
  obtain ⟨e1,e2⟩:=Ac5 gN hg gs (q:=q) (λo ho=>ho) h e
  refine ⟨e1,⟨λy hy=>?_,λy hy=>?_⟩,xn,t,rfl,e⟩
  ·rcases e1.new y hy with h1|h1
   ·obtain ⟨yn,h2,h3⟩:=hq.1 y (by simp [h1])
    exact ⟨yn,h2,fM e1.mono h3⟩
   ·exact h1
  ·rcases e1.src y hy with h1|h1
   ·rcases hq.2 y h1 with h2|h2
    ·rcases Bb.1 h2 with h2|h2
     ·have:y=xn:=by omega
      subst this
      exact .inr λg fa=>e2 g fa
     ·exact .inl (e1.vW _ h2)
    ·exact .inr λg fa=>fM e1.mono (h2 g fa)
   ·exact .inl h1
theorem Acd {n l:Nat} {gs:List PO} (gN:l<n) (hg:PG n l gs): ∀(f:Nat) (q:List Int) (row:Row),q.length+Sw row<=f->Xx n l gs row->TL gs q row->
  Xx n l gs (az gs f q row)/\(∀y t,row.getD y none=some t->(az gs f q row).getD y none=some t)/\ ∀y t g,(az gs f q row).getD y none=some t->some g∈gs->(az gs f q row).getD (ap g y) none≠none
 |0,q,row,hf,h,hq=>by
  have:q= []:=Cm (by omega)
  subst this
  exact ⟨h,λ_ _ h=>h,λy t g e fa=>by
   rcases hq.2 y (by rw [show row.getD y none=some t from e];simp) with h1|h1
   ·cases h1
   ·exact h1 g fa⟩
 |f+1,[],row,hf,h,hq=>⟨h,λ_ _ h=>h,λy t g e fa=>by
   rcases hq.2 y (by rw [show row.getD y none=some t from e];simp) with h1|h1
   ·cases h1
   ·exact h1 g fa⟩
 |f+1,x::q,row,hf,h,hq=>by
  obtain ⟨e1,e2,_⟩:=OC gN hg h hq
  obtain ⟨r1,r2,r3⟩:=Acd gN hg f _ _ (by have:=e1.phi;simp only [Ay] at hf;omega) e1.ok e2
  exact ⟨r1,λy t e=>r2 y t (e1.mono y t e),r3⟩
theorem Uw {row:Row} {y:Int} :y∈Ny row↔ ∃yn:Nat,y=yn/\row.getD yn none≠none:=by
 unfold Ny
 rw [Cf,Mr]
 constructor
 ·rintro ⟨h1,h2⟩
  exact ⟨y.toNat,by omega,Option.ne_none_iff_isSome.2 h2⟩
 ·rintro ⟨yn,rfl,h⟩
  obtain ⟨t,ht⟩:=Od.1 h
  exact ⟨by have:=sl ht;omega,by simpa using Option.ne_none_iff_isSome.1 h⟩
theorem AR (row:Row):(Ny row).length<=row.length:=by
 unfold Ny
 refine Je (List.length_filter_le _ _) (by simp [upto])
theorem HK (row:Row):Sw row<=row.length:=List.countP_le_length
theorem HQ {n l:Nat} {gs:List PO} (gN:l<n) (h2:n<=20) (hg:PG n l gs) {row:Row} (h:Xx n l gs row):
  Xx n l gs (Zt gs row)/\(∀y t,row.getD y none=some t->(Zt gs row).getD y none=some t)/\ ∀y t g,(Zt gs row).getD y none=some t->some g∈gs->(Zt gs row).getD (ap g y) none≠none:=
 Acd gN hg 100 _ _ (by have:=AR row;have:=HK row;have:=h.rl;omega) h ⟨λy hy=>Uw.1 hy,λy hy=> .inl (Uw.2 ⟨y,rfl,hy⟩)⟩
theorem EM {n l:Nat} {gs:List PO} (gN:l<n) (hg:PG n l gs): ∀(f:Nat) (q:List Int) (row:Row),q.length+Sw row<=f->Xx n l gs row->TL gs q row->az gs f q row=az gs (q.length+Sw row) q row
 |0,q,row,hf,_,_=>by
  have:q.length+Sw row=0:=by omega
  rw [this]
 |f+1,[],row,hf,_,_=>by
  cases h:([]:List Int).length+Sw row with
  |zero=>rfl
  |succ m=>rfl
 |f+1,x::q,row,hf,h,hq=>by
  obtain ⟨e1,e2,_⟩:=OC gN hg h hq
  have Afe:=e1.phi
  have:(x::q).length+Sw row=(q.length+Sw row)+1:=by simp only [Ay];omega
  rw [this]
  simp only [az]
  rw [EM gN hg f _ _ (by simp only [Ay] at hf;omega) e1.ok e2,Afe]
def ER (row:Row):Nat:=row.countP (·.isSome)
theorem xz: ∀(a b:Row),a.length=b.length->(∀y t,a.getD y none=some t->b.getD y none=some t)->ER a<=ER b/\(ER a=ER b->a=b)
 | [],[],_,_=>⟨Aq _,λ_=>rfl⟩
 | [],_::_,h,_=>by simp at h
 |_::_,[],h,_=>by simp at h
 |x::a,y::b,h,hm=>by
  obtain ⟨h1,h2⟩:=xz a b (by simpa using h) λi t e=>by simpa using hm (i+1) t (by simpa using e)
  unfold ER at h1 h2⊢
  cases x with
  |none=>
   cases y with
   |none=>simp only [List.countP_cons];exact ⟨by simpa using h1,λe=>by rw [h2 (by simpa using e)]⟩
   |some u=>
    simp only [List.countP_cons,Option.isSome_none,Option.isSome_some]
    simp only [Pl,Dh,Si]
    exact ⟨by omega,λe=>by omega⟩
  |some t=>
   have:=hm 0 t (by simp)
   simp only [Yd] at this
   subst this
   simp only [List.countP_cons]
   exact ⟨by simpa using h1,λe=>by rw [h2 (by simpa using e)]⟩
def mH (T:Gg):Nat->Nat->Nat
 |0,_=>0
 |k+1,l=>ER (T.getD l [])+mH T k (l+1)
def GBf:Nat->Nat->Gg×Gg->Prop
 |0,_,_=>True
 |k+1,l,s=>GBf k (l+1) s/\(s.1.getD l []).length<=mH s.2 (k+1) l
structure bK (l0:Nat) (s s':Gg×Gg):Prop where
 Apq:s'.1.length=s.1.length
 u9:s'.2.length=s.2.length
 low: ∀i,i<l0->s'.1.getD i []=s.1.getD i []/\s'.2.getD i []=s.2.getD i []
 RP: ∀i o,o∈s.1.getD i []->o∈s'.1.getD i []
 Acz: ∀i y t,(s.2.getD i []).getD y none=some t->(s'.2.getD i []).getD y none=some t
 Ala: ∀i,(s'.2.getD i []).length=(s.2.getD i []).length
theorem bK.refl (l0:Nat) (s:Gg×Gg):bK l0 s s:=⟨rfl,rfl,λ_ _=>⟨rfl,rfl⟩,λ_ _ h=>h,λ_ _ _ h=>h,λ_=>rfl⟩
theorem bK.trans {l0 l1:Nat} {a b c:Gg×Gg} (h:bK l0 a b) (k:bK l1 b c) (hl:l0<=l1):bK l0 a c:=
 ⟨k.Apq.trans h.Apq,k.u9.trans h.u9,λi hi=>⟨(k.low i (by omega)).1.trans (h.low i hi).1,(k.low i (by omega)).2.trans (h.low i hi).2⟩,λi o ho=>k.RP i o (h.RP i o ho),λi y t e=>k.Acz i y t (h.Acz i y t e),λi=>(k.Ala i).trans (h.Ala i)⟩
theorem bK.Jv {l0 l1:Nat} {a b:Gg×Gg} (h:bK l1 a b) (hl:l0<=l1):bK l0 a b:=(bK.refl l0 a).trans h hl
theorem jf {T T':Gg} : ∀(k l:Nat) (p:List Int),(∀i,l<=i->i<l+k->T'.getD i []=T.getD i [])->On T' k l p=On T k l p
 |0,_,_,_=>rfl
 |k+1,l,p,h=>by
  simp only [On]
  rw [h l (Aq _) (by omega)]
  split
  ·rfl
  ·exact jf k (l+1) _ λi h1 h2=>h i (by omega) (by omega)
theorem mb {n:Nat} {s s':Gg×Gg} : ∀(k l:Nat),(∀i,l<=i->s'.1.getD i []=s.1.getD i []/\s'.2.getD i []=s.2.getD i [])->kT n k l s->kT n k l s'
 |0,l,h,hc=>by simp only [kT] at hc⊢;rw [(h l (Aq _)).1];exact hc
 |k+1,l,h,hc=>by
  simp only [kT] at hc⊢
  obtain ⟨c1,c2,c3⟩:=hc
  refine ⟨mb k (l+1) (λi hi=>h i (by omega)) c1,?_,?_⟩
  ·rw [(h l (Aq _)).1,(h l (Aq _)).2]
   have e:(λq=>On s'.2 k (l+1) q=true)= λq=>On s.2 k (l+1) q=true:=funext λq=>by rw [jf k (l+1) q λi h1 h2=>(h i (by omega)).2]
   rw [e];exact c2
  ·rw [(h (l+1) (by omega)).1,(h l (Aq _)).1];exact c3
theorem yt {T T':Gg} : ∀(k l:Nat),(∀i,l<=i->T'.getD i []=T.getD i [])->mH T' k l=mH T k l
 |0,_,_=>rfl
 |k+1,l,h=>by simp only [mH];rw [h l (Aq _),yt k (l+1) λi hi=>h i (by omega)]
theorem tu {s s':Gg×Gg} : ∀(k l:Nat),(∀i,l<=i->s'.1.getD i []=s.1.getD i []/\s'.2.getD i []=s.2.getD i [])->GBf k l s->GBf k l s'
 |0,_,_,_=>trivial
 |k+1,l,h,hg=>⟨tu k (l+1) (λi hi=>h i (by omega)) hg.1,by
  rw [(h l (Aq _)).1,yt (k+1) l λi hi=>(h i hi).2];exact hg.2⟩
theorem IF {T T':Gg} (hl: ∀i,(T'.getD i []).length=(T.getD i []).length) (hm: ∀i y t,(T.getD i []).getD y none=some t->(T'.getD i []).getD y none=some t):
  ∀(k l:Nat),mH T k l<=mH T' k l/\(mH T k l=mH T' k l-> ∀i,l<=i->i<l+k->T'.getD i []=T.getD i [])
 |0,l=>⟨Aq _,λ_ i h1 h2=>by omega⟩
 |k+1,l=>by
  obtain ⟨h1,h2⟩:=IF hl hm k (l+1)
  obtain ⟨h3,h4⟩:=xz (T.getD l []) (T'.getD l []) (hl l).symm (hm l)
  simp only [mH]
  refine ⟨by omega,λe i g1 g2=>?_⟩
  by_cases hi:i=l
  ·subst hi;exact (h4 (by omega)).symm
  ·exact h2 (by omega) i (by omega) (by omega)
def V (n k l:Nat) (s:Gg×Gg):Prop:=s.1.length=n/\s.2.length=n/\kT n k l s/\GBf k l s
structure Amu (n k l:Nat) (s:Gg×Gg) (p:List Int) (s':Gg×Gg):Prop where
 v:V n k l s'
 grow:bK l s s'
 Apj:Gn n (s'.1.getD l []) p
 gens: ∀o∈s'.1.getD l [],o∈s.1.getD l []\/o=some p
theorem Lvl.row {n l:Nat} {gs:List PO} {row:Row} {H:List Int->Prop} (h:Lvl n l gs row H):Xx n l gs row:=⟨h.rl,h.r0,h.rt⟩
theorem jN {row:Row} {y:Nat} {t g t':List Int} (h1:row.getD y none=some t) (h2:row.getD (ap g y) none=some t'):Up row (y:Int) (some g)=Aj (Aj t g) (Bv t'):=by
 unfold Up
 rw [Ae,h1,Df,Df,show (Dp g (y:Int)).toNat=ap g y from rfl,h2,Df]
theorem pS {n l:Nat} {gs:List PO} {row:Row} (hg:PG n l gs) (_h:Xx n l gs row) (hc: ∀y t g,row.getD y none=some t->some g∈gs->row.getD (ap g y) none≠none) {q:List Int} :
  q∈gV row gs↔ ∃(y:Nat) (t g t':List Int),row.getD y none=some t/\some g∈gs/\row.getD (ap g y) none=some t'/\q=Aj (Aj t g) (Bv t'):=by
 unfold gV
 rw [Gy]
 constructor
 ·rintro ⟨y,hy,hq⟩
  obtain ⟨o,ho,rfl⟩:=Bf.1 hq
  obtain ⟨yn,rfl,hyn⟩:=Uw.1 hy
  obtain ⟨t,ht⟩:=Od.1 hyn
  obtain ⟨g,rfl,Ya,_⟩:=hg o ho
  obtain ⟨t',qR⟩:=Od.1 (hc yn t g ht ho)
  exact ⟨yn,t,g,t',ht,ho,qR,jN ht qR⟩
 ·rintro ⟨y,t,g,t',h1,h2,h3,rfl⟩
  obtain ⟨g',e,Ya,_⟩:=hg _ h2
  cases e
  exact ⟨(y:Int),Uw.2 ⟨y,rfl,by rw [h1];simp⟩,Bf.2 ⟨some g,h2,jN h1 h3⟩⟩
theorem zd {n:Nat} (h1:1<=n) (h2:n<=20): ∀(k l:Nat) (p:List Int) (s:Gg×Gg),l+k=n->V n k l s->Pm n p->Fx l p->Amu n k l s p (Is k l p s)
 |0,l,p,s,hk,hv,hp,hf=>by
  have hl:l=n:=by omega
  subst hl
  exact ⟨hv,bK.refl _ _,by rw [hf.all hp];exact .id,λo ho=> .inl ho⟩
 |k+1,l,p,s,hk,hv,hp,hf=>by
  have gN:l<n:=by omega
  obtain ⟨v1,v2,hc,YK⟩:=hv
  have kV:=hc
  obtain ⟨c1,c2,c3⟩:=hc
  unfold Is
  by_cases hh:On s.2 (k+1) l p=true
  ·rw [Ab hh]
   exact ⟨⟨v1,v2,kV,YK⟩,bK.refl _ _,(nV h1 h2 (k+1) l s hk kV p hp hf).1 hh,λo ho=> .inl ho⟩
  rw [Ai hh]
  generalize RW:s.1.getD l []++ [some p]=gs
  have dF:some p∈gs:=by rw [<-RW];simp
  have Yr: ∀o∈s.1.getD l [],o∈gs:= λo ho=>by rw [<-RW];exact Bi _ ho
  have hg:PG n l gs:= λo ho=>by
   rw [<-RW] at ho
   rcases Ba.1 ho with ho|ho
   ·exact c2.pg o ho
   ·rw [Ad] at ho;exact ⟨p,ho,hp,hf⟩
  have Aop:Xx n l gs (s.2.getD l []):=⟨c2.rl,c2.r0,λy t e=>⟨(c2.rt y t e).1,(c2.rt y t e).2.1,(c2.rt y t e).2.2.1,(c2.rt y t e).2.2.2.mono λg hg=>Yr _ hg⟩⟩
  obtain ⟨r1,r2,r3⟩:=HQ gN h2 hg Aop
  generalize hR:Zt gs (s.2.getD l [])=R at r1 r2 r3
  have hS:QS n λg=>some g∈gs:=⟨⟨h1,h2⟩,λg fa=>by obtain ⟨g',e,h,_⟩:=hg _ fa;cases e;exact h⟩
  have s11: ∀i,((s.1.set l gs).getD i []=if i=l then gs else s.1.getD i [])/\(s.2.set l R).getD i []=if i=l then R else s.2.getD i []:= λi=>by
   rw [Vt,Vt]
   by_cases e:l=i
   ·subst e;rw [Ab ⟨rfl,by omega⟩,Ab rfl,Ab ⟨rfl,by omega⟩,Ab rfl];exact ⟨rfl,rfl⟩
   ·rw [Ai (λhh=>e hh.1),Ai (Hv e),Ai (λhh=>e hh.1),Ai (Hv e)];exact ⟨rfl,rfl⟩
  have hup: ∀i,l+1<=i->(s.1.set l gs).getD i []=s.1.getD i []/\(s.2.set l R).getD i []=s.2.getD i []:= λi hi=>by
   rw [(s11 i).1,(s11 i).2,Ai (by omega),Ai (by omega)];exact ⟨rfl,rfl⟩
  have ca:V n k (l+1) (s.1.set l gs,s.2.set l R):=⟨by simpa using v1,by simpa using v2,mb k (l+1) hup c1,tu k (l+1) hup YK.1⟩
  have Ajo:bK l s (s.1.set l gs,s.2.set l R):=by
   refine ⟨by simp,by simp,λi hi=>?_,λi o ho=>?_,λi y t e=>?_,λi=>?_⟩
   ·rw [(s11 i).1,(s11 i).2,Ai (by omega),Ai (by omega)];exact ⟨rfl,rfl⟩
   ·rw [(s11 i).1]
    split
    ·rename_i hi;subst hi;exact Yr o ho
    ·exact ho
   ·rw [(s11 i).2]
    split
    ·rename_i hi;subst hi;exact r2 y t e
    ·exact e
   ·rw [(s11 i).2]
    split
    ·rename_i hi;subst hi;rw [r1.rl,c2.rl]
    ·rfl
  have hq: ∀q∈gV R gs,Pm n q/\Fx (l+1) q/\Gn n gs q:= λq hq=>by
   obtain ⟨y,t,g,t',e1,e2,e3,rfl⟩:=(pS hg r1 r3).1 hq
   obtain ⟨t1,t2,t3,t4⟩:=r1.rt _ _ e1
   obtain ⟨u1,u2,u3,u4⟩:=r1.rt _ _ e3
   obtain ⟨g',e,Ya,hgf⟩:=hg _ e2
   cases e
   exact ⟨(t1.comp Ya).comp u1.inv,Fx.div (t1.comp Ya) u1 (Fx.comp t1 Ya t2 hgf (by omega)) u2 gN (by rw [u3,Kr t1 Ya gN,t3]),dW.comp hS (.mul t4 e2) (dW.zS hS u4)⟩
  have fold: ∀(qs:List (List Int)) (s1:Gg×Gg),(∀q∈qs,Pm n q/\Fx (l+1) q)->V n k (l+1) s1->
    V n k (l+1) (qs.foldl (λs q=>Is k (l+1) q s) s1)/\bK (l+1) s1 (qs.foldl (λs q=>Is k (l+1) q s) s1)/\
     (∀q∈qs,Gn n ((qs.foldl (λs q=>Is k (l+1) q s) s1).1.getD (l+1) []) q)/\ ∀o∈(qs.foldl (λs q=>Is k (l+1) q s) s1).1.getD (l+1) [],o∈s1.1.getD (l+1) []\/ ∃q∈qs,o=some q:=by
   intro qs
   induction qs with
   |nil=>exact λs1 _ hv=>⟨hv,bK.refl _ _,(λq hq=>by cases hq),λo ho=>Or.inl ho⟩
   |cons q qs ih=>
    intro s1 hqs hv
    have ha:=zd h1 h2 k (l+1) q s1 (by omega) hv (hqs q (by simp)).1 (hqs q (by simp)).2
    obtain ⟨g1,g2,g3,g4⟩:=ih (Is k (l+1) q s1) (λq' iB=>hqs q' (by simp [iB])) ha.v
    simp only [Rw]
    refine ⟨g1,ha.grow.trans g2 (Aq _),λq' iB=>?_,λo ho=>?_⟩
    ·rcases Bb.1 iB with rfl|iB
     ·exact ha.Apj.mono λg hg=>g2.RP _ _ hg
     ·exact g3 q' iB
    ·rcases g4 o ho with h|⟨q',iB,h⟩
     ·rcases ha.gens o h with h|h
      ·exact .inl h
      ·exact .inr ⟨q,by simp,h⟩
     ·exact .inr ⟨q',by simp [iB],h⟩
  obtain ⟨f1,f2,f3,f4⟩:=fold (gV R gs) (s.1.set l gs,s.2.set l R) (λq h=>⟨(hq q h).1,(hq q h).2.1⟩) ca
  generalize (gV R gs).foldl (λs q=>Is k (l+1) q s) (s.1.set l gs,s.2.set l R)=s' at f1 f2 f3 f4
  obtain ⟨w1,w2,w3,w4⟩:=f1
  have el1:s'.1.getD l []=gs:=by rw [(f2.low l (by omega)).1,(s11 l).1,Ab rfl]
  have el2:s'.2.getD l []=R:=by rw [(f2.low l (by omega)).2,(s11 l).2,Ab rfl]
  have Aa4:=Ajo.trans f2 (by omega)
  have Aus:Lvl n l gs R (λq=>On s'.2 k (l+1) q=true):=⟨hg,r1.rl,r1.r0,r1.rt,r3,λy t g t' e1 e2 e3=>by
   have hm:=(pS hg r1 r3).2 ⟨y,t,g,t',e1,e2,e3,rfl⟩
   exact (nV h1 h2 k (l+1) s' (by omega) w3 _ (hq _ hm).1 (hq _ hm).2.1).2 (f3 _ hm)⟩
  have Ahr:kT n (k+1) l s':=⟨w3,by rw [el1,el2];exact Aus,λg fa=>by
   rw [el1]
   rcases f4 _ fa with h|⟨q,iB,h⟩
   ·rw [(hup (l+1) (Aq _)).1] at h
    exact (c3 g h).mono λg hg=>Yr _ hg
   ·cases h;exact (hq _ iB).2.2⟩
  have Vv:Gn n (s'.1.getD l []) p:=by rw [el1];exact dW.one hS dF
  refine ⟨⟨w1,w2,Ahr,w4,?_⟩,Aa4,Vv,λo ho=>?_⟩
  ·have hold:=YK.2
   obtain ⟨p1,p2⟩:=IF Aa4.Ala Aa4.Acz (k+1) l
   have Jd:mH s.2 (k+1) l≠mH s'.2 (k+1) l:= λe=>by
    have:=jf (k+1) l p (p2 e)
    rw [(nV h1 h2 (k+1) l s' hk Ahr p hp hf).2 Vv] at this
    exact hh this.symm
   rw [el1,<-RW,Aw,Bq]
   omega
  ·rw [el1,<-RW] at ho
   rcases Ba.1 ho with ho|ho
   ·exact .inl ho
   ·rw [Ad] at ho;exact .inr ho
theorem Abz {n l:Nat} {gs:List PO} {R:Row} (gN:l<n) (hg:PG n l gs) (r1:Xx n l gs R) (r3: ∀y t g,R.getD y none=some t->some g∈gs->R.getD (ap g y) none≠none): ∀q∈gV R gs,Pm n q/\Fx (l+1) q:=by
 intro q hq
 obtain ⟨y,t,g,t',e1,e2,e3,rfl⟩:=(pS hg r1 r3).1 hq
 obtain ⟨t1,t2,t3,t4⟩:=r1.rt _ _ e1
 obtain ⟨u1,u2,u3,u4⟩:=r1.rt _ _ e3
 obtain ⟨g',e,Ya,hgf⟩:=hg _ e2
 cases e
 exact ⟨(t1.comp Ya).comp u1.inv,Fx.div (t1.comp Ya) u1 (Fx.comp t1 Ya t2 hgf (by omega)) u2 gN (by rw [u3,Kr t1 Ya gN,t3])⟩
theorem V.lower {n k l:Nat} {s:Gg×Gg} (h:V n (k+1) l s) (gs:List PO) (R:Row):V n k (l+1) (s.1.set l gs,s.2.set l R):=by
 obtain ⟨v1,v2,hc,YK⟩:=h
 have hup: ∀i,l+1<=i->(s.1.set l gs).getD i []=s.1.getD i []/\(s.2.set l R).getD i []=s.2.getD i []:= λi hi=>by
  rw [Vt,Vt,Ai (by omega),Ai (by omega)];exact ⟨rfl,rfl⟩
 exact ⟨by simpa using v1,by simpa using v2,mb k (l+1) hup hc.1,tu k (l+1) hup YK.1⟩
theorem RJ {n k l:Nat} (h1:1<=n) (h2:n<=20) (hk:l+k=n): ∀(qs:List (List Int)) (s1:Gg×Gg),(∀q∈qs,Pm n q/\Fx l q)->V n k l s1->
  V n k l (qs.foldl (λs q=>Is k l q s) s1)/\bK l s1 (qs.foldl (λs q=>Is k l q s) s1)
 | [],s1,_,hv=>⟨hv,bK.refl _ _⟩
 |q::qs,s1,hqs,hv=>by
  have ha:=zd h1 h2 k l q s1 hk hv (hqs q (by simp)).1 (hqs q (by simp)).2
  obtain ⟨g1,g2⟩:=RJ h1 h2 hk qs (Is k l q s1) (λq' iB=>hqs q' (by simp [iB])) ha.v
  exact ⟨g1,ha.grow.trans g2 (Aq _)⟩
theorem Ac3 {n:Nat} {s:Gg×Gg} : ∀(k l:Nat),kT n k l s->mH s.2 k l<=n*k
 |0,_,_=>by simp [mH]
 |k+1,l,hc=>by
  have h1:=Ac3 k (l+1) hc.1
  have h2:ER (s.2.getD l [])<=n:=by
   have:=hc.2.1.rl
   have h3:ER (s.2.getD l [])<=(s.2.getD l []).length:=List.countP_le_length
   omega
  simp only [mH]
  rw [Nat.mul_succ]
  omega
theorem Aet {n k l:Nat} {s:Gg×Gg} (h2:n<=20) (hk:l+(k+1)=n) (h:V n (k+1) l s):(s.1.getD l []).length<=400:=by
 have h3:=h.2.2.2.2
 have h4:=Ac3 (k+1) l h.2.2.1
 have h5:n*(k+1)<=20*20:=Uf h2 (by omega)
 omega
theorem V.lvl {n k l:Nat} {s:Gg×Gg} (h:V n (k+1) l s):Lvl n l (s.1.getD l []) (s.2.getD l []) (λq=>On s.2 k (l+1) q=true):=h.2.2.1.2.1
theorem V.pg {n k l:Nat} {s:Gg×Gg} (h:V n (k+1) l s) {p:List Int} (hp:Pm n p) (hf:Fx l p):PG n l (s.1.getD l []++ [some p]):= λo ho=>by
 rcases Ba.1 ho with ho|ho
 ·exact h.lvl.pg o ho
 ·rw [Ad] at ho;exact ⟨p,ho,hp,hf⟩
theorem V.Aw6 {n k l:Nat} {s:Gg×Gg} (h:V n (k+1) l s) (p:List Int):Xx n l (s.1.getD l []++ [some p]) (s.2.getD l []):=
 ⟨h.lvl.rl,h.lvl.r0,λy t e=>⟨(h.lvl.rt y t e).1,(h.lvl.rt y t e).2.1,(h.lvl.rt y t e).2.2.1,(h.lvl.rt y t e).2.2.2.mono λ_ hg=>Bi _ hg⟩⟩
theorem wP {α:Type} (xs:List (List α)) (i:Nat) (h:i<xs.length):xs.set i (xs.getD i [])=xs:=by
 refine eZ (by simp) λj h1 h2=>?_
 rw [List.getElem_set]
 split
 ·rename_i e;subst e;rw [Ak,Ac h];rfl
 ·rfl
theorem lj {α:Type} (xs:List (List α)) (i:Nat) (h:i<xs.length) (r:List α):(xs.set i r).getD i []=r:=by
 rw [Vt,Ab ⟨rfl,h⟩]
noncomputable abbrev Rn:MSpec:=vV [none] [(false, .Hw tLO)] false [none] [.row tI 2] (λx=>List.length x.1<=20) (λx=>((Ny x.1,()),()))
noncomputable abbrev Yy:Spec:=Gk (.pair tL (.pair tL .unit)) tO false true (λx=>(0<x.1.length/\x.1.length<=20)/\Lu x.2.1.length x.1) (λx=>some (Aj x.1 x.2.1))
noncomputable abbrev gg:Spec:=Gk (.pair tL (.pair tL .unit)) tL false false (λx=>x.1.length<=20/\Lu x.2.1.length x.1) (λx=>Aj x.1 x.2.1)
noncomputable abbrev Ov:Spec:=Gk (.pair tI .unit) tL false true (λx=>0<=x.1/\x.1<=20) (λx=>upto x.1.toNat)
noncomputable abbrev dj:Spec:=Gk (.pair tI .unit) tO false true (λx=>1<=x.1/\x.1<=20) (λx=>some (upto x.1.toNat))
abbrev teG:TypeId:=27
structure sC (N L:Nat) (n:Int) (G T:Gg) (l:Int) (p:List Int):Prop where
 n1:1<=N
 n2:N<=20
 en:n=N
 el:l=L
 le:L<=N
 v:V N (N-L) L (G,T)
 pm:Pm N p
 fx:Fx L p
noncomputable abbrev yH:Spec:=Gk (.pair (.ptr CU) (.pair tI (.pair tL .unit))) .bool false true (λx=> ∃N L,sC N L x.1.1 x.1.2.1 x.1.2.2.1 x.2.1 x.2.2.1) (λx=>On x.1.2.2.1 (x.1.1-x.2.1).toNat x.2.1.toNat x.2.2.1)
noncomputable abbrev Aii:MSpec:= {ptr:=some (165,3),Kn:= [none,none],ins:= [(false, .Hw tI),(false, .Bu tO teG true),(false, .Bu tO teG true),(false, .Hw tI),(false, .Hw tO)],Jy:=false,Ji:= [],outs:= [.Hw tI, .Bu tO teG false, .Bu tO teG false],fn:= λ_=>none,keeps:= [(1,1),(2,2)],Gj:= λx=>x.2.2.2.1.toNat}
noncomputable abbrev Xh (m:Nat):MSpec:=pb Aii (λx=>(∃N L q,x.2.2.2.2.1=some q/\sC N L x.1 x.2.1 x.2.2.1 x.2.2.2.1 q)/\(x.1-x.2.2.2.1).toNat<m)
 (λx=>((x.1,(Is (x.1-x.2.2.2.1).toNat x.2.2.2.1.toNat (x.2.2.2.2.1.getD []) (x.2.1,x.2.2.1)).1,(Is (x.1-x.2.2.2.1).toNat x.2.2.2.1.toNat (x.2.2.2.2.1.getD []) (x.2.1,x.2.2.1)).2,()),()))
theorem JS (n:Int) (P:List Int->Prop):(((0:Int)<=n/\n<(↑Ea:Int)+(1:Int))/\n=n/\0=0/\(List.replicate n.toNat (Int.ofNat (nat_lit 0))).length=(List.replicate n.toNat (Int.ofNat (nat_lit 0))).length/\Dn (λ(v2:Int×List Int×PUnit) (k3:Int×List Int×PUnit->Prop)=>Br (decide (v2.1<(↑(List.replicate n.toNat (Int.ofNat (nat_lit 0))).length:Int))) (((0:Int)<=v2.1/\v2.1<(↑v2.2.1.length:Int))/\0+v2.1.toNat<v2.2.1.length/\0=0/\v2.2.1.length=(v2.2.1.set (0+v2.1.toNat) v2.1).length/\k3 (IntKind.i64.wrap (v2.1+(1:Int)),v2.2.1.set (0+v2.1.toNat) v2.1,())) (P (List.take v2.2.1.length (List.drop 0 v2.2.1)))) ((0:Int),List.replicate n.toNat (Int.ofNat (nat_lit 0)),PUnit.unit))=fnW Fl (look []) Ov Tryz.f133 (n,()) P:=by kernel_rfl
theorem XX (row:List (Option (List Int))) (P:(List Int×Unit)×Unit->Prop):(0=0/\0=([]:List Int).length/\Dn (λ(v2:Int×List Int×PUnit) (k3:Int×List Int×PUnit->Prop)=>Br (decide (v2.1<(↑row.length:Int))) (∃(y4:Option (List Int)),idx row v2.1=some y4/\Br (!y4.isNone) (0=0/\v2.2.1.length=v2.2.1.length/\v2.2.1.length+(List.take 1 (List.drop 0 [v2.1])).length<=Ea/\0=0/\(v2.2.1++List.take 1 (List.drop 0 [v2.1])).length=(v2.2.1++List.take 1 (List.drop 0 [v2.1])).length/\k3 (IntKind.i64.wrap (v2.1+(1:Int)),v2.2.1++List.take 1 (List.drop 0 [v2.1]),())) (0=0/\v2.2.1.length=v2.2.1.length/\k3 (IntKind.i64.wrap (v2.1+(1:Int)),v2.2.1,()))) (P ((List.take v2.2.1.length (List.drop 0 v2.2.1),()),()))) ((0:Int),[],PUnit.unit))=fnMW bm (look []) Rn Tryz.f178 (row,()) P:=by kernel_rfl
theorem Aqv (c:Int×List (List (Option (List Int)))×List (List (Option (List Int)))×Unit) (l:Int) (p:List Int) (P:Bool->Prop):(Dn (λ(v4:List Int×Int×PUnit) (k5:List Int×Int×PUnit->Prop)=>Br (decide (v4.2.1<c.1)) (∃(y6:List (Option (List Int))),idx c.2.2.1 v4.2.1=some y6/\ ∃(y7:Int),idx v4.1 v4.2.1=some y7/\ ∃(y8:Option (List Int)),idx y6 y7=some y8/\Br y8.isNone (P false) (∃(y9:List Int),Io.fn (y8.getD [],())=some y9/\ ∃(Xw:List Int),gg.fn (v4.1,y9,())=some Xw/\k5 (Xw,IntKind.i64.wrap (v4.2.1+(1:Int)),()))) (P true)) (p,l,PUnit.unit))=fnW bm (look [(58,Io),(134,gg)]) yH Tryz.f158 (c,l,p,()) P:=by kernel_rfl
theorem Sound.loose {P:Program} {f:FuncId} {arg res:Ty} {pre:arg.den->Prop} {val:arg.den->res.den} (h:Sound P f (Go.Proofs.YtkkdpknjohcekaaGreat.Gk arg res false true pre val)):Sound P f (Go.Proofs.YtkkdpknjohcekaaGreat.Gk arg res false false pre val):=
 ⟨h.enter,λw S vs x y h1 h2 h3=>Calls.mono (h.calls w S vs x y h1 h2 h3) λe' w' hr=>by
  obtain ⟨v,g1,g2,g3⟩:=hr
  exact ⟨v,g1,g2,Dg.Jv (S:= λb=>S b\/(true=true/\b<w.heap.size)) g3 λk _ hk=>hk.elim .inl λhh=>absurd (show false=true from hh.1) (by simp)⟩⟩
theorem ve:Sound Tryz.prog 134 gg:=Sound.loose Ox
theorem vf:Sound Tryz.prog 134 Yy:=Sound.toO Ox λx h=>⟨⟨h.1.2,h.2⟩,λe=>by
 have:=Sn x.1 x.2.1
 rw [e] at this
 have:=h.1.1
 simp only [Gp] at*
 omega⟩
theorem HT (n:Int) (h:0<=n/\n<=20):fnW Fl (look []) Ov Tryz.f133 (n,()) (λ(z:List Int)=>z=upto n.toNat):=by
 refine Eq.mp (JS n _) ⟨⟨by omega,by show n<(4294967296:Int)+1;omega⟩,rfl,rfl,rfl,?_⟩
 refine Bo n.toNat (λv=>v.1) (λj v=>v.2.1.length=n.toNat/\v.2.1.take j=upto j) rfl ⟨by simp,by simp [upto]⟩ ?_
 rintro j ⟨i,ys,⟨⟩⟩ K hj hi ⟨h1,h2⟩ hK
 dsimp only at hi h1 h2⊢
 subst hi
 rw [Ej]
 simp only [Ae,Bt]
 refine Br.dec (λhl=>⟨⟨by omega,by omega⟩,by omega,trivial,by rw [Co],?_⟩) λhl=>?_
 ·rw [Bj (by omega)]
  refine hK (by omega) _ rfl ⟨by rw [Co];exact h1,?_⟩
  rw [Kq,List.take_set_of_le (by omega),h2,List.getElem?_set_self (by omega),bI]
  rfl
 ·have:j=ys.length:=by omega
  subst this
  rw [Be] at h2
  rw [Dr,Be,h2,h1]
theorem aG:Sound Tryz.prog 133 Ov:=
 Sound.Gk Dl Bl mixed Tryz.func133 (by kernel_rfl) (by kernel_rfl) λx h=>HT x.1 h
theorem Ags {n:Int} (h:1<=n/\n<=20):(0<=n/\n<=20)/\upto n.toNat≠ []:=⟨by omega,λe=>by
 have:=Et List.length e
 simp [upto] at this
 omega⟩
theorem s5:Sound Tryz.prog 133 dj:=Sound.toO aG λ_ h=>Ags h
theorem HP {row:Row} {j:Nat} :(upto (j+1)).filter (λy=>(row.getD y.toNat none).isSome)=(upto j).filter (λy=>(row.getD y.toNat none).isSome)++if (row.getD j none).isSome=true then [(j:Int)] else []:=by
 rw [bI,List.filter_append]
 congr 1
 simp only [List.filter_cons,List.filter_nil,Ae]
theorem VT (row:List (Option (List Int))) (h:List.length row<=20):fnMW bm (look []) Rn Tryz.f178 (row,()) (λ(z:(List Int×Unit)×Unit)=>z=((Ny row,()),())):=by
 refine Eq.mp (XX row _) ⟨rfl,rfl,?_⟩
 refine Bo row.length (λv=>v.1) (λj v=>v.2.1=(upto j).filter (λy=>(row.getD y.toNat none).isSome)) rfl rfl ?_
 rintro j ⟨i,ys,⟨⟩⟩ K hj hi h1 hK
 dsimp only at hi h1⊢
 subst hi
 refine Br.dec (λhl=>?_) λhl=>?_
 ·have hl:j<row.length:=by omega
  have hlen:ys.length<=j:=by rw [h1];refine Je (List.length_filter_le _ _) (by simp [upto])
  have hg:row.getD j none=row[j]:=by rw [Ak,Ac hl];rfl
  refine ⟨_,Bn hl,Br.of (λhb=>⟨rfl,rfl,?_,rfl,rfl,?_⟩) λhb=>⟨rfl,rfl,?_⟩⟩
  ·show ys.length+1<=4294967296
   omega
  ·rw [Bj (by omega)]
   refine hK hl _ rfl ?_
   show ys++ [(j:Int)]=_
   rw [HP,hg,h1,Ab (by cases e:row[j] with
    |none=>rw [e] at hb;simp at hb
    |some t=>rfl)]
  ·rw [Bj (by omega)]
   refine hK hl _ rfl ?_
   show ys=_
   rw [HP,hg,h1,Ai (by cases e:row[j] with
    |none=>simp
    |some t=>rw [e] at hb;simp at hb),iH]
 ·have:j=row.length:=by omega
  subst this
  rw [Dr,Be,h1]
  rfl
theorem lE:Eu Tryz.prog 178 Rn:=
 Eu.vV qv Bl mixed Tryz.func178 (by kernel_rfl) (by kernel_rfl) λx h=>VT x.1 h
theorem nz {n:Nat} {s:Gg×Gg} : ∀(k l:Nat),kT n k l s-> ∀i,l<=i->i<l+k->Lvl n i (s.1.getD i []) (s.2.getD i []) (λq=>On s.2 (l+k-i-1) (i+1) q=true)
 |0,_,_,i,h1,h2=>by omega
 |k+1,l,hc,i,h1,h2=>by
  obtain ⟨c1,c2,_⟩:=hc
  by_cases e:i=l
  ·subst e
   rw [show i+(k+1)-i-1=k by omega]
   exact c2
  ·have:=nz k (l+1) c1 i (by omega) (by omega)
   rwa [show l+1+k-i-1=l+(k+1)-i-1 by omega] at this
theorem FP {α:Type} {xs:List (List α)} {i:Nat} (h:i<xs.length):xs.getD i []=xs[i]:=by
 rw [Ak,Ac h];rfl
theorem ZV {α:Type} {xs:List (Option α)} {i:Nat} (h:i<xs.length):xs.getD i none=xs[i]:=by
 rw [Ak,Ac h];rfl
theorem Pm.row {n:Nat} {p:List Int} (h:Pm n p):Lu n p:=by
 have:=h.2.row
 rwa [h.1] at this
theorem Aq4 (c:Int×List (List (Option (List Int)))×List (List (Option (List Int)))×Unit) (l:Int) (p:List Int) (h: ∃N L,sC N L c.1 c.2.1 c.2.2.1 l p):
  fnW bm (look [(58,Io),(134,gg)]) yH Tryz.f158 (c,l,p,()) (λ(z:Bool)=>z=On c.2.2.1 (c.1-l).toNat l.toNat p):=by
 obtain ⟨n,G,T,⟨⟩⟩:=c
 obtain ⟨N,L,h⟩:=h
 obtain ⟨n1,n2,en,el,hle,v,pm,fx⟩:=h
 dsimp only at en el v⊢
 subst en el
 refine Eq.mp (Aqv ((N:Int),G,T,()) (L:Int) p _) ?_
 obtain ⟨v1,v2,v3,v4⟩:=v
 dsimp only at v1 v2
 refine ⟨λv=> ∃i:Nat,L<=i/\i<=N/\v.2.1=i/\Pm N v.1/\Fx i v.1/\On T (N-i) i v.1=On T (N-L) L p,λv=>N-v.2.1.toNat,⟨L,Aq _,hle,rfl,pm,fx,rfl⟩,?_⟩
 rintro ⟨p',i',⟨⟩⟩ ⟨i,h1,h2,h3,h4,h5,h6⟩
 dsimp only at h3 h4 h5 h6⊢
 subst h3
 rw [show (((N:Int)-(L:Int)).toNat)=N-L by omega,show ((L:Int)).toNat=L by omega,<-h6]
 refine Br.dec (λhl=>?_) λhl=>?_
 ·have hl:i<N:=by omega
  have Yq:=nz (N-L) L v3 i h1 (by omega)
  obtain ⟨a1,a2⟩:=h4.Wl hl
  have hT:i<T.length:=by omega
  have hlen:T[i].length=N:=by have:=Yq.rl;dsimp only at this;rwa [FP hT] at this
  refine ⟨_,Bn hT,_,Bn (by rw [h4.1];exact hl),?_⟩
  have e1:p'[i]'(by rw [h4.1];exact hl)=(ap p' i:Int):=by rw [<-a1,Ks]
  rw [e1]
  refine ⟨_,Bn (by omega),?_⟩
  have e2:N-i=(N-i-1)+1:=by omega
  have e3:(T.getD i []).getD (Dp p' (i:Int)).toNat none=T[i][ap p' i]'(by omega):=by
   rw [FP hT];exact ZV (by show ap p' i<_;omega)
  rw [e2]
  simp only [On,e3]
  refine Br.of (λhb=>?_) λhb=>?_
  ·cases e:T[i][ap p' i]'(by omega) with
   |none=>rfl
   |some t=>rw [e] at hb;simp at hb
  ·cases e:T[i][ap p' i]'(by omega) with
   |none=>rw [e] at hb;simp at hb
   |some t=>
    have ht:(T.getD i []).getD (ap p' i) none=some t:=by rw [<-e];exact e3
    obtain ⟨t1,t2,t3,t4⟩:=Yq.rt _ _ ht
    simp only [Df]
    refine ⟨_,Ab ⟨by show t.length<=20;rw [t1.1];exact n2,t1.2.row⟩,_,Ab ⟨by show p'.length<=20;rw [h4.1];exact n2,by show Lu (Bv t).length p';rw [su,t1.1];exact h4.row⟩,⟨i+1,by omega,by omega,Bj (by omega),h4.comp t1.inv,Fx.div h4 t1 h5 t2 hl t3,?_⟩,?_⟩
    ·rw [show N-(i+1)=N-i-1 by omega]
    ·show N-(IntKind.i64.wrap ((i:Int)+1)).toNat<N-((i:Int)).toNat
     rw [Bj (by omega)]
     omega
 ·rw [show N-i=0 by omega]
  rfl
theorem WR:Sound Tryz.prog 158 yH:=
 Sound.Gk qv (Au Xl (Au ve Bl)) mixed Tryz.func158 (by kernel_rfl) (by kernel_rfl) λx h=>Aq4 x.1 x.2.1 x.2.2.1 h
abbrev CQ:Type:=Nat×Nat×Int×List (List (Option (List Int)))×Nat×List (List (Option (List Int)))×Nat×List Int×Int×PUnit
abbrev Acm:Type:=Nat×Int×List (List (Option (List Int)))×Nat×List (List (Option (List Int)))×Nat×List Int×Int×PUnit
abbrev Acp:Type:=Nat×List (List (Option (List Int)))×Nat×List (List (Option (List Int)))×Nat×List Int×Int×PUnit
abbrev Mj (G:List (List (Option (List Int)))) (l:Int) (p:Option (List Int)) (T:List (List (Option (List Int)))) (y7:Bool) (n:Int):Prop:=0=0/\(G.getD (0+l.toNat) []).length=(G.getD (0+l.toNat) []).length/\(G.getD (0+l.toNat) []).length+(List.take 1 (List.drop 0 [p])).length<=Ea/\((0:Int)<=l/\l<(↑G.length:Int))/\0=0/\(G.getD (0+l.toNat) []++List.take 1 (List.drop 0 [p])).length=(G.getD (0+l.toNat) []++List.take 1 (List.drop 0 [p])).length/\0+l.toNat=0+l.toNat/\ [(0,G.length),(0,G.length),(0,G.length),(0,T.length)]= [(0,G.length),(0,G.length),(0,G.length),(0,T.length)]/\(l,p,l,p,y7,l,l,0+l.toNat,p,List.take 1 (List.drop 0 [p]),0+l.toNat,G.set (0+l.toNat) (G.getD (0+l.toNat) []++List.take 1 (List.drop 0 [p])),min G.length (0+l.toNat),T,T.length,n,())=(l,p,l,p,y7,l,l,0+l.toNat,p,List.take 1 (List.drop 0 [p]),0+l.toNat,G.set (0+l.toNat) (G.getD (0+l.toNat) []++List.take 1 (List.drop 0 [p])),min G.length (0+l.toNat),T,T.length,n,PUnit.unit)
theorem Aqn {m:Nat} (n:Int) (G T:List (List (Option (List Int)))) (l:Int) (p:Option (List Int)) (P:(Int×List (List (Option (List Int)))×List (List (Option (List Int)))×Unit)×Unit->Prop):(∃(y7:Bool),yH.fn ((n,List.take G.length (List.drop 0 G),List.take T.length (List.drop 0 T),()),l,p.getD [],())=some y7/\Br y7 ((0=0/\G.length=G.length)/\(0=0/\T.length=T.length)/\(Xh (m+1)).Gj (n,G,T,l,p,())<=G.length/\(Xh (m+1)).Gj (n,G,T,l,p,())<=T.length/\P ((n,G,T,()),())) (((0:Int)<=l/\l<(↑G.length:Int))/\0=0/\(G.getD (0+l.toNat) []).length=(G.getD (0+l.toNat) []).length/\(G.getD (0+l.toNat) []).length+(List.take 1 (List.drop 0 [p])).length<=Ea/\((0:Int)<=l/\l<(↑G.length:Int))/\0=0/\(G.getD (0+l.toNat) []++List.take 1 (List.drop 0 [p])).length=(G.getD (0+l.toNat) []++List.take 1 (List.drop 0 [p])).length/\0+l.toNat=0+l.toNat/\(((0:Int)<=l/\l<(↑T.length:Int))/\ ∃(y8:(List Int×PUnit)×PUnit),Rn.fn (T.getD (0+l.toNat) [],())=some y8/\0=0/\(List.take y8.1.1.length (List.drop 0 y8.1.1)).length=(List.take y8.1.1.length (List.drop 0 y8.1.1)).length/\0=0/\G.length=(G.set (0+l.toNat) (G.getD (0+l.toNat) []++List.take 1 (List.drop 0 [p]))).length/\0=0/\T.length=T.length/\Dn (λ(v9:Acp) (k10:Acp->Prop)=>Br (decide ((↑v9.2.2.2.2.2.1.length:Int)>(0:Int))) (((0:Int)<=l/\l<(↑v9.2.1.length:Int))/\0=0/\(List.take v9.2.2.2.2.2.1.length (List.drop 0 v9.2.2.2.2.2.1)).length=(List.take v9.2.2.2.2.2.1.length (List.drop 0 v9.2.2.2.2.2.1)).length/\0=0/\v9.2.1.length=v9.2.1.length/\0=0/\v9.2.2.2.1.length=v9.2.2.2.1.length/\Dn (λ(v11:CQ) (k12:CQ->Prop)=>Br (decide (v11.2.2.1<(↑(v9.2.1.getD (0+l.toNat) []).length:Int))) (((0:Int)<=v11.2.2.1/\v11.2.2.1<(↑(v11.2.2.2.1.getD v11.2.1 []).length:Int))/\((0:Int)<=(0:Int)/\(0:Int)<(↑v11.2.2.2.2.2.2.2.1.length:Int))/\ ∃(il:Int),v11.2.2.2.2.2.2.2.1[0+Int.toNat (0:Int)]?=some il/\ ∃(cJ:Int),idx (((v11.2.2.2.1.getD v11.2.1 []).getD v11.2.2.1.toNat (none:Option (List Int))).getD []) il=some cJ/\((0:Int)<=cJ/\cJ<(↑(v11.2.2.2.2.2.1.getD v11.1 []).length:Int))/\Br ((v11.2.2.2.2.2.1.getD v11.1 []).getD cJ.toNat (none:Option (List Int))).isNone (((0:Int)<=(0:Int)/\(0:Int)<(↑v11.2.2.2.2.2.2.2.1.length:Int))/\ ∃(lS:Int),v11.2.2.2.2.2.2.2.1[0+Int.toNat (0:Int)]?=some lS/\((0:Int)<=lS/\lS<(↑(v11.2.2.2.2.2.1.getD v11.1 []).length:Int))/\ ∃(gA:Option (List Int)),Yy.fn (((v11.2.2.2.2.2.1.getD v11.1 []).getD lS.toNat (none:Option (List Int))).getD [],((v11.2.2.2.1.getD v11.2.1 []).getD v11.2.2.1.toNat (none:Option (List Int))).getD [],())=some gA/\((0:Int)<=cJ/\cJ<(↑(v11.2.2.2.2.2.1.getD v11.1 []).length:Int))/\0=0/\v11.2.2.2.2.2.2.2.1.length=v11.2.2.2.2.2.2.2.1.length/\v11.2.2.2.2.2.2.2.1.length+(List.take 1 (List.drop 0 [cJ])).length<=Ea/\0=0/\(List.take (v11.2.2.2.2.2.2.2.1++List.take 1 (List.drop 0 [cJ])).length (List.drop 0 (v11.2.2.2.2.2.2.2.1++List.take 1 (List.drop 0 [cJ])))).length=(List.take (v11.2.2.2.2.2.2.2.1++List.take 1 (List.drop 0 [cJ])).length (List.drop 0 (v11.2.2.2.2.2.2.2.1++List.take 1 (List.drop 0 [cJ])))).length/\0=0/\v11.2.2.2.1.length=v11.2.2.2.1.length/\0=0/\v11.2.2.2.2.2.1.length=(v11.2.2.2.2.2.1.set v11.1 ((v11.2.2.2.2.2.1.getD v11.1 []).set cJ.toNat gA)).length/\k12 (v11.1,v11.2.1,IntKind.i64.wrap (v11.2.2.1+(1:Int)),v11.2.2.2.1,v11.2.2.2.2.1,v11.2.2.2.2.2.1.set v11.1 ((v11.2.2.2.2.2.1.getD v11.1 []).set cJ.toNat gA),v11.2.2.2.2.2.2.1,List.take (v11.2.2.2.2.2.2.2.1++List.take 1 (List.drop 0 [cJ])).length (List.drop 0 (v11.2.2.2.2.2.2.2.1++List.take 1 (List.drop 0 [cJ]))),v11.2.2.2.2.2.2.2.2.1,())) (0=0/\(List.take v11.2.2.2.2.2.2.2.1.length (List.drop 0 v11.2.2.2.2.2.2.2.1)).length=(List.take v11.2.2.2.2.2.2.2.1.length (List.drop 0 v11.2.2.2.2.2.2.2.1)).length/\0=0/\v11.2.2.2.1.length=v11.2.2.2.1.length/\0=0/\v11.2.2.2.2.2.1.length=v11.2.2.2.2.2.1.length/\k12 (v11.1,v11.2.1,IntKind.i64.wrap (v11.2.2.1+(1:Int)),v11.2.2.2.1,v11.2.2.2.2.1,v11.2.2.2.2.2.1,v11.2.2.2.2.2.2.1,List.take v11.2.2.2.2.2.2.2.1.length (List.drop 0 v11.2.2.2.2.2.2.2.1),v11.2.2.2.2.2.2.2.2.1,()))) (((0:Int)<=(1:Int)/\(1:Int)<=(↑v11.2.2.2.2.2.2.2.1.length:Int)/\(↑v11.2.2.2.2.2.2.2.1.length:Int)<=(↑v11.2.2.2.2.2.2.2.1.length:Int))/\0=0/\(List.take ((↑v11.2.2.2.2.2.2.2.1.length:Int).toNat-Int.toNat (1:Int)) (List.drop (0+Int.toNat (1:Int)) v11.2.2.2.2.2.2.2.1)).length=(List.take ((↑v11.2.2.2.2.2.2.2.1.length:Int).toNat-Int.toNat (1:Int)) (List.drop (0+Int.toNat (1:Int)) v11.2.2.2.2.2.2.2.1)).length/\0=0/\v11.2.2.2.1.length=v11.2.2.2.1.length/\0=0/\v11.2.2.2.2.2.1.length=v11.2.2.2.2.2.1.length/\k10 (v11.1,v11.2.2.2.1,v11.2.2.2.2.1,v11.2.2.2.2.2.1,v11.2.2.2.2.2.2.1,List.take ((↑v11.2.2.2.2.2.2.2.1.length:Int).toNat-Int.toNat (1:Int)) (List.drop (0+Int.toNat (1:Int)) v11.2.2.2.2.2.2.2.1),v11.2.2.2.2.2.2.2.2.1,()))) (v9.1,0+l.toNat,(0:Int),v9.2.1,v9.2.2.1,v9.2.2.2.1,v9.2.2.2.2.1,List.take v9.2.2.2.2.2.1.length (List.drop 0 v9.2.2.2.2.2.1),v9.2.2.2.2.2.2.1,PUnit.unit)) (∃(Sj:(List Int×PUnit)×PUnit),Rn.fn (v9.2.2.2.1.getD v9.1 [],())=some Sj/\0=0/\Sj.1.1.length=Sj.1.1.length/\0=0/\v9.2.1.length=v9.2.1.length/\0=0/\v9.2.2.2.1.length=v9.2.2.2.1.length/\Dn (λ(mW:Acm) (k13:Acm->Prop)=>Br (decide (mW.2.1<(↑Sj.1.1.length:Int))) (((0:Int)<=mW.2.1/\mW.2.1<(↑mW.2.2.2.2.2.2.1.length:Int))/\ ∃(cJ:Int),mW.2.2.2.2.2.2.1[0+mW.2.1.toNat]?=some cJ/\((0:Int)<=l/\l<(↑mW.2.2.1.length:Int))/\0=0/\mW.2.2.2.2.2.2.1.length=mW.2.2.2.2.2.2.1.length/\0=0/\mW.2.2.1.length=mW.2.2.1.length/\0=0/\mW.2.2.2.2.1.length=mW.2.2.2.2.1.length/\Dn (λ(Sf:CQ) (k16:CQ->Prop)=>Br (decide (Sf.2.2.1<(↑(mW.2.2.1.getD (0+l.toNat) []).length:Int))) (((0:Int)<=Sf.2.2.1/\Sf.2.2.1<(↑(Sf.2.2.2.1.getD Sf.2.1 []).length:Int))/\((0:Int)<=cJ/\cJ<(↑(Sf.2.2.2.2.2.1.getD Sf.1 []).length:Int))/\ ∃(DU:Option (List Int)),Yy.fn (((Sf.2.2.2.2.2.1.getD Sf.1 []).getD cJ.toNat (none:Option (List Int))).getD [],((Sf.2.2.2.1.getD Sf.2.1 []).getD Sf.2.2.1.toNat (none:Option (List Int))).getD [],())=some DU/\ ∃(z7:Int),idx (((Sf.2.2.2.1.getD Sf.2.1 []).getD Sf.2.2.1.toNat (none:Option (List Int))).getD []) cJ=some z7/\((0:Int)<=z7/\z7<(↑(Sf.2.2.2.2.2.1.getD Sf.1 []).length:Int))/\ ∃(y19:List Int),Io.fn (((Sf.2.2.2.2.2.1.getD Sf.1 []).getD z7.toNat (none:Option (List Int))).getD [],())=some y19/\ ∃(y20:Option (List Int)),Yy.fn (DU.getD [],y19,())=some y20/\0=0/\Sf.2.2.2.1.length=Sf.2.2.2.1.length/\0=0/\Sf.2.2.2.2.2.1.length=Sf.2.2.2.2.2.1.length/\ ∃(QO:(Int×List (List (Option (List Int)))×List (List (Option (List Int)))×PUnit)×PUnit),(Xh m).fn (Sf.2.2.2.2.2.2.2.2.1,Sf.2.2.2.1,Sf.2.2.2.2.2.1,IntKind.i64.wrap (l+(1:Int)),y20,())=some QO/\(Sf.1<(Xh m).Gj (Sf.2.2.2.2.2.2.2.2.1,Sf.2.2.2.1,Sf.2.2.2.2.2.1,IntKind.i64.wrap (l+(1:Int)),y20,())/\Sf.1<(List.length QO.1.2.2.1))/\(Sf.2.1<(Xh m).Gj (Sf.2.2.2.2.2.2.2.2.1,Sf.2.2.2.1,Sf.2.2.2.2.2.1,IntKind.i64.wrap (l+(1:Int)),y20,())/\Sf.2.1<(List.length QO.1.2.1))/\(Sf.1<(Xh m).Gj (Sf.2.2.2.2.2.2.2.2.1,Sf.2.2.2.1,Sf.2.2.2.2.2.1,IntKind.i64.wrap (l+(1:Int)),y20,())/\Sf.1<(List.length QO.1.2.2.1))/\(Sf.1<(Xh m).Gj (Sf.2.2.2.2.2.2.2.2.1,Sf.2.2.2.1,Sf.2.2.2.2.2.1,IntKind.i64.wrap (l+(1:Int)),y20,())/\Sf.1<(List.length QO.1.2.2.1))/\0=0/\Sf.2.2.2.2.2.2.2.1.length=Sf.2.2.2.2.2.2.2.1.length/\0=0/\QO.1.2.1.length=QO.1.2.1.length/\0=0/\QO.1.2.2.1.length=QO.1.2.2.1.length/\k16 (Sf.1,Sf.2.1,IntKind.i64.wrap (Sf.2.2.1+(1:Int)),QO.1.2.1,min Sf.2.2.2.2.1 ((Xh m).Gj (Sf.2.2.2.2.2.2.2.2.1,Sf.2.2.2.1,Sf.2.2.2.2.2.1,IntKind.i64.wrap (l+(1:Int)),y20,())),QO.1.2.2.1,min Sf.2.2.2.2.2.2.1 ((Xh m).Gj (Sf.2.2.2.2.2.2.2.2.1,Sf.2.2.2.1,Sf.2.2.2.2.2.1,IntKind.i64.wrap (l+(1:Int)),y20,())),Sf.2.2.2.2.2.2.2.1,QO.1.1,())) (0=0/\Sf.2.2.2.2.2.2.2.1.length=Sf.2.2.2.2.2.2.2.1.length/\0=0/\Sf.2.2.2.1.length=Sf.2.2.2.1.length/\0=0/\Sf.2.2.2.2.2.1.length=Sf.2.2.2.2.2.1.length/\k13 (Sf.1,IntKind.i64.wrap (mW.2.1+(1:Int)),Sf.2.2.2.1,Sf.2.2.2.2.1,Sf.2.2.2.2.2.1,Sf.2.2.2.2.2.2.1,Sf.2.2.2.2.2.2.2.1,Sf.2.2.2.2.2.2.2.2.1,()))) (mW.1,0+l.toNat,(0:Int),mW.2.2.1,mW.2.2.2.1,mW.2.2.2.2.1,mW.2.2.2.2.2.1,mW.2.2.2.2.2.2.1,mW.2.2.2.2.2.2.2.1,PUnit.unit)) ((0=0/\mW.2.2.1.length=mW.2.2.1.length)/\(0=0/\mW.2.2.2.2.1.length=mW.2.2.2.2.1.length)/\(Xh (m+1)).Gj (n,G,T,l,p,())<=mW.2.2.2.1/\(Xh (m+1)).Gj (n,G,T,l,p,())<=mW.2.2.2.2.2.1/\P ((mW.2.2.2.2.2.2.2.1,mW.2.2.1,mW.2.2.2.2.1,()),()))) (v9.1,(0:Int),v9.2.1,v9.2.2.1,v9.2.2.2.1,v9.2.2.2.2.1,Sj.1.1,v9.2.2.2.2.2.2.1,PUnit.unit))) (0+l.toNat,G.set (0+l.toNat) (G.getD (0+l.toNat) []++List.take 1 (List.drop 0 [p])),min G.length (0+l.toNat),T,T.length,List.take y8.1.1.length (List.drop 0 y8.1.1),n,PUnit.unit))/\(((((0:Int)<=l/\l<(↑G.length:Int))/\((Mj G l p T y7 n))/\(Mj G l p T y7 n))/\((0:Int)<=l/\l<(↑G.length:Int))/\(Mj G l p T y7 n))/\((0:Int)<=l/\l<(↑G.length:Int))/\(Mj G l p T y7 n))/\(((((0:Int)<=l/\l<(↑G.length:Int))/\((Mj G l p T y7 n))/\(Mj G l p T y7 n))/\((0:Int)<=l/\l<(↑G.length:Int))/\(Mj G l p T y7 n))/\(((0:Int)<=l/\l<(↑G.length:Int))/\(((Mj G l p T y7 n))/\(Mj G l p T y7 n))/\(((Mj G l p T y7 n))/\((Mj G l p T y7 n))/\(Mj G l p T y7 n))/\((Mj G l p T y7 n))/\((Mj G l p T y7 n))/\(Mj G l p T y7 n))/\(((0:Int)<=l/\l<(↑G.length:Int))/\(Mj G l p T y7 n))/\((0:Int)<=l/\l<(↑G.length:Int))/\((Mj G l p T y7 n))/\((Mj G l p T y7 n))/\(Mj G l p T y7 n))/\(((0:Int)<=l/\l<(↑G.length:Int))/\(Mj G l p T y7 n))/\(((0:Int)<=l/\l<(↑G.length:Int))/\(Mj G l p T y7 n))/\((0:Int)<=l/\l<(↑G.length:Int))/\((Mj G l p T y7 n))/\((Mj G l p T y7 n))/\(Mj G l p T y7 n)))=fnMW (Acs [Np+7]) (look [(158,yH),(178,Rn),(134,Yy),(58,Io),(176,ng.m (Xh m))]) (Xh (m+1)) Tryz.f176 (n,G,T,l,p,()) P:=by kernel_rfl
theorem EA {k l:Nat} {p:List Int} {s:Gg×Gg} (h:On s.2 k l p=true):Is k l p s=s:=by
 cases k with
 |zero=>rfl
 |succ k=>unfold Is;rw [Ab h]
theorem DZ (k l:Nat) (p:List Int) (s:Gg×Gg):Is (k+1) l p s=if On s.2 (k+1) l p=true then s else
   (gV (Zt (s.1.getD l []++ [some p]) (s.2.getD l [])) (s.1.getD l []++ [some p])).foldl (λs q=>Is k (l+1) q s)
    (s.1.set l (s.1.getD l []++ [some p]),s.2.set l (Zt (s.1.getD l []++ [some p]) (s.2.getD l []))):=rfl
theorem Aap {n:Nat} {p:List Int} (h:Pm n p) {i:Nat} (hi:i<n):idx p (i:Int)=some (ap p i:Int):=by
 have gM:i<p.length:=by rw [h.1];exact hi
 rw [Bn gM,<-(h.Wl hi).1,Ks gM]
theorem KX {x:Int} {gs:List PO} {j:Nat} (hj:j<gs.length) (s:Row×List Int):aL x (gs.take (j+1)) s=aU x (aL x (gs.take j) s) gs[j]:=by
 unfold aL
 rw [Kq,Ac hj,Qb,List.foldl_append]
 rfl
theorem KY {gs:List PO} {f:Nat} {row:Row} :az gs f [] row=row:=by cases f<;>rfl
theorem mc {n:Nat} {p:List Int} (h:Pm n p):0<p.length/\p.length<=20:=⟨by rw [h.1];exact h.n1,by rw [h.1];exact h.n2⟩
theorem OL {n:Nat} {p q:List Int} (h:Pm n p) (k:Pm n q):Lu q.length p:=by rw [k.1];exact h.row
theorem Apw {m:Nat} (n:Int) (G T:List (List (Option (List Int)))) (l:Int) (p:Option (List Int)) (h:(∃N L q,p=some q/\sC N L n G T l q)/\(n-l).toNat<m+1):
  fnMW (Acs [Np+7]) (look [(158,yH),(178,Rn),(134,Yy),(58,Io),(176,ng.m (Xh m))]) (Xh (m+1)) Tryz.f176 (n,G,T,l,p,()) (λ(z:(Int×List (List (Option (List Int)))×List (List (Option (List Int)))×Unit)×Unit)=>z=((n,(Is (n-l).toNat l.toNat (p.getD []) (G,T)).1,(Is (n-l).toNat l.toNat (p.getD []) (G,T)).2,()),())):=by
 obtain ⟨⟨N,L,q,rfl,h⟩,hm⟩:=h
 have h':=h
 obtain ⟨n1,n2,en,el,hle,v,pm,fx⟩:=h
 subst en el
 have hk:((N:Int)-(L:Int)).toNat=N-L:=by omega
 rw [hk,Ae]
 refine Eq.mp (Aqn (N:Int) G T (L:Int) (some q) _) ⟨_,Ab ⟨N,L,?a⟩,?b⟩
 case a=>
  simp only [Dr,Be,Df]
  exact h'
 obtain ⟨v1,v2,v3,v4⟩:=v
 dsimp only at v1 v2
 have hw:IntKind.i64.wrap ((L:Int)+1)=((L+1:Nat):Int):=Bj (by omega)
 simp only [Mj]
 simp only [Dr,Be,Df,hk,Ae,Bt,eq_self,true_and,bq,List.take_succ_cons,List.take_zero,Ay,Gp,Co,hw]
 refine Br.of (λhh=>⟨by show Int.toNat (L:Int)<=G.length;omega,by show Int.toNat (L:Int)<=T.length;omega,?_⟩) λhh=>?_
 ·rw [EA (s:=(G,T)) hh]
 obtain ⟨k,hNk⟩: ∃k,N-L=k+1:=by
  cases e:N-L with
  |zero=>rw [e] at hh;simp [On] at hh
  |succ k=>exact ⟨k,rfl⟩
 have hLN:L<N:=by omega
 have hv:V N (k+1) L (G,T):=by rw [<-hNk];exact ⟨v1,v2,v3,v4⟩
 rw [hNk] at hh⊢
 have e1:(0:Int)<=(L:Int)/\(L:Int)<(G.length:Int):=by omega
 have e1':(0:Int)<=(L:Int)/\(L:Int)<(T.length:Int):=by omega
 have hgl:(G.getD L []).length<=400:=Aet n2 (by omega) hv
 have e2:(G.getD L []).length+1<=Ea:=by show _<=4294967296;omega
 simp only [e1,e1',e2,and_self,true_and,bq]
 generalize RW:G.getD L []++ [some q]=gs
 have Ba1:gs.length<=401:=by rw [<-RW,Aw,Bq];omega
 have hg:PG N L gs:=by rw [<-RW];exact hv.pg pm fx
 have YO:Xx N L gs (T.getD L []):=by rw [<-RW];exact hv.Aw6 q
 obtain ⟨r1,r2,r3⟩:=HQ hLN n2 hg YO
 generalize hR:Zt gs (T.getD L [])=R at r1 r2 r3
 have wk:Is (k+1) L q (G,T)=(gV R gs).foldl (λs q=>Is k (L+1) q s) (G.set L gs,T.set L R):=by
  rw [DZ,Ai (by rw [hh];simp)]
  dsimp only
  rw [RW,hR]
 rw [wk]
 have hTl:L<T.length:=by omega
 have hGl:L<G.length:=by omega
 have hG1:(G.set L gs).getD L []=gs:=lj G L hGl gs
 have hT1: ∀row:Row,(T.set L row).getD L []=row:=lj T L hTl
 refine ⟨_,Ab (by show (T.getD L []).length<=20;rw [YO.rl];exact n2),?_⟩
 dsimp only
 have hn0:(Ny (T.getD L [])).length+Sw (T.getD L [])<=40:=by have:=AR (T.getD L []);have:=HK (T.getD L []);have:=YO.rl;omega
 have hq0:TL gs (Ny (T.getD L [])) (T.getD L []):=⟨λy hy=>Uw.1 hy,λy hy=> .inl (Uw.2 ⟨y,rfl,hy⟩)⟩
 refine ⟨λv=> ∃(row:Row) (qu:List Int) (kg kt:Nat),v=(L,G.set L gs,kg,T.set L row,kt,qu,(N:Int),())/\L<=kg/\L<=kt/\qu.length+Sw row<=40/\Xx N L gs row/\TL gs qu row/\az gs (qu.length+Sw row) qu row=R,
  fun v=>v.2.2.2.2.2.1.length+Sw (v.2.2.2.1.getD v.1 []),⟨T.getD L [],Ny (T.getD L []),min G.length L,T.length,?_,by omega,by omega,hn0,YO,hq0,?_⟩,?_⟩
 ·rw [wP T L hTl]
 ·rw [<-EM hLN hg 100 _ _ (by omega) YO hq0];exact hR
 rintro v ⟨row,qu,kg,kt,rfl,hkg,hkt,hb,hro,hqi,ZY⟩
 dsimp only
 simp only [hG1,hT1,Co]
 refine Br.dec (λhl=>⟨e1.2,?_⟩) λhl=>?_
 ·cases qu with
  |nil=>simp at hl
  |cons x qu=>
  obtain ⟨p1,p2,xn,t,rfl,ht⟩:=OC hLN hg hro hqi
  have SH:xn<N:=by rw [<-hro.rl];exact sl ht
  refine Bo gs.length (λv=>v.2.2.1) (λj v=> ∃kg kt:Nat,v=(L,L,(j:Int),G.set L gs,kg,T.set L (aL (xn:Int) (gs.take j) (row,qu)).1,kt,(xn:Int)::(aL (xn:Int) (gs.take j) (row,qu)).2,(N:Int),())/\L<=kg/\L<=kt) rfl ⟨kg,kt,rfl,hkg,hkt⟩ ?_
  rintro j v K hj hi ⟨kg,kt,rfl,h1,h2⟩ hK
  dsimp only
  simp only [hG1,hT1,Ae]
  refine Br.dec (λhl=>?_) λhl=>?_
  ·have hl:j<gs.length:=by omega
   obtain ⟨x1,x2⟩:=Ac5 hLN hg (gs.take j) (q:=qu) (λo ho=>De ho) hro ht
   have Qj:=KX (x:=(xn:Int)) hl (row,qu)
   generalize aL (xn:Int) (gs.take j) (row,qu)=s at x1 x2 Qj⊢
   obtain ⟨r,qq⟩:=s
   dsimp only at x1 x2⊢
   obtain ⟨g,wc,Ya,hgf⟩:=hg gs[j] (Am hl)
   have htx:r.getD xn none=some t:=x1.mono _ _ ht
   obtain ⟨t1,t2,t3,t4⟩:=x1.ok.rt _ _ htx
   have hrl:r.length=N:=x1.ok.rl
   have hgj:gs.getD j none=some g:=by rw [ZV hl];exact wc
   have hy:=Ya.lt SH
   have hga:=(Ya.Wl SH).1
   have Afe:qq.length+Sw r=qu.length+Sw row:=x1.phi
   simp only [Ay] at hb
   simp only [hgj,Df]
   refine ⟨⟨by omega,by omega⟩,⟨by omega,by simp only [Ay];omega⟩,_,rfl,_,Aap Ya SH,⟨by omega,by omega⟩,?_⟩
   rw [wc] at Qj
   unfold aU at Qj
   dsimp only at Qj
   rw [Df,hga,Ae,Ae,htx,Df] at Qj
   rw [Ae]
   refine Br.of (λhn=>?_) λhn=>?_
   ·have hn:r.getD (ap g xn) none=none:=by
     cases e:r.getD (ap g xn) none with
     |none=>rfl
     |some u=>rw [e] at hn;simp at hn
    rw [hn] at Qj
    refine ⟨⟨by omega,by simp only [Ay];omega⟩,_,rfl,⟨by omega,by omega⟩,some (Aj t g),?_,⟨by omega,by omega⟩,?_,?_⟩
    ·rw [Ae,htx,Df]
     exact Ab ⟨mc t1,OL t1 Ya⟩
    ·show qq.length+1+1<=4294967296
     omega
    ·rw [Bj (by omega)]
     refine hK hl _ rfl ⟨kg,kt,?_,h1,h2⟩
     rw [Qj,List.set_set]
     rfl
   ·have hn: ∃u,r.getD (ap g xn) none=some u:=by
     cases e:r.getD (ap g xn) none with
     |none=>rw [e] at hn;simp at hn
     |some u=>exact ⟨u,rfl⟩
    obtain ⟨u,hn⟩:=hn
    rw [hn] at Qj
    rw [Bj (by omega)]
    refine hK hl _ rfl ⟨kg,kt,?_,h1,h2⟩
    rw [Qj]
  ·have:j=gs.length:=by omega
   subst this
   rw [Be]
   generalize hs:aL (xn:Int) gs (row,qu)=s at p1 p2⊢
   obtain ⟨r,qq⟩:=s
   dsimp only at p1 p2⊢
   have Afe:qq.length+Sw r=qu.length+Sw row:=p1.phi
   simp only [Ay] at hb ZY
   refine ⟨⟨by omega,by simp only [Ay];omega,Kl _⟩,⟨r,qq,kg,kt,?_,h1,h2,by omega,p1.ok,p2,?_⟩,?_⟩
   ·simp
   ·rw [show qu.length+1+Sw row=(qu.length+Sw row)+1 by omega] at ZY
    simp only [az,hs] at ZY
    rw [Afe]
    exact ZY
   ·simp only [Ay]
    have:(List.take (qq.length+1-Int.toNat 1) (List.drop (Int.toNat 1) ((xn:Int)::qq))).length=qq.length:=by simp
    rw [this]
    omega
 ·have:qu= []:=Cm (by omega)
  subst this
  rw [KY] at ZY
  subst ZY
  have hpr:=Abz hLN hg hro r3
  have hvl:=hv.lower gs row
  have Ahv: ∀qs:List (List Int),(∀q∈qs,q∈gV row gs)->V N k (L+1) (qs.foldl (λs q=>Is k (L+1) q s) (G.set L gs,T.set L row))/\bK (L+1) (G.set L gs,T.set L row) (qs.foldl (λs q=>Is k (L+1) q s) (G.set L gs,T.set L row)):=
   fun qs hqs=>RJ n1 n2 (by omega) qs _ (λq hq=>hpr q (hqs q hq)) hvl
  refine ⟨_,Ab (by show row.length<=20;rw [hro.rl];exact n2),?_⟩
  dsimp only
  have hol:=AR row
  have hrl:=hro.rl
  refine Bo (Ny row).length (λv=>v.2.1) (λi v=> ∃(s:Gg×Gg) (kg kt:Nat),v=(L,(i:Int),s.1,kg,s.2,kt,Ny row,(N:Int),())/\L<=kg/\L<=kt/\s=(((Ny row).take i).flatMap λy=>gs.map (Up row y)).foldl (λs q=>Is k (L+1) q s) (G.set L gs,T.set L row)) rfl ⟨_,kg,kt,rfl,hkg,hkt,rfl⟩ ?_
  rintro i v K hi gM ⟨s,kg,kt,rfl,h1,h2,hs⟩ hK
  dsimp only
  have Yr: ∀q∈((Ny row).take i).flatMap (λy=>gs.map (Up row y)),q∈gV row gs:= λq hq=>by
   obtain ⟨y,hy,hq⟩:=Gy.1 hq
   exact Gy.2 ⟨y,De hy,hq⟩
  refine Br.dec (λhl=>?_) λhl=>?_
  ·have hl:i<(Ny row).length:=by omega
   obtain ⟨f1,f2⟩:=Ahv _ Yr
   rw [<-hs] at f1 f2
   have g1:s.1.getD L []=gs:=by rw [(f2.low L (by omega)).1];exact hG1
   have g2:s.1.length=N:=f1.1
   obtain ⟨yn,hyn,hyr⟩:=Uw.1 (Am hl)
   obtain ⟨t,ht⟩:=Od.1 hyr
   have hyN:yn<N:=by rw [<-hrl];exact sl ht
   obtain ⟨t1,t2,t3,t4⟩:=hro.rt _ _ ht
   refine ⟨⟨by omega,by omega⟩,(yn:Int),by rw [Ae,Ac hl,hyn],by omega,?_⟩
   rw [g1]
   refine Bo gs.length (λv=>v.2.2.1) (λj v=> ∃(s':Gg×Gg) (kg kt:Nat),v=(L,L,(j:Int),s'.1,kg,s'.2,kt,Ny row,(N:Int),())/\L<=kg/\L<=kt/\s'=(((Ny row).take i).flatMap (λy=>gs.map (Up row y))++(gs.take j).map (Up row (yn:Int))).foldl (λs q=>Is k (L+1) q s) (G.set L gs,T.set L row)) rfl ⟨s,kg,kt,rfl,h1,h2,by simpa using hs⟩ ?_
   rintro j v K' hj hj' ⟨s',kg,kt,rfl,h1,h2,xP⟩ hK'
   dsimp only
   refine Br.dec (λLq=>?_) λLq=>?_
   ·have Lq:j<gs.length:=by omega
    have SF: ∀q∈((Ny row).take i).flatMap (λy=>gs.map (Up row y))++(gs.take j).map (Up row (yn:Int)),q∈gV row gs:= λq hq=>by
     rcases Ba.1 hq with hq|hq
     ·exact Yr q hq
     ·obtain ⟨o,ho,rfl⟩:=Bf.1 hq
      exact Gy.2 ⟨(yn:Int),Uw.2 ⟨yn,rfl,hyr⟩,Bf.2 ⟨o,De ho,rfl⟩⟩
    obtain ⟨f1',f2'⟩:=Ahv _ SF
    rw [<-xP] at f1' f2'
    obtain ⟨G',T'⟩:=s'
    dsimp only at f1' f2'⊢
    have g1':G'.getD L []=gs:=by have:=(f2'.low L (by omega)).1;dsimp only at this;rw [this];exact hG1
    have g3':T'.getD L []=row:=by have:=(f2'.low L (by omega)).2;dsimp only at this;rw [this];exact hT1 row
    have g4':G'.length=N:=f1'.1
    have g5':T'.length=N:=f1'.2.1
    obtain ⟨g,wc,Ya,hgf⟩:=hg gs[j] (Am Lq)
    have hgj:gs.getD j none=some g:=by rw [ZV Lq];exact wc
    have hgm:some g∈gs:=by rw [<-wc];exact Am Lq
    have hy:=Ya.lt hyN
    obtain ⟨t',qR⟩:=Od.1 (r3 yn t g ht hgm)
    obtain ⟨u1,u2,u3,u4⟩:=hro.rt _ _ qR
    have Aot:Up row (yn:Int) gs[j]=Aj (Aj t g) (Bv t'):=by rw [wc];exact jN ht qR
    have hqm:=hpr _ (Gy.2 ⟨(yn:Int),Uw.2 ⟨yn,rfl,hyr⟩,Bf.2 ⟨gs[j],Am Lq,Aot⟩⟩)
    simp only [g1',g3',Ae,hgj,ht,Df]
    have tP:L<Int.toNat ((L+1:Nat):Int):=by omega
    have LX:=zd n1 n2 k (L+1) _ (G',T') (by omega) f1' hqm.1 hqm.2
    have Ax5:((Is k (L+1) (Aj (Aj t g) (Bv t')) (G',T')).1).length=N:=LX.v.1
    have Ax6:((Is k (L+1) (Aj (Aj t g) (Bv t')) (G',T')).2).length=N:=LX.v.2.1
    have hkk:((N:Int)-((L+1:Nat):Int)).toNat=k:=by omega
    refine ⟨⟨by omega,by omega⟩,⟨by omega,by omega⟩,some (Aj t g),Ab ⟨mc t1,OL t1 Ya⟩,_,Aap Ya hyN,⟨by omega,by omega⟩,Bv t',?_,some (Aj (Aj t g) (Bv t')),?_,_,Ab ⟨⟨N,L+1,_,rfl,?pr⟩,?lt⟩,⟨tP,?k1⟩,⟨tP,?k2⟩,⟨tP,?k3⟩,⟨tP,?k4⟩,?go⟩
    case pr=>exact ⟨n1,n2,rfl,rfl,by omega,by rw [show N-(L+1)=k by omega];exact f1',hqm.1,hqm.2⟩
    case lt=>
     show ((N:Int)-((L+1:Nat):Int)).toNat<m
     omega
    case go=>
     dsimp only
     rw [Bj (by omega)]
     refine hK' Lq _ rfl ⟨_,_,_,rfl,?_,?_,?_⟩
     ·show L<=min kg (Int.toNat ((L+1:Nat):Int));omega
     ·show L<=min kt (Int.toNat ((L+1:Nat):Int));omega
     ·rw [Kq,Ac Lq,Qb,Oz,<-Bm,List.foldl_append,<-xP]
      simp only [Bz,List.map_nil,Rw,List.foldl_nil,Aot,hkk,Ae,Df]
    case k1=>simp only [hkk,Ae,Df];omega
    case k2=>simp only [hkk,Ae,Df];omega
    case k3=>simp only [hkk,Ae,Df];omega
    case k4=>simp only [hkk,Ae,Df];omega
    ·rw [Ae,qR,Df]
     exact Ab ⟨by show t'.length<=20;rw [u1.1];exact n2,u1.2.row⟩
    ·exact Ab ⟨mc (t1.comp Ya),OL (t1.comp Ya) u1.inv⟩
   ·have:j=gs.length:=by omega
    subst this
    rw [Bj (by omega)]
    refine hK hl _ rfl ⟨s',kg,kt,rfl,h1,h2,?_⟩
    rw [xP,Be,Kq,Ac hl,Qb,List.flatMap_append,hyn]
    simp
  ·have:i=(Ny row).length:=by omega
   subst this
   rw [Be] at hs
   refine ⟨h1,h2,?_⟩
   rw [hs]
   rfl
theorem Aci {m:Nat} (Akm:Eu Tryz.prog 176 (Xh m)):Eu Tryz.prog 176 (Xh (m+1)):=
 Eu.pb (Agp [Np+7]) (Au WR (Ic lE (Au vf (Au Xl (Ic Akm Bl))))) mixed Tryz.func176 (by kernel_rfl) (by kernel_rfl) λx h=>Apw x.1 x.2.1 x.2.2.1 x.2.2.2.1 x.2.2.2.2.1 h
theorem OU:Eu Tryz.prog 176 (Xh 0):=
 Eu.pb qv Bl mixed Tryz.func176 (by kernel_rfl) (by kernel_rfl) λ_ h=>absurd h.2 (Fy _)
theorem vd: ∀m,Eu Tryz.prog 176 (Xh m)
 |0=>OU
 |m+1=>Aci (vd m)
noncomputable abbrev BS:MSpec:=pb Aii (λx=> ∃N L q,x.2.2.2.2.1=some q/\sC N L x.1 x.2.1 x.2.2.1 x.2.2.2.1 q)
 (λx=>((x.1,(Is (x.1-x.2.2.2.1).toNat x.2.2.2.1.toNat (x.2.2.2.2.1.getD []) (x.2.1,x.2.2.1)).1,(Is (x.1-x.2.2.2.1).toNat x.2.2.2.1.toNat (x.2.2.2.2.1.getD []) (x.2.1,x.2.2.1)).2,()),()))
theorem OV:Eu Tryz.prog 176 BS:=Eu.Apu (λx=>(x.1-x.2.2.2.1).toNat) vd
def aI (n:Nat):Gg:=List.replicate n []
def eW (n i:Nat):Row:=(List.replicate n none).set i (some (upto n))
def dO (n:Nat):Gg:=(List.range n).map λi=>eW n i
def Ve (n:Nat) (gens:List PO):Gg×Gg:=gens.foldl (λs o=>Is n 0 (o.getD []) s) (aI n,dO n)
noncomputable abbrev MQ:MSpec:= {Kn:= [none,none],ins:= [(false, .Hw tI),(false, .Hw tLO)],Jy:=false,Ji:= [none,none,none],outs:= [.Hw tI, .Bu tO teG false, .Bu tO teG false],fn:= λ_=>none,rp:=some 165}
noncomputable abbrev jM:MSpec:=pb MQ (λx=>(1<=x.1/\x.1<=20)/\List.length x.2.1<=4294967296/\ ∀o∈(x.2.1:List PO),∃g,o=some g/\Pm x.1.toNat g)
 (λx=>((x.1,(Ve x.1.toNat x.2.1).1,(Ve x.1.toNat x.2.1).2,()),()))
abbrev bk:Type:=Int×List (List (Option (List Int)))×Int×List (List (Option (List Int)))×PUnit
theorem JY (n:Int) (gens:List (Option (List Int))) (P:(Int×List (List (Option (List Int)))×List (List (Option (List Int)))×Unit)×Unit->Prop):(((0:Int)<=n/\n<(↑Ea:Int)+(1:Int))/\n=n/\0=0/\(List.replicate n.toNat ([]:List (Option (List Int)))).length=(List.replicate n.toNat ([]:List (Option (List Int)))).length/\0=0/\0=([]:List Int).length/\Dn (λ(v3:bk) (k4:bk->Prop)=>Br (decide (v3.1<n)) (((0:Int)<=n/\n<(↑Ea:Int)+(1:Int))/\n=n/\ ∃(y5:Option (List Int)),dj.fn (n,())=some y5/\((0:Int)<=v3.1/\v3.1<(↑(List.replicate n.toNat (none:Option (List Int))).length:Int))/\0+v3.1.toNat<(List.replicate n.toNat (none:Option (List Int))).length/\0=0/\(List.replicate n.toNat (none:Option (List Int))).length=((List.replicate n.toNat (none:Option (List Int))).set (0+v3.1.toNat) y5).length/\(0=0/\v3.2.2.2.1.length=v3.2.2.2.1.length)/\(0=0/\1= [(List.replicate n.toNat (none:Option (List Int))).set (0+v3.1.toNat) y5].length)/\0< [(List.replicate n.toNat (none:Option (List Int))).set (0+v3.1.toNat) y5].length/\v3.2.2.2.1.length+ [(List.replicate n.toNat (none:Option (List Int))).set (0+v3.1.toNat) y5].length<=Ea/\0=0/\v3.2.1.length=v3.2.1.length/\0=0/\(v3.2.2.2.1++ [(List.replicate n.toNat (none:Option (List Int))).set (0+v3.1.toNat) y5]).length=(v3.2.2.2.1++ [(List.replicate n.toNat (none:Option (List Int))).set (0+v3.1.toNat) y5]).length/\k4 (IntKind.i64.wrap (v3.1+(1:Int)),v3.2.1,v3.2.2.1,v3.2.2.2.1++ [(List.replicate n.toNat (none:Option (List Int))).set (0+v3.1.toNat) y5],())) (0=0/\v3.2.1.length=v3.2.1.length/\0=0/\v3.2.2.2.1.length=v3.2.2.2.1.length/\Dn (λ(v5:bk) (k6:bk->Prop)=>Br (decide (v5.1<(↑gens.length:Int))) (∃(y7:Option (List Int)),idx gens v5.1=some y7/\0=0/\v5.2.1.length=v5.2.1.length/\0=0/\v5.2.2.2.1.length=v5.2.2.2.1.length/\ ∃(y8:(Int×List (List (Option (List Int)))×List (List (Option (List Int)))×PUnit)×PUnit),BS.fn (v5.2.2.1,v5.2.1,v5.2.2.2.1,(0:Int),y7,())=some y8/\0=0/\y8.1.2.1.length=y8.1.2.1.length/\0=0/\y8.1.2.2.1.length=y8.1.2.2.1.length/\k6 (IntKind.i64.wrap (v5.1+(1:Int)),y8.1.2.1,y8.1.1,y8.1.2.2.1,())) ((0=0/\v5.2.1.length=v5.2.1.length)/\(0=0/\v5.2.2.2.1.length=v5.2.2.2.1.length)/\P ((v5.2.2.1,v5.2.1,v5.2.2.2.1,()),()))) ((0:Int),v3.2.1,v3.2.2.1,v3.2.2.2.1,PUnit.unit))) ((0:Int),List.replicate n.toNat ([]:List (Option (List Int))),n,[],PUnit.unit))=fnMW bm (look [(133,dj),(176,BS)]) jM Tryz.f157 (n,gens,()) P:=by kernel_rfl
theorem cC (n i:Nat):(aI n).getD i []= []:=by
 unfold aI
 rw [Ak,Zk]
 split<;>rfl
theorem mR {n i:Nat} (h:i<n):(dO n).getD i []=eW n i:=by
 unfold dO
 rw [Ak,Fo,Sh h]
 rfl
theorem oS {n i y:Nat} (h:i<n):(eW n i).getD y none=if i=y then some (upto n) else none:=by
 unfold eW
 rw [Vt,Ej]
 by_cases e:i=y
 ·rw [Ab ⟨e,h⟩,Ab e]
 ·rw [Ai (λhh=>e hh.1),Ai e,Ak,Zk]
  split<;>rfl
theorem vC {n:Nat} (h1:1<=n) (h2:n<=20): ∀(k l:Nat),l+k=n->kT n k l (aI n,dO n)
 |0,l,hk=>cC n l
 |k+1,l,hk=>by
  have hl:l<n:=by omega
  have hg: ∀(g:List Int) (j:Nat),some g∈(aI n).getD j []->False:= λg j hg=>by rw [cC] at hg;cases hg
  refine ⟨vC h1 h2 k (l+1) (by omega),⟨λo ho=>?_,?_,?_,λy t e0=>?_,λy t g _ fa=>(hg _ _ fa).elim,λy t g t' _ fa=>(hg _ _ fa).elim⟩,λg fa=>(hg _ _ fa).elim⟩
  ·have ho:o∈(aI n).getD l []:=ho
   rw [cC] at ho;cases ho
  ·show ((dO n).getD l []).length=n
   rw [mR hl];simp [eW]
  ·show ((dO n).getD l []).getD l none=_
   rw [mR hl,oS hl,Ab rfl]
  ·replace e0:((dO n).getD l []).getD y none=some t:=e0
   rw [mR hl,oS hl] at e0
   by_cases hy:l=y
   ·rw [Ab hy] at e0
    have e1:=Bd e0
    subst e1 hy
    exact ⟨Pm.id h1 h2,λi hi=>l5 (by omega),l5 hl, .id⟩
   ·rw [Ai hy] at e0;cases e0
theorem JE (n:Nat): ∀(k l:Nat),GBf k l (aI n,dO n)
 |0,_=>trivial
 |k+1,l=>⟨JE n k (l+1),by show ((aI n).getD l []).length<=_;rw [cC];exact Mc _⟩
theorem TE {n:Nat} (h1:1<=n) (h2:n<=20):V n n 0 (aI n,dO n):=⟨by simp [aI],by simp [dO],vC h1 h2 n 0 (by omega),JE n n 0⟩
def PmL (n:Nat) (gens:List PO):Prop:= ∀o∈gens,∃g,o=some g/\Pm n g
theorem DY {n:Nat} {gens:List PO} {j:Nat} (hj:j<gens.length):Ve n (gens.take (j+1))=Is n 0 (gens[j].getD []) (Ve n (gens.take j)):=by
 unfold Ve
 rw [Kq,Ac hj,Qb,List.foldl_append]
 rfl
theorem pk {n:Nat} (h1:1<=n) (h2:n<=20): ∀(gens:List PO) (s:Gg×Gg),PmL n gens->V n n 0 s->V n n 0 (gens.foldl (λs o=>Is n 0 (o.getD []) s) s)/\
  bK 0 s (gens.foldl (λs o=>Is n 0 (o.getD []) s) s)/\(∀g,some g∈gens->Gn n ((gens.foldl (λs o=>Is n 0 (o.getD []) s) s).1.getD 0 []) g)/\ ∀o∈(gens.foldl (λs o=>Is n 0 (o.getD []) s) s).1.getD 0 [],o∈s.1.getD 0 []\/o∈gens
 | [],s,_,hv=>⟨hv,bK.refl _ _,(λ_ hg=>by cases hg),λ_ ho=> .inl ho⟩
 |o::gens,s,hg,hv=>by
  obtain ⟨g,rfl,Ya⟩:=hg o (by simp)
  have ha:=zd h1 h2 n 0 g s (by omega) hv Ya (λi hi=>absurd hi (Fy _))
  obtain ⟨a1,a2,a3,a4⟩:=pk h1 h2 gens (Is n 0 g s) (λo ho=>hg o (by simp [ho])) ha.v
  refine ⟨a1,ha.grow.trans a2 (Aq _),λg' fa=>?_,λo ho=>?_⟩
  ·rcases Bb.1 fa with e|fa
   ·cases e;exact ha.Apj.mono λg hg=>a2.RP _ _ hg
   ·exact a3 g' fa
  ·rcases a4 o ho with h|h
   ·rcases ha.gens o h with h|h
    ·exact .inl h
    ·exact .inr (by simp [h])
   ·exact .inr (by simp [h])
theorem DW {n:Nat} (h1:1<=n) (h2:n<=20) {gens:List PO} (hg:PmL n gens):V n n 0 (Ve n gens):=(pk h1 h2 gens _ hg (TE h1 h2)).1
theorem tC {n:Nat} (h1:1<=n) (h2:n<=20) {gens:List PO} (hg:PmL n gens) {p:List Int} (hp:Pm n p):On (Ve n gens).2 n 0 p=true↔Gn n gens p:=by
 obtain ⟨a1,a2,a3,a4⟩:=pk h1 h2 gens _ hg (TE h1 h2)
 have hS:QS n λg=>some g∈gens:=⟨⟨h1,h2⟩,λg fa=>by obtain ⟨g',e,h⟩:=hg _ fa;cases e;exact h⟩
 have Yr: ∀g,some g∈(Ve n gens).1.getD 0 []->some g∈gens:= λg fa=>by
  rcases a4 _ fa with h|h
  ·have h:some g∈(aI n).getD 0 []:=h
   rw [cC] at h;cases h
  ·exact h
 have hS':QS n λg=>some g∈(Ve n gens).1.getD 0 []:=⟨⟨h1,h2⟩,λg fa=>hS.2 g (Yr g fa)⟩
 refine (nV h1 h2 n 0 (Ve n gens) (by omega) a1.2.2.1 p hp λi hi=>absurd hi (Fy _)).trans ⟨λh=>h.mono Yr,λh=>h.trans hS' λg fa=>a3 g fa⟩
theorem HZ (n:Int) (gens:List (Option (List Int))) (h:(1<=n/\n<=20)/\List.length gens<=4294967296/\ ∀o∈(gens:List PO),∃g,o=some g/\Pm n.toNat g):
  fnMW bm (look [(133,dj),(176,BS)]) jM Tryz.f157 (n,gens,()) (λ(z:(Int×List (List (Option (List Int)))×List (List (Option (List Int)))×Unit)×Unit)=>z=((n,(Ve n.toNat gens).1,(Ve n.toNat gens).2,()),())):=by
 obtain ⟨⟨h1,h2⟩,h3,hg⟩:=h
 obtain ⟨N,rfl⟩: ∃N:Nat,n=N:=⟨n.toNat,by omega⟩
 rw [Ae] at hg⊢
 have h1:1<=N:=by omega
 have h2:N<=20:=by omega
 refine Eq.mp (JY (N:Int) gens _) ?_
 have hm:((0:Int)<=(N:Int)/\(N:Int)<(Ea:Int)+1):=⟨by omega,by show (N:Int)<(4294967296:Int)+1;omega⟩
 simp only [hm,and_self,eq_self,true_and,Ae,Bt,Gp,Co,Ej,Ay,Nat.lt_add_one,Aw]
 refine Bo N (λv=>v.1) (λj v=>v=((j:Int),aI N,(N:Int),(List.range j).map (eW N),())) rfl rfl ?_
 rintro j v K hj hi rfl hK
 dsimp only
 refine Br.dec (λhl=>?_) λhl=>?_
 ·refine ⟨_,Ab ⟨by show (1:Int)<=N;omega,by show (N:Int)<=20;omega⟩,⟨by omega,by omega⟩,by rw [Ae];omega,?_,?_⟩
  ·show _<=4294967296
   simp only [Dk,List.length_range]
   omega
  ·rw [Bj (by omega)]
   refine hK (by omega) _ rfl ?_
   rw [List.range_succ,Oz]
   rfl
 ·have:j=N:=by omega
  subst this
  refine Bo gens.length (λv=>v.1) (λi v=>v=((i:Int),(Ve j (gens.take i)).1,(j:Int),(Ve j (gens.take i)).2,())) rfl rfl ?_
  rintro i v K' gM Ba3 rfl hK'
  dsimp only
  refine Br.dec (λLq=>?_) λLq=>?_
  ·have Lq:i<gens.length:=by omega
   obtain ⟨g,wc,Ya⟩:=hg gens[i] (Am Lq)
   have hv:=DW h1 h2 (gens:=gens.take i) λo ho=>hg o (De ho)
   refine ⟨_,Bn Lq,_,Ab ⟨j,0,g,wc,h1,h2,rfl,rfl,Mc _,hv,Ya,λi hi=>absurd hi (Fy _)⟩,?_⟩
   rw [Bj (by omega)]
   refine hK' Lq _ rfl ?_
   rw [DY Lq]
   simp only [Int.sub_zero,Ae]
   rfl
  ·have:i=gens.length:=by omega
   subst this
   rw [Be]
theorem sa:Eu Tryz.prog 157 jM:=
 Eu.pb qv (Au s5 (Ic OV Bl)) mixed Tryz.func157 (by kernel_rfl) (by kernel_rfl) λx h=>HZ x.1 x.2.1 h
def cm (T:Gg):Nat->Nat
 |0=>1
 |j+1=>cm T j*(Ny (T.getD j [])).length
noncomputable abbrev kQ:Spec:=Gk (.pair (.ptr CU) (.pair tI .unit)) tI false true (λx=>x.2.1=0/\ ∃N:Nat,(1<=N/\N<=20)/\x.1.1=N/\V N N 0 (x.1.2.1,x.1.2.2.1)) (λx=>(cm x.1.2.2.1 x.1.1.toNat:Int))
noncomputable abbrev GF:MSpec:= {Kn:= [none,none],ins:= [(false, .Hw tI),(false, .Hw nf)],Jy:=false,Ji:= [none,none,none],outs:= [.Hw tI, .Bu tO teG false, .Bu tO teG false],fn:= λ_=>none,rp:=some 165}
def aV (n:Int) (g:List (List Int)):Gg×Gg:=Ve n.toNat (g.map some)
noncomputable abbrev Zc:MSpec:=pb GF (λx=>(1<=x.1/\x.1<=20)/\List.length x.2.1<=4294967296/\ ∀g∈(x.2.1:List (List Int)),Pm x.1.toNat g)
 (λx=>((x.1,(aV x.1 x.2.1).1,(aV x.1 x.2.1).2,()),()))
noncomputable def Xb (p:PP):Int:=if Ca p=true then (cm (aV p.1 p.2.2.1).2 p.1.toNat:Int) else 0
noncomputable abbrev Tj:Spec:=Gk (.pair Iw .unit) tI false true (λx=>Gl x.1) (λx=>Xb x.1)
theorem Ah1 (c:Int×List (List (Option (List Int)))×List (List (Option (List Int)))×Unit) (l:Int) (P:Int->Prop):(Dn (λ(v3:Int×Int×PUnit) (k4:Int×Int×PUnit->Prop)=>Br (decide (v3.2.1<c.1)) (∃(y5:List (Option (List Int))),idx c.2.2.1 v3.2.1=some y5/\ ∃(y6:(List Int×PUnit)×PUnit),Rn.fn (y5,())=some y6/\ ∃(y7:Int),Mm.fn (List.take y6.1.1.length (List.drop 0 y6.1.1),())=some y7/\k4 (IntKind.i64.wrap (v3.1*y7),IntKind.i64.wrap (v3.2.1+(1:Int)),())) (P v3.1)) ((1:Int),l,PUnit.unit))=fnW bm (look [(178,Rn),(105,Mm)]) kQ Tryz.f168 (c,l,()) P:=by kernel_rfl
theorem DP (p:Int×ByteArray×List (List Int)×Unit) (P:Int->Prop):(∃(y2:Bool),Js.fn ((p.1,p.2.1,p.2.2.1,()),())=some y2/\Br (!y2) (P (0:Int)) (∃(y3:(Int×List (List (Option (List Int)))×List (List (Option (List Int)))×PUnit)×PUnit),Zc.fn (p.1,p.2.2.1,())=some y3/\ ∃(y4:Int),kQ.fn ((y3.1.1,List.take y3.1.2.1.length (List.drop 0 y3.1.2.1),List.take y3.1.2.2.1.length (List.drop 0 y3.1.2.2.1),()),(0:Int),())=some y4/\P y4))=fnW Fl (look [(99,Js),(157,Zc),(168,kQ)]) Tj Tryz.f142 (p,()) P:=by kernel_rfl
theorem Agr (n i:Nat):(upto n).countP (λy=>decide ((i:Int)<=y))=n-i:=by
 induction n with
 |zero=>simp [upto]
 |succ n ih=>
  rw [bI,List.countP_append,ih]
  simp only [List.countP_cons,List.countP_nil,Ru]
  split<;>omega
theorem Afx {n i:Nat} {gs:List PO} {row:Row} {H:List Int->Prop} (hi:i<n) (h:Lvl n i gs row H):(Ny row).length<=n-i:=by
 rw [<-Agr n i]
 unfold Ny
 rw [h.rl,<-List.countP_eq_length_filter]
 refine List.countP_mono_left λy hy hs=>?_
 obtain ⟨h1,h2⟩:=Mr.1 hy
 obtain ⟨t,ht⟩:=Xs.1 hs
 obtain ⟨t1,t2,t3,_⟩:=h.rt _ _ ht
 refine Cb ?_
 refine Bp λhn=>?_
 have hy':y.toNat<i:=by omega
 have:=t1.inj hi (by omega:y.toNat<n) (by rw [t3,t2 _ hy'])
 omega
def fact:Nat->Nat
 |0=>1
 |n+1=>(n+1)*fact n
theorem FH: ∀n,1<=fact n
 |0=>Aq _
 |n+1=>by have:=FH n;simp only [fact];exact Je this (Nat.le_mul_of_pos_left _ (by omega))
theorem UC {a b:Nat} (h:a<=b):fact a<=fact b:=by
 induction h with
 |refl=>exact Aq _
 |step _ ih=>simp only [fact];exact Je ih (Nat.le_mul_of_pos_left _ (by omega))
theorem Abj {n:Nat} {s:Gg×Gg} (hc:kT n n 0 s): ∀j,j<=n->cm s.2 j*fact (n-j)<=fact n
 |0,_=>by simp [cm]
 |j+1,hj=>by
  have ih:=Abj hc j (by omega)
  have h1:=Afx (by omega) (nz n 0 hc j (by omega) (by omega))
  have e:n-j=(n-(j+1))+1:=by omega
  simp only [cm]
  rw [e] at ih h1
  simp only [fact] at ih
  rw [Nat.mul_assoc]
  exact Je (Nat.mul_le_mul_left _ (Fv _ h1)) ih
theorem VG {n:Nat} (h2:n<=20) {s:Gg×Gg} (hc:kT n n 0 s) {j:Nat} (hj:j<=n):cm s.2 j<=2432902008176640000:=by
 have h1:=Abj hc j hj
 have h3:=FH (n-j)
 have h4:fact n<=2432902008176640000:=Je (UC h2) (by decide)
 have h5:cm s.2 j*1<=cm s.2 j*fact (n-j):=Nat.mul_le_mul_left _ h3
 omega
theorem Ag6 (c:Int×List (List (Option (List Int)))×List (List (Option (List Int)))×Unit) (l:Int) (h:l=0/\ ∃N:Nat,(1<=N/\N<=20)/\c.1=N/\V N N 0 (c.2.1,c.2.2.1)):
  fnW bm (look [(178,Rn),(105,Mm)]) kQ Tryz.f168 (c,l,()) (λ(z:Int)=>z=(cm c.2.2.1 c.1.toNat:Int)):=by
 obtain ⟨rfl,N,⟨h1,h2⟩,hN,v⟩:=h
 obtain ⟨n,G,T,⟨⟩⟩:=c
 dsimp only at hN v⊢
 subst hN
 refine Eq.mp (Ah1 ((N:Int),G,T,()) 0 _) ?_
 obtain ⟨v1,v2,v3,v4⟩:=v
 dsimp only at v1 v2⊢
 rw [Ae]
 refine Bo N (λv=>v.2.1) (λj v=>v.1=(cm T j:Int)) rfl rfl ?_
 rintro j ⟨o,i,⟨⟩⟩ K hj hi ho hK
 dsimp only at hi ho⊢
 subst hi ho
 refine Br.dec (λhl=>?_) λhl=>?_
 ·have hl:j<N:=by omega
  have hT:j<T.length:=by omega
  have Yq:=nz N 0 v3 j (by omega) (by omega)
  have hrl:=Yq.rl
  dsimp only at hrl
  rw [FP hT] at hrl
  refine ⟨_,Bn hT,_,Ab (by show (T[j]).length<=20;omega),_,Ab trivial,?_⟩
  rw [Dr,Be,Bj (by omega)]
  have hb:=VG h2 v3 (j:=j+1) (by omega)
  simp only [cm] at hb
  rw [FP hT] at hb
  have e:(cm T j:Int)*((Ny T[j]).length:Int)=((cm T j*(Ny T[j]).length:Nat):Int):=by push_cast;rfl
  show K (IntKind.i64.wrap ((cm T j:Int)*((Ny T[j]).length:Int)),_,())
  rw [e,Ct (by omega) (by omega)]
  refine hK hl _ rfl ?_
  simp only [cm]
  rw [FP hT]
 ·have:j=N:=by omega
  subst this
  rfl
theorem IY:Sound Tryz.prog 168 kQ:=
 Sound.Gk qv (Ic lE (Au Vn Bl)) mixed Tryz.func168 (by kernel_rfl) (by kernel_rfl) λx h=>Ag6 x.1 x.2.1 h
theorem Cells.told {w:World} {S:Nat->Prop} {e:Ty} {cs:List Value} {xs:List e.den} (h:Cells w S (.slice e) cs xs): ∃o:Option (List e.den),Cells w S (.oslice e) cs o/\o.getD []=xs:=by
 simp only [Cells] at h
 obtain ⟨a,len,cap,rfl,h1,h2,h3⟩:=h
 cases a with
 |none=>
  rcases h3 with rfl|⟨g,o,h,_⟩
  ·refine ⟨none,?_,rfl⟩
   simp only [Cells]
   exact .inl ⟨trivial,cap,by rw [h1];rfl⟩
  ·cases h
 |some ad=>
  refine ⟨some xs,?_,rfl⟩
  simp only [Cells]
  exact .inr ⟨xs,ad,len,cap,rfl,rfl,h1,h2,h3.imp id λ⟨g,o,h,h4⟩=>⟨g,o,Bd h,h4⟩⟩
theorem KU {α β:Type} (Q:Nat->α->β->Prop): ∀(xs:List α),(∀i x,xs[i]?=some x-> ∃y,Q i x y)-> ∃ys:List β,ys.length=xs.length/\ ∀i x y,xs[i]?=some x->ys[i]?=some y->Q i x y:=by
 intro xs h
 refine ⟨List.ofFn λi:Fin xs.length=>Classical.choose (h i xs[i] (Ac i.2)),by simp,λi x y h1 h2=>?_⟩
 obtain ⟨hi,rfl⟩:=Ao.1 h1
 obtain ⟨gM,rfl⟩:=Ao.1 h2
 rw [List.getElem_ofFn]
 exact Classical.choose_spec (h i xs[i] (Ac hi))
theorem Dg.Aqm {w:World} {S:Nat->Prop} {e:Ty} {v:Value} {xs:List (List e.den)} (h:Dg w S (.slice (.slice e)) v xs): ∃os:List (Option (List e.den)),Dg w S (.slice (.oslice e)) v os/\os.map (·.getD [])=xs:=by
 obtain ⟨cs,hc,rfl⟩:=h
 simp only [Cells] at hc
 obtain ⟨a,len,cap,rfl,h1,h2,h3⟩:=hc
 rcases h3 with rfl|⟨g,o,rfl,hg,hS,h4⟩
 ·refine ⟨[],⟨_,?_,rfl⟩,rfl⟩
  simp only [Cells]
  exact ⟨a,len,cap,rfl,h1,h2, .inl trivial⟩
 ·obtain ⟨os,e1,e2⟩:=KU (λi (x:List e.den) (y:Option (List e.den))=>y.getD []=x/\ ∃es:List Value,es.length=1/\(∀j u,es[j]?=some u->w.cell? ⟨g,o+i*1+j,none⟩=some u)/\Cells w S (.oslice e) es y) xs λi x hx=>by
   obtain ⟨es,k1,k2,k3⟩:=h4 i x hx
   obtain ⟨y,k4,k5⟩:=Cells.told (e:=e) (by simp only [Cells];exact k3)
   exact ⟨y,k5,es,k1,k2,k4⟩
  refine ⟨os,⟨_,?_,rfl⟩,?_⟩
  ·simp only [Cells]
   refine ⟨_,len,cap,rfl,by rw [h1,e1],h2, .inr ⟨g,o,rfl,hg,hS,λi y hy=>?_⟩⟩
   obtain ⟨hi,_⟩:=Ao.1 hy
   obtain ⟨_,es,k1,k2,k3⟩:=e2 i _ y (Ac (by omega)) hy
   simp only [Cells] at k3
   exact ⟨es,k1,k2,k3⟩
  ·refine eZ (by simp [e1]) λi g1 g2=>?_
   rw [Tn]
   exact (e2 i _ _ (Ac g2) (Ac (by omega))).1
theorem vr:Eu Tryz.prog 157 Zc:=by
 have h:=sa
 refine ⟨h.enter,λw S π us x r o g vs h1 hg h2 h3 hS h4 h5=>?_⟩
 obtain ⟨n,gens,⟨⟩⟩:=x
 match us,h2 with
 |u1::u2::us,h2=>
  obtain ⟨h6,⟨h7,h8⟩,h9⟩:=h2
  obtain ⟨os,qN,lk⟩:=Dg.Aqm (e:=tI) h8
  have lk:os.map (·.getD [])=(gens:List (List Int)):=lk
  have zN:(1<=n/\n<=20)/\List.length gens<=4294967296/\ ∀g∈(gens:List (List Int)),Pm n.toNat g:=Bp λhn=>by
   have:Zc.fn (n,gens,())=none:=Ai hn
   rw [this] at h5;cases h5
  have hos:os=gens.map some:=by
   rw [<-lk,List.map_map]
   refine (List.map_id os).symm.trans (Ft λx hx=>?_)
   cases x with
   |some y=>rfl
   |none=>
    have:=zN.2.2 [] (by rw [<-lk];exact Bf.2 ⟨none,hx,rfl⟩)
    have h1:=this.n1
    have h2:=this.1
    simp at h2
    omega
  have hv:Zc.fn (n,gens,())=some ((n,(aV n gens).1,(aV n gens).2,()),()):=Ab zN
  rw [hv] at h5
  have h5:=Bd h5
  refine h.calls w S π (u1::u2::us) (n,os,()) r o g vs h1 hg ⟨h6,⟨h7,qN⟩,h9⟩ h3 hS h4 ?_
  refine (Ab ⟨zN.1,by rw [hos,Dk];exact zN.2.1,λy hy=>?pp⟩).trans (Et some ?qq)
  case pp=>
   replace hy:y∈os:=hy
   rw [hos] at hy
   obtain ⟨g,hg,rfl⟩:=Bf.1 hy
   exact ⟨g,rfl,zN.2.2 g hg⟩
  case qq=>subst hos;exact h5
theorem ny {p:PP} (hv:Valid p):(1<=p.1/\p.1<=20)/\List.length p.2.2.1<=4294967296/\ ∀g∈p.2.2.1,Pm p.1.toNat g:=
 ⟨hv.n,by have:=hv.p8;omega,λg hg=>⟨by have:=hv.len g hg;omega,fS (hv.perm g hg)⟩⟩
theorem uJ {n:Nat} {g:List (List Int)} (h: ∀x∈g,Pm n x):PmL n (g.map some):= λo ho=>by
 obtain ⟨x,hx,rfl⟩:=Bf.1 ho
 exact ⟨x,rfl,h x hx⟩
theorem zo {p:PP} (hv:Valid p):V p.1.toNat p.1.toNat 0 (aV p.1 p.2.2.1):=by
 have:=hv.n
 exact DW (by omega) (by omega) (uJ (ny hv).2.2)
theorem BC (p:PP) (h:Gl p):fnW Fl (look [(99,Js),(157,Zc),(168,kQ)]) Tj Tryz.f142 (p,()) (λ(z:Int)=>z=Xb p):=by
 refine Eq.mp (DP p _) ⟨_,Ab h,?_⟩
 show Br (!Ca p) _ _
 unfold Xb
 cases hv:Ca p with
 |false=>exact Br.of (λ_=>rfl) λhh=>by cases hh
 |true=>
  refine Br.of (λhh=>by cases hh) λ_=>?_
  have hV:=valid hv
  have hn:=hV.n
  refine ⟨_,Ab (ny hV),_,Ab ⟨rfl,p.1.toNat,⟨by omega,by omega⟩,(Int.toNat_of_nonneg (by omega:(0:Int)<=p.1)).symm,?vv⟩,?_⟩
  case vv=>
   simp only [Dr,Be]
   exact zo hV
  simp only [Dr,Be]
  exact (Ab trivial).symm
theorem qn:Sound Tryz.prog 142 Tj:=
 Sound.Gk Dl (Au eU (Ic vr (Au IY Bl))) mixed Tryz.func142 (by kernel_rfl) (by kernel_rfl) λx h=>BC x.1 h
theorem aj {α:Type} [DecidableEq α]: ∀ {l1 l2:List α},l1.Nodup->(∀x∈l1,x∈l2)->l1.length<=l2.length
 | [],_,_,_=>Mc _
 |a::l,l2,hn,hs=>by
  obtain ⟨h1,h2⟩:=Cg.1 hn
  have ha:=hs a (by simp)
  have:=aj (l1:=l) (l2:=l2.erase a) h2 λy hy=>by
   have hya:y≠a:= λe'=>h1 (by rw [<-e'];exact hy)
   exact (List.mem_erase_of_ne hya).2 (hs y (by simp [hy]))
  rw [Xr ha] at this
  have:=List.length_pos_of_mem ha
  simp only [Ay]
  omega
def pR (n:Nat) (T:Gg):Nat->Nat->List (List Int)
 |0,_=> [upto n]
 |k+1,l=>(Ny (T.getD l [])).flatMap λy=>(pR n T k (l+1)).map λq=>Aj q (((T.getD l []).getD y.toNat none).getD [])
def yu (T:Gg):Nat->Nat->Nat
 |0,_=>1
 |k+1,l=>(Ny (T.getD l [])).length*yu T k (l+1)
theorem GZ (n:Nat) (T:Gg): ∀k l,(pR n T k l).length=yu T k l
 |0,_=>rfl
 |k+1,l=>by
  simp only [pR,yu,List.length_flatMap,Dk,GZ n T k (l+1)]
  generalize Ny (T.getD l [])=o
  induction o with
  |nil=>simp
  |cons a o ih=>simp only [Bz,List.sum_cons,ih,Ay,Nat.succ_mul];omega
theorem yj (T:Gg): ∀k j,cm T (j+k)=cm T j*yu T k j
 |0,j=>by simp [yu]
 |k+1,j=>by
  have:=yj T k (j+1)
  rw [show j+(k+1)=j+1+k by omega,this]
  simp only [cm,yu]
  rw [Nat.mul_assoc]
theorem HR (n:Nat) (T:Gg):(pR n T n 0).length=cm T n:=by
 rw [GZ,show cm T n=cm T (0+n) by rw [Bt],yj]
 simp [cm]
theorem ug {n:Nat} (h1:1<=n) (h2:n<=20) {s:Gg×Gg} : ∀(k l:Nat),l+k=n->kT n k l s-> ∀p,p∈pR n s.2 k l↔Pm n p/\Fx l p/\On s.2 k l p=true
 |0,l,hk,hc,p=>by
  have hl:l=n:=by omega
  subst hl
  simp only [pR,Ad]
  exact ⟨λe=>by subst e;exact ⟨Pm.id h1 h2,λi hi=>l5 hi,rfl⟩,λh=>h.2.1.all h.1⟩
 |k+1,l,hk,hc,p=>by
  obtain ⟨c1,c2,c3⟩:=hc
  have ih:=ug h1 h2 k (l+1) (by omega) c1
  have gN:l<n:=by omega
  simp only [pR,Gy,Bf]
  constructor
  ·rintro ⟨y,hy,q,hq,rfl⟩
   obtain ⟨yn,rfl,hyn⟩:=Uw.1 hy
   obtain ⟨t,ht⟩:=Od.1 hyn
   obtain ⟨t1,t2,t3,t4⟩:=c2.rt _ _ ht
   obtain ⟨q1,q2,q3⟩:=(ih q).1 hq
   rw [Ae,ht,Df]
   have hap:ap (Aj q t) l=yn:=by rw [Kr q1 t1 gN,q2 l (by omega),t3]
   refine ⟨q1.comp t1,λi hi=>by rw [Kr q1 t1 (by omega),q2 i (by omega),t2 i hi],?_⟩
   simp only [On]
   rw [show (Dp (Aj q t) (l:Int)).toNat=ap (Aj q t) l from rfl,hap,ht]
   show On s.2 k (l+1) (Aj (Aj q t) (Bv t))=true
   rw [It q1 t1 t1.inv,iT t1,comp_id q1]
   exact q3
  ·rintro ⟨p1,p2,p3⟩
   simp only [On] at p3
   rw [show (Dp p (l:Int)).toNat=ap p l from rfl] at p3
   split at p3
   ·cases p3
   ·rename_i t ht
    obtain ⟨t1,t2,t3,t4⟩:=c2.rt _ _ ht
    refine ⟨(ap p l:Int),Uw.2 ⟨ap p l,rfl,by rw [ht];simp⟩,Aj p (Bv t),(ih _).2 ⟨p1.comp t1.inv,Fx.div p1 t1 p2 t2 gN t3,p3⟩,?_⟩
    rw [Ae,ht,Df,It p1 t1.inv t1,cd t1,comp_id p1]
theorem uh {n:Nat} (h1:1<=n) (h2:n<=20) {s:Gg×Gg} : ∀(k l:Nat),l+k=n->kT n k l s->(pR n s.2 k l).Nodup
 |0,l,hk,hc=>by simp [pR]
 |k+1,l,hk,hc=>by
  obtain ⟨c1,c2,c3⟩:=hc
  have ih:=uh h1 h2 k (l+1) (by omega) c1
  have hm:=ug h1 h2 k (l+1) (by omega) c1
  have gN:l<n:=by omega
  have rep: ∀y∈Ny (s.2.getD l []),∃(yn:Nat) (t:List Int),y=yn/\((s.2.getD l []).getD y.toNat none).getD []=t/\Pm n t/\ap t l=yn:= λy hy=>by
   obtain ⟨yn,rfl,hyn⟩:=Uw.1 hy
   obtain ⟨t,ht⟩:=Od.1 hyn
   obtain ⟨t1,t2,t3,t4⟩:=c2.rt _ _ ht
   exact ⟨yn,t,rfl,by rw [Ae,ht];rfl,t1,t3⟩
  simp only [pR]
  refine List.pairwise_flatMap.2 ⟨λy hy=>?_,?_⟩
  ·obtain ⟨yn,t,rfl,e,t1,t3⟩:=rep y hy
   rw [e]
   refine List.pairwise_map.2 (iA ?_ ih)
   intro a b ha hb Jd he
   have ha:=((hm a).1 ha).1
   have hb:=((hm b).1 hb).1
   have h3:=Et (λz=>Aj z (Bv t)) he
   simp only [It ha t1 t1.inv,It hb t1 t1.inv,iT t1,comp_id ha,comp_id hb] at h3
   exact Jd h3
  ·refine iA ?_ ((mV _).filter _)
   intro y z hy hz Jd a ha b hb he
   obtain ⟨yn,t,rfl,e,t1,t3⟩:=rep y hy
   obtain ⟨zn,u,rfl,e',u1,u3⟩:=rep z hz
   rw [e] at ha
   rw [e'] at hb
   obtain ⟨q,hq,rfl⟩:=Bf.1 ha
   obtain ⟨q',iB,rfl⟩:=Bf.1 hb
   obtain ⟨a1,a2,_⟩:=(hm q).1 hq
   obtain ⟨b1,b2,_⟩:=(hm q').1 iB
   have h3:=Et (λz=>ap z l) he
   simp only [Kr a1 t1 gN,Kr b1 u1 gN,a2 l (by omega),b2 l (by omega),t3,u3] at h3
   exact Jd (by rw [h3])
theorem pq {g:List (List Int)} (Q:List Int->Prop) {x:List Int} {d:Int} : ∀(ls:List Int) (L:List (List Int)) (D:List Int),(∀l∈ls,Q (Aj x (Ax g l)))->(∀y∈L,Q y)->
  (∀y∈(Iy g x d ls L D).1,Q y)/\(∀y∈L,y∈(Iy g x d ls L D).1)/\((Iy g x d ls L D).2.2=true-> ∀l∈ls,Aj x (Ax g l)∈(Iy g x d ls L D).1)/\
   ((Iy g x d ls L D).2.2=false->(Iy g x d ls L D).1.length=3000/\ ∃z,Q z/\z∉(Iy g x d ls L D).1)
 | [],L,D,_,h=>⟨h,λ_ h=>h,(λ_ l hl=>by cases hl),(λe=>by cases e)⟩
 |l::ls,L,D,hq,h=>by
  have iB: ∀l∈ls,Q (Aj x (Ax g l)):= λl' h'=>hq l' (Ap _ h')
  simp only [Iy]
  split
  ·rename_i hm
   obtain ⟨a1,a2,a3,a4⟩:=pq Q (d:=d) ls L D iB h
   refine ⟨a1,a2,λe l' Lq=>?_,a4⟩
   rcases Bb.1 Lq with rfl|Lq
   ·exact a2 _ hm
   ·exact a3 e l' Lq
  ·rename_i hn
   split
   ·rename_i hf
    exact ⟨h,λ_ h=>h,(λe=>by cases e),λ_=>⟨hf,_,hq l (by simp),hn⟩⟩
   ·obtain ⟨a1,a2,a3,a4⟩:=pq Q (d:=d) ls (L++ [Aj x (Ax g l)]) (D++ [d+1]) iB λy hy=>by
     rcases Ba.1 hy with hy|hy
     ·exact h y hy
     ·rw [Ad.1 hy];exact hq l (by simp)
    refine ⟨a1,λy hy=>a2 y (Bi _ hy),λe l' Lq=>?_,a4⟩
    rcases Bb.1 Lq with rfl|Lq
    ·exact a2 _ (Ck _ (by simp))
    ·exact a3 e l' Lq
theorem xt {p:PP} (hV:Valid p) {m:Nat} {ls:List Int} (hl: ∀l∈ls,Hj (List.length p.2.2.1) l) (Q:List Int->Prop) (hQ: ∀x,Q x-> ∀l∈ls,Q (Aj x (Ax p.2.2.1 l))):
  ∀(f k:Nat) (L:List (List Int)) (D:List Int),3001<=f+k->k<=L.length->Wn p m L D->(∀y∈L,Q y)->(∀(j:Nat) (h:j<L.length),j<k-> ∀l∈ls,Aj L[j] (Ax p.2.2.1 l)∈L)->
  (∀y∈(Lo p.2.2.1 ls f k L D).1,Q y)/\((Lo p.2.2.1 ls f k L D).2.2=true-> ∀x∈(Lo p.2.2.1 ls f k L D).1,∀l∈ls,Aj x (Ax p.2.2.1 l)∈(Lo p.2.2.1 ls f k L D).1)/\
   ((Lo p.2.2.1 ls f k L D).2.2=false->(Lo p.2.2.1 ls f k L D).1.length=3000/\ ∃z,Q z/\z∉(Lo p.2.2.1 ls f k L D).1)
 |0,k,L,D,hf,hkL,hb,hq,hc=>by
  have:=hb.ok.p8
  omega
 |f+1,k,L,D,hf,hkL,hb,hq,hc=>by
  simp only [Lo]
  split
  ·rename_i hk
   have UJ:k<D.length:=by rw [hb.len];exact hk
   have hd:=hb.dep k UJ
   have e:D.getD k 0=D[k]:=by rw [Ak,Ac UJ];rfl
   rw [Wu hk,e]
   obtain ⟨k1,⟨A,k2⟩,_⟩:=nv hV (hb.row _ (Am hk)) (hb.ok.len _ (Am hk)) (d:=D[k]) ls L D hl hb ⟨by omega,by omega⟩
   obtain ⟨a1,a2,a3,a4⟩:=pq (g:=p.2.2.1) Q (x:=L[k]) (d:=D[k]) ls L D (hQ _ (hq _ (Am hk))) hq
   split
   ·rename_i L' D' he
    rw [he] at k1 k2 a1 a2 a3 a4
    have k2:L'=L++A:=k2
    refine xt hV hl Q hQ f (k+1) L' D' (by omega) (by rw [k2,Aw];omega) k1 a1 λj hj hjk l Lq=>?_
    by_cases e':j<k
    ·have e2:L'[j]=L[j]:=by simp only [k2];rw [Xq (by omega)]
     rw [e2];exact a2 _ (hc j (by omega) e' l Lq)
    ·have:j=k:=by omega
     subst this
     have e2:L'[j]=L[j]:=by simp only [k2];rw [Xq (by omega)]
     rw [e2];exact a3 rfl l Lq
   ·rename_i L' D' he
    rw [he] at a1 a4
    exact ⟨a1,(λe=>by cases e),λ_=>a4 rfl⟩
  ·rename_i hk
   refine ⟨hq,λ_ x hx l Lq=>?_,λe=>by cases e⟩
   obtain ⟨j,hj,rfl⟩:=Bg.1 hx
   have hj:j<L.length:=hj
   exact hc j hj (by omega) l Lq
theorem QX {p:PP} (hv:Ca p=true) {s:List Int} (hs:s.length<=20) (hr: ∀y∈s,0<=y/\y<p.1) (Q:List Int->Prop) (hQs:Q s) (hQ: ∀x,Q x-> ∀l∈Az p.2.2.1.length,Q (Aj x (Ax p.2.2.1 l))):
  (∀y∈(Ie p.2.2.1 s).1,Q y)/\((Ie p.2.2.1 s).2.2=true-> ∀x∈(Ie p.2.2.1 s).1,∀l∈Az p.2.2.1.length,Aj x (Ax p.2.2.1 l)∈(Ie p.2.2.1 s).1)/\
   ((Ie p.2.2.1 s).2.2=false->(Ie p.2.2.1 s).1.length=3000/\ ∃z,Q z/\z∉(Ie p.2.2.1 s).1):=
 xt (valid hv) (λ_ hl=>Ou hl) Q hQ 3001 0 [s] [0] (by omega) (Mc _) (km hs hr) (λy hy=>by rw [Ad.1 hy];exact hQs) λj _ hj=>absurd hj (Fy _)
theorem oF {g:List (List Int)} {x:List Int} :some x∈g.map some↔x∈g:=by simp
theorem MW {n:Nat} {g:List (List Int)} {x:List Int} (h:Gn n (g.map some) x) {l:Int} (hl:l∈Az g.length):Gn n (g.map some) (Aj x (Ax g l)):=by
 obtain ⟨k,hk,rfl|rfl⟩:=Ql (Ou hl)
 ·rw [Qn hk];exact .mul h (oF.2 (Am hk))
 ·rw [Qm hk];exact .inv h (oF.2 (Am hk))
theorem Vw {n k:Nat} (hk:k<n):(k:Int)+1∈Az n/\ -((k:Int)+1)∈Az n:=by
 unfold Az
 exact ⟨Gy.2 ⟨k,Ff.2 hk,by simp⟩,Gy.2 ⟨k,Ff.2 hk,by simp⟩⟩
theorem LV {n:Nat} {g:List (List Int)} {L:List (List Int)} (h0:upto n∈L) (hc: ∀x∈L,∀l∈Az g.length,Aj x (Ax g l)∈L) {p:List Int} (hp:Gn n (g.map some) p):p∈L:=by
 induction hp with
 |id=>exact h0
 |mul _ hg ih=>
  obtain ⟨k,hk,rfl⟩:=Bg.1 (oF.1 hg)
  have:=hc _ ih _ (Vw hk).1
  rwa [Qn hk] at this
 |inv _ hg ih=>
  obtain ⟨k,hk,rfl⟩:=Bg.1 (oF.1 hg)
  have:=hc _ ih _ (Vw hk).2
  rwa [Qm hk] at this
structure Reach (p:PP) (L:List (List Int)) (D:List Int) (whole:Bool):Prop where
 ok:Wn p p.1.toNat L D
 nodup:L.Nodup
 first: ∃A,L=upto p.1.toNat::A
 gen: ∀x∈L,Gn p.1.toNat (p.2.2.1.map some) x
 all:whole=true-> ∀x,Gn p.1.toNat (p.2.2.1.map some) x->x∈L
 big:whole=false->L.length=3000/\ ∃z,Gn p.1.toNat (p.2.2.1.map some) z/\z∉L
theorem Ha.nodup {m:Nat} {L:List (List Int)} {Nv:List Int} (h:Ha m L Nv):L.Nodup:=
 Fa.2 λi j hi hj kA e=>by have:=h.inj hi hj e;omega
theorem cp {p:PP} (hv:Ca p=true):Reach p (Ie p.2.2.1 (upto p.1.toNat)).1 (Ie p.2.2.1 (upto p.1.toNat)).2.1 (Ie p.2.2.1 (upto p.1.toNat)).2.2:=by
 have hV:=valid hv
 have hn:=hV.n
 have hl:(upto p.1.toNat).length=p.1.toNat:=Li _
 have hr: ∀y∈upto p.1.toNat,0<=y/\y<p.1:= λy hy=>by have:=Mr.1 hy;omega
 obtain ⟨b1,b2⟩:=zi hv (by omega) hr
 rw [hl] at b1
 obtain ⟨a1,a2,a3⟩:=QX hv (by omega) hr (λx=>Gn p.1.toNat (p.2.2.1.map some) x) .id λx hx l hl=>MW hx hl
 exact ⟨b1,b1.ok.nodup,b2,a1,λhw x hx=>LV (by obtain ⟨A,e⟩:=b2;rw [e];simp) (a2 hw) hx,a3⟩
theorem db {p:PP} (hV:Valid p) {x:List Int} :x∈pR p.1.toNat (aV p.1 p.2.2.1).2 p.1.toNat 0↔Gn p.1.toNat (p.2.2.1.map some) x:=by
 have hn:=hV.n
 have hg:=uJ (ny hV).2.2
 have hS:QS p.1.toNat λg=>some g∈p.2.2.1.map some:=⟨⟨by omega,by omega⟩,λg fa=>by obtain ⟨g',e,h⟩:=hg _ fa;cases e;exact h⟩
 refine (ug (by omega) (by omega) _ 0 (by omega) (zo hV).2.2.1 x).trans ⟨λh=>(tC (by omega) (by omega) hg h.1).1 h.2.2,λh=>?_⟩
 have hp:=dW.pm hS h
 exact ⟨hp,λi hi=>absurd hi (Fy _),(tC (by omega) (by omega) hg hp).2 h⟩
theorem wv {p:PP} (hV:Valid p):(pR p.1.toNat (aV p.1 p.2.2.1).2 p.1.toNat 0).Nodup:=by
 have hn:=hV.n
 exact uh (by omega) (by omega) _ 0 (by omega) (zo hV).2.2.1
theorem count_eq {p:PP} (hv:Ca p=true):Xb p=((pR p.1.toNat (aV p.1 p.2.2.1).2 p.1.toNat 0).length:Int):=by
 unfold Xb
 rw [Ab hv,HR]
theorem EU {p:PP} (hv:Ca p=true):(Ie p.2.2.1 (upto p.1.toNat)).2.2=decide (1<=Xb p/\Xb p<=3000):=by
 have hV:=valid hv
 have h:=cp hv
 rw [count_eq hv]
 have rS:=wv hV
 have h1:=aj h.nodup λx hx=>(db hV).2 (h.gen x hx)
 obtain ⟨A,hA⟩:=h.first
 have rV:1<=(Ie p.2.2.1 (upto p.1.toNat)).1.length:=by rw [hA];simp
 cases hw:(Ie p.2.2.1 (upto p.1.toNat)).2.2 with
 |true=>
  have h2:=aj rS λx hx=>h.all hw x ((db hV).1 hx)
  have h3:=h.ok.ok.p8
  exact (Cb ⟨by omega,by omega⟩).symm
 |false=>
  obtain ⟨h2,z,h3,h4⟩:=h.big hw
  have h5:=aj (l1:=z::(Ie p.2.2.1 (upto p.1.toNat)).1) (Cg.2 ⟨h4,h.nodup⟩) λx hx=>by
   rcases Bb.1 hx with rfl|hx
   ·exact (db hV).2 h3
   ·exact (db hV).2 (h.gen x hx)
  simp only [Ay] at h5
  exact (Dx (by omega)).symm
def AJ (g:List (List Int)) (s:List Int):List (List Int):=(Az g.length).map λl=>Aj s (Ax g l)
noncomputable abbrev kP:Spec:=Gk (.pair Iw (.pair tL .unit)) nf false true (λx=>Ca x.1=true/\List.length x.2.1<=20/\ ∀y∈x.2.1,0<=y/\y<x.1.1) (λx=>AJ x.1.2.2.1 x.2.1)
abbrev EX:Type:=List (List Int)×List Int×List Int×List Int
def cL (g:List (List Int)) (k:Int) (x:List Int) (d:Int):List Int->EX->List Int->EX×List Int
 | [],s,row=>(s,row)
 |l::ls,s,row=>if Aj x (Ax g l)∈s.1 then cL g k x d ls s (row++ [(s.1.idxOf (Aj x (Ax g l)):Int)])
  else cL g k x d ls (s.1++ [Aj x (Ax g l)],s.2.1++ [d+1],s.2.2.1++ [k],s.2.2.2++ [l]) (row++ [(s.1.length:Int)])
def dD (g:List (List Int)) (ls:List Int):Nat->Nat->EX->List (List Int)->EX×List (List Int)
 |0,_,s,N=>(s,N)
 |f+1,k,s,N=>if k<s.1.length then dD g ls f (k+1) (cL g (k:Int) (s.1.getD k []) (s.2.1.getD k 0) ls s []).1 (N++ [(cL g (k:Int) (s.1.getD k []) (s.2.1.getD k 0) ls s []).2]) else (s,N)
def jr (key:ByteArray):List (List Int)->Nat->Option Int
 | [],_=>none
 |x::r,i=>if Tp x=key then some (i:Int) else jr key r (i+1)
def Zs (L:List (List Int)):ByteArray->Option Int:= λkey=>jr key L 0
def Amy (p:PP) (r:EX×List (List Int)):ic.den:=(p,r.1.1,r.1.2.1,Zs r.1.1,r.1.2.2.1,r.1.2.2.2,r.2,())
def Ig (p:PP):ic.den:=Amy p (dD p.2.2.1 (Az p.2.2.1.length) 3001 0 ([upto p.1.toNat],[0],[0],[0]) [])
noncomputable def Db (p:PP):Bool:=Ca p&&(Ie p.2.2.1 (upto p.1.toNat)).2.2
noncomputable abbrev Nf:Spec:=Gk (.pair Iw .unit) (.pair (.optr ic) (.pair .bool .unit)) true false (λx=>Gl x.1) (λx=>if Db x.1=true then (some (Ig x.1),true,()) else (none,false,()))
abbrev JI:Type:=Int×Int×ByteArray×List (List Int)×List (List Int)×PUnit
theorem Ah0 (p:Int×ByteArray×List (List Int)×Unit) (s:List Int) (P:List (List Int)->Prop):(∃(y3:List Int),Oh.fn ((↑p.2.2.1.length:Int),())=some y3/\0=0/\0=([]:List Int).length/\Dn (λ(v4:JI) (k5:JI->Prop)=>Br (decide (v4.1<(↑y3.length:Int))) (∃(y6:Int),idx y3 v4.1=some y6/\ ∃(y7:List Int),Kb.fn (v4.2.2.2.1,y6,())=some y7/\ ∃(y8:List Int),Il.fn (s,y7,())=some y8/\0=0/\v4.2.2.2.2.1.length=v4.2.2.2.2.1.length/\v4.2.2.2.2.1.length+(List.take 1 (List.drop 0 [y8])).length<=Ea/\0=0/\(v4.2.2.2.2.1++List.take 1 (List.drop 0 [y8])).length=(v4.2.2.2.2.1++List.take 1 (List.drop 0 [y8])).length/\k5 (IntKind.i64.wrap (v4.1+(1:Int)),v4.2.1,v4.2.2.1,v4.2.2.2.1,v4.2.2.2.2.1++List.take 1 (List.drop 0 [y8]),())) (P (List.take v4.2.2.2.2.1.length (List.drop 0 v4.2.2.2.2.1)))) ((0:Int),p.1,p.2.1,p.2.2.1,[],PUnit.unit))=fnW Fl (look [(139,Oh),(135,Kb),(134,Il)]) kP Tryz.f143 (p,s,()) P:=by kernel_rfl
theorem Ag5 (p:PP) (s:List Int) (h:Ca p=true/\s.length<=20/\ ∀y∈s,0<=y/\y<p.1):fnW Fl (look [(139,Oh),(135,Kb),(134,Il)]) kP Tryz.f143 (p,s,()) (λ(z:List (List Int))=>z=AJ p.2.2.1 s):=by
 obtain ⟨hv,hs,hr⟩:=h
 have hV:=valid hv
 have hf:=hV.p8
 refine Eq.mp (Ah0 p s _) ⟨Az p.2.2.1.length,Ab ⟨Int.natCast_nonneg _,by show ((p.2.2.1.length:Nat):Int)<=8;omega⟩,rfl,rfl,?_⟩
 have hL:=Rj p.2.2.1.length
 refine Bo (Az p.2.2.1.length).length (λv=>v.1) (λj v=>v=((j:Int),p.1,p.2.1,p.2.2.1,((Az p.2.2.1.length).take j).map (λl=>Aj s (Ax p.2.2.1 l)),())) rfl (by simp) ?_
 rintro j v K hj hi rfl hK
 dsimp only
 refine Br.dec (λhl=>?_) λhl=>?_
 ·have hl:j<(Az p.2.2.1.length).length:=by omega
  have hlj:=Ou (Am hl)
  obtain ⟨h1,h2⟩:=pN hV hlj
  refine ⟨_,Bn hl,_,Ab ⟨hlj,hf.2,hV.perm⟩,_,Ab ⟨hs,λy hy=>by have:=hr y hy;show 0<=y/\y<((Ax p.2.2.1 (Az p.2.2.1.length)[j]).length:Int);omega⟩,rfl,rfl,?_,rfl,rfl,?_⟩
  ·show (((Az p.2.2.1.length).take j).map _).length+1<=4294967296
   rw [Dk,Dm]
   omega
  ·rw [Bj (by omega)]
   refine hK hl _ rfl ?_
   have e:(Az p.2.2.1.length).take (j+1)=(Az p.2.2.1.length).take j++ [(Az p.2.2.1.length)[j]]:=by
    rw [Kq,Ac hl,Qb]
   rw [e,Oz]
   rfl
 ·have:j=(Az p.2.2.1.length).length:=by omega
  subst this
  rw [Dr,Be,Be]
  rfl
theorem IX:Sound Tryz.prog 143 kP:=
 Sound.Gk Dl (Au dN (Au jQ (Au Ox Bl))) mixed Tryz.func143 (by kernel_rfl) (by kernel_rfl) λx h=>Ag5 x.1 x.2.1 h
theorem Ke {α:Type} {xs ys:List α} {i:Nat} {d:α} (h:i<xs.length):(xs++ys).getD i d=xs.getD i d:=by
 rw [Ak,Ak,At h]
theorem kv {α:Type} {xs:List α} {x d:α} :(xs++ [x]).getD xs.length d=x:=by
 rw [Ak,As (Aq _),Nat.sub_self];rfl
theorem Es {α:Type} {xs:List α} {i:Nat} {d:α} (h:i<xs.length):xs.getD i d=xs[i]:=by
 rw [Ak,Ac h];rfl
structure Lv (g:List (List Int)) (ls:List Int) (k:Nat) (L:List (List Int)) (D:List Int):Prop where
 len:D.length=L.length
 pos:0<L.length
 mono: ∀i j,i<=j->j<L.length->D.getD i 0<=D.getD j 0
 NB:k<L.length-> ∀j,j<L.length->D.getD j 0<=D.getD k 0+1
 par: ∀j,0<j->j<L.length-> ∃i l,i<j/\l∈ls/\L.getD j []=Aj (L.getD i []) (Ax g l)/\D.getD j 0=D.getD i 0+1
 zero:D.getD 0 0=0
theorem Lv.add {g:List (List Int)} {ls:List Int} {k:Nat} {L:List (List Int)} {D:List Int} (h:Lv g ls k L D) (hk:k<L.length) {l:Int} (hl:l∈ls):
  Lv g ls k (L++ [Aj (L.getD k []) (Ax g l)]) (D++ [D.getD k 0+1]):=by
 have hlen:=h.len
 have hD: ∀i,i<L.length->(D++ [D.getD k 0+1]).getD i 0=D.getD i 0:= λi hi=>Ke (by omega)
 have hDl:(D++ [D.getD k 0+1]).getD L.length 0=D.getD k 0+1:=by rw [<-hlen];exact kv
 refine ⟨by simp [hlen],by simp,λi j kA hj=>?_,λ_ j hj=>?_,λj h0 hj=>?_,?_⟩
 ·rw [Aw,Bq] at hj
  by_cases e:j=L.length
  ·subst e
   rw [hDl]
   by_cases e':i=L.length
   ·subst e';rw [hDl];exact Kl _
   ·rw [hD i (by omega)]
    exact h.NB hk i (by omega)
  ·rw [hD i (by omega),hD j (by omega)]
   exact h.mono i j kA (by omega)
 ·rw [Aw,Bq] at hj
  rw [hD k hk]
  by_cases e:j=L.length
  ·subst e;rw [hDl];exact Kl _
  ·rw [hD j (by omega)];exact h.NB hk j (by omega)
 ·rw [Aw,Bq] at hj
  by_cases e:j=L.length
  ·subst e
   exact ⟨k,l,hk,hl,by rw [kv,Ke hk],by rw [hDl,hD k hk]⟩
  ·obtain ⟨i,l',h1,h2,h3,h4⟩:=h.par j h0 (by omega)
   exact ⟨i,l',h1,h2,by rw [Ke (by omega),Ke (by omega)];exact h3,by rw [hD j (by omega),hD i (by omega)];exact h4⟩
 ·rw [hD 0 h.pos];exact h.zero
theorem sU {g:List (List Int)} {ls:List Int} {k:Nat} : ∀(SO:List Int) (L:List (List Int)) (D:List Int),(∀l∈SO,l∈ls)->Lv g ls k L D->k<L.length-> ∀ {x:List Int} {d:Int},x=L.getD k []->d=D.getD k 0->
  Lv g ls k (Iy g x d SO L D).1 (Iy g x d SO L D).2.1/\(∃A,(Iy g x d SO L D).1=L++A)/\(∃A,(Iy g x d SO L D).2.1=D++A)/\
  ((Iy g x d SO L D).2.2=true-> ∀l∈SO,∃j,j<(Iy g x d SO L D).1.length/\(Iy g x d SO L D).1.getD j []=Aj x (Ax g l)/\(Iy g x d SO L D).2.1.getD j 0<=d+1)
 | [],L,D,_,h,_,x,d,_,_=>⟨h,⟨[],by simp [Iy]⟩,⟨[],by simp [Iy]⟩,λ_ l hl=>by cases hl⟩
 |l::SO,L,D,hs,h,hk,x,d,hx,hd=>by
  have xP: ∀l∈SO,l∈ls:= λl' h'=>hs l' (Ap _ h')
  have hlen:=h.len
  simp only [Iy]
  split
  ·rename_i hm
   obtain ⟨a1,⟨A,a2⟩,⟨A',a3⟩,a4⟩:=sU SO L D xP h hk hx hd
   refine ⟨a1,⟨A,a2⟩,⟨A',a3⟩,λe l' Lq=>?_⟩
   rcases Bb.1 Lq with rfl|Lq
   ·obtain ⟨j,hj,hjx⟩:=Bg.1 hm
    refine ⟨j,by rw [a2,Aw];omega,by rw [a2,Ke hj,Es hj];exact hjx,?_⟩
    rw [a3,Ke (by omega),hd]
    exact h.NB hk j hj
   ·exact a4 e l' Lq
  ·split
   ·exact ⟨h,⟨[],by simp⟩,⟨[],by simp⟩,λe=>by cases e⟩
   ·have LX:=h.add hk (hs l (by simp))
    rw [<-hx,<-hd] at LX
    obtain ⟨a1,⟨A,a2⟩,⟨A',a3⟩,a4⟩:=sU SO (L++ [Aj x (Ax g l)]) (D++ [d+1]) xP LX (by rw [Aw];omega) (x:=x) (d:=d) (by rw [Ke hk];exact hx) (by rw [Ke (by omega)];exact hd)
    refine ⟨a1,⟨_::A,by rw [a2,Bm];rfl⟩,⟨_::A',by rw [a3,Bm];rfl⟩,λe l' Lq=>?_⟩
    rcases Bb.1 Lq with rfl|Lq
    ·refine ⟨L.length,by rw [a2,Aw,Aw];simp only [Bq];omega,?_,?_⟩
     ·rw [a2,Ke (by simp),kv]
     ·rw [a3,Ke (by simp [hlen]),<-hlen,kv]
      exact Kl _
    ·exact a4 e l' Lq
structure pf (g:List (List Int)) (ls:List Int) (L:List (List Int)) (D:List Int):Prop where
 len:D.length=L.length
 pos:0<L.length
 zero:D.getD 0 0=0
 par: ∀j,0<j->j<L.length-> ∃i l,i<j/\l∈ls/\L.getD j []=Aj (L.getD i []) (Ax g l)/\D.getD j 0=D.getD i 0+1
 step: ∀i,i<L.length-> ∀l∈ls,∃j,j<L.length/\L.getD j []=Aj (L.getD i []) (Ax g l)/\D.getD j 0<=D.getD i 0+1
theorem EK {g:List (List Int)} {ls:List Int} : ∀(f k:Nat) (L:List (List Int)) (D:List Int),3001<=f+k->Lv g ls k L D->k<=L.length->
  (∀i,i<k-> ∀l∈ls,∃j,j<L.length/\L.getD j []=Aj (L.getD i []) (Ax g l)/\D.getD j 0<=D.getD i 0+1)->
  (Lo g ls f k L D).2.2=true->(Lo g ls f k L D).1.length<=3000->pf g ls (Lo g ls f k L D).1 (Lo g ls f k L D).2.1
 |0,k,L,D,hf,h,hkL,hc,hw,h3=>by
  simp only [Lo] at h3⊢
  omega
 |f+1,k,L,D,hf,h,hkL,hc,hw,h3=>by
  simp only [Lo] at hw h3⊢
  split
  ·rename_i hk
   rw [Ab hk] at hw h3
   obtain ⟨a1,⟨A,a2⟩,⟨A',a3⟩,a4⟩:=sU (x:=L.getD k []) (d:=D.getD k 0) ls L D (λ_ h=>h) h hk rfl rfl
   have hlen:=h.len
   split
   ·rename_i L' D' he
    rw [he] at a1 a2 a3 a4
    simp only [he] at hw h3
    have a2:L'=L++A:=a2
    have a3:D'=D++A':=a3
    have a4:=a4 rfl
    dsimp only at a4
    have hLl:L.length<=L'.length:=by rw [a2,Aw];omega
    refine EK f (k+1) L' D' (by omega) ⟨a1.len,a1.pos,a1.mono,λhk1 j hj=>?_,a1.par,a1.zero⟩ (by omega) (λi hi l hl=>?_) hw h3
    ·have h1:D'.getD j 0<=D'.getD k 0+1:=a1.NB (show k<L'.length by omega) j hj
     have h2:D'.getD k 0<=D'.getD (k+1) 0:=a1.mono k (k+1) (by omega) hk1
     omega
    ·by_cases e:i=k
     ·subst e
      obtain ⟨j,b1,b2,b3⟩:=a4 l hl
      refine ⟨j,b1,?_,?_⟩
      ·rw [b2,a2,Ke (by omega)]
      ·rw [show D'.getD i 0=D.getD i 0 by rw [a3,Ke (by omega)]];exact b3
     ·obtain ⟨j,b1,b2,b3⟩:=hc i (by omega) l hl
      refine ⟨j,by omega,?_,?_⟩
      ·rw [a2,Ke (by omega),Ke (by omega)];exact b2
      ·rw [a3,Ke (by omega),Ke (by omega)];exact b3
   ·rename_i L' D' he
    simp only [he] at hw
    cases hw
  ·rename_i hk
   exact ⟨h.len,h.pos,h.zero,h.par,λi hi=>hc i (by have hi:i<L.length:=hi;omega)⟩
theorem m8 {p:PP} {s:List Int} (hv:Ca p=true) (hs:s.length<=20) (hr: ∀y∈s,0<=y/\y<p.1) (hw:(Ie p.2.2.1 s).2.2=true):
  pf p.2.2.1 (Az p.2.2.1.length) (Ie p.2.2.1 s).1 (Ie p.2.2.1 s).2.1:=by
 have hb:=(zi hv hs hr).1.ok.p8
 refine EK 3001 0 [s] [0] (by omega) ⟨rfl,by simp,λi j kA hj=>?_,λ_ j hj=>?_,λj h0 hj=>?_,rfl⟩ (Mc _) (λi hi=>absurd hi (Fy _)) hw hb
 ·have:j=0:=by simpa using hj
  subst this
  have:i=0:=by omega
  subst this
  exact Kl _
 ·have:j=0:=by simpa using hj
  subst this
  simp
 ·have:j=0:=by simpa using hj
  omega
theorem qV {p:PP} (hV:Valid p) {x:List Int} (hx: ∀y∈x,0<=y/\y<p.1) {l:Int} (hl:l∈Az p.2.2.1.length):
  -l∈Az p.2.2.1.length/\Aj (Aj x (Ax p.2.2.1 l)) (Ax p.2.2.1 (-l))=x:=by
 obtain ⟨k,hk,Pf⟩:=Ql (Ou hl)
 have hg:=fS (hV.perm _ (Am hk))
 have hgl:=hV.len _ (Am hk)
 have hn:=hV.n
 have hp:Pm p.1.toNat (p.2.2.1[k]):=⟨by omega,hg⟩
 have key: ∀q r:List Int,Pm p.1.toNat q->Pm p.1.toNat r->Aj q r=upto p.1.toNat->Aj (Aj x q) r=x:= λq r hq hr he=>by
  refine eZ (by rw [Sn,Sn]) λi h1 h2=>?_
  have hxi:=hx _ (Am h2)
  obtain ⟨xi,hxe⟩:=Ci hxi.1
  have SH:xi<p.1.toNat:=by omega
  have e1:ap (Aj q r) xi=ap (upto p.1.toNat) xi:=Et (λz=>ap z xi) he
  rw [Kr hq hr SH,l5 SH] at e1
  simp only [Aj,Tn,hxe]
  have h3:=(hq.Wl SH).1
  have h4:=(hr.Wl (hq.lt SH)).1
  rw [h3,h4,e1]
 rcases Pf with rfl|rfl
 ·refine ⟨(Vw hk).2,?_⟩
  rw [Qn hk,Qm hk]
  exact key _ _ hp hp.inv (iT hp)
 ·refine ⟨by rw [Int.neg_neg];exact (Vw hk).1,?_⟩
  rw [Int.neg_neg,Qn hk,Qm hk]
  exact key _ _ hp.inv hp (cd hp)
structure Lc (g:List (List Int)) (ls:List Int) (L:List (List Int)) (S:List Int->Prop) (d:List Int->Int):Prop where
 nn: ∀x∈L,0<=d x
 zero: ∀x∈L,d x=0↔S x
 step: ∀x∈L,∀l∈ls,d (Aj x (Ax g l))<=d x+1
 down: ∀x∈L,0<d x-> ∃l∈ls,d (Aj x (Ax g l))=d x-1
structure pe (g:List (List Int)) (ls:List Int) (L:List (List Int)):Prop where
 next: ∀x∈L,∀l∈ls,Aj x (Ax g l)∈L
 back: ∀x∈L,∀l∈ls,-l∈ls/\Aj (Aj x (Ax g l)) (Ax g (-l))=x
theorem Lc.le {g:List (List Int)} {ls:List Int} {L:List (List Int)} {S:List Int->Prop} {d d':List Int->Int} (hc:pe g ls L) (h:Lc g ls L S d) (h':Lc g ls L S d'):
  ∀(n:Nat) (x:List Int),x∈L->d' x=n->d x<=n
 |0,x,hx,e=>by
  have:=(h.zero x hx).2 ((h'.zero x hx).1 e)
  omega
 |n+1,x,hx,e=>by
  obtain ⟨l,hl,hd⟩:=h'.down x hx (by omega)
  obtain ⟨b1,b2⟩:=hc.back x hx l hl
  have h1:=Lc.le hc h h' n _ (hc.next x hx l hl) (by omega)
  have h2:=h.step _ (hc.next x hx l hl) _ b1
  rw [b2] at h2
  omega
theorem Lc.eq {g:List (List Int)} {ls:List Int} {L:List (List Int)} {S:List Int->Prop} {d d':List Int->Int} (hc:pe g ls L) (h:Lc g ls L S d) (h':Lc g ls L S d') {x:List Int} (hx:x∈L):d x=d' x:=by
 have n1:=h.nn x hx
 have n2:=h'.nn x hx
 have h1:=Lc.le hc h h' (d' x).toNat x hx (by omega)
 have h2:=Lc.le hc h' h (d x).toNat x hx (by omega)
 omega
theorem Lc.NB {g:List (List Int)} {ls:List Int} {L:List (List Int)} {S:List Int->Prop} {d:List Int->Int} (hc:pe g ls L) (h:Lc g ls L S d) {x:List Int} (hx:x∈L) {l:Int} (hl:l∈ls):
  d x-1<=d (Aj x (Ax g l)):=by
 obtain ⟨b1,b2⟩:=hc.back x hx l hl
 have h2:=h.step _ (hc.next x hx l hl) _ b1
 rw [b2] at h2
 omega
def Lw (L:List (List Int)) (D:List Int) (x:List Int):Int:=if x∈L then D.getD (L.idxOf x) 0 else-1
theorem Mi {L:List (List Int)} (hn:L.Nodup) {j:Nat} (hj:j<L.length):L.idxOf (L.getD j [])=j:=by
 rw [Es hj]
 exact hn.idxOf_getElem j hj
theorem Nk {L:List (List Int)} {j:Nat} (hj:j<L.length):L.getD j []∈L:=by rw [Es hj];exact Am hj
theorem iY {L:List (List Int)} {D:List Int} (hn:L.Nodup) {j:Nat} (hj:j<L.length):Lw L D (L.getD j [])=D.getD j 0:=by
 unfold Lw
 rw [Ab (Nk hj),Mi hn hj]
theorem ly {p:PP} (hV:Valid p) {m:Nat} {L:List (List Int)} {D:List Int} (hb:Wn p m L D) (h:pf p.2.2.1 (Az p.2.2.1.length) L D):pe p.2.2.1 (Az p.2.2.1.length) L where
 next x hx l hl:=by
  obtain ⟨i,hi,rfl⟩:=Bg.1 hx
  obtain ⟨j,h1,h2,_⟩:=h.step i hi l hl
  rw [Es hi] at h2
  rw [<-h2]
  exact Nk h1
 back x hx l hl:=qV hV (hb.row x hx) hl
theorem js {p:PP} (hV:Valid p) {m:Nat} {L:List (List Int)} {D:List Int} (hb:Wn p m L D) (h:pf p.2.2.1 (Az p.2.2.1.length) L D):
  Lc p.2.2.1 (Az p.2.2.1.length) L (λx=>x=L.getD 0 []) (Lw L D) where
 nn x hx:=by
  obtain ⟨i,hi,rfl⟩:=Bg.1 hx
  rw [<-Es (d:= []) hi,iY hb.ok.nodup hi]
  have:=hb.dep i (by rw [hb.len];exact hi)
  rw [Es (by rw [hb.len];exact hi)]
  omega
 zero x hx:=by
  obtain ⟨i,hi,rfl⟩:=Bg.1 hx
  rw [<-Es (d:= []) hi,iY hb.ok.nodup hi]
  constructor
  ·intro h0
   by_cases e:i=0
   ·rw [e]
   ·obtain ⟨k,l,h1,_,_,h4⟩:=h.par i (by omega) hi
    have hk:k<D.length:=by rw [hb.len];omega
    have:=hb.dep k hk
    rw [<-Es (d:=0) hk] at this
    omega
  ·intro e
   have:i=0:=by
    have h1:=Mi hb.ok.nodup hi
    have h2:=Mi hb.ok.nodup h.pos
    rw [e,h2] at h1
    exact h1.symm
   rw [this]
   exact h.zero
 step x hx l hl:=by
  obtain ⟨i,hi,rfl⟩:=Bg.1 hx
  rw [<-Es (d:= []) hi,iY hb.ok.nodup hi]
  obtain ⟨j,h1,h2,h3⟩:=h.step i hi l hl
  rw [<-h2,iY hb.ok.nodup h1]
  exact h3
 down x hx h0:=by
  obtain ⟨i,hi,rfl⟩:=Bg.1 hx
  rw [<-Es (d:= []) hi,iY hb.ok.nodup hi] at h0⊢
  have hi0:0<i:=by
   rcases Ue i with e|e
   ·subst e;rw [h.zero] at h0;omega
   ·exact e
  obtain ⟨k,l,h1,h2,h3,h4⟩:=h.par i hi0 hi
  have hk:k<L.length:=by omega
  obtain ⟨b1,b2⟩:=qV hV (hb.row _ (Nk hk)) h2
  refine ⟨-l,b1,?_⟩
  rw [h3,b2,iY hb.ok.nodup hk]
  omega
def aX (x:Int):List Int->List Int×List Int->List Int×List Int
 | [],s=>s
 |t::r,s=>if s.1.getD t.toNat 0<0 then aX x r (s.1.set t.toNat (s.1.getD x.toNat 0+1),s.2++ [t]) else aX x r s
def TZ (N:Nat->List Int):Nat->List Int->List Int->List Int
 |0,out,_=>out
 |_+1,out,[]=>out
 |f+1,out,x::q=>TZ N f (aX x (N x.toNat) (out,q)).1 (aX x (N x.toNat) (out,q)).2
def YI (S:Nat->Bool) (m:Nat):List Int:=(List.range m).map λi=>if S i=true then 0 else-1
def dq0 (S:Nat->Bool) (m:Nat):List Int:=((List.range m).filter S).map λ(i:Nat)=>(i:Int)
def rX (N:Nat->List Int) (S:Nat->Bool) (m:Nat):List Int:=TZ N (m+1) (YI S m) (dq0 S m)
def fO (out:List Int):Nat:=out.countP λv=>decide (v<0)
theorem eo {xs:List Int} {i j:Nat} {v:Int} (hj:j<xs.length):(xs.set i v).getD j 0=if i=j then v else xs.getD j 0:=by
 rw [Vt]
 by_cases e:i=j
 ·subst e;rw [Ab ⟨rfl,hj⟩,Ab rfl]
 ·rw [Ai λh=>e h.1,Ai e]
theorem HF {xs:List Int} {i:Nat} {v:Int} (hi:i<xs.length) (h:xs.getD i 0<0) (hv:0<=v):fO (xs.set i v)+1=fO xs:=by
 unfold fO
 rw [List.countP_set hi]
 rw [Aeu hi] at h
 have hp:0<xs.countP λv=>decide (v<0):=List.countP_pos_iff.2 ⟨xs[i],Am hi,Cb h⟩
 simp only [Cb h,Pl]
 rw [Ai (by simp;omega)]
 omega
structure DI (N:Nat->List Int) (S:Nat->Bool) (m:Nat) (w:Nat->Prop) (out q:List Int):Prop where
 len:out.length=m
 ge: ∀i,i<m-> -1<=out.getD i 0
 inq: ∀y∈q,0<=y/\y<m/\0<=out.getD y.toNat 0
 src: ∀i,i<m->S i=true->out.getD i 0=0
 Agh: ∀i,i<m->out.getD i 0=0->S i=true
 par: ∀i,i<m->0<out.getD i 0-> ∃j,j<m/\(i:Int)∈N j/\out.getD j 0=out.getD i 0-1
 done: ∀i,i<m->0<=out.getD i 0->(i:Int)∉q-> ¬w i-> ∀t∈N i,0<=out.getD t.toNat 0/\out.getD t.toNat 0<=out.getD i 0+1
 ord:q.Pairwise λa b=>out.getD a.toNat 0<=out.getD b.toNat 0
structure DX (N:Nat->List Int) (S:Nat->Bool) (m:Nat) (x:Nat) (d:Int) (out q:List Int):Prop where
 base:DI N S m (λi=>i=x) out q
 lt:x<m
 Wl:out.getD x 0=d
 d0:0<=d
 lo: ∀y∈q,d<=out.getD y.toNat 0
 hi: ∀i,i<m->out.getD i 0<=d+1
def lV (N:Nat->List Int) (m:Nat):Prop:= ∀i,i<m-> ∀t∈N i,0<=t/\t<m
theorem RE {N:Nat->List Int} {S:Nat->Bool} {m x:Nat} {d:Int} {out q:List Int} (hr:lV N m) (h:DX N S m x d out q) {t:Int} (ht:t∈N x) (htm:0<=t/\t<m) (rT:out.getD t.toNat 0<0):
  DX N S m x d (out.set t.toNat (d+1)) (q++ [t]):=by
 obtain ⟨⟨b1,b2,b3,b4,b5,b6,b7,b8⟩,h1,h2,h3,h4,h5⟩:=h
 obtain ⟨tn,rfl⟩:=Ci htm.1
 simp only [Ae] at rT⊢
 have htn:tn<m:=by omega
 have hg: ∀i,i<m->(out.set tn (d+1)).getD i 0=if tn=i then d+1 else out.getD i 0:= λi hi=>eo (by omega)
 have Jd: ∀i,0<=out.getD i 0->tn≠i:= λi hi e=>by subst e;omega
 have hq: ∀y∈q,(out.set tn (d+1)).getD y.toNat 0=out.getD y.toNat 0:= λy hy=>by
  have:=b3 y hy
  rw [hg _ (by omega),Ai (Jd _ this.2.2)]
 refine ⟨⟨by rw [Co];exact b1,λi hi=>?_,λy hy=>?_,λi hi hs=>?_,λi hi h0=>?_,λi hi h0=>?_,λi hi h0 hn hw=>?_,?_⟩,h1,?_,h3,λy hy=>?_,λi hi=>?_⟩
 ·rw [hg i hi];split
  ·omega
  ·exact b2 i hi
 ·rcases Ba.1 hy with hy|hy
  ·rw [hq y hy];exact b3 y hy
  ·rw [Ad.1 hy]
   refine ⟨by omega,by omega,?_⟩
   rw [hg _ (by omega),Ab (by omega)];omega
 ·have:=b4 i hi hs
  rw [hg i hi,Ai (Jd i (by omega))];exact this
 ·rw [hg i hi] at h0
  split at h0
  ·omega
  ·exact b5 i hi h0
 ·rw [hg i hi] at h0⊢
  by_cases e:tn=i
  ·subst e
   rw [Ab rfl]
   exact ⟨x,h1,ht,by rw [hg x h1,Ai (Jd x (by omega)),h2];omega⟩
  ·rw [Ai e] at h0⊢
   obtain ⟨j,j1,j2,j3⟩:=b6 i hi h0
   exact ⟨j,j1,j2,by rw [hg j j1,Ai (Jd j (by omega))];exact j3⟩
 ·rw [hg i hi] at h0⊢
  have Vv: ¬tn=i:= λe=>hn (by rw [<-e];simp)
  rw [Ai Vv] at h0⊢
  intro t qR
  obtain ⟨c1,c2⟩:=b7 i hi h0 (λh=>hn (Bi _ h)) hw t qR
  have:=hr i hi t qR
  rw [hg _ (by omega),Ai (Jd _ c1)]
  exact ⟨c1,c2⟩
 ·refine dV.2 ⟨?_,List.pairwise_singleton _ _,λa ha b hb=>?_⟩
  ·refine b8.imp_of_mem λha hb h=>?_
   rw [hq _ ha,hq _ hb];exact h
  ·rw [Ad.1 hb,hq _ ha,hg _ (by omega),Ab (by omega)]
   have:=b3 a ha
   exact h5 _ (by omega)
 ·rw [hg x h1,Ai (Jd x (by omega))];exact h2
 ·rcases Ba.1 hy with hy|hy
  ·rw [hq y hy];exact h4 y hy
  ·rw [Ad.1 hy,hg _ (by omega),Ab (by omega)];omega
 ·rw [hg i hi];split
  ·exact Kl _
  ·exact h5 i hi
theorem ZQ {N:Nat->List Int} {S:Nat->Bool} {m x:Nat} {d:Int} (hr:lV N m): ∀(ts:List Int) (out q:List Int),(∀t∈ts,t∈N x)->DX N S m x d out q->
  DX N S m x d (aX x ts (out,q)).1 (aX x ts (out,q)).2/\(aX x ts (out,q)).2.length+fO (aX x ts (out,q)).1=q.length+fO out/\
  (∀t∈ts,0<=(aX x ts (out,q)).1.getD t.toNat 0)/\(∀i,i<m->0<=out.getD i 0->(aX x ts (out,q)).1.getD i 0=out.getD i 0)
 | [],out,q,_,h=>⟨h,rfl,(λt ht=>nomatch ht),λ_ _ _=>rfl⟩
 |t::ts,out,q,hs,h=>by
  have xP: ∀t∈ts,t∈N x:= λt' h'=>hs t' (Ap _ h')
  have htm:=hr x h.lt t (hs t (by simp))
  simp only [aX]
  have hx0:out.getD ((x:Nat):Int).toNat 0=d:=by rw [Ae];exact h.Wl
  by_cases rT:out.getD t.toNat 0<0
  ·rw [Ab rT,hx0]
   have h1:=RE hr h (hs t (by simp)) htm rT
   have hd:=h.d0
   have hlen:=h.base.len
   obtain ⟨a1,a2,a3,a4⟩:=ZQ hr ts _ _ xP h1
   have hti:(out.set t.toNat (d+1)).getD t.toNat 0=d+1:=by rw [eo (by omega),Ab rfl]
   refine ⟨a1,?_,λt' qR=>?_,λi hi h0=>?_⟩
   ·have:=HF (xs:=out) (i:=t.toNat) (v:=d+1) (by omega) rT (by omega)
    rw [a2,Aw,Bq]
    omega
   ·rcases Bb.1 qR with rfl|qR
    ·rw [a4 _ (by omega) (by omega),hti];omega
    ·exact a3 t' qR
   ·have Jd: ¬t.toNat=i:= λe=>by subst e;omega
    have e:(out.set t.toNat (d+1)).getD i 0=out.getD i 0:=by rw [eo (by omega),Ai Jd]
    rw [a4 i hi (by rw [e];exact h0),e]
  ·rw [Ai rT]
   obtain ⟨a1,a2,a3,a4⟩:=ZQ hr ts _ _ xP h
   refine ⟨a1,a2,λt' qR=>?_,a4⟩
   rcases Bb.1 qR with rfl|qR
   ·rw [a4 _ (by omega) (by omega)];omega
   ·exact a3 t' qR
structure DQ (N:Nat->List Int) (S:Nat->Bool) (m:Nat) (out q:List Int):Prop where
 base:DI N S m (λ_=>False) out q
 hi: ∀x q',q=x::q'-> ∀i,i<m->out.getD i 0<=out.getD x.toNat 0+1
theorem RD {N:Nat->List Int} {S:Nat->Bool} {m:Nat} (hr:lV N m) {x:Int} {out q:List Int} (h:DQ N S m out (x::q)):
  DQ N S m (aX x (N x.toNat) (out,q)).1 (aX x (N x.toNat) (out,q)).2/\(aX x (N x.toNat) (out,q)).2.length+fO (aX x (N x.toNat) (out,q)).1=q.length+fO out/\ ∀i,i<m->(aX x (N x.toNat) (out,q)).1.getD i 0<=out.getD x.toNat 0+1:=by
 obtain ⟨b,hi⟩:=h
 obtain ⟨h1,h2,h3⟩:=b.inq x (by simp)
 obtain ⟨xn,rfl⟩:=Ci h1
 simp only [Ae] at h3⊢
 obtain ⟨o1,o2⟩:=List.pairwise_cons.1 b.ord
 simp only [Ae] at o1
 have hx:DX N S m xn (out.getD xn 0) out q:=by
  refine ⟨⟨b.len,b.ge,λy hy=>b.inq y (Ap _ hy),b.src,b.Agh,b.par,λi hi h0 hn hw=>b.done i hi h0 (λhm=>?_) (λh=>h),o2⟩,by omega,rfl,h3,o1,?_⟩
  ·rcases Bb.1 hm with e|hm
   ·exact hw (by omega)
   ·exact hn hm
  ·have:=hi xn q rfl
   rwa [Ae] at this
 obtain ⟨a1,a2,a3,a4⟩:=ZQ hr (N xn) out q (λ_ h=>h) hx
 obtain ⟨c,c1,c2,c3,c4,c5⟩:=a1
 refine ⟨⟨⟨c.len,c.ge,c.inq,c.src,c.Agh,c.par,λi gM h0 hn _ t ht=>?_,c.ord⟩,λy q' e i hi=>?_⟩,a2,c5⟩
 ·by_cases e:i=xn
  ·subst e
   refine ⟨a3 t ht,?_⟩
   rw [c2]
   have:=hr i gM t ht
   exact c5 _ (by omega)
  ·exact c.done i gM h0 hn e t ht
 ·have h4:=c4 y (by rw [e];simp)
  have h5:=c5 i hi
  omega
theorem ZO {N:Nat->List Int} {S:Nat->Bool} {m:Nat} (hr:lV N m) {x:Int} {out q:List Int} (h:DQ N S m out (x::q)):
  DQ N S m (aX x (N x.toNat) (out,q)).1 (aX x (N x.toNat) (out,q)).2/\(aX x (N x.toNat) (out,q)).2.length+fO (aX x (N x.toNat) (out,q)).1=q.length+fO out:=⟨(RD hr h).1,(RD hr h).2.1⟩
theorem ZP {N:Nat->List Int} {S:Nat->Bool} {m:Nat} (hr:lV N m): ∀(f:Nat) (out q:List Int),q.length+fO out<f->DQ N S m out q->DQ N S m (TZ N f out q) []
 |0,out,q,hf,_=>absurd hf (Fy _)
 |f+1,out,[],_,h=>h
 |f+1,out,x::q,hf,h=>by
  obtain ⟨h1,h2⟩:=ZO hr h
  simp only [TZ]
  simp only [Ay] at hf
  exact ZP hr f _ _ (by omega) h1
theorem bV {S:Nat->Bool} {m i:Nat} (hi:i<m):(YI S m).getD i 0=if S i=true then 0 else-1:=by
 unfold YI
 rw [Ak,Fo,Sh hi]
 rfl
theorem oh {S:Nat->Bool} {m:Nat} {y:Int} :y∈dq0 S m↔ ∃i:Nat,y=i/\i<m/\S i=true:=by
 unfold dq0
 simp only [Bf,Cf,Ff]
 constructor
 ·rintro ⟨i,⟨h1,h2⟩,rfl⟩;exact ⟨i,rfl,h1,h2⟩
 ·rintro ⟨i,rfl,h1,h2⟩;exact ⟨i,⟨h1,h2⟩,rfl⟩
theorem EW (N:Nat->List Int) (S:Nat->Bool) (m:Nat):DQ N S m (YI S m) (dq0 S m):=by
 have hle: ∀i,i<m->(YI S m).getD i 0<=0:= λi hi=>by rw [bV hi];split<;>omega
 refine ⟨⟨by simp [YI],λi hi=>?_,λy hy=>?_,λi hi hs=>?_,λi hi h0=>?_,λi hi h0=>?_,λi hi h0 hn _=>?_,?_⟩,λx q' e i hi=>?_⟩
 ·rw [bV hi];split<;>omega
 ·obtain ⟨i,rfl,h1,h2⟩:=oh.1 hy
  rw [Ae,bV h1,Ab h2]
  exact ⟨by omega,by omega,Kl _⟩
 ·rw [bV hi,Ab hs]
 ·rw [bV hi] at h0
  split at h0
  ·assumption
  ·omega
 ·have:=hle i hi;omega
 ·rw [bV hi] at h0
  split at h0
  ·rename_i hs
   exact absurd (oh.2 ⟨i,rfl,hi,hs⟩) hn
  ·omega
 ·refine iA (R:= λ_ _=>True) (λha hb _=>?_) (List.pairwise_of_forall λ_ _=>trivial)
  obtain ⟨i,rfl,h1,h2⟩:=oh.1 ha
  obtain ⟨j,rfl,h3,h4⟩:=oh.1 hb
  rw [Ae,Ae,bV h1,bV h3,Ab h2,Ab h4]
  exact Kl _
 ·obtain ⟨j,rfl,h3,h4⟩:=oh.1 (show x∈dq0 S m by rw [e];simp)
  have:=hle i hi
  rw [Ae,bV h3,Ab h4]
  omega
theorem Abd {S:Nat->Bool} {m:Nat} :(dq0 S m).length+fO (YI S m)=m:=by
 unfold dq0 fO YI
 rw [Dk,List.countP_map]
 have h:(List.range m).countP ((λv=>decide (v<0))∘ λi=>if S i=true then (0:Int) else-1)=(List.range m).countP λi=>!S i:=by
  refine List.countP_congr λi _=>?_
  simp only [Function.comp]
  by_cases e:S i=true
  ·simp [e]
  ·simp [Fc _▸e]
 rw [h,<-List.countP_eq_length_filter]
 have:=List.length_eq_countP_add_countP (l:=List.range m) S
 rw [List.length_range] at this
 have e:(List.range m).countP (λa=>decide ¬S a=true)=(List.range m).countP λi=>!S i:=List.countP_congr λi _=>by cases S i<;>simp
 rw [e] at this
 omega
theorem Ah9 {N:Nat->List Int} {S:Nat->Bool} {m:Nat} (hr:lV N m):DI N S m (λ_=>False) (rX N S m) []:=
 (ZP hr (m+1) _ _ (by rw [Abd];omega) (EW N S m)).base
abbrev vH:Type:=Int×Int×ByteArray×List (List Int)×List Int×List (List Int)×List Int×(ByteArray->Option Int)×List Int×List Int×Int×ByteArray×List (List Int)×List (List Int)×PUnit
abbrev vI:Type:=Int×Int×ByteArray×List (List Int)×List (List Int)×List Int×(ByteArray->Option Int)×List Int×List Int×Int×ByteArray×List (List Int)×List (List Int)×PUnit
abbrev fG:List (Nat×Nat):= [(0,1),(0,1),(0,1),(0,1),(0,1),(0,1),(0,1),(0,1),(0,1),(0,1),(0,1),(0,1),(0,0)]
abbrev Hy (p:Int×ByteArray×List (List Int)×Unit) (y4:List Int) (y2:Int) (y3:Bool) (y6:ByteArray) (y5:ByteArray):Prop:=fG=fG/\(p,false,y4,p.1,p.2.1,p.2.2.1,y2,y3,!y3,p.1,y4,p.1,p.2.1,p.2.2.1,y4,y4,y6,p.1,p.2.1,p.2.2.1,p.1,p.2.1,p.2.2.1,[y4],[(0:Int)],gx (λ(_:ByteArray)=>none) y6 (0:Int),[(0:Int)],[(0:Int)],p.1,p.2.1,p.2.2.1,([]:List (List Int)),())=(p,false,y4,p.1,p.2.1,p.2.2.1,y2,y3,!y3,p.1,y4,p.1,p.2.1,p.2.2.1,y4,y4,y5,p.1,p.2.1,p.2.2.1,p.1,p.2.1,p.2.2.1,[y4],[(0:Int)],gx (λ(_:ByteArray)=>none) y5 (0:Int),[(0:Int)],[(0:Int)],p.1,p.2.1,p.2.2.1,([]:List (List Int)),PUnit.unit)
theorem XQ (p:Int×ByteArray×List (List Int)×Unit) (P:(Option (PP×List (List Int)×List Int×(ByteArray->Option Int)×List Int×List Int×List (List Int)×Unit)×Bool×Unit)->Prop):(∃(y2:Int),Tj.fn ((p.1,p.2.1,p.2.2.1,()),())=some y2/\ ∃(y3:Bool),Ch.fn (y2,(1:Int),(3000:Int),())=some y3/\Br (!y3) (P (none,false,())) (∃(y4:List Int),Ov.fn (p.1,())=some y4/\ ∃(y5:ByteArray),Jm.fn (y4,())=some y5/\(∃(y6:List Int),Oh.fn ((↑p.2.2.1.length:Int),())=some y6/\0=0/\1= [y4].length/\0=0/\1= [(0:Int)].length/\0=0/\1= [(0:Int)].length/\0=0/\1= [(0:Int)].length/\0=0/\0=([]:List Int).length/\Dn (λ(v7:vI) (k8:vI->Prop)=>Br (decide (v7.1<(↑v7.2.2.2.2.1.length:Int))) (((0:Int)<=v7.1/\v7.1<(↑v7.2.2.2.2.1.length:Int))/\ ∃(y9:List Int),v7.2.2.2.2.1[0+v7.1.toNat]?=some y9/\ ∃(Xw:List (List Int)),kP.fn ((v7.2.1,v7.2.2.1,v7.2.2.2.1,()),y9,())=some Xw/\0=0/\0=([]:List Int).length/\0=0/\v7.2.2.2.2.1.length=v7.2.2.2.2.1.length/\0=0/\v7.2.2.2.2.2.1.length=v7.2.2.2.2.2.1.length/\0=0/\v7.2.2.2.2.2.2.2.1.length=v7.2.2.2.2.2.2.2.1.length/\0=0/\v7.2.2.2.2.2.2.2.2.1.length=v7.2.2.2.2.2.2.2.2.1.length/\0=0/\v7.2.2.2.2.2.2.2.2.2.2.2.2.1.length=v7.2.2.2.2.2.2.2.2.2.2.2.2.1.length/\Dn (λ(v11:vH) (k12:vH->Prop)=>Br (decide (v11.1<(↑Xw.length:Int))) (∃(il:List Int),idx Xw v11.1=some il/\ ∃(cJ:ByteArray),Jm.fn (il,())=some cJ/\Br (!(v11.2.2.2.2.2.2.2.1 cJ).isSome) (∃(lS:Int),Qs.fn (List.take v11.2.2.2.2.2.1.length (List.drop 0 v11.2.2.2.2.2.1),())=some lS/\0=0/\v11.2.2.2.2.2.1.length=v11.2.2.2.2.2.1.length/\v11.2.2.2.2.2.1.length+(List.take 1 (List.drop 0 [il])).length<=Ea/\((0:Int)<=v7.1/\v7.1<(↑v11.2.2.2.2.2.2.1.length:Int))/\ ∃(gA:Int),v11.2.2.2.2.2.2.1[0+v7.1.toNat]?=some gA/\0=0/\v11.2.2.2.2.2.2.1.length=v11.2.2.2.2.2.2.1.length/\v11.2.2.2.2.2.2.1.length+ [IntKind.i64.wrap (gA+(1:Int))].length<=Ea/\0=0/\v11.2.2.2.2.2.2.2.2.1.length=v11.2.2.2.2.2.2.2.2.1.length/\v11.2.2.2.2.2.2.2.2.1.length+(List.take 1 (List.drop 0 [v7.1])).length<=Ea/\ ∃(DU:Int),idx y6 v11.1=some DU/\0=0/\v11.2.2.2.2.2.2.2.2.2.1.length=v11.2.2.2.2.2.2.2.2.2.1.length/\v11.2.2.2.2.2.2.2.2.2.1.length+ [DU].length<=Ea/\0=0/\v11.2.2.2.2.1.length=v11.2.2.2.2.1.length/\v11.2.2.2.2.1.length+(List.take 1 (List.drop 0 [lS])).length<=Ea/\0=0/\(v11.2.2.2.2.1++List.take 1 (List.drop 0 [lS])).length=(v11.2.2.2.2.1++List.take 1 (List.drop 0 [lS])).length/\0=0/\(v11.2.2.2.2.2.1++List.take 1 (List.drop 0 [il])).length=(v11.2.2.2.2.2.1++List.take 1 (List.drop 0 [il])).length/\0=0/\(v11.2.2.2.2.2.2.1++ [IntKind.i64.wrap (gA+(1:Int))]).length=(v11.2.2.2.2.2.2.1++ [IntKind.i64.wrap (gA+(1:Int))]).length/\0=0/\(v11.2.2.2.2.2.2.2.2.1++List.take 1 (List.drop 0 [v7.1])).length=(v11.2.2.2.2.2.2.2.2.1++List.take 1 (List.drop 0 [v7.1])).length/\0=0/\(v11.2.2.2.2.2.2.2.2.2.1++ [DU]).length=(v11.2.2.2.2.2.2.2.2.2.1++ [DU]).length/\0=0/\v11.2.2.2.2.2.2.2.2.2.2.2.2.2.1.length=v11.2.2.2.2.2.2.2.2.2.2.2.2.2.1.length/\k12 (IntKind.i64.wrap (v11.1+(1:Int)),v11.2.1,v11.2.2.1,v11.2.2.2.1,v11.2.2.2.2.1++List.take 1 (List.drop 0 [lS]),v11.2.2.2.2.2.1++List.take 1 (List.drop 0 [il]),v11.2.2.2.2.2.2.1++ [IntKind.i64.wrap (gA+(1:Int))],gx v11.2.2.2.2.2.2.2.1 cJ lS,v11.2.2.2.2.2.2.2.2.1++List.take 1 (List.drop 0 [v7.1]),v11.2.2.2.2.2.2.2.2.2.1++ [DU],v11.2.2.2.2.2.2.2.2.2.2.1,v11.2.2.2.2.2.2.2.2.2.2.2.1,v11.2.2.2.2.2.2.2.2.2.2.2.2.1,v11.2.2.2.2.2.2.2.2.2.2.2.2.2.1,())) (0=0/\v11.2.2.2.2.1.length=v11.2.2.2.2.1.length/\v11.2.2.2.2.1.length+(List.take 1 (List.drop 0 [(v11.2.2.2.2.2.2.2.1 cJ).getD (Int.ofNat (nat_lit 0))])).length<=Ea/\0=0/\(v11.2.2.2.2.1++List.take 1 (List.drop 0 [(v11.2.2.2.2.2.2.2.1 cJ).getD (Int.ofNat (nat_lit 0))])).length=(v11.2.2.2.2.1++List.take 1 (List.drop 0 [(v11.2.2.2.2.2.2.2.1 cJ).getD (Int.ofNat (nat_lit 0))])).length/\0=0/\v11.2.2.2.2.2.1.length=v11.2.2.2.2.2.1.length/\0=0/\v11.2.2.2.2.2.2.1.length=v11.2.2.2.2.2.2.1.length/\0=0/\v11.2.2.2.2.2.2.2.2.1.length=v11.2.2.2.2.2.2.2.2.1.length/\0=0/\v11.2.2.2.2.2.2.2.2.2.1.length=v11.2.2.2.2.2.2.2.2.2.1.length/\0=0/\v11.2.2.2.2.2.2.2.2.2.2.2.2.2.1.length=v11.2.2.2.2.2.2.2.2.2.2.2.2.2.1.length/\k12 (IntKind.i64.wrap (v11.1+(1:Int)),v11.2.1,v11.2.2.1,v11.2.2.2.1,v11.2.2.2.2.1++List.take 1 (List.drop 0 [(v11.2.2.2.2.2.2.2.1 cJ).getD (Int.ofNat (nat_lit 0))]),v11.2.2.2.2.2.1,v11.2.2.2.2.2.2.1,v11.2.2.2.2.2.2.2.1,v11.2.2.2.2.2.2.2.2.1,v11.2.2.2.2.2.2.2.2.2.1,v11.2.2.2.2.2.2.2.2.2.2.1,v11.2.2.2.2.2.2.2.2.2.2.2.1,v11.2.2.2.2.2.2.2.2.2.2.2.2.1,v11.2.2.2.2.2.2.2.2.2.2.2.2.2.1,()))) (0=0/\v11.2.2.2.2.2.2.2.2.2.2.2.2.2.1.length=v11.2.2.2.2.2.2.2.2.2.2.2.2.2.1.length/\v11.2.2.2.2.2.2.2.2.2.2.2.2.2.1.length+(List.take 1 (List.drop 0 [List.take v11.2.2.2.2.1.length (List.drop 0 v11.2.2.2.2.1)])).length<=Ea/\0=0/\v11.2.2.2.2.2.1.length=v11.2.2.2.2.2.1.length/\0=0/\v11.2.2.2.2.2.2.1.length=v11.2.2.2.2.2.2.1.length/\0=0/\v11.2.2.2.2.2.2.2.2.1.length=v11.2.2.2.2.2.2.2.2.1.length/\0=0/\v11.2.2.2.2.2.2.2.2.2.1.length=v11.2.2.2.2.2.2.2.2.2.1.length/\0=0/\(v11.2.2.2.2.2.2.2.2.2.2.2.2.2.1++List.take 1 (List.drop 0 [List.take v11.2.2.2.2.1.length (List.drop 0 v11.2.2.2.2.1)])).length=(v11.2.2.2.2.2.2.2.2.2.2.2.2.2.1++List.take 1 (List.drop 0 [List.take v11.2.2.2.2.1.length (List.drop 0 v11.2.2.2.2.1)])).length/\k8 (IntKind.i64.wrap (v7.1+(1:Int)),v11.2.1,v11.2.2.1,v11.2.2.2.1,v11.2.2.2.2.2.1,v11.2.2.2.2.2.2.1,v11.2.2.2.2.2.2.2.1,v11.2.2.2.2.2.2.2.2.1,v11.2.2.2.2.2.2.2.2.2.1,v11.2.2.2.2.2.2.2.2.2.2.1,v11.2.2.2.2.2.2.2.2.2.2.2.1,v11.2.2.2.2.2.2.2.2.2.2.2.2.1,v11.2.2.2.2.2.2.2.2.2.2.2.2.2.1++List.take 1 (List.drop 0 [List.take v11.2.2.2.2.1.length (List.drop 0 v11.2.2.2.2.1)]),()))) ((0:Int),v7.2.1,v7.2.2.1,v7.2.2.2.1,[],v7.2.2.2.2.1,v7.2.2.2.2.2.1,v7.2.2.2.2.2.2.1,v7.2.2.2.2.2.2.2.1,v7.2.2.2.2.2.2.2.2.1,v7.2.2.2.2.2.2.2.2.2.1,v7.2.2.2.2.2.2.2.2.2.2.1,v7.2.2.2.2.2.2.2.2.2.2.2.1,v7.2.2.2.2.2.2.2.2.2.2.2.2.1,PUnit.unit)) (P (some ((v7.2.2.2.2.2.2.2.2.2.1,v7.2.2.2.2.2.2.2.2.2.2.1,v7.2.2.2.2.2.2.2.2.2.2.2.1,()),List.take v7.2.2.2.2.1.length (List.drop 0 v7.2.2.2.2.1),List.take v7.2.2.2.2.2.1.length (List.drop 0 v7.2.2.2.2.2.1),v7.2.2.2.2.2.2.1,List.take v7.2.2.2.2.2.2.2.1.length (List.drop 0 v7.2.2.2.2.2.2.2.1),List.take v7.2.2.2.2.2.2.2.2.1.length (List.drop 0 v7.2.2.2.2.2.2.2.2.1),List.take v7.2.2.2.2.2.2.2.2.2.2.2.2.1.length (List.drop 0 v7.2.2.2.2.2.2.2.2.2.2.2.2.1),()),true,()))) ((0:Int),p.1,p.2.1,p.2.2.1,[y4],[(0:Int)],gx (λ(_:ByteArray)=>none) y5 (0:Int),[(0:Int)],[(0:Int)],p.1,p.2.1,p.2.2.1,([]:List (List Int)),PUnit.unit))/\((∃(y6:ByteArray),Jm.fn (y4,())=some y6/\(Hy p y4 y2 y3 y6 y5))/\ ∃(y6:ByteArray),Jm.fn (y4,())=some y6/\((Hy p y4 y2 y3 y6 y5))/\((Hy p y4 y2 y3 y6 y5))/\(Hy p y4 y2 y3 y6 y5))/\((∃(y6:ByteArray),Jm.fn (y4,())=some y6/\(Hy p y4 y2 y3 y6 y5))/\ ∃(y6:ByteArray),Jm.fn (y4,())=some y6/\((Hy p y4 y2 y3 y6 y5))/\((Hy p y4 y2 y3 y6 y5))/\(Hy p y4 y2 y3 y6 y5))/\ ∃(y6:ByteArray),Jm.fn (y4,())=some y6/\(((Hy p y4 y2 y3 y6 y5))/\((Hy p y4 y2 y3 y6 y5))/\(Hy p y4 y2 y3 y6 y5))/\(((Hy p y4 y2 y3 y6 y5))/\((Hy p y4 y2 y3 y6 y5))/\(Hy p y4 y2 y3 y6 y5))/\(((Hy p y4 y2 y3 y6 y5))/\(Hy p y4 y2 y3 y6 y5))/\(((Hy p y4 y2 y3 y6 y5))/\(Hy p y4 y2 y3 y6 y5))/\((Hy p y4 y2 y3 y6 y5))/\fG=fG/\(p,false,y4,p.1,p.2.1,p.2.2.1,y2,y3,!y3,p.1,y4,p.1,p.2.1,p.2.2.1,y4,y4,y6,p.1,p.2.1,p.2.2.1,p.1,p.2.1,p.2.2.1,[y4],[(0:Int)],gx (λ(_:ByteArray)=>none) y6 (0:Int),[(0:Int)],[(0:Int)],p.1,p.2.1,p.2.2.1,([]:List (List Int)),())=(p,false,y4,p.1,p.2.1,p.2.2.1,y2,y3,!y3,p.1,y4,p.1,p.2.1,p.2.2.1,y4,y4,y5,p.1,p.2.1,p.2.2.1,p.1,p.2.1,p.2.2.1,[y4],[(0:Int)],gx (λ(_:ByteArray)=>none) y5 (0:Int),[(0:Int)],[(0:Int)],p.1,p.2.1,p.2.2.1,[],PUnit.unit)))=fnW Fl (look [(142,Tj),(100,Ch),(133,Ov),(121,Jm),(139,Oh),(143,kP),(91,Qs)]) Nf Tryz.f92 (p,()) P:=by kernel_rfl
theorem tj {g:List (List Int)} {k:Int} {x:List Int} {d:Int} : ∀(ls:List Int) (s:EX) (row:List Int) (L':List (List Int)) (D':List Int),Iy g x d ls s.1 s.2.1=(L',D',true)->
  (cL g k x d ls s row).1.1=L'/\(cL g k x d ls s row).1.2.1=D'
 | [],s,row,L',D',h=>by
  simp only [Iy,Af] at h
  exact ⟨h.1,h.2.1⟩
 |l::ls,s,row,L',D',h=>by
  simp only [Iy] at h
  simp only [cL]
  by_cases hm:Aj x (Ax g l)∈s.1
  ·rw [Ab hm] at h
   rw [Ab hm]
   exact tj ls s _ L' D' h
  ·rw [Ai hm] at h
   rw [Ai hm]
   by_cases hf:s.1.length=3000
   ·rw [Ab hf] at h
    simp at h
   ·rw [Ai hf] at h
    exact tj ls _ _ L' D' h
theorem FF {g:List (List Int)} {ls:List Int} : ∀(f k:Nat) (s:EX) (N:List (List Int)) (L':List (List Int)) (D':List Int),Lo g ls f k s.1 s.2.1=(L',D',true)->
  (dD g ls f k s N).1.1=L'/\(dD g ls f k s N).1.2.1=D'
 |0,k,s,N,L',D',h=>by
  simp only [Lo,Af] at h
  exact ⟨h.1,h.2.1⟩
 |f+1,k,s,N,L',D',h=>by
  simp only [Lo] at h
  simp only [dD]
  by_cases hk:k<s.1.length
  ·rw [Ab hk] at h
   rw [Ab hk]
   split at h
   ·rename_i L1 D1 he
    obtain ⟨a1,a2⟩:=tj (k:=(k:Int)) ls s [] L1 D1 he
    refine FF f (k+1) _ _ L' D' ?_
    rw [a1,a2]
    exact h
   ·simp at h
  ·rw [Ai hk] at h
   rw [Ai hk]
   simp only [Af] at h
   exact ⟨h.1,h.2.1⟩
theorem o9 {key:ByteArray} {x:List Int} : ∀(L:List (List Int)) (i:Nat),jr key (L++ [x]) i=if (jr key L i).isSome=true then jr key L i else if Tp x=key then some ((i+L.length:Nat):Int) else none
 | [],i=>by simp [jr]
 |y::L,i=>by
  simp only [Kj,jr]
  split
  ·rfl
  ·rw [o9 L (i+1),Ay,show i+1+L.length=i+(L.length+1) by omega]
theorem pL {x:List Int} (hx:Xy x): ∀(L:List (List Int)) (i:Nat),(∀y∈L,Xy y)->jr (Tp x) L i=if x∈L then some ((i+L.idxOf x:Nat):Int) else none
 | [],i,_=>by simp [jr]
 |y::L,i,h=>by
  have hy:=h y (by simp)
  simp only [jr]
  by_cases e:y=x
  ·subst e
   rw [Ab rfl,Ab (by simp),List.idxOf_cons_self]
   rfl
  ·rw [Ai λhk=>e (key_inj hy hx hk),pL hx L (i+1) λz hz=>h z (Ap _ hz),show List.idxOf x (y::L)=(List.idxOf x L).succ by rw [List.idxOf_cons,beq_false_of_ne e];rfl]
   have:(x∈y::L)↔(x∈L):=by simp [Hv e]
   by_cases hm:x∈L
   ·rw [Ab hm,Ab (this.2 hm),show i+1+List.idxOf x L=i+(List.idxOf x L).succ by omega]
   ·rw [Ai hm,Ai λh=>hm (this.1 h)]
theorem xZ {x:List Int} {L:List (List Int)} (hx:Xy x) (hL: ∀y∈L,Xy y):Zs L (Tp x)=if x∈L then some (L.idxOf x:Int) else none:=by
 unfold Zs
 rw [pL hx L 0 hL,Bt]
theorem xY {x:List Int} {L:List (List Int)} (hx:Xy x) (hL: ∀y∈L,Xy y) (hn:x∉L):gx (Zs L) (Tp x) (L.length:Int)=Zs (L++ [x]):=by
 funext key
 unfold gx Zs
 rw [o9,Bt]
 by_cases e:key=Tp x
 ·subst e
  rw [Ab rfl,pL hx L 0 hL,Ai hn,Ai (by simp),Ab rfl]
 ·rw [Ai e,Ai (c:=Tp x=key) λh=>e h.symm]
  split
  ·rfl
  ·rename_i h
   cases hk:jr key L 0 with
   |none=>rfl
   |some v=>rw [hk] at h;simp at h
theorem KD (p:PP):Nd (Xb p) 1 3000=Db p:=by
 unfold Db
 by_cases hv:Ca p=true
 ·rw [hv,Ek,EU hv]
  rfl
 ·have hv:Ca p=false:=by simpa using hv
  rw [hv,Cq]
  have:Xb p=0:=by unfold Xb;rw [Ai (by simp [hv])]
  rw [this]
  rfl
theorem VM (p:PP) (h:Gl p):fnW Fl (look [(142,Tj),(100,Ch),(133,Ov),(121,Jm),(139,Oh),(143,kP),(91,Qs)]) Nf Tryz.f92 (p,()) (λ(z:Option (PP×List (List Int)×List Int×(ByteArray->Option Int)×List Int×List Int×List (List Int)×Unit)×Bool×Unit)=>z=(if Db p=true then (some (Ig p),true,()) else (none,false,()))):=by
 refine Eq.mp (XQ p _) ⟨_,Ab h,_,Ab trivial,?_⟩
 show Br (!Nd (Xb p) 1 3000) _ _
 rw [KD p]
 refine Br.of (λhb=>?_) λhb=>?_
 ·rw [Ai (by simpa using hb)]
 have hw:Db p=true:=by simpa using hb
 rw [Ab hw]
 obtain ⟨hv,LZ⟩:=Cx.1 hw
 have hV:=valid hv
 have wa:=hV.p8
 have hn:=hV.n
 obtain ⟨pn,ps,g,⟨⟩⟩:=p
 dsimp only at wa hn LZ⊢
 have hI:(upto pn.toNat).length<=20:=by rw [Li];omega
 have hIr: ∀y∈upto pn.toNat,0<=y/\y<pn:= λy hy=>by have:=Mr.1 hy;omega
 have hb0:=km (p:=(pn,ps,g,())) hI hIr
 obtain ⟨ls,xL⟩: ∃ls,Az g.length=ls:=⟨_,rfl⟩
 have hll:ls.length<=16:=by rw [<-xL,Rj];omega
 have tR: ∀l∈ls,Hj (List.length g) l:= λl hl=>Ou (xL▸hl)
 have RU: ∀x:List Int,(∀y∈x,0<=y/\y<pn)->Xy x:= λx hx y hy=>by have:=hx y hy;omega
 have MJ:Lo g ls 3001 0 [upto pn.toNat] [0]=Ie g (upto pn.toNat):=by unfold Ie;rw [xL]
 have tM:gx (λ(_:ByteArray)=>(none:Option Int)) (Tp (upto pn.toNat)) 0=Zs [upto pn.toNat]:=by
  have:=xY (L:= []) (RU _ hIr) (λy hy=>by cases hy) (by simp)
  exact this
 refine ⟨upto pn.toNat,Ab ⟨by show (0:Int)<=pn;omega,by show pn<=20;omega⟩,Tp (upto pn.toNat),Ab (by show short (upto pn.toNat);unfold short;omega),⟨ls,?_,rfl,rfl,rfl,rfl,rfl,rfl,rfl,rfl,rfl,rfl,?_⟩,?_⟩
 ·refine (Ab ⟨by show (0:Int)<=((g.length:Nat):Int);omega,by show ((g.length:Nat):Int)<=8;omega⟩).trans (Et some ?_)
  show Az (((g.length:Nat):Int)).toNat=ls
  rw [Ae];exact xL
 ·obtain ⟨R,hR⟩: ∃R,dD g ls 3001 0 ([upto pn.toNat],[0],[0],[0]) []=R:=⟨_,rfl⟩
  have Au6:Ig (pn,ps,g,())=Amy (pn,ps,g,()) R:=by unfold Ig;rw [xL];exact Et _ hR
  rw [Au6]
  refine Dn.mk (λv=> ∃(k:Nat) (s:EX) (N:List (List Int)),v=((k:Int),pn,ps,g,s.1,s.2.1,Zs s.1,s.2.2.1,s.2.2.2,pn,ps,g,N,())/\k<=s.1.length/\Wn (pn,ps,g,()) (upto pn.toNat).length s.1 s.2.1/\s.2.2.1.length=s.1.length/\s.2.2.2.length=s.1.length/\N.length=k/\
    Lo g ls (3001-k) k s.1 s.2.1=Ie g (upto pn.toNat)/\dD g ls (3001-k) k s N=R) (λv=>3001-v.1.toNat)
   ⟨0,([upto pn.toNat],[0],[0],[0]),[],?_,by simp,hb0,rfl,rfl,rfl,MJ,hR⟩ ?_
  ·rw [<-tM];rfl
  rintro v ⟨k,s0,N,rfl,h1,h2,h3,h4,h5,h6,h7⟩
  obtain ⟨L0,D0,P0,B0⟩:=s0
  dsimp only at h1 h2 h3 h4 h6 h7⊢
  have hL0:=h2.ok.p8
  have hD0:=h2.len
  obtain ⟨f,hf⟩: ∃f,3001-k=f+1:=⟨3000-k,by omega⟩
  refine Br.dec (λhl=>?_) λhl=>?_
  ·have hk:k<L0.length:=by omega
   have UJ:k<D0.length:=by omega
   have hx: ∀y∈L0[k],0<=y/\y<pn:=h2.row _ (Am hk)
   have hxl:L0[k].length=(upto pn.toNat).length:=h2.ok.len _ (Am hk)
   have hdk:=h2.dep k UJ
   have hxe:L0.getD k []=L0[k]:=Wu hk
   have hde:D0.getD k 0=D0[k]:=by rw [Ak,Ac UJ];rfl
   have tG: ∀L' D' ok,Iy g L0[k] D0[k] ls L0 D0=(L',D',ok)->Ie g (upto pn.toNat)=if ok=true then Lo g ls f (k+1) L' D' else (L',D',false):=by
    intro L' D' ok he
    rw [<-h6,hf,Lo,Ab hk,hxe,hde,he]
    cases ok<;>rfl
   obtain ⟨E,hE⟩: ∃E,cL g (k:Int) L0[k] D0[k] ls (L0,D0,P0,B0) []=E:=⟨_,rfl⟩
   have hex:R=dD g ls f (k+1) E.1 (N++ [E.2]):=by
    rw [<-h7,hf,dD,Ab hk]
    dsimp only
    rw [hxe,hde,hE]
   refine ⟨⟨by omega,by omega⟩,L0[k],by rw [Ae,Bt];exact Ac hk,ls.map (λl=>Aj L0[k] (Ax g l)),?_,?_⟩
   ·refine (Ab ⟨hv,by show L0[k].length<=20;omega,hx⟩).trans (Et some ?_)
    show AJ g L0[k]=_
    unfold AJ
    rw [xL]
   refine ⟨rfl,rfl,rfl,rfl,rfl,rfl,rfl,rfl,rfl,rfl,rfl,rfl,?_⟩
   obtain ⟨nb,hnb⟩: ∃nb,ls.map (λl=>Aj L0[k] (Ax g l))=nb:=⟨_,rfl⟩
   have hnl:nb.length=ls.length:=by rw [<-hnb,Dk]
   have hni: ∀i (h:i<ls.length),nb[i]'(by omega)=Aj L0[k] (Ax g ls[i]):= λi h=>by simp only [<-hnb,Tn]
   rw [hnb]
   refine Dn.mk (λv=> ∃(i:Nat) (row:List Int) (s:EX),v=((i:Int),pn,ps,g,row,s.1,s.2.1,Zs s.1,s.2.2.1,s.2.2.2,pn,ps,g,N,())/\i<=ls.length/\row.length=i/\Wn (pn,ps,g,()) (upto pn.toNat).length s.1 s.2.1/\s.2.2.1.length=s.1.length/\s.2.2.2.length=s.1.length/\
     (∃A,s.1=L0++A)/\(∃A,s.2.1=D0++A)/\Iy g L0[k] D0[k] (ls.drop i) s.1 s.2.1=Iy g L0[k] D0[k] ls L0 D0/\cL g (k:Int) L0[k] D0[k] (ls.drop i) s row=E) (λv=>ls.length-v.1.toNat)
    ⟨0,[],(L0,D0,P0,B0),rfl,Mc _,rfl,h2,h3,h4,⟨[],by simp⟩,⟨[],by simp⟩,rfl,hE⟩ ?_
   rintro v ⟨i,row,s,rfl,g1,g2,g3,g4,g5,⟨A,g6⟩,⟨A',g7⟩,g8,g9⟩
   obtain ⟨L,D,Pa,By⟩:=s
   dsimp only at g3 g4 g5 g6 g7 g8 g9⊢
   have hLf:=g3.ok.p8
   have hDl:=g3.len
   refine Br.dec (λhli=>?_) λhli=>?_
   ·have hi:i<ls.length:=by omega
    have hkL:k<L.length:=by rw [g6,Aw];omega
    have Ajv:k<D.length:=by rw [hDl];exact hkL
    have hDk:D[k]=D0[k]:=by simp only [g7];exact Xq UJ
    have nY:=tR _ (Am hi)
    obtain ⟨nl,nr⟩:=AO hV hx nY
    dsimp only at nl nr
    rw [Cc hi] at g8 g9
    simp only [Iy] at g8
    simp only [cL] at g9
    have hyb:=RU _ nr
    refine ⟨_,Bn (by omega),?_⟩
    rw [hni i hi]
    generalize hyv:Aj L0[k] (Ax g ls[i])=yv at*
    refine ⟨Tp yv,Ab (by show short yv;unfold short;rw [nl];omega),?_⟩
    rw [xZ hyb λy hy=>RU _ (g3.row y hy)]
    refine Br.of (λVv=>?_) λVv=>?_
    ·have Vv:yv∉L:= λhm=>by rw [Ab hm] at Vv;simp at Vv
     rw [Ai Vv] at g8 g9
     by_cases gL:L.length=3000
     ·rw [Ab gL] at g8
      have:=tG _ _ _ g8.symm
      rw [Ai (by decide)] at this
      rw [this] at LZ
      cases LZ
     rw [Ai gL] at g8
     refine ⟨_,Ab trivial,rfl,rfl,?_,⟨by omega,by omega⟩,D0[k],?_,rfl,rfl,?_,rfl,rfl,?_,_,Bn hi,rfl,rfl,?_,rfl,rfl,?_,rfl,rfl,rfl,rfl,rfl,rfl,rfl,rfl,rfl,rfl,rfl,rfl,?_⟩
     ·show L.length+1<=4294967296;omega
     ·rw [Ae,Bt,Ac Ajv,hDk]
     ·show D.length+1<=4294967296;omega
     ·show Pa.length+1<=4294967296;omega
     ·show By.length+1<=4294967296;omega
     ·show row.length+1<=4294967296;omega
     ·dsimp only
      rw [Dj L,Ct (n:=D0[k]+1) (by omega) (by omega),Bj (by omega),xY hyb (λy hy=>RU _ (g3.row y hy)) Vv]
      refine ⟨⟨i+1,row++ [(L.length:Int)],(L++ [yv],D++ [D0[k]+1],Pa++ [(k:Int)],By++ [ls[i]]),rfl,hi,by rw [Aw,g2];rfl,g3.add Vv (by rw [nl,hxl]) (by omega) nr ⟨by omega,by omega⟩,?_,?_,⟨A++ [yv],by rw [g6,Bm]⟩,⟨A'++ [D0[k]+1],by rw [g7,Bm]⟩,g8,g9⟩,by omega⟩
      ·simp [g4]
      ·simp [g5]
    ·have Vv:yv∈L:=Bp λhm=>by rw [Ai hm] at Vv;simp at Vv
     rw [Ab Vv] at g8 g9
     rw [Ab Vv]
     refine ⟨rfl,rfl,?_,rfl,rfl,rfl,rfl,rfl,rfl,rfl,rfl,rfl,rfl,rfl,rfl,?_⟩
     ·show row.length+1<=4294967296;omega
     ·rw [Bj (by omega)]
      exact ⟨⟨i+1,row++ [(L.idxOf yv:Int)],(L,D,Pa,By),rfl,hi,by rw [Aw,g2];rfl,g3,g4,g5,⟨A,g6⟩,⟨A',g7⟩,g8,g9⟩,by omega⟩
   ·have:i=ls.length:=by omega
    subst this
    rw [Fe,Iy] at g8
    rw [Fe,cL] at g9
    have:=tG _ _ _ g8.symm
    rw [Ab rfl] at this
    rw [Dj row,Bj (by omega)]
    refine ⟨rfl,rfl,?_,rfl,rfl,rfl,rfl,rfl,rfl,rfl,rfl,rfl,rfl,⟨k+1,(L,D,Pa,By),N++ [row],rfl,by rw [g6,Aw];omega,g3,g4,g5,by rw [Aw,h5];rfl,?_,?_⟩,by omega⟩
    ·show N.length+1<=4294967296;omega
    ·rw [show 3001-(k+1)=f by omega]
     exact this.symm
    ·rw [show 3001-(k+1)=f by omega,hex,<-g9]
  ·have hk:k=L0.length:=by omega
   rw [hf,dD,Ai (by show ¬k<L0.length;omega)] at h7
   subst h7
   simp only [Dr,Be]
   rfl
 ·have MD:Jm.fn (upto pn.toNat,())=some (Tp (upto pn.toNat)):=Ab (by show short (upto pn.toNat);unfold short;omega)
  repeat' (first|exact ⟨rfl,rfl⟩|refine ⟨_,MD,?_⟩|refine ⟨?_,?_⟩)
theorem lD:Sound Tryz.prog 92 Nf:=
 Sound.Gk Dl (Au qn (Au Qu (Au aG (Au jS (Au dN (Au IX (Au dq Bl))))))) mixed Tryz.func92 (by kernel_rfl) (by kernel_rfl) λx h=>VM x.1 h
abbrev XP:Type:=PP×List (List Int)×List Int×(ByteArray->Option Int)×List Int×List Int×List (List Int)×Unit
noncomputable def Al (p:PP):List (List Int):=(Ie p.2.2.1 (upto p.1.toNat)).1
noncomputable def Gh (p:PP):List Int:=(Ie p.2.2.1 (upto p.1.toNat)).2.1
def vX (e:XP):Prop:=Db e.1=true/\e=Ig e.1
noncomputable def Mv (p:PP) (s:List Int):Int×Bool×Unit:=if s∈Al p then ((List.idxOf s (Al p):Nat),true,()) else (0,false,())
noncomputable def Gu (p:PP) (s:List Int):Bool:=Db p&&decide (s∈Al p)
noncomputable def Ab6 (e:Option XP) (s:List Int):Int×Bool×Unit:=match e with|some e=>Mv e.1 s|none=>(0,false,())
noncomputable abbrev qb:Spec:=Gk (.pair (.optr ic) (.pair tL .unit)) (.pair tI (.pair .bool .unit)) true true (λx=>(∃e:XP,x.1=some e/\vX e)/\short x.2.1) (λx=>Ab6 x.1 x.2.1)
noncomputable def Kg (p:PP) (s:List Int):Option XP×Int×Bool×Unit:=if Db p=true then (some (Ig p),(Mv p s).1,(Mv p s).2.1,()) else (none,0,false,())
noncomputable abbrev Im:Spec:=Gk (.pair Iw (.pair tL .unit)) (.pair (.optr ic) (.pair tI (.pair .bool .unit))) true false (λx=>Gl x.1/\short x.2.1) (λx=>Kg x.1 x.2.1)
abbrev Aqk:Ty:= .clo 154 (.pair (.ptr tL) .unit)
def La (goal s:List Int):Bool:=List.all goal λx=>decide (Dp s x=x)
noncomputable abbrev qe:Spec:=Gk (.pair tI (.pair (.ptr tL) .unit)) .bool false true (λx=>short x.2.1/\0<=x.1/\x.1<List.length x.2.1) (λx=>!decide (Dp x.2.1 x.1=x.1))
noncomputable abbrev yK:Spec:=Gk (.pair tL (.pair Aqk .unit)) tI false true (λx=>short x.1/\short x.2.1.1/\Lu (List.length x.2.1.1) x.1) (λx=>Dv (λy=>!decide (Dp x.2.1.1 y=y)) x.1 0)
noncomputable abbrev yE:Spec:=Gk (.pair tL (.pair Aqk .unit)) .bool false true (λx=>short x.1/\short x.2.1.1/\Lu (List.length x.2.1.1) x.1) (λx=>List.any x.1 (λy=>!decide (Dp x.2.1.1 y=y)))
noncomputable abbrev Gi:Spec:=Gk (.pair tL (.pair tL .unit)) .bool false true (λx=>short x.1/\short x.2.1/\Lu (List.length x.2.1) x.1) (λx=>La x.1 x.2.1)
noncomputable def pQ (p:PP) (goal s:List Int):Bool:=Gu p s&&Ey p.1 goal&&La goal s
noncomputable abbrev Ze:Spec:=Gk (.pair Iw (.pair tL (.pair tL .unit))) .bool false true (λx=>Gl x.1/\short x.2.1/\short x.2.2.1) (λx=>pQ x.1 x.2.1 x.2.2.1)
noncomputable def Fh (p:PP):SS×Bool×Unit:=if Ca p=true then (Nn p.2.2.1 (upto p.1.toNat),Db p,()) else (([],[],[],false,()),false,())
noncomputable abbrev Qt:Spec:=Gk (.pair Iw .unit) (.pair bl (.pair .bool .unit)) true false (λx=>Gl x.1) (λx=>Fh x.1)
noncomputable abbrev bB:Spec:=Gk (.pair Iw (.pair bl (.pair tL .unit))) .bool false true (λx=>Gl x.1/\short x.2.2.1/\Ca x.1=true/\x.2.1=Nn x.1.2.2.1 (upto x.1.1.toNat)) (λx=>decide (x.2.2.1∈Al x.1))
noncomputable abbrev Ti:Spec:=Gk (.pair Iw (.pair tL .unit)) .bool false true (λx=>Gl x.1/\short x.2.1) (λx=>Gu x.1 x.2.1)
noncomputable def mz (p:PP) (goals:List (List Int)) (s:List Int):Int:=if (Gu p s&&Gx p goals)=true then ((goals.countP λg=>La g s:Nat):Int) else-1
noncomputable abbrev Vl:Spec:=Gk (.pair Iw (.pair nf (.pair tL .unit))) tI false true (λx=>Gl x.1/\Hi x.2.1/\short x.2.2.1) (λx=>mz x.1 x.2.1 x.2.2.1)
abbrev TG:Type:=(Int×ByteArray×List (List Int)×PUnit)×List (List Int)×List Int×(ByteArray->Option Int)×List Int×List Int×List (List Int)×PUnit
theorem Alq (e:Option (PP×List (List Int)×List Int×(ByteArray->Option Int)×List Int×List Int×List (List Int)×Unit)) (s:List Int) (P:(Int×Bool×Unit)->Prop):(∃(y3:TG),e=some y3/\ ∃(y4:Bool),Za.fn (y3.1,s,())=some y4/\Br (!y4) (P ((0:Int),false,())) (∃(y5:TG),e=some y5/\ ∃(y6:ByteArray),Jm.fn (s,())=some y6/\P ((y5.2.2.2.1 y6).getD (Int.ofNat (nat_lit 0)),(y5.2.2.2.1 y6).isSome,())))=fnW Fl (look [(78,Za),(121,Jm)]) qb Tryz.f117 (e,s,()) P:=by kernel_rfl
theorem z0 (p:Int×ByteArray×List (List Int)×Unit) (s:List Int) (P:(Option (PP×List (List Int)×List Int×(ByteArray->Option Int)×List Int×List Int×List (List Int)×Unit)×Int×Bool×Unit)->Prop):(∃(y3:Option ((Int×ByteArray×List (List Int)×PUnit)×List (List Int)×List Int×(ByteArray->Option Int)×List Int×List Int×List (List Int)×PUnit)×Bool×PUnit),Nf.fn ((p.1,p.2.1,p.2.2.1,()),())=some y3/\Br (!y3.2.1) (P (none,(0:Int),false,())) (∃(y4:Int×Bool×PUnit),qb.fn (y3.1,s,())=some y4/\P (y3.1,y4.1,y4.2.1,())))=fnW Fl (look [(92,Nf),(117,qb)]) Im Tryz.f59 (p,s,()) P:=by kernel_rfl
theorem Alx (x:Int) (s:List Int) (P:Bool->Prop):(∃(y3:Int),idx s x=some y3/\P (y3 !=x))=fnW Fl (look []) qe Tryz.f154 (x,s,()) P:=by kernel_rfl
theorem Aqy (xs:List Int) (c:List Int×Unit) (P:Int->Prop):(Dn (λ(v3:Int×PUnit) (k4:Int×PUnit->Prop)=>Br (decide (v3.1<(↑xs.length:Int))) (∃(y5:Int),idx xs v3.1=some y5/\ ∃(y6:Bool),qe.fn (y5,c.1,())=some y6/\Br y6 (P v3.1) (k4 (IntKind.i64.wrap (v3.1+(1:Int)),()))) (P (-1:Int))) ((0:Int),PUnit.unit))=fnW Fl (look [(154,qe)]) yK Tryz.f146 (xs,c,()) P:=by kernel_rfl
theorem Aqr (xs:List Int) (c:List Int×Unit) (P:Bool->Prop):(∃(y3:Int),yK.fn (xs,c,())=some y3/\P (decide (y3>=(0:Int))))=fnW Fl (look [(146,yK)]) yE Tryz.f102 (xs,c,()) P:=by kernel_rfl
theorem JZ (g s:List Int) (P:Bool->Prop):(∃(y3:Bool),yE.fn (g,(s,()),())=some y3/\P !y3)=fnW Fl (look [(102,yE)]) Gi Tryz.f111 (g,s,()) P:=by kernel_rfl
theorem xe (p:Int×ByteArray×List (List Int)×Unit) (g s:List Int) (P:Bool->Prop):(∃(y4:Option ((Int×ByteArray×List (List Int)×PUnit)×List (List Int)×List Int×(ByteArray->Option Int)×List Int×List Int×List (List Int)×PUnit)×Int×Bool×PUnit),Im.fn ((p.1,p.2.1,p.2.2.1,()),s,())=some y4/\Br y4.2.2.1 (∃(y5:Bool),Ho.fn (p.1,g,())=some y5/\Br y5 (∃(y6:Bool),Gi.fn (g,s,())=some y6/\P y6) (P false)) (P false))=fnW Fl (look [(59,Im),(101,Ho),(111,Gi)]) Ze Tryz.f50 (p,g,s,()) P:=by kernel_rfl
abbrev Ez:Type:=List (List Int)×List Int×List Int×Bool×PUnit
theorem QK (p:Int×ByteArray×List (List Int)×Unit) (P:((List (List Int)×List Int×List Int×Bool×Unit)×Bool×Unit)->Prop):(∃(y2:Bool),Js.fn ((p.1,p.2.1,p.2.2.1,()),())=some y2/\Br (!y2) (P ((List.take 0 (List.drop 0 []),List.take 0 (List.drop 0 []),List.take 0 (List.drop 0 []),false,()),false,())) (((((∃(y3:List Int),Dy.fn (p.1,())=some y3/\(∃(y4:Ez),Ik.fn ((p.1,p.2.1,p.2.2.1,()),y3,())=some y4/\((P ((y4.1,y4.2.1,y4.2.2.1,y4.2.2.2.1,()),y4.2.2.2.1,())/\P ((y4.1,y4.2.1,y4.2.2.1,y4.2.2.2.1,()),y4.2.2.2.1,()))/\P ((y4.1,y4.2.1,y4.2.2.1,y4.2.2.2.1,()),y4.2.2.2.1,()))/\(P ((y4.1,y4.2.1,y4.2.2.1,y4.2.2.2.1,()),y4.2.2.2.1,())/\P ((y4.1,y4.2.1,y4.2.2.1,y4.2.2.2.1,()),y4.2.2.2.1,()))/\P ((y4.1,y4.2.1,y4.2.2.1,y4.2.2.2.1,()),y4.2.2.2.1,()))/\ ∃(y4:Ez),Ik.fn ((p.1,p.2.1,p.2.2.1,()),y3,())=some y4/\((P ((y4.1,y4.2.1,y4.2.2.1,y4.2.2.2.1,()),y4.2.2.2.1,())/\P ((y4.1,y4.2.1,y4.2.2.1,y4.2.2.2.1,()),y4.2.2.2.1,()))/\P ((y4.1,y4.2.1,y4.2.2.1,y4.2.2.2.1,()),y4.2.2.2.1,()))/\(P ((y4.1,y4.2.1,y4.2.2.1,y4.2.2.2.1,()),y4.2.2.2.1,())/\P ((y4.1,y4.2.1,y4.2.2.1,y4.2.2.2.1,()),y4.2.2.2.1,()))/\P ((y4.1,y4.2.1,y4.2.2.1,y4.2.2.2.1,()),y4.2.2.2.1,()))/\ ∃(y3:List Int),Dy.fn (p.1,())=some y3/\ ∃(y4:Ez),Ik.fn ((p.1,p.2.1,p.2.2.1,()),y3,())=some y4/\((P ((y4.1,y4.2.1,y4.2.2.1,y4.2.2.2.1,()),y4.2.2.2.1,())/\P ((y4.1,y4.2.1,y4.2.2.1,y4.2.2.2.1,()),y4.2.2.2.1,()))/\P ((y4.1,y4.2.1,y4.2.2.1,y4.2.2.2.1,()),y4.2.2.2.1,()))/\(P ((y4.1,y4.2.1,y4.2.2.1,y4.2.2.2.1,()),y4.2.2.2.1,())/\P ((y4.1,y4.2.1,y4.2.2.1,y4.2.2.2.1,()),y4.2.2.2.1,()))/\P ((y4.1,y4.2.1,y4.2.2.1,y4.2.2.2.1,()),y4.2.2.2.1,()))/\ ∃(y3:List Int),Dy.fn (p.1,())=some y3/\ ∃(y4:Ez),Ik.fn ((p.1,p.2.1,p.2.2.1,()),y3,())=some y4/\((P ((y4.1,y4.2.1,y4.2.2.1,y4.2.2.2.1,()),y4.2.2.2.1,())/\P ((y4.1,y4.2.1,y4.2.2.1,y4.2.2.2.1,()),y4.2.2.2.1,()))/\P ((y4.1,y4.2.1,y4.2.2.1,y4.2.2.2.1,()),y4.2.2.2.1,()))/\(P ((y4.1,y4.2.1,y4.2.2.1,y4.2.2.2.1,()),y4.2.2.2.1,())/\P ((y4.1,y4.2.1,y4.2.2.1,y4.2.2.2.1,()),y4.2.2.2.1,()))/\P ((y4.1,y4.2.1,y4.2.2.1,y4.2.2.2.1,()),y4.2.2.2.1,()))/\ ∃(y3:List Int),Dy.fn (p.1,())=some y3/\ ∃(y4:Ez),Ik.fn ((p.1,p.2.1,p.2.2.1,()),y3,())=some y4/\((P ((y4.1,y4.2.1,y4.2.2.1,y4.2.2.2.1,()),y4.2.2.2.1,())/\P ((y4.1,y4.2.1,y4.2.2.1,y4.2.2.2.1,()),y4.2.2.2.1,()))/\P ((y4.1,y4.2.1,y4.2.2.1,y4.2.2.2.1,()),y4.2.2.2.1,()))/\(P ((y4.1,y4.2.1,y4.2.2.1,y4.2.2.2.1,()),y4.2.2.2.1,())/\P ((y4.1,y4.2.1,y4.2.2.1,y4.2.2.2.1,()),y4.2.2.2.1,()))/\P ((y4.1,y4.2.1,y4.2.2.1,y4.2.2.2.1,()),y4.2.2.2.1,()))/\((((∃(y3:List Int),Dy.fn (p.1,())=some y3/\(∃(y4:Ez),Ik.fn ((p.1,p.2.1,p.2.2.1,()),y3,())=some y4/\((P ((y4.1,y4.2.1,y4.2.2.1,y4.2.2.2.1,()),y4.2.2.2.1,())/\P ((y4.1,y4.2.1,y4.2.2.1,y4.2.2.2.1,()),y4.2.2.2.1,()))/\P ((y4.1,y4.2.1,y4.2.2.1,y4.2.2.2.1,()),y4.2.2.2.1,()))/\(P ((y4.1,y4.2.1,y4.2.2.1,y4.2.2.2.1,()),y4.2.2.2.1,())/\P ((y4.1,y4.2.1,y4.2.2.1,y4.2.2.2.1,()),y4.2.2.2.1,()))/\P ((y4.1,y4.2.1,y4.2.2.1,y4.2.2.2.1,()),y4.2.2.2.1,()))/\ ∃(y4:Ez),Ik.fn ((p.1,p.2.1,p.2.2.1,()),y3,())=some y4/\((P ((y4.1,y4.2.1,y4.2.2.1,y4.2.2.2.1,()),y4.2.2.2.1,())/\P ((y4.1,y4.2.1,y4.2.2.1,y4.2.2.2.1,()),y4.2.2.2.1,()))/\P ((y4.1,y4.2.1,y4.2.2.1,y4.2.2.2.1,()),y4.2.2.2.1,()))/\(P ((y4.1,y4.2.1,y4.2.2.1,y4.2.2.2.1,()),y4.2.2.2.1,())/\P ((y4.1,y4.2.1,y4.2.2.1,y4.2.2.2.1,()),y4.2.2.2.1,()))/\P ((y4.1,y4.2.1,y4.2.2.1,y4.2.2.2.1,()),y4.2.2.2.1,()))/\ ∃(y3:List Int),Dy.fn (p.1,())=some y3/\ ∃(y4:Ez),Ik.fn ((p.1,p.2.1,p.2.2.1,()),y3,())=some y4/\((P ((y4.1,y4.2.1,y4.2.2.1,y4.2.2.2.1,()),y4.2.2.2.1,())/\P ((y4.1,y4.2.1,y4.2.2.1,y4.2.2.2.1,()),y4.2.2.2.1,()))/\P ((y4.1,y4.2.1,y4.2.2.1,y4.2.2.2.1,()),y4.2.2.2.1,()))/\(P ((y4.1,y4.2.1,y4.2.2.1,y4.2.2.2.1,()),y4.2.2.2.1,())/\P ((y4.1,y4.2.1,y4.2.2.1,y4.2.2.2.1,()),y4.2.2.2.1,()))/\P ((y4.1,y4.2.1,y4.2.2.1,y4.2.2.2.1,()),y4.2.2.2.1,()))/\ ∃(y3:List Int),Dy.fn (p.1,())=some y3/\ ∃(y4:Ez),Ik.fn ((p.1,p.2.1,p.2.2.1,()),y3,())=some y4/\((P ((y4.1,y4.2.1,y4.2.2.1,y4.2.2.2.1,()),y4.2.2.2.1,())/\P ((y4.1,y4.2.1,y4.2.2.1,y4.2.2.2.1,()),y4.2.2.2.1,()))/\P ((y4.1,y4.2.1,y4.2.2.1,y4.2.2.2.1,()),y4.2.2.2.1,()))/\(P ((y4.1,y4.2.1,y4.2.2.1,y4.2.2.2.1,()),y4.2.2.2.1,())/\P ((y4.1,y4.2.1,y4.2.2.1,y4.2.2.2.1,()),y4.2.2.2.1,()))/\P ((y4.1,y4.2.1,y4.2.2.1,y4.2.2.2.1,()),y4.2.2.2.1,()))/\(((∃(y3:List Int),Dy.fn (p.1,())=some y3/\(∃(y4:Ez),Ik.fn ((p.1,p.2.1,p.2.2.1,()),y3,())=some y4/\((P ((y4.1,y4.2.1,y4.2.2.1,y4.2.2.2.1,()),y4.2.2.2.1,())/\P ((y4.1,y4.2.1,y4.2.2.1,y4.2.2.2.1,()),y4.2.2.2.1,()))/\P ((y4.1,y4.2.1,y4.2.2.1,y4.2.2.2.1,()),y4.2.2.2.1,()))/\(P ((y4.1,y4.2.1,y4.2.2.1,y4.2.2.2.1,()),y4.2.2.2.1,())/\P ((y4.1,y4.2.1,y4.2.2.1,y4.2.2.2.1,()),y4.2.2.2.1,()))/\P ((y4.1,y4.2.1,y4.2.2.1,y4.2.2.2.1,()),y4.2.2.2.1,()))/\ ∃(y4:Ez),Ik.fn ((p.1,p.2.1,p.2.2.1,()),y3,())=some y4/\((P ((y4.1,y4.2.1,y4.2.2.1,y4.2.2.2.1,()),y4.2.2.2.1,())/\P ((y4.1,y4.2.1,y4.2.2.1,y4.2.2.2.1,()),y4.2.2.2.1,()))/\P ((y4.1,y4.2.1,y4.2.2.1,y4.2.2.2.1,()),y4.2.2.2.1,()))/\(P ((y4.1,y4.2.1,y4.2.2.1,y4.2.2.2.1,()),y4.2.2.2.1,())/\P ((y4.1,y4.2.1,y4.2.2.1,y4.2.2.2.1,()),y4.2.2.2.1,()))/\P ((y4.1,y4.2.1,y4.2.2.1,y4.2.2.2.1,()),y4.2.2.2.1,()))/\ ∃(y3:List Int),Dy.fn (p.1,())=some y3/\ ∃(y4:Ez),Ik.fn ((p.1,p.2.1,p.2.2.1,()),y3,())=some y4/\((P ((y4.1,y4.2.1,y4.2.2.1,y4.2.2.2.1,()),y4.2.2.2.1,())/\P ((y4.1,y4.2.1,y4.2.2.1,y4.2.2.2.1,()),y4.2.2.2.1,()))/\P ((y4.1,y4.2.1,y4.2.2.1,y4.2.2.2.1,()),y4.2.2.2.1,()))/\(P ((y4.1,y4.2.1,y4.2.2.1,y4.2.2.2.1,()),y4.2.2.2.1,())/\P ((y4.1,y4.2.1,y4.2.2.1,y4.2.2.2.1,()),y4.2.2.2.1,()))/\P ((y4.1,y4.2.1,y4.2.2.1,y4.2.2.2.1,()),y4.2.2.2.1,()))/\(∃(y3:List Int),Dy.fn (p.1,())=some y3/\((∃(y4:Ez),Ik.fn ((p.1,p.2.1,p.2.2.1,()),y3,())=some y4/\((P ((y4.1,y4.2.1,y4.2.2.1,y4.2.2.2.1,()),y4.2.2.2.1,())/\P ((y4.1,y4.2.1,y4.2.2.1,y4.2.2.2.1,()),y4.2.2.2.1,()))/\P ((y4.1,y4.2.1,y4.2.2.1,y4.2.2.2.1,()),y4.2.2.2.1,()))/\(P ((y4.1,y4.2.1,y4.2.2.1,y4.2.2.2.1,()),y4.2.2.2.1,())/\P ((y4.1,y4.2.1,y4.2.2.1,y4.2.2.2.1,()),y4.2.2.2.1,()))/\P ((y4.1,y4.2.1,y4.2.2.1,y4.2.2.2.1,()),y4.2.2.2.1,()))/\ ∃(y4:Ez),Ik.fn ((p.1,p.2.1,p.2.2.1,()),y3,())=some y4/\((P ((y4.1,y4.2.1,y4.2.2.1,y4.2.2.2.1,()),y4.2.2.2.1,())/\P ((y4.1,y4.2.1,y4.2.2.1,y4.2.2.2.1,()),y4.2.2.2.1,()))/\P ((y4.1,y4.2.1,y4.2.2.1,y4.2.2.2.1,()),y4.2.2.2.1,()))/\(P ((y4.1,y4.2.1,y4.2.2.1,y4.2.2.2.1,()),y4.2.2.2.1,())/\P ((y4.1,y4.2.1,y4.2.2.1,y4.2.2.2.1,()),y4.2.2.2.1,()))/\P ((y4.1,y4.2.1,y4.2.2.1,y4.2.2.2.1,()),y4.2.2.2.1,()))/\ ∃(y4:Ez),Ik.fn ((p.1,p.2.1,p.2.2.1,()),y3,())=some y4/\((P ((y4.1,y4.2.1,y4.2.2.1,y4.2.2.2.1,()),y4.2.2.2.1,())/\P ((y4.1,y4.2.1,y4.2.2.1,y4.2.2.2.1,()),y4.2.2.2.1,()))/\P ((y4.1,y4.2.1,y4.2.2.1,y4.2.2.2.1,()),y4.2.2.2.1,()))/\(P ((y4.1,y4.2.1,y4.2.2.1,y4.2.2.2.1,()),y4.2.2.2.1,())/\P ((y4.1,y4.2.1,y4.2.2.1,y4.2.2.2.1,()),y4.2.2.2.1,()))/\P ((y4.1,y4.2.1,y4.2.2.1,y4.2.2.2.1,()),y4.2.2.2.1,()))/\(∃(y3:List Int),Dy.fn (p.1,())=some y3/\ ∃(y4:Ez),Ik.fn ((p.1,p.2.1,p.2.2.1,()),y3,())=some y4/\((P ((y4.1,y4.2.1,y4.2.2.1,y4.2.2.2.1,()),y4.2.2.2.1,())/\P ((y4.1,y4.2.1,y4.2.2.1,y4.2.2.2.1,()),y4.2.2.2.1,()))/\P ((y4.1,y4.2.1,y4.2.2.1,y4.2.2.2.1,()),y4.2.2.2.1,()))/\(P ((y4.1,y4.2.1,y4.2.2.1,y4.2.2.2.1,()),y4.2.2.2.1,())/\P ((y4.1,y4.2.1,y4.2.2.1,y4.2.2.2.1,()),y4.2.2.2.1,()))/\P ((y4.1,y4.2.1,y4.2.2.1,y4.2.2.2.1,()),y4.2.2.2.1,()))/\ ∃(y3:List Int),Dy.fn (p.1,())=some y3/\ ∃(y4:Ez),Ik.fn ((p.1,p.2.1,p.2.2.1,()),y3,())=some y4/\((P ((y4.1,y4.2.1,y4.2.2.1,y4.2.2.2.1,()),y4.2.2.2.1,())/\P ((y4.1,y4.2.1,y4.2.2.1,y4.2.2.2.1,()),y4.2.2.2.1,()))/\P ((y4.1,y4.2.1,y4.2.2.1,y4.2.2.2.1,()),y4.2.2.2.1,()))/\(P ((y4.1,y4.2.1,y4.2.2.1,y4.2.2.2.1,()),y4.2.2.2.1,())/\P ((y4.1,y4.2.1,y4.2.2.1,y4.2.2.2.1,()),y4.2.2.2.1,()))/\P ((y4.1,y4.2.1,y4.2.2.1,y4.2.2.2.1,()),y4.2.2.2.1,()))/\(∃(y3:List Int),Dy.fn (p.1,())=some y3/\ ∃(y4:Ez),Ik.fn ((p.1,p.2.1,p.2.2.1,()),y3,())=some y4/\((P ((y4.1,y4.2.1,y4.2.2.1,y4.2.2.2.1,()),y4.2.2.2.1,())/\P ((y4.1,y4.2.1,y4.2.2.1,y4.2.2.2.1,()),y4.2.2.2.1,()))/\P ((y4.1,y4.2.1,y4.2.2.1,y4.2.2.2.1,()),y4.2.2.2.1,()))/\(P ((y4.1,y4.2.1,y4.2.2.1,y4.2.2.2.1,()),y4.2.2.2.1,())/\P ((y4.1,y4.2.1,y4.2.2.1,y4.2.2.2.1,()),y4.2.2.2.1,()))/\P ((y4.1,y4.2.1,y4.2.2.1,y4.2.2.2.1,()),y4.2.2.2.1,()))/\(∃(y3:List Int),Dy.fn (p.1,())=some y3/\ ∃(y4:Ez),Ik.fn ((p.1,p.2.1,p.2.2.1,()),y3,())=some y4/\((P ((y4.1,y4.2.1,y4.2.2.1,y4.2.2.2.1,()),y4.2.2.2.1,())/\P ((y4.1,y4.2.1,y4.2.2.1,y4.2.2.2.1,()),y4.2.2.2.1,()))/\P ((y4.1,y4.2.1,y4.2.2.1,y4.2.2.2.1,()),y4.2.2.2.1,()))/\(P ((y4.1,y4.2.1,y4.2.2.1,y4.2.2.2.1,()),y4.2.2.2.1,())/\P ((y4.1,y4.2.1,y4.2.2.1,y4.2.2.2.1,()),y4.2.2.2.1,()))/\P ((y4.1,y4.2.1,y4.2.2.1,y4.2.2.2.1,()),y4.2.2.2.1,()))/\ ∃(y3:List Int),Dy.fn (p.1,())=some y3/\ ∃(y4:Ez),Ik.fn ((p.1,p.2.1,p.2.2.1,()),y3,())=some y4/\((P ((y4.1,y4.2.1,y4.2.2.1,y4.2.2.2.1,()),y4.2.2.2.1,())/\P ((y4.1,y4.2.1,y4.2.2.1,y4.2.2.2.1,()),y4.2.2.2.1,()))/\P ((y4.1,y4.2.1,y4.2.2.1,y4.2.2.2.1,()),y4.2.2.2.1,()))/\(P ((y4.1,y4.2.1,y4.2.2.1,y4.2.2.2.1,()),y4.2.2.2.1,())/\P ((y4.1,y4.2.1,y4.2.2.1,y4.2.2.2.1,()),y4.2.2.2.1,()))/\P ((y4.1,y4.2.1,y4.2.2.1,y4.2.2.2.1,()),y4.2.2.2.1,()))/\(∃(y3:List Int),Dy.fn (p.1,())=some y3/\ ∃(y4:Ez),Ik.fn ((p.1,p.2.1,p.2.2.1,()),y3,())=some y4/\((P ((y4.1,y4.2.1,y4.2.2.1,y4.2.2.2.1,()),y4.2.2.2.1,())/\P ((y4.1,y4.2.1,y4.2.2.1,y4.2.2.2.1,()),y4.2.2.2.1,()))/\P ((y4.1,y4.2.1,y4.2.2.1,y4.2.2.2.1,()),y4.2.2.2.1,()))/\(P ((y4.1,y4.2.1,y4.2.2.1,y4.2.2.2.1,()),y4.2.2.2.1,())/\P ((y4.1,y4.2.1,y4.2.2.1,y4.2.2.2.1,()),y4.2.2.2.1,()))/\P ((y4.1,y4.2.1,y4.2.2.1,y4.2.2.2.1,()),y4.2.2.2.1,()))/\(∃(y3:List Int),Dy.fn (p.1,())=some y3/\ ∃(y4:Ez),Ik.fn ((p.1,p.2.1,p.2.2.1,()),y3,())=some y4/\((P ((y4.1,y4.2.1,y4.2.2.1,y4.2.2.2.1,()),y4.2.2.2.1,())/\P ((y4.1,y4.2.1,y4.2.2.1,y4.2.2.2.1,()),y4.2.2.2.1,()))/\P ((y4.1,y4.2.1,y4.2.2.1,y4.2.2.2.1,()),y4.2.2.2.1,()))/\(P ((y4.1,y4.2.1,y4.2.2.1,y4.2.2.2.1,()),y4.2.2.2.1,())/\P ((y4.1,y4.2.1,y4.2.2.1,y4.2.2.2.1,()),y4.2.2.2.1,()))/\P ((y4.1,y4.2.1,y4.2.2.1,y4.2.2.2.1,()),y4.2.2.2.1,()))/\(∃(y3:List Int),Dy.fn (p.1,())=some y3/\ ∃(y4:Ez),Ik.fn ((p.1,p.2.1,p.2.2.1,()),y3,())=some y4/\((P ((y4.1,y4.2.1,y4.2.2.1,y4.2.2.2.1,()),y4.2.2.2.1,())/\P ((y4.1,y4.2.1,y4.2.2.1,y4.2.2.2.1,()),y4.2.2.2.1,()))/\P ((y4.1,y4.2.1,y4.2.2.1,y4.2.2.2.1,()),y4.2.2.2.1,()))/\(P ((y4.1,y4.2.1,y4.2.2.1,y4.2.2.2.1,()),y4.2.2.2.1,())/\P ((y4.1,y4.2.1,y4.2.2.1,y4.2.2.2.1,()),y4.2.2.2.1,()))/\P ((y4.1,y4.2.1,y4.2.2.1,y4.2.2.2.1,()),y4.2.2.2.1,()))/\ ∃(y3:List Int),Dy.fn (p.1,())=some y3/\ ∃(y4:Ez),Ik.fn ((p.1,p.2.1,p.2.2.1,()),y3,())=some y4/\((P ((y4.1,y4.2.1,y4.2.2.1,y4.2.2.2.1,()),y4.2.2.2.1,())/\P ((y4.1,y4.2.1,y4.2.2.1,y4.2.2.2.1,()),y4.2.2.2.1,()))/\P ((y4.1,y4.2.1,y4.2.2.1,y4.2.2.2.1,()),y4.2.2.2.1,()))/\(P ((y4.1,y4.2.1,y4.2.2.1,y4.2.2.2.1,()),y4.2.2.2.1,())/\P ((y4.1,y4.2.1,y4.2.2.1,y4.2.2.2.1,()),y4.2.2.2.1,()))/\P ((y4.1,y4.2.1,y4.2.2.1,y4.2.2.2.1,()),y4.2.2.2.1,())))=fnW Fl (look [(63,Js),(96,Dy),(126,Ik)]) Qt Tryz.f114 (p,()) P:=by kernel_rfl
theorem XR (p:Int×ByteArray×List (List Int)×Unit) (f:List (List Int)×List Int×List Int×Bool×Unit) (s:List Int) (P:Bool->Prop):(∃(y4:Bool),Og.fn ((p.1,p.2.1,p.2.2.1,()),s,())=some y4/\Br y4 (∃(y5:Int),Rd.fn ((f.1,f.2.1,f.2.2.1,f.2.2.2.1,()),s,())=some y5/\P (decide (y5>=(0:Int)))) (P false))=fnW Fl (look [(64,Og),(75,Rd)]) bB Tryz.f153 (p,f,s,()) P:=by kernel_rfl
theorem DJ (p:Int×ByteArray×List (List Int)×Unit) (s:List Int) (P:Bool->Prop):(∃(y3:(List (List Int)×List Int×List Int×Bool×PUnit)×Bool×PUnit),Qt.fn ((p.1,p.2.1,p.2.2.1,()),())=some y3/\Br y3.2.1 (∃(y4:Bool),bB.fn ((p.1,p.2.1,p.2.2.1,()),(y3.1.1,y3.1.2.1,y3.1.2.2.1,y3.1.2.2.2.1,()),s,())=some y4/\P y4) (P false))=fnW Fl (look [(114,Qt),(153,bB)]) Ti Tryz.f107 (p,s,()) P:=by kernel_rfl
theorem JX (g s:List Int) (P:Bool->Prop):(Dn (λ(v3:Int×PUnit) (k4:Int×PUnit->Prop)=>Br (decide (v3.1<(↑g.length:Int))) (∃(y5:Int),idx g v3.1=some y5/\ ∃(y6:Int),idx s y5=some y6/\ ∃(y7:Int),idx g v3.1=some y7/\Br (y6 !=y7) (P false) (k4 (IntKind.i64.wrap (v3.1+(1:Int)),()))) (P true)) ((0:Int),PUnit.unit))=fnW Fl (look []) Gi Tryz.f109 (g,s,()) P:=by kernel_rfl
theorem vP (p:Int×ByteArray×List (List Int)×Unit) (gs:List (List Int)) (s:List Int) (P:Int->Prop):(∃(y4:Option ((Int×ByteArray×List (List Int)×PUnit)×List (List Int)×List Int×(ByteArray->Option Int)×List Int×List Int×List (List Int)×PUnit)×Int×Bool×PUnit),Im.fn ((p.1,p.2.1,p.2.2.1,()),s,())=some y4/\Br (!y4.2.2.1) (P (-1:Int)) (∃(y5:Bool),Em.fn ((p.1,p.2.1,p.2.2.1,()),gs,())=some y5/\Br (!y5) (P (-1:Int)) (Dn (λ(v6:Int×Int×PUnit) (k7:Int×Int×PUnit->Prop)=>Br (decide (v6.2.1<(↑gs.length:Int))) (∃(y8:List Int),idx gs v6.2.1=some y8/\ ∃(y9:Bool),Gi.fn (y8,s,())=some y9/\Br y9 (k7 (IntKind.i64.wrap (v6.1+(1:Int)),IntKind.i64.wrap (v6.2.1+(1:Int)),())) (k7 (v6.1,IntKind.i64.wrap (v6.2.1+(1:Int)),()))) (P v6.1)) ((0:Int),(0:Int),PUnit.unit))))=fnW Fl (look [(59,Im),(44,Em),(111,Gi)]) Vl Tryz.f51 (p,gs,s,()) P:=by kernel_rfl
theorem xU {p:List Int} (h:bL p):Kv p=true:=by
 refine Jg.2 ⟨h.pos,h.len,λj h1 h2=>?_⟩
 have:=h.row _ (Am h2)
 exact ⟨by omega,by omega,λhm=>by
  obtain ⟨i,hi,e⟩:=Bg.1 hm
  have gM:i<j:=by rw [Dm] at hi;omega
  rw [List.getElem_take] at e
  exact (Fa.1 h.nodup i j (by omega) h2 gM) e⟩
theorem Dd {p:PP} (hw:Db p=true):Ca p=true/\(Ie p.2.2.1 (upto p.1.toNat)).2.2=true:=Cx.1 hw
theorem JC {p:PP} (hw:Db p=true):Reach p (Al p) (Gh p) true:=by
 have h:=cp (Dd hw).1
 rw [(Dd hw).2] at h
 exact h
theorem gm {p:PP} (hv:Ca p=true):Wn p p.1.toNat (Al p) (Gh p):=(cp hv).ok
theorem ZU {p:PP} (hV:Valid p):QS p.1.toNat λg=>some g∈p.2.2.1.map some:=
 ⟨by have:=hV.n;omega,λg fa=>by obtain ⟨g',e,h⟩:=uJ (ny hV).2.2 _ fa;cases e;exact h⟩
theorem hY {p:PP} (hv:Ca p=true) {x:List Int} (hx:x∈Al p):Pm p.1.toNat x:=dW.pm (ZU (valid hv)) ((cp hv).gen x hx)
theorem Ac0 {p:PP} (hV:Valid p) {x:List Int} (h:Pm p.1.toNat x):Ix p.1 x=true:=by
 have:=hV.n
 have:=h.1
 exact Jg.2 ⟨by omega,xU h.2⟩
theorem LW {p:PP} (_hV:Valid p) {x:List Int} (h:Ix p.1 x=true):Pm p.1.toNat x:=by
 obtain ⟨h1,h2⟩:=Jg.1 h
 exact ⟨by omega,fS h2⟩
theorem PH {p:PP} (hv:Ca p=true) {x:List Int} (hx:x∈Al p):Ix p.1 x=true:=Ac0 (valid hv) (hY hv hx)
theorem Agi {p:PP} (hv:Ca p=true) {x:List Int} (hx:x∈Al p):Xy x:= λy hy=>by
 have h1:=(gm hv).row x hx y hy
 have:=(valid hv).n
 omega
theorem Ag9 {n:Nat} {x:List Int} (h:Pm n x):Xy x:= λy hy=>by
 have h1:=h.row y hy
 have:=h.n2
 omega
theorem al {n:Nat} {x:List Int} (h:Pm n x):short x:=by
 have h1:=h.1
 have:=h.n2
 unfold short;omega
theorem zz {p:PP} (hw:Db p=true):(Ig p).2.1=Al p/\(Ig p).2.2.1=Gh p:=by
 have h:=(Dd hw).2
 refine FF 3001 0 ([upto p.1.toNat],[0],[0],[0]) [] _ _ ?_
 show Lo p.2.2.1 (Az p.2.2.1.length) 3001 0 [upto p.1.toNat] [0]=(Al p,Gh p,true)
 rw [<-h]
 rfl
theorem Aes {p:PP} (hw:Db p=true) {s:List Int} (hs:Xy s):(Ig p).2.2.2.1 (Tp s)=if s∈Al p then some (((Al p).idxOf s:Nat):Int) else none:=by
 show Zs (Ig p).2.1 (Tp s)=_
 rw [(zz hw).1,xZ hs λy hy=>Agi (Dd hw).1 hy]
theorem Akz (e:Option XP) (s:List Int) (h:(∃e':XP,e=some e'/\vX e')/\short s):fnW Fl (look [(78,Za),(121,Jm)]) qb Tryz.f117 (e,s,()) (λ(z:Int×Bool×Unit)=>z=Ab6 e s):=by
 obtain ⟨⟨e',rfl,h1,h2⟩,hs⟩:=h
 have hv:=(Dd h1).1
 refine Eq.mp (Alq (some e') s _) ⟨e',rfl,_,Ab hs,Br.of (λhb=>?_) λhb=>⟨e',rfl,_,Ab hs,?_⟩⟩
 ·have hb:=Gb hb
  show (0,false,())=Mv e'.1 s
  unfold Mv
  rw [Ai λhm=>hb (PH hv hm)]
 ·have hb:Ix e'.1.1 s=true:=by simpa using hb
  have hp:=LW (valid hv) hb
  dsimp only
  have e3:e'.2.2.2.1=(Ig e'.1).2.2.2.1:=by rw [<-h2]
  rw [e3,Aes h1 (Ag9 hp)]
  show _=Mv e'.1 s
  unfold Mv
  split<;>rfl
theorem OX:Sound Tryz.prog 117 qb:=
 Sound.Gk Dl (Au mM (Au jS Bl)) mixed Tryz.func117 (by kernel_rfl) (by kernel_rfl) λx h=>Akz x.1 x.2.1 h
theorem VL (p:PP) (s:List Int) (h:Gl p/\short s):fnW Fl (look [(92,Nf),(117,qb)]) Im Tryz.f59 (p,s,()) (λ(z:Option XP×Int×Bool×Unit)=>z=Kg p s):=by
 unfold Kg
 by_cases hw:Db p=true
 ·rw [Ab hw]
  have he:Nf.fn ((p.1,p.2.1,p.2.2.1,()),())=some (some (Ig p),true,()):=(Ab h.1).trans (Et some (Ab hw))
  refine Eq.mp (z0 p s _) ⟨_,he,λhb=>by simp at hb,λ_=>⟨_,Ab ⟨⟨Ig p,rfl,hw,rfl⟩,h.2⟩,?_⟩⟩
  rfl
 ·rw [Ai hw]
  have he:Nf.fn ((p.1,p.2.1,p.2.2.1,()),())=some (none,false,()):=(Ab h.1).trans (Et some (Ai hw))
  exact Eq.mp (z0 p s _) ⟨_,he,λ_=>rfl,λhb=>by simp at hb⟩
theorem Rq:Sound Tryz.prog 59 Im:=
 Sound.Gk Dl (Au lD (Au OX Bl)) mixed Tryz.func59 (by kernel_rfl) (by kernel_rfl) λx h=>VL x.1 x.2.1 h
theorem Aay {s goal:List Int} (h:Lu s.length goal) {j:Nat} (hj:j<goal.length):0<=goal[j]/\goal[j]<s.length:=h _ (Am hj)
theorem Al5 (x:Int) (s:List Int) (h:short s/\0<=x/\x<(s.length:Int)):fnW Fl (look []) qe Tryz.f154 (x,s,()) (λ(z:Bool)=>z=!decide (Dp s x=x)):=by
 obtain ⟨_,h1,h2⟩:=h
 obtain ⟨xn,rfl⟩:=Ci h1
 refine Eq.mp (Alx (xn:Int) s _) ⟨_,Bn (by omega),?_⟩
 have e:Dp s (xn:Int)=s[xn]'(by omega):=by unfold Dp;rw [Ae,Es]
 rw [e,bp]
 simp
theorem PD:Sound Tryz.prog 154 qe:=
 Sound.Gk Dl Bl mixed Tryz.func154 (by kernel_rfl) (by kernel_rfl) λx h=>Al5 x.1 x.2.1 h
theorem Aq7 (xs:List Int) (c:List Int×Unit) (h:short xs/\short c.1/\Lu (List.length c.1) xs):fnW Fl (look [(154,qe)]) yK Tryz.f146 (xs,c,()) (λ(z:Int)=>z=Dv (λy=>!decide (Dp c.1 y=y)) xs 0):=by
 obtain ⟨h,h4,h5⟩:=h
 unfold short at h
 refine Eq.mp (Aqy xs c _) ?_
 refine Bo xs.length (λv=>v.1) (λj _=>Dv (λy=>!decide (Dp c.1 y=y)) (xs.drop j) j=Dv (λy=>!decide (Dp c.1 y=y)) xs 0) rfl (by simp) ?_
 rintro j ⟨i,⟨⟩⟩ K hj hi hR hK
 dsimp only at hi⊢
 subst hi
 refine Br.dec (λhl=>?_) λhl=>?_
 ·have hl:j<xs.length:=by omega
  rw [Cc hl] at hR
  simp only [Dv] at hR
  refine ⟨_,Bn hl,_,Ab ⟨h4,Aay h5 hl⟩,⟨λhe=>?_,λhe=>?_⟩⟩
  ·have he:(!decide (Dp c.1 xs[j]=xs[j]))=true:=he
   rw [Ab he] at hR
   exact hR
  ·have he:(!decide (Dp c.1 xs[j]=xs[j]))=false:=he
   rw [Ai (by rw [he];decide)] at hR
   rw [Bj (by omega)]
   exact hK hl _ rfl (by push_cast;exact hR)
 ·have:j=xs.length:=by omega
  subst this
  rw [Fe] at hR
  exact hR
theorem WV:Sound Tryz.prog 146 yK:=
 Sound.Gk Dl (Au PD Bl) mixed Tryz.func146 (by kernel_rfl) (by kernel_rfl) λx h=>Aq7 x.1 x.2.1 h
theorem Aq0 (xs:List Int) (c:List Int×Unit) (h:short xs/\short c.1/\Lu (List.length c.1) xs):fnW Fl (look [(146,yK)]) yE Tryz.f102 (xs,c,()) (λ(z:Bool)=>z=List.any xs (λy=>!decide (Dp c.1 y=y))):=by
 refine Eq.mp (Aqr xs c _) ⟨_,Ab h,?_⟩
 rw [bp,Hu]
 exact aa _ xs 0 (Kl 0)
theorem WM:Sound Tryz.prog 102 yE:=
 Sound.Gk Dl (Au WV Bl) mixed Tryz.func102 (by kernel_rfl) (by kernel_rfl) λx h=>Aq0 x.1 x.2.1 h
theorem IA (g s:List Int) (h:short g/\short s/\Lu s.length g):fnW Fl (look [(102,yE)]) Gi Tryz.f111 (g,s,()) (λ(z:Bool)=>z=La g s):=by
 refine Eq.mp (JZ g s _) ⟨_,Ab h,?_⟩
 dsimp only
 unfold La
 rw [List.any_eq_not_all_not,Bool.not_not]
 simp only [Bool.not_not]
theorem Va:Sound Tryz.prog 111 Gi:=
 Sound.Gk Dl (Au WM Bl) mixed Tryz.func111 (by kernel_rfl) (by kernel_rfl) λx h=>IA x.1 x.2.1 h
theorem Tf {p:PP} {s:List Int} :Gu p s=true↔Db p=true/\s∈Al p:=by
 unfold Gu;rw [Ah,Hu]
theorem Yo {p:PP} {s:List Int} :(Kg p s).2.2.1=Gu p s:=by
 unfold Kg Mv Gu
 by_cases hw:Db p=true
 ·rw [Ab hw,hw,Ek]
  by_cases hm:s∈Al p
  ·rw [Ab hm,Cb hm]
  ·rw [Ai hm,Dx hm]
 ·rw [Ai hw,Fc _|>.mp hw,Cq]
theorem FQ {p:PP} {g s:List Int} (hf:Gu p s=true) (hg:Ey p.1 g=true):Lu s.length g:=by
 obtain ⟨hw,hm⟩:=Tf.1 hf
 have hv:=(Dd hw).1
 have h1:=(hY hv hm).1
 have hn:=(valid hv).n
 have h2:=Lb (p:=p) (t:=g) (Jo.2 ⟨hv,hg⟩)
 intro y hy
 have:=h2.2 y hy
 omega
theorem wG (p:PP) (g s:List Int) (h:Gl p/\short g/\short s):fnW Fl (look [(59,Im),(101,Ho),(111,Gi)]) Ze Tryz.f50 (p,g,s,()) (λ(z:Bool)=>z=pQ p g s):=by
 refine Eq.mp (xe p g s _) ⟨_,Ab ⟨h.1,h.2.2⟩,?_⟩
 rw [show (Kg (p.1,p.2.1,p.2.2.1,()) s).2.2.1=Gu p s from Yo]
 unfold pQ
 refine Br.of (λhf=>?_) λhf=>by rw [hf,Cq,Cq]
 have hn:=(valid (Dd (Tf.1 hf).1).1).n
 rw [hf,Ek]
 refine ⟨_,Ab ⟨by show nOK p.1;unfold nOK;omega,h.2.1⟩,Br.of (λhg=>?_) λhg=>?_⟩
 ·have hg:Ey p.1 g=true:=hg
  rw [hg,Ek]
  exact ⟨_,Ab ⟨h.2.1,h.2.2,FQ hf hg⟩,rfl⟩
 ·have hg:Ey p.1 g=false:=hg
  rw [hg,Cq]
theorem oK:Sound Tryz.prog 50 Ze:=
 Sound.Gk Dl (Au Rq (Au aH (Au Va Bl))) mixed Tryz.func50 (by kernel_rfl) (by kernel_rfl) λx h=>wG x.1 x.2.1 x.2.2.1 h
theorem NX (p:PP) (h:Gl p):fnW Fl (look [(63,Js),(96,Dy),(126,Ik)]) Qt Tryz.f114 (p,()) (λ(z:SS×Bool×Unit)=>z=Fh p):=by
 refine Eq.mp (QK p _) ⟨_,Ab h,?_⟩
 show Br (!Ca p) _ _
 unfold Fh
 by_cases hv:Ca p=true
 ·rw [Ab hv,hv]
  refine ⟨λhb=>by simp at hb,λ_=>?_⟩
  have hn:=(valid hv).n
  have YL:Dy.fn (p.1,())=some (upto p.1.toNat):=Ab ⟨by show 0<=p.1;omega,by show p.1<=20;omega⟩
  have hup: ∀y∈upto p.1.toNat,0<=y/\y<p.1:= λy hy=>by have:=Mr.1 hy;omega
  have zG:Ik.fn ((p.1,p.2.1,p.2.2.1,()),upto p.1.toNat,())=some (Nn p.2.2.1 (upto p.1.toNat)):=Ab ⟨hv,by show (upto p.1.toNat).length<=20;rw [Li];omega,hup⟩
  have hz:(((Nn p.2.2.1 (upto p.1.toNat)).1,(Nn p.2.2.1 (upto p.1.toNat)).2.1,(Nn p.2.2.1 (upto p.1.toNat)).2.2.1,(Nn p.2.2.1 (upto p.1.toNat)).2.2.2.1,()),(Nn p.2.2.1 (upto p.1.toNat)).2.2.2.1,())=(Nn p.2.2.1 (upto p.1.toNat),Db p,()):=by
   unfold Db
   rw [hv,Ek]
   rfl
  repeat' (first|exact hz|refine ⟨_,YL,?_⟩|refine ⟨_,zG,?_⟩|refine ⟨?_,?_⟩)
 ·rw [Ai hv]
  refine ⟨λ_=>rfl,λhb=>?_⟩
  exact absurd (by simpa using hb) hv
theorem jR:Sound Tryz.prog 114 Qt:=
 Sound.Gk Dl (Au Zg (Au cz (Au IZ Bl))) mixed Tryz.func114 (by kernel_rfl) (by kernel_rfl) λx h=>NX x.1 h
theorem VN (p:PP) (f:SS) (s:List Int) (h:Gl p/\short s/\Ca p=true/\f=Nn p.2.2.1 (upto p.1.toNat)):fnW Fl (look [(64,Og),(75,Rd)]) bB Tryz.f153 (p,f,s,()) (λ(z:Bool)=>z=decide (s∈Al p)):=by
 obtain ⟨hp,hs,hv,rfl⟩:=h
 refine Eq.mp (XR p _ s _) ⟨_,Ab ⟨hp,hs⟩,?_⟩
 show Br (Ca p&&Ix p.1 s) _ _
 rw [hv,Ek]
 refine Br.of (λhb=>?_) λhb=>?_
 ·have MH:=LW (valid hv) hb
  refine ⟨_,Ab (by show Ha s.length (Al p) (cA (Al p));rw [MH.1];exact (gm hv).ok),?_⟩
  show decide (gU (Al p) s>=0)=_
  unfold gU
  split
  ·rename_i hm
   rw [Cb hm]
   exact Cb (by omega)
  ·rename_i hm
   rw [Dx hm]
   rfl
 ·exact (Dx λhm=>by rw [PH hv hm] at hb;cases hb).symm
theorem wT:Sound Tryz.prog 153 bB:=
 Sound.Gk Dl (Au Xm (Au gk Bl)) mixed Tryz.func153 (by kernel_rfl) (by kernel_rfl) λx h=>VN x.1 x.2.1 x.2.2.1 h
theorem AX (p:PP) (s:List Int) (h:Gl p/\short s):fnW Fl (look [(114,Qt),(153,bB)]) Ti Tryz.f107 (p,s,()) (λ(z:Bool)=>z=Gu p s):=by
 refine Eq.mp (DJ p s _) ⟨_,Ab h.1,?_⟩
 dsimp only
 unfold Gu Fh
 by_cases hv:Ca p=true
 ·rw [Ab hv]
  show Br (Db p) _ _
  refine Br.of (λhw=>?_) λhw=>by rw [hw,Cq]
  rw [hw,Ek]
  exact ⟨_,Ab ⟨h.1,h.2,hv,rfl⟩,rfl⟩
 ·rw [Ai hv]
  refine ⟨λhb=>by simp at hb,λ_=>?_⟩
  have:Db p=false:=by unfold Db;rw [Fc _|>.mp hv,Cq]
  rw [this,Cq]
theorem qj:Sound Tryz.prog 107 Ti:=
 Sound.Gk Dl (Au jR (Au wT Bl)) mixed Tryz.func107 (by kernel_rfl) (by kernel_rfl) λx h=>AX x.1 x.2.1 h
theorem HY (g s:List Int) (h:short g/\short s/\Lu s.length g):fnW Fl (look []) Gi Tryz.f109 (g,s,()) (λ(z:Bool)=>z=La g s):=by
 obtain ⟨hg,hs,hr⟩:=h
 unfold short at hg
 refine Eq.mp (JX g s _) ?_
 refine Bo g.length (λv=>v.1) (λj _=>La (g.drop j) s=La g s) rfl (by simp) ?_
 rintro j ⟨i,⟨⟩⟩ K hj hi hR hK
 dsimp only at hi⊢
 subst hi
 refine Br.dec (λhl=>?_) λhl=>?_
 ·have hl:j<g.length:=by omega
  have h1:=Aay hr hl
  obtain ⟨xn,hx⟩:=Ci h1.1
  rw [Cc hl] at hR
  unfold La at hR
  rw [Jl] at hR
  have e:Dp s g[j]=s[xn]'(by omega):=by unfold Dp;rw [hx,Ae,Es]
  refine ⟨_,Bn hl,s[xn]'(by omega),by rw [hx];exact Bn (by omega),_,Bn hl,Br.of (λhb=>?_) λhb=>?_⟩
  ·have hb:s[xn]'(by omega)≠g[j]:=by simpa using hb
   rw [e,Dx hb,Cq] at hR
   exact hR
  ·have hb:s[xn]'(by omega)=g[j]:=by simpa using hb
   rw [e,Cb hb,Ek] at hR
   rw [Bj (by omega)]
   exact hK hl _ rfl hR
 ·have:j=g.length:=by omega
  subst this
  rw [Fe] at hR
  exact hR
theorem s9:Sound Tryz.prog 109 Gi:=
 Sound.Gk Dl Bl mixed Tryz.func109 (by kernel_rfl) (by kernel_rfl) λx h=>HY x.1 x.2.1 h
theorem Wo {b:Bool} (h:(!b)=true):b=false:=by cases b<;>simp_all
theorem qF {α:Type} (q:α->Bool) (xs:List α) {j:Nat} (h:j<xs.length):(xs.take (j+1)).countP q=(xs.take j).countP q+if q xs[j]=true then 1 else 0:=by
 rw [Kq,Ac h,List.countP_append]
 simp [List.countP_cons]
theorem zr {α:Type} (q:α->Bool) (xs:List α) (j:Nat):(xs.take j).countP q<=xs.length:=
 Je List.countP_le_length (by rw [Dm];omega)
theorem dc {p:PP} {gs:List (List Int)} (h:Gx p gs=true) {j:Nat} (hj:j<gs.length):Ey p.1 gs[j]=true:=by
 obtain ⟨_,_,h3,_⟩:=Jg.1 h
 exact (h3 j hj hj).1
theorem uD (p:PP) (gs:List (List Int)) (s:List Int) (h:Gl p/\Hi gs/\short s):fnW Fl (look [(59,Im),(44,Em),(111,Gi)]) Vl Tryz.f51 (p,gs,s,()) (λ(z:Int)=>z=mz p gs s):=by
 obtain ⟨hp,hg,hs⟩:=h
 refine Eq.mp (vP p gs s _) ⟨_,Ab ⟨hp,hs⟩,?_⟩
 rw [show (Kg (p.1,p.2.1,p.2.2.1,()) s).2.2.1=Gu p s from Yo]
 unfold mz
 refine Br.of (λhf=>?_) λhf=>?_
 ·rw [Wo hf,Cq,Ai (by decide)]
 have hf:Gu p s=true:=by simpa using hf
 rw [hf,Ek]
 refine ⟨_,Ab ⟨hp,hg⟩,Br.of (λhm=>?_) λhm=>?_⟩
 ·rw [Ai (Gb hm)]
 have hm:Gx p gs=true:=by simpa using hm
 rw [Ab hm]
 have hlen:=hg.1
 refine Bo gs.length (λv=>v.2.1) (λj v=>v.1=(((gs.take j).countP λg=>La g s:Nat):Int)) rfl (by simp) ?_
 rintro j ⟨c,i,⟨⟩⟩ K hj hi hR hK
 dsimp only at hi hR⊢
 subst hi hR
 have hb:=zr (λg=>La g s) gs j
 refine Br.dec (λhl=>?_) λhl=>?_
 ·have hl:j<gs.length:=by omega
  refine ⟨_,Bn hl,_,Ab ⟨hg.2 _ (Am hl),hs,FQ hf (dc hm hl)⟩,Br.of (λhb=>?_) λhb=>?_⟩
  ·have hb:La gs[j] s=true:=hb
   rw [Bj (by omega),Bj (by omega)]
   refine hK hl _ rfl ?_
   rw [qF _ gs hl,Ab hb]
  ·have hb:La gs[j] s=false:=hb
   rw [Bj (by omega)]
   refine hK hl _ rfl ?_
   rw [qF _ gs hl,Ai (by rw [hb];decide)]
   rfl
 ·have:j=gs.length:=by omega
  subst this
  rw [Be]
theorem mN:Sound Tryz.prog 51 Vl:=
 Sound.Gk Dl (Au Rq (Au Lm (Au Va Bl))) mixed Tryz.func51 (by kernel_rfl) (by kernel_rfl) λx h=>uD x.1 x.2.1 x.2.2.1 h
theorem oR {p:PP} (hv:Ca p=true):(Al p).length<=3000:=(gm hv).ok.p8
theorem kG {p:PP} {t s:List Int} (hv:Ca p=true) (hs:s∈Al p) (ht:Gd p t=true):Lu s.length t:=by
 have h1:=(hY hv hs).1
 have hn:=(valid hv).n
 intro y hy
 have:=(Lb ht).2 y hy
 omega
def Cj (g:List (List Int)) (s w:List Int):List Int:=w.foldl (λq l=>Aj q (Ax g l)) s
noncomputable abbrev Mk:Spec:=Gk (.pair tI (.pair nf (.pair tL .unit))) tL false true (λx=> ∃p:PP,Ca p=true/\p.1=x.1/\p.2.2.1=x.2.1/\Fg (List.length x.2.1:Nat) x.2.2.1=true) (λx=>Cj x.2.1 (upto x.1.toNat) x.2.2.1)
noncomputable abbrev Ra:Spec:=Gk (.pair Iw (.pair tL (.pair tL .unit))) tL false false (λx=>Ca x.1=true/\Pm x.1.1.toNat x.2.1/\Fg (List.length x.1.2.2.1:Nat) x.2.2.1=true) (λx=>Cj x.1.2.2.1 x.2.1 x.2.2.1)
def jv (g:List (List Int)):List (List Int)->List (List Int)->List Int->Bool
 |goal::gs,w::ws,s=>Fg (List.length g:Nat) w&&(La goal (Cj g s w)&&jv g gs ws (Cj g s w))
 |_,_,_=>true
noncomputable def eI (p:PP) (goals:List (List Int)) (s:List Int) (words:List (List Int)):Bool:=
 Gu p s&&Gx p goals&&decide (words.length=goals.length)&&jv p.2.2.1 goals words s
noncomputable abbrev Ng:Spec:=Gk (.pair Iw (.pair nf (.pair tL (.pair nf .unit)))) .bool false true (λx=>Gl x.1/\Hi x.2.1/\short x.2.2.1/\Hi x.2.2.2.1) (λx=>eI x.1 x.2.1 x.2.2.1 x.2.2.2.1)
theorem QA (n:Int) (g:List (List Int)) (w:List Int) (P:List Int->Prop):(∃(y4:List Int),Ov.fn (n,())=some y4/\Dn (λ(v5:List Int×Int×PUnit) (k6:List Int×Int×PUnit->Prop)=>Br (decide (v5.2.1<(↑w.length:Int))) (∃(y7:Int),idx w v5.2.1=some y7/\ ∃(y8:List Int),Kb.fn (g,y7,())=some y8/\ ∃(y9:List Int),Il.fn (v5.1,y8,())=some y9/\k6 (y9,IntKind.i64.wrap (v5.2.1+(1:Int)),())) (P v5.1)) (y4,(0:Int),PUnit.unit))=fnW Fl (look [(133,Ov),(134,Il),(135,Kb)]) Mk Tryz.f84 (n,g,w,()) P:=by kernel_rfl
theorem Ad8 (p:Int×ByteArray×List (List Int)×Unit) (s w:List Int) (P:List Int->Prop):(∃(y4:List Int),Mk.fn (p.1,p.2.2.1,w,())=some y4/\ ∃(y5:List Int),Il.fn (s,y4,())=some y5/\P y5)=fnW Fl (look [(134,Il),(84,Mk)]) Ra Tryz.f110 (p,s,w,()) P:=by kernel_rfl
abbrev vG:Type:=List Int×Int×Int×ByteArray×List (List Int)×PUnit
theorem XM (p:Int×ByteArray×List (List Int)×Unit) (s w:List Int) (P:List Int->Prop):(∃(y4:List Int),Qr.fn (s,())=some y4/\Dn (λ(v5:vG) (k6:vG->Prop)=>Br (decide (v5.2.1<(↑w.length:Int))) (∃(y7:Int),idx w v5.2.1=some y7/\ ∃(y8:List Int),Xi.fn ((v5.2.2.1,v5.2.2.2.1,v5.2.2.2.2.1,()),v5.1,y7,())=some y8/\k6 (y8,IntKind.i64.wrap (v5.2.1+(1:Int)),v5.2.2.1,v5.2.2.2.1,v5.2.2.2.2.1,())) (P v5.1)) (y4,(0:Int),p.1,p.2.1,p.2.2.1,PUnit.unit))=fnW Fl (look [(68,Qr),(66,Xi)]) Ra Tryz.f108 (p,s,w,()) P:=by kernel_rfl
abbrev jX:Type:=List Int×Int×Int×ByteArray×List (List Int)×PUnit
theorem xd (p:Int×ByteArray×List (List Int)×Unit) (gs:List (List Int)) (s:List Int) (ws:List (List Int)) (P:Bool->Prop):(∃(y5:Option ((Int×ByteArray×List (List Int)×PUnit)×List (List Int)×List Int×(ByteArray->Option Int)×List Int×List Int×List (List Int)×PUnit)×Int×Bool×PUnit),Im.fn ((p.1,p.2.1,p.2.2.1,()),s,())=some y5/\Br (!y5.2.2.1) (P false) (∃(y6:Bool),Em.fn ((p.1,p.2.1,p.2.2.1,()),gs,())=some y6/\Br (!y6) (P false) (Br ((↑ws.length:Int) !=(↑gs.length:Int)) (P false) (Dn (λ(v7:jX) (k8:jX->Prop)=>Br (decide (v7.2.1<(↑ws.length:Int))) (∃(y9:List Int),idx ws v7.2.1=some y9/\ ∃(Xw:Bool),bE.fn ((v7.2.2.1,v7.2.2.2.1,v7.2.2.2.2.1,()),y9,())=some Xw/\Br (!Xw) (P false) (∃(Sj:List Int),Ra.fn ((v7.2.2.1,v7.2.2.2.1,v7.2.2.2.2.1,()),v7.1,y9,())=some Sj/\ ∃(Rr:List Int),idx gs v7.2.1=some Rr/\ ∃(il:Bool),Gi.fn (Rr,Sj,())=some il/\Br (!il) (P false) (k8 (Sj,IntKind.i64.wrap (v7.2.1+(1:Int)),v7.2.2.1,v7.2.2.2.1,v7.2.2.2.2.1,())))) (P true)) (s,(0:Int),p.1,p.2.1,p.2.2.1,PUnit.unit)))))=fnW Fl (look [(59,Im),(44,Em),(83,bE),(110,Ra),(111,Gi)]) Ng Tryz.f46 (p,gs,s,ws,()) P:=by kernel_rfl
abbrev jY:Type:=List Int×Int×Int×ByteArray×List (List Int)×PUnit
theorem xk (p:Int×ByteArray×List (List Int)×Unit) (gs:List (List Int)) (s:List Int) (ws:List (List Int)) (P:Bool->Prop):(∃(y5:Bool),Em.fn ((p.1,p.2.1,p.2.2.1,()),gs,())=some y5/\Br (!y5) (P false) (∃(y6:Bool),Ti.fn ((p.1,p.2.1,p.2.2.1,()),s,())=some y6/\Br (!y6) (P false) (Br ((↑ws.length:Int) !=(↑gs.length:Int)) (P false) (Dn (λ(v7:jY) (k8:jY->Prop)=>Br (decide (v7.2.1<(↑ws.length:Int))) (∃(y9:List Int),idx ws v7.2.1=some y9/\ ∃(Xw:Bool),Jt.fn ((↑v7.2.2.2.2.1.length:Int),y9,())=some Xw/\Br (!Xw) (P false) (∃(Sj:List Int),idx ws v7.2.1=some Sj/\ ∃(Rr:List Int),Ra.fn ((v7.2.2.1,v7.2.2.2.1,v7.2.2.2.2.1,()),v7.1,Sj,())=some Rr/\ ∃(il:List Int),idx gs v7.2.1=some il/\ ∃(cJ:Bool),Gi.fn (il,Rr,())=some cJ/\Br (!cJ) (P false) (k8 (Rr,IntKind.i64.wrap (v7.2.1+(1:Int)),v7.2.2.1,v7.2.2.2.1,v7.2.2.2.2.1,())))) (P true)) (s,(0:Int),p.1,p.2.1,p.2.2.1,PUnit.unit)))))=fnW Fl (look [(106,Em),(107,Ti),(72,Jt),(108,Ra),(109,Gi)]) Ng Tryz.f45 (p,gs,s,ws,()) P:=by kernel_rfl
theorem bw {p:PP} (hV:Valid p) {l:Int} (hl:Hj (List.length p.2.2.1) l):Pm p.1.toNat (Ax p.2.2.1 l):=by
 have hn:=hV.n
 obtain ⟨k,hk,Pf⟩:=Ql hl
 have hp:Pm p.1.toNat (p.2.2.1[k]):=⟨by have:=hV.len _ (Am hk);omega,fS (hV.perm _ (Am hk))⟩
 rcases Pf with rfl|rfl
 ·rw [Qn hk];exact hp
 ·rw [Qm hk];exact hp.inv
theorem Zz {p:PP} (hV:Valid p): ∀(w s:List Int),(∀l∈w,Hj (List.length p.2.2.1) l)->Pm p.1.toNat s->Pm p.1.toNat (Cj p.2.2.1 s w)
 | [],s,_,hs=>hs
 |l::w,s,hl,hs=>by
  have h1:=bw hV (hl l (by simp))
  exact Zz hV w _ (λl' h=>hl l' (Ap _ h)) (hs.comp h1)
theorem iL {p:PP} (hV:Valid p) {s:List Int} (hs:Pm p.1.toNat s): ∀(w q:List Int),(∀l∈w,Hj (List.length p.2.2.1) l)->Pm p.1.toNat q->Aj s (Cj p.2.2.1 q w)=Cj p.2.2.1 (Aj s q) w
 | [],q,_,_=>rfl
 |l::w,q,hl,hq=>by
  have h1:=bw hV (hl l (by simp))
  have h2:=iL hV hs w _ (λl' h=>hl l' (Ap _ h)) (hq.comp h1)
  show Aj s (Cj p.2.2.1 (Aj q (Ax p.2.2.1 l)) w)=Cj p.2.2.1 (Aj (Aj s q) (Ax p.2.2.1 l)) w
  rw [h2,It hs hq h1]
theorem m5 {g:List (List Int)} {s w:List Int} {j:Nat} (h:j<w.length):Cj g s (w.take (j+1))=Aj (Cj g s (w.take j)) (Ax g w[j]):=by
 unfold Cj
 rw [Kq,Ac h,Qb,List.foldl_append]
 rfl
theorem uI {n:Nat} {q:List Int} (h:Pm n q):q.length<=20:=by have:=h.1;have:=h.n2;omega
theorem ov {n:Nat} {p q:List Int} (hp:Pm n p) (hq:Pm n q):Lu q.length p:=by rw [hq.1];exact hp.row
theorem NN (n:Int) (g:List (List Int)) (w:List Int) (h: ∃p:PP,Ca p=true/\p.1=n/\p.2.2.1=g/\Fg (List.length g:Nat) w=true):fnW Fl (look [(133,Ov),(134,Il),(135,Kb)]) Mk Tryz.f84 (n,g,w,()) (λ(z:List Int)=>z=Cj g (upto n.toNat) w):=by
 obtain ⟨p,hv,rfl,rfl,hw⟩:=h
 have hV:=valid hv
 have hn:=hV.n
 have hf:=hV.p8
 obtain ⟨w1,w2⟩:=Nb hw
 refine Eq.mp (QA p.1 p.2.2.1 w _) ⟨upto p.1.toNat,Ab ⟨by show 0<=p.1;omega,by show p.1<=20;omega⟩,?_⟩
 refine Bo w.length (λv=>v.2.1) (λj v=>v.1=Cj p.2.2.1 (upto p.1.toNat) (w.take j)) rfl rfl ?_
 rintro j ⟨q,i,⟨⟩⟩ K hj hi hR hK
 dsimp only at hi hR⊢
 subst hi hR
 have hq:=Zz hV (w.take j) _ (λl hl=>w2 l (De hl)) (Pm.id (n:=p.1.toNat) (by omega) (by omega))
 refine Br.dec (λhl=>?_) λhl=>?_
 ·have hl:j<w.length:=by omega
  have nY:=w2 _ (Am hl)
  have pH:=bw hV nY
  refine ⟨_,Bn hl,_,Ab ⟨nY,hf.2,hV.perm⟩,_,Ab ⟨uI hq,ov hq pH⟩,?_⟩
  rw [Bj (by omega)]
  exact hK hl _ rfl (m5 hl).symm
 ·have:j=w.length:=by omega
  subst this
  rw [Be]
theorem vh:Sound Tryz.prog 84 Mk:=
 Sound.Gk Dl (Au aG (Au Ox (Au jQ Bl))) mixed Tryz.func84 (by kernel_rfl) (by kernel_rfl) λx h=>NN x.1 x.2.1 x.2.2.1 h
theorem Abm (p:PP) (s w:List Int) (h:Ca p=true/\Pm p.1.toNat s/\Fg (List.length p.2.2.1:Nat) w=true):fnW Fl (look [(134,Il),(84,Mk)]) Ra Tryz.f110 (p,s,w,()) (λ(z:List Int)=>z=Cj p.2.2.1 s w):=by
 obtain ⟨hv,hs,hw⟩:=h
 have hV:=valid hv
 have hn:=hV.n
 obtain ⟨w1,w2⟩:=Nb hw
 have YL:=Pm.id (n:=p.1.toNat) (by omega) (by omega)
 have hq:=Zz hV w _ w2 YL
 refine Eq.mp (Ad8 p s w _) ⟨_,Ab ⟨p,hv,rfl,rfl,hw⟩,_,Ab ⟨uI hs,ov hs hq⟩,?_⟩
 show Aj s (Cj p.2.2.1 (upto p.1.toNat) w)=_
 rw [iL hV hs w _ w2 YL,comp_id hs]
theorem BY:Sound Tryz.prog 110 Ra:=
 Sound.Gk Dl (Au Ox (Au vh Bl)) mixed Tryz.func110 (by kernel_rfl) (by kernel_rfl) λx h=>Abm x.1 x.2.1 x.2.2.1 h
theorem Ac2 {p:PP} (hV:Valid p) {q:List Int} (h:Pm p.1.toNat q): ∀y∈q,0<=y/\y<p.1:= λy hy=>by
 have:=h.row y hy
 have:=hV.n
 omega
theorem VI (p:PP) (s w:List Int) (h:Ca p=true/\Pm p.1.toNat s/\Fg (List.length p.2.2.1:Nat) w=true):fnW Fl (look [(68,Qr),(66,Xi)]) Ra Tryz.f108 (p,s,w,()) (λ(z:List Int)=>z=Cj p.2.2.1 s w):=by
 obtain ⟨hv,hs,hw⟩:=h
 have hV:=valid hv
 obtain ⟨w1,w2⟩:=Nb hw
 refine Eq.mp (XM p s w _) ⟨_,Ab (al hs),?_⟩
 refine Bo w.length (λv=>v.2.1) (λj v=>v=(Cj p.2.2.1 s (w.take j),(j:Int),p.1,p.2.1,p.2.2.1,())) rfl rfl ?_
 rintro j v K hj hi hR hK
 subst hR
 dsimp only
 have hq:=Zz hV (w.take j) _ (λl hl=>w2 l (De hl)) hs
 refine Br.dec (λhl=>?_) λhl=>?_
 ·have hl:j<w.length:=by omega
  have nY:=w2 _ (Am hl)
  refine ⟨_,Bn hl,_,Ab ⟨hv,uI hq,Ac2 hV hq,nY⟩,?_⟩
  rw [Bj (by omega)]
  refine hK hl _ rfl ?_
  rw [m5 hl]
 ·have:j=w.length:=by omega
  subst this
  rw [Be]
theorem wR:Sound Tryz.prog 108 Ra:=
 Sound.Gk Dl (Au jO (Au oG Bl)) mixed Tryz.func108 (by kernel_rfl) (by kernel_rfl) λx h=>VI x.1 x.2.1 x.2.2.1 h
theorem yg {g gs ws:List (List Int)} {j:Nat} (h1:j<gs.length) (h2:j<ws.length) {s:List Int} :jv g (gs.drop j) (ws.drop j) s=(Fg (List.length g:Nat) ws[j]&&(La gs[j] (Cj g s ws[j])&&jv g (gs.drop (j+1)) (ws.drop (j+1)) (Cj g s ws[j]))):=by
 rw [Cc h1,Cc h2]
 rfl
theorem zF {p:PP} (hv:Ca p=true) {g s:List Int} (hs:Pm p.1.toNat s) (hg:Ey p.1 g=true):Lu s.length g:=by
 have h1:=hs.1
 have hn:=(valid hv).n
 have h2:=Lb (p:=p) (t:=g) (Jo.2 ⟨hv,hg⟩)
 intro y hy
 have:=h2.2 y hy
 omega
theorem wF (p:PP) (gs:List (List Int)) (s:List Int) (ws:List (List Int)) (h:Gl p/\Hi gs/\short s/\Hi ws):fnW Fl (look [(59,Im),(44,Em),(83,bE),(110,Ra),(111,Gi)]) Ng Tryz.f46 (p,gs,s,ws,()) (λ(z:Bool)=>z=eI p gs s ws):=by
 obtain ⟨hp,hg,hs,hw⟩:=h
 refine Eq.mp (xd p gs s ws _) ⟨_,Ab ⟨hp,hs⟩,?_⟩
 rw [show (Kg (p.1,p.2.1,p.2.2.1,()) s).2.2.1=Gu p s from Yo]
 unfold eI
 refine Br.of (λhf=>?_) λhf=>?_
 ·rw [Wo hf,Cq,Cq,Cq]
 have hf:Gu p s=true:=by simpa using hf
 rw [hf,Ek]
 obtain ⟨hwh,Qj⟩:=Tf.1 hf
 have hv:=(Dd hwh).1
 have hV:=valid hv
 refine ⟨_,Ab ⟨hp,hg⟩,Br.of (λhm=>?_) λhm=>?_⟩
 ·have hm:Gx p gs=false:=Wo hm
  rw [hm,Cq,Cq]
 have hm:Gx p gs=true:=by simpa using hm
 rw [hm,Ek]
 refine ⟨λhl=>?_,λhl=>?_⟩
 ·have hl:ws.length≠gs.length:=by have:(ws.length:Int)≠gs.length:=by simpa using hl
                                  omega
  rw [Dx hl,Cq]
 have hl:ws.length=gs.length:=by have:(ws.length:Int)=gs.length:=by simpa using hl
                                 omega
 rw [Cb hl,Ek]
 have hlen:=hg.1
 refine Bo ws.length (λv=>v.2.1) (λj v=> ∃x,v=(x,(j:Int),p.1,p.2.1,p.2.2.1,())/\Pm p.1.toNat x/\jv p.2.2.1 (gs.drop j) (ws.drop j) x=jv p.2.2.1 gs ws s) rfl ⟨s,rfl,hY hv Qj,rfl⟩ ?_
 rintro j v K hj hi ⟨x,rfl,hx,hR⟩ hK
 dsimp only
 refine Br.dec (λnd=>?_) λnd=>?_
 ·have hjw:j<ws.length:=by omega
  have hjg:j<gs.length:=by omega
  rw [yg hjg hjw] at hR
  refine ⟨_,Bn hjw,_,Ab ⟨hp,hw.2 _ (Am hjw)⟩,Br.of (λhb=>?_) λhb=>?_⟩
  ·have hb:Fg (List.length p.2.2.1:Nat) ws[j]=false:=Wo hb
   rw [hb,Cq] at hR
   exact hR
  have hb:Fg (List.length p.2.2.1:Nat) ws[j]=true:=by simpa using hb
  rw [hb,Ek] at hR
  have MK:=Zz hV ws[j] x (Nb hb).2 hx
  refine ⟨_,Ab ⟨hv,hx,hb⟩,_,Bn hjg,_,Ab ⟨hg.2 _ (Am hjg),al MK,zF hv MK (dc hm hjg)⟩,Br.of (λhc=>?_) λhc=>?_⟩
  ·have hc:La gs[j] (Cj p.2.2.1 x ws[j])=false:=Wo hc
   rw [hc,Cq] at hR
   exact hR
  ·have hc:La gs[j] (Cj p.2.2.1 x ws[j])=true:=by simpa using hc
   rw [hc,Ek] at hR
   rw [Bj (by omega)]
   exact hK hjw _ rfl ⟨_,rfl,MK,hR⟩
 ·have:j=ws.length:=by omega
  subst this
  rw [Fe,hl,Fe] at hR
  exact hR
theorem oJ:Sound Tryz.prog 46 Ng:=
 Sound.Gk Dl (Au Rq (Au Lm (Au wW (Au BY (Au Va Bl))))) mixed Tryz.func46 (by kernel_rfl) (by kernel_rfl) λx h=>wF x.1 x.2.1 x.2.2.1 x.2.2.2.1 h
theorem wL (p:PP) (gs:List (List Int)) (s:List Int) (ws:List (List Int)) (h:Gl p/\Hi gs/\short s/\Hi ws):fnW Fl (look [(106,Em),(107,Ti),(72,Jt),(108,Ra),(109,Gi)]) Ng Tryz.f45 (p,gs,s,ws,()) (λ(z:Bool)=>z=eI p gs s ws):=by
 obtain ⟨hp,hg,hs,hw⟩:=h
 refine Eq.mp (xk p gs s ws _) ⟨_,Ab ⟨hp,hg⟩,?_⟩
 unfold eI
 refine Br.of (λhm=>?_) λhm=>?_
 ·have hm:Gx p gs=false:=Wo hm
  rw [hm,Bool.and_false,Cq,Cq]
 have hm:Gx p gs=true:=by simpa using hm
 rw [hm,Bool.and_true]
 refine ⟨_,Ab ⟨hp,hs⟩,Br.of (λhf=>?_) λhf=>?_⟩
 ·have hf:Gu p s=false:=Wo hf
  rw [hf,Cq,Cq]
 have hf:Gu p s=true:=by simpa using hf
 rw [hf,Ek]
 obtain ⟨hwh,Qj⟩:=Tf.1 hf
 have hv:=(Dd hwh).1
 have hV:=valid hv
 have wa:=hV.p8
 refine ⟨λhl=>?_,λhl=>?_⟩
 ·have hl:ws.length≠gs.length:=by have:(ws.length:Int)≠gs.length:=by simpa using hl
                                  omega
  rw [Dx hl,Cq]
 have hl:ws.length=gs.length:=by have:(ws.length:Int)=gs.length:=by simpa using hl
                                 omega
 rw [Cb hl,Ek]
 have hlen:=hg.1
 refine Bo ws.length (λv=>v.2.1) (λj v=> ∃x,v=(x,(j:Int),p.1,p.2.1,p.2.2.1,())/\Pm p.1.toNat x/\jv p.2.2.1 (gs.drop j) (ws.drop j) x=jv p.2.2.1 gs ws s) rfl ⟨s,rfl,hY hv Qj,rfl⟩ ?_
 rintro j v K hj hi ⟨x,rfl,hx,hR⟩ hK
 dsimp only
 refine Br.dec (λnd=>?_) λnd=>?_
 ·have hjw:j<ws.length:=by omega
  have hjg:j<gs.length:=by omega
  rw [yg hjg hjw] at hR
  refine ⟨_,Bn hjw,_,Ab ⟨hw.2 _ (Am hjw),by show (0:Int)<=((p.2.2.1.length:Nat):Int);omega,by show ((p.2.2.1.length:Nat):Int)<=4294967296;omega⟩,Br.of (λhb=>?_) λhb=>?_⟩
  ·have hb:Fg (List.length p.2.2.1:Nat) ws[j]=false:=Wo hb
   rw [hb,Cq] at hR
   exact hR
  have hb:Fg (List.length p.2.2.1:Nat) ws[j]=true:=by simpa using hb
  rw [hb,Ek] at hR
  have MK:=Zz hV ws[j] x (Nb hb).2 hx
  refine ⟨_,Bn hjw,_,Ab ⟨hv,hx,hb⟩,_,Bn hjg,_,Ab ⟨hg.2 _ (Am hjg),al MK,zF hv MK (dc hm hjg)⟩,Br.of (λhc=>?_) λhc=>?_⟩
  ·have hc:La gs[j] (Cj p.2.2.1 x ws[j])=false:=Wo hc
   rw [hc,Cq] at hR
   exact hR
  ·have hc:La gs[j] (Cj p.2.2.1 x ws[j])=true:=by simpa using hc
   rw [hc,Ek] at hR
   rw [Bj (by omega)]
   exact hK hjw _ rfl ⟨_,rfl,MK,hR⟩
 ·have:j=ws.length:=by omega
  subst this
  rw [Fe,hl,Fe] at hR
  exact hR
theorem oO:Sound Tryz.prog 45 Ng:=
 Sound.Gk Dl (Au mO (Au qj (Au ql (Au wR (Au s9 Bl))))) mixed Tryz.func45 (by kernel_rfl) (by kernel_rfl) λx h=>wL x.1 x.2.1 x.2.2.1 x.2.2.2.1 h
theorem map_take {α β:Type} (f:α->β) {xs:List α} {j:Nat} (h:j<xs.length):(xs.take (j+1)).map f=(xs.take j).map f++ [f xs[j]]:=by
 rw [Kq,Ac h,Oz];rfl
theorem SK {p:PP} {s:List Int} (h:s∈Al p):0<=(Mv p s).1/\(Mv p s).1<(Al p).length/\(Al p).getD (Mv p s).1.toNat []=s:=by
 unfold Mv
 rw [Ab h]
 have h1:=Hm h
 refine ⟨Int.natCast_nonneg _,by show ((List.idxOf s (Al p):Nat):Int)<_;omega,?_⟩
 show (Al p).getD ((List.idxOf s (Al p):Nat):Int).toNat []=s
 rw [Ae,Es h1]
 exact Ud h1
theorem PI {p:PP} (hv:Ca p=true):1<=(Al p).length:=by
 obtain ⟨A,h⟩:=(cp hv).first
 show 1<=(Ie p.2.2.1 (upto p.1.toNat)).1.length
 rw [h];simp
end Go.Proofs.YtkkdpknjohcekaaGreat
