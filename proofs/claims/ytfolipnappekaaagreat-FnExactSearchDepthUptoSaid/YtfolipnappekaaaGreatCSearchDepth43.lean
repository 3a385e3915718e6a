/-
  Part 44 of the proof that the statement FnExactSearchDepth holds.
-/
import Derived.Test.YtfolipnappekaaaGreatCSearchDepth42
import Derived.Shelf.RegionOpenPlain
import Derived.WalkKit
import Derived.Lib.Walk
namespace Go.Proofs.YtfolipnappekaaaGreat
open Go.RowKit
def ap (p:List Int) (i:Nat):Nat:=(Nm p (i:Int)).toNat
def Pm (n:Nat) (p:List Int):Prop:=p.length=n/\bB p
theorem Pm.n1 {n:Nat} {p:List Int} (h:Pm n p):1<=n:=h.1▸h.2.pos
theorem Pm.n2 {n:Nat} {p:List Int} (h:Pm n p):n<=20:=h.1▸h.2.len
theorem Pm.aL {n:Nat} {p:List Int} (h:Pm n p) {i:Nat} (hi:i<n):Nm p (i:Int)=(ap p i:Int)/\ap p i<n:=by
 have nz:i<p.length:=by rw [h.1];exact hi
 have:=h.2.row _ (Aj nz)
 unfold ap
 rw [Mi nz]
 have h1:=h.1
 omega
theorem Pm.lt {n:Nat} {p:List Int} (h:Pm n p) {i:Nat} (hi:i<n):ap p i<n:=(h.aL hi).2
theorem Pm.ext {n:Nat} {p q:List Int} (h:Pm n p) (k:Pm n q) (e: ∀i,i<n->ap p i=ap q i):p=q:=by
 refine List.ext_getElem (by rw [h.1,k.1]) λi h1 h2=>?_
 have hi:i<n:=by rw [<-h.1];exact h1
 have a:=(h.aL hi).1
 have b:=(k.aL hi).1
 rw [Mi h1] at a
 rw [Mi h2] at b
 rw [a,b,e i hi]
theorem Pm.inj {n:Nat} {p:List Int} (h:Pm n p) {i j:Nat} (hi:i<n) (hj:j<n) (e:ap p i=ap p j):i=j:=
 h.2.inj i j (by rw [h.1];exact hi) (by rw [h.1];exact hj) e
theorem Pm.Aaw {n:Nat} {p:List Int} (h:Pm n p) {k:Nat} (hk:k<n): ∃i,i<n/\ap p i=k:=by
 obtain ⟨i,h1,h2⟩:=h.2.Aaw k (by rw [h.1];exact hk)
 exact ⟨i,by rw [<-h.1];exact h1,h2⟩
theorem Pm.of {n:Nat} {p:List Int} (hl:p.length=n) (h1:1<=n) (h2:n<=20) (f:Nat->Nat) (hf: ∀i,i<n->p[i]?=some (f i:Int)/\f i<n) (hi: ∀i j,i<n->j<n->f i=f j->i=j):Pm n p:=by
 refine ⟨hl,by omega,by omega,λy hy=>?_,?_⟩
 ·obtain ⟨i,hi,rfl⟩:=Cl.1 hy
  obtain ⟨h3,h4⟩:=hf i (by omega)
  rw [Ac hi] at h3
  rw [Ba h3]
  omega
 ·refine Ew.2 λi j h3 h4 h5 h6=>?_
  have a:=(hf i (by omega)).1
  have b:=(hf j (by omega)).1
  rw [Ac h3] at a
  rw [Ac h4] at b
  rw [Ba a,Ba b] at h6
  have:=hi i j (by omega) (by omega) (by omega)
  omega
theorem EI {n:Nat} {p q:List Int} (hp:Pm n p) (hq:Pm n q) {i:Nat} (hi:i<n):(Al p q)[i]?=some (ap q (ap p i):Int):=by
 have h1:i<p.length:=by rw [hp.1];exact hi
 unfold Al
 rw [Fc,Ac h1]
 have a:=(hp.aL hi).1
 rw [Mi h1] at a
 simp only [Am,a]
 rw [(hq.aL (hp.aL hi).2).1]
theorem Pm.comp {n:Nat} {p q:List Int} (hp:Pm n p) (hq:Pm n q):Pm n (Al p q):=
 Pm.of (by rw [Pe,hp.1]) hp.n1 hp.n2 (λi=>ap q (ap p i)) (λi hi=>⟨EI hp hq hi,hq.lt (hp.lt hi)⟩) λi j hi hj e=>hp.inj hi hj (hq.inj (hp.lt hi) (hp.lt hj) e)
theorem YJ {p:List Int} {i k:Nat} (h:p[i]?=some (k:Int)):ap p i=k:=by
 unfold ap Nm
 rw [Ai,Ak,h]
 simp
theorem Lm {n:Nat} {p q:List Int} (hp:Pm n p) (hq:Pm n q) {i:Nat} (hi:i<n):ap (Al p q) i=ap q (ap p i):=YJ (EI hp hq hi)
theorem jA {n i:Nat} (hi:i<n):(upto n)[i]?=some (i:Int):=by simp [upto,hi]
theorem kP {n i:Nat} (hi:i<n):ap (upto n) i=i:=YJ (jA hi)
theorem Pm.id {n:Nat} (h1:1<=n) (h2:n<=20):Pm n (upto n):=Pm.of (by simp [upto]) h1 h2 (λi=>i) (λi hi=>⟨jA hi,hi⟩) λ_ _ _ _ e=>e
theorem RY {n:Nat} {p:List Int} (hp:Pm n p) {i:Nat} (hi:i<n):(Bk p)[ap p i]?=some (i:Int):=Aa8 hp.2 (by rw [hp.1];exact hi)
theorem jK {n:Nat} {p:List Int} (hp:Pm n p) {i:Nat} (hi:i<n):ap (Bk p) (ap p i)=i:=YJ (RY hp hi)
theorem zh {n:Nat} {p:List Int} (hp:Pm n p) {k:Nat} (hk:k<n):ap p (ap (Bk p) k)=k:=by
 obtain ⟨i,hi,rfl⟩:=hp.Aaw hk
 rw [jK hp hi]
theorem Pm.inv {n:Nat} {p:List Int} (hp:Pm n p):Pm n (Bk p):=by
 refine Pm.of (by rw [nD,hp.1]) hp.n1 hp.n2 (λk=>ap (Bk p) k) (λk hk=>?_) λi j hi hj e=>?_
 ·obtain ⟨i,hi,rfl⟩:=hp.Aaw hk
  rw [jK hp hi]
  exact ⟨RY hp hi,hi⟩
 ·rw [<-zh hp hi,<-zh hp hj,e]
theorem Kd {n:Nat} {p q r:List Int} (hp:Pm n p) (hq:Pm n q) (hr:Pm n r):Al (Al p q) r=Al p (Al q r):=
 ((hp.comp hq).comp hr).ext (hp.comp (hq.comp hr)) λi hi=>by rw [Lm (hp.comp hq) hr hi,Lm hp hq hi,Lm hp (hq.comp hr) hi,Lm hq hr (hp.lt hi)]
theorem comp_id {n:Nat} {p:List Int} (hp:Pm n p):Al p (upto n)=p:=
 (hp.comp (Pm.id hp.n1 hp.n2)).ext hp λi hi=>by rw [Lm hp (Pm.id hp.n1 hp.n2) hi,kP (hp.lt hi)]
theorem id_comp {n:Nat} {p:List Int} (hp:Pm n p):Al (upto n) p=p:=
 ((Pm.id hp.n1 hp.n2).comp hp).ext hp λi hi=>by rw [Lm (Pm.id hp.n1 hp.n2) hp hi,kP hi]
theorem mW {n:Nat} {p:List Int} (hp:Pm n p):Al p (Bk p)=upto n:=
 (hp.comp hp.inv).ext (Pm.id hp.n1 hp.n2) λi hi=>by rw [Lm hp hp.inv hi,jK hp hi,kP hi]
theorem dW {n:Nat} {p:List Int} (hp:Pm n p):Al (Bk p) p=upto n:=
 (hp.inv.comp hp).ext (Pm.id hp.n1 hp.n2) λi hi=>by rw [Lm hp.inv hp hi,zh hp hi,kP hi]
theorem ua {n:Nat} {p q:List Int} (hp:Pm n p) (hq:Pm n q) (h:Al p q=upto n):Bk p=q:=by
 rw [<-comp_id hp.inv,<-h,<-Kd hp.inv hp hq,dW hp,id_comp hq]
theorem inv_mul {n:Nat} {p q:List Int} (hp:Pm n p) (hq:Pm n q):Bk (Al p q)=Al (Bk q) (Bk p):=
 ua (hp.comp hq) (hq.inv.comp hp.inv) (by
  rw [Kd hp hq (hq.inv.comp hp.inv),<-Kd hq hq.inv hp.inv,mW hq,id_comp hp.inv,mW hp])
theorem inv_inv {n:Nat} {p:List Int} (hp:Pm n p):Bk (Bk p)=p:=ua hp.inv hp (dW hp)
theorem Aa9 {n:Nat} (h1:1<=n) (h2:n<=20):Bk (upto n)=upto n:=ua (Pm.id h1 h2) (Pm.id h1 h2) (comp_id (Pm.id h1 h2))
inductive cn (n:Nat) (S:List Int->Prop):List Int->Prop where
 |id:cn n S (upto n)
 |mul {p g:List Int} :cn n S p->S g->cn n S (Al p g)
 |inv {p g:List Int} :cn n S p->S g->cn n S (Al p (Bk g))
def DK (n:Nat) (S:List Int->Prop):Prop:=(1<=n/\n<=20)/\ ∀g,S g->Pm n g
theorem cn.pm {n:Nat} {S:List Int->Prop} (hS:DK n S) {p:List Int} (h:cn n S p):Pm n p:=by
 induction h with
 |id=>exact Pm.id hS.1.1 hS.1.2
 |mul _ hg ih=>exact ih.comp (hS.2 _ hg)
 |inv _ hg ih=>exact ih.comp (hS.2 _ hg).inv
theorem cn.comp {n:Nat} {S:List Int->Prop} (hS:DK n S) {p q:List Int} (hp:cn n S p) (hq:cn n S q):cn n S (Al p q):=by
 induction hq with
 |id=>rw [comp_id (hp.pm hS)];exact hp
 |mul hq hg ih=>rw [<-Kd (hp.pm hS) (hq.pm hS) (hS.2 _ hg)];exact .mul ih hg
 |inv hq hg ih=>rw [<-Kd (hp.pm hS) (hq.pm hS) (hS.2 _ hg).inv];exact .inv ih hg
theorem cn.one {n:Nat} {S:List Int->Prop} (hS:DK n S) {g:List Int} (hg:S g):cn n S g:=by
 have:=cn.mul (n:=n) (S:=S) .id hg
 rwa [id_comp (hS.2 g hg)] at this
theorem cn.Ajx {n:Nat} {S:List Int->Prop} (hS:DK n S) {g:List Int} (hg:S g):cn n S (Bk g):=by
 have:=cn.inv (n:=n) (S:=S) .id hg
 rwa [id_comp (hS.2 g hg).inv] at this
theorem cn.sC {n:Nat} {S:List Int->Prop} (hS:DK n S) {p:List Int} (hp:cn n S p):cn n S (Bk p):=by
 induction hp with
 |id=>rw [Aa9 hS.1.1 hS.1.2];exact .id
 |mul hq hg ih=>rw [inv_mul (hq.pm hS) (hS.2 _ hg)];exact (cn.Ajx hS hg).comp hS ih
 |inv hq hg ih=>rw [inv_mul (hq.pm hS) (hS.2 _ hg).inv,inv_inv (hS.2 _ hg)];exact (cn.one hS hg).comp hS ih
theorem cn.trans {n:Nat} {S S':List Int->Prop} (hS':DK n S') (h: ∀g,S g->cn n S' g) {p:List Int} (hp:cn n S p):cn n S' p:=by
 induction hp with
 |id=>exact .id
 |mul _ hg ih=>exact ih.comp hS' (h _ hg)
 |inv _ hg ih=>exact ih.comp hS' ((h _ hg).sC hS')
abbrev PO:=Option (List Int)
abbrev Row:=List PO
abbrev Co:=List Row
def Vg (row:Row):List Int:=(upto row.length).filter λy=>(row.getD y.toNat none).isSome
def Hy (T:Co):Nat->Nat->List Int->Bool
 |0,_,_=>true
 |k+1,i,p=>match (T.getD i []).getD (Nm p (i:Int)).toNat none with
  |none=>false
  |some t=>Hy T k (i+1) (Al p (Bk t))
def Lq (row:Row):Nat:=row.countP (·.isNone)
def aN (x:Int) (s:Row×List Int) (o:PO):Row×List Int:=
 match s.1.getD (Nm (o.getD []) x).toNat none with
 |some _=>s
 |none=>(s.1.set (Nm (o.getD []) x).toNat (some (Al ((s.1.getD x.toNat none).getD []) (o.getD []))),s.2++ [Nm (o.getD []) x])
def aE (x:Int) (gs:List PO) (s:Row×List Int):Row×List Int:=gs.foldl (aN x) s
def aj (gs:List PO):Nat->List Int->Row->Row
 |0,_,row=>row
 |_+1,[],row=>row
 |f+1,x::q,row=>aj gs f (aE x gs (row,q)).2 (aE x gs (row,q)).1
def Ze (gs:List PO) (row:Row):Row:=aj gs 100 (Vg row) row
def Tz (row:Row) (y:Int) (g:PO):List Int:=
 Al (Al ((row.getD y.toNat none).getD []) (g.getD [])) (Bk ((row.getD (Nm (g.getD []) y).toNat none).getD []))
def gu (row:Row) (gs:List PO):List (List Int):=(Vg row).flatMap λy=>gs.map λg=>Tz row y g
def Hl:Nat->Nat->List Int->Co×Co->Co×Co
 |0,_,_,s=>s
 |k+1,l,p,s=>
  if Hy s.2 (k+1) l p=true then s else
   (gu (Ze (s.1.getD l []++ [some p]) (s.2.getD l [])) (s.1.getD l []++ [some p])).foldl (λs q=>Hl k (l+1) q s)
    (s.1.set l (s.1.getD l []++ [some p]),s.2.set l (Ze (s.1.getD l []++ [some p]) (s.2.getD l [])))
def Fx (l:Nat) (p:List Int):Prop:= ∀i,i<l->ap p i=i
def Gn (n:Nat) (gs:List PO):List Int->Prop:=cn n λg=>some g∈gs
structure Lvl (n l:Nat) (gs:List PO) (row:Row) (H:List Int->Prop):Prop where
 pg: ∀o∈gs,∃g,o=some g/\Pm n g/\Fx l g
 rl:row.length=n
 r0:row.getD l none=some (upto n)
 rt: ∀y t,row.getD y none=some t->Pm n t/\Fx l t/\ap t l=y/\Gn n gs t
 cl: ∀y t g,row.getD y none=some t->some g∈gs->row.getD (ap g y) none≠none
 sg: ∀y t g t',row.getD y none=some t->some g∈gs->row.getD (ap g y) none=some t'->H (Al (Al t g) (Bk t'))
def kA (n:Nat):Nat->Nat->Co×Co->Prop
 |0,l,s=>s.1.getD l []= []
 |k+1,l,s=>kA n k (l+1) s/\Lvl n l (s.1.getD l []) (s.2.getD l []) (λq=>Hy s.2 k (l+1) q=true)/\ ∀g,some g∈s.1.getD (l+1) []->Gn n (s.1.getD l []) g
theorem Af7 {l1 l2:List Nat} (hn:l1.Nodup) (hs: ∀x∈l1,x∈l2) (hl:l2.length<=l1.length): ∀x∈l2,x∈l1:=by
 induction l1 generalizing l2 with
 |nil=>
  intro x hx
  have:l2= []:=Ck (by simpa using hl)
  rw [this] at hx;cases hx
 |cons a l ih=>
  intro x hx
  obtain ⟨h1,h2⟩:=Cb.1 hn
  have ha:=hs a (by simp)
  by_cases e:x=a
  ·subst e;simp
  ·refine As _ (ih (l2:=l2.erase a) h2 (λy hy=>?_) ?_ x ((List.mem_erase_of_ne e).2 hx))
   ·have hya:y≠a:= λe'=>h1 (by rw [<-e'];exact hy)
    exact (List.mem_erase_of_ne hya).2 (hs y (by simp [hy]))
   ·rw [List.length_erase_of_mem ha]
    simp only [Az] at hl
    omega
theorem NQ {n:Nat} {g:List Int} (hg:Pm n g) (D:Nat->Bool) (h: ∀y,y<n->D y=true->D (ap g y)=true) {y:Nat} (hy:y<n) (hD:D y=true): ∃x,x<n/\D x=true/\ap g x=y:=by
 have:=Af7 (l1:=((List.range n).filter D).map (ap g)) (l2:=(List.range n).filter D) ?_ ?_ (by simp) y (Cm.2 ⟨Gg.2 hy,hD⟩)
 ·obtain ⟨x,hx,e⟩:=Bj.1 this
  obtain ⟨h1,h2⟩:=Cm.1 hx
  exact ⟨x,Gg.1 h1,h2,e⟩
 ·refine List.pairwise_map.2 (List.Pairwise.imp_of_mem ?_ (List.nodup_range.filter D))
  intro a b ha hb Ik e
  exact Ik (hg.inj (Gg.1 (Cm.1 ha).1) (Gg.1 (Cm.1 hb).1) e)
 ·intro x hx
  obtain ⟨z,hz,rfl⟩:=Bj.1 hx
  obtain ⟨h1,h2⟩:=Cm.1 hz
  exact Cm.2 ⟨Gg.2 (hg.lt (Gg.1 h1)),h z (Gg.1 h1) h2⟩
theorem nu {row:Row} {y:Nat} {t:List Int} (h:row.getD y none=some t):y<row.length:=by
 rw [Ak] at h
 refine Cc λhn=>?_
 rw [Fw (by omega)] at h
 cases h
theorem Lvl.pms {n l:Nat} {gs:List PO} {row:Row} {H:List Int->Prop} (h:Lvl n l gs row H):DK n λg=>some g∈gs:=by
 refine ⟨?_,λg hg=>?_⟩
 ·have:=(h.rt l _ h.r0).1
  exact ⟨this.n1,this.n2⟩
 ·obtain ⟨g',e,h1,_⟩:=h.pg _ hg
  cases e;exact h1
theorem Fx.inv {n l:Nat} {p:List Int} (hp:Pm n p) (h:Fx l p) (hl:l<=n):Fx l (Bk p):= λi hi=>by
 have:=jK hp (i:=i) (by omega)
 rwa [h i hi] at this
theorem Fx.comp {n l:Nat} {p q:List Int} (hp:Pm n p) (hq:Pm n q) (h1:Fx l p) (h2:Fx l q) (hl:l<=n):Fx l (Al p q):= λi hi=>by
 rw [Lm hp hq (by omega),h1 i hi,h2 i hi]
theorem Fx.all {n:Nat} {p:List Int} (hp:Pm n p) (h:Fx n p):p=upto n:=hp.ext (Pm.id hp.n1 hp.n2) λi hi=>by rw [h i hi,kP hi]
theorem Fx.div {n l:Nat} {p t:List Int} (hp:Pm n p) (ht:Pm n t) (h1:Fx l p) (h2:Fx l t) (hl:l<n) (e:ap t l=ap p l):Fx (l+1) (Al p (Bk t)):= λi hi=>by
 rw [Lm hp ht.inv (by omega)]
 by_cases hil:i<l
 ·rw [h1 i hil];exact h2.inv ht (by omega) i hil
 ·have:i=l:=by omega
  subst this
  rw [<-e,jK ht hl]
theorem Ue {n:Nat} (h1:1<=n) (h2:n<=20): ∀(k l:Nat) (s:Co×Co),l+k=n->kA n k l s-> ∀p,Pm n p->Fx l p->(Hy s.2 k l p=true↔Gn n (s.1.getD l []) p)
 |0,l,s,hk,hc,p,hp,hf=>by
  have hl:l=n:=by omega
  subst hl
  rw [hf.all hp]
  exact ⟨λ_=> .id,λ_=>rfl⟩
 |k+1,l,s,hk,hc,p,hp,hf=>by
  obtain ⟨c1,c2,c3⟩:=hc
  have hS:=c2.pms
  have ih:=Ue h1 h2 k (l+1) s (by omega) c1
  have hS1:DK n λg=>some g∈s.1.getD (l+1) []:=⟨⟨h1,h2⟩,λg hg=>(c3 g hg).pm hS⟩
  have l8:l<n:=by omega
  constructor
  ·intro h
   simp only [Hy] at h
   rw [show (Nm p (l:Int)).toNat=ap p l from rfl] at h
   split at h
   ·cases h
   ·rename_i t ht
    obtain ⟨t1,t2,t3,t4⟩:=c2.rt _ _ ht
    have KL:=Fx.div hp t1 hf t2 l8 t3
    have hg:=((ih _ (hp.comp t1.inv) KL).1 h).trans hS c3
    have:=cn.comp hS hg t4
    rwa [Kd hp t1.inv t1,dW t1,comp_id hp] at this
  ·intro h
   have key: ∀q,Gn n (s.1.getD l []) q-> ∃t,(s.2.getD l []).getD (ap q l) none=some t/\Gn n (s.1.getD (l+1) []) (Al q (Bk t)):=by
    intro q hq
    induction hq with
    |id=>
     refine ⟨upto n,by rw [kP l8];exact c2.r0,?_⟩
     rw [Aa9 h1 h2,comp_id (Pm.id h1 h2)]
     exact .id
    | @mul q g hq hg ihq=>
     obtain ⟨t,e1,e2⟩:=ihq
     have hqp:=cn.pm hS hq
     have Tp:=hS.2 _ hg
     obtain ⟨t1,t2,t3,t4⟩:=c2.rt _ _ e1
     cases e3:(s.2.getD l []).getD (ap g (ap q l)) none with
     |none=>exact absurd e3 (c2.cl _ _ _ e1 hg)
     |some t'=>
      obtain ⟨u1,u2,u3,u4⟩:=c2.rt _ _ e3
      have hsg:=c2.sg _ _ _ _ e1 hg e3
      have hfg:Fx (l+1) (Al (Al t g) (Bk t')):=Fx.div (t1.comp Tp) u1 (Fx.comp t1 Tp t2 (by obtain ⟨g',e,_,h⟩:=c2.pg _ hg;cases e;exact h) (by omega)) u2 l8 (by rw [u3,Lm t1 Tp l8,t3])
      have KN:=(ih _ ((t1.comp Tp).comp u1.inv) hfg).1 hsg
      refine ⟨t',by rw [Lm hqp Tp l8];exact e3,?_⟩
      have:=cn.comp hS1 e2 KN
      rwa [show Al (Al q (Bk t)) (Al (Al t g) (Bk t'))=Al (Al q g) (Bk t') by
       rw [Kd hqp t1.inv ((t1.comp Tp).comp u1.inv),Kd t1 Tp u1.inv,<-Kd t1.inv t1 (Tp.comp u1.inv),dW t1,id_comp (Tp.comp u1.inv),Kd hqp Tp u1.inv]] at this
    | @inv q g hq hg ihq=>
     obtain ⟨t,e1,e2⟩:=ihq
     have hqp:=cn.pm hS hq
     have Tp:=hS.2 _ hg
     obtain ⟨t1,t2,t3,t4⟩:=c2.rt _ _ e1
     have hy:ap q l<n:=hqp.lt l8
     obtain ⟨x,hx,hD,he⟩:=NQ Tp (λy=>((s.2.getD l []).getD y none).isSome) (λy hy hd=>by
      obtain ⟨t0,ht0⟩:=gQ.1 hd
      exact Option.ne_none_iff_isSome.1 (c2.cl _ _ _ ht0 hg)) hy (by rw [e1];rfl)
     obtain ⟨t',e3⟩:=gQ.1 hD
     obtain ⟨u1,u2,u3,u4⟩:=c2.rt _ _ e3
     have hsg:=c2.sg _ _ _ _ e3 hg (by rw [he];exact e1)
     have hfg:Fx (l+1) (Al (Al t' g) (Bk t)):=Fx.div (u1.comp Tp) t1 (Fx.comp u1 Tp u2 (by obtain ⟨g',e,_,h⟩:=c2.pg _ hg;cases e;exact h) (by omega)) t2 l8 (by rw [t3,Lm u1 Tp l8,u3,he])
     have KN:=cn.sC hS1 ((ih _ ((u1.comp Tp).comp t1.inv) hfg).1 hsg)
     have hax:ap (Bk g) (ap q l)=x:=by rw [<-he,jK Tp hx]
     refine ⟨t',by rw [Lm hqp Tp.inv l8,hax];exact e3,?_⟩
     have:=cn.comp hS1 e2 KN
     rwa [show Al (Al q (Bk t)) (Bk (Al (Al t' g) (Bk t)))=Al (Al q (Bk g)) (Bk t') by
      rw [inv_mul (u1.comp Tp) t1.inv,inv_inv t1,inv_mul u1 Tp,Kd hqp t1.inv (t1.comp (Tp.inv.comp u1.inv)),<-Kd t1.inv t1 (Tp.inv.comp u1.inv),dW t1,id_comp (Tp.inv.comp u1.inv),Kd hqp Tp.inv u1.inv]] at this
   obtain ⟨t,e1,e2⟩:=key p h
   obtain ⟨t1,t2,t3,t4⟩:=c2.rt _ _ e1
   simp only [Hy]
   rw [show (Nm p (l:Int)).toNat=ap p l from rfl,e1]
   exact (ih _ (hp.comp t1.inv) (Fx.div hp t1 hf t2 l8 t3)).2 e2
theorem Kx {α:Type} (xs:List α) (i j:Nat) (x d:α):(xs.set i x).getD j d=if i=j/\i<xs.length then x else xs.getD j d:=by
 rw [Ak,Fe,Ak]
 by_cases e:i=j
 ·subst e
  by_cases h:i<xs.length
  ·rw [Ab rfl,Ab h,Ab ⟨rfl,h⟩];rfl
  ·rw [Ab rfl,Ag h,Ag (λhh=>h hh.2),Fw (by omega)]
 ·rw [Ag e,Ag (λhh=>e hh.1)]
theorem cn.mono {n:Nat} {S S':List Int->Prop} (h: ∀g,S g->S' g) {p:List Int} (hp:cn n S p):cn n S' p:=by
 induction hp with
 |id=>exact .id
 |mul _ hg ih=>exact .mul ih (h _ hg)
 |inv _ hg ih=>exact .inv ih (h _ hg)
structure Uy (n l:Nat) (gs:List PO) (row:Row):Prop where
 rl:row.length=n
 r0:row.getD l none=some (upto n)
 rt: ∀y t,row.getD y none=some t->Pm n t/\Fx l t/\ap t l=y/\Gn n gs t
def PG (n l:Nat) (gs:List PO):Prop:= ∀o∈gs,∃g,o=some g/\Pm n g/\Fx l g
structure Ext (n l:Nat) (gs:List PO) (row:Row) (q:List Int) (s':Row×List Int):Prop where
 ok:Uy n l gs s'.1
 mono: ∀y t,row.getD y none=some t->s'.1.getD y none=some t
 phi:s'.2.length+Lq s'.1=q.length+Lq row
 w9: ∀y∈q,y∈s'.2
 new: ∀y∈s'.2,y∈q\/ ∃yn:Nat,y=yn/\s'.1.getD yn none≠none
 src: ∀y:Nat,s'.1.getD y none≠none->row.getD y none≠none\/(y:Int)∈s'.2
theorem Ext.refl {n l:Nat} {gs:List PO} {row:Row} {q:List Int} (h:Uy n l gs row):Ext n l gs row q (row,q):=⟨h,λ_ _ h=>h,rfl,λ_ h=>h,λ_ h=> .inl h,λ_ h=> .inl h⟩
theorem fg {a b:Row} (h: ∀y t,a.getD y none=some t->b.getD y none=some t) {y:Nat} (hy:a.getD y none≠none):b.getD y none≠none:=by
 cases e:a.getD y none with
 |none=>exact absurd e hy
 |some t=>rw [h y t e];simp
theorem Ext.trans {n l:Nat} {gs:List PO} {row:Row} {q:List Int} {s1 s2:Row×List Int} (h:Ext n l gs row q s1) (k:Ext n l gs s1.1 s1.2 s2):Ext n l gs row q s2:=by
 refine ⟨k.ok,λy t e=>k.mono y t (h.mono y t e),k.phi.trans h.phi,λy hy=>k.w9 y (h.w9 y hy),λy hy=>?_,λy hy=>?_⟩
 ·rcases k.new y hy with h1|h1
  ·rcases h.new y h1 with h2|⟨yn,h2,h3⟩
   ·exact .inl h2
   ·exact .inr ⟨yn,h2,fg k.mono h3⟩
  ·exact .inr h1
 ·rcases k.src y hy with h1|h1
  ·exact (h.src y h1).imp id λh2=>k.w9 _ h2
  ·exact .inr h1
theorem pD {row:Row} {i:Nat} {t:List Int} (h:row.getD i none=none) (hi:i<row.length):Lq (row.set i (some t))+1=Lq row:=by
 unfold Lq
 have e:row[i]=none:=by
  rw [Ak,Ac hi] at h
  exact h
 have h1:=List.countP_set (p:= λo:PO=>o.isNone) (l:=row) (i:=i) (a:=some t) hi
 have TZ:0<row.countP (·.isNone):=List.countP_pos_iff.2 ⟨row[i],Aj hi,by rw [e];rfl⟩
 rw [h1,e]
 simp
 omega
theorem Af6 {n l:Nat} {gs:List PO} (l8:l<n) (hg:PG n l gs) {row:Row} {q:List Int} (h:Uy n l gs row) {x:Nat} {t:List Int} (hx:row.getD x none=some t) {g:List Int} (ho:some g∈gs):
  Ext n l gs row q (aN (x:Int) (row,q) (some g))/\(aN (x:Int) (row,q) (some g)).1.getD (ap g x) none≠none:=by
 obtain ⟨g',e,Tp,hgf⟩:=hg _ ho
 cases e
 obtain ⟨t1,t2,t3,t4⟩:=h.rt _ _ hx
 have hxn:x<n:=by rw [<-h.rl];exact nu hx
 obtain ⟨a1,a2⟩:=Tp.aL hxn
 unfold aN
 simp only [Bx,a1,Ai]
 cases e:row.getD (ap g x) none with
 |some u=>exact ⟨Ext.refl h,by simp only;rw [e];simp⟩
 |none=>
  simp only [hx,Bx]
  have hl:ap g x<row.length:=by rw [h.rl];exact a2
  have hS:DK n λg=>some g∈gs:=⟨⟨t1.n1,t1.n2⟩,λg Sx=>by obtain ⟨g',e,h1,_⟩:=hg _ Sx;cases e;exact h1⟩
  have Au: ∀y,(row.set (ap g x) (some (Al t g))).getD y none=if ap g x=y/\ap g x<row.length then some (Al t g) else row.getD y none:= λy=>Kx _ _ _ _ _
  have Ik: ∀y u,row.getD y none=some u->ap g x≠y:= λy u hu e'=>by rw [<-e',e] at hu;cases hu
  refine ⟨⟨⟨by simp [h.rl],?_,λy u hu=>?_⟩,λy u hu=>?_,?_,λy hy=>Bc _ hy,λy hy=>?_,λy hy=>?_⟩,?_⟩
  ·rw [Au,Ag (λhh=>Ik l _ h.r0 hh.1)];exact h.r0
  ·rw [Au] at hu
   split at hu
   ·rename_i hc
    cases hu
    exact ⟨t1.comp Tp,Fx.comp t1 Tp t2 hgf (by omega),by rw [Lm t1 Tp l8,t3];exact hc.1, .mul t4 ho⟩
   ·exact h.rt y u hu
  ·show (row.set (ap g x) (some (Al t g))).getD y none=some u
   rw [Au,Ag (λhh=>Ik y u hu hh.1)];exact hu
  ·have:=pD (t:=Al t g) e hl
   simp only [Ax,Az,Gc]
   omega
  ·rcases Bb.1 hy with hy|hy
   ·exact .inl hy
   ·simp only [Ae] at hy
    exact .inr ⟨ap g x,hy,by show (row.set (ap g x) (some (Al t g))).getD (ap g x) none≠none;rw [Au,Ab ⟨rfl,hl⟩];simp⟩
  ·have hy:(row.set (ap g x) (some (Al t g))).getD y none≠none:=hy
   rw [Au] at hy
   split at hy
   ·rename_i hc
    exact .inr (by show (y:Int)∈q++ [(ap g x:Int)];rw [<-hc.1];simp)
   ·exact .inl hy
  ·show (row.set (ap g x) (some (Al t g))).getD (ap g x) none≠none
   rw [Au,Ab ⟨rfl,hl⟩];simp
theorem Aba {n l:Nat} {gs:List PO} (l8:l<n) (hg:PG n l gs): ∀(gs':List PO) {row:Row} {q:List Int},(∀o∈gs',o∈gs)->Uy n l gs row-> ∀ {x:Nat} {t:List Int},row.getD x none=some t->
  Ext n l gs row q (aE (x:Int) gs' (row,q))/\ ∀g,some g∈gs'->(aE (x:Int) gs' (row,q)).1.getD (ap g x) none≠none
 | [],row,q,_,h,x,t,hx=>⟨Ext.refl h,λg hg=>by cases hg⟩
 |o::gs',row,q,hs,h,x,t,hx=>by
  obtain ⟨g,rfl,_,_⟩:=hg o (hs o (by simp))
  obtain ⟨e1,e2⟩:=Af6 (q:=q) l8 hg h hx (hs (some g) (by simp))
  obtain ⟨f1,f2⟩:=Aba l8 hg gs' (q:=(aN (x:Int) (row,q) (some g)).2) (λo ho=>hs o (by simp [ho])) e1.ok (e1.mono x t hx)
  have hb:aE (x:Int) (some g::gs') (row,q)=aE (x:Int) gs' ((aN (x:Int) (row,q) (some g)).1,(aN (x:Int) (row,q) (some g)).2):=rfl
  rw [hb]
  refine ⟨e1.trans f1,λg' Sx=>?_⟩
  rcases Be.1 Sx with e|Sx
  ·cases e;exact fg f1.mono e2
  ·exact f2 g' Sx
def TA (gs:List PO) (q:List Int) (row:Row):Prop:=
 (∀y∈q,∃yn:Nat,y=yn/\row.getD yn none≠none)/\ ∀y:Nat,row.getD y none≠none->(y:Int)∈q\/ ∀g,some g∈gs->row.getD (ap g y) none≠none
theorem OG {n l:Nat} {gs:List PO} (l8:l<n) (hg:PG n l gs) {x:Int} {q:List Int} {row:Row} (h:Uy n l gs row) (hq:TA gs (x::q) row):
  Ext n l gs row q (aE x gs (row,q))/\TA gs (aE x gs (row,q)).2 (aE x gs (row,q)).1/\ ∃(xn:Nat) (t:List Int),x=xn/\row.getD xn none=some t:=by
 obtain ⟨xn,rfl,hx⟩:=hq.1 x (by simp)
 cases e:row.getD xn none with
 |none=>exact absurd e hx
 |some t=>
  obtain ⟨e1,e2⟩:=Aba l8 hg gs (q:=q) (λo ho=>ho) h e
  refine ⟨e1,⟨λy hy=>?_,λy hy=>?_⟩,xn,t,rfl,e⟩
  ·rcases e1.new y hy with h1|h1
   ·obtain ⟨yn,h2,h3⟩:=hq.1 y (by simp [h1])
    exact ⟨yn,h2,fg e1.mono h3⟩
   ·exact h1
  ·rcases e1.src y hy with h1|h1
   ·rcases hq.2 y h1 with h2|h2
    ·rcases Be.1 h2 with h2|h2
     ·have:y=xn:=by omega
      subst this
      exact .inr λg Sx=>e2 g Sx
     ·exact .inl (e1.w9 _ h2)
    ·exact .inr λg Sx=>fg e1.mono (h2 g Sx)
   ·exact .inl h1
theorem Abh {n l:Nat} {gs:List PO} (l8:l<n) (hg:PG n l gs): ∀(f:Nat) (q:List Int) (row:Row),q.length+Lq row<=f->Uy n l gs row->TA gs q row->
  Uy n l gs (aj gs f q row)/\(∀y t,row.getD y none=some t->(aj gs f q row).getD y none=some t)/\ ∀y t g,(aj gs f q row).getD y none=some t->some g∈gs->(aj gs f q row).getD (ap g y) none≠none
 |0,q,row,hf,h,hq=>by
  have:q= []:=Ck (by omega)
  subst this
  exact ⟨h,λ_ _ h=>h,λy t g e Sx=>by
   rcases hq.2 y (by rw [show row.getD y none=some t from e];simp) with h1|h1
   ·cases h1
   ·exact h1 g Sx⟩
 |f+1,[],row,hf,h,hq=>⟨h,λ_ _ h=>h,λy t g e Sx=>by
   rcases hq.2 y (by rw [show row.getD y none=some t from e];simp) with h1|h1
   ·cases h1
   ·exact h1 g Sx⟩
 |f+1,x::q,row,hf,h,hq=>by
  obtain ⟨e1,e2,_⟩:=OG l8 hg h hq
  obtain ⟨r1,r2,r3⟩:=Abh l8 hg f _ _ (by have:=e1.phi;simp only [Az] at hf;omega) e1.ok e2
  exact ⟨r1,λy t e=>r2 y t (e1.mono y t e),r3⟩
theorem aV {row:Row} {y:Int} :y∈Vg row↔ ∃yn:Nat,y=yn/\row.getD yn none≠none:=by
 unfold Vg
 rw [Cm,Zu]
 constructor
 ·rintro ⟨h1,h2⟩
  exact ⟨y.toNat,by omega,Option.ne_none_iff_isSome.2 h2⟩
 ·rintro ⟨yn,rfl,h⟩
  obtain ⟨t,ht⟩:=To.1 h
  exact ⟨by have:=nu ht;omega,by simpa using Option.ne_none_iff_isSome.1 h⟩
theorem AH (row:Row):(Vg row).length<=row.length:=by
 unfold Vg
 refine Ix (List.length_filter_le _ _) (by simp [upto])
theorem iZ (row:Row):Lq row<=row.length:=List.countP_le_length
theorem HG {n l:Nat} {gs:List PO} (l8:l<n) (h2:n<=20) (hg:PG n l gs) {row:Row} (h:Uy n l gs row):
  Uy n l gs (Ze gs row)/\(∀y t,row.getD y none=some t->(Ze gs row).getD y none=some t)/\ ∀y t g,(Ze gs row).getD y none=some t->some g∈gs->(Ze gs row).getD (ap g y) none≠none:=
 Abh l8 hg 100 _ _ (by have:=AH row;have:=iZ row;have:=h.rl;omega) h ⟨λy hy=>aV.1 hy,λy hy=> .inl (aV.2 ⟨y,rfl,hy⟩)⟩
theorem ED {n l:Nat} {gs:List PO} (l8:l<n) (hg:PG n l gs): ∀(f:Nat) (q:List Int) (row:Row),q.length+Lq row<=f->Uy n l gs row->TA gs q row->aj gs f q row=aj gs (q.length+Lq row) q row
 |0,q,row,hf,_,_=>by
  have:q.length+Lq row=0:=by omega
  rw [this]
 |f+1,[],row,hf,_,_=>by
  cases h:([]:List Int).length+Lq row with
  |zero=>rfl
  |succ m=>rfl
 |f+1,x::q,row,hf,h,hq=>by
  obtain ⟨e1,e2,_⟩:=OG l8 hg h hq
  have Ae6:=e1.phi
  have:(x::q).length+Lq row=(q.length+Lq row)+1:=by simp only [Az];omega
  rw [this]
  simp only [aj]
  rw [ED l8 hg f _ _ (by simp only [Az] at hf;omega) e1.ok e2,Ae6]
def wg (row:Row):Nat:=row.countP (·.isSome)
theorem p8: ∀(a b:Row),a.length=b.length->(∀y t,a.getD y none=some t->b.getD y none=some t)->wg a<=wg b/\(wg a=wg b->a=b)
 | [],[],_,_=>⟨Ao _,λ_=>rfl⟩
 | [],_::_,h,_=>by simp at h
 |_::_,[],h,_=>by simp at h
 |x::a,y::b,h,hm=>by
  obtain ⟨h1,h2⟩:=p8 a b (by simpa using h) λi t e=>by simpa using hm (i+1) t (by simpa using e)
  unfold wg at h1 h2⊢
  cases x with
  |none=>
   cases y with
   |none=>simp only [List.countP_cons];exact ⟨by simpa using h1,λe=>by rw [h2 (by simpa using e)]⟩
   |some u=>
    simp only [List.countP_cons,Option.isSome_none,Option.isSome_some]
    simp only [Ph,Dh,Tr]
    exact ⟨by omega,λe=>by omega⟩
  |some t=>
   have:=hm 0 t (by simp)
   simp only [Xl] at this
   subst this
   simp only [List.countP_cons]
   exact ⟨by simpa using h1,λe=>by rw [h2 (by simpa using e)]⟩
def j5 (T:Co):Nat->Nat->Nat
 |0,_=>0
 |k+1,l=>wg (T.getD l [])+j5 T k (l+1)
def GBf:Nat->Nat->Co×Co->Prop
 |0,_,_=>True
 |k+1,l,s=>GBf k (l+1) s/\(s.1.getD l []).length<=j5 s.2 (k+1) l
structure Vw (l0:Nat) (s s':Co×Co):Prop where
 UH:s'.1.length=s.1.length
 ug:s'.2.length=s.2.length
 low: ∀i,i<l0->s'.1.getD i []=s.1.getD i []/\s'.2.getD i []=s.2.getD i []
 xT: ∀i o,o∈s.1.getD i []->o∈s'.1.getD i []
 vU: ∀i y t,(s.2.getD i []).getD y none=some t->(s'.2.getD i []).getD y none=some t
 Abg: ∀i,(s'.2.getD i []).length=(s.2.getD i []).length
theorem Vw.refl (l0:Nat) (s:Co×Co):Vw l0 s s:=⟨rfl,rfl,λ_ _=>⟨rfl,rfl⟩,λ_ _ h=>h,λ_ _ _ h=>h,λ_=>rfl⟩
theorem Vw.trans {l0 l1:Nat} {a b c:Co×Co} (h:Vw l0 a b) (k:Vw l1 b c) (hl:l0<=l1):Vw l0 a c:=
 ⟨k.UH.trans h.UH,k.ug.trans h.ug,λi hi=>⟨(k.low i (by omega)).1.trans (h.low i hi).1,(k.low i (by omega)).2.trans (h.low i hi).2⟩,λi o ho=>k.xT i o (h.xT i o ho),λi y t e=>k.vU i y t (h.vU i y t e),λi=>(k.Abg i).trans (h.Abg i)⟩
theorem Vw.Ip {l0 l1:Nat} {a b:Co×Co} (h:Vw l1 a b) (hl:l0<=l1):Vw l0 a b:=(Vw.refl l0 a).trans h hl
theorem cI {T T':Co} : ∀(k l:Nat) (p:List Int),(∀i,l<=i->i<l+k->T'.getD i []=T.getD i [])->Hy T' k l p=Hy T k l p
 |0,_,_,_=>rfl
 |k+1,l,p,h=>by
  simp only [Hy]
  rw [h l (Ao _) (by omega)]
  split
  ·rfl
  ·exact cI k (l+1) _ λi h1 h2=>h i (by omega) (by omega)
theorem Uo {n:Nat} {s s':Co×Co} : ∀(k l:Nat),(∀i,l<=i->s'.1.getD i []=s.1.getD i []/\s'.2.getD i []=s.2.getD i [])->kA n k l s->kA n k l s'
 |0,l,h,hc=>by simp only [kA] at hc⊢;rw [(h l (Ao _)).1];exact hc
 |k+1,l,h,hc=>by
  simp only [kA] at hc⊢
  obtain ⟨c1,c2,c3⟩:=hc
  refine ⟨Uo k (l+1) (λi hi=>h i (by omega)) c1,?_,?_⟩
  ·rw [(h l (Ao _)).1,(h l (Ao _)).2]
   have e:(λq=>Hy s'.2 k (l+1) q=true)= λq=>Hy s.2 k (l+1) q=true:=funext λq=>by rw [cI k (l+1) q λi h1 h2=>(h i (by omega)).2]
   rw [e];exact c2
  ·rw [(h (l+1) (by omega)).1,(h l (Ao _)).1];exact c3
theorem yC {T T':Co} : ∀(k l:Nat),(∀i,l<=i->T'.getD i []=T.getD i [])->j5 T' k l=j5 T k l
 |0,_,_=>rfl
 |k+1,l,h=>by simp only [j5];rw [h l (Ao _),yC k (l+1) λi hi=>h i (by omega)]
theorem bL {s s':Co×Co} : ∀(k l:Nat),(∀i,l<=i->s'.1.getD i []=s.1.getD i []/\s'.2.getD i []=s.2.getD i [])->GBf k l s->GBf k l s'
 |0,_,_,_=>trivial
 |k+1,l,h,hg=>⟨bL k (l+1) (λi hi=>h i (by omega)) hg.1,by
  rw [(h l (Ao _)).1,yC (k+1) l λi hi=>(h i hi).2];exact hg.2⟩
theorem uH {T T':Co} (hl: ∀i,(T'.getD i []).length=(T.getD i []).length) (hm: ∀i y t,(T.getD i []).getD y none=some t->(T'.getD i []).getD y none=some t):
  ∀(k l:Nat),j5 T k l<=j5 T' k l/\(j5 T k l=j5 T' k l-> ∀i,l<=i->i<l+k->T'.getD i []=T.getD i [])
 |0,l=>⟨Ao _,λ_ i h1 h2=>by omega⟩
 |k+1,l=>by
  obtain ⟨h1,h2⟩:=uH hl hm k (l+1)
  obtain ⟨h3,h4⟩:=p8 (T.getD l []) (T'.getD l []) (hl l).symm (hm l)
  simp only [j5]
  refine ⟨by omega,λe i g1 g2=>?_⟩
  by_cases hi:i=l
  ·subst hi;exact (h4 (by omega)).symm
  ·exact h2 (by omega) i (by omega) (by omega)
def V (n k l:Nat) (s:Co×Co):Prop:=s.1.length=n/\s.2.length=n/\kA n k l s/\GBf k l s
structure XS (n k l:Nat) (s:Co×Co) (p:List Int) (s':Co×Co):Prop where
 v:V n k l s'
 grow:Vw l s s'
 Ajm:Gn n (s'.1.getD l []) p
 gens: ∀o∈s'.1.getD l [],o∈s.1.getD l []\/o=some p
theorem Lvl.row {n l:Nat} {gs:List PO} {row:Row} {H:List Int->Prop} (h:Lvl n l gs row H):Uy n l gs row:=⟨h.rl,h.r0,h.rt⟩
theorem jl {row:Row} {y:Nat} {t g t':List Int} (h1:row.getD y none=some t) (h2:row.getD (ap g y) none=some t'):Tz row (y:Int) (some g)=Al (Al t g) (Bk t'):=by
 unfold Tz
 rw [Ai,h1,Bx,Bx,show (Nm g (y:Int)).toNat=ap g y from rfl,h2,Bx]
theorem pA {n l:Nat} {gs:List PO} {row:Row} (hg:PG n l gs) (_h:Uy n l gs row) (hc: ∀y t g,row.getD y none=some t->some g∈gs->row.getD (ap g y) none≠none) {q:List Int} :
  q∈gu row gs↔ ∃(y:Nat) (t g t':List Int),row.getD y none=some t/\some g∈gs/\row.getD (ap g y) none=some t'/\q=Al (Al t g) (Bk t'):=by
 unfold gu
 rw [Hj]
 constructor
 ·rintro ⟨y,hy,hq⟩
  obtain ⟨o,ho,rfl⟩:=Bj.1 hq
  obtain ⟨yn,rfl,hyn⟩:=aV.1 hy
  obtain ⟨t,ht⟩:=To.1 hyn
  obtain ⟨g,rfl,Tp,_⟩:=hg o ho
  obtain ⟨t',yd⟩:=To.1 (hc yn t g ht ho)
  exact ⟨yn,t,g,t',ht,ho,yd,jl ht yd⟩
 ·rintro ⟨y,t,g,t',h1,h2,h3,rfl⟩
  obtain ⟨g',e,Tp,_⟩:=hg _ h2
  cases e
  exact ⟨(y:Int),aV.2 ⟨y,rfl,by rw [h1];simp⟩,Bj.2 ⟨some g,h2,jl h1 h3⟩⟩
theorem zf {n:Nat} (h1:1<=n) (h2:n<=20): ∀(k l:Nat) (p:List Int) (s:Co×Co),l+k=n->V n k l s->Pm n p->Fx l p->XS n k l s p (Hl k l p s)
 |0,l,p,s,hk,hv,hp,hf=>by
  have hl:l=n:=by omega
  subst hl
  exact ⟨hv,Vw.refl _ _,by rw [hf.all hp];exact .id,λo ho=> .inl ho⟩
 |k+1,l,p,s,hk,hv,hp,hf=>by
  have l8:l<n:=by omega
  obtain ⟨v1,v2,hc,xY⟩:=hv
  have l4:=hc
  obtain ⟨c1,c2,c3⟩:=hc
  unfold Hl
  by_cases hh:Hy s.2 (k+1) l p=true
  ·rw [Ab hh]
   exact ⟨⟨v1,v2,l4,xY⟩,Vw.refl _ _,(Ue h1 h2 (k+1) l s hk l4 p hp hf).1 hh,λo ho=> .inl ho⟩
  rw [Ag hh]
  generalize ny:s.1.getD l []++ [some p]=gs
  have al:some p∈gs:=by rw [<-ny];simp
  have Px: ∀o∈s.1.getD l [],o∈gs:= λo ho=>by rw [<-ny];exact Bc _ ho
  have hg:PG n l gs:= λo ho=>by
   rw [<-ny] at ho
   rcases Bb.1 ho with ho|ho
   ·exact c2.pg o ho
   ·rw [Ae] at ho;exact ⟨p,ho,hp,hf⟩
  have Anl:Uy n l gs (s.2.getD l []):=⟨c2.rl,c2.r0,λy t e=>⟨(c2.rt y t e).1,(c2.rt y t e).2.1,(c2.rt y t e).2.2.1,(c2.rt y t e).2.2.2.mono λg hg=>Px _ hg⟩⟩
  obtain ⟨r1,r2,r3⟩:=HG l8 h2 hg Anl
  generalize hR:Ze gs (s.2.getD l [])=R at r1 r2 r3
  have hS:DK n λg=>some g∈gs:=⟨⟨h1,h2⟩,λg Sx=>by obtain ⟨g',e,h,_⟩:=hg _ Sx;cases e;exact h⟩
  have uT: ∀i,((s.1.set l gs).getD i []=if i=l then gs else s.1.getD i [])/\(s.2.set l R).getD i []=if i=l then R else s.2.getD i []:= λi=>by
   rw [Kx,Kx]
   by_cases e:l=i
   ·subst e;rw [Ab ⟨rfl,by omega⟩,Ab rfl,Ab ⟨rfl,by omega⟩,Ab rfl];exact ⟨rfl,rfl⟩
   ·rw [Ag (λhh=>e hh.1),Ag (Ge e),Ag (λhh=>e hh.1),Ag (Ge e)];exact ⟨rfl,rfl⟩
  have ye: ∀i,l+1<=i->(s.1.set l gs).getD i []=s.1.getD i []/\(s.2.set l R).getD i []=s.2.getD i []:= λi hi=>by
   rw [(uT i).1,(uT i).2,Ag (by omega),Ag (by omega)];exact ⟨rfl,rfl⟩
  have eW:V n k (l+1) (s.1.set l gs,s.2.set l R):=⟨by simpa using v1,by simpa using v2,Uo k (l+1) ye c1,bL k (l+1) ye xY.1⟩
  have m5:Vw l s (s.1.set l gs,s.2.set l R):=by
   refine ⟨by simp,by simp,λi hi=>?_,λi o ho=>?_,λi y t e=>?_,λi=>?_⟩
   ·rw [(uT i).1,(uT i).2,Ag (by omega),Ag (by omega)];exact ⟨rfl,rfl⟩
   ·rw [(uT i).1]
    split
    ·rename_i hi;subst hi;exact Px o ho
    ·exact ho
   ·rw [(uT i).2]
    split
    ·rename_i hi;subst hi;exact r2 y t e
    ·exact e
   ·rw [(uT i).2]
    split
    ·rename_i hi;subst hi;rw [r1.rl,c2.rl]
    ·rfl
  have hq: ∀q∈gu R gs,Pm n q/\Fx (l+1) q/\Gn n gs q:= λq hq=>by
   obtain ⟨y,t,g,t',e1,e2,e3,rfl⟩:=(pA hg r1 r3).1 hq
   obtain ⟨t1,t2,t3,t4⟩:=r1.rt _ _ e1
   obtain ⟨u1,u2,u3,u4⟩:=r1.rt _ _ e3
   obtain ⟨g',e,Tp,hgf⟩:=hg _ e2
   cases e
   exact ⟨(t1.comp Tp).comp u1.inv,Fx.div (t1.comp Tp) u1 (Fx.comp t1 Tp t2 hgf (by omega)) u2 l8 (by rw [u3,Lm t1 Tp l8,t3]),cn.comp hS (.mul t4 e2) (cn.sC hS u4)⟩
  have fold: ∀(qs:List (List Int)) (s1:Co×Co),(∀q∈qs,Pm n q/\Fx (l+1) q)->V n k (l+1) s1->
    V n k (l+1) (qs.foldl (λs q=>Hl k (l+1) q s) s1)/\Vw (l+1) s1 (qs.foldl (λs q=>Hl k (l+1) q s) s1)/\
     (∀q∈qs,Gn n ((qs.foldl (λs q=>Hl k (l+1) q s) s1).1.getD (l+1) []) q)/\ ∀o∈(qs.foldl (λs q=>Hl k (l+1) q s) s1).1.getD (l+1) [],o∈s1.1.getD (l+1) []\/ ∃q∈qs,o=some q:=by
   intro qs
   induction qs with
   |nil=>exact λs1 _ hv=>⟨hv,Vw.refl _ _,(λq hq=>by cases hq),λo ho=>Or.inl ho⟩
   |cons q qs ih=>
    intro s1 UA hv
    have ha:=zf h1 h2 k (l+1) q s1 (by omega) hv (UA q (by simp)).1 (UA q (by simp)).2
    obtain ⟨g1,g2,g3,g4⟩:=ih (Hl k (l+1) q s1) (λq' kH=>UA q' (by simp [kH])) ha.v
    simp only [Ih]
    refine ⟨g1,ha.grow.trans g2 (Ao _),λq' kH=>?_,λo ho=>?_⟩
    ·rcases Be.1 kH with rfl|kH
     ·exact ha.Ajm.mono λg hg=>g2.xT _ _ hg
     ·exact g3 q' kH
    ·rcases g4 o ho with h|⟨q',kH,h⟩
     ·rcases ha.gens o h with h|h
      ·exact .inl h
      ·exact .inr ⟨q,by simp,h⟩
     ·exact .inr ⟨q',by simp [kH],h⟩
  obtain ⟨f1,f2,f3,f4⟩:=fold (gu R gs) (s.1.set l gs,s.2.set l R) (λq h=>⟨(hq q h).1,(hq q h).2.1⟩) eW
  generalize (gu R gs).foldl (λs q=>Hl k (l+1) q s) (s.1.set l gs,s.2.set l R)=s' at f1 f2 f3 f4
  obtain ⟨w1,w2,w3,w4⟩:=f1
  have el1:s'.1.getD l []=gs:=by rw [(f2.low l (by omega)).1,(uT l).1,Ab rfl]
  have el2:s'.2.getD l []=R:=by rw [(f2.low l (by omega)).2,(uT l).2,Ab rfl]
  have tT:=m5.trans f2 (by omega)
  have Aix:Lvl n l gs R (λq=>Hy s'.2 k (l+1) q=true):=⟨hg,r1.rl,r1.r0,r1.rt,r3,λy t g t' e1 e2 e3=>by
   have hm:=(pA hg r1 r3).2 ⟨y,t,g,t',e1,e2,e3,rfl⟩
   exact (Ue h1 h2 k (l+1) s' (by omega) w3 _ (hq _ hm).1 (hq _ hm).2.1).2 (f3 _ hm)⟩
  have FG:kA n (k+1) l s':=⟨w3,by rw [el1,el2];exact Aix,λg Sx=>by
   rw [el1]
   rcases f4 _ Sx with h|⟨q,kH,h⟩
   ·rw [(ye (l+1) (Ao _)).1] at h
    exact (c3 g h).mono λg hg=>Px _ hg
   ·cases h;exact (hq _ kH).2.2⟩
  have iL:Gn n (s'.1.getD l []) p:=by rw [el1];exact cn.one hS al
  refine ⟨⟨w1,w2,FG,w4,?_⟩,tT,iL,λo ho=>?_⟩
  ·have hold:=xY.2
   obtain ⟨p1,p2⟩:=uH tT.Abg tT.vU (k+1) l
   have Ik:j5 s.2 (k+1) l≠j5 s'.2 (k+1) l:= λe=>by
    have:=cI (k+1) l p (p2 e)
    rw [(Ue h1 h2 (k+1) l s' hk FG p hp hf).2 iL] at this
    exact hh this.symm
   rw [el1,<-ny,Ax,Bw]
   omega
  ·rw [el1,<-ny] at ho
   rcases Bb.1 ho with ho|ho
   ·exact .inl ho
   ·rw [Ae] at ho;exact .inr ho
theorem Ab8 {n l:Nat} {gs:List PO} {R:Row} (l8:l<n) (hg:PG n l gs) (r1:Uy n l gs R) (r3: ∀y t g,R.getD y none=some t->some g∈gs->R.getD (ap g y) none≠none): ∀q∈gu R gs,Pm n q/\Fx (l+1) q:=by
 intro q hq
 obtain ⟨y,t,g,t',e1,e2,e3,rfl⟩:=(pA hg r1 r3).1 hq
 obtain ⟨t1,t2,t3,t4⟩:=r1.rt _ _ e1
 obtain ⟨u1,u2,u3,u4⟩:=r1.rt _ _ e3
 obtain ⟨g',e,Tp,hgf⟩:=hg _ e2
 cases e
 exact ⟨(t1.comp Tp).comp u1.inv,Fx.div (t1.comp Tp) u1 (Fx.comp t1 Tp t2 hgf (by omega)) u2 l8 (by rw [u3,Lm t1 Tp l8,t3])⟩
theorem V.lower {n k l:Nat} {s:Co×Co} (h:V n (k+1) l s) (gs:List PO) (R:Row):V n k (l+1) (s.1.set l gs,s.2.set l R):=by
 obtain ⟨v1,v2,hc,xY⟩:=h
 have ye: ∀i,l+1<=i->(s.1.set l gs).getD i []=s.1.getD i []/\(s.2.set l R).getD i []=s.2.getD i []:= λi hi=>by
  rw [Kx,Kx,Ag (by omega),Ag (by omega)];exact ⟨rfl,rfl⟩
 exact ⟨by simpa using v1,by simpa using v2,Uo k (l+1) ye hc.1,bL k (l+1) ye xY.1⟩
theorem RC {n k l:Nat} (h1:1<=n) (h2:n<=20) (hk:l+k=n): ∀(qs:List (List Int)) (s1:Co×Co),(∀q∈qs,Pm n q/\Fx l q)->V n k l s1->
  V n k l (qs.foldl (λs q=>Hl k l q s) s1)/\Vw l s1 (qs.foldl (λs q=>Hl k l q s) s1)
 | [],s1,_,hv=>⟨hv,Vw.refl _ _⟩
 |q::qs,s1,UA,hv=>by
  have ha:=zf h1 h2 k l q s1 hk hv (UA q (by simp)).1 (UA q (by simp)).2
  obtain ⟨g1,g2⟩:=RC h1 h2 hk qs (Hl k l q s1) (λq' kH=>UA q' (by simp [kH])) ha.v
  exact ⟨g1,ha.grow.trans g2 (Ao _)⟩
theorem Ab9 {n:Nat} {s:Co×Co} : ∀(k l:Nat),kA n k l s->j5 s.2 k l<=n*k
 |0,_,_=>by simp [j5]
 |k+1,l,hc=>by
  have h1:=Ab9 k (l+1) hc.1
  have h2:wg (s.2.getD l [])<=n:=by
   have:=hc.2.1.rl
   have h3:wg (s.2.getD l [])<=(s.2.getD l []).length:=List.countP_le_length
   omega
  simp only [j5]
  rw [Nat.mul_succ]
  omega
theorem RG {n k l:Nat} {s:Co×Co} (h2:n<=20) (hk:l+(k+1)=n) (h:V n (k+1) l s):(s.1.getD l []).length<=400:=by
 have h3:=h.2.2.2.2
 have h4:=Ab9 (k+1) l h.2.2.1
 have h5:n*(k+1)<=20*20:=dB h2 (by omega)
 omega
theorem V.lvl {n k l:Nat} {s:Co×Co} (h:V n (k+1) l s):Lvl n l (s.1.getD l []) (s.2.getD l []) (λq=>Hy s.2 k (l+1) q=true):=h.2.2.1.2.1
theorem V.pg {n k l:Nat} {s:Co×Co} (h:V n (k+1) l s) {p:List Int} (hp:Pm n p) (hf:Fx l p):PG n l (s.1.getD l []++ [some p]):= λo ho=>by
 rcases Bb.1 ho with ho|ho
 ·exact h.lvl.pg o ho
 ·rw [Ae] at ho;exact ⟨p,ho,hp,hf⟩
theorem V.Au6 {n k l:Nat} {s:Co×Co} (h:V n (k+1) l s) (p:List Int):Uy n l (s.1.getD l []++ [some p]) (s.2.getD l []):=
 ⟨h.lvl.rl,h.lvl.r0,λy t e=>⟨(h.lvl.rt y t e).1,(h.lvl.rt y t e).2.1,(h.lvl.rt y t e).2.2.1,(h.lvl.rt y t e).2.2.2.mono λ_ hg=>Bc _ hg⟩⟩
theorem x4 {α:Type} (xs:List (List α)) (i:Nat) (h:i<xs.length):xs.set i (xs.getD i [])=xs:=by
 refine List.ext_getElem (by simp) λj h1 h2=>?_
 rw [List.getElem_set]
 split
 ·rename_i e;subst e;rw [Ak,Ac h];rfl
 ·rfl
theorem dk {α:Type} (xs:List (List α)) (i:Nat) (h:i<xs.length) (r:List α):(xs.set i r).getD i []=r:=by
 rw [Kx,Ab ⟨rfl,h⟩]
noncomputable abbrev Ym:MSpec:=cr [none] [(false, .Eu tLO)] false [none] [.row tI 2] (λx=>List.length x.1<=20) (λx=>((Vg x.1,()),()))
noncomputable abbrev Jq:Spec:=Ev (.pair tL (.pair tL .unit)) tO false true (λx=>(0<x.1.length/\x.1.length<=20)/\Mk x.2.1.length x.1) (λx=>some (Al x.1 x.2.1))
noncomputable abbrev Mo:Spec:=Ev (.pair tL (.pair tL .unit)) tL false false (λx=>x.1.length<=20/\Mk x.2.1.length x.1) (λx=>Al x.1 x.2.1)
noncomputable abbrev jj:Spec:=Ev (.pair tI .unit) tL false true (λx=>0<=x.1/\x.1<=20) (λx=>upto x.1.toNat)
noncomputable abbrev Pq:Spec:=Ev (.pair tI .unit) tO false true (λx=>1<=x.1/\x.1<=20) (λx=>some (upto x.1.toNat))
abbrev wa:TypeId:=22
structure Vv (N L:Nat) (n:Int) (G T:Co) (l:Int) (p:List Int):Prop where
 n1:1<=N
 n2:N<=20
 en:n=N
 el:l=L
 le:L<=N
 v:V N (N-L) L (G,T)
 pm:Pm N p
 fx:Fx L p
noncomputable abbrev o6:Spec:=Ev (.pair (.ptr oH) (.pair tI (.pair tL .unit))) .bool false true (λx=> ∃N L,Vv N L x.1.1 x.1.2.1 x.1.2.2.1 x.2.1 x.2.2.1) (λx=>Hy x.1.2.2.1 (x.1.1-x.2.1).toNat x.2.1.toNat x.2.2.1)
noncomputable abbrev Ahc:MSpec:= {ptr:=some (141,3),Je:= [none,none],ins:= [(false, .Eu tI),(false, .Bm tO wa true),(false, .Bm tO wa true),(false, .Eu tI),(false, .Eu tO)],Gy:=false,Hz:= [],outs:= [.Eu tI, .Bm tO wa false, .Bm tO wa false],fn:= λ_=>none,keeps:= [(1,1),(2,2)],Ez:= λx=>x.2.2.2.1.toNat}
noncomputable abbrev Wn (m:Nat):MSpec:=gS Ahc (λx=>(∃N L q,x.2.2.2.2.1=some q/\Vv N L x.1 x.2.1 x.2.2.1 x.2.2.2.1 q)/\(x.1-x.2.2.2.1).toNat<m)
 (λx=>((x.1,(Hl (x.1-x.2.2.2.1).toNat x.2.2.2.1.toNat (x.2.2.2.2.1.getD []) (x.2.1,x.2.2.1)).1,(Hl (x.1-x.2.2.2.1).toNat x.2.2.2.1.toNat (x.2.2.2.2.1.getD []) (x.2.1,x.2.2.1)).2,()),()))
theorem JR (n:Int) (P:List Int->Prop):(((0:Int)<=n/\n<(↑Cr:Int)+(1:Int))/\n=n/\0=0/\(List.replicate n.toNat (Int.ofNat (nat_lit 0))).length=(List.replicate n.toNat (Int.ofNat (nat_lit 0))).length/\Df (λ(v2:Int×List Int×PUnit) (k3:Int×List Int×PUnit->Prop)=>Br (decide (v2.1<(↑(List.replicate n.toNat (Int.ofNat (nat_lit 0))).length:Int))) (((0:Int)<=v2.1/\v2.1<(↑v2.2.1.length:Int))/\0+v2.1.toNat<v2.2.1.length/\0=0/\v2.2.1.length=(v2.2.1.set (0+v2.1.toNat) v2.1).length/\k3 (IntKind.i64.wrap (v2.1+(1:Int)),v2.2.1.set (0+v2.1.toNat) v2.1,())) (P (List.take v2.2.1.length (List.drop 0 v2.2.1)))) ((0:Int),List.replicate n.toNat (Int.ofNat (nat_lit 0)),PUnit.unit))=fnW Ei (look []) jj Tryz.f105 (n,()) P:=by kernel_rfl
theorem WZ (row:List (Option (List Int))) (P:(List Int×Unit)×Unit->Prop):(0=0/\0=([]:List Int).length/\Df (λ(v2:Int×List Int×PUnit) (k3:Int×List Int×PUnit->Prop)=>Br (decide (v2.1<(↑row.length:Int))) (∃(y4:Option (List Int)),idx row v2.1=some y4/\Br (!y4.isNone) (0=0/\v2.2.1.length=v2.2.1.length/\v2.2.1.length+(List.take 1 (List.drop 0 [v2.1])).length<=Cr/\0=0/\(v2.2.1++List.take 1 (List.drop 0 [v2.1])).length=(v2.2.1++List.take 1 (List.drop 0 [v2.1])).length/\k3 (IntKind.i64.wrap (v2.1+(1:Int)),v2.2.1++List.take 1 (List.drop 0 [v2.1]),())) (0=0/\v2.2.1.length=v2.2.1.length/\k3 (IntKind.i64.wrap (v2.1+(1:Int)),v2.2.1,()))) (P ((List.take v2.2.1.length (List.drop 0 v2.2.1),()),()))) ((0:Int),[],PUnit.unit))=fnMW cv (look []) Ym Tryz.f147 (row,()) P:=by kernel_rfl
theorem Apc (c:Int×List (List (Option (List Int)))×List (List (Option (List Int)))×Unit) (l:Int) (p:List Int) (P:Bool->Prop):(Df (λ(v4:List Int×Int×PUnit) (k5:List Int×Int×PUnit->Prop)=>Br (decide (v4.2.1<c.1)) (∃(y6:List (Option (List Int))),idx c.2.2.1 v4.2.1=some y6/\ ∃(y7:Int),idx v4.1 v4.2.1=some y7/\ ∃(y8:Option (List Int)),idx y6 y7=some y8/\Br y8.isNone (P false) (∃(y9:List Int),Ff.fn (y8.getD [],())=some y9/\ ∃(Md:List Int),Mo.fn (v4.1,y9,())=some Md/\k5 (Md,IntKind.i64.wrap (v4.2.1+(1:Int)),()))) (P true)) (p,l,PUnit.unit))=fnW cv (look [(56,Ff),(121,Mo)]) o6 Tryz.f99 (c,l,p,()) P:=by kernel_rfl
theorem Sound.loose {P:Program} {f:FuncId} {arg res:Ty} {pre:arg.den->Prop} {val:arg.den->res.den} (h:Sound P f (Go.Proofs.YtfolipnappekaaaGreat.Ev arg res false true pre val)):Sound P f (Go.Proofs.YtfolipnappekaaaGreat.Ev arg res false false pre val):=
 ⟨h.enter,λw S vs x y h1 h2 h3=>Calls.mono (h.calls w S vs x y h1 h2 h3) λe' w' hr=>by
  obtain ⟨v,g1,g2,g3⟩:=hr
  exact ⟨v,g1,g2,Cs.Ip (S:= λb=>S b\/(true=true/\b<w.heap.size)) g3 λk _ hk=>hk.elim .inl λhh=>absurd (show false=true from hh.1) (by simp)⟩⟩
theorem vh:Sound Tryz.prog 121 Mo:=Sound.loose Wq
theorem vn:Sound Tryz.prog 121 Jq:=Sound.toO Wq λx h=>⟨⟨h.1.2,h.2⟩,λe=>by
 have:=Pe x.1 x.2.1
 rw [e] at this
 have:=h.1.1
 simp only [Gc] at*
 omega⟩
theorem HK (n:Int) (h:0<=n/\n<=20):fnW Ei (look []) jj Tryz.f105 (n,()) (λ(z:List Int)=>z=upto n.toNat):=by
 refine Eq.mp (JR n _) ⟨⟨by omega,by show n<(4294967296:Int)+1;omega⟩,rfl,rfl,rfl,?_⟩
 refine Bf n.toNat (λv=>v.1) (λj v=>v.2.1.length=n.toNat/\v.2.1.take j=upto j) rfl ⟨by simp,by simp [upto]⟩ ?_
 rintro j ⟨i,ys,⟨⟩⟩ K hj hi ⟨h1,h2⟩ hK
 dsimp only at hi h1 h2⊢
 subst hi
 rw [Fy]
 simp only [Ai,Bv]
 refine Br.dec (λhl=>⟨⟨by omega,by omega⟩,by omega,trivial,by rw [Bi],?_⟩) λhl=>?_
 ·rw [Bg (by omega)]
  refine hK (by omega) _ rfl ⟨by rw [Bi];exact h1,?_⟩
  rw [Fv,List.take_set_of_le (by omega),h2,List.getElem?_set_self (by omega),ky]
  rfl
 ·have:j=ys.length:=by omega
  subst this
  rw [Ap] at h2
  rw [Dm,Ap,h2,h1]
theorem s8:Sound Tryz.prog 105 jj:=
 Sound.Ev Db Bh mixed Tryz.func105 (by kernel_rfl) (by kernel_rfl) λx h=>HK x.1 h
theorem SV {n:Int} (h:1<=n/\n<=20):(0<=n/\n<=20)/\upto n.toNat≠ []:=⟨by omega,λe=>by
 have:=Mc List.length e
 simp [upto] at this
 omega⟩
theorem rZ:Sound Tryz.prog 105 Pq:=Sound.toO s8 λ_ h=>SV h
theorem HF {row:Row} {j:Nat} :(upto (j+1)).filter (λy=>(row.getD y.toNat none).isSome)=(upto j).filter (λy=>(row.getD y.toNat none).isSome)++if (row.getD j none).isSome=true then [(j:Int)] else []:=by
 rw [ky,List.filter_append]
 congr 1
 simp only [List.filter_cons,List.filter_nil,Ai]
theorem VA (row:List (Option (List Int))) (h:List.length row<=20):fnMW cv (look []) Ym Tryz.f147 (row,()) (λ(z:(List Int×Unit)×Unit)=>z=((Vg row,()),())):=by
 refine Eq.mp (WZ row _) ⟨rfl,rfl,?_⟩
 refine Bf row.length (λv=>v.1) (λj v=>v.2.1=(upto j).filter (λy=>(row.getD y.toNat none).isSome)) rfl rfl ?_
 rintro j ⟨i,ys,⟨⟩⟩ K hj hi h1 hK
 dsimp only at hi h1⊢
 subst hi
 refine Br.dec (λhl=>?_) λhl=>?_
 ·have hl:j<row.length:=by omega
  have hlen:ys.length<=j:=by rw [h1];refine Ix (List.length_filter_le _ _) (by simp [upto])
  have hg:row.getD j none=row[j]:=by rw [Ak,Ac hl];rfl
  refine ⟨_,Bp hl,Br.of (λhb=>⟨rfl,rfl,?_,rfl,rfl,?_⟩) λhb=>⟨rfl,rfl,?_⟩⟩
  ·show ys.length+1<=4294967296
   omega
  ·rw [Bg (by omega)]
   refine hK hl _ rfl ?_
   show ys++ [(j:Int)]=_
   rw [HF,hg,h1,Ab (by cases e:row[j] with
    |none=>rw [e] at hb;simp at hb
    |some t=>rfl)]
  ·rw [Bg (by omega)]
   refine hK hl _ rfl ?_
   show ys=_
   rw [HF,hg,h1,Ag (by cases e:row[j] with
    |none=>simp
    |some t=>rw [e] at hb;simp at hb),List.append_nil]
 ·have:j=row.length:=by omega
  subst this
  rw [Dm,Ap,h1]
  rfl
theorem xa:By Tryz.prog 147 Ym:=
 By.cr vR Bh mixed Tryz.func147 (by kernel_rfl) (by kernel_rfl) λx h=>VA x.1 h
theorem tp {n:Nat} {s:Co×Co} : ∀(k l:Nat),kA n k l s-> ∀i,l<=i->i<l+k->Lvl n i (s.1.getD i []) (s.2.getD i []) (λq=>Hy s.2 (l+k-i-1) (i+1) q=true)
 |0,_,_,i,h1,h2=>by omega
 |k+1,l,hc,i,h1,h2=>by
  obtain ⟨c1,c2,_⟩:=hc
  by_cases e:i=l
  ·subst e
   rw [show i+(k+1)-i-1=k by omega]
   exact c2
  ·have:=tp k (l+1) c1 i (by omega) (by omega)
   rwa [show l+1+k-i-1=l+(k+1)-i-1 by omega] at this
theorem Ag2 {α:Type} {xs:List (List α)} {i:Nat} (h:i<xs.length):xs.getD i []=xs[i]:=by
 rw [Ak,Ac h];rfl
theorem FA {α:Type} {xs:List (Option α)} {i:Nat} (h:i<xs.length):xs.getD i none=xs[i]:=by
 rw [Ak,Ac h];rfl
theorem Pm.row {n:Nat} {p:List Int} (h:Pm n p):Mk n p:=by
 have:=h.2.row
 rwa [h.1] at this
theorem Aoo (c:Int×List (List (Option (List Int)))×List (List (Option (List Int)))×Unit) (l:Int) (p:List Int) (h: ∃N L,Vv N L c.1 c.2.1 c.2.2.1 l p):
  fnW cv (look [(56,Ff),(121,Mo)]) o6 Tryz.f99 (c,l,p,()) (λ(z:Bool)=>z=Hy c.2.2.1 (c.1-l).toNat l.toNat p):=by
 obtain ⟨n,G,T,⟨⟩⟩:=c
 obtain ⟨N,L,h⟩:=h
 obtain ⟨n1,n2,en,el,hle,v,pm,fx⟩:=h
 dsimp only at en el v⊢
 subst en el
 refine Eq.mp (Apc ((N:Int),G,T,()) (L:Int) p _) ?_
 obtain ⟨v1,v2,v3,v4⟩:=v
 dsimp only at v1 v2
 refine ⟨λv=> ∃i:Nat,L<=i/\i<=N/\v.2.1=i/\Pm N v.1/\Fx i v.1/\Hy T (N-i) i v.1=Hy T (N-L) L p,λv=>N-v.2.1.toNat,⟨L,Ao _,hle,rfl,pm,fx,rfl⟩,?_⟩
 rintro ⟨p',i',⟨⟩⟩ ⟨i,h1,h2,h3,h4,h5,h6⟩
 dsimp only at h3 h4 h5 h6⊢
 subst h3
 rw [show (((N:Int)-(L:Int)).toNat)=N-L by omega,show ((L:Int)).toNat=L by omega,<-h6]
 refine Br.dec (λhl=>?_) λhl=>?_
 ·have hl:i<N:=by omega
  have Kp:=tp (N-L) L v3 i h1 (by omega)
  obtain ⟨a1,a2⟩:=h4.aL hl
  have hT:i<T.length:=by omega
  have hlen:T[i].length=N:=by have:=Kp.rl;dsimp only at this;rwa [Ag2 hT] at this
  refine ⟨_,Bp hT,_,Bp (by rw [h4.1];exact hl),?_⟩
  have e1:p'[i]'(by rw [h4.1];exact hl)=(ap p' i:Int):=by rw [<-a1,Mi]
  rw [e1]
  refine ⟨_,Bp (by omega),?_⟩
  have e2:N-i=(N-i-1)+1:=by omega
  have e3:(T.getD i []).getD (Nm p' (i:Int)).toNat none=T[i][ap p' i]'(by omega):=by
   rw [Ag2 hT];exact FA (by show ap p' i<_;omega)
  rw [e2]
  simp only [Hy,e3]
  refine Br.of (λhb=>?_) λhb=>?_
  ·cases e:T[i][ap p' i]'(by omega) with
   |none=>rfl
   |some t=>rw [e] at hb;simp at hb
  ·cases e:T[i][ap p' i]'(by omega) with
   |none=>rw [e] at hb;simp at hb
   |some t=>
    have ht:(T.getD i []).getD (ap p' i) none=some t:=by rw [<-e];exact e3
    obtain ⟨t1,t2,t3,t4⟩:=Kp.rt _ _ ht
    simp only [Bx]
    refine ⟨_,Ab ⟨by show t.length<=20;rw [t1.1];exact n2,t1.2.row⟩,_,Ab ⟨by show p'.length<=20;rw [h4.1];exact n2,by show Mk (Bk t).length p';rw [nD,t1.1];exact h4.row⟩,⟨i+1,by omega,by omega,Bg (by omega),h4.comp t1.inv,Fx.div h4 t1 h5 t2 hl t3,?_⟩,?_⟩
    ·rw [show N-(i+1)=N-i-1 by omega]
    ·show N-(IntKind.i64.wrap ((i:Int)+1)).toNat<N-((i:Int)).toNat
     rw [Bg (by omega)]
     omega
 ·rw [show N-i=0 by omega]
  rfl
theorem yS:Sound Tryz.prog 99 o6:=
 Sound.Ev vR (Av Wr (Av vh Bh)) mixed Tryz.func99 (by kernel_rfl) (by kernel_rfl) λx h=>Aoo x.1 x.2.1 x.2.2.1 h
abbrev CH:Type:=Nat×Nat×Int×List (List (Option (List Int)))×Nat×List (List (Option (List Int)))×Nat×List Int×Int×PUnit
abbrev Abv:Type:=Nat×Int×List (List (Option (List Int)))×Nat×List (List (Option (List Int)))×Nat×List Int×Int×PUnit
abbrev Abw:Type:=Nat×List (List (Option (List Int)))×Nat×List (List (Option (List Int)))×Nat×List Int×Int×PUnit
abbrev Lb (G:List (List (Option (List Int)))) (l:Int) (p:Option (List Int)) (T:List (List (Option (List Int)))) (y7:Bool) (n:Int):Prop:=0=0/\(G.getD (0+l.toNat) []).length=(G.getD (0+l.toNat) []).length/\(G.getD (0+l.toNat) []).length+(List.take 1 (List.drop 0 [p])).length<=Cr/\((0:Int)<=l/\l<(↑G.length:Int))/\0=0/\(G.getD (0+l.toNat) []++List.take 1 (List.drop 0 [p])).length=(G.getD (0+l.toNat) []++List.take 1 (List.drop 0 [p])).length/\0+l.toNat=0+l.toNat/\ [(0,G.length),(0,G.length),(0,G.length),(0,T.length)]= [(0,G.length),(0,G.length),(0,G.length),(0,T.length)]/\(l,p,l,p,y7,l,l,0+l.toNat,p,List.take 1 (List.drop 0 [p]),0+l.toNat,G.set (0+l.toNat) (G.getD (0+l.toNat) []++List.take 1 (List.drop 0 [p])),min G.length (0+l.toNat),T,T.length,n,())=(l,p,l,p,y7,l,l,0+l.toNat,p,List.take 1 (List.drop 0 [p]),0+l.toNat,G.set (0+l.toNat) (G.getD (0+l.toNat) []++List.take 1 (List.drop 0 [p])),min G.length (0+l.toNat),T,T.length,n,PUnit.unit)
theorem Ap7 {m:Nat} (n:Int) (G T:List (List (Option (List Int)))) (l:Int) (p:Option (List Int)) (P:(Int×List (List (Option (List Int)))×List (List (Option (List Int)))×Unit)×Unit->Prop):(∃(y7:Bool),o6.fn ((n,List.take G.length (List.drop 0 G),List.take T.length (List.drop 0 T),()),l,p.getD [],())=some y7/\Br y7 ((0=0/\G.length=G.length)/\(0=0/\T.length=T.length)/\(Wn (m+1)).Ez (n,G,T,l,p,())<=G.length/\(Wn (m+1)).Ez (n,G,T,l,p,())<=T.length/\P ((n,G,T,()),())) (((0:Int)<=l/\l<(↑G.length:Int))/\0=0/\(G.getD (0+l.toNat) []).length=(G.getD (0+l.toNat) []).length/\(G.getD (0+l.toNat) []).length+(List.take 1 (List.drop 0 [p])).length<=Cr/\((0:Int)<=l/\l<(↑G.length:Int))/\0=0/\(G.getD (0+l.toNat) []++List.take 1 (List.drop 0 [p])).length=(G.getD (0+l.toNat) []++List.take 1 (List.drop 0 [p])).length/\0+l.toNat=0+l.toNat/\(((0:Int)<=l/\l<(↑T.length:Int))/\ ∃(y8:(List Int×PUnit)×PUnit),Ym.fn (T.getD (0+l.toNat) [],())=some y8/\0=0/\(List.take y8.1.1.length (List.drop 0 y8.1.1)).length=(List.take y8.1.1.length (List.drop 0 y8.1.1)).length/\0=0/\G.length=(G.set (0+l.toNat) (G.getD (0+l.toNat) []++List.take 1 (List.drop 0 [p]))).length/\0=0/\T.length=T.length/\Df (λ(v9:Abw) (k10:Abw->Prop)=>Br (decide ((↑v9.2.2.2.2.2.1.length:Int)>(0:Int))) (((0:Int)<=l/\l<(↑v9.2.1.length:Int))/\0=0/\(List.take v9.2.2.2.2.2.1.length (List.drop 0 v9.2.2.2.2.2.1)).length=(List.take v9.2.2.2.2.2.1.length (List.drop 0 v9.2.2.2.2.2.1)).length/\0=0/\v9.2.1.length=v9.2.1.length/\0=0/\v9.2.2.2.1.length=v9.2.2.2.1.length/\Df (λ(v11:CH) (k12:CH->Prop)=>Br (decide (v11.2.2.1<(↑(v9.2.1.getD (0+l.toNat) []).length:Int))) (((0:Int)<=v11.2.2.1/\v11.2.2.1<(↑(v11.2.2.2.1.getD v11.2.1 []).length:Int))/\((0:Int)<=(0:Int)/\(0:Int)<(↑v11.2.2.2.2.2.2.2.1.length:Int))/\ ∃(Lo:Int),v11.2.2.2.2.2.2.2.1[0+Int.toNat (0:Int)]?=some Lo/\ ∃(Jc:Int),idx (((v11.2.2.2.1.getD v11.2.1 []).getD v11.2.2.1.toNat (none:Option (List Int))).getD []) Lo=some Jc/\((0:Int)<=Jc/\Jc<(↑(v11.2.2.2.2.2.1.getD v11.1 []).length:Int))/\Br ((v11.2.2.2.2.2.1.getD v11.1 []).getD Jc.toNat (none:Option (List Int))).isNone (((0:Int)<=(0:Int)/\(0:Int)<(↑v11.2.2.2.2.2.2.2.1.length:Int))/\ ∃(Qq:Int),v11.2.2.2.2.2.2.2.1[0+Int.toNat (0:Int)]?=some Qq/\((0:Int)<=Qq/\Qq<(↑(v11.2.2.2.2.2.1.getD v11.1 []).length:Int))/\ ∃(Xe:Option (List Int)),Jq.fn (((v11.2.2.2.2.2.1.getD v11.1 []).getD Qq.toNat (none:Option (List Int))).getD [],((v11.2.2.2.1.getD v11.2.1 []).getD v11.2.2.1.toNat (none:Option (List Int))).getD [],())=some Xe/\((0:Int)<=Jc/\Jc<(↑(v11.2.2.2.2.2.1.getD v11.1 []).length:Int))/\0=0/\v11.2.2.2.2.2.2.2.1.length=v11.2.2.2.2.2.2.2.1.length/\v11.2.2.2.2.2.2.2.1.length+(List.take 1 (List.drop 0 [Jc])).length<=Cr/\0=0/\(List.take (v11.2.2.2.2.2.2.2.1++List.take 1 (List.drop 0 [Jc])).length (List.drop 0 (v11.2.2.2.2.2.2.2.1++List.take 1 (List.drop 0 [Jc])))).length=(List.take (v11.2.2.2.2.2.2.2.1++List.take 1 (List.drop 0 [Jc])).length (List.drop 0 (v11.2.2.2.2.2.2.2.1++List.take 1 (List.drop 0 [Jc])))).length/\0=0/\v11.2.2.2.1.length=v11.2.2.2.1.length/\0=0/\v11.2.2.2.2.2.1.length=(v11.2.2.2.2.2.1.set v11.1 ((v11.2.2.2.2.2.1.getD v11.1 []).set Jc.toNat Xe)).length/\k12 (v11.1,v11.2.1,IntKind.i64.wrap (v11.2.2.1+(1:Int)),v11.2.2.2.1,v11.2.2.2.2.1,v11.2.2.2.2.2.1.set v11.1 ((v11.2.2.2.2.2.1.getD v11.1 []).set Jc.toNat Xe),v11.2.2.2.2.2.2.1,List.take (v11.2.2.2.2.2.2.2.1++List.take 1 (List.drop 0 [Jc])).length (List.drop 0 (v11.2.2.2.2.2.2.2.1++List.take 1 (List.drop 0 [Jc]))),v11.2.2.2.2.2.2.2.2.1,())) (0=0/\(List.take v11.2.2.2.2.2.2.2.1.length (List.drop 0 v11.2.2.2.2.2.2.2.1)).length=(List.take v11.2.2.2.2.2.2.2.1.length (List.drop 0 v11.2.2.2.2.2.2.2.1)).length/\0=0/\v11.2.2.2.1.length=v11.2.2.2.1.length/\0=0/\v11.2.2.2.2.2.1.length=v11.2.2.2.2.2.1.length/\k12 (v11.1,v11.2.1,IntKind.i64.wrap (v11.2.2.1+(1:Int)),v11.2.2.2.1,v11.2.2.2.2.1,v11.2.2.2.2.2.1,v11.2.2.2.2.2.2.1,List.take v11.2.2.2.2.2.2.2.1.length (List.drop 0 v11.2.2.2.2.2.2.2.1),v11.2.2.2.2.2.2.2.2.1,()))) (((0:Int)<=(1:Int)/\(1:Int)<=(↑v11.2.2.2.2.2.2.2.1.length:Int)/\(↑v11.2.2.2.2.2.2.2.1.length:Int)<=(↑v11.2.2.2.2.2.2.2.1.length:Int))/\0=0/\(List.take ((↑v11.2.2.2.2.2.2.2.1.length:Int).toNat-Int.toNat (1:Int)) (List.drop (0+Int.toNat (1:Int)) v11.2.2.2.2.2.2.2.1)).length=(List.take ((↑v11.2.2.2.2.2.2.2.1.length:Int).toNat-Int.toNat (1:Int)) (List.drop (0+Int.toNat (1:Int)) v11.2.2.2.2.2.2.2.1)).length/\0=0/\v11.2.2.2.1.length=v11.2.2.2.1.length/\0=0/\v11.2.2.2.2.2.1.length=v11.2.2.2.2.2.1.length/\k10 (v11.1,v11.2.2.2.1,v11.2.2.2.2.1,v11.2.2.2.2.2.1,v11.2.2.2.2.2.2.1,List.take ((↑v11.2.2.2.2.2.2.2.1.length:Int).toNat-Int.toNat (1:Int)) (List.drop (0+Int.toNat (1:Int)) v11.2.2.2.2.2.2.2.1),v11.2.2.2.2.2.2.2.2.1,()))) (v9.1,0+l.toNat,(0:Int),v9.2.1,v9.2.2.1,v9.2.2.2.1,v9.2.2.2.2.1,List.take v9.2.2.2.2.2.1.length (List.drop 0 v9.2.2.2.2.2.1),v9.2.2.2.2.2.2.1,PUnit.unit)) (∃(fQ:(List Int×PUnit)×PUnit),Ym.fn (v9.2.2.2.1.getD v9.1 [],())=some fQ/\0=0/\fQ.1.1.length=fQ.1.1.length/\0=0/\v9.2.1.length=v9.2.1.length/\0=0/\v9.2.2.2.1.length=v9.2.2.2.1.length/\Df (λ(Od:Abv) (k13:Abv->Prop)=>Br (decide (Od.2.1<(↑fQ.1.1.length:Int))) (((0:Int)<=Od.2.1/\Od.2.1<(↑Od.2.2.2.2.2.2.1.length:Int))/\ ∃(Jc:Int),Od.2.2.2.2.2.2.1[0+Od.2.1.toNat]?=some Jc/\((0:Int)<=l/\l<(↑Od.2.2.1.length:Int))/\0=0/\Od.2.2.2.2.2.2.1.length=Od.2.2.2.2.2.2.1.length/\0=0/\Od.2.2.1.length=Od.2.2.1.length/\0=0/\Od.2.2.2.2.1.length=Od.2.2.2.2.1.length/\Df (λ(Rc:CH) (k16:CH->Prop)=>Br (decide (Rc.2.2.1<(↑(Od.2.2.1.getD (0+l.toNat) []).length:Int))) (((0:Int)<=Rc.2.2.1/\Rc.2.2.1<(↑(Rc.2.2.2.1.getD Rc.2.1 []).length:Int))/\((0:Int)<=Jc/\Jc<(↑(Rc.2.2.2.2.2.1.getD Rc.1 []).length:Int))/\ ∃(ay:Option (List Int)),Jq.fn (((Rc.2.2.2.2.2.1.getD Rc.1 []).getD Jc.toNat (none:Option (List Int))).getD [],((Rc.2.2.2.1.getD Rc.2.1 []).getD Rc.2.2.1.toNat (none:Option (List Int))).getD [],())=some ay/\ ∃(Xf:Int),idx (((Rc.2.2.2.1.getD Rc.2.1 []).getD Rc.2.2.1.toNat (none:Option (List Int))).getD []) Jc=some Xf/\((0:Int)<=Xf/\Xf<(↑(Rc.2.2.2.2.2.1.getD Rc.1 []).length:Int))/\ ∃(Sd:List Int),Ff.fn (((Rc.2.2.2.2.2.1.getD Rc.1 []).getD Xf.toNat (none:Option (List Int))).getD [],())=some Sd/\ ∃(Oh:Option (List Int)),Jq.fn (ay.getD [],Sd,())=some Oh/\0=0/\Rc.2.2.2.1.length=Rc.2.2.2.1.length/\0=0/\Rc.2.2.2.2.2.1.length=Rc.2.2.2.2.2.1.length/\ ∃(Wv:(Int×List (List (Option (List Int)))×List (List (Option (List Int)))×PUnit)×PUnit),(Wn m).fn (Rc.2.2.2.2.2.2.2.2.1,Rc.2.2.2.1,Rc.2.2.2.2.2.1,IntKind.i64.wrap (l+(1:Int)),Oh,())=some Wv/\(Rc.1<(Wn m).Ez (Rc.2.2.2.2.2.2.2.2.1,Rc.2.2.2.1,Rc.2.2.2.2.2.1,IntKind.i64.wrap (l+(1:Int)),Oh,())/\Rc.1<(List.length Wv.1.2.2.1))/\(Rc.2.1<(Wn m).Ez (Rc.2.2.2.2.2.2.2.2.1,Rc.2.2.2.1,Rc.2.2.2.2.2.1,IntKind.i64.wrap (l+(1:Int)),Oh,())/\Rc.2.1<(List.length Wv.1.2.1))/\(Rc.1<(Wn m).Ez (Rc.2.2.2.2.2.2.2.2.1,Rc.2.2.2.1,Rc.2.2.2.2.2.1,IntKind.i64.wrap (l+(1:Int)),Oh,())/\Rc.1<(List.length Wv.1.2.2.1))/\(Rc.1<(Wn m).Ez (Rc.2.2.2.2.2.2.2.2.1,Rc.2.2.2.1,Rc.2.2.2.2.2.1,IntKind.i64.wrap (l+(1:Int)),Oh,())/\Rc.1<(List.length Wv.1.2.2.1))/\0=0/\Rc.2.2.2.2.2.2.2.1.length=Rc.2.2.2.2.2.2.2.1.length/\0=0/\Wv.1.2.1.length=Wv.1.2.1.length/\0=0/\Wv.1.2.2.1.length=Wv.1.2.2.1.length/\k16 (Rc.1,Rc.2.1,IntKind.i64.wrap (Rc.2.2.1+(1:Int)),Wv.1.2.1,min Rc.2.2.2.2.1 ((Wn m).Ez (Rc.2.2.2.2.2.2.2.2.1,Rc.2.2.2.1,Rc.2.2.2.2.2.1,IntKind.i64.wrap (l+(1:Int)),Oh,())),Wv.1.2.2.1,min Rc.2.2.2.2.2.2.1 ((Wn m).Ez (Rc.2.2.2.2.2.2.2.2.1,Rc.2.2.2.1,Rc.2.2.2.2.2.1,IntKind.i64.wrap (l+(1:Int)),Oh,())),Rc.2.2.2.2.2.2.2.1,Wv.1.1,())) (0=0/\Rc.2.2.2.2.2.2.2.1.length=Rc.2.2.2.2.2.2.2.1.length/\0=0/\Rc.2.2.2.1.length=Rc.2.2.2.1.length/\0=0/\Rc.2.2.2.2.2.1.length=Rc.2.2.2.2.2.1.length/\k13 (Rc.1,IntKind.i64.wrap (Od.2.1+(1:Int)),Rc.2.2.2.1,Rc.2.2.2.2.1,Rc.2.2.2.2.2.1,Rc.2.2.2.2.2.2.1,Rc.2.2.2.2.2.2.2.1,Rc.2.2.2.2.2.2.2.2.1,()))) (Od.1,0+l.toNat,(0:Int),Od.2.2.1,Od.2.2.2.1,Od.2.2.2.2.1,Od.2.2.2.2.2.1,Od.2.2.2.2.2.2.1,Od.2.2.2.2.2.2.2.1,PUnit.unit)) ((0=0/\Od.2.2.1.length=Od.2.2.1.length)/\(0=0/\Od.2.2.2.2.1.length=Od.2.2.2.2.1.length)/\(Wn (m+1)).Ez (n,G,T,l,p,())<=Od.2.2.2.1/\(Wn (m+1)).Ez (n,G,T,l,p,())<=Od.2.2.2.2.2.1/\P ((Od.2.2.2.2.2.2.2.1,Od.2.2.1,Od.2.2.2.2.1,()),()))) (v9.1,(0:Int),v9.2.1,v9.2.2.1,v9.2.2.2.1,v9.2.2.2.2.1,fQ.1.1,v9.2.2.2.2.2.2.1,PUnit.unit))) (0+l.toNat,G.set (0+l.toNat) (G.getD (0+l.toNat) []++List.take 1 (List.drop 0 [p])),min G.length (0+l.toNat),T,T.length,List.take y8.1.1.length (List.drop 0 y8.1.1),n,PUnit.unit))/\(((((0:Int)<=l/\l<(↑G.length:Int))/\((Lb G l p T y7 n))/\(Lb G l p T y7 n))/\((0:Int)<=l/\l<(↑G.length:Int))/\(Lb G l p T y7 n))/\((0:Int)<=l/\l<(↑G.length:Int))/\(Lb G l p T y7 n))/\(((((0:Int)<=l/\l<(↑G.length:Int))/\((Lb G l p T y7 n))/\(Lb G l p T y7 n))/\((0:Int)<=l/\l<(↑G.length:Int))/\(Lb G l p T y7 n))/\(((0:Int)<=l/\l<(↑G.length:Int))/\(((Lb G l p T y7 n))/\(Lb G l p T y7 n))/\(((Lb G l p T y7 n))/\((Lb G l p T y7 n))/\(Lb G l p T y7 n))/\((Lb G l p T y7 n))/\((Lb G l p T y7 n))/\(Lb G l p T y7 n))/\(((0:Int)<=l/\l<(↑G.length:Int))/\(Lb G l p T y7 n))/\((0:Int)<=l/\l<(↑G.length:Int))/\((Lb G l p T y7 n))/\((Lb G l p T y7 n))/\(Lb G l p T y7 n))/\(((0:Int)<=l/\l<(↑G.length:Int))/\(Lb G l p T y7 n))/\(((0:Int)<=l/\l<(↑G.length:Int))/\(Lb G l p T y7 n))/\((0:Int)<=l/\l<(↑G.length:Int))/\((Lb G l p T y7 n))/\((Lb G l p T y7 n))/\(Lb G l p T y7 n)))=fnMW (Abz [Rv+7]) (look [(99,o6),(147,Ym),(121,Jq),(56,Ff),(130,Pc.m (Wn m))]) (Wn (m+1)) Tryz.f130 (n,G,T,l,p,()) P:=by kernel_rfl
theorem DR {k l:Nat} {p:List Int} {s:Co×Co} (h:Hy s.2 k l p=true):Hl k l p s=s:=by
 cases k with
 |zero=>rfl
 |succ k=>unfold Hl;rw [Ab h]
theorem DQ (k l:Nat) (p:List Int) (s:Co×Co):Hl (k+1) l p s=if Hy s.2 (k+1) l p=true then s else
   (gu (Ze (s.1.getD l []++ [some p]) (s.2.getD l [])) (s.1.getD l []++ [some p])).foldl (λs q=>Hl k (l+1) q s)
    (s.1.set l (s.1.getD l []++ [some p]),s.2.set l (Ze (s.1.getD l []++ [some p]) (s.2.getD l []))):=rfl
theorem zJ {n:Nat} {p:List Int} (h:Pm n p) {i:Nat} (hi:i<n):idx p (i:Int)=some (ap p i:Int):=by
 have nz:i<p.length:=by rw [h.1];exact hi
 rw [Bp nz,<-(h.aL hi).1,Mi nz]
theorem KY {x:Int} {gs:List PO} {j:Nat} (hj:j<gs.length) (s:Row×List Int):aE x (gs.take (j+1)) s=aN x (aE x (gs.take j) s) gs[j]:=by
 unfold aE
 rw [Fv,Ac hj,Lp,Vt]
 rfl
theorem KZ {gs:List PO} {f:Nat} {row:Row} :aj gs f [] row=row:=by cases f<;>rfl
theorem Xp {n:Nat} {p:List Int} (h:Pm n p):0<p.length/\p.length<=20:=⟨by rw [h.1];exact h.n1,by rw [h.1];exact h.n2⟩
theorem pN {n:Nat} {p q:List Int} (h:Pm n p) (k:Pm n q):Mk q.length p:=by rw [k.1];exact h.row
theorem Aoj {m:Nat} (n:Int) (G T:List (List (Option (List Int)))) (l:Int) (p:Option (List Int)) (h:(∃N L q,p=some q/\Vv N L n G T l q)/\(n-l).toNat<m+1):
  fnMW (Abz [Rv+7]) (look [(99,o6),(147,Ym),(121,Jq),(56,Ff),(130,Pc.m (Wn m))]) (Wn (m+1)) Tryz.f130 (n,G,T,l,p,()) (λ(z:(Int×List (List (Option (List Int)))×List (List (Option (List Int)))×Unit)×Unit)=>z=((n,(Hl (n-l).toNat l.toNat (p.getD []) (G,T)).1,(Hl (n-l).toNat l.toNat (p.getD []) (G,T)).2,()),())):=by
 obtain ⟨⟨N,L,q,rfl,h⟩,hm⟩:=h
 have h':=h
 obtain ⟨n1,n2,en,el,hle,v,pm,fx⟩:=h
 subst en el
 have hk:((N:Int)-(L:Int)).toNat=N-L:=by omega
 rw [hk,Ai]
 refine Eq.mp (Ap7 (N:Int) G T (L:Int) (some q) _) ⟨_,Ab ⟨N,L,?a⟩,?b⟩
 case a=>
  simp only [Dm,Ap,Bx]
  exact h'
 obtain ⟨v1,v2,v3,v4⟩:=v
 dsimp only at v1 v2
 have hw:IntKind.i64.wrap ((L:Int)+1)=((L+1:Nat):Int):=Bg (by omega)
 simp only [Lb]
 simp only [Dm,Ap,Bx,hk,Ai,Bv,eq_self,true_and,Oi,List.take_succ_cons,List.take_zero,Az,Gc,Bi,hw]
 refine Br.of (λhh=>⟨by show Int.toNat (L:Int)<=G.length;omega,by show Int.toNat (L:Int)<=T.length;omega,?_⟩) λhh=>?_
 ·rw [DR (s:=(G,T)) hh]
 obtain ⟨k,hNk⟩: ∃k,N-L=k+1:=by
  cases e:N-L with
  |zero=>rw [e] at hh;simp [Hy] at hh
  |succ k=>exact ⟨k,rfl⟩
 have hLN:L<N:=by omega
 have hv:V N (k+1) L (G,T):=by rw [<-hNk];exact ⟨v1,v2,v3,v4⟩
 rw [hNk] at hh⊢
 have e1:(0:Int)<=(L:Int)/\(L:Int)<(G.length:Int):=by omega
 have e1':(0:Int)<=(L:Int)/\(L:Int)<(T.length:Int):=by omega
 have hgl:(G.getD L []).length<=400:=RG n2 (by omega) hv
 have e2:(G.getD L []).length+1<=Cr:=by show _<=4294967296;omega
 simp only [e1,e1',e2,and_self,true_and,Oi]
 generalize ny:G.getD L []++ [some q]=gs
 have Axj:gs.length<=401:=by rw [<-ny,Ax,Bw];omega
 have hg:PG N L gs:=by rw [<-ny];exact hv.pg pm fx
 have hr0:Uy N L gs (T.getD L []):=by rw [<-ny];exact hv.Au6 q
 obtain ⟨r1,r2,r3⟩:=HG hLN n2 hg hr0
 generalize hR:Ze gs (T.getD L [])=R at r1 r2 r3
 have rQ:Hl (k+1) L q (G,T)=(gu R gs).foldl (λs q=>Hl k (L+1) q s) (G.set L gs,T.set L R):=by
  rw [DQ,Ag (by rw [hh];simp)]
  dsimp only
  rw [ny,hR]
 rw [rQ]
 have hTl:L<T.length:=by omega
 have hGl:L<G.length:=by omega
 have hG1:(G.set L gs).getD L []=gs:=dk G L hGl gs
 have hT1: ∀row:Row,(T.set L row).getD L []=row:=dk T L hTl
 refine ⟨_,Ab (by show (T.getD L []).length<=20;rw [hr0.rl];exact n2),?_⟩
 dsimp only
 have hn0:(Vg (T.getD L [])).length+Lq (T.getD L [])<=40:=by have:=AH (T.getD L []);have:=iZ (T.getD L []);have:=hr0.rl;omega
 have hq0:TA gs (Vg (T.getD L [])) (T.getD L []):=⟨λy hy=>aV.1 hy,λy hy=> .inl (aV.2 ⟨y,rfl,hy⟩)⟩
 refine ⟨λv=> ∃(row:Row) (qu:List Int) (kg kt:Nat),v=(L,G.set L gs,kg,T.set L row,kt,qu,(N:Int),())/\L<=kg/\L<=kt/\qu.length+Lq row<=40/\Uy N L gs row/\TA gs qu row/\aj gs (qu.length+Lq row) qu row=R,
  fun v=>v.2.2.2.2.2.1.length+Lq (v.2.2.2.1.getD v.1 []),⟨T.getD L [],Vg (T.getD L []),min G.length L,T.length,?_,by omega,by omega,hn0,hr0,hq0,?_⟩,?_⟩
 ·rw [x4 T L hTl]
 ·rw [<-ED hLN hg 100 _ _ (by omega) hr0 hq0];exact hR
 rintro v ⟨row,qu,kg,kt,rfl,hkg,hkt,hb,ZU,hqi,YX⟩
 dsimp only
 simp only [hG1,hT1,Bi]
 refine Br.dec (λhl=>⟨e1.2,?_⟩) λhl=>?_
 ·cases qu with
  |nil=>simp at hl
  |cons x qu=>
  obtain ⟨p1,p2,xn,t,rfl,ht⟩:=OG hLN hg ZU hqi
  have hxn:xn<N:=by rw [<-ZU.rl];exact nu ht
  refine Bf gs.length (λv=>v.2.2.1) (λj v=> ∃kg kt:Nat,v=(L,L,(j:Int),G.set L gs,kg,T.set L (aE (xn:Int) (gs.take j) (row,qu)).1,kt,(xn:Int)::(aE (xn:Int) (gs.take j) (row,qu)).2,(N:Int),())/\L<=kg/\L<=kt) rfl ⟨kg,kt,rfl,hkg,hkt⟩ ?_
  rintro j v K hj hi ⟨kg,kt,rfl,h1,h2⟩ hK
  dsimp only
  simp only [hG1,hT1,Ai]
  refine Br.dec (λhl=>?_) λhl=>?_
  ·have hl:j<gs.length:=by omega
   obtain ⟨x1,x2⟩:=Aba hLN hg (gs.take j) (q:=qu) (λo ho=>Gl ho) ZU ht
   have Tq:=KY (x:=(xn:Int)) hl (row,qu)
   generalize aE (xn:Int) (gs.take j) (row,qu)=s at x1 x2 Tq⊢
   obtain ⟨r,qq⟩:=s
   dsimp only at x1 x2⊢
   obtain ⟨g,oP,Tp,hgf⟩:=hg gs[j] (Aj hl)
   have htx:r.getD xn none=some t:=x1.mono _ _ ht
   obtain ⟨t1,t2,t3,t4⟩:=x1.ok.rt _ _ htx
   have hrl:r.length=N:=x1.ok.rl
   have hgj:gs.getD j none=some g:=by rw [FA hl];exact oP
   have hy:=Tp.lt hxn
   have hga:=(Tp.aL hxn).1
   have Ae6:qq.length+Lq r=qu.length+Lq row:=x1.phi
   simp only [Az] at hb
   simp only [hgj,Bx]
   refine ⟨⟨by omega,by omega⟩,⟨by omega,by simp only [Az];omega⟩,_,rfl,_,zJ Tp hxn,⟨by omega,by omega⟩,?_⟩
   rw [oP] at Tq
   unfold aN at Tq
   dsimp only at Tq
   rw [Bx,hga,Ai,Ai,htx,Bx] at Tq
   rw [Ai]
   refine Br.of (λhn=>?_) λhn=>?_
   ·have hn:r.getD (ap g xn) none=none:=by
     cases e:r.getD (ap g xn) none with
     |none=>rfl
     |some u=>rw [e] at hn;simp at hn
    rw [hn] at Tq
    refine ⟨⟨by omega,by simp only [Az];omega⟩,_,rfl,⟨by omega,by omega⟩,some (Al t g),?_,⟨by omega,by omega⟩,?_,?_⟩
    ·rw [Ai,htx,Bx]
     exact Ab ⟨Xp t1,pN t1 Tp⟩
    ·show qq.length+1+1<=4294967296
     omega
    ·rw [Bg (by omega)]
     refine hK hl _ rfl ⟨kg,kt,?_,h1,h2⟩
     rw [Tq,List.set_set]
     rfl
   ·have hn: ∃u,r.getD (ap g xn) none=some u:=by
     cases e:r.getD (ap g xn) none with
     |none=>rw [e] at hn;simp at hn
     |some u=>exact ⟨u,rfl⟩
    obtain ⟨u,hn⟩:=hn
    rw [hn] at Tq
    rw [Bg (by omega)]
    refine hK hl _ rfl ⟨kg,kt,?_,h1,h2⟩
    rw [Tq]
  ·have:j=gs.length:=by omega
   subst this
   rw [Ap]
   generalize hs:aE (xn:Int) gs (row,qu)=s at p1 p2⊢
   obtain ⟨r,qq⟩:=s
   dsimp only at p1 p2⊢
   have Ae6:qq.length+Lq r=qu.length+Lq row:=p1.phi
   simp only [Az] at hb YX
   refine ⟨⟨by omega,by simp only [Az];omega,Nt _⟩,⟨r,qq,kg,kt,?_,h1,h2,by omega,p1.ok,p2,?_⟩,?_⟩
   ·simp
   ·rw [show qu.length+1+Lq row=(qu.length+Lq row)+1 by omega] at YX
    simp only [aj,hs] at YX
    rw [Ae6]
    exact YX
   ·simp only [Az]
    have:(List.take (qq.length+1-Int.toNat 1) (List.drop (Int.toNat 1) ((xn:Int)::qq))).length=qq.length:=by simp
    rw [this]
    omega
 ·have:qu= []:=Ck (by omega)
  subst this
  rw [KZ] at YX
  subst YX
  have hpr:=Ab8 hLN hg ZU r3
  have hvl:=hv.lower gs row
  have Agj: ∀qs:List (List Int),(∀q∈qs,q∈gu row gs)->V N k (L+1) (qs.foldl (λs q=>Hl k (L+1) q s) (G.set L gs,T.set L row))/\Vw (L+1) (G.set L gs,T.set L row) (qs.foldl (λs q=>Hl k (L+1) q s) (G.set L gs,T.set L row)):=
   fun qs UA=>RC n1 n2 (by omega) qs _ (λq hq=>hpr q (UA q hq)) hvl
  refine ⟨_,Ab (by show row.length<=20;rw [ZU.rl];exact n2),?_⟩
  dsimp only
  have hol:=AH row
  have hrl:=ZU.rl
  refine Bf (Vg row).length (λv=>v.2.1) (λi v=> ∃(s:Co×Co) (kg kt:Nat),v=(L,(i:Int),s.1,kg,s.2,kt,Vg row,(N:Int),())/\L<=kg/\L<=kt/\s=(((Vg row).take i).flatMap λy=>gs.map (Tz row y)).foldl (λs q=>Hl k (L+1) q s) (G.set L gs,T.set L row)) rfl ⟨_,kg,kt,rfl,hkg,hkt,rfl⟩ ?_
  rintro i v K hi nz ⟨s,kg,kt,rfl,h1,h2,hs⟩ hK
  dsimp only
  have Px: ∀q∈((Vg row).take i).flatMap (λy=>gs.map (Tz row y)),q∈gu row gs:= λq hq=>by
   obtain ⟨y,hy,hq⟩:=Hj.1 hq
   exact Hj.2 ⟨y,Gl hy,hq⟩
  refine Br.dec (λhl=>?_) λhl=>?_
  ·have hl:i<(Vg row).length:=by omega
   obtain ⟨f1,f2⟩:=Agj _ Px
   rw [<-hs] at f1 f2
   have g1:s.1.getD L []=gs:=by rw [(f2.low L (by omega)).1];exact hG1
   have g2:s.1.length=N:=f1.1
   obtain ⟨yn,hyn,hyr⟩:=aV.1 (Aj hl)
   obtain ⟨t,ht⟩:=To.1 hyr
   have hyN:yn<N:=by rw [<-hrl];exact nu ht
   obtain ⟨t1,t2,t3,t4⟩:=ZU.rt _ _ ht
   refine ⟨⟨by omega,by omega⟩,(yn:Int),by rw [Ai,Ac hl,hyn],by omega,?_⟩
   rw [g1]
   refine Bf gs.length (λv=>v.2.2.1) (λj v=> ∃(s':Co×Co) (kg kt:Nat),v=(L,L,(j:Int),s'.1,kg,s'.2,kt,Vg row,(N:Int),())/\L<=kg/\L<=kt/\s'=(((Vg row).take i).flatMap (λy=>gs.map (Tz row y))++(gs.take j).map (Tz row (yn:Int))).foldl (λs q=>Hl k (L+1) q s) (G.set L gs,T.set L row)) rfl ⟨s,kg,kt,rfl,h1,h2,by simpa using hs⟩ ?_
   rintro j v K' hj rM ⟨s',kg,kt,rfl,h1,h2,FO⟩ hK'
   dsimp only
   refine Br.dec (λKm=>?_) λKm=>?_
   ·have Km:j<gs.length:=by omega
    have RU: ∀q∈((Vg row).take i).flatMap (λy=>gs.map (Tz row y))++(gs.take j).map (Tz row (yn:Int)),q∈gu row gs:= λq hq=>by
     rcases Bb.1 hq with hq|hq
     ·exact Px q hq
     ·obtain ⟨o,ho,rfl⟩:=Bj.1 hq
      exact Hj.2 ⟨(yn:Int),aV.2 ⟨yn,rfl,hyr⟩,Bj.2 ⟨o,Gl ho,rfl⟩⟩
    obtain ⟨f1',f2'⟩:=Agj _ RU
    rw [<-FO] at f1' f2'
    obtain ⟨G',T'⟩:=s'
    dsimp only at f1' f2'⊢
    have g1':G'.getD L []=gs:=by have:=(f2'.low L (by omega)).1;dsimp only at this;rw [this];exact hG1
    have g3':T'.getD L []=row:=by have:=(f2'.low L (by omega)).2;dsimp only at this;rw [this];exact hT1 row
    have g4':G'.length=N:=f1'.1
    have g5':T'.length=N:=f1'.2.1
    obtain ⟨g,oP,Tp,hgf⟩:=hg gs[j] (Aj Km)
    have hgj:gs.getD j none=some g:=by rw [FA Km];exact oP
    have ya:some g∈gs:=by rw [<-oP];exact Aj Km
    have hy:=Tp.lt hyN
    obtain ⟨t',yd⟩:=To.1 (r3 yn t g ht ya)
    obtain ⟨u1,u2,u3,u4⟩:=ZU.rt _ _ yd
    have Anp:Tz row (yn:Int) gs[j]=Al (Al t g) (Bk t'):=by rw [oP];exact jl ht yd
    have hqm:=hpr _ (Hj.2 ⟨(yn:Int),aV.2 ⟨yn,rfl,hyr⟩,Bj.2 ⟨gs[j],Aj Km,Anp⟩⟩)
    simp only [g1',g3',Ai,hgj,ht,Bx]
    have tX:L<Int.toNat ((L+1:Nat):Int):=by omega
    have YW:=zf n1 n2 k (L+1) _ (G',T') (by omega) f1' hqm.1 hqm.2
    have Av2:((Hl k (L+1) (Al (Al t g) (Bk t')) (G',T')).1).length=N:=YW.v.1
    have Av3:((Hl k (L+1) (Al (Al t g) (Bk t')) (G',T')).2).length=N:=YW.v.2.1
    have hkk:((N:Int)-((L+1:Nat):Int)).toNat=k:=by omega
    refine ⟨⟨by omega,by omega⟩,⟨by omega,by omega⟩,some (Al t g),Ab ⟨Xp t1,pN t1 Tp⟩,_,zJ Tp hyN,⟨by omega,by omega⟩,Bk t',?_,some (Al (Al t g) (Bk t')),?_,_,Ab ⟨⟨N,L+1,_,rfl,?pr⟩,?lt⟩,⟨tX,?k1⟩,⟨tX,?k2⟩,⟨tX,?k3⟩,⟨tX,?k4⟩,?go⟩
    case pr=>exact ⟨n1,n2,rfl,rfl,by omega,by rw [show N-(L+1)=k by omega];exact f1',hqm.1,hqm.2⟩
    case lt=>
     show ((N:Int)-((L+1:Nat):Int)).toNat<m
     omega
    case go=>
     dsimp only
     rw [Bg (by omega)]
     refine hK' Km _ rfl ⟨_,_,_,rfl,?_,?_,?_⟩
     ·show L<=min kg (Int.toNat ((L+1:Nat):Int));omega
     ·show L<=min kt (Int.toNat ((L+1:Nat):Int));omega
     ·rw [Fv,Ac Km,Lp,Kb,<-Dg,Vt,<-FO]
      simp only [Ca,List.map_nil,Ih,List.foldl_nil,Anp,hkk,Ai,Bx]
    case k1=>simp only [hkk,Ai,Bx];omega
    case k2=>simp only [hkk,Ai,Bx];omega
    case k3=>simp only [hkk,Ai,Bx];omega
    case k4=>simp only [hkk,Ai,Bx];omega
    ·rw [Ai,yd,Bx]
     exact Ab ⟨by show t'.length<=20;rw [u1.1];exact n2,u1.2.row⟩
    ·exact Ab ⟨Xp (t1.comp Tp),pN (t1.comp Tp) u1.inv⟩
   ·have:j=gs.length:=by omega
    subst this
    rw [Bg (by omega)]
    refine hK hl _ rfl ⟨s',kg,kt,rfl,h1,h2,?_⟩
    rw [FO,Ap,Fv,Ac hl,Lp,List.flatMap_append,hyn]
    simp
  ·have:i=(Vg row).length:=by omega
   subst this
   rw [Ap] at hs
   refine ⟨h1,h2,?_⟩
   rw [hs]
   rfl
theorem Abo {m:Nat} (Ajl:By Tryz.prog 130 (Wn m)):By Tryz.prog 130 (Wn (m+1)):=
 By.gS (Afc [Rv+7]) (Av yS (En xa (Av vn (Av Wr (En Ajl Bh))))) mixed Tryz.func130 (by kernel_rfl) (by kernel_rfl) λx h=>Aoj x.1 x.2.1 x.2.2.1 x.2.2.2.1 x.2.2.2.2.1 h
theorem OZ:By Tryz.prog 130 (Wn 0):=
 By.gS vR Bh mixed Tryz.func130 (by kernel_rfl) (by kernel_rfl) λ_ h=>absurd h.2 (Dp _)
theorem ve: ∀m,By Tryz.prog 130 (Wn m)
 |0=>OZ
 |m+1=>Abo (ve m)
noncomputable abbrev BI:MSpec:=gS Ahc (λx=> ∃N L q,x.2.2.2.2.1=some q/\Vv N L x.1 x.2.1 x.2.2.1 x.2.2.2.1 q)
 (λx=>((x.1,(Hl (x.1-x.2.2.2.1).toNat x.2.2.2.1.toNat (x.2.2.2.2.1.getD []) (x.2.1,x.2.2.1)).1,(Hl (x.1-x.2.2.2.1).toNat x.2.2.2.1.toNat (x.2.2.2.2.1.getD []) (x.2.1,x.2.2.1)).2,()),()))
theorem PA:By Tryz.prog 130 BI:=By.Aau (λx=>(x.1-x.2.2.2.1).toNat) ve
def Ti (n:Nat):Co:=List.replicate n []
def cc (n i:Nat):Row:=(List.replicate n none).set i (some (upto n))
def Yv (n:Nat):Co:=(List.range n).map λi=>cc n i
def Um (n:Nat) (gens:List PO):Co×Co:=gens.foldl (λs o=>Hl n 0 (o.getD []) s) (Ti n,Yv n)
noncomputable abbrev MS:MSpec:= {Je:= [none,none],ins:= [(false, .Eu tI),(false, .Eu tLO)],Gy:=false,Hz:= [none,none,none],outs:= [.Eu tI, .Bm tO wa false, .Bm tO wa false],fn:= λ_=>none,rp:=some 141}
noncomputable abbrev jk:MSpec:=gS MS (λx=>(1<=x.1/\x.1<=20)/\List.length x.2.1<=4294967296/\ ∀o∈(x.2.1:List PO),∃g,o=some g/\Pm x.1.toNat g)
 (λx=>((x.1,(Um x.1.toNat x.2.1).1,(Um x.1.toNat x.2.1).2,()),()))
abbrev bf:Type:=Int×List (List (Option (List Int)))×Int×List (List (Option (List Int)))×PUnit
theorem JX (n:Int) (gens:List (Option (List Int))) (P:(Int×List (List (Option (List Int)))×List (List (Option (List Int)))×Unit)×Unit->Prop):(((0:Int)<=n/\n<(↑Cr:Int)+(1:Int))/\n=n/\0=0/\(List.replicate n.toNat ([]:List (Option (List Int)))).length=(List.replicate n.toNat ([]:List (Option (List Int)))).length/\0=0/\0=([]:List Int).length/\Df (λ(v3:bf) (k4:bf->Prop)=>Br (decide (v3.1<n)) (((0:Int)<=n/\n<(↑Cr:Int)+(1:Int))/\n=n/\ ∃(y5:Option (List Int)),Pq.fn (n,())=some y5/\((0:Int)<=v3.1/\v3.1<(↑(List.replicate n.toNat (none:Option (List Int))).length:Int))/\0+v3.1.toNat<(List.replicate n.toNat (none:Option (List Int))).length/\0=0/\(List.replicate n.toNat (none:Option (List Int))).length=((List.replicate n.toNat (none:Option (List Int))).set (0+v3.1.toNat) y5).length/\(0=0/\v3.2.2.2.1.length=v3.2.2.2.1.length)/\(0=0/\1= [(List.replicate n.toNat (none:Option (List Int))).set (0+v3.1.toNat) y5].length)/\0< [(List.replicate n.toNat (none:Option (List Int))).set (0+v3.1.toNat) y5].length/\v3.2.2.2.1.length+ [(List.replicate n.toNat (none:Option (List Int))).set (0+v3.1.toNat) y5].length<=Cr/\0=0/\v3.2.1.length=v3.2.1.length/\0=0/\(v3.2.2.2.1++ [(List.replicate n.toNat (none:Option (List Int))).set (0+v3.1.toNat) y5]).length=(v3.2.2.2.1++ [(List.replicate n.toNat (none:Option (List Int))).set (0+v3.1.toNat) y5]).length/\k4 (IntKind.i64.wrap (v3.1+(1:Int)),v3.2.1,v3.2.2.1,v3.2.2.2.1++ [(List.replicate n.toNat (none:Option (List Int))).set (0+v3.1.toNat) y5],())) (0=0/\v3.2.1.length=v3.2.1.length/\0=0/\v3.2.2.2.1.length=v3.2.2.2.1.length/\Df (λ(v5:bf) (k6:bf->Prop)=>Br (decide (v5.1<(↑gens.length:Int))) (∃(y7:Option (List Int)),idx gens v5.1=some y7/\0=0/\v5.2.1.length=v5.2.1.length/\0=0/\v5.2.2.2.1.length=v5.2.2.2.1.length/\ ∃(y8:(Int×List (List (Option (List Int)))×List (List (Option (List Int)))×PUnit)×PUnit),BI.fn (v5.2.2.1,v5.2.1,v5.2.2.2.1,(0:Int),y7,())=some y8/\0=0/\y8.1.2.1.length=y8.1.2.1.length/\0=0/\y8.1.2.2.1.length=y8.1.2.2.1.length/\k6 (IntKind.i64.wrap (v5.1+(1:Int)),y8.1.2.1,y8.1.1,y8.1.2.2.1,())) ((0=0/\v5.2.1.length=v5.2.1.length)/\(0=0/\v5.2.2.2.1.length=v5.2.2.2.1.length)/\P ((v5.2.2.1,v5.2.1,v5.2.2.2.1,()),()))) ((0:Int),v3.2.1,v3.2.2.1,v3.2.2.2.1,PUnit.unit))) ((0:Int),List.replicate n.toNat ([]:List (Option (List Int))),n,[],PUnit.unit))=fnMW cv (look [(105,Pq),(130,BI)]) jk Tryz.f98 (n,gens,()) P:=by kernel_rfl
theorem Yu (n i:Nat):(Ti n).getD i []= []:=by
 unfold Ti
 rw [Ak,Yx]
 split<;>rfl
theorem mC {n i:Nat} (h:i<n):(Yv n).getD i []=cc n i:=by
 unfold Yv
 rw [Ak,Fc,fT h]
 rfl
theorem oA {n i y:Nat} (h:i<n):(cc n i).getD y none=if i=y then some (upto n) else none:=by
 unfold cc
 rw [Kx,Fy]
 by_cases e:i=y
 ·rw [Ab ⟨e,h⟩,Ab e]
 ·rw [Ag (λhh=>e hh.1),Ag e,Ak,Yx]
  split<;>rfl
theorem vI {n:Nat} (h1:1<=n) (h2:n<=20): ∀(k l:Nat),l+k=n->kA n k l (Ti n,Yv n)
 |0,l,hk=>Yu n l
 |k+1,l,hk=>by
  have hl:l<n:=by omega
  have hg: ∀(g:List Int) (j:Nat),some g∈(Ti n).getD j []->False:= λg j hg=>by rw [Yu] at hg;cases hg
  refine ⟨vI h1 h2 k (l+1) (by omega),⟨λo ho=>?_,?_,?_,λy t e0=>?_,λy t g _ Sx=>(hg _ _ Sx).elim,λy t g t' _ Sx=>(hg _ _ Sx).elim⟩,λg Sx=>(hg _ _ Sx).elim⟩
  ·have ho:o∈(Ti n).getD l []:=ho
   rw [Yu] at ho;cases ho
  ·show ((Yv n).getD l []).length=n
   rw [mC hl];simp [cc]
  ·show ((Yv n).getD l []).getD l none=_
   rw [mC hl,oA hl,Ab rfl]
  ·replace e0:((Yv n).getD l []).getD y none=some t:=e0
   rw [mC hl,oA hl] at e0
   by_cases hy:l=y
   ·rw [Ab hy] at e0
    have e1:=Ba e0
    subst e1 hy
    exact ⟨Pm.id h1 h2,λi hi=>kP (by omega),kP hl, .id⟩
   ·rw [Ag hy] at e0;cases e0
theorem IX (n:Nat): ∀(k l:Nat),GBf k l (Ti n,Yv n)
 |0,_=>trivial
 |k+1,l=>⟨IX n k (l+1),by show ((Ti n).getD l []).length<=_;rw [Yu];exact Iq _⟩
theorem sK {n:Nat} (h1:1<=n) (h2:n<=20):V n n 0 (Ti n,Yv n):=⟨by simp [Ti],by simp [Yv],vI h1 h2 n 0 (by omega),IX n n 0⟩
def PmL (n:Nat) (gens:List PO):Prop:= ∀o∈gens,∃g,o=some g/\Pm n g
theorem DP {n:Nat} {gens:List PO} {j:Nat} (hj:j<gens.length):Um n (gens.take (j+1))=Hl n 0 (gens[j].getD []) (Um n (gens.take j)):=by
 unfold Um
 rw [Fv,Ac hj,Lp,Vt]
 rfl
theorem oV {n:Nat} (h1:1<=n) (h2:n<=20): ∀(gens:List PO) (s:Co×Co),PmL n gens->V n n 0 s->V n n 0 (gens.foldl (λs o=>Hl n 0 (o.getD []) s) s)/\
  Vw 0 s (gens.foldl (λs o=>Hl n 0 (o.getD []) s) s)/\(∀g,some g∈gens->Gn n ((gens.foldl (λs o=>Hl n 0 (o.getD []) s) s).1.getD 0 []) g)/\ ∀o∈(gens.foldl (λs o=>Hl n 0 (o.getD []) s) s).1.getD 0 [],o∈s.1.getD 0 []\/o∈gens
 | [],s,_,hv=>⟨hv,Vw.refl _ _,(λ_ hg=>by cases hg),λ_ ho=> .inl ho⟩
 |o::gens,s,hg,hv=>by
  obtain ⟨g,rfl,Tp⟩:=hg o (by simp)
  have ha:=zf h1 h2 n 0 g s (by omega) hv Tp (λi hi=>absurd hi (Dp _))
  obtain ⟨a1,a2,a3,a4⟩:=oV h1 h2 gens (Hl n 0 g s) (λo ho=>hg o (by simp [ho])) ha.v
  refine ⟨a1,ha.grow.trans a2 (Ao _),λg' Sx=>?_,λo ho=>?_⟩
  ·rcases Be.1 Sx with e|Sx
   ·cases e;exact ha.Ajm.mono λg hg=>a2.xT _ _ hg
   ·exact a3 g' Sx
  ·rcases a4 o ho with h|h
   ·rcases ha.gens o h with h|h
    ·exact .inl h
    ·exact .inr (by simp [h])
   ·exact .inr (by simp [h])
theorem DO {n:Nat} (h1:1<=n) (h2:n<=20) {gens:List PO} (hg:PmL n gens):V n n 0 (Um n gens):=(oV h1 h2 gens _ hg (sK h1 h2)).1
theorem lZ {n:Nat} (h1:1<=n) (h2:n<=20) {gens:List PO} (hg:PmL n gens) {p:List Int} (hp:Pm n p):Hy (Um n gens).2 n 0 p=true↔Gn n gens p:=by
 obtain ⟨a1,a2,a3,a4⟩:=oV h1 h2 gens _ hg (sK h1 h2)
 have hS:DK n λg=>some g∈gens:=⟨⟨h1,h2⟩,λg Sx=>by obtain ⟨g',e,h⟩:=hg _ Sx;cases e;exact h⟩
 have Px: ∀g,some g∈(Um n gens).1.getD 0 []->some g∈gens:= λg Sx=>by
  rcases a4 _ Sx with h|h
  ·have h:some g∈(Ti n).getD 0 []:=h
   rw [Yu] at h;cases h
  ·exact h
 have hS':DK n λg=>some g∈(Um n gens).1.getD 0 []:=⟨⟨h1,h2⟩,λg Sx=>hS.2 g (Px g Sx)⟩
 refine (Ue h1 h2 n 0 (Um n gens) (by omega) a1.2.2.1 p hp λi hi=>absurd hi (Dp _)).trans ⟨λh=>h.mono Px,λh=>h.trans hS' λg Sx=>a3 g Sx⟩
theorem HQ (n:Int) (gens:List (Option (List Int))) (h:(1<=n/\n<=20)/\List.length gens<=4294967296/\ ∀o∈(gens:List PO),∃g,o=some g/\Pm n.toNat g):
  fnMW cv (look [(105,Pq),(130,BI)]) jk Tryz.f98 (n,gens,()) (λ(z:(Int×List (List (Option (List Int)))×List (List (Option (List Int)))×Unit)×Unit)=>z=((n,(Um n.toNat gens).1,(Um n.toNat gens).2,()),())):=by
 obtain ⟨⟨h1,h2⟩,h3,hg⟩:=h
 obtain ⟨N,rfl⟩: ∃N:Nat,n=N:=⟨n.toNat,by omega⟩
 rw [Ai] at hg⊢
 have h1:1<=N:=by omega
 have h2:N<=20:=by omega
 refine Eq.mp (JX (N:Int) gens _) ?_
 have hm:((0:Int)<=(N:Int)/\(N:Int)<(Cr:Int)+1):=⟨by omega,by show (N:Int)<(4294967296:Int)+1;omega⟩
 simp only [hm,and_self,eq_self,true_and,Ai,Bv,Gc,Bi,Fy,Az,Nat.lt_add_one,Ax]
 refine Bf N (λv=>v.1) (λj v=>v=((j:Int),Ti N,(N:Int),(List.range j).map (cc N),())) rfl rfl ?_
 rintro j v K hj hi rfl hK
 dsimp only
 refine Br.dec (λhl=>?_) λhl=>?_
 ·refine ⟨_,Ab ⟨by show (1:Int)<=N;omega,by show (N:Int)<=20;omega⟩,⟨by omega,by omega⟩,by rw [Ai];omega,?_,?_⟩
  ·show _<=4294967296
   simp only [Di,List.length_range]
   omega
  ·rw [Bg (by omega)]
   refine hK (by omega) _ rfl ?_
   rw [hJ,Kb]
   rfl
 ·have:j=N:=by omega
  subst this
  refine Bf gens.length (λv=>v.1) (λi v=>v=((i:Int),(Um j (gens.take i)).1,(j:Int),(Um j (gens.take i)).2,())) rfl rfl ?_
  rintro i v K' nz Asd rfl hK'
  dsimp only
  refine Br.dec (λKm=>?_) λKm=>?_
  ·have Km:i<gens.length:=by omega
   obtain ⟨g,oP,Tp⟩:=hg gens[i] (Aj Km)
   have hv:=DO h1 h2 (gens:=gens.take i) λo ho=>hg o (Gl ho)
   refine ⟨_,Bp Km,_,Ab ⟨j,0,g,oP,h1,h2,rfl,rfl,Iq _,hv,Tp,λi hi=>absurd hi (Dp _)⟩,?_⟩
   rw [Bg (by omega)]
   refine hK' Km _ rfl ?_
   rw [DP Km]
   simp only [Int.sub_zero,Ai]
   rfl
  ·have:i=gens.length:=by omega
   subst this
   rw [Ap]
theorem sf:By Tryz.prog 98 jk:=
 By.gS vR (Av rZ (En PA Bh)) mixed Tryz.func98 (by kernel_rfl) (by kernel_rfl) λx h=>HQ x.1 x.2.1 h
noncomputable abbrev FX:MSpec:= {Je:= [none,none],ins:= [(false, .Eu tI),(false, .Eu da)],Gy:=false,Hz:= [none,none,none],outs:= [.Eu tI, .Bm tO wa false, .Bm tO wa false],fn:= λ_=>none,rp:=some 141}
def cA (n:Int) (g:List (List Int)):Co×Co:=Um n.toNat (g.map some)
noncomputable abbrev Yl:MSpec:=gS FX (λx=>(1<=x.1/\x.1<=20)/\List.length x.2.1<=4294967296/\ ∀g∈(x.2.1:List (List Int)),Pm x.1.toNat g)
 (λx=>((x.1,(cA x.1 x.2.1).1,(cA x.1 x.2.1).2,()),()))
noncomputable def Nq (p:PP) (s:List Int):Bool:=(Dy p&&Gk p.1 s)&&Hy (cA p.1 p.2.2.1).2 p.1.toNat 0 s
noncomputable abbrev Ni:Spec:=Ev (.pair Fl (.pair tL .unit)) .bool false true (λx=>Eh x.1/\short x.2.1) (λx=>Nq x.1 x.2.1)
theorem Cells.told {w:World} {S:Nat->Prop} {e:Ty} {cs:List Value} {xs:List e.den} (h:Cells w S (.slice e) cs xs): ∃o:Option (List e.den),Cells w S (.oslice e) cs o/\o.getD []=xs:=by
 simp only [Cells] at h
 obtain ⟨a,len,cap,rfl,h1,h2,h3⟩:=h
 cases a with
 |none=>
  rcases h3 with rfl|⟨g,o,h,_⟩
  ·refine ⟨none,?_,rfl⟩
   simp only [Cells]
   exact .inl ⟨trivial,cap,by rw [h1];rfl⟩
  ·cases h
 |some ad=>
  refine ⟨some xs,?_,rfl⟩
  simp only [Cells]
  exact .inr ⟨xs,ad,len,cap,rfl,rfl,h1,h2,h3.imp id λ⟨g,o,h,h4⟩=>⟨g,o,Ba h,h4⟩⟩
theorem KV {α β:Type} (Q:Nat->α->β->Prop): ∀(xs:List α),(∀i x,xs[i]?=some x-> ∃y,Q i x y)-> ∃ys:List β,ys.length=xs.length/\ ∀i x y,xs[i]?=some x->ys[i]?=some y->Q i x y:=by
 intro xs h
 refine ⟨List.ofFn λi:Fin xs.length=>Classical.choose (h i xs[i] (Ac i.2)),by simp,λi x y h1 h2=>?_⟩
 obtain ⟨hi,rfl⟩:=An.1 h1
 obtain ⟨nz,rfl⟩:=An.1 h2
 rw [List.getElem_ofFn]
 exact Classical.choose_spec (h i xs[i] (Ac hi))
theorem Cs.Ahk {w:World} {S:Nat->Prop} {e:Ty} {v:Value} {xs:List (List e.den)} (h:Cs w S (.slice (.slice e)) v xs): ∃os:List (Option (List e.den)),Cs w S (.slice (.oslice e)) v os/\os.map (·.getD [])=xs:=by
 obtain ⟨cs,hc,rfl⟩:=h
 simp only [Cells] at hc
 obtain ⟨a,len,cap,rfl,h1,h2,h3⟩:=hc
 rcases h3 with rfl|⟨g,o,rfl,hg,hS,h4⟩
 ·refine ⟨[],⟨_,?_,rfl⟩,rfl⟩
  simp only [Cells]
  exact ⟨a,len,cap,rfl,h1,h2, .inl trivial⟩
 ·obtain ⟨os,e1,e2⟩:=KV (λi (x:List e.den) (y:Option (List e.den))=>y.getD []=x/\ ∃es:List Value,es.length=1/\(∀j u,es[j]?=some u->w.cell? ⟨g,o+i*1+j,none⟩=some u)/\Cells w S (.oslice e) es y) xs λi x hx=>by
   obtain ⟨es,k1,k2,k3⟩:=h4 i x hx
   obtain ⟨y,k4,k5⟩:=Cells.told (e:=e) (by simp only [Cells];exact k3)
   exact ⟨y,k5,es,k1,k2,k4⟩
  refine ⟨os,⟨_,?_,rfl⟩,?_⟩
  ·simp only [Cells]
   refine ⟨_,len,cap,rfl,by rw [h1,e1],h2, .inr ⟨g,o,rfl,hg,hS,λi y hy=>?_⟩⟩
   obtain ⟨hi,_⟩:=An.1 hy
   obtain ⟨_,es,k1,k2,k3⟩:=e2 i _ y (Ac (by omega)) hy
   simp only [Cells] at k3
   exact ⟨es,k1,k2,k3⟩
  ·refine List.ext_getElem (by simp [e1]) λi g1 g2=>?_
   rw [Sv]
   exact (e2 i _ _ (Ac g2) (Ac (by omega))).1
theorem vu:By Tryz.prog 98 Yl:=by
 have h:=sf
 refine ⟨h.enter,λw S π us x r o g vs h1 hg h2 h3 hS h4 h5=>?_⟩
 obtain ⟨n,gens,⟨⟩⟩:=x
 match us,h2 with
 |u1::u2::us,h2=>
  obtain ⟨h6,⟨h7,h8⟩,h9⟩:=h2
  obtain ⟨os,oO,gJ⟩:=Cs.Ahk (e:=tI) h8
  have gJ:os.map (·.getD [])=(gens:List (List Int)):=gJ
  have gL:(1<=n/\n<=20)/\List.length gens<=4294967296/\ ∀g∈(gens:List (List Int)),Pm n.toNat g:=Cc λhn=>by
   have:Yl.fn (n,gens,())=none:=Ag hn
   rw [this] at h5;cases h5
  have hos:os=gens.map some:=by
   rw [<-gJ,List.map_map]
   refine (List.map_id os).symm.trans (Ek λx hx=>?_)
   cases x with
   |some y=>rfl
   |none=>
    have:=gL.2.2 [] (by rw [<-gJ];exact Bj.2 ⟨none,hx,rfl⟩)
    have h1:=this.n1
    have h2:=this.1
    simp at h2
    omega
  have hv:Yl.fn (n,gens,())=some ((n,(cA n gens).1,(cA n gens).2,()),()):=Ab gL
  rw [hv] at h5
  have h5:=Ba h5
  refine h.calls w S π (u1::u2::us) (n,os,()) r o g vs h1 hg ⟨h6,⟨h7,oO⟩,h9⟩ h3 hS h4 ?_
  refine (Ab ⟨gL.1,by rw [hos,Di];exact gL.2.1,λy hy=>?pp⟩).trans (Mc some ?qq)
  case pp=>
   replace hy:y∈os:=hy
   rw [hos] at hy
   obtain ⟨g,hg,rfl⟩:=Bj.1 hy
   exact ⟨g,rfl,gL.2.2 g hg⟩
  case qq=>subst hos;exact h5
theorem dF {p:PP} (hv:Valid p):(1<=p.1/\p.1<=20)/\List.length p.2.2.1<=4294967296/\ ∀g∈p.2.2.1,Pm p.1.toNat g:=
 ⟨hv.n,by have:=hv.wo;omega,λg hg=>⟨by have:=hv.len g hg;omega,fm (hv.perm g hg)⟩⟩
theorem ee {n:Nat} {g:List (List Int)} (h: ∀x∈g,Pm n x):PmL n (g.map some):= λo ho=>by
 obtain ⟨x,hx,rfl⟩:=Bj.1 ho
 exact ⟨x,rfl,h x hx⟩
theorem Adi {p:PP} (hv:Valid p):V p.1.toNat p.1.toNat 0 (cA p.1 p.2.2.1):=by
 have:=hv.n
 exact DO (by omega) (by omega) (ee (dF hv).2.2)
theorem oa {g:List (List Int)} {x:List Int} :some x∈g.map some↔x∈g:=by simp
theorem NA {n:Nat} {g:List (List Int)} {x:List Int} (h:Gn n (g.map some) x) {l:Int} (hl:l∈Aw g.length):Gn n (g.map some) (Al x (Bs g l)):=by
 obtain ⟨k,hk,rfl|rfl⟩:=Sm (Pn hl)
 ·rw [Uq hk];exact .mul h (oa.2 (Aj hk))
 ·rw [Up hk];exact .inv h (oa.2 (Aj hk))
theorem Vd {n k:Nat} (hk:k<n):(k:Int)+1∈Aw n/\ -((k:Int)+1)∈Aw n:=by
 unfold Aw
 exact ⟨Hj.2 ⟨k,Gg.2 hk,by simp⟩,Hj.2 ⟨k,Gg.2 hk,by simp⟩⟩
theorem He.nodup {m:Nat} {L:List (List Int)} {Mu:List Int} (h:He m L Mu):L.Nodup:=
 Ew.2 λi j hi hj iK e=>by have:=h.inj hi hj e;omega
theorem Jt {α:Type} {xs ys:List α} {i:Nat} {d:α} (h:i<xs.length):(xs++ys).getD i d=xs.getD i d:=by
 rw [Ak,Ak,At h]
theorem jQ {α:Type} {xs:List α} {x d:α} :(xs++ [x]).getD xs.length d=x:=by
 rw [Ak,Ar (Ao _),Nat.sub_self];rfl
theorem Zd {α:Type} {xs:List α} {i:Nat} {d:α} (h:i<xs.length):xs.getD i d=xs[i]:=by
 rw [Ak,Ac h];rfl
structure Lv (g:List (List Int)) (ls:List Int) (k:Nat) (L:List (List Int)) (D:List Int):Prop where
 len:D.length=L.length
 pos:0<L.length
 mono: ∀i j,i<=j->j<L.length->D.getD i 0<=D.getD j 0
 Aek:k<L.length-> ∀j,j<L.length->D.getD j 0<=D.getD k 0+1
 par: ∀j,0<j->j<L.length-> ∃i l,i<j/\l∈ls/\L.getD j []=Al (L.getD i []) (Bs g l)/\D.getD j 0=D.getD i 0+1
 zero:D.getD 0 0=0
theorem Lv.add {g:List (List Int)} {ls:List Int} {k:Nat} {L:List (List Int)} {D:List Int} (h:Lv g ls k L D) (hk:k<L.length) {l:Int} (hl:l∈ls):
  Lv g ls k (L++ [Al (L.getD k []) (Bs g l)]) (D++ [D.getD k 0+1]):=by
 have hlen:=h.len
 have hD: ∀i,i<L.length->(D++ [D.getD k 0+1]).getD i 0=D.getD i 0:= λi hi=>Jt (by omega)
 have hDl:(D++ [D.getD k 0+1]).getD L.length 0=D.getD k 0+1:=by rw [<-hlen];exact jQ
 refine ⟨by simp [hlen],by simp,λi j iK hj=>?_,λ_ j hj=>?_,λj h0 hj=>?_,?_⟩
 ·rw [Ax,Bw] at hj
  by_cases e:j=L.length
  ·subst e
   rw [hDl]
   by_cases e':i=L.length
   ·subst e';rw [hDl];exact Nt _
   ·rw [hD i (by omega)]
    exact h.Aek hk i (by omega)
  ·rw [hD i (by omega),hD j (by omega)]
   exact h.mono i j iK (by omega)
 ·rw [Ax,Bw] at hj
  rw [hD k hk]
  by_cases e:j=L.length
  ·subst e;rw [hDl];exact Nt _
  ·rw [hD j (by omega)];exact h.Aek hk j (by omega)
 ·rw [Ax,Bw] at hj
  by_cases e:j=L.length
  ·subst e
   exact ⟨k,l,hk,hl,by rw [jQ,Jt hk],by rw [hDl,hD k hk]⟩
  ·obtain ⟨i,l',h1,h2,h3,h4⟩:=h.par j h0 (by omega)
   exact ⟨i,l',h1,h2,by rw [Jt (by omega),Jt (by omega)];exact h3,by rw [hD j (by omega),hD i (by omega)];exact h4⟩
 ·rw [hD 0 h.pos];exact h.zero
theorem td {g:List (List Int)} {ls:List Int} {k:Nat} : ∀(SD:List Int) (L:List (List Int)) (D:List Int),(∀l∈SD,l∈ls)->Lv g ls k L D->k<L.length-> ∀ {x:List Int} {d:Int},x=L.getD k []->d=D.getD k 0->
  Lv g ls k (Me g x d SD L D).1 (Me g x d SD L D).2.1/\(∃A,(Me g x d SD L D).1=L++A)/\(∃A,(Me g x d SD L D).2.1=D++A)/\
  ((Me g x d SD L D).2.2=true-> ∀l∈SD,∃j,j<(Me g x d SD L D).1.length/\(Me g x d SD L D).1.getD j []=Al x (Bs g l)/\(Me g x d SD L D).2.1.getD j 0<=d+1)
 | [],L,D,_,h,_,x,d,_,_=>⟨h,⟨[],by simp [Me]⟩,⟨[],by simp [Me]⟩,λ_ l hl=>by cases hl⟩
 |l::SD,L,D,hs,h,hk,x,d,hx,hd=>by
  have FO: ∀l∈SD,l∈ls:= λl' h'=>hs l' (As _ h')
  have hlen:=h.len
  simp only [Me]
  split
  ·rename_i hm
   obtain ⟨a1,⟨A,a2⟩,⟨A',a3⟩,a4⟩:=td SD L D FO h hk hx hd
   refine ⟨a1,⟨A,a2⟩,⟨A',a3⟩,λe l' Km=>?_⟩
   rcases Be.1 Km with rfl|Km
   ·obtain ⟨j,hj,hjx⟩:=Cl.1 hm
    refine ⟨j,by rw [a2,Ax];omega,by rw [a2,Jt hj,Zd hj];exact hjx,?_⟩
    rw [a3,Jt (by omega),hd]
    exact h.Aek hk j hj
   ·exact a4 e l' Km
  ·split
   ·exact ⟨h,⟨[],by simp⟩,⟨[],by simp⟩,λe=>by cases e⟩
   ·have YW:=h.add hk (hs l (by simp))
    rw [<-hx,<-hd] at YW
    obtain ⟨a1,⟨A,a2⟩,⟨A',a3⟩,a4⟩:=td SD (L++ [Al x (Bs g l)]) (D++ [d+1]) FO YW (by rw [Ax];omega) (x:=x) (d:=d) (by rw [Jt hk];exact hx) (by rw [Jt (by omega)];exact hd)
    refine ⟨a1,⟨_::A,by rw [a2,Dg];rfl⟩,⟨_::A',by rw [a3,Dg];rfl⟩,λe l' Km=>?_⟩
    rcases Be.1 Km with rfl|Km
    ·refine ⟨L.length,by rw [a2,Ax,Ax];simp only [Bw];omega,?_,?_⟩
     ·rw [a2,Jt (by simp),jQ]
     ·rw [a3,Jt (by simp [hlen]),<-hlen,jQ]
      exact Nt _
    ·exact a4 e l' Km
structure KS (g:List (List Int)) (ls:List Int) (L:List (List Int)) (D:List Int):Prop where
 len:D.length=L.length
 pos:0<L.length
 zero:D.getD 0 0=0
 par: ∀j,0<j->j<L.length-> ∃i l,i<j/\l∈ls/\L.getD j []=Al (L.getD i []) (Bs g l)/\D.getD j 0=D.getD i 0+1
 step: ∀i,i<L.length-> ∀l∈ls,∃j,j<L.length/\L.getD j []=Al (L.getD i []) (Bs g l)/\D.getD j 0<=D.getD i 0+1
theorem EB {g:List (List Int)} {ls:List Int} : ∀(f k:Nat) (L:List (List Int)) (D:List Int),3001<=f+k->Lv g ls k L D->k<=L.length->
  (∀i,i<k-> ∀l∈ls,∃j,j<L.length/\L.getD j []=Al (L.getD i []) (Bs g l)/\D.getD j 0<=D.getD i 0+1)->
  (Re g ls f k L D).2.2=true->(Re g ls f k L D).1.length<=3000->KS g ls (Re g ls f k L D).1 (Re g ls f k L D).2.1
 |0,k,L,D,hf,h,hkL,hc,hw,h3=>by
  simp only [Re] at h3⊢
  omega
 |f+1,k,L,D,hf,h,hkL,hc,hw,h3=>by
  simp only [Re] at hw h3⊢
  split
  ·rename_i hk
   rw [Ab hk] at hw h3
   obtain ⟨a1,⟨A,a2⟩,⟨A',a3⟩,a4⟩:=td (x:=L.getD k []) (d:=D.getD k 0) ls L D (λ_ h=>h) h hk rfl rfl
   have hlen:=h.len
   split
   ·rename_i L' D' he
    rw [he] at a1 a2 a3 a4
    simp only [he] at hw h3
    have a2:L'=L++A:=a2
    have a3:D'=D++A':=a3
    have a4:=a4 rfl
    dsimp only at a4
    have hLl:L.length<=L'.length:=by rw [a2,Ax];omega
    refine EB f (k+1) L' D' (by omega) ⟨a1.len,a1.pos,a1.mono,λhk1 j hj=>?_,a1.par,a1.zero⟩ (by omega) (λi hi l hl=>?_) hw h3
    ·have h1:D'.getD j 0<=D'.getD k 0+1:=a1.Aek (show k<L'.length by omega) j hj
     have h2:D'.getD k 0<=D'.getD (k+1) 0:=a1.mono k (k+1) (by omega) hk1
     omega
    ·by_cases e:i=k
     ·subst e
      obtain ⟨j,b1,b2,b3⟩:=a4 l hl
      refine ⟨j,b1,?_,?_⟩
      ·rw [b2,a2,Jt (by omega)]
      ·rw [show D'.getD i 0=D.getD i 0 by rw [a3,Jt (by omega)]];exact b3
     ·obtain ⟨j,b1,b2,b3⟩:=hc i (by omega) l hl
      refine ⟨j,by omega,?_,?_⟩
      ·rw [a2,Jt (by omega),Jt (by omega)];exact b2
      ·rw [a3,Jt (by omega),Jt (by omega)];exact b3
   ·rename_i L' D' he
    simp only [he] at hw
    cases hw
  ·rename_i hk
   exact ⟨h.len,h.pos,h.zero,h.par,λi hi=>hc i (by have hi:i<L.length:=hi;omega)⟩
theorem LC {p:PP} {s:List Int} (hv:Dy p=true) (hs:s.length<=20) (hr: ∀y∈s,0<=y/\y<p.1) (hw:(Kq p.2.2.1 s).2.2=true):
  KS p.2.2.1 (Aw p.2.2.1.length) (Kq p.2.2.1 s).1 (Kq p.2.2.1 s).2.1:=by
 have hb:=(LD hv hs hr).1.ok.wo
 refine EB 3001 0 [s] [0] (by omega) ⟨rfl,by simp,λi j iK hj=>?_,λ_ j hj=>?_,λj h0 hj=>?_,rfl⟩ (Iq _) (λi hi=>absurd hi (Dp _)) hw hb
 ·have:j=0:=by simpa using hj
  subst this
  have:i=0:=by omega
  subst this
  exact Nt _
 ·have:j=0:=by simpa using hj
  subst this
  simp
 ·have:j=0:=by simpa using hj
  omega
theorem GI {p:PP} (hV:Valid p) {x:List Int} (hx: ∀y∈x,0<=y/\y<p.1) {l:Int} (hl:l∈Aw p.2.2.1.length):
  -l∈Aw p.2.2.1.length/\Al (Al x (Bs p.2.2.1 l)) (Bs p.2.2.1 (-l))=x:=by
 obtain ⟨k,hk,Sa⟩:=Sm (Pn hl)
 have hg:=fm (hV.perm _ (Aj hk))
 have hgl:=hV.len _ (Aj hk)
 have hn:=hV.n
 have hp:Pm p.1.toNat (p.2.2.1[k]):=⟨by omega,hg⟩
 have key: ∀q r:List Int,Pm p.1.toNat q->Pm p.1.toNat r->Al q r=upto p.1.toNat->Al (Al x q) r=x:= λq r hq hr he=>by
  refine List.ext_getElem (by rw [Pe,Pe]) λi h1 h2=>?_
  have hxi:=hx _ (Aj h2)
  obtain ⟨xi,hxe⟩:=Qr hxi.1
  have hxn:xi<p.1.toNat:=by omega
  have e1:ap (Al q r) xi=ap (upto p.1.toNat) xi:=Mc (λz=>ap z xi) he
  rw [Lm hq hr hxn,kP hxn] at e1
  simp only [Al,Sv,hxe]
  have h3:=(hq.aL hxn).1
  have h4:=(hr.aL (hq.lt hxn)).1
  rw [h3,h4,e1]
 rcases Sa with rfl|rfl
 ·refine ⟨(Vd hk).2,?_⟩
  rw [Uq hk,Up hk]
  exact key _ _ hp hp.inv (mW hp)
 ·refine ⟨by rw [Int.neg_neg];exact (Vd hk).1,?_⟩
  rw [Int.neg_neg,Uq hk,Up hk]
  exact key _ _ hp.inv hp (dW hp)
structure eG (g:List (List Int)) (ls:List Int) (L:List (List Int)) (S:List Int->Prop) (d:List Int->Int):Prop where
 nn: ∀x∈L,0<=d x
 zero: ∀x∈L,d x=0↔S x
 step: ∀x∈L,∀l∈ls,d (Al x (Bs g l))<=d x+1
 down: ∀x∈L,0<d x-> ∃l∈ls,d (Al x (Bs g l))=d x-1
structure z6 (g:List (List Int)) (ls:List Int) (L:List (List Int)):Prop where
 next: ∀x∈L,∀l∈ls,Al x (Bs g l)∈L
 back: ∀x∈L,∀l∈ls,-l∈ls/\Al (Al x (Bs g l)) (Bs g (-l))=x
theorem eG.le {g:List (List Int)} {ls:List Int} {L:List (List Int)} {S:List Int->Prop} {d d':List Int->Int} (hc:z6 g ls L) (h:eG g ls L S d) (h':eG g ls L S d'):
  ∀(n:Nat) (x:List Int),x∈L->d' x=n->d x<=n
 |0,x,hx,e=>by
  have:=(h.zero x hx).2 ((h'.zero x hx).1 e)
  omega
 |n+1,x,hx,e=>by
  obtain ⟨l,hl,hd⟩:=h'.down x hx (by omega)
  obtain ⟨b1,b2⟩:=hc.back x hx l hl
  have h1:=eG.le hc h h' n _ (hc.next x hx l hl) (by omega)
  have h2:=h.step _ (hc.next x hx l hl) _ b1
  rw [b2] at h2
  omega
theorem eG.eq {g:List (List Int)} {ls:List Int} {L:List (List Int)} {S:List Int->Prop} {d d':List Int->Int} (hc:z6 g ls L) (h:eG g ls L S d) (h':eG g ls L S d') {x:List Int} (hx:x∈L):d x=d' x:=by
 have n1:=h.nn x hx
 have n2:=h'.nn x hx
 have h1:=eG.le hc h h' (d' x).toNat x hx (by omega)
 have h2:=eG.le hc h' h (d x).toNat x hx (by omega)
 omega
theorem MM {L:List (List Int)} (hn:L.Nodup) {j:Nat} (hj:j<L.length):L.idxOf (L.getD j [])=j:=by
 rw [Zd hj]
 exact hn.idxOf_getElem j hj
theorem YT {L:List (List Int)} {j:Nat} (hj:j<L.length):L.getD j []∈L:=by rw [Zd hj];exact Aj hj
theorem wE {p:PP} (hV:Valid p) {m:Nat} {L:List (List Int)} {D:List Int} (hb:az p m L D) (h:KS p.2.2.1 (Aw p.2.2.1.length) L D):z6 p.2.2.1 (Aw p.2.2.1.length) L where
 next x hx l hl:=by
  obtain ⟨i,hi,rfl⟩:=Cl.1 hx
  obtain ⟨j,h1,h2,_⟩:=h.step i hi l hl
  rw [Zd hi] at h2
  rw [<-h2]
  exact YT h1
 back x hx l hl:=GI hV (hb.row x hx) hl
noncomputable abbrev bq:Spec:=Ev (.pair tL (.pair tL .unit)) tL false true (λx=>short x.2.1/\Mk (List.length x.1) x.2.1) (λx=>Ee x.1 x.2.1)
theorem XB (xs is:List Int) (P:List Int->Prop):(((0:Int)<=(↑is.length:Int)/\(↑is.length:Int)<(↑Cr:Int)+(1:Int))/\(↑is.length:Int)=(↑is.length:Int)/\0=0/\(List.replicate (↑is.length:Int).toNat (Int.ofNat (nat_lit 0))).length=(List.replicate (↑is.length:Int).toNat (Int.ofNat (nat_lit 0))).length/\Df (λ(v3:Int×List Int×PUnit) (k4:Int×List Int×PUnit->Prop)=>Br (decide (v3.1<(↑is.length:Int))) (∃(y5:Int),idx is v3.1=some y5/\ ∃(y6:Int),idx xs y5=some y6/\((0:Int)<=v3.1/\v3.1<(↑v3.2.1.length:Int))/\0+v3.1.toNat<v3.2.1.length/\0=0/\v3.2.1.length=(v3.2.1.set (0+v3.1.toNat) y6).length/\k4 (IntKind.i64.wrap (v3.1+(1:Int)),v3.2.1.set (0+v3.1.toNat) y6,())) (P (List.take v3.2.1.length (List.drop 0 v3.2.1)))) ((0:Int),List.replicate (↑is.length:Int).toNat (Int.ofNat (nat_lit 0)),PUnit.unit))=fnW Ei (look []) bq Tryz.f80 (xs,is,()) P:=by kernel_rfl
theorem UG {p:List Int} (h:bB p):Jo p=true:=by
 refine Hq.2 ⟨h.pos,h.len,λj h1 h2=>?_⟩
 have:=h.row _ (Aj h2)
 exact ⟨by omega,by omega,λhm=>by
  obtain ⟨i,hi,e⟩:=Cl.1 hm
  have nz:i<j:=by rw [Dd] at hi;omega
  rw [List.getElem_take] at e
  exact (Ew.1 h.nodup i j (by omega) h2 nz) e⟩
theorem tK {p:PP} (hV:Valid p):DK p.1.toNat λg=>some g∈p.2.2.1.map some:=
 ⟨by have:=hV.n;omega,λg Sx=>by obtain ⟨g',e,h⟩:=ee (dF hV).2.2 _ Sx;cases e;exact h⟩
theorem Akh {p:PP} (hV:Valid p) {x:List Int} (h:Pm p.1.toNat x):Gk p.1 x=true:=by
 have:=hV.n
 have:=h.1
 exact Hq.2 ⟨by omega,UG h.2⟩
theorem Ai2 {p:PP} (_hV:Valid p) {x:List Int} (h:Gk p.1 x=true):Pm p.1.toNat x:=by
 obtain ⟨h1,h2⟩:=Hq.1 h
 exact ⟨by omega,fm h2⟩
theorem tu {a b:List Int} :Ch a b=true↔a=b:=Jz
theorem VC (xs is:List Int) (h:short is/\Mk xs.length is):fnW Ei (look []) bq Tryz.f80 (xs,is,()) (λ(z:List Int)=>z=Ee xs is):=by
 obtain ⟨h,hr⟩:=h
 unfold short at h
 have Pw:(Ee xs is).length=is.length:=uF xs is
 refine Eq.mp (XB xs is _) ⟨⟨by omega,by show (is.length:Int)<(4294967296:Int)+1;omega⟩,rfl,rfl,rfl,?_⟩
 refine Bf is.length (λv=>v.1) (λj v=>v.2.1.length=(Ee xs is).length/\v.2.1.take j=(Ee xs is).take j) rfl ⟨by rw [Pw];simp,by simp⟩ ?_
 rintro j ⟨i,ys,⟨⟩⟩ K hj hi ⟨h1,h2⟩ hK
 dsimp only at hi h1 h2⊢
 subst hi
 refine Br.dec (λhl=>?_) λhl=>?_
 ·have hl:j<is.length:=by omega
  have hx:=hr _ (Aj hl)
  obtain ⟨xn,hxe⟩:=Qr hx.1
  have Km:j<(Ee xs is).length:=by rw [Pw];exact hl
  have e:xs[xn]'(by omega)=(Ee xs is)[j]:=by
   simp only [Ee,Sv,Nm,hxe,Ai]
   rw [Zd]
  refine ⟨_,Bp hl,xs[xn]'(by omega),by rw [hxe];exact Bp (by omega),⟨by omega,by omega⟩,by rw [Ai,Bv];omega,rfl,by rw [Bi],?_⟩
  rw [Bg (by omega),Ai,Bv,e]
  refine hK hl _ rfl ⟨by rw [Bi];exact h1,?_⟩
  rw [Fv,List.take_set_of_le (by omega),h2,List.getElem?_set_self (by omega),Fv,Ac Km]
 ·have:j=is.length:=by omega
  subst this
  rw [Cf,<-Ap (l:=ys),h1,Pw,h2,<-Pw,Ap]
theorem xc:Sound Tryz.prog 80 bq:=
 Sound.Ev Db Bh mixed Tryz.func80 (by kernel_rfl) (by kernel_rfl) λx h=>VC x.1 x.2.1 h
theorem map_take {α β:Type} (f:α->β) {xs:List α} {j:Nat} (h:j<xs.length):(xs.take (j+1)).map f=(xs.take j).map f++ [f xs[j]]:=by
 rw [Fv,Ac h,Kb];rfl
theorem yg {α:Type} {P:α->Bool} : ∀(l:List α) (i:Nat),l.any P=true-> ∃k,∃h:k<l.length,Hs P l (i:Int)=((i+k:Nat):Int)/\P l[k]=true/\ ∀j (h:j<k),P (l[j]'(by omega))=false
 | [],i,h=>by simp at h
 |y::r,i,h=>by
  simp only [Hs]
  by_cases hy:P y=true
  ·rw [Ab hy]
   exact ⟨0,by simp,rfl,hy,λj hj=>absurd hj (Dp _)⟩
  ·rw [Ag hy]
   have hr:r.any P=true:=by
    rw [List.any_cons,Ka] at h
    exact h.resolve_left hy
   obtain ⟨k,hk,h1,h2,h3⟩:=yg r (i+1) hr
   refine ⟨k+1,by simpa using hk,?_,h2,λj hj=>?_⟩
   ·rw [show ((i:Int)+1)=((i+1:Nat):Int) by push_cast;rfl,h1]
    congr 1
    omega
   ·cases j with
    |zero=>exact Ii _|>.mp hy
    |succ j=>exact h3 j (by omega)
theorem j4 {s q t:List Int} (h:Mk s.length t):Ee (Al s q) t=Al (Ee s t) q:=by
 unfold Ee Al
 rw [List.map_map]
 refine Ek λy hy=>?_
 obtain ⟨h1,h2⟩:=h y hy
 have hy':y.toNat<s.length:=by omega
 show Nm (s.map (Nm q)) y=Nm q (Nm s y)
 unfold Nm
 rw [Zd (by rw [Di];exact hy'),Sv,Zd hy']
 try rfl
theorem VJ {n:Nat} {t:List Int} (h: ∀y∈t,0<=y/\y<(n:Int)):Ee (upto n) t=t:=by
 unfold Ee
 refine (Ek λy hy=>?_).trans (List.map_id t)
 obtain ⟨h1,h2⟩:=h y hy
 obtain ⟨k,rfl⟩:=Qr h1
 have hk:k<n:=by omega
 show Nm (upto n) (k:Int)=(k:Int)
 unfold Nm
 rw [Ai,Ak,jA hk]
 rfl
noncomputable def me (p:PP) (t:List Int):List (List Int):=(Kq p.2.2.1 t).1
noncomputable def Aam (p:PP) (t:List Int):List Int:=(Kq p.2.2.1 t).2.1
theorem JJ {p:PP} {t:List Int} (ht:Gh p t=true): ∀y∈t,0<=y/\y<((p.1.toNat:Nat):Int):= λy hy=>by
 have h1:=(Ji ht).2 y hy
 have:=(valid (Ry.1 ht).1).n
 omega
theorem VI {p:PP} {t:List Int} (ht:Gh p t=true):(me p t).getD 0 []=t/\t∈me p t:=by
 obtain ⟨_,A,h⟩:=LD (Ry.1 ht).1 (Ji ht).1 (Ji ht).2
 have h:me p t=t::A:=h
 rw [h]
 exact ⟨rfl,by simp⟩
def known (row:Row):List (List Int):=row.filterMap id
mutual
def kB (n:Nat):Nat->Nat->List Int->Co×Co->Co×Co
 |0,_,_,s=>s
 |f+1,k,p,s=>if Hy s.2 (n-k) k p=true then s else
   ((known (s.2.getD k [])).map λu=>Al u p).foldl (λs q=>fW n f k q s) (s.1.set k (s.1.getD k []++ [some p]),s.2)
def fW (n:Nat):Nat->Nat->List Int->Co×Co->Co×Co
 |0,_,_,s=>s
 |f+1,k,p,s=>match (s.2.getD k []).getD (ap p k) none with
  |some t=>kB n f (k+1) (Al p (Bk t)) s
  |none=>((s.1.getD k []).map λo=>Al p (o.getD [])).foldl (λs q=>fW n f k q s) (s.1,s.2.set k ((s.2.getD k []).set (ap p k) (some p)))
end
structure Part (n k:Nat) (s:Co×Co):Prop where
 l1:s.1.length=n
 l2:s.2.length=n
 pg:PG n k (s.1.getD k [])
 row:Uy n k (s.1.getD k []) (s.2.getD k [])
 comp:kA n (n-(k+1)) (k+1) s
 gb:GBf (n-(k+1)) (k+1) s
 sub: ∀g,some g∈s.1.getD (k+1) []->Gn n (s.1.getD k []) g
def Hd (n k:Nat) (s:Co×Co) (q:List Int):Prop:= ∃t,(s.2.getD k []).getD (ap q k) none=some t/\Hy s.2 (n-(k+1)) (k+1) (Al q (Bk t))=true
structure cw (n k:Nat) (s s':Co×Co):Prop where
 grow:Vw k s s'
 same:s'.1.getD k []=s.1.getD k []
 part:Part n k s'
 Ez: ∀q,Pm n q->Fx k q->Hd n k s q->Hd n k s' q
 new: ∀y t,(s'.2.getD k []).getD y none=some t->(s.2.getD k []).getD y none=some t\/ ∀g,some g∈s.1.getD k []->Hd n k s' (Al t g)
theorem cw.refl {n k:Nat} {s:Co×Co} (h:Part n k s):cw n k s s:=⟨Vw.refl _ _,rfl,h,λ_ _ _ h=>h,λ_ _ h=> .inl h⟩
theorem Part.tg {n k:Nat} {s:Co×Co} (h:Part n k s) (hk:k<n) {y:Nat} {t g:List Int} (ht:(s.2.getD k []).getD y none=some t) (hg:some g∈s.1.getD k []):Pm n (Al t g)/\Fx k (Al t g)/\ap (Al t g) k=ap g y:=by
 obtain ⟨t1,t2,t3,t4⟩:=h.row.rt _ _ ht
 obtain ⟨g',e,g1,g2⟩:=h.pg _ hg
 cases e
 exact ⟨t1.comp g1,Fx.comp t1 g1 t2 g2 (by omega),by rw [Lm t1 g1 hk,t3]⟩
theorem cw.trans {n k:Nat} {a b c:Co×Co} (hk:k<n) (h:cw n k a b) (h':cw n k b c):cw n k a c:=by
 refine ⟨h.grow.trans h'.grow (Ao _),h'.same.trans h.same,h'.part,λq h1 h2 h3=>h'.Ez q h1 h2 (h.Ez q h1 h2 h3),λy t e=>?_⟩
 rcases h'.new y t e with e1|e1
 ·rcases h.new y t e1 with e2|e2
  ·exact .inl e2
  ·refine .inr λg hg=>?_
   obtain ⟨p1,p2,_⟩:=h.part.tg hk e1 (by rw [h.same];exact hg)
   exact h'.Ez _ p1 p2 (e2 g hg)
 ·exact .inr λg hg=>e1 g (by rw [h.same];exact hg)
theorem Part.pms {n k:Nat} {s:Co×Co} (h1:1<=n) (h2:n<=20) (h:Part n k s):DK n λg=>some g∈s.1.getD k []:=⟨⟨h1,h2⟩,λg hg=>by obtain ⟨g',e,h,_⟩:=h.pg _ hg;cases e;exact h⟩
theorem Part.v {n k:Nat} {s:Co×Co} (h:Part n k s):V n (n-(k+1)) (k+1) s:=⟨h.l1,h.l2,h.comp,h.gb⟩
theorem xP (row:Row):wg row+Lq row=row.length:=by
 induction row with
 |nil=>rfl
 |cons o r ih=>
  unfold wg Lq at*
  cases o<;>simp [List.countP_cons]<;>omega
theorem NK {a b:Row} (hl:b.length=a.length) (h: ∀y t,a.getD y none=some t->b.getD y none=some t):Lq b<=Lq a:=by
 have h1:=(p8 a b hl.symm h).1
 have h2:=xP a
 have h3:=xP b
 omega
def SG (n k:Nat):Nat:=(n-k)*(n+2)+(n+1)
def mJ (n k:Nat) (s:Co×Co):Nat:=(n-k)*(n+2)+Lq (s.2.getD k [])
theorem cw.mu {n k:Nat} {s s':Co×Co} (h:cw n k s s'):mJ n k s'<=mJ n k s:=by
 have:=NK (h.grow.Abg k) (h.grow.vU k)
 unfold mJ;omega
theorem jO {n k f:Nat} (hk:k<n) {gs:List PO}
  (IH: ∀q s,Part n k s->s.1.getD k []=gs->Pm n q->Fx k q->Gn n gs q->mJ n k s<=f->(cw n k s (fW n f k q s)/\Hd n k (fW n f k q s) q)/\ ∀f',f<=f'->fW n f' k q s=fW n f k q s):
  ∀(qs:List (List Int)) (s:Co×Co),Part n k s->s.1.getD k []=gs->(∀q∈qs,Pm n q/\Fx k q/\Gn n gs q)->mJ n k s<=f->
   cw n k s (qs.foldl (λs q=>fW n f k q s) s)/\(∀q∈qs,Hd n k (qs.foldl (λs q=>fW n f k q s) s) q)/\ ∀f',f<=f'->qs.foldl (λs q=>fW n f' k q s) s=qs.foldl (λs q=>fW n f k q s) s
 | [],s,hp,_,_,_=>⟨cw.refl hp,λq hq=>(by cases hq),λ_ _=>rfl⟩
 |q::qs,s,hp,hg,hq,hm=>by
  obtain ⟨q1,q2,q3⟩:=hq q (by simp)
  obtain ⟨⟨a1,a2⟩,a3⟩:=IH q s hp hg q1 q2 q3 hm
  obtain ⟨b1,b2,b3⟩:=jO hk IH qs (fW n f k q s) a1.part (a1.same.trans hg) (λq' h=>hq q' (As _ h)) (Ix a1.mu hm)
  simp only [Ih]
  refine ⟨a1.trans hk b1,λq' kH=>?_,λf' hf=>?_⟩
  ·rcases Be.1 kH with rfl|kH
   ·exact b1.Ez _ q1 q2 a2
   ·exact b2 q' kH
  ·rw [a3 f' hf];exact b3 f' hf
theorem FE {n k:Nat} (h1:1<=n) (h2:n<=20) (hk:k<n) {s s':Co×Co} (hs:kA n (n-(k+1)) (k+1) s) (FO:kA n (n-(k+1)) (k+1) s') (hg:Vw k s s') {x:List Int} (hx:Pm n x) (hf:Fx (k+1) x)
  (h:Hy s.2 (n-(k+1)) (k+1) x=true):Hy s'.2 (n-(k+1)) (k+1) x=true:=
 (Ue h1 h2 _ (k+1) s' (by omega) FO x hx hf).2 (((Ue h1 h2 _ (k+1) s (by omega) hs x hx hf).1 h).mono λg ya=>hg.xT _ _ ya)
theorem kc {row:Row} {u:List Int} :u∈known row↔ ∃y,row.getD y none=some u:=by
 unfold known
 rw [List.mem_filterMap]
 constructor
 ·rintro ⟨o,ho,e⟩
  obtain ⟨y,hy,rfl⟩:=Cl.1 ho
  exact ⟨y,by rw [Ak,Ac hy];exact e⟩
 ·rintro ⟨y,hy⟩
  have hl:=nu hy
  rw [Ak,Ac hl] at hy
  exact ⟨row[y],Aj hl,hy⟩
theorem QT {n:Nat} (h1:1<=n) (h2:n<=20): ∀f:Nat,
  (∀k p s,k<=n->V n (n-k) k s->Pm n p->Fx k p->SG n k<=f->XS n (n-k) k s p (kB n f k p s)/\ ∀f',f<=f'->kB n f' k p s=kB n f k p s)/\
  (∀k q s,k<n->Part n k s->Pm n q->Fx k q->Gn n (s.1.getD k []) q->mJ n k s<=f->(cw n k s (fW n f k q s)/\Hd n k (fW n f k q s) q)/\ ∀f',f<=f'->fW n f' k q s=fW n f k q s)
 |0=>⟨λk p s _ _ _ _ h=>by unfold SG at h;omega,λk q s hk _ _ _ _ h=>by
   unfold mJ at h
   have:1*(n+2)<=(n-k)*(n+2):=Em _ (by omega)
   omega⟩
 |f+1=>by
  obtain ⟨ihG,ihP⟩:=QT h1 h2 f
  refine ⟨λk p s hk hv hp hf hmu=>?_,λk q s hk cq hq hf KN hmu=>?_⟩
  ·
   have FR: ∀f',f+1<=f'-> ∃KJ,f'=KJ+1/\f<=KJ:= λf' h=>⟨f'-1,by omega,by omega⟩
   by_cases hh:Hy s.2 (n-k) k p=true
   ·have e: ∀f',kB n (f'+1) k p s=s:= λf'=>by simp only [kB];rw [Ab hh]
    rw [e f]
    refine ⟨⟨hv,Vw.refl _ _,(Ue h1 h2 _ k s (by omega) hv.2.2.1 p hp hf).1 hh,λo ho=> .inl ho⟩,λf' KL=>?_⟩
    obtain ⟨KJ,rfl,_⟩:=FR f' KL
    exact e KJ
   have ZK:k<n:=by
    refine Nat.lt_of_le_of_ne hk λe=>hh ?_
    subst e
    rw [Nat.sub_self];rfl
   obtain ⟨v1,v2,hc,xY⟩:=hv
   have l4:=hc
   have Axi:=xY
   obtain ⟨m,hm⟩: ∃m,n-k=m+1:=⟨n-k-1,by omega⟩
   have FM:n-(k+1)=m:=by omega
   rw [hm] at hc xY
   obtain ⟨c1,c2,c3⟩:=hc
   generalize ny:s.1.getD k []++ [some p]=gs
   have al:some p∈gs:=by rw [<-ny];simp
   have Px: ∀o∈s.1.getD k [],o∈gs:= λo ho=>by rw [<-ny];exact Bc _ ho
   have hg:PG n k gs:= λo ho=>by
    rw [<-ny] at ho
    rcases Bb.1 ho with ho|ho
    ·exact c2.pg o ho
    ·rw [Ae] at ho;exact ⟨p,ho,hp,hf⟩
   have hS:DK n λg=>some g∈gs:=⟨⟨h1,h2⟩,λg Sx=>by obtain ⟨g',e,h,_⟩:=hg _ Sx;cases e;exact h⟩
   have uT: ∀i,(s.1.set k gs).getD i []=if i=k then gs else s.1.getD i []:= λi=>by
    rw [Kx]
    by_cases e:k=i
    ·subst e;rw [Ab ⟨rfl,by omega⟩,Ab rfl]
    ·rw [Ag (λhh=>e hh.1),Ag (Ge e)]
   have ye: ∀i,k+1<=i->(s.1.set k gs).getD i []=s.1.getD i []/\s.2.getD i []=s.2.getD i []:= λi hi=>⟨by rw [uT i,Ag (by omega)],rfl⟩
   have FN:Part n k (s.1.set k gs,s.2):=by
    refine ⟨by simpa using v1,v2,?_,?_,?_,?_,λg Sx=>?_⟩
    ·show PG n k ((s.1.set k gs).getD k []);rw [uT k,Ab rfl];exact hg
    ·show Uy n k ((s.1.set k gs).getD k []) _
     rw [uT k,Ab rfl]
     exact ⟨c2.rl,c2.r0,λy t e=>⟨(c2.rt y t e).1,(c2.rt y t e).2.1,(c2.rt y t e).2.2.1,(c2.rt y t e).2.2.2.mono λg hg=>Px _ hg⟩⟩
    ·rw [FM];exact Uo m (k+1) ye c1
    ·rw [FM];exact bL m (k+1) ye xY.1
    ·have Sx:some g∈(s.1.set k gs).getD (k+1) []:=Sx
     rw [(ye (k+1) (Ao _)).1] at Sx
     show Gn n ((s.1.set k gs).getD k []) g
     rw [uT k,Ab rfl]
     exact (c3 g Sx).mono λg hg=>Px _ hg
   have jU:((s.1.set k gs,s.2):Co×Co).1.getD k []=gs:=by show (s.1.set k gs).getD k []=gs;rw [uT k,Ab rfl]
   have m5:Vw k s (s.1.set k gs,s.2):=by
    refine ⟨by simp,rfl,λi hi=>⟨?_,rfl⟩,λi o ho=>?_,λi y t e=>e,λi=>rfl⟩
    ·show (s.1.set k gs).getD i []=_;rw [uT i,Ag (by omega)]
    ·show o∈(s.1.set k gs).getD i []
     rw [uT i]
     split
     ·rename_i hi;subst hi;exact Px o ho
     ·exact ho
   have hmP:mJ n k (s.1.set k gs,s.2)<=f:=by
    have hn:=iZ (s.2.getD k [])
    have hr:=c2.rl
    unfold mJ
    unfold SG at hmu
    show (n-k)*(n+2)+Lq (s.2.getD k [])<=f
    omega
   have UA: ∀q∈(known (s.2.getD k [])).map (λu=>Al u p),Pm n q/\Fx k q/\Gn n gs q:= λq hq=>by
    obtain ⟨u,hu,rfl⟩:=Bj.1 hq
    obtain ⟨y,hy⟩:=kc.1 hu
    obtain ⟨t1,t2,t3,t4⟩:=c2.rt _ _ hy
    exact ⟨t1.comp hp,Fx.comp t1 hp t2 hf hk, .mul (t4.mono λg hg=>Px _ hg) al⟩
   obtain ⟨r1,r2,r3⟩:=jO ZK (gs:=gs) (λq s nB Sx a b c d=>ihP k q s ZK nB a b (by rw [Sx];exact c) d) ((known (s.2.getD k [])).map λu=>Al u p) (s.1.set k gs,s.2) FN jU UA hmP
   have e: ∀f',kB n (f'+1) k p s=((known (s.2.getD k [])).map λu=>Al u p).foldl (λs q=>fW n f' k q s) (s.1.set k gs,s.2):= λf'=>by simp only [kB];rw [Ag hh,ny]
   refine ⟨?_,λf' KL=>by obtain ⟨KJ,rfl,ZC⟩:=FR f' KL;rw [e KJ,e f];exact r3 KJ ZC⟩
   rw [e f]
   generalize ((known (s.2.getD k [])).map λu=>Al u p).foldl (λs q=>fW n f k q s) (s.1.set k gs,s.2)=s' at r1 r2
   have nB:=r1.part
   have MD:s'.1.getD k []=gs:=r1.same.trans jU
   have hHd: ∀y t g,(s'.2.getD k []).getD y none=some t->some g∈gs->Hd n k s' (Al t g):= λy t g ht ya=>by
    rcases r1.new y t ht with e1|e1
    ·have e1:(s.2.getD k []).getD y none=some t:=e1
     by_cases Tp:g=p
     ·subst Tp
      exact r2 _ (Bj.2 ⟨t,kc.2 ⟨y,e1⟩,rfl⟩)
     ·have XN:some g∈s.1.getD k []:=by
       rw [<-ny] at ya
       rcases Bb.1 ya with h|h
       ·exact h
       ·rw [Ae] at h;cases h;exact absurd rfl Tp
      obtain ⟨x1,x2,x3⟩:=FN.tg ZK e1 (by rw [jU];exact ya)
      refine r1.Ez _ x1 x2 ?_
      obtain ⟨t',yd⟩:=To.1 (c2.cl y t g e1 XN)
      refine ⟨t',by show (s.2.getD k []).getD _ none=_;rw [x3];exact yd,?_⟩
      show Hy s.2 (n-(k+1)) (k+1) _=true
      rw [FM]
      exact c2.sg y t g t' e1 XN yd
    ·exact e1 g (by rw [jU];exact ya)
   have Aix:Lvl n k gs (s'.2.getD k []) (λq=>Hy s'.2 m (k+1) q=true):=by
    have hr:=nB.row
    rw [MD] at hr
    refine ⟨hg,hr.rl,hr.r0,hr.rt,λy t g ht ya=>?_,λy t g t' ht ya yd=>?_⟩
    ·obtain ⟨t',yd,_⟩:=hHd y t g ht ya
     obtain ⟨_,_,x3⟩:=nB.tg ZK ht (by rw [MD];exact ya)
     rw [<-x3,yd];simp
    ·obtain ⟨t'',Anu,hx⟩:=hHd y t g ht ya
     obtain ⟨_,_,x3⟩:=nB.tg ZK ht (by rw [MD];exact ya)
     rw [x3,yd] at Anu
     cases Anu
     rw [<-FM];exact hx
   have FG:kA n (m+1) k s':=⟨by rw [<-FM];exact nB.comp,by rw [MD];exact Aix,λg ya=>nB.sub g ya⟩
   have iL:Gn n (s'.1.getD k []) p:=by rw [MD];exact cn.one hS al
   have tT:=m5.trans r1.grow (Ao _)
   rw [hm]
   refine ⟨⟨nB.l1,nB.l2,FG,by rw [<-FM];exact nB.gb,?_⟩,tT,iL,λo ho=>?_⟩
   ·have hold:=xY.2
    obtain ⟨p1,p2⟩:=uH tT.Abg tT.vU (m+1) k
    have Ik:j5 s.2 (m+1) k≠j5 s'.2 (m+1) k:= λe=>by
     have:=cI (m+1) k p (p2 e)
     rw [(Ue h1 h2 (m+1) k s' (by omega) FG p hp hf).2 iL] at this
     rw [hm] at hh
     exact hh this.symm
    rw [MD,<-ny,Ax,Bw]
    omega
   ·rw [MD,<-ny] at ho
    rcases Bb.1 ho with ho|ho
    ·exact .inl ho
    ·rw [Ae] at ho;exact .inr ho
  ·
   have FR: ∀f',f+1<=f'-> ∃KJ,f'=KJ+1/\f<=KJ:= λf' h=>⟨f'-1,by omega,by omega⟩
   have hS:=cq.pms h1 h2
   have hmul:(n-k)*(n+2)=(n-(k+1))*(n+2)+(n+2):=by
    rw [show n-k=n-(k+1)+1 by omega,Dc,Sf]
   cases Kp:(s.2.getD k []).getD (ap q k) none with
   |some t=>
    have e: ∀f',fW n (f'+1) k q s=kB n f' (k+1) (Al q (Bk t)) s:= λf'=>by simp only [fW];rw [Kp]
    obtain ⟨t1,t2,t3,t4⟩:=cq.row.rt _ _ Kp
    have hx:=hq.comp t1.inv
    have hfx:=Fx.div hq t1 hf t2 hk t3
    have hxg:Gn n (s.1.getD k []) (Al q (Bk t)):=cn.comp hS KN (cn.sC hS t4)
    obtain ⟨a1,a2⟩:=ihG (k+1) _ s (by omega) cq.v hx hfx (by unfold SG;unfold mJ at hmu;omega)
    refine ⟨?_,λf' KL=>by obtain ⟨KJ,rfl,ZC⟩:=FR f' KL;rw [e KJ,e f];exact a2 KJ ZC⟩
    rw [e f]
    generalize kB n f (k+1) (Al q (Bk t)) s=s' at a1
    obtain ⟨av,ag,ai,ags⟩:=a1
    obtain ⟨w1,w2,w3,w4⟩:=av
    obtain ⟨lo1,lo2⟩:=ag.low k (by omega)
    have At0:Part n k s':=⟨w1,w2,by rw [lo1];exact cq.pg,by rw [lo1,lo2];exact cq.row,w3,w4,λg ya=>by
     rw [lo1]
     rcases ags _ ya with h|h
     ·exact cq.sub g h
     ·cases h;exact hxg⟩
    refine ⟨⟨ag.Ip (by omega),lo1,At0,λq' q1 q2 ⟨t',e1,e2⟩=>?_,λy t e=> .inl (by rw [lo2] at e;exact e)⟩,t,by rw [lo2];exact Kp,?_⟩
    ·obtain ⟨u1,u2,u3,_⟩:=cq.row.rt _ _ e1
     exact ⟨t',by rw [lo2];exact e1,FE h1 h2 hk cq.comp w3 (ag.Ip (by omega)) (q1.comp u1.inv) (Fx.div q1 u1 q2 u2 hk u3) e2⟩
    ·exact (Ue h1 h2 _ (k+1) s' (by omega) w3 _ hx hfx).2 ai
   |none=>
    have e: ∀f',fW n (f'+1) k q s=((s.1.getD k []).map λo=>Al q (o.getD [])).foldl (λs q=>fW n f' k q s) (s.1,s.2.set k ((s.2.getD k []).set (ap q k) (some q))):= λf'=>by simp only [fW];rw [Kp]
    have hy:ap q k<n:=hq.lt hk
    have hrl:=cq.row.rl
    have hyk:ap q k≠k:= λh=>by rw [h,cq.row.r0] at Kp;cases Kp
    have w7:=cq.l2
    generalize qI:(s.2.getD k []).set (ap q k) (some q)=Xb
    have eE: ∀y,Xb.getD y none=if ap q k=y then some q else (s.2.getD k []).getD y none:= λy=>by
     rw [<-qI,Kx]
     by_cases h:ap q k=y
     ·rw [Ab ⟨h,by omega⟩,Ab h]
     ·rw [Ag λhh=>h hh.1,Ag h]
    have s12: ∀i,(s.2.set k Xb).getD i []=if i=k then Xb else s.2.getD i []:= λi=>by
     rw [Kx]
     by_cases e:k=i
     ·subst e;rw [Ab ⟨rfl,by omega⟩,Ab rfl]
     ·rw [Ag (λhh=>e hh.1),Ag (Ge e)]
    have ye: ∀i,k+1<=i->s.1.getD i []=s.1.getD i []/\(s.2.set k Xb).getD i []=s.2.getD i []:= λi hi=>⟨rfl,by rw [s12 i,Ag (by omega)]⟩
    have ZH:((s.1,s.2.set k Xb):Co×Co).2.getD k []=Xb:=by show (s.2.set k Xb).getD k []=Xb;rw [s12 k,Ab rfl]
    have FN:Part n k (s.1,s.2.set k Xb):=by
     refine ⟨cq.l1,by simpa using w7,cq.pg,?_,Uo _ (k+1) ye cq.comp,bL _ (k+1) ye cq.gb,cq.sub⟩
     rw [ZH]
     refine ⟨by rw [<-qI,Bi];exact hrl,by rw [eE k,Ag hyk];exact cq.row.r0,λy t e=>?_⟩
     rw [eE y] at e
     split at e
     ·rename_i h
      cases e
      exact ⟨hq,hf,h,KN⟩
     ·exact cq.row.rt y t e
    have m5:Vw k s (s.1,s.2.set k Xb):=by
     refine ⟨rfl,by simp,λi hi=>⟨rfl,?_⟩,λi o ho=>ho,λi y t et=>?_,λi=>?_⟩
     ·show (s.2.set k Xb).getD i []=_;rw [s12 i,Ag (by omega)]
     ·show ((s.2.set k Xb).getD i []).getD y none=some t
      rw [s12 i]
      split
      ·rename_i hi
       subst hi
       rw [eE y]
       split
       ·rename_i h;rw [<-h,Kp] at et;cases et
       ·exact et
      ·exact et
     ·show ((s.2.set k Xb).getD i []).length=_
      rw [s12 i]
      split
      ·rename_i hi;subst hi;rw [<-qI,Bi]
      ·rfl
    have hnn:Lq Xb+1=Lq (s.2.getD k []):=by rw [<-qI];exact pD Kp (by omega)
    have hmP:mJ n k (s.1,s.2.set k Xb)<=f:=by
     unfold mJ
     rw [ZH]
     unfold mJ at hmu
     omega
    have UA: ∀x∈(s.1.getD k []).map (λo=>Al q (o.getD [])),Pm n x/\Fx k x/\Gn n (s.1.getD k []) x:= λx hx=>by
     obtain ⟨o,ho,rfl⟩:=Bj.1 hx
     obtain ⟨g,rfl,g1,g2⟩:=cq.pg o ho
     exact ⟨hq.comp g1,Fx.comp hq g1 hf g2 (by omega), .mul KN ho⟩
    obtain ⟨r1,r2,r3⟩:=jO hk (gs:=s.1.getD k []) (λq s nB Sx a b c d=>ihP k q s hk nB a b (by rw [Sx];exact c) d) ((s.1.getD k []).map λo=>Al q (o.getD [])) (s.1,s.2.set k Xb) FN rfl UA hmP
    have e': ∀f',fW n (f'+1) k q s=((s.1.getD k []).map λo=>Al q (o.getD [])).foldl (λs q=>fW n f' k q s) (s.1,s.2.set k Xb):= λf'=>by rw [e f',qI]
    refine ⟨?_,λf' KL=>by obtain ⟨KJ,rfl,ZC⟩:=FR f' KL;rw [e' KJ,e' f];exact r3 KJ ZC⟩
    rw [e' f]
    generalize ((s.1.getD k []).map λo=>Al q (o.getD [])).foldl (λs q=>fW n f k q s) (s.1,s.2.set k Xb)=s' at r1 r2
    have FQ:s'.1.getD k []=s.1.getD k []:=r1.same
    have Aiq: ∀x,Pm n x->Fx k x->Hd n k s x->Hd n k (s.1,s.2.set k Xb) x:= λx x1 x2 ⟨t',e1,e2⟩=>by
     obtain ⟨u1,u2,u3,_⟩:=cq.row.rt _ _ e1
     exact ⟨t',m5.vU k _ _ e1,FE h1 h2 hk cq.comp FN.comp m5 (x1.comp u1.inv) (Fx.div x1 u1 x2 u2 hk u3) e2⟩
    have hqq:(s'.2.getD k []).getD (ap q k) none=some q:=r1.grow.vU k _ _ (by rw [ZH,eE,Ab rfl])
    refine ⟨⟨m5.trans r1.grow (Ao _),FQ,r1.part,λx x1 x2 x3=>r1.Ez x x1 x2 (Aiq x x1 x2 x3),λy t ht=>?_⟩,q,hqq,?_⟩
    ·rcases r1.new y t ht with e1|e1
     ·rw [ZH,eE y] at e1
      split at e1
      ·cases e1
       refine .inr λg hg=>r2 _ (Bj.2 ⟨some g,hg,rfl⟩)
      ·exact .inl e1
     ·exact .inr e1
    ·rw [mW hq]
     exact (Ue h1 h2 _ (k+1) s' (by omega) r1.part.comp _ (Pm.id h1 h2) (λi hi=>kP (by omega))).2 .id
theorem QR {n f k:Nat} {p:List Int} {s:Co×Co} :kB n (f+1) k p s=if Hy s.2 (n-k) k p=true then s else
  ((known (s.2.getD k [])).map λu=>Al u p).foldl (λs q=>fW n f k q s) (s.1.set k (s.1.getD k []++ [some p]),s.2):=by simp only [kB]
theorem QS {n f k:Nat} {p:List Int} {s:Co×Co} :fW n (f+1) k p s=match (s.2.getD k []).getD (ap p k) none with
  |some t=>kB n f (k+1) (Al p (Bk t)) s
  |none=>((s.1.getD k []).map λo=>Al p (o.getD [])).foldl (λs q=>fW n f k q s) (s.1,s.2.set k ((s.2.getD k []).set (ap p k) (some p))):=by simp only [fW]<;>rfl
theorem Ahd {n k:Nat} (h2:n<=20):(n-k)*(n+2)<=440:=Ix (dB (show n-k<=20 by omega) (show n+2<=22 by omega)) (by omega)
theorem Aaq {n k f:Nat} (h2:n<=20) (hf:500<=f):SG n k<=f:=by have:=Ahd (k:=k) h2;unfold SG;omega
theorem Ajq {n k f:Nat} {s:Co×Co} (h2:n<=20) (hp:Part n k s) (hf:500<=f):mJ n k s<=f:=by
 have:=Ahd (k:=k) h2
 have h:=iZ (s.2.getD k [])
 have hr:=hp.row.rl
 unfold mJ;omega
theorem Ahr {n k:Nat} (h1:1<=n) (h2:n<=20) {p:List Int} {s:Co×Co} (hk:k<=n) (hv:V n (n-k) k s) (hp:Pm n p) (hf:Fx k p):XS n (n-k) k s p (kB n 1000 k p s):=
 ((QT h1 h2 1000).1 k p s hk hv hp hf (Aaq h2 (by omega))).1
def iB (n k:Nat) (qs:List (List Int)) (s:Co×Co):Co×Co:=qs.foldl (λs q=>fW n 1000 k q s) s
theorem tD {n k:Nat} (h1:1<=n) (h2:n<=20) (hk:k<n) {qs:List (List Int)} {s:Co×Co} (hp:Part n k s) (hq: ∀q∈qs,Pm n q/\Fx k q/\Gn n (s.1.getD k []) q):
  cw n k s (iB n k qs s)/\qs.foldl (λs q=>fW n 999 k q s) s=iB n k qs s:=by
 have h:=jO hk (f:=999) (gs:=s.1.getD k []) (λq s' nB Sx a b c d=>(QT h1 h2 999).2 k q s' hk nB a b (by rw [Sx];exact c) d) qs s hp rfl hq (Ajq h2 hp (by omega))
 have e:=h.2.2 1000 (by omega)
 refine ⟨?_,e.symm⟩
 unfold iB
 rw [e];exact h.1
theorem tE {n k:Nat} {qs:List (List Int)} {s:Co×Co} {j:Nat} (hj:j<qs.length):iB n k (qs.take (j+1)) s=fW n 1000 k qs[j] (iB n k (qs.take j) s):=by
 unfold iB
 rw [Fv,Ac hj,Lp,Vt]
 rfl
theorem DM {n k:Nat} (h1:1<=n) (h2:n<=20) {p:List Int} {s:Co×Co} (ZK:k<n) (hv:V n (n-k) k s) (hp:Pm n p) (hf:Fx k p):
  Part n k (s.1.set k (s.1.getD k []++ [some p]),s.2)/\ ∀q∈(known (s.2.getD k [])).map (λu=>Al u p),Pm n q/\Fx k q/\Gn n ((s.1.set k (s.1.getD k []++ [some p])).getD k []) q:=by
 obtain ⟨v1,v2,hc,xY⟩:=hv
 obtain ⟨m,hm⟩: ∃m,n-k=m+1:=⟨n-k-1,by omega⟩
 have FM:n-(k+1)=m:=by omega
 rw [hm] at hc xY
 obtain ⟨c1,c2,c3⟩:=hc
 generalize ny:s.1.getD k []++ [some p]=gs
 have al:some p∈gs:=by rw [<-ny];simp
 have Px: ∀o∈s.1.getD k [],o∈gs:= λo ho=>by rw [<-ny];exact Bc _ ho
 have hg:PG n k gs:= λo ho=>by
  rw [<-ny] at ho
  rcases Bb.1 ho with ho|ho
  ·exact c2.pg o ho
  ·rw [Ae] at ho;exact ⟨p,ho,hp,hf⟩
 have uT: ∀i,(s.1.set k gs).getD i []=if i=k then gs else s.1.getD i []:= λi=>by
  rw [Kx]
  by_cases e:k=i
  ·subst e;rw [Ab ⟨rfl,by omega⟩,Ab rfl]
  ·rw [Ag (λhh=>e hh.1),Ag (Ge e)]
 have ye: ∀i,k+1<=i->(s.1.set k gs).getD i []=s.1.getD i []/\s.2.getD i []=s.2.getD i []:= λi hi=>⟨by rw [uT i,Ag (by omega)],rfl⟩
 refine ⟨⟨by simpa using v1,v2,?_,?_,?_,?_,λg Sx=>?_⟩,λq hq=>?_⟩
 ·show PG n k ((s.1.set k gs).getD k []);rw [uT k,Ab rfl];exact hg
 ·show Uy n k ((s.1.set k gs).getD k []) _
  rw [uT k,Ab rfl]
  exact ⟨c2.rl,c2.r0,λy t e=>⟨(c2.rt y t e).1,(c2.rt y t e).2.1,(c2.rt y t e).2.2.1,(c2.rt y t e).2.2.2.mono λg hg=>Px _ hg⟩⟩
 ·rw [FM];exact Uo m (k+1) ye c1
 ·rw [FM];exact bL m (k+1) ye xY.1
 ·have Sx:some g∈(s.1.set k gs).getD (k+1) []:=Sx
  rw [(ye (k+1) (Ao _)).1] at Sx
  show Gn n ((s.1.set k gs).getD k []) g
  rw [uT k,Ab rfl]
  exact (c3 g Sx).mono λg hg=>Px _ hg
 ·rw [uT k,Ab rfl]
  obtain ⟨u,hu,rfl⟩:=Bj.1 hq
  obtain ⟨y,hy⟩:=kc.1 hu
  obtain ⟨t1,t2,t3,t4⟩:=c2.rt _ _ hy
  exact ⟨t1.comp hp,Fx.comp t1 hp t2 hf (by omega), .mul (t4.mono λg hg=>Px _ hg) al⟩
theorem YE {n k:Nat} (h1:1<=n) (h2:n<=20) {p:List Int} {s:Co×Co} (ZK:k<n) (hv:V n (n-k) k s) (hp:Pm n p) (hf:Fx k p) (hh: ¬Hy s.2 (n-k) k p=true):
  kB n 1000 k p s=iB n k ((known (s.2.getD k [])).map λu=>Al u p) (s.1.set k (s.1.getD k []++ [some p]),s.2):=by
 obtain ⟨a1,a2⟩:=DM h1 h2 ZK hv hp hf
 rw [<-(tD h1 h2 ZK a1 a2).2]
 exact (QR (f:=999)).trans (Ag hh)
theorem QQ {n k:Nat} {p:List Int} {s:Co×Co} (hh:Hy s.2 (n-k) k p=true):kB n 1000 k p s=s:=by
 exact (QR (f:=999)).trans (Ab hh)
theorem YG {n k:Nat} (h1:1<=n) (h2:n<=20) {q t:List Int} {s:Co×Co} (hk:k<n) (cq:Part n k s) (hq:Pm n q) (hf:Fx k q) (Kp:(s.2.getD k []).getD (ap q k) none=some t):
  fW n 1000 k q s=kB n 1000 (k+1) (Al q (Bk t)) s:=by
 obtain ⟨t1,t2,t3,t4⟩:=cq.row.rt _ _ Kp
 rw [((QT h1 h2 999).1 (k+1) _ s (by omega) cq.v (hq.comp t1.inv) (Fx.div hq t1 hf t2 hk t3) (Aaq h2 (by omega))).2 1000 (by omega)]
 refine (QS (f:=999)).trans ?_
 rw [Kp]
theorem DN {n k:Nat} {q:List Int} {s:Co×Co} (hk:k<n) (cq:Part n k s) (hq:Pm n q) (hf:Fx k q) (KN:Gn n (s.1.getD k []) q) (Kp:(s.2.getD k []).getD (ap q k) none=none):
  Part n k (s.1,s.2.set k ((s.2.getD k []).set (ap q k) (some q)))/\ ∀x∈(s.1.getD k []).map (λo=>Al q (o.getD [])),Pm n x/\Fx k x/\Gn n (s.1.getD k []) x:=by
 have hrl:=cq.row.rl
 have hy:ap q k<n:=hq.lt hk
 have hyk:ap q k≠k:= λh=>by rw [h,cq.row.r0] at Kp;cases Kp
 have w7:=cq.l2
 generalize qI:(s.2.getD k []).set (ap q k) (some q)=Xb
 have eE: ∀y,Xb.getD y none=if ap q k=y then some q else (s.2.getD k []).getD y none:= λy=>by
  rw [<-qI,Kx]
  by_cases h:ap q k=y
  ·rw [Ab ⟨h,by omega⟩,Ab h]
  ·rw [Ag λhh=>h hh.1,Ag h]
 have s12: ∀i,(s.2.set k Xb).getD i []=if i=k then Xb else s.2.getD i []:= λi=>by
  rw [Kx]
  by_cases e:k=i
  ·subst e;rw [Ab ⟨rfl,by omega⟩,Ab rfl]
  ·rw [Ag (λhh=>e hh.1),Ag (Ge e)]
 have ye: ∀i,k+1<=i->s.1.getD i []=s.1.getD i []/\(s.2.set k Xb).getD i []=s.2.getD i []:= λi hi=>⟨rfl,by rw [s12 i,Ag (by omega)]⟩
 have ZH:((s.1,s.2.set k Xb):Co×Co).2.getD k []=Xb:=by show (s.2.set k Xb).getD k []=Xb;rw [s12 k,Ab rfl]
 refine ⟨⟨cq.l1,by simpa using w7,cq.pg,?_,Uo _ (k+1) ye cq.comp,bL _ (k+1) ye cq.gb,cq.sub⟩,λx hx=>?_⟩
 ·rw [ZH]
  refine ⟨by rw [<-qI,Bi];exact hrl,by rw [eE k,Ag hyk];exact cq.row.r0,λy t e=>?_⟩
  rw [eE y] at e
  split at e
  ·rename_i h
   cases e
   exact ⟨hq,hf,h,KN⟩
  ·exact cq.row.rt y t e
 ·obtain ⟨o,ho,rfl⟩:=Bj.1 hx
  obtain ⟨g,rfl,g1,g2⟩:=cq.pg o ho
  exact ⟨hq.comp g1,Fx.comp hq g1 hf g2 (by omega), .mul KN ho⟩
theorem YF {n k:Nat} (h1:1<=n) (h2:n<=20) {q:List Int} {s:Co×Co} (hk:k<n) (cq:Part n k s) (hq:Pm n q) (hf:Fx k q) (KN:Gn n (s.1.getD k []) q) (Kp:(s.2.getD k []).getD (ap q k) none=none):
  fW n 1000 k q s=iB n k ((s.1.getD k []).map λo=>Al q (o.getD [])) (s.1,s.2.set k ((s.2.getD k []).set (ap q k) (some q))):=by
 obtain ⟨a1,a2⟩:=DN hk cq hq hf KN Kp
 rw [<-(tD h1 h2 hk a1 a2).2]
 refine (QS (f:=999)).trans ?_
 rw [Kp]
def Ps (n:Nat) (gens:List PO):Co×Co:=gens.foldl (λs o=>kB n 1000 0 (o.getD []) s) (Ti n,Yv n)
theorem ze {n:Nat} {gens:List PO} {j:Nat} (hj:j<gens.length):Ps n (gens.take (j+1))=kB n 1000 0 (gens[j].getD []) (Ps n (gens.take j)):=by
 unfold Ps
 rw [Fv,Ac hj,Lp,Vt]
 rfl
theorem lL {n:Nat} (h1:1<=n) (h2:n<=20): ∀(gens:List PO) (s:Co×Co),PmL n gens->V n n 0 s->V n n 0 (gens.foldl (λs o=>kB n 1000 0 (o.getD []) s) s)/\
  Vw 0 s (gens.foldl (λs o=>kB n 1000 0 (o.getD []) s) s)/\(∀g,some g∈gens->Gn n ((gens.foldl (λs o=>kB n 1000 0 (o.getD []) s) s).1.getD 0 []) g)/\ ∀o∈(gens.foldl (λs o=>kB n 1000 0 (o.getD []) s) s).1.getD 0 [],o∈s.1.getD 0 []\/o∈gens
 | [],s,_,hv=>⟨hv,Vw.refl _ _,(λ_ hg=>by cases hg),λ_ ho=> .inl ho⟩
 |o::gens,s,hg,hv=>by
  obtain ⟨g,rfl,Tp⟩:=hg o (by simp)
  have ha:=Ahr h1 h2 (k:=0) (Iq _) (by rw [Nat.sub_zero];exact hv) Tp (λi hi=>absurd hi (Dp _))
  have RK:=ha.v
  rw [Nat.sub_zero] at RK
  obtain ⟨a1,a2,a3,a4⟩:=lL h1 h2 gens (kB n 1000 0 g s) (λo ho=>hg o (by simp [ho])) RK
  refine ⟨a1,ha.grow.trans a2 (Ao _),λg' Sx=>?_,λo ho=>?_⟩
  ·rcases Be.1 Sx with e|Sx
   ·cases e;exact ha.Ajm.mono λg hg=>a2.xT _ _ hg
   ·exact a3 g' Sx
  ·rcases a4 o ho with h|h
   ·rcases ha.gens o h with h|h
    ·exact .inl h
    ·exact .inr (by simp [h])
   ·exact .inr (by simp [h])
theorem xH {n:Nat} (h1:1<=n) (h2:n<=20) {gens:List PO} (hg:PmL n gens):V n n 0 (Ps n gens):=(lL h1 h2 gens _ hg (sK h1 h2)).1
theorem FD {n:Nat} (h1:1<=n) (h2:n<=20) {gens:List PO} (hg:PmL n gens) {p:List Int} (hp:Pm n p):Hy (Ps n gens).2 n 0 p=true↔Gn n gens p:=by
 obtain ⟨a1,a2,a3,a4⟩:=lL h1 h2 gens _ hg (sK h1 h2)
 have hS:DK n λg=>some g∈gens:=⟨⟨h1,h2⟩,λg Sx=>by obtain ⟨g',e,h⟩:=hg _ Sx;cases e;exact h⟩
 have Px: ∀g,some g∈(Ps n gens).1.getD 0 []->some g∈gens:= λg Sx=>by
  rcases a4 _ Sx with h|h
  ·have h:some g∈(Ti n).getD 0 []:=h
   rw [Yu] at h;cases h
  ·exact h
 have hS':DK n λg=>some g∈(Ps n gens).1.getD 0 []:=⟨⟨h1,h2⟩,λg Sx=>hS.2 g (Px g Sx)⟩
 refine (Ue h1 h2 n 0 (Ps n gens) (by omega) a1.2.2.1 p hp λi hi=>absurd hi (Dp _)).trans ⟨λh=>h.mono Px,λh=>h.trans hS' λg Sx=>a3 g Sx⟩
def Oc (T:Co):Nat->Nat->List Int->List Int×Int×Unit
 |0,l,p=>(p,(l:Int),())
 |k+1,l,p=>match (T.getD l []).getD (Nm p (l:Int)).toNat none with
  |none=>(p,(l:Int),())
  |some t=>Oc T k (l+1) (Al p (Bk t))
theorem uZ {T:Co} : ∀(k l:Nat) (p:List Int),(Oc T k l p).2.1=((l+k:Nat):Int)↔Hy T k l p=true
 |0,l,p=>by simp [Oc,Hy]
 |k+1,l,p=>by
  unfold Oc Hy
  cases (T.getD l []).getD (Nm p (l:Int)).toNat none with
  |none=>
   constructor
   ·intro h
    have h:(l:Int)=((l+(k+1):Nat):Int):=h
    omega
   ·intro h;cases h
  |some t=>
   have h:=uZ (T:=T) k (l+1) (Al p (Bk t))
   rw [show l+1+k=l+(k+1) by omega] at h
   exact h
theorem MZ {row:Row} {y:Nat} (h:y<row.length):known (row.take (y+1))=known (row.take y)++(row[y]).toList:=by
 unfold known
 rw [Ay h,List.filterMap_append]
 cases row[y]<;>rfl
theorem ym (row:Row):(known row).length<=row.length:=List.length_filterMap_le _ _
theorem xS {n k:Nat} (h1:1<=n) (h2:n<=20) (hk:k<n) {qs:List (List Int)} {s:Co×Co} (hp:Part n k s) (hq: ∀q∈qs,Pm n q/\Fx k q/\Gn n (s.1.getD k []) q) (j:Nat):cw n k s (iB n k (qs.take j) s):=
 (tD h1 h2 hk hp λq h=>hq q (Gl h)).1
theorem NI {n k:Nat} {s:Co×Co} (hp:Part n k s):mJ n k s<SG n k:=by
 have h:=iZ (s.2.getD k [])
 have hr:=hp.row.rl
 unfold mJ SG
 omega
theorem Aar {n k:Nat} {s:Co×Co} (hk:k<n):SG n (k+1)<mJ n k s:=by
 obtain ⟨m,hm⟩: ∃m,n-k=m+1:=⟨n-k-1,by omega⟩
 have FM:n-(k+1)=m:=by omega
 unfold SG mJ
 rw [hm,FM,Nat.succ_mul]
 omega
theorem Aej {n k y:Nat} {s:Co×Co} {q:List Int} (hk:k<s.2.length) (hy:y<(s.2.getD k []).length) (h:(s.2.getD k []).getD y none=none):
  mJ n k (s.1,s.2.set k ((s.2.getD k []).set y (some q)))+1=mJ n k s:=by
 have h1:=pD (t:=q) h hy
 have h2:(s.2.set k ((s.2.getD k []).set y (some q))).getD k []=(s.2.getD k []).set y (some q):=by
  rw [Kx,Ab ⟨rfl,hk⟩]
 unfold mJ
 show _+Lq ((s.2.set k ((s.2.getD k []).set y (some q))).getD k [])+1=_
 rw [h2]
 omega
def p7 (n:Int) (g:List (List Int)):Co×Co:=Ps n.toNat (g.map some)
abbrev BB:Type:=List TT×List (ByteArray->Option Int)×Unit
def WO:List (List Int)->List Int->(ByteArray->Option Int)->ByteArray->Option Int
 |x::xs,d::ds,m=>WO xs ds (jy m (Xi x) d)
 |_,_,m=>m
def Wh (t:TT):ByteArray->Option Int:=WO t.2.1 t.2.2.1 λ_=>none
def Fb (ts:List TT):BB:=(ts,ts.map Wh,())
structure SY (t:TT):Prop where
 wo:t.2.1.length<=3000
 len:t.2.2.1.length=t.2.1.length
 nodup:t.2.1.Nodup
 byte: ∀x∈t.2.1,fY x
 Ar4: ∀d∈t.2.2.1,0<=d/\d<=3000
 tl:t.1.length<=20
 pl: ∀x∈t.2.1,x.length<=20
def ae (ts:List TT):Prop:=ts.length<=4/\ ∀t∈ts,SY t
def fc (t:TT) (s:List Int):Int:=t.2.2.1.getD (t.2.1.idxOf (Ee s t.1)) 0
def Us (ts:List TT) (s:List Int):List Int:=ts.map λt=>fc t s
def Ve (ts:List TT) (s:List Int):Int:=(Us ts s).foldl max 0
def df (ts:List TT) (s:List Int):Prop:=s.length<=20/\ ∀t∈ts,Mk s.length t.1/\Ee s t.1∈t.2.1
noncomputable abbrev Vl:Spec:=Ev (.pair vQ .unit) (.optr Wt) false false (λx=>ae x.1) (λx=>some (Fb x.1))
def XU (b:Option BB) (s:List Int):Prop:= ∃ts,ae ts/\b=some (Fb ts)/\df ts s
def Aal (b:Option BB) (s:List Int):List Int:=match b with|some b=>Us b.1 s|none=> []
def bU (b:Option BB) (s:List Int):Int:=match b with|some b=>Ve b.1 s|none=>0
noncomputable abbrev yI:Spec:=Ev (.pair (.optr Wt) (.pair tL .unit)) tL false true (λx=>XU x.1 x.2.1) (λx=>Aal x.1 x.2.1)
noncomputable abbrev ko:Spec:=Ev (.pair (.optr Wt) (.pair tL .unit)) tI false true (λx=>XU x.1 x.2.1) (λx=>bU x.1 x.2.1)
noncomputable abbrev ej:Spec:=Ev (.pair vQ (.pair tL .unit)) tL false true (λx=>ae x.1/\df x.1 x.2.1) (λx=>Us x.1 x.2.1)
noncomputable abbrev km:Spec:=Ev (.pair vQ (.pair tL .unit)) tI false true (λx=>ae x.1/\df x.1 x.2.1) (λx=>Ve x.1 x.2.1)
abbrev oD:Type:=Int×List Int×List (List Int)×List Int×List (List Int×List (List Int)×List Int×PUnit)×(ByteArray->Option Int)×List (ByteArray->Option Int)×PUnit
abbrev oF:Type:=Int×List (List Int×List (List Int)×List Int×PUnit)×List (ByteArray->Option Int)×PUnit
theorem JW (ts:List (List Int×List (List Int)×List Int×Unit)) (P:Option (List (List Int×List (List Int)×List Int×Unit)×List (ByteArray->Option Int)×Unit)->Prop):(0=0/\0=([]:List Int).length/\Df (λ(v2:oF) (k3:oF->Prop)=>Br (decide (v2.1<(↑ts.length:Int))) (∃(y4:List Int×List (List Int)×List Int×PUnit),idx ts v2.1=some y4/\0=0/\v2.2.2.1.length=v2.2.2.1.length/\Df (λ(v5:oD) (k6:oD->Prop)=>Br (decide (v5.1<(↑y4.2.1.length:Int))) (∃(y7:List Int),idx y4.2.1 v5.1=some y7/\ ∃(y8:ByteArray),Kh.fn (y7,())=some y8/\ ∃(y9:Int),idx v5.2.2.2.1 v5.1=some y9/\0=0/\v5.2.2.2.2.2.2.1.length=v5.2.2.2.2.2.2.1.length/\k6 (IntKind.i64.wrap (v5.1+(1:Int)),v5.2.1,v5.2.2.1,v5.2.2.2.1,v5.2.2.2.2.1,jy v5.2.2.2.2.2.1 y8 y9,v5.2.2.2.2.2.2.1,())) (0=0/\v5.2.2.2.2.2.2.1.length=v5.2.2.2.2.2.2.1.length/\v5.2.2.2.2.2.2.1.length+(List.take 1 (List.drop 0 [v5.2.2.2.2.2.1])).length<=Cr/\0=0/\(v5.2.2.2.2.2.2.1++List.take 1 (List.drop 0 [v5.2.2.2.2.2.1])).length=(v5.2.2.2.2.2.2.1++List.take 1 (List.drop 0 [v5.2.2.2.2.2.1])).length/\k3 (IntKind.i64.wrap (v2.1+(1:Int)),v5.2.2.2.2.1,v5.2.2.2.2.2.2.1++List.take 1 (List.drop 0 [v5.2.2.2.2.2.1]),()))) ((0:Int),y4.1,y4.2.1,y4.2.2.1,v2.2.1,λ(_:ByteArray)=>none,v2.2.2.1,PUnit.unit)) (P (some (v2.2.1,List.take v2.2.2.1.length (List.drop 0 v2.2.2.1),())))) ((0:Int),ts,[],PUnit.unit))=fnW (CJ [aa+101101]) (look [(79,Kh)]) Vl Tryz.f64 (ts,()) P:=by kernel_rfl
abbrev Abs:Type:=List (List Int×List (List Int)×List Int×PUnit)×List (ByteArray->Option Int)×PUnit
theorem Ap8 (b:Option (List (List Int×List (List Int)×List Int×Unit)×List (ByteArray->Option Int)×Unit)) (s:List Int) (P:List Int->Prop):(∃(y3:Abs),b=some y3/\0=0/\0=([]:List Int).length/\Df (λ(v4:Int×List Int×PUnit) (k5:Int×List Int×PUnit->Prop)=>Br (decide (v4.1<(↑y3.1.length:Int))) (∃(y6:List Int×List (List Int)×List Int×PUnit),idx y3.1 v4.1=some y6/\ ∃(y7:Abs),b=some y7/\ ∃(y8:ByteArray->Option Int),idx y7.2.1 v4.1=some y8/\ ∃(y9:List Int),bq.fn (s,y6.1,())=some y9/\ ∃(Md:ByteArray),Kh.fn (y9,())=some Md/\0=0/\v4.2.1.length=v4.2.1.length/\v4.2.1.length+(List.take 1 (List.drop 0 [(y8 Md).getD (Int.ofNat (nat_lit 0))])).length<=Cr/\0=0/\(v4.2.1++List.take 1 (List.drop 0 [(y8 Md).getD (Int.ofNat (nat_lit 0))])).length=(v4.2.1++List.take 1 (List.drop 0 [(y8 Md).getD (Int.ofNat (nat_lit 0))])).length/\k5 (IntKind.i64.wrap (v4.1+(1:Int)),v4.2.1++List.take 1 (List.drop 0 [(y8 Md).getD (Int.ofNat (nat_lit 0))]),())) (P (List.take v4.2.1.length (List.drop 0 v4.2.1)))) ((0:Int),[],PUnit.unit))=fnW Ei (look [(79,Kh),(80,bq)]) yI Tryz.f59 (b,s,()) P:=by kernel_rfl
theorem Afm (b:Option (List (List Int×List (List Int)×List Int×Unit)×List (ByteArray->Option Int)×Unit)) (s:List Int) (P:Int->Prop):(∃(y3:List Int),yI.fn (b,s,())=some y3/\Df (λ(v4:Int×Int×PUnit) (k5:Int×Int×PUnit->Prop)=>Br (decide (v4.2.1<(↑y3.length:Int))) (∃(y6:Int),idx y3 v4.2.1=some y6/\k5 (if true=true then if y6>v4.1 then y6 else v4.1 else if y6<v4.1 then y6 else v4.1,IntKind.i64.wrap (v4.2.1+(1:Int)),())) (P v4.1)) ((0:Int),(0:Int),PUnit.unit))=fnW Ei (look [(59,yI)]) ko Tryz.f52 (b,s,()) P:=by kernel_rfl
abbrev qf:Type:=List Int×List (List Int)×List Int×PUnit
theorem Ack (ts:List (List Int×List (List Int)×List Int×Unit)) (s:List Int) (P:List Int->Prop):(0=0/\0=([]:List Int).length/\Df (λ(v3:Int×List Int×PUnit) (k4:Int×List Int×PUnit->Prop)=>Br (decide (v3.1<(↑ts.length:Int))) (∃(y5:qf),idx ts v3.1=some y5/\ ∃(y6:qf),idx ts v3.1=some y6/\ ∃(y7:qf),idx ts v3.1=some y7/\ ∃(y8:List Int),br.fn (y7.1,s,())=some y8/\ ∃(y9:Int),Uw.fn (y6,y8,())=some y9/\ ∃(Md:Int),idx y5.2.2.1 y9=some Md/\0=0/\v3.2.1.length=v3.2.1.length/\v3.2.1.length+(List.take 1 (List.drop 0 [Md])).length<=Cr/\0=0/\(v3.2.1++List.take 1 (List.drop 0 [Md])).length=(v3.2.1++List.take 1 (List.drop 0 [Md])).length/\k4 (IntKind.i64.wrap (v3.1+(1:Int)),v3.2.1++List.take 1 (List.drop 0 [Md]),())) (P (List.take v3.2.1.length (List.drop 0 v3.2.1)))) ((0:Int),[],PUnit.unit))=fnW Ei (look [(78,br),(77,Uw)]) ej Tryz.f57 (ts,s,()) P:=by kernel_rfl
theorem Afl (ts:List (List Int×List (List Int)×List Int×Unit)) (s:List Int) (P:Int->Prop):(∃(y3:List Int),ej.fn (ts,s,())=some y3/\Df (λ(v4:Int×Int×PUnit) (k5:Int×Int×PUnit->Prop)=>Br (decide (v4.2.1<(↑y3.length:Int))) (∃(y6:Int),idx y3 v4.2.1=some y6/\k5 (if true=true then if y6>v4.1 then y6 else v4.1 else if y6<v4.1 then y6 else v4.1,IntKind.i64.wrap (v4.2.1+(1:Int)),())) (P v4.1)) ((0:Int),(0:Int),PUnit.unit))=fnW Ei (look [(57,ej)]) km Tryz.f48 (ts,s,()) P:=by kernel_rfl
theorem SY.short {t:TT} (h:SY t):Ob t:=by
 have h1:=h.wo;have h2:=h.len;have h3:=h.tl
 exact ⟨by unfold _root_.Go.Proofs.YtfolipnappekaaaGreat.short;omega,⟨by omega,λr hr=>by have:=h.pl r hr;unfold _root_.Go.Proofs.YtfolipnappekaaaGreat.short;omega⟩,by unfold _root_.Go.Proofs.YtfolipnappekaaaGreat.short;omega⟩
theorem yY {p:PP} {t:TT} (h:Gx p t=true):SY t/\Gh p t.1=true/\(Kq p.2.2.1 t.1).2.2=true/\t.2.1=me p t.1/\t.2.2.1=Aam p t.1:=by
 obtain ⟨h1,h2⟩:=Ho.1 h
 obtain ⟨h3,h4⟩:=ed.1 h1
 have h5:=px.1 h2
 unfold Hr at h5
 rw [Ab h1] at h5
 have e1:t.2.1=me p t.1:=(Mc (λz:TT=>z.2.1) h5).symm
 have e2:t.2.2.1=Aam p t.1:=(Mc (λz:TT=>z.2.2.1) h5).symm
 have hv:=(Ry.1 h3).1
 have hn:=(valid hv).n
 have iM:=AT h3
 have kE:=iM.ok.wo
 have hlen:=iM.len
 have KP:=iM.ok.short
 refine ⟨⟨by rw [e1];exact kE,by rw [e1,e2];exact hlen,by rw [e1];exact iM.ok.nodup,λx hx=>?_,λd hd=>?_,(Ji h3).1,λx hx=>?_⟩,h3,h4,e1,e2⟩
 ·rw [e1] at hx
  intro y hy
  have:=iM.row x hx y hy
  omega
 ·rw [e2] at hd
  obtain ⟨j,hj,rfl⟩:=Cl.1 hd
  have h6:=iM.dep j hj
  have rM:j<(Kq p.2.2.1 t.1).2.1.length:=hj
  exact ⟨h6.1,by have:=h6.2;show (Kq p.2.2.1 t.1).2.1[j]<=3000;omega⟩
 ·rw [e1] at hx
  have:=iM.ok.len x hx
  omega
theorem jw {p:PP} {ts:List TT} (h:Gp p ts=true):Dy p=true/\ae ts/\ ∀t∈ts,Gx p t=true:=by
 unfold Gp at h
 rw [Af,Af,Bd,Jz] at h
 exact ⟨h.1.1,⟨h.1.2,λt ht=>(yY (h.2 t ht)).1⟩,h.2⟩
theorem JH: ∀(xs:List (List Int)) (ds:List Int) (m:ByteArray->Option Int) (x:List Int),xs.length=ds.length->xs.Nodup->(∀y∈xs,fY y)->fY x->WO xs ds m (Xi x)=if x∈xs then some (ds.getD (xs.idxOf x) 0) else m (Xi x)
 | [],ds,m,x,_,_,_,_=>by cases ds<;>simp [WO]
 |y::xs,[],m,x,hl,_,_,_=>by simp at hl
 |y::xs,d::ds,m,x,hl,hn,hb,hx=>by
  obtain ⟨hy,hn⟩:=Cb.1 hn
  simp only [WO]
  rw [JH xs ds _ x (by simpa using hl) hn (λz hz=>hb z (As _ hz)) hx]
  by_cases hm:x∈xs
  ·have Ik:y≠x:= λe=>hy (e▸hm)
   have hi:(y::xs).idxOf x=xs.idxOf x+1:=by rw [List.idxOf_cons,show (y==x)=false by simpa using Ik];rfl
   rw [Ab hm,Ab (As _ hm),hi]
   rfl
  ·rw [Ag hm]
   unfold jy
   by_cases e:Xi x=Xi y
   ·have:=key_inj hx (hb y (by simp)) e
    subst this
    rw [Ab e,Ab (by simp),List.idxOf_cons_self]
    rfl
   ·have Ik:x≠y:= λh=>e (by rw [h])
    rw [Ag e,Ag (by simp [Ik,hm])]
theorem Ac8 {t:TT} (h:SY t) {x:List Int} (hx:x∈t.2.1):Wh t (Xi x)=some (t.2.2.1.getD (t.2.1.idxOf x) 0):=by
 unfold Wh
 rw [JH _ _ _ _ h.len.symm h.nodup h.byte (h.byte x hx),Ab hx]
theorem HP (ts:List TT) (h:ae ts):fnW (CJ [aa+101101]) (look [(79,Kh)]) Vl Tryz.f64 (ts,()) (λ(z:Option BB)=>z=some (Fb ts)):=by
 obtain ⟨h4,hd⟩:=h
 refine Eq.mp (JW ts _) ⟨rfl,rfl,?_⟩
 refine Bf ts.length (λv=>v.1) (λi v=>v=((i:Int),ts,(ts.take i).map Wh,())) rfl rfl ?_
 rintro i v K hi hii rfl hK
 dsimp only
 refine Br.dec (λhl=>?_) λhl=>?_
 ·have hl:i<ts.length:=by omega
  have TQ:=hd _ (Aj hl)
  have kE:=TQ.wo
  have hlen:=TQ.len
  have Ajc:=TQ.short
  refine ⟨_,Bp hl,rfl,rfl,?_⟩
  refine Bf (ts[i]).2.1.length (λv=>v.1) (λj v=> ∃m,v=((j:Int),(ts[i]).1,(ts[i]).2.1,(ts[i]).2.2.1,ts,m,(ts.take i).map Wh,())/\WO ((ts[i]).2.1.drop j) ((ts[i]).2.2.1.drop j) m=Wh ts[i]) rfl ⟨_,rfl,by rw [Dm,Dm];rfl⟩ ?_
  rintro j v K1 hj hjj ⟨m,rfl,hm⟩ hK1
  dsimp only
  refine Br.dec (λjV=>?_) λjV=>?_
  ·have jV:j<(ts[i]).2.1.length:=by omega
   have w7:j<(ts[i]).2.2.1.length:=by omega
   rw [Cn jV,Cn w7] at hm
   refine ⟨_,Bp jV,_,Ab (Ajc.2.1.2 _ (Aj jV)),_,Bp w7,rfl,rfl,?_⟩
   rw [Bg (by omega)]
   exact hK1 jV _ rfl ⟨_,rfl,hm⟩
  ·have:j=(ts[i]).2.1.length:=by omega
   subst this
   rw [Ij] at hm
   have hm:m=Wh ts[i]:=by
    rw [<-hm]
    cases List.drop (ts[i]).2.1.length (ts[i]).2.2.1<;>rfl
   subst hm
   refine ⟨rfl,rfl,by show ((ts.take i).map Wh).length+1<=4294967296;rw [Di,Dd];omega,rfl,rfl,?_⟩
   rw [Bg (by omega)]
   have hmm:(ts.take (i+1)).map Wh=(ts.take i).map Wh++ [Wh ts[i]]:=by
    rw [Fv,Ac hl,Lp,Kb]
    rfl
   refine hK hl _ rfl ?_
   rw [hmm]
   rfl
 ·have:i=ts.length:=by omega
  subst this
  rw [Cf,Ap]
  rfl
theorem se:Sound Tryz.prog 64 Vl:=
 Sound.Ev (CL [aa+101101]) (Av cb Bh) mixed Tryz.func64 (by kernel_rfl) (by kernel_rfl) λx h=>HP x.1 h
theorem mS (ts:List TT) (s:List Int):(Us ts s).length=ts.length:=by unfold Us;rw [Di]
theorem LG {t:TT} (h:SY t) {s:List Int} (hs:Ee s t.1∈t.2.1):0<=fc t s/\fc t s<=3000:=by
 have hi:=List.idxOf_lt_length_of_mem hs
 have hl:=h.len
 unfold fc
 rw [Zd (by omega)]
 exact h.Ar4 _ (Aj _)
theorem TF {ts:List TT} (h:ae ts) {s:List Int} (hs:df ts s): ∀d∈Us ts s,0<=d/\d<=3000:= λd hd=>by
 obtain ⟨t,ht,rfl⟩:=Bj.1 hd
 exact LG (h.2 t ht) (hs.2 t ht).2
theorem xK {ts:List TT} {s:List Int} {i:Nat} (hl:i<ts.length):(Us (ts.take (i+1)) s)=Us (ts.take i) s++ [fc ts[i] s]:=by
 unfold Us
 rw [Fv,Ac hl,Lp,Kb]
 rfl
theorem Aok (b:Option BB) (s:List Int) (h:XU b s):fnW Ei (look [(79,Kh),(80,bq)]) yI Tryz.f59 (b,s,()) (λ(z:List Int)=>z=Aal b s):=by
 obtain ⟨ts,⟨h4,hd⟩,rfl,hs⟩:=h
 refine Eq.mp (Ap8 _ s _) ⟨Fb ts,rfl,rfl,rfl,?_⟩
 show Df _ _
 refine Bf ts.length (λv=>v.1) (λi v=>v=((i:Int),Us (ts.take i) s,())) rfl rfl ?_
 rintro i v K hi hii rfl hK
 dsimp only
 refine Br.dec (λhl=>?_) λhl=>?_
 ·have hl:i<ts.length:=by have hl:(i:Int)<(ts.length:Int):=hl;omega
  have TQ:=hd _ (Aj hl)
  obtain ⟨eW,mH⟩:=hs.2 _ (Aj hl)
  have htl:=TQ.tl
  have jW:=TQ.pl _ mH
  refine ⟨ts[i],Bp hl,Fb ts,rfl,Wh ts[i],?_,_,Ab ⟨by show (ts[i]).1.length<=4294967296;omega,eW⟩,_,Ab (by show (Ee s (ts[i]).1).length<=4294967296;omega),rfl,rfl,?_,rfl,rfl,?_⟩
  ·show idx (ts.map Wh) (i:Int)=_
   rw [Bp (by rw [Di];exact hl),Sv]
  ·show (Us (ts.take i) s).length+1<=4294967296
   rw [mS,Dd];omega
  ·rw [Bg (by omega)]
   refine hK hl _ rfl ?_
   rw [xK hl,show Wh ts[i] (Xi (Ee s (ts[i]).1))=some (fc ts[i] s) from Ac8 TQ mH]
   rfl
 ·have:i=ts.length:=by have hl: ¬(i:Int)<(ts.length:Int):=hl;omega
  subst this
  rw [Cf,Ap]
  rfl
theorem VX:Sound Tryz.prog 59 yI:=
 Sound.Ev Db (Av cb (Av xc Bh)) mixed Tryz.func59 (by kernel_rfl) (by kernel_rfl) λx h=>Aok x.1 x.2.1 h
theorem Aas (a b:Int):(if true=true then if b>a then b else a else if b<a then b else a)=max a b:=by
 rw [Ab rfl]
 by_cases h:b>a
 ·rw [Ab h,Int.max_eq_right (by omega)]
 ·rw [Ag h,Int.max_eq_left (by omega)]
theorem YS {xs:List Int} {m:Int} (h: ∀x∈xs,0<=x/\x<=m) (hm:0<=m):0<=xs.foldl max 0/\xs.foldl max 0<=m:=by
 rcases kY xs 0 with h1|h1
 ·rw [h1];exact ⟨Nt _,hm⟩
 ·exact h _ h1
theorem SC {ts:List TT} (h:ae ts) {s:List Int} (hs:df ts s):0<=Ve ts s/\Ve ts s<=3000:=YS (TF h hs) (by omega)
theorem Aeu (b:Option BB) (s:List Int) (h:XU b s):fnW Ei (look [(59,yI)]) ko Tryz.f52 (b,s,()) (λ(z:Int)=>z=bU b s):=by
 obtain ⟨ts,ht,hb,hs⟩:=id h
 have hl4:=ht.1
 have hlen:=mS ts s
 obtain ⟨xs,hxs⟩: ∃xs,Aal b s=xs:=⟨_,rfl⟩
 have hxe:bU b s=xs.foldl max 0:=by rw [<-hxs,hb];rfl
 have ZY:xs.length=ts.length:=by rw [<-hxs,hb];exact hlen
 refine Eq.mp (Afm b s _) ⟨xs,(Ab h).trans (Mc some hxs),?_⟩
 rw [hxe]
 refine Bf xs.length (λv=>v.2.1) (λi v=>v=((xs.take i).foldl max 0,(i:Int),())) rfl rfl ?_
 rintro i v K hi hii rfl hK
 dsimp only
 refine Br.dec (λhl=>?_) λhl=>?_
 ·have hl:i<xs.length:=by omega
  refine ⟨_,Bp hl,?_⟩
  rw [Bg (by omega)]
  refine hK hl _ rfl ?_
  rw [Fv,Ac hl,Lp,Vt,Aas]
  rfl
 ·have:i=xs.length:=by omega
  subst this
  rw [Ap]
theorem IP:Sound Tryz.prog 52 ko:=
 Sound.Ev Db (Av VX Bh) mixed Tryz.func52 (by kernel_rfl) (by kernel_rfl) λx h=>Aeu x.1 x.2.1 h
theorem MO {L:List (List Int)} {x:List Int} (hn:L.Nodup) (hx:x∈L):Hs (λq=>decide (q=x)) L 0=((L.idxOf x:Nat):Int):=by
 obtain ⟨k,hk,h1,h2,_⟩:=yg (P:= λq=>decide (q=x)) L 0 (Kj.2 ⟨x,hx,Fa rfl⟩)
 have h3:L[k]=x:=Gs h2
 have h4:=MM hn hk
 rw [Zd hk,h3] at h4
 rw [h4,<-Bv k]
 exact h1
theorem Ab1 (ts:List TT) (s:List Int) (h:ae ts/\df ts s):fnW Ei (look [(78,br),(77,Uw)]) ej Tryz.f57 (ts,s,()) (λ(z:List Int)=>z=Us ts s):=by
 obtain ⟨⟨h4,hd⟩,hs⟩:=h
 refine Eq.mp (Ack ts s _) ⟨rfl,rfl,?_⟩
 refine Bf ts.length (λv=>v.1) (λi v=>v=((i:Int),Us (ts.take i) s,())) rfl rfl ?_
 rintro i v K hi hii rfl hK
 dsimp only
 refine Br.dec (λhl=>?_) λhl=>?_
 ·have hl:i<ts.length:=by omega
  have TQ:=hd _ (Aj hl)
  obtain ⟨eW,mH⟩:=hs.2 _ (Aj hl)
  have htl:=TQ.tl
  have jW:=TQ.pl _ mH
  have hix:=List.idxOf_lt_length_of_mem mH
  have hle:=TQ.len
  have he:Uw.fn (((ts[i]).1,(ts[i]).2.1,(ts[i]).2.2.1,()),Ee s (ts[i]).1,())=some (((ts[i]).2.1.idxOf (Ee s (ts[i]).1):Nat):Int):=
   (Ab ⟨TQ.short,by show (Ee s (ts[i]).1).length<=4294967296;omega⟩).trans (Mc some (MO TQ.nodup mH))
  refine ⟨_,Bp hl,_,Bp hl,_,Bp hl,_,Ab ⟨by show (ts[i]).1.length<=4294967296;omega,eW⟩,_,he,_,Bp (by omega),rfl,rfl,?_,rfl,rfl,?_⟩
  ·show (Us (ts.take i) s).length+1<=4294967296
   rw [mS,Dd];omega
  ·rw [Bg (by omega)]
   refine hK hl _ rfl ?_
   rw [xK hl]
   unfold fc
   rw [Zd (by omega)]
   rfl
 ·have:i=ts.length:=by omega
  subst this
  rw [Cf,Ap]
theorem BQ:Sound Tryz.prog 57 ej:=
 Sound.Ev Db (Av xd (Av vE Bh)) mixed Tryz.func57 (by kernel_rfl) (by kernel_rfl) λx h=>Ab1 x.1 x.2.1 h
theorem Aet (ts:List TT) (s:List Int) (h:ae ts/\df ts s):fnW Ei (look [(57,ej)]) km Tryz.f48 (ts,s,()) (λ(z:Int)=>z=Ve ts s):=by
 have hl4:=h.1.1
 have hlen:=mS ts s
 obtain ⟨xs,hxs⟩: ∃xs,Us ts s=xs:=⟨_,rfl⟩
 have hxe:Ve ts s=xs.foldl max 0:=by rw [<-hxs];rfl
 have ZY:xs.length=ts.length:=by rw [<-hxs];exact hlen
 refine Eq.mp (Afl ts s _) ⟨xs,(Ab h).trans (Mc some hxs),?_⟩
 rw [hxe]
 refine Bf xs.length (λv=>v.2.1) (λi v=>v=((xs.take i).foldl max 0,(i:Int),())) rfl rfl ?_
 rintro i v K hi hii rfl hK
 dsimp only
 refine Br.dec (λhl=>?_) λhl=>?_
 ·have hl:i<xs.length:=by omega
  refine ⟨_,Bp hl,?_⟩
  rw [Bg (by omega)]
  refine hK hl _ rfl ?_
  rw [Fv,Ac hl,Lp,Vt,Aas]
  rfl
 ·have:i=xs.length:=by omega
  subst this
  rw [Ap]
theorem IN:Sound Tryz.prog 48 km:=
 Sound.Ev Db (Av BQ Bh) mixed Tryz.func48 (by kernel_rfl) (by kernel_rfl) λx h=>Aet x.1 x.2.1 h
theorem nZ {p:PP} {s:List Int} (h:Nq p s=true):Dy p=true/\Pm p.1.toNat s/\Gn p.1.toNat (p.2.2.1.map some) s:=by
 unfold Nq at h
 rw [Af,Af] at h
 obtain ⟨⟨hv,hg⟩,hh⟩:=h
 have hV:=valid hv
 have hn:=hV.n
 have hp:=Ai2 hV hg
 exact ⟨hv,hp,(lZ (by omega) (by omega) (ee (dF hV).2.2) hp).1 hh⟩
theorem YU {p:PP} {s:List Int} (hv:Dy p=true) (h:Gn p.1.toNat (p.2.2.1.map some) s):Nq p s=true:=by
 have hV:=valid hv
 have hn:=hV.n
 have hp:=cn.pm (tK hV) h
 unfold Nq
 rw [hv,Akh hV hp,show Hy (cA p.1 p.2.2.1).2 p.1.toNat 0 s=true from (lZ (by omega) (by omega) (ee (dF hV).2.2) hp).2 h]
 rfl
theorem MA {p:PP} {t s:List Int} (hv:Dy p=true) (hs:Pm p.1.toNat s) (ht:Gh p t=true):Mk s.length t:=by
 have h1:=hs.1
 have hn:=(valid hv).n
 intro y hy
 have:=(Ji ht).2 y hy
 omega
theorem Ai3 {p:PP} {t:List Int} (hv:Dy p=true) (ht:Gh p t=true) (hw:(Kq p.2.2.1 t).2.2=true) {s:List Int} (hs:Gn p.1.toNat (p.2.2.1.map some) s):Ee s t∈me p t:=by
 have hV:=valid hv
 have hc:z6 p.2.2.1 (Aw p.2.2.1.length) (me p t):=wE hV (AT ht) (LC hv (Ji ht).1 (Ji ht).2 hw)
 induction hs with
 |id=>rw [VJ (JJ ht)];exact (VI ht).2
 |mul h hg ih=>
  have hp:Pm p.1.toNat _:=cn.pm (tK hV) h
  obtain ⟨k,hk,rfl⟩:=Cl.1 (oa.1 hg)
  have:=hc.next _ ih _ (Vd hk).1
  rw [Uq hk] at this
  rw [j4 (MA hv hp ht)]
  exact this
 |inv h hg ih=>
  have hp:Pm p.1.toNat _:=cn.pm (tK hV) h
  obtain ⟨k,hk,rfl⟩:=Cl.1 (oa.1 hg)
  have:=hc.next _ ih _ (Vd hk).2
  rw [Up hk] at this
  rw [j4 (MA hv hp ht)]
  exact this
theorem OI {p:PP} {ts:List TT} {s:List Int} (hr:Nq p s=true) (ht:Gp p ts=true):df ts s:=by
 obtain ⟨hv,hp,hg⟩:=nZ hr
 obtain ⟨_,_,Ke⟩:=jw ht
 have hn:=(valid hv).n
 refine ⟨by rw [hp.1];omega,λt u5=>?_⟩
 obtain ⟨_,h3,hw,e1,_⟩:=yY (Ke t u5)
 exact ⟨MA hv hp h3,by rw [e1];exact Ai3 hv h3 hw hg⟩
open Go.RowKit Go.Lib
abbrev xTS:CK:= .Hi Kt 58
noncomputable abbrev bd:MSpec:=cr [none] [(false, .Eu vQ)] false [none] [xTS] (λx=>Gv x.1) (λx=>((x.1,()),()))
def Afg (t:TT):Nat:=t.1.length+Eb t.2.1+t.2.2.1.length
def Lk:List TT->Nat
 | []=>0
 |t::ts=>Afg t+Lk ts
noncomputable abbrev Lh:MSpec:=cr [none,none] [(false,xTS),(false, .Eu tI)] false [none] [.Eu tI] (λx=>Gv x.1/\low x.2.1/\low (x.2.1+Lk x.1)) (λx=>((x.2.1+Lk x.1,()),()))
abbrev JD:Type:=Int×List (List Int×List (List Int)×List Int×PUnit)×PUnit
theorem Afr (ts:List (List Int×List (List Int)×List Int×Unit)) (P:((List (List Int×List (List Int)×List Int×Unit)×Unit)×Unit)->Prop):(((0:Int)<=(↑ts.length:Int)/\(↑ts.length:Int)<(↑Cr:Int)+(1:Int))/\(↑ts.length:Int)=(↑ts.length:Int)/\0=0/\(List.replicate (↑ts.length:Int).toNat (([]:List Int),([]:List (List Int)),([]:List Int),())).length=(List.replicate (↑ts.length:Int).toNat (([]:List Int),([]:List (List Int)),([]:List Int),())).length/\Df (λ(v2:JD) (k3:JD->Prop)=>Br (decide (v2.1<(↑ts.length:Int))) (∃(y4:List Int×List (List Int)×List Int×PUnit),idx ts v2.1=some y4/\ ∃(y5:(List Int×List (List Int)×List Int×PUnit)×PUnit),Yq.fn (y4.1,y4.2.1,y4.2.2.1,())=some y5/\((0:Int)<=v2.1/\v2.1<(↑v2.2.1.length:Int))/\0+v2.1.toNat<v2.2.1.length/\0=0/\v2.2.1.length=(v2.2.1.set (0+v2.1.toNat) (List.take y5.1.1.length (List.drop 0 y5.1.1),List.take y5.1.2.1.length (List.drop 0 y5.1.2.1),List.take y5.1.2.2.1.length (List.drop 0 y5.1.2.2.1),())).length/\k3 (IntKind.i64.wrap (v2.1+(1:Int)),v2.2.1.set (0+v2.1.toNat) (List.take y5.1.1.length (List.drop 0 y5.1.1),List.take y5.1.2.1.length (List.drop 0 y5.1.2.1),List.take y5.1.2.2.1.length (List.drop 0 y5.1.2.2.1),()),())) (P ((List.take v2.2.1.length (List.drop 0 v2.2.1),()),()))) ((0:Int),List.replicate (↑ts.length:Int).toNat (([]:List Int),([]:List (List Int)),([]:List Int),()),PUnit.unit))=fnMW (CJ [jI+7]) (look [(50,Yq)]) bd Tryz.f17 (ts,()) P:=by kernel_rfl
theorem Aez (ts:List TT) (h:Gv ts):fnMW (CJ [jI+7]) (look [(50,Yq)]) bd Tryz.f17 (ts,()) (λ(z:(List TT×Unit)×Unit)=>z=((ts,()),())):=by
 obtain ⟨h,h4⟩:=h
 refine Eq.mp (Afr ts _) ?_
 refine ⟨⟨by omega,by show (ts.length:Int)<(4294967296:Int)+1;omega⟩,rfl,rfl,rfl,?_⟩
 refine Bf ts.length (λv=>v.1) (λj v=>v.2.1.length=ts.length/\v.2.1.take j=ts.take j) rfl ⟨by simp,by simp⟩ ?_
 rintro j ⟨i,ys,⟨⟩⟩ K hj hi ⟨h1,h2⟩ hK
 dsimp only at hi h1 h2⊢
 subst hi
 refine Br.dec (λhl=>?_) λhl=>?_
 ·have hl:j<ts.length:=by omega
  refine ⟨_,Bp hl,_,Ab (h4 _ (Aj hl)),⟨by omega,by omega⟩,by rw [Ai];omega,rfl,by rw [Bi],?_⟩
  rw [Bg (by omega),Ai,Bv]
  simp only [Cf]
  exact hK hl _ rfl ⟨by rw [Bi];exact h1,Kl hl h1 h2⟩
 ·have:j=ts.length:=by omega
  subst this
  rw [Ap,<-h1,Ap] at h2
  rw [Cf,h2]
theorem IU:By Tryz.prog 17 bd:=
 By.cr (CL [jI+7]) (En vG Bh) mixed Tryz.func17 (by kernel_rfl) (by kernel_rfl) λx h=>Aez x.1 h
def HE (r:Option Real):Pi:= λl=>if l=Dr true 0 then r else none
theorem sH (r:Option Real):HE r (Dr true 0)=r:=Ab rfl
theorem nU (r:Option Real) {l:Nat} (h:l≠Dr true 0):HE r l=none:=Ag h
theorem bk {r:Option Real} {l:Nat} {q:Real} (h:HE r l=some q):l=Dr true 0/\r=some q:=by
 unfold HE at h
 split at h
 ·exact ⟨by assumption,h⟩
 ·cases h
theorem vJ {F:List Nat} {u:Value} {xs:List Int} {w:World} {k:Int} (h:Cg w F tL [u] xs) (hn:F.Nodup) (hs:short xs/\low k):
  Calls Tryz.prog 31 #[u, .int .i64 k] w λe w'=>e= .returned (.int .i64 (k+xs.length))/\Gw w.heap.size (· ∈F) w w':=by
 obtain ⟨r,r1,r2,r3,r4,r5⟩:=Cg.row h hn
 have It:=Cg.lt F _ _ _ h
 have Zr: ∀b,Ud (HE r) b->b∈F:=by
  rintro b ⟨l,q,hl,hq⟩
  exact (r4 q (bk hl).2 b).1 hq
 have hc:=jo.calls w (λ_=>False) (HE r) [u, .int .i64 k] (xs,k,()) (k+xs.length,()) (Ky k xs.length,()) 0 [u, .int .i64 k] ⟨rfl,trivial⟩ (λh=>by cases h)
  ⟨⟨(sH r).symm▸r1,(sH r).symm▸r2 rfl _⟩,⟨nU r (by decide),⟨[.int .i64 k],rfl,rfl⟩⟩,trivial⟩
  ⟨λl q b hl hq=>It b (Zr b ⟨l,q,hl,hq⟩),λl l' q q' b hl Km _ _=>(bk hl).1.trans (bk Km).1.symm⟩
  (λb hb=>hb.elim) (λl hl=>nU r λhh=>by rw [hh] at hl;cases hl) (Ab hs)
 refine hc.mono λe w' ⟨v,Sb,ρ,he,hr,_,hb,_,ho,_⟩=>?_
 cases Sb with
 |nil=>exact ho.elim
 |cons v' Sb=>
 cases Sb with
 |cons _ _=>exact ho.2.elim
 |nil=>
 obtain ⟨⟨_,cs,rJ,hv⟩,_⟩:=ho
 simp only [Cells] at rJ
 subst rJ
 have hv:v'= .int .i64 (k+xs.length):=hv
 subst hv
 obtain ⟨hr,_⟩:=hr
 rcases hr with hr|hr
 ·cases hr
  exact ⟨he,hb.os,hb.tape,hb.output,hb.size,λb iJ hF=>hb.block b iJ λhh=>by
   rcases hh with hh|hh
   ·exact hF (Zr b hh)
   ·cases hh.1⟩
 ·cases hr
theorem IY {F:List Nat} {u:Value} {xs:List (List Int)} {w:World} {k:Int} (h:Cg w F da [u] xs) (hn:F.Nodup) (hs:Hb xs/\low k/\low (k+Eb xs)):
  Calls Tryz.prog 60 #[u, .int .i64 k] w λe w'=>e= .returned (.int .i64 (k+Eb xs))/\Gw w.heap.size (· ∈F) w w':=by
 obtain ⟨r,r1,r2,r3,r4,r5⟩:=Cg.row h hn
 have It:=Cg.lt F _ _ _ h
 have Zr: ∀b,Ud (HE r) b->b∈F:=by
  rintro b ⟨l,q,hl,hq⟩
  exact (r4 q (bk hl).2 b).1 hq
 have hc:=oq.calls w (λ_=>False) (HE r) [u, .int .i64 k] (xs,k,()) (k+Eb xs,()) (Kf k xs,()) 0 [u, .int .i64 k] ⟨rfl,trivial⟩ (λh=>by cases h)
  ⟨⟨(sH r).symm▸r1,(sH r).symm▸r3 0⟩,⟨nU r (by decide),⟨[.int .i64 k],rfl,rfl⟩⟩,trivial⟩
  ⟨λl q b hl hq=>It b (Zr b ⟨l,q,hl,hq⟩),λl l' q q' b hl Km _ _=>(bk hl).1.trans (bk Km).1.symm⟩
  (λb hb=>hb.elim) (λl hl=>nU r λhh=>by rw [hh] at hl;cases hl) (Ab hs)
 refine hc.mono λe w' ⟨v,Sb,ρ,he,hr,_,hb,_,ho,_⟩=>?_
 cases Sb with
 |nil=>exact ho.elim
 |cons v' Sb=>
 cases Sb with
 |cons _ _=>exact ho.2.elim
 |nil=>
 obtain ⟨⟨_,cs,rJ,hv⟩,_⟩:=ho
 simp only [Cells] at rJ
 subst rJ
 have hv:v'= .int .i64 (k+Eb xs):=hv
 subst hv
 obtain ⟨hr,_⟩:=hr
 rcases hr with hr|hr
 ·cases hr
  exact ⟨he,hb.os,hb.tape,hb.output,hb.size,λb iJ hF=>hb.block b iJ λhh=>by
   rcases hh with hh|hh
   ·exact hF (Zr b hh)
   ·cases hh.1⟩
 ·cases hr
theorem SF:Tryz.prog.follows .mixedOrders=true:=by kernel_rfl
structure Rem (w:World) (g o:Nat) (tid:TypeId) (cur:Array Value) (Fs:List (List Nat)) (ts:List TT) (j:Nat):Prop where
 Qi:w.heap[g]?=some (.cells cur tid (0,0))
 els: ∀(i:Nat) (t:TT) (F:List Nat),j<=i->ts[i]?=some t->Fs[i]?=some F-> ∃es:List Value,es.length=3/\(∀c u,es[c]?=some u->cur[(o+i)*3+c]?=some u)/\Cg w F Kt es t
theorem vV {ts:List TT} {j:Nat} (h:j<ts.length):Lk (ts.take (j+1))=Lk (ts.take j)+Afg ts[j]:=by
 induction ts generalizing j with
 |nil=>simp at h
 |cons t ts ih=>cases j with
  |zero=>simp [Lk]
  |succ j=>
   have h:j<ts.length:=by simpa using h
   simp only [List.take_succ_cons,Lk,ih h,aB]
   omega
theorem Ac9 (ts:List TT) (j:Nat):Lk (ts.take j)<=Lk ts:=by
 induction ts generalizing j with
 |nil=>simp [Lk]
 |cons t ts ih=>cases j with
  |zero=>simp [Lk]
  |succ j=>simp only [List.take_succ_cons,Lk];have:=ih j;omega
theorem Cg.UH {w:World} {F:List Nat} {e:Ty} {cs:List Value} {x:List e.den} (h:Cg w F (.slice e) cs x):cs.length=1:=by
 simp only [Cg] at h
 obtain ⟨a,n,c,rfl,_⟩:=h
 rfl
theorem Rem.parts {w:World} {g o:Nat} {tid:TypeId} {cur:Array Value} {Fs:List (List Nat)} {ts:List TT} {j:Nat} (h:Rem w g o tid cur Fs ts j) (hl:Fs.length=ts.length) (hn:(g::List.flatten Fs).Nodup) (hj:j<ts.length):
  ∃u0 u1 u2 F0 F1 F2,w.cell? ⟨g,o*3+(j*3),none⟩=some u0/\w.cell? ⟨g,o*3+(j*3)+1,none⟩=some u1/\w.cell? ⟨g,o*3+(j*3)+2,none⟩=some u2/\Fs[j]?=some (F0++(F1++F2))/\(F0++(F1++F2)).Nodup/\g∉F0++(F1++F2)/\
   Cg w F0 tL [u0] ts[j].1/\Cg w F1 da [u1] ts[j].2.1/\Cg w F2 tL [u2] ts[j].2.2.1:=by
 have hF:Fs[j]?=some (Fs[j]'(by omega)):=Ac (by omega)
 obtain ⟨es,e1,e2,e3⟩:=h.els j _ _ (Ao j) (Ac hj) hF
 generalize Fs[j]'(by omega)=F at hF e3
 simp only [Cg] at e3
 obtain ⟨x0,y0,F0,G0,rfl,rfl,t0,x1,y1,F1,G1,rfl,rfl,t1,x2,y2,F2,G2,rfl,rfl,t2,rfl,rfl⟩:=e3
 have b0:=Cg.UH t0
 have b1:=Cg.UH t1
 have b2:=Cg.UH t2
 obtain ⟨u0,rfl⟩:=De.1 b0
 obtain ⟨u1,rfl⟩:=De.1 b1
 obtain ⟨u2,rfl⟩:=De.1 b2
 rw [List.append_nil] at hF
 have hnF:(F0++(F1++F2)).Nodup:=(Cb.1 hn).2.sublist (by
  have:=aw (List.singleton_sublist.2 (Bq hF))
  simpa using this)
 have cell: ∀c u,([u0]++([u1]++([u2]++ [])))[c]?=some u->w.cell? ⟨g,o*3+(j*3)+c,none⟩=some u:= λc u hc=>by
  rw [cellOf h.Qi,show o*3+j*3+c=(o+j)*3+c by rw [Dc]]
  exact e2 c u hc
 exact ⟨u0,u1,u2,F0,F1,F2,cell 0 u0 rfl,cell 1 u1 rfl,cell 2 u2 rfl,hF,hnF,λhh=>(Cb.1 hn).1 (Fg.2 ⟨_,Bq hF,hh⟩),t0,t1,t2⟩
theorem sS {w w1:World} {F:List Nat} {g x:Nat} (hb:Gw w.heap.size (· ∈F) w w1) (hg:g<w.heap.size) (h:g∉F) {u:Value} (hc:w.cell? ⟨g,x,none⟩=some u):w1.cell? ⟨g,x,none⟩=some u:=by
 have:=hb.block g hg h
 unfold World.cell? at hc⊢
 rw [this]
 exact hc
theorem mM {w w1:World} {F F':List Nat} (hb:Gw w.heap.size (· ∈F) w w1) (h: ∀b∈F',b∉F) {τ:Ty} {cs:List Value} {x:τ.den} (hc:Cg w F' τ cs x):Cg w1 F' τ cs x:=
 Cg.Ez F' τ cs x hc hb.size λb iJ=>hb.block b (Cg.lt F' τ cs x hc b iJ) (h b iJ)
theorem Rem.adv {w w1:World} {g o:Nat} {tid:TypeId} {cur:Array Value} {Fs:List (List Nat)} {ts:List TT} {i j:Nat} {F G:List Nat} (hR:Rem w g o tid cur Fs ts i) (iK:i<=j) (hb:Gw w.heap.size (· ∈F) w w1) (hn:(g::List.flatten Fs).Nodup) {m:Nat} (hm:Fs[m]?=some G) (hG: ∀b∈F,b∈G) (hmj:m<j):Rem w1 g o tid cur Fs ts j:=by
 have ya: ∀b∈F,b∈List.flatten Fs:= λb hb=>Fg.2 ⟨G,Bq hm,hG b hb⟩
 refine ⟨(hb.block g (Ft hR.Qi) λh=>(Cb.1 hn).1 (ya _ h)).trans hR.Qi,λk t F' hk ht hF'=>?_⟩
 obtain ⟨es,e1,e2,e3⟩:=hR.els k t F' (by omega) ht hF'
 refine ⟨es,e1,e2,mM hb (λb iJ hF=>?_) e3⟩
 have:=dj Fs m k G F' b (Cb.1 hn).2 hm hF' (hG b hF) iJ
 omega
theorem oW {w wr w1:World} {F:List Nat} {Fs:List (List Nat)} (h:Gw w.heap.size (λb=>b∈List.flatten Fs) w wr) (hb:Gw wr.heap.size (· ∈F) wr w1) {m:Nat} {G:List Nat} (hm:Fs[m]?=some G) (hG: ∀b∈F,b∈G):Gw w.heap.size (λb=>b∈List.flatten Fs) w w1:=
 h.trans ⟨hb.os,hb.tape,hb.output,hb.size,λb iJ hF=>hb.block b (Dn iJ h.size) λhh=>hF (Fg.2 ⟨G,Bq hm,hG b hh⟩)⟩
set_option maxHeartbeats 4000000 in
set_option maxRecDepth 100000 in
theorem KD (g o cap:Nat) (tid:TypeId) (cur:Array Value) (Fs:List (List Nat)) (ts:List TT) (k0:Int) (w:World) (hl:Fs.length=ts.length) (hn:(g::List.flatten Fs).Nodup) (hs:Gv ts) (hk:low k0/\low (k0+Lk ts)) (hr:Rem w g o tid cur Fs ts 0):
  Calls Tryz.prog 30 #[.slice (some ⟨g,o*3,none⟩) ts.length cap, .int .i64 k0] w λe w'=>e= .returned (.int .i64 (k0+Lk ts))/\Gw w.heap.size (λb=>b∈List.flatten Fs) w w':=by
 have mixed:=SF
 have hlen:ts.length<=4294967296:=hs.1
 go_enter Tryz.func30,Tryz.ntmps30
 go_wp2
 go_loopw [1,5] (λk i wr=> ∃j:Nat,j<=ts.length/\i= .int .i64 j/\k= .int .i64 (k0+Lk (ts.take j))/\Rem wr g o tid cur Fs ts j/\Gw w.heap.size (λb=>b∈List.flatten Fs) w wr)
  (λ_ i _=>ts.length-(RowKit.intOf i).toNat)
 case atStart=>exact ⟨0,Iq _,rfl,by simp [Lk],hr,Gw.refl _ _ _⟩
 case round=>
  obtain ⟨j,hj,rfl,rfl,hR,hB⟩:=hrel
  by_cases hjl:j<ts.length
  ·obtain ⟨u0,u1,u2,F0,F1,F2,c0,c1,c2,q0,q1,q2,t0,t1,t2⟩:=hR.parts hl hn hjl
   obtain ⟨n0,n12,_⟩:=Cy.1 q1
   obtain ⟨n1,n2,_⟩:=Cy.1 n12
   have hT:=hs.2 _ (Aj hjl)
   have hle:=Ac9 ts (j+1)
   rw [vV hjl] at hle
   obtain ⟨⟨k1,k2⟩,k3,k4⟩:=hk
   have Atg:Afg ts[j]=ts[j].1.length+Eb ts[j].2.1+ts[j].2.2.1.length:=rfl
   have hg:g<wr.heap.size:=Ft hR.Qi
   have l1:low (k0+(Lk (ts.take j):Nat)):=⟨by omega,by omega⟩
   have l2:low (k0+(Lk (ts.take j):Nat)+(ts[j].1.length:Nat)):=⟨by omega,by omega⟩
   have l3:low (k0+(Lk (ts.take j):Nat)+(ts[j].1.length:Nat)+(Eb ts[j].2.1:Nat)):=⟨by omega,by omega⟩
   clear hr hle
   have g0:g∉F0:= λh=>q2 (Bc _ h)
   have g1:g∉F1:= λh=>q2 (Bt _ (Bc _ h))
   have d01: ∀b∈F1,b∉F0:= λb h h'=>(Cy.1 q1).2.2 b h' b (Bc _ h) rfl
   have d02: ∀b∈F2,b∉F0:= λb h h'=>(Cy.1 q1).2.2 b h' b (Bt _ h) rfl
   have d12: ∀b∈F2,b∉F1:= λb h h'=>(Cy.1 n12).2.2 b h' b h rfl
   have s0: ∀b∈F0,b∈F0++(F1++F2):= λb h=>Bc _ h
   have s1: ∀b∈F1,b∈F0++(F1++F2):= λb h=>Bt _ (Bc _ h)
   have s2: ∀b∈F2,b∈F0++(F1++F2):= λb h=>Bt _ (Bt _ h)
   go_wp2_with (first
    |(go_at_call 31;refine (vJ Au9 n2 ⟨hT.2.2,l3⟩).mono ?_;rintro e3 w3 ⟨rfl,hb3⟩)
    |(go_at_call 60;refine (IY t1' n1 ⟨hT.2.1,l2,l3⟩).mono ?_;rintro e2 w2 ⟨rfl,hb2⟩;have Awj:=sS hb2 hg1 g1 c2';have Au9:=mM hb2 d12 t2')
    |(go_at_call 31;refine (vJ t0 n0 ⟨hT.1,l1⟩).mono ?_;rintro e1 w1 ⟨rfl,zB⟩;have c1':=sS zB hg g0 c1;have c2':=sS zB hg g0 c2;have t1':=mM zB d01 t1;have t2':=mM zB d02 t2;have hg1:g<w1.heap.size:=Dn hg zB.size))
   refine ⟨⟨j+1,by omega,by go_num,?_,((hR.adv (Nat.le_succ j) zB hn q0 s0 (Nat.lt_succ_self j)).adv (Ao _) hb2 hn q0 s1 (Nat.lt_succ_self j)).adv (Ao _) hb3 hn q0 s2 (Nat.lt_succ_self j),oW (oW (oW hB zB q0 s0) hb2 q0 s1) hb3 q0 s2⟩,by simp [RowKit.intOf];omega⟩
   rw [vV hjl,Atg]
   congr 1
   push_cast
   omega
  ·have hjl:j=ts.length:=by omega
   subst hjl
   clear hr hn
   go_wp2
   all_goals go_ret
   exact ⟨by rw [Ap];rfl,hB⟩
set_option maxHeartbeats 4000000 in
set_option maxRecDepth 100000 in
theorem DE (base:Option Addr) (cap:Nat) (k0:Int) (w:World):
  Calls Tryz.prog 30 #[.slice base 0 cap, .int .i64 k0] w λe w'=>e= .returned (.int .i64 k0)/\w'=w:=by
 have mixed:=SF
 go_enter Tryz.func30,Tryz.ntmps30
 go_wp2
 go_loop [1,5] (λk i=>k= .int .i64 k0/\i= .int .i64 0) (λ_ _=>0)
 case atStart=>exact ⟨rfl,rfl⟩
 case round=>
  obtain ⟨rfl,rfl⟩:=hrel
  go_wp2
  all_goals go_ret
  exact ⟨rfl,rfl⟩
theorem BR:By Tryz.prog 30 Lh:=by
 refine ⟨bG Tryz.func30 (by kernel_rfl) (by kernel_rfl),λw S π us x r o g vs hA _ hIn hP hS hno ZE=>?_⟩
 obtain ⟨ts,k,⟨⟩⟩:=x
 have hp:Gv ts/\low k/\low (k+Lk ts):=Cc λhn=>by
  have:Lh.fn (ts,k,())=none:=Ag hn
  rw [this] at ZE;cases ZE
 have hv:Lh.fn (ts,k,())=some ((k+Lk ts,()),()):=Ab hp
 rw [hv] at ZE
 cases ZE
 cases us with
 |nil=>exact hIn.elim
 |cons u us=>
 cases us with
 |nil=>exact hIn.2.elim
 |cons u1 us=>
 cases us with
 |cons u2 us=>exact hIn.2.2.elim
 |nil=>
 obtain ⟨⟨hO,hR⟩,⟨_,hI⟩,_⟩:=hIn
 obtain ⟨rfl,_⟩:=hA
 have hu1:u1= .int .i64 k:=by
  obtain ⟨cs,hc,rfl⟩:=hI
  simp only [Cells] at hc
  subst hc;rfl
 subst hu1
 have fin: ∀(w':World),Gw w.heap.size (λb=>Ud π b\/Lh.gv g b) w w'-> ∀e,e=Ending.returned (.int .i64 (k+Lk ts))->
   ∃v Sb ρ,e= .returned v/\qh Lh w' ρ (Sb.drop Lh.Zv) v/\gU Lh π w' g Sb ()/\Gw w.heap.size (λb=>Ud π b\/Lh.gv g b) w w'/\Ll w' (gH S π ρ) π 0 Lh.ins ()/\Jb w' (gH S π ρ) ρ 0 Lh.outs (k+Lk ts,()) Sb/\
    eI ρ (λb=>b<w'.heap.size/\(w.heap.size<=b\/ ∃l q,l<Bn/\π l=some q/\q.Ct b))/\(∀l,(∀k,k<Lh.Tx->l≠Jp k)->ρ l=none)/\(∀kj∈Lh.keeps,xG w w' (π (Dr false kj.1)) (ρ (Jp kj.2)) (Lh.Ez (ts,k,()))):=by
  intro w' hb e he
  exact ⟨_,[.int .i64 (k+Lk ts)],λ_=>none,he,⟨.inl rfl,trivial⟩,trivial,hb,trivial,⟨⟨rfl,⟨[.int .i64 (k+Lk ts)],rfl,rfl⟩⟩,trivial⟩,⟨(λ_ _ _ hl _=>by cases hl),(λ_ _ _ _ _ hl _ _ _=>by cases hl)⟩,λ_ _=>rfl,λ_ hk=>by cases hk⟩
 show Calls Tryz.prog _ #[u, .int .i64 k] w _
 by_cases h0:ts= []
 ·subst h0
  have hu: ∃base cap,u= .slice base 0 cap:=by
   cases hq:π (Dr false 0) with
   |none=>rw [hq] at hO;exact ⟨none,0,hO.1⟩
   |some q=>rw [hq] at hO;obtain ⟨ad,h1,_⟩:=hO;exact ⟨some ad,_,h1⟩
  obtain ⟨base,cap,rfl⟩:=hu
  refine (DE base cap k w).mono λe w' ⟨he,hw⟩=>?_
  subst hw
  exact fin _ (Gw.refl _ _ _) e (by rw [he];simp [Lk])
 ·cases hq:π (Dr false 0) with
  |none=>
   rw [hq] at hR
   exact absurd hR h0
  |some q=>
   rw [hq] at hO hR
   obtain ⟨ad,hu,ho,MB⟩:=hO
   obtain ⟨f1,cur,ti,f3,f4,f5,f6,Fs,t1,t2,t3,t4⟩:=hR
   have hlen:0<ts.length:=List.length_pos_iff.2 h0
   have MB:=MB (Dn hlen f6)
   subst MB
   have hu:u= .slice (some ⟨q.g,q.o*3,none⟩) ts.length q.cap:=hu
   subst hu
   refine (KD q.g q.o q.cap ti cur Fs ts k w t1 t2 hp.1 hp.2 ⟨f3,λi t F _ ht hF=>t4 i t F ht hF⟩).mono λe w' ⟨he,hb⟩=>?_
   exact fin w' ⟨hb.os,hb.tape,hb.output,hb.size,λb iJ hn=>hb.block b iJ λhh=>hn (.inl ⟨_,q,hq,t3 b hh⟩)⟩ e he
theorem rk: ∀(ts:List TT) (room:Int),roomy room-> ¬cd ts room<0->((Lk ts:Nat):Int)<=room-cd ts room/\roomy (cd ts room)
 | [],room,hr,_=>⟨by simp [Lk,cd],hr⟩
 |t::ts,room,hr,h=>by
  simp only [cd] at h⊢
  split at h
  ·exact absurd (show (-1:Int)<0 by decide) h
  ·rename_i h1
   rw [Ag h1]
   obtain ⟨a,b⟩:=Abq hr h1
   obtain ⟨c,d⟩:=rk ts _ b h
   refine ⟨?_,d⟩
   simp only [Lk,Afg]
   omega
theorem WJ {ts:List TT} {room:Int} (hr:roomy room) (h: ¬bV ts room<0):((Lk ts:Nat):Int)<=room-bV ts room/\roomy (bV ts room):=by
 unfold bV at h⊢
 split at h
 ·exact absurd (show (-1:Int)<0 by decide) h
 ·rename_i h1
  rw [Ag h1]
  obtain ⟨h2,h3⟩:=hr
  obtain ⟨a,b⟩:=rk ts _ (show roomy (room-ts.length) from ⟨by omega,by omega⟩) h
  exact ⟨by omega,b⟩
theorem GN (ts:List TT):decide (ts=ts)=true:=Fa rfl
end Go.Proofs.YtfolipnappekaaaGreat
