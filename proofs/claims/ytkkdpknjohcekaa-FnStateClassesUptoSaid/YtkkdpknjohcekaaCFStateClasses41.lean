/-
  Part 42 of the proof that the statement FnStateClasses holds.
-/
import Derived.Test.YtkkdpknjohcekaaCFStateClasses40
namespace Go.Proofs.Ytkkdpknjohcekaa
open Go.RowKit
def ap (p:List Int) (i:Nat):Nat:=(Hz p (i:Int)).toNat
def Pm (n:Nat) (p:List Int):Prop:=p.length=n/\Yx p
theorem Pm.n1 {n:Nat} {p:List Int} (h:Pm n p):1<=n:=h.1▸h.2.pos
theorem Pm.n2 {n:Nat} {p:List Int} (h:Pm n p):n<=20:=h.1▸h.2.len
theorem Pm.Yh {n:Nat} {p:List Int} (h:Pm n p) {i:Nat} (hi:i<n):Hz p (i:Int)=(ap p i:Int)/\ap p i<n:=by
 have j8:i<p.length:=by rw [h.1];exact hi
 have:=h.2.row _ (Al j8)
 unfold ap
 rw [Ig j8]
 have h1:=h.1
 omega
theorem Pm.lt {n:Nat} {p:List Int} (h:Pm n p) {i:Nat} (hi:i<n):ap p i<n:=(h.Yh hi).2
theorem Pm.ext {n:Nat} {p q:List Int} (h:Pm n p) (k:Pm n q) (e: ∀i,i<n->ap p i=ap q i):p=q:=by
 refine List.ext_getElem (by rw [h.1,k.1]) λi h1 h2=>?_
 have hi:i<n:=by rw [<-h.1];exact h1
 have a:=(h.Yh hi).1
 have b:=(k.Yh hi).1
 rw [Ig h1] at a
 rw [Ig h2] at b
 rw [a,b,e i hi]
theorem Pm.inj {n:Nat} {p:List Int} (h:Pm n p) {i j:Nat} (hi:i<n) (hj:j<n) (e:ap p i=ap p j):i=j:=
 h.2.inj i j (by rw [h.1];exact hi) (by rw [h.1];exact hj) e
theorem Pm.HL {n:Nat} {p:List Int} (h:Pm n p) {k:Nat} (hk:k<n): ∃i,i<n/\ap p i=k:=by
 obtain ⟨i,h1,h2⟩:=h.2.HL k (by rw [h.1];exact hk)
 exact ⟨i,by rw [<-h.1];exact h1,h2⟩
theorem Pm.of {n:Nat} {p:List Int} (hl:p.length=n) (h1:1<=n) (h2:n<=20) (f:Nat->Nat) (hf: ∀i,i<n->p[i]?=some (f i:Int)/\f i<n) (hi: ∀i j,i<n->j<n->f i=f j->i=j):Pm n p:=by
 refine ⟨hl,by omega,by omega,λy hy=>?_,?_⟩
 ·obtain ⟨i,hi,rfl⟩:=Bx.1 hy
  obtain ⟨h3,h4⟩:=hf i (by omega)
  rw [Ab hi] at h3
  rw [Ax h3]
  omega
 ·refine De.2 λi j h3 h4 h5 h6=>?_
  have a:=(hf i (by omega)).1
  have b:=(hf j (by omega)).1
  rw [Ab h3] at a
  rw [Ab h4] at b
  rw [Ax a,Ax b] at h6
  have:=hi i j (by omega) (by omega) (by omega)
  omega
theorem zz {n:Nat} {p q:List Int} (hp:Pm n p) (hq:Pm n q) {i:Nat} (hi:i<n):(Aj p q)[i]?=some (ap q (ap p i):Int):=by
 have h1:i<p.length:=by rw [hp.1];exact hi
 unfold Aj
 rw [Fl,Ab h1]
 have a:=(hp.Yh hi).1
 rw [Ig h1] at a
 simp only [Ak,a]
 rw [(hq.Yh (hp.Yh hi).2).1]
theorem Pm.comp {n:Nat} {p q:List Int} (hp:Pm n p) (hq:Pm n q):Pm n (Aj p q):=
 Pm.of (by rw [Na,hp.1]) hp.n1 hp.n2 (λi=>ap q (ap p i)) (λi hi=>⟨zz hp hq hi,hq.lt (hp.lt hi)⟩) λi j hi hj e=>hp.inj hi hj (hq.inj (hp.lt hi) (hp.lt hj) e)
theorem RL {p:List Int} {i k:Nat} (h:p[i]?=some (k:Int)):ap p i=k:=by
 unfold ap Hz
 rw [As,Ah,h]
 simp
theorem Jc {n:Nat} {p q:List Int} (hp:Pm n p) (hq:Pm n q) {i:Nat} (hi:i<n):ap (Aj p q) i=ap q (ap p i):=RL (zz hp hq hi)
theorem DO {n i:Nat} (hi:i<n):(upto n)[i]?=some (i:Int):=by simp [upto,hi]
theorem jg {n i:Nat} (hi:i<n):ap (upto n) i=i:=RL (DO hi)
theorem Pm.id {n:Nat} (h1:1<=n) (h2:n<=20):Pm n (upto n):=Pm.of (by simp [upto]) h1 h2 (λi=>i) (λi hi=>⟨DO hi,hi⟩) λ_ _ _ _ e=>e
theorem LG {n:Nat} {p:List Int} (hp:Pm n p) {i:Nat} (hi:i<n):(Bc p)[ap p i]?=some (i:Int):=GQ hp.2 (by rw [hp.1];exact hi)
theorem iB {n:Nat} {p:List Int} (hp:Pm n p) {i:Nat} (hi:i<n):ap (Bc p) (ap p i)=i:=RL (LG hp hi)
theorem wy {n:Nat} {p:List Int} (hp:Pm n p) {k:Nat} (hk:k<n):ap p (ap (Bc p) k)=k:=by
 obtain ⟨i,hi,rfl⟩:=hp.HL hk
 rw [iB hp hi]
theorem Pm.inv {n:Nat} {p:List Int} (hp:Pm n p):Pm n (Bc p):=by
 refine Pm.of (by rw [Yb,hp.1]) hp.n1 hp.n2 (λk=>ap (Bc p) k) (λk hk=>?_) λi j hi hj e=>?_
 ·obtain ⟨i,hi,rfl⟩:=hp.HL hk
  rw [iB hp hi]
  exact ⟨LG hp hi,hi⟩
 ·rw [<-wy hp hi,<-wy hp hj,e]
theorem Ed {n:Nat} {p q r:List Int} (hp:Pm n p) (hq:Pm n q) (hr:Pm n r):Aj (Aj p q) r=Aj p (Aj q r):=
 ((hp.comp hq).comp hr).ext (hp.comp (hq.comp hr)) λi hi=>by rw [Jc (hp.comp hq) hr hi,Jc hp hq hi,Jc hp (hq.comp hr) hi,Jc hq hr (hp.lt hi)]
theorem comp_id {n:Nat} {p:List Int} (hp:Pm n p):Aj p (upto n)=p:=
 (hp.comp (Pm.id hp.n1 hp.n2)).ext hp λi hi=>by rw [Jc hp (Pm.id hp.n1 hp.n2) hi,jg (hp.lt hi)]
theorem id_comp {n:Nat} {p:List Int} (hp:Pm n p):Aj (upto n) p=p:=
 ((Pm.id hp.n1 hp.n2).comp hp).ext hp λi hi=>by rw [Jc (Pm.id hp.n1 hp.n2) hp hi,jg hi]
theorem Ux {n:Nat} {p:List Int} (hp:Pm n p):Aj p (Bc p)=upto n:=
 (hp.comp hp.inv).ext (Pm.id hp.n1 hp.n2) λi hi=>by rw [Jc hp hp.inv hi,iB hp hi,jg hi]
theorem Vh {n:Nat} {p:List Int} (hp:Pm n p):Aj (Bc p) p=upto n:=
 (hp.inv.comp hp).ext (Pm.id hp.n1 hp.n2) λi hi=>by rw [Jc hp.inv hp hi,wy hp hi,jg hi]
theorem lW {n:Nat} {p q:List Int} (hp:Pm n p) (hq:Pm n q) (h:Aj p q=upto n):Bc p=q:=by
 rw [<-comp_id hp.inv,<-h,<-Ed hp.inv hp hq,Vh hp,id_comp hq]
theorem inv_mul {n:Nat} {p q:List Int} (hp:Pm n p) (hq:Pm n q):Bc (Aj p q)=Aj (Bc q) (Bc p):=
 lW (hp.comp hq) (hq.inv.comp hp.inv) (by
  rw [Ed hp hq (hq.inv.comp hp.inv),<-Ed hq hq.inv hp.inv,Ux hq,id_comp hp.inv,Ux hp])
theorem inv_inv {n:Nat} {p:List Int} (hp:Pm n p):Bc (Bc p)=p:=lW hp.inv hp (Vh hp)
theorem GR {n:Nat} (h1:1<=n) (h2:n<=20):Bc (upto n)=upto n:=lW (Pm.id h1 h2) (Pm.id h1 h2) (comp_id (Pm.id h1 h2))
inductive cB (n:Nat) (S:List Int->Prop):List Int->Prop where
 |id:cB n S (upto n)
 |mul {p g:List Int} :cB n S p->S g->cB n S (Aj p g)
 |inv {p g:List Int} :cB n S p->S g->cB n S (Aj p (Bc g))
def JX (n:Nat) (S:List Int->Prop):Prop:=(1<=n/\n<=20)/\ ∀g,S g->Pm n g
theorem cB.pm {n:Nat} {S:List Int->Prop} (hS:JX n S) {p:List Int} (h:cB n S p):Pm n p:=by
 induction h with
 |id=>exact Pm.id hS.1.1 hS.1.2
 |mul _ hg ih=>exact ih.comp (hS.2 _ hg)
 |inv _ hg ih=>exact ih.comp (hS.2 _ hg).inv
theorem cB.comp {n:Nat} {S:List Int->Prop} (hS:JX n S) {p q:List Int} (hp:cB n S p) (hq:cB n S q):cB n S (Aj p q):=by
 induction hq with
 |id=>rw [comp_id (hp.pm hS)];exact hp
 |mul hq hg ih=>rw [<-Ed (hp.pm hS) (hq.pm hS) (hS.2 _ hg)];exact .mul ih hg
 |inv hq hg ih=>rw [<-Ed (hp.pm hS) (hq.pm hS) (hS.2 _ hg).inv];exact .inv ih hg
theorem cB.one {n:Nat} {S:List Int->Prop} (hS:JX n S) {g:List Int} (hg:S g):cB n S g:=by
 have:=cB.mul (n:=n) (S:=S) .id hg
 rwa [id_comp (hS.2 g hg)] at this
theorem cB.Ae1 {n:Nat} {S:List Int->Prop} (hS:JX n S) {g:List Int} (hg:S g):cB n S (Bc g):=by
 have:=cB.inv (n:=n) (S:=S) .id hg
 rwa [id_comp (hS.2 g hg).inv] at this
theorem cB.x7 {n:Nat} {S:List Int->Prop} (hS:JX n S) {p:List Int} (hp:cB n S p):cB n S (Bc p):=by
 induction hp with
 |id=>rw [GR hS.1.1 hS.1.2];exact .id
 |mul hq hg ih=>rw [inv_mul (hq.pm hS) (hS.2 _ hg)];exact (cB.Ae1 hS hg).comp hS ih
 |inv hq hg ih=>rw [inv_mul (hq.pm hS) (hS.2 _ hg).inv,inv_inv (hS.2 _ hg)];exact (cB.one hS hg).comp hS ih
theorem cB.trans {n:Nat} {S S':List Int->Prop} (hS':JX n S') (h: ∀g,S g->cB n S' g) {p:List Int} (hp:cB n S p):cB n S' p:=by
 induction hp with
 |id=>exact .id
 |mul _ hg ih=>exact ih.comp hS' (h _ hg)
 |inv _ hg ih=>exact ih.comp hS' ((h _ hg).x7 hS')
abbrev PO:=Option (List Int)
abbrev Row:=List PO
abbrev Ev:=List Row
def Mo (row:Row):List Int:=(upto row.length).filter λy=>(row.getD y.toNat none).isSome
def Nc (T:Ev):Nat->Nat->List Int->Bool
 |0,_,_=>true
 |k+1,i,p=>match (T.getD i []).getD (Hz p (i:Int)).toNat none with
  |none=>false
  |some t=>Nc T k (i+1) (Aj p (Bc t))
def Rg (row:Row):Nat:=row.countP (·.isNone)
def Zt (x:Int) (s:Row×List Int) (o:PO):Row×List Int:=
 match s.1.getD (Hz (o.getD []) x).toNat none with
 |some _=>s
 |none=>(s.1.set (Hz (o.getD []) x).toNat (some (Aj ((s.1.getD x.toNat none).getD []) (o.getD []))),s.2++ [Hz (o.getD []) x])
def Zj (x:Int) (gs:List PO) (s:Row×List Int):Row×List Int:=gs.foldl (Zt x) s
def Yz (gs:List PO):Nat->List Int->Row->Row
 |0,_,row=>row
 |_+1,[],row=>row
 |f+1,x::q,row=>Yz gs f (Zj x gs (row,q)).2 (Zj x gs (row,q)).1
def Yc (gs:List PO) (row:Row):Row:=Yz gs 100 (Mo row) row
def Tb (row:Row) (y:Int) (g:PO):List Int:=
 Aj (Aj ((row.getD y.toNat none).getD []) (g.getD [])) (Bc ((row.getD (Hz (g.getD []) y).toNat none).getD []))
def fc (row:Row) (gs:List PO):List (List Int):=(Mo row).flatMap λy=>gs.map λg=>Tb row y g
def Gy:Nat->Nat->List Int->Ev×Ev->Ev×Ev
 |0,_,_,s=>s
 |k+1,l,p,s=>
  if Nc s.2 (k+1) l p=true then s else
   (fc (Yc (s.1.getD l []++ [some p]) (s.2.getD l [])) (s.1.getD l []++ [some p])).foldl (λs q=>Gy k (l+1) q s)
    (s.1.set l (s.1.getD l []++ [some p]),s.2.set l (Yc (s.1.getD l []++ [some p]) (s.2.getD l [])))
def Fx (l:Nat) (p:List Int):Prop:= ∀i,i<l->ap p i=i
def Gn (n:Nat) (gs:List PO):List Int->Prop:=cB n λg=>some g∈gs
structure XN (n l:Nat) (gs:List PO) (row:Row) (H:List Int->Prop):Prop where
 pg: ∀o∈gs,∃g,o=some g/\Pm n g/\Fx l g
 rl:row.length=n
 r0:row.getD l none=some (upto n)
 rt: ∀y t,row.getD y none=some t->Pm n t/\Fx l t/\ap t l=y/\Gn n gs t
 cl: ∀y t g,row.getD y none=some t->some g∈gs->row.getD (ap g y) none≠none
 sg: ∀y t g t',row.getD y none=some t->some g∈gs->row.getD (ap g y) none=some t'->H (Aj (Aj t g) (Bc t'))
def j4 (n:Nat):Nat->Nat->Ev×Ev->Prop
 |0,l,s=>s.1.getD l []= []
 |k+1,l,s=>j4 n k (l+1) s/\XN n l (s.1.getD l []) (s.2.getD l []) (λq=>Nc s.2 k (l+1) q=true)/\ ∀g,some g∈s.1.getD (l+1) []->Gn n (s.1.getD l []) g
theorem ZW {l1 l2:List Nat} (hn:l1.Nodup) (hs: ∀x∈l1,x∈l2) (hl:l2.length<=l1.length): ∀x∈l2,x∈l1:=by
 induction l1 generalizing l2 with
 |nil=>
  intro x hx
  have:l2= []:=Ce (by simpa using hl)
  rw [this] at hx;cases hx
 |cons a l ih=>
  intro x hx
  obtain ⟨h1,h2⟩:=Ca.1 hn
  have ha:=hs a (by simp)
  by_cases e:x=a
  ·subst e;simp
  ·refine An _ (ih (l2:=l2.erase a) h2 (λy hy=>?_) ?_ x ((List.mem_erase_of_ne e).2 hx))
   ·have hya:y≠a:= λe'=>h1 (by rw [<-e'];exact hy)
    exact (List.mem_erase_of_ne hya).2 (hs y (by simp [hy]))
   ·rw [Ou ha]
    simp only [Aw] at hl
    omega
theorem HN {n:Nat} {g:List Int} (hg:Pm n g) (D:Nat->Bool) (h: ∀y,y<n->D y=true->D (ap g y)=true) {y:Nat} (hy:y<n) (hD:D y=true): ∃x,x<n/\D x=true/\ap g x=y:=by
 have:=ZW (l1:=((List.range n).filter D).map (ap g)) (l2:=(List.range n).filter D) ?_ ?_ (by simp) y (Bd.2 ⟨Ej.2 hy,hD⟩)
 ·obtain ⟨x,hx,e⟩:=Be.1 this
  obtain ⟨h1,h2⟩:=Bd.1 hx
  exact ⟨x,Ej.1 h1,h2,e⟩
 ·refine bp.2 (List.Pairwise.imp_of_mem ?_ (List.nodup_range.filter D))
  intro a b ha hb Hq e
  exact Hq (hg.inj (Ej.1 (Bd.1 ha).1) (Ej.1 (Bd.1 hb).1) e)
 ·intro x hx
  obtain ⟨z,hz,rfl⟩:=Be.1 hx
  obtain ⟨h1,h2⟩:=Bd.1 hz
  exact Bd.2 ⟨Ej.2 (hg.lt (Ej.1 h1)),h z (Ej.1 h1) h2⟩
theorem pI {row:Row} {y:Nat} {t:List Int} (h:row.getD y none=some t):y<row.length:=by
 rw [Ah] at h
 refine Bf λhn=>?_
 rw [Ds (by omega)] at h
 cases h
theorem XN.pms {n l:Nat} {gs:List PO} {row:Row} {H:List Int->Prop} (h:XN n l gs row H):JX n λg=>some g∈gs:=by
 refine ⟨?_,λg hg=>?_⟩
 ·have:=(h.rt l _ h.r0).1
  exact ⟨this.n1,this.n2⟩
 ·obtain ⟨g',e,h1,_⟩:=h.pg _ hg
  cases e;exact h1
theorem Fx.inv {n l:Nat} {p:List Int} (hp:Pm n p) (h:Fx l p) (hl:l<=n):Fx l (Bc p):= λi hi=>by
 have:=iB hp (i:=i) (by omega)
 rwa [h i hi] at this
theorem Fx.comp {n l:Nat} {p q:List Int} (hp:Pm n p) (hq:Pm n q) (h1:Fx l p) (h2:Fx l q) (hl:l<=n):Fx l (Aj p q):= λi hi=>by
 rw [Jc hp hq (by omega),h1 i hi,h2 i hi]
theorem Fx.all {n:Nat} {p:List Int} (hp:Pm n p) (h:Fx n p):p=upto n:=hp.ext (Pm.id hp.n1 hp.n2) λi hi=>by rw [h i hi,jg hi]
theorem Fx.div {n l:Nat} {p t:List Int} (hp:Pm n p) (ht:Pm n t) (h1:Fx l p) (h2:Fx l t) (hl:l<n) (e:ap t l=ap p l):Fx (l+1) (Aj p (Bc t)):= λi hi=>by
 rw [Jc hp ht.inv (by omega)]
 by_cases hil:i<l
 ·rw [h1 i hil];exact h2.inv ht (by omega) i hil
 ·have:i=l:=by omega
  subst this
  rw [<-e,iB ht hl]
theorem lM {n:Nat} (h1:1<=n) (h2:n<=20): ∀(k l:Nat) (s:Ev×Ev),l+k=n->j4 n k l s-> ∀p,Pm n p->Fx l p->(Nc s.2 k l p=true↔Gn n (s.1.getD l []) p)
 |0,l,s,hk,hc,p,hp,hf=>by
  have hl:l=n:=by omega
  subst hl
  rw [hf.all hp]
  exact ⟨λ_=> .id,λ_=>rfl⟩
 |k+1,l,s,hk,hc,p,hp,hf=>by
  obtain ⟨c1,c2,c3⟩:=hc
  have hS:=c2.pms
  have ih:=lM h1 h2 k (l+1) s (by omega) c1
  have hS1:JX n λg=>some g∈s.1.getD (l+1) []:=⟨⟨h1,h2⟩,λg hg=>(c3 g hg).pm hS⟩
  have eU:l<n:=by omega
  constructor
  ·intro h
   simp only [Nc] at h
   rw [show (Hz p (l:Int)).toNat=ap p l from rfl] at h
   split at h
   ·cases h
   ·rename_i t ht
    obtain ⟨t1,t2,t3,t4⟩:=c2.rt _ _ ht
    have hf':=Fx.div hp t1 hf t2 eU t3
    have hg:=((ih _ (hp.comp t1.inv) hf').1 h).trans hS c3
    have:=cB.comp hS hg t4
    rwa [Ed hp t1.inv t1,Vh t1,comp_id hp] at this
  ·intro h
   have key: ∀q,Gn n (s.1.getD l []) q-> ∃t,(s.2.getD l []).getD (ap q l) none=some t/\Gn n (s.1.getD (l+1) []) (Aj q (Bc t)):=by
    intro q hq
    induction hq with
    |id=>
     refine ⟨upto n,by rw [jg eU];exact c2.r0,?_⟩
     rw [GR h1 h2,comp_id (Pm.id h1 h2)]
     exact .id
    | @mul q g hq hg ihq=>
     obtain ⟨t,e1,e2⟩:=ihq
     have hqp:=cB.pm hS hq
     have Wd:=hS.2 _ hg
     obtain ⟨t1,t2,t3,t4⟩:=c2.rt _ _ e1
     cases e3:(s.2.getD l []).getD (ap g (ap q l)) none with
     |none=>exact absurd e3 (c2.cl _ _ _ e1 hg)
     |some t'=>
      obtain ⟨u1,u2,u3,u4⟩:=c2.rt _ _ e3
      have hsg:=c2.sg _ _ _ _ e1 hg e3
      have hfg:Fx (l+1) (Aj (Aj t g) (Bc t')):=Fx.div (t1.comp Wd) u1 (Fx.comp t1 Wd t2 (by obtain ⟨g',e,_,h⟩:=c2.pg _ hg;cases e;exact h) (by omega)) u2 eU (by rw [u3,Jc t1 Wd eU,t3])
      have hgn:=(ih _ ((t1.comp Wd).comp u1.inv) hfg).1 hsg
      refine ⟨t',by rw [Jc hqp Wd eU];exact e3,?_⟩
      have:=cB.comp hS1 e2 hgn
      rwa [show Aj (Aj q (Bc t)) (Aj (Aj t g) (Bc t'))=Aj (Aj q g) (Bc t') by
       rw [Ed hqp t1.inv ((t1.comp Wd).comp u1.inv),Ed t1 Wd u1.inv,<-Ed t1.inv t1 (Wd.comp u1.inv),Vh t1,id_comp (Wd.comp u1.inv),Ed hqp Wd u1.inv]] at this
    | @inv q g hq hg ihq=>
     obtain ⟨t,e1,e2⟩:=ihq
     have hqp:=cB.pm hS hq
     have Wd:=hS.2 _ hg
     obtain ⟨t1,t2,t3,t4⟩:=c2.rt _ _ e1
     have hy:ap q l<n:=hqp.lt eU
     obtain ⟨x,hx,hD,he⟩:=HN Wd (λy=>((s.2.getD l []).getD y none).isSome) (λy hy hd=>by
      obtain ⟨t0,ht0⟩:=Vv.1 hd
      exact Option.ne_none_iff_isSome.1 (c2.cl _ _ _ ht0 hg)) hy (by rw [e1];rfl)
     obtain ⟨t',e3⟩:=Vv.1 hD
     obtain ⟨u1,u2,u3,u4⟩:=c2.rt _ _ e3
     have hsg:=c2.sg _ _ _ _ e3 hg (by rw [he];exact e1)
     have hfg:Fx (l+1) (Aj (Aj t' g) (Bc t)):=Fx.div (u1.comp Wd) t1 (Fx.comp u1 Wd u2 (by obtain ⟨g',e,_,h⟩:=c2.pg _ hg;cases e;exact h) (by omega)) t2 eU (by rw [t3,Jc u1 Wd eU,u3,he])
     have hgn:=cB.x7 hS1 ((ih _ ((u1.comp Wd).comp t1.inv) hfg).1 hsg)
     have hax:ap (Bc g) (ap q l)=x:=by rw [<-he,iB Wd hx]
     refine ⟨t',by rw [Jc hqp Wd.inv eU,hax];exact e3,?_⟩
     have:=cB.comp hS1 e2 hgn
     rwa [show Aj (Aj q (Bc t)) (Bc (Aj (Aj t' g) (Bc t)))=Aj (Aj q (Bc g)) (Bc t') by
      rw [inv_mul (u1.comp Wd) t1.inv,inv_inv t1,inv_mul u1 Wd,Ed hqp t1.inv (t1.comp (Wd.inv.comp u1.inv)),<-Ed t1.inv t1 (Wd.inv.comp u1.inv),Vh t1,id_comp (Wd.inv.comp u1.inv),Ed hqp Wd.inv u1.inv]] at this
   obtain ⟨t,e1,e2⟩:=key p h
   obtain ⟨t1,t2,t3,t4⟩:=c2.rt _ _ e1
   simp only [Nc]
   rw [show (Hz p (l:Int)).toNat=ap p l from rfl,e1]
   exact (ih _ (hp.comp t1.inv) (Fx.div hp t1 hf t2 eU t3)).2 e2
theorem Wv {α:Type} (xs:List α) (i j:Nat) (x d:α):(xs.set i x).getD j d=if i=j/\i<xs.length then x else xs.getD j d:=by
 rw [Ah,Eb,Ah]
 by_cases e:i=j
 ·subst e
  by_cases h:i<xs.length
  ·rw [Ac rfl,Ac h,Ac ⟨rfl,h⟩];rfl
  ·rw [Ac rfl,Ai h,Ai (λhh=>h hh.2),Ds (by omega)]
 ·rw [Ai e,Ai (λhh=>e hh.1)]
theorem cB.mono {n:Nat} {S S':List Int->Prop} (h: ∀g,S g->S' g) {p:List Int} (hp:cB n S p):cB n S' p:=by
 induction hp with
 |id=>exact .id
 |mul _ hg ih=>exact .mul ih (h _ hg)
 |inv _ hg ih=>exact .inv ih (h _ hg)
structure Wb (n l:Nat) (gs:List PO) (row:Row):Prop where
 rl:row.length=n
 r0:row.getD l none=some (upto n)
 rt: ∀y t,row.getD y none=some t->Pm n t/\Fx l t/\ap t l=y/\Gn n gs t
def PG (n l:Nat) (gs:List PO):Prop:= ∀o∈gs,∃g,o=some g/\Pm n g/\Fx l g
structure Ext (n l:Nat) (gs:List PO) (row:Row) (q:List Int) (s':Row×List Int):Prop where
 ok:Wb n l gs s'.1
 mono: ∀y t,row.getD y none=some t->s'.1.getD y none=some t
 phi:s'.2.length+Rg s'.1=q.length+Rg row
 sZ: ∀y∈q,y∈s'.2
 new: ∀y∈s'.2,y∈q\/ ∃yn:Nat,y=yn/\s'.1.getD yn none≠none
 src: ∀y:Nat,s'.1.getD y none≠none->row.getD y none≠none\/(y:Int)∈s'.2
theorem Ext.refl {n l:Nat} {gs:List PO} {row:Row} {q:List Int} (h:Wb n l gs row):Ext n l gs row q (row,q):=⟨h,λ_ _ h=>h,rfl,λ_ h=>h,λ_ h=> .inl h,λ_ h=> .inl h⟩
theorem dY {a b:Row} (h: ∀y t,a.getD y none=some t->b.getD y none=some t) {y:Nat} (hy:a.getD y none≠none):b.getD y none≠none:=by
 cases e:a.getD y none with
 |none=>exact absurd e hy
 |some t=>rw [h y t e];simp
theorem Ext.trans {n l:Nat} {gs:List PO} {row:Row} {q:List Int} {s1 s2:Row×List Int} (h:Ext n l gs row q s1) (k:Ext n l gs s1.1 s1.2 s2):Ext n l gs row q s2:=by
 refine ⟨k.ok,λy t e=>k.mono y t (h.mono y t e),k.phi.trans h.phi,λy hy=>k.sZ y (h.sZ y hy),λy hy=>?_,λy hy=>?_⟩
 ·rcases k.new y hy with h1|h1
  ·rcases h.new y h1 with h2|⟨yn,h2,h3⟩
   ·exact .inl h2
   ·exact .inr ⟨yn,h2,dY k.mono h3⟩
  ·exact .inr h1
 ·rcases k.src y hy with h1|h1
  ·exact (h.src y h1).imp id λh2=>k.sZ _ h2
  ·exact .inr h1
theorem OA {row:Row} {i:Nat} {t:List Int} (h:row.getD i none=none) (hi:i<row.length):Rg (row.set i (some t))+1=Rg row:=by
 unfold Rg
 have e:row[i]=none:=by
  rw [Ah,Ab hi] at h
  exact h
 have h1:=List.countP_set (p:= λo:PO=>o.isNone) (l:=row) (i:=i) (a:=some t) hi
 have GG:0<row.countP (·.isNone):=List.countP_pos_iff.2 ⟨row[i],Al hi,by rw [e];rfl⟩
 rw [h1,e]
 simp
 omega
theorem ZV {n l:Nat} {gs:List PO} (eU:l<n) (hg:PG n l gs) {row:Row} {q:List Int} (h:Wb n l gs row) {x:Nat} {t:List Int} (hx:row.getD x none=some t) {g:List Int} (ho:some g∈gs):
  Ext n l gs row q (Zt (x:Int) (row,q) (some g))/\(Zt (x:Int) (row,q) (some g)).1.getD (ap g x) none≠none:=by
 obtain ⟨g',e,Wd,hgf⟩:=hg _ ho
 cases e
 obtain ⟨t1,t2,t3,t4⟩:=h.rt _ _ hx
 have XL:x<n:=by rw [<-h.rl];exact pI hx
 obtain ⟨a1,a2⟩:=Wd.Yh XL
 unfold Zt
 simp only [Cw,a1,As]
 cases e:row.getD (ap g x) none with
 |some u=>exact ⟨Ext.refl h,by simp only;rw [e];simp⟩
 |none=>
  simp only [hx,Cw]
  have hl:ap g x<row.length:=by rw [h.rl];exact a2
  have hS:JX n λg=>some g∈gs:=⟨⟨t1.n1,t1.n2⟩,λg du=>by obtain ⟨g',e,h1,_⟩:=hg _ du;cases e;exact h1⟩
  have At: ∀y,(row.set (ap g x) (some (Aj t g))).getD y none=if ap g x=y/\ap g x<row.length then some (Aj t g) else row.getD y none:= λy=>Wv _ _ _ _ _
  have Hq: ∀y u,row.getD y none=some u->ap g x≠y:= λy u hu e'=>by rw [<-e',e] at hu;cases hu
  refine ⟨⟨⟨by simp [h.rl],?_,λy u hu=>?_⟩,λy u hu=>?_,?_,λy hy=>Bj _ hy,λy hy=>?_,λy hy=>?_⟩,?_⟩
  ·rw [At,Ai (λhh=>Hq l _ h.r0 hh.1)];exact h.r0
  ·rw [At] at hu
   split at hu
   ·rename_i hc
    cases hu
    exact ⟨t1.comp Wd,Fx.comp t1 Wd t2 hgf (by omega),by rw [Jc t1 Wd eU,t3];exact hc.1, .mul t4 ho⟩
   ·exact h.rt y u hu
  ·show (row.set (ap g x) (some (Aj t g))).getD y none=some u
   rw [At,Ai (λhh=>Hq y u hu hh.1)];exact hu
  ·have:=OA (t:=Aj t g) e hl
   simp only [Au,Aw,Ho]
   omega
  ·rcases Az.1 hy with hy|hy
   ·exact .inl hy
   ·simp only [Ae] at hy
    exact .inr ⟨ap g x,hy,by show (row.set (ap g x) (some (Aj t g))).getD (ap g x) none≠none;rw [At,Ac ⟨rfl,hl⟩];simp⟩
  ·have hy:(row.set (ap g x) (some (Aj t g))).getD y none≠none:=hy
   rw [At] at hy
   split at hy
   ·rename_i hc
    exact .inr (by show (y:Int)∈q++ [(ap g x:Int)];rw [<-hc.1];simp)
   ·exact .inl hy
  ·show (row.set (ap g x) (some (Aj t g))).getD (ap g x) none≠none
   rw [At,Ac ⟨rfl,hl⟩];simp
theorem VC {n l:Nat} {gs:List PO} (eU:l<n) (hg:PG n l gs): ∀(gs':List PO) {row:Row} {q:List Int},(∀o∈gs',o∈gs)->Wb n l gs row-> ∀ {x:Nat} {t:List Int},row.getD x none=some t->
  Ext n l gs row q (Zj (x:Int) gs' (row,q))/\ ∀g,some g∈gs'->(Zj (x:Int) gs' (row,q)).1.getD (ap g x) none≠none
 | [],row,q,_,h,x,t,hx=>⟨Ext.refl h,λg hg=>by cases hg⟩
 |o::gs',row,q,hs,h,x,t,hx=>by
  obtain ⟨g,rfl,_,_⟩:=hg o (hs o (by simp))
  obtain ⟨e1,e2⟩:=ZV (q:=q) eU hg h hx (hs (some g) (by simp))
  obtain ⟨f1,f2⟩:=VC eU hg gs' (q:=(Zt (x:Int) (row,q) (some g)).2) (λo ho=>hs o (by simp [ho])) e1.ok (e1.mono x t hx)
  have hb:Zj (x:Int) (some g::gs') (row,q)=Zj (x:Int) gs' ((Zt (x:Int) (row,q) (some g)).1,(Zt (x:Int) (row,q) (some g)).2):=rfl
  rw [hb]
  refine ⟨e1.trans f1,λg' du=>?_⟩
  rcases Ay.1 du with e|du
  ·cases e;exact dY f1.mono e2
  ·exact f2 g' du
def MF (gs:List PO) (q:List Int) (row:Row):Prop:=
 (∀y∈q,∃yn:Nat,y=yn/\row.getD yn none≠none)/\ ∀y:Nat,row.getD y none≠none->(y:Int)∈q\/ ∀g,some g∈gs->row.getD (ap g y) none≠none
theorem IB {n l:Nat} {gs:List PO} (eU:l<n) (hg:PG n l gs) {x:Int} {q:List Int} {row:Row} (h:Wb n l gs row) (hq:MF gs (x::q) row):
  Ext n l gs row q (Zj x gs (row,q))/\MF gs (Zj x gs (row,q)).2 (Zj x gs (row,q)).1/\ ∃(xn:Nat) (t:List Int),x=xn/\row.getD xn none=some t:=by
 obtain ⟨xn,rfl,hx⟩:=hq.1 x (by simp)
 cases e:row.getD xn none with
 |none=>exact absurd e hx
 |some t=>
  obtain ⟨e1,e2⟩:=VC eU hg gs (q:=q) (λo ho=>ho) h e
  refine ⟨e1,⟨λy hy=>?_,λy hy=>?_⟩,xn,t,rfl,e⟩
  ·rcases e1.new y hy with h1|h1
   ·obtain ⟨yn,h2,h3⟩:=hq.1 y (by simp [h1])
    exact ⟨yn,h2,dY e1.mono h3⟩
   ·exact h1
  ·rcases e1.src y hy with h1|h1
   ·rcases hq.2 y h1 with h2|h2
    ·rcases Ay.1 h2 with h2|h2
     ·have:y=xn:=by omega
      subst this
      exact .inr λg du=>e2 g du
     ·exact .inl (e1.sZ _ h2)
    ·exact .inr λg du=>dY e1.mono (h2 g du)
   ·exact .inl h1
theorem VK {n l:Nat} {gs:List PO} (eU:l<n) (hg:PG n l gs): ∀(f:Nat) (q:List Int) (row:Row),q.length+Rg row<=f->Wb n l gs row->MF gs q row->
  Wb n l gs (Yz gs f q row)/\(∀y t,row.getD y none=some t->(Yz gs f q row).getD y none=some t)/\ ∀y t g,(Yz gs f q row).getD y none=some t->some g∈gs->(Yz gs f q row).getD (ap g y) none≠none
 |0,q,row,hf,h,hq=>by
  have:q= []:=Ce (by omega)
  subst this
  exact ⟨h,λ_ _ h=>h,λy t g e du=>by
   rcases hq.2 y (by rw [show row.getD y none=some t from e];simp) with h1|h1
   ·cases h1
   ·exact h1 g du⟩
 |f+1,[],row,hf,h,hq=>⟨h,λ_ _ h=>h,λy t g e du=>by
   rcases hq.2 y (by rw [show row.getD y none=some t from e];simp) with h1|h1
   ·cases h1
   ·exact h1 g du⟩
 |f+1,x::q,row,hf,h,hq=>by
  obtain ⟨e1,e2,_⟩:=IB eU hg h hq
  obtain ⟨r1,r2,r3⟩:=VK eU hg f _ _ (by have:=e1.phi;simp only [Aw] at hf;omega) e1.ok e2
  exact ⟨r1,λy t e=>r2 y t (e1.mono y t e),r3⟩
theorem Ti {row:Row} {y:Int} :y∈Mo row↔ ∃yn:Nat,y=yn/\row.getD yn none≠none:=by
 unfold Mo
 rw [Bd,Kn]
 constructor
 ·rintro ⟨h1,h2⟩
  exact ⟨y.toNat,by omega,Option.ne_none_iff_isSome.2 h2⟩
 ·rintro ⟨yn,rfl,h⟩
  obtain ⟨t,ht⟩:=Mt.1 h
  exact ⟨by have:=pI ht;omega,by simpa using Option.ne_none_iff_isSome.1 h⟩
theorem xw (row:Row):(Mo row).length<=row.length:=by
 unfold Mo
 refine Ek (List.length_filter_le _ _) (by simp [upto])
theorem BN (row:Row):Rg row<=row.length:=bm
theorem BT {n l:Nat} {gs:List PO} (eU:l<n) (h2:n<=20) (hg:PG n l gs) {row:Row} (h:Wb n l gs row):
  Wb n l gs (Yc gs row)/\(∀y t,row.getD y none=some t->(Yc gs row).getD y none=some t)/\ ∀y t g,(Yc gs row).getD y none=some t->some g∈gs->(Yc gs row).getD (ap g y) none≠none:=
 VK eU hg 100 _ _ (by have:=xw row;have:=BN row;have:=h.rl;omega) h ⟨λy hy=>Ti.1 hy,λy hy=> .inl (Ti.2 ⟨y,rfl,hy⟩)⟩
theorem zr {n l:Nat} {gs:List PO} (eU:l<n) (hg:PG n l gs): ∀(f:Nat) (q:List Int) (row:Row),q.length+Rg row<=f->Wb n l gs row->MF gs q row->Yz gs f q row=Yz gs (q.length+Rg row) q row
 |0,q,row,hf,_,_=>by
  have:q.length+Rg row=0:=by omega
  rw [this]
 |f+1,[],row,hf,_,_=>by
  cases h:([]:List Int).length+Rg row with
  |zero=>rfl
  |succ m=>rfl
 |f+1,x::q,row,hf,h,hq=>by
  obtain ⟨e1,e2,_⟩:=IB eU hg h hq
  have YQ:=e1.phi
  have:(x::q).length+Rg row=(q.length+Rg row)+1:=by simp only [Aw];omega
  rw [this]
  simp only [Yz]
  rw [zr eU hg f _ _ (by simp only [Aw] at hf;omega) e1.ok e2,YQ]
def zy (row:Row):Nat:=row.countP (·.isSome)
theorem uF: ∀(a b:Row),a.length=b.length->(∀y t,a.getD y none=some t->b.getD y none=some t)->zy a<=zy b/\(zy a=zy b->a=b)
 | [],[],_,_=>⟨Ao _,λ_=>rfl⟩
 | [],_::_,h,_=>by simp at h
 |_::_,[],h,_=>by simp at h
 |x::a,y::b,h,hm=>by
  obtain ⟨h1,h2⟩:=uF a b (by simpa using h) λi t e=>by simpa using hm (i+1) t (by simpa using e)
  unfold zy at h1 h2⊢
  cases x with
  |none=>
   cases y with
   |none=>simp only [List.countP_cons];exact ⟨by simpa using h1,λe=>by rw [h2 (by simpa using e)]⟩
   |some u=>
    simp only [List.countP_cons,Option.isSome_none,Option.isSome_some]
    simp only [Oy,Cx,Qu]
    exact ⟨by omega,λe=>by omega⟩
  |some t=>
   have:=hm 0 t (by simp)
   simp only [Wg] at this
   subst this
   simp only [List.countP_cons]
   exact ⟨by simpa using h1,λe=>by rw [h2 (by simpa using e)]⟩
def kP (T:Ev):Nat->Nat->Nat
 |0,_=>0
 |k+1,l=>zy (T.getD l [])+kP T k (l+1)
def GBf:Nat->Nat->Ev×Ev->Prop
 |0,_,_=>True
 |k+1,l,s=>GBf k (l+1) s/\(s.1.getD l []).length<=kP s.2 (k+1) l
structure aB (l0:Nat) (s s':Ev×Ev):Prop where
 Ai8:s'.1.length=s.1.length
 rj:s'.2.length=s.2.length
 low: ∀i,i<l0->s'.1.getD i []=s.1.getD i []/\s'.2.getD i []=s.2.getD i []
 KJ: ∀i o,o∈s.1.getD i []->o∈s'.1.getD i []
 WE: ∀i y t,(s.2.getD i []).getD y none=some t->(s'.2.getD i []).getD y none=some t
 Aeb: ∀i,(s'.2.getD i []).length=(s.2.getD i []).length
theorem aB.refl (l0:Nat) (s:Ev×Ev):aB l0 s s:=⟨rfl,rfl,λ_ _=>⟨rfl,rfl⟩,λ_ _ h=>h,λ_ _ _ h=>h,λ_=>rfl⟩
theorem aB.trans {l0 l1:Nat} {a b c:Ev×Ev} (h:aB l0 a b) (k:aB l1 b c) (hl:l0<=l1):aB l0 a c:=
 ⟨k.Ai8.trans h.Ai8,k.rj.trans h.rj,λi hi=>⟨(k.low i (by omega)).1.trans (h.low i hi).1,(k.low i (by omega)).2.trans (h.low i hi).2⟩,λi o ho=>k.KJ i o (h.KJ i o ho),λi y t e=>k.WE i y t (h.WE i y t e),λi=>(k.Aeb i).trans (h.Aeb i)⟩
theorem aB.Ij {l0 l1:Nat} {a b:Ev×Ev} (h:aB l1 a b) (hl:l0<=l1):aB l0 a b:=(aB.refl l0 a).trans h hl
theorem gA {T T':Ev} : ∀(k l:Nat) (p:List Int),(∀i,l<=i->i<l+k->T'.getD i []=T.getD i [])->Nc T' k l p=Nc T k l p
 |0,_,_,_=>rfl
 |k+1,l,p,h=>by
  simp only [Nc]
  rw [h l (Ao _) (by omega)]
  split
  ·rfl
  ·exact gA k (l+1) _ λi h1 h2=>h i (by omega) (by omega)
theorem kr {n:Nat} {s s':Ev×Ev} : ∀(k l:Nat),(∀i,l<=i->s'.1.getD i []=s.1.getD i []/\s'.2.getD i []=s.2.getD i [])->j4 n k l s->j4 n k l s'
 |0,l,h,hc=>by simp only [j4] at hc⊢;rw [(h l (Ao _)).1];exact hc
 |k+1,l,h,hc=>by
  simp only [j4] at hc⊢
  obtain ⟨c1,c2,c3⟩:=hc
  refine ⟨kr k (l+1) (λi hi=>h i (by omega)) c1,?_,?_⟩
  ·rw [(h l (Ao _)).1,(h l (Ao _)).2]
   have e:(λq=>Nc s'.2 k (l+1) q=true)= λq=>Nc s.2 k (l+1) q=true:=funext λq=>by rw [gA k (l+1) q λi h1 h2=>(h i (by omega)).2]
   rw [e];exact c2
  ·rw [(h (l+1) (by omega)).1,(h l (Ao _)).1];exact c3
theorem vJ {T T':Ev} : ∀(k l:Nat),(∀i,l<=i->T'.getD i []=T.getD i [])->kP T' k l=kP T k l
 |0,_,_=>rfl
 |k+1,l,h=>by simp only [kP];rw [h l (Ao _),vJ k (l+1) λi hi=>h i (by omega)]
theorem qK {s s':Ev×Ev} : ∀(k l:Nat),(∀i,l<=i->s'.1.getD i []=s.1.getD i []/\s'.2.getD i []=s.2.getD i [])->GBf k l s->GBf k l s'
 |0,_,_,_=>trivial
 |k+1,l,h,hg=>⟨qK k (l+1) (λi hi=>h i (by omega)) hg.1,by
  rw [(h l (Ao _)).1,vJ (k+1) l λi hi=>(h i hi).2];exact hg.2⟩
theorem CI {T T':Ev} (hl: ∀i,(T'.getD i []).length=(T.getD i []).length) (hm: ∀i y t,(T.getD i []).getD y none=some t->(T'.getD i []).getD y none=some t):
  ∀(k l:Nat),kP T k l<=kP T' k l/\(kP T k l=kP T' k l-> ∀i,l<=i->i<l+k->T'.getD i []=T.getD i [])
 |0,l=>⟨Ao _,λ_ i h1 h2=>by omega⟩
 |k+1,l=>by
  obtain ⟨h1,h2⟩:=CI hl hm k (l+1)
  obtain ⟨h3,h4⟩:=uF (T.getD l []) (T'.getD l []) (hl l).symm (hm l)
  simp only [kP]
  refine ⟨by omega,λe i g1 g2=>?_⟩
  by_cases hi:i=l
  ·subst hi;exact (h4 (by omega)).symm
  ·exact h2 (by omega) i (by omega) (by omega)
def V (n k l:Nat) (s:Ev×Ev):Prop:=s.1.length=n/\s.2.length=n/\j4 n k l s/\GBf k l s
structure Afr (n k l:Nat) (s:Ev×Ev) (p:List Int) (s':Ev×Ev):Prop where
 v:V n k l s'
 grow:aB l s s'
 Ai5:Gn n (s'.1.getD l []) p
 gens: ∀o∈s'.1.getD l [],o∈s.1.getD l []\/o=some p
theorem XN.row {n l:Nat} {gs:List PO} {row:Row} {H:List Int->Prop} (h:XN n l gs row H):Wb n l gs row:=⟨h.rl,h.r0,h.rt⟩
theorem ic {row:Row} {y:Nat} {t g t':List Int} (h1:row.getD y none=some t) (h2:row.getD (ap g y) none=some t'):Tb row (y:Int) (some g)=Aj (Aj t g) (Bc t'):=by
 unfold Tb
 rw [As,h1,Cw,Cw,show (Hz g (y:Int)).toNat=ap g y from rfl,h2,Cw]
theorem nt {n l:Nat} {gs:List PO} {row:Row} (hg:PG n l gs) (_h:Wb n l gs row) (hc: ∀y t g,row.getD y none=some t->some g∈gs->row.getD (ap g y) none≠none) {q:List Int} :
  q∈fc row gs↔ ∃(y:Nat) (t g t':List Int),row.getD y none=some t/\some g∈gs/\row.getD (ap g y) none=some t'/\q=Aj (Aj t g) (Bc t'):=by
 unfold fc
 rw [Ey]
 constructor
 ·rintro ⟨y,hy,hq⟩
  obtain ⟨o,ho,rfl⟩:=Be.1 hq
  obtain ⟨yn,rfl,hyn⟩:=Ti.1 hy
  obtain ⟨t,ht⟩:=Mt.1 hyn
  obtain ⟨g,rfl,Wd,_⟩:=hg o ho
  obtain ⟨t',GL⟩:=Mt.1 (hc yn t g ht ho)
  exact ⟨yn,t,g,t',ht,ho,GL,ic ht GL⟩
 ·rintro ⟨y,t,g,t',h1,h2,h3,rfl⟩
  obtain ⟨g',e,Wd,_⟩:=hg _ h2
  cases e
  exact ⟨(y:Int),Ti.2 ⟨y,rfl,by rw [h1];simp⟩,Be.2 ⟨some g,h2,ic h1 h3⟩⟩
theorem wv {n:Nat} (h1:1<=n) (h2:n<=20): ∀(k l:Nat) (p:List Int) (s:Ev×Ev),l+k=n->V n k l s->Pm n p->Fx l p->Afr n k l s p (Gy k l p s)
 |0,l,p,s,hk,hv,hp,hf=>by
  have hl:l=n:=by omega
  subst hl
  exact ⟨hv,aB.refl _ _,by rw [hf.all hp];exact .id,λo ho=> .inl ho⟩
 |k+1,l,p,s,hk,hv,hp,hf=>by
  have eU:l<n:=by omega
  obtain ⟨v1,v2,hc,QV⟩:=hv
  have j7:=hc
  obtain ⟨c1,c2,c3⟩:=hc
  unfold Gy
  by_cases hh:Nc s.2 (k+1) l p=true
  ·rw [Ac hh]
   exact ⟨⟨v1,v2,j7,QV⟩,aB.refl _ _,(lM h1 h2 (k+1) l s hk j7 p hp hf).1 hh,λo ho=> .inl ho⟩
  rw [Ai hh]
  generalize KQ:s.1.getD l []++ [some p]=gs
  have cc:some p∈gs:=by rw [<-KQ];simp
  have Wy: ∀o∈s.1.getD l [],o∈gs:= λo ho=>by rw [<-KQ];exact Bj _ ho
  have hg:PG n l gs:= λo ho=>by
   rw [<-KQ] at ho
   rcases Az.1 ho with ho|ho
   ·exact c2.pg o ho
   ·rw [Ae] at ho;exact ⟨p,ho,hp,hf⟩
  have Ahg:Wb n l gs (s.2.getD l []):=⟨c2.rl,c2.r0,λy t e=>⟨(c2.rt y t e).1,(c2.rt y t e).2.1,(c2.rt y t e).2.2.1,(c2.rt y t e).2.2.2.mono λg hg=>Wy _ hg⟩⟩
  obtain ⟨r1,r2,r3⟩:=BT eU h2 hg Ahg
  generalize hR:Yc gs (s.2.getD l [])=R at r1 r2 r3
  have hS:JX n λg=>some g∈gs:=⟨⟨h1,h2⟩,λg du=>by obtain ⟨g',e,h,_⟩:=hg _ du;cases e;exact h⟩
  have ZS: ∀i,((s.1.set l gs).getD i []=if i=l then gs else s.1.getD i [])/\(s.2.set l R).getD i []=if i=l then R else s.2.getD i []:= λi=>by
   rw [Wv,Wv]
   by_cases e:l=i
   ·subst e;rw [Ac ⟨rfl,by omega⟩,Ac rfl,Ac ⟨rfl,by omega⟩,Ac rfl];exact ⟨rfl,rfl⟩
   ·rw [Ai (λhh=>e hh.1),Ai (Fv e),Ai (λhh=>e hh.1),Ai (Fv e)];exact ⟨rfl,rfl⟩
  have hup: ∀i,l+1<=i->(s.1.set l gs).getD i []=s.1.getD i []/\(s.2.set l R).getD i []=s.2.getD i []:= λi hi=>by
   rw [(ZS i).1,(ZS i).2,Ai (by omega),Ai (by omega)];exact ⟨rfl,rfl⟩
  have jb:V n k (l+1) (s.1.set l gs,s.2.set l R):=⟨by simpa using v1,by simpa using v2,kr k (l+1) hup c1,qK k (l+1) hup QV.1⟩
  have Acv:aB l s (s.1.set l gs,s.2.set l R):=by
   refine ⟨by simp,by simp,λi hi=>?_,λi o ho=>?_,λi y t e=>?_,λi=>?_⟩
   ·rw [(ZS i).1,(ZS i).2,Ai (by omega),Ai (by omega)];exact ⟨rfl,rfl⟩
   ·rw [(ZS i).1]
    split
    ·rename_i hi;subst hi;exact Wy o ho
    ·exact ho
   ·rw [(ZS i).2]
    split
    ·rename_i hi;subst hi;exact r2 y t e
    ·exact e
   ·rw [(ZS i).2]
    split
    ·rename_i hi;subst hi;rw [r1.rl,c2.rl]
    ·rfl
  have hq: ∀q∈fc R gs,Pm n q/\Fx (l+1) q/\Gn n gs q:= λq hq=>by
   obtain ⟨y,t,g,t',e1,e2,e3,rfl⟩:=(nt hg r1 r3).1 hq
   obtain ⟨t1,t2,t3,t4⟩:=r1.rt _ _ e1
   obtain ⟨u1,u2,u3,u4⟩:=r1.rt _ _ e3
   obtain ⟨g',e,Wd,hgf⟩:=hg _ e2
   cases e
   exact ⟨(t1.comp Wd).comp u1.inv,Fx.div (t1.comp Wd) u1 (Fx.comp t1 Wd t2 hgf (by omega)) u2 eU (by rw [u3,Jc t1 Wd eU,t3]),cB.comp hS (.mul t4 e2) (cB.x7 hS u4)⟩
  have fold: ∀(qs:List (List Int)) (s1:Ev×Ev),(∀q∈qs,Pm n q/\Fx (l+1) q)->V n k (l+1) s1->
    V n k (l+1) (qs.foldl (λs q=>Gy k (l+1) q s) s1)/\aB (l+1) s1 (qs.foldl (λs q=>Gy k (l+1) q s) s1)/\
     (∀q∈qs,Gn n ((qs.foldl (λs q=>Gy k (l+1) q s) s1).1.getD (l+1) []) q)/\ ∀o∈(qs.foldl (λs q=>Gy k (l+1) q s) s1).1.getD (l+1) [],o∈s1.1.getD (l+1) []\/ ∃q∈qs,o=some q:=by
   intro qs
   induction qs with
   |nil=>exact λs1 _ hv=>⟨hv,aB.refl _ _,(λq hq=>by cases hq),λo ho=>Or.inl ho⟩
   |cons q qs ih=>
    intro s1 YS hv
    have ha:=wv h1 h2 k (l+1) q s1 (by omega) hv (YS q (by simp)).1 (YS q (by simp)).2
    obtain ⟨g1,g2,g3,g4⟩:=ih (Gy k (l+1) q s1) (λq' cA=>YS q' (by simp [cA])) ha.v
    simp only [Nm]
    refine ⟨g1,ha.grow.trans g2 (Ao _),λq' cA=>?_,λo ho=>?_⟩
    ·rcases Ay.1 cA with rfl|cA
     ·exact ha.Ai5.mono λg hg=>g2.KJ _ _ hg
     ·exact g3 q' cA
    ·rcases g4 o ho with h|⟨q',cA,h⟩
     ·rcases ha.gens o h with h|h
      ·exact .inl h
      ·exact .inr ⟨q,by simp,h⟩
     ·exact .inr ⟨q',by simp [cA],h⟩
  obtain ⟨f1,f2,f3,f4⟩:=fold (fc R gs) (s.1.set l gs,s.2.set l R) (λq h=>⟨(hq q h).1,(hq q h).2.1⟩) jb
  generalize (fc R gs).foldl (λs q=>Gy k (l+1) q s) (s.1.set l gs,s.2.set l R)=s' at f1 f2 f3 f4
  obtain ⟨w1,w2,w3,w4⟩:=f1
  have el1:s'.1.getD l []=gs:=by rw [(f2.low l (by omega)).1,(ZS l).1,Ac rfl]
  have el2:s'.2.getD l []=R:=by rw [(f2.low l (by omega)).2,(ZS l).2,Ac rfl]
  have SR:=Acv.trans f2 (by omega)
  have Amf:XN n l gs R (λq=>Nc s'.2 k (l+1) q=true):=⟨hg,r1.rl,r1.r0,r1.rt,r3,λy t g t' e1 e2 e3=>by
   have hm:=(nt hg r1 r3).2 ⟨y,t,g,t',e1,e2,e3,rfl⟩
   exact (lM h1 h2 k (l+1) s' (by omega) w3 _ (hq _ hm).1 (hq _ hm).2.1).2 (f3 _ hm)⟩
  have Aay:j4 n (k+1) l s':=⟨w3,by rw [el1,el2];exact Amf,λg du=>by
   rw [el1]
   rcases f4 _ du with h|⟨q,cA,h⟩
   ·rw [(hup (l+1) (Ao _)).1] at h
    exact (c3 g h).mono λg hg=>Wy _ hg
   ·cases h;exact (hq _ cA).2.2⟩
  have dP:Gn n (s'.1.getD l []) p:=by rw [el1];exact cB.one hS cc
  refine ⟨⟨w1,w2,Aay,w4,?_⟩,SR,dP,λo ho=>?_⟩
  ·have hold:=QV.2
   obtain ⟨p1,p2⟩:=CI SR.Aeb SR.WE (k+1) l
   have Hq:kP s.2 (k+1) l≠kP s'.2 (k+1) l:= λe=>by
    have:=gA (k+1) l p (p2 e)
    rw [(lM h1 h2 (k+1) l s' hk Aay p hp hf).2 dP] at this
    exact hh this.symm
   rw [el1,<-KQ,Au,Bw]
   omega
  ·rw [el1,<-KQ] at ho
   rcases Az.1 ho with ho|ho
   ·exact .inl ho
   ·rw [Ae] at ho;exact .inr ho
theorem UZ {n l:Nat} {gs:List PO} {R:Row} (eU:l<n) (hg:PG n l gs) (r1:Wb n l gs R) (r3: ∀y t g,R.getD y none=some t->some g∈gs->R.getD (ap g y) none≠none): ∀q∈fc R gs,Pm n q/\Fx (l+1) q:=by
 intro q hq
 obtain ⟨y,t,g,t',e1,e2,e3,rfl⟩:=(nt hg r1 r3).1 hq
 obtain ⟨t1,t2,t3,t4⟩:=r1.rt _ _ e1
 obtain ⟨u1,u2,u3,u4⟩:=r1.rt _ _ e3
 obtain ⟨g',e,Wd,hgf⟩:=hg _ e2
 cases e
 exact ⟨(t1.comp Wd).comp u1.inv,Fx.div (t1.comp Wd) u1 (Fx.comp t1 Wd t2 hgf (by omega)) u2 eU (by rw [u3,Jc t1 Wd eU,t3])⟩
theorem V.lower {n k l:Nat} {s:Ev×Ev} (h:V n (k+1) l s) (gs:List PO) (R:Row):V n k (l+1) (s.1.set l gs,s.2.set l R):=by
 obtain ⟨v1,v2,hc,QV⟩:=h
 have hup: ∀i,l+1<=i->(s.1.set l gs).getD i []=s.1.getD i []/\(s.2.set l R).getD i []=s.2.getD i []:= λi hi=>by
  rw [Wv,Wv,Ai (by omega),Ai (by omega)];exact ⟨rfl,rfl⟩
 exact ⟨by simpa using v1,by simpa using v2,kr k (l+1) hup hc.1,qK k (l+1) hup QV.1⟩
theorem KF {n k l:Nat} (h1:1<=n) (h2:n<=20) (hk:l+k=n): ∀(qs:List (List Int)) (s1:Ev×Ev),(∀q∈qs,Pm n q/\Fx l q)->V n k l s1->
  V n k l (qs.foldl (λs q=>Gy k l q s) s1)/\aB l s1 (qs.foldl (λs q=>Gy k l q s) s1)
 | [],s1,_,hv=>⟨hv,aB.refl _ _⟩
 |q::qs,s1,YS,hv=>by
  have ha:=wv h1 h2 k l q s1 hk hv (YS q (by simp)).1 (YS q (by simp)).2
  obtain ⟨g1,g2⟩:=KF h1 h2 hk qs (Gy k l q s1) (λq' cA=>YS q' (by simp [cA])) ha.v
  exact ⟨g1,ha.grow.trans g2 (Ao _)⟩
theorem VB {n:Nat} {s:Ev×Ev} : ∀(k l:Nat),j4 n k l s->kP s.2 k l<=n*k
 |0,_,_=>by simp [kP]
 |k+1,l,hc=>by
  have h1:=VB k (l+1) hc.1
  have h2:zy (s.2.getD l [])<=n:=by
   have:=hc.2.1.rl
   have h3:zy (s.2.getD l [])<=(s.2.getD l []).length:=bm
   omega
  simp only [kP]
  rw [Nat.mul_succ]
  omega
theorem XZ {n k l:Nat} {s:Ev×Ev} (h2:n<=20) (hk:l+(k+1)=n) (h:V n (k+1) l s):(s.1.getD l []).length<=400:=by
 have h3:=h.2.2.2.2
 have h4:=VB (k+1) l h.2.2.1
 have h5:n*(k+1)<=20*20:=Nat.mul_le_mul h2 (by omega)
 omega
theorem V.lvl {n k l:Nat} {s:Ev×Ev} (h:V n (k+1) l s):XN n l (s.1.getD l []) (s.2.getD l []) (λq=>Nc s.2 k (l+1) q=true):=h.2.2.1.2.1
theorem V.pg {n k l:Nat} {s:Ev×Ev} (h:V n (k+1) l s) {p:List Int} (hp:Pm n p) (hf:Fx l p):PG n l (s.1.getD l []++ [some p]):= λo ho=>by
 rcases Az.1 ho with ho|ho
 ·exact h.lvl.pg o ho
 ·rw [Ae] at ho;exact ⟨p,ho,hp,hf⟩
theorem V.Anr {n k l:Nat} {s:Ev×Ev} (h:V n (k+1) l s) (p:List Int):Wb n l (s.1.getD l []++ [some p]) (s.2.getD l []):=
 ⟨h.lvl.rl,h.lvl.r0,λy t e=>⟨(h.lvl.rt y t e).1,(h.lvl.rt y t e).2.1,(h.lvl.rt y t e).2.2.1,(h.lvl.rt y t e).2.2.2.mono λ_ hg=>Bj _ hg⟩⟩
theorem tV {α:Type} (xs:List (List α)) (i:Nat) (h:i<xs.length):xs.set i (xs.getD i [])=xs:=by
 refine List.ext_getElem (by simp) λj h1 h2=>?_
 rw [List.getElem_set]
 split
 ·rename_i e;subst e;rw [Ah,Ab h];rfl
 ·rfl
theorem jt {α:Type} (xs:List (List α)) (i:Nat) (h:i<xs.length) (r:List α):(xs.set i r).getD i []=r:=by
 rw [Wv,Ac ⟨rfl,h⟩]
noncomputable abbrev Qg:MSpec:=fb [none] [(false, .Hx tLO)] false [none] [.row tI 2] (λx=>List.length x.1<=20) (λx=>((Mo x.1,()),()))
noncomputable abbrev Xh:Spec:=Hv (.pair tL (.pair tL .unit)) tO false true (λx=>(0<x.1.length/\x.1.length<=20)/\Kb x.2.1.length x.1) (λx=>some (Aj x.1 x.2.1))
noncomputable abbrev ew:Spec:=Hv (.pair tL (.pair tL .unit)) tL false false (λx=>x.1.length<=20/\Kb x.2.1.length x.1) (λx=>Aj x.1 x.2.1)
noncomputable abbrev Uk:Spec:=Hv (.pair tI .unit) tL false true (λx=>0<=x.1/\x.1<=20) (λx=>upto x.1.toNat)
noncomputable abbrev bQ:Spec:=Hv (.pair tI .unit) tO false true (λx=>1<=x.1/\x.1<=20) (λx=>some (upto x.1.toNat))
abbrev teG:TypeId:=27
structure pU (N L:Nat) (n:Int) (G T:Ev) (l:Int) (p:List Int):Prop where
 n1:1<=N
 n2:N<=20
 en:n=N
 el:l=L
 le:L<=N
 v:V N (N-L) L (G,T)
 pm:Pm N p
 fx:Fx L p
noncomputable abbrev vT:Spec:=Hv (.pair (.ptr yE) (.pair tI (.pair tL .unit))) .bool false true (λx=> ∃N L,pU N L x.1.1 x.1.2.1 x.1.2.2.1 x.2.1 x.2.2.1) (λx=>Nc x.1.2.2.1 (x.1.1-x.2.1).toNat x.2.1.toNat x.2.2.1)
noncomputable abbrev Abq:MSpec:= {ptr:=some (198,3),Ih:= [none,none],ins:= [(false, .Hx tI),(false, .Bo tO teG true),(false, .Bo tO teG true),(false, .Hx tI),(false, .Hx tO)],Gh:=false,Hb:= [],outs:= [.Hx tI, .Bo tO teG false, .Bo tO teG false],fn:= λ_=>none,keeps:= [(1,1),(2,2)],Fb:= λx=>x.2.2.2.1.toNat}
noncomputable abbrev Vp (m:Nat):MSpec:=sY Abq (λx=>(∃N L q,x.2.2.2.2.1=some q/\pU N L x.1 x.2.1 x.2.2.1 x.2.2.2.1 q)/\(x.1-x.2.2.2.1).toNat<m)
 (λx=>((x.1,(Gy (x.1-x.2.2.2.1).toNat x.2.2.2.1.toNat (x.2.2.2.2.1.getD []) (x.2.1,x.2.2.1)).1,(Gy (x.1-x.2.2.2.1).toNat x.2.2.2.1.toNat (x.2.2.2.2.1.getD []) (x.2.1,x.2.2.1)).2,()),()))
theorem EA (n:Int) (P:List Int->Prop):(((0:Int)<=n/\n<(↑Dd:Int)+(1:Int))/\n=n/\0=0/\(List.replicate n.toNat (Int.ofNat (nat_lit 0))).length=(List.replicate n.toNat (Int.ofNat (nat_lit 0))).length/\Dt (λ(v2:Int×List Int×PUnit) (k3:Int×List Int×PUnit->Prop)=>Br (decide (v2.1<(↑(List.replicate n.toNat (Int.ofNat (nat_lit 0))).length:Int))) (((0:Int)<=v2.1/\v2.1<(↑v2.2.1.length:Int))/\0+v2.1.toNat<v2.2.1.length/\0=0/\v2.2.1.length=(v2.2.1.set (0+v2.1.toNat) v2.1).length/\k3 (IntKind.i64.wrap (v2.1+(1:Int)),v2.2.1.set (0+v2.1.toNat) v2.1,())) (P (List.take v2.2.1.length (List.drop 0 v2.2.1)))) ((0:Int),List.replicate n.toNat (Int.ofNat (nat_lit 0)),PUnit.unit))=fnW Hf (look []) Uk Try.f120 (n,()) P:=by kernel_rfl
theorem QJ (row:List (Option (List Int))) (P:(List Int×Unit)×Unit->Prop):(0=0/\0=([]:List Int).length/\Dt (λ(v2:Int×List Int×PUnit) (k3:Int×List Int×PUnit->Prop)=>Br (decide (v2.1<(↑row.length:Int))) (∃(y4:Option (List Int)),idx row v2.1=some y4/\Br (!y4.isNone) (0=0/\v2.2.1.length=v2.2.1.length/\v2.2.1.length+(List.take 1 (List.drop 0 [v2.1])).length<=Dd/\0=0/\(v2.2.1++List.take 1 (List.drop 0 [v2.1])).length=(v2.2.1++List.take 1 (List.drop 0 [v2.1])).length/\k3 (IntKind.i64.wrap (v2.1+(1:Int)),v2.2.1++List.take 1 (List.drop 0 [v2.1]),())) (0=0/\v2.2.1.length=v2.2.1.length/\k3 (IntKind.i64.wrap (v2.1+(1:Int)),v2.2.1,()))) (P ((List.take v2.2.1.length (List.drop 0 v2.2.1),()),()))) ((0:Int),[],PUnit.unit))=fnMW ab (look []) Qg Try.f213 (row,()) P:=by kernel_rfl
theorem Aiy (c:Int×List (List (Option (List Int)))×List (List (Option (List Int)))×Unit) (l:Int) (p:List Int) (P:Bool->Prop):(Dt (λ(v4:List Int×Int×PUnit) (k5:List Int×Int×PUnit->Prop)=>Br (decide (v4.2.1<c.1)) (∃(y6:List (Option (List Int))),idx c.2.2.1 v4.2.1=some y6/\ ∃(y7:Int),idx v4.1 v4.2.1=some y7/\ ∃(y8:Option (List Int)),idx y6 y7=some y8/\Br y8.isNone (P false) (∃(y9:List Int),Gs.fn (y8.getD [],())=some y9/\ ∃(Qq:List Int),ew.fn (v4.1,y9,())=some Qq/\k5 (Qq,IntKind.i64.wrap (v4.2.1+(1:Int)),()))) (P true)) (p,l,PUnit.unit))=fnW ab (look [(143,Gs),(142,ew)]) vT Try.f229 (c,l,p,()) P:=by kernel_rfl
theorem Sound.loose {P:Program} {f:FuncId} {arg res:Ty} {pre:arg.den->Prop} {val:arg.den->res.den} (h:Sound P f (Go.Proofs.Ytkkdpknjohcekaa.Hv arg res false true pre val)):Sound P f (Go.Proofs.Ytkkdpknjohcekaa.Hv arg res false false pre val):=
 ⟨h.enter,λw S vs x y h1 h2 h3=>Calls.mono (h.calls w S vs x y h1 h2 h3) λe' w' hr=>by
  obtain ⟨v,g1,g2,g3⟩:=hr
  exact ⟨v,g1,g2,Ct.Ij (S:= λb=>S b\/(true=true/\b<w.heap.size)) g3 λk _ hk=>hk.elim .inl λhh=>absurd (show false=true from hh.1) (by simp)⟩⟩
theorem sj:Sound Try.prog 142 ew:=Sound.loose Qo
theorem sk:Sound Try.prog 142 Xh:=Sound.toO Qo λx h=>⟨⟨h.1.2,h.2⟩,λe=>by
 have:=Na x.1 x.2.1
 rw [e] at this
 have:=h.1.1
 simp only [Ho] at*
 omega⟩
theorem CA (n:Int) (h:0<=n/\n<=20):fnW Hf (look []) Uk Try.f120 (n,()) (λ(z:List Int)=>z=upto n.toNat):=by
 refine Eq.mp (EA n _) ⟨⟨by omega,by show n<(4294967296:Int)+1;omega⟩,rfl,rfl,rfl,?_⟩
 refine Ci n.toNat (λv=>v.1) (λj v=>v.2.1.length=n.toNat/\v.2.1.take j=upto j) rfl ⟨by simp,by simp [upto]⟩ ?_
 rintro j ⟨i,ys,⟨⟩⟩ K hj hi ⟨h1,h2⟩ hK
 dsimp only at hi h1 h2⊢
 subst hi
 rw [Eh]
 simp only [As,Cj]
 refine Br.dec (λhl=>⟨⟨by omega,by omega⟩,by omega,trivial,by rw [Bt],?_⟩) λhl=>?_
 ·rw [Cg (by omega)]
  refine hK (by omega) _ rfl ⟨by rw [Bt];exact h1,?_⟩
  rw [Hy,List.take_set_of_le (by omega),h2,Zh (by omega),Un]
  rfl
 ·have:j=ys.length:=by omega
  subst this
  rw [Bb] at h2
  rw [Du,Bb,h2,h1]
theorem fm:Sound Try.prog 120 Uk:=
 Sound.Hv Fh Cm mixed Try.func120 (by kernel_rfl) (by kernel_rfl) λx h=>CA x.1 h
theorem Aa4 {n:Int} (h:1<=n/\n<=20):(0<=n/\n<=20)/\upto n.toNat≠ []:=⟨by omega,λe=>by
 have:=Ma List.length e
 simp [upto] at this
 omega⟩
theorem pt:Sound Try.prog 120 bQ:=Sound.toO fm λ_ h=>Aa4 h
theorem BS {row:Row} {j:Nat} :(upto (j+1)).filter (λy=>(row.getD y.toNat none).isSome)=(upto j).filter (λy=>(row.getD y.toNat none).isSome)++if (row.getD j none).isSome=true then [(j:Int)] else []:=by
 rw [Un,List.filter_append]
 congr 1
 simp only [List.filter_cons,List.filter_nil,As]
theorem ON (row:List (Option (List Int))) (h:List.length row<=20):fnMW ab (look []) Qg Try.f213 (row,()) (λ(z:(List Int×Unit)×Unit)=>z=((Mo row,()),())):=by
 refine Eq.mp (QJ row _) ⟨rfl,rfl,?_⟩
 refine Ci row.length (λv=>v.1) (λj v=>v.2.1=(upto j).filter (λy=>(row.getD y.toNat none).isSome)) rfl rfl ?_
 rintro j ⟨i,ys,⟨⟩⟩ K hj hi h1 hK
 dsimp only at hi h1⊢
 subst hi
 refine Br.dec (λhl=>?_) λhl=>?_
 ·have hl:j<row.length:=by omega
  have hlen:ys.length<=j:=by rw [h1];refine Ek (List.length_filter_le _ _) (by simp [upto])
  have hg:row.getD j none=row[j]:=by rw [Ah,Ab hl];rfl
  refine ⟨_,Df hl,Br.of (λhb=>⟨rfl,rfl,?_,rfl,rfl,?_⟩) λhb=>⟨rfl,rfl,?_⟩⟩
  ·show ys.length+1<=4294967296
   omega
  ·rw [Cg (by omega)]
   refine hK hl _ rfl ?_
   show ys++ [(j:Int)]=_
   rw [BS,hg,h1,Ac (by cases e:row[j] with
    |none=>rw [e] at hb;simp at hb
    |some t=>rfl)]
  ·rw [Cg (by omega)]
   refine hK hl _ rfl ?_
   show ys=_
   rw [BS,hg,h1,Ai (by cases e:row[j] with
    |none=>simp
    |some t=>rw [e] at hb;simp at hb),fO]
 ·have:j=row.length:=by omega
  subst this
  rw [Du,Bb,h1]
  rfl
theorem jJ:Da Try.prog 213 Qg:=
 Da.fb nU Cm mixed Try.func213 (by kernel_rfl) (by kernel_rfl) λx h=>ON x.1 h
theorem lk {n:Nat} {s:Ev×Ev} : ∀(k l:Nat),j4 n k l s-> ∀i,l<=i->i<l+k->XN n i (s.1.getD i []) (s.2.getD i []) (λq=>Nc s.2 (l+k-i-1) (i+1) q=true)
 |0,_,_,i,h1,h2=>by omega
 |k+1,l,hc,i,h1,h2=>by
  obtain ⟨c1,c2,_⟩:=hc
  by_cases e:i=l
  ·subst e
   rw [show i+(k+1)-i-1=k by omega]
   exact c2
  ·have:=lk k (l+1) c1 i (by omega) (by omega)
   rwa [show l+1+k-i-1=l+(k+1)-i-1 by omega] at this
theorem zZ {α:Type} {xs:List (List α)} {i:Nat} (h:i<xs.length):xs.getD i []=xs[i]:=by
 rw [Ah,Ab h];rfl
theorem SG {α:Type} {xs:List (Option α)} {i:Nat} (h:i<xs.length):xs.getD i none=xs[i]:=by
 rw [Ah,Ab h];rfl
theorem Pm.row {n:Nat} {p:List Int} (h:Pm n p):Kb n p:=by
 have:=h.2.row
 rwa [h.1] at this
theorem Aii (c:Int×List (List (Option (List Int)))×List (List (Option (List Int)))×Unit) (l:Int) (p:List Int) (h: ∃N L,pU N L c.1 c.2.1 c.2.2.1 l p):
  fnW ab (look [(143,Gs),(142,ew)]) vT Try.f229 (c,l,p,()) (λ(z:Bool)=>z=Nc c.2.2.1 (c.1-l).toNat l.toNat p):=by
 obtain ⟨n,G,T,⟨⟩⟩:=c
 obtain ⟨N,L,h⟩:=h
 obtain ⟨n1,n2,en,el,hle,v,pm,fx⟩:=h
 dsimp only at en el v⊢
 subst en el
 refine Eq.mp (Aiy ((N:Int),G,T,()) (L:Int) p _) ?_
 obtain ⟨v1,v2,v3,v4⟩:=v
 dsimp only at v1 v2
 refine ⟨λv=> ∃i:Nat,L<=i/\i<=N/\v.2.1=i/\Pm N v.1/\Fx i v.1/\Nc T (N-i) i v.1=Nc T (N-L) L p,λv=>N-v.2.1.toNat,⟨L,Ao _,hle,rfl,pm,fx,rfl⟩,?_⟩
 rintro ⟨p',i',⟨⟩⟩ ⟨i,h1,h2,h3,h4,h5,h6⟩
 dsimp only at h3 h4 h5 h6⊢
 subst h3
 rw [show (((N:Int)-(L:Int)).toNat)=N-L by omega,show ((L:Int)).toNat=L by omega,<-h6]
 refine Br.dec (λhl=>?_) λhl=>?_
 ·have hl:i<N:=by omega
  have Wx:=lk (N-L) L v3 i h1 (by omega)
  obtain ⟨a1,a2⟩:=h4.Yh hl
  have hT:i<T.length:=by omega
  have hlen:T[i].length=N:=by have:=Wx.rl;dsimp only at this;rwa [zZ hT] at this
  refine ⟨_,Df hT,_,Df (by rw [h4.1];exact hl),?_⟩
  have e1:p'[i]'(by rw [h4.1];exact hl)=(ap p' i:Int):=by rw [<-a1,Ig]
  rw [e1]
  refine ⟨_,Df (by omega),?_⟩
  have e2:N-i=(N-i-1)+1:=by omega
  have e3:(T.getD i []).getD (Hz p' (i:Int)).toNat none=T[i][ap p' i]'(by omega):=by
   rw [zZ hT];exact SG (by show ap p' i<_;omega)
  rw [e2]
  simp only [Nc,e3]
  refine Br.of (λhb=>?_) λhb=>?_
  ·cases e:T[i][ap p' i]'(by omega) with
   |none=>rfl
   |some t=>rw [e] at hb;simp at hb
  ·cases e:T[i][ap p' i]'(by omega) with
   |none=>rw [e] at hb;simp at hb
   |some t=>
    have ht:(T.getD i []).getD (ap p' i) none=some t:=by rw [<-e];exact e3
    obtain ⟨t1,t2,t3,t4⟩:=Wx.rt _ _ ht
    simp only [Cw]
    refine ⟨_,Ac ⟨by show t.length<=20;rw [t1.1];exact n2,t1.2.row⟩,_,Ac ⟨by show p'.length<=20;rw [h4.1];exact n2,by show Kb (Bc t).length p';rw [Yb,t1.1];exact h4.row⟩,⟨i+1,by omega,by omega,Cg (by omega),h4.comp t1.inv,Fx.div h4 t1 h5 t2 hl t3,?_⟩,?_⟩
    ·rw [show N-(i+1)=N-i-1 by omega]
    ·show N-(IntKind.i64.wrap ((i:Int)+1)).toNat<N-((i:Int)).toNat
     rw [Cg (by omega)]
     omega
 ·rw [show N-i=0 by omega]
  rfl
theorem PI:Sound Try.prog 229 vT:=
 Sound.Hv nU (Bh Qp (Bh sj Cm)) mixed Try.func229 (by kernel_rfl) (by kernel_rfl) λx h=>Aii x.1 x.2.1 x.2.2.1 h
abbrev yB:Type:=Nat×Nat×Int×List (List (Option (List Int)))×Nat×List (List (Option (List Int)))×Nat×List Int×Int×PUnit
abbrev VV:Type:=Nat×Int×List (List (Option (List Int)))×Nat×List (List (Option (List Int)))×Nat×List Int×Int×PUnit
abbrev VX:Type:=Nat×List (List (Option (List Int)))×Nat×List (List (Option (List Int)))×Nat×List Int×Int×PUnit
abbrev Kz (G:List (List (Option (List Int)))) (l:Int) (p:Option (List Int)) (T:List (List (Option (List Int)))) (y7:Bool) (n:Int):Prop:=0=0/\(G.getD (0+l.toNat) []).length=(G.getD (0+l.toNat) []).length/\(G.getD (0+l.toNat) []).length+(List.take 1 (List.drop 0 [p])).length<=Dd/\((0:Int)<=l/\l<(↑G.length:Int))/\0=0/\(G.getD (0+l.toNat) []++List.take 1 (List.drop 0 [p])).length=(G.getD (0+l.toNat) []++List.take 1 (List.drop 0 [p])).length/\0+l.toNat=0+l.toNat/\ [(0,G.length),(0,G.length),(0,G.length),(0,T.length)]= [(0,G.length),(0,G.length),(0,G.length),(0,T.length)]/\(l,p,l,p,y7,l,l,0+l.toNat,p,List.take 1 (List.drop 0 [p]),0+l.toNat,G.set (0+l.toNat) (G.getD (0+l.toNat) []++List.take 1 (List.drop 0 [p])),min G.length (0+l.toNat),T,T.length,n,())=(l,p,l,p,y7,l,l,0+l.toNat,p,List.take 1 (List.drop 0 [p]),0+l.toNat,G.set (0+l.toNat) (G.getD (0+l.toNat) []++List.take 1 (List.drop 0 [p])),min G.length (0+l.toNat),T,T.length,n,PUnit.unit)
theorem Aiu {m:Nat} (n:Int) (G T:List (List (Option (List Int)))) (l:Int) (p:Option (List Int)) (P:(Int×List (List (Option (List Int)))×List (List (Option (List Int)))×Unit)×Unit->Prop):(∃(y7:Bool),vT.fn ((n,List.take G.length (List.drop 0 G),List.take T.length (List.drop 0 T),()),l,p.getD [],())=some y7/\Br y7 ((0=0/\G.length=G.length)/\(0=0/\T.length=T.length)/\(Vp (m+1)).Fb (n,G,T,l,p,())<=G.length/\(Vp (m+1)).Fb (n,G,T,l,p,())<=T.length/\P ((n,G,T,()),())) (((0:Int)<=l/\l<(↑G.length:Int))/\0=0/\(G.getD (0+l.toNat) []).length=(G.getD (0+l.toNat) []).length/\(G.getD (0+l.toNat) []).length+(List.take 1 (List.drop 0 [p])).length<=Dd/\((0:Int)<=l/\l<(↑G.length:Int))/\0=0/\(G.getD (0+l.toNat) []++List.take 1 (List.drop 0 [p])).length=(G.getD (0+l.toNat) []++List.take 1 (List.drop 0 [p])).length/\0+l.toNat=0+l.toNat/\(((0:Int)<=l/\l<(↑T.length:Int))/\ ∃(y8:(List Int×PUnit)×PUnit),Qg.fn (T.getD (0+l.toNat) [],())=some y8/\0=0/\(List.take y8.1.1.length (List.drop 0 y8.1.1)).length=(List.take y8.1.1.length (List.drop 0 y8.1.1)).length/\0=0/\G.length=(G.set (0+l.toNat) (G.getD (0+l.toNat) []++List.take 1 (List.drop 0 [p]))).length/\0=0/\T.length=T.length/\Dt (λ(v9:VX) (k10:VX->Prop)=>Br (decide ((↑v9.2.2.2.2.2.1.length:Int)>(0:Int))) (((0:Int)<=l/\l<(↑v9.2.1.length:Int))/\0=0/\(List.take v9.2.2.2.2.2.1.length (List.drop 0 v9.2.2.2.2.2.1)).length=(List.take v9.2.2.2.2.2.1.length (List.drop 0 v9.2.2.2.2.2.1)).length/\0=0/\v9.2.1.length=v9.2.1.length/\0=0/\v9.2.2.2.1.length=v9.2.2.2.1.length/\Dt (λ(v11:yB) (k12:yB->Prop)=>Br (decide (v11.2.2.1<(↑(v9.2.1.getD (0+l.toNat) []).length:Int))) (((0:Int)<=v11.2.2.1/\v11.2.2.1<(↑(v11.2.2.2.1.getD v11.2.1 []).length:Int))/\((0:Int)<=(0:Int)/\(0:Int)<(↑v11.2.2.2.2.2.2.2.1.length:Int))/\ ∃(we:Int),v11.2.2.2.2.2.2.2.1[0+Int.toNat (0:Int)]?=some we/\ ∃(dv:Int),idx (((v11.2.2.2.1.getD v11.2.1 []).getD v11.2.2.1.toNat (none:Option (List Int))).getD []) we=some dv/\((0:Int)<=dv/\dv<(↑(v11.2.2.2.2.2.1.getD v11.1 []).length:Int))/\Br ((v11.2.2.2.2.2.1.getD v11.1 []).getD dv.toNat (none:Option (List Int))).isNone (((0:Int)<=(0:Int)/\(0:Int)<(↑v11.2.2.2.2.2.2.2.1.length:Int))/\ ∃(oY:Int),v11.2.2.2.2.2.2.2.1[0+Int.toNat (0:Int)]?=some oY/\((0:Int)<=oY/\oY<(↑(v11.2.2.2.2.2.1.getD v11.1 []).length:Int))/\ ∃(y16:Option (List Int)),Xh.fn (((v11.2.2.2.2.2.1.getD v11.1 []).getD oY.toNat (none:Option (List Int))).getD [],((v11.2.2.2.1.getD v11.2.1 []).getD v11.2.2.1.toNat (none:Option (List Int))).getD [],())=some y16/\((0:Int)<=dv/\dv<(↑(v11.2.2.2.2.2.1.getD v11.1 []).length:Int))/\0=0/\v11.2.2.2.2.2.2.2.1.length=v11.2.2.2.2.2.2.2.1.length/\v11.2.2.2.2.2.2.2.1.length+(List.take 1 (List.drop 0 [dv])).length<=Dd/\0=0/\(List.take (v11.2.2.2.2.2.2.2.1++List.take 1 (List.drop 0 [dv])).length (List.drop 0 (v11.2.2.2.2.2.2.2.1++List.take 1 (List.drop 0 [dv])))).length=(List.take (v11.2.2.2.2.2.2.2.1++List.take 1 (List.drop 0 [dv])).length (List.drop 0 (v11.2.2.2.2.2.2.2.1++List.take 1 (List.drop 0 [dv])))).length/\0=0/\v11.2.2.2.1.length=v11.2.2.2.1.length/\0=0/\v11.2.2.2.2.2.1.length=(v11.2.2.2.2.2.1.set v11.1 ((v11.2.2.2.2.2.1.getD v11.1 []).set dv.toNat y16)).length/\k12 (v11.1,v11.2.1,IntKind.i64.wrap (v11.2.2.1+(1:Int)),v11.2.2.2.1,v11.2.2.2.2.1,v11.2.2.2.2.2.1.set v11.1 ((v11.2.2.2.2.2.1.getD v11.1 []).set dv.toNat y16),v11.2.2.2.2.2.2.1,List.take (v11.2.2.2.2.2.2.2.1++List.take 1 (List.drop 0 [dv])).length (List.drop 0 (v11.2.2.2.2.2.2.2.1++List.take 1 (List.drop 0 [dv]))),v11.2.2.2.2.2.2.2.2.1,())) (0=0/\(List.take v11.2.2.2.2.2.2.2.1.length (List.drop 0 v11.2.2.2.2.2.2.2.1)).length=(List.take v11.2.2.2.2.2.2.2.1.length (List.drop 0 v11.2.2.2.2.2.2.2.1)).length/\0=0/\v11.2.2.2.1.length=v11.2.2.2.1.length/\0=0/\v11.2.2.2.2.2.1.length=v11.2.2.2.2.2.1.length/\k12 (v11.1,v11.2.1,IntKind.i64.wrap (v11.2.2.1+(1:Int)),v11.2.2.2.1,v11.2.2.2.2.1,v11.2.2.2.2.2.1,v11.2.2.2.2.2.2.1,List.take v11.2.2.2.2.2.2.2.1.length (List.drop 0 v11.2.2.2.2.2.2.2.1),v11.2.2.2.2.2.2.2.2.1,()))) (((0:Int)<=(1:Int)/\(1:Int)<=(↑v11.2.2.2.2.2.2.2.1.length:Int)/\(↑v11.2.2.2.2.2.2.2.1.length:Int)<=(↑v11.2.2.2.2.2.2.2.1.length:Int))/\0=0/\(List.take ((↑v11.2.2.2.2.2.2.2.1.length:Int).toNat-Int.toNat (1:Int)) (List.drop (0+Int.toNat (1:Int)) v11.2.2.2.2.2.2.2.1)).length=(List.take ((↑v11.2.2.2.2.2.2.2.1.length:Int).toNat-Int.toNat (1:Int)) (List.drop (0+Int.toNat (1:Int)) v11.2.2.2.2.2.2.2.1)).length/\0=0/\v11.2.2.2.1.length=v11.2.2.2.1.length/\0=0/\v11.2.2.2.2.2.1.length=v11.2.2.2.2.2.1.length/\k10 (v11.1,v11.2.2.2.1,v11.2.2.2.2.1,v11.2.2.2.2.2.1,v11.2.2.2.2.2.2.1,List.take ((↑v11.2.2.2.2.2.2.2.1.length:Int).toNat-Int.toNat (1:Int)) (List.drop (0+Int.toNat (1:Int)) v11.2.2.2.2.2.2.2.1),v11.2.2.2.2.2.2.2.2.1,()))) (v9.1,0+l.toNat,(0:Int),v9.2.1,v9.2.2.1,v9.2.2.2.1,v9.2.2.2.2.1,List.take v9.2.2.2.2.2.1.length (List.drop 0 v9.2.2.2.2.2.1),v9.2.2.2.2.2.2.1,PUnit.unit)) (∃(Qv:(List Int×PUnit)×PUnit),Qg.fn (v9.2.2.2.1.getD v9.1 [],())=some Qv/\0=0/\Qv.1.1.length=Qv.1.1.length/\0=0/\v9.2.1.length=v9.2.1.length/\0=0/\v9.2.2.2.1.length=v9.2.2.2.1.length/\Dt (λ(kX:VV) (k13:VV->Prop)=>Br (decide (kX.2.1<(↑Qv.1.1.length:Int))) (((0:Int)<=kX.2.1/\kX.2.1<(↑kX.2.2.2.2.2.2.1.length:Int))/\ ∃(dv:Int),kX.2.2.2.2.2.2.1[0+kX.2.1.toNat]?=some dv/\((0:Int)<=l/\l<(↑kX.2.2.1.length:Int))/\0=0/\kX.2.2.2.2.2.2.1.length=kX.2.2.2.2.2.2.1.length/\0=0/\kX.2.2.1.length=kX.2.2.1.length/\0=0/\kX.2.2.2.2.1.length=kX.2.2.2.2.1.length/\Dt (λ(Qs:yB) (k16:yB->Prop)=>Br (decide (Qs.2.2.1<(↑(kX.2.2.1.getD (0+l.toNat) []).length:Int))) (((0:Int)<=Qs.2.2.1/\Qs.2.2.1<(↑(Qs.2.2.2.1.getD Qs.2.1 []).length:Int))/\((0:Int)<=dv/\dv<(↑(Qs.2.2.2.2.2.1.getD Qs.1 []).length:Int))/\ ∃(y17:Option (List Int)),Xh.fn (((Qs.2.2.2.2.2.1.getD Qs.1 []).getD dv.toNat (none:Option (List Int))).getD [],((Qs.2.2.2.1.getD Qs.2.1 []).getD Qs.2.2.1.toNat (none:Option (List Int))).getD [],())=some y17/\ ∃(y18:Int),idx (((Qs.2.2.2.1.getD Qs.2.1 []).getD Qs.2.2.1.toNat (none:Option (List Int))).getD []) dv=some y18/\((0:Int)<=y18/\y18<(↑(Qs.2.2.2.2.2.1.getD Qs.1 []).length:Int))/\ ∃(y19:List Int),Gs.fn (((Qs.2.2.2.2.2.1.getD Qs.1 []).getD y18.toNat (none:Option (List Int))).getD [],())=some y19/\ ∃(y20:Option (List Int)),Xh.fn (y17.getD [],y19,())=some y20/\0=0/\Qs.2.2.2.1.length=Qs.2.2.2.1.length/\0=0/\Qs.2.2.2.2.2.1.length=Qs.2.2.2.2.2.1.length/\ ∃(QZ:(Int×List (List (Option (List Int)))×List (List (Option (List Int)))×PUnit)×PUnit),(Vp m).fn (Qs.2.2.2.2.2.2.2.2.1,Qs.2.2.2.1,Qs.2.2.2.2.2.1,IntKind.i64.wrap (l+(1:Int)),y20,())=some QZ/\(Qs.1<(Vp m).Fb (Qs.2.2.2.2.2.2.2.2.1,Qs.2.2.2.1,Qs.2.2.2.2.2.1,IntKind.i64.wrap (l+(1:Int)),y20,())/\Qs.1<(List.length QZ.1.2.2.1))/\(Qs.2.1<(Vp m).Fb (Qs.2.2.2.2.2.2.2.2.1,Qs.2.2.2.1,Qs.2.2.2.2.2.1,IntKind.i64.wrap (l+(1:Int)),y20,())/\Qs.2.1<(List.length QZ.1.2.1))/\(Qs.1<(Vp m).Fb (Qs.2.2.2.2.2.2.2.2.1,Qs.2.2.2.1,Qs.2.2.2.2.2.1,IntKind.i64.wrap (l+(1:Int)),y20,())/\Qs.1<(List.length QZ.1.2.2.1))/\(Qs.1<(Vp m).Fb (Qs.2.2.2.2.2.2.2.2.1,Qs.2.2.2.1,Qs.2.2.2.2.2.1,IntKind.i64.wrap (l+(1:Int)),y20,())/\Qs.1<(List.length QZ.1.2.2.1))/\0=0/\Qs.2.2.2.2.2.2.2.1.length=Qs.2.2.2.2.2.2.2.1.length/\0=0/\QZ.1.2.1.length=QZ.1.2.1.length/\0=0/\QZ.1.2.2.1.length=QZ.1.2.2.1.length/\k16 (Qs.1,Qs.2.1,IntKind.i64.wrap (Qs.2.2.1+(1:Int)),QZ.1.2.1,min Qs.2.2.2.2.1 ((Vp m).Fb (Qs.2.2.2.2.2.2.2.2.1,Qs.2.2.2.1,Qs.2.2.2.2.2.1,IntKind.i64.wrap (l+(1:Int)),y20,())),QZ.1.2.2.1,min Qs.2.2.2.2.2.2.1 ((Vp m).Fb (Qs.2.2.2.2.2.2.2.2.1,Qs.2.2.2.1,Qs.2.2.2.2.2.1,IntKind.i64.wrap (l+(1:Int)),y20,())),Qs.2.2.2.2.2.2.2.1,QZ.1.1,())) (0=0/\Qs.2.2.2.2.2.2.2.1.length=Qs.2.2.2.2.2.2.2.1.length/\0=0/\Qs.2.2.2.1.length=Qs.2.2.2.1.length/\0=0/\Qs.2.2.2.2.2.1.length=Qs.2.2.2.2.2.1.length/\k13 (Qs.1,IntKind.i64.wrap (kX.2.1+(1:Int)),Qs.2.2.2.1,Qs.2.2.2.2.1,Qs.2.2.2.2.2.1,Qs.2.2.2.2.2.2.1,Qs.2.2.2.2.2.2.2.1,Qs.2.2.2.2.2.2.2.2.1,()))) (kX.1,0+l.toNat,(0:Int),kX.2.2.1,kX.2.2.2.1,kX.2.2.2.2.1,kX.2.2.2.2.2.1,kX.2.2.2.2.2.2.1,kX.2.2.2.2.2.2.2.1,PUnit.unit)) ((0=0/\kX.2.2.1.length=kX.2.2.1.length)/\(0=0/\kX.2.2.2.2.1.length=kX.2.2.2.2.1.length)/\(Vp (m+1)).Fb (n,G,T,l,p,())<=kX.2.2.2.1/\(Vp (m+1)).Fb (n,G,T,l,p,())<=kX.2.2.2.2.2.1/\P ((kX.2.2.2.2.2.2.2.1,kX.2.2.1,kX.2.2.2.2.1,()),()))) (v9.1,(0:Int),v9.2.1,v9.2.2.1,v9.2.2.2.1,v9.2.2.2.2.1,Qv.1.1,v9.2.2.2.2.2.2.1,PUnit.unit))) (0+l.toNat,G.set (0+l.toNat) (G.getD (0+l.toNat) []++List.take 1 (List.drop 0 [p])),min G.length (0+l.toNat),T,T.length,List.take y8.1.1.length (List.drop 0 y8.1.1),n,PUnit.unit))/\(((((0:Int)<=l/\l<(↑G.length:Int))/\((Kz G l p T y7 n))/\(Kz G l p T y7 n))/\((0:Int)<=l/\l<(↑G.length:Int))/\(Kz G l p T y7 n))/\((0:Int)<=l/\l<(↑G.length:Int))/\(Kz G l p T y7 n))/\(((((0:Int)<=l/\l<(↑G.length:Int))/\((Kz G l p T y7 n))/\(Kz G l p T y7 n))/\((0:Int)<=l/\l<(↑G.length:Int))/\(Kz G l p T y7 n))/\(((0:Int)<=l/\l<(↑G.length:Int))/\(((Kz G l p T y7 n))/\(Kz G l p T y7 n))/\(((Kz G l p T y7 n))/\((Kz G l p T y7 n))/\(Kz G l p T y7 n))/\((Kz G l p T y7 n))/\((Kz G l p T y7 n))/\(Kz G l p T y7 n))/\(((0:Int)<=l/\l<(↑G.length:Int))/\(Kz G l p T y7 n))/\((0:Int)<=l/\l<(↑G.length:Int))/\((Kz G l p T y7 n))/\((Kz G l p T y7 n))/\(Kz G l p T y7 n))/\(((0:Int)<=l/\l<(↑G.length:Int))/\(Kz G l p T y7 n))/\(((0:Int)<=l/\l<(↑G.length:Int))/\(Kz G l p T y7 n))/\((0:Int)<=l/\l<(↑G.length:Int))/\((Kz G l p T y7 n))/\((Kz G l p T y7 n))/\(Kz G l p T y7 n)))=fnMW (WA [Ri+7]) (look [(229,vT),(213,Qg),(142,Xh),(143,Gs),(212,fJ.m (Vp m))]) (Vp (m+1)) Try.f212 (n,G,T,l,p,()) P:=by kernel_rfl
theorem zg {k l:Nat} {p:List Int} {s:Ev×Ev} (h:Nc s.2 k l p=true):Gy k l p s=s:=by
 cases k with
 |zero=>rfl
 |succ k=>unfold Gy;rw [Ac h]
theorem zf (k l:Nat) (p:List Int) (s:Ev×Ev):Gy (k+1) l p s=if Nc s.2 (k+1) l p=true then s else
   (fc (Yc (s.1.getD l []++ [some p]) (s.2.getD l [])) (s.1.getD l []++ [some p])).foldl (λs q=>Gy k (l+1) q s)
    (s.1.set l (s.1.getD l []++ [some p]),s.2.set l (Yc (s.1.getD l []++ [some p]) (s.2.getD l []))):=rfl
theorem TO {n:Nat} {p:List Int} (h:Pm n p) {i:Nat} (hi:i<n):idx p (i:Int)=some (ap p i:Int):=by
 have j8:i<p.length:=by rw [h.1];exact hi
 rw [Df j8,<-(h.Yh hi).1,Ig j8]
theorem EY {x:Int} {gs:List PO} {j:Nat} (hj:j<gs.length) (s:Row×List Int):Zj x (gs.take (j+1)) s=Zt x (Zj x (gs.take j) s) gs[j]:=by
 unfold Zj
 rw [Hy,Ab hj,Option.toList_some,List.foldl_append]
 rfl
theorem EZ {gs:List PO} {f:Nat} {row:Row} :Yz gs f [] row=row:=by cases f<;>rfl
theorem ku {n:Nat} {p:List Int} (h:Pm n p):0<p.length/\p.length<=20:=⟨by rw [h.1];exact h.n1,by rw [h.1];exact h.n2⟩
theorem IJ {n:Nat} {p q:List Int} (h:Pm n p) (k:Pm n q):Kb q.length p:=by rw [k.1];exact h.row
theorem Aie {m:Nat} (n:Int) (G T:List (List (Option (List Int)))) (l:Int) (p:Option (List Int)) (h:(∃N L q,p=some q/\pU N L n G T l q)/\(n-l).toNat<m+1):
  fnMW (WA [Ri+7]) (look [(229,vT),(213,Qg),(142,Xh),(143,Gs),(212,fJ.m (Vp m))]) (Vp (m+1)) Try.f212 (n,G,T,l,p,()) (λ(z:(Int×List (List (Option (List Int)))×List (List (Option (List Int)))×Unit)×Unit)=>z=((n,(Gy (n-l).toNat l.toNat (p.getD []) (G,T)).1,(Gy (n-l).toNat l.toNat (p.getD []) (G,T)).2,()),())):=by
 obtain ⟨⟨N,L,q,rfl,h⟩,hm⟩:=h
 have h':=h
 obtain ⟨n1,n2,en,el,hle,v,pm,fx⟩:=h
 subst en el
 have hk:((N:Int)-(L:Int)).toNat=N-L:=by omega
 rw [hk,As]
 refine Eq.mp (Aiu (N:Int) G T (L:Int) (some q) _) ⟨_,Ac ⟨N,L,?a⟩,?b⟩
 case a=>
  simp only [Du,Bb,Cw]
  exact h'
 obtain ⟨v1,v2,v3,v4⟩:=v
 dsimp only at v1 v2
 have hw:IntKind.i64.wrap ((L:Int)+1)=((L+1:Nat):Int):=Cg (by omega)
 simp only [Kz]
 simp only [Du,Bb,Cw,hk,As,Cj,eq_self,true_and,ah,List.take_succ_cons,List.take_zero,Aw,Ho,Bt,hw]
 refine Br.of (λhh=>⟨by show Int.toNat (L:Int)<=G.length;omega,by show Int.toNat (L:Int)<=T.length;omega,?_⟩) λhh=>?_
 ·rw [zg (s:=(G,T)) hh]
 obtain ⟨k,hNk⟩: ∃k,N-L=k+1:=by
  cases e:N-L with
  |zero=>rw [e] at hh;simp [Nc] at hh
  |succ k=>exact ⟨k,rfl⟩
 have hLN:L<N:=by omega
 have hv:V N (k+1) L (G,T):=by rw [<-hNk];exact ⟨v1,v2,v3,v4⟩
 rw [hNk] at hh⊢
 have e1:(0:Int)<=(L:Int)/\(L:Int)<(G.length:Int):=by omega
 have e1':(0:Int)<=(L:Int)/\(L:Int)<(T.length:Int):=by omega
 have hgl:(G.getD L []).length<=400:=XZ n2 (by omega) hv
 have e2:(G.getD L []).length+1<=Dd:=by show _<=4294967296;omega
 simp only [e1,e1',e2,and_self,true_and,ah]
 generalize KQ:G.getD L []++ [some q]=gs
 have Aqw:gs.length<=401:=by rw [<-KQ,Au,Bw];omega
 have hg:PG N L gs:=by rw [<-KQ];exact hv.pg pm fx
 have YT:Wb N L gs (T.getD L []):=by rw [<-KQ];exact hv.Anr q
 obtain ⟨r1,r2,r3⟩:=BT hLN n2 hg YT
 generalize hR:Yc gs (T.getD L [])=R at r1 r2 r3
 have NJ:Gy (k+1) L q (G,T)=(fc R gs).foldl (λs q=>Gy k (L+1) q s) (G.set L gs,T.set L R):=by
  rw [zf,Ai (by rw [hh];simp)]
  dsimp only
  rw [KQ,hR]
 rw [NJ]
 have hTl:L<T.length:=by omega
 have hGl:L<G.length:=by omega
 have hG1:(G.set L gs).getD L []=gs:=jt G L hGl gs
 have hT1: ∀row:Row,(T.set L row).getD L []=row:=jt T L hTl
 refine ⟨_,Ac (by show (T.getD L []).length<=20;rw [YT.rl];exact n2),?_⟩
 dsimp only
 have hn0:(Mo (T.getD L [])).length+Rg (T.getD L [])<=40:=by have:=xw (T.getD L []);have:=BN (T.getD L []);have:=YT.rl;omega
 have hq0:MF gs (Mo (T.getD L [])) (T.getD L []):=⟨λy hy=>Ti.1 hy,λy hy=> .inl (Ti.2 ⟨y,rfl,hy⟩)⟩
 refine ⟨λv=> ∃(row:Row) (qu:List Int) (kg kt:Nat),v=(L,G.set L gs,kg,T.set L row,kt,qu,(N:Int),())/\L<=kg/\L<=kt/\qu.length+Rg row<=40/\Wb N L gs row/\MF gs qu row/\Yz gs (qu.length+Rg row) qu row=R,
  fun v=>v.2.2.2.2.2.1.length+Rg (v.2.2.2.1.getD v.1 []),⟨T.getD L [],Mo (T.getD L []),min G.length L,T.length,?_,by omega,by omega,hn0,YT,hq0,?_⟩,?_⟩
 ·rw [tV T L hTl]
 ·rw [<-zr hLN hg 100 _ _ (by omega) YT hq0];exact hR
 rintro v ⟨row,qu,kg,kt,rfl,hkg,hkt,hb,TF,hqi,SL⟩
 dsimp only
 simp only [hG1,hT1,Bt]
 refine Br.dec (λhl=>⟨e1.2,?_⟩) λhl=>?_
 ·cases qu with
  |nil=>simp at hl
  |cons x qu=>
  obtain ⟨p1,p2,xn,t,rfl,ht⟩:=IB hLN hg TF hqi
  have XL:xn<N:=by rw [<-TF.rl];exact pI ht
  refine Ci gs.length (λv=>v.2.2.1) (λj v=> ∃kg kt:Nat,v=(L,L,(j:Int),G.set L gs,kg,T.set L (Zj (xn:Int) (gs.take j) (row,qu)).1,kt,(xn:Int)::(Zj (xn:Int) (gs.take j) (row,qu)).2,(N:Int),())/\L<=kg/\L<=kt) rfl ⟨kg,kt,rfl,hkg,hkt⟩ ?_
  rintro j v K hj hi ⟨kg,kt,rfl,h1,h2⟩ hK
  dsimp only
  simp only [hG1,hT1,As]
  refine Br.dec (λhl=>?_) λhl=>?_
  ·have hl:j<gs.length:=by omega
   obtain ⟨x1,x2⟩:=VC hLN hg (gs.take j) (q:=qu) (λo ho=>Ib ho) TF ht
   have Ya:=EY (x:=(xn:Int)) hl (row,qu)
   generalize Zj (xn:Int) (gs.take j) (row,qu)=s at x1 x2 Ya⊢
   obtain ⟨r,qq⟩:=s
   dsimp only at x1 x2⊢
   obtain ⟨g,qT,Wd,hgf⟩:=hg gs[j] (Al hl)
   have htx:r.getD xn none=some t:=x1.mono _ _ ht
   obtain ⟨t1,t2,t3,t4⟩:=x1.ok.rt _ _ htx
   have hrl:r.length=N:=x1.ok.rl
   have hgj:gs.getD j none=some g:=by rw [SG hl];exact qT
   have hy:=Wd.lt XL
   have hga:=(Wd.Yh XL).1
   have YQ:qq.length+Rg r=qu.length+Rg row:=x1.phi
   simp only [Aw] at hb
   simp only [hgj,Cw]
   refine ⟨⟨by omega,by omega⟩,⟨by omega,by simp only [Aw];omega⟩,_,rfl,_,TO Wd XL,⟨by omega,by omega⟩,?_⟩
   rw [qT] at Ya
   unfold Zt at Ya
   dsimp only at Ya
   rw [Cw,hga,As,As,htx,Cw] at Ya
   rw [As]
   refine Br.of (λhn=>?_) λhn=>?_
   ·have hn:r.getD (ap g xn) none=none:=by
     cases e:r.getD (ap g xn) none with
     |none=>rfl
     |some u=>rw [e] at hn;simp at hn
    rw [hn] at Ya
    refine ⟨⟨by omega,by simp only [Aw];omega⟩,_,rfl,⟨by omega,by omega⟩,some (Aj t g),?_,⟨by omega,by omega⟩,?_,?_⟩
    ·rw [As,htx,Cw]
     exact Ac ⟨ku t1,IJ t1 Wd⟩
    ·show qq.length+1+1<=4294967296
     omega
    ·rw [Cg (by omega)]
     refine hK hl _ rfl ⟨kg,kt,?_,h1,h2⟩
     rw [Ya,List.set_set]
     rfl
   ·have hn: ∃u,r.getD (ap g xn) none=some u:=by
     cases e:r.getD (ap g xn) none with
     |none=>rw [e] at hn;simp at hn
     |some u=>exact ⟨u,rfl⟩
    obtain ⟨u,hn⟩:=hn
    rw [hn] at Ya
    rw [Cg (by omega)]
    refine hK hl _ rfl ⟨kg,kt,?_,h1,h2⟩
    rw [Ya]
  ·have:j=gs.length:=by omega
   subst this
   rw [Bb]
   generalize hs:Zj (xn:Int) gs (row,qu)=s at p1 p2⊢
   obtain ⟨r,qq⟩:=s
   dsimp only at p1 p2⊢
   have YQ:qq.length+Rg r=qu.length+Rg row:=p1.phi
   simp only [Aw] at hb SL
   refine ⟨⟨by omega,by simp only [Aw];omega,cy _⟩,⟨r,qq,kg,kt,?_,h1,h2,by omega,p1.ok,p2,?_⟩,?_⟩
   ·simp
   ·rw [show qu.length+1+Rg row=(qu.length+Rg row)+1 by omega] at SL
    simp only [Yz,hs] at SL
    rw [YQ]
    exact SL
   ·simp only [Aw]
    have:(List.take (qq.length+1-Int.toNat 1) (List.drop (Int.toNat 1) ((xn:Int)::qq))).length=qq.length:=by simp
    rw [this]
    omega
 ·have:qu= []:=Ce (by omega)
  subst this
  rw [EZ] at SL
  subst SL
  have hpr:=UZ hLN hg TF r3
  have TI:=hv.lower gs row
  have Ab3: ∀qs:List (List Int),(∀q∈qs,q∈fc row gs)->V N k (L+1) (qs.foldl (λs q=>Gy k (L+1) q s) (G.set L gs,T.set L row))/\aB (L+1) (G.set L gs,T.set L row) (qs.foldl (λs q=>Gy k (L+1) q s) (G.set L gs,T.set L row)):=
   fun qs YS=>KF n1 n2 (by omega) qs _ (λq hq=>hpr q (YS q hq)) TI
  refine ⟨_,Ac (by show row.length<=20;rw [TF.rl];exact n2),?_⟩
  dsimp only
  have hol:=xw row
  have hrl:=TF.rl
  refine Ci (Mo row).length (λv=>v.2.1) (λi v=> ∃(s:Ev×Ev) (kg kt:Nat),v=(L,(i:Int),s.1,kg,s.2,kt,Mo row,(N:Int),())/\L<=kg/\L<=kt/\s=(((Mo row).take i).flatMap λy=>gs.map (Tb row y)).foldl (λs q=>Gy k (L+1) q s) (G.set L gs,T.set L row)) rfl ⟨_,kg,kt,rfl,hkg,hkt,rfl⟩ ?_
  rintro i v K hi j8 ⟨s,kg,kt,rfl,h1,h2,hs⟩ hK
  dsimp only
  have Wy: ∀q∈((Mo row).take i).flatMap (λy=>gs.map (Tb row y)),q∈fc row gs:= λq hq=>by
   obtain ⟨y,hy,hq⟩:=Ey.1 hq
   exact Ey.2 ⟨y,Ib hy,hq⟩
  refine Br.dec (λhl=>?_) λhl=>?_
  ·have hl:i<(Mo row).length:=by omega
   obtain ⟨f1,f2⟩:=Ab3 _ Wy
   rw [<-hs] at f1 f2
   have g1:s.1.getD L []=gs:=by rw [(f2.low L (by omega)).1];exact hG1
   have g2:s.1.length=N:=f1.1
   obtain ⟨yn,hyn,hyr⟩:=Ti.1 (Al hl)
   obtain ⟨t,ht⟩:=Mt.1 hyr
   have hyN:yn<N:=by rw [<-hrl];exact pI ht
   obtain ⟨t1,t2,t3,t4⟩:=TF.rt _ _ ht
   refine ⟨⟨by omega,by omega⟩,(yn:Int),by rw [As,Ab hl,hyn],by omega,?_⟩
   rw [g1]
   refine Ci gs.length (λv=>v.2.2.1) (λj v=> ∃(s':Ev×Ev) (kg kt:Nat),v=(L,L,(j:Int),s'.1,kg,s'.2,kt,Mo row,(N:Int),())/\L<=kg/\L<=kt/\s'=(((Mo row).take i).flatMap (λy=>gs.map (Tb row y))++(gs.take j).map (Tb row (yn:Int))).foldl (λs q=>Gy k (L+1) q s) (G.set L gs,T.set L row)) rfl ⟨s,kg,kt,rfl,h1,h2,by simpa using hs⟩ ?_
   rintro j v K' hj SV ⟨s',kg,kt,rfl,h1,h2,GI⟩ hK'
   dsimp only
   refine Br.dec (λLl=>?_) λLl=>?_
   ·have Ll:j<gs.length:=by omega
    have LC: ∀q∈((Mo row).take i).flatMap (λy=>gs.map (Tb row y))++(gs.take j).map (Tb row (yn:Int)),q∈fc row gs:= λq hq=>by
     rcases Az.1 hq with hq|hq
     ·exact Wy q hq
     ·obtain ⟨o,ho,rfl⟩:=Be.1 hq
      exact Ey.2 ⟨(yn:Int),Ti.2 ⟨yn,rfl,hyr⟩,Be.2 ⟨o,Ib ho,rfl⟩⟩
    obtain ⟨f1',f2'⟩:=Ab3 _ LC
    rw [<-GI] at f1' f2'
    obtain ⟨G',T'⟩:=s'
    dsimp only at f1' f2'⊢
    have g1':G'.getD L []=gs:=by have:=(f2'.low L (by omega)).1;dsimp only at this;rw [this];exact hG1
    have g3':T'.getD L []=row:=by have:=(f2'.low L (by omega)).2;dsimp only at this;rw [this];exact hT1 row
    have g4':G'.length=N:=f1'.1
    have g5':T'.length=N:=f1'.2.1
    obtain ⟨g,qT,Wd,hgf⟩:=hg gs[j] (Al Ll)
    have hgj:gs.getD j none=some g:=by rw [SG Ll];exact qT
    have hgm:some g∈gs:=by rw [<-qT];exact Al Ll
    have hy:=Wd.lt hyN
    obtain ⟨t',GL⟩:=Mt.1 (r3 yn t g ht hgm)
    obtain ⟨u1,u2,u3,u4⟩:=TF.rt _ _ GL
    have Ahj:Tb row (yn:Int) gs[j]=Aj (Aj t g) (Bc t'):=by rw [qT];exact ic ht GL
    have hqm:=hpr _ (Ey.2 ⟨(yn:Int),Ti.2 ⟨yn,rfl,hyr⟩,Be.2 ⟨gs[j],Al Ll,Ahj⟩⟩)
    simp only [g1',g3',As,hgj,ht,Cw]
    have qY:L<Int.toNat ((L+1:Nat):Int):=by omega
    have SJ:=wv n1 n2 k (L+1) _ (G',T') (by omega) f1' hqm.1 hqm.2
    have Aop:((Gy k (L+1) (Aj (Aj t g) (Bc t')) (G',T')).1).length=N:=SJ.v.1
    have Aoq:((Gy k (L+1) (Aj (Aj t g) (Bc t')) (G',T')).2).length=N:=SJ.v.2.1
    have XG:((N:Int)-((L+1:Nat):Int)).toNat=k:=by omega
    refine ⟨⟨by omega,by omega⟩,⟨by omega,by omega⟩,some (Aj t g),Ac ⟨ku t1,IJ t1 Wd⟩,_,TO Wd hyN,⟨by omega,by omega⟩,Bc t',?_,some (Aj (Aj t g) (Bc t')),?_,_,Ac ⟨⟨N,L+1,_,rfl,?pr⟩,?lt⟩,⟨qY,?k1⟩,⟨qY,?k2⟩,⟨qY,?k3⟩,⟨qY,?k4⟩,?go⟩
    case pr=>exact ⟨n1,n2,rfl,rfl,by omega,by rw [show N-(L+1)=k by omega];exact f1',hqm.1,hqm.2⟩
    case lt=>
     show ((N:Int)-((L+1:Nat):Int)).toNat<m
     omega
    case go=>
     dsimp only
     rw [Cg (by omega)]
     refine hK' Ll _ rfl ⟨_,_,_,rfl,?_,?_,?_⟩
     ·show L<=min kg (Int.toNat ((L+1:Nat):Int));omega
     ·show L<=min kt (Int.toNat ((L+1:Nat):Int));omega
     ·rw [Hy,Ab Ll,Option.toList_some,Nn,<-Ck,List.foldl_append,<-GI]
      simp only [Bk,List.map_nil,Nm,List.foldl_nil,Ahj,XG,As,Cw]
    case k1=>simp only [XG,As,Cw];omega
    case k2=>simp only [XG,As,Cw];omega
    case k3=>simp only [XG,As,Cw];omega
    case k4=>simp only [XG,As,Cw];omega
    ·rw [As,GL,Cw]
     exact Ac ⟨by show t'.length<=20;rw [u1.1];exact n2,u1.2.row⟩
    ·exact Ac ⟨ku (t1.comp Wd),IJ (t1.comp Wd) u1.inv⟩
   ·have:j=gs.length:=by omega
    subst this
    rw [Cg (by omega)]
    refine hK hl _ rfl ⟨s',kg,kt,rfl,h1,h2,?_⟩
    rw [GI,Bb,Hy,Ab hl,Option.toList_some,List.flatMap_append,hyn]
    simp
  ·have:i=(Mo row).length:=by omega
   subst this
   rw [Bb] at hs
   refine ⟨h1,h2,?_⟩
   rw [hs]
   rfl
theorem VR {m:Nat} (Ads:Da Try.prog 212 (Vp m)):Da Try.prog 212 (Vp (m+1)):=
 Da.sY (Aa1 [Ri+7]) (Bh PI (Jd jJ (Bh sk (Bh Qp (Jd Ads Cm))))) mixed Try.func212 (by kernel_rfl) (by kernel_rfl) λx h=>Aie x.1 x.2.1 x.2.2.1 x.2.2.2.1 x.2.2.2.2.1 h
theorem IT:Da Try.prog 212 (Vp 0):=
 Da.sY nU Cm mixed Try.func212 (by kernel_rfl) (by kernel_rfl) λ_ h=>absurd h.2 (Fa _)
theorem si: ∀m,Da Try.prog 212 (Vp m)
 |0=>IT
 |m+1=>VR (si m)
noncomputable abbrev xW:MSpec:=sY Abq (λx=> ∃N L q,x.2.2.2.2.1=some q/\pU N L x.1 x.2.1 x.2.2.1 x.2.2.2.1 q)
 (λx=>((x.1,(Gy (x.1-x.2.2.2.1).toNat x.2.2.2.1.toNat (x.2.2.2.2.1.getD []) (x.2.1,x.2.2.1)).1,(Gy (x.1-x.2.2.2.1).toNat x.2.2.2.1.toNat (x.2.2.2.2.1.getD []) (x.2.1,x.2.2.1)).2,()),()))
theorem IU:Da Try.prog 212 xW:=Da.Aic (λx=>(x.1-x.2.2.2.1).toNat) si
def Zf (n:Nat):Ev:=List.replicate n []
def dr (n i:Nat):Row:=(List.replicate n none).set i (some (upto n))
def cq (n:Nat):Ev:=(List.range n).map λi=>dr n i
def Tn (n:Nat) (gens:List PO):Ev×Ev:=gens.foldl (λs o=>Gy n 0 (o.getD []) s) (Zf n,cq n)
noncomputable abbrev GS:MSpec:= {Ih:= [none,none],ins:= [(false, .Hx tI),(false, .Hx tLO)],Gh:=false,Hb:= [none,none,none],outs:= [.Hx tI, .Bo tO teG false, .Bo tO teG false],fn:= λ_=>none,rp:=some 198}
noncomputable abbrev ib:MSpec:=sY GS (λx=>(1<=x.1/\x.1<=20)/\List.length x.2.1<=4294967296/\ ∀o∈(x.2.1:List PO),∃g,o=some g/\Pm x.1.toNat g)
 (λx=>((x.1,(Tn x.1.toNat x.2.1).1,(Tn x.1.toNat x.2.1).2,()),()))
abbrev aa:Type:=Int×List (List (Option (List Int)))×Int×List (List (Option (List Int)))×PUnit
theorem ED (n:Int) (gens:List (Option (List Int))) (P:(Int×List (List (Option (List Int)))×List (List (Option (List Int)))×Unit)×Unit->Prop):(((0:Int)<=n/\n<(↑Dd:Int)+(1:Int))/\n=n/\0=0/\(List.replicate n.toNat ([]:List (Option (List Int)))).length=(List.replicate n.toNat ([]:List (Option (List Int)))).length/\0=0/\0=([]:List Int).length/\Dt (λ(v3:aa) (k4:aa->Prop)=>Br (decide (v3.1<n)) (((0:Int)<=n/\n<(↑Dd:Int)+(1:Int))/\n=n/\ ∃(y5:Option (List Int)),bQ.fn (n,())=some y5/\((0:Int)<=v3.1/\v3.1<(↑(List.replicate n.toNat (none:Option (List Int))).length:Int))/\0+v3.1.toNat<(List.replicate n.toNat (none:Option (List Int))).length/\0=0/\(List.replicate n.toNat (none:Option (List Int))).length=((List.replicate n.toNat (none:Option (List Int))).set (0+v3.1.toNat) y5).length/\(0=0/\v3.2.2.2.1.length=v3.2.2.2.1.length)/\(0=0/\1= [(List.replicate n.toNat (none:Option (List Int))).set (0+v3.1.toNat) y5].length)/\0< [(List.replicate n.toNat (none:Option (List Int))).set (0+v3.1.toNat) y5].length/\v3.2.2.2.1.length+ [(List.replicate n.toNat (none:Option (List Int))).set (0+v3.1.toNat) y5].length<=Dd/\0=0/\v3.2.1.length=v3.2.1.length/\0=0/\(v3.2.2.2.1++ [(List.replicate n.toNat (none:Option (List Int))).set (0+v3.1.toNat) y5]).length=(v3.2.2.2.1++ [(List.replicate n.toNat (none:Option (List Int))).set (0+v3.1.toNat) y5]).length/\k4 (IntKind.i64.wrap (v3.1+(1:Int)),v3.2.1,v3.2.2.1,v3.2.2.2.1++ [(List.replicate n.toNat (none:Option (List Int))).set (0+v3.1.toNat) y5],())) (0=0/\v3.2.1.length=v3.2.1.length/\0=0/\v3.2.2.2.1.length=v3.2.2.2.1.length/\Dt (λ(v5:aa) (k6:aa->Prop)=>Br (decide (v5.1<(↑gens.length:Int))) (∃(y7:Option (List Int)),idx gens v5.1=some y7/\0=0/\v5.2.1.length=v5.2.1.length/\0=0/\v5.2.2.2.1.length=v5.2.2.2.1.length/\ ∃(y8:(Int×List (List (Option (List Int)))×List (List (Option (List Int)))×PUnit)×PUnit),xW.fn (v5.2.2.1,v5.2.1,v5.2.2.2.1,(0:Int),y7,())=some y8/\0=0/\y8.1.2.1.length=y8.1.2.1.length/\0=0/\y8.1.2.2.1.length=y8.1.2.2.1.length/\k6 (IntKind.i64.wrap (v5.1+(1:Int)),y8.1.2.1,y8.1.1,y8.1.2.2.1,())) ((0=0/\v5.2.1.length=v5.2.1.length)/\(0=0/\v5.2.2.2.1.length=v5.2.2.2.1.length)/\P ((v5.2.2.1,v5.2.1,v5.2.2.2.1,()),()))) ((0:Int),v3.2.1,v3.2.2.1,v3.2.2.2.1,PUnit.unit))) ((0:Int),List.replicate n.toNat ([]:List (Option (List Int))),n,[],PUnit.unit))=fnMW ab (look [(120,bQ),(212,xW)]) ib Try.f193 (n,gens,()) P:=by kernel_rfl
theorem bg (n i:Nat):(Zf n).getD i []= []:=by
 unfold Zf
 rw [Ah,Xt]
 split<;>rfl
theorem kW {n i:Nat} (h:i<n):(cq n).getD i []=dr n i:=by
 unfold cq
 rw [Ah,Fl,Wh h]
 rfl
theorem mC {n i y:Nat} (h:i<n):(dr n i).getD y none=if i=y then some (upto n) else none:=by
 unfold dr
 rw [Wv,Eh]
 by_cases e:i=y
 ·rw [Ac ⟨e,h⟩,Ac e]
 ·rw [Ai (λhh=>e hh.1),Ai e,Ah,Xt]
  split<;>rfl
theorem sA {n:Nat} (h1:1<=n) (h2:n<=20): ∀(k l:Nat),l+k=n->j4 n k l (Zf n,cq n)
 |0,l,hk=>bg n l
 |k+1,l,hk=>by
  have hl:l<n:=by omega
  have hg: ∀(g:List Int) (j:Nat),some g∈(Zf n).getD j []->False:= λg j hg=>by rw [bg] at hg;cases hg
  refine ⟨sA h1 h2 k (l+1) (by omega),⟨λo ho=>?_,?_,?_,λy t e0=>?_,λy t g _ du=>(hg _ _ du).elim,λy t g t' _ du=>(hg _ _ du).elim⟩,λg du=>(hg _ _ du).elim⟩
  ·have ho:o∈(Zf n).getD l []:=ho
   rw [bg] at ho;cases ho
  ·show ((cq n).getD l []).length=n
   rw [kW hl];simp [dr]
  ·show ((cq n).getD l []).getD l none=_
   rw [kW hl,mC hl,Ac rfl]
  ·replace e0:((cq n).getD l []).getD y none=some t:=e0
   rw [kW hl,mC hl] at e0
   by_cases hy:l=y
   ·rw [Ac hy] at e0
    have e1:=Ax e0
    subst e1 hy
    exact ⟨Pm.id h1 h2,λi hi=>jg (by omega),jg hl, .id⟩
   ·rw [Ai hy] at e0;cases e0
theorem DC (n:Nat): ∀(k l:Nat),GBf k l (Zf n,cq n)
 |0,_=>trivial
 |k+1,l=>⟨DC n k (l+1),by show ((Zf n).getD l []).length<=_;rw [bg];exact Iz _⟩
theorem LY {n:Nat} (h1:1<=n) (h2:n<=20):V n n 0 (Zf n,cq n):=⟨by simp [Zf],by simp [cq],sA h1 h2 n 0 (by omega),DC n n 0⟩
def PmL (n:Nat) (gens:List PO):Prop:= ∀o∈gens,∃g,o=some g/\Pm n g
theorem ze {n:Nat} {gens:List PO} {j:Nat} (hj:j<gens.length):Tn n (gens.take (j+1))=Gy n 0 (gens[j].getD []) (Tn n (gens.take j)):=by
 unfold Tn
 rw [Hy,Ab hj,Option.toList_some,List.foldl_append]
 rfl
theorem mP {n:Nat} (h1:1<=n) (h2:n<=20): ∀(gens:List PO) (s:Ev×Ev),PmL n gens->V n n 0 s->V n n 0 (gens.foldl (λs o=>Gy n 0 (o.getD []) s) s)/\
  aB 0 s (gens.foldl (λs o=>Gy n 0 (o.getD []) s) s)/\(∀g,some g∈gens->Gn n ((gens.foldl (λs o=>Gy n 0 (o.getD []) s) s).1.getD 0 []) g)/\ ∀o∈(gens.foldl (λs o=>Gy n 0 (o.getD []) s) s).1.getD 0 [],o∈s.1.getD 0 []\/o∈gens
 | [],s,_,hv=>⟨hv,aB.refl _ _,(λ_ hg=>by cases hg),λ_ ho=> .inl ho⟩
 |o::gens,s,hg,hv=>by
  obtain ⟨g,rfl,Wd⟩:=hg o (by simp)
  have ha:=wv h1 h2 n 0 g s (by omega) hv Wd (λi hi=>absurd hi (Fa _))
  obtain ⟨a1,a2,a3,a4⟩:=mP h1 h2 gens (Gy n 0 g s) (λo ho=>hg o (by simp [ho])) ha.v
  refine ⟨a1,ha.grow.trans a2 (Ao _),λg' du=>?_,λo ho=>?_⟩
  ·rcases Ay.1 du with e|du
   ·cases e;exact ha.Ai5.mono λg hg=>a2.KJ _ _ hg
   ·exact a3 g' du
  ·rcases a4 o ho with h|h
   ·rcases ha.gens o h with h|h
    ·exact .inl h
    ·exact .inr (by simp [h])
   ·exact .inr (by simp [h])
theorem zd {n:Nat} (h1:1<=n) (h2:n<=20) {gens:List PO} (hg:PmL n gens):V n n 0 (Tn n gens):=(mP h1 h2 gens _ hg (LY h1 h2)).1
theorem qP {n:Nat} (h1:1<=n) (h2:n<=20) {gens:List PO} (hg:PmL n gens) {p:List Int} (hp:Pm n p):Nc (Tn n gens).2 n 0 p=true↔Gn n gens p:=by
 obtain ⟨a1,a2,a3,a4⟩:=mP h1 h2 gens _ hg (LY h1 h2)
 have hS:JX n λg=>some g∈gens:=⟨⟨h1,h2⟩,λg du=>by obtain ⟨g',e,h⟩:=hg _ du;cases e;exact h⟩
 have Wy: ∀g,some g∈(Tn n gens).1.getD 0 []->some g∈gens:= λg du=>by
  rcases a4 _ du with h|h
  ·have h:some g∈(Zf n).getD 0 []:=h
   rw [bg] at h;cases h
  ·exact h
 have hS':JX n λg=>some g∈(Tn n gens).1.getD 0 []:=⟨⟨h1,h2⟩,λg du=>hS.2 g (Wy g du)⟩
 refine (lM h1 h2 n 0 (Tn n gens) (by omega) a1.2.2.1 p hp λi hi=>absurd hi (Fa _)).trans ⟨λh=>h.mono Wy,λh=>h.trans hS' λg du=>a3 g du⟩
theorem CD (n:Int) (gens:List (Option (List Int))) (h:(1<=n/\n<=20)/\List.length gens<=4294967296/\ ∀o∈(gens:List PO),∃g,o=some g/\Pm n.toNat g):
  fnMW ab (look [(120,bQ),(212,xW)]) ib Try.f193 (n,gens,()) (λ(z:(Int×List (List (Option (List Int)))×List (List (Option (List Int)))×Unit)×Unit)=>z=((n,(Tn n.toNat gens).1,(Tn n.toNat gens).2,()),())):=by
 obtain ⟨⟨h1,h2⟩,h3,hg⟩:=h
 obtain ⟨N,rfl⟩: ∃N:Nat,n=N:=⟨n.toNat,by omega⟩
 rw [As] at hg⊢
 have h1:1<=N:=by omega
 have h2:N<=20:=by omega
 refine Eq.mp (ED (N:Int) gens _) ?_
 have hm:((0:Int)<=(N:Int)/\(N:Int)<(Dd:Int)+1):=⟨by omega,by show (N:Int)<(4294967296:Int)+1;omega⟩
 simp only [hm,and_self,eq_self,true_and,As,Cj,Ho,Bt,Eh,Aw,Nat.lt_add_one,Au]
 refine Ci N (λv=>v.1) (λj v=>v=((j:Int),Zf N,(N:Int),(List.range j).map (dr N),())) rfl rfl ?_
 rintro j v K hj hi rfl hK
 dsimp only
 refine Br.dec (λhl=>?_) λhl=>?_
 ·refine ⟨_,Ac ⟨by show (1:Int)<=N;omega,by show (N:Int)<=20;omega⟩,⟨by omega,by omega⟩,by rw [As];omega,?_,?_⟩
  ·show _<=4294967296
   simp only [Hm,List.length_range]
   omega
  ·rw [Cg (by omega)]
   refine hK (by omega) _ rfl ?_
   rw [List.range_succ,Nn]
   rfl
 ·have:j=N:=by omega
  subst this
  refine Ci gens.length (λv=>v.1) (λi v=>v=((i:Int),(Tn j (gens.take i)).1,(j:Int),(Tn j (gens.take i)).2,())) rfl rfl ?_
  rintro i v K' j8 Aqz rfl hK'
  dsimp only
  refine Br.dec (λLl=>?_) λLl=>?_
  ·have Ll:i<gens.length:=by omega
   obtain ⟨g,qT,Wd⟩:=hg gens[i] (Al Ll)
   have hv:=zd h1 h2 (gens:=gens.take i) λo ho=>hg o (Ib ho)
   refine ⟨_,Df Ll,_,Ac ⟨j,0,g,qT,h1,h2,rfl,rfl,Iz _,hv,Wd,λi hi=>absurd hi (Fa _)⟩,?_⟩
   rw [Cg (by omega)]
   refine hK' Ll _ rfl ?_
   rw [ze Ll]
   simp only [Int.sub_zero,As]
   rfl
  ·have:i=gens.length:=by omega
   subst this
   rw [Bb]
theorem px:Da Try.prog 193 ib:=
 Da.sY nU (Bh pt (Jd IU Cm)) mixed Try.func193 (by kernel_rfl) (by kernel_rfl) λx h=>CD x.1 x.2.1 h
def aX (T:Ev):Nat->Nat
 |0=>1
 |j+1=>aX T j*(Mo (T.getD j [])).length
noncomputable abbrev iV:Spec:=Hv (.pair (.ptr yE) (.pair tI .unit)) tI false true (λx=>x.2.1=0/\ ∃N:Nat,(1<=N/\N<=20)/\x.1.1=N/\V N N 0 (x.1.2.1,x.1.2.2.1)) (λx=>(aX x.1.2.2.1 x.1.1.toNat:Int))
noncomputable abbrev AK:MSpec:= {Ih:= [none,none],ins:= [(false, .Hx tI),(false, .Hx pR)],Gh:=false,Hb:= [none,none,none],outs:= [.Hx tI, .Bo tO teG false, .Bo tO teG false],fn:= λ_=>none,rp:=some 198}
def Zu (n:Int) (g:List (List Int)):Ev×Ev:=Tn n.toNat (g.map some)
noncomputable abbrev Xk:MSpec:=sY AK (λx=>(1<=x.1/\x.1<=20)/\List.length x.2.1<=4294967296/\ ∀g∈(x.2.1:List (List Int)),Pm x.1.toNat g)
 (λx=>((x.1,(Zu x.1 x.2.1).1,(Zu x.1 x.2.1).2,()),()))
noncomputable def Vk (p:PP):Int:=if Bi p=true then (aX (Zu p.1 p.2.2.1).2 p.1.toNat:Int) else 0
noncomputable abbrev Rw:Spec:=Hv (.pair Kg .unit) tI false true (λx=>Lp x.1) (λx=>Vk x.1)
theorem Aaa (c:Int×List (List (Option (List Int)))×List (List (Option (List Int)))×Unit) (l:Int) (P:Int->Prop):(Dt (λ(v3:Int×Int×PUnit) (k4:Int×Int×PUnit->Prop)=>Br (decide (v3.2.1<c.1)) (∃(y5:List (Option (List Int))),idx c.2.2.1 v3.2.1=some y5/\ ∃(y6:(List Int×PUnit)×PUnit),Qg.fn (y5,())=some y6/\ ∃(y7:Int),Xi.fn (List.take y6.1.1.length (List.drop 0 y6.1.1),())=some y7/\k4 (IntKind.i64.wrap (v3.1*y7),IntKind.i64.wrap (v3.2.1+(1:Int)),())) (P v3.1)) ((1:Int),l,PUnit.unit))=fnW ab (look [(213,Qg),(140,Xi)]) iV Try.f194 (c,l,()) P:=by kernel_rfl
theorem yY (p:Int×ByteArray×List (List Int)×Unit) (P:Int->Prop):(∃(y2:Bool),Hc.fn ((p.1,p.2.1,p.2.2.1,()),())=some y2/\Br (!y2) (P (0:Int)) (∃(y3:(Int×List (List (Option (List Int)))×List (List (Option (List Int)))×PUnit)×PUnit),Xk.fn (p.1,p.2.2.1,())=some y3/\ ∃(y4:Int),iV.fn ((y3.1.1,List.take y3.1.2.1.length (List.drop 0 y3.1.2.1),List.take y3.1.2.2.1.length (List.drop 0 y3.1.2.2.1),()),(0:Int),())=some y4/\P y4))=fnW Hf (look [(119,Hc),(193,Xk),(194,iV)]) Rw Try.f154 (p,()) P:=by kernel_rfl
theorem Aa3 (n i:Nat):(upto n).countP (λy=>decide ((i:Int)<=y))=n-i:=by
 induction n with
 |zero=>simp [upto]
 |succ n ih=>
  rw [Un,List.countP_append,ih]
  simp only [List.countP_cons,List.countP_nil,Mu]
  split<;>omega
theorem ZH {n i:Nat} {gs:List PO} {row:Row} {H:List Int->Prop} (hi:i<n) (h:XN n i gs row H):(Mo row).length<=n-i:=by
 rw [<-Aa3 n i]
 unfold Mo
 rw [h.rl,<-List.countP_eq_length_filter]
 refine List.countP_mono_left λy hy hs=>?_
 obtain ⟨h1,h2⟩:=Kn.1 hy
 obtain ⟨t,ht⟩:=Vv.1 hs
 obtain ⟨t1,t2,t3,_⟩:=h.rt _ _ ht
 refine Hu ?_
 refine Bf λhn=>?_
 have hy':y.toNat<i:=by omega
 have:=t1.inj hi (by omega:y.toNat<n) (by rw [t3,t2 _ hy'])
 omega
def fact:Nat->Nat
 |0=>1
 |n+1=>(n+1)*fact n
theorem zO: ∀n,1<=fact n
 |0=>Ao _
 |n+1=>by have:=zO n;simp only [fact];exact Ek this (Nat.le_mul_of_pos_left _ (by omega))
theorem MU {a b:Nat} (h:a<=b):fact a<=fact b:=by
 induction h with
 |refl=>exact Ao _
 |step _ ih=>simp only [fact];exact Ek ih (Nat.le_mul_of_pos_left _ (by omega))
theorem UM {n:Nat} {s:Ev×Ev} (hc:j4 n n 0 s): ∀j,j<=n->aX s.2 j*fact (n-j)<=fact n
 |0,_=>by simp [aX]
 |j+1,hj=>by
  have ih:=UM hc j (by omega)
  have h1:=ZH (by omega) (lk n 0 hc j (by omega) (by omega))
  have e:n-j=(n-(j+1))+1:=by omega
  simp only [aX]
  rw [e] at ih h1
  simp only [fact] at ih
  rw [Nat.mul_assoc]
  exact Ek (Nat.mul_le_mul_left _ (Eg _ h1)) ih
theorem OE {n:Nat} (h2:n<=20) {s:Ev×Ev} (hc:j4 n n 0 s) {j:Nat} (hj:j<=n):aX s.2 j<=2432902008176640000:=by
 have h1:=UM hc j hj
 have h3:=zO (n-j)
 have h4:fact n<=2432902008176640000:=Ek (MU h2) (by decide)
 have h5:aX s.2 j*1<=aX s.2 j*fact (n-j):=Nat.mul_le_mul_left _ h3
 omega
theorem ZN (c:Int×List (List (Option (List Int)))×List (List (Option (List Int)))×Unit) (l:Int) (h:l=0/\ ∃N:Nat,(1<=N/\N<=20)/\c.1=N/\V N N 0 (c.2.1,c.2.2.1)):
  fnW ab (look [(213,Qg),(140,Xi)]) iV Try.f194 (c,l,()) (λ(z:Int)=>z=(aX c.2.2.1 c.1.toNat:Int)):=by
 obtain ⟨rfl,N,⟨h1,h2⟩,hN,v⟩:=h
 obtain ⟨n,G,T,⟨⟩⟩:=c
 dsimp only at hN v⊢
 subst hN
 refine Eq.mp (Aaa ((N:Int),G,T,()) 0 _) ?_
 obtain ⟨v1,v2,v3,v4⟩:=v
 dsimp only at v1 v2⊢
 rw [As]
 refine Ci N (λv=>v.2.1) (λj v=>v.1=(aX T j:Int)) rfl rfl ?_
 rintro j ⟨o,i,⟨⟩⟩ K hj hi ho hK
 dsimp only at hi ho⊢
 subst hi ho
 refine Br.dec (λhl=>?_) λhl=>?_
 ·have hl:j<N:=by omega
  have hT:j<T.length:=by omega
  have Wx:=lk N 0 v3 j (by omega) (by omega)
  have hrl:=Wx.rl
  dsimp only at hrl
  rw [zZ hT] at hrl
  refine ⟨_,Df hT,_,Ac (by show (T[j]).length<=20;omega),_,Ac trivial,?_⟩
  rw [Du,Bb,Cg (by omega)]
  have hb:=OE h2 v3 (j:=j+1) (by omega)
  simp only [aX] at hb
  rw [zZ hT] at hb
  have e:(aX T j:Int)*((Mo T[j]).length:Int)=((aX T j*(Mo T[j]).length:Nat):Int):=by push_cast;rfl
  show K (IntKind.i64.wrap ((aX T j:Int)*((Mo T[j]).length:Int)),_,())
  rw [e,Dh (by omega) (by omega)]
  refine hK hl _ rfl ?_
  simp only [aX]
  rw [zZ hT]
 ·have:j=N:=by omega
  subst this
  rfl
theorem DA:Sound Try.prog 194 iV:=
 Sound.Hv nU (Jd jJ (Bh kV Cm)) mixed Try.func194 (by kernel_rfl) (by kernel_rfl) λx h=>ZN x.1 x.2.1 h
theorem Cells.told {w:World} {S:Nat->Prop} {e:Ty} {cs:List Value} {xs:List e.den} (h:Cells w S (.slice e) cs xs): ∃o:Option (List e.den),Cells w S (.oslice e) cs o/\o.getD []=xs:=by
 simp only [Cells] at h
 obtain ⟨a,len,cap,rfl,h1,h2,h3⟩:=h
 cases a with
 |none=>
  rcases h3 with rfl|⟨g,o,h,_⟩
  ·refine ⟨none,?_,rfl⟩
   simp only [Cells]
   exact .inl ⟨trivial,cap,by rw [h1];rfl⟩
  ·cases h
 |some ad=>
  refine ⟨some xs,?_,rfl⟩
  simp only [Cells]
  exact .inr ⟨xs,ad,len,cap,rfl,rfl,h1,h2,h3.imp id λ⟨g,o,h,h4⟩=>⟨g,o,Ax h,h4⟩⟩
theorem EU {α β:Type} (Q:Nat->α->β->Prop): ∀(xs:List α),(∀i x,xs[i]?=some x-> ∃y,Q i x y)-> ∃ys:List β,ys.length=xs.length/\ ∀i x y,xs[i]?=some x->ys[i]?=some y->Q i x y:=by
 intro xs h
 refine ⟨List.ofFn λi:Fin xs.length=>Classical.choose (h i xs[i] (Ab i.2)),by simp,λi x y h1 h2=>?_⟩
 obtain ⟨hi,rfl⟩:=Am.1 h1
 obtain ⟨j8,rfl⟩:=Am.1 h2
 rw [List.getElem_ofFn]
 exact Classical.choose_spec (h i xs[i] (Ab hi))
theorem Ct.Ait {w:World} {S:Nat->Prop} {e:Ty} {v:Value} {xs:List (List e.den)} (h:Ct w S (.slice (.slice e)) v xs): ∃os:List (Option (List e.den)),Ct w S (.slice (.oslice e)) v os/\os.map (·.getD [])=xs:=by
 obtain ⟨cs,hc,rfl⟩:=h
 simp only [Cells] at hc
 obtain ⟨a,len,cap,rfl,h1,h2,h3⟩:=hc
 rcases h3 with rfl|⟨g,o,rfl,hg,hS,h4⟩
 ·refine ⟨[],⟨_,?_,rfl⟩,rfl⟩
  simp only [Cells]
  exact ⟨a,len,cap,rfl,h1,h2, .inl trivial⟩
 ·obtain ⟨os,e1,e2⟩:=EU (λi (x:List e.den) (y:Option (List e.den))=>y.getD []=x/\ ∃es:List Value,es.length=1/\(∀j u,es[j]?=some u->w.cell? ⟨g,o+i*1+j,none⟩=some u)/\Cells w S (.oslice e) es y) xs λi x hx=>by
   obtain ⟨es,k1,k2,k3⟩:=h4 i x hx
   obtain ⟨y,k4,k5⟩:=Cells.told (e:=e) (by simp only [Cells];exact k3)
   exact ⟨y,k5,es,k1,k2,k4⟩
  refine ⟨os,⟨_,?_,rfl⟩,?_⟩
  ·simp only [Cells]
   refine ⟨_,len,cap,rfl,by rw [h1,e1],h2, .inr ⟨g,o,rfl,hg,hS,λi y hy=>?_⟩⟩
   obtain ⟨hi,_⟩:=Am.1 hy
   obtain ⟨_,es,k1,k2,k3⟩:=e2 i _ y (Ab (by omega)) hy
   simp only [Cells] at k3
   exact ⟨es,k1,k2,k3⟩
  ·refine List.ext_getElem (by simp [e1]) λi g1 g2=>?_
   rw [List.getElem_map]
   exact (e2 i _ _ (Ab g2) (Ab (by omega))).1
theorem sn:Da Try.prog 193 Xk:=by
 have h:=px
 refine ⟨h.enter,λw S π us x r o g vs h1 hg h2 h3 hS h4 h5=>?_⟩
 obtain ⟨n,gens,⟨⟩⟩:=x
 match us,h2 with
 |u1::u2::us,h2=>
  obtain ⟨h6,⟨h7,h8⟩,h9⟩:=h2
  obtain ⟨os,og,ju⟩:=Ct.Ait (e:=tI) h8
  have ju:os.map (·.getD [])=(gens:List (List Int)):=ju
  have gC:(1<=n/\n<=20)/\List.length gens<=4294967296/\ ∀g∈(gens:List (List Int)),Pm n.toNat g:=Bf λhn=>by
   have:Xk.fn (n,gens,())=none:=Ai hn
   rw [this] at h5;cases h5
  have hos:os=gens.map some:=by
   rw [<-ju,List.map_map]
   refine (List.map_id os).symm.trans (Fz λx hx=>?_)
   cases x with
   |some y=>rfl
   |none=>
    have:=gC.2.2 [] (by rw [<-ju];exact Be.2 ⟨none,hx,rfl⟩)
    have h1:=this.n1
    have h2:=this.1
    simp at h2
    omega
  have hv:Xk.fn (n,gens,())=some ((n,(Zu n gens).1,(Zu n gens).2,()),()):=Ac gC
  rw [hv] at h5
  have h5:=Ax h5
  refine h.calls w S π (u1::u2::us) (n,os,()) r o g vs h1 hg ⟨h6,⟨h7,og⟩,h9⟩ h3 hS h4 ?_
  refine (Ac ⟨gC.1,by rw [hos,Hm];exact gC.2.1,λy hy=>?pp⟩).trans (Ma some ?qq)
  case pp=>
   replace hy:y∈os:=hy
   rw [hos] at hy
   obtain ⟨g,hg,rfl⟩:=Be.1 hy
   exact ⟨g,rfl,gC.2.2 g hg⟩
  case qq=>subst hos;exact h5
theorem lj {p:PP} (hv:Valid p):(1<=p.1/\p.1<=20)/\List.length p.2.2.1<=4294967296/\ ∀g∈p.2.2.1,Pm p.1.toNat g:=
 ⟨hv.n,by have:=hv.pF;omega,λg hg=>⟨by have:=hv.len g hg;omega,Ts (hv.perm g hg)⟩⟩
theorem rT {n:Nat} {g:List (List Int)} (h: ∀x∈g,Pm n x):PmL n (g.map some):= λo ho=>by
 obtain ⟨x,hx,rfl⟩:=Be.1 ho
 exact ⟨x,rfl,h x hx⟩
theorem wF {p:PP} (hv:Valid p):V p.1.toNat p.1.toNat 0 (Zu p.1 p.2.2.1):=by
 have:=hv.n
 exact zd (by omega) (by omega) (rT (lj hv).2.2)
theorem xH (p:PP) (h:Lp p):fnW Hf (look [(119,Hc),(193,Xk),(194,iV)]) Rw Try.f154 (p,()) (λ(z:Int)=>z=Vk p):=by
 refine Eq.mp (yY p _) ⟨_,Ac h,?_⟩
 show Br (!Bi p) _ _
 unfold Vk
 cases hv:Bi p with
 |false=>exact Br.of (λ_=>rfl) λhh=>by cases hh
 |true=>
  refine Br.of (λhh=>by cases hh) λ_=>?_
  have hV:=valid hv
  have hn:=hV.n
  refine ⟨_,Ac (lj hV),_,Ac ⟨rfl,p.1.toNat,⟨by omega,by omega⟩,(Int.toNat_of_nonneg (by omega:(0:Int)<=p.1)).symm,?vv⟩,?_⟩
  case vv=>
   simp only [Du,Bb]
   exact wF hV
  simp only [Du,Bb]
  exact (Ac trivial).symm
theorem nR:Sound Try.prog 154 Rw:=
 Sound.Hv Fh (Bh dp (Jd sn (Bh DA Cm))) mixed Try.func154 (by kernel_rfl) (by kernel_rfl) λx h=>xH x.1 h
theorem Yq {α:Type} [DecidableEq α]: ∀ {l1 l2:List α},l1.Nodup->(∀x∈l1,x∈l2)->l1.length<=l2.length
 | [],_,_,_=>Iz _
 |a::l,l2,hn,hs=>by
  obtain ⟨h1,h2⟩:=Ca.1 hn
  have ha:=hs a (by simp)
  have:=Yq (l1:=l) (l2:=l2.erase a) h2 λy hy=>by
   have hya:y≠a:= λe'=>h1 (by rw [<-e'];exact hy)
   exact (List.mem_erase_of_ne hya).2 (hs y (by simp [hy]))
  rw [Ou ha] at this
  have:=List.length_pos_of_mem ha
  simp only [Aw]
  omega
def nq (n:Nat) (T:Ev):Nat->Nat->List (List Int)
 |0,_=> [upto n]
 |k+1,l=>(Mo (T.getD l [])).flatMap λy=>(nq n T k (l+1)).map λq=>Aj q (((T.getD l []).getD y.toNat none).getD [])
def vK (T:Ev):Nat->Nat->Nat
 |0,_=>1
 |k+1,l=>(Mo (T.getD l [])).length*vK T k (l+1)
theorem BF (n:Nat) (T:Ev): ∀k l,(nq n T k l).length=vK T k l
 |0,_=>rfl
 |k+1,l=>by
  simp only [nq,vK,List.length_flatMap,Hm,BF n T k (l+1)]
  generalize Mo (T.getD l [])=o
  induction o with
  |nil=>simp
  |cons a o ih=>simp only [Bk,Ov,ih,Aw,Nat.succ_mul];omega
theorem vB (T:Ev): ∀k j,aX T (j+k)=aX T j*vK T k j
 |0,j=>by simp [vK]
 |k+1,j=>by
  have:=vB T k (j+1)
  rw [show j+(k+1)=j+1+k by omega,this]
  simp only [aX,vK]
  rw [Nat.mul_assoc]
theorem BU (n:Nat) (T:Ev):(nq n T n 0).length=aX T n:=by
 rw [BF,show aX T n=aX T (0+n) by rw [Cj],vB]
 simp [aX]
theorem rz {n:Nat} (h1:1<=n) (h2:n<=20) {s:Ev×Ev} : ∀(k l:Nat),l+k=n->j4 n k l s-> ∀p,p∈nq n s.2 k l↔Pm n p/\Fx l p/\Nc s.2 k l p=true
 |0,l,hk,hc,p=>by
  have hl:l=n:=by omega
  subst hl
  simp only [nq,Ae]
  exact ⟨λe=>by subst e;exact ⟨Pm.id h1 h2,λi hi=>jg hi,rfl⟩,λh=>h.2.1.all h.1⟩
 |k+1,l,hk,hc,p=>by
  obtain ⟨c1,c2,c3⟩:=hc
  have ih:=rz h1 h2 k (l+1) (by omega) c1
  have eU:l<n:=by omega
  simp only [nq,Ey,Be]
  constructor
  ·rintro ⟨y,hy,q,hq,rfl⟩
   obtain ⟨yn,rfl,hyn⟩:=Ti.1 hy
   obtain ⟨t,ht⟩:=Mt.1 hyn
   obtain ⟨t1,t2,t3,t4⟩:=c2.rt _ _ ht
   obtain ⟨q1,q2,q3⟩:=(ih q).1 hq
   rw [As,ht,Cw]
   have hap:ap (Aj q t) l=yn:=by rw [Jc q1 t1 eU,q2 l (by omega),t3]
   refine ⟨q1.comp t1,λi hi=>by rw [Jc q1 t1 (by omega),q2 i (by omega),t2 i hi],?_⟩
   simp only [Nc]
   rw [show (Hz (Aj q t) (l:Int)).toNat=ap (Aj q t) l from rfl,hap,ht]
   show Nc s.2 k (l+1) (Aj (Aj q t) (Bc t))=true
   rw [Ed q1 t1 t1.inv,Ux t1,comp_id q1]
   exact q3
  ·rintro ⟨p1,p2,p3⟩
   simp only [Nc] at p3
   rw [show (Hz p (l:Int)).toNat=ap p l from rfl] at p3
   split at p3
   ·cases p3
   ·rename_i t ht
    obtain ⟨t1,t2,t3,t4⟩:=c2.rt _ _ ht
    refine ⟨(ap p l:Int),Ti.2 ⟨ap p l,rfl,by rw [ht];simp⟩,Aj p (Bc t),(ih _).2 ⟨p1.comp t1.inv,Fx.div p1 t1 p2 t2 eU t3,p3⟩,?_⟩
    rw [As,ht,Cw,Ed p1 t1.inv t1,Vh t1,comp_id p1]
theorem rC {n:Nat} (h1:1<=n) (h2:n<=20) {s:Ev×Ev} : ∀(k l:Nat),l+k=n->j4 n k l s->(nq n s.2 k l).Nodup
 |0,l,hk,hc=>by simp [nq]
 |k+1,l,hk,hc=>by
  obtain ⟨c1,c2,c3⟩:=hc
  have ih:=rC h1 h2 k (l+1) (by omega) c1
  have hm:=rz h1 h2 k (l+1) (by omega) c1
  have eU:l<n:=by omega
  have rep: ∀y∈Mo (s.2.getD l []),∃(yn:Nat) (t:List Int),y=yn/\((s.2.getD l []).getD y.toNat none).getD []=t/\Pm n t/\ap t l=yn:= λy hy=>by
   obtain ⟨yn,rfl,hyn⟩:=Ti.1 hy
   obtain ⟨t,ht⟩:=Mt.1 hyn
   obtain ⟨t1,t2,t3,t4⟩:=c2.rt _ _ ht
   exact ⟨yn,t,rfl,by rw [As,ht];rfl,t1,t3⟩
  simp only [nq]
  refine List.pairwise_flatMap.2 ⟨λy hy=>?_,?_⟩
  ·obtain ⟨yn,t,rfl,e,t1,t3⟩:=rep y hy
   rw [e]
   refine bp.2 (List.Pairwise.imp_of_mem ?_ ih)
   intro a b ha hb Hq he
   have ha:=((hm a).1 ha).1
   have hb:=((hm b).1 hb).1
   have h3:=Ma (λz=>Aj z (Bc t)) he
   simp only [Ed ha t1 t1.inv,Ed hb t1 t1.inv,Ux t1,comp_id ha,comp_id hb] at h3
   exact Hq h3
  ·refine List.Pairwise.imp_of_mem ?_ ((Xq _).filter _)
   intro y z hy hz Hq a ha b hb he
   obtain ⟨yn,t,rfl,e,t1,t3⟩:=rep y hy
   obtain ⟨zn,u,rfl,e',u1,u3⟩:=rep z hz
   rw [e] at ha
   rw [e'] at hb
   obtain ⟨q,hq,rfl⟩:=Be.1 ha
   obtain ⟨q',cA,rfl⟩:=Be.1 hb
   obtain ⟨a1,a2,_⟩:=(hm q).1 hq
   obtain ⟨b1,b2,_⟩:=(hm q').1 cA
   have h3:=Ma (λz=>ap z l) he
   simp only [Jc a1 t1 eU,Jc b1 u1 eU,a2 l (by omega),b2 l (by omega),t3,u3] at h3
   exact Hq (by rw [h3])
theorem mR {g:List (List Int)} (Q:List Int->Prop) {x:List Int} {d:Int} : ∀(ls:List Int) (L:List (List Int)) (D:List Int),(∀l∈ls,Q (Aj x (Av g l)))->(∀y∈L,Q y)->
  (∀y∈(Hg g x d ls L D).1,Q y)/\(∀y∈L,y∈(Hg g x d ls L D).1)/\((Hg g x d ls L D).2.2=true-> ∀l∈ls,Aj x (Av g l)∈(Hg g x d ls L D).1)/\
   ((Hg g x d ls L D).2.2=false->(Hg g x d ls L D).1.length=3000/\ ∃z,Q z/\z∉(Hg g x d ls L D).1)
 | [],L,D,_,h=>⟨h,λ_ h=>h,(λ_ l hl=>by cases hl),(λe=>by cases e)⟩
 |l::ls,L,D,hq,h=>by
  have cA: ∀l∈ls,Q (Aj x (Av g l)):= λl' h'=>hq l' (An _ h')
  simp only [Hg]
  split
  ·rename_i hm
   obtain ⟨a1,a2,a3,a4⟩:=mR Q (d:=d) ls L D cA h
   refine ⟨a1,a2,λe l' Ll=>?_,a4⟩
   rcases Ay.1 Ll with rfl|Ll
   ·exact a2 _ hm
   ·exact a3 e l' Ll
  ·rename_i hn
   split
   ·rename_i hf
    exact ⟨h,λ_ h=>h,(λe=>by cases e),λ_=>⟨hf,_,hq l (by simp),hn⟩⟩
   ·obtain ⟨a1,a2,a3,a4⟩:=mR Q (d:=d) ls (L++ [Aj x (Av g l)]) (D++ [d+1]) cA λy hy=>by
     rcases Az.1 hy with hy|hy
     ·exact h y hy
     ·rw [Ae.1 hy];exact hq l (by simp)
    refine ⟨a1,λy hy=>a2 y (Bj _ hy),λe l' Ll=>?_,a4⟩
    rcases Ay.1 Ll with rfl|Ll
    ·exact a2 _ (Cc _ (by simp))
    ·exact a3 e l' Ll
theorem ux {p:PP} (hV:Valid p) {m:Nat} {ls:List Int} (hl: ∀l∈ls,Jp (List.length p.2.2.1) l) (Q:List Int->Prop) (hQ: ∀x,Q x-> ∀l∈ls,Q (Aj x (Av p.2.2.1 l))):
  ∀(f k:Nat) (L:List (List Int)) (D:List Int),3001<=f+k->k<=L.length->Wa p m L D->(∀y∈L,Q y)->(∀(j:Nat) (h:j<L.length),j<k-> ∀l∈ls,Aj L[j] (Av p.2.2.1 l)∈L)->
  (∀y∈(Ka p.2.2.1 ls f k L D).1,Q y)/\((Ka p.2.2.1 ls f k L D).2.2=true-> ∀x∈(Ka p.2.2.1 ls f k L D).1,∀l∈ls,Aj x (Av p.2.2.1 l)∈(Ka p.2.2.1 ls f k L D).1)/\
   ((Ka p.2.2.1 ls f k L D).2.2=false->(Ka p.2.2.1 ls f k L D).1.length=3000/\ ∃z,Q z/\z∉(Ka p.2.2.1 ls f k L D).1)
 |0,k,L,D,hf,hkL,hb,hq,hc=>by
  have:=hb.ok.pF
  omega
 |f+1,k,L,D,hf,hkL,hb,hq,hc=>by
  simp only [Ka]
  split
  ·rename_i hk
   have NB:k<D.length:=by rw [hb.len];exact hk
   have hd:=hb.dep k NB
   have e:D.getD k 0=D[k]:=by rw [Ah,Ab NB];rfl
   rw [Vd hk,e]
   obtain ⟨k1,⟨A,k2⟩,_⟩:=lg hV (hb.row _ (Al hk)) (hb.ok.len _ (Al hk)) (d:=D[k]) ls L D hl hb ⟨by omega,by omega⟩
   obtain ⟨a1,a2,a3,a4⟩:=mR (g:=p.2.2.1) Q (x:=L[k]) (d:=D[k]) ls L D (hQ _ (hq _ (Al hk))) hq
   split
   ·rename_i L' D' he
    rw [he] at k1 k2 a1 a2 a3 a4
    have k2:L'=L++A:=k2
    refine ux hV hl Q hQ f (k+1) L' D' (by omega) (by rw [k2,Au];omega) k1 a1 λj hj hjk l Ll=>?_
    by_cases e':j<k
    ·have e2:L'[j]=L[j]:=by simp only [k2];rw [Vu (by omega)]
     rw [e2];exact a2 _ (hc j (by omega) e' l Ll)
    ·have:j=k:=by omega
     subst this
     have e2:L'[j]=L[j]:=by simp only [k2];rw [Vu (by omega)]
     rw [e2];exact a3 rfl l Ll
   ·rename_i L' D' he
    rw [he] at a1 a4
    exact ⟨a1,(λe=>by cases e),λ_=>a4 rfl⟩
  ·rename_i hk
   refine ⟨hq,λ_ x hx l Ll=>?_,λe=>by cases e⟩
   obtain ⟨j,hj,rfl⟩:=Bx.1 hx
   have hj:j<L.length:=hj
   exact hc j hj (by omega) l Ll
theorem XS {p:PP} (hv:Bi p=true) {s:List Int} (hs:s.length<=20) (hr: ∀y∈s,0<=y/\y<p.1) (Q:List Int->Prop) (hQs:Q s) (hQ: ∀x,Q x-> ∀l∈Bm p.2.2.1.length,Q (Aj x (Av p.2.2.1 l))):
  (∀y∈(Jb p.2.2.1 s).1,Q y)/\((Jb p.2.2.1 s).2.2=true-> ∀x∈(Jb p.2.2.1 s).1,∀l∈Bm p.2.2.1.length,Aj x (Av p.2.2.1 l)∈(Jb p.2.2.1 s).1)/\
   ((Jb p.2.2.1 s).2.2=false->(Jb p.2.2.1 s).1.length=3000/\ ∃z,Q z/\z∉(Jb p.2.2.1 s).1):=
 ux (valid hv) (λ_ hl=>Gw hl) Q hQ 3001 0 [s] [0] (by omega) (Iz _) (iC hs hr) (λy hy=>by rw [Ae.1 hy];exact hQs) λj _ hj=>absurd hj (Fa _)
theorem mz {g:List (List Int)} {x:List Int} :some x∈g.map some↔x∈g:=by simp
theorem GZ {n:Nat} {g:List (List Int)} {x:List Int} (h:Gn n (g.map some) x) {l:Int} (hl:l∈Bm g.length):Gn n (g.map some) (Aj x (Av g l)):=by
 obtain ⟨k,hk,rfl|rfl⟩:=Nh (Gw hl)
 ·rw [Jf hk];exact .mul h (mz.2 (Al hk))
 ·rw [Kw hk];exact .inv h (mz.2 (Al hk))
theorem Ni {n k:Nat} (hk:k<n):(k:Int)+1∈Bm n/\ -((k:Int)+1)∈Bm n:=by
 unfold Bm
 exact ⟨Ey.2 ⟨k,Ej.2 hk,by simp⟩,Ey.2 ⟨k,Ej.2 hk,by simp⟩⟩
theorem FU {n:Nat} {g:List (List Int)} {L:List (List Int)} (h0:upto n∈L) (hc: ∀x∈L,∀l∈Bm g.length,Aj x (Av g l)∈L) {p:List Int} (hp:Gn n (g.map some) p):p∈L:=by
 induction hp with
 |id=>exact h0
 |mul _ hg ih=>
  obtain ⟨k,hk,rfl⟩:=Bx.1 (mz.1 hg)
  have:=hc _ ih _ (Ni hk).1
  rwa [Jf hk] at this
 |inv _ hg ih=>
  obtain ⟨k,hk,rfl⟩:=Bx.1 (mz.1 hg)
  have:=hc _ ih _ (Ni hk).2
  rwa [Kw hk] at this
structure Reach (p:PP) (L:List (List Int)) (D:List Int) (whole:Bool):Prop where
 ok:Wa p p.1.toNat L D
 nodup:L.Nodup
 first: ∃A,L=upto p.1.toNat::A
 gen: ∀x∈L,Gn p.1.toNat (p.2.2.1.map some) x
 all:whole=true-> ∀x,Gn p.1.toNat (p.2.2.1.map some) x->x∈L
 big:whole=false->L.length=3000/\ ∃z,Gn p.1.toNat (p.2.2.1.map some) z/\z∉L
theorem Gm.nodup {m:Nat} {L:List (List Int)} {Ml:List Int} (h:Gm m L Ml):L.Nodup:=
 De.2 λi j hi hj dO e=>by have:=h.inj hi hj e;omega
theorem gV {p:PP} (hv:Bi p=true):Reach p (Jb p.2.2.1 (upto p.1.toNat)).1 (Jb p.2.2.1 (upto p.1.toNat)).2.1 (Jb p.2.2.1 (upto p.1.toNat)).2.2:=by
 have hV:=valid hv
 have hn:=hV.n
 have hl:(upto p.1.toNat).length=p.1.toNat:=Iv _
 have hr: ∀y∈upto p.1.toNat,0<=y/\y<p.1:= λy hy=>by have:=Kn.1 hy;omega
 obtain ⟨b1,b2⟩:=RP hv (by omega) hr
 rw [hl] at b1
 obtain ⟨a1,a2,a3⟩:=XS hv (by omega) hr (λx=>Gn p.1.toNat (p.2.2.1.map some) x) .id λx hx l hl=>GZ hx hl
 exact ⟨b1,b1.ok.nodup,b2,a1,λhw x hx=>FU (by obtain ⟨A,e⟩:=b2;rw [e];simp) (a2 hw) hx,a3⟩
theorem bJ {p:PP} (hV:Valid p) {x:List Int} :x∈nq p.1.toNat (Zu p.1 p.2.2.1).2 p.1.toNat 0↔Gn p.1.toNat (p.2.2.1.map some) x:=by
 have hn:=hV.n
 have hg:=rT (lj hV).2.2
 have hS:JX p.1.toNat λg=>some g∈p.2.2.1.map some:=⟨⟨by omega,by omega⟩,λg du=>by obtain ⟨g',e,h⟩:=hg _ du;cases e;exact h⟩
 refine (rz (by omega) (by omega) _ 0 (by omega) (wF hV).2.2.1 x).trans ⟨λh=>(qP (by omega) (by omega) hg h.1).1 h.2.2,λh=>?_⟩
 have hp:=cB.pm hS h
 exact ⟨hp,λi hi=>absurd hi (Fa _),(qP (by omega) (by omega) hg hp).2 h⟩
theorem tD {p:PP} (hV:Valid p):(nq p.1.toNat (Zu p.1 p.2.2.1).2 p.1.toNat 0).Nodup:=by
 have hn:=hV.n
 exact rC (by omega) (by omega) _ 0 (by omega) (wF hV).2.2.1
theorem count_eq {p:PP} (hv:Bi p=true):Vk p=((nq p.1.toNat (Zu p.1 p.2.2.1).2 p.1.toNat 0).length:Int):=by
 unfold Vk
 rw [Ac hv,BU]
theorem zC {p:PP} (hv:Bi p=true):(Jb p.2.2.1 (upto p.1.toNat)).2.2=decide (1<=Vk p/\Vk p<=3000):=by
 have hV:=valid hv
 have h:=gV hv
 rw [count_eq hv]
 have lQ:=tD hV
 have h1:=Yq h.nodup λx hx=>(bJ hV).2 (h.gen x hx)
 obtain ⟨A,hA⟩:=h.first
 have GG:1<=(Jb p.2.2.1 (upto p.1.toNat)).1.length:=by rw [hA];simp
 cases hw:(Jb p.2.2.1 (upto p.1.toNat)).2.2 with
 |true=>
  have h2:=Yq lQ λx hx=>h.all hw x ((bJ hV).1 hx)
  have h3:=h.ok.ok.pF
  exact (Hu ⟨by omega,by omega⟩).symm
 |false=>
  obtain ⟨h2,z,h3,h4⟩:=h.big hw
  have h5:=Yq (l1:=z::(Jb p.2.2.1 (upto p.1.toNat)).1) (Ca.2 ⟨h4,h.nodup⟩) λx hx=>by
   rcases Ay.1 hx with rfl|hx
   ·exact (bJ hV).2 h3
   ·exact (bJ hV).2 (h.gen x hx)
  simp only [Aw] at h5
  exact (Lk (by omega)).symm
def xp (g:List (List Int)) (s:List Int):List (List Int):=(Bm g.length).map λl=>Aj s (Av g l)
noncomputable abbrev iU:Spec:=Hv (.pair Kg (.pair tL .unit)) pR false true (λx=>Bi x.1=true/\List.length x.2.1<=20/\ ∀y∈x.2.1,0<=y/\y<x.1.1) (λx=>xp x.1.2.2.1 x.2.1)
abbrev EX:Type:=List (List Int)×List Int×List Int×List Int
def qF (g:List (List Int)) (k:Int) (x:List Int) (d:Int):List Int->EX->List Int->EX×List Int
 | [],s,row=>(s,row)
 |l::ls,s,row=>if Aj x (Av g l)∈s.1 then qF g k x d ls s (row++ [(s.1.idxOf (Aj x (Av g l)):Int)])
  else qF g k x d ls (s.1++ [Aj x (Av g l)],s.2.1++ [d+1],s.2.2.1++ [k],s.2.2.2++ [l]) (row++ [(s.1.length:Int)])
def tn (g:List (List Int)) (ls:List Int):Nat->Nat->EX->List (List Int)->EX×List (List Int)
 |0,_,s,N=>(s,N)
 |f+1,k,s,N=>if k<s.1.length then tn g ls f (k+1) (qF g (k:Int) (s.1.getD k []) (s.2.1.getD k 0) ls s []).1 (N++ [(qF g (k:Int) (s.1.getD k []) (s.2.1.getD k 0) ls s []).2]) else (s,N)
def gK (key:ByteArray):List (List Int)->Nat->Option Int
 | [],_=>none
 |x::r,i=>if Ud x=key then some (i:Int) else gK key r (i+1)
def a6 (L:List (List Int)):ByteArray->Option Int:= λkey=>gK key L 0
def Afv (p:PP) (r:EX×List (List Int)):sJ.den:=(p,r.1.1,r.1.2.1,a6 r.1.1,r.1.2.2.1,r.1.2.2.2,r.2,())
def kH (p:PP):sJ.den:=Afv p (tn p.2.2.1 (Bm p.2.2.1.length) 3001 0 ([upto p.1.toNat],[0],[0],[0]) [])
noncomputable def Ix (p:PP):Bool:=Bi p&&(Jb p.2.2.1 (upto p.1.toNat)).2.2
noncomputable abbrev Ui:Spec:=Hv (.pair Kg .unit) (.pair (.optr sJ) (.pair .bool .unit)) true false (λx=>Lp x.1) (λx=>if Ix x.1=true then (some (kH x.1),true,()) else (none,false,()))
abbrev DI:Type:=Int×Int×ByteArray×List (List Int)×List (List Int)×PUnit
theorem Aa9 (p:Int×ByteArray×List (List Int)×Unit) (s:List Int) (P:List (List Int)->Prop):(∃(y3:List Int),Mw.fn ((↑p.2.2.1.length:Int),())=some y3/\0=0/\0=([]:List Int).length/\Dt (λ(v4:DI) (k5:DI->Prop)=>Br (decide (v4.1<(↑y3.length:Int))) (∃(y6:Int),idx y3 v4.1=some y6/\ ∃(y7:List Int),Nw.fn (v4.2.2.2.1,y6,())=some y7/\ ∃(y8:List Int),Qf.fn (s,y7,())=some y8/\0=0/\v4.2.2.2.2.1.length=v4.2.2.2.2.1.length/\v4.2.2.2.2.1.length+(List.take 1 (List.drop 0 [y8])).length<=Dd/\0=0/\(v4.2.2.2.2.1++List.take 1 (List.drop 0 [y8])).length=(v4.2.2.2.2.1++List.take 1 (List.drop 0 [y8])).length/\k5 (IntKind.i64.wrap (v4.1+(1:Int)),v4.2.1,v4.2.2.1,v4.2.2.2.1,v4.2.2.2.2.1++List.take 1 (List.drop 0 [y8]),())) (P (List.take v4.2.2.2.2.1.length (List.drop 0 v4.2.2.2.2.1)))) ((0:Int),p.1,p.2.1,p.2.2.1,[],PUnit.unit))=fnW Hf (look [(121,Mw),(147,Nw),(142,Qf)]) iU Try.f155 (p,s,()) P:=by kernel_rfl
theorem ZM (p:PP) (s:List Int) (h:Bi p=true/\s.length<=20/\ ∀y∈s,0<=y/\y<p.1):fnW Hf (look [(121,Mw),(147,Nw),(142,Qf)]) iU Try.f155 (p,s,()) (λ(z:List (List Int))=>z=xp p.2.2.1 s):=by
 obtain ⟨hv,hs,hr⟩:=h
 have hV:=valid hv
 have hf:=hV.pF
 refine Eq.mp (Aa9 p s _) ⟨Bm p.2.2.1.length,Ac ⟨Int.natCast_nonneg _,by show ((p.2.2.1.length:Nat):Int)<=8;omega⟩,rfl,rfl,?_⟩
 have hL:=Qc p.2.2.1.length
 refine Ci (Bm p.2.2.1.length).length (λv=>v.1) (λj v=>v=((j:Int),p.1,p.2.1,p.2.2.1,((Bm p.2.2.1.length).take j).map (λl=>Aj s (Av p.2.2.1 l)),())) rfl (by simp) ?_
 rintro j v K hj hi rfl hK
 dsimp only
 refine Br.dec (λhl=>?_) λhl=>?_
 ·have hl:j<(Bm p.2.2.1.length).length:=by omega
  have hlj:=Gw (Al hl)
  obtain ⟨h1,h2⟩:=cW hV hlj
  refine ⟨_,Df hl,_,Ac ⟨hlj,hf.2,hV.perm⟩,_,Ac ⟨hs,λy hy=>by have:=hr y hy;show 0<=y/\y<((Av p.2.2.1 (Bm p.2.2.1.length)[j]).length:Int);omega⟩,rfl,rfl,?_,rfl,rfl,?_⟩
  ·show (((Bm p.2.2.1.length).take j).map _).length+1<=4294967296
   rw [Hm,Cs]
   omega
  ·rw [Cg (by omega)]
   refine hK hl _ rfl ?_
   have e:(Bm p.2.2.1.length).take (j+1)=(Bm p.2.2.1.length).take j++ [(Bm p.2.2.1.length)[j]]:=by
    rw [Hy,Ab hl,Option.toList_some]
   rw [e,Nn]
   rfl
 ·have:j=(Bm p.2.2.1.length).length:=by omega
  subst this
  rw [Du,Bb,Bb]
  rfl
theorem CZ:Sound Try.prog 155 iU:=
 Sound.Hv Fh (Bh cp (Bh ie (Bh Qo Cm))) mixed Try.func155 (by kernel_rfl) (by kernel_rfl) λx h=>ZM x.1 x.2.1 h
theorem Jh {α:Type} {xs ys:List α} {i:Nat} {d:α} (h:i<xs.length):(xs++ys).getD i d=xs.getD i d:=by
 rw [Ah,Ah,Ar h]
theorem iG {α:Type} {xs:List α} {x d:α} :(xs++ [x]).getD xs.length d=x:=by
 rw [Ah,Aq (Ao _),Nat.sub_self];rfl
theorem lJ {α:Type} {xs:List α} {i:Nat} {d:α} (h:i<xs.length):xs.getD i d=xs[i]:=by
 rw [Ah,Ab h];rfl
structure Lv (g:List (List Int)) (ls:List Int) (k:Nat) (L:List (List Int)) (D:List Int):Prop where
 len:D.length=L.length
 pos:0<L.length
 mono: ∀i j,i<=j->j<L.length->D.getD i 0<=D.getD j 0
 ZD:k<L.length-> ∀j,j<L.length->D.getD j 0<=D.getD k 0+1
 par: ∀j,0<j->j<L.length-> ∃i l,i<j/\l∈ls/\L.getD j []=Aj (L.getD i []) (Av g l)/\D.getD j 0=D.getD i 0+1
 zero:D.getD 0 0=0
theorem Lv.add {g:List (List Int)} {ls:List Int} {k:Nat} {L:List (List Int)} {D:List Int} (h:Lv g ls k L D) (hk:k<L.length) {l:Int} (hl:l∈ls):
  Lv g ls k (L++ [Aj (L.getD k []) (Av g l)]) (D++ [D.getD k 0+1]):=by
 have hlen:=h.len
 have hD: ∀i,i<L.length->(D++ [D.getD k 0+1]).getD i 0=D.getD i 0:= λi hi=>Jh (by omega)
 have hDl:(D++ [D.getD k 0+1]).getD L.length 0=D.getD k 0+1:=by rw [<-hlen];exact iG
 refine ⟨by simp [hlen],by simp,λi j dO hj=>?_,λ_ j hj=>?_,λj h0 hj=>?_,?_⟩
 ·rw [Au,Bw] at hj
  by_cases e:j=L.length
  ·subst e
   rw [hDl]
   by_cases e':i=L.length
   ·subst e';rw [hDl];exact cy _
   ·rw [hD i (by omega)]
    exact h.ZD hk i (by omega)
  ·rw [hD i (by omega),hD j (by omega)]
   exact h.mono i j dO (by omega)
 ·rw [Au,Bw] at hj
  rw [hD k hk]
  by_cases e:j=L.length
  ·subst e;rw [hDl];exact cy _
  ·rw [hD j (by omega)];exact h.ZD hk j (by omega)
 ·rw [Au,Bw] at hj
  by_cases e:j=L.length
  ·subst e
   exact ⟨k,l,hk,hl,by rw [iG,Jh hk],by rw [hDl,hD k hk]⟩
  ·obtain ⟨i,l',h1,h2,h3,h4⟩:=h.par j h0 (by omega)
   exact ⟨i,l',h1,h2,by rw [Jh (by omega),Jh (by omega)];exact h3,by rw [hD j (by omega),hD i (by omega)];exact h4⟩
 ·rw [hD 0 h.pos];exact h.zero
theorem qi {g:List (List Int)} {ls:List Int} {k:Nat} : ∀(LJ:List Int) (L:List (List Int)) (D:List Int),(∀l∈LJ,l∈ls)->Lv g ls k L D->k<L.length-> ∀ {x:List Int} {d:Int},x=L.getD k []->d=D.getD k 0->
  Lv g ls k (Hg g x d LJ L D).1 (Hg g x d LJ L D).2.1/\(∃A,(Hg g x d LJ L D).1=L++A)/\(∃A,(Hg g x d LJ L D).2.1=D++A)/\
  ((Hg g x d LJ L D).2.2=true-> ∀l∈LJ,∃j,j<(Hg g x d LJ L D).1.length/\(Hg g x d LJ L D).1.getD j []=Aj x (Av g l)/\(Hg g x d LJ L D).2.1.getD j 0<=d+1)
 | [],L,D,_,h,_,x,d,_,_=>⟨h,⟨[],by simp [Hg]⟩,⟨[],by simp [Hg]⟩,λ_ l hl=>by cases hl⟩
 |l::LJ,L,D,hs,h,hk,x,d,hx,hd=>by
  have GI: ∀l∈LJ,l∈ls:= λl' h'=>hs l' (An _ h')
  have hlen:=h.len
  simp only [Hg]
  split
  ·rename_i hm
   obtain ⟨a1,⟨A,a2⟩,⟨A',a3⟩,a4⟩:=qi LJ L D GI h hk hx hd
   refine ⟨a1,⟨A,a2⟩,⟨A',a3⟩,λe l' Ll=>?_⟩
   rcases Ay.1 Ll with rfl|Ll
   ·obtain ⟨j,hj,hjx⟩:=Bx.1 hm
    refine ⟨j,by rw [a2,Au];omega,by rw [a2,Jh hj,lJ hj];exact hjx,?_⟩
    rw [a3,Jh (by omega),hd]
    exact h.ZD hk j hj
   ·exact a4 e l' Ll
  ·split
   ·exact ⟨h,⟨[],by simp⟩,⟨[],by simp⟩,λe=>by cases e⟩
   ·have SJ:=h.add hk (hs l (by simp))
    rw [<-hx,<-hd] at SJ
    obtain ⟨a1,⟨A,a2⟩,⟨A',a3⟩,a4⟩:=qi LJ (L++ [Aj x (Av g l)]) (D++ [d+1]) GI SJ (by rw [Au];omega) (x:=x) (d:=d) (by rw [Jh hk];exact hx) (by rw [Jh (by omega)];exact hd)
    refine ⟨a1,⟨_::A,by rw [a2,Ck];rfl⟩,⟨_::A',by rw [a3,Ck];rfl⟩,λe l' Ll=>?_⟩
    rcases Ay.1 Ll with rfl|Ll
    ·refine ⟨L.length,by rw [a2,Au,Au];simp only [Bw];omega,?_,?_⟩
     ·rw [a2,Jh (by simp),iG]
     ·rw [a3,Jh (by simp [hlen]),<-hlen,iG]
      exact cy _
    ·exact a4 e l' Ll
structure wj (g:List (List Int)) (ls:List Int) (L:List (List Int)) (D:List Int):Prop where
 len:D.length=L.length
 pos:0<L.length
 zero:D.getD 0 0=0
 par: ∀j,0<j->j<L.length-> ∃i l,i<j/\l∈ls/\L.getD j []=Aj (L.getD i []) (Av g l)/\D.getD j 0=D.getD i 0+1
 step: ∀i,i<L.length-> ∀l∈ls,∃j,j<L.length/\L.getD j []=Aj (L.getD i []) (Av g l)/\D.getD j 0<=D.getD i 0+1
theorem zp {g:List (List Int)} {ls:List Int} : ∀(f k:Nat) (L:List (List Int)) (D:List Int),3001<=f+k->Lv g ls k L D->k<=L.length->
  (∀i,i<k-> ∀l∈ls,∃j,j<L.length/\L.getD j []=Aj (L.getD i []) (Av g l)/\D.getD j 0<=D.getD i 0+1)->
  (Ka g ls f k L D).2.2=true->(Ka g ls f k L D).1.length<=3000->wj g ls (Ka g ls f k L D).1 (Ka g ls f k L D).2.1
 |0,k,L,D,hf,h,hkL,hc,hw,h3=>by
  simp only [Ka] at h3⊢
  omega
 |f+1,k,L,D,hf,h,hkL,hc,hw,h3=>by
  simp only [Ka] at hw h3⊢
  split
  ·rename_i hk
   rw [Ac hk] at hw h3
   obtain ⟨a1,⟨A,a2⟩,⟨A',a3⟩,a4⟩:=qi (x:=L.getD k []) (d:=D.getD k 0) ls L D (λ_ h=>h) h hk rfl rfl
   have hlen:=h.len
   split
   ·rename_i L' D' he
    rw [he] at a1 a2 a3 a4
    simp only [he] at hw h3
    have a2:L'=L++A:=a2
    have a3:D'=D++A':=a3
    have a4:=a4 rfl
    dsimp only at a4
    have hLl:L.length<=L'.length:=by rw [a2,Au];omega
    refine zp f (k+1) L' D' (by omega) ⟨a1.len,a1.pos,a1.mono,λhk1 j hj=>?_,a1.par,a1.zero⟩ (by omega) (λi hi l hl=>?_) hw h3
    ·have h1:D'.getD j 0<=D'.getD k 0+1:=a1.ZD (show k<L'.length by omega) j hj
     have h2:D'.getD k 0<=D'.getD (k+1) 0:=a1.mono k (k+1) (by omega) hk1
     omega
    ·by_cases e:i=k
     ·subst e
      obtain ⟨j,b1,b2,b3⟩:=a4 l hl
      refine ⟨j,b1,?_,?_⟩
      ·rw [b2,a2,Jh (by omega)]
      ·rw [show D'.getD i 0=D.getD i 0 by rw [a3,Jh (by omega)]];exact b3
     ·obtain ⟨j,b1,b2,b3⟩:=hc i (by omega) l hl
      refine ⟨j,by omega,?_,?_⟩
      ·rw [a2,Jh (by omega),Jh (by omega)];exact b2
      ·rw [a3,Jh (by omega),Jh (by omega)];exact b3
   ·rename_i L' D' he
    simp only [he] at hw
    cases hw
  ·rename_i hk
   exact ⟨h.len,h.pos,h.zero,h.par,λi hi=>hc i (by have hi:i<L.length:=hi;omega)⟩
theorem qj {p:PP} {s:List Int} (hv:Bi p=true) (hs:s.length<=20) (hr: ∀y∈s,0<=y/\y<p.1) (hw:(Jb p.2.2.1 s).2.2=true):
  wj p.2.2.1 (Bm p.2.2.1.length) (Jb p.2.2.1 s).1 (Jb p.2.2.1 s).2.1:=by
 have hb:=(RP hv hs hr).1.ok.pF
 refine zp 3001 0 [s] [0] (by omega) ⟨rfl,by simp,λi j dO hj=>?_,λ_ j hj=>?_,λj h0 hj=>?_,rfl⟩ (Iz _) (λi hi=>absurd hi (Fa _)) hw hb
 ·have:j=0:=by simpa using hj
  subst this
  have:i=0:=by omega
  subst this
  exact cy _
 ·have:j=0:=by simpa using hj
  subst this
  simp
 ·have:j=0:=by simpa using hj
  omega
theorem AU {p:PP} (hV:Valid p) {x:List Int} (hx: ∀y∈x,0<=y/\y<p.1) {l:Int} (hl:l∈Bm p.2.2.1.length):
  -l∈Bm p.2.2.1.length/\Aj (Aj x (Av p.2.2.1 l)) (Av p.2.2.1 (-l))=x:=by
 obtain ⟨k,hk,Rq⟩:=Nh (Gw hl)
 have hg:=Ts (hV.perm _ (Al hk))
 have hgl:=hV.len _ (Al hk)
 have hn:=hV.n
 have hp:Pm p.1.toNat (p.2.2.1[k]):=⟨by omega,hg⟩
 have key: ∀q r:List Int,Pm p.1.toNat q->Pm p.1.toNat r->Aj q r=upto p.1.toNat->Aj (Aj x q) r=x:= λq r hq hr he=>by
  refine List.ext_getElem (by rw [Na,Na]) λi h1 h2=>?_
  have hxi:=hx _ (Al h2)
  obtain ⟨xi,hxe⟩:=Int.eq_ofNat_of_zero_le hxi.1
  have XL:xi<p.1.toNat:=by omega
  have e1:ap (Aj q r) xi=ap (upto p.1.toNat) xi:=Ma (λz=>ap z xi) he
  rw [Jc hq hr XL,jg XL] at e1
  simp only [Aj,List.getElem_map,hxe]
  have h3:=(hq.Yh XL).1
  have h4:=(hr.Yh (hq.lt XL)).1
  rw [h3,h4,e1]
 rcases Rq with rfl|rfl
 ·refine ⟨(Ni hk).2,?_⟩
  rw [Jf hk,Kw hk]
  exact key _ _ hp hp.inv (Ux hp)
 ·refine ⟨by rw [Int.neg_neg];exact (Ni hk).1,?_⟩
  rw [Int.neg_neg,Jf hk,Kw hk]
  exact key _ _ hp.inv hp (Vh hp)
structure dx (g:List (List Int)) (ls:List Int) (L:List (List Int)) (S:List Int->Prop) (d:List Int->Int):Prop where
 nn: ∀x∈L,0<=d x
 zero: ∀x∈L,d x=0↔S x
 step: ∀x∈L,∀l∈ls,d (Aj x (Av g l))<=d x+1
 down: ∀x∈L,0<d x-> ∃l∈ls,d (Aj x (Av g l))=d x-1
structure wg (g:List (List Int)) (ls:List Int) (L:List (List Int)):Prop where
 next: ∀x∈L,∀l∈ls,Aj x (Av g l)∈L
 back: ∀x∈L,∀l∈ls,-l∈ls/\Aj (Aj x (Av g l)) (Av g (-l))=x
theorem dx.le {g:List (List Int)} {ls:List Int} {L:List (List Int)} {S:List Int->Prop} {d d':List Int->Int} (hc:wg g ls L) (h:dx g ls L S d) (h':dx g ls L S d'):
  ∀(n:Nat) (x:List Int),x∈L->d' x=n->d x<=n
 |0,x,hx,e=>by
  have:=(h.zero x hx).2 ((h'.zero x hx).1 e)
  omega
 |n+1,x,hx,e=>by
  obtain ⟨l,hl,hd⟩:=h'.down x hx (by omega)
  obtain ⟨b1,b2⟩:=hc.back x hx l hl
  have h1:=dx.le hc h h' n _ (hc.next x hx l hl) (by omega)
  have h2:=h.step _ (hc.next x hx l hl) _ b1
  rw [b2] at h2
  omega
theorem dx.eq {g:List (List Int)} {ls:List Int} {L:List (List Int)} {S:List Int->Prop} {d d':List Int->Int} (hc:wg g ls L) (h:dx g ls L S d) (h':dx g ls L S d') {x:List Int} (hx:x∈L):d x=d' x:=by
 have n1:=h.nn x hx
 have n2:=h'.nn x hx
 have h1:=dx.le hc h h' (d' x).toNat x hx (by omega)
 have h2:=dx.le hc h' h (d x).toNat x hx (by omega)
 omega
theorem lK {L:List (List Int)} {j:Nat} (hj:j<L.length):L.getD j []∈L:=by rw [lJ hj];exact Al hj
theorem tC {p:PP} (hV:Valid p) {m:Nat} {L:List (List Int)} {D:List Int} (hb:Wa p m L D) (h:wj p.2.2.1 (Bm p.2.2.1.length) L D):wg p.2.2.1 (Bm p.2.2.1.length) L where
 next x hx l hl:=by
  obtain ⟨i,hi,rfl⟩:=Bx.1 hx
  obtain ⟨j,h1,h2,_⟩:=h.step i hi l hl
  rw [lJ hi] at h2
  rw [<-h2]
  exact lK h1
 back x hx l hl:=AU hV (hb.row x hx) hl
abbrev sH:Type:=Int×Int×ByteArray×List (List Int)×List Int×List (List Int)×List Int×(ByteArray->Option Int)×List Int×List Int×Int×ByteArray×List (List Int)×List (List Int)×PUnit
abbrev sI:Type:=Int×Int×ByteArray×List (List Int)×List (List Int)×List Int×(ByteArray->Option Int)×List Int×List Int×Int×ByteArray×List (List Int)×List (List Int)×PUnit
abbrev dU:List (Nat×Nat):= [(0,1),(0,1),(0,1),(0,1),(0,1),(0,1),(0,1),(0,1),(0,1),(0,1),(0,1),(0,1),(0,0)]
abbrev Gk (p:Int×ByteArray×List (List Int)×Unit) (y4:List Int) (y2:Int) (y3:Bool) (y6:ByteArray) (y5:ByteArray):Prop:=dU=dU/\(p,false,y4,p.1,p.2.1,p.2.2.1,y2,y3,!y3,p.1,y4,p.1,p.2.1,p.2.2.1,y4,y4,y6,p.1,p.2.1,p.2.2.1,p.1,p.2.1,p.2.2.1,[y4],[(0:Int)],eI (λ(_:ByteArray)=>none) y6 (0:Int),[(0:Int)],[(0:Int)],p.1,p.2.1,p.2.2.1,([]:List (List Int)),())=(p,false,y4,p.1,p.2.1,p.2.2.1,y2,y3,!y3,p.1,y4,p.1,p.2.1,p.2.2.1,y4,y4,y5,p.1,p.2.1,p.2.2.1,p.1,p.2.1,p.2.2.1,[y4],[(0:Int)],eI (λ(_:ByteArray)=>none) y5 (0:Int),[(0:Int)],[(0:Int)],p.1,p.2.1,p.2.2.1,([]:List (List Int)),PUnit.unit)
theorem QF (p:Int×ByteArray×List (List Int)×Unit) (P:(Option (PP×List (List Int)×List Int×(ByteArray->Option Int)×List Int×List Int×List (List Int)×Unit)×Bool×Unit)->Prop):(∃(y2:Int),Rw.fn ((p.1,p.2.1,p.2.2.1,()),())=some y2/\ ∃(y3:Bool),Ei.fn (y2,(1:Int),(3000:Int),())=some y3/\Br (!y3) (P (none,false,())) (∃(y4:List Int),Uk.fn (p.1,())=some y4/\ ∃(y5:ByteArray),Jw.fn (y4,())=some y5/\(∃(y6:List Int),Mw.fn ((↑p.2.2.1.length:Int),())=some y6/\0=0/\1= [y4].length/\0=0/\1= [(0:Int)].length/\0=0/\1= [(0:Int)].length/\0=0/\1= [(0:Int)].length/\0=0/\0=([]:List Int).length/\Dt (λ(v7:sI) (k8:sI->Prop)=>Br (decide (v7.1<(↑v7.2.2.2.2.1.length:Int))) (((0:Int)<=v7.1/\v7.1<(↑v7.2.2.2.2.1.length:Int))/\ ∃(y9:List Int),v7.2.2.2.2.1[0+v7.1.toNat]?=some y9/\ ∃(Qq:List (List Int)),iU.fn ((v7.2.1,v7.2.2.1,v7.2.2.2.1,()),y9,())=some Qq/\0=0/\0=([]:List Int).length/\0=0/\v7.2.2.2.2.1.length=v7.2.2.2.2.1.length/\0=0/\v7.2.2.2.2.2.1.length=v7.2.2.2.2.2.1.length/\0=0/\v7.2.2.2.2.2.2.2.1.length=v7.2.2.2.2.2.2.2.1.length/\0=0/\v7.2.2.2.2.2.2.2.2.1.length=v7.2.2.2.2.2.2.2.2.1.length/\0=0/\v7.2.2.2.2.2.2.2.2.2.2.2.2.1.length=v7.2.2.2.2.2.2.2.2.2.2.2.2.1.length/\Dt (λ(v11:sH) (k12:sH->Prop)=>Br (decide (v11.1<(↑Qq.length:Int))) (∃(we:List Int),idx Qq v11.1=some we/\ ∃(dv:ByteArray),Jw.fn (we,())=some dv/\Br (!(v11.2.2.2.2.2.2.2.1 dv).isSome) (∃(oY:Int),iT.fn (List.take v11.2.2.2.2.2.1.length (List.drop 0 v11.2.2.2.2.2.1),())=some oY/\0=0/\v11.2.2.2.2.2.1.length=v11.2.2.2.2.2.1.length/\v11.2.2.2.2.2.1.length+(List.take 1 (List.drop 0 [we])).length<=Dd/\((0:Int)<=v7.1/\v7.1<(↑v11.2.2.2.2.2.2.1.length:Int))/\ ∃(y16:Int),v11.2.2.2.2.2.2.1[0+v7.1.toNat]?=some y16/\0=0/\v11.2.2.2.2.2.2.1.length=v11.2.2.2.2.2.2.1.length/\v11.2.2.2.2.2.2.1.length+ [IntKind.i64.wrap (y16+(1:Int))].length<=Dd/\0=0/\v11.2.2.2.2.2.2.2.2.1.length=v11.2.2.2.2.2.2.2.2.1.length/\v11.2.2.2.2.2.2.2.2.1.length+(List.take 1 (List.drop 0 [v7.1])).length<=Dd/\ ∃(y17:Int),idx y6 v11.1=some y17/\0=0/\v11.2.2.2.2.2.2.2.2.2.1.length=v11.2.2.2.2.2.2.2.2.2.1.length/\v11.2.2.2.2.2.2.2.2.2.1.length+ [y17].length<=Dd/\0=0/\v11.2.2.2.2.1.length=v11.2.2.2.2.1.length/\v11.2.2.2.2.1.length+(List.take 1 (List.drop 0 [oY])).length<=Dd/\0=0/\(v11.2.2.2.2.1++List.take 1 (List.drop 0 [oY])).length=(v11.2.2.2.2.1++List.take 1 (List.drop 0 [oY])).length/\0=0/\(v11.2.2.2.2.2.1++List.take 1 (List.drop 0 [we])).length=(v11.2.2.2.2.2.1++List.take 1 (List.drop 0 [we])).length/\0=0/\(v11.2.2.2.2.2.2.1++ [IntKind.i64.wrap (y16+(1:Int))]).length=(v11.2.2.2.2.2.2.1++ [IntKind.i64.wrap (y16+(1:Int))]).length/\0=0/\(v11.2.2.2.2.2.2.2.2.1++List.take 1 (List.drop 0 [v7.1])).length=(v11.2.2.2.2.2.2.2.2.1++List.take 1 (List.drop 0 [v7.1])).length/\0=0/\(v11.2.2.2.2.2.2.2.2.2.1++ [y17]).length=(v11.2.2.2.2.2.2.2.2.2.1++ [y17]).length/\0=0/\v11.2.2.2.2.2.2.2.2.2.2.2.2.2.1.length=v11.2.2.2.2.2.2.2.2.2.2.2.2.2.1.length/\k12 (IntKind.i64.wrap (v11.1+(1:Int)),v11.2.1,v11.2.2.1,v11.2.2.2.1,v11.2.2.2.2.1++List.take 1 (List.drop 0 [oY]),v11.2.2.2.2.2.1++List.take 1 (List.drop 0 [we]),v11.2.2.2.2.2.2.1++ [IntKind.i64.wrap (y16+(1:Int))],eI v11.2.2.2.2.2.2.2.1 dv oY,v11.2.2.2.2.2.2.2.2.1++List.take 1 (List.drop 0 [v7.1]),v11.2.2.2.2.2.2.2.2.2.1++ [y17],v11.2.2.2.2.2.2.2.2.2.2.1,v11.2.2.2.2.2.2.2.2.2.2.2.1,v11.2.2.2.2.2.2.2.2.2.2.2.2.1,v11.2.2.2.2.2.2.2.2.2.2.2.2.2.1,())) (0=0/\v11.2.2.2.2.1.length=v11.2.2.2.2.1.length/\v11.2.2.2.2.1.length+(List.take 1 (List.drop 0 [(v11.2.2.2.2.2.2.2.1 dv).getD (Int.ofNat (nat_lit 0))])).length<=Dd/\0=0/\(v11.2.2.2.2.1++List.take 1 (List.drop 0 [(v11.2.2.2.2.2.2.2.1 dv).getD (Int.ofNat (nat_lit 0))])).length=(v11.2.2.2.2.1++List.take 1 (List.drop 0 [(v11.2.2.2.2.2.2.2.1 dv).getD (Int.ofNat (nat_lit 0))])).length/\0=0/\v11.2.2.2.2.2.1.length=v11.2.2.2.2.2.1.length/\0=0/\v11.2.2.2.2.2.2.1.length=v11.2.2.2.2.2.2.1.length/\0=0/\v11.2.2.2.2.2.2.2.2.1.length=v11.2.2.2.2.2.2.2.2.1.length/\0=0/\v11.2.2.2.2.2.2.2.2.2.1.length=v11.2.2.2.2.2.2.2.2.2.1.length/\0=0/\v11.2.2.2.2.2.2.2.2.2.2.2.2.2.1.length=v11.2.2.2.2.2.2.2.2.2.2.2.2.2.1.length/\k12 (IntKind.i64.wrap (v11.1+(1:Int)),v11.2.1,v11.2.2.1,v11.2.2.2.1,v11.2.2.2.2.1++List.take 1 (List.drop 0 [(v11.2.2.2.2.2.2.2.1 dv).getD (Int.ofNat (nat_lit 0))]),v11.2.2.2.2.2.1,v11.2.2.2.2.2.2.1,v11.2.2.2.2.2.2.2.1,v11.2.2.2.2.2.2.2.2.1,v11.2.2.2.2.2.2.2.2.2.1,v11.2.2.2.2.2.2.2.2.2.2.1,v11.2.2.2.2.2.2.2.2.2.2.2.1,v11.2.2.2.2.2.2.2.2.2.2.2.2.1,v11.2.2.2.2.2.2.2.2.2.2.2.2.2.1,()))) (0=0/\v11.2.2.2.2.2.2.2.2.2.2.2.2.2.1.length=v11.2.2.2.2.2.2.2.2.2.2.2.2.2.1.length/\v11.2.2.2.2.2.2.2.2.2.2.2.2.2.1.length+(List.take 1 (List.drop 0 [List.take v11.2.2.2.2.1.length (List.drop 0 v11.2.2.2.2.1)])).length<=Dd/\0=0/\v11.2.2.2.2.2.1.length=v11.2.2.2.2.2.1.length/\0=0/\v11.2.2.2.2.2.2.1.length=v11.2.2.2.2.2.2.1.length/\0=0/\v11.2.2.2.2.2.2.2.2.1.length=v11.2.2.2.2.2.2.2.2.1.length/\0=0/\v11.2.2.2.2.2.2.2.2.2.1.length=v11.2.2.2.2.2.2.2.2.2.1.length/\0=0/\(v11.2.2.2.2.2.2.2.2.2.2.2.2.2.1++List.take 1 (List.drop 0 [List.take v11.2.2.2.2.1.length (List.drop 0 v11.2.2.2.2.1)])).length=(v11.2.2.2.2.2.2.2.2.2.2.2.2.2.1++List.take 1 (List.drop 0 [List.take v11.2.2.2.2.1.length (List.drop 0 v11.2.2.2.2.1)])).length/\k8 (IntKind.i64.wrap (v7.1+(1:Int)),v11.2.1,v11.2.2.1,v11.2.2.2.1,v11.2.2.2.2.2.1,v11.2.2.2.2.2.2.1,v11.2.2.2.2.2.2.2.1,v11.2.2.2.2.2.2.2.2.1,v11.2.2.2.2.2.2.2.2.2.1,v11.2.2.2.2.2.2.2.2.2.2.1,v11.2.2.2.2.2.2.2.2.2.2.2.1,v11.2.2.2.2.2.2.2.2.2.2.2.2.1,v11.2.2.2.2.2.2.2.2.2.2.2.2.2.1++List.take 1 (List.drop 0 [List.take v11.2.2.2.2.1.length (List.drop 0 v11.2.2.2.2.1)]),()))) ((0:Int),v7.2.1,v7.2.2.1,v7.2.2.2.1,[],v7.2.2.2.2.1,v7.2.2.2.2.2.1,v7.2.2.2.2.2.2.1,v7.2.2.2.2.2.2.2.1,v7.2.2.2.2.2.2.2.2.1,v7.2.2.2.2.2.2.2.2.2.1,v7.2.2.2.2.2.2.2.2.2.2.1,v7.2.2.2.2.2.2.2.2.2.2.2.1,v7.2.2.2.2.2.2.2.2.2.2.2.2.1,PUnit.unit)) (P (some ((v7.2.2.2.2.2.2.2.2.2.1,v7.2.2.2.2.2.2.2.2.2.2.1,v7.2.2.2.2.2.2.2.2.2.2.2.1,()),List.take v7.2.2.2.2.1.length (List.drop 0 v7.2.2.2.2.1),List.take v7.2.2.2.2.2.1.length (List.drop 0 v7.2.2.2.2.2.1),v7.2.2.2.2.2.2.1,List.take v7.2.2.2.2.2.2.2.1.length (List.drop 0 v7.2.2.2.2.2.2.2.1),List.take v7.2.2.2.2.2.2.2.2.1.length (List.drop 0 v7.2.2.2.2.2.2.2.2.1),List.take v7.2.2.2.2.2.2.2.2.2.2.2.2.1.length (List.drop 0 v7.2.2.2.2.2.2.2.2.2.2.2.2.1),()),true,()))) ((0:Int),p.1,p.2.1,p.2.2.1,[y4],[(0:Int)],eI (λ(_:ByteArray)=>none) y5 (0:Int),[(0:Int)],[(0:Int)],p.1,p.2.1,p.2.2.1,([]:List (List Int)),PUnit.unit))/\((∃(y6:ByteArray),Jw.fn (y4,())=some y6/\(Gk p y4 y2 y3 y6 y5))/\ ∃(y6:ByteArray),Jw.fn (y4,())=some y6/\((Gk p y4 y2 y3 y6 y5))/\((Gk p y4 y2 y3 y6 y5))/\(Gk p y4 y2 y3 y6 y5))/\((∃(y6:ByteArray),Jw.fn (y4,())=some y6/\(Gk p y4 y2 y3 y6 y5))/\ ∃(y6:ByteArray),Jw.fn (y4,())=some y6/\((Gk p y4 y2 y3 y6 y5))/\((Gk p y4 y2 y3 y6 y5))/\(Gk p y4 y2 y3 y6 y5))/\ ∃(y6:ByteArray),Jw.fn (y4,())=some y6/\(((Gk p y4 y2 y3 y6 y5))/\((Gk p y4 y2 y3 y6 y5))/\(Gk p y4 y2 y3 y6 y5))/\(((Gk p y4 y2 y3 y6 y5))/\((Gk p y4 y2 y3 y6 y5))/\(Gk p y4 y2 y3 y6 y5))/\(((Gk p y4 y2 y3 y6 y5))/\(Gk p y4 y2 y3 y6 y5))/\(((Gk p y4 y2 y3 y6 y5))/\(Gk p y4 y2 y3 y6 y5))/\((Gk p y4 y2 y3 y6 y5))/\dU=dU/\(p,false,y4,p.1,p.2.1,p.2.2.1,y2,y3,!y3,p.1,y4,p.1,p.2.1,p.2.2.1,y4,y4,y6,p.1,p.2.1,p.2.2.1,p.1,p.2.1,p.2.2.1,[y4],[(0:Int)],eI (λ(_:ByteArray)=>none) y6 (0:Int),[(0:Int)],[(0:Int)],p.1,p.2.1,p.2.2.1,([]:List (List Int)),())=(p,false,y4,p.1,p.2.1,p.2.2.1,y2,y3,!y3,p.1,y4,p.1,p.2.1,p.2.2.1,y4,y4,y5,p.1,p.2.1,p.2.2.1,p.1,p.2.1,p.2.2.1,[y4],[(0:Int)],eI (λ(_:ByteArray)=>none) y5 (0:Int),[(0:Int)],[(0:Int)],p.1,p.2.1,p.2.2.1,[],PUnit.unit)))=fnW Hf (look [(154,Rw),(94,Ei),(120,Uk),(107,Jw),(121,Mw),(155,iU),(95,iT)]) Ui Try.f88 (p,()) P:=by kernel_rfl
theorem qG {g:List (List Int)} {k:Int} {x:List Int} {d:Int} : ∀(ls:List Int) (s:EX) (row:List Int) (L':List (List Int)) (D':List Int),Hg g x d ls s.1 s.2.1=(L',D',true)->
  (qF g k x d ls s row).1.1=L'/\(qF g k x d ls s row).1.2.1=D'
 | [],s,row,L',D',h=>by
  simp only [Hg,Ad] at h
  exact ⟨h.1,h.2.1⟩
 |l::ls,s,row,L',D',h=>by
  simp only [Hg] at h
  simp only [qF]
  by_cases hm:Aj x (Av g l)∈s.1
  ·rw [Ac hm] at h
   rw [Ac hm]
   exact qG ls s _ L' D' h
  ·rw [Ai hm] at h
   rw [Ai hm]
   by_cases hf:s.1.length=3000
   ·rw [Ac hf] at h
    simp at h
   ·rw [Ai hf] at h
    exact qG ls _ _ L' D' h
theorem zK {g:List (List Int)} {ls:List Int} : ∀(f k:Nat) (s:EX) (N:List (List Int)) (L':List (List Int)) (D':List Int),Ka g ls f k s.1 s.2.1=(L',D',true)->
  (tn g ls f k s N).1.1=L'/\(tn g ls f k s N).1.2.1=D'
 |0,k,s,N,L',D',h=>by
  simp only [Ka,Ad] at h
  exact ⟨h.1,h.2.1⟩
 |f+1,k,s,N,L',D',h=>by
  simp only [Ka] at h
  simp only [tn]
  by_cases hk:k<s.1.length
  ·rw [Ac hk] at h
   rw [Ac hk]
   split at h
   ·rename_i L1 D1 he
    obtain ⟨a1,a2⟩:=qG (k:=(k:Int)) ls s [] L1 D1 he
    refine zK f (k+1) _ _ L' D' ?_
    rw [a1,a2]
    exact h
   ·simp at h
  ·rw [Ai hk] at h
   rw [Ai hk]
   simp only [Ad] at h
   exact ⟨h.1,h.2.1⟩
theorem m7 {key:ByteArray} {x:List Int} : ∀(L:List (List Int)) (i:Nat),gK key (L++ [x]) i=if (gK key L i).isSome=true then gK key L i else if Ud x=key then some ((i+L.length:Nat):Int) else none
 | [],i=>by simp [gK]
 |y::L,i=>by
  simp only [Jy,gK]
  split
  ·rfl
  ·rw [m7 L (i+1),Aw,show i+1+L.length=i+(L.length+1) by omega]
theorem nj {x:List Int} (hx:aG x): ∀(L:List (List Int)) (i:Nat),(∀y∈L,aG y)->gK (Ud x) L i=if x∈L then some ((i+L.idxOf x:Nat):Int) else none
 | [],i,_=>by simp [gK]
 |y::L,i,h=>by
  have hy:=h y (by simp)
  simp only [gK]
  by_cases e:y=x
  ·subst e
   rw [Ac rfl,Ac (by simp),List.idxOf_cons_self]
   rfl
  ·rw [Ai λhk=>e (key_inj hy hx hk),nj hx L (i+1) λz hz=>h z (An _ hz),show List.idxOf x (y::L)=(List.idxOf x L).succ by rw [List.idxOf_cons,beq_false_of_ne e];rfl]
   have:(x∈y::L)↔(x∈L):=by simp [Fv e]
   by_cases hm:x∈L
   ·rw [Ac hm,Ac (this.2 hm),show i+1+List.idxOf x L=i+(List.idxOf x L).succ by omega]
   ·rw [Ai hm,Ai λh=>hm (this.1 h)]
theorem NN {x:List Int} {L:List (List Int)} (hx:aG x) (hL: ∀y∈L,aG y):a6 L (Ud x)=if x∈L then some (L.idxOf x:Int) else none:=by
 unfold a6
 rw [nj hx L 0 hL,Cj]
theorem vg {x:List Int} {L:List (List Int)} (hx:aG x) (hL: ∀y∈L,aG y) (hn:x∉L):eI (a6 L) (Ud x) (L.length:Int)=a6 (L++ [x]):=by
 funext key
 unfold eI a6
 rw [m7,Cj]
 by_cases e:key=Ud x
 ·subst e
  rw [Ac rfl,nj hx L 0 hL,Ai hn,Ai (by simp),Ac rfl]
 ·rw [Ai e,Ai (c:=Ud x=key) λh=>e h.symm]
  split
  ·rfl
  ·rename_i h
   cases hk:gK key L 0 with
   |none=>rfl
   |some v=>rw [hk] at h;simp at h
theorem EI (p:PP):Ly (Vk p) 1 3000=Ix p:=by
 unfold Ix
 by_cases hv:Bi p=true
 ·rw [hv,fG,zC hv]
  rfl
 ·have hv:Bi p=false:=by simpa using hv
  rw [hv,Bool.false_and]
  have:Vk p=0:=by unfold Vk;rw [Ai (by simp [hv])]
  rw [this]
  rfl
theorem OI (p:PP) (h:Lp p):fnW Hf (look [(154,Rw),(94,Ei),(120,Uk),(107,Jw),(121,Mw),(155,iU),(95,iT)]) Ui Try.f88 (p,()) (λ(z:Option (PP×List (List Int)×List Int×(ByteArray->Option Int)×List Int×List Int×List (List Int)×Unit)×Bool×Unit)=>z=(if Ix p=true then (some (kH p),true,()) else (none,false,()))):=by
 refine Eq.mp (QF p _) ⟨_,Ac h,_,Ac trivial,?_⟩
 show Br (!Ly (Vk p) 1 3000) _ _
 rw [EI p]
 refine Br.of (λhb=>?_) λhb=>?_
 ·rw [Ai (by simpa using hb)]
 have hw:Ix p=true:=by simpa using hb
 rw [Ac hw]
 obtain ⟨hv,FW⟩:=Db.1 hw
 have hV:=valid hv
 have qS:=hV.pF
 have hn:=hV.n
 obtain ⟨pn,ps,g,⟨⟩⟩:=p
 dsimp only at qS hn FW⊢
 have hI:(upto pn.toNat).length<=20:=by rw [Iv];omega
 have hIr: ∀y∈upto pn.toNat,0<=y/\y<pn:= λy hy=>by have:=Kn.1 hy;omega
 have hb0:=iC (p:=(pn,ps,g,())) hI hIr
 obtain ⟨ls,uR⟩: ∃ls,Bm g.length=ls:=⟨_,rfl⟩
 have GA:ls.length<=16:=by rw [<-uR,Qc];omega
 have r6: ∀l∈ls,Jp (List.length g) l:= λl hl=>Gw (uR▸hl)
 have KO: ∀x:List Int,(∀y∈x,0<=y/\y<pn)->aG x:= λx hx y hy=>by have:=hx y hy;omega
 have GK:Ka g ls 3001 0 [upto pn.toNat] [0]=Jb g (upto pn.toNat):=by unfold Jb;rw [uR]
 have sU:eI (λ(_:ByteArray)=>(none:Option Int)) (Ud (upto pn.toNat)) 0=a6 [upto pn.toNat]:=by
  have:=vg (L:= []) (KO _ hIr) (λy hy=>by cases hy) (by simp)
  exact this
 refine ⟨upto pn.toNat,Ac ⟨by show (0:Int)<=pn;omega,by show pn<=20;omega⟩,Ud (upto pn.toNat),Ac (by show short (upto pn.toNat);unfold short;omega),⟨ls,?_,rfl,rfl,rfl,rfl,rfl,rfl,rfl,rfl,rfl,rfl,?_⟩,?_⟩
 ·refine (Ac ⟨by show (0:Int)<=((g.length:Nat):Int);omega,by show ((g.length:Nat):Int)<=8;omega⟩).trans (Ma some ?_)
  show Bm (((g.length:Nat):Int)).toNat=ls
  rw [As];exact uR
 ·obtain ⟨R,hR⟩: ∃R,tn g ls 3001 0 ([upto pn.toNat],[0],[0],[0]) []=R:=⟨_,rfl⟩
  have Alq:kH (pn,ps,g,())=Afv (pn,ps,g,()) R:=by unfold kH;rw [uR];exact Ma _ hR
  rw [Alq]
  refine Dt.mk (λv=> ∃(k:Nat) (s:EX) (N:List (List Int)),v=((k:Int),pn,ps,g,s.1,s.2.1,a6 s.1,s.2.2.1,s.2.2.2,pn,ps,g,N,())/\k<=s.1.length/\Wa (pn,ps,g,()) (upto pn.toNat).length s.1 s.2.1/\s.2.2.1.length=s.1.length/\s.2.2.2.length=s.1.length/\N.length=k/\
    Ka g ls (3001-k) k s.1 s.2.1=Jb g (upto pn.toNat)/\tn g ls (3001-k) k s N=R) (λv=>3001-v.1.toNat)
   ⟨0,([upto pn.toNat],[0],[0],[0]),[],?_,by simp,hb0,rfl,rfl,rfl,GK,hR⟩ ?_
  ·rw [<-sU];rfl
  rintro v ⟨k,s0,N,rfl,h1,h2,h3,h4,h5,h6,h7⟩
  obtain ⟨L0,D0,P0,B0⟩:=s0
  dsimp only at h1 h2 h3 h4 h6 h7⊢
  have XC:=h2.ok.pF
  have hD0:=h2.len
  obtain ⟨f,hf⟩: ∃f,3001-k=f+1:=⟨3000-k,by omega⟩
  refine Br.dec (λhl=>?_) λhl=>?_
  ·have hk:k<L0.length:=by omega
   have NB:k<D0.length:=by omega
   have hx: ∀y∈L0[k],0<=y/\y<pn:=h2.row _ (Al hk)
   have hxl:L0[k].length=(upto pn.toNat).length:=h2.ok.len _ (Al hk)
   have hdk:=h2.dep k NB
   have hxe:L0.getD k []=L0[k]:=Vd hk
   have YI:D0.getD k 0=D0[k]:=by rw [Ah,Ab NB];rfl
   have hgo: ∀L' D' ok,Hg g L0[k] D0[k] ls L0 D0=(L',D',ok)->Jb g (upto pn.toNat)=if ok=true then Ka g ls f (k+1) L' D' else (L',D',false):=by
    intro L' D' ok he
    rw [<-h6,hf,Ka,Ac hk,hxe,YI,he]
    cases ok<;>rfl
   obtain ⟨E,hE⟩: ∃E,qF g (k:Int) L0[k] D0[k] ls (L0,D0,P0,B0) []=E:=⟨_,rfl⟩
   have hex:R=tn g ls f (k+1) E.1 (N++ [E.2]):=by
    rw [<-h7,hf,tn,Ac hk]
    dsimp only
    rw [hxe,YI,hE]
   refine ⟨⟨by omega,by omega⟩,L0[k],by rw [As,Cj];exact Ab hk,ls.map (λl=>Aj L0[k] (Av g l)),?_,?_⟩
   ·refine (Ac ⟨hv,by show L0[k].length<=20;omega,hx⟩).trans (Ma some ?_)
    show xp g L0[k]=_
    unfold xp
    rw [uR]
   refine ⟨rfl,rfl,rfl,rfl,rfl,rfl,rfl,rfl,rfl,rfl,rfl,rfl,?_⟩
   obtain ⟨nb,hnb⟩: ∃nb,ls.map (λl=>Aj L0[k] (Av g l))=nb:=⟨_,rfl⟩
   have hnl:nb.length=ls.length:=by rw [<-hnb,Hm]
   have hni: ∀i (h:i<ls.length),nb[i]'(by omega)=Aj L0[k] (Av g ls[i]):= λi h=>by simp only [<-hnb,List.getElem_map]
   rw [hnb]
   refine Dt.mk (λv=> ∃(i:Nat) (row:List Int) (s:EX),v=((i:Int),pn,ps,g,row,s.1,s.2.1,a6 s.1,s.2.2.1,s.2.2.2,pn,ps,g,N,())/\i<=ls.length/\row.length=i/\Wa (pn,ps,g,()) (upto pn.toNat).length s.1 s.2.1/\s.2.2.1.length=s.1.length/\s.2.2.2.length=s.1.length/\
     (∃A,s.1=L0++A)/\(∃A,s.2.1=D0++A)/\Hg g L0[k] D0[k] (ls.drop i) s.1 s.2.1=Hg g L0[k] D0[k] ls L0 D0/\qF g (k:Int) L0[k] D0[k] (ls.drop i) s row=E) (λv=>ls.length-v.1.toNat)
    ⟨0,[],(L0,D0,P0,B0),rfl,Iz _,rfl,h2,h3,h4,⟨[],by simp⟩,⟨[],by simp⟩,rfl,hE⟩ ?_
   rintro v ⟨i,row,s,rfl,g1,g2,g3,g4,g5,⟨A,g6⟩,⟨A',g7⟩,g8,g9⟩
   obtain ⟨L,D,Pa,By⟩:=s
   dsimp only at g3 g4 g5 g6 g7 g8 g9⊢
   have hLf:=g3.ok.pF
   have hDl:=g3.len
   refine Br.dec (λhli=>?_) λhli=>?_
   ·have hi:i<ls.length:=by omega
    have hkL:k<L.length:=by rw [g6,Au];omega
    have Ad0:k<D.length:=by rw [hDl];exact hkL
    have hDk:D[k]=D0[k]:=by simp only [g7];exact Vu NB
    have YM:=r6 _ (Al hi)
    obtain ⟨nl,nr⟩:=xu hV hx YM
    dsimp only at nl nr
    rw [Bz hi] at g8 g9
    simp only [Hg] at g8
    simp only [qF] at g9
    have hyb:=KO _ nr
    refine ⟨_,Df (by omega),?_⟩
    rw [hni i hi]
    generalize hyv:Aj L0[k] (Av g ls[i])=yv at*
    refine ⟨Ud yv,Ac (by show short yv;unfold short;rw [nl];omega),?_⟩
    rw [NN hyb λy hy=>KO _ (g3.row y hy)]
    refine Br.of (λdP=>?_) λdP=>?_
    ·have dP:yv∉L:= λhm=>by rw [Ac hm] at dP;simp at dP
     rw [Ai dP] at g8 g9
     by_cases eT:L.length=3000
     ·rw [Ac eT] at g8
      have:=hgo _ _ _ g8.symm
      rw [Ai (by decide)] at this
      rw [this] at FW
      cases FW
     rw [Ai eT] at g8
     refine ⟨_,Ac trivial,rfl,rfl,?_,⟨by omega,by omega⟩,D0[k],?_,rfl,rfl,?_,rfl,rfl,?_,_,Df hi,rfl,rfl,?_,rfl,rfl,?_,rfl,rfl,rfl,rfl,rfl,rfl,rfl,rfl,rfl,rfl,rfl,rfl,?_⟩
     ·show L.length+1<=4294967296;omega
     ·rw [As,Cj,Ab Ad0,hDk]
     ·show D.length+1<=4294967296;omega
     ·show Pa.length+1<=4294967296;omega
     ·show By.length+1<=4294967296;omega
     ·show row.length+1<=4294967296;omega
     ·dsimp only
      rw [Dl L,Dh (n:=D0[k]+1) (by omega) (by omega),Cg (by omega),vg hyb (λy hy=>KO _ (g3.row y hy)) dP]
      refine ⟨⟨i+1,row++ [(L.length:Int)],(L++ [yv],D++ [D0[k]+1],Pa++ [(k:Int)],By++ [ls[i]]),rfl,hi,by rw [Au,g2];rfl,g3.add dP (by rw [nl,hxl]) (by omega) nr ⟨by omega,by omega⟩,?_,?_,⟨A++ [yv],by rw [g6,Ck]⟩,⟨A'++ [D0[k]+1],by rw [g7,Ck]⟩,g8,g9⟩,by omega⟩
      ·simp [g4]
      ·simp [g5]
    ·have dP:yv∈L:=Bf λhm=>by rw [Ai hm] at dP;simp at dP
     rw [Ac dP] at g8 g9
     rw [Ac dP]
     refine ⟨rfl,rfl,?_,rfl,rfl,rfl,rfl,rfl,rfl,rfl,rfl,rfl,rfl,rfl,rfl,?_⟩
     ·show row.length+1<=4294967296;omega
     ·rw [Cg (by omega)]
      exact ⟨⟨i+1,row++ [(L.idxOf yv:Int)],(L,D,Pa,By),rfl,hi,by rw [Au,g2];rfl,g3,g4,g5,⟨A,g6⟩,⟨A',g7⟩,g8,g9⟩,by omega⟩
   ·have:i=ls.length:=by omega
    subst this
    rw [Ot,Hg] at g8
    rw [Ot,qF] at g9
    have:=hgo _ _ _ g8.symm
    rw [Ac rfl] at this
    rw [Dl row,Cg (by omega)]
    refine ⟨rfl,rfl,?_,rfl,rfl,rfl,rfl,rfl,rfl,rfl,rfl,rfl,rfl,⟨k+1,(L,D,Pa,By),N++ [row],rfl,by rw [g6,Au];omega,g3,g4,g5,by rw [Au,h5];rfl,?_,?_⟩,by omega⟩
    ·show N.length+1<=4294967296;omega
    ·rw [show 3001-(k+1)=f by omega]
     exact this.symm
    ·rw [show 3001-(k+1)=f by omega,hex,<-g9]
  ·have hk:k=L0.length:=by omega
   rw [hf,tn,Ai (by show ¬k<L0.length;omega)] at h7
   subst h7
   simp only [Du,Bb]
   rfl
 ·have FZ:Jw.fn (upto pn.toNat,())=some (Ud (upto pn.toNat)):=Ac (by show short (upto pn.toNat);unfold short;omega)
  repeat' (first|exact ⟨rfl,rfl⟩|refine ⟨_,FZ,?_⟩|refine ⟨?_,?_⟩)
theorem tZ:Sound Try.prog 88 Ui:=
 Sound.Hv Fh (Bh nR (Bh a9 (Bh fm (Bh sv (Bh cp (Bh CZ (Bh CY Cm))))))) mixed Try.func88 (by kernel_rfl) (by kernel_rfl) λx h=>OI x.1 h
noncomputable def Cb (p:PP):List (List Int):=(Jb p.2.2.1 (upto p.1.toNat)).1
noncomputable def cY (p:PP):List Int:=(Jb p.2.2.1 (upto p.1.toNat)).2.1
noncomputable def Ky (p:PP):SS×Bool×Unit:=if Bi p=true then (Oj p.2.2.1 (upto p.1.toNat),Ix p,()) else (([],[],[],false,()),false,())
noncomputable abbrev Xn:Spec:=Hv (.pair Kg .unit) (.pair iZ (.pair .bool .unit)) true false (λx=>Lp x.1) (λx=>Ky x.1)
noncomputable def Xc (p:PP):Int:=if (Rt p&&Ix p)=true then (((Cb p).countP λs=>decide (Ga (Cz p) s=s):Nat):Int) else-1
noncomputable abbrev Xg:Spec:=Hv (.pair Kg .unit) tI false true (λx=>Lp x.1) (λx=>Xc x.1)
abbrev Ec:Type:=List (List Int)×List Int×List Int×Bool×PUnit
theorem JR (p:Int×ByteArray×List (List Int)×Unit) (P:((List (List Int)×List Int×List Int×Bool×Unit)×Bool×Unit)->Prop):(∃(y2:Bool),Hc.fn ((p.1,p.2.1,p.2.2.1,()),())=some y2/\Br (!y2) (P ((List.take 0 (List.drop 0 []),List.take 0 (List.drop 0 []),List.take 0 (List.drop 0 []),false,()),false,())) (((((∃(y3:List Int),Ep.fn (p.1,())=some y3/\(∃(y4:Ec),Gr.fn ((p.1,p.2.1,p.2.2.1,()),y3,())=some y4/\((P ((y4.1,y4.2.1,y4.2.2.1,y4.2.2.2.1,()),y4.2.2.2.1,())/\P ((y4.1,y4.2.1,y4.2.2.1,y4.2.2.2.1,()),y4.2.2.2.1,()))/\P ((y4.1,y4.2.1,y4.2.2.1,y4.2.2.2.1,()),y4.2.2.2.1,()))/\(P ((y4.1,y4.2.1,y4.2.2.1,y4.2.2.2.1,()),y4.2.2.2.1,())/\P ((y4.1,y4.2.1,y4.2.2.1,y4.2.2.2.1,()),y4.2.2.2.1,()))/\P ((y4.1,y4.2.1,y4.2.2.1,y4.2.2.2.1,()),y4.2.2.2.1,()))/\ ∃(y4:Ec),Gr.fn ((p.1,p.2.1,p.2.2.1,()),y3,())=some y4/\((P ((y4.1,y4.2.1,y4.2.2.1,y4.2.2.2.1,()),y4.2.2.2.1,())/\P ((y4.1,y4.2.1,y4.2.2.1,y4.2.2.2.1,()),y4.2.2.2.1,()))/\P ((y4.1,y4.2.1,y4.2.2.1,y4.2.2.2.1,()),y4.2.2.2.1,()))/\(P ((y4.1,y4.2.1,y4.2.2.1,y4.2.2.2.1,()),y4.2.2.2.1,())/\P ((y4.1,y4.2.1,y4.2.2.1,y4.2.2.2.1,()),y4.2.2.2.1,()))/\P ((y4.1,y4.2.1,y4.2.2.1,y4.2.2.2.1,()),y4.2.2.2.1,()))/\ ∃(y3:List Int),Ep.fn (p.1,())=some y3/\ ∃(y4:Ec),Gr.fn ((p.1,p.2.1,p.2.2.1,()),y3,())=some y4/\((P ((y4.1,y4.2.1,y4.2.2.1,y4.2.2.2.1,()),y4.2.2.2.1,())/\P ((y4.1,y4.2.1,y4.2.2.1,y4.2.2.2.1,()),y4.2.2.2.1,()))/\P ((y4.1,y4.2.1,y4.2.2.1,y4.2.2.2.1,()),y4.2.2.2.1,()))/\(P ((y4.1,y4.2.1,y4.2.2.1,y4.2.2.2.1,()),y4.2.2.2.1,())/\P ((y4.1,y4.2.1,y4.2.2.1,y4.2.2.2.1,()),y4.2.2.2.1,()))/\P ((y4.1,y4.2.1,y4.2.2.1,y4.2.2.2.1,()),y4.2.2.2.1,()))/\ ∃(y3:List Int),Ep.fn (p.1,())=some y3/\ ∃(y4:Ec),Gr.fn ((p.1,p.2.1,p.2.2.1,()),y3,())=some y4/\((P ((y4.1,y4.2.1,y4.2.2.1,y4.2.2.2.1,()),y4.2.2.2.1,())/\P ((y4.1,y4.2.1,y4.2.2.1,y4.2.2.2.1,()),y4.2.2.2.1,()))/\P ((y4.1,y4.2.1,y4.2.2.1,y4.2.2.2.1,()),y4.2.2.2.1,()))/\(P ((y4.1,y4.2.1,y4.2.2.1,y4.2.2.2.1,()),y4.2.2.2.1,())/\P ((y4.1,y4.2.1,y4.2.2.1,y4.2.2.2.1,()),y4.2.2.2.1,()))/\P ((y4.1,y4.2.1,y4.2.2.1,y4.2.2.2.1,()),y4.2.2.2.1,()))/\ ∃(y3:List Int),Ep.fn (p.1,())=some y3/\ ∃(y4:Ec),Gr.fn ((p.1,p.2.1,p.2.2.1,()),y3,())=some y4/\((P ((y4.1,y4.2.1,y4.2.2.1,y4.2.2.2.1,()),y4.2.2.2.1,())/\P ((y4.1,y4.2.1,y4.2.2.1,y4.2.2.2.1,()),y4.2.2.2.1,()))/\P ((y4.1,y4.2.1,y4.2.2.1,y4.2.2.2.1,()),y4.2.2.2.1,()))/\(P ((y4.1,y4.2.1,y4.2.2.1,y4.2.2.2.1,()),y4.2.2.2.1,())/\P ((y4.1,y4.2.1,y4.2.2.1,y4.2.2.2.1,()),y4.2.2.2.1,()))/\P ((y4.1,y4.2.1,y4.2.2.1,y4.2.2.2.1,()),y4.2.2.2.1,()))/\((((∃(y3:List Int),Ep.fn (p.1,())=some y3/\(∃(y4:Ec),Gr.fn ((p.1,p.2.1,p.2.2.1,()),y3,())=some y4/\((P ((y4.1,y4.2.1,y4.2.2.1,y4.2.2.2.1,()),y4.2.2.2.1,())/\P ((y4.1,y4.2.1,y4.2.2.1,y4.2.2.2.1,()),y4.2.2.2.1,()))/\P ((y4.1,y4.2.1,y4.2.2.1,y4.2.2.2.1,()),y4.2.2.2.1,()))/\(P ((y4.1,y4.2.1,y4.2.2.1,y4.2.2.2.1,()),y4.2.2.2.1,())/\P ((y4.1,y4.2.1,y4.2.2.1,y4.2.2.2.1,()),y4.2.2.2.1,()))/\P ((y4.1,y4.2.1,y4.2.2.1,y4.2.2.2.1,()),y4.2.2.2.1,()))/\ ∃(y4:Ec),Gr.fn ((p.1,p.2.1,p.2.2.1,()),y3,())=some y4/\((P ((y4.1,y4.2.1,y4.2.2.1,y4.2.2.2.1,()),y4.2.2.2.1,())/\P ((y4.1,y4.2.1,y4.2.2.1,y4.2.2.2.1,()),y4.2.2.2.1,()))/\P ((y4.1,y4.2.1,y4.2.2.1,y4.2.2.2.1,()),y4.2.2.2.1,()))/\(P ((y4.1,y4.2.1,y4.2.2.1,y4.2.2.2.1,()),y4.2.2.2.1,())/\P ((y4.1,y4.2.1,y4.2.2.1,y4.2.2.2.1,()),y4.2.2.2.1,()))/\P ((y4.1,y4.2.1,y4.2.2.1,y4.2.2.2.1,()),y4.2.2.2.1,()))/\ ∃(y3:List Int),Ep.fn (p.1,())=some y3/\ ∃(y4:Ec),Gr.fn ((p.1,p.2.1,p.2.2.1,()),y3,())=some y4/\((P ((y4.1,y4.2.1,y4.2.2.1,y4.2.2.2.1,()),y4.2.2.2.1,())/\P ((y4.1,y4.2.1,y4.2.2.1,y4.2.2.2.1,()),y4.2.2.2.1,()))/\P ((y4.1,y4.2.1,y4.2.2.1,y4.2.2.2.1,()),y4.2.2.2.1,()))/\(P ((y4.1,y4.2.1,y4.2.2.1,y4.2.2.2.1,()),y4.2.2.2.1,())/\P ((y4.1,y4.2.1,y4.2.2.1,y4.2.2.2.1,()),y4.2.2.2.1,()))/\P ((y4.1,y4.2.1,y4.2.2.1,y4.2.2.2.1,()),y4.2.2.2.1,()))/\ ∃(y3:List Int),Ep.fn (p.1,())=some y3/\ ∃(y4:Ec),Gr.fn ((p.1,p.2.1,p.2.2.1,()),y3,())=some y4/\((P ((y4.1,y4.2.1,y4.2.2.1,y4.2.2.2.1,()),y4.2.2.2.1,())/\P ((y4.1,y4.2.1,y4.2.2.1,y4.2.2.2.1,()),y4.2.2.2.1,()))/\P ((y4.1,y4.2.1,y4.2.2.1,y4.2.2.2.1,()),y4.2.2.2.1,()))/\(P ((y4.1,y4.2.1,y4.2.2.1,y4.2.2.2.1,()),y4.2.2.2.1,())/\P ((y4.1,y4.2.1,y4.2.2.1,y4.2.2.2.1,()),y4.2.2.2.1,()))/\P ((y4.1,y4.2.1,y4.2.2.1,y4.2.2.2.1,()),y4.2.2.2.1,()))/\(((∃(y3:List Int),Ep.fn (p.1,())=some y3/\(∃(y4:Ec),Gr.fn ((p.1,p.2.1,p.2.2.1,()),y3,())=some y4/\((P ((y4.1,y4.2.1,y4.2.2.1,y4.2.2.2.1,()),y4.2.2.2.1,())/\P ((y4.1,y4.2.1,y4.2.2.1,y4.2.2.2.1,()),y4.2.2.2.1,()))/\P ((y4.1,y4.2.1,y4.2.2.1,y4.2.2.2.1,()),y4.2.2.2.1,()))/\(P ((y4.1,y4.2.1,y4.2.2.1,y4.2.2.2.1,()),y4.2.2.2.1,())/\P ((y4.1,y4.2.1,y4.2.2.1,y4.2.2.2.1,()),y4.2.2.2.1,()))/\P ((y4.1,y4.2.1,y4.2.2.1,y4.2.2.2.1,()),y4.2.2.2.1,()))/\ ∃(y4:Ec),Gr.fn ((p.1,p.2.1,p.2.2.1,()),y3,())=some y4/\((P ((y4.1,y4.2.1,y4.2.2.1,y4.2.2.2.1,()),y4.2.2.2.1,())/\P ((y4.1,y4.2.1,y4.2.2.1,y4.2.2.2.1,()),y4.2.2.2.1,()))/\P ((y4.1,y4.2.1,y4.2.2.1,y4.2.2.2.1,()),y4.2.2.2.1,()))/\(P ((y4.1,y4.2.1,y4.2.2.1,y4.2.2.2.1,()),y4.2.2.2.1,())/\P ((y4.1,y4.2.1,y4.2.2.1,y4.2.2.2.1,()),y4.2.2.2.1,()))/\P ((y4.1,y4.2.1,y4.2.2.1,y4.2.2.2.1,()),y4.2.2.2.1,()))/\ ∃(y3:List Int),Ep.fn (p.1,())=some y3/\ ∃(y4:Ec),Gr.fn ((p.1,p.2.1,p.2.2.1,()),y3,())=some y4/\((P ((y4.1,y4.2.1,y4.2.2.1,y4.2.2.2.1,()),y4.2.2.2.1,())/\P ((y4.1,y4.2.1,y4.2.2.1,y4.2.2.2.1,()),y4.2.2.2.1,()))/\P ((y4.1,y4.2.1,y4.2.2.1,y4.2.2.2.1,()),y4.2.2.2.1,()))/\(P ((y4.1,y4.2.1,y4.2.2.1,y4.2.2.2.1,()),y4.2.2.2.1,())/\P ((y4.1,y4.2.1,y4.2.2.1,y4.2.2.2.1,()),y4.2.2.2.1,()))/\P ((y4.1,y4.2.1,y4.2.2.1,y4.2.2.2.1,()),y4.2.2.2.1,()))/\(∃(y3:List Int),Ep.fn (p.1,())=some y3/\((∃(y4:Ec),Gr.fn ((p.1,p.2.1,p.2.2.1,()),y3,())=some y4/\((P ((y4.1,y4.2.1,y4.2.2.1,y4.2.2.2.1,()),y4.2.2.2.1,())/\P ((y4.1,y4.2.1,y4.2.2.1,y4.2.2.2.1,()),y4.2.2.2.1,()))/\P ((y4.1,y4.2.1,y4.2.2.1,y4.2.2.2.1,()),y4.2.2.2.1,()))/\(P ((y4.1,y4.2.1,y4.2.2.1,y4.2.2.2.1,()),y4.2.2.2.1,())/\P ((y4.1,y4.2.1,y4.2.2.1,y4.2.2.2.1,()),y4.2.2.2.1,()))/\P ((y4.1,y4.2.1,y4.2.2.1,y4.2.2.2.1,()),y4.2.2.2.1,()))/\ ∃(y4:Ec),Gr.fn ((p.1,p.2.1,p.2.2.1,()),y3,())=some y4/\((P ((y4.1,y4.2.1,y4.2.2.1,y4.2.2.2.1,()),y4.2.2.2.1,())/\P ((y4.1,y4.2.1,y4.2.2.1,y4.2.2.2.1,()),y4.2.2.2.1,()))/\P ((y4.1,y4.2.1,y4.2.2.1,y4.2.2.2.1,()),y4.2.2.2.1,()))/\(P ((y4.1,y4.2.1,y4.2.2.1,y4.2.2.2.1,()),y4.2.2.2.1,())/\P ((y4.1,y4.2.1,y4.2.2.1,y4.2.2.2.1,()),y4.2.2.2.1,()))/\P ((y4.1,y4.2.1,y4.2.2.1,y4.2.2.2.1,()),y4.2.2.2.1,()))/\ ∃(y4:Ec),Gr.fn ((p.1,p.2.1,p.2.2.1,()),y3,())=some y4/\((P ((y4.1,y4.2.1,y4.2.2.1,y4.2.2.2.1,()),y4.2.2.2.1,())/\P ((y4.1,y4.2.1,y4.2.2.1,y4.2.2.2.1,()),y4.2.2.2.1,()))/\P ((y4.1,y4.2.1,y4.2.2.1,y4.2.2.2.1,()),y4.2.2.2.1,()))/\(P ((y4.1,y4.2.1,y4.2.2.1,y4.2.2.2.1,()),y4.2.2.2.1,())/\P ((y4.1,y4.2.1,y4.2.2.1,y4.2.2.2.1,()),y4.2.2.2.1,()))/\P ((y4.1,y4.2.1,y4.2.2.1,y4.2.2.2.1,()),y4.2.2.2.1,()))/\(∃(y3:List Int),Ep.fn (p.1,())=some y3/\ ∃(y4:Ec),Gr.fn ((p.1,p.2.1,p.2.2.1,()),y3,())=some y4/\((P ((y4.1,y4.2.1,y4.2.2.1,y4.2.2.2.1,()),y4.2.2.2.1,())/\P ((y4.1,y4.2.1,y4.2.2.1,y4.2.2.2.1,()),y4.2.2.2.1,()))/\P ((y4.1,y4.2.1,y4.2.2.1,y4.2.2.2.1,()),y4.2.2.2.1,()))/\(P ((y4.1,y4.2.1,y4.2.2.1,y4.2.2.2.1,()),y4.2.2.2.1,())/\P ((y4.1,y4.2.1,y4.2.2.1,y4.2.2.2.1,()),y4.2.2.2.1,()))/\P ((y4.1,y4.2.1,y4.2.2.1,y4.2.2.2.1,()),y4.2.2.2.1,()))/\ ∃(y3:List Int),Ep.fn (p.1,())=some y3/\ ∃(y4:Ec),Gr.fn ((p.1,p.2.1,p.2.2.1,()),y3,())=some y4/\((P ((y4.1,y4.2.1,y4.2.2.1,y4.2.2.2.1,()),y4.2.2.2.1,())/\P ((y4.1,y4.2.1,y4.2.2.1,y4.2.2.2.1,()),y4.2.2.2.1,()))/\P ((y4.1,y4.2.1,y4.2.2.1,y4.2.2.2.1,()),y4.2.2.2.1,()))/\(P ((y4.1,y4.2.1,y4.2.2.1,y4.2.2.2.1,()),y4.2.2.2.1,())/\P ((y4.1,y4.2.1,y4.2.2.1,y4.2.2.2.1,()),y4.2.2.2.1,()))/\P ((y4.1,y4.2.1,y4.2.2.1,y4.2.2.2.1,()),y4.2.2.2.1,()))/\(∃(y3:List Int),Ep.fn (p.1,())=some y3/\ ∃(y4:Ec),Gr.fn ((p.1,p.2.1,p.2.2.1,()),y3,())=some y4/\((P ((y4.1,y4.2.1,y4.2.2.1,y4.2.2.2.1,()),y4.2.2.2.1,())/\P ((y4.1,y4.2.1,y4.2.2.1,y4.2.2.2.1,()),y4.2.2.2.1,()))/\P ((y4.1,y4.2.1,y4.2.2.1,y4.2.2.2.1,()),y4.2.2.2.1,()))/\(P ((y4.1,y4.2.1,y4.2.2.1,y4.2.2.2.1,()),y4.2.2.2.1,())/\P ((y4.1,y4.2.1,y4.2.2.1,y4.2.2.2.1,()),y4.2.2.2.1,()))/\P ((y4.1,y4.2.1,y4.2.2.1,y4.2.2.2.1,()),y4.2.2.2.1,()))/\(∃(y3:List Int),Ep.fn (p.1,())=some y3/\ ∃(y4:Ec),Gr.fn ((p.1,p.2.1,p.2.2.1,()),y3,())=some y4/\((P ((y4.1,y4.2.1,y4.2.2.1,y4.2.2.2.1,()),y4.2.2.2.1,())/\P ((y4.1,y4.2.1,y4.2.2.1,y4.2.2.2.1,()),y4.2.2.2.1,()))/\P ((y4.1,y4.2.1,y4.2.2.1,y4.2.2.2.1,()),y4.2.2.2.1,()))/\(P ((y4.1,y4.2.1,y4.2.2.1,y4.2.2.2.1,()),y4.2.2.2.1,())/\P ((y4.1,y4.2.1,y4.2.2.1,y4.2.2.2.1,()),y4.2.2.2.1,()))/\P ((y4.1,y4.2.1,y4.2.2.1,y4.2.2.2.1,()),y4.2.2.2.1,()))/\ ∃(y3:List Int),Ep.fn (p.1,())=some y3/\ ∃(y4:Ec),Gr.fn ((p.1,p.2.1,p.2.2.1,()),y3,())=some y4/\((P ((y4.1,y4.2.1,y4.2.2.1,y4.2.2.2.1,()),y4.2.2.2.1,())/\P ((y4.1,y4.2.1,y4.2.2.1,y4.2.2.2.1,()),y4.2.2.2.1,()))/\P ((y4.1,y4.2.1,y4.2.2.1,y4.2.2.2.1,()),y4.2.2.2.1,()))/\(P ((y4.1,y4.2.1,y4.2.2.1,y4.2.2.2.1,()),y4.2.2.2.1,())/\P ((y4.1,y4.2.1,y4.2.2.1,y4.2.2.2.1,()),y4.2.2.2.1,()))/\P ((y4.1,y4.2.1,y4.2.2.1,y4.2.2.2.1,()),y4.2.2.2.1,()))/\(∃(y3:List Int),Ep.fn (p.1,())=some y3/\ ∃(y4:Ec),Gr.fn ((p.1,p.2.1,p.2.2.1,()),y3,())=some y4/\((P ((y4.1,y4.2.1,y4.2.2.1,y4.2.2.2.1,()),y4.2.2.2.1,())/\P ((y4.1,y4.2.1,y4.2.2.1,y4.2.2.2.1,()),y4.2.2.2.1,()))/\P ((y4.1,y4.2.1,y4.2.2.1,y4.2.2.2.1,()),y4.2.2.2.1,()))/\(P ((y4.1,y4.2.1,y4.2.2.1,y4.2.2.2.1,()),y4.2.2.2.1,())/\P ((y4.1,y4.2.1,y4.2.2.1,y4.2.2.2.1,()),y4.2.2.2.1,()))/\P ((y4.1,y4.2.1,y4.2.2.1,y4.2.2.2.1,()),y4.2.2.2.1,()))/\(∃(y3:List Int),Ep.fn (p.1,())=some y3/\ ∃(y4:Ec),Gr.fn ((p.1,p.2.1,p.2.2.1,()),y3,())=some y4/\((P ((y4.1,y4.2.1,y4.2.2.1,y4.2.2.2.1,()),y4.2.2.2.1,())/\P ((y4.1,y4.2.1,y4.2.2.1,y4.2.2.2.1,()),y4.2.2.2.1,()))/\P ((y4.1,y4.2.1,y4.2.2.1,y4.2.2.2.1,()),y4.2.2.2.1,()))/\(P ((y4.1,y4.2.1,y4.2.2.1,y4.2.2.2.1,()),y4.2.2.2.1,())/\P ((y4.1,y4.2.1,y4.2.2.1,y4.2.2.2.1,()),y4.2.2.2.1,()))/\P ((y4.1,y4.2.1,y4.2.2.1,y4.2.2.2.1,()),y4.2.2.2.1,()))/\(∃(y3:List Int),Ep.fn (p.1,())=some y3/\ ∃(y4:Ec),Gr.fn ((p.1,p.2.1,p.2.2.1,()),y3,())=some y4/\((P ((y4.1,y4.2.1,y4.2.2.1,y4.2.2.2.1,()),y4.2.2.2.1,())/\P ((y4.1,y4.2.1,y4.2.2.1,y4.2.2.2.1,()),y4.2.2.2.1,()))/\P ((y4.1,y4.2.1,y4.2.2.1,y4.2.2.2.1,()),y4.2.2.2.1,()))/\(P ((y4.1,y4.2.1,y4.2.2.1,y4.2.2.2.1,()),y4.2.2.2.1,())/\P ((y4.1,y4.2.1,y4.2.2.1,y4.2.2.2.1,()),y4.2.2.2.1,()))/\P ((y4.1,y4.2.1,y4.2.2.1,y4.2.2.2.1,()),y4.2.2.2.1,()))/\ ∃(y3:List Int),Ep.fn (p.1,())=some y3/\ ∃(y4:Ec),Gr.fn ((p.1,p.2.1,p.2.2.1,()),y3,())=some y4/\((P ((y4.1,y4.2.1,y4.2.2.1,y4.2.2.2.1,()),y4.2.2.2.1,())/\P ((y4.1,y4.2.1,y4.2.2.1,y4.2.2.2.1,()),y4.2.2.2.1,()))/\P ((y4.1,y4.2.1,y4.2.2.1,y4.2.2.2.1,()),y4.2.2.2.1,()))/\(P ((y4.1,y4.2.1,y4.2.2.1,y4.2.2.2.1,()),y4.2.2.2.1,())/\P ((y4.1,y4.2.1,y4.2.2.1,y4.2.2.2.1,()),y4.2.2.2.1,()))/\P ((y4.1,y4.2.1,y4.2.2.1,y4.2.2.2.1,()),y4.2.2.2.1,())))=fnW Hf (look [(47,Hc),(66,Ep),(153,Gr)]) Xn Try.f84 (p,()) P:=by kernel_rfl
theorem uh (p:Int×ByteArray×List (List Int)×Unit) (P:Int->Prop):(∃(y2:Bool),iW.fn ((p.1,p.2.1,p.2.2.1,()),())=some y2/\Br (!y2) (P (-1:Int)) (∃(y3:Option ((Int×ByteArray×List (List Int)×PUnit)×List (List Int)×List Int×(ByteArray->Option Int)×List Int×List Int×List (List Int)×PUnit)×Bool×PUnit),Ui.fn ((p.1,p.2.1,p.2.2.1,()),())=some y3/\Br (!y3.2.1) (P (-1:Int)) (∃(y4:(List (List Int)×PUnit)×PUnit),Xo.fn (p.1,p.2.1,p.2.2.1,())=some y4/\ ∃(y5:(Int×ByteArray×List (List Int)×PUnit)×List (List Int)×List Int×(ByteArray->Option Int)×List Int×List Int×List (List Int)×PUnit),y3.1=some y5/\0=0/\y4.1.1.length=y4.1.1.length/\Dt (λ(v6:Int×Int×List (List Int)×PUnit) (k7:Int×Int×List (List Int)×PUnit->Prop)=>Br (decide (v6.2.1<(↑y5.2.1.length:Int))) (∃(y8:List Int),idx y5.2.1 v6.2.1=some y8/\ ∃(y9:List Int),de.fn (List.take v6.2.2.1.length (List.drop 0 v6.2.2.1),y8,())=some y9/\ ∃(Qq:Bool),Ft.fn (y9,y8,())=some Qq/\Br Qq (0=0/\v6.2.2.1.length=v6.2.2.1.length/\k7 (IntKind.i64.wrap (v6.1+(1:Int)),IntKind.i64.wrap (v6.2.1+(1:Int)),v6.2.2.1,())) (0=0/\v6.2.2.1.length=v6.2.2.1.length/\k7 (v6.1,IntKind.i64.wrap (v6.2.1+(1:Int)),v6.2.2.1,()))) (P v6.1)) ((0:Int),(0:Int),y4.1.1,PUnit.unit))))=fnW Hf (look [(63,iW),(88,Ui),(64,Xo),(81,de),(82,Ft)]) Xg Try.f31 (p,()) P:=by kernel_rfl
theorem uY {p:List Int} (h:Yx p):It p=true:=by
 refine Fp.2 ⟨h.pos,h.len,λj h1 h2=>?_⟩
 have:=h.row _ (Al h2)
 exact ⟨by omega,by omega,λhm=>by
  obtain ⟨i,hi,e⟩:=Bx.1 hm
  have j8:i<j:=by rw [Cs] at hi;omega
  rw [List.getElem_take] at e
  exact (De.1 h.nodup i j (by omega) h2 j8) e⟩
theorem Pd {p:PP} (hw:Ix p=true):Bi p=true/\(Jb p.2.2.1 (upto p.1.toNat)).2.2=true:=Db.1 hw
theorem JA {p:PP} (hv:Bi p=true):Wa p p.1.toNat (Cb p) (cY p):=(gV hv).ok
theorem SF {p:PP} (hV:Valid p):JX p.1.toNat λg=>some g∈p.2.2.1.map some:=
 ⟨by have:=hV.n;omega,λg du=>by obtain ⟨g',e,h⟩:=rT (lj hV).2.2 _ du;cases e;exact h⟩
theorem mB {p:PP} (hv:Bi p=true) {x:List Int} (hx:x∈Cb p):Pm p.1.toNat x:=cB.pm (SF (valid hv)) ((gV hv).gen x hx)
theorem HZ {p:PP} (hV:Valid p) {x:List Int} (h:Pm p.1.toNat x):En p.1 x=true:=by
 have:=hV.n
 have:=h.1
 exact Fp.2 ⟨by omega,uY h.2⟩
theorem Aeh {p:PP} (hv:Bi p=true) {x:List Int} (hx:x∈Cb p):En p.1 x=true:=HZ (valid hv) (mB hv hx)
theorem gO {n:Nat} {x:List Int} (h:Pm n x):short x:=by
 have h1:=h.1
 have:=h.n2
 unfold short;omega
theorem XY {p:PP} (hw:Ix p=true):(kH p).2.1=Cb p/\(kH p).2.2.1=cY p:=by
 have h:=(Pd hw).2
 refine zK 3001 0 ([upto p.1.toNat],[0],[0],[0]) [] _ _ ?_
 show Ka p.2.2.1 (Bm p.2.2.1.length) 3001 0 [upto p.1.toNat] [0]=(Cb p,cY p,true)
 rw [<-h]
 rfl
theorem HV (p:PP) (h:Lp p):fnW Hf (look [(47,Hc),(66,Ep),(153,Gr)]) Xn Try.f84 (p,()) (λ(z:SS×Bool×Unit)=>z=Ky p):=by
 refine Eq.mp (JR p _) ⟨_,Ac h,?_⟩
 show Br (!Bi p) _ _
 unfold Ky
 by_cases hv:Bi p=true
 ·rw [Ac hv,hv]
  refine ⟨λhb=>by simp at hb,λ_=>?_⟩
  have hn:=(valid hv).n
  have hid:Ep.fn (p.1,())=some (upto p.1.toNat):=Ac ⟨by show 0<=p.1;omega,by show p.1<=20;omega⟩
  have hup: ∀y∈upto p.1.toNat,0<=y/\y<p.1:= λy hy=>by have:=Kn.1 hy;omega
  have wU:Gr.fn ((p.1,p.2.1,p.2.2.1,()),upto p.1.toNat,())=some (Oj p.2.2.1 (upto p.1.toNat)):=Ac ⟨hv,by show (upto p.1.toNat).length<=20;rw [Iv];omega,hup⟩
  have hz:(((Oj p.2.2.1 (upto p.1.toNat)).1,(Oj p.2.2.1 (upto p.1.toNat)).2.1,(Oj p.2.2.1 (upto p.1.toNat)).2.2.1,(Oj p.2.2.1 (upto p.1.toNat)).2.2.2.1,()),(Oj p.2.2.1 (upto p.1.toNat)).2.2.2.1,())=(Oj p.2.2.1 (upto p.1.toNat),Ix p,()):=by
   unfold Ix
   rw [hv,fG]
   rfl
  repeat' (first|exact hz|refine ⟨_,hid,?_⟩|refine ⟨_,wU,?_⟩|refine ⟨?_,?_⟩)
 ·rw [Ai hv]
  refine ⟨λ_=>rfl,λhb=>?_⟩
  exact absurd (by simpa using hb) hv
theorem su:Sound Try.prog 84 Xn:=
 Sound.Hv Fh (Bh Rz (Bh sl (Bh DB Cm))) mixed Try.func84 (by kernel_rfl) (by kernel_rfl) λx h=>HV x.1 h
theorem Ac7 {b:Bool} (h:(!b)=true):b=false:=by cases b<;>simp_all
theorem qz {a b:List Int} :Lr a b=true↔a=b:=Il
theorem o6 {α:Type} (q:α->Bool) (xs:List α) {j:Nat} (h:j<xs.length):(xs.take (j+1)).countP q=(xs.take j).countP q+if q xs[j]=true then 1 else 0:=by
 rw [Hy,Ab h,List.countP_append]
 simp [List.countP_cons]
theorem wI {α:Type} (q:α->Bool) (xs:List α) (j:Nat):(xs.take j).countP q<=xs.length:=
 Ek bm (by rw [Cs];omega)
theorem VP {p:PP} (hv:Bi p=true):(Cb p).length<=3000:=(JA hv).ok.pF
theorem RS {p:PP} (hv:Bi p=true) {s:List Int} (hs:s∈Cb p) (h7:Rt p=true):iD (Cz p) s:=JD h7 (Aeh hv hs)
theorem tK (p:PP) (hp:Lp p):fnW Hf (look [(63,iW),(88,Ui),(64,Xo),(81,de),(82,Ft)]) Xg Try.f31 (p,()) (λ(z:Int)=>z=Xc p):=by
 unfold Xc
 refine Eq.mp (uh p _) ⟨_,Ac hp,Br.of (λhs=>?_) λhs=>?_⟩
 ·have hs:Rt p=false:=Ac7 hs
  rw [hs,Bool.false_and,Ai (by decide)]
 have hs:Rt p=true:=by simpa using hs
 rw [hs,fG]
 obtain ⟨hv,h7⟩:=au.1 hs
 by_cases hw:Ix p=true
 ·have he:Ui.fn ((p.1,p.2.1,p.2.2.1,()),())=some (some (kH p),true,()):=(Ac hp).trans (Ma some (Ac hw))
  rw [Ac hw]
  refine ⟨_,he,λhb=>by simp at hb,λ_=>⟨_,Ac ⟨hv,h7⟩,_,rfl,rfl,rfl,?_⟩⟩
  rw [(XY hw).1]
  have hlen:=VP hv
  refine Ci (Cb p).length (λv=>v.2.1) (λj v=>v.1=((((Cb p).take j).countP λs=>decide (Ga (Cz p) s=s):Nat):Int)/\v.2.2.1=Cz p) rfl ⟨by simp,rfl⟩ ?_
  rintro j ⟨c,i,L,⟨⟩⟩ K hj hi ⟨hR,hL⟩ hK
  dsimp only at hi hR hL⊢
  subst hi hR hL
  have hb:=wI (λs=>decide (Ga (Cz p) s=s)) (Cb p) j
  rw [Dl]
  refine Br.dec (λhl=>?_) λhl=>?_
  ·have hl:j<(Cb p).length:=by omega
   have lR:=RS hv (Al hl) hs
   have pK:short (Ga (Cz p) (Cb p)[j]):=by have:=zx lR;have:=lR.2.1;unfold short;omega
   refine ⟨_,Df hl,_,Ac lR,_,Ac pK,Br.of (λhb=>⟨rfl,rfl,?_⟩) λhb=>⟨rfl,rfl,?_⟩⟩
   ·have hb:Lr (Ga (Cz p) (Cb p)[j]) (Cb p)[j]=true:=hb
    rw [Cg (by omega),Cg (by omega)]
    refine hK hl _ rfl ⟨?_,rfl⟩
    rw [o6 _ _ hl,Ac (Hu (qz.1 hb))]
   ·have hb:Lr (Ga (Cz p) (Cb p)[j]) (Cb p)[j]=false:=hb
    rw [Cg (by omega)]
    refine hK hl _ rfl ⟨?_,rfl⟩
    rw [o6 _ _ hl,Ai (by simp only [Mu];exact λe=>by rw [qz.2 e] at hb;cases hb)]
    rfl
  ·have:j=(Cb p).length:=by omega
   subst this
   rw [Bb]
 ·have he:Ui.fn ((p.1,p.2.1,p.2.2.1,()),())=some (none,false,()):=(Ac hp).trans (Ma some (Ai hw))
  rw [Ai hw]
  exact ⟨_,he,λ_=>rfl,λhb=>by simp at hb⟩
theorem mA:Sound Try.prog 31 Xg:=
 Sound.Hv Fh (Bh pv (Bh tZ (Jd sw (Bh yd (Bh bT Cm))))) mixed Try.func31 (by kernel_rfl) (by kernel_rfl) λx h=>tK x.1 h
theorem cX {p:PP} (hV:Valid p) {l:Int} (hl:Jp (List.length p.2.2.1) l):Pm p.1.toNat (Av p.2.2.1 l):=by
 have hn:=hV.n
 obtain ⟨k,hk,Rq⟩:=Nh hl
 have hp:Pm p.1.toNat (p.2.2.1[k]):=⟨by have:=hV.len _ (Al hk);omega,Ts (hV.perm _ (Al hk))⟩
 rcases Rq with rfl|rfl
 ·rw [Jf hk];exact hp
 ·rw [Kw hk];exact hp.inv
theorem map_take {α β:Type} (f:α->β) {xs:List α} {j:Nat} (h:j<xs.length):(xs.take (j+1)).map f=(xs.take j).map f++ [f xs[j]]:=by
 rw [Hy,Ab h,Nn];rfl
theorem vY {p:PP} (hw:Ix p=true):wg p.2.2.1 (Bm p.2.2.1.length) (Cb p):=by
 obtain ⟨hv,hb⟩:=Pd hw
 have hV:=valid hv
 have hn:=hV.n
 exact tC hV (JA hv) (qj hv (by rw [Iv];omega) (λy hy=>by have:=Kn.1 hy;omega) hb)
theorem PQ {p:PP} (hw:Ix p=true):wj p.2.2.1 (Bm p.2.2.1.length) (Cb p) (cY p):=by
 obtain ⟨hv,hb⟩:=Pd hw
 have hn:=(valid hv).n
 exact qj hv (by rw [Iv];omega) (λy hy=>by have:=Kn.1 hy;omega) hb
theorem yq {p:PP} (hw:Ix p=true) (Q:List Int->Prop) (hQ: ∀x∈Cb p,Q x-> ∀l∈Bm p.2.2.1.length,Q (Aj x (Av p.2.2.1 l))) {x:List Int} (hx:x∈Cb p) (hq:Q x):
  ∀y∈Cb p,Q y:=by
 have hc:=vY hw
 have hL:=PQ hw
 have up: ∀(j:Nat),j<(Cb p).length->Q ((Cb p).getD j [])->Q ((Cb p).getD 0 []):=by
  intro j
  induction j using Nat.strongRecOn with
  |_ j ih=>
   intro hj hqj
   by_cases e:j=0
   ·subst e;exact hqj
   ·obtain ⟨i,l,h1,h2,h3,_⟩:=hL.par j (by omega) hj
    have hi:i<(Cb p).length:=by omega
    obtain ⟨b1,b2⟩:=hc.back _ (lK hi) l h2
    refine ih i h1 hi ?_
    have:=hQ _ (lK hj) hqj _ b1
    rwa [h3,b2] at this
 have down:Q ((Cb p).getD 0 [])-> ∀(j:Nat),j<(Cb p).length->Q ((Cb p).getD j []):=by
  intro h0 j
  induction j using Nat.strongRecOn with
  |_ j ih=>
   intro hj
   by_cases e:j=0
   ·subst e;exact h0
   ·obtain ⟨i,l,h1,h2,h3,_⟩:=hL.par j (by omega) hj
    have hi:i<(Cb p).length:=by omega
    rw [h3]
    exact hQ _ (lK hi) (ih i h1 hi) l h2
 obtain ⟨j,hj,rfl⟩:=Bx.1 hx
 rw [<-lJ (d:= []) hj] at hq
 intro y hy
 obtain ⟨k,hk,rfl⟩:=Bx.1 hy
 rw [<-lJ (d:= []) hk]
 exact down (up j hj hq) k hk
theorem oa {p:PP} (hv:Bi p=true):(Cb p).getD 0 []=upto p.1.toNat/\upto p.1.toNat∈Cb p:=by
 obtain ⟨A,h⟩:=(gV hv).first
 have h:Cb p=upto p.1.toNat::A:=h
 rw [h]
 exact ⟨rfl,by simp⟩
structure Part (n k:Nat) (s:Ev×Ev):Prop where
 l1:s.1.length=n
 l2:s.2.length=n
 pg:PG n k (s.1.getD k [])
 row:Wb n k (s.1.getD k []) (s.2.getD k [])
 comp:j4 n (n-(k+1)) (k+1) s
 gb:GBf (n-(k+1)) (k+1) s
 sub: ∀g,some g∈s.1.getD (k+1) []->Gn n (s.1.getD k []) g
def Hd (n k:Nat) (s:Ev×Ev) (q:List Int):Prop:= ∃t,(s.2.getD k []).getD (ap q k) none=some t/\Nc s.2 (n-(k+1)) (k+1) (Aj q (Bc t))=true
structure uv (n k:Nat) (s s':Ev×Ev):Prop where
 grow:aB k s s'
 same:s'.1.getD k []=s.1.getD k []
 part:Part n k s'
 Fb: ∀q,Pm n q->Fx k q->Hd n k s q->Hd n k s' q
 new: ∀y t,(s'.2.getD k []).getD y none=some t->(s.2.getD k []).getD y none=some t\/ ∀g,some g∈s.1.getD k []->Hd n k s' (Aj t g)
theorem uv.refl {n k:Nat} {s:Ev×Ev} (h:Part n k s):uv n k s s:=⟨aB.refl _ _,rfl,h,λ_ _ _ h=>h,λ_ _ h=> .inl h⟩
theorem Part.tg {n k:Nat} {s:Ev×Ev} (h:Part n k s) (hk:k<n) {y:Nat} {t g:List Int} (ht:(s.2.getD k []).getD y none=some t) (hg:some g∈s.1.getD k []):Pm n (Aj t g)/\Fx k (Aj t g)/\ap (Aj t g) k=ap g y:=by
 obtain ⟨t1,t2,t3,t4⟩:=h.row.rt _ _ ht
 obtain ⟨g',e,g1,g2⟩:=h.pg _ hg
 cases e
 exact ⟨t1.comp g1,Fx.comp t1 g1 t2 g2 (by omega),by rw [Jc t1 g1 hk,t3]⟩
theorem uv.trans {n k:Nat} {a b c:Ev×Ev} (hk:k<n) (h:uv n k a b) (h':uv n k b c):uv n k a c:=by
 refine ⟨h.grow.trans h'.grow (Ao _),h'.same.trans h.same,h'.part,λq h1 h2 h3=>h'.Fb q h1 h2 (h.Fb q h1 h2 h3),λy t e=>?_⟩
 rcases h'.new y t e with e1|e1
 ·rcases h.new y t e1 with e2|e2
  ·exact .inl e2
  ·refine .inr λg hg=>?_
   obtain ⟨p1,p2,_⟩:=h.part.tg hk e1 (by rw [h.same];exact hg)
   exact h'.Fb _ p1 p2 (e2 g hg)
 ·exact .inr λg hg=>e1 g (by rw [h.same];exact hg)
theorem Part.v {n k:Nat} {s:Ev×Ev} (h:Part n k s):V n (n-(k+1)) (k+1) s:=⟨h.l1,h.l2,h.comp,h.gb⟩
theorem SE {n:Int} {s:List Int} (h:En n s=true):Pm n.toNat s:=by
 obtain ⟨a,b⟩:=Fp.1 h
 exact ⟨by omega,Ts b⟩
abbrev tB:Ty:= .slice (.int .u8)
abbrev tU6:Ty:= .int .u64
def hN (h:Int):Int:=IntKind.u64.wrap (IntKind.u64.wrap (h*(6364136223846793005:Int))+(1442695040888963407:Int))
def xN (h:Int):Int:=IntKind.i64.wrap (IntKind.u64.wrap (↑(BitVec.ofInt IntKind.u64.bits (h.fdiv ((2:Int)^min (Int.toNat (33:Int)) IntKind.u64.bits))&&&BitVec.ofInt IntKind.u64.bits (16777215:Int)).toNat:Int))
def dI (b:List Int) (i:Int):Int:=if i<(b.length:Int) then i+1 else i
def dR (b:List Int) (i h n:Int):Int:=if i<(b.length:Int) then (xN (hN h)+Hz b i).tmod n else (xN (hN h)).tmod n
structure pB (b:List Int) (i:Int):Prop where
 len:b.length<=4096
 byte: ∀y∈b,0<=y/\y<256
 lo:0<=i
 hi:i<=b.length
def CM:List Int->Int->Int
 | [],h=>h
 |c::r,h=>CM r (IntKind.u64.wrap (IntKind.u64.wrap (IntKind.u64.wrap (h*(1099511628211:Int))+IntKind.u64.wrap c)+(3:Int)))
def np (b:List Int) (s:Int):Int:=CM b (IntKind.u64.wrap (IntKind.u64.wrap (s*(7919:Int))+IntKind.u64.wrap (b.length:Int)))
def eE (b:List Int) (n:Int):Nat->Int->Int->List Int->Int×Int×List Int
 |0,i,h,mv=>(i,h,mv)
 |k+1,i,h,mv=>eE b n k (dI b (dI b i)) (hN (hN h)) ((mv.set (dR b i h n).toNat (Hz mv (dR b (dI b i) (hN h) n))).set (dR b (dI b i) (hN h) n).toNat (Hz mv (dR b i h n)))
def nu (b:List Int) (n i h:Int):Int×Int×List Int:=eE b n (1+dR b i h 3).toNat (dI b i) (hN h) (upto n.toNat)
def Zo (b:List Int) (n:Int):Nat->Int->Int->List (List Int)->Int×Int×List (List Int)
 |0,i,h,ms=>(i,h,ms)
 |k+1,i,h,ms=>Zo b n k (nu b n i h).1 (nu b n i h).2.1 (ms++ [(nu b n i h).2.2])
def UI:ByteArray:= {data:= #[(65:UInt8),(66:UInt8)]}
def Zn (b:List Int) (i h:Int):Int×Int×PP:=((Zo b (3+dR b i h 3) 2 (dI b i) (hN h) []).1,(Zo b (3+dR b i h 3) 2 (dI b i) (hN h) []).2.1,(3+dR b i h 3,UI,(Zo b (3+dR b i h 3) 2 (dI b i) (hN h) []).2.2,()))
noncomputable abbrev Adu:MSpec:= {Ih:= [none,none],ins:= [(false, .Hx tB),(false, .Hx tU6)],Gh:=false,Hb:= [none,none,none],outs:= [.Hx tB, .Hx tI, .Hx tU6],fn:= λ_=>none,rp:=some 75}
noncomputable abbrev nJ:MSpec:=sY Adu (λx=>List.length x.1<=4096) (λx=>((x.1,0,np x.1 x.2.1,()),()))
noncomputable abbrev ZA:MSpec:= {ptr:=some (75,3),Ih:= [none],ins:= [(false, .Hx tB),(false, .Hx tI),(false, .Hx tU6),(false, .Hx tI)],Gh:=false,Hb:= [none],outs:= [.Hx tB, .Hx tI, .Hx tU6, .Hx tI],fn:= λ_=>none}
noncomputable abbrev a8:MSpec:=sY ZA (λx=>pB x.1 x.2.1/\1<=x.2.2.2.1) (λx=>((x.1,dI x.1 x.2.1,hN x.2.2.1,dR x.1 x.2.1 x.2.2.1 x.2.2.2.1,()),()))
noncomputable abbrev Xj:Spec:=Hv (.pair tL (.pair tL .unit)) .bool false true (λx=>short x.1/\short x.2.1) (λx=>Lr x.1 x.2.1)
noncomputable abbrev df:MSpec:=fb [none] [(false, .Hx tI)] false [none] [rL] (λx=>0<=x.1/\x.1<=20) (λx=>((upto x.1.toNat,()),()))
noncomputable abbrev ar:MSpec:=fb [none] [(false, .Hx tI)] false [none] [rL] (λx=>1<=x.1/\x.1<=20) (λx=>((upto x.1.toNat,()),()))
noncomputable abbrev vQ:Spec:=Hv (.pair tB .unit) .bool false true (λ_=>True) (λx=>decide ((List.length x.1:Int)>4096))
noncomputable abbrev Ai7:MSpec:= {ptr:=some (75,3),Ih:= [],ins:= [(false, .Hx tB),(false, .Hx tI),(false, .Hx tU6)],Gh:=false,Hb:= [some 3],outs:= [.Hx tB, .Hx tI, .Hx tU6, .Hx tI, .Hx .str,rLL],fn:= λ_=>none}
noncomputable abbrev vV:MSpec:=sY Ai7 (λx=>pB x.1 x.2.1) (λx=>((x.1,(Zn x.1 x.2.1 x.2.2.1).1,(Zn x.1 x.2.1 x.2.2.1).2.1,(Zn x.1 x.2.1 x.2.2.1).2.2.1,(Zn x.1 x.2.1 x.2.2.1).2.2.2.1,(Zn x.1 x.2.1 x.2.2.1).2.2.2.2.1,()),()))
theorem Aev (code:List Int) (IN:Int) (P:((List Int×Int×Int×Unit)×Unit)->Prop):(Dt (λ(v3:Int×List Int×Int×Int×PUnit) (k4:Int×List Int×Int×Int×PUnit->Prop)=>Br (decide (v3.1<(↑code.length:Int))) (∃(y5:Int),idx code v3.1=some y5/\k4 (IntKind.i64.wrap (v3.1+(1:Int)),v3.2.1,v3.2.2.1,IntKind.u64.wrap (IntKind.u64.wrap (IntKind.u64.wrap (v3.2.2.2.1*(1099511628211:Int))+IntKind.u64.wrap y5)+(3:Int)),())) (P ((v3.2.1,v3.2.2.1,v3.2.2.2.1,()),()))) ((0:Int),code,Int.ofNat (nat_lit 0),IntKind.u64.wrap (IntKind.u64.wrap (IN*(7919:Int))+IntKind.u64.wrap (↑code.length:Int)),PUnit.unit))=fnMW Vy (look []) nJ Try.f11 (code,IN,()) P:=by kernel_rfl
theorem Aa5 (b:List Int) (i h n:Int) (P:((List Int×Int×Int×Int×Unit)×Unit)->Prop):(¬(33:Int)<(0:Int)/\Br (decide (i<(↑b.length:Int))) (∃(y5:Int),idx b i=some y5/\n≠(0:Int)/\P ((b,IntKind.i64.wrap (i+(1:Int)),IntKind.u64.wrap (IntKind.u64.wrap (h*(6364136223846793005:Int))+(1442695040888963407:Int)),(IntKind.i64.wrap (IntKind.i64.wrap (IntKind.u64.wrap (↑(BitVec.ofInt IntKind.u64.bits ((IntKind.u64.wrap (IntKind.u64.wrap (h*(6364136223846793005:Int))+(1442695040888963407:Int))).fdiv ((2:Int)^min (Int.toNat (33:Int)) IntKind.u64.bits))&&&BitVec.ofInt IntKind.u64.bits (16777215:Int)).toNat:Int))+IntKind.i64.wrap y5)).tmod n,()),())) (n≠(0:Int)/\P ((b,i,IntKind.u64.wrap (IntKind.u64.wrap (h*(6364136223846793005:Int))+(1442695040888963407:Int)),(IntKind.i64.wrap (IntKind.u64.wrap (↑(BitVec.ofInt IntKind.u64.bits ((IntKind.u64.wrap (IntKind.u64.wrap (h*(6364136223846793005:Int))+(1442695040888963407:Int))).fdiv ((2:Int)^min (Int.toNat (33:Int)) IntKind.u64.bits))&&&BitVec.ofInt IntKind.u64.bits (16777215:Int)).toNat:Int))).tmod n,()),())))=fnMW Vy (look []) a8 Try.f17 (b,i,h,n,()) P:=by kernel_rfl
theorem JN (a b:List Int) (P:Bool->Prop):(Br ((↑a.length:Int) !=(↑b.length:Int)) (P false) (Dt (λ(v3:Int×PUnit) (k4:Int×PUnit->Prop)=>Br (decide (v3.1<(↑a.length:Int))) (∃(y5:Int),idx a v3.1=some y5/\ ∃(y6:Int),idx b v3.1=some y6/\Br (y5 !=y6) (P false) (k4 (IntKind.i64.wrap (v3.1+(1:Int)),()))) (P true)) ((0:Int),PUnit.unit)))=fnW Hf (look []) Xj Try.f15 (a,b,()) P:=by kernel_rfl
theorem Aiv (code:List Int) (P:Bool->Prop):(P (decide ((↑code.length:Int)>(4096:Int))))=fnW Hf (look []) vQ Try.f10 (code,()) P:=by kernel_rfl
theorem WN (n:Int) (P:((List Int×Unit)×Unit)->Prop):(0=0/\0=([]:List Int).length/\Dt (λ(v2:Int×List Int×PUnit) (k3:Int×List Int×PUnit->Prop)=>Br (decide (v2.1<n)) (0=0/\v2.2.1.length=v2.2.1.length/\v2.2.1.length+(List.take 1 (List.drop 0 [v2.1])).length<=Dd/\0=0/\(v2.2.1++List.take 1 (List.drop 0 [v2.1])).length=(v2.2.1++List.take 1 (List.drop 0 [v2.1])).length/\k3 (IntKind.i64.wrap (v2.1+(1:Int)),v2.2.1++List.take 1 (List.drop 0 [v2.1]),())) (P ((List.take v2.2.1.length (List.drop 0 v2.2.1),()),()))) ((0:Int),[],PUnit.unit))=fnMW Vy (look []) df Try.f66 (n,()) P:=by kernel_rfl
theorem QL (n:Int) (P:((List Int×Unit)×Unit)->Prop):(∃(y2:Bool),Ei.fn (n,(1:Int),(20:Int),())=some y2/\Br (!y2) (P ((List.take 0 (List.drop 0 []),()),())) (∃(y3:(List Int×PUnit)×PUnit),df.fn (n,())=some y3/\P ((List.take y3.1.1.length (List.drop 0 y3.1.1),()),())))=fnMW Vy (look [(65,Ei),(66,df)]) ar Try.f16 (n,()) P:=by kernel_rfl
abbrev VU:Type:=Int×Int×ByteArray×Int×ByteArray×List (List Int)×List (List Int)×List Int×List Int×Int×Int×PUnit
abbrev VW:Type:=Int×ByteArray×Int×ByteArray×List (List Int)×List (List Int)×List Int×Int×Int×PUnit
abbrev yC:Type:=(List Int×Int×Int×Int×PUnit)×PUnit
theorem Aj0 (b:List Int) (i h:Int) (P:((List Int×Int×Int×Int×ByteArray×List (List Int)×Unit)×Unit)->Prop):(∃(y4:yC),a8.fn (b,i,h,(3:Int),())=some y4/\0=0/\0=([]:List Int).length/\0=0/\0=([]:List Int).length/\Dt (λ(v5:VW) (k6:VW->Prop)=>Br (decide ((↑v5.2.2.2.2.2.1.length:Int)<(2:Int))) (∃(y7:(List Int×PUnit)×PUnit),ar.fn (v5.2.2.1,())=some y7/\ ∃(y8:yC),a8.fn (v5.2.2.2.2.2.2.1,v5.2.2.2.2.2.2.2.1,v5.2.2.2.2.2.2.2.2.1,(3:Int),())=some y8/\0=0/\y7.1.1.length=y7.1.1.length/\0=0/\v5.2.2.2.2.1.length=v5.2.2.2.2.1.length/\0=0/\v5.2.2.2.2.2.1.length=v5.2.2.2.2.2.1.length/\Dt (λ(v9:VU) (k10:VU->Prop)=>Br (decide (v9.1>(0:Int))) (∃(Qv:yC),a8.fn (v9.2.2.2.2.2.2.2.2.1,v9.2.2.2.2.2.2.2.2.2.1,v9.2.2.2.2.2.2.2.2.2.2.1,v9.2.2.2.1,())=some Qv/\ ∃(sP:yC),a8.fn (Qv.1.1,Qv.1.2.1,Qv.1.2.2.1,v9.2.2.2.1,())=some sP/\((0:Int)<=Qv.1.2.2.2.1/\Qv.1.2.2.2.1<(↑v9.2.2.2.2.2.2.2.1.length:Int))/\ ∃(we:Int),v9.2.2.2.2.2.2.2.1[0+Qv.1.2.2.2.1.toNat]?=some we/\((0:Int)<=sP.1.2.2.2.1/\sP.1.2.2.2.1<(↑v9.2.2.2.2.2.2.2.1.length:Int))/\ ∃(dv:Int),v9.2.2.2.2.2.2.2.1[0+sP.1.2.2.2.1.toNat]?=some dv/\((0:Int)<=Qv.1.2.2.2.1/\Qv.1.2.2.2.1<(↑v9.2.2.2.2.2.2.2.1.length:Int))/\0+Qv.1.2.2.2.1.toNat<v9.2.2.2.2.2.2.2.1.length/\((0:Int)<=sP.1.2.2.2.1/\sP.1.2.2.2.1<(↑v9.2.2.2.2.2.2.2.1.length:Int))/\0+sP.1.2.2.2.1.toNat<(v9.2.2.2.2.2.2.2.1.set (0+Qv.1.2.2.2.1.toNat) dv).length/\0=0/\v9.2.2.2.2.2.2.2.1.length=((v9.2.2.2.2.2.2.2.1.set (0+Qv.1.2.2.2.1.toNat) dv).set (0+sP.1.2.2.2.1.toNat) we).length/\0=0/\v9.2.2.2.2.2.1.length=v9.2.2.2.2.2.1.length/\0=0/\v9.2.2.2.2.2.2.1.length=v9.2.2.2.2.2.2.1.length/\k10 (IntKind.i64.wrap (v9.1-(1:Int)),v9.2.1,v9.2.2.1,v9.2.2.2.1,v9.2.2.2.2.1,v9.2.2.2.2.2.1,v9.2.2.2.2.2.2.1,(v9.2.2.2.2.2.2.2.1.set (0+Qv.1.2.2.2.1.toNat) dv).set (0+sP.1.2.2.2.1.toNat) we,sP.1.1,sP.1.2.1,sP.1.2.2.1,())) (0=0/\v9.2.2.2.2.2.2.1.length=v9.2.2.2.2.2.2.1.length/\v9.2.2.2.2.2.2.1.length+(List.take 1 (List.drop 0 [List.take v9.2.2.2.2.2.2.2.1.length (List.drop 0 v9.2.2.2.2.2.2.2.1)])).length<=Dd/\0=0/\v9.2.2.2.2.2.1.length=v9.2.2.2.2.2.1.length/\0=0/\(v9.2.2.2.2.2.2.1++List.take 1 (List.drop 0 [List.take v9.2.2.2.2.2.2.2.1.length (List.drop 0 v9.2.2.2.2.2.2.2.1)])).length=(v9.2.2.2.2.2.2.1++List.take 1 (List.drop 0 [List.take v9.2.2.2.2.2.2.2.1.length (List.drop 0 v9.2.2.2.2.2.2.2.1)])).length/\k6 (v9.2.1,v9.2.2.1,v9.2.2.2.1,v9.2.2.2.2.1,v9.2.2.2.2.2.1,v9.2.2.2.2.2.2.1++List.take 1 (List.drop 0 [List.take v9.2.2.2.2.2.2.2.1.length (List.drop 0 v9.2.2.2.2.2.2.2.1)]),v9.2.2.2.2.2.2.2.2.1,v9.2.2.2.2.2.2.2.2.2.1,v9.2.2.2.2.2.2.2.2.2.2.1,()))) (IntKind.i64.wrap ((1:Int)+y8.1.2.2.2.1),v5.1,v5.2.1,v5.2.2.1,v5.2.2.2.1,v5.2.2.2.2.1,v5.2.2.2.2.2.1,y7.1.1,y8.1.1,y8.1.2.1,y8.1.2.2.1,PUnit.unit)) (P ((v5.2.2.2.2.2.2.1,v5.2.2.2.2.2.2.2.1,v5.2.2.2.2.2.2.2.2.1,v5.2.2.1,v5.2.2.2.1,List.take v5.2.2.2.2.2.1.length (List.drop 0 v5.2.2.2.2.2.1),()),()))) (Int.ofNat (nat_lit 0), {data:= #[]},IntKind.i64.wrap ((3:Int)+y4.1.2.2.2.1), {data:= #[(65:UInt8),(66:UInt8)]},[],[],y4.1.1,y4.1.2.1,y4.1.2.2.1,PUnit.unit))=fnMW Vy (look [(17,a8),(16,ar)]) vV Try.f12 (b,i,h,()) P:=by kernel_rfl
theorem Abz (h:Int):0<=xN h/\xN h<=16777215:=by
 obtain ⟨a,ha⟩: ∃a,BitVec.ofInt IntKind.u64.bits (h.fdiv ((2:Int)^min (Int.toNat (33:Int)) IntKind.u64.bits))=a:=⟨_,rfl⟩
 have h1:(a&&&BitVec.ofInt IntKind.u64.bits (16777215:Int)).toNat<=16777215:=by
  rw [BitVec.toNat_and]
  exact Nat.and_le_right
 unfold xN
 rw [ha]
 obtain ⟨x,hx⟩: ∃x,(a&&&BitVec.ofInt IntKind.u64.bits (16777215:Int)).toNat=x:=⟨_,rfl⟩
 rw [hx] at h1⊢
 have e:IntKind.u64.wrap (x:Int)=x:=by
  unfold IntKind.wrap
  have e1:IntKind.signed .u64=false:=rfl
  have e2:IntKind.bits .u64=64:=rfl
  rw [e1,e2]
  simp only [Bool.false_and,Cx,Qu]
  omega
 rw [e,Dh (by omega) (by omega)]
 omega
theorem pB.Hz {b:List Int} {i:Int} (h:pB b i) (hi:i<b.length):0<=Hz b i/\Hz b i<256:=by
 have h0:=h.lo
 have hl:i.toNat<b.length:=by omega
 refine h.byte _ ?_
 unfold Go.Proofs.Ytkkdpknjohcekaa.Hz
 rw [Ah,Ab hl]
 exact Al hl
theorem pB.next {b:List Int} {i:Int} (h:pB b i):pB b (dI b i):=by
 have h0:=h.lo
 have h1:=h.hi
 unfold dI
 split
 ·exact ⟨h.len,h.byte,by omega,by omega⟩
 ·exact h
theorem qw {b:List Int} {i n:Int} (h:pB b i) (hn:1<=n) (s:Int):0<=dR b i s n/\dR b i s n<n:=by
 have hx:=Abz (hN s)
 unfold dR
 split
 ·rename_i hi
  have:=h.Hz hi
  exact ⟨Int.tmod_nonneg _ (by omega),Int.tmod_lt_of_pos _ (by omega)⟩
 ·exact ⟨Int.tmod_nonneg _ (by omega),Int.tmod_lt_of_pos _ (by omega)⟩
theorem Ae6 (code:List Int) (IN:Int) (h:code.length<=4096):fnMW Vy (look []) nJ Try.f11 (code,IN,()) (λ(z:(List Int×Int×Int×Unit)×Unit)=>z=((code,0,np code IN,()),())):=by
 obtain ⟨R,hR⟩: ∃R,np code IN=R:=⟨_,rfl⟩
 rw [hR]
 unfold np at hR
 refine Eq.mp (Aev code IN _) ?_
 refine Ci code.length (λv=>v.1) (λj v=>v.2.1=code/\v.2.2.1=0/\CM (code.drop j) v.2.2.2.1=R) rfl ⟨rfl,rfl,hR⟩ ?_
 rintro j ⟨jj,c,i,s,⟨⟩⟩ K hj pM ⟨r1,r2,r3⟩ hK
 dsimp only at pM r1 r2 r3⊢
 subst pM r1 r2
 refine Br.dec (λhl=>?_) λhl=>?_
 ·have hl:j<c.length:=by omega
  refine ⟨_,Df hl,?_⟩
  rw [Cg (by omega)]
  rw [Bz hl,CM] at r3
  exact hK hl _ rfl ⟨rfl,rfl,r3⟩
 ·have:j=c.length:=by omega
  subst this
  rw [Ot,CM] at r3
  rw [r3]
theorem IW:Da Try.prog 11 nJ:=
 Da.sY Sq Cm mixed Try.func11 (by kernel_rfl) (by kernel_rfl) λx h=>Ae6 x.1 x.2.1 h
theorem ZI (b:List Int) (i h n:Int) (hd:pB b i/\1<=n):fnMW Vy (look []) a8 Try.f17 (b,i,h,n,()) (λ(z:(List Int×Int×Int×Int×Unit)×Unit)=>z=((b,dI b i,hN h,dR b i h n,()),())):=by
 obtain ⟨hd,hn⟩:=hd
 have h0:=hd.lo
 have hlen:=hd.len
 have hx:=Abz (hN h)
 refine Eq.mp (Aa5 b i h n _) ⟨by omega,Br.dec (λhl=>?_) λhl=>?_⟩
 ·have hg:=hd.Hz hl
  refine ⟨_,lV h0 hl,by omega,?_⟩
  rw [Dh (n:=Hz b i) (by omega) (by omega)]
  show ((b,IntKind.i64.wrap (i+1),hN h,(IntKind.i64.wrap (xN (hN h)+Hz b i)).tmod n,()),())=_
  rw [Dh (by omega) (by omega),Dh (by omega) (by omega)]
  unfold dI dR
  rw [Ac hl,Ac hl]
 ·refine ⟨by omega,?_⟩
  show ((b,i,hN h,(xN (hN h)).tmod n,()),())=_
  unfold dI dR
  rw [Ai hl,Ai hl]
theorem CU:Da Try.prog 17 a8:=
 Da.sY Sq Cm mixed Try.func17 (by kernel_rfl) (by kernel_rfl) λx h=>ZI x.1 x.2.1 x.2.2.1 x.2.2.2.1 h
theorem Aif (code:List Int) (_:True):fnW Hf (look []) vQ Try.f10 (code,()) (λ(z:Bool)=>z=decide ((code.length:Int)>4096)):=Eq.mp (Aiv code _) rfl
theorem PD:Sound Try.prog 10 vQ:=
 Sound.Hv Fh Cm mixed Try.func10 (by kernel_rfl) (by kernel_rfl) λx h=>Aif x.1 h
theorem HR (a b:List Int) (h:short a/\short b):fnW Hf (look []) Xj Try.f15 (a,b,()) (λ(z:Bool)=>z=Lr a b):=by
 refine Eq.mp (JN a b _) ⟨λhl=>?_,λhl=>?_⟩
 ·simp only [bne_iff_ne,ne_eq,Lj] at hl
  exact (Lk λpd=>hl (by rw [pd])).symm
 ·simp only [Wj,Lj] at hl
  exact wJ a b hl h.1
theorem sm:Sound Try.prog 15 Xj:=
 Sound.Hv Fh Cm mixed Try.func15 (by kernel_rfl) (by kernel_rfl) λx h=>HR x.1 x.2.1 h
theorem UR (n:Int) (h:0<=n/\n<=20):fnMW Vy (look []) df Try.f66 (n,()) (λ(z:(List Int×Unit)×Unit)=>z=((upto n.toNat,()),())):=by
 refine Eq.mp (WN n _) ⟨rfl,rfl,?_⟩
 refine Ci n.toNat (λv=>v.1) (λj v=>v.2.1=upto j) rfl rfl ?_
 rintro j ⟨i,ys,⟨⟩⟩ K hj hi h1 hK
 dsimp only at hi h1⊢
 subst hi h1
 refine Br.dec (λhl=>?_) λhl=>?_
 ·refine ⟨rfl,rfl,?_,rfl,rfl,?_⟩
  ·show (upto j).length+1<=4294967296
   rw [Iv];omega
  ·rw [Cg (by omega)]
   exact hK (by omega) _ rfl (Un j).symm
 ·have:j=n.toNat:=by omega
  subst this
  rw [Dl]
theorem yh:Da Try.prog 66 df:=
 Da.fb Sq Cm mixed Try.func66 (by kernel_rfl) (by kernel_rfl) λx h=>UR x.1 h
theorem OP (n:Int) (h:1<=n/\n<=20):fnMW Vy (look [(65,Ei),(66,df)]) ar Try.f16 (n,()) (λ(z:(List Int×Unit)×Unit)=>z=((upto n.toNat,()),())):=by
 refine Eq.mp (QL n _) ⟨true,Ac trivial|>.trans (Ma some (Hu ⟨h.1,h.2⟩)),λhc=>(by cases hc),λ_=>⟨_,Ac ⟨by show 0<=n;omega,h.2⟩,?_⟩⟩
 rw [Dl]
theorem u7:Da Try.prog 16 ar:=
 Da.fb Sq (Bh cn (Jd yh Cm)) mixed Try.func16 (by kernel_rfl) (by kernel_rfl) λx h=>OP x.1 h
theorem DG {b:List Int} (n:Int): ∀(k:Nat) (i h:Int) (mv:List Int),pB b i->pB b (eE b n k i h mv).1
 |0,_,_,_,hd=>hd
 |k+1,i,h,mv,hd=>by rw [eE];exact DG n k _ _ _ hd.next.next
theorem rG {b:List Int} {n i:Int} (hd:pB b i) (h:Int):pB b (nu b n i h).1:=DG n _ _ _ _ hd.next
theorem LO (b:List Int) (n:Int): ∀(k:Nat) (i h:Int) (ms:List (List Int)),(Zo b n k i h ms).2.2.length=k+ms.length
 |0,_,_,ms=>by rw [Zo];show ms.length=0+ms.length;omega
 |k+1,i,h,ms=>by rw [Zo,LO b n k,Au,Bw];omega
theorem LN {b:List Int} (n:Int): ∀(k:Nat) (i h:Int) (ms:List (List Int)),pB b i->pB b (Zo b n k i h ms).1
 |0,_,_,_,hd=>hd
 |k+1,i,h,ms,hd=>by rw [Zo];exact LN n k _ _ _ (rG hd h)
theorem Afw {xs:List Int} {y:Int} (h0:0<=y) (h:y<xs.length):xs[0+y.toNat]?=some (Hz xs y):=by
 have hl:y.toNat<xs.length:=by omega
 unfold Hz
 rw [Cj,Ah,Ab hl]
 rfl
theorem Aik (b:List Int) (i h:Int) (hd:pB b i):fnMW Vy (look [(17,a8),(16,ar)]) vV Try.f12 (b,i,h,()) (λ(z:(List Int×Int×Int×Int×ByteArray×List (List Int)×Unit)×Unit)=>z=((b,(Zn b i h).1,(Zn b i h).2.1,(Zn b i h).2.2.1,(Zn b i h).2.2.2.1,(Zn b i h).2.2.2.2.1,()),())):=by
 have hr:=qw hd (show (1:Int)<=3 by decide) h
 obtain ⟨n,hn⟩: ∃n,3+dR b i h 3=n:=⟨_,rfl⟩
 obtain ⟨R,hR⟩: ∃R,Zo b n 2 (dI b i) (hN h) []=R:=⟨_,rfl⟩
 have hm:Zn b i h=(R.1,R.2.1,(n,UI,R.2.2,())):=by unfold Zn;rw [hn,hR]
 rw [hm]
 refine Eq.mp (Aj0 b i h _) ⟨_,Ac ⟨hd,by show (1:Int)<=3;decide⟩,rfl,rfl,rfl,rfl,?_⟩
 dsimp only
 rw [Dh (n:=3+dR b i h 3) (by omega) (by omega),hn]
 have hn3:3<=n/\n<=5:=by omega
 refine Dt.mk (λy=> ∃(f:Nat) (i h:Int) (ms:List (List Int)),y=((0:Int), {data:= #[]},n,UI,[],ms,b,i,h,())/\pB b i/\f+ms.length=2/\Zo b n f i h ms=R) (λy=>2-y.2.2.2.2.2.1.length)
  ⟨2,dI b i,hN h,[],rfl,hd.next,rfl,hR⟩ ?_
 rintro y ⟨f,i,h,ms,rfl,hd,hl,hv⟩
 dsimp only
 refine Br.dec (λhf=>?_) λhf=>?_
 ·obtain ⟨f,rfl⟩: ∃f',f=f'+1:=⟨f-1,by omega⟩
  rw [Zo] at hv
  obtain ⟨M,hM⟩: ∃M,nu b n i h=M:=⟨_,rfl⟩
  have hMd:pB b M.1:=by rw [<-hM];exact rG hd h
  rw [hM] at hv
  unfold nu at hM
  have hr:=qw hd (show (1:Int)<=3 by decide) h
  refine ⟨_,Ac ⟨by show 1<=n;omega,by show n<=20;omega⟩,_,Ac ⟨hd,by show (1:Int)<=3;decide⟩,rfl,rfl,rfl,rfl,rfl,rfl,?_⟩
  dsimp only
  rw [Dh (n:=1+dR b i h 3) (by omega) (by omega)]
  refine Dt.mk (λz=> ∃(c:Nat) (i h:Int) (mv:List Int),z=((c:Int),(0:Int), {data:= #[]},n,UI,[],ms,mv,b,i,h,())/\pB b i/\c<=3/\mv.length=n.toNat/\eE b n c i h mv=M) (λz=>z.1.toNat)
   ⟨(1+dR b i h 3).toNat,dI b i,hN h,upto n.toNat,by rw [Int.toNat_of_nonneg (by omega)],hd.next,by omega,Iv _,hM⟩ ?_
  rintro z ⟨c,i',h',mv,rfl,MZ,hc,gB,hsw⟩
  dsimp only
  refine Br.dec (λj7=>?_) λj7=>?_
  ·obtain ⟨c,rfl⟩: ∃c',c=c'+1:=⟨c-1,by omega⟩
   rw [eE] at hsw
   have r1:=qw MZ (show 1<=n by omega) h'
   have r2:=qw MZ.next (show 1<=n by omega) (hN h')
   have l1:dR b i' h' n<mv.length:=by omega
   have l2:dR b (dI b i') (hN h') n<mv.length:=by omega
   refine ⟨_,Ac ⟨MZ,by show 1<=n;omega⟩,_,Ac ⟨MZ.next,by show 1<=n;omega⟩,⟨r1.1,l1⟩,_,Afw r1.1 l1,⟨r2.1,l2⟩,_,Afw r2.1 l2,⟨r1.1,l1⟩,by show 0+(dR b i' h' n).toNat<mv.length;omega,⟨r2.1,l2⟩,
    by rw [Bt];show 0+(dR b (dI b i') (hN h') n).toNat<mv.length;omega,rfl,by simp only [Bt],rfl,rfl,rfl,rfl,?_⟩
   dsimp only
   rw [Dh (by omega) (by omega),Cj,Cj]
   exact ⟨⟨c,_,_,_,by rw [show ((c+1:Nat):Int)-1=(c:Int) by omega],MZ.next.next,by omega,by simp only [Bt];exact gB,hsw⟩,by show ((((c+1:Nat):Int)-1).toNat)<(((c+1:Nat):Int)).toNat;omega⟩
  ·obtain rfl:c=0:=by omega
   rw [eE] at hsw
   subst hsw
   refine ⟨rfl,rfl,by show ms.length+1<=4294967296;omega,rfl,rfl,rfl,rfl,?_⟩
   rw [Dl]
   exact ⟨⟨f,_,_,_,rfl,hMd,by rw [Au];show f+(ms.length+1)=2;omega,hv⟩,by show 2-(ms++ [mv]).length<2-ms.length;rw [Au,Bw];omega⟩
 ·obtain rfl:f=0:=by omega
  rw [Zo] at hv
  rw [<-hv]
  simp only [Dl]
theorem PK:Da Try.prog 12 vV:=
 Da.sY Sq (Jd CU (Jd u7 Cm)) mixed Try.func12 (by kernel_rfl) (by kernel_rfl) λx h=>Aik x.1 x.2.1 x.2.2.1 h
end Go.Proofs.Ytkkdpknjohcekaa
