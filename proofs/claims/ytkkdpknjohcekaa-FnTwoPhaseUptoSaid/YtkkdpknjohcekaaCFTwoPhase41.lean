/-
  Part 42 of the proof that the statement FnTwoPhase holds.
-/
import Derived.Test.YtkkdpknjohcekaaCFTwoPhase40
namespace Go.Proofs.Ytkkdpknjohcekaa
open Go.RowKit
def ap (p:List Int) (i:Nat):Nat:=(Cu p (i:Int)).toNat
def Pm (n:Nat) (p:List Int):Prop:=p.length=n/\bF p
theorem Pm.n1 {n:Nat} {p:List Int} (h:Pm n p):1<=n:=h.1▸h.2.pos
theorem Pm.n2 {n:Nat} {p:List Int} (h:Pm n p):n<=20:=h.1▸h.2.len
theorem Pm.Re {n:Nat} {p:List Int} (h:Pm n p) {i:Nat} (hi:i<n):Cu p (i:Int)=(ap p i:Int)/\ap p i<n:=by
 have cM:i<p.length:=by rw [h.1];exact hi
 have:=h.2.row _ (Am cM)
 unfold ap
 rw [Ku cM]
 have h1:=h.1
 omega
theorem Pm.lt {n:Nat} {p:List Int} (h:Pm n p) {i:Nat} (hi:i<n):ap p i<n:=(h.Re hi).2
theorem Pm.ext {n:Nat} {p q:List Int} (h:Pm n p) (k:Pm n q) (e: ∀i,i<n->ap p i=ap q i):p=q:=by
 refine List.ext_getElem (by rw [h.1,k.1]) λi h1 h2=>?_
 have hi:i<n:=by rw [<-h.1];exact h1
 have a:=(h.Re hi).1
 have b:=(k.Re hi).1
 rw [Ku h1] at a
 rw [Ku h2] at b
 rw [a,b,e i hi]
theorem Pm.inj {n:Nat} {p:List Int} (h:Pm n p) {i j:Nat} (hi:i<n) (hj:j<n) (e:ap p i=ap p j):i=j:=
 h.2.inj i j (by rw [h.1];exact hi) (by rw [h.1];exact hj) e
theorem Pm.UN {n:Nat} {p:List Int} (h:Pm n p) {k:Nat} (hk:k<n): ∃i,i<n/\ap p i=k:=by
 obtain ⟨i,h1,h2⟩:=h.2.UN k (by rw [h.1];exact hk)
 exact ⟨i,by rw [<-h.1];exact h1,h2⟩
theorem Pm.of {n:Nat} {p:List Int} (hl:p.length=n) (h1:1<=n) (h2:n<=20) (f:Nat->Nat) (hf: ∀i,i<n->p[i]?=some (f i:Int)/\f i<n) (hi: ∀i j,i<n->j<n->f i=f j->i=j):Pm n p:=by
 refine ⟨hl,by omega,by omega,λy hy=>?_,?_⟩
 ·obtain ⟨i,hi,rfl⟩:=Bf.1 hy
  obtain ⟨h3,h4⟩:=hf i (by omega)
  rw [Ad hi] at h3
  rw [Bd h3]
  omega
 ·refine Ez.2 λi j h3 h4 h5 h6=>?_
  have a:=(hf i (by omega)).1
  have b:=(hf j (by omega)).1
  rw [Ad h3] at a
  rw [Ad h4] at b
  rw [Bd a,Bd b] at h6
  have:=hi i j (by omega) (by omega) (by omega)
  omega
theorem EB {n:Nat} {p q:List Int} (hp:Pm n p) (hq:Pm n q) {i:Nat} (hi:i<n):(Ak p q)[i]?=some (ap q (ap p i):Int):=by
 have h1:i<p.length:=by rw [hp.1];exact hi
 unfold Ak
 rw [Fv,Ad h1]
 have a:=(hp.Re hi).1
 rw [Ku h1] at a
 simp only [An,a]
 rw [(hq.Re (hp.Re hi).2).1]
theorem Pm.comp {n:Nat} {p q:List Int} (hp:Pm n p) (hq:Pm n q):Pm n (Ak p q):=
 Pm.of (by rw [Rw,hp.1]) hp.n1 hp.n2 (λi=>ap q (ap p i)) (λi hi=>⟨EB hp hq hi,hq.lt (hp.lt hi)⟩) λi j hi hj e=>hp.inj hi hj (hq.inj (hp.lt hi) (hp.lt hj) e)
theorem YG {p:List Int} {i k:Nat} (h:p[i]?=some (k:Int)):ap p i=k:=by
 unfold ap Cu
 rw [Ac,Al,h]
 simp
theorem Kf {n:Nat} {p q:List Int} (hp:Pm n p) (hq:Pm n q) {i:Nat} (hi:i<n):ap (Ak p q) i=ap q (ap p i):=YG (EB hp hq hi)
theorem IZ {n i:Nat} (hi:i<n):(upto n)[i]?=some (i:Int):=by simp [upto,hi]
theorem kX {n i:Nat} (hi:i<n):ap (upto n) i=i:=YG (IZ hi)
theorem Pm.id {n:Nat} (h1:1<=n) (h2:n<=20):Pm n (upto n):=Pm.of (by simp [upto]) h1 h2 (λi=>i) (λi hi=>⟨IZ hi,hi⟩) λ_ _ _ _ e=>e
theorem RL {n:Nat} {p:List Int} (hp:Pm n p) {i:Nat} (hi:i<n):(Bw p)[ap p i]?=some (i:Int):=Aad hp.2 (by rw [hp.1];exact hi)
theorem ka {n:Nat} {p:List Int} (hp:Pm n p) {i:Nat} (hi:i<n):ap (Bw p) (ap p i)=i:=YG (RL hp hi)
theorem yN {n:Nat} {p:List Int} (hp:Pm n p) {k:Nat} (hk:k<n):ap p (ap (Bw p) k)=k:=by
 obtain ⟨i,hi,rfl⟩:=hp.UN hk
 rw [ka hp hi]
theorem Pm.inv {n:Nat} {p:List Int} (hp:Pm n p):Pm n (Bw p):=by
 refine Pm.of (by rw [sj,hp.1]) hp.n1 hp.n2 (λk=>ap (Bw p) k) (λk hk=>?_) λi j hi hj e=>?_
 ·obtain ⟨i,hi,rfl⟩:=hp.UN hk
  rw [ka hp hi]
  exact ⟨RL hp hi,hi⟩
 ·rw [<-yN hp hi,<-yN hp hj,e]
theorem Hx {n:Nat} {p q r:List Int} (hp:Pm n p) (hq:Pm n q) (hr:Pm n r):Ak (Ak p q) r=Ak p (Ak q r):=
 ((hp.comp hq).comp hr).ext (hp.comp (hq.comp hr)) λi hi=>by rw [Kf (hp.comp hq) hr hi,Kf hp hq hi,Kf hp (hq.comp hr) hi,Kf hq hr (hp.lt hi)]
theorem comp_id {n:Nat} {p:List Int} (hp:Pm n p):Ak p (upto n)=p:=
 (hp.comp (Pm.id hp.n1 hp.n2)).ext hp λi hi=>by rw [Kf hp (Pm.id hp.n1 hp.n2) hi,kX (hp.lt hi)]
theorem id_comp {n:Nat} {p:List Int} (hp:Pm n p):Ak (upto n) p=p:=
 ((Pm.id hp.n1 hp.n2).comp hp).ext hp λi hi=>by rw [Kf (Pm.id hp.n1 hp.n2) hp hi,kX hi]
theorem iH {n:Nat} {p:List Int} (hp:Pm n p):Ak p (Bw p)=upto n:=
 (hp.comp hp.inv).ext (Pm.id hp.n1 hp.n2) λi hi=>by rw [Kf hp hp.inv hi,ka hp hi,kX hi]
theorem bY {n:Nat} {p:List Int} (hp:Pm n p):Ak (Bw p) p=upto n:=
 (hp.inv.comp hp).ext (Pm.id hp.n1 hp.n2) λi hi=>by rw [Kf hp.inv hp hi,yN hp hi,kX hi]
theorem tG {n:Nat} {p q:List Int} (hp:Pm n p) (hq:Pm n q) (h:Ak p q=upto n):Bw p=q:=by
 rw [<-comp_id hp.inv,<-h,<-Hx hp.inv hp hq,bY hp,id_comp hq]
theorem inv_mul {n:Nat} {p q:List Int} (hp:Pm n p) (hq:Pm n q):Bw (Ak p q)=Ak (Bw q) (Bw p):=
 tG (hp.comp hq) (hq.inv.comp hp.inv) (by
  rw [Hx hp hq (hq.inv.comp hp.inv),<-Hx hq hq.inv hp.inv,iH hq,id_comp hp.inv,iH hp])
theorem inv_inv {n:Nat} {p:List Int} (hp:Pm n p):Bw (Bw p)=p:=tG hp.inv hp (bY hp)
theorem Aae {n:Nat} (h1:1<=n) (h2:n<=20):Bw (upto n)=upto n:=tG (Pm.id h1 h2) (Pm.id h1 h2) (comp_id (Pm.id h1 h2))
inductive dP (n:Nat) (S:List Int->Prop):List Int->Prop where
 |id:dP n S (upto n)
 |mul {p g:List Int} :dP n S p->S g->dP n S (Ak p g)
 |inv {p g:List Int} :dP n S p->S g->dP n S (Ak p (Bw g))
def PY (n:Nat) (S:List Int->Prop):Prop:=(1<=n/\n<=20)/\ ∀g,S g->Pm n g
theorem dP.pm {n:Nat} {S:List Int->Prop} (hS:PY n S) {p:List Int} (h:dP n S p):Pm n p:=by
 induction h with
 |id=>exact Pm.id hS.1.1 hS.1.2
 |mul _ hg ih=>exact ih.comp (hS.2 _ hg)
 |inv _ hg ih=>exact ih.comp (hS.2 _ hg).inv
theorem dP.comp {n:Nat} {S:List Int->Prop} (hS:PY n S) {p q:List Int} (hp:dP n S p) (hq:dP n S q):dP n S (Ak p q):=by
 induction hq with
 |id=>rw [comp_id (hp.pm hS)];exact hp
 |mul hq hg ih=>rw [<-Hx (hp.pm hS) (hq.pm hS) (hS.2 _ hg)];exact .mul ih hg
 |inv hq hg ih=>rw [<-Hx (hp.pm hS) (hq.pm hS) (hS.2 _ hg).inv];exact .inv ih hg
theorem dP.one {n:Nat} {S:List Int->Prop} (hS:PY n S) {g:List Int} (hg:S g):dP n S g:=by
 have:=dP.mul (n:=n) (S:=S) .id hg
 rwa [id_comp (hS.2 g hg)] at this
theorem dP.Ak9 {n:Nat} {S:List Int->Prop} (hS:PY n S) {g:List Int} (hg:S g):dP n S (Bw g):=by
 have:=dP.inv (n:=n) (S:=S) .id hg
 rwa [id_comp (hS.2 g hg).inv] at this
theorem dP.zw {n:Nat} {S:List Int->Prop} (hS:PY n S) {p:List Int} (hp:dP n S p):dP n S (Bw p):=by
 induction hp with
 |id=>rw [Aae hS.1.1 hS.1.2];exact .id
 |mul hq hg ih=>rw [inv_mul (hq.pm hS) (hS.2 _ hg)];exact (dP.Ak9 hS hg).comp hS ih
 |inv hq hg ih=>rw [inv_mul (hq.pm hS) (hS.2 _ hg).inv,inv_inv (hS.2 _ hg)];exact (dP.one hS hg).comp hS ih
theorem dP.trans {n:Nat} {S S':List Int->Prop} (hS':PY n S') (h: ∀g,S g->dP n S' g) {p:List Int} (hp:dP n S p):dP n S' p:=by
 induction hp with
 |id=>exact .id
 |mul _ hg ih=>exact ih.comp hS' (h _ hg)
 |inv _ hg ih=>exact ih.comp hS' ((h _ hg).zw hS')
abbrev PO:=Option (List Int)
abbrev Row:=List PO
abbrev Fu:=List Row
def Nm (row:Row):List Int:=(upto row.length).filter λy=>(row.getD y.toNat none).isSome
def Oa (T:Fu):Nat->Nat->List Int->Bool
 |0,_,_=>true
 |k+1,i,p=>match (T.getD i []).getD (Cu p (i:Int)).toNat none with
  |none=>false
  |some t=>Oa T k (i+1) (Ak p (Bw t))
def Si (row:Row):Nat:=row.countP (·.isNone)
def aP (x:Int) (s:Row×List Int) (o:PO):Row×List Int:=
 match s.1.getD (Cu (o.getD []) x).toNat none with
 |some _=>s
 |none=>(s.1.set (Cu (o.getD []) x).toNat (some (Ak ((s.1.getD x.toNat none).getD []) (o.getD []))),s.2++ [Cu (o.getD []) x])
def aF (x:Int) (gs:List PO) (s:Row×List Int):Row×List Int:=gs.foldl (aP x) s
def ao (gs:List PO):Nat->List Int->Row->Row
 |0,_,row=>row
 |_+1,[],row=>row
 |f+1,x::q,row=>ao gs f (aF x gs (row,q)).2 (aF x gs (row,q)).1
def Zq (gs:List PO) (row:Row):Row:=ao gs 100 (Nm row) row
def Ui (row:Row) (y:Int) (g:PO):List Int:=
 Ak (Ak ((row.getD y.toNat none).getD []) (g.getD [])) (Bw ((row.getD (Cu (g.getD []) y).toNat none).getD []))
def gN (row:Row) (gs:List PO):List (List Int):=(Nm row).flatMap λy=>gs.map λg=>Ui row y g
def Hw:Nat->Nat->List Int->Fu×Fu->Fu×Fu
 |0,_,_,s=>s
 |k+1,l,p,s=>
  if Oa s.2 (k+1) l p=true then s else
   (gN (Zq (s.1.getD l []++ [some p]) (s.2.getD l [])) (s.1.getD l []++ [some p])).foldl (λs q=>Hw k (l+1) q s)
    (s.1.set l (s.1.getD l []++ [some p]),s.2.set l (Zq (s.1.getD l []++ [some p]) (s.2.getD l [])))
def Fx (l:Nat) (p:List Int):Prop:= ∀i,i<l->ap p i=i
def Gn (n:Nat) (gs:List PO):List Int->Prop:=dP n λg=>some g∈gs
structure Lvl (n l:Nat) (gs:List PO) (row:Row) (H:List Int->Prop):Prop where
 pg: ∀o∈gs,∃g,o=some g/\Pm n g/\Fx l g
 rl:row.length=n
 r0:row.getD l none=some (upto n)
 rt: ∀y t,row.getD y none=some t->Pm n t/\Fx l t/\ap t l=y/\Gn n gs t
 cl: ∀y t g,row.getD y none=some t->some g∈gs->row.getD (ap g y) none≠none
 sg: ∀y t g t',row.getD y none=some t->some g∈gs->row.getD (ap g y) none=some t'->H (Ak (Ak t g) (Bw t'))
def kK (n:Nat):Nat->Nat->Fu×Fu->Prop
 |0,l,s=>s.1.getD l []= []
 |k+1,l,s=>kK n k (l+1) s/\Lvl n l (s.1.getD l []) (s.2.getD l []) (λq=>Oa s.2 k (l+1) q=true)/\ ∀g,some g∈s.1.getD (l+1) []->Gn n (s.1.getD l []) g
theorem Afu {l1 l2:List Nat} (hn:l1.Nodup) (hs: ∀x∈l1,x∈l2) (hl:l2.length<=l1.length): ∀x∈l2,x∈l1:=by
 induction l1 generalizing l2 with
 |nil=>
  intro x hx
  have:l2= []:=Cp (by simpa using hl)
  rw [this] at hx;cases hx
 |cons a l ih=>
  intro x hx
  obtain ⟨h1,h2⟩:=Cm.1 hn
  have ha:=hs a (by simp)
  by_cases e:x=a
  ·subst e;simp
  ·refine As _ (ih (l2:=l2.erase a) h2 (λy hy=>?_) ?_ x ((List.mem_erase_of_ne e).2 hx))
   ·have hya:y≠a:= λe'=>h1 (by rw [<-e'];exact hy)
    exact (List.mem_erase_of_ne hya).2 (hs y (by simp [hy]))
   ·rw [Xk ha]
    simp only [Aw] at hl
    omega
theorem MZ {n:Nat} {g:List Int} (hg:Pm n g) (D:Nat->Bool) (h: ∀y,y<n->D y=true->D (ap g y)=true) {y:Nat} (hy:y<n) (hD:D y=true): ∃x,x<n/\D x=true/\ap g x=y:=by
 have:=Afu (l1:=((List.range n).filter D).map (ap g)) (l2:=(List.range n).filter D) ?_ ?_ (by simp) y (Cl.2 ⟨Fb.2 hy,hD⟩)
 ·obtain ⟨x,hx,e⟩:=Be.1 this
  obtain ⟨h1,h2⟩:=Cl.1 hx
  exact ⟨x,Fb.1 h1,h2,e⟩
 ·refine List.pairwise_map.2 (ik ?_ (List.nodup_range.filter D))
  intro a b ha hb Ip e
  exact Ip (hg.inj (Fb.1 (Cl.1 ha).1) (Fb.1 (Cl.1 hb).1) e)
 ·intro x hx
  obtain ⟨z,hz,rfl⟩:=Be.1 hx
  obtain ⟨h1,h2⟩:=Cl.1 hz
  exact Cl.2 ⟨Fb.2 (hg.lt (Fb.1 h1)),h z (Fb.1 h1) h2⟩
theorem sa {row:Row} {y:Nat} {t:List Int} (h:row.getD y none=some t):y<row.length:=by
 rw [Al] at h
 refine Bs λhn=>?_
 rw [Ds (by omega)] at h
 cases h
theorem Lvl.pms {n l:Nat} {gs:List PO} {row:Row} {H:List Int->Prop} (h:Lvl n l gs row H):PY n λg=>some g∈gs:=by
 refine ⟨?_,λg hg=>?_⟩
 ·have:=(h.rt l _ h.r0).1
  exact ⟨this.n1,this.n2⟩
 ·obtain ⟨g',e,h1,_⟩:=h.pg _ hg
  cases e;exact h1
theorem Fx.inv {n l:Nat} {p:List Int} (hp:Pm n p) (h:Fx l p) (hl:l<=n):Fx l (Bw p):= λi hi=>by
 have:=ka hp (i:=i) (by omega)
 rwa [h i hi] at this
theorem Fx.comp {n l:Nat} {p q:List Int} (hp:Pm n p) (hq:Pm n q) (h1:Fx l p) (h2:Fx l q) (hl:l<=n):Fx l (Ak p q):= λi hi=>by
 rw [Kf hp hq (by omega),h1 i hi,h2 i hi]
theorem Fx.all {n:Nat} {p:List Int} (hp:Pm n p) (h:Fx n p):p=upto n:=hp.ext (Pm.id hp.n1 hp.n2) λi hi=>by rw [h i hi,kX hi]
theorem Fx.div {n l:Nat} {p t:List Int} (hp:Pm n p) (ht:Pm n t) (h1:Fx l p) (h2:Fx l t) (hl:l<n) (e:ap t l=ap p l):Fx (l+1) (Ak p (Bw t)):= λi hi=>by
 rw [Kf hp ht.inv (by omega)]
 by_cases hil:i<l
 ·rw [h1 i hil];exact h2.inv ht (by omega) i hil
 ·have:i=l:=by omega
  subst this
  rw [<-e,ka ht hl]
theorem nQ {n:Nat} (h1:1<=n) (h2:n<=20): ∀(k l:Nat) (s:Fu×Fu),l+k=n->kK n k l s-> ∀p,Pm n p->Fx l p->(Oa s.2 k l p=true↔Gn n (s.1.getD l []) p)
 |0,l,s,hk,hc,p,hp,hf=>by
  have hl:l=n:=by omega
  subst hl
  rw [hf.all hp]
  exact ⟨λ_=> .id,λ_=>rfl⟩
 |k+1,l,s,hk,hc,p,hp,hf=>by
  obtain ⟨c1,c2,c3⟩:=hc
  have hS:=c2.pms
  have ih:=nQ h1 h2 k (l+1) s (by omega) c1
  have hS1:PY n λg=>some g∈s.1.getD (l+1) []:=⟨⟨h1,h2⟩,λg hg=>(c3 g hg).pm hS⟩
  have eY:l<n:=by omega
  constructor
  ·intro h
   simp only [Oa] at h
   rw [show (Cu p (l:Int)).toNat=ap p l from rfl] at h
   split at h
   ·cases h
   ·rename_i t ht
    obtain ⟨t1,t2,t3,t4⟩:=c2.rt _ _ ht
    have hf':=Fx.div hp t1 hf t2 eY t3
    have hg:=((ih _ (hp.comp t1.inv) hf').1 h).trans hS c3
    have:=dP.comp hS hg t4
    rwa [Hx hp t1.inv t1,bY t1,comp_id hp] at this
  ·intro h
   have key: ∀q,Gn n (s.1.getD l []) q-> ∃t,(s.2.getD l []).getD (ap q l) none=some t/\Gn n (s.1.getD (l+1) []) (Ak q (Bw t)):=by
    intro q hq
    induction hq with
    |id=>
     refine ⟨upto n,by rw [kX eY];exact c2.r0,?_⟩
     rw [Aae h1 h2,comp_id (Pm.id h1 h2)]
     exact .id
    | @mul q g hq hg ihq=>
     obtain ⟨t,e1,e2⟩:=ihq
     have hqp:=dP.pm hS hq
     have Xu:=hS.2 _ hg
     obtain ⟨t1,t2,t3,t4⟩:=c2.rt _ _ e1
     cases e3:(s.2.getD l []).getD (ap g (ap q l)) none with
     |none=>exact absurd e3 (c2.cl _ _ _ e1 hg)
     |some t'=>
      obtain ⟨u1,u2,u3,u4⟩:=c2.rt _ _ e3
      have hsg:=c2.sg _ _ _ _ e1 hg e3
      have hfg:Fx (l+1) (Ak (Ak t g) (Bw t')):=Fx.div (t1.comp Xu) u1 (Fx.comp t1 Xu t2 (by obtain ⟨g',e,_,h⟩:=c2.pg _ hg;cases e;exact h) (by omega)) u2 eY (by rw [u3,Kf t1 Xu eY,t3])
      have hgn:=(ih _ ((t1.comp Xu).comp u1.inv) hfg).1 hsg
      refine ⟨t',by rw [Kf hqp Xu eY];exact e3,?_⟩
      have:=dP.comp hS1 e2 hgn
      rwa [show Ak (Ak q (Bw t)) (Ak (Ak t g) (Bw t'))=Ak (Ak q g) (Bw t') by
       rw [Hx hqp t1.inv ((t1.comp Xu).comp u1.inv),Hx t1 Xu u1.inv,<-Hx t1.inv t1 (Xu.comp u1.inv),bY t1,id_comp (Xu.comp u1.inv),Hx hqp Xu u1.inv]] at this
    | @inv q g hq hg ihq=>
     obtain ⟨t,e1,e2⟩:=ihq
     have hqp:=dP.pm hS hq
     have Xu:=hS.2 _ hg
     obtain ⟨t1,t2,t3,t4⟩:=c2.rt _ _ e1
     have hy:ap q l<n:=hqp.lt eY
     obtain ⟨x,hx,hD,he⟩:=MZ Xu (λy=>((s.2.getD l []).getD y none).isSome) (λy hy hd=>by
      obtain ⟨t0,ht0⟩:=Xl.1 hd
      exact Option.ne_none_iff_isSome.1 (c2.cl _ _ _ ht0 hg)) hy (by rw [e1];rfl)
     obtain ⟨t',e3⟩:=Xl.1 hD
     obtain ⟨u1,u2,u3,u4⟩:=c2.rt _ _ e3
     have hsg:=c2.sg _ _ _ _ e3 hg (by rw [he];exact e1)
     have hfg:Fx (l+1) (Ak (Ak t' g) (Bw t)):=Fx.div (u1.comp Xu) t1 (Fx.comp u1 Xu u2 (by obtain ⟨g',e,_,h⟩:=c2.pg _ hg;cases e;exact h) (by omega)) t2 eY (by rw [t3,Kf u1 Xu eY,u3,he])
     have hgn:=dP.zw hS1 ((ih _ ((u1.comp Xu).comp t1.inv) hfg).1 hsg)
     have hax:ap (Bw g) (ap q l)=x:=by rw [<-he,ka Xu hx]
     refine ⟨t',by rw [Kf hqp Xu.inv eY,hax];exact e3,?_⟩
     have:=dP.comp hS1 e2 hgn
     rwa [show Ak (Ak q (Bw t)) (Bw (Ak (Ak t' g) (Bw t)))=Ak (Ak q (Bw g)) (Bw t') by
      rw [inv_mul (u1.comp Xu) t1.inv,inv_inv t1,inv_mul u1 Xu,Hx hqp t1.inv (t1.comp (Xu.inv.comp u1.inv)),<-Hx t1.inv t1 (Xu.inv.comp u1.inv),bY t1,id_comp (Xu.inv.comp u1.inv),Hx hqp Xu.inv u1.inv]] at this
   obtain ⟨t,e1,e2⟩:=key p h
   obtain ⟨t1,t2,t3,t4⟩:=c2.rt _ _ e1
   simp only [Oa]
   rw [show (Cu p (l:Int)).toNat=ap p l from rfl,e1]
   exact (ih _ (hp.comp t1.inv) (Fx.div hp t1 hf t2 eY t3)).2 e2
theorem Vn {α:Type} (xs:List α) (i j:Nat) (x d:α):(xs.set i x).getD j d=if i=j/\i<xs.length then x else xs.getD j d:=by
 rw [Al,Ei,Al]
 by_cases e:i=j
 ·subst e
  by_cases h:i<xs.length
  ·rw [Ab rfl,Ab h,Ab ⟨rfl,h⟩];rfl
  ·rw [Ab rfl,Ai h,Ai (λhh=>h hh.2),Ds (by omega)]
 ·rw [Ai e,Ai (λhh=>e hh.1)]
theorem dP.mono {n:Nat} {S S':List Int->Prop} (h: ∀g,S g->S' g) {p:List Int} (hp:dP n S p):dP n S' p:=by
 induction hp with
 |id=>exact .id
 |mul _ hg ih=>exact .mul ih (h _ hg)
 |inv _ hg ih=>exact .inv ih (h _ hg)
structure Xr (n l:Nat) (gs:List PO) (row:Row):Prop where
 rl:row.length=n
 r0:row.getD l none=some (upto n)
 rt: ∀y t,row.getD y none=some t->Pm n t/\Fx l t/\ap t l=y/\Gn n gs t
def PG (n l:Nat) (gs:List PO):Prop:= ∀o∈gs,∃g,o=some g/\Pm n g/\Fx l g
structure Ext (n l:Nat) (gs:List PO) (row:Row) (q:List Int) (s':Row×List Int):Prop where
 ok:Xr n l gs s'.1
 mono: ∀y t,row.getD y none=some t->s'.1.getD y none=some t
 phi:s'.2.length+Si s'.1=q.length+Si row
 vK: ∀y∈q,y∈s'.2
 new: ∀y∈s'.2,y∈q\/ ∃yn:Nat,y=yn/\s'.1.getD yn none≠none
 src: ∀y:Nat,s'.1.getD y none≠none->row.getD y none≠none\/(y:Int)∈s'.2
theorem Ext.refl {n l:Nat} {gs:List PO} {row:Row} {q:List Int} (h:Xr n l gs row):Ext n l gs row q (row,q):=⟨h,λ_ _ h=>h,rfl,λ_ h=>h,λ_ h=> .inl h,λ_ h=> .inl h⟩
theorem fI {a b:Row} (h: ∀y t,a.getD y none=some t->b.getD y none=some t) {y:Nat} (hy:a.getD y none≠none):b.getD y none≠none:=by
 cases e:a.getD y none with
 |none=>exact absurd e hy
 |some t=>rw [h y t e];simp
theorem Ext.trans {n l:Nat} {gs:List PO} {row:Row} {q:List Int} {s1 s2:Row×List Int} (h:Ext n l gs row q s1) (k:Ext n l gs s1.1 s1.2 s2):Ext n l gs row q s2:=by
 refine ⟨k.ok,λy t e=>k.mono y t (h.mono y t e),k.phi.trans h.phi,λy hy=>k.vK y (h.vK y hy),λy hy=>?_,λy hy=>?_⟩
 ·rcases k.new y hy with h1|h1
  ·rcases h.new y h1 with h2|⟨yn,h2,h3⟩
   ·exact .inl h2
   ·exact .inr ⟨yn,h2,fI k.mono h3⟩
  ·exact .inr h1
 ·rcases k.src y hy with h1|h1
  ·exact (h.src y h1).imp id λh2=>k.vK _ h2
  ·exact .inr h1
theorem UL {row:Row} {i:Nat} {t:List Int} (h:row.getD i none=none) (hi:i<row.length):Si (row.set i (some t))+1=Si row:=by
 unfold Si
 have e:row[i]=none:=by
  rw [Al,Ad hi] at h
  exact h
 have h1:=List.countP_set (p:= λo:PO=>o.isNone) (l:=row) (i:=i) (a:=some t) hi
 have vW:0<row.countP (·.isNone):=List.countP_pos_iff.2 ⟨row[i],Am hi,by rw [e];rfl⟩
 rw [h1,e]
 simp
 omega
theorem Afs {n l:Nat} {gs:List PO} (eY:l<n) (hg:PG n l gs) {row:Row} {q:List Int} (h:Xr n l gs row) {x:Nat} {t:List Int} (hx:row.getD x none=some t) {g:List Int} (ho:some g∈gs):
  Ext n l gs row q (aP (x:Int) (row,q) (some g))/\(aP (x:Int) (row,q) (some g)).1.getD (ap g x) none≠none:=by
 obtain ⟨g',e,Xu,hgf⟩:=hg _ ho
 cases e
 obtain ⟨t1,t2,t3,t4⟩:=h.rt _ _ hx
 have RJ:x<n:=by rw [<-h.rl];exact sa hx
 obtain ⟨a1,a2⟩:=Xu.Re RJ
 unfold aP
 simp only [Dh,a1,Ac]
 cases e:row.getD (ap g x) none with
 |some u=>exact ⟨Ext.refl h,by simp only;rw [e];simp⟩
 |none=>
  simp only [hx,Dh]
  have hl:ap g x<row.length:=by rw [h.rl];exact a2
  have hS:PY n λg=>some g∈gs:=⟨⟨t1.n1,t1.n2⟩,λg eW=>by obtain ⟨g',e,h1,_⟩:=hg _ eW;cases e;exact h1⟩
  have Ay: ∀y,(row.set (ap g x) (some (Ak t g))).getD y none=if ap g x=y/\ap g x<row.length then some (Ak t g) else row.getD y none:= λy=>Vn _ _ _ _ _
  have Ip: ∀y u,row.getD y none=some u->ap g x≠y:= λy u hu e'=>by rw [<-e',e] at hu;cases hu
  refine ⟨⟨⟨by simp [h.rl],?_,λy u hu=>?_⟩,λy u hu=>?_,?_,λy hy=>Bj _ hy,λy hy=>?_,λy hy=>?_⟩,?_⟩
  ·rw [Ay,Ai (λhh=>Ip l _ h.r0 hh.1)];exact h.r0
  ·rw [Ay] at hu
   split at hu
   ·rename_i hc
    cases hu
    exact ⟨t1.comp Xu,Fx.comp t1 Xu t2 hgf (by omega),by rw [Kf t1 Xu eY,t3];exact hc.1, .mul t4 ho⟩
   ·exact h.rt y u hu
  ·show (row.set (ap g x) (some (Ak t g))).getD y none=some u
   rw [Ay,Ai (λhh=>Ip y u hu hh.1)];exact hu
  ·have:=UL (t:=Ak t g) e hl
   simp only [Ax,Aw,Dv]
   omega
  ·rcases Az.1 hy with hy|hy
   ·exact .inl hy
   ·simp only [Af] at hy
    exact .inr ⟨ap g x,hy,by show (row.set (ap g x) (some (Ak t g))).getD (ap g x) none≠none;rw [Ay,Ab ⟨rfl,hl⟩];simp⟩
  ·have hy:(row.set (ap g x) (some (Ak t g))).getD y none≠none:=hy
   rw [Ay] at hy
   split at hy
   ·rename_i hc
    exact .inr (by show (y:Int)∈q++ [(ap g x:Int)];rw [<-hc.1];simp)
   ·exact .inl hy
  ·show (row.set (ap g x) (some (Ak t g))).getD (ap g x) none≠none
   rw [Ay,Ab ⟨rfl,hl⟩];simp
theorem Abn {n l:Nat} {gs:List PO} (eY:l<n) (hg:PG n l gs): ∀(gs':List PO) {row:Row} {q:List Int},(∀o∈gs',o∈gs)->Xr n l gs row-> ∀ {x:Nat} {t:List Int},row.getD x none=some t->
  Ext n l gs row q (aF (x:Int) gs' (row,q))/\ ∀g,some g∈gs'->(aF (x:Int) gs' (row,q)).1.getD (ap g x) none≠none
 | [],row,q,_,h,x,t,hx=>⟨Ext.refl h,λg hg=>by cases hg⟩
 |o::gs',row,q,hs,h,x,t,hx=>by
  obtain ⟨g,rfl,_,_⟩:=hg o (hs o (by simp))
  obtain ⟨e1,e2⟩:=Afs (q:=q) eY hg h hx (hs (some g) (by simp))
  obtain ⟨f1,f2⟩:=Abn eY hg gs' (q:=(aP (x:Int) (row,q) (some g)).2) (λo ho=>hs o (by simp [ho])) e1.ok (e1.mono x t hx)
  have hb:aF (x:Int) (some g::gs') (row,q)=aF (x:Int) gs' ((aP (x:Int) (row,q) (some g)).1,(aP (x:Int) (row,q) (some g)).2):=rfl
  rw [hb]
  refine ⟨e1.trans f1,λg' eW=>?_⟩
  rcases Bb.1 eW with e|eW
  ·cases e;exact fI f1.mono e2
  ·exact f2 g' eW
def SU (gs:List PO) (q:List Int) (row:Row):Prop:=
 (∀y∈q,∃yn:Nat,y=yn/\row.getD yn none≠none)/\ ∀y:Nat,row.getD y none≠none->(y:Int)∈q\/ ∀g,some g∈gs->row.getD (ap g y) none≠none
theorem NQ {n l:Nat} {gs:List PO} (eY:l<n) (hg:PG n l gs) {x:Int} {q:List Int} {row:Row} (h:Xr n l gs row) (hq:SU gs (x::q) row):
  Ext n l gs row q (aF x gs (row,q))/\SU gs (aF x gs (row,q)).2 (aF x gs (row,q)).1/\ ∃(xn:Nat) (t:List Int),x=xn/\row.getD xn none=some t:=by
 obtain ⟨xn,rfl,hx⟩:=hq.1 x (by simp)
 cases e:row.getD xn none with
 |none=>exact absurd e hx
 |some t=>
  obtain ⟨e1,e2⟩:=Abn eY hg gs (q:=q) (λo ho=>ho) h e
  refine ⟨e1,⟨λy hy=>?_,λy hy=>?_⟩,xn,t,rfl,e⟩
  ·rcases e1.new y hy with h1|h1
   ·obtain ⟨yn,h2,h3⟩:=hq.1 y (by simp [h1])
    exact ⟨yn,h2,fI e1.mono h3⟩
   ·exact h1
  ·rcases e1.src y hy with h1|h1
   ·rcases hq.2 y h1 with h2|h2
    ·rcases Bb.1 h2 with h2|h2
     ·have:y=xn:=by omega
      subst this
      exact .inr λg eW=>e2 g eW
     ·exact .inl (e1.vK _ h2)
    ·exact .inr λg eW=>fI e1.mono (h2 g eW)
   ·exact .inl h1
theorem Abu {n l:Nat} {gs:List PO} (eY:l<n) (hg:PG n l gs): ∀(f:Nat) (q:List Int) (row:Row),q.length+Si row<=f->Xr n l gs row->SU gs q row->
  Xr n l gs (ao gs f q row)/\(∀y t,row.getD y none=some t->(ao gs f q row).getD y none=some t)/\ ∀y t g,(ao gs f q row).getD y none=some t->some g∈gs->(ao gs f q row).getD (ap g y) none≠none
 |0,q,row,hf,h,hq=>by
  have:q= []:=Cp (by omega)
  subst this
  exact ⟨h,λ_ _ h=>h,λy t g e eW=>by
   rcases hq.2 y (by rw [show row.getD y none=some t from e];simp) with h1|h1
   ·cases h1
   ·exact h1 g eW⟩
 |f+1,[],row,hf,h,hq=>⟨h,λ_ _ h=>h,λy t g e eW=>by
   rcases hq.2 y (by rw [show row.getD y none=some t from e];simp) with h1|h1
   ·cases h1
   ·exact h1 g eW⟩
 |f+1,x::q,row,hf,h,hq=>by
  obtain ⟨e1,e2,_⟩:=NQ eY hg h hq
  obtain ⟨r1,r2,r3⟩:=Abu eY hg f _ _ (by have:=e1.phi;simp only [Aw] at hf;omega) e1.ok e2
  exact ⟨r1,λy t e=>r2 y t (e1.mono y t e),r3⟩
theorem Ut {row:Row} {y:Int} :y∈Nm row↔ ∃yn:Nat,y=yn/\row.getD yn none≠none:=by
 unfold Nm
 rw [Cl,Lo]
 constructor
 ·rintro ⟨h1,h2⟩
  exact ⟨y.toNat,by omega,Option.ne_none_iff_isSome.2 h2⟩
 ·rintro ⟨yn,rfl,h⟩
  obtain ⟨t,ht⟩:=Ns.1 h
  exact ⟨by have:=sa ht;omega,by simpa using Option.ne_none_iff_isSome.1 h⟩
theorem zW (row:Row):(Nm row).length<=row.length:=by
 unfold Nm
 refine Iq (List.length_filter_le _ _) (by simp [upto])
theorem GX (row:Row):Si row<=row.length:=List.countP_le_length
theorem HE {n l:Nat} {gs:List PO} (eY:l<n) (h2:n<=20) (hg:PG n l gs) {row:Row} (h:Xr n l gs row):
  Xr n l gs (Zq gs row)/\(∀y t,row.getD y none=some t->(Zq gs row).getD y none=some t)/\ ∀y t g,(Zq gs row).getD y none=some t->some g∈gs->(Zq gs row).getD (ap g y) none≠none:=
 Abu eY hg 100 _ _ (by have:=zW row;have:=GX row;have:=h.rl;omega) h ⟨λy hy=>Ut.1 hy,λy hy=> .inl (Ut.2 ⟨y,rfl,hy⟩)⟩
theorem DV {n l:Nat} {gs:List PO} (eY:l<n) (hg:PG n l gs): ∀(f:Nat) (q:List Int) (row:Row),q.length+Si row<=f->Xr n l gs row->SU gs q row->ao gs f q row=ao gs (q.length+Si row) q row
 |0,q,row,hf,_,_=>by
  have:q.length+Si row=0:=by omega
  rw [this]
 |f+1,[],row,hf,_,_=>by
  cases h:([]:List Int).length+Si row with
  |zero=>rfl
  |succ m=>rfl
 |f+1,x::q,row,hf,h,hq=>by
  obtain ⟨e1,e2,_⟩:=NQ eY hg h hq
  have Aep:=e1.phi
  have:(x::q).length+Si row=(q.length+Si row)+1:=by simp only [Aw];omega
  rw [this]
  simp only [ao]
  rw [DV eY hg f _ _ (by simp only [Aw] at hf;omega) e1.ok e2,Aep]
def EA (row:Row):Nat:=row.countP (·.isSome)
theorem xe: ∀(a b:Row),a.length=b.length->(∀y t,a.getD y none=some t->b.getD y none=some t)->EA a<=EA b/\(EA a=EA b->a=b)
 | [],[],_,_=>⟨Aq _,λ_=>rfl⟩
 | [],_::_,h,_=>by simp at h
 |_::_,[],h,_=>by simp at h
 |x::a,y::b,h,hm=>by
  obtain ⟨h1,h2⟩:=xe a b (by simpa using h) λi t e=>by simpa using hm (i+1) t (by simpa using e)
  unfold EA at h1 h2⊢
  cases x with
  |none=>
   cases y with
   |none=>simp only [List.countP_cons];exact ⟨by simpa using h1,λe=>by rw [h2 (by simpa using e)]⟩
   |some u=>
    simp only [List.countP_cons,Option.isSome_none,Option.isSome_some]
    simp only [Oz,Di,Rt]
    exact ⟨by omega,λe=>by omega⟩
  |some t=>
   have:=hm 0 t (by simp)
   simp only [Xx] at this
   subst this
   simp only [List.countP_cons]
   exact ⟨by simpa using h1,λe=>by rw [h2 (by simpa using e)]⟩
def mG (T:Fu):Nat->Nat->Nat
 |0,_=>0
 |k+1,l=>EA (T.getD l [])+mG T k (l+1)
def GBf:Nat->Nat->Fu×Fu->Prop
 |0,_,_=>True
 |k+1,l,s=>GBf k (l+1) s/\(s.1.getD l []).length<=mG s.2 (k+1) l
structure bE (l0:Nat) (s s':Fu×Fu):Prop where
 Apd:s'.1.length=s.1.length
 tP:s'.2.length=s.2.length
 low: ∀i,i<l0->s'.1.getD i []=s.1.getD i []/\s'.2.getD i []=s.2.getD i []
 QP: ∀i o,o∈s.1.getD i []->o∈s'.1.getD i []
 Ach: ∀i y t,(s.2.getD i []).getD y none=some t->(s'.2.getD i []).getD y none=some t
 Akp: ∀i,(s'.2.getD i []).length=(s.2.getD i []).length
theorem bE.refl (l0:Nat) (s:Fu×Fu):bE l0 s s:=⟨rfl,rfl,λ_ _=>⟨rfl,rfl⟩,λ_ _ h=>h,λ_ _ _ h=>h,λ_=>rfl⟩
theorem bE.trans {l0 l1:Nat} {a b c:Fu×Fu} (h:bE l0 a b) (k:bE l1 b c) (hl:l0<=l1):bE l0 a c:=
 ⟨k.Apd.trans h.Apd,k.tP.trans h.tP,λi hi=>⟨(k.low i (by omega)).1.trans (h.low i hi).1,(k.low i (by omega)).2.trans (h.low i hi).2⟩,λi o ho=>k.QP i o (h.QP i o ho),λi y t e=>k.Ach i y t (h.Ach i y t e),λi=>(k.Akp i).trans (h.Akp i)⟩
theorem bE.Jh {l0 l1:Nat} {a b:Fu×Fu} (h:bE l1 a b) (hl:l0<=l1):bE l0 a b:=(bE.refl l0 a).trans h hl
theorem iZ {T T':Fu} : ∀(k l:Nat) (p:List Int),(∀i,l<=i->i<l+k->T'.getD i []=T.getD i [])->Oa T' k l p=Oa T k l p
 |0,_,_,_=>rfl
 |k+1,l,p,h=>by
  simp only [Oa]
  rw [h l (Aq _) (by omega)]
  split
  ·rfl
  ·exact iZ k (l+1) _ λi h1 h2=>h i (by omega) (by omega)
theorem ma {n:Nat} {s s':Fu×Fu} : ∀(k l:Nat),(∀i,l<=i->s'.1.getD i []=s.1.getD i []/\s'.2.getD i []=s.2.getD i [])->kK n k l s->kK n k l s'
 |0,l,h,hc=>by simp only [kK] at hc⊢;rw [(h l (Aq _)).1];exact hc
 |k+1,l,h,hc=>by
  simp only [kK] at hc⊢
  obtain ⟨c1,c2,c3⟩:=hc
  refine ⟨ma k (l+1) (λi hi=>h i (by omega)) c1,?_,?_⟩
  ·rw [(h l (Aq _)).1,(h l (Aq _)).2]
   have e:(λq=>Oa s'.2 k (l+1) q=true)= λq=>Oa s.2 k (l+1) q=true:=funext λq=>by rw [iZ k (l+1) q λi h1 h2=>(h i (by omega)).2]
   rw [e];exact c2
  ·rw [(h (l+1) (by omega)).1,(h l (Aq _)).1];exact c3
theorem xZ {T T':Fu} : ∀(k l:Nat),(∀i,l<=i->T'.getD i []=T.getD i [])->mG T' k l=mG T k l
 |0,_,_=>rfl
 |k+1,l,h=>by simp only [mG];rw [h l (Aq _),xZ k (l+1) λi hi=>h i (by omega)]
theorem tf {s s':Fu×Fu} : ∀(k l:Nat),(∀i,l<=i->s'.1.getD i []=s.1.getD i []/\s'.2.getD i []=s.2.getD i [])->GBf k l s->GBf k l s'
 |0,_,_,_=>trivial
 |k+1,l,h,hg=>⟨tf k (l+1) (λi hi=>h i (by omega)) hg.1,by
  rw [(h l (Aq _)).1,xZ (k+1) l λi hi=>(h i hi).2];exact hg.2⟩
theorem HU {T T':Fu} (hl: ∀i,(T'.getD i []).length=(T.getD i []).length) (hm: ∀i y t,(T.getD i []).getD y none=some t->(T'.getD i []).getD y none=some t):
  ∀(k l:Nat),mG T k l<=mG T' k l/\(mG T k l=mG T' k l-> ∀i,l<=i->i<l+k->T'.getD i []=T.getD i [])
 |0,l=>⟨Aq _,λ_ i h1 h2=>by omega⟩
 |k+1,l=>by
  obtain ⟨h1,h2⟩:=HU hl hm k (l+1)
  obtain ⟨h3,h4⟩:=xe (T.getD l []) (T'.getD l []) (hl l).symm (hm l)
  simp only [mG]
  refine ⟨by omega,λe i g1 g2=>?_⟩
  by_cases hi:i=l
  ·subst hi;exact (h4 (by omega)).symm
  ·exact h2 (by omega) i (by omega) (by omega)
def V (n k l:Nat) (s:Fu×Fu):Prop:=s.1.length=n/\s.2.length=n/\kK n k l s/\GBf k l s
structure Amg (n k l:Nat) (s:Fu×Fu) (p:List Int) (s':Fu×Fu):Prop where
 v:V n k l s'
 grow:bE l s s'
 Ap5:Gn n (s'.1.getD l []) p
 gens: ∀o∈s'.1.getD l [],o∈s.1.getD l []\/o=some p
theorem Lvl.row {n l:Nat} {gs:List PO} {row:Row} {H:List Int->Prop} (h:Lvl n l gs row H):Xr n l gs row:=⟨h.rl,h.r0,h.rt⟩
theorem jB {row:Row} {y:Nat} {t g t':List Int} (h1:row.getD y none=some t) (h2:row.getD (ap g y) none=some t'):Ui row (y:Int) (some g)=Ak (Ak t g) (Bw t'):=by
 unfold Ui
 rw [Ac,h1,Dh,Dh,show (Cu g (y:Int)).toNat=ap g y from rfl,h2,Dh]
theorem pz {n l:Nat} {gs:List PO} {row:Row} (hg:PG n l gs) (_h:Xr n l gs row) (hc: ∀y t g,row.getD y none=some t->some g∈gs->row.getD (ap g y) none≠none) {q:List Int} :
  q∈gN row gs↔ ∃(y:Nat) (t g t':List Int),row.getD y none=some t/\some g∈gs/\row.getD (ap g y) none=some t'/\q=Ak (Ak t g) (Bw t'):=by
 unfold gN
 rw [Gj]
 constructor
 ·rintro ⟨y,hy,hq⟩
  obtain ⟨o,ho,rfl⟩:=Be.1 hq
  obtain ⟨yn,rfl,hyn⟩:=Ut.1 hy
  obtain ⟨t,ht⟩:=Ns.1 hyn
  obtain ⟨g,rfl,Xu,_⟩:=hg o ho
  obtain ⟨t',qA⟩:=Ns.1 (hc yn t g ht ho)
  exact ⟨yn,t,g,t',ht,ho,qA,jB ht qA⟩
 ·rintro ⟨y,t,g,t',h1,h2,h3,rfl⟩
  obtain ⟨g',e,Xu,_⟩:=hg _ h2
  cases e
  exact ⟨(y:Int),Ut.2 ⟨y,rfl,by rw [h1];simp⟩,Be.2 ⟨some g,h2,jB h1 h3⟩⟩
theorem yL {n:Nat} (h1:1<=n) (h2:n<=20): ∀(k l:Nat) (p:List Int) (s:Fu×Fu),l+k=n->V n k l s->Pm n p->Fx l p->Amg n k l s p (Hw k l p s)
 |0,l,p,s,hk,hv,hp,hf=>by
  have hl:l=n:=by omega
  subst hl
  exact ⟨hv,bE.refl _ _,by rw [hf.all hp];exact .id,λo ho=> .inl ho⟩
 |k+1,l,p,s,hk,hv,hp,hf=>by
  have eY:l<n:=by omega
  obtain ⟨v1,v2,hc,XK⟩:=hv
  have kO:=hc
  obtain ⟨c1,c2,c3⟩:=hc
  unfold Hw
  by_cases hh:Oa s.2 (k+1) l p=true
  ·rw [Ab hh]
   exact ⟨⟨v1,v2,kO,XK⟩,bE.refl _ _,(nQ h1 h2 (k+1) l s hk kO p hp hf).1 hh,λo ho=> .inl ho⟩
  rw [Ai hh]
  generalize QV:s.1.getD l []++ [some p]=gs
  have dy:some p∈gs:=by rw [<-QV];simp
  have Oe: ∀o∈s.1.getD l [],o∈gs:= λo ho=>by rw [<-QV];exact Bj _ ho
  have hg:PG n l gs:= λo ho=>by
   rw [<-QV] at ho
   rcases Az.1 ho with ho|ho
   ·exact c2.pg o ho
   ·rw [Af] at ho;exact ⟨p,ho,hp,hf⟩
  have Aoe:Xr n l gs (s.2.getD l []):=⟨c2.rl,c2.r0,λy t e=>⟨(c2.rt y t e).1,(c2.rt y t e).2.1,(c2.rt y t e).2.2.1,(c2.rt y t e).2.2.2.mono λg hg=>Oe _ hg⟩⟩
  obtain ⟨r1,r2,r3⟩:=HE eY h2 hg Aoe
  generalize hR:Zq gs (s.2.getD l [])=R at r1 r2 r3
  have hS:PY n λg=>some g∈gs:=⟨⟨h1,h2⟩,λg eW=>by obtain ⟨g',e,h,_⟩:=hg _ eW;cases e;exact h⟩
  have s11: ∀i,((s.1.set l gs).getD i []=if i=l then gs else s.1.getD i [])/\(s.2.set l R).getD i []=if i=l then R else s.2.getD i []:= λi=>by
   rw [Vn,Vn]
   by_cases e:l=i
   ·subst e;rw [Ab ⟨rfl,by omega⟩,Ab rfl,Ab ⟨rfl,by omega⟩,Ab rfl];exact ⟨rfl,rfl⟩
   ·rw [Ai (λhh=>e hh.1),Ai (Gv e),Ai (λhh=>e hh.1),Ai (Gv e)];exact ⟨rfl,rfl⟩
  have hup: ∀i,l+1<=i->(s.1.set l gs).getD i []=s.1.getD i []/\(s.2.set l R).getD i []=s.2.getD i []:= λi hi=>by
   rw [(s11 i).1,(s11 i).2,Ai (by omega),Ai (by omega)];exact ⟨rfl,rfl⟩
  have kS:V n k (l+1) (s.1.set l gs,s.2.set l R):=⟨by simpa using v1,by simpa using v2,ma k (l+1) hup c1,tf k (l+1) hup XK.1⟩
  have Aj2:bE l s (s.1.set l gs,s.2.set l R):=by
   refine ⟨by simp,by simp,λi hi=>?_,λi o ho=>?_,λi y t e=>?_,λi=>?_⟩
   ·rw [(s11 i).1,(s11 i).2,Ai (by omega),Ai (by omega)];exact ⟨rfl,rfl⟩
   ·rw [(s11 i).1]
    split
    ·rename_i hi;subst hi;exact Oe o ho
    ·exact ho
   ·rw [(s11 i).2]
    split
    ·rename_i hi;subst hi;exact r2 y t e
    ·exact e
   ·rw [(s11 i).2]
    split
    ·rename_i hi;subst hi;rw [r1.rl,c2.rl]
    ·rfl
  have hq: ∀q∈gN R gs,Pm n q/\Fx (l+1) q/\Gn n gs q:= λq hq=>by
   obtain ⟨y,t,g,t',e1,e2,e3,rfl⟩:=(pz hg r1 r3).1 hq
   obtain ⟨t1,t2,t3,t4⟩:=r1.rt _ _ e1
   obtain ⟨u1,u2,u3,u4⟩:=r1.rt _ _ e3
   obtain ⟨g',e,Xu,hgf⟩:=hg _ e2
   cases e
   exact ⟨(t1.comp Xu).comp u1.inv,Fx.div (t1.comp Xu) u1 (Fx.comp t1 Xu t2 hgf (by omega)) u2 eY (by rw [u3,Kf t1 Xu eY,t3]),dP.comp hS (.mul t4 e2) (dP.zw hS u4)⟩
  have fold: ∀(qs:List (List Int)) (s1:Fu×Fu),(∀q∈qs,Pm n q/\Fx (l+1) q)->V n k (l+1) s1->
    V n k (l+1) (qs.foldl (λs q=>Hw k (l+1) q s) s1)/\bE (l+1) s1 (qs.foldl (λs q=>Hw k (l+1) q s) s1)/\
     (∀q∈qs,Gn n ((qs.foldl (λs q=>Hw k (l+1) q s) s1).1.getD (l+1) []) q)/\ ∀o∈(qs.foldl (λs q=>Hw k (l+1) q s) s1).1.getD (l+1) [],o∈s1.1.getD (l+1) []\/ ∃q∈qs,o=some q:=by
   intro qs
   induction qs with
   |nil=>exact λs1 _ hv=>⟨hv,bE.refl _ _,(λq hq=>by cases hq),λo ho=>Or.inl ho⟩
   |cons q qs ih=>
    intro s1 hqs hv
    have ha:=yL h1 h2 k (l+1) q s1 (by omega) hv (hqs q (by simp)).1 (hqs q (by simp)).2
    obtain ⟨g1,g2,g3,g4⟩:=ih (Hw k (l+1) q s1) (λq' km=>hqs q' (by simp [km])) ha.v
    simp only [Rd]
    refine ⟨g1,ha.grow.trans g2 (Aq _),λq' km=>?_,λo ho=>?_⟩
    ·rcases Bb.1 km with rfl|km
     ·exact ha.Ap5.mono λg hg=>g2.QP _ _ hg
     ·exact g3 q' km
    ·rcases g4 o ho with h|⟨q',km,h⟩
     ·rcases ha.gens o h with h|h
      ·exact .inl h
      ·exact .inr ⟨q,by simp,h⟩
     ·exact .inr ⟨q',by simp [km],h⟩
  obtain ⟨f1,f2,f3,f4⟩:=fold (gN R gs) (s.1.set l gs,s.2.set l R) (λq h=>⟨(hq q h).1,(hq q h).2.1⟩) kS
  generalize (gN R gs).foldl (λs q=>Hw k (l+1) q s) (s.1.set l gs,s.2.set l R)=s' at f1 f2 f3 f4
  obtain ⟨w1,w2,w3,w4⟩:=f1
  have el1:s'.1.getD l []=gs:=by rw [(f2.low l (by omega)).1,(s11 l).1,Ab rfl]
  have el2:s'.2.getD l []=R:=by rw [(f2.low l (by omega)).2,(s11 l).2,Ab rfl]
  have ZN:=Aj2.trans f2 (by omega)
  have Aub:Lvl n l gs R (λq=>Oa s'.2 k (l+1) q=true):=⟨hg,r1.rl,r1.r0,r1.rt,r3,λy t g t' e1 e2 e3=>by
   have hm:=(pz hg r1 r3).2 ⟨y,t,g,t',e1,e2,e3,rfl⟩
   exact (nQ h1 h2 k (l+1) s' (by omega) w3 _ (hq _ hm).1 (hq _ hm).2.1).2 (f3 _ hm)⟩
  have Agz:kK n (k+1) l s':=⟨w3,by rw [el1,el2];exact Aub,λg eW=>by
   rw [el1]
   rcases f4 _ eW with h|⟨q,km,h⟩
   ·rw [(hup (l+1) (Aq _)).1] at h
    exact (c3 g h).mono λg hg=>Oe _ hg
   ·cases h;exact (hq _ km).2.2⟩
  have Oj:Gn n (s'.1.getD l []) p:=by rw [el1];exact dP.one hS dy
  refine ⟨⟨w1,w2,Agz,w4,?_⟩,ZN,Oj,λo ho=>?_⟩
  ·have hold:=XK.2
   obtain ⟨p1,p2⟩:=HU ZN.Akp ZN.Ach (k+1) l
   have Ip:mG s.2 (k+1) l≠mG s'.2 (k+1) l:= λe=>by
    have:=iZ (k+1) l p (p2 e)
    rw [(nQ h1 h2 (k+1) l s' hk Agz p hp hf).2 Oj] at this
    exact hh this.symm
   rw [el1,<-QV,Ax,Bn]
   omega
  ·rw [el1,<-QV] at ho
   rcases Az.1 ho with ho|ho
   ·exact .inl ho
   ·rw [Af] at ho;exact .inr ho
theorem Abi {n l:Nat} {gs:List PO} {R:Row} (eY:l<n) (hg:PG n l gs) (r1:Xr n l gs R) (r3: ∀y t g,R.getD y none=some t->some g∈gs->R.getD (ap g y) none≠none): ∀q∈gN R gs,Pm n q/\Fx (l+1) q:=by
 intro q hq
 obtain ⟨y,t,g,t',e1,e2,e3,rfl⟩:=(pz hg r1 r3).1 hq
 obtain ⟨t1,t2,t3,t4⟩:=r1.rt _ _ e1
 obtain ⟨u1,u2,u3,u4⟩:=r1.rt _ _ e3
 obtain ⟨g',e,Xu,hgf⟩:=hg _ e2
 cases e
 exact ⟨(t1.comp Xu).comp u1.inv,Fx.div (t1.comp Xu) u1 (Fx.comp t1 Xu t2 hgf (by omega)) u2 eY (by rw [u3,Kf t1 Xu eY,t3])⟩
theorem V.lower {n k l:Nat} {s:Fu×Fu} (h:V n (k+1) l s) (gs:List PO) (R:Row):V n k (l+1) (s.1.set l gs,s.2.set l R):=by
 obtain ⟨v1,v2,hc,XK⟩:=h
 have hup: ∀i,l+1<=i->(s.1.set l gs).getD i []=s.1.getD i []/\(s.2.set l R).getD i []=s.2.getD i []:= λi hi=>by
  rw [Vn,Vn,Ai (by omega),Ai (by omega)];exact ⟨rfl,rfl⟩
 exact ⟨by simpa using v1,by simpa using v2,ma k (l+1) hup hc.1,tf k (l+1) hup XK.1⟩
theorem QL {n k l:Nat} (h1:1<=n) (h2:n<=20) (hk:l+k=n): ∀(qs:List (List Int)) (s1:Fu×Fu),(∀q∈qs,Pm n q/\Fx l q)->V n k l s1->
  V n k l (qs.foldl (λs q=>Hw k l q s) s1)/\bE l s1 (qs.foldl (λs q=>Hw k l q s) s1)
 | [],s1,_,hv=>⟨hv,bE.refl _ _⟩
 |q::qs,s1,hqs,hv=>by
  have ha:=yL h1 h2 k l q s1 hk hv (hqs q (by simp)).1 (hqs q (by simp)).2
  obtain ⟨g1,g2⟩:=QL h1 h2 hk qs (Hw k l q s1) (λq' km=>hqs q' (by simp [km])) ha.v
  exact ⟨g1,ha.grow.trans g2 (Aq _)⟩
theorem Abm {n:Nat} {s:Fu×Fu} : ∀(k l:Nat),kK n k l s->mG s.2 k l<=n*k
 |0,_,_=>by simp [mG]
 |k+1,l,hc=>by
  have h1:=Abm k (l+1) hc.1
  have h2:EA (s.2.getD l [])<=n:=by
   have:=hc.2.1.rl
   have h3:EA (s.2.getD l [])<=(s.2.getD l []).length:=List.countP_le_length
   omega
  simp only [mG]
  rw [Nat.mul_succ]
  omega
theorem Ae8 {n k l:Nat} {s:Fu×Fu} (h2:n<=20) (hk:l+(k+1)=n) (h:V n (k+1) l s):(s.1.getD l []).length<=400:=by
 have h3:=h.2.2.2.2
 have h4:=Abm (k+1) l h.2.2.1
 have h5:n*(k+1)<=20*20:=Nat.mul_le_mul h2 (by omega)
 omega
theorem V.lvl {n k l:Nat} {s:Fu×Fu} (h:V n (k+1) l s):Lvl n l (s.1.getD l []) (s.2.getD l []) (λq=>Oa s.2 k (l+1) q=true):=h.2.2.1.2.1
theorem V.pg {n k l:Nat} {s:Fu×Fu} (h:V n (k+1) l s) {p:List Int} (hp:Pm n p) (hf:Fx l p):PG n l (s.1.getD l []++ [some p]):= λo ho=>by
 rcases Az.1 ho with ho|ho
 ·exact h.lvl.pg o ho
 ·rw [Af] at ho;exact ⟨p,ho,hp,hf⟩
theorem V.Avi {n k l:Nat} {s:Fu×Fu} (h:V n (k+1) l s) (p:List Int):Xr n l (s.1.getD l []++ [some p]) (s.2.getD l []):=
 ⟨h.lvl.rl,h.lvl.r0,λy t e=>⟨(h.lvl.rt y t e).1,(h.lvl.rt y t e).2.1,(h.lvl.rt y t e).2.2.1,(h.lvl.rt y t e).2.2.2.mono λ_ hg=>Bj _ hg⟩⟩
theorem wz {α:Type} (xs:List (List α)) (i:Nat) (h:i<xs.length):xs.set i (xs.getD i [])=xs:=by
 refine List.ext_getElem (by simp) λj h1 h2=>?_
 rw [List.getElem_set]
 split
 ·rename_i e;subst e;rw [Al,Ad h];rfl
 ·rfl
theorem lf {α:Type} (xs:List (List α)) (i:Nat) (h:i<xs.length) (r:List α):(xs.set i r).getD i []=r:=by
 rw [Vn,Ab ⟨rfl,h⟩]
noncomputable abbrev Qw:MSpec:=mA [none] [(false, .Gw tLO)] false [none] [.row tI 2] (λx=>List.length x.1<=20) (λx=>((Nm x.1,()),()))
noncomputable abbrev Yt:Spec:=Hg (.pair tL (.pair tL .unit)) tO false true (λx=>(0<x.1.length/\x.1.length<=20)/\Sd x.2.1.length x.1) (λx=>some (Ak x.1 x.2.1))
noncomputable abbrev fX:Spec:=Hg (.pair tL (.pair tL .unit)) tL false false (λx=>x.1.length<=20/\Sd x.2.1.length x.1) (λx=>Ak x.1 x.2.1)
noncomputable abbrev Vu:Spec:=Hg (.pair tI .unit) tL false true (λx=>0<=x.1/\x.1<=20) (λx=>upto x.1.toNat)
noncomputable abbrev da:Spec:=Hg (.pair tI .unit) tO false true (λx=>1<=x.1/\x.1<=20) (λx=>some (upto x.1.toNat))
abbrev teG:TypeId:=27
structure so (N L:Nat) (n:Int) (G T:Fu) (l:Int) (p:List Int):Prop where
 n1:1<=N
 n2:N<=20
 en:n=N
 el:l=L
 le:L<=N
 v:V N (N-L) L (G,T)
 pm:Pm N p
 fx:Fx L p
noncomputable abbrev yi:Spec:=Hg (.pair (.ptr BZ) (.pair tI (.pair tL .unit))) .bool false true (λx=> ∃N L,so N L x.1.1 x.1.2.1 x.1.2.2.1 x.2.1 x.2.2.1) (λx=>Oa x.1.2.2.1 (x.1.1-x.2.1).toNat x.2.1.toNat x.2.2.1)
noncomputable abbrev Ahw:MSpec:= {ptr:=some (198,3),Jy:= [none,none],ins:= [(false, .Gw tI),(false, .Bu tO teG true),(false, .Bu tO teG true),(false, .Gw tI),(false, .Gw tO)],Ij:=false,Iu:= [],outs:= [.Gw tI, .Bu tO teG false, .Bu tO teG false],fn:= λ_=>none,keeps:= [(1,1),(2,2)],Fz:= λx=>x.2.2.2.1.toNat}
noncomputable abbrev Xa (m:Nat):MSpec:=oP Ahw (λx=>(∃N L q,x.2.2.2.2.1=some q/\so N L x.1 x.2.1 x.2.2.1 x.2.2.2.1 q)/\(x.1-x.2.2.2.1).toNat<m)
 (λx=>((x.1,(Hw (x.1-x.2.2.2.1).toNat x.2.2.2.1.toNat (x.2.2.2.2.1.getD []) (x.2.1,x.2.2.1)).1,(Hw (x.1-x.2.2.2.1).toNat x.2.2.2.1.toNat (x.2.2.2.2.1.getD []) (x.2.1,x.2.2.1)).2,()),()))
theorem JF (n:Int) (P:List Int->Prop):(((0:Int)<=n/\n<(↑Dt:Int)+(1:Int))/\n=n/\0=0/\(List.replicate n.toNat (Int.ofNat (nat_lit 0))).length=(List.replicate n.toNat (Int.ofNat (nat_lit 0))).length/\Ea (λ(v2:Int×List Int×PUnit) (k3:Int×List Int×PUnit->Prop)=>Br (decide (v2.1<(↑(List.replicate n.toNat (Int.ofNat (nat_lit 0))).length:Int))) (((0:Int)<=v2.1/\v2.1<(↑v2.2.1.length:Int))/\0+v2.1.toNat<v2.2.1.length/\0=0/\v2.2.1.length=(v2.2.1.set (0+v2.1.toNat) v2.1).length/\k3 (IntKind.i64.wrap (v2.1+(1:Int)),v2.2.1.set (0+v2.1.toNat) v2.1,())) (P (List.take v2.2.1.length (List.drop 0 v2.2.1)))) ((0:Int),List.replicate n.toNat (Int.ofNat (nat_lit 0)),PUnit.unit))=fnW Gz (look []) Vu Try.f120 (n,()) P:=by kernel_rfl
theorem WW (row:List (Option (List Int))) (P:(List Int×Unit)×Unit->Prop):(0=0/\0=([]:List Int).length/\Ea (λ(v2:Int×List Int×PUnit) (k3:Int×List Int×PUnit->Prop)=>Br (decide (v2.1<(↑row.length:Int))) (∃(y4:Option (List Int)),idx row v2.1=some y4/\Br (!y4.isNone) (0=0/\v2.2.1.length=v2.2.1.length/\v2.2.1.length+(List.take 1 (List.drop 0 [v2.1])).length<=Dt/\0=0/\(v2.2.1++List.take 1 (List.drop 0 [v2.1])).length=(v2.2.1++List.take 1 (List.drop 0 [v2.1])).length/\k3 (IntKind.i64.wrap (v2.1+(1:Int)),v2.2.1++List.take 1 (List.drop 0 [v2.1]),())) (0=0/\v2.2.1.length=v2.2.1.length/\k3 (IntKind.i64.wrap (v2.1+(1:Int)),v2.2.1,()))) (P ((List.take v2.2.1.length (List.drop 0 v2.2.1),()),()))) ((0:Int),[],PUnit.unit))=fnMW bh (look []) Qw Try.f213 (row,()) P:=by kernel_rfl
theorem Aq7 (c:Int×List (List (Option (List Int)))×List (List (Option (List Int)))×Unit) (l:Int) (p:List Int) (P:Bool->Prop):(Ea (λ(v4:List Int×Int×PUnit) (k5:List Int×Int×PUnit->Prop)=>Br (decide (v4.2.1<c.1)) (∃(y6:List (Option (List Int))),idx c.2.2.1 v4.2.1=some y6/\ ∃(y7:Int),idx v4.1 v4.2.1=some y7/\ ∃(y8:Option (List Int)),idx y6 y7=some y8/\Br y8.isNone (P false) (∃(y9:List Int),Hs.fn (y8.getD [],())=some y9/\ ∃(aC:List Int),fX.fn (v4.1,y9,())=some aC/\k5 (aC,IntKind.i64.wrap (v4.2.1+(1:Int)),()))) (P true)) (p,l,PUnit.unit))=fnW bh (look [(143,Hs),(142,fX)]) yi Try.f229 (c,l,p,()) P:=by kernel_rfl
theorem Sound.loose {P:Program} {f:FuncId} {arg res:Ty} {pre:arg.den->Prop} {val:arg.den->res.den} (h:Sound P f (Go.Proofs.Ytkkdpknjohcekaa.Hg arg res false true pre val)):Sound P f (Go.Proofs.Ytkkdpknjohcekaa.Hg arg res false false pre val):=
 ⟨h.enter,λw S vs x y h1 h2 h3=>Calls.mono (h.calls w S vs x y h1 h2 h3) λe' w' hr=>by
  obtain ⟨v,g1,g2,g3⟩:=hr
  exact ⟨v,g1,g2,Dc.Jh (S:= λb=>S b\/(true=true/\b<w.heap.size)) g3 λk _ hk=>hk.elim .inl λhh=>absurd (show false=true from hh.1) (by simp)⟩⟩
theorem uI:Sound Try.prog 142 fX:=Sound.loose Xd
theorem uJ:Sound Try.prog 142 Yt:=Sound.toO Xd λx h=>⟨⟨h.1.2,h.2⟩,λe=>by
 have:=Rw x.1 x.2.1
 rw [e] at this
 have:=h.1.1
 simp only [Dv] at*
 omega⟩
theorem HH (n:Int) (h:0<=n/\n<=20):fnW Gz (look []) Vu Try.f120 (n,()) (λ(z:List Int)=>z=upto n.toNat):=by
 refine Eq.mp (JF n _) ⟨⟨by omega,by show n<(4294967296:Int)+1;omega⟩,rfl,rfl,rfl,?_⟩
 refine Cg n.toNat (λv=>v.1) (λj v=>v.2.1.length=n.toNat/\v.2.1.take j=upto j) rfl ⟨by simp,by simp [upto]⟩ ?_
 rintro j ⟨i,ys,⟨⟩⟩ K hj hi ⟨h1,h2⟩ hK
 dsimp only at hi h1 h2⊢
 subst hi
 rw [Ep]
 simp only [Ac,Bk]
 refine Br.dec (λhl=>⟨⟨by omega,by omega⟩,by omega,trivial,by rw [Bv],?_⟩) λhl=>?_
 ·rw [Cb (by omega)]
  refine hK (by omega) _ rfl ⟨by rw [Bv];exact h1,?_⟩
  rw [Kc,List.take_set_of_le (by omega),h2,aE (by omega),bC]
  rfl
 ·have:j=ys.length:=by omega
  subst this
  rw [Bh] at h2
  rw [Du,Bh,h2,h1]
theorem gU:Sound Try.prog 120 Vu:=
 Sound.Hg Ff Cc mixed Try.func120 (by kernel_rfl) (by kernel_rfl) λx h=>HH x.1 h
theorem Ag1 {n:Int} (h:1<=n/\n<=20):(0<=n/\n<=20)/\upto n.toNat≠ []:=⟨by omega,λe=>by
 have:=Dm List.length e
 simp [upto] at this
 omega⟩
theorem rQ:Sound Try.prog 120 da:=Sound.toO gU λ_ h=>Ag1 h
theorem HD {row:Row} {j:Nat} :(upto (j+1)).filter (λy=>(row.getD y.toNat none).isSome)=(upto j).filter (λy=>(row.getD y.toNat none).isSome)++if (row.getD j none).isSome=true then [(j:Int)] else []:=by
 rw [bC,List.filter_append]
 congr 1
 simp only [List.filter_cons,List.filter_nil,Ac]
theorem VB (row:List (Option (List Int))) (h:List.length row<=20):fnMW bh (look []) Qw Try.f213 (row,()) (λ(z:(List Int×Unit)×Unit)=>z=((Nm row,()),())):=by
 refine Eq.mp (WW row _) ⟨rfl,rfl,?_⟩
 refine Cg row.length (λv=>v.1) (λj v=>v.2.1=(upto j).filter (λy=>(row.getD y.toNat none).isSome)) rfl rfl ?_
 rintro j ⟨i,ys,⟨⟩⟩ K hj hi h1 hK
 dsimp only at hi h1⊢
 subst hi
 refine Br.dec (λhl=>?_) λhl=>?_
 ·have hl:j<row.length:=by omega
  have hlen:ys.length<=j:=by rw [h1];refine Iq (List.length_filter_le _ _) (by simp [upto])
  have hg:row.getD j none=row[j]:=by rw [Al,Ad hl];rfl
  refine ⟨_,Cf hl,Br.of (λhb=>⟨rfl,rfl,?_,rfl,rfl,?_⟩) λhb=>⟨rfl,rfl,?_⟩⟩
  ·show ys.length+1<=4294967296
   omega
  ·rw [Cb (by omega)]
   refine hK hl _ rfl ?_
   show ys++ [(j:Int)]=_
   rw [HD,hg,h1,Ab (by cases e:row[j] with
    |none=>rw [e] at hb;simp at hb
    |some t=>rfl)]
  ·rw [Cb (by omega)]
   refine hK hl _ rfl ?_
   show ys=_
   rw [HD,hg,h1,Ai (by cases e:row[j] with
    |none=>simp
    |some t=>rw [e] at hb;simp at hb),List.append_nil]
 ·have:j=row.length:=by omega
  subst this
  rw [Du,Bh,h1]
  rfl
theorem lD:Dx Try.prog 213 Qw:=
 Dx.mA q6 Cc mixed Try.func213 (by kernel_rfl) (by kernel_rfl) λx h=>VB x.1 h
theorem nq {n:Nat} {s:Fu×Fu} : ∀(k l:Nat),kK n k l s-> ∀i,l<=i->i<l+k->Lvl n i (s.1.getD i []) (s.2.getD i []) (λq=>Oa s.2 (l+k-i-1) (i+1) q=true)
 |0,_,_,i,h1,h2=>by omega
 |k+1,l,hc,i,h1,h2=>by
  obtain ⟨c1,c2,_⟩:=hc
  by_cases e:i=l
  ·subst e
   rw [show i+(k+1)-i-1=k by omega]
   exact c2
  ·have:=nq k (l+1) c1 i (by omega) (by omega)
   rwa [show l+1+k-i-1=l+(k+1)-i-1 by omega] at this
theorem FA {α:Type} {xs:List (List α)} {i:Nat} (h:i<xs.length):xs.getD i []=xs[i]:=by
 rw [Al,Ad h];rfl
theorem ZB {α:Type} {xs:List (Option α)} {i:Nat} (h:i<xs.length):xs.getD i none=xs[i]:=by
 rw [Al,Ad h];rfl
theorem Pm.row {n:Nat} {p:List Int} (h:Pm n p):Sd n p:=by
 have:=h.2.row
 rwa [h.1] at this
theorem Apo (c:Int×List (List (Option (List Int)))×List (List (Option (List Int)))×Unit) (l:Int) (p:List Int) (h: ∃N L,so N L c.1 c.2.1 c.2.2.1 l p):
  fnW bh (look [(143,Hs),(142,fX)]) yi Try.f229 (c,l,p,()) (λ(z:Bool)=>z=Oa c.2.2.1 (c.1-l).toNat l.toNat p):=by
 obtain ⟨n,G,T,⟨⟩⟩:=c
 obtain ⟨N,L,h⟩:=h
 obtain ⟨n1,n2,en,el,hle,v,pm,fx⟩:=h
 dsimp only at en el v⊢
 subst en el
 refine Eq.mp (Aq7 ((N:Int),G,T,()) (L:Int) p _) ?_
 obtain ⟨v1,v2,v3,v4⟩:=v
 dsimp only at v1 v2
 refine ⟨λv=> ∃i:Nat,L<=i/\i<=N/\v.2.1=i/\Pm N v.1/\Fx i v.1/\Oa T (N-i) i v.1=Oa T (N-L) L p,λv=>N-v.2.1.toNat,⟨L,Aq _,hle,rfl,pm,fx,rfl⟩,?_⟩
 rintro ⟨p',i',⟨⟩⟩ ⟨i,h1,h2,h3,h4,h5,h6⟩
 dsimp only at h3 h4 h5 h6⊢
 subst h3
 rw [show (((N:Int)-(L:Int)).toNat)=N-L by omega,show ((L:Int)).toNat=L by omega,<-h6]
 refine Br.dec (λhl=>?_) λhl=>?_
 ·have hl:i<N:=by omega
  have Su:=nq (N-L) L v3 i h1 (by omega)
  obtain ⟨a1,a2⟩:=h4.Re hl
  have hT:i<T.length:=by omega
  have hlen:T[i].length=N:=by have:=Su.rl;dsimp only at this;rwa [FA hT] at this
  refine ⟨_,Cf hT,_,Cf (by rw [h4.1];exact hl),?_⟩
  have e1:p'[i]'(by rw [h4.1];exact hl)=(ap p' i:Int):=by rw [<-a1,Ku]
  rw [e1]
  refine ⟨_,Cf (by omega),?_⟩
  have e2:N-i=(N-i-1)+1:=by omega
  have e3:(T.getD i []).getD (Cu p' (i:Int)).toNat none=T[i][ap p' i]'(by omega):=by
   rw [FA hT];exact ZB (by show ap p' i<_;omega)
  rw [e2]
  simp only [Oa,e3]
  refine Br.of (λhb=>?_) λhb=>?_
  ·cases e:T[i][ap p' i]'(by omega) with
   |none=>rfl
   |some t=>rw [e] at hb;simp at hb
  ·cases e:T[i][ap p' i]'(by omega) with
   |none=>rw [e] at hb;simp at hb
   |some t=>
    have ht:(T.getD i []).getD (ap p' i) none=some t:=by rw [<-e];exact e3
    obtain ⟨t1,t2,t3,t4⟩:=Su.rt _ _ ht
    simp only [Dh]
    refine ⟨_,Ab ⟨by show t.length<=20;rw [t1.1];exact n2,t1.2.row⟩,_,Ab ⟨by show p'.length<=20;rw [h4.1];exact n2,by show Sd (Bw t).length p';rw [sj,t1.1];exact h4.row⟩,⟨i+1,by omega,by omega,Cb (by omega),h4.comp t1.inv,Fx.div h4 t1 h5 t2 hl t3,?_⟩,?_⟩
    ·rw [show N-(i+1)=N-i-1 by omega]
    ·show N-(IntKind.i64.wrap ((i:Int)+1)).toNat<N-((i:Int)).toNat
     rw [Cb (by omega)]
     omega
 ·rw [show N-i=0 by omega]
  rfl
theorem VU:Sound Try.prog 229 yi:=
 Sound.Hg q6 (Ba Xe (Ba uI Cc)) mixed Try.func229 (by kernel_rfl) (by kernel_rfl) λx h=>Apo x.1 x.2.1 x.2.2.1 h
abbrev BW:Type:=Nat×Nat×Int×List (List (Option (List Int)))×Nat×List (List (Option (List Int)))×Nat×List Int×Int×PUnit
abbrev Ac4:Type:=Nat×Int×List (List (Option (List Int)))×Nat×List (List (Option (List Int)))×Nat×List Int×Int×PUnit
abbrev Ac7:Type:=Nat×List (List (Option (List Int)))×Nat×List (List (Option (List Int)))×Nat×List Int×Int×PUnit
abbrev Lz (G:List (List (Option (List Int)))) (l:Int) (p:Option (List Int)) (T:List (List (Option (List Int)))) (y7:Bool) (n:Int):Prop:=0=0/\(G.getD (0+l.toNat) []).length=(G.getD (0+l.toNat) []).length/\(G.getD (0+l.toNat) []).length+(List.take 1 (List.drop 0 [p])).length<=Dt/\((0:Int)<=l/\l<(↑G.length:Int))/\0=0/\(G.getD (0+l.toNat) []++List.take 1 (List.drop 0 [p])).length=(G.getD (0+l.toNat) []++List.take 1 (List.drop 0 [p])).length/\0+l.toNat=0+l.toNat/\ [(0,G.length),(0,G.length),(0,G.length),(0,T.length)]= [(0,G.length),(0,G.length),(0,G.length),(0,T.length)]/\(l,p,l,p,y7,l,l,0+l.toNat,p,List.take 1 (List.drop 0 [p]),0+l.toNat,G.set (0+l.toNat) (G.getD (0+l.toNat) []++List.take 1 (List.drop 0 [p])),min G.length (0+l.toNat),T,T.length,n,())=(l,p,l,p,y7,l,l,0+l.toNat,p,List.take 1 (List.drop 0 [p]),0+l.toNat,G.set (0+l.toNat) (G.getD (0+l.toNat) []++List.take 1 (List.drop 0 [p])),min G.length (0+l.toNat),T,T.length,n,PUnit.unit)
theorem Aq3 {m:Nat} (n:Int) (G T:List (List (Option (List Int)))) (l:Int) (p:Option (List Int)) (P:(Int×List (List (Option (List Int)))×List (List (Option (List Int)))×Unit)×Unit->Prop):(∃(y7:Bool),yi.fn ((n,List.take G.length (List.drop 0 G),List.take T.length (List.drop 0 T),()),l,p.getD [],())=some y7/\Br y7 ((0=0/\G.length=G.length)/\(0=0/\T.length=T.length)/\(Xa (m+1)).Fz (n,G,T,l,p,())<=G.length/\(Xa (m+1)).Fz (n,G,T,l,p,())<=T.length/\P ((n,G,T,()),())) (((0:Int)<=l/\l<(↑G.length:Int))/\0=0/\(G.getD (0+l.toNat) []).length=(G.getD (0+l.toNat) []).length/\(G.getD (0+l.toNat) []).length+(List.take 1 (List.drop 0 [p])).length<=Dt/\((0:Int)<=l/\l<(↑G.length:Int))/\0=0/\(G.getD (0+l.toNat) []++List.take 1 (List.drop 0 [p])).length=(G.getD (0+l.toNat) []++List.take 1 (List.drop 0 [p])).length/\0+l.toNat=0+l.toNat/\(((0:Int)<=l/\l<(↑T.length:Int))/\ ∃(y8:(List Int×PUnit)×PUnit),Qw.fn (T.getD (0+l.toNat) [],())=some y8/\0=0/\(List.take y8.1.1.length (List.drop 0 y8.1.1)).length=(List.take y8.1.1.length (List.drop 0 y8.1.1)).length/\0=0/\G.length=(G.set (0+l.toNat) (G.getD (0+l.toNat) []++List.take 1 (List.drop 0 [p]))).length/\0=0/\T.length=T.length/\Ea (λ(v9:Ac7) (k10:Ac7->Prop)=>Br (decide ((↑v9.2.2.2.2.2.1.length:Int)>(0:Int))) (((0:Int)<=l/\l<(↑v9.2.1.length:Int))/\0=0/\(List.take v9.2.2.2.2.2.1.length (List.drop 0 v9.2.2.2.2.2.1)).length=(List.take v9.2.2.2.2.2.1.length (List.drop 0 v9.2.2.2.2.2.1)).length/\0=0/\v9.2.1.length=v9.2.1.length/\0=0/\v9.2.2.2.1.length=v9.2.2.2.1.length/\Ea (λ(v11:BW) (k12:BW->Prop)=>Br (decide (v11.2.2.1<(↑(v9.2.1.getD (0+l.toNat) []).length:Int))) (((0:Int)<=v11.2.2.1/\v11.2.2.1<(↑(v11.2.2.2.1.getD v11.2.1 []).length:Int))/\((0:Int)<=(0:Int)/\(0:Int)<(↑v11.2.2.2.2.2.2.2.1.length:Int))/\ ∃(gx:Int),v11.2.2.2.2.2.2.2.1[0+Int.toNat (0:Int)]?=some gx/\ ∃(Vi:Int),idx (((v11.2.2.2.1.getD v11.2.1 []).getD v11.2.2.1.toNat (none:Option (List Int))).getD []) gx=some Vi/\((0:Int)<=Vi/\Vi<(↑(v11.2.2.2.2.2.1.getD v11.1 []).length:Int))/\Br ((v11.2.2.2.2.2.1.getD v11.1 []).getD Vi.toNat (none:Option (List Int))).isNone (((0:Int)<=(0:Int)/\(0:Int)<(↑v11.2.2.2.2.2.2.2.1.length:Int))/\ ∃(dO:Int),v11.2.2.2.2.2.2.2.1[0+Int.toNat (0:Int)]?=some dO/\((0:Int)<=dO/\dO<(↑(v11.2.2.2.2.2.1.getD v11.1 []).length:Int))/\ ∃(Zf:Option (List Int)),Yt.fn (((v11.2.2.2.2.2.1.getD v11.1 []).getD dO.toNat (none:Option (List Int))).getD [],((v11.2.2.2.1.getD v11.2.1 []).getD v11.2.2.1.toNat (none:Option (List Int))).getD [],())=some Zf/\((0:Int)<=Vi/\Vi<(↑(v11.2.2.2.2.2.1.getD v11.1 []).length:Int))/\0=0/\v11.2.2.2.2.2.2.2.1.length=v11.2.2.2.2.2.2.2.1.length/\v11.2.2.2.2.2.2.2.1.length+(List.take 1 (List.drop 0 [Vi])).length<=Dt/\0=0/\(List.take (v11.2.2.2.2.2.2.2.1++List.take 1 (List.drop 0 [Vi])).length (List.drop 0 (v11.2.2.2.2.2.2.2.1++List.take 1 (List.drop 0 [Vi])))).length=(List.take (v11.2.2.2.2.2.2.2.1++List.take 1 (List.drop 0 [Vi])).length (List.drop 0 (v11.2.2.2.2.2.2.2.1++List.take 1 (List.drop 0 [Vi])))).length/\0=0/\v11.2.2.2.1.length=v11.2.2.2.1.length/\0=0/\v11.2.2.2.2.2.1.length=(v11.2.2.2.2.2.1.set v11.1 ((v11.2.2.2.2.2.1.getD v11.1 []).set Vi.toNat Zf)).length/\k12 (v11.1,v11.2.1,IntKind.i64.wrap (v11.2.2.1+(1:Int)),v11.2.2.2.1,v11.2.2.2.2.1,v11.2.2.2.2.2.1.set v11.1 ((v11.2.2.2.2.2.1.getD v11.1 []).set Vi.toNat Zf),v11.2.2.2.2.2.2.1,List.take (v11.2.2.2.2.2.2.2.1++List.take 1 (List.drop 0 [Vi])).length (List.drop 0 (v11.2.2.2.2.2.2.2.1++List.take 1 (List.drop 0 [Vi]))),v11.2.2.2.2.2.2.2.2.1,())) (0=0/\(List.take v11.2.2.2.2.2.2.2.1.length (List.drop 0 v11.2.2.2.2.2.2.2.1)).length=(List.take v11.2.2.2.2.2.2.2.1.length (List.drop 0 v11.2.2.2.2.2.2.2.1)).length/\0=0/\v11.2.2.2.1.length=v11.2.2.2.1.length/\0=0/\v11.2.2.2.2.2.1.length=v11.2.2.2.2.2.1.length/\k12 (v11.1,v11.2.1,IntKind.i64.wrap (v11.2.2.1+(1:Int)),v11.2.2.2.1,v11.2.2.2.2.1,v11.2.2.2.2.2.1,v11.2.2.2.2.2.2.1,List.take v11.2.2.2.2.2.2.2.1.length (List.drop 0 v11.2.2.2.2.2.2.2.1),v11.2.2.2.2.2.2.2.2.1,()))) (((0:Int)<=(1:Int)/\(1:Int)<=(↑v11.2.2.2.2.2.2.2.1.length:Int)/\(↑v11.2.2.2.2.2.2.2.1.length:Int)<=(↑v11.2.2.2.2.2.2.2.1.length:Int))/\0=0/\(List.take ((↑v11.2.2.2.2.2.2.2.1.length:Int).toNat-Int.toNat (1:Int)) (List.drop (0+Int.toNat (1:Int)) v11.2.2.2.2.2.2.2.1)).length=(List.take ((↑v11.2.2.2.2.2.2.2.1.length:Int).toNat-Int.toNat (1:Int)) (List.drop (0+Int.toNat (1:Int)) v11.2.2.2.2.2.2.2.1)).length/\0=0/\v11.2.2.2.1.length=v11.2.2.2.1.length/\0=0/\v11.2.2.2.2.2.1.length=v11.2.2.2.2.2.1.length/\k10 (v11.1,v11.2.2.2.1,v11.2.2.2.2.1,v11.2.2.2.2.2.1,v11.2.2.2.2.2.2.1,List.take ((↑v11.2.2.2.2.2.2.2.1.length:Int).toNat-Int.toNat (1:Int)) (List.drop (0+Int.toNat (1:Int)) v11.2.2.2.2.2.2.2.1),v11.2.2.2.2.2.2.2.2.1,()))) (v9.1,0+l.toNat,(0:Int),v9.2.1,v9.2.2.1,v9.2.2.2.1,v9.2.2.2.2.1,List.take v9.2.2.2.2.2.1.length (List.drop 0 v9.2.2.2.2.2.1),v9.2.2.2.2.2.2.1,PUnit.unit)) (∃(Th:(List Int×PUnit)×PUnit),Qw.fn (v9.2.2.2.1.getD v9.1 [],())=some Th/\0=0/\Th.1.1.length=Th.1.1.length/\0=0/\v9.2.1.length=v9.2.1.length/\0=0/\v9.2.2.2.1.length=v9.2.2.2.1.length/\Ea (λ(Tt:Ac4) (k13:Ac4->Prop)=>Br (decide (Tt.2.1<(↑Th.1.1.length:Int))) (((0:Int)<=Tt.2.1/\Tt.2.1<(↑Tt.2.2.2.2.2.2.1.length:Int))/\ ∃(Vi:Int),Tt.2.2.2.2.2.2.1[0+Tt.2.1.toNat]?=some Vi/\((0:Int)<=l/\l<(↑Tt.2.2.1.length:Int))/\0=0/\Tt.2.2.2.2.2.2.1.length=Tt.2.2.2.2.2.2.1.length/\0=0/\Tt.2.2.1.length=Tt.2.2.1.length/\0=0/\Tt.2.2.2.2.1.length=Tt.2.2.2.2.1.length/\Ea (λ(Kd:BW) (k16:BW->Prop)=>Br (decide (Kd.2.2.1<(↑(Tt.2.2.1.getD (0+l.toNat) []).length:Int))) (((0:Int)<=Kd.2.2.1/\Kd.2.2.1<(↑(Kd.2.2.2.1.getD Kd.2.1 []).length:Int))/\((0:Int)<=Vi/\Vi<(↑(Kd.2.2.2.2.2.1.getD Kd.1 []).length:Int))/\ ∃(mR:Option (List Int)),Yt.fn (((Kd.2.2.2.2.2.1.getD Kd.1 []).getD Vi.toNat (none:Option (List Int))).getD [],((Kd.2.2.2.1.getD Kd.2.1 []).getD Kd.2.2.1.toNat (none:Option (List Int))).getD [],())=some mR/\ ∃(mX:Int),idx (((Kd.2.2.2.1.getD Kd.2.1 []).getD Kd.2.2.1.toNat (none:Option (List Int))).getD []) Vi=some mX/\((0:Int)<=mX/\mX<(↑(Kd.2.2.2.2.2.1.getD Kd.1 []).length:Int))/\ ∃(XT:List Int),Hs.fn (((Kd.2.2.2.2.2.1.getD Kd.1 []).getD mX.toNat (none:Option (List Int))).getD [],())=some XT/\ ∃(y20:Option (List Int)),Yt.fn (mR.getD [],XT,())=some y20/\0=0/\Kd.2.2.2.1.length=Kd.2.2.2.1.length/\0=0/\Kd.2.2.2.2.2.1.length=Kd.2.2.2.2.2.1.length/\ ∃(PU:(Int×List (List (Option (List Int)))×List (List (Option (List Int)))×PUnit)×PUnit),(Xa m).fn (Kd.2.2.2.2.2.2.2.2.1,Kd.2.2.2.1,Kd.2.2.2.2.2.1,IntKind.i64.wrap (l+(1:Int)),y20,())=some PU/\(Kd.1<(Xa m).Fz (Kd.2.2.2.2.2.2.2.2.1,Kd.2.2.2.1,Kd.2.2.2.2.2.1,IntKind.i64.wrap (l+(1:Int)),y20,())/\Kd.1<(List.length PU.1.2.2.1))/\(Kd.2.1<(Xa m).Fz (Kd.2.2.2.2.2.2.2.2.1,Kd.2.2.2.1,Kd.2.2.2.2.2.1,IntKind.i64.wrap (l+(1:Int)),y20,())/\Kd.2.1<(List.length PU.1.2.1))/\(Kd.1<(Xa m).Fz (Kd.2.2.2.2.2.2.2.2.1,Kd.2.2.2.1,Kd.2.2.2.2.2.1,IntKind.i64.wrap (l+(1:Int)),y20,())/\Kd.1<(List.length PU.1.2.2.1))/\(Kd.1<(Xa m).Fz (Kd.2.2.2.2.2.2.2.2.1,Kd.2.2.2.1,Kd.2.2.2.2.2.1,IntKind.i64.wrap (l+(1:Int)),y20,())/\Kd.1<(List.length PU.1.2.2.1))/\0=0/\Kd.2.2.2.2.2.2.2.1.length=Kd.2.2.2.2.2.2.2.1.length/\0=0/\PU.1.2.1.length=PU.1.2.1.length/\0=0/\PU.1.2.2.1.length=PU.1.2.2.1.length/\k16 (Kd.1,Kd.2.1,IntKind.i64.wrap (Kd.2.2.1+(1:Int)),PU.1.2.1,min Kd.2.2.2.2.1 ((Xa m).Fz (Kd.2.2.2.2.2.2.2.2.1,Kd.2.2.2.1,Kd.2.2.2.2.2.1,IntKind.i64.wrap (l+(1:Int)),y20,())),PU.1.2.2.1,min Kd.2.2.2.2.2.2.1 ((Xa m).Fz (Kd.2.2.2.2.2.2.2.2.1,Kd.2.2.2.1,Kd.2.2.2.2.2.1,IntKind.i64.wrap (l+(1:Int)),y20,())),Kd.2.2.2.2.2.2.2.1,PU.1.1,())) (0=0/\Kd.2.2.2.2.2.2.2.1.length=Kd.2.2.2.2.2.2.2.1.length/\0=0/\Kd.2.2.2.1.length=Kd.2.2.2.1.length/\0=0/\Kd.2.2.2.2.2.1.length=Kd.2.2.2.2.2.1.length/\k13 (Kd.1,IntKind.i64.wrap (Tt.2.1+(1:Int)),Kd.2.2.2.1,Kd.2.2.2.2.1,Kd.2.2.2.2.2.1,Kd.2.2.2.2.2.2.1,Kd.2.2.2.2.2.2.2.1,Kd.2.2.2.2.2.2.2.2.1,()))) (Tt.1,0+l.toNat,(0:Int),Tt.2.2.1,Tt.2.2.2.1,Tt.2.2.2.2.1,Tt.2.2.2.2.2.1,Tt.2.2.2.2.2.2.1,Tt.2.2.2.2.2.2.2.1,PUnit.unit)) ((0=0/\Tt.2.2.1.length=Tt.2.2.1.length)/\(0=0/\Tt.2.2.2.2.1.length=Tt.2.2.2.2.1.length)/\(Xa (m+1)).Fz (n,G,T,l,p,())<=Tt.2.2.2.1/\(Xa (m+1)).Fz (n,G,T,l,p,())<=Tt.2.2.2.2.2.1/\P ((Tt.2.2.2.2.2.2.2.1,Tt.2.2.1,Tt.2.2.2.2.1,()),()))) (v9.1,(0:Int),v9.2.1,v9.2.2.1,v9.2.2.2.1,v9.2.2.2.2.1,Th.1.1,v9.2.2.2.2.2.2.1,PUnit.unit))) (0+l.toNat,G.set (0+l.toNat) (G.getD (0+l.toNat) []++List.take 1 (List.drop 0 [p])),min G.length (0+l.toNat),T,T.length,List.take y8.1.1.length (List.drop 0 y8.1.1),n,PUnit.unit))/\(((((0:Int)<=l/\l<(↑G.length:Int))/\((Lz G l p T y7 n))/\(Lz G l p T y7 n))/\((0:Int)<=l/\l<(↑G.length:Int))/\(Lz G l p T y7 n))/\((0:Int)<=l/\l<(↑G.length:Int))/\(Lz G l p T y7 n))/\(((((0:Int)<=l/\l<(↑G.length:Int))/\((Lz G l p T y7 n))/\(Lz G l p T y7 n))/\((0:Int)<=l/\l<(↑G.length:Int))/\(Lz G l p T y7 n))/\(((0:Int)<=l/\l<(↑G.length:Int))/\(((Lz G l p T y7 n))/\(Lz G l p T y7 n))/\(((Lz G l p T y7 n))/\((Lz G l p T y7 n))/\(Lz G l p T y7 n))/\((Lz G l p T y7 n))/\((Lz G l p T y7 n))/\(Lz G l p T y7 n))/\(((0:Int)<=l/\l<(↑G.length:Int))/\(Lz G l p T y7 n))/\((0:Int)<=l/\l<(↑G.length:Int))/\((Lz G l p T y7 n))/\((Lz G l p T y7 n))/\(Lz G l p T y7 n))/\(((0:Int)<=l/\l<(↑G.length:Int))/\(Lz G l p T y7 n))/\(((0:Int)<=l/\l<(↑G.length:Int))/\(Lz G l p T y7 n))/\((0:Int)<=l/\l<(↑G.length:Int))/\((Lz G l p T y7 n))/\((Lz G l p T y7 n))/\(Lz G l p T y7 n)))=fnMW (Aca [Mz+7]) (look [(229,yi),(213,Qw),(142,Yt),(143,Hs),(212,mY.m (Xa m))]) (Xa (m+1)) Try.f212 (n,G,T,l,p,()) P:=by kernel_rfl
theorem DH {k l:Nat} {p:List Int} {s:Fu×Fu} (h:Oa s.2 k l p=true):Hw k l p s=s:=by
 cases k with
 |zero=>rfl
 |succ k=>unfold Hw;rw [Ab h]
theorem DG (k l:Nat) (p:List Int) (s:Fu×Fu):Hw (k+1) l p s=if Oa s.2 (k+1) l p=true then s else
   (gN (Zq (s.1.getD l []++ [some p]) (s.2.getD l [])) (s.1.getD l []++ [some p])).foldl (λs q=>Hw k (l+1) q s)
    (s.1.set l (s.1.getD l []++ [some p]),s.2.set l (Zq (s.1.getD l []++ [some p]) (s.2.getD l []))):=rfl
theorem Aa9 {n:Nat} {p:List Int} (h:Pm n p) {i:Nat} (hi:i<n):idx p (i:Int)=some (ap p i:Int):=by
 have cM:i<p.length:=by rw [h.1];exact hi
 rw [Cf cM,<-(h.Re hi).1,Ku cM]
theorem KL {x:Int} {gs:List PO} {j:Nat} (hj:j<gs.length) (s:Row×List Int):aF x (gs.take (j+1)) s=aP x (aF x (gs.take j) s) gs[j]:=by
 unfold aF
 rw [Kc,Ad hj,Tx,Hz]
 rfl
theorem KN {gs:List PO} {f:Nat} {row:Row} :ao gs f [] row=row:=by cases f<;>rfl
theorem mb {n:Nat} {p:List Int} (h:Pm n p):0<p.length/\p.length<=20:=⟨by rw [h.1];exact h.n1,by rw [h.1];exact h.n2⟩
theorem NY {n:Nat} {p q:List Int} (h:Pm n p) (k:Pm n q):Sd q.length p:=by rw [k.1];exact h.row
theorem Apk {m:Nat} (n:Int) (G T:List (List (Option (List Int)))) (l:Int) (p:Option (List Int)) (h:(∃N L q,p=some q/\so N L n G T l q)/\(n-l).toNat<m+1):
  fnMW (Aca [Mz+7]) (look [(229,yi),(213,Qw),(142,Yt),(143,Hs),(212,mY.m (Xa m))]) (Xa (m+1)) Try.f212 (n,G,T,l,p,()) (λ(z:(Int×List (List (Option (List Int)))×List (List (Option (List Int)))×Unit)×Unit)=>z=((n,(Hw (n-l).toNat l.toNat (p.getD []) (G,T)).1,(Hw (n-l).toNat l.toNat (p.getD []) (G,T)).2,()),())):=by
 obtain ⟨⟨N,L,q,rfl,h⟩,hm⟩:=h
 have h':=h
 obtain ⟨n1,n2,en,el,hle,v,pm,fx⟩:=h
 subst en el
 have hk:((N:Int)-(L:Int)).toNat=N-L:=by omega
 rw [hk,Ac]
 refine Eq.mp (Aq3 (N:Int) G T (L:Int) (some q) _) ⟨_,Ab ⟨N,L,?a⟩,?b⟩
 case a=>
  simp only [Du,Bh,Dh]
  exact h'
 obtain ⟨v1,v2,v3,v4⟩:=v
 dsimp only at v1 v2
 have hw:IntKind.i64.wrap ((L:Int)+1)=((L+1:Nat):Int):=Cb (by omega)
 simp only [Lz]
 simp only [Du,Bh,Dh,hk,Ac,Bk,eq_self,true_and,bm,List.take_succ_cons,List.take_zero,Aw,Dv,Bv,hw]
 refine Br.of (λhh=>⟨by show Int.toNat (L:Int)<=G.length;omega,by show Int.toNat (L:Int)<=T.length;omega,?_⟩) λhh=>?_
 ·rw [DH (s:=(G,T)) hh]
 obtain ⟨k,hNk⟩: ∃k,N-L=k+1:=by
  cases e:N-L with
  |zero=>rw [e] at hh;simp [Oa] at hh
  |succ k=>exact ⟨k,rfl⟩
 have hLN:L<N:=by omega
 have hv:V N (k+1) L (G,T):=by rw [<-hNk];exact ⟨v1,v2,v3,v4⟩
 rw [hNk] at hh⊢
 have e1:(0:Int)<=(L:Int)/\(L:Int)<(G.length:Int):=by omega
 have e1':(0:Int)<=(L:Int)/\(L:Int)<(T.length:Int):=by omega
 have hgl:(G.getD L []).length<=400:=Ae8 n2 (by omega) hv
 have e2:(G.getD L []).length+1<=Dt:=by show _<=4294967296;omega
 simp only [e1,e1',e2,and_self,true_and,bm]
 generalize QV:G.getD L []++ [some q]=gs
 have Azl:gs.length<=401:=by rw [<-QV,Ax,Bn];omega
 have hg:PG N L gs:=by rw [<-QV];exact hv.pg pm fx
 have hr0:Xr N L gs (T.getD L []):=by rw [<-QV];exact hv.Avi q
 obtain ⟨r1,r2,r3⟩:=HE hLN n2 hg hr0
 generalize hR:Zq gs (T.getD L [])=R at r1 r2 r3
 have vZ:Hw (k+1) L q (G,T)=(gN R gs).foldl (λs q=>Hw k (L+1) q s) (G.set L gs,T.set L R):=by
  rw [DG,Ai (by rw [hh];simp)]
  dsimp only
  rw [QV,hR]
 rw [vZ]
 have hTl:L<T.length:=by omega
 have hGl:L<G.length:=by omega
 have hG1:(G.set L gs).getD L []=gs:=lf G L hGl gs
 have hT1: ∀row:Row,(T.set L row).getD L []=row:=lf T L hTl
 refine ⟨_,Ab (by show (T.getD L []).length<=20;rw [hr0.rl];exact n2),?_⟩
 dsimp only
 have hn0:(Nm (T.getD L [])).length+Si (T.getD L [])<=40:=by have:=zW (T.getD L []);have:=GX (T.getD L []);have:=hr0.rl;omega
 have hq0:SU gs (Nm (T.getD L [])) (T.getD L []):=⟨λy hy=>Ut.1 hy,λy hy=> .inl (Ut.2 ⟨y,rfl,hy⟩)⟩
 refine ⟨λv=> ∃(row:Row) (qu:List Int) (kg kt:Nat),v=(L,G.set L gs,kg,T.set L row,kt,qu,(N:Int),())/\L<=kg/\L<=kt/\qu.length+Si row<=40/\Xr N L gs row/\SU gs qu row/\ao gs (qu.length+Si row) qu row=R,
  fun v=>v.2.2.2.2.2.1.length+Si (v.2.2.2.1.getD v.1 []),⟨T.getD L [],Nm (T.getD L []),min G.length L,T.length,?_,by omega,by omega,hn0,hr0,hq0,?_⟩,?_⟩
 ·rw [wz T L hTl]
 ·rw [<-DV hLN hg 100 _ _ (by omega) hr0 hq0];exact hR
 rintro v ⟨row,qu,kg,kt,rfl,hkg,hkt,hb,ZY,hqi,ZG⟩
 dsimp only
 simp only [hG1,hT1,Bv]
 refine Br.dec (λhl=>⟨e1.2,?_⟩) λhl=>?_
 ·cases qu with
  |nil=>simp at hl
  |cons x qu=>
  obtain ⟨p1,p2,xn,t,rfl,ht⟩:=NQ hLN hg ZY hqi
  have RJ:xn<N:=by rw [<-ZY.rl];exact sa ht
  refine Cg gs.length (λv=>v.2.2.1) (λj v=> ∃kg kt:Nat,v=(L,L,(j:Int),G.set L gs,kg,T.set L (aF (xn:Int) (gs.take j) (row,qu)).1,kt,(xn:Int)::(aF (xn:Int) (gs.take j) (row,qu)).2,(N:Int),())/\L<=kg/\L<=kt) rfl ⟨kg,kt,rfl,hkg,hkt⟩ ?_
  rintro j v K hj hi ⟨kg,kt,rfl,h1,h2⟩ hK
  dsimp only
  simp only [hG1,hT1,Ac]
  refine Br.dec (λhl=>?_) λhl=>?_
  ·have hl:j<gs.length:=by omega
   obtain ⟨x1,x2⟩:=Abn hLN hg (gs.take j) (q:=qu) (λo ho=>Gf ho) ZY ht
   have Pc:=KL (x:=(xn:Int)) hl (row,qu)
   generalize aF (xn:Int) (gs.take j) (row,qu)=s at x1 x2 Pc⊢
   obtain ⟨r,qq⟩:=s
   dsimp only at x1 x2⊢
   obtain ⟨g,vT,Xu,hgf⟩:=hg gs[j] (Am hl)
   have htx:r.getD xn none=some t:=x1.mono _ _ ht
   obtain ⟨t1,t2,t3,t4⟩:=x1.ok.rt _ _ htx
   have hrl:r.length=N:=x1.ok.rl
   have hgj:gs.getD j none=some g:=by rw [ZB hl];exact vT
   have hy:=Xu.lt RJ
   have hga:=(Xu.Re RJ).1
   have Aep:qq.length+Si r=qu.length+Si row:=x1.phi
   simp only [Aw] at hb
   simp only [hgj,Dh]
   refine ⟨⟨by omega,by omega⟩,⟨by omega,by simp only [Aw];omega⟩,_,rfl,_,Aa9 Xu RJ,⟨by omega,by omega⟩,?_⟩
   rw [vT] at Pc
   unfold aP at Pc
   dsimp only at Pc
   rw [Dh,hga,Ac,Ac,htx,Dh] at Pc
   rw [Ac]
   refine Br.of (λhn=>?_) λhn=>?_
   ·have hn:r.getD (ap g xn) none=none:=by
     cases e:r.getD (ap g xn) none with
     |none=>rfl
     |some u=>rw [e] at hn;simp at hn
    rw [hn] at Pc
    refine ⟨⟨by omega,by simp only [Aw];omega⟩,_,rfl,⟨by omega,by omega⟩,some (Ak t g),?_,⟨by omega,by omega⟩,?_,?_⟩
    ·rw [Ac,htx,Dh]
     exact Ab ⟨mb t1,NY t1 Xu⟩
    ·show qq.length+1+1<=4294967296
     omega
    ·rw [Cb (by omega)]
     refine hK hl _ rfl ⟨kg,kt,?_,h1,h2⟩
     rw [Pc,List.set_set]
     rfl
   ·have hn: ∃u,r.getD (ap g xn) none=some u:=by
     cases e:r.getD (ap g xn) none with
     |none=>rw [e] at hn;simp at hn
     |some u=>exact ⟨u,rfl⟩
    obtain ⟨u,hn⟩:=hn
    rw [hn] at Pc
    rw [Cb (by omega)]
    refine hK hl _ rfl ⟨kg,kt,?_,h1,h2⟩
    rw [Pc]
  ·have:j=gs.length:=by omega
   subst this
   rw [Bh]
   generalize hs:aF (xn:Int) gs (row,qu)=s at p1 p2⊢
   obtain ⟨r,qq⟩:=s
   dsimp only at p1 p2⊢
   have Aep:qq.length+Si r=qu.length+Si row:=p1.phi
   simp only [Aw] at hb ZG
   refine ⟨⟨by omega,by simp only [Aw];omega,Ok _⟩,⟨r,qq,kg,kt,?_,h1,h2,by omega,p1.ok,p2,?_⟩,?_⟩
   ·simp
   ·rw [show qu.length+1+Si row=(qu.length+Si row)+1 by omega] at ZG
    simp only [ao,hs] at ZG
    rw [Aep]
    exact ZG
   ·simp only [Aw]
    have:(List.take (qq.length+1-Int.toNat 1) (List.drop (Int.toNat 1) ((xn:Int)::qq))).length=qq.length:=by simp
    rw [this]
    omega
 ·have:qu= []:=Cp (by omega)
  subst this
  rw [KN] at ZG
  subst ZG
  have hpr:=Abi hLN hg ZY r3
  have hvl:=hv.lower gs row
  have Ah4: ∀qs:List (List Int),(∀q∈qs,q∈gN row gs)->V N k (L+1) (qs.foldl (λs q=>Hw k (L+1) q s) (G.set L gs,T.set L row))/\bE (L+1) (G.set L gs,T.set L row) (qs.foldl (λs q=>Hw k (L+1) q s) (G.set L gs,T.set L row)):=
   fun qs hqs=>QL n1 n2 (by omega) qs _ (λq hq=>hpr q (hqs q hq)) hvl
  refine ⟨_,Ab (by show row.length<=20;rw [ZY.rl];exact n2),?_⟩
  dsimp only
  have hol:=zW row
  have hrl:=ZY.rl
  refine Cg (Nm row).length (λv=>v.2.1) (λi v=> ∃(s:Fu×Fu) (kg kt:Nat),v=(L,(i:Int),s.1,kg,s.2,kt,Nm row,(N:Int),())/\L<=kg/\L<=kt/\s=(((Nm row).take i).flatMap λy=>gs.map (Ui row y)).foldl (λs q=>Hw k (L+1) q s) (G.set L gs,T.set L row)) rfl ⟨_,kg,kt,rfl,hkg,hkt,rfl⟩ ?_
  rintro i v K hi cM ⟨s,kg,kt,rfl,h1,h2,hs⟩ hK
  dsimp only
  have Oe: ∀q∈((Nm row).take i).flatMap (λy=>gs.map (Ui row y)),q∈gN row gs:= λq hq=>by
   obtain ⟨y,hy,hq⟩:=Gj.1 hq
   exact Gj.2 ⟨y,Gf hy,hq⟩
  refine Br.dec (λhl=>?_) λhl=>?_
  ·have hl:i<(Nm row).length:=by omega
   obtain ⟨f1,f2⟩:=Ah4 _ Oe
   rw [<-hs] at f1 f2
   have g1:s.1.getD L []=gs:=by rw [(f2.low L (by omega)).1];exact hG1
   have g2:s.1.length=N:=f1.1
   obtain ⟨yn,hyn,hyr⟩:=Ut.1 (Am hl)
   obtain ⟨t,ht⟩:=Ns.1 hyr
   have hyN:yn<N:=by rw [<-hrl];exact sa ht
   obtain ⟨t1,t2,t3,t4⟩:=ZY.rt _ _ ht
   refine ⟨⟨by omega,by omega⟩,(yn:Int),by rw [Ac,Ad hl,hyn],by omega,?_⟩
   rw [g1]
   refine Cg gs.length (λv=>v.2.2.1) (λj v=> ∃(s':Fu×Fu) (kg kt:Nat),v=(L,L,(j:Int),s'.1,kg,s'.2,kt,Nm row,(N:Int),())/\L<=kg/\L<=kt/\s'=(((Nm row).take i).flatMap (λy=>gs.map (Ui row y))++(gs.take j).map (Ui row (yn:Int))).foldl (λs q=>Hw k (L+1) q s) (G.set L gs,T.set L row)) rfl ⟨s,kg,kt,rfl,h1,h2,by simpa using hs⟩ ?_
   rintro j v K' hj CX ⟨s',kg,kt,rfl,h1,h2,CZ⟩ hK'
   dsimp only
   refine Br.dec (λLl=>?_) λLl=>?_
   ·have Ll:j<gs.length:=by omega
    have RF: ∀q∈((Nm row).take i).flatMap (λy=>gs.map (Ui row y))++(gs.take j).map (Ui row (yn:Int)),q∈gN row gs:= λq hq=>by
     rcases Az.1 hq with hq|hq
     ·exact Oe q hq
     ·obtain ⟨o,ho,rfl⟩:=Be.1 hq
      exact Gj.2 ⟨(yn:Int),Ut.2 ⟨yn,rfl,hyr⟩,Be.2 ⟨o,Gf ho,rfl⟩⟩
    obtain ⟨f1',f2'⟩:=Ah4 _ RF
    rw [<-CZ] at f1' f2'
    obtain ⟨G',T'⟩:=s'
    dsimp only at f1' f2'⊢
    have g1':G'.getD L []=gs:=by have:=(f2'.low L (by omega)).1;dsimp only at this;rw [this];exact hG1
    have g3':T'.getD L []=row:=by have:=(f2'.low L (by omega)).2;dsimp only at this;rw [this];exact hT1 row
    have g4':G'.length=N:=f1'.1
    have g5':T'.length=N:=f1'.2.1
    obtain ⟨g,vT,Xu,hgf⟩:=hg gs[j] (Am Ll)
    have hgj:gs.getD j none=some g:=by rw [ZB Ll];exact vT
    have hgm:some g∈gs:=by rw [<-vT];exact Am Ll
    have hy:=Xu.lt hyN
    obtain ⟨t',qA⟩:=Ns.1 (r3 yn t g ht hgm)
    obtain ⟨u1,u2,u3,u4⟩:=ZY.rt _ _ qA
    have Aoi:Ui row (yn:Int) gs[j]=Ak (Ak t g) (Bw t'):=by rw [vT];exact jB ht qA
    have hqm:=hpr _ (Gj.2 ⟨(yn:Int),Ut.2 ⟨yn,rfl,hyr⟩,Be.2 ⟨gs[j],Am Ll,Aoi⟩⟩)
    simp only [g1',g3',Ac,hgj,ht,Dh]
    have tz:L<Int.toNat ((L+1:Nat):Int):=by omega
    have ZE:=yL n1 n2 k (L+1) _ (G',T') (by omega) f1' hqm.1 hqm.2
    have Awl:((Hw k (L+1) (Ak (Ak t g) (Bw t')) (G',T')).1).length=N:=ZE.v.1
    have Awm:((Hw k (L+1) (Ak (Ak t g) (Bw t')) (G',T')).2).length=N:=ZE.v.2.1
    have LR:((N:Int)-((L+1:Nat):Int)).toNat=k:=by omega
    refine ⟨⟨by omega,by omega⟩,⟨by omega,by omega⟩,some (Ak t g),Ab ⟨mb t1,NY t1 Xu⟩,_,Aa9 Xu hyN,⟨by omega,by omega⟩,Bw t',?_,some (Ak (Ak t g) (Bw t')),?_,_,Ab ⟨⟨N,L+1,_,rfl,?pr⟩,?lt⟩,⟨tz,?k1⟩,⟨tz,?k2⟩,⟨tz,?k3⟩,⟨tz,?k4⟩,?go⟩
    case pr=>exact ⟨n1,n2,rfl,rfl,by omega,by rw [show N-(L+1)=k by omega];exact f1',hqm.1,hqm.2⟩
    case lt=>
     show ((N:Int)-((L+1:Nat):Int)).toNat<m
     omega
    case go=>
     dsimp only
     rw [Cb (by omega)]
     refine hK' Ll _ rfl ⟨_,_,_,rfl,?_,?_,?_⟩
     ·show L<=min kg (Int.toNat ((L+1:Nat):Int));omega
     ·show L<=min kt (Int.toNat ((L+1:Nat):Int));omega
     ·rw [Kc,Ad Ll,Tx,Ir,<-Bo,Hz,<-CZ]
      simp only [Ca,List.map_nil,Rd,List.foldl_nil,Aoi,LR,Ac,Dh]
    case k1=>simp only [LR,Ac,Dh];omega
    case k2=>simp only [LR,Ac,Dh];omega
    case k3=>simp only [LR,Ac,Dh];omega
    case k4=>simp only [LR,Ac,Dh];omega
    ·rw [Ac,qA,Dh]
     exact Ab ⟨by show t'.length<=20;rw [u1.1];exact n2,u1.2.row⟩
    ·exact Ab ⟨mb (t1.comp Xu),NY (t1.comp Xu) u1.inv⟩
   ·have:j=gs.length:=by omega
    subst this
    rw [Cb (by omega)]
    refine hK hl _ rfl ⟨s',kg,kt,rfl,h1,h2,?_⟩
    rw [CZ,Bh,Kc,Ad hl,Tx,List.flatMap_append,hyn]
    simp
  ·have:i=(Nm row).length:=by omega
   subst this
   rw [Bh] at hs
   refine ⟨h1,h2,?_⟩
   rw [hs]
   rfl
theorem Ac0 {m:Nat} (Ajz:Dx Try.prog 212 (Xa m)):Dx Try.prog 212 (Xa (m+1)):=
 Dx.oP (Afy [Mz+7]) (Ba VU (Gy lD (Ba uJ (Ba Xe (Gy Ajz Cc))))) mixed Try.func212 (by kernel_rfl) (by kernel_rfl) λx h=>Apk x.1 x.2.1 x.2.2.1 x.2.2.2.1 x.2.2.2.2.1 h
theorem OH:Dx Try.prog 212 (Xa 0):=
 Dx.oP q6 Cc mixed Try.func212 (by kernel_rfl) (by kernel_rfl) λ_ h=>absurd h.2 (Et _)
theorem uH: ∀m,Dx Try.prog 212 (Xa m)
 |0=>OH
 |m+1=>Ac0 (uH m)
noncomputable abbrev AT:MSpec:=oP Ahw (λx=> ∃N L q,x.2.2.2.2.1=some q/\so N L x.1 x.2.1 x.2.2.1 x.2.2.2.1 q)
 (λx=>((x.1,(Hw (x.1-x.2.2.2.1).toNat x.2.2.2.1.toNat (x.2.2.2.2.1.getD []) (x.2.1,x.2.2.1)).1,(Hw (x.1-x.2.2.2.1).toNat x.2.2.2.1.toNat (x.2.2.2.2.1.getD []) (x.2.1,x.2.2.1)).2,()),()))
theorem OI:Dx Try.prog 212 AT:=Dx.Api (λx=>(x.1-x.2.2.2.1).toNat) uH
def aB (n:Nat):Fu:=List.replicate n []
def eT (n i:Nat):Row:=(List.replicate n none).set i (some (upto n))
def dH (n:Nat):Fu:=(List.range n).map λi=>eT n i
def Va (n:Nat) (gens:List PO):Fu×Fu:=gens.foldl (λs o=>Hw n 0 (o.getD []) s) (aB n,dH n)
noncomputable abbrev MF:MSpec:= {Jy:= [none,none],ins:= [(false, .Gw tI),(false, .Gw tLO)],Ij:=false,Iu:= [none,none,none],outs:= [.Gw tI, .Bu tO teG false, .Bu tO teG false],fn:= λ_=>none,rp:=some 198}
noncomputable abbrev jz:MSpec:=oP MF (λx=>(1<=x.1/\x.1<=20)/\List.length x.2.1<=4294967296/\ ∀o∈(x.2.1:List PO),∃g,o=some g/\Pm x.1.toNat g)
 (λx=>((x.1,(Va x.1.toNat x.2.1).1,(Va x.1.toNat x.2.1).2,()),()))
abbrev bg:Type:=Int×List (List (Option (List Int)))×Int×List (List (Option (List Int)))×PUnit
theorem JJ (n:Int) (gens:List (Option (List Int))) (P:(Int×List (List (Option (List Int)))×List (List (Option (List Int)))×Unit)×Unit->Prop):(((0:Int)<=n/\n<(↑Dt:Int)+(1:Int))/\n=n/\0=0/\(List.replicate n.toNat ([]:List (Option (List Int)))).length=(List.replicate n.toNat ([]:List (Option (List Int)))).length/\0=0/\0=([]:List Int).length/\Ea (λ(v3:bg) (k4:bg->Prop)=>Br (decide (v3.1<n)) (((0:Int)<=n/\n<(↑Dt:Int)+(1:Int))/\n=n/\ ∃(y5:Option (List Int)),da.fn (n,())=some y5/\((0:Int)<=v3.1/\v3.1<(↑(List.replicate n.toNat (none:Option (List Int))).length:Int))/\0+v3.1.toNat<(List.replicate n.toNat (none:Option (List Int))).length/\0=0/\(List.replicate n.toNat (none:Option (List Int))).length=((List.replicate n.toNat (none:Option (List Int))).set (0+v3.1.toNat) y5).length/\(0=0/\v3.2.2.2.1.length=v3.2.2.2.1.length)/\(0=0/\1= [(List.replicate n.toNat (none:Option (List Int))).set (0+v3.1.toNat) y5].length)/\0< [(List.replicate n.toNat (none:Option (List Int))).set (0+v3.1.toNat) y5].length/\v3.2.2.2.1.length+ [(List.replicate n.toNat (none:Option (List Int))).set (0+v3.1.toNat) y5].length<=Dt/\0=0/\v3.2.1.length=v3.2.1.length/\0=0/\(v3.2.2.2.1++ [(List.replicate n.toNat (none:Option (List Int))).set (0+v3.1.toNat) y5]).length=(v3.2.2.2.1++ [(List.replicate n.toNat (none:Option (List Int))).set (0+v3.1.toNat) y5]).length/\k4 (IntKind.i64.wrap (v3.1+(1:Int)),v3.2.1,v3.2.2.1,v3.2.2.2.1++ [(List.replicate n.toNat (none:Option (List Int))).set (0+v3.1.toNat) y5],())) (0=0/\v3.2.1.length=v3.2.1.length/\0=0/\v3.2.2.2.1.length=v3.2.2.2.1.length/\Ea (λ(v5:bg) (k6:bg->Prop)=>Br (decide (v5.1<(↑gens.length:Int))) (∃(y7:Option (List Int)),idx gens v5.1=some y7/\0=0/\v5.2.1.length=v5.2.1.length/\0=0/\v5.2.2.2.1.length=v5.2.2.2.1.length/\ ∃(y8:(Int×List (List (Option (List Int)))×List (List (Option (List Int)))×PUnit)×PUnit),AT.fn (v5.2.2.1,v5.2.1,v5.2.2.2.1,(0:Int),y7,())=some y8/\0=0/\y8.1.2.1.length=y8.1.2.1.length/\0=0/\y8.1.2.2.1.length=y8.1.2.2.1.length/\k6 (IntKind.i64.wrap (v5.1+(1:Int)),y8.1.2.1,y8.1.1,y8.1.2.2.1,())) ((0=0/\v5.2.1.length=v5.2.1.length)/\(0=0/\v5.2.2.2.1.length=v5.2.2.2.1.length)/\P ((v5.2.2.1,v5.2.1,v5.2.2.2.1,()),()))) ((0:Int),v3.2.1,v3.2.2.1,v3.2.2.2.1,PUnit.unit))) ((0:Int),List.replicate n.toNat ([]:List (Option (List Int))),n,[],PUnit.unit))=fnMW bh (look [(120,da),(212,AT)]) jz Try.f193 (n,gens,()) P:=by kernel_rfl
theorem cp (n i:Nat):(aB n).getD i []= []:=by
 unfold aB
 rw [Al,Zh]
 split<;>rfl
theorem mM {n i:Nat} (h:i<n):(dH n).getD i []=eT n i:=by
 unfold dH
 rw [Al,Fv,Rq h]
 rfl
theorem oD {n i y:Nat} (h:i<n):(eT n i).getD y none=if i=y then some (upto n) else none:=by
 unfold eT
 rw [Vn,Ep]
 by_cases e:i=y
 ·rw [Ab ⟨e,h⟩,Ab e]
 ·rw [Ai (λhh=>e hh.1),Ai e,Al,Zh]
  split<;>rfl
theorem uY {n:Nat} (h1:1<=n) (h2:n<=20): ∀(k l:Nat),l+k=n->kK n k l (aB n,dH n)
 |0,l,hk=>cp n l
 |k+1,l,hk=>by
  have hl:l<n:=by omega
  have hg: ∀(g:List Int) (j:Nat),some g∈(aB n).getD j []->False:= λg j hg=>by rw [cp] at hg;cases hg
  refine ⟨uY h1 h2 k (l+1) (by omega),⟨λo ho=>?_,?_,?_,λy t e0=>?_,λy t g _ eW=>(hg _ _ eW).elim,λy t g t' _ eW=>(hg _ _ eW).elim⟩,λg eW=>(hg _ _ eW).elim⟩
  ·have ho:o∈(aB n).getD l []:=ho
   rw [cp] at ho;cases ho
  ·show ((dH n).getD l []).length=n
   rw [mM hl];simp [eT]
  ·show ((dH n).getD l []).getD l none=_
   rw [mM hl,oD hl,Ab rfl]
  ·replace e0:((dH n).getD l []).getD y none=some t:=e0
   rw [mM hl,oD hl] at e0
   by_cases hy:l=y
   ·rw [Ab hy] at e0
    have e1:=Bd e0
    subst e1 hy
    exact ⟨Pm.id h1 h2,λi hi=>kX (by omega),kX hl, .id⟩
   ·rw [Ai hy] at e0;cases e0
theorem IM (n:Nat): ∀(k l:Nat),GBf k l (aB n,dH n)
 |0,_=>trivial
 |k+1,l=>⟨IM n k (l+1),by show ((aB n).getD l []).length<=_;rw [cp];exact Kr _⟩
theorem SG {n:Nat} (h1:1<=n) (h2:n<=20):V n n 0 (aB n,dH n):=⟨by simp [aB],by simp [dH],uY h1 h2 n 0 (by omega),IM n n 0⟩
def PmL (n:Nat) (gens:List PO):Prop:= ∀o∈gens,∃g,o=some g/\Pm n g
theorem DF {n:Nat} {gens:List PO} {j:Nat} (hj:j<gens.length):Va n (gens.take (j+1))=Hw n 0 (gens[j].getD []) (Va n (gens.take j)):=by
 unfold Va
 rw [Kc,Ad hj,Tx,Hz]
 rfl
theorem oT {n:Nat} (h1:1<=n) (h2:n<=20): ∀(gens:List PO) (s:Fu×Fu),PmL n gens->V n n 0 s->V n n 0 (gens.foldl (λs o=>Hw n 0 (o.getD []) s) s)/\
  bE 0 s (gens.foldl (λs o=>Hw n 0 (o.getD []) s) s)/\(∀g,some g∈gens->Gn n ((gens.foldl (λs o=>Hw n 0 (o.getD []) s) s).1.getD 0 []) g)/\ ∀o∈(gens.foldl (λs o=>Hw n 0 (o.getD []) s) s).1.getD 0 [],o∈s.1.getD 0 []\/o∈gens
 | [],s,_,hv=>⟨hv,bE.refl _ _,(λ_ hg=>by cases hg),λ_ ho=> .inl ho⟩
 |o::gens,s,hg,hv=>by
  obtain ⟨g,rfl,Xu⟩:=hg o (by simp)
  have ha:=yL h1 h2 n 0 g s (by omega) hv Xu (λi hi=>absurd hi (Et _))
  obtain ⟨a1,a2,a3,a4⟩:=oT h1 h2 gens (Hw n 0 g s) (λo ho=>hg o (by simp [ho])) ha.v
  refine ⟨a1,ha.grow.trans a2 (Aq _),λg' eW=>?_,λo ho=>?_⟩
  ·rcases Bb.1 eW with e|eW
   ·cases e;exact ha.Ap5.mono λg hg=>a2.QP _ _ hg
   ·exact a3 g' eW
  ·rcases a4 o ho with h|h
   ·rcases ha.gens o h with h|h
    ·exact .inl h
    ·exact .inr (by simp [h])
   ·exact .inr (by simp [h])
theorem DE {n:Nat} (h1:1<=n) (h2:n<=20) {gens:List PO} (hg:PmL n gens):V n n 0 (Va n gens):=(oT h1 h2 gens _ hg (SG h1 h2)).1
theorem tm {n:Nat} (h1:1<=n) (h2:n<=20) {gens:List PO} (hg:PmL n gens) {p:List Int} (hp:Pm n p):Oa (Va n gens).2 n 0 p=true↔Gn n gens p:=by
 obtain ⟨a1,a2,a3,a4⟩:=oT h1 h2 gens _ hg (SG h1 h2)
 have hS:PY n λg=>some g∈gens:=⟨⟨h1,h2⟩,λg eW=>by obtain ⟨g',e,h⟩:=hg _ eW;cases e;exact h⟩
 have Oe: ∀g,some g∈(Va n gens).1.getD 0 []->some g∈gens:= λg eW=>by
  rcases a4 _ eW with h|h
  ·have h:some g∈(aB n).getD 0 []:=h
   rw [cp] at h;cases h
  ·exact h
 have hS':PY n λg=>some g∈(Va n gens).1.getD 0 []:=⟨⟨h1,h2⟩,λg eW=>hS.2 g (Oe g eW)⟩
 refine (nQ h1 h2 n 0 (Va n gens) (by omega) a1.2.2.1 p hp λi hi=>absurd hi (Et _)).trans ⟨λh=>h.mono Oe,λh=>h.trans hS' λg eW=>a3 g eW⟩
theorem HM (n:Int) (gens:List (Option (List Int))) (h:(1<=n/\n<=20)/\List.length gens<=4294967296/\ ∀o∈(gens:List PO),∃g,o=some g/\Pm n.toNat g):
  fnMW bh (look [(120,da),(212,AT)]) jz Try.f193 (n,gens,()) (λ(z:(Int×List (List (Option (List Int)))×List (List (Option (List Int)))×Unit)×Unit)=>z=((n,(Va n.toNat gens).1,(Va n.toNat gens).2,()),())):=by
 obtain ⟨⟨h1,h2⟩,h3,hg⟩:=h
 obtain ⟨N,rfl⟩: ∃N:Nat,n=N:=⟨n.toNat,by omega⟩
 rw [Ac] at hg⊢
 have h1:1<=N:=by omega
 have h2:N<=20:=by omega
 refine Eq.mp (JJ (N:Int) gens _) ?_
 have hm:((0:Int)<=(N:Int)/\(N:Int)<(Dt:Int)+1):=⟨by omega,by show (N:Int)<(4294967296:Int)+1;omega⟩
 simp only [hm,and_self,eq_self,true_and,Ac,Bk,Dv,Bv,Ep,Aw,Nat.lt_add_one,Ax]
 refine Cg N (λv=>v.1) (λj v=>v=((j:Int),aB N,(N:Int),(List.range j).map (eT N),())) rfl rfl ?_
 rintro j v K hj hi rfl hK
 dsimp only
 refine Br.dec (λhl=>?_) λhl=>?_
 ·refine ⟨_,Ab ⟨by show (1:Int)<=N;omega,by show (N:Int)<=20;omega⟩,⟨by omega,by omega⟩,by rw [Ac];omega,?_,?_⟩
  ·show _<=4294967296
   simp only [Ck,List.length_range]
   omega
  ·rw [Cb (by omega)]
   refine hK (by omega) _ rfl ?_
   rw [Jq,Ir]
   rfl
 ·have:j=N:=by omega
  subst this
  refine Cg gens.length (λv=>v.1) (λi v=>v=((i:Int),(Va j (gens.take i)).1,(j:Int),(Va j (gens.take i)).2,())) rfl rfl ?_
  rintro i v K' cM Azo rfl hK'
  dsimp only
  refine Br.dec (λLl=>?_) λLl=>?_
  ·have Ll:i<gens.length:=by omega
   obtain ⟨g,vT,Xu⟩:=hg gens[i] (Am Ll)
   have hv:=DE h1 h2 (gens:=gens.take i) λo ho=>hg o (Gf ho)
   refine ⟨_,Cf Ll,_,Ab ⟨j,0,g,vT,h1,h2,rfl,rfl,Kr _,hv,Xu,λi hi=>absurd hi (Et _)⟩,?_⟩
   rw [Cb (by omega)]
   refine hK' Ll _ rfl ?_
   rw [DF Ll]
   simp only [Int.sub_zero,Ac]
   rfl
  ·have:i=gens.length:=by omega
   subst this
   rw [Bh]
theorem rV:Dx Try.prog 193 jz:=
 Dx.oP q6 (Ba rQ (Gy OI Cc)) mixed Try.func193 (by kernel_rfl) (by kernel_rfl) λx h=>HM x.1 x.2.1 h
def cb (T:Fu):Nat->Nat
 |0=>1
 |j+1=>cb T j*(Nm (T.getD j [])).length
noncomputable abbrev kF:Spec:=Hg (.pair (.ptr BZ) (.pair tI .unit)) tI false true (λx=>x.2.1=0/\ ∃N:Nat,(1<=N/\N<=20)/\x.1.1=N/\V N N 0 (x.1.2.1,x.1.2.2.1)) (λx=>(cb x.1.2.2.1 x.1.1.toNat:Int))
noncomputable abbrev FN:MSpec:= {Jy:= [none,none],ins:= [(false, .Gw tI),(false, .Gw yz)],Ij:=false,Iu:= [none,none,none],outs:= [.Gw tI, .Bu tO teG false, .Bu tO teG false],fn:= λ_=>none,rp:=some 198}
def aQ (n:Int) (g:List (List Int)):Fu×Fu:=Va n.toNat (g.map some)
noncomputable abbrev Yx:MSpec:=oP FN (λx=>(1<=x.1/\x.1<=20)/\List.length x.2.1<=4294967296/\ ∀g∈(x.2.1:List (List Int)),Pm x.1.toNat g)
 (λx=>((x.1,(aQ x.1 x.2.1).1,(aQ x.1 x.2.1).2,()),()))
noncomputable def Wt (p:PP):Int:=if Cd p=true then (cb (aQ p.1 p.2.2.1).2 p.1.toNat:Int) else 0
noncomputable abbrev Sy:Spec:=Hg (.pair Iw .unit) tI false true (λx=>Gb x.1) (λx=>Wt x.1)
theorem Ag8 (c:Int×List (List (Option (List Int)))×List (List (Option (List Int)))×Unit) (l:Int) (P:Int->Prop):(Ea (λ(v3:Int×Int×PUnit) (k4:Int×Int×PUnit->Prop)=>Br (decide (v3.2.1<c.1)) (∃(y5:List (Option (List Int))),idx c.2.2.1 v3.2.1=some y5/\ ∃(y6:(List Int×PUnit)×PUnit),Qw.fn (y5,())=some y6/\ ∃(y7:Int),To.fn (List.take y6.1.1.length (List.drop 0 y6.1.1),())=some y7/\k4 (IntKind.i64.wrap (v3.1*y7),IntKind.i64.wrap (v3.2.1+(1:Int)),())) (P v3.1)) ((1:Int),l,PUnit.unit))=fnW bh (look [(213,Qw),(140,To)]) kF Try.f194 (c,l,()) P:=by kernel_rfl
theorem CT (p:Int×ByteArray×List (List Int)×Unit) (P:Int->Prop):(∃(y2:Bool),Jf.fn ((p.1,p.2.1,p.2.2.1,()),())=some y2/\Br (!y2) (P (0:Int)) (∃(y3:(Int×List (List (Option (List Int)))×List (List (Option (List Int)))×PUnit)×PUnit),Yx.fn (p.1,p.2.2.1,())=some y3/\ ∃(y4:Int),kF.fn ((y3.1.1,List.take y3.1.2.1.length (List.drop 0 y3.1.2.1),List.take y3.1.2.2.1.length (List.drop 0 y3.1.2.2.1),()),(0:Int),())=some y4/\P y4))=fnW Gz (look [(119,Jf),(193,Yx),(194,kF)]) Sy Try.f154 (p,()) P:=by kernel_rfl
theorem Ag0 (n i:Nat):(upto n).countP (λy=>decide ((i:Int)<=y))=n-i:=by
 induction n with
 |zero=>simp [upto]
 |succ n ih=>
  rw [bC,List.countP_append,ih]
  simp only [List.countP_cons,List.countP_nil,Rc]
  split<;>omega
theorem Af7 {n i:Nat} {gs:List PO} {row:Row} {H:List Int->Prop} (hi:i<n) (h:Lvl n i gs row H):(Nm row).length<=n-i:=by
 rw [<-Ag0 n i]
 unfold Nm
 rw [h.rl,<-List.countP_eq_length_filter]
 refine List.countP_mono_left λy hy hs=>?_
 obtain ⟨h1,h2⟩:=Lo.1 hy
 obtain ⟨t,ht⟩:=Xl.1 hs
 obtain ⟨t1,t2,t3,_⟩:=h.rt _ _ ht
 refine Bp ?_
 refine Bs λhn=>?_
 have hy':y.toNat<i:=by omega
 have:=t1.inj hi (by omega:y.toNat<n) (by rw [t3,t2 _ hy'])
 omega
def fact:Nat->Nat
 |0=>1
 |n+1=>(n+1)*fact n
theorem ER: ∀n,1<=fact n
 |0=>Aq _
 |n+1=>by have:=ER n;simp only [fact];exact Iq this (Nat.le_mul_of_pos_left _ (by omega))
theorem TJ {a b:Nat} (h:a<=b):fact a<=fact b:=by
 induction h with
 |refl=>exact Aq _
 |step _ ih=>simp only [fact];exact Iq ih (Nat.le_mul_of_pos_left _ (by omega))
theorem Ab2 {n:Nat} {s:Fu×Fu} (hc:kK n n 0 s): ∀j,j<=n->cb s.2 j*fact (n-j)<=fact n
 |0,_=>by simp [cb]
 |j+1,hj=>by
  have ih:=Ab2 hc j (by omega)
  have h1:=Af7 (by omega) (nq n 0 hc j (by omega) (by omega))
  have e:n-j=(n-(j+1))+1:=by omega
  simp only [cb]
  rw [e] at ih h1
  simp only [fact] at ih
  rw [Nat.mul_assoc]
  exact Iq (Nat.mul_le_mul_left _ (Fl _ h1)) ih
theorem UP {n:Nat} (h2:n<=20) {s:Fu×Fu} (hc:kK n n 0 s) {j:Nat} (hj:j<=n):cb s.2 j<=2432902008176640000:=by
 have h1:=Ab2 hc j hj
 have h3:=ER (n-j)
 have h4:fact n<=2432902008176640000:=Iq (TJ h2) (by decide)
 have h5:cb s.2 j*1<=cb s.2 j*fact (n-j):=Nat.mul_le_mul_left _ h3
 omega
theorem Afe (c:Int×List (List (Option (List Int)))×List (List (Option (List Int)))×Unit) (l:Int) (h:l=0/\ ∃N:Nat,(1<=N/\N<=20)/\c.1=N/\V N N 0 (c.2.1,c.2.2.1)):
  fnW bh (look [(213,Qw),(140,To)]) kF Try.f194 (c,l,()) (λ(z:Int)=>z=(cb c.2.2.1 c.1.toNat:Int)):=by
 obtain ⟨rfl,N,⟨h1,h2⟩,hN,v⟩:=h
 obtain ⟨n,G,T,⟨⟩⟩:=c
 dsimp only at hN v⊢
 subst hN
 refine Eq.mp (Ag8 ((N:Int),G,T,()) 0 _) ?_
 obtain ⟨v1,v2,v3,v4⟩:=v
 dsimp only at v1 v2⊢
 rw [Ac]
 refine Cg N (λv=>v.2.1) (λj v=>v.1=(cb T j:Int)) rfl rfl ?_
 rintro j ⟨o,i,⟨⟩⟩ K hj hi ho hK
 dsimp only at hi ho⊢
 subst hi ho
 refine Br.dec (λhl=>?_) λhl=>?_
 ·have hl:j<N:=by omega
  have hT:j<T.length:=by omega
  have Su:=nq N 0 v3 j (by omega) (by omega)
  have hrl:=Su.rl
  dsimp only at hrl
  rw [FA hT] at hrl
  refine ⟨_,Cf hT,_,Ab (by show (T[j]).length<=20;omega),_,Ab trivial,?_⟩
  rw [Du,Bh,Cb (by omega)]
  have hb:=UP h2 v3 (j:=j+1) (by omega)
  simp only [cb] at hb
  rw [FA hT] at hb
  have e:(cb T j:Int)*((Nm T[j]).length:Int)=((cb T j*(Nm T[j]).length:Nat):Int):=by push_cast;rfl
  show K (IntKind.i64.wrap ((cb T j:Int)*((Nm T[j]).length:Int)),_,())
  rw [e,Cj (by omega) (by omega)]
  refine hK hl _ rfl ?_
  simp only [cb]
  rw [FA hT]
 ·have:j=N:=by omega
  subst this
  rfl
theorem IJ:Sound Try.prog 194 kF:=
 Sound.Hg q6 (Gy lD (Ba gf Cc)) mixed Try.func194 (by kernel_rfl) (by kernel_rfl) λx h=>Afe x.1 x.2.1 h
theorem Cells.told {w:World} {S:Nat->Prop} {e:Ty} {cs:List Value} {xs:List e.den} (h:Cells w S (.slice e) cs xs): ∃o:Option (List e.den),Cells w S (.oslice e) cs o/\o.getD []=xs:=by
 simp only [Cells] at h
 obtain ⟨a,len,cap,rfl,h1,h2,h3⟩:=h
 cases a with
 |none=>
  rcases h3 with rfl|⟨g,o,h,_⟩
  ·refine ⟨none,?_,rfl⟩
   simp only [Cells]
   exact .inl ⟨trivial,cap,by rw [h1];rfl⟩
  ·cases h
 |some ad=>
  refine ⟨some xs,?_,rfl⟩
  simp only [Cells]
  exact .inr ⟨xs,ad,len,cap,rfl,rfl,h1,h2,h3.imp id λ⟨g,o,h,h4⟩=>⟨g,o,Bd h,h4⟩⟩
theorem KG {α β:Type} (Q:Nat->α->β->Prop): ∀(xs:List α),(∀i x,xs[i]?=some x-> ∃y,Q i x y)-> ∃ys:List β,ys.length=xs.length/\ ∀i x y,xs[i]?=some x->ys[i]?=some y->Q i x y:=by
 intro xs h
 refine ⟨List.ofFn λi:Fin xs.length=>Classical.choose (h i xs[i] (Ad i.2)),by simp,λi x y h1 h2=>?_⟩
 obtain ⟨hi,rfl⟩:=Ap.1 h1
 obtain ⟨cM,rfl⟩:=Ap.1 h2
 rw [List.getElem_ofFn]
 exact Classical.choose_spec (h i xs[i] (Ad hi))
theorem Dc.Aq2 {w:World} {S:Nat->Prop} {e:Ty} {v:Value} {xs:List (List e.den)} (h:Dc w S (.slice (.slice e)) v xs): ∃os:List (Option (List e.den)),Dc w S (.slice (.oslice e)) v os/\os.map (·.getD [])=xs:=by
 obtain ⟨cs,hc,rfl⟩:=h
 simp only [Cells] at hc
 obtain ⟨a,len,cap,rfl,h1,h2,h3⟩:=hc
 rcases h3 with rfl|⟨g,o,rfl,hg,hS,h4⟩
 ·refine ⟨[],⟨_,?_,rfl⟩,rfl⟩
  simp only [Cells]
  exact ⟨a,len,cap,rfl,h1,h2, .inl trivial⟩
 ·obtain ⟨os,e1,e2⟩:=KG (λi (x:List e.den) (y:Option (List e.den))=>y.getD []=x/\ ∃es:List Value,es.length=1/\(∀j u,es[j]?=some u->w.cell? ⟨g,o+i*1+j,none⟩=some u)/\Cells w S (.oslice e) es y) xs λi x hx=>by
   obtain ⟨es,k1,k2,k3⟩:=h4 i x hx
   obtain ⟨y,k4,k5⟩:=Cells.told (e:=e) (by simp only [Cells];exact k3)
   exact ⟨y,k5,es,k1,k2,k4⟩
  refine ⟨os,⟨_,?_,rfl⟩,?_⟩
  ·simp only [Cells]
   refine ⟨_,len,cap,rfl,by rw [h1,e1],h2, .inr ⟨g,o,rfl,hg,hS,λi y hy=>?_⟩⟩
   obtain ⟨hi,_⟩:=Ap.1 hy
   obtain ⟨_,es,k1,k2,k3⟩:=e2 i _ y (Ad (by omega)) hy
   simp only [Cells] at k3
   exact ⟨es,k1,k2,k3⟩
  ·refine List.ext_getElem (by simp [e1]) λi g1 g2=>?_
   rw [Td]
   exact (e2 i _ _ (Ad g2) (Ad (by omega))).1
theorem uP:Dx Try.prog 193 Yx:=by
 have h:=rV
 refine ⟨h.enter,λw S π us x r o g vs h1 hg h2 h3 hS h4 h5=>?_⟩
 obtain ⟨n,gens,⟨⟩⟩:=x
 match us,h2 with
 |u1::u2::us,h2=>
  obtain ⟨h6,⟨h7,h8⟩,h9⟩:=h2
  obtain ⟨os,qt,lg⟩:=Dc.Aq2 (e:=tI) h8
  have lg:os.map (·.getD [])=(gens:List (List Int)):=lg
  have rK:(1<=n/\n<=20)/\List.length gens<=4294967296/\ ∀g∈(gens:List (List Int)),Pm n.toNat g:=Bs λhn=>by
   have:Yx.fn (n,gens,())=none:=Ai hn
   rw [this] at h5;cases h5
  have hos:os=gens.map some:=by
   rw [<-lg,List.map_map]
   refine (List.map_id os).symm.trans (Hl λx hx=>?_)
   cases x with
   |some y=>rfl
   |none=>
    have:=rK.2.2 [] (by rw [<-lg];exact Be.2 ⟨none,hx,rfl⟩)
    have h1:=this.n1
    have h2:=this.1
    simp at h2
    omega
  have hv:Yx.fn (n,gens,())=some ((n,(aQ n gens).1,(aQ n gens).2,()),()):=Ab rK
  rw [hv] at h5
  have h5:=Bd h5
  refine h.calls w S π (u1::u2::us) (n,os,()) r o g vs h1 hg ⟨h6,⟨h7,qt⟩,h9⟩ h3 hS h4 ?_
  refine (Ab ⟨rK.1,by rw [hos,Ck];exact rK.2.1,λy hy=>?pp⟩).trans (Dm some ?qq)
  case pp=>
   replace hy:y∈os:=hy
   rw [hos] at hy
   obtain ⟨g,hg,rfl⟩:=Be.1 hy
   exact ⟨g,rfl,rK.2.2 g hg⟩
  case qq=>subst hos;exact h5
theorem np {p:PP} (hv:Valid p):(1<=p.1/\p.1<=20)/\List.length p.2.2.1<=4294967296/\ ∀g∈p.2.2.1,Pm p.1.toNat g:=
 ⟨hv.n,by have:=hv.gG;omega,λg hg=>⟨by have:=hv.len g hg;omega,fN (hv.perm g hg)⟩⟩
theorem uk {n:Nat} {g:List (List Int)} (h: ∀x∈g,Pm n x):PmL n (g.map some):= λo ho=>by
 obtain ⟨x,hx,rfl⟩:=Be.1 ho
 exact ⟨x,rfl,h x hx⟩
theorem yU {p:PP} (hv:Valid p):V p.1.toNat p.1.toNat 0 (aQ p.1 p.2.2.1):=by
 have:=hv.n
 exact DE (by omega) (by omega) (uk (np hv).2.2)
theorem AE (p:PP) (h:Gb p):fnW Gz (look [(119,Jf),(193,Yx),(194,kF)]) Sy Try.f154 (p,()) (λ(z:Int)=>z=Wt p):=by
 refine Eq.mp (CT p _) ⟨_,Ab h,?_⟩
 show Br (!Cd p) _ _
 unfold Wt
 cases hv:Cd p with
 |false=>exact Br.of (λ_=>rfl) λhh=>by cases hh
 |true=>
  refine Br.of (λhh=>by cases hh) λ_=>?_
  have hV:=valid hv
  have hn:=hV.n
  refine ⟨_,Ab (np hV),_,Ab ⟨rfl,p.1.toNat,⟨by omega,by omega⟩,(Rp (by omega:(0:Int)<=p.1)).symm,?vv⟩,?_⟩
  case vv=>
   simp only [Du,Bh]
   exact yU hV
  simp only [Du,Bh]
  exact (Ab trivial).symm
theorem pW:Sound Try.prog 154 Sy:=
 Sound.Hg Ff (Ba eR (Gy uP (Ba IJ Cc))) mixed Try.func154 (by kernel_rfl) (by kernel_rfl) λx h=>AE x.1 h
theorem Ug {α:Type} [DecidableEq α]: ∀ {l1 l2:List α},l1.Nodup->(∀x∈l1,x∈l2)->l1.length<=l2.length
 | [],_,_,_=>Kr _
 |a::l,l2,hn,hs=>by
  obtain ⟨h1,h2⟩:=Cm.1 hn
  have ha:=hs a (by simp)
  have:=Ug (l1:=l) (l2:=l2.erase a) h2 λy hy=>by
   have hya:y≠a:= λe'=>h1 (by rw [<-e'];exact hy)
   exact (List.mem_erase_of_ne hya).2 (hs y (by simp [hy]))
  rw [Xk ha] at this
  have:=List.length_pos_of_mem ha
  simp only [Aw]
  omega
def py (n:Nat) (T:Fu):Nat->Nat->List (List Int)
 |0,_=> [upto n]
 |k+1,l=>(Nm (T.getD l [])).flatMap λy=>(py n T k (l+1)).map λq=>Ak q (((T.getD l []).getD y.toNat none).getD [])
def y0 (T:Fu):Nat->Nat->Nat
 |0,_=>1
 |k+1,l=>(Nm (T.getD l [])).length*y0 T k (l+1)
theorem GM (n:Nat) (T:Fu): ∀k l,(py n T k l).length=y0 T k l
 |0,_=>rfl
 |k+1,l=>by
  simp only [py,y0,List.length_flatMap,Ck,GM n T k (l+1)]
  generalize Nm (T.getD l [])=o
  induction o with
  |nil=>simp
  |cons a o ih=>simp only [Ca,List.sum_cons,ih,Aw,Nat.succ_mul];omega
theorem xS (T:Fu): ∀k j,cb T (j+k)=cb T j*y0 T k j
 |0,j=>by simp [y0]
 |k+1,j=>by
  have:=xS T k (j+1)
  rw [show j+(k+1)=j+1+k by omega,this]
  simp only [cb,y0]
  rw [Nat.mul_assoc]
theorem HF (n:Nat) (T:Fu):(py n T n 0).length=cb T n:=by
 rw [GM,show cb T n=cb T (0+n) by rw [Bk],xS]
 simp [cb]
theorem tY {n:Nat} (h1:1<=n) (h2:n<=20) {s:Fu×Fu} : ∀(k l:Nat),l+k=n->kK n k l s-> ∀p,p∈py n s.2 k l↔Pm n p/\Fx l p/\Oa s.2 k l p=true
 |0,l,hk,hc,p=>by
  have hl:l=n:=by omega
  subst hl
  simp only [py,Af]
  exact ⟨λe=>by subst e;exact ⟨Pm.id h1 h2,λi hi=>kX hi,rfl⟩,λh=>h.2.1.all h.1⟩
 |k+1,l,hk,hc,p=>by
  obtain ⟨c1,c2,c3⟩:=hc
  have ih:=tY h1 h2 k (l+1) (by omega) c1
  have eY:l<n:=by omega
  simp only [py,Gj,Be]
  constructor
  ·rintro ⟨y,hy,q,hq,rfl⟩
   obtain ⟨yn,rfl,hyn⟩:=Ut.1 hy
   obtain ⟨t,ht⟩:=Ns.1 hyn
   obtain ⟨t1,t2,t3,t4⟩:=c2.rt _ _ ht
   obtain ⟨q1,q2,q3⟩:=(ih q).1 hq
   rw [Ac,ht,Dh]
   have hap:ap (Ak q t) l=yn:=by rw [Kf q1 t1 eY,q2 l (by omega),t3]
   refine ⟨q1.comp t1,λi hi=>by rw [Kf q1 t1 (by omega),q2 i (by omega),t2 i hi],?_⟩
   simp only [Oa]
   rw [show (Cu (Ak q t) (l:Int)).toNat=ap (Ak q t) l from rfl,hap,ht]
   show Oa s.2 k (l+1) (Ak (Ak q t) (Bw t))=true
   rw [Hx q1 t1 t1.inv,iH t1,comp_id q1]
   exact q3
  ·rintro ⟨p1,p2,p3⟩
   simp only [Oa] at p3
   rw [show (Cu p (l:Int)).toNat=ap p l from rfl] at p3
   split at p3
   ·cases p3
   ·rename_i t ht
    obtain ⟨t1,t2,t3,t4⟩:=c2.rt _ _ ht
    refine ⟨(ap p l:Int),Ut.2 ⟨ap p l,rfl,by rw [ht];simp⟩,Ak p (Bw t),(ih _).2 ⟨p1.comp t1.inv,Fx.div p1 t1 p2 t2 eY t3,p3⟩,?_⟩
    rw [Ac,ht,Dh,Hx p1 t1.inv t1,bY t1,comp_id p1]
theorem tZ {n:Nat} (h1:1<=n) (h2:n<=20) {s:Fu×Fu} : ∀(k l:Nat),l+k=n->kK n k l s->(py n s.2 k l).Nodup
 |0,l,hk,hc=>by simp [py]
 |k+1,l,hk,hc=>by
  obtain ⟨c1,c2,c3⟩:=hc
  have ih:=tZ h1 h2 k (l+1) (by omega) c1
  have hm:=tY h1 h2 k (l+1) (by omega) c1
  have eY:l<n:=by omega
  have rep: ∀y∈Nm (s.2.getD l []),∃(yn:Nat) (t:List Int),y=yn/\((s.2.getD l []).getD y.toNat none).getD []=t/\Pm n t/\ap t l=yn:= λy hy=>by
   obtain ⟨yn,rfl,hyn⟩:=Ut.1 hy
   obtain ⟨t,ht⟩:=Ns.1 hyn
   obtain ⟨t1,t2,t3,t4⟩:=c2.rt _ _ ht
   exact ⟨yn,t,rfl,by rw [Ac,ht];rfl,t1,t3⟩
  simp only [py]
  refine List.pairwise_flatMap.2 ⟨λy hy=>?_,?_⟩
  ·obtain ⟨yn,t,rfl,e,t1,t3⟩:=rep y hy
   rw [e]
   refine List.pairwise_map.2 (ik ?_ ih)
   intro a b ha hb Ip he
   have ha:=((hm a).1 ha).1
   have hb:=((hm b).1 hb).1
   have h3:=Dm (λz=>Ak z (Bw t)) he
   simp only [Hx ha t1 t1.inv,Hx hb t1 t1.inv,iH t1,comp_id ha,comp_id hb] at h3
   exact Ip h3
  ·refine ik ?_ ((mO _).filter _)
   intro y z hy hz Ip a ha b hb he
   obtain ⟨yn,t,rfl,e,t1,t3⟩:=rep y hy
   obtain ⟨zn,u,rfl,e',u1,u3⟩:=rep z hz
   rw [e] at ha
   rw [e'] at hb
   obtain ⟨q,hq,rfl⟩:=Be.1 ha
   obtain ⟨q',km,rfl⟩:=Be.1 hb
   obtain ⟨a1,a2,_⟩:=(hm q).1 hq
   obtain ⟨b1,b2,_⟩:=(hm q').1 km
   have h3:=Dm (λz=>ap z l) he
   simp only [Kf a1 t1 eY,Kf b1 u1 eY,a2 l (by omega),b2 l (by omega),t3,u3] at h3
   exact Ip (by rw [h3])
theorem oV {g:List (List Int)} (Q:List Int->Prop) {x:List Int} {d:Int} : ∀(ls:List Int) (L:List (List Int)) (D:List Int),(∀l∈ls,Q (Ak x (Av g l)))->(∀y∈L,Q y)->
  (∀y∈(Ih g x d ls L D).1,Q y)/\(∀y∈L,y∈(Ih g x d ls L D).1)/\((Ih g x d ls L D).2.2=true-> ∀l∈ls,Ak x (Av g l)∈(Ih g x d ls L D).1)/\
   ((Ih g x d ls L D).2.2=false->(Ih g x d ls L D).1.length=3000/\ ∃z,Q z/\z∉(Ih g x d ls L D).1)
 | [],L,D,_,h=>⟨h,λ_ h=>h,(λ_ l hl=>by cases hl),(λe=>by cases e)⟩
 |l::ls,L,D,hq,h=>by
  have km: ∀l∈ls,Q (Ak x (Av g l)):= λl' h'=>hq l' (As _ h')
  simp only [Ih]
  split
  ·rename_i hm
   obtain ⟨a1,a2,a3,a4⟩:=oV Q (d:=d) ls L D km h
   refine ⟨a1,a2,λe l' Ll=>?_,a4⟩
   rcases Bb.1 Ll with rfl|Ll
   ·exact a2 _ hm
   ·exact a3 e l' Ll
  ·rename_i hn
   split
   ·rename_i hf
    exact ⟨h,λ_ h=>h,(λe=>by cases e),λ_=>⟨hf,_,hq l (by simp),hn⟩⟩
   ·obtain ⟨a1,a2,a3,a4⟩:=oV Q (d:=d) ls (L++ [Ak x (Av g l)]) (D++ [d+1]) km λy hy=>by
     rcases Az.1 hy with hy|hy
     ·exact h y hy
     ·rw [Af.1 hy];exact hq l (by simp)
    refine ⟨a1,λy hy=>a2 y (Bj _ hy),λe l' Ll=>?_,a4⟩
    rcases Bb.1 Ll with rfl|Ll
    ·exact a2 _ (Cn _ (by simp))
    ·exact a3 e l' Ll
theorem x8 {p:PP} (hV:Valid p) {m:Nat} {ls:List Int} (hl: ∀l∈ls,Fy (List.length p.2.2.1) l) (Q:List Int->Prop) (hQ: ∀x,Q x-> ∀l∈ls,Q (Ak x (Av p.2.2.1 l))):
  ∀(f k:Nat) (L:List (List Int)) (D:List Int),3001<=f+k->k<=L.length->Xq p m L D->(∀y∈L,Q y)->(∀(j:Nat) (h:j<L.length),j<k-> ∀l∈ls,Ak L[j] (Av p.2.2.1 l)∈L)->
  (∀y∈(Le p.2.2.1 ls f k L D).1,Q y)/\((Le p.2.2.1 ls f k L D).2.2=true-> ∀x∈(Le p.2.2.1 ls f k L D).1,∀l∈ls,Ak x (Av p.2.2.1 l)∈(Le p.2.2.1 ls f k L D).1)/\
   ((Le p.2.2.1 ls f k L D).2.2=false->(Le p.2.2.1 ls f k L D).1.length=3000/\ ∃z,Q z/\z∉(Le p.2.2.1 ls f k L D).1)
 |0,k,L,D,hf,hkL,hb,hq,hc=>by
  have:=hb.ok.gG
  omega
 |f+1,k,L,D,hf,hkL,hb,hq,hc=>by
  simp only [Le]
  split
  ·rename_i hk
   have TQ:k<D.length:=by rw [hb.len];exact hk
   have hd:=hb.dep k TQ
   have e:D.getD k 0=D[k]:=by rw [Al,Ad TQ];rfl
   rw [Wn hk,e]
   obtain ⟨k1,⟨A,k2⟩,_⟩:=nk hV (hb.row _ (Am hk)) (hb.ok.len _ (Am hk)) (d:=D[k]) ls L D hl hb ⟨by omega,by omega⟩
   obtain ⟨a1,a2,a3,a4⟩:=oV (g:=p.2.2.1) Q (x:=L[k]) (d:=D[k]) ls L D (hQ _ (hq _ (Am hk))) hq
   split
   ·rename_i L' D' he
    rw [he] at k1 k2 a1 a2 a3 a4
    have k2:L'=L++A:=k2
    refine x8 hV hl Q hQ f (k+1) L' D' (by omega) (by rw [k2,Ax];omega) k1 a1 λj hj hjk l Ll=>?_
    by_cases e':j<k
    ·have e2:L'[j]=L[j]:=by simp only [k2];rw [Xj (by omega)]
     rw [e2];exact a2 _ (hc j (by omega) e' l Ll)
    ·have:j=k:=by omega
     subst this
     have e2:L'[j]=L[j]:=by simp only [k2];rw [Xj (by omega)]
     rw [e2];exact a3 rfl l Ll
   ·rename_i L' D' he
    rw [he] at a1 a4
    exact ⟨a1,(λe=>by cases e),λ_=>a4 rfl⟩
  ·rename_i hk
   refine ⟨hq,λ_ x hx l Ll=>?_,λe=>by cases e⟩
   obtain ⟨j,hj,rfl⟩:=Bf.1 hx
   have hj:j<L.length:=hj
   exact hc j hj (by omega) l Ll
theorem Ady {p:PP} (hv:Cd p=true) {s:List Int} (hs:s.length<=20) (hr: ∀y∈s,0<=y/\y<p.1) (Q:List Int->Prop) (hQs:Q s) (hQ: ∀x,Q x-> ∀l∈Ao p.2.2.1.length,Q (Ak x (Av p.2.2.1 l))):
  (∀y∈(Jc p.2.2.1 s).1,Q y)/\((Jc p.2.2.1 s).2.2=true-> ∀x∈(Jc p.2.2.1 s).1,∀l∈Ao p.2.2.1.length,Ak x (Av p.2.2.1 l)∈(Jc p.2.2.1 s).1)/\
   ((Jc p.2.2.1 s).2.2=false->(Jc p.2.2.1 s).1.length=3000/\ ∃z,Q z/\z∉(Jc p.2.2.1 s).1):=
 x8 (valid hv) (λ_ hl=>Iz hl) Q hQ 3001 0 [s] [0] (by omega) (Kr _) (kb hs hr) (λy hy=>by rw [Af.1 hy];exact hQs) λj _ hj=>absurd hj (Et _)
theorem eP {g:List (List Int)} {x:List Int} :some x∈g.map some↔x∈g:=by simp
theorem ML {n:Nat} {g:List (List Int)} {x:List Int} (h:Gn n (g.map some) x) {l:Int} (hl:l∈Ao g.length):Gn n (g.map some) (Ak x (Av g l)):=by
 obtain ⟨k,hk,rfl|rfl⟩:=Og (Iz hl)
 ·rw [My hk];exact .mul h (eP.2 (Am hk))
 ·rw [Mx hk];exact .inv h (eP.2 (Am hk))
theorem Vp {n k:Nat} (hk:k<n):(k:Int)+1∈Ao n/\ -((k:Int)+1)∈Ao n:=by
 unfold Ao
 exact ⟨Gj.2 ⟨k,Fb.2 hk,by simp⟩,Gj.2 ⟨k,Fb.2 hk,by simp⟩⟩
theorem LK {n:Nat} {g:List (List Int)} {L:List (List Int)} (h0:upto n∈L) (hc: ∀x∈L,∀l∈Ao g.length,Ak x (Av g l)∈L) {p:List Int} (hp:Gn n (g.map some) p):p∈L:=by
 induction hp with
 |id=>exact h0
 |mul _ hg ih=>
  obtain ⟨k,hk,rfl⟩:=Bf.1 (eP.1 hg)
  have:=hc _ ih _ (Vp hk).1
  rwa [My hk] at this
 |inv _ hg ih=>
  obtain ⟨k,hk,rfl⟩:=Bf.1 (eP.1 hg)
  have:=hc _ ih _ (Vp hk).2
  rwa [Mx hk] at this
structure Reach (p:PP) (L:List (List Int)) (D:List Int) (whole:Bool):Prop where
 ok:Xq p p.1.toNat L D
 nodup:L.Nodup
 first: ∃A,L=upto p.1.toNat::A
 gen: ∀x∈L,Gn p.1.toNat (p.2.2.1.map some) x
 all:whole=true-> ∀x,Gn p.1.toNat (p.2.2.1.map some) x->x∈L
 big:whole=false->L.length=3000/\ ∃z,Gn p.1.toNat (p.2.2.1.map some) z/\z∉L
theorem Gg.nodup {m:Nat} {L:List (List Int)} {Nj:List Int} (h:Gg m L Nj):L.Nodup:=
 Ez.2 λi j hi hj eX e=>by have:=h.inj hi hj e;omega
theorem Wy {p:PP} (hv:Cd p=true):Reach p (Jc p.2.2.1 (upto p.1.toNat)).1 (Jc p.2.2.1 (upto p.1.toNat)).2.1 (Jc p.2.2.1 (upto p.1.toNat)).2.2:=by
 have hV:=valid hv
 have hn:=hV.n
 have hl:(upto p.1.toNat).length=p.1.toNat:=Nf _
 have hr: ∀y∈upto p.1.toNat,0<=y/\y<p.1:= λy hy=>by have:=Lo.1 hy;omega
 obtain ⟨b1,b2⟩:=YL hv (by omega) hr
 rw [hl] at b1
 obtain ⟨a1,a2,a3⟩:=Ady hv (by omega) hr (λx=>Gn p.1.toNat (p.2.2.1.map some) x) .id λx hx l hl=>ML hx hl
 exact ⟨b1,b1.ok.nodup,b2,a1,λhw x hx=>LK (by obtain ⟨A,e⟩:=b2;rw [e];simp) (a2 hw) hx,a3⟩
theorem cT {p:PP} (hV:Valid p) {x:List Int} :x∈py p.1.toNat (aQ p.1 p.2.2.1).2 p.1.toNat 0↔Gn p.1.toNat (p.2.2.1.map some) x:=by
 have hn:=hV.n
 have hg:=uk (np hV).2.2
 have hS:PY p.1.toNat λg=>some g∈p.2.2.1.map some:=⟨⟨by omega,by omega⟩,λg eW=>by obtain ⟨g',e,h⟩:=hg _ eW;cases e;exact h⟩
 refine (tY (by omega) (by omega) _ 0 (by omega) (yU hV).2.2.1 x).trans ⟨λh=>(tm (by omega) (by omega) hg h.1).1 h.2.2,λh=>?_⟩
 have hp:=dP.pm hS h
 exact ⟨hp,λi hi=>absurd hi (Et _),(tm (by omega) (by omega) hg hp).2 h⟩
theorem wa {p:PP} (hV:Valid p):(py p.1.toNat (aQ p.1 p.2.2.1).2 p.1.toNat 0).Nodup:=by
 have hn:=hV.n
 exact tZ (by omega) (by omega) _ 0 (by omega) (yU hV).2.2.1
theorem count_eq {p:PP} (hv:Cd p=true):Wt p=((py p.1.toNat (aQ p.1 p.2.2.1).2 p.1.toNat 0).length:Int):=by
 unfold Wt
 rw [Ab hv,HF]
theorem ED {p:PP} (hv:Cd p=true):(Jc p.2.2.1 (upto p.1.toNat)).2.2=decide (1<=Wt p/\Wt p<=3000):=by
 have hV:=valid hv
 have h:=Wy hv
 rw [count_eq hv]
 have rH:=wa hV
 have h1:=Ug h.nodup λx hx=>(cT hV).2 (h.gen x hx)
 obtain ⟨A,hA⟩:=h.first
 have vW:1<=(Jc p.2.2.1 (upto p.1.toNat)).1.length:=by rw [hA];simp
 cases hw:(Jc p.2.2.1 (upto p.1.toNat)).2.2 with
 |true=>
  have h2:=Ug rH λx hx=>h.all hw x ((cT hV).1 hx)
  have h3:=h.ok.ok.gG
  exact (Bp ⟨by omega,by omega⟩).symm
 |false=>
  obtain ⟨h2,z,h3,h4⟩:=h.big hw
  have h5:=Ug (l1:=z::(Jc p.2.2.1 (upto p.1.toNat)).1) (Cm.2 ⟨h4,h.nodup⟩) λx hx=>by
   rcases Bb.1 hx with rfl|hx
   ·exact (cT hV).2 h3
   ·exact (cT hV).2 (h.gen x hx)
  simp only [Aw] at h5
  exact (Eu (by omega)).symm
def zN (g:List (List Int)) (s:List Int):List (List Int):=(Ao g.length).map λl=>Ak s (Av g l)
noncomputable abbrev kE:Spec:=Hg (.pair Iw (.pair tL .unit)) yz false true (λx=>Cd x.1=true/\List.length x.2.1<=20/\ ∀y∈x.2.1,0<=y/\y<x.1.1) (λx=>zN x.1.2.2.1 x.2.1)
abbrev EX:Type:=List (List Int)×List Int×List Int×List Int
def cz (g:List (List Int)) (k:Int) (x:List Int) (d:Int):List Int->EX->List Int->EX×List Int
 | [],s,row=>(s,row)
 |l::ls,s,row=>if Ak x (Av g l)∈s.1 then cz g k x d ls s (row++ [(s.1.idxOf (Ak x (Av g l)):Int)])
  else cz g k x d ls (s.1++ [Ak x (Av g l)],s.2.1++ [d+1],s.2.2.1++ [k],s.2.2.2++ [l]) (row++ [(s.1.length:Int)])
def dw (g:List (List Int)) (ls:List Int):Nat->Nat->EX->List (List Int)->EX×List (List Int)
 |0,_,s,N=>(s,N)
 |f+1,k,s,N=>if k<s.1.length then dw g ls f (k+1) (cz g (k:Int) (s.1.getD k []) (s.2.1.getD k 0) ls s []).1 (N++ [(cz g (k:Int) (s.1.getD k []) (s.2.1.getD k 0) ls s []).2]) else (s,N)
def jb (key:ByteArray):List (List Int)->Nat->Option Int
 | [],_=>none
 |x::r,i=>if Tg x=key then some (i:Int) else jb key r (i+1)
def Zp (L:List (List Int)):ByteArray->Option Int:= λkey=>jb key L 0
def Amn (p:PP) (r:EX×List (List Int)):gW.den:=(p,r.1.1,r.1.2.1,Zp r.1.1,r.1.2.2.1,r.1.2.2.2,r.2,())
def Ga (p:PP):gW.den:=Amn p (dw p.2.2.1 (Ao p.2.2.1.length) 3001 0 ([upto p.1.toNat],[0],[0],[0]) [])
noncomputable def Cy (p:PP):Bool:=Cd p&&(Jc p.2.2.1 (upto p.1.toNat)).2.2
noncomputable abbrev Qv:Spec:=Hg (.pair Iw .unit) (.pair (.optr gW) (.pair .bool .unit)) true false (λx=>Gb x.1) (λx=>if Cy x.1=true then (some (Ga x.1),true,()) else (none,false,()))
abbrev IT:Type:=Int×Int×ByteArray×List (List Int)×List (List Int)×PUnit
theorem Ag7 (p:Int×ByteArray×List (List Int)×Unit) (s:List Int) (P:List (List Int)->Prop):(∃(y3:List Int),Iv.fn ((↑p.2.2.1.length:Int),())=some y3/\0=0/\0=([]:List Int).length/\Ea (λ(v4:IT) (k5:IT->Prop)=>Br (decide (v4.1<(↑y3.length:Int))) (∃(y6:Int),idx y3 v4.1=some y6/\ ∃(y7:List Int),Ma.fn (v4.2.2.2.1,y6,())=some y7/\ ∃(y8:List Int),La.fn (s,y7,())=some y8/\0=0/\v4.2.2.2.2.1.length=v4.2.2.2.2.1.length/\v4.2.2.2.2.1.length+(List.take 1 (List.drop 0 [y8])).length<=Dt/\0=0/\(v4.2.2.2.2.1++List.take 1 (List.drop 0 [y8])).length=(v4.2.2.2.2.1++List.take 1 (List.drop 0 [y8])).length/\k5 (IntKind.i64.wrap (v4.1+(1:Int)),v4.2.1,v4.2.2.1,v4.2.2.2.1,v4.2.2.2.2.1++List.take 1 (List.drop 0 [y8]),())) (P (List.take v4.2.2.2.2.1.length (List.drop 0 v4.2.2.2.2.1)))) ((0:Int),p.1,p.2.1,p.2.2.1,[],PUnit.unit))=fnW Gz (look [(121,Iv),(147,Ma),(142,La)]) kE Try.f155 (p,s,()) P:=by kernel_rfl
theorem Afd (p:PP) (s:List Int) (h:Cd p=true/\s.length<=20/\ ∀y∈s,0<=y/\y<p.1):fnW Gz (look [(121,Iv),(147,Ma),(142,La)]) kE Try.f155 (p,s,()) (λ(z:List (List Int))=>z=zN p.2.2.1 s):=by
 obtain ⟨hv,hs,hr⟩:=h
 have hV:=valid hv
 have hf:=hV.gG
 refine Eq.mp (Ag7 p s _) ⟨Ao p.2.2.1.length,Ab ⟨Int.natCast_nonneg _,by show ((p.2.2.1.length:Nat):Int)<=8;omega⟩,rfl,rfl,?_⟩
 have hL:=Ov p.2.2.1.length
 refine Cg (Ao p.2.2.1.length).length (λv=>v.1) (λj v=>v=((j:Int),p.1,p.2.1,p.2.2.1,((Ao p.2.2.1.length).take j).map (λl=>Ak s (Av p.2.2.1 l)),())) rfl (by simp) ?_
 rintro j v K hj hi rfl hK
 dsimp only
 refine Br.dec (λhl=>?_) λhl=>?_
 ·have hl:j<(Ao p.2.2.1.length).length:=by omega
  have XN:=Iz (Am hl)
  obtain ⟨h1,h2⟩:=pt hV XN
  refine ⟨_,Cf hl,_,Ab ⟨XN,hf.2,hV.perm⟩,_,Ab ⟨hs,λy hy=>by have:=hr y hy;show 0<=y/\y<((Av p.2.2.1 (Ao p.2.2.1.length)[j]).length:Int);omega⟩,rfl,rfl,?_,rfl,rfl,?_⟩
  ·show (((Ao p.2.2.1.length).take j).map _).length+1<=4294967296
   rw [Ck,Ec]
   omega
  ·rw [Cb (by omega)]
   refine hK hl _ rfl ?_
   have e:(Ao p.2.2.1.length).take (j+1)=(Ao p.2.2.1.length).take j++ [(Ao p.2.2.1.length)[j]]:=by
    rw [Kc,Ad hl,Tx]
   rw [e,Ir]
   rfl
 ·have:j=(Ao p.2.2.1.length).length:=by omega
  subst this
  rw [Du,Bh,Bh]
  rfl
theorem II:Sound Try.prog 155 kE:=
 Sound.Hg Ff (Ba Uj (Ba uO (Ba Xd Cc))) mixed Try.func155 (by kernel_rfl) (by kernel_rfl) λx h=>Afd x.1 x.2.1 h
theorem Ju {α:Type} {xs ys:List α} {i:Nat} {d:α} (h:i<xs.length):(xs++ys).getD i d=xs.getD i d:=by
 rw [Al,Al,Au h]
theorem ke {α:Type} {xs:List α} {x d:α} :(xs++ [x]).getD xs.length d=x:=by
 rw [Al,At (Aq _),Nat.sub_self];rfl
theorem Ce {α:Type} {xs:List α} {i:Nat} {d:α} (h:i<xs.length):xs.getD i d=xs[i]:=by
 rw [Al,Ad h];rfl
structure Lv (g:List (List Int)) (ls:List Int) (k:Nat) (L:List (List Int)) (D:List Int):Prop where
 len:D.length=L.length
 pos:0<L.length
 mono: ∀i j,i<=j->j<L.length->D.getD i 0<=D.getD j 0
 MR:k<L.length-> ∀j,j<L.length->D.getD j 0<=D.getD k 0+1
 par: ∀j,0<j->j<L.length-> ∃i l,i<j/\l∈ls/\L.getD j []=Ak (L.getD i []) (Av g l)/\D.getD j 0=D.getD i 0+1
 zero:D.getD 0 0=0
theorem Lv.add {g:List (List Int)} {ls:List Int} {k:Nat} {L:List (List Int)} {D:List Int} (h:Lv g ls k L D) (hk:k<L.length) {l:Int} (hl:l∈ls):
  Lv g ls k (L++ [Ak (L.getD k []) (Av g l)]) (D++ [D.getD k 0+1]):=by
 have hlen:=h.len
 have hD: ∀i,i<L.length->(D++ [D.getD k 0+1]).getD i 0=D.getD i 0:= λi hi=>Ju (by omega)
 have hDl:(D++ [D.getD k 0+1]).getD L.length 0=D.getD k 0+1:=by rw [<-hlen];exact ke
 refine ⟨by simp [hlen],by simp,λi j eX hj=>?_,λ_ j hj=>?_,λj h0 hj=>?_,?_⟩
 ·rw [Ax,Bn] at hj
  by_cases e:j=L.length
  ·subst e
   rw [hDl]
   by_cases e':i=L.length
   ·subst e';rw [hDl];exact Ok _
   ·rw [hD i (by omega)]
    exact h.MR hk i (by omega)
  ·rw [hD i (by omega),hD j (by omega)]
   exact h.mono i j eX (by omega)
 ·rw [Ax,Bn] at hj
  rw [hD k hk]
  by_cases e:j=L.length
  ·subst e;rw [hDl];exact Ok _
  ·rw [hD j (by omega)];exact h.MR hk j (by omega)
 ·rw [Ax,Bn] at hj
  by_cases e:j=L.length
  ·subst e
   exact ⟨k,l,hk,hl,by rw [ke,Ju hk],by rw [hDl,hD k hk]⟩
  ·obtain ⟨i,l',h1,h2,h3,h4⟩:=h.par j h0 (by omega)
   exact ⟨i,l',h1,h2,by rw [Ju (by omega),Ju (by omega)];exact h3,by rw [hD j (by omega),hD i (by omega)];exact h4⟩
 ·rw [hD 0 h.pos];exact h.zero
theorem sM {g:List (List Int)} {ls:List Int} {k:Nat} : ∀(RP:List Int) (L:List (List Int)) (D:List Int),(∀l∈RP,l∈ls)->Lv g ls k L D->k<L.length-> ∀ {x:List Int} {d:Int},x=L.getD k []->d=D.getD k 0->
  Lv g ls k (Ih g x d RP L D).1 (Ih g x d RP L D).2.1/\(∃A,(Ih g x d RP L D).1=L++A)/\(∃A,(Ih g x d RP L D).2.1=D++A)/\
  ((Ih g x d RP L D).2.2=true-> ∀l∈RP,∃j,j<(Ih g x d RP L D).1.length/\(Ih g x d RP L D).1.getD j []=Ak x (Av g l)/\(Ih g x d RP L D).2.1.getD j 0<=d+1)
 | [],L,D,_,h,_,x,d,_,_=>⟨h,⟨[],by simp [Ih]⟩,⟨[],by simp [Ih]⟩,λ_ l hl=>by cases hl⟩
 |l::RP,L,D,hs,h,hk,x,d,hx,hd=>by
  have CZ: ∀l∈RP,l∈ls:= λl' h'=>hs l' (As _ h')
  have hlen:=h.len
  simp only [Ih]
  split
  ·rename_i hm
   obtain ⟨a1,⟨A,a2⟩,⟨A',a3⟩,a4⟩:=sM RP L D CZ h hk hx hd
   refine ⟨a1,⟨A,a2⟩,⟨A',a3⟩,λe l' Ll=>?_⟩
   rcases Bb.1 Ll with rfl|Ll
   ·obtain ⟨j,hj,hjx⟩:=Bf.1 hm
    refine ⟨j,by rw [a2,Ax];omega,by rw [a2,Ju hj,Ce hj];exact hjx,?_⟩
    rw [a3,Ju (by omega),hd]
    exact h.MR hk j hj
   ·exact a4 e l' Ll
  ·split
   ·exact ⟨h,⟨[],by simp⟩,⟨[],by simp⟩,λe=>by cases e⟩
   ·have ZE:=h.add hk (hs l (by simp))
    rw [<-hx,<-hd] at ZE
    obtain ⟨a1,⟨A,a2⟩,⟨A',a3⟩,a4⟩:=sM RP (L++ [Ak x (Av g l)]) (D++ [d+1]) CZ ZE (by rw [Ax];omega) (x:=x) (d:=d) (by rw [Ju hk];exact hx) (by rw [Ju (by omega)];exact hd)
    refine ⟨a1,⟨_::A,by rw [a2,Bo];rfl⟩,⟨_::A',by rw [a3,Bo];rfl⟩,λe l' Ll=>?_⟩
    rcases Bb.1 Ll with rfl|Ll
    ·refine ⟨L.length,by rw [a2,Ax,Ax];simp only [Bn];omega,?_,?_⟩
     ·rw [a2,Ju (by simp),ke]
     ·rw [a3,Ju (by simp [hlen]),<-hlen,ke]
      exact Ok _
    ·exact a4 e l' Ll
structure ss (g:List (List Int)) (ls:List Int) (L:List (List Int)) (D:List Int):Prop where
 len:D.length=L.length
 pos:0<L.length
 zero:D.getD 0 0=0
 par: ∀j,0<j->j<L.length-> ∃i l,i<j/\l∈ls/\L.getD j []=Ak (L.getD i []) (Av g l)/\D.getD j 0=D.getD i 0+1
 step: ∀i,i<L.length-> ∀l∈ls,∃j,j<L.length/\L.getD j []=Ak (L.getD i []) (Av g l)/\D.getD j 0<=D.getD i 0+1
theorem DT {g:List (List Int)} {ls:List Int} : ∀(f k:Nat) (L:List (List Int)) (D:List Int),3001<=f+k->Lv g ls k L D->k<=L.length->
  (∀i,i<k-> ∀l∈ls,∃j,j<L.length/\L.getD j []=Ak (L.getD i []) (Av g l)/\D.getD j 0<=D.getD i 0+1)->
  (Le g ls f k L D).2.2=true->(Le g ls f k L D).1.length<=3000->ss g ls (Le g ls f k L D).1 (Le g ls f k L D).2.1
 |0,k,L,D,hf,h,hkL,hc,hw,h3=>by
  simp only [Le] at h3⊢
  omega
 |f+1,k,L,D,hf,h,hkL,hc,hw,h3=>by
  simp only [Le] at hw h3⊢
  split
  ·rename_i hk
   rw [Ab hk] at hw h3
   obtain ⟨a1,⟨A,a2⟩,⟨A',a3⟩,a4⟩:=sM (x:=L.getD k []) (d:=D.getD k 0) ls L D (λ_ h=>h) h hk rfl rfl
   have hlen:=h.len
   split
   ·rename_i L' D' he
    rw [he] at a1 a2 a3 a4
    simp only [he] at hw h3
    have a2:L'=L++A:=a2
    have a3:D'=D++A':=a3
    have a4:=a4 rfl
    dsimp only at a4
    have hLl:L.length<=L'.length:=by rw [a2,Ax];omega
    refine DT f (k+1) L' D' (by omega) ⟨a1.len,a1.pos,a1.mono,λhk1 j hj=>?_,a1.par,a1.zero⟩ (by omega) (λi hi l hl=>?_) hw h3
    ·have h1:D'.getD j 0<=D'.getD k 0+1:=a1.MR (show k<L'.length by omega) j hj
     have h2:D'.getD k 0<=D'.getD (k+1) 0:=a1.mono k (k+1) (by omega) hk1
     omega
    ·by_cases e:i=k
     ·subst e
      obtain ⟨j,b1,b2,b3⟩:=a4 l hl
      refine ⟨j,b1,?_,?_⟩
      ·rw [b2,a2,Ju (by omega)]
      ·rw [show D'.getD i 0=D.getD i 0 by rw [a3,Ju (by omega)]];exact b3
     ·obtain ⟨j,b1,b2,b3⟩:=hc i (by omega) l hl
      refine ⟨j,by omega,?_,?_⟩
      ·rw [a2,Ju (by omega),Ju (by omega)];exact b2
      ·rw [a3,Ju (by omega),Ju (by omega)];exact b3
   ·rename_i L' D' he
    simp only [he] at hw
    cases hw
  ·rename_i hk
   exact ⟨h.len,h.pos,h.zero,h.par,λi hi=>hc i (by have hi:i<L.length:=hi;omega)⟩
theorem sN {p:PP} {s:List Int} (hv:Cd p=true) (hs:s.length<=20) (hr: ∀y∈s,0<=y/\y<p.1) (hw:(Jc p.2.2.1 s).2.2=true):
  ss p.2.2.1 (Ao p.2.2.1.length) (Jc p.2.2.1 s).1 (Jc p.2.2.1 s).2.1:=by
 have hb:=(YL hv hs hr).1.ok.gG
 refine DT 3001 0 [s] [0] (by omega) ⟨rfl,by simp,λi j eX hj=>?_,λ_ j hj=>?_,λj h0 hj=>?_,rfl⟩ (Kr _) (λi hi=>absurd hi (Et _)) hw hb
 ·have:j=0:=by simpa using hj
  subst this
  have:i=0:=by omega
  subst this
  exact Ok _
 ·have:j=0:=by simpa using hj
  subst this
  simp
 ·have:j=0:=by simpa using hj
  omega
theorem qE {p:PP} (hV:Valid p) {x:List Int} (hx: ∀y∈x,0<=y/\y<p.1) {l:Int} (hl:l∈Ao p.2.2.1.length):
  -l∈Ao p.2.2.1.length/\Ak (Ak x (Av p.2.2.1 l)) (Av p.2.2.1 (-l))=x:=by
 obtain ⟨k,hk,Nn⟩:=Og (Iz hl)
 have hg:=fN (hV.perm _ (Am hk))
 have hgl:=hV.len _ (Am hk)
 have hn:=hV.n
 have hp:Pm p.1.toNat (p.2.2.1[k]):=⟨by omega,hg⟩
 have key: ∀q r:List Int,Pm p.1.toNat q->Pm p.1.toNat r->Ak q r=upto p.1.toNat->Ak (Ak x q) r=x:= λq r hq hr he=>by
  refine List.ext_getElem (by rw [Rw,Rw]) λi h1 h2=>?_
  have hxi:=hx _ (Am h2)
  obtain ⟨xi,hxe⟩:=Bi hxi.1
  have RJ:xi<p.1.toNat:=by omega
  have e1:ap (Ak q r) xi=ap (upto p.1.toNat) xi:=Dm (λz=>ap z xi) he
  rw [Kf hq hr RJ,kX RJ] at e1
  simp only [Ak,Td,hxe]
  have h3:=(hq.Re RJ).1
  have h4:=(hr.Re (hq.lt RJ)).1
  rw [h3,h4,e1]
 rcases Nn with rfl|rfl
 ·refine ⟨(Vp hk).2,?_⟩
  rw [My hk,Mx hk]
  exact key _ _ hp hp.inv (iH hp)
 ·refine ⟨by rw [Int.neg_neg];exact (Vp hk).1,?_⟩
  rw [Int.neg_neg,My hk,Mx hk]
  exact key _ _ hp.inv hp (bY hp)
structure Ke (g:List (List Int)) (ls:List Int) (L:List (List Int)) (S:List Int->Prop) (d:List Int->Int):Prop where
 nn: ∀x∈L,0<=d x
 zero: ∀x∈L,d x=0↔S x
 step: ∀x∈L,∀l∈ls,d (Ak x (Av g l))<=d x+1
 down: ∀x∈L,0<d x-> ∃l∈ls,d (Ak x (Av g l))=d x-1
structure lU (g:List (List Int)) (ls:List Int) (L:List (List Int)):Prop where
 next: ∀x∈L,∀l∈ls,Ak x (Av g l)∈L
 back: ∀x∈L,∀l∈ls,-l∈ls/\Ak (Ak x (Av g l)) (Av g (-l))=x
theorem Ke.le {g:List (List Int)} {ls:List Int} {L:List (List Int)} {S:List Int->Prop} {d d':List Int->Int} (hc:lU g ls L) (h:Ke g ls L S d) (h':Ke g ls L S d'):
  ∀(n:Nat) (x:List Int),x∈L->d' x=n->d x<=n
 |0,x,hx,e=>by
  have:=(h.zero x hx).2 ((h'.zero x hx).1 e)
  omega
 |n+1,x,hx,e=>by
  obtain ⟨l,hl,hd⟩:=h'.down x hx (by omega)
  obtain ⟨b1,b2⟩:=hc.back x hx l hl
  have h1:=Ke.le hc h h' n _ (hc.next x hx l hl) (by omega)
  have h2:=h.step _ (hc.next x hx l hl) _ b1
  rw [b2] at h2
  omega
theorem Ke.eq {g:List (List Int)} {ls:List Int} {L:List (List Int)} {S:List Int->Prop} {d d':List Int->Int} (hc:lU g ls L) (h:Ke g ls L S d) (h':Ke g ls L S d') {x:List Int} (hx:x∈L):d x=d' x:=by
 have n1:=h.nn x hx
 have n2:=h'.nn x hx
 have h1:=Ke.le hc h h' (d' x).toNat x hx (by omega)
 have h2:=Ke.le hc h' h (d x).toNat x hx (by omega)
 omega
theorem Ke.MR {g:List (List Int)} {ls:List Int} {L:List (List Int)} {S:List Int->Prop} {d:List Int->Int} (hc:lU g ls L) (h:Ke g ls L S d) {x:List Int} (hx:x∈L) {l:Int} (hl:l∈ls):
  d x-1<=d (Ak x (Av g l)):=by
 obtain ⟨b1,b2⟩:=hc.back x hx l hl
 have h2:=h.step _ (hc.next x hx l hl) _ b1
 rw [b2] at h2
 omega
def Hm (L:List (List Int)) (D:List Int) (x:List Int):Int:=if x∈L then D.getD (L.idxOf x) 0 else-1
theorem Ou {L:List (List Int)} (hn:L.Nodup) {j:Nat} (hj:j<L.length):L.idxOf (L.getD j [])=j:=by
 rw [Ce hj]
 exact hn.idxOf_getElem j hj
theorem Ny {L:List (List Int)} {j:Nat} (hj:j<L.length):L.getD j []∈L:=by rw [Ce hj];exact Am hj
theorem mc {L:List (List Int)} {D:List Int} (hn:L.Nodup) {j:Nat} (hj:j<L.length):Hm L D (L.getD j [])=D.getD j 0:=by
 unfold Hm
 rw [Ab (Ny hj),Ou hn hj]
theorem w9 {p:PP} (hV:Valid p) {m:Nat} {L:List (List Int)} {D:List Int} (hb:Xq p m L D) (h:ss p.2.2.1 (Ao p.2.2.1.length) L D):lU p.2.2.1 (Ao p.2.2.1.length) L where
 next x hx l hl:=by
  obtain ⟨i,hi,rfl⟩:=Bf.1 hx
  obtain ⟨j,h1,h2,_⟩:=h.step i hi l hl
  rw [Ce hi] at h2
  rw [<-h2]
  exact Ny h1
 back x hx l hl:=qE hV (hb.row x hx) hl
theorem FY {p:PP} (hV:Valid p) {m:Nat} {L:List (List Int)} {D:List Int} (hb:Xq p m L D) (h:ss p.2.2.1 (Ao p.2.2.1.length) L D):
  Ke p.2.2.1 (Ao p.2.2.1.length) L (λx=>x=L.getD 0 []) (Hm L D) where
 nn x hx:=by
  obtain ⟨i,hi,rfl⟩:=Bf.1 hx
  rw [<-Ce (d:= []) hi,mc hb.ok.nodup hi]
  have:=hb.dep i (by rw [hb.len];exact hi)
  rw [Ce (by rw [hb.len];exact hi)]
  omega
 zero x hx:=by
  obtain ⟨i,hi,rfl⟩:=Bf.1 hx
  rw [<-Ce (d:= []) hi,mc hb.ok.nodup hi]
  constructor
  ·intro h0
   by_cases e:i=0
   ·rw [e]
   ·obtain ⟨k,l,h1,_,_,h4⟩:=h.par i (by omega) hi
    have hk:k<D.length:=by rw [hb.len];omega
    have:=hb.dep k hk
    rw [<-Ce (d:=0) hk] at this
    omega
  ·intro e
   have:i=0:=by
    have h1:=Ou hb.ok.nodup hi
    have h2:=Ou hb.ok.nodup h.pos
    rw [e,h2] at h1
    exact h1.symm
   rw [this]
   exact h.zero
 step x hx l hl:=by
  obtain ⟨i,hi,rfl⟩:=Bf.1 hx
  rw [<-Ce (d:= []) hi,mc hb.ok.nodup hi]
  obtain ⟨j,h1,h2,h3⟩:=h.step i hi l hl
  rw [<-h2,mc hb.ok.nodup h1]
  exact h3
 down x hx h0:=by
  obtain ⟨i,hi,rfl⟩:=Bf.1 hx
  rw [<-Ce (d:= []) hi,mc hb.ok.nodup hi] at h0⊢
  have hi0:0<i:=by
   rcases Tw i with e|e
   ·subst e;rw [h.zero] at h0;omega
   ·exact e
  obtain ⟨k,l,h1,h2,h3,h4⟩:=h.par i hi0 hi
  have hk:k<L.length:=by omega
  obtain ⟨b1,b2⟩:=qE hV (hb.row _ (Ny hk)) h2
  refine ⟨-l,b1,?_⟩
  rw [h3,b2,mc hb.ok.nodup hk]
  omega
def aS (x:Int):List Int->List Int×List Int->List Int×List Int
 | [],s=>s
 |t::r,s=>if s.1.getD t.toNat 0<0 then aS x r (s.1.set t.toNat (s.1.getD x.toNat 0+1),s.2++ [t]) else aS x r s
def vN (N:Nat->List Int):Nat->List Int->List Int->List Int
 |0,out,_=>out
 |_+1,out,[]=>out
 |f+1,out,x::q=>vN N f (aS x (N x.toNat) (out,q)).1 (aS x (N x.toNat) (out,q)).2
def XH (S:Nat->Bool) (m:Nat):List Int:=(List.range m).map λi=>if S i=true then 0 else-1
def dq0 (S:Nat->Bool) (m:Nat):List Int:=((List.range m).filter S).map λ(i:Nat)=>(i:Int)
def pv (N:Nat->List Int) (S:Nat->Bool) (m:Nat):List Int:=vN N (m+1) (XH S m) (dq0 S m)
def eD (out:List Int):Nat:=out.countP λv=>decide (v<0)
theorem kf {xs:List Int} {i j:Nat} {v:Int} (hj:j<xs.length):(xs.set i v).getD j 0=if i=j then v else xs.getD j 0:=by
 rw [Vn]
 by_cases e:i=j
 ·subst e;rw [Ab ⟨rfl,hj⟩,Ab rfl]
 ·rw [Ai λh=>e h.1,Ai e]
theorem GR {xs:List Int} {i:Nat} {v:Int} (hi:i<xs.length) (h:xs.getD i 0<0) (hv:0<=v):eD (xs.set i v)+1=eD xs:=by
 unfold eD
 rw [List.countP_set hi]
 rw [Ae9 hi] at h
 have hp:0<xs.countP λv=>decide (v<0):=List.countP_pos_iff.2 ⟨xs[i],Am hi,Bp h⟩
 simp only [Bp h,Oz]
 rw [Ai (by simp;omega)]
 omega
structure DI (N:Nat->List Int) (S:Nat->Bool) (m:Nat) (w:Nat->Prop) (out q:List Int):Prop where
 len:out.length=m
 ge: ∀i,i<m-> -1<=out.getD i 0
 inq: ∀y∈q,0<=y/\y<m/\0<=out.getD y.toNat 0
 src: ∀i,i<m->S i=true->out.getD i 0=0
 Afp: ∀i,i<m->out.getD i 0=0->S i=true
 par: ∀i,i<m->0<out.getD i 0-> ∃j,j<m/\(i:Int)∈N j/\out.getD j 0=out.getD i 0-1
 done: ∀i,i<m->0<=out.getD i 0->(i:Int)∉q-> ¬w i-> ∀t∈N i,0<=out.getD t.toNat 0/\out.getD t.toNat 0<=out.getD i 0+1
 ord:q.Pairwise λa b=>out.getD a.toNat 0<=out.getD b.toNat 0
structure DX (N:Nat->List Int) (S:Nat->Bool) (m:Nat) (x:Nat) (d:Int) (out q:List Int):Prop where
 base:DI N S m (λi=>i=x) out q
 lt:x<m
 Re:out.getD x 0=d
 d0:0<=d
 lo: ∀y∈q,d<=out.getD y.toNat 0
 hi: ∀i,i<m->out.getD i 0<=d+1
def dp (N:Nat->List Int) (m:Nat):Prop:= ∀i,i<m-> ∀t∈N i,0<=t/\t<m
theorem QH {N:Nat->List Int} {S:Nat->Bool} {m x:Nat} {d:Int} {out q:List Int} (hr:dp N m) (h:DX N S m x d out q) {t:Int} (ht:t∈N x) (htm:0<=t/\t<m) (rI:out.getD t.toNat 0<0):
  DX N S m x d (out.set t.toNat (d+1)) (q++ [t]):=by
 obtain ⟨⟨b1,b2,b3,b4,b5,b6,b7,b8⟩,h1,h2,h3,h4,h5⟩:=h
 obtain ⟨tn,rfl⟩:=Bi htm.1
 simp only [Ac] at rI⊢
 have htn:tn<m:=by omega
 have hg: ∀i,i<m->(out.set tn (d+1)).getD i 0=if tn=i then d+1 else out.getD i 0:= λi hi=>kf (by omega)
 have Ip: ∀i,0<=out.getD i 0->tn≠i:= λi hi e=>by subst e;omega
 have hq: ∀y∈q,(out.set tn (d+1)).getD y.toNat 0=out.getD y.toNat 0:= λy hy=>by
  have:=b3 y hy
  rw [hg _ (by omega),Ai (Ip _ this.2.2)]
 refine ⟨⟨by rw [Bv];exact b1,λi hi=>?_,λy hy=>?_,λi hi hs=>?_,λi hi h0=>?_,λi hi h0=>?_,λi hi h0 hn hw=>?_,?_⟩,h1,?_,h3,λy hy=>?_,λi hi=>?_⟩
 ·rw [hg i hi];split
  ·omega
  ·exact b2 i hi
 ·rcases Az.1 hy with hy|hy
  ·rw [hq y hy];exact b3 y hy
  ·rw [Af.1 hy]
   refine ⟨by omega,by omega,?_⟩
   rw [hg _ (by omega),Ab (by omega)];omega
 ·have:=b4 i hi hs
  rw [hg i hi,Ai (Ip i (by omega))];exact this
 ·rw [hg i hi] at h0
  split at h0
  ·omega
  ·exact b5 i hi h0
 ·rw [hg i hi] at h0⊢
  by_cases e:tn=i
  ·subst e
   rw [Ab rfl]
   exact ⟨x,h1,ht,by rw [hg x h1,Ai (Ip x (by omega)),h2];omega⟩
  ·rw [Ai e] at h0⊢
   obtain ⟨j,j1,j2,j3⟩:=b6 i hi h0
   exact ⟨j,j1,j2,by rw [hg j j1,Ai (Ip j (by omega))];exact j3⟩
 ·rw [hg i hi] at h0⊢
  have Oj: ¬tn=i:= λe=>hn (by rw [<-e];simp)
  rw [Ai Oj] at h0⊢
  intro t qA
  obtain ⟨c1,c2⟩:=b7 i hi h0 (λh=>hn (Bj _ h)) hw t qA
  have:=hr i hi t qA
  rw [hg _ (by omega),Ai (Ip _ c1)]
  exact ⟨c1,c2⟩
 ·refine dS.2 ⟨?_,List.pairwise_singleton _ _,λa ha b hb=>?_⟩
  ·refine b8.imp_of_mem λha hb h=>?_
   rw [hq _ ha,hq _ hb];exact h
  ·rw [Af.1 hb,hq _ ha,hg _ (by omega),Ab (by omega)]
   have:=b3 a ha
   exact h5 _ (by omega)
 ·rw [hg x h1,Ai (Ip x (by omega))];exact h2
 ·rcases Az.1 hy with hy|hy
  ·rw [hq y hy];exact h4 y hy
  ·rw [Af.1 hy,hg _ (by omega),Ab (by omega)];omega
 ·rw [hg i hi];split
  ·exact Ok _
  ·exact h5 i hi
theorem YX {N:Nat->List Int} {S:Nat->Bool} {m x:Nat} {d:Int} (hr:dp N m): ∀(ts:List Int) (out q:List Int),(∀t∈ts,t∈N x)->DX N S m x d out q->
  DX N S m x d (aS x ts (out,q)).1 (aS x ts (out,q)).2/\(aS x ts (out,q)).2.length+eD (aS x ts (out,q)).1=q.length+eD out/\
  (∀t∈ts,0<=(aS x ts (out,q)).1.getD t.toNat 0)/\(∀i,i<m->0<=out.getD i 0->(aS x ts (out,q)).1.getD i 0=out.getD i 0)
 | [],out,q,_,h=>⟨h,rfl,(λt ht=>nomatch ht),λ_ _ _=>rfl⟩
 |t::ts,out,q,hs,h=>by
  have CZ: ∀t∈ts,t∈N x:= λt' h'=>hs t' (As _ h')
  have htm:=hr x h.lt t (hs t (by simp))
  simp only [aS]
  have hx0:out.getD ((x:Nat):Int).toNat 0=d:=by rw [Ac];exact h.Re
  by_cases rI:out.getD t.toNat 0<0
  ·rw [Ab rI,hx0]
   have h1:=QH hr h (hs t (by simp)) htm rI
   have hd:=h.d0
   have hlen:=h.base.len
   obtain ⟨a1,a2,a3,a4⟩:=YX hr ts _ _ CZ h1
   have hti:(out.set t.toNat (d+1)).getD t.toNat 0=d+1:=by rw [kf (by omega),Ab rfl]
   refine ⟨a1,?_,λt' qA=>?_,λi hi h0=>?_⟩
   ·have:=GR (xs:=out) (i:=t.toNat) (v:=d+1) (by omega) rI (by omega)
    rw [a2,Ax,Bn]
    omega
   ·rcases Bb.1 qA with rfl|qA
    ·rw [a4 _ (by omega) (by omega),hti];omega
    ·exact a3 t' qA
   ·have Ip: ¬t.toNat=i:= λe=>by subst e;omega
    have e:(out.set t.toNat (d+1)).getD i 0=out.getD i 0:=by rw [kf (by omega),Ai Ip]
    rw [a4 i hi (by rw [e];exact h0),e]
  ·rw [Ai rI]
   obtain ⟨a1,a2,a3,a4⟩:=YX hr ts _ _ CZ h
   refine ⟨a1,a2,λt' qA=>?_,a4⟩
   rcases Bb.1 qA with rfl|qA
   ·rw [a4 _ (by omega) (by omega)];omega
   ·exact a3 t' qA
structure DQ (N:Nat->List Int) (S:Nat->Bool) (m:Nat) (out q:List Int):Prop where
 base:DI N S m (λ_=>False) out q
 hi: ∀x q',q=x::q'-> ∀i,i<m->out.getD i 0<=out.getD x.toNat 0+1
theorem yZ {N:Nat->List Int} {S:Nat->Bool} {m:Nat} (hr:dp N m) {x:Int} {out q:List Int} (h:DQ N S m out (x::q)):
  DQ N S m (aS x (N x.toNat) (out,q)).1 (aS x (N x.toNat) (out,q)).2/\(aS x (N x.toNat) (out,q)).2.length+eD (aS x (N x.toNat) (out,q)).1=q.length+eD out/\ ∀i,i<m->(aS x (N x.toNat) (out,q)).1.getD i 0<=out.getD x.toNat 0+1:=by
 obtain ⟨b,hi⟩:=h
 obtain ⟨h1,h2,h3⟩:=b.inq x (by simp)
 obtain ⟨xn,rfl⟩:=Bi h1
 simp only [Ac] at h3⊢
 obtain ⟨o1,o2⟩:=List.pairwise_cons.1 b.ord
 simp only [Ac] at o1
 have hx:DX N S m xn (out.getD xn 0) out q:=by
  refine ⟨⟨b.len,b.ge,λy hy=>b.inq y (As _ hy),b.src,b.Afp,b.par,λi hi h0 hn hw=>b.done i hi h0 (λhm=>?_) (λh=>h),o2⟩,by omega,rfl,h3,o1,?_⟩
  ·rcases Bb.1 hm with e|hm
   ·exact hw (by omega)
   ·exact hn hm
  ·have:=hi xn q rfl
   rwa [Ac] at this
 obtain ⟨a1,a2,a3,a4⟩:=YX hr (N xn) out q (λ_ h=>h) hx
 obtain ⟨c,c1,c2,c3,c4,c5⟩:=a1
 refine ⟨⟨⟨c.len,c.ge,c.inq,c.src,c.Afp,c.par,λi cM h0 hn _ t ht=>?_,c.ord⟩,λy q' e i hi=>?_⟩,a2,c5⟩
 ·by_cases e:i=xn
  ·subst e
   refine ⟨a3 t ht,?_⟩
   rw [c2]
   have:=hr i cM t ht
   exact c5 _ (by omega)
  ·exact c.done i cM h0 hn e t ht
 ·have h4:=c4 y (by rw [e];simp)
  have h5:=c5 i hi
  omega
theorem YU {N:Nat->List Int} {S:Nat->Bool} {m:Nat} (hr:dp N m) {x:Int} {out q:List Int} (h:DQ N S m out (x::q)):
  DQ N S m (aS x (N x.toNat) (out,q)).1 (aS x (N x.toNat) (out,q)).2/\(aS x (N x.toNat) (out,q)).2.length+eD (aS x (N x.toNat) (out,q)).1=q.length+eD out:=⟨(yZ hr h).1,(yZ hr h).2.1⟩
theorem YV {N:Nat->List Int} {S:Nat->Bool} {m M:Nat} (hr:dp N m): ∀(f:Nat) (out q:List Int) (T:Nat),DQ N S m out q->(∀i,i<m->out.getD i 0<=T)->T+(q.length+eD out)<=M-> ∀i,i<m->(vN N f out q).getD i 0<=M
 |0,out,q,T,_,h1,h2,i,hi=>by have:=h1 i hi;simp only [vN];omega
 |f+1,out,[],T,_,h1,h2,i,hi=>by have:=h1 i hi;simp only [vN];omega
 |f+1,out,x::q,T,h,h1,h2,i,hi=>by
  obtain ⟨a1,a2,a3⟩:=yZ hr h
  have hx:=h.base.inq x (by simp)
  have hxT:=h1 x.toNat (by omega)
  simp only [vN]
  simp only [Aw] at h2
  exact YV hr f _ _ (T+1) a1 (λj hj=>by have:=a3 j hj;push_cast;omega) (by omega) i hi
theorem YW {N:Nat->List Int} {S:Nat->Bool} {m:Nat} (hr:dp N m): ∀(f:Nat) (out q:List Int),q.length+eD out<f->DQ N S m out q->DQ N S m (vN N f out q) []
 |0,out,q,hf,_=>absurd hf (Et _)
 |f+1,out,[],_,h=>h
 |f+1,out,x::q,hf,h=>by
  obtain ⟨h1,h2⟩:=YU hr h
  simp only [vN]
  simp only [Aw] at hf
  exact YW hr f _ _ (by omega) h1
theorem ar {S:Nat->Bool} {m i:Nat} (hi:i<m):(XH S m).getD i 0=if S i=true then 0 else-1:=by
 unfold XH
 rw [Al,Fv,Rq hi]
 rfl
theorem o9 {S:Nat->Bool} {m:Nat} {y:Int} :y∈dq0 S m↔ ∃i:Nat,y=i/\i<m/\S i=true:=by
 unfold dq0
 simp only [Be,Cl,Fb]
 constructor
 ·rintro ⟨i,⟨h1,h2⟩,rfl⟩;exact ⟨i,rfl,h1,h2⟩
 ·rintro ⟨i,rfl,h1,h2⟩;exact ⟨i,⟨h1,h2⟩,rfl⟩
theorem sR (N:Nat->List Int) (S:Nat->Bool) (m:Nat):DQ N S m (XH S m) (dq0 S m):=by
 have hle: ∀i,i<m->(XH S m).getD i 0<=0:= λi hi=>by rw [ar hi];split<;>omega
 refine ⟨⟨by simp [XH],λi hi=>?_,λy hy=>?_,λi hi hs=>?_,λi hi h0=>?_,λi hi h0=>?_,λi hi h0 hn _=>?_,?_⟩,λx q' e i hi=>?_⟩
 ·rw [ar hi];split<;>omega
 ·obtain ⟨i,rfl,h1,h2⟩:=o9.1 hy
  rw [Ac,ar h1,Ab h2]
  exact ⟨by omega,by omega,Ok _⟩
 ·rw [ar hi,Ab hs]
 ·rw [ar hi] at h0
  split at h0
  ·assumption
  ·omega
 ·have:=hle i hi;omega
 ·rw [ar hi] at h0
  split at h0
  ·rename_i hs
   exact absurd (o9.2 ⟨i,rfl,hi,hs⟩) hn
  ·omega
 ·refine ik (R:= λ_ _=>True) (λha hb _=>?_) (List.pairwise_of_forall λ_ _=>trivial)
  obtain ⟨i,rfl,h1,h2⟩:=o9.1 ha
  obtain ⟨j,rfl,h3,h4⟩:=o9.1 hb
  rw [Ac,Ac,ar h1,ar h3,Ab h2,Ab h4]
  exact Ok _
 ·obtain ⟨j,rfl,h3,h4⟩:=o9.1 (show x∈dq0 S m by rw [e];simp)
  have:=hle i hi
  rw [Ac,ar h3,Ab h4]
  omega
theorem RX {S:Nat->Bool} {m:Nat} :(dq0 S m).length+eD (XH S m)=m:=by
 unfold dq0 eD XH
 rw [Ck,List.countP_map]
 have h:(List.range m).countP ((λv=>decide (v<0))∘ λi=>if S i=true then (0:Int) else-1)=(List.range m).countP λi=>!S i:=by
  refine List.countP_congr λi _=>?_
  simp only [Function.comp]
  by_cases e:S i=true
  ·simp [e]
  ·simp [En _▸e]
 rw [h,<-List.countP_eq_length_filter]
 have:=List.length_eq_countP_add_countP (l:=List.range m) S
 rw [List.length_range] at this
 have e:(List.range m).countP (λa=>decide ¬S a=true)=(List.range m).countP λi=>!S i:=List.countP_congr λi _=>by cases S i<;>simp
 rw [e] at this
 omega
theorem Agh {N:Nat->List Int} {S:Nat->Bool} {m:Nat} (hr:dp N m):DI N S m (λ_=>False) (pv N S m) []:=
 (YW hr (m+1) _ _ (by rw [RX];omega) (sR N S m)).base
theorem Aml {N:Nat->List Int} {S:Nat->Bool} {m:Nat} (hr:dp N m) {i:Nat} (hi:i<m):(pv N S m).getD i 0<=m:=
 YV hr (m+1) _ _ 0 (sR N S m) (λj hj=>by rw [ar hj];split<;>omega) (by rw [RX];omega) i hi
abbrev vh:Type:=Int×Int×ByteArray×List (List Int)×List Int×List (List Int)×List Int×(ByteArray->Option Int)×List Int×List Int×Int×ByteArray×List (List Int)×List (List Int)×PUnit
abbrev vo:Type:=Int×Int×ByteArray×List (List Int)×List (List Int)×List Int×(ByteArray->Option Int)×List Int×List Int×Int×ByteArray×List (List Int)×List (List Int)×PUnit
abbrev fz:List (Nat×Nat):= [(0,1),(0,1),(0,1),(0,1),(0,1),(0,1),(0,1),(0,1),(0,1),(0,1),(0,1),(0,1),(0,0)]
abbrev Hj (p:Int×ByteArray×List (List Int)×Unit) (y4:List Int) (y2:Int) (y3:Bool) (y6:ByteArray) (y5:ByteArray):Prop:=fz=fz/\(p,false,y4,p.1,p.2.1,p.2.2.1,y2,y3,!y3,p.1,y4,p.1,p.2.1,p.2.2.1,y4,y4,y6,p.1,p.2.1,p.2.2.1,p.1,p.2.1,p.2.2.1,[y4],[(0:Int)],gr (λ(_:ByteArray)=>none) y6 (0:Int),[(0:Int)],[(0:Int)],p.1,p.2.1,p.2.2.1,([]:List (List Int)),())=(p,false,y4,p.1,p.2.1,p.2.2.1,y2,y3,!y3,p.1,y4,p.1,p.2.1,p.2.2.1,y4,y4,y5,p.1,p.2.1,p.2.2.1,p.1,p.2.1,p.2.2.1,[y4],[(0:Int)],gr (λ(_:ByteArray)=>none) y5 (0:Int),[(0:Int)],[(0:Int)],p.1,p.2.1,p.2.2.1,([]:List (List Int)),PUnit.unit)
theorem WO (p:Int×ByteArray×List (List Int)×Unit) (P:(Option (PP×List (List Int)×List Int×(ByteArray->Option Int)×List Int×List Int×List (List Int)×Unit)×Bool×Unit)->Prop):(∃(y2:Int),Sy.fn ((p.1,p.2.1,p.2.2.1,()),())=some y2/\ ∃(y3:Bool),Ct.fn (y2,(1:Int),(3000:Int),())=some y3/\Br (!y3) (P (none,false,())) (∃(y4:List Int),Vu.fn (p.1,())=some y4/\ ∃(y5:ByteArray),Iy.fn (y4,())=some y5/\(∃(y6:List Int),Iv.fn ((↑p.2.2.1.length:Int),())=some y6/\0=0/\1= [y4].length/\0=0/\1= [(0:Int)].length/\0=0/\1= [(0:Int)].length/\0=0/\1= [(0:Int)].length/\0=0/\0=([]:List Int).length/\Ea (λ(v7:vo) (k8:vo->Prop)=>Br (decide (v7.1<(↑v7.2.2.2.2.1.length:Int))) (((0:Int)<=v7.1/\v7.1<(↑v7.2.2.2.2.1.length:Int))/\ ∃(y9:List Int),v7.2.2.2.2.1[0+v7.1.toNat]?=some y9/\ ∃(aC:List (List Int)),kE.fn ((v7.2.1,v7.2.2.1,v7.2.2.2.1,()),y9,())=some aC/\0=0/\0=([]:List Int).length/\0=0/\v7.2.2.2.2.1.length=v7.2.2.2.2.1.length/\0=0/\v7.2.2.2.2.2.1.length=v7.2.2.2.2.2.1.length/\0=0/\v7.2.2.2.2.2.2.2.1.length=v7.2.2.2.2.2.2.2.1.length/\0=0/\v7.2.2.2.2.2.2.2.2.1.length=v7.2.2.2.2.2.2.2.2.1.length/\0=0/\v7.2.2.2.2.2.2.2.2.2.2.2.2.1.length=v7.2.2.2.2.2.2.2.2.2.2.2.2.1.length/\Ea (λ(v11:vh) (k12:vh->Prop)=>Br (decide (v11.1<(↑aC.length:Int))) (∃(gx:List Int),idx aC v11.1=some gx/\ ∃(Vi:ByteArray),Iy.fn (gx,())=some Vi/\Br (!(v11.2.2.2.2.2.2.2.1 Vi).isSome) (∃(dO:Int),Uv.fn (List.take v11.2.2.2.2.2.1.length (List.drop 0 v11.2.2.2.2.2.1),())=some dO/\0=0/\v11.2.2.2.2.2.1.length=v11.2.2.2.2.2.1.length/\v11.2.2.2.2.2.1.length+(List.take 1 (List.drop 0 [gx])).length<=Dt/\((0:Int)<=v7.1/\v7.1<(↑v11.2.2.2.2.2.2.1.length:Int))/\ ∃(Zf:Int),v11.2.2.2.2.2.2.1[0+v7.1.toNat]?=some Zf/\0=0/\v11.2.2.2.2.2.2.1.length=v11.2.2.2.2.2.2.1.length/\v11.2.2.2.2.2.2.1.length+ [IntKind.i64.wrap (Zf+(1:Int))].length<=Dt/\0=0/\v11.2.2.2.2.2.2.2.2.1.length=v11.2.2.2.2.2.2.2.2.1.length/\v11.2.2.2.2.2.2.2.2.1.length+(List.take 1 (List.drop 0 [v7.1])).length<=Dt/\ ∃(mR:Int),idx y6 v11.1=some mR/\0=0/\v11.2.2.2.2.2.2.2.2.2.1.length=v11.2.2.2.2.2.2.2.2.2.1.length/\v11.2.2.2.2.2.2.2.2.2.1.length+ [mR].length<=Dt/\0=0/\v11.2.2.2.2.1.length=v11.2.2.2.2.1.length/\v11.2.2.2.2.1.length+(List.take 1 (List.drop 0 [dO])).length<=Dt/\0=0/\(v11.2.2.2.2.1++List.take 1 (List.drop 0 [dO])).length=(v11.2.2.2.2.1++List.take 1 (List.drop 0 [dO])).length/\0=0/\(v11.2.2.2.2.2.1++List.take 1 (List.drop 0 [gx])).length=(v11.2.2.2.2.2.1++List.take 1 (List.drop 0 [gx])).length/\0=0/\(v11.2.2.2.2.2.2.1++ [IntKind.i64.wrap (Zf+(1:Int))]).length=(v11.2.2.2.2.2.2.1++ [IntKind.i64.wrap (Zf+(1:Int))]).length/\0=0/\(v11.2.2.2.2.2.2.2.2.1++List.take 1 (List.drop 0 [v7.1])).length=(v11.2.2.2.2.2.2.2.2.1++List.take 1 (List.drop 0 [v7.1])).length/\0=0/\(v11.2.2.2.2.2.2.2.2.2.1++ [mR]).length=(v11.2.2.2.2.2.2.2.2.2.1++ [mR]).length/\0=0/\v11.2.2.2.2.2.2.2.2.2.2.2.2.2.1.length=v11.2.2.2.2.2.2.2.2.2.2.2.2.2.1.length/\k12 (IntKind.i64.wrap (v11.1+(1:Int)),v11.2.1,v11.2.2.1,v11.2.2.2.1,v11.2.2.2.2.1++List.take 1 (List.drop 0 [dO]),v11.2.2.2.2.2.1++List.take 1 (List.drop 0 [gx]),v11.2.2.2.2.2.2.1++ [IntKind.i64.wrap (Zf+(1:Int))],gr v11.2.2.2.2.2.2.2.1 Vi dO,v11.2.2.2.2.2.2.2.2.1++List.take 1 (List.drop 0 [v7.1]),v11.2.2.2.2.2.2.2.2.2.1++ [mR],v11.2.2.2.2.2.2.2.2.2.2.1,v11.2.2.2.2.2.2.2.2.2.2.2.1,v11.2.2.2.2.2.2.2.2.2.2.2.2.1,v11.2.2.2.2.2.2.2.2.2.2.2.2.2.1,())) (0=0/\v11.2.2.2.2.1.length=v11.2.2.2.2.1.length/\v11.2.2.2.2.1.length+(List.take 1 (List.drop 0 [(v11.2.2.2.2.2.2.2.1 Vi).getD (Int.ofNat (nat_lit 0))])).length<=Dt/\0=0/\(v11.2.2.2.2.1++List.take 1 (List.drop 0 [(v11.2.2.2.2.2.2.2.1 Vi).getD (Int.ofNat (nat_lit 0))])).length=(v11.2.2.2.2.1++List.take 1 (List.drop 0 [(v11.2.2.2.2.2.2.2.1 Vi).getD (Int.ofNat (nat_lit 0))])).length/\0=0/\v11.2.2.2.2.2.1.length=v11.2.2.2.2.2.1.length/\0=0/\v11.2.2.2.2.2.2.1.length=v11.2.2.2.2.2.2.1.length/\0=0/\v11.2.2.2.2.2.2.2.2.1.length=v11.2.2.2.2.2.2.2.2.1.length/\0=0/\v11.2.2.2.2.2.2.2.2.2.1.length=v11.2.2.2.2.2.2.2.2.2.1.length/\0=0/\v11.2.2.2.2.2.2.2.2.2.2.2.2.2.1.length=v11.2.2.2.2.2.2.2.2.2.2.2.2.2.1.length/\k12 (IntKind.i64.wrap (v11.1+(1:Int)),v11.2.1,v11.2.2.1,v11.2.2.2.1,v11.2.2.2.2.1++List.take 1 (List.drop 0 [(v11.2.2.2.2.2.2.2.1 Vi).getD (Int.ofNat (nat_lit 0))]),v11.2.2.2.2.2.1,v11.2.2.2.2.2.2.1,v11.2.2.2.2.2.2.2.1,v11.2.2.2.2.2.2.2.2.1,v11.2.2.2.2.2.2.2.2.2.1,v11.2.2.2.2.2.2.2.2.2.2.1,v11.2.2.2.2.2.2.2.2.2.2.2.1,v11.2.2.2.2.2.2.2.2.2.2.2.2.1,v11.2.2.2.2.2.2.2.2.2.2.2.2.2.1,()))) (0=0/\v11.2.2.2.2.2.2.2.2.2.2.2.2.2.1.length=v11.2.2.2.2.2.2.2.2.2.2.2.2.2.1.length/\v11.2.2.2.2.2.2.2.2.2.2.2.2.2.1.length+(List.take 1 (List.drop 0 [List.take v11.2.2.2.2.1.length (List.drop 0 v11.2.2.2.2.1)])).length<=Dt/\0=0/\v11.2.2.2.2.2.1.length=v11.2.2.2.2.2.1.length/\0=0/\v11.2.2.2.2.2.2.1.length=v11.2.2.2.2.2.2.1.length/\0=0/\v11.2.2.2.2.2.2.2.2.1.length=v11.2.2.2.2.2.2.2.2.1.length/\0=0/\v11.2.2.2.2.2.2.2.2.2.1.length=v11.2.2.2.2.2.2.2.2.2.1.length/\0=0/\(v11.2.2.2.2.2.2.2.2.2.2.2.2.2.1++List.take 1 (List.drop 0 [List.take v11.2.2.2.2.1.length (List.drop 0 v11.2.2.2.2.1)])).length=(v11.2.2.2.2.2.2.2.2.2.2.2.2.2.1++List.take 1 (List.drop 0 [List.take v11.2.2.2.2.1.length (List.drop 0 v11.2.2.2.2.1)])).length/\k8 (IntKind.i64.wrap (v7.1+(1:Int)),v11.2.1,v11.2.2.1,v11.2.2.2.1,v11.2.2.2.2.2.1,v11.2.2.2.2.2.2.1,v11.2.2.2.2.2.2.2.1,v11.2.2.2.2.2.2.2.2.1,v11.2.2.2.2.2.2.2.2.2.1,v11.2.2.2.2.2.2.2.2.2.2.1,v11.2.2.2.2.2.2.2.2.2.2.2.1,v11.2.2.2.2.2.2.2.2.2.2.2.2.1,v11.2.2.2.2.2.2.2.2.2.2.2.2.2.1++List.take 1 (List.drop 0 [List.take v11.2.2.2.2.1.length (List.drop 0 v11.2.2.2.2.1)]),()))) ((0:Int),v7.2.1,v7.2.2.1,v7.2.2.2.1,[],v7.2.2.2.2.1,v7.2.2.2.2.2.1,v7.2.2.2.2.2.2.1,v7.2.2.2.2.2.2.2.1,v7.2.2.2.2.2.2.2.2.1,v7.2.2.2.2.2.2.2.2.2.1,v7.2.2.2.2.2.2.2.2.2.2.1,v7.2.2.2.2.2.2.2.2.2.2.2.1,v7.2.2.2.2.2.2.2.2.2.2.2.2.1,PUnit.unit)) (P (some ((v7.2.2.2.2.2.2.2.2.2.1,v7.2.2.2.2.2.2.2.2.2.2.1,v7.2.2.2.2.2.2.2.2.2.2.2.1,()),List.take v7.2.2.2.2.1.length (List.drop 0 v7.2.2.2.2.1),List.take v7.2.2.2.2.2.1.length (List.drop 0 v7.2.2.2.2.2.1),v7.2.2.2.2.2.2.1,List.take v7.2.2.2.2.2.2.2.1.length (List.drop 0 v7.2.2.2.2.2.2.2.1),List.take v7.2.2.2.2.2.2.2.2.1.length (List.drop 0 v7.2.2.2.2.2.2.2.2.1),List.take v7.2.2.2.2.2.2.2.2.2.2.2.2.1.length (List.drop 0 v7.2.2.2.2.2.2.2.2.2.2.2.2.1),()),true,()))) ((0:Int),p.1,p.2.1,p.2.2.1,[y4],[(0:Int)],gr (λ(_:ByteArray)=>none) y5 (0:Int),[(0:Int)],[(0:Int)],p.1,p.2.1,p.2.2.1,([]:List (List Int)),PUnit.unit))/\((∃(y6:ByteArray),Iy.fn (y4,())=some y6/\(Hj p y4 y2 y3 y6 y5))/\ ∃(y6:ByteArray),Iy.fn (y4,())=some y6/\((Hj p y4 y2 y3 y6 y5))/\((Hj p y4 y2 y3 y6 y5))/\(Hj p y4 y2 y3 y6 y5))/\((∃(y6:ByteArray),Iy.fn (y4,())=some y6/\(Hj p y4 y2 y3 y6 y5))/\ ∃(y6:ByteArray),Iy.fn (y4,())=some y6/\((Hj p y4 y2 y3 y6 y5))/\((Hj p y4 y2 y3 y6 y5))/\(Hj p y4 y2 y3 y6 y5))/\ ∃(y6:ByteArray),Iy.fn (y4,())=some y6/\(((Hj p y4 y2 y3 y6 y5))/\((Hj p y4 y2 y3 y6 y5))/\(Hj p y4 y2 y3 y6 y5))/\(((Hj p y4 y2 y3 y6 y5))/\((Hj p y4 y2 y3 y6 y5))/\(Hj p y4 y2 y3 y6 y5))/\(((Hj p y4 y2 y3 y6 y5))/\(Hj p y4 y2 y3 y6 y5))/\(((Hj p y4 y2 y3 y6 y5))/\(Hj p y4 y2 y3 y6 y5))/\((Hj p y4 y2 y3 y6 y5))/\fz=fz/\(p,false,y4,p.1,p.2.1,p.2.2.1,y2,y3,!y3,p.1,y4,p.1,p.2.1,p.2.2.1,y4,y4,y6,p.1,p.2.1,p.2.2.1,p.1,p.2.1,p.2.2.1,[y4],[(0:Int)],gr (λ(_:ByteArray)=>none) y6 (0:Int),[(0:Int)],[(0:Int)],p.1,p.2.1,p.2.2.1,([]:List (List Int)),())=(p,false,y4,p.1,p.2.1,p.2.2.1,y2,y3,!y3,p.1,y4,p.1,p.2.1,p.2.2.1,y4,y4,y5,p.1,p.2.1,p.2.2.1,p.1,p.2.1,p.2.2.1,[y4],[(0:Int)],gr (λ(_:ByteArray)=>none) y5 (0:Int),[(0:Int)],[(0:Int)],p.1,p.2.1,p.2.2.1,[],PUnit.unit)))=fnW Gz (look [(154,Sy),(94,Ct),(120,Vu),(107,Iy),(121,Iv),(155,kE),(95,Uv)]) Qv Try.f88 (p,()) P:=by kernel_rfl
theorem sY {g:List (List Int)} {k:Int} {x:List Int} {d:Int} : ∀(ls:List Int) (s:EX) (row:List Int) (L':List (List Int)) (D':List Int),Ih g x d ls s.1 s.2.1=(L',D',true)->
  (cz g k x d ls s row).1.1=L'/\(cz g k x d ls s row).1.2.1=D'
 | [],s,row,L',D',h=>by
  simp only [Ih,Ag] at h
  exact ⟨h.1,h.2.1⟩
 |l::ls,s,row,L',D',h=>by
  simp only [Ih] at h
  simp only [cz]
  by_cases hm:Ak x (Av g l)∈s.1
  ·rw [Ab hm] at h
   rw [Ab hm]
   exact sY ls s _ L' D' h
  ·rw [Ai hm] at h
   rw [Ai hm]
   by_cases hf:s.1.length=3000
   ·rw [Ab hf] at h
    simp at h
   ·rw [Ai hf] at h
    exact sY ls _ _ L' D' h
theorem EM {g:List (List Int)} {ls:List Int} : ∀(f k:Nat) (s:EX) (N:List (List Int)) (L':List (List Int)) (D':List Int),Le g ls f k s.1 s.2.1=(L',D',true)->
  (dw g ls f k s N).1.1=L'/\(dw g ls f k s N).1.2.1=D'
 |0,k,s,N,L',D',h=>by
  simp only [Le,Ag] at h
  exact ⟨h.1,h.2.1⟩
 |f+1,k,s,N,L',D',h=>by
  simp only [Le] at h
  simp only [dw]
  by_cases hk:k<s.1.length
  ·rw [Ab hk] at h
   rw [Ab hk]
   split at h
   ·rename_i L1 D1 he
    obtain ⟨a1,a2⟩:=sY (k:=(k:Int)) ls s [] L1 D1 he
    refine EM f (k+1) _ _ L' D' ?_
    rw [a1,a2]
    exact h
   ·simp at h
  ·rw [Ai hk] at h
   rw [Ai hk]
   simp only [Ag] at h
   exact ⟨h.1,h.2.1⟩
theorem o0 {key:ByteArray} {x:List Int} : ∀(L:List (List Int)) (i:Nat),jb key (L++ [x]) i=if (jb key L i).isSome=true then jb key L i else if Tg x=key then some ((i+L.length:Nat):Int) else none
 | [],i=>by simp [jb]
 |y::L,i=>by
  simp only [Ms,jb]
  split
  ·rfl
  ·rw [o0 L (i+1),Aw,show i+1+L.length=i+(L.length+1) by omega]
theorem po {x:List Int} (hx:Xs x): ∀(L:List (List Int)) (i:Nat),(∀y∈L,Xs y)->jb (Tg x) L i=if x∈L then some ((i+L.idxOf x:Nat):Int) else none
 | [],i,_=>by simp [jb]
 |y::L,i,h=>by
  have hy:=h y (by simp)
  simp only [jb]
  by_cases e:y=x
  ·subst e
   rw [Ab rfl,Ab (by simp),List.idxOf_cons_self]
   rfl
  ·rw [Ai λhk=>e (key_inj hy hx hk),po hx L (i+1) λz hz=>h z (As _ hz),show List.idxOf x (y::L)=(List.idxOf x L).succ by rw [List.idxOf_cons,beq_false_of_ne e];rfl]
   have:(x∈y::L)↔(x∈L):=by simp [Gv e]
   by_cases hm:x∈L
   ·rw [Ab hm,Ab (this.2 hm),show i+1+List.idxOf x L=i+(List.idxOf x L).succ by omega]
   ·rw [Ai hm,Ai λh=>hm (this.1 h)]
theorem xI {x:List Int} {L:List (List Int)} (hx:Xs x) (hL: ∀y∈L,Xs y):Zp L (Tg x)=if x∈L then some (L.idxOf x:Int) else none:=by
 unfold Zp
 rw [po hx L 0 hL,Bk]
theorem xH {x:List Int} {L:List (List Int)} (hx:Xs x) (hL: ∀y∈L,Xs y) (hn:x∉L):gr (Zp L) (Tg x) (L.length:Int)=Zp (L++ [x]):=by
 funext key
 unfold gr Zp
 rw [o0,Bk]
 by_cases e:key=Tg x
 ·subst e
  rw [Ab rfl,po hx L 0 hL,Ai hn,Ai (by simp),Ab rfl]
 ·rw [Ai e,Ai (c:=Tg x=key) λh=>e h.symm]
  split
  ·rfl
  ·rename_i h
   cases hk:jb key L 0 with
   |none=>rfl
   |some v=>rw [hk] at h;simp at h
theorem JM (p:PP):Mr (Wt p) 1 3000=Cy p:=by
 unfold Cy
 by_cases hv:Cd p=true
 ·rw [hv,Kt,ED hv]
  rfl
 ·have hv:Cd p=false:=by simpa using hv
  rw [hv,Qg]
  have:Wt p=0:=by unfold Wt;rw [Ai (by simp [hv])]
  rw [this]
  rfl
theorem UU (p:PP) (h:Gb p):fnW Gz (look [(154,Sy),(94,Ct),(120,Vu),(107,Iy),(121,Iv),(155,kE),(95,Uv)]) Qv Try.f88 (p,()) (λ(z:Option (PP×List (List Int)×List Int×(ByteArray->Option Int)×List Int×List Int×List (List Int)×Unit)×Bool×Unit)=>z=(if Cy p=true then (some (Ga p),true,()) else (none,false,()))):=by
 refine Eq.mp (WO p _) ⟨_,Ab h,_,Ab trivial,?_⟩
 show Br (!Mr (Wt p) 1 3000) _ _
 rw [JM p]
 refine Br.of (λhb=>?_) λhb=>?_
 ·rw [Ai (by simpa using hb)]
 have hw:Cy p=true:=by simpa using hb
 rw [Ab hw]
 obtain ⟨hv,FD⟩:=Dp.1 hw
 have hV:=valid hv
 have rD:=hV.gG
 have hn:=hV.n
 obtain ⟨pn,ps,g,⟨⟩⟩:=p
 dsimp only at rD hn FD⊢
 have hI:(upto pn.toNat).length<=20:=by rw [Nf];omega
 have hIr: ∀y∈upto pn.toNat,0<=y/\y<pn:= λy hy=>by have:=Lo.1 hy;omega
 have hb0:=kb (p:=(pn,ps,g,())) hI hIr
 obtain ⟨ls,rG⟩: ∃ls,Ao g.length=ls:=⟨_,rfl⟩
 have JV:ls.length<=16:=by rw [<-rG,Ov];omega
 have tA: ∀l∈ls,Fy (List.length g) l:= λl hl=>Iz (rG▸hl)
 have QU: ∀x:List Int,(∀y∈x,0<=y/\y<pn)->Xs x:= λx hx y hy=>by have:=hx y hy;omega
 have LZ:Le g ls 3001 0 [upto pn.toNat] [0]=Jc g (upto pn.toNat):=by unfold Jc;rw [rG]
 have si:gr (λ(_:ByteArray)=>(none:Option Int)) (Tg (upto pn.toNat)) 0=Zp [upto pn.toNat]:=by
  have:=xH (L:= []) (QU _ hIr) (λy hy=>by cases hy) (by simp)
  exact this
 refine ⟨upto pn.toNat,Ab ⟨by show (0:Int)<=pn;omega,by show pn<=20;omega⟩,Tg (upto pn.toNat),Ab (by show short (upto pn.toNat);unfold short;omega),⟨ls,?_,rfl,rfl,rfl,rfl,rfl,rfl,rfl,rfl,rfl,rfl,?_⟩,?_⟩
 ·refine (Ab ⟨by show (0:Int)<=((g.length:Nat):Int);omega,by show ((g.length:Nat):Int)<=8;omega⟩).trans (Dm some ?_)
  show Ao (((g.length:Nat):Int)).toNat=ls
  rw [Ac];exact rG
 ·obtain ⟨R,hR⟩: ∃R,dw g ls 3001 0 ([upto pn.toNat],[0],[0],[0]) []=R:=⟨_,rfl⟩
  have Ani:Ga (pn,ps,g,())=Amn (pn,ps,g,()) R:=by unfold Ga;rw [rG];exact Dm _ hR
  rw [Ani]
  refine Ea.mk (λv=> ∃(k:Nat) (s:EX) (N:List (List Int)),v=((k:Int),pn,ps,g,s.1,s.2.1,Zp s.1,s.2.2.1,s.2.2.2,pn,ps,g,N,())/\k<=s.1.length/\Xq (pn,ps,g,()) (upto pn.toNat).length s.1 s.2.1/\s.2.2.1.length=s.1.length/\s.2.2.2.length=s.1.length/\N.length=k/\
    Le g ls (3001-k) k s.1 s.2.1=Jc g (upto pn.toNat)/\dw g ls (3001-k) k s N=R) (λv=>3001-v.1.toNat)
   ⟨0,([upto pn.toNat],[0],[0],[0]),[],?_,by simp,hb0,rfl,rfl,rfl,LZ,hR⟩ ?_
  ·rw [<-si];rfl
  rintro v ⟨k,s0,N,rfl,h1,h2,h3,h4,h5,h6,h7⟩
  obtain ⟨L0,D0,P0,B0⟩:=s0
  dsimp only at h1 h2 h3 h4 h6 h7⊢
  have hL0:=h2.ok.gG
  have hD0:=h2.len
  obtain ⟨f,hf⟩: ∃f,3001-k=f+1:=⟨3000-k,by omega⟩
  refine Br.dec (λhl=>?_) λhl=>?_
  ·have hk:k<L0.length:=by omega
   have TQ:k<D0.length:=by omega
   have hx: ∀y∈L0[k],0<=y/\y<pn:=h2.row _ (Am hk)
   have hxl:L0[k].length=(upto pn.toNat).length:=h2.ok.len _ (Am hk)
   have hdk:=h2.dep k TQ
   have hxe:L0.getD k []=L0[k]:=Wn hk
   have LO:D0.getD k 0=D0[k]:=by rw [Al,Ad TQ];rfl
   have hgo: ∀L' D' ok,Ih g L0[k] D0[k] ls L0 D0=(L',D',ok)->Jc g (upto pn.toNat)=if ok=true then Le g ls f (k+1) L' D' else (L',D',false):=by
    intro L' D' ok he
    rw [<-h6,hf,Le,Ab hk,hxe,LO,he]
    cases ok<;>rfl
   obtain ⟨E,hE⟩: ∃E,cz g (k:Int) L0[k] D0[k] ls (L0,D0,P0,B0) []=E:=⟨_,rfl⟩
   have hex:R=dw g ls f (k+1) E.1 (N++ [E.2]):=by
    rw [<-h7,hf,dw,Ab hk]
    dsimp only
    rw [hxe,LO,hE]
   refine ⟨⟨by omega,by omega⟩,L0[k],by rw [Ac,Bk];exact Ad hk,ls.map (λl=>Ak L0[k] (Av g l)),?_,?_⟩
   ·refine (Ab ⟨hv,by show L0[k].length<=20;omega,hx⟩).trans (Dm some ?_)
    show zN g L0[k]=_
    unfold zN
    rw [rG]
   refine ⟨rfl,rfl,rfl,rfl,rfl,rfl,rfl,rfl,rfl,rfl,rfl,rfl,?_⟩
   obtain ⟨nb,hnb⟩: ∃nb,ls.map (λl=>Ak L0[k] (Av g l))=nb:=⟨_,rfl⟩
   have hnl:nb.length=ls.length:=by rw [<-hnb,Ck]
   have hni: ∀i (h:i<ls.length),nb[i]'(by omega)=Ak L0[k] (Av g ls[i]):= λi h=>by simp only [<-hnb,Td]
   rw [hnb]
   refine Ea.mk (λv=> ∃(i:Nat) (row:List Int) (s:EX),v=((i:Int),pn,ps,g,row,s.1,s.2.1,Zp s.1,s.2.2.1,s.2.2.2,pn,ps,g,N,())/\i<=ls.length/\row.length=i/\Xq (pn,ps,g,()) (upto pn.toNat).length s.1 s.2.1/\s.2.2.1.length=s.1.length/\s.2.2.2.length=s.1.length/\
     (∃A,s.1=L0++A)/\(∃A,s.2.1=D0++A)/\Ih g L0[k] D0[k] (ls.drop i) s.1 s.2.1=Ih g L0[k] D0[k] ls L0 D0/\cz g (k:Int) L0[k] D0[k] (ls.drop i) s row=E) (λv=>ls.length-v.1.toNat)
    ⟨0,[],(L0,D0,P0,B0),rfl,Kr _,rfl,h2,h3,h4,⟨[],by simp⟩,⟨[],by simp⟩,rfl,hE⟩ ?_
   rintro v ⟨i,row,s,rfl,g1,g2,g3,g4,g5,⟨A,g6⟩,⟨A',g7⟩,g8,g9⟩
   obtain ⟨L,D,Pa,By⟩:=s
   dsimp only at g3 g4 g5 g6 g7 g8 g9⊢
   have hLf:=g3.ok.gG
   have hDl:=g3.len
   refine Br.dec (λhli=>?_) λhli=>?_
   ·have hi:i<ls.length:=by omega
    have hkL:k<L.length:=by rw [g6,Ax];omega
    have Aj7:k<D.length:=by rw [hDl];exact hkL
    have hDk:D[k]=D0[k]:=by simp only [g7];exact Xj TQ
    have zm:=tA _ (Am hi)
    obtain ⟨nl,nr⟩:=zR hV hx zm
    dsimp only at nl nr
    rw [Hp hi] at g8 g9
    simp only [Ih] at g8
    simp only [cz] at g9
    have hyb:=QU _ nr
    refine ⟨_,Cf (by omega),?_⟩
    rw [hni i hi]
    generalize hyv:Ak L0[k] (Av g ls[i])=yv at*
    refine ⟨Tg yv,Ab (by show short yv;unfold short;rw [nl];omega),?_⟩
    rw [xI hyb λy hy=>QU _ (g3.row y hy)]
    refine Br.of (λOj=>?_) λOj=>?_
    ·have Oj:yv∉L:= λhm=>by rw [Ab hm] at Oj;simp at Oj
     rw [Ai Oj] at g8 g9
     by_cases gI:L.length=3000
     ·rw [Ab gI] at g8
      have:=hgo _ _ _ g8.symm
      rw [Ai (by decide)] at this
      rw [this] at FD
      cases FD
     rw [Ai gI] at g8
     refine ⟨_,Ab trivial,rfl,rfl,?_,⟨by omega,by omega⟩,D0[k],?_,rfl,rfl,?_,rfl,rfl,?_,_,Cf hi,rfl,rfl,?_,rfl,rfl,?_,rfl,rfl,rfl,rfl,rfl,rfl,rfl,rfl,rfl,rfl,rfl,rfl,?_⟩
     ·show L.length+1<=4294967296;omega
     ·rw [Ac,Bk,Ad Aj7,hDk]
     ·show D.length+1<=4294967296;omega
     ·show Pa.length+1<=4294967296;omega
     ·show By.length+1<=4294967296;omega
     ·show row.length+1<=4294967296;omega
     ·dsimp only
      rw [Dd L,Cj (n:=D0[k]+1) (by omega) (by omega),Cb (by omega),xH hyb (λy hy=>QU _ (g3.row y hy)) Oj]
      refine ⟨⟨i+1,row++ [(L.length:Int)],(L++ [yv],D++ [D0[k]+1],Pa++ [(k:Int)],By++ [ls[i]]),rfl,hi,by rw [Ax,g2];rfl,g3.add Oj (by rw [nl,hxl]) (by omega) nr ⟨by omega,by omega⟩,?_,?_,⟨A++ [yv],by rw [g6,Bo]⟩,⟨A'++ [D0[k]+1],by rw [g7,Bo]⟩,g8,g9⟩,by omega⟩
      ·simp [g4]
      ·simp [g5]
    ·have Oj:yv∈L:=Bs λhm=>by rw [Ai hm] at Oj;simp at Oj
     rw [Ab Oj] at g8 g9
     rw [Ab Oj]
     refine ⟨rfl,rfl,?_,rfl,rfl,rfl,rfl,rfl,rfl,rfl,rfl,rfl,rfl,rfl,rfl,?_⟩
     ·show row.length+1<=4294967296;omega
     ·rw [Cb (by omega)]
      exact ⟨⟨i+1,row++ [(L.idxOf yv:Int)],(L,D,Pa,By),rfl,hi,by rw [Ax,g2];rfl,g3,g4,g5,⟨A,g6⟩,⟨A',g7⟩,g8,g9⟩,by omega⟩
   ·have:i=ls.length:=by omega
    subst this
    rw [Zg,Ih] at g8
    rw [Zg,cz] at g9
    have:=hgo _ _ _ g8.symm
    rw [Ab rfl] at this
    rw [Dd row,Cb (by omega)]
    refine ⟨rfl,rfl,?_,rfl,rfl,rfl,rfl,rfl,rfl,rfl,rfl,rfl,rfl,⟨k+1,(L,D,Pa,By),N++ [row],rfl,by rw [g6,Ax];omega,g3,g4,g5,by rw [Ax,h5];rfl,?_,?_⟩,by omega⟩
    ·show N.length+1<=4294967296;omega
    ·rw [show 3001-(k+1)=f by omega]
     exact this.symm
    ·rw [show 3001-(k+1)=f by omega,hex,<-g9]
  ·have hk:k=L0.length:=by omega
   rw [hf,dw,Ai (by show ¬k<L0.length;omega)] at h7
   subst h7
   simp only [Du,Bh]
   rfl
 ·have LQ:Iy.fn (upto pn.toNat,())=some (Tg (upto pn.toNat)):=Ab (by show short (upto pn.toNat);unfold short;omega)
  repeat' (first|exact ⟨rfl,rfl⟩|refine ⟨_,LQ,?_⟩|refine ⟨?_,?_⟩)
theorem wE:Sound Try.prog 88 Qv:=
 Sound.Hg Ff (Ba pW (Ba Tb (Ba gU (Ba jH (Ba Uj (Ba II (Ba jE Cc))))))) mixed Try.func88 (by kernel_rfl) (by kernel_rfl) λx h=>UU x.1 h
abbrev XP:Type:=PP×List (List Int)×List Int×(ByteArray->Option Int)×List Int×List Int×List (List Int)×Unit
noncomputable def Ae (p:PP):List (List Int):=(Jc p.2.2.1 (upto p.1.toNat)).1
noncomputable def Bc (p:PP):List Int:=(Jc p.2.2.1 (upto p.1.toNat)).2.1
def kM (e:XP):Prop:=Cy e.1=true/\e=Ga e.1
noncomputable def Gs (p:PP) (s:List Int):Int×Bool×Unit:=if s∈Ae p then ((List.idxOf s (Ae p):Nat),true,()) else (0,false,())
noncomputable def Zo (p:PP) (s:List Int):Bool:=Cy p&&decide (s∈Ae p)
noncomputable def Aaq (e:Option XP) (s:List Int):Int×Bool×Unit:=match e with|some e=>Gs e.1 s|none=>(0,false,())
noncomputable abbrev Sl:Spec:=Hg (.pair (.optr gW) (.pair tL .unit)) (.pair tI (.pair .bool .unit)) true true (λx=>(∃e:XP,x.1=some e/\kM e)/\short x.2.1) (λx=>Aaq x.1 x.2.1)
noncomputable def Dk (p:PP):SS×Bool×Unit:=if Cd p=true then (Ib p.2.2.1 (upto p.1.toNat),Cy p,()) else (([],[],[],false,()),false,())
noncomputable abbrev Mb:Spec:=Hg (.pair Iw .unit) (.pair Xf (.pair .bool .unit)) true false (λx=>Gb x.1) (λx=>Dk x.1)
noncomputable abbrev bu:Spec:=Hg (.pair Iw (.pair Xf (.pair tL .unit))) .bool false true (λx=>Gb x.1/\short x.2.2.1/\Cd x.1=true/\x.2.1=Ib x.1.2.2.1 (upto x.1.1.toNat)) (λx=>decide (x.2.2.1∈Ae x.1))
abbrev SK:Type:=(Int×ByteArray×List (List Int)×PUnit)×List (List Int)×List Int×(ByteArray->Option Int)×List Int×List Int×List (List Int)×PUnit
theorem Al8 (e:Option (PP×List (List Int)×List Int×(ByteArray->Option Int)×List Int×List Int×List (List Int)×Unit)) (s:List Int) (P:(Int×Bool×Unit)->Prop):(∃(y3:SK),e=some y3/\ ∃(y4:Bool),Yw.fn (y3.1,s,())=some y4/\Br (!y4) (P ((0:Int),false,())) (∃(y5:SK),e=some y5/\ ∃(y6:ByteArray),Iy.fn (s,())=some y6/\P ((y5.2.2.2.1 y6).getD (Int.ofNat (nat_lit 0)),(y5.2.2.2.1 y6).isSome,())))=fnW Gz (look [(67,Yw),(107,Iy)]) Sl Try.f135 (e,s,()) P:=by kernel_rfl
abbrev Ey:Type:=List (List Int)×List Int×List Int×Bool×PUnit
theorem PS (p:Int×ByteArray×List (List Int)×Unit) (P:((List (List Int)×List Int×List Int×Bool×Unit)×Bool×Unit)->Prop):(∃(y2:Bool),Jf.fn ((p.1,p.2.1,p.2.2.1,()),())=some y2/\Br (!y2) (P ((List.take 0 (List.drop 0 []),List.take 0 (List.drop 0 []),List.take 0 (List.drop 0 []),false,()),false,())) (((((∃(y3:List Int),Dn.fn (p.1,())=some y3/\(∃(y4:Ey),Hr.fn ((p.1,p.2.1,p.2.2.1,()),y3,())=some y4/\((P ((y4.1,y4.2.1,y4.2.2.1,y4.2.2.2.1,()),y4.2.2.2.1,())/\P ((y4.1,y4.2.1,y4.2.2.1,y4.2.2.2.1,()),y4.2.2.2.1,()))/\P ((y4.1,y4.2.1,y4.2.2.1,y4.2.2.2.1,()),y4.2.2.2.1,()))/\(P ((y4.1,y4.2.1,y4.2.2.1,y4.2.2.2.1,()),y4.2.2.2.1,())/\P ((y4.1,y4.2.1,y4.2.2.1,y4.2.2.2.1,()),y4.2.2.2.1,()))/\P ((y4.1,y4.2.1,y4.2.2.1,y4.2.2.2.1,()),y4.2.2.2.1,()))/\ ∃(y4:Ey),Hr.fn ((p.1,p.2.1,p.2.2.1,()),y3,())=some y4/\((P ((y4.1,y4.2.1,y4.2.2.1,y4.2.2.2.1,()),y4.2.2.2.1,())/\P ((y4.1,y4.2.1,y4.2.2.1,y4.2.2.2.1,()),y4.2.2.2.1,()))/\P ((y4.1,y4.2.1,y4.2.2.1,y4.2.2.2.1,()),y4.2.2.2.1,()))/\(P ((y4.1,y4.2.1,y4.2.2.1,y4.2.2.2.1,()),y4.2.2.2.1,())/\P ((y4.1,y4.2.1,y4.2.2.1,y4.2.2.2.1,()),y4.2.2.2.1,()))/\P ((y4.1,y4.2.1,y4.2.2.1,y4.2.2.2.1,()),y4.2.2.2.1,()))/\ ∃(y3:List Int),Dn.fn (p.1,())=some y3/\ ∃(y4:Ey),Hr.fn ((p.1,p.2.1,p.2.2.1,()),y3,())=some y4/\((P ((y4.1,y4.2.1,y4.2.2.1,y4.2.2.2.1,()),y4.2.2.2.1,())/\P ((y4.1,y4.2.1,y4.2.2.1,y4.2.2.2.1,()),y4.2.2.2.1,()))/\P ((y4.1,y4.2.1,y4.2.2.1,y4.2.2.2.1,()),y4.2.2.2.1,()))/\(P ((y4.1,y4.2.1,y4.2.2.1,y4.2.2.2.1,()),y4.2.2.2.1,())/\P ((y4.1,y4.2.1,y4.2.2.1,y4.2.2.2.1,()),y4.2.2.2.1,()))/\P ((y4.1,y4.2.1,y4.2.2.1,y4.2.2.2.1,()),y4.2.2.2.1,()))/\ ∃(y3:List Int),Dn.fn (p.1,())=some y3/\ ∃(y4:Ey),Hr.fn ((p.1,p.2.1,p.2.2.1,()),y3,())=some y4/\((P ((y4.1,y4.2.1,y4.2.2.1,y4.2.2.2.1,()),y4.2.2.2.1,())/\P ((y4.1,y4.2.1,y4.2.2.1,y4.2.2.2.1,()),y4.2.2.2.1,()))/\P ((y4.1,y4.2.1,y4.2.2.1,y4.2.2.2.1,()),y4.2.2.2.1,()))/\(P ((y4.1,y4.2.1,y4.2.2.1,y4.2.2.2.1,()),y4.2.2.2.1,())/\P ((y4.1,y4.2.1,y4.2.2.1,y4.2.2.2.1,()),y4.2.2.2.1,()))/\P ((y4.1,y4.2.1,y4.2.2.1,y4.2.2.2.1,()),y4.2.2.2.1,()))/\ ∃(y3:List Int),Dn.fn (p.1,())=some y3/\ ∃(y4:Ey),Hr.fn ((p.1,p.2.1,p.2.2.1,()),y3,())=some y4/\((P ((y4.1,y4.2.1,y4.2.2.1,y4.2.2.2.1,()),y4.2.2.2.1,())/\P ((y4.1,y4.2.1,y4.2.2.1,y4.2.2.2.1,()),y4.2.2.2.1,()))/\P ((y4.1,y4.2.1,y4.2.2.1,y4.2.2.2.1,()),y4.2.2.2.1,()))/\(P ((y4.1,y4.2.1,y4.2.2.1,y4.2.2.2.1,()),y4.2.2.2.1,())/\P ((y4.1,y4.2.1,y4.2.2.1,y4.2.2.2.1,()),y4.2.2.2.1,()))/\P ((y4.1,y4.2.1,y4.2.2.1,y4.2.2.2.1,()),y4.2.2.2.1,()))/\((((∃(y3:List Int),Dn.fn (p.1,())=some y3/\(∃(y4:Ey),Hr.fn ((p.1,p.2.1,p.2.2.1,()),y3,())=some y4/\((P ((y4.1,y4.2.1,y4.2.2.1,y4.2.2.2.1,()),y4.2.2.2.1,())/\P ((y4.1,y4.2.1,y4.2.2.1,y4.2.2.2.1,()),y4.2.2.2.1,()))/\P ((y4.1,y4.2.1,y4.2.2.1,y4.2.2.2.1,()),y4.2.2.2.1,()))/\(P ((y4.1,y4.2.1,y4.2.2.1,y4.2.2.2.1,()),y4.2.2.2.1,())/\P ((y4.1,y4.2.1,y4.2.2.1,y4.2.2.2.1,()),y4.2.2.2.1,()))/\P ((y4.1,y4.2.1,y4.2.2.1,y4.2.2.2.1,()),y4.2.2.2.1,()))/\ ∃(y4:Ey),Hr.fn ((p.1,p.2.1,p.2.2.1,()),y3,())=some y4/\((P ((y4.1,y4.2.1,y4.2.2.1,y4.2.2.2.1,()),y4.2.2.2.1,())/\P ((y4.1,y4.2.1,y4.2.2.1,y4.2.2.2.1,()),y4.2.2.2.1,()))/\P ((y4.1,y4.2.1,y4.2.2.1,y4.2.2.2.1,()),y4.2.2.2.1,()))/\(P ((y4.1,y4.2.1,y4.2.2.1,y4.2.2.2.1,()),y4.2.2.2.1,())/\P ((y4.1,y4.2.1,y4.2.2.1,y4.2.2.2.1,()),y4.2.2.2.1,()))/\P ((y4.1,y4.2.1,y4.2.2.1,y4.2.2.2.1,()),y4.2.2.2.1,()))/\ ∃(y3:List Int),Dn.fn (p.1,())=some y3/\ ∃(y4:Ey),Hr.fn ((p.1,p.2.1,p.2.2.1,()),y3,())=some y4/\((P ((y4.1,y4.2.1,y4.2.2.1,y4.2.2.2.1,()),y4.2.2.2.1,())/\P ((y4.1,y4.2.1,y4.2.2.1,y4.2.2.2.1,()),y4.2.2.2.1,()))/\P ((y4.1,y4.2.1,y4.2.2.1,y4.2.2.2.1,()),y4.2.2.2.1,()))/\(P ((y4.1,y4.2.1,y4.2.2.1,y4.2.2.2.1,()),y4.2.2.2.1,())/\P ((y4.1,y4.2.1,y4.2.2.1,y4.2.2.2.1,()),y4.2.2.2.1,()))/\P ((y4.1,y4.2.1,y4.2.2.1,y4.2.2.2.1,()),y4.2.2.2.1,()))/\ ∃(y3:List Int),Dn.fn (p.1,())=some y3/\ ∃(y4:Ey),Hr.fn ((p.1,p.2.1,p.2.2.1,()),y3,())=some y4/\((P ((y4.1,y4.2.1,y4.2.2.1,y4.2.2.2.1,()),y4.2.2.2.1,())/\P ((y4.1,y4.2.1,y4.2.2.1,y4.2.2.2.1,()),y4.2.2.2.1,()))/\P ((y4.1,y4.2.1,y4.2.2.1,y4.2.2.2.1,()),y4.2.2.2.1,()))/\(P ((y4.1,y4.2.1,y4.2.2.1,y4.2.2.2.1,()),y4.2.2.2.1,())/\P ((y4.1,y4.2.1,y4.2.2.1,y4.2.2.2.1,()),y4.2.2.2.1,()))/\P ((y4.1,y4.2.1,y4.2.2.1,y4.2.2.2.1,()),y4.2.2.2.1,()))/\(((∃(y3:List Int),Dn.fn (p.1,())=some y3/\(∃(y4:Ey),Hr.fn ((p.1,p.2.1,p.2.2.1,()),y3,())=some y4/\((P ((y4.1,y4.2.1,y4.2.2.1,y4.2.2.2.1,()),y4.2.2.2.1,())/\P ((y4.1,y4.2.1,y4.2.2.1,y4.2.2.2.1,()),y4.2.2.2.1,()))/\P ((y4.1,y4.2.1,y4.2.2.1,y4.2.2.2.1,()),y4.2.2.2.1,()))/\(P ((y4.1,y4.2.1,y4.2.2.1,y4.2.2.2.1,()),y4.2.2.2.1,())/\P ((y4.1,y4.2.1,y4.2.2.1,y4.2.2.2.1,()),y4.2.2.2.1,()))/\P ((y4.1,y4.2.1,y4.2.2.1,y4.2.2.2.1,()),y4.2.2.2.1,()))/\ ∃(y4:Ey),Hr.fn ((p.1,p.2.1,p.2.2.1,()),y3,())=some y4/\((P ((y4.1,y4.2.1,y4.2.2.1,y4.2.2.2.1,()),y4.2.2.2.1,())/\P ((y4.1,y4.2.1,y4.2.2.1,y4.2.2.2.1,()),y4.2.2.2.1,()))/\P ((y4.1,y4.2.1,y4.2.2.1,y4.2.2.2.1,()),y4.2.2.2.1,()))/\(P ((y4.1,y4.2.1,y4.2.2.1,y4.2.2.2.1,()),y4.2.2.2.1,())/\P ((y4.1,y4.2.1,y4.2.2.1,y4.2.2.2.1,()),y4.2.2.2.1,()))/\P ((y4.1,y4.2.1,y4.2.2.1,y4.2.2.2.1,()),y4.2.2.2.1,()))/\ ∃(y3:List Int),Dn.fn (p.1,())=some y3/\ ∃(y4:Ey),Hr.fn ((p.1,p.2.1,p.2.2.1,()),y3,())=some y4/\((P ((y4.1,y4.2.1,y4.2.2.1,y4.2.2.2.1,()),y4.2.2.2.1,())/\P ((y4.1,y4.2.1,y4.2.2.1,y4.2.2.2.1,()),y4.2.2.2.1,()))/\P ((y4.1,y4.2.1,y4.2.2.1,y4.2.2.2.1,()),y4.2.2.2.1,()))/\(P ((y4.1,y4.2.1,y4.2.2.1,y4.2.2.2.1,()),y4.2.2.2.1,())/\P ((y4.1,y4.2.1,y4.2.2.1,y4.2.2.2.1,()),y4.2.2.2.1,()))/\P ((y4.1,y4.2.1,y4.2.2.1,y4.2.2.2.1,()),y4.2.2.2.1,()))/\(∃(y3:List Int),Dn.fn (p.1,())=some y3/\((∃(y4:Ey),Hr.fn ((p.1,p.2.1,p.2.2.1,()),y3,())=some y4/\((P ((y4.1,y4.2.1,y4.2.2.1,y4.2.2.2.1,()),y4.2.2.2.1,())/\P ((y4.1,y4.2.1,y4.2.2.1,y4.2.2.2.1,()),y4.2.2.2.1,()))/\P ((y4.1,y4.2.1,y4.2.2.1,y4.2.2.2.1,()),y4.2.2.2.1,()))/\(P ((y4.1,y4.2.1,y4.2.2.1,y4.2.2.2.1,()),y4.2.2.2.1,())/\P ((y4.1,y4.2.1,y4.2.2.1,y4.2.2.2.1,()),y4.2.2.2.1,()))/\P ((y4.1,y4.2.1,y4.2.2.1,y4.2.2.2.1,()),y4.2.2.2.1,()))/\ ∃(y4:Ey),Hr.fn ((p.1,p.2.1,p.2.2.1,()),y3,())=some y4/\((P ((y4.1,y4.2.1,y4.2.2.1,y4.2.2.2.1,()),y4.2.2.2.1,())/\P ((y4.1,y4.2.1,y4.2.2.1,y4.2.2.2.1,()),y4.2.2.2.1,()))/\P ((y4.1,y4.2.1,y4.2.2.1,y4.2.2.2.1,()),y4.2.2.2.1,()))/\(P ((y4.1,y4.2.1,y4.2.2.1,y4.2.2.2.1,()),y4.2.2.2.1,())/\P ((y4.1,y4.2.1,y4.2.2.1,y4.2.2.2.1,()),y4.2.2.2.1,()))/\P ((y4.1,y4.2.1,y4.2.2.1,y4.2.2.2.1,()),y4.2.2.2.1,()))/\ ∃(y4:Ey),Hr.fn ((p.1,p.2.1,p.2.2.1,()),y3,())=some y4/\((P ((y4.1,y4.2.1,y4.2.2.1,y4.2.2.2.1,()),y4.2.2.2.1,())/\P ((y4.1,y4.2.1,y4.2.2.1,y4.2.2.2.1,()),y4.2.2.2.1,()))/\P ((y4.1,y4.2.1,y4.2.2.1,y4.2.2.2.1,()),y4.2.2.2.1,()))/\(P ((y4.1,y4.2.1,y4.2.2.1,y4.2.2.2.1,()),y4.2.2.2.1,())/\P ((y4.1,y4.2.1,y4.2.2.1,y4.2.2.2.1,()),y4.2.2.2.1,()))/\P ((y4.1,y4.2.1,y4.2.2.1,y4.2.2.2.1,()),y4.2.2.2.1,()))/\(∃(y3:List Int),Dn.fn (p.1,())=some y3/\ ∃(y4:Ey),Hr.fn ((p.1,p.2.1,p.2.2.1,()),y3,())=some y4/\((P ((y4.1,y4.2.1,y4.2.2.1,y4.2.2.2.1,()),y4.2.2.2.1,())/\P ((y4.1,y4.2.1,y4.2.2.1,y4.2.2.2.1,()),y4.2.2.2.1,()))/\P ((y4.1,y4.2.1,y4.2.2.1,y4.2.2.2.1,()),y4.2.2.2.1,()))/\(P ((y4.1,y4.2.1,y4.2.2.1,y4.2.2.2.1,()),y4.2.2.2.1,())/\P ((y4.1,y4.2.1,y4.2.2.1,y4.2.2.2.1,()),y4.2.2.2.1,()))/\P ((y4.1,y4.2.1,y4.2.2.1,y4.2.2.2.1,()),y4.2.2.2.1,()))/\ ∃(y3:List Int),Dn.fn (p.1,())=some y3/\ ∃(y4:Ey),Hr.fn ((p.1,p.2.1,p.2.2.1,()),y3,())=some y4/\((P ((y4.1,y4.2.1,y4.2.2.1,y4.2.2.2.1,()),y4.2.2.2.1,())/\P ((y4.1,y4.2.1,y4.2.2.1,y4.2.2.2.1,()),y4.2.2.2.1,()))/\P ((y4.1,y4.2.1,y4.2.2.1,y4.2.2.2.1,()),y4.2.2.2.1,()))/\(P ((y4.1,y4.2.1,y4.2.2.1,y4.2.2.2.1,()),y4.2.2.2.1,())/\P ((y4.1,y4.2.1,y4.2.2.1,y4.2.2.2.1,()),y4.2.2.2.1,()))/\P ((y4.1,y4.2.1,y4.2.2.1,y4.2.2.2.1,()),y4.2.2.2.1,()))/\(∃(y3:List Int),Dn.fn (p.1,())=some y3/\ ∃(y4:Ey),Hr.fn ((p.1,p.2.1,p.2.2.1,()),y3,())=some y4/\((P ((y4.1,y4.2.1,y4.2.2.1,y4.2.2.2.1,()),y4.2.2.2.1,())/\P ((y4.1,y4.2.1,y4.2.2.1,y4.2.2.2.1,()),y4.2.2.2.1,()))/\P ((y4.1,y4.2.1,y4.2.2.1,y4.2.2.2.1,()),y4.2.2.2.1,()))/\(P ((y4.1,y4.2.1,y4.2.2.1,y4.2.2.2.1,()),y4.2.2.2.1,())/\P ((y4.1,y4.2.1,y4.2.2.1,y4.2.2.2.1,()),y4.2.2.2.1,()))/\P ((y4.1,y4.2.1,y4.2.2.1,y4.2.2.2.1,()),y4.2.2.2.1,()))/\(∃(y3:List Int),Dn.fn (p.1,())=some y3/\ ∃(y4:Ey),Hr.fn ((p.1,p.2.1,p.2.2.1,()),y3,())=some y4/\((P ((y4.1,y4.2.1,y4.2.2.1,y4.2.2.2.1,()),y4.2.2.2.1,())/\P ((y4.1,y4.2.1,y4.2.2.1,y4.2.2.2.1,()),y4.2.2.2.1,()))/\P ((y4.1,y4.2.1,y4.2.2.1,y4.2.2.2.1,()),y4.2.2.2.1,()))/\(P ((y4.1,y4.2.1,y4.2.2.1,y4.2.2.2.1,()),y4.2.2.2.1,())/\P ((y4.1,y4.2.1,y4.2.2.1,y4.2.2.2.1,()),y4.2.2.2.1,()))/\P ((y4.1,y4.2.1,y4.2.2.1,y4.2.2.2.1,()),y4.2.2.2.1,()))/\ ∃(y3:List Int),Dn.fn (p.1,())=some y3/\ ∃(y4:Ey),Hr.fn ((p.1,p.2.1,p.2.2.1,()),y3,())=some y4/\((P ((y4.1,y4.2.1,y4.2.2.1,y4.2.2.2.1,()),y4.2.2.2.1,())/\P ((y4.1,y4.2.1,y4.2.2.1,y4.2.2.2.1,()),y4.2.2.2.1,()))/\P ((y4.1,y4.2.1,y4.2.2.1,y4.2.2.2.1,()),y4.2.2.2.1,()))/\(P ((y4.1,y4.2.1,y4.2.2.1,y4.2.2.2.1,()),y4.2.2.2.1,())/\P ((y4.1,y4.2.1,y4.2.2.1,y4.2.2.2.1,()),y4.2.2.2.1,()))/\P ((y4.1,y4.2.1,y4.2.2.1,y4.2.2.2.1,()),y4.2.2.2.1,()))/\(∃(y3:List Int),Dn.fn (p.1,())=some y3/\ ∃(y4:Ey),Hr.fn ((p.1,p.2.1,p.2.2.1,()),y3,())=some y4/\((P ((y4.1,y4.2.1,y4.2.2.1,y4.2.2.2.1,()),y4.2.2.2.1,())/\P ((y4.1,y4.2.1,y4.2.2.1,y4.2.2.2.1,()),y4.2.2.2.1,()))/\P ((y4.1,y4.2.1,y4.2.2.1,y4.2.2.2.1,()),y4.2.2.2.1,()))/\(P ((y4.1,y4.2.1,y4.2.2.1,y4.2.2.2.1,()),y4.2.2.2.1,())/\P ((y4.1,y4.2.1,y4.2.2.1,y4.2.2.2.1,()),y4.2.2.2.1,()))/\P ((y4.1,y4.2.1,y4.2.2.1,y4.2.2.2.1,()),y4.2.2.2.1,()))/\(∃(y3:List Int),Dn.fn (p.1,())=some y3/\ ∃(y4:Ey),Hr.fn ((p.1,p.2.1,p.2.2.1,()),y3,())=some y4/\((P ((y4.1,y4.2.1,y4.2.2.1,y4.2.2.2.1,()),y4.2.2.2.1,())/\P ((y4.1,y4.2.1,y4.2.2.1,y4.2.2.2.1,()),y4.2.2.2.1,()))/\P ((y4.1,y4.2.1,y4.2.2.1,y4.2.2.2.1,()),y4.2.2.2.1,()))/\(P ((y4.1,y4.2.1,y4.2.2.1,y4.2.2.2.1,()),y4.2.2.2.1,())/\P ((y4.1,y4.2.1,y4.2.2.1,y4.2.2.2.1,()),y4.2.2.2.1,()))/\P ((y4.1,y4.2.1,y4.2.2.1,y4.2.2.2.1,()),y4.2.2.2.1,()))/\(∃(y3:List Int),Dn.fn (p.1,())=some y3/\ ∃(y4:Ey),Hr.fn ((p.1,p.2.1,p.2.2.1,()),y3,())=some y4/\((P ((y4.1,y4.2.1,y4.2.2.1,y4.2.2.2.1,()),y4.2.2.2.1,())/\P ((y4.1,y4.2.1,y4.2.2.1,y4.2.2.2.1,()),y4.2.2.2.1,()))/\P ((y4.1,y4.2.1,y4.2.2.1,y4.2.2.2.1,()),y4.2.2.2.1,()))/\(P ((y4.1,y4.2.1,y4.2.2.1,y4.2.2.2.1,()),y4.2.2.2.1,())/\P ((y4.1,y4.2.1,y4.2.2.1,y4.2.2.2.1,()),y4.2.2.2.1,()))/\P ((y4.1,y4.2.1,y4.2.2.1,y4.2.2.2.1,()),y4.2.2.2.1,()))/\ ∃(y3:List Int),Dn.fn (p.1,())=some y3/\ ∃(y4:Ey),Hr.fn ((p.1,p.2.1,p.2.2.1,()),y3,())=some y4/\((P ((y4.1,y4.2.1,y4.2.2.1,y4.2.2.2.1,()),y4.2.2.2.1,())/\P ((y4.1,y4.2.1,y4.2.2.1,y4.2.2.2.1,()),y4.2.2.2.1,()))/\P ((y4.1,y4.2.1,y4.2.2.1,y4.2.2.2.1,()),y4.2.2.2.1,()))/\(P ((y4.1,y4.2.1,y4.2.2.1,y4.2.2.2.1,()),y4.2.2.2.1,())/\P ((y4.1,y4.2.1,y4.2.2.1,y4.2.2.2.1,()),y4.2.2.2.1,()))/\P ((y4.1,y4.2.1,y4.2.2.1,y4.2.2.2.1,()),y4.2.2.2.1,())))=fnW Gz (look [(47,Jf),(66,Dn),(153,Hr)]) Mb Try.f84 (p,()) P:=by kernel_rfl
theorem WQ (p:Int×ByteArray×List (List Int)×Unit) (f:List (List Int)×List Int×List Int×Bool×Unit) (s:List Int) (P:Bool->Prop):(∃(y4:Bool),Lb.fn ((p.1,p.2.1,p.2.2.1,()),s,())=some y4/\Br y4 (∃(y5:Int),Nc.fn ((f.1,f.2.1,f.2.2.1,f.2.2.2.1,()),s,())=some y5/\P (decide (y5>=(0:Int)))) (P false))=fnW Gz (look [(73,Lb),(134,Nc)]) bu Try.f133 (p,f,s,()) P:=by kernel_rfl
theorem xC {p:List Int} (h:bF p):Ki p=true:=by
 refine Gk.2 ⟨h.pos,h.len,λj h1 h2=>?_⟩
 have:=h.row _ (Am h2)
 exact ⟨by omega,by omega,λhm=>by
  obtain ⟨i,hi,e⟩:=Bf.1 hm
  have cM:i<j:=by rw [Ec] at hi;omega
  rw [List.getElem_take] at e
  exact (Ez.1 h.nodup i j (by omega) h2 cM) e⟩
theorem Dg {p:PP} (hw:Cy p=true):Cd p=true/\(Jc p.2.2.1 (upto p.1.toNat)).2.2=true:=Dp.1 hw
theorem uX {p:PP} (hw:Cy p=true):Reach p (Ae p) (Bc p) true:=by
 have h:=Wy (Dg hw).1
 rw [(Dg hw).2] at h
 exact h
theorem aA {p:PP} (hv:Cd p=true):Xq p p.1.toNat (Ae p) (Bc p):=(Wy hv).ok
theorem ZA {p:PP} (hV:Valid p):PY p.1.toNat λg=>some g∈p.2.2.1.map some:=
 ⟨by have:=hV.n;omega,λg eW=>by obtain ⟨g',e,h⟩:=uk (np hV).2.2 _ eW;cases e;exact h⟩
theorem jM {p:PP} (hv:Cd p=true) {x:List Int} (hx:x∈Ae p):Pm p.1.toNat x:=dP.pm (ZA (valid hv)) ((Wy hv).gen x hx)
theorem NP {p:PP} (hV:Valid p) {x:List Int} (h:Pm p.1.toNat x):He p.1 x=true:=by
 have:=hV.n
 have:=h.1
 exact Gk.2 ⟨by omega,xC h.2⟩
theorem LL {p:PP} (_hV:Valid p) {x:List Int} (h:He p.1 x=true):Pm p.1.toNat x:=by
 obtain ⟨h1,h2⟩:=Gk.1 h
 exact ⟨by omega,fN h2⟩
theorem OT {p:PP} (hv:Cd p=true) {x:List Int} (hx:x∈Ae p):He p.1 x=true:=NP (valid hv) (jM hv hx)
theorem Afq {p:PP} (hv:Cd p=true) {x:List Int} (hx:x∈Ae p):Xs x:= λy hy=>by
 have h1:=(aA hv).row x hx y hy
 have:=(valid hv).n
 omega
theorem Afh {n:Nat} {x:List Int} (h:Pm n x):Xs x:= λy hy=>by
 have h1:=h.row y hy
 have:=h.n2
 omega
theorem ab {n:Nat} {x:List Int} (h:Pm n x):short x:=by
 have h1:=h.1
 have:=h.n2
 unfold short;omega
theorem aV {p:PP} (hw:Cy p=true):(Ga p).2.1=Ae p/\(Ga p).2.2.1=Bc p:=by
 have h:=(Dg hw).2
 refine EM 3001 0 ([upto p.1.toNat],[0],[0],[0]) [] _ _ ?_
 show Le p.2.2.1 (Ao p.2.2.1.length) 3001 0 [upto p.1.toNat] [0]=(Ae p,Bc p,true)
 rw [<-h]
 rfl
theorem Ae7 {p:PP} (hw:Cy p=true) {s:List Int} (hs:Xs s):(Ga p).2.2.2.1 (Tg s)=if s∈Ae p then some (((Ae p).idxOf s:Nat):Int) else none:=by
 show Zp (Ga p).2.1 (Tg s)=_
 rw [(aV hw).1,xI hs λy hy=>Afq (Dg hw).1 hy]
theorem Akd (e:Option XP) (s:List Int) (h:(∃e':XP,e=some e'/\kM e')/\short s):fnW Gz (look [(67,Yw),(107,Iy)]) Sl Try.f135 (e,s,()) (λ(z:Int×Bool×Unit)=>z=Aaq e s):=by
 obtain ⟨⟨e',rfl,h1,h2⟩,hs⟩:=h
 have hv:=(Dg h1).1
 refine Eq.mp (Al8 (some e') s _) ⟨e',rfl,_,Ab hs,Br.of (λhb=>?_) λhb=>⟨e',rfl,_,Ab hs,?_⟩⟩
 ·have hb:=Is hb
  show (0,false,())=Gs e'.1 s
  unfold Gs
  rw [Ai λhm=>hb (OT hv hm)]
 ·have hb:He e'.1.1 s=true:=by simpa using hb
  have hp:=LL (valid hv) hb
  dsimp only
  have e3:e'.2.2.2.1=(Ga e'.1).2.2.2.1:=by rw [<-h2]
  rw [e3,Ae7 h1 (Afh hp)]
  show _=Gs e'.1 s
  unfold Gs
  split<;>rfl
theorem ga:Sound Try.prog 135 Sl:=
 Sound.Hg Ff (Ba mL (Ba jH Cc)) mixed Try.func135 (by kernel_rfl) (by kernel_rfl) λx h=>Akd x.1 x.2.1 h
theorem TN {p:PP} {s:List Int} :Zo p s=true↔Cy p=true/\s∈Ae p:=by
 unfold Zo;rw [Aj,Jj]
theorem NL (p:PP) (h:Gb p):fnW Gz (look [(47,Jf),(66,Dn),(153,Hr)]) Mb Try.f84 (p,()) (λ(z:SS×Bool×Unit)=>z=Dk p):=by
 refine Eq.mp (PS p _) ⟨_,Ab h,?_⟩
 show Br (!Cd p) _ _
 unfold Dk
 by_cases hv:Cd p=true
 ·rw [Ab hv,hv]
  refine ⟨λhb=>by simp at hb,λ_=>?_⟩
  have hn:=(valid hv).n
  have JT:Dn.fn (p.1,())=some (upto p.1.toNat):=Ab ⟨by show 0<=p.1;omega,by show p.1<=20;omega⟩
  have hup: ∀y∈upto p.1.toNat,0<=y/\y<p.1:= λy hy=>by have:=Lo.1 hy;omega
  have zi:Hr.fn ((p.1,p.2.1,p.2.2.1,()),upto p.1.toNat,())=some (Ib p.2.2.1 (upto p.1.toNat)):=Ab ⟨hv,by show (upto p.1.toNat).length<=20;rw [Nf];omega,hup⟩
  have hz:(((Ib p.2.2.1 (upto p.1.toNat)).1,(Ib p.2.2.1 (upto p.1.toNat)).2.1,(Ib p.2.2.1 (upto p.1.toNat)).2.2.1,(Ib p.2.2.1 (upto p.1.toNat)).2.2.2.1,()),(Ib p.2.2.1 (upto p.1.toNat)).2.2.2.1,())=(Ib p.2.2.1 (upto p.1.toNat),Cy p,()):=by
   unfold Cy
   rw [hv,Kt]
   rfl
  repeat' (first|exact hz|refine ⟨_,JT,?_⟩|refine ⟨_,zi,?_⟩|refine ⟨?_,?_⟩)
 ·rw [Ai hv]
  refine ⟨λ_=>rfl,λhb=>?_⟩
  exact absurd (by simpa using hb) hv
theorem jG:Sound Try.prog 84 Mb:=
 Sound.Hg Ff (Ba Zc (Ba Xc (Ba IK Cc))) mixed Try.func84 (by kernel_rfl) (by kernel_rfl) λx h=>NL x.1 h
theorem UW (p:PP) (f:SS) (s:List Int) (h:Gb p/\short s/\Cd p=true/\f=Ib p.2.2.1 (upto p.1.toNat)):fnW Gz (look [(73,Lb),(134,Nc)]) bu Try.f133 (p,f,s,()) (λ(z:Bool)=>z=decide (s∈Ae p)):=by
 obtain ⟨hp,hs,hv,rfl⟩:=h
 refine Eq.mp (WQ p _ s _) ⟨_,Ab ⟨hp,hs⟩,?_⟩
 show Br (Cd p&&He p.1 s) _ _
 rw [hv,Kt]
 refine Br.of (λhb=>?_) λhb=>?_
 ·have XQ:=LL (valid hv) hb
  refine ⟨_,Ab (by show Gg s.length (Ae p) (aM (Ae p));rw [XQ.1];exact (aA hv).ok),?_⟩
  show decide (cS (Ae p) s>=0)=_
  unfold cS
  split
  ·rename_i hm
   rw [Bp hm]
   exact Bp (by omega)
  ·rename_i hm
   rw [Eu hm]
   rfl
 ·exact (Eu λhm=>by rw [OT hv hm] at hb;cases hb).symm
theorem wF:Sound Try.prog 133 bu:=
 Sound.Hg Ff (Ba Rl (Ba bf Cc)) mixed Try.func133 (by kernel_rfl) (by kernel_rfl) λx h=>UW x.1 x.2.1 x.2.2.1 h
theorem eS {p:PP} (hv:Cd p=true):(Ae p).length<=3000:=(aA hv).ok.gG
theorem uW {p:PP} (hp:Gb p) (hw:Cy p=true):Mb.fn ((p.1,p.2.1,p.2.2.1,()),())=some (Ib p.2.2.1 (upto p.1.toNat),true,()):=
 (Ab hp).trans (Dm some ((Ab (Dg hw).1).trans (by rw [<-hw])))
def Dr (g:List (List Int)) (s w:List Int):List Int:=w.foldl (λq l=>Ak q (Av g l)) s
noncomputable abbrev Yv:Spec:=Hg (.pair tI (.pair yz (.pair tL .unit))) tL false true (λx=> ∃p:PP,Cd p=true/\p.1=x.1/\p.2.2.1=x.2.1/\Jd (List.length x.2.1:Nat) x.2.2.1=true) (λx=>Dr x.2.1 (upto x.1.toNat) x.2.2.1)
theorem ku {p:PP} (hV:Valid p) {l:Int} (hl:Fy (List.length p.2.2.1) l):Pm p.1.toNat (Av p.2.2.1 l):=by
 have hn:=hV.n
 obtain ⟨k,hk,Nn⟩:=Og hl
 have hp:Pm p.1.toNat (p.2.2.1[k]):=⟨by have:=hV.len _ (Am hk);omega,fN (hV.perm _ (Am hk))⟩
 rcases Nn with rfl|rfl
 ·rw [My hk];exact hp
 ·rw [Mx hk];exact hp.inv
theorem sG {p:PP} (hV:Valid p): ∀(w s:List Int),(∀l∈w,Fy (List.length p.2.2.1) l)->Pm p.1.toNat s->Pm p.1.toNat (Dr p.2.2.1 s w)
 | [],s,_,hs=>hs
 |l::w,s,hl,hs=>by
  have h1:=ku hV (hl l (by simp))
  exact sG hV w _ (λl' h=>hl l' (As _ h)) (hs.comp h1)
theorem qe {p:PP} (hV:Valid p) {s:List Int} (hs:Pm p.1.toNat s): ∀(w q:List Int),(∀l∈w,Fy (List.length p.2.2.1) l)->Pm p.1.toNat q->Ak s (Dr p.2.2.1 q w)=Dr p.2.2.1 (Ak s q) w
 | [],q,_,_=>rfl
 |l::w,q,hl,hq=>by
  have h1:=ku hV (hl l (by simp))
  have h2:=qe hV hs w _ (λl' h=>hl l' (As _ h)) (hq.comp h1)
  show Ak s (Dr p.2.2.1 (Ak q (Av p.2.2.1 l)) w)=Dr p.2.2.1 (Ak (Ak s q) (Av p.2.2.1 l)) w
  rw [h2,Hx hs hq h1]
theorem sH {g:List (List Int)} {s w:List Int} {j:Nat} (h:j<w.length):Dr g s (w.take (j+1))=Ak (Dr g s (w.take j)) (Av g w[j]):=by
 unfold Dr
 rw [Kc,Ad h,Tx,Hz]
 rfl
theorem Abk {n:Nat} {q:List Int} (h:Pm n q):q.length<=20:=by have:=h.1;have:=h.n2;omega
theorem HS {n:Nat} {p q:List Int} (hp:Pm n p) (hq:Pm n q):Sd q.length p:=by rw [hq.1];exact hp.row
def Wu (b:ByteArray) (t:List Int):ByteArray:=t.foldl (λa k=>a++b.extract k.toNat (k+1).toNat) ByteArray.empty
def Bl (p:PP) (t:List Int):PP:=(p.1,Wu p.2.1 t,t.map λk=>p.2.2.1.getD k.toNat [],())
noncomputable abbrev Yz:Spec:=Hg (.pair Iw (.pair tL .unit)) Iw false true (λx=>Gb x.1/\Cw x.1 x.2.1=true) (λx=>Bl x.1 x.2.1)
noncomputable abbrev Sz:Spec:=Hg (.pair Iw (.pair tL .unit)) Iw false true (λx=>Gb x.1/\Cw x.1 x.2.1=true) (λx=>Bl x.1 x.2.1)
abbrev HP:Type:=Option XP×List Int×Option XP×Unit
noncomputable def Kx (p:PP) (t:List Int):Bool:=Cy p&&Cw p t
noncomputable def Dy (p:PP) (t:List Int):HP:=(some (Ga p),t,some (Ga (Bl p t)),())
noncomputable abbrev Px:Spec:=Hg (.pair Iw (.pair tL .unit)) (.pair (.optr di) (.pair .bool .unit)) true false (λx=>Gb x.1/\short x.2.1) (λx=>if Kx x.1 x.2.1=true then (some (Dy x.1 x.2.1),true,()) else (none,false,()))
noncomputable abbrev Il:Spec:=Hg (.pair Iw (.pair tL (.pair tL .unit))) (.pair (.optr di) (.pair tI (.pair .bool .unit))) true false (λx=>Gb x.1/\short x.2.1/\short x.2.2.1)
 (λx=>if Kx x.1 x.2.1=true then (some (Dy x.1 x.2.1),(Gs x.1 x.2.2.1).1,(Gs x.1 x.2.2.1).2.1,()) else (none,0,false,()))
noncomputable def my (h:Option HP) (i:Int):Bool:=match h with
 |some (some e,t,_)=>decide ((Ae e.1).getD i.toNat []∈Ae (Bl e.1 t))
 |_=>false
noncomputable abbrev dF:Spec:=Hg (.pair (.optr di) (.pair tI .unit)) .bool false true (λx=>(∃p t,Kx p t=true/\x.1=some (Dy p t)/\0<=x.2.1/\x.2.1<(Ae p).length)) (λx=>my x.1 x.2.1)
noncomputable def fE (p:PP) (t s:List Int):Bool:=Kx p t&&(decide (s∈Ae p)&&decide (s∈Ae (Bl p t)))
noncomputable abbrev Sw:Spec:=Hg (.pair Iw (.pair tL (.pair tL .unit))) .bool false true (λx=>Gb x.1/\short x.2.1/\short x.2.2.1) (λx=>fE x.1 x.2.1 x.2.2.1)
noncomputable abbrev jy:Spec:=Hg (.pair Iw (.pair tL .unit)) (.pair Xf (.pair Xf (.pair .bool .unit))) true false (λx=>Gb x.1/\short x.2.1)
 (λx=>(if Kx x.1 x.2.1=true then (Ib x.1.2.2.1 (upto x.1.1.toNat),Ib (Bl x.1 x.2.1).2.2.1 (upto x.1.1.toNat),true,()) else ((Dk x.1).1,(Dk x.1).1,false,())))
abbrev r9:Type:=Int×Int×ByteArray×List (List Int)×Int×ByteArray×Int×ByteArray×List (List Int)×List (List Int)×PUnit
theorem PQ (p:Int×ByteArray×List (List Int)×Unit) (t:List Int) (P:(Int×ByteArray×List (List Int)×Unit)->Prop):(0=0/\0=([]:List Int).length/\0=0/\0=([]:List Int).length/\Ea (λ(v3:r9) (k4:r9->Prop)=>Br (decide (v3.1<(↑t.length:Int))) (∃(y5:Int),idx t v3.1=some y5/\((0:Int)<=y5/\y5<=IntKind.i64.wrap (y5+(1:Int))/\IntKind.i64.wrap (y5+(1:Int))<=(↑v3.2.2.1.size:Int))/\v3.2.2.2.2.2.2.2.1.size+(v3.2.2.1.extract y5.toNat (IntKind.i64.wrap (y5+(1:Int))).toNat).size<=4294967296/\ ∃(y6:List Int),idx v3.2.2.2.1 y5=some y6/\ ∃(y7:List Int),Qe.fn (y6,())=some y7/\0=0/\v3.2.2.2.2.2.2.2.2.2.1.length=v3.2.2.2.2.2.2.2.2.2.1.length/\v3.2.2.2.2.2.2.2.2.2.1.length+ [y7].length<=Dt/\0=0/\v3.2.2.2.2.2.2.2.2.1.length=v3.2.2.2.2.2.2.2.2.1.length/\0=0/\(v3.2.2.2.2.2.2.2.2.2.1++ [y7]).length=(v3.2.2.2.2.2.2.2.2.2.1++ [y7]).length/\k4 (IntKind.i64.wrap (v3.1+(1:Int)),v3.2.1,v3.2.2.1,v3.2.2.2.1,v3.2.2.2.2.1,v3.2.2.2.2.2.1,v3.2.2.2.2.2.2.1,v3.2.2.2.2.2.2.2.1++v3.2.2.1.extract y5.toNat (IntKind.i64.wrap (y5+(1:Int))).toNat,v3.2.2.2.2.2.2.2.2.1,v3.2.2.2.2.2.2.2.2.2.1++ [y7],())) (P (v3.2.2.2.2.2.2.1,v3.2.2.2.2.2.2.2.1,List.take v3.2.2.2.2.2.2.2.2.2.1.length (List.drop 0 v3.2.2.2.2.2.2.2.2.2.1),()))) ((0:Int),p.1,p.2.1,p.2.2.1,Int.ofNat (nat_lit 0), {data:= #[]},p.1, {data:= #[]},[],[],PUnit.unit))=fnW Gz (look [(86,Qe)]) Yz Try.f184 (p,t,()) P:=by kernel_rfl
abbrev lH:Type:=Int×Int×ByteArray×List (List Int)×Int×ByteArray×Int×ByteArray×List (List Int)×List (List Int)×PUnit
theorem CU (p:Int×ByteArray×List (List Int)×Unit) (t:List Int) (P:(Int×ByteArray×List (List Int)×Unit)->Prop):(0=0/\0=([]:List Int).length/\0=0/\0=([]:List Int).length/\Ea (λ(v3:lH) (k4:lH->Prop)=>Br (decide (v3.1<(↑t.length:Int))) (∃(y5:Int),idx t v3.1=some y5/\((0:Int)<=y5/\y5<=IntKind.i64.wrap (y5+(1:Int))/\IntKind.i64.wrap (y5+(1:Int))<=(↑v3.2.2.1.size:Int))/\v3.2.2.2.2.2.2.2.1.size+(v3.2.2.1.extract y5.toNat (IntKind.i64.wrap (y5+(1:Int))).toNat).size<=4294967296/\ ∃(y6:List Int),idx v3.2.2.2.1 y5=some y6/\ ∃(y7:List Int),oq.fn (y6,())=some y7/\0=0/\v3.2.2.2.2.2.2.2.2.2.1.length=v3.2.2.2.2.2.2.2.2.2.1.length/\v3.2.2.2.2.2.2.2.2.2.1.length+ [y7].length<=Dt/\0=0/\v3.2.2.2.2.2.2.2.2.1.length=v3.2.2.2.2.2.2.2.2.1.length/\0=0/\(v3.2.2.2.2.2.2.2.2.2.1++ [y7]).length=(v3.2.2.2.2.2.2.2.2.2.1++ [y7]).length/\k4 (IntKind.i64.wrap (v3.1+(1:Int)),v3.2.1,v3.2.2.1,v3.2.2.2.1,v3.2.2.2.2.1,v3.2.2.2.2.2.1,v3.2.2.2.2.2.2.1,v3.2.2.2.2.2.2.2.1++v3.2.2.1.extract y5.toNat (IntKind.i64.wrap (y5+(1:Int))).toNat,v3.2.2.2.2.2.2.2.2.1,v3.2.2.2.2.2.2.2.2.2.1++ [y7],())) (P (v3.2.2.2.2.2.2.1,v3.2.2.2.2.2.2.2.1,List.take v3.2.2.2.2.2.2.2.2.2.1.length (List.drop 0 v3.2.2.2.2.2.2.2.2.2.1),()))) ((0:Int),p.1,p.2.1,p.2.2.1,Int.ofNat (nat_lit 0), {data:= #[]},p.1, {data:= #[]},[],[],PUnit.unit))=fnW Gz (look [(90,oq)]) Sz Try.f109 (p,t,()) P:=by kernel_rfl
abbrev oG:Type:=Option ((Int×ByteArray×List (List Int)×PUnit)×List (List Int)×List Int×(ByteArray->Option Int)×List Int×List Int×List (List Int)×PUnit)×Bool×PUnit
theorem rj (p:Int×ByteArray×List (List Int)×Unit) (t:List Int) (P:(Option (Option XP×List Int×Option XP×Unit)×Bool×Unit)->Prop):(∃(y3:oG),Qv.fn ((p.1,p.2.1,p.2.2.1,()),())=some y3/\Br (!y3.2.1) (P (none,false,())) (∃(y4:Bool),Jn.fn ((p.1,p.2.1,p.2.2.1,()),t,())=some y4/\Br (!y4) (P (none,false,())) (∃(y5:Int×ByteArray×List (List Int)×PUnit),Sz.fn ((p.1,p.2.1,p.2.2.1,()),t,())=some y5/\ ∃(y6:oG),Qv.fn (y5,())=some y6/\P (some (y3.1,t,y6.1,()),true,()))))=fnW Gz (look [(88,Qv),(164,Jn),(109,Sz)]) Px Try.f108 (p,t,()) P:=by kernel_rfl
theorem vF (p:Int×ByteArray×List (List Int)×Unit) (t s:List Int) (P:(Option (Option XP×List Int×Option XP×Unit)×Int×Bool×Unit)->Prop):(∃(y4:Option (Option ((Int×ByteArray×List (List Int)×PUnit)×List (List Int)×List Int×(ByteArray->Option Int)×List Int×List Int×List (List Int)×PUnit)×List Int×Option ((Int×ByteArray×List (List Int)×PUnit)×List (List Int)×List Int×(ByteArray->Option Int)×List Int×List Int×List (List Int)×PUnit)×PUnit)×Bool×PUnit),Px.fn ((p.1,p.2.1,p.2.2.1,()),t,())=some y4/\Br (!y4.2.1) (P (none,(0:Int),false,())) (∃(y5:Option ((Int×ByteArray×List (List Int)×PUnit)×List (List Int)×List Int×(ByteArray->Option Int)×List Int×List Int×List (List Int)×PUnit)×List Int×Option ((Int×ByteArray×List (List Int)×PUnit)×List (List Int)×List Int×(ByteArray->Option Int)×List Int×List Int×List (List Int)×PUnit)×PUnit),y4.1=some y5/\ ∃(y6:Int×Bool×PUnit),Sl.fn (y5.1,s,())=some y6/\P (y4.1,y6.1,y6.2.1,())))=fnW Gz (look [(108,Px),(135,Sl)]) Il Try.f110 (p,t,s,()) P:=by kernel_rfl
abbrev SL:Type:=Option ((Int×ByteArray×List (List Int)×PUnit)×List (List Int)×List Int×(ByteArray->Option Int)×List Int×List Int×List (List Int)×PUnit)×List Int×Option ((Int×ByteArray×List (List Int)×PUnit)×List (List Int)×List Int×(ByteArray->Option Int)×List Int×List Int×List (List Int)×PUnit)×PUnit
theorem Al9 (h:Option (Option XP×List Int×Option XP×Unit)) (i:Int) (P:Bool->Prop):(∃(y3:SL),h=some y3/\ ∃(y4:SL),h=some y4/\ ∃(y5:(Int×ByteArray×List (List Int)×PUnit)×List (List Int)×List Int×(ByteArray->Option Int)×List Int×List Int×List (List Int)×PUnit),y4.1=some y5/\ ∃(y6:List Int),idx y5.2.1 i=some y6/\ ∃(y7:Int×Bool×PUnit),Sl.fn (y3.2.2.1,y6,())=some y7/\P y7.2.1)=fnW Gz (look [(135,Sl)]) dF Try.f113 (h,i,()) P:=by kernel_rfl
theorem ri (p:Int×ByteArray×List (List Int)×Unit) (t s:List Int) (P:Bool->Prop):(∃(y4:Option (Option ((Int×ByteArray×List (List Int)×PUnit)×List (List Int)×List Int×(ByteArray->Option Int)×List Int×List Int×List (List Int)×PUnit)×List Int×Option ((Int×ByteArray×List (List Int)×PUnit)×List (List Int)×List Int×(ByteArray->Option Int)×List Int×List Int×List (List Int)×PUnit)×PUnit)×Int×Bool×PUnit),Il.fn ((p.1,p.2.1,p.2.2.1,()),t,s,())=some y4/\Br y4.2.2.1 (∃(y5:Bool),dF.fn (y4.1,y4.2.1,())=some y5/\P y5) (P false))=fnW Gz (look [(110,Il),(113,dF)]) Sw Try.f48 (p,t,s,()) P:=by kernel_rfl
abbrev SJ:Type:=(List (List Int)×List Int×List Int×Bool×PUnit)×Bool×PUnit
theorem Al6 (p:Int×ByteArray×List (List Int)×Unit) (t:List Int) (P:(SS×SS×Bool×Unit)->Prop):(∃(y3:SJ),Mb.fn ((p.1,p.2.1,p.2.2.1,()),())=some y3/\Br (!y3.2.1) ((P ((y3.1.1,y3.1.2.1,y3.1.2.2.1,y3.1.2.2.2.1,()),(y3.1.1,y3.1.2.1,y3.1.2.2.1,y3.1.2.2.2.1,()),false,())/\P ((y3.1.1,y3.1.2.1,y3.1.2.2.1,y3.1.2.2.2.1,()),(y3.1.1,y3.1.2.1,y3.1.2.2.1,y3.1.2.2.2.1,()),false,()))/\P ((y3.1.1,y3.1.2.1,y3.1.2.2.1,y3.1.2.2.2.1,()),(y3.1.1,y3.1.2.1,y3.1.2.2.1,y3.1.2.2.2.1,()),false,())) (∃(y4:Bool),Jn.fn ((p.1,p.2.1,p.2.2.1,()),t,())=some y4/\Br (!y4) ((P ((y3.1.1,y3.1.2.1,y3.1.2.2.1,y3.1.2.2.2.1,()),(y3.1.1,y3.1.2.1,y3.1.2.2.1,y3.1.2.2.2.1,()),false,())/\P ((y3.1.1,y3.1.2.1,y3.1.2.2.1,y3.1.2.2.2.1,()),(y3.1.1,y3.1.2.1,y3.1.2.2.1,y3.1.2.2.2.1,()),false,()))/\P ((y3.1.1,y3.1.2.1,y3.1.2.2.1,y3.1.2.2.2.1,()),(y3.1.1,y3.1.2.1,y3.1.2.2.1,y3.1.2.2.2.1,()),false,())) (∃(y5:Int×ByteArray×List (List Int)×PUnit),Yz.fn ((p.1,p.2.1,p.2.2.1,()),t,())=some y5/\ ∃(y6:SJ),Mb.fn (y5,())=some y6/\(P ((y3.1.1,y3.1.2.1,y3.1.2.2.1,y3.1.2.2.2.1,()),(y6.1.1,y6.1.2.1,y6.1.2.2.1,y6.1.2.2.2.1,()),true,())/\P ((y3.1.1,y3.1.2.1,y3.1.2.2.1,y3.1.2.2.2.1,()),(y6.1.1,y6.1.2.1,y6.1.2.2.1,y6.1.2.2.2.1,()),true,()))/\P ((y3.1.1,y3.1.2.1,y3.1.2.2.1,y3.1.2.2.2.1,()),(y6.1.1,y6.1.2.1,y6.1.2.2.1,y6.1.2.2.2.1,()),true,()))))=fnW Gz (look [(84,Mb),(183,Jn),(184,Yz)]) jy Try.f132 (p,t,()) P:=by kernel_rfl
theorem rk (p:Int×ByteArray×List (List Int)×Unit) (t s:List Int) (P:Bool->Prop):(∃(y4:(List (List Int)×List Int×List Int×Bool×PUnit)×(List (List Int)×List Int×List Int×Bool×PUnit)×Bool×PUnit),jy.fn ((p.1,p.2.1,p.2.2.1,()),t,())=some y4/\Br y4.2.2.1 (∃(y5:Bool),bu.fn ((p.1,p.2.1,p.2.2.1,()),(y4.1.1,y4.1.2.1,y4.1.2.2.1,y4.1.2.2.2.1,()),s,())=some y5/\Br y5 (∃(y6:Int),Nc.fn ((y4.2.1.1,y4.2.1.2.1,y4.2.1.2.2.1,y4.2.1.2.2.2.1,()),s,())=some y6/\P (decide (y6>=(0:Int)))) (P false)) (P false))=fnW Gz (look [(132,jy),(133,bu),(134,Nc)]) Sw Try.f60 (p,t,s,()) P:=by kernel_rfl
theorem KJ (b:ByteArray) (i:Nat):b[i]?=b.data[i]?:=by
 by_cases h:i<b.size
 ·rw [getElem?_pos b i h,getElem?_pos b.data i h];rfl
 ·rw [getElem?_neg b i h,getElem?_neg b.data i h]
theorem Aia (a b:ByteArray) (k j:Nat) (hk:k<b.size):(a++b.extract k (k+1))[j]?=if j<a.size then a[j]? else if j=a.size then b[k]? else none:=by
 rw [KJ,ByteArray.data_append,ByteArray.data_extract,Array.getElem?_append]
 by_cases h:j<a.size
 ·rw [Ab h,Ab (show j<a.data.size from h),KJ]
 ·rw [Ai h,Ai (show ¬j<a.data.size from h)]
  have mU:k<b.data.size:=hk
  by_cases e:j=a.size
  ·rw [Ab e,KJ]
   have:j-a.data.size=0:=by have:a.data.size=a.size:=rfl
                            omega
   rw [this,Array.getElem?_extract,Ab (by omega),Ed]
  ·rw [Ai e,Array.getElem?_extract,Ai]
   have:a.data.size=a.size:=rfl
   omega
theorem BT {b:ByteArray} : ∀(t:List Int) (a:ByteArray),(∀k∈t,0<=k/\k<b.size)->
  (t.foldl (λ(a:ByteArray) (k:Int)=>a++b.extract k.toNat (k+1).toNat) a).size=a.size+t.length/\
  ∀j,(t.foldl (λ(a:ByteArray) (k:Int)=>a++b.extract k.toNat (k+1).toNat) a)[j]?=if j<a.size then a[j]? else (t[j-a.size]?).bind λk=>b[k.toNat]?
 | [],a,_=>by
  refine ⟨rfl,λj=>?_⟩
  by_cases h:j<a.size
  ·rw [Ab h];rfl
  ·rw [Ai h]
   simp only [List.foldl_nil,List.getElem?_nil,Option.bind_none]
   exact getElem?_neg a j h
 |k::t,a,h=>by
  obtain ⟨h1,h2⟩:=h k (by simp)
  obtain ⟨kn,rfl⟩:=Bi h1
  have hkb:kn<b.size:=by omega
  have Uo:(a++b.extract kn (kn+1)).size=a.size+1:=by rw [ByteArray.size_append,ByteArray.size_extract];omega
  obtain ⟨g1,g2⟩:=BT t (a++b.extract kn (kn+1)) λk' mU=>h k' (As _ mU)
  simp only [Rd]
  rw [show ((kn:Nat):Int).toNat=kn from Ac kn,show (((kn:Nat):Int)+1).toNat=kn+1 by omega]
  refine ⟨by rw [g1,Uo,Aw];omega,λj=>?_⟩
  rw [g2 j,Uo,Aia a b kn j hkb]
  by_cases e1:j<a.size
  ·rw [Ab (by omega),Ab e1,Ab e1]
  ·rw [Ai e1]
   by_cases e2:j=a.size
   ·subst e2
    rw [Ab (by omega),Ab rfl,Ai (by omega),Nat.sub_self]
    simp
   ·rw [Ai (by omega),Ai e1,show j-a.size=(j-(a.size+1))+1 by omega,Kk]
theorem kG {b:ByteArray} (t:List Int) (h: ∀k∈t,0<=k/\k<b.size):(Wu b t).size=t.length:=by
 have:=(BT t ByteArray.empty h).1
 rw [ByteArray.size_empty,Bk] at this
 exact this
theorem IP {b:ByteArray} (t:List Int) (h: ∀k∈t,0<=k/\k<b.size) (j:Nat):(Wu b t)[j]?=(t[j]?).bind λk=>b[k.toNat]?:=by
 have:=(BT t ByteArray.empty h).2 j
 rw [ByteArray.size_empty,Ai (Et _),Nat.sub_zero] at this
 exact this
theorem yt (b:ByteArray) {t:List Int} {j:Nat} (hl:j<t.length):Wu b (t.take (j+1))=Wu b (t.take j)++b.extract (t[j]).toNat (t[j]+1).toNat:=by
 unfold Wu
 rw [Kc,Ad hl,Tx,Hz]
 rfl
structure YC (p:PP) (t:List Int):Prop where
 valid:Cd p=true
 pos:0<t.length
 gG:t.length<=p.2.2.1.length
 g8:p.2.2.1.length<=8
 size:p.2.1.size=p.2.2.1.length
 Re: ∀ {j:Nat} (h:j<t.length),∃k:Nat,t[j]=(k:Int)/\k<p.2.2.1.length
 inc: ∀ {i j:Nat} (hi:i<t.length) (hj:j<t.length),i<j->t[i]<t[j]
theorem Abj {n:Int} {xs:List Int} (h:PL n xs xs.length): ∀(j i:Nat) (hi:i<xs.length) (hj:j<xs.length),i<j->xs[i]<xs[j]
 |0,_,_,_,eX=>absurd eX (Et _)
 |j+1,i,hi,hj,eX=>by
  have h1:=(h (j+1) hj hj).2.2 (by omega)
  simp only [Nat.add_sub_cancel] at h1
  by_cases e:i=j
  ·subst e;exact h1
  ·have:=Abj h j i hi (by omega) (by omega)
   omega
theorem jO {p:PP} {t:List Int} (h:Cw p t=true):YC p t:=by
 obtain ⟨hv,hp⟩:=Gk.1 h
 obtain ⟨h1,h2⟩:=Gk.1 hp
 have hV:=valid hv
 obtain ⟨_,_,Uo⟩:=Gk.1 hv
 have hat: ∀ {j:Nat} (h:j<t.length),∃k:Nat,t[j]=(k:Int)/\k<p.2.2.1.length:= λ {j} hj=>by
  have:=h2 j hj hj
  obtain ⟨k,hk⟩:=Bi this.1
  exact ⟨k,hk,by omega⟩
 refine ⟨hv,h1,?_,hV.gG.2,Uo,hat,λhi hj eX=>Abj h2 _ _ hi hj eX⟩
 have h5:=NN h2 (t.length-1) (by omega)
 obtain ⟨k,e,hk⟩:=hat (show t.length-1<t.length by omega)
 omega
theorem YC.in' {p:PP} {t:List Int} (h:YC p t): ∀k∈t,0<=k/\k<p.2.1.size:= λk hk=>by
 obtain ⟨j,hj,rfl⟩:=Bf.1 hk
 obtain ⟨kn,e,tw⟩:=h.Re hj
 rw [h.size,e]
 omega
theorem gk {p:PP} {t:List Int} (h:Cw p t=true):Cd (Bl p t)=true:=by
 have hs:=jO h
 have hV:=valid hs.valid
 obtain ⟨hg,hnm,_⟩:=Gk.1 hs.valid
 obtain ⟨g1,g2,g3⟩:=Gk.1 hg
 obtain ⟨n1,n2⟩:=Gk.1 hnm
 have Uo:=kG t hs.in'
 refine Gk.2 ⟨Gk.2 ⟨g1,?_,λq hq=>?_⟩,Gk.2 ⟨⟨?_,?_⟩,λj hj=>?_⟩,?_⟩
 ·show (t.map _).length<=8
  rw [Ck]
  have:=hs.gG
  have:=hs.g8
  omega
 ·obtain ⟨k,hk,rfl⟩:=Be.1 hq
  obtain ⟨j,hj,rfl⟩:=Bf.1 hk
  obtain ⟨kn,e,tw⟩:=hs.Re hj
  rw [e,Ac,Ce tw]
  exact g3 _ (Am tw)
 ·show 1<=(Wu p.2.1 t).size
  rw [Uo];exact hs.pos
 ·show (Wu p.2.1 t).size<=8
  rw [Uo];have:=hs.gG;have:=hs.g8;omega
 ·have hj:j<t.length:=by rw [<-Uo];exact hj
  obtain ⟨kn,e,tw⟩:=hs.Re hj
  obtain ⟨c,c1,c2,c3,c4⟩:=n2 kn (by rw [hs.size];exact tw)
  refine ⟨c,?_,c2,c3,λi hi=>?_⟩
  ·show (Wu p.2.1 t)[j]?=some c
   rw [IP t hs.in',Ad hj,e,Fc,Ac,c1]
  ·show (Wu p.2.1 t)[i]?≠some c
   have cM:i<t.length:=by omega
   obtain ⟨k2,e2,hk2⟩:=hs.Re cM
   have:=hs.inc cM hj hi
   rw [IP t hs.in',Ad cM,e2,Fc,Ac]
   exact c4 k2 (by omega)
 ·show (Wu p.2.1 t).size=(t.map _).length
  rw [Uo,Ck]
theorem uZ {p:PP} {t:List Int} (hp:Gb p) (h:Cw p t=true):Gb (Bl p t):=by
 have hs:=jO h
 have h1:=hs.gG
 have h2:=hs.g8
 refine ⟨?_,?_,λq hq=>?_⟩
 ·show (Wu p.2.1 t).size<=4294967296
  rw [kG t hs.in'];omega
 ·show (t.map _).length<=4294967296
  rw [Ck];omega
 ·obtain ⟨k,hk,rfl⟩:=Be.1 hq
  obtain ⟨j,hj,rfl⟩:=Bf.1 hk
  obtain ⟨kn,e,tw⟩:=hs.Re hj
  rw [e,Ac,Ce tw]
  exact hp.2.2 _ (Am tw)
theorem BU {p:PP} {t:List Int} (h:Cw p t=true) {x:List Int} (hx:Gn p.1.toNat ((Bl p t).2.2.1.map some) x):Gn p.1.toNat (p.2.2.1.map some) x:=by
 refine dP.mono (λg hg=>?_) hx
 have hg:=eP.1 hg
 obtain ⟨k,hk,rfl⟩:=Be.1 hg
 obtain ⟨j,hj,rfl⟩:=Bf.1 hk
 obtain ⟨kn,e,tw⟩:=(jO h).Re hj
 rw [e,Ac,Ce tw]
 exact eP.2 (Am tw)
theorem Ra {p:PP} {t:List Int} (hw:Cy p=true) (h:Cw p t=true):Cy (Bl p t)=true:=by
 have xy:=gk h
 have hr:=Wy xy
 refine Dp.2 ⟨xy,Bs λhn=>?_⟩
 have hn:(Jc (Bl p t).2.2.1 (upto (Bl p t).1.toNat)).2.2=false:=by simpa using hn
 obtain ⟨h1,z,h2,h3⟩:=hr.big hn
 have h5:=Ug (l1:=z::(Jc (Bl p t).2.2.1 (upto (Bl p t).1.toNat)).1) (l2:=Ae p) (Cm.2 ⟨h3,hr.nodup⟩) λx hx=>by
  rcases Bb.1 hx with rfl|hx
  ·exact (uX hw).all rfl _ (BU h h2)
  ·exact (uX hw).all rfl _ (BU h (hr.gen x hx))
 have h6:=eS (Dg hw).1
 simp only [Aw] at h5
 omega
theorem vd {p:PP} {t:List Int} (hw:Cy p=true) (h:Cw p t=true) {x:List Int} (hx:x∈Ae (Bl p t)):x∈Ae p:=
 (uX hw).all rfl _ (BU h ((Wy (gk h)).gen x hx))
theorem map_take {α β:Type} (f:α->β) {xs:List α} {j:Nat} (h:j<xs.length):(xs.take (j+1)).map f=(xs.take j).map f++ [f xs[j]]:=by
 rw [Kc,Ad h,Ir];rfl
theorem NJ (p:PP) (t:List Int) (h:Gb p/\Cw p t=true):fnW Gz (look [(86,Qe)]) Yz Try.f184 (p,t,()) (λ(z:PP)=>z=Bl p t):=by
 obtain ⟨hp,Oe⟩:=h
 have hs:=jO Oe
 refine Eq.mp (PQ p t _) ⟨rfl,rfl,rfl,rfl,?_⟩
 refine Cg t.length (λv=>v.1) (λj v=>v=((j:Int),p.1,p.2.1,p.2.2.1,0,ByteArray.empty,p.1,Wu p.2.1 (t.take j),[],(t.take j).map λk=>p.2.2.1.getD k.toNat [],())) rfl rfl ?_
 rintro j v K hj hi hR hK
 subst hR
 dsimp only
 have hlen:=hs.gG
 have hg8:=hs.g8
 refine Br.dec (λhl=>?_) λhl=>?_
 ·have hl:j<t.length:=by omega
  obtain ⟨kn,hk,tw⟩:=hs.Re hl
  have hkb:kn<p.2.1.size:=by rw [hs.size];exact tw
  have hw:IntKind.i64.wrap ((kn:Int)+1)=(kn:Int)+1:=Cj (by have:=hs.g8;omega) (by have:=hs.g8;omega)
  have Uo:=kG (b:=p.2.1) (t.take j) λk mU=>hs.in' k (Gf mU)
  have hex:(p.2.1.extract kn (kn+1)).size=1:=by rw [ByteArray.size_extract];omega
  refine ⟨_,Cf hl,?_⟩
  rw [hk,hw]
  refine ⟨⟨by omega,by omega,by omega⟩,by rw [show ((kn:Int)+1).toNat=kn+1 by omega,Ac,hex,Uo];have:=List.length_take_le j t;omega,_,Cf tw,_,Ab (hp.2.2 _ (Am tw)),rfl,rfl,?_,rfl,rfl,rfl,rfl,?_⟩
  ·show ((t.take j).map _).length+1<=4294967296
   rw [Ck];have:=List.length_take_le j t;have:=hs.g8;omega
  ·rw [Cb (by omega),show ((kn:Int)+1).toNat=kn+1 by omega,Ac]
   refine hK hl _ rfl ?_
   rw [yt _ hl,map_take _ hl,hk,Ac,show ((kn:Int)+1).toNat=kn+1 by omega,Ce tw]
 ·have:j=t.length:=by omega
  subst this
  rw [Bh,Dd]
  rfl
theorem uR:Sound Try.prog 184 Yz:=
 Sound.Hg Ff (Ba jC Cc) mixed Try.func184 (by kernel_rfl) (by kernel_rfl) λx h=>NJ x.1 x.2.1 h
theorem AF (p:PP) (t:List Int) (h:Gb p/\Cw p t=true):fnW Gz (look [(90,oq)]) Sz Try.f109 (p,t,()) (λ(z:PP)=>z=Bl p t):=by
 obtain ⟨hp,Oe⟩:=h
 have hs:=jO Oe
 refine Eq.mp (CU p t _) ⟨rfl,rfl,rfl,rfl,?_⟩
 refine Cg t.length (λv=>v.1) (λj v=>v=((j:Int),p.1,p.2.1,p.2.2.1,0,ByteArray.empty,p.1,Wu p.2.1 (t.take j),[],(t.take j).map λk=>p.2.2.1.getD k.toNat [],())) rfl rfl ?_
 rintro j v K hj hi hR hK
 subst hR
 dsimp only
 have hlen:=hs.gG
 have hg8:=hs.g8
 refine Br.dec (λhl=>?_) λhl=>?_
 ·have hl:j<t.length:=by omega
  obtain ⟨kn,hk,tw⟩:=hs.Re hl
  have hkb:kn<p.2.1.size:=by rw [hs.size];exact tw
  have hw:IntKind.i64.wrap ((kn:Int)+1)=(kn:Int)+1:=Cj (by have:=hs.g8;omega) (by have:=hs.g8;omega)
  have Uo:=kG (b:=p.2.1) (t.take j) λk mU=>hs.in' k (Gf mU)
  have hex:(p.2.1.extract kn (kn+1)).size=1:=by rw [ByteArray.size_extract];omega
  refine ⟨_,Cf hl,?_⟩
  rw [hk,hw]
  refine ⟨⟨by omega,by omega,by omega⟩,by rw [show ((kn:Int)+1).toNat=kn+1 by omega,Ac,hex,Uo];have:=List.length_take_le j t;omega,_,Cf tw,_,Ab (hp.2.2 _ (Am tw)),rfl,rfl,?_,rfl,rfl,rfl,rfl,?_⟩
  ·show ((t.take j).map _).length+1<=4294967296
   rw [Ck];have:=List.length_take_le j t;have:=hs.g8;omega
  ·rw [Cb (by omega),show ((kn:Int)+1).toNat=kn+1 by omega,Ac]
   refine hK hl _ rfl ?_
   rw [yt _ hl,map_take _ hl,hk,Ac,show ((kn:Int)+1).toNat=kn+1 by omega,Ce tw]
 ·have:j=t.length:=by omega
  subst this
  rw [Bh,Dd]
  rfl
theorem pX:Sound Try.prog 109 Sz:=
 Sound.Hg Ff (Ba BB Cc) mixed Try.func109 (by kernel_rfl) (by kernel_rfl) λx h=>AF x.1 x.2.1 h
theorem Lq {p:PP} {t:List Int} :Kx p t=true↔Cy p=true/\Cw p t=true:=by unfold Kx;rw [Aj]
theorem HN (p:PP) (t:List Int) (h:Gb p/\short t):fnW Gz (look [(88,Qv),(164,Jn),(109,Sz)]) Px Try.f108 (p,t,()) (λ(z:Option (Option XP×List Int×Option XP×Unit)×Bool×Unit)=>z=(if Kx p t=true then (some (Dy p t),true,()) else (none,false,()))):=by
 obtain ⟨hp,ht⟩:=h
 by_cases hw:Cy p=true
 ·have he:Qv.fn ((p.1,p.2.1,p.2.2.1,()),())=some (some (Ga p),true,()):=(Ab hp).trans (Dm some (Ab hw))
  refine Eq.mp (rj p t _) ⟨_,he,λhb=>by simp at hb,λ_=>⟨_,Ab ⟨hp,ht⟩,Br.of (λhm=>?_) λhm=>?_⟩⟩
  ·have hm: ¬Cw p t=true:=Is hm
   rw [Ai λh=>hm (Lq.1 h).2]
  have hm:Cw p t=true:=by simpa using hm
  have j5:=Ra hw hm
  have eu:Qv.fn (Bl p t,())=some (some (Ga (Bl p t)),true,()):=(Ab (uZ hp hm)).trans (Dm some (Ab j5))
  rw [Ab (Lq.2 ⟨hw,hm⟩)]
  exact ⟨_,Ab ⟨hp,hm⟩,_,eu,rfl⟩
 ·have he:Qv.fn ((p.1,p.2.1,p.2.2.1,()),())=some (none,false,()):=(Ab hp).trans (Dm some (Ai hw))
  rw [Ai λh=>hw (Lq.1 h).1]
  exact Eq.mp (rj p t _) ⟨_,he,λ_=>rfl,λhb=>by simp at hb⟩
theorem rW:Sound Try.prog 108 Px:=
 Sound.Hg Ff (Ba wE (Ba jD (Ba pX Cc))) mixed Try.func108 (by kernel_rfl) (by kernel_rfl) λx h=>HN x.1 x.2.1 h
theorem NH (p:PP) (t s:List Int) (h:Gb p/\short t/\short s):fnW Gz (look [(108,Px),(135,Sl)]) Il Try.f110 (p,t,s,()) (λ(z:Option (Option XP×List Int×Option XP×Unit)×Int×Bool×Unit)=>z=(if Kx p t=true then (some (Dy p t),(Gs p s).1,(Gs p s).2.1,()) else (none,0,false,()))):=by
 obtain ⟨hp,ht,hs⟩:=h
 by_cases hw:Kx p t=true
 ·have he:Px.fn ((p.1,p.2.1,p.2.2.1,()),t,())=some (some (Dy p t),true,()):=(Ab ⟨hp,ht⟩).trans (Dm some (Ab hw))
  rw [Ab hw]
  refine Eq.mp (vF p t s _) ⟨_,he,λhb=>by simp at hb,λ_=>⟨_,rfl,_,Ab ⟨⟨Ga p,rfl,(Lq.1 hw).1,rfl⟩,hs⟩,?_⟩⟩
  rfl
 ·have he:Px.fn ((p.1,p.2.1,p.2.2.1,()),t,())=some (none,false,()):=(Ab ⟨hp,ht⟩).trans (Dm some (Ai hw))
  rw [Ai hw]
  exact Eq.mp (vF p t s _) ⟨_,he,λ_=>rfl,λhb=>by simp at hb⟩
theorem cm:Sound Try.prog 110 Il:=
 Sound.Hg Ff (Ba rW (Ba ga Cc)) mixed Try.func110 (by kernel_rfl) (by kernel_rfl) λx h=>NH x.1 x.2.1 x.2.2.1 h
theorem Ake (h:Option HP) (i:Int) (hh: ∃p t,Kx p t=true/\h=some (Dy p t)/\0<=i/\i<(Ae p).length):fnW Gz (look [(135,Sl)]) dF Try.f113 (h,i,()) (λ(z:Bool)=>z=my h i):=by
 obtain ⟨p,t,hw,rfl,h1,h2⟩:=hh
 obtain ⟨k,rfl⟩:=Bi h1
 have hk:k<(Ae p).length:=by omega
 obtain ⟨Tf,hm⟩:=Lq.1 hw
 have Pc:=(aV Tf).1
 refine Eq.mp (Al9 _ _ _) ⟨Dy p t,rfl,Dy p t,rfl,Ga p,rfl,(Ae p)[k],by rw [Pc];exact Cf hk,_,Ab ⟨⟨Ga (Bl p t),rfl,Ra Tf hm,rfl⟩,ab (jM (Dg Tf).1 (Am hk))⟩,?_⟩
 show (Gs (Bl p t) (Ae p)[k]).2.1=decide ((Ae p).getD ((k:Nat):Int).toNat []∈Ae (Bl p t))
 rw [Ac,Ce hk]
 unfold Gs
 split
 ·rename_i h;rw [Bp h]
 ·rename_i h;rw [Eu h]
theorem uL:Sound Try.prog 113 dF:=
 Sound.Hg Ff (Ba ga Cc) mixed Try.func113 (by kernel_rfl) (by kernel_rfl) λx h=>Ake x.1 x.2.1 h
theorem xD {p:PP} {s:List Int} :(Gs p s).2.1=decide (s∈Ae p):=by
 unfold Gs
 split
 ·rename_i h;rw [Bp h]
 ·rename_i h;rw [Eu h]
theorem tJ {p:PP} {s:List Int} (h:s∈Ae p):0<=(Gs p s).1/\(Gs p s).1<(Ae p).length/\(Ae p).getD (Gs p s).1.toNat []=s:=by
 unfold Gs
 rw [Ab h]
 have h1:=Ef h
 refine ⟨Int.natCast_nonneg _,by show ((List.idxOf s (Ae p):Nat):Int)<_;omega,?_⟩
 show (Ae p).getD ((List.idxOf s (Ae p):Nat):Int).toNat []=s
 rw [Ac,Ce h1]
 exact Ml h1
theorem HI (p:PP) (t s:List Int) (h:Gb p/\short t/\short s):fnW Gz (look [(110,Il),(113,dF)]) Sw Try.f48 (p,t,s,()) (λ(z:Bool)=>z=fE p t s):=by
 obtain ⟨hp,ht,hs⟩:=h
 unfold fE
 by_cases hw:Kx p t=true
 ·have he:Il.fn ((p.1,p.2.1,p.2.2.1,()),t,s,())=some (some (Dy p t),(Gs p s).1,(Gs p s).2.1,()):=(Ab ⟨hp,ht,hs⟩).trans (Dm some (Ab hw))
  rw [hw,Kt]
  refine Eq.mp (ri p t s _) ⟨_,he,?_⟩
  dsimp only
  rw [xD]
  refine Br.dec (λhm=>?_) λhm=>?_
  ·obtain ⟨i1,i2,i3⟩:=tJ hm
   refine ⟨_,Ab ⟨p,t,hw,rfl,i1,i2⟩,?_⟩
   rw [Bp hm,Kt]
   show decide ((Ae p).getD (Gs p s).1.toNat []∈Ae (Bl p t))=_
   rw [i3]
  ·rw [Eu hm,Qg]
 ·have he:Il.fn ((p.1,p.2.1,p.2.2.1,()),t,s,())=some (none,0,false,()):=(Ab ⟨hp,ht,hs⟩).trans (Dm some (Ai hw))
  rw [En _|>.mp hw,Qg]
  exact Eq.mp (ri p t s _) ⟨_,he,λhb=>by simp at hb,λ_=>rfl⟩
theorem rR:Sound Try.prog 48 Sw:=
 Sound.Hg Ff (Ba cm (Ba uL Cc)) mixed Try.func48 (by kernel_rfl) (by kernel_rfl) λx h=>HI x.1 x.2.1 x.2.2.1 h
theorem Akb (p:PP) (t:List Int) (h:Gb p/\short t):fnW Gz (look [(84,Mb),(183,Jn),(184,Yz)]) jy Try.f132 (p,t,()) (λ(z:SS×SS×Bool×Unit)=>z=(if Kx p t=true then (Ib p.2.2.1 (upto p.1.toNat),Ib (Bl p t).2.2.1 (upto p.1.toNat),true,()) else ((Dk p).1,(Dk p).1,false,()))):=by
 obtain ⟨hp,ht⟩:=h
 refine Eq.mp (Al6 p t _) ⟨_,Ab hp,?_⟩
 have hz: ∀(x:SS),((x.1,x.2.1,x.2.2.1,x.2.2.2.1,()),(x.1,x.2.1,x.2.2.1,x.2.2.2.1,()),false,())=(x,x,false,()):= λx=>rfl
 dsimp only
 by_cases hw:Cy p=true
 ·have hv:=(Dg hw).1
  have e1:Dk (p.1,p.2.1,p.2.2.1,())=(Ib p.2.2.1 (upto p.1.toNat),true,()):=(Ab hv).trans (by rw [<-hw])
  rw [e1]
  refine ⟨λhb=>by simp at hb,λ_=>⟨_,Ab ⟨hp,ht⟩,Br.of (λhm=>?_) λhm=>?_⟩⟩
  ·have hm: ¬Cw p t=true:=Is hm
   rw [Ai λh=>hm (Lq.1 h).2]
   exact ⟨⟨rfl,rfl⟩,rfl⟩
  have hm:Cw p t=true:=by simpa using hm
  rw [Ab (Lq.2 ⟨hw,hm⟩)]
  have eu:Mb.fn (Bl p t,())=some (Ib (Bl p t).2.2.1 (upto p.1.toNat),true,()):=uW (p:=Bl p t) (uZ hp hm) (Ra hw hm)
  exact ⟨_,Ab ⟨hp,hm⟩,_,eu,⟨rfl,rfl⟩,rfl⟩
 ·have hwf:(Dk (p.1,p.2.1,p.2.2.1,())).2.1=false:=by
   show (Dk p).2.1=false
   unfold Dk
   split
   ·exact En _|>.mp hw
   ·rfl
  rw [hwf,Ai λh=>hw (Lq.1 h).1]
  exact ⟨λ_=>⟨⟨rfl,rfl⟩,rfl⟩,λhb=>by simp at hb⟩
theorem OJ:Sound Try.prog 132 jy:=
 Sound.Hg Ff (Ba jG (Ba jF (Ba uR Cc))) mixed Try.func132 (by kernel_rfl) (by kernel_rfl) λx h=>Akb x.1 x.2.1 h
theorem HO (p:PP) (t s:List Int) (h:Gb p/\short t/\short s):fnW Gz (look [(132,jy),(133,bu),(134,Nc)]) Sw Try.f60 (p,t,s,()) (λ(z:Bool)=>z=fE p t s):=by
 obtain ⟨hp,ht,hs⟩:=h
 unfold fE
 by_cases hw:Kx p t=true
 ·have he:jy.fn ((p.1,p.2.1,p.2.2.1,()),t,())=some (Ib p.2.2.1 (upto p.1.toNat),Ib (Bl p t).2.2.1 (upto p.1.toNat),true,()):=(Ab ⟨hp,ht⟩).trans (Dm some (Ab hw))
  obtain ⟨Tf,hm⟩:=Lq.1 hw
  have hv:=(Dg Tf).1
  rw [hw,Kt]
  refine Eq.mp (rk p t s _) ⟨_,he,λ_=>⟨_,Ab ⟨hp,hs,hv,rfl⟩,Br.dec (λOj=>?_) λOj=>?_⟩,λhb=>by simp at hb⟩
  ·have Oj:s∈Ae p:=Oj
   have hl:=(jM hv Oj).1
   refine ⟨_,Ab (by show Gg s.length (Ae (Bl p t)) (aM (Ae (Bl p t)));rw [hl];exact (aA (gk hm)).ok),?_⟩
   show decide (cS (Ae (Bl p t)) s>=0)=(decide (s∈Ae p)&&_)
   rw [Bp Oj,Kt]
   unfold cS
   split
   ·rename_i hm
    rw [Bp hm]
    exact Bp (by omega)
   ·rename_i hm
    rw [Eu hm]
    rfl
  ·have Oj:s∉Ae p:=Oj
   rw [Eu Oj,Qg]
 ·have he:jy.fn ((p.1,p.2.1,p.2.2.1,()),t,())=some ((Dk p).1,(Dk p).1,false,()):=(Ab ⟨hp,ht⟩).trans (Dm some (Ai hw))
  rw [En _|>.mp hw,Qg]
  exact Eq.mp (rk p t s _) ⟨_,he,λhb=>by simp at hb,λ_=>rfl⟩
theorem rX:Sound Try.prog 60 Sw:=
 Sound.Hg Ff (Ba OJ (Ba wF (Ba bf Cc))) mixed Try.func60 (by kernel_rfl) (by kernel_rfl) λx h=>HO x.1 x.2.1 x.2.2.1 h
theorem Aby {p:PP} (hv:Cd p=true):1<=(Ae p).length:=by
 obtain ⟨A,h⟩:=(Wy hv).first
 show 1<=(Jc p.2.2.1 (upto p.1.toNat)).1.length
 rw [h];simp
end Go.Proofs.Ytkkdpknjohcekaa
