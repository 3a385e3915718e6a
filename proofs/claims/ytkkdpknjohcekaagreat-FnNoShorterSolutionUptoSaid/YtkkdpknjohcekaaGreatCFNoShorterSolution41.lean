/-
  Part 42 of the proof that the statement FnNoShorterSolution holds.
-/
import Derived.Test.YtkkdpknjohcekaaGreatCFNoShorterSolution40
namespace Go.Proofs.YtkkdpknjohcekaaGreat
open Go.RowKit
def ap (p:List Int) (i:Nat):Nat:=(Ih p (i:Int)).toNat
def Pm (n:Nat) (p:List Int):Prop:=p.length=n/\bH p
theorem Pm.n1 {n:Nat} {p:List Int} (h:Pm n p):1<=n:=h.1▸h.2.pos
theorem Pm.n2 {n:Nat} {p:List Int} (h:Pm n p):n<=20:=h.1▸h.2.len
theorem Pm.aq {n:Nat} {p:List Int} (h:Pm n p) {i:Nat} (hi:i<n):Ih p (i:Int)=(ap p i:Int)/\ap p i<n:=by
 have kR:i<p.length:=by rw [h.1];exact hi
 have:=h.2.row _ (Ak kR)
 unfold ap
 rw [La kR]
 have h1:=h.1
 omega
theorem Pm.lt {n:Nat} {p:List Int} (h:Pm n p) {i:Nat} (hi:i<n):ap p i<n:=(h.aq hi).2
theorem Pm.ext {n:Nat} {p q:List Int} (h:Pm n p) (k:Pm n q) (e: ∀i,i<n->ap p i=ap q i):p=q:=by
 refine fe (by rw [h.1,k.1]) λi h1 h2=>?_
 have hi:i<n:=by rw [<-h.1];exact h1
 have a:=(h.aq hi).1
 have b:=(k.aq hi).1
 rw [La h1] at a
 rw [La h2] at b
 rw [a,b,e i hi]
theorem Pm.inj {n:Nat} {p:List Int} (h:Pm n p) {i j:Nat} (hi:i<n) (hj:j<n) (e:ap p i=ap p j):i=j:=
 h.2.inj i j (by rw [h.1];exact hi) (by rw [h.1];exact hj) e
theorem Pm.TN {n:Nat} {p:List Int} (h:Pm n p) {k:Nat} (hk:k<n): ∃i,i<n/\ap p i=k:=by
 obtain ⟨i,h1,h2⟩:=h.2.TN k (by rw [h.1];exact hk)
 exact ⟨i,by rw [<-h.1];exact h1,h2⟩
theorem Pm.of {n:Nat} {p:List Int} (hl:p.length=n) (h1:1<=n) (h2:n<=20) (f:Nat->Nat) (hf: ∀i,i<n->p[i]?=some (f i:Int)/\f i<n) (hi: ∀i j,i<n->j<n->f i=f j->i=j):Pm n p:=by
 refine ⟨hl,by omega,by omega,λy hy=>?_,?_⟩
 ·obtain ⟨i,hi,rfl⟩:=Bf.1 hy
  obtain ⟨h3,h4⟩:=hf i (by omega)
  rw [Ac hi] at h3
  rw [Bc h3]
  omega
 ·refine Ek.2 λi j h3 h4 h5 h6=>?_
  have a:=(hf i (by omega)).1
  have b:=(hf j (by omega)).1
  rw [Ac h3] at a
  rw [Ac h4] at b
  rw [Bc a,Bc b] at h6
  have:=hi i j (by omega) (by omega) (by omega)
  omega
theorem DH {n:Nat} {p q:List Int} (hp:Pm n p) (hq:Pm n q) {i:Nat} (hi:i<n):(Ag p q)[i]?=some (ap q (ap p i):Int):=by
 have h1:i<p.length:=by rw [hp.1];exact hi
 unfold Ag
 rw [Ff,Ac h1]
 have a:=(hp.aq hi).1
 rw [La h1] at a
 simp only [Al,a]
 rw [(hq.aq (hp.aq hi).2).1]
theorem Pm.comp {n:Nat} {p q:List Int} (hp:Pm n p) (hq:Pm n q):Pm n (Ag p q):=
 Pm.of (by rw [Sb,hp.1]) hp.n1 hp.n2 (λi=>ap q (ap p i)) (λi hi=>⟨DH hp hq hi,hq.lt (hp.lt hi)⟩) λi j hi hj e=>hp.inj hi hj (hq.inj (hp.lt hi) (hp.lt hj) e)
theorem XF {p:List Int} {i k:Nat} (h:p[i]?=some (k:Int)):ap p i=k:=by
 unfold ap Ih
 rw [Au,Aj,h]
 simp
theorem Mn {n:Nat} {p q:List Int} (hp:Pm n p) (hq:Pm n q) {i:Nat} (hi:i<n):ap (Ag p q) i=ap q (ap p i):=XF (DH hp hq hi)
theorem kb {n i:Nat} (hi:i<n):(upto n)[i]?=some (i:Int):=by simp [upto,hi]
theorem nc {n i:Nat} (hi:i<n):ap (upto n) i=i:=XF (kb hi)
theorem Pm.id {n:Nat} (h1:1<=n) (h2:n<=20):Pm n (upto n):=Pm.of (by simp [upto]) h1 h2 (λi=>i) (λi hi=>⟨kb hi,hi⟩) λ_ _ _ _ e=>e
theorem QK {n:Nat} {p:List Int} (hp:Pm n p) {i:Nat} (hi:i<n):(Bs p)[ap p i]?=some (i:Int):=ZI hp.2 (by rw [hp.1];exact hi)
theorem ko {n:Nat} {p:List Int} (hp:Pm n p) {i:Nat} (hi:i<n):ap (Bs p) (ap p i)=i:=XF (QK hp hi)
theorem yF {n:Nat} {p:List Int} (hp:Pm n p) {k:Nat} (hk:k<n):ap p (ap (Bs p) k)=k:=by
 obtain ⟨i,hi,rfl⟩:=hp.TN hk
 rw [ko hp hi]
theorem Pm.inv {n:Nat} {p:List Int} (hp:Pm n p):Pm n (Bs p):=by
 refine Pm.of (by rw [sd,hp.1]) hp.n1 hp.n2 (λk=>ap (Bs p) k) (λk hk=>?_) λi j hi hj e=>?_
 ·obtain ⟨i,hi,rfl⟩:=hp.TN hk
  rw [ko hp hi]
  exact ⟨QK hp hi,hi⟩
 ·rw [<-yF hp hi,<-yF hp hj,e]
theorem Kh {n:Nat} {p q r:List Int} (hp:Pm n p) (hq:Pm n q) (hr:Pm n r):Ag (Ag p q) r=Ag p (Ag q r):=
 ((hp.comp hq).comp hr).ext (hp.comp (hq.comp hr)) λi hi=>by rw [Mn (hp.comp hq) hr hi,Mn hp hq hi,Mn hp (hq.comp hr) hi,Mn hq hr (hp.lt hi)]
theorem comp_id {n:Nat} {p:List Int} (hp:Pm n p):Ag p (upto n)=p:=
 (hp.comp (Pm.id hp.n1 hp.n2)).ext hp λi hi=>by rw [Mn hp (Pm.id hp.n1 hp.n2) hi,nc (hp.lt hi)]
theorem id_comp {n:Nat} {p:List Int} (hp:Pm n p):Ag (upto n) p=p:=
 ((Pm.id hp.n1 hp.n2).comp hp).ext hp λi hi=>by rw [Mn (Pm.id hp.n1 hp.n2) hp hi,nc hi]
theorem sQ {n:Nat} {p:List Int} (hp:Pm n p):Ag p (Bs p)=upto n:=
 (hp.comp hp.inv).ext (Pm.id hp.n1 hp.n2) λi hi=>by rw [Mn hp hp.inv hi,ko hp hi,nc hi]
theorem eC {n:Nat} {p:List Int} (hp:Pm n p):Ag (Bs p) p=upto n:=
 (hp.inv.comp hp).ext (Pm.id hp.n1 hp.n2) λi hi=>by rw [Mn hp.inv hp hi,yF hp hi,nc hi]
theorem tG {n:Nat} {p q:List Int} (hp:Pm n p) (hq:Pm n q) (h:Ag p q=upto n):Bs p=q:=by
 rw [<-comp_id hp.inv,<-h,<-Kh hp.inv hp hq,eC hp,id_comp hq]
theorem inv_mul {n:Nat} {p q:List Int} (hp:Pm n p) (hq:Pm n q):Bs (Ag p q)=Ag (Bs q) (Bs p):=
 tG (hp.comp hq) (hq.inv.comp hp.inv) (by
  rw [Kh hp hq (hq.inv.comp hp.inv),<-Kh hq hq.inv hp.inv,sQ hq,id_comp hp.inv,sQ hp])
theorem inv_inv {n:Nat} {p:List Int} (hp:Pm n p):Bs (Bs p)=p:=tG hp.inv hp (eC hp)
theorem ZJ {n:Nat} (h1:1<=n) (h2:n<=20):Bs (upto n)=upto n:=tG (Pm.id h1 h2) (Pm.id h1 h2) (comp_id (Pm.id h1 h2))
inductive dt (n:Nat) (S:List Int->Prop):List Int->Prop where
 |id:dt n S (upto n)
 |mul {p g:List Int} :dt n S p->S g->dt n S (Ag p g)
 |inv {p g:List Int} :dt n S p->S g->dt n S (Ag p (Bs g))
def RO (n:Nat) (S:List Int->Prop):Prop:=(1<=n/\n<=20)/\ ∀g,S g->Pm n g
theorem dt.pm {n:Nat} {S:List Int->Prop} (hS:RO n S) {p:List Int} (h:dt n S p):Pm n p:=by
 induction h with
 |id=>exact Pm.id hS.1.1 hS.1.2
 |mul _ hg ih=>exact ih.comp (hS.2 _ hg)
 |inv _ hg ih=>exact ih.comp (hS.2 _ hg).inv
theorem dt.comp {n:Nat} {S:List Int->Prop} (hS:RO n S) {p q:List Int} (hp:dt n S p) (hq:dt n S q):dt n S (Ag p q):=by
 induction hq with
 |id=>rw [comp_id (hp.pm hS)];exact hp
 |mul hq hg ih=>rw [<-Kh (hp.pm hS) (hq.pm hS) (hS.2 _ hg)];exact .mul ih hg
 |inv hq hg ih=>rw [<-Kh (hp.pm hS) (hq.pm hS) (hS.2 _ hg).inv];exact .inv ih hg
theorem dt.one {n:Nat} {S:List Int->Prop} (hS:RO n S) {g:List Int} (hg:S g):dt n S g:=by
 have:=dt.mul (n:=n) (S:=S) .id hg
 rwa [id_comp (hS.2 g hg)] at this
theorem dt.Aj0 {n:Nat} {S:List Int->Prop} (hS:RO n S) {g:List Int} (hg:S g):dt n S (Bs g):=by
 have:=dt.inv (n:=n) (S:=S) .id hg
 rwa [id_comp (hS.2 g hg).inv] at this
theorem dt.zd {n:Nat} {S:List Int->Prop} (hS:RO n S) {p:List Int} (hp:dt n S p):dt n S (Bs p):=by
 induction hp with
 |id=>rw [ZJ hS.1.1 hS.1.2];exact .id
 |mul hq hg ih=>rw [inv_mul (hq.pm hS) (hS.2 _ hg)];exact (dt.Aj0 hS hg).comp hS ih
 |inv hq hg ih=>rw [inv_mul (hq.pm hS) (hS.2 _ hg).inv,inv_inv (hS.2 _ hg)];exact (dt.one hS hg).comp hS ih
theorem dt.trans {n:Nat} {S S':List Int->Prop} (hS':RO n S') (h: ∀g,S g->dt n S' g) {p:List Int} (hp:dt n S p):dt n S' p:=by
 induction hp with
 |id=>exact .id
 |mul _ hg ih=>exact ih.comp hS' (h _ hg)
 |inv _ hg ih=>exact ih.comp hS' ((h _ hg).zd hS')
abbrev PO:=Option (List Int)
abbrev Row:=List PO
abbrev Gv:=List Row
def Vk (row:Row):List Int:=(upto row.length).filter λy=>(row.getD y.toNat none).isSome
def Pk (T:Gv):Nat->Nat->List Int->Bool
 |0,_,_=>true
 |k+1,i,p=>match (T.getD i []).getD (Ih p (i:Int)).toNat none with
  |none=>false
  |some t=>Pk T k (i+1) (Ag p (Bs t))
def So (row:Row):Nat:=row.countP (·.isNone)
def aR (x:Int) (s:Row×List Int) (o:PO):Row×List Int:=
 match s.1.getD (Ih (o.getD []) x).toNat none with
 |some _=>s
 |none=>(s.1.set (Ih (o.getD []) x).toNat (some (Ag ((s.1.getD x.toNat none).getD []) (o.getD []))),s.2++ [Ih (o.getD []) x])
def aF (x:Int) (gs:List PO) (s:Row×List Int):Row×List Int:=gs.foldl (aR x) s
def au (gs:List PO):Nat->List Int->Row->Row
 |0,_,row=>row
 |_+1,[],row=>row
 |f+1,x::q,row=>au gs f (aF x gs (row,q)).2 (aF x gs (row,q)).1
def Zo (gs:List PO) (row:Row):Row:=au gs 100 (Vk row) row
def Ui (row:Row) (y:Int) (g:PO):List Int:=
 Ag (Ag ((row.getD y.toNat none).getD []) (g.getD [])) (Bs ((row.getD (Ih (g.getD []) y).toNat none).getD []))
def gY (row:Row) (gs:List PO):List (List Int):=(Vk row).flatMap λy=>gs.map λg=>Ui row y g
def Ig:Nat->Nat->List Int->Gv×Gv->Gv×Gv
 |0,_,_,s=>s
 |k+1,l,p,s=>
  if Pk s.2 (k+1) l p=true then s else
   (gY (Zo (s.1.getD l []++ [some p]) (s.2.getD l [])) (s.1.getD l []++ [some p])).foldl (λs q=>Ig k (l+1) q s)
    (s.1.set l (s.1.getD l []++ [some p]),s.2.set l (Zo (s.1.getD l []++ [some p]) (s.2.getD l [])))
def Fx (l:Nat) (p:List Int):Prop:= ∀i,i<l->ap p i=i
def Gn (n:Nat) (gs:List PO):List Int->Prop:=dt n λg=>some g∈gs
structure Lvl (n l:Nat) (gs:List PO) (row:Row) (H:List Int->Prop):Prop where
 pg: ∀o∈gs,∃g,o=some g/\Pm n g/\Fx l g
 rl:row.length=n
 r0:row.getD l none=some (upto n)
 rt: ∀y t,row.getD y none=some t->Pm n t/\Fx l t/\ap t l=y/\Gn n gs t
 cl: ∀y t g,row.getD y none=some t->some g∈gs->row.getD (ap g y) none≠none
 sg: ∀y t g t',row.getD y none=some t->some g∈gs->row.getD (ap g y) none=some t'->H (Ag (Ag t g) (Bs t'))
def qZ (n:Nat):Nat->Nat->Gv×Gv->Prop
 |0,l,s=>s.1.getD l []= []
 |k+1,l,s=>qZ n k (l+1) s/\Lvl n l (s.1.getD l []) (s.2.getD l []) (λq=>Pk s.2 k (l+1) q=true)/\ ∀g,some g∈s.1.getD (l+1) []->Gn n (s.1.getD l []) g
theorem Aes {l1 l2:List Nat} (hn:l1.Nodup) (hs: ∀x∈l1,x∈l2) (hl:l2.length<=l1.length): ∀x∈l2,x∈l1:=by
 induction l1 generalizing l2 with
 |nil=>
  intro x hx
  have:l2= []:=Ci (by simpa using hl)
  rw [this] at hx;cases hx
 |cons a l ih=>
  intro x hx
  obtain ⟨h1,h2⟩:=Cd.1 hn
  have ha:=hs a (by simp)
  by_cases e:x=a
  ·subst e;simp
  ·refine Ao _ (ih (l2:=l2.erase a) h2 (λy hy=>?_) ?_ x ((List.mem_erase_of_ne e).2 hx))
   ·have hya:y≠a:= λe'=>h1 (by rw [<-e'];exact hy)
    exact (List.mem_erase_of_ne hya).2 (hs y (by simp [hy]))
   ·rw [List.length_erase_of_mem ha]
    simp only [Ay] at hl
    omega
theorem LU {n:Nat} {g:List Int} (hg:Pm n g) (D:Nat->Bool) (h: ∀y,y<n->D y=true->D (ap g y)=true) {y:Nat} (hy:y<n) (hD:D y=true): ∃x,x<n/\D x=true/\ap g x=y:=by
 have:=Aes (l1:=((List.range n).filter D).map (ap g)) (l2:=(List.range n).filter D) ?_ ?_ (by simp) y (Bw.2 ⟨Dl.2 hy,hD⟩)
 ·obtain ⟨x,hx,e⟩:=Bi.1 this
  obtain ⟨h1,h2⟩:=Bw.1 hx
  exact ⟨x,Dl.1 h1,h2,e⟩
 ·refine List.pairwise_map.2 (List.Pairwise.imp_of_mem ?_ (List.nodup_range.filter D))
  intro a b ha hb Jr e
  exact Jr (hg.inj (Dl.1 (Bw.1 ha).1) (Dl.1 (Bw.1 hb).1) e)
 ·intro x hx
  obtain ⟨z,hz,rfl⟩:=Bi.1 hx
  obtain ⟨h1,h2⟩:=Bw.1 hz
  exact Bw.2 ⟨Dl.2 (hg.lt (Dl.1 h1)),h z (Dl.1 h1) h2⟩
theorem rZ {row:Row} {y:Nat} {t:List Int} (h:row.getD y none=some t):y<row.length:=by
 rw [Aj] at h
 refine Bx λhn=>?_
 rw [Dm (by omega)] at h
 cases h
theorem Lvl.pms {n l:Nat} {gs:List PO} {row:Row} {H:List Int->Prop} (h:Lvl n l gs row H):RO n λg=>some g∈gs:=by
 refine ⟨?_,λg hg=>?_⟩
 ·have:=(h.rt l _ h.r0).1
  exact ⟨this.n1,this.n2⟩
 ·obtain ⟨g',e,h1,_⟩:=h.pg _ hg
  cases e;exact h1
theorem Fx.inv {n l:Nat} {p:List Int} (hp:Pm n p) (h:Fx l p) (hl:l<=n):Fx l (Bs p):= λi hi=>by
 have:=ko hp (i:=i) (by omega)
 rwa [h i hi] at this
theorem Fx.comp {n l:Nat} {p q:List Int} (hp:Pm n p) (hq:Pm n q) (h1:Fx l p) (h2:Fx l q) (hl:l<=n):Fx l (Ag p q):= λi hi=>by
 rw [Mn hp hq (by omega),h1 i hi,h2 i hi]
theorem Fx.all {n:Nat} {p:List Int} (hp:Pm n p) (h:Fx n p):p=upto n:=hp.ext (Pm.id hp.n1 hp.n2) λi hi=>by rw [h i hi,nc hi]
theorem Fx.div {n l:Nat} {p t:List Int} (hp:Pm n p) (ht:Pm n t) (h1:Fx l p) (h2:Fx l t) (hl:l<n) (e:ap t l=ap p l):Fx (l+1) (Ag p (Bs t)):= λi hi=>by
 rw [Mn hp ht.inv (by omega)]
 by_cases hil:i<l
 ·rw [h1 i hil];exact h2.inv ht (by omega) i hil
 ·have:i=l:=by omega
  subst this
  rw [<-e,ko ht hl]
theorem nM {n:Nat} (h1:1<=n) (h2:n<=20): ∀(k l:Nat) (s:Gv×Gv),l+k=n->qZ n k l s-> ∀p,Pm n p->Fx l p->(Pk s.2 k l p=true↔Gn n (s.1.getD l []) p)
 |0,l,s,hk,hc,p,hp,hf=>by
  have hl:l=n:=by omega
  subst hl
  rw [hf.all hp]
  exact ⟨λ_=> .id,λ_=>rfl⟩
 |k+1,l,s,hk,hc,p,hp,hf=>by
  obtain ⟨c1,c2,c3⟩:=hc
  have hS:=c2.pms
  have ih:=nM h1 h2 k (l+1) s (by omega) c1
  have hS1:RO n λg=>some g∈s.1.getD (l+1) []:=⟨⟨h1,h2⟩,λg hg=>(c3 g hg).pm hS⟩
  have lr:l<n:=by omega
  constructor
  ·intro h
   simp only [Pk] at h
   rw [show (Ih p (l:Int)).toNat=ap p l from rfl] at h
   split at h
   ·cases h
   ·rename_i t ht
    obtain ⟨t1,t2,t3,t4⟩:=c2.rt _ _ ht
    have hf':=Fx.div hp t1 hf t2 lr t3
    have hg:=((ih _ (hp.comp t1.inv) hf').1 h).trans hS c3
    have:=dt.comp hS hg t4
    rwa [Kh hp t1.inv t1,eC t1,comp_id hp] at this
  ·intro h
   have key: ∀q,Gn n (s.1.getD l []) q-> ∃t,(s.2.getD l []).getD (ap q l) none=some t/\Gn n (s.1.getD (l+1) []) (Ag q (Bs t)):=by
    intro q hq
    induction hq with
    |id=>
     refine ⟨upto n,by rw [nc lr];exact c2.r0,?_⟩
     rw [ZJ h1 h2,comp_id (Pm.id h1 h2)]
     exact .id
    | @mul q g hq hg ihq=>
     obtain ⟨t,e1,e2⟩:=ihq
     have hqp:=dt.pm hS hq
     have Xo:=hS.2 _ hg
     obtain ⟨t1,t2,t3,t4⟩:=c2.rt _ _ e1
     cases e3:(s.2.getD l []).getD (ap g (ap q l)) none with
     |none=>exact absurd e3 (c2.cl _ _ _ e1 hg)
     |some t'=>
      obtain ⟨u1,u2,u3,u4⟩:=c2.rt _ _ e3
      have hsg:=c2.sg _ _ _ _ e1 hg e3
      have hfg:Fx (l+1) (Ag (Ag t g) (Bs t')):=Fx.div (t1.comp Xo) u1 (Fx.comp t1 Xo t2 (by obtain ⟨g',e,_,h⟩:=c2.pg _ hg;cases e;exact h) (by omega)) u2 lr (by rw [u3,Mn t1 Xo lr,t3])
      have hgn:=(ih _ ((t1.comp Xo).comp u1.inv) hfg).1 hsg
      refine ⟨t',by rw [Mn hqp Xo lr];exact e3,?_⟩
      have:=dt.comp hS1 e2 hgn
      rwa [show Ag (Ag q (Bs t)) (Ag (Ag t g) (Bs t'))=Ag (Ag q g) (Bs t') by
       rw [Kh hqp t1.inv ((t1.comp Xo).comp u1.inv),Kh t1 Xo u1.inv,<-Kh t1.inv t1 (Xo.comp u1.inv),eC t1,id_comp (Xo.comp u1.inv),Kh hqp Xo u1.inv]] at this
    | @inv q g hq hg ihq=>
     obtain ⟨t,e1,e2⟩:=ihq
     have hqp:=dt.pm hS hq
     have Xo:=hS.2 _ hg
     obtain ⟨t1,t2,t3,t4⟩:=c2.rt _ _ e1
     have hy:ap q l<n:=hqp.lt lr
     obtain ⟨x,hx,hD,he⟩:=LU Xo (λy=>((s.2.getD l []).getD y none).isSome) (λy hy hd=>by
      obtain ⟨t0,ht0⟩:=iz.1 hd
      exact Option.ne_none_iff_isSome.1 (c2.cl _ _ _ ht0 hg)) hy (by rw [e1];rfl)
     obtain ⟨t',e3⟩:=iz.1 hD
     obtain ⟨u1,u2,u3,u4⟩:=c2.rt _ _ e3
     have hsg:=c2.sg _ _ _ _ e3 hg (by rw [he];exact e1)
     have hfg:Fx (l+1) (Ag (Ag t' g) (Bs t)):=Fx.div (u1.comp Xo) t1 (Fx.comp u1 Xo u2 (by obtain ⟨g',e,_,h⟩:=c2.pg _ hg;cases e;exact h) (by omega)) t2 lr (by rw [t3,Mn u1 Xo lr,u3,he])
     have hgn:=dt.zd hS1 ((ih _ ((u1.comp Xo).comp t1.inv) hfg).1 hsg)
     have hax:ap (Bs g) (ap q l)=x:=by rw [<-he,ko Xo hx]
     refine ⟨t',by rw [Mn hqp Xo.inv lr,hax];exact e3,?_⟩
     have:=dt.comp hS1 e2 hgn
     rwa [show Ag (Ag q (Bs t)) (Bs (Ag (Ag t' g) (Bs t)))=Ag (Ag q (Bs g)) (Bs t') by
      rw [inv_mul (u1.comp Xo) t1.inv,inv_inv t1,inv_mul u1 Xo,Kh hqp t1.inv (t1.comp (Xo.inv.comp u1.inv)),<-Kh t1.inv t1 (Xo.inv.comp u1.inv),eC t1,id_comp (Xo.inv.comp u1.inv),Kh hqp Xo.inv u1.inv]] at this
   obtain ⟨t,e1,e2⟩:=key p h
   obtain ⟨t1,t2,t3,t4⟩:=c2.rt _ _ e1
   simp only [Pk]
   rw [show (Ih p (l:Int)).toNat=ap p l from rfl,e1]
   exact (ih _ (hp.comp t1.inv) (Fx.div hp t1 hf t2 lr t3)).2 e2
theorem Yh {α:Type} (xs:List α) (i j:Nat) (x d:α):(xs.set i x).getD j d=if i=j/\i<xs.length then x else xs.getD j d:=by
 rw [Aj,Ei,Aj]
 by_cases e:i=j
 ·subst e
  by_cases h:i<xs.length
  ·rw [Ab rfl,Ab h,Ab ⟨rfl,h⟩];rfl
  ·rw [Ab rfl,Ai h,Ai (λhh=>h hh.2),Dm (by omega)]
 ·rw [Ai e,Ai (λhh=>e hh.1)]
theorem dt.mono {n:Nat} {S S':List Int->Prop} (h: ∀g,S g->S' g) {p:List Int} (hp:dt n S p):dt n S' p:=by
 induction hp with
 |id=>exact .id
 |mul _ hg ih=>exact .mul ih (h _ hg)
 |inv _ hg ih=>exact .inv ih (h _ hg)
structure Xm (n l:Nat) (gs:List PO) (row:Row):Prop where
 rl:row.length=n
 r0:row.getD l none=some (upto n)
 rt: ∀y t,row.getD y none=some t->Pm n t/\Fx l t/\ap t l=y/\Gn n gs t
def PG (n l:Nat) (gs:List PO):Prop:= ∀o∈gs,∃g,o=some g/\Pm n g/\Fx l g
structure Ext (n l:Nat) (gs:List PO) (row:Row) (q:List Int) (s':Row×List Int):Prop where
 ok:Xm n l gs s'.1
 mono: ∀y t,row.getD y none=some t->s'.1.getD y none=some t
 phi:s'.2.length+So s'.1=q.length+So row
 vB: ∀y∈q,y∈s'.2
 new: ∀y∈s'.2,y∈q\/ ∃yn:Nat,y=yn/\s'.1.getD yn none≠none
 src: ∀y:Nat,s'.1.getD y none≠none->row.getD y none≠none\/(y:Int)∈s'.2
theorem Ext.refl {n l:Nat} {gs:List PO} {row:Row} {q:List Int} (h:Xm n l gs row):Ext n l gs row q (row,q):=⟨h,λ_ _ h=>h,rfl,λ_ h=>h,λ_ h=> .inl h,λ_ h=> .inl h⟩
theorem fT {a b:Row} (h: ∀y t,a.getD y none=some t->b.getD y none=some t) {y:Nat} (hy:a.getD y none≠none):b.getD y none≠none:=by
 cases e:a.getD y none with
 |none=>exact absurd e hy
 |some t=>rw [h y t e];simp
theorem Ext.trans {n l:Nat} {gs:List PO} {row:Row} {q:List Int} {s1 s2:Row×List Int} (h:Ext n l gs row q s1) (k:Ext n l gs s1.1 s1.2 s2):Ext n l gs row q s2:=by
 refine ⟨k.ok,λy t e=>k.mono y t (h.mono y t e),k.phi.trans h.phi,λy hy=>k.vB y (h.vB y hy),λy hy=>?_,λy hy=>?_⟩
 ·rcases k.new y hy with h1|h1
  ·rcases h.new y h1 with h2|⟨yn,h2,h3⟩
   ·exact .inl h2
   ·exact .inr ⟨yn,h2,fT k.mono h3⟩
  ·exact .inr h1
 ·rcases k.src y hy with h1|h1
  ·exact (h.src y h1).imp id λh2=>k.vB _ h2
  ·exact .inr h1
theorem TL {row:Row} {i:Nat} {t:List Int} (h:row.getD i none=none) (hi:i<row.length):So (row.set i (some t))+1=So row:=by
 unfold So
 have e:row[i]=none:=by
  rw [Aj,Ac hi] at h
  exact h
 have h1:=List.countP_set (p:= λo:PO=>o.isNone) (l:=row) (i:=i) (a:=some t) hi
 have KL:0<row.countP (·.isNone):=List.countP_pos_iff.2 ⟨row[i],Ak hi,by rw [e];rfl⟩
 rw [h1,e]
 simp
 omega
theorem Aer {n l:Nat} {gs:List PO} (lr:l<n) (hg:PG n l gs) {row:Row} {q:List Int} (h:Xm n l gs row) {x:Nat} {t:List Int} (hx:row.getD x none=some t) {g:List Int} (ho:some g∈gs):
  Ext n l gs row q (aR (x:Int) (row,q) (some g))/\(aR (x:Int) (row,q) (some g)).1.getD (ap g x) none≠none:=by
 obtain ⟨g',e,Xo,hgf⟩:=hg _ ho
 cases e
 obtain ⟨t1,t2,t3,t4⟩:=h.rt _ _ hx
 have hxn:x<n:=by rw [<-h.rl];exact rZ hx
 obtain ⟨a1,a2⟩:=Xo.aq hxn
 unfold aR
 simp only [Dd,a1,Au]
 cases e:row.getD (ap g x) none with
 |some u=>exact ⟨Ext.refl h,by simp only;rw [e];simp⟩
 |none=>
  simp only [hx,Dd]
  have hl:ap g x<row.length:=by rw [h.rl];exact a2
  have hS:RO n λg=>some g∈gs:=⟨⟨t1.n1,t1.n2⟩,λg gR=>by obtain ⟨g',e,h1,_⟩:=hg _ gR;cases e;exact h1⟩
  have Aw: ∀y,(row.set (ap g x) (some (Ag t g))).getD y none=if ap g x=y/\ap g x<row.length then some (Ag t g) else row.getD y none:= λy=>Yh _ _ _ _ _
  have Jr: ∀y u,row.getD y none=some u->ap g x≠y:= λy u hu e'=>by rw [<-e',e] at hu;cases hu
  refine ⟨⟨⟨by simp [h.rl],?_,λy u hu=>?_⟩,λy u hu=>?_,?_,λy hy=>Bk _ hy,λy hy=>?_,λy hy=>?_⟩,?_⟩
  ·rw [Aw,Ai (λhh=>Jr l _ h.r0 hh.1)];exact h.r0
  ·rw [Aw] at hu
   split at hu
   ·rename_i hc
    cases hu
    exact ⟨t1.comp Xo,Fx.comp t1 Xo t2 hgf (by omega),by rw [Mn t1 Xo lr,t3];exact hc.1, .mul t4 ho⟩
   ·exact h.rt y u hu
  ·show (row.set (ap g x) (some (Ag t g))).getD y none=some u
   rw [Aw,Ai (λhh=>Jr y u hu hh.1)];exact hu
  ·have:=TL (t:=Ag t g) e hl
   simp only [As,Ay,Ex]
   omega
  ·rcases Bb.1 hy with hy|hy
   ·exact .inl hy
   ·simp only [Ad] at hy
    exact .inr ⟨ap g x,hy,by show (row.set (ap g x) (some (Ag t g))).getD (ap g x) none≠none;rw [Aw,Ab ⟨rfl,hl⟩];simp⟩
  ·have hy:(row.set (ap g x) (some (Ag t g))).getD y none≠none:=hy
   rw [Aw] at hy
   split at hy
   ·rename_i hc
    exact .inr (by show (y:Int)∈q++ [(ap g x:Int)];rw [<-hc.1];simp)
   ·exact .inl hy
  ·show (row.set (ap g x) (some (Ag t g))).getD (ap g x) none≠none
   rw [Aw,Ab ⟨rfl,hl⟩];simp
theorem Aao {n l:Nat} {gs:List PO} (lr:l<n) (hg:PG n l gs): ∀(gs':List PO) {row:Row} {q:List Int},(∀o∈gs',o∈gs)->Xm n l gs row-> ∀ {x:Nat} {t:List Int},row.getD x none=some t->
  Ext n l gs row q (aF (x:Int) gs' (row,q))/\ ∀g,some g∈gs'->(aF (x:Int) gs' (row,q)).1.getD (ap g x) none≠none
 | [],row,q,_,h,x,t,hx=>⟨Ext.refl h,λg hg=>by cases hg⟩
 |o::gs',row,q,hs,h,x,t,hx=>by
  obtain ⟨g,rfl,_,_⟩:=hg o (hs o (by simp))
  obtain ⟨e1,e2⟩:=Aer (q:=q) lr hg h hx (hs (some g) (by simp))
  obtain ⟨f1,f2⟩:=Aao lr hg gs' (q:=(aR (x:Int) (row,q) (some g)).2) (λo ho=>hs o (by simp [ho])) e1.ok (e1.mono x t hx)
  have hb:aF (x:Int) (some g::gs') (row,q)=aF (x:Int) gs' ((aR (x:Int) (row,q) (some g)).1,(aR (x:Int) (row,q) (some g)).2):=rfl
  rw [hb]
  refine ⟨e1.trans f1,λg' gR=>?_⟩
  rcases Bg.1 gR with e|gR
  ·cases e;exact fT f1.mono e2
  ·exact f2 g' gR
def RQ (gs:List PO) (q:List Int) (row:Row):Prop:=
 (∀y∈q,∃yn:Nat,y=yn/\row.getD yn none≠none)/\ ∀y:Nat,row.getD y none≠none->(y:Int)∈q\/ ∀g,some g∈gs->row.getD (ap g y) none≠none
theorem MM {n l:Nat} {gs:List PO} (lr:l<n) (hg:PG n l gs) {x:Int} {q:List Int} {row:Row} (h:Xm n l gs row) (hq:RQ gs (x::q) row):
  Ext n l gs row q (aF x gs (row,q))/\RQ gs (aF x gs (row,q)).2 (aF x gs (row,q)).1/\ ∃(xn:Nat) (t:List Int),x=xn/\row.getD xn none=some t:=by
 obtain ⟨xn,rfl,hx⟩:=hq.1 x (by simp)
 cases e:row.getD xn none with
 |none=>exact absurd e hx
 |some t=>
  obtain ⟨e1,e2⟩:=Aao lr hg gs (q:=q) (λo ho=>ho) h e
  refine ⟨e1,⟨λy hy=>?_,λy hy=>?_⟩,xn,t,rfl,e⟩
  ·rcases e1.new y hy with h1|h1
   ·obtain ⟨yn,h2,h3⟩:=hq.1 y (by simp [h1])
    exact ⟨yn,h2,fT e1.mono h3⟩
   ·exact h1
  ·rcases e1.src y hy with h1|h1
   ·rcases hq.2 y h1 with h2|h2
    ·rcases Bg.1 h2 with h2|h2
     ·have:y=xn:=by omega
      subst this
      exact .inr λg gR=>e2 g gR
     ·exact .inl (e1.vB _ h2)
    ·exact .inr λg gR=>fT e1.mono (h2 g gR)
   ·exact .inl h1
theorem Aav {n l:Nat} {gs:List PO} (lr:l<n) (hg:PG n l gs): ∀(f:Nat) (q:List Int) (row:Row),q.length+So row<=f->Xm n l gs row->RQ gs q row->
  Xm n l gs (au gs f q row)/\(∀y t,row.getD y none=some t->(au gs f q row).getD y none=some t)/\ ∀y t g,(au gs f q row).getD y none=some t->some g∈gs->(au gs f q row).getD (ap g y) none≠none
 |0,q,row,hf,h,hq=>by
  have:q= []:=Ci (by omega)
  subst this
  exact ⟨h,λ_ _ h=>h,λy t g e gR=>by
   rcases hq.2 y (by rw [show row.getD y none=some t from e];simp) with h1|h1
   ·cases h1
   ·exact h1 g gR⟩
 |f+1,[],row,hf,h,hq=>⟨h,λ_ _ h=>h,λy t g e gR=>by
   rcases hq.2 y (by rw [show row.getD y none=some t from e];simp) with h1|h1
   ·cases h1
   ·exact h1 g gR⟩
 |f+1,x::q,row,hf,h,hq=>by
  obtain ⟨e1,e2,_⟩:=MM lr hg h hq
  obtain ⟨r1,r2,r3⟩:=Aav lr hg f _ _ (by have:=e1.phi;simp only [Ay] at hf;omega) e1.ok e2
  exact ⟨r1,λy t e=>r2 y t (e1.mono y t e),r3⟩
theorem bd {row:Row} {y:Int} :y∈Vk row↔ ∃yn:Nat,y=yn/\row.getD yn none≠none:=by
 unfold Vk
 rw [Bw,Qw]
 constructor
 ·rintro ⟨h1,h2⟩
  exact ⟨y.toNat,by omega,Option.ne_none_iff_isSome.2 h2⟩
 ·rintro ⟨yn,rfl,h⟩
  obtain ⟨t,ht⟩:=dW.1 h
  exact ⟨by have:=rZ ht;omega,by simpa using Option.ne_none_iff_isSome.1 h⟩
theorem zC (row:Row):(Vk row).length<=row.length:=by
 unfold Vk
 refine Ml (List.length_filter_le _ _) (by simp [upto])
theorem FV (row:Row):So row<=row.length:=List.countP_le_length
theorem GB {n l:Nat} {gs:List PO} (lr:l<n) (h2:n<=20) (hg:PG n l gs) {row:Row} (h:Xm n l gs row):
  Xm n l gs (Zo gs row)/\(∀y t,row.getD y none=some t->(Zo gs row).getD y none=some t)/\ ∀y t g,(Zo gs row).getD y none=some t->some g∈gs->(Zo gs row).getD (ap g y) none≠none:=
 Aav lr hg 100 _ _ (by have:=zC row;have:=FV row;have:=h.rl;omega) h ⟨λy hy=>bd.1 hy,λy hy=> .inl (bd.2 ⟨y,rfl,hy⟩)⟩
theorem CZ {n l:Nat} {gs:List PO} (lr:l<n) (hg:PG n l gs): ∀(f:Nat) (q:List Int) (row:Row),q.length+So row<=f->Xm n l gs row->RQ gs q row->au gs f q row=au gs (q.length+So row) q row
 |0,q,row,hf,_,_=>by
  have:q.length+So row=0:=by omega
  rw [this]
 |f+1,[],row,hf,_,_=>by
  cases h:([]:List Int).length+So row with
  |zero=>rfl
  |succ m=>rfl
 |f+1,x::q,row,hf,h,hq=>by
  obtain ⟨e1,e2,_⟩:=MM lr hg h hq
  have Adx:=e1.phi
  have:(x::q).length+So row=(q.length+So row)+1:=by simp only [Ay];omega
  rw [this]
  simp only [au]
  rw [CZ lr hg f _ _ (by simp only [Ay] at hf;omega) e1.ok e2,Adx]
def DG (row:Row):Nat:=row.countP (·.isSome)
theorem xf: ∀(a b:Row),a.length=b.length->(∀y t,a.getD y none=some t->b.getD y none=some t)->DG a<=DG b/\(DG a=DG b->a=b)
 | [],[],_,_=>⟨Ap _,λ_=>rfl⟩
 | [],_::_,h,_=>by simp at h
 |_::_,[],h,_=>by simp at h
 |x::a,y::b,h,hm=>by
  obtain ⟨h1,h2⟩:=xf a b (by simpa using h) λi t e=>by simpa using hm (i+1) t (by simpa using e)
  unfold DG at h1 h2⊢
  cases x with
  |none=>
   cases y with
   |none=>simp only [List.countP_cons];exact ⟨by simpa using h1,λe=>by rw [h2 (by simpa using e)]⟩
   |some u=>
    simp only [List.countP_cons,Option.isSome_none,Option.isSome_some]
    simp only [Qa,Cz,Ry]
    exact ⟨by omega,λe=>by omega⟩
  |some t=>
   have:=hm 0 t (by simp)
   simp only [Xt] at this
   subst this
   simp only [List.countP_cons]
   exact ⟨by simpa using h1,λe=>by rw [h2 (by simpa using e)]⟩
def mK (T:Gv):Nat->Nat->Nat
 |0,_=>0
 |k+1,l=>DG (T.getD l [])+mK T k (l+1)
def GBf:Nat->Nat->Gv×Gv->Prop
 |0,_,_=>True
 |k+1,l,s=>GBf k (l+1) s/\(s.1.getD l []).length<=mK s.2 (k+1) l
structure bG (l0:Nat) (s s':Gv×Gv):Prop where
 Ano:s'.1.length=s.1.length
 tQ:s'.2.length=s.2.length
 low: ∀i,i<l0->s'.1.getD i []=s.1.getD i []/\s'.2.getD i []=s.2.getD i []
 PK: ∀i o,o∈s.1.getD i []->o∈s'.1.getD i []
 Abo: ∀i y t,(s.2.getD i []).getD y none=some t->(s'.2.getD i []).getD y none=some t
 Ajd: ∀i,(s'.2.getD i []).length=(s.2.getD i []).length
theorem bG.refl (l0:Nat) (s:Gv×Gv):bG l0 s s:=⟨rfl,rfl,λ_ _=>⟨rfl,rfl⟩,λ_ _ h=>h,λ_ _ _ h=>h,λ_=>rfl⟩
theorem bG.trans {l0 l1:Nat} {a b c:Gv×Gv} (h:bG l0 a b) (k:bG l1 b c) (hl:l0<=l1):bG l0 a c:=
 ⟨k.Ano.trans h.Ano,k.tQ.trans h.tQ,λi hi=>⟨(k.low i (by omega)).1.trans (h.low i hi).1,(k.low i (by omega)).2.trans (h.low i hi).2⟩,λi o ho=>k.PK i o (h.PK i o ho),λi y t e=>k.Abo i y t (h.Abo i y t e),λi=>(k.Ajd i).trans (h.Ajd i)⟩
theorem bG.Jp {l0 l1:Nat} {a b:Gv×Gv} (h:bG l1 a b) (hl:l0<=l1):bG l0 a b:=(bG.refl l0 a).trans h hl
theorem jg {T T':Gv} : ∀(k l:Nat) (p:List Int),(∀i,l<=i->i<l+k->T'.getD i []=T.getD i [])->Pk T' k l p=Pk T k l p
 |0,_,_,_=>rfl
 |k+1,l,p,h=>by
  simp only [Pk]
  rw [h l (Ap _) (by omega)]
  split
  ·rfl
  ·exact jg k (l+1) _ λi h1 h2=>h i (by omega) (by omega)
theorem mg {n:Nat} {s s':Gv×Gv} : ∀(k l:Nat),(∀i,l<=i->s'.1.getD i []=s.1.getD i []/\s'.2.getD i []=s.2.getD i [])->qZ n k l s->qZ n k l s'
 |0,l,h,hc=>by simp only [qZ] at hc⊢;rw [(h l (Ap _)).1];exact hc
 |k+1,l,h,hc=>by
  simp only [qZ] at hc⊢
  obtain ⟨c1,c2,c3⟩:=hc
  refine ⟨mg k (l+1) (λi hi=>h i (by omega)) c1,?_,?_⟩
  ·rw [(h l (Ap _)).1,(h l (Ap _)).2]
   have e:(λq=>Pk s'.2 k (l+1) q=true)= λq=>Pk s.2 k (l+1) q=true:=funext λq=>by rw [jg k (l+1) q λi h1 h2=>(h i (by omega)).2]
   rw [e];exact c2
  ·rw [(h (l+1) (by omega)).1,(h l (Ap _)).1];exact c3
theorem xV {T T':Gv} : ∀(k l:Nat),(∀i,l<=i->T'.getD i []=T.getD i [])->mK T' k l=mK T k l
 |0,_,_=>rfl
 |k+1,l,h=>by simp only [mK];rw [h l (Ap _),xV k (l+1) λi hi=>h i (by omega)]
theorem td {s s':Gv×Gv} : ∀(k l:Nat),(∀i,l<=i->s'.1.getD i []=s.1.getD i []/\s'.2.getD i []=s.2.getD i [])->GBf k l s->GBf k l s'
 |0,_,_,_=>trivial
 |k+1,l,h,hg=>⟨td k (l+1) (λi hi=>h i (by omega)) hg.1,by
  rw [(h l (Ap _)).1,xV (k+1) l λi hi=>(h i hi).2];exact hg.2⟩
theorem GW {T T':Gv} (hl: ∀i,(T'.getD i []).length=(T.getD i []).length) (hm: ∀i y t,(T.getD i []).getD y none=some t->(T'.getD i []).getD y none=some t):
  ∀(k l:Nat),mK T k l<=mK T' k l/\(mK T k l=mK T' k l-> ∀i,l<=i->i<l+k->T'.getD i []=T.getD i [])
 |0,l=>⟨Ap _,λ_ i h1 h2=>by omega⟩
 |k+1,l=>by
  obtain ⟨h1,h2⟩:=GW hl hm k (l+1)
  obtain ⟨h3,h4⟩:=xf (T.getD l []) (T'.getD l []) (hl l).symm (hm l)
  simp only [mK]
  refine ⟨by omega,λe i g1 g2=>?_⟩
  by_cases hi:i=l
  ·subst hi;exact (h4 (by omega)).symm
  ·exact h2 (by omega) i (by omega) (by omega)
def V (n k l:Nat) (s:Gv×Gv):Prop:=s.1.length=n/\s.2.length=n/\qZ n k l s/\GBf k l s
structure Aku (n k l:Nat) (s:Gv×Gv) (p:List Int) (s':Gv×Gv):Prop where
 v:V n k l s'
 grow:bG l s s'
 Ang:Gn n (s'.1.getD l []) p
 gens: ∀o∈s'.1.getD l [],o∈s.1.getD l []\/o=some p
theorem Lvl.row {n l:Nat} {gs:List PO} {row:Row} {H:List Int->Prop} (h:Lvl n l gs row H):Xm n l gs row:=⟨h.rl,h.r0,h.rt⟩
theorem jQ {row:Row} {y:Nat} {t g t':List Int} (h1:row.getD y none=some t) (h2:row.getD (ap g y) none=some t'):Ui row (y:Int) (some g)=Ag (Ag t g) (Bs t'):=by
 unfold Ui
 rw [Au,h1,Dd,Dd,show (Ih g (y:Int)).toNat=ap g y from rfl,h2,Dd]
theorem pq {n l:Nat} {gs:List PO} {row:Row} (hg:PG n l gs) (_h:Xm n l gs row) (hc: ∀y t g,row.getD y none=some t->some g∈gs->row.getD (ap g y) none≠none) {q:List Int} :
  q∈gY row gs↔ ∃(y:Nat) (t g t':List Int),row.getD y none=some t/\some g∈gs/\row.getD (ap g y) none=some t'/\q=Ag (Ag t g) (Bs t'):=by
 unfold gY
 rw [Hz]
 constructor
 ·rintro ⟨y,hy,hq⟩
  obtain ⟨o,ho,rfl⟩:=Bi.1 hq
  obtain ⟨yn,rfl,hyn⟩:=bd.1 hy
  obtain ⟨t,ht⟩:=dW.1 hyn
  obtain ⟨g,rfl,Xo,_⟩:=hg o ho
  obtain ⟨t',KQ⟩:=dW.1 (hc yn t g ht ho)
  exact ⟨yn,t,g,t',ht,ho,KQ,jQ ht KQ⟩
 ·rintro ⟨y,t,g,t',h1,h2,h3,rfl⟩
  obtain ⟨g',e,Xo,_⟩:=hg _ h2
  cases e
  exact ⟨(y:Int),bd.2 ⟨y,rfl,by rw [h1];simp⟩,Bi.2 ⟨some g,h2,jQ h1 h3⟩⟩
theorem yD {n:Nat} (h1:1<=n) (h2:n<=20): ∀(k l:Nat) (p:List Int) (s:Gv×Gv),l+k=n->V n k l s->Pm n p->Fx l p->Aku n k l s p (Ig k l p s)
 |0,l,p,s,hk,hv,hp,hf=>by
  have hl:l=n:=by omega
  subst hl
  exact ⟨hv,bG.refl _ _,by rw [hf.all hp];exact .id,λo ho=> .inl ho⟩
 |k+1,l,p,s,hk,hv,hp,hf=>by
  have lr:l<n:=by omega
  obtain ⟨v1,v2,hc,WL⟩:=hv
  have kQ:=hc
  obtain ⟨c1,c2,c3⟩:=hc
  unfold Ig
  by_cases hh:Pk s.2 (k+1) l p=true
  ·rw [Ab hh]
   exact ⟨⟨v1,v2,kQ,WL⟩,bG.refl _ _,(nM h1 h2 (k+1) l s hk kQ p hp hf).1 hh,λo ho=> .inl ho⟩
  rw [Ai hh]
  generalize PU:s.1.getD l []++ [some p]=gs
  have dy:some p∈gs:=by rw [<-PU];simp
  have Yj: ∀o∈s.1.getD l [],o∈gs:= λo ho=>by rw [<-PU];exact Bk _ ho
  have hg:PG n l gs:= λo ho=>by
   rw [<-PU] at ho
   rcases Bb.1 ho with ho|ho
   ·exact c2.pg o ho
   ·rw [Ad] at ho;exact ⟨p,ho,hp,hf⟩
  have Amt:Xm n l gs (s.2.getD l []):=⟨c2.rl,c2.r0,λy t e=>⟨(c2.rt y t e).1,(c2.rt y t e).2.1,(c2.rt y t e).2.2.1,(c2.rt y t e).2.2.2.mono λg hg=>Yj _ hg⟩⟩
  obtain ⟨r1,r2,r3⟩:=GB lr h2 hg Amt
  generalize hR:Zo gs (s.2.getD l [])=R at r1 r2 r3
  have hS:RO n λg=>some g∈gs:=⟨⟨h1,h2⟩,λg gR=>by obtain ⟨g',e,h,_⟩:=hg _ gR;cases e;exact h⟩
  have s11: ∀i,((s.1.set l gs).getD i []=if i=l then gs else s.1.getD i [])/\(s.2.set l R).getD i []=if i=l then R else s.2.getD i []:= λi=>by
   rw [Yh,Yh]
   by_cases e:l=i
   ·subst e;rw [Ab ⟨rfl,by omega⟩,Ab rfl,Ab ⟨rfl,by omega⟩,Ab rfl];exact ⟨rfl,rfl⟩
   ·rw [Ai (λhh=>e hh.1),Ai (Hs e),Ai (λhh=>e hh.1),Ai (Hs e)];exact ⟨rfl,rfl⟩
  have QH: ∀i,l+1<=i->(s.1.set l gs).getD i []=s.1.getD i []/\(s.2.set l R).getD i []=s.2.getD i []:= λi hi=>by
   rw [(s11 i).1,(s11 i).2,Ai (by omega),Ai (by omega)];exact ⟨rfl,rfl⟩
  have jk:V n k (l+1) (s.1.set l gs,s.2.set l R):=⟨by simpa using v1,by simpa using v2,mg k (l+1) QH c1,td k (l+1) QH WL.1⟩
  have Ahv:bG l s (s.1.set l gs,s.2.set l R):=by
   refine ⟨by simp,by simp,λi hi=>?_,λi o ho=>?_,λi y t e=>?_,λi=>?_⟩
   ·rw [(s11 i).1,(s11 i).2,Ai (by omega),Ai (by omega)];exact ⟨rfl,rfl⟩
   ·rw [(s11 i).1]
    split
    ·rename_i hi;subst hi;exact Yj o ho
    ·exact ho
   ·rw [(s11 i).2]
    split
    ·rename_i hi;subst hi;exact r2 y t e
    ·exact e
   ·rw [(s11 i).2]
    split
    ·rename_i hi;subst hi;rw [r1.rl,c2.rl]
    ·rfl
  have hq: ∀q∈gY R gs,Pm n q/\Fx (l+1) q/\Gn n gs q:= λq hq=>by
   obtain ⟨y,t,g,t',e1,e2,e3,rfl⟩:=(pq hg r1 r3).1 hq
   obtain ⟨t1,t2,t3,t4⟩:=r1.rt _ _ e1
   obtain ⟨u1,u2,u3,u4⟩:=r1.rt _ _ e3
   obtain ⟨g',e,Xo,hgf⟩:=hg _ e2
   cases e
   exact ⟨(t1.comp Xo).comp u1.inv,Fx.div (t1.comp Xo) u1 (Fx.comp t1 Xo t2 hgf (by omega)) u2 lr (by rw [u3,Mn t1 Xo lr,t3]),dt.comp hS (.mul t4 e2) (dt.zd hS u4)⟩
  have fold: ∀(qs:List (List Int)) (s1:Gv×Gv),(∀q∈qs,Pm n q/\Fx (l+1) q)->V n k (l+1) s1->
    V n k (l+1) (qs.foldl (λs q=>Ig k (l+1) q s) s1)/\bG (l+1) s1 (qs.foldl (λs q=>Ig k (l+1) q s) s1)/\
     (∀q∈qs,Gn n ((qs.foldl (λs q=>Ig k (l+1) q s) s1).1.getD (l+1) []) q)/\ ∀o∈(qs.foldl (λs q=>Ig k (l+1) q s) s1).1.getD (l+1) [],o∈s1.1.getD (l+1) []\/ ∃q∈qs,o=some q:=by
   intro qs
   induction qs with
   |nil=>exact λs1 _ hv=>⟨hv,bG.refl _ _,(λq hq=>by cases hq),λo ho=>Or.inl ho⟩
   |cons q qs ih=>
    intro s1 hqs hv
    have ha:=yD h1 h2 k (l+1) q s1 (by omega) hv (hqs q (by simp)).1 (hqs q (by simp)).2
    obtain ⟨g1,g2,g3,g4⟩:=ih (Ig k (l+1) q s1) (λq' lu=>hqs q' (by simp [lu])) ha.v
    simp only [Ds]
    refine ⟨g1,ha.grow.trans g2 (Ap _),λq' lu=>?_,λo ho=>?_⟩
    ·rcases Bg.1 lu with rfl|lu
     ·exact ha.Ang.mono λg hg=>g2.PK _ _ hg
     ·exact g3 q' lu
    ·rcases g4 o ho with h|⟨q',lu,h⟩
     ·rcases ha.gens o h with h|h
      ·exact .inl h
      ·exact .inr ⟨q,by simp,h⟩
     ·exact .inr ⟨q',by simp [lu],h⟩
  obtain ⟨f1,f2,f3,f4⟩:=fold (gY R gs) (s.1.set l gs,s.2.set l R) (λq h=>⟨(hq q h).1,(hq q h).2.1⟩) jk
  generalize (gY R gs).foldl (λs q=>Ig k (l+1) q s) (s.1.set l gs,s.2.set l R)=s' at f1 f2 f3 f4
  obtain ⟨w1,w2,w3,w4⟩:=f1
  have el1:s'.1.getD l []=gs:=by rw [(f2.low l (by omega)).1,(s11 l).1,Ab rfl]
  have el2:s'.2.getD l []=R:=by rw [(f2.low l (by omega)).2,(s11 l).2,Ab rfl]
  have YG:=Ahv.trans f2 (by omega)
  have Asb:Lvl n l gs R (λq=>Pk s'.2 k (l+1) q=true):=⟨hg,r1.rl,r1.r0,r1.rt,r3,λy t g t' e1 e2 e3=>by
   have hm:=(pq hg r1 r3).2 ⟨y,t,g,t',e1,e2,e3,rfl⟩
   exact (nM h1 h2 k (l+1) s' (by omega) w3 _ (hq _ hm).1 (hq _ hm).2.1).2 (f3 _ hm)⟩
  have Afx:qZ n (k+1) l s':=⟨w3,by rw [el1,el2];exact Asb,λg gR=>by
   rw [el1]
   rcases f4 _ gR with h|⟨q,lu,h⟩
   ·rw [(QH (l+1) (Ap _)).1] at h
    exact (c3 g h).mono λg hg=>Yj _ hg
   ·cases h;exact (hq _ lu).2.2⟩
  have iu:Gn n (s'.1.getD l []) p:=by rw [el1];exact dt.one hS dy
  refine ⟨⟨w1,w2,Afx,w4,?_⟩,YG,iu,λo ho=>?_⟩
  ·have hold:=WL.2
   obtain ⟨p1,p2⟩:=GW YG.Ajd YG.Abo (k+1) l
   have Jr:mK s.2 (k+1) l≠mK s'.2 (k+1) l:= λe=>by
    have:=jg (k+1) l p (p2 e)
    rw [(nM h1 h2 (k+1) l s' hk Afx p hp hf).2 iu] at this
    exact hh this.symm
   rw [el1,<-PU,As,Be]
   omega
  ·rw [el1,<-PU] at ho
   rcases Bb.1 ho with ho|ho
   ·exact .inl ho
   ·rw [Ad] at ho;exact .inr ho
theorem Aaj {n l:Nat} {gs:List PO} {R:Row} (lr:l<n) (hg:PG n l gs) (r1:Xm n l gs R) (r3: ∀y t g,R.getD y none=some t->some g∈gs->R.getD (ap g y) none≠none): ∀q∈gY R gs,Pm n q/\Fx (l+1) q:=by
 intro q hq
 obtain ⟨y,t,g,t',e1,e2,e3,rfl⟩:=(pq hg r1 r3).1 hq
 obtain ⟨t1,t2,t3,t4⟩:=r1.rt _ _ e1
 obtain ⟨u1,u2,u3,u4⟩:=r1.rt _ _ e3
 obtain ⟨g',e,Xo,hgf⟩:=hg _ e2
 cases e
 exact ⟨(t1.comp Xo).comp u1.inv,Fx.div (t1.comp Xo) u1 (Fx.comp t1 Xo t2 hgf (by omega)) u2 lr (by rw [u3,Mn t1 Xo lr,t3])⟩
theorem V.lower {n k l:Nat} {s:Gv×Gv} (h:V n (k+1) l s) (gs:List PO) (R:Row):V n k (l+1) (s.1.set l gs,s.2.set l R):=by
 obtain ⟨v1,v2,hc,WL⟩:=h
 have QH: ∀i,l+1<=i->(s.1.set l gs).getD i []=s.1.getD i []/\(s.2.set l R).getD i []=s.2.getD i []:= λi hi=>by
  rw [Yh,Yh,Ai (by omega),Ai (by omega)];exact ⟨rfl,rfl⟩
 exact ⟨by simpa using v1,by simpa using v2,mg k (l+1) QH hc.1,td k (l+1) QH WL.1⟩
theorem PF {n k l:Nat} (h1:1<=n) (h2:n<=20) (hk:l+k=n): ∀(qs:List (List Int)) (s1:Gv×Gv),(∀q∈qs,Pm n q/\Fx l q)->V n k l s1->
  V n k l (qs.foldl (λs q=>Ig k l q s) s1)/\bG l s1 (qs.foldl (λs q=>Ig k l q s) s1)
 | [],s1,_,hv=>⟨hv,bG.refl _ _⟩
 |q::qs,s1,hqs,hv=>by
  have ha:=yD h1 h2 k l q s1 hk hv (hqs q (by simp)).1 (hqs q (by simp)).2
  obtain ⟨g1,g2⟩:=PF h1 h2 hk qs (Ig k l q s1) (λq' lu=>hqs q' (by simp [lu])) ha.v
  exact ⟨g1,ha.grow.trans g2 (Ap _)⟩
theorem Aan {n:Nat} {s:Gv×Gv} : ∀(k l:Nat),qZ n k l s->mK s.2 k l<=n*k
 |0,_,_=>by simp [mK]
 |k+1,l,hc=>by
  have h1:=Aan k (l+1) hc.1
  have h2:DG (s.2.getD l [])<=n:=by
   have:=hc.2.1.rl
   have h3:DG (s.2.getD l [])<=(s.2.getD l []).length:=List.countP_le_length
   omega
  simp only [mK]
  rw [Nat.mul_succ]
  omega
theorem Adh {n k l:Nat} {s:Gv×Gv} (h2:n<=20) (hk:l+(k+1)=n) (h:V n (k+1) l s):(s.1.getD l []).length<=400:=by
 have h3:=h.2.2.2.2
 have h4:=Aan (k+1) l h.2.2.1
 have h5:n*(k+1)<=20*20:=Nat.mul_le_mul h2 (by omega)
 omega
theorem V.lvl {n k l:Nat} {s:Gv×Gv} (h:V n (k+1) l s):Lvl n l (s.1.getD l []) (s.2.getD l []) (λq=>Pk s.2 k (l+1) q=true):=h.2.2.1.2.1
theorem V.pg {n k l:Nat} {s:Gv×Gv} (h:V n (k+1) l s) {p:List Int} (hp:Pm n p) (hf:Fx l p):PG n l (s.1.getD l []++ [some p]):= λo ho=>by
 rcases Bb.1 ho with ho|ho
 ·exact h.lvl.pg o ho
 ·rw [Ad] at ho;exact ⟨p,ho,hp,hf⟩
theorem V.Atr {n k l:Nat} {s:Gv×Gv} (h:V n (k+1) l s) (p:List Int):Xm n l (s.1.getD l []++ [some p]) (s.2.getD l []):=
 ⟨h.lvl.rl,h.lvl.r0,λy t e=>⟨(h.lvl.rt y t e).1,(h.lvl.rt y t e).2.1,(h.lvl.rt y t e).2.2.1,(h.lvl.rt y t e).2.2.2.mono λ_ hg=>Bk _ hg⟩⟩
theorem wv {α:Type} (xs:List (List α)) (i:Nat) (h:i<xs.length):xs.set i (xs.getD i [])=xs:=by
 refine fe (by simp) λj h1 h2=>?_
 rw [List.getElem_set]
 split
 ·rename_i e;subst e;rw [Aj,Ac h];rfl
 ·rfl
theorem lh {α:Type} (xs:List (List α)) (i:Nat) (h:i<xs.length) (r:List α):(xs.set i r).getD i []=r:=by
 rw [Yh,Ab ⟨rfl,h⟩]
noncomputable abbrev Yw:MSpec:=mW [none] [(false, .Ec tLO)] false [none] [.row tI 2] (λx=>List.length x.1<=20) (λx=>((Vk x.1,()),()))
noncomputable abbrev Yr:Spec:=Gw (.pair tL (.pair tL .unit)) tO false true (λx=>(0<x.1.length/\x.1.length<=20)/\Of x.2.1.length x.1) (λx=>some (Ag x.1 x.2.1))
noncomputable abbrev gn:Spec:=Gw (.pair tL (.pair tL .unit)) tL false false (λx=>x.1.length<=20/\Of x.2.1.length x.1) (λx=>Ag x.1 x.2.1)
noncomputable abbrev jO:Spec:=Gw (.pair tI .unit) tL false true (λx=>0<=x.1/\x.1<=20) (λx=>upto x.1.toNat)
noncomputable abbrev da:Spec:=Gw (.pair tI .unit) tO false true (λx=>1<=x.1/\x.1<=20) (λx=>some (upto x.1.toNat))
abbrev teG:TypeId:=27
structure sq (N L:Nat) (n:Int) (G T:Gv) (l:Int) (p:List Int):Prop where
 n1:1<=N
 n2:N<=20
 en:n=N
 el:l=L
 le:L<=N
 v:V N (N-L) L (G,T)
 pm:Pm N p
 fx:Fx L p
noncomputable abbrev oe:Spec:=Gw (.pair (.ptr RF) (.pair tI (.pair tL .unit))) .bool false true (λx=> ∃N L,sq N L x.1.1 x.1.2.1 x.1.2.2.1 x.2.1 x.2.2.1) (λx=>Pk x.1.2.2.1 (x.1.1-x.2.1).toNat x.2.1.toNat x.2.2.1)
noncomputable abbrev Ago:MSpec:= {ptr:=some (165,3),Jb:= [none,none],ins:= [(false, .Ec tI),(false, .Bo tO teG true),(false, .Bo tO teG true),(false, .Ec tI),(false, .Ec tO)],Ht:=false,Hp:= [],outs:= [.Ec tI, .Bo tO teG false, .Bo tO teG false],fn:= λ_=>none,keeps:= [(1,1),(2,2)],Fp:= λx=>x.2.2.2.1.toNat}
noncomputable abbrev Ww (m:Nat):MSpec:=gX Ago (λx=>(∃N L q,x.2.2.2.2.1=some q/\sq N L x.1 x.2.1 x.2.2.1 x.2.2.2.1 q)/\(x.1-x.2.2.2.1).toNat<m)
 (λx=>((x.1,(Ig (x.1-x.2.2.2.1).toNat x.2.2.2.1.toNat (x.2.2.2.2.1.getD []) (x.2.1,x.2.2.1)).1,(Ig (x.1-x.2.2.2.1).toNat x.2.2.2.1.toNat (x.2.2.2.2.1.getD []) (x.2.1,x.2.2.1)).2,()),()))
theorem IC (n:Int) (P:List Int->Prop):(((0:Int)<=n/\n<(↑Dk:Int)+(1:Int))/\n=n/\0=0/\(List.replicate n.toNat (Int.ofNat (nat_lit 0))).length=(List.replicate n.toNat (Int.ofNat (nat_lit 0))).length/\Dn (λ(v2:Int×List Int×PUnit) (k3:Int×List Int×PUnit->Prop)=>Br (decide (v2.1<(↑(List.replicate n.toNat (Int.ofNat (nat_lit 0))).length:Int))) (((0:Int)<=v2.1/\v2.1<(↑v2.2.1.length:Int))/\0+v2.1.toNat<v2.2.1.length/\0=0/\v2.2.1.length=(v2.2.1.set (0+v2.1.toNat) v2.1).length/\k3 (IntKind.i64.wrap (v2.1+(1:Int)),v2.2.1.set (0+v2.1.toNat) v2.1,())) (P (List.take v2.2.1.length (List.drop 0 v2.2.1)))) ((0:Int),List.replicate n.toNat (Int.ofNat (nat_lit 0)),PUnit.unit))=fnW Fu (look []) jO Tryz.f133 (n,()) P:=by kernel_rfl
theorem VX (row:List (Option (List Int))) (P:(List Int×Unit)×Unit->Prop):(0=0/\0=([]:List Int).length/\Dn (λ(v2:Int×List Int×PUnit) (k3:Int×List Int×PUnit->Prop)=>Br (decide (v2.1<(↑row.length:Int))) (∃(y4:Option (List Int)),idx row v2.1=some y4/\Br (!y4.isNone) (0=0/\v2.2.1.length=v2.2.1.length/\v2.2.1.length+(List.take 1 (List.drop 0 [v2.1])).length<=Dk/\0=0/\(v2.2.1++List.take 1 (List.drop 0 [v2.1])).length=(v2.2.1++List.take 1 (List.drop 0 [v2.1])).length/\k3 (IntKind.i64.wrap (v2.1+(1:Int)),v2.2.1++List.take 1 (List.drop 0 [v2.1]),())) (0=0/\v2.2.1.length=v2.2.1.length/\k3 (IntKind.i64.wrap (v2.1+(1:Int)),v2.2.1,()))) (P ((List.take v2.2.1.length (List.drop 0 v2.2.1),()),()))) ((0:Int),[],PUnit.unit))=fnMW cF (look []) Yw Tryz.f178 (row,()) P:=by kernel_rfl
theorem Aop (c:Int×List (List (Option (List Int)))×List (List (Option (List Int)))×Unit) (l:Int) (p:List Int) (P:Bool->Prop):(Dn (λ(v4:List Int×Int×PUnit) (k5:List Int×Int×PUnit->Prop)=>Br (decide (v4.2.1<c.1)) (∃(y6:List (Option (List Int))),idx c.2.2.1 v4.2.1=some y6/\ ∃(y7:Int),idx v4.1 v4.2.1=some y7/\ ∃(y8:Option (List Int)),idx y6 y7=some y8/\Br y8.isNone (P false) (∃(y9:List Int),Hx.fn (y8.getD [],())=some y9/\ ∃(Ko:List Int),gn.fn (v4.1,y9,())=some Ko/\k5 (Ko,IntKind.i64.wrap (v4.2.1+(1:Int)),()))) (P true)) (p,l,PUnit.unit))=fnW cF (look [(58,Hx),(134,gn)]) oe Tryz.f158 (c,l,p,()) P:=by kernel_rfl
theorem Sound.loose {P:Program} {f:FuncId} {arg res:Ty} {pre:arg.den->Prop} {val:arg.den->res.den} (h:Sound P f (Go.Proofs.YtkkdpknjohcekaaGreat.Gw arg res false true pre val)):Sound P f (Go.Proofs.YtkkdpknjohcekaaGreat.Gw arg res false false pre val):=
 ⟨h.enter,λw S vs x y h1 h2 h3=>Calls.mono (h.calls w S vs x y h1 h2 h3) λe' w' hr=>by
  obtain ⟨v,g1,g2,g3⟩:=hr
  exact ⟨v,g1,g2,Cu.Jp (S:= λb=>S b\/(true=true/\b<w.heap.size)) g3 λk _ hk=>hk.elim .inl λhh=>absurd (show false=true from hh.1) (by simp)⟩⟩
theorem uJ:Sound Tryz.prog 134 gn:=Sound.loose Xa
theorem uK:Sound Tryz.prog 134 Yr:=Sound.toO Xa λx h=>⟨⟨h.1.2,h.2⟩,λe=>by
 have:=Sb x.1 x.2.1
 rw [e] at this
 have:=h.1.1
 simp only [Ex] at*
 omega⟩
theorem GF (n:Int) (h:0<=n/\n<=20):fnW Fu (look []) jO Tryz.f133 (n,()) (λ(z:List Int)=>z=upto n.toNat):=by
 refine Eq.mp (IC n _) ⟨⟨by omega,by show n<(4294967296:Int)+1;omega⟩,rfl,rfl,rfl,?_⟩
 refine Bu n.toNat (λv=>v.1) (λj v=>v.2.1.length=n.toNat/\v.2.1.take j=upto j) rfl ⟨by simp,by simp [upto]⟩ ?_
 rintro j ⟨i,ys,⟨⟩⟩ K hj hi ⟨h1,h2⟩ hK
 dsimp only at hi h1 h2⊢
 subst hi
 rw [Iy]
 simp only [Au,Ce]
 refine Br.dec (λhl=>⟨⟨by omega,by omega⟩,by omega,trivial,by rw [Df],?_⟩) λhl=>?_
 ·rw [Bv (by omega)]
  refine hK (by omega) _ rfl ⟨by rw [Df];exact h1,?_⟩
  rw [Hb,List.take_set_of_le (by omega),h2,List.getElem?_set_self (by omega),fa]
  rfl
 ·have:j=ys.length:=by omega
  subst this
  rw [Bd] at h2
  rw [Fw,Bd,h2,h1]
theorem rG:Sound Tryz.prog 133 jO:=
 Sound.Gw Dq Bn mixed Tryz.func133 (by kernel_rfl) (by kernel_rfl) λx h=>GF x.1 h
theorem Aey {n:Int} (h:1<=n/\n<=20):(0<=n/\n<=20)/\upto n.toNat≠ []:=⟨by omega,λe=>by
 have:=Ga List.length e
 simp [upto] at this
 omega⟩
theorem rF:Sound Tryz.prog 133 da:=Sound.toO rG λ_ h=>Aey h
theorem GA {row:Row} {j:Nat} :(upto (j+1)).filter (λy=>(row.getD y.toNat none).isSome)=(upto j).filter (λy=>(row.getD y.toNat none).isSome)++if (row.getD j none).isSome=true then [(j:Int)] else []:=by
 rw [fa,List.filter_append]
 congr 1
 simp only [ff,List.filter_nil,Au]
theorem TZ (row:List (Option (List Int))) (h:List.length row<=20):fnMW cF (look []) Yw Tryz.f178 (row,()) (λ(z:(List Int×Unit)×Unit)=>z=((Vk row,()),())):=by
 refine Eq.mp (VX row _) ⟨rfl,rfl,?_⟩
 refine Bu row.length (λv=>v.1) (λj v=>v.2.1=(upto j).filter (λy=>(row.getD y.toNat none).isSome)) rfl rfl ?_
 rintro j ⟨i,ys,⟨⟩⟩ K hj hi h1 hK
 dsimp only at hi h1⊢
 subst hi
 refine Br.dec (λhl=>?_) λhl=>?_
 ·have hl:j<row.length:=by omega
  have hlen:ys.length<=j:=by rw [h1];refine Ml (List.length_filter_le _ _) (by simp [upto])
  have hg:row.getD j none=row[j]:=by rw [Aj,Ac hl];rfl
  refine ⟨_,Cf hl,Br.of (λhb=>⟨rfl,rfl,?_,rfl,rfl,?_⟩) λhb=>⟨rfl,rfl,?_⟩⟩
  ·show ys.length+1<=4294967296
   omega
  ·rw [Bv (by omega)]
   refine hK hl _ rfl ?_
   show ys++ [(j:Int)]=_
   rw [GA,hg,h1,Ab (by cases e:row[j] with
    |none=>rw [e] at hb;simp at hb
    |some t=>rfl)]
  ·rw [Bv (by omega)]
   refine hK hl _ rfl ?_
   show ys=_
   rw [GA,hg,h1,Ai (by cases e:row[j] with
    |none=>simp
    |some t=>rw [e] at hb;simp at hb),List.append_nil]
 ·have:j=row.length:=by omega
  subst this
  rw [Fw,Bd,h1]
  rfl
theorem wC:Cp Tryz.prog 178 Yw:=
 Cp.mW vd Bn mixed Tryz.func178 (by kernel_rfl) (by kernel_rfl) λx h=>TZ x.1 h
theorem DI {n:Nat} {s:Gv×Gv} : ∀(k l:Nat),qZ n k l s-> ∀i,l<=i->i<l+k->Lvl n i (s.1.getD i []) (s.2.getD i []) (λq=>Pk s.2 (l+k-i-1) (i+1) q=true)
 |0,_,_,i,h1,h2=>by omega
 |k+1,l,hc,i,h1,h2=>by
  obtain ⟨c1,c2,_⟩:=hc
  by_cases e:i=l
  ·subst e
   rw [show i+(k+1)-i-1=k by omega]
   exact c2
  ·have:=DI k (l+1) c1 i (by omega) (by omega)
   rwa [show l+1+k-i-1=l+(k+1)-i-1 by omega] at this
theorem Aff {α:Type} {xs:List (List α)} {i:Nat} (h:i<xs.length):xs.getD i []=xs[i]:=by
 rw [Aj,Ac h];rfl
theorem XV {α:Type} {xs:List (Option α)} {i:Nat} (h:i<xs.length):xs.getD i none=xs[i]:=by
 rw [Aj,Ac h];rfl
theorem Pm.row {n:Nat} {p:List Int} (h:Pm n p):Of n p:=by
 have:=h.2.row
 rwa [h.1] at this
theorem Ao0 (c:Int×List (List (Option (List Int)))×List (List (Option (List Int)))×Unit) (l:Int) (p:List Int) (h: ∃N L,sq N L c.1 c.2.1 c.2.2.1 l p):
  fnW cF (look [(58,Hx),(134,gn)]) oe Tryz.f158 (c,l,p,()) (λ(z:Bool)=>z=Pk c.2.2.1 (c.1-l).toNat l.toNat p):=by
 obtain ⟨n,G,T,⟨⟩⟩:=c
 obtain ⟨N,L,h⟩:=h
 obtain ⟨n1,n2,en,el,hle,v,pm,fx⟩:=h
 dsimp only at en el v⊢
 subst en el
 refine Eq.mp (Aop ((N:Int),G,T,()) (L:Int) p _) ?_
 obtain ⟨v1,v2,v3,v4⟩:=v
 dsimp only at v1 v2
 refine ⟨λv=> ∃i:Nat,L<=i/\i<=N/\v.2.1=i/\Pm N v.1/\Fx i v.1/\Pk T (N-i) i v.1=Pk T (N-L) L p,λv=>N-v.2.1.toNat,⟨L,Ap _,hle,rfl,pm,fx,rfl⟩,?_⟩
 rintro ⟨p',i',⟨⟩⟩ ⟨i,h1,h2,h3,h4,h5,h6⟩
 dsimp only at h3 h4 h5 h6⊢
 subst h3
 rw [show (((N:Int)-(L:Int)).toNat)=N-L by omega,show ((L:Int)).toNat=L by omega,<-h6]
 refine Br.dec (λhl=>?_) λhl=>?_
 ·have hl:i<N:=by omega
  have aZ:=DI (N-L) L v3 i h1 (by omega)
  obtain ⟨a1,a2⟩:=h4.aq hl
  have hT:i<T.length:=by omega
  have hlen:T[i].length=N:=by have:=aZ.rl;dsimp only at this;rwa [Aff hT] at this
  refine ⟨_,Cf hT,_,Cf (by rw [h4.1];exact hl),?_⟩
  have e1:p'[i]'(by rw [h4.1];exact hl)=(ap p' i:Int):=by rw [<-a1,La]
  rw [e1]
  refine ⟨_,Cf (by omega),?_⟩
  have e2:N-i=(N-i-1)+1:=by omega
  have e3:(T.getD i []).getD (Ih p' (i:Int)).toNat none=T[i][ap p' i]'(by omega):=by
   rw [Aff hT];exact XV (by show ap p' i<_;omega)
  rw [e2]
  simp only [Pk,e3]
  refine Br.of (λhb=>?_) λhb=>?_
  ·cases e:T[i][ap p' i]'(by omega) with
   |none=>rfl
   |some t=>rw [e] at hb;simp at hb
  ·cases e:T[i][ap p' i]'(by omega) with
   |none=>rw [e] at hb;simp at hb
   |some t=>
    have ht:(T.getD i []).getD (ap p' i) none=some t:=by rw [<-e];exact e3
    obtain ⟨t1,t2,t3,t4⟩:=aZ.rt _ _ ht
    simp only [Dd]
    refine ⟨_,Ab ⟨by show t.length<=20;rw [t1.1];exact n2,t1.2.row⟩,_,Ab ⟨by show p'.length<=20;rw [h4.1];exact n2,by show Of (Bs t).length p';rw [sd,t1.1];exact h4.row⟩,⟨i+1,by omega,by omega,Bv (by omega),h4.comp t1.inv,Fx.div h4 t1 h5 t2 hl t3,?_⟩,?_⟩
    ·rw [show N-(i+1)=N-i-1 by omega]
    ·show N-(IntKind.i64.wrap ((i:Int)+1)).toNat<N-((i:Int)).toNat
     rw [Bv (by omega)]
     omega
 ·rw [show N-i=0 by omega]
  rfl
theorem yk:Sound Tryz.prog 158 oe:=
 Sound.Gw vd (Ax Xb (Ax uJ Bn)) mixed Tryz.func158 (by kernel_rfl) (by kernel_rfl) λx h=>Ao0 x.1 x.2.1 x.2.2.1 h
abbrev BE:Type:=Nat×Nat×Int×List (List (Option (List Int)))×Nat×List (List (Option (List Int)))×Nat×List Int×Int×PUnit
abbrev Ab9:Type:=Nat×Int×List (List (Option (List Int)))×Nat×List (List (Option (List Int)))×Nat×List Int×Int×PUnit
abbrev Abd:Type:=Nat×List (List (Option (List Int)))×Nat×List (List (Option (List Int)))×Nat×List Int×Int×PUnit
abbrev Lz (G:List (List (Option (List Int)))) (l:Int) (p:Option (List Int)) (T:List (List (Option (List Int)))) (y7:Bool) (n:Int):Prop:=0=0/\(G.getD (0+l.toNat) []).length=(G.getD (0+l.toNat) []).length/\(G.getD (0+l.toNat) []).length+(List.take 1 (List.drop 0 [p])).length<=Dk/\((0:Int)<=l/\l<(↑G.length:Int))/\0=0/\(G.getD (0+l.toNat) []++List.take 1 (List.drop 0 [p])).length=(G.getD (0+l.toNat) []++List.take 1 (List.drop 0 [p])).length/\0+l.toNat=0+l.toNat/\ [(0,G.length),(0,G.length),(0,G.length),(0,T.length)]= [(0,G.length),(0,G.length),(0,G.length),(0,T.length)]/\(l,p,l,p,y7,l,l,0+l.toNat,p,List.take 1 (List.drop 0 [p]),0+l.toNat,G.set (0+l.toNat) (G.getD (0+l.toNat) []++List.take 1 (List.drop 0 [p])),min G.length (0+l.toNat),T,T.length,n,())=(l,p,l,p,y7,l,l,0+l.toNat,p,List.take 1 (List.drop 0 [p]),0+l.toNat,G.set (0+l.toNat) (G.getD (0+l.toNat) []++List.take 1 (List.drop 0 [p])),min G.length (0+l.toNat),T,T.length,n,PUnit.unit)
theorem Aok {m:Nat} (n:Int) (G T:List (List (Option (List Int)))) (l:Int) (p:Option (List Int)) (P:(Int×List (List (Option (List Int)))×List (List (Option (List Int)))×Unit)×Unit->Prop):(∃(y7:Bool),oe.fn ((n,List.take G.length (List.drop 0 G),List.take T.length (List.drop 0 T),()),l,p.getD [],())=some y7/\Br y7 ((0=0/\G.length=G.length)/\(0=0/\T.length=T.length)/\(Ww (m+1)).Fp (n,G,T,l,p,())<=G.length/\(Ww (m+1)).Fp (n,G,T,l,p,())<=T.length/\P ((n,G,T,()),())) (((0:Int)<=l/\l<(↑G.length:Int))/\0=0/\(G.getD (0+l.toNat) []).length=(G.getD (0+l.toNat) []).length/\(G.getD (0+l.toNat) []).length+(List.take 1 (List.drop 0 [p])).length<=Dk/\((0:Int)<=l/\l<(↑G.length:Int))/\0=0/\(G.getD (0+l.toNat) []++List.take 1 (List.drop 0 [p])).length=(G.getD (0+l.toNat) []++List.take 1 (List.drop 0 [p])).length/\0+l.toNat=0+l.toNat/\(((0:Int)<=l/\l<(↑T.length:Int))/\ ∃(y8:(List Int×PUnit)×PUnit),Yw.fn (T.getD (0+l.toNat) [],())=some y8/\0=0/\(List.take y8.1.1.length (List.drop 0 y8.1.1)).length=(List.take y8.1.1.length (List.drop 0 y8.1.1)).length/\0=0/\G.length=(G.set (0+l.toNat) (G.getD (0+l.toNat) []++List.take 1 (List.drop 0 [p]))).length/\0=0/\T.length=T.length/\Dn (λ(v9:Abd) (k10:Abd->Prop)=>Br (decide ((↑v9.2.2.2.2.2.1.length:Int)>(0:Int))) (((0:Int)<=l/\l<(↑v9.2.1.length:Int))/\0=0/\(List.take v9.2.2.2.2.2.1.length (List.drop 0 v9.2.2.2.2.2.1)).length=(List.take v9.2.2.2.2.2.1.length (List.drop 0 v9.2.2.2.2.2.1)).length/\0=0/\v9.2.1.length=v9.2.1.length/\0=0/\v9.2.2.2.1.length=v9.2.2.2.1.length/\Dn (λ(v11:BE) (k12:BE->Prop)=>Br (decide (v11.2.2.1<(↑(v9.2.1.getD (0+l.toNat) []).length:Int))) (((0:Int)<=v11.2.2.1/\v11.2.2.1<(↑(v11.2.2.2.1.getD v11.2.1 []).length:Int))/\((0:Int)<=(0:Int)/\(0:Int)<(↑v11.2.2.2.2.2.2.2.1.length:Int))/\ ∃(Hr:Int),v11.2.2.2.2.2.2.2.1[0+Int.toNat (0:Int)]?=some Hr/\ ∃(Io:Int),idx (((v11.2.2.2.1.getD v11.2.1 []).getD v11.2.2.1.toNat (none:Option (List Int))).getD []) Hr=some Io/\((0:Int)<=Io/\Io<(↑(v11.2.2.2.2.2.1.getD v11.1 []).length:Int))/\Br ((v11.2.2.2.2.2.1.getD v11.1 []).getD Io.toNat (none:Option (List Int))).isNone (((0:Int)<=(0:Int)/\(0:Int)<(↑v11.2.2.2.2.2.2.2.1.length:Int))/\ ∃(Ip:Int),v11.2.2.2.2.2.2.2.1[0+Int.toNat (0:Int)]?=some Ip/\((0:Int)<=Ip/\Ip<(↑(v11.2.2.2.2.2.1.getD v11.1 []).length:Int))/\ ∃(Hi:Option (List Int)),Yr.fn (((v11.2.2.2.2.2.1.getD v11.1 []).getD Ip.toNat (none:Option (List Int))).getD [],((v11.2.2.2.1.getD v11.2.1 []).getD v11.2.2.1.toNat (none:Option (List Int))).getD [],())=some Hi/\((0:Int)<=Io/\Io<(↑(v11.2.2.2.2.2.1.getD v11.1 []).length:Int))/\0=0/\v11.2.2.2.2.2.2.2.1.length=v11.2.2.2.2.2.2.2.1.length/\v11.2.2.2.2.2.2.2.1.length+(List.take 1 (List.drop 0 [Io])).length<=Dk/\0=0/\(List.take (v11.2.2.2.2.2.2.2.1++List.take 1 (List.drop 0 [Io])).length (List.drop 0 (v11.2.2.2.2.2.2.2.1++List.take 1 (List.drop 0 [Io])))).length=(List.take (v11.2.2.2.2.2.2.2.1++List.take 1 (List.drop 0 [Io])).length (List.drop 0 (v11.2.2.2.2.2.2.2.1++List.take 1 (List.drop 0 [Io])))).length/\0=0/\v11.2.2.2.1.length=v11.2.2.2.1.length/\0=0/\v11.2.2.2.2.2.1.length=(v11.2.2.2.2.2.1.set v11.1 ((v11.2.2.2.2.2.1.getD v11.1 []).set Io.toNat Hi)).length/\k12 (v11.1,v11.2.1,IntKind.i64.wrap (v11.2.2.1+(1:Int)),v11.2.2.2.1,v11.2.2.2.2.1,v11.2.2.2.2.2.1.set v11.1 ((v11.2.2.2.2.2.1.getD v11.1 []).set Io.toNat Hi),v11.2.2.2.2.2.2.1,List.take (v11.2.2.2.2.2.2.2.1++List.take 1 (List.drop 0 [Io])).length (List.drop 0 (v11.2.2.2.2.2.2.2.1++List.take 1 (List.drop 0 [Io]))),v11.2.2.2.2.2.2.2.2.1,())) (0=0/\(List.take v11.2.2.2.2.2.2.2.1.length (List.drop 0 v11.2.2.2.2.2.2.2.1)).length=(List.take v11.2.2.2.2.2.2.2.1.length (List.drop 0 v11.2.2.2.2.2.2.2.1)).length/\0=0/\v11.2.2.2.1.length=v11.2.2.2.1.length/\0=0/\v11.2.2.2.2.2.1.length=v11.2.2.2.2.2.1.length/\k12 (v11.1,v11.2.1,IntKind.i64.wrap (v11.2.2.1+(1:Int)),v11.2.2.2.1,v11.2.2.2.2.1,v11.2.2.2.2.2.1,v11.2.2.2.2.2.2.1,List.take v11.2.2.2.2.2.2.2.1.length (List.drop 0 v11.2.2.2.2.2.2.2.1),v11.2.2.2.2.2.2.2.2.1,()))) (((0:Int)<=(1:Int)/\(1:Int)<=(↑v11.2.2.2.2.2.2.2.1.length:Int)/\(↑v11.2.2.2.2.2.2.2.1.length:Int)<=(↑v11.2.2.2.2.2.2.2.1.length:Int))/\0=0/\(List.take ((↑v11.2.2.2.2.2.2.2.1.length:Int).toNat-Int.toNat (1:Int)) (List.drop (0+Int.toNat (1:Int)) v11.2.2.2.2.2.2.2.1)).length=(List.take ((↑v11.2.2.2.2.2.2.2.1.length:Int).toNat-Int.toNat (1:Int)) (List.drop (0+Int.toNat (1:Int)) v11.2.2.2.2.2.2.2.1)).length/\0=0/\v11.2.2.2.1.length=v11.2.2.2.1.length/\0=0/\v11.2.2.2.2.2.1.length=v11.2.2.2.2.2.1.length/\k10 (v11.1,v11.2.2.2.1,v11.2.2.2.2.1,v11.2.2.2.2.2.1,v11.2.2.2.2.2.2.1,List.take ((↑v11.2.2.2.2.2.2.2.1.length:Int).toNat-Int.toNat (1:Int)) (List.drop (0+Int.toNat (1:Int)) v11.2.2.2.2.2.2.2.1),v11.2.2.2.2.2.2.2.2.1,()))) (v9.1,0+l.toNat,(0:Int),v9.2.1,v9.2.2.1,v9.2.2.2.1,v9.2.2.2.2.1,List.take v9.2.2.2.2.2.1.length (List.drop 0 v9.2.2.2.2.2.1),v9.2.2.2.2.2.2.1,PUnit.unit)) (∃(Iw:(List Int×PUnit)×PUnit),Yw.fn (v9.2.2.2.1.getD v9.1 [],())=some Iw/\0=0/\Iw.1.1.length=Iw.1.1.length/\0=0/\v9.2.1.length=v9.2.1.length/\0=0/\v9.2.2.2.1.length=v9.2.2.2.1.length/\Dn (λ(Ow:Ab9) (k13:Ab9->Prop)=>Br (decide (Ow.2.1<(↑Iw.1.1.length:Int))) (((0:Int)<=Ow.2.1/\Ow.2.1<(↑Ow.2.2.2.2.2.2.1.length:Int))/\ ∃(Io:Int),Ow.2.2.2.2.2.2.1[0+Ow.2.1.toNat]?=some Io/\((0:Int)<=l/\l<(↑Ow.2.2.1.length:Int))/\0=0/\Ow.2.2.2.2.2.2.1.length=Ow.2.2.2.2.2.2.1.length/\0=0/\Ow.2.2.1.length=Ow.2.2.1.length/\0=0/\Ow.2.2.2.2.1.length=Ow.2.2.2.2.1.length/\Dn (λ(Rw:BE) (k16:BE->Prop)=>Br (decide (Rw.2.2.1<(↑(Ow.2.2.1.getD (0+l.toNat) []).length:Int))) (((0:Int)<=Rw.2.2.1/\Rw.2.2.1<(↑(Rw.2.2.2.1.getD Rw.2.1 []).length:Int))/\((0:Int)<=Io/\Io<(↑(Rw.2.2.2.2.2.1.getD Rw.1 []).length:Int))/\ ∃(Iz:Option (List Int)),Yr.fn (((Rw.2.2.2.2.2.1.getD Rw.1 []).getD Io.toNat (none:Option (List Int))).getD [],((Rw.2.2.2.1.getD Rw.2.1 []).getD Rw.2.2.1.toNat (none:Option (List Int))).getD [],())=some Iz/\ ∃(y18:Int),idx (((Rw.2.2.2.1.getD Rw.2.1 []).getD Rw.2.2.1.toNat (none:Option (List Int))).getD []) Io=some y18/\((0:Int)<=y18/\y18<(↑(Rw.2.2.2.2.2.1.getD Rw.1 []).length:Int))/\ ∃(CD:List Int),Hx.fn (((Rw.2.2.2.2.2.1.getD Rw.1 []).getD y18.toNat (none:Option (List Int))).getD [],())=some CD/\ ∃(mX:Option (List Int)),Yr.fn (Iz.getD [],CD,())=some mX/\0=0/\Rw.2.2.2.1.length=Rw.2.2.2.1.length/\0=0/\Rw.2.2.2.2.2.1.length=Rw.2.2.2.2.2.1.length/\ ∃(so:(Int×List (List (Option (List Int)))×List (List (Option (List Int)))×PUnit)×PUnit),(Ww m).fn (Rw.2.2.2.2.2.2.2.2.1,Rw.2.2.2.1,Rw.2.2.2.2.2.1,IntKind.i64.wrap (l+(1:Int)),mX,())=some so/\(Rw.1<(Ww m).Fp (Rw.2.2.2.2.2.2.2.2.1,Rw.2.2.2.1,Rw.2.2.2.2.2.1,IntKind.i64.wrap (l+(1:Int)),mX,())/\Rw.1<(List.length so.1.2.2.1))/\(Rw.2.1<(Ww m).Fp (Rw.2.2.2.2.2.2.2.2.1,Rw.2.2.2.1,Rw.2.2.2.2.2.1,IntKind.i64.wrap (l+(1:Int)),mX,())/\Rw.2.1<(List.length so.1.2.1))/\(Rw.1<(Ww m).Fp (Rw.2.2.2.2.2.2.2.2.1,Rw.2.2.2.1,Rw.2.2.2.2.2.1,IntKind.i64.wrap (l+(1:Int)),mX,())/\Rw.1<(List.length so.1.2.2.1))/\(Rw.1<(Ww m).Fp (Rw.2.2.2.2.2.2.2.2.1,Rw.2.2.2.1,Rw.2.2.2.2.2.1,IntKind.i64.wrap (l+(1:Int)),mX,())/\Rw.1<(List.length so.1.2.2.1))/\0=0/\Rw.2.2.2.2.2.2.2.1.length=Rw.2.2.2.2.2.2.2.1.length/\0=0/\so.1.2.1.length=so.1.2.1.length/\0=0/\so.1.2.2.1.length=so.1.2.2.1.length/\k16 (Rw.1,Rw.2.1,IntKind.i64.wrap (Rw.2.2.1+(1:Int)),so.1.2.1,min Rw.2.2.2.2.1 ((Ww m).Fp (Rw.2.2.2.2.2.2.2.2.1,Rw.2.2.2.1,Rw.2.2.2.2.2.1,IntKind.i64.wrap (l+(1:Int)),mX,())),so.1.2.2.1,min Rw.2.2.2.2.2.2.1 ((Ww m).Fp (Rw.2.2.2.2.2.2.2.2.1,Rw.2.2.2.1,Rw.2.2.2.2.2.1,IntKind.i64.wrap (l+(1:Int)),mX,())),Rw.2.2.2.2.2.2.2.1,so.1.1,())) (0=0/\Rw.2.2.2.2.2.2.2.1.length=Rw.2.2.2.2.2.2.2.1.length/\0=0/\Rw.2.2.2.1.length=Rw.2.2.2.1.length/\0=0/\Rw.2.2.2.2.2.1.length=Rw.2.2.2.2.2.1.length/\k13 (Rw.1,IntKind.i64.wrap (Ow.2.1+(1:Int)),Rw.2.2.2.1,Rw.2.2.2.2.1,Rw.2.2.2.2.2.1,Rw.2.2.2.2.2.2.1,Rw.2.2.2.2.2.2.2.1,Rw.2.2.2.2.2.2.2.2.1,()))) (Ow.1,0+l.toNat,(0:Int),Ow.2.2.1,Ow.2.2.2.1,Ow.2.2.2.2.1,Ow.2.2.2.2.2.1,Ow.2.2.2.2.2.2.1,Ow.2.2.2.2.2.2.2.1,PUnit.unit)) ((0=0/\Ow.2.2.1.length=Ow.2.2.1.length)/\(0=0/\Ow.2.2.2.2.1.length=Ow.2.2.2.2.1.length)/\(Ww (m+1)).Fp (n,G,T,l,p,())<=Ow.2.2.2.1/\(Ww (m+1)).Fp (n,G,T,l,p,())<=Ow.2.2.2.2.2.1/\P ((Ow.2.2.2.2.2.2.2.1,Ow.2.2.1,Ow.2.2.2.2.1,()),()))) (v9.1,(0:Int),v9.2.1,v9.2.2.1,v9.2.2.2.1,v9.2.2.2.2.1,Iw.1.1,v9.2.2.2.2.2.2.1,PUnit.unit))) (0+l.toNat,G.set (0+l.toNat) (G.getD (0+l.toNat) []++List.take 1 (List.drop 0 [p])),min G.length (0+l.toNat),T,T.length,List.take y8.1.1.length (List.drop 0 y8.1.1),n,PUnit.unit))/\(((((0:Int)<=l/\l<(↑G.length:Int))/\((Lz G l p T y7 n))/\(Lz G l p T y7 n))/\((0:Int)<=l/\l<(↑G.length:Int))/\(Lz G l p T y7 n))/\((0:Int)<=l/\l<(↑G.length:Int))/\(Lz G l p T y7 n))/\(((((0:Int)<=l/\l<(↑G.length:Int))/\((Lz G l p T y7 n))/\(Lz G l p T y7 n))/\((0:Int)<=l/\l<(↑G.length:Int))/\(Lz G l p T y7 n))/\(((0:Int)<=l/\l<(↑G.length:Int))/\(((Lz G l p T y7 n))/\(Lz G l p T y7 n))/\(((Lz G l p T y7 n))/\((Lz G l p T y7 n))/\(Lz G l p T y7 n))/\((Lz G l p T y7 n))/\((Lz G l p T y7 n))/\(Lz G l p T y7 n))/\(((0:Int)<=l/\l<(↑G.length:Int))/\(Lz G l p T y7 n))/\((0:Int)<=l/\l<(↑G.length:Int))/\((Lz G l p T y7 n))/\((Lz G l p T y7 n))/\(Lz G l p T y7 n))/\(((0:Int)<=l/\l<(↑G.length:Int))/\(Lz G l p T y7 n))/\(((0:Int)<=l/\l<(↑G.length:Int))/\(Lz G l p T y7 n))/\((0:Int)<=l/\l<(↑G.length:Int))/\((Lz G l p T y7 n))/\((Lz G l p T y7 n))/\(Lz G l p T y7 n)))=fnMW (Abj [Sq+7]) (look [(158,oe),(178,Yw),(134,Yr),(58,Hx),(176,iC.m (Ww m))]) (Ww (m+1)) Tryz.f176 (n,G,T,l,p,()) P:=by kernel_rfl
theorem CM {k l:Nat} {p:List Int} {s:Gv×Gv} (h:Pk s.2 k l p=true):Ig k l p s=s:=by
 cases k with
 |zero=>rfl
 |succ k=>unfold Ig;rw [Ab h]
theorem CL (k l:Nat) (p:List Int) (s:Gv×Gv):Ig (k+1) l p s=if Pk s.2 (k+1) l p=true then s else
   (gY (Zo (s.1.getD l []++ [some p]) (s.2.getD l [])) (s.1.getD l []++ [some p])).foldl (λs q=>Ig k (l+1) q s)
    (s.1.set l (s.1.getD l []++ [some p]),s.2.set l (Zo (s.1.getD l []++ [some p]) (s.2.getD l []))):=rfl
theorem ZD {n:Nat} {p:List Int} (h:Pm n p) {i:Nat} (hi:i<n):idx p (i:Int)=some (ap p i:Int):=by
 have kR:i<p.length:=by rw [h.1];exact hi
 rw [Cf kR,<-(h.aq hi).1,La kR]
theorem JJ {x:Int} {gs:List PO} {j:Nat} (hj:j<gs.length) (s:Row×List Int):aF x (gs.take (j+1)) s=aR x (aF x (gs.take j) s) gs[j]:=by
 unfold aF
 rw [Hb,Ac hj,Tw,cD]
 rfl
theorem JK {gs:List PO} {f:Nat} {row:Row} :au gs f [] row=row:=by cases f<;>rfl
theorem mh {n:Nat} {p:List Int} (h:Pm n p):0<p.length/\p.length<=20:=⟨by rw [h.1];exact h.n1,by rw [h.1];exact h.n2⟩
theorem MV {n:Nat} {p q:List Int} (h:Pm n p) (k:Pm n q):Of q.length p:=by rw [k.1];exact h.row
theorem Anu {m:Nat} (n:Int) (G T:List (List (Option (List Int)))) (l:Int) (p:Option (List Int)) (h:(∃N L q,p=some q/\sq N L n G T l q)/\(n-l).toNat<m+1):
  fnMW (Abj [Sq+7]) (look [(158,oe),(178,Yw),(134,Yr),(58,Hx),(176,iC.m (Ww m))]) (Ww (m+1)) Tryz.f176 (n,G,T,l,p,()) (λ(z:(Int×List (List (Option (List Int)))×List (List (Option (List Int)))×Unit)×Unit)=>z=((n,(Ig (n-l).toNat l.toNat (p.getD []) (G,T)).1,(Ig (n-l).toNat l.toNat (p.getD []) (G,T)).2,()),())):=by
 obtain ⟨⟨N,L,q,rfl,h⟩,hm⟩:=h
 have h':=h
 obtain ⟨n1,n2,en,el,hle,v,pm,fx⟩:=h
 subst en el
 have hk:((N:Int)-(L:Int)).toNat=N-L:=by omega
 rw [hk,Au]
 refine Eq.mp (Aok (N:Int) G T (L:Int) (some q) _) ⟨_,Ab ⟨N,L,?a⟩,?b⟩
 case a=>
  simp only [Fw,Bd,Dd]
  exact h'
 obtain ⟨v1,v2,v3,v4⟩:=v
 dsimp only at v1 v2
 have hw:IntKind.i64.wrap ((L:Int)+1)=((L+1:Nat):Int):=Bv (by omega)
 simp only [Lz]
 simp only [Fw,Bd,Dd,hk,Au,Ce,eq_self,true_and,bl,List.take_succ_cons,List.take_zero,Ay,Ex,Df,hw]
 refine Br.of (λhh=>⟨by show Int.toNat (L:Int)<=G.length;omega,by show Int.toNat (L:Int)<=T.length;omega,?_⟩) λhh=>?_
 ·rw [CM (s:=(G,T)) hh]
 obtain ⟨k,hNk⟩: ∃k,N-L=k+1:=by
  cases e:N-L with
  |zero=>rw [e] at hh;simp [Pk] at hh
  |succ k=>exact ⟨k,rfl⟩
 have hLN:L<N:=by omega
 have hv:V N (k+1) L (G,T):=by rw [<-hNk];exact ⟨v1,v2,v3,v4⟩
 rw [hNk] at hh⊢
 have e1:(0:Int)<=(L:Int)/\(L:Int)<(G.length:Int):=by omega
 have e1':(0:Int)<=(L:Int)/\(L:Int)<(T.length:Int):=by omega
 have hgl:(G.getD L []).length<=400:=Adh n2 (by omega) hv
 have e2:(G.getD L []).length+1<=Dk:=by show _<=4294967296;omega
 simp only [e1,e1',e2,and_self,true_and,bl]
 generalize PU:G.getD L []++ [some q]=gs
 have Awv:gs.length<=401:=by rw [<-PU,As,Be];omega
 have hg:PG N L gs:=by rw [<-PU];exact hv.pg pm fx
 have hr0:Xm N L gs (T.getD L []):=by rw [<-PU];exact hv.Atr q
 obtain ⟨r1,r2,r3⟩:=GB hLN n2 hg hr0
 generalize hR:Zo gs (T.getD L [])=R at r1 r2 r3
 have SW:Ig (k+1) L q (G,T)=(gY R gs).foldl (λs q=>Ig k (L+1) q s) (G.set L gs,T.set L R):=by
  rw [CL,Ai (by rw [hh];simp)]
  dsimp only
  rw [PU,hR]
 rw [SW]
 have hTl:L<T.length:=by omega
 have hGl:L<G.length:=by omega
 have hG1:(G.set L gs).getD L []=gs:=lh G L hGl gs
 have hT1: ∀row:Row,(T.set L row).getD L []=row:=lh T L hTl
 refine ⟨_,Ab (by show (T.getD L []).length<=20;rw [hr0.rl];exact n2),?_⟩
 dsimp only
 have hn0:(Vk (T.getD L [])).length+So (T.getD L [])<=40:=by have:=zC (T.getD L []);have:=FV (T.getD L []);have:=hr0.rl;omega
 have hq0:RQ gs (Vk (T.getD L [])) (T.getD L []):=⟨λy hy=>bd.1 hy,λy hy=> .inl (bd.2 ⟨y,rfl,hy⟩)⟩
 refine ⟨λv=> ∃(row:Row) (qu:List Int) (kg kt:Nat),v=(L,G.set L gs,kg,T.set L row,kt,qu,(N:Int),())/\L<=kg/\L<=kt/\qu.length+So row<=40/\Xm N L gs row/\RQ gs qu row/\au gs (qu.length+So row) qu row=R,
  fun v=>v.2.2.2.2.2.1.length+So (v.2.2.2.1.getD v.1 []),⟨T.getD L [],Vk (T.getD L []),min G.length L,T.length,?_,by omega,by omega,hn0,hr0,hq0,?_⟩,?_⟩
 ·rw [wv T L hTl]
 ·rw [<-CZ hLN hg 100 _ _ (by omega) hr0 hq0];exact hR
 rintro v ⟨row,qu,kg,kt,rfl,hkg,hkt,hb,YU,hqi,XZ⟩
 dsimp only
 simp only [hG1,hT1,Df]
 refine Br.dec (λhl=>⟨e1.2,?_⟩) λhl=>?_
 ·cases qu with
  |nil=>simp at hl
  |cons x qu=>
  obtain ⟨p1,p2,xn,t,rfl,ht⟩:=MM hLN hg YU hqi
  have hxn:xn<N:=by rw [<-YU.rl];exact rZ ht
  refine Bu gs.length (λv=>v.2.2.1) (λj v=> ∃kg kt:Nat,v=(L,L,(j:Int),G.set L gs,kg,T.set L (aF (xn:Int) (gs.take j) (row,qu)).1,kt,(xn:Int)::(aF (xn:Int) (gs.take j) (row,qu)).2,(N:Int),())/\L<=kg/\L<=kt) rfl ⟨kg,kt,rfl,hkg,hkt⟩ ?_
  rintro j v K hj hi ⟨kg,kt,rfl,h1,h2⟩ hK
  dsimp only
  simp only [hG1,hT1,Au]
  refine Br.dec (λhl=>?_) λhl=>?_
  ·have hl:j<gs.length:=by omega
   obtain ⟨x1,x2⟩:=Aao hLN hg (gs.take j) (q:=qu) (λo ho=>Fy ho) YU ht
   have Pn:=JJ (x:=(xn:Int)) hl (row,qu)
   generalize aF (xn:Int) (gs.take j) (row,qu)=s at x1 x2 Pn⊢
   obtain ⟨r,qq⟩:=s
   dsimp only at x1 x2⊢
   obtain ⟨g,vM,Xo,hgf⟩:=hg gs[j] (Ak hl)
   have htx:r.getD xn none=some t:=x1.mono _ _ ht
   obtain ⟨t1,t2,t3,t4⟩:=x1.ok.rt _ _ htx
   have hrl:r.length=N:=x1.ok.rl
   have hgj:gs.getD j none=some g:=by rw [XV hl];exact vM
   have hy:=Xo.lt hxn
   have hga:=(Xo.aq hxn).1
   have Adx:qq.length+So r=qu.length+So row:=x1.phi
   simp only [Ay] at hb
   simp only [hgj,Dd]
   refine ⟨⟨by omega,by omega⟩,⟨by omega,by simp only [Ay];omega⟩,_,rfl,_,ZD Xo hxn,⟨by omega,by omega⟩,?_⟩
   rw [vM] at Pn
   unfold aR at Pn
   dsimp only at Pn
   rw [Dd,hga,Au,Au,htx,Dd] at Pn
   rw [Au]
   refine Br.of (λhn=>?_) λhn=>?_
   ·have hn:r.getD (ap g xn) none=none:=by
     cases e:r.getD (ap g xn) none with
     |none=>rfl
     |some u=>rw [e] at hn;simp at hn
    rw [hn] at Pn
    refine ⟨⟨by omega,by simp only [Ay];omega⟩,_,rfl,⟨by omega,by omega⟩,some (Ag t g),?_,⟨by omega,by omega⟩,?_,?_⟩
    ·rw [Au,htx,Dd]
     exact Ab ⟨mh t1,MV t1 Xo⟩
    ·show qq.length+1+1<=4294967296
     omega
    ·rw [Bv (by omega)]
     refine hK hl _ rfl ⟨kg,kt,?_,h1,h2⟩
     rw [Pn,List.set_set]
     rfl
   ·have hn: ∃u,r.getD (ap g xn) none=some u:=by
     cases e:r.getD (ap g xn) none with
     |none=>rw [e] at hn;simp at hn
     |some u=>exact ⟨u,rfl⟩
    obtain ⟨u,hn⟩:=hn
    rw [hn] at Pn
    rw [Bv (by omega)]
    refine hK hl _ rfl ⟨kg,kt,?_,h1,h2⟩
    rw [Pn]
  ·have:j=gs.length:=by omega
   subst this
   rw [Bd]
   generalize hs:aF (xn:Int) gs (row,qu)=s at p1 p2⊢
   obtain ⟨r,qq⟩:=s
   dsimp only at p1 p2⊢
   have Adx:qq.length+So r=qu.length+So row:=p1.phi
   simp only [Ay] at hb XZ
   refine ⟨⟨by omega,by simp only [Ay];omega,Kc _⟩,⟨r,qq,kg,kt,?_,h1,h2,by omega,p1.ok,p2,?_⟩,?_⟩
   ·simp
   ·rw [show qu.length+1+So row=(qu.length+So row)+1 by omega] at XZ
    simp only [au,hs] at XZ
    rw [Adx]
    exact XZ
   ·simp only [Ay]
    have:(List.take (qq.length+1-Int.toNat 1) (List.drop (Int.toNat 1) ((xn:Int)::qq))).length=qq.length:=by simp
    rw [this]
    omega
 ·have:qu= []:=Ci (by omega)
  subst this
  rw [JK] at XZ
  subst XZ
  have hpr:=Aaj hLN hg YU r3
  have hvl:=hv.lower gs row
  have Ag1: ∀qs:List (List Int),(∀q∈qs,q∈gY row gs)->V N k (L+1) (qs.foldl (λs q=>Ig k (L+1) q s) (G.set L gs,T.set L row))/\bG (L+1) (G.set L gs,T.set L row) (qs.foldl (λs q=>Ig k (L+1) q s) (G.set L gs,T.set L row)):=
   fun qs hqs=>PF n1 n2 (by omega) qs _ (λq hq=>hpr q (hqs q hq)) hvl
  refine ⟨_,Ab (by show row.length<=20;rw [YU.rl];exact n2),?_⟩
  dsimp only
  have hol:=zC row
  have hrl:=YU.rl
  refine Bu (Vk row).length (λv=>v.2.1) (λi v=> ∃(s:Gv×Gv) (kg kt:Nat),v=(L,(i:Int),s.1,kg,s.2,kt,Vk row,(N:Int),())/\L<=kg/\L<=kt/\s=(((Vk row).take i).flatMap λy=>gs.map (Ui row y)).foldl (λs q=>Ig k (L+1) q s) (G.set L gs,T.set L row)) rfl ⟨_,kg,kt,rfl,hkg,hkt,rfl⟩ ?_
  rintro i v K hi kR ⟨s,kg,kt,rfl,h1,h2,hs⟩ hK
  dsimp only
  have Yj: ∀q∈((Vk row).take i).flatMap (λy=>gs.map (Ui row y)),q∈gY row gs:= λq hq=>by
   obtain ⟨y,hy,hq⟩:=Hz.1 hq
   exact Hz.2 ⟨y,Fy hy,hq⟩
  refine Br.dec (λhl=>?_) λhl=>?_
  ·have hl:i<(Vk row).length:=by omega
   obtain ⟨f1,f2⟩:=Ag1 _ Yj
   rw [<-hs] at f1 f2
   have g1:s.1.getD L []=gs:=by rw [(f2.low L (by omega)).1];exact hG1
   have g2:s.1.length=N:=f1.1
   obtain ⟨yn,hyn,hyr⟩:=bd.1 (Ak hl)
   obtain ⟨t,ht⟩:=dW.1 hyr
   have hyN:yn<N:=by rw [<-hrl];exact rZ ht
   obtain ⟨t1,t2,t3,t4⟩:=YU.rt _ _ ht
   refine ⟨⟨by omega,by omega⟩,(yn:Int),by rw [Au,Ac hl,hyn],by omega,?_⟩
   rw [g1]
   refine Bu gs.length (λv=>v.2.2.1) (λj v=> ∃(s':Gv×Gv) (kg kt:Nat),v=(L,L,(j:Int),s'.1,kg,s'.2,kt,Vk row,(N:Int),())/\L<=kg/\L<=kt/\s'=(((Vk row).take i).flatMap (λy=>gs.map (Ui row y))++(gs.take j).map (Ui row (yn:Int))).foldl (λs q=>Ig k (L+1) q s) (G.set L gs,T.set L row)) rfl ⟨s,kg,kt,rfl,h1,h2,by simpa using hs⟩ ?_
   rintro j v K' hj PX ⟨s',kg,kt,rfl,h1,h2,EM⟩ hK'
   dsimp only
   refine Br.dec (λMc=>?_) λMc=>?_
   ·have Mc:j<gs.length:=by omega
    have QF: ∀q∈((Vk row).take i).flatMap (λy=>gs.map (Ui row y))++(gs.take j).map (Ui row (yn:Int)),q∈gY row gs:= λq hq=>by
     rcases Bb.1 hq with hq|hq
     ·exact Yj q hq
     ·obtain ⟨o,ho,rfl⟩:=Bi.1 hq
      exact Hz.2 ⟨(yn:Int),bd.2 ⟨yn,rfl,hyr⟩,Bi.2 ⟨o,Fy ho,rfl⟩⟩
    obtain ⟨f1',f2'⟩:=Ag1 _ QF
    rw [<-EM] at f1' f2'
    obtain ⟨G',T'⟩:=s'
    dsimp only at f1' f2'⊢
    have g1':G'.getD L []=gs:=by have:=(f2'.low L (by omega)).1;dsimp only at this;rw [this];exact hG1
    have g3':T'.getD L []=row:=by have:=(f2'.low L (by omega)).2;dsimp only at this;rw [this];exact hT1 row
    have g4':G'.length=N:=f1'.1
    have g5':T'.length=N:=f1'.2.1
    obtain ⟨g,vM,Xo,hgf⟩:=hg gs[j] (Ak Mc)
    have hgj:gs.getD j none=some g:=by rw [XV Mc];exact vM
    have hgm:some g∈gs:=by rw [<-vM];exact Ak Mc
    have hy:=Xo.lt hyN
    obtain ⟨t',KQ⟩:=dW.1 (r3 yn t g ht hgm)
    obtain ⟨u1,u2,u3,u4⟩:=YU.rt _ _ KQ
    have Amw:Ui row (yn:Int) gs[j]=Ag (Ag t g) (Bs t'):=by rw [vM];exact jQ ht KQ
    have hqm:=hpr _ (Hz.2 ⟨(yn:Int),bd.2 ⟨yn,rfl,hyr⟩,Bi.2 ⟨gs[j],Ak Mc,Amw⟩⟩)
    simp only [g1',g3',Au,hgj,ht,Dd]
    have tw:L<Int.toNat ((L+1:Nat):Int):=by omega
    have XX:=yD n1 n2 k (L+1) _ (G',T') (by omega) f1' hqm.1 hqm.2
    have Aun:((Ig k (L+1) (Ag (Ag t g) (Bs t')) (G',T')).1).length=N:=XX.v.1
    have Auo:((Ig k (L+1) (Ag (Ag t g) (Bs t')) (G',T')).2).length=N:=XX.v.2.1
    have hkk:((N:Int)-((L+1:Nat):Int)).toNat=k:=by omega
    refine ⟨⟨by omega,by omega⟩,⟨by omega,by omega⟩,some (Ag t g),Ab ⟨mh t1,MV t1 Xo⟩,_,ZD Xo hyN,⟨by omega,by omega⟩,Bs t',?_,some (Ag (Ag t g) (Bs t')),?_,_,Ab ⟨⟨N,L+1,_,rfl,?pr⟩,?lt⟩,⟨tw,?k1⟩,⟨tw,?k2⟩,⟨tw,?k3⟩,⟨tw,?k4⟩,?go⟩
    case pr=>exact ⟨n1,n2,rfl,rfl,by omega,by rw [show N-(L+1)=k by omega];exact f1',hqm.1,hqm.2⟩
    case lt=>
     show ((N:Int)-((L+1:Nat):Int)).toNat<m
     omega
    case go=>
     dsimp only
     rw [Bv (by omega)]
     refine hK' Mc _ rfl ⟨_,_,_,rfl,?_,?_,?_⟩
     ·show L<=min kg (Int.toNat ((L+1:Nat):Int));omega
     ·show L<=min kt (Int.toNat ((L+1:Nat):Int));omega
     ·rw [Hb,Ac Mc,Tw,Mk,<-Cv,cD,<-EM]
      simp only [Ca,List.map_nil,Ds,List.foldl_nil,Amw,hkk,Au,Dd]
    case k1=>simp only [hkk,Au,Dd];omega
    case k2=>simp only [hkk,Au,Dd];omega
    case k3=>simp only [hkk,Au,Dd];omega
    case k4=>simp only [hkk,Au,Dd];omega
    ·rw [Au,KQ,Dd]
     exact Ab ⟨by show t'.length<=20;rw [u1.1];exact n2,u1.2.row⟩
    ·exact Ab ⟨mh (t1.comp Xo),MV (t1.comp Xo) u1.inv⟩
   ·have:j=gs.length:=by omega
    subst this
    rw [Bv (by omega)]
    refine hK hl _ rfl ⟨s',kg,kt,rfl,h1,h2,?_⟩
    rw [EM,Bd,Hb,Ac hl,Tw,List.flatMap_append,hyn]
    simp
  ·have:i=(Vk row).length:=by omega
   subst this
   rw [Bd] at hs
   refine ⟨h1,h2,?_⟩
   rw [hs]
   rfl
theorem Ab2 {m:Nat} (Aip:Cp Tryz.prog 176 (Ww m)):Cp Tryz.prog 176 (Ww (m+1)):=
 Cp.gX (Aew [Sq+7]) (Ax yk (Gb wC (Ax uK (Ax Xb (Gb Aip Bn))))) mixed Tryz.func176 (by kernel_rfl) (by kernel_rfl) λx h=>Anu x.1 x.2.1 x.2.2.1 x.2.2.2.1 x.2.2.2.2.1 h
theorem ND:Cp Tryz.prog 176 (Ww 0):=
 Cp.gX vd Bn mixed Tryz.func176 (by kernel_rfl) (by kernel_rfl) λ_ h=>absurd h.2 (Hc _)
theorem uI: ∀m,Cp Tryz.prog 176 (Ww m)
 |0=>ND
 |m+1=>Ab2 (uI m)
noncomputable abbrev AA:MSpec:=gX Ago (λx=> ∃N L q,x.2.2.2.2.1=some q/\sq N L x.1 x.2.1 x.2.2.1 x.2.2.2.1 q)
 (λx=>((x.1,(Ig (x.1-x.2.2.2.1).toNat x.2.2.2.1.toNat (x.2.2.2.2.1.getD []) (x.2.1,x.2.2.1)).1,(Ig (x.1-x.2.2.2.1).toNat x.2.2.2.1.toNat (x.2.2.2.2.1.getD []) (x.2.1,x.2.2.1)).2,()),()))
theorem NF:Cp Tryz.prog 176 AA:=Cp.Agq (λx=>(x.1-x.2.2.2.1).toNat) uI
def aD (n:Nat):Gv:=List.replicate n []
def eZ (n i:Nat):Row:=(List.replicate n none).set i (some (upto n))
def dO (n:Nat):Gv:=(List.range n).map λi=>eZ n i
def Ux (n:Nat) (gens:List PO):Gv×Gv:=gens.foldl (λs o=>Ig n 0 (o.getD []) s) (aD n,dO n)
noncomputable abbrev KV:MSpec:= {Jb:= [none,none],ins:= [(false, .Ec tI),(false, .Ec tLO)],Ht:=false,Hp:= [none,none,none],outs:= [.Ec tI, .Bo tO teG false, .Bo tO teG false],fn:= λ_=>none,rp:=some 165}
noncomputable abbrev jP:MSpec:=gX KV (λx=>(1<=x.1/\x.1<=20)/\List.length x.2.1<=4294967296/\ ∀o∈(x.2.1:List PO),∃g,o=some g/\Pm x.1.toNat g)
 (λx=>((x.1,(Ux x.1.toNat x.2.1).1,(Ux x.1.toNat x.2.1).2,()),()))
abbrev bh:Type:=Int×List (List (Option (List Int)))×Int×List (List (Option (List Int)))×PUnit
theorem IJ (n:Int) (gens:List (Option (List Int))) (P:(Int×List (List (Option (List Int)))×List (List (Option (List Int)))×Unit)×Unit->Prop):(((0:Int)<=n/\n<(↑Dk:Int)+(1:Int))/\n=n/\0=0/\(List.replicate n.toNat ([]:List (Option (List Int)))).length=(List.replicate n.toNat ([]:List (Option (List Int)))).length/\0=0/\0=([]:List Int).length/\Dn (λ(v3:bh) (k4:bh->Prop)=>Br (decide (v3.1<n)) (((0:Int)<=n/\n<(↑Dk:Int)+(1:Int))/\n=n/\ ∃(y5:Option (List Int)),da.fn (n,())=some y5/\((0:Int)<=v3.1/\v3.1<(↑(List.replicate n.toNat (none:Option (List Int))).length:Int))/\0+v3.1.toNat<(List.replicate n.toNat (none:Option (List Int))).length/\0=0/\(List.replicate n.toNat (none:Option (List Int))).length=((List.replicate n.toNat (none:Option (List Int))).set (0+v3.1.toNat) y5).length/\(0=0/\v3.2.2.2.1.length=v3.2.2.2.1.length)/\(0=0/\1= [(List.replicate n.toNat (none:Option (List Int))).set (0+v3.1.toNat) y5].length)/\0< [(List.replicate n.toNat (none:Option (List Int))).set (0+v3.1.toNat) y5].length/\v3.2.2.2.1.length+ [(List.replicate n.toNat (none:Option (List Int))).set (0+v3.1.toNat) y5].length<=Dk/\0=0/\v3.2.1.length=v3.2.1.length/\0=0/\(v3.2.2.2.1++ [(List.replicate n.toNat (none:Option (List Int))).set (0+v3.1.toNat) y5]).length=(v3.2.2.2.1++ [(List.replicate n.toNat (none:Option (List Int))).set (0+v3.1.toNat) y5]).length/\k4 (IntKind.i64.wrap (v3.1+(1:Int)),v3.2.1,v3.2.2.1,v3.2.2.2.1++ [(List.replicate n.toNat (none:Option (List Int))).set (0+v3.1.toNat) y5],())) (0=0/\v3.2.1.length=v3.2.1.length/\0=0/\v3.2.2.2.1.length=v3.2.2.2.1.length/\Dn (λ(v5:bh) (k6:bh->Prop)=>Br (decide (v5.1<(↑gens.length:Int))) (∃(y7:Option (List Int)),idx gens v5.1=some y7/\0=0/\v5.2.1.length=v5.2.1.length/\0=0/\v5.2.2.2.1.length=v5.2.2.2.1.length/\ ∃(y8:(Int×List (List (Option (List Int)))×List (List (Option (List Int)))×PUnit)×PUnit),AA.fn (v5.2.2.1,v5.2.1,v5.2.2.2.1,(0:Int),y7,())=some y8/\0=0/\y8.1.2.1.length=y8.1.2.1.length/\0=0/\y8.1.2.2.1.length=y8.1.2.2.1.length/\k6 (IntKind.i64.wrap (v5.1+(1:Int)),y8.1.2.1,y8.1.1,y8.1.2.2.1,())) ((0=0/\v5.2.1.length=v5.2.1.length)/\(0=0/\v5.2.2.2.1.length=v5.2.2.2.1.length)/\P ((v5.2.2.1,v5.2.1,v5.2.2.2.1,()),()))) ((0:Int),v3.2.1,v3.2.2.1,v3.2.2.2.1,PUnit.unit))) ((0:Int),List.replicate n.toNat ([]:List (Option (List Int))),n,[],PUnit.unit))=fnMW cF (look [(133,da),(176,AA)]) jP Tryz.f157 (n,gens,()) P:=by kernel_rfl
theorem cr (n i:Nat):(aD n).getD i []= []:=by
 unfold aD
 rw [Aj,Zi]
 split<;>rfl
theorem mS {n i:Nat} (h:i<n):(dO n).getD i []=eZ n i:=by
 unfold dO
 rw [Aj,Ff,Xu h]
 rfl
theorem oC {n i y:Nat} (h:i<n):(eZ n i).getD y none=if i=y then some (upto n) else none:=by
 unfold eZ
 rw [Yh,Iy]
 by_cases e:i=y
 ·rw [Ab ⟨e,h⟩,Ab e]
 ·rw [Ai (λhh=>e hh.1),Ai e,Aj,Zi]
  split<;>rfl
theorem uV {n:Nat} (h1:1<=n) (h2:n<=20): ∀(k l:Nat),l+k=n->qZ n k l (aD n,dO n)
 |0,l,hk=>cr n l
 |k+1,l,hk=>by
  have hl:l<n:=by omega
  have hg: ∀(g:List Int) (j:Nat),some g∈(aD n).getD j []->False:= λg j hg=>by rw [cr] at hg;cases hg
  refine ⟨uV h1 h2 k (l+1) (by omega),⟨λo ho=>?_,?_,?_,λy t e0=>?_,λy t g _ gR=>(hg _ _ gR).elim,λy t g t' _ gR=>(hg _ _ gR).elim⟩,λg gR=>(hg _ _ gR).elim⟩
  ·have ho:o∈(aD n).getD l []:=ho
   rw [cr] at ho;cases ho
  ·show ((dO n).getD l []).length=n
   rw [mS hl];simp [eZ]
  ·show ((dO n).getD l []).getD l none=_
   rw [mS hl,oC hl,Ab rfl]
  ·replace e0:((dO n).getD l []).getD y none=some t:=e0
   rw [mS hl,oC hl] at e0
   by_cases hy:l=y
   ·rw [Ab hy] at e0
    have e1:=Bc e0
    subst e1 hy
    exact ⟨Pm.id h1 h2,λi hi=>nc (by omega),nc hl, .id⟩
   ·rw [Ai hy] at e0;cases e0
theorem HM (n:Nat): ∀(k l:Nat),GBf k l (aD n,dO n)
 |0,_=>trivial
 |k+1,l=>⟨HM n k (l+1),by show ((aD n).getD l []).length<=_;rw [cr];exact Kd _⟩
theorem RC {n:Nat} (h1:1<=n) (h2:n<=20):V n n 0 (aD n,dO n):=⟨by simp [aD],by simp [dO],uV h1 h2 n 0 (by omega),HM n n 0⟩
def PmL (n:Nat) (gens:List PO):Prop:= ∀o∈gens,∃g,o=some g/\Pm n g
theorem CJ {n:Nat} {gens:List PO} {j:Nat} (hj:j<gens.length):Ux n (gens.take (j+1))=Ig n 0 (gens[j].getD []) (Ux n (gens.take j)):=by
 unfold Ux
 rw [Hb,Ac hj,Tw,cD]
 rfl
theorem oV {n:Nat} (h1:1<=n) (h2:n<=20): ∀(gens:List PO) (s:Gv×Gv),PmL n gens->V n n 0 s->V n n 0 (gens.foldl (λs o=>Ig n 0 (o.getD []) s) s)/\
  bG 0 s (gens.foldl (λs o=>Ig n 0 (o.getD []) s) s)/\(∀g,some g∈gens->Gn n ((gens.foldl (λs o=>Ig n 0 (o.getD []) s) s).1.getD 0 []) g)/\ ∀o∈(gens.foldl (λs o=>Ig n 0 (o.getD []) s) s).1.getD 0 [],o∈s.1.getD 0 []\/o∈gens
 | [],s,_,hv=>⟨hv,bG.refl _ _,(λ_ hg=>by cases hg),λ_ ho=> .inl ho⟩
 |o::gens,s,hg,hv=>by
  obtain ⟨g,rfl,Xo⟩:=hg o (by simp)
  have ha:=yD h1 h2 n 0 g s (by omega) hv Xo (λi hi=>absurd hi (Hc _))
  obtain ⟨a1,a2,a3,a4⟩:=oV h1 h2 gens (Ig n 0 g s) (λo ho=>hg o (by simp [ho])) ha.v
  refine ⟨a1,ha.grow.trans a2 (Ap _),λg' gR=>?_,λo ho=>?_⟩
  ·rcases Bg.1 gR with e|gR
   ·cases e;exact ha.Ang.mono λg hg=>a2.PK _ _ hg
   ·exact a3 g' gR
  ·rcases a4 o ho with h|h
   ·rcases ha.gens o h with h|h
    ·exact .inl h
    ·exact .inr (by simp [h])
   ·exact .inr (by simp [h])
theorem CI {n:Nat} (h1:1<=n) (h2:n<=20) {gens:List PO} (hg:PmL n gens):V n n 0 (Ux n gens):=(oV h1 h2 gens _ hg (RC h1 h2)).1
theorem tm {n:Nat} (h1:1<=n) (h2:n<=20) {gens:List PO} (hg:PmL n gens) {p:List Int} (hp:Pm n p):Pk (Ux n gens).2 n 0 p=true↔Gn n gens p:=by
 obtain ⟨a1,a2,a3,a4⟩:=oV h1 h2 gens _ hg (RC h1 h2)
 have hS:RO n λg=>some g∈gens:=⟨⟨h1,h2⟩,λg gR=>by obtain ⟨g',e,h⟩:=hg _ gR;cases e;exact h⟩
 have Yj: ∀g,some g∈(Ux n gens).1.getD 0 []->some g∈gens:= λg gR=>by
  rcases a4 _ gR with h|h
  ·have h:some g∈(aD n).getD 0 []:=h
   rw [cr] at h;cases h
  ·exact h
 have hS':RO n λg=>some g∈(Ux n gens).1.getD 0 []:=⟨⟨h1,h2⟩,λg gR=>hS.2 g (Yj g gR)⟩
 refine (nM h1 h2 n 0 (Ux n gens) (by omega) a1.2.2.1 p hp λi hi=>absurd hi (Hc _)).trans ⟨λh=>h.mono Yj,λh=>h.trans hS' λg gR=>a3 g gR⟩
theorem GM (n:Int) (gens:List (Option (List Int))) (h:(1<=n/\n<=20)/\List.length gens<=4294967296/\ ∀o∈(gens:List PO),∃g,o=some g/\Pm n.toNat g):
  fnMW cF (look [(133,da),(176,AA)]) jP Tryz.f157 (n,gens,()) (λ(z:(Int×List (List (Option (List Int)))×List (List (Option (List Int)))×Unit)×Unit)=>z=((n,(Ux n.toNat gens).1,(Ux n.toNat gens).2,()),())):=by
 obtain ⟨⟨h1,h2⟩,h3,hg⟩:=h
 obtain ⟨N,rfl⟩: ∃N:Nat,n=N:=⟨n.toNat,by omega⟩
 rw [Au] at hg⊢
 have h1:1<=N:=by omega
 have h2:N<=20:=by omega
 refine Eq.mp (IJ (N:Int) gens _) ?_
 have hm:((0:Int)<=(N:Int)/\(N:Int)<(Dk:Int)+1):=⟨by omega,by show (N:Int)<(4294967296:Int)+1;omega⟩
 simp only [hm,and_self,eq_self,true_and,Au,Ce,Ex,Df,Iy,Ay,Nat.lt_add_one,As]
 refine Bu N (λv=>v.1) (λj v=>v=((j:Int),aD N,(N:Int),(List.range j).map (eZ N),())) rfl rfl ?_
 rintro j v K hj hi rfl hK
 dsimp only
 refine Br.dec (λhl=>?_) λhl=>?_
 ·refine ⟨_,Ab ⟨by show (1:Int)<=N;omega,by show (N:Int)<=20;omega⟩,⟨by omega,by omega⟩,by rw [Au];omega,?_,?_⟩
  ·show _<=4294967296
   simp only [Gf,List.length_range]
   omega
  ·rw [Bv (by omega)]
   refine hK (by omega) _ rfl ?_
   rw [List.range_succ,Mk]
   rfl
 ·have:j=N:=by omega
  subst this
  refine Bu gens.length (λv=>v.1) (λi v=>v=((i:Int),(Ux j (gens.take i)).1,(j:Int),(Ux j (gens.take i)).2,())) rfl rfl ?_
  rintro i v K' kR Awy rfl hK'
  dsimp only
  refine Br.dec (λMc=>?_) λMc=>?_
  ·have Mc:i<gens.length:=by omega
   obtain ⟨g,vM,Xo⟩:=hg gens[i] (Ak Mc)
   have hv:=CI h1 h2 (gens:=gens.take i) λo ho=>hg o (Fy ho)
   refine ⟨_,Cf Mc,_,Ab ⟨j,0,g,vM,h1,h2,rfl,rfl,Kd _,hv,Xo,λi hi=>absurd hi (Hc _)⟩,?_⟩
   rw [Bv (by omega)]
   refine hK' Mc _ rfl ?_
   rw [CJ Mc]
   simp only [Int.sub_zero,Au]
   rfl
  ·have:i=gens.length:=by omega
   subst this
   rw [Bd]
theorem rO:Cp Tryz.prog 157 jP:=
 Cp.gX vd (Ax rF (Gb NF Bn)) mixed Tryz.func157 (by kernel_rfl) (by kernel_rfl) λx h=>GM x.1 x.2.1 h
noncomputable abbrev ET:MSpec:= {Jb:= [none,none],ins:= [(false, .Ec tI),(false, .Ec lO)],Ht:=false,Hp:= [none,none,none],outs:= [.Ec tI, .Bo tO teG false, .Bo tO teG false],fn:= λ_=>none,rp:=some 165}
def fz (n:Int) (g:List (List Int)):Gv×Gv:=Ux n.toNat (g.map some)
noncomputable abbrev Yv:MSpec:=gX ET (λx=>(1<=x.1/\x.1<=20)/\List.length x.2.1<=4294967296/\ ∀g∈(x.2.1:List (List Int)),Pm x.1.toNat g)
 (λx=>((x.1,(fz x.1 x.2.1).1,(fz x.1 x.2.1).2,()),()))
noncomputable def Qm (p:PP) (s:List Int):Bool:=(Bt p&&Hv p.1 s)&&Pk (fz p.1 p.2.2.1).2 p.1.toNat 0 s
noncomputable abbrev bA:Spec:=Gw (.pair Hq (.pair tL .unit)) .bool false true (λx=>Eo x.1/\short x.2.1) (λx=>Qm x.1 x.2.1)
theorem Cells.told {w:World} {S:Nat->Prop} {e:Ty} {cs:List Value} {xs:List e.den} (h:Cells w S (.slice e) cs xs): ∃o:Option (List e.den),Cells w S (.oslice e) cs o/\o.getD []=xs:=by
 simp only [Cells] at h
 obtain ⟨a,len,cap,rfl,h1,h2,h3⟩:=h
 cases a with
 |none=>
  rcases h3 with rfl|⟨g,o,h,_⟩
  ·refine ⟨none,?_,rfl⟩
   simp only [Cells]
   exact .inl ⟨trivial,cap,by rw [h1];rfl⟩
  ·cases h
 |some ad=>
  refine ⟨some xs,?_,rfl⟩
  simp only [Cells]
  exact .inr ⟨xs,ad,len,cap,rfl,rfl,h1,h2,h3.imp id λ⟨g,o,h,h4⟩=>⟨g,o,Bc h,h4⟩⟩
theorem JG {α β:Type} (Q:Nat->α->β->Prop): ∀(xs:List α),(∀i x,xs[i]?=some x-> ∃y,Q i x y)-> ∃ys:List β,ys.length=xs.length/\ ∀i x y,xs[i]?=some x->ys[i]?=some y->Q i x y:=by
 intro xs h
 refine ⟨List.ofFn λi:Fin xs.length=>Classical.choose (h i xs[i] (Ac i.2)),by simp,λi x y h1 h2=>?_⟩
 obtain ⟨hi,rfl⟩:=Am.1 h1
 obtain ⟨kR,rfl⟩:=Am.1 h2
 rw [List.getElem_ofFn]
 exact Classical.choose_spec (h i xs[i] (Ac hi))
theorem Cu.Aoj {w:World} {S:Nat->Prop} {e:Ty} {v:Value} {xs:List (List e.den)} (h:Cu w S (.slice (.slice e)) v xs): ∃os:List (Option (List e.den)),Cu w S (.slice (.oslice e)) v os/\os.map (·.getD [])=xs:=by
 obtain ⟨cs,hc,rfl⟩:=h
 simp only [Cells] at hc
 obtain ⟨a,len,cap,rfl,h1,h2,h3⟩:=hc
 rcases h3 with rfl|⟨g,o,rfl,hg,hS,h4⟩
 ·refine ⟨[],⟨_,?_,rfl⟩,rfl⟩
  simp only [Cells]
  exact ⟨a,len,cap,rfl,h1,h2, .inl trivial⟩
 ·obtain ⟨os,e1,e2⟩:=JG (λi (x:List e.den) (y:Option (List e.den))=>y.getD []=x/\ ∃es:List Value,es.length=1/\(∀j u,es[j]?=some u->w.cell? ⟨g,o+i*1+j,none⟩=some u)/\Cells w S (.oslice e) es y) xs λi x hx=>by
   obtain ⟨es,k1,k2,k3⟩:=h4 i x hx
   obtain ⟨y,k4,k5⟩:=Cells.told (e:=e) (by simp only [Cells];exact k3)
   exact ⟨y,k5,es,k1,k2,k4⟩
  refine ⟨os,⟨_,?_,rfl⟩,?_⟩
  ·simp only [Cells]
   refine ⟨_,len,cap,rfl,by rw [h1,e1],h2, .inr ⟨g,o,rfl,hg,hS,λi y hy=>?_⟩⟩
   obtain ⟨hi,_⟩:=Am.1 hy
   obtain ⟨_,es,k1,k2,k3⟩:=e2 i _ y (Ac (by omega)) hy
   simp only [Cells] at k3
   exact ⟨es,k1,k2,k3⟩
  ·refine fe (by simp [e1]) λi g1 g2=>?_
   rw [fg]
   exact (e2 i _ _ (Ac g2) (Ac (by omega))).1
theorem uM:Cp Tryz.prog 157 Yv:=by
 have h:=rO
 refine ⟨h.enter,λw S π us x r o g vs h1 hg h2 h3 hS h4 h5=>?_⟩
 obtain ⟨n,gens,⟨⟩⟩:=x
 match us,h2 with
 |u1::u2::us,h2=>
  obtain ⟨h6,⟨h7,h8⟩,h9⟩:=h2
  obtain ⟨os,qj,lj⟩:=Cu.Aoj (e:=tI) h8
  have lj:os.map (·.getD [])=(gens:List (List Int)):=lj
  have rq:(1<=n/\n<=20)/\List.length gens<=4294967296/\ ∀g∈(gens:List (List Int)),Pm n.toNat g:=Bx λhn=>by
   have:Yv.fn (n,gens,())=none:=Ai hn
   rw [this] at h5;cases h5
  have hos:os=gens.map some:=by
   rw [<-lj,List.map_map]
   refine (List.map_id os).symm.trans (Eu λx hx=>?_)
   cases x with
   |some y=>rfl
   |none=>
    have:=rq.2.2 [] (by rw [<-lj];exact Bi.2 ⟨none,hx,rfl⟩)
    have h1:=this.n1
    have h2:=this.1
    simp at h2
    omega
  have hv:Yv.fn (n,gens,())=some ((n,(fz n gens).1,(fz n gens).2,()),()):=Ab rq
  rw [hv] at h5
  have h5:=Bc h5
  refine h.calls w S π (u1::u2::us) (n,os,()) r o g vs h1 hg ⟨h6,⟨h7,qj⟩,h9⟩ h3 hS h4 ?_
  refine (Ab ⟨rq.1,by rw [hos,Gf];exact rq.2.1,λy hy=>?pp⟩).trans (Ga some ?qq)
  case pp=>
   replace hy:y∈os:=hy
   rw [hos] at hy
   obtain ⟨g,hg,rfl⟩:=Bi.1 hy
   exact ⟨g,rfl,rq.2.2 g hg⟩
  case qq=>subst hos;exact h5
theorem iT {p:PP} (hv:Valid p):(1<=p.1/\p.1<=20)/\List.length p.2.2.1<=4294967296/\ ∀g∈p.2.2.1,Pm p.1.toNat g:=
 ⟨hv.n,by have:=hv.fG;omega,λg hg=>⟨by have:=hv.len g hg;omega,dK (hv.perm g hg)⟩⟩
theorem o6 {n:Nat} {g:List (List Int)} (h: ∀x∈g,Pm n x):PmL n (g.map some):= λo ho=>by
 obtain ⟨x,hx,rfl⟩:=Bi.1 ho
 exact ⟨x,rfl,h x hx⟩
theorem Ad8 {p:PP} (hv:Valid p):V p.1.toNat p.1.toNat 0 (fz p.1 p.2.2.1):=by
 have:=hv.n
 exact CI (by omega) (by omega) (o6 (iT hv).2.2)
theorem u6 {α:Type} [DecidableEq α]: ∀ {l1 l2:List α},l1.Nodup->(∀x∈l1,x∈l2)->l1.length<=l2.length
 | [],_,_,_=>Kd _
 |a::l,l2,hn,hs=>by
  obtain ⟨h1,h2⟩:=Cd.1 hn
  have ha:=hs a (by simp)
  have:=u6 (l1:=l) (l2:=l2.erase a) h2 λy hy=>by
   have hya:y≠a:= λe'=>h1 (by rw [<-e'];exact hy)
   exact (List.mem_erase_of_ne hya).2 (hs y (by simp [hy]))
  rw [List.length_erase_of_mem ha] at this
  have:=List.length_pos_of_mem ha
  simp only [Ay]
  omega
theorem oX {g:List (List Int)} (Q:List Int->Prop) {x:List Int} {d:Int} : ∀(ls:List Int) (L:List (List Int)) (D:List Int),(∀l∈ls,Q (Ag x (An g l)))->(∀y∈L,Q y)->
  (∀y∈(Jh g x d ls L D).1,Q y)/\(∀y∈L,y∈(Jh g x d ls L D).1)/\((Jh g x d ls L D).2.2=true-> ∀l∈ls,Ag x (An g l)∈(Jh g x d ls L D).1)/\
   ((Jh g x d ls L D).2.2=false->(Jh g x d ls L D).1.length=3000/\ ∃z,Q z/\z∉(Jh g x d ls L D).1)
 | [],L,D,_,h=>⟨h,λ_ h=>h,(λ_ l hl=>by cases hl),(λe=>by cases e)⟩
 |l::ls,L,D,hq,h=>by
  have lu: ∀l∈ls,Q (Ag x (An g l)):= λl' h'=>hq l' (Ao _ h')
  simp only [Jh]
  split
  ·rename_i hm
   obtain ⟨a1,a2,a3,a4⟩:=oX Q (d:=d) ls L D lu h
   refine ⟨a1,a2,λe l' Mc=>?_,a4⟩
   rcases Bg.1 Mc with rfl|Mc
   ·exact a2 _ hm
   ·exact a3 e l' Mc
  ·rename_i hn
   split
   ·rename_i hf
    exact ⟨h,λ_ h=>h,(λe=>by cases e),λ_=>⟨hf,_,hq l (by simp),hn⟩⟩
   ·obtain ⟨a1,a2,a3,a4⟩:=oX Q (d:=d) ls (L++ [Ag x (An g l)]) (D++ [d+1]) lu λy hy=>by
     rcases Bb.1 hy with hy|hy
     ·exact h y hy
     ·rw [Ad.1 hy];exact hq l (by simp)
    refine ⟨a1,λy hy=>a2 y (Bk _ hy),λe l' Mc=>?_,a4⟩
    rcases Bg.1 Mc with rfl|Mc
    ·exact a2 _ (Cg _ (by simp))
    ·exact a3 e l' Mc
theorem x9 {p:PP} (hV:Valid p) {m:Nat} {ls:List Int} (hl: ∀l∈ls,Fo (List.length p.2.2.1) l) (Q:List Int->Prop) (hQ: ∀x,Q x-> ∀l∈ls,Q (Ag x (An p.2.2.1 l))):
  ∀(f k:Nat) (L:List (List Int)) (D:List Int),3001<=f+k->k<=L.length->Ve p m L D->(∀y∈L,Q y)->(∀(j:Nat) (h:j<L.length),j<k-> ∀l∈ls,Ag L[j] (An p.2.2.1 l)∈L)->
  (∀y∈(Ks p.2.2.1 ls f k L D).1,Q y)/\((Ks p.2.2.1 ls f k L D).2.2=true-> ∀x∈(Ks p.2.2.1 ls f k L D).1,∀l∈ls,Ag x (An p.2.2.1 l)∈(Ks p.2.2.1 ls f k L D).1)/\
   ((Ks p.2.2.1 ls f k L D).2.2=false->(Ks p.2.2.1 ls f k L D).1.length=3000/\ ∃z,Q z/\z∉(Ks p.2.2.1 ls f k L D).1)
 |0,k,L,D,hf,hkL,hb,hq,hc=>by
  have:=hb.ok.fG
  omega
 |f+1,k,L,D,hf,hkL,hb,hq,hc=>by
  simp only [Ks]
  split
  ·rename_i hk
   have SN:k<D.length:=by rw [hb.len];exact hk
   have hd:=hb.dep k SN
   have e:D.getD k 0=D[k]:=by rw [Aj,Ac SN];rfl
   rw [Wj hk,e]
   obtain ⟨k1,⟨A,k2⟩,_⟩:=nj hV (hb.row _ (Ak hk)) (hb.ok.len _ (Ak hk)) (d:=D[k]) ls L D hl hb ⟨by omega,by omega⟩
   obtain ⟨a1,a2,a3,a4⟩:=oX (g:=p.2.2.1) Q (x:=L[k]) (d:=D[k]) ls L D (hQ _ (hq _ (Ak hk))) hq
   split
   ·rename_i L' D' he
    rw [he] at k1 k2 a1 a2 a3 a4
    have k2:L'=L++A:=k2
    refine x9 hV hl Q hQ f (k+1) L' D' (by omega) (by rw [k2,As];omega) k1 a1 λj hj hjk l Mc=>?_
    by_cases e':j<k
    ·have e2:L'[j]=L[j]:=by simp only [k2];rw [Px (by omega)]
     rw [e2];exact a2 _ (hc j (by omega) e' l Mc)
    ·have:j=k:=by omega
     subst this
     have e2:L'[j]=L[j]:=by simp only [k2];rw [Px (by omega)]
     rw [e2];exact a3 rfl l Mc
   ·rename_i L' D' he
    rw [he] at a1 a4
    exact ⟨a1,(λe=>by cases e),λ_=>a4 rfl⟩
  ·rename_i hk
   refine ⟨hq,λ_ x hx l Mc=>?_,λe=>by cases e⟩
   obtain ⟨j,hj,rfl⟩:=Bf.1 hx
   have hj:j<L.length:=hj
   exact hc j hj (by omega) l Mc
theorem OX {p:PP} (hv:Bt p=true) {s:List Int} (hs:s.length<=20) (hr: ∀y∈s,0<=y/\y<p.1) (Q:List Int->Prop) (hQs:Q s) (hQ: ∀x,Q x-> ∀l∈Av p.2.2.1.length,Q (Ag x (An p.2.2.1 l))):
  (∀y∈(Gq p.2.2.1 s).1,Q y)/\((Gq p.2.2.1 s).2.2=true-> ∀x∈(Gq p.2.2.1 s).1,∀l∈Av p.2.2.1.length,Ag x (An p.2.2.1 l)∈(Gq p.2.2.1 s).1)/\
   ((Gq p.2.2.1 s).2.2=false->(Gq p.2.2.1 s).1.length=3000/\ ∃z,Q z/\z∉(Gq p.2.2.1 s).1):=
 x9 (valid hv) (λ_ hl=>Kt hl) Q hQ 3001 0 [s] [0] (by omega) (Kd _) (kq hs hr) (λy hy=>by rw [Ad.1 hy];exact hQs) λj _ hj=>absurd hj (Hc _)
theorem eW {g:List (List Int)} {x:List Int} :some x∈g.map some↔x∈g:=by simp
theorem tR {n:Nat} {g:List (List Int)} {x:List Int} (h:Gn n (g.map some) x) {l:Int} (hl:l∈Av g.length):Gn n (g.map some) (Ag x (An g l)):=by
 obtain ⟨k,hk,rfl|rfl⟩:=Og (Kt hl)
 ·rw [Ou hk];exact .mul h (eW.2 (Ak hk))
 ·rw [Ot hk];exact .inv h (eW.2 (Ak hk))
theorem Mq {n k:Nat} (hk:k<n):(k:Int)+1∈Av n/\ -((k:Int)+1)∈Av n:=by
 unfold Av
 exact ⟨Hz.2 ⟨k,Dl.2 hk,by simp⟩,Hz.2 ⟨k,Dl.2 hk,by simp⟩⟩
theorem KD {n:Nat} {g:List (List Int)} {L:List (List Int)} (h0:upto n∈L) (hc: ∀x∈L,∀l∈Av g.length,Ag x (An g l)∈L) {p:List Int} (hp:Gn n (g.map some) p):p∈L:=by
 induction hp with
 |id=>exact h0
 |mul _ hg ih=>
  obtain ⟨k,hk,rfl⟩:=Bf.1 (eW.1 hg)
  have:=hc _ ih _ (Mq hk).1
  rwa [Ou hk] at this
 |inv _ hg ih=>
  obtain ⟨k,hk,rfl⟩:=Bf.1 (eW.1 hg)
  have:=hc _ ih _ (Mq hk).2
  rwa [Ot hk] at this
structure Reach (p:PP) (L:List (List Int)) (D:List Int) (whole:Bool):Prop where
 ok:Ve p p.1.toNat L D
 nodup:L.Nodup
 first: ∃A,L=upto p.1.toNat::A
 gen: ∀x∈L,Gn p.1.toNat (p.2.2.1.map some) x
 all:whole=true-> ∀x,Gn p.1.toNat (p.2.2.1.map some) x->x∈L
 big:whole=false->L.length=3000/\ ∃z,Gn p.1.toNat (p.2.2.1.map some) z/\z∉L
theorem Fm.nodup {m:Nat} {L:List (List Int)} {Nk:List Int} (h:Fm m L Nk):L.Nodup:=
 Ek.2 λi j hi hj jh e=>by have:=h.inj hi hj e;omega
theorem jF {p:PP} (hv:Bt p=true):Reach p (Gq p.2.2.1 (upto p.1.toNat)).1 (Gq p.2.2.1 (upto p.1.toNat)).2.1 (Gq p.2.2.1 (upto p.1.toNat)).2.2:=by
 have hV:=valid hv
 have hn:=hV.n
 have hl:(upto p.1.toNat).length=p.1.toNat:=Sw _
 have hr: ∀y∈upto p.1.toNat,0<=y/\y<p.1:= λy hy=>by have:=Qw.1 hy;omega
 obtain ⟨b1,b2⟩:=yI hv (by omega) hr
 rw [hl] at b1
 obtain ⟨a1,a2,a3⟩:=OX hv (by omega) hr (λx=>Gn p.1.toNat (p.2.2.1.map some) x) .id λx hx l hl=>tR hx hl
 exact ⟨b1,b1.ok.nodup,b2,a1,λhw x hx=>KD (by obtain ⟨A,e⟩:=b2;rw [e];simp) (a2 hw) hx,a3⟩
noncomputable def Gp (p:PP):Bool:=Bt p&&(Gq p.2.2.1 (upto p.1.toNat)).2.2
theorem Jk {α:Type} {xs ys:List α} {i:Nat} {d:α} (h:i<xs.length):(xs++ys).getD i d=xs.getD i d:=by
 rw [Aj,Aj,At h]
theorem bq {α:Type} {xs:List α} {x d:α} :(xs++ [x]).getD xs.length d=x:=by
 rw [Aj,Ar (Ap _),Nat.sub_self];rfl
theorem Hm {α:Type} {xs:List α} {i:Nat} {d:α} (h:i<xs.length):xs.getD i d=xs[i]:=by
 rw [Aj,Ac h];rfl
structure Lv (g:List (List Int)) (ls:List Int) (k:Nat) (L:List (List Int)) (D:List Int):Prop where
 len:D.length=L.length
 pos:0<L.length
 mono: ∀i j,i<=j->j<L.length->D.getD i 0<=D.getD j 0
 zz:k<L.length-> ∀j,j<L.length->D.getD j 0<=D.getD k 0+1
 par: ∀j,0<j->j<L.length-> ∃i l,i<j/\l∈ls/\L.getD j []=Ag (L.getD i []) (An g l)/\D.getD j 0=D.getD i 0+1
 zero:D.getD 0 0=0
theorem Lv.add {g:List (List Int)} {ls:List Int} {k:Nat} {L:List (List Int)} {D:List Int} (h:Lv g ls k L D) (hk:k<L.length) {l:Int} (hl:l∈ls):
  Lv g ls k (L++ [Ag (L.getD k []) (An g l)]) (D++ [D.getD k 0+1]):=by
 have hlen:=h.len
 have hD: ∀i,i<L.length->(D++ [D.getD k 0+1]).getD i 0=D.getD i 0:= λi hi=>Jk (by omega)
 have hDl:(D++ [D.getD k 0+1]).getD L.length 0=D.getD k 0+1:=by rw [<-hlen];exact bq
 refine ⟨by simp [hlen],by simp,λi j jh hj=>?_,λ_ j hj=>?_,λj h0 hj=>?_,?_⟩
 ·rw [As,Be] at hj
  by_cases e:j=L.length
  ·subst e
   rw [hDl]
   by_cases e':i=L.length
   ·subst e';rw [hDl];exact Kc _
   ·rw [hD i (by omega)]
    exact h.zz hk i (by omega)
  ·rw [hD i (by omega),hD j (by omega)]
   exact h.mono i j jh (by omega)
 ·rw [As,Be] at hj
  rw [hD k hk]
  by_cases e:j=L.length
  ·subst e;rw [hDl];exact Kc _
  ·rw [hD j (by omega)];exact h.zz hk j (by omega)
 ·rw [As,Be] at hj
  by_cases e:j=L.length
  ·subst e
   exact ⟨k,l,hk,hl,by rw [bq,Jk hk],by rw [hDl,hD k hk]⟩
  ·obtain ⟨i,l',h1,h2,h3,h4⟩:=h.par j h0 (by omega)
   exact ⟨i,l',h1,h2,by rw [Jk (by omega),Jk (by omega)];exact h3,by rw [hD j (by omega),hD i (by omega)];exact h4⟩
 ·rw [hD 0 h.pos];exact h.zero
theorem ni {g:List (List Int)} {ls:List Int} {k:Nat} : ∀(QO:List Int) (L:List (List Int)) (D:List Int),(∀l∈QO,l∈ls)->Lv g ls k L D->k<L.length-> ∀ {x:List Int} {d:Int},x=L.getD k []->d=D.getD k 0->
  Lv g ls k (Jh g x d QO L D).1 (Jh g x d QO L D).2.1/\(∃A,(Jh g x d QO L D).1=L++A)/\(∃A,(Jh g x d QO L D).2.1=D++A)/\
  ((Jh g x d QO L D).2.2=true-> ∀l∈QO,∃j,j<(Jh g x d QO L D).1.length/\(Jh g x d QO L D).1.getD j []=Ag x (An g l)/\(Jh g x d QO L D).2.1.getD j 0<=d+1)
 | [],L,D,_,h,_,x,d,_,_=>⟨h,⟨[],by simp [Jh]⟩,⟨[],by simp [Jh]⟩,λ_ l hl=>by cases hl⟩
 |l::QO,L,D,hs,h,hk,x,d,hx,hd=>by
  have EM: ∀l∈QO,l∈ls:= λl' h'=>hs l' (Ao _ h')
  have hlen:=h.len
  simp only [Jh]
  split
  ·rename_i hm
   obtain ⟨a1,⟨A,a2⟩,⟨A',a3⟩,a4⟩:=ni QO L D EM h hk hx hd
   refine ⟨a1,⟨A,a2⟩,⟨A',a3⟩,λe l' Mc=>?_⟩
   rcases Bg.1 Mc with rfl|Mc
   ·obtain ⟨j,hj,hjx⟩:=Bf.1 hm
    refine ⟨j,by rw [a2,As];omega,by rw [a2,Jk hj,Hm hj];exact hjx,?_⟩
    rw [a3,Jk (by omega),hd]
    exact h.zz hk j hj
   ·exact a4 e l' Mc
  ·split
   ·exact ⟨h,⟨[],by simp⟩,⟨[],by simp⟩,λe=>by cases e⟩
   ·have XX:=h.add hk (hs l (by simp))
    rw [<-hx,<-hd] at XX
    obtain ⟨a1,⟨A,a2⟩,⟨A',a3⟩,a4⟩:=ni QO (L++ [Ag x (An g l)]) (D++ [d+1]) EM XX (by rw [As];omega) (x:=x) (d:=d) (by rw [Jk hk];exact hx) (by rw [Jk (by omega)];exact hd)
    refine ⟨a1,⟨_::A,by rw [a2,Cv];rfl⟩,⟨_::A',by rw [a3,Cv];rfl⟩,λe l' Mc=>?_⟩
    rcases Bg.1 Mc with rfl|Mc
    ·refine ⟨L.length,by rw [a2,As,As];simp only [Be];omega,?_,?_⟩
     ·rw [a2,Jk (by simp),bq]
     ·rw [a3,Jk (by simp [hlen]),<-hlen,bq]
      exact Kc _
    ·exact a4 e l' Mc
structure oR (g:List (List Int)) (ls:List Int) (L:List (List Int)) (D:List Int):Prop where
 len:D.length=L.length
 pos:0<L.length
 zero:D.getD 0 0=0
 par: ∀j,0<j->j<L.length-> ∃i l,i<j/\l∈ls/\L.getD j []=Ag (L.getD i []) (An g l)/\D.getD j 0=D.getD i 0+1
 step: ∀i,i<L.length-> ∀l∈ls,∃j,j<L.length/\L.getD j []=Ag (L.getD i []) (An g l)/\D.getD j 0<=D.getD i 0+1
theorem CW {g:List (List Int)} {ls:List Int} : ∀(f k:Nat) (L:List (List Int)) (D:List Int),3001<=f+k->Lv g ls k L D->k<=L.length->
  (∀i,i<k-> ∀l∈ls,∃j,j<L.length/\L.getD j []=Ag (L.getD i []) (An g l)/\D.getD j 0<=D.getD i 0+1)->
  (Ks g ls f k L D).2.2=true->(Ks g ls f k L D).1.length<=3000->oR g ls (Ks g ls f k L D).1 (Ks g ls f k L D).2.1
 |0,k,L,D,hf,h,hkL,hc,hw,h3=>by
  simp only [Ks] at h3⊢
  omega
 |f+1,k,L,D,hf,h,hkL,hc,hw,h3=>by
  simp only [Ks] at hw h3⊢
  split
  ·rename_i hk
   rw [Ab hk] at hw h3
   obtain ⟨a1,⟨A,a2⟩,⟨A',a3⟩,a4⟩:=ni (x:=L.getD k []) (d:=D.getD k 0) ls L D (λ_ h=>h) h hk rfl rfl
   have hlen:=h.len
   split
   ·rename_i L' D' he
    rw [he] at a1 a2 a3 a4
    simp only [he] at hw h3
    have a2:L'=L++A:=a2
    have a3:D'=D++A':=a3
    have a4:=a4 rfl
    dsimp only at a4
    have hLl:L.length<=L'.length:=by rw [a2,As];omega
    refine CW f (k+1) L' D' (by omega) ⟨a1.len,a1.pos,a1.mono,λhk1 j hj=>?_,a1.par,a1.zero⟩ (by omega) (λi hi l hl=>?_) hw h3
    ·have h1:D'.getD j 0<=D'.getD k 0+1:=a1.zz (show k<L'.length by omega) j hj
     have h2:D'.getD k 0<=D'.getD (k+1) 0:=a1.mono k (k+1) (by omega) hk1
     omega
    ·by_cases e:i=k
     ·subst e
      obtain ⟨j,b1,b2,b3⟩:=a4 l hl
      refine ⟨j,b1,?_,?_⟩
      ·rw [b2,a2,Jk (by omega)]
      ·rw [show D'.getD i 0=D.getD i 0 by rw [a3,Jk (by omega)]];exact b3
     ·obtain ⟨j,b1,b2,b3⟩:=hc i (by omega) l hl
      refine ⟨j,by omega,?_,?_⟩
      ·rw [a2,Jk (by omega),Jk (by omega)];exact b2
      ·rw [a3,Jk (by omega),Jk (by omega)];exact b3
   ·rename_i L' D' he
    simp only [he] at hw
    cases hw
  ·rename_i hk
   exact ⟨h.len,h.pos,h.zero,h.par,λi hi=>hc i (by have hi:i<L.length:=hi;omega)⟩
theorem fu {p:PP} {s:List Int} (hv:Bt p=true) (hs:s.length<=20) (hr: ∀y∈s,0<=y/\y<p.1) (hw:(Gq p.2.2.1 s).2.2=true):
  oR p.2.2.1 (Av p.2.2.1.length) (Gq p.2.2.1 s).1 (Gq p.2.2.1 s).2.1:=by
 have hb:=(yI hv hs hr).1.ok.fG
 refine CW 3001 0 [s] [0] (by omega) ⟨rfl,by simp,λi j jh hj=>?_,λ_ j hj=>?_,λj h0 hj=>?_,rfl⟩ (Kd _) (λi hi=>absurd hi (Hc _)) hw hb
 ·have:j=0:=by simpa using hj
  subst this
  have:i=0:=by omega
  subst this
  exact Kc _
 ·have:j=0:=by simpa using hj
  subst this
  simp
 ·have:j=0:=by simpa using hj
  omega
theorem qw {p:PP} (hV:Valid p) {x:List Int} (hx: ∀y∈x,0<=y/\y<p.1) {l:Int} (hl:l∈Av p.2.2.1.length):
  -l∈Av p.2.2.1.length/\Ag (Ag x (An p.2.2.1 l)) (An p.2.2.1 (-l))=x:=by
 obtain ⟨k,hk,Tb⟩:=Og (Kt hl)
 have hg:=dK (hV.perm _ (Ak hk))
 have hgl:=hV.len _ (Ak hk)
 have hn:=hV.n
 have hp:Pm p.1.toNat (p.2.2.1[k]):=⟨by omega,hg⟩
 have key: ∀q r:List Int,Pm p.1.toNat q->Pm p.1.toNat r->Ag q r=upto p.1.toNat->Ag (Ag x q) r=x:= λq r hq hr he=>by
  refine fe (by rw [Sb,Sb]) λi h1 h2=>?_
  have hxi:=hx _ (Ak h2)
  obtain ⟨xi,hxe⟩:=Mw hxi.1
  have hxn:xi<p.1.toNat:=by omega
  have e1:ap (Ag q r) xi=ap (upto p.1.toNat) xi:=Ga (λz=>ap z xi) he
  rw [Mn hq hr hxn,nc hxn] at e1
  simp only [Ag,fg,hxe]
  have h3:=(hq.aq hxn).1
  have h4:=(hr.aq (hq.lt hxn)).1
  rw [h3,h4,e1]
 rcases Tb with rfl|rfl
 ·refine ⟨(Mq hk).2,?_⟩
  rw [Ou hk,Ot hk]
  exact key _ _ hp hp.inv (sQ hp)
 ·refine ⟨by rw [Int.neg_neg];exact (Mq hk).1,?_⟩
  rw [Int.neg_neg,Ou hk,Ot hk]
  exact key _ _ hp.inv hp (eC hp)
structure Mm (g:List (List Int)) (ls:List Int) (L:List (List Int)) (S:List Int->Prop) (d:List Int->Int):Prop where
 nn: ∀x∈L,0<=d x
 zero: ∀x∈L,d x=0↔S x
 step: ∀x∈L,∀l∈ls,d (Ag x (An g l))<=d x+1
 down: ∀x∈L,0<d x-> ∃l∈ls,d (Ag x (An g l))=d x-1
structure fi (g:List (List Int)) (ls:List Int) (L:List (List Int)):Prop where
 next: ∀x∈L,∀l∈ls,Ag x (An g l)∈L
 back: ∀x∈L,∀l∈ls,-l∈ls/\Ag (Ag x (An g l)) (An g (-l))=x
theorem Mm.le {g:List (List Int)} {ls:List Int} {L:List (List Int)} {S:List Int->Prop} {d d':List Int->Int} (hc:fi g ls L) (h:Mm g ls L S d) (h':Mm g ls L S d'):
  ∀(n:Nat) (x:List Int),x∈L->d' x=n->d x<=n
 |0,x,hx,e=>by
  have:=(h.zero x hx).2 ((h'.zero x hx).1 e)
  omega
 |n+1,x,hx,e=>by
  obtain ⟨l,hl,hd⟩:=h'.down x hx (by omega)
  obtain ⟨b1,b2⟩:=hc.back x hx l hl
  have h1:=Mm.le hc h h' n _ (hc.next x hx l hl) (by omega)
  have h2:=h.step _ (hc.next x hx l hl) _ b1
  rw [b2] at h2
  omega
theorem Mm.eq {g:List (List Int)} {ls:List Int} {L:List (List Int)} {S:List Int->Prop} {d d':List Int->Int} (hc:fi g ls L) (h:Mm g ls L S d) (h':Mm g ls L S d') {x:List Int} (hx:x∈L):d x=d' x:=by
 have n1:=h.nn x hx
 have n2:=h'.nn x hx
 have h1:=Mm.le hc h h' (d' x).toNat x hx (by omega)
 have h2:=Mm.le hc h' h (d x).toNat x hx (by omega)
 omega
theorem Mm.zz {g:List (List Int)} {ls:List Int} {L:List (List Int)} {S:List Int->Prop} {d:List Int->Int} (hc:fi g ls L) (h:Mm g ls L S d) {x:List Int} (hx:x∈L) {l:Int} (hl:l∈ls):
  d x-1<=d (Ag x (An g l)):=by
 obtain ⟨b1,b2⟩:=hc.back x hx l hl
 have h2:=h.step _ (hc.next x hx l hl) _ b1
 rw [b2] at h2
 omega
def Lo (L:List (List Int)) (D:List Int) (x:List Int):Int:=if x∈L then D.getD (L.idxOf x) 0 else-1
theorem bZ {L:List (List Int)} (hn:L.Nodup) {j:Nat} (hj:j<L.length):L.idxOf (L.getD j [])=j:=by
 rw [Hm hj]
 exact hn.idxOf_getElem j hj
theorem Wi {L:List (List Int)} {j:Nat} (hj:j<L.length):L.getD j []∈L:=by rw [Hm hj];exact Ak hj
theorem fD {L:List (List Int)} {D:List Int} (hn:L.Nodup) {j:Nat} (hj:j<L.length):Lo L D (L.getD j [])=D.getD j 0:=by
 unfold Lo
 rw [Ab (Wi hj),bZ hn hj]
theorem dB {p:PP} (hV:Valid p) {m:Nat} {L:List (List Int)} {D:List Int} (hb:Ve p m L D) (h:oR p.2.2.1 (Av p.2.2.1.length) L D):fi p.2.2.1 (Av p.2.2.1.length) L where
 next x hx l hl:=by
  obtain ⟨i,hi,rfl⟩:=Bf.1 hx
  obtain ⟨j,h1,h2,_⟩:=h.step i hi l hl
  rw [Hm hi] at h2
  rw [<-h2]
  exact Wi h1
 back x hx l hl:=qw hV (hb.row x hx) hl
theorem qx {p:PP} (hV:Valid p) {m:Nat} {L:List (List Int)} {D:List Int} (hb:Ve p m L D) (h:oR p.2.2.1 (Av p.2.2.1.length) L D):
  Mm p.2.2.1 (Av p.2.2.1.length) L (λx=>x=L.getD 0 []) (Lo L D) where
 nn x hx:=by
  obtain ⟨i,hi,rfl⟩:=Bf.1 hx
  rw [<-Hm (d:= []) hi,fD hb.ok.nodup hi]
  have:=hb.dep i (by rw [hb.len];exact hi)
  rw [Hm (by rw [hb.len];exact hi)]
  omega
 zero x hx:=by
  obtain ⟨i,hi,rfl⟩:=Bf.1 hx
  rw [<-Hm (d:= []) hi,fD hb.ok.nodup hi]
  constructor
  ·intro h0
   by_cases e:i=0
   ·rw [e]
   ·obtain ⟨k,l,h1,_,_,h4⟩:=h.par i (by omega) hi
    have hk:k<D.length:=by rw [hb.len];omega
    have:=hb.dep k hk
    rw [<-Hm (d:=0) hk] at this
    omega
  ·intro e
   have:i=0:=by
    have h1:=bZ hb.ok.nodup hi
    have h2:=bZ hb.ok.nodup h.pos
    rw [e,h2] at h1
    exact h1.symm
   rw [this]
   exact h.zero
 step x hx l hl:=by
  obtain ⟨i,hi,rfl⟩:=Bf.1 hx
  rw [<-Hm (d:= []) hi,fD hb.ok.nodup hi]
  obtain ⟨j,h1,h2,h3⟩:=h.step i hi l hl
  rw [<-h2,fD hb.ok.nodup h1]
  exact h3
 down x hx h0:=by
  obtain ⟨i,hi,rfl⟩:=Bf.1 hx
  rw [<-Hm (d:= []) hi,fD hb.ok.nodup hi] at h0⊢
  have hi0:0<i:=by
   rcases Tv i with e|e
   ·subst e;rw [h.zero] at h0;omega
   ·exact e
  obtain ⟨k,l,h1,h2,h3,h4⟩:=h.par i hi0 hi
  have hk:k<L.length:=by omega
  obtain ⟨b1,b2⟩:=qw hV (hb.row _ (Wi hk)) h2
  refine ⟨-l,b1,?_⟩
  rw [h3,b2,fD hb.ok.nodup hk]
  omega
noncomputable def Ba (p:PP):List (List Int):=(Gq p.2.2.1 (upto p.1.toNat)).1
noncomputable def Dh (p:PP):List Int:=(Gq p.2.2.1 (upto p.1.toNat)).2.1
noncomputable def Ql (p:PP) (s:List Int):Bool:=Gp p&&decide (s∈Ba p)
def QP (goal s:List Int):Bool:=List.all goal λx=>decide (Ih s x=x)
noncomputable def Cm (p:PP):SS×Bool×Unit:=if Bt p=true then (Gr p.2.2.1 (upto p.1.toNat),Gp p,()) else (([],[],[],false,()),false,())
noncomputable abbrev Za:Spec:=Gw (.pair Hq .unit) (.pair Zr (.pair .bool .unit)) true false (λx=>Eo x.1) (λx=>Cm x.1)
noncomputable abbrev bC:Spec:=Gw (.pair tL (.pair tL .unit)) tL false true (λx=>short x.2.1/\Of (List.length x.1) x.2.1) (λx=>Eg x.1 x.2.1)
abbrev Ej:Type:=List (List Int)×List Int×List Int×Bool×PUnit
theorem OP (p:Int×ByteArray×List (List Int)×Unit) (P:((List (List Int)×List Int×List Int×Bool×Unit)×Bool×Unit)->Prop):(∃(y2:Bool),Il.fn ((p.1,p.2.1,p.2.2.1,()),())=some y2/\Br (!y2) (P ((List.take 0 (List.drop 0 []),List.take 0 (List.drop 0 []),List.take 0 (List.drop 0 []),false,()),false,())) (((((∃(y3:List Int),Dc.fn (p.1,())=some y3/\(∃(y4:Ej),Gx.fn ((p.1,p.2.1,p.2.2.1,()),y3,())=some y4/\((P ((y4.1,y4.2.1,y4.2.2.1,y4.2.2.2.1,()),y4.2.2.2.1,())/\P ((y4.1,y4.2.1,y4.2.2.1,y4.2.2.2.1,()),y4.2.2.2.1,()))/\P ((y4.1,y4.2.1,y4.2.2.1,y4.2.2.2.1,()),y4.2.2.2.1,()))/\(P ((y4.1,y4.2.1,y4.2.2.1,y4.2.2.2.1,()),y4.2.2.2.1,())/\P ((y4.1,y4.2.1,y4.2.2.1,y4.2.2.2.1,()),y4.2.2.2.1,()))/\P ((y4.1,y4.2.1,y4.2.2.1,y4.2.2.2.1,()),y4.2.2.2.1,()))/\ ∃(y4:Ej),Gx.fn ((p.1,p.2.1,p.2.2.1,()),y3,())=some y4/\((P ((y4.1,y4.2.1,y4.2.2.1,y4.2.2.2.1,()),y4.2.2.2.1,())/\P ((y4.1,y4.2.1,y4.2.2.1,y4.2.2.2.1,()),y4.2.2.2.1,()))/\P ((y4.1,y4.2.1,y4.2.2.1,y4.2.2.2.1,()),y4.2.2.2.1,()))/\(P ((y4.1,y4.2.1,y4.2.2.1,y4.2.2.2.1,()),y4.2.2.2.1,())/\P ((y4.1,y4.2.1,y4.2.2.1,y4.2.2.2.1,()),y4.2.2.2.1,()))/\P ((y4.1,y4.2.1,y4.2.2.1,y4.2.2.2.1,()),y4.2.2.2.1,()))/\ ∃(y3:List Int),Dc.fn (p.1,())=some y3/\ ∃(y4:Ej),Gx.fn ((p.1,p.2.1,p.2.2.1,()),y3,())=some y4/\((P ((y4.1,y4.2.1,y4.2.2.1,y4.2.2.2.1,()),y4.2.2.2.1,())/\P ((y4.1,y4.2.1,y4.2.2.1,y4.2.2.2.1,()),y4.2.2.2.1,()))/\P ((y4.1,y4.2.1,y4.2.2.1,y4.2.2.2.1,()),y4.2.2.2.1,()))/\(P ((y4.1,y4.2.1,y4.2.2.1,y4.2.2.2.1,()),y4.2.2.2.1,())/\P ((y4.1,y4.2.1,y4.2.2.1,y4.2.2.2.1,()),y4.2.2.2.1,()))/\P ((y4.1,y4.2.1,y4.2.2.1,y4.2.2.2.1,()),y4.2.2.2.1,()))/\ ∃(y3:List Int),Dc.fn (p.1,())=some y3/\ ∃(y4:Ej),Gx.fn ((p.1,p.2.1,p.2.2.1,()),y3,())=some y4/\((P ((y4.1,y4.2.1,y4.2.2.1,y4.2.2.2.1,()),y4.2.2.2.1,())/\P ((y4.1,y4.2.1,y4.2.2.1,y4.2.2.2.1,()),y4.2.2.2.1,()))/\P ((y4.1,y4.2.1,y4.2.2.1,y4.2.2.2.1,()),y4.2.2.2.1,()))/\(P ((y4.1,y4.2.1,y4.2.2.1,y4.2.2.2.1,()),y4.2.2.2.1,())/\P ((y4.1,y4.2.1,y4.2.2.1,y4.2.2.2.1,()),y4.2.2.2.1,()))/\P ((y4.1,y4.2.1,y4.2.2.1,y4.2.2.2.1,()),y4.2.2.2.1,()))/\ ∃(y3:List Int),Dc.fn (p.1,())=some y3/\ ∃(y4:Ej),Gx.fn ((p.1,p.2.1,p.2.2.1,()),y3,())=some y4/\((P ((y4.1,y4.2.1,y4.2.2.1,y4.2.2.2.1,()),y4.2.2.2.1,())/\P ((y4.1,y4.2.1,y4.2.2.1,y4.2.2.2.1,()),y4.2.2.2.1,()))/\P ((y4.1,y4.2.1,y4.2.2.1,y4.2.2.2.1,()),y4.2.2.2.1,()))/\(P ((y4.1,y4.2.1,y4.2.2.1,y4.2.2.2.1,()),y4.2.2.2.1,())/\P ((y4.1,y4.2.1,y4.2.2.1,y4.2.2.2.1,()),y4.2.2.2.1,()))/\P ((y4.1,y4.2.1,y4.2.2.1,y4.2.2.2.1,()),y4.2.2.2.1,()))/\((((∃(y3:List Int),Dc.fn (p.1,())=some y3/\(∃(y4:Ej),Gx.fn ((p.1,p.2.1,p.2.2.1,()),y3,())=some y4/\((P ((y4.1,y4.2.1,y4.2.2.1,y4.2.2.2.1,()),y4.2.2.2.1,())/\P ((y4.1,y4.2.1,y4.2.2.1,y4.2.2.2.1,()),y4.2.2.2.1,()))/\P ((y4.1,y4.2.1,y4.2.2.1,y4.2.2.2.1,()),y4.2.2.2.1,()))/\(P ((y4.1,y4.2.1,y4.2.2.1,y4.2.2.2.1,()),y4.2.2.2.1,())/\P ((y4.1,y4.2.1,y4.2.2.1,y4.2.2.2.1,()),y4.2.2.2.1,()))/\P ((y4.1,y4.2.1,y4.2.2.1,y4.2.2.2.1,()),y4.2.2.2.1,()))/\ ∃(y4:Ej),Gx.fn ((p.1,p.2.1,p.2.2.1,()),y3,())=some y4/\((P ((y4.1,y4.2.1,y4.2.2.1,y4.2.2.2.1,()),y4.2.2.2.1,())/\P ((y4.1,y4.2.1,y4.2.2.1,y4.2.2.2.1,()),y4.2.2.2.1,()))/\P ((y4.1,y4.2.1,y4.2.2.1,y4.2.2.2.1,()),y4.2.2.2.1,()))/\(P ((y4.1,y4.2.1,y4.2.2.1,y4.2.2.2.1,()),y4.2.2.2.1,())/\P ((y4.1,y4.2.1,y4.2.2.1,y4.2.2.2.1,()),y4.2.2.2.1,()))/\P ((y4.1,y4.2.1,y4.2.2.1,y4.2.2.2.1,()),y4.2.2.2.1,()))/\ ∃(y3:List Int),Dc.fn (p.1,())=some y3/\ ∃(y4:Ej),Gx.fn ((p.1,p.2.1,p.2.2.1,()),y3,())=some y4/\((P ((y4.1,y4.2.1,y4.2.2.1,y4.2.2.2.1,()),y4.2.2.2.1,())/\P ((y4.1,y4.2.1,y4.2.2.1,y4.2.2.2.1,()),y4.2.2.2.1,()))/\P ((y4.1,y4.2.1,y4.2.2.1,y4.2.2.2.1,()),y4.2.2.2.1,()))/\(P ((y4.1,y4.2.1,y4.2.2.1,y4.2.2.2.1,()),y4.2.2.2.1,())/\P ((y4.1,y4.2.1,y4.2.2.1,y4.2.2.2.1,()),y4.2.2.2.1,()))/\P ((y4.1,y4.2.1,y4.2.2.1,y4.2.2.2.1,()),y4.2.2.2.1,()))/\ ∃(y3:List Int),Dc.fn (p.1,())=some y3/\ ∃(y4:Ej),Gx.fn ((p.1,p.2.1,p.2.2.1,()),y3,())=some y4/\((P ((y4.1,y4.2.1,y4.2.2.1,y4.2.2.2.1,()),y4.2.2.2.1,())/\P ((y4.1,y4.2.1,y4.2.2.1,y4.2.2.2.1,()),y4.2.2.2.1,()))/\P ((y4.1,y4.2.1,y4.2.2.1,y4.2.2.2.1,()),y4.2.2.2.1,()))/\(P ((y4.1,y4.2.1,y4.2.2.1,y4.2.2.2.1,()),y4.2.2.2.1,())/\P ((y4.1,y4.2.1,y4.2.2.1,y4.2.2.2.1,()),y4.2.2.2.1,()))/\P ((y4.1,y4.2.1,y4.2.2.1,y4.2.2.2.1,()),y4.2.2.2.1,()))/\(((∃(y3:List Int),Dc.fn (p.1,())=some y3/\(∃(y4:Ej),Gx.fn ((p.1,p.2.1,p.2.2.1,()),y3,())=some y4/\((P ((y4.1,y4.2.1,y4.2.2.1,y4.2.2.2.1,()),y4.2.2.2.1,())/\P ((y4.1,y4.2.1,y4.2.2.1,y4.2.2.2.1,()),y4.2.2.2.1,()))/\P ((y4.1,y4.2.1,y4.2.2.1,y4.2.2.2.1,()),y4.2.2.2.1,()))/\(P ((y4.1,y4.2.1,y4.2.2.1,y4.2.2.2.1,()),y4.2.2.2.1,())/\P ((y4.1,y4.2.1,y4.2.2.1,y4.2.2.2.1,()),y4.2.2.2.1,()))/\P ((y4.1,y4.2.1,y4.2.2.1,y4.2.2.2.1,()),y4.2.2.2.1,()))/\ ∃(y4:Ej),Gx.fn ((p.1,p.2.1,p.2.2.1,()),y3,())=some y4/\((P ((y4.1,y4.2.1,y4.2.2.1,y4.2.2.2.1,()),y4.2.2.2.1,())/\P ((y4.1,y4.2.1,y4.2.2.1,y4.2.2.2.1,()),y4.2.2.2.1,()))/\P ((y4.1,y4.2.1,y4.2.2.1,y4.2.2.2.1,()),y4.2.2.2.1,()))/\(P ((y4.1,y4.2.1,y4.2.2.1,y4.2.2.2.1,()),y4.2.2.2.1,())/\P ((y4.1,y4.2.1,y4.2.2.1,y4.2.2.2.1,()),y4.2.2.2.1,()))/\P ((y4.1,y4.2.1,y4.2.2.1,y4.2.2.2.1,()),y4.2.2.2.1,()))/\ ∃(y3:List Int),Dc.fn (p.1,())=some y3/\ ∃(y4:Ej),Gx.fn ((p.1,p.2.1,p.2.2.1,()),y3,())=some y4/\((P ((y4.1,y4.2.1,y4.2.2.1,y4.2.2.2.1,()),y4.2.2.2.1,())/\P ((y4.1,y4.2.1,y4.2.2.1,y4.2.2.2.1,()),y4.2.2.2.1,()))/\P ((y4.1,y4.2.1,y4.2.2.1,y4.2.2.2.1,()),y4.2.2.2.1,()))/\(P ((y4.1,y4.2.1,y4.2.2.1,y4.2.2.2.1,()),y4.2.2.2.1,())/\P ((y4.1,y4.2.1,y4.2.2.1,y4.2.2.2.1,()),y4.2.2.2.1,()))/\P ((y4.1,y4.2.1,y4.2.2.1,y4.2.2.2.1,()),y4.2.2.2.1,()))/\(∃(y3:List Int),Dc.fn (p.1,())=some y3/\((∃(y4:Ej),Gx.fn ((p.1,p.2.1,p.2.2.1,()),y3,())=some y4/\((P ((y4.1,y4.2.1,y4.2.2.1,y4.2.2.2.1,()),y4.2.2.2.1,())/\P ((y4.1,y4.2.1,y4.2.2.1,y4.2.2.2.1,()),y4.2.2.2.1,()))/\P ((y4.1,y4.2.1,y4.2.2.1,y4.2.2.2.1,()),y4.2.2.2.1,()))/\(P ((y4.1,y4.2.1,y4.2.2.1,y4.2.2.2.1,()),y4.2.2.2.1,())/\P ((y4.1,y4.2.1,y4.2.2.1,y4.2.2.2.1,()),y4.2.2.2.1,()))/\P ((y4.1,y4.2.1,y4.2.2.1,y4.2.2.2.1,()),y4.2.2.2.1,()))/\ ∃(y4:Ej),Gx.fn ((p.1,p.2.1,p.2.2.1,()),y3,())=some y4/\((P ((y4.1,y4.2.1,y4.2.2.1,y4.2.2.2.1,()),y4.2.2.2.1,())/\P ((y4.1,y4.2.1,y4.2.2.1,y4.2.2.2.1,()),y4.2.2.2.1,()))/\P ((y4.1,y4.2.1,y4.2.2.1,y4.2.2.2.1,()),y4.2.2.2.1,()))/\(P ((y4.1,y4.2.1,y4.2.2.1,y4.2.2.2.1,()),y4.2.2.2.1,())/\P ((y4.1,y4.2.1,y4.2.2.1,y4.2.2.2.1,()),y4.2.2.2.1,()))/\P ((y4.1,y4.2.1,y4.2.2.1,y4.2.2.2.1,()),y4.2.2.2.1,()))/\ ∃(y4:Ej),Gx.fn ((p.1,p.2.1,p.2.2.1,()),y3,())=some y4/\((P ((y4.1,y4.2.1,y4.2.2.1,y4.2.2.2.1,()),y4.2.2.2.1,())/\P ((y4.1,y4.2.1,y4.2.2.1,y4.2.2.2.1,()),y4.2.2.2.1,()))/\P ((y4.1,y4.2.1,y4.2.2.1,y4.2.2.2.1,()),y4.2.2.2.1,()))/\(P ((y4.1,y4.2.1,y4.2.2.1,y4.2.2.2.1,()),y4.2.2.2.1,())/\P ((y4.1,y4.2.1,y4.2.2.1,y4.2.2.2.1,()),y4.2.2.2.1,()))/\P ((y4.1,y4.2.1,y4.2.2.1,y4.2.2.2.1,()),y4.2.2.2.1,()))/\(∃(y3:List Int),Dc.fn (p.1,())=some y3/\ ∃(y4:Ej),Gx.fn ((p.1,p.2.1,p.2.2.1,()),y3,())=some y4/\((P ((y4.1,y4.2.1,y4.2.2.1,y4.2.2.2.1,()),y4.2.2.2.1,())/\P ((y4.1,y4.2.1,y4.2.2.1,y4.2.2.2.1,()),y4.2.2.2.1,()))/\P ((y4.1,y4.2.1,y4.2.2.1,y4.2.2.2.1,()),y4.2.2.2.1,()))/\(P ((y4.1,y4.2.1,y4.2.2.1,y4.2.2.2.1,()),y4.2.2.2.1,())/\P ((y4.1,y4.2.1,y4.2.2.1,y4.2.2.2.1,()),y4.2.2.2.1,()))/\P ((y4.1,y4.2.1,y4.2.2.1,y4.2.2.2.1,()),y4.2.2.2.1,()))/\ ∃(y3:List Int),Dc.fn (p.1,())=some y3/\ ∃(y4:Ej),Gx.fn ((p.1,p.2.1,p.2.2.1,()),y3,())=some y4/\((P ((y4.1,y4.2.1,y4.2.2.1,y4.2.2.2.1,()),y4.2.2.2.1,())/\P ((y4.1,y4.2.1,y4.2.2.1,y4.2.2.2.1,()),y4.2.2.2.1,()))/\P ((y4.1,y4.2.1,y4.2.2.1,y4.2.2.2.1,()),y4.2.2.2.1,()))/\(P ((y4.1,y4.2.1,y4.2.2.1,y4.2.2.2.1,()),y4.2.2.2.1,())/\P ((y4.1,y4.2.1,y4.2.2.1,y4.2.2.2.1,()),y4.2.2.2.1,()))/\P ((y4.1,y4.2.1,y4.2.2.1,y4.2.2.2.1,()),y4.2.2.2.1,()))/\(∃(y3:List Int),Dc.fn (p.1,())=some y3/\ ∃(y4:Ej),Gx.fn ((p.1,p.2.1,p.2.2.1,()),y3,())=some y4/\((P ((y4.1,y4.2.1,y4.2.2.1,y4.2.2.2.1,()),y4.2.2.2.1,())/\P ((y4.1,y4.2.1,y4.2.2.1,y4.2.2.2.1,()),y4.2.2.2.1,()))/\P ((y4.1,y4.2.1,y4.2.2.1,y4.2.2.2.1,()),y4.2.2.2.1,()))/\(P ((y4.1,y4.2.1,y4.2.2.1,y4.2.2.2.1,()),y4.2.2.2.1,())/\P ((y4.1,y4.2.1,y4.2.2.1,y4.2.2.2.1,()),y4.2.2.2.1,()))/\P ((y4.1,y4.2.1,y4.2.2.1,y4.2.2.2.1,()),y4.2.2.2.1,()))/\(∃(y3:List Int),Dc.fn (p.1,())=some y3/\ ∃(y4:Ej),Gx.fn ((p.1,p.2.1,p.2.2.1,()),y3,())=some y4/\((P ((y4.1,y4.2.1,y4.2.2.1,y4.2.2.2.1,()),y4.2.2.2.1,())/\P ((y4.1,y4.2.1,y4.2.2.1,y4.2.2.2.1,()),y4.2.2.2.1,()))/\P ((y4.1,y4.2.1,y4.2.2.1,y4.2.2.2.1,()),y4.2.2.2.1,()))/\(P ((y4.1,y4.2.1,y4.2.2.1,y4.2.2.2.1,()),y4.2.2.2.1,())/\P ((y4.1,y4.2.1,y4.2.2.1,y4.2.2.2.1,()),y4.2.2.2.1,()))/\P ((y4.1,y4.2.1,y4.2.2.1,y4.2.2.2.1,()),y4.2.2.2.1,()))/\ ∃(y3:List Int),Dc.fn (p.1,())=some y3/\ ∃(y4:Ej),Gx.fn ((p.1,p.2.1,p.2.2.1,()),y3,())=some y4/\((P ((y4.1,y4.2.1,y4.2.2.1,y4.2.2.2.1,()),y4.2.2.2.1,())/\P ((y4.1,y4.2.1,y4.2.2.1,y4.2.2.2.1,()),y4.2.2.2.1,()))/\P ((y4.1,y4.2.1,y4.2.2.1,y4.2.2.2.1,()),y4.2.2.2.1,()))/\(P ((y4.1,y4.2.1,y4.2.2.1,y4.2.2.2.1,()),y4.2.2.2.1,())/\P ((y4.1,y4.2.1,y4.2.2.1,y4.2.2.2.1,()),y4.2.2.2.1,()))/\P ((y4.1,y4.2.1,y4.2.2.1,y4.2.2.2.1,()),y4.2.2.2.1,()))/\(∃(y3:List Int),Dc.fn (p.1,())=some y3/\ ∃(y4:Ej),Gx.fn ((p.1,p.2.1,p.2.2.1,()),y3,())=some y4/\((P ((y4.1,y4.2.1,y4.2.2.1,y4.2.2.2.1,()),y4.2.2.2.1,())/\P ((y4.1,y4.2.1,y4.2.2.1,y4.2.2.2.1,()),y4.2.2.2.1,()))/\P ((y4.1,y4.2.1,y4.2.2.1,y4.2.2.2.1,()),y4.2.2.2.1,()))/\(P ((y4.1,y4.2.1,y4.2.2.1,y4.2.2.2.1,()),y4.2.2.2.1,())/\P ((y4.1,y4.2.1,y4.2.2.1,y4.2.2.2.1,()),y4.2.2.2.1,()))/\P ((y4.1,y4.2.1,y4.2.2.1,y4.2.2.2.1,()),y4.2.2.2.1,()))/\(∃(y3:List Int),Dc.fn (p.1,())=some y3/\ ∃(y4:Ej),Gx.fn ((p.1,p.2.1,p.2.2.1,()),y3,())=some y4/\((P ((y4.1,y4.2.1,y4.2.2.1,y4.2.2.2.1,()),y4.2.2.2.1,())/\P ((y4.1,y4.2.1,y4.2.2.1,y4.2.2.2.1,()),y4.2.2.2.1,()))/\P ((y4.1,y4.2.1,y4.2.2.1,y4.2.2.2.1,()),y4.2.2.2.1,()))/\(P ((y4.1,y4.2.1,y4.2.2.1,y4.2.2.2.1,()),y4.2.2.2.1,())/\P ((y4.1,y4.2.1,y4.2.2.1,y4.2.2.2.1,()),y4.2.2.2.1,()))/\P ((y4.1,y4.2.1,y4.2.2.1,y4.2.2.2.1,()),y4.2.2.2.1,()))/\(∃(y3:List Int),Dc.fn (p.1,())=some y3/\ ∃(y4:Ej),Gx.fn ((p.1,p.2.1,p.2.2.1,()),y3,())=some y4/\((P ((y4.1,y4.2.1,y4.2.2.1,y4.2.2.2.1,()),y4.2.2.2.1,())/\P ((y4.1,y4.2.1,y4.2.2.1,y4.2.2.2.1,()),y4.2.2.2.1,()))/\P ((y4.1,y4.2.1,y4.2.2.1,y4.2.2.2.1,()),y4.2.2.2.1,()))/\(P ((y4.1,y4.2.1,y4.2.2.1,y4.2.2.2.1,()),y4.2.2.2.1,())/\P ((y4.1,y4.2.1,y4.2.2.1,y4.2.2.2.1,()),y4.2.2.2.1,()))/\P ((y4.1,y4.2.1,y4.2.2.1,y4.2.2.2.1,()),y4.2.2.2.1,()))/\ ∃(y3:List Int),Dc.fn (p.1,())=some y3/\ ∃(y4:Ej),Gx.fn ((p.1,p.2.1,p.2.2.1,()),y3,())=some y4/\((P ((y4.1,y4.2.1,y4.2.2.1,y4.2.2.2.1,()),y4.2.2.2.1,())/\P ((y4.1,y4.2.1,y4.2.2.1,y4.2.2.2.1,()),y4.2.2.2.1,()))/\P ((y4.1,y4.2.1,y4.2.2.1,y4.2.2.2.1,()),y4.2.2.2.1,()))/\(P ((y4.1,y4.2.1,y4.2.2.1,y4.2.2.2.1,()),y4.2.2.2.1,())/\P ((y4.1,y4.2.1,y4.2.2.1,y4.2.2.2.1,()),y4.2.2.2.1,()))/\P ((y4.1,y4.2.1,y4.2.2.1,y4.2.2.2.1,()),y4.2.2.2.1,())))=fnW Fu (look [(63,Il),(96,Dc),(126,Gx)]) Za Tryz.f114 (p,()) P:=by kernel_rfl
theorem VZ (xs is:List Int) (P:List Int->Prop):(((0:Int)<=(↑is.length:Int)/\(↑is.length:Int)<(↑Dk:Int)+(1:Int))/\(↑is.length:Int)=(↑is.length:Int)/\0=0/\(List.replicate (↑is.length:Int).toNat (Int.ofNat (nat_lit 0))).length=(List.replicate (↑is.length:Int).toNat (Int.ofNat (nat_lit 0))).length/\Dn (λ(v3:Int×List Int×PUnit) (k4:Int×List Int×PUnit->Prop)=>Br (decide (v3.1<(↑is.length:Int))) (∃(y5:Int),idx is v3.1=some y5/\ ∃(y6:Int),idx xs y5=some y6/\((0:Int)<=v3.1/\v3.1<(↑v3.2.1.length:Int))/\0+v3.1.toNat<v3.2.1.length/\0=0/\v3.2.1.length=(v3.2.1.set (0+v3.1.toNat) y6).length/\k4 (IntKind.i64.wrap (v3.1+(1:Int)),v3.2.1.set (0+v3.1.toNat) y6,())) (P (List.take v3.2.1.length (List.drop 0 v3.2.1)))) ((0:Int),List.replicate (↑is.length:Int).toNat (Int.ofNat (nat_lit 0)),PUnit.unit))=fnW Fu (look []) bC Tryz.f79 (xs,is,()) P:=by kernel_rfl
theorem xE {p:List Int} (h:bH p):Kj p=true:=by
 refine Iq.2 ⟨h.pos,h.len,λj h1 h2=>?_⟩
 have:=h.row _ (Ak h2)
 exact ⟨by omega,by omega,λhm=>by
  obtain ⟨i,hi,e⟩:=Bf.1 hm
  have kR:i<j:=by rw [Dj] at hi;omega
  rw [List.getElem_take] at e
  exact (Ek.1 h.nodup i j (by omega) h2 kR) e⟩
theorem Fe {p:PP} (hw:Gp p=true):Bt p=true/\(Gq p.2.2.1 (upto p.1.toNat)).2.2=true:=Bj.1 hw
theorem gy {p:PP} (hv:Bt p=true):Ve p p.1.toNat (Ba p) (Dh p):=(jF hv).ok
theorem nK {p:PP} (hV:Valid p):RO p.1.toNat λg=>some g∈p.2.2.1.map some:=
 ⟨by have:=hV.n;omega,λg gR=>by obtain ⟨g',e,h⟩:=o6 (iT hV).2.2 _ gR;cases e;exact h⟩
theorem ym {p:PP} (hv:Bt p=true) {x:List Int} (hx:x∈Ba p):Pm p.1.toNat x:=dt.pm (nK (valid hv)) ((jF hv).gen x hx)
theorem MK {p:PP} (hV:Valid p) {x:List Int} (h:Pm p.1.toNat x):Hv p.1 x=true:=by
 have:=hV.n
 have:=h.1
 exact Iq.2 ⟨by omega,xE h.2⟩
theorem XU {p:PP} (_hV:Valid p) {x:List Int} (h:Hv p.1 x=true):Pm p.1.toNat x:=by
 obtain ⟨h1,h2⟩:=Iq.1 h
 exact ⟨by omega,dK h2⟩
theorem Ajh {p:PP} (hv:Bt p=true) {x:List Int} (hx:x∈Ba p):Hv p.1 x=true:=MK (valid hv) (ym hv hx)
theorem jz {n:Nat} {x:List Int} (h:Pm n x):short x:=by
 have h1:=h.1
 have:=h.n2
 unfold short;omega
theorem bp {p:PP} {s:List Int} :Ql p s=true↔Gp p=true/\s∈Ba p:=by
 unfold Ql;rw [Af,Ky]
theorem MG (p:PP) (h:Eo p):fnW Fu (look [(63,Il),(96,Dc),(126,Gx)]) Za Tryz.f114 (p,()) (λ(z:SS×Bool×Unit)=>z=Cm p):=by
 refine Eq.mp (OP p _) ⟨_,Ab h,?_⟩
 show Br (!Bt p) _ _
 unfold Cm
 by_cases hv:Bt p=true
 ·rw [Ab hv,hv]
  refine ⟨λhb=>by simp at hb,λ_=>?_⟩
  have hn:=(valid hv).n
  have YH:Dc.fn (p.1,())=some (upto p.1.toNat):=Ab ⟨by show 0<=p.1;omega,by show p.1<=20;omega⟩
  have QH: ∀y∈upto p.1.toNat,0<=y/\y<p.1:= λy hy=>by have:=Qw.1 hy;omega
  have z0:Gx.fn ((p.1,p.2.1,p.2.2.1,()),upto p.1.toNat,())=some (Gr p.2.2.1 (upto p.1.toNat)):=Ab ⟨hv,by show (upto p.1.toNat).length<=20;rw [Sw];omega,QH⟩
  have hz:(((Gr p.2.2.1 (upto p.1.toNat)).1,(Gr p.2.2.1 (upto p.1.toNat)).2.1,(Gr p.2.2.1 (upto p.1.toNat)).2.2.1,(Gr p.2.2.1 (upto p.1.toNat)).2.2.2.1,()),(Gr p.2.2.1 (upto p.1.toNat)).2.2.2.1,())=(Gr p.2.2.1 (upto p.1.toNat),Gp p,()):=by
   unfold Gp
   rw [hv,Nr]
   rfl
  repeat' (first|exact hz|refine ⟨_,YH,?_⟩|refine ⟨_,z0,?_⟩|refine ⟨?_,?_⟩)
 ·rw [Ai hv]
  refine ⟨λ_=>rfl,λhb=>?_⟩
  exact absurd (by simpa using hb) hv
theorem uS:Sound Tryz.prog 114 Za:=
 Sound.Gw Dq (Ax Ze (Ax Wz (Ax qO Bn))) mixed Tryz.func114 (by kernel_rfl) (by kernel_rfl) λx h=>MG x.1 h
theorem Ah6 {b:Bool} (h:(!b)=true):b=false:=by cases b<;>simp_all
theorem UB (xs is:List Int) (h:short is/\Of xs.length is):fnW Fu (look []) bC Tryz.f79 (xs,is,()) (λ(z:List Int)=>z=Eg xs is):=by
 obtain ⟨h,hr⟩:=h
 unfold short at h
 have Qj:(Eg xs is).length=is.length:=GS xs is
 refine Eq.mp (VZ xs is _) ⟨⟨by omega,by show (is.length:Int)<(4294967296:Int)+1;omega⟩,rfl,rfl,rfl,?_⟩
 refine Bu is.length (λv=>v.1) (λj v=>v.2.1.length=(Eg xs is).length/\v.2.1.take j=(Eg xs is).take j) rfl ⟨by rw [Qj];simp,by simp⟩ ?_
 rintro j ⟨i,ys,⟨⟩⟩ K hj hi ⟨h1,h2⟩ hK
 dsimp only at hi h1 h2⊢
 subst hi
 refine Br.dec (λhl=>?_) λhl=>?_
 ·have hl:j<is.length:=by omega
  have hx:=hr _ (Ak hl)
  obtain ⟨xn,hxe⟩:=Mw hx.1
  have Mc:j<(Eg xs is).length:=by rw [Qj];exact hl
  have e:xs[xn]'(by omega)=(Eg xs is)[j]:=by
   simp only [Eg,fg,Ih,hxe,Au]
   rw [Hm]
  refine ⟨_,Cf hl,xs[xn]'(by omega),by rw [hxe];exact Cf (by omega),⟨by omega,by omega⟩,by rw [Au,Ce];omega,rfl,by rw [Df],?_⟩
  rw [Bv (by omega),Au,Ce,e]
  refine hK hl _ rfl ⟨by rw [Df];exact h1,?_⟩
  rw [Hb,List.take_set_of_le (by omega),h2,List.getElem?_set_self (by omega),Hb,Ac Mc]
 ·have:j=is.length:=by omega
  subst this
  rw [Cc,<-Bd (l:=ys),h1,Qj,h2,<-Qj,Bd]
theorem wE:Sound Tryz.prog 79 bC:=
 Sound.Gw Dq Bn mixed Tryz.func79 (by kernel_rfl) (by kernel_rfl) λx h=>UB x.1 x.2.1 h
theorem Ab0 {p:PP} (hv:Bt p=true):(Ba p).length<=3000:=(gy hv).ok.fG
theorem si {p:PP} {t s:List Int} (hv:Bt p=true) (hs:s∈Ba p) (ht:Em p t=true):Of s.length t:=by
 have h1:=(ym hv hs).1
 have hn:=(valid hv).n
 intro y hy
 have:=(Hg ht).2 y hy
 omega
def Je (g:List (List Int)) (s w:List Int):List Int:=w.foldl (λq l=>Ag q (An g l)) s
noncomputable abbrev Yt:Spec:=Gw (.pair tI (.pair lO (.pair tL .unit))) tL false true (λx=> ∃p:PP,Bt p=true/\p.1=x.1/\p.2.2.1=x.2.1/\Is (List.length x.2.1:Nat) x.2.2.1=true) (λx=>Je x.2.1 (upto x.1.toNat) x.2.2.1)
noncomputable abbrev eO:Spec:=Gw (.pair Hq (.pair tL (.pair tL .unit))) tL false false (λx=>Bt x.1=true/\Pm x.1.1.toNat x.2.1/\Is (List.length x.1.2.2.1:Nat) x.2.2.1=true) (λx=>Je x.1.2.2.1 x.2.1 x.2.2.1)
abbrev uZ:Type:=List Int×Int×Int×ByteArray×List (List Int)×PUnit
theorem VQ (p:Int×ByteArray×List (List Int)×Unit) (s w:List Int) (P:List Int->Prop):(∃(y4:List Int),Iu.fn (s,())=some y4/\Dn (λ(v5:uZ) (k6:uZ->Prop)=>Br (decide (v5.2.1<(↑w.length:Int))) (∃(y7:Int),idx w v5.2.1=some y7/\ ∃(y8:List Int),Qy.fn ((v5.2.2.1,v5.2.2.2.1,v5.2.2.2.2.1,()),v5.1,y7,())=some y8/\k6 (y8,IntKind.i64.wrap (v5.2.1+(1:Int)),v5.2.2.1,v5.2.2.2.1,v5.2.2.2.2.1,())) (P v5.1)) (y4,(0:Int),p.1,p.2.1,p.2.2.1,PUnit.unit))=fnW Fu (look [(68,Iu),(66,Qy)]) eO Tryz.f108 (p,s,w,()) P:=by kernel_rfl
theorem kD {p:PP} (hV:Valid p) {l:Int} (hl:Fo (List.length p.2.2.1) l):Pm p.1.toNat (An p.2.2.1 l):=by
 have hn:=hV.n
 obtain ⟨k,hk,Tb⟩:=Og hl
 have hp:Pm p.1.toNat (p.2.2.1[k]):=⟨by have:=hV.len _ (Ak hk);omega,dK (hV.perm _ (Ak hk))⟩
 rcases Tb with rfl|rfl
 ·rw [Ou hk];exact hp
 ·rw [Ot hk];exact hp.inv
theorem iL {p:PP} (hV:Valid p): ∀(w s:List Int),(∀l∈w,Fo (List.length p.2.2.1) l)->Pm p.1.toNat s->Pm p.1.toNat (Je p.2.2.1 s w)
 | [],s,_,hs=>hs
 |l::w,s,hl,hs=>by
  have h1:=kD hV (hl l (by simp))
  exact iL hV w _ (λl' h=>hl l' (Ao _ h)) (hs.comp h1)
theorem q7 {p:PP} (hV:Valid p) {s:List Int} (hs:Pm p.1.toNat s): ∀(w q:List Int),(∀l∈w,Fo (List.length p.2.2.1) l)->Pm p.1.toNat q->Ag s (Je p.2.2.1 q w)=Je p.2.2.1 (Ag s q) w
 | [],q,_,_=>rfl
 |l::w,q,hl,hq=>by
  have h1:=kD hV (hl l (by simp))
  have h2:=q7 hV hs w _ (λl' h=>hl l' (Ao _ h)) (hq.comp h1)
  show Ag s (Je p.2.2.1 (Ag q (An p.2.2.1 l)) w)=Je p.2.2.1 (Ag (Ag s q) (An p.2.2.1 l)) w
  rw [h2,Kh hs hq h1]
theorem sF {g:List (List Int)} {s w:List Int} {j:Nat} (h:j<w.length):Je g s (w.take (j+1))=Ag (Je g s (w.take j)) (An g w[j]):=by
 unfold Je
 rw [Hb,Ac h,Tw,cD]
 rfl
theorem ML {n:Nat} {q:List Int} (h:Pm n q):q.length<=20:=by have:=h.1;have:=h.n2;omega
theorem GV {n:Nat} {p q:List Int} (hp:Pm n p) (hq:Pm n q):Of q.length p:=by rw [hq.1];exact hp.row
theorem Aam {p:PP} (hV:Valid p) {q:List Int} (h:Pm p.1.toNat q): ∀y∈q,0<=y/\y<p.1:= λy hy=>by
 have:=h.row y hy
 have:=hV.n
 omega
theorem TR (p:PP) (s w:List Int) (h:Bt p=true/\Pm p.1.toNat s/\Is (List.length p.2.2.1:Nat) w=true):fnW Fu (look [(68,Iu),(66,Qy)]) eO Tryz.f108 (p,s,w,()) (λ(z:List Int)=>z=Je p.2.2.1 s w):=by
 obtain ⟨hv,hs,hw⟩:=h
 have hV:=valid hv
 obtain ⟨w1,w2⟩:=Uj hw
 refine Eq.mp (VQ p s w _) ⟨_,Ab (jz hs),?_⟩
 refine Bu w.length (λv=>v.2.1) (λj v=>v=(Je p.2.2.1 s (w.take j),(j:Int),p.1,p.2.1,p.2.2.1,())) rfl rfl ?_
 rintro j v K hj hi hR hK
 subst hR
 dsimp only
 have hq:=iL hV (w.take j) _ (λl hl=>w2 l (Fy hl)) hs
 refine Br.dec (λhl=>?_) λhl=>?_
 ·have hl:j<w.length:=by omega
  have mu:=w2 _ (Ak hl)
  refine ⟨_,Cf hl,_,Ab ⟨hv,ML hq,Aam hV hq,mu⟩,?_⟩
  rw [Bv (by omega)]
  refine hK hl _ rfl ?_
  rw [sF hl]
 ·have:j=w.length:=by omega
  subst this
  rw [Bd]
theorem wy:Sound Tryz.prog 108 eO:=
 Sound.Gw Dq (Ax Wy (Ax gr Bn)) mixed Tryz.func108 (by kernel_rfl) (by kernel_rfl) λx h=>TR x.1 x.2.1 x.2.2.1 h
theorem map_take {α β:Type} (f:α->β) {xs:List α} {j:Nat} (h:j<xs.length):(xs.take (j+1)).map f=(xs.take j).map f++ [f xs[j]]:=by
 rw [Hb,Ac h,Mk];rfl
theorem Vu {p:PP} (hw:Gp p=true):fi p.2.2.1 (Av p.2.2.1.length) (Ba p):=by
 obtain ⟨hv,hb⟩:=Fe hw
 have hV:=valid hv
 have hn:=hV.n
 exact dB hV (gy hv) (fu hv (by rw [Sw];omega) (λy hy=>by have:=Qw.1 hy;omega) hb)
theorem yl {p:PP} (hw:Gp p=true):oR p.2.2.1 (Av p.2.2.1.length) (Ba p) (Dh p):=by
 obtain ⟨hv,hb⟩:=Fe hw
 have hn:=(valid hv).n
 exact fu hv (by rw [Sw];omega) (λy hy=>by have:=Qw.1 hy;omega) hb
theorem AW {p:PP} (hw:Gp p=true) (Q:List Int->Prop) (hQ: ∀x∈Ba p,Q x-> ∀l∈Av p.2.2.1.length,Q (Ag x (An p.2.2.1 l))) {x:List Int} (hx:x∈Ba p) (hq:Q x):
  ∀y∈Ba p,Q y:=by
 have hc:=Vu hw
 have hL:=yl hw
 have up: ∀(j:Nat),j<(Ba p).length->Q ((Ba p).getD j [])->Q ((Ba p).getD 0 []):=by
  intro j
  induction j using Nat.strongRecOn with
  |_ j ih=>
   intro hj hqj
   by_cases e:j=0
   ·subst e;exact hqj
   ·obtain ⟨i,l,h1,h2,h3,_⟩:=hL.par j (by omega) hj
    have hi:i<(Ba p).length:=by omega
    obtain ⟨b1,b2⟩:=hc.back _ (Wi hi) l h2
    refine ih i h1 hi ?_
    have:=hQ _ (Wi hj) hqj _ b1
    rwa [h3,b2] at this
 have down:Q ((Ba p).getD 0 [])-> ∀(j:Nat),j<(Ba p).length->Q ((Ba p).getD j []):=by
  intro h0 j
  induction j using Nat.strongRecOn with
  |_ j ih=>
   intro hj
   by_cases e:j=0
   ·subst e;exact h0
   ·obtain ⟨i,l,h1,h2,h3,_⟩:=hL.par j (by omega) hj
    have hi:i<(Ba p).length:=by omega
    rw [h3]
    exact hQ _ (Wi hi) (ih i h1 hi) l h2
 obtain ⟨j,hj,rfl⟩:=Bf.1 hx
 rw [<-Hm (d:= []) hj] at hq
 intro y hy
 obtain ⟨k,hk,rfl⟩:=Bf.1 hy
 rw [<-Hm (d:= []) hk]
 exact down (up j hj hq) k hk
theorem Pq {s q t:List Int} (h:Of s.length t):Eg (Ag s q) t=Ag (Eg s t) q:=by
 unfold Eg Ag
 rw [List.map_map]
 refine Eu λy hy=>?_
 obtain ⟨h1,h2⟩:=h y hy
 have hy':y.toNat<s.length:=by omega
 show Ih (s.map (Ih q)) y=Ih q (Ih s y)
 unfold Ih
 rw [Hm (by rw [Gf];exact hy'),fg,Hm hy']
 try rfl
theorem kF {n:Nat} {t:List Int} (h: ∀y∈t,0<=y/\y<(n:Int)):Eg (upto n) t=t:=by
 unfold Eg
 refine (Eu λy hy=>?_).trans (List.map_id t)
 obtain ⟨h1,h2⟩:=h y hy
 obtain ⟨k,rfl⟩:=Mw h1
 have hk:k<n:=by omega
 show Ih (upto n) (k:Int)=(k:Int)
 unfold Ih
 rw [Au,Aj,kb hk]
 rfl
theorem sat_iff {goal s:List Int} :QP goal s=true↔Eg s goal=goal:=by
 unfold QP Eg
 rw [Az]
 constructor
 ·intro h
  exact (Eu λy hy=>Jg (h y hy)).trans (List.map_id goal)
 ·intro h y hy
  obtain ⟨j,hj,rfl⟩:=Bf.1 hy
  have h2:(goal.map (Ih s))[j]?=goal[j]?:=Ga (λz:List Int=>z[j]?) h
  rw [Ff,Ac hj] at h2
  exact Co (Bc h2)
theorem Si {p:PP} (hv:Bt p=true):(Ba p).getD 0 []=upto p.1.toNat/\upto p.1.toNat∈Ba p:=by
 obtain ⟨A,h⟩:=(jF hv).first
 have h:Ba p=upto p.1.toNat::A:=h
 rw [h]
 exact ⟨rfl,by simp⟩
noncomputable def cc (p:PP) (t:List Int):List (List Int):=(Gq p.2.2.1 t).1
noncomputable def zt (p:PP) (t:List Int):List Int:=(Gq p.2.2.1 t).2.1
noncomputable def FH (p:PP) (t x:List Int):Int:=Lo (cc p t) (zt p t) x
theorem dk {p:PP} {t:List Int} (ht:Em p t=true): ∀y∈t,0<=y/\y<((p.1.toNat:Nat):Int):= λy hy=>by
 have h1:=(Hg ht).2 y hy
 have:=(valid (Su.1 ht).1).n
 omega
theorem UG {p:PP} {t:List Int} (hw:Gp p=true) (ht:Em p t=true):(Gq p.2.2.1 t).2.2=true:=by
 have hv:=(Fe hw).1
 have hV:=valid hv
 obtain ⟨t1,t2⟩:=Hg ht
 have dX:=mJ ht
 obtain ⟨a1,_,a3⟩:=OX hv t1 t2 (λx=> ∃s∈Ba p,x=Eg s t) ⟨_,(Si hv).2,(kF (dk ht)).symm⟩ λx ⟨s,hs,hx⟩ l hl=>by
  refine ⟨_,(Vu hw).next s hs l hl,?_⟩
  rw [hx,Pq (si hv hs ht)]
 refine Bx λhn=>?_
 obtain ⟨h1,z,⟨s,hs,hz⟩,h3⟩:=a3 (by simpa using hn)
 have h5:=u6 (l1:=z::(Gq p.2.2.1 t).1) (l2:=(Ba p).map λs=>Eg s t) (Cd.2 ⟨h3,dX.ok.nodup⟩) λx hx=>by
  rcases Bg.1 hx with rfl|hx
  ·exact Bi.2 ⟨s,hs,hz.symm⟩
  ·obtain ⟨s',EM,e⟩:=a1 x hx
   exact Bi.2 ⟨s',EM,e.symm⟩
 have h6:=Ab0 hv
 simp only [Ay,Gf] at h5
 omega
theorem ug {p:PP} {t:List Int} (hw:Gp p=true) (ht:Em p t=true):oR p.2.2.1 (Av p.2.2.1.length) (cc p t) (zt p t):=
 fu (Fe hw).1 (Hg ht).1 (Hg ht).2 (UG hw ht)
theorem pB {p:PP} {t:List Int} (ht:Em p t=true):(cc p t).getD 0 []=t/\t∈cc p t:=by
 obtain ⟨_,A,h⟩:=yI (Su.1 ht).1 (Hg ht).1 (Hg ht).2
 have h:cc p t=t::A:=h
 rw [h]
 exact ⟨rfl,by simp⟩
theorem Aal {p:PP} {t:List Int} (hw:Gp p=true) (ht:Em p t=true): ∀s∈Ba p,Eg s t∈cc p t:=by
 have hv:=(Fe hw).1
 have hc:=dB (valid hv) (mJ ht) (ug hw ht)
 refine AW hw (λs=>Eg s t∈cc p t) (λx hx hq l hl=>?_) (Si hv).2 ?_
 ·rw [Pq (si hv hx ht)]
  exact hc.next _ hq l hl
 ·rw [kF (dk ht)]
  exact (pB ht).2
theorem Aak {p:PP} {t:List Int} (hw:Gp p=true) (ht:Em p t=true):
  Mm p.2.2.1 (Av p.2.2.1.length) (Ba p) (λs=>QP t s=true) (λs=>FH p t (Eg s t)):=by
 have hv:=(Fe hw).1
 have hd:=qx (valid hv) (mJ ht) (ug hw ht)
 have iu:=Aal hw ht
 refine ⟨λx hx=>hd.nn _ (iu x hx),λx hx=>(hd.zero _ (iu x hx)).trans ?_,λx hx l hl=>?_,λx hx h0=>?_⟩
 ·rw [show (Gq p.2.2.1 t).1.getD 0 []=t from (pB ht).1]
  exact sat_iff.symm
 ·rw [Pq (si hv hx ht)]
  exact hd.step _ (iu x hx) l hl
 ·obtain ⟨l,hl,h1⟩:=hd.down _ (iu x hx) h0
  refine ⟨l,hl,?_⟩
  rw [Pq (si hv hx ht)]
  exact h1
theorem Aio {p:PP} {t:List Int} (ht:Em p t=true):QP t (upto p.1.toNat)=true:=sat_iff.2 (kF (dk ht))
def eY (g:List (List Int)) (dep:List Int->Int) (ls:List Int):Nat->List Int->List Int->List Int×List Int
 |0,x,w=>(w,x)
 |n+1,x,w=>match ls.find? (λl=>decide (dep (Ag x (An g l))=n)) with
  |some l=>eY g dep ls n (Ag x (An g l)) (w++ [l])
  |none=>eY g dep ls n x w
noncomputable abbrev bu:Spec:=Gw (.pair Zr (.pair tL .unit)) tI false true (λx=>Fm (List.length x.2.1) x.1.1 x.1.2.2.1/\List.length x.1.2.1=List.length x.1.1) (λx=>Lo x.1.1 x.1.2.1 x.2.1)
theorem VR (f:List (List Int)×List Int×List Int×Bool×Unit) (s:List Int) (P:Int->Prop):(∃(y3:Int),Lr.fn ((f.1,f.2.1,f.2.2.1,f.2.2.2.1,()),s,())=some y3/\Br (decide (y3<(0:Int))) (P (-1:Int)) (∃(y4:Int),idx f.2.1 y3=some y4/\P y4))=fnW Fu (look [(75,Lr)]) bu Tryz.f115 (f,s,()) P:=by kernel_rfl
theorem TS (f:SS) (s:List Int) (h:Fm (List.length s) f.1 f.2.2.1/\List.length f.2.1=List.length f.1):fnW Fu (look [(75,Lr)]) bu Tryz.f115 (f,s,()) (λ(z:Int)=>z=Lo f.1 f.2.1 s):=by
 obtain ⟨h1,h2⟩:=h
 refine Eq.mp (VR f s _) ⟨_,Ab h1,?_⟩
 show Br (decide (eH f.1 s<0)) _ _
 unfold eH Lo
 by_cases hm:s∈f.1
 ·have hl:=My hm
  rw [Ab hm,Ab hm]
  refine Br.dec (λhn=>absurd hn (by omega)) λ_=>?_
  have tz:List.idxOf s f.1<f.2.1.length:=by omega
  refine ⟨f.2.1[List.idxOf s f.1],?_,by rw [Hm tz]⟩
  show idx f.2.1 (if s∈f.1 then ((List.idxOf s f.1:Nat):Int) else-1)=_
  rw [Ab hm]
  exact Cf tz
 ·rw [Ai hm,Ai hm]
  exact ⟨λ_=>rfl,λhn=>by simp at hn⟩
theorem wz:Sound Tryz.prog 115 bu:=
 Sound.Gw Dq (Ax bg Bn) mixed Tryz.func115 (by kernel_rfl) (by kernel_rfl) λx h=>TS x.1 x.2.1 h
noncomputable def Wp (p:PP) (s:List Int):List Int:=(eY p.2.2.1 (Lo (Ba p) (Dh p)) (Av p.2.2.1.length) (Lo (Ba p) (Dh p) s).toNat s []).1
theorem Ub {p:PP} (hw:Gp p=true):Mm p.2.2.1 (Av p.2.2.1.length) (Ba p) (λx=>x=(Ba p).getD 0 []) (Lo (Ba p) (Dh p)):=
 qx (valid (Fe hw).1) (gy (Fe hw).1) (yl hw)
theorem xk {p:PP} (hw:Gp p=true) {x:List Int} (hx:x∈Ba p):0<=Lo (Ba p) (Dh p) x/\Lo (Ba p) (Dh p) x<=3000:=by
 have dX:=gy (Fe hw).1
 have mq:=dX.ok.fG
 refine ⟨(Ub hw).nn x hx,?_⟩
 obtain ⟨i,hi,rfl⟩:=Bf.1 hx
 have hiD:i<(Dh p).length:=by rw [dX.len];exact hi
 have h1:=dX.dep i hiD
 have h2:Lo (Ba p) (Dh p) ((Ba p)[i])=(Dh p).getD i 0:=by
  rw [<-Hm (d:= []) hi];exact fD dX.ok.nodup hi
 rw [h2,Hm hiD]
 omega
theorem mR {g:List (List Int)} {dep:List Int->Int} {ls:List Int} : ∀(n:Nat) (x w:List Int),(∀l∈w,l∈ls)-> ∀l∈(eY g dep ls n x w).1,l∈ls
 |0,x,w,h=>h
 |n+1,x,w,h=>by
  simp only [eY]
  split
  ·rename_i l hf
   refine mR n _ _ λl' hl=>?_
   rcases Bb.1 hl with h2|h2
   ·exact h l' h2
   ·rw [Ad.1 h2];exact List.mem_of_find?_eq_some hf
  ·exact mR n x w h
theorem NP {g:List (List Int)} {dep:List Int->Int} {ls:List Int} : ∀(n:Nat) (x w:List Int),(eY g dep ls n x w).1.length<=w.length+n
 |0,x,w=>Ap _
 |n+1,x,w=>by
  simp only [eY]
  split
  ·rename_i l hf
   have:=NP (g:=g) (dep:=dep) (ls:=ls) n (Ag x (An g l)) (w++ [l])
   rw [As,Be] at this
   omega
  ·have:=NP (g:=g) (dep:=dep) (ls:=ls) n x w
   omega
theorem XP {p:PP} (hw:Gp p=true) {s:List Int} (hs:s∈Ba p):(Wp p s).length<=3000:=by
 have h1:=NP (g:=p.2.2.1) (dep:=Lo (Ba p) (Dh p)) (ls:=Av p.2.2.1.length) (Lo (Ba p) (Dh p) s).toNat s []
 have h2:=xk hw hs
 unfold Wp
 simp only [Ex] at h1
 omega
structure Part (n k:Nat) (s:Gv×Gv):Prop where
 l1:s.1.length=n
 l2:s.2.length=n
 pg:PG n k (s.1.getD k [])
 row:Xm n k (s.1.getD k []) (s.2.getD k [])
 comp:qZ n (n-(k+1)) (k+1) s
 gb:GBf (n-(k+1)) (k+1) s
 sub: ∀g,some g∈s.1.getD (k+1) []->Gn n (s.1.getD k []) g
def Hd (n k:Nat) (s:Gv×Gv) (q:List Int):Prop:= ∃t,(s.2.getD k []).getD (ap q k) none=some t/\Pk s.2 (n-(k+1)) (k+1) (Ag q (Bs t))=true
structure x6 (n k:Nat) (s s':Gv×Gv):Prop where
 grow:bG k s s'
 same:s'.1.getD k []=s.1.getD k []
 part:Part n k s'
 Fp: ∀q,Pm n q->Fx k q->Hd n k s q->Hd n k s' q
 new: ∀y t,(s'.2.getD k []).getD y none=some t->(s.2.getD k []).getD y none=some t\/ ∀g,some g∈s.1.getD k []->Hd n k s' (Ag t g)
theorem x6.refl {n k:Nat} {s:Gv×Gv} (h:Part n k s):x6 n k s s:=⟨bG.refl _ _,rfl,h,λ_ _ _ h=>h,λ_ _ h=> .inl h⟩
theorem Part.tg {n k:Nat} {s:Gv×Gv} (h:Part n k s) (hk:k<n) {y:Nat} {t g:List Int} (ht:(s.2.getD k []).getD y none=some t) (hg:some g∈s.1.getD k []):Pm n (Ag t g)/\Fx k (Ag t g)/\ap (Ag t g) k=ap g y:=by
 obtain ⟨t1,t2,t3,t4⟩:=h.row.rt _ _ ht
 obtain ⟨g',e,g1,g2⟩:=h.pg _ hg
 cases e
 exact ⟨t1.comp g1,Fx.comp t1 g1 t2 g2 (by omega),by rw [Mn t1 g1 hk,t3]⟩
theorem x6.trans {n k:Nat} {a b c:Gv×Gv} (hk:k<n) (h:x6 n k a b) (h':x6 n k b c):x6 n k a c:=by
 refine ⟨h.grow.trans h'.grow (Ap _),h'.same.trans h.same,h'.part,λq h1 h2 h3=>h'.Fp q h1 h2 (h.Fp q h1 h2 h3),λy t e=>?_⟩
 rcases h'.new y t e with e1|e1
 ·rcases h.new y t e1 with e2|e2
  ·exact .inl e2
  ·refine .inr λg hg=>?_
   obtain ⟨p1,p2,_⟩:=h.part.tg hk e1 (by rw [h.same];exact hg)
   exact h'.Fp _ p1 p2 (e2 g hg)
 ·exact .inr λg hg=>e1 g (by rw [h.same];exact hg)
theorem Part.v {n k:Nat} {s:Gv×Gv} (h:Part n k s):V n (n-(k+1)) (k+1) s:=⟨h.l1,h.l2,h.comp,h.gb⟩
def yw (p:PP) (gs:List (List Int)):Prop:=gs.length<=5/\ ∀g∈gs,Em p g=true
theorem uU {g:List (List Int)} {dep:List Int->Int} {ls:List Int} : ∀(n:Nat) (x w:List Int),∃u,(eY g dep ls n x w).1=w++u/\(eY g dep ls n x w).2=Je g x u
 |0,x,w=>⟨[],by simp [eY],rfl⟩
 |n+1,x,w=>by
  simp only [eY]
  split
  ·rename_i l _
   obtain ⟨u,h1,h2⟩:=uU (g:=g) (dep:=dep) (ls:=ls) n (Ag x (An g l)) (w++ [l])
   exact ⟨l::u,by rw [h1,Cv];rfl,h2⟩
  ·exact uU n x w
theorem yw.take {p:PP} {gs:List (List Int)} (h:yw p gs) (j:Nat):yw p (gs.take j):=⟨by rw [Dj];have:=h.1;omega,λg hg=>h.2 g (Fy hg)⟩
abbrev BB:Type:=List TT×List (ByteArray->Option Int)×Unit
def VL:List (List Int)->List Int->(ByteArray->Option Int)->ByteArray->Option Int
 |x::xs,d::ds,m=>VL xs ds (jZ m (Xq x) d)
 |_,_,m=>m
def Wr (t:TT):ByteArray->Option Int:=VL t.2.1 t.2.2.1 λ_=>none
def Ef (ts:List TT):BB:=(ts,ts.map Wr,())
structure RN (t:TT):Prop where
 fG:t.2.1.length<=3000
 len:t.2.2.1.length=t.2.1.length
 nodup:t.2.1.Nodup
 byte: ∀x∈t.2.1,gM x
 Ah8: ∀d∈t.2.2.1,0<=d/\d<=3000
 tl:t.1.length<=20
 pl: ∀x∈t.2.1,x.length<=20
def iJ (ts:List TT):Prop:=ts.length<=4/\ ∀t∈ts,RN t
def bb (t:TT) (s:List Int):Int:=t.2.2.1.getD (t.2.1.idxOf (Eg s t.1)) 0
def dE (ts:List TT) (s:List Int):List Int:=ts.map λt=>bb t s
def aJ (ts:List TT) (s:List Int):Int:=(dE ts s).foldl max 0
def oS (ts:List TT) (s:List Int):Prop:=s.length<=20/\ ∀t∈ts,Of s.length t.1/\Eg s t.1∈t.2.1
noncomputable abbrev Vq:Spec:=Gw (.pair tTS .unit) (.optr Uu) false false (λx=>iJ x.1) (λx=>some (Ef x.1))
def WU (b:Option BB) (s:List Int):Prop:= ∃ts,iJ ts/\b=some (Ef ts)/\oS ts s
def ZU (b:Option BB) (s:List Int):List Int:=match b with|some b=>dE b.1 s|none=> []
def cb (b:Option BB) (s:List Int):Int:=match b with|some b=>aJ b.1 s|none=>0
noncomputable abbrev ya:Spec:=Gw (.pair (.optr Uu) (.pair tL .unit)) tL false true (λx=>WU x.1 x.2.1) (λx=>ZU x.1 x.2.1)
noncomputable abbrev kL:Spec:=Gw (.pair (.optr Uu) (.pair tL .unit)) tI false true (λx=>WU x.1 x.2.1) (λx=>cb x.1 x.2.1)
abbrev oF:Type:=Int×List Int×List (List Int)×List Int×List (List Int×List (List Int)×List Int×PUnit)×(ByteArray->Option Int)×List (ByteArray->Option Int)×PUnit
abbrev oH:Type:=Int×List (List Int×List (List Int)×List Int×PUnit)×List (ByteArray->Option Int)×PUnit
theorem II (ts:List (List Int×List (List Int)×List Int×Unit)) (P:Option (List (List Int×List (List Int)×List Int×Unit)×List (ByteArray->Option Int)×Unit)->Prop):(0=0/\0=([]:List Int).length/\Dn (λ(v2:oH) (k3:oH->Prop)=>Br (decide (v2.1<(↑ts.length:Int))) (∃(y4:List Int×List (List Int)×List Int×PUnit),idx ts v2.1=some y4/\0=0/\v2.2.2.1.length=v2.2.2.1.length/\Dn (λ(v5:oF) (k6:oF->Prop)=>Br (decide (v5.1<(↑y4.2.1.length:Int))) (∃(y7:List Int),idx y4.2.1 v5.1=some y7/\ ∃(y8:ByteArray),Lf.fn (y7,())=some y8/\ ∃(y9:Int),idx v5.2.2.2.1 v5.1=some y9/\0=0/\v5.2.2.2.2.2.2.1.length=v5.2.2.2.2.2.2.1.length/\k6 (IntKind.i64.wrap (v5.1+(1:Int)),v5.2.1,v5.2.2.1,v5.2.2.2.1,v5.2.2.2.2.1,jZ v5.2.2.2.2.2.1 y8 y9,v5.2.2.2.2.2.2.1,())) (0=0/\v5.2.2.2.2.2.2.1.length=v5.2.2.2.2.2.2.1.length/\v5.2.2.2.2.2.2.1.length+(List.take 1 (List.drop 0 [v5.2.2.2.2.2.1])).length<=Dk/\0=0/\(v5.2.2.2.2.2.2.1++List.take 1 (List.drop 0 [v5.2.2.2.2.2.1])).length=(v5.2.2.2.2.2.2.1++List.take 1 (List.drop 0 [v5.2.2.2.2.2.1])).length/\k3 (IntKind.i64.wrap (v2.1+(1:Int)),v5.2.2.2.2.1,v5.2.2.2.2.2.2.1++List.take 1 (List.drop 0 [v5.2.2.2.2.2.1]),()))) ((0:Int),y4.1,y4.2.1,y4.2.2.1,v2.2.1,λ(_:ByteArray)=>none,v2.2.2.1,PUnit.unit)) (P (some (v2.2.1,List.take v2.2.2.1.length (List.drop 0 v2.2.2.1),())))) ((0:Int),ts,[],PUnit.unit))=fnW (pU [Ok+101101]) (look [(121,Lf)]) Vq Tryz.f61 (ts,()) P:=by kernel_rfl
abbrev Ab3:Type:=List (List Int×List (List Int)×List Int×PUnit)×List (ByteArray->Option Int)×PUnit
theorem Aol (b:Option (List (List Int×List (List Int)×List Int×Unit)×List (ByteArray->Option Int)×Unit)) (s:List Int) (P:List Int->Prop):(∃(y3:Ab3),b=some y3/\0=0/\0=([]:List Int).length/\Dn (λ(v4:Int×List Int×PUnit) (k5:Int×List Int×PUnit->Prop)=>Br (decide (v4.1<(↑y3.1.length:Int))) (∃(y6:List Int×List (List Int)×List Int×PUnit),idx y3.1 v4.1=some y6/\ ∃(y7:Ab3),b=some y7/\ ∃(y8:ByteArray->Option Int),idx y7.2.1 v4.1=some y8/\ ∃(y9:List Int),bC.fn (s,y6.1,())=some y9/\ ∃(Ko:ByteArray),Lf.fn (y9,())=some Ko/\0=0/\v4.2.1.length=v4.2.1.length/\v4.2.1.length+(List.take 1 (List.drop 0 [(y8 Ko).getD (Int.ofNat (nat_lit 0))])).length<=Dk/\0=0/\(v4.2.1++List.take 1 (List.drop 0 [(y8 Ko).getD (Int.ofNat (nat_lit 0))])).length=(v4.2.1++List.take 1 (List.drop 0 [(y8 Ko).getD (Int.ofNat (nat_lit 0))])).length/\k5 (IntKind.i64.wrap (v4.1+(1:Int)),v4.2.1++List.take 1 (List.drop 0 [(y8 Ko).getD (Int.ofNat (nat_lit 0))]),())) (P (List.take v4.2.1.length (List.drop 0 v4.2.1)))) ((0:Int),[],PUnit.unit))=fnW Fu (look [(121,Lf),(79,bC)]) ya Tryz.f62 (b,s,()) P:=by kernel_rfl
theorem Af3 (b:Option (List (List Int×List (List Int)×List Int×Unit)×List (ByteArray->Option Int)×Unit)) (s:List Int) (P:Int->Prop):(∃(y3:List Int),ya.fn (b,s,())=some y3/\Dn (λ(v4:Int×Int×PUnit) (k5:Int×Int×PUnit->Prop)=>Br (decide (v4.2.1<(↑y3.length:Int))) (∃(y6:Int),idx y3 v4.2.1=some y6/\k5 (if true=true then if y6>v4.1 then y6 else v4.1 else if y6<v4.1 then y6 else v4.1,IntKind.i64.wrap (v4.2.1+(1:Int)),())) (P v4.1)) ((0:Int),(0:Int),PUnit.unit))=fnW Fu (look [(62,ya)]) kL Tryz.f57 (b,s,()) P:=by kernel_rfl
theorem RN.short {t:TT} (h:RN t):aC t:=by
 have h1:=h.fG;have h2:=h.len;have h3:=h.tl
 exact ⟨by unfold _root_.Go.Proofs.YtkkdpknjohcekaaGreat.short;omega,⟨by omega,λr hr=>by have:=h.pl r hr;unfold _root_.Go.Proofs.YtkkdpknjohcekaaGreat.short;omega⟩,by unfold _root_.Go.Proofs.YtkkdpknjohcekaaGreat.short;omega⟩
theorem kN {p:PP} {t:TT} (h:Gs p t=true):RN t/\Em p t.1=true/\(Gq p.2.2.1 t.1).2.2=true/\t.2.1=cc p t.1/\t.2.2.1=zt p t.1:=by
 obtain ⟨h1,h2⟩:=Bj.1 h
 obtain ⟨h3,h4⟩:=eJ.1 h1
 have h5:=TI.1 h2
 unfold Gc at h5
 rw [Ab h1] at h5
 have e1:t.2.1=cc p t.1:=(Ga (λz:TT=>z.2.1) h5).symm
 have e2:t.2.2.1=zt p t.1:=(Ga (λz:TT=>z.2.2.1) h5).symm
 have hv:=(Su.1 h3).1
 have hn:=(valid hv).n
 have dX:=mJ h3
 have mq:=dX.ok.fG
 have hlen:=dX.len
 have IY:=dX.ok.short
 refine ⟨⟨by rw [e1];exact mq,by rw [e1,e2];exact hlen,by rw [e1];exact dX.ok.nodup,λx hx=>?_,λd hd=>?_,(Hg h3).1,λx hx=>?_⟩,h3,h4,e1,e2⟩
 ·rw [e1] at hx
  intro y hy
  have:=dX.row x hx y hy
  omega
 ·rw [e2] at hd
  obtain ⟨j,hj,rfl⟩:=Bf.1 hd
  have h6:=dX.dep j hj
  have PX:j<(Gq p.2.2.1 t.1).2.1.length:=hj
  exact ⟨h6.1,by have:=h6.2;show (Gq p.2.2.1 t.1).2.1[j]<=3000;omega⟩
 ·rw [e1] at hx
  have:=dX.ok.len x hx
  omega
theorem dj {p:PP} {ts:List TT} (h:Gj p ts=true):Bt p=true/\iJ ts/\ ∀t∈ts,Gs p t=true:=by
 unfold Gj at h
 rw [Af,Af,Az,Ky] at h
 exact ⟨h.1.1,⟨h.1.2,λt ht=>(kN (h.2 t ht)).1⟩,h.2⟩
theorem HT: ∀(xs:List (List Int)) (ds:List Int) (m:ByteArray->Option Int) (x:List Int),xs.length=ds.length->xs.Nodup->(∀y∈xs,gM y)->gM x->VL xs ds m (Xq x)=if x∈xs then some (ds.getD (xs.idxOf x) 0) else m (Xq x)
 | [],ds,m,x,_,_,_,_=>by cases ds<;>simp [VL]
 |y::xs,[],m,x,hl,_,_,_=>by simp at hl
 |y::xs,d::ds,m,x,hl,hn,hb,hx=>by
  obtain ⟨hy,hn⟩:=Cd.1 hn
  simp only [VL]
  rw [HT xs ds _ x (by simpa using hl) hn (λz hz=>hb z (Ao _ hz)) hx]
  by_cases hm:x∈xs
  ·have Jr:y≠x:= λe=>hy (e▸hm)
   have hi:(y::xs).idxOf x=xs.idxOf x+1:=by rw [List.idxOf_cons,show (y==x)=false by simpa using Jr];rfl
   rw [Ab hm,Ab (Ao _ hm),hi]
   rfl
  ·rw [Ai hm]
   unfold jZ
   by_cases e:Xq x=Xq y
   ·have:=key_inj hx (hb y (by simp)) e
    subst this
    rw [Ab e,Ab (by simp),List.idxOf_cons_self]
    rfl
   ·have Jr:x≠y:= λh=>e (by rw [h])
    rw [Ai e,Ai (by simp [Jr,hm])]
theorem Abn {t:TT} (h:RN t) {x:List Int} (hx:x∈t.2.1):Wr t (Xq x)=some (t.2.2.1.getD (t.2.1.idxOf x) 0):=by
 unfold Wr
 rw [HT _ _ _ _ h.len.symm h.nodup h.byte (h.byte x hx),Ab hx]
theorem GL (ts:List TT) (h:iJ ts):fnW (pU [Ok+101101]) (look [(121,Lf)]) Vq Tryz.f61 (ts,()) (λ(z:Option BB)=>z=some (Ef ts)):=by
 obtain ⟨h4,hd⟩:=h
 refine Eq.mp (II ts _) ⟨rfl,rfl,?_⟩
 refine Bu ts.length (λv=>v.1) (λi v=>v=((i:Int),ts,(ts.take i).map Wr,())) rfl rfl ?_
 rintro i v K hi hii rfl hK
 dsimp only
 refine Br.dec (λhl=>?_) λhl=>?_
 ·have hl:i<ts.length:=by omega
  have hdb:=hd _ (Ak hl)
  have mq:=hdb.fG
  have hlen:=hdb.len
  have Aih:=hdb.short
  refine ⟨_,Cf hl,rfl,rfl,?_⟩
  refine Bu (ts[i]).2.1.length (λv=>v.1) (λj v=> ∃m,v=((j:Int),(ts[i]).1,(ts[i]).2.1,(ts[i]).2.2.1,ts,m,(ts.take i).map Wr,())/\VL ((ts[i]).2.1.drop j) ((ts[i]).2.2.1.drop j) m=Wr ts[i]) rfl ⟨_,rfl,by rw [Fw,Fw];rfl⟩ ?_
  rintro j v K1 hj hjj ⟨m,rfl,hm⟩ hK1
  dsimp only
  refine Br.dec (λph=>?_) λph=>?_
  ·have ph:j<(ts[i]).2.1.length:=by omega
   have tz:j<(ts[i]).2.2.1.length:=by omega
   rw [Gg ph,Gg tz] at hm
   refine ⟨_,Cf ph,_,Ab (Aih.2.1.2 _ (Ak ph)),_,Cf tz,rfl,rfl,?_⟩
   rw [Bv (by omega)]
   exact hK1 ph _ rfl ⟨_,rfl,hm⟩
  ·have:j=(ts[i]).2.1.length:=by omega
   subst this
   rw [Zh] at hm
   have hm:m=Wr ts[i]:=by
    rw [<-hm]
    cases List.drop (ts[i]).2.1.length (ts[i]).2.2.1<;>rfl
   subst hm
   refine ⟨rfl,rfl,by show ((ts.take i).map Wr).length+1<=4294967296;rw [Gf,Dj];omega,rfl,rfl,?_⟩
   rw [Bv (by omega)]
   have hmm:(ts.take (i+1)).map Wr=(ts.take i).map Wr++ [Wr ts[i]]:=by
    rw [Hb,Ac hl,Tw,Mk]
    rfl
   refine hK hl _ rfl ?_
   rw [hmm]
   rfl
 ·have:i=ts.length:=by omega
  subst this
  rw [Cc,Bd]
  rfl
theorem rM:Sound Tryz.prog 61 Vq:=
 Sound.Gw (pV [Ok+101101]) (Ax cq Bn) mixed Tryz.func61 (by kernel_rfl) (by kernel_rfl) λx h=>GL x.1 h
theorem DB (ts:List TT) (s:List Int):(dE ts s).length=ts.length:=by unfold dE;rw [Gf]
theorem JM {t:TT} (h:RN t) {s:List Int} (hs:Eg s t.1∈t.2.1):0<=bb t s/\bb t s<=3000:=by
 have hi:=My hs
 have hl:=h.len
 unfold bb
 rw [Hm (by omega)]
 exact h.Ah8 _ (Ak _)
theorem RV {ts:List TT} (h:iJ ts) {s:List Int} (hs:oS ts s): ∀d∈dE ts s,0<=d/\d<=3000:= λd hd=>by
 obtain ⟨t,ht,rfl⟩:=Bi.1 hd
 exact JM (h.2 t ht) (hs.2 t ht).2
theorem RW {ts:List TT} {s:List Int} {i:Nat} (hl:i<ts.length):(dE (ts.take (i+1)) s)=dE (ts.take i) s++ [bb ts[i] s]:=by
 unfold dE
 rw [Hb,Ac hl,Tw,Mk]
 rfl
theorem Anv (b:Option BB) (s:List Int) (h:WU b s):fnW Fu (look [(121,Lf),(79,bC)]) ya Tryz.f62 (b,s,()) (λ(z:List Int)=>z=ZU b s):=by
 obtain ⟨ts,⟨h4,hd⟩,rfl,hs⟩:=h
 refine Eq.mp (Aol _ s _) ⟨Ef ts,rfl,rfl,rfl,?_⟩
 show Dn _ _
 refine Bu ts.length (λv=>v.1) (λi v=>v=((i:Int),dE (ts.take i) s,())) rfl rfl ?_
 rintro i v K hi hii rfl hK
 dsimp only
 refine Br.dec (λhl=>?_) λhl=>?_
 ·have hl:i<ts.length:=by have hl:(i:Int)<(ts.length:Int):=hl;omega
  have hdb:=hd _ (Ak hl)
  obtain ⟨jk,rv⟩:=hs.2 _ (Ak hl)
  have htl:=hdb.tl
  have kT:=hdb.pl _ rv
  refine ⟨ts[i],Cf hl,Ef ts,rfl,Wr ts[i],?_,_,Ab ⟨by show (ts[i]).1.length<=4294967296;omega,jk⟩,_,Ab (by show (Eg s (ts[i]).1).length<=4294967296;omega),rfl,rfl,?_,rfl,rfl,?_⟩
  ·show idx (ts.map Wr) (i:Int)=_
   rw [Cf (by rw [Gf];exact hl),fg]
  ·show (dE (ts.take i) s).length+1<=4294967296
   rw [DB,Dj];omega
  ·rw [Bv (by omega)]
   refine hK hl _ rfl ?_
   rw [RW hl,show Wr ts[i] (Xq (Eg s (ts[i]).1))=some (bb ts[i] s) from Abn hdb rv]
   rfl
 ·have:i=ts.length:=by have hl: ¬(i:Int)<(ts.length:Int):=hl;omega
  subst this
  rw [Cc,Bd]
  rfl
theorem UR:Sound Tryz.prog 62 ya:=
 Sound.Gw Dq (Ax cq (Ax wE Bn)) mixed Tryz.func62 (by kernel_rfl) (by kernel_rfl) λx h=>Anv x.1 x.2.1 h
theorem Aiu (a b:Int):(if true=true then if b>a then b else a else if b<a then b else a)=max a b:=by
 rw [Ab rfl]
 by_cases h:b>a
 ·rw [Ab h,Int.max_eq_right (by omega)]
 ·rw [Ai h,Int.max_eq_left (by omega)]
theorem XS {xs:List Int} {m:Int} (h: ∀x∈xs,0<=x/\x<=m) (hm:0<=m):0<=xs.foldl max 0/\xs.foldl max 0<=m:=by
 rcases lg xs 0 with h1|h1
 ·rw [h1];exact ⟨Kc _,hm⟩
 ·exact h _ h1
theorem Ae8 {ts:List TT} (h:iJ ts) {s:List Int} (hs:oS ts s):0<=aJ ts s/\aJ ts s<=3000:=XS (RV h hs) (by omega)
theorem Aej (b:Option BB) (s:List Int) (h:WU b s):fnW Fu (look [(62,ya)]) kL Tryz.f57 (b,s,()) (λ(z:Int)=>z=cb b s):=by
 obtain ⟨ts,ht,hb,hs⟩:=id h
 have hl4:=ht.1
 have hlen:=DB ts s
 obtain ⟨xs,hxs⟩: ∃xs,ZU b s=xs:=⟨_,rfl⟩
 have hxe:cb b s=xs.foldl max 0:=by rw [<-hxs,hb];rfl
 have vU:xs.length=ts.length:=by rw [<-hxs,hb];exact hlen
 refine Eq.mp (Af3 b s _) ⟨xs,(Ab h).trans (Ga some hxs),?_⟩
 rw [hxe]
 refine Bu xs.length (λv=>v.2.1) (λi v=>v=((xs.take i).foldl max 0,(i:Int),())) rfl rfl ?_
 rintro i v K hi hii rfl hK
 dsimp only
 refine Br.dec (λhl=>?_) λhl=>?_
 ·have hl:i<xs.length:=by omega
  refine ⟨_,Cf hl,?_⟩
  rw [Bv (by omega)]
  refine hK hl _ rfl ?_
  rw [Hb,Ac hl,Tw,cD,Aiu]
  rfl
 ·have:i=xs.length:=by omega
  subst this
  rw [Bd]
theorem HK:Sound Tryz.prog 57 kL:=
 Sound.Gw Dq (Ax UR Bn) mixed Tryz.func57 (by kernel_rfl) (by kernel_rfl) λx h=>Aej x.1 x.2.1 h
theorem um {p:PP} {s:List Int} (h:Qm p s=true):Bt p=true/\Pm p.1.toNat s/\Gn p.1.toNat (p.2.2.1.map some) s:=by
 unfold Qm at h
 rw [Af,Af] at h
 obtain ⟨⟨hv,hg⟩,hh⟩:=h
 have hV:=valid hv
 have hn:=hV.n
 have hp:=XU hV hg
 exact ⟨hv,hp,(tm (by omega) (by omega) (o6 (iT hV).2.2) hp).1 hh⟩
theorem EE {p:PP} {s:List Int} (hv:Bt p=true) (h:Gn p.1.toNat (p.2.2.1.map some) s):Qm p s=true:=by
 have hV:=valid hv
 have hn:=hV.n
 have hp:=dt.pm (nK hV) h
 unfold Qm
 rw [hv,MK hV hp,show Pk (fz p.1 p.2.2.1).2 p.1.toNat 0 s=true from (tm (by omega) (by omega) (o6 (iT hV).2.2) hp).2 h]
 rfl
theorem KE {p:PP} {t s:List Int} (hv:Bt p=true) (hs:Pm p.1.toNat s) (ht:Em p t=true):Of s.length t:=by
 have h1:=hs.1
 have hn:=(valid hv).n
 intro y hy
 have:=(Hg ht).2 y hy
 omega
theorem Ahe {p:PP} {t:List Int} (hv:Bt p=true) (ht:Em p t=true) (hw:(Gq p.2.2.1 t).2.2=true) {s:List Int} (hs:Gn p.1.toNat (p.2.2.1.map some) s):Eg s t∈cc p t:=by
 have hV:=valid hv
 have hc:fi p.2.2.1 (Av p.2.2.1.length) (cc p t):=dB hV (mJ ht) (fu hv (Hg ht).1 (Hg ht).2 hw)
 induction hs with
 |id=>rw [kF (dk ht)];exact (pB ht).2
 |mul h hg ih=>
  have hp:Pm p.1.toNat _:=dt.pm (nK hV) h
  obtain ⟨k,hk,rfl⟩:=Bf.1 (eW.1 hg)
  have:=hc.next _ ih _ (Mq hk).1
  rw [Ou hk] at this
  rw [Pq (KE hv hp ht)]
  exact this
 |inv h hg ih=>
  have hp:Pm p.1.toNat _:=dt.pm (nK hV) h
  obtain ⟨k,hk,rfl⟩:=Bf.1 (eW.1 hg)
  have:=hc.next _ ih _ (Mq hk).2
  rw [Ot hk] at this
  rw [Pq (KE hv hp ht)]
  exact this
theorem MO {p:PP} {ts:List TT} {s:List Int} (hr:Qm p s=true) (ht:Gj p ts=true):oS ts s:=by
 obtain ⟨hv,hp,hg⟩:=um hr
 obtain ⟨_,_,Jt⟩:=dj ht
 have hn:=(valid hv).n
 refine ⟨by rw [hp.1];omega,λt tC=>?_⟩
 obtain ⟨_,h3,hw,e1,_⟩:=kN (Jt t tC)
 exact ⟨KE hv hp h3,by rw [e1];exact Ahe hv h3 hw hg⟩
theorem wV (p q:List Int) (P:List Int->Prop):(0=0/\0=([]:List Int).length/\Dn (λ(v3:Int×List Int×PUnit) (k4:Int×List Int×PUnit->Prop)=>Br (decide (v3.1<(↑p.length:Int))) (∃(y5:Int),idx p v3.1=some y5/\ ∃(y6:Int),idx q y5=some y6/\0=0/\v3.2.1.length=v3.2.1.length/\v3.2.1.length+(List.take 1 (List.drop 0 [y6])).length<=Dk/\0=0/\(v3.2.1++List.take 1 (List.drop 0 [y6])).length=(v3.2.1++List.take 1 (List.drop 0 [y6])).length/\k4 (IntKind.i64.wrap (v3.1+(1:Int)),v3.2.1++List.take 1 (List.drop 0 [y6]),())) (P (List.take v3.2.1.length (List.drop 0 v3.2.1)))) ((0:Int),[],PUnit.unit))=fnW Fu (look []) Jl Tryz.f81 (p,q,()) P:=by kernel_rfl
theorem SB {p q:List Int} {j:Nat} (h:j<p.length):(Ag p q).take (j+1)=(Ag p q).take j++ [Ih q p[j]]:=by
 unfold Ag
 rw [Cw (by rw [Gf];exact h),fg]
theorem wi (p q:List Int) (h:List.length p<=20/\Of (List.length q) p):fnW Fu (look []) Jl Tryz.f81 (p,q,()) (λ(z:List Int)=>z=Ag p q):=by
 obtain ⟨h1,h2⟩:=h
 refine Eq.mp (wV p q _) ⟨rfl,rfl,?_⟩
 refine Bu p.length (λv=>v.1) (λj v=>v=((j:Int),(Ag p q).take j,())) rfl rfl ?_
 rintro j v K hj hi rfl hK
 dsimp only
 have hlen:((Ag p q).take j).length<=20:=by rw [Dj];unfold Ag;rw [Gf];omega
 refine Br.dec (λhl=>?_) λhl=>?_
 ·have hl:j<p.length:=by omega
  have hr:=h2 p[j] (Ak hl)
  refine ⟨_,Cf hl,Ih q p[j],jn hr.1 hr.2,rfl,rfl,?_,rfl,rfl,?_⟩
  ·show ((Ag p q).take j).length+1<=4294967296
   omega
  ·rw [Bv (by omega)]
   refine hK hl _ rfl ?_
   rw [SB hl]
   rfl
 ·have:j=p.length:=by omega
  subst this
  rw [Cc,<-Sb p q,Bd]
theorem df:Sound Tryz.prog 81 Jl:=
 Sound.Gw Dq Bn mixed Tryz.func81 (by kernel_rfl) (by kernel_rfl) λx h=>wi x.1 x.2.1 h
theorem IE (p:Int×ByteArray×List (List Int)×Unit) (s:List Int) (P:Bool->Prop):(∃(y3:Bool),Le.fn ((p.1,p.2.1,p.2.2.1,()),s,())=some y3/\Br y3 (∃(y4:(Int×List (List (Option (List Int)))×List (List (Option (List Int)))×PUnit)×PUnit),Yv.fn (p.1,p.2.2.1,())=some y4/\ ∃(y5:Bool),oe.fn ((y4.1.1,List.take y4.1.2.1.length (List.drop 0 y4.1.2.1),List.take y4.1.2.2.1.length (List.drop 0 y4.1.2.2.1),()),(0:Int),s,())=some y5/\P y5) (P false))=fnW Fu (look [(156,Le),(157,Yv),(158,oe)]) bA Tryz.f116 (p,s,()) P:=by kernel_rfl
theorem XT {n:Int} {s:List Int} (h:Hv n s=true):Pm n.toNat s:=by
 obtain ⟨a,b⟩:=Iq.1 h
 exact ⟨by omega,dK b⟩
theorem GH (p:PP) (s:List Int) (h:Eo p/\short s):fnW Fu (look [(156,Le),(157,Yv),(158,oe)]) bA Tryz.f116 (p,s,()) (λ(z:Bool)=>z=Qm p s):=by
 refine Eq.mp (IE p s _) ⟨_,Ab h,?_⟩
 show Br (Bt p&&Hv p.1 s) _ _
 unfold Qm
 refine Br.of (λhb=>?_) λhb=>by rw [hb];rfl
 obtain ⟨hv,hg⟩:=Bj.1 hb
 have hV:=valid hv
 have hn:=hV.n
 have EH:=Ad8 hV
 refine ⟨_,Ab (iT hV),_,Ab ⟨p.1.toNat,0,?vv⟩,?_⟩
 case vv=>
  simp only [Cc]
  exact ⟨by omega,by omega,(gI (by omega)).symm,rfl,Kd _,by rw [Nat.sub_zero];exact EH,XT hg,λi hi=>absurd hi (Hc _)⟩
 simp only [Cc]
 rw [hb,Nr,Int.sub_zero]
 rfl
theorem rI:Sound Tryz.prog 116 bA:=
 Sound.Gw Dq (Ax oq (Gb uM (Ax yk Bn))) mixed Tryz.func116 (by kernel_rfl) (by kernel_rfl) λx h=>GH x.1 x.2.1 h
noncomputable def Sk (p:PP) (ts:List TT) (s:List Int):Bool:=Qm p s&&Gj p ts
noncomputable abbrev Ma:Spec:=Gw (.pair Hq (.pair tTS (.pair tL .unit))) (.pair (.optr Uu) (.pair .bool .unit)) true false (λx=>Eo x.1/\Qr x.2.1/\short x.2.2.1) (λx=>if Sk x.1 x.2.1 x.2.2.1=true then (some (Ef x.2.1),true,()) else (none,false,()))
theorem OD (p:Int×ByteArray×List (List Int)×Unit) (ts:List (List Int×List (List Int)×List Int×Unit)) (s:List Int) (P:(Option (List (List Int×List (List Int)×List Int×Unit)×List (ByteArray->Option Int)×Unit)×Bool×Unit)->Prop):(∃(y4:Bool),bA.fn ((p.1,p.2.1,p.2.2.1,()),s,())=some y4/\Br (!y4) (P (none,false,())) (∃(y5:Bool),Zb.fn ((p.1,p.2.1,p.2.2.1,()),ts,())=some y5/\Br (!y5) (P (none,false,())) (∃(y6:Option (List (List Int×List (List Int)×List Int×PUnit)×List (ByteArray->Option Int)×PUnit)),Vq.fn (ts,())=some y6/\P (y6,true,()))))=fnW Fu (look [(116,bA),(60,Zb),(61,Vq)]) Ma Tryz.f54 (p,ts,s,()) P:=by kernel_rfl
theorem xw {p:PP} {ts:List TT} {s:List Int} (h:Sk p ts s=true):iJ ts/\oS ts s/\Qm p s=true:=by
 unfold Sk at h
 obtain ⟨h1,h2⟩:=Bj.1 h
 exact ⟨(dj h2).2.1,MO h1 h2,h1⟩
theorem LV (p:PP) (ts:List TT) (s:List Int) (h:Eo p/\Qr ts/\short s):fnW Fu (look [(116,bA),(60,Zb),(61,Vq)]) Ma Tryz.f54 (p,ts,s,()) (λ(z:Option BB×Bool×Unit)=>z=if Sk p ts s=true then (some (Ef ts),true,()) else (none,false,())):=by
 obtain ⟨h0,h1,h2⟩:=h
 refine Eq.mp (OD p ts s _) ⟨_,Ab ⟨h0,h2⟩,?_⟩
 show Br (!Qm p s) _ _
 have hh:Sk p ts s=(Qm p s&&Gj p ts):=rfl
 rw [hh]
 refine Br.of (λhb=>?_) λhb=>?_
 ·have hb:Qm p s=false:=by simpa using hb
  rw [hb];rfl
 ·have hb:Qm p s=true:=by simpa using hb
  refine ⟨_,Ab ⟨h0,h1⟩,?_⟩
  show Br (!Gj p ts) _ _
  refine Br.of (λhc=>?_) λhc=>?_
  ·have hc:Gj p ts=false:=by simpa using hc
   rw [hb,hc];rfl
  ·have hc:Gj p ts=true:=by simpa using hc
   refine ⟨_,Ab (dj hc).2.1,?_⟩
   rw [hb,hc];rfl
theorem cp:Sound Tryz.prog 54 Ma:=
 Sound.Gw Dq (Ax rI (Ax mQ (Ax rM Bn))) mixed Tryz.func54 (by kernel_rfl) (by kernel_rfl) λx h=>LV x.1 x.2.1 x.2.2.1 h
noncomputable def dF (p:PP) (s:List Int):Int:=if Ql p s=true then Lo (Ba p) (Dh p) s else-1
noncomputable abbrev Ra:Spec:=Gw (.pair Hq (.pair tL .unit)) (.pair Zr (.pair tI (.pair .bool .unit))) true false (λx=>Eo x.1/\short x.2.1) (λx=>((Cm x.1).1,dF x.1 x.2.1,Ql x.1 x.2.1,()))
noncomputable abbrev mN:Spec:=Gw (.pair Hq (.pair tL .unit)) tI false true (λx=>Eo x.1/\short x.2.1) (λx=>dF x.1 x.2.1)
theorem Acb (p:Int×ByteArray×List (List Int)×Unit) (s:List Int) (P:((List (List Int)×List Int×List Int×Bool×Unit)×Int×Bool×Unit)->Prop):(∃(y3:(List (List Int)×List Int×List Int×Bool×PUnit)×Bool×PUnit),Za.fn ((p.1,p.2.1,p.2.2.1,()),())=some y3/\Br (!y3.2.1) (P ((y3.1.1,y3.1.2.1,y3.1.2.2.1,y3.1.2.2.2.1,()),(-1:Int),false,())) (∃(y4:Bool),Le.fn ((p.1,p.2.1,p.2.2.1,()),s,())=some y4/\Br (!y4) (P ((y3.1.1,y3.1.2.1,y3.1.2.2.1,y3.1.2.2.2.1,()),(-1:Int),false,())) (∃(y5:Int),bu.fn ((y3.1.1,y3.1.2.1,y3.1.2.2.1,y3.1.2.2.2.1,()),s,())=some y5/\P ((y3.1.1,y3.1.2.1,y3.1.2.2.1,y3.1.2.2.2.1,()),y5,decide (y5>=(0:Int)),()))))=fnW Fu (look [(114,Za),(64,Le),(115,bu)]) Ra Tryz.f52 (p,s,()) P:=by kernel_rfl
theorem Ajr (p:Int×ByteArray×List (List Int)×Unit) (s:List Int) (P:Int->Prop):(∃(y3:(List (List Int)×List Int×List Int×Bool×PUnit)×Int×Bool×PUnit),Ra.fn ((p.1,p.2.1,p.2.2.1,()),s,())=some y3/\Br (!y3.2.2.1) (P (-1:Int)) (P y3.2.1))=fnW Fu (look [(52,Ra)]) mN Tryz.f13 (p,s,()) P:=by kernel_rfl
theorem EB {p:PP} {s:List Int} (h:Ql p s=true):Qm p s=true:=by
 obtain ⟨hw,hs⟩:=bp.1 h
 have hv:=(Fe hw).1
 exact EE hv ((jF hv).gen s hs)
theorem Aah (p:PP) (s:List Int) (h:Eo p/\short s):fnW Fu (look [(114,Za),(64,Le),(115,bu)]) Ra Tryz.f52 (p,s,()) (λ(z:SS×Int×Bool×Unit)=>z=((Cm p).1,dF p s,Ql p s,())):=by
 refine Eq.mp (Acb p s _) ⟨_,Ab h.1,?_⟩
 by_cases hw:Gp p=true
 ·have hv:=(Fe hw).1
  have e1:Cm p=(Gr p.2.2.1 (upto p.1.toNat),true,()):=by unfold Cm;rw [Ab hv,hw]
  show Br (!(Cm p).2.1) _ _
  refine ⟨λhb=>by rw [e1] at hb;simp at hb,λ_=>⟨_,Ab h,?_⟩⟩
  show Br (!(Bt p&&Hv p.1 s)) _ _
  rw [hv,Nr]
  unfold dF Ql
  rw [hw,Nr]
  refine Br.of (λhb=>?_) λhb=>?_
  ·have hm: ¬s∈Ba p:= λhm=>by rw [Ajh hv hm] at hb;cases hb
   rw [Ep hm,Ai (by decide)]
  ·have hb:Hv p.1 s=true:=by simpa using hb
   have SU:=XU (valid hv) hb
   refine ⟨_,Ab ⟨by show Fm s.length (Cm p).1.1 (Cm p).1.2.2.1;rw [e1,SU.1];exact (gy hv).ok,by show (Cm p).1.2.1.length=(Cm p).1.1.length;rw [e1];exact (gy hv).len⟩,?_⟩
   have KG:Lo (Cm p).1.1 (Cm p).1.2.1 s=Lo (Ba p) (Dh p) s:=by rw [e1];rfl
   by_cases hm:s∈Ba p
   ·have hd:=(xk hw hm).1
    rw [Co hm,Ab rfl]
    show (_,Lo (Cm p).1.1 (Cm p).1.2.1 s,decide (Lo (Cm p).1.1 (Cm p).1.2.1 s>=0),())=_
    rw [KG,Co hd]
   ·have hd:Lo (Ba p) (Dh p) s= -1:=Ai hm
    rw [Ep hm,Ai (by decide)]
    show (_,Lo (Cm p).1.1 (Cm p).1.2.1 s,decide (Lo (Cm p).1.1 (Cm p).1.2.1 s>=0),())=_
    rw [KG,hd]
    rfl
 ·have e1:(Cm p).2.1=false:=by
   unfold Cm
   by_cases hv:Bt p=true
   ·rw [Ab hv];exact Hy _|>.mp hw
   ·rw [Ai hv]
  show Br (!(Cm p).2.1) _ _
  rw [e1]
  refine ⟨λ_=>?_,λhb=>by simp at hb⟩
  have hf:Ql p s=false:=by unfold Ql;rw [Hy _|>.mp hw,Bool.false_and]
  unfold dF
  rw [hf,Ai (by decide)]
theorem gw:Sound Tryz.prog 52 Ra:=
 Sound.Gw Dq (Ax uS (Ax dg (Ax wz Bn))) mixed Tryz.func52 (by kernel_rfl) (by kernel_rfl) λx h=>Aah x.1 x.2.1 h
theorem Aj3 (p:PP) (s:List Int) (h:Eo p/\short s):fnW Fu (look [(52,Ra)]) mN Tryz.f13 (p,s,()) (λ(z:Int)=>z=dF p s):=by
 refine Eq.mp (Ajr p s _) ⟨_,Ab h,?_⟩
 show Br (!Ql p s) _ _
 refine Br.of (λhb=>?_) λ_=>rfl
 unfold dF
 rw [Ai (Hj hb)]
theorem NH:Sound Tryz.prog 13 mN:=
 Sound.Gw Dq (Ax gw Bn) mixed Tryz.func13 (by kernel_rfl) (by kernel_rfl) λx h=>Aj3 x.1 x.2.1 h
abbrev DS:Type:=Int×Int×List Int×Bool×Bool×Unit
def Kv (v:DS):Bool:=v.2.2.2.1||(decide (0<v.2.1)&&!v.2.2.2.2.1)
def Jm (w:List Int):Int:=w.getLastD 0
def vN (nx:List Int->Int->List Int) (low:List Int->Int) (one:List Int) (ls:List Int) (depth:Int):Nat->List Int->List Int->DS->DS
 |0,_,_,v=>v
 |f+1,s,w,v=>
  if v.1=20000 then (v.1,v.2.1,v.2.2.1,true,v.2.2.2.2)
  else if (w.length:Int)+low s>depth then (v.1+1,v.2)
  else if (w.length:Int)=depth then (if s=one then (v.1+1,v.2.1+1,(if v.2.1=0 then w else v.2.2.1),v.2.2.2) else (v.1+1,v.2))
  else (ls.filter λl=>!(l== -Jm w)).foldl (λv l=>if Kv v=true then v else vN nx low one ls depth f (nx s l) (w++ [l]) v) (v.1+1,v.2)
abbrev IS:Type:=Bool×List Int×Int×Int×Bool
def iN (nx:List Int->Int->List Int) (low:List Int->Int) (one:List Int) (ls:List Int) (depth:Int) (every:Bool):Nat->List Int->List Int->Int->Int->Bool->IS
 |0,_,w,n,m,a=>(false,w,n,m,a)
 |f+1,s,w,n,m,a=>
  if n=20000 then (true,w,n,m,true)
  else if (w.length:Int)+low s>depth then (false,w,n+1,m,a)
  else if s=one/\(w.length:Int)=depth then (!every,w,n+1,m+1,a)
  else if (w.length:Int)=depth then (false,w,n+1,m,a)
  else ls.foldl (λr l=>if r.1=true\/l= -Jm w then r else
   if (iN nx low one ls depth every f (nx s l) (w++ [l]) r.2.2.1 r.2.2.2.1 r.2.2.2.2).1=true then iN nx low one ls depth every f (nx s l) (w++ [l]) r.2.2.1 r.2.2.2.1 r.2.2.2.2
   else (false,w,(iN nx low one ls depth every f (nx s l) (w++ [l]) r.2.2.1 r.2.2.2.1 r.2.2.2.2).2.2)) (false,w,n+1,m,a)
structure JC (v:DS):Prop where
 n0:0<=v.1
 n1:v.1<=20000
 m0:0<=v.2.1
 m1:v.2.1<=v.1
theorem bn {α β:Type} {f:β->α->β} {R:β->Prop} : ∀(ls:List α) (b:β),R b->(∀b l,l∈ls->R b->R (f b l))->R (ls.foldl f b)
 | [],_,h,_=>h
 |l::ls,b,h,hs=>bn ls _ (hs b l (Fk ..) h) λb l hl=>hs b l (Ao _ hl)
theorem sY {α β γ:Type} {f:β->α->β} {g:γ->α->γ} {R:β->γ->Prop} : ∀(ls:List α) (b:β) (c:γ),R b c->(∀b c l,l∈ls->R b c->R (f b l) (g c l))->R (ls.foldl f b) (ls.foldl g c)
 | [],_,_,h,_=>h
 |l::ls,b,c,h,hs=>sY ls _ _ (hs b c l (Fk ..) h) λb c l hl=>hs b c l (Ao _ hl)
theorem Agy {nx:List Int->Int->List Int} {low:List Int->Int} {one ls:List Int} {depth:Int} : ∀(f:Nat) (s w:List Int) (v:DS),JC v->JC (vN nx low one ls depth f s w v)
 |0,_,_,_,h=>h
 |f+1,s,w,v,h=>by
  have h0:=h.n0;have h1:=h.n1;have h2:=h.m0;have h3:=h.m1
  unfold vN
  split
  ·exact ⟨h0,h1,h2,h3⟩
  ·have hs:JC ((v.1+1,v.2):DS):=⟨by show 0<=v.1+1;omega,by show v.1+1<=20000;omega,h2,by show v.2.1<=v.1+1;omega⟩
   split
   ·exact hs
   ·split
    ·split
     ·exact ⟨by show 0<=v.1+1;omega,by show v.1+1<=20000;omega,by show 0<=v.2.1+1;omega,by show v.2.1+1<=v.1+1;omega⟩
     ·exact hs
    ·refine bn _ _ hs λb l _ hb=>?_
     split
     ·exact hb
     ·exact Agy f _ _ _ hb
theorem BJ {nx:List Int->Int->List Int} {low:List Int->Int} {one ls:List Int} {depth:Int} : ∀(f:Nat) (s w:List Int) (v:DS),(vN nx low one ls depth f s w v).2.2.2.2=v.2.2.2.2
 |0,_,_,_=>rfl
 |f+1,s,w,v=>by
  unfold vN
  split
  ·rfl
  ·split
   ·rfl
   ·split
    ·split<;>rfl
    ·refine bn (R:= λ(b:DS)=>b.2.2.2.2=v.2.2.2.2) _ _ rfl λb l _ hb=>?_
     split
     ·exact hb
     ·rw [BJ f];exact hb
theorem Agk {nx:List Int->Int->List Int} {low:List Int->Int} {one ls:List Int} {depth:Int} {every:Bool} : ∀(f:Nat) (s w:List Int) (n m:Int) (a:Bool),(0<=n/\n<=20000/\0<=m/\m<=n)->
  (0<=(iN nx low one ls depth every f s w n m a).2.2.1/\(iN nx low one ls depth every f s w n m a).2.2.1<=20000/\0<=(iN nx low one ls depth every f s w n m a).2.2.2.1/\(iN nx low one ls depth every f s w n m a).2.2.2.1<=(iN nx low one ls depth every f s w n m a).2.2.1)
 |0,_,_,_,_,_,h=>h
 |f+1,s,w,n,m,a,h=>by
  obtain ⟨h0,h1,h2,h3⟩:=h
  unfold iN
  split
  ·exact ⟨h0,h1,h2,h3⟩
  ·have hs:(0<=n+1/\n+1<=20000/\0<=m/\m<=n+1):=by omega
   split
   ·exact hs
   ·split
    ·show 0<=n+1/\n+1<=20000/\0<=m+1/\m+1<=n+1
     omega
    ·split
     ·exact hs
     ·refine bn (R:= λ(b:IS)=>0<=b.2.2.1/\b.2.2.1<=20000/\0<=b.2.2.2.1/\b.2.2.2.1<=b.2.2.1) _ _ hs λb l _ hb=>?_
      split
      ·exact hb
      ·have ih:=Agk (nx:=nx) (low:=low) (one:=one) (ls:=ls) (depth:=depth) (every:=every) f (nx s l) (w++ [l]) b.2.2.1 b.2.2.2.1 b.2.2.2.2 hb
       split
       ·exact ih
       ·exact ih
theorem Ae5 {nx:List Int->Int->List Int} {low:List Int->Int} {one ls:List Int} {depth:Int} {every:Bool} : ∀(f:Nat) (s w:List Int) (n m:Int) (a:Bool),(iN nx low one ls depth every f s w n m a).1=false->(iN nx low one ls depth every f s w n m a).2.1=w
 |0,_,_,_,_,_,_=>rfl
 |f+1,s,w,n,m,a,h=>by
  unfold iN at h⊢
  split
  ·rename_i h1;rw [Ab h1] at h
  ·rename_i h1
   rw [Ai h1] at h
   split
   ·rfl
   ·rename_i h2
    rw [Ai h2] at h
    split
    ·rfl
    ·rename_i h3
     rw [Ai h3] at h
     split
     ·rfl
     ·rename_i h4
      rw [Ai h4] at h
      refine bn (R:= λ(r:IS)=>r.1=false->r.2.1=w) _ _ (λ_=>rfl) (λr l _ hr=>?_) h
      split
      ·exact hr
      ·split
       ·rename_i h5;exact λh6=>by rw [h5] at h6;cases h6
       ·exact λ_=>rfl
theorem QJ {nx:List Int->Int->List Int} {low:List Int->Int} {one ls:List Int} {depth:Int} {every:Bool} {f:Nat} {s w:List Int} : ∀(xs:List Int) (r:IS),r.1=true->
  xs.foldl (λ(r:IS) l=>if r.1=true\/l= -Jm w then r else
   if (iN nx low one ls depth every f (nx s l) (w++ [l]) r.2.2.1 r.2.2.2.1 r.2.2.2.2).1=true then iN nx low one ls depth every f (nx s l) (w++ [l]) r.2.2.1 r.2.2.2.1 r.2.2.2.2
   else (false,w,(iN nx low one ls depth every f (nx s l) (w++ [l]) r.2.2.1 r.2.2.2.1 r.2.2.2.2).2.2)) r=r
 | [],_,_=>rfl
 |x::xs,r,h=>by
  rw [Ds,Ab (.inl h)]
  exact QJ xs r h
theorem RK {nx:List Int->Int->List Int} {low:List Int->Int} {one ls:List Int} {depth:Int} {f:Nat} {s w:List Int} : ∀(xs:List Int) (r:DS),Kv r=true->
  xs.foldl (λ(v:DS) l=>if Kv v=true then v else vN nx low one ls depth f (nx s l) (w++ [l]) v) r=r
 | [],_,_=>rfl
 |x::xs,r,h=>by
  rw [Ds,Ab h]
  exact RK xs r h
structure XA (every:Bool) (w:List Int) (r:IS) (v:DS):Prop where
 stop:r.1=Kv v
 word:r.1=false->r.2.1=w
 n:r.2.2.1=v.1
 m:r.2.2.2.1=v.2.1
 a:r.2.2.2.2=v.2.2.2.1
 all:v.2.2.2.2.1=every
 ok:JC v
 found:r.1=true->v.2.2.2.1=false->r.2.1=v.2.2.1
theorem Agl {nx:List Int->Int->List Int} {low:List Int->Int} {one ls:List Int} {depth:Int} {every:Bool} : ∀(f:Nat) (s w:List Int) (v:DS),Kv v=false->v.2.2.2.2.1=every->JC v->
  XA every w (iN nx low one ls depth every f s w v.1 v.2.1 v.2.2.2.1) (vN nx low one ls depth f s w v)
 |0,s,w,v,hd,he,hv=>⟨hd.symm,λ_=>rfl,rfl,rfl,rfl,he,hv,λh=>by simp [iN] at h⟩
 |f+1,s,w,v,hd,he,hv=>by
  have hvo:=Agy (nx:=nx) (low:=low) (one:=one) (ls:=ls) (depth:=depth) (f+1) s w v hv
  have xr:=hd
  unfold Kv at xr
  rw [he,Bool.or_eq_false_iff,Bool.and_eq_false_iff] at xr
  obtain ⟨ha,hm⟩:=xr
  have h0:=hv.m0
  have hm:every=false->v.2.1=0:= λe=>by
   rcases hm with h|h
   ·have:=of_decide_eq_false h;omega
   ·rw [e] at h;cases h
  by_cases h1:v.1=20000
  ·have e1:vN nx low one ls depth (f+1) s w v=(v.1,v.2.1,v.2.2.1,true,v.2.2.2.2):=by rw [vN,Ab h1]
   have e2:iN nx low one ls depth every (f+1) s w v.1 v.2.1 v.2.2.2.1=(true,w,v.1,v.2.1,true):=by rw [iN,Ab h1]
   rw [e1] at hvo⊢
   rw [e2]
   exact {stop:=rfl,word:= λh=>by simp at h,n:=rfl,m:=rfl,a:=rfl,all:=he,ok:=hvo,found:= λ_ h=>by simp at h}
  by_cases h2:(w.length:Int)+low s>depth
  ·have e1:vN nx low one ls depth (f+1) s w v=(v.1+1,v.2):=by rw [vN,Ai h1,Ab h2]
   have e2:iN nx low one ls depth every (f+1) s w v.1 v.2.1 v.2.2.2.1=(false,w,v.1+1,v.2.1,v.2.2.2.1):=by rw [iN,Ai h1,Ab h2]
   rw [e1] at hvo⊢
   rw [e2]
   exact {stop:=hd.symm,word:= λ_=>rfl,n:=rfl,m:=rfl,a:=rfl,all:=he,ok:=hvo,found:= λh=>by simp at h}
  by_cases h3:(w.length:Int)=depth
  ·by_cases h4:s=one
   ·have e1:vN nx low one ls depth (f+1) s w v=(v.1+1,v.2.1+1,(if v.2.1=0 then w else v.2.2.1),v.2.2.2):=by rw [vN,Ai h1,Ai h2,Ab h3,Ab h4]
    have e2:iN nx low one ls depth every (f+1) s w v.1 v.2.1 v.2.2.2.1=(!every,w,v.1+1,v.2.1+1,v.2.2.2.1):=by rw [iN,Ai h1,Ai h2,Ab ⟨h4,h3⟩]
    rw [e1] at hvo⊢
    rw [e2]
    refine {stop:=?_,word:= λ_=>rfl,n:=rfl,m:=rfl,a:=rfl,all:=he,ok:=hvo,found:= λh _=>?_}
    ·show (!every)=(v.2.2.2.1||(decide (0<v.2.1+1)&&!v.2.2.2.2.1))
     rw [ha,he,Co (by omega)]
     simp
    ·have h:(!every)=true:=h
     show w=if v.2.1=0 then w else v.2.2.1
     rw [Ab (hm (by cases every<;>simp_all))]
   ·have e1:vN nx low one ls depth (f+1) s w v=(v.1+1,v.2):=by rw [vN,Ai h1,Ai h2,Ab h3,Ai h4]
    have e2:iN nx low one ls depth every (f+1) s w v.1 v.2.1 v.2.2.2.1=(false,w,v.1+1,v.2.1,v.2.2.2.1):=by rw [iN,Ai h1,Ai h2,Ai (λh=>h4 h.1),Ab h3]
    rw [e1] at hvo⊢
    rw [e2]
    exact {stop:=hd.symm,word:= λ_=>rfl,n:=rfl,m:=rfl,a:=rfl,all:=he,ok:=hvo,found:= λh=>by simp at h}
  have hs:JC ((v.1+1,v.2):DS):=by
   have:=hv.n0;have:=hv.n1;have:=hv.m1
   exact ⟨by show 0<=v.1+1;omega,by show v.1+1<=20000;omega,h0,by show v.2.1<=v.1+1;omega⟩
  rw [vN,Ai h1,Ai h2,Ai h3,iN,Ai h1,Ai h2,Ai (λh=>h3 h.2),Ai h3,List.foldl_filter]
  refine sY (R:= λ(r:IS) (u:DS)=>XA every w r u) ls _ _ {stop:=hd.symm,word:= λ_=>rfl,n:=rfl,m:=rfl,a:=rfl,all:=he,ok:=hs,found:= λh=>by simp at h} λr u l _ hR=>?_
  by_cases hl:l= -Jm w
  ·rw [Ab (.inr hl),Ai (by simp [hl])]
   exact hR
  rw [Ab (show (!(l== -Jm w))=true by simp [hl])]
  by_cases Pn:r.1=true
  ·have hu:Kv u=true:=by rw [<-hR.stop];exact Pn
   rw [Ab (.inl Pn),Ab hu]
   exact hR
  have Pn:r.1=false:=by simpa using Pn
  have hu:Kv u=false:=by rw [<-hR.stop,Pn]
  have fM: ¬Kv u=true:=by rw [hu];simp
  rw [Ai (show ¬(r.1=true\/l= -Jm w) by rw [Pn];simp [hl]),Ai fM]
  have ih:=Agl (nx:=nx) (low:=low) (one:=one) (ls:=ls) (depth:=depth) (every:=every) f (nx s l) (w++ [l]) u hu hR.all hR.ok
  rw [hR.n,hR.m,hR.a]
  by_cases hq:(iN nx low one ls depth every f (nx s l) (w++ [l]) u.1 u.2.1 u.2.2.2.1).1=true
  ·rw [Ab hq]
   exact {stop:=ih.stop,word:= λh=>by rw [hq] at h;simp at h,n:=ih.n,m:=ih.m,a:=ih.a,all:=ih.all,ok:=ih.ok,found:=ih.found}
  ·rw [Ai hq]
   have hq:(iN nx low one ls depth every f (nx s l) (w++ [l]) u.1 u.2.1 u.2.2.2.1).1=false:=by simpa using hq
   exact {stop:=by rw [<-ih.stop,hq],word:= λ_=>rfl,n:=ih.n,m:=ih.m,a:=ih.a,all:=ih.all,ok:=ih.ok,found:= λh=>by simp at h}
abbrev SR:Type:=PP×Option BB×Int×Bool×List Int×Int×Int×Bool×Unit
noncomputable def dG (s:List Int):Bool:=decide (s=upto s.length)
noncomputable abbrev pI:Spec:=Gw (.pair tL .unit) .bool false true (λx=>short x.1) (λx=>dG x.1)
def dJ (g:List (List Int)) (s:List Int) (l:Int):List Int:=Ag s (An g l)
noncomputable def ry (n:Int) (g:List (List Int)) (b:Option BB) (Dg:Int) (every:Bool) (w:List Int) (nodes found:Int) (ab:Bool) (x:List Int):IS:=
 iN (dJ g) (cb b) (upto n.toNat) (Av g.length) Dg every ((Dg-w.length).toNat+1) x w nodes found ab
noncomputable def Anr (p:PP) (ts:List TT) (s w:List Int) (depth:Int) (v:DS):DS:=
 vN (dJ p.2.2.1) (aJ ts) (upto p.1.toNat) (Av p.2.2.1.length) depth ((depth-w.length).toNat+1) s w v
def yB (n:Int) (str:ByteArray) (g:List (List Int)) (b:Option BB) (Dg:Int) (w:List Int) (nodes found:Int) (x:List Int):Prop:=
 ∃ts,b=some (Ef ts)/\Sk (n,str,g,()) ts x=true/\Dg<=30/\(w.length:Int)<=Dg/\(∀l∈w,Fo g.length l)/\(0<=nodes/\nodes<=20000)/\0<=found/\found<=nodes
noncomputable abbrev QL:MSpec:= {ptr:=some (84,10),Jb:= [none],ins:= [(false, .Ec tI),(false, .Ec .str),(false, .Ec lO),(false, .Ec (.optr Uu)),(false, .Ec tI),(false, .Ec .bool),(false,rL),(false, .Ec tI),(false, .Ec tI),(false, .Ec .bool),(false, .Ec tL)],Ht:=false,Hp:= [none],outs:= [.Ec tI, .Ec .str, .Ec lO, .Ec (.optr Uu), .Ec tI, .Ec .bool,rL, .Ec tI, .Ec tI, .Ec .bool, .Ec .bool],fn:= λ_=>none}
noncomputable def jv (n:Int) (str:ByteArray) (g:List (List Int)) (b:Option BB) (Dg:Int) (every:Bool) (q:IS):Int×ByteArray×List (List Int)×Option BB×Int×Bool×List Int×Int×Int×Bool×Bool×Unit:=(n,str,g,b,Dg,every,q.2.1,q.2.2.1,q.2.2.2.1,q.2.2.2.2,q.1,())
noncomputable abbrev Us (m:Nat):MSpec:=gX QL (λx=>yB x.1 x.2.1 x.2.2.1 x.2.2.2.1 x.2.2.2.2.1 x.2.2.2.2.2.2.1 x.2.2.2.2.2.2.2.1 x.2.2.2.2.2.2.2.2.1 x.2.2.2.2.2.2.2.2.2.2.1/\(x.2.2.2.2.1-List.length x.2.2.2.2.2.2.1).toNat<m)
 (λx=>(jv x.1 x.2.1 x.2.2.1 x.2.2.2.1 x.2.2.2.2.1 x.2.2.2.2.2.1 (ry x.1 x.2.2.1 x.2.2.2.1 x.2.2.2.2.1 x.2.2.2.2.2.1 x.2.2.2.2.2.2.1 x.2.2.2.2.2.2.2.1 x.2.2.2.2.2.2.2.2.1 x.2.2.2.2.2.2.2.2.2.1 x.2.2.2.2.2.2.2.2.2.2.1),()))
noncomputable abbrev cm:MSpec:=gX QL (λx=>yB x.1 x.2.1 x.2.2.1 x.2.2.2.1 x.2.2.2.2.1 x.2.2.2.2.2.2.1 x.2.2.2.2.2.2.2.1 x.2.2.2.2.2.2.2.2.1 x.2.2.2.2.2.2.2.2.2.2.1)
 (λx=>(jv x.1 x.2.1 x.2.2.1 x.2.2.2.1 x.2.2.2.2.1 x.2.2.2.2.2.1 (ry x.1 x.2.2.1 x.2.2.2.1 x.2.2.2.2.1 x.2.2.2.2.2.1 x.2.2.2.2.2.2.1 x.2.2.2.2.2.2.2.1 x.2.2.2.2.2.2.2.2.1 x.2.2.2.2.2.2.2.2.2.1 x.2.2.2.2.2.2.2.2.2.2.1),()))
theorem Ajs (s:List Int) (P:Bool->Prop):(Dn (λ(v2:Int×PUnit) (k3:Int×PUnit->Prop)=>Br (decide (v2.1<(↑s.length:Int))) (∃(y4:Int),idx s v2.1=some y4/\Br (v2.1 !=y4) (P false) (k3 (IntKind.i64.wrap (v2.1+(1:Int)),()))) (P true)) ((0:Int),PUnit.unit))=fnW Fu (look []) pI Tryz.f165 (s,()) P:=by kernel_rfl
abbrev ak:Type:=Int×List Int×Int×ByteArray×List (List Int)×Option (List (List Int×List (List Int)×List Int×PUnit)×List (ByteArray->Option Int)×PUnit)×Int×Bool×Int×Int×Bool×PUnit
abbrev oI:Type:=(Int×ByteArray×List (List Int)×Option (List (List Int×List (List Int)×List Int×PUnit)×List (ByteArray->Option Int)×PUnit)×Int×Bool×List Int×Int×Int×Bool×Bool×PUnit)×PUnit
theorem Af5 {m:Nat} (n:Int) (str:ByteArray) (g:List (List Int)) (b:Option (List (List Int×List (List Int)×List Int×Unit)×List (ByteArray->Option Int)×Unit)) (Dg:Int) (every:Bool) (w:List Int) (nodes found:Int) (ab:Bool) (x:List Int) (P:((Int×ByteArray×List (List Int)×Option BB×Int×Bool×List Int×Int×Int×Bool×Bool×Unit)×Unit)->Prop):(Br (nodes==(20000:Int)) (P ((n,str,g,b,Dg,every,List.take w.length (List.drop 0 w),nodes,found,true,true,()),())) (∃(Hr:Int),Tn.fn (List.take w.length (List.drop 0 w),())=some Hr/\ ∃(Io:Int),kL.fn (b,x,())=some Io/\Br (decide (IntKind.i64.wrap (Hr+Io)>Dg)) (P ((n,str,g,b,Dg,every,List.take w.length (List.drop 0 w),IntKind.i64.wrap (nodes+(1:Int)),found,ab,false,()),())) (∃(Ip:Bool),pI.fn (x,())=some Ip/\Br Ip (Br (Hr==Dg) (P ((n,str,g,b,Dg,every,List.take w.length (List.drop 0 w),IntKind.i64.wrap (nodes+(1:Int)),IntKind.i64.wrap (found+(1:Int)),ab,!every,()),())) (Br (Hr==Dg) (P ((n,str,g,b,Dg,every,List.take w.length (List.drop 0 w),IntKind.i64.wrap (nodes+(1:Int)),found,ab,false,()),())) (Br (decide (Hr>(0:Int))) (((0:Int)<=IntKind.i64.wrap (Hr-(1:Int))/\IntKind.i64.wrap (Hr-(1:Int))<(↑w.length:Int))/\ ∃(Hi:Int),w[0+(IntKind.i64.wrap (Hr-(1:Int))).toNat]?=some Hi/\ ∃(Iz:List Int),Mv.fn ((↑g.length:Int),())=some Iz/\0=0/\(List.take w.length (List.drop 0 w)).length=(List.take w.length (List.drop 0 w)).length/\Dn (λ(Np:ak) (k19:ak->Prop)=>Br (decide (Np.1<(↑Iz.length:Int))) (∃(mX:Int),idx Iz Np.1=some mX/\Br (mX==IntKind.i64.wrap ((0:Int)-Hi)) (0=0/\(List.take Np.2.1.length (List.drop 0 Np.2.1)).length=(List.take Np.2.1.length (List.drop 0 Np.2.1)).length/\k19 (IntKind.i64.wrap (Np.1+(1:Int)),List.take Np.2.1.length (List.drop 0 Np.2.1),Np.2.2.1,Np.2.2.2.1,Np.2.2.2.2.1,Np.2.2.2.2.2.1,Np.2.2.2.2.2.2.1,Np.2.2.2.2.2.2.2.1,Np.2.2.2.2.2.2.2.2.1,Np.2.2.2.2.2.2.2.2.2.1,Np.2.2.2.2.2.2.2.2.2.2.1,())) (0=0/\Np.2.1.length=Np.2.1.length/\Np.2.1.length+(List.take 1 (List.drop 0 [mX])).length<=Dk/\ ∃(so:List Int),Ii.fn (Np.2.2.2.2.1,mX,())=some so/\ ∃(Xg:List Int),Jl.fn (x,so,())=some Xg/\0=0/\(Np.2.1++List.take 1 (List.drop 0 [mX])).length=(Np.2.1++List.take 1 (List.drop 0 [mX])).length/\ ∃(ao:oI),(Us m).fn (Np.2.2.1,Np.2.2.2.1,Np.2.2.2.2.1,Np.2.2.2.2.2.1,Np.2.2.2.2.2.2.1,Np.2.2.2.2.2.2.2.1,Np.2.1++List.take 1 (List.drop 0 [mX]),Np.2.2.2.2.2.2.2.2.1,Np.2.2.2.2.2.2.2.2.2.1,Np.2.2.2.2.2.2.2.2.2.2.1,Xg,())=some ao/\Br ao.1.2.2.2.2.2.2.2.2.2.2.1 (P ((ao.1.1,ao.1.2.1,ao.1.2.2.1,ao.1.2.2.2.1,ao.1.2.2.2.2.1,ao.1.2.2.2.2.2.1,List.take ao.1.2.2.2.2.2.2.1.length (List.drop 0 ao.1.2.2.2.2.2.2.1),ao.1.2.2.2.2.2.2.2.1,ao.1.2.2.2.2.2.2.2.2.1,ao.1.2.2.2.2.2.2.2.2.2.1,true,()),())) (((0:Int)<=(0:Int)/\(0:Int)<=Hr/\Hr<=(↑ao.1.2.2.2.2.2.2.1.length:Int))/\0=0/\(List.take (Hr.toNat-Int.toNat (0:Int)) (List.drop (0+Int.toNat (0:Int)) ao.1.2.2.2.2.2.2.1)).length=(List.take (Hr.toNat-Int.toNat (0:Int)) (List.drop (0+Int.toNat (0:Int)) ao.1.2.2.2.2.2.2.1)).length/\k19 (IntKind.i64.wrap (Np.1+(1:Int)),List.take (Hr.toNat-Int.toNat (0:Int)) (List.drop (0+Int.toNat (0:Int)) ao.1.2.2.2.2.2.2.1),ao.1.1,ao.1.2.1,ao.1.2.2.1,ao.1.2.2.2.1,ao.1.2.2.2.2.1,ao.1.2.2.2.2.2.1,ao.1.2.2.2.2.2.2.2.1,ao.1.2.2.2.2.2.2.2.2.1,ao.1.2.2.2.2.2.2.2.2.2.1,())))) (P ((Np.2.2.1,Np.2.2.2.1,Np.2.2.2.2.1,Np.2.2.2.2.2.1,Np.2.2.2.2.2.2.1,Np.2.2.2.2.2.2.2.1,List.take Np.2.1.length (List.drop 0 Np.2.1),Np.2.2.2.2.2.2.2.2.1,Np.2.2.2.2.2.2.2.2.2.1,Np.2.2.2.2.2.2.2.2.2.2.1,false,()),()))) ((0:Int),List.take w.length (List.drop 0 w),n,str,g,b,Dg,every,IntKind.i64.wrap (nodes+(1:Int)),found,ab,PUnit.unit)) (∃(Hi:List Int),Mv.fn ((↑g.length:Int),())=some Hi/\0=0/\(List.take w.length (List.drop 0 w)).length=(List.take w.length (List.drop 0 w)).length/\Dn (λ(No:ak) (k18:ak->Prop)=>Br (decide (No.1<(↑Hi.length:Int))) (∃(CD:Int),idx Hi No.1=some CD/\Br (CD==IntKind.i64.wrap ((0:Int)-(0:Int))) (0=0/\(List.take No.2.1.length (List.drop 0 No.2.1)).length=(List.take No.2.1.length (List.drop 0 No.2.1)).length/\k18 (IntKind.i64.wrap (No.1+(1:Int)),List.take No.2.1.length (List.drop 0 No.2.1),No.2.2.1,No.2.2.2.1,No.2.2.2.2.1,No.2.2.2.2.2.1,No.2.2.2.2.2.2.1,No.2.2.2.2.2.2.2.1,No.2.2.2.2.2.2.2.2.1,No.2.2.2.2.2.2.2.2.2.1,No.2.2.2.2.2.2.2.2.2.2.1,())) (0=0/\No.2.1.length=No.2.1.length/\No.2.1.length+(List.take 1 (List.drop 0 [CD])).length<=Dk/\ ∃(mX:List Int),Ii.fn (No.2.2.2.2.1,CD,())=some mX/\ ∃(so:List Int),Jl.fn (x,mX,())=some so/\0=0/\(No.2.1++List.take 1 (List.drop 0 [CD])).length=(No.2.1++List.take 1 (List.drop 0 [CD])).length/\ ∃(Xg:oI),(Us m).fn (No.2.2.1,No.2.2.2.1,No.2.2.2.2.1,No.2.2.2.2.2.1,No.2.2.2.2.2.2.1,No.2.2.2.2.2.2.2.1,No.2.1++List.take 1 (List.drop 0 [CD]),No.2.2.2.2.2.2.2.2.1,No.2.2.2.2.2.2.2.2.2.1,No.2.2.2.2.2.2.2.2.2.2.1,so,())=some Xg/\Br Xg.1.2.2.2.2.2.2.2.2.2.2.1 (P ((Xg.1.1,Xg.1.2.1,Xg.1.2.2.1,Xg.1.2.2.2.1,Xg.1.2.2.2.2.1,Xg.1.2.2.2.2.2.1,List.take Xg.1.2.2.2.2.2.2.1.length (List.drop 0 Xg.1.2.2.2.2.2.2.1),Xg.1.2.2.2.2.2.2.2.1,Xg.1.2.2.2.2.2.2.2.2.1,Xg.1.2.2.2.2.2.2.2.2.2.1,true,()),())) (((0:Int)<=(0:Int)/\(0:Int)<=Hr/\Hr<=(↑Xg.1.2.2.2.2.2.2.1.length:Int))/\0=0/\(List.take (Hr.toNat-Int.toNat (0:Int)) (List.drop (0+Int.toNat (0:Int)) Xg.1.2.2.2.2.2.2.1)).length=(List.take (Hr.toNat-Int.toNat (0:Int)) (List.drop (0+Int.toNat (0:Int)) Xg.1.2.2.2.2.2.2.1)).length/\k18 (IntKind.i64.wrap (No.1+(1:Int)),List.take (Hr.toNat-Int.toNat (0:Int)) (List.drop (0+Int.toNat (0:Int)) Xg.1.2.2.2.2.2.2.1),Xg.1.1,Xg.1.2.1,Xg.1.2.2.1,Xg.1.2.2.2.1,Xg.1.2.2.2.2.1,Xg.1.2.2.2.2.2.1,Xg.1.2.2.2.2.2.2.2.1,Xg.1.2.2.2.2.2.2.2.2.1,Xg.1.2.2.2.2.2.2.2.2.2.1,())))) (P ((No.2.2.1,No.2.2.2.1,No.2.2.2.2.1,No.2.2.2.2.2.1,No.2.2.2.2.2.2.1,No.2.2.2.2.2.2.2.1,List.take No.2.1.length (List.drop 0 No.2.1),No.2.2.2.2.2.2.2.2.1,No.2.2.2.2.2.2.2.2.2.1,No.2.2.2.2.2.2.2.2.2.2.1,false,()),()))) ((0:Int),List.take w.length (List.drop 0 w),n,str,g,b,Dg,every,IntKind.i64.wrap (nodes+(1:Int)),found,ab,PUnit.unit))))) (Br (Hr==Dg) (P ((n,str,g,b,Dg,every,List.take w.length (List.drop 0 w),IntKind.i64.wrap (nodes+(1:Int)),found,ab,false,()),())) (Br (decide (Hr>(0:Int))) (((0:Int)<=IntKind.i64.wrap (Hr-(1:Int))/\IntKind.i64.wrap (Hr-(1:Int))<(↑w.length:Int))/\ ∃(Hi:Int),w[0+(IntKind.i64.wrap (Hr-(1:Int))).toNat]?=some Hi/\ ∃(Iz:List Int),Mv.fn ((↑g.length:Int),())=some Iz/\0=0/\(List.take w.length (List.drop 0 w)).length=(List.take w.length (List.drop 0 w)).length/\Dn (λ(Np:ak) (k19:ak->Prop)=>Br (decide (Np.1<(↑Iz.length:Int))) (∃(mX:Int),idx Iz Np.1=some mX/\Br (mX==IntKind.i64.wrap ((0:Int)-Hi)) (0=0/\(List.take Np.2.1.length (List.drop 0 Np.2.1)).length=(List.take Np.2.1.length (List.drop 0 Np.2.1)).length/\k19 (IntKind.i64.wrap (Np.1+(1:Int)),List.take Np.2.1.length (List.drop 0 Np.2.1),Np.2.2.1,Np.2.2.2.1,Np.2.2.2.2.1,Np.2.2.2.2.2.1,Np.2.2.2.2.2.2.1,Np.2.2.2.2.2.2.2.1,Np.2.2.2.2.2.2.2.2.1,Np.2.2.2.2.2.2.2.2.2.1,Np.2.2.2.2.2.2.2.2.2.2.1,())) (0=0/\Np.2.1.length=Np.2.1.length/\Np.2.1.length+(List.take 1 (List.drop 0 [mX])).length<=Dk/\ ∃(so:List Int),Ii.fn (Np.2.2.2.2.1,mX,())=some so/\ ∃(Xg:List Int),Jl.fn (x,so,())=some Xg/\0=0/\(Np.2.1++List.take 1 (List.drop 0 [mX])).length=(Np.2.1++List.take 1 (List.drop 0 [mX])).length/\ ∃(ao:oI),(Us m).fn (Np.2.2.1,Np.2.2.2.1,Np.2.2.2.2.1,Np.2.2.2.2.2.1,Np.2.2.2.2.2.2.1,Np.2.2.2.2.2.2.2.1,Np.2.1++List.take 1 (List.drop 0 [mX]),Np.2.2.2.2.2.2.2.2.1,Np.2.2.2.2.2.2.2.2.2.1,Np.2.2.2.2.2.2.2.2.2.2.1,Xg,())=some ao/\Br ao.1.2.2.2.2.2.2.2.2.2.2.1 (P ((ao.1.1,ao.1.2.1,ao.1.2.2.1,ao.1.2.2.2.1,ao.1.2.2.2.2.1,ao.1.2.2.2.2.2.1,List.take ao.1.2.2.2.2.2.2.1.length (List.drop 0 ao.1.2.2.2.2.2.2.1),ao.1.2.2.2.2.2.2.2.1,ao.1.2.2.2.2.2.2.2.2.1,ao.1.2.2.2.2.2.2.2.2.2.1,true,()),())) (((0:Int)<=(0:Int)/\(0:Int)<=Hr/\Hr<=(↑ao.1.2.2.2.2.2.2.1.length:Int))/\0=0/\(List.take (Hr.toNat-Int.toNat (0:Int)) (List.drop (0+Int.toNat (0:Int)) ao.1.2.2.2.2.2.2.1)).length=(List.take (Hr.toNat-Int.toNat (0:Int)) (List.drop (0+Int.toNat (0:Int)) ao.1.2.2.2.2.2.2.1)).length/\k19 (IntKind.i64.wrap (Np.1+(1:Int)),List.take (Hr.toNat-Int.toNat (0:Int)) (List.drop (0+Int.toNat (0:Int)) ao.1.2.2.2.2.2.2.1),ao.1.1,ao.1.2.1,ao.1.2.2.1,ao.1.2.2.2.1,ao.1.2.2.2.2.1,ao.1.2.2.2.2.2.1,ao.1.2.2.2.2.2.2.2.1,ao.1.2.2.2.2.2.2.2.2.1,ao.1.2.2.2.2.2.2.2.2.2.1,())))) (P ((Np.2.2.1,Np.2.2.2.1,Np.2.2.2.2.1,Np.2.2.2.2.2.1,Np.2.2.2.2.2.2.1,Np.2.2.2.2.2.2.2.1,List.take Np.2.1.length (List.drop 0 Np.2.1),Np.2.2.2.2.2.2.2.2.1,Np.2.2.2.2.2.2.2.2.2.1,Np.2.2.2.2.2.2.2.2.2.2.1,false,()),()))) ((0:Int),List.take w.length (List.drop 0 w),n,str,g,b,Dg,every,IntKind.i64.wrap (nodes+(1:Int)),found,ab,PUnit.unit)) (∃(Hi:List Int),Mv.fn ((↑g.length:Int),())=some Hi/\0=0/\(List.take w.length (List.drop 0 w)).length=(List.take w.length (List.drop 0 w)).length/\Dn (λ(No:ak) (k18:ak->Prop)=>Br (decide (No.1<(↑Hi.length:Int))) (∃(CD:Int),idx Hi No.1=some CD/\Br (CD==IntKind.i64.wrap ((0:Int)-(0:Int))) (0=0/\(List.take No.2.1.length (List.drop 0 No.2.1)).length=(List.take No.2.1.length (List.drop 0 No.2.1)).length/\k18 (IntKind.i64.wrap (No.1+(1:Int)),List.take No.2.1.length (List.drop 0 No.2.1),No.2.2.1,No.2.2.2.1,No.2.2.2.2.1,No.2.2.2.2.2.1,No.2.2.2.2.2.2.1,No.2.2.2.2.2.2.2.1,No.2.2.2.2.2.2.2.2.1,No.2.2.2.2.2.2.2.2.2.1,No.2.2.2.2.2.2.2.2.2.2.1,())) (0=0/\No.2.1.length=No.2.1.length/\No.2.1.length+(List.take 1 (List.drop 0 [CD])).length<=Dk/\ ∃(mX:List Int),Ii.fn (No.2.2.2.2.1,CD,())=some mX/\ ∃(so:List Int),Jl.fn (x,mX,())=some so/\0=0/\(No.2.1++List.take 1 (List.drop 0 [CD])).length=(No.2.1++List.take 1 (List.drop 0 [CD])).length/\ ∃(Xg:oI),(Us m).fn (No.2.2.1,No.2.2.2.1,No.2.2.2.2.1,No.2.2.2.2.2.1,No.2.2.2.2.2.2.1,No.2.2.2.2.2.2.2.1,No.2.1++List.take 1 (List.drop 0 [CD]),No.2.2.2.2.2.2.2.2.1,No.2.2.2.2.2.2.2.2.2.1,No.2.2.2.2.2.2.2.2.2.2.1,so,())=some Xg/\Br Xg.1.2.2.2.2.2.2.2.2.2.2.1 (P ((Xg.1.1,Xg.1.2.1,Xg.1.2.2.1,Xg.1.2.2.2.1,Xg.1.2.2.2.2.1,Xg.1.2.2.2.2.2.1,List.take Xg.1.2.2.2.2.2.2.1.length (List.drop 0 Xg.1.2.2.2.2.2.2.1),Xg.1.2.2.2.2.2.2.2.1,Xg.1.2.2.2.2.2.2.2.2.1,Xg.1.2.2.2.2.2.2.2.2.2.1,true,()),())) (((0:Int)<=(0:Int)/\(0:Int)<=Hr/\Hr<=(↑Xg.1.2.2.2.2.2.2.1.length:Int))/\0=0/\(List.take (Hr.toNat-Int.toNat (0:Int)) (List.drop (0+Int.toNat (0:Int)) Xg.1.2.2.2.2.2.2.1)).length=(List.take (Hr.toNat-Int.toNat (0:Int)) (List.drop (0+Int.toNat (0:Int)) Xg.1.2.2.2.2.2.2.1)).length/\k18 (IntKind.i64.wrap (No.1+(1:Int)),List.take (Hr.toNat-Int.toNat (0:Int)) (List.drop (0+Int.toNat (0:Int)) Xg.1.2.2.2.2.2.2.1),Xg.1.1,Xg.1.2.1,Xg.1.2.2.1,Xg.1.2.2.2.1,Xg.1.2.2.2.2.1,Xg.1.2.2.2.2.2.1,Xg.1.2.2.2.2.2.2.2.1,Xg.1.2.2.2.2.2.2.2.2.1,Xg.1.2.2.2.2.2.2.2.2.2.1,())))) (P ((No.2.2.1,No.2.2.2.1,No.2.2.2.2.1,No.2.2.2.2.2.1,No.2.2.2.2.2.2.1,No.2.2.2.2.2.2.2.1,List.take No.2.1.length (List.drop 0 No.2.1),No.2.2.2.2.2.2.2.2.1,No.2.2.2.2.2.2.2.2.2.1,No.2.2.2.2.2.2.2.2.2.2.1,false,()),()))) ((0:Int),List.take w.length (List.drop 0 w),n,str,g,b,Dg,every,IntKind.i64.wrap (nodes+(1:Int)),found,ab,PUnit.unit)))))))=fnMW (pU [nm+6]) (look [(105,Tn),(57,kL),(165,pI),(139,Mv),(135,Ii),(134,Jl),(127,iC.m (Us m))]) (Us (m+1)) Tryz.f127 (n,str,g,b,Dg,every,w,nodes,found,ab,x,()) P:=by kernel_rfl
theorem Aj4 (s:List Int) (h:short s):fnW Fu (look []) pI Tryz.f165 (s,()) (λ(z:Bool)=>z=dG s):=by
 unfold short at h
 refine Eq.mp (Ajs s _) ?_
 refine Bu s.length (λv=>v.1) (λj _=> ∀i (hi:i<s.length),i<j->s[i]=(i:Int)) rfl (λi _ h=>absurd h (by omega)) ?_
 rintro j ⟨i,⟨⟩⟩ K hj hi hR hK
 dsimp only at hi⊢
 subst hi
 refine Br.dec (λhl=>?_) λhl=>?_
 ·have hl:j<s.length:=by omega
  refine ⟨_,Cf hl,Br.of (λhb=>?_) λhb=>?_⟩
  ·have hb:(j:Int)≠s[j]:=by simpa using hb
   show false=dG s
   unfold dG
   refine (Ep λe=>hb ?_).symm
   have:(upto s.length)[j]?=some (j:Int):=by rw [kb hl]
   rw [<-e,Ac hl] at this
   exact (Bc this).symm
  ·have hb:(j:Int)=s[j]:=by simpa using hb
   rw [Bv (by omega)]
   refine hK hl _ rfl λi hi jh=>?_
   by_cases e:i=j
   ·subst e;exact hb.symm
   ·exact hR i hi (by omega)
 ·have:j=s.length:=by omega
  subst this
  show true=dG s
  unfold dG
  refine (Co (fe (by rw [Sw]) λi h1 h2=>?_)).symm
  rw [hR i h1 h1]
  have:(upto s.length)[i]?=some (i:Int):=by rw [kb h1]
  rw [Ac h2] at this
  exact (Bc this).symm
theorem NI:Sound Tryz.prog 165 pI:=
 Sound.Gw Dq Bn mixed Tryz.func165 (by kernel_rfl) (by kernel_rfl) λx h=>Aj4 x.1 h
theorem SL {p:PP} {ts:List TT} {s:List Int} {l:Int} (h:Sk p ts s=true) (hl:Fo (List.length p.2.2.1) l):Sk p ts (dJ p.2.2.1 s l)=true:=by
 obtain ⟨_,_,hr⟩:=xw h
 obtain ⟨hv,hp,hg⟩:=um hr
 have hm:l∈Av p.2.2.1.length:=by
  obtain ⟨k,hk,rfl|rfl⟩:=Og hl
  ·exact (Mq hk).1
  ·exact (Mq hk).2
 unfold Sk at h⊢
 obtain ⟨_,h2⟩:=Bj.1 h
 exact Bj.2 ⟨EE hv (tR hg hm),h2⟩
theorem YD {p:PP} {ts:List TT} {s:List Int} (h:Sk p ts s=true):Valid p/\s.length=p.1.toNat/\s.length<=20/\(∀y∈s,0<=y/\y<p.1)/\iJ ts/\oS ts s:=by
 obtain ⟨ha,hb,hr⟩:=xw h
 obtain ⟨hv,hp,hg⟩:=um hr
 have hV:=valid hv
 have hn:=hV.n
 have h1:=hp.1
 exact ⟨hV,h1,by omega,λy hy=>by have:=hp.row y hy;omega,ha,hb⟩
theorem tP {w:List Int} (h:0<w.length):w[w.length-1]?=some (Jm w):=by
 unfold Jm
 rw [List.getLastD_eq_getLast?,List.getLast?_eq_getElem?]
 cases hw:w[w.length-1]? with
 |none=>rw [List.getElem?_eq_none_iff] at hw;omega
 |some x=>rfl
theorem LG {w:List Int} {n:Nat} (hn:n<=8) (h: ∀l∈w,Fo n l): -8<=Jm w/\Jm w<=8:=by
 cases hw:w with
 |nil=>simp [Jm]
 |cons a r=>
  have hp:0<w.length:=by rw [hw];simp
  have:=h _ (Cb (tP hp))
  rw [hw] at this
  unfold Fo at this
  omega
theorem Ael {m:Nat} (n:Int) (str:ByteArray) (g:List (List Int)) (b:Option BB) (Dg:Int) (every:Bool) (w:List Int) (nodes found:Int) (ab:Bool) (x:List Int)
  (h:yB n str g b Dg w nodes found x/\(Dg-w.length).toNat<m+1):
  fnMW (pU [nm+6]) (look [(105,Tn),(57,kL),(165,pI),(139,Mv),(135,Ii),(134,Jl),(127,iC.m (Us m))]) (Us (m+1)) Tryz.f127 (n,str,g,b,Dg,every,w,nodes,found,ab,x,()) (λ(z:(Int×ByteArray×List (List Int)×Option BB×Int×Bool×List Int×Int×Int×Bool×Bool×Unit)×Unit)=>z=(jv n str g b Dg every (ry n g b Dg every w nodes found ab x),())):=by
 obtain ⟨⟨ts,rfl,hh,As8,WQ,mu,⟨hn0,hn1⟩,hf0,hf1⟩,hm⟩:=h
 obtain ⟨hV,vU,Atb,YY,ha,hb⟩:=YD hh
 have hN:=hV.n
 have YY: ∀y∈x,0<=y/\y<n:=YY
 have mq:1<=g.length/\g.length<=8:=hV.fG
 have Adt:=Ae8 ha hb
 have hbd:WU (some (Ef ts)) x:=⟨ts,ha,rfl,hb⟩
 have YH:dG x=decide (x=upto n.toNat):=by unfold dG;rw [vU]
 have hlb:=LG mq.2 mu
 obtain ⟨q,hq⟩: ∃q,ry n g (some (Ef ts)) Dg every w nodes found ab x=q:=⟨_,rfl⟩
 refine Eq.mp (Af5 n str g (some (Ef ts)) Dg every w nodes found ab x _) ?_
 rw [hq]
 unfold ry at hq
 obtain ⟨k,hk⟩: ∃k,(Dg-w.length).toNat=k:=⟨_,rfl⟩
 rw [hk] at hq hm
 rw [iN] at hq
 simp only [Cc,true_and]
 have fin: ∀r:IS,r=q->(((n,str,g,some (Ef ts),Dg,every,r.2.1,r.2.2.1,r.2.2.2.1,r.2.2.2.2,r.1,()),()):(Int×ByteArray×List (List Int)×Option BB×Int×Bool×List Int×Int×Int×Bool×Bool×Unit)×Unit)=(jv n str g (some (Ef ts)) Dg every q,()):= λr e=>by subst e;rfl
 refine Br.of (λh1=>?_) λh1=>?_
 ·rw [Ab (eq_of_beq h1)] at hq
  exact fin _ hq
 have h1: ¬nodes=20000:=by simpa using h1
 rw [Ai h1] at hq
 refine ⟨(w.length:Int),Ab trivial,aJ ts x,Ab hbd,?_⟩
 show Br (decide (IntKind.i64.wrap ((w.length:Int)+aJ ts x)>Dg)) _ _
 rw [Cn (n:=(w.length:Int)+aJ ts x) (by omega) (by omega),Cn (n:=nodes+1) (by omega) (by omega),Cn (n:=found+1) (by omega) (by omega)]
 have hlE:cb (some (Ef ts)) x=aJ ts x:=rfl
 refine Br.dec (λh2=>?_) λh2=>?_
 ·rw [Ab (by rw [hlE];exact h2)] at hq
  exact fin _ hq
 rw [Ai (by rw [hlE];exact h2)] at hq
 refine ⟨dG x,Ab (by show x.length<=4294967296;omega),?_⟩
 show Br (dG x) _ _
 rw [YH]
 have vQ:Mv.fn ((g.length:Int),())=some (Av g.length):=Ab ⟨Int.natCast_nonneg _,by show ((g.length:Nat):Int)<=8;omega⟩
 have hL:=Lj g.length
 refine Br.of (λh3=>Br.of (λh4=>?a) λh4=>Br.of (λh5=>?b) λh5=>?c) λh3=>Br.of (λh5=>?d) λh5=>?e
 case a=>
  rw [Ab ⟨Jg h3,eq_of_beq h4⟩] at hq
  exact fin _ hq
 case b=>
  rw [h4] at h5;cases h5
 case d=>
  rw [Ai (λhc=>of_decide_eq_false h3 hc.1),Ab (eq_of_beq h5)] at hq
  exact fin _ hq
 all_goals
  have h6: ¬(w.length:Int)=Dg:= λhc=>by rw [hc] at h5;simp at h5
  rw [Ai (λhc=>h6 hc.2),Ai h6] at hq
  have hk1:k=(Dg-((w.length+1:Nat):Int)).toNat+1:=by omega
 all_goals
  refine Br.dec (λh7=>⟨⟨by rw [Cn (by omega) (by omega)];omega,by rw [Cn (by omega) (by omega)];omega⟩,Jm w,?_,Av g.length,vQ,?_⟩) λh7=>⟨Av g.length,vQ,?_⟩
 all_goals first
  |(have h7:0<w.length:=by omega
    rw [Cn (by omega) (by omega),Ce,show ((w.length:Int)-1).toNat=w.length-1 by omega]
    exact tP h7)
  |skip
 all_goals first
  |rw [show IntKind.i64.wrap ((0:Int)-Jm w)= -Jm w by rw [Cn (by omega) (by omega)];omega]
  |rw [show IntKind.i64.wrap ((0:Int)-(0:Int))= -Jm w by
    have:w= []:=List.length_eq_zero_iff.1 (by omega)
    rw [this];rfl]
 all_goals
  refine Bu (Av g.length).length (λv=>v.1) (λj v=> ∃r:IS,v=((j:Int),w,n,str,g,some (Ef ts),Dg,every,r.2.2.1,r.2.2.2.1,r.2.2.2.2,())/\r.1=false/\r.2.1=w/\(0<=r.2.2.1/\r.2.2.1<=20000/\0<=r.2.2.2.1/\r.2.2.2.1<=r.2.2.1)/\
   ((Av g.length).drop j).foldl (λ(r:IS) l=>if r.1=true\/l= -Jm w then r else
    if (iN (dJ g) (cb (some (Ef ts))) (upto n.toNat) (Av g.length) Dg every k (dJ g x l) (w++ [l]) r.2.2.1 r.2.2.2.1 r.2.2.2.2).1=true then iN (dJ g) (cb (some (Ef ts))) (upto n.toNat) (Av g.length) Dg every k (dJ g x l) (w++ [l]) r.2.2.1 r.2.2.2.1 r.2.2.2.2
    else (false,w,(iN (dJ g) (cb (some (Ef ts))) (upto n.toNat) (Av g.length) Dg every k (dJ g x l) (w++ [l]) r.2.2.1 r.2.2.2.1 r.2.2.2.2).2.2)) r=q) rfl
   ⟨(false,w,nodes+1,found,ab),rfl,rfl,rfl,⟨by show 0<=nodes+1;omega,by show nodes+1<=20000;omega,hf0,by show found<=nodes+1;omega⟩,by rw [Fw];exact hq⟩ ?_
  rintro j v K hj hi ⟨r,rfl,SV,YT,hr3,hR⟩ hK
  dsimp only
  refine Br.dec (λhl=>?_) λhl=>?_
  ·have hl:j<(Av g.length).length:=by omega
   have hlj:Fo g.length (Av g.length)[j]:=Kt (Ak hl)
   have Axb:((An g (Av g.length)[j]).length:Int)=n:=(kC hV hlj).1
   rw [Gg hl,Ds] at hR
   refine ⟨_,Cf hl,Br.of (λhe=>?_) λhe=>?_⟩
   ·rw [Ab (.inr (eq_of_beq he))] at hR
    rw [Bv (by omega)]
    exact hK hl _ rfl ⟨r,by simp only [Cc],SV,YT,hr3,hR⟩
   ·have he: ¬(Av g.length)[j]= -Jm w:=by simpa using he
    rw [Ai (by rw [SV];simpa using he)] at hR
    have dX:=Agk (nx:=dJ g) (low:=cb (some (Ef ts))) (one:=upto n.toNat) (ls:=Av g.length) (depth:=Dg) (every:=every) k (dJ g x (Av g.length)[j]) (w++ [(Av g.length)[j]]) r.2.2.1 r.2.2.2.1 r.2.2.2.2 hr3
    have YS:ry n g (some (Ef ts)) Dg every (w++ [(Av g.length)[j]]) r.2.2.1 r.2.2.2.1 r.2.2.2.2 (dJ g x (Av g.length)[j])=iN (dJ g) (cb (some (Ef ts))) (upto n.toNat) (Av g.length) Dg every k (dJ g x (Av g.length)[j]) (w++ [(Av g.length)[j]]) r.2.2.1 r.2.2.2.1 r.2.2.2.2:=by
     unfold ry
     rw [As,Be,hk1]
    refine ⟨by show w.length+1<=4294967296;omega,_,Ab ⟨hlj,mq.2,hV.perm⟩,_,Ab ⟨Atb,λy hy=>by have:=YY y hy;show 0<=y/\y<((An g (Av g.length)[j]).length:Int);omega⟩,_,
     Ab ⟨⟨ts,rfl,SL hh hlj,As8,by show ((w++ [(Av g.length)[j]]).length:Int)<=Dg;rw [As,Be];omega,λl hm=>by
      have hm:l∈w++ [(Av g.length)[j]]:=hm
      rcases Bb.1 hm with hm|hm
      ·exact mu l hm
      ·rw [Ad.1 hm];exact hlj,⟨hr3.1,hr3.2.1⟩,hr3.2.2.1,hr3.2.2.2⟩,by show (Dg-((w++ [(Av g.length)[j]]).length:Int)).toNat<m;rw [As,Be];omega⟩,?_⟩
    show Br (ry n g (some (Ef ts)) Dg every (w++ [(Av g.length)[j]]) r.2.2.1 r.2.2.2.1 r.2.2.2.2 (dJ g x (Av g.length)[j])).1 _ _
    dsimp only
    refine Br.of (λPn=>?_) λPn=>?_
    ·have KO:=Pn
     rw [YS] at KO
     rw [Ab KO,QJ _ _ KO] at hR
     have e:=fin _ hR
     rw [<-YS,Pn] at e
     refine Eq.trans ?_ e
     simp only [jv,Cc]
     rfl
    ·have KO:=Pn
     rw [YS] at KO
     have hwd:=Ae5 _ _ _ _ _ _ KO
     rw [Ai (by rw [KO];simp)] at hR
     rw [<-YS] at hwd
     refine ⟨⟨Kc _,Int.natCast_nonneg _,?_⟩,?_⟩
     ·show (w.length:Int)<=((ry n g (some (Ef ts)) Dg every (w++ [(Av g.length)[j]]) r.2.2.1 r.2.2.2.1 r.2.2.2.2 (dJ g x (Av g.length)[j])).2.1.length:Int)
      rw [hwd,As]
      omega
     ·rw [Bv (by omega)]
      refine hK hl _ rfl ⟨(false,w,(iN (dJ g) (cb (some (Ef ts))) (upto n.toNat) (Av g.length) Dg every k (dJ g x (Av g.length)[j]) (w++ [(Av g.length)[j]]) r.2.2.1 r.2.2.2.1 r.2.2.2.2).2.2),?_,rfl,rfl,dX,hR⟩
      have htk:List.take w.length (ry n g (some (Ef ts)) Dg every (w++ [(Av g.length)[j]]) r.2.2.1 r.2.2.2.1 r.2.2.2.2 (dJ g x (Av g.length)[j])).2.1=w:=by rw [hwd];simp
      rw [<-YS]
      show (((j+1:Nat):Int),List.take w.length (ry n g (some (Ef ts)) Dg every (w++ [(Av g.length)[j]]) r.2.2.1 r.2.2.2.1 r.2.2.2.2 (dJ g x (Av g.length)[j])).2.1,_)=_
      rw [htk]
      rfl
  ·have:j=(Av g.length).length:=by omega
   subst this
   rw [Zh,List.foldl_nil] at hR
   have:=fin r hR
   rw [SV,YT] at this
   exact this
theorem NQ {m:Nat} (ZG:Cp Tryz.prog 127 (Us m)):Cp Tryz.prog 127 (Us (m+1)):=
 Cp.gX (pV [nm+6]) (Ax gu (Ax HK (Ax NI (Ax lI (Ax jS (Ax Xa (Gb ZG Bn))))))) mixed Tryz.func127 (by kernel_rfl) (by kernel_rfl) λx h=>Ael x.1 x.2.1 x.2.2.1 x.2.2.2.1 x.2.2.2.2.1 x.2.2.2.2.2.1 x.2.2.2.2.2.2.1 x.2.2.2.2.2.2.2.1 x.2.2.2.2.2.2.2.2.1 x.2.2.2.2.2.2.2.2.2.1 x.2.2.2.2.2.2.2.2.2.2.1 h
theorem AS:Cp Tryz.prog 127 (Us 0):=
 Cp.gX Dq Bn mixed Tryz.func127 (by kernel_rfl) (by kernel_rfl) λ_ h=>absurd h.2 (Hc _)
theorem oB: ∀m,Cp Tryz.prog 127 (Us m)
 |0=>AS
 |m+1=>NQ (oB m)
theorem oA:Cp Tryz.prog 127 cm:=Cp.Agq (λx=>(x.2.2.2.2.1-List.length x.2.2.2.2.2.2.1).toNat) oB
end Go.Proofs.YtkkdpknjohcekaaGreat
