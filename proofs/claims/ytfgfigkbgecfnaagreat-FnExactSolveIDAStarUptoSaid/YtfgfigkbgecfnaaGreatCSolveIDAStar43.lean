/-
  Part 44 of the proof that the statement FnExactSolveIDAStar holds.
-/
import Derived.Test.YtfgfigkbgecfnaaGreatCSolveIDAStar42
import Derived.Shelf.RegionOpenPlain
import Derived.WalkKit
import Derived.Lib.Walk
namespace Go.Proofs.YtfgfigkbgecfnaaGreat
open Go.RowKit
def ap (p:List Int) (i:Nat):Nat:=(Kb p (i:Int)).toNat
def Pm (n:Nat) (p:List Int):Prop:=p.length=n/\cj p
theorem Pm.n1 {n:Nat} {p:List Int} (h:Pm n p):1<=n:=h.1▸h.2.pos
theorem Pm.n2 {n:Nat} {p:List Int} (h:Pm n p):n<=20:=h.1▸h.2.len
theorem Pm.bj {n:Nat} {p:List Int} (h:Pm n p) {i:Nat} (hi:i<n):Kb p (i:Int)=(ap p i:Int)/\ap p i<n:=by
 have oD:i<p.length:=by rw [h.1];exact hi
 have:=h.2.row _ (Ak oD)
 unfold ap
 rw [Mr oD]
 have h1:=h.1
 omega
theorem Pm.lt {n:Nat} {p:List Int} (h:Pm n p) {i:Nat} (hi:i<n):ap p i<n:=(h.bj hi).2
theorem Pm.ext {n:Nat} {p q:List Int} (h:Pm n p) (k:Pm n q) (e: ∀i,i<n->ap p i=ap q i):p=q:=by
 refine List.ext_getElem (by rw [h.1,k.1]) λi h1 h2=>?_
 have hi:i<n:=by rw [<-h.1];exact h1
 have a:=(h.bj hi).1
 have b:=(k.bj hi).1
 rw [Mr h1] at a
 rw [Mr h2] at b
 rw [a,b,e i hi]
theorem Pm.inj {n:Nat} {p:List Int} (h:Pm n p) {i j:Nat} (hi:i<n) (hj:j<n) (e:ap p i=ap p j):i=j:=
 h.2.inj i j (by rw [h.1];exact hi) (by rw [h.1];exact hj) e
theorem Pm.YP {n:Nat} {p:List Int} (h:Pm n p) {k:Nat} (hk:k<n): ∃i,i<n/\ap p i=k:=by
 obtain ⟨i,h1,h2⟩:=h.2.YP k (by rw [h.1];exact hk)
 exact ⟨i,by rw [<-h.1];exact h1,h2⟩
theorem Pm.of {n:Nat} {p:List Int} (hl:p.length=n) (h1:1<=n) (h2:n<=20) (f:Nat->Nat) (hf: ∀i,i<n->p[i]?=some (f i:Int)/\f i<n) (hi: ∀i j,i<n->j<n->f i=f j->i=j):Pm n p:=by
 refine ⟨hl,by omega,by omega,λy hy=>?_,?_⟩
 ·obtain ⟨i,hi,rfl⟩:=Cl.1 hy
  obtain ⟨h3,h4⟩:=hf i (by omega)
  rw [Ac hi] at h3
  rw [Ba h3]
  omega
 ·refine Fh.2 λi j h3 h4 h5 h6=>?_
  have a:=(hf i (by omega)).1
  have b:=(hf j (by omega)).1
  rw [Ac h3] at a
  rw [Ac h4] at b
  rw [Ba a,Ba b] at h6
  have:=hi i j (by omega) (by omega) (by omega)
  omega
theorem HL {n:Nat} {p q:List Int} (hp:Pm n p) (hq:Pm n q) {i:Nat} (hi:i<n):(Al p q)[i]?=some (ap q (ap p i):Int):=by
 have h1:i<p.length:=by rw [hp.1];exact hi
 unfold Al
 rw [Fm,Ac h1]
 have a:=(hp.bj hi).1
 rw [Mr h1] at a
 simp only [Am,a]
 rw [(hq.bj (hp.bj hi).2).1]
theorem Pm.comp {n:Nat} {p q:List Int} (hp:Pm n p) (hq:Pm n q):Pm n (Al p q):=
 Pm.of (by rw [Ps,hp.1]) hp.n1 hp.n2 (λi=>ap q (ap p i)) (λi hi=>⟨HL hp hq hi,hq.lt (hp.lt hi)⟩) λi j hi hj e=>hp.inj hi hj (hq.inj (hp.lt hi) (hp.lt hj) e)
theorem Abr {p:List Int} {i k:Nat} (h:p[i]?=some (k:Int)):ap p i=k:=by
 unfold ap Kb
 rw [Ai,Aj,h]
 simp
theorem Mb {n:Nat} {p q:List Int} (hp:Pm n p) (hq:Pm n q) {i:Nat} (hi:i<n):ap (Al p q) i=ap q (ap p i):=Abr (HL hp hq hi)
theorem kJ {n i:Nat} (hi:i<n):(upto n)[i]?=some (i:Int):=by simp [upto,hi]
theorem lR {n i:Nat} (hi:i<n):ap (upto n) i=i:=Abr (kJ hi)
theorem Pm.id {n:Nat} (h1:1<=n) (h2:n<=20):Pm n (upto n):=Pm.of (by simp [upto]) h1 h2 (λi=>i) (λi hi=>⟨kJ hi,hi⟩) λ_ _ _ _ e=>e
theorem VP {n:Nat} {p:List Int} (hp:Pm n p) {i:Nat} (hi:i<n):(Bl p)[ap p i]?=some (i:Int):=Adg hp.2 (by rw [hp.1];exact hi)
theorem kT {n:Nat} {p:List Int} (hp:Pm n p) {i:Nat} (hi:i<n):ap (Bl p) (ap p i)=i:=Abr (VP hp hi)
theorem BL {n:Nat} {p:List Int} (hp:Pm n p) {k:Nat} (hk:k<n):ap p (ap (Bl p) k)=k:=by
 obtain ⟨i,hi,rfl⟩:=hp.YP hk
 rw [kT hp hi]
theorem Pm.inv {n:Nat} {p:List Int} (hp:Pm n p):Pm n (Bl p):=by
 refine Pm.of (by rw [oI,hp.1]) hp.n1 hp.n2 (λk=>ap (Bl p) k) (λk hk=>?_) λi j hi hj e=>?_
 ·obtain ⟨i,hi,rfl⟩:=hp.YP hk
  rw [kT hp hi]
  exact ⟨VP hp hi,hi⟩
 ·rw [<-BL hp hi,<-BL hp hj,e]
theorem Kn {n:Nat} {p q r:List Int} (hp:Pm n p) (hq:Pm n q) (hr:Pm n r):Al (Al p q) r=Al p (Al q r):=
 ((hp.comp hq).comp hr).ext (hp.comp (hq.comp hr)) λi hi=>by rw [Mb (hp.comp hq) hr hi,Mb hp hq hi,Mb hp (hq.comp hr) hi,Mb hq hr (hp.lt hi)]
theorem comp_id {n:Nat} {p:List Int} (hp:Pm n p):Al p (upto n)=p:=
 (hp.comp (Pm.id hp.n1 hp.n2)).ext hp λi hi=>by rw [Mb hp (Pm.id hp.n1 hp.n2) hi,lR (hp.lt hi)]
theorem id_comp {n:Nat} {p:List Int} (hp:Pm n p):Al (upto n) p=p:=
 ((Pm.id hp.n1 hp.n2).comp hp).ext hp λi hi=>by rw [Mb (Pm.id hp.n1 hp.n2) hp hi,lR hi]
theorem o3 {n:Nat} {p:List Int} (hp:Pm n p):Al p (Bl p)=upto n:=
 (hp.comp hp.inv).ext (Pm.id hp.n1 hp.n2) λi hi=>by rw [Mb hp hp.inv hi,kT hp hi,lR hi]
theorem eZ {n:Nat} {p:List Int} (hp:Pm n p):Al (Bl p) p=upto n:=
 (hp.inv.comp hp).ext (Pm.id hp.n1 hp.n2) λi hi=>by rw [Mb hp.inv hp hi,BL hp hi,lR hi]
theorem vO {n:Nat} {p q:List Int} (hp:Pm n p) (hq:Pm n q) (h:Al p q=upto n):Bl p=q:=by
 rw [<-comp_id hp.inv,<-h,<-Kn hp.inv hp hq,eZ hp,id_comp hq]
theorem inv_mul {n:Nat} {p q:List Int} (hp:Pm n p) (hq:Pm n q):Bl (Al p q)=Al (Bl q) (Bl p):=
 vO (hp.comp hq) (hq.inv.comp hp.inv) (by
  rw [Kn hp hq (hq.inv.comp hp.inv),<-Kn hq hq.inv hp.inv,o3 hq,id_comp hp.inv,o3 hp])
theorem inv_inv {n:Nat} {p:List Int} (hp:Pm n p):Bl (Bl p)=p:=vO hp.inv hp (eZ hp)
theorem Adh {n:Nat} (h1:1<=n) (h2:n<=20):Bl (upto n)=upto n:=vO (Pm.id h1 h2) (Pm.id h1 h2) (comp_id (Pm.id h1 h2))
inductive db (n:Nat) (S:List Int->Prop):List Int->Prop where
 |id:db n S (upto n)
 |mul {p g:List Int} :db n S p->S g->db n S (Al p g)
 |inv {p g:List Int} :db n S p->S g->db n S (Al p (Bl g))
def GM (n:Nat) (S:List Int->Prop):Prop:=(1<=n/\n<=20)/\ ∀g,S g->Pm n g
theorem db.pm {n:Nat} {S:List Int->Prop} (hS:GM n S) {p:List Int} (h:db n S p):Pm n p:=by
 induction h with
 |id=>exact Pm.id hS.1.1 hS.1.2
 |mul _ hg ih=>exact ih.comp (hS.2 _ hg)
 |inv _ hg ih=>exact ih.comp (hS.2 _ hg).inv
theorem db.comp {n:Nat} {S:List Int->Prop} (hS:GM n S) {p q:List Int} (hp:db n S p) (hq:db n S q):db n S (Al p q):=by
 induction hq with
 |id=>rw [comp_id (hp.pm hS)];exact hp
 |mul hq hg ih=>rw [<-Kn (hp.pm hS) (hq.pm hS) (hS.2 _ hg)];exact .mul ih hg
 |inv hq hg ih=>rw [<-Kn (hp.pm hS) (hq.pm hS) (hS.2 _ hg).inv];exact .inv ih hg
theorem db.one {n:Nat} {S:List Int->Prop} (hS:GM n S) {g:List Int} (hg:S g):db n S g:=by
 have:=db.mul (n:=n) (S:=S) .id hg
 rwa [id_comp (hS.2 g hg)] at this
theorem db.An9 {n:Nat} {S:List Int->Prop} (hS:GM n S) {g:List Int} (hg:S g):db n S (Bl g):=by
 have:=db.inv (n:=n) (S:=S) .id hg
 rwa [id_comp (hS.2 g hg).inv] at this
theorem db.tW {n:Nat} {S:List Int->Prop} (hS:GM n S) {p:List Int} (hp:db n S p):db n S (Bl p):=by
 induction hp with
 |id=>rw [Adh hS.1.1 hS.1.2];exact .id
 |mul hq hg ih=>rw [inv_mul (hq.pm hS) (hS.2 _ hg)];exact (db.An9 hS hg).comp hS ih
 |inv hq hg ih=>rw [inv_mul (hq.pm hS) (hS.2 _ hg).inv,inv_inv (hS.2 _ hg)];exact (db.one hS hg).comp hS ih
theorem db.trans {n:Nat} {S S':List Int->Prop} (hS':GM n S') (h: ∀g,S g->db n S' g) {p:List Int} (hp:db n S p):db n S' p:=by
 induction hp with
 |id=>exact .id
 |mul _ hg ih=>exact ih.comp hS' (h _ hg)
 |inv _ hg ih=>exact ih.comp hS' ((h _ hg).tW hS')
abbrev PO:=Option (List Int)
abbrev Row:=List PO
abbrev Cp:=List Row
def Wb (row:Row):List Int:=(upto row.length).filter λy=>(row.getD y.toNat none).isSome
def Ig (T:Cp):Nat->Nat->List Int->Bool
 |0,_,_=>true
 |k+1,i,p=>match (T.getD i []).getD (Kb p (i:Int)).toNat none with
  |none=>false
  |some t=>Ig T k (i+1) (Al p (Bl t))
def Mg (row:Row):Nat:=row.countP (·.isNone)
def bu (x:Int) (s:Row×List Int) (o:PO):Row×List Int:=
 match s.1.getD (Kb (o.getD []) x).toNat none with
 |some _=>s
 |none=>(s.1.set (Kb (o.getD []) x).toNat (some (Al ((s.1.getD x.toNat none).getD []) (o.getD []))),s.2++ [Kb (o.getD []) x])
def bk (x:Int) (gs:List PO) (s:Row×List Int):Row×List Int:=gs.foldl (bu x) s
def aT (gs:List PO):Nat->List Int->Row->Row
 |0,_,row=>row
 |_+1,[],row=>row
 |f+1,x::q,row=>aT gs f (bk x gs (row,q)).2 (bk x gs (row,q)).1
def ae (gs:List PO) (row:Row):Row:=aT gs 100 (Wb row) row
def Ut (row:Row) (y:Int) (g:PO):List Int:=
 Al (Al ((row.getD y.toNat none).getD []) (g.getD [])) (Bl ((row.getD (Kb (g.getD []) y).toNat none).getD []))
def iz (row:Row) (gs:List PO):List (List Int):=(Wb row).flatMap λy=>gs.map λg=>Ut row y g
def Hu:Nat->Nat->List Int->Cp×Cp->Cp×Cp
 |0,_,_,s=>s
 |k+1,l,p,s=>
  if Ig s.2 (k+1) l p=true then s else
   (iz (ae (s.1.getD l []++ [some p]) (s.2.getD l [])) (s.1.getD l []++ [some p])).foldl (λs q=>Hu k (l+1) q s)
    (s.1.set l (s.1.getD l []++ [some p]),s.2.set l (ae (s.1.getD l []++ [some p]) (s.2.getD l [])))
def Fx (l:Nat) (p:List Int):Prop:= ∀i,i<l->ap p i=i
def Gn (n:Nat) (gs:List PO):List Int->Prop:=db n λg=>some g∈gs
structure Lvl (n l:Nat) (gs:List PO) (row:Row) (H:List Int->Prop):Prop where
 pg: ∀o∈gs,∃g,o=some g/\Pm n g/\Fx l g
 rl:row.length=n
 r0:row.getD l none=some (upto n)
 rt: ∀y t,row.getD y none=some t->Pm n t/\Fx l t/\ap t l=y/\Gn n gs t
 cl: ∀y t g,row.getD y none=some t->some g∈gs->row.getD (ap g y) none≠none
 sg: ∀y t g t',row.getD y none=some t->some g∈gs->row.getD (ap g y) none=some t'->H (Al (Al t g) (Bl t'))
def lC (n:Nat):Nat->Nat->Cp×Cp->Prop
 |0,l,s=>s.1.getD l []= []
 |k+1,l,s=>lC n k (l+1) s/\Lvl n l (s.1.getD l []) (s.2.getD l []) (λq=>Ig s.2 k (l+1) q=true)/\ ∀g,some g∈s.1.getD (l+1) []->Gn n (s.1.getD l []) g
theorem Aii {l1 l2:List Nat} (hn:l1.Nodup) (hs: ∀x∈l1,x∈l2) (hl:l2.length<=l1.length): ∀x∈l2,x∈l1:=by
 induction l1 generalizing l2 with
 |nil=>
  intro x hx
  have:l2= []:=Cn (by simpa using hl)
  rw [this] at hx;cases hx
 |cons a l ih=>
  intro x hx
  obtain ⟨h1,h2⟩:=Cd.1 hn
  have ha:=hs a (by simp)
  by_cases e:x=a
  ·subst e;simp
  ·refine Ar _ (ih (l2:=l2.erase a) h2 (λy hy=>?_) ?_ x ((List.mem_erase_of_ne e).2 hx))
   ·have hya:y≠a:= λe'=>h1 (by rw [<-e'];exact hy)
    exact (List.mem_erase_of_ne hya).2 (hs y (by simp [hy]))
   ·rw [List.length_erase_of_mem ha]
    simp only [Aw] at hl
    omega
theorem RK {n:Nat} {g:List Int} (hg:Pm n g) (D:Nat->Bool) (h: ∀y,y<n->D y=true->D (ap g y)=true) {y:Nat} (hy:y<n) (hD:D y=true): ∃x,x<n/\D x=true/\ap g x=y:=by
 have:=Aii (l1:=((List.range n).filter D).map (ap g)) (l2:=(List.range n).filter D) ?_ ?_ (by simp) y (Ch.2 ⟨Eo.2 hy,hD⟩)
 ·obtain ⟨x,hx,e⟩:=Bi.1 this
  obtain ⟨h1,h2⟩:=Ch.1 hx
  exact ⟨x,Eo.1 h1,h2,e⟩
 ·refine List.pairwise_map.2 (List.Pairwise.imp_of_mem ?_ (List.nodup_range.filter D))
  intro a b ha hb Ih e
  exact Ih (hg.inj (Eo.1 (Ch.1 ha).1) (Eo.1 (Ch.1 hb).1) e)
 ·intro x hx
  obtain ⟨z,hz,rfl⟩:=Bi.1 hx
  obtain ⟨h1,h2⟩:=Ch.1 hz
  exact Ch.2 ⟨Eo.2 (hg.lt (Eo.1 h1)),h z (Eo.1 h1) h2⟩
theorem oz {row:Row} {y:Nat} {t:List Int} (h:row.getD y none=some t):y<row.length:=by
 rw [Aj] at h
 refine Bw λhn=>?_
 rw [Ec (by omega)] at h
 cases h
theorem Lvl.pms {n l:Nat} {gs:List PO} {row:Row} {H:List Int->Prop} (h:Lvl n l gs row H):GM n λg=>some g∈gs:=by
 refine ⟨?_,λg hg=>?_⟩
 ·have:=(h.rt l _ h.r0).1
  exact ⟨this.n1,this.n2⟩
 ·obtain ⟨g',e,h1,_⟩:=h.pg _ hg
  cases e;exact h1
theorem Fx.inv {n l:Nat} {p:List Int} (hp:Pm n p) (h:Fx l p) (hl:l<=n):Fx l (Bl p):= λi hi=>by
 have:=kT hp (i:=i) (by omega)
 rwa [h i hi] at this
theorem Fx.comp {n l:Nat} {p q:List Int} (hp:Pm n p) (hq:Pm n q) (h1:Fx l p) (h2:Fx l q) (hl:l<=n):Fx l (Al p q):= λi hi=>by
 rw [Mb hp hq (by omega),h1 i hi,h2 i hi]
theorem Fx.all {n:Nat} {p:List Int} (hp:Pm n p) (h:Fx n p):p=upto n:=hp.ext (Pm.id hp.n1 hp.n2) λi hi=>by rw [h i hi,lR hi]
theorem Fx.div {n l:Nat} {p t:List Int} (hp:Pm n p) (ht:Pm n t) (h1:Fx l p) (h2:Fx l t) (hl:l<n) (e:ap t l=ap p l):Fx (l+1) (Al p (Bl t)):= λi hi=>by
 rw [Mb hp ht.inv (by omega)]
 by_cases hil:i<l
 ·rw [h1 i hil];exact h2.inv ht (by omega) i hil
 ·have:i=l:=by omega
  subst this
  rw [<-e,kT ht hl]
theorem Uy {n:Nat} (h1:1<=n) (h2:n<=20): ∀(k l:Nat) (s:Cp×Cp),l+k=n->lC n k l s-> ∀p,Pm n p->Fx l p->(Ig s.2 k l p=true↔Gn n (s.1.getD l []) p)
 |0,l,s,hk,hc,p,hp,hf=>by
  have hl:l=n:=by omega
  subst hl
  rw [hf.all hp]
  exact ⟨λ_=> .id,λ_=>rfl⟩
 |k+1,l,s,hk,hc,p,hp,hf=>by
  obtain ⟨c1,c2,c3⟩:=hc
  have hS:=c2.pms
  have ih:=Uy h1 h2 k (l+1) s (by omega) c1
  have hS1:GM n λg=>some g∈s.1.getD (l+1) []:=⟨⟨h1,h2⟩,λg hg=>(c3 g hg).pm hS⟩
  have iq:l<n:=by omega
  constructor
  ·intro h
   simp only [Ig] at h
   rw [show (Kb p (l:Int)).toNat=ap p l from rfl] at h
   split at h
   ·cases h
   ·rename_i t ht
    obtain ⟨t1,t2,t3,t4⟩:=c2.rt _ _ ht
    have OC:=Fx.div hp t1 hf t2 iq t3
    have hg:=((ih _ (hp.comp t1.inv) OC).1 h).trans hS c3
    have:=db.comp hS hg t4
    rwa [Kn hp t1.inv t1,eZ t1,comp_id hp] at this
  ·intro h
   have key: ∀q,Gn n (s.1.getD l []) q-> ∃t,(s.2.getD l []).getD (ap q l) none=some t/\Gn n (s.1.getD (l+1) []) (Al q (Bl t)):=by
    intro q hq
    induction hq with
    |id=>
     refine ⟨upto n,by rw [lR iq];exact c2.r0,?_⟩
     rw [Adh h1 h2,comp_id (Pm.id h1 h2)]
     exact .id
    | @mul q g hq hg ihq=>
     obtain ⟨t,e1,e2⟩:=ihq
     have hqp:=db.pm hS hq
     have Uj:=hS.2 _ hg
     obtain ⟨t1,t2,t3,t4⟩:=c2.rt _ _ e1
     cases e3:(s.2.getD l []).getD (ap g (ap q l)) none with
     |none=>exact absurd e3 (c2.cl _ _ _ e1 hg)
     |some t'=>
      obtain ⟨u1,u2,u3,u4⟩:=c2.rt _ _ e3
      have hsg:=c2.sg _ _ _ _ e1 hg e3
      have hfg:Fx (l+1) (Al (Al t g) (Bl t')):=Fx.div (t1.comp Uj) u1 (Fx.comp t1 Uj t2 (by obtain ⟨g',e,_,h⟩:=c2.pg _ hg;cases e;exact h) (by omega)) u2 iq (by rw [u3,Mb t1 Uj iq,t3])
      have OD:=(ih _ ((t1.comp Uj).comp u1.inv) hfg).1 hsg
      refine ⟨t',by rw [Mb hqp Uj iq];exact e3,?_⟩
      have:=db.comp hS1 e2 OD
      rwa [show Al (Al q (Bl t)) (Al (Al t g) (Bl t'))=Al (Al q g) (Bl t') by
       rw [Kn hqp t1.inv ((t1.comp Uj).comp u1.inv),Kn t1 Uj u1.inv,<-Kn t1.inv t1 (Uj.comp u1.inv),eZ t1,id_comp (Uj.comp u1.inv),Kn hqp Uj u1.inv]] at this
    | @inv q g hq hg ihq=>
     obtain ⟨t,e1,e2⟩:=ihq
     have hqp:=db.pm hS hq
     have Uj:=hS.2 _ hg
     obtain ⟨t1,t2,t3,t4⟩:=c2.rt _ _ e1
     have hy:ap q l<n:=hqp.lt iq
     obtain ⟨x,hx,hD,he⟩:=RK Uj (λy=>((s.2.getD l []).getD y none).isSome) (λy hy hd=>by
      obtain ⟨t0,ht0⟩:=iV.1 hd
      exact Option.ne_none_iff_isSome.1 (c2.cl _ _ _ ht0 hg)) hy (by rw [e1];rfl)
     obtain ⟨t',e3⟩:=iV.1 hD
     obtain ⟨u1,u2,u3,u4⟩:=c2.rt _ _ e3
     have hsg:=c2.sg _ _ _ _ e3 hg (by rw [he];exact e1)
     have hfg:Fx (l+1) (Al (Al t' g) (Bl t)):=Fx.div (u1.comp Uj) t1 (Fx.comp u1 Uj u2 (by obtain ⟨g',e,_,h⟩:=c2.pg _ hg;cases e;exact h) (by omega)) t2 iq (by rw [t3,Mb u1 Uj iq,u3,he])
     have OD:=db.tW hS1 ((ih _ ((u1.comp Uj).comp t1.inv) hfg).1 hsg)
     have hax:ap (Bl g) (ap q l)=x:=by rw [<-he,kT Uj hx]
     refine ⟨t',by rw [Mb hqp Uj.inv iq,hax];exact e3,?_⟩
     have:=db.comp hS1 e2 OD
     rwa [show Al (Al q (Bl t)) (Bl (Al (Al t' g) (Bl t)))=Al (Al q (Bl g)) (Bl t') by
      rw [inv_mul (u1.comp Uj) t1.inv,inv_inv t1,inv_mul u1 Uj,Kn hqp t1.inv (t1.comp (Uj.inv.comp u1.inv)),<-Kn t1.inv t1 (Uj.inv.comp u1.inv),eZ t1,id_comp (Uj.inv.comp u1.inv),Kn hqp Uj.inv u1.inv]] at this
   obtain ⟨t,e1,e2⟩:=key p h
   obtain ⟨t1,t2,t3,t4⟩:=c2.rt _ _ e1
   simp only [Ig]
   rw [show (Kb p (l:Int)).toNat=ap p l from rfl,e1]
   exact (ih _ (hp.comp t1.inv) (Fx.div hp t1 hf t2 iq t3)).2 e2
theorem Lh {α:Type} (xs:List α) (i j:Nat) (x d:α):(xs.set i x).getD j d=if i=j/\i<xs.length then x else xs.getD j d:=by
 rw [Aj,Fo,Aj]
 by_cases e:i=j
 ·subst e
  by_cases h:i<xs.length
  ·rw [Ab rfl,Ab h,Ab ⟨rfl,h⟩];rfl
  ·rw [Ab rfl,Ag h,Ag (λhh=>h hh.2),Ec (by omega)]
 ·rw [Ag e,Ag (λhh=>e hh.1)]
theorem db.mono {n:Nat} {S S':List Int->Prop} (h: ∀g,S g->S' g) {p:List Int} (hp:db n S p):db n S' p:=by
 induction hp with
 |id=>exact .id
 |mul _ hg ih=>exact .mul ih (h _ hg)
 |inv _ hg ih=>exact .inv ih (h _ hg)
structure Vt (n l:Nat) (gs:List PO) (row:Row):Prop where
 rl:row.length=n
 r0:row.getD l none=some (upto n)
 rt: ∀y t,row.getD y none=some t->Pm n t/\Fx l t/\ap t l=y/\Gn n gs t
def PG (n l:Nat) (gs:List PO):Prop:= ∀o∈gs,∃g,o=some g/\Pm n g/\Fx l g
structure Ext (n l:Nat) (gs:List PO) (row:Row) (q:List Int) (s':Row×List Int):Prop where
 ok:Vt n l gs s'.1
 mono: ∀y t,row.getD y none=some t->s'.1.getD y none=some t
 phi:s'.2.length+Mg s'.1=q.length+Mg row
 xE: ∀y∈q,y∈s'.2
 new: ∀y∈s'.2,y∈q\/ ∃yn:Nat,y=yn/\s'.1.getD yn none≠none
 src: ∀y:Nat,s'.1.getD y none≠none->row.getD y none≠none\/(y:Int)∈s'.2
theorem Ext.refl {n l:Nat} {gs:List PO} {row:Row} {q:List Int} (h:Vt n l gs row):Ext n l gs row q (row,q):=⟨h,λ_ _ h=>h,rfl,λ_ h=>h,λ_ h=> .inl h,λ_ h=> .inl h⟩
theorem gr {a b:Row} (h: ∀y t,a.getD y none=some t->b.getD y none=some t) {y:Nat} (hy:a.getD y none≠none):b.getD y none≠none:=by
 cases e:a.getD y none with
 |none=>exact absurd e hy
 |some t=>rw [h y t e];simp
theorem Ext.trans {n l:Nat} {gs:List PO} {row:Row} {q:List Int} {s1 s2:Row×List Int} (h:Ext n l gs row q s1) (k:Ext n l gs s1.1 s1.2 s2):Ext n l gs row q s2:=by
 refine ⟨k.ok,λy t e=>k.mono y t (h.mono y t e),k.phi.trans h.phi,λy hy=>k.xE y (h.xE y hy),λy hy=>?_,λy hy=>?_⟩
 ·rcases k.new y hy with h1|h1
  ·rcases h.new y h1 with h2|⟨yn,h2,h3⟩
   ·exact .inl h2
   ·exact .inr ⟨yn,h2,gr k.mono h3⟩
  ·exact .inr h1
 ·rcases k.src y hy with h1|h1
  ·exact (h.src y h1).imp id λh2=>k.xE _ h2
  ·exact .inr h1
theorem qH {row:Row} {i:Nat} {t:List Int} (h:row.getD i none=none) (hi:i<row.length):Mg (row.set i (some t))+1=Mg row:=by
 unfold Mg
 have e:row[i]=none:=by
  rw [Aj,Ac hi] at h
  exact h
 have h1:=List.countP_set (p:= λo:PO=>o.isNone) (l:=row) (i:=i) (a:=some t) hi
 have XW:0<row.countP (·.isNone):=List.countP_pos_iff.2 ⟨row[i],Ak hi,by rw [e];rfl⟩
 rw [h1,e]
 simp
 omega
theorem Aih {n l:Nat} {gs:List PO} (iq:l<n) (hg:PG n l gs) {row:Row} {q:List Int} (h:Vt n l gs row) {x:Nat} {t:List Int} (hx:row.getD x none=some t) {g:List Int} (ho:some g∈gs):
  Ext n l gs row q (bu (x:Int) (row,q) (some g))/\(bu (x:Int) (row,q) (some g)).1.getD (ap g x) none≠none:=by
 obtain ⟨g',e,Uj,hgf⟩:=hg _ ho
 cases e
 obtain ⟨t1,t2,t3,t4⟩:=h.rt _ _ hx
 have hxn:x<n:=by rw [<-h.rl];exact oz hx
 obtain ⟨a1,a2⟩:=Uj.bj hxn
 unfold bu
 simp only [Cc,a1,Ai]
 cases e:row.getD (ap g x) none with
 |some u=>exact ⟨Ext.refl h,by simp only;rw [e];simp⟩
 |none=>
  simp only [hx,Cc]
  have hl:ap g x<row.length:=by rw [h.rl];exact a2
  have hS:GM n λg=>some g∈gs:=⟨⟨t1.n1,t1.n2⟩,λg Tr=>by obtain ⟨g',e,h1,_⟩:=hg _ Tr;cases e;exact h1⟩
  have Au: ∀y,(row.set (ap g x) (some (Al t g))).getD y none=if ap g x=y/\ap g x<row.length then some (Al t g) else row.getD y none:= λy=>Lh _ _ _ _ _
  have Ih: ∀y u,row.getD y none=some u->ap g x≠y:= λy u hu e'=>by rw [<-e',e] at hu;cases hu
  refine ⟨⟨⟨by simp [h.rl],?_,λy u hu=>?_⟩,λy u hu=>?_,?_,λy hy=>Bd _ hy,λy hy=>?_,λy hy=>?_⟩,?_⟩
  ·rw [Au,Ag (λhh=>Ih l _ h.r0 hh.1)];exact h.r0
  ·rw [Au] at hu
   split at hu
   ·rename_i hc
    cases hu
    exact ⟨t1.comp Uj,Fx.comp t1 Uj t2 hgf (by omega),by rw [Mb t1 Uj iq,t3];exact hc.1, .mul t4 ho⟩
   ·exact h.rt y u hu
  ·show (row.set (ap g x) (some (Al t g))).getD y none=some u
   rw [Au,Ag (λhh=>Ih y u hu hh.1)];exact hu
  ·have:=qH (t:=Al t g) e hl
   simp only [Ax,Aw,Ex]
   omega
  ·rcases Az.1 hy with hy|hy
   ·exact .inl hy
   ·simp only [Ad] at hy
    exact .inr ⟨ap g x,hy,by show (row.set (ap g x) (some (Al t g))).getD (ap g x) none≠none;rw [Au,Ab ⟨rfl,hl⟩];simp⟩
  ·have hy:(row.set (ap g x) (some (Al t g))).getD y none≠none:=hy
   rw [Au] at hy
   split at hy
   ·rename_i hc
    exact .inr (by show (y:Int)∈q++ [(ap g x:Int)];rw [<-hc.1];simp)
   ·exact .inl hy
  ·show (row.set (ap g x) (some (Al t g))).getD (ap g x) none≠none
   rw [Au,Ab ⟨rfl,hl⟩];simp
theorem Aej {n l:Nat} {gs:List PO} (iq:l<n) (hg:PG n l gs): ∀(gs':List PO) {row:Row} {q:List Int},(∀o∈gs',o∈gs)->Vt n l gs row-> ∀ {x:Nat} {t:List Int},row.getD x none=some t->
  Ext n l gs row q (bk (x:Int) gs' (row,q))/\ ∀g,some g∈gs'->(bk (x:Int) gs' (row,q)).1.getD (ap g x) none≠none
 | [],row,q,_,h,x,t,hx=>⟨Ext.refl h,λg hg=>by cases hg⟩
 |o::gs',row,q,hs,h,x,t,hx=>by
  obtain ⟨g,rfl,_,_⟩:=hg o (hs o (by simp))
  obtain ⟨e1,e2⟩:=Aih (q:=q) iq hg h hx (hs (some g) (by simp))
  obtain ⟨f1,f2⟩:=Aej iq hg gs' (q:=(bu (x:Int) (row,q) (some g)).2) (λo ho=>hs o (by simp [ho])) e1.ok (e1.mono x t hx)
  have hb:bk (x:Int) (some g::gs') (row,q)=bk (x:Int) gs' ((bu (x:Int) (row,q) (some g)).1,(bu (x:Int) (row,q) (some g)).2):=rfl
  rw [hb]
  refine ⟨e1.trans f1,λg' Tr=>?_⟩
  rcases Be.1 Tr with e|Tr
  ·cases e;exact gr f1.mono e2
  ·exact f2 g' Tr
def WU (gs:List PO) (q:List Int) (row:Row):Prop:=
 (∀y∈q,∃yn:Nat,y=yn/\row.getD yn none≠none)/\ ∀y:Nat,row.getD y none≠none->(y:Int)∈q\/ ∀g,some g∈gs->row.getD (ap g y) none≠none
theorem SA {n l:Nat} {gs:List PO} (iq:l<n) (hg:PG n l gs) {x:Int} {q:List Int} {row:Row} (h:Vt n l gs row) (hq:WU gs (x::q) row):
  Ext n l gs row q (bk x gs (row,q))/\WU gs (bk x gs (row,q)).2 (bk x gs (row,q)).1/\ ∃(xn:Nat) (t:List Int),x=xn/\row.getD xn none=some t:=by
 obtain ⟨xn,rfl,hx⟩:=hq.1 x (by simp)
 cases e:row.getD xn none with
 |none=>exact absurd e hx
 |some t=>
  obtain ⟨e1,e2⟩:=Aej iq hg gs (q:=q) (λo ho=>ho) h e
  refine ⟨e1,⟨λy hy=>?_,λy hy=>?_⟩,xn,t,rfl,e⟩
  ·rcases e1.new y hy with h1|h1
   ·obtain ⟨yn,h2,h3⟩:=hq.1 y (by simp [h1])
    exact ⟨yn,h2,gr e1.mono h3⟩
   ·exact h1
  ·rcases e1.src y hy with h1|h1
   ·rcases hq.2 y h1 with h2|h2
    ·rcases Be.1 h2 with h2|h2
     ·have:y=xn:=by omega
      subst this
      exact .inr λg Tr=>e2 g Tr
     ·exact .inl (e1.xE _ h2)
    ·exact .inr λg Tr=>gr e1.mono (h2 g Tr)
   ·exact .inl h1
theorem Aeq {n l:Nat} {gs:List PO} (iq:l<n) (hg:PG n l gs): ∀(f:Nat) (q:List Int) (row:Row),q.length+Mg row<=f->Vt n l gs row->WU gs q row->
  Vt n l gs (aT gs f q row)/\(∀y t,row.getD y none=some t->(aT gs f q row).getD y none=some t)/\ ∀y t g,(aT gs f q row).getD y none=some t->some g∈gs->(aT gs f q row).getD (ap g y) none≠none
 |0,q,row,hf,h,hq=>by
  have:q= []:=Cn (by omega)
  subst this
  exact ⟨h,λ_ _ h=>h,λy t g e Tr=>by
   rcases hq.2 y (by rw [show row.getD y none=some t from e];simp) with h1|h1
   ·cases h1
   ·exact h1 g Tr⟩
 |f+1,[],row,hf,h,hq=>⟨h,λ_ _ h=>h,λy t g e Tr=>by
   rcases hq.2 y (by rw [show row.getD y none=some t from e];simp) with h1|h1
   ·cases h1
   ·exact h1 g Tr⟩
 |f+1,x::q,row,hf,h,hq=>by
  obtain ⟨e1,e2,_⟩:=SA iq hg h hq
  obtain ⟨r1,r2,r3⟩:=Aeq iq hg f _ _ (by have:=e1.phi;simp only [Aw] at hf;omega) e1.ok e2
  exact ⟨r1,λy t e=>r2 y t (e1.mono y t e),r3⟩
theorem bE {row:Row} {y:Int} :y∈Wb row↔ ∃yn:Nat,y=yn/\row.getD yn none≠none:=by
 unfold Wb
 rw [Ch,aH]
 constructor
 ·rintro ⟨h1,h2⟩
  exact ⟨y.toNat,by omega,Option.ne_none_iff_isSome.2 h2⟩
 ·rintro ⟨yn,rfl,h⟩
  obtain ⟨t,ht⟩:=Ui.1 h
  exact ⟨by have:=oz ht;omega,by simpa using Option.ne_none_iff_isSome.1 h⟩
theorem DK (row:Row):(Wb row).length<=row.length:=by
 unfold Wb
 refine Jd (List.length_filter_le _ _) (by simp [upto])
theorem jT (row:Row):Mg row<=row.length:=List.countP_le_length
theorem KP {n l:Nat} {gs:List PO} (iq:l<n) (h2:n<=20) (hg:PG n l gs) {row:Row} (h:Vt n l gs row):
  Vt n l gs (ae gs row)/\(∀y t,row.getD y none=some t->(ae gs row).getD y none=some t)/\ ∀y t g,(ae gs row).getD y none=some t->some g∈gs->(ae gs row).getD (ap g y) none≠none:=
 Aeq iq hg 100 _ _ (by have:=DK row;have:=jT row;have:=h.rl;omega) h ⟨λy hy=>bE.1 hy,λy hy=> .inl (bE.2 ⟨y,rfl,hy⟩)⟩
theorem HG {n l:Nat} {gs:List PO} (iq:l<n) (hg:PG n l gs): ∀(f:Nat) (q:List Int) (row:Row),q.length+Mg row<=f->Vt n l gs row->WU gs q row->aT gs f q row=aT gs (q.length+Mg row) q row
 |0,q,row,hf,_,_=>by
  have:q.length+Mg row=0:=by omega
  rw [this]
 |f+1,[],row,hf,_,_=>by
  cases h:([]:List Int).length+Mg row with
  |zero=>rfl
  |succ m=>rfl
 |f+1,x::q,row,hf,h,hq=>by
  obtain ⟨e1,e2,_⟩:=SA iq hg h hq
  have Ahf:=e1.phi
  have:(x::q).length+Mg row=(q.length+Mg row)+1:=by simp only [Aw];omega
  rw [this]
  simp only [aT]
  rw [HG iq hg f _ _ (by simp only [Aw] at hf;omega) e1.ok e2,Ahf]
def xJ (row:Row):Nat:=row.countP (·.isSome)
theorem qg: ∀(a b:Row),a.length=b.length->(∀y t,a.getD y none=some t->b.getD y none=some t)->xJ a<=xJ b/\(xJ a=xJ b->a=b)
 | [],[],_,_=>⟨Ao _,λ_=>rfl⟩
 | [],_::_,h,_=>by simp at h
 |_::_,[],h,_=>by simp at h
 |x::a,y::b,h,hm=>by
  obtain ⟨h1,h2⟩:=qg a b (by simpa using h) λi t e=>by simpa using hm (i+1) t (by simpa using e)
  unfold xJ at h1 h2⊢
  cases x with
  |none=>
   cases y with
   |none=>simp only [List.countP_cons];exact ⟨by simpa using h1,λe=>by rw [h2 (by simpa using e)]⟩
   |some u=>
    simp only [List.countP_cons,Option.isSome_none,Option.isSome_some]
    simp only [Pv,Dj,Ul]
    exact ⟨by omega,λe=>by omega⟩
  |some t=>
   have:=hm 0 t (by simp)
   simp only [Yj] at this
   subst this
   simp only [List.countP_cons]
   exact ⟨by simpa using h1,λe=>by rw [h2 (by simpa using e)]⟩
def jW (T:Cp):Nat->Nat->Nat
 |0,_=>0
 |k+1,l=>xJ (T.getD l [])+jW T k (l+1)
def GBf:Nat->Nat->Cp×Cp->Prop
 |0,_,_=>True
 |k+1,l,s=>GBf k (l+1) s/\(s.1.getD l []).length<=jW s.2 (k+1) l
structure Wr (l0:Nat) (s s':Cp×Cp):Prop where
 YE:s'.1.length=s.1.length
 vV:s'.2.length=s.2.length
 low: ∀i,i<l0->s'.1.getD i []=s.1.getD i []/\s'.2.getD i []=s.2.getD i []
 zq: ∀i o,o∈s.1.getD i []->o∈s'.1.getD i []
 xp: ∀i y t,(s.2.getD i []).getD y none=some t->(s'.2.getD i []).getD y none=some t
 Aep: ∀i,(s'.2.getD i []).length=(s.2.getD i []).length
theorem Wr.refl (l0:Nat) (s:Cp×Cp):Wr l0 s s:=⟨rfl,rfl,λ_ _=>⟨rfl,rfl⟩,λ_ _ h=>h,λ_ _ _ h=>h,λ_=>rfl⟩
theorem Wr.trans {l0 l1:Nat} {a b c:Cp×Cp} (h:Wr l0 a b) (k:Wr l1 b c) (hl:l0<=l1):Wr l0 a c:=
 ⟨k.YE.trans h.YE,k.vV.trans h.vV,λi hi=>⟨(k.low i (by omega)).1.trans (h.low i hi).1,(k.low i (by omega)).2.trans (h.low i hi).2⟩,λi o ho=>k.zq i o (h.zq i o ho),λi y t e=>k.xp i y t (h.xp i y t e),λi=>(k.Aep i).trans (h.Aep i)⟩
theorem Wr.Iv {l0 l1:Nat} {a b:Cp×Cp} (h:Wr l1 a b) (hl:l0<=l1):Wr l0 a b:=(Wr.refl l0 a).trans h hl
theorem dy {T T':Cp} : ∀(k l:Nat) (p:List Int),(∀i,l<=i->i<l+k->T'.getD i []=T.getD i [])->Ig T' k l p=Ig T k l p
 |0,_,_,_=>rfl
 |k+1,l,p,h=>by
  simp only [Ig]
  rw [h l (Ao _) (by omega)]
  split
  ·rfl
  ·exact dy k (l+1) _ λi h1 h2=>h i (by omega) (by omega)
theorem Vk {n:Nat} {s s':Cp×Cp} : ∀(k l:Nat),(∀i,l<=i->s'.1.getD i []=s.1.getD i []/\s'.2.getD i []=s.2.getD i [])->lC n k l s->lC n k l s'
 |0,l,h,hc=>by simp only [lC] at hc⊢;rw [(h l (Ao _)).1];exact hc
 |k+1,l,h,hc=>by
  simp only [lC] at hc⊢
  obtain ⟨c1,c2,c3⟩:=hc
  refine ⟨Vk k (l+1) (λi hi=>h i (by omega)) c1,?_,?_⟩
  ·rw [(h l (Ao _)).1,(h l (Ao _)).2]
   have e:(λq=>Ig s'.2 k (l+1) q=true)= λq=>Ig s.2 k (l+1) q=true:=funext λq=>by rw [dy k (l+1) q λi h1 h2=>(h i (by omega)).2]
   rw [e];exact c2
  ·rw [(h (l+1) (by omega)).1,(h l (Ao _)).1];exact c3
theorem zW {T T':Cp} : ∀(k l:Nat),(∀i,l<=i->T'.getD i []=T.getD i [])->jW T' k l=jW T k l
 |0,_,_=>rfl
 |k+1,l,h=>by simp only [jW];rw [h l (Ao _),zW k (l+1) λi hi=>h i (by omega)]
theorem cB {s s':Cp×Cp} : ∀(k l:Nat),(∀i,l<=i->s'.1.getD i []=s.1.getD i []/\s'.2.getD i []=s.2.getD i [])->GBf k l s->GBf k l s'
 |0,_,_,_=>trivial
 |k+1,l,h,hg=>⟨cB k (l+1) (λi hi=>h i (by omega)) hg.1,by
  rw [(h l (Ao _)).1,zW (k+1) l λi hi=>(h i hi).2];exact hg.2⟩
theorem wq {T T':Cp} (hl: ∀i,(T'.getD i []).length=(T.getD i []).length) (hm: ∀i y t,(T.getD i []).getD y none=some t->(T'.getD i []).getD y none=some t):
  ∀(k l:Nat),jW T k l<=jW T' k l/\(jW T k l=jW T' k l-> ∀i,l<=i->i<l+k->T'.getD i []=T.getD i [])
 |0,l=>⟨Ao _,λ_ i h1 h2=>by omega⟩
 |k+1,l=>by
  obtain ⟨h1,h2⟩:=wq hl hm k (l+1)
  obtain ⟨h3,h4⟩:=qg (T.getD l []) (T'.getD l []) (hl l).symm (hm l)
  simp only [jW]
  refine ⟨by omega,λe i g1 g2=>?_⟩
  by_cases hi:i=l
  ·subst hi;exact (h4 (by omega)).symm
  ·exact h2 (by omega) i (by omega) (by omega)
def V (n k l:Nat) (s:Cp×Cp):Prop:=s.1.length=n/\s.2.length=n/\lC n k l s/\GBf k l s
structure Abb (n k l:Nat) (s:Cp×Cp) (p:List Int) (s':Cp×Cp):Prop where
 v:V n k l s'
 grow:Wr l s s'
 Amw:Gn n (s'.1.getD l []) p
 gens: ∀o∈s'.1.getD l [],o∈s.1.getD l []\/o=some p
theorem Lvl.row {n l:Nat} {gs:List PO} {row:Row} {H:List Int->Prop} (h:Lvl n l gs row H):Vt n l gs row:=⟨h.rl,h.r0,h.rt⟩
theorem ku {row:Row} {y:Nat} {t g t':List Int} (h1:row.getD y none=some t) (h2:row.getD (ap g y) none=some t'):Ut row (y:Int) (some g)=Al (Al t g) (Bl t'):=by
 unfold Ut
 rw [Ai,h1,Cc,Cc,show (Kb g (y:Int)).toNat=ap g y from rfl,h2,Cc]
theorem qF {n l:Nat} {gs:List PO} {row:Row} (hg:PG n l gs) (_h:Vt n l gs row) (hc: ∀y t g,row.getD y none=some t->some g∈gs->row.getD (ap g y) none≠none) {q:List Int} :
  q∈iz row gs↔ ∃(y:Nat) (t g t':List Int),row.getD y none=some t/\some g∈gs/\row.getD (ap g y) none=some t'/\q=Al (Al t g) (Bl t'):=by
 unfold iz
 rw [Hs]
 constructor
 ·rintro ⟨y,hy,hq⟩
  obtain ⟨o,ho,rfl⟩:=Bi.1 hq
  obtain ⟨yn,rfl,hyn⟩:=bE.1 hy
  obtain ⟨t,ht⟩:=Ui.1 hyn
  obtain ⟨g,rfl,Uj,_⟩:=hg o ho
  obtain ⟨t',xD⟩:=Ui.1 (hc yn t g ht ho)
  exact ⟨yn,t,g,t',ht,ho,xD,ku ht xD⟩
 ·rintro ⟨y,t,g,t',h1,h2,h3,rfl⟩
  obtain ⟨g',e,Uj,_⟩:=hg _ h2
  cases e
  exact ⟨(y:Int),bE.2 ⟨y,rfl,by rw [h1];simp⟩,Bi.2 ⟨some g,h2,ku h1 h3⟩⟩
theorem BJ {n:Nat} (h1:1<=n) (h2:n<=20): ∀(k l:Nat) (p:List Int) (s:Cp×Cp),l+k=n->V n k l s->Pm n p->Fx l p->Abb n k l s p (Hu k l p s)
 |0,l,p,s,hk,hv,hp,hf=>by
  have hl:l=n:=by omega
  subst hl
  exact ⟨hv,Wr.refl _ _,by rw [hf.all hp];exact .id,λo ho=> .inl ho⟩
 |k+1,l,p,s,hk,hv,hp,hf=>by
  have iq:l<n:=by omega
  obtain ⟨v1,v2,hc,zw⟩:=hv
  have m5:=hc
  obtain ⟨c1,c2,c3⟩:=hc
  unfold Hu
  by_cases hh:Ig s.2 (k+1) l p=true
  ·rw [Ab hh]
   exact ⟨⟨v1,v2,m5,zw⟩,Wr.refl _ _,(Uy h1 h2 (k+1) l s hk m5 p hp hf).1 hh,λo ho=> .inl ho⟩
  rw [Ag hh]
  generalize oC:s.1.getD l []++ [some p]=gs
  have aC:some p∈gs:=by rw [<-oC];simp
  have Qh: ∀o∈s.1.getD l [],o∈gs:= λo ho=>by rw [<-oC];exact Bd _ ho
  have hg:PG n l gs:= λo ho=>by
   rw [<-oC] at ho
   rcases Az.1 ho with ho|ho
   ·exact c2.pg o ho
   ·rw [Ad] at ho;exact ⟨p,ho,hp,hf⟩
  have Aqx:Vt n l gs (s.2.getD l []):=⟨c2.rl,c2.r0,λy t e=>⟨(c2.rt y t e).1,(c2.rt y t e).2.1,(c2.rt y t e).2.2.1,(c2.rt y t e).2.2.2.mono λg hg=>Qh _ hg⟩⟩
  obtain ⟨r1,r2,r3⟩:=KP iq h2 hg Aqx
  generalize hR:ae gs (s.2.getD l [])=R at r1 r2 r3
  have hS:GM n λg=>some g∈gs:=⟨⟨h1,h2⟩,λg Tr=>by obtain ⟨g',e,h,_⟩:=hg _ Tr;cases e;exact h⟩
  have wG: ∀i,((s.1.set l gs).getD i []=if i=l then gs else s.1.getD i [])/\(s.2.set l R).getD i []=if i=l then R else s.2.getD i []:= λi=>by
   rw [Lh,Lh]
   by_cases e:l=i
   ·subst e;rw [Ab ⟨rfl,by omega⟩,Ab rfl,Ab ⟨rfl,by omega⟩,Ab rfl];exact ⟨rfl,rfl⟩
   ·rw [Ag (λhh=>e hh.1),Ag (Gl e),Ag (λhh=>e hh.1),Ag (Gl e)];exact ⟨rfl,rfl⟩
  have zB: ∀i,l+1<=i->(s.1.set l gs).getD i []=s.1.getD i []/\(s.2.set l R).getD i []=s.2.getD i []:= λi hi=>by
   rw [(wG i).1,(wG i).2,Ag (by omega),Ag (by omega)];exact ⟨rfl,rfl⟩
  have eY:V n k (l+1) (s.1.set l gs,s.2.set l R):=⟨by simpa using v1,by simpa using v2,Vk k (l+1) zB c1,cB k (l+1) zB zw.1⟩
  have nd:Wr l s (s.1.set l gs,s.2.set l R):=by
   refine ⟨by simp,by simp,λi hi=>?_,λi o ho=>?_,λi y t e=>?_,λi=>?_⟩
   ·rw [(wG i).1,(wG i).2,Ag (by omega),Ag (by omega)];exact ⟨rfl,rfl⟩
   ·rw [(wG i).1]
    split
    ·rename_i hi;subst hi;exact Qh o ho
    ·exact ho
   ·rw [(wG i).2]
    split
    ·rename_i hi;subst hi;exact r2 y t e
    ·exact e
   ·rw [(wG i).2]
    split
    ·rename_i hi;subst hi;rw [r1.rl,c2.rl]
    ·rfl
  have hq: ∀q∈iz R gs,Pm n q/\Fx (l+1) q/\Gn n gs q:= λq hq=>by
   obtain ⟨y,t,g,t',e1,e2,e3,rfl⟩:=(qF hg r1 r3).1 hq
   obtain ⟨t1,t2,t3,t4⟩:=r1.rt _ _ e1
   obtain ⟨u1,u2,u3,u4⟩:=r1.rt _ _ e3
   obtain ⟨g',e,Uj,hgf⟩:=hg _ e2
   cases e
   exact ⟨(t1.comp Uj).comp u1.inv,Fx.div (t1.comp Uj) u1 (Fx.comp t1 Uj t2 hgf (by omega)) u2 iq (by rw [u3,Mb t1 Uj iq,t3]),db.comp hS (.mul t4 e2) (db.tW hS u4)⟩
  have fold: ∀(qs:List (List Int)) (s1:Cp×Cp),(∀q∈qs,Pm n q/\Fx (l+1) q)->V n k (l+1) s1->
    V n k (l+1) (qs.foldl (λs q=>Hu k (l+1) q s) s1)/\Wr (l+1) s1 (qs.foldl (λs q=>Hu k (l+1) q s) s1)/\
     (∀q∈qs,Gn n ((qs.foldl (λs q=>Hu k (l+1) q s) s1).1.getD (l+1) []) q)/\ ∀o∈(qs.foldl (λs q=>Hu k (l+1) q s) s1).1.getD (l+1) [],o∈s1.1.getD (l+1) []\/ ∃q∈qs,o=some q:=by
   intro qs
   induction qs with
   |nil=>exact λs1 _ hv=>⟨hv,Wr.refl _ _,(λq hq=>by cases hq),λo ho=>Or.inl ho⟩
   |cons q qs ih=>
    intro s1 XX hv
    have ha:=BJ h1 h2 k (l+1) q s1 (by omega) hv (XX q (by simp)).1 (XX q (by simp)).2
    obtain ⟨g1,g2,g3,g4⟩:=ih (Hu k (l+1) q s1) (λq' lI=>XX q' (by simp [lI])) ha.v
    simp only [Hr]
    refine ⟨g1,ha.grow.trans g2 (Ao _),λq' lI=>?_,λo ho=>?_⟩
    ·rcases Be.1 lI with rfl|lI
     ·exact ha.Amw.mono λg hg=>g2.zq _ _ hg
     ·exact g3 q' lI
    ·rcases g4 o ho with h|⟨q',lI,h⟩
     ·rcases ha.gens o h with h|h
      ·exact .inl h
      ·exact .inr ⟨q,by simp,h⟩
     ·exact .inr ⟨q',by simp [lI],h⟩
  obtain ⟨f1,f2,f3,f4⟩:=fold (iz R gs) (s.1.set l gs,s.2.set l R) (λq h=>⟨(hq q h).1,(hq q h).2.1⟩) eY
  generalize (iz R gs).foldl (λs q=>Hu k (l+1) q s) (s.1.set l gs,s.2.set l R)=s' at f1 f2 f3 f4
  obtain ⟨w1,w2,w3,w4⟩:=f1
  have el1:s'.1.getD l []=gs:=by rw [(f2.low l (by omega)).1,(wG l).1,Ab rfl]
  have el2:s'.2.getD l []=R:=by rw [(f2.low l (by omega)).2,(wG l).2,Ab rfl]
  have vB:=nd.trans f2 (by omega)
  have Am6:Lvl n l gs R (λq=>Ig s'.2 k (l+1) q=true):=⟨hg,r1.rl,r1.r0,r1.rt,r3,λy t g t' e1 e2 e3=>by
   have hm:=(qF hg r1 r3).2 ⟨y,t,g,t',e1,e2,e3,rfl⟩
   exact (Uy h1 h2 k (l+1) s' (by omega) w3 _ (hq _ hm).1 (hq _ hm).2.1).2 (f3 _ hm)⟩
  have IJ:lC n (k+1) l s':=⟨w3,by rw [el1,el2];exact Am6,λg Tr=>by
   rw [el1]
   rcases f4 _ Tr with h|⟨q,lI,h⟩
   ·rw [(zB (l+1) (Ao _)).1] at h
    exact (c3 g h).mono λg hg=>Qh _ hg
   ·cases h;exact (hq _ lI).2.2⟩
  have jD:Gn n (s'.1.getD l []) p:=by rw [el1];exact db.one hS aC
  refine ⟨⟨w1,w2,IJ,w4,?_⟩,vB,jD,λo ho=>?_⟩
  ·have hold:=zw.2
   obtain ⟨p1,p2⟩:=wq vB.Aep vB.xp (k+1) l
   have Ih:jW s.2 (k+1) l≠jW s'.2 (k+1) l:= λe=>by
    have:=dy (k+1) l p (p2 e)
    rw [(Uy h1 h2 (k+1) l s' hk IJ p hp hf).2 jD] at this
    exact hh this.symm
   rw [el1,<-oC,Ax,Bt]
   omega
  ·rw [el1,<-oC] at ho
   rcases Az.1 ho with ho|ho
   ·exact .inl ho
   ·rw [Ad] at ho;exact .inr ho
theorem Aeh {n l:Nat} {gs:List PO} {R:Row} (iq:l<n) (hg:PG n l gs) (r1:Vt n l gs R) (r3: ∀y t g,R.getD y none=some t->some g∈gs->R.getD (ap g y) none≠none): ∀q∈iz R gs,Pm n q/\Fx (l+1) q:=by
 intro q hq
 obtain ⟨y,t,g,t',e1,e2,e3,rfl⟩:=(qF hg r1 r3).1 hq
 obtain ⟨t1,t2,t3,t4⟩:=r1.rt _ _ e1
 obtain ⟨u1,u2,u3,u4⟩:=r1.rt _ _ e3
 obtain ⟨g',e,Uj,hgf⟩:=hg _ e2
 cases e
 exact ⟨(t1.comp Uj).comp u1.inv,Fx.div (t1.comp Uj) u1 (Fx.comp t1 Uj t2 hgf (by omega)) u2 iq (by rw [u3,Mb t1 Uj iq,t3])⟩
theorem V.lower {n k l:Nat} {s:Cp×Cp} (h:V n (k+1) l s) (gs:List PO) (R:Row):V n k (l+1) (s.1.set l gs,s.2.set l R):=by
 obtain ⟨v1,v2,hc,zw⟩:=h
 have zB: ∀i,l+1<=i->(s.1.set l gs).getD i []=s.1.getD i []/\(s.2.set l R).getD i []=s.2.getD i []:= λi hi=>by
  rw [Lh,Lh,Ag (by omega),Ag (by omega)];exact ⟨rfl,rfl⟩
 exact ⟨by simpa using v1,by simpa using v2,Vk k (l+1) zB hc.1,cB k (l+1) zB zw.1⟩
theorem US {n k l:Nat} (h1:1<=n) (h2:n<=20) (hk:l+k=n): ∀(qs:List (List Int)) (s1:Cp×Cp),(∀q∈qs,Pm n q/\Fx l q)->V n k l s1->
  V n k l (qs.foldl (λs q=>Hu k l q s) s1)/\Wr l s1 (qs.foldl (λs q=>Hu k l q s) s1)
 | [],s1,_,hv=>⟨hv,Wr.refl _ _⟩
 |q::qs,s1,XX,hv=>by
  have ha:=BJ h1 h2 k l q s1 hk hv (XX q (by simp)).1 (XX q (by simp)).2
  obtain ⟨g1,g2⟩:=US h1 h2 hk qs (Hu k l q s1) (λq' lI=>XX q' (by simp [lI])) ha.v
  exact ⟨g1,ha.grow.trans g2 (Ao _)⟩
theorem Aei {n:Nat} {s:Cp×Cp} : ∀(k l:Nat),lC n k l s->jW s.2 k l<=n*k
 |0,_,_=>by simp [jW]
 |k+1,l,hc=>by
  have h1:=Aei k (l+1) hc.1
  have h2:xJ (s.2.getD l [])<=n:=by
   have:=hc.2.1.rl
   have h3:xJ (s.2.getD l [])<=(s.2.getD l []).length:=List.countP_le_length
   omega
  simp only [jW]
  rw [Nat.mul_succ]
  omega
theorem UX {n k l:Nat} {s:Cp×Cp} (h2:n<=20) (hk:l+(k+1)=n) (h:V n (k+1) l s):(s.1.getD l []).length<=400:=by
 have h3:=h.2.2.2.2
 have h4:=Aei (k+1) l h.2.2.1
 have h5:n*(k+1)<=20*20:=eD h2 (by omega)
 omega
theorem V.lvl {n k l:Nat} {s:Cp×Cp} (h:V n (k+1) l s):Lvl n l (s.1.getD l []) (s.2.getD l []) (λq=>Ig s.2 k (l+1) q=true):=h.2.2.1.2.1
theorem V.pg {n k l:Nat} {s:Cp×Cp} (h:V n (k+1) l s) {p:List Int} (hp:Pm n p) (hf:Fx l p):PG n l (s.1.getD l []++ [some p]):= λo ho=>by
 rcases Az.1 ho with ho|ho
 ·exact h.lvl.pg o ho
 ·rw [Ad] at ho;exact ⟨p,ho,hp,hf⟩
theorem V.Axm {n k l:Nat} {s:Cp×Cp} (h:V n (k+1) l s) (p:List Int):Vt n l (s.1.getD l []++ [some p]) (s.2.getD l []):=
 ⟨h.lvl.rl,h.lvl.r0,λy t e=>⟨(h.lvl.rt y t e).1,(h.lvl.rt y t e).2.1,(h.lvl.rt y t e).2.2.1,(h.lvl.rt y t e).2.2.2.mono λ_ hg=>Bd _ hg⟩⟩
theorem yy {α:Type} (xs:List (List α)) (i:Nat) (h:i<xs.length):xs.set i (xs.getD i [])=xs:=by
 refine List.ext_getElem (by simp) λj h1 h2=>?_
 rw [List.getElem_set]
 split
 ·rename_i e;subst e;rw [Aj,Ac h];rfl
 ·rfl
theorem ed {α:Type} (xs:List (List α)) (i:Nat) (h:i<xs.length) (r:List α):(xs.set i r).getD i []=r:=by
 rw [Lh,Ab ⟨rfl,h⟩]
noncomputable abbrev Zl:MSpec:=de [none] [(false, .Em tLO)] false [none] [.row tI 2] (λx=>List.length x.1<=20) (λx=>((Wb x.1,()),()))
noncomputable abbrev Jx:Spec:=Fb (.pair tL (.pair tL .unit)) tO false true (λx=>(0<x.1.length/\x.1.length<=20)/\Mt x.2.1.length x.1) (λx=>some (Al x.1 x.2.1))
noncomputable abbrev My:Spec:=Fb (.pair tL (.pair tL .unit)) tL false false (λx=>x.1.length<=20/\Mt x.2.1.length x.1) (λx=>Al x.1 x.2.1)
noncomputable abbrev kq:Spec:=Fb (.pair tI .unit) tL false true (λx=>0<=x.1/\x.1<=20) (λx=>upto x.1.toNat)
noncomputable abbrev Qb:Spec:=Fb (.pair tI .unit) tO false true (λx=>1<=x.1/\x.1<=20) (λx=>some (upto x.1.toNat))
abbrev xF:TypeId:=22
structure Wq (N L:Nat) (n:Int) (G T:Cp) (l:Int) (p:List Int):Prop where
 n1:1<=N
 n2:N<=20
 en:n=N
 el:l=L
 le:L<=N
 v:V N (N-L) L (G,T)
 pm:Pm N p
 fx:Fx L p
noncomputable abbrev pj:Spec:=Fb (.pair (.ptr pN) (.pair tI (.pair tL .unit))) .bool false true (λx=> ∃N L,Wq N L x.1.1 x.1.2.1 x.1.2.2.1 x.2.1 x.2.2.1) (λx=>Ig x.1.2.2.1 (x.1.1-x.2.1).toNat x.2.1.toNat x.2.2.1)
noncomputable abbrev Akm:MSpec:= {ptr:=some (99,3),Ja:= [none,none],ins:= [(false, .Em tI),(false, .Bp tO xF true),(false, .Bp tO xF true),(false, .Em tI),(false, .Em tO)],Hb:=false,Fu:= [],outs:= [.Em tI, .Bp tO xF false, .Bp tO xF false],fn:= λ_=>none,keeps:= [(1,1),(2,2)],Fg:= λx=>x.2.2.2.1.toNat}
noncomputable abbrev Xm (m:Nat):MSpec:=iy Akm (λx=>(∃N L q,x.2.2.2.2.1=some q/\Wq N L x.1 x.2.1 x.2.2.1 x.2.2.2.1 q)/\(x.1-x.2.2.2.1).toNat<m)
 (λx=>((x.1,(Hu (x.1-x.2.2.2.1).toNat x.2.2.2.1.toNat (x.2.2.2.2.1.getD []) (x.2.1,x.2.2.1)).1,(Hu (x.1-x.2.2.2.1).toNat x.2.2.2.1.toNat (x.2.2.2.2.1.getD []) (x.2.1,x.2.2.1)).2,()),()))
theorem NG (n:Int) (P:List Int->Prop):(((0:Int)<=n/\n<(↑Cr:Int)+(1:Int))/\n=n/\0=0/\(List.replicate n.toNat (Int.ofNat (nat_lit 0))).length=(List.replicate n.toNat (Int.ofNat (nat_lit 0))).length/\Db (λ(v2:Int×List Int×PUnit) (k3:Int×List Int×PUnit->Prop)=>Br (decide (v2.1<(↑(List.replicate n.toNat (Int.ofNat (nat_lit 0))).length:Int))) (((0:Int)<=v2.1/\v2.1<(↑v2.2.1.length:Int))/\0+v2.1.toNat<v2.2.1.length/\0=0/\v2.2.1.length=(v2.2.1.set (0+v2.1.toNat) v2.1).length/\k3 (IntKind.i64.wrap (v2.1+(1:Int)),v2.2.1.set (0+v2.1.toNat) v2.1,())) (P (List.take v2.2.1.length (List.drop 0 v2.2.1)))) ((0:Int),List.replicate n.toNat (Int.ofNat (nat_lit 0)),PUnit.unit))=fnW En (look []) kq Tryz.f68 (n,()) P:=by kernel_rfl
theorem Aao (row:List (Option (List Int))) (P:(List Int×Unit)×Unit->Prop):(0=0/\0=([]:List Int).length/\Db (λ(v2:Int×List Int×PUnit) (k3:Int×List Int×PUnit->Prop)=>Br (decide (v2.1<(↑row.length:Int))) (∃(y4:Option (List Int)),idx row v2.1=some y4/\Br (!y4.isNone) (0=0/\v2.2.1.length=v2.2.1.length/\v2.2.1.length+(List.take 1 (List.drop 0 [v2.1])).length<=Cr/\0=0/\(v2.2.1++List.take 1 (List.drop 0 [v2.1])).length=(v2.2.1++List.take 1 (List.drop 0 [v2.1])).length/\k3 (IntKind.i64.wrap (v2.1+(1:Int)),v2.2.1++List.take 1 (List.drop 0 [v2.1]),())) (0=0/\v2.2.1.length=v2.2.1.length/\k3 (IntKind.i64.wrap (v2.1+(1:Int)),v2.2.1,()))) (P ((List.take v2.2.1.length (List.drop 0 v2.2.1),()),()))) ((0:Int),[],PUnit.unit))=fnMW dg (look []) Zl Tryz.f93 (row,()) P:=by kernel_rfl
theorem Aso (c:Int×List (List (Option (List Int)))×List (List (Option (List Int)))×Unit) (l:Int) (p:List Int) (P:Bool->Prop):(Db (λ(v4:List Int×Int×PUnit) (k5:List Int×Int×PUnit->Prop)=>Br (decide (v4.2.1<c.1)) (∃(y6:List (Option (List Int))),idx c.2.2.1 v4.2.1=some y6/\ ∃(y7:Int),idx v4.1 v4.2.1=some y7/\ ∃(y8:Option (List Int)),idx y6 y7=some y8/\Br y8.isNone (P false) (∃(y9:List Int),Fp.fn (y8.getD [],())=some y9/\ ∃(Il:List Int),My.fn (v4.1,y9,())=some Il/\k5 (Il,IntKind.i64.wrap (v4.2.1+(1:Int)),()))) (P true)) (p,l,PUnit.unit))=fnW dg (look [(71,Fp),(70,My)]) pj Tryz.f48 (c,l,p,()) P:=by kernel_rfl
theorem Sound.loose {P:Program} {f:FuncId} {arg res:Ty} {pre:arg.den->Prop} {val:arg.den->res.den} (h:Sound P f (Go.Proofs.YtfgfigkbgecfnaaGreat.Fb arg res false true pre val)):Sound P f (Go.Proofs.YtfgfigkbgecfnaaGreat.Fb arg res false false pre val):=
 ⟨h.enter,λw S vs x y h1 h2 h3=>Calls.mono (h.calls w S vs x y h1 h2 h3) λe' w' hr=>by
  obtain ⟨v,g1,g2,g3⟩:=hr
  exact ⟨v,g1,g2,Cw.Iv (S:= λb=>S b\/(true=true/\b<w.heap.size)) g3 λk _ hk=>hk.elim .inl λhh=>absurd (show false=true from hh.1) (by simp)⟩⟩
theorem wS:Sound Tryz.prog 70 My:=Sound.loose Xp
theorem wT:Sound Tryz.prog 70 Jx:=Sound.toO Xp λx h=>⟨⟨h.1.2,h.2⟩,λe=>by
 have:=Ps x.1 x.2.1
 rw [e] at this
 have:=h.1.1
 simp only [Ex] at*
 omega⟩
theorem KT (n:Int) (h:0<=n/\n<=20):fnW En (look []) kq Tryz.f68 (n,()) (λ(z:List Int)=>z=upto n.toNat):=by
 refine Eq.mp (NG n _) ⟨⟨by omega,by show n<(4294967296:Int)+1;omega⟩,rfl,rfl,rfl,?_⟩
 refine Bf n.toNat (λv=>v.1) (λj v=>v.2.1.length=n.toNat/\v.2.1.take j=upto j) rfl ⟨by simp,by simp [upto]⟩ ?_
 rintro j ⟨i,ys,⟨⟩⟩ K hj hi ⟨h1,h2⟩ hK
 dsimp only at hi h1 h2⊢
 subst hi
 rw [Gg]
 simp only [Ai,Bo]
 refine Br.dec (λhl=>⟨⟨by omega,by omega⟩,by omega,trivial,by rw [Bj],?_⟩) λhl=>?_
 ·rw [Bg (by omega)]
  refine hK (by omega) _ rfl ⟨by rw [Bj];exact h1,?_⟩
  rw [Ep,List.take_set_of_le (by omega),h2,List.getElem?_set_self (by omega),lA]
  rfl
 ·have:j=ys.length:=by omega
  subst this
  rw [Ap] at h2
  rw [Dp,Ap,h2,h1]
theorem tu:Sound Tryz.prog 68 kq:=
 Sound.Fb De Bh mixed Tryz.func68 (by kernel_rfl) (by kernel_rfl) λx h=>KT x.1 h
theorem WN {n:Int} (h:1<=n/\n<=20):(0<=n/\n<=20)/\upto n.toNat≠ []:=⟨by omega,λe=>by
 have:=Lr List.length e
 simp [upto] at this
 omega⟩
theorem tt:Sound Tryz.prog 68 Qb:=Sound.toO tu λ_ h=>WN h
theorem KO {row:Row} {j:Nat} :(upto (j+1)).filter (λy=>(row.getD y.toNat none).isSome)=(upto j).filter (λy=>(row.getD y.toNat none).isSome)++if (row.getD j none).isSome=true then [(j:Int)] else []:=by
 rw [lA,List.filter_append]
 congr 1
 simp only [List.filter_cons,List.filter_nil,Ai]
theorem YZ (row:List (Option (List Int))) (h:List.length row<=20):fnMW dg (look []) Zl Tryz.f93 (row,()) (λ(z:(List Int×Unit)×Unit)=>z=((Wb row,()),())):=by
 refine Eq.mp (Aao row _) ⟨rfl,rfl,?_⟩
 refine Bf row.length (λv=>v.1) (λj v=>v.2.1=(upto j).filter (λy=>(row.getD y.toNat none).isSome)) rfl rfl ?_
 rintro j ⟨i,ys,⟨⟩⟩ K hj hi h1 hK
 dsimp only at hi h1⊢
 subst hi
 refine Br.dec (λhl=>?_) λhl=>?_
 ·have hl:j<row.length:=by omega
  have hlen:ys.length<=j:=by rw [h1];refine Jd (List.length_filter_le _ _) (by simp [upto])
  have hg:row.getD j none=row[j]:=by rw [Aj,Ac hl];rfl
  refine ⟨_,Bu hl,Br.of (λhb=>⟨rfl,rfl,?_,rfl,rfl,?_⟩) λhb=>⟨rfl,rfl,?_⟩⟩
  ·show ys.length+1<=4294967296
   omega
  ·rw [Bg (by omega)]
   refine hK hl _ rfl ?_
   show ys++ [(j:Int)]=_
   rw [KO,hg,h1,Ab (by cases e:row[j] with
    |none=>rw [e] at hb;simp at hb
    |some t=>rfl)]
  ·rw [Bg (by omega)]
   refine hK hl _ rfl ?_
   show ys=_
   rw [KO,hg,h1,Ag (by cases e:row[j] with
    |none=>simp
    |some t=>rw [e] at hb;simp at hb),List.append_nil]
 ·have:j=row.length:=by omega
  subst this
  rw [Dp,Ap,h1]
  rfl
theorem yF:Cb Tryz.prog 93 Zl:=
 Cb.de xl Bh mixed Tryz.func93 (by kernel_rfl) (by kernel_rfl) λx h=>YZ x.1 h
theorem uO {n:Nat} {s:Cp×Cp} : ∀(k l:Nat),lC n k l s-> ∀i,l<=i->i<l+k->Lvl n i (s.1.getD i []) (s.2.getD i []) (λq=>Ig s.2 (l+k-i-1) (i+1) q=true)
 |0,_,_,i,h1,h2=>by omega
 |k+1,l,hc,i,h1,h2=>by
  obtain ⟨c1,c2,_⟩:=hc
  by_cases e:i=l
  ·subst e
   rw [show i+(k+1)-i-1=k by omega]
   exact c2
  ·have:=uO k (l+1) c1 i (by omega) (by omega)
   rwa [show l+1+k-i-1=l+(k+1)-i-1 by omega] at this
theorem Aje {α:Type} {xs:List (List α)} {i:Nat} (h:i<xs.length):xs.getD i []=xs[i]:=by
 rw [Aj,Ac h];rfl
theorem IC {α:Type} {xs:List (Option α)} {i:Nat} (h:i<xs.length):xs.getD i none=xs[i]:=by
 rw [Aj,Ac h];rfl
theorem Pm.row {n:Nat} {p:List Int} (h:Pm n p):Mt n p:=by
 have:=h.2.row
 rwa [h.1] at this
theorem Ary (c:Int×List (List (Option (List Int)))×List (List (Option (List Int)))×Unit) (l:Int) (p:List Int) (h: ∃N L,Wq N L c.1 c.2.1 c.2.2.1 l p):
  fnW dg (look [(71,Fp),(70,My)]) pj Tryz.f48 (c,l,p,()) (λ(z:Bool)=>z=Ig c.2.2.1 (c.1-l).toNat l.toNat p):=by
 obtain ⟨n,G,T,⟨⟩⟩:=c
 obtain ⟨N,L,h⟩:=h
 obtain ⟨n1,n2,en,el,hle,v,pm,fx⟩:=h
 dsimp only at en el v⊢
 subst en el
 refine Eq.mp (Aso ((N:Int),G,T,()) (L:Int) p _) ?_
 obtain ⟨v1,v2,v3,v4⟩:=v
 dsimp only at v1 v2
 refine ⟨λv=> ∃i:Nat,L<=i/\i<=N/\v.2.1=i/\Pm N v.1/\Fx i v.1/\Ig T (N-i) i v.1=Ig T (N-L) L p,λv=>N-v.2.1.toNat,⟨L,Ao _,hle,rfl,pm,fx,rfl⟩,?_⟩
 rintro ⟨p',i',⟨⟩⟩ ⟨i,h1,h2,h3,h4,h5,h6⟩
 dsimp only at h3 h4 h5 h6⊢
 subst h3
 rw [show (((N:Int)-(L:Int)).toNat)=N-L by omega,show ((L:Int)).toNat=L by omega,<-h6]
 refine Br.dec (λhl=>?_) λhl=>?_
 ·have hl:i<N:=by omega
  have La:=uO (N-L) L v3 i h1 (by omega)
  obtain ⟨a1,a2⟩:=h4.bj hl
  have hT:i<T.length:=by omega
  have hlen:T[i].length=N:=by have:=La.rl;dsimp only at this;rwa [Aje hT] at this
  refine ⟨_,Bu hT,_,Bu (by rw [h4.1];exact hl),?_⟩
  have e1:p'[i]'(by rw [h4.1];exact hl)=(ap p' i:Int):=by rw [<-a1,Mr]
  rw [e1]
  refine ⟨_,Bu (by omega),?_⟩
  have e2:N-i=(N-i-1)+1:=by omega
  have e3:(T.getD i []).getD (Kb p' (i:Int)).toNat none=T[i][ap p' i]'(by omega):=by
   rw [Aje hT];exact IC (by show ap p' i<_;omega)
  rw [e2]
  simp only [Ig,e3]
  refine Br.of (λhb=>?_) λhb=>?_
  ·cases e:T[i][ap p' i]'(by omega) with
   |none=>rfl
   |some t=>rw [e] at hb;simp at hb
  ·cases e:T[i][ap p' i]'(by omega) with
   |none=>rw [e] at hb;simp at hb
   |some t=>
    have ht:(T.getD i []).getD (ap p' i) none=some t:=by rw [<-e];exact e3
    obtain ⟨t1,t2,t3,t4⟩:=La.rt _ _ ht
    simp only [Cc]
    refine ⟨_,Ab ⟨by show t.length<=20;rw [t1.1];exact n2,t1.2.row⟩,_,Ab ⟨by show p'.length<=20;rw [h4.1];exact n2,by show Mt (Bl t).length p';rw [oI,t1.1];exact h4.row⟩,⟨i+1,by omega,by omega,Bg (by omega),h4.comp t1.inv,Fx.div h4 t1 h5 t2 hl t3,?_⟩,?_⟩
    ·rw [show N-(i+1)=N-i-1 by omega]
    ·show N-(IntKind.i64.wrap ((i:Int)+1)).toNat<N-((i:Int)).toNat
     rw [Bg (by omega)]
     omega
 ·rw [show N-i=0 by omega]
  rfl
theorem AO:Sound Tryz.prog 48 pj:=
 Sound.Fb xl (Av Xq (Av wS Bh)) mixed Tryz.func48 (by kernel_rfl) (by kernel_rfl) λx h=>Ary x.1 x.2.1 x.2.2.1 h
abbrev FJ:Type:=Nat×Nat×Int×List (List (Option (List Int)))×Nat×List (List (Option (List Int)))×Nat×List Int×Int×PUnit
abbrev Af4:Type:=Nat×Int×List (List (Option (List Int)))×Nat×List (List (Option (List Int)))×Nat×List Int×Int×PUnit
abbrev Af5:Type:=Nat×List (List (Option (List Int)))×Nat×List (List (Option (List Int)))×Nat×List Int×Int×PUnit
abbrev Lo (G:List (List (Option (List Int)))) (l:Int) (p:Option (List Int)) (T:List (List (Option (List Int)))) (y7:Bool) (n:Int):Prop:=0=0/\(G.getD (0+l.toNat) []).length=(G.getD (0+l.toNat) []).length/\(G.getD (0+l.toNat) []).length+(List.take 1 (List.drop 0 [p])).length<=Cr/\((0:Int)<=l/\l<(↑G.length:Int))/\0=0/\(G.getD (0+l.toNat) []++List.take 1 (List.drop 0 [p])).length=(G.getD (0+l.toNat) []++List.take 1 (List.drop 0 [p])).length/\0+l.toNat=0+l.toNat/\ [(0,G.length),(0,G.length),(0,G.length),(0,T.length)]= [(0,G.length),(0,G.length),(0,G.length),(0,T.length)]/\(l,p,l,p,y7,l,l,0+l.toNat,p,List.take 1 (List.drop 0 [p]),0+l.toNat,G.set (0+l.toNat) (G.getD (0+l.toNat) []++List.take 1 (List.drop 0 [p])),min G.length (0+l.toNat),T,T.length,n,())=(l,p,l,p,y7,l,l,0+l.toNat,p,List.take 1 (List.drop 0 [p]),0+l.toNat,G.set (0+l.toNat) (G.getD (0+l.toNat) []++List.take 1 (List.drop 0 [p])),min G.length (0+l.toNat),T,T.length,n,PUnit.unit)
theorem Asi {m:Nat} (n:Int) (G T:List (List (Option (List Int)))) (l:Int) (p:Option (List Int)) (P:(Int×List (List (Option (List Int)))×List (List (Option (List Int)))×Unit)×Unit->Prop):(∃(y7:Bool),pj.fn ((n,List.take G.length (List.drop 0 G),List.take T.length (List.drop 0 T),()),l,p.getD [],())=some y7/\Br y7 ((0=0/\G.length=G.length)/\(0=0/\T.length=T.length)/\(Xm (m+1)).Fg (n,G,T,l,p,())<=G.length/\(Xm (m+1)).Fg (n,G,T,l,p,())<=T.length/\P ((n,G,T,()),())) (((0:Int)<=l/\l<(↑G.length:Int))/\0=0/\(G.getD (0+l.toNat) []).length=(G.getD (0+l.toNat) []).length/\(G.getD (0+l.toNat) []).length+(List.take 1 (List.drop 0 [p])).length<=Cr/\((0:Int)<=l/\l<(↑G.length:Int))/\0=0/\(G.getD (0+l.toNat) []++List.take 1 (List.drop 0 [p])).length=(G.getD (0+l.toNat) []++List.take 1 (List.drop 0 [p])).length/\0+l.toNat=0+l.toNat/\(((0:Int)<=l/\l<(↑T.length:Int))/\ ∃(y8:(List Int×PUnit)×PUnit),Zl.fn (T.getD (0+l.toNat) [],())=some y8/\0=0/\(List.take y8.1.1.length (List.drop 0 y8.1.1)).length=(List.take y8.1.1.length (List.drop 0 y8.1.1)).length/\0=0/\G.length=(G.set (0+l.toNat) (G.getD (0+l.toNat) []++List.take 1 (List.drop 0 [p]))).length/\0=0/\T.length=T.length/\Db (λ(v9:Af5) (k10:Af5->Prop)=>Br (decide ((↑v9.2.2.2.2.2.1.length:Int)>(0:Int))) (((0:Int)<=l/\l<(↑v9.2.1.length:Int))/\0=0/\(List.take v9.2.2.2.2.2.1.length (List.drop 0 v9.2.2.2.2.2.1)).length=(List.take v9.2.2.2.2.2.1.length (List.drop 0 v9.2.2.2.2.2.1)).length/\0=0/\v9.2.1.length=v9.2.1.length/\0=0/\v9.2.2.2.1.length=v9.2.2.2.1.length/\Db (λ(v11:FJ) (k12:FJ->Prop)=>Br (decide (v11.2.2.1<(↑(v9.2.1.getD (0+l.toNat) []).length:Int))) (((0:Int)<=v11.2.2.1/\v11.2.2.1<(↑(v11.2.2.2.1.getD v11.2.1 []).length:Int))/\((0:Int)<=(0:Int)/\(0:Int)<(↑v11.2.2.2.2.2.2.2.1.length:Int))/\ ∃(Me:Int),v11.2.2.2.2.2.2.2.1[0+Int.toNat (0:Int)]?=some Me/\ ∃(Jj:Int),idx (((v11.2.2.2.1.getD v11.2.1 []).getD v11.2.2.1.toNat (none:Option (List Int))).getD []) Me=some Jj/\((0:Int)<=Jj/\Jj<(↑(v11.2.2.2.2.2.1.getD v11.1 []).length:Int))/\Br ((v11.2.2.2.2.2.1.getD v11.1 []).getD Jj.toNat (none:Option (List Int))).isNone (((0:Int)<=(0:Int)/\(0:Int)<(↑v11.2.2.2.2.2.2.2.1.length:Int))/\ ∃(Ri:Int),v11.2.2.2.2.2.2.2.1[0+Int.toNat (0:Int)]?=some Ri/\((0:Int)<=Ri/\Ri<(↑(v11.2.2.2.2.2.1.getD v11.1 []).length:Int))/\ ∃(Yc:Option (List Int)),Jx.fn (((v11.2.2.2.2.2.1.getD v11.1 []).getD Ri.toNat (none:Option (List Int))).getD [],((v11.2.2.2.1.getD v11.2.1 []).getD v11.2.2.1.toNat (none:Option (List Int))).getD [],())=some Yc/\((0:Int)<=Jj/\Jj<(↑(v11.2.2.2.2.2.1.getD v11.1 []).length:Int))/\0=0/\v11.2.2.2.2.2.2.2.1.length=v11.2.2.2.2.2.2.2.1.length/\v11.2.2.2.2.2.2.2.1.length+(List.take 1 (List.drop 0 [Jj])).length<=Cr/\0=0/\(List.take (v11.2.2.2.2.2.2.2.1++List.take 1 (List.drop 0 [Jj])).length (List.drop 0 (v11.2.2.2.2.2.2.2.1++List.take 1 (List.drop 0 [Jj])))).length=(List.take (v11.2.2.2.2.2.2.2.1++List.take 1 (List.drop 0 [Jj])).length (List.drop 0 (v11.2.2.2.2.2.2.2.1++List.take 1 (List.drop 0 [Jj])))).length/\0=0/\v11.2.2.2.1.length=v11.2.2.2.1.length/\0=0/\v11.2.2.2.2.2.1.length=(v11.2.2.2.2.2.1.set v11.1 ((v11.2.2.2.2.2.1.getD v11.1 []).set Jj.toNat Yc)).length/\k12 (v11.1,v11.2.1,IntKind.i64.wrap (v11.2.2.1+(1:Int)),v11.2.2.2.1,v11.2.2.2.2.1,v11.2.2.2.2.2.1.set v11.1 ((v11.2.2.2.2.2.1.getD v11.1 []).set Jj.toNat Yc),v11.2.2.2.2.2.2.1,List.take (v11.2.2.2.2.2.2.2.1++List.take 1 (List.drop 0 [Jj])).length (List.drop 0 (v11.2.2.2.2.2.2.2.1++List.take 1 (List.drop 0 [Jj]))),v11.2.2.2.2.2.2.2.2.1,())) (0=0/\(List.take v11.2.2.2.2.2.2.2.1.length (List.drop 0 v11.2.2.2.2.2.2.2.1)).length=(List.take v11.2.2.2.2.2.2.2.1.length (List.drop 0 v11.2.2.2.2.2.2.2.1)).length/\0=0/\v11.2.2.2.1.length=v11.2.2.2.1.length/\0=0/\v11.2.2.2.2.2.1.length=v11.2.2.2.2.2.1.length/\k12 (v11.1,v11.2.1,IntKind.i64.wrap (v11.2.2.1+(1:Int)),v11.2.2.2.1,v11.2.2.2.2.1,v11.2.2.2.2.2.1,v11.2.2.2.2.2.2.1,List.take v11.2.2.2.2.2.2.2.1.length (List.drop 0 v11.2.2.2.2.2.2.2.1),v11.2.2.2.2.2.2.2.2.1,()))) (((0:Int)<=(1:Int)/\(1:Int)<=(↑v11.2.2.2.2.2.2.2.1.length:Int)/\(↑v11.2.2.2.2.2.2.2.1.length:Int)<=(↑v11.2.2.2.2.2.2.2.1.length:Int))/\0=0/\(List.take ((↑v11.2.2.2.2.2.2.2.1.length:Int).toNat-Int.toNat (1:Int)) (List.drop (0+Int.toNat (1:Int)) v11.2.2.2.2.2.2.2.1)).length=(List.take ((↑v11.2.2.2.2.2.2.2.1.length:Int).toNat-Int.toNat (1:Int)) (List.drop (0+Int.toNat (1:Int)) v11.2.2.2.2.2.2.2.1)).length/\0=0/\v11.2.2.2.1.length=v11.2.2.2.1.length/\0=0/\v11.2.2.2.2.2.1.length=v11.2.2.2.2.2.1.length/\k10 (v11.1,v11.2.2.2.1,v11.2.2.2.2.1,v11.2.2.2.2.2.1,v11.2.2.2.2.2.2.1,List.take ((↑v11.2.2.2.2.2.2.2.1.length:Int).toNat-Int.toNat (1:Int)) (List.drop (0+Int.toNat (1:Int)) v11.2.2.2.2.2.2.2.1),v11.2.2.2.2.2.2.2.2.1,()))) (v9.1,0+l.toNat,(0:Int),v9.2.1,v9.2.2.1,v9.2.2.2.1,v9.2.2.2.2.1,List.take v9.2.2.2.2.2.1.length (List.drop 0 v9.2.2.2.2.2.1),v9.2.2.2.2.2.2.1,PUnit.unit)) (∃(gZ:(List Int×PUnit)×PUnit),Zl.fn (v9.2.2.2.1.getD v9.1 [],())=some gZ/\0=0/\gZ.1.1.length=gZ.1.1.length/\0=0/\v9.2.1.length=v9.2.1.length/\0=0/\v9.2.2.2.1.length=v9.2.2.2.1.length/\Db (λ(Oo:Af4) (k13:Af4->Prop)=>Br (decide (Oo.2.1<(↑gZ.1.1.length:Int))) (((0:Int)<=Oo.2.1/\Oo.2.1<(↑Oo.2.2.2.2.2.2.1.length:Int))/\ ∃(Jj:Int),Oo.2.2.2.2.2.2.1[0+Oo.2.1.toNat]?=some Jj/\((0:Int)<=l/\l<(↑Oo.2.2.1.length:Int))/\0=0/\Oo.2.2.2.2.2.2.1.length=Oo.2.2.2.2.2.2.1.length/\0=0/\Oo.2.2.1.length=Oo.2.2.1.length/\0=0/\Oo.2.2.2.2.1.length=Oo.2.2.2.2.1.length/\Db (λ(Rx:FJ) (k16:FJ->Prop)=>Br (decide (Rx.2.2.1<(↑(Oo.2.2.1.getD (0+l.toNat) []).length:Int))) (((0:Int)<=Rx.2.2.1/\Rx.2.2.1<(↑(Rx.2.2.2.1.getD Rx.2.1 []).length:Int))/\((0:Int)<=Jj/\Jj<(↑(Rx.2.2.2.2.2.1.getD Rx.1 []).length:Int))/\ ∃(ba:Option (List Int)),Jx.fn (((Rx.2.2.2.2.2.1.getD Rx.1 []).getD Jj.toNat (none:Option (List Int))).getD [],((Rx.2.2.2.1.getD Rx.2.1 []).getD Rx.2.2.1.toNat (none:Option (List Int))).getD [],())=some ba/\ ∃(Yd:Int),idx (((Rx.2.2.2.1.getD Rx.2.1 []).getD Rx.2.2.1.toNat (none:Option (List Int))).getD []) Jj=some Yd/\((0:Int)<=Yd/\Yd<(↑(Rx.2.2.2.2.2.1.getD Rx.1 []).length:Int))/\ ∃(Sy:List Int),Fp.fn (((Rx.2.2.2.2.2.1.getD Rx.1 []).getD Yd.toNat (none:Option (List Int))).getD [],())=some Sy/\ ∃(Ov:Option (List Int)),Jx.fn (ba.getD [],Sy,())=some Ov/\0=0/\Rx.2.2.2.1.length=Rx.2.2.2.1.length/\0=0/\Rx.2.2.2.2.2.1.length=Rx.2.2.2.2.2.1.length/\ ∃(Xv:(Int×List (List (Option (List Int)))×List (List (Option (List Int)))×PUnit)×PUnit),(Xm m).fn (Rx.2.2.2.2.2.2.2.2.1,Rx.2.2.2.1,Rx.2.2.2.2.2.1,IntKind.i64.wrap (l+(1:Int)),Ov,())=some Xv/\(Rx.1<(Xm m).Fg (Rx.2.2.2.2.2.2.2.2.1,Rx.2.2.2.1,Rx.2.2.2.2.2.1,IntKind.i64.wrap (l+(1:Int)),Ov,())/\Rx.1<(List.length Xv.1.2.2.1))/\(Rx.2.1<(Xm m).Fg (Rx.2.2.2.2.2.2.2.2.1,Rx.2.2.2.1,Rx.2.2.2.2.2.1,IntKind.i64.wrap (l+(1:Int)),Ov,())/\Rx.2.1<(List.length Xv.1.2.1))/\(Rx.1<(Xm m).Fg (Rx.2.2.2.2.2.2.2.2.1,Rx.2.2.2.1,Rx.2.2.2.2.2.1,IntKind.i64.wrap (l+(1:Int)),Ov,())/\Rx.1<(List.length Xv.1.2.2.1))/\(Rx.1<(Xm m).Fg (Rx.2.2.2.2.2.2.2.2.1,Rx.2.2.2.1,Rx.2.2.2.2.2.1,IntKind.i64.wrap (l+(1:Int)),Ov,())/\Rx.1<(List.length Xv.1.2.2.1))/\0=0/\Rx.2.2.2.2.2.2.2.1.length=Rx.2.2.2.2.2.2.2.1.length/\0=0/\Xv.1.2.1.length=Xv.1.2.1.length/\0=0/\Xv.1.2.2.1.length=Xv.1.2.2.1.length/\k16 (Rx.1,Rx.2.1,IntKind.i64.wrap (Rx.2.2.1+(1:Int)),Xv.1.2.1,min Rx.2.2.2.2.1 ((Xm m).Fg (Rx.2.2.2.2.2.2.2.2.1,Rx.2.2.2.1,Rx.2.2.2.2.2.1,IntKind.i64.wrap (l+(1:Int)),Ov,())),Xv.1.2.2.1,min Rx.2.2.2.2.2.2.1 ((Xm m).Fg (Rx.2.2.2.2.2.2.2.2.1,Rx.2.2.2.1,Rx.2.2.2.2.2.1,IntKind.i64.wrap (l+(1:Int)),Ov,())),Rx.2.2.2.2.2.2.2.1,Xv.1.1,())) (0=0/\Rx.2.2.2.2.2.2.2.1.length=Rx.2.2.2.2.2.2.2.1.length/\0=0/\Rx.2.2.2.1.length=Rx.2.2.2.1.length/\0=0/\Rx.2.2.2.2.2.1.length=Rx.2.2.2.2.2.1.length/\k13 (Rx.1,IntKind.i64.wrap (Oo.2.1+(1:Int)),Rx.2.2.2.1,Rx.2.2.2.2.1,Rx.2.2.2.2.2.1,Rx.2.2.2.2.2.2.1,Rx.2.2.2.2.2.2.2.1,Rx.2.2.2.2.2.2.2.2.1,()))) (Oo.1,0+l.toNat,(0:Int),Oo.2.2.1,Oo.2.2.2.1,Oo.2.2.2.2.1,Oo.2.2.2.2.2.1,Oo.2.2.2.2.2.2.1,Oo.2.2.2.2.2.2.2.1,PUnit.unit)) ((0=0/\Oo.2.2.1.length=Oo.2.2.1.length)/\(0=0/\Oo.2.2.2.2.1.length=Oo.2.2.2.2.1.length)/\(Xm (m+1)).Fg (n,G,T,l,p,())<=Oo.2.2.2.1/\(Xm (m+1)).Fg (n,G,T,l,p,())<=Oo.2.2.2.2.2.1/\P ((Oo.2.2.2.2.2.2.2.1,Oo.2.2.1,Oo.2.2.2.2.1,()),()))) (v9.1,(0:Int),v9.2.1,v9.2.2.1,v9.2.2.2.1,v9.2.2.2.2.1,gZ.1.1,v9.2.2.2.2.2.2.1,PUnit.unit))) (0+l.toNat,G.set (0+l.toNat) (G.getD (0+l.toNat) []++List.take 1 (List.drop 0 [p])),min G.length (0+l.toNat),T,T.length,List.take y8.1.1.length (List.drop 0 y8.1.1),n,PUnit.unit))/\(((((0:Int)<=l/\l<(↑G.length:Int))/\((Lo G l p T y7 n))/\(Lo G l p T y7 n))/\((0:Int)<=l/\l<(↑G.length:Int))/\(Lo G l p T y7 n))/\((0:Int)<=l/\l<(↑G.length:Int))/\(Lo G l p T y7 n))/\(((((0:Int)<=l/\l<(↑G.length:Int))/\((Lo G l p T y7 n))/\(Lo G l p T y7 n))/\((0:Int)<=l/\l<(↑G.length:Int))/\(Lo G l p T y7 n))/\(((0:Int)<=l/\l<(↑G.length:Int))/\(((Lo G l p T y7 n))/\(Lo G l p T y7 n))/\(((Lo G l p T y7 n))/\((Lo G l p T y7 n))/\(Lo G l p T y7 n))/\((Lo G l p T y7 n))/\((Lo G l p T y7 n))/\(Lo G l p T y7 n))/\(((0:Int)<=l/\l<(↑G.length:Int))/\(Lo G l p T y7 n))/\((0:Int)<=l/\l<(↑G.length:Int))/\((Lo G l p T y7 n))/\((Lo G l p T y7 n))/\(Lo G l p T y7 n))/\(((0:Int)<=l/\l<(↑G.length:Int))/\(Lo G l p T y7 n))/\(((0:Int)<=l/\l<(↑G.length:Int))/\(Lo G l p T y7 n))/\((0:Int)<=l/\l<(↑G.length:Int))/\((Lo G l p T y7 n))/\((Lo G l p T y7 n))/\(Lo G l p T y7 n)))=fnMW (Af8 [Sr+7]) (look [(48,pj),(93,Zl),(70,Jx),(71,Fp),(69,Pp.m (Xm m))]) (Xm (m+1)) Tryz.f69 (n,G,T,l,p,()) P:=by kernel_rfl
theorem GU {k l:Nat} {p:List Int} {s:Cp×Cp} (h:Ig s.2 k l p=true):Hu k l p s=s:=by
 cases k with
 |zero=>rfl
 |succ k=>unfold Hu;rw [Ab h]
theorem GS (k l:Nat) (p:List Int) (s:Cp×Cp):Hu (k+1) l p s=if Ig s.2 (k+1) l p=true then s else
   (iz (ae (s.1.getD l []++ [some p]) (s.2.getD l [])) (s.1.getD l []++ [some p])).foldl (λs q=>Hu k (l+1) q s)
    (s.1.set l (s.1.getD l []++ [some p]),s.2.set l (ae (s.1.getD l []++ [some p]) (s.2.getD l []))):=rfl
theorem CM {n:Nat} {p:List Int} (h:Pm n p) {i:Nat} (hi:i<n):idx p (i:Int)=some (ap p i:Int):=by
 have oD:i<p.length:=by rw [h.1];exact hi
 rw [Bu oD,<-(h.bj hi).1,Mr oD]
theorem OP {x:Int} {gs:List PO} {j:Nat} (hj:j<gs.length) (s:Row×List Int):bk x (gs.take (j+1)) s=bu x (bk x (gs.take j) s) gs[j]:=by
 unfold bk
 rw [Ep,Ac hj,Mf,Nk]
 rfl
theorem OQ {gs:List PO} {f:Nat} {row:Row} :aT gs f [] row=row:=by cases f<;>rfl
theorem Yo {n:Nat} {p:List Int} (h:Pm n p):0<p.length/\p.length<=20:=⟨by rw [h.1];exact h.n1,by rw [h.1];exact h.n2⟩
theorem qR {n:Nat} {p q:List Int} (h:Pm n p) (k:Pm n q):Mt q.length p:=by rw [k.1];exact h.row
theorem Art {m:Nat} (n:Int) (G T:List (List (Option (List Int)))) (l:Int) (p:Option (List Int)) (h:(∃N L q,p=some q/\Wq N L n G T l q)/\(n-l).toNat<m+1):
  fnMW (Af8 [Sr+7]) (look [(48,pj),(93,Zl),(70,Jx),(71,Fp),(69,Pp.m (Xm m))]) (Xm (m+1)) Tryz.f69 (n,G,T,l,p,()) (λ(z:(Int×List (List (Option (List Int)))×List (List (Option (List Int)))×Unit)×Unit)=>z=((n,(Hu (n-l).toNat l.toNat (p.getD []) (G,T)).1,(Hu (n-l).toNat l.toNat (p.getD []) (G,T)).2,()),())):=by
 obtain ⟨⟨N,L,q,rfl,h⟩,hm⟩:=h
 have h':=h
 obtain ⟨n1,n2,en,el,hle,v,pm,fx⟩:=h
 subst en el
 have hk:((N:Int)-(L:Int)).toNat=N-L:=by omega
 rw [hk,Ai]
 refine Eq.mp (Asi (N:Int) G T (L:Int) (some q) _) ⟨_,Ab ⟨N,L,?a⟩,?b⟩
 case a=>
  simp only [Dp,Ap,Cc]
  exact h'
 obtain ⟨v1,v2,v3,v4⟩:=v
 dsimp only at v1 v2
 have hw:IntKind.i64.wrap ((L:Int)+1)=((L+1:Nat):Int):=Bg (by omega)
 simp only [Lo]
 simp only [Dp,Ap,Cc,hk,Ai,Bo,eq_self,true_and,Ow,List.take_succ_cons,List.take_zero,Aw,Ex,Bj,hw]
 refine Br.of (λhh=>⟨by show Int.toNat (L:Int)<=G.length;omega,by show Int.toNat (L:Int)<=T.length;omega,?_⟩) λhh=>?_
 ·rw [GU (s:=(G,T)) hh]
 obtain ⟨k,hNk⟩: ∃k,N-L=k+1:=by
  cases e:N-L with
  |zero=>rw [e] at hh;simp [Ig] at hh
  |succ k=>exact ⟨k,rfl⟩
 have hLN:L<N:=by omega
 have hv:V N (k+1) L (G,T):=by rw [<-hNk];exact ⟨v1,v2,v3,v4⟩
 rw [hNk] at hh⊢
 have e1:(0:Int)<=(L:Int)/\(L:Int)<(G.length:Int):=by omega
 have e1':(0:Int)<=(L:Int)/\(L:Int)<(T.length:Int):=by omega
 have hgl:(G.getD L []).length<=400:=UX n2 (by omega) hv
 have e2:(G.getD L []).length+1<=Cr:=by show _<=4294967296;omega
 simp only [e1,e1',e2,and_self,true_and,Ow]
 generalize oC:G.getD L []++ [some q]=gs
 have Bb3:gs.length<=401:=by rw [<-oC,Ax,Bt];omega
 have hg:PG N L gs:=by rw [<-oC];exact hv.pg pm fx
 have hr0:Vt N L gs (T.getD L []):=by rw [<-oC];exact hv.Axm q
 obtain ⟨r1,r2,r3⟩:=KP hLN n2 hg hr0
 generalize hR:ae gs (T.getD L [])=R at r1 r2 r3
 have tb:Hu (k+1) L q (G,T)=(iz R gs).foldl (λs q=>Hu k (L+1) q s) (G.set L gs,T.set L R):=by
  rw [GS,Ag (by rw [hh];simp)]
  dsimp only
  rw [oC,hR]
 rw [tb]
 have hTl:L<T.length:=by omega
 have hGl:L<G.length:=by omega
 have hG1:(G.set L gs).getD L []=gs:=ed G L hGl gs
 have hT1: ∀row:Row,(T.set L row).getD L []=row:=ed T L hTl
 refine ⟨_,Ab (by show (T.getD L []).length<=20;rw [hr0.rl];exact n2),?_⟩
 dsimp only
 have hn0:(Wb (T.getD L [])).length+Mg (T.getD L [])<=40:=by have:=DK (T.getD L []);have:=jT (T.getD L []);have:=hr0.rl;omega
 have hq0:WU gs (Wb (T.getD L [])) (T.getD L []):=⟨λy hy=>bE.1 hy,λy hy=> .inl (bE.2 ⟨y,rfl,hy⟩)⟩
 refine ⟨λv=> ∃(row:Row) (qu:List Int) (kg kt:Nat),v=(L,G.set L gs,kg,T.set L row,kt,qu,(N:Int),())/\L<=kg/\L<=kt/\qu.length+Mg row<=40/\Vt N L gs row/\WU gs qu row/\aT gs (qu.length+Mg row) qu row=R,
  fun v=>v.2.2.2.2.2.1.length+Mg (v.2.2.2.1.getD v.1 []),⟨T.getD L [],Wb (T.getD L []),min G.length L,T.length,?_,by omega,by omega,hn0,hr0,hq0,?_⟩,?_⟩
 ·rw [yy T L hTl]
 ·rw [<-HG hLN hg 100 _ _ (by omega) hr0 hq0];exact hR
 rintro v ⟨row,qu,kg,kt,rfl,hkg,hkt,hb,hro,hqi,hbf⟩
 dsimp only
 simp only [hG1,hT1,Bj]
 refine Br.dec (λhl=>⟨e1.2,?_⟩) λhl=>?_
 ·cases qu with
  |nil=>simp at hl
  |cons x qu=>
  obtain ⟨p1,p2,xn,t,rfl,ht⟩:=SA hLN hg hro hqi
  have hxn:xn<N:=by rw [<-hro.rl];exact oz ht
  refine Bf gs.length (λv=>v.2.2.1) (λj v=> ∃kg kt:Nat,v=(L,L,(j:Int),G.set L gs,kg,T.set L (bk (xn:Int) (gs.take j) (row,qu)).1,kt,(xn:Int)::(bk (xn:Int) (gs.take j) (row,qu)).2,(N:Int),())/\L<=kg/\L<=kt) rfl ⟨kg,kt,rfl,hkg,hkt⟩ ?_
  rintro j v K hj hi ⟨kg,kt,rfl,h1,h2⟩ hK
  dsimp only
  simp only [hG1,hT1,Ai]
  refine Br.dec (λhl=>?_) λhl=>?_
  ·have hl:j<gs.length:=by omega
   obtain ⟨x1,x2⟩:=Aej hLN hg (gs.take j) (q:=qu) (λo ho=>El ho) hro ht
   have Uk:=OP (x:=(xn:Int)) hl (row,qu)
   generalize bk (xn:Int) (gs.take j) (row,qu)=s at x1 x2 Uk⊢
   obtain ⟨r,qq⟩:=s
   dsimp only at x1 x2⊢
   obtain ⟨g,pX,Uj,hgf⟩:=hg gs[j] (Ak hl)
   have htx:r.getD xn none=some t:=x1.mono _ _ ht
   obtain ⟨t1,t2,t3,t4⟩:=x1.ok.rt _ _ htx
   have hrl:r.length=N:=x1.ok.rl
   have hgj:gs.getD j none=some g:=by rw [IC hl];exact pX
   have hy:=Uj.lt hxn
   have hga:=(Uj.bj hxn).1
   have Ahf:qq.length+Mg r=qu.length+Mg row:=x1.phi
   simp only [Aw] at hb
   simp only [hgj,Cc]
   refine ⟨⟨by omega,by omega⟩,⟨by omega,by simp only [Aw];omega⟩,_,rfl,_,CM Uj hxn,⟨by omega,by omega⟩,?_⟩
   rw [pX] at Uk
   unfold bu at Uk
   dsimp only at Uk
   rw [Cc,hga,Ai,Ai,htx,Cc] at Uk
   rw [Ai]
   refine Br.of (λhn=>?_) λhn=>?_
   ·have hn:r.getD (ap g xn) none=none:=by
     cases e:r.getD (ap g xn) none with
     |none=>rfl
     |some u=>rw [e] at hn;simp at hn
    rw [hn] at Uk
    refine ⟨⟨by omega,by simp only [Aw];omega⟩,_,rfl,⟨by omega,by omega⟩,some (Al t g),?_,⟨by omega,by omega⟩,?_,?_⟩
    ·rw [Ai,htx,Cc]
     exact Ab ⟨Yo t1,qR t1 Uj⟩
    ·show qq.length+1+1<=4294967296
     omega
    ·rw [Bg (by omega)]
     refine hK hl _ rfl ⟨kg,kt,?_,h1,h2⟩
     rw [Uk,List.set_set]
     rfl
   ·have hn: ∃u,r.getD (ap g xn) none=some u:=by
     cases e:r.getD (ap g xn) none with
     |none=>rw [e] at hn;simp at hn
     |some u=>exact ⟨u,rfl⟩
    obtain ⟨u,hn⟩:=hn
    rw [hn] at Uk
    rw [Bg (by omega)]
    refine hK hl _ rfl ⟨kg,kt,?_,h1,h2⟩
    rw [Uk]
  ·have:j=gs.length:=by omega
   subst this
   rw [Ap]
   generalize hs:bk (xn:Int) gs (row,qu)=s at p1 p2⊢
   obtain ⟨r,qq⟩:=s
   dsimp only at p1 p2⊢
   have Ahf:qq.length+Mg r=qu.length+Mg row:=p1.phi
   simp only [Aw] at hb hbf
   refine ⟨⟨by omega,by simp only [Aw];omega,Oe _⟩,⟨r,qq,kg,kt,?_,h1,h2,by omega,p1.ok,p2,?_⟩,?_⟩
   ·simp
   ·rw [show qu.length+1+Mg row=(qu.length+Mg row)+1 by omega] at hbf
    simp only [aT,hs] at hbf
    rw [Ahf]
    exact hbf
   ·simp only [Aw]
    have:(List.take (qq.length+1-Int.toNat 1) (List.drop (Int.toNat 1) ((xn:Int)::qq))).length=qq.length:=by simp
    rw [this]
    omega
 ·have:qu= []:=Cn (by omega)
  subst this
  rw [OQ] at hbf
  subst hbf
  have hpr:=Aeh hLN hg hro r3
  have hvl:=hv.lower gs row
  have Ajv: ∀qs:List (List Int),(∀q∈qs,q∈iz row gs)->V N k (L+1) (qs.foldl (λs q=>Hu k (L+1) q s) (G.set L gs,T.set L row))/\Wr (L+1) (G.set L gs,T.set L row) (qs.foldl (λs q=>Hu k (L+1) q s) (G.set L gs,T.set L row)):=
   fun qs XX=>US n1 n2 (by omega) qs _ (λq hq=>hpr q (XX q hq)) hvl
  refine ⟨_,Ab (by show row.length<=20;rw [hro.rl];exact n2),?_⟩
  dsimp only
  have hol:=DK row
  have hrl:=hro.rl
  refine Bf (Wb row).length (λv=>v.2.1) (λi v=> ∃(s:Cp×Cp) (kg kt:Nat),v=(L,(i:Int),s.1,kg,s.2,kt,Wb row,(N:Int),())/\L<=kg/\L<=kt/\s=(((Wb row).take i).flatMap λy=>gs.map (Ut row y)).foldl (λs q=>Hu k (L+1) q s) (G.set L gs,T.set L row)) rfl ⟨_,kg,kt,rfl,hkg,hkt,rfl⟩ ?_
  rintro i v K hi oD ⟨s,kg,kt,rfl,h1,h2,hs⟩ hK
  dsimp only
  have Qh: ∀q∈((Wb row).take i).flatMap (λy=>gs.map (Ut row y)),q∈iz row gs:= λq hq=>by
   obtain ⟨y,hy,hq⟩:=Hs.1 hq
   exact Hs.2 ⟨y,El hy,hq⟩
  refine Br.dec (λhl=>?_) λhl=>?_
  ·have hl:i<(Wb row).length:=by omega
   obtain ⟨f1,f2⟩:=Ajv _ Qh
   rw [<-hs] at f1 f2
   have g1:s.1.getD L []=gs:=by rw [(f2.low L (by omega)).1];exact hG1
   have g2:s.1.length=N:=f1.1
   obtain ⟨yn,hyn,hyr⟩:=bE.1 (Ak hl)
   obtain ⟨t,ht⟩:=Ui.1 hyr
   have hyN:yn<N:=by rw [<-hrl];exact oz ht
   obtain ⟨t1,t2,t3,t4⟩:=hro.rt _ _ ht
   refine ⟨⟨by omega,by omega⟩,(yn:Int),by rw [Ai,Ac hl,hyn],by omega,?_⟩
   rw [g1]
   refine Bf gs.length (λv=>v.2.2.1) (λj v=> ∃(s':Cp×Cp) (kg kt:Nat),v=(L,L,(j:Int),s'.1,kg,s'.2,kt,Wb row,(N:Int),())/\L<=kg/\L<=kt/\s'=(((Wb row).take i).flatMap (λy=>gs.map (Ut row y))++(gs.take j).map (Ut row (yn:Int))).foldl (λs q=>Hu k (L+1) q s) (G.set L gs,T.set L row)) rfl ⟨s,kg,kt,rfl,h1,h2,by simpa using hs⟩ ?_
   rintro j v K' hj sY ⟨s',kg,kt,rfl,h1,h2,IW⟩ hK'
   dsimp only
   refine Br.dec (λKp=>?_) λKp=>?_
   ·have Kp:j<gs.length:=by omega
    have VL: ∀q∈((Wb row).take i).flatMap (λy=>gs.map (Ut row y))++(gs.take j).map (Ut row (yn:Int)),q∈iz row gs:= λq hq=>by
     rcases Az.1 hq with hq|hq
     ·exact Qh q hq
     ·obtain ⟨o,ho,rfl⟩:=Bi.1 hq
      exact Hs.2 ⟨(yn:Int),bE.2 ⟨yn,rfl,hyr⟩,Bi.2 ⟨o,El ho,rfl⟩⟩
    obtain ⟨f1',f2'⟩:=Ajv _ VL
    rw [<-IW] at f1' f2'
    obtain ⟨G',T'⟩:=s'
    dsimp only at f1' f2'⊢
    have g1':G'.getD L []=gs:=by have:=(f2'.low L (by omega)).1;dsimp only at this;rw [this];exact hG1
    have g3':T'.getD L []=row:=by have:=(f2'.low L (by omega)).2;dsimp only at this;rw [this];exact hT1 row
    have g4':G'.length=N:=f1'.1
    have g5':T'.length=N:=f1'.2.1
    obtain ⟨g,pX,Uj,hgf⟩:=hg gs[j] (Ak Kp)
    have hgj:gs.getD j none=some g:=by rw [IC Kp];exact pX
    have zy:some g∈gs:=by rw [<-pX];exact Ak Kp
    have hy:=Uj.lt hyN
    obtain ⟨t',xD⟩:=Ui.1 (r3 yn t g ht zy)
    obtain ⟨u1,u2,u3,u4⟩:=hro.rt _ _ xD
    have Ar0:Ut row (yn:Int) gs[j]=Al (Al t g) (Bl t'):=by rw [pX];exact ku ht xD
    have hqm:=hpr _ (Hs.2 ⟨(yn:Int),bE.2 ⟨yn,rfl,hyr⟩,Bi.2 ⟨gs[j],Ak Kp,Ar0⟩⟩)
    simp only [g1',g3',Ai,hgj,ht,Cc]
    have vF:L<Int.toNat ((L+1:Nat):Int):=by omega
    have Ac8:=BJ n1 n2 k (L+1) _ (G',T') (by omega) f1' hqm.1 hqm.2
    have Ayk:((Hu k (L+1) (Al (Al t g) (Bl t')) (G',T')).1).length=N:=Ac8.v.1
    have Ayl:((Hu k (L+1) (Al (Al t g) (Bl t')) (G',T')).2).length=N:=Ac8.v.2.1
    have hkk:((N:Int)-((L+1:Nat):Int)).toNat=k:=by omega
    refine ⟨⟨by omega,by omega⟩,⟨by omega,by omega⟩,some (Al t g),Ab ⟨Yo t1,qR t1 Uj⟩,_,CM Uj hyN,⟨by omega,by omega⟩,Bl t',?_,some (Al (Al t g) (Bl t')),?_,_,Ab ⟨⟨N,L+1,_,rfl,?pr⟩,?lt⟩,⟨vF,?k1⟩,⟨vF,?k2⟩,⟨vF,?k3⟩,⟨vF,?k4⟩,?go⟩
    case pr=>exact ⟨n1,n2,rfl,rfl,by omega,by rw [show N-(L+1)=k by omega];exact f1',hqm.1,hqm.2⟩
    case lt=>
     show ((N:Int)-((L+1:Nat):Int)).toNat<m
     omega
    case go=>
     dsimp only
     rw [Bg (by omega)]
     refine hK' Kp _ rfl ⟨_,_,_,rfl,?_,?_,?_⟩
     ·show L<=min kg (Int.toNat ((L+1:Nat):Int));omega
     ·show L<=min kt (Int.toNat ((L+1:Nat):Int));omega
     ·rw [Ep,Ac Kp,Mf,Kl,<-Dh,Nk,<-IW]
      simp only [Ce,List.map_nil,Hr,List.foldl_nil,Ar0,hkk,Ai,Cc]
    case k1=>simp only [hkk,Ai,Cc];omega
    case k2=>simp only [hkk,Ai,Cc];omega
    case k3=>simp only [hkk,Ai,Cc];omega
    case k4=>simp only [hkk,Ai,Cc];omega
    ·rw [Ai,xD,Cc]
     exact Ab ⟨by show t'.length<=20;rw [u1.1];exact n2,u1.2.row⟩
    ·exact Ab ⟨Yo (t1.comp Uj),qR (t1.comp Uj) u1.inv⟩
   ·have:j=gs.length:=by omega
    subst this
    rw [Bg (by omega)]
    refine hK hl _ rfl ⟨s',kg,kt,rfl,h1,h2,?_⟩
    rw [IW,Ap,Ep,Ac hl,Mf,List.flatMap_append,hyn]
    simp
  ·have:i=(Wb row).length:=by omega
   subst this
   rw [Ap] at hs
   refine ⟨h1,h2,?_⟩
   rw [hs]
   rfl
theorem Aex {m:Nat} (Amv:Cb Tryz.prog 69 (Xm m)):Cb Tryz.prog 69 (Xm (m+1)):=
 Cb.iy (Ain [Sr+7]) (Av AO (Et yF (Av wT (Av Xq (Et Amv Bh))))) mixed Tryz.func69 (by kernel_rfl) (by kernel_rfl) λx h=>Art x.1 x.2.1 x.2.2.1 x.2.2.2.1 x.2.2.2.2.1 h
theorem SV:Cb Tryz.prog 69 (Xm 0):=
 Cb.iy xl Bh mixed Tryz.func69 (by kernel_rfl) (by kernel_rfl) λ_ h=>absurd h.2 (Dq _)
theorem wP: ∀m,Cb Tryz.prog 69 (Xm m)
 |0=>SV
 |m+1=>Aex (wP m)
noncomputable abbrev EK:MSpec:=iy Akm (λx=> ∃N L q,x.2.2.2.2.1=some q/\Wq N L x.1 x.2.1 x.2.2.1 x.2.2.2.1 q)
 (λx=>((x.1,(Hu (x.1-x.2.2.2.1).toNat x.2.2.2.1.toNat (x.2.2.2.2.1.getD []) (x.2.1,x.2.2.1)).1,(Hu (x.1-x.2.2.2.1).toNat x.2.2.2.1.toNat (x.2.2.2.2.1.getD []) (x.2.1,x.2.2.1)).2,()),()))
theorem SW:Cb Tryz.prog 69 EK:=Cb.Ae3 (λx=>(x.1-x.2.2.2.1).toNat) wP
def Ud (n:Nat):Cp:=List.replicate n []
def cT (n i:Nat):Row:=(List.replicate n none).set i (some (upto n))
def Zv (n:Nat):Cp:=(List.range n).map λi=>cT n i
def Vi (n:Nat) (gens:List PO):Cp×Cp:=gens.foldl (λs o=>Hu n 0 (o.getD []) s) (Ud n,Zv n)
noncomputable abbrev QL:MSpec:= {Ja:= [none,none],ins:= [(false, .Em tI),(false, .Em tLO)],Hb:=false,Fu:= [none,none,none],outs:= [.Em tI, .Bp tO xF false, .Bp tO xF false],fn:= λ_=>none,rp:=some 99}
noncomputable abbrev kr:MSpec:=iy QL (λx=>(1<=x.1/\x.1<=20)/\List.length x.2.1<=4294967296/\ ∀o∈(x.2.1:List PO),∃g,o=some g/\Pm x.1.toNat g)
 (λx=>((x.1,(Vi x.1.toNat x.2.1).1,(Vi x.1.toNat x.2.1).2,()),()))
abbrev bP:Type:=Int×List (List (Option (List Int)))×Int×List (List (Option (List Int)))×PUnit
theorem NM (n:Int) (gens:List (Option (List Int))) (P:(Int×List (List (Option (List Int)))×List (List (Option (List Int)))×Unit)×Unit->Prop):(((0:Int)<=n/\n<(↑Cr:Int)+(1:Int))/\n=n/\0=0/\(List.replicate n.toNat ([]:List (Option (List Int)))).length=(List.replicate n.toNat ([]:List (Option (List Int)))).length/\0=0/\0=([]:List Int).length/\Db (λ(v3:bP) (k4:bP->Prop)=>Br (decide (v3.1<n)) (((0:Int)<=n/\n<(↑Cr:Int)+(1:Int))/\n=n/\ ∃(y5:Option (List Int)),Qb.fn (n,())=some y5/\((0:Int)<=v3.1/\v3.1<(↑(List.replicate n.toNat (none:Option (List Int))).length:Int))/\0+v3.1.toNat<(List.replicate n.toNat (none:Option (List Int))).length/\0=0/\(List.replicate n.toNat (none:Option (List Int))).length=((List.replicate n.toNat (none:Option (List Int))).set (0+v3.1.toNat) y5).length/\(0=0/\v3.2.2.2.1.length=v3.2.2.2.1.length)/\(0=0/\1= [(List.replicate n.toNat (none:Option (List Int))).set (0+v3.1.toNat) y5].length)/\0< [(List.replicate n.toNat (none:Option (List Int))).set (0+v3.1.toNat) y5].length/\v3.2.2.2.1.length+ [(List.replicate n.toNat (none:Option (List Int))).set (0+v3.1.toNat) y5].length<=Cr/\0=0/\v3.2.1.length=v3.2.1.length/\0=0/\(v3.2.2.2.1++ [(List.replicate n.toNat (none:Option (List Int))).set (0+v3.1.toNat) y5]).length=(v3.2.2.2.1++ [(List.replicate n.toNat (none:Option (List Int))).set (0+v3.1.toNat) y5]).length/\k4 (IntKind.i64.wrap (v3.1+(1:Int)),v3.2.1,v3.2.2.1,v3.2.2.2.1++ [(List.replicate n.toNat (none:Option (List Int))).set (0+v3.1.toNat) y5],())) (0=0/\v3.2.1.length=v3.2.1.length/\0=0/\v3.2.2.2.1.length=v3.2.2.2.1.length/\Db (λ(v5:bP) (k6:bP->Prop)=>Br (decide (v5.1<(↑gens.length:Int))) (∃(y7:Option (List Int)),idx gens v5.1=some y7/\0=0/\v5.2.1.length=v5.2.1.length/\0=0/\v5.2.2.2.1.length=v5.2.2.2.1.length/\ ∃(y8:(Int×List (List (Option (List Int)))×List (List (Option (List Int)))×PUnit)×PUnit),EK.fn (v5.2.2.1,v5.2.1,v5.2.2.2.1,(0:Int),y7,())=some y8/\0=0/\y8.1.2.1.length=y8.1.2.1.length/\0=0/\y8.1.2.2.1.length=y8.1.2.2.1.length/\k6 (IntKind.i64.wrap (v5.1+(1:Int)),y8.1.2.1,y8.1.1,y8.1.2.2.1,())) ((0=0/\v5.2.1.length=v5.2.1.length)/\(0=0/\v5.2.2.2.1.length=v5.2.2.2.1.length)/\P ((v5.2.2.1,v5.2.1,v5.2.2.2.1,()),()))) ((0:Int),v3.2.1,v3.2.2.1,v3.2.2.2.1,PUnit.unit))) ((0:Int),List.replicate n.toNat ([]:List (Option (List Int))),n,[],PUnit.unit))=fnMW dg (look [(68,Qb),(69,EK)]) kr Tryz.f47 (n,gens,()) P:=by kernel_rfl
theorem Zu (n i:Nat):(Ud n).getD i []= []:=by
 unfold Ud
 rw [Aj,Zy]
 split<;>rfl
theorem nK {n i:Nat} (h:i<n):(Zv n).getD i []=cT n i:=by
 unfold Zv
 rw [Aj,Fm,hZ h]
 rfl
theorem pH {n i y:Nat} (h:i<n):(cT n i).getD y none=if i=y then some (upto n) else none:=by
 unfold cT
 rw [Lh,Gg]
 by_cases e:i=y
 ·rw [Ab ⟨e,h⟩,Ab e]
 ·rw [Ag (λhh=>e hh.1),Ag e,Aj,Zy]
  split<;>rfl
theorem xc {n:Nat} (h1:1<=n) (h2:n<=20): ∀(k l:Nat),l+k=n->lC n k l (Ud n,Zv n)
 |0,l,hk=>Zu n l
 |k+1,l,hk=>by
  have hl:l<n:=by omega
  have hg: ∀(g:List Int) (j:Nat),some g∈(Ud n).getD j []->False:= λg j hg=>by rw [Zu] at hg;cases hg
  refine ⟨xc h1 h2 k (l+1) (by omega),⟨λo ho=>?_,?_,?_,λy t e0=>?_,λy t g _ Tr=>(hg _ _ Tr).elim,λy t g t' _ Tr=>(hg _ _ Tr).elim⟩,λg Tr=>(hg _ _ Tr).elim⟩
  ·have ho:o∈(Ud n).getD l []:=ho
   rw [Zu] at ho;cases ho
  ·show ((Zv n).getD l []).length=n
   rw [nK hl];simp [cT]
  ·show ((Zv n).getD l []).getD l none=_
   rw [nK hl,pH hl,Ab rfl]
  ·replace e0:((Zv n).getD l []).getD y none=some t:=e0
   rw [nK hl,pH hl] at e0
   by_cases hy:l=y
   ·rw [Ab hy] at e0
    have e1:=Ba e0
    subst e1 hy
    exact ⟨Pm.id h1 h2,λi hi=>lR (by omega),lR hl, .id⟩
   ·rw [Ag hy] at e0;cases e0
theorem MG (n:Nat): ∀(k l:Nat),GBf k l (Ud n,Zv n)
 |0,_=>trivial
 |k+1,l=>⟨MG n k (l+1),by show ((Ud n).getD l []).length<=_;rw [Zu];exact Ip _⟩
theorem ud {n:Nat} (h1:1<=n) (h2:n<=20):V n n 0 (Ud n,Zv n):=⟨by simp [Ud],by simp [Zv],xc h1 h2 n 0 (by omega),MG n n 0⟩
def PmL (n:Nat) (gens:List PO):Prop:= ∀o∈gens,∃g,o=some g/\Pm n g
theorem GR {n:Nat} {gens:List PO} {j:Nat} (hj:j<gens.length):Vi n (gens.take (j+1))=Hu n 0 (gens[j].getD []) (Vi n (gens.take j)):=by
 unfold Vi
 rw [Ep,Ac hj,Mf,Nk]
 rfl
theorem q9 {n:Nat} (h1:1<=n) (h2:n<=20): ∀(gens:List PO) (s:Cp×Cp),PmL n gens->V n n 0 s->V n n 0 (gens.foldl (λs o=>Hu n 0 (o.getD []) s) s)/\
  Wr 0 s (gens.foldl (λs o=>Hu n 0 (o.getD []) s) s)/\(∀g,some g∈gens->Gn n ((gens.foldl (λs o=>Hu n 0 (o.getD []) s) s).1.getD 0 []) g)/\ ∀o∈(gens.foldl (λs o=>Hu n 0 (o.getD []) s) s).1.getD 0 [],o∈s.1.getD 0 []\/o∈gens
 | [],s,_,hv=>⟨hv,Wr.refl _ _,(λ_ hg=>by cases hg),λ_ ho=> .inl ho⟩
 |o::gens,s,hg,hv=>by
  obtain ⟨g,rfl,Uj⟩:=hg o (by simp)
  have ha:=BJ h1 h2 n 0 g s (by omega) hv Uj (λi hi=>absurd hi (Dq _))
  obtain ⟨a1,a2,a3,a4⟩:=q9 h1 h2 gens (Hu n 0 g s) (λo ho=>hg o (by simp [ho])) ha.v
  refine ⟨a1,ha.grow.trans a2 (Ao _),λg' Tr=>?_,λo ho=>?_⟩
  ·rcases Be.1 Tr with e|Tr
   ·cases e;exact ha.Amw.mono λg hg=>a2.zq _ _ hg
   ·exact a3 g' Tr
  ·rcases a4 o ho with h|h
   ·rcases ha.gens o h with h|h
    ·exact .inl h
    ·exact .inr (by simp [h])
   ·exact .inr (by simp [h])
theorem GQ {n:Nat} (h1:1<=n) (h2:n<=20) {gens:List PO} (hg:PmL n gens):V n n 0 (Vi n gens):=(q9 h1 h2 gens _ hg (ud h1 h2)).1
theorem nb {n:Nat} (h1:1<=n) (h2:n<=20) {gens:List PO} (hg:PmL n gens) {p:List Int} (hp:Pm n p):Ig (Vi n gens).2 n 0 p=true↔Gn n gens p:=by
 obtain ⟨a1,a2,a3,a4⟩:=q9 h1 h2 gens _ hg (ud h1 h2)
 have hS:GM n λg=>some g∈gens:=⟨⟨h1,h2⟩,λg Tr=>by obtain ⟨g',e,h⟩:=hg _ Tr;cases e;exact h⟩
 have Qh: ∀g,some g∈(Vi n gens).1.getD 0 []->some g∈gens:= λg Tr=>by
  rcases a4 _ Tr with h|h
  ·have h:some g∈(Ud n).getD 0 []:=h
   rw [Zu] at h;cases h
  ·exact h
 have hS':GM n λg=>some g∈(Vi n gens).1.getD 0 []:=⟨⟨h1,h2⟩,λg Tr=>hS.2 g (Qh g Tr)⟩
 refine (Uy h1 h2 n 0 (Vi n gens) (by omega) a1.2.2.1 p hp λi hi=>absurd hi (Dq _)).trans ⟨λh=>h.mono Qh,λh=>h.trans hS' λg Tr=>a3 g Tr⟩
theorem KZ (n:Int) (gens:List (Option (List Int))) (h:(1<=n/\n<=20)/\List.length gens<=4294967296/\ ∀o∈(gens:List PO),∃g,o=some g/\Pm n.toNat g):
  fnMW dg (look [(68,Qb),(69,EK)]) kr Tryz.f47 (n,gens,()) (λ(z:(Int×List (List (Option (List Int)))×List (List (Option (List Int)))×Unit)×Unit)=>z=((n,(Vi n.toNat gens).1,(Vi n.toNat gens).2,()),())):=by
 obtain ⟨⟨h1,h2⟩,h3,hg⟩:=h
 obtain ⟨N,rfl⟩: ∃N:Nat,n=N:=⟨n.toNat,by omega⟩
 rw [Ai] at hg⊢
 have h1:1<=N:=by omega
 have h2:N<=20:=by omega
 refine Eq.mp (NM (N:Int) gens _) ?_
 have hm:((0:Int)<=(N:Int)/\(N:Int)<(Cr:Int)+1):=⟨by omega,by show (N:Int)<(4294967296:Int)+1;omega⟩
 simp only [hm,and_self,eq_self,true_and,Ai,Bo,Ex,Bj,Gg,Aw,Nat.lt_add_one,Ax]
 refine Bf N (λv=>v.1) (λj v=>v=((j:Int),Ud N,(N:Int),(List.range j).map (cT N),())) rfl rfl ?_
 rintro j v K hj hi rfl hK
 dsimp only
 refine Br.dec (λhl=>?_) λhl=>?_
 ·refine ⟨_,Ab ⟨by show (1:Int)<=N;omega,by show (N:Int)<=20;omega⟩,⟨by omega,by omega⟩,by rw [Ai];omega,?_,?_⟩
  ·show _<=4294967296
   simp only [Dl,List.length_range]
   omega
  ·rw [Bg (by omega)]
   refine hK (by omega) _ rfl ?_
   rw [j8,Kl]
   rfl
 ·have:j=N:=by omega
  subst this
  refine Bf gens.length (λv=>v.1) (λi v=>v=((i:Int),(Vi j (gens.take i)).1,(j:Int),(Vi j (gens.take i)).2,())) rfl rfl ?_
  rintro i v K' oD Avt rfl hK'
  dsimp only
  refine Br.dec (λKp=>?_) λKp=>?_
  ·have Kp:i<gens.length:=by omega
   obtain ⟨g,pX,Uj⟩:=hg gens[i] (Ak Kp)
   have hv:=GQ h1 h2 (gens:=gens.take i) λo ho=>hg o (El ho)
   refine ⟨_,Bu Kp,_,Ab ⟨j,0,g,pX,h1,h2,rfl,rfl,Ip _,hv,Uj,λi hi=>absurd hi (Dq _)⟩,?_⟩
   rw [Bg (by omega)]
   refine hK' Kp _ rfl ?_
   rw [GR Kp]
   simp only [Int.sub_zero,Ai]
   rfl
  ·have:i=gens.length:=by omega
   subst this
   rw [Ap]
theorem tB:Cb Tryz.prog 47 kr:=
 Cb.iy xl (Av tt (Et SW Bh)) mixed Tryz.func47 (by kernel_rfl) (by kernel_rfl) λx h=>KZ x.1 x.2.1 h
noncomputable abbrev JD:MSpec:= {Ja:= [none,none],ins:= [(false, .Em tI),(false, .Em dS)],Hb:=false,Fu:= [none,none,none],outs:= [.Em tI, .Bp tO xF false, .Bp tO xF false],fn:= λ_=>none,rp:=some 99}
def dp (n:Int) (g:List (List Int)):Cp×Cp:=Vi n.toNat (g.map some)
noncomputable abbrev Zk:MSpec:=iy JD (λx=>(1<=x.1/\x.1<=20)/\List.length x.2.1<=4294967296/\ ∀g∈(x.2.1:List (List Int)),Pm x.1.toNat g)
 (λx=>((x.1,(dp x.1 x.2.1).1,(dp x.1 x.2.1).2,()),()))
noncomputable def Oa (p:PP) (s:List Int):Bool:=(Ds p&&Gt p.1 s)&&Ig (dp p.1 p.2.2.1).2 p.1.toNat 0 s
noncomputable abbrev Nq:Spec:=Fb (.pair Ga (.pair tL .unit)) .bool false true (λx=>Ek x.1/\short x.2.1) (λx=>Oa x.1 x.2.1)
theorem Cells.told {w:World} {S:Nat->Prop} {e:Ty} {cs:List Value} {xs:List e.den} (h:Cells w S (.slice e) cs xs): ∃o:Option (List e.den),Cells w S (.oslice e) cs o/\o.getD []=xs:=by
 simp only [Cells] at h
 obtain ⟨a,len,cap,rfl,h1,h2,h3⟩:=h
 cases a with
 |none=>
  rcases h3 with rfl|⟨g,o,h,_⟩
  ·refine ⟨none,?_,rfl⟩
   simp only [Cells]
   exact .inl ⟨trivial,cap,by rw [h1];rfl⟩
  ·cases h
 |some ad=>
  refine ⟨some xs,?_,rfl⟩
  simp only [Cells]
  exact .inr ⟨xs,ad,len,cap,rfl,rfl,h1,h2,h3.imp id λ⟨g,o,h,h4⟩=>⟨g,o,Ba h,h4⟩⟩
theorem OM {α β:Type} (Q:Nat->α->β->Prop): ∀(xs:List α),(∀i x,xs[i]?=some x-> ∃y,Q i x y)-> ∃ys:List β,ys.length=xs.length/\ ∀i x y,xs[i]?=some x->ys[i]?=some y->Q i x y:=by
 intro xs h
 refine ⟨List.ofFn λi:Fin xs.length=>Classical.choose (h i xs[i] (Ac i.2)),by simp,λi x y h1 h2=>?_⟩
 obtain ⟨hi,rfl⟩:=An.1 h1
 obtain ⟨oD,rfl⟩:=An.1 h2
 rw [List.getElem_ofFn]
 exact Classical.choose_spec (h i xs[i] (Ac hi))
theorem Cw.Akt {w:World} {S:Nat->Prop} {e:Ty} {v:Value} {xs:List (List e.den)} (h:Cw w S (.slice (.slice e)) v xs): ∃os:List (Option (List e.den)),Cw w S (.slice (.oslice e)) v os/\os.map (·.getD [])=xs:=by
 obtain ⟨cs,hc,rfl⟩:=h
 simp only [Cells] at hc
 obtain ⟨a,len,cap,rfl,h1,h2,h3⟩:=hc
 rcases h3 with rfl|⟨g,o,rfl,hg,hS,h4⟩
 ·refine ⟨[],⟨_,?_,rfl⟩,rfl⟩
  simp only [Cells]
  exact ⟨a,len,cap,rfl,h1,h2, .inl trivial⟩
 ·obtain ⟨os,e1,e2⟩:=OM (λi (x:List e.den) (y:Option (List e.den))=>y.getD []=x/\ ∃es:List Value,es.length=1/\(∀j u,es[j]?=some u->w.cell? ⟨g,o+i*1+j,none⟩=some u)/\Cells w S (.oslice e) es y) xs λi x hx=>by
   obtain ⟨es,k1,k2,k3⟩:=h4 i x hx
   obtain ⟨y,k4,k5⟩:=Cells.told (e:=e) (by simp only [Cells];exact k3)
   exact ⟨y,k5,es,k1,k2,k4⟩
  refine ⟨os,⟨_,?_,rfl⟩,?_⟩
  ·simp only [Cells]
   refine ⟨_,len,cap,rfl,by rw [h1,e1],h2, .inr ⟨g,o,rfl,hg,hS,λi y hy=>?_⟩⟩
   obtain ⟨hi,_⟩:=An.1 hy
   obtain ⟨_,es,k1,k2,k3⟩:=e2 i _ y (Ac (by omega)) hy
   simp only [Cells] at k3
   exact ⟨es,k1,k2,k3⟩
  ·refine List.ext_getElem (by simp [e1]) λi g1 g2=>?_
   rw [Tp]
   exact (e2 i _ _ (Ac g2) (Ac (by omega))).1
theorem wY:Cb Tryz.prog 47 Zk:=by
 have h:=tB
 refine ⟨h.enter,λw S π us x r o g vs h1 hg h2 h3 hS h4 h5=>?_⟩
 obtain ⟨n,gens,⟨⟩⟩:=x
 match us,h2 with
 |u1::u2::us,h2=>
  obtain ⟨h6,⟨h7,h8⟩,h9⟩:=h2
  obtain ⟨os,pW,iO⟩:=Cw.Akt (e:=tI) h8
  have iO:os.map (·.getD [])=(gens:List (List Int)):=iO
  have iQ:(1<=n/\n<=20)/\List.length gens<=4294967296/\ ∀g∈(gens:List (List Int)),Pm n.toNat g:=Bw λhn=>by
   have:Zk.fn (n,gens,())=none:=Ag hn
   rw [this] at h5;cases h5
  have hos:os=gens.map some:=by
   rw [<-iO,List.map_map]
   refine (List.map_id os).symm.trans (Ev λx hx=>?_)
   cases x with
   |some y=>rfl
   |none=>
    have:=iQ.2.2 [] (by rw [<-iO];exact Bi.2 ⟨none,hx,rfl⟩)
    have h1:=this.n1
    have h2:=this.1
    simp at h2
    omega
  have hv:Zk.fn (n,gens,())=some ((n,(dp n gens).1,(dp n gens).2,()),()):=Ab iQ
  rw [hv] at h5
  have h5:=Ba h5
  refine h.calls w S π (u1::u2::us) (n,os,()) r o g vs h1 hg ⟨h6,⟨h7,pW⟩,h9⟩ h3 hS h4 ?_
  refine (Ab ⟨iQ.1,by rw [hos,Dl];exact iQ.2.1,λy hy=>?pp⟩).trans (Lr some ?qq)
  case pp=>
   replace hy:y∈os:=hy
   rw [hos] at hy
   obtain ⟨g,hg,rfl⟩:=Bi.1 hy
   exact ⟨g,rfl,iQ.2.2 g hg⟩
  case qq=>subst hos;exact h5
theorem eJ {p:PP} (hv:Valid p):(1<=p.1/\p.1<=20)/\List.length p.2.2.1<=4294967296/\ ∀g∈p.2.2.1,Pm p.1.toNat g:=
 ⟨hv.n,by have:=hv.uX;omega,λg hg=>⟨by have:=hv.len g hg;omega,ek (hv.perm g hg)⟩⟩
theorem fj {n:Nat} {g:List (List Int)} (h: ∀x∈g,Pm n x):PmL n (g.map some):= λo ho=>by
 obtain ⟨x,hx,rfl⟩:=Bi.1 ho
 exact ⟨x,rfl,h x hx⟩
theorem Agr {p:PP} (hv:Valid p):V p.1.toNat p.1.toNat 0 (dp p.1 p.2.2.1):=by
 have:=hv.n
 exact GQ (by omega) (by omega) (fj (eJ hv).2.2)
theorem KF {α:Type} [DecidableEq α]: ∀ {l1 l2:List α},l1.Nodup->(∀x∈l1,x∈l2)->l1.length<=l2.length
 | [],_,_,_=>Ip _
 |a::l,l2,hn,hs=>by
  obtain ⟨h1,h2⟩:=Cd.1 hn
  have ha:=hs a (by simp)
  have:=KF (l1:=l) (l2:=l2.erase a) h2 λy hy=>by
   have hya:y≠a:= λe'=>h1 (by rw [<-e'];exact hy)
   exact (List.mem_erase_of_ne hya).2 (hs y (by simp [hy]))
  rw [List.length_erase_of_mem ha] at this
  have:=List.length_pos_of_mem ha
  simp only [Aw]
  omega
theorem pq {g:List (List Int)} {x:List Int} :some x∈g.map some↔x∈g:=by simp
theorem QU {n:Nat} {g:List (List Int)} {x:List Int} (h:Gn n (g.map some) x) {l:Int} (hl:l∈Ay g.length):Gn n (g.map some) (Al x (Bm g l)):=by
 obtain ⟨k,hk,rfl|rfl⟩:=Qj (Ob hl)
 ·rw [Sj hk];exact .mul h (pq.2 (Ak hk))
 ·rw [Si hk];exact .inv h (pq.2 (Ak hk))
theorem Vz {n k:Nat} (hk:k<n):(k:Int)+1∈Ay n/\ -((k:Int)+1)∈Ay n:=by
 unfold Ay
 exact ⟨Hs.2 ⟨k,Eo.2 hk,by simp⟩,Hs.2 ⟨k,Eo.2 hk,by simp⟩⟩
theorem Hm.nodup {m:Nat} {L:List (List Int)} {Nd:List Int} (h:Hm m L Nd):L.Nodup:=
 Fh.2 λi j hi hj jC e=>by have:=h.inj hi hj e;omega
noncomputable def tZ (p:PP):Bool:=Ds p&&(Kf p.2.2.1 (upto p.1.toNat)).2.2
theorem Ka {α:Type} {xs ys:List α} {i:Nat} {d:α} (h:i<xs.length):(xs++ys).getD i d=xs.getD i d:=by
 rw [Aj,Aj,At h]
theorem kX {α:Type} {xs:List α} {x d:α} :(xs++ [x]).getD xs.length d=x:=by
 rw [Aj,As (Ao _),Nat.sub_self];rfl
theorem aa {α:Type} {xs:List α} {i:Nat} {d:α} (h:i<xs.length):xs.getD i d=xs[i]:=by
 rw [Aj,Ac h];rfl
structure Lv (g:List (List Int)) (ls:List Int) (k:Nat) (L:List (List Int)) (D:List Int):Prop where
 len:D.length=L.length
 pos:0<L.length
 mono: ∀i j,i<=j->j<L.length->D.getD i 0<=D.getD j 0
 Ahv:k<L.length-> ∀j,j<L.length->D.getD j 0<=D.getD k 0+1
 par: ∀j,0<j->j<L.length-> ∃i l,i<j/\l∈ls/\L.getD j []=Al (L.getD i []) (Bm g l)/\D.getD j 0=D.getD i 0+1
 zero:D.getD 0 0=0
theorem Lv.add {g:List (List Int)} {ls:List Int} {k:Nat} {L:List (List Int)} {D:List Int} (h:Lv g ls k L D) (hk:k<L.length) {l:Int} (hl:l∈ls):
  Lv g ls k (L++ [Al (L.getD k []) (Bm g l)]) (D++ [D.getD k 0+1]):=by
 have hlen:=h.len
 have hD: ∀i,i<L.length->(D++ [D.getD k 0+1]).getD i 0=D.getD i 0:= λi hi=>Ka (by omega)
 have hDl:(D++ [D.getD k 0+1]).getD L.length 0=D.getD k 0+1:=by rw [<-hlen];exact kX
 refine ⟨by simp [hlen],by simp,λi j jC hj=>?_,λ_ j hj=>?_,λj h0 hj=>?_,?_⟩
 ·rw [Ax,Bt] at hj
  by_cases e:j=L.length
  ·subst e
   rw [hDl]
   by_cases e':i=L.length
   ·subst e';rw [hDl];exact Oe _
   ·rw [hD i (by omega)]
    exact h.Ahv hk i (by omega)
  ·rw [hD i (by omega),hD j (by omega)]
   exact h.mono i j jC (by omega)
 ·rw [Ax,Bt] at hj
  rw [hD k hk]
  by_cases e:j=L.length
  ·subst e;rw [hDl];exact Oe _
  ·rw [hD j (by omega)];exact h.Ahv hk j (by omega)
 ·rw [Ax,Bt] at hj
  by_cases e:j=L.length
  ·subst e
   exact ⟨k,l,hk,hl,by rw [kX,Ka hk],by rw [hDl,hD k hk]⟩
  ·obtain ⟨i,l',h1,h2,h3,h4⟩:=h.par j h0 (by omega)
   exact ⟨i,l',h1,h2,by rw [Ka (by omega),Ka (by omega)];exact h3,by rw [hD j (by omega),hD i (by omega)];exact h4⟩
 ·rw [hD 0 h.pos];exact h.zero
theorem uI {g:List (List Int)} {ls:List Int} {k:Nat} : ∀(VT:List Int) (L:List (List Int)) (D:List Int),(∀l∈VT,l∈ls)->Lv g ls k L D->k<L.length-> ∀ {x:List Int} {d:Int},x=L.getD k []->d=D.getD k 0->
  Lv g ls k (Kv g x d VT L D).1 (Kv g x d VT L D).2.1/\(∃A,(Kv g x d VT L D).1=L++A)/\(∃A,(Kv g x d VT L D).2.1=D++A)/\
  ((Kv g x d VT L D).2.2=true-> ∀l∈VT,∃j,j<(Kv g x d VT L D).1.length/\(Kv g x d VT L D).1.getD j []=Al x (Bm g l)/\(Kv g x d VT L D).2.1.getD j 0<=d+1)
 | [],L,D,_,h,_,x,d,_,_=>⟨h,⟨[],by simp [Kv]⟩,⟨[],by simp [Kv]⟩,λ_ l hl=>by cases hl⟩
 |l::VT,L,D,hs,h,hk,x,d,hx,hd=>by
  have IW: ∀l∈VT,l∈ls:= λl' h'=>hs l' (Ar _ h')
  have hlen:=h.len
  simp only [Kv]
  split
  ·rename_i hm
   obtain ⟨a1,⟨A,a2⟩,⟨A',a3⟩,a4⟩:=uI VT L D IW h hk hx hd
   refine ⟨a1,⟨A,a2⟩,⟨A',a3⟩,λe l' Kp=>?_⟩
   rcases Be.1 Kp with rfl|Kp
   ·obtain ⟨j,hj,hjx⟩:=Cl.1 hm
    refine ⟨j,by rw [a2,Ax];omega,by rw [a2,Ka hj,aa hj];exact hjx,?_⟩
    rw [a3,Ka (by omega),hd]
    exact h.Ahv hk j hj
   ·exact a4 e l' Kp
  ·split
   ·exact ⟨h,⟨[],by simp⟩,⟨[],by simp⟩,λe=>by cases e⟩
   ·have Ac8:=h.add hk (hs l (by simp))
    rw [<-hx,<-hd] at Ac8
    obtain ⟨a1,⟨A,a2⟩,⟨A',a3⟩,a4⟩:=uI VT (L++ [Al x (Bm g l)]) (D++ [d+1]) IW Ac8 (by rw [Ax];omega) (x:=x) (d:=d) (by rw [Ka hk];exact hx) (by rw [Ka (by omega)];exact hd)
    refine ⟨a1,⟨_::A,by rw [a2,Dh];rfl⟩,⟨_::A',by rw [a3,Dh];rfl⟩,λe l' Kp=>?_⟩
    rcases Be.1 Kp with rfl|Kp
    ·refine ⟨L.length,by rw [a2,Ax,Ax];simp only [Bt];omega,?_,?_⟩
     ·rw [a2,Ka (by simp),kX]
     ·rw [a3,Ka (by simp [hlen]),<-hlen,kX]
      exact Oe _
    ·exact a4 e l' Kp
structure OI (g:List (List Int)) (ls:List Int) (L:List (List Int)) (D:List Int):Prop where
 len:D.length=L.length
 pos:0<L.length
 zero:D.getD 0 0=0
 par: ∀j,0<j->j<L.length-> ∃i l,i<j/\l∈ls/\L.getD j []=Al (L.getD i []) (Bm g l)/\D.getD j 0=D.getD i 0+1
 step: ∀i,i<L.length-> ∀l∈ls,∃j,j<L.length/\L.getD j []=Al (L.getD i []) (Bm g l)/\D.getD j 0<=D.getD i 0+1
theorem HE {g:List (List Int)} {ls:List Int} : ∀(f k:Nat) (L:List (List Int)) (D:List Int),3001<=f+k->Lv g ls k L D->k<=L.length->
  (∀i,i<k-> ∀l∈ls,∃j,j<L.length/\L.getD j []=Al (L.getD i []) (Bm g l)/\D.getD j 0<=D.getD i 0+1)->
  (Qr g ls f k L D).2.2=true->(Qr g ls f k L D).1.length<=3000->OI g ls (Qr g ls f k L D).1 (Qr g ls f k L D).2.1
 |0,k,L,D,hf,h,hkL,hc,hw,h3=>by
  simp only [Qr] at h3⊢
  omega
 |f+1,k,L,D,hf,h,hkL,hc,hw,h3=>by
  simp only [Qr] at hw h3⊢
  split
  ·rename_i hk
   rw [Ab hk] at hw h3
   obtain ⟨a1,⟨A,a2⟩,⟨A',a3⟩,a4⟩:=uI (x:=L.getD k []) (d:=D.getD k 0) ls L D (λ_ h=>h) h hk rfl rfl
   have hlen:=h.len
   split
   ·rename_i L' D' he
    rw [he] at a1 a2 a3 a4
    simp only [he] at hw h3
    have a2:L'=L++A:=a2
    have a3:D'=D++A':=a3
    have a4:=a4 rfl
    dsimp only at a4
    have hLl:L.length<=L'.length:=by rw [a2,Ax];omega
    refine HE f (k+1) L' D' (by omega) ⟨a1.len,a1.pos,a1.mono,λhk1 j hj=>?_,a1.par,a1.zero⟩ (by omega) (λi hi l hl=>?_) hw h3
    ·have h1:D'.getD j 0<=D'.getD k 0+1:=a1.Ahv (show k<L'.length by omega) j hj
     have h2:D'.getD k 0<=D'.getD (k+1) 0:=a1.mono k (k+1) (by omega) hk1
     omega
    ·by_cases e:i=k
     ·subst e
      obtain ⟨j,b1,b2,b3⟩:=a4 l hl
      refine ⟨j,b1,?_,?_⟩
      ·rw [b2,a2,Ka (by omega)]
      ·rw [show D'.getD i 0=D.getD i 0 by rw [a3,Ka (by omega)]];exact b3
     ·obtain ⟨j,b1,b2,b3⟩:=hc i (by omega) l hl
      refine ⟨j,by omega,?_,?_⟩
      ·rw [a2,Ka (by omega),Ka (by omega)];exact b2
      ·rw [a3,Ka (by omega),Ka (by omega)];exact b3
   ·rename_i L' D' he
    simp only [he] at hw
    cases hw
  ·rename_i hk
   exact ⟨h.len,h.pos,h.zero,h.par,λi hi=>hc i (by have hi:i<L.length:=hi;omega)⟩
theorem OR {p:PP} {s:List Int} (hv:Ds p=true) (hs:s.length<=20) (hr: ∀y∈s,0<=y/\y<p.1) (hw:(Kf p.2.2.1 s).2.2=true):
  OI p.2.2.1 (Ay p.2.2.1.length) (Kf p.2.2.1 s).1 (Kf p.2.2.1 s).2.1:=by
 have hb:=(OS hv hs hr).1.ok.uX
 refine HE 3001 0 [s] [0] (by omega) ⟨rfl,by simp,λi j jC hj=>?_,λ_ j hj=>?_,λj h0 hj=>?_,rfl⟩ (Ip _) (λi hi=>absurd hi (Dq _)) hw hb
 ·have:j=0:=by simpa using hj
  subst this
  have:i=0:=by omega
  subst this
  exact Oe _
 ·have:j=0:=by simpa using hj
  subst this
  simp
 ·have:j=0:=by simpa using hj
  omega
theorem JN {p:PP} (hV:Valid p) {x:List Int} (hx: ∀y∈x,0<=y/\y<p.1) {l:Int} (hl:l∈Ay p.2.2.1.length):
  -l∈Ay p.2.2.1.length/\Al (Al x (Bm p.2.2.1 l)) (Bm p.2.2.1 (-l))=x:=by
 obtain ⟨k,hk,Rz⟩:=Qj (Ob hl)
 have hg:=ek (hV.perm _ (Ak hk))
 have hgl:=hV.len _ (Ak hk)
 have hn:=hV.n
 have hp:Pm p.1.toNat (p.2.2.1[k]):=⟨by omega,hg⟩
 have key: ∀q r:List Int,Pm p.1.toNat q->Pm p.1.toNat r->Al q r=upto p.1.toNat->Al (Al x q) r=x:= λq r hq hr he=>by
  refine List.ext_getElem (by rw [Ps,Ps]) λi h1 h2=>?_
  have hxi:=hx _ (Ak h2)
  obtain ⟨xi,hxe⟩:=Rj hxi.1
  have hxn:xi<p.1.toNat:=by omega
  have e1:ap (Al q r) xi=ap (upto p.1.toNat) xi:=Lr (λz=>ap z xi) he
  rw [Mb hq hr hxn,lR hxn] at e1
  simp only [Al,Tp,hxe]
  have h3:=(hq.bj hxn).1
  have h4:=(hr.bj (hq.lt hxn)).1
  rw [h3,h4,e1]
 rcases Rz with rfl|rfl
 ·refine ⟨(Vz hk).2,?_⟩
  rw [Sj hk,Si hk]
  exact key _ _ hp hp.inv (o3 hp)
 ·refine ⟨by rw [Int.neg_neg];exact (Vz hk).1,?_⟩
  rw [Int.neg_neg,Sj hk,Si hk]
  exact key _ _ hp.inv hp (eZ hp)
structure fJ (g:List (List Int)) (ls:List Int) (L:List (List Int)) (S:List Int->Prop) (d:List Int->Int):Prop where
 nn: ∀x∈L,0<=d x
 zero: ∀x∈L,d x=0↔S x
 step: ∀x∈L,∀l∈ls,d (Al x (Bm g l))<=d x+1
 down: ∀x∈L,0<d x-> ∃l∈ls,d (Al x (Bm g l))=d x-1
structure AY (g:List (List Int)) (ls:List Int) (L:List (List Int)):Prop where
 next: ∀x∈L,∀l∈ls,Al x (Bm g l)∈L
 back: ∀x∈L,∀l∈ls,-l∈ls/\Al (Al x (Bm g l)) (Bm g (-l))=x
theorem fJ.le {g:List (List Int)} {ls:List Int} {L:List (List Int)} {S:List Int->Prop} {d d':List Int->Int} (hc:AY g ls L) (h:fJ g ls L S d) (h':fJ g ls L S d'):
  ∀(n:Nat) (x:List Int),x∈L->d' x=n->d x<=n
 |0,x,hx,e=>by
  have:=(h.zero x hx).2 ((h'.zero x hx).1 e)
  omega
 |n+1,x,hx,e=>by
  obtain ⟨l,hl,hd⟩:=h'.down x hx (by omega)
  obtain ⟨b1,b2⟩:=hc.back x hx l hl
  have h1:=fJ.le hc h h' n _ (hc.next x hx l hl) (by omega)
  have h2:=h.step _ (hc.next x hx l hl) _ b1
  rw [b2] at h2
  omega
theorem fJ.eq {g:List (List Int)} {ls:List Int} {L:List (List Int)} {S:List Int->Prop} {d d':List Int->Int} (hc:AY g ls L) (h:fJ g ls L S d) (h':fJ g ls L S d') {x:List Int} (hx:x∈L):d x=d' x:=by
 have n1:=h.nn x hx
 have n2:=h'.nn x hx
 have h1:=fJ.le hc h h' (d' x).toNat x hx (by omega)
 have h2:=fJ.le hc h' h (d x).toNat x hx (by omega)
 omega
theorem QF {L:List (List Int)} (hn:L.Nodup) {j:Nat} (hj:j<L.length):L.idxOf (L.getD j [])=j:=by
 rw [aa hj]
 exact hn.idxOf_getElem j hj
theorem Ac4 {L:List (List Int)} {j:Nat} (hj:j<L.length):L.getD j []∈L:=by rw [aa hj];exact Ak hj
theorem xZ {p:PP} (hV:Valid p) {m:Nat} {L:List (List Int)} {D:List Int} (hb:bb p m L D) (h:OI p.2.2.1 (Ay p.2.2.1.length) L D):AY p.2.2.1 (Ay p.2.2.1.length) L where
 next x hx l hl:=by
  obtain ⟨i,hi,rfl⟩:=Cl.1 hx
  obtain ⟨j,h1,h2,_⟩:=h.step i hi l hl
  rw [aa hi] at h2
  rw [<-h2]
  exact Ac4 h1
 back x hx l hl:=JN hV (hb.row x hx) hl
noncomputable def vX (p:PP):List (List Int):=(Kf p.2.2.1 (upto p.1.toNat)).1
noncomputable def DD (p:PP) (s:List Int):Bool:=tZ p&&decide (s∈vX p)
noncomputable abbrev c8:Spec:=Fb (.pair tL (.pair tL .unit)) tL false true (λx=>short x.2.1/\Mt (List.length x.1) x.2.1) (λx=>Eh x.1 x.2.1)
theorem Aaq (xs is:List Int) (P:List Int->Prop):(((0:Int)<=(↑is.length:Int)/\(↑is.length:Int)<(↑Cr:Int)+(1:Int))/\(↑is.length:Int)=(↑is.length:Int)/\0=0/\(List.replicate (↑is.length:Int).toNat (Int.ofNat (nat_lit 0))).length=(List.replicate (↑is.length:Int).toNat (Int.ofNat (nat_lit 0))).length/\Db (λ(v3:Int×List Int×PUnit) (k4:Int×List Int×PUnit->Prop)=>Br (decide (v3.1<(↑is.length:Int))) (∃(y5:Int),idx is v3.1=some y5/\ ∃(y6:Int),idx xs y5=some y6/\((0:Int)<=v3.1/\v3.1<(↑v3.2.1.length:Int))/\0+v3.1.toNat<v3.2.1.length/\0=0/\v3.2.1.length=(v3.2.1.set (0+v3.1.toNat) y6).length/\k4 (IntKind.i64.wrap (v3.1+(1:Int)),v3.2.1.set (0+v3.1.toNat) y6,())) (P (List.take v3.2.1.length (List.drop 0 v3.2.1)))) ((0:Int),List.replicate (↑is.length:Int).toNat (Int.ofNat (nat_lit 0)),PUnit.unit))=fnW En (look []) c8 Tryz.f77 (xs,is,()) P:=by kernel_rfl
theorem YD {p:List Int} (h:cj p):Jv p=true:=by
 refine Hv.2 ⟨h.pos,h.len,λj h1 h2=>?_⟩
 have:=h.row _ (Ak h2)
 exact ⟨by omega,by omega,λhm=>by
  obtain ⟨i,hi,e⟩:=Cl.1 hm
  have oD:i<j:=by rw [Cq] at hi;omega
  rw [List.getElem_take] at e
  exact (Fh.1 h.nodup i j (by omega) h2 oD) e⟩
theorem vn {p:PP} (hV:Valid p):GM p.1.toNat λg=>some g∈p.2.2.1.map some:=
 ⟨by have:=hV.n;omega,λg Tr=>by obtain ⟨g',e,h⟩:=fj (eJ hV).2.2 _ Tr;cases e;exact h⟩
theorem Anu {p:PP} (hV:Valid p) {x:List Int} (h:Pm p.1.toNat x):Gt p.1 x=true:=by
 have:=hV.n
 have:=h.1
 exact Hv.2 ⟨by omega,YD h.2⟩
theorem Alb {p:PP} (_hV:Valid p) {x:List Int} (h:Gt p.1 x=true):Pm p.1.toNat x:=by
 obtain ⟨h1,h2⟩:=Hv.1 h
 exact ⟨by omega,ek h2⟩
theorem XM {p:PP} {s:List Int} :DD p s=true↔tZ p=true/\s∈vX p:=by
 unfold DD;rw [Af,Je]
theorem Al5 {b:Bool} (h:(!b)=true):b=false:=by cases b<;>simp_all
theorem uR {a b:List Int} :Ck a b=true↔a=b:=Je
theorem ZB (xs is:List Int) (h:short is/\Mt xs.length is):fnW En (look []) c8 Tryz.f77 (xs,is,()) (λ(z:List Int)=>z=Eh xs is):=by
 obtain ⟨h,hr⟩:=h
 unfold short at h
 have Ox:(Eh xs is).length=is.length:=wm xs is
 refine Eq.mp (Aaq xs is _) ⟨⟨by omega,by show (is.length:Int)<(4294967296:Int)+1;omega⟩,rfl,rfl,rfl,?_⟩
 refine Bf is.length (λv=>v.1) (λj v=>v.2.1.length=(Eh xs is).length/\v.2.1.take j=(Eh xs is).take j) rfl ⟨by rw [Ox];simp,by simp⟩ ?_
 rintro j ⟨i,ys,⟨⟩⟩ K hj hi ⟨h1,h2⟩ hK
 dsimp only at hi h1 h2⊢
 subst hi
 refine Br.dec (λhl=>?_) λhl=>?_
 ·have hl:j<is.length:=by omega
  have hx:=hr _ (Ak hl)
  obtain ⟨xn,hxe⟩:=Rj hx.1
  have Kp:j<(Eh xs is).length:=by rw [Ox];exact hl
  have e:xs[xn]'(by omega)=(Eh xs is)[j]:=by
   simp only [Eh,Tp,Kb,hxe,Ai]
   rw [aa]
  refine ⟨_,Bu hl,xs[xn]'(by omega),by rw [hxe];exact Bu (by omega),⟨by omega,by omega⟩,by rw [Ai,Bo];omega,rfl,by rw [Bj],?_⟩
  rw [Bg (by omega),Ai,Bo,e]
  refine hK hl _ rfl ⟨by rw [Bj];exact h1,?_⟩
  rw [Ep,List.take_set_of_le (by omega),h2,List.getElem?_set_self (by omega),Ep,Ac Kp]
 ·have:j=is.length:=by omega
  subst this
  rw [Bz,<-Ap (l:=ys),h1,Ox,h2,<-Ox,Ap]
theorem yH:Sound Tryz.prog 77 c8:=
 Sound.Fb De Bh mixed Tryz.func77 (by kernel_rfl) (by kernel_rfl) λx h=>ZB x.1 x.2.1 h
theorem YK {p:PP} (hV:Valid p) {l:Int} (hl:Iu (List.length p.2.2.1) l):Pm p.1.toNat (Bm p.2.2.1 l):=by
 have hn:=hV.n
 obtain ⟨k,hk,Rz⟩:=Qj hl
 have hp:Pm p.1.toNat (p.2.2.1[k]):=⟨by have:=hV.len _ (Ak hk);omega,ek (hV.perm _ (Ak hk))⟩
 rcases Rz with rfl|rfl
 ·rw [Sj hk];exact hp
 ·rw [Si hk];exact hp.inv
theorem map_take {α β:Type} (f:α->β) {xs:List α} {j:Nat} (h:j<xs.length):(xs.take (j+1)).map f=(xs.take j).map f++ [f xs[j]]:=by
 rw [Ep,Ac h,Kl];rfl
theorem zD {α:Type} {P:α->Bool} : ∀(l:List α) (i:Nat),l.any P=true-> ∃k,∃h:k<l.length,Hx P l (i:Int)=((i+k:Nat):Int)/\P l[k]=true/\ ∀j (h:j<k),P (l[j]'(by omega))=false
 | [],i,h=>by simp at h
 |y::r,i,h=>by
  simp only [Hx]
  by_cases hy:P y=true
  ·rw [Ab hy]
   exact ⟨0,by simp,rfl,hy,λj hj=>absurd hj (Dq _)⟩
  ·rw [Ag hy]
   have hr:r.any P=true:=by
    rw [List.any_cons,Kj] at h
    exact h.resolve_left hy
   obtain ⟨k,hk,h1,h2,h3⟩:=zD r (i+1) hr
   refine ⟨k+1,by simpa using hk,?_,h2,λj hj=>?_⟩
   ·rw [show ((i:Int)+1)=((i+1:Nat):Int) by push_cast;rfl,h1]
    congr 1
    omega
   ·cases j with
    |zero=>exact Ir _|>.mp hy
    |succ j=>exact h3 j (by omega)
theorem jV {s q t:List Int} (h:Mt s.length t):Eh (Al s q) t=Al (Eh s t) q:=by
 unfold Eh Al
 rw [List.map_map]
 refine Ev λy hy=>?_
 obtain ⟨h1,h2⟩:=h y hy
 have hy':y.toNat<s.length:=by omega
 show Kb (s.map (Kb q)) y=Kb q (Kb s y)
 unfold Kb
 rw [aa (by rw [Dl];exact hy'),Tp,aa hy']
 try rfl
theorem ZJ {n:Nat} {t:List Int} (h: ∀y∈t,0<=y/\y<(n:Int)):Eh (upto n) t=t:=by
 unfold Eh
 refine (Ev λy hy=>?_).trans (List.map_id t)
 obtain ⟨h1,h2⟩:=h y hy
 obtain ⟨k,rfl⟩:=Rj h1
 have hk:k<n:=by omega
 show Kb (upto n) (k:Int)=(k:Int)
 unfold Kb
 rw [Ai,Aj,kJ hk]
 rfl
noncomputable def nq (p:PP) (t:List Int):List (List Int):=(Kf p.2.2.1 t).1
noncomputable def Adv (p:PP) (t:List Int):List Int:=(Kf p.2.2.1 t).2.1
theorem MV {p:PP} {t:List Int} (ht:Gf p t=true): ∀y∈t,0<=y/\y<((p.1.toNat:Nat):Int):= λy hy=>by
 have h1:=(Jo ht).2 y hy
 have:=(valid (Sv.1 ht).1).n
 omega
theorem ZI {p:PP} {t:List Int} (ht:Gf p t=true):(nq p t).getD 0 []=t/\t∈nq p t:=by
 obtain ⟨_,A,h⟩:=OS (Sv.1 ht).1 (Jo ht).1 (Jo ht).2
 have h:nq p t=t::A:=h
 rw [h]
 exact ⟨rfl,by simp⟩
def known (row:Row):List (List Int):=row.filterMap id
mutual
def lD (n:Nat):Nat->Nat->List Int->Cp×Cp->Cp×Cp
 |0,_,_,s=>s
 |f+1,k,p,s=>if Ig s.2 (n-k) k p=true then s else
   ((known (s.2.getD k [])).map λu=>Al u p).foldl (λs q=>ic n f k q s) (s.1.set k (s.1.getD k []++ [some p]),s.2)
def ic (n:Nat):Nat->Nat->List Int->Cp×Cp->Cp×Cp
 |0,_,_,s=>s
 |f+1,k,p,s=>match (s.2.getD k []).getD (ap p k) none with
  |some t=>lD n f (k+1) (Al p (Bl t)) s
  |none=>((s.1.getD k []).map λo=>Al p (o.getD [])).foldl (λs q=>ic n f k q s) (s.1,s.2.set k ((s.2.getD k []).set (ap p k) (some p)))
end
structure Part (n k:Nat) (s:Cp×Cp):Prop where
 l1:s.1.length=n
 l2:s.2.length=n
 pg:PG n k (s.1.getD k [])
 row:Vt n k (s.1.getD k []) (s.2.getD k [])
 comp:lC n (n-(k+1)) (k+1) s
 gb:GBf (n-(k+1)) (k+1) s
 sub: ∀g,some g∈s.1.getD (k+1) []->Gn n (s.1.getD k []) g
def Hd (n k:Nat) (s:Cp×Cp) (q:List Int):Prop:= ∃t,(s.2.getD k []).getD (ap q k) none=some t/\Ig s.2 (n-(k+1)) (k+1) (Al q (Bl t))=true
structure dh (n k:Nat) (s s':Cp×Cp):Prop where
 grow:Wr k s s'
 same:s'.1.getD k []=s.1.getD k []
 part:Part n k s'
 Fg: ∀q,Pm n q->Fx k q->Hd n k s q->Hd n k s' q
 new: ∀y t,(s'.2.getD k []).getD y none=some t->(s.2.getD k []).getD y none=some t\/ ∀g,some g∈s.1.getD k []->Hd n k s' (Al t g)
theorem dh.refl {n k:Nat} {s:Cp×Cp} (h:Part n k s):dh n k s s:=⟨Wr.refl _ _,rfl,h,λ_ _ _ h=>h,λ_ _ h=> .inl h⟩
theorem Part.tg {n k:Nat} {s:Cp×Cp} (h:Part n k s) (hk:k<n) {y:Nat} {t g:List Int} (ht:(s.2.getD k []).getD y none=some t) (hg:some g∈s.1.getD k []):Pm n (Al t g)/\Fx k (Al t g)/\ap (Al t g) k=ap g y:=by
 obtain ⟨t1,t2,t3,t4⟩:=h.row.rt _ _ ht
 obtain ⟨g',e,g1,g2⟩:=h.pg _ hg
 cases e
 exact ⟨t1.comp g1,Fx.comp t1 g1 t2 g2 (by omega),by rw [Mb t1 g1 hk,t3]⟩
theorem dh.trans {n k:Nat} {a b c:Cp×Cp} (hk:k<n) (h:dh n k a b) (h':dh n k b c):dh n k a c:=by
 refine ⟨h.grow.trans h'.grow (Ao _),h'.same.trans h.same,h'.part,λq h1 h2 h3=>h'.Fg q h1 h2 (h.Fg q h1 h2 h3),λy t e=>?_⟩
 rcases h'.new y t e with e1|e1
 ·rcases h.new y t e1 with e2|e2
  ·exact .inl e2
  ·refine .inr λg hg=>?_
   obtain ⟨p1,p2,_⟩:=h.part.tg hk e1 (by rw [h.same];exact hg)
   exact h'.Fg _ p1 p2 (e2 g hg)
 ·exact .inr λg hg=>e1 g (by rw [h.same];exact hg)
theorem Part.pms {n k:Nat} {s:Cp×Cp} (h1:1<=n) (h2:n<=20) (h:Part n k s):GM n λg=>some g∈s.1.getD k []:=⟨⟨h1,h2⟩,λg hg=>by obtain ⟨g',e,h,_⟩:=h.pg _ hg;cases e;exact h⟩
theorem Part.v {n k:Nat} {s:Cp×Cp} (h:Part n k s):V n (n-(k+1)) (k+1) s:=⟨h.l1,h.l2,h.comp,h.gb⟩
theorem zl (row:Row):xJ row+Mg row=row.length:=by
 induction row with
 |nil=>rfl
 |cons o r ih=>
  unfold xJ Mg at*
  cases o<;>simp [List.countP_cons]<;>omega
theorem RE {a b:Row} (hl:b.length=a.length) (h: ∀y t,a.getD y none=some t->b.getD y none=some t):Mg b<=Mg a:=by
 have h1:=(qg a b hl.symm h).1
 have h2:=zl a
 have h3:=zl b
 omega
def VW (n k:Nat):Nat:=(n-k)*(n+2)+(n+1)
def nP (n k:Nat) (s:Cp×Cp):Nat:=(n-k)*(n+2)+Mg (s.2.getD k [])
theorem dh.mu {n k:Nat} {s s':Cp×Cp} (h:dh n k s s'):nP n k s'<=nP n k s:=by
 have:=RE (h.grow.Aep k) (h.grow.xp k)
 unfold nP;omega
theorem kW {n k f:Nat} (hk:k<n) {gs:List PO}
  (IH: ∀q s,Part n k s->s.1.getD k []=gs->Pm n q->Fx k q->Gn n gs q->nP n k s<=f->(dh n k s (ic n f k q s)/\Hd n k (ic n f k q s) q)/\ ∀f',f<=f'->ic n f' k q s=ic n f k q s):
  ∀(qs:List (List Int)) (s:Cp×Cp),Part n k s->s.1.getD k []=gs->(∀q∈qs,Pm n q/\Fx k q/\Gn n gs q)->nP n k s<=f->
   dh n k s (qs.foldl (λs q=>ic n f k q s) s)/\(∀q∈qs,Hd n k (qs.foldl (λs q=>ic n f k q s) s) q)/\ ∀f',f<=f'->qs.foldl (λs q=>ic n f' k q s) s=qs.foldl (λs q=>ic n f k q s) s
 | [],s,hp,_,_,_=>⟨dh.refl hp,λq hq=>(by cases hq),λ_ _=>rfl⟩
 |q::qs,s,hp,hg,hq,hm=>by
  obtain ⟨q1,q2,q3⟩:=hq q (by simp)
  obtain ⟨⟨a1,a2⟩,a3⟩:=IH q s hp hg q1 q2 q3 hm
  obtain ⟨b1,b2,b3⟩:=kW hk IH qs (ic n f k q s) a1.part (a1.same.trans hg) (λq' h=>hq q' (Ar _ h)) (Jd a1.mu hm)
  simp only [Hr]
  refine ⟨a1.trans hk b1,λq' lI=>?_,λf' hf=>?_⟩
  ·rcases Be.1 lI with rfl|lI
   ·exact b1.Fg _ q1 q2 a2
   ·exact b2 q' lI
  ·rw [a3 f' hf];exact b3 f' hf
theorem IG {n k:Nat} (h1:1<=n) (h2:n<=20) (hk:k<n) {s s':Cp×Cp} (hs:lC n (n-(k+1)) (k+1) s) (IW:lC n (n-(k+1)) (k+1) s') (hg:Wr k s s') {x:List Int} (hx:Pm n x) (hf:Fx (k+1) x)
  (h:Ig s.2 (n-(k+1)) (k+1) x=true):Ig s'.2 (n-(k+1)) (k+1) x=true:=
 (Uy h1 h2 _ (k+1) s' (by omega) IW x hx hf).2 (((Uy h1 h2 _ (k+1) s (by omega) hs x hx hf).1 h).mono λg zy=>hg.zq _ _ zy)
theorem lh {row:Row} {u:List Int} :u∈known row↔ ∃y,row.getD y none=some u:=by
 unfold known
 rw [List.mem_filterMap]
 constructor
 ·rintro ⟨o,ho,e⟩
  obtain ⟨y,hy,rfl⟩:=Cl.1 ho
  exact ⟨y,by rw [Aj,Ac hy];exact e⟩
 ·rintro ⟨y,hy⟩
  have hl:=oz hy
  rw [Aj,Ac hl] at hy
  exact ⟨row[y],Ak hl,hy⟩
theorem UL {n:Nat} (h1:1<=n) (h2:n<=20): ∀f:Nat,
  (∀k p s,k<=n->V n (n-k) k s->Pm n p->Fx k p->VW n k<=f->Abb n (n-k) k s p (lD n f k p s)/\ ∀f',f<=f'->lD n f' k p s=lD n f k p s)/\
  (∀k q s,k<n->Part n k s->Pm n q->Fx k q->Gn n (s.1.getD k []) q->nP n k s<=f->(dh n k s (ic n f k q s)/\Hd n k (ic n f k q s) q)/\ ∀f',f<=f'->ic n f' k q s=ic n f k q s)
 |0=>⟨λk p s _ _ _ _ h=>by unfold VW at h;omega,λk q s hk _ _ _ _ h=>by
   unfold nP at h
   have:1*(n+2)<=(n-k)*(n+2):=Ey _ (by omega)
   omega⟩
 |f+1=>by
  obtain ⟨ihG,ihP⟩:=UL h1 h2 f
  refine ⟨λk p s hk hv hp hf hmu=>?_,λk q s hk dd hq hf OD hmu=>?_⟩
  ·
   have IZ: ∀f',f+1<=f'-> ∃NZ,f'=NZ+1/\f<=NZ:= λf' h=>⟨f'-1,by omega,by omega⟩
   by_cases hh:Ig s.2 (n-k) k p=true
   ·have e: ∀f',lD n (f'+1) k p s=s:= λf'=>by simp only [lD];rw [Ab hh]
    rw [e f]
    refine ⟨⟨hv,Wr.refl _ _,(Uy h1 h2 _ k s (by omega) hv.2.2.1 p hp hf).1 hh,λo ho=> .inl ho⟩,λf' OC=>?_⟩
    obtain ⟨NZ,rfl,_⟩:=IZ f' OC
    exact e NZ
   have hkn:k<n:=by
    refine Nat.lt_of_le_of_ne hk λe=>hh ?_
    subst e
    rw [Nat.sub_self];rfl
   obtain ⟨v1,v2,hc,zw⟩:=hv
   have m5:=hc
   have Bb2:=zw
   obtain ⟨m,hm⟩: ∃m,n-k=m+1:=⟨n-k-1,by omega⟩
   have IQ:n-(k+1)=m:=by omega
   rw [hm] at hc zw
   obtain ⟨c1,c2,c3⟩:=hc
   generalize oC:s.1.getD k []++ [some p]=gs
   have aC:some p∈gs:=by rw [<-oC];simp
   have Qh: ∀o∈s.1.getD k [],o∈gs:= λo ho=>by rw [<-oC];exact Bd _ ho
   have hg:PG n k gs:= λo ho=>by
    rw [<-oC] at ho
    rcases Az.1 ho with ho|ho
    ·exact c2.pg o ho
    ·rw [Ad] at ho;exact ⟨p,ho,hp,hf⟩
   have hS:GM n λg=>some g∈gs:=⟨⟨h1,h2⟩,λg Tr=>by obtain ⟨g',e,h,_⟩:=hg _ Tr;cases e;exact h⟩
   have wG: ∀i,(s.1.set k gs).getD i []=if i=k then gs else s.1.getD i []:= λi=>by
    rw [Lh]
    by_cases e:k=i
    ·subst e;rw [Ab ⟨rfl,by omega⟩,Ab rfl]
    ·rw [Ag (λhh=>e hh.1),Ag (Gl e)]
   have zB: ∀i,k+1<=i->(s.1.set k gs).getD i []=s.1.getD i []/\s.2.getD i []=s.2.getD i []:= λi hi=>⟨by rw [wG i,Ag (by omega)],rfl⟩
   have IT:Part n k (s.1.set k gs,s.2):=by
    refine ⟨by simpa using v1,v2,?_,?_,?_,?_,λg Tr=>?_⟩
    ·show PG n k ((s.1.set k gs).getD k []);rw [wG k,Ab rfl];exact hg
    ·show Vt n k ((s.1.set k gs).getD k []) _
     rw [wG k,Ab rfl]
     exact ⟨c2.rl,c2.r0,λy t e=>⟨(c2.rt y t e).1,(c2.rt y t e).2.1,(c2.rt y t e).2.2.1,(c2.rt y t e).2.2.2.mono λg hg=>Qh _ hg⟩⟩
    ·rw [IQ];exact Vk m (k+1) zB c1
    ·rw [IQ];exact cB m (k+1) zB zw.1
    ·have Tr:some g∈(s.1.set k gs).getD (k+1) []:=Tr
     rw [(zB (k+1) (Ao _)).1] at Tr
     show Gn n ((s.1.set k gs).getD k []) g
     rw [wG k,Ab rfl]
     exact (c3 g Tr).mono λg hg=>Qh _ hg
   have l5:((s.1.set k gs,s.2):Cp×Cp).1.getD k []=gs:=by show (s.1.set k gs).getD k []=gs;rw [wG k,Ab rfl]
   have nd:Wr k s (s.1.set k gs,s.2):=by
    refine ⟨by simp,rfl,λi hi=>⟨?_,rfl⟩,λi o ho=>?_,λi y t e=>e,λi=>rfl⟩
    ·show (s.1.set k gs).getD i []=_;rw [wG i,Ag (by omega)]
    ·show o∈(s.1.set k gs).getD i []
     rw [wG i]
     split
     ·rename_i hi;subst hi;exact Qh o ho
     ·exact ho
   have hmP:nP n k (s.1.set k gs,s.2)<=f:=by
    have hn:=jT (s.2.getD k [])
    have hr:=c2.rl
    unfold nP
    unfold VW at hmu
    show (n-k)*(n+2)+Mg (s.2.getD k [])<=f
    omega
   have XX: ∀q∈(known (s.2.getD k [])).map (λu=>Al u p),Pm n q/\Fx k q/\Gn n gs q:= λq hq=>by
    obtain ⟨u,hu,rfl⟩:=Bi.1 hq
    obtain ⟨y,hy⟩:=lh.1 hu
    obtain ⟨t1,t2,t3,t4⟩:=c2.rt _ _ hy
    exact ⟨t1.comp hp,Fx.comp t1 hp t2 hf hk, .mul (t4.mono λg hg=>Qh _ hg) aC⟩
   obtain ⟨r1,r2,r3⟩:=kW hkn (gs:=gs) (λq s oG Tr a b c d=>ihP k q s hkn oG a b (by rw [Tr];exact c) d) ((known (s.2.getD k [])).map λu=>Al u p) (s.1.set k gs,s.2) IT l5 XX hmP
   have e: ∀f',lD n (f'+1) k p s=((known (s.2.getD k [])).map λu=>Al u p).foldl (λs q=>ic n f' k q s) (s.1.set k gs,s.2):= λf'=>by simp only [lD];rw [Ag hh,oC]
   refine ⟨?_,λf' OC=>by obtain ⟨NZ,rfl,Acg⟩:=IZ f' OC;rw [e NZ,e f];exact r3 NZ Acg⟩
   rw [e f]
   generalize ((known (s.2.getD k [])).map λu=>Al u p).foldl (λs q=>ic n f k q s) (s.1.set k gs,s.2)=s' at r1 r2
   have oG:=r1.part
   have PV:s'.1.getD k []=gs:=r1.same.trans l5
   have hHd: ∀y t g,(s'.2.getD k []).getD y none=some t->some g∈gs->Hd n k s' (Al t g):= λy t g ht zy=>by
    rcases r1.new y t ht with e1|e1
    ·have e1:(s.2.getD k []).getD y none=some t:=e1
     by_cases Uj:g=p
     ·subst Uj
      exact r2 _ (Bi.2 ⟨t,lh.2 ⟨y,e1⟩,rfl⟩)
     ·have hg0:some g∈s.1.getD k []:=by
       rw [<-oC] at zy
       rcases Az.1 zy with h|h
       ·exact h
       ·rw [Ad] at h;cases h;exact absurd rfl Uj
      obtain ⟨x1,x2,x3⟩:=IT.tg hkn e1 (by rw [l5];exact zy)
      refine r1.Fg _ x1 x2 ?_
      obtain ⟨t',xD⟩:=Ui.1 (c2.cl y t g e1 hg0)
      refine ⟨t',by show (s.2.getD k []).getD _ none=_;rw [x3];exact xD,?_⟩
      show Ig s.2 (n-(k+1)) (k+1) _=true
      rw [IQ]
      exact c2.sg y t g t' e1 hg0 xD
    ·exact e1 g (by rw [l5];exact zy)
   have Am6:Lvl n k gs (s'.2.getD k []) (λq=>Ig s'.2 m (k+1) q=true):=by
    have hr:=oG.row
    rw [PV] at hr
    refine ⟨hg,hr.rl,hr.r0,hr.rt,λy t g ht zy=>?_,λy t g t' ht zy xD=>?_⟩
    ·obtain ⟨t',xD,_⟩:=hHd y t g ht zy
     obtain ⟨_,_,x3⟩:=oG.tg hkn ht (by rw [PV];exact zy)
     rw [<-x3,xD];simp
    ·obtain ⟨t'',Ar5,hx⟩:=hHd y t g ht zy
     obtain ⟨_,_,x3⟩:=oG.tg hkn ht (by rw [PV];exact zy)
     rw [x3,xD] at Ar5
     cases Ar5
     rw [<-IQ];exact hx
   have IJ:lC n (m+1) k s':=⟨by rw [<-IQ];exact oG.comp,by rw [PV];exact Am6,λg zy=>oG.sub g zy⟩
   have jD:Gn n (s'.1.getD k []) p:=by rw [PV];exact db.one hS aC
   have vB:=nd.trans r1.grow (Ao _)
   rw [hm]
   refine ⟨⟨oG.l1,oG.l2,IJ,by rw [<-IQ];exact oG.gb,?_⟩,vB,jD,λo ho=>?_⟩
   ·have hold:=zw.2
    obtain ⟨p1,p2⟩:=wq vB.Aep vB.xp (m+1) k
    have Ih:jW s.2 (m+1) k≠jW s'.2 (m+1) k:= λe=>by
     have:=dy (m+1) k p (p2 e)
     rw [(Uy h1 h2 (m+1) k s' (by omega) IJ p hp hf).2 jD] at this
     rw [hm] at hh
     exact hh this.symm
    rw [PV,<-oC,Ax,Bt]
    omega
   ·rw [PV,<-oC] at ho
    rcases Az.1 ho with ho|ho
    ·exact .inl ho
    ·rw [Ad] at ho;exact .inr ho
  ·
   have IZ: ∀f',f+1<=f'-> ∃NZ,f'=NZ+1/\f<=NZ:= λf' h=>⟨f'-1,by omega,by omega⟩
   have hS:=dd.pms h1 h2
   have hmul:(n-k)*(n+2)=(n-(k+1))*(n+2)+(n+2):=by
    rw [show n-k=n-(k+1)+1 by omega,Df,Sz]
   cases La:(s.2.getD k []).getD (ap q k) none with
   |some t=>
    have e: ∀f',ic n (f'+1) k q s=lD n f' (k+1) (Al q (Bl t)) s:= λf'=>by simp only [ic];rw [La]
    obtain ⟨t1,t2,t3,t4⟩:=dd.row.rt _ _ La
    have hx:=hq.comp t1.inv
    have hfx:=Fx.div hq t1 hf t2 hk t3
    have hxg:Gn n (s.1.getD k []) (Al q (Bl t)):=db.comp hS OD (db.tW hS t4)
    obtain ⟨a1,a2⟩:=ihG (k+1) _ s (by omega) dd.v hx hfx (by unfold VW;unfold nP at hmu;omega)
    refine ⟨?_,λf' OC=>by obtain ⟨NZ,rfl,Acg⟩:=IZ f' OC;rw [e NZ,e f];exact a2 NZ Acg⟩
    rw [e f]
    generalize lD n f (k+1) (Al q (Bl t)) s=s' at a1
    obtain ⟨av,ag,ai,ags⟩:=a1
    obtain ⟨w1,w2,w3,w4⟩:=av
    obtain ⟨lo1,lo2⟩:=ag.low k (by omega)
    have Awg:Part n k s':=⟨w1,w2,by rw [lo1];exact dd.pg,by rw [lo1,lo2];exact dd.row,w3,w4,λg zy=>by
     rw [lo1]
     rcases ags _ zy with h|h
     ·exact dd.sub g h
     ·cases h;exact hxg⟩
    refine ⟨⟨ag.Iv (by omega),lo1,Awg,λq' q1 q2 ⟨t',e1,e2⟩=>?_,λy t e=> .inl (by rw [lo2] at e;exact e)⟩,t,by rw [lo2];exact La,?_⟩
    ·obtain ⟨u1,u2,u3,_⟩:=dd.row.rt _ _ e1
     exact ⟨t',by rw [lo2];exact e1,IG h1 h2 hk dd.comp w3 (ag.Iv (by omega)) (q1.comp u1.inv) (Fx.div q1 u1 q2 u2 hk u3) e2⟩
    ·exact (Uy h1 h2 _ (k+1) s' (by omega) w3 _ hx hfx).2 ai
   |none=>
    have e: ∀f',ic n (f'+1) k q s=((s.1.getD k []).map λo=>Al q (o.getD [])).foldl (λs q=>ic n f' k q s) (s.1,s.2.set k ((s.2.getD k []).set (ap q k) (some q))):= λf'=>by simp only [ic];rw [La]
    have hy:ap q k<n:=hq.lt hk
    have hrl:=dd.row.rl
    have hyk:ap q k≠k:= λh=>by rw [h,dd.row.r0] at La;cases La
    have xB:=dd.l2
    generalize rZ:(s.2.getD k []).set (ap q k) (some q)=Xz
    have eE: ∀y,Xz.getD y none=if ap q k=y then some q else (s.2.getD k []).getD y none:= λy=>by
     rw [<-rZ,Lh]
     by_cases h:ap q k=y
     ·rw [Ab ⟨h,by omega⟩,Ab h]
     ·rw [Ag λhh=>h hh.1,Ag h]
    have s12: ∀i,(s.2.set k Xz).getD i []=if i=k then Xz else s.2.getD i []:= λi=>by
     rw [Lh]
     by_cases e:k=i
     ·subst e;rw [Ab ⟨rfl,by omega⟩,Ab rfl]
     ·rw [Ag (λhh=>e hh.1),Ag (Gl e)]
    have zB: ∀i,k+1<=i->s.1.getD i []=s.1.getD i []/\(s.2.set k Xz).getD i []=s.2.getD i []:= λi hi=>⟨rfl,by rw [s12 i,Ag (by omega)]⟩
    have hk2:((s.1,s.2.set k Xz):Cp×Cp).2.getD k []=Xz:=by show (s.2.set k Xz).getD k []=Xz;rw [s12 k,Ab rfl]
    have IT:Part n k (s.1,s.2.set k Xz):=by
     refine ⟨dd.l1,by simpa using xB,dd.pg,?_,Vk _ (k+1) zB dd.comp,cB _ (k+1) zB dd.gb,dd.sub⟩
     rw [hk2]
     refine ⟨by rw [<-rZ,Bj];exact hrl,by rw [eE k,Ag hyk];exact dd.row.r0,λy t e=>?_⟩
     rw [eE y] at e
     split at e
     ·rename_i h
      cases e
      exact ⟨hq,hf,h,OD⟩
     ·exact dd.row.rt y t e
    have nd:Wr k s (s.1,s.2.set k Xz):=by
     refine ⟨rfl,by simp,λi hi=>⟨rfl,?_⟩,λi o ho=>ho,λi y t et=>?_,λi=>?_⟩
     ·show (s.2.set k Xz).getD i []=_;rw [s12 i,Ag (by omega)]
     ·show ((s.2.set k Xz).getD i []).getD y none=some t
      rw [s12 i]
      split
      ·rename_i hi
       subst hi
       rw [eE y]
       split
       ·rename_i h;rw [<-h,La] at et;cases et
       ·exact et
      ·exact et
     ·show ((s.2.set k Xz).getD i []).length=_
      rw [s12 i]
      split
      ·rename_i hi;subst hi;rw [<-rZ,Bj]
      ·rfl
    have hnn:Mg Xz+1=Mg (s.2.getD k []):=by rw [<-rZ];exact qH La (by omega)
    have hmP:nP n k (s.1,s.2.set k Xz)<=f:=by
     unfold nP
     rw [hk2]
     unfold nP at hmu
     omega
    have XX: ∀x∈(s.1.getD k []).map (λo=>Al q (o.getD [])),Pm n x/\Fx k x/\Gn n (s.1.getD k []) x:= λx hx=>by
     obtain ⟨o,ho,rfl⟩:=Bi.1 hx
     obtain ⟨g,rfl,g1,g2⟩:=dd.pg o ho
     exact ⟨hq.comp g1,Fx.comp hq g1 hf g2 (by omega), .mul OD ho⟩
    obtain ⟨r1,r2,r3⟩:=kW hk (gs:=s.1.getD k []) (λq s oG Tr a b c d=>ihP k q s hk oG a b (by rw [Tr];exact c) d) ((s.1.getD k []).map λo=>Al q (o.getD [])) (s.1,s.2.set k Xz) IT rfl XX hmP
    have e': ∀f',ic n (f'+1) k q s=((s.1.getD k []).map λo=>Al q (o.getD [])).foldl (λs q=>ic n f' k q s) (s.1,s.2.set k Xz):= λf'=>by rw [e f',rZ]
    refine ⟨?_,λf' OC=>by obtain ⟨NZ,rfl,Acg⟩:=IZ f' OC;rw [e' NZ,e' f];exact r3 NZ Acg⟩
    rw [e' f]
    generalize ((s.1.getD k []).map λo=>Al q (o.getD [])).foldl (λs q=>ic n f k q s) (s.1,s.2.set k Xz)=s' at r1 r2
    have IY:s'.1.getD k []=s.1.getD k []:=r1.same
    have Am0: ∀x,Pm n x->Fx k x->Hd n k s x->Hd n k (s.1,s.2.set k Xz) x:= λx x1 x2 ⟨t',e1,e2⟩=>by
     obtain ⟨u1,u2,u3,_⟩:=dd.row.rt _ _ e1
     exact ⟨t',nd.xp k _ _ e1,IG h1 h2 hk dd.comp IT.comp nd (x1.comp u1.inv) (Fx.div x1 u1 x2 u2 hk u3) e2⟩
    have hqq:(s'.2.getD k []).getD (ap q k) none=some q:=r1.grow.xp k _ _ (by rw [hk2,eE,Ab rfl])
    refine ⟨⟨nd.trans r1.grow (Ao _),IY,r1.part,λx x1 x2 x3=>r1.Fg x x1 x2 (Am0 x x1 x2 x3),λy t ht=>?_⟩,q,hqq,?_⟩
    ·rcases r1.new y t ht with e1|e1
     ·rw [hk2,eE y] at e1
      split at e1
      ·cases e1
       refine .inr λg hg=>r2 _ (Bi.2 ⟨some g,hg,rfl⟩)
      ·exact .inl e1
     ·exact .inr e1
    ·rw [o3 hq]
     exact (Uy h1 h2 _ (k+1) s' (by omega) r1.part.comp _ (Pm.id h1 h2) (λi hi=>lR (by omega))).2 .id
theorem UJ {n f k:Nat} {p:List Int} {s:Cp×Cp} :lD n (f+1) k p s=if Ig s.2 (n-k) k p=true then s else
  ((known (s.2.getD k [])).map λu=>Al u p).foldl (λs q=>ic n f k q s) (s.1.set k (s.1.getD k []++ [some p]),s.2):=by simp only [lD]
theorem UK {n f k:Nat} {p:List Int} {s:Cp×Cp} :ic n (f+1) k p s=match (s.2.getD k []).getD (ap p k) none with
  |some t=>lD n f (k+1) (Al p (Bl t)) s
  |none=>((s.1.getD k []).map λo=>Al p (o.getD [])).foldl (λs q=>ic n f k q s) (s.1,s.2.set k ((s.2.getD k []).set (ap p k) (some p))):=by simp only [ic]<;>rfl
theorem Akn {n k:Nat} (h2:n<=20):(n-k)*(n+2)<=440:=Jd (eD (show n-k<=20 by omega) (show n+2<=22 by omega)) (by omega)
theorem Adz {n k f:Nat} (h2:n<=20) (hf:500<=f):VW n k<=f:=by have:=Akn (k:=k) h2;unfold VW;omega
theorem An2 {n k f:Nat} {s:Cp×Cp} (h2:n<=20) (hp:Part n k s) (hf:500<=f):nP n k s<=f:=by
 have:=Akn (k:=k) h2
 have h:=jT (s.2.getD k [])
 have hr:=hp.row.rl
 unfold nP;omega
theorem Al0 {n k:Nat} (h1:1<=n) (h2:n<=20) {p:List Int} {s:Cp×Cp} (hk:k<=n) (hv:V n (n-k) k s) (hp:Pm n p) (hf:Fx k p):Abb n (n-k) k s p (lD n 1000 k p s):=
 ((UL h1 h2 1000).1 k p s hk hv hp hf (Adz h2 (by omega))).1
def ju (n k:Nat) (qs:List (List Int)) (s:Cp×Cp):Cp×Cp:=qs.foldl (λs q=>ic n 1000 k q s) s
theorem uZ {n k:Nat} (h1:1<=n) (h2:n<=20) (hk:k<n) {qs:List (List Int)} {s:Cp×Cp} (hp:Part n k s) (hq: ∀q∈qs,Pm n q/\Fx k q/\Gn n (s.1.getD k []) q):
  dh n k s (ju n k qs s)/\qs.foldl (λs q=>ic n 999 k q s) s=ju n k qs s:=by
 have h:=kW hk (f:=999) (gs:=s.1.getD k []) (λq s' oG Tr a b c d=>(UL h1 h2 999).2 k q s' hk oG a b (by rw [Tr];exact c) d) qs s hp rfl hq (An2 h2 hp (by omega))
 have e:=h.2.2 1000 (by omega)
 refine ⟨?_,e.symm⟩
 unfold ju
 rw [e];exact h.1
theorem vd {n k:Nat} {qs:List (List Int)} {s:Cp×Cp} {j:Nat} (hj:j<qs.length):ju n k (qs.take (j+1)) s=ic n 1000 k qs[j] (ju n k (qs.take j) s):=by
 unfold ju
 rw [Ep,Ac hj,Mf,Nk]
 rfl
theorem GO {n k:Nat} (h1:1<=n) (h2:n<=20) {p:List Int} {s:Cp×Cp} (hkn:k<n) (hv:V n (n-k) k s) (hp:Pm n p) (hf:Fx k p):
  Part n k (s.1.set k (s.1.getD k []++ [some p]),s.2)/\ ∀q∈(known (s.2.getD k [])).map (λu=>Al u p),Pm n q/\Fx k q/\Gn n ((s.1.set k (s.1.getD k []++ [some p])).getD k []) q:=by
 obtain ⟨v1,v2,hc,zw⟩:=hv
 obtain ⟨m,hm⟩: ∃m,n-k=m+1:=⟨n-k-1,by omega⟩
 have IQ:n-(k+1)=m:=by omega
 rw [hm] at hc zw
 obtain ⟨c1,c2,c3⟩:=hc
 generalize oC:s.1.getD k []++ [some p]=gs
 have aC:some p∈gs:=by rw [<-oC];simp
 have Qh: ∀o∈s.1.getD k [],o∈gs:= λo ho=>by rw [<-oC];exact Bd _ ho
 have hg:PG n k gs:= λo ho=>by
  rw [<-oC] at ho
  rcases Az.1 ho with ho|ho
  ·exact c2.pg o ho
  ·rw [Ad] at ho;exact ⟨p,ho,hp,hf⟩
 have wG: ∀i,(s.1.set k gs).getD i []=if i=k then gs else s.1.getD i []:= λi=>by
  rw [Lh]
  by_cases e:k=i
  ·subst e;rw [Ab ⟨rfl,by omega⟩,Ab rfl]
  ·rw [Ag (λhh=>e hh.1),Ag (Gl e)]
 have zB: ∀i,k+1<=i->(s.1.set k gs).getD i []=s.1.getD i []/\s.2.getD i []=s.2.getD i []:= λi hi=>⟨by rw [wG i,Ag (by omega)],rfl⟩
 refine ⟨⟨by simpa using v1,v2,?_,?_,?_,?_,λg Tr=>?_⟩,λq hq=>?_⟩
 ·show PG n k ((s.1.set k gs).getD k []);rw [wG k,Ab rfl];exact hg
 ·show Vt n k ((s.1.set k gs).getD k []) _
  rw [wG k,Ab rfl]
  exact ⟨c2.rl,c2.r0,λy t e=>⟨(c2.rt y t e).1,(c2.rt y t e).2.1,(c2.rt y t e).2.2.1,(c2.rt y t e).2.2.2.mono λg hg=>Qh _ hg⟩⟩
 ·rw [IQ];exact Vk m (k+1) zB c1
 ·rw [IQ];exact cB m (k+1) zB zw.1
 ·have Tr:some g∈(s.1.set k gs).getD (k+1) []:=Tr
  rw [(zB (k+1) (Ao _)).1] at Tr
  show Gn n ((s.1.set k gs).getD k []) g
  rw [wG k,Ab rfl]
  exact (c3 g Tr).mono λg hg=>Qh _ hg
 ·rw [wG k,Ab rfl]
  obtain ⟨u,hu,rfl⟩:=Bi.1 hq
  obtain ⟨y,hy⟩:=lh.1 hu
  obtain ⟨t1,t2,t3,t4⟩:=c2.rt _ _ hy
  exact ⟨t1.comp hp,Fx.comp t1 hp t2 hf (by omega), .mul (t4.mono λg hg=>Qh _ hg) aC⟩
theorem Abm {n k:Nat} (h1:1<=n) (h2:n<=20) {p:List Int} {s:Cp×Cp} (hkn:k<n) (hv:V n (n-k) k s) (hp:Pm n p) (hf:Fx k p) (hh: ¬Ig s.2 (n-k) k p=true):
  lD n 1000 k p s=ju n k ((known (s.2.getD k [])).map λu=>Al u p) (s.1.set k (s.1.getD k []++ [some p]),s.2):=by
 obtain ⟨a1,a2⟩:=GO h1 h2 hkn hv hp hf
 rw [<-(uZ h1 h2 hkn a1 a2).2]
 exact (UJ (f:=999)).trans (Ag hh)
theorem UI {n k:Nat} {p:List Int} {s:Cp×Cp} (hh:Ig s.2 (n-k) k p=true):lD n 1000 k p s=s:=by
 exact (UJ (f:=999)).trans (Ab hh)
theorem Abo {n k:Nat} (h1:1<=n) (h2:n<=20) {q t:List Int} {s:Cp×Cp} (hk:k<n) (dd:Part n k s) (hq:Pm n q) (hf:Fx k q) (La:(s.2.getD k []).getD (ap q k) none=some t):
  ic n 1000 k q s=lD n 1000 (k+1) (Al q (Bl t)) s:=by
 obtain ⟨t1,t2,t3,t4⟩:=dd.row.rt _ _ La
 rw [((UL h1 h2 999).1 (k+1) _ s (by omega) dd.v (hq.comp t1.inv) (Fx.div hq t1 hf t2 hk t3) (Adz h2 (by omega))).2 1000 (by omega)]
 refine (UK (f:=999)).trans ?_
 rw [La]
theorem GP {n k:Nat} {q:List Int} {s:Cp×Cp} (hk:k<n) (dd:Part n k s) (hq:Pm n q) (hf:Fx k q) (OD:Gn n (s.1.getD k []) q) (La:(s.2.getD k []).getD (ap q k) none=none):
  Part n k (s.1,s.2.set k ((s.2.getD k []).set (ap q k) (some q)))/\ ∀x∈(s.1.getD k []).map (λo=>Al q (o.getD [])),Pm n x/\Fx k x/\Gn n (s.1.getD k []) x:=by
 have hrl:=dd.row.rl
 have hy:ap q k<n:=hq.lt hk
 have hyk:ap q k≠k:= λh=>by rw [h,dd.row.r0] at La;cases La
 have xB:=dd.l2
 generalize rZ:(s.2.getD k []).set (ap q k) (some q)=Xz
 have eE: ∀y,Xz.getD y none=if ap q k=y then some q else (s.2.getD k []).getD y none:= λy=>by
  rw [<-rZ,Lh]
  by_cases h:ap q k=y
  ·rw [Ab ⟨h,by omega⟩,Ab h]
  ·rw [Ag λhh=>h hh.1,Ag h]
 have s12: ∀i,(s.2.set k Xz).getD i []=if i=k then Xz else s.2.getD i []:= λi=>by
  rw [Lh]
  by_cases e:k=i
  ·subst e;rw [Ab ⟨rfl,by omega⟩,Ab rfl]
  ·rw [Ag (λhh=>e hh.1),Ag (Gl e)]
 have zB: ∀i,k+1<=i->s.1.getD i []=s.1.getD i []/\(s.2.set k Xz).getD i []=s.2.getD i []:= λi hi=>⟨rfl,by rw [s12 i,Ag (by omega)]⟩
 have hk2:((s.1,s.2.set k Xz):Cp×Cp).2.getD k []=Xz:=by show (s.2.set k Xz).getD k []=Xz;rw [s12 k,Ab rfl]
 refine ⟨⟨dd.l1,by simpa using xB,dd.pg,?_,Vk _ (k+1) zB dd.comp,cB _ (k+1) zB dd.gb,dd.sub⟩,λx hx=>?_⟩
 ·rw [hk2]
  refine ⟨by rw [<-rZ,Bj];exact hrl,by rw [eE k,Ag hyk];exact dd.row.r0,λy t e=>?_⟩
  rw [eE y] at e
  split at e
  ·rename_i h
   cases e
   exact ⟨hq,hf,h,OD⟩
  ·exact dd.row.rt y t e
 ·obtain ⟨o,ho,rfl⟩:=Bi.1 hx
  obtain ⟨g,rfl,g1,g2⟩:=dd.pg o ho
  exact ⟨hq.comp g1,Fx.comp hq g1 hf g2 (by omega), .mul OD ho⟩
theorem Abn {n k:Nat} (h1:1<=n) (h2:n<=20) {q:List Int} {s:Cp×Cp} (hk:k<n) (dd:Part n k s) (hq:Pm n q) (hf:Fx k q) (OD:Gn n (s.1.getD k []) q) (La:(s.2.getD k []).getD (ap q k) none=none):
  ic n 1000 k q s=ju n k ((s.1.getD k []).map λo=>Al q (o.getD [])) (s.1,s.2.set k ((s.2.getD k []).set (ap q k) (some q))):=by
 obtain ⟨a1,a2⟩:=GP hk dd hq hf OD La
 rw [<-(uZ h1 h2 hk a1 a2).2]
 refine (UK (f:=999)).trans ?_
 rw [La]
def Qd (n:Nat) (gens:List PO):Cp×Cp:=gens.foldl (λs o=>lD n 1000 0 (o.getD []) s) (Ud n,Zv n)
theorem BI {n:Nat} {gens:List PO} {j:Nat} (hj:j<gens.length):Qd n (gens.take (j+1))=lD n 1000 0 (gens[j].getD []) (Qd n (gens.take j)):=by
 unfold Qd
 rw [Ep,Ac hj,Mf,Nk]
 rfl
theorem mN {n:Nat} (h1:1<=n) (h2:n<=20): ∀(gens:List PO) (s:Cp×Cp),PmL n gens->V n n 0 s->V n n 0 (gens.foldl (λs o=>lD n 1000 0 (o.getD []) s) s)/\
  Wr 0 s (gens.foldl (λs o=>lD n 1000 0 (o.getD []) s) s)/\(∀g,some g∈gens->Gn n ((gens.foldl (λs o=>lD n 1000 0 (o.getD []) s) s).1.getD 0 []) g)/\ ∀o∈(gens.foldl (λs o=>lD n 1000 0 (o.getD []) s) s).1.getD 0 [],o∈s.1.getD 0 []\/o∈gens
 | [],s,_,hv=>⟨hv,Wr.refl _ _,(λ_ hg=>by cases hg),λ_ ho=> .inl ho⟩
 |o::gens,s,hg,hv=>by
  obtain ⟨g,rfl,Uj⟩:=hg o (by simp)
  have ha:=Al0 h1 h2 (k:=0) (Ip _) (by rw [Nat.sub_zero];exact hv) Uj (λi hi=>absurd hi (Dq _))
  have VB:=ha.v
  rw [Nat.sub_zero] at VB
  obtain ⟨a1,a2,a3,a4⟩:=mN h1 h2 gens (lD n 1000 0 g s) (λo ho=>hg o (by simp [ho])) VB
  refine ⟨a1,ha.grow.trans a2 (Ao _),λg' Tr=>?_,λo ho=>?_⟩
  ·rcases Be.1 Tr with e|Tr
   ·cases e;exact ha.Amw.mono λg hg=>a2.zq _ _ hg
   ·exact a3 g' Tr
  ·rcases a4 o ho with h|h
   ·rcases ha.gens o h with h|h
    ·exact .inl h
    ·exact .inr (by simp [h])
   ·exact .inr (by simp [h])
theorem zd {n:Nat} (h1:1<=n) (h2:n<=20) {gens:List PO} (hg:PmL n gens):V n n 0 (Qd n gens):=(mN h1 h2 gens _ hg (ud h1 h2)).1
theorem IF {n:Nat} (h1:1<=n) (h2:n<=20) {gens:List PO} (hg:PmL n gens) {p:List Int} (hp:Pm n p):Ig (Qd n gens).2 n 0 p=true↔Gn n gens p:=by
 obtain ⟨a1,a2,a3,a4⟩:=mN h1 h2 gens _ hg (ud h1 h2)
 have hS:GM n λg=>some g∈gens:=⟨⟨h1,h2⟩,λg Tr=>by obtain ⟨g',e,h⟩:=hg _ Tr;cases e;exact h⟩
 have Qh: ∀g,some g∈(Qd n gens).1.getD 0 []->some g∈gens:= λg Tr=>by
  rcases a4 _ Tr with h|h
  ·have h:some g∈(Ud n).getD 0 []:=h
   rw [Zu] at h;cases h
  ·exact h
 have hS':GM n λg=>some g∈(Qd n gens).1.getD 0 []:=⟨⟨h1,h2⟩,λg Tr=>hS.2 g (Qh g Tr)⟩
 refine (Uy h1 h2 n 0 (Qd n gens) (by omega) a1.2.2.1 p hp λi hi=>absurd hi (Dq _)).trans ⟨λh=>h.mono Qh,λh=>h.trans hS' λg Tr=>a3 g Tr⟩
def On (T:Cp):Nat->Nat->List Int->List Int×Int×Unit
 |0,l,p=>(p,(l:Int),())
 |k+1,l,p=>match (T.getD l []).getD (Kb p (l:Int)).toNat none with
  |none=>(p,(l:Int),())
  |some t=>On T k (l+1) (Al p (Bl t))
theorem wM {T:Cp} : ∀(k l:Nat) (p:List Int),(On T k l p).2.1=((l+k:Nat):Int)↔Ig T k l p=true
 |0,l,p=>by simp [On,Ig]
 |k+1,l,p=>by
  unfold On Ig
  cases (T.getD l []).getD (Kb p (l:Int)).toNat none with
  |none=>
   constructor
   ·intro h
    have h:(l:Int)=((l+(k+1):Nat):Int):=h
    omega
   ·intro h;cases h
  |some t=>
   have h:=wM (T:=T) k (l+1) (Al p (Bl t))
   rw [show l+1+k=l+(k+1) by omega] at h
   exact h
theorem QT {row:Row} {y:Nat} (h:y<row.length):known (row.take (y+1))=known (row.take y)++(row[y]).toList:=by
 unfold known
 rw [Bb h,List.filterMap_append]
 cases row[y]<;>rfl
theorem zJ (row:Row):(known row).length<=row.length:=List.length_filterMap_le _ _
theorem zp {n k:Nat} (h1:1<=n) (h2:n<=20) (hk:k<n) {qs:List (List Int)} {s:Cp×Cp} (hp:Part n k s) (hq: ∀q∈qs,Pm n q/\Fx k q/\Gn n (s.1.getD k []) q) (j:Nat):dh n k s (ju n k (qs.take j) s):=
 (uZ h1 h2 hk hp λq h=>hq q (El h)).1
theorem RC {n k:Nat} {s:Cp×Cp} (hp:Part n k s):nP n k s<VW n k:=by
 have h:=jT (s.2.getD k [])
 have hr:=hp.row.rl
 unfold nP VW
 omega
theorem Ae0 {n k:Nat} {s:Cp×Cp} (hk:k<n):VW n (k+1)<nP n k s:=by
 obtain ⟨m,hm⟩: ∃m,n-k=m+1:=⟨n-k-1,by omega⟩
 have IQ:n-(k+1)=m:=by omega
 unfold VW nP
 rw [hm,IQ,Nat.succ_mul]
 omega
theorem Ahu {n k y:Nat} {s:Cp×Cp} {q:List Int} (hk:k<s.2.length) (hy:y<(s.2.getD k []).length) (h:(s.2.getD k []).getD y none=none):
  nP n k (s.1,s.2.set k ((s.2.getD k []).set y (some q)))+1=nP n k s:=by
 have h1:=qH (t:=q) h hy
 have h2:(s.2.set k ((s.2.getD k []).set y (some q))).getD k []=(s.2.getD k []).set y (some q):=by
  rw [Lh,Ab ⟨rfl,hk⟩]
 unfold nP
 show _+Mg ((s.2.set k ((s.2.getD k []).set y (some q))).getD k [])+1=_
 rw [h2]
 omega
def qf (n:Int) (g:List (List Int)):Cp×Cp:=Qd n.toNat (g.map some)
def BA (p:PP) (gs:List (List Int)):Prop:=gs.length<=5/\ ∀g∈gs,Gf p g=true
theorem BA.take {p:PP} {gs:List (List Int)} (h:BA p gs) (j:Nat):BA p (gs.take j):=⟨by rw [Cq];have:=h.1;omega,λg hg=>h.2 g (El hg)⟩
abbrev BB:Type:=List TT×List (ByteArray->Option Int)×Unit
def Aae:List (List Int)->List Int->(ByteArray->Option Int)->ByteArray->Option Int
 |x::xs,d::ds,m=>Aae xs ds (kH m (Yg x) d)
 |_,_,m=>m
def Xf (t:TT):ByteArray->Option Int:=Aae t.2.1 t.2.2.1 λ_=>none
def Cu (ts:List TT):BB:=(ts,ts.map Xf,())
structure WR (t:TT):Prop where
 uX:t.2.1.length<=3000
 len:t.2.2.1.length=t.2.1.length
 nodup:t.2.1.Nodup
 byte: ∀x∈t.2.1,ig x
 Auk: ∀d∈t.2.2.1,0<=d/\d<=3000
 tl:t.1.length<=20
 pl: ∀x∈t.2.1,x.length<=20
def aR (ts:List TT):Prop:=ts.length<=4/\ ∀t∈ts,WR t
def gm (t:TT) (s:List Int):Int:=t.2.2.1.getD (t.2.1.idxOf (Eh s t.1)) 0
def Vn (ts:List TT) (s:List Int):List Int:=ts.map λt=>gm t s
def Kw (ts:List TT) (s:List Int):Int:=(Vn ts s).foldl max 0
def dW (ts:List TT) (s:List Int):Prop:=s.length<=20/\ ∀t∈ts,Mt s.length t.1/\Eh s t.1∈t.2.1
noncomputable abbrev Wh:Spec:=Fb (.pair ue .unit) (.optr Tl) false false (λx=>aR x.1) (λx=>some (Cu x.1))
def Abd (b:Option BB) (s:List Int):Prop:= ∃ts,aR ts/\b=some (Cu ts)/\dW ts s
def Adu (b:Option BB) (s:List Int):List Int:=match b with|some b=>Vn b.1 s|none=> []
def Xd (b:Option BB) (s:List Int):Int:=match b with|some b=>Kw b.1 s|none=>0
noncomputable abbrev AD:Spec:=Fb (.pair (.optr Tl) (.pair tL .unit)) tL false true (λx=>Abd x.1 x.2.1) (λx=>Adu x.1 x.2.1)
noncomputable abbrev bL:Spec:=Fb (.pair (.optr Tl) (.pair tL .unit)) tI false true (λx=>Abd x.1 x.2.1) (λx=>Xd x.1 x.2.1)
noncomputable abbrev fu:Spec:=Fb (.pair ue (.pair tL .unit)) tL false true (λx=>aR x.1/\dW x.1 x.2.1) (λx=>Vn x.1 x.2.1)
noncomputable abbrev bK:Spec:=Fb (.pair ue (.pair tL .unit)) tI false true (λx=>aR x.1/\dW x.1 x.2.1) (λx=>Kw x.1 x.2.1)
abbrev pJ:Type:=Int×List Int×List (List Int)×List Int×List (List Int×List (List Int)×List Int×PUnit)×(ByteArray->Option Int)×List (ByteArray->Option Int)×PUnit
abbrev pL:Type:=Int×List (List Int×List (List Int)×List Int×PUnit)×List (ByteArray->Option Int)×PUnit
theorem NL (ts:List (List Int×List (List Int)×List Int×Unit)) (P:Option (List (List Int×List (List Int)×List Int×Unit)×List (ByteArray->Option Int)×Unit)->Prop):(0=0/\0=([]:List Int).length/\Db (λ(v2:pL) (k3:pL->Prop)=>Br (decide (v2.1<(↑ts.length:Int))) (∃(y4:List Int×List (List Int)×List Int×PUnit),idx ts v2.1=some y4/\0=0/\v2.2.2.1.length=v2.2.2.1.length/\Db (λ(v5:pJ) (k6:pJ->Prop)=>Br (decide (v5.1<(↑y4.2.1.length:Int))) (∃(y7:List Int),idx y4.2.1 v5.1=some y7/\ ∃(y8:ByteArray),Kt.fn (y7,())=some y8/\ ∃(y9:Int),idx v5.2.2.2.1 v5.1=some y9/\0=0/\v5.2.2.2.2.2.2.1.length=v5.2.2.2.2.2.2.1.length/\k6 (IntKind.i64.wrap (v5.1+(1:Int)),v5.2.1,v5.2.2.1,v5.2.2.2.1,v5.2.2.2.2.1,kH v5.2.2.2.2.2.1 y8 y9,v5.2.2.2.2.2.2.1,())) (0=0/\v5.2.2.2.2.2.2.1.length=v5.2.2.2.2.2.2.1.length/\v5.2.2.2.2.2.2.1.length+(List.take 1 (List.drop 0 [v5.2.2.2.2.2.1])).length<=Cr/\0=0/\(v5.2.2.2.2.2.2.1++List.take 1 (List.drop 0 [v5.2.2.2.2.2.1])).length=(v5.2.2.2.2.2.2.1++List.take 1 (List.drop 0 [v5.2.2.2.2.2.1])).length/\k3 (IntKind.i64.wrap (v2.1+(1:Int)),v5.2.2.2.2.1,v5.2.2.2.2.2.2.1++List.take 1 (List.drop 0 [v5.2.2.2.2.2.1]),()))) ((0:Int),y4.1,y4.2.1,y4.2.2.1,v2.2.1,λ(_:ByteArray)=>none,v2.2.2.1,PUnit.unit)) (P (some (v2.2.1,List.take v2.2.2.1.length (List.drop 0 v2.2.2.1),())))) ((0:Int),ts,[],PUnit.unit))=fnW (ry [Sx+101101]) (look [(53,Kt)]) Wh Tryz.f38 (ts,()) P:=by kernel_rfl
abbrev Af1:Type:=List (List Int×List (List Int)×List Int×PUnit)×List (ByteArray->Option Int)×PUnit
theorem Asj (b:Option (List (List Int×List (List Int)×List Int×Unit)×List (ByteArray->Option Int)×Unit)) (s:List Int) (P:List Int->Prop):(∃(y3:Af1),b=some y3/\0=0/\0=([]:List Int).length/\Db (λ(v4:Int×List Int×PUnit) (k5:Int×List Int×PUnit->Prop)=>Br (decide (v4.1<(↑y3.1.length:Int))) (∃(y6:List Int×List (List Int)×List Int×PUnit),idx y3.1 v4.1=some y6/\ ∃(y7:Af1),b=some y7/\ ∃(y8:ByteArray->Option Int),idx y7.2.1 v4.1=some y8/\ ∃(y9:List Int),c8.fn (s,y6.1,())=some y9/\ ∃(Il:ByteArray),Kt.fn (y9,())=some Il/\0=0/\v4.2.1.length=v4.2.1.length/\v4.2.1.length+(List.take 1 (List.drop 0 [(y8 Il).getD (Int.ofNat (nat_lit 0))])).length<=Cr/\0=0/\(v4.2.1++List.take 1 (List.drop 0 [(y8 Il).getD (Int.ofNat (nat_lit 0))])).length=(v4.2.1++List.take 1 (List.drop 0 [(y8 Il).getD (Int.ofNat (nat_lit 0))])).length/\k5 (IntKind.i64.wrap (v4.1+(1:Int)),v4.2.1++List.take 1 (List.drop 0 [(y8 Il).getD (Int.ofNat (nat_lit 0))]),())) (P (List.take v4.2.1.length (List.drop 0 v4.2.1)))) ((0:Int),[],PUnit.unit))=fnW En (look [(53,Kt),(77,c8)]) AD Tryz.f54 (b,s,()) P:=by kernel_rfl
theorem Aiy (b:Option (List (List Int×List (List Int)×List Int×Unit)×List (ByteArray->Option Int)×Unit)) (s:List Int) (P:Int->Prop):(∃(y3:List Int),AD.fn (b,s,())=some y3/\Db (λ(v4:Int×Int×PUnit) (k5:Int×Int×PUnit->Prop)=>Br (decide (v4.2.1<(↑y3.length:Int))) (∃(y6:Int),idx y3 v4.2.1=some y6/\k5 (if true=true then if y6>v4.1 then y6 else v4.1 else if y6<v4.1 then y6 else v4.1,IntKind.i64.wrap (v4.2.1+(1:Int)),())) (P v4.1)) ((0:Int),(0:Int),PUnit.unit))=fnW En (look [(54,AD)]) bL Tryz.f40 (b,s,()) P:=by kernel_rfl
abbrev ru:Type:=List Int×List (List Int)×List Int×PUnit
theorem Afu (ts:List (List Int×List (List Int)×List Int×Unit)) (s:List Int) (P:List Int->Prop):(0=0/\0=([]:List Int).length/\Db (λ(v3:Int×List Int×PUnit) (k4:Int×List Int×PUnit->Prop)=>Br (decide (v3.1<(↑ts.length:Int))) (∃(y5:ru),idx ts v3.1=some y5/\ ∃(y6:ru),idx ts v3.1=some y6/\ ∃(y7:ru),idx ts v3.1=some y7/\ ∃(y8:List Int),c9.fn (y7.1,s,())=some y8/\ ∃(y9:Int),Vs.fn (y6,y8,())=some y9/\ ∃(Il:Int),idx y5.2.2.1 y9=some Il/\0=0/\v3.2.1.length=v3.2.1.length/\v3.2.1.length+(List.take 1 (List.drop 0 [Il])).length<=Cr/\0=0/\(v3.2.1++List.take 1 (List.drop 0 [Il])).length=(v3.2.1++List.take 1 (List.drop 0 [Il])).length/\k4 (IntKind.i64.wrap (v3.1+(1:Int)),v3.2.1++List.take 1 (List.drop 0 [Il]),())) (P (List.take v3.2.1.length (List.drop 0 v3.2.1)))) ((0:Int),[],PUnit.unit))=fnW En (look [(61,c9),(60,Vs)]) fu Tryz.f44 (ts,s,()) P:=by kernel_rfl
theorem Aix (ts:List (List Int×List (List Int)×List Int×Unit)) (s:List Int) (P:Int->Prop):(∃(y3:List Int),fu.fn (ts,s,())=some y3/\Db (λ(v4:Int×Int×PUnit) (k5:Int×Int×PUnit->Prop)=>Br (decide (v4.2.1<(↑y3.length:Int))) (∃(y6:Int),idx y3 v4.2.1=some y6/\k5 (if true=true then if y6>v4.1 then y6 else v4.1 else if y6<v4.1 then y6 else v4.1,IntKind.i64.wrap (v4.2.1+(1:Int)),())) (P v4.1)) ((0:Int),(0:Int),PUnit.unit))=fnW En (look [(44,fu)]) bK Tryz.f33 (ts,s,()) P:=by kernel_rfl
theorem WR.short {t:TT} (h:WR t):Om t:=by
 have h1:=h.uX;have h2:=h.len;have h3:=h.tl
 exact ⟨by unfold _root_.Go.Proofs.YtfgfigkbgecfnaaGreat.short;omega,⟨by omega,λr hr=>by have:=h.pl r hr;unfold _root_.Go.Proofs.YtfgfigkbgecfnaaGreat.short;omega⟩,by unfold _root_.Go.Proofs.YtfgfigkbgecfnaaGreat.short;omega⟩
theorem AU {p:PP} {t:TT} (h:Gq p t=true):WR t/\Gf p t.1=true/\(Kf p.2.2.1 t.1).2.2=true/\t.2.1=nq p t.1/\t.2.2.1=Adv p t.1:=by
 obtain ⟨h1,h2⟩:=Dz.1 h
 obtain ⟨h3,h4⟩:=fi.1 h1
 have h5:=qC.1 h2
 unfold Hw at h5
 rw [Ab h1] at h5
 have e1:t.2.1=nq p t.1:=(Lr (λz:TT=>z.2.1) h5).symm
 have e2:t.2.2.1=Adv p t.1:=(Lr (λz:TT=>z.2.2.1) h5).symm
 have hv:=(Sv.1 h3).1
 have hn:=(valid hv).n
 have jE:=DY h3
 have lF:=jE.ok.uX
 have hlen:=jE.len
 have OE:=jE.ok.short
 refine ⟨⟨by rw [e1];exact lF,by rw [e1,e2];exact hlen,by rw [e1];exact jE.ok.nodup,λx hx=>?_,λd hd=>?_,(Jo h3).1,λx hx=>?_⟩,h3,h4,e1,e2⟩
 ·rw [e1] at hx
  intro y hy
  have:=jE.row x hx y hy
  omega
 ·rw [e2] at hd
  obtain ⟨j,hj,rfl⟩:=Cl.1 hd
  have h6:=jE.dep j hj
  have sY:j<(Kf p.2.2.1 t.1).2.1.length:=hj
  exact ⟨h6.1,by have:=h6.2;show (Kf p.2.2.1 t.1).2.1[j]<=3000;omega⟩
 ·rw [e1] at hx
  have:=jE.ok.len x hx
  omega
theorem kF {p:PP} {ts:List TT} (h:Ge p ts=true):Ds p=true/\aR ts/\ ∀t∈ts,Gq p t=true:=by
 unfold Ge at h
 rw [Af,Af,Bc,Je] at h
 exact ⟨h.1.1,⟨h.1.2,λt ht=>(AU (h.2 t ht)).1⟩,h.2⟩
theorem MT: ∀(xs:List (List Int)) (ds:List Int) (m:ByteArray->Option Int) (x:List Int),xs.length=ds.length->xs.Nodup->(∀y∈xs,ig y)->ig x->Aae xs ds m (Yg x)=if x∈xs then some (ds.getD (xs.idxOf x) 0) else m (Yg x)
 | [],ds,m,x,_,_,_,_=>by cases ds<;>simp [Aae]
 |y::xs,[],m,x,hl,_,_,_=>by simp at hl
 |y::xs,d::ds,m,x,hl,hn,hb,hx=>by
  obtain ⟨hy,hn⟩:=Cd.1 hn
  simp only [Aae]
  rw [MT xs ds _ x (by simpa using hl) hn (λz hz=>hb z (Ar _ hz)) hx]
  by_cases hm:x∈xs
  ·have Ih:y≠x:= λe=>hy (e▸hm)
   have hi:(y::xs).idxOf x=xs.idxOf x+1:=by rw [List.idxOf_cons,show (y==x)=false by simpa using Ih];rfl
   rw [Ab hm,Ab (Ar _ hm),hi]
   rfl
  ·rw [Ag hm]
   unfold kH
   by_cases e:Yg x=Yg y
   ·have:=key_inj hx (hb y (by simp)) e
    subst this
    rw [Ab e,Ab (by simp),List.idxOf_cons_self]
    rfl
   ·have Ih:x≠y:= λh=>e (by rw [h])
    rw [Ag e,Ag (by simp [Ih,hm])]
theorem Afh {t:TT} (h:WR t) {x:List Int} (hx:x∈t.2.1):Xf t (Yg x)=some (t.2.2.1.getD (t.2.1.idxOf x) 0):=by
 unfold Xf
 rw [MT _ _ _ _ h.len.symm h.nodup h.byte (h.byte x hx),Ab hx]
theorem KY (ts:List TT) (h:aR ts):fnW (ry [Sx+101101]) (look [(53,Kt)]) Wh Tryz.f38 (ts,()) (λ(z:Option BB)=>z=some (Cu ts)):=by
 obtain ⟨h4,hd⟩:=h
 refine Eq.mp (NL ts _) ⟨rfl,rfl,?_⟩
 refine Bf ts.length (λv=>v.1) (λi v=>v=((i:Int),ts,(ts.take i).map Xf,())) rfl rfl ?_
 rintro i v K hi hii rfl hK
 dsimp only
 refine Br.dec (λhl=>?_) λhl=>?_
 ·have hl:i<ts.length:=by omega
  have XO:=hd _ (Ak hl)
  have lF:=XO.uX
  have hlen:=XO.len
  have Amm:=XO.short
  refine ⟨_,Bu hl,rfl,rfl,?_⟩
  refine Bf (ts[i]).2.1.length (λv=>v.1) (λj v=> ∃m,v=((j:Int),(ts[i]).1,(ts[i]).2.1,(ts[i]).2.2.1,ts,m,(ts.take i).map Xf,())/\Aae ((ts[i]).2.1.drop j) ((ts[i]).2.2.1.drop j) m=Xf ts[i]) rfl ⟨_,rfl,by rw [Dp,Dp];rfl⟩ ?_
  rintro j v K1 hj hjj ⟨m,rfl,hm⟩ hK1
  dsimp only
  refine Br.dec (λl6=>?_) λl6=>?_
  ·have l6:j<(ts[i]).2.1.length:=by omega
   have xB:j<(ts[i]).2.2.1.length:=by omega
   rw [Co l6,Co xB] at hm
   refine ⟨_,Bu l6,_,Ab (Amm.2.1.2 _ (Ak l6)),_,Bu xB,rfl,rfl,?_⟩
   rw [Bg (by omega)]
   exact hK1 l6 _ rfl ⟨_,rfl,hm⟩
  ·have:j=(ts[i]).2.1.length:=by omega
   subst this
   rw [Is] at hm
   have hm:m=Xf ts[i]:=by
    rw [<-hm]
    cases List.drop (ts[i]).2.1.length (ts[i]).2.2.1<;>rfl
   subst hm
   refine ⟨rfl,rfl,by show ((ts.take i).map Xf).length+1<=4294967296;rw [Dl,Cq];omega,rfl,rfl,?_⟩
   rw [Bg (by omega)]
   have hmm:(ts.take (i+1)).map Xf=(ts.take i).map Xf++ [Xf ts[i]]:=by
    rw [Ep,Ac hl,Mf,Kl]
    rfl
   refine hK hl _ rfl ?_
   rw [hmm]
   rfl
 ·have:i=ts.length:=by omega
  subst this
  rw [Bz,Ap]
  rfl
theorem tA:Sound Tryz.prog 38 Wh:=
 Sound.Fb (rz [Sx+101101]) (Av cS Bh) mixed Tryz.func38 (by kernel_rfl) (by kernel_rfl) λx h=>KY x.1 h
theorem nY (ts:List TT) (s:List Int):(Vn ts s).length=ts.length:=by unfold Vn;rw [Dl]
theorem OU {t:TT} (h:WR t) {s:List Int} (hs:Eh s t.1∈t.2.1):0<=gm t s/\gm t s<=3000:=by
 have hi:=List.idxOf_lt_length_of_mem hs
 have hl:=h.len
 unfold gm
 rw [aa (by omega)]
 exact h.Auk _ (Ak _)
theorem WZ {ts:List TT} (h:aR ts) {s:List Int} (hs:dW ts s): ∀d∈Vn ts s,0<=d/\d<=3000:= λd hd=>by
 obtain ⟨t,ht,rfl⟩:=Bi.1 hd
 exact OU (h.2 t ht) (hs.2 t ht).2
theorem zg {ts:List TT} {s:List Int} {i:Nat} (hl:i<ts.length):(Vn (ts.take (i+1)) s)=Vn (ts.take i) s++ [gm ts[i] s]:=by
 unfold Vn
 rw [Ep,Ac hl,Mf,Kl]
 rfl
theorem Aru (b:Option BB) (s:List Int) (h:Abd b s):fnW En (look [(53,Kt),(77,c8)]) AD Tryz.f54 (b,s,()) (λ(z:List Int)=>z=Adu b s):=by
 obtain ⟨ts,⟨h4,hd⟩,rfl,hs⟩:=h
 refine Eq.mp (Asj _ s _) ⟨Cu ts,rfl,rfl,rfl,?_⟩
 show Db _ _
 refine Bf ts.length (λv=>v.1) (λi v=>v=((i:Int),Vn (ts.take i) s,())) rfl rfl ?_
 rintro i v K hi hii rfl hK
 dsimp only
 refine Br.dec (λhl=>?_) λhl=>?_
 ·have hl:i<ts.length:=by have hl:(i:Int)<(ts.length:Int):=hl;omega
  have XO:=hd _ (Ak hl)
  obtain ⟨eY,lJ⟩:=hs.2 _ (Ak hl)
  have htl:=XO.tl
  have l7:=XO.pl _ lJ
  refine ⟨ts[i],Bu hl,Cu ts,rfl,Xf ts[i],?_,_,Ab ⟨by show (ts[i]).1.length<=4294967296;omega,eY⟩,_,Ab (by show (Eh s (ts[i]).1).length<=4294967296;omega),rfl,rfl,?_,rfl,rfl,?_⟩
  ·show idx (ts.map Xf) (i:Int)=_
   rw [Bu (by rw [Dl];exact hl),Tp]
  ·show (Vn (ts.take i) s).length+1<=4294967296
   rw [nY,Cq];omega
  ·rw [Bg (by omega)]
   refine hK hl _ rfl ?_
   rw [zg hl,show Xf ts[i] (Yg (Eh s (ts[i]).1))=some (gm ts[i] s) from Afh XO lJ]
   rfl
 ·have:i=ts.length:=by have hl: ¬(i:Int)<(ts.length:Int):=hl;omega
  subst this
  rw [Bz,Ap]
  rfl
theorem ZX:Sound Tryz.prog 54 AD:=
 Sound.Fb De (Av cS (Av yH Bh)) mixed Tryz.func54 (by kernel_rfl) (by kernel_rfl) λx h=>Aru x.1 x.2.1 h
theorem Ae1 (a b:Int):(if true=true then if b>a then b else a else if b<a then b else a)=max a b:=by
 rw [Ab rfl]
 by_cases h:b>a
 ·rw [Ab h,Int.max_eq_right (by omega)]
 ·rw [Ag h,Int.max_eq_left (by omega)]
theorem Ac3 {xs:List Int} {m:Int} (h: ∀x∈xs,0<=x/\x<=m) (hm:0<=m):0<=xs.foldl max 0/\xs.foldl max 0<=m:=by
 rcases m4 xs 0 with h1|h1
 ·rw [h1];exact ⟨Oe _,hm⟩
 ·exact h _ h1
theorem tX {ts:List TT} (h:aR ts) {s:List Int} (hs:dW ts s):0<=Kw ts s/\Kw ts s<=3000:=Ac3 (WZ h hs) (by omega)
theorem Ai6 (b:Option BB) (s:List Int) (h:Abd b s):fnW En (look [(54,AD)]) bL Tryz.f40 (b,s,()) (λ(z:Int)=>z=Xd b s):=by
 obtain ⟨ts,ht,hb,hs⟩:=id h
 have hl4:=ht.1
 have hlen:=nY ts s
 obtain ⟨xs,hxs⟩: ∃xs,Adu b s=xs:=⟨_,rfl⟩
 have hxe:Xd b s=xs.foldl max 0:=by rw [<-hxs,hb];rfl
 have hxl:xs.length=ts.length:=by rw [<-hxs,hb];exact hlen
 refine Eq.mp (Aiy b s _) ⟨xs,(Ab h).trans (Lr some hxs),?_⟩
 rw [hxe]
 refine Bf xs.length (λv=>v.2.1) (λi v=>v=((xs.take i).foldl max 0,(i:Int),())) rfl rfl ?_
 rintro i v K hi hii rfl hK
 dsimp only
 refine Br.dec (λhl=>?_) λhl=>?_
 ·have hl:i<xs.length:=by omega
  refine ⟨_,Bu hl,?_⟩
  rw [Bg (by omega)]
  refine hK hl _ rfl ?_
  rw [Ep,Ac hl,Mf,Nk,Ae1]
  rfl
 ·have:i=xs.length:=by omega
  subst this
  rw [Ap]
theorem sA:Sound Tryz.prog 40 bL:=
 Sound.Fb De (Av ZX Bh) mixed Tryz.func40 (by kernel_rfl) (by kernel_rfl) λx h=>Ai6 x.1 x.2.1 h
theorem QH {L:List (List Int)} {x:List Int} (hn:L.Nodup) (hx:x∈L):Hx (λq=>decide (q=x)) L 0=((L.idxOf x:Nat):Int):=by
 obtain ⟨k,hk,h1,h2,_⟩:=zD (P:= λq=>decide (q=x)) L 0 (Hq.2 ⟨x,hx,Er rfl⟩)
 have h3:L[k]=x:=Gx h2
 have h4:=QF hn hk
 rw [aa hk,h3] at h4
 rw [h4,<-Bo k]
 exact h1
theorem Aeb (ts:List TT) (s:List Int) (h:aR ts/\dW ts s):fnW En (look [(61,c9),(60,Vs)]) fu Tryz.f44 (ts,s,()) (λ(z:List Int)=>z=Vn ts s):=by
 obtain ⟨⟨h4,hd⟩,hs⟩:=h
 refine Eq.mp (Afu ts s _) ⟨rfl,rfl,?_⟩
 refine Bf ts.length (λv=>v.1) (λi v=>v=((i:Int),Vn (ts.take i) s,())) rfl rfl ?_
 rintro i v K hi hii rfl hK
 dsimp only
 refine Br.dec (λhl=>?_) λhl=>?_
 ·have hl:i<ts.length:=by omega
  have XO:=hd _ (Ak hl)
  obtain ⟨eY,lJ⟩:=hs.2 _ (Ak hl)
  have htl:=XO.tl
  have l7:=XO.pl _ lJ
  have hix:=List.idxOf_lt_length_of_mem lJ
  have hle:=XO.len
  have he:Vs.fn (((ts[i]).1,(ts[i]).2.1,(ts[i]).2.2.1,()),Eh s (ts[i]).1,())=some (((ts[i]).2.1.idxOf (Eh s (ts[i]).1):Nat):Int):=
   (Ab ⟨XO.short,by show (Eh s (ts[i]).1).length<=4294967296;omega⟩).trans (Lr some (QH XO.nodup lJ))
  refine ⟨_,Bu hl,_,Bu hl,_,Bu hl,_,Ab ⟨by show (ts[i]).1.length<=4294967296;omega,eY⟩,_,he,_,Bu (by omega),rfl,rfl,?_,rfl,rfl,?_⟩
  ·show (Vn (ts.take i) s).length+1<=4294967296
   rw [nY,Cq];omega
  ·rw [Bg (by omega)]
   refine hK hl _ rfl ?_
   rw [zg hl]
   unfold gm
   rw [aa (by omega)]
   rfl
 ·have:i=ts.length:=by omega
  subst this
  rw [Bz,Ap]
theorem ET:Sound Tryz.prog 44 fu:=
 Sound.Fb De (Av yI (Av x8 Bh)) mixed Tryz.func44 (by kernel_rfl) (by kernel_rfl) λx h=>Aeb x.1 x.2.1 h
theorem Ai5 (ts:List TT) (s:List Int) (h:aR ts/\dW ts s):fnW En (look [(44,fu)]) bK Tryz.f33 (ts,s,()) (λ(z:Int)=>z=Kw ts s):=by
 have hl4:=h.1.1
 have hlen:=nY ts s
 obtain ⟨xs,hxs⟩: ∃xs,Vn ts s=xs:=⟨_,rfl⟩
 have hxe:Kw ts s=xs.foldl max 0:=by rw [<-hxs];rfl
 have hxl:xs.length=ts.length:=by rw [<-hxs];exact hlen
 refine Eq.mp (Aix ts s _) ⟨xs,(Ab h).trans (Lr some hxs),?_⟩
 rw [hxe]
 refine Bf xs.length (λv=>v.2.1) (λi v=>v=((xs.take i).foldl max 0,(i:Int),())) rfl rfl ?_
 rintro i v K hi hii rfl hK
 dsimp only
 refine Br.dec (λhl=>?_) λhl=>?_
 ·have hl:i<xs.length:=by omega
  refine ⟨_,Bu hl,?_⟩
  rw [Bg (by omega)]
  refine hK hl _ rfl ?_
  rw [Ep,Ac hl,Mf,Nk,Ae1]
  rfl
 ·have:i=xs.length:=by omega
  subst this
  rw [Ap]
theorem sy:Sound Tryz.prog 33 bK:=
 Sound.Fb De (Av ET Bh) mixed Tryz.func33 (by kernel_rfl) (by kernel_rfl) λx h=>Ai5 x.1 x.2.1 h
theorem pb {p:PP} {s:List Int} (h:Oa p s=true):Ds p=true/\Pm p.1.toNat s/\Gn p.1.toNat (p.2.2.1.map some) s:=by
 unfold Oa at h
 rw [Af,Af] at h
 obtain ⟨⟨hv,hg⟩,hh⟩:=h
 have hV:=valid hv
 have hn:=hV.n
 have hp:=Alb hV hg
 exact ⟨hv,hp,(nb (by omega) (by omega) (fj (eJ hV).2.2) hp).1 hh⟩
theorem Ac6 {p:PP} {s:List Int} (hv:Ds p=true) (h:Gn p.1.toNat (p.2.2.1.map some) s):Oa p s=true:=by
 have hV:=valid hv
 have hn:=hV.n
 have hp:=db.pm (vn hV) h
 unfold Oa
 rw [hv,Anu hV hp,show Ig (dp p.1 p.2.2.1).2 p.1.toNat 0 s=true from (nb (by omega) (by omega) (fj (eJ hV).2.2) hp).2 h]
 rfl
theorem PR {p:PP} {t s:List Int} (hv:Ds p=true) (hs:Pm p.1.toNat s) (ht:Gf p t=true):Mt s.length t:=by
 have h1:=hs.1
 have hn:=(valid hv).n
 intro y hy
 have:=(Jo ht).2 y hy
 omega
theorem Alc {p:PP} {t:List Int} (hv:Ds p=true) (ht:Gf p t=true) (hw:(Kf p.2.2.1 t).2.2=true) {s:List Int} (hs:Gn p.1.toNat (p.2.2.1.map some) s):Eh s t∈nq p t:=by
 have hV:=valid hv
 have hc:AY p.2.2.1 (Ay p.2.2.1.length) (nq p t):=xZ hV (DY ht) (OR hv (Jo ht).1 (Jo ht).2 hw)
 induction hs with
 |id=>rw [ZJ (MV ht)];exact (ZI ht).2
 |mul h hg ih=>
  have hp:Pm p.1.toNat _:=db.pm (vn hV) h
  obtain ⟨k,hk,rfl⟩:=Cl.1 (pq.1 hg)
  have:=hc.next _ ih _ (Vz hk).1
  rw [Sj hk] at this
  rw [jV (PR hv hp ht)]
  exact this
 |inv h hg ih=>
  have hp:Pm p.1.toNat _:=db.pm (vn hV) h
  obtain ⟨k,hk,rfl⟩:=Cl.1 (pq.1 hg)
  have:=hc.next _ ih _ (Vz hk).2
  rw [Si hk] at this
  rw [jV (PR hv hp ht)]
  exact this
theorem SC {p:PP} {ts:List TT} {s:List Int} (hr:Oa p s=true) (ht:Ge p ts=true):dW ts s:=by
 obtain ⟨hv,hp,hg⟩:=pb hr
 obtain ⟨_,_,Js⟩:=kF ht
 have hn:=(valid hv).n
 refine ⟨by rw [hp.1];omega,λt vI=>?_⟩
 obtain ⟨_,h3,hw,e1,_⟩:=AU (Js t vI)
 exact ⟨PR hv hp h3,by rw [e1];exact Alc hv h3 hw hg⟩
open Go.RowKit Go.Lib
abbrev xTS:CK:= .Hp Ld 53
noncomputable abbrev bN:MSpec:=de [none] [(false, .Em ue)] false [none] [xTS] (λx=>Gu x.1) (λx=>((x.1,()),()))
def Air (t:TT):Nat:=t.1.length+Ef t.2.1+t.2.2.1.length
def Lz:List TT->Nat
 | []=>0
 |t::ts=>Air t+Lz ts
noncomputable abbrev Lw:MSpec:=de [none,none] [(false,xTS),(false, .Em tI)] false [none] [.Em tI] (λx=>Gu x.1/\low x.2.1/\low (x.2.1+Lz x.1)) (λx=>((x.2.1+Lz x.1,()),()))
abbrev MP:Type:=Int×List (List Int×List (List Int)×List Int×PUnit)×PUnit
theorem Aj3 (ts:List (List Int×List (List Int)×List Int×Unit)) (P:((List (List Int×List (List Int)×List Int×Unit)×Unit)×Unit)->Prop):(((0:Int)<=(↑ts.length:Int)/\(↑ts.length:Int)<(↑Cr:Int)+(1:Int))/\(↑ts.length:Int)=(↑ts.length:Int)/\0=0/\(List.replicate (↑ts.length:Int).toNat (([]:List Int),([]:List (List Int)),([]:List Int),())).length=(List.replicate (↑ts.length:Int).toNat (([]:List Int),([]:List (List Int)),([]:List Int),())).length/\Db (λ(v2:MP) (k3:MP->Prop)=>Br (decide (v2.1<(↑ts.length:Int))) (∃(y4:List Int×List (List Int)×List Int×PUnit),idx ts v2.1=some y4/\ ∃(y5:(List Int×List (List Int)×List Int×PUnit)×PUnit),Zp.fn (y4.1,y4.2.1,y4.2.2.1,())=some y5/\((0:Int)<=v2.1/\v2.1<(↑v2.2.1.length:Int))/\0+v2.1.toNat<v2.2.1.length/\0=0/\v2.2.1.length=(v2.2.1.set (0+v2.1.toNat) (List.take y5.1.1.length (List.drop 0 y5.1.1),List.take y5.1.2.1.length (List.drop 0 y5.1.2.1),List.take y5.1.2.2.1.length (List.drop 0 y5.1.2.2.1),())).length/\k3 (IntKind.i64.wrap (v2.1+(1:Int)),v2.2.1.set (0+v2.1.toNat) (List.take y5.1.1.length (List.drop 0 y5.1.1),List.take y5.1.2.1.length (List.drop 0 y5.1.2.1),List.take y5.1.2.2.1.length (List.drop 0 y5.1.2.2.1),()),())) (P ((List.take v2.2.1.length (List.drop 0 v2.2.1),()),()))) ((0:Int),List.replicate (↑ts.length:Int).toNat (([]:List Int),([]:List (List Int)),([]:List Int),()),PUnit.unit))=fnMW (ry [kR+7]) (look [(23,Zp)]) bN Tryz.f8 (ts,()) P:=by kernel_rfl
theorem Aib (ts:List TT) (h:Gu ts):fnMW (ry [kR+7]) (look [(23,Zp)]) bN Tryz.f8 (ts,()) (λ(z:(List TT×Unit)×Unit)=>z=((ts,()),())):=by
 obtain ⟨h,h4⟩:=h
 refine Eq.mp (Aj3 ts _) ?_
 refine ⟨⟨by omega,by show (ts.length:Int)<(4294967296:Int)+1;omega⟩,rfl,rfl,rfl,?_⟩
 refine Bf ts.length (λv=>v.1) (λj v=>v.2.1.length=ts.length/\v.2.1.take j=ts.take j) rfl ⟨by simp,by simp⟩ ?_
 rintro j ⟨i,ys,⟨⟩⟩ K hj hi ⟨h1,h2⟩ hK
 dsimp only at hi h1 h2⊢
 subst hi
 refine Br.dec (λhl=>?_) λhl=>?_
 ·have hl:j<ts.length:=by omega
  refine ⟨_,Bu hl,_,Ab (h4 _ (Ak hl)),⟨by omega,by omega⟩,by rw [Ai];omega,rfl,by rw [Bj],?_⟩
  rw [Bg (by omega),Ai,Bo]
  simp only [Bz]
  exact hK hl _ rfl ⟨by rw [Bj];exact h1,Ky hl h1 h2⟩
 ·have:j=ts.length:=by omega
  subst this
  rw [Ap,<-h1,Ap] at h2
  rw [Bz,h2]
theorem MD:Cb Tryz.prog 8 bN:=
 Cb.de (rz [kR+7]) (Et xa Bh) mixed Tryz.func8 (by kernel_rfl) (by kernel_rfl) λx h=>Aib x.1 h
def KN (r:Option Real):Pi:= λl=>if l=Dt true 0 then r else none
theorem u9 (r:Option Real):KN r (Dt true 0)=r:=Ab rfl
theorem p6 (r:Option Real) {l:Nat} (h:l≠Dt true 0):KN r l=none:=Ag h
theorem bX {r:Option Real} {l:Nat} {q:Real} (h:KN r l=some q):l=Dt true 0/\r=some q:=by
 unfold KN at h
 split at h
 ·exact ⟨by assumption,h⟩
 ·cases h
theorem xd {F:List Nat} {u:Value} {xs:List Int} {w:World} {k:Int} (h:Ci w F tL [u] xs) (hn:F.Nodup) (hs:short xs/\low k):
  Calls Tryz.prog 16 #[u, .int .i64 k] w λe w'=>e= .returned (.int .i64 (k+xs.length))/\He w.heap.size (· ∈F) w w':=by
 obtain ⟨r,r1,r2,r3,r4,r5⟩:=Ci.row h hn
 have Iz:=Ci.lt F _ _ _ h
 have aB: ∀b,Ux (KN r) b->b∈F:=by
  rintro b ⟨l,q,hl,hq⟩
  exact (r4 q (bX hl).2 b).1 hq
 have hc:=ky.calls w (λ_=>False) (KN r) [u, .int .i64 k] (xs,k,()) (k+xs.length,()) (Lk k xs.length,()) 0 [u, .int .i64 k] ⟨rfl,trivial⟩ (λh=>by cases h)
  ⟨⟨(u9 r).symm▸r1,(u9 r).symm▸r2 rfl _⟩,⟨p6 r (by decide),⟨[.int .i64 k],rfl,rfl⟩⟩,trivial⟩
  ⟨λl q b hl hq=>Iz b (aB b ⟨l,q,hl,hq⟩),λl l' q q' b hl Kp _ _=>(bX hl).1.trans (bX Kp).1.symm⟩
  (λb hb=>hb.elim) (λl hl=>p6 r λhh=>by rw [hh] at hl;cases hl) (Ab hs)
 refine hc.mono λe w' ⟨v,Rw,ρ,he,hr,_,hb,_,ho,_⟩=>?_
 cases Rw with
 |nil=>exact ho.elim
 |cons v' Rw=>
 cases Rw with
 |cons _ _=>exact ho.2.elim
 |nil=>
 obtain ⟨⟨_,cs,sW,hv⟩,_⟩:=ho
 simp only [Cells] at sW
 subst sW
 have hv:v'= .int .i64 (k+xs.length):=hv
 subst hv
 obtain ⟨hr,_⟩:=hr
 rcases hr with hr|hr
 ·cases hr
  exact ⟨he,hb.os,hb.tape,hb.output,hb.size,λb jB hF=>hb.block b jB λhh=>by
   rcases hh with hh|hh
   ·exact hF (aB b hh)
   ·cases hh.1⟩
 ·cases hr
theorem MH {F:List Nat} {u:Value} {xs:List (List Int)} {w:World} {k:Int} (h:Ci w F dS [u] xs) (hn:F.Nodup) (hs:Hj xs/\low k/\low (k+Ef xs)):
  Calls Tryz.prog 29 #[u, .int .i64 k] w λe w'=>e= .returned (.int .i64 (k+Ef xs))/\He w.heap.size (· ∈F) w w':=by
 obtain ⟨r,r1,r2,r3,r4,r5⟩:=Ci.row h hn
 have Iz:=Ci.lt F _ _ _ h
 have aB: ∀b,Ux (KN r) b->b∈F:=by
  rintro b ⟨l,q,hl,hq⟩
  exact (r4 q (bX hl).2 b).1 hq
 have hc:=pB.calls w (λ_=>False) (KN r) [u, .int .i64 k] (xs,k,()) (k+Ef xs,()) (Kq k xs,()) 0 [u, .int .i64 k] ⟨rfl,trivial⟩ (λh=>by cases h)
  ⟨⟨(u9 r).symm▸r1,(u9 r).symm▸r3 0⟩,⟨p6 r (by decide),⟨[.int .i64 k],rfl,rfl⟩⟩,trivial⟩
  ⟨λl q b hl hq=>Iz b (aB b ⟨l,q,hl,hq⟩),λl l' q q' b hl Kp _ _=>(bX hl).1.trans (bX Kp).1.symm⟩
  (λb hb=>hb.elim) (λl hl=>p6 r λhh=>by rw [hh] at hl;cases hl) (Ab hs)
 refine hc.mono λe w' ⟨v,Rw,ρ,he,hr,_,hb,_,ho,_⟩=>?_
 cases Rw with
 |nil=>exact ho.elim
 |cons v' Rw=>
 cases Rw with
 |cons _ _=>exact ho.2.elim
 |nil=>
 obtain ⟨⟨_,cs,sW,hv⟩,_⟩:=ho
 simp only [Cells] at sW
 subst sW
 have hv:v'= .int .i64 (k+Ef xs):=hv
 subst hv
 obtain ⟨hr,_⟩:=hr
 rcases hr with hr|hr
 ·cases hr
  exact ⟨he,hb.os,hb.tape,hb.output,hb.size,λb jB hF=>hb.block b jB λhh=>by
   rcases hh with hh|hh
   ·exact hF (aB b hh)
   ·cases hh.1⟩
 ·cases hr
theorem VV:Tryz.prog.follows .mixedOrders=true:=by kernel_rfl
structure Rem (w:World) (g o:Nat) (tid:TypeId) (cur:Array Value) (Fs:List (List Nat)) (ts:List TT) (j:Nat):Prop where
 Qs:w.heap[g]?=some (.cells cur tid (0,0))
 els: ∀(i:Nat) (t:TT) (F:List Nat),j<=i->ts[i]?=some t->Fs[i]?=some F-> ∃es:List Value,es.length=3/\(∀c u,es[c]?=some u->cur[(o+i)*3+c]?=some u)/\Ci w F Ld es t
theorem xq {ts:List TT} {j:Nat} (h:j<ts.length):Lz (ts.take (j+1))=Lz (ts.take j)+Air ts[j]:=by
 induction ts generalizing j with
 |nil=>simp at h
 |cons t ts ih=>cases j with
  |zero=>simp [Lz]
  |succ j=>
   have h:j<ts.length:=by simpa using h
   simp only [List.take_succ_cons,Lz,ih h,bf]
   omega
theorem Afi (ts:List TT) (j:Nat):Lz (ts.take j)<=Lz ts:=by
 induction ts generalizing j with
 |nil=>simp [Lz]
 |cons t ts ih=>cases j with
  |zero=>simp [Lz]
  |succ j=>simp only [List.take_succ_cons,Lz];have:=ih j;omega
theorem Ci.YE {w:World} {F:List Nat} {e:Ty} {cs:List Value} {x:List e.den} (h:Ci w F (.slice e) cs x):cs.length=1:=by
 simp only [Ci] at h
 obtain ⟨a,n,c,rfl,_⟩:=h
 rfl
theorem Rem.parts {w:World} {g o:Nat} {tid:TypeId} {cur:Array Value} {Fs:List (List Nat)} {ts:List TT} {j:Nat} (h:Rem w g o tid cur Fs ts j) (hl:Fs.length=ts.length) (hn:(g::List.flatten Fs).Nodup) (hj:j<ts.length):
  ∃u0 u1 u2 F0 F1 F2,w.cell? ⟨g,o*3+(j*3),none⟩=some u0/\w.cell? ⟨g,o*3+(j*3)+1,none⟩=some u1/\w.cell? ⟨g,o*3+(j*3)+2,none⟩=some u2/\Fs[j]?=some (F0++(F1++F2))/\(F0++(F1++F2)).Nodup/\g∉F0++(F1++F2)/\
   Ci w F0 tL [u0] ts[j].1/\Ci w F1 dS [u1] ts[j].2.1/\Ci w F2 tL [u2] ts[j].2.2.1:=by
 have hF:Fs[j]?=some (Fs[j]'(by omega)):=Ac (by omega)
 obtain ⟨es,e1,e2,e3⟩:=h.els j _ _ (Ao j) (Ac hj) hF
 generalize Fs[j]'(by omega)=F at hF e3
 simp only [Ci] at e3
 obtain ⟨x0,y0,F0,G0,rfl,rfl,t0,x1,y1,F1,G1,rfl,rfl,t1,x2,y2,F2,G2,rfl,rfl,t2,rfl,rfl⟩:=e3
 have b0:=Ci.YE t0
 have b1:=Ci.YE t1
 have b2:=Ci.YE t2
 obtain ⟨u0,rfl⟩:=Dg.1 b0
 obtain ⟨u1,rfl⟩:=Dg.1 b1
 obtain ⟨u2,rfl⟩:=Dg.1 b2
 rw [List.append_nil] at hF
 have hnF:(F0++(F1++F2)).Nodup:=(Cd.1 hn).2.sublist (by
  have:=aZ (List.singleton_sublist.2 (Bv hF))
  simpa using this)
 have cell: ∀c u,([u0]++([u1]++([u2]++ [])))[c]?=some u->w.cell? ⟨g,o*3+(j*3)+c,none⟩=some u:= λc u hc=>by
  rw [cellOf h.Qs,show o*3+j*3+c=(o+j)*3+c by rw [Df]]
  exact e2 c u hc
 exact ⟨u0,u1,u2,F0,F1,F2,cell 0 u0 rfl,cell 1 u1 rfl,cell 2 u2 rfl,hF,hnF,λhh=>(Cd.1 hn).1 (Fq.2 ⟨_,Bv hF,hh⟩),t0,t1,t2⟩
theorem uv {w w1:World} {F:List Nat} {g x:Nat} (hb:He w.heap.size (· ∈F) w w1) (hg:g<w.heap.size) (h:g∉F) {u:Value} (hc:w.cell? ⟨g,x,none⟩=some u):w1.cell? ⟨g,x,none⟩=some u:=by
 have:=hb.block g hg h
 unfold World.cell? at hc⊢
 rw [this]
 exact hc
theorem nS {w w1:World} {F F':List Nat} (hb:He w.heap.size (· ∈F) w w1) (h: ∀b∈F',b∉F) {τ:Ty} {cs:List Value} {x:τ.den} (hc:Ci w F' τ cs x):Ci w1 F' τ cs x:=
 Ci.Fg F' τ cs x hc hb.size λb jB=>hb.block b (Ci.lt F' τ cs x hc b jB) (h b jB)
theorem Rem.adv {w w1:World} {g o:Nat} {tid:TypeId} {cur:Array Value} {Fs:List (List Nat)} {ts:List TT} {i j:Nat} {F G:List Nat} (hR:Rem w g o tid cur Fs ts i) (jC:i<=j) (hb:He w.heap.size (· ∈F) w w1) (hn:(g::List.flatten Fs).Nodup) {m:Nat} (hm:Fs[m]?=some G) (hG: ∀b∈F,b∈G) (hmj:m<j):Rem w1 g o tid cur Fs ts j:=by
 have zy: ∀b∈F,b∈List.flatten Fs:= λb hb=>Fq.2 ⟨G,Bv hm,hG b hb⟩
 refine ⟨(hb.block g (Fw hR.Qs) λh=>(Cd.1 hn).1 (zy _ h)).trans hR.Qs,λk t F' hk ht hF'=>?_⟩
 obtain ⟨es,e1,e2,e3⟩:=hR.els k t F' (by omega) ht hF'
 refine ⟨es,e1,e2,nS hb (λb jB hF=>?_) e3⟩
 have:=e8 Fs m k G F' b (Cd.1 hn).2 hm hF' (hG b hF) jB
 omega
theorem qa {w wr w1:World} {F:List Nat} {Fs:List (List Nat)} (h:He w.heap.size (λb=>b∈List.flatten Fs) w wr) (hb:He wr.heap.size (· ∈F) wr w1) {m:Nat} {G:List Nat} (hm:Fs[m]?=some G) (hG: ∀b∈F,b∈G):He w.heap.size (λb=>b∈List.flatten Fs) w w1:=
 h.trans ⟨hb.os,hb.tape,hb.output,hb.size,λb jB hF=>hb.block b (Dk jB h.size) λhh=>hF (Fq.2 ⟨G,Bv hm,hG b hh⟩)⟩
set_option maxHeartbeats 4000000 in
set_option maxRecDepth 100000 in
theorem NS (g o cap:Nat) (tid:TypeId) (cur:Array Value) (Fs:List (List Nat)) (ts:List TT) (k0:Int) (w:World) (hl:Fs.length=ts.length) (hn:(g::List.flatten Fs).Nodup) (hs:Gu ts) (hk:low k0/\low (k0+Lz ts)) (hr:Rem w g o tid cur Fs ts 0):
  Calls Tryz.prog 15 #[.slice (some ⟨g,o*3,none⟩) ts.length cap, .int .i64 k0] w λe w'=>e= .returned (.int .i64 (k0+Lz ts))/\He w.heap.size (λb=>b∈List.flatten Fs) w w':=by
 have mixed:=VV
 have hlen:ts.length<=4294967296:=hs.1
 go_enter Tryz.func15,Tryz.ntmps15
 go_wp2
 go_loopw [1,5] (λk i wr=> ∃j:Nat,j<=ts.length/\i= .int .i64 j/\k= .int .i64 (k0+Lz (ts.take j))/\Rem wr g o tid cur Fs ts j/\He w.heap.size (λb=>b∈List.flatten Fs) w wr)
  (λ_ i _=>ts.length-(RowKit.intOf i).toNat)
 case atStart=>exact ⟨0,Ip _,rfl,by simp [Lz],hr,He.refl _ _ _⟩
 case round=>
  obtain ⟨j,hj,rfl,rfl,hR,hB⟩:=hrel
  by_cases hjl:j<ts.length
  ·obtain ⟨u0,u1,u2,F0,F1,F2,c0,c1,c2,q0,q1,q2,t0,t1,t2⟩:=hR.parts hl hn hjl
   obtain ⟨n0,n12,_⟩:=Cv.1 q1
   obtain ⟨n1,n2,_⟩:=Cv.1 n12
   have hT:=hs.2 _ (Ak hjl)
   have hle:=Afi ts (j+1)
   rw [xq hjl] at hle
   obtain ⟨⟨k1,k2⟩,k3,k4⟩:=hk
   have Awv:Air ts[j]=ts[j].1.length+Ef ts[j].2.1+ts[j].2.2.1.length:=rfl
   have hg:g<wr.heap.size:=Fw hR.Qs
   have l1:low (k0+(Lz (ts.take j):Nat)):=⟨by omega,by omega⟩
   have l2:low (k0+(Lz (ts.take j):Nat)+(ts[j].1.length:Nat)):=⟨by omega,by omega⟩
   have l3:low (k0+(Lz (ts.take j):Nat)+(ts[j].1.length:Nat)+(Ef ts[j].2.1:Nat)):=⟨by omega,by omega⟩
   clear hr hle
   have g0:g∉F0:= λh=>q2 (Bd _ h)
   have g1:g∉F1:= λh=>q2 (Bx _ (Bd _ h))
   have d01: ∀b∈F1,b∉F0:= λb h h'=>(Cv.1 q1).2.2 b h' b (Bd _ h) rfl
   have d02: ∀b∈F2,b∉F0:= λb h h'=>(Cv.1 q1).2.2 b h' b (Bx _ h) rfl
   have d12: ∀b∈F2,b∉F1:= λb h h'=>(Cv.1 n12).2.2 b h' b h rfl
   have s0: ∀b∈F0,b∈F0++(F1++F2):= λb h=>Bd _ h
   have s1: ∀b∈F1,b∈F0++(F1++F2):= λb h=>Bx _ (Bd _ h)
   have s2: ∀b∈F2,b∈F0++(F1++F2):= λb h=>Bx _ (Bx _ h)
   go_wp2_with (first
    |(go_at_call 16;refine (xd Axp n2 ⟨hT.2.2,l3⟩).mono ?_;rintro e3 w3 ⟨rfl,hb3⟩)
    |(go_at_call 29;refine (MH t1' n1 ⟨hT.2.1,l2,l3⟩).mono ?_;rintro e2 w2 ⟨rfl,hb2⟩;have Ba2:=uv hb2 hg1 g1 c2';have Axp:=nS hb2 d12 t2')
    |(go_at_call 16;refine (xd t0 n0 ⟨hT.1,l1⟩).mono ?_;rintro e1 w1 ⟨rfl,CE⟩;have c1':=uv CE hg g0 c1;have c2':=uv CE hg g0 c2;have t1':=nS CE d01 t1;have t2':=nS CE d02 t2;have hg1:g<w1.heap.size:=Dk hg CE.size))
   refine ⟨⟨j+1,by omega,by go_num,?_,((hR.adv (Nat.le_succ j) CE hn q0 s0 (Nat.lt_succ_self j)).adv (Ao _) hb2 hn q0 s1 (Nat.lt_succ_self j)).adv (Ao _) hb3 hn q0 s2 (Nat.lt_succ_self j),qa (qa (qa hB CE q0 s0) hb2 q0 s1) hb3 q0 s2⟩,by simp [RowKit.intOf];omega⟩
   rw [xq hjl,Awv]
   congr 1
   push_cast
   omega
  ·have hjl:j=ts.length:=by omega
   subst hjl
   clear hr hn
   go_wp2
   all_goals go_ret
   exact ⟨by rw [Ap];rfl,hB⟩
set_option maxHeartbeats 4000000 in
set_option maxRecDepth 100000 in
theorem GG (base:Option Addr) (cap:Nat) (k0:Int) (w:World):
  Calls Tryz.prog 15 #[.slice base 0 cap, .int .i64 k0] w λe w'=>e= .returned (.int .i64 k0)/\w'=w:=by
 have mixed:=VV
 go_enter Tryz.func15,Tryz.ntmps15
 go_wp2
 go_loop [1,5] (λk i=>k= .int .i64 k0/\i= .int .i64 0) (λ_ _=>0)
 case atStart=>exact ⟨rfl,rfl⟩
 case round=>
  obtain ⟨rfl,rfl⟩:=hrel
  go_wp2
  all_goals go_ret
  exact ⟨rfl,rfl⟩
theorem EU:Cb Tryz.prog 15 Lw:=by
 refine ⟨cq Tryz.func15 (by kernel_rfl) (by kernel_rfl),λw S π us x r o g vs hA _ hIn hP hS hno hfn=>?_⟩
 obtain ⟨ts,k,⟨⟩⟩:=x
 have hp:Gu ts/\low k/\low (k+Lz ts):=Bw λhn=>by
  have:Lw.fn (ts,k,())=none:=Ag hn
  rw [this] at hfn;cases hfn
 have hv:Lw.fn (ts,k,())=some ((k+Lz ts,()),()):=Ab hp
 rw [hv] at hfn
 cases hfn
 cases us with
 |nil=>exact hIn.elim
 |cons u us=>
 cases us with
 |nil=>exact hIn.2.elim
 |cons u1 us=>
 cases us with
 |cons u2 us=>exact hIn.2.2.elim
 |nil=>
 obtain ⟨⟨hO,hR⟩,⟨_,hI⟩,_⟩:=hIn
 obtain ⟨rfl,_⟩:=hA
 have hu1:u1= .int .i64 k:=by
  obtain ⟨cs,hc,rfl⟩:=hI
  simp only [Cells] at hc
  subst hc;rfl
 subst hu1
 have fin: ∀(w':World),He w.heap.size (λb=>Ux π b\/Lw.gv g b) w w'-> ∀e,e=Ending.returned (.int .i64 (k+Lz ts))->
   ∃v Rw ρ,e= .returned v/\rD Lw w' ρ (Rw.drop Lw.Rt) v/\iZ Lw π w' g Rw ()/\He w.heap.size (λb=>Ux π b\/Lw.gv g b) w w'/\Ma w' (iL S π ρ) π 0 Lw.ins ()/\Ji w' (iL S π ρ) ρ 0 Lw.outs (k+Lz ts,()) Rw/\
    fL ρ (λb=>b<w'.heap.size/\(w.heap.size<=b\/ ∃l q,l<Bn/\π l=some q/\q.Cx b))/\(∀l,(∀k,k<Lw.Us->l≠Jw k)->ρ l=none)/\(∀kj∈Lw.keeps,zc w w' (π (Dt false kj.1)) (ρ (Jw kj.2)) (Lw.Fg (ts,k,()))):=by
  intro w' hb e he
  exact ⟨_,[.int .i64 (k+Lz ts)],λ_=>none,he,⟨.inl rfl,trivial⟩,trivial,hb,trivial,⟨⟨rfl,⟨[.int .i64 (k+Lz ts)],rfl,rfl⟩⟩,trivial⟩,⟨(λ_ _ _ hl _=>by cases hl),(λ_ _ _ _ _ hl _ _ _=>by cases hl)⟩,λ_ _=>rfl,λ_ hk=>by cases hk⟩
 show Calls Tryz.prog _ #[u, .int .i64 k] w _
 by_cases h0:ts= []
 ·subst h0
  have hu: ∃base cap,u= .slice base 0 cap:=by
   cases hq:π (Dt false 0) with
   |none=>rw [hq] at hO;exact ⟨none,0,hO.1⟩
   |some q=>rw [hq] at hO;obtain ⟨ad,h1,_⟩:=hO;exact ⟨some ad,_,h1⟩
  obtain ⟨base,cap,rfl⟩:=hu
  refine (GG base cap k w).mono λe w' ⟨he,hw⟩=>?_
  subst hw
  exact fin _ (He.refl _ _ _) e (by rw [he];simp [Lz])
 ·cases hq:π (Dt false 0) with
  |none=>
   rw [hq] at hR
   exact absurd hR h0
  |some q=>
   rw [hq] at hO hR
   obtain ⟨ad,hu,ho,PS⟩:=hO
   obtain ⟨f1,cur,ti,f3,f4,f5,f6,Fs,t1,t2,t3,t4⟩:=hR
   have hlen:0<ts.length:=List.length_pos_iff.2 h0
   have PS:=PS (Dk hlen f6)
   subst PS
   have hu:u= .slice (some ⟨q.g,q.o*3,none⟩) ts.length q.cap:=hu
   subst hu
   refine (NS q.g q.o q.cap ti cur Fs ts k w t1 t2 hp.1 hp.2 ⟨f3,λi t F _ ht hF=>t4 i t F ht hF⟩).mono λe w' ⟨he,hb⟩=>?_
   exact fin w' ⟨hb.os,hb.tape,hb.output,hb.size,λb jB hn=>hb.block b jB λhh=>hn (.inl ⟨_,q,hq,t3 b hh⟩)⟩ e he
theorem sG: ∀(ts:List TT) (room:Int),roomy room-> ¬cV ts room<0->((Lz ts:Nat):Int)<=room-cV ts room/\roomy (cV ts room)
 | [],room,hr,_=>⟨by simp [Lz,cV],hr⟩
 |t::ts,room,hr,h=>by
  simp only [cV] at h⊢
  split at h
  ·exact absurd (show (-1:Int)<0 by decide) h
  ·rename_i h1
   rw [Ag h1]
   obtain ⟨a,b⟩:=Aez hr h1
   obtain ⟨c,d⟩:=sG ts _ b h
   refine ⟨?_,d⟩
   simp only [Lz,Air]
   omega
theorem Aa9 {ts:List TT} {room:Int} (hr:roomy room) (h: ¬cK ts room<0):((Lz ts:Nat):Int)<=room-cK ts room/\roomy (cK ts room):=by
 unfold cK at h⊢
 split at h
 ·exact absurd (show (-1:Int)<0 by decide) h
 ·rename_i h1
  rw [Ag h1]
  obtain ⟨h2,h3⟩:=hr
  obtain ⟨a,b⟩:=sG ts _ (show roomy (room-ts.length) from ⟨by omega,by omega⟩) h
  exact ⟨by omega,b⟩
theorem JS (ts:List TT):decide (ts=ts)=true:=Er rfl
end Go.Proofs.YtfgfigkbgecfnaaGreat
