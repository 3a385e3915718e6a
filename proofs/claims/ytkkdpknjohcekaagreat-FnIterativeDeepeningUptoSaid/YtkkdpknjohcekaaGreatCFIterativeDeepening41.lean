/-
  Part 42 of the proof that the statement FnIterativeDeepening holds.
-/
import Derived.Test.YtkkdpknjohcekaaGreatCFIterativeDeepening40
namespace Go.Proofs.YtkkdpknjohcekaaGreat
open Go.RowKit
def ap (p:List Int) (i:Nat):Nat:=(Ih p (i:Int)).toNat
def Pm (n:Nat) (p:List Int):Prop:=p.length=n/\bz p
theorem Pm.n1 {n:Nat} {p:List Int} (h:Pm n p):1<=n:=h.1▸h.2.pos
theorem Pm.n2 {n:Nat} {p:List Int} (h:Pm n p):n<=20:=h.1▸h.2.len
theorem Pm.aj {n:Nat} {p:List Int} (h:Pm n p) {i:Nat} (hi:i<n):Ih p (i:Int)=(ap p i:Int)/\ap p i<n:=by
 have mG:i<p.length:=by rw [h.1];exact hi
 have:=h.2.row _ (Al mG)
 unfold ap
 rw [Kz mG]
 have h1:=h.1
 omega
theorem Pm.lt {n:Nat} {p:List Int} (h:Pm n p) {i:Nat} (hi:i<n):ap p i<n:=(h.aj hi).2
theorem Pm.ext {n:Nat} {p q:List Int} (h:Pm n p) (k:Pm n q) (e: ∀i,i<n->ap p i=ap q i):p=q:=by
 refine eN (by rw [h.1,k.1]) λi h1 h2=>?_
 have hi:i<n:=by rw [<-h.1];exact h1
 have a:=(h.aj hi).1
 have b:=(k.aj hi).1
 rw [Kz h1] at a
 rw [Kz h2] at b
 rw [a,b,e i hi]
theorem Pm.inj {n:Nat} {p:List Int} (h:Pm n p) {i j:Nat} (hi:i<n) (hj:j<n) (e:ap p i=ap p j):i=j:=
 h.2.inj i j (by rw [h.1];exact hi) (by rw [h.1];exact hj) e
theorem Pm.TC {n:Nat} {p:List Int} (h:Pm n p) {k:Nat} (hk:k<n): ∃i,i<n/\ap p i=k:=by
 obtain ⟨i,h1,h2⟩:=h.2.TC k (by rw [h.1];exact hk)
 exact ⟨i,by rw [<-h.1];exact h1,h2⟩
theorem Pm.of {n:Nat} {p:List Int} (hl:p.length=n) (h1:1<=n) (h2:n<=20) (f:Nat->Nat) (hf: ∀i,i<n->p[i]?=some (f i:Int)/\f i<n) (hi: ∀i j,i<n->j<n->f i=f j->i=j):Pm n p:=by
 refine ⟨hl,by omega,by omega,λy hy=>?_,?_⟩
 ·obtain ⟨i,hi,rfl⟩:=Bf.1 hy
  obtain ⟨h3,h4⟩:=hf i (by omega)
  rw [Ac hi] at h3
  rw [Az h3]
  omega
 ·refine Ej.2 λi j h3 h4 h5 h6=>?_
  have a:=(hf i (by omega)).1
  have b:=(hf j (by omega)).1
  rw [Ac h3] at a
  rw [Ac h4] at b
  rw [Az a,Az b] at h6
  have:=hi i j (by omega) (by omega) (by omega)
  omega
theorem CP {n:Nat} {p q:List Int} (hp:Pm n p) (hq:Pm n q) {i:Nat} (hi:i<n):(Af p q)[i]?=some (ap q (ap p i):Int):=by
 have h1:i<p.length:=by rw [hp.1];exact hi
 unfold Af
 rw [Fk,Ac h1]
 have a:=(hp.aj hi).1
 rw [Kz h1] at a
 simp only [Ak,a]
 rw [(hq.aj (hp.aj hi).2).1]
theorem Pm.comp {n:Nat} {p q:List Int} (hp:Pm n p) (hq:Pm n q):Pm n (Af p q):=
 Pm.of (by rw [Sb,hp.1]) hp.n1 hp.n2 (λi=>ap q (ap p i)) (λi hi=>⟨CP hp hq hi,hq.lt (hp.lt hi)⟩) λi j hi hj e=>hp.inj hi hj (hq.inj (hp.lt hi) (hp.lt hj) e)
theorem WV {p:List Int} {i k:Nat} (h:p[i]?=some (k:Int)):ap p i=k:=by
 unfold ap Ih
 rw [Ar,Aj,h]
 simp
theorem Ml {n:Nat} {p q:List Int} (hp:Pm n p) (hq:Pm n q) {i:Nat} (hi:i<n):ap (Af p q) i=ap q (ap p i):=WV (CP hp hq hi)
theorem jC {n i:Nat} (hi:i<n):(upto n)[i]?=some (i:Int):=by simp [upto,hi]
theorem mL {n i:Nat} (hi:i<n):ap (upto n) i=i:=WV (jC hi)
theorem Pm.id {n:Nat} (h1:1<=n) (h2:n<=20):Pm n (upto n):=Pm.of (by simp [upto]) h1 h2 (λi=>i) (λi hi=>⟨jC hi,hi⟩) λ_ _ _ _ e=>e
theorem PR {n:Nat} {p:List Int} (hp:Pm n p) {i:Nat} (hi:i<n):(Bt p)[ap p i]?=some (i:Int):=ZD hp.2 (by rw [hp.1];exact hi)
theorem jK {n:Nat} {p:List Int} (hp:Pm n p) {i:Nat} (hi:i<n):ap (Bt p) (ap p i)=i:=WV (PR hp hi)
theorem ym {n:Nat} {p:List Int} (hp:Pm n p) {k:Nat} (hk:k<n):ap p (ap (Bt p) k)=k:=by
 obtain ⟨i,hi,rfl⟩:=hp.TC hk
 rw [jK hp hi]
theorem Pm.inv {n:Nat} {p:List Int} (hp:Pm n p):Pm n (Bt p):=by
 refine Pm.of (by rw [rX,hp.1]) hp.n1 hp.n2 (λk=>ap (Bt p) k) (λk hk=>?_) λi j hi hj e=>?_
 ·obtain ⟨i,hi,rfl⟩:=hp.TC hk
  rw [jK hp hi]
  exact ⟨PR hp hi,hi⟩
 ·rw [<-ym hp hi,<-ym hp hj,e]
theorem Kh {n:Nat} {p q r:List Int} (hp:Pm n p) (hq:Pm n q) (hr:Pm n r):Af (Af p q) r=Af p (Af q r):=
 ((hp.comp hq).comp hr).ext (hp.comp (hq.comp hr)) λi hi=>by rw [Ml (hp.comp hq) hr hi,Ml hp hq hi,Ml hp (hq.comp hr) hi,Ml hq hr (hp.lt hi)]
theorem comp_id {n:Nat} {p:List Int} (hp:Pm n p):Af p (upto n)=p:=
 (hp.comp (Pm.id hp.n1 hp.n2)).ext hp λi hi=>by rw [Ml hp (Pm.id hp.n1 hp.n2) hi,mL (hp.lt hi)]
theorem id_comp {n:Nat} {p:List Int} (hp:Pm n p):Af (upto n) p=p:=
 ((Pm.id hp.n1 hp.n2).comp hp).ext hp λi hi=>by rw [Ml (Pm.id hp.n1 hp.n2) hp hi,mL hi]
theorem sH {n:Nat} {p:List Int} (hp:Pm n p):Af p (Bt p)=upto n:=
 (hp.comp hp.inv).ext (Pm.id hp.n1 hp.n2) λi hi=>by rw [Ml hp hp.inv hi,jK hp hi,mL hi]
theorem eh {n:Nat} {p:List Int} (hp:Pm n p):Af (Bt p) p=upto n:=
 (hp.inv.comp hp).ext (Pm.id hp.n1 hp.n2) λi hi=>by rw [Ml hp.inv hp hi,ym hp hi,mL hi]
theorem tt {n:Nat} {p q:List Int} (hp:Pm n p) (hq:Pm n q) (h:Af p q=upto n):Bt p=q:=by
 rw [<-comp_id hp.inv,<-h,<-Kh hp.inv hp hq,eh hp,id_comp hq]
theorem inv_mul {n:Nat} {p q:List Int} (hp:Pm n p) (hq:Pm n q):Bt (Af p q)=Af (Bt q) (Bt p):=
 tt (hp.comp hq) (hq.inv.comp hp.inv) (by
  rw [Kh hp hq (hq.inv.comp hp.inv),<-Kh hq hq.inv hp.inv,sH hq,id_comp hp.inv,sH hp])
theorem inv_inv {n:Nat} {p:List Int} (hp:Pm n p):Bt (Bt p)=p:=tt hp.inv hp (eh hp)
theorem ZE {n:Nat} (h1:1<=n) (h2:n<=20):Bt (upto n)=upto n:=tt (Pm.id h1 h2) (Pm.id h1 h2) (comp_id (Pm.id h1 h2))
inductive dg (n:Nat) (S:List Int->Prop):List Int->Prop where
 |id:dg n S (upto n)
 |mul {p g:List Int} :dg n S p->S g->dg n S (Af p g)
 |inv {p g:List Int} :dg n S p->S g->dg n S (Af p (Bt g))
def RC (n:Nat) (S:List Int->Prop):Prop:=(1<=n/\n<=20)/\ ∀g,S g->Pm n g
theorem dg.pm {n:Nat} {S:List Int->Prop} (hS:RC n S) {p:List Int} (h:dg n S p):Pm n p:=by
 induction h with
 |id=>exact Pm.id hS.1.1 hS.1.2
 |mul _ hg ih=>exact ih.comp (hS.2 _ hg)
 |inv _ hg ih=>exact ih.comp (hS.2 _ hg).inv
theorem dg.comp {n:Nat} {S:List Int->Prop} (hS:RC n S) {p q:List Int} (hp:dg n S p) (hq:dg n S q):dg n S (Af p q):=by
 induction hq with
 |id=>rw [comp_id (hp.pm hS)];exact hp
 |mul hq hg ih=>rw [<-Kh (hp.pm hS) (hq.pm hS) (hS.2 _ hg)];exact .mul ih hg
 |inv hq hg ih=>rw [<-Kh (hp.pm hS) (hq.pm hS) (hS.2 _ hg).inv];exact .inv ih hg
theorem dg.one {n:Nat} {S:List Int->Prop} (hS:RC n S) {g:List Int} (hg:S g):dg n S g:=by
 have:=dg.mul (n:=n) (S:=S) .id hg
 rwa [id_comp (hS.2 g hg)] at this
theorem dg.Ain {n:Nat} {S:List Int->Prop} (hS:RC n S) {g:List Int} (hg:S g):dg n S (Bt g):=by
 have:=dg.inv (n:=n) (S:=S) .id hg
 rwa [id_comp (hS.2 g hg).inv] at this
theorem dg.yY {n:Nat} {S:List Int->Prop} (hS:RC n S) {p:List Int} (hp:dg n S p):dg n S (Bt p):=by
 induction hp with
 |id=>rw [ZE hS.1.1 hS.1.2];exact .id
 |mul hq hg ih=>rw [inv_mul (hq.pm hS) (hS.2 _ hg)];exact (dg.Ain hS hg).comp hS ih
 |inv hq hg ih=>rw [inv_mul (hq.pm hS) (hS.2 _ hg).inv,inv_inv (hS.2 _ hg)];exact (dg.one hS hg).comp hS ih
theorem dg.trans {n:Nat} {S S':List Int->Prop} (hS':RC n S') (h: ∀g,S g->dg n S' g) {p:List Int} (hp:dg n S p):dg n S' p:=by
 induction hp with
 |id=>exact .id
 |mul _ hg ih=>exact ih.comp hS' (h _ hg)
 |inv _ hg ih=>exact ih.comp hS' ((h _ hg).yY hS')
abbrev PO:=Option (List Int)
abbrev Row:=List PO
abbrev Gw:=List Row
def Vl (row:Row):List Int:=(upto row.length).filter λy=>(row.getD y.toNat none).isSome
def Pg (T:Gw):Nat->Nat->List Int->Bool
 |0,_,_=>true
 |k+1,i,p=>match (T.getD i []).getD (Ih p (i:Int)).toNat none with
  |none=>false
  |some t=>Pg T k (i+1) (Af p (Bt t))
def Sn (row:Row):Nat:=row.countP (·.isNone)
def aM (x:Int) (s:Row×List Int) (o:PO):Row×List Int:=
 match s.1.getD (Ih (o.getD []) x).toNat none with
 |some _=>s
 |none=>(s.1.set (Ih (o.getD []) x).toNat (some (Af ((s.1.getD x.toNat none).getD []) (o.getD []))),s.2++ [Ih (o.getD []) x])
def aC (x:Int) (gs:List PO) (s:Row×List Int):Row×List Int:=gs.foldl (aM x) s
def al (gs:List PO):Nat->List Int->Row->Row
 |0,_,row=>row
 |_+1,[],row=>row
 |f+1,x::q,row=>al gs f (aC x gs (row,q)).2 (aC x gs (row,q)).1
def Zm (gs:List PO) (row:Row):Row:=al gs 100 (Vl row) row
def Uj (row:Row) (y:Int) (g:PO):List Int:=
 Af (Af ((row.getD y.toNat none).getD []) (g.getD [])) (Bt ((row.getD (Ih (g.getD []) y).toNat none).getD []))
def gD (row:Row) (gs:List PO):List (List Int):=(Vl row).flatMap λy=>gs.map λg=>Uj row y g
def Ig:Nat->Nat->List Int->Gw×Gw->Gw×Gw
 |0,_,_,s=>s
 |k+1,l,p,s=>
  if Pg s.2 (k+1) l p=true then s else
   (gD (Zm (s.1.getD l []++ [some p]) (s.2.getD l [])) (s.1.getD l []++ [some p])).foldl (λs q=>Ig k (l+1) q s)
    (s.1.set l (s.1.getD l []++ [some p]),s.2.set l (Zm (s.1.getD l []++ [some p]) (s.2.getD l [])))
def Fx (l:Nat) (p:List Int):Prop:= ∀i,i<l->ap p i=i
def Gn (n:Nat) (gs:List PO):List Int->Prop:=dg n λg=>some g∈gs
structure Lvl (n l:Nat) (gs:List PO) (row:Row) (H:List Int->Prop):Prop where
 pg: ∀o∈gs,∃g,o=some g/\Pm n g/\Fx l g
 rl:row.length=n
 r0:row.getD l none=some (upto n)
 rt: ∀y t,row.getD y none=some t->Pm n t/\Fx l t/\ap t l=y/\Gn n gs t
 cl: ∀y t g,row.getD y none=some t->some g∈gs->row.getD (ap g y) none≠none
 sg: ∀y t g t',row.getD y none=some t->some g∈gs->row.getD (ap g y) none=some t'->H (Af (Af t g) (Bt t'))
def qT (n:Nat):Nat->Nat->Gw×Gw->Prop
 |0,l,s=>s.1.getD l []= []
 |k+1,l,s=>qT n k (l+1) s/\Lvl n l (s.1.getD l []) (s.2.getD l []) (λq=>Pg s.2 k (l+1) q=true)/\ ∀g,some g∈s.1.getD (l+1) []->Gn n (s.1.getD l []) g
theorem Aef {l1 l2:List Nat} (hn:l1.Nodup) (hs: ∀x∈l1,x∈l2) (hl:l2.length<=l1.length): ∀x∈l2,x∈l1:=by
 induction l1 generalizing l2 with
 |nil=>
  intro x hx
  have:l2= []:=Ch (by simpa using hl)
  rw [this] at hx;cases hx
 |cons a l ih=>
  intro x hx
  obtain ⟨h1,h2⟩:=Ce.1 hn
  have ha:=hs a (by simp)
  by_cases e:x=a
  ·subst e;simp
  ·refine Ao _ (ih (l2:=l2.erase a) h2 (λy hy=>?_) ?_ x ((List.mem_erase_of_ne e).2 hx))
   ·have hya:y≠a:= λe'=>h1 (by rw [<-e'];exact hy)
    exact (List.mem_erase_of_ne hya).2 (hs y (by simp [hy]))
   ·rw [List.length_erase_of_mem ha]
    simp only [Aw] at hl
    omega
theorem KX {n:Nat} {g:List Int} (hg:Pm n g) (D:Nat->Bool) (h: ∀y,y<n->D y=true->D (ap g y)=true) {y:Nat} (hy:y<n) (hD:D y=true): ∃x,x<n/\D x=true/\ap g x=y:=by
 have:=Aef (l1:=((List.range n).filter D).map (ap g)) (l2:=(List.range n).filter D) ?_ ?_ (by simp) y (Bs.2 ⟨Es.2 hy,hD⟩)
 ·obtain ⟨x,hx,e⟩:=Bj.1 this
  obtain ⟨h1,h2⟩:=Bs.1 hx
  exact ⟨x,Es.1 h1,h2,e⟩
 ·refine List.pairwise_map.2 (List.Pairwise.imp_of_mem ?_ (List.nodup_range.filter D))
  intro a b ha hb Jl e
  exact Jl (hg.inj (Es.1 (Bs.1 ha).1) (Es.1 (Bs.1 hb).1) e)
 ·intro x hx
  obtain ⟨z,hz,rfl⟩:=Bj.1 hx
  obtain ⟨h1,h2⟩:=Bs.1 hz
  exact Bs.2 ⟨Es.2 (hg.lt (Es.1 h1)),h z (Es.1 h1) h2⟩
theorem rS {row:Row} {y:Nat} {t:List Int} (h:row.getD y none=some t):y<row.length:=by
 rw [Aj] at h
 refine Bu λhn=>?_
 rw [Dw (by omega)] at h
 cases h
theorem Lvl.pms {n l:Nat} {gs:List PO} {row:Row} {H:List Int->Prop} (h:Lvl n l gs row H):RC n λg=>some g∈gs:=by
 refine ⟨?_,λg hg=>?_⟩
 ·have:=(h.rt l _ h.r0).1
  exact ⟨this.n1,this.n2⟩
 ·obtain ⟨g',e,h1,_⟩:=h.pg _ hg
  cases e;exact h1
theorem Fx.inv {n l:Nat} {p:List Int} (hp:Pm n p) (h:Fx l p) (hl:l<=n):Fx l (Bt p):= λi hi=>by
 have:=jK hp (i:=i) (by omega)
 rwa [h i hi] at this
theorem Fx.comp {n l:Nat} {p q:List Int} (hp:Pm n p) (hq:Pm n q) (h1:Fx l p) (h2:Fx l q) (hl:l<=n):Fx l (Af p q):= λi hi=>by
 rw [Ml hp hq (by omega),h1 i hi,h2 i hi]
theorem Fx.all {n:Nat} {p:List Int} (hp:Pm n p) (h:Fx n p):p=upto n:=hp.ext (Pm.id hp.n1 hp.n2) λi hi=>by rw [h i hi,mL hi]
theorem Fx.div {n l:Nat} {p t:List Int} (hp:Pm n p) (ht:Pm n t) (h1:Fx l p) (h2:Fx l t) (hl:l<n) (e:ap t l=ap p l):Fx (l+1) (Af p (Bt t)):= λi hi=>by
 rw [Ml hp ht.inv (by omega)]
 by_cases WA:i<l
 ·rw [h1 i WA];exact h2.inv ht (by omega) i WA
 ·have:i=l:=by omega
  subst this
  rw [<-e,jK ht hl]
theorem nu {n:Nat} (h1:1<=n) (h2:n<=20): ∀(k l:Nat) (s:Gw×Gw),l+k=n->qT n k l s-> ∀p,Pm n p->Fx l p->(Pg s.2 k l p=true↔Gn n (s.1.getD l []) p)
 |0,l,s,hk,hc,p,hp,hf=>by
  have hl:l=n:=by omega
  subst hl
  rw [hf.all hp]
  exact ⟨λ_=> .id,λ_=>rfl⟩
 |k+1,l,s,hk,hc,p,hp,hf=>by
  obtain ⟨c1,c2,c3⟩:=hc
  have hS:=c2.pms
  have ih:=nu h1 h2 k (l+1) s (by omega) c1
  have hS1:RC n λg=>some g∈s.1.getD (l+1) []:=⟨⟨h1,h2⟩,λg hg=>(c3 g hg).pm hS⟩
  have ef:l<n:=by omega
  constructor
  ·intro h
   simp only [Pg] at h
   rw [show (Ih p (l:Int)).toNat=ap p l from rfl] at h
   split at h
   ·cases h
   ·rename_i t ht
    obtain ⟨t1,t2,t3,t4⟩:=c2.rt _ _ ht
    have hf':=Fx.div hp t1 hf t2 ef t3
    have hg:=((ih _ (hp.comp t1.inv) hf').1 h).trans hS c3
    have:=dg.comp hS hg t4
    rwa [Kh hp t1.inv t1,eh t1,comp_id hp] at this
  ·intro h
   have key: ∀q,Gn n (s.1.getD l []) q-> ∃t,(s.2.getD l []).getD (ap q l) none=some t/\Gn n (s.1.getD (l+1) []) (Af q (Bt t)):=by
    intro q hq
    induction hq with
    |id=>
     refine ⟨upto n,by rw [mL ef];exact c2.r0,?_⟩
     rw [ZE h1 h2,comp_id (Pm.id h1 h2)]
     exact .id
    | @mul q g hq hg ihq=>
     obtain ⟨t,e1,e2⟩:=ihq
     have hqp:=dg.pm hS hq
     have Xl:=hS.2 _ hg
     obtain ⟨t1,t2,t3,t4⟩:=c2.rt _ _ e1
     cases e3:(s.2.getD l []).getD (ap g (ap q l)) none with
     |none=>exact absurd e3 (c2.cl _ _ _ e1 hg)
     |some t'=>
      obtain ⟨u1,u2,u3,u4⟩:=c2.rt _ _ e3
      have hsg:=c2.sg _ _ _ _ e1 hg e3
      have hfg:Fx (l+1) (Af (Af t g) (Bt t')):=Fx.div (t1.comp Xl) u1 (Fx.comp t1 Xl t2 (by obtain ⟨g',e,_,h⟩:=c2.pg _ hg;cases e;exact h) (by omega)) u2 ef (by rw [u3,Ml t1 Xl ef,t3])
      have hgn:=(ih _ ((t1.comp Xl).comp u1.inv) hfg).1 hsg
      refine ⟨t',by rw [Ml hqp Xl ef];exact e3,?_⟩
      have:=dg.comp hS1 e2 hgn
      rwa [show Af (Af q (Bt t)) (Af (Af t g) (Bt t'))=Af (Af q g) (Bt t') by
       rw [Kh hqp t1.inv ((t1.comp Xl).comp u1.inv),Kh t1 Xl u1.inv,<-Kh t1.inv t1 (Xl.comp u1.inv),eh t1,id_comp (Xl.comp u1.inv),Kh hqp Xl u1.inv]] at this
    | @inv q g hq hg ihq=>
     obtain ⟨t,e1,e2⟩:=ihq
     have hqp:=dg.pm hS hq
     have Xl:=hS.2 _ hg
     obtain ⟨t1,t2,t3,t4⟩:=c2.rt _ _ e1
     have hy:ap q l<n:=hqp.lt ef
     obtain ⟨x,hx,hD,he⟩:=KX Xl (λy=>((s.2.getD l []).getD y none).isSome) (λy hy hd=>by
      obtain ⟨t0,JY⟩:=gW.1 hd
      exact Option.ne_none_iff_isSome.1 (c2.cl _ _ _ JY hg)) hy (by rw [e1];rfl)
     obtain ⟨t',e3⟩:=gW.1 hD
     obtain ⟨u1,u2,u3,u4⟩:=c2.rt _ _ e3
     have hsg:=c2.sg _ _ _ _ e3 hg (by rw [he];exact e1)
     have hfg:Fx (l+1) (Af (Af t' g) (Bt t)):=Fx.div (u1.comp Xl) t1 (Fx.comp u1 Xl u2 (by obtain ⟨g',e,_,h⟩:=c2.pg _ hg;cases e;exact h) (by omega)) t2 ef (by rw [t3,Ml u1 Xl ef,u3,he])
     have hgn:=dg.yY hS1 ((ih _ ((u1.comp Xl).comp t1.inv) hfg).1 hsg)
     have hax:ap (Bt g) (ap q l)=x:=by rw [<-he,jK Xl hx]
     refine ⟨t',by rw [Ml hqp Xl.inv ef,hax];exact e3,?_⟩
     have:=dg.comp hS1 e2 hgn
     rwa [show Af (Af q (Bt t)) (Bt (Af (Af t' g) (Bt t)))=Af (Af q (Bt g)) (Bt t') by
      rw [inv_mul (u1.comp Xl) t1.inv,inv_inv t1,inv_mul u1 Xl,Kh hqp t1.inv (t1.comp (Xl.inv.comp u1.inv)),<-Kh t1.inv t1 (Xl.inv.comp u1.inv),eh t1,id_comp (Xl.inv.comp u1.inv),Kh hqp Xl.inv u1.inv]] at this
   obtain ⟨t,e1,e2⟩:=key p h
   obtain ⟨t1,t2,t3,t4⟩:=c2.rt _ _ e1
   simp only [Pg]
   rw [show (Ih p (l:Int)).toNat=ap p l from rfl,e1]
   exact (ih _ (hp.comp t1.inv) (Fx.div hp t1 hf t2 ef t3)).2 e2
theorem Yd {α:Type} (xs:List α) (i j:Nat) (x d:α):(xs.set i x).getD j d=if i=j/\i<xs.length then x else xs.getD j d:=by
 rw [Aj,Eg,Aj]
 by_cases e:i=j
 ·subst e
  by_cases h:i<xs.length
  ·rw [Ab rfl,Ab h,Ab ⟨rfl,h⟩];rfl
  ·rw [Ab rfl,Ai h,Ai (λhh=>h hh.2),Dw (by omega)]
 ·rw [Ai e,Ai (λhh=>e hh.1)]
theorem dg.mono {n:Nat} {S S':List Int->Prop} (h: ∀g,S g->S' g) {p:List Int} (hp:dg n S p):dg n S' p:=by
 induction hp with
 |id=>exact .id
 |mul _ hg ih=>exact .mul ih (h _ hg)
 |inv _ hg ih=>exact .inv ih (h _ hg)
structure Xj (n l:Nat) (gs:List PO) (row:Row):Prop where
 rl:row.length=n
 r0:row.getD l none=some (upto n)
 rt: ∀y t,row.getD y none=some t->Pm n t/\Fx l t/\ap t l=y/\Gn n gs t
def PG (n l:Nat) (gs:List PO):Prop:= ∀o∈gs,∃g,o=some g/\Pm n g/\Fx l g
structure Ext (n l:Nat) (gs:List PO) (row:Row) (q:List Int) (s':Row×List Int):Prop where
 ok:Xj n l gs s'.1
 mono: ∀y t,row.getD y none=some t->s'.1.getD y none=some t
 phi:s'.2.length+Sn s'.1=q.length+Sn row
 vz: ∀y∈q,y∈s'.2
 new: ∀y∈s'.2,y∈q\/ ∃yn:Nat,y=yn/\s'.1.getD yn none≠none
 src: ∀y:Nat,s'.1.getD y none≠none->row.getD y none≠none\/(y:Int)∈s'.2
theorem Ext.refl {n l:Nat} {gs:List PO} {row:Row} {q:List Int} (h:Xj n l gs row):Ext n l gs row q (row,q):=⟨h,λ_ _ h=>h,rfl,λ_ h=>h,λ_ h=> .inl h,λ_ h=> .inl h⟩
theorem fy {a b:Row} (h: ∀y t,a.getD y none=some t->b.getD y none=some t) {y:Nat} (hy:a.getD y none≠none):b.getD y none≠none:=by
 cases e:a.getD y none with
 |none=>exact absurd e hy
 |some t=>rw [h y t e];simp
theorem Ext.trans {n l:Nat} {gs:List PO} {row:Row} {q:List Int} {s1 s2:Row×List Int} (h:Ext n l gs row q s1) (k:Ext n l gs s1.1 s1.2 s2):Ext n l gs row q s2:=by
 refine ⟨k.ok,λy t e=>k.mono y t (h.mono y t e),k.phi.trans h.phi,λy hy=>k.vz y (h.vz y hy),λy hy=>?_,λy hy=>?_⟩
 ·rcases k.new y hy with h1|h1
  ·rcases h.new y h1 with h2|⟨yn,h2,h3⟩
   ·exact .inl h2
   ·exact .inr ⟨yn,h2,fy k.mono h3⟩
  ·exact .inr h1
 ·rcases k.src y hy with h1|h1
  ·exact (h.src y h1).imp id λh2=>k.vz _ h2
  ·exact .inr h1
theorem TA {row:Row} {i:Nat} {t:List Int} (h:row.getD i none=none) (hi:i<row.length):Sn (row.set i (some t))+1=Sn row:=by
 unfold Sn
 have e:row[i]=none:=by
  rw [Aj,Ac hi] at h
  exact h
 have h1:=List.countP_set (p:= λo:PO=>o.isNone) (l:=row) (i:=i) (a:=some t) hi
 have yT:0<row.countP (·.isNone):=List.countP_pos_iff.2 ⟨row[i],Al hi,by rw [e];rfl⟩
 rw [h1,e]
 simp
 omega
theorem Aee {n l:Nat} {gs:List PO} (ef:l<n) (hg:PG n l gs) {row:Row} {q:List Int} (h:Xj n l gs row) {x:Nat} {t:List Int} (hx:row.getD x none=some t) {g:List Int} (ho:some g∈gs):
  Ext n l gs row q (aM (x:Int) (row,q) (some g))/\(aM (x:Int) (row,q) (some g)).1.getD (ap g x) none≠none:=by
 obtain ⟨g',e,Xl,hgf⟩:=hg _ ho
 cases e
 obtain ⟨t1,t2,t3,t4⟩:=h.rt _ _ hx
 have hxn:x<n:=by rw [<-h.rl];exact rS hx
 obtain ⟨a1,a2⟩:=Xl.aj hxn
 unfold aM
 simp only [Dd,a1,Ar]
 cases e:row.getD (ap g x) none with
 |some u=>exact ⟨Ext.refl h,by simp only;rw [e];simp⟩
 |none=>
  simp only [hx,Dd]
  have hl:ap g x<row.length:=by rw [h.rl];exact a2
  have hS:RC n λg=>some g∈gs:=⟨⟨t1.n1,t1.n2⟩,λg gx=>by obtain ⟨g',e,h1,_⟩:=hg _ gx;cases e;exact h1⟩
  have Av: ∀y,(row.set (ap g x) (some (Af t g))).getD y none=if ap g x=y/\ap g x<row.length then some (Af t g) else row.getD y none:= λy=>Yd _ _ _ _ _
  have Jl: ∀y u,row.getD y none=some u->ap g x≠y:= λy u hu e'=>by rw [<-e',e] at hu;cases hu
  refine ⟨⟨⟨by simp [h.rl],?_,λy u hu=>?_⟩,λy u hu=>?_,?_,λy hy=>Bk _ hy,λy hy=>?_,λy hy=>?_⟩,?_⟩
  ·rw [Av,Ai (λhh=>Jl l _ h.r0 hh.1)];exact h.r0
  ·rw [Av] at hu
   split at hu
   ·rename_i hc
    cases hu
    exact ⟨t1.comp Xl,Fx.comp t1 Xl t2 hgf (by omega),by rw [Ml t1 Xl ef,t3];exact hc.1, .mul t4 ho⟩
   ·exact h.rt y u hu
  ·show (row.set (ap g x) (some (Af t g))).getD y none=some u
   rw [Av,Ai (λhh=>Jl y u hu hh.1)];exact hu
  ·have:=TA (t:=Af t g) e hl
   simp only [Au,Aw,Eo]
   omega
  ·rcases Ay.1 hy with hy|hy
   ·exact .inl hy
   ·simp only [Ad] at hy
    exact .inr ⟨ap g x,hy,by show (row.set (ap g x) (some (Af t g))).getD (ap g x) none≠none;rw [Av,Ab ⟨rfl,hl⟩];simp⟩
  ·have hy:(row.set (ap g x) (some (Af t g))).getD y none≠none:=hy
   rw [Av] at hy
   split at hy
   ·rename_i hc
    exact .inr (by show (y:Int)∈q++ [(ap g x:Int)];rw [<-hc.1];simp)
   ·exact .inl hy
  ·show (row.set (ap g x) (some (Af t g))).getD (ap g x) none≠none
   rw [Av,Ab ⟨rfl,hl⟩];simp
theorem Aag {n l:Nat} {gs:List PO} (ef:l<n) (hg:PG n l gs): ∀(gs':List PO) {row:Row} {q:List Int},(∀o∈gs',o∈gs)->Xj n l gs row-> ∀ {x:Nat} {t:List Int},row.getD x none=some t->
  Ext n l gs row q (aC (x:Int) gs' (row,q))/\ ∀g,some g∈gs'->(aC (x:Int) gs' (row,q)).1.getD (ap g x) none≠none
 | [],row,q,_,h,x,t,hx=>⟨Ext.refl h,λg hg=>by cases hg⟩
 |o::gs',row,q,hs,h,x,t,hx=>by
  obtain ⟨g,rfl,_,_⟩:=hg o (hs o (by simp))
  obtain ⟨e1,e2⟩:=Aee (q:=q) ef hg h hx (hs (some g) (by simp))
  obtain ⟨f1,f2⟩:=Aag ef hg gs' (q:=(aM (x:Int) (row,q) (some g)).2) (λo ho=>hs o (by simp [ho])) e1.ok (e1.mono x t hx)
  have hb:aC (x:Int) (some g::gs') (row,q)=aC (x:Int) gs' ((aM (x:Int) (row,q) (some g)).1,(aM (x:Int) (row,q) (some g)).2):=rfl
  rw [hb]
  refine ⟨e1.trans f1,λg' gx=>?_⟩
  rcases Bg.1 gx with e|gx
  ·cases e;exact fy f1.mono e2
  ·exact f2 g' gx
def RE (gs:List PO) (q:List Int) (row:Row):Prop:=
 (∀y∈q,∃yn:Nat,y=yn/\row.getD yn none≠none)/\ ∀y:Nat,row.getD y none≠none->(y:Int)∈q\/ ∀g,some g∈gs->row.getD (ap g y) none≠none
theorem LU {n l:Nat} {gs:List PO} (ef:l<n) (hg:PG n l gs) {x:Int} {q:List Int} {row:Row} (h:Xj n l gs row) (hq:RE gs (x::q) row):
  Ext n l gs row q (aC x gs (row,q))/\RE gs (aC x gs (row,q)).2 (aC x gs (row,q)).1/\ ∃(xn:Nat) (t:List Int),x=xn/\row.getD xn none=some t:=by
 obtain ⟨xn,rfl,hx⟩:=hq.1 x (by simp)
 cases e:row.getD xn none with
 |none=>exact absurd e hx
 |some t=>
  obtain ⟨e1,e2⟩:=Aag ef hg gs (q:=q) (λo ho=>ho) h e
  refine ⟨e1,⟨λy hy=>?_,λy hy=>?_⟩,xn,t,rfl,e⟩
  ·rcases e1.new y hy with h1|h1
   ·obtain ⟨yn,h2,h3⟩:=hq.1 y (by simp [h1])
    exact ⟨yn,h2,fy e1.mono h3⟩
   ·exact h1
  ·rcases e1.src y hy with h1|h1
   ·rcases hq.2 y h1 with h2|h2
    ·rcases Bg.1 h2 with h2|h2
     ·have:y=xn:=by omega
      subst this
      exact .inr λg gx=>e2 g gx
     ·exact .inl (e1.vz _ h2)
    ·exact .inr λg gx=>fy e1.mono (h2 g gx)
   ·exact .inl h1
theorem Aan {n l:Nat} {gs:List PO} (ef:l<n) (hg:PG n l gs): ∀(f:Nat) (q:List Int) (row:Row),q.length+Sn row<=f->Xj n l gs row->RE gs q row->
  Xj n l gs (al gs f q row)/\(∀y t,row.getD y none=some t->(al gs f q row).getD y none=some t)/\ ∀y t g,(al gs f q row).getD y none=some t->some g∈gs->(al gs f q row).getD (ap g y) none≠none
 |0,q,row,hf,h,hq=>by
  have:q= []:=Ch (by omega)
  subst this
  exact ⟨h,λ_ _ h=>h,λy t g e gx=>by
   rcases hq.2 y (by rw [show row.getD y none=some t from e];simp) with h1|h1
   ·cases h1
   ·exact h1 g gx⟩
 |f+1,[],row,hf,h,hq=>⟨h,λ_ _ h=>h,λy t g e gx=>by
   rcases hq.2 y (by rw [show row.getD y none=some t from e];simp) with h1|h1
   ·cases h1
   ·exact h1 g gx⟩
 |f+1,x::q,row,hf,h,hq=>by
  obtain ⟨e1,e2,_⟩:=LU ef hg h hq
  obtain ⟨r1,r2,r3⟩:=Aan ef hg f _ _ (by have:=e1.phi;simp only [Aw] at hf;omega) e1.ok e2
  exact ⟨r1,λy t e=>r2 y t (e1.mono y t e),r3⟩
theorem aX {row:Row} {y:Int} :y∈Vl row↔ ∃yn:Nat,y=yn/\row.getD yn none≠none:=by
 unfold Vl
 rw [Bs,Qt]
 constructor
 ·rintro ⟨h1,h2⟩
  exact ⟨y.toNat,by omega,Option.ne_none_iff_isSome.2 h2⟩
 ·rintro ⟨yn,rfl,h⟩
  obtain ⟨t,ht⟩:=dK.1 h
  exact ⟨by have:=rS ht;omega,by simpa using Option.ne_none_iff_isSome.1 h⟩
theorem zq (row:Row):(Vl row).length<=row.length:=by
 unfold Vl
 refine Lg (List.length_filter_le _ _) (by simp [upto])
theorem FE (row:Row):Sn row<=row.length:=List.countP_le_length
theorem FK {n l:Nat} {gs:List PO} (ef:l<n) (h2:n<=20) (hg:PG n l gs) {row:Row} (h:Xj n l gs row):
  Xj n l gs (Zm gs row)/\(∀y t,row.getD y none=some t->(Zm gs row).getD y none=some t)/\ ∀y t g,(Zm gs row).getD y none=some t->some g∈gs->(Zm gs row).getD (ap g y) none≠none:=
 Aan ef hg 100 _ _ (by have:=zq row;have:=FE row;have:=h.rl;omega) h ⟨λy hy=>aX.1 hy,λy hy=> .inl (aX.2 ⟨y,rfl,hy⟩)⟩
theorem CH {n l:Nat} {gs:List PO} (ef:l<n) (hg:PG n l gs): ∀(f:Nat) (q:List Int) (row:Row),q.length+Sn row<=f->Xj n l gs row->RE gs q row->al gs f q row=al gs (q.length+Sn row) q row
 |0,q,row,hf,_,_=>by
  have:q.length+Sn row=0:=by omega
  rw [this]
 |f+1,[],row,hf,_,_=>by
  cases h:([]:List Int).length+Sn row with
  |zero=>rfl
  |succ m=>rfl
 |f+1,x::q,row,hf,h,hq=>by
  obtain ⟨e1,e2,_⟩:=LU ef hg h hq
  have Adm:=e1.phi
  have:(x::q).length+Sn row=(q.length+Sn row)+1:=by simp only [Aw];omega
  rw [this]
  simp only [al]
  rw [CH ef hg f _ _ (by simp only [Aw] at hf;omega) e1.ok e2,Adm]
def CO (row:Row):Nat:=row.countP (·.isSome)
theorem x5: ∀(a b:Row),a.length=b.length->(∀y t,a.getD y none=some t->b.getD y none=some t)->CO a<=CO b/\(CO a=CO b->a=b)
 | [],[],_,_=>⟨Ap _,λ_=>rfl⟩
 | [],_::_,h,_=>by simp at h
 |_::_,[],h,_=>by simp at h
 |x::a,y::b,h,hm=>by
  obtain ⟨h1,h2⟩:=x5 a b (by simpa using h) λi t e=>by simpa using hm (i+1) t (by simpa using e)
  unfold CO at h1 h2⊢
  cases x with
  |none=>
   cases y with
   |none=>simp only [List.countP_cons];exact ⟨by simpa using h1,λe=>by rw [h2 (by simpa using e)]⟩
   |some u=>
    simp only [List.countP_cons,Option.isSome_none,Option.isSome_some]
    simp only [Py,Cz,Ry]
    exact ⟨by omega,λe=>by omega⟩
  |some t=>
   have:=hm 0 t (by simp)
   simp only [Xq] at this
   subst this
   simp only [List.countP_cons]
   exact ⟨by simpa using h1,λe=>by rw [h2 (by simpa using e)]⟩
def mi (T:Gw):Nat->Nat->Nat
 |0,_=>0
 |k+1,l=>CO (T.getD l [])+mi T k (l+1)
def GBf:Nat->Nat->Gw×Gw->Prop
 |0,_,_=>True
 |k+1,l,s=>GBf k (l+1) s/\(s.1.getD l []).length<=mi s.2 (k+1) l
structure bx (l0:Nat) (s s':Gw×Gw):Prop where
 An6:s'.1.length=s.1.length
 tD:s'.2.length=s.2.length
 low: ∀i,i<l0->s'.1.getD i []=s.1.getD i []/\s'.2.getD i []=s.2.getD i []
 OS: ∀i o,o∈s.1.getD i []->o∈s'.1.getD i []
 Abe: ∀i y t,(s.2.getD i []).getD y none=some t->(s'.2.getD i []).getD y none=some t
 Aj1: ∀i,(s'.2.getD i []).length=(s.2.getD i []).length
theorem bx.refl (l0:Nat) (s:Gw×Gw):bx l0 s s:=⟨rfl,rfl,λ_ _=>⟨rfl,rfl⟩,λ_ _ h=>h,λ_ _ _ h=>h,λ_=>rfl⟩
theorem bx.trans {l0 l1:Nat} {a b c:Gw×Gw} (h:bx l0 a b) (k:bx l1 b c) (hl:l0<=l1):bx l0 a c:=
 ⟨k.An6.trans h.An6,k.tD.trans h.tD,λi hi=>⟨(k.low i (by omega)).1.trans (h.low i hi).1,(k.low i (by omega)).2.trans (h.low i hi).2⟩,λi o ho=>k.OS i o (h.OS i o ho),λi y t e=>k.Abe i y t (h.Abe i y t e),λi=>(k.Aj1 i).trans (h.Aj1 i)⟩
theorem bx.Jr {l0 l1:Nat} {a b:Gw×Gw} (h:bx l1 a b) (hl:l0<=l1):bx l0 a b:=(bx.refl l0 a).trans h hl
theorem iP {T T':Gw} : ∀(k l:Nat) (p:List Int),(∀i,l<=i->i<l+k->T'.getD i []=T.getD i [])->Pg T' k l p=Pg T k l p
 |0,_,_,_=>rfl
 |k+1,l,p,h=>by
  simp only [Pg]
  rw [h l (Ap _) (by omega)]
  split
  ·rfl
  ·exact iP k (l+1) _ λi h1 h2=>h i (by omega) (by omega)
theorem lP {n:Nat} {s s':Gw×Gw} : ∀(k l:Nat),(∀i,l<=i->s'.1.getD i []=s.1.getD i []/\s'.2.getD i []=s.2.getD i [])->qT n k l s->qT n k l s'
 |0,l,h,hc=>by simp only [qT] at hc⊢;rw [(h l (Ap _)).1];exact hc
 |k+1,l,h,hc=>by
  simp only [qT] at hc⊢
  obtain ⟨c1,c2,c3⟩:=hc
  refine ⟨lP k (l+1) (λi hi=>h i (by omega)) c1,?_,?_⟩
  ·rw [(h l (Ap _)).1,(h l (Ap _)).2]
   have e:(λq=>Pg s'.2 k (l+1) q=true)= λq=>Pg s.2 k (l+1) q=true:=funext λq=>by rw [iP k (l+1) q λi h1 h2=>(h i (by omega)).2]
   rw [e];exact c2
  ·rw [(h (l+1) (by omega)).1,(h l (Ap _)).1];exact c3
theorem xF {T T':Gw} : ∀(k l:Nat),(∀i,l<=i->T'.getD i []=T.getD i [])->mi T' k l=mi T k l
 |0,_,_=>rfl
 |k+1,l,h=>by simp only [mi];rw [h l (Ap _),xF k (l+1) λi hi=>h i (by omega)]
theorem sS {s s':Gw×Gw} : ∀(k l:Nat),(∀i,l<=i->s'.1.getD i []=s.1.getD i []/\s'.2.getD i []=s.2.getD i [])->GBf k l s->GBf k l s'
 |0,_,_,_=>trivial
 |k+1,l,h,hg=>⟨sS k (l+1) (λi hi=>h i (by omega)) hg.1,by
  rw [(h l (Ap _)).1,xF (k+1) l λi hi=>(h i hi).2];exact hg.2⟩
theorem GC {T T':Gw} (hl: ∀i,(T'.getD i []).length=(T.getD i []).length) (hm: ∀i y t,(T.getD i []).getD y none=some t->(T'.getD i []).getD y none=some t):
  ∀(k l:Nat),mi T k l<=mi T' k l/\(mi T k l=mi T' k l-> ∀i,l<=i->i<l+k->T'.getD i []=T.getD i [])
 |0,l=>⟨Ap _,λ_ i h1 h2=>by omega⟩
 |k+1,l=>by
  obtain ⟨h1,h2⟩:=GC hl hm k (l+1)
  obtain ⟨h3,h4⟩:=x5 (T.getD l []) (T'.getD l []) (hl l).symm (hm l)
  simp only [mi]
  refine ⟨by omega,λe i g1 g2=>?_⟩
  by_cases hi:i=l
  ·subst hi;exact (h4 (by omega)).symm
  ·exact h2 (by omega) i (by omega) (by omega)
def V (n k l:Nat) (s:Gw×Gw):Prop:=s.1.length=n/\s.2.length=n/\qT n k l s/\GBf k l s
structure Akk (n k l:Nat) (s:Gw×Gw) (p:List Int) (s':Gw×Gw):Prop where
 v:V n k l s'
 grow:bx l s s'
 Amx:Gn n (s'.1.getD l []) p
 gens: ∀o∈s'.1.getD l [],o∈s.1.getD l []\/o=some p
theorem Lvl.row {n l:Nat} {gs:List PO} {row:Row} {H:List Int->Prop} (h:Lvl n l gs row H):Xj n l gs row:=⟨h.rl,h.r0,h.rt⟩
theorem jq {row:Row} {y:Nat} {t g t':List Int} (h1:row.getD y none=some t) (h2:row.getD (ap g y) none=some t'):Uj row (y:Int) (some g)=Af (Af t g) (Bt t'):=by
 unfold Uj
 rw [Ar,h1,Dd,Dd,show (Ih g (y:Int)).toNat=ap g y from rfl,h2,Dd]
theorem ph {n l:Nat} {gs:List PO} {row:Row} (hg:PG n l gs) (_h:Xj n l gs row) (hc: ∀y t g,row.getD y none=some t->some g∈gs->row.getD (ap g y) none≠none) {q:List Int} :
  q∈gD row gs↔ ∃(y:Nat) (t g t':List Int),row.getD y none=some t/\some g∈gs/\row.getD (ap g y) none=some t'/\q=Af (Af t g) (Bt t'):=by
 unfold gD
 rw [Hy]
 constructor
 ·rintro ⟨y,hy,hq⟩
  obtain ⟨o,ho,rfl⟩:=Bj.1 hq
  obtain ⟨yn,rfl,hyn⟩:=aX.1 hy
  obtain ⟨t,ht⟩:=dK.1 hyn
  obtain ⟨g,rfl,Xl,_⟩:=hg o ho
  obtain ⟨t',JX⟩:=dK.1 (hc yn t g ht ho)
  exact ⟨yn,t,g,t',ht,ho,JX,jq ht JX⟩
 ·rintro ⟨y,t,g,t',h1,h2,h3,rfl⟩
  obtain ⟨g',e,Xl,_⟩:=hg _ h2
  cases e
  exact ⟨(y:Int),aX.2 ⟨y,rfl,by rw [h1];simp⟩,Bj.2 ⟨some g,h2,jq h1 h3⟩⟩
theorem yk {n:Nat} (h1:1<=n) (h2:n<=20): ∀(k l:Nat) (p:List Int) (s:Gw×Gw),l+k=n->V n k l s->Pm n p->Fx l p->Akk n k l s p (Ig k l p s)
 |0,l,p,s,hk,hv,hp,hf=>by
  have hl:l=n:=by omega
  subst hl
  exact ⟨hv,bx.refl _ _,by rw [hf.all hp];exact .id,λo ho=> .inl ho⟩
 |k+1,l,p,s,hk,hv,hp,hf=>by
  have ef:l<n:=by omega
  obtain ⟨v1,v2,hc,VZ⟩:=hv
  have kq:=hc
  obtain ⟨c1,c2,c3⟩:=hc
  unfold Ig
  by_cases hh:Pg s.2 (k+1) l p=true
  ·rw [Ab hh]
   exact ⟨⟨v1,v2,kq,VZ⟩,bx.refl _ _,(nu h1 h2 (k+1) l s hk kq p hp hf).1 hh,λo ho=> .inl ho⟩
  rw [Ai hh]
  generalize OX:s.1.getD l []++ [some p]=gs
  have dq:some p∈gs:=by rw [<-OX];simp
  have Yf: ∀o∈s.1.getD l [],o∈gs:= λo ho=>by rw [<-OX];exact Bk _ ho
  have hg:PG n l gs:= λo ho=>by
   rw [<-OX] at ho
   rcases Ay.1 ho with ho|ho
   ·exact c2.pg o ho
   ·rw [Ad] at ho;exact ⟨p,ho,hp,hf⟩
  have Am9:Xj n l gs (s.2.getD l []):=⟨c2.rl,c2.r0,λy t e=>⟨(c2.rt y t e).1,(c2.rt y t e).2.1,(c2.rt y t e).2.2.1,(c2.rt y t e).2.2.2.mono λg hg=>Yf _ hg⟩⟩
  obtain ⟨r1,r2,r3⟩:=FK ef h2 hg Am9
  generalize hR:Zm gs (s.2.getD l [])=R at r1 r2 r3
  have hS:RC n λg=>some g∈gs:=⟨⟨h1,h2⟩,λg gx=>by obtain ⟨g',e,h,_⟩:=hg _ gx;cases e;exact h⟩
  have s11: ∀i,((s.1.set l gs).getD i []=if i=l then gs else s.1.getD i [])/\(s.2.set l R).getD i []=if i=l then R else s.2.getD i []:= λi=>by
   rw [Yd,Yd]
   by_cases e:l=i
   ·subst e;rw [Ab ⟨rfl,by omega⟩,Ab rfl,Ab ⟨rfl,by omega⟩,Ab rfl];exact ⟨rfl,rfl⟩
   ·rw [Ai (λhh=>e hh.1),Ai (Hr e),Ai (λhh=>e hh.1),Ai (Hr e)];exact ⟨rfl,rfl⟩
  have YR: ∀i,l+1<=i->(s.1.set l gs).getD i []=s.1.getD i []/\(s.2.set l R).getD i []=s.2.getD i []:= λi hi=>by
   rw [(s11 i).1,(s11 i).2,Ai (by omega),Ai (by omega)];exact ⟨rfl,rfl⟩
  have iR:V n k (l+1) (s.1.set l gs,s.2.set l R):=⟨by simpa using v1,by simpa using v2,lP k (l+1) YR c1,sS k (l+1) YR VZ.1⟩
  have Ahh:bx l s (s.1.set l gs,s.2.set l R):=by
   refine ⟨by simp,by simp,λi hi=>?_,λi o ho=>?_,λi y t e=>?_,λi=>?_⟩
   ·rw [(s11 i).1,(s11 i).2,Ai (by omega),Ai (by omega)];exact ⟨rfl,rfl⟩
   ·rw [(s11 i).1]
    split
    ·rename_i hi;subst hi;exact Yf o ho
    ·exact ho
   ·rw [(s11 i).2]
    split
    ·rename_i hi;subst hi;exact r2 y t e
    ·exact e
   ·rw [(s11 i).2]
    split
    ·rename_i hi;subst hi;rw [r1.rl,c2.rl]
    ·rfl
  have hq: ∀q∈gD R gs,Pm n q/\Fx (l+1) q/\Gn n gs q:= λq hq=>by
   obtain ⟨y,t,g,t',e1,e2,e3,rfl⟩:=(ph hg r1 r3).1 hq
   obtain ⟨t1,t2,t3,t4⟩:=r1.rt _ _ e1
   obtain ⟨u1,u2,u3,u4⟩:=r1.rt _ _ e3
   obtain ⟨g',e,Xl,hgf⟩:=hg _ e2
   cases e
   exact ⟨(t1.comp Xl).comp u1.inv,Fx.div (t1.comp Xl) u1 (Fx.comp t1 Xl t2 hgf (by omega)) u2 ef (by rw [u3,Ml t1 Xl ef,t3]),dg.comp hS (.mul t4 e2) (dg.yY hS u4)⟩
  have fold: ∀(qs:List (List Int)) (s1:Gw×Gw),(∀q∈qs,Pm n q/\Fx (l+1) q)->V n k (l+1) s1->
    V n k (l+1) (qs.foldl (λs q=>Ig k (l+1) q s) s1)/\bx (l+1) s1 (qs.foldl (λs q=>Ig k (l+1) q s) s1)/\
     (∀q∈qs,Gn n ((qs.foldl (λs q=>Ig k (l+1) q s) s1).1.getD (l+1) []) q)/\ ∀o∈(qs.foldl (λs q=>Ig k (l+1) q s) s1).1.getD (l+1) [],o∈s1.1.getD (l+1) []\/ ∃q∈qs,o=some q:=by
   intro qs
   induction qs with
   |nil=>exact λs1 _ hv=>⟨hv,bx.refl _ _,(λq hq=>by cases hq),λo ho=>Or.inl ho⟩
   |cons q qs ih=>
    intro s1 hqs hv
    have ha:=yk h1 h2 k (l+1) q s1 (by omega) hv (hqs q (by simp)).1 (hqs q (by simp)).2
    obtain ⟨g1,g2,g3,g4⟩:=ih (Ig k (l+1) q s1) (λq' kW=>hqs q' (by simp [kW])) ha.v
    simp only [Df]
    refine ⟨g1,ha.grow.trans g2 (Ap _),λq' kW=>?_,λo ho=>?_⟩
    ·rcases Bg.1 kW with rfl|kW
     ·exact ha.Amx.mono λg hg=>g2.OS _ _ hg
     ·exact g3 q' kW
    ·rcases g4 o ho with h|⟨q',kW,h⟩
     ·rcases ha.gens o h with h|h
      ·exact .inl h
      ·exact .inr ⟨q,by simp,h⟩
     ·exact .inr ⟨q',by simp [kW],h⟩
  obtain ⟨f1,f2,f3,f4⟩:=fold (gD R gs) (s.1.set l gs,s.2.set l R) (λq h=>⟨(hq q h).1,(hq q h).2.1⟩) iR
  generalize (gD R gs).foldl (λs q=>Ig k (l+1) q s) (s.1.set l gs,s.2.set l R)=s' at f1 f2 f3 f4
  obtain ⟨w1,w2,w3,w4⟩:=f1
  have el1:s'.1.getD l []=gs:=by rw [(f2.low l (by omega)).1,(s11 l).1,Ab rfl]
  have el2:s'.2.getD l []=R:=by rw [(f2.low l (by omega)).2,(s11 l).2,Ab rfl]
  have XZ:=Ahh.trans f2 (by omega)
  have Art:Lvl n l gs R (λq=>Pg s'.2 k (l+1) q=true):=⟨hg,r1.rl,r1.r0,r1.rt,r3,λy t g t' e1 e2 e3=>by
   have hm:=(ph hg r1 r3).2 ⟨y,t,g,t',e1,e2,e3,rfl⟩
   exact (nu h1 h2 k (l+1) s' (by omega) w3 _ (hq _ hm).1 (hq _ hm).2.1).2 (f3 _ hm)⟩
  have Afg:qT n (k+1) l s':=⟨w3,by rw [el1,el2];exact Art,λg gx=>by
   rw [el1]
   rcases f4 _ gx with h|⟨q,kW,h⟩
   ·rw [(YR (l+1) (Ap _)).1] at h
    exact (c3 g h).mono λg hg=>Yf _ hg
   ·cases h;exact (hq _ kW).2.2⟩
  have gR:Gn n (s'.1.getD l []) p:=by rw [el1];exact dg.one hS dq
  refine ⟨⟨w1,w2,Afg,w4,?_⟩,XZ,gR,λo ho=>?_⟩
  ·have hold:=VZ.2
   obtain ⟨p1,p2⟩:=GC XZ.Aj1 XZ.Abe (k+1) l
   have Jl:mi s.2 (k+1) l≠mi s'.2 (k+1) l:= λe=>by
    have:=iP (k+1) l p (p2 e)
    rw [(nu h1 h2 (k+1) l s' hk Afg p hp hf).2 gR] at this
    exact hh this.symm
   rw [el1,<-OX,Au,Be]
   omega
  ·rw [el1,<-OX] at ho
   rcases Ay.1 ho with ho|ho
   ·exact .inl ho
   ·rw [Ad] at ho;exact .inr ho
theorem Aab {n l:Nat} {gs:List PO} {R:Row} (ef:l<n) (hg:PG n l gs) (r1:Xj n l gs R) (r3: ∀y t g,R.getD y none=some t->some g∈gs->R.getD (ap g y) none≠none): ∀q∈gD R gs,Pm n q/\Fx (l+1) q:=by
 intro q hq
 obtain ⟨y,t,g,t',e1,e2,e3,rfl⟩:=(ph hg r1 r3).1 hq
 obtain ⟨t1,t2,t3,t4⟩:=r1.rt _ _ e1
 obtain ⟨u1,u2,u3,u4⟩:=r1.rt _ _ e3
 obtain ⟨g',e,Xl,hgf⟩:=hg _ e2
 cases e
 exact ⟨(t1.comp Xl).comp u1.inv,Fx.div (t1.comp Xl) u1 (Fx.comp t1 Xl t2 hgf (by omega)) u2 ef (by rw [u3,Ml t1 Xl ef,t3])⟩
theorem V.lower {n k l:Nat} {s:Gw×Gw} (h:V n (k+1) l s) (gs:List PO) (R:Row):V n k (l+1) (s.1.set l gs,s.2.set l R):=by
 obtain ⟨v1,v2,hc,VZ⟩:=h
 have YR: ∀i,l+1<=i->(s.1.set l gs).getD i []=s.1.getD i []/\(s.2.set l R).getD i []=s.2.getD i []:= λi hi=>by
  rw [Yd,Yd,Ai (by omega),Ai (by omega)];exact ⟨rfl,rfl⟩
 exact ⟨by simpa using v1,by simpa using v2,lP k (l+1) YR hc.1,sS k (l+1) YR VZ.1⟩
theorem OO {n k l:Nat} (h1:1<=n) (h2:n<=20) (hk:l+k=n): ∀(qs:List (List Int)) (s1:Gw×Gw),(∀q∈qs,Pm n q/\Fx l q)->V n k l s1->
  V n k l (qs.foldl (λs q=>Ig k l q s) s1)/\bx l s1 (qs.foldl (λs q=>Ig k l q s) s1)
 | [],s1,_,hv=>⟨hv,bx.refl _ _⟩
 |q::qs,s1,hqs,hv=>by
  have ha:=yk h1 h2 k l q s1 hk hv (hqs q (by simp)).1 (hqs q (by simp)).2
  obtain ⟨g1,g2⟩:=OO h1 h2 hk qs (Ig k l q s1) (λq' kW=>hqs q' (by simp [kW])) ha.v
  exact ⟨g1,ha.grow.trans g2 (Ap _)⟩
theorem Aaf {n:Nat} {s:Gw×Gw} : ∀(k l:Nat),qT n k l s->mi s.2 k l<=n*k
 |0,_,_=>by simp [mi]
 |k+1,l,hc=>by
  have h1:=Aaf k (l+1) hc.1
  have h2:CO (s.2.getD l [])<=n:=by
   have:=hc.2.1.rl
   have h3:CO (s.2.getD l [])<=(s.2.getD l []).length:=List.countP_le_length
   omega
  simp only [mi]
  rw [Nat.mul_succ]
  omega
theorem Ad0 {n k l:Nat} {s:Gw×Gw} (h2:n<=20) (hk:l+(k+1)=n) (h:V n (k+1) l s):(s.1.getD l []).length<=400:=by
 have h3:=h.2.2.2.2
 have h4:=Aaf (k+1) l h.2.2.1
 have h5:n*(k+1)<=20*20:=Nat.mul_le_mul h2 (by omega)
 omega
theorem V.lvl {n k l:Nat} {s:Gw×Gw} (h:V n (k+1) l s):Lvl n l (s.1.getD l []) (s.2.getD l []) (λq=>Pg s.2 k (l+1) q=true):=h.2.2.1.2.1
theorem V.pg {n k l:Nat} {s:Gw×Gw} (h:V n (k+1) l s) {p:List Int} (hp:Pm n p) (hf:Fx l p):PG n l (s.1.getD l []++ [some p]):= λo ho=>by
 rcases Ay.1 ho with ho|ho
 ·exact h.lvl.pg o ho
 ·rw [Ad] at ho;exact ⟨p,ho,hp,hf⟩
theorem V.Ata {n k l:Nat} {s:Gw×Gw} (h:V n (k+1) l s) (p:List Int):Xj n l (s.1.getD l []++ [some p]) (s.2.getD l []):=
 ⟨h.lvl.rl,h.lvl.r0,λy t e=>⟨(h.lvl.rt y t e).1,(h.lvl.rt y t e).2.1,(h.lvl.rt y t e).2.2.1,(h.lvl.rt y t e).2.2.2.mono λ_ hg=>Bk _ hg⟩⟩
theorem we {α:Type} (xs:List (List α)) (i:Nat) (h:i<xs.length):xs.set i (xs.getD i [])=xs:=by
 refine eN (by simp) λj h1 h2=>?_
 rw [List.getElem_set]
 split
 ·rename_i e;subst e;rw [Aj,Ac h];rfl
 ·rfl
theorem kO {α:Type} (xs:List (List α)) (i:Nat) (h:i<xs.length) (r:List α):(xs.set i r).getD i []=r:=by
 rw [Yd,Ab ⟨rfl,h⟩]
noncomputable abbrev Yt:MSpec:=jZ [none] [(false, .Eh tLO)] false [none] [.row tI 2] (λx=>List.length x.1<=20) (λx=>((Vl x.1,()),()))
noncomputable abbrev Yn:Spec:=Hj (.pair tL (.pair tL .unit)) tO false true (λx=>(0<x.1.length/\x.1.length<=20)/\Ob x.2.1.length x.1) (λx=>some (Af x.1 x.2.1))
noncomputable abbrev fP:Spec:=Hj (.pair tL (.pair tL .unit)) tL false false (λx=>x.1.length<=20/\Ob x.2.1.length x.1) (λx=>Af x.1 x.2.1)
noncomputable abbrev jn:Spec:=Hj (.pair tI .unit) tL false true (λx=>0<=x.1/\x.1<=20) (λx=>upto x.1.toNat)
noncomputable abbrev cU:Spec:=Hj (.pair tI .unit) tO false true (λx=>1<=x.1/\x.1<=20) (λx=>some (upto x.1.toNat))
abbrev teG:TypeId:=27
structure sf (N L:Nat) (n:Int) (G T:Gw) (l:Int) (p:List Int):Prop where
 n1:1<=N
 n2:N<=20
 en:n=N
 el:l=L
 le:L<=N
 v:V N (N-L) L (G,T)
 pm:Pm N p
 fx:Fx L p
noncomputable abbrev nW:Spec:=Hj (.pair (.ptr QR) (.pair tI (.pair tL .unit))) .bool false true (λx=> ∃N L,sf N L x.1.1 x.1.2.1 x.1.2.2.1 x.2.1 x.2.2.1) (λx=>Pg x.1.2.2.1 (x.1.1-x.2.1).toNat x.2.1.toNat x.2.2.1)
noncomputable abbrev Ag9:MSpec:= {ptr:=some (165,3),Jj:= [none,none],ins:= [(false, .Eh tI),(false, .Bn tO teG true),(false, .Bn tO teG true),(false, .Eh tI),(false, .Eh tO)],Ib:=false,Hv:= [],outs:= [.Eh tI, .Bn tO teG false, .Bn tO teG false],fn:= λ_=>none,keeps:= [(1,1),(2,2)],Ft:= λx=>x.2.2.2.1.toNat}
noncomputable abbrev Wt (m:Nat):MSpec:=gY Ag9 (λx=>(∃N L q,x.2.2.2.2.1=some q/\sf N L x.1 x.2.1 x.2.2.1 x.2.2.2.1 q)/\(x.1-x.2.2.2.1).toNat<m)
 (λx=>((x.1,(Ig (x.1-x.2.2.2.1).toNat x.2.2.2.1.toNat (x.2.2.2.2.1.getD []) (x.2.1,x.2.2.1)).1,(Ig (x.1-x.2.2.2.1).toNat x.2.2.2.1.toNat (x.2.2.2.2.1.getD []) (x.2.1,x.2.2.1)).2,()),()))
theorem HK (n:Int) (P:List Int->Prop):(((0:Int)<=n/\n<(↑Dj:Int)+(1:Int))/\n=n/\0=0/\(List.replicate n.toNat (Int.ofNat (nat_lit 0))).length=(List.replicate n.toNat (Int.ofNat (nat_lit 0))).length/\Di (λ(v2:Int×List Int×PUnit) (k3:Int×List Int×PUnit->Prop)=>Br (decide (v2.1<(↑(List.replicate n.toNat (Int.ofNat (nat_lit 0))).length:Int))) (((0:Int)<=v2.1/\v2.1<(↑v2.2.1.length:Int))/\0+v2.1.toNat<v2.2.1.length/\0=0/\v2.2.1.length=(v2.2.1.set (0+v2.1.toNat) v2.1).length/\k3 (IntKind.i64.wrap (v2.1+(1:Int)),v2.2.1.set (0+v2.1.toNat) v2.1,())) (P (List.take v2.2.1.length (List.drop 0 v2.2.1)))) ((0:Int),List.replicate n.toNat (Int.ofNat (nat_lit 0)),PUnit.unit))=fnW Gr (look []) jn Tryz.f133 (n,()) P:=by kernel_rfl
theorem VN (row:List (Option (List Int))) (P:(List Int×Unit)×Unit->Prop):(0=0/\0=([]:List Int).length/\Di (λ(v2:Int×List Int×PUnit) (k3:Int×List Int×PUnit->Prop)=>Br (decide (v2.1<(↑row.length:Int))) (∃(y4:Option (List Int)),idx row v2.1=some y4/\Br (!y4.isNone) (0=0/\v2.2.1.length=v2.2.1.length/\v2.2.1.length+(List.take 1 (List.drop 0 [v2.1])).length<=Dj/\0=0/\(v2.2.1++List.take 1 (List.drop 0 [v2.1])).length=(v2.2.1++List.take 1 (List.drop 0 [v2.1])).length/\k3 (IntKind.i64.wrap (v2.1+(1:Int)),v2.2.1++List.take 1 (List.drop 0 [v2.1]),())) (0=0/\v2.2.1.length=v2.2.1.length/\k3 (IntKind.i64.wrap (v2.1+(1:Int)),v2.2.1,()))) (P ((List.take v2.2.1.length (List.drop 0 v2.2.1),()),()))) ((0:Int),[],PUnit.unit))=fnMW cz (look []) Yt Tryz.f178 (row,()) P:=by kernel_rfl
theorem Ao5 (c:Int×List (List (Option (List Int)))×List (List (Option (List Int)))×Unit) (l:Int) (p:List Int) (P:Bool->Prop):(Di (λ(v4:List Int×Int×PUnit) (k5:List Int×Int×PUnit->Prop)=>Br (decide (v4.2.1<c.1)) (∃(y6:List (Option (List Int))),idx c.2.2.1 v4.2.1=some y6/\ ∃(y7:Int),idx v4.1 v4.2.1=some y7/\ ∃(y8:Option (List Int)),idx y6 y7=some y8/\Br y8.isNone (P false) (∃(y9:List Int),Hw.fn (y8.getD [],())=some y9/\ ∃(Jw:List Int),fP.fn (v4.1,y9,())=some Jw/\k5 (Jw,IntKind.i64.wrap (v4.2.1+(1:Int)),()))) (P true)) (p,l,PUnit.unit))=fnW cz (look [(58,Hw),(134,fP)]) nW Tryz.f158 (c,l,p,()) P:=by kernel_rfl
theorem Sound.loose {P:Program} {f:FuncId} {arg res:Ty} {pre:arg.den->Prop} {val:arg.den->res.den} (h:Sound P f (Go.Proofs.YtkkdpknjohcekaaGreat.Hj arg res false true pre val)):Sound P f (Go.Proofs.YtkkdpknjohcekaaGreat.Hj arg res false false pre val):=
 ⟨h.enter,λw S vs x y h1 h2 h3=>Calls.mono (h.calls w S vs x y h1 h2 h3) λe' w' hr=>by
  obtain ⟨v,g1,g2,g3⟩:=hr
  exact ⟨v,g1,g2,Ct.Jr (S:= λb=>S b\/(true=true/\b<w.heap.size)) g3 λk _ hk=>hk.elim .inl λhh=>absurd (show false=true from hh.1) (by simp)⟩⟩
theorem uz:Sound Tryz.prog 134 fP:=Sound.loose Wx
theorem uC:Sound Tryz.prog 134 Yn:=Sound.toO Wx λx h=>⟨⟨h.1.2,h.2⟩,λe=>by
 have:=Sb x.1 x.2.1
 rw [e] at this
 have:=h.1.1
 simp only [Eo] at*
 omega⟩
theorem FN (n:Int) (h:0<=n/\n<=20):fnW Gr (look []) jn Tryz.f133 (n,()) (λ(z:List Int)=>z=upto n.toNat):=by
 refine Eq.mp (HK n _) ⟨⟨by omega,by show n<(4294967296:Int)+1;omega⟩,rfl,rfl,rfl,?_⟩
 refine Bw n.toNat (λv=>v.1) (λj v=>v.2.1.length=n.toNat/\v.2.1.take j=upto j) rfl ⟨by simp,by simp [upto]⟩ ?_
 rintro j ⟨i,ys,⟨⟩⟩ K hj hi ⟨h1,h2⟩ hK
 dsimp only at hi h1 h2⊢
 subst hi
 rw [Ja]
 simp only [Ar,Cb]
 refine Br.dec (λhl=>⟨⟨by omega,by omega⟩,by omega,trivial,by rw [Dg],?_⟩) λhl=>?_
 ·rw [Bz (by omega)]
  refine hK (by omega) _ rfl ⟨by rw [Dg];exact h1,?_⟩
  rw [Ge,List.take_set_of_le (by omega),h2,List.getElem?_set_self (by omega),eK]
  rfl
 ·have:j=ys.length:=by omega
  subst this
  rw [Bc] at h2
  rw [Fy,Bc,h2,h1]
theorem rz:Sound Tryz.prog 133 jn:=
 Sound.Hj Ee Bo mixed Tryz.func133 (by kernel_rfl) (by kernel_rfl) λx h=>FN x.1 h
theorem Ael {n:Int} (h:1<=n/\n<=20):(0<=n/\n<=20)/\upto n.toNat≠ []:=⟨by omega,λe=>by
 have:=Gz List.length e
 simp [upto] at this
 omega⟩
theorem ry:Sound Tryz.prog 133 cU:=Sound.toO rz λ_ h=>Ael h
theorem FJ {row:Row} {j:Nat} :(upto (j+1)).filter (λy=>(row.getD y.toNat none).isSome)=(upto j).filter (λy=>(row.getD y.toNat none).isSome)++if (row.getD j none).isSome=true then [(j:Int)] else []:=by
 rw [eK,List.filter_append]
 congr 1
 simp only [List.filter_cons,List.filter_nil,Ar]
theorem TM (row:List (Option (List Int))) (h:List.length row<=20):fnMW cz (look []) Yt Tryz.f178 (row,()) (λ(z:(List Int×Unit)×Unit)=>z=((Vl row,()),())):=by
 refine Eq.mp (VN row _) ⟨rfl,rfl,?_⟩
 refine Bw row.length (λv=>v.1) (λj v=>v.2.1=(upto j).filter (λy=>(row.getD y.toNat none).isSome)) rfl rfl ?_
 rintro j ⟨i,ys,⟨⟩⟩ K hj hi h1 hK
 dsimp only at hi h1⊢
 subst hi
 refine Br.dec (λhl=>?_) λhl=>?_
 ·have hl:j<row.length:=by omega
  have hlen:ys.length<=j:=by rw [h1];refine Lg (List.length_filter_le _ _) (by simp [upto])
  have hg:row.getD j none=row[j]:=by rw [Aj,Ac hl];rfl
  refine ⟨_,Cj hl,Br.of (λhb=>⟨rfl,rfl,?_,rfl,rfl,?_⟩) λhb=>⟨rfl,rfl,?_⟩⟩
  ·show ys.length+1<=4294967296
   omega
  ·rw [Bz (by omega)]
   refine hK hl _ rfl ?_
   show ys++ [(j:Int)]=_
   rw [FJ,hg,h1,Ab (by cases e:row[j] with
    |none=>rw [e] at hb;simp at hb
    |some t=>rfl)]
  ·rw [Bz (by omega)]
   refine hK hl _ rfl ?_
   show ys=_
   rw [FJ,hg,h1,Ai (by cases e:row[j] with
    |none=>simp
    |some t=>rw [e] at hb;simp at hb),List.append_nil]
 ·have:j=row.length:=by omega
  subst this
  rw [Fy,Bc,h1]
  rfl
theorem wo:Cl Tryz.prog 178 Yt:=
 Cl.jZ uU Bo mixed Tryz.func178 (by kernel_rfl) (by kernel_rfl) λx h=>TM x.1 h
theorem CQ {n:Nat} {s:Gw×Gw} : ∀(k l:Nat),qT n k l s-> ∀i,l<=i->i<l+k->Lvl n i (s.1.getD i []) (s.2.getD i []) (λq=>Pg s.2 (l+k-i-1) (i+1) q=true)
 |0,_,_,i,h1,h2=>by omega
 |k+1,l,hc,i,h1,h2=>by
  obtain ⟨c1,c2,_⟩:=hc
  by_cases e:i=l
  ·subst e
   rw [show i+(k+1)-i-1=k by omega]
   exact c2
  ·have:=CQ k (l+1) c1 i (by omega) (by omega)
   rwa [show l+1+k-i-1=l+(k+1)-i-1 by omega] at this
theorem Af2 {α:Type} {xs:List (List α)} {i:Nat} (h:i<xs.length):xs.getD i []=xs[i]:=by
 rw [Aj,Ac h];rfl
theorem XL {α:Type} {xs:List (Option α)} {i:Nat} (h:i<xs.length):xs.getD i none=xs[i]:=by
 rw [Aj,Ac h];rfl
theorem Pm.row {n:Nat} {p:List Int} (h:Pm n p):Ob n p:=by
 have:=h.2.row
 rwa [h.1] at this
theorem Ang (c:Int×List (List (Option (List Int)))×List (List (Option (List Int)))×Unit) (l:Int) (p:List Int) (h: ∃N L,sf N L c.1 c.2.1 c.2.2.1 l p):
  fnW cz (look [(58,Hw),(134,fP)]) nW Tryz.f158 (c,l,p,()) (λ(z:Bool)=>z=Pg c.2.2.1 (c.1-l).toNat l.toNat p):=by
 obtain ⟨n,G,T,⟨⟩⟩:=c
 obtain ⟨N,L,h⟩:=h
 obtain ⟨n1,n2,en,el,hle,v,pm,fx⟩:=h
 dsimp only at en el v⊢
 subst en el
 refine Eq.mp (Ao5 ((N:Int),G,T,()) (L:Int) p _) ?_
 obtain ⟨v1,v2,v3,v4⟩:=v
 dsimp only at v1 v2
 refine ⟨λv=> ∃i:Nat,L<=i/\i<=N/\v.2.1=i/\Pm N v.1/\Fx i v.1/\Pg T (N-i) i v.1=Pg T (N-L) L p,λv=>N-v.2.1.toNat,⟨L,Ap _,hle,rfl,pm,fx,rfl⟩,?_⟩
 rintro ⟨p',i',⟨⟩⟩ ⟨i,h1,h2,h3,h4,h5,h6⟩
 dsimp only at h3 h4 h5 h6⊢
 subst h3
 rw [show (((N:Int)-(L:Int)).toNat)=N-L by omega,show ((L:Int)).toNat=L by omega,<-h6]
 refine Br.dec (λhl=>?_) λhl=>?_
 ·have hl:i<N:=by omega
  have ct:=CQ (N-L) L v3 i h1 (by omega)
  obtain ⟨a1,a2⟩:=h4.aj hl
  have hT:i<T.length:=by omega
  have hlen:T[i].length=N:=by have:=ct.rl;dsimp only at this;rwa [Af2 hT] at this
  refine ⟨_,Cj hT,_,Cj (by rw [h4.1];exact hl),?_⟩
  have e1:p'[i]'(by rw [h4.1];exact hl)=(ap p' i:Int):=by rw [<-a1,Kz]
  rw [e1]
  refine ⟨_,Cj (by omega),?_⟩
  have e2:N-i=(N-i-1)+1:=by omega
  have e3:(T.getD i []).getD (Ih p' (i:Int)).toNat none=T[i][ap p' i]'(by omega):=by
   rw [Af2 hT];exact XL (by show ap p' i<_;omega)
  rw [e2]
  simp only [Pg,e3]
  refine Br.of (λhb=>?_) λhb=>?_
  ·cases e:T[i][ap p' i]'(by omega) with
   |none=>rfl
   |some t=>rw [e] at hb;simp at hb
  ·cases e:T[i][ap p' i]'(by omega) with
   |none=>rw [e] at hb;simp at hb
   |some t=>
    have ht:(T.getD i []).getD (ap p' i) none=some t:=by rw [<-e];exact e3
    obtain ⟨t1,t2,t3,t4⟩:=ct.rt _ _ ht
    simp only [Dd]
    refine ⟨_,Ab ⟨by show t.length<=20;rw [t1.1];exact n2,t1.2.row⟩,_,Ab ⟨by show p'.length<=20;rw [h4.1];exact n2,by show Ob (Bt t).length p';rw [rX,t1.1];exact h4.row⟩,⟨i+1,by omega,by omega,Bz (by omega),h4.comp t1.inv,Fx.div h4 t1 h5 t2 hl t3,?_⟩,?_⟩
    ·rw [show N-(i+1)=N-i-1 by omega]
    ·show N-(IntKind.i64.wrap ((i:Int)+1)).toNat<N-((i:Int)).toNat
     rw [Bz (by omega)]
     omega
 ·rw [show N-i=0 by omega]
  rfl
theorem xW:Sound Tryz.prog 158 nW:=
 Sound.Hj uU (Ba Wy (Ba uz Bo)) mixed Tryz.func158 (by kernel_rfl) (by kernel_rfl) λx h=>Ang x.1 x.2.1 x.2.2.1 h
abbrev AM:Type:=Nat×Nat×Int×List (List (Option (List Int)))×Nat×List (List (Option (List Int)))×Nat×List Int×Int×PUnit
abbrev Ab1:Type:=Nat×Int×List (List (Option (List Int)))×Nat×List (List (Option (List Int)))×Nat×List Int×Int×PUnit
abbrev Ab4:Type:=Nat×List (List (Option (List Int)))×Nat×List (List (Option (List Int)))×Nat×List Int×Int×PUnit
abbrev Lx (G:List (List (Option (List Int)))) (l:Int) (p:Option (List Int)) (T:List (List (Option (List Int)))) (y7:Bool) (n:Int):Prop:=0=0/\(G.getD (0+l.toNat) []).length=(G.getD (0+l.toNat) []).length/\(G.getD (0+l.toNat) []).length+(List.take 1 (List.drop 0 [p])).length<=Dj/\((0:Int)<=l/\l<(↑G.length:Int))/\0=0/\(G.getD (0+l.toNat) []++List.take 1 (List.drop 0 [p])).length=(G.getD (0+l.toNat) []++List.take 1 (List.drop 0 [p])).length/\0+l.toNat=0+l.toNat/\ [(0,G.length),(0,G.length),(0,G.length),(0,T.length)]= [(0,G.length),(0,G.length),(0,G.length),(0,T.length)]/\(l,p,l,p,y7,l,l,0+l.toNat,p,List.take 1 (List.drop 0 [p]),0+l.toNat,G.set (0+l.toNat) (G.getD (0+l.toNat) []++List.take 1 (List.drop 0 [p])),min G.length (0+l.toNat),T,T.length,n,())=(l,p,l,p,y7,l,l,0+l.toNat,p,List.take 1 (List.drop 0 [p]),0+l.toNat,G.set (0+l.toNat) (G.getD (0+l.toNat) []++List.take 1 (List.drop 0 [p])),min G.length (0+l.toNat),T,T.length,n,PUnit.unit)
theorem Ao1 {m:Nat} (n:Int) (G T:List (List (Option (List Int)))) (l:Int) (p:Option (List Int)) (P:(Int×List (List (Option (List Int)))×List (List (Option (List Int)))×Unit)×Unit->Prop):(∃(y7:Bool),nW.fn ((n,List.take G.length (List.drop 0 G),List.take T.length (List.drop 0 T),()),l,p.getD [],())=some y7/\Br y7 ((0=0/\G.length=G.length)/\(0=0/\T.length=T.length)/\(Wt (m+1)).Ft (n,G,T,l,p,())<=G.length/\(Wt (m+1)).Ft (n,G,T,l,p,())<=T.length/\P ((n,G,T,()),())) (((0:Int)<=l/\l<(↑G.length:Int))/\0=0/\(G.getD (0+l.toNat) []).length=(G.getD (0+l.toNat) []).length/\(G.getD (0+l.toNat) []).length+(List.take 1 (List.drop 0 [p])).length<=Dj/\((0:Int)<=l/\l<(↑G.length:Int))/\0=0/\(G.getD (0+l.toNat) []++List.take 1 (List.drop 0 [p])).length=(G.getD (0+l.toNat) []++List.take 1 (List.drop 0 [p])).length/\0+l.toNat=0+l.toNat/\(((0:Int)<=l/\l<(↑T.length:Int))/\ ∃(y8:(List Int×PUnit)×PUnit),Yt.fn (T.getD (0+l.toNat) [],())=some y8/\0=0/\(List.take y8.1.1.length (List.drop 0 y8.1.1)).length=(List.take y8.1.1.length (List.drop 0 y8.1.1)).length/\0=0/\G.length=(G.set (0+l.toNat) (G.getD (0+l.toNat) []++List.take 1 (List.drop 0 [p]))).length/\0=0/\T.length=T.length/\Di (λ(v9:Ab4) (k10:Ab4->Prop)=>Br (decide ((↑v9.2.2.2.2.2.1.length:Int)>(0:Int))) (((0:Int)<=l/\l<(↑v9.2.1.length:Int))/\0=0/\(List.take v9.2.2.2.2.2.1.length (List.drop 0 v9.2.2.2.2.2.1)).length=(List.take v9.2.2.2.2.2.1.length (List.drop 0 v9.2.2.2.2.2.1)).length/\0=0/\v9.2.1.length=v9.2.1.length/\0=0/\v9.2.2.2.1.length=v9.2.2.2.1.length/\Di (λ(v11:AM) (k12:AM->Prop)=>Br (decide (v11.2.2.1<(↑(v9.2.1.getD (0+l.toNat) []).length:Int))) (((0:Int)<=v11.2.2.1/\v11.2.2.1<(↑(v11.2.2.2.1.getD v11.2.1 []).length:Int))/\((0:Int)<=(0:Int)/\(0:Int)<(↑v11.2.2.2.2.2.2.2.1.length:Int))/\ ∃(Hl:Int),v11.2.2.2.2.2.2.2.1[0+Int.toNat (0:Int)]?=some Hl/\ ∃(Iu:Int),idx (((v11.2.2.2.1.getD v11.2.1 []).getD v11.2.2.1.toNat (none:Option (List Int))).getD []) Hl=some Iu/\((0:Int)<=Iu/\Iu<(↑(v11.2.2.2.2.2.1.getD v11.1 []).length:Int))/\Br ((v11.2.2.2.2.2.1.getD v11.1 []).getD Iu.toNat (none:Option (List Int))).isNone (((0:Int)<=(0:Int)/\(0:Int)<(↑v11.2.2.2.2.2.2.2.1.length:Int))/\ ∃(Io:Int),v11.2.2.2.2.2.2.2.1[0+Int.toNat (0:Int)]?=some Io/\((0:Int)<=Io/\Io<(↑(v11.2.2.2.2.2.1.getD v11.1 []).length:Int))/\ ∃(Ha:Option (List Int)),Yn.fn (((v11.2.2.2.2.2.1.getD v11.1 []).getD Io.toNat (none:Option (List Int))).getD [],((v11.2.2.2.1.getD v11.2.1 []).getD v11.2.2.1.toNat (none:Option (List Int))).getD [],())=some Ha/\((0:Int)<=Iu/\Iu<(↑(v11.2.2.2.2.2.1.getD v11.1 []).length:Int))/\0=0/\v11.2.2.2.2.2.2.2.1.length=v11.2.2.2.2.2.2.2.1.length/\v11.2.2.2.2.2.2.2.1.length+(List.take 1 (List.drop 0 [Iu])).length<=Dj/\0=0/\(List.take (v11.2.2.2.2.2.2.2.1++List.take 1 (List.drop 0 [Iu])).length (List.drop 0 (v11.2.2.2.2.2.2.2.1++List.take 1 (List.drop 0 [Iu])))).length=(List.take (v11.2.2.2.2.2.2.2.1++List.take 1 (List.drop 0 [Iu])).length (List.drop 0 (v11.2.2.2.2.2.2.2.1++List.take 1 (List.drop 0 [Iu])))).length/\0=0/\v11.2.2.2.1.length=v11.2.2.2.1.length/\0=0/\v11.2.2.2.2.2.1.length=(v11.2.2.2.2.2.1.set v11.1 ((v11.2.2.2.2.2.1.getD v11.1 []).set Iu.toNat Ha)).length/\k12 (v11.1,v11.2.1,IntKind.i64.wrap (v11.2.2.1+(1:Int)),v11.2.2.2.1,v11.2.2.2.2.1,v11.2.2.2.2.2.1.set v11.1 ((v11.2.2.2.2.2.1.getD v11.1 []).set Iu.toNat Ha),v11.2.2.2.2.2.2.1,List.take (v11.2.2.2.2.2.2.2.1++List.take 1 (List.drop 0 [Iu])).length (List.drop 0 (v11.2.2.2.2.2.2.2.1++List.take 1 (List.drop 0 [Iu]))),v11.2.2.2.2.2.2.2.2.1,())) (0=0/\(List.take v11.2.2.2.2.2.2.2.1.length (List.drop 0 v11.2.2.2.2.2.2.2.1)).length=(List.take v11.2.2.2.2.2.2.2.1.length (List.drop 0 v11.2.2.2.2.2.2.2.1)).length/\0=0/\v11.2.2.2.1.length=v11.2.2.2.1.length/\0=0/\v11.2.2.2.2.2.1.length=v11.2.2.2.2.2.1.length/\k12 (v11.1,v11.2.1,IntKind.i64.wrap (v11.2.2.1+(1:Int)),v11.2.2.2.1,v11.2.2.2.2.1,v11.2.2.2.2.2.1,v11.2.2.2.2.2.2.1,List.take v11.2.2.2.2.2.2.2.1.length (List.drop 0 v11.2.2.2.2.2.2.2.1),v11.2.2.2.2.2.2.2.2.1,()))) (((0:Int)<=(1:Int)/\(1:Int)<=(↑v11.2.2.2.2.2.2.2.1.length:Int)/\(↑v11.2.2.2.2.2.2.2.1.length:Int)<=(↑v11.2.2.2.2.2.2.2.1.length:Int))/\0=0/\(List.take ((↑v11.2.2.2.2.2.2.2.1.length:Int).toNat-Int.toNat (1:Int)) (List.drop (0+Int.toNat (1:Int)) v11.2.2.2.2.2.2.2.1)).length=(List.take ((↑v11.2.2.2.2.2.2.2.1.length:Int).toNat-Int.toNat (1:Int)) (List.drop (0+Int.toNat (1:Int)) v11.2.2.2.2.2.2.2.1)).length/\0=0/\v11.2.2.2.1.length=v11.2.2.2.1.length/\0=0/\v11.2.2.2.2.2.1.length=v11.2.2.2.2.2.1.length/\k10 (v11.1,v11.2.2.2.1,v11.2.2.2.2.1,v11.2.2.2.2.2.1,v11.2.2.2.2.2.2.1,List.take ((↑v11.2.2.2.2.2.2.2.1.length:Int).toNat-Int.toNat (1:Int)) (List.drop (0+Int.toNat (1:Int)) v11.2.2.2.2.2.2.2.1),v11.2.2.2.2.2.2.2.2.1,()))) (v9.1,0+l.toNat,(0:Int),v9.2.1,v9.2.2.1,v9.2.2.2.1,v9.2.2.2.2.1,List.take v9.2.2.2.2.2.1.length (List.drop 0 v9.2.2.2.2.2.1),v9.2.2.2.2.2.2.1,PUnit.unit)) (∃(Ix:(List Int×PUnit)×PUnit),Yt.fn (v9.2.2.2.1.getD v9.1 [],())=some Ix/\0=0/\Ix.1.1.length=Ix.1.1.length/\0=0/\v9.2.1.length=v9.2.1.length/\0=0/\v9.2.2.2.1.length=v9.2.2.2.1.length/\Di (λ(Ou:Ab1) (k13:Ab1->Prop)=>Br (decide (Ou.2.1<(↑Ix.1.1.length:Int))) (((0:Int)<=Ou.2.1/\Ou.2.1<(↑Ou.2.2.2.2.2.2.1.length:Int))/\ ∃(Iu:Int),Ou.2.2.2.2.2.2.1[0+Ou.2.1.toNat]?=some Iu/\((0:Int)<=l/\l<(↑Ou.2.2.1.length:Int))/\0=0/\Ou.2.2.2.2.2.2.1.length=Ou.2.2.2.2.2.2.1.length/\0=0/\Ou.2.2.1.length=Ou.2.2.1.length/\0=0/\Ou.2.2.2.2.1.length=Ou.2.2.2.2.1.length/\Di (λ(Rv:AM) (k16:AM->Prop)=>Br (decide (Rv.2.2.1<(↑(Ou.2.2.1.getD (0+l.toNat) []).length:Int))) (((0:Int)<=Rv.2.2.1/\Rv.2.2.1<(↑(Rv.2.2.2.1.getD Rv.2.1 []).length:Int))/\((0:Int)<=Iu/\Iu<(↑(Rv.2.2.2.2.2.1.getD Rv.1 []).length:Int))/\ ∃(Iy:Option (List Int)),Yn.fn (((Rv.2.2.2.2.2.1.getD Rv.1 []).getD Iu.toNat (none:Option (List Int))).getD [],((Rv.2.2.2.1.getD Rv.2.1 []).getD Rv.2.2.1.toNat (none:Option (List Int))).getD [],())=some Iy/\ ∃(IC:Int),idx (((Rv.2.2.2.1.getD Rv.2.1 []).getD Rv.2.2.1.toNat (none:Option (List Int))).getD []) Iu=some IC/\((0:Int)<=IC/\IC<(↑(Rv.2.2.2.2.2.1.getD Rv.1 []).length:Int))/\ ∃(BM:List Int),Hw.fn (((Rv.2.2.2.2.2.1.getD Rv.1 []).getD IC.toNat (none:Option (List Int))).getD [],())=some BM/\ ∃(mH:Option (List Int)),Yn.fn (Iy.getD [],BM,())=some mH/\0=0/\Rv.2.2.2.1.length=Rv.2.2.2.1.length/\0=0/\Rv.2.2.2.2.2.1.length=Rv.2.2.2.2.2.1.length/\ ∃(se:(Int×List (List (Option (List Int)))×List (List (Option (List Int)))×PUnit)×PUnit),(Wt m).fn (Rv.2.2.2.2.2.2.2.2.1,Rv.2.2.2.1,Rv.2.2.2.2.2.1,IntKind.i64.wrap (l+(1:Int)),mH,())=some se/\(Rv.1<(Wt m).Ft (Rv.2.2.2.2.2.2.2.2.1,Rv.2.2.2.1,Rv.2.2.2.2.2.1,IntKind.i64.wrap (l+(1:Int)),mH,())/\Rv.1<(List.length se.1.2.2.1))/\(Rv.2.1<(Wt m).Ft (Rv.2.2.2.2.2.2.2.2.1,Rv.2.2.2.1,Rv.2.2.2.2.2.1,IntKind.i64.wrap (l+(1:Int)),mH,())/\Rv.2.1<(List.length se.1.2.1))/\(Rv.1<(Wt m).Ft (Rv.2.2.2.2.2.2.2.2.1,Rv.2.2.2.1,Rv.2.2.2.2.2.1,IntKind.i64.wrap (l+(1:Int)),mH,())/\Rv.1<(List.length se.1.2.2.1))/\(Rv.1<(Wt m).Ft (Rv.2.2.2.2.2.2.2.2.1,Rv.2.2.2.1,Rv.2.2.2.2.2.1,IntKind.i64.wrap (l+(1:Int)),mH,())/\Rv.1<(List.length se.1.2.2.1))/\0=0/\Rv.2.2.2.2.2.2.2.1.length=Rv.2.2.2.2.2.2.2.1.length/\0=0/\se.1.2.1.length=se.1.2.1.length/\0=0/\se.1.2.2.1.length=se.1.2.2.1.length/\k16 (Rv.1,Rv.2.1,IntKind.i64.wrap (Rv.2.2.1+(1:Int)),se.1.2.1,min Rv.2.2.2.2.1 ((Wt m).Ft (Rv.2.2.2.2.2.2.2.2.1,Rv.2.2.2.1,Rv.2.2.2.2.2.1,IntKind.i64.wrap (l+(1:Int)),mH,())),se.1.2.2.1,min Rv.2.2.2.2.2.2.1 ((Wt m).Ft (Rv.2.2.2.2.2.2.2.2.1,Rv.2.2.2.1,Rv.2.2.2.2.2.1,IntKind.i64.wrap (l+(1:Int)),mH,())),Rv.2.2.2.2.2.2.2.1,se.1.1,())) (0=0/\Rv.2.2.2.2.2.2.2.1.length=Rv.2.2.2.2.2.2.2.1.length/\0=0/\Rv.2.2.2.1.length=Rv.2.2.2.1.length/\0=0/\Rv.2.2.2.2.2.1.length=Rv.2.2.2.2.2.1.length/\k13 (Rv.1,IntKind.i64.wrap (Ou.2.1+(1:Int)),Rv.2.2.2.1,Rv.2.2.2.2.1,Rv.2.2.2.2.2.1,Rv.2.2.2.2.2.2.1,Rv.2.2.2.2.2.2.2.1,Rv.2.2.2.2.2.2.2.2.1,()))) (Ou.1,0+l.toNat,(0:Int),Ou.2.2.1,Ou.2.2.2.1,Ou.2.2.2.2.1,Ou.2.2.2.2.2.1,Ou.2.2.2.2.2.2.1,Ou.2.2.2.2.2.2.2.1,PUnit.unit)) ((0=0/\Ou.2.2.1.length=Ou.2.2.1.length)/\(0=0/\Ou.2.2.2.2.1.length=Ou.2.2.2.2.1.length)/\(Wt (m+1)).Ft (n,G,T,l,p,())<=Ou.2.2.2.1/\(Wt (m+1)).Ft (n,G,T,l,p,())<=Ou.2.2.2.2.2.1/\P ((Ou.2.2.2.2.2.2.2.1,Ou.2.2.1,Ou.2.2.2.2.1,()),()))) (v9.1,(0:Int),v9.2.1,v9.2.2.1,v9.2.2.2.1,v9.2.2.2.2.1,Ix.1.1,v9.2.2.2.2.2.2.1,PUnit.unit))) (0+l.toNat,G.set (0+l.toNat) (G.getD (0+l.toNat) []++List.take 1 (List.drop 0 [p])),min G.length (0+l.toNat),T,T.length,List.take y8.1.1.length (List.drop 0 y8.1.1),n,PUnit.unit))/\(((((0:Int)<=l/\l<(↑G.length:Int))/\((Lx G l p T y7 n))/\(Lx G l p T y7 n))/\((0:Int)<=l/\l<(↑G.length:Int))/\(Lx G l p T y7 n))/\((0:Int)<=l/\l<(↑G.length:Int))/\(Lx G l p T y7 n))/\(((((0:Int)<=l/\l<(↑G.length:Int))/\((Lx G l p T y7 n))/\(Lx G l p T y7 n))/\((0:Int)<=l/\l<(↑G.length:Int))/\(Lx G l p T y7 n))/\(((0:Int)<=l/\l<(↑G.length:Int))/\(((Lx G l p T y7 n))/\(Lx G l p T y7 n))/\(((Lx G l p T y7 n))/\((Lx G l p T y7 n))/\(Lx G l p T y7 n))/\((Lx G l p T y7 n))/\((Lx G l p T y7 n))/\(Lx G l p T y7 n))/\(((0:Int)<=l/\l<(↑G.length:Int))/\(Lx G l p T y7 n))/\((0:Int)<=l/\l<(↑G.length:Int))/\((Lx G l p T y7 n))/\((Lx G l p T y7 n))/\(Lx G l p T y7 n))/\(((0:Int)<=l/\l<(↑G.length:Int))/\(Lx G l p T y7 n))/\(((0:Int)<=l/\l<(↑G.length:Int))/\(Lx G l p T y7 n))/\((0:Int)<=l/\l<(↑G.length:Int))/\((Lx G l p T y7 n))/\((Lx G l p T y7 n))/\(Lx G l p T y7 n)))=fnMW (Ab9 [Sp+7]) (look [(158,nW),(178,Yt),(134,Yn),(58,Hw),(176,hI.m (Wt m))]) (Wt (m+1)) Tryz.f176 (n,G,T,l,p,()) P:=by kernel_rfl
theorem BU {k l:Nat} {p:List Int} {s:Gw×Gw} (h:Pg s.2 k l p=true):Ig k l p s=s:=by
 cases k with
 |zero=>rfl
 |succ k=>unfold Ig;rw [Ab h]
theorem BT (k l:Nat) (p:List Int) (s:Gw×Gw):Ig (k+1) l p s=if Pg s.2 (k+1) l p=true then s else
   (gD (Zm (s.1.getD l []++ [some p]) (s.2.getD l [])) (s.1.getD l []++ [some p])).foldl (λs q=>Ig k (l+1) q s)
    (s.1.set l (s.1.getD l []++ [some p]),s.2.set l (Zm (s.1.getD l []++ [some p]) (s.2.getD l []))):=rfl
theorem YY {n:Nat} {p:List Int} (h:Pm n p) {i:Nat} (hi:i<n):idx p (i:Int)=some (ap p i:Int):=by
 have mG:i<p.length:=by rw [h.1];exact hi
 rw [Cj mG,<-(h.aj hi).1,Kz mG]
theorem IN {x:Int} {gs:List PO} {j:Nat} (hj:j<gs.length) (s:Row×List Int):aC x (gs.take (j+1)) s=aM x (aC x (gs.take j) s) gs[j]:=by
 unfold aC
 rw [Ge,Ac hj,Ub,Vy]
 rfl
theorem IP {gs:List PO} {f:Nat} {row:Row} :al gs f [] row=row:=by cases f<;>rfl
theorem lQ {n:Nat} {p:List Int} (h:Pm n p):0<p.length/\p.length<=20:=⟨by rw [h.1];exact h.n1,by rw [h.1];exact h.n2⟩
theorem MD {n:Nat} {p q:List Int} (h:Pm n p) (k:Pm n q):Ob q.length p:=by rw [k.1];exact h.row
theorem Anb {m:Nat} (n:Int) (G T:List (List (Option (List Int)))) (l:Int) (p:Option (List Int)) (h:(∃N L q,p=some q/\sf N L n G T l q)/\(n-l).toNat<m+1):
  fnMW (Ab9 [Sp+7]) (look [(158,nW),(178,Yt),(134,Yn),(58,Hw),(176,hI.m (Wt m))]) (Wt (m+1)) Tryz.f176 (n,G,T,l,p,()) (λ(z:(Int×List (List (Option (List Int)))×List (List (Option (List Int)))×Unit)×Unit)=>z=((n,(Ig (n-l).toNat l.toNat (p.getD []) (G,T)).1,(Ig (n-l).toNat l.toNat (p.getD []) (G,T)).2,()),())):=by
 obtain ⟨⟨N,L,q,rfl,h⟩,hm⟩:=h
 have h':=h
 obtain ⟨n1,n2,en,el,hle,v,pm,fx⟩:=h
 subst en el
 have hk:((N:Int)-(L:Int)).toNat=N-L:=by omega
 rw [hk,Ar]
 refine Eq.mp (Ao1 (N:Int) G T (L:Int) (some q) _) ⟨_,Ab ⟨N,L,?a⟩,?b⟩
 case a=>
  simp only [Fy,Bc,Dd]
  exact h'
 obtain ⟨v1,v2,v3,v4⟩:=v
 dsimp only at v1 v2
 have hw:IntKind.i64.wrap ((L:Int)+1)=((L+1:Nat):Int):=Bz (by omega)
 simp only [Lx]
 simp only [Fy,Bc,Dd,hk,Ar,Cb,eq_self,true_and,bg,List.take_succ_cons,List.take_zero,Aw,Eo,Dg,hw]
 refine Br.of (λhh=>⟨by show Int.toNat (L:Int)<=G.length;omega,by show Int.toNat (L:Int)<=T.length;omega,?_⟩) λhh=>?_
 ·rw [BU (s:=(G,T)) hh]
 obtain ⟨k,hNk⟩: ∃k,N-L=k+1:=by
  cases e:N-L with
  |zero=>rw [e] at hh;simp [Pg] at hh
  |succ k=>exact ⟨k,rfl⟩
 have hLN:L<N:=by omega
 have hv:V N (k+1) L (G,T):=by rw [<-hNk];exact ⟨v1,v2,v3,v4⟩
 rw [hNk] at hh⊢
 have e1:(0:Int)<=(L:Int)/\(L:Int)<(G.length:Int):=by omega
 have e1':(0:Int)<=(L:Int)/\(L:Int)<(T.length:Int):=by omega
 have hgl:(G.getD L []).length<=400:=Ad0 n2 (by omega) hv
 have e2:(G.getD L []).length+1<=Dj:=by show _<=4294967296;omega
 simp only [e1,e1',e2,and_self,true_and,bg]
 generalize OX:G.getD L []++ [some q]=gs
 have Awc:gs.length<=401:=by rw [<-OX,Au,Be];omega
 have hg:PG N L gs:=by rw [<-OX];exact hv.pg pm fx
 have hr0:Xj N L gs (T.getD L []):=by rw [<-OX];exact hv.Ata q
 obtain ⟨r1,r2,r3⟩:=FK hLN n2 hg hr0
 generalize hR:Zm gs (T.getD L [])=R at r1 r2 r3
 have SI:Ig (k+1) L q (G,T)=(gD R gs).foldl (λs q=>Ig k (L+1) q s) (G.set L gs,T.set L R):=by
  rw [BT,Ai (by rw [hh];simp)]
  dsimp only
  rw [OX,hR]
 rw [SI]
 have hTl:L<T.length:=by omega
 have hGl:L<G.length:=by omega
 have hG1:(G.set L gs).getD L []=gs:=kO G L hGl gs
 have hT1: ∀row:Row,(T.set L row).getD L []=row:=kO T L hTl
 refine ⟨_,Ab (by show (T.getD L []).length<=20;rw [hr0.rl];exact n2),?_⟩
 dsimp only
 have hn0:(Vl (T.getD L [])).length+Sn (T.getD L [])<=40:=by have:=zq (T.getD L []);have:=FE (T.getD L []);have:=hr0.rl;omega
 have hq0:RE gs (Vl (T.getD L [])) (T.getD L []):=⟨λy hy=>aX.1 hy,λy hy=> .inl (aX.2 ⟨y,rfl,hy⟩)⟩
 refine ⟨λv=> ∃(row:Row) (qu:List Int) (kg kt:Nat),v=(L,G.set L gs,kg,T.set L row,kt,qu,(N:Int),())/\L<=kg/\L<=kt/\qu.length+Sn row<=40/\Xj N L gs row/\RE gs qu row/\al gs (qu.length+Sn row) qu row=R,
  fun v=>v.2.2.2.2.2.1.length+Sn (v.2.2.2.1.getD v.1 []),⟨T.getD L [],Vl (T.getD L []),min G.length L,T.length,?_,by omega,by omega,hn0,hr0,hq0,?_⟩,?_⟩
 ·rw [we T L hTl]
 ·rw [<-CH hLN hg 100 _ _ (by omega) hr0 hq0];exact hR
 rintro v ⟨row,qu,kg,kt,rfl,hkg,hkt,hb,YN,hqi,XQ⟩
 dsimp only
 simp only [hG1,hT1,Dg]
 refine Br.dec (λhl=>⟨e1.2,?_⟩) λhl=>?_
 ·cases qu with
  |nil=>simp at hl
  |cons x qu=>
  obtain ⟨p1,p2,xn,t,rfl,ht⟩:=LU hLN hg YN hqi
  have hxn:xn<N:=by rw [<-YN.rl];exact rS ht
  refine Bw gs.length (λv=>v.2.2.1) (λj v=> ∃kg kt:Nat,v=(L,L,(j:Int),G.set L gs,kg,T.set L (aC (xn:Int) (gs.take j) (row,qu)).1,kt,(xn:Int)::(aC (xn:Int) (gs.take j) (row,qu)).2,(N:Int),())/\L<=kg/\L<=kt) rfl ⟨kg,kt,rfl,hkg,hkt⟩ ?_
  rintro j v K hj hi ⟨kg,kt,rfl,h1,h2⟩ hK
  dsimp only
  simp only [hG1,hT1,Ar]
  refine Br.dec (λhl=>?_) λhl=>?_
  ·have hl:j<gs.length:=by omega
   obtain ⟨x1,x2⟩:=Aag hLN hg (gs.take j) (q:=qu) (λo ho=>Ey ho) YN ht
   have Pj:=IN (x:=(xn:Int)) hl (row,qu)
   generalize aC (xn:Int) (gs.take j) (row,qu)=s at x1 x2 Pj⊢
   obtain ⟨r,qq⟩:=s
   dsimp only at x1 x2⊢
   obtain ⟨g,vI,Xl,hgf⟩:=hg gs[j] (Al hl)
   have htx:r.getD xn none=some t:=x1.mono _ _ ht
   obtain ⟨t1,t2,t3,t4⟩:=x1.ok.rt _ _ htx
   have hrl:r.length=N:=x1.ok.rl
   have hgj:gs.getD j none=some g:=by rw [XL hl];exact vI
   have hy:=Xl.lt hxn
   have hga:=(Xl.aj hxn).1
   have Adm:qq.length+Sn r=qu.length+Sn row:=x1.phi
   simp only [Aw] at hb
   simp only [hgj,Dd]
   refine ⟨⟨by omega,by omega⟩,⟨by omega,by simp only [Aw];omega⟩,_,rfl,_,YY Xl hxn,⟨by omega,by omega⟩,?_⟩
   rw [vI] at Pj
   unfold aM at Pj
   dsimp only at Pj
   rw [Dd,hga,Ar,Ar,htx,Dd] at Pj
   rw [Ar]
   refine Br.of (λhn=>?_) λhn=>?_
   ·have hn:r.getD (ap g xn) none=none:=by
     cases e:r.getD (ap g xn) none with
     |none=>rfl
     |some u=>rw [e] at hn;simp at hn
    rw [hn] at Pj
    refine ⟨⟨by omega,by simp only [Aw];omega⟩,_,rfl,⟨by omega,by omega⟩,some (Af t g),?_,⟨by omega,by omega⟩,?_,?_⟩
    ·rw [Ar,htx,Dd]
     exact Ab ⟨lQ t1,MD t1 Xl⟩
    ·show qq.length+1+1<=4294967296
     omega
    ·rw [Bz (by omega)]
     refine hK hl _ rfl ⟨kg,kt,?_,h1,h2⟩
     rw [Pj,List.set_set]
     rfl
   ·have hn: ∃u,r.getD (ap g xn) none=some u:=by
     cases e:r.getD (ap g xn) none with
     |none=>rw [e] at hn;simp at hn
     |some u=>exact ⟨u,rfl⟩
    obtain ⟨u,hn⟩:=hn
    rw [hn] at Pj
    rw [Bz (by omega)]
    refine hK hl _ rfl ⟨kg,kt,?_,h1,h2⟩
    rw [Pj]
  ·have:j=gs.length:=by omega
   subst this
   rw [Bc]
   generalize hs:aC (xn:Int) gs (row,qu)=s at p1 p2⊢
   obtain ⟨r,qq⟩:=s
   dsimp only at p1 p2⊢
   have Adm:qq.length+Sn r=qu.length+Sn row:=p1.phi
   simp only [Aw] at hb XQ
   refine ⟨⟨by omega,by simp only [Aw];omega,Gi _⟩,⟨r,qq,kg,kt,?_,h1,h2,by omega,p1.ok,p2,?_⟩,?_⟩
   ·simp
   ·rw [show qu.length+1+Sn row=(qu.length+Sn row)+1 by omega] at XQ
    simp only [al,hs] at XQ
    rw [Adm]
    exact XQ
   ·simp only [Aw]
    have:(List.take (qq.length+1-Int.toNat 1) (List.drop (Int.toNat 1) ((xn:Int)::qq))).length=qq.length:=by simp
    rw [this]
    omega
 ·have:qu= []:=Ch (by omega)
  subst this
  rw [IP] at XQ
  subst XQ
  have hpr:=Aab hLN hg YN r3
  have hvl:=hv.lower gs row
  have Afm: ∀qs:List (List Int),(∀q∈qs,q∈gD row gs)->V N k (L+1) (qs.foldl (λs q=>Ig k (L+1) q s) (G.set L gs,T.set L row))/\bx (L+1) (G.set L gs,T.set L row) (qs.foldl (λs q=>Ig k (L+1) q s) (G.set L gs,T.set L row)):=
   fun qs hqs=>OO n1 n2 (by omega) qs _ (λq hq=>hpr q (hqs q hq)) hvl
  refine ⟨_,Ab (by show row.length<=20;rw [YN.rl];exact n2),?_⟩
  dsimp only
  have hol:=zq row
  have hrl:=YN.rl
  refine Bw (Vl row).length (λv=>v.2.1) (λi v=> ∃(s:Gw×Gw) (kg kt:Nat),v=(L,(i:Int),s.1,kg,s.2,kt,Vl row,(N:Int),())/\L<=kg/\L<=kt/\s=(((Vl row).take i).flatMap λy=>gs.map (Uj row y)).foldl (λs q=>Ig k (L+1) q s) (G.set L gs,T.set L row)) rfl ⟨_,kg,kt,rfl,hkg,hkt,rfl⟩ ?_
  rintro i v K hi mG ⟨s,kg,kt,rfl,h1,h2,hs⟩ hK
  dsimp only
  have Yf: ∀q∈((Vl row).take i).flatMap (λy=>gs.map (Uj row y)),q∈gD row gs:= λq hq=>by
   obtain ⟨y,hy,hq⟩:=Hy.1 hq
   exact Hy.2 ⟨y,Ey hy,hq⟩
  refine Br.dec (λhl=>?_) λhl=>?_
  ·have hl:i<(Vl row).length:=by omega
   obtain ⟨f1,f2⟩:=Afm _ Yf
   rw [<-hs] at f1 f2
   have g1:s.1.getD L []=gs:=by rw [(f2.low L (by omega)).1];exact hG1
   have g2:s.1.length=N:=f1.1
   obtain ⟨yn,hyn,hyr⟩:=aX.1 (Al hl)
   obtain ⟨t,ht⟩:=dK.1 hyr
   have hyN:yn<N:=by rw [<-hrl];exact rS ht
   obtain ⟨t1,t2,t3,t4⟩:=YN.rt _ _ ht
   refine ⟨⟨by omega,by omega⟩,(yn:Int),by rw [Ar,Ac hl,hyn],by omega,?_⟩
   rw [g1]
   refine Bw gs.length (λv=>v.2.2.1) (λj v=> ∃(s':Gw×Gw) (kg kt:Nat),v=(L,L,(j:Int),s'.1,kg,s'.2,kt,Vl row,(N:Int),())/\L<=kg/\L<=kt/\s'=(((Vl row).take i).flatMap (λy=>gs.map (Uj row y))++(gs.take j).map (Uj row (yn:Int))).foldl (λs q=>Ig k (L+1) q s) (G.set L gs,T.set L row)) rfl ⟨s,kg,kt,rfl,h1,h2,by simpa using hs⟩ ?_
   rintro j v K' hj DQ ⟨s',kg,kt,rfl,h1,h2,DU⟩ hK'
   dsimp only
   refine Br.dec (λMb=>?_) λMb=>?_
   ·have Mb:j<gs.length:=by omega
    have PJ: ∀q∈((Vl row).take i).flatMap (λy=>gs.map (Uj row y))++(gs.take j).map (Uj row (yn:Int)),q∈gD row gs:= λq hq=>by
     rcases Ay.1 hq with hq|hq
     ·exact Yf q hq
     ·obtain ⟨o,ho,rfl⟩:=Bj.1 hq
      exact Hy.2 ⟨(yn:Int),aX.2 ⟨yn,rfl,hyr⟩,Bj.2 ⟨o,Ey ho,rfl⟩⟩
    obtain ⟨f1',f2'⟩:=Afm _ PJ
    rw [<-DU] at f1' f2'
    obtain ⟨G',T'⟩:=s'
    dsimp only at f1' f2'⊢
    have g1':G'.getD L []=gs:=by have:=(f2'.low L (by omega)).1;dsimp only at this;rw [this];exact hG1
    have g3':T'.getD L []=row:=by have:=(f2'.low L (by omega)).2;dsimp only at this;rw [this];exact hT1 row
    have g4':G'.length=N:=f1'.1
    have g5':T'.length=N:=f1'.2.1
    obtain ⟨g,vI,Xl,hgf⟩:=hg gs[j] (Al Mb)
    have hgj:gs.getD j none=some g:=by rw [XL Mb];exact vI
    have hgm:some g∈gs:=by rw [<-vI];exact Al Mb
    have hy:=Xl.lt hyN
    obtain ⟨t',JX⟩:=dK.1 (r3 yn t g ht hgm)
    obtain ⟨u1,u2,u3,u4⟩:=YN.rt _ _ JX
    have Amc:Uj row (yn:Int) gs[j]=Af (Af t g) (Bt t'):=by rw [vI];exact jq ht JX
    have hqm:=hpr _ (Hy.2 ⟨(yn:Int),aX.2 ⟨yn,rfl,hyr⟩,Bj.2 ⟨gs[j],Al Mb,Amc⟩⟩)
    simp only [g1',g3',Ar,hgj,ht,Dd]
    have tf:L<Int.toNat ((L+1:Nat):Int):=by omega
    have XN:=yk n1 n2 k (L+1) _ (G',T') (by omega) f1' hqm.1 hqm.2
    have Au4:((Ig k (L+1) (Af (Af t g) (Bt t')) (G',T')).1).length=N:=XN.v.1
    have Au5:((Ig k (L+1) (Af (Af t g) (Bt t')) (G',T')).2).length=N:=XN.v.2.1
    have hkk:((N:Int)-((L+1:Nat):Int)).toNat=k:=by omega
    refine ⟨⟨by omega,by omega⟩,⟨by omega,by omega⟩,some (Af t g),Ab ⟨lQ t1,MD t1 Xl⟩,_,YY Xl hyN,⟨by omega,by omega⟩,Bt t',?_,some (Af (Af t g) (Bt t')),?_,_,Ab ⟨⟨N,L+1,_,rfl,?pr⟩,?lt⟩,⟨tf,?k1⟩,⟨tf,?k2⟩,⟨tf,?k3⟩,⟨tf,?k4⟩,?go⟩
    case pr=>exact ⟨n1,n2,rfl,rfl,by omega,by rw [show N-(L+1)=k by omega];exact f1',hqm.1,hqm.2⟩
    case lt=>
     show ((N:Int)-((L+1:Nat):Int)).toNat<m
     omega
    case go=>
     dsimp only
     rw [Bz (by omega)]
     refine hK' Mb _ rfl ⟨_,_,_,rfl,?_,?_,?_⟩
     ·show L<=min kg (Int.toNat ((L+1:Nat):Int));omega
     ·show L<=min kt (Int.toNat ((L+1:Nat):Int));omega
     ·rw [Ge,Ac Mb,Ub,Mj,<-Co,Vy,<-DU]
      simp only [Cc,List.map_nil,Df,List.foldl_nil,Amc,hkk,Ar,Dd]
    case k1=>simp only [hkk,Ar,Dd];omega
    case k2=>simp only [hkk,Ar,Dd];omega
    case k3=>simp only [hkk,Ar,Dd];omega
    case k4=>simp only [hkk,Ar,Dd];omega
    ·rw [Ar,JX,Dd]
     exact Ab ⟨by show t'.length<=20;rw [u1.1];exact n2,u1.2.row⟩
    ·exact Ab ⟨lQ (t1.comp Xl),MD (t1.comp Xl) u1.inv⟩
   ·have:j=gs.length:=by omega
    subst this
    rw [Bz (by omega)]
    refine hK hl _ rfl ⟨s',kg,kt,rfl,h1,h2,?_⟩
    rw [DU,Bc,Ge,Ac hl,Ub,List.flatMap_append,hyn]
    simp
  ·have:i=(Vl row).length:=by omega
   subst this
   rw [Bc] at hs
   refine ⟨h1,h2,?_⟩
   rw [hs]
   rfl
theorem Aat {m:Nat} (Aic:Cl Tryz.prog 176 (Wt m)):Cl Tryz.prog 176 (Wt (m+1)):=
 Cl.gY (Aej [Sp+7]) (Ba xW (Fp wo (Ba uC (Ba Wy (Fp Aic Bo))))) mixed Tryz.func176 (by kernel_rfl) (by kernel_rfl) λx h=>Anb x.1 x.2.1 x.2.2.1 x.2.2.2.1 x.2.2.2.2.1 h
theorem ML:Cl Tryz.prog 176 (Wt 0):=
 Cl.gY uU Bo mixed Tryz.func176 (by kernel_rfl) (by kernel_rfl) λ_ h=>absurd h.2 (He _)
theorem uy: ∀m,Cl Tryz.prog 176 (Wt m)
 |0=>ML
 |m+1=>Aat (uy m)
noncomputable abbrev zN:MSpec:=gY Ag9 (λx=> ∃N L q,x.2.2.2.2.1=some q/\sf N L x.1 x.2.1 x.2.2.1 x.2.2.2.1 q)
 (λx=>((x.1,(Ig (x.1-x.2.2.2.1).toNat x.2.2.2.1.toNat (x.2.2.2.2.1.getD []) (x.2.1,x.2.2.1)).1,(Ig (x.1-x.2.2.2.1).toNat x.2.2.2.1.toNat (x.2.2.2.2.1.getD []) (x.2.1,x.2.2.1)).2,()),()))
theorem MM:Cl Tryz.prog 176 zN:=Cl.Agb (λx=>(x.1-x.2.2.2.1).toNat) uy
def aA (n:Nat):Gw:=List.replicate n []
def eJ (n i:Nat):Row:=(List.replicate n none).set i (some (upto n))
def dB (n:Nat):Gw:=(List.range n).map λi=>eJ n i
def Uw (n:Nat) (gens:List PO):Gw×Gw:=gens.foldl (λs o=>Ig n 0 (o.getD []) s) (aA n,dB n)
noncomputable abbrev KD:MSpec:= {Jj:= [none,none],ins:= [(false, .Eh tI),(false, .Eh tLO)],Ib:=false,Hv:= [none,none,none],outs:= [.Eh tI, .Bn tO teG false, .Bn tO teG false],fn:= λ_=>none,rp:=some 165}
noncomputable abbrev jo:MSpec:=gY KD (λx=>(1<=x.1/\x.1<=20)/\List.length x.2.1<=4294967296/\ ∀o∈(x.2.1:List PO),∃g,o=some g/\Pm x.1.toNat g)
 (λx=>((x.1,(Uw x.1.toNat x.2.1).1,(Uw x.1.toNat x.2.1).2,()),()))
abbrev ba:Type:=Int×List (List (Option (List Int)))×Int×List (List (Option (List Int)))×PUnit
theorem HQ (n:Int) (gens:List (Option (List Int))) (P:(Int×List (List (Option (List Int)))×List (List (Option (List Int)))×Unit)×Unit->Prop):(((0:Int)<=n/\n<(↑Dj:Int)+(1:Int))/\n=n/\0=0/\(List.replicate n.toNat ([]:List (Option (List Int)))).length=(List.replicate n.toNat ([]:List (Option (List Int)))).length/\0=0/\0=([]:List Int).length/\Di (λ(v3:ba) (k4:ba->Prop)=>Br (decide (v3.1<n)) (((0:Int)<=n/\n<(↑Dj:Int)+(1:Int))/\n=n/\ ∃(y5:Option (List Int)),cU.fn (n,())=some y5/\((0:Int)<=v3.1/\v3.1<(↑(List.replicate n.toNat (none:Option (List Int))).length:Int))/\0+v3.1.toNat<(List.replicate n.toNat (none:Option (List Int))).length/\0=0/\(List.replicate n.toNat (none:Option (List Int))).length=((List.replicate n.toNat (none:Option (List Int))).set (0+v3.1.toNat) y5).length/\(0=0/\v3.2.2.2.1.length=v3.2.2.2.1.length)/\(0=0/\1= [(List.replicate n.toNat (none:Option (List Int))).set (0+v3.1.toNat) y5].length)/\0< [(List.replicate n.toNat (none:Option (List Int))).set (0+v3.1.toNat) y5].length/\v3.2.2.2.1.length+ [(List.replicate n.toNat (none:Option (List Int))).set (0+v3.1.toNat) y5].length<=Dj/\0=0/\v3.2.1.length=v3.2.1.length/\0=0/\(v3.2.2.2.1++ [(List.replicate n.toNat (none:Option (List Int))).set (0+v3.1.toNat) y5]).length=(v3.2.2.2.1++ [(List.replicate n.toNat (none:Option (List Int))).set (0+v3.1.toNat) y5]).length/\k4 (IntKind.i64.wrap (v3.1+(1:Int)),v3.2.1,v3.2.2.1,v3.2.2.2.1++ [(List.replicate n.toNat (none:Option (List Int))).set (0+v3.1.toNat) y5],())) (0=0/\v3.2.1.length=v3.2.1.length/\0=0/\v3.2.2.2.1.length=v3.2.2.2.1.length/\Di (λ(v5:ba) (k6:ba->Prop)=>Br (decide (v5.1<(↑gens.length:Int))) (∃(y7:Option (List Int)),idx gens v5.1=some y7/\0=0/\v5.2.1.length=v5.2.1.length/\0=0/\v5.2.2.2.1.length=v5.2.2.2.1.length/\ ∃(y8:(Int×List (List (Option (List Int)))×List (List (Option (List Int)))×PUnit)×PUnit),zN.fn (v5.2.2.1,v5.2.1,v5.2.2.2.1,(0:Int),y7,())=some y8/\0=0/\y8.1.2.1.length=y8.1.2.1.length/\0=0/\y8.1.2.2.1.length=y8.1.2.2.1.length/\k6 (IntKind.i64.wrap (v5.1+(1:Int)),y8.1.2.1,y8.1.1,y8.1.2.2.1,())) ((0=0/\v5.2.1.length=v5.2.1.length)/\(0=0/\v5.2.2.2.1.length=v5.2.2.2.1.length)/\P ((v5.2.2.1,v5.2.1,v5.2.2.2.1,()),()))) ((0:Int),v3.2.1,v3.2.2.1,v3.2.2.2.1,PUnit.unit))) ((0:Int),List.replicate n.toNat ([]:List (Option (List Int))),n,[],PUnit.unit))=fnMW cz (look [(133,cU),(176,zN)]) jo Tryz.f157 (n,gens,()) P:=by kernel_rfl
theorem cd (n i:Nat):(aA n).getD i []= []:=by
 unfold aA
 rw [Aj,Zg]
 split<;>rfl
theorem mA {n i:Nat} (h:i<n):(dB n).getD i []=eJ n i:=by
 unfold dB
 rw [Aj,Fk,Xr h]
 rfl
theorem og {n i y:Nat} (h:i<n):(eJ n i).getD y none=if i=y then some (upto n) else none:=by
 unfold eJ
 rw [Yd,Ja]
 by_cases e:i=y
 ·rw [Ab ⟨e,h⟩,Ab e]
 ·rw [Ai (λhh=>e hh.1),Ai e,Aj,Zg]
  split<;>rfl
theorem uQ {n:Nat} (h1:1<=n) (h2:n<=20): ∀(k l:Nat),l+k=n->qT n k l (aA n,dB n)
 |0,l,hk=>cd n l
 |k+1,l,hk=>by
  have hl:l<n:=by omega
  have hg: ∀(g:List Int) (j:Nat),some g∈(aA n).getD j []->False:= λg j hg=>by rw [cd] at hg;cases hg
  refine ⟨uQ h1 h2 k (l+1) (by omega),⟨λo ho=>?_,?_,?_,λy t e0=>?_,λy t g _ gx=>(hg _ _ gx).elim,λy t g t' _ gx=>(hg _ _ gx).elim⟩,λg gx=>(hg _ _ gx).elim⟩
  ·have ho:o∈(aA n).getD l []:=ho
   rw [cd] at ho;cases ho
  ·show ((dB n).getD l []).length=n
   rw [mA hl];simp [eJ]
  ·show ((dB n).getD l []).getD l none=_
   rw [mA hl,og hl,Ab rfl]
  ·replace e0:((dB n).getD l []).getD y none=some t:=e0
   rw [mA hl,og hl] at e0
   by_cases hy:l=y
   ·rw [Ab hy] at e0
    have e1:=Az e0
    subst e1 hy
    exact ⟨Pm.id h1 h2,λi hi=>mL (by omega),mL hl, .id⟩
   ·rw [Ai hy] at e0;cases e0
theorem GR (n:Nat): ∀(k l:Nat),GBf k l (aA n,dB n)
 |0,_=>trivial
 |k+1,l=>⟨GR n k (l+1),by show ((aA n).getD l []).length<=_;rw [cd];exact Kw _⟩
theorem QN {n:Nat} (h1:1<=n) (h2:n<=20):V n n 0 (aA n,dB n):=⟨by simp [aA],by simp [dB],uQ h1 h2 n 0 (by omega),GR n n 0⟩
def PmL (n:Nat) (gens:List PO):Prop:= ∀o∈gens,∃g,o=some g/\Pm n g
theorem BS {n:Nat} {gens:List PO} {j:Nat} (hj:j<gens.length):Uw n (gens.take (j+1))=Ig n 0 (gens[j].getD []) (Uw n (gens.take j)):=by
 unfold Uw
 rw [Ge,Ac hj,Ub,Vy]
 rfl
theorem oL {n:Nat} (h1:1<=n) (h2:n<=20): ∀(gens:List PO) (s:Gw×Gw),PmL n gens->V n n 0 s->V n n 0 (gens.foldl (λs o=>Ig n 0 (o.getD []) s) s)/\
  bx 0 s (gens.foldl (λs o=>Ig n 0 (o.getD []) s) s)/\(∀g,some g∈gens->Gn n ((gens.foldl (λs o=>Ig n 0 (o.getD []) s) s).1.getD 0 []) g)/\ ∀o∈(gens.foldl (λs o=>Ig n 0 (o.getD []) s) s).1.getD 0 [],o∈s.1.getD 0 []\/o∈gens
 | [],s,_,hv=>⟨hv,bx.refl _ _,(λ_ hg=>by cases hg),λ_ ho=> .inl ho⟩
 |o::gens,s,hg,hv=>by
  obtain ⟨g,rfl,Xl⟩:=hg o (by simp)
  have ha:=yk h1 h2 n 0 g s (by omega) hv Xl (λi hi=>absurd hi (He _))
  obtain ⟨a1,a2,a3,a4⟩:=oL h1 h2 gens (Ig n 0 g s) (λo ho=>hg o (by simp [ho])) ha.v
  refine ⟨a1,ha.grow.trans a2 (Ap _),λg' gx=>?_,λo ho=>?_⟩
  ·rcases Bg.1 gx with e|gx
   ·cases e;exact ha.Amx.mono λg hg=>a2.OS _ _ hg
   ·exact a3 g' gx
  ·rcases a4 o ho with h|h
   ·rcases ha.gens o h with h|h
    ·exact .inl h
    ·exact .inr (by simp [h])
   ·exact .inr (by simp [h])
theorem BR {n:Nat} (h1:1<=n) (h2:n<=20) {gens:List PO} (hg:PmL n gens):V n n 0 (Uw n gens):=(oL h1 h2 gens _ hg (QN h1 h2)).1
theorem sX {n:Nat} (h1:1<=n) (h2:n<=20) {gens:List PO} (hg:PmL n gens) {p:List Int} (hp:Pm n p):Pg (Uw n gens).2 n 0 p=true↔Gn n gens p:=by
 obtain ⟨a1,a2,a3,a4⟩:=oL h1 h2 gens _ hg (QN h1 h2)
 have hS:RC n λg=>some g∈gens:=⟨⟨h1,h2⟩,λg gx=>by obtain ⟨g',e,h⟩:=hg _ gx;cases e;exact h⟩
 have Yf: ∀g,some g∈(Uw n gens).1.getD 0 []->some g∈gens:= λg gx=>by
  rcases a4 _ gx with h|h
  ·have h:some g∈(aA n).getD 0 []:=h
   rw [cd] at h;cases h
  ·exact h
 have hS':RC n λg=>some g∈(Uw n gens).1.getD 0 []:=⟨⟨h1,h2⟩,λg gx=>hS.2 g (Yf g gx)⟩
 refine (nu h1 h2 n 0 (Uw n gens) (by omega) a1.2.2.1 p hp λi hi=>absurd hi (He _)).trans ⟨λh=>h.mono Yf,λh=>h.trans hS' λg gx=>a3 g gx⟩
theorem FU (n:Int) (gens:List (Option (List Int))) (h:(1<=n/\n<=20)/\List.length gens<=4294967296/\ ∀o∈(gens:List PO),∃g,o=some g/\Pm n.toNat g):
  fnMW cz (look [(133,cU),(176,zN)]) jo Tryz.f157 (n,gens,()) (λ(z:(Int×List (List (Option (List Int)))×List (List (Option (List Int)))×Unit)×Unit)=>z=((n,(Uw n.toNat gens).1,(Uw n.toNat gens).2,()),())):=by
 obtain ⟨⟨h1,h2⟩,h3,hg⟩:=h
 obtain ⟨N,rfl⟩: ∃N:Nat,n=N:=⟨n.toNat,by omega⟩
 rw [Ar] at hg⊢
 have h1:1<=N:=by omega
 have h2:N<=20:=by omega
 refine Eq.mp (HQ (N:Int) gens _) ?_
 have hm:((0:Int)<=(N:Int)/\(N:Int)<(Dj:Int)+1):=⟨by omega,by show (N:Int)<(4294967296:Int)+1;omega⟩
 simp only [hm,and_self,eq_self,true_and,Ar,Cb,Eo,Dg,Ja,Aw,Nat.lt_add_one,Au]
 refine Bw N (λv=>v.1) (λj v=>v=((j:Int),aA N,(N:Int),(List.range j).map (eJ N),())) rfl rfl ?_
 rintro j v K hj hi rfl hK
 dsimp only
 refine Br.dec (λhl=>?_) λhl=>?_
 ·refine ⟨_,Ab ⟨by show (1:Int)<=N;omega,by show (N:Int)<=20;omega⟩,⟨by omega,by omega⟩,by rw [Ar];omega,?_,?_⟩
  ·show _<=4294967296
   simp only [Gh,List.length_range]
   omega
  ·rw [Bz (by omega)]
   refine hK (by omega) _ rfl ?_
   rw [List.range_succ,Mj]
   rfl
 ·have:j=N:=by omega
  subst this
  refine Bw gens.length (λv=>v.1) (λi v=>v=((i:Int),(Uw j (gens.take i)).1,(j:Int),(Uw j (gens.take i)).2,())) rfl rfl ?_
  rintro i v K' mG Awe rfl hK'
  dsimp only
  refine Br.dec (λMb=>?_) λMb=>?_
  ·have Mb:i<gens.length:=by omega
   obtain ⟨g,vI,Xl⟩:=hg gens[i] (Al Mb)
   have hv:=BR h1 h2 (gens:=gens.take i) λo ho=>hg o (Ey ho)
   refine ⟨_,Cj Mb,_,Ab ⟨j,0,g,vI,h1,h2,rfl,rfl,Kw _,hv,Xl,λi hi=>absurd hi (He _)⟩,?_⟩
   rw [Bz (by omega)]
   refine hK' Mb _ rfl ?_
   rw [BS Mb]
   simp only [Int.sub_zero,Ar]
   rfl
  ·have:i=gens.length:=by omega
   subst this
   rw [Bc]
theorem rG:Cl Tryz.prog 157 jo:=
 Cl.gY uU (Ba ry (Fp MM Bo)) mixed Tryz.func157 (by kernel_rfl) (by kernel_rfl) λx h=>FU x.1 x.2.1 h
noncomputable abbrev DZ:MSpec:= {Jj:= [none,none],ins:= [(false, .Eh tI),(false, .Eh kB)],Ib:=false,Hv:= [none,none,none],outs:= [.Eh tI, .Bn tO teG false, .Bn tO teG false],fn:= λ_=>none,rp:=some 165}
def fc (n:Int) (g:List (List Int)):Gw×Gw:=Uw n.toNat (g.map some)
noncomputable abbrev Ys:MSpec:=gY DZ (λx=>(1<=x.1/\x.1<=20)/\List.length x.2.1<=4294967296/\ ∀g∈(x.2.1:List (List Int)),Pm x.1.toNat g)
 (λx=>((x.1,(fc x.1 x.2.1).1,(fc x.1 x.2.1).2,()),()))
noncomputable def Qh (p:PP) (s:List Int):Bool:=(Ca p&&Ht p.1 s)&&Pg (fc p.1 p.2.2.1).2 p.1.toNat 0 s
noncomputable abbrev bp:Spec:=Hj (.pair Jc (.pair tL .unit)) .bool false true (λx=>Fc x.1/\short x.2.1) (λx=>Qh x.1 x.2.1)
theorem Cells.told {w:World} {S:Nat->Prop} {e:Ty} {cs:List Value} {xs:List e.den} (h:Cells w S (.slice e) cs xs): ∃o:Option (List e.den),Cells w S (.oslice e) cs o/\o.getD []=xs:=by
 simp only [Cells] at h
 obtain ⟨a,len,cap,rfl,h1,h2,h3⟩:=h
 cases a with
 |none=>
  rcases h3 with rfl|⟨g,o,h,_⟩
  ·refine ⟨none,?_,rfl⟩
   simp only [Cells]
   exact .inl ⟨trivial,cap,by rw [h1];rfl⟩
  ·cases h
 |some ad=>
  refine ⟨some xs,?_,rfl⟩
  simp only [Cells]
  exact .inr ⟨xs,ad,len,cap,rfl,rfl,h1,h2,h3.imp id λ⟨g,o,h,h4⟩=>⟨g,o,Az h,h4⟩⟩
theorem IJ {α β:Type} (Q:Nat->α->β->Prop): ∀(xs:List α),(∀i x,xs[i]?=some x-> ∃y,Q i x y)-> ∃ys:List β,ys.length=xs.length/\ ∀i x y,xs[i]?=some x->ys[i]?=some y->Q i x y:=by
 intro xs h
 refine ⟨List.ofFn λi:Fin xs.length=>Classical.choose (h i xs[i] (Ac i.2)),by simp,λi x y h1 h2=>?_⟩
 obtain ⟨hi,rfl⟩:=An.1 h1
 obtain ⟨mG,rfl⟩:=An.1 h2
 rw [List.getElem_ofFn]
 exact Classical.choose_spec (h i xs[i] (Ac hi))
theorem Ct.Ao0 {w:World} {S:Nat->Prop} {e:Ty} {v:Value} {xs:List (List e.den)} (h:Ct w S (.slice (.slice e)) v xs): ∃os:List (Option (List e.den)),Ct w S (.slice (.oslice e)) v os/\os.map (·.getD [])=xs:=by
 obtain ⟨cs,hc,rfl⟩:=h
 simp only [Cells] at hc
 obtain ⟨a,len,cap,rfl,h1,h2,h3⟩:=hc
 rcases h3 with rfl|⟨g,o,rfl,hg,hS,h4⟩
 ·refine ⟨[],⟨_,?_,rfl⟩,rfl⟩
  simp only [Cells]
  exact ⟨a,len,cap,rfl,h1,h2, .inl trivial⟩
 ·obtain ⟨os,e1,e2⟩:=IJ (λi (x:List e.den) (y:Option (List e.den))=>y.getD []=x/\ ∃es:List Value,es.length=1/\(∀j u,es[j]?=some u->w.cell? ⟨g,o+i*1+j,none⟩=some u)/\Cells w S (.oslice e) es y) xs λi x hx=>by
   obtain ⟨es,k1,k2,k3⟩:=h4 i x hx
   obtain ⟨y,k4,k5⟩:=Cells.told (e:=e) (by simp only [Cells];exact k3)
   exact ⟨y,k5,es,k1,k2,k4⟩
  refine ⟨os,⟨_,?_,rfl⟩,?_⟩
  ·simp only [Cells]
   refine ⟨_,len,cap,rfl,by rw [h1,e1],h2, .inr ⟨g,o,rfl,hg,hS,λi y hy=>?_⟩⟩
   obtain ⟨hi,_⟩:=An.1 hy
   obtain ⟨_,es,k1,k2,k3⟩:=e2 i _ y (Ac (by omega)) hy
   simp only [Cells] at k3
   exact ⟨es,k1,k2,k3⟩
  ·refine eN (by simp [e1]) λi g1 g2=>?_
   rw [eO]
   exact (e2 i _ _ (Ac g2) (Ac (by omega))).1
theorem uG:Cl Tryz.prog 157 Ys:=by
 have h:=rG
 refine ⟨h.enter,λw S π us x r o g vs h1 hg h2 h3 hS h4 h5=>?_⟩
 obtain ⟨n,gens,⟨⟩⟩:=x
 match us,h2 with
 |u1::u2::us,h2=>
  obtain ⟨h6,⟨h7,h8⟩,h9⟩:=h2
  obtain ⟨os,qb,kP⟩:=Ct.Ao0 (e:=tI) h8
  have kP:os.map (·.getD [])=(gens:List (List Int)):=kP
  have rh:(1<=n/\n<=20)/\List.length gens<=4294967296/\ ∀g∈(gens:List (List Int)),Pm n.toNat g:=Bu λhn=>by
   have:Ys.fn (n,gens,())=none:=Ai hn
   rw [this] at h5;cases h5
  have hos:os=gens.map some:=by
   rw [<-kP,List.map_map]
   refine (List.map_id os).symm.trans (Eu λx hx=>?_)
   cases x with
   |some y=>rfl
   |none=>
    have:=rh.2.2 [] (by rw [<-kP];exact Bj.2 ⟨none,hx,rfl⟩)
    have h1:=this.n1
    have h2:=this.1
    simp at h2
    omega
  have hv:Ys.fn (n,gens,())=some ((n,(fc n gens).1,(fc n gens).2,()),()):=Ab rh
  rw [hv] at h5
  have h5:=Az h5
  refine h.calls w S π (u1::u2::us) (n,os,()) r o g vs h1 hg ⟨h6,⟨h7,qb⟩,h9⟩ h3 hS h4 ?_
  refine (Ab ⟨rh.1,by rw [hos,Gh];exact rh.2.1,λy hy=>?pp⟩).trans (Gz some ?qq)
  case pp=>
   replace hy:y∈os:=hy
   rw [hos] at hy
   obtain ⟨g,hg,rfl⟩:=Bj.1 hy
   exact ⟨g,rfl,rh.2.2 g hg⟩
  case qq=>subst hos;exact h5
theorem iv {p:PP} (hv:Valid p):(1<=p.1/\p.1<=20)/\List.length p.2.2.1<=4294967296/\ ∀g∈p.2.2.1,Pm p.1.toNat g:=
 ⟨hv.n,by have:=hv.gu;omega,λg hg=>⟨by have:=hv.len g hg;omega,dy (hv.perm g hg)⟩⟩
theorem nP {n:Nat} {g:List (List Int)} (h: ∀x∈g,Pm n x):PmL n (g.map some):= λo ho=>by
 obtain ⟨x,hx,rfl⟩:=Bj.1 ho
 exact ⟨x,rfl,h x hx⟩
theorem Acs {p:PP} (hv:Valid p):V p.1.toNat p.1.toNat 0 (fc p.1 p.2.2.1):=by
 have:=hv.n
 exact BR (by omega) (by omega) (nP (iv hv).2.2)
theorem tS {α:Type} [DecidableEq α]: ∀ {l1 l2:List α},l1.Nodup->(∀x∈l1,x∈l2)->l1.length<=l2.length
 | [],_,_,_=>Kw _
 |a::l,l2,hn,hs=>by
  obtain ⟨h1,h2⟩:=Ce.1 hn
  have ha:=hs a (by simp)
  have:=tS (l1:=l) (l2:=l2.erase a) h2 λy hy=>by
   have hya:y≠a:= λe'=>h1 (by rw [<-e'];exact hy)
   exact (List.mem_erase_of_ne hya).2 (hs y (by simp [hy]))
  rw [List.length_erase_of_mem ha] at this
  have:=List.length_pos_of_mem ha
  simp only [Aw]
  omega
theorem oN {g:List (List Int)} (Q:List Int->Prop) {x:List Int} {d:Int} : ∀(ls:List Int) (L:List (List Int)) (D:List Int),(∀l∈ls,Q (Af x (Am g l)))->(∀y∈L,Q y)->
  (∀y∈(Jk g x d ls L D).1,Q y)/\(∀y∈L,y∈(Jk g x d ls L D).1)/\((Jk g x d ls L D).2.2=true-> ∀l∈ls,Af x (Am g l)∈(Jk g x d ls L D).1)/\
   ((Jk g x d ls L D).2.2=false->(Jk g x d ls L D).1.length=3000/\ ∃z,Q z/\z∉(Jk g x d ls L D).1)
 | [],L,D,_,h=>⟨h,λ_ h=>h,(λ_ l hl=>by cases hl),(λe=>by cases e)⟩
 |l::ls,L,D,hq,h=>by
  have kW: ∀l∈ls,Q (Af x (Am g l)):= λl' h'=>hq l' (Ao _ h')
  simp only [Jk]
  split
  ·rename_i hm
   obtain ⟨a1,a2,a3,a4⟩:=oN Q (d:=d) ls L D kW h
   refine ⟨a1,a2,λe l' Mb=>?_,a4⟩
   rcases Bg.1 Mb with rfl|Mb
   ·exact a2 _ hm
   ·exact a3 e l' Mb
  ·rename_i hn
   split
   ·rename_i hf
    exact ⟨h,λ_ h=>h,(λe=>by cases e),λ_=>⟨hf,_,hq l (by simp),hn⟩⟩
   ·obtain ⟨a1,a2,a3,a4⟩:=oN Q (d:=d) ls (L++ [Af x (Am g l)]) (D++ [d+1]) kW λy hy=>by
     rcases Ay.1 hy with hy|hy
     ·exact h y hy
     ·rw [Ad.1 hy];exact hq l (by simp)
    refine ⟨a1,λy hy=>a2 y (Bk _ hy),λe l' Mb=>?_,a4⟩
    rcases Bg.1 Mb with rfl|Mb
    ·exact a2 _ (Cf _ (by simp))
    ·exact a3 e l' Mb
theorem wV {p:PP} (hV:Valid p) {m:Nat} {ls:List Int} (hl: ∀l∈ls,Fq (List.length p.2.2.1) l) (Q:List Int->Prop) (hQ: ∀x,Q x-> ∀l∈ls,Q (Af x (Am p.2.2.1 l))):
  ∀(f k:Nat) (L:List (List Int)) (D:List Int),3001<=f+k->k<=L.length->Ve p m L D->(∀y∈L,Q y)->(∀(j:Nat) (h:j<L.length),j<k-> ∀l∈ls,Af L[j] (Am p.2.2.1 l)∈L)->
  (∀y∈(Ma p.2.2.1 ls f k L D).1,Q y)/\((Ma p.2.2.1 ls f k L D).2.2=true-> ∀x∈(Ma p.2.2.1 ls f k L D).1,∀l∈ls,Af x (Am p.2.2.1 l)∈(Ma p.2.2.1 ls f k L D).1)/\
   ((Ma p.2.2.1 ls f k L D).2.2=false->(Ma p.2.2.1 ls f k L D).1.length=3000/\ ∃z,Q z/\z∉(Ma p.2.2.1 ls f k L D).1)
 |0,k,L,D,hf,hkL,hb,hq,hc=>by
  have:=hb.ok.gu
  omega
 |f+1,k,L,D,hf,hkL,hb,hq,hc=>by
  simp only [Ma]
  split
  ·rename_i hk
   have SC:k<D.length:=by rw [hb.len];exact hk
   have hd:=hb.dep k SC
   have e:D.getD k 0=D[k]:=by rw [Aj,Ac SC];rfl
   rw [Wi hk,e]
   obtain ⟨k1,⟨A,k2⟩,_⟩:=mQ hV (hb.row _ (Al hk)) (hb.ok.len _ (Al hk)) (d:=D[k]) ls L D hl hb ⟨by omega,by omega⟩
   obtain ⟨a1,a2,a3,a4⟩:=oN (g:=p.2.2.1) Q (x:=L[k]) (d:=D[k]) ls L D (hQ _ (hq _ (Al hk))) hq
   split
   ·rename_i L' D' he
    rw [he] at k1 k2 a1 a2 a3 a4
    have k2:L'=L++A:=k2
    refine wV hV hl Q hQ f (k+1) L' D' (by omega) (by rw [k2,Au];omega) k1 a1 λj hj hjk l Mb=>?_
    by_cases e':j<k
    ·have e2:L'[j]=L[j]:=by simp only [k2];rw [Pv (by omega)]
     rw [e2];exact a2 _ (hc j (by omega) e' l Mb)
    ·have:j=k:=by omega
     subst this
     have e2:L'[j]=L[j]:=by simp only [k2];rw [Pv (by omega)]
     rw [e2];exact a3 rfl l Mb
   ·rename_i L' D' he
    rw [he] at a1 a4
    exact ⟨a1,(λe=>by cases e),λ_=>a4 rfl⟩
  ·rename_i hk
   refine ⟨hq,λ_ x hx l Mb=>?_,λe=>by cases e⟩
   obtain ⟨j,hj,rfl⟩:=Bf.1 hx
   have hj:j<L.length:=hj
   exact hc j hj (by omega) l Mb
theorem OH {p:PP} (hv:Ca p=true) {s:List Int} (hs:s.length<=20) (hr: ∀y∈s,0<=y/\y<p.1) (Q:List Int->Prop) (hQs:Q s) (hQ: ∀x,Q x-> ∀l∈Ax p.2.2.1.length,Q (Af x (Am p.2.2.1 l))):
  (∀y∈(Hi p.2.2.1 s).1,Q y)/\((Hi p.2.2.1 s).2.2=true-> ∀x∈(Hi p.2.2.1 s).1,∀l∈Ax p.2.2.1.length,Af x (Am p.2.2.1 l)∈(Hi p.2.2.1 s).1)/\
   ((Hi p.2.2.1 s).2.2=false->(Hi p.2.2.1 s).1.length=3000/\ ∃z,Q z/\z∉(Hi p.2.2.1 s).1):=
 wV (valid hv) (λ_ hl=>Lo hl) Q hQ 3001 0 [s] [0] (by omega) (Kw _) (jL hs hr) (λy hy=>by rw [Ad.1 hy];exact hQs) λj _ hj=>absurd hj (He _)
theorem eH {g:List (List Int)} {x:List Int} :some x∈g.map some↔x∈g:=by simp
theorem tE {n:Nat} {g:List (List Int)} {x:List Int} (h:Gn n (g.map some) x) {l:Int} (hl:l∈Ax g.length):Gn n (g.map some) (Af x (Am g l)):=by
 obtain ⟨k,hk,rfl|rfl⟩:=Oc (Lo hl)
 ·rw [On hk];exact .mul h (eH.2 (Al hk))
 ·rw [Om hk];exact .inv h (eH.2 (Al hk))
theorem Mp {n k:Nat} (hk:k<n):(k:Int)+1∈Ax n/\ -((k:Int)+1)∈Ax n:=by
 unfold Ax
 exact ⟨Hy.2 ⟨k,Es.2 hk,by simp⟩,Hy.2 ⟨k,Es.2 hk,by simp⟩⟩
theorem JL {n:Nat} {g:List (List Int)} {L:List (List Int)} (h0:upto n∈L) (hc: ∀x∈L,∀l∈Ax g.length,Af x (Am g l)∈L) {p:List Int} (hp:Gn n (g.map some) p):p∈L:=by
 induction hp with
 |id=>exact h0
 |mul _ hg ih=>
  obtain ⟨k,hk,rfl⟩:=Bf.1 (eH.1 hg)
  have:=hc _ ih _ (Mp hk).1
  rwa [On hk] at this
 |inv _ hg ih=>
  obtain ⟨k,hk,rfl⟩:=Bf.1 (eH.1 hg)
  have:=hc _ ih _ (Mp hk).2
  rwa [Om hk] at this
structure Reach (p:PP) (L:List (List Int)) (D:List Int) (whole:Bool):Prop where
 ok:Ve p p.1.toNat L D
 nodup:L.Nodup
 first: ∃A,L=upto p.1.toNat::A
 gen: ∀x∈L,Gn p.1.toNat (p.2.2.1.map some) x
 all:whole=true-> ∀x,Gn p.1.toNat (p.2.2.1.map some) x->x∈L
 big:whole=false->L.length=3000/\ ∃z,Gn p.1.toNat (p.2.2.1.map some) z/\z∉L
theorem Gf.nodup {m:Nat} {L:List (List Int)} {Ly:List Int} (h:Gf m L Ly):L.Nodup:=
 Ej.2 λi j hi hj jT e=>by have:=h.inj hi hj e;omega
theorem nS {p:PP} (hv:Ca p=true):Reach p (Hi p.2.2.1 (upto p.1.toNat)).1 (Hi p.2.2.1 (upto p.1.toNat)).2.1 (Hi p.2.2.1 (upto p.1.toNat)).2.2:=by
 have hV:=valid hv
 have hn:=hV.n
 have hl:(upto p.1.toNat).length=p.1.toNat:=Sv _
 have hr: ∀y∈upto p.1.toNat,0<=y/\y<p.1:= λy hy=>by have:=Qt.1 hy;omega
 obtain ⟨b1,b2⟩:=yq hv (by omega) hr
 rw [hl] at b1
 obtain ⟨a1,a2,a3⟩:=OH hv (by omega) hr (λx=>Gn p.1.toNat (p.2.2.1.map some) x) .id λx hx l hl=>tE hx hl
 exact ⟨b1,b1.ok.nodup,b2,a1,λhw x hx=>JL (by obtain ⟨A,e⟩:=b2;rw [e];simp) (a2 hw) hx,a3⟩
noncomputable def Gq (p:PP):Bool:=Ca p&&(Hi p.2.2.1 (upto p.1.toNat)).2.2
theorem Kp {α:Type} {xs ys:List α} {i:Nat} {d:α} (h:i<xs.length):(xs++ys).getD i d=xs.getD i d:=by
 rw [Aj,Aj,At h]
theorem jP {α:Type} {xs:List α} {x d:α} :(xs++ [x]).getD xs.length d=x:=by
 rw [Aj,As (Ap _),Nat.sub_self];rfl
theorem Mm {α:Type} {xs:List α} {i:Nat} {d:α} (h:i<xs.length):xs.getD i d=xs[i]:=by
 rw [Aj,Ac h];rfl
structure Lv (g:List (List Int)) (ls:List Int) (k:Nat) (L:List (List Int)) (D:List Int):Prop where
 len:D.length=L.length
 pos:0<L.length
 mono: ∀i j,i<=j->j<L.length->D.getD i 0<=D.getD j 0
 EZ:k<L.length-> ∀j,j<L.length->D.getD j 0<=D.getD k 0+1
 par: ∀j,0<j->j<L.length-> ∃i l,i<j/\l∈ls/\L.getD j []=Af (L.getD i []) (Am g l)/\D.getD j 0=D.getD i 0+1
 zero:D.getD 0 0=0
theorem Lv.add {g:List (List Int)} {ls:List Int} {k:Nat} {L:List (List Int)} {D:List Int} (h:Lv g ls k L D) (hk:k<L.length) {l:Int} (hl:l∈ls):
  Lv g ls k (L++ [Af (L.getD k []) (Am g l)]) (D++ [D.getD k 0+1]):=by
 have hlen:=h.len
 have hD: ∀i,i<L.length->(D++ [D.getD k 0+1]).getD i 0=D.getD i 0:= λi hi=>Kp (by omega)
 have hDl:(D++ [D.getD k 0+1]).getD L.length 0=D.getD k 0+1:=by rw [<-hlen];exact jP
 refine ⟨by simp [hlen],by simp,λi j jT hj=>?_,λ_ j hj=>?_,λj h0 hj=>?_,?_⟩
 ·rw [Au,Be] at hj
  by_cases e:j=L.length
  ·subst e
   rw [hDl]
   by_cases e':i=L.length
   ·subst e';rw [hDl];exact Gi _
   ·rw [hD i (by omega)]
    exact h.EZ hk i (by omega)
  ·rw [hD i (by omega),hD j (by omega)]
   exact h.mono i j jT (by omega)
 ·rw [Au,Be] at hj
  rw [hD k hk]
  by_cases e:j=L.length
  ·subst e;rw [hDl];exact Gi _
  ·rw [hD j (by omega)];exact h.EZ hk j (by omega)
 ·rw [Au,Be] at hj
  by_cases e:j=L.length
  ·subst e
   exact ⟨k,l,hk,hl,by rw [jP,Kp hk],by rw [hDl,hD k hk]⟩
  ·obtain ⟨i,l',h1,h2,h3,h4⟩:=h.par j h0 (by omega)
   exact ⟨i,l',h1,h2,by rw [Kp (by omega),Kp (by omega)];exact h3,by rw [hD j (by omega),hD i (by omega)];exact h4⟩
 ·rw [hD 0 h.pos];exact h.zero
theorem sC {g:List (List Int)} {ls:List Int} {k:Nat} : ∀(PX:List Int) (L:List (List Int)) (D:List Int),(∀l∈PX,l∈ls)->Lv g ls k L D->k<L.length-> ∀ {x:List Int} {d:Int},x=L.getD k []->d=D.getD k 0->
  Lv g ls k (Jk g x d PX L D).1 (Jk g x d PX L D).2.1/\(∃A,(Jk g x d PX L D).1=L++A)/\(∃A,(Jk g x d PX L D).2.1=D++A)/\
  ((Jk g x d PX L D).2.2=true-> ∀l∈PX,∃j,j<(Jk g x d PX L D).1.length/\(Jk g x d PX L D).1.getD j []=Af x (Am g l)/\(Jk g x d PX L D).2.1.getD j 0<=d+1)
 | [],L,D,_,h,_,x,d,_,_=>⟨h,⟨[],by simp [Jk]⟩,⟨[],by simp [Jk]⟩,λ_ l hl=>by cases hl⟩
 |l::PX,L,D,hs,h,hk,x,d,hx,hd=>by
  have DU: ∀l∈PX,l∈ls:= λl' h'=>hs l' (Ao _ h')
  have hlen:=h.len
  simp only [Jk]
  split
  ·rename_i hm
   obtain ⟨a1,⟨A,a2⟩,⟨A',a3⟩,a4⟩:=sC PX L D DU h hk hx hd
   refine ⟨a1,⟨A,a2⟩,⟨A',a3⟩,λe l' Mb=>?_⟩
   rcases Bg.1 Mb with rfl|Mb
   ·obtain ⟨j,hj,hjx⟩:=Bf.1 hm
    refine ⟨j,by rw [a2,Au];omega,by rw [a2,Kp hj,Mm hj];exact hjx,?_⟩
    rw [a3,Kp (by omega),hd]
    exact h.EZ hk j hj
   ·exact a4 e l' Mb
  ·split
   ·exact ⟨h,⟨[],by simp⟩,⟨[],by simp⟩,λe=>by cases e⟩
   ·have XN:=h.add hk (hs l (by simp))
    rw [<-hx,<-hd] at XN
    obtain ⟨a1,⟨A,a2⟩,⟨A',a3⟩,a4⟩:=sC PX (L++ [Af x (Am g l)]) (D++ [d+1]) DU XN (by rw [Au];omega) (x:=x) (d:=d) (by rw [Kp hk];exact hx) (by rw [Kp (by omega)];exact hd)
    refine ⟨a1,⟨_::A,by rw [a2,Co];rfl⟩,⟨_::A',by rw [a3,Co];rfl⟩,λe l' Mb=>?_⟩
    rcases Bg.1 Mb with rfl|Mb
    ·refine ⟨L.length,by rw [a2,Au,Au];simp only [Be];omega,?_,?_⟩
     ·rw [a2,Kp (by simp),jP]
     ·rw [a3,Kp (by simp [hlen]),<-hlen,jP]
      exact Gi _
    ·exact a4 e l' Mb
structure oH (g:List (List Int)) (ls:List Int) (L:List (List Int)) (D:List Int):Prop where
 len:D.length=L.length
 pos:0<L.length
 zero:D.getD 0 0=0
 par: ∀j,0<j->j<L.length-> ∃i l,i<j/\l∈ls/\L.getD j []=Af (L.getD i []) (Am g l)/\D.getD j 0=D.getD i 0+1
 step: ∀i,i<L.length-> ∀l∈ls,∃j,j<L.length/\L.getD j []=Af (L.getD i []) (Am g l)/\D.getD j 0<=D.getD i 0+1
theorem CE {g:List (List Int)} {ls:List Int} : ∀(f k:Nat) (L:List (List Int)) (D:List Int),3001<=f+k->Lv g ls k L D->k<=L.length->
  (∀i,i<k-> ∀l∈ls,∃j,j<L.length/\L.getD j []=Af (L.getD i []) (Am g l)/\D.getD j 0<=D.getD i 0+1)->
  (Ma g ls f k L D).2.2=true->(Ma g ls f k L D).1.length<=3000->oH g ls (Ma g ls f k L D).1 (Ma g ls f k L D).2.1
 |0,k,L,D,hf,h,hkL,hc,hw,h3=>by
  simp only [Ma] at h3⊢
  omega
 |f+1,k,L,D,hf,h,hkL,hc,hw,h3=>by
  simp only [Ma] at hw h3⊢
  split
  ·rename_i hk
   rw [Ab hk] at hw h3
   obtain ⟨a1,⟨A,a2⟩,⟨A',a3⟩,a4⟩:=sC (x:=L.getD k []) (d:=D.getD k 0) ls L D (λ_ h=>h) h hk rfl rfl
   have hlen:=h.len
   split
   ·rename_i L' D' he
    rw [he] at a1 a2 a3 a4
    simp only [he] at hw h3
    have a2:L'=L++A:=a2
    have a3:D'=D++A':=a3
    have a4:=a4 rfl
    dsimp only at a4
    have hLl:L.length<=L'.length:=by rw [a2,Au];omega
    refine CE f (k+1) L' D' (by omega) ⟨a1.len,a1.pos,a1.mono,λhk1 j hj=>?_,a1.par,a1.zero⟩ (by omega) (λi hi l hl=>?_) hw h3
    ·have h1:D'.getD j 0<=D'.getD k 0+1:=a1.EZ (show k<L'.length by omega) j hj
     have h2:D'.getD k 0<=D'.getD (k+1) 0:=a1.mono k (k+1) (by omega) hk1
     omega
    ·by_cases e:i=k
     ·subst e
      obtain ⟨j,b1,b2,b3⟩:=a4 l hl
      refine ⟨j,b1,?_,?_⟩
      ·rw [b2,a2,Kp (by omega)]
      ·rw [show D'.getD i 0=D.getD i 0 by rw [a3,Kp (by omega)]];exact b3
     ·obtain ⟨j,b1,b2,b3⟩:=hc i (by omega) l hl
      refine ⟨j,by omega,?_,?_⟩
      ·rw [a2,Kp (by omega),Kp (by omega)];exact b2
      ·rw [a3,Kp (by omega),Kp (by omega)];exact b3
   ·rename_i L' D' he
    simp only [he] at hw
    cases hw
  ·rename_i hk
   exact ⟨h.len,h.pos,h.zero,h.par,λi hi=>hc i (by have hi:i<L.length:=hi;omega)⟩
theorem eY {p:PP} {s:List Int} (hv:Ca p=true) (hs:s.length<=20) (hr: ∀y∈s,0<=y/\y<p.1) (hw:(Hi p.2.2.1 s).2.2=true):
  oH p.2.2.1 (Ax p.2.2.1.length) (Hi p.2.2.1 s).1 (Hi p.2.2.1 s).2.1:=by
 have hb:=(yq hv hs hr).1.ok.gu
 refine CE 3001 0 [s] [0] (by omega) ⟨rfl,by simp,λi j jT hj=>?_,λ_ j hj=>?_,λj h0 hj=>?_,rfl⟩ (Kw _) (λi hi=>absurd hi (He _)) hw hb
 ·have:j=0:=by simpa using hj
  subst this
  have:i=0:=by omega
  subst this
  exact Gi _
 ·have:j=0:=by simpa using hj
  subst this
  simp
 ·have:j=0:=by simpa using hj
  omega
theorem qk {p:PP} (hV:Valid p) {x:List Int} (hx: ∀y∈x,0<=y/\y<p.1) {l:Int} (hl:l∈Ax p.2.2.1.length):
  -l∈Ax p.2.2.1.length/\Af (Af x (Am p.2.2.1 l)) (Am p.2.2.1 (-l))=x:=by
 obtain ⟨k,hk,Tc⟩:=Oc (Lo hl)
 have hg:=dy (hV.perm _ (Al hk))
 have hgl:=hV.len _ (Al hk)
 have hn:=hV.n
 have hp:Pm p.1.toNat (p.2.2.1[k]):=⟨by omega,hg⟩
 have key: ∀q r:List Int,Pm p.1.toNat q->Pm p.1.toNat r->Af q r=upto p.1.toNat->Af (Af x q) r=x:= λq r hq hr he=>by
  refine eN (by rw [Sb,Sb]) λi h1 h2=>?_
  have hxi:=hx _ (Al h2)
  obtain ⟨xi,hxe⟩:=Jd hxi.1
  have hxn:xi<p.1.toNat:=by omega
  have e1:ap (Af q r) xi=ap (upto p.1.toNat) xi:=Gz (λz=>ap z xi) he
  rw [Ml hq hr hxn,mL hxn] at e1
  simp only [Af,eO,hxe]
  have h3:=(hq.aj hxn).1
  have h4:=(hr.aj (hq.lt hxn)).1
  rw [h3,h4,e1]
 rcases Tc with rfl|rfl
 ·refine ⟨(Mp hk).2,?_⟩
  rw [On hk,Om hk]
  exact key _ _ hp hp.inv (sH hp)
 ·refine ⟨by rw [Int.neg_neg];exact (Mp hk).1,?_⟩
  rw [Int.neg_neg,On hk,Om hk]
  exact key _ _ hp.inv hp (eh hp)
structure Mk (g:List (List Int)) (ls:List Int) (L:List (List Int)) (S:List Int->Prop) (d:List Int->Int):Prop where
 nn: ∀x∈L,0<=d x
 zero: ∀x∈L,d x=0↔S x
 step: ∀x∈L,∀l∈ls,d (Af x (Am g l))<=d x+1
 down: ∀x∈L,0<d x-> ∃l∈ls,d (Af x (Am g l))=d x-1
structure eQ (g:List (List Int)) (ls:List Int) (L:List (List Int)):Prop where
 next: ∀x∈L,∀l∈ls,Af x (Am g l)∈L
 back: ∀x∈L,∀l∈ls,-l∈ls/\Af (Af x (Am g l)) (Am g (-l))=x
theorem Mk.le {g:List (List Int)} {ls:List Int} {L:List (List Int)} {S:List Int->Prop} {d d':List Int->Int} (hc:eQ g ls L) (h:Mk g ls L S d) (h':Mk g ls L S d'):
  ∀(n:Nat) (x:List Int),x∈L->d' x=n->d x<=n
 |0,x,hx,e=>by
  have:=(h.zero x hx).2 ((h'.zero x hx).1 e)
  omega
 |n+1,x,hx,e=>by
  obtain ⟨l,hl,hd⟩:=h'.down x hx (by omega)
  obtain ⟨b1,b2⟩:=hc.back x hx l hl
  have h1:=Mk.le hc h h' n _ (hc.next x hx l hl) (by omega)
  have h2:=h.step _ (hc.next x hx l hl) _ b1
  rw [b2] at h2
  omega
theorem Mk.eq {g:List (List Int)} {ls:List Int} {L:List (List Int)} {S:List Int->Prop} {d d':List Int->Int} (hc:eQ g ls L) (h:Mk g ls L S d) (h':Mk g ls L S d') {x:List Int} (hx:x∈L):d x=d' x:=by
 have n1:=h.nn x hx
 have n2:=h'.nn x hx
 have h1:=Mk.le hc h h' (d' x).toNat x hx (by omega)
 have h2:=Mk.le hc h' h (d x).toNat x hx (by omega)
 omega
theorem Mk.EZ {g:List (List Int)} {ls:List Int} {L:List (List Int)} {S:List Int->Prop} {d:List Int->Int} (hc:eQ g ls L) (h:Mk g ls L S d) {x:List Int} (hx:x∈L) {l:Int} (hl:l∈ls):
  d x-1<=d (Af x (Am g l)):=by
 obtain ⟨b1,b2⟩:=hc.back x hx l hl
 have h2:=h.step _ (hc.next x hx l hl) _ b1
 rw [b2] at h2
 omega
def Iq (L:List (List Int)) (D:List Int) (x:List Int):Int:=if x∈L then D.getD (L.idxOf x) 0 else-1
theorem lZ {L:List (List Int)} (hn:L.Nodup) {j:Nat} (hj:j<L.length):L.idxOf (L.getD j [])=j:=by
 rw [Mm hj]
 exact hn.idxOf_getElem j hj
theorem dY {L:List (List Int)} {j:Nat} (hj:j<L.length):L.getD j []∈L:=by rw [Mm hj];exact Al hj
theorem lS {L:List (List Int)} {D:List Int} (hn:L.Nodup) {j:Nat} (hj:j<L.length):Iq L D (L.getD j [])=D.getD j 0:=by
 unfold Iq
 rw [Ab (dY hj),lZ hn hj]
theorem du {p:PP} (hV:Valid p) {m:Nat} {L:List (List Int)} {D:List Int} (hb:Ve p m L D) (h:oH p.2.2.1 (Ax p.2.2.1.length) L D):eQ p.2.2.1 (Ax p.2.2.1.length) L where
 next x hx l hl:=by
  obtain ⟨i,hi,rfl⟩:=Bf.1 hx
  obtain ⟨j,h1,h2,_⟩:=h.step i hi l hl
  rw [Mm hi] at h2
  rw [<-h2]
  exact dY h1
 back x hx l hl:=qk hV (hb.row x hx) hl
theorem ql {p:PP} (hV:Valid p) {m:Nat} {L:List (List Int)} {D:List Int} (hb:Ve p m L D) (h:oH p.2.2.1 (Ax p.2.2.1.length) L D):
  Mk p.2.2.1 (Ax p.2.2.1.length) L (λx=>x=L.getD 0 []) (Iq L D) where
 nn x hx:=by
  obtain ⟨i,hi,rfl⟩:=Bf.1 hx
  rw [<-Mm (d:= []) hi,lS hb.ok.nodup hi]
  have:=hb.dep i (by rw [hb.len];exact hi)
  rw [Mm (by rw [hb.len];exact hi)]
  omega
 zero x hx:=by
  obtain ⟨i,hi,rfl⟩:=Bf.1 hx
  rw [<-Mm (d:= []) hi,lS hb.ok.nodup hi]
  constructor
  ·intro h0
   by_cases e:i=0
   ·rw [e]
   ·obtain ⟨k,l,h1,_,_,h4⟩:=h.par i (by omega) hi
    have hk:k<D.length:=by rw [hb.len];omega
    have:=hb.dep k hk
    rw [<-Mm (d:=0) hk] at this
    omega
  ·intro e
   have:i=0:=by
    have h1:=lZ hb.ok.nodup hi
    have h2:=lZ hb.ok.nodup h.pos
    rw [e,h2] at h1
    exact h1.symm
   rw [this]
   exact h.zero
 step x hx l hl:=by
  obtain ⟨i,hi,rfl⟩:=Bf.1 hx
  rw [<-Mm (d:= []) hi,lS hb.ok.nodup hi]
  obtain ⟨j,h1,h2,h3⟩:=h.step i hi l hl
  rw [<-h2,lS hb.ok.nodup h1]
  exact h3
 down x hx h0:=by
  obtain ⟨i,hi,rfl⟩:=Bf.1 hx
  rw [<-Mm (d:= []) hi,lS hb.ok.nodup hi] at h0⊢
  have hi0:0<i:=by
   rcases Ua i with e|e
   ·subst e;rw [h.zero] at h0;omega
   ·exact e
  obtain ⟨k,l,h1,h2,h3,h4⟩:=h.par i hi0 hi
  have hk:k<L.length:=by omega
  obtain ⟨b1,b2⟩:=qk hV (hb.row _ (dY hk)) h2
  refine ⟨-l,b1,?_⟩
  rw [h3,b2,lS hb.ok.nodup hk]
  omega
noncomputable def Bd (p:PP):List (List Int):=(Hi p.2.2.1 (upto p.1.toNat)).1
noncomputable def Dp (p:PP):List Int:=(Hi p.2.2.1 (upto p.1.toNat)).2.1
noncomputable def Rr (p:PP) (s:List Int):Bool:=Gq p&&decide (s∈Bd p)
def PY (goal s:List Int):Bool:=List.all goal λx=>decide (Ih s x=x)
noncomputable def Dk (p:PP):SS×Bool×Unit:=if Ca p=true then (Ds p.2.2.1 (upto p.1.toNat),Gq p,()) else (([],[],[],false,()),false,())
noncomputable abbrev Yy:Spec:=Hj (.pair Jc .unit) (.pair bb (.pair .bool .unit)) true false (λx=>Fc x.1) (λx=>Dk x.1)
noncomputable abbrev br:Spec:=Hj (.pair tL (.pair tL .unit)) tL false true (λx=>short x.2.1/\Ob (List.length x.1) x.2.1) (λx=>Ed x.1 x.2.1)
abbrev Ei:Type:=List (List Int)×List Int×List Int×Bool×PUnit
theorem NY (p:Int×ByteArray×List (List Int)×Unit) (P:((List (List Int)×List Int×List Int×Bool×Unit)×Bool×Unit)->Prop):(∃(y2:Bool),Im.fn ((p.1,p.2.1,p.2.2.1,()),())=some y2/\Br (!y2) (P ((List.take 0 (List.drop 0 []),List.take 0 (List.drop 0 []),List.take 0 (List.drop 0 []),false,()),false,())) (((((∃(y3:List Int),Dl.fn (p.1,())=some y3/\(∃(y4:Ei),Gx.fn ((p.1,p.2.1,p.2.2.1,()),y3,())=some y4/\((P ((y4.1,y4.2.1,y4.2.2.1,y4.2.2.2.1,()),y4.2.2.2.1,())/\P ((y4.1,y4.2.1,y4.2.2.1,y4.2.2.2.1,()),y4.2.2.2.1,()))/\P ((y4.1,y4.2.1,y4.2.2.1,y4.2.2.2.1,()),y4.2.2.2.1,()))/\(P ((y4.1,y4.2.1,y4.2.2.1,y4.2.2.2.1,()),y4.2.2.2.1,())/\P ((y4.1,y4.2.1,y4.2.2.1,y4.2.2.2.1,()),y4.2.2.2.1,()))/\P ((y4.1,y4.2.1,y4.2.2.1,y4.2.2.2.1,()),y4.2.2.2.1,()))/\ ∃(y4:Ei),Gx.fn ((p.1,p.2.1,p.2.2.1,()),y3,())=some y4/\((P ((y4.1,y4.2.1,y4.2.2.1,y4.2.2.2.1,()),y4.2.2.2.1,())/\P ((y4.1,y4.2.1,y4.2.2.1,y4.2.2.2.1,()),y4.2.2.2.1,()))/\P ((y4.1,y4.2.1,y4.2.2.1,y4.2.2.2.1,()),y4.2.2.2.1,()))/\(P ((y4.1,y4.2.1,y4.2.2.1,y4.2.2.2.1,()),y4.2.2.2.1,())/\P ((y4.1,y4.2.1,y4.2.2.1,y4.2.2.2.1,()),y4.2.2.2.1,()))/\P ((y4.1,y4.2.1,y4.2.2.1,y4.2.2.2.1,()),y4.2.2.2.1,()))/\ ∃(y3:List Int),Dl.fn (p.1,())=some y3/\ ∃(y4:Ei),Gx.fn ((p.1,p.2.1,p.2.2.1,()),y3,())=some y4/\((P ((y4.1,y4.2.1,y4.2.2.1,y4.2.2.2.1,()),y4.2.2.2.1,())/\P ((y4.1,y4.2.1,y4.2.2.1,y4.2.2.2.1,()),y4.2.2.2.1,()))/\P ((y4.1,y4.2.1,y4.2.2.1,y4.2.2.2.1,()),y4.2.2.2.1,()))/\(P ((y4.1,y4.2.1,y4.2.2.1,y4.2.2.2.1,()),y4.2.2.2.1,())/\P ((y4.1,y4.2.1,y4.2.2.1,y4.2.2.2.1,()),y4.2.2.2.1,()))/\P ((y4.1,y4.2.1,y4.2.2.1,y4.2.2.2.1,()),y4.2.2.2.1,()))/\ ∃(y3:List Int),Dl.fn (p.1,())=some y3/\ ∃(y4:Ei),Gx.fn ((p.1,p.2.1,p.2.2.1,()),y3,())=some y4/\((P ((y4.1,y4.2.1,y4.2.2.1,y4.2.2.2.1,()),y4.2.2.2.1,())/\P ((y4.1,y4.2.1,y4.2.2.1,y4.2.2.2.1,()),y4.2.2.2.1,()))/\P ((y4.1,y4.2.1,y4.2.2.1,y4.2.2.2.1,()),y4.2.2.2.1,()))/\(P ((y4.1,y4.2.1,y4.2.2.1,y4.2.2.2.1,()),y4.2.2.2.1,())/\P ((y4.1,y4.2.1,y4.2.2.1,y4.2.2.2.1,()),y4.2.2.2.1,()))/\P ((y4.1,y4.2.1,y4.2.2.1,y4.2.2.2.1,()),y4.2.2.2.1,()))/\ ∃(y3:List Int),Dl.fn (p.1,())=some y3/\ ∃(y4:Ei),Gx.fn ((p.1,p.2.1,p.2.2.1,()),y3,())=some y4/\((P ((y4.1,y4.2.1,y4.2.2.1,y4.2.2.2.1,()),y4.2.2.2.1,())/\P ((y4.1,y4.2.1,y4.2.2.1,y4.2.2.2.1,()),y4.2.2.2.1,()))/\P ((y4.1,y4.2.1,y4.2.2.1,y4.2.2.2.1,()),y4.2.2.2.1,()))/\(P ((y4.1,y4.2.1,y4.2.2.1,y4.2.2.2.1,()),y4.2.2.2.1,())/\P ((y4.1,y4.2.1,y4.2.2.1,y4.2.2.2.1,()),y4.2.2.2.1,()))/\P ((y4.1,y4.2.1,y4.2.2.1,y4.2.2.2.1,()),y4.2.2.2.1,()))/\((((∃(y3:List Int),Dl.fn (p.1,())=some y3/\(∃(y4:Ei),Gx.fn ((p.1,p.2.1,p.2.2.1,()),y3,())=some y4/\((P ((y4.1,y4.2.1,y4.2.2.1,y4.2.2.2.1,()),y4.2.2.2.1,())/\P ((y4.1,y4.2.1,y4.2.2.1,y4.2.2.2.1,()),y4.2.2.2.1,()))/\P ((y4.1,y4.2.1,y4.2.2.1,y4.2.2.2.1,()),y4.2.2.2.1,()))/\(P ((y4.1,y4.2.1,y4.2.2.1,y4.2.2.2.1,()),y4.2.2.2.1,())/\P ((y4.1,y4.2.1,y4.2.2.1,y4.2.2.2.1,()),y4.2.2.2.1,()))/\P ((y4.1,y4.2.1,y4.2.2.1,y4.2.2.2.1,()),y4.2.2.2.1,()))/\ ∃(y4:Ei),Gx.fn ((p.1,p.2.1,p.2.2.1,()),y3,())=some y4/\((P ((y4.1,y4.2.1,y4.2.2.1,y4.2.2.2.1,()),y4.2.2.2.1,())/\P ((y4.1,y4.2.1,y4.2.2.1,y4.2.2.2.1,()),y4.2.2.2.1,()))/\P ((y4.1,y4.2.1,y4.2.2.1,y4.2.2.2.1,()),y4.2.2.2.1,()))/\(P ((y4.1,y4.2.1,y4.2.2.1,y4.2.2.2.1,()),y4.2.2.2.1,())/\P ((y4.1,y4.2.1,y4.2.2.1,y4.2.2.2.1,()),y4.2.2.2.1,()))/\P ((y4.1,y4.2.1,y4.2.2.1,y4.2.2.2.1,()),y4.2.2.2.1,()))/\ ∃(y3:List Int),Dl.fn (p.1,())=some y3/\ ∃(y4:Ei),Gx.fn ((p.1,p.2.1,p.2.2.1,()),y3,())=some y4/\((P ((y4.1,y4.2.1,y4.2.2.1,y4.2.2.2.1,()),y4.2.2.2.1,())/\P ((y4.1,y4.2.1,y4.2.2.1,y4.2.2.2.1,()),y4.2.2.2.1,()))/\P ((y4.1,y4.2.1,y4.2.2.1,y4.2.2.2.1,()),y4.2.2.2.1,()))/\(P ((y4.1,y4.2.1,y4.2.2.1,y4.2.2.2.1,()),y4.2.2.2.1,())/\P ((y4.1,y4.2.1,y4.2.2.1,y4.2.2.2.1,()),y4.2.2.2.1,()))/\P ((y4.1,y4.2.1,y4.2.2.1,y4.2.2.2.1,()),y4.2.2.2.1,()))/\ ∃(y3:List Int),Dl.fn (p.1,())=some y3/\ ∃(y4:Ei),Gx.fn ((p.1,p.2.1,p.2.2.1,()),y3,())=some y4/\((P ((y4.1,y4.2.1,y4.2.2.1,y4.2.2.2.1,()),y4.2.2.2.1,())/\P ((y4.1,y4.2.1,y4.2.2.1,y4.2.2.2.1,()),y4.2.2.2.1,()))/\P ((y4.1,y4.2.1,y4.2.2.1,y4.2.2.2.1,()),y4.2.2.2.1,()))/\(P ((y4.1,y4.2.1,y4.2.2.1,y4.2.2.2.1,()),y4.2.2.2.1,())/\P ((y4.1,y4.2.1,y4.2.2.1,y4.2.2.2.1,()),y4.2.2.2.1,()))/\P ((y4.1,y4.2.1,y4.2.2.1,y4.2.2.2.1,()),y4.2.2.2.1,()))/\(((∃(y3:List Int),Dl.fn (p.1,())=some y3/\(∃(y4:Ei),Gx.fn ((p.1,p.2.1,p.2.2.1,()),y3,())=some y4/\((P ((y4.1,y4.2.1,y4.2.2.1,y4.2.2.2.1,()),y4.2.2.2.1,())/\P ((y4.1,y4.2.1,y4.2.2.1,y4.2.2.2.1,()),y4.2.2.2.1,()))/\P ((y4.1,y4.2.1,y4.2.2.1,y4.2.2.2.1,()),y4.2.2.2.1,()))/\(P ((y4.1,y4.2.1,y4.2.2.1,y4.2.2.2.1,()),y4.2.2.2.1,())/\P ((y4.1,y4.2.1,y4.2.2.1,y4.2.2.2.1,()),y4.2.2.2.1,()))/\P ((y4.1,y4.2.1,y4.2.2.1,y4.2.2.2.1,()),y4.2.2.2.1,()))/\ ∃(y4:Ei),Gx.fn ((p.1,p.2.1,p.2.2.1,()),y3,())=some y4/\((P ((y4.1,y4.2.1,y4.2.2.1,y4.2.2.2.1,()),y4.2.2.2.1,())/\P ((y4.1,y4.2.1,y4.2.2.1,y4.2.2.2.1,()),y4.2.2.2.1,()))/\P ((y4.1,y4.2.1,y4.2.2.1,y4.2.2.2.1,()),y4.2.2.2.1,()))/\(P ((y4.1,y4.2.1,y4.2.2.1,y4.2.2.2.1,()),y4.2.2.2.1,())/\P ((y4.1,y4.2.1,y4.2.2.1,y4.2.2.2.1,()),y4.2.2.2.1,()))/\P ((y4.1,y4.2.1,y4.2.2.1,y4.2.2.2.1,()),y4.2.2.2.1,()))/\ ∃(y3:List Int),Dl.fn (p.1,())=some y3/\ ∃(y4:Ei),Gx.fn ((p.1,p.2.1,p.2.2.1,()),y3,())=some y4/\((P ((y4.1,y4.2.1,y4.2.2.1,y4.2.2.2.1,()),y4.2.2.2.1,())/\P ((y4.1,y4.2.1,y4.2.2.1,y4.2.2.2.1,()),y4.2.2.2.1,()))/\P ((y4.1,y4.2.1,y4.2.2.1,y4.2.2.2.1,()),y4.2.2.2.1,()))/\(P ((y4.1,y4.2.1,y4.2.2.1,y4.2.2.2.1,()),y4.2.2.2.1,())/\P ((y4.1,y4.2.1,y4.2.2.1,y4.2.2.2.1,()),y4.2.2.2.1,()))/\P ((y4.1,y4.2.1,y4.2.2.1,y4.2.2.2.1,()),y4.2.2.2.1,()))/\(∃(y3:List Int),Dl.fn (p.1,())=some y3/\((∃(y4:Ei),Gx.fn ((p.1,p.2.1,p.2.2.1,()),y3,())=some y4/\((P ((y4.1,y4.2.1,y4.2.2.1,y4.2.2.2.1,()),y4.2.2.2.1,())/\P ((y4.1,y4.2.1,y4.2.2.1,y4.2.2.2.1,()),y4.2.2.2.1,()))/\P ((y4.1,y4.2.1,y4.2.2.1,y4.2.2.2.1,()),y4.2.2.2.1,()))/\(P ((y4.1,y4.2.1,y4.2.2.1,y4.2.2.2.1,()),y4.2.2.2.1,())/\P ((y4.1,y4.2.1,y4.2.2.1,y4.2.2.2.1,()),y4.2.2.2.1,()))/\P ((y4.1,y4.2.1,y4.2.2.1,y4.2.2.2.1,()),y4.2.2.2.1,()))/\ ∃(y4:Ei),Gx.fn ((p.1,p.2.1,p.2.2.1,()),y3,())=some y4/\((P ((y4.1,y4.2.1,y4.2.2.1,y4.2.2.2.1,()),y4.2.2.2.1,())/\P ((y4.1,y4.2.1,y4.2.2.1,y4.2.2.2.1,()),y4.2.2.2.1,()))/\P ((y4.1,y4.2.1,y4.2.2.1,y4.2.2.2.1,()),y4.2.2.2.1,()))/\(P ((y4.1,y4.2.1,y4.2.2.1,y4.2.2.2.1,()),y4.2.2.2.1,())/\P ((y4.1,y4.2.1,y4.2.2.1,y4.2.2.2.1,()),y4.2.2.2.1,()))/\P ((y4.1,y4.2.1,y4.2.2.1,y4.2.2.2.1,()),y4.2.2.2.1,()))/\ ∃(y4:Ei),Gx.fn ((p.1,p.2.1,p.2.2.1,()),y3,())=some y4/\((P ((y4.1,y4.2.1,y4.2.2.1,y4.2.2.2.1,()),y4.2.2.2.1,())/\P ((y4.1,y4.2.1,y4.2.2.1,y4.2.2.2.1,()),y4.2.2.2.1,()))/\P ((y4.1,y4.2.1,y4.2.2.1,y4.2.2.2.1,()),y4.2.2.2.1,()))/\(P ((y4.1,y4.2.1,y4.2.2.1,y4.2.2.2.1,()),y4.2.2.2.1,())/\P ((y4.1,y4.2.1,y4.2.2.1,y4.2.2.2.1,()),y4.2.2.2.1,()))/\P ((y4.1,y4.2.1,y4.2.2.1,y4.2.2.2.1,()),y4.2.2.2.1,()))/\(∃(y3:List Int),Dl.fn (p.1,())=some y3/\ ∃(y4:Ei),Gx.fn ((p.1,p.2.1,p.2.2.1,()),y3,())=some y4/\((P ((y4.1,y4.2.1,y4.2.2.1,y4.2.2.2.1,()),y4.2.2.2.1,())/\P ((y4.1,y4.2.1,y4.2.2.1,y4.2.2.2.1,()),y4.2.2.2.1,()))/\P ((y4.1,y4.2.1,y4.2.2.1,y4.2.2.2.1,()),y4.2.2.2.1,()))/\(P ((y4.1,y4.2.1,y4.2.2.1,y4.2.2.2.1,()),y4.2.2.2.1,())/\P ((y4.1,y4.2.1,y4.2.2.1,y4.2.2.2.1,()),y4.2.2.2.1,()))/\P ((y4.1,y4.2.1,y4.2.2.1,y4.2.2.2.1,()),y4.2.2.2.1,()))/\ ∃(y3:List Int),Dl.fn (p.1,())=some y3/\ ∃(y4:Ei),Gx.fn ((p.1,p.2.1,p.2.2.1,()),y3,())=some y4/\((P ((y4.1,y4.2.1,y4.2.2.1,y4.2.2.2.1,()),y4.2.2.2.1,())/\P ((y4.1,y4.2.1,y4.2.2.1,y4.2.2.2.1,()),y4.2.2.2.1,()))/\P ((y4.1,y4.2.1,y4.2.2.1,y4.2.2.2.1,()),y4.2.2.2.1,()))/\(P ((y4.1,y4.2.1,y4.2.2.1,y4.2.2.2.1,()),y4.2.2.2.1,())/\P ((y4.1,y4.2.1,y4.2.2.1,y4.2.2.2.1,()),y4.2.2.2.1,()))/\P ((y4.1,y4.2.1,y4.2.2.1,y4.2.2.2.1,()),y4.2.2.2.1,()))/\(∃(y3:List Int),Dl.fn (p.1,())=some y3/\ ∃(y4:Ei),Gx.fn ((p.1,p.2.1,p.2.2.1,()),y3,())=some y4/\((P ((y4.1,y4.2.1,y4.2.2.1,y4.2.2.2.1,()),y4.2.2.2.1,())/\P ((y4.1,y4.2.1,y4.2.2.1,y4.2.2.2.1,()),y4.2.2.2.1,()))/\P ((y4.1,y4.2.1,y4.2.2.1,y4.2.2.2.1,()),y4.2.2.2.1,()))/\(P ((y4.1,y4.2.1,y4.2.2.1,y4.2.2.2.1,()),y4.2.2.2.1,())/\P ((y4.1,y4.2.1,y4.2.2.1,y4.2.2.2.1,()),y4.2.2.2.1,()))/\P ((y4.1,y4.2.1,y4.2.2.1,y4.2.2.2.1,()),y4.2.2.2.1,()))/\(∃(y3:List Int),Dl.fn (p.1,())=some y3/\ ∃(y4:Ei),Gx.fn ((p.1,p.2.1,p.2.2.1,()),y3,())=some y4/\((P ((y4.1,y4.2.1,y4.2.2.1,y4.2.2.2.1,()),y4.2.2.2.1,())/\P ((y4.1,y4.2.1,y4.2.2.1,y4.2.2.2.1,()),y4.2.2.2.1,()))/\P ((y4.1,y4.2.1,y4.2.2.1,y4.2.2.2.1,()),y4.2.2.2.1,()))/\(P ((y4.1,y4.2.1,y4.2.2.1,y4.2.2.2.1,()),y4.2.2.2.1,())/\P ((y4.1,y4.2.1,y4.2.2.1,y4.2.2.2.1,()),y4.2.2.2.1,()))/\P ((y4.1,y4.2.1,y4.2.2.1,y4.2.2.2.1,()),y4.2.2.2.1,()))/\ ∃(y3:List Int),Dl.fn (p.1,())=some y3/\ ∃(y4:Ei),Gx.fn ((p.1,p.2.1,p.2.2.1,()),y3,())=some y4/\((P ((y4.1,y4.2.1,y4.2.2.1,y4.2.2.2.1,()),y4.2.2.2.1,())/\P ((y4.1,y4.2.1,y4.2.2.1,y4.2.2.2.1,()),y4.2.2.2.1,()))/\P ((y4.1,y4.2.1,y4.2.2.1,y4.2.2.2.1,()),y4.2.2.2.1,()))/\(P ((y4.1,y4.2.1,y4.2.2.1,y4.2.2.2.1,()),y4.2.2.2.1,())/\P ((y4.1,y4.2.1,y4.2.2.1,y4.2.2.2.1,()),y4.2.2.2.1,()))/\P ((y4.1,y4.2.1,y4.2.2.1,y4.2.2.2.1,()),y4.2.2.2.1,()))/\(∃(y3:List Int),Dl.fn (p.1,())=some y3/\ ∃(y4:Ei),Gx.fn ((p.1,p.2.1,p.2.2.1,()),y3,())=some y4/\((P ((y4.1,y4.2.1,y4.2.2.1,y4.2.2.2.1,()),y4.2.2.2.1,())/\P ((y4.1,y4.2.1,y4.2.2.1,y4.2.2.2.1,()),y4.2.2.2.1,()))/\P ((y4.1,y4.2.1,y4.2.2.1,y4.2.2.2.1,()),y4.2.2.2.1,()))/\(P ((y4.1,y4.2.1,y4.2.2.1,y4.2.2.2.1,()),y4.2.2.2.1,())/\P ((y4.1,y4.2.1,y4.2.2.1,y4.2.2.2.1,()),y4.2.2.2.1,()))/\P ((y4.1,y4.2.1,y4.2.2.1,y4.2.2.2.1,()),y4.2.2.2.1,()))/\(∃(y3:List Int),Dl.fn (p.1,())=some y3/\ ∃(y4:Ei),Gx.fn ((p.1,p.2.1,p.2.2.1,()),y3,())=some y4/\((P ((y4.1,y4.2.1,y4.2.2.1,y4.2.2.2.1,()),y4.2.2.2.1,())/\P ((y4.1,y4.2.1,y4.2.2.1,y4.2.2.2.1,()),y4.2.2.2.1,()))/\P ((y4.1,y4.2.1,y4.2.2.1,y4.2.2.2.1,()),y4.2.2.2.1,()))/\(P ((y4.1,y4.2.1,y4.2.2.1,y4.2.2.2.1,()),y4.2.2.2.1,())/\P ((y4.1,y4.2.1,y4.2.2.1,y4.2.2.2.1,()),y4.2.2.2.1,()))/\P ((y4.1,y4.2.1,y4.2.2.1,y4.2.2.2.1,()),y4.2.2.2.1,()))/\(∃(y3:List Int),Dl.fn (p.1,())=some y3/\ ∃(y4:Ei),Gx.fn ((p.1,p.2.1,p.2.2.1,()),y3,())=some y4/\((P ((y4.1,y4.2.1,y4.2.2.1,y4.2.2.2.1,()),y4.2.2.2.1,())/\P ((y4.1,y4.2.1,y4.2.2.1,y4.2.2.2.1,()),y4.2.2.2.1,()))/\P ((y4.1,y4.2.1,y4.2.2.1,y4.2.2.2.1,()),y4.2.2.2.1,()))/\(P ((y4.1,y4.2.1,y4.2.2.1,y4.2.2.2.1,()),y4.2.2.2.1,())/\P ((y4.1,y4.2.1,y4.2.2.1,y4.2.2.2.1,()),y4.2.2.2.1,()))/\P ((y4.1,y4.2.1,y4.2.2.1,y4.2.2.2.1,()),y4.2.2.2.1,()))/\ ∃(y3:List Int),Dl.fn (p.1,())=some y3/\ ∃(y4:Ei),Gx.fn ((p.1,p.2.1,p.2.2.1,()),y3,())=some y4/\((P ((y4.1,y4.2.1,y4.2.2.1,y4.2.2.2.1,()),y4.2.2.2.1,())/\P ((y4.1,y4.2.1,y4.2.2.1,y4.2.2.2.1,()),y4.2.2.2.1,()))/\P ((y4.1,y4.2.1,y4.2.2.1,y4.2.2.2.1,()),y4.2.2.2.1,()))/\(P ((y4.1,y4.2.1,y4.2.2.1,y4.2.2.2.1,()),y4.2.2.2.1,())/\P ((y4.1,y4.2.1,y4.2.2.1,y4.2.2.2.1,()),y4.2.2.2.1,()))/\P ((y4.1,y4.2.1,y4.2.2.1,y4.2.2.2.1,()),y4.2.2.2.1,())))=fnW Gr (look [(63,Im),(96,Dl),(126,Gx)]) Yy Tryz.f114 (p,()) P:=by kernel_rfl
theorem VP (xs is:List Int) (P:List Int->Prop):(((0:Int)<=(↑is.length:Int)/\(↑is.length:Int)<(↑Dj:Int)+(1:Int))/\(↑is.length:Int)=(↑is.length:Int)/\0=0/\(List.replicate (↑is.length:Int).toNat (Int.ofNat (nat_lit 0))).length=(List.replicate (↑is.length:Int).toNat (Int.ofNat (nat_lit 0))).length/\Di (λ(v3:Int×List Int×PUnit) (k4:Int×List Int×PUnit->Prop)=>Br (decide (v3.1<(↑is.length:Int))) (∃(y5:Int),idx is v3.1=some y5/\ ∃(y6:Int),idx xs y5=some y6/\((0:Int)<=v3.1/\v3.1<(↑v3.2.1.length:Int))/\0+v3.1.toNat<v3.2.1.length/\0=0/\v3.2.1.length=(v3.2.1.set (0+v3.1.toNat) y6).length/\k4 (IntKind.i64.wrap (v3.1+(1:Int)),v3.2.1.set (0+v3.1.toNat) y6,())) (P (List.take v3.2.1.length (List.drop 0 v3.2.1)))) ((0:Int),List.replicate (↑is.length:Int).toNat (Int.ofNat (nat_lit 0)),PUnit.unit))=fnW Gr (look []) br Tryz.f79 (xs,is,()) P:=by kernel_rfl
theorem xl {p:List Int} (h:bz p):Kj p=true:=by
 refine Is.2 ⟨h.pos,h.len,λj h1 h2=>?_⟩
 have:=h.row _ (Al h2)
 exact ⟨by omega,by omega,λhm=>by
  obtain ⟨i,hi,e⟩:=Bf.1 hm
  have mG:i<j:=by rw [Dc] at hi;omega
  rw [List.getElem_take] at e
  exact (Ej.1 h.nodup i j (by omega) h2 mG) e⟩
theorem Ie {p:PP} (hw:Gq p=true):Ca p=true/\(Hi p.2.2.1 (upto p.1.toNat)).2.2=true:=Bi.1 hw
theorem mz {p:PP} (hv:Ca p=true):Ve p p.1.toNat (Bd p) (Dp p):=(nS hv).ok
theorem nq {p:PP} (hV:Valid p):RC p.1.toNat λg=>some g∈p.2.2.1.map some:=
 ⟨by have:=hV.n;omega,λg gx=>by obtain ⟨g',e,h⟩:=nP (iv hV).2.2 _ gx;cases e;exact h⟩
theorem GQ {p:PP} (hv:Ca p=true) {x:List Int} (hx:x∈Bd p):Pm p.1.toNat x:=dg.pm (nq (valid hv)) ((nS hv).gen x hx)
theorem LS {p:PP} (hV:Valid p) {x:List Int} (h:Pm p.1.toNat x):Ht p.1 x=true:=by
 have:=hV.n
 have:=h.1
 exact Is.2 ⟨by omega,xl h.2⟩
theorem XK {p:PP} (_hV:Valid p) {x:List Int} (h:Ht p.1 x=true):Pm p.1.toNat x:=by
 obtain ⟨h1,h2⟩:=Is.1 h
 exact ⟨by omega,dy h2⟩
theorem Aj6 {p:PP} (hv:Ca p=true) {x:List Int} (hx:x∈Bd p):Ht p.1 x=true:=LS (valid hv) (GQ hv hx)
theorem ua {n:Nat} {x:List Int} (h:Pm n x):short x:=by
 have h1:=h.1
 have:=h.n2
 unfold short;omega
theorem oY {p:PP} {s:List Int} :Rr p s=true↔Gq p=true/\s∈Bd p:=by
 unfold Rr;rw [Ag,Kx]
theorem LO (p:PP) (h:Fc p):fnW Gr (look [(63,Im),(96,Dl),(126,Gx)]) Yy Tryz.f114 (p,()) (λ(z:SS×Bool×Unit)=>z=Dk p):=by
 refine Eq.mp (NY p _) ⟨_,Ab h,?_⟩
 show Br (!Ca p) _ _
 unfold Dk
 by_cases hv:Ca p=true
 ·rw [Ab hv,hv]
  refine ⟨λhb=>by simp at hb,λ_=>?_⟩
  have hn:=(valid hv).n
  have YA:Dl.fn (p.1,())=some (upto p.1.toNat):=Ab ⟨by show 0<=p.1;omega,by show p.1<=20;omega⟩
  have YR: ∀y∈upto p.1.toNat,0<=y/\y<p.1:= λy hy=>by have:=Qt.1 hy;omega
  have yM:Gx.fn ((p.1,p.2.1,p.2.2.1,()),upto p.1.toNat,())=some (Ds p.2.2.1 (upto p.1.toNat)):=Ab ⟨hv,by show (upto p.1.toNat).length<=20;rw [Sv];omega,YR⟩
  have hz:(((Ds p.2.2.1 (upto p.1.toNat)).1,(Ds p.2.2.1 (upto p.1.toNat)).2.1,(Ds p.2.2.1 (upto p.1.toNat)).2.2.1,(Ds p.2.2.1 (upto p.1.toNat)).2.2.2.1,()),(Ds p.2.2.1 (upto p.1.toNat)).2.2.2.1,())=(Ds p.2.2.1 (upto p.1.toNat),Gq p,()):=by
   unfold Gq
   rw [hv,Sx]
   rfl
  repeat' (first|exact hz|refine ⟨_,YA,?_⟩|refine ⟨_,yM,?_⟩|refine ⟨?_,?_⟩)
 ·rw [Ai hv]
  refine ⟨λ_=>rfl,λhb=>?_⟩
  exact absurd (by simpa using hb) hv
theorem uN:Sound Tryz.prog 114 Yy:=
 Sound.Hj Ee (Ba Zc (Ba c9 (Ba qI Bo))) mixed Tryz.func114 (by kernel_rfl) (by kernel_rfl) λx h=>LO x.1 h
theorem TO (xs is:List Int) (h:short is/\Ob xs.length is):fnW Gr (look []) br Tryz.f79 (xs,is,()) (λ(z:List Int)=>z=Ed xs is):=by
 obtain ⟨h,hr⟩:=h
 unfold short at h
 have Qo:(Ed xs is).length=is.length:=FZ xs is
 refine Eq.mp (VP xs is _) ⟨⟨by omega,by show (is.length:Int)<(4294967296:Int)+1;omega⟩,rfl,rfl,rfl,?_⟩
 refine Bw is.length (λv=>v.1) (λj v=>v.2.1.length=(Ed xs is).length/\v.2.1.take j=(Ed xs is).take j) rfl ⟨by rw [Qo];simp,by simp⟩ ?_
 rintro j ⟨i,ys,⟨⟩⟩ K hj hi ⟨h1,h2⟩ hK
 dsimp only at hi h1 h2⊢
 subst hi
 refine Br.dec (λhl=>?_) λhl=>?_
 ·have hl:j<is.length:=by omega
  have hx:=hr _ (Al hl)
  obtain ⟨xn,hxe⟩:=Jd hx.1
  have Mb:j<(Ed xs is).length:=by rw [Qo];exact hl
  have e:xs[xn]'(by omega)=(Ed xs is)[j]:=by
   simp only [Ed,eO,Ih,hxe,Ar]
   rw [Mm]
  refine ⟨_,Cj hl,xs[xn]'(by omega),by rw [hxe];exact Cj (by omega),⟨by omega,by omega⟩,by rw [Ar,Cb];omega,rfl,by rw [Dg],?_⟩
  rw [Bz (by omega),Ar,Cb,e]
  refine hK hl _ rfl ⟨by rw [Dg];exact h1,?_⟩
  rw [Ge,List.take_set_of_le (by omega),h2,List.getElem?_set_self (by omega),Ge,Ac Mb]
 ·have:j=is.length:=by omega
  subst this
  rw [Bv,<-Bc (l:=ys),h1,Qo,h2,<-Qo,Bc]
theorem wu:Sound Tryz.prog 79 br:=
 Sound.Hj Ee Bo mixed Tryz.func79 (by kernel_rfl) (by kernel_rfl) λx h=>TO x.1 x.2.1 h
theorem Aar {p:PP} (hv:Ca p=true):(Bd p).length<=3000:=(mz hv).ok.gu
theorem rY {p:PP} {t s:List Int} (hv:Ca p=true) (hs:s∈Bd p) (ht:Em p t=true):Ob s.length t:=by
 have h1:=(GQ hv hs).1
 have hn:=(valid hv).n
 intro y hy
 have:=(Hk ht).2 y hy
 omega
def Mc (g:List (List Int)) (s w:List Int):List Int:=w.foldl (λq l=>Af q (Am g l)) s
noncomputable abbrev Yp:Spec:=Hj (.pair tI (.pair kB (.pair tL .unit))) tL false true (λx=> ∃p:PP,Ca p=true/\p.1=x.1/\p.2.2.1=x.2.1/\Nb (List.length x.2.1:Nat) x.2.2.1=true) (λx=>Mc x.2.1 (upto x.1.toNat) x.2.2.1)
theorem jX {p:PP} (hV:Valid p) {l:Int} (hl:Fq (List.length p.2.2.1) l):Pm p.1.toNat (Am p.2.2.1 l):=by
 have hn:=hV.n
 obtain ⟨k,hk,Tc⟩:=Oc hl
 have hp:Pm p.1.toNat (p.2.2.1[k]):=⟨by have:=hV.len _ (Al hk);omega,dy (hV.perm _ (Al hk))⟩
 rcases Tc with rfl|rfl
 ·rw [On hk];exact hp
 ·rw [Om hk];exact hp.inv
theorem sw {p:PP} (hV:Valid p): ∀(w s:List Int),(∀l∈w,Fq (List.length p.2.2.1) l)->Pm p.1.toNat s->Pm p.1.toNat (Mc p.2.2.1 s w)
 | [],s,_,hs=>hs
 |l::w,s,hl,hs=>by
  have h1:=jX hV (hl l (by simp))
  exact sw hV w _ (λl' h=>hl l' (Ao _ h)) (hs.comp h1)
theorem pS {p:PP} (hV:Valid p) {s:List Int} (hs:Pm p.1.toNat s): ∀(w q:List Int),(∀l∈w,Fq (List.length p.2.2.1) l)->Pm p.1.toNat q->Af s (Mc p.2.2.1 q w)=Mc p.2.2.1 (Af s q) w
 | [],q,_,_=>rfl
 |l::w,q,hl,hq=>by
  have h1:=jX hV (hl l (by simp))
  have h2:=pS hV hs w _ (λl' h=>hl l' (Ao _ h)) (hq.comp h1)
  show Af s (Mc p.2.2.1 (Af q (Am p.2.2.1 l)) w)=Mc p.2.2.1 (Af (Af s q) (Am p.2.2.1 l)) w
  rw [h2,Kh hs hq h1]
theorem IK {g:List (List Int)} {s w:List Int} {j:Nat} (h:j<w.length):Mc g s (w.take (j+1))=Af (Mc g s (w.take j)) (Am g w[j]):=by
 unfold Mc
 rw [Ge,Ac h,Ub,Vy]
 rfl
theorem Aae {n:Nat} {q:List Int} (h:Pm n q):q.length<=20:=by have:=h.1;have:=h.n2;omega
theorem GB {n:Nat} {p q:List Int} (hp:Pm n p) (hq:Pm n q):Ob q.length p:=by rw [hq.1];exact hp.row
theorem map_take {α β:Type} (f:α->β) {xs:List α} {j:Nat} (h:j<xs.length):(xs.take (j+1)).map f=(xs.take j).map f++ [f xs[j]]:=by
 rw [Ge,Ac h,Mj];rfl
theorem Zd {p:PP} (hw:Gq p=true):eQ p.2.2.1 (Ax p.2.2.1.length) (Bd p):=by
 obtain ⟨hv,hb⟩:=Ie hw
 have hV:=valid hv
 have hn:=hV.n
 exact du hV (mz hv) (eY hv (by rw [Sv];omega) (λy hy=>by have:=Qt.1 hy;omega) hb)
theorem xX {p:PP} (hw:Gq p=true):oH p.2.2.1 (Ax p.2.2.1.length) (Bd p) (Dp p):=by
 obtain ⟨hv,hb⟩:=Ie hw
 have hn:=(valid hv).n
 exact eY hv (by rw [Sv];omega) (λy hy=>by have:=Qt.1 hy;omega) hb
theorem AF {p:PP} (hw:Gq p=true) (Q:List Int->Prop) (hQ: ∀x∈Bd p,Q x-> ∀l∈Ax p.2.2.1.length,Q (Af x (Am p.2.2.1 l))) {x:List Int} (hx:x∈Bd p) (hq:Q x):
  ∀y∈Bd p,Q y:=by
 have hc:=Zd hw
 have hL:=xX hw
 have up: ∀(j:Nat),j<(Bd p).length->Q ((Bd p).getD j [])->Q ((Bd p).getD 0 []):=by
  intro j
  induction j using Nat.strongRecOn with
  |_ j ih=>
   intro hj hqj
   by_cases e:j=0
   ·subst e;exact hqj
   ·obtain ⟨i,l,h1,h2,h3,_⟩:=hL.par j (by omega) hj
    have hi:i<(Bd p).length:=by omega
    obtain ⟨b1,b2⟩:=hc.back _ (dY hi) l h2
    refine ih i h1 hi ?_
    have:=hQ _ (dY hj) hqj _ b1
    rwa [h3,b2] at this
 have down:Q ((Bd p).getD 0 [])-> ∀(j:Nat),j<(Bd p).length->Q ((Bd p).getD j []):=by
  intro h0 j
  induction j using Nat.strongRecOn with
  |_ j ih=>
   intro hj
   by_cases e:j=0
   ·subst e;exact h0
   ·obtain ⟨i,l,h1,h2,h3,_⟩:=hL.par j (by omega) hj
    have hi:i<(Bd p).length:=by omega
    rw [h3]
    exact hQ _ (dY hi) (ih i h1 hi) l h2
 obtain ⟨j,hj,rfl⟩:=Bf.1 hx
 rw [<-Mm (d:= []) hj] at hq
 intro y hy
 obtain ⟨k,hk,rfl⟩:=Bf.1 hy
 rw [<-Mm (d:= []) hk]
 exact down (up j hj hq) k hk
theorem EJ {p:PP} (hV:Valid p):(Ax p.2.2.1.length).length<=16:=by rw [Oo];have:=hV.gu;omega
theorem Pn {s q t:List Int} (h:Ob s.length t):Ed (Af s q) t=Af (Ed s t) q:=by
 unfold Ed Af
 rw [List.map_map]
 refine Eu λy hy=>?_
 obtain ⟨h1,h2⟩:=h y hy
 have hy':y.toNat<s.length:=by omega
 show Ih (s.map (Ih q)) y=Ih q (Ih s y)
 unfold Ih
 rw [Mm (by rw [Gh];exact hy'),eO,Mm hy']
 try rfl
theorem ka {n:Nat} {t:List Int} (h: ∀y∈t,0<=y/\y<(n:Int)):Ed (upto n) t=t:=by
 unfold Ed
 refine (Eu λy hy=>?_).trans (List.map_id t)
 obtain ⟨h1,h2⟩:=h y hy
 obtain ⟨k,rfl⟩:=Jd h1
 have hk:k<n:=by omega
 show Ih (upto n) (k:Int)=(k:Int)
 unfold Ih
 rw [Ar,Aj,jC hk]
 rfl
theorem sat_iff {goal s:List Int} :PY goal s=true↔Ed s goal=goal:=by
 unfold PY Ed
 rw [Bb]
 constructor
 ·intro h
  exact (Eu λy hy=>Ik (h y hy)).trans (List.map_id goal)
 ·intro h y hy
  obtain ⟨j,hj,rfl⟩:=Bf.1 hy
  have h2:(goal.map (Ih s))[j]?=goal[j]?:=Gz (λz:List Int=>z[j]?) h
  rw [Fk,Ac hj] at h2
  exact Cy (Az h2)
theorem Vh {p:PP} (hv:Ca p=true):(Bd p).getD 0 []=upto p.1.toNat/\upto p.1.toNat∈Bd p:=by
 obtain ⟨A,h⟩:=(nS hv).first
 have h:Bd p=upto p.1.toNat::A:=h
 rw [h]
 exact ⟨rfl,by simp⟩
noncomputable def bV (p:PP) (t:List Int):List (List Int):=(Hi p.2.2.1 t).1
noncomputable def zj (p:PP) (t:List Int):List Int:=(Hi p.2.2.1 t).2.1
noncomputable def EP (p:PP) (t x:List Int):Int:=Iq (bV p t) (zj p t) x
theorem dc {p:PP} {t:List Int} (ht:Em p t=true): ∀y∈t,0<=y/\y<((p.1.toNat:Nat):Int):= λy hy=>by
 have h1:=(Hk ht).2 y hy
 have:=(valid (Ss.1 ht).1).n
 omega
theorem TU {p:PP} {t:List Int} (hw:Gq p=true) (ht:Em p t=true):(Hi p.2.2.1 t).2.2=true:=by
 have hv:=(Ie hw).1
 have hV:=valid hv
 obtain ⟨t1,t2⟩:=Hk ht
 have bM:=mh ht
 obtain ⟨a1,_,a3⟩:=OH hv t1 t2 (λx=> ∃s∈Bd p,x=Ed s t) ⟨_,(Vh hv).2,(ka (dc ht)).symm⟩ λx ⟨s,hs,hx⟩ l hl=>by
  refine ⟨_,(Zd hw).next s hs l hl,?_⟩
  rw [hx,Pn (rY hv hs ht)]
 refine Bu λhn=>?_
 obtain ⟨h1,z,⟨s,hs,hz⟩,h3⟩:=a3 (by simpa using hn)
 have h5:=tS (l1:=z::(Hi p.2.2.1 t).1) (l2:=(Bd p).map λs=>Ed s t) (Ce.2 ⟨h3,bM.ok.nodup⟩) λx hx=>by
  rcases Bg.1 hx with rfl|hx
  ·exact Bj.2 ⟨s,hs,hz.symm⟩
  ·obtain ⟨s',DU,e⟩:=a1 x hx
   exact Bj.2 ⟨s',DU,e.symm⟩
 have h6:=Aar hv
 simp only [Aw,Gh] at h5
 omega
theorem u7 {p:PP} {t:List Int} (hw:Gq p=true) (ht:Em p t=true):oH p.2.2.1 (Ax p.2.2.1.length) (bV p t) (zj p t):=
 eY (Ie hw).1 (Hk ht).1 (Hk ht).2 (TU hw ht)
theorem pw {p:PP} {t:List Int} (ht:Em p t=true):(bV p t).getD 0 []=t/\t∈bV p t:=by
 obtain ⟨_,A,h⟩:=yq (Ss.1 ht).1 (Hk ht).1 (Hk ht).2
 have h:bV p t=t::A:=h
 rw [h]
 exact ⟨rfl,by simp⟩
theorem Aad {p:PP} {t:List Int} (hw:Gq p=true) (ht:Em p t=true): ∀s∈Bd p,Ed s t∈bV p t:=by
 have hv:=(Ie hw).1
 have hc:=du (valid hv) (mh ht) (u7 hw ht)
 refine AF hw (λs=>Ed s t∈bV p t) (λx hx hq l hl=>?_) (Vh hv).2 ?_
 ·rw [Pn (rY hv hx ht)]
  exact hc.next _ hq l hl
 ·rw [ka (dc ht)]
  exact (pw ht).2
theorem Aac {p:PP} {t:List Int} (hw:Gq p=true) (ht:Em p t=true):
  Mk p.2.2.1 (Ax p.2.2.1.length) (Bd p) (λs=>PY t s=true) (λs=>EP p t (Ed s t)):=by
 have hv:=(Ie hw).1
 have hd:=ql (valid hv) (mh ht) (u7 hw ht)
 have gR:=Aad hw ht
 refine ⟨λx hx=>hd.nn _ (gR x hx),λx hx=>(hd.zero _ (gR x hx)).trans ?_,λx hx l hl=>?_,λx hx h0=>?_⟩
 ·rw [show (Hi p.2.2.1 t).1.getD 0 []=t from (pw ht).1]
  exact sat_iff.symm
 ·rw [Pn (rY hv hx ht)]
  exact hd.step _ (gR x hx) l hl
 ·obtain ⟨l,hl,h1⟩:=hd.down _ (gR x hx) h0
  refine ⟨l,hl,?_⟩
  rw [Pn (rY hv hx ht)]
  exact h1
theorem Aib {p:PP} {t:List Int} (ht:Em p t=true):PY t (upto p.1.toNat)=true:=sat_iff.2 (ka (dc ht))
def cc (g:List (List Int)) (dep:List Int->Int) (ls:List Int):Nat->List Int->List Int->List Int×List Int
 |0,x,w=>(w,x)
 |n+1,x,w=>match ls.find? (λl=>decide (dep (Af x (Am g l))=n)) with
  |some l=>cc g dep ls n (Af x (Am g l)) (w++ [l])
  |none=>cc g dep ls n x w
noncomputable abbrev Pp:Spec:=Hj (.pair bb (.pair tL .unit)) tI false true (λx=>Gf (List.length x.2.1) x.1.1 x.1.2.2.1/\List.length x.1.2.1=List.length x.1.1) (λx=>Iq x.1.1 x.1.2.1 x.2.1)
theorem VG (f:List (List Int)×List Int×List Int×Bool×Unit) (s:List Int) (P:Int->Prop):(∃(y3:Int),Wu.fn ((f.1,f.2.1,f.2.2.1,f.2.2.2.1,()),s,())=some y3/\Br (decide (y3<(0:Int))) (P (-1:Int)) (∃(y4:Int),idx f.2.1 y3=some y4/\P y4))=fnW Gr (look [(75,Wu)]) Pp Tryz.f115 (f,s,()) P:=by kernel_rfl
theorem TF (f:SS) (s:List Int) (h:Gf (List.length s) f.1 f.2.2.1/\List.length f.2.1=List.length f.1):fnW Gr (look [(75,Wu)]) Pp Tryz.f115 (f,s,()) (λ(z:Int)=>z=Iq f.1 f.2.1 s):=by
 obtain ⟨h1,h2⟩:=h
 refine Eq.mp (VG f s _) ⟨_,Ab h1,?_⟩
 show Br (decide (l7 f.1 s<0)) _ _
 unfold l7 Iq
 by_cases hm:s∈f.1
 ·have hl:=List.idxOf_lt_length_of_mem hm
  rw [Ab hm,Ab hm]
  refine Br.dec (λhn=>absurd hn (by omega)) λ_=>?_
  have JP:List.idxOf s f.1<f.2.1.length:=by omega
  refine ⟨f.2.1[List.idxOf s f.1],?_,by rw [Mm JP]⟩
  show idx f.2.1 (if s∈f.1 then ((List.idxOf s f.1:Nat):Int) else-1)=_
  rw [Ab hm]
  exact Cj JP
 ·rw [Ai hm,Ai hm]
  exact ⟨λ_=>rfl,λhn=>by simp at hn⟩
theorem lf:Sound Tryz.prog 115 Pp:=
 Sound.Hj Ee (Ba o8 Bo) mixed Tryz.func115 (by kernel_rfl) (by kernel_rfl) λx h=>TF x.1 x.2.1 h
noncomputable def Na (p:PP) (s:List Int):List Int:=(cc p.2.2.1 (Iq (Bd p) (Dp p)) (Ax p.2.2.1.length) (Iq (Bd p) (Dp p) s).toNat s []).1
noncomputable abbrev mq:MSpec:=jZ [some 3,some 4,none] [(false, .Eh tI),(false, .Eh .str),(false, .Eh kB),(false, .Eh kB),(false, .Eh tL),(false, .Eh tL),(false, .Eh .bool),(false, .Eh tL)] false [none] [rL]
 (λx=>Gq (x.1,x.2.1,x.2.2.1,())=true/\(x.2.2.2.1,x.2.2.2.2.1,x.2.2.2.2.2.1,x.2.2.2.2.2.2.1,())=Ds x.2.2.1 (upto x.1.toNat)/\x.2.2.2.2.2.2.2.1∈Bd (x.1,x.2.1,x.2.2.1,())) (λx=>((Na (x.1,x.2.1,x.2.2.1,()) x.2.2.2.2.2.2.2.1,()),()))
noncomputable abbrev kf:Spec:=Hj (.pair Jc (.pair tL (.pair tI .unit))) tL false false (λx=>Ca x.1=true/\List.length x.2.1<=20/\(∀y∈x.2.1,0<=y/\y<x.1.1)/\Fq (List.length x.1.2.2.1) x.2.2.1) (λx=>Af x.2.1 (Am x.1.2.2.1 x.2.2.1))
abbrev s7:Type:=List Int×Int×Int×ByteArray×List (List Int)×List (List Int)×List Int×List Int×Bool×List Int×PUnit
theorem Aji (n:Int) (str:ByteArray) (g L:List (List Int)) (D Ly:List Int) (b:Bool) (s:List Int) (P:((List Int×Unit)×Unit)->Prop):(∃(y9:List Int),Oe.fn ((n,str,g,()),())=some y9/\ ∃(Jw:Int),Pp.fn ((L,D,Ly,b,()),s,())=some Jw/\0=0/\0=([]:List Int).length/\Di (λ(v11:s7) (k12:s7->Prop)=>Br (decide (v11.2.1>(0:Int))) (0=0/\v11.2.2.2.2.2.2.2.2.2.1.length=v11.2.2.2.2.2.2.2.2.2.1.length/\Di (λ(cj:s7) (k14:s7->Prop)=>Br (decide (cj.2.1<(↑y9.length:Int))) (∃(Io:Int),idx y9 cj.2.1=some Io/\ ∃(Ha:List Int),kf.fn ((cj.2.2.1,cj.2.2.2.1,cj.2.2.2.2.1,()),cj.1,Io,())=some Ha/\ ∃(Iy:Int),Pp.fn ((cj.2.2.2.2.2.1,cj.2.2.2.2.2.2.1,cj.2.2.2.2.2.2.2.1,cj.2.2.2.2.2.2.2.2.1,()),Ha,())=some Iy/\Br (Iy==IntKind.i64.wrap (v11.2.1-(1:Int))) (∃(IC:Int),idx y9 cj.2.1=some IC/\0=0/\cj.2.2.2.2.2.2.2.2.2.1.length=cj.2.2.2.2.2.2.2.2.2.1.length/\cj.2.2.2.2.2.2.2.2.2.1.length+(List.take 1 (List.drop 0 [IC])).length<=Dj/\0=0/\(cj.2.2.2.2.2.2.2.2.2.1++List.take 1 (List.drop 0 [IC])).length=(cj.2.2.2.2.2.2.2.2.2.1++List.take 1 (List.drop 0 [IC])).length/\k12 (Ha,IntKind.i64.wrap (v11.2.1-(1:Int)),cj.2.2.1,cj.2.2.2.1,cj.2.2.2.2.1,cj.2.2.2.2.2.1,cj.2.2.2.2.2.2.1,cj.2.2.2.2.2.2.2.1,cj.2.2.2.2.2.2.2.2.1,cj.2.2.2.2.2.2.2.2.2.1++List.take 1 (List.drop 0 [IC]),())) (0=0/\cj.2.2.2.2.2.2.2.2.2.1.length=cj.2.2.2.2.2.2.2.2.2.1.length/\k14 (cj.1,IntKind.i64.wrap (cj.2.1+(1:Int)),cj.2.2.1,cj.2.2.2.1,cj.2.2.2.2.1,cj.2.2.2.2.2.1,cj.2.2.2.2.2.2.1,cj.2.2.2.2.2.2.2.1,cj.2.2.2.2.2.2.2.2.1,cj.2.2.2.2.2.2.2.2.2.1,()))) (0=0/\cj.2.2.2.2.2.2.2.2.2.1.length=cj.2.2.2.2.2.2.2.2.2.1.length/\k12 (cj.1,IntKind.i64.wrap (v11.2.1-(1:Int)),cj.2.2.1,cj.2.2.2.1,cj.2.2.2.2.1,cj.2.2.2.2.2.1,cj.2.2.2.2.2.2.1,cj.2.2.2.2.2.2.2.1,cj.2.2.2.2.2.2.2.2.1,cj.2.2.2.2.2.2.2.2.2.1,()))) (v11.1,(0:Int),v11.2.2.1,v11.2.2.2.1,v11.2.2.2.2.1,v11.2.2.2.2.2.1,v11.2.2.2.2.2.2.1,v11.2.2.2.2.2.2.2.1,v11.2.2.2.2.2.2.2.2.1,v11.2.2.2.2.2.2.2.2.2.1,PUnit.unit)) (P ((List.take v11.2.2.2.2.2.2.2.2.2.1.length (List.drop 0 v11.2.2.2.2.2.2.2.2.2.1),()),()))) (s,Jw,n,str,g,L,D,Ly,b,[],PUnit.unit))=fnMW Rk (look [(65,Oe),(115,Pp),(66,kf)]) mq Tryz.f53 (n,str,g,L,D,Ly,b,s,()) P:=by kernel_rfl
theorem wi:Sound Tryz.prog 66 kf:=o1.loose
theorem We {p:PP} (hw:Gq p=true):Mk p.2.2.1 (Ax p.2.2.1.length) (Bd p) (λx=>x=(Bd p).getD 0 []) (Iq (Bd p) (Dp p)):=
 ql (valid (Ie hw).1) (mz (Ie hw).1) (xX hw)
theorem oO {p:PP} (hw:Gq p=true) {x:List Int} (hx:x∈Bd p):0<=Iq (Bd p) (Dp p) x/\Iq (Bd p) (Dp p) x<=3000:=by
 have bM:=mz (Ie hw).1
 have lX:=bM.ok.gu
 refine ⟨(We hw).nn x hx,?_⟩
 obtain ⟨i,hi,rfl⟩:=Bf.1 hx
 have hiD:i<(Dp p).length:=by rw [bM.len];exact hi
 have h1:=bM.dep i hiD
 have h2:Iq (Bd p) (Dp p) ((Bd p)[i])=(Dp p).getD i 0:=by
  rw [<-Mm (d:= []) hi];exact lS bM.ok.nodup hi
 rw [h2,Mm hiD]
 omega
theorem Air (n0:Int) (str:ByteArray) (g L:List (List Int)) (D Ly:List Int) (b:Bool) (s:List Int) (h:Gq (n0,str,g,())=true/\(L,D,Ly,b,())=Ds g (upto n0.toNat)/\s∈Bd (n0,str,g,())):
  fnMW Rk (look [(65,Oe),(115,Pp),(66,kf)]) mq Tryz.f53 (n0,str,g,L,D,Ly,b,s,()) (λ(z:(List Int×Unit)×Unit)=>z=((Na (n0,str,g,()) s,()),())):=by
 obtain ⟨hw,hse,hs⟩:=h
 obtain ⟨p,JT⟩: ∃p:PP,(n0,str,g,())=p:=⟨_,rfl⟩
 have e1:n0=p.1:=by rw [<-JT]
 have e2:str=p.2.1:=by rw [<-JT]
 have e3:g=p.2.2.1:=by rw [<-JT]
 rw [JT] at hw hs
 have hL:L=(Ds p.2.2.1 (upto p.1.toNat)).1:=by rw [<-e3,<-e1,<-hse]
 have hD:D=(Ds p.2.2.1 (upto p.1.toNat)).2.1:=by rw [<-e3,<-e1,<-hse]
 have hS:Ly=(Ds p.2.2.1 (upto p.1.toNat)).2.2.1:=by rw [<-e3,<-e1,<-hse]
 have hB:b=(Ds p.2.2.1 (upto p.1.toNat)).2.2.2.1:=by rw [<-e3,<-e1,<-hse]
 refine Eq.mp (Aji n0 str g L D Ly b s _) ?_
 rw [JT,e1,e2,e3,hL,hD,hS,hB]
 clear hse hL hD hS hB JT e1 e2 e3
 have hv:=(Ie hw).1
 have hV:=valid hv
 have hn:=hV.n
 have bM:=mz hv
 have lX:=bM.ok.gu
 have hc:=Zd hw
 have hd:=We hw
 obtain ⟨ls,pa⟩: ∃ls,Ax p.2.2.1.length=ls:=⟨_,rfl⟩
 have ny: ∀l∈ls,Fq (List.length p.2.2.1) l:= λl hl=>Lo (pa▸hl)
 have yL: ∀x,Iq (Bd p) (Dp p) x=Iq (Bd p) (Dp p) x:= λx=>rfl
 rw [pa] at hc hd
 have hdo: ∀x:List Int,x.length=p.1.toNat->Pp.fn (((Ds p.2.2.1 (upto p.1.toNat)).1,(Ds p.2.2.1 (upto p.1.toNat)).2.1,(Ds p.2.2.1 (upto p.1.toNat)).2.2.1,(Ds p.2.2.1 (upto p.1.toNat)).2.2.2.1,()),x,())=some (Iq (Bd p) (Dp p) x):= λx hx=>
  Ab ⟨by show Gf x.length (Bd p) (cb (Bd p));rw [hx];exact bM.ok,bM.len⟩
 have hlf:=EJ hV
 rw [pa] at hlf
 have hsl:=(GQ hv hs).1
 have hd0:0<=Iq (Bd p) (Dp p) s/\Iq (Bd p) (Dp p) s<=3000:=oO hw hs
 unfold Na
 rw [pa]
 refine ⟨ls,(Ab hV.gu.2).trans (Gz some pa),_,hdo _ hsl,rfl,rfl,?_⟩
 obtain ⟨R,hR⟩: ∃R,cc p.2.2.1 (Iq (Bd p) (Dp p)) ls (Iq (Bd p) (Dp p) s).toNat s []=R:=⟨_,rfl⟩
 rw [hR]
 obtain ⟨n0,hn0⟩:=Jd hd0.1
 rw [hn0] at hR hd0⊢
 rw [Ar] at hR
 refine Di.mk (λv=> ∃(x:List Int) (n:Nat) (w:List Int),v=(x,(n:Int),p.1,p.2.1,p.2.2.1,(Ds p.2.2.1 (upto p.1.toNat)).1,(Ds p.2.2.1 (upto p.1.toNat)).2.1,(Ds p.2.2.1 (upto p.1.toNat)).2.2.1,(Ds p.2.2.1 (upto p.1.toNat)).2.2.2.1,w,())/\x∈Bd p/\Iq (Bd p) (Dp p) x=n/\w.length+n<=3000/\cc p.2.2.1 (Iq (Bd p) (Dp p)) ls n x w=R) (λv=>v.2.1.toNat)
  ⟨s,n0,[],rfl,hs,hn0,by simp only [Eo];omega,hR⟩ ?_
 rintro v ⟨x,n,w,rfl,g1,g2,g3,g4⟩
 dsimp only
 refine Br.dec (λhl=>⟨rfl,rfl,?_⟩) λhl=>?_
 ·obtain ⟨n,rfl⟩: ∃n',n=n'+1:=⟨n-1,by omega⟩
  simp only [cc] at g4
  have vu:x.length=p.1.toNat:=(GQ hv g1).1
  have PM: ∀y∈x,0<=y/\y<p.1:=bM.row x g1
  have hwr:IntKind.i64.wrap (((n+1:Nat):Int)-1)=(n:Int):=by rw [Cn (by omega) (by omega)];omega
  rw [hwr]
  refine Bw ls.length (λv=>v.2.1) (λi v=>v=(x,(i:Int),p.1,p.2.1,p.2.2.1,(Ds p.2.2.1 (upto p.1.toNat)).1,(Ds p.2.2.1 (upto p.1.toNat)).2.1,(Ds p.2.2.1 (upto p.1.toNat)).2.2.1,(Ds p.2.2.1 (upto p.1.toNat)).2.2.2.1,w,())/\
   (ls.drop i).find? (λl=>decide (Iq (Bd p) (Dp p) (Af x (Am p.2.2.1 l))=n))=ls.find? (λl=>decide (Iq (Bd p) (Dp p) (Af x (Am p.2.2.1 l))=n))) rfl ⟨rfl,by rw [Fy]⟩ ?_
  rintro i v K hi hii ⟨rfl,hf⟩ hK
  dsimp only
  refine Br.dec (λWA=>?_) λWA=>?_
  ·have WA:i<ls.length:=by omega
   have hlm:=Al WA
   have kr:=ny _ hlm
   obtain ⟨nl,nr⟩:=nM hV PM kr
   have YF:=hc.next x g1 _ hlm
   rw [Fg WA] at hf
   refine ⟨_,Cj WA,_,Ab ⟨hv,by show x.length<=20;omega,PM,kr⟩,_,hdo _ (by rw [<-vu];exact nl),Br.of (λhb=>?_) λhb=>?_⟩
   ·have hb:Iq (Bd p) (Dp p) (Af x (Am p.2.2.1 ls[i]))=n:=by simpa using hb
    rw [List.find?_cons_of_pos (by simpa using hb)] at hf
    rw [<-hf] at g4
    refine ⟨_,Cj WA,rfl,rfl,?_,rfl,rfl,⟨_,n,w++ [ls[i]],rfl,YF,hb,by rw [Au,Be];omega,g4⟩,?_⟩
    ·show w.length+1<=4294967296;omega
    ·show ((n:Int)).toNat<(((n+1:Nat):Int)).toNat
     omega
   ·have hb: ¬Iq (Bd p) (Dp p) (Af x (Am p.2.2.1 ls[i]))=n:=by simpa using hb
    rw [List.find?_cons_of_neg (by simpa using hb)] at hf
    refine ⟨rfl,rfl,?_⟩
    rw [Bz (by omega)]
    exact hK WA _ rfl ⟨rfl,hf⟩
  ·have:i=ls.length:=by omega
   subst this
   rw [Tj,List.find?_nil] at hf
   obtain ⟨l,hlm,hle⟩:=hd.down x g1 (by rw [yL,g2];omega)
   have:=List.find?_eq_none.1 hf.symm l hlm
   rw [yL,yL,g2] at hle
   exact absurd (Cy (by rw [hle];omega)) this
 ·rw [Bv]
  have:n=0:=by omega
  subst this
  rw [<-g4]
  rfl
theorem MP:Cl Tryz.prog 53 mq:=
 Cl.jZ Qm (Ba gJ (Ba lf (Ba wi Bo))) mixed Tryz.func53 (by kernel_rfl) (by kernel_rfl) λx h=>Air x.1 x.2.1 x.2.2.1 x.2.2.2.1 x.2.2.2.2.1 x.2.2.2.2.2.1 x.2.2.2.2.2.2.1 x.2.2.2.2.2.2.2.1 h
theorem my {g:List (List Int)} {dep:List Int->Int} {ls:List Int} : ∀(n:Nat) (x w:List Int),(∀l∈w,l∈ls)-> ∀l∈(cc g dep ls n x w).1,l∈ls
 |0,x,w,h=>h
 |n+1,x,w,h=>by
  simp only [cc]
  split
  ·rename_i l hf
   refine my n _ _ λl' hl=>?_
   rcases Ay.1 hl with h2|h2
   ·exact h l' h2
   ·rw [Ad.1 h2];exact List.mem_of_find?_eq_some hf
  ·exact my n x w h
theorem MX {g:List (List Int)} {dep:List Int->Int} {ls:List Int} : ∀(n:Nat) (x w:List Int),(cc g dep ls n x w).1.length<=w.length+n
 |0,x,w=>Ap _
 |n+1,x,w=>by
  simp only [cc]
  split
  ·rename_i l hf
   have:=MX (g:=g) (dep:=dep) (ls:=ls) n (Af x (Am g l)) (w++ [l])
   rw [Au,Be] at this
   omega
  ·have:=MX (g:=g) (dep:=dep) (ls:=ls) n x w
   omega
theorem XF {p:PP} (hw:Gq p=true) {s:List Int} (hs:s∈Bd p):(Na p s).length<=3000:=by
 have h1:=MX (g:=p.2.2.1) (dep:=Iq (Bd p) (Dp p)) (ls:=Ax p.2.2.1.length) (Iq (Bd p) (Dp p) s).toNat s []
 have h2:=oO hw hs
 unfold Na
 simp only [Eo] at h1
 omega
structure Part (n k:Nat) (s:Gw×Gw):Prop where
 l1:s.1.length=n
 l2:s.2.length=n
 pg:PG n k (s.1.getD k [])
 row:Xj n k (s.1.getD k []) (s.2.getD k [])
 comp:qT n (n-(k+1)) (k+1) s
 gb:GBf (n-(k+1)) (k+1) s
 sub: ∀g,some g∈s.1.getD (k+1) []->Gn n (s.1.getD k []) g
def Hd (n k:Nat) (s:Gw×Gw) (q:List Int):Prop:= ∃t,(s.2.getD k []).getD (ap q k) none=some t/\Pg s.2 (n-(k+1)) (k+1) (Af q (Bt t))=true
structure wT (n k:Nat) (s s':Gw×Gw):Prop where
 grow:bx k s s'
 same:s'.1.getD k []=s.1.getD k []
 part:Part n k s'
 Ft: ∀q,Pm n q->Fx k q->Hd n k s q->Hd n k s' q
 new: ∀y t,(s'.2.getD k []).getD y none=some t->(s.2.getD k []).getD y none=some t\/ ∀g,some g∈s.1.getD k []->Hd n k s' (Af t g)
theorem wT.refl {n k:Nat} {s:Gw×Gw} (h:Part n k s):wT n k s s:=⟨bx.refl _ _,rfl,h,λ_ _ _ h=>h,λ_ _ h=> .inl h⟩
theorem Part.tg {n k:Nat} {s:Gw×Gw} (h:Part n k s) (hk:k<n) {y:Nat} {t g:List Int} (ht:(s.2.getD k []).getD y none=some t) (hg:some g∈s.1.getD k []):Pm n (Af t g)/\Fx k (Af t g)/\ap (Af t g) k=ap g y:=by
 obtain ⟨t1,t2,t3,t4⟩:=h.row.rt _ _ ht
 obtain ⟨g',e,g1,g2⟩:=h.pg _ hg
 cases e
 exact ⟨t1.comp g1,Fx.comp t1 g1 t2 g2 (by omega),by rw [Ml t1 g1 hk,t3]⟩
theorem wT.trans {n k:Nat} {a b c:Gw×Gw} (hk:k<n) (h:wT n k a b) (h':wT n k b c):wT n k a c:=by
 refine ⟨h.grow.trans h'.grow (Ap _),h'.same.trans h.same,h'.part,λq h1 h2 h3=>h'.Ft q h1 h2 (h.Ft q h1 h2 h3),λy t e=>?_⟩
 rcases h'.new y t e with e1|e1
 ·rcases h.new y t e1 with e2|e2
  ·exact .inl e2
  ·refine .inr λg hg=>?_
   obtain ⟨p1,p2,_⟩:=h.part.tg hk e1 (by rw [h.same];exact hg)
   exact h'.Ft _ p1 p2 (e2 g hg)
 ·exact .inr λg hg=>e1 g (by rw [h.same];exact hg)
theorem Part.v {n k:Nat} {s:Gw×Gw} (h:Part n k s):V n (n-(k+1)) (k+1) s:=⟨h.l1,h.l2,h.comp,h.gb⟩
def yd (p:PP) (gs:List (List Int)):Prop:=gs.length<=5/\ ∀g∈gs,Em p g=true
theorem uP {g:List (List Int)} {dep:List Int->Int} {ls:List Int} : ∀(n:Nat) (x w:List Int),∃u,(cc g dep ls n x w).1=w++u/\(cc g dep ls n x w).2=Mc g x u
 |0,x,w=>⟨[],by simp [cc],rfl⟩
 |n+1,x,w=>by
  simp only [cc]
  split
  ·rename_i l _
   obtain ⟨u,h1,h2⟩:=uP (g:=g) (dep:=dep) (ls:=ls) n (Af x (Am g l)) (w++ [l])
   exact ⟨l::u,by rw [h1,Co];rfl,h2⟩
  ·exact uP n x w
theorem yd.take {p:PP} {gs:List (List Int)} (h:yd p gs) (j:Nat):yd p (gs.take j):=⟨by rw [Dc];have:=h.1;omega,λg hg=>h.2 g (Ey hg)⟩
abbrev BB:Type:=List TT×List (ByteArray->Option Int)×Unit
def VA:List (List Int)->List Int->(ByteArray->Option Int)->ByteArray->Option Int
 |x::xs,d::ds,m=>VA xs ds (jA m (Xn x) d)
 |_,_,m=>m
def Wo (t:TT):ByteArray->Option Int:=VA t.2.1 t.2.2.1 λ_=>none
def Cw (ts:List TT):BB:=(ts,ts.map Wo,())
structure QZ (t:TT):Prop where
 gu:t.2.1.length<=3000
 len:t.2.2.1.length=t.2.1.length
 nodup:t.2.1.Nodup
 byte: ∀x∈t.2.1,gn x
 Acw: ∀d∈t.2.2.1,0<=d/\d<=3000
 tl:t.1.length<=20
 pl: ∀x∈t.2.1,x.length<=20
def ig (ts:List TT):Prop:=ts.length<=4/\ ∀t∈ts,QZ t
def aW (t:TT) (s:List Int):Int:=t.2.2.1.getD (t.2.1.idxOf (Ed s t.1)) 0
def aq (ts:List TT) (s:List Int):List Int:=ts.map λt=>aW t s
def Ir (ts:List TT) (s:List Int):Int:=(aq ts s).foldl max 0
def oI (ts:List TT) (s:List Int):Prop:=s.length<=20/\ ∀t∈ts,Ob s.length t.1/\Ed s t.1∈t.2.1
noncomputable abbrev Vr:Spec:=Hj (.pair tTS .unit) (.optr Xa) false false (λx=>ig x.1) (λx=>some (Cw x.1))
def WI (b:Option BB) (s:List Int):Prop:= ∃ts,ig ts/\b=some (Cw ts)/\oI ts s
def ZP (b:Option BB) (s:List Int):List Int:=match b with|some b=>aq b.1 s|none=> []
def Rj (b:Option BB) (s:List Int):Int:=match b with|some b=>Ir b.1 s|none=>0
noncomputable abbrev xL:Spec:=Hj (.pair (.optr Xa) (.pair tL .unit)) tL false true (λx=>WI x.1 x.2.1) (λx=>ZP x.1 x.2.1)
noncomputable abbrev aZ:Spec:=Hj (.pair (.optr Xa) (.pair tL .unit)) tI false true (λx=>WI x.1 x.2.1) (λx=>Rj x.1 x.2.1)
abbrev om:Type:=Int×List Int×List (List Int)×List Int×List (List Int×List (List Int)×List Int×PUnit)×(ByteArray->Option Int)×List (ByteArray->Option Int)×PUnit
abbrev oq:Type:=Int×List (List Int×List (List Int)×List Int×PUnit)×List (ByteArray->Option Int)×PUnit
theorem HP (ts:List (List Int×List (List Int)×List Int×Unit)) (P:Option (List (List Int×List (List Int)×List Int×Unit)×List (ByteArray->Option Int)×Unit)->Prop):(0=0/\0=([]:List Int).length/\Di (λ(v2:oq) (k3:oq->Prop)=>Br (decide (v2.1<(↑ts.length:Int))) (∃(y4:List Int×List (List Int)×List Int×PUnit),idx ts v2.1=some y4/\0=0/\v2.2.2.1.length=v2.2.2.1.length/\Di (λ(v5:om) (k6:om->Prop)=>Br (decide (v5.1<(↑y4.2.1.length:Int))) (∃(y7:List Int),idx y4.2.1 v5.1=some y7/\ ∃(y8:ByteArray),Le.fn (y7,())=some y8/\ ∃(y9:Int),idx v5.2.2.2.1 v5.1=some y9/\0=0/\v5.2.2.2.2.2.2.1.length=v5.2.2.2.2.2.2.1.length/\k6 (IntKind.i64.wrap (v5.1+(1:Int)),v5.2.1,v5.2.2.1,v5.2.2.2.1,v5.2.2.2.2.1,jA v5.2.2.2.2.2.1 y8 y9,v5.2.2.2.2.2.2.1,())) (0=0/\v5.2.2.2.2.2.2.1.length=v5.2.2.2.2.2.2.1.length/\v5.2.2.2.2.2.2.1.length+(List.take 1 (List.drop 0 [v5.2.2.2.2.2.1])).length<=Dj/\0=0/\(v5.2.2.2.2.2.2.1++List.take 1 (List.drop 0 [v5.2.2.2.2.2.1])).length=(v5.2.2.2.2.2.2.1++List.take 1 (List.drop 0 [v5.2.2.2.2.2.1])).length/\k3 (IntKind.i64.wrap (v2.1+(1:Int)),v5.2.2.2.2.1,v5.2.2.2.2.2.2.1++List.take 1 (List.drop 0 [v5.2.2.2.2.2.1]),()))) ((0:Int),y4.1,y4.2.1,y4.2.2.1,v2.2.1,λ(_:ByteArray)=>none,v2.2.2.1,PUnit.unit)) (P (some (v2.2.1,List.take v2.2.2.1.length (List.drop 0 v2.2.2.1),())))) ((0:Int),ts,[],PUnit.unit))=fnW (mB [Og+101101]) (look [(121,Le)]) Vr Tryz.f61 (ts,()) P:=by kernel_rfl
abbrev Aav:Type:=List (List Int×List (List Int)×List Int×PUnit)×List (ByteArray->Option Int)×PUnit
theorem Ao2 (b:Option (List (List Int×List (List Int)×List Int×Unit)×List (ByteArray->Option Int)×Unit)) (s:List Int) (P:List Int->Prop):(∃(y3:Aav),b=some y3/\0=0/\0=([]:List Int).length/\Di (λ(v4:Int×List Int×PUnit) (k5:Int×List Int×PUnit->Prop)=>Br (decide (v4.1<(↑y3.1.length:Int))) (∃(y6:List Int×List (List Int)×List Int×PUnit),idx y3.1 v4.1=some y6/\ ∃(y7:Aav),b=some y7/\ ∃(y8:ByteArray->Option Int),idx y7.2.1 v4.1=some y8/\ ∃(y9:List Int),br.fn (s,y6.1,())=some y9/\ ∃(Jw:ByteArray),Le.fn (y9,())=some Jw/\0=0/\v4.2.1.length=v4.2.1.length/\v4.2.1.length+(List.take 1 (List.drop 0 [(y8 Jw).getD (Int.ofNat (nat_lit 0))])).length<=Dj/\0=0/\(v4.2.1++List.take 1 (List.drop 0 [(y8 Jw).getD (Int.ofNat (nat_lit 0))])).length=(v4.2.1++List.take 1 (List.drop 0 [(y8 Jw).getD (Int.ofNat (nat_lit 0))])).length/\k5 (IntKind.i64.wrap (v4.1+(1:Int)),v4.2.1++List.take 1 (List.drop 0 [(y8 Jw).getD (Int.ofNat (nat_lit 0))]),())) (P (List.take v4.2.1.length (List.drop 0 v4.2.1)))) ((0:Int),[],PUnit.unit))=fnW Gr (look [(121,Le),(79,br)]) xL Tryz.f62 (b,s,()) P:=by kernel_rfl
theorem Aep (b:Option (List (List Int×List (List Int)×List Int×Unit)×List (ByteArray->Option Int)×Unit)) (s:List Int) (P:Int->Prop):(∃(y3:List Int),xL.fn (b,s,())=some y3/\Di (λ(v4:Int×Int×PUnit) (k5:Int×Int×PUnit->Prop)=>Br (decide (v4.2.1<(↑y3.length:Int))) (∃(y6:Int),idx y3 v4.2.1=some y6/\k5 (if true=true then if y6>v4.1 then y6 else v4.1 else if y6<v4.1 then y6 else v4.1,IntKind.i64.wrap (v4.2.1+(1:Int)),())) (P v4.1)) ((0:Int),(0:Int),PUnit.unit))=fnW Gr (look [(62,xL)]) aZ Tryz.f57 (b,s,()) P:=by kernel_rfl
theorem QZ.short {t:TT} (h:QZ t):ay t:=by
 have h1:=h.gu;have h2:=h.len;have h3:=h.tl
 exact ⟨by unfold _root_.Go.Proofs.YtkkdpknjohcekaaGreat.short;omega,⟨by omega,λr hr=>by have:=h.pl r hr;unfold _root_.Go.Proofs.YtkkdpknjohcekaaGreat.short;omega⟩,by unfold _root_.Go.Proofs.YtkkdpknjohcekaaGreat.short;omega⟩
theorem kl {p:PP} {t:TT} (h:Gs p t=true):QZ t/\Em p t.1=true/\(Hi p.2.2.1 t.1).2.2=true/\t.2.1=bV p t.1/\t.2.2.1=zj p t.1:=by
 obtain ⟨h1,h2⟩:=Bi.1 h
 obtain ⟨h3,h4⟩:=eu.1 h1
 have h5:=SW.1 h2
 unfold Ga at h5
 rw [Ab h1] at h5
 have e1:t.2.1=bV p t.1:=(Gz (λz:TT=>z.2.1) h5).symm
 have e2:t.2.2.1=zj p t.1:=(Gz (λz:TT=>z.2.2.1) h5).symm
 have hv:=(Ss.1 h3).1
 have hn:=(valid hv).n
 have bM:=mh h3
 have lX:=bM.ok.gu
 have hlen:=bM.len
 have IA:=bM.ok.short
 refine ⟨⟨by rw [e1];exact lX,by rw [e1,e2];exact hlen,by rw [e1];exact bM.ok.nodup,λx hx=>?_,λd hd=>?_,(Hk h3).1,λx hx=>?_⟩,h3,h4,e1,e2⟩
 ·rw [e1] at hx
  intro y hy
  have:=bM.row x hx y hy
  omega
 ·rw [e2] at hd
  obtain ⟨j,hj,rfl⟩:=Bf.1 hd
  have h6:=bM.dep j hj
  have DQ:j<(Hi p.2.2.1 t.1).2.1.length:=hj
  exact ⟨h6.1,by have:=h6.2;show (Hi p.2.2.1 t.1).2.1[j]<=3000;omega⟩
 ·rw [e1] at hx
  have:=bM.ok.len x hx
  omega
theorem db {p:PP} {ts:List TT} (h:El p ts=true):Ca p=true/\ig ts/\ ∀t∈ts,Gs p t=true:=by
 unfold El at h
 rw [Ag,Ag,Bb,Kx] at h
 exact ⟨h.1.1,⟨h.1.2,λt ht=>(kl (h.2 t ht)).1⟩,h.2⟩
theorem HB: ∀(xs:List (List Int)) (ds:List Int) (m:ByteArray->Option Int) (x:List Int),xs.length=ds.length->xs.Nodup->(∀y∈xs,gn y)->gn x->VA xs ds m (Xn x)=if x∈xs then some (ds.getD (xs.idxOf x) 0) else m (Xn x)
 | [],ds,m,x,_,_,_,_=>by cases ds<;>simp [VA]
 |y::xs,[],m,x,hl,_,_,_=>by simp at hl
 |y::xs,d::ds,m,x,hl,hn,hb,hx=>by
  obtain ⟨hy,hn⟩:=Ce.1 hn
  simp only [VA]
  rw [HB xs ds _ x (by simpa using hl) hn (λz hz=>hb z (Ao _ hz)) hx]
  by_cases hm:x∈xs
  ·have Jl:y≠x:= λe=>hy (e▸hm)
   have hi:(y::xs).idxOf x=xs.idxOf x+1:=by rw [List.idxOf_cons,show (y==x)=false by simpa using Jl];rfl
   rw [Ab hm,Ab (Ao _ hm),hi]
   rfl
  ·rw [Ai hm]
   unfold jA
   by_cases e:Xn x=Xn y
   ·have:=key_inj hx (hb y (by simp)) e
    subst this
    rw [Ab e,Ab (by simp),List.idxOf_cons_self]
    rfl
   ·have Jl:x≠y:= λh=>e (by rw [h])
    rw [Ai e,Ai (by simp [Jl,hm])]
theorem Abd {t:TT} (h:QZ t) {x:List Int} (hx:x∈t.2.1):Wo t (Xn x)=some (t.2.2.1.getD (t.2.1.idxOf x) 0):=by
 unfold Wo
 rw [HB _ _ _ _ h.len.symm h.nodup h.byte (h.byte x hx),Ab hx]
theorem FT (ts:List TT) (h:ig ts):fnW (mB [Og+101101]) (look [(121,Le)]) Vr Tryz.f61 (ts,()) (λ(z:Option BB)=>z=some (Cw ts)):=by
 obtain ⟨h4,hd⟩:=h
 refine Eq.mp (HP ts _) ⟨rfl,rfl,?_⟩
 refine Bw ts.length (λv=>v.1) (λi v=>v=((i:Int),ts,(ts.take i).map Wo,())) rfl rfl ?_
 rintro i v K hi hii rfl hK
 dsimp only
 refine Br.dec (λhl=>?_) λhl=>?_
 ·have hl:i<ts.length:=by omega
  have hdb:=hd _ (Al hl)
  have lX:=hdb.gu
  have hlen:=hdb.len
  have Ai4:=hdb.short
  refine ⟨_,Cj hl,rfl,rfl,?_⟩
  refine Bw (ts[i]).2.1.length (λv=>v.1) (λj v=> ∃m,v=((j:Int),(ts[i]).1,(ts[i]).2.1,(ts[i]).2.2.1,ts,m,(ts.take i).map Wo,())/\VA ((ts[i]).2.1.drop j) ((ts[i]).2.2.1.drop j) m=Wo ts[i]) rfl ⟨_,rfl,by rw [Fy,Fy];rfl⟩ ?_
  rintro j v K1 hj hjj ⟨m,rfl,hm⟩ hK1
  dsimp only
  refine Br.dec (λoD=>?_) λoD=>?_
  ·have oD:j<(ts[i]).2.1.length:=by omega
   have JP:j<(ts[i]).2.2.1.length:=by omega
   rw [Fg oD,Fg JP] at hm
   refine ⟨_,Cj oD,_,Ab (Ai4.2.1.2 _ (Al oD)),_,Cj JP,rfl,rfl,?_⟩
   rw [Bz (by omega)]
   exact hK1 oD _ rfl ⟨_,rfl,hm⟩
  ·have:j=(ts[i]).2.1.length:=by omega
   subst this
   rw [Tj] at hm
   have hm:m=Wo ts[i]:=by
    rw [<-hm]
    cases List.drop (ts[i]).2.1.length (ts[i]).2.2.1<;>rfl
   subst hm
   refine ⟨rfl,rfl,by show ((ts.take i).map Wo).length+1<=4294967296;rw [Gh,Dc];omega,rfl,rfl,?_⟩
   rw [Bz (by omega)]
   have hmm:(ts.take (i+1)).map Wo=(ts.take i).map Wo++ [Wo ts[i]]:=by
    rw [Ge,Ac hl,Ub,Mj]
    rfl
   refine hK hl _ rfl ?_
   rw [hmm]
   rfl
 ·have:i=ts.length:=by omega
  subst this
  rw [Bv,Bc]
  rfl
theorem rF:Sound Tryz.prog 61 Vr:=
 Sound.Hj (mC [Og+101101]) (Ba ca Bo) mixed Tryz.func61 (by kernel_rfl) (by kernel_rfl) λx h=>FT x.1 h
theorem CI (ts:List TT) (s:List Int):(aq ts s).length=ts.length:=by unfold aq;rw [Gh]
theorem IT {t:TT} (h:QZ t) {s:List Int} (hs:Ed s t.1∈t.2.1):0<=aW t s/\aW t s<=3000:=by
 have hi:=List.idxOf_lt_length_of_mem hs
 have hl:=h.len
 unfold aW
 rw [Mm (by omega)]
 exact h.Acw _ (Al _)
theorem RJ {ts:List TT} (h:ig ts) {s:List Int} (hs:oI ts s): ∀d∈aq ts s,0<=d/\d<=3000:= λd hd=>by
 obtain ⟨t,ht,rfl⟩:=Bj.1 hd
 exact IT (h.2 t ht) (hs.2 t ht).2
theorem RK {ts:List TT} {s:List Int} {i:Nat} (hl:i<ts.length):(aq (ts.take (i+1)) s)=aq (ts.take i) s++ [aW ts[i] s]:=by
 unfold aq
 rw [Ge,Ac hl,Ub,Mj]
 rfl
theorem Anc (b:Option BB) (s:List Int) (h:WI b s):fnW Gr (look [(121,Le),(79,br)]) xL Tryz.f62 (b,s,()) (λ(z:List Int)=>z=ZP b s):=by
 obtain ⟨ts,⟨h4,hd⟩,rfl,hs⟩:=h
 refine Eq.mp (Ao2 _ s _) ⟨Cw ts,rfl,rfl,rfl,?_⟩
 show Di _ _
 refine Bw ts.length (λv=>v.1) (λi v=>v=((i:Int),aq (ts.take i) s,())) rfl rfl ?_
 rintro i v K hi hii rfl hK
 dsimp only
 refine Br.dec (λhl=>?_) λhl=>?_
 ·have hl:i<ts.length:=by have hl:(i:Int)<(ts.length:Int):=hl;omega
  have hdb:=hd _ (Al hl)
  obtain ⟨iR,rj⟩:=hs.2 _ (Al hl)
  have htl:=hdb.tl
  have kv:=hdb.pl _ rj
  refine ⟨ts[i],Cj hl,Cw ts,rfl,Wo ts[i],?_,_,Ab ⟨by show (ts[i]).1.length<=4294967296;omega,iR⟩,_,Ab (by show (Ed s (ts[i]).1).length<=4294967296;omega),rfl,rfl,?_,rfl,rfl,?_⟩
  ·show idx (ts.map Wo) (i:Int)=_
   rw [Cj (by rw [Gh];exact hl),eO]
  ·show (aq (ts.take i) s).length+1<=4294967296
   rw [CI,Dc];omega
  ·rw [Bz (by omega)]
   refine hK hl _ rfl ?_
   rw [RK hl,show Wo ts[i] (Xn (Ed s (ts[i]).1))=some (aW ts[i] s) from Abd hdb rj]
   rfl
 ·have:i=ts.length:=by have hl: ¬(i:Int)<(ts.length:Int):=hl;omega
  subst this
  rw [Bv,Bc]
  rfl
theorem UF:Sound Tryz.prog 62 xL:=
 Sound.Hj Ee (Ba ca (Ba wu Bo)) mixed Tryz.func62 (by kernel_rfl) (by kernel_rfl) λx h=>Anc x.1 x.2.1 h
theorem Aih (a b:Int):(if true=true then if b>a then b else a else if b<a then b else a)=max a b:=by
 rw [Ab rfl]
 by_cases h:b>a
 ·rw [Ab h,Int.max_eq_right (by omega)]
 ·rw [Ai h,Int.max_eq_left (by omega)]
theorem XI {xs:List Int} {m:Int} (h: ∀x∈xs,0<=x/\x<=m) (hm:0<=m):0<=xs.foldl max 0/\xs.foldl max 0<=m:=by
 rcases kN xs 0 with h1|h1
 ·rw [h1];exact ⟨Gi _,hm⟩
 ·exact h _ h1
theorem PV {ts:List TT} (h:ig ts) {s:List Int} (hs:oI ts s):0<=Ir ts s/\Ir ts s<=3000:=XI (RJ h hs) (by omega)
theorem Ae5 (b:Option BB) (s:List Int) (h:WI b s):fnW Gr (look [(62,xL)]) aZ Tryz.f57 (b,s,()) (λ(z:Int)=>z=Rj b s):=by
 obtain ⟨ts,ht,hb,hs⟩:=id h
 have hl4:=ht.1
 have hlen:=CI ts s
 obtain ⟨xs,hxs⟩: ∃xs,ZP b s=xs:=⟨_,rfl⟩
 have hxe:Rj b s=xs.foldl max 0:=by rw [<-hxs,hb];rfl
 have vu:xs.length=ts.length:=by rw [<-hxs,hb];exact hlen
 refine Eq.mp (Aep b s _) ⟨xs,(Ab h).trans (Gz some hxs),?_⟩
 rw [hxe]
 refine Bw xs.length (λv=>v.2.1) (λi v=>v=((xs.take i).foldl max 0,(i:Int),())) rfl rfl ?_
 rintro i v K hi hii rfl hK
 dsimp only
 refine Br.dec (λhl=>?_) λhl=>?_
 ·have hl:i<xs.length:=by omega
  refine ⟨_,Cj hl,?_⟩
  rw [Bz (by omega)]
  refine hK hl _ rfl ?_
  rw [Ge,Ac hl,Ub,Vy,Aih]
  rfl
 ·have:i=xs.length:=by omega
  subst this
  rw [Bc]
theorem qH:Sound Tryz.prog 57 aZ:=
 Sound.Hj Ee (Ba UF Bo) mixed Tryz.func57 (by kernel_rfl) (by kernel_rfl) λx h=>Ae5 x.1 x.2.1 h
theorem ue {p:PP} {s:List Int} (h:Qh p s=true):Ca p=true/\Pm p.1.toNat s/\Gn p.1.toNat (p.2.2.1.map some) s:=by
 unfold Qh at h
 rw [Ag,Ag] at h
 obtain ⟨⟨hv,hg⟩,hh⟩:=h
 have hV:=valid hv
 have hn:=hV.n
 have hp:=XK hV hg
 exact ⟨hv,hp,(sX (by omega) (by omega) (nP (iv hV).2.2) hp).1 hh⟩
theorem DJ {p:PP} {s:List Int} (hv:Ca p=true) (h:Gn p.1.toNat (p.2.2.1.map some) s):Qh p s=true:=by
 have hV:=valid hv
 have hn:=hV.n
 have hp:=dg.pm (nq hV) h
 unfold Qh
 rw [hv,LS hV hp,show Pg (fc p.1 p.2.2.1).2 p.1.toNat 0 s=true from (sX (by omega) (by omega) (nP (iv hV).2.2) hp).2 h]
 rfl
theorem JM {p:PP} {t s:List Int} (hv:Ca p=true) (hs:Pm p.1.toNat s) (ht:Em p t=true):Ob s.length t:=by
 have h1:=hs.1
 have hn:=(valid hv).n
 intro y hy
 have:=(Hk ht).2 y hy
 omega
theorem Agx {p:PP} {t:List Int} (hv:Ca p=true) (ht:Em p t=true) (hw:(Hi p.2.2.1 t).2.2=true) {s:List Int} (hs:Gn p.1.toNat (p.2.2.1.map some) s):Ed s t∈bV p t:=by
 have hV:=valid hv
 have hc:eQ p.2.2.1 (Ax p.2.2.1.length) (bV p t):=du hV (mh ht) (eY hv (Hk ht).1 (Hk ht).2 hw)
 induction hs with
 |id=>rw [ka (dc ht)];exact (pw ht).2
 |mul h hg ih=>
  have hp:Pm p.1.toNat _:=dg.pm (nq hV) h
  obtain ⟨k,hk,rfl⟩:=Bf.1 (eH.1 hg)
  have:=hc.next _ ih _ (Mp hk).1
  rw [On hk] at this
  rw [Pn (JM hv hp ht)]
  exact this
 |inv h hg ih=>
  have hp:Pm p.1.toNat _:=dg.pm (nq hV) h
  obtain ⟨k,hk,rfl⟩:=Bf.1 (eH.1 hg)
  have:=hc.next _ ih _ (Mp hk).2
  rw [Om hk] at this
  rw [Pn (JM hv hp ht)]
  exact this
theorem LW {p:PP} {ts:List TT} {s:List Int} (hr:Qh p s=true) (ht:El p ts=true):oI ts s:=by
 obtain ⟨hv,hp,hg⟩:=ue hr
 obtain ⟨_,_,Jh⟩:=db ht
 have hn:=(valid hv).n
 refine ⟨by rw [hp.1];omega,λt tm=>?_⟩
 obtain ⟨_,h3,hw,e1,_⟩:=kl (Jh t tm)
 exact ⟨JM hv hp h3,by rw [e1];exact Agx hv h3 hw hg⟩
theorem wM (p q:List Int) (P:List Int->Prop):(0=0/\0=([]:List Int).length/\Di (λ(v3:Int×List Int×PUnit) (k4:Int×List Int×PUnit->Prop)=>Br (decide (v3.1<(↑p.length:Int))) (∃(y5:Int),idx p v3.1=some y5/\ ∃(y6:Int),idx q y5=some y6/\0=0/\v3.2.1.length=v3.2.1.length/\v3.2.1.length+(List.take 1 (List.drop 0 [y6])).length<=Dj/\0=0/\(v3.2.1++List.take 1 (List.drop 0 [y6])).length=(v3.2.1++List.take 1 (List.drop 0 [y6])).length/\k4 (IntKind.i64.wrap (v3.1+(1:Int)),v3.2.1++List.take 1 (List.drop 0 [y6]),())) (P (List.take v3.2.1.length (List.drop 0 v3.2.1)))) ((0:Int),[],PUnit.unit))=fnW Gr (look []) Jo Tryz.f81 (p,q,()) P:=by kernel_rfl
theorem RP {p q:List Int} {j:Nat} (h:j<p.length):(Af p q).take (j+1)=(Af p q).take j++ [Ih q p[j]]:=by
 unfold Af
 rw [Cu (by rw [Gh];exact h),eO]
theorem w6 (p q:List Int) (h:List.length p<=20/\Ob (List.length q) p):fnW Gr (look []) Jo Tryz.f81 (p,q,()) (λ(z:List Int)=>z=Af p q):=by
 obtain ⟨h1,h2⟩:=h
 refine Eq.mp (wM p q _) ⟨rfl,rfl,?_⟩
 refine Bw p.length (λv=>v.1) (λj v=>v=((j:Int),(Af p q).take j,())) rfl rfl ?_
 rintro j v K hj hi rfl hK
 dsimp only
 have hlen:((Af p q).take j).length<=20:=by rw [Dc];unfold Af;rw [Gh];omega
 refine Br.dec (λhl=>?_) λhl=>?_
 ·have hl:j<p.length:=by omega
  have hr:=h2 p[j] (Al hl)
  refine ⟨_,Cj hl,Ih q p[j],iU hr.1 hr.2,rfl,rfl,?_,rfl,rfl,?_⟩
  ·show ((Af p q).take j).length+1<=4294967296
   omega
  ·rw [Bz (by omega)]
   refine hK hl _ rfl ?_
   rw [RP hl]
   rfl
 ·have:j=p.length:=by omega
  subst this
  rw [Bv,<-Sb p q,Bc]
theorem cX:Sound Tryz.prog 81 Jo:=
 Sound.Hj Ee Bo mixed Tryz.func81 (by kernel_rfl) (by kernel_rfl) λx h=>w6 x.1 x.2.1 h
theorem HM (p:Int×ByteArray×List (List Int)×Unit) (s:List Int) (P:Bool->Prop):(∃(y3:Bool),Ld.fn ((p.1,p.2.1,p.2.2.1,()),s,())=some y3/\Br y3 (∃(y4:(Int×List (List (Option (List Int)))×List (List (Option (List Int)))×PUnit)×PUnit),Ys.fn (p.1,p.2.2.1,())=some y4/\ ∃(y5:Bool),nW.fn ((y4.1.1,List.take y4.1.2.1.length (List.drop 0 y4.1.2.1),List.take y4.1.2.2.1.length (List.drop 0 y4.1.2.2.1),()),(0:Int),s,())=some y5/\P y5) (P false))=fnW Gr (look [(156,Ld),(157,Ys),(158,nW)]) bp Tryz.f116 (p,s,()) P:=by kernel_rfl
theorem XJ {n:Int} {s:List Int} (h:Ht n s=true):Pm n.toNat s:=by
 obtain ⟨a,b⟩:=Is.1 h
 exact ⟨by omega,dy b⟩
theorem FP (p:PP) (s:List Int) (h:Fc p/\short s):fnW Gr (look [(156,Ld),(157,Ys),(158,nW)]) bp Tryz.f116 (p,s,()) (λ(z:Bool)=>z=Qh p s):=by
 refine Eq.mp (HM p s _) ⟨_,Ab h,?_⟩
 show Br (Ca p&&Ht p.1 s) _ _
 unfold Qh
 refine Br.of (λhb=>?_) λhb=>by rw [hb];rfl
 obtain ⟨hv,hg⟩:=Bi.1 hb
 have hV:=valid hv
 have hn:=hV.n
 have DN:=Acs hV
 refine ⟨_,Ab (iv hV),_,Ab ⟨p.1.toNat,0,?vv⟩,?_⟩
 case vv=>
  simp only [Bv]
  exact ⟨by omega,by omega,(gi (by omega)).symm,rfl,Kw _,by rw [Nat.sub_zero];exact DN,XJ hg,λi hi=>absurd hi (He _)⟩
 simp only [Bv]
 rw [hb,Sx,Int.sub_zero]
 rfl
theorem rD:Sound Tryz.prog 116 bp:=
 Sound.Hj Ee (Ba o5 (Fp uG (Ba xW Bo))) mixed Tryz.func116 (by kernel_rfl) (by kernel_rfl) λx h=>FP x.1 x.2.1 h
noncomputable def Tq (p:PP) (ts:List TT) (s:List Int):Bool:=Qh p s&&El p ts
noncomputable abbrev Ql:Spec:=Hj (.pair Jc (.pair tTS (.pair tL .unit))) (.pair (.optr Xa) (.pair .bool .unit)) true false (λx=>Fc x.1/\Rt x.2.1/\short x.2.2.1) (λx=>if Tq x.1 x.2.1 x.2.2.1=true then (some (Cw x.2.1),true,()) else (none,false,()))
theorem NL (p:Int×ByteArray×List (List Int)×Unit) (ts:List (List Int×List (List Int)×List Int×Unit)) (s:List Int) (P:(Option (List (List Int×List (List Int)×List Int×Unit)×List (ByteArray->Option Int)×Unit)×Bool×Unit)->Prop):(∃(y4:Bool),bp.fn ((p.1,p.2.1,p.2.2.1,()),s,())=some y4/\Br (!y4) (P (none,false,())) (∃(y5:Bool),Yz.fn ((p.1,p.2.1,p.2.2.1,()),ts,())=some y5/\Br (!y5) (P (none,false,())) (∃(y6:Option (List (List Int×List (List Int)×List Int×PUnit)×List (ByteArray->Option Int)×PUnit)),Vr.fn (ts,())=some y6/\P (y6,true,()))))=fnW Gr (look [(116,bp),(60,Yz),(61,Vr)]) Ql Tryz.f54 (p,ts,s,()) P:=by kernel_rfl
theorem p9 {p:PP} {ts:List TT} {s:List Int} (h:Tq p ts s=true):ig ts/\oI ts s/\Qh p s=true:=by
 unfold Tq at h
 obtain ⟨h1,h2⟩:=Bi.1 h
 exact ⟨(db h2).2.1,LW h1 h2,h1⟩
theorem KY (p:PP) (ts:List TT) (s:List Int) (h:Fc p/\Rt ts/\short s):fnW Gr (look [(116,bp),(60,Yz),(61,Vr)]) Ql Tryz.f54 (p,ts,s,()) (λ(z:Option BB×Bool×Unit)=>z=if Tq p ts s=true then (some (Cw ts),true,()) else (none,false,())):=by
 obtain ⟨h0,h1,h2⟩:=h
 refine Eq.mp (NL p ts s _) ⟨_,Ab ⟨h0,h2⟩,?_⟩
 show Br (!Qh p s) _ _
 have hh:Tq p ts s=(Qh p s&&El p ts):=rfl
 rw [hh]
 refine Br.of (λhb=>?_) λhb=>?_
 ·have hb:Qh p s=false:=by simpa using hb
  rw [hb];rfl
 ·have hb:Qh p s=true:=by simpa using hb
  refine ⟨_,Ab ⟨h0,h1⟩,?_⟩
  show Br (!El p ts) _ _
  refine Br.of (λhc=>?_) λhc=>?_
  ·have hc:El p ts=false:=by simpa using hc
   rw [hb,hc];rfl
  ·have hc:El p ts=true:=by simpa using hc
   refine ⟨_,Ab (db hc).2.1,?_⟩
   rw [hb,hc];rfl
theorem jr:Sound Tryz.prog 54 Ql:=
 Sound.Hj Ee (Ba rD (Ba mw (Ba rF Bo))) mixed Tryz.func54 (by kernel_rfl) (by kernel_rfl) λx h=>KY x.1 x.2.1 x.2.2.1 h
noncomputable def bT (p:PP) (s:List Int):Int:=if Rr p s=true then Iq (Bd p) (Dp p) s else-1
noncomputable abbrev Wv:Spec:=Hj (.pair Jc (.pair tL .unit)) (.pair bb (.pair tI (.pair .bool .unit))) true false (λx=>Fc x.1/\short x.2.1) (λx=>((Dk x.1).1,bT x.1 x.2.1,Rr x.1 x.2.1,()))
noncomputable abbrev mo:Spec:=Hj (.pair Jc (.pair tL .unit)) tI false true (λx=>Fc x.1/\short x.2.1) (λx=>bT x.1 x.2.1)
theorem Ac0 (p:Int×ByteArray×List (List Int)×Unit) (s:List Int) (P:((List (List Int)×List Int×List Int×Bool×Unit)×Int×Bool×Unit)->Prop):(∃(y3:(List (List Int)×List Int×List Int×Bool×PUnit)×Bool×PUnit),Yy.fn ((p.1,p.2.1,p.2.2.1,()),())=some y3/\Br (!y3.2.1) (P ((y3.1.1,y3.1.2.1,y3.1.2.2.1,y3.1.2.2.2.1,()),(-1:Int),false,())) (∃(y4:Bool),Ld.fn ((p.1,p.2.1,p.2.2.1,()),s,())=some y4/\Br (!y4) (P ((y3.1.1,y3.1.2.1,y3.1.2.2.1,y3.1.2.2.2.1,()),(-1:Int),false,())) (∃(y5:Int),Pp.fn ((y3.1.1,y3.1.2.1,y3.1.2.2.1,y3.1.2.2.2.1,()),s,())=some y5/\P ((y3.1.1,y3.1.2.1,y3.1.2.2.1,y3.1.2.2.2.1,()),y5,decide (y5>=(0:Int)),()))))=fnW Gr (look [(114,Yy),(64,Ld),(115,Pp)]) Wv Tryz.f52 (p,s,()) P:=by kernel_rfl
theorem Ajh (p:Int×ByteArray×List (List Int)×Unit) (s:List Int) (P:Int->Prop):(∃(y3:(List (List Int)×List Int×List Int×Bool×PUnit)×Int×Bool×PUnit),Wv.fn ((p.1,p.2.1,p.2.2.1,()),s,())=some y3/\Br (!y3.2.2.1) (P (-1:Int)) (P y3.2.1))=fnW Gr (look [(52,Wv)]) mo Tryz.f13 (p,s,()) P:=by kernel_rfl
theorem DG {p:PP} {s:List Int} (h:Rr p s=true):Qh p s=true:=by
 obtain ⟨hw,hs⟩:=oY.1 h
 have hv:=(Ie hw).1
 exact DJ hv ((nS hv).gen s hs)
theorem Aa9 (p:PP) (s:List Int) (h:Fc p/\short s):fnW Gr (look [(114,Yy),(64,Ld),(115,Pp)]) Wv Tryz.f52 (p,s,()) (λ(z:SS×Int×Bool×Unit)=>z=((Dk p).1,bT p s,Rr p s,())):=by
 refine Eq.mp (Ac0 p s _) ⟨_,Ab h.1,?_⟩
 by_cases hw:Gq p=true
 ·have hv:=(Ie hw).1
  have e1:Dk p=(Ds p.2.2.1 (upto p.1.toNat),true,()):=by unfold Dk;rw [Ab hv,hw]
  show Br (!(Dk p).2.1) _ _
  refine ⟨λhb=>by rw [e1] at hb;simp at hb,λ_=>⟨_,Ab h,?_⟩⟩
  show Br (!(Ca p&&Ht p.1 s)) _ _
  rw [hv,Sx]
  unfold bT Rr
  rw [hw,Sx]
  refine Br.of (λhb=>?_) λhb=>?_
  ·have hm: ¬s∈Bd p:= λhm=>by rw [Aj6 hv hm] at hb;cases hb
   rw [Ez hm,Ai (by decide)]
  ·have hb:Ht p.1 s=true:=by simpa using hb
   have hpm:=XK (valid hv) hb
   refine ⟨_,Ab ⟨by show Gf s.length (Dk p).1.1 (Dk p).1.2.2.1;rw [e1,hpm.1];exact (mz hv).ok,by show (Dk p).1.2.1.length=(Dk p).1.1.length;rw [e1];exact (mz hv).len⟩,?_⟩
   have yL:Iq (Dk p).1.1 (Dk p).1.2.1 s=Iq (Bd p) (Dp p) s:=by rw [e1];rfl
   by_cases hm:s∈Bd p
   ·have hd:=(oO hw hm).1
    rw [Cy hm,Ab rfl]
    show (_,Iq (Dk p).1.1 (Dk p).1.2.1 s,decide (Iq (Dk p).1.1 (Dk p).1.2.1 s>=0),())=_
    rw [yL,Cy hd]
   ·have hd:Iq (Bd p) (Dp p) s= -1:=Ai hm
    rw [Ez hm,Ai (by decide)]
    show (_,Iq (Dk p).1.1 (Dk p).1.2.1 s,decide (Iq (Dk p).1.1 (Dk p).1.2.1 s>=0),())=_
    rw [yL,hd]
    rfl
 ·have e1:(Dk p).2.1=false:=by
   unfold Dk
   by_cases hv:Ca p=true
   ·rw [Ab hv];exact Hx _|>.mp hw
   ·rw [Ai hv]
  show Br (!(Dk p).2.1) _ _
  rw [e1]
  refine ⟨λ_=>?_,λhb=>by simp at hb⟩
  have hf:Rr p s=false:=by unfold Rr;rw [Hx _|>.mp hw,Bool.false_and]
  unfold bT
  rw [hf,Ai (by decide)]
theorem oc:Sound Tryz.prog 52 Wv:=
 Sound.Hj Ee (Ba uN (Ba cY (Ba lf Bo))) mixed Tryz.func52 (by kernel_rfl) (by kernel_rfl) λx h=>Aa9 x.1 x.2.1 h
theorem Aiq (p:PP) (s:List Int) (h:Fc p/\short s):fnW Gr (look [(52,Wv)]) mo Tryz.f13 (p,s,()) (λ(z:Int)=>z=bT p s):=by
 refine Eq.mp (Ajh p s _) ⟨_,Ab h,?_⟩
 show Br (!Rr p s) _ _
 refine Br.of (λhb=>?_) λ_=>rfl
 unfold bT
 rw [Ai (Hm hb)]
theorem MO:Sound Tryz.prog 13 mo:=
 Sound.Hj Ee (Ba oc Bo) mixed Tryz.func13 (by kernel_rfl) (by kernel_rfl) λx h=>Aiq x.1 x.2.1 h
abbrev DS:Type:=Int×Int×List Int×Bool×Bool×Unit
def Gc (v:DS):Bool:=v.2.2.2.1||(decide (0<v.2.1)&&!v.2.2.2.2.1)
def Ji (w:List Int):Int:=w.getLastD 0
def vN (nx:List Int->Int->List Int) (low:List Int->Int) (one:List Int) (ls:List Int) (depth:Int):Nat->List Int->List Int->DS->DS
 |0,_,_,v=>v
 |f+1,s,w,v=>
  if v.1=20000 then (v.1,v.2.1,v.2.2.1,true,v.2.2.2.2)
  else if (w.length:Int)+low s>depth then (v.1+1,v.2)
  else if (w.length:Int)=depth then (if s=one then (v.1+1,v.2.1+1,(if v.2.1=0 then w else v.2.2.1),v.2.2.2) else (v.1+1,v.2))
  else (ls.filter λl=>!(l== -Ji w)).foldl (λv l=>if Gc v=true then v else vN nx low one ls depth f (nx s l) (w++ [l]) v) (v.1+1,v.2)
abbrev IS:Type:=Bool×List Int×Int×Int×Bool
def iN (nx:List Int->Int->List Int) (low:List Int->Int) (one:List Int) (ls:List Int) (depth:Int) (every:Bool):Nat->List Int->List Int->Int->Int->Bool->IS
 |0,_,w,n,m,a=>(false,w,n,m,a)
 |f+1,s,w,n,m,a=>
  if n=20000 then (true,w,n,m,true)
  else if (w.length:Int)+low s>depth then (false,w,n+1,m,a)
  else if s=one/\(w.length:Int)=depth then (!every,w,n+1,m+1,a)
  else if (w.length:Int)=depth then (false,w,n+1,m,a)
  else ls.foldl (λr l=>if r.1=true\/l= -Ji w then r else
   if (iN nx low one ls depth every f (nx s l) (w++ [l]) r.2.2.1 r.2.2.2.1 r.2.2.2.2).1=true then iN nx low one ls depth every f (nx s l) (w++ [l]) r.2.2.1 r.2.2.2.1 r.2.2.2.2
   else (false,w,(iN nx low one ls depth every f (nx s l) (w++ [l]) r.2.2.1 r.2.2.2.1 r.2.2.2.2).2.2)) (false,w,n+1,m,a)
structure IE (v:DS):Prop where
 n0:0<=v.1
 n1:v.1<=20000
 m0:0<=v.2.1
 m1:v.2.1<=v.1
theorem Qz {α β:Type} {f:β->α->β} {R:β->Prop} : ∀(ls:List α) (b:β),R b->(∀b l,l∈ls->R b->R (f b l))->R (ls.foldl f b)
 | [],_,h,_=>h
 |l::ls,b,h,hs=>Qz ls _ (hs b l (Fm ..) h) λb l hl=>hs b l (Ao _ hl)
theorem sP {α β γ:Type} {f:β->α->β} {g:γ->α->γ} {R:β->γ->Prop} : ∀(ls:List α) (b:β) (c:γ),R b c->(∀b c l,l∈ls->R b c->R (f b l) (g c l))->R (ls.foldl f b) (ls.foldl g c)
 | [],_,_,h,_=>h
 |l::ls,b,c,h,hs=>sP ls _ _ (hs b c l (Fm ..) h) λb c l hl=>hs b c l (Ao _ hl)
theorem Agi {nx:List Int->Int->List Int} {low:List Int->Int} {one ls:List Int} {depth:Int} : ∀(f:Nat) (s w:List Int) (v:DS),IE v->IE (vN nx low one ls depth f s w v)
 |0,_,_,_,h=>h
 |f+1,s,w,v,h=>by
  have h0:=h.n0;have h1:=h.n1;have h2:=h.m0;have h3:=h.m1
  unfold vN
  split
  ·exact ⟨h0,h1,h2,h3⟩
  ·have hs:IE ((v.1+1,v.2):DS):=⟨by show 0<=v.1+1;omega,by show v.1+1<=20000;omega,h2,by show v.2.1<=v.1+1;omega⟩
   split
   ·exact hs
   ·split
    ·split
     ·exact ⟨by show 0<=v.1+1;omega,by show v.1+1<=20000;omega,by show 0<=v.2.1+1;omega,by show v.2.1+1<=v.1+1;omega⟩
     ·exact hs
    ·refine Qz _ _ hs λb l _ hb=>?_
     split
     ·exact hb
     ·exact Agi f _ _ _ hb
theorem uY {nx:List Int->Int->List Int} {low:List Int->Int} {one ls:List Int} {depth:Int} : ∀(f:Nat) (s w:List Int) (v:DS),(vN nx low one ls depth f s w v).2.2.2.2=v.2.2.2.2
 |0,_,_,_=>rfl
 |f+1,s,w,v=>by
  unfold vN
  split
  ·rfl
  ·split
   ·rfl
   ·split
    ·split<;>rfl
    ·refine Qz (R:= λ(b:DS)=>b.2.2.2.2=v.2.2.2.2) _ _ rfl λb l _ hb=>?_
     split
     ·exact hb
     ·rw [uY f];exact hb
theorem Ag5 {nx:List Int->Int->List Int} {low:List Int->Int} {one ls:List Int} {depth:Int} {every:Bool} : ∀(f:Nat) (s w:List Int) (n m:Int) (a:Bool),(0<=n/\n<=20000/\0<=m/\m<=n)->
  (0<=(iN nx low one ls depth every f s w n m a).2.2.1/\(iN nx low one ls depth every f s w n m a).2.2.1<=20000/\0<=(iN nx low one ls depth every f s w n m a).2.2.2.1/\(iN nx low one ls depth every f s w n m a).2.2.2.1<=(iN nx low one ls depth every f s w n m a).2.2.1)
 |0,_,_,_,_,_,h=>h
 |f+1,s,w,n,m,a,h=>by
  obtain ⟨h0,h1,h2,h3⟩:=h
  unfold iN
  split
  ·exact ⟨h0,h1,h2,h3⟩
  ·have hs:(0<=n+1/\n+1<=20000/\0<=m/\m<=n+1):=by omega
   split
   ·exact hs
   ·split
    ·show 0<=n+1/\n+1<=20000/\0<=m+1/\m+1<=n+1
     omega
    ·split
     ·exact hs
     ·refine Qz (R:= λ(b:IS)=>0<=b.2.2.1/\b.2.2.1<=20000/\0<=b.2.2.2.1/\b.2.2.2.1<=b.2.2.1) _ _ hs λb l _ hb=>?_
      split
      ·exact hb
      ·have ih:=Ag5 (nx:=nx) (low:=low) (one:=one) (ls:=ls) (depth:=depth) (every:=every) f (nx s l) (w++ [l]) b.2.2.1 b.2.2.2.1 b.2.2.2.2 hb
       split
       ·exact ih
       ·exact ih
theorem Adu {nx:List Int->Int->List Int} {low:List Int->Int} {one ls:List Int} {depth:Int} {every:Bool} : ∀(f:Nat) (s w:List Int) (n m:Int) (a:Bool),(iN nx low one ls depth every f s w n m a).1=false->(iN nx low one ls depth every f s w n m a).2.1=w
 |0,_,_,_,_,_,_=>rfl
 |f+1,s,w,n,m,a,h=>by
  unfold iN at h⊢
  split
  ·rename_i h1;rw [Ab h1] at h
  ·rename_i h1
   rw [Ai h1] at h
   split
   ·rfl
   ·rename_i h2
    rw [Ai h2] at h
    split
    ·rfl
    ·rename_i h3
     rw [Ai h3] at h
     split
     ·rfl
     ·rename_i h4
      rw [Ai h4] at h
      refine Qz (R:= λ(r:IS)=>r.1=false->r.2.1=w) _ _ (λ_=>rfl) (λr l _ hr=>?_) h
      split
      ·exact hr
      ·split
       ·rename_i h5;exact λh6=>by rw [h5] at h6;cases h6
       ·exact λ_=>rfl
theorem PQ {nx:List Int->Int->List Int} {low:List Int->Int} {one ls:List Int} {depth:Int} {every:Bool} {f:Nat} {s w:List Int} : ∀(xs:List Int) (r:IS),r.1=true->
  xs.foldl (λ(r:IS) l=>if r.1=true\/l= -Ji w then r else
   if (iN nx low one ls depth every f (nx s l) (w++ [l]) r.2.2.1 r.2.2.2.1 r.2.2.2.2).1=true then iN nx low one ls depth every f (nx s l) (w++ [l]) r.2.2.1 r.2.2.2.1 r.2.2.2.2
   else (false,w,(iN nx low one ls depth every f (nx s l) (w++ [l]) r.2.2.1 r.2.2.2.1 r.2.2.2.2).2.2)) r=r
 | [],_,_=>rfl
 |x::xs,r,h=>by
  rw [Df,Ab (.inl h)]
  exact PQ xs r h
theorem sa {nx:List Int->Int->List Int} {low:List Int->Int} {one ls:List Int} {depth:Int} {f:Nat} {s w:List Int} : ∀(xs:List Int) (r:DS),Gc r=true->
  xs.foldl (λ(v:DS) l=>if Gc v=true then v else vN nx low one ls depth f (nx s l) (w++ [l]) v) r=r
 | [],_,_=>rfl
 |x::xs,r,h=>by
  rw [Df,Ab h]
  exact sa xs r h
structure WO (every:Bool) (w:List Int) (r:IS) (v:DS):Prop where
 stop:r.1=Gc v
 word:r.1=false->r.2.1=w
 n:r.2.2.1=v.1
 m:r.2.2.2.1=v.2.1
 a:r.2.2.2.2=v.2.2.2.1
 all:v.2.2.2.2.1=every
 ok:IE v
 found:r.1=true->v.2.2.2.1=false->r.2.1=v.2.2.1
theorem Ag6 {nx:List Int->Int->List Int} {low:List Int->Int} {one ls:List Int} {depth:Int} {every:Bool} : ∀(f:Nat) (s w:List Int) (v:DS),Gc v=false->v.2.2.2.2.1=every->IE v->
  WO every w (iN nx low one ls depth every f s w v.1 v.2.1 v.2.2.2.1) (vN nx low one ls depth f s w v)
 |0,s,w,v,hd,he,hv=>⟨hd.symm,λ_=>rfl,rfl,rfl,rfl,he,hv,λh=>by simp [iN] at h⟩
 |f+1,s,w,v,hd,he,hv=>by
  have hvo:=Agi (nx:=nx) (low:=low) (one:=one) (ls:=ls) (depth:=depth) (f+1) s w v hv
  have xc:=hd
  unfold Gc at xc
  rw [he,Bool.or_eq_false_iff,Bool.and_eq_false_iff] at xc
  obtain ⟨ha,hm⟩:=xc
  have h0:=hv.m0
  have hm:every=false->v.2.1=0:= λe=>by
   rcases hm with h|h
   ·have:=of_decide_eq_false h;omega
   ·rw [e] at h;cases h
  by_cases h1:v.1=20000
  ·have e1:vN nx low one ls depth (f+1) s w v=(v.1,v.2.1,v.2.2.1,true,v.2.2.2.2):=by rw [vN,Ab h1]
   have e2:iN nx low one ls depth every (f+1) s w v.1 v.2.1 v.2.2.2.1=(true,w,v.1,v.2.1,true):=by rw [iN,Ab h1]
   rw [e1] at hvo⊢
   rw [e2]
   exact {stop:=rfl,word:= λh=>by simp at h,n:=rfl,m:=rfl,a:=rfl,all:=he,ok:=hvo,found:= λ_ h=>by simp at h}
  by_cases h2:(w.length:Int)+low s>depth
  ·have e1:vN nx low one ls depth (f+1) s w v=(v.1+1,v.2):=by rw [vN,Ai h1,Ab h2]
   have e2:iN nx low one ls depth every (f+1) s w v.1 v.2.1 v.2.2.2.1=(false,w,v.1+1,v.2.1,v.2.2.2.1):=by rw [iN,Ai h1,Ab h2]
   rw [e1] at hvo⊢
   rw [e2]
   exact {stop:=hd.symm,word:= λ_=>rfl,n:=rfl,m:=rfl,a:=rfl,all:=he,ok:=hvo,found:= λh=>by simp at h}
  by_cases h3:(w.length:Int)=depth
  ·by_cases h4:s=one
   ·have e1:vN nx low one ls depth (f+1) s w v=(v.1+1,v.2.1+1,(if v.2.1=0 then w else v.2.2.1),v.2.2.2):=by rw [vN,Ai h1,Ai h2,Ab h3,Ab h4]
    have e2:iN nx low one ls depth every (f+1) s w v.1 v.2.1 v.2.2.2.1=(!every,w,v.1+1,v.2.1+1,v.2.2.2.1):=by rw [iN,Ai h1,Ai h2,Ab ⟨h4,h3⟩]
    rw [e1] at hvo⊢
    rw [e2]
    refine {stop:=?_,word:= λ_=>rfl,n:=rfl,m:=rfl,a:=rfl,all:=he,ok:=hvo,found:= λh _=>?_}
    ·show (!every)=(v.2.2.2.1||(decide (0<v.2.1+1)&&!v.2.2.2.2.1))
     rw [ha,he,Cy (by omega)]
     simp
    ·have h:(!every)=true:=h
     show w=if v.2.1=0 then w else v.2.2.1
     rw [Ab (hm (by cases every<;>simp_all))]
   ·have e1:vN nx low one ls depth (f+1) s w v=(v.1+1,v.2):=by rw [vN,Ai h1,Ai h2,Ab h3,Ai h4]
    have e2:iN nx low one ls depth every (f+1) s w v.1 v.2.1 v.2.2.2.1=(false,w,v.1+1,v.2.1,v.2.2.2.1):=by rw [iN,Ai h1,Ai h2,Ai (λh=>h4 h.1),Ab h3]
    rw [e1] at hvo⊢
    rw [e2]
    exact {stop:=hd.symm,word:= λ_=>rfl,n:=rfl,m:=rfl,a:=rfl,all:=he,ok:=hvo,found:= λh=>by simp at h}
  have hs:IE ((v.1+1,v.2):DS):=by
   have:=hv.n0;have:=hv.n1;have:=hv.m1
   exact ⟨by show 0<=v.1+1;omega,by show v.1+1<=20000;omega,h0,by show v.2.1<=v.1+1;omega⟩
  rw [vN,Ai h1,Ai h2,Ai h3,iN,Ai h1,Ai h2,Ai (λh=>h3 h.2),Ai h3,List.foldl_filter]
  refine sP (R:= λ(r:IS) (u:DS)=>WO every w r u) ls _ _ {stop:=hd.symm,word:= λ_=>rfl,n:=rfl,m:=rfl,a:=rfl,all:=he,ok:=hs,found:= λh=>by simp at h} λr u l _ hR=>?_
  by_cases hl:l= -Ji w
  ·rw [Ab (.inr hl),Ai (by simp [hl])]
   exact hR
  rw [Ab (show (!(l== -Ji w))=true by simp [hl])]
  by_cases Pj:r.1=true
  ·have hu:Gc u=true:=by rw [<-hR.stop];exact Pj
   rw [Ab (.inl Pj),Ab hu]
   exact hR
  have Pj:r.1=false:=by simpa using Pj
  have hu:Gc u=false:=by rw [<-hR.stop,Pj]
  have fm: ¬Gc u=true:=by rw [hu];simp
  rw [Ai (show ¬(r.1=true\/l= -Ji w) by rw [Pj];simp [hl]),Ai fm]
  have ih:=Ag6 (nx:=nx) (low:=low) (one:=one) (ls:=ls) (depth:=depth) (every:=every) f (nx s l) (w++ [l]) u hu hR.all hR.ok
  rw [hR.n,hR.m,hR.a]
  by_cases hq:(iN nx low one ls depth every f (nx s l) (w++ [l]) u.1 u.2.1 u.2.2.2.1).1=true
  ·rw [Ab hq]
   exact {stop:=ih.stop,word:= λh=>by rw [hq] at h;simp at h,n:=ih.n,m:=ih.m,a:=ih.a,all:=ih.all,ok:=ih.ok,found:=ih.found}
  ·rw [Ai hq]
   have hq:(iN nx low one ls depth every f (nx s l) (w++ [l]) u.1 u.2.1 u.2.2.2.1).1=false:=by simpa using hq
   exact {stop:=by rw [<-ih.stop,hq],word:= λ_=>rfl,n:=ih.n,m:=ih.m,a:=ih.a,all:=ih.all,ok:=ih.ok,found:= λh=>by simp at h}
abbrev SR:Type:=PP×Option BB×Int×Bool×List Int×Int×Int×Bool×Unit
noncomputable def dw (s:List Int):Bool:=decide (s=upto s.length)
noncomputable abbrev pD:Spec:=Hj (.pair tL .unit) .bool false true (λx=>short x.1) (λx=>dw x.1)
def cw (g:List (List Int)) (s:List Int) (l:Int):List Int:=Af s (Am g l)
noncomputable def rk (n:Int) (g:List (List Int)) (b:Option BB) (Dy:Int) (every:Bool) (w:List Int) (nodes found:Int) (ab:Bool) (x:List Int):IS:=
 iN (cw g) (Rj b) (upto n.toNat) (Ax g.length) Dy every ((Dy-w.length).toNat+1) x w nodes found ab
noncomputable def An8 (p:PP) (ts:List TT) (s w:List Int) (depth:Int) (v:DS):DS:=
 vN (cw p.2.2.1) (Ir ts) (upto p.1.toNat) (Ax p.2.2.1.length) depth ((depth-w.length).toNat+1) s w v
def yi (n:Int) (str:ByteArray) (g:List (List Int)) (b:Option BB) (Dy:Int) (w:List Int) (nodes found:Int) (x:List Int):Prop:=
 ∃ts,b=some (Cw ts)/\Tq (n,str,g,()) ts x=true/\Dy<=30/\(w.length:Int)<=Dy/\(∀l∈w,Fq g.length l)/\(0<=nodes/\nodes<=20000)/\0<=found/\found<=nodes
noncomputable abbrev PS:MSpec:= {ptr:=some (84,10),Jj:= [none],ins:= [(false, .Eh tI),(false, .Eh .str),(false, .Eh kB),(false, .Eh (.optr Xa)),(false, .Eh tI),(false, .Eh .bool),(false,rL),(false, .Eh tI),(false, .Eh tI),(false, .Eh .bool),(false, .Eh tL)],Ib:=false,Hv:= [none],outs:= [.Eh tI, .Eh .str, .Eh kB, .Eh (.optr Xa), .Eh tI, .Eh .bool,rL, .Eh tI, .Eh tI, .Eh .bool, .Eh .bool],fn:= λ_=>none}
noncomputable def j5 (n:Int) (str:ByteArray) (g:List (List Int)) (b:Option BB) (Dy:Int) (every:Bool) (q:IS):Int×ByteArray×List (List Int)×Option BB×Int×Bool×List Int×Int×Int×Bool×Bool×Unit:=(n,str,g,b,Dy,every,q.2.1,q.2.2.1,q.2.2.2.1,q.2.2.2.2,q.1,())
noncomputable abbrev Us (m:Nat):MSpec:=gY PS (λx=>yi x.1 x.2.1 x.2.2.1 x.2.2.2.1 x.2.2.2.2.1 x.2.2.2.2.2.2.1 x.2.2.2.2.2.2.2.1 x.2.2.2.2.2.2.2.2.1 x.2.2.2.2.2.2.2.2.2.2.1/\(x.2.2.2.2.1-List.length x.2.2.2.2.2.2.1).toNat<m)
 (λx=>(j5 x.1 x.2.1 x.2.2.1 x.2.2.2.1 x.2.2.2.2.1 x.2.2.2.2.2.1 (rk x.1 x.2.2.1 x.2.2.2.1 x.2.2.2.2.1 x.2.2.2.2.2.1 x.2.2.2.2.2.2.1 x.2.2.2.2.2.2.2.1 x.2.2.2.2.2.2.2.2.1 x.2.2.2.2.2.2.2.2.2.1 x.2.2.2.2.2.2.2.2.2.2.1),()))
noncomputable abbrev nY:MSpec:=gY PS (λx=>yi x.1 x.2.1 x.2.2.1 x.2.2.2.1 x.2.2.2.2.1 x.2.2.2.2.2.2.1 x.2.2.2.2.2.2.2.1 x.2.2.2.2.2.2.2.2.1 x.2.2.2.2.2.2.2.2.2.2.1)
 (λx=>(j5 x.1 x.2.1 x.2.2.1 x.2.2.2.1 x.2.2.2.2.1 x.2.2.2.2.2.1 (rk x.1 x.2.2.1 x.2.2.2.1 x.2.2.2.2.1 x.2.2.2.2.2.1 x.2.2.2.2.2.2.1 x.2.2.2.2.2.2.2.1 x.2.2.2.2.2.2.2.2.1 x.2.2.2.2.2.2.2.2.2.1 x.2.2.2.2.2.2.2.2.2.2.1),()))
theorem Ajj (s:List Int) (P:Bool->Prop):(Di (λ(v2:Int×PUnit) (k3:Int×PUnit->Prop)=>Br (decide (v2.1<(↑s.length:Int))) (∃(y4:Int),idx s v2.1=some y4/\Br (v2.1 !=y4) (P false) (k3 (IntKind.i64.wrap (v2.1+(1:Int)),()))) (P true)) ((0:Int),PUnit.unit))=fnW Gr (look []) pD Tryz.f165 (s,()) P:=by kernel_rfl
abbrev ae:Type:=Int×List Int×Int×ByteArray×List (List Int)×Option (List (List Int×List (List Int)×List Int×PUnit)×List (ByteArray->Option Int)×PUnit)×Int×Bool×Int×Int×Bool×PUnit
abbrev ou:Type:=(Int×ByteArray×List (List Int)×Option (List (List Int×List (List Int)×List Int×PUnit)×List (ByteArray->Option Int)×PUnit)×Int×Bool×List Int×Int×Int×Bool×Bool×PUnit)×PUnit
theorem Aes {m:Nat} (n:Int) (str:ByteArray) (g:List (List Int)) (b:Option (List (List Int×List (List Int)×List Int×Unit)×List (ByteArray->Option Int)×Unit)) (Dy:Int) (every:Bool) (w:List Int) (nodes found:Int) (ab:Bool) (x:List Int) (P:((Int×ByteArray×List (List Int)×Option BB×Int×Bool×List Int×Int×Int×Bool×Bool×Unit)×Unit)->Prop):(Br (nodes==(20000:Int)) (P ((n,str,g,b,Dy,every,List.take w.length (List.drop 0 w),nodes,found,true,true,()),())) (∃(Hl:Int),Ts.fn (List.take w.length (List.drop 0 w),())=some Hl/\ ∃(Iu:Int),aZ.fn (b,x,())=some Iu/\Br (decide (IntKind.i64.wrap (Hl+Iu)>Dy)) (P ((n,str,g,b,Dy,every,List.take w.length (List.drop 0 w),IntKind.i64.wrap (nodes+(1:Int)),found,ab,false,()),())) (∃(Io:Bool),pD.fn (x,())=some Io/\Br Io (Br (Hl==Dy) (P ((n,str,g,b,Dy,every,List.take w.length (List.drop 0 w),IntKind.i64.wrap (nodes+(1:Int)),IntKind.i64.wrap (found+(1:Int)),ab,!every,()),())) (Br (Hl==Dy) (P ((n,str,g,b,Dy,every,List.take w.length (List.drop 0 w),IntKind.i64.wrap (nodes+(1:Int)),found,ab,false,()),())) (Br (decide (Hl>(0:Int))) (((0:Int)<=IntKind.i64.wrap (Hl-(1:Int))/\IntKind.i64.wrap (Hl-(1:Int))<(↑w.length:Int))/\ ∃(Ha:Int),w[0+(IntKind.i64.wrap (Hl-(1:Int))).toNat]?=some Ha/\ ∃(Iy:List Int),Mu.fn ((↑g.length:Int),())=some Iy/\0=0/\(List.take w.length (List.drop 0 w)).length=(List.take w.length (List.drop 0 w)).length/\Di (λ(Nm:ae) (k19:ae->Prop)=>Br (decide (Nm.1<(↑Iy.length:Int))) (∃(mH:Int),idx Iy Nm.1=some mH/\Br (mH==IntKind.i64.wrap ((0:Int)-Ha)) (0=0/\(List.take Nm.2.1.length (List.drop 0 Nm.2.1)).length=(List.take Nm.2.1.length (List.drop 0 Nm.2.1)).length/\k19 (IntKind.i64.wrap (Nm.1+(1:Int)),List.take Nm.2.1.length (List.drop 0 Nm.2.1),Nm.2.2.1,Nm.2.2.2.1,Nm.2.2.2.2.1,Nm.2.2.2.2.2.1,Nm.2.2.2.2.2.2.1,Nm.2.2.2.2.2.2.2.1,Nm.2.2.2.2.2.2.2.2.1,Nm.2.2.2.2.2.2.2.2.2.1,Nm.2.2.2.2.2.2.2.2.2.2.1,())) (0=0/\Nm.2.1.length=Nm.2.1.length/\Nm.2.1.length+(List.take 1 (List.drop 0 [mH])).length<=Dj/\ ∃(se:List Int),Ii.fn (Nm.2.2.2.2.1,mH,())=some se/\ ∃(Xe:List Int),Jo.fn (x,se,())=some Xe/\0=0/\(Nm.2.1++List.take 1 (List.drop 0 [mH])).length=(Nm.2.1++List.take 1 (List.drop 0 [mH])).length/\ ∃(ai:ou),(Us m).fn (Nm.2.2.1,Nm.2.2.2.1,Nm.2.2.2.2.1,Nm.2.2.2.2.2.1,Nm.2.2.2.2.2.2.1,Nm.2.2.2.2.2.2.2.1,Nm.2.1++List.take 1 (List.drop 0 [mH]),Nm.2.2.2.2.2.2.2.2.1,Nm.2.2.2.2.2.2.2.2.2.1,Nm.2.2.2.2.2.2.2.2.2.2.1,Xe,())=some ai/\Br ai.1.2.2.2.2.2.2.2.2.2.2.1 (P ((ai.1.1,ai.1.2.1,ai.1.2.2.1,ai.1.2.2.2.1,ai.1.2.2.2.2.1,ai.1.2.2.2.2.2.1,List.take ai.1.2.2.2.2.2.2.1.length (List.drop 0 ai.1.2.2.2.2.2.2.1),ai.1.2.2.2.2.2.2.2.1,ai.1.2.2.2.2.2.2.2.2.1,ai.1.2.2.2.2.2.2.2.2.2.1,true,()),())) (((0:Int)<=(0:Int)/\(0:Int)<=Hl/\Hl<=(↑ai.1.2.2.2.2.2.2.1.length:Int))/\0=0/\(List.take (Hl.toNat-Int.toNat (0:Int)) (List.drop (0+Int.toNat (0:Int)) ai.1.2.2.2.2.2.2.1)).length=(List.take (Hl.toNat-Int.toNat (0:Int)) (List.drop (0+Int.toNat (0:Int)) ai.1.2.2.2.2.2.2.1)).length/\k19 (IntKind.i64.wrap (Nm.1+(1:Int)),List.take (Hl.toNat-Int.toNat (0:Int)) (List.drop (0+Int.toNat (0:Int)) ai.1.2.2.2.2.2.2.1),ai.1.1,ai.1.2.1,ai.1.2.2.1,ai.1.2.2.2.1,ai.1.2.2.2.2.1,ai.1.2.2.2.2.2.1,ai.1.2.2.2.2.2.2.2.1,ai.1.2.2.2.2.2.2.2.2.1,ai.1.2.2.2.2.2.2.2.2.2.1,())))) (P ((Nm.2.2.1,Nm.2.2.2.1,Nm.2.2.2.2.1,Nm.2.2.2.2.2.1,Nm.2.2.2.2.2.2.1,Nm.2.2.2.2.2.2.2.1,List.take Nm.2.1.length (List.drop 0 Nm.2.1),Nm.2.2.2.2.2.2.2.2.1,Nm.2.2.2.2.2.2.2.2.2.1,Nm.2.2.2.2.2.2.2.2.2.2.1,false,()),()))) ((0:Int),List.take w.length (List.drop 0 w),n,str,g,b,Dy,every,IntKind.i64.wrap (nodes+(1:Int)),found,ab,PUnit.unit)) (∃(Ha:List Int),Mu.fn ((↑g.length:Int),())=some Ha/\0=0/\(List.take w.length (List.drop 0 w)).length=(List.take w.length (List.drop 0 w)).length/\Di (λ(Nl:ae) (k18:ae->Prop)=>Br (decide (Nl.1<(↑Ha.length:Int))) (∃(BM:Int),idx Ha Nl.1=some BM/\Br (BM==IntKind.i64.wrap ((0:Int)-(0:Int))) (0=0/\(List.take Nl.2.1.length (List.drop 0 Nl.2.1)).length=(List.take Nl.2.1.length (List.drop 0 Nl.2.1)).length/\k18 (IntKind.i64.wrap (Nl.1+(1:Int)),List.take Nl.2.1.length (List.drop 0 Nl.2.1),Nl.2.2.1,Nl.2.2.2.1,Nl.2.2.2.2.1,Nl.2.2.2.2.2.1,Nl.2.2.2.2.2.2.1,Nl.2.2.2.2.2.2.2.1,Nl.2.2.2.2.2.2.2.2.1,Nl.2.2.2.2.2.2.2.2.2.1,Nl.2.2.2.2.2.2.2.2.2.2.1,())) (0=0/\Nl.2.1.length=Nl.2.1.length/\Nl.2.1.length+(List.take 1 (List.drop 0 [BM])).length<=Dj/\ ∃(mH:List Int),Ii.fn (Nl.2.2.2.2.1,BM,())=some mH/\ ∃(se:List Int),Jo.fn (x,mH,())=some se/\0=0/\(Nl.2.1++List.take 1 (List.drop 0 [BM])).length=(Nl.2.1++List.take 1 (List.drop 0 [BM])).length/\ ∃(Xe:ou),(Us m).fn (Nl.2.2.1,Nl.2.2.2.1,Nl.2.2.2.2.1,Nl.2.2.2.2.2.1,Nl.2.2.2.2.2.2.1,Nl.2.2.2.2.2.2.2.1,Nl.2.1++List.take 1 (List.drop 0 [BM]),Nl.2.2.2.2.2.2.2.2.1,Nl.2.2.2.2.2.2.2.2.2.1,Nl.2.2.2.2.2.2.2.2.2.2.1,se,())=some Xe/\Br Xe.1.2.2.2.2.2.2.2.2.2.2.1 (P ((Xe.1.1,Xe.1.2.1,Xe.1.2.2.1,Xe.1.2.2.2.1,Xe.1.2.2.2.2.1,Xe.1.2.2.2.2.2.1,List.take Xe.1.2.2.2.2.2.2.1.length (List.drop 0 Xe.1.2.2.2.2.2.2.1),Xe.1.2.2.2.2.2.2.2.1,Xe.1.2.2.2.2.2.2.2.2.1,Xe.1.2.2.2.2.2.2.2.2.2.1,true,()),())) (((0:Int)<=(0:Int)/\(0:Int)<=Hl/\Hl<=(↑Xe.1.2.2.2.2.2.2.1.length:Int))/\0=0/\(List.take (Hl.toNat-Int.toNat (0:Int)) (List.drop (0+Int.toNat (0:Int)) Xe.1.2.2.2.2.2.2.1)).length=(List.take (Hl.toNat-Int.toNat (0:Int)) (List.drop (0+Int.toNat (0:Int)) Xe.1.2.2.2.2.2.2.1)).length/\k18 (IntKind.i64.wrap (Nl.1+(1:Int)),List.take (Hl.toNat-Int.toNat (0:Int)) (List.drop (0+Int.toNat (0:Int)) Xe.1.2.2.2.2.2.2.1),Xe.1.1,Xe.1.2.1,Xe.1.2.2.1,Xe.1.2.2.2.1,Xe.1.2.2.2.2.1,Xe.1.2.2.2.2.2.1,Xe.1.2.2.2.2.2.2.2.1,Xe.1.2.2.2.2.2.2.2.2.1,Xe.1.2.2.2.2.2.2.2.2.2.1,())))) (P ((Nl.2.2.1,Nl.2.2.2.1,Nl.2.2.2.2.1,Nl.2.2.2.2.2.1,Nl.2.2.2.2.2.2.1,Nl.2.2.2.2.2.2.2.1,List.take Nl.2.1.length (List.drop 0 Nl.2.1),Nl.2.2.2.2.2.2.2.2.1,Nl.2.2.2.2.2.2.2.2.2.1,Nl.2.2.2.2.2.2.2.2.2.2.1,false,()),()))) ((0:Int),List.take w.length (List.drop 0 w),n,str,g,b,Dy,every,IntKind.i64.wrap (nodes+(1:Int)),found,ab,PUnit.unit))))) (Br (Hl==Dy) (P ((n,str,g,b,Dy,every,List.take w.length (List.drop 0 w),IntKind.i64.wrap (nodes+(1:Int)),found,ab,false,()),())) (Br (decide (Hl>(0:Int))) (((0:Int)<=IntKind.i64.wrap (Hl-(1:Int))/\IntKind.i64.wrap (Hl-(1:Int))<(↑w.length:Int))/\ ∃(Ha:Int),w[0+(IntKind.i64.wrap (Hl-(1:Int))).toNat]?=some Ha/\ ∃(Iy:List Int),Mu.fn ((↑g.length:Int),())=some Iy/\0=0/\(List.take w.length (List.drop 0 w)).length=(List.take w.length (List.drop 0 w)).length/\Di (λ(Nm:ae) (k19:ae->Prop)=>Br (decide (Nm.1<(↑Iy.length:Int))) (∃(mH:Int),idx Iy Nm.1=some mH/\Br (mH==IntKind.i64.wrap ((0:Int)-Ha)) (0=0/\(List.take Nm.2.1.length (List.drop 0 Nm.2.1)).length=(List.take Nm.2.1.length (List.drop 0 Nm.2.1)).length/\k19 (IntKind.i64.wrap (Nm.1+(1:Int)),List.take Nm.2.1.length (List.drop 0 Nm.2.1),Nm.2.2.1,Nm.2.2.2.1,Nm.2.2.2.2.1,Nm.2.2.2.2.2.1,Nm.2.2.2.2.2.2.1,Nm.2.2.2.2.2.2.2.1,Nm.2.2.2.2.2.2.2.2.1,Nm.2.2.2.2.2.2.2.2.2.1,Nm.2.2.2.2.2.2.2.2.2.2.1,())) (0=0/\Nm.2.1.length=Nm.2.1.length/\Nm.2.1.length+(List.take 1 (List.drop 0 [mH])).length<=Dj/\ ∃(se:List Int),Ii.fn (Nm.2.2.2.2.1,mH,())=some se/\ ∃(Xe:List Int),Jo.fn (x,se,())=some Xe/\0=0/\(Nm.2.1++List.take 1 (List.drop 0 [mH])).length=(Nm.2.1++List.take 1 (List.drop 0 [mH])).length/\ ∃(ai:ou),(Us m).fn (Nm.2.2.1,Nm.2.2.2.1,Nm.2.2.2.2.1,Nm.2.2.2.2.2.1,Nm.2.2.2.2.2.2.1,Nm.2.2.2.2.2.2.2.1,Nm.2.1++List.take 1 (List.drop 0 [mH]),Nm.2.2.2.2.2.2.2.2.1,Nm.2.2.2.2.2.2.2.2.2.1,Nm.2.2.2.2.2.2.2.2.2.2.1,Xe,())=some ai/\Br ai.1.2.2.2.2.2.2.2.2.2.2.1 (P ((ai.1.1,ai.1.2.1,ai.1.2.2.1,ai.1.2.2.2.1,ai.1.2.2.2.2.1,ai.1.2.2.2.2.2.1,List.take ai.1.2.2.2.2.2.2.1.length (List.drop 0 ai.1.2.2.2.2.2.2.1),ai.1.2.2.2.2.2.2.2.1,ai.1.2.2.2.2.2.2.2.2.1,ai.1.2.2.2.2.2.2.2.2.2.1,true,()),())) (((0:Int)<=(0:Int)/\(0:Int)<=Hl/\Hl<=(↑ai.1.2.2.2.2.2.2.1.length:Int))/\0=0/\(List.take (Hl.toNat-Int.toNat (0:Int)) (List.drop (0+Int.toNat (0:Int)) ai.1.2.2.2.2.2.2.1)).length=(List.take (Hl.toNat-Int.toNat (0:Int)) (List.drop (0+Int.toNat (0:Int)) ai.1.2.2.2.2.2.2.1)).length/\k19 (IntKind.i64.wrap (Nm.1+(1:Int)),List.take (Hl.toNat-Int.toNat (0:Int)) (List.drop (0+Int.toNat (0:Int)) ai.1.2.2.2.2.2.2.1),ai.1.1,ai.1.2.1,ai.1.2.2.1,ai.1.2.2.2.1,ai.1.2.2.2.2.1,ai.1.2.2.2.2.2.1,ai.1.2.2.2.2.2.2.2.1,ai.1.2.2.2.2.2.2.2.2.1,ai.1.2.2.2.2.2.2.2.2.2.1,())))) (P ((Nm.2.2.1,Nm.2.2.2.1,Nm.2.2.2.2.1,Nm.2.2.2.2.2.1,Nm.2.2.2.2.2.2.1,Nm.2.2.2.2.2.2.2.1,List.take Nm.2.1.length (List.drop 0 Nm.2.1),Nm.2.2.2.2.2.2.2.2.1,Nm.2.2.2.2.2.2.2.2.2.1,Nm.2.2.2.2.2.2.2.2.2.2.1,false,()),()))) ((0:Int),List.take w.length (List.drop 0 w),n,str,g,b,Dy,every,IntKind.i64.wrap (nodes+(1:Int)),found,ab,PUnit.unit)) (∃(Ha:List Int),Mu.fn ((↑g.length:Int),())=some Ha/\0=0/\(List.take w.length (List.drop 0 w)).length=(List.take w.length (List.drop 0 w)).length/\Di (λ(Nl:ae) (k18:ae->Prop)=>Br (decide (Nl.1<(↑Ha.length:Int))) (∃(BM:Int),idx Ha Nl.1=some BM/\Br (BM==IntKind.i64.wrap ((0:Int)-(0:Int))) (0=0/\(List.take Nl.2.1.length (List.drop 0 Nl.2.1)).length=(List.take Nl.2.1.length (List.drop 0 Nl.2.1)).length/\k18 (IntKind.i64.wrap (Nl.1+(1:Int)),List.take Nl.2.1.length (List.drop 0 Nl.2.1),Nl.2.2.1,Nl.2.2.2.1,Nl.2.2.2.2.1,Nl.2.2.2.2.2.1,Nl.2.2.2.2.2.2.1,Nl.2.2.2.2.2.2.2.1,Nl.2.2.2.2.2.2.2.2.1,Nl.2.2.2.2.2.2.2.2.2.1,Nl.2.2.2.2.2.2.2.2.2.2.1,())) (0=0/\Nl.2.1.length=Nl.2.1.length/\Nl.2.1.length+(List.take 1 (List.drop 0 [BM])).length<=Dj/\ ∃(mH:List Int),Ii.fn (Nl.2.2.2.2.1,BM,())=some mH/\ ∃(se:List Int),Jo.fn (x,mH,())=some se/\0=0/\(Nl.2.1++List.take 1 (List.drop 0 [BM])).length=(Nl.2.1++List.take 1 (List.drop 0 [BM])).length/\ ∃(Xe:ou),(Us m).fn (Nl.2.2.1,Nl.2.2.2.1,Nl.2.2.2.2.1,Nl.2.2.2.2.2.1,Nl.2.2.2.2.2.2.1,Nl.2.2.2.2.2.2.2.1,Nl.2.1++List.take 1 (List.drop 0 [BM]),Nl.2.2.2.2.2.2.2.2.1,Nl.2.2.2.2.2.2.2.2.2.1,Nl.2.2.2.2.2.2.2.2.2.2.1,se,())=some Xe/\Br Xe.1.2.2.2.2.2.2.2.2.2.2.1 (P ((Xe.1.1,Xe.1.2.1,Xe.1.2.2.1,Xe.1.2.2.2.1,Xe.1.2.2.2.2.1,Xe.1.2.2.2.2.2.1,List.take Xe.1.2.2.2.2.2.2.1.length (List.drop 0 Xe.1.2.2.2.2.2.2.1),Xe.1.2.2.2.2.2.2.2.1,Xe.1.2.2.2.2.2.2.2.2.1,Xe.1.2.2.2.2.2.2.2.2.2.1,true,()),())) (((0:Int)<=(0:Int)/\(0:Int)<=Hl/\Hl<=(↑Xe.1.2.2.2.2.2.2.1.length:Int))/\0=0/\(List.take (Hl.toNat-Int.toNat (0:Int)) (List.drop (0+Int.toNat (0:Int)) Xe.1.2.2.2.2.2.2.1)).length=(List.take (Hl.toNat-Int.toNat (0:Int)) (List.drop (0+Int.toNat (0:Int)) Xe.1.2.2.2.2.2.2.1)).length/\k18 (IntKind.i64.wrap (Nl.1+(1:Int)),List.take (Hl.toNat-Int.toNat (0:Int)) (List.drop (0+Int.toNat (0:Int)) Xe.1.2.2.2.2.2.2.1),Xe.1.1,Xe.1.2.1,Xe.1.2.2.1,Xe.1.2.2.2.1,Xe.1.2.2.2.2.1,Xe.1.2.2.2.2.2.1,Xe.1.2.2.2.2.2.2.2.1,Xe.1.2.2.2.2.2.2.2.2.1,Xe.1.2.2.2.2.2.2.2.2.2.1,())))) (P ((Nl.2.2.1,Nl.2.2.2.1,Nl.2.2.2.2.1,Nl.2.2.2.2.2.1,Nl.2.2.2.2.2.2.1,Nl.2.2.2.2.2.2.2.1,List.take Nl.2.1.length (List.drop 0 Nl.2.1),Nl.2.2.2.2.2.2.2.2.1,Nl.2.2.2.2.2.2.2.2.2.1,Nl.2.2.2.2.2.2.2.2.2.2.1,false,()),()))) ((0:Int),List.take w.length (List.drop 0 w),n,str,g,b,Dy,every,IntKind.i64.wrap (nodes+(1:Int)),found,ab,PUnit.unit)))))))=fnMW (mB [mS+6]) (look [(105,Ts),(57,aZ),(165,pD),(139,Mu),(135,Ii),(134,Jo),(127,hI.m (Us m))]) (Us (m+1)) Tryz.f127 (n,str,g,b,Dy,every,w,nodes,found,ab,x,()) P:=by kernel_rfl
theorem Ais (s:List Int) (h:short s):fnW Gr (look []) pD Tryz.f165 (s,()) (λ(z:Bool)=>z=dw s):=by
 unfold short at h
 refine Eq.mp (Ajj s _) ?_
 refine Bw s.length (λv=>v.1) (λj _=> ∀i (hi:i<s.length),i<j->s[i]=(i:Int)) rfl (λi _ h=>absurd h (by omega)) ?_
 rintro j ⟨i,⟨⟩⟩ K hj hi hR hK
 dsimp only at hi⊢
 subst hi
 refine Br.dec (λhl=>?_) λhl=>?_
 ·have hl:j<s.length:=by omega
  refine ⟨_,Cj hl,Br.of (λhb=>?_) λhb=>?_⟩
  ·have hb:(j:Int)≠s[j]:=by simpa using hb
   show false=dw s
   unfold dw
   refine (Ez λe=>hb ?_).symm
   have:(upto s.length)[j]?=some (j:Int):=by rw [jC hl]
   rw [<-e,Ac hl] at this
   exact (Az this).symm
  ·have hb:(j:Int)=s[j]:=by simpa using hb
   rw [Bz (by omega)]
   refine hK hl _ rfl λi hi jT=>?_
   by_cases e:i=j
   ·subst e;exact hb.symm
   ·exact hR i hi (by omega)
 ·have:j=s.length:=by omega
  subst this
  show true=dw s
  unfold dw
  refine (Cy (eN (by rw [Sv]) λi h1 h2=>?_)).symm
  rw [hR i h1 h1]
  have:(upto s.length)[i]?=some (i:Int):=by rw [jC h1]
  rw [Ac h2] at this
  exact (Az this).symm
theorem MQ:Sound Tryz.prog 165 pD:=
 Sound.Hj Ee Bo mixed Tryz.func165 (by kernel_rfl) (by kernel_rfl) λx h=>Ais x.1 h
theorem SA {p:PP} {ts:List TT} {s:List Int} {l:Int} (h:Tq p ts s=true) (hl:Fq (List.length p.2.2.1) l):Tq p ts (cw p.2.2.1 s l)=true:=by
 obtain ⟨_,_,hr⟩:=p9 h
 obtain ⟨hv,hp,hg⟩:=ue hr
 have hm:l∈Ax p.2.2.1.length:=by
  obtain ⟨k,hk,rfl|rfl⟩:=Oc hl
  ·exact (Mp hk).1
  ·exact (Mp hk).2
 unfold Tq at h⊢
 obtain ⟨_,h2⟩:=Bi.1 h
 exact Bi.2 ⟨DJ hv (tE hg hm),h2⟩
theorem XW {p:PP} {ts:List TT} {s:List Int} (h:Tq p ts s=true):Valid p/\s.length=p.1.toNat/\s.length<=20/\(∀y∈s,0<=y/\y<p.1)/\ig ts/\oI ts s:=by
 obtain ⟨ha,hb,hr⟩:=p9 h
 obtain ⟨hv,hp,hg⟩:=ue hr
 have hV:=valid hv
 have hn:=hV.n
 have h1:=hp.1
 exact ⟨hV,h1,by omega,λy hy=>by have:=hp.row y hy;omega,ha,hb⟩
theorem tC {w:List Int} (h:0<w.length):w[w.length-1]?=some (Ji w):=by
 unfold Ji
 rw [List.getLastD_eq_getLast?,List.getLast?_eq_getElem?]
 cases hw:w[w.length-1]? with
 |none=>rw [List.getElem?_eq_none_iff] at hw;omega
 |some x=>rfl
theorem KK {w:List Int} {n:Nat} (hn:n<=8) (h: ∀l∈w,Fq n l): -8<=Ji w/\Ji w<=8:=by
 cases hw:w with
 |nil=>simp [Ji]
 |cons a r=>
  have hp:0<w.length:=by rw [hw];simp
  have:=h _ (Cd (tC hp))
  rw [hw] at this
  unfold Fq at this
  omega
theorem Ae8 {m:Nat} (n:Int) (str:ByteArray) (g:List (List Int)) (b:Option BB) (Dy:Int) (every:Bool) (w:List Int) (nodes found:Int) (ab:Bool) (x:List Int)
  (h:yi n str g b Dy w nodes found x/\(Dy-w.length).toNat<m+1):
  fnMW (mB [mS+6]) (look [(105,Ts),(57,aZ),(165,pD),(139,Mu),(135,Ii),(134,Jo),(127,hI.m (Us m))]) (Us (m+1)) Tryz.f127 (n,str,g,b,Dy,every,w,nodes,found,ab,x,()) (λ(z:(Int×ByteArray×List (List Int)×Option BB×Int×Bool×List Int×Int×Int×Bool×Bool×Unit)×Unit)=>z=(j5 n str g b Dy every (rk n g b Dy every w nodes found ab x),())):=by
 obtain ⟨⟨ts,rfl,hh,Arp,WE,kr,⟨hn0,hn1⟩,hf0,hf1⟩,hm⟩:=h
 obtain ⟨hV,vu,Ass,PM,ha,hb⟩:=XW hh
 have hN:=hV.n
 have PM: ∀y∈x,0<=y/\y<n:=PM
 have lX:1<=g.length/\g.length<=8:=hV.gu
 have Adh:=PV ha hb
 have hbd:WI (some (Cw ts)) x:=⟨ts,ha,rfl,hb⟩
 have YA:dw x=decide (x=upto n.toNat):=by unfold dw;rw [vu]
 have hlb:=KK lX.2 kr
 obtain ⟨q,hq⟩: ∃q,rk n g (some (Cw ts)) Dy every w nodes found ab x=q:=⟨_,rfl⟩
 refine Eq.mp (Aes n str g (some (Cw ts)) Dy every w nodes found ab x _) ?_
 rw [hq]
 unfold rk at hq
 obtain ⟨k,hk⟩: ∃k,(Dy-w.length).toNat=k:=⟨_,rfl⟩
 rw [hk] at hq hm
 rw [iN] at hq
 simp only [Bv,true_and]
 have fin: ∀r:IS,r=q->(((n,str,g,some (Cw ts),Dy,every,r.2.1,r.2.2.1,r.2.2.2.1,r.2.2.2.2,r.1,()),()):(Int×ByteArray×List (List Int)×Option BB×Int×Bool×List Int×Int×Int×Bool×Bool×Unit)×Unit)=(j5 n str g (some (Cw ts)) Dy every q,()):= λr e=>by subst e;rfl
 refine Br.of (λh1=>?_) λh1=>?_
 ·rw [Ab (eq_of_beq h1)] at hq
  exact fin _ hq
 have h1: ¬nodes=20000:=by simpa using h1
 rw [Ai h1] at hq
 refine ⟨(w.length:Int),Ab trivial,Ir ts x,Ab hbd,?_⟩
 show Br (decide (IntKind.i64.wrap ((w.length:Int)+Ir ts x)>Dy)) _ _
 rw [Cn (n:=(w.length:Int)+Ir ts x) (by omega) (by omega),Cn (n:=nodes+1) (by omega) (by omega),Cn (n:=found+1) (by omega) (by omega)]
 have hlE:Rj (some (Cw ts)) x=Ir ts x:=rfl
 refine Br.dec (λh2=>?_) λh2=>?_
 ·rw [Ab (by rw [hlE];exact h2)] at hq
  exact fin _ hq
 rw [Ai (by rw [hlE];exact h2)] at hq
 refine ⟨dw x,Ab (by show x.length<=4294967296;omega),?_⟩
 show Br (dw x) _ _
 rw [YA]
 have pa:Mu.fn ((g.length:Int),())=some (Ax g.length):=Ab ⟨Int.natCast_nonneg _,by show ((g.length:Nat):Int)<=8;omega⟩
 have hL:=Oo g.length
 refine Br.of (λh3=>Br.of (λh4=>?a) λh4=>Br.of (λh5=>?b) λh5=>?c) λh3=>Br.of (λh5=>?d) λh5=>?e
 case a=>
  rw [Ab ⟨Ik h3,eq_of_beq h4⟩] at hq
  exact fin _ hq
 case b=>
  rw [h4] at h5;cases h5
 case d=>
  rw [Ai (λhc=>of_decide_eq_false h3 hc.1),Ab (eq_of_beq h5)] at hq
  exact fin _ hq
 all_goals
  have h6: ¬(w.length:Int)=Dy:= λhc=>by rw [hc] at h5;simp at h5
  rw [Ai (λhc=>h6 hc.2),Ai h6] at hq
  have hk1:k=(Dy-((w.length+1:Nat):Int)).toNat+1:=by omega
 all_goals
  refine Br.dec (λh7=>⟨⟨by rw [Cn (by omega) (by omega)];omega,by rw [Cn (by omega) (by omega)];omega⟩,Ji w,?_,Ax g.length,pa,?_⟩) λh7=>⟨Ax g.length,pa,?_⟩
 all_goals first
  |(have h7:0<w.length:=by omega
    rw [Cn (by omega) (by omega),Cb,show ((w.length:Int)-1).toNat=w.length-1 by omega]
    exact tC h7)
  |skip
 all_goals first
  |rw [show IntKind.i64.wrap ((0:Int)-Ji w)= -Ji w by rw [Cn (by omega) (by omega)];omega]
  |rw [show IntKind.i64.wrap ((0:Int)-(0:Int))= -Ji w by
    have:w= []:=List.length_eq_zero_iff.1 (by omega)
    rw [this];rfl]
 all_goals
  refine Bw (Ax g.length).length (λv=>v.1) (λj v=> ∃r:IS,v=((j:Int),w,n,str,g,some (Cw ts),Dy,every,r.2.2.1,r.2.2.2.1,r.2.2.2.2,())/\r.1=false/\r.2.1=w/\(0<=r.2.2.1/\r.2.2.1<=20000/\0<=r.2.2.2.1/\r.2.2.2.1<=r.2.2.1)/\
   ((Ax g.length).drop j).foldl (λ(r:IS) l=>if r.1=true\/l= -Ji w then r else
    if (iN (cw g) (Rj (some (Cw ts))) (upto n.toNat) (Ax g.length) Dy every k (cw g x l) (w++ [l]) r.2.2.1 r.2.2.2.1 r.2.2.2.2).1=true then iN (cw g) (Rj (some (Cw ts))) (upto n.toNat) (Ax g.length) Dy every k (cw g x l) (w++ [l]) r.2.2.1 r.2.2.2.1 r.2.2.2.2
    else (false,w,(iN (cw g) (Rj (some (Cw ts))) (upto n.toNat) (Ax g.length) Dy every k (cw g x l) (w++ [l]) r.2.2.1 r.2.2.2.1 r.2.2.2.2).2.2)) r=q) rfl
   ⟨(false,w,nodes+1,found,ab),rfl,rfl,rfl,⟨by show 0<=nodes+1;omega,by show nodes+1<=20000;omega,hf0,by show found<=nodes+1;omega⟩,by rw [Fy];exact hq⟩ ?_
  rintro j v K hj hi ⟨r,rfl,SH,YM,hr3,hR⟩ hK
  dsimp only
  refine Br.dec (λhl=>?_) λhl=>?_
  ·have hl:j<(Ax g.length).length:=by omega
   have hlj:Fq g.length (Ax g.length)[j]:=Lo (Al hl)
   have Awt:((Am g (Ax g.length)[j]).length:Int)=n:=(jW hV hlj).1
   rw [Fg hl,Df] at hR
   refine ⟨_,Cj hl,Br.of (λhe=>?_) λhe=>?_⟩
   ·rw [Ab (.inr (eq_of_beq he))] at hR
    rw [Bz (by omega)]
    exact hK hl _ rfl ⟨r,by simp only [Bv],SH,YM,hr3,hR⟩
   ·have he: ¬(Ax g.length)[j]= -Ji w:=by simpa using he
    rw [Ai (by rw [SH];simpa using he)] at hR
    have bM:=Ag5 (nx:=cw g) (low:=Rj (some (Cw ts))) (one:=upto n.toNat) (ls:=Ax g.length) (depth:=Dy) (every:=every) k (cw g x (Ax g.length)[j]) (w++ [(Ax g.length)[j]]) r.2.2.1 r.2.2.2.1 r.2.2.2.2 hr3
    have YL:rk n g (some (Cw ts)) Dy every (w++ [(Ax g.length)[j]]) r.2.2.1 r.2.2.2.1 r.2.2.2.2 (cw g x (Ax g.length)[j])=iN (cw g) (Rj (some (Cw ts))) (upto n.toNat) (Ax g.length) Dy every k (cw g x (Ax g.length)[j]) (w++ [(Ax g.length)[j]]) r.2.2.1 r.2.2.2.1 r.2.2.2.2:=by
     unfold rk
     rw [Au,Be,hk1]
    refine ⟨by show w.length+1<=4294967296;omega,_,Ab ⟨hlj,lX.2,hV.perm⟩,_,Ab ⟨Ass,λy hy=>by have:=PM y hy;show 0<=y/\y<((Am g (Ax g.length)[j]).length:Int);omega⟩,_,
     Ab ⟨⟨ts,rfl,SA hh hlj,Arp,by show ((w++ [(Ax g.length)[j]]).length:Int)<=Dy;rw [Au,Be];omega,λl hm=>by
      have hm:l∈w++ [(Ax g.length)[j]]:=hm
      rcases Ay.1 hm with hm|hm
      ·exact kr l hm
      ·rw [Ad.1 hm];exact hlj,⟨hr3.1,hr3.2.1⟩,hr3.2.2.1,hr3.2.2.2⟩,by show (Dy-((w++ [(Ax g.length)[j]]).length:Int)).toNat<m;rw [Au,Be];omega⟩,?_⟩
    show Br (rk n g (some (Cw ts)) Dy every (w++ [(Ax g.length)[j]]) r.2.2.1 r.2.2.2.1 r.2.2.2.2 (cw g x (Ax g.length)[j])).1 _ _
    dsimp only
    refine Br.of (λPj=>?_) λPj=>?_
    ·have JV:=Pj
     rw [YL] at JV
     rw [Ab JV,PQ _ _ JV] at hR
     have e:=fin _ hR
     rw [<-YL,Pj] at e
     refine Eq.trans ?_ e
     simp only [j5,Bv]
     rfl
    ·have JV:=Pj
     rw [YL] at JV
     have hwd:=Adu _ _ _ _ _ _ JV
     rw [Ai (by rw [JV];simp)] at hR
     rw [<-YL] at hwd
     refine ⟨⟨Gi _,Int.natCast_nonneg _,?_⟩,?_⟩
     ·show (w.length:Int)<=((rk n g (some (Cw ts)) Dy every (w++ [(Ax g.length)[j]]) r.2.2.1 r.2.2.2.1 r.2.2.2.2 (cw g x (Ax g.length)[j])).2.1.length:Int)
      rw [hwd,Au]
      omega
     ·rw [Bz (by omega)]
      refine hK hl _ rfl ⟨(false,w,(iN (cw g) (Rj (some (Cw ts))) (upto n.toNat) (Ax g.length) Dy every k (cw g x (Ax g.length)[j]) (w++ [(Ax g.length)[j]]) r.2.2.1 r.2.2.2.1 r.2.2.2.2).2.2),?_,rfl,rfl,bM,hR⟩
      have htk:List.take w.length (rk n g (some (Cw ts)) Dy every (w++ [(Ax g.length)[j]]) r.2.2.1 r.2.2.2.1 r.2.2.2.2 (cw g x (Ax g.length)[j])).2.1=w:=by rw [hwd];simp
      rw [<-YL]
      show (((j+1:Nat):Int),List.take w.length (rk n g (some (Cw ts)) Dy every (w++ [(Ax g.length)[j]]) r.2.2.1 r.2.2.2.1 r.2.2.2.2 (cw g x (Ax g.length)[j])).2.1,_)=_
      rw [htk]
      rfl
  ·have:j=(Ax g.length).length:=by omega
   subst this
   rw [Tj,List.foldl_nil] at hR
   have:=fin r hR
   rw [SH,YM] at this
   exact this
theorem MY {m:Nat} (ZB:Cl Tryz.prog 127 (Us m)):Cl Tryz.prog 127 (Us (m+1)):=
 Cl.gY (mC [mS+6]) (Ba fT (Ba qH (Ba MQ (Ba lh (Ba jt (Ba Wx (Fp ZB Bo))))))) mixed Tryz.func127 (by kernel_rfl) (by kernel_rfl) λx h=>Ae8 x.1 x.2.1 x.2.2.1 x.2.2.2.1 x.2.2.2.2.1 x.2.2.2.2.2.1 x.2.2.2.2.2.2.1 x.2.2.2.2.2.2.2.1 x.2.2.2.2.2.2.2.2.1 x.2.2.2.2.2.2.2.2.2.1 x.2.2.2.2.2.2.2.2.2.2.1 h
theorem AA:Cl Tryz.prog 127 (Us 0):=
 Cl.gY Ee Bo mixed Tryz.func127 (by kernel_rfl) (by kernel_rfl) λ_ h=>absurd h.2 (He _)
theorem od: ∀m,Cl Tryz.prog 127 (Us m)
 |0=>AA
 |m+1=>MY (od m)
theorem AB:Cl Tryz.prog 127 nY:=Cl.Agb (λx=>(x.2.2.2.2.1-List.length x.2.2.2.2.2.2.1).toNat) od
end Go.Proofs.YtkkdpknjohcekaaGreat
