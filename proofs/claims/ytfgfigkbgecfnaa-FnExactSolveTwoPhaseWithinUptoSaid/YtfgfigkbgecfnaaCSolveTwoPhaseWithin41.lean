/-
  Part 42 of the proof that the statement FnExactSolveTwoPhaseWithin holds.
-/
import Derived.Test.YtfgfigkbgecfnaaCSolveTwoPhaseWithin40
namespace Go.Proofs.Ytfgfigkbgecfnaa
open Go.RowKit
def ap (p:List Int) (i:Nat):Nat:=(Ef p (i:Int)).toNat
def Pm (n:Nat) (p:List Int):Prop:=p.length=n/\bO p
theorem Pm.n1 {n:Nat} {p:List Int} (h:Pm n p):1<=n:=h.1▸h.2.pos
theorem Pm.n2 {n:Nat} {p:List Int} (h:Pm n p):n<=20:=h.1▸h.2.len
theorem Pm.Sb {n:Nat} {p:List Int} (h:Pm n p) {i:Nat} (hi:i<n):Ef p (i:Int)=(ap p i:Int)/\ap p i<n:=by
 have cO:i<p.length:=by rw [h.1];exact hi
 have:=h.2.row _ (Ah cO);unfold ap;rw [Od cO];have h1:=h.1;omega
theorem Pm.lt {n:Nat} {p:List Int} (h:Pm n p) {i:Nat} (hi:i<n):ap p i<n:=(h.Sb hi).2
theorem Pm.ext {n:Nat} {p q:List Int} (h:Pm n p) (k:Pm n q) (e: ∀i,i<n->ap p i=ap q i):p=q:=by
 refine List.ext_getElem (by rw [h.1,k.1]) λi h1 h2=>?_
 have hi:i<n:=by rw [<-h.1];exact h1
 have a:=(h.Sb hi).1;have b:=(k.Sb hi).1;rw [Od h1] at a;rw [Od h2] at b;rw [a,b,e i hi]
theorem Pm.inj {n:Nat} {p:List Int} (h:Pm n p) {i j:Nat} (hi:i<n) (hj:j<n) (e:ap p i=ap p j):i=j:=
 h.2.inj i j (by rw [h.1];exact hi) (by rw [h.1];exact hj) e
theorem Pm.Abw {n:Nat} {p:List Int} (h:Pm n p) {k:Nat} (hk:k<n): ∃i,i<n/\ap p i=k:=by
 obtain ⟨i,h1,h2⟩:=h.2.Abw k (by rw [h.1];exact hk);exact ⟨i,by rw [<-h.1];exact h1,h2⟩
theorem Pm.of {n:Nat} {p:List Int} (hl:p.length=n) (h1:1<=n) (h2:n<=20) (f:Nat->Nat) (hf: ∀i,i<n->p[i]?=some (f i:Int)/\f i<n) (hi: ∀i j,i<n->j<n->f i=f j->i=j):Pm n p:=by
 refine ⟨hl,by omega,by omega,λy hy=>?_,?_⟩
 ·obtain ⟨i,hi,rfl⟩:=Bg.1 hy;obtain ⟨h3,h4⟩:=hf i (by omega);rw [Ad hi] at h3;rw [Bi h3];omega
 ·refine Fu.2 λi j h3 h4 h5 h6=>?_;have a:=(hf i (by omega)).1;have b:=(hf j (by omega)).1;rw [Ad h3] at a;rw [Ad h4] at b;rw [Bi a,Bi b] at h6;have:=hi i j (by omega) (by omega) (by omega);omega
theorem EZ {n:Nat} {p q:List Int} (hp:Pm n p) (hq:Pm n q) {i:Nat} (hi:i<n):(Am p q)[i]?=some (ap q (ap p i):Int):=by
 have h1:i<p.length:=by rw [hp.1];exact hi
 unfold Am;rw [Fa,Ad h1];have a:=(hp.Sb hi).1;rw [Od h1] at a;simp only [An,a];rw [(hq.Sb (hp.Sb hi).2).1]
theorem Pm.comp {n:Nat} {p q:List Int} (hp:Pm n p) (hq:Pm n q):Pm n (Am p q):=
 Pm.of (by rw [Vu,hp.1]) hp.n1 hp.n2 (λi=>ap q (ap p i)) (λi hi=>⟨EZ hp hq hi,hq.lt (hp.lt hi)⟩) λi j hi hj e=>hp.inj hi hj (hq.inj (hp.lt hi) (hp.lt hj) e)
theorem ZN {p:List Int} {i k:Nat} (h:p[i]?=some (k:Int)):ap p i=k:=by
 unfold ap Ef;rw [Ab,Al,h];simp
theorem Kf {n:Nat} {p q:List Int} (hp:Pm n p) (hq:Pm n q) {i:Nat} (hi:i<n):ap (Am p q) i=ap q (ap p i):=ZN (EZ hp hq hi)
theorem KD {n i:Nat} (hi:i<n):(upto n)[i]?=some (i:Int):=by simp [upto,hi]
theorem ll {n i:Nat} (hi:i<n):ap (upto n) i=i:=ZN (KD hi)
theorem Pm.id {n:Nat} (h1:1<=n) (h2:n<=20):Pm n (upto n):=Pm.of (by simp [upto]) h1 h2 (λi=>i) (λi hi=>⟨KD hi,hi⟩) λ_ _ _ _ e=>e
theorem SQ {n:Nat} {p:List Int} (hp:Pm n p) {i:Nat} (hi:i<n):(Cc p)[ap p i]?=some (i:Int):=Ab9 hp.2 (by rw [hp.1];exact hi)
theorem kz {n:Nat} {p:List Int} (hp:Pm n p) {i:Nat} (hi:i<n):ap (Cc p) (ap p i)=i:=ZN (SQ hp hi)
theorem zj {n:Nat} {p:List Int} (hp:Pm n p) {k:Nat} (hk:k<n):ap p (ap (Cc p) k)=k:=by
 obtain ⟨i,hi,rfl⟩:=hp.Abw hk;rw [kz hp hi]
theorem Pm.inv {n:Nat} {p:List Int} (hp:Pm n p):Pm n (Cc p):=by
 refine Pm.of (by rw [sH,hp.1]) hp.n1 hp.n2 (λk=>ap (Cc p) k) (λk hk=>?_) λi j hi hj e=>?_
 ·obtain ⟨i,hi,rfl⟩:=hp.Abw hk;rw [kz hp hi];exact ⟨SQ hp hi,hi⟩
 ·rw [<-zj hp hi,<-zj hp hj,e]
theorem Ij {n:Nat} {p q r:List Int} (hp:Pm n p) (hq:Pm n q) (hr:Pm n r):Am (Am p q) r=Am p (Am q r):=
 ((hp.comp hq).comp hr).ext (hp.comp (hq.comp hr)) λi hi=>by rw [Kf (hp.comp hq) hr hi,Kf hp hq hi,Kf hp (hq.comp hr) hi,Kf hq hr (hp.lt hi)]
theorem comp_id {n:Nat} {p:List Int} (hp:Pm n p):Am p (upto n)=p:=
 (hp.comp (Pm.id hp.n1 hp.n2)).ext hp λi hi=>by rw [Kf hp (Pm.id hp.n1 hp.n2) hi,ll (hp.lt hi)]
theorem id_comp {n:Nat} {p:List Int} (hp:Pm n p):Am (upto n) p=p:=
 ((Pm.id hp.n1 hp.n2).comp hp).ext hp λi hi=>by rw [Kf (Pm.id hp.n1 hp.n2) hp hi,ll hi]
theorem j5 {n:Nat} {p:List Int} (hp:Pm n p):Am p (Cc p)=upto n:=
 (hp.comp hp.inv).ext (Pm.id hp.n1 hp.n2) λi hi=>by rw [Kf hp hp.inv hi,kz hp hi,ll hi]
theorem cg {n:Nat} {p:List Int} (hp:Pm n p):Am (Cc p) p=upto n:=
 (hp.inv.comp hp).ext (Pm.id hp.n1 hp.n2) λi hi=>by rw [Kf hp.inv hp hi,zj hp hi,ll hi]
theorem ui {n:Nat} {p q:List Int} (hp:Pm n p) (hq:Pm n q) (h:Am p q=upto n):Cc p=q:=by
 rw [<-comp_id hp.inv,<-h,<-Ij hp.inv hp hq,cg hp,id_comp hq]
theorem inv_mul {n:Nat} {p q:List Int} (hp:Pm n p) (hq:Pm n q):Cc (Am p q)=Am (Cc q) (Cc p):=
 ui (hp.comp hq) (hq.inv.comp hp.inv) (by
  rw [Ij hp hq (hq.inv.comp hp.inv),<-Ij hq hq.inv hp.inv,j5 hq,id_comp hp.inv,j5 hp])
theorem inv_inv {n:Nat} {p:List Int} (hp:Pm n p):Cc (Cc p)=p:=ui hp.inv hp (cg hp)
theorem Aba {n:Nat} (h1:1<=n) (h2:n<=20):Cc (upto n)=upto n:=ui (Pm.id h1 h2) (Pm.id h1 h2) (comp_id (Pm.id h1 h2))
inductive eo (n:Nat) (S:List Int->Prop):List Int->Prop where
 |id:eo n S (upto n)
 |mul {p g:List Int} :eo n S p->S g->eo n S (Am p g)
 |inv {p g:List Int} :eo n S p->S g->eo n S (Am p (Cc g))
def RE (n:Nat) (S:List Int->Prop):Prop:=(1<=n/\n<=20)/\ ∀g,S g->Pm n g
theorem eo.pm {n:Nat} {S:List Int->Prop} (hS:RE n S) {p:List Int} (h:eo n S p):Pm n p:=by
 induction h with
 |id=>exact Pm.id hS.1.1 hS.1.2
 |mul _ hg ih=>exact ih.comp (hS.2 _ hg)
 |inv _ hg ih=>exact ih.comp (hS.2 _ hg).inv
theorem eo.comp {n:Nat} {S:List Int->Prop} (hS:RE n S) {p q:List Int} (hp:eo n S p) (hq:eo n S q):eo n S (Am p q):=by
 induction hq with
 |id=>rw [comp_id (hp.pm hS)];exact hp
 |mul hq hg ih=>rw [<-Ij (hp.pm hS) (hq.pm hS) (hS.2 _ hg)];exact .mul ih hg
 |inv hq hg ih=>rw [<-Ij (hp.pm hS) (hq.pm hS) (hS.2 _ hg).inv];exact .inv ih hg
theorem eo.one {n:Nat} {S:List Int->Prop} (hS:RE n S) {g:List Int} (hg:S g):eo n S g:=by
 have:=eo.mul (n:=n) (S:=S) .id hg
 rwa [id_comp (hS.2 g hg)] at this
theorem eo.Alo {n:Nat} {S:List Int->Prop} (hS:RE n S) {g:List Int} (hg:S g):eo n S (Cc g):=by
 have:=eo.inv (n:=n) (S:=S) .id hg
 rwa [id_comp (hS.2 g hg).inv] at this
theorem eo.zV {n:Nat} {S:List Int->Prop} (hS:RE n S) {p:List Int} (hp:eo n S p):eo n S (Cc p):=by
 induction hp with
 |id=>rw [Aba hS.1.1 hS.1.2];exact .id
 |mul hq hg ih=>rw [inv_mul (hq.pm hS) (hS.2 _ hg)];exact (eo.Alo hS hg).comp hS ih
 |inv hq hg ih=>rw [inv_mul (hq.pm hS) (hS.2 _ hg).inv,inv_inv (hS.2 _ hg)];exact (eo.one hS hg).comp hS ih
theorem eo.trans {n:Nat} {S S':List Int->Prop} (hS':RE n S') (h: ∀g,S g->eo n S' g) {p:List Int} (hp:eo n S p):eo n S' p:=by
 induction hp with
 |id=>exact .id
 |mul _ hg ih=>exact ih.comp hS' (h _ hg)
 |inv _ hg ih=>exact ih.comp hS' ((h _ hg).zV hS')
abbrev PO:=Option (List Int)
abbrev Row:=List PO
abbrev Fw:=List Row
def Nq (row:Row):List Int:=(upto row.length).filter λy=>(row.getD y.toNat none).isSome
def Of (T:Fw):Nat->Nat->List Int->Bool
 |0,_,_=>true
 |k+1,i,p=>match (T.getD i []).getD (Ef p (i:Int)).toNat none with
  |none=>false
  |some t=>Of T k (i+1) (Am p (Cc t))
def Su (row:Row):Nat:=row.countP (·.isNone)
def aZ (x:Int) (s:Row×List Int) (o:PO):Row×List Int:=
 match s.1.getD (Ef (o.getD []) x).toNat none with
 |some _=>s
 |none=>(s.1.set (Ef (o.getD []) x).toNat (some (Am ((s.1.getD x.toNat none).getD []) (o.getD []))),s.2++ [Ef (o.getD []) x])
def aS (x:Int) (gs:List PO) (s:Row×List Int):Row×List Int:=gs.foldl (aZ x) s
def aH (gs:List PO):Nat->List Int->Row->Row
 |0,_,row=>row
 |_+1,[],row=>row
 |f+1,x::q,row=>aH gs f (aS x gs (row,q)).2 (aS x gs (row,q)).1
def a6 (gs:List PO) (row:Row):Row:=aH gs 100 (Nq row) row
def Uu (row:Row) (y:Int) (g:PO):List Int:=
 Am (Am ((row.getD y.toNat none).getD []) (g.getD [])) (Cc ((row.getD (Ef (g.getD []) y).toNat none).getD []))
def ik (row:Row) (gs:List PO):List (List Int):=(Nq row).flatMap λy=>gs.map λg=>Uu row y g
def Hy:Nat->Nat->List Int->Fw×Fw->Fw×Fw
 |0,_,_,s=>s
 |k+1,l,p,s=>
  if Of s.2 (k+1) l p=true then s else
   (ik (a6 (s.1.getD l []++ [some p]) (s.2.getD l [])) (s.1.getD l []++ [some p])).foldl (λs q=>Hy k (l+1) q s)
    (s.1.set l (s.1.getD l []++ [some p]),s.2.set l (a6 (s.1.getD l []++ [some p]) (s.2.getD l [])))
def Fx (l:Nat) (p:List Int):Prop:= ∀i,i<l->ap p i=i
def Gn (n:Nat) (gs:List PO):List Int->Prop:=eo n λg=>some g∈gs
structure Lvl (n l:Nat) (gs:List PO) (row:Row) (H:List Int->Prop):Prop where
 pg: ∀o∈gs,∃g,o=some g/\Pm n g/\Fx l g
 rl:row.length=n
 r0:row.getD l none=some (upto n)
 rt: ∀y t,row.getD y none=some t->Pm n t/\Fx l t/\ap t l=y/\Gn n gs t
 cl: ∀y t g,row.getD y none=some t->some g∈gs->row.getD (ap g y) none≠none
 sg: ∀y t g t',row.getD y none=some t->some g∈gs->row.getD (ap g y) none=some t'->H (Am (Am t g) (Cc t'))
def l4 (n:Nat):Nat->Nat->Fw×Fw->Prop
 |0,l,s=>s.1.getD l []= []
 |k+1,l,s=>l4 n k (l+1) s/\Lvl n l (s.1.getD l []) (s.2.getD l []) (λq=>Of s.2 k (l+1) q=true)/\ ∀g,some g∈s.1.getD (l+1) []->Gn n (s.1.getD l []) g
theorem Agy {l1 l2:List Nat} (hn:l1.Nodup) (hs: ∀x∈l1,x∈l2) (hl:l2.length<=l1.length): ∀x∈l2,x∈l1:=by
 induction l1 generalizing l2 with
 |nil=>
  intro x hx;have:l2= []:=Cr (by simpa using hl);rw [this] at hx;cases hx
 |cons a l ih=>
  intro x hx;obtain ⟨h1,h2⟩:=Cn.1 hn;have ha:=hs a (by simp)
  by_cases e:x=a
  ·subst e;simp
  ·refine At _ (ih (l2:=l2.erase a) h2 (λy hy=>?_) ?_ x ((List.mem_erase_of_ne e).2 hx))
   ·have hya:y≠a:= λe'=>h1 (by rw [<-e'];exact hy);exact (List.mem_erase_of_ne hya).2 (hs y (by simp [hy]))
   ·rw [List.length_erase_of_mem ha];simp only [Aw] at hl;omega
theorem OM {n:Nat} {g:List Int} (hg:Pm n g) (D:Nat->Bool) (h: ∀y,y<n->D y=true->D (ap g y)=true) {y:Nat} (hy:y<n) (hD:D y=true): ∃x,x<n/\D x=true/\ap g x=y:=by
 have:=Agy (l1:=((List.range n).filter D).map (ap g)) (l2:=(List.range n).filter D) ?_ ?_ (by simp) y (Ck.2 ⟨Ev.2 hy,hD⟩)
 ·obtain ⟨x,hx,e⟩:=Bh.1 this;obtain ⟨h1,h2⟩:=Ck.1 hx;exact ⟨x,Ev.1 h1,h2,e⟩
 ·refine List.pairwise_map.2 (List.Pairwise.imp_of_mem ?_ (List.nodup_range.filter D));intro a b ha hb Ii e;exact Ii (hg.inj (Ev.1 (Ck.1 ha).1) (Ev.1 (Ck.1 hb).1) e)
 ·intro x hx;obtain ⟨z,hz,rfl⟩:=Bh.1 hx;obtain ⟨h1,h2⟩:=Ck.1 hz;exact Ck.2 ⟨Ev.2 (hg.lt (Ev.1 h1)),h z (Ev.1 h1) h2⟩
theorem sB {row:Row} {y:Nat} {t:List Int} (h:row.getD y none=some t):y<row.length:=by
 rw [Al] at h;refine Bz λhn=>?_;rw [Dv (by omega)] at h;cases h
theorem Lvl.pms {n l:Nat} {gs:List PO} {row:Row} {H:List Int->Prop} (h:Lvl n l gs row H):RE n λg=>some g∈gs:=by
 refine ⟨?_,λg hg=>?_⟩
 ·have:=(h.rt l _ h.r0).1;exact ⟨this.n1,this.n2⟩
 ·obtain ⟨g',e,h1,_⟩:=h.pg _ hg;cases e;exact h1
theorem Fx.inv {n l:Nat} {p:List Int} (hp:Pm n p) (h:Fx l p) (hl:l<=n):Fx l (Cc p):= λi hi=>by
 have:=kz hp (i:=i) (by omega)
 rwa [h i hi] at this
theorem Fx.comp {n l:Nat} {p q:List Int} (hp:Pm n p) (hq:Pm n q) (h1:Fx l p) (h2:Fx l q) (hl:l<=n):Fx l (Am p q):= λi hi=>by
 rw [Kf hp hq (by omega),h1 i hi,h2 i hi]
theorem Fx.all {n:Nat} {p:List Int} (hp:Pm n p) (h:Fx n p):p=upto n:=hp.ext (Pm.id hp.n1 hp.n2) λi hi=>by rw [h i hi,ll hi]
theorem Fx.div {n l:Nat} {p t:List Int} (hp:Pm n p) (ht:Pm n t) (h1:Fx l p) (h2:Fx l t) (hl:l<n) (e:ap t l=ap p l):Fx (l+1) (Am p (Cc t)):= λi hi=>by
 rw [Kf hp ht.inv (by omega)]
 by_cases hil:i<l
 ·rw [h1 i hil];exact h2.inv ht (by omega) i hil
 ·have:i=l:=by omega
  subst this;rw [<-e,kz ht hl]
theorem o5 {n:Nat} (h1:1<=n) (h2:n<=20): ∀(k l:Nat) (s:Fw×Fw),l+k=n->l4 n k l s-> ∀p,Pm n p->Fx l p->(Of s.2 k l p=true↔Gn n (s.1.getD l []) p)
 |0,l,s,hk,hc,p,hp,hf=>by
  have hl:l=n:=by omega
  subst hl;rw [hf.all hp];exact ⟨λ_=> .id,λ_=>rfl⟩
 |k+1,l,s,hk,hc,p,hp,hf=>by
  obtain ⟨c1,c2,c3⟩:=hc;have hS:=c2.pms;have ih:=o5 h1 h2 k (l+1) s (by omega) c1
  have hS1:RE n λg=>some g∈s.1.getD (l+1) []:=⟨⟨h1,h2⟩,λg hg=>(c3 g hg).pm hS⟩
  have eQ:l<n:=by omega
  constructor
  ·intro h;simp only [Of] at h;rw [show (Ef p (l:Int)).toNat=ap p l from rfl] at h;split at h
   ·cases h
   ·rename_i t ht;obtain ⟨t1,t2,t3,t4⟩:=c2.rt _ _ ht;have hf':=Fx.div hp t1 hf t2 eQ t3;have hg:=((ih _ (hp.comp t1.inv) hf').1 h).trans hS c3;have:=eo.comp hS hg t4
    rwa [Ij hp t1.inv t1,cg t1,comp_id hp] at this
  ·intro h
   have key: ∀q,Gn n (s.1.getD l []) q-> ∃t,(s.2.getD l []).getD (ap q l) none=some t/\Gn n (s.1.getD (l+1) []) (Am q (Cc t)):=by
    intro q hq
    induction hq with
    |id=>
     refine ⟨upto n,by rw [ll eQ];exact c2.r0,?_⟩;rw [Aba h1 h2,comp_id (Pm.id h1 h2)];exact .id
    | @mul q g hq hg ihq=>
     obtain ⟨t,e1,e2⟩:=ihq;have hqp:=eo.pm hS hq;have Yc:=hS.2 _ hg;obtain ⟨t1,t2,t3,t4⟩:=c2.rt _ _ e1
     cases e3:(s.2.getD l []).getD (ap g (ap q l)) none with
     |none=>exact absurd e3 (c2.cl _ _ _ e1 hg)
     |some t'=>
      obtain ⟨u1,u2,u3,u4⟩:=c2.rt _ _ e3;have hsg:=c2.sg _ _ _ _ e1 hg e3;have hfg:Fx (l+1) (Am (Am t g) (Cc t')):=Fx.div (t1.comp Yc) u1 (Fx.comp t1 Yc t2 (by obtain ⟨g',e,_,h⟩:=c2.pg _ hg;cases e;exact h) (by omega)) u2 eQ (by rw [u3,Kf t1 Yc eQ,t3]);have hgn:=(ih _ ((t1.comp Yc).comp u1.inv) hfg).1 hsg;refine ⟨t',by rw [Kf hqp Yc eQ];exact e3,?_⟩;have:=eo.comp hS1 e2 hgn
      rwa [show Am (Am q (Cc t)) (Am (Am t g) (Cc t'))=Am (Am q g) (Cc t') by
       rw [Ij hqp t1.inv ((t1.comp Yc).comp u1.inv),Ij t1 Yc u1.inv,<-Ij t1.inv t1 (Yc.comp u1.inv),cg t1,id_comp (Yc.comp u1.inv),Ij hqp Yc u1.inv]] at this
    | @inv q g hq hg ihq=>
     obtain ⟨t,e1,e2⟩:=ihq;have hqp:=eo.pm hS hq;have Yc:=hS.2 _ hg;obtain ⟨t1,t2,t3,t4⟩:=c2.rt _ _ e1;have hy:ap q l<n:=hqp.lt eQ
     obtain ⟨x,hx,hD,he⟩:=OM Yc (λy=>((s.2.getD l []).getD y none).isSome) (λy hy hd=>by
      obtain ⟨t0,ht0⟩:=Xs.1 hd
      exact Option.ne_none_iff_isSome.1 (c2.cl _ _ _ ht0 hg)) hy (by rw [e1];rfl)
     obtain ⟨t',e3⟩:=Xs.1 hD;obtain ⟨u1,u2,u3,u4⟩:=c2.rt _ _ e3;have hsg:=c2.sg _ _ _ _ e3 hg (by rw [he];exact e1);have hfg:Fx (l+1) (Am (Am t' g) (Cc t)):=Fx.div (u1.comp Yc) t1 (Fx.comp u1 Yc u2 (by obtain ⟨g',e,_,h⟩:=c2.pg _ hg;cases e;exact h) (by omega)) t2 eQ (by rw [t3,Kf u1 Yc eQ,u3,he]);have hgn:=eo.zV hS1 ((ih _ ((u1.comp Yc).comp t1.inv) hfg).1 hsg)
     have hax:ap (Cc g) (ap q l)=x:=by rw [<-he,kz Yc hx]
     refine ⟨t',by rw [Kf hqp Yc.inv eQ,hax];exact e3,?_⟩;have:=eo.comp hS1 e2 hgn
     rwa [show Am (Am q (Cc t)) (Cc (Am (Am t' g) (Cc t)))=Am (Am q (Cc g)) (Cc t') by
      rw [inv_mul (u1.comp Yc) t1.inv,inv_inv t1,inv_mul u1 Yc,Ij hqp t1.inv (t1.comp (Yc.inv.comp u1.inv)),<-Ij t1.inv t1 (Yc.inv.comp u1.inv),cg t1,id_comp (Yc.inv.comp u1.inv),Ij hqp Yc.inv u1.inv]] at this
   obtain ⟨t,e1,e2⟩:=key p h;obtain ⟨t1,t2,t3,t4⟩:=c2.rt _ _ e1;simp only [Of];rw [show (Ef p (l:Int)).toNat=ap p l from rfl,e1];exact (ih _ (hp.comp t1.inv) (Fx.div hp t1 hf t2 eQ t3)).2 e2
theorem Vy {α:Type} (xs:List α) (i j:Nat) (x d:α):(xs.set i x).getD j d=if i=j/\i<xs.length then x else xs.getD j d:=by
 rw [Al,Fb,Al]
 by_cases e:i=j
 ·subst e
  by_cases h:i<xs.length
  ·rw [Ac rfl,Ac h,Ac ⟨rfl,h⟩];rfl
  ·rw [Ac rfl,Ai h,Ai (λhh=>h hh.2),Dv (by omega)]
 ·rw [Ai e,Ai (λhh=>e hh.1)]
theorem eo.mono {n:Nat} {S S':List Int->Prop} (h: ∀g,S g->S' g) {p:List Int} (hp:eo n S p):eo n S' p:=by
 induction hp with
 |id=>exact .id
 |mul _ hg ih=>exact .mul ih (h _ hg)
 |inv _ hg ih=>exact .inv ih (h _ hg)
structure Xz (n l:Nat) (gs:List PO) (row:Row):Prop where
 rl:row.length=n
 r0:row.getD l none=some (upto n)
 rt: ∀y t,row.getD y none=some t->Pm n t/\Fx l t/\ap t l=y/\Gn n gs t
def PG (n l:Nat) (gs:List PO):Prop:= ∀o∈gs,∃g,o=some g/\Pm n g/\Fx l g
structure Ext (n l:Nat) (gs:List PO) (row:Row) (q:List Int) (s':Row×List Int):Prop where
 ok:Xz n l gs s'.1
 mono: ∀y t,row.getD y none=some t->s'.1.getD y none=some t
 phi:s'.2.length+Su s'.1=q.length+Su row
 wu: ∀y∈q,y∈s'.2
 new: ∀y∈s'.2,y∈q\/ ∃yn:Nat,y=yn/\s'.1.getD yn none≠none
 src: ∀y:Nat,s'.1.getD y none≠none->row.getD y none≠none\/(y:Int)∈s'.2
theorem Ext.refl {n l:Nat} {gs:List PO} {row:Row} {q:List Int} (h:Xz n l gs row):Ext n l gs row q (row,q):=⟨h,λ_ _ h=>h,rfl,λ_ h=>h,λ_ h=> .inl h,λ_ h=> .inl h⟩
theorem gi {a b:Row} (h: ∀y t,a.getD y none=some t->b.getD y none=some t) {y:Nat} (hy:a.getD y none≠none):b.getD y none≠none:=by
 cases e:a.getD y none with
 |none=>exact absurd e hy
 |some t=>rw [h y t e];simp
theorem Ext.trans {n l:Nat} {gs:List PO} {row:Row} {q:List Int} {s1 s2:Row×List Int} (h:Ext n l gs row q s1) (k:Ext n l gs s1.1 s1.2 s2):Ext n l gs row q s2:=by
 refine ⟨k.ok,λy t e=>k.mono y t (h.mono y t e),k.phi.trans h.phi,λy hy=>k.wu y (h.wu y hy),λy hy=>?_,λy hy=>?_⟩
 ·rcases k.new y hy with h1|h1
  ·rcases h.new y h1 with h2|⟨yn,h2,h3⟩
   ·exact .inl h2
   ·exact .inr ⟨yn,h2,gi k.mono h3⟩
  ·exact .inr h1
 ·rcases k.src y hy with h1|h1
  ·exact (h.src y h1).imp id λh2=>k.wu _ h2
  ·exact .inr h1
theorem VS {row:Row} {i:Nat} {t:List Int} (h:row.getD i none=none) (hi:i<row.length):Su (row.set i (some t))+1=Su row:=by
 unfold Su
 have e:row[i]=none:=by
  rw [Al,Ad hi] at h;exact h
 have h1:=List.countP_set (p:= λo:PO=>o.isNone) (l:=row) (i:=i) (a:=some t) hi;have mH:0<row.countP (·.isNone):=List.countP_pos_iff.2 ⟨row[i],Ah hi,by rw [e];rfl⟩;rw [h1,e];simp;omega
theorem Agx {n l:Nat} {gs:List PO} (eQ:l<n) (hg:PG n l gs) {row:Row} {q:List Int} (h:Xz n l gs row) {x:Nat} {t:List Int} (hx:row.getD x none=some t) {g:List Int} (ho:some g∈gs):
  Ext n l gs row q (aZ (x:Int) (row,q) (some g))/\(aZ (x:Int) (row,q) (some g)).1.getD (ap g x) none≠none:=by
 obtain ⟨g',e,Yc,hgf⟩:=hg _ ho;cases e;obtain ⟨t1,t2,t3,t4⟩:=h.rt _ _ hx
 have DW:x<n:=by rw [<-h.rl];exact sB hx
 obtain ⟨a1,a2⟩:=Yc.Sb DW;unfold aZ;simp only [Dm,a1,Ab]
 cases e:row.getD (ap g x) none with
 |some u=>exact ⟨Ext.refl h,by simp only;rw [e];simp⟩
 |none=>
  simp only [hx,Dm]
  have hl:ap g x<row.length:=by rw [h.rl];exact a2
  have hS:RE n λg=>some g∈gs:=⟨⟨t1.n1,t1.n2⟩,λg fz=>by obtain ⟨g',e,h1,_⟩:=hg _ fz;cases e;exact h1⟩
  have Ay: ∀y,(row.set (ap g x) (some (Am t g))).getD y none=if ap g x=y/\ap g x<row.length then some (Am t g) else row.getD y none:= λy=>Vy _ _ _ _ _
  have Ii: ∀y u,row.getD y none=some u->ap g x≠y:= λy u hu e'=>by rw [<-e',e] at hu;cases hu
  refine ⟨⟨⟨by simp [h.rl],?_,λy u hu=>?_⟩,λy u hu=>?_,?_,λy hy=>Bo _ hy,λy hy=>?_,λy hy=>?_⟩,?_⟩
  ·rw [Ay,Ai (λhh=>Ii l _ h.r0 hh.1)];exact h.r0
  ·rw [Ay] at hu;split at hu
   ·rename_i hc;cases hu;exact ⟨t1.comp Yc,Fx.comp t1 Yc t2 hgf (by omega),by rw [Kf t1 Yc eQ,t3];exact hc.1, .mul t4 ho⟩
   ·exact h.rt y u hu
  ·show (row.set (ap g x) (some (Am t g))).getD y none=some u;rw [Ay,Ai (λhh=>Ii y u hu hh.1)];exact hu
  ·have:=VS (t:=Am t g) e hl;simp only [Av,Aw,Ex];omega
  ·rcases Be.1 hy with hy|hy
   ·exact .inl hy
   ·simp only [Af] at hy;exact .inr ⟨ap g x,hy,by show (row.set (ap g x) (some (Am t g))).getD (ap g x) none≠none;rw [Ay,Ac ⟨rfl,hl⟩];simp⟩
  ·have hy:(row.set (ap g x) (some (Am t g))).getD y none≠none:=hy;rw [Ay] at hy;split at hy
   ·rename_i hc;exact .inr (by show (y:Int)∈q++ [(ap g x:Int)];rw [<-hc.1];simp)
   ·exact .inl hy
  ·show (row.set (ap g x) (some (Am t g))).getD (ap g x) none≠none;rw [Ay,Ac ⟨rfl,hl⟩];simp
theorem Aci {n l:Nat} {gs:List PO} (eQ:l<n) (hg:PG n l gs): ∀(gs':List PO) {row:Row} {q:List Int},(∀o∈gs',o∈gs)->Xz n l gs row-> ∀ {x:Nat} {t:List Int},row.getD x none=some t->
  Ext n l gs row q (aS (x:Int) gs' (row,q))/\ ∀g,some g∈gs'->(aS (x:Int) gs' (row,q)).1.getD (ap g x) none≠none
 | [],row,q,_,h,x,t,hx=>⟨Ext.refl h,λg hg=>by cases hg⟩
 |o::gs',row,q,hs,h,x,t,hx=>by
  obtain ⟨g,rfl,_,_⟩:=hg o (hs o (by simp));obtain ⟨e1,e2⟩:=Agx (q:=q) eQ hg h hx (hs (some g) (by simp));obtain ⟨f1,f2⟩:=Aci eQ hg gs' (q:=(aZ (x:Int) (row,q) (some g)).2) (λo ho=>hs o (by simp [ho])) e1.ok (e1.mono x t hx);have hb:aS (x:Int) (some g::gs') (row,q)=aS (x:Int) gs' ((aZ (x:Int) (row,q) (some g)).1,(aZ (x:Int) (row,q) (some g)).2):=rfl;rw [hb];refine ⟨e1.trans f1,λg' fz=>?_⟩;rcases Bd.1 fz with e|fz
  ·cases e;exact gi f1.mono e2
  ·exact f2 g' fz
def TY (gs:List PO) (q:List Int) (row:Row):Prop:=
 (∀y∈q,∃yn:Nat,y=yn/\row.getD yn none≠none)/\ ∀y:Nat,row.getD y none≠none->(y:Int)∈q\/ ∀g,some g∈gs->row.getD (ap g y) none≠none
theorem OX {n l:Nat} {gs:List PO} (eQ:l<n) (hg:PG n l gs) {x:Int} {q:List Int} {row:Row} (h:Xz n l gs row) (hq:TY gs (x::q) row):
  Ext n l gs row q (aS x gs (row,q))/\TY gs (aS x gs (row,q)).2 (aS x gs (row,q)).1/\ ∃(xn:Nat) (t:List Int),x=xn/\row.getD xn none=some t:=by
 obtain ⟨xn,rfl,hx⟩:=hq.1 x (by simp)
 cases e:row.getD xn none with
 |none=>exact absurd e hx
 |some t=>
  obtain ⟨e1,e2⟩:=Aci eQ hg gs (q:=q) (λo ho=>ho) h e;refine ⟨e1,⟨λy hy=>?_,λy hy=>?_⟩,xn,t,rfl,e⟩
  ·rcases e1.new y hy with h1|h1
   ·obtain ⟨yn,h2,h3⟩:=hq.1 y (by simp [h1]);exact ⟨yn,h2,gi e1.mono h3⟩
   ·exact h1
  ·rcases e1.src y hy with h1|h1
   ·rcases hq.2 y h1 with h2|h2
    ·rcases Bd.1 h2 with h2|h2
     ·have:y=xn:=by omega
      subst this;exact .inr λg fz=>e2 g fz
     ·exact .inl (e1.wu _ h2)
    ·exact .inr λg fz=>gi e1.mono (h2 g fz)
   ·exact .inl h1
theorem Aco {n l:Nat} {gs:List PO} (eQ:l<n) (hg:PG n l gs): ∀(f:Nat) (q:List Int) (row:Row),q.length+Su row<=f->Xz n l gs row->TY gs q row->
  Xz n l gs (aH gs f q row)/\(∀y t,row.getD y none=some t->(aH gs f q row).getD y none=some t)/\ ∀y t g,(aH gs f q row).getD y none=some t->some g∈gs->(aH gs f q row).getD (ap g y) none≠none
 |0,q,row,hf,h,hq=>by
  have:q= []:=Cr (by omega);subst this
  exact ⟨h,λ_ _ h=>h,λy t g e fz=>by
   rcases hq.2 y (by rw [show row.getD y none=some t from e];simp) with h1|h1
   ·cases h1
   ·exact h1 g fz⟩
 |f+1,[],row,hf,h,hq=>⟨h,λ_ _ h=>h,λy t g e fz=>by
   rcases hq.2 y (by rw [show row.getD y none=some t from e];simp) with h1|h1
   ·cases h1
   ·exact h1 g fz⟩
 |f+1,x::q,row,hf,h,hq=>by
  obtain ⟨e1,e2,_⟩:=OX eQ hg h hq;obtain ⟨r1,r2,r3⟩:=Aco eQ hg f _ _ (by have:=e1.phi;simp only [Aw] at hf;omega) e1.ok e2;exact ⟨r1,λy t e=>r2 y t (e1.mono y t e),r3⟩
theorem Vc {row:Row} {y:Int} :y∈Nq row↔ ∃yn:Nat,y=yn/\row.getD yn none≠none:=by
 unfold Nq;rw [Ck,Nd]
 constructor
 ·rintro ⟨h1,h2⟩;exact ⟨y.toNat,by omega,Option.ne_none_iff_isSome.2 h2⟩
 ·rintro ⟨yn,rfl,h⟩;obtain ⟨t,ht⟩:=Nw.1 h;exact ⟨by have:=sB ht;omega,by simpa using Option.ne_none_iff_isSome.1 h⟩
theorem AW (row:Row):(Nq row).length<=row.length:=by
 unfold Nq;refine Gz (List.length_filter_le _ _) (by simp [upto])
theorem HX (row:Row):Su row<=row.length:=List.countP_le_length
theorem IE {n l:Nat} {gs:List PO} (eQ:l<n) (h2:n<=20) (hg:PG n l gs) {row:Row} (h:Xz n l gs row):
  Xz n l gs (a6 gs row)/\(∀y t,row.getD y none=some t->(a6 gs row).getD y none=some t)/\ ∀y t g,(a6 gs row).getD y none=some t->some g∈gs->(a6 gs row).getD (ap g y) none≠none:=
 Aco eQ hg 100 _ _ (by have:=AW row;have:=HX row;have:=h.rl;omega) h ⟨λy hy=>Vc.1 hy,λy hy=> .inl (Vc.2 ⟨y,rfl,hy⟩)⟩
theorem ER {n l:Nat} {gs:List PO} (eQ:l<n) (hg:PG n l gs): ∀(f:Nat) (q:List Int) (row:Row),q.length+Su row<=f->Xz n l gs row->TY gs q row->aH gs f q row=aH gs (q.length+Su row) q row
 |0,q,row,hf,_,_=>by
  have:q.length+Su row=0:=by omega
  rw [this]
 |f+1,[],row,hf,_,_=>by
  cases h:([]:List Int).length+Su row with
  |zero=>rfl
  |succ m=>rfl
 |f+1,x::q,row,hf,h,hq=>by
  obtain ⟨e1,e2,_⟩:=OX eQ hg h hq;have Afs:=e1.phi
  have:(x::q).length+Su row=(q.length+Su row)+1:=by simp only [Aw];omega
  rw [this];simp only [aH];rw [ER eQ hg f _ _ (by simp only [Aw] at hf;omega) e1.ok e2,Afs]
def EY (row:Row):Nat:=row.countP (·.isSome)
theorem xO: ∀(a b:Row),a.length=b.length->(∀y t,a.getD y none=some t->b.getD y none=some t)->EY a<=EY b/\(EY a=EY b->a=b)
 | [],[],_,_=>⟨Ap _,λ_=>rfl⟩
 | [],_::_,h,_=>by simp at h
 |_::_,[],h,_=>by simp at h
 |x::a,y::b,h,hm=>by
  obtain ⟨h1,h2⟩:=xO a b (by simpa using h) λi t e=>by simpa using hm (i+1) t (by simpa using e)
  unfold EY at h1 h2⊢
  cases x with
  |none=>
   cases y with
   |none=>simp only [List.countP_cons];exact ⟨by simpa using h1,λe=>by rw [h2 (by simpa using e)]⟩
   |some u=>
    simp only [List.countP_cons,Option.isSome_none,Option.isSome_some];simp only [Oz,Dt,Uk];exact ⟨by omega,λe=>by omega⟩
  |some t=>
   have:=hm 0 t (by simp);simp only [Yg] at this;subst this;simp only [List.countP_cons];exact ⟨by simpa using h1,λe=>by rw [h2 (by simpa using e)]⟩
def mY (T:Fw):Nat->Nat->Nat
 |0,_=>0
 |k+1,l=>EY (T.getD l [])+mY T k (l+1)
def GBf:Nat->Nat->Fw×Fw->Prop
 |0,_,_=>True
 |k+1,l,s=>GBf k (l+1) s/\(s.1.getD l []).length<=mY s.2 (k+1) l
structure bN (l0:Nat) (s s':Fw×Fw):Prop where
 Aqy:s'.1.length=s.1.length
 uq:s'.2.length=s.2.length
 low: ∀i,i<l0->s'.1.getD i []=s.1.getD i []/\s'.2.getD i []=s.2.getD i []
 RU: ∀i o,o∈s.1.getD i []->o∈s'.1.getD i []
 Adj: ∀i y t,(s.2.getD i []).getD y none=some t->(s'.2.getD i []).getD y none=some t
 Am7: ∀i,(s'.2.getD i []).length=(s.2.getD i []).length
theorem bN.refl (l0:Nat) (s:Fw×Fw):bN l0 s s:=⟨rfl,rfl,λ_ _=>⟨rfl,rfl⟩,λ_ _ h=>h,λ_ _ _ h=>h,λ_=>rfl⟩
theorem bN.trans {l0 l1:Nat} {a b c:Fw×Fw} (h:bN l0 a b) (k:bN l1 b c) (hl:l0<=l1):bN l0 a c:=
 ⟨k.Aqy.trans h.Aqy,k.uq.trans h.uq,λi hi=>⟨(k.low i (by omega)).1.trans (h.low i hi).1,(k.low i (by omega)).2.trans (h.low i hi).2⟩,λi o ho=>k.RU i o (h.RU i o ho),λi y t e=>k.Adj i y t (h.Adj i y t e),λi=>(k.Am7 i).trans (h.Am7 i)⟩
theorem bN.Jg {l0 l1:Nat} {a b:Fw×Fw} (h:bN l1 a b) (hl:l0<=l1):bN l0 a b:=(bN.refl l0 a).trans h hl
theorem jo {T T':Fw} : ∀(k l:Nat) (p:List Int),(∀i,l<=i->i<l+k->T'.getD i []=T.getD i [])->Of T' k l p=Of T k l p
 |0,_,_,_=>rfl
 |k+1,l,p,h=>by
  simp only [Of];rw [h l (Ap _) (by omega)];split
  ·rfl
  ·exact jo k (l+1) _ λi h1 h2=>h i (by omega) (by omega)
theorem mw {n:Nat} {s s':Fw×Fw} : ∀(k l:Nat),(∀i,l<=i->s'.1.getD i []=s.1.getD i []/\s'.2.getD i []=s.2.getD i [])->l4 n k l s->l4 n k l s'
 |0,l,h,hc=>by simp only [l4] at hc⊢;rw [(h l (Ap _)).1];exact hc
 |k+1,l,h,hc=>by
  simp only [l4] at hc⊢;obtain ⟨c1,c2,c3⟩:=hc;refine ⟨mw k (l+1) (λi hi=>h i (by omega)) c1,?_,?_⟩
  ·rw [(h l (Ap _)).1,(h l (Ap _)).2]
   have e:(λq=>Of s'.2 k (l+1) q=true)= λq=>Of s.2 k (l+1) q=true:=funext λq=>by rw [jo k (l+1) q λi h1 h2=>(h i (by omega)).2]
   rw [e];exact c2
  ·rw [(h (l+1) (by omega)).1,(h l (Ap _)).1];exact c3
theorem yC {T T':Fw} : ∀(k l:Nat),(∀i,l<=i->T'.getD i []=T.getD i [])->mY T' k l=mY T k l
 |0,_,_=>rfl
 |k+1,l,h=>by simp only [mY];rw [h l (Ap _),yC k (l+1) λi hi=>h i (by omega)]
theorem tQ {s s':Fw×Fw} : ∀(k l:Nat),(∀i,l<=i->s'.1.getD i []=s.1.getD i []/\s'.2.getD i []=s.2.getD i [])->GBf k l s->GBf k l s'
 |0,_,_,_=>trivial
 |k+1,l,h,hg=>⟨tQ k (l+1) (λi hi=>h i (by omega)) hg.1,by
  rw [(h l (Ap _)).1,yC (k+1) l λi hi=>(h i hi).2];exact hg.2⟩
theorem IT {T T':Fw} (hl: ∀i,(T'.getD i []).length=(T.getD i []).length) (hm: ∀i y t,(T.getD i []).getD y none=some t->(T'.getD i []).getD y none=some t):
  ∀(k l:Nat),mY T k l<=mY T' k l/\(mY T k l=mY T' k l-> ∀i,l<=i->i<l+k->T'.getD i []=T.getD i [])
 |0,l=>⟨Ap _,λ_ i h1 h2=>by omega⟩
 |k+1,l=>by
  obtain ⟨h1,h2⟩:=IT hl hm k (l+1);obtain ⟨h3,h4⟩:=xO (T.getD l []) (T'.getD l []) (hl l).symm (hm l);simp only [mY];refine ⟨by omega,λe i g1 g2=>?_⟩
  by_cases hi:i=l
  ·subst hi;exact (h4 (by omega)).symm
  ·exact h2 (by omega) i (by omega) (by omega)
def V (n k l:Nat) (s:Fw×Fw):Prop:=s.1.length=n/\s.2.length=n/\l4 n k l s/\GBf k l s
structure Ao4 (n k l:Nat) (s:Fw×Fw) (p:List Int) (s':Fw×Fw):Prop where
 v:V n k l s'
 grow:bN l s s'
 Aqv:Gn n (s'.1.getD l []) p
 gens: ∀o∈s'.1.getD l [],o∈s.1.getD l []\/o=some p
theorem Lvl.row {n l:Nat} {gs:List PO} {row:Row} {H:List Int->Prop} (h:Lvl n l gs row H):Xz n l gs row:=⟨h.rl,h.r0,h.rt⟩
theorem jU {row:Row} {y:Nat} {t g t':List Int} (h1:row.getD y none=some t) (h2:row.getD (ap g y) none=some t'):Uu row (y:Int) (some g)=Am (Am t g) (Cc t'):=by
 unfold Uu;rw [Ab,h1,Dm,Dm,show (Ef g (y:Int)).toNat=ap g y from rfl,h2,Dm]
theorem pU {n l:Nat} {gs:List PO} {row:Row} (hg:PG n l gs) (_h:Xz n l gs row) (hc: ∀y t g,row.getD y none=some t->some g∈gs->row.getD (ap g y) none≠none) {q:List Int} :
  q∈ik row gs↔ ∃(y:Nat) (t g t':List Int),row.getD y none=some t/\some g∈gs/\row.getD (ap g y) none=some t'/\q=Am (Am t g) (Cc t'):=by
 unfold ik;rw [Hg]
 constructor
 ·rintro ⟨y,hy,hq⟩;obtain ⟨o,ho,rfl⟩:=Bh.1 hq;obtain ⟨yn,rfl,hyn⟩:=Vc.1 hy;obtain ⟨t,ht⟩:=Nw.1 hyn;obtain ⟨g,rfl,Yc,_⟩:=hg o ho;obtain ⟨t',r6⟩:=Nw.1 (hc yn t g ht ho);exact ⟨yn,t,g,t',ht,ho,r6,jU ht r6⟩
 ·rintro ⟨y,t,g,t',h1,h2,h3,rfl⟩;obtain ⟨g',e,Yc,_⟩:=hg _ h2;cases e;exact ⟨(y:Int),Vc.2 ⟨y,rfl,by rw [h1];simp⟩,Bh.2 ⟨some g,h2,jU h1 h3⟩⟩
theorem zh {n:Nat} (h1:1<=n) (h2:n<=20): ∀(k l:Nat) (p:List Int) (s:Fw×Fw),l+k=n->V n k l s->Pm n p->Fx l p->Ao4 n k l s p (Hy k l p s)
 |0,l,p,s,hk,hv,hp,hf=>by
  have hl:l=n:=by omega
  subst hl;exact ⟨hv,bN.refl _ _,by rw [hf.all hp];exact .id,λo ho=> .inl ho⟩
 |k+1,l,p,s,hk,hv,hp,hf=>by
  have eQ:l<n:=by omega
  obtain ⟨v1,v2,hc,YQ⟩:=hv;have mF:=hc;obtain ⟨c1,c2,c3⟩:=hc;unfold Hy
  by_cases hh:Of s.2 (k+1) l p=true
  ·rw [Ac hh];exact ⟨⟨v1,v2,mF,YQ⟩,bN.refl _ _,(o5 h1 h2 (k+1) l s hk mF p hp hf).1 hh,λo ho=> .inl ho⟩
  rw [Ai hh];generalize SA:s.1.getD l []++ [some p]=gs
  have dT:some p∈gs:=by rw [<-SA];simp
  have Oy: ∀o∈s.1.getD l [],o∈gs:= λo ho=>by rw [<-SA];exact Bo _ ho
  have hg:PG n l gs:= λo ho=>by
   rw [<-SA] at ho;rcases Be.1 ho with ho|ho
   ·exact c2.pg o ho
   ·rw [Af] at ho;exact ⟨p,ho,hp,hf⟩
  have Aq1:Xz n l gs (s.2.getD l []):=⟨c2.rl,c2.r0,λy t e=>⟨(c2.rt y t e).1,(c2.rt y t e).2.1,(c2.rt y t e).2.2.1,(c2.rt y t e).2.2.2.mono λg hg=>Oy _ hg⟩⟩
  obtain ⟨r1,r2,r3⟩:=IE eQ h2 hg Aq1;generalize hR:a6 gs (s.2.getD l [])=R at r1 r2 r3
  have hS:RE n λg=>some g∈gs:=⟨⟨h1,h2⟩,λg fz=>by obtain ⟨g',e,h,_⟩:=hg _ fz;cases e;exact h⟩
  have s11: ∀i,((s.1.set l gs).getD i []=if i=l then gs else s.1.getD i [])/\(s.2.set l R).getD i []=if i=l then R else s.2.getD i []:= λi=>by
   rw [Vy,Vy]
   by_cases e:l=i
   ·subst e;rw [Ac ⟨rfl,by omega⟩,Ac rfl,Ac ⟨rfl,by omega⟩,Ac rfl];exact ⟨rfl,rfl⟩
   ·rw [Ai (λhh=>e hh.1),Ai (Ha e),Ai (λhh=>e hh.1),Ai (Ha e)];exact ⟨rfl,rfl⟩
  have hup: ∀i,l+1<=i->(s.1.set l gs).getD i []=s.1.getD i []/\(s.2.set l R).getD i []=s.2.getD i []:= λi hi=>by
   rw [(s11 i).1,(s11 i).2,Ai (by omega),Ai (by omega)];exact ⟨rfl,rfl⟩
  have ld:V n k (l+1) (s.1.set l gs,s.2.set l R):=⟨by simpa using v1,by simpa using v2,mw k (l+1) hup c1,tQ k (l+1) hup YQ.1⟩
  have Aki:bN l s (s.1.set l gs,s.2.set l R):=by
   refine ⟨by simp,by simp,λi hi=>?_,λi o ho=>?_,λi y t e=>?_,λi=>?_⟩
   ·rw [(s11 i).1,(s11 i).2,Ai (by omega),Ai (by omega)];exact ⟨rfl,rfl⟩
   ·rw [(s11 i).1];split
    ·rename_i hi;subst hi;exact Oy o ho
    ·exact ho
   ·rw [(s11 i).2];split
    ·rename_i hi;subst hi;exact r2 y t e
    ·exact e
   ·rw [(s11 i).2];split
    ·rename_i hi;subst hi;rw [r1.rl,c2.rl]
    ·rfl
  have hq: ∀q∈ik R gs,Pm n q/\Fx (l+1) q/\Gn n gs q:= λq hq=>by
   obtain ⟨y,t,g,t',e1,e2,e3,rfl⟩:=(pU hg r1 r3).1 hq;obtain ⟨t1,t2,t3,t4⟩:=r1.rt _ _ e1;obtain ⟨u1,u2,u3,u4⟩:=r1.rt _ _ e3;obtain ⟨g',e,Yc,hgf⟩:=hg _ e2;cases e;exact ⟨(t1.comp Yc).comp u1.inv,Fx.div (t1.comp Yc) u1 (Fx.comp t1 Yc t2 hgf (by omega)) u2 eQ (by rw [u3,Kf t1 Yc eQ,t3]),eo.comp hS (.mul t4 e2) (eo.zV hS u4)⟩
  have fold: ∀(qs:List (List Int)) (s1:Fw×Fw),(∀q∈qs,Pm n q/\Fx (l+1) q)->V n k (l+1) s1->
    V n k (l+1) (qs.foldl (λs q=>Hy k (l+1) q s) s1)/\bN (l+1) s1 (qs.foldl (λs q=>Hy k (l+1) q s) s1)/\
     (∀q∈qs,Gn n ((qs.foldl (λs q=>Hy k (l+1) q s) s1).1.getD (l+1) []) q)/\ ∀o∈(qs.foldl (λs q=>Hy k (l+1) q s) s1).1.getD (l+1) [],o∈s1.1.getD (l+1) []\/ ∃q∈qs,o=some q:=by
   intro qs
   induction qs with
   |nil=>exact λs1 _ hv=>⟨hv,bN.refl _ _,(λq hq=>by cases hq),λo ho=>Or.inl ho⟩
   |cons q qs ih=>
    intro s1 hqs hv;have ha:=zh h1 h2 k (l+1) q s1 (by omega) hv (hqs q (by simp)).1 (hqs q (by simp)).2;obtain ⟨g1,g2,g3,g4⟩:=ih (Hy k (l+1) q s1) (λq' iE=>hqs q' (by simp [iE])) ha.v;simp only [Ro];refine ⟨g1,ha.grow.trans g2 (Ap _),λq' iE=>?_,λo ho=>?_⟩
    ·rcases Bd.1 iE with rfl|iE
     ·exact ha.Aqv.mono λg hg=>g2.RU _ _ hg
     ·exact g3 q' iE
    ·rcases g4 o ho with h|⟨q',iE,h⟩
     ·rcases ha.gens o h with h|h
      ·exact .inl h
      ·exact .inr ⟨q,by simp,h⟩
     ·exact .inr ⟨q',by simp [iE],h⟩
  obtain ⟨f1,f2,f3,f4⟩:=fold (ik R gs) (s.1.set l gs,s.2.set l R) (λq h=>⟨(hq q h).1,(hq q h).2.1⟩) ld;generalize (ik R gs).foldl (λs q=>Hy k (l+1) q s) (s.1.set l gs,s.2.set l R)=s' at f1 f2 f3 f4;obtain ⟨w1,w2,w3,w4⟩:=f1
  have el1:s'.1.getD l []=gs:=by rw [(f2.low l (by omega)).1,(s11 l).1,Ac rfl]
  have el2:s'.2.getD l []=R:=by rw [(f2.low l (by omega)).2,(s11 l).2,Ac rfl]
  have Aaf:=Aki.trans f2 (by omega)
  have Avw:Lvl n l gs R (λq=>Of s'.2 k (l+1) q=true):=⟨hg,r1.rl,r1.r0,r1.rt,r3,λy t g t' e1 e2 e3=>by
   have hm:=(pU hg r1 r3).2 ⟨y,t,g,t',e1,e2,e3,rfl⟩
   exact (o5 h1 h2 k (l+1) s' (by omega) w3 _ (hq _ hm).1 (hq _ hm).2.1).2 (f3 _ hm)⟩
  have Ai7:l4 n (k+1) l s':=⟨w3,by rw [el1,el2];exact Avw,λg fz=>by
   rw [el1];rcases f4 _ fz with h|⟨q,iE,h⟩
   ·rw [(hup (l+1) (Ap _)).1] at h;exact (c3 g h).mono λg hg=>Oy _ hg
   ·cases h;exact (hq _ iE).2.2⟩
  have Jq:Gn n (s'.1.getD l []) p:=by rw [el1];exact eo.one hS dT
  refine ⟨⟨w1,w2,Ai7,w4,?_⟩,Aaf,Jq,λo ho=>?_⟩
  ·have hold:=YQ.2;obtain ⟨p1,p2⟩:=IT Aaf.Am7 Aaf.Adj (k+1) l
   have Ii:mY s.2 (k+1) l≠mY s'.2 (k+1) l:= λe=>by
    have:=jo (k+1) l p (p2 e);rw [(o5 h1 h2 (k+1) l s' hk Ai7 p hp hf).2 Jq] at this;exact hh this.symm
   rw [el1,<-SA,Av,Bp];omega
  ·rw [el1,<-SA] at ho;rcases Be.1 ho with ho|ho
   ·exact .inl ho
   ·rw [Af] at ho;exact .inr ho
theorem Acd {n l:Nat} {gs:List PO} {R:Row} (eQ:l<n) (hg:PG n l gs) (r1:Xz n l gs R) (r3: ∀y t g,R.getD y none=some t->some g∈gs->R.getD (ap g y) none≠none): ∀q∈ik R gs,Pm n q/\Fx (l+1) q:=by
 intro q hq;obtain ⟨y,t,g,t',e1,e2,e3,rfl⟩:=(pU hg r1 r3).1 hq;obtain ⟨t1,t2,t3,t4⟩:=r1.rt _ _ e1;obtain ⟨u1,u2,u3,u4⟩:=r1.rt _ _ e3;obtain ⟨g',e,Yc,hgf⟩:=hg _ e2;cases e;exact ⟨(t1.comp Yc).comp u1.inv,Fx.div (t1.comp Yc) u1 (Fx.comp t1 Yc t2 hgf (by omega)) u2 eQ (by rw [u3,Kf t1 Yc eQ,t3])⟩
theorem V.lower {n k l:Nat} {s:Fw×Fw} (h:V n (k+1) l s) (gs:List PO) (R:Row):V n k (l+1) (s.1.set l gs,s.2.set l R):=by
 obtain ⟨v1,v2,hc,YQ⟩:=h
 have hup: ∀i,l+1<=i->(s.1.set l gs).getD i []=s.1.getD i []/\(s.2.set l R).getD i []=s.2.getD i []:= λi hi=>by
  rw [Vy,Vy,Ai (by omega),Ai (by omega)];exact ⟨rfl,rfl⟩
 exact ⟨by simpa using v1,by simpa using v2,mw k (l+1) hup hc.1,tQ k (l+1) hup YQ.1⟩
theorem RQ {n k l:Nat} (h1:1<=n) (h2:n<=20) (hk:l+k=n): ∀(qs:List (List Int)) (s1:Fw×Fw),(∀q∈qs,Pm n q/\Fx l q)->V n k l s1->
  V n k l (qs.foldl (λs q=>Hy k l q s) s1)/\bN l s1 (qs.foldl (λs q=>Hy k l q s) s1)
 | [],s1,_,hv=>⟨hv,bN.refl _ _⟩
 |q::qs,s1,hqs,hv=>by
  have ha:=zh h1 h2 k l q s1 hk hv (hqs q (by simp)).1 (hqs q (by simp)).2;obtain ⟨g1,g2⟩:=RQ h1 h2 hk qs (Hy k l q s1) (λq' iE=>hqs q' (by simp [iE])) ha.v;exact ⟨g1,ha.grow.trans g2 (Ap _)⟩
theorem Ach {n:Nat} {s:Fw×Fw} : ∀(k l:Nat),l4 n k l s->mY s.2 k l<=n*k
 |0,_,_=>by simp [mY]
 |k+1,l,hc=>by
  have h1:=Ach k (l+1) hc.1
  have h2:EY (s.2.getD l [])<=n:=by
   have:=hc.2.1.rl;have h3:EY (s.2.getD l [])<=(s.2.getD l []).length:=List.countP_le_length;omega
  simp only [mY];rw [Nat.mul_succ];omega
theorem Af9 {n k l:Nat} {s:Fw×Fw} (h2:n<=20) (hk:l+(k+1)=n) (h:V n (k+1) l s):(s.1.getD l []).length<=400:=by
 have h3:=h.2.2.2.2;have h4:=Ach (k+1) l h.2.2.1;have h5:n*(k+1)<=20*20:=Nat.mul_le_mul h2 (by omega);omega
theorem V.lvl {n k l:Nat} {s:Fw×Fw} (h:V n (k+1) l s):Lvl n l (s.1.getD l []) (s.2.getD l []) (λq=>Of s.2 k (l+1) q=true):=h.2.2.1.2.1
theorem V.pg {n k l:Nat} {s:Fw×Fw} (h:V n (k+1) l s) {p:List Int} (hp:Pm n p) (hf:Fx l p):PG n l (s.1.getD l []++ [some p]):= λo ho=>by
 rcases Be.1 ho with ho|ho
 ·exact h.lvl.pg o ho
 ·rw [Af] at ho;exact ⟨p,ho,hp,hf⟩
theorem V.Axc {n k l:Nat} {s:Fw×Fw} (h:V n (k+1) l s) (p:List Int):Xz n l (s.1.getD l []++ [some p]) (s.2.getD l []):=
 ⟨h.lvl.rl,h.lvl.r0,λy t e=>⟨(h.lvl.rt y t e).1,(h.lvl.rt y t e).2.1,(h.lvl.rt y t e).2.2.1,(h.lvl.rt y t e).2.2.2.mono λ_ hg=>Bo _ hg⟩⟩
theorem xa {α:Type} (xs:List (List α)) (i:Nat) (h:i<xs.length):xs.set i (xs.getD i [])=xs:=by
 refine List.ext_getElem (by simp) λj h1 h2=>?_;rw [List.getElem_set];split
 ·rename_i e;subst e;rw [Al,Ad h];rfl
 ·rfl
theorem lD {α:Type} (xs:List (List α)) (i:Nat) (h:i<xs.length) (r:List α):(xs.set i r).getD i []=r:=by
 rw [Vy,Ac ⟨rfl,h⟩]
noncomputable abbrev Rg:MSpec:=cW [none] [(false, .Ia tLO)] false [none] [.row tI 2] (λx=>List.length x.1<=20) (λx=>((Nq x.1,()),()))
noncomputable abbrev Zd:Spec:=Ho (.pair tL (.pair tL .unit)) tO false true (λx=>(0<x.1.length/\x.1.length<=20)/\Yd x.2.1.length x.1) (λx=>some (Am x.1 x.2.1))
noncomputable abbrev gC:Spec:=Ho (.pair tL (.pair tL .unit)) tL false false (λx=>x.1.length<=20/\Yd x.2.1.length x.1) (λx=>Am x.1 x.2.1)
noncomputable abbrev Wg:Spec:=Ho (.pair tI .unit) tL false true (λx=>0<=x.1/\x.1<=20) (λx=>upto x.1.toNat)
noncomputable abbrev dz:Spec:=Ho (.pair tI .unit) tO false true (λx=>1<=x.1/\x.1<=20) (λx=>some (upto x.1.toNat))
abbrev teG:TypeId:=27
structure sQ (N L:Nat) (n:Int) (G T:Fw) (l:Int) (p:List Int):Prop where
 n1:1<=N
 n2:N<=20
 en:n=N
 el:l=L
 le:L<=N
 v:V N (N-L) L (G,T)
 pm:Pm N p
 fx:Fx L p
noncomputable abbrev yL:Spec:=Ho (.pair (.ptr CW) (.pair tI (.pair tL .unit))) .bool false true (λx=> ∃N L,sQ N L x.1.1 x.1.2.1 x.1.2.2.1 x.2.1 x.2.2.1) (λx=>Of x.1.2.2.1 (x.1.1-x.2.1).toNat x.2.1.toNat x.2.2.1)
noncomputable abbrev Aj4:MSpec:= {ptr:=some (164,3),Mq:= [none,none],ins:= [(false, .Ia tI),(false, .Ca tO teG true),(false, .Ca tO teG true),(false, .Ia tI),(false, .Ia tO)],Jy:=false,Li:= [],outs:= [.Ia tI, .Ca tO teG false, .Ca tO teG false],fn:= λ_=>none,keeps:= [(1,1),(2,2)],Gd:= λx=>x.2.2.2.1.toNat}
noncomputable abbrev Xj (m:Nat):MSpec:=LI Aj4 (λx=>(∃N L q,x.2.2.2.2.1=some q/\sQ N L x.1 x.2.1 x.2.2.1 x.2.2.2.1 q)/\(x.1-x.2.2.2.1).toNat<m)
 (λx=>((x.1,(Hy (x.1-x.2.2.2.1).toNat x.2.2.2.1.toNat (x.2.2.2.2.1.getD []) (x.2.1,x.2.2.1)).1,(Hy (x.1-x.2.2.2.1).toNat x.2.2.2.1.toNat (x.2.2.2.2.1.getD []) (x.2.1,x.2.2.1)).2,()),()))
theorem KL (n:Int) (P:List Int->Prop):(((0:Int)<=n/\n<(↑Db:Int)+(1:Int))/\n=n/\0=0/\(List.replicate n.toNat (Int.ofNat (nat_lit 0))).length=(List.replicate n.toNat (Int.ofNat (nat_lit 0))).length/\Dh (λ(v2:Int×List Int×PUnit) (k3:Int×List Int×PUnit->Prop)=>Br (decide (v2.1<(↑(List.replicate n.toNat (Int.ofNat (nat_lit 0))).length:Int))) (((0:Int)<=v2.1/\v2.1<(↑v2.2.1.length:Int))/\0+v2.1.toNat<v2.2.1.length/\0=0/\v2.2.1.length=(v2.2.1.set (0+v2.1.toNat) v2.1).length/\k3 (IntKind.i64.wrap (v2.1+(1:Int)),v2.2.1.set (0+v2.1.toNat) v2.1,())) (P (List.take v2.2.1.length (List.drop 0 v2.2.1)))) ((0:Int),List.replicate n.toNat (Int.ofNat (nat_lit 0)),PUnit.unit))=fnW Hf (look []) Wg Try.f25 (n,()) P:=by kernel_rfl
theorem XZ (row:List (Option (List Int))) (P:(List Int×Unit)×Unit->Prop):(0=0/\0=([]:List Int).length/\Dh (λ(v2:Int×List Int×PUnit) (k3:Int×List Int×PUnit->Prop)=>Br (decide (v2.1<(↑row.length:Int))) (∃(y4:Option (List Int)),idx row v2.1=some y4/\Br (!y4.isNone) (0=0/\v2.2.1.length=v2.2.1.length/\v2.2.1.length+(List.take 1 (List.drop 0 [v2.1])).length<=Db/\0=0/\(v2.2.1++List.take 1 (List.drop 0 [v2.1])).length=(v2.2.1++List.take 1 (List.drop 0 [v2.1])).length/\k3 (IntKind.i64.wrap (v2.1+(1:Int)),v2.2.1++List.take 1 (List.drop 0 [v2.1]),())) (0=0/\v2.2.1.length=v2.2.1.length/\k3 (IntKind.i64.wrap (v2.1+(1:Int)),v2.2.1,()))) (P ((List.take v2.2.1.length (List.drop 0 v2.2.1),()),()))) ((0:Int),[],PUnit.unit))=fnMW bu (look []) Rg Try.f138 (row,()) P:=by kernel_rfl
theorem Art (c:Int×List (List (Option (List Int)))×List (List (Option (List Int)))×Unit) (l:Int) (p:List Int) (P:Bool->Prop):(Dh (λ(v4:List Int×Int×PUnit) (k5:List Int×Int×PUnit->Prop)=>Br (decide (v4.2.1<c.1)) (∃(y6:List (Option (List Int))),idx c.2.2.1 v4.2.1=some y6/\ ∃(y7:Int),idx v4.1 v4.2.1=some y7/\ ∃(y8:Option (List Int)),idx y6 y7=some y8/\Br y8.isNone (P false) (∃(y9:List Int),Jb.fn (y8.getD [],())=some y9/\ ∃(No:List Int),gC.fn (v4.1,y9,())=some No/\k5 (No,IntKind.i64.wrap (v4.2.1+(1:Int)),()))) (P true)) (p,l,PUnit.unit))=fnW bu (look [(107,Jb),(86,gC)]) yL Try.f139 (c,l,p,()) P:=by kernel_rfl
theorem Sound.loose {P:Program} {f:FuncId} {arg res:Ty} {pre:arg.den->Prop} {val:arg.den->res.den} (h:Sound P f (Go.Proofs.Ytfgfigkbgecfnaa.Ho arg res false true pre val)):Sound P f (Go.Proofs.Ytfgfigkbgecfnaa.Ho arg res false false pre val):=
 ⟨h.enter,λw S vs x y h1 h2 h3=>Calls.mono (h.calls w S vs x y h1 h2 h3) λe' w' hr=>by
  obtain ⟨v,g1,g2,g3⟩:=hr
  exact ⟨v,g1,g2,Dd.Jg (S:= λb=>S b\/(true=true/\b<w.heap.size)) g3 λk _ hk=>hk.elim .inl λhh=>absurd (show false=true from hh.1) (by simp)⟩⟩
theorem vq:Sound Try.prog 86 gC:=Sound.loose Xl
theorem vr:Sound Try.prog 86 Zd:=Sound.toO Xl λx h=>⟨⟨h.1.2,h.2⟩,λe=>by
 have:=Vu x.1 x.2.1;rw [e] at this;have:=h.1.1;simp only [Ex] at*
 omega⟩
theorem II (n:Int) (h:0<=n/\n<=20):fnW Hf (look []) Wg Try.f25 (n,()) (λ(z:List Int)=>z=upto n.toNat):=by
 refine Eq.mp (KL n _) ⟨⟨by omega,by show n<(4294967296:Int)+1;omega⟩,rfl,rfl,rfl,?_⟩;refine Bt n.toNat (λv=>v.1) (λj v=>v.2.1.length=n.toNat/\v.2.1.take j=upto j) rfl ⟨by simp,by simp [upto]⟩ ?_;rintro j ⟨i,ys,⟨⟩⟩ K hj hi ⟨h1,h2⟩ hK;dsimp only at hi h1 h2⊢;subst hi;rw [Ei];simp only [Ab,Bl];refine Br.dec (λhl=>⟨⟨by omega,by omega⟩,by omega,trivial,by rw [Bb],?_⟩) λhl=>?_
 ·rw [Bm (by omega)];refine hK (by omega) _ rfl ⟨by rw [Bb];exact h1,?_⟩;rw [Iu,List.take_set_of_le (by omega),h2,aQ (by omega),fv];rfl
 ·have:j=ys.length:=by omega
  subst this;rw [Az] at h2;rw [Cw,Az,h2,h1]
theorem iv:Sound Try.prog 25 Wg:=
 Sound.Ho Ez Ce mixed Try.func25 (by kernel_rfl) (by kernel_rfl) λx h=>II x.1 h
theorem Ah4 {n:Int} (h:1<=n/\n<=20):(0<=n/\n<=20)/\upto n.toNat≠ []:=⟨by omega,λe=>by
 have:=Dz List.length e;simp [upto] at this
 omega⟩
theorem sm:Sound Try.prog 25 dz:=Sound.toO iv λ_ h=>Ah4 h
theorem ID {row:Row} {j:Nat} :(upto (j+1)).filter (λy=>(row.getD y.toNat none).isSome)=(upto j).filter (λy=>(row.getD y.toNat none).isSome)++if (row.getD j none).isSome=true then [(j:Int)] else []:=by
 rw [fv,List.filter_append]
 congr 1
 simp only [List.filter_cons,List.filter_nil,Ab]
theorem WH (row:List (Option (List Int))) (h:List.length row<=20):fnMW bu (look []) Rg Try.f138 (row,()) (λ(z:(List Int×Unit)×Unit)=>z=((Nq row,()),())):=by
 refine Eq.mp (XZ row _) ⟨rfl,rfl,?_⟩;refine Bt row.length (λv=>v.1) (λj v=>v.2.1=(upto j).filter (λy=>(row.getD y.toNat none).isSome)) rfl rfl ?_;rintro j ⟨i,ys,⟨⟩⟩ K hj hi h1 hK;dsimp only at hi h1⊢;subst hi;refine Br.dec (λhl=>?_) λhl=>?_
 ·have hl:j<row.length:=by omega
  have hlen:ys.length<=j:=by rw [h1];refine Gz (List.length_filter_le _ _) (by simp [upto])
  have hg:row.getD j none=row[j]:=by rw [Al,Ad hl];rfl
  refine ⟨_,Bu hl,Br.of (λhb=>⟨rfl,rfl,?_,rfl,rfl,?_⟩) λhb=>⟨rfl,rfl,?_⟩⟩
  ·show ys.length+1<=4294967296;omega
  ·rw [Bm (by omega)];refine hK hl _ rfl ?_;show ys++ [(j:Int)]=_
   rw [ID,hg,h1,Ac (by cases e:row[j] with
    |none=>rw [e] at hb;simp at hb
    |some t=>rfl)]
  ·rw [Bm (by omega)];refine hK hl _ rfl ?_;show ys=_
   rw [ID,hg,h1,Ai (by cases e:row[j] with
    |none=>simp
    |some t=>rw [e] at hb;simp at hb),iQ]
 ·have:j=row.length:=by omega
  subst this;rw [Cw,Az,h1];rfl
theorem lU:Ds Try.prog 138 Rg:=
 Ds.cW qA Ce mixed Try.func138 (by kernel_rfl) (by kernel_rfl) λx h=>WH x.1 h
theorem nH {n:Nat} {s:Fw×Fw} : ∀(k l:Nat),l4 n k l s-> ∀i,l<=i->i<l+k->Lvl n i (s.1.getD i []) (s.2.getD i []) (λq=>Of s.2 (l+k-i-1) (i+1) q=true)
 |0,_,_,i,h1,h2=>by omega
 |k+1,l,hc,i,h1,h2=>by
  obtain ⟨c1,c2,_⟩:=hc
  by_cases e:i=l
  ·subst e;rw [show i+(k+1)-i-1=k by omega];exact c2
  ·have:=nH k (l+1) c1 i (by omega) (by omega)
   rwa [show l+1+k-i-1=l+(k+1)-i-1 by omega] at this
theorem FV {α:Type} {xs:List (List α)} {i:Nat} (h:i<xs.length):xs.getD i []=xs[i]:=by
 rw [Al,Ad h];rfl
theorem Aa6 {α:Type} {xs:List (Option α)} {i:Nat} (h:i<xs.length):xs.getD i none=xs[i]:=by
 rw [Al,Ad h];rfl
theorem Pm.row {n:Nat} {p:List Int} (h:Pm n p):Yd n p:=by
 have:=h.2.row
 rwa [h.1] at this
theorem Ar8 (c:Int×List (List (Option (List Int)))×List (List (Option (List Int)))×Unit) (l:Int) (p:List Int) (h: ∃N L,sQ N L c.1 c.2.1 c.2.2.1 l p):
  fnW bu (look [(107,Jb),(86,gC)]) yL Try.f139 (c,l,p,()) (λ(z:Bool)=>z=Of c.2.2.1 (c.1-l).toNat l.toNat p):=by
 obtain ⟨n,G,T,⟨⟩⟩:=c;obtain ⟨N,L,h⟩:=h;obtain ⟨n1,n2,en,el,hle,v,pm,fx⟩:=h;dsimp only at en el v⊢;subst en el;refine Eq.mp (Art ((N:Int),G,T,()) (L:Int) p _) ?_;obtain ⟨v1,v2,v3,v4⟩:=v;dsimp only at v1 v2;refine ⟨λv=> ∃i:Nat,L<=i/\i<=N/\v.2.1=i/\Pm N v.1/\Fx i v.1/\Of T (N-i) i v.1=Of T (N-L) L p,λv=>N-v.2.1.toNat,⟨L,Ap _,hle,rfl,pm,fx,rfl⟩,?_⟩;rintro ⟨p',i',⟨⟩⟩ ⟨i,h1,h2,h3,h4,h5,h6⟩;dsimp only at h3 h4 h5 h6⊢;subst h3;rw [show (((N:Int)-(L:Int)).toNat)=N-L by omega,show ((L:Int)).toNat=L by omega,<-h6];refine Br.dec (λhl=>?_) λhl=>?_
 ·have hl:i<N:=by omega
  have Qd:=nH (N-L) L v3 i h1 (by omega);obtain ⟨a1,a2⟩:=h4.Sb hl
  have hT:i<T.length:=by omega
  have hlen:T[i].length=N:=by have:=Qd.rl;dsimp only at this;rwa [FV hT] at this
  refine ⟨_,Bu hT,_,Bu (by rw [h4.1];exact hl),?_⟩
  have e1:p'[i]'(by rw [h4.1];exact hl)=(ap p' i:Int):=by rw [<-a1,Od]
  rw [e1];refine ⟨_,Bu (by omega),?_⟩
  have e2:N-i=(N-i-1)+1:=by omega
  have e3:(T.getD i []).getD (Ef p' (i:Int)).toNat none=T[i][ap p' i]'(by omega):=by
   rw [FV hT];exact Aa6 (by show ap p' i<_;omega)
  rw [e2];simp only [Of,e3];refine Br.of (λhb=>?_) λhb=>?_
  ·cases e:T[i][ap p' i]'(by omega) with
   |none=>rfl
   |some t=>rw [e] at hb;simp at hb
  ·cases e:T[i][ap p' i]'(by omega) with
   |none=>rw [e] at hb;simp at hb
   |some t=>
    have ht:(T.getD i []).getD (ap p' i) none=some t:=by rw [<-e];exact e3
    obtain ⟨t1,t2,t3,t4⟩:=Qd.rt _ _ ht;simp only [Dm];refine ⟨_,Ac ⟨by show t.length<=20;rw [t1.1];exact n2,t1.2.row⟩,_,Ac ⟨by show p'.length<=20;rw [h4.1];exact n2,by show Yd (Cc t).length p';rw [sH,t1.1];exact h4.row⟩,⟨i+1,by omega,by omega,Bm (by omega),h4.comp t1.inv,Fx.div h4 t1 h5 t2 hl t3,?_⟩,?_⟩
    ·rw [show N-(i+1)=N-i-1 by omega]
    ·show N-(IntKind.i64.wrap ((i:Int)+1)).toNat<N-((i:Int)).toNat;rw [Bm (by omega)];omega
 ·rw [show N-i=0 by omega];rfl
theorem XA:Sound Try.prog 139 yL:=
 Sound.Ho qA (Bf Xm (Bf vq Ce)) mixed Try.func139 (by kernel_rfl) (by kernel_rfl) λx h=>Ar8 x.1 x.2.1 x.2.2.1 h
abbrev CU:Type:=Nat×Nat×Int×List (List (Option (List Int)))×Nat×List (List (Option (List Int)))×Nat×List Int×Int×PUnit
abbrev Ad3:Type:=Nat×Int×List (List (Option (List Int)))×Nat×List (List (Option (List Int)))×Nat×List Int×Int×PUnit
abbrev Ad5:Type:=Nat×List (List (Option (List Int)))×Nat×List (List (Option (List Int)))×Nat×List Int×Int×PUnit
abbrev Mb (G:List (List (Option (List Int)))) (l:Int) (p:Option (List Int)) (T:List (List (Option (List Int)))) (y7:Bool) (n:Int):Prop:=0=0/\(G.getD (0+l.toNat) []).length=(G.getD (0+l.toNat) []).length/\(G.getD (0+l.toNat) []).length+(List.take 1 (List.drop 0 [p])).length<=Db/\((0:Int)<=l/\l<(↑G.length:Int))/\0=0/\(G.getD (0+l.toNat) []++List.take 1 (List.drop 0 [p])).length=(G.getD (0+l.toNat) []++List.take 1 (List.drop 0 [p])).length/\0+l.toNat=0+l.toNat/\ [(0,G.length),(0,G.length),(0,G.length),(0,T.length)]= [(0,G.length),(0,G.length),(0,G.length),(0,T.length)]/\(l,p,l,p,y7,l,l,0+l.toNat,p,List.take 1 (List.drop 0 [p]),0+l.toNat,G.set (0+l.toNat) (G.getD (0+l.toNat) []++List.take 1 (List.drop 0 [p])),min G.length (0+l.toNat),T,T.length,n,())=(l,p,l,p,y7,l,l,0+l.toNat,p,List.take 1 (List.drop 0 [p]),0+l.toNat,G.set (0+l.toNat) (G.getD (0+l.toNat) []++List.take 1 (List.drop 0 [p])),min G.length (0+l.toNat),T,T.length,n,PUnit.unit)
theorem Arp {m:Nat} (n:Int) (G T:List (List (Option (List Int)))) (l:Int) (p:Option (List Int)) (P:(Int×List (List (Option (List Int)))×List (List (Option (List Int)))×Unit)×Unit->Prop):(∃(y7:Bool),yL.fn ((n,List.take G.length (List.drop 0 G),List.take T.length (List.drop 0 T),()),l,p.getD [],())=some y7/\Br y7 ((0=0/\G.length=G.length)/\(0=0/\T.length=T.length)/\(Xj (m+1)).Gd (n,G,T,l,p,())<=G.length/\(Xj (m+1)).Gd (n,G,T,l,p,())<=T.length/\P ((n,G,T,()),())) (((0:Int)<=l/\l<(↑G.length:Int))/\0=0/\(G.getD (0+l.toNat) []).length=(G.getD (0+l.toNat) []).length/\(G.getD (0+l.toNat) []).length+(List.take 1 (List.drop 0 [p])).length<=Db/\((0:Int)<=l/\l<(↑G.length:Int))/\0=0/\(G.getD (0+l.toNat) []++List.take 1 (List.drop 0 [p])).length=(G.getD (0+l.toNat) []++List.take 1 (List.drop 0 [p])).length/\0+l.toNat=0+l.toNat/\(((0:Int)<=l/\l<(↑T.length:Int))/\ ∃(y8:(List Int×PUnit)×PUnit),Rg.fn (T.getD (0+l.toNat) [],())=some y8/\0=0/\(List.take y8.1.1.length (List.drop 0 y8.1.1)).length=(List.take y8.1.1.length (List.drop 0 y8.1.1)).length/\0=0/\G.length=(G.set (0+l.toNat) (G.getD (0+l.toNat) []++List.take 1 (List.drop 0 [p]))).length/\0=0/\T.length=T.length/\Dh (λ(v9:Ad5) (k10:Ad5->Prop)=>Br (decide ((↑v9.2.2.2.2.2.1.length:Int)>(0:Int))) (((0:Int)<=l/\l<(↑v9.2.1.length:Int))/\0=0/\(List.take v9.2.2.2.2.2.1.length (List.drop 0 v9.2.2.2.2.2.1)).length=(List.take v9.2.2.2.2.2.1.length (List.drop 0 v9.2.2.2.2.2.1)).length/\0=0/\v9.2.1.length=v9.2.1.length/\0=0/\v9.2.2.2.1.length=v9.2.2.2.1.length/\Dh (λ(v11:CU) (k12:CU->Prop)=>Br (decide (v11.2.2.1<(↑(v9.2.1.getD (0+l.toNat) []).length:Int))) (((0:Int)<=v11.2.2.1/\v11.2.2.1<(↑(v11.2.2.2.1.getD v11.2.1 []).length:Int))/\((0:Int)<=(0:Int)/\(0:Int)<(↑v11.2.2.2.2.2.2.2.1.length:Int))/\ ∃(Wq:Int),v11.2.2.2.2.2.2.2.1[0+Int.toNat (0:Int)]?=some Wq/\ ∃(Ry:Int),idx (((v11.2.2.2.1.getD v11.2.1 []).getD v11.2.2.1.toNat (none:Option (List Int))).getD []) Wq=some Ry/\((0:Int)<=Ry/\Ry<(↑(v11.2.2.2.2.2.1.getD v11.1 []).length:Int))/\Br ((v11.2.2.2.2.2.1.getD v11.1 []).getD Ry.toNat (none:Option (List Int))).isNone (((0:Int)<=(0:Int)/\(0:Int)<(↑v11.2.2.2.2.2.2.2.1.length:Int))/\ ∃(Rv:Int),v11.2.2.2.2.2.2.2.1[0+Int.toNat (0:Int)]?=some Rv/\((0:Int)<=Rv/\Rv<(↑(v11.2.2.2.2.2.1.getD v11.1 []).length:Int))/\ ∃(Pc:Option (List Int)),Zd.fn (((v11.2.2.2.2.2.1.getD v11.1 []).getD Rv.toNat (none:Option (List Int))).getD [],((v11.2.2.2.1.getD v11.2.1 []).getD v11.2.2.1.toNat (none:Option (List Int))).getD [],())=some Pc/\((0:Int)<=Ry/\Ry<(↑(v11.2.2.2.2.2.1.getD v11.1 []).length:Int))/\0=0/\v11.2.2.2.2.2.2.2.1.length=v11.2.2.2.2.2.2.2.1.length/\v11.2.2.2.2.2.2.2.1.length+(List.take 1 (List.drop 0 [Ry])).length<=Db/\0=0/\(List.take (v11.2.2.2.2.2.2.2.1++List.take 1 (List.drop 0 [Ry])).length (List.drop 0 (v11.2.2.2.2.2.2.2.1++List.take 1 (List.drop 0 [Ry])))).length=(List.take (v11.2.2.2.2.2.2.2.1++List.take 1 (List.drop 0 [Ry])).length (List.drop 0 (v11.2.2.2.2.2.2.2.1++List.take 1 (List.drop 0 [Ry])))).length/\0=0/\v11.2.2.2.1.length=v11.2.2.2.1.length/\0=0/\v11.2.2.2.2.2.1.length=(v11.2.2.2.2.2.1.set v11.1 ((v11.2.2.2.2.2.1.getD v11.1 []).set Ry.toNat Pc)).length/\k12 (v11.1,v11.2.1,IntKind.i64.wrap (v11.2.2.1+(1:Int)),v11.2.2.2.1,v11.2.2.2.2.1,v11.2.2.2.2.2.1.set v11.1 ((v11.2.2.2.2.2.1.getD v11.1 []).set Ry.toNat Pc),v11.2.2.2.2.2.2.1,List.take (v11.2.2.2.2.2.2.2.1++List.take 1 (List.drop 0 [Ry])).length (List.drop 0 (v11.2.2.2.2.2.2.2.1++List.take 1 (List.drop 0 [Ry]))),v11.2.2.2.2.2.2.2.2.1,())) (0=0/\(List.take v11.2.2.2.2.2.2.2.1.length (List.drop 0 v11.2.2.2.2.2.2.2.1)).length=(List.take v11.2.2.2.2.2.2.2.1.length (List.drop 0 v11.2.2.2.2.2.2.2.1)).length/\0=0/\v11.2.2.2.1.length=v11.2.2.2.1.length/\0=0/\v11.2.2.2.2.2.1.length=v11.2.2.2.2.2.1.length/\k12 (v11.1,v11.2.1,IntKind.i64.wrap (v11.2.2.1+(1:Int)),v11.2.2.2.1,v11.2.2.2.2.1,v11.2.2.2.2.2.1,v11.2.2.2.2.2.2.1,List.take v11.2.2.2.2.2.2.2.1.length (List.drop 0 v11.2.2.2.2.2.2.2.1),v11.2.2.2.2.2.2.2.2.1,()))) (((0:Int)<=(1:Int)/\(1:Int)<=(↑v11.2.2.2.2.2.2.2.1.length:Int)/\(↑v11.2.2.2.2.2.2.2.1.length:Int)<=(↑v11.2.2.2.2.2.2.2.1.length:Int))/\0=0/\(List.take ((↑v11.2.2.2.2.2.2.2.1.length:Int).toNat-Int.toNat (1:Int)) (List.drop (0+Int.toNat (1:Int)) v11.2.2.2.2.2.2.2.1)).length=(List.take ((↑v11.2.2.2.2.2.2.2.1.length:Int).toNat-Int.toNat (1:Int)) (List.drop (0+Int.toNat (1:Int)) v11.2.2.2.2.2.2.2.1)).length/\0=0/\v11.2.2.2.1.length=v11.2.2.2.1.length/\0=0/\v11.2.2.2.2.2.1.length=v11.2.2.2.2.2.1.length/\k10 (v11.1,v11.2.2.2.1,v11.2.2.2.2.1,v11.2.2.2.2.2.1,v11.2.2.2.2.2.2.1,List.take ((↑v11.2.2.2.2.2.2.2.1.length:Int).toNat-Int.toNat (1:Int)) (List.drop (0+Int.toNat (1:Int)) v11.2.2.2.2.2.2.2.1),v11.2.2.2.2.2.2.2.2.1,()))) (v9.1,0+l.toNat,(0:Int),v9.2.1,v9.2.2.1,v9.2.2.2.1,v9.2.2.2.2.1,List.take v9.2.2.2.2.2.1.length (List.drop 0 v9.2.2.2.2.2.1),v9.2.2.2.2.2.2.1,PUnit.unit)) (∃(Np:(List Int×PUnit)×PUnit),Rg.fn (v9.2.2.2.1.getD v9.1 [],())=some Np/\0=0/\Np.1.1.length=Np.1.1.length/\0=0/\v9.2.1.length=v9.2.1.length/\0=0/\v9.2.2.2.1.length=v9.2.2.2.1.length/\Dh (λ(Ed:Ad3) (GN:Ad3->Prop)=>Br (decide (Ed.2.1<(↑Np.1.1.length:Int))) (((0:Int)<=Ed.2.1/\Ed.2.1<(↑Ed.2.2.2.2.2.2.1.length:Int))/\ ∃(Ry:Int),Ed.2.2.2.2.2.2.1[0+Ed.2.1.toNat]?=some Ry/\((0:Int)<=l/\l<(↑Ed.2.2.1.length:Int))/\0=0/\Ed.2.2.2.2.2.2.1.length=Ed.2.2.2.2.2.2.1.length/\0=0/\Ed.2.2.1.length=Ed.2.2.1.length/\0=0/\Ed.2.2.2.2.1.length=Ed.2.2.2.2.1.length/\Dh (λ(Ke:CU) (k16:CU->Prop)=>Br (decide (Ke.2.2.1<(↑(Ed.2.2.1.getD (0+l.toNat) []).length:Int))) (((0:Int)<=Ke.2.2.1/\Ke.2.2.1<(↑(Ke.2.2.2.1.getD Ke.2.1 []).length:Int))/\((0:Int)<=Ry/\Ry<(↑(Ke.2.2.2.2.2.1.getD Ke.1 []).length:Int))/\ ∃(dK:Option (List Int)),Zd.fn (((Ke.2.2.2.2.2.1.getD Ke.1 []).getD Ry.toNat (none:Option (List Int))).getD [],((Ke.2.2.2.1.getD Ke.2.1 []).getD Ke.2.2.1.toNat (none:Option (List Int))).getD [],())=some dK/\ ∃(dL:Int),idx (((Ke.2.2.2.1.getD Ke.2.1 []).getD Ke.2.2.1.toNat (none:Option (List Int))).getD []) Ry=some dL/\((0:Int)<=dL/\dL<(↑(Ke.2.2.2.2.2.1.getD Ke.1 []).length:Int))/\ ∃(za:List Int),Jb.fn (((Ke.2.2.2.2.2.1.getD Ke.1 []).getD dL.toNat (none:Option (List Int))).getD [],())=some za/\ ∃(ph:Option (List Int)),Zd.fn (dK.getD [],za,())=some ph/\0=0/\Ke.2.2.2.1.length=Ke.2.2.2.1.length/\0=0/\Ke.2.2.2.2.2.1.length=Ke.2.2.2.2.2.1.length/\ ∃(wx:(Int×List (List (Option (List Int)))×List (List (Option (List Int)))×PUnit)×PUnit),(Xj m).fn (Ke.2.2.2.2.2.2.2.2.1,Ke.2.2.2.1,Ke.2.2.2.2.2.1,IntKind.i64.wrap (l+(1:Int)),ph,())=some wx/\(Ke.1<(Xj m).Gd (Ke.2.2.2.2.2.2.2.2.1,Ke.2.2.2.1,Ke.2.2.2.2.2.1,IntKind.i64.wrap (l+(1:Int)),ph,())/\Ke.1<(List.length wx.1.2.2.1))/\(Ke.2.1<(Xj m).Gd (Ke.2.2.2.2.2.2.2.2.1,Ke.2.2.2.1,Ke.2.2.2.2.2.1,IntKind.i64.wrap (l+(1:Int)),ph,())/\Ke.2.1<(List.length wx.1.2.1))/\(Ke.1<(Xj m).Gd (Ke.2.2.2.2.2.2.2.2.1,Ke.2.2.2.1,Ke.2.2.2.2.2.1,IntKind.i64.wrap (l+(1:Int)),ph,())/\Ke.1<(List.length wx.1.2.2.1))/\(Ke.1<(Xj m).Gd (Ke.2.2.2.2.2.2.2.2.1,Ke.2.2.2.1,Ke.2.2.2.2.2.1,IntKind.i64.wrap (l+(1:Int)),ph,())/\Ke.1<(List.length wx.1.2.2.1))/\0=0/\Ke.2.2.2.2.2.2.2.1.length=Ke.2.2.2.2.2.2.2.1.length/\0=0/\wx.1.2.1.length=wx.1.2.1.length/\0=0/\wx.1.2.2.1.length=wx.1.2.2.1.length/\k16 (Ke.1,Ke.2.1,IntKind.i64.wrap (Ke.2.2.1+(1:Int)),wx.1.2.1,min Ke.2.2.2.2.1 ((Xj m).Gd (Ke.2.2.2.2.2.2.2.2.1,Ke.2.2.2.1,Ke.2.2.2.2.2.1,IntKind.i64.wrap (l+(1:Int)),ph,())),wx.1.2.2.1,min Ke.2.2.2.2.2.2.1 ((Xj m).Gd (Ke.2.2.2.2.2.2.2.2.1,Ke.2.2.2.1,Ke.2.2.2.2.2.1,IntKind.i64.wrap (l+(1:Int)),ph,())),Ke.2.2.2.2.2.2.2.1,wx.1.1,())) (0=0/\Ke.2.2.2.2.2.2.2.1.length=Ke.2.2.2.2.2.2.2.1.length/\0=0/\Ke.2.2.2.1.length=Ke.2.2.2.1.length/\0=0/\Ke.2.2.2.2.2.1.length=Ke.2.2.2.2.2.1.length/\GN (Ke.1,IntKind.i64.wrap (Ed.2.1+(1:Int)),Ke.2.2.2.1,Ke.2.2.2.2.1,Ke.2.2.2.2.2.1,Ke.2.2.2.2.2.2.1,Ke.2.2.2.2.2.2.2.1,Ke.2.2.2.2.2.2.2.2.1,()))) (Ed.1,0+l.toNat,(0:Int),Ed.2.2.1,Ed.2.2.2.1,Ed.2.2.2.2.1,Ed.2.2.2.2.2.1,Ed.2.2.2.2.2.2.1,Ed.2.2.2.2.2.2.2.1,PUnit.unit)) ((0=0/\Ed.2.2.1.length=Ed.2.2.1.length)/\(0=0/\Ed.2.2.2.2.1.length=Ed.2.2.2.2.1.length)/\(Xj (m+1)).Gd (n,G,T,l,p,())<=Ed.2.2.2.1/\(Xj (m+1)).Gd (n,G,T,l,p,())<=Ed.2.2.2.2.2.1/\P ((Ed.2.2.2.2.2.2.2.1,Ed.2.2.1,Ed.2.2.2.2.1,()),()))) (v9.1,(0:Int),v9.2.1,v9.2.2.1,v9.2.2.2.1,v9.2.2.2.2.1,Np.1.1,v9.2.2.2.2.2.2.1,PUnit.unit))) (0+l.toNat,G.set (0+l.toNat) (G.getD (0+l.toNat) []++List.take 1 (List.drop 0 [p])),min G.length (0+l.toNat),T,T.length,List.take y8.1.1.length (List.drop 0 y8.1.1),n,PUnit.unit))/\(((((0:Int)<=l/\l<(↑G.length:Int))/\((Mb G l p T y7 n))/\(Mb G l p T y7 n))/\((0:Int)<=l/\l<(↑G.length:Int))/\(Mb G l p T y7 n))/\((0:Int)<=l/\l<(↑G.length:Int))/\(Mb G l p T y7 n))/\(((((0:Int)<=l/\l<(↑G.length:Int))/\((Mb G l p T y7 n))/\(Mb G l p T y7 n))/\((0:Int)<=l/\l<(↑G.length:Int))/\(Mb G l p T y7 n))/\(((0:Int)<=l/\l<(↑G.length:Int))/\(((Mb G l p T y7 n))/\(Mb G l p T y7 n))/\(((Mb G l p T y7 n))/\((Mb G l p T y7 n))/\(Mb G l p T y7 n))/\((Mb G l p T y7 n))/\((Mb G l p T y7 n))/\(Mb G l p T y7 n))/\(((0:Int)<=l/\l<(↑G.length:Int))/\(Mb G l p T y7 n))/\((0:Int)<=l/\l<(↑G.length:Int))/\((Mb G l p T y7 n))/\((Mb G l p T y7 n))/\(Mb G l p T y7 n))/\(((0:Int)<=l/\l<(↑G.length:Int))/\(Mb G l p T y7 n))/\(((0:Int)<=l/\l<(↑G.length:Int))/\(Mb G l p T y7 n))/\((0:Int)<=l/\l<(↑G.length:Int))/\((Mb G l p T y7 n))/\((Mb G l p T y7 n))/\(Mb G l p T y7 n)))=fnMW (Adb [Nf+7]) (look [(139,yL),(138,Rg),(86,Zd),(107,Jb),(137,cY.m (Xj m))]) (Xj (m+1)) Try.f137 (n,G,T,l,p,()) P:=by kernel_rfl
theorem EF {k l:Nat} {p:List Int} {s:Fw×Fw} (h:Of s.2 k l p=true):Hy k l p s=s:=by
 cases k with
 |zero=>rfl
 |succ k=>unfold Hy;rw [Ac h]
theorem EE (k l:Nat) (p:List Int) (s:Fw×Fw):Hy (k+1) l p s=if Of s.2 (k+1) l p=true then s else
   (ik (a6 (s.1.getD l []++ [some p]) (s.2.getD l [])) (s.1.getD l []++ [some p])).foldl (λs q=>Hy k (l+1) q s)
    (s.1.set l (s.1.getD l []++ [some p]),s.2.set l (a6 (s.1.getD l []++ [some p]) (s.2.getD l []))):=rfl
theorem Ab5 {n:Nat} {p:List Int} (h:Pm n p) {i:Nat} (hi:i<n):idx p (i:Int)=some (ap p i:Int):=by
 have cO:i<p.length:=by rw [h.1];exact hi
 rw [Bu cO,<-(h.Sb hi).1,Od cO]
theorem LX {x:Int} {gs:List PO} {j:Nat} (hj:j<gs.length) (s:Row×List Int):aS x (gs.take (j+1)) s=aZ x (aS x (gs.take j) s) gs[j]:=by
 unfold aS;rw [Iu,Ad hj,Ui,Fz];rfl
theorem LY {gs:List PO} {f:Nat} {row:Row} :aH gs f [] row=row:=by cases f<;>rfl
theorem my {n:Nat} {p:List Int} (h:Pm n p):0<p.length/\p.length<=20:=⟨by rw [h.1];exact h.n1,by rw [h.1];exact h.n2⟩
theorem PJ {n:Nat} {p q:List Int} (h:Pm n p) (k:Pm n q):Yd q.length p:=by rw [k.1];exact h.row
theorem Ar4 {m:Nat} (n:Int) (G T:List (List (Option (List Int)))) (l:Int) (p:Option (List Int)) (h:(∃N L q,p=some q/\sQ N L n G T l q)/\(n-l).toNat<m+1):
  fnMW (Adb [Nf+7]) (look [(139,yL),(138,Rg),(86,Zd),(107,Jb),(137,cY.m (Xj m))]) (Xj (m+1)) Try.f137 (n,G,T,l,p,()) (λ(z:(Int×List (List (Option (List Int)))×List (List (Option (List Int)))×Unit)×Unit)=>z=((n,(Hy (n-l).toNat l.toNat (p.getD []) (G,T)).1,(Hy (n-l).toNat l.toNat (p.getD []) (G,T)).2,()),())):=by
 obtain ⟨⟨N,L,q,rfl,h⟩,hm⟩:=h;have h':=h;obtain ⟨n1,n2,en,el,hle,v,pm,fx⟩:=h;subst en el
 have hk:((N:Int)-(L:Int)).toNat=N-L:=by omega
 rw [hk,Ab];refine Eq.mp (Arp (N:Int) G T (L:Int) (some q) _) ⟨_,Ac ⟨N,L,?a⟩,?b⟩
 case a=>
  simp only [Cw,Az,Dm];exact h'
 obtain ⟨v1,v2,v3,v4⟩:=v;dsimp only at v1 v2;have hw:IntKind.i64.wrap ((L:Int)+1)=((L+1:Nat):Int):=Bm (by omega);simp only [Mb];simp only [Cw,Az,Dm,hk,Ab,Bl,eq_self,true_and,bz,List.take_succ_cons,List.take_zero,Aw,Ex,Bb,hw];refine Br.of (λhh=>⟨by show Int.toNat (L:Int)<=G.length;omega,by show Int.toNat (L:Int)<=T.length;omega,?_⟩) λhh=>?_
 ·rw [EF (s:=(G,T)) hh]
 obtain ⟨k,hNk⟩: ∃k,N-L=k+1:=by
  cases e:N-L with
  |zero=>rw [e] at hh;simp [Of] at hh
  |succ k=>exact ⟨k,rfl⟩
 have hLN:L<N:=by omega
 have hv:V N (k+1) L (G,T):=by rw [<-hNk];exact ⟨v1,v2,v3,v4⟩
 rw [hNk] at hh⊢
 have e1:(0:Int)<=(L:Int)/\(L:Int)<(G.length:Int):=by omega
 have e1':(0:Int)<=(L:Int)/\(L:Int)<(T.length:Int):=by omega
 have hgl:(G.getD L []).length<=400:=Af9 n2 (by omega) hv
 have e2:(G.getD L []).length+1<=Db:=by show _<=4294967296;omega
 simp only [e1,e1',e2,and_self,true_and,bz];generalize SA:G.getD L []++ [some q]=gs
 have Bbd:gs.length<=401:=by rw [<-SA,Av,Bp];omega
 have hg:PG N L gs:=by rw [<-SA];exact hv.pg pm fx
 have hr0:Xz N L gs (T.getD L []):=by rw [<-SA];exact hv.Axc q
 obtain ⟨r1,r2,r3⟩:=IE hLN n2 hg hr0;generalize hR:a6 gs (T.getD L [])=R at r1 r2 r3
 have mI:Hy (k+1) L q (G,T)=(ik R gs).foldl (λs q=>Hy k (L+1) q s) (G.set L gs,T.set L R):=by
  rw [EE,Ai (by rw [hh];simp)];dsimp only;rw [SA,hR]
 rw [mI]
 have hTl:L<T.length:=by omega
 have hGl:L<G.length:=by omega
 have hG1:(G.set L gs).getD L []=gs:=lD G L hGl gs;have hT1: ∀row:Row,(T.set L row).getD L []=row:=lD T L hTl;refine ⟨_,Ac (by show (T.getD L []).length<=20;rw [hr0.rl];exact n2),?_⟩;dsimp only
 have YU:(Nq (T.getD L [])).length+Su (T.getD L [])<=40:=by have:=AW (T.getD L []);have:=HX (T.getD L []);have:=hr0.rl;omega
 have hq0:TY gs (Nq (T.getD L [])) (T.getD L []):=⟨λy hy=>Vc.1 hy,λy hy=> .inl (Vc.2 ⟨y,rfl,hy⟩)⟩
 refine ⟨λv=> ∃(row:Row) (qu:List Int) (kg kt:Nat),v=(L,G.set L gs,kg,T.set L row,kt,qu,(N:Int),())/\L<=kg/\L<=kt/\qu.length+Su row<=40/\Xz N L gs row/\TY gs qu row/\aH gs (qu.length+Su row) qu row=R,
  fun v=>v.2.2.2.2.2.1.length+Su (v.2.2.2.1.getD v.1 []),⟨T.getD L [],Nq (T.getD L []),min G.length L,T.length,?_,by omega,by omega,YU,hr0,hq0,?_⟩,?_⟩
 ·rw [xa T L hTl]
 ·rw [<-ER hLN hg 100 _ _ (by omega) hr0 hq0];exact hR
 rintro v ⟨row,qu,kg,kt,rfl,hkg,hkt,hb,SL,hqi,hbf⟩;dsimp only;simp only [hG1,hT1,Bb];refine Br.dec (λhl=>⟨e1.2,?_⟩) λhl=>?_
 ·cases qu with
  |nil=>simp at hl
  |cons x qu=>
  obtain ⟨p1,p2,xn,t,rfl,ht⟩:=OX hLN hg SL hqi
  have DW:xn<N:=by rw [<-SL.rl];exact sB ht
  refine Bt gs.length (λv=>v.2.2.1) (λj v=> ∃kg kt:Nat,v=(L,L,(j:Int),G.set L gs,kg,T.set L (aS (xn:Int) (gs.take j) (row,qu)).1,kt,(xn:Int)::(aS (xn:Int) (gs.take j) (row,qu)).2,(N:Int),())/\L<=kg/\L<=kt) rfl ⟨kg,kt,rfl,hkg,hkt⟩ ?_;rintro j v K hj hi ⟨kg,kt,rfl,h1,h2⟩ hK;dsimp only;simp only [hG1,hT1,Ab];refine Br.dec (λhl=>?_) λhl=>?_
  ·have hl:j<gs.length:=by omega
   obtain ⟨x1,x2⟩:=Aci hLN hg (gs.take j) (q:=qu) (λo ho=>Gl ho) SL ht;have Sd:=LX (x:=(xn:Int)) hl (row,qu);generalize aS (xn:Int) (gs.take j) (row,qu)=s at x1 x2 Sd⊢;obtain ⟨r,qq⟩:=s;dsimp only at x1 x2⊢;obtain ⟨g,wG,Yc,hgf⟩:=hg gs[j] (Ah hl);have htx:r.getD xn none=some t:=x1.mono _ _ ht;obtain ⟨t1,t2,t3,t4⟩:=x1.ok.rt _ _ htx;have GF:r.length=N:=x1.ok.rl
   have hgj:gs.getD j none=some g:=by rw [Aa6 hl];exact wG
   have hy:=Yc.lt DW;have hga:=(Yc.Sb DW).1;have Afs:qq.length+Su r=qu.length+Su row:=x1.phi;simp only [Aw] at hb;simp only [hgj,Dm];refine ⟨⟨by omega,by omega⟩,⟨by omega,by simp only [Aw];omega⟩,_,rfl,_,Ab5 Yc DW,⟨by omega,by omega⟩,?_⟩;rw [wG] at Sd;unfold aZ at Sd;dsimp only at Sd;rw [Dm,hga,Ab,Ab,htx,Dm] at Sd;rw [Ab];refine Br.of (λhn=>?_) λhn=>?_
   ·have hn:r.getD (ap g xn) none=none:=by
     cases e:r.getD (ap g xn) none with
     |none=>rfl
     |some u=>rw [e] at hn;simp at hn
    rw [hn] at Sd;refine ⟨⟨by omega,by simp only [Aw];omega⟩,_,rfl,⟨by omega,by omega⟩,some (Am t g),?_,⟨by omega,by omega⟩,?_,?_⟩
    ·rw [Ab,htx,Dm];exact Ac ⟨my t1,PJ t1 Yc⟩
    ·show qq.length+1+1<=4294967296;omega
    ·rw [Bm (by omega)];refine hK hl _ rfl ⟨kg,kt,?_,h1,h2⟩;rw [Sd,List.set_set];rfl
   ·have hn: ∃u,r.getD (ap g xn) none=some u:=by
     cases e:r.getD (ap g xn) none with
     |none=>rw [e] at hn;simp at hn
     |some u=>exact ⟨u,rfl⟩
    obtain ⟨u,hn⟩:=hn;rw [hn] at Sd;rw [Bm (by omega)];refine hK hl _ rfl ⟨kg,kt,?_,h1,h2⟩;rw [Sd]
  ·have:j=gs.length:=by omega
   subst this;rw [Az];generalize hs:aS (xn:Int) gs (row,qu)=s at p1 p2⊢;obtain ⟨r,qq⟩:=s;dsimp only at p1 p2⊢;have Afs:qq.length+Su r=qu.length+Su row:=p1.phi;simp only [Aw] at hb hbf;refine ⟨⟨by omega,by simp only [Aw];omega,Ku _⟩,⟨r,qq,kg,kt,?_,h1,h2,by omega,p1.ok,p2,?_⟩,?_⟩
   ·simp
   ·rw [show qu.length+1+Su row=(qu.length+Su row)+1 by omega] at hbf;simp only [aH,hs] at hbf;rw [Afs];exact hbf
   ·simp only [Aw]
    have:(List.take (qq.length+1-Int.toNat 1) (List.drop (Int.toNat 1) ((xn:Int)::qq))).length=qq.length:=by simp
    rw [this];omega
 ·have:qu= []:=Cr (by omega);subst this;rw [LY] at hbf;subst hbf;have hpr:=Acd hLN hg SL r3;have hvl:=hv.lower gs row
  have Aic: ∀qs:List (List Int),(∀q∈qs,q∈ik row gs)->V N k (L+1) (qs.foldl (λs q=>Hy k (L+1) q s) (G.set L gs,T.set L row))/\bN (L+1) (G.set L gs,T.set L row) (qs.foldl (λs q=>Hy k (L+1) q s) (G.set L gs,T.set L row)):=
   fun qs hqs=>RQ n1 n2 (by omega) qs _ (λq hq=>hpr q (hqs q hq)) hvl
  refine ⟨_,Ac (by show row.length<=20;rw [SL.rl];exact n2),?_⟩;dsimp only;have hol:=AW row;have GF:=SL.rl;refine Bt (Nq row).length (λv=>v.2.1) (λi v=> ∃(s:Fw×Fw) (kg kt:Nat),v=(L,(i:Int),s.1,kg,s.2,kt,Nq row,(N:Int),())/\L<=kg/\L<=kt/\s=(((Nq row).take i).flatMap λy=>gs.map (Uu row y)).foldl (λs q=>Hy k (L+1) q s) (G.set L gs,T.set L row)) rfl ⟨_,kg,kt,rfl,hkg,hkt,rfl⟩ ?_;rintro i v K hi cO ⟨s,kg,kt,rfl,h1,h2,hs⟩ hK;dsimp only
  have Oy: ∀q∈((Nq row).take i).flatMap (λy=>gs.map (Uu row y)),q∈ik row gs:= λq hq=>by
   obtain ⟨y,hy,hq⟩:=Hg.1 hq;exact Hg.2 ⟨y,Gl hy,hq⟩
  refine Br.dec (λhl=>?_) λhl=>?_
  ·have hl:i<(Nq row).length:=by omega
   obtain ⟨f1,f2⟩:=Aic _ Oy;rw [<-hs] at f1 f2
   have g1:s.1.getD L []=gs:=by rw [(f2.low L (by omega)).1];exact hG1
   have g2:s.1.length=N:=f1.1;obtain ⟨yn,hyn,hyr⟩:=Vc.1 (Ah hl);obtain ⟨t,ht⟩:=Nw.1 hyr
   have hyN:yn<N:=by rw [<-GF];exact sB ht
   obtain ⟨t1,t2,t3,t4⟩:=SL.rt _ _ ht;refine ⟨⟨by omega,by omega⟩,(yn:Int),by rw [Ab,Ad hl,hyn],by omega,?_⟩;rw [g1];refine Bt gs.length (λv=>v.2.2.1) (λj v=> ∃(s':Fw×Fw) (kg kt:Nat),v=(L,L,(j:Int),s'.1,kg,s'.2,kt,Nq row,(N:Int),())/\L<=kg/\L<=kt/\s'=(((Nq row).take i).flatMap (λy=>gs.map (Uu row y))++(gs.take j).map (Uu row (yn:Int))).foldl (λs q=>Hy k (L+1) q s) (G.set L gs,T.set L row)) rfl ⟨s,kg,kt,rfl,h1,h2,by simpa using hs⟩ ?_;rintro j v K' hj u5 ⟨s',kg,kt,rfl,h1,h2,DV⟩ hK';dsimp only;refine Br.dec (λMr=>?_) λMr=>?_
   ·have Mr:j<gs.length:=by omega
    have SN: ∀q∈((Nq row).take i).flatMap (λy=>gs.map (Uu row y))++(gs.take j).map (Uu row (yn:Int)),q∈ik row gs:= λq hq=>by
     rcases Be.1 hq with hq|hq
     ·exact Oy q hq
     ·obtain ⟨o,ho,rfl⟩:=Bh.1 hq;exact Hg.2 ⟨(yn:Int),Vc.2 ⟨yn,rfl,hyr⟩,Bh.2 ⟨o,Gl ho,rfl⟩⟩
    obtain ⟨f1',f2'⟩:=Aic _ SN;rw [<-DV] at f1' f2';obtain ⟨G',T'⟩:=s';dsimp only at f1' f2'⊢
    have g1':G'.getD L []=gs:=by have:=(f2'.low L (by omega)).1;dsimp only at this;rw [this];exact hG1
    have g3':T'.getD L []=row:=by have:=(f2'.low L (by omega)).2;dsimp only at this;rw [this];exact hT1 row
    have g4':G'.length=N:=f1'.1;have g5':T'.length=N:=f1'.2.1;obtain ⟨g,wG,Yc,hgf⟩:=hg gs[j] (Ah Mr)
    have hgj:gs.getD j none=some g:=by rw [Aa6 Mr];exact wG
    have hgm:some g∈gs:=by rw [<-wG];exact Ah Mr
    have hy:=Yc.lt hyN;obtain ⟨t',r6⟩:=Nw.1 (r3 yn t g ht hgm);obtain ⟨u1,u2,u3,u4⟩:=SL.rt _ _ r6
    have Aq5:Uu row (yn:Int) gs[j]=Am (Am t g) (Cc t'):=by rw [wG];exact jU ht r6
    have hqm:=hpr _ (Hg.2 ⟨(yn:Int),Vc.2 ⟨yn,rfl,hyr⟩,Bh.2 ⟨gs[j],Ah Mr,Aq5⟩⟩);simp only [g1',g3',Ab,hgj,ht,Dm]
    have ub:L<Int.toNat ((L+1:Nat):Int):=by omega
    have Aa8:=zh n1 n2 k (L+1) _ (G',T') (by omega) f1' hqm.1 hqm.2;have Ayk:((Hy k (L+1) (Am (Am t g) (Cc t')) (G',T')).1).length=N:=Aa8.v.1;have Ayl:((Hy k (L+1) (Am (Am t g) (Cc t')) (G',T')).2).length=N:=Aa8.v.2.1
    have NB:((N:Int)-((L+1:Nat):Int)).toNat=k:=by omega
    refine ⟨⟨by omega,by omega⟩,⟨by omega,by omega⟩,some (Am t g),Ac ⟨my t1,PJ t1 Yc⟩,_,Ab5 Yc hyN,⟨by omega,by omega⟩,Cc t',?_,some (Am (Am t g) (Cc t')),?_,_,Ac ⟨⟨N,L+1,_,rfl,?pr⟩,?lt⟩,⟨ub,?k1⟩,⟨ub,?k2⟩,⟨ub,?k3⟩,⟨ub,?k4⟩,?go⟩
    case pr=>exact ⟨n1,n2,rfl,rfl,by omega,by rw [show N-(L+1)=k by omega];exact f1',hqm.1,hqm.2⟩
    case lt=>
     show ((N:Int)-((L+1:Nat):Int)).toNat<m;omega
    case go=>
     dsimp only;rw [Bm (by omega)];refine hK' Mr _ rfl ⟨_,_,_,rfl,?_,?_,?_⟩
     ·show L<=min kg (Int.toNat ((L+1:Nat):Int));omega
     ·show L<=min kt (Int.toNat ((L+1:Nat):Int));omega
     ·rw [Iu,Ad Mr,Ui,Hj,<-Bn,Fz,<-DV];simp only [Cb,List.map_nil,Ro,List.foldl_nil,Aq5,NB,Ab,Dm]
    case k1=>simp only [NB,Ab,Dm];omega
    case k2=>simp only [NB,Ab,Dm];omega
    case k3=>simp only [NB,Ab,Dm];omega
    case k4=>simp only [NB,Ab,Dm];omega
    ·rw [Ab,r6,Dm];exact Ac ⟨by show t'.length<=20;rw [u1.1];exact n2,u1.2.row⟩
    ·exact Ac ⟨my (t1.comp Yc),PJ (t1.comp Yc) u1.inv⟩
   ·have:j=gs.length:=by omega
    subst this;rw [Bm (by omega)];refine hK hl _ rfl ⟨s',kg,kt,rfl,h1,h2,?_⟩;rw [DV,Az,Iu,Ad hl,Ui,List.flatMap_append,hyn];simp
  ·have:i=(Nq row).length:=by omega
   subst this;rw [Az] at hs;refine ⟨h1,h2,?_⟩;rw [hs];rfl
theorem Acz {m:Nat} (Ale:Ds Try.prog 137 (Xj m)):Ds Try.prog 137 (Xj (m+1)):=
 Ds.LI (Ah1 [Nf+7]) (Bf XA (Ic lU (Bf vr (Bf Xm (Ic Ale Ce))))) mixed Try.func137 (by kernel_rfl) (by kernel_rfl) λx h=>Ar4 x.1 x.2.1 x.2.2.1 x.2.2.2.1 x.2.2.2.2.1 h
theorem PU:Ds Try.prog 137 (Xj 0):=
 Ds.LI qA Ce mixed Try.func137 (by kernel_rfl) (by kernel_rfl) λ_ h=>absurd h.2 (Ea _)
theorem vo: ∀m,Ds Try.prog 137 (Xj m)
 |0=>PU
 |m+1=>Acz (vo m)
noncomputable abbrev BT:MSpec:=LI Aj4 (λx=> ∃N L q,x.2.2.2.2.1=some q/\sQ N L x.1 x.2.1 x.2.2.1 x.2.2.2.1 q)
 (λx=>((x.1,(Hy (x.1-x.2.2.2.1).toNat x.2.2.2.1.toNat (x.2.2.2.2.1.getD []) (x.2.1,x.2.2.1)).1,(Hy (x.1-x.2.2.2.1).toNat x.2.2.2.1.toNat (x.2.2.2.2.1.getD []) (x.2.1,x.2.2.1)).2,()),()))
theorem PV:Ds Try.prog 137 BT:=Ds.Ar2 (λx=>(x.1-x.2.2.2.1).toNat) vo
def aO (n:Nat):Fw:=List.replicate n []
def fp (n i:Nat):Row:=(List.replicate n none).set i (some (upto n))
def ef (n:Nat):Fw:=(List.range n).map λi=>fp n i
def Vk (n:Nat) (gens:List PO):Fw×Fw:=gens.foldl (λs o=>Hy n 0 (o.getD []) s) (aO n,ef n)
noncomputable abbrev NP:MSpec:= {Mq:= [none,none],ins:= [(false, .Ia tI),(false, .Ia tLO)],Jy:=false,Li:= [none,none,none],outs:= [.Ia tI, .Ca tO teG false, .Ca tO teG false],fn:= λ_=>none,rp:=some 164}
noncomputable abbrev jS:MSpec:=LI NP (λx=>(1<=x.1/\x.1<=20)/\List.length x.2.1<=4294967296/\ ∀o∈(x.2.1:List PO),∃g,o=some g/\Pm x.1.toNat g)
 (λx=>((x.1,(Vk x.1.toNat x.2.1).1,(Vk x.1.toNat x.2.1).2,()),()))
abbrev bt:Type:=Int×List (List (Option (List Int)))×Int×List (List (Option (List Int)))×PUnit
theorem KP (n:Int) (gens:List (Option (List Int))) (P:(Int×List (List (Option (List Int)))×List (List (Option (List Int)))×Unit)×Unit->Prop):(((0:Int)<=n/\n<(↑Db:Int)+(1:Int))/\n=n/\0=0/\(List.replicate n.toNat ([]:List (Option (List Int)))).length=(List.replicate n.toNat ([]:List (Option (List Int)))).length/\0=0/\0=([]:List Int).length/\Dh (λ(v3:bt) (k4:bt->Prop)=>Br (decide (v3.1<n)) (((0:Int)<=n/\n<(↑Db:Int)+(1:Int))/\n=n/\ ∃(y5:Option (List Int)),dz.fn (n,())=some y5/\((0:Int)<=v3.1/\v3.1<(↑(List.replicate n.toNat (none:Option (List Int))).length:Int))/\0+v3.1.toNat<(List.replicate n.toNat (none:Option (List Int))).length/\0=0/\(List.replicate n.toNat (none:Option (List Int))).length=((List.replicate n.toNat (none:Option (List Int))).set (0+v3.1.toNat) y5).length/\(0=0/\v3.2.2.2.1.length=v3.2.2.2.1.length)/\(0=0/\1= [(List.replicate n.toNat (none:Option (List Int))).set (0+v3.1.toNat) y5].length)/\0< [(List.replicate n.toNat (none:Option (List Int))).set (0+v3.1.toNat) y5].length/\v3.2.2.2.1.length+ [(List.replicate n.toNat (none:Option (List Int))).set (0+v3.1.toNat) y5].length<=Db/\0=0/\v3.2.1.length=v3.2.1.length/\0=0/\(v3.2.2.2.1++ [(List.replicate n.toNat (none:Option (List Int))).set (0+v3.1.toNat) y5]).length=(v3.2.2.2.1++ [(List.replicate n.toNat (none:Option (List Int))).set (0+v3.1.toNat) y5]).length/\k4 (IntKind.i64.wrap (v3.1+(1:Int)),v3.2.1,v3.2.2.1,v3.2.2.2.1++ [(List.replicate n.toNat (none:Option (List Int))).set (0+v3.1.toNat) y5],())) (0=0/\v3.2.1.length=v3.2.1.length/\0=0/\v3.2.2.2.1.length=v3.2.2.2.1.length/\Dh (λ(v5:bt) (k6:bt->Prop)=>Br (decide (v5.1<(↑gens.length:Int))) (∃(y7:Option (List Int)),idx gens v5.1=some y7/\0=0/\v5.2.1.length=v5.2.1.length/\0=0/\v5.2.2.2.1.length=v5.2.2.2.1.length/\ ∃(y8:(Int×List (List (Option (List Int)))×List (List (Option (List Int)))×PUnit)×PUnit),BT.fn (v5.2.2.1,v5.2.1,v5.2.2.2.1,(0:Int),y7,())=some y8/\0=0/\y8.1.2.1.length=y8.1.2.1.length/\0=0/\y8.1.2.2.1.length=y8.1.2.2.1.length/\k6 (IntKind.i64.wrap (v5.1+(1:Int)),y8.1.2.1,y8.1.1,y8.1.2.2.1,())) ((0=0/\v5.2.1.length=v5.2.1.length)/\(0=0/\v5.2.2.2.1.length=v5.2.2.2.1.length)/\P ((v5.2.2.1,v5.2.1,v5.2.2.2.1,()),()))) ((0:Int),v3.2.1,v3.2.2.1,v3.2.2.2.1,PUnit.unit))) ((0:Int),List.replicate n.toNat ([]:List (Option (List Int))),n,[],PUnit.unit))=fnMW bu (look [(25,dz),(137,BT)]) jS Try.f133 (n,gens,()) P:=by kernel_rfl
theorem cI (n i:Nat):(aO n).getD i []= []:=by
 unfold aO;rw [Al,Zs]
 split<;>rfl
theorem ni {n i:Nat} (h:i<n):(ef n).getD i []=fp n i:=by
 unfold ef;rw [Al,Fa,Rz h];rfl
theorem oU {n i y:Nat} (h:i<n):(fp n i).getD y none=if i=y then some (upto n) else none:=by
 unfold fp;rw [Vy,Ei]
 by_cases e:i=y
 ·rw [Ac ⟨e,h⟩,Ac e]
 ·rw [Ai (λhh=>e hh.1),Ai e,Al,Zs]
  split<;>rfl
theorem vL {n:Nat} (h1:1<=n) (h2:n<=20): ∀(k l:Nat),l+k=n->l4 n k l (aO n,ef n)
 |0,l,hk=>cI n l
 |k+1,l,hk=>by
  have hl:l<n:=by omega
  have hg: ∀(g:List Int) (j:Nat),some g∈(aO n).getD j []->False:= λg j hg=>by rw [cI] at hg;cases hg
  refine ⟨vL h1 h2 k (l+1) (by omega),⟨λo ho=>?_,?_,?_,λy t e0=>?_,λy t g _ fz=>(hg _ _ fz).elim,λy t g t' _ fz=>(hg _ _ fz).elim⟩,λg fz=>(hg _ _ fz).elim⟩
  ·have ho:o∈(aO n).getD l []:=ho;rw [cI] at ho;cases ho
  ·show ((ef n).getD l []).length=n;rw [ni hl];simp [fp]
  ·show ((ef n).getD l []).getD l none=_;rw [ni hl,oU hl,Ac rfl]
  ·replace e0:((ef n).getD l []).getD y none=some t:=e0
   rw [ni hl,oU hl] at e0
   by_cases hy:l=y
   ·rw [Ac hy] at e0;have e1:=Bi e0;subst e1 hy;exact ⟨Pm.id h1 h2,λi hi=>ll (by omega),ll hl, .id⟩
   ·rw [Ai hy] at e0;cases e0
theorem JR (n:Nat): ∀(k l:Nat),GBf k l (aO n,ef n)
 |0,_=>trivial
 |k+1,l=>⟨JR n k (l+1),by show ((aO n).getD l []).length<=_;rw [cI];exact Iz _⟩
theorem TN {n:Nat} (h1:1<=n) (h2:n<=20):V n n 0 (aO n,ef n):=⟨by simp [aO],by simp [ef],vL h1 h2 n 0 (by omega),JR n n 0⟩
def PmL (n:Nat) (gens:List PO):Prop:= ∀o∈gens,∃g,o=some g/\Pm n g
theorem ED {n:Nat} {gens:List PO} {j:Nat} (hj:j<gens.length):Vk n (gens.take (j+1))=Hy n 0 (gens[j].getD []) (Vk n (gens.take j)):=by
 unfold Vk;rw [Iu,Ad hj,Ui,Fz];rfl
theorem pq {n:Nat} (h1:1<=n) (h2:n<=20): ∀(gens:List PO) (s:Fw×Fw),PmL n gens->V n n 0 s->V n n 0 (gens.foldl (λs o=>Hy n 0 (o.getD []) s) s)/\
  bN 0 s (gens.foldl (λs o=>Hy n 0 (o.getD []) s) s)/\(∀g,some g∈gens->Gn n ((gens.foldl (λs o=>Hy n 0 (o.getD []) s) s).1.getD 0 []) g)/\ ∀o∈(gens.foldl (λs o=>Hy n 0 (o.getD []) s) s).1.getD 0 [],o∈s.1.getD 0 []\/o∈gens
 | [],s,_,hv=>⟨hv,bN.refl _ _,(λ_ hg=>by cases hg),λ_ ho=> .inl ho⟩
 |o::gens,s,hg,hv=>by
  obtain ⟨g,rfl,Yc⟩:=hg o (by simp);have ha:=zh h1 h2 n 0 g s (by omega) hv Yc (λi hi=>absurd hi (Ea _));obtain ⟨a1,a2,a3,a4⟩:=pq h1 h2 gens (Hy n 0 g s) (λo ho=>hg o (by simp [ho])) ha.v;refine ⟨a1,ha.grow.trans a2 (Ap _),λg' fz=>?_,λo ho=>?_⟩
  ·rcases Bd.1 fz with e|fz
   ·cases e;exact ha.Aqv.mono λg hg=>a2.RU _ _ hg
   ·exact a3 g' fz
  ·rcases a4 o ho with h|h
   ·rcases ha.gens o h with h|h
    ·exact .inl h
    ·exact .inr (by simp [h])
   ·exact .inr (by simp [h])
theorem EC {n:Nat} (h1:1<=n) (h2:n<=20) {gens:List PO} (hg:PmL n gens):V n n 0 (Vk n gens):=(pq h1 h2 gens _ hg (TN h1 h2)).1
theorem tV {n:Nat} (h1:1<=n) (h2:n<=20) {gens:List PO} (hg:PmL n gens) {p:List Int} (hp:Pm n p):Of (Vk n gens).2 n 0 p=true↔Gn n gens p:=by
 obtain ⟨a1,a2,a3,a4⟩:=pq h1 h2 gens _ hg (TN h1 h2)
 have hS:RE n λg=>some g∈gens:=⟨⟨h1,h2⟩,λg fz=>by obtain ⟨g',e,h⟩:=hg _ fz;cases e;exact h⟩
 have Oy: ∀g,some g∈(Vk n gens).1.getD 0 []->some g∈gens:= λg fz=>by
  rcases a4 _ fz with h|h
  ·have h:some g∈(aO n).getD 0 []:=h;rw [cI] at h;cases h
  ·exact h
 have hS':RE n λg=>some g∈(Vk n gens).1.getD 0 []:=⟨⟨h1,h2⟩,λg fz=>hS.2 g (Oy g fz)⟩
 refine (o5 h1 h2 n 0 (Vk n gens) (by omega) a1.2.2.1 p hp λi hi=>absurd hi (Ea _)).trans ⟨λh=>h.mono Oy,λh=>h.trans hS' λg fz=>a3 g fz⟩
theorem IL (n:Int) (gens:List (Option (List Int))) (h:(1<=n/\n<=20)/\List.length gens<=4294967296/\ ∀o∈(gens:List PO),∃g,o=some g/\Pm n.toNat g):
  fnMW bu (look [(25,dz),(137,BT)]) jS Try.f133 (n,gens,()) (λ(z:(Int×List (List (Option (List Int)))×List (List (Option (List Int)))×Unit)×Unit)=>z=((n,(Vk n.toNat gens).1,(Vk n.toNat gens).2,()),())):=by
 obtain ⟨⟨h1,h2⟩,h3,hg⟩:=h
 obtain ⟨N,rfl⟩: ∃N:Nat,n=N:=⟨n.toNat,by omega⟩
 rw [Ab] at hg⊢
 have h1:1<=N:=by omega
 have h2:N<=20:=by omega
 refine Eq.mp (KP (N:Int) gens _) ?_
 have hm:((0:Int)<=(N:Int)/\(N:Int)<(Db:Int)+1):=⟨by omega,by show (N:Int)<(4294967296:Int)+1;omega⟩
 simp only [hm,and_self,eq_self,true_and,Ab,Bl,Ex,Bb,Ei,Aw,Nat.lt_add_one,Av];refine Bt N (λv=>v.1) (λj v=>v=((j:Int),aO N,(N:Int),(List.range j).map (fp N),())) rfl rfl ?_;rintro j v K hj hi rfl hK;dsimp only;refine Br.dec (λhl=>?_) λhl=>?_
 ·refine ⟨_,Ac ⟨by show (1:Int)<=N;omega,by show (N:Int)<=20;omega⟩,⟨by omega,by omega⟩,by rw [Ab];omega,?_,?_⟩
  ·show _<=4294967296;simp only [Ct,cS];omega
  ·rw [Bm (by omega)];refine hK (by omega) _ rfl ?_;rw [Gc,Hj];rfl
 ·have:j=N:=by omega
  subst this;refine Bt gens.length (λv=>v.1) (λi v=>v=((i:Int),(Vk j (gens.take i)).1,(j:Int),(Vk j (gens.take i)).2,())) rfl rfl ?_;rintro i v K' cO Bbg rfl hK';dsimp only;refine Br.dec (λMr=>?_) λMr=>?_
  ·have Mr:i<gens.length:=by omega
   obtain ⟨g,wG,Yc⟩:=hg gens[i] (Ah Mr);have hv:=EC h1 h2 (gens:=gens.take i) λo ho=>hg o (Gl ho);refine ⟨_,Bu Mr,_,Ac ⟨j,0,g,wG,h1,h2,rfl,rfl,Iz _,hv,Yc,λi hi=>absurd hi (Ea _)⟩,?_⟩;rw [Bm (by omega)];refine hK' Mr _ rfl ?_;rw [ED Mr];simp only [Int.sub_zero,Ab];rfl
  ·have:i=gens.length:=by omega
   subst this;rw [Az]
theorem so:Ds Try.prog 133 jS:=
 Ds.LI qA (Bf sm (Ic PV Ce)) mixed Try.func133 (by kernel_rfl) (by kernel_rfl) λx h=>IL x.1 x.2.1 h
def cv (T:Fw):Nat->Nat
 |0=>1
 |j+1=>cv T j*(Nq (T.getD j [])).length
noncomputable abbrev kV:Spec:=Ho (.pair (.ptr CW) (.pair tI .unit)) tI false true (λx=>x.2.1=0/\ ∃N:Nat,(1<=N/\N<=20)/\x.1.1=N/\V N N 0 (x.1.2.1,x.1.2.2.1)) (λx=>(cv x.1.2.2.1 x.1.1.toNat:Int))
noncomputable abbrev GO:MSpec:= {Mq:= [none,none],ins:= [(false, .Ia tI),(false, .Ia kh)],Jy:=false,Li:= [none,none,none],outs:= [.Ia tI, .Ca tO teG false, .Ca tO teG false],fn:= λ_=>none,rp:=some 164}
def ba (n:Int) (g:List (List Int)):Fw×Fw:=Vk n.toNat (g.map some)
noncomputable abbrev Zg:MSpec:=LI GO (λx=>(1<=x.1/\x.1<=20)/\List.length x.2.1<=4294967296/\ ∀g∈(x.2.1:List (List Int)),Pm x.1.toNat g)
 (λx=>((x.1,(ba x.1 x.2.1).1,(ba x.1 x.2.1).2,()),()))
noncomputable def Xe (p:PP):Int:=if Da p=true then (cv (ba p.1 p.2.2.1).2 p.1.toNat:Int) else 0
noncomputable abbrev Tk:Spec:=Ho (.pair Gi .unit) tI false true (λx=>Fo x.1) (λx=>Xe x.1)
theorem Ahd (c:Int×List (List (Option (List Int)))×List (List (Option (List Int)))×Unit) (l:Int) (P:Int->Prop):(Dh (λ(v3:Int×Int×PUnit) (k4:Int×Int×PUnit->Prop)=>Br (decide (v3.2.1<c.1)) (∃(y5:List (Option (List Int))),idx c.2.2.1 v3.2.1=some y5/\ ∃(y6:(List Int×PUnit)×PUnit),Rg.fn (y5,())=some y6/\ ∃(y7:Int),Tx.fn (List.take y6.1.1.length (List.drop 0 y6.1.1),())=some y7/\k4 (IntKind.i64.wrap (v3.1*y7),IntKind.i64.wrap (v3.2.1+(1:Int)),())) (P v3.1)) ((1:Int),l,PUnit.unit))=fnW bu (look [(138,Rg),(85,Tx)]) kV Try.f134 (c,l,()) P:=by kernel_rfl
theorem DP (p:Int×ByteArray×List (List Int)×Unit) (P:Int->Prop):(∃(y2:Bool),Je.fn ((p.1,p.2.1,p.2.2.1,()),())=some y2/\Br (!y2) (P (0:Int)) (∃(y3:(Int×List (List (Option (List Int)))×List (List (Option (List Int)))×PUnit)×PUnit),Zg.fn (p.1,p.2.2.1,())=some y3/\ ∃(y4:Int),kV.fn ((y3.1.1,List.take y3.1.2.1.length (List.drop 0 y3.1.2.1),List.take y3.1.2.2.1.length (List.drop 0 y3.1.2.2.1),()),(0:Int),())=some y4/\P y4))=fnW Hf (look [(23,Je),(133,Zg),(134,kV)]) Tk Try.f121 (p,()) P:=by kernel_rfl
theorem Ah3 (n i:Nat):(upto n).countP (λy=>decide ((i:Int)<=y))=n-i:=by
 induction n with
 |zero=>simp [upto]
 |succ n ih=>
  rw [fv,List.countP_append,ih];simp only [List.countP_cons,List.countP_nil,Wo]
  split<;>omega
theorem Agb {n i:Nat} {gs:List PO} {row:Row} {H:List Int->Prop} (hi:i<n) (h:Lvl n i gs row H):(Nq row).length<=n-i:=by
 rw [<-Ah3 n i];unfold Nq;rw [h.rl,<-List.countP_eq_length_filter];refine List.countP_mono_left λy hy hs=>?_;obtain ⟨h1,h2⟩:=Nd.1 hy;obtain ⟨t,ht⟩:=Xs.1 hs;obtain ⟨t1,t2,t3,_⟩:=h.rt _ _ ht;refine Ci ?_;refine Bz λhn=>?_
 have hy':y.toNat<i:=by omega
 have:=t1.inj hi (by omega:y.toNat<n) (by rw [t3,t2 _ hy']);omega
def fact:Nat->Nat
 |0=>1
 |n+1=>(n+1)*fact n
theorem FN: ∀n,1<=fact n
 |0=>Ap _
 |n+1=>by have:=FN n;simp only [fact];exact Gz this (Nat.le_mul_of_pos_left _ (by omega))
theorem UL {a b:Nat} (h:a<=b):fact a<=fact b:=by
 induction h with
 |refl=>exact Ap _
 |step _ ih=>simp only [fact];exact Gz ih (Nat.le_mul_of_pos_left _ (by omega))
theorem Aby {n:Nat} {s:Fw×Fw} (hc:l4 n n 0 s): ∀j,j<=n->cv s.2 j*fact (n-j)<=fact n
 |0,_=>by simp [cv]
 |j+1,hj=>by
  have ih:=Aby hc j (by omega);have h1:=Agb (by omega) (nH n 0 hc j (by omega) (by omega))
  have e:n-j=(n-(j+1))+1:=by omega
  simp only [cv];rw [e] at ih h1;simp only [fact] at ih;rw [Nat.mul_assoc];exact Gz (Nat.mul_le_mul_left _ (Fk _ h1)) ih
theorem VV {n:Nat} (h2:n<=20) {s:Fw×Fw} (hc:l4 n n 0 s) {j:Nat} (hj:j<=n):cv s.2 j<=2432902008176640000:=by
 have h1:=Aby hc j hj;have h3:=FN (n-j);have h4:fact n<=2432902008176640000:=Gz (UL h2) (by decide);have h5:cv s.2 j*1<=cv s.2 j*fact (n-j):=Nat.mul_le_mul_left _ h3;omega
theorem Agk (c:Int×List (List (Option (List Int)))×List (List (Option (List Int)))×Unit) (l:Int) (h:l=0/\ ∃N:Nat,(1<=N/\N<=20)/\c.1=N/\V N N 0 (c.2.1,c.2.2.1)):
  fnW bu (look [(138,Rg),(85,Tx)]) kV Try.f134 (c,l,()) (λ(z:Int)=>z=(cv c.2.2.1 c.1.toNat:Int)):=by
 obtain ⟨rfl,N,⟨h1,h2⟩,hN,v⟩:=h;obtain ⟨n,G,T,⟨⟩⟩:=c;dsimp only at hN v⊢;subst hN;refine Eq.mp (Ahd ((N:Int),G,T,()) 0 _) ?_;obtain ⟨v1,v2,v3,v4⟩:=v;dsimp only at v1 v2⊢;rw [Ab];refine Bt N (λv=>v.2.1) (λj v=>v.1=(cv T j:Int)) rfl rfl ?_;rintro j ⟨o,i,⟨⟩⟩ K hj hi ho hK;dsimp only at hi ho⊢;subst hi ho;refine Br.dec (λhl=>?_) λhl=>?_
 ·have hl:j<N:=by omega
  have hT:j<T.length:=by omega
  have Qd:=nH N 0 v3 j (by omega) (by omega);have GF:=Qd.rl;dsimp only at GF;rw [FV hT] at GF;refine ⟨_,Bu hT,_,Ac (by show (T[j]).length<=20;omega),_,Ac trivial,?_⟩;rw [Cw,Az,Bm (by omega)];have hb:=VV h2 v3 (j:=j+1) (by omega);simp only [cv] at hb;rw [FV hT] at hb
  have e:(cv T j:Int)*((Nq T[j]).length:Int)=((cv T j*(Nq T[j]).length:Nat):Int):=by push_cast;rfl
  show K (IntKind.i64.wrap ((cv T j:Int)*((Nq T[j]).length:Int)),_,());rw [e,Co (by omega) (by omega)];refine hK hl _ rfl ?_;simp only [cv];rw [FV hT]
 ·have:j=N:=by omega
  subst this;rfl
theorem JL:Sound Try.prog 134 kV:=
 Sound.Ho qA (Ic lU (Bf gI Ce)) mixed Try.func134 (by kernel_rfl) (by kernel_rfl) λx h=>Agk x.1 x.2.1 h
theorem Cells.told {w:World} {S:Nat->Prop} {e:Ty} {cs:List Value} {xs:List e.den} (h:Cells w S (.slice e) cs xs): ∃o:Option (List e.den),Cells w S (.oslice e) cs o/\o.getD []=xs:=by
 simp only [Cells] at h;obtain ⟨a,len,cap,rfl,h1,h2,h3⟩:=h
 cases a with
 |none=>
  rcases h3 with rfl|⟨g,o,h,_⟩
  ·refine ⟨none,?_,rfl⟩;simp only [Cells];exact .inl ⟨trivial,cap,by rw [h1];rfl⟩
  ·cases h
 |some ad=>
  refine ⟨some xs,?_,rfl⟩;simp only [Cells];exact .inr ⟨xs,ad,len,cap,rfl,rfl,h1,h2,h3.imp id λ⟨g,o,h,h4⟩=>⟨g,o,Bi h,h4⟩⟩
theorem LQ {α β:Type} (Q:Nat->α->β->Prop): ∀(xs:List α),(∀i x,xs[i]?=some x-> ∃y,Q i x y)-> ∃ys:List β,ys.length=xs.length/\ ∀i x y,xs[i]?=some x->ys[i]?=some y->Q i x y:=by
 intro xs h;refine ⟨List.ofFn λi:Fin xs.length=>Classical.choose (h i xs[i] (Ad i.2)),by simp,λi x y h1 h2=>?_⟩;obtain ⟨hi,rfl⟩:=Ao.1 h1;obtain ⟨cO,rfl⟩:=Ao.1 h2;rw [List.getElem_ofFn];exact Classical.choose_spec (h i xs[i] (Ad hi))
theorem Dd.Aro {w:World} {S:Nat->Prop} {e:Ty} {v:Value} {xs:List (List e.den)} (h:Dd w S (.slice (.slice e)) v xs): ∃os:List (Option (List e.den)),Dd w S (.slice (.oslice e)) v os/\os.map (·.getD [])=xs:=by
 obtain ⟨cs,hc,rfl⟩:=h;simp only [Cells] at hc;obtain ⟨a,len,cap,rfl,h1,h2,h3⟩:=hc;rcases h3 with rfl|⟨g,o,rfl,hg,hS,h4⟩
 ·refine ⟨[],⟨_,?_,rfl⟩,rfl⟩;simp only [Cells];exact ⟨a,len,cap,rfl,h1,h2, .inl trivial⟩
 ·obtain ⟨os,e1,e2⟩:=LQ (λi (x:List e.den) (y:Option (List e.den))=>y.getD []=x/\ ∃es:List Value,es.length=1/\(∀j u,es[j]?=some u->w.cell? ⟨g,o+i*1+j,none⟩=some u)/\Cells w S (.oslice e) es y) xs λi x hx=>by
   obtain ⟨es,k1,k2,k3⟩:=h4 i x hx;obtain ⟨y,k4,k5⟩:=Cells.told (e:=e) (by simp only [Cells];exact k3);exact ⟨y,k5,es,k1,k2,k4⟩
  refine ⟨os,⟨_,?_,rfl⟩,?_⟩
  ·simp only [Cells];refine ⟨_,len,cap,rfl,by rw [h1,e1],h2, .inr ⟨g,o,rfl,hg,hS,λi y hy=>?_⟩⟩;obtain ⟨hi,_⟩:=Ao.1 hy;obtain ⟨_,es,k1,k2,k3⟩:=e2 i _ y (Ad (by omega)) hy;simp only [Cells] at k3;exact ⟨es,k1,k2,k3⟩
  ·refine List.ext_getElem (by simp [e1]) λi g1 g2=>?_;rw [Ps];exact (e2 i _ _ (Ad g2) (Ad (by omega))).1
theorem vA:Ds Try.prog 133 Zg:=by
 have h:=so;refine ⟨h.enter,λw S π us x r o g vs h1 hg h2 h3 hS h4 h5=>?_⟩;obtain ⟨n,gens,⟨⟩⟩:=x
 match us,h2 with
 |u1::u2::us,h2=>
  obtain ⟨h6,⟨h7,h8⟩,h9⟩:=h2;obtain ⟨os,qT,lE⟩:=Dd.Aro (e:=tI) h8;have lE:os.map (·.getD [])=(gens:List (List Int)):=lE
  have sf:(1<=n/\n<=20)/\List.length gens<=4294967296/\ ∀g∈(gens:List (List Int)),Pm n.toNat g:=Bz λhn=>by
   have:Zg.fn (n,gens,())=none:=Ai hn;rw [this] at h5;cases h5
  have hos:os=gens.map some:=by
   rw [<-lE,List.map_map];refine (List.map_id os).symm.trans (Er λx hx=>?_)
   cases x with
   |some y=>rfl
   |none=>
    have:=sf.2.2 [] (by rw [<-lE];exact Bh.2 ⟨none,hx,rfl⟩);have h1:=this.n1;have h2:=this.1;simp at h2;omega
  have hv:Zg.fn (n,gens,())=some ((n,(ba n gens).1,(ba n gens).2,()),()):=Ac sf;rw [hv] at h5;have h5:=Bi h5;refine h.calls w S π (u1::u2::us) (n,os,()) r o g vs h1 hg ⟨h6,⟨h7,qT⟩,h9⟩ h3 hS h4 ?_;refine (Ac ⟨sf.1,by rw [hos,Ct];exact sf.2.1,λy hy=>?pp⟩).trans (Dz some ?qq)
  case pp=>
   replace hy:y∈os:=hy
   rw [hos] at hy;obtain ⟨g,hg,rfl⟩:=Bh.1 hy;exact ⟨g,rfl,sf.2.2 g hg⟩
  case qq=>subst hos;exact h5
theorem nG {p:PP} (hv:Valid p):(1<=p.1/\p.1<=20)/\List.length p.2.2.1<=4294967296/\ ∀g∈p.2.2.1,Pm p.1.toNat g:=
 ⟨hv.n,by have:=hv.eK;omega,λg hg=>⟨by have:=hv.len g hg;omega,mX (hv.perm g hg)⟩⟩
theorem uQ {n:Nat} {g:List (List Int)} (h: ∀x∈g,Pm n x):PmL n (g.map some):= λo ho=>by
 obtain ⟨x,hx,rfl⟩:=Bh.1 ho;exact ⟨x,rfl,h x hx⟩
theorem zt {p:PP} (hv:Valid p):V p.1.toNat p.1.toNat 0 (ba p.1 p.2.2.1):=by
 have:=hv.n;exact EC (by omega) (by omega) (uQ (nG hv).2.2)
theorem BE (p:PP) (h:Fo p):fnW Hf (look [(23,Je),(133,Zg),(134,kV)]) Tk Try.f121 (p,()) (λ(z:Int)=>z=Xe p):=by
 refine Eq.mp (DP p _) ⟨_,Ac h,?_⟩;show Br (!Da p) _ _;unfold Xe
 cases hv:Da p with
 |false=>exact Br.of (λ_=>rfl) λhh=>by cases hh
 |true=>
  refine Br.of (λhh=>by cases hh) λ_=>?_;have hV:=valid hv;have hn:=hV.n;refine ⟨_,Ac (nG hV),_,Ac ⟨rfl,p.1.toNat,⟨by omega,by omega⟩,(Int.toNat_of_nonneg (by omega:(0:Int)<=p.1)).symm,?vv⟩,?_⟩
  case vv=>
   simp only [Cw,Az];exact zt hV
  simp only [Cw,Az];exact (Ac trivial).symm
theorem qp:Sound Try.prog 121 Tk:=
 Sound.Ho Ez (Bf fm (Ic vA (Bf JL Ce))) mixed Try.func121 (by kernel_rfl) (by kernel_rfl) λx h=>BE x.1 h
theorem eZ {α:Type} [DecidableEq α]: ∀ {l1 l2:List α},l1.Nodup->(∀x∈l1,x∈l2)->l1.length<=l2.length
 | [],_,_,_=>Iz _
 |a::l,l2,hn,hs=>by
  obtain ⟨h1,h2⟩:=Cn.1 hn;have ha:=hs a (by simp)
  have:=eZ (l1:=l) (l2:=l2.erase a) h2 λy hy=>by
   have hya:y≠a:= λe'=>h1 (by rw [<-e'];exact hy);exact (List.mem_erase_of_ne hya).2 (hs y (by simp [hy]))
  rw [List.length_erase_of_mem ha] at this;have:=List.length_pos_of_mem ha;simp only [Aw];omega
def pT (n:Nat) (T:Fw):Nat->Nat->List (List Int)
 |0,_=> [upto n]
 |k+1,l=>(Nq (T.getD l [])).flatMap λy=>(pT n T k (l+1)).map λq=>Am q (((T.getD l []).getD y.toNat none).getD [])
def yD (T:Fw):Nat->Nat->Nat
 |0,_=>1
 |k+1,l=>(Nq (T.getD l [])).length*yD T k (l+1)
theorem HN (n:Nat) (T:Fw): ∀k l,(pT n T k l).length=yD T k l
 |0,_=>rfl
 |k+1,l=>by
  simp only [pT,yD,List.length_flatMap,Ct,HN n T k (l+1)];generalize Nq (T.getD l [])=o
  induction o with
  |nil=>simp
  |cons a o ih=>simp only [Cb,List.sum_cons,ih,Aw,Nat.succ_mul];omega
theorem yu (T:Fw): ∀k j,cv T (j+k)=cv T j*yD T k j
 |0,j=>by simp [yD]
 |k+1,j=>by
  have:=yu T k (j+1);rw [show j+(k+1)=j+1+k by omega,this];simp only [cv,yD];rw [Nat.mul_assoc]
theorem IF (n:Nat) (T:Fw):(pT n T n 0).length=cv T n:=by
 rw [HN,show cv T n=cv T (0+n) by rw [Bl],yu];simp [cv]
theorem ux {n:Nat} (h1:1<=n) (h2:n<=20) {s:Fw×Fw} : ∀(k l:Nat),l+k=n->l4 n k l s-> ∀p,p∈pT n s.2 k l↔Pm n p/\Fx l p/\Of s.2 k l p=true
 |0,l,hk,hc,p=>by
  have hl:l=n:=by omega
  subst hl;simp only [pT,Af];exact ⟨λe=>by subst e;exact ⟨Pm.id h1 h2,λi hi=>ll hi,rfl⟩,λh=>h.2.1.all h.1⟩
 |k+1,l,hk,hc,p=>by
  obtain ⟨c1,c2,c3⟩:=hc;have ih:=ux h1 h2 k (l+1) (by omega) c1
  have eQ:l<n:=by omega
  simp only [pT,Hg,Bh]
  constructor
  ·rintro ⟨y,hy,q,hq,rfl⟩;obtain ⟨yn,rfl,hyn⟩:=Vc.1 hy;obtain ⟨t,ht⟩:=Nw.1 hyn;obtain ⟨t1,t2,t3,t4⟩:=c2.rt _ _ ht;obtain ⟨q1,q2,q3⟩:=(ih q).1 hq;rw [Ab,ht,Dm]
   have hap:ap (Am q t) l=yn:=by rw [Kf q1 t1 eQ,q2 l (by omega),t3]
   refine ⟨q1.comp t1,λi hi=>by rw [Kf q1 t1 (by omega),q2 i (by omega),t2 i hi],?_⟩;simp only [Of];rw [show (Ef (Am q t) (l:Int)).toNat=ap (Am q t) l from rfl,hap,ht];show Of s.2 k (l+1) (Am (Am q t) (Cc t))=true;rw [Ij q1 t1 t1.inv,j5 t1,comp_id q1];exact q3
  ·rintro ⟨p1,p2,p3⟩;simp only [Of] at p3;rw [show (Ef p (l:Int)).toNat=ap p l from rfl] at p3;split at p3
   ·cases p3
   ·rename_i t ht;obtain ⟨t1,t2,t3,t4⟩:=c2.rt _ _ ht;refine ⟨(ap p l:Int),Vc.2 ⟨ap p l,rfl,by rw [ht];simp⟩,Am p (Cc t),(ih _).2 ⟨p1.comp t1.inv,Fx.div p1 t1 p2 t2 eQ t3,p3⟩,?_⟩;rw [Ab,ht,Dm,Ij p1 t1.inv t1,cg t1,comp_id p1]
theorem uy {n:Nat} (h1:1<=n) (h2:n<=20) {s:Fw×Fw} : ∀(k l:Nat),l+k=n->l4 n k l s->(pT n s.2 k l).Nodup
 |0,l,hk,hc=>by simp [pT]
 |k+1,l,hk,hc=>by
  obtain ⟨c1,c2,c3⟩:=hc;have ih:=uy h1 h2 k (l+1) (by omega) c1;have hm:=ux h1 h2 k (l+1) (by omega) c1
  have eQ:l<n:=by omega
  have rep: ∀y∈Nq (s.2.getD l []),∃(yn:Nat) (t:List Int),y=yn/\((s.2.getD l []).getD y.toNat none).getD []=t/\Pm n t/\ap t l=yn:= λy hy=>by
   obtain ⟨yn,rfl,hyn⟩:=Vc.1 hy;obtain ⟨t,ht⟩:=Nw.1 hyn;obtain ⟨t1,t2,t3,t4⟩:=c2.rt _ _ ht;exact ⟨yn,t,rfl,by rw [Ab,ht];rfl,t1,t3⟩
  simp only [pT];refine List.pairwise_flatMap.2 ⟨λy hy=>?_,?_⟩
  ·obtain ⟨yn,t,rfl,e,t1,t3⟩:=rep y hy;rw [e];refine List.pairwise_map.2 (List.Pairwise.imp_of_mem ?_ ih);intro a b ha hb Ii he;have ha:=((hm a).1 ha).1;have hb:=((hm b).1 hb).1;have h3:=Dz (λz=>Am z (Cc t)) he;simp only [Ij ha t1 t1.inv,Ij hb t1 t1.inv,j5 t1,comp_id ha,comp_id hb] at h3;exact Ii h3
  ·refine List.Pairwise.imp_of_mem ?_ ((w8 _).filter _);intro y z hy hz Ii a ha b hb he;obtain ⟨yn,t,rfl,e,t1,t3⟩:=rep y hy;obtain ⟨zn,u,rfl,e',u1,u3⟩:=rep z hz;rw [e] at ha;rw [e'] at hb;obtain ⟨q,hq,rfl⟩:=Bh.1 ha;obtain ⟨q',iE,rfl⟩:=Bh.1 hb;obtain ⟨a1,a2,_⟩:=(hm q).1 hq;obtain ⟨b1,b2,_⟩:=(hm q').1 iE;have h3:=Dz (λz=>ap z l) he;simp only [Kf a1 t1 eQ,Kf b1 u1 eQ,a2 l (by omega),b2 l (by omega),t3,u3] at h3;exact Ii (by rw [h3])
theorem pw {g:List (List Int)} (Q:List Int->Prop) {x:List Int} {d:Int} : ∀(ls:List Int) (L:List (List Int)) (D:List Int),(∀l∈ls,Q (Am x (Ax g l)))->(∀y∈L,Q y)->
  (∀y∈(Jm g x d ls L D).1,Q y)/\(∀y∈L,y∈(Jm g x d ls L D).1)/\((Jm g x d ls L D).2.2=true-> ∀l∈ls,Am x (Ax g l)∈(Jm g x d ls L D).1)/\
   ((Jm g x d ls L D).2.2=false->(Jm g x d ls L D).1.length=3000/\ ∃z,Q z/\z∉(Jm g x d ls L D).1)
 | [],L,D,_,h=>⟨h,λ_ h=>h,(λ_ l hl=>by cases hl),(λe=>by cases e)⟩
 |l::ls,L,D,hq,h=>by
  have iE: ∀l∈ls,Q (Am x (Ax g l)):= λl' h'=>hq l' (At _ h');simp only [Jm];split
  ·rename_i hm;obtain ⟨a1,a2,a3,a4⟩:=pw Q (d:=d) ls L D iE h;refine ⟨a1,a2,λe l' Mr=>?_,a4⟩;rcases Bd.1 Mr with rfl|Mr
   ·exact a2 _ hm
   ·exact a3 e l' Mr
  ·rename_i hn;split
   ·rename_i hf;exact ⟨h,λ_ h=>h,(λe=>by cases e),λ_=>⟨hf,_,hq l (by simp),hn⟩⟩
   ·obtain ⟨a1,a2,a3,a4⟩:=pw Q (d:=d) ls (L++ [Am x (Ax g l)]) (D++ [d+1]) iE λy hy=>by
     rcases Be.1 hy with hy|hy
     ·exact h y hy
     ·rw [Af.1 hy];exact hq l (by simp)
    refine ⟨a1,λy hy=>a2 y (Bo _ hy),λe l' Mr=>?_,a4⟩;rcases Bd.1 Mr with rfl|Mr
    ·exact a2 _ (Cm _ (by simp))
    ·exact a3 e l' Mr
theorem xI {p:PP} (hV:Valid p) {m:Nat} {ls:List Int} (hl: ∀l∈ls,Ie (List.length p.2.2.1) l) (Q:List Int->Prop) (hQ: ∀x,Q x-> ∀l∈ls,Q (Am x (Ax p.2.2.1 l))):
  ∀(f k:Nat) (L:List (List Int)) (D:List Int),3001<=f+k->k<=L.length->Xy p m L D->(∀y∈L,Q y)->(∀(j:Nat) (h:j<L.length),j<k-> ∀l∈ls,Am L[j] (Ax p.2.2.1 l)∈L)->
  (∀y∈(Lt p.2.2.1 ls f k L D).1,Q y)/\((Lt p.2.2.1 ls f k L D).2.2=true-> ∀x∈(Lt p.2.2.1 ls f k L D).1,∀l∈ls,Am x (Ax p.2.2.1 l)∈(Lt p.2.2.1 ls f k L D).1)/\
   ((Lt p.2.2.1 ls f k L D).2.2=false->(Lt p.2.2.1 ls f k L D).1.length=3000/\ ∃z,Q z/\z∉(Lt p.2.2.1 ls f k L D).1)
 |0,k,L,D,hf,hkL,hb,hq,hc=>by
  have:=hb.ok.eK;omega
 |f+1,k,L,D,hf,hkL,hb,hq,hc=>by
  simp only [Lt];split
  ·rename_i hk
   have UU:k<D.length:=by rw [hb.len];exact hk
   have hd:=hb.dep k UU
   have e:D.getD k 0=D[k]:=by rw [Al,Ad UU];rfl
   rw [Wx hk,e];obtain ⟨k1,⟨A,k2⟩,_⟩:=nE hV (hb.row _ (Ah hk)) (hb.ok.len _ (Ah hk)) (d:=D[k]) ls L D hl hb ⟨by omega,by omega⟩;obtain ⟨a1,a2,a3,a4⟩:=pw (g:=p.2.2.1) Q (x:=L[k]) (d:=D[k]) ls L D (hQ _ (hq _ (Ah hk))) hq;split
   ·rename_i L' D' he;rw [he] at k1 k2 a1 a2 a3 a4;have k2:L'=L++A:=k2;refine xI hV hl Q hQ f (k+1) L' D' (by omega) (by rw [k2,Av];omega) k1 a1 λj hj hjk l Mr=>?_
    by_cases e':j<k
    ·have e2:L'[j]=L[j]:=by simp only [k2];rw [Xr (by omega)]
     rw [e2];exact a2 _ (hc j (by omega) e' l Mr)
    ·have:j=k:=by omega
     subst this
     have e2:L'[j]=L[j]:=by simp only [k2];rw [Xr (by omega)]
     rw [e2];exact a3 rfl l Mr
   ·rename_i L' D' he;rw [he] at a1 a4;exact ⟨a1,(λe=>by cases e),λ_=>a4 rfl⟩
  ·rename_i hk;refine ⟨hq,λ_ x hx l Mr=>?_,λe=>by cases e⟩;obtain ⟨j,hj,rfl⟩:=Bg.1 hx;have hj:j<L.length:=hj;exact hc j hj (by omega) l Mr
theorem Af0 {p:PP} (hv:Da p=true) {s:List Int} (hs:s.length<=20) (hr: ∀y∈s,0<=y/\y<p.1) (Q:List Int->Prop) (hQs:Q s) (hQ: ∀x,Q x-> ∀l∈Aq p.2.2.1.length,Q (Am x (Ax p.2.2.1 l))):
  (∀y∈(Jn p.2.2.1 s).1,Q y)/\((Jn p.2.2.1 s).2.2=true-> ∀x∈(Jn p.2.2.1 s).1,∀l∈Aq p.2.2.1.length,Am x (Ax p.2.2.1 l)∈(Jn p.2.2.1 s).1)/\
   ((Jn p.2.2.1 s).2.2=false->(Jn p.2.2.1 s).1.length=3000/\ ∃z,Q z/\z∉(Jn p.2.2.1 s).1):=
 xI (valid hv) (λ_ hl=>Jw hl) Q hQ 3001 0 [s] [0] (by omega) (Iz _) (kA hs hr) (λy hy=>by rw [Af.1 hy];exact hQs) λj _ hj=>absurd hj (Ea _)
theorem fj {g:List (List Int)} {x:List Int} :some x∈g.map some↔x∈g:=by simp
theorem NV {n:Nat} {g:List (List Int)} {x:List Int} (h:Gn n (g.map some) x) {l:Int} (hl:l∈Aq g.length):Gn n (g.map some) (Am x (Ax g l)):=by
 obtain ⟨k,hk,rfl|rfl⟩:=Xc (Jw hl)
 ·rw [Vn hk];exact .mul h (fj.2 (Ah hk))
 ·rw [Vm hk];exact .inv h (fj.2 (Ah hk))
theorem Wa {n k:Nat} (hk:k<n):(k:Int)+1∈Aq n/\ -((k:Int)+1)∈Aq n:=by
 unfold Aq;exact ⟨Hg.2 ⟨k,Ev.2 hk,by simp⟩,Hg.2 ⟨k,Ev.2 hk,by simp⟩⟩
theorem MU {n:Nat} {g:List (List Int)} {L:List (List Int)} (h0:upto n∈L) (hc: ∀x∈L,∀l∈Aq g.length,Am x (Ax g l)∈L) {p:List Int} (hp:Gn n (g.map some) p):p∈L:=by
 induction hp with
 |id=>exact h0
 |mul _ hg ih=>
  obtain ⟨k,hk,rfl⟩:=Bg.1 (fj.1 hg);have:=hc _ ih _ (Wa hk).1
  rwa [Vn hk] at this
 |inv _ hg ih=>
  obtain ⟨k,hk,rfl⟩:=Bg.1 (fj.1 hg);have:=hc _ ih _ (Wa hk).2
  rwa [Vm hk] at this
structure Reach (p:PP) (L:List (List Int)) (D:List Int) (whole:Bool):Prop where
 ok:Xy p p.1.toNat L D
 nodup:L.Nodup
 first: ∃A,L=upto p.1.toNat::A
 gen: ∀x∈L,Gn p.1.toNat (p.2.2.1.map some) x
 all:whole=true-> ∀x,Gn p.1.toNat (p.2.2.1.map some) x->x∈L
 big:whole=false->L.length=3000/\ ∃z,Gn p.1.toNat (p.2.2.1.map some) z/\z∉L
theorem Gp.nodup {m:Nat} {L:List (List Int)} {La:List Int} (h:Gp m L La):L.Nodup:=
 Fu.2 λi j hi hj fU e=>by have:=h.inj hi hj e;omega
theorem cy {p:PP} (hv:Da p=true):Reach p (Jn p.2.2.1 (upto p.1.toNat)).1 (Jn p.2.2.1 (upto p.1.toNat)).2.1 (Jn p.2.2.1 (upto p.1.toNat)).2.2:=by
 have hV:=valid hv;have hn:=hV.n;have hl:(upto p.1.toNat).length=p.1.toNat:=Uv _
 have hr: ∀y∈upto p.1.toNat,0<=y/\y<p.1:= λy hy=>by have:=Nd.1 hy;omega
 obtain ⟨b1,b2⟩:=ZQ hv (by omega) hr;rw [hl] at b1;obtain ⟨a1,a2,a3⟩:=Af0 hv (by omega) hr (λx=>Gn p.1.toNat (p.2.2.1.map some) x) .id λx hx l hl=>NV hx hl;exact ⟨b1,b1.ok.nodup,b2,a1,λhw x hx=>MU (by obtain ⟨A,e⟩:=b2;rw [e];simp) (a2 hw) hx,a3⟩
theorem dr {p:PP} (hV:Valid p) {x:List Int} :x∈pT p.1.toNat (ba p.1 p.2.2.1).2 p.1.toNat 0↔Gn p.1.toNat (p.2.2.1.map some) x:=by
 have hn:=hV.n;have hg:=uQ (nG hV).2.2
 have hS:RE p.1.toNat λg=>some g∈p.2.2.1.map some:=⟨⟨by omega,by omega⟩,λg fz=>by obtain ⟨g',e,h⟩:=hg _ fz;cases e;exact h⟩
 refine (ux (by omega) (by omega) _ 0 (by omega) (zt hV).2.2.1 x).trans ⟨λh=>(tV (by omega) (by omega) hg h.1).1 h.2.2,λh=>?_⟩;have hp:=eo.pm hS h;exact ⟨hp,λi hi=>absurd hi (Ea _),(tV (by omega) (by omega) hg hp).2 h⟩
theorem wR {p:PP} (hV:Valid p):(pT p.1.toNat (ba p.1 p.2.2.1).2 p.1.toNat 0).Nodup:=by
 have hn:=hV.n;exact uy (by omega) (by omega) _ 0 (by omega) (zt hV).2.2.1
theorem count_eq {p:PP} (hv:Da p=true):Xe p=((pT p.1.toNat (ba p.1 p.2.2.1).2 p.1.toNat 0).length:Int):=by
 unfold Xe;rw [Ac hv,IF]
theorem FB {p:PP} (hv:Da p=true):(Jn p.2.2.1 (upto p.1.toNat)).2.2=decide (1<=Xe p/\Xe p<=3000):=by
 have hV:=valid hv;have h:=cy hv;rw [count_eq hv];have sd:=wR hV;have h1:=eZ h.nodup λx hx=>(dr hV).2 (h.gen x hx);obtain ⟨A,hA⟩:=h.first
 have mH:1<=(Jn p.2.2.1 (upto p.1.toNat)).1.length:=by rw [hA];simp
 cases hw:(Jn p.2.2.1 (upto p.1.toNat)).2.2 with
 |true=>
  have h2:=eZ sd λx hx=>h.all hw x ((dr hV).1 hx);have h3:=h.ok.ok.eK;exact (Ci ⟨by omega,by omega⟩).symm
 |false=>
  obtain ⟨h2,z,h3,h4⟩:=h.big hw
  have h5:=eZ (l1:=z::(Jn p.2.2.1 (upto p.1.toNat)).1) (Cn.2 ⟨h4,h.nodup⟩) λx hx=>by
   rcases Bd.1 hx with rfl|hx
   ·exact (dr hV).2 h3
   ·exact (dr hV).2 (h.gen x hx)
  simp only [Aw] at h5;exact (Ey (by omega)).symm
def AM (g:List (List Int)) (s:List Int):List (List Int):=(Aq g.length).map λl=>Am s (Ax g l)
noncomputable abbrev kU:Spec:=Ho (.pair Gi (.pair tL .unit)) kh false true (λx=>Da x.1=true/\List.length x.2.1<=20/\ ∀y∈x.2.1,0<=y/\y<x.1.1) (λx=>AM x.1.2.2.1 x.2.1)
abbrev EX:Type:=List (List Int)×List Int×List Int×List Int
def cT (g:List (List Int)) (k:Int) (x:List Int) (d:Int):List Int->EX->List Int->EX×List Int
 | [],s,row=>(s,row)
 |l::ls,s,row=>if Am x (Ax g l)∈s.1 then cT g k x d ls s (row++ [(s.1.idxOf (Am x (Ax g l)):Int)])
  else cT g k x d ls (s.1++ [Am x (Ax g l)],s.2.1++ [d+1],s.2.2.1++ [k],s.2.2.2++ [l]) (row++ [(s.1.length:Int)])
def dQ (g:List (List Int)) (ls:List Int):Nat->Nat->EX->List (List Int)->EX×List (List Int)
 |0,_,s,N=>(s,N)
 |f+1,k,s,N=>if k<s.1.length then dQ g ls f (k+1) (cT g (k:Int) (s.1.getD k []) (s.2.1.getD k 0) ls s []).1 (N++ [(cT g (k:Int) (s.1.getD k []) (s.2.1.getD k 0) ls s []).2]) else (s,N)
def jz (key:ByteArray):List (List Int)->Nat->Option Int
 | [],_=>none
 |x::r,i=>if Tq x=key then some (i:Int) else jz key r (i+1)
def a5 (L:List (List Int)):ByteArray->Option Int:= λkey=>jz key L 0
def Aod (p:PP) (r:EX×List (List Int)):kf.den:=(p,r.1.1,r.1.2.1,a5 r.1.1,r.1.2.2.1,r.1.2.2.2,r.2,())
def Gr (p:PP):kf.den:=Aod p (dQ p.2.2.1 (Aq p.2.2.1.length) 3001 0 ([upto p.1.toNat],[0],[0],[0]) [])
noncomputable def Dc (p:PP):Bool:=Da p&&(Jn p.2.2.1 (upto p.1.toNat)).2.2
noncomputable abbrev Rf:Spec:=Ho (.pair Gi .unit) (.pair (.optr kf) (.pair .bool .unit)) true false (λx=>Fo x.1) (λx=>if Dc x.1=true then (some (Gr x.1),true,()) else (none,false,()))
abbrev JX:Type:=Int×Int×ByteArray×List (List Int)×List (List Int)×PUnit
theorem Ahc (p:Int×ByteArray×List (List Int)×Unit) (s:List Int) (P:List (List Int)->Prop):(∃(y3:List Int),Ki.fn ((↑p.2.2.1.length:Int),())=some y3/\0=0/\0=([]:List Int).length/\Dh (λ(v4:JX) (k5:JX->Prop)=>Br (decide (v4.1<(↑y3.length:Int))) (∃(y6:Int),idx y3 v4.1=some y6/\ ∃(y7:List Int),Zf.fn (v4.2.2.2.1,y6,())=some y7/\ ∃(y8:List Int),bF.fn (s,y7,())=some y8/\0=0/\v4.2.2.2.2.1.length=v4.2.2.2.2.1.length/\v4.2.2.2.2.1.length+(List.take 1 (List.drop 0 [y8])).length<=Db/\0=0/\(v4.2.2.2.2.1++List.take 1 (List.drop 0 [y8])).length=(v4.2.2.2.2.1++List.take 1 (List.drop 0 [y8])).length/\k5 (IntKind.i64.wrap (v4.1+(1:Int)),v4.2.1,v4.2.2.1,v4.2.2.2.1,v4.2.2.2.2.1++List.take 1 (List.drop 0 [y8]),())) (P (List.take v4.2.2.2.2.1.length (List.drop 0 v4.2.2.2.2.1)))) ((0:Int),p.1,p.2.1,p.2.2.1,[],PUnit.unit))=fnW Hf (look [(26,Ki),(87,Zf),(86,bF)]) kU Try.f122 (p,s,()) P:=by kernel_rfl
theorem Agj (p:PP) (s:List Int) (h:Da p=true/\s.length<=20/\ ∀y∈s,0<=y/\y<p.1):fnW Hf (look [(26,Ki),(87,Zf),(86,bF)]) kU Try.f122 (p,s,()) (λ(z:List (List Int))=>z=AM p.2.2.1 s):=by
 obtain ⟨hv,hs,hr⟩:=h;have hV:=valid hv;have hf:=hV.eK;refine Eq.mp (Ahc p s _) ⟨Aq p.2.2.1.length,Ac ⟨Int.natCast_nonneg _,by show ((p.2.2.1.length:Nat):Int)<=8;omega⟩,rfl,rfl,?_⟩;have hL:=Ov p.2.2.1.length;refine Bt (Aq p.2.2.1.length).length (λv=>v.1) (λj v=>v=((j:Int),p.1,p.2.1,p.2.2.1,((Aq p.2.2.1.length).take j).map (λl=>Am s (Ax p.2.2.1 l)),())) rfl (by simp) ?_;rintro j v K hj hi rfl hK;dsimp only;refine Br.dec (λhl=>?_) λhl=>?_
 ·have hl:j<(Aq p.2.2.1.length).length:=by omega
  have YS:=Jw (Ah hl);obtain ⟨h1,h2⟩:=pO hV YS;refine ⟨_,Bu hl,_,Ac ⟨YS,hf.2,hV.perm⟩,_,Ac ⟨hs,λy hy=>by have:=hr y hy;show 0<=y/\y<((Ax p.2.2.1 (Aq p.2.2.1.length)[j]).length:Int);omega⟩,rfl,rfl,?_,rfl,rfl,?_⟩
  ·show (((Aq p.2.2.1.length).take j).map _).length+1<=4294967296;rw [Ct,Dx];omega
  ·rw [Bm (by omega)];refine hK hl _ rfl ?_
   have e:(Aq p.2.2.1.length).take (j+1)=(Aq p.2.2.1.length).take j++ [(Aq p.2.2.1.length)[j]]:=by
    rw [Iu,Ad hl,Ui]
   rw [e,Hj];rfl
 ·have:j=(Aq p.2.2.1.length).length:=by omega
  subst this;rw [Cw,Az,Az];rfl
theorem JK:Sound Try.prog 122 kU:=
 Sound.Ho Ez (Bf aa (Bf vz (Bf Xl Ce))) mixed Try.func122 (by kernel_rfl) (by kernel_rfl) λx h=>Agj x.1 x.2.1 h
theorem Ju {α:Type} {xs ys:List α} {i:Nat} {d:α} (h:i<xs.length):(xs++ys).getD i d=xs.getD i d:=by
 rw [Al,Al,Au h]
theorem kD {α:Type} {xs:List α} {x d:α} :(xs++ [x]).getD xs.length d=x:=by
 rw [Al,As (Ap _),Nat.sub_self];rfl
theorem Bw {α:Type} {xs:List α} {i:Nat} {d:α} (h:i<xs.length):xs.getD i d=xs[i]:=by
 rw [Al,Ad h];rfl
structure Lv (g:List (List Int)) (ls:List Int) (k:Nat) (L:List (List Int)) (D:List Int):Prop where
 len:D.length=L.length
 pos:0<L.length
 mono: ∀i j,i<=j->j<L.length->D.getD i 0<=D.getD j 0
 VQ:k<L.length-> ∀j,j<L.length->D.getD j 0<=D.getD k 0+1
 par: ∀j,0<j->j<L.length-> ∃i l,i<j/\l∈ls/\L.getD j []=Am (L.getD i []) (Ax g l)/\D.getD j 0=D.getD i 0+1
 zero:D.getD 0 0=0
theorem Lv.add {g:List (List Int)} {ls:List Int} {k:Nat} {L:List (List Int)} {D:List Int} (h:Lv g ls k L D) (hk:k<L.length) {l:Int} (hl:l∈ls):
  Lv g ls k (L++ [Am (L.getD k []) (Ax g l)]) (D++ [D.getD k 0+1]):=by
 have hlen:=h.len;have hD: ∀i,i<L.length->(D++ [D.getD k 0+1]).getD i 0=D.getD i 0:= λi hi=>Ju (by omega)
 have hDl:(D++ [D.getD k 0+1]).getD L.length 0=D.getD k 0+1:=by rw [<-hlen];exact kD
 refine ⟨by simp [hlen],by simp,λi j fU hj=>?_,λ_ j hj=>?_,λj h0 hj=>?_,?_⟩
 ·rw [Av,Bp] at hj
  by_cases e:j=L.length
  ·subst e;rw [hDl]
   by_cases e':i=L.length
   ·subst e';rw [hDl];exact Ku _
   ·rw [hD i (by omega)];exact h.VQ hk i (by omega)
  ·rw [hD i (by omega),hD j (by omega)];exact h.mono i j fU (by omega)
 ·rw [Av,Bp] at hj;rw [hD k hk]
  by_cases e:j=L.length
  ·subst e;rw [hDl];exact Ku _
  ·rw [hD j (by omega)];exact h.VQ hk j (by omega)
 ·rw [Av,Bp] at hj
  by_cases e:j=L.length
  ·subst e;exact ⟨k,l,hk,hl,by rw [kD,Ju hk],by rw [hDl,hD k hk]⟩
  ·obtain ⟨i,l',h1,h2,h3,h4⟩:=h.par j h0 (by omega);exact ⟨i,l',h1,h2,by rw [Ju (by omega),Ju (by omega)];exact h3,by rw [hD j (by omega),hD i (by omega)];exact h4⟩
 ·rw [hD 0 h.pos];exact h.zero
theorem tq {g:List (List Int)} {ls:List Int} {k:Nat} : ∀(SW:List Int) (L:List (List Int)) (D:List Int),(∀l∈SW,l∈ls)->Lv g ls k L D->k<L.length-> ∀ {x:List Int} {d:Int},x=L.getD k []->d=D.getD k 0->
  Lv g ls k (Jm g x d SW L D).1 (Jm g x d SW L D).2.1/\(∃A,(Jm g x d SW L D).1=L++A)/\(∃A,(Jm g x d SW L D).2.1=D++A)/\
  ((Jm g x d SW L D).2.2=true-> ∀l∈SW,∃j,j<(Jm g x d SW L D).1.length/\(Jm g x d SW L D).1.getD j []=Am x (Ax g l)/\(Jm g x d SW L D).2.1.getD j 0<=d+1)
 | [],L,D,_,h,_,x,d,_,_=>⟨h,⟨[],by simp [Jm]⟩,⟨[],by simp [Jm]⟩,λ_ l hl=>by cases hl⟩
 |l::SW,L,D,hs,h,hk,x,d,hx,hd=>by
  have DV: ∀l∈SW,l∈ls:= λl' h'=>hs l' (At _ h');have hlen:=h.len;simp only [Jm];split
  ·rename_i hm;obtain ⟨a1,⟨A,a2⟩,⟨A',a3⟩,a4⟩:=tq SW L D DV h hk hx hd;refine ⟨a1,⟨A,a2⟩,⟨A',a3⟩,λe l' Mr=>?_⟩;rcases Bd.1 Mr with rfl|Mr
   ·obtain ⟨j,hj,hjx⟩:=Bg.1 hm;refine ⟨j,by rw [a2,Av];omega,by rw [a2,Ju hj,Bw hj];exact hjx,?_⟩;rw [a3,Ju (by omega),hd];exact h.VQ hk j hj
   ·exact a4 e l' Mr
  ·split
   ·exact ⟨h,⟨[],by simp⟩,⟨[],by simp⟩,λe=>by cases e⟩
   ·have Aa8:=h.add hk (hs l (by simp));rw [<-hx,<-hd] at Aa8;obtain ⟨a1,⟨A,a2⟩,⟨A',a3⟩,a4⟩:=tq SW (L++ [Am x (Ax g l)]) (D++ [d+1]) DV Aa8 (by rw [Av];omega) (x:=x) (d:=d) (by rw [Ju hk];exact hx) (by rw [Ju (by omega)];exact hd);refine ⟨a1,⟨_::A,by rw [a2,Bn];rfl⟩,⟨_::A',by rw [a3,Bn];rfl⟩,λe l' Mr=>?_⟩;rcases Bd.1 Mr with rfl|Mr
    ·refine ⟨L.length,by rw [a2,Av,Av];simp only [Bp];omega,?_,?_⟩
     ·rw [a2,Ju (by simp),kD]
     ·rw [a3,Ju (by simp [hlen]),<-hlen,kD];exact Ku _
    ·exact a4 e l' Mr
structure sT (g:List (List Int)) (ls:List Int) (L:List (List Int)) (D:List Int):Prop where
 len:D.length=L.length
 pos:0<L.length
 zero:D.getD 0 0=0
 par: ∀j,0<j->j<L.length-> ∃i l,i<j/\l∈ls/\L.getD j []=Am (L.getD i []) (Ax g l)/\D.getD j 0=D.getD i 0+1
 step: ∀i,i<L.length-> ∀l∈ls,∃j,j<L.length/\L.getD j []=Am (L.getD i []) (Ax g l)/\D.getD j 0<=D.getD i 0+1
theorem EO {g:List (List Int)} {ls:List Int} : ∀(f k:Nat) (L:List (List Int)) (D:List Int),3001<=f+k->Lv g ls k L D->k<=L.length->
  (∀i,i<k-> ∀l∈ls,∃j,j<L.length/\L.getD j []=Am (L.getD i []) (Ax g l)/\D.getD j 0<=D.getD i 0+1)->
  (Lt g ls f k L D).2.2=true->(Lt g ls f k L D).1.length<=3000->sT g ls (Lt g ls f k L D).1 (Lt g ls f k L D).2.1
 |0,k,L,D,hf,h,hkL,hc,hw,h3=>by
  simp only [Lt] at h3⊢;omega
 |f+1,k,L,D,hf,h,hkL,hc,hw,h3=>by
  simp only [Lt] at hw h3⊢;split
  ·rename_i hk;rw [Ac hk] at hw h3;obtain ⟨a1,⟨A,a2⟩,⟨A',a3⟩,a4⟩:=tq (x:=L.getD k []) (d:=D.getD k 0) ls L D (λ_ h=>h) h hk rfl rfl;have hlen:=h.len;split
   ·rename_i L' D' he;rw [he] at a1 a2 a3 a4;simp only [he] at hw h3;have a2:L'=L++A:=a2;have a3:D'=D++A':=a3;have a4:=a4 rfl;dsimp only at a4
    have hLl:L.length<=L'.length:=by rw [a2,Av];omega
    refine EO f (k+1) L' D' (by omega) ⟨a1.len,a1.pos,a1.mono,λhk1 j hj=>?_,a1.par,a1.zero⟩ (by omega) (λi hi l hl=>?_) hw h3
    ·have h1:D'.getD j 0<=D'.getD k 0+1:=a1.VQ (show k<L'.length by omega) j hj;have h2:D'.getD k 0<=D'.getD (k+1) 0:=a1.mono k (k+1) (by omega) hk1;omega
    ·by_cases e:i=k
     ·subst e;obtain ⟨j,b1,b2,b3⟩:=a4 l hl;refine ⟨j,b1,?_,?_⟩
      ·rw [b2,a2,Ju (by omega)]
      ·rw [show D'.getD i 0=D.getD i 0 by rw [a3,Ju (by omega)]];exact b3
     ·obtain ⟨j,b1,b2,b3⟩:=hc i (by omega) l hl;refine ⟨j,by omega,?_,?_⟩
      ·rw [a2,Ju (by omega),Ju (by omega)];exact b2
      ·rw [a3,Ju (by omega),Ju (by omega)];exact b3
   ·rename_i L' D' he;simp only [he] at hw;cases hw
  ·rename_i hk;exact ⟨h.len,h.pos,h.zero,h.par,λi hi=>hc i (by have hi:i<L.length:=hi;omega)⟩
theorem tt {p:PP} {s:List Int} (hv:Da p=true) (hs:s.length<=20) (hr: ∀y∈s,0<=y/\y<p.1) (hw:(Jn p.2.2.1 s).2.2=true):
  sT p.2.2.1 (Aq p.2.2.1.length) (Jn p.2.2.1 s).1 (Jn p.2.2.1 s).2.1:=by
 have hb:=(ZQ hv hs hr).1.ok.eK;refine EO 3001 0 [s] [0] (by omega) ⟨rfl,by simp,λi j fU hj=>?_,λ_ j hj=>?_,λj h0 hj=>?_,rfl⟩ (Iz _) (λi hi=>absurd hi (Ea _)) hw hb
 ·have:j=0:=by simpa using hj
  subst this
  have:i=0:=by omega
  subst this;exact Ku _
 ·have:j=0:=by simpa using hj
  subst this;simp
 ·have:j=0:=by simpa using hj
  omega
theorem re {p:PP} (hV:Valid p) {x:List Int} (hx: ∀y∈x,0<=y/\y<p.1) {l:Int} (hl:l∈Aq p.2.2.1.length):
  -l∈Aq p.2.2.1.length/\Am (Am x (Ax p.2.2.1 l)) (Ax p.2.2.1 (-l))=x:=by
 obtain ⟨k,hk,Ml⟩:=Xc (Jw hl);have hg:=mX (hV.perm _ (Ah hk));have hgl:=hV.len _ (Ah hk);have hn:=hV.n
 have hp:Pm p.1.toNat (p.2.2.1[k]):=⟨by omega,hg⟩
 have key: ∀q r:List Int,Pm p.1.toNat q->Pm p.1.toNat r->Am q r=upto p.1.toNat->Am (Am x q) r=x:= λq r hq hr he=>by
  refine List.ext_getElem (by rw [Vu,Vu]) λi h1 h2=>?_;have hxi:=hx _ (Ah h2);obtain ⟨xi,LH⟩:=Ba hxi.1
  have DW:xi<p.1.toNat:=by omega
  have e1:ap (Am q r) xi=ap (upto p.1.toNat) xi:=Dz (λz=>ap z xi) he;rw [Kf hq hr DW,ll DW] at e1;simp only [Am,Ps,LH];have h3:=(hq.Sb DW).1;have h4:=(hr.Sb (hq.lt DW)).1;rw [h3,h4,e1]
 rcases Ml with rfl|rfl
 ·refine ⟨(Wa hk).2,?_⟩;rw [Vn hk,Vm hk];exact key _ _ hp hp.inv (j5 hp)
 ·refine ⟨by rw [Int.neg_neg];exact (Wa hk).1,?_⟩;rw [Int.neg_neg,Vn hk,Vm hk];exact key _ _ hp.inv hp (cg hp)
structure Kp (g:List (List Int)) (ls:List Int) (L:List (List Int)) (S:List Int->Prop) (d:List Int->Int):Prop where
 nn: ∀x∈L,0<=d x
 zero: ∀x∈L,d x=0↔S x
 step: ∀x∈L,∀l∈ls,d (Am x (Ax g l))<=d x+1
 down: ∀x∈L,0<d x-> ∃l∈ls,d (Am x (Ax g l))=d x-1
structure mf (g:List (List Int)) (ls:List Int) (L:List (List Int)):Prop where
 next: ∀x∈L,∀l∈ls,Am x (Ax g l)∈L
 back: ∀x∈L,∀l∈ls,-l∈ls/\Am (Am x (Ax g l)) (Ax g (-l))=x
theorem Kp.le {g:List (List Int)} {ls:List Int} {L:List (List Int)} {S:List Int->Prop} {d d':List Int->Int} (hc:mf g ls L) (h:Kp g ls L S d) (h':Kp g ls L S d'):
  ∀(n:Nat) (x:List Int),x∈L->d' x=n->d x<=n
 |0,x,hx,e=>by
  have:=(h.zero x hx).2 ((h'.zero x hx).1 e);omega
 |n+1,x,hx,e=>by
  obtain ⟨l,hl,hd⟩:=h'.down x hx (by omega);obtain ⟨b1,b2⟩:=hc.back x hx l hl;have h1:=Kp.le hc h h' n _ (hc.next x hx l hl) (by omega);have h2:=h.step _ (hc.next x hx l hl) _ b1;rw [b2] at h2;omega
theorem Kp.eq {g:List (List Int)} {ls:List Int} {L:List (List Int)} {S:List Int->Prop} {d d':List Int->Int} (hc:mf g ls L) (h:Kp g ls L S d) (h':Kp g ls L S d') {x:List Int} (hx:x∈L):d x=d' x:=by
 have n1:=h.nn x hx;have n2:=h'.nn x hx;have h1:=Kp.le hc h h' (d' x).toNat x hx (by omega);have h2:=Kp.le hc h' h (d x).toNat x hx (by omega);omega
theorem Kp.VQ {g:List (List Int)} {ls:List Int} {L:List (List Int)} {S:List Int->Prop} {d:List Int->Int} (hc:mf g ls L) (h:Kp g ls L S d) {x:List Int} (hx:x∈L) {l:Int} (hl:l∈ls):
  d x-1<=d (Am x (Ax g l)):=by
 obtain ⟨b1,b2⟩:=hc.back x hx l hl;have h2:=h.step _ (hc.next x hx l hl) _ b1;rw [b2] at h2;omega
def Jc (L:List (List Int)) (D:List Int) (x:List Int):Int:=if x∈L then D.getD (L.idxOf x) 0 else-1
theorem Qe {L:List (List Int)} (hn:L.Nodup) {j:Nat} (hj:j<L.length):L.idxOf (L.getD j [])=j:=by
 rw [Bw hj];exact hn.idxOf_getElem j hj
theorem Oc {L:List (List Int)} {j:Nat} (hj:j<L.length):L.getD j []∈L:=by rw [Bw hj];exact Ah hj
theorem mz {L:List (List Int)} {D:List Int} (hn:L.Nodup) {j:Nat} (hj:j<L.length):Jc L D (L.getD j [])=D.getD j 0:=by
 unfold Jc;rw [Ac (Oc hj),Qe hn hj]
theorem wP {p:PP} (hV:Valid p) {m:Nat} {L:List (List Int)} {D:List Int} (hb:Xy p m L D) (h:sT p.2.2.1 (Aq p.2.2.1.length) L D):mf p.2.2.1 (Aq p.2.2.1.length) L where
 next x hx l hl:=by
  obtain ⟨i,hi,rfl⟩:=Bg.1 hx;obtain ⟨j,h1,h2,_⟩:=h.step i hi l hl;rw [Bw hi] at h2;rw [<-h2];exact Oc h1
 back x hx l hl:=re hV (hb.row x hx) hl
theorem GZ {p:PP} (hV:Valid p) {m:Nat} {L:List (List Int)} {D:List Int} (hb:Xy p m L D) (h:sT p.2.2.1 (Aq p.2.2.1.length) L D):
  Kp p.2.2.1 (Aq p.2.2.1.length) L (λx=>x=L.getD 0 []) (Jc L D) where
 nn x hx:=by
  obtain ⟨i,hi,rfl⟩:=Bg.1 hx;rw [<-Bw (d:= []) hi,mz hb.ok.nodup hi];have:=hb.dep i (by rw [hb.len];exact hi);rw [Bw (by rw [hb.len];exact hi)];omega
 zero x hx:=by
  obtain ⟨i,hi,rfl⟩:=Bg.1 hx;rw [<-Bw (d:= []) hi,mz hb.ok.nodup hi]
  constructor
  ·intro h0
   by_cases e:i=0
   ·rw [e]
   ·obtain ⟨k,l,h1,_,_,h4⟩:=h.par i (by omega) hi
    have hk:k<D.length:=by rw [hb.len];omega
    have:=hb.dep k hk;rw [<-Bw (d:=0) hk] at this;omega
  ·intro e
   have:i=0:=by
    have h1:=Qe hb.ok.nodup hi;have h2:=Qe hb.ok.nodup h.pos;rw [e,h2] at h1;exact h1.symm
   rw [this];exact h.zero
 step x hx l hl:=by
  obtain ⟨i,hi,rfl⟩:=Bg.1 hx;rw [<-Bw (d:= []) hi,mz hb.ok.nodup hi];obtain ⟨j,h1,h2,h3⟩:=h.step i hi l hl;rw [<-h2,mz hb.ok.nodup h1];exact h3
 down x hx h0:=by
  obtain ⟨i,hi,rfl⟩:=Bg.1 hx;rw [<-Bw (d:= []) hi,mz hb.ok.nodup hi] at h0⊢
  have hi0:0<i:=by
   rcases Uh i with e|e
   ·subst e;rw [h.zero] at h0;omega
   ·exact e
  obtain ⟨k,l,h1,h2,h3,h4⟩:=h.par i hi0 hi
  have hk:k<L.length:=by omega
  obtain ⟨b1,b2⟩:=re hV (hb.row _ (Oc hk)) h2;refine ⟨-l,b1,?_⟩;rw [h3,b2,mz hb.ok.nodup hk];omega
def Xu (x:Int):List Int->List Int×List Int->List Int×List Int
 | [],s=>s
 |t::r,s=>if s.1.getD t.toNat 0<0 then Xu x r (s.1.set t.toNat (s.1.getD x.toNat 0+1),s.2++ [t]) else Xu x r s
def s5 (N:Nat->List Int):Nat->List Int->List Int->List Int
 |0,out,_=>out
 |_+1,out,[]=>out
 |f+1,out,x::q=>s5 N f (Xu x (N x.toNat) (out,q)).1 (Xu x (N x.toNat) (out,q)).2
def MO (S:Nat->Bool) (m:Nat):List Int:=(List.range m).map λi=>if S i=true then 0 else-1
def dq0 (S:Nat->Bool) (m:Nat):List Int:=((List.range m).filter S).map λ(i:Nat)=>(i:Int)
def iI (N:Nat->List Int) (S:Nat->Bool) (m:Nat):List Int:=s5 N (m+1) (MO S m) (dq0 S m)
def bo (out:List Int):Nat:=out.countP λv=>decide (v<0)
theorem kE {xs:List Int} {i j:Nat} {v:Int} (hj:j<xs.length):(xs.set i v).getD j 0=if i=j then v else xs.getD j 0:=by
 rw [Vy]
 by_cases e:i=j
 ·subst e;rw [Ac ⟨rfl,hj⟩,Ac rfl]
 ·rw [Ai λh=>e h.1,Ai e]
theorem uE {xs:List Int} {i:Nat} {v:Int} (hi:i<xs.length) (h:xs.getD i 0<0) (hv:0<=v):bo (xs.set i v)+1=bo xs:=by
 unfold bo;rw [List.countP_set hi];rw [Afa hi] at h;have hp:0<xs.countP λv=>decide (v<0):=List.countP_pos_iff.2 ⟨xs[i],Ah hi,Ci h⟩;simp only [Ci h,Oz];rw [Ai (by simp;omega)];omega
structure DI (N:Nat->List Int) (S:Nat->Bool) (m:Nat) (w:Nat->Prop) (out q:List Int):Prop where
 len:out.length=m
 ge: ∀i,i<m-> -1<=out.getD i 0
 inq: ∀y∈q,0<=y/\y<m/\0<=out.getD y.toNat 0
 src: ∀i,i<m->S i=true->out.getD i 0=0
 Acu: ∀i,i<m->out.getD i 0=0->S i=true
 par: ∀i,i<m->0<out.getD i 0-> ∃j,j<m/\(i:Int)∈N j/\out.getD j 0=out.getD i 0-1
 done: ∀i,i<m->0<=out.getD i 0->(i:Int)∉q-> ¬w i-> ∀t∈N i,0<=out.getD t.toNat 0/\out.getD t.toNat 0<=out.getD i 0+1
 ord:q.Pairwise λa b=>out.getD a.toNat 0<=out.getD b.toNat 0
structure DX (N:Nat->List Int) (S:Nat->Bool) (m:Nat) (x:Nat) (d:Int) (out q:List Int):Prop where
 base:DI N S m (λi=>i=x) out q
 lt:x<m
 Sb:out.getD x 0=d
 d0:0<=d
 lo: ∀y∈q,d<=out.getD y.toNat 0
 hi: ∀i,i<m->out.getD i 0<=d+1
def RowsOK (N:Nat->List Int) (m:Nat):Prop:= ∀i,i<m-> ∀t∈N i,0<=t/\t<m
theorem zx {N:Nat->List Int} {S:Nat->Bool} {m x:Nat} {d:Int} {out q:List Int} (hr:RowsOK N m) (h:DX N S m x d out q) {t:Int} (ht:t∈N x) (htm:0<=t/\t<m) (iD:out.getD t.toNat 0<0):
  DX N S m x d (out.set t.toNat (d+1)) (q++ [t]):=by
 obtain ⟨⟨b1,b2,b3,b4,b5,b6,b7,b8⟩,h1,h2,h3,h4,h5⟩:=h;obtain ⟨tn,rfl⟩:=Ba htm.1;simp only [Ab] at iD⊢
 have htn:tn<m:=by omega
 have hg: ∀i,i<m->(out.set tn (d+1)).getD i 0=if tn=i then d+1 else out.getD i 0:= λi hi=>kE (by omega)
 have Ii: ∀i,0<=out.getD i 0->tn≠i:= λi hi e=>by subst e;omega
 have hq: ∀y∈q,(out.set tn (d+1)).getD y.toNat 0=out.getD y.toNat 0:= λy hy=>by
  have:=b3 y hy;rw [hg _ (by omega),Ai (Ii _ this.2.2)]
 refine ⟨⟨by rw [Bb];exact b1,λi hi=>?_,λy hy=>?_,λi hi hs=>?_,λi hi h0=>?_,λi hi h0=>?_,λi hi h0 hn hw=>?_,?_⟩,h1,?_,h3,λy hy=>?_,λi hi=>?_⟩
 ·rw [hg i hi];split
  ·omega
  ·exact b2 i hi
 ·rcases Be.1 hy with hy|hy
  ·rw [hq y hy];exact b3 y hy
  ·rw [Af.1 hy];refine ⟨by omega,by omega,?_⟩;rw [hg _ (by omega),Ac (by omega)];omega
 ·have:=b4 i hi hs;rw [hg i hi,Ai (Ii i (by omega))];exact this
 ·rw [hg i hi] at h0;split at h0
  ·omega
  ·exact b5 i hi h0
 ·rw [hg i hi] at h0⊢
  by_cases e:tn=i
  ·subst e;rw [Ac rfl];exact ⟨x,h1,ht,by rw [hg x h1,Ai (Ii x (by omega)),h2];omega⟩
  ·rw [Ai e] at h0⊢;obtain ⟨j,j1,j2,j3⟩:=b6 i hi h0;exact ⟨j,j1,j2,by rw [hg j j1,Ai (Ii j (by omega))];exact j3⟩
 ·rw [hg i hi] at h0⊢;have Jq: ¬tn=i:= λe=>hn (by rw [<-e];simp);rw [Ai Jq] at h0⊢;intro t r6;obtain ⟨c1,c2⟩:=b7 i hi h0 (λh=>hn (Bo _ h)) hw t r6;have:=hr i hi t r6;rw [hg _ (by omega),Ai (Ii _ c1)];exact ⟨c1,c2⟩
 ·refine eu.2 ⟨?_,List.pairwise_singleton _ _,λa ha b hb=>?_⟩
  ·refine b8.imp_of_mem λha hb h=>?_;rw [hq _ ha,hq _ hb];exact h
  ·rw [Af.1 hb,hq _ ha,hg _ (by omega),Ac (by omega)];have:=b3 a ha;exact h5 _ (by omega)
 ·rw [hg x h1,Ai (Ii x (by omega))];exact h2
 ·rcases Be.1 hy with hy|hy
  ·rw [hq y hy];exact h4 y hy
  ·rw [Af.1 hy,hg _ (by omega),Ac (by omega)];omega
 ·rw [hg i hi];split
  ·exact Ku _
  ·exact h5 i hi
theorem Aa0 {N:Nat->List Int} {S:Nat->Bool} {m x:Nat} {d:Int} (hr:RowsOK N m): ∀(ts:List Int) (out q:List Int),(∀t∈ts,t∈N x)->DX N S m x d out q->
  DX N S m x d (Xu x ts (out,q)).1 (Xu x ts (out,q)).2/\(Xu x ts (out,q)).2.length+bo (Xu x ts (out,q)).1=q.length+bo out/\
  (∀t∈ts,0<=(Xu x ts (out,q)).1.getD t.toNat 0)/\(∀i,i<m->0<=out.getD i 0->(Xu x ts (out,q)).1.getD i 0=out.getD i 0)
 | [],out,q,_,h=>⟨h,rfl,(λt ht=>nomatch ht),λ_ _ _=>rfl⟩
 |t::ts,out,q,hs,h=>by
  have DV: ∀t∈ts,t∈N x:= λt' h'=>hs t' (At _ h');have htm:=hr x h.lt t (hs t (by simp));simp only [Xu]
  have hx0:out.getD ((x:Nat):Int).toNat 0=d:=by rw [Ab];exact h.Sb
  by_cases iD:out.getD t.toNat 0<0
  ·rw [Ac iD,hx0];have h1:=zx hr h (hs t (by simp)) htm iD;have hd:=h.d0;have hlen:=h.base.len;obtain ⟨a1,a2,a3,a4⟩:=Aa0 hr ts _ _ DV h1
   have hti:(out.set t.toNat (d+1)).getD t.toNat 0=d+1:=by rw [kE (by omega),Ac rfl]
   refine ⟨a1,?_,λt' r6=>?_,λi hi h0=>?_⟩
   ·have:=uE (xs:=out) (i:=t.toNat) (v:=d+1) (by omega) iD (by omega);rw [a2,Av,Bp];omega
   ·rcases Bd.1 r6 with rfl|r6
    ·rw [a4 _ (by omega) (by omega),hti];omega
    ·exact a3 t' r6
   ·have Ii: ¬t.toNat=i:= λe=>by subst e;omega
    have e:(out.set t.toNat (d+1)).getD i 0=out.getD i 0:=by rw [kE (by omega),Ai Ii]
    rw [a4 i hi (by rw [e];exact h0),e]
  ·rw [Ai iD];obtain ⟨a1,a2,a3,a4⟩:=Aa0 hr ts _ _ DV h;refine ⟨a1,a2,λt' r6=>?_,a4⟩;rcases Bd.1 r6 with rfl|r6
   ·rw [a4 _ (by omega) (by omega)];omega
   ·exact a3 t' r6
structure DQ (N:Nat->List Int) (S:Nat->Bool) (m:Nat) (out q:List Int):Prop where
 base:DI N S m (λ_=>False) out q
 hi: ∀x q',q=x::q'-> ∀i,i<m->out.getD i 0<=out.getD x.toNat 0+1
theorem zw {N:Nat->List Int} {S:Nat->Bool} {m:Nat} (hr:RowsOK N m) {x:Int} {out q:List Int} (h:DQ N S m out (x::q)):
  DQ N S m (Xu x (N x.toNat) (out,q)).1 (Xu x (N x.toNat) (out,q)).2/\(Xu x (N x.toNat) (out,q)).2.length+bo (Xu x (N x.toNat) (out,q)).1=q.length+bo out/\ ∀i,i<m->(Xu x (N x.toNat) (out,q)).1.getD i 0<=out.getD x.toNat 0+1:=by
 obtain ⟨b,hi⟩:=h;obtain ⟨h1,h2,h3⟩:=b.inq x (by simp);obtain ⟨xn,rfl⟩:=Ba h1;simp only [Ab] at h3⊢;obtain ⟨o1,o2⟩:=aR.1 b.ord;simp only [Ab] at o1
 have hx:DX N S m xn (out.getD xn 0) out q:=by
  refine ⟨⟨b.len,b.ge,λy hy=>b.inq y (At _ hy),b.src,b.Acu,b.par,λi hi h0 hn hw=>b.done i hi h0 (λhm=>?_) (λh=>h),o2⟩,by omega,rfl,h3,o1,?_⟩
  ·rcases Bd.1 hm with e|hm
   ·exact hw (by omega)
   ·exact hn hm
  ·have:=hi xn q rfl
   rwa [Ab] at this
 obtain ⟨a1,a2,a3,a4⟩:=Aa0 hr (N xn) out q (λ_ h=>h) hx;obtain ⟨c,c1,c2,c3,c4,c5⟩:=a1;refine ⟨⟨⟨c.len,c.ge,c.inq,c.src,c.Acu,c.par,λi cO h0 hn _ t ht=>?_,c.ord⟩,λy q' e i hi=>?_⟩,a2,c5⟩
 ·by_cases e:i=xn
  ·subst e;refine ⟨a3 t ht,?_⟩;rw [c2];have:=hr i cO t ht;exact c5 _ (by omega)
  ·exact c.done i cO h0 hn e t ht
 ·have h4:=c4 y (by rw [e];simp);have h5:=c5 i hi;omega
theorem ML {N:Nat->List Int} {S:Nat->Bool} {m:Nat} (hr:RowsOK N m) {x:Int} {out q:List Int} (h:DQ N S m out (x::q)):
  DQ N S m (Xu x (N x.toNat) (out,q)).1 (Xu x (N x.toNat) (out,q)).2/\(Xu x (N x.toNat) (out,q)).2.length+bo (Xu x (N x.toNat) (out,q)).1=q.length+bo out:=⟨(zw hr h).1,(zw hr h).2.1⟩
theorem ZY {N:Nat->List Int} {S:Nat->Bool} {m M:Nat} (hr:RowsOK N m): ∀(f:Nat) (out q:List Int) (T:Nat),DQ N S m out q->(∀i,i<m->out.getD i 0<=T)->T+(q.length+bo out)<=M-> ∀i,i<m->(s5 N f out q).getD i 0<=M
 |0,out,q,T,_,h1,h2,i,hi=>by have:=h1 i hi;simp only [s5];omega
 |f+1,out,[],T,_,h1,h2,i,hi=>by have:=h1 i hi;simp only [s5];omega
 |f+1,out,x::q,T,h,h1,h2,i,hi=>by
  obtain ⟨a1,a2,a3⟩:=zw hr h;have hx:=h.base.inq x (by simp);have hxT:=h1 x.toNat (by omega);simp only [s5];simp only [Aw] at h2;exact ZY hr f _ _ (T+1) a1 (λj hj=>by have:=a3 j hj;push_cast;omega) (by omega) i hi
theorem ZZ {N:Nat->List Int} {S:Nat->Bool} {m:Nat} (hr:RowsOK N m): ∀(f:Nat) (out q:List Int),q.length+bo out<f->DQ N S m out q->DQ N S m (s5 N f out q) []
 |0,out,q,hf,_=>absurd hf (Ea _)
 |f+1,out,[],_,h=>h
 |f+1,out,x::q,hf,h=>by
  obtain ⟨h1,h2⟩:=ML hr h;simp only [s5];simp only [Aw] at hf;exact ZZ hr f _ _ (by omega) h1
theorem Wt {S:Nat->Bool} {m i:Nat} (hi:i<m):(MO S m).getD i 0=if S i=true then 0 else-1:=by
 unfold MO;rw [Al,Fa,Rz hi];rfl
theorem oC {S:Nat->Bool} {m:Nat} {y:Int} :y∈dq0 S m↔ ∃i:Nat,y=i/\i<m/\S i=true:=by
 unfold dq0;simp only [Bh,Ck,Ev]
 constructor
 ·rintro ⟨i,⟨h1,h2⟩,rfl⟩;exact ⟨i,rfl,h1,h2⟩
 ·rintro ⟨i,rfl,h1,h2⟩;exact ⟨i,⟨h1,h2⟩,rfl⟩
theorem nJ (N:Nat->List Int) (S:Nat->Bool) (m:Nat):DQ N S m (MO S m) (dq0 S m):=by
 have hle: ∀i,i<m->(MO S m).getD i 0<=0:= λi hi=>by rw [Wt hi];split<;>omega
 refine ⟨⟨by simp [MO],λi hi=>?_,λy hy=>?_,λi hi hs=>?_,λi hi h0=>?_,λi hi h0=>?_,λi hi h0 hn _=>?_,?_⟩,λx q' e i hi=>?_⟩
 ·rw [Wt hi];split<;>omega
 ·obtain ⟨i,rfl,h1,h2⟩:=oC.1 hy;rw [Ab,Wt h1,Ac h2];exact ⟨by omega,by omega,Ku _⟩
 ·rw [Wt hi,Ac hs]
 ·rw [Wt hi] at h0;split at h0
  ·assumption
  ·omega
 ·have:=hle i hi;omega
 ·rw [Wt hi] at h0;split at h0
  ·rename_i hs;exact absurd (oC.2 ⟨i,rfl,hi,hs⟩) hn
  ·omega
 ·refine List.Pairwise.imp_of_mem (R:= λ_ _=>True) (λha hb _=>?_) (List.pairwise_of_forall λ_ _=>trivial);obtain ⟨i,rfl,h1,h2⟩:=oC.1 ha;obtain ⟨j,rfl,h3,h4⟩:=oC.1 hb;rw [Ab,Ab,Wt h1,Wt h3,Ac h2,Ac h4];exact Ku _
 ·obtain ⟨j,rfl,h3,h4⟩:=oC.1 (show x∈dq0 S m by rw [e];simp);have:=hle i hi;rw [Ab,Wt h3,Ac h4];omega
theorem yq {S:Nat->Bool} {m:Nat} :(dq0 S m).length+bo (MO S m)=m:=by
 unfold dq0 bo MO;rw [Ct,List.countP_map]
 have h:(List.range m).countP ((λv=>decide (v<0))∘ λi=>if S i=true then (0:Int) else-1)=(List.range m).countP λi=>!S i:=by
  refine List.countP_congr λi _=>?_;simp only [Function.comp]
  by_cases e:S i=true
  ·simp [e]
  ·simp [Gb _▸e]
 rw [h,<-List.countP_eq_length_filter];have:=List.length_eq_countP_add_countP (l:=List.range m) S;rw [cS] at this
 have e:(List.range m).countP (λa=>decide ¬S a=true)=(List.range m).countP λi=>!S i:=List.countP_congr λi _=>by cases S i<;>simp
 rw [e] at this;omega
theorem Aho {N:Nat->List Int} {S:Nat->Bool} {m:Nat} (hr:RowsOK N m):DI N S m (λ_=>False) (iI N S m) []:=
 (ZZ hr (m+1) _ _ (by rw [yq];omega) (nJ N S m)).base
theorem Aob {N:Nat->List Int} {S:Nat->Bool} {m:Nat} (hr:RowsOK N m) {i:Nat} (hi:i<m):(iI N S m).getD i 0<=m:=
 ZY hr (m+1) _ _ 0 (nJ N S m) (λj hj=>by rw [Wt hj];split<;>omega) (by rw [yq];omega) i hi
abbrev vQ:Type:=Int×Int×ByteArray×List (List Int)×List Int×List (List Int)×List Int×(ByteArray->Option Int)×List Int×List Int×Int×ByteArray×List (List Int)×List (List Int)×PUnit
abbrev vT:Type:=Int×Int×ByteArray×List (List Int)×List (List Int)×List Int×(ByteArray->Option Int)×List Int×List Int×Int×ByteArray×List (List Int)×List (List Int)×PUnit
abbrev fY:List (Nat×Nat):= [(0,1),(0,1),(0,1),(0,1),(0,1),(0,1),(0,1),(0,1),(0,1),(0,1),(0,1),(0,1),(0,0)]
abbrev Hq (p:Int×ByteArray×List (List Int)×Unit) (y4:List Int) (y2:Int) (y3:Bool) (y6:ByteArray) (y5:ByteArray):Prop:=fY=fY/\(p,false,y4,p.1,p.2.1,p.2.2.1,y2,y3,!y3,p.1,y4,p.1,p.2.1,p.2.2.1,y4,y4,y6,p.1,p.2.1,p.2.2.1,p.1,p.2.1,p.2.2.1,[y4],[(0:Int)],gR (λ(_:ByteArray)=>none) y6 (0:Int),[(0:Int)],[(0:Int)],p.1,p.2.1,p.2.2.1,([]:List (List Int)),())=(p,false,y4,p.1,p.2.1,p.2.2.1,y2,y3,!y3,p.1,y4,p.1,p.2.1,p.2.2.1,y4,y4,y5,p.1,p.2.1,p.2.2.1,p.1,p.2.1,p.2.2.1,[y4],[(0:Int)],gR (λ(_:ByteArray)=>none) y5 (0:Int),[(0:Int)],[(0:Int)],p.1,p.2.1,p.2.2.1,([]:List (List Int)),PUnit.unit)
theorem XS (p:Int×ByteArray×List (List Int)×Unit) (P:(Option (PP×List (List Int)×List Int×(ByteArray->Option Int)×List Int×List Int×List (List Int)×Unit)×Bool×Unit)->Prop):(∃(y2:Int),Tk.fn ((p.1,p.2.1,p.2.2.1,()),())=some y2/\ ∃(y3:Bool),Dq.fn (y2,(1:Int),(3000:Int),())=some y3/\Br (!y3) (P (none,false,())) (∃(y4:List Int),Wg.fn (p.1,())=some y4/\ ∃(y5:ByteArray),Iw.fn (y4,())=some y5/\(∃(y6:List Int),Ki.fn ((↑p.2.2.1.length:Int),())=some y6/\0=0/\1= [y4].length/\0=0/\1= [(0:Int)].length/\0=0/\1= [(0:Int)].length/\0=0/\1= [(0:Int)].length/\0=0/\0=([]:List Int).length/\Dh (λ(v7:vT) (k8:vT->Prop)=>Br (decide (v7.1<(↑v7.2.2.2.2.1.length:Int))) (((0:Int)<=v7.1/\v7.1<(↑v7.2.2.2.2.1.length:Int))/\ ∃(y9:List Int),v7.2.2.2.2.1[0+v7.1.toNat]?=some y9/\ ∃(No:List (List Int)),kU.fn ((v7.2.1,v7.2.2.1,v7.2.2.2.1,()),y9,())=some No/\0=0/\0=([]:List Int).length/\0=0/\v7.2.2.2.2.1.length=v7.2.2.2.2.1.length/\0=0/\v7.2.2.2.2.2.1.length=v7.2.2.2.2.2.1.length/\0=0/\v7.2.2.2.2.2.2.2.1.length=v7.2.2.2.2.2.2.2.1.length/\0=0/\v7.2.2.2.2.2.2.2.2.1.length=v7.2.2.2.2.2.2.2.2.1.length/\0=0/\v7.2.2.2.2.2.2.2.2.2.2.2.2.1.length=v7.2.2.2.2.2.2.2.2.2.2.2.2.1.length/\Dh (λ(v11:vQ) (k12:vQ->Prop)=>Br (decide (v11.1<(↑No.length:Int))) (∃(Wq:List Int),idx No v11.1=some Wq/\ ∃(Ry:ByteArray),Iw.fn (Wq,())=some Ry/\Br (!(v11.2.2.2.2.2.2.2.1 Ry).isSome) (∃(Rv:Int),Vf.fn (List.take v11.2.2.2.2.2.1.length (List.drop 0 v11.2.2.2.2.2.1),())=some Rv/\0=0/\v11.2.2.2.2.2.1.length=v11.2.2.2.2.2.1.length/\v11.2.2.2.2.2.1.length+(List.take 1 (List.drop 0 [Wq])).length<=Db/\((0:Int)<=v7.1/\v7.1<(↑v11.2.2.2.2.2.2.1.length:Int))/\ ∃(Pc:Int),v11.2.2.2.2.2.2.1[0+v7.1.toNat]?=some Pc/\0=0/\v11.2.2.2.2.2.2.1.length=v11.2.2.2.2.2.2.1.length/\v11.2.2.2.2.2.2.1.length+ [IntKind.i64.wrap (Pc+(1:Int))].length<=Db/\0=0/\v11.2.2.2.2.2.2.2.2.1.length=v11.2.2.2.2.2.2.2.2.1.length/\v11.2.2.2.2.2.2.2.2.1.length+(List.take 1 (List.drop 0 [v7.1])).length<=Db/\ ∃(dK:Int),idx y6 v11.1=some dK/\0=0/\v11.2.2.2.2.2.2.2.2.2.1.length=v11.2.2.2.2.2.2.2.2.2.1.length/\v11.2.2.2.2.2.2.2.2.2.1.length+ [dK].length<=Db/\0=0/\v11.2.2.2.2.1.length=v11.2.2.2.2.1.length/\v11.2.2.2.2.1.length+(List.take 1 (List.drop 0 [Rv])).length<=Db/\0=0/\(v11.2.2.2.2.1++List.take 1 (List.drop 0 [Rv])).length=(v11.2.2.2.2.1++List.take 1 (List.drop 0 [Rv])).length/\0=0/\(v11.2.2.2.2.2.1++List.take 1 (List.drop 0 [Wq])).length=(v11.2.2.2.2.2.1++List.take 1 (List.drop 0 [Wq])).length/\0=0/\(v11.2.2.2.2.2.2.1++ [IntKind.i64.wrap (Pc+(1:Int))]).length=(v11.2.2.2.2.2.2.1++ [IntKind.i64.wrap (Pc+(1:Int))]).length/\0=0/\(v11.2.2.2.2.2.2.2.2.1++List.take 1 (List.drop 0 [v7.1])).length=(v11.2.2.2.2.2.2.2.2.1++List.take 1 (List.drop 0 [v7.1])).length/\0=0/\(v11.2.2.2.2.2.2.2.2.2.1++ [dK]).length=(v11.2.2.2.2.2.2.2.2.2.1++ [dK]).length/\0=0/\v11.2.2.2.2.2.2.2.2.2.2.2.2.2.1.length=v11.2.2.2.2.2.2.2.2.2.2.2.2.2.1.length/\k12 (IntKind.i64.wrap (v11.1+(1:Int)),v11.2.1,v11.2.2.1,v11.2.2.2.1,v11.2.2.2.2.1++List.take 1 (List.drop 0 [Rv]),v11.2.2.2.2.2.1++List.take 1 (List.drop 0 [Wq]),v11.2.2.2.2.2.2.1++ [IntKind.i64.wrap (Pc+(1:Int))],gR v11.2.2.2.2.2.2.2.1 Ry Rv,v11.2.2.2.2.2.2.2.2.1++List.take 1 (List.drop 0 [v7.1]),v11.2.2.2.2.2.2.2.2.2.1++ [dK],v11.2.2.2.2.2.2.2.2.2.2.1,v11.2.2.2.2.2.2.2.2.2.2.2.1,v11.2.2.2.2.2.2.2.2.2.2.2.2.1,v11.2.2.2.2.2.2.2.2.2.2.2.2.2.1,())) (0=0/\v11.2.2.2.2.1.length=v11.2.2.2.2.1.length/\v11.2.2.2.2.1.length+(List.take 1 (List.drop 0 [(v11.2.2.2.2.2.2.2.1 Ry).getD (Int.ofNat (nat_lit 0))])).length<=Db/\0=0/\(v11.2.2.2.2.1++List.take 1 (List.drop 0 [(v11.2.2.2.2.2.2.2.1 Ry).getD (Int.ofNat (nat_lit 0))])).length=(v11.2.2.2.2.1++List.take 1 (List.drop 0 [(v11.2.2.2.2.2.2.2.1 Ry).getD (Int.ofNat (nat_lit 0))])).length/\0=0/\v11.2.2.2.2.2.1.length=v11.2.2.2.2.2.1.length/\0=0/\v11.2.2.2.2.2.2.1.length=v11.2.2.2.2.2.2.1.length/\0=0/\v11.2.2.2.2.2.2.2.2.1.length=v11.2.2.2.2.2.2.2.2.1.length/\0=0/\v11.2.2.2.2.2.2.2.2.2.1.length=v11.2.2.2.2.2.2.2.2.2.1.length/\0=0/\v11.2.2.2.2.2.2.2.2.2.2.2.2.2.1.length=v11.2.2.2.2.2.2.2.2.2.2.2.2.2.1.length/\k12 (IntKind.i64.wrap (v11.1+(1:Int)),v11.2.1,v11.2.2.1,v11.2.2.2.1,v11.2.2.2.2.1++List.take 1 (List.drop 0 [(v11.2.2.2.2.2.2.2.1 Ry).getD (Int.ofNat (nat_lit 0))]),v11.2.2.2.2.2.1,v11.2.2.2.2.2.2.1,v11.2.2.2.2.2.2.2.1,v11.2.2.2.2.2.2.2.2.1,v11.2.2.2.2.2.2.2.2.2.1,v11.2.2.2.2.2.2.2.2.2.2.1,v11.2.2.2.2.2.2.2.2.2.2.2.1,v11.2.2.2.2.2.2.2.2.2.2.2.2.1,v11.2.2.2.2.2.2.2.2.2.2.2.2.2.1,()))) (0=0/\v11.2.2.2.2.2.2.2.2.2.2.2.2.2.1.length=v11.2.2.2.2.2.2.2.2.2.2.2.2.2.1.length/\v11.2.2.2.2.2.2.2.2.2.2.2.2.2.1.length+(List.take 1 (List.drop 0 [List.take v11.2.2.2.2.1.length (List.drop 0 v11.2.2.2.2.1)])).length<=Db/\0=0/\v11.2.2.2.2.2.1.length=v11.2.2.2.2.2.1.length/\0=0/\v11.2.2.2.2.2.2.1.length=v11.2.2.2.2.2.2.1.length/\0=0/\v11.2.2.2.2.2.2.2.2.1.length=v11.2.2.2.2.2.2.2.2.1.length/\0=0/\v11.2.2.2.2.2.2.2.2.2.1.length=v11.2.2.2.2.2.2.2.2.2.1.length/\0=0/\(v11.2.2.2.2.2.2.2.2.2.2.2.2.2.1++List.take 1 (List.drop 0 [List.take v11.2.2.2.2.1.length (List.drop 0 v11.2.2.2.2.1)])).length=(v11.2.2.2.2.2.2.2.2.2.2.2.2.2.1++List.take 1 (List.drop 0 [List.take v11.2.2.2.2.1.length (List.drop 0 v11.2.2.2.2.1)])).length/\k8 (IntKind.i64.wrap (v7.1+(1:Int)),v11.2.1,v11.2.2.1,v11.2.2.2.1,v11.2.2.2.2.2.1,v11.2.2.2.2.2.2.1,v11.2.2.2.2.2.2.2.1,v11.2.2.2.2.2.2.2.2.1,v11.2.2.2.2.2.2.2.2.2.1,v11.2.2.2.2.2.2.2.2.2.2.1,v11.2.2.2.2.2.2.2.2.2.2.2.1,v11.2.2.2.2.2.2.2.2.2.2.2.2.1,v11.2.2.2.2.2.2.2.2.2.2.2.2.2.1++List.take 1 (List.drop 0 [List.take v11.2.2.2.2.1.length (List.drop 0 v11.2.2.2.2.1)]),()))) ((0:Int),v7.2.1,v7.2.2.1,v7.2.2.2.1,[],v7.2.2.2.2.1,v7.2.2.2.2.2.1,v7.2.2.2.2.2.2.1,v7.2.2.2.2.2.2.2.1,v7.2.2.2.2.2.2.2.2.1,v7.2.2.2.2.2.2.2.2.2.1,v7.2.2.2.2.2.2.2.2.2.2.1,v7.2.2.2.2.2.2.2.2.2.2.2.1,v7.2.2.2.2.2.2.2.2.2.2.2.2.1,PUnit.unit)) (P (some ((v7.2.2.2.2.2.2.2.2.2.1,v7.2.2.2.2.2.2.2.2.2.2.1,v7.2.2.2.2.2.2.2.2.2.2.2.1,()),List.take v7.2.2.2.2.1.length (List.drop 0 v7.2.2.2.2.1),List.take v7.2.2.2.2.2.1.length (List.drop 0 v7.2.2.2.2.2.1),v7.2.2.2.2.2.2.1,List.take v7.2.2.2.2.2.2.2.1.length (List.drop 0 v7.2.2.2.2.2.2.2.1),List.take v7.2.2.2.2.2.2.2.2.1.length (List.drop 0 v7.2.2.2.2.2.2.2.2.1),List.take v7.2.2.2.2.2.2.2.2.2.2.2.2.1.length (List.drop 0 v7.2.2.2.2.2.2.2.2.2.2.2.2.1),()),true,()))) ((0:Int),p.1,p.2.1,p.2.2.1,[y4],[(0:Int)],gR (λ(_:ByteArray)=>none) y5 (0:Int),[(0:Int)],[(0:Int)],p.1,p.2.1,p.2.2.1,([]:List (List Int)),PUnit.unit))/\((∃(y6:ByteArray),Iw.fn (y4,())=some y6/\(Hq p y4 y2 y3 y6 y5))/\ ∃(y6:ByteArray),Iw.fn (y4,())=some y6/\((Hq p y4 y2 y3 y6 y5))/\((Hq p y4 y2 y3 y6 y5))/\(Hq p y4 y2 y3 y6 y5))/\((∃(y6:ByteArray),Iw.fn (y4,())=some y6/\(Hq p y4 y2 y3 y6 y5))/\ ∃(y6:ByteArray),Iw.fn (y4,())=some y6/\((Hq p y4 y2 y3 y6 y5))/\((Hq p y4 y2 y3 y6 y5))/\(Hq p y4 y2 y3 y6 y5))/\ ∃(y6:ByteArray),Iw.fn (y4,())=some y6/\(((Hq p y4 y2 y3 y6 y5))/\((Hq p y4 y2 y3 y6 y5))/\(Hq p y4 y2 y3 y6 y5))/\(((Hq p y4 y2 y3 y6 y5))/\((Hq p y4 y2 y3 y6 y5))/\(Hq p y4 y2 y3 y6 y5))/\(((Hq p y4 y2 y3 y6 y5))/\(Hq p y4 y2 y3 y6 y5))/\(((Hq p y4 y2 y3 y6 y5))/\(Hq p y4 y2 y3 y6 y5))/\((Hq p y4 y2 y3 y6 y5))/\fY=fY/\(p,false,y4,p.1,p.2.1,p.2.2.1,y2,y3,!y3,p.1,y4,p.1,p.2.1,p.2.2.1,y4,y4,y6,p.1,p.2.1,p.2.2.1,p.1,p.2.1,p.2.2.1,[y4],[(0:Int)],gR (λ(_:ByteArray)=>none) y6 (0:Int),[(0:Int)],[(0:Int)],p.1,p.2.1,p.2.2.1,([]:List (List Int)),())=(p,false,y4,p.1,p.2.1,p.2.2.1,y2,y3,!y3,p.1,y4,p.1,p.2.1,p.2.2.1,y4,y4,y5,p.1,p.2.1,p.2.2.1,p.1,p.2.1,p.2.2.1,[y4],[(0:Int)],gR (λ(_:ByteArray)=>none) y5 (0:Int),[(0:Int)],[(0:Int)],p.1,p.2.1,p.2.2.1,[],PUnit.unit)))=fnW Hf (look [(121,Tk),(49,Dq),(25,Wg),(24,Iw),(26,Ki),(122,kU),(79,Vf)]) Rf Try.f101 (p,()) P:=by kernel_rfl
theorem tJ {g:List (List Int)} {k:Int} {x:List Int} {d:Int} : ∀(ls:List Int) (s:EX) (row:List Int) (L':List (List Int)) (D':List Int),Jm g x d ls s.1 s.2.1=(L',D',true)->
  (cT g k x d ls s row).1.1=L'/\(cT g k x d ls s row).1.2.1=D'
 | [],s,row,L',D',h=>by
  simp only [Jm,Ag] at h;exact ⟨h.1,h.2.1⟩
 |l::ls,s,row,L',D',h=>by
  simp only [Jm] at h;simp only [cT]
  by_cases hm:Am x (Ax g l)∈s.1
  ·rw [Ac hm] at h;rw [Ac hm];exact tJ ls s _ L' D' h
  ·rw [Ai hm] at h;rw [Ai hm]
   by_cases hf:s.1.length=3000
   ·rw [Ac hf] at h;simp at h
   ·rw [Ai hf] at h;exact tJ ls _ _ L' D' h
theorem FL {g:List (List Int)} {ls:List Int} : ∀(f k:Nat) (s:EX) (N:List (List Int)) (L':List (List Int)) (D':List Int),Lt g ls f k s.1 s.2.1=(L',D',true)->
  (dQ g ls f k s N).1.1=L'/\(dQ g ls f k s N).1.2.1=D'
 |0,k,s,N,L',D',h=>by
  simp only [Lt,Ag] at h;exact ⟨h.1,h.2.1⟩
 |f+1,k,s,N,L',D',h=>by
  simp only [Lt] at h;simp only [dQ]
  by_cases hk:k<s.1.length
  ·rw [Ac hk] at h;rw [Ac hk];split at h
   ·rename_i L1 D1 he;obtain ⟨a1,a2⟩:=tJ (k:=(k:Int)) ls s [] L1 D1 he;refine FL f (k+1) _ _ L' D' ?_;rw [a1,a2];exact h
   ·simp at h
  ·rw [Ai hk] at h;rw [Ai hk];simp only [Ag] at h;exact ⟨h.1,h.2.1⟩
theorem og {key:ByteArray} {x:List Int} : ∀(L:List (List Int)) (i:Nat),jz key (L++ [x]) i=if (jz key L i).isSome=true then jz key L i else if Tq x=key then some ((i+L.length:Nat):Int) else none
 | [],i=>by simp [jz]
 |y::L,i=>by
  simp only [Ka,jz];split
  ·rfl
  ·rw [og L (i+1),Aw,show i+1+L.length=i+(L.length+1) by omega]
theorem pN {x:List Int} (hx:Ya x): ∀(L:List (List Int)) (i:Nat),(∀y∈L,Ya y)->jz (Tq x) L i=if x∈L then some ((i+L.idxOf x:Nat):Int) else none
 | [],i,_=>by simp [jz]
 |y::L,i,h=>by
  have hy:=h y (by simp);simp only [jz]
  by_cases e:y=x
  ·subst e;rw [Ac rfl,Ac (by simp),List.idxOf_cons_self];rfl
  ·rw [Ai λhk=>e (key_inj hy hx hk),pN hx L (i+1) λz hz=>h z (At _ hz),show List.idxOf x (y::L)=(List.idxOf x L).succ by rw [List.idxOf_cons,beq_false_of_ne e];rfl]
   have:(x∈y::L)↔(x∈L):=by simp [Ha e]
   by_cases hm:x∈L
   ·rw [Ac hm,Ac (this.2 hm),show i+1+List.idxOf x L=i+(List.idxOf x L).succ by omega]
   ·rw [Ai hm,Ai λh=>hm (this.1 h)]
theorem yi {x:List Int} {L:List (List Int)} (hx:Ya x) (hL: ∀y∈L,Ya y):a5 L (Tq x)=if x∈L then some (L.idxOf x:Int) else none:=by
 unfold a5;rw [pN hx L 0 hL,Bl]
theorem yh {x:List Int} {L:List (List Int)} (hx:Ya x) (hL: ∀y∈L,Ya y) (hn:x∉L):gR (a5 L) (Tq x) (L.length:Int)=a5 (L++ [x]):=by
 funext key
 unfold gR a5;rw [og,Bl]
 by_cases e:key=Tq x
 ·subst e;rw [Ac rfl,pN hx L 0 hL,Ai hn,Ai (by simp),Ac rfl]
 ·rw [Ai e,Ai (c:=Tq x=key) λh=>e h.symm];split
  ·rfl
  ·rename_i h
   cases hk:jz key L 0 with
   |none=>rfl
   |some v=>rw [hk] at h;simp at h
theorem KU (p:PP):Lc (Xe p) 1 3000=Dc p:=by
 unfold Dc
 by_cases hv:Da p=true
 ·rw [hv,Ta,FB hv];rfl
 ·have hv:Da p=false:=by simpa using hv
  rw [hv,Zq]
  have:Xe p=0:=by unfold Xe;rw [Ai (by simp [hv])]
  rw [this];rfl
theorem VZ (p:PP) (h:Fo p):fnW Hf (look [(121,Tk),(49,Dq),(25,Wg),(24,Iw),(26,Ki),(122,kU),(79,Vf)]) Rf Try.f101 (p,()) (λ(z:Option (PP×List (List Int)×List Int×(ByteArray->Option Int)×List Int×List Int×List (List Int)×Unit)×Bool×Unit)=>z=(if Dc p=true then (some (Gr p),true,()) else (none,false,()))):=by
 refine Eq.mp (XS p _) ⟨_,Ac h,_,Ac trivial,?_⟩;show Br (!Lc (Xe p) 1 3000) _ _;rw [KU p];refine Br.of (λhb=>?_) λhb=>?_
 ·rw [Ai (by simpa using hb)]
 have hw:Dc p=true:=by simpa using hb
 rw [Ac hw];obtain ⟨hv,MW⟩:=Hc.1 hw;have hV:=valid hv;have wF:=hV.eK;have hn:=hV.n;obtain ⟨pn,ps,g,⟨⟩⟩:=p;dsimp only at wF hn MW⊢
 have hI:(upto pn.toNat).length<=20:=by rw [Uv];omega
 have hIr: ∀y∈upto pn.toNat,0<=y/\y<pn:= λy hy=>by have:=Nd.1 hy;omega
 have hb0:=kA (p:=(pn,ps,g,())) hI hIr
 obtain ⟨ls,bD⟩: ∃ls,Aq g.length=ls:=⟨_,rfl⟩
 have LF:ls.length<=16:=by rw [<-bD,Ov];omega
 have jq: ∀l∈ls,Ie (List.length g) l:= λl hl=>Jw (bD▸hl)
 have RZ: ∀x:List Int,(∀y∈x,0<=y/\y<pn)->Ya x:= λx hx y hy=>by have:=hx y hy;omega
 have NI:Lt g ls 3001 0 [upto pn.toNat] [0]=Jn g (upto pn.toNat):=by unfold Jn;rw [bD]
 have u7:gR (λ(_:ByteArray)=>(none:Option Int)) (Tq (upto pn.toNat)) 0=a5 [upto pn.toNat]:=by
  have:=yh (L:= []) (RZ _ hIr) (λy hy=>by cases hy) (by simp);exact this
 refine ⟨upto pn.toNat,Ac ⟨by show (0:Int)<=pn;omega,by show pn<=20;omega⟩,Tq (upto pn.toNat),Ac (by show short (upto pn.toNat);unfold short;omega),⟨ls,?_,rfl,rfl,rfl,rfl,rfl,rfl,rfl,rfl,rfl,rfl,?_⟩,?_⟩
 ·refine (Ac ⟨by show (0:Int)<=((g.length:Nat):Int);omega,by show ((g.length:Nat):Int)<=8;omega⟩).trans (Dz some ?_);show Aq (((g.length:Nat):Int)).toNat=ls;rw [Ab];exact bD
 ·obtain ⟨R,hR⟩: ∃R,dQ g ls 3001 0 ([upto pn.toNat],[0],[0],[0]) []=R:=⟨_,rfl⟩
  have Ap1:Gr (pn,ps,g,())=Aod (pn,ps,g,()) R:=by unfold Gr;rw [bD];exact Dz _ hR
  rw [Ap1]
  refine Dh.mk (λv=> ∃(k:Nat) (s:EX) (N:List (List Int)),v=((k:Int),pn,ps,g,s.1,s.2.1,a5 s.1,s.2.2.1,s.2.2.2,pn,ps,g,N,())/\k<=s.1.length/\Xy (pn,ps,g,()) (upto pn.toNat).length s.1 s.2.1/\s.2.2.1.length=s.1.length/\s.2.2.2.length=s.1.length/\N.length=k/\
    Lt g ls (3001-k) k s.1 s.2.1=Jn g (upto pn.toNat)/\dQ g ls (3001-k) k s N=R) (λv=>3001-v.1.toNat)
   ⟨0,([upto pn.toNat],[0],[0],[0]),[],?_,by simp,hb0,rfl,rfl,rfl,NI,hR⟩ ?_
  ·rw [<-u7];rfl
  rintro v ⟨k,s0,N,rfl,h1,h2,h3,h4,h5,h6,h7⟩;obtain ⟨L0,D0,P0,B0⟩:=s0;dsimp only at h1 h2 h3 h4 h6 h7⊢;have hL0:=h2.ok.eK;have hD0:=h2.len
  obtain ⟨f,hf⟩: ∃f,3001-k=f+1:=⟨3000-k,by omega⟩
  refine Br.dec (λhl=>?_) λhl=>?_
  ·have hk:k<L0.length:=by omega
   have UU:k<D0.length:=by omega
   have hx: ∀y∈L0[k],0<=y/\y<pn:=h2.row _ (Ah hk);have hxl:L0[k].length=(upto pn.toNat).length:=h2.ok.len _ (Ah hk);have hdk:=h2.dep k UU;have LH:L0.getD k []=L0[k]:=Wx hk
   have MY:D0.getD k 0=D0[k]:=by rw [Al,Ad UU];rfl
   have hgo: ∀L' D' ok,Jm g L0[k] D0[k] ls L0 D0=(L',D',ok)->Jn g (upto pn.toNat)=if ok=true then Lt g ls f (k+1) L' D' else (L',D',false):=by
    intro L' D' ok he;rw [<-h6,hf,Lt,Ac hk,LH,MY,he]
    cases ok<;>rfl
   obtain ⟨E,hE⟩: ∃E,cT g (k:Int) L0[k] D0[k] ls (L0,D0,P0,B0) []=E:=⟨_,rfl⟩
   have hex:R=dQ g ls f (k+1) E.1 (N++ [E.2]):=by
    rw [<-h7,hf,dQ,Ac hk];dsimp only;rw [LH,MY,hE]
   refine ⟨⟨by omega,by omega⟩,L0[k],by rw [Ab,Bl];exact Ad hk,ls.map (λl=>Am L0[k] (Ax g l)),?_,?_⟩
   ·refine (Ac ⟨hv,by show L0[k].length<=20;omega,hx⟩).trans (Dz some ?_);show AM g L0[k]=_;unfold AM;rw [bD]
   refine ⟨rfl,rfl,rfl,rfl,rfl,rfl,rfl,rfl,rfl,rfl,rfl,rfl,?_⟩
   obtain ⟨nb,hnb⟩: ∃nb,ls.map (λl=>Am L0[k] (Ax g l))=nb:=⟨_,rfl⟩
   have hnl:nb.length=ls.length:=by rw [<-hnb,Ct]
   have hni: ∀i (h:i<ls.length),nb[i]'(by omega)=Am L0[k] (Ax g ls[i]):= λi h=>by simp only [<-hnb,Ps]
   rw [hnb]
   refine Dh.mk (λv=> ∃(i:Nat) (row:List Int) (s:EX),v=((i:Int),pn,ps,g,row,s.1,s.2.1,a5 s.1,s.2.2.1,s.2.2.2,pn,ps,g,N,())/\i<=ls.length/\row.length=i/\Xy (pn,ps,g,()) (upto pn.toNat).length s.1 s.2.1/\s.2.2.1.length=s.1.length/\s.2.2.2.length=s.1.length/\
     (∃A,s.1=L0++A)/\(∃A,s.2.1=D0++A)/\Jm g L0[k] D0[k] (ls.drop i) s.1 s.2.1=Jm g L0[k] D0[k] ls L0 D0/\cT g (k:Int) L0[k] D0[k] (ls.drop i) s row=E) (λv=>ls.length-v.1.toNat)
    ⟨0,[],(L0,D0,P0,B0),rfl,Iz _,rfl,h2,h3,h4,⟨[],by simp⟩,⟨[],by simp⟩,rfl,hE⟩ ?_
   rintro v ⟨i,row,s,rfl,g1,g2,g3,g4,g5,⟨A,g6⟩,⟨A',g7⟩,g8,g9⟩;obtain ⟨L,D,Pa,By⟩:=s;dsimp only at g3 g4 g5 g6 g7 g8 g9⊢;have hLf:=g3.ok.eK;have hDl:=g3.len;refine Br.dec (λhli=>?_) λhli=>?_
   ·have hi:i<ls.length:=by omega
    have hkL:k<L.length:=by rw [g6,Av];omega
    have Akm:k<D.length:=by rw [hDl];exact hkL
    have hDk:D[k]=D0[k]:=by simp only [g7];exact Xr UU
    have uc:=jq _ (Ah hi);obtain ⟨nl,nr⟩:=sK hV hx uc;dsimp only at nl nr;rw [Ft hi] at g8 g9;simp only [Jm] at g8;simp only [cT] at g9;have hyb:=RZ _ nr;refine ⟨_,Bu (by omega),?_⟩;rw [hni i hi];generalize hyv:Am L0[k] (Ax g ls[i])=yv at*;refine ⟨Tq yv,Ac (by show short yv;unfold short;rw [nl];omega),?_⟩;rw [yi hyb λy hy=>RZ _ (g3.row y hy)];refine Br.of (λJq=>?_) λJq=>?_
    ·have Jq:yv∉L:= λhm=>by rw [Ac hm] at Jq;simp at Jq
     rw [Ai Jq] at g8 g9
     by_cases ib:L.length=3000
     ·rw [Ac ib] at g8;have:=hgo _ _ _ g8.symm;rw [Ai (by decide)] at this;rw [this] at MW;cases MW
     rw [Ai ib] at g8;refine ⟨_,Ac trivial,rfl,rfl,?_,⟨by omega,by omega⟩,D0[k],?_,rfl,rfl,?_,rfl,rfl,?_,_,Bu hi,rfl,rfl,?_,rfl,rfl,?_,rfl,rfl,rfl,rfl,rfl,rfl,rfl,rfl,rfl,rfl,rfl,rfl,?_⟩
     ·show L.length+1<=4294967296;omega
     ·rw [Ab,Bl,Ad Akm,hDk]
     ·show D.length+1<=4294967296;omega
     ·show Pa.length+1<=4294967296;omega
     ·show By.length+1<=4294967296;omega
     ·show row.length+1<=4294967296;omega
     ·dsimp only;rw [Cl L,Co (n:=D0[k]+1) (by omega) (by omega),Bm (by omega),yh hyb (λy hy=>RZ _ (g3.row y hy)) Jq];refine ⟨⟨i+1,row++ [(L.length:Int)],(L++ [yv],D++ [D0[k]+1],Pa++ [(k:Int)],By++ [ls[i]]),rfl,hi,by rw [Av,g2];rfl,g3.add Jq (by rw [nl,hxl]) (by omega) nr ⟨by omega,by omega⟩,?_,?_,⟨A++ [yv],by rw [g6,Bn]⟩,⟨A'++ [D0[k]+1],by rw [g7,Bn]⟩,g8,g9⟩,by omega⟩
      ·simp [g4]
      ·simp [g5]
    ·have Jq:yv∈L:=Bz λhm=>by rw [Ai hm] at Jq;simp at Jq
     rw [Ac Jq] at g8 g9;rw [Ac Jq];refine ⟨rfl,rfl,?_,rfl,rfl,rfl,rfl,rfl,rfl,rfl,rfl,rfl,rfl,rfl,rfl,?_⟩
     ·show row.length+1<=4294967296;omega
     ·rw [Bm (by omega)];exact ⟨⟨i+1,row++ [(L.idxOf yv:Int)],(L,D,Pa,By),rfl,hi,by rw [Av,g2];rfl,g3,g4,g5,⟨A,g6⟩,⟨A',g7⟩,g8,g9⟩,by omega⟩
   ·have:i=ls.length:=by omega
    subst this;rw [Zr,Jm] at g8;rw [Zr,cT] at g9;have:=hgo _ _ _ g8.symm;rw [Ac rfl] at this;rw [Cl row,Bm (by omega)];refine ⟨rfl,rfl,?_,rfl,rfl,rfl,rfl,rfl,rfl,rfl,rfl,rfl,rfl,⟨k+1,(L,D,Pa,By),N++ [row],rfl,by rw [g6,Av];omega,g3,g4,g5,by rw [Av,h5];rfl,?_,?_⟩,by omega⟩
    ·show N.length+1<=4294967296;omega
    ·rw [show 3001-(k+1)=f by omega];exact this.symm
    ·rw [show 3001-(k+1)=f by omega,hex,<-g9]
  ·have hk:k=L0.length:=by omega
   rw [hf,dQ,Ai (by show ¬k<L0.length;omega)] at h7;subst h7;simp only [Cw,Az];rfl
 ·have NA:Iw.fn (upto pn.toNat,())=some (Tq (upto pn.toNat)):=Ac (by show short (upto pn.toNat);unfold short;omega)
  repeat' (first|exact ⟨rfl,rfl⟩|refine ⟨_,NA,?_⟩|refine ⟨?_,?_⟩)
theorem xf:Sound Try.prog 101 Rf:=
 Sound.Ho Ez (Bf qp (Bf Tn (Bf iv (Bf jZ (Bf aa (Bf JK (Bf jX Ce))))))) mixed Try.func101 (by kernel_rfl) (by kernel_rfl) λx h=>VZ x.1 h
abbrev XP:Type:=PP×List (List Int)×List Int×(ByteArray->Option Int)×List Int×List Int×List (List Int)×Unit
noncomputable def Ae (p:PP):List (List Int):=(Jn p.2.2.1 (upto p.1.toNat)).1
noncomputable def Bj (p:PP):List Int:=(Jn p.2.2.1 (upto p.1.toNat)).2.1
def nu (e:XP):Prop:=Dc e.1=true/\e=Gr e.1
noncomputable def Ir (p:PP) (s:List Int):Int×Bool×Unit:=if s∈Ae p then ((List.idxOf s (Ae p):Nat),true,()) else (0,false,())
noncomputable def Abl (e:Option XP) (s:List Int):Int×Bool×Unit:=match e with|some e=>Ir e.1 s|none=>(0,false,())
noncomputable abbrev Sx:Spec:=Ho (.pair (.optr kf) (.pair tL .unit)) (.pair tI (.pair .bool .unit)) true true (λx=>(∃e:XP,x.1=some e/\nu e)/\short x.2.1) (λx=>Abl x.1 x.2.1)
noncomputable def Ld (p:PP):SS×Bool×Unit:=if Da p=true then (Bq p.2.2.1 (upto p.1.toNat),Dc p,()) else (([],[],[],false,()),false,())
noncomputable abbrev Ql:Spec:=Ho (.pair Gi .unit) (.pair Qn (.pair .bool .unit)) true false (λx=>Fo x.1) (λx=>Ld x.1)
noncomputable abbrev bG:Spec:=Ho (.pair Gi (.pair Qn (.pair tL .unit))) .bool false true (λx=>Fo x.1/\short x.2.2.1/\Da x.1=true/\x.2.1=Bq x.1.2.2.1 (upto x.1.1.toNat)) (λx=>decide (x.2.2.1∈Ae x.1))
abbrev TS:Type:=(Int×ByteArray×List (List Int)×PUnit)×List (List Int)×List Int×(ByteArray->Option Int)×List Int×List Int×List (List Int)×PUnit
theorem Amq (e:Option (PP×List (List Int)×List Int×(ByteArray->Option Int)×List Int×List Int×List (List Int)×Unit)) (s:List Int) (P:(Int×Bool×Unit)->Prop):(∃(y3:TS),e=some y3/\ ∃(y4:Bool),Ze.fn (y3.1,s,())=some y4/\Br (!y4) (P ((0:Int),false,())) (∃(y5:TS),e=some y5/\ ∃(y6:ByteArray),Iw.fn (s,())=some y6/\P ((y5.2.2.2.1 y6).getD (Int.ofNat (nat_lit 0)),(y5.2.2.2.1 y6).isSome,())))=fnW Hf (look [(80,Ze),(24,Iw)]) Sx Try.f52 (e,s,()) P:=by kernel_rfl
abbrev Es:Type:=List (List Int)×List Int×List Int×Bool×PUnit
theorem QV (p:Int×ByteArray×List (List Int)×Unit) (P:((List (List Int)×List Int×List Int×Bool×Unit)×Bool×Unit)->Prop):(∃(y2:Bool),Je.fn ((p.1,p.2.1,p.2.2.1,()),())=some y2/\Br (!y2) (P ((List.take 0 (List.drop 0 []),List.take 0 (List.drop 0 []),List.take 0 (List.drop 0 []),false,()),false,())) (((((∃(y3:List Int),Fg.fn (p.1,())=some y3/\(∃(y4:Es),Hu.fn ((p.1,p.2.1,p.2.2.1,()),y3,())=some y4/\((P ((y4.1,y4.2.1,y4.2.2.1,y4.2.2.2.1,()),y4.2.2.2.1,())/\P ((y4.1,y4.2.1,y4.2.2.1,y4.2.2.2.1,()),y4.2.2.2.1,()))/\P ((y4.1,y4.2.1,y4.2.2.1,y4.2.2.2.1,()),y4.2.2.2.1,()))/\(P ((y4.1,y4.2.1,y4.2.2.1,y4.2.2.2.1,()),y4.2.2.2.1,())/\P ((y4.1,y4.2.1,y4.2.2.1,y4.2.2.2.1,()),y4.2.2.2.1,()))/\P ((y4.1,y4.2.1,y4.2.2.1,y4.2.2.2.1,()),y4.2.2.2.1,()))/\ ∃(y4:Es),Hu.fn ((p.1,p.2.1,p.2.2.1,()),y3,())=some y4/\((P ((y4.1,y4.2.1,y4.2.2.1,y4.2.2.2.1,()),y4.2.2.2.1,())/\P ((y4.1,y4.2.1,y4.2.2.1,y4.2.2.2.1,()),y4.2.2.2.1,()))/\P ((y4.1,y4.2.1,y4.2.2.1,y4.2.2.2.1,()),y4.2.2.2.1,()))/\(P ((y4.1,y4.2.1,y4.2.2.1,y4.2.2.2.1,()),y4.2.2.2.1,())/\P ((y4.1,y4.2.1,y4.2.2.1,y4.2.2.2.1,()),y4.2.2.2.1,()))/\P ((y4.1,y4.2.1,y4.2.2.1,y4.2.2.2.1,()),y4.2.2.2.1,()))/\ ∃(y3:List Int),Fg.fn (p.1,())=some y3/\ ∃(y4:Es),Hu.fn ((p.1,p.2.1,p.2.2.1,()),y3,())=some y4/\((P ((y4.1,y4.2.1,y4.2.2.1,y4.2.2.2.1,()),y4.2.2.2.1,())/\P ((y4.1,y4.2.1,y4.2.2.1,y4.2.2.2.1,()),y4.2.2.2.1,()))/\P ((y4.1,y4.2.1,y4.2.2.1,y4.2.2.2.1,()),y4.2.2.2.1,()))/\(P ((y4.1,y4.2.1,y4.2.2.1,y4.2.2.2.1,()),y4.2.2.2.1,())/\P ((y4.1,y4.2.1,y4.2.2.1,y4.2.2.2.1,()),y4.2.2.2.1,()))/\P ((y4.1,y4.2.1,y4.2.2.1,y4.2.2.2.1,()),y4.2.2.2.1,()))/\ ∃(y3:List Int),Fg.fn (p.1,())=some y3/\ ∃(y4:Es),Hu.fn ((p.1,p.2.1,p.2.2.1,()),y3,())=some y4/\((P ((y4.1,y4.2.1,y4.2.2.1,y4.2.2.2.1,()),y4.2.2.2.1,())/\P ((y4.1,y4.2.1,y4.2.2.1,y4.2.2.2.1,()),y4.2.2.2.1,()))/\P ((y4.1,y4.2.1,y4.2.2.1,y4.2.2.2.1,()),y4.2.2.2.1,()))/\(P ((y4.1,y4.2.1,y4.2.2.1,y4.2.2.2.1,()),y4.2.2.2.1,())/\P ((y4.1,y4.2.1,y4.2.2.1,y4.2.2.2.1,()),y4.2.2.2.1,()))/\P ((y4.1,y4.2.1,y4.2.2.1,y4.2.2.2.1,()),y4.2.2.2.1,()))/\ ∃(y3:List Int),Fg.fn (p.1,())=some y3/\ ∃(y4:Es),Hu.fn ((p.1,p.2.1,p.2.2.1,()),y3,())=some y4/\((P ((y4.1,y4.2.1,y4.2.2.1,y4.2.2.2.1,()),y4.2.2.2.1,())/\P ((y4.1,y4.2.1,y4.2.2.1,y4.2.2.2.1,()),y4.2.2.2.1,()))/\P ((y4.1,y4.2.1,y4.2.2.1,y4.2.2.2.1,()),y4.2.2.2.1,()))/\(P ((y4.1,y4.2.1,y4.2.2.1,y4.2.2.2.1,()),y4.2.2.2.1,())/\P ((y4.1,y4.2.1,y4.2.2.1,y4.2.2.2.1,()),y4.2.2.2.1,()))/\P ((y4.1,y4.2.1,y4.2.2.1,y4.2.2.2.1,()),y4.2.2.2.1,()))/\((((∃(y3:List Int),Fg.fn (p.1,())=some y3/\(∃(y4:Es),Hu.fn ((p.1,p.2.1,p.2.2.1,()),y3,())=some y4/\((P ((y4.1,y4.2.1,y4.2.2.1,y4.2.2.2.1,()),y4.2.2.2.1,())/\P ((y4.1,y4.2.1,y4.2.2.1,y4.2.2.2.1,()),y4.2.2.2.1,()))/\P ((y4.1,y4.2.1,y4.2.2.1,y4.2.2.2.1,()),y4.2.2.2.1,()))/\(P ((y4.1,y4.2.1,y4.2.2.1,y4.2.2.2.1,()),y4.2.2.2.1,())/\P ((y4.1,y4.2.1,y4.2.2.1,y4.2.2.2.1,()),y4.2.2.2.1,()))/\P ((y4.1,y4.2.1,y4.2.2.1,y4.2.2.2.1,()),y4.2.2.2.1,()))/\ ∃(y4:Es),Hu.fn ((p.1,p.2.1,p.2.2.1,()),y3,())=some y4/\((P ((y4.1,y4.2.1,y4.2.2.1,y4.2.2.2.1,()),y4.2.2.2.1,())/\P ((y4.1,y4.2.1,y4.2.2.1,y4.2.2.2.1,()),y4.2.2.2.1,()))/\P ((y4.1,y4.2.1,y4.2.2.1,y4.2.2.2.1,()),y4.2.2.2.1,()))/\(P ((y4.1,y4.2.1,y4.2.2.1,y4.2.2.2.1,()),y4.2.2.2.1,())/\P ((y4.1,y4.2.1,y4.2.2.1,y4.2.2.2.1,()),y4.2.2.2.1,()))/\P ((y4.1,y4.2.1,y4.2.2.1,y4.2.2.2.1,()),y4.2.2.2.1,()))/\ ∃(y3:List Int),Fg.fn (p.1,())=some y3/\ ∃(y4:Es),Hu.fn ((p.1,p.2.1,p.2.2.1,()),y3,())=some y4/\((P ((y4.1,y4.2.1,y4.2.2.1,y4.2.2.2.1,()),y4.2.2.2.1,())/\P ((y4.1,y4.2.1,y4.2.2.1,y4.2.2.2.1,()),y4.2.2.2.1,()))/\P ((y4.1,y4.2.1,y4.2.2.1,y4.2.2.2.1,()),y4.2.2.2.1,()))/\(P ((y4.1,y4.2.1,y4.2.2.1,y4.2.2.2.1,()),y4.2.2.2.1,())/\P ((y4.1,y4.2.1,y4.2.2.1,y4.2.2.2.1,()),y4.2.2.2.1,()))/\P ((y4.1,y4.2.1,y4.2.2.1,y4.2.2.2.1,()),y4.2.2.2.1,()))/\ ∃(y3:List Int),Fg.fn (p.1,())=some y3/\ ∃(y4:Es),Hu.fn ((p.1,p.2.1,p.2.2.1,()),y3,())=some y4/\((P ((y4.1,y4.2.1,y4.2.2.1,y4.2.2.2.1,()),y4.2.2.2.1,())/\P ((y4.1,y4.2.1,y4.2.2.1,y4.2.2.2.1,()),y4.2.2.2.1,()))/\P ((y4.1,y4.2.1,y4.2.2.1,y4.2.2.2.1,()),y4.2.2.2.1,()))/\(P ((y4.1,y4.2.1,y4.2.2.1,y4.2.2.2.1,()),y4.2.2.2.1,())/\P ((y4.1,y4.2.1,y4.2.2.1,y4.2.2.2.1,()),y4.2.2.2.1,()))/\P ((y4.1,y4.2.1,y4.2.2.1,y4.2.2.2.1,()),y4.2.2.2.1,()))/\(((∃(y3:List Int),Fg.fn (p.1,())=some y3/\(∃(y4:Es),Hu.fn ((p.1,p.2.1,p.2.2.1,()),y3,())=some y4/\((P ((y4.1,y4.2.1,y4.2.2.1,y4.2.2.2.1,()),y4.2.2.2.1,())/\P ((y4.1,y4.2.1,y4.2.2.1,y4.2.2.2.1,()),y4.2.2.2.1,()))/\P ((y4.1,y4.2.1,y4.2.2.1,y4.2.2.2.1,()),y4.2.2.2.1,()))/\(P ((y4.1,y4.2.1,y4.2.2.1,y4.2.2.2.1,()),y4.2.2.2.1,())/\P ((y4.1,y4.2.1,y4.2.2.1,y4.2.2.2.1,()),y4.2.2.2.1,()))/\P ((y4.1,y4.2.1,y4.2.2.1,y4.2.2.2.1,()),y4.2.2.2.1,()))/\ ∃(y4:Es),Hu.fn ((p.1,p.2.1,p.2.2.1,()),y3,())=some y4/\((P ((y4.1,y4.2.1,y4.2.2.1,y4.2.2.2.1,()),y4.2.2.2.1,())/\P ((y4.1,y4.2.1,y4.2.2.1,y4.2.2.2.1,()),y4.2.2.2.1,()))/\P ((y4.1,y4.2.1,y4.2.2.1,y4.2.2.2.1,()),y4.2.2.2.1,()))/\(P ((y4.1,y4.2.1,y4.2.2.1,y4.2.2.2.1,()),y4.2.2.2.1,())/\P ((y4.1,y4.2.1,y4.2.2.1,y4.2.2.2.1,()),y4.2.2.2.1,()))/\P ((y4.1,y4.2.1,y4.2.2.1,y4.2.2.2.1,()),y4.2.2.2.1,()))/\ ∃(y3:List Int),Fg.fn (p.1,())=some y3/\ ∃(y4:Es),Hu.fn ((p.1,p.2.1,p.2.2.1,()),y3,())=some y4/\((P ((y4.1,y4.2.1,y4.2.2.1,y4.2.2.2.1,()),y4.2.2.2.1,())/\P ((y4.1,y4.2.1,y4.2.2.1,y4.2.2.2.1,()),y4.2.2.2.1,()))/\P ((y4.1,y4.2.1,y4.2.2.1,y4.2.2.2.1,()),y4.2.2.2.1,()))/\(P ((y4.1,y4.2.1,y4.2.2.1,y4.2.2.2.1,()),y4.2.2.2.1,())/\P ((y4.1,y4.2.1,y4.2.2.1,y4.2.2.2.1,()),y4.2.2.2.1,()))/\P ((y4.1,y4.2.1,y4.2.2.1,y4.2.2.2.1,()),y4.2.2.2.1,()))/\(∃(y3:List Int),Fg.fn (p.1,())=some y3/\((∃(y4:Es),Hu.fn ((p.1,p.2.1,p.2.2.1,()),y3,())=some y4/\((P ((y4.1,y4.2.1,y4.2.2.1,y4.2.2.2.1,()),y4.2.2.2.1,())/\P ((y4.1,y4.2.1,y4.2.2.1,y4.2.2.2.1,()),y4.2.2.2.1,()))/\P ((y4.1,y4.2.1,y4.2.2.1,y4.2.2.2.1,()),y4.2.2.2.1,()))/\(P ((y4.1,y4.2.1,y4.2.2.1,y4.2.2.2.1,()),y4.2.2.2.1,())/\P ((y4.1,y4.2.1,y4.2.2.1,y4.2.2.2.1,()),y4.2.2.2.1,()))/\P ((y4.1,y4.2.1,y4.2.2.1,y4.2.2.2.1,()),y4.2.2.2.1,()))/\ ∃(y4:Es),Hu.fn ((p.1,p.2.1,p.2.2.1,()),y3,())=some y4/\((P ((y4.1,y4.2.1,y4.2.2.1,y4.2.2.2.1,()),y4.2.2.2.1,())/\P ((y4.1,y4.2.1,y4.2.2.1,y4.2.2.2.1,()),y4.2.2.2.1,()))/\P ((y4.1,y4.2.1,y4.2.2.1,y4.2.2.2.1,()),y4.2.2.2.1,()))/\(P ((y4.1,y4.2.1,y4.2.2.1,y4.2.2.2.1,()),y4.2.2.2.1,())/\P ((y4.1,y4.2.1,y4.2.2.1,y4.2.2.2.1,()),y4.2.2.2.1,()))/\P ((y4.1,y4.2.1,y4.2.2.1,y4.2.2.2.1,()),y4.2.2.2.1,()))/\ ∃(y4:Es),Hu.fn ((p.1,p.2.1,p.2.2.1,()),y3,())=some y4/\((P ((y4.1,y4.2.1,y4.2.2.1,y4.2.2.2.1,()),y4.2.2.2.1,())/\P ((y4.1,y4.2.1,y4.2.2.1,y4.2.2.2.1,()),y4.2.2.2.1,()))/\P ((y4.1,y4.2.1,y4.2.2.1,y4.2.2.2.1,()),y4.2.2.2.1,()))/\(P ((y4.1,y4.2.1,y4.2.2.1,y4.2.2.2.1,()),y4.2.2.2.1,())/\P ((y4.1,y4.2.1,y4.2.2.1,y4.2.2.2.1,()),y4.2.2.2.1,()))/\P ((y4.1,y4.2.1,y4.2.2.1,y4.2.2.2.1,()),y4.2.2.2.1,()))/\(∃(y3:List Int),Fg.fn (p.1,())=some y3/\ ∃(y4:Es),Hu.fn ((p.1,p.2.1,p.2.2.1,()),y3,())=some y4/\((P ((y4.1,y4.2.1,y4.2.2.1,y4.2.2.2.1,()),y4.2.2.2.1,())/\P ((y4.1,y4.2.1,y4.2.2.1,y4.2.2.2.1,()),y4.2.2.2.1,()))/\P ((y4.1,y4.2.1,y4.2.2.1,y4.2.2.2.1,()),y4.2.2.2.1,()))/\(P ((y4.1,y4.2.1,y4.2.2.1,y4.2.2.2.1,()),y4.2.2.2.1,())/\P ((y4.1,y4.2.1,y4.2.2.1,y4.2.2.2.1,()),y4.2.2.2.1,()))/\P ((y4.1,y4.2.1,y4.2.2.1,y4.2.2.2.1,()),y4.2.2.2.1,()))/\ ∃(y3:List Int),Fg.fn (p.1,())=some y3/\ ∃(y4:Es),Hu.fn ((p.1,p.2.1,p.2.2.1,()),y3,())=some y4/\((P ((y4.1,y4.2.1,y4.2.2.1,y4.2.2.2.1,()),y4.2.2.2.1,())/\P ((y4.1,y4.2.1,y4.2.2.1,y4.2.2.2.1,()),y4.2.2.2.1,()))/\P ((y4.1,y4.2.1,y4.2.2.1,y4.2.2.2.1,()),y4.2.2.2.1,()))/\(P ((y4.1,y4.2.1,y4.2.2.1,y4.2.2.2.1,()),y4.2.2.2.1,())/\P ((y4.1,y4.2.1,y4.2.2.1,y4.2.2.2.1,()),y4.2.2.2.1,()))/\P ((y4.1,y4.2.1,y4.2.2.1,y4.2.2.2.1,()),y4.2.2.2.1,()))/\(∃(y3:List Int),Fg.fn (p.1,())=some y3/\ ∃(y4:Es),Hu.fn ((p.1,p.2.1,p.2.2.1,()),y3,())=some y4/\((P ((y4.1,y4.2.1,y4.2.2.1,y4.2.2.2.1,()),y4.2.2.2.1,())/\P ((y4.1,y4.2.1,y4.2.2.1,y4.2.2.2.1,()),y4.2.2.2.1,()))/\P ((y4.1,y4.2.1,y4.2.2.1,y4.2.2.2.1,()),y4.2.2.2.1,()))/\(P ((y4.1,y4.2.1,y4.2.2.1,y4.2.2.2.1,()),y4.2.2.2.1,())/\P ((y4.1,y4.2.1,y4.2.2.1,y4.2.2.2.1,()),y4.2.2.2.1,()))/\P ((y4.1,y4.2.1,y4.2.2.1,y4.2.2.2.1,()),y4.2.2.2.1,()))/\(∃(y3:List Int),Fg.fn (p.1,())=some y3/\ ∃(y4:Es),Hu.fn ((p.1,p.2.1,p.2.2.1,()),y3,())=some y4/\((P ((y4.1,y4.2.1,y4.2.2.1,y4.2.2.2.1,()),y4.2.2.2.1,())/\P ((y4.1,y4.2.1,y4.2.2.1,y4.2.2.2.1,()),y4.2.2.2.1,()))/\P ((y4.1,y4.2.1,y4.2.2.1,y4.2.2.2.1,()),y4.2.2.2.1,()))/\(P ((y4.1,y4.2.1,y4.2.2.1,y4.2.2.2.1,()),y4.2.2.2.1,())/\P ((y4.1,y4.2.1,y4.2.2.1,y4.2.2.2.1,()),y4.2.2.2.1,()))/\P ((y4.1,y4.2.1,y4.2.2.1,y4.2.2.2.1,()),y4.2.2.2.1,()))/\ ∃(y3:List Int),Fg.fn (p.1,())=some y3/\ ∃(y4:Es),Hu.fn ((p.1,p.2.1,p.2.2.1,()),y3,())=some y4/\((P ((y4.1,y4.2.1,y4.2.2.1,y4.2.2.2.1,()),y4.2.2.2.1,())/\P ((y4.1,y4.2.1,y4.2.2.1,y4.2.2.2.1,()),y4.2.2.2.1,()))/\P ((y4.1,y4.2.1,y4.2.2.1,y4.2.2.2.1,()),y4.2.2.2.1,()))/\(P ((y4.1,y4.2.1,y4.2.2.1,y4.2.2.2.1,()),y4.2.2.2.1,())/\P ((y4.1,y4.2.1,y4.2.2.1,y4.2.2.2.1,()),y4.2.2.2.1,()))/\P ((y4.1,y4.2.1,y4.2.2.1,y4.2.2.2.1,()),y4.2.2.2.1,()))/\(∃(y3:List Int),Fg.fn (p.1,())=some y3/\ ∃(y4:Es),Hu.fn ((p.1,p.2.1,p.2.2.1,()),y3,())=some y4/\((P ((y4.1,y4.2.1,y4.2.2.1,y4.2.2.2.1,()),y4.2.2.2.1,())/\P ((y4.1,y4.2.1,y4.2.2.1,y4.2.2.2.1,()),y4.2.2.2.1,()))/\P ((y4.1,y4.2.1,y4.2.2.1,y4.2.2.2.1,()),y4.2.2.2.1,()))/\(P ((y4.1,y4.2.1,y4.2.2.1,y4.2.2.2.1,()),y4.2.2.2.1,())/\P ((y4.1,y4.2.1,y4.2.2.1,y4.2.2.2.1,()),y4.2.2.2.1,()))/\P ((y4.1,y4.2.1,y4.2.2.1,y4.2.2.2.1,()),y4.2.2.2.1,()))/\(∃(y3:List Int),Fg.fn (p.1,())=some y3/\ ∃(y4:Es),Hu.fn ((p.1,p.2.1,p.2.2.1,()),y3,())=some y4/\((P ((y4.1,y4.2.1,y4.2.2.1,y4.2.2.2.1,()),y4.2.2.2.1,())/\P ((y4.1,y4.2.1,y4.2.2.1,y4.2.2.2.1,()),y4.2.2.2.1,()))/\P ((y4.1,y4.2.1,y4.2.2.1,y4.2.2.2.1,()),y4.2.2.2.1,()))/\(P ((y4.1,y4.2.1,y4.2.2.1,y4.2.2.2.1,()),y4.2.2.2.1,())/\P ((y4.1,y4.2.1,y4.2.2.1,y4.2.2.2.1,()),y4.2.2.2.1,()))/\P ((y4.1,y4.2.1,y4.2.2.1,y4.2.2.2.1,()),y4.2.2.2.1,()))/\(∃(y3:List Int),Fg.fn (p.1,())=some y3/\ ∃(y4:Es),Hu.fn ((p.1,p.2.1,p.2.2.1,()),y3,())=some y4/\((P ((y4.1,y4.2.1,y4.2.2.1,y4.2.2.2.1,()),y4.2.2.2.1,())/\P ((y4.1,y4.2.1,y4.2.2.1,y4.2.2.2.1,()),y4.2.2.2.1,()))/\P ((y4.1,y4.2.1,y4.2.2.1,y4.2.2.2.1,()),y4.2.2.2.1,()))/\(P ((y4.1,y4.2.1,y4.2.2.1,y4.2.2.2.1,()),y4.2.2.2.1,())/\P ((y4.1,y4.2.1,y4.2.2.1,y4.2.2.2.1,()),y4.2.2.2.1,()))/\P ((y4.1,y4.2.1,y4.2.2.1,y4.2.2.2.1,()),y4.2.2.2.1,()))/\ ∃(y3:List Int),Fg.fn (p.1,())=some y3/\ ∃(y4:Es),Hu.fn ((p.1,p.2.1,p.2.2.1,()),y3,())=some y4/\((P ((y4.1,y4.2.1,y4.2.2.1,y4.2.2.2.1,()),y4.2.2.2.1,())/\P ((y4.1,y4.2.1,y4.2.2.1,y4.2.2.2.1,()),y4.2.2.2.1,()))/\P ((y4.1,y4.2.1,y4.2.2.1,y4.2.2.2.1,()),y4.2.2.2.1,()))/\(P ((y4.1,y4.2.1,y4.2.2.1,y4.2.2.2.1,()),y4.2.2.2.1,())/\P ((y4.1,y4.2.1,y4.2.2.1,y4.2.2.2.1,()),y4.2.2.2.1,()))/\P ((y4.1,y4.2.1,y4.2.2.1,y4.2.2.2.1,()),y4.2.2.2.1,())))=fnW Hf (look [(64,Je),(58,Fg),(95,Hu)]) Ql Try.f70 (p,()) P:=by kernel_rfl
theorem XT (p:Int×ByteArray×List (List Int)×Unit) (f:List (List Int)×List Int×List Int×Bool×Unit) (s:List Int) (P:Bool->Prop):(∃(y4:Bool),bJ.fn ((p.1,p.2.1,p.2.2.1,()),s,())=some y4/\Br y4 (∃(y5:Int),Ge.fn ((f.1,f.2.1,f.2.2.1,f.2.2.2.1,()),s,())=some y5/\P (decide (y5>=(0:Int)))) (P false))=fnW Hf (look [(73,bJ),(40,Ge)]) bG Try.f38 (p,f,s,()) P:=by kernel_rfl
theorem VE {p:List Int} (h:bO p):Kz p=true:=by
 refine Ib.2 ⟨h.pos,h.len,λj h1 h2=>?_⟩;have:=h.row _ (Ah h2)
 exact ⟨by omega,by omega,λhm=>by
  obtain ⟨i,hi,e⟩:=Bg.1 hm
  have cO:i<j:=by rw [Dx] at hi;omega
  rw [List.getElem_take] at e
  exact (Fu.1 h.nodup i j (by omega) h2 cO) e⟩
theorem Dl {p:PP} (hw:Dc p=true):Da p=true/\(Jn p.2.2.1 (upto p.1.toNat)).2.2=true:=Hc.1 hw
theorem JQ {p:PP} (hw:Dc p=true):Reach p (Ae p) (Bj p) true:=by
 have h:=cy (Dl hw).1;rw [(Dl hw).2] at h;exact h
theorem cH {p:PP} (hv:Da p=true):Xy p p.1.toNat (Ae p) (Bj p):=(cy hv).ok
theorem Aa5 {p:PP} (hV:Valid p):RE p.1.toNat λg=>some g∈p.2.2.1.map some:=
 ⟨by have:=hV.n;omega,λg fz=>by obtain ⟨g',e,h⟩:=uQ (nG hV).2.2 _ fz;cases e;exact h⟩
theorem fo {p:PP} (hv:Da p=true) {x:List Int} (hx:x∈Ae p):Pm p.1.toNat x:=eo.pm (Aa5 (valid hv)) ((cy hv).gen x hx)
theorem Am4 {p:PP} (hV:Valid p) {x:List Int} (h:Pm p.1.toNat x):Ix p.1 x=true:=by
 have:=hV.n;have:=h.1;exact Ib.2 ⟨by omega,VE h.2⟩
theorem Aa4 {p:PP} (_hV:Valid p) {x:List Int} (h:Ix p.1 x=true):Pm p.1.toNat x:=by
 obtain ⟨h1,h2⟩:=Ib.1 h;exact ⟨by omega,mX h2⟩
theorem Acv {p:PP} (hv:Da p=true) {x:List Int} (hx:x∈Ae p):Ix p.1 x=true:=Am4 (valid hv) (fo hv hx)
theorem Agv {p:PP} (hv:Da p=true) {x:List Int} (hx:x∈Ae p):Ya x:= λy hy=>by
 have h1:=(cH hv).row x hx y hy;have:=(valid hv).n;omega
theorem Agp {n:Nat} {x:List Int} (h:Pm n x):Ya x:= λy hy=>by
 have h1:=h.row y hy;have:=h.n2;omega
theorem uP {n:Nat} {x:List Int} (h:Pm n x):short x:=by
 have h1:=h.1;have:=h.n2;unfold short;omega
theorem bh {p:PP} (hw:Dc p=true):(Gr p).2.1=Ae p/\(Gr p).2.2.1=Bj p:=by
 have h:=(Dl hw).2;refine FL 3001 0 ([upto p.1.toNat],[0],[0],[0]) [] _ _ ?_;show Lt p.2.2.1 (Aq p.2.2.1.length) 3001 0 [upto p.1.toNat] [0]=(Ae p,Bj p,true);rw [<-h];rfl
theorem Af8 {p:PP} (hw:Dc p=true) {s:List Int} (hs:Ya s):(Gr p).2.2.2.1 (Tq s)=if s∈Ae p then some (((Ae p).idxOf s:Nat):Int) else none:=by
 show a5 (Gr p).2.1 (Tq s)=_;rw [(bh hw).1,yi hs λy hy=>Agv (Dl hw).1 hy]
theorem Alu (e:Option XP) (s:List Int) (h:(∃e':XP,e=some e'/\nu e')/\short s):fnW Hf (look [(80,Ze),(24,Iw)]) Sx Try.f52 (e,s,()) (λ(z:Int×Bool×Unit)=>z=Abl e s):=by
 obtain ⟨⟨e',rfl,h1,h2⟩,hs⟩:=h;have hv:=(Dl h1).1;refine Eq.mp (Amq (some e') s _) ⟨e',rfl,_,Ac hs,Br.of (λhb=>?_) λhb=>⟨e',rfl,_,Ac hs,?_⟩⟩
 ·have hb:=Gs hb;show (0,false,())=Ir e'.1 s;unfold Ir;rw [Ai λhm=>hb (Acv hv hm)]
 ·have hb:Ix e'.1.1 s=true:=by simpa using hb
  have hp:=Aa4 (valid hv) hb;dsimp only
  have e3:e'.2.2.2.1=(Gr e'.1).2.2.2.1:=by rw [<-h2]
  rw [e3,Af8 h1 (Agp hp)];show _=Ir e'.1 s;unfold Ir
  split<;>rfl
theorem gH:Sound Try.prog 52 Sx:=
 Sound.Ho Ez (Bf nh (Bf jZ Ce)) mixed Try.func52 (by kernel_rfl) (by kernel_rfl) λx h=>Alu x.1 x.2.1 h
theorem OU (p:PP) (h:Fo p):fnW Hf (look [(64,Je),(58,Fg),(95,Hu)]) Ql Try.f70 (p,()) (λ(z:SS×Bool×Unit)=>z=Ld p):=by
 refine Eq.mp (QV p _) ⟨_,Ac h,?_⟩;show Br (!Da p) _ _;unfold Ld
 by_cases hv:Da p=true
 ·rw [Ac hv,hv];refine ⟨λhb=>by simp at hb,λ_=>?_⟩;have hn:=(valid hv).n;have hid:Fg.fn (p.1,())=some (upto p.1.toNat):=Ac ⟨by show 0<=p.1;omega,by show p.1<=20;omega⟩
  have hup: ∀y∈upto p.1.toNat,0<=y/\y<p.1:= λy hy=>by have:=Nd.1 hy;omega
  have zK:Hu.fn ((p.1,p.2.1,p.2.2.1,()),upto p.1.toNat,())=some (Bq p.2.2.1 (upto p.1.toNat)):=Ac ⟨hv,by show (upto p.1.toNat).length<=20;rw [Uv];omega,hup⟩
  have hz:(((Bq p.2.2.1 (upto p.1.toNat)).1,(Bq p.2.2.1 (upto p.1.toNat)).2.1,(Bq p.2.2.1 (upto p.1.toNat)).2.2.1,(Bq p.2.2.1 (upto p.1.toNat)).2.2.2.1,()),(Bq p.2.2.1 (upto p.1.toNat)).2.2.2.1,())=(Bq p.2.2.1 (upto p.1.toNat),Dc p,()):=by
   unfold Dc;rw [hv,Ta];rfl
  repeat' (first|exact hz|refine ⟨_,hid,?_⟩|refine ⟨_,zK,?_⟩|refine ⟨?_,?_⟩)
 ·rw [Ai hv];refine ⟨λ_=>rfl,λhb=>?_⟩;exact absurd (by simpa using hb) hv
theorem vG:Sound Try.prog 70 Ql:=
 Sound.Ho Ez (Bf Zn (Bf vu (Bf JN Ce))) mixed Try.func70 (by kernel_rfl) (by kernel_rfl) λx h=>OU x.1 h
theorem WA (p:PP) (f:SS) (s:List Int) (h:Fo p/\short s/\Da p=true/\f=Bq p.2.2.1 (upto p.1.toNat)):fnW Hf (look [(73,bJ),(40,Ge)]) bG Try.f38 (p,f,s,()) (λ(z:Bool)=>z=decide (s∈Ae p)):=by
 obtain ⟨hp,hs,hv,rfl⟩:=h;refine Eq.mp (XT p _ s _) ⟨_,Ac ⟨hp,hs⟩,?_⟩;show Br (Da p&&Ix p.1 s) _ _;rw [hv,Ta];refine Br.of (λhb=>?_) λhb=>?_
 ·have hpm:=Aa4 (valid hv) hb;refine ⟨_,Ac (by show Gp s.length (Ae p) (aC (Ae p));rw [hpm.1];exact (cH hv).ok),?_⟩;show decide (Nr (Ae p) s>=0)=_;unfold Nr;split
  ·rename_i hm;rw [Ci hm];exact Ci (by omega)
  ·rename_i hm;rw [Ey hm];rfl
 ·exact (Ey λhm=>by rw [Acv hv hm] at hb;cases hb).symm
theorem xg:Sound Try.prog 38 bG:=
 Sound.Ho Ez (Bf oT (Bf Qm Ce)) mixed Try.func38 (by kernel_rfl) (by kernel_rfl) λx h=>WA x.1 x.2.1 x.2.2.1 h
theorem zo {b:Bool} (h:(!b)=true):b=false:=by cases b<;>simp_all
theorem Xn {p:PP} (hv:Da p=true):(Ae p).length<=3000:=(cH hv).ok.eK
theorem vJ {p:PP} (hp:Fo p) (hw:Dc p=true):Ql.fn ((p.1,p.2.1,p.2.2.1,()),())=some (Bq p.2.2.1 (upto p.1.toNat),true,()):=
 (Ac hp).trans (Dz some ((Ac (Dl hw).1).trans (by rw [<-hw])))
def So (g:List (List Int)) (s w:List Int):List Int:=w.foldl (λq l=>Am q (Ax g l)) s
theorem LR {g:List (List Int)} {s w:List Int} {j:Nat} (h:j<w.length):So g s (w.take (j+1))=Am (So g s (w.take j)) (Ax g w[j]):=by
 unfold So;rw [Iu,Ad h,Ui,Fz];rfl
theorem Acf {n:Nat} {q:List Int} (h:Pm n q):q.length<=20:=by have:=h.1;have:=h.n2;omega
theorem IS {p:PP} (hV:Valid p) {q:List Int} (h:Pm p.1.toNat q): ∀y∈q,0<=y/\y<p.1:= λy hy=>by
 have:=h.row y hy;have:=hV.n;omega
def Vp (b:ByteArray) (t:List Int):ByteArray:=t.foldl (λa k=>a++b.extract k.toNat (k+1).toNat) ByteArray.empty
def Bc (p:PP) (t:List Int):PP:=(p.1,Vp p.2.1 t,t.map λk=>p.2.2.1.getD k.toNat [],())
noncomputable abbrev Zi:Spec:=Ho (.pair Gi (.pair tL .unit)) Gi false true (λx=>Fo x.1/\Dg x.1 x.2.1=true) (λx=>Bc x.1 x.2.1)
noncomputable abbrev Tl:Spec:=Ho (.pair Gi (.pair tL .unit)) Gi false true (λx=>Fo x.1/\Dg x.1 x.2.1=true) (λx=>Bc x.1 x.2.1)
noncomputable abbrev Mp:MSpec:=cW [some 3,none] [(false, .Ia tI),(false, .Ia .str),(false, .Ia kh),(false, .Ia tL)] false [some 3] [.Ia tI, .Ia .str,xLL]
 (λx=>Fo (x.1,x.2.1,x.2.2.1,())/\Dg (x.1,x.2.1,x.2.2.1,()) x.2.2.2.1=true) (λx=>(((Bc (x.1,x.2.1,x.2.2.1,()) x.2.2.2.1).1,(Bc (x.1,x.2.1,x.2.2.1,()) x.2.2.2.1).2.1,(Bc (x.1,x.2.1,x.2.2.1,()) x.2.2.2.1).2.2.1,()),()))
abbrev HP:Type:=Option XP×List Int×Option XP×Unit
noncomputable def Ks (p:PP) (t:List Int):Bool:=Dc p&&Dg p t
noncomputable def Eo (p:PP) (t:List Int):HP:=(some (Gr p),t,some (Gr (Bc p t)),())
noncomputable abbrev Pz:Spec:=Ho (.pair Gi (.pair tL .unit)) (.pair (.optr dF) (.pair .bool .unit)) true false (λx=>Fo x.1/\short x.2.1) (λx=>if Ks x.1 x.2.1=true then (some (Eo x.1 x.2.1),true,()) else (none,false,()))
noncomputable abbrev Sy:Spec:=Ho (.pair Gi (.pair tL (.pair tL .unit))) (.pair (.optr dF) (.pair tI (.pair .bool .unit))) true false (λx=>Fo x.1/\short x.2.1/\short x.2.2.1)
 (λx=>if Ks x.1 x.2.1=true then (some (Eo x.1 x.2.1),(Ir x.1 x.2.2.1).1,(Ir x.1 x.2.2.1).2.1,()) else (none,0,false,()))
noncomputable def mQ (h:Option HP) (i:Int):Bool:=match h with
 |some (some e,t,_)=>decide ((Ae e.1).getD i.toNat []∈Ae (Bc e.1 t))
 |_=>false
noncomputable abbrev nf:Spec:=Ho (.pair (.optr dF) (.pair tI .unit)) .bool false true (λx=>(∃p t,Ks p t=true/\x.1=some (Eo p t)/\0<=x.2.1/\x.2.1<(Ae p).length)) (λx=>mQ x.1 x.2.1)
noncomputable abbrev jR:Spec:=Ho (.pair Gi (.pair tL .unit)) (.pair Qn (.pair Qn (.pair .bool .unit))) true false (λx=>Fo x.1/\short x.2.1)
 (λx=>(if Ks x.1 x.2.1=true then (Bq x.1.2.2.1 (upto x.1.1.toNat),Bq (Bc x.1 x.2.1).2.2.1 (upto x.1.1.toNat),true,()) else ((Ld x.1).1,(Ld x.1).1,false,())))
abbrev rQ:Type:=Int×Int×ByteArray×List (List Int)×Int×ByteArray×Int×ByteArray×List (List Int)×List (List Int)×PUnit
theorem QU (p:Int×ByteArray×List (List Int)×Unit) (t:List Int) (P:(Int×ByteArray×List (List Int)×Unit)->Prop):(0=0/\0=([]:List Int).length/\0=0/\0=([]:List Int).length/\Dh (λ(v3:rQ) (k4:rQ->Prop)=>Br (decide (v3.1<(↑t.length:Int))) (∃(y5:Int),idx t v3.1=some y5/\((0:Int)<=y5/\y5<=IntKind.i64.wrap (y5+(1:Int))/\IntKind.i64.wrap (y5+(1:Int))<=(↑v3.2.2.1.size:Int))/\v3.2.2.2.2.2.2.2.1.size+(v3.2.2.1.extract y5.toNat (IntKind.i64.wrap (y5+(1:Int))).toNat).size<=4294967296/\ ∃(y6:List Int),idx v3.2.2.2.1 y5=some y6/\ ∃(y7:List Int),Qk.fn (y6,())=some y7/\0=0/\v3.2.2.2.2.2.2.2.2.2.1.length=v3.2.2.2.2.2.2.2.2.2.1.length/\v3.2.2.2.2.2.2.2.2.2.1.length+ [y7].length<=Db/\0=0/\v3.2.2.2.2.2.2.2.2.1.length=v3.2.2.2.2.2.2.2.2.1.length/\0=0/\(v3.2.2.2.2.2.2.2.2.2.1++ [y7]).length=(v3.2.2.2.2.2.2.2.2.2.1++ [y7]).length/\k4 (IntKind.i64.wrap (v3.1+(1:Int)),v3.2.1,v3.2.2.1,v3.2.2.2.1,v3.2.2.2.2.1,v3.2.2.2.2.2.1,v3.2.2.2.2.2.2.1,v3.2.2.2.2.2.2.2.1++v3.2.2.1.extract y5.toNat (IntKind.i64.wrap (y5+(1:Int))).toNat,v3.2.2.2.2.2.2.2.2.1,v3.2.2.2.2.2.2.2.2.2.1++ [y7],())) (P (v3.2.2.2.2.2.2.1,v3.2.2.2.2.2.2.2.1,List.take v3.2.2.2.2.2.2.2.2.2.1.length (List.drop 0 v3.2.2.2.2.2.2.2.2.2.1),()))) ((0:Int),p.1,p.2.1,p.2.2.1,Int.ofNat (nat_lit 0), {data:= #[]},p.1, {data:= #[]},[],[],PUnit.unit))=fnW Hf (look [(92,Qk)]) Zi Try.f72 (p,t,()) P:=by kernel_rfl
abbrev lX:Type:=Int×Int×ByteArray×List (List Int)×Int×ByteArray×Int×ByteArray×List (List Int)×List (List Int)×PUnit
theorem DR (p:Int×ByteArray×List (List Int)×Unit) (t:List Int) (P:(Int×ByteArray×List (List Int)×Unit)->Prop):(0=0/\0=([]:List Int).length/\0=0/\0=([]:List Int).length/\Dh (λ(v3:lX) (k4:lX->Prop)=>Br (decide (v3.1<(↑t.length:Int))) (∃(y5:Int),idx t v3.1=some y5/\((0:Int)<=y5/\y5<=IntKind.i64.wrap (y5+(1:Int))/\IntKind.i64.wrap (y5+(1:Int))<=(↑v3.2.2.1.size:Int))/\v3.2.2.2.2.2.2.2.1.size+(v3.2.2.1.extract y5.toNat (IntKind.i64.wrap (y5+(1:Int))).toNat).size<=4294967296/\ ∃(y6:List Int),idx v3.2.2.2.1 y5=some y6/\ ∃(y7:List Int),oN.fn (y6,())=some y7/\0=0/\v3.2.2.2.2.2.2.2.2.2.1.length=v3.2.2.2.2.2.2.2.2.2.1.length/\v3.2.2.2.2.2.2.2.2.2.1.length+ [y7].length<=Db/\0=0/\v3.2.2.2.2.2.2.2.2.1.length=v3.2.2.2.2.2.2.2.2.1.length/\0=0/\(v3.2.2.2.2.2.2.2.2.2.1++ [y7]).length=(v3.2.2.2.2.2.2.2.2.2.1++ [y7]).length/\k4 (IntKind.i64.wrap (v3.1+(1:Int)),v3.2.1,v3.2.2.1,v3.2.2.2.1,v3.2.2.2.2.1,v3.2.2.2.2.2.1,v3.2.2.2.2.2.2.1,v3.2.2.2.2.2.2.2.1++v3.2.2.1.extract y5.toNat (IntKind.i64.wrap (y5+(1:Int))).toNat,v3.2.2.2.2.2.2.2.2.1,v3.2.2.2.2.2.2.2.2.2.1++ [y7],())) (P (v3.2.2.2.2.2.2.1,v3.2.2.2.2.2.2.2.1,List.take v3.2.2.2.2.2.2.2.2.2.1.length (List.drop 0 v3.2.2.2.2.2.2.2.2.2.1),()))) ((0:Int),p.1,p.2.1,p.2.2.1,Int.ofNat (nat_lit 0), {data:= #[]},p.1, {data:= #[]},[],[],PUnit.unit))=fnW Hf (look [(124,oN)]) Tl Try.f103 (p,t,()) P:=by kernel_rfl
abbrev oW:Type:=Option ((Int×ByteArray×List (List Int)×PUnit)×List (List Int)×List Int×(ByteArray->Option Int)×List Int×List Int×List (List Int)×PUnit)×Bool×PUnit
theorem rV (p:Int×ByteArray×List (List Int)×Unit) (t:List Int) (P:(Option (Option XP×List Int×Option XP×Unit)×Bool×Unit)->Prop):(∃(y3:oW),Rf.fn ((p.1,p.2.1,p.2.2.1,()),())=some y3/\Br (!y3.2.1) (P (none,false,())) (∃(y4:Bool),Jl.fn ((p.1,p.2.1,p.2.2.1,()),t,())=some y4/\Br (!y4) (P (none,false,())) (∃(y5:Int×ByteArray×List (List Int)×PUnit),Tl.fn ((p.1,p.2.1,p.2.2.1,()),t,())=some y5/\ ∃(y6:oW),Rf.fn (y5,())=some y6/\P (some (y3.1,t,y6.1,()),true,()))))=fnW Hf (look [(101,Rf),(102,Jl),(103,Tl)]) Pz Try.f77 (p,t,()) P:=by kernel_rfl
theorem wc (p:Int×ByteArray×List (List Int)×Unit) (t s:List Int) (P:(Option (Option XP×List Int×Option XP×Unit)×Int×Bool×Unit)->Prop):(∃(y4:Option (Option ((Int×ByteArray×List (List Int)×PUnit)×List (List Int)×List Int×(ByteArray->Option Int)×List Int×List Int×List (List Int)×PUnit)×List Int×Option ((Int×ByteArray×List (List Int)×PUnit)×List (List Int)×List Int×(ByteArray->Option Int)×List Int×List Int×List (List Int)×PUnit)×PUnit)×Bool×PUnit),Pz.fn ((p.1,p.2.1,p.2.2.1,()),t,())=some y4/\Br (!y4.2.1) (P (none,(0:Int),false,())) (∃(y5:Option ((Int×ByteArray×List (List Int)×PUnit)×List (List Int)×List Int×(ByteArray->Option Int)×List Int×List Int×List (List Int)×PUnit)×List Int×Option ((Int×ByteArray×List (List Int)×PUnit)×List (List Int)×List Int×(ByteArray->Option Int)×List Int×List Int×List (List Int)×PUnit)×PUnit),y4.1=some y5/\ ∃(y6:Int×Bool×PUnit),Sx.fn (y5.1,s,())=some y6/\P (y4.1,y6.1,y6.2.1,())))=fnW Hf (look [(77,Pz),(52,Sx)]) Sy Try.f48 (p,t,s,()) P:=by kernel_rfl
abbrev TU:Type:=Option ((Int×ByteArray×List (List Int)×PUnit)×List (List Int)×List Int×(ByteArray->Option Int)×List Int×List Int×List (List Int)×PUnit)×List Int×Option ((Int×ByteArray×List (List Int)×PUnit)×List (List Int)×List Int×(ByteArray->Option Int)×List Int×List Int×List (List Int)×PUnit)×PUnit
theorem Amr (h:Option (Option XP×List Int×Option XP×Unit)) (i:Int) (P:Bool->Prop):(∃(y3:TU),h=some y3/\ ∃(y4:TU),h=some y4/\ ∃(y5:(Int×ByteArray×List (List Int)×PUnit)×List (List Int)×List Int×(ByteArray->Option Int)×List Int×List Int×List (List Int)×PUnit),y4.1=some y5/\ ∃(y6:List Int),idx y5.2.1 i=some y6/\ ∃(y7:Int×Bool×PUnit),Sx.fn (y3.2.2.1,y6,())=some y7/\P y7.2.1)=fnW Hf (look [(52,Sx)]) nf Try.f51 (h,i,()) P:=by kernel_rfl
abbrev TR:Type:=(List (List Int)×List Int×List Int×Bool×PUnit)×Bool×PUnit
theorem Amn (p:Int×ByteArray×List (List Int)×Unit) (t:List Int) (P:(SS×SS×Bool×Unit)->Prop):(∃(y3:TR),Ql.fn ((p.1,p.2.1,p.2.2.1,()),())=some y3/\Br (!y3.2.1) ((P ((y3.1.1,y3.1.2.1,y3.1.2.2.1,y3.1.2.2.2.1,()),(y3.1.1,y3.1.2.1,y3.1.2.2.1,y3.1.2.2.2.1,()),false,())/\P ((y3.1.1,y3.1.2.1,y3.1.2.2.1,y3.1.2.2.2.1,()),(y3.1.1,y3.1.2.1,y3.1.2.2.1,y3.1.2.2.2.1,()),false,()))/\P ((y3.1.1,y3.1.2.1,y3.1.2.2.1,y3.1.2.2.2.1,()),(y3.1.1,y3.1.2.1,y3.1.2.2.1,y3.1.2.2.2.1,()),false,())) (∃(y4:Bool),Jl.fn ((p.1,p.2.1,p.2.2.1,()),t,())=some y4/\Br (!y4) ((P ((y3.1.1,y3.1.2.1,y3.1.2.2.1,y3.1.2.2.2.1,()),(y3.1.1,y3.1.2.1,y3.1.2.2.1,y3.1.2.2.2.1,()),false,())/\P ((y3.1.1,y3.1.2.1,y3.1.2.2.1,y3.1.2.2.2.1,()),(y3.1.1,y3.1.2.1,y3.1.2.2.1,y3.1.2.2.2.1,()),false,()))/\P ((y3.1.1,y3.1.2.1,y3.1.2.2.1,y3.1.2.2.2.1,()),(y3.1.1,y3.1.2.1,y3.1.2.2.1,y3.1.2.2.2.1,()),false,())) (∃(y5:Int×ByteArray×List (List Int)×PUnit),Zi.fn ((p.1,p.2.1,p.2.2.1,()),t,())=some y5/\ ∃(y6:TR),Ql.fn (y5,())=some y6/\(P ((y3.1.1,y3.1.2.1,y3.1.2.2.1,y3.1.2.2.2.1,()),(y6.1.1,y6.1.2.1,y6.1.2.2.1,y6.1.2.2.2.1,()),true,())/\P ((y3.1.1,y3.1.2.1,y3.1.2.2.1,y3.1.2.2.2.1,()),(y6.1.1,y6.1.2.1,y6.1.2.2.1,y6.1.2.2.2.1,()),true,()))/\P ((y3.1.1,y3.1.2.1,y3.1.2.2.1,y3.1.2.2.2.1,()),(y6.1.1,y6.1.2.1,y6.1.2.2.1,y6.1.2.2.2.1,()),true,()))))=fnW Hf (look [(70,Ql),(71,Jl),(72,Zi)]) jR Try.f37 (p,t,()) P:=by kernel_rfl
theorem LV (b:ByteArray) (i:Nat):b[i]?=b.data[i]?:=by
 by_cases h:i<b.size
 ·rw [getElem?_pos b i h,getElem?_pos b.data i h];rfl
 ·rw [getElem?_neg b i h,getElem?_neg b.data i h]
theorem Ajn (a b:ByteArray) (k j:Nat) (hk:k<b.size):(a++b.extract k (k+1))[j]?=if j<a.size then a[j]? else if j=a.size then b[k]? else none:=by
 rw [LV,ByteArray.data_append,ByteArray.data_extract,Array.getElem?_append]
 by_cases h:j<a.size
 ·rw [Ac h,Ac (show j<a.data.size from h),LV]
 ·rw [Ai h,Ai (show ¬j<a.data.size from h)];have lJ:k<b.data.size:=hk
  by_cases e:j=a.size
  ·rw [Ac e,LV]
   have:j-a.data.size=0:=by have:a.data.size=a.size:=rfl
                            omega
   rw [this,Array.getElem?_extract,Ac (by omega),El]
  ·rw [Ai e,Array.getElem?_extract,Ai];have:a.data.size=a.size:=rfl;omega
theorem CS {b:ByteArray} : ∀(t:List Int) (a:ByteArray),(∀k∈t,0<=k/\k<b.size)->
  (t.foldl (λ(a:ByteArray) (k:Int)=>a++b.extract k.toNat (k+1).toNat) a).size=a.size+t.length/\
  ∀j,(t.foldl (λ(a:ByteArray) (k:Int)=>a++b.extract k.toNat (k+1).toNat) a)[j]?=if j<a.size then a[j]? else (t[j-a.size]?).bind λk=>b[k.toNat]?
 | [],a,_=>by
  refine ⟨rfl,λj=>?_⟩
  by_cases h:j<a.size
  ·rw [Ac h];rfl
  ·rw [Ai h];simp only [List.foldl_nil,List.getElem?_nil,Option.bind_none];exact getElem?_neg a j h
 |k::t,a,h=>by
  obtain ⟨h1,h2⟩:=h k (by simp);obtain ⟨kn,rfl⟩:=Ba h1
  have hkb:kn<b.size:=by omega
  have Uj:(a++b.extract kn (kn+1)).size=a.size+1:=by rw [ByteArray.size_append,ByteArray.size_extract];omega
  obtain ⟨g1,g2⟩:=CS t (a++b.extract kn (kn+1)) λk' lJ=>h k' (At _ lJ);simp only [Ro];rw [show ((kn:Nat):Int).toNat=kn from Ab kn,show (((kn:Nat):Int)+1).toNat=kn+1 by omega];refine ⟨by rw [g1,Uj,Aw];omega,λj=>?_⟩;rw [g2 j,Uj,Ajn a b kn j hkb]
  by_cases e1:j<a.size
  ·rw [Ac (by omega),Ac e1,Ac e1]
  ·rw [Ai e1]
   by_cases e2:j=a.size
   ·subst e2;rw [Ac (by omega),Ac rfl,Ai (by omega),Nat.sub_self];simp
   ·rw [Ai (by omega),Ai e1,show j-a.size=(j-(a.size+1))+1 by omega,Kj]
theorem fq {b:ByteArray} (t:List Int) (h: ∀k∈t,0<=k/\k<b.size):(Vp b t).size=t.length:=by
 have:=(CS t ByteArray.empty h).1;rw [ByteArray.size_empty,Bl] at this;exact this
theorem JT {b:ByteArray} (t:List Int) (h: ∀k∈t,0<=k/\k<b.size) (j:Nat):(Vp b t)[j]?=(t[j]?).bind λk=>b[k.toNat]?:=by
 have:=(CS t ByteArray.empty h).2 j;rw [ByteArray.size_empty,Ai (Ea _),Nat.sub_zero] at this;exact this
theorem qx (b:ByteArray) {t:List Int} {j:Nat} (hl:j<t.length):Vp b (t.take (j+1))=Vp b (t.take j)++b.extract (t[j]).toNat (t[j]+1).toNat:=by
 unfold Vp;rw [Iu,Ad hl,Ui,Fz];rfl
structure ZJ (p:PP) (t:List Int):Prop where
 valid:Da p=true
 pos:0<t.length
 eK:t.length<=p.2.2.1.length
 g8:p.2.2.1.length<=8
 size:p.2.1.size=p.2.2.1.length
 Sb: ∀ {j:Nat} (h:j<t.length),∃k:Nat,t[j]=(k:Int)/\k<p.2.2.1.length
 inc: ∀ {i j:Nat} (hi:i<t.length) (hj:j<t.length),i<j->t[i]<t[j]
theorem Ace {n:Int} {xs:List Int} (h:PL n xs xs.length): ∀(j i:Nat) (hi:i<xs.length) (hj:j<xs.length),i<j->xs[i]<xs[j]
 |0,_,_,_,fU=>absurd fU (Ea _)
 |j+1,i,hi,hj,fU=>by
  have h1:=(h (j+1) hj hj).2.2 (by omega);simp only [Nat.add_sub_cancel] at h1
  by_cases e:i=j
  ·subst e;exact h1
  ·have:=Ace h j i hi (by omega) (by omega);omega
theorem cK {p:PP} {t:List Int} (h:Dg p t=true):ZJ p t:=by
 obtain ⟨hv,hp⟩:=Ib.1 h;obtain ⟨h1,h2⟩:=Ib.1 hp;have hV:=valid hv;obtain ⟨_,_,Uj⟩:=Ib.1 hv
 have hat: ∀ {j:Nat} (h:j<t.length),∃k:Nat,t[j]=(k:Int)/\k<p.2.2.1.length:= λ {j} hj=>by
  have:=h2 j hj hj;obtain ⟨k,hk⟩:=Ba this.1;exact ⟨k,hk,by omega⟩
 refine ⟨hv,h1,?_,hV.eK.2,Uj,hat,λhi hj fU=>Ace h2 _ _ hi hj fU⟩;have h5:=OW h2 (t.length-1) (by omega);obtain ⟨k,e,hk⟩:=hat (show t.length-1<t.length by omega);omega
theorem ZJ.in' {p:PP} {t:List Int} (h:ZJ p t): ∀k∈t,0<=k/\k<p.2.1.size:= λk hk=>by
 obtain ⟨j,hj,rfl⟩:=Bg.1 hk;obtain ⟨kn,e,pe⟩:=h.Sb hj;rw [h.size,e];omega
theorem nj {p:PP} {t:List Int} (h:Dg p t=true):Da (Bc p t)=true:=by
 have hs:=cK h;have hV:=valid hs.valid;obtain ⟨hg,hnm,_⟩:=Ib.1 hs.valid;obtain ⟨g1,g2,g3⟩:=Ib.1 hg;obtain ⟨n1,n2⟩:=Ib.1 hnm;have Uj:=fq t hs.in';refine Ib.2 ⟨Ib.2 ⟨g1,?_,λq hq=>?_⟩,Ib.2 ⟨⟨?_,?_⟩,λj hj=>?_⟩,?_⟩
 ·show (t.map _).length<=8;rw [Ct];have:=hs.eK;have:=hs.g8;omega
 ·obtain ⟨k,hk,rfl⟩:=Bh.1 hq;obtain ⟨j,hj,rfl⟩:=Bg.1 hk;obtain ⟨kn,e,pe⟩:=hs.Sb hj;rw [e,Ab,Bw pe];exact g3 _ (Ah pe)
 ·show 1<=(Vp p.2.1 t).size;rw [Uj];exact hs.pos
 ·show (Vp p.2.1 t).size<=8
  rw [Uj];have:=hs.eK;have:=hs.g8;omega
 ·have hj:j<t.length:=by rw [<-Uj];exact hj
  obtain ⟨kn,e,pe⟩:=hs.Sb hj;obtain ⟨c,c1,c2,c3,c4⟩:=n2 kn (by rw [hs.size];exact pe);refine ⟨c,?_,c2,c3,λi hi=>?_⟩
  ·show (Vp p.2.1 t)[j]?=some c;rw [JT t hs.in',Ad hj,e,Ew,Ab,c1]
  ·show (Vp p.2.1 t)[i]?≠some c
   have cO:i<t.length:=by omega
   obtain ⟨k2,e2,GC⟩:=hs.Sb cO;have:=hs.inc cO hj hi;rw [JT t hs.in',Ad cO,e2,Ew,Ab];exact c4 k2 (by omega)
 ·show (Vp p.2.1 t).size=(t.map _).length;rw [Uj,Ct]
theorem vM {p:PP} {t:List Int} (hp:Fo p) (h:Dg p t=true):Fo (Bc p t):=by
 have hs:=cK h;have h1:=hs.eK;have h2:=hs.g8;refine ⟨?_,?_,λq hq=>?_⟩
 ·show (Vp p.2.1 t).size<=4294967296;rw [fq t hs.in'];omega
 ·show (t.map _).length<=4294967296;rw [Ct];omega
 ·obtain ⟨k,hk,rfl⟩:=Bh.1 hq;obtain ⟨j,hj,rfl⟩:=Bg.1 hk;obtain ⟨kn,e,pe⟩:=hs.Sb hj;rw [e,Ab,Bw pe];exact hp.2.2 _ (Ah pe)
theorem TQ {p:PP} {t:List Int} (h:Dg p t=true) {x:List Int} (hx:Gn p.1.toNat ((Bc p t).2.2.1.map some) x):Gn p.1.toNat (p.2.2.1.map some) x:=by
 refine eo.mono (λg hg=>?_) hx;have hg:=fj.1 hg;obtain ⟨k,hk,rfl⟩:=Bh.1 hg;obtain ⟨j,hj,rfl⟩:=Bg.1 hk;obtain ⟨kn,e,pe⟩:=(cK h).Sb hj;rw [e,Ab,Bw pe];exact fj.2 (Ah pe)
theorem Rj {p:PP} {t:List Int} (hw:Dc p=true) (h:Dg p t=true):Dc (Bc p t)=true:=by
 have ya:=nj h;have hr:=cy ya;refine Hc.2 ⟨ya,Bz λhn=>?_⟩
 have hn:(Jn (Bc p t).2.2.1 (upto (Bc p t).1.toNat)).2.2=false:=by simpa using hn
 obtain ⟨h1,z,h2,h3⟩:=hr.big hn
 have h5:=eZ (l1:=z::(Jn (Bc p t).2.2.1 (upto (Bc p t).1.toNat)).1) (l2:=Ae p) (Cn.2 ⟨h3,hr.nodup⟩) λx hx=>by
  rcases Bd.1 hx with rfl|hx
  ·exact (JQ hw).all rfl _ (TQ h h2)
  ·exact (JQ hw).all rfl _ (TQ h (hr.gen x hx))
 have h6:=Xn (Dl hw).1;simp only [Aw] at h5;omega
theorem map_take {α β:Type} (f:α->β) {xs:List α} {j:Nat} (h:j<xs.length):(xs.take (j+1)).map f=(xs.take j).map f++ [f xs[j]]:=by
 rw [Iu,Ad h,Hj];rfl
theorem OS (p:PP) (t:List Int) (h:Fo p/\Dg p t=true):fnW Hf (look [(92,Qk)]) Zi Try.f72 (p,t,()) (λ(z:PP)=>z=Bc p t):=by
 obtain ⟨hp,Oy⟩:=h;have hs:=cK Oy;refine Eq.mp (QU p t _) ⟨rfl,rfl,rfl,rfl,?_⟩;refine Bt t.length (λv=>v.1) (λj v=>v=((j:Int),p.1,p.2.1,p.2.2.1,0,ByteArray.empty,p.1,Vp p.2.1 (t.take j),[],(t.take j).map λk=>p.2.2.1.getD k.toNat [],())) rfl rfl ?_;rintro j v K hj hi hR hK;subst hR;dsimp only;have hlen:=hs.eK;have hg8:=hs.g8;refine Br.dec (λhl=>?_) λhl=>?_
 ·have hl:j<t.length:=by omega
  obtain ⟨kn,hk,pe⟩:=hs.Sb hl
  have hkb:kn<p.2.1.size:=by rw [hs.size];exact pe
  have hw:IntKind.i64.wrap ((kn:Int)+1)=(kn:Int)+1:=Co (by have:=hs.g8;omega) (by have:=hs.g8;omega);have Uj:=fq (b:=p.2.1) (t.take j) λk lJ=>hs.in' k (Gl lJ)
  have hex:(p.2.1.extract kn (kn+1)).size=1:=by rw [ByteArray.size_extract];omega
  refine ⟨_,Bu hl,?_⟩;rw [hk,hw];refine ⟨⟨by omega,by omega,by omega⟩,by rw [show ((kn:Int)+1).toNat=kn+1 by omega,Ab,hex,Uj];have:=gW j t;omega,_,Bu pe,_,Ac (hp.2.2 _ (Ah pe)),rfl,rfl,?_,rfl,rfl,rfl,rfl,?_⟩
  ·show ((t.take j).map _).length+1<=4294967296
   rw [Ct];have:=gW j t;have:=hs.g8;omega
  ·rw [Bm (by omega),show ((kn:Int)+1).toNat=kn+1 by omega,Ab];refine hK hl _ rfl ?_;rw [qx _ hl,map_take _ hl,hk,Ab,show ((kn:Int)+1).toNat=kn+1 by omega,Bw pe]
 ·have:j=t.length:=by omega
  subst this;rw [Az,Cl];rfl
theorem vD:Sound Try.prog 72 Zi:=
 Sound.Ho Ez (Bf jV Ce) mixed Try.func72 (by kernel_rfl) (by kernel_rfl) λx h=>OS x.1 x.2.1 h
theorem BF (p:PP) (t:List Int) (h:Fo p/\Dg p t=true):fnW Hf (look [(124,oN)]) Tl Try.f103 (p,t,()) (λ(z:PP)=>z=Bc p t):=by
 obtain ⟨hp,Oy⟩:=h;have hs:=cK Oy;refine Eq.mp (DR p t _) ⟨rfl,rfl,rfl,rfl,?_⟩;refine Bt t.length (λv=>v.1) (λj v=>v=((j:Int),p.1,p.2.1,p.2.2.1,0,ByteArray.empty,p.1,Vp p.2.1 (t.take j),[],(t.take j).map λk=>p.2.2.1.getD k.toNat [],())) rfl rfl ?_;rintro j v K hj hi hR hK;subst hR;dsimp only;have hlen:=hs.eK;have hg8:=hs.g8;refine Br.dec (λhl=>?_) λhl=>?_
 ·have hl:j<t.length:=by omega
  obtain ⟨kn,hk,pe⟩:=hs.Sb hl
  have hkb:kn<p.2.1.size:=by rw [hs.size];exact pe
  have hw:IntKind.i64.wrap ((kn:Int)+1)=(kn:Int)+1:=Co (by have:=hs.g8;omega) (by have:=hs.g8;omega);have Uj:=fq (b:=p.2.1) (t.take j) λk lJ=>hs.in' k (Gl lJ)
  have hex:(p.2.1.extract kn (kn+1)).size=1:=by rw [ByteArray.size_extract];omega
  refine ⟨_,Bu hl,?_⟩;rw [hk,hw];refine ⟨⟨by omega,by omega,by omega⟩,by rw [show ((kn:Int)+1).toNat=kn+1 by omega,Ab,hex,Uj];have:=gW j t;omega,_,Bu pe,_,Ac (hp.2.2 _ (Ah pe)),rfl,rfl,?_,rfl,rfl,rfl,rfl,?_⟩
  ·show ((t.take j).map _).length+1<=4294967296
   rw [Ct];have:=gW j t;have:=hs.g8;omega
  ·rw [Bm (by omega),show ((kn:Int)+1).toNat=kn+1 by omega,Ab];refine hK hl _ rfl ?_;rw [qx _ hl,map_take _ hl,hk,Ab,show ((kn:Int)+1).toNat=kn+1 by omega,Bw pe]
 ·have:j=t.length:=by omega
  subst this;rw [Az,Cl];rfl
theorem qt:Sound Try.prog 103 Tl:=
 Sound.Ho Ez (Bf CA Ce) mixed Try.func103 (by kernel_rfl) (by kernel_rfl) λx h=>BF x.1 x.2.1 h
theorem Lq {p:PP} {t:List Int} :Ks p t=true↔Dc p=true/\Dg p t=true:=by unfold Ks;rw [Ak]
theorem IM (p:PP) (t:List Int) (h:Fo p/\short t):fnW Hf (look [(101,Rf),(102,Jl),(103,Tl)]) Pz Try.f77 (p,t,()) (λ(z:Option (Option XP×List Int×Option XP×Unit)×Bool×Unit)=>z=(if Ks p t=true then (some (Eo p t),true,()) else (none,false,()))):=by
 obtain ⟨hp,ht⟩:=h
 by_cases hw:Dc p=true
 ·have he:Rf.fn ((p.1,p.2.1,p.2.2.1,()),())=some (some (Gr p),true,()):=(Ac hp).trans (Dz some (Ac hw));refine Eq.mp (rV p t _) ⟨_,he,λhb=>by simp at hb,λ_=>⟨_,Ac ⟨hp,ht⟩,Br.of (λhm=>?_) λhm=>?_⟩⟩
  ·have hm: ¬Dg p t=true:=Gs hm;rw [Ai λh=>hm (Lq.1 h).2]
  have hm:Dg p t=true:=by simpa using hm
  have cd:=Rj hw hm;have fy:Rf.fn (Bc p t,())=some (some (Gr (Bc p t)),true,()):=(Ac (vM hp hm)).trans (Dz some (Ac cd));rw [Ac (Lq.2 ⟨hw,hm⟩)];exact ⟨_,Ac ⟨hp,hm⟩,_,fy,rfl⟩
 ·have he:Rf.fn ((p.1,p.2.1,p.2.2.1,()),())=some (none,false,()):=(Ac hp).trans (Dz some (Ai hw));rw [Ai λh=>hw (Lq.1 h).1];exact Eq.mp (rV p t _) ⟨_,he,λ_=>rfl,λhb=>by simp at hb⟩
theorem sq:Sound Try.prog 77 Pz:=
 Sound.Ho Ez (Bf xf (Bf jW (Bf qt Ce))) mixed Try.func77 (by kernel_rfl) (by kernel_rfl) λx h=>IM x.1 x.2.1 h
theorem OQ (p:PP) (t s:List Int) (h:Fo p/\short t/\short s):fnW Hf (look [(77,Pz),(52,Sx)]) Sy Try.f48 (p,t,s,()) (λ(z:Option (Option XP×List Int×Option XP×Unit)×Int×Bool×Unit)=>z=(if Ks p t=true then (some (Eo p t),(Ir p s).1,(Ir p s).2.1,()) else (none,0,false,()))):=by
 obtain ⟨hp,ht,hs⟩:=h
 by_cases hw:Ks p t=true
 ·have he:Pz.fn ((p.1,p.2.1,p.2.2.1,()),t,())=some (some (Eo p t),true,()):=(Ac ⟨hp,ht⟩).trans (Dz some (Ac hw));rw [Ac hw];refine Eq.mp (wc p t s _) ⟨_,he,λhb=>by simp at hb,λ_=>⟨_,rfl,_,Ac ⟨⟨Gr p,rfl,(Lq.1 hw).1,rfl⟩,hs⟩,?_⟩⟩;rfl
 ·have he:Pz.fn ((p.1,p.2.1,p.2.2.1,()),t,())=some (none,false,()):=(Ac ⟨hp,ht⟩).trans (Dz some (Ai hw));rw [Ai hw];exact Eq.mp (wc p t s _) ⟨_,he,λ_=>rfl,λhb=>by simp at hb⟩
theorem vB:Sound Try.prog 48 Sy:=
 Sound.Ho Ez (Bf sq (Bf gH Ce)) mixed Try.func48 (by kernel_rfl) (by kernel_rfl) λx h=>OQ x.1 x.2.1 x.2.2.1 h
theorem Alv (h:Option HP) (i:Int) (hh: ∃p t,Ks p t=true/\h=some (Eo p t)/\0<=i/\i<(Ae p).length):fnW Hf (look [(52,Sx)]) nf Try.f51 (h,i,()) (λ(z:Bool)=>z=mQ h i):=by
 obtain ⟨p,t,hw,rfl,h1,h2⟩:=hh;obtain ⟨k,rfl⟩:=Ba h1
 have hk:k<(Ae p).length:=by omega
 obtain ⟨Pd,hm⟩:=Lq.1 hw;have Sd:=(bh Pd).1;refine Eq.mp (Amr _ _ _) ⟨Eo p t,rfl,Eo p t,rfl,Gr p,rfl,(Ae p)[k],by rw [Sd];exact Bu hk,_,Ac ⟨⟨Gr (Bc p t),rfl,Rj Pd hm,rfl⟩,uP (fo (Dl Pd).1 (Ah hk))⟩,?_⟩;show (Ir (Bc p t) (Ae p)[k]).2.1=decide ((Ae p).getD ((k:Nat):Int).toNat []∈Ae (Bc p t));rw [Ab,Bw hk];unfold Ir;split
 ·rename_i h;rw [Ci h]
 ·rename_i h;rw [Ey h]
theorem PZ:Sound Try.prog 51 nf:=
 Sound.Ho Ez (Bf gH Ce) mixed Try.func51 (by kernel_rfl) (by kernel_rfl) λx h=>Alv x.1 x.2.1 h
theorem SR {p:PP} {s:List Int} :(Ir p s).2.1=decide (s∈Ae p):=by
 unfold Ir;split
 ·rename_i h;rw [Ci h]
 ·rename_i h;rw [Ey h]
theorem GM {p:PP} {s:List Int} (h:s∈Ae p):0<=(Ir p s).1/\(Ir p s).1<(Ae p).length/\(Ae p).getD (Ir p s).1.toNat []=s:=by
 unfold Ir;rw [Ac h];have h1:=Ga h;refine ⟨Int.natCast_nonneg _,by show ((List.idxOf s (Ae p):Nat):Int)<_;omega,?_⟩;show (Ae p).getD ((List.idxOf s (Ae p):Nat):Int).toNat []=s;rw [Ab,Bw h1];exact Ug h1
theorem Alq (p:PP) (t:List Int) (h:Fo p/\short t):fnW Hf (look [(70,Ql),(71,Jl),(72,Zi)]) jR Try.f37 (p,t,()) (λ(z:SS×SS×Bool×Unit)=>z=(if Ks p t=true then (Bq p.2.2.1 (upto p.1.toNat),Bq (Bc p t).2.2.1 (upto p.1.toNat),true,()) else ((Ld p).1,(Ld p).1,false,()))):=by
 obtain ⟨hp,ht⟩:=h;refine Eq.mp (Amn p t _) ⟨_,Ac hp,?_⟩;have hz: ∀(x:SS),((x.1,x.2.1,x.2.2.1,x.2.2.2.1,()),(x.1,x.2.1,x.2.2.1,x.2.2.2.1,()),false,())=(x,x,false,()):= λx=>rfl;dsimp only
 by_cases hw:Dc p=true
 ·have hv:=(Dl hw).1;have e1:Ld (p.1,p.2.1,p.2.2.1,())=(Bq p.2.2.1 (upto p.1.toNat),true,()):=(Ac hv).trans (by rw [<-hw]);rw [e1];refine ⟨λhb=>by simp at hb,λ_=>⟨_,Ac ⟨hp,ht⟩,Br.of (λhm=>?_) λhm=>?_⟩⟩
  ·have hm: ¬Dg p t=true:=Gs hm;rw [Ai λh=>hm (Lq.1 h).2];exact ⟨⟨rfl,rfl⟩,rfl⟩
  have hm:Dg p t=true:=by simpa using hm
  rw [Ac (Lq.2 ⟨hw,hm⟩)];have fy:Ql.fn (Bc p t,())=some (Bq (Bc p t).2.2.1 (upto p.1.toNat),true,()):=vJ (p:=Bc p t) (vM hp hm) (Rj hw hm);exact ⟨_,Ac ⟨hp,hm⟩,_,fy,⟨rfl,rfl⟩,rfl⟩
 ·have hwf:(Ld (p.1,p.2.1,p.2.2.1,())).2.1=false:=by
   show (Ld p).2.1=false;unfold Ld;split
   ·exact Gb _|>.mp hw
   ·rfl
  rw [hwf,Ai λh=>hw (Lq.1 h).1];exact ⟨λ_=>⟨⟨rfl,rfl⟩,rfl⟩,λhb=>by simp at hb⟩
theorem PW:Sound Try.prog 37 jR:=
 Sound.Ho Ez (Bf vG (Bf jY (Bf vD Ce))) mixed Try.func37 (by kernel_rfl) (by kernel_rfl) λx h=>Alq x.1 x.2.1 h
theorem Acw {p:PP} (hv:Da p=true):1<=(Ae p).length:=by
 obtain ⟨A,h⟩:=(cy hv).first;show 1<=(Jn p.2.2.1 (upto p.1.toNat)).1.length;rw [h];simp
end Go.Proofs.Ytfgfigkbgecfnaa
