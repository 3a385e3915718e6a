/-
  Part 42 of the proof that the statement FnExactSolveTwoPhase holds.
-/
import Derived.Test.YtjbdmibbbpdnnaaCSolveTwoPhase40
namespace Go.Proofs.Ytjbdmibbbpdnnaa
open Go.RowKit
def ap (p:List Int) (i:Nat):Nat:=(Bj p (i:Int)).toNat
def Pm (n:Nat) (p:List Int):Prop:=p.length=n/\Vo p
theorem Pm.n1 {n:Nat} {p:List Int} (h:Pm n p):1<=n:=h.1▸h.2.pos
theorem Pm.n2 {n:Nat} {p:List Int} (h:Pm n p):n<=20:=h.1▸h.2.len
theorem Pm.Nv {n:Nat} {p:List Int} (h:Pm n p) {i:Nat} (hi:i<n):Bj p (i:Int)=(ap p i:Int)/\ap p i<n:=by
 have cX:i<p.length:=by rw [h.1];exact hi
 have:=h.2.row _ (List.getElem_mem cX)
 unfold ap
 rw [Iy cX]
 have h1:=h.1
 omega
theorem Pm.lt {n:Nat} {p:List Int} (h:Pm n p) {i:Nat} (hi:i<n):ap p i<n:=(h.Nv hi).2
theorem Pm.ext {n:Nat} {p q:List Int} (h:Pm n p) (k:Pm n q) (e: ∀i,i<n->ap p i=ap q i):p=q:=by
 refine List.ext_getElem (by rw [h.1,k.1]) λi h1 h2=>?_
 have hi:i<n:=by rw [<-h.1];exact h1
 have a:=(h.Nv hi).1
 have b:=(k.Nv hi).1
 rw [Iy h1] at a
 rw [Iy h2] at b
 rw [a,b,e i hi]
theorem Pm.inj {n:Nat} {p:List Int} (h:Pm n p) {i j:Nat} (hi:i<n) (hj:j<n) (e:ap p i=ap p j):i=j:=
 h.2.inj i j (by rw [h.1];exact hi) (by rw [h.1];exact hj) e
theorem Pm.NL {n:Nat} {p:List Int} (h:Pm n p) {k:Nat} (hk:k<n): ∃i,i<n/\ap p i=k:=by
 obtain ⟨i,h1,h2⟩:=h.2.NL k (by rw [h.1];exact hk)
 exact ⟨i,by rw [<-h.1];exact h1,h2⟩
theorem Pm.of {n:Nat} {p:List Int} (hl:p.length=n) (h1:1<=n) (h2:n<=20) (f:Nat->Nat) (hf: ∀i,i<n->p[i]?=some (f i:Int)/\f i<n) (hi: ∀i j,i<n->j<n->f i=f j->i=j):Pm n p:=by
 refine ⟨hl,by omega,by omega,λy hy=>?_,?_⟩
 ·obtain ⟨i,hi,rfl⟩:=List.mem_iff_getElem.1 hy
  obtain ⟨h3,h4⟩:=hf i (by omega)
  rw [List.getElem?_eq_getElem hi] at h3
  rw [Option.some.inj h3]
  omega
 ·refine List.pairwise_iff_getElem.2 λi j h3 h4 h5 h6=>?_
  have a:=(hf i (by omega)).1
  have b:=(hf j (by omega)).1
  rw [List.getElem?_eq_getElem h3] at a
  rw [List.getElem?_eq_getElem h4] at b
  rw [Option.some.inj a,Option.some.inj b] at h6
  have:=hi i j (by omega) (by omega) (by omega)
  omega
theorem wu {n:Nat} {p q:List Int} (hp:Pm n p) (hq:Pm n q) {i:Nat} (hi:i<n):(Ab p q)[i]?=some (ap q (ap p i):Int):=by
 have h1:i<p.length:=by rw [hp.1];exact hi
 unfold Ab
 rw [List.getElem?_map,List.getElem?_eq_getElem h1]
 have a:=(hp.Nv hi).1
 rw [Iy h1] at a
 simp only [Option.map_some,a]
 rw [(hq.Nv (hp.Nv hi).2).1]
theorem Pm.comp {n:Nat} {p q:List Int} (hp:Pm n p) (hq:Pm n q):Pm n (Ab p q):=
 Pm.of (by rw [Ow,hp.1]) hp.n1 hp.n2 (λi=>ap q (ap p i)) (λi hi=>⟨wu hp hq hi,hq.lt (hp.lt hi)⟩) λi j hi hj e=>hp.inj hi hj (hq.inj (hp.lt hi) (hp.lt hj) e)
theorem KO {p:List Int} {i k:Nat} (h:p[i]?=some (k:Int)):ap p i=k:=by
 unfold ap Bj
 rw [Int.toNat_natCast,List.getD_eq_getElem?_getD,h]
 simp
theorem Gd {n:Nat} {p q:List Int} (hp:Pm n p) (hq:Pm n q) {i:Nat} (hi:i<n):ap (Ab p q) i=ap q (ap p i):=KO (wu hp hq hi)
theorem yB {n i:Nat} (hi:i<n):(upto n)[i]?=some (i:Int):=by simp [upto,hi]
theorem fb {n i:Nat} (hi:i<n):ap (upto n) i=i:=KO (yB hi)
theorem Pm.id {n:Nat} (h1:1<=n) (h2:n<=20):Pm n (upto n):=Pm.of (by simp [upto]) h1 h2 (λi=>i) (λi hi=>⟨yB hi,hi⟩) λ_ _ _ _ e=>e
theorem ER {n:Nat} {p:List Int} (hp:Pm n p) {i:Nat} (hi:i<n):(Aq p)[ap p i]?=some (i:Int):=MQ hp.2 (by rw [hp.1];exact hi)
theorem ej {n:Nat} {p:List Int} (hp:Pm n p) {i:Nat} (hi:i<n):ap (Aq p) (ap p i)=i:=KO (ER hp hi)
theorem sK {n:Nat} {p:List Int} (hp:Pm n p) {k:Nat} (hk:k<n):ap p (ap (Aq p) k)=k:=by
 obtain ⟨i,hi,rfl⟩:=hp.NL hk
 rw [ej hp hi]
theorem Pm.inv {n:Nat} {p:List Int} (hp:Pm n p):Pm n (Aq p):=by
 refine Pm.of (by rw [mQ,hp.1]) hp.n1 hp.n2 (λk=>ap (Aq p) k) (λk hk=>?_) λi j hi hj e=>?_
 ·obtain ⟨i,hi,rfl⟩:=hp.NL hk
  rw [ej hp hi]
  exact ⟨ER hp hi,hi⟩
 ·rw [<-sK hp hi,<-sK hp hj,e]
theorem Ee {n:Nat} {p q r:List Int} (hp:Pm n p) (hq:Pm n q) (hr:Pm n r):Ab (Ab p q) r=Ab p (Ab q r):=
 ((hp.comp hq).comp hr).ext (hp.comp (hq.comp hr)) λi hi=>by rw [Gd (hp.comp hq) hr hi,Gd hp hq hi,Gd hp (hq.comp hr) hi,Gd hq hr (hp.lt hi)]
theorem comp_id {n:Nat} {p:List Int} (hp:Pm n p):Ab p (upto n)=p:=
 (hp.comp (Pm.id hp.n1 hp.n2)).ext hp λi hi=>by rw [Gd hp (Pm.id hp.n1 hp.n2) hi,fb (hp.lt hi)]
theorem id_comp {n:Nat} {p:List Int} (hp:Pm n p):Ab (upto n) p=p:=
 ((Pm.id hp.n1 hp.n2).comp hp).ext hp λi hi=>by rw [Gd (Pm.id hp.n1 hp.n2) hp hi,fb hi]
theorem cG {n:Nat} {p:List Int} (hp:Pm n p):Ab p (Aq p)=upto n:=
 (hp.comp hp.inv).ext (Pm.id hp.n1 hp.n2) λi hi=>by rw [Gd hp hp.inv hi,ej hp hi,fb hi]
theorem Wd {n:Nat} {p:List Int} (hp:Pm n p):Ab (Aq p) p=upto n:=
 (hp.inv.comp hp).ext (Pm.id hp.n1 hp.n2) λi hi=>by rw [Gd hp.inv hp hi,sK hp hi,fb hi]
theorem o7 {n:Nat} {p q:List Int} (hp:Pm n p) (hq:Pm n q) (h:Ab p q=upto n):Aq p=q:=by
 rw [<-comp_id hp.inv,<-h,<-Ee hp.inv hp hq,Wd hp,id_comp hq]
theorem inv_mul {n:Nat} {p q:List Int} (hp:Pm n p) (hq:Pm n q):Aq (Ab p q)=Ab (Aq q) (Aq p):=
 o7 (hp.comp hq) (hq.inv.comp hp.inv) (by
  rw [Ee hp hq (hq.inv.comp hp.inv),<-Ee hq hq.inv hp.inv,cG hq,id_comp hp.inv,cG hp])
theorem inv_inv {n:Nat} {p:List Int} (hp:Pm n p):Aq (Aq p)=p:=o7 hp.inv hp (Wd hp)
theorem MR {n:Nat} (h1:1<=n) (h2:n<=20):Aq (upto n)=upto n:=o7 (Pm.id h1 h2) (Pm.id h1 h2) (comp_id (Pm.id h1 h2))
inductive Yy (n:Nat) (S:List Int->Prop):List Int->Prop where
 |id:Yy n S (upto n)
 |mul {p g:List Int} :Yy n S p->S g->Yy n S (Ab p g)
 |inv {p g:List Int} :Yy n S p->S g->Yy n S (Ab p (Aq g))
def DB (n:Nat) (S:List Int->Prop):Prop:=(1<=n/\n<=20)/\ ∀g,S g->Pm n g
theorem Yy.pm {n:Nat} {S:List Int->Prop} (hS:DB n S) {p:List Int} (h:Yy n S p):Pm n p:=by
 induction h with
 |id=>exact Pm.id hS.1.1 hS.1.2
 |mul _ hg ih=>exact ih.comp (hS.2 _ hg)
 |inv _ hg ih=>exact ih.comp (hS.2 _ hg).inv
theorem Yy.comp {n:Nat} {S:List Int->Prop} (hS:DB n S) {p q:List Int} (hp:Yy n S p) (hq:Yy n S q):Yy n S (Ab p q):=by
 induction hq with
 |id=>rw [comp_id (hp.pm hS)];exact hp
 |mul hq hg ih=>rw [<-Ee (hp.pm hS) (hq.pm hS) (hS.2 _ hg)];exact .mul ih hg
 |inv hq hg ih=>rw [<-Ee (hp.pm hS) (hq.pm hS) (hS.2 _ hg).inv];exact .inv ih hg
theorem Yy.one {n:Nat} {S:List Int->Prop} (hS:DB n S) {g:List Int} (hg:S g):Yy n S g:=by
 have:=Yy.mul (n:=n) (S:=S) .id hg
 rwa [id_comp (hS.2 g hg)] at this
theorem Yy.ZI {n:Nat} {S:List Int->Prop} (hS:DB n S) {g:List Int} (hg:S g):Yy n S (Aq g):=by
 have:=Yy.inv (n:=n) (S:=S) .id hg
 rwa [id_comp (hS.2 g hg).inv] at this
theorem Yy.tF {n:Nat} {S:List Int->Prop} (hS:DB n S) {p:List Int} (hp:Yy n S p):Yy n S (Aq p):=by
 induction hp with
 |id=>rw [MR hS.1.1 hS.1.2];exact .id
 |mul hq hg ih=>rw [inv_mul (hq.pm hS) (hS.2 _ hg)];exact (Yy.ZI hS hg).comp hS ih
 |inv hq hg ih=>rw [inv_mul (hq.pm hS) (hS.2 _ hg).inv,inv_inv (hS.2 _ hg)];exact (Yy.one hS hg).comp hS ih
theorem Yy.trans {n:Nat} {S S':List Int->Prop} (hS':DB n S') (h: ∀g,S g->Yy n S' g) {p:List Int} (hp:Yy n S p):Yy n S' p:=by
 induction hp with
 |id=>exact .id
 |mul _ hg ih=>exact ih.comp hS' (h _ hg)
 |inv _ hg ih=>exact ih.comp hS' ((h _ hg).tF hS')
abbrev PO:=Option (List Int)
abbrev Row:=List PO
abbrev Df:=List Row
def Io (row:Row):List Int:=(upto row.length).filter λy=>(row.getD y.toNat none).isSome
def Jr (T:Df):Nat->Nat->List Int->Bool
 |0,_,_=>true
 |k+1,i,p=>match (T.getD i []).getD (Bj p (i:Int)).toNat none with
  |none=>false
  |some t=>Jr T k (i+1) (Ab p (Aq t))
def Mg (row:Row):Nat:=row.countP (·.isNone)
def Un (x:Int) (s:Row×List Int) (o:PO):Row×List Int:=
 match s.1.getD (Bj (o.getD []) x).toNat none with
 |some _=>s
 |none=>(s.1.set (Bj (o.getD []) x).toNat (some (Ab ((s.1.getD x.toNat none).getD []) (o.getD []))),s.2++ [Bj (o.getD []) x])
def Uf (x:Int) (gs:List PO) (s:Row×List Int):Row×List Int:=gs.foldl (Un x) s
def Tx (gs:List PO):Nat->List Int->Row->Row
 |0,_,row=>row
 |_+1,[],row=>row
 |f+1,x::q,row=>Tx gs f (Uf x gs (row,q)).2 (Uf x gs (row,q)).1
def Sw (gs:List PO) (row:Row):Row:=Tx gs 100 (Io row) row
def Nz (row:Row) (y:Int) (g:PO):List Int:=
 Ab (Ab ((row.getD y.toNat none).getD []) (g.getD [])) (Aq ((row.getD (Bj (g.getD []) y).toNat none).getD []))
def bR (row:Row) (gs:List PO):List (List Int):=(Io row).flatMap λy=>gs.map λg=>Nz row y g
def Dv:Nat->Nat->List Int->Df×Df->Df×Df
 |0,_,_,s=>s
 |k+1,l,p,s=>
  if Jr s.2 (k+1) l p=true then s else
   (bR (Sw (s.1.getD l []++ [some p]) (s.2.getD l [])) (s.1.getD l []++ [some p])).foldl (λs q=>Dv k (l+1) q s)
    (s.1.set l (s.1.getD l []++ [some p]),s.2.set l (Sw (s.1.getD l []++ [some p]) (s.2.getD l [])))
def Fx (l:Nat) (p:List Int):Prop:= ∀i,i<l->ap p i=i
def Gn (n:Nat) (gs:List PO):List Int->Prop:=Yy n λg=>some g∈gs
structure QW (n l:Nat) (gs:List PO) (row:Row) (H:List Int->Prop):Prop where
 pg: ∀o∈gs,∃g,o=some g/\Pm n g/\Fx l g
 rl:row.length=n
 r0:row.getD l none=some (upto n)
 rt: ∀y t,row.getD y none=some t->Pm n t/\Fx l t/\ap t l=y/\Gn n gs t
 cl: ∀y t g,row.getD y none=some t->some g∈gs->row.getD (ap g y) none≠none
 sg: ∀y t g t',row.getD y none=some t->some g∈gs->row.getD (ap g y) none=some t'->H (Ab (Ab t g) (Aq t'))
def gb (n:Nat):Nat->Nat->Df×Df->Prop
 |0,l,s=>s.1.getD l []= []
 |k+1,l,s=>gb n k (l+1) s/\QW n l (s.1.getD l []) (s.2.getD l []) (λq=>Jr s.2 k (l+1) q=true)/\ ∀g,some g∈s.1.getD (l+1) []->Gn n (s.1.getD l []) g
theorem TP {l1 l2:List Nat} (hn:l1.Nodup) (hs: ∀x∈l1,x∈l2) (hl:l2.length<=l1.length): ∀x∈l2,x∈l1:=by
 induction l1 generalizing l2 with
 |nil=>
  intro x hx
  have:l2= []:=List.eq_nil_of_length_eq_zero (by simpa using hl)
  rw [this] at hx;cases hx
 |cons a l ih=>
  intro x hx
  obtain ⟨h1,h2⟩:=List.nodup_cons.1 hn
  have ha:=hs a (by simp)
  by_cases e:x=a
  ·subst e;simp
  ·refine List.mem_cons_of_mem _ (ih (l2:=l2.erase a) h2 (λy hy=>?_) ?_ x ((List.mem_erase_of_ne e).2 hx))
   ·have hya:y≠a:= λe'=>h1 (by rw [<-e'];exact hy)
    exact (List.mem_erase_of_ne hya).2 (hs y (by simp [hy]))
   ·rw [List.length_erase_of_mem ha]
    simp only [List.length_cons] at hl
    omega
theorem AP {n:Nat} {g:List Int} (hg:Pm n g) (D:Nat->Bool) (h: ∀y,y<n->D y=true->D (ap g y)=true) {y:Nat} (hy:y<n) (hD:D y=true): ∃x,x<n/\D x=true/\ap g x=y:=by
 have:=TP (l1:=((List.range n).filter D).map (ap g)) (l2:=(List.range n).filter D) ?_ ?_ (by simp) y (List.mem_filter.2 ⟨List.mem_range.2 hy,hD⟩)
 ·obtain ⟨x,hx,e⟩:=List.mem_map.1 this
  obtain ⟨h1,h2⟩:=List.mem_filter.1 hx
  exact ⟨x,List.mem_range.1 h1,h2,e⟩
 ·refine List.pairwise_map.2 (List.Pairwise.imp_of_mem ?_ (List.nodup_range.filter D))
  intro a b ha hb Et e
  exact Et (hg.inj (List.mem_range.1 (List.mem_filter.1 ha).1) (List.mem_range.1 (List.mem_filter.1 hb).1) e)
 ·intro x hx
  obtain ⟨z,hz,rfl⟩:=List.mem_map.1 hx
  obtain ⟨h1,h2⟩:=List.mem_filter.1 hz
  exact List.mem_filter.2 ⟨List.mem_range.2 (hg.lt (List.mem_range.1 h1)),h z (List.mem_range.1 h1) h2⟩
theorem mL {row:Row} {y:Nat} {t:List Int} (h:row.getD y none=some t):y<row.length:=by
 rw [List.getD_eq_getElem?_getD] at h
 refine Classical.byContradiction λhn=>?_
 rw [List.getElem?_eq_none (by omega)] at h
 cases h
theorem QW.pms {n l:Nat} {gs:List PO} {row:Row} {H:List Int->Prop} (h:QW n l gs row H):DB n λg=>some g∈gs:=by
 refine ⟨?_,λg hg=>?_⟩
 ·have:=(h.rt l _ h.r0).1
  exact ⟨this.n1,this.n2⟩
 ·obtain ⟨g',e,h1,_⟩:=h.pg _ hg
  cases e;exact h1
theorem Fx.inv {n l:Nat} {p:List Int} (hp:Pm n p) (h:Fx l p) (hl:l<=n):Fx l (Aq p):= λi hi=>by
 have:=ej hp (i:=i) (by omega)
 rwa [h i hi] at this
theorem Fx.comp {n l:Nat} {p q:List Int} (hp:Pm n p) (hq:Pm n q) (h1:Fx l p) (h2:Fx l q) (hl:l<=n):Fx l (Ab p q):= λi hi=>by
 rw [Gd hp hq (by omega),h1 i hi,h2 i hi]
theorem Fx.all {n:Nat} {p:List Int} (hp:Pm n p) (h:Fx n p):p=upto n:=hp.ext (Pm.id hp.n1 hp.n2) λi hi=>by rw [h i hi,fb hi]
theorem Fx.div {n l:Nat} {p t:List Int} (hp:Pm n p) (ht:Pm n t) (h1:Fx l p) (h2:Fx l t) (hl:l<n) (e:ap t l=ap p l):Fx (l+1) (Ab p (Aq t)):= λi hi=>by
 rw [Gd hp ht.inv (by omega)]
 by_cases vL:i<l
 ·rw [h1 i vL];exact h2.inv ht (by omega) i vL
 ·have:i=l:=by omega
  subst this
  rw [<-e,ej ht hl]
theorem iR {n:Nat} (h1:1<=n) (h2:n<=20): ∀(k l:Nat) (s:Df×Df),l+k=n->gb n k l s-> ∀p,Pm n p->Fx l p->(Jr s.2 k l p=true↔Gn n (s.1.getD l []) p)
 |0,l,s,hk,hc,p,hp,hf=>by
  have hl:l=n:=by omega
  subst hl
  rw [hf.all hp]
  exact ⟨λ_=> .id,λ_=>rfl⟩
 |k+1,l,s,hk,hc,p,hp,hf=>by
  obtain ⟨c1,c2,c3⟩:=hc
  have hS:=c2.pms
  have ih:=iR h1 h2 k (l+1) s (by omega) c1
  have hS1:DB n λg=>some g∈s.1.getD (l+1) []:=⟨⟨h1,h2⟩,λg hg=>(c3 g hg).pm hS⟩
  have Zq:l<n:=by omega
  constructor
  ·intro h
   simp only [Jr] at h
   rw [show (Bj p (l:Int)).toNat=ap p l from rfl] at h
   split at h
   ·cases h
   ·rename_i t ht
    obtain ⟨t1,t2,t3,t4⟩:=c2.rt _ _ ht
    have VC:=Fx.div hp t1 hf t2 Zq t3
    have hg:=((ih _ (hp.comp t1.inv) VC).1 h).trans hS c3
    have:=Yy.comp hS hg t4
    rwa [Ee hp t1.inv t1,Wd t1,comp_id hp] at this
  ·intro h
   have key: ∀q,Gn n (s.1.getD l []) q-> ∃t,(s.2.getD l []).getD (ap q l) none=some t/\Gn n (s.1.getD (l+1) []) (Ab q (Aq t)):=by
    intro q hq
    induction hq with
    |id=>
     refine ⟨upto n,by rw [fb Zq];exact c2.r0,?_⟩
     rw [MR h1 h2,comp_id (Pm.id h1 h2)]
     exact .id
    | @mul q g hq hg ihq=>
     obtain ⟨t,e1,e2⟩:=ihq
     have VT:=Yy.pm hS hq
     have Ra:=hS.2 _ hg
     obtain ⟨t1,t2,t3,t4⟩:=c2.rt _ _ e1
     cases e3:(s.2.getD l []).getD (ap g (ap q l)) none with
     |none=>exact absurd e3 (c2.cl _ _ _ e1 hg)
     |some t'=>
      obtain ⟨u1,u2,u3,u4⟩:=c2.rt _ _ e3
      have hsg:=c2.sg _ _ _ _ e1 hg e3
      have hfg:Fx (l+1) (Ab (Ab t g) (Aq t')):=Fx.div (t1.comp Ra) u1 (Fx.comp t1 Ra t2 (by obtain ⟨g',e,_,h⟩:=c2.pg _ hg;cases e;exact h) (by omega)) u2 Zq (by rw [u3,Gd t1 Ra Zq,t3])
      have XR:=(ih _ ((t1.comp Ra).comp u1.inv) hfg).1 hsg
      refine ⟨t',by rw [Gd VT Ra Zq];exact e3,?_⟩
      have:=Yy.comp hS1 e2 XR
      rwa [show Ab (Ab q (Aq t)) (Ab (Ab t g) (Aq t'))=Ab (Ab q g) (Aq t') by
       rw [Ee VT t1.inv ((t1.comp Ra).comp u1.inv),Ee t1 Ra u1.inv,<-Ee t1.inv t1 (Ra.comp u1.inv),Wd t1,id_comp (Ra.comp u1.inv),Ee VT Ra u1.inv]] at this
    | @inv q g hq hg ihq=>
     obtain ⟨t,e1,e2⟩:=ihq
     have VT:=Yy.pm hS hq
     have Ra:=hS.2 _ hg
     obtain ⟨t1,t2,t3,t4⟩:=c2.rt _ _ e1
     have hy:ap q l<n:=VT.lt Zq
     obtain ⟨x,hx,hD,he⟩:=AP Ra (λy=>((s.2.getD l []).getD y none).isSome) (λy hy hd=>by
      obtain ⟨t0,MG⟩:=Option.isSome_iff_exists.1 hd
      exact Option.ne_none_iff_isSome.1 (c2.cl _ _ _ MG hg)) hy (by rw [e1];rfl)
     obtain ⟨t',e3⟩:=Option.isSome_iff_exists.1 hD
     obtain ⟨u1,u2,u3,u4⟩:=c2.rt _ _ e3
     have hsg:=c2.sg _ _ _ _ e3 hg (by rw [he];exact e1)
     have hfg:Fx (l+1) (Ab (Ab t' g) (Aq t)):=Fx.div (u1.comp Ra) t1 (Fx.comp u1 Ra u2 (by obtain ⟨g',e,_,h⟩:=c2.pg _ hg;cases e;exact h) (by omega)) t2 Zq (by rw [t3,Gd u1 Ra Zq,u3,he])
     have XR:=Yy.tF hS1 ((ih _ ((u1.comp Ra).comp t1.inv) hfg).1 hsg)
     have hax:ap (Aq g) (ap q l)=x:=by rw [<-he,ej Ra hx]
     refine ⟨t',by rw [Gd VT Ra.inv Zq,hax];exact e3,?_⟩
     have:=Yy.comp hS1 e2 XR
     rwa [show Ab (Ab q (Aq t)) (Aq (Ab (Ab t' g) (Aq t)))=Ab (Ab q (Aq g)) (Aq t') by
      rw [inv_mul (u1.comp Ra) t1.inv,inv_inv t1,inv_mul u1 Ra,Ee VT t1.inv (t1.comp (Ra.inv.comp u1.inv)),<-Ee t1.inv t1 (Ra.inv.comp u1.inv),Wd t1,id_comp (Ra.inv.comp u1.inv),Ee VT Ra.inv u1.inv]] at this
   obtain ⟨t,e1,e2⟩:=key p h
   obtain ⟨t1,t2,t3,t4⟩:=c2.rt _ _ e1
   simp only [Jr]
   rw [show (Bj p (l:Int)).toNat=ap p l from rfl,e1]
   exact (ih _ (hp.comp t1.inv) (Fx.div hp t1 hf t2 Zq t3)).2 e2
end Go.Proofs.Ytjbdmibbbpdnnaa

namespace Go.Proofs.Ytjbdmibbbpdnnaa
open Go.RowKit
theorem Pb {α:Type} (xs:List α) (i j:Nat) (x d:α):(xs.set i x).getD j d=if i=j/\i<xs.length then x else xs.getD j d:=by
 rw [List.getD_eq_getElem?_getD,List.getElem?_set,List.getD_eq_getElem?_getD]
 by_cases e:i=j
 ·subst e
  by_cases h:i<xs.length
  ·rw [if_pos rfl,if_pos h,if_pos ⟨rfl,h⟩];rfl
  ·rw [if_pos rfl,if_neg h,if_neg (λhh=>h hh.2),List.getElem?_eq_none (by omega)]
 ·rw [if_neg e,if_neg (λhh=>e hh.1)]
theorem Yy.mono {n:Nat} {S S':List Int->Prop} (h: ∀g,S g->S' g) {p:List Int} (hp:Yy n S p):Yy n S' p:=by
 induction hp with
 |id=>exact .id
 |mul _ hg ih=>exact .mul ih (h _ hg)
 |inv _ hg ih=>exact .inv ih (h _ hg)
structure Ta (n l:Nat) (gs:List PO) (row:Row):Prop where
 rl:row.length=n
 r0:row.getD l none=some (upto n)
 rt: ∀y t,row.getD y none=some t->Pm n t/\Fx l t/\ap t l=y/\Gn n gs t
def PG (n l:Nat) (gs:List PO):Prop:= ∀o∈gs,∃g,o=some g/\Pm n g/\Fx l g
structure Ext (n l:Nat) (gs:List PO) (row:Row) (q:List Int) (s':Row×List Int):Prop where
 ok:Ta n l gs s'.1
 mono: ∀y t,row.getD y none=some t->s'.1.getD y none=some t
 phi:s'.2.length+Mg s'.1=q.length+Mg row
 pO: ∀y∈q,y∈s'.2
 new: ∀y∈s'.2,y∈q\/ ∃yn:Nat,y=yn/\s'.1.getD yn none≠none
 src: ∀y:Nat,s'.1.getD y none≠none->row.getD y none≠none\/(y:Int)∈s'.2
theorem Ext.refl {n l:Nat} {gs:List PO} {row:Row} {q:List Int} (h:Ta n l gs row):Ext n l gs row q (row,q):=⟨h,λ_ _ h=>h,rfl,λ_ h=>h,λ_ h=> .inl h,λ_ h=> .inl h⟩
theorem aV {a b:Row} (h: ∀y t,a.getD y none=some t->b.getD y none=some t) {y:Nat} (hy:a.getD y none≠none):b.getD y none≠none:=by
 cases e:a.getD y none with
 |none=>exact absurd e hy
 |some t=>rw [h y t e];simp
theorem Ext.trans {n l:Nat} {gs:List PO} {row:Row} {q:List Int} {s1 s2:Row×List Int} (h:Ext n l gs row q s1) (k:Ext n l gs s1.1 s1.2 s2):Ext n l gs row q s2:=by
 refine ⟨k.ok,λy t e=>k.mono y t (h.mono y t e),k.phi.trans h.phi,λy hy=>k.pO y (h.pO y hy),λy hy=>?_,λy hy=>?_⟩
 ·rcases k.new y hy with h1|h1
  ·rcases h.new y h1 with h2|⟨yn,h2,h3⟩
   ·exact .inl h2
   ·exact .inr ⟨yn,h2,aV k.mono h3⟩
  ·exact .inr h1
 ·rcases k.src y hy with h1|h1
  ·exact (h.src y h1).imp id λh2=>k.pO _ h2
  ·exact .inr h1
theorem HJ {row:Row} {i:Nat} {t:List Int} (h:row.getD i none=none) (hi:i<row.length):Mg (row.set i (some t))+1=Mg row:=by
 unfold Mg
 have e:row[i]=none:=by
  rw [List.getD_eq_getElem?_getD,List.getElem?_eq_getElem hi] at h
  exact h
 have h1:=List.countP_set (p:= λo:PO=>o.isNone) (l:=row) (i:=i) (a:=some t) hi
 have kh:0<row.countP (·.isNone):=List.countP_pos_iff.2 ⟨row[i],List.getElem_mem hi,by rw [e];rfl⟩
 rw [h1,e]
 simp
 omega
theorem TO {n l:Nat} {gs:List PO} (Zq:l<n) (hg:PG n l gs) {row:Row} {q:List Int} (h:Ta n l gs row) {x:Nat} {t:List Int} (hx:row.getD x none=some t) {g:List Int} (ho:some g∈gs):
  Ext n l gs row q (Un (x:Int) (row,q) (some g))/\(Un (x:Int) (row,q) (some g)).1.getD (ap g x) none≠none:=by
 obtain ⟨g',e,Ra,XQ⟩:=hg _ ho
 cases e
 obtain ⟨t1,t2,t3,t4⟩:=h.rt _ _ hx
 have vP:x<n:=by rw [<-h.rl];exact mL hx
 obtain ⟨a1,a2⟩:=Ra.Nv vP
 unfold Un
 simp only [Option.getD_some,a1,Int.toNat_natCast]
 cases e:row.getD (ap g x) none with
 |some u=>exact ⟨Ext.refl h,by simp only;rw [e];simp⟩
 |none=>
  simp only [hx,Option.getD_some]
  have hl:ap g x<row.length:=by rw [h.rl];exact a2
  have hS:DB n λg=>some g∈gs:=⟨⟨t1.n1,t1.n2⟩,λg aq=>by obtain ⟨g',e,h1,_⟩:=hg _ aq;cases e;exact h1⟩
  have Ag: ∀y,(row.set (ap g x) (some (Ab t g))).getD y none=if ap g x=y/\ap g x<row.length then some (Ab t g) else row.getD y none:= λy=>Pb _ _ _ _ _
  have Et: ∀y u,row.getD y none=some u->ap g x≠y:= λy u hu e'=>by rw [<-e',e] at hu;cases hu
  refine ⟨⟨⟨by simp [h.rl],?_,λy u hu=>?_⟩,λy u hu=>?_,?_,λy hy=>List.mem_append_left _ hy,λy hy=>?_,λy hy=>?_⟩,?_⟩
  ·rw [Ag,if_neg (λhh=>Et l _ h.r0 hh.1)];exact h.r0
  ·rw [Ag] at hu
   split at hu
   ·rename_i hc
    cases hu
    exact ⟨t1.comp Ra,Fx.comp t1 Ra t2 XQ (by omega),by rw [Gd t1 Ra Zq,t3];exact hc.1, .mul t4 ho⟩
   ·exact h.rt y u hu
  ·show (row.set (ap g x) (some (Ab t g))).getD y none=some u
   rw [Ag,if_neg (λhh=>Et y u hu hh.1)];exact hu
  ·have:=HJ (t:=Ab t g) e hl
   simp only [List.length_append,List.length_cons,List.length_nil]
   omega
  ·rcases List.mem_append.1 hy with hy|hy
   ·exact .inl hy
   ·simp only [List.mem_singleton] at hy
    exact .inr ⟨ap g x,hy,by show (row.set (ap g x) (some (Ab t g))).getD (ap g x) none≠none;rw [Ag,if_pos ⟨rfl,hl⟩];simp⟩
  ·have hy:(row.set (ap g x) (some (Ab t g))).getD y none≠none:=hy
   rw [Ag] at hy
   split at hy
   ·rename_i hc
    exact .inr (by show (y:Int)∈q++ [(ap g x:Int)];rw [<-hc.1];simp)
   ·exact .inl hy
  ·show (row.set (ap g x) (some (Ab t g))).getD (ap g x) none≠none
   rw [Ag,if_pos ⟨rfl,hl⟩];simp
theorem OF {n l:Nat} {gs:List PO} (Zq:l<n) (hg:PG n l gs): ∀(UP:List PO) {row:Row} {q:List Int},(∀o∈UP,o∈gs)->Ta n l gs row-> ∀ {x:Nat} {t:List Int},row.getD x none=some t->
  Ext n l gs row q (Uf (x:Int) UP (row,q))/\ ∀g,some g∈UP->(Uf (x:Int) UP (row,q)).1.getD (ap g x) none≠none
 | [],row,q,_,h,x,t,hx=>⟨Ext.refl h,λg hg=>by cases hg⟩
 |o::UP,row,q,hs,h,x,t,hx=>by
  obtain ⟨g,rfl,_,_⟩:=hg o (hs o (by simp))
  obtain ⟨e1,e2⟩:=TO (q:=q) Zq hg h hx (hs (some g) (by simp))
  obtain ⟨f1,f2⟩:=OF Zq hg UP (q:=(Un (x:Int) (row,q) (some g)).2) (λo ho=>hs o (by simp [ho])) e1.ok (e1.mono x t hx)
  have hb:Uf (x:Int) (some g::UP) (row,q)=Uf (x:Int) UP ((Un (x:Int) (row,q) (some g)).1,(Un (x:Int) (row,q) (some g)).2):=rfl
  rw [hb]
  refine ⟨e1.trans f1,λg' aq=>?_⟩
  rcases List.mem_cons.1 aq with e|aq
  ·cases e;exact aV f1.mono e2
  ·exact f2 g' aq
def FO (gs:List PO) (q:List Int) (row:Row):Prop:=
 (∀y∈q,∃yn:Nat,y=yn/\row.getD yn none≠none)/\ ∀y:Nat,row.getD y none≠none->(y:Int)∈q\/ ∀g,some g∈gs->row.getD (ap g y) none≠none
theorem BB {n l:Nat} {gs:List PO} (Zq:l<n) (hg:PG n l gs) {x:Int} {q:List Int} {row:Row} (h:Ta n l gs row) (hq:FO gs (x::q) row):
  Ext n l gs row q (Uf x gs (row,q))/\FO gs (Uf x gs (row,q)).2 (Uf x gs (row,q)).1/\ ∃(xn:Nat) (t:List Int),x=xn/\row.getD xn none=some t:=by
 obtain ⟨xn,rfl,hx⟩:=hq.1 x (by simp)
 cases e:row.getD xn none with
 |none=>exact absurd e hx
 |some t=>
  obtain ⟨e1,e2⟩:=OF Zq hg gs (q:=q) (λo ho=>ho) h e
  refine ⟨e1,⟨λy hy=>?_,λy hy=>?_⟩,xn,t,rfl,e⟩
  ·rcases e1.new y hy with h1|h1
   ·obtain ⟨yn,h2,h3⟩:=hq.1 y (by simp [h1])
    exact ⟨yn,h2,aV e1.mono h3⟩
   ·exact h1
  ·rcases e1.src y hy with h1|h1
   ·rcases hq.2 y h1 with h2|h2
    ·rcases List.mem_cons.1 h2 with h2|h2
     ·have:y=xn:=by omega
      subst this
      exact .inr λg aq=>e2 g aq
     ·exact .inl (e1.pO _ h2)
    ·exact .inr λg aq=>aV e1.mono (h2 g aq)
   ·exact .inl h1
theorem OL {n l:Nat} {gs:List PO} (Zq:l<n) (hg:PG n l gs): ∀(f:Nat) (q:List Int) (row:Row),q.length+Mg row<=f->Ta n l gs row->FO gs q row->
  Ta n l gs (Tx gs f q row)/\(∀y t,row.getD y none=some t->(Tx gs f q row).getD y none=some t)/\ ∀y t g,(Tx gs f q row).getD y none=some t->some g∈gs->(Tx gs f q row).getD (ap g y) none≠none
 |0,q,row,hf,h,hq=>by
  have:q= []:=List.eq_nil_of_length_eq_zero (by omega)
  subst this
  exact ⟨h,λ_ _ h=>h,λy t g e aq=>by
   rcases hq.2 y (by rw [show row.getD y none=some t from e];simp) with h1|h1
   ·cases h1
   ·exact h1 g aq⟩
 |f+1,[],row,hf,h,hq=>⟨h,λ_ _ h=>h,λy t g e aq=>by
   rcases hq.2 y (by rw [show row.getD y none=some t from e];simp) with h1|h1
   ·cases h1
   ·exact h1 g aq⟩
 |f+1,x::q,row,hf,h,hq=>by
  obtain ⟨e1,e2,_⟩:=BB Zq hg h hq
  obtain ⟨r1,r2,r3⟩:=OL Zq hg f _ _ (by have:=e1.phi;simp only [List.length_cons] at hf;omega) e1.ok e2
  exact ⟨r1,λy t e=>r2 y t (e1.mono y t e),r3⟩
theorem Od {row:Row} {y:Int} :y∈Io row↔ ∃yn:Nat,y=yn/\row.getD yn none≠none:=by
 unfold Io
 rw [List.mem_filter,Jf]
 constructor
 ·rintro ⟨h1,h2⟩
  exact ⟨y.toNat,by omega,Option.ne_none_iff_isSome.2 h2⟩
 ·rintro ⟨yn,rfl,h⟩
  obtain ⟨t,ht⟩:=Option.ne_none_iff_exists'.1 h
  exact ⟨by have:=mL ht;omega,by simpa using Option.ne_none_iff_isSome.1 h⟩
theorem ua (row:Row):(Io row).length<=row.length:=by
 unfold Io
 refine Nat.le_trans (List.length_filter_le _ _) (by simp [upto])
theorem xE (row:Row):Mg row<=row.length:=List.countP_le_length
theorem xI {n l:Nat} {gs:List PO} (Zq:l<n) (h2:n<=20) (hg:PG n l gs) {row:Row} (h:Ta n l gs row):
  Ta n l gs (Sw gs row)/\(∀y t,row.getD y none=some t->(Sw gs row).getD y none=some t)/\ ∀y t g,(Sw gs row).getD y none=some t->some g∈gs->(Sw gs row).getD (ap g y) none≠none:=
 OL Zq hg 100 _ _ (by have:=ua row;have:=xE row;have:=h.rl;omega) h ⟨λy hy=>Od.1 hy,λy hy=> .inl (Od.2 ⟨y,rfl,hy⟩)⟩
theorem wg {n l:Nat} {gs:List PO} (Zq:l<n) (hg:PG n l gs): ∀(f:Nat) (q:List Int) (row:Row),q.length+Mg row<=f->Ta n l gs row->FO gs q row->Tx gs f q row=Tx gs (q.length+Mg row) q row
 |0,q,row,hf,_,_=>by
  have:q.length+Mg row=0:=by omega
  rw [this]
 |f+1,[],row,hf,_,_=>by
  cases h:([]:List Int).length+Mg row with
  |zero=>rfl
  |succ m=>rfl
 |f+1,x::q,row,hf,h,hq=>by
  obtain ⟨e1,e2,_⟩:=BB Zq hg h hq
  have SG:=e1.phi
  have:(x::q).length+Mg row=(q.length+Mg row)+1:=by simp only [List.length_cons];omega
  rw [this]
  simp only [Tx]
  rw [wg Zq hg f _ _ (by simp only [List.length_cons] at hf;omega) e1.ok e2,SG]
def wq (row:Row):Nat:=row.countP (·.isSome)
theorem rh: ∀(a b:Row),a.length=b.length->(∀y t,a.getD y none=some t->b.getD y none=some t)->wq a<=wq b/\(wq a=wq b->a=b)
 | [],[],_,_=>⟨Nat.le_refl _,λ_=>rfl⟩
 | [],_::_,h,_=>by simp at h
 |_::_,[],h,_=>by simp at h
 |x::a,y::b,h,hm=>by
  obtain ⟨h1,h2⟩:=rh a b (by simpa using h) λi t e=>by simpa using hm (i+1) t (by simpa using e)
  unfold wq at h1 h2⊢
  cases x with
  |none=>
   cases y with
   |none=>simp only [List.countP_cons];exact ⟨by simpa using h1,λe=>by rw [h2 (by simpa using e)]⟩
   |some u=>
    simp only [List.countP_cons,Option.isSome_none,Option.isSome_some]
    simp only [if_true,Bool.false_eq_true,if_false]
    exact ⟨by omega,λe=>by omega⟩
  |some t=>
   have:=hm 0 t (by simp)
   simp only [List.getD_cons_zero] at this
   subst this
   simp only [List.countP_cons]
   exact ⟨by simpa using h1,λe=>by rw [h2 (by simpa using e)]⟩
def gQ (T:Df):Nat->Nat->Nat
 |0,_=>0
 |k+1,l=>wq (T.getD l [])+gQ T k (l+1)
def GBf:Nat->Nat->Df×Df->Prop
 |0,_,_=>True
 |k+1,l,s=>GBf k (l+1) s/\(s.1.getD l []).length<=gQ s.2 (k+1) l
structure Yd (l0:Nat) (s s':Df×Df):Prop where
 Ae5:s'.1.length=s.1.length
 od:s'.2.length=s.2.length
 low: ∀i,i<l0->s'.1.getD i []=s.1.getD i []/\s'.2.getD i []=s.2.getD i []
 DW: ∀i o,o∈s.1.getD i []->o∈s'.1.getD i []
 PJ: ∀i y t,(s.2.getD i []).getD y none=some t->(s'.2.getD i []).getD y none=some t
 Aa2: ∀i,(s'.2.getD i []).length=(s.2.getD i []).length
theorem Yd.refl (l0:Nat) (s:Df×Df):Yd l0 s s:=⟨rfl,rfl,λ_ _=>⟨rfl,rfl⟩,λ_ _ h=>h,λ_ _ _ h=>h,λ_=>rfl⟩
theorem Yd.trans {l0 l1:Nat} {a b c:Df×Df} (h:Yd l0 a b) (k:Yd l1 b c) (hl:l0<=l1):Yd l0 a c:=
 ⟨k.Ae5.trans h.Ae5,k.od.trans h.od,λi hi=>⟨(k.low i (by omega)).1.trans (h.low i hi).1,(k.low i (by omega)).2.trans (h.low i hi).2⟩,λi o ho=>k.DW i o (h.DW i o ho),λi y t e=>k.PJ i y t (h.PJ i y t e),λi=>(k.Aa2 i).trans (h.Aa2 i)⟩
theorem Yd.Fe {l0 l1:Nat} {a b:Df×Df} (h:Yd l1 a b) (hl:l0<=l1):Yd l0 a b:=(Yd.refl l0 a).trans h hl
theorem cW {T T':Df} : ∀(k l:Nat) (p:List Int),(∀i,l<=i->i<l+k->T'.getD i []=T.getD i [])->Jr T' k l p=Jr T k l p
 |0,_,_,_=>rfl
 |k+1,l,p,h=>by
  simp only [Jr]
  rw [h l (Nat.le_refl _) (by omega)]
  split
  ·rfl
  ·exact cW k (l+1) _ λi h1 h2=>h i (by omega) (by omega)
theorem gp {n:Nat} {s s':Df×Df} : ∀(k l:Nat),(∀i,l<=i->s'.1.getD i []=s.1.getD i []/\s'.2.getD i []=s.2.getD i [])->gb n k l s->gb n k l s'
 |0,l,h,hc=>by simp only [gb] at hc⊢;rw [(h l (Nat.le_refl _)).1];exact hc
 |k+1,l,h,hc=>by
  simp only [gb] at hc⊢
  obtain ⟨c1,c2,c3⟩:=hc
  refine ⟨gp k (l+1) (λi hi=>h i (by omega)) c1,?_,?_⟩
  ·rw [(h l (Nat.le_refl _)).1,(h l (Nat.le_refl _)).2]
   have e:(λq=>Jr s'.2 k (l+1) q=true)= λq=>Jr s.2 k (l+1) q=true:=funext λq=>by rw [cW k (l+1) q λi h1 h2=>(h i (by omega)).2]
   rw [e];exact c2
  ·rw [(h (l+1) (by omega)).1,(h l (Nat.le_refl _)).1];exact c3
theorem s7 {T T':Df} : ∀(k l:Nat),(∀i,l<=i->T'.getD i []=T.getD i [])->gQ T' k l=gQ T k l
 |0,_,_=>rfl
 |k+1,l,h=>by simp only [gQ];rw [h l (Nat.le_refl _),s7 k (l+1) λi hi=>h i (by omega)]
theorem nO {s s':Df×Df} : ∀(k l:Nat),(∀i,l<=i->s'.1.getD i []=s.1.getD i []/\s'.2.getD i []=s.2.getD i [])->GBf k l s->GBf k l s'
 |0,_,_,_=>trivial
 |k+1,l,h,hg=>⟨nO k (l+1) (λi hi=>h i (by omega)) hg.1,by
  rw [(h l (Nat.le_refl _)).1,s7 (k+1) l λi hi=>(h i hi).2];exact hg.2⟩
theorem xX {T T':Df} (hl: ∀i,(T'.getD i []).length=(T.getD i []).length) (hm: ∀i y t,(T.getD i []).getD y none=some t->(T'.getD i []).getD y none=some t):
  ∀(k l:Nat),gQ T k l<=gQ T' k l/\(gQ T k l=gQ T' k l-> ∀i,l<=i->i<l+k->T'.getD i []=T.getD i [])
 |0,l=>⟨Nat.le_refl _,λ_ i h1 h2=>by omega⟩
 |k+1,l=>by
  obtain ⟨h1,h2⟩:=xX hl hm k (l+1)
  obtain ⟨h3,h4⟩:=rh (T.getD l []) (T'.getD l []) (hl l).symm (hm l)
  simp only [gQ]
  refine ⟨by omega,λe i g1 g2=>?_⟩
  by_cases hi:i=l
  ·subst hi;exact (h4 (by omega)).symm
  ·exact h2 (by omega) i (by omega) (by omega)
def V (n k l:Nat) (s:Df×Df):Prop:=s.1.length=n/\s.2.length=n/\gb n k l s/\GBf k l s
structure Abp (n k l:Nat) (s:Df×Df) (p:List Int) (s':Df×Df):Prop where
 v:V n k l s'
 grow:Yd l s s'
 Ae4:Gn n (s'.1.getD l []) p
 gens: ∀o∈s'.1.getD l [],o∈s.1.getD l []\/o=some p
theorem QW.row {n l:Nat} {gs:List PO} {row:Row} {H:List Int->Prop} (h:QW n l gs row H):Ta n l gs row:=⟨h.rl,h.r0,h.rt⟩
theorem dN {row:Row} {y:Nat} {t g t':List Int} (h1:row.getD y none=some t) (h2:row.getD (ap g y) none=some t'):Nz row (y:Int) (some g)=Ab (Ab t g) (Aq t'):=by
 unfold Nz
 rw [Int.toNat_natCast,h1,Option.getD_some,Option.getD_some,show (Bj g (y:Int)).toNat=ap g y from rfl,h2,Option.getD_some]
theorem kv {n l:Nat} {gs:List PO} {row:Row} (hg:PG n l gs) (_h:Ta n l gs row) (hc: ∀y t g,row.getD y none=some t->some g∈gs->row.getD (ap g y) none≠none) {q:List Int} :
  q∈bR row gs↔ ∃(y:Nat) (t g t':List Int),row.getD y none=some t/\some g∈gs/\row.getD (ap g y) none=some t'/\q=Ab (Ab t g) (Aq t'):=by
 unfold bR
 rw [List.mem_flatMap]
 constructor
 ·rintro ⟨y,hy,hq⟩
  obtain ⟨o,ho,rfl⟩:=List.mem_map.1 hq
  obtain ⟨yn,rfl,VZ⟩:=Od.1 hy
  obtain ⟨t,ht⟩:=Option.ne_none_iff_exists'.1 VZ
  obtain ⟨g,rfl,Ra,_⟩:=hg o ho
  obtain ⟨t',mP⟩:=Option.ne_none_iff_exists'.1 (hc yn t g ht ho)
  exact ⟨yn,t,g,t',ht,ho,mP,dN ht mP⟩
 ·rintro ⟨y,t,g,t',h1,h2,h3,rfl⟩
  obtain ⟨g',e,Ra,_⟩:=hg _ h2
  cases e
  exact ⟨(y:Int),Od.2 ⟨y,rfl,by rw [h1];simp⟩,List.mem_map.2 ⟨some g,h2,dN h1 h3⟩⟩
theorem sI {n:Nat} (h1:1<=n) (h2:n<=20): ∀(k l:Nat) (p:List Int) (s:Df×Df),l+k=n->V n k l s->Pm n p->Fx l p->Abp n k l s p (Dv k l p s)
 |0,l,p,s,hk,hv,hp,hf=>by
  have hl:l=n:=by omega
  subst hl
  exact ⟨hv,Yd.refl _ _,by rw [hf.all hp];exact .id,λo ho=> .inl ho⟩
 |k+1,l,p,s,hk,hv,hp,hf=>by
  have Zq:l<n:=by omega
  obtain ⟨v1,v2,hc,KA⟩:=hv
  have gB:=hc
  obtain ⟨c1,c2,c3⟩:=hc
  unfold Dv
  by_cases hh:Jr s.2 (k+1) l p=true
  ·rw [if_pos hh]
   exact ⟨⟨v1,v2,gB,KA⟩,Yd.refl _ _,(iR h1 h2 (k+1) l s hk gB p hp hf).1 hh,λo ho=> .inl ho⟩
  rw [if_neg hh]
  generalize ED:s.1.getD l []++ [some p]=gs
  have Zs:some p∈gs:=by rw [<-ED];simp
  have Lu: ∀o∈s.1.getD l [],o∈gs:= λo ho=>by rw [<-ED];exact List.mem_append_left _ ho
  have hg:PG n l gs:= λo ho=>by
   rw [<-ED] at ho
   rcases List.mem_append.1 ho with ho|ho
   ·exact c2.pg o ho
   ·rw [List.mem_singleton] at ho;exact ⟨p,ho,hp,hf⟩
  have Adi:Ta n l gs (s.2.getD l []):=⟨c2.rl,c2.r0,λy t e=>⟨(c2.rt y t e).1,(c2.rt y t e).2.1,(c2.rt y t e).2.2.1,(c2.rt y t e).2.2.2.mono λg hg=>Lu _ hg⟩⟩
  obtain ⟨r1,r2,r3⟩:=xI Zq h2 hg Adi
  generalize hR:Sw gs (s.2.getD l [])=R at r1 r2 r3
  have hS:DB n λg=>some g∈gs:=⟨⟨h1,h2⟩,λg aq=>by obtain ⟨g',e,h,_⟩:=hg _ aq;cases e;exact h⟩
  have TK: ∀i,((s.1.set l gs).getD i []=if i=l then gs else s.1.getD i [])/\(s.2.set l R).getD i []=if i=l then R else s.2.getD i []:= λi=>by
   rw [Pb,Pb]
   by_cases e:l=i
   ·subst e;rw [if_pos ⟨rfl,by omega⟩,if_pos rfl,if_pos ⟨rfl,by omega⟩,if_pos rfl];exact ⟨rfl,rfl⟩
   ·rw [if_neg (λhh=>e hh.1),if_neg (Ne.symm e),if_neg (λhh=>e hh.1),if_neg (Ne.symm e)];exact ⟨rfl,rfl⟩
  have VY: ∀i,l+1<=i->(s.1.set l gs).getD i []=s.1.getD i []/\(s.2.set l R).getD i []=s.2.getD i []:= λi hi=>by
   rw [(TK i).1,(TK i).2,if_neg (by omega),if_neg (by omega)];exact ⟨rfl,rfl⟩
  have mO:V n k (l+1) (s.1.set l gs,s.2.set l R):=⟨by simpa using v1,by simpa using v2,gp k (l+1) VY c1,nO k (l+1) VY KA.1⟩
  have XS:Yd l s (s.1.set l gs,s.2.set l R):=by
   refine ⟨by simp,by simp,λi hi=>?_,λi o ho=>?_,λi y t e=>?_,λi=>?_⟩
   ·rw [(TK i).1,(TK i).2,if_neg (by omega),if_neg (by omega)];exact ⟨rfl,rfl⟩
   ·rw [(TK i).1]
    split
    ·rename_i hi;subst hi;exact Lu o ho
    ·exact ho
   ·rw [(TK i).2]
    split
    ·rename_i hi;subst hi;exact r2 y t e
    ·exact e
   ·rw [(TK i).2]
    split
    ·rename_i hi;subst hi;rw [r1.rl,c2.rl]
    ·rfl
  have hq: ∀q∈bR R gs,Pm n q/\Fx (l+1) q/\Gn n gs q:= λq hq=>by
   obtain ⟨y,t,g,t',e1,e2,e3,rfl⟩:=(kv hg r1 r3).1 hq
   obtain ⟨t1,t2,t3,t4⟩:=r1.rt _ _ e1
   obtain ⟨u1,u2,u3,u4⟩:=r1.rt _ _ e3
   obtain ⟨g',e,Ra,XQ⟩:=hg _ e2
   cases e
   exact ⟨(t1.comp Ra).comp u1.inv,Fx.div (t1.comp Ra) u1 (Fx.comp t1 Ra t2 XQ (by omega)) u2 Zq (by rw [u3,Gd t1 Ra Zq,t3]),Yy.comp hS (.mul t4 e2) (Yy.tF hS u4)⟩
  have fold: ∀(qs:List (List Int)) (s1:Df×Df),(∀q∈qs,Pm n q/\Fx (l+1) q)->V n k (l+1) s1->
    V n k (l+1) (qs.foldl (λs q=>Dv k (l+1) q s) s1)/\Yd (l+1) s1 (qs.foldl (λs q=>Dv k (l+1) q s) s1)/\
     (∀q∈qs,Gn n ((qs.foldl (λs q=>Dv k (l+1) q s) s1).1.getD (l+1) []) q)/\ ∀o∈(qs.foldl (λs q=>Dv k (l+1) q s) s1).1.getD (l+1) [],o∈s1.1.getD (l+1) []\/ ∃q∈qs,o=some q:=by
   intro qs
   induction qs with
   |nil=>exact λs1 _ hv=>⟨hv,Yd.refl _ _,(λq hq=>by cases hq),λo ho=>Or.inl ho⟩
   |cons q qs ih=>
    intro s1 SI hv
    have ha:=sI h1 h2 k (l+1) q s1 (by omega) hv (SI q (by simp)).1 (SI q (by simp)).2
    obtain ⟨g1,g2,g3,g4⟩:=ih (Dv k (l+1) q s1) (λq' fy=>SI q' (by simp [fy])) ha.v
    simp only [List.foldl_cons]
    refine ⟨g1,ha.grow.trans g2 (Nat.le_refl _),λq' fy=>?_,λo ho=>?_⟩
    ·rcases List.mem_cons.1 fy with rfl|fy
     ·exact ha.Ae4.mono λg hg=>g2.DW _ _ hg
     ·exact g3 q' fy
    ·rcases g4 o ho with h|⟨q',fy,h⟩
     ·rcases ha.gens o h with h|h
      ·exact .inl h
      ·exact .inr ⟨q,by simp,h⟩
     ·exact .inr ⟨q',by simp [fy],h⟩
  obtain ⟨f1,f2,f3,f4⟩:=fold (bR R gs) (s.1.set l gs,s.2.set l R) (λq h=>⟨(hq q h).1,(hq q h).2.1⟩) mO
  generalize (bR R gs).foldl (λs q=>Dv k (l+1) q s) (s.1.set l gs,s.2.set l R)=s' at f1 f2 f3 f4
  obtain ⟨w1,w2,w3,w4⟩:=f1
  have el1:s'.1.getD l []=gs:=by rw [(f2.low l (by omega)).1,(TK l).1,if_pos rfl]
  have el2:s'.2.getD l []=R:=by rw [(f2.low l (by omega)).2,(TK l).2,if_pos rfl]
  have LR:=XS.trans f2 (by omega)
  have Aij:QW n l gs R (λq=>Jr s'.2 k (l+1) q=true):=⟨hg,r1.rl,r1.r0,r1.rt,r3,λy t g t' e1 e2 e3=>by
   have hm:=(kv hg r1 r3).2 ⟨y,t,g,t',e1,e2,e3,rfl⟩
   exact (iR h1 h2 k (l+1) s' (by omega) w3 _ (hq _ hm).1 (hq _ hm).2.1).2 (f3 _ hm)⟩
  have VA:gb n (k+1) l s':=⟨w3,by rw [el1,el2];exact Aij,λg aq=>by
   rw [el1]
   rcases f4 _ aq with h|⟨q,fy,h⟩
   ·rw [(VY (l+1) (Nat.le_refl _)).1] at h
    exact (c3 g h).mono λg hg=>Lu _ hg
   ·cases h;exact (hq _ fy).2.2⟩
  have Iv:Gn n (s'.1.getD l []) p:=by rw [el1];exact Yy.one hS Zs
  refine ⟨⟨w1,w2,VA,w4,?_⟩,LR,Iv,λo ho=>?_⟩
  ·have hold:=KA.2
   obtain ⟨p1,p2⟩:=xX LR.Aa2 LR.PJ (k+1) l
   have Et:gQ s.2 (k+1) l≠gQ s'.2 (k+1) l:= λe=>by
    have:=cW (k+1) l p (p2 e)
    rw [(iR h1 h2 (k+1) l s' hk VA p hp hf).2 Iv] at this
    exact hh this.symm
   rw [el1,<-ED,List.length_append,List.length_singleton]
   omega
  ·rw [el1,<-ED] at ho
   rcases List.mem_append.1 ho with ho|ho
   ·exact .inl ho
   ·rw [List.mem_singleton] at ho;exact .inr ho
end Go.Proofs.Ytjbdmibbbpdnnaa

namespace Go.Proofs.Ytjbdmibbbpdnnaa
open Go.RowKit
theorem NZ {n l:Nat} {gs:List PO} {R:Row} (Zq:l<n) (hg:PG n l gs) (r1:Ta n l gs R) (r3: ∀y t g,R.getD y none=some t->some g∈gs->R.getD (ap g y) none≠none): ∀q∈bR R gs,Pm n q/\Fx (l+1) q:=by
 intro q hq
 obtain ⟨y,t,g,t',e1,e2,e3,rfl⟩:=(kv hg r1 r3).1 hq
 obtain ⟨t1,t2,t3,t4⟩:=r1.rt _ _ e1
 obtain ⟨u1,u2,u3,u4⟩:=r1.rt _ _ e3
 obtain ⟨g',e,Ra,XQ⟩:=hg _ e2
 cases e
 exact ⟨(t1.comp Ra).comp u1.inv,Fx.div (t1.comp Ra) u1 (Fx.comp t1 Ra t2 XQ (by omega)) u2 Zq (by rw [u3,Gd t1 Ra Zq,t3])⟩
theorem V.lower {n k l:Nat} {s:Df×Df} (h:V n (k+1) l s) (gs:List PO) (R:Row):V n k (l+1) (s.1.set l gs,s.2.set l R):=by
 obtain ⟨v1,v2,hc,KA⟩:=h
 have VY: ∀i,l+1<=i->(s.1.set l gs).getD i []=s.1.getD i []/\(s.2.set l R).getD i []=s.2.getD i []:= λi hi=>by
  rw [Pb,Pb,if_neg (by omega),if_neg (by omega)];exact ⟨rfl,rfl⟩
 exact ⟨by simpa using v1,by simpa using v2,gp k (l+1) VY hc.1,nO k (l+1) VY KA.1⟩
theorem DS {n k l:Nat} (h1:1<=n) (h2:n<=20) (hk:l+k=n): ∀(qs:List (List Int)) (s1:Df×Df),(∀q∈qs,Pm n q/\Fx l q)->V n k l s1->
  V n k l (qs.foldl (λs q=>Dv k l q s) s1)/\Yd l s1 (qs.foldl (λs q=>Dv k l q s) s1)
 | [],s1,_,hv=>⟨hv,Yd.refl _ _⟩
 |q::qs,s1,SI,hv=>by
  have ha:=sI h1 h2 k l q s1 hk hv (SI q (by simp)).1 (SI q (by simp)).2
  obtain ⟨g1,g2⟩:=DS h1 h2 hk qs (Dv k l q s1) (λq' fy=>SI q' (by simp [fy])) ha.v
  exact ⟨g1,ha.grow.trans g2 (Nat.le_refl _)⟩
theorem OE {n:Nat} {s:Df×Df} : ∀(k l:Nat),gb n k l s->gQ s.2 k l<=n*k
 |0,_,_=>by simp [gQ]
 |k+1,l,hc=>by
  have h1:=OE k (l+1) hc.1
  have h2:wq (s.2.getD l [])<=n:=by
   have:=hc.2.1.rl
   have h3:wq (s.2.getD l [])<=(s.2.getD l []).length:=List.countP_le_length
   omega
  simp only [gQ]
  rw [Nat.mul_succ]
  omega
theorem RK {n k l:Nat} {s:Df×Df} (h2:n<=20) (hk:l+(k+1)=n) (h:V n (k+1) l s):(s.1.getD l []).length<=400:=by
 have h3:=h.2.2.2.2
 have h4:=OE (k+1) l h.2.2.1
 have h5:n*(k+1)<=20*20:=Nat.mul_le_mul h2 (by omega)
 omega
theorem V.lvl {n k l:Nat} {s:Df×Df} (h:V n (k+1) l s):QW n l (s.1.getD l []) (s.2.getD l []) (λq=>Jr s.2 k (l+1) q=true):=h.2.2.1.2.1
theorem V.pg {n k l:Nat} {s:Df×Df} (h:V n (k+1) l s) {p:List Int} (hp:Pm n p) (hf:Fx l p):PG n l (s.1.getD l []++ [some p]):= λo ho=>by
 rcases List.mem_append.1 ho with ho|ho
 ·exact h.lvl.pg o ho
 ·rw [List.mem_singleton] at ho;exact ⟨p,ho,hp,hf⟩
theorem V.Ajx {n k l:Nat} {s:Df×Df} (h:V n (k+1) l s) (p:List Int):Ta n l (s.1.getD l []++ [some p]) (s.2.getD l []):=
 ⟨h.lvl.rl,h.lvl.r0,λy t e=>⟨(h.lvl.rt y t e).1,(h.lvl.rt y t e).2.1,(h.lvl.rt y t e).2.2.1,(h.lvl.rt y t e).2.2.2.mono λ_ hg=>List.mem_append_left _ hg⟩⟩
theorem qB {α:Type} (xs:List (List α)) (i:Nat) (h:i<xs.length):xs.set i (xs.getD i [])=xs:=by
 refine List.ext_getElem (by simp) λj h1 h2=>?_
 rw [List.getElem_set]
 split
 ·rename_i e;subst e;rw [List.getD_eq_getElem?_getD,List.getElem?_eq_getElem h];rfl
 ·rfl
theorem fm {α:Type} (xs:List (List α)) (i:Nat) (h:i<xs.length) (r:List α):(xs.set i r).getD i []=r:=by
 rw [Pb,if_pos ⟨rfl,h⟩]
end Go.Proofs.Ytjbdmibbbpdnnaa

namespace Go.Proofs.Ytjbdmibbbpdnnaa
open Go.RowKit
noncomputable abbrev Lh:MSpec:=Yp [none] [(false, .Dy tLO)] false [none] [.row tI 2] (λx=>List.length x.1<=20) (λx=>((Io x.1,()),()))
noncomputable abbrev Ry:Spec:=Dg (.pair tL (.pair tL .unit)) tO false true (λx=>(0<x.1.length/\x.1.length<=20)/\Ny x.2.1.length x.1) (λx=>some (Ab x.1 x.2.1))
noncomputable abbrev bm:Spec:=Dg (.pair tL (.pair tL .unit)) tL false false (λx=>x.1.length<=20/\Ny x.2.1.length x.1) (λx=>Ab x.1 x.2.1)
noncomputable abbrev Pj:Spec:=Dg (.pair tI .unit) tL false true (λx=>0<=x.1/\x.1<=20) (λx=>upto x.1.toNat)
noncomputable abbrev Xu:Spec:=Dg (.pair tI .unit) tO false true (λx=>1<=x.1/\x.1<=20) (λx=>some (upto x.1.toNat))
abbrev WN:TypeId:=22
structure mW (N L:Nat) (n:Int) (G T:Df) (l:Int) (p:List Int):Prop where
 n1:1<=N
 n2:N<=20
 en:n=N
 el:l=L
 le:L<=N
 v:V N (N-L) L (G,T)
 pm:Pm N p
 fx:Fx L p
noncomputable abbrev sk:Spec:=Dg (.pair (.ptr vf) (.pair tI (.pair tL .unit))) .bool false true (λx=> ∃N L,mW N L x.1.1 x.1.2.1 x.1.2.2.1 x.2.1 x.2.2.1) (λx=>Jr x.1.2.2.1 (x.1.1-x.2.1).toNat x.2.1.toNat x.2.2.1)
noncomputable abbrev WI:MSpec:= {ptr:=some (179,3),Hq:= [none,none],ins:= [(false, .Dy tI),(false, .Ao tO WN true),(false, .Ao tO WN true),(false, .Dy tI),(false, .Dy tO)],Ej:=false,Gm:= [],outs:= [.Dy tI, .Ao tO WN false, .Ao tO WN false],fn:= λ_=>none,keeps:= [(1,1),(2,2)],Cz:= λx=>x.2.2.2.1.toNat}
noncomputable abbrev Ql (m:Nat):MSpec:=z6 WI (λx=>(∃N L q,x.2.2.2.2.1=some q/\mW N L x.1 x.2.1 x.2.2.1 x.2.2.2.1 q)/\(x.1-x.2.2.2.1).toNat<m)
 (λx=>((x.1,(Dv (x.1-x.2.2.2.1).toNat x.2.2.2.1.toNat (x.2.2.2.2.1.getD []) (x.2.1,x.2.2.1)).1,(Dv (x.1-x.2.2.2.1).toNat x.2.2.2.1.toNat (x.2.2.2.2.1.getD []) (x.2.1,x.2.2.1)).2,()),()))
theorem yH (n:Int) (P:List Int->Prop):(((0:Int)<=n/\n<(↑Bm:Int)+(1:Int))/\n=n/\0=0/\(List.replicate n.toNat (Int.ofNat (nat_lit 0))).length=(List.replicate n.toNat (Int.ofNat (nat_lit 0))).length/\Bo (λ(v2:Int×List Int×PUnit) (k3:Int×List Int×PUnit->Prop)=>Br (decide (v2.1<(↑(List.replicate n.toNat (Int.ofNat (nat_lit 0))).length:Int))) (((0:Int)<=v2.1/\v2.1<(↑v2.2.1.length:Int))/\0+v2.1.toNat<v2.2.1.length/\0=0/\v2.2.1.length=(v2.2.1.set (0+v2.1.toNat) v2.1).length/\k3 (IntKind.i64.wrap (v2.1+(1:Int)),v2.2.1.set (0+v2.1.toNat) v2.1,())) (P (List.take v2.2.1.length (List.drop 0 v2.2.1)))) ((0:Int),List.replicate n.toNat (Int.ofNat (nat_lit 0)),PUnit.unit))=fnW Da (look []) Pj Try.f127 (n,()) P:=by kernel_rfl
theorem JR (row:List (Option (List Int))) (P:(List Int×Unit)×Unit->Prop):(0=0/\0=([]:List Int).length/\Bo (λ(v2:Int×List Int×PUnit) (k3:Int×List Int×PUnit->Prop)=>Br (decide (v2.1<(↑row.length:Int))) (∃(y4:Option (List Int)),idx row v2.1=some y4/\Br (!y4.isNone) (0=0/\v2.2.1.length=v2.2.1.length/\v2.2.1.length+(List.take 1 (List.drop 0 [v2.1])).length<=Bm/\0=0/\(v2.2.1++List.take 1 (List.drop 0 [v2.1])).length=(v2.2.1++List.take 1 (List.drop 0 [v2.1])).length/\k3 (IntKind.i64.wrap (v2.1+(1:Int)),v2.2.1++List.take 1 (List.drop 0 [v2.1]),())) (0=0/\v2.2.1.length=v2.2.1.length/\k3 (IntKind.i64.wrap (v2.1+(1:Int)),v2.2.1,()))) (P ((List.take v2.2.1.length (List.drop 0 v2.2.1),()),()))) ((0:Int),[],PUnit.unit))=fnMW Va (look []) Lh Try.f174 (row,()) P:=by kernel_rfl
theorem Aey (c:Int×List (List (Option (List Int)))×List (List (Option (List Int)))×Unit) (l:Int) (p:List Int) (P:Bool->Prop):(Bo (λ(v4:List Int×Int×PUnit) (k5:List Int×Int×PUnit->Prop)=>Br (decide (v4.2.1<c.1)) (∃(y6:List (Option (List Int))),idx c.2.2.1 v4.2.1=some y6/\ ∃(y7:Int),idx v4.1 v4.2.1=some y7/\ ∃(y8:Option (List Int)),idx y6 y7=some y8/\Br y8.isNone (P false) (∃(y9:List Int),Eu.fn (y8.getD [],())=some y9/\ ∃(Jv:List Int),bm.fn (v4.1,y9,())=some Jv/\k5 (Jv,IntKind.i64.wrap (v4.2.1+(1:Int)),()))) (P true)) (p,l,PUnit.unit))=fnW Va (look [(175,Eu),(156,bm)]) sk Try.f183 (c,l,p,()) P:=by kernel_rfl
theorem Sound.loose {P:Program} {f:FuncId} {arg res:Ty} {pre:arg.den->Prop} {val:arg.den->res.den} (h:Sound P f (Go.Proofs.Ytjbdmibbbpdnnaa.Dg arg res false true pre val)):Sound P f (Go.Proofs.Ytjbdmibbbpdnnaa.Dg arg res false false pre val):=
 ⟨h.enter,λw S vs x y h1 h2 h3=>Calls.mono (h.calls w S vs x y h1 h2 h3) λe' w' hr=>by
  obtain ⟨v,g1,g2,g3⟩:=hr
  exact ⟨v,g1,g2,Bh.Fe (S:= λb=>S b\/(true=true/\b<w.heap.size)) g3 λk _ hk=>hk.elim .inl λhh=>absurd (show false=true from hh.1) (by simp)⟩⟩
theorem oY:Sound Try.prog 156 bm:=Sound.loose Qn
theorem oZ:Sound Try.prog 156 Ry:=Sound.toO Qn λx h=>⟨⟨h.1.2,h.2⟩,λe=>by
 have:=Ow x.1 x.2.1
 rw [e] at this
 have:=h.1.1
 simp only [List.length_nil] at*
 omega⟩
theorem xM (n:Int) (h:0<=n/\n<=20):fnW Da (look []) Pj Try.f127 (n,()) (λ(z:List Int)=>z=upto n.toNat):=by
 refine Eq.mp (yH n _) ⟨⟨by omega,by show n<(4294967296:Int)+1;omega⟩,rfl,rfl,rfl,?_⟩
 refine Ap n.toNat (λv=>v.1) (λj v=>v.2.1.length=n.toNat/\v.2.1.take j=upto j) rfl ⟨by simp,by simp [upto]⟩ ?_
 rintro j ⟨i,ys,⟨⟩⟩ K hj hi ⟨h1,h2⟩ hK
 dsimp only at hi h1 h2⊢
 subst hi
 rw [List.length_replicate]
 simp only [Int.toNat_natCast,Nat.zero_add]
 refine Br.dec (λhl=>⟨⟨by omega,by omega⟩,by omega,trivial,by rw [List.length_set],?_⟩) λhl=>?_
 ·rw [Ak (by omega)]
  refine hK (by omega) _ rfl ⟨by rw [List.length_set];exact h1,?_⟩
  rw [List.take_add_one,List.take_set_of_le (by omega),h2,List.getElem?_set_self (by omega),ak]
  rfl
 ·have:j=ys.length:=by omega
  subst this
  rw [List.take_length] at h2
  rw [List.drop_zero,List.take_length,h2,h1]
theorem bX:Sound Try.prog 127 Pj:=
 Sound.Dg Cg As mixed Try.func127 (by kernel_rfl) (by kernel_rfl) λx h=>xM x.1 h
theorem TV {n:Int} (h:1<=n/\n<=20):(0<=n/\n<=20)/\upto n.toNat≠ []:=⟨by omega,λe=>by
 have:=congrArg List.length e
 simp [upto] at this
 omega⟩
theorem mw:Sound Try.prog 127 Xu:=Sound.toO bX λ_ h=>TV h
theorem xH {row:Row} {j:Nat} :(upto (j+1)).filter (λy=>(row.getD y.toNat none).isSome)=(upto j).filter (λy=>(row.getD y.toNat none).isSome)++if (row.getD j none).isSome=true then [(j:Int)] else []:=by
 rw [ak,List.filter_append]
 congr 1
 simp only [List.filter_cons,List.filter_nil,Int.toNat_natCast]
theorem HZ (row:List (Option (List Int))) (h:List.length row<=20):fnMW Va (look []) Lh Try.f174 (row,()) (λ(z:(List Int×Unit)×Unit)=>z=((Io row,()),())):=by
 refine Eq.mp (JR row _) ⟨rfl,rfl,?_⟩
 refine Ap row.length (λv=>v.1) (λj v=>v.2.1=(upto j).filter (λy=>(row.getD y.toNat none).isSome)) rfl rfl ?_
 rintro j ⟨i,ys,⟨⟩⟩ K hj hi h1 hK
 dsimp only at hi h1⊢
 subst hi
 refine Br.dec (λhl=>?_) λhl=>?_
 ·have hl:j<row.length:=by omega
  have hlen:ys.length<=j:=by rw [h1];refine Nat.le_trans (List.length_filter_le _ _) (by simp [upto])
  have hg:row.getD j none=row[j]:=by rw [List.getD_eq_getElem?_getD,List.getElem?_eq_getElem hl];rfl
  refine ⟨_,Au hl,Br.of (λhb=>⟨rfl,rfl,?_,rfl,rfl,?_⟩) λhb=>⟨rfl,rfl,?_⟩⟩
  ·show ys.length+1<=4294967296
   omega
  ·rw [Ak (by omega)]
   refine hK hl _ rfl ?_
   show ys++ [(j:Int)]=_
   rw [xH,hg,h1,if_pos (by cases e:row[j] with
    |none=>rw [e] at hb;simp at hb
    |some t=>rfl)]
  ·rw [Ak (by omega)]
   refine hK hl _ rfl ?_
   show ys=_
   rw [xH,hg,h1,if_neg (by cases e:row[j] with
    |none=>simp
    |some t=>rw [e] at hb;simp at hb),List.append_nil]
 ·have:j=row.length:=by omega
  subst this
  rw [List.drop_zero,List.take_length,h1]
  rfl
theorem fL:Bq Try.prog 174 Lh:=
 Bq.Yp l5 As mixed Try.func174 (by kernel_rfl) (by kernel_rfl) λx h=>HZ x.1 h
theorem iy {n:Nat} {s:Df×Df} : ∀(k l:Nat),gb n k l s-> ∀i,l<=i->i<l+k->QW n i (s.1.getD i []) (s.2.getD i []) (λq=>Jr s.2 (l+k-i-1) (i+1) q=true)
 |0,_,_,i,h1,h2=>by omega
 |k+1,l,hc,i,h1,h2=>by
  obtain ⟨c1,c2,_⟩:=hc
  by_cases e:i=l
  ·subst e
   rw [show i+(k+1)-i-1=k by omega]
   exact c2
  ·have:=iy k (l+1) c1 i (by omega) (by omega)
   rwa [show l+1+k-i-1=l+(k+1)-i-1 by omega] at this
theorem wP {α:Type} {xs:List (List α)} {i:Nat} (h:i<xs.length):xs.getD i []=xs[i]:=by
 rw [List.getD_eq_getElem?_getD,List.getElem?_eq_getElem h];rfl
theorem LG {α:Type} {xs:List (Option α)} {i:Nat} (h:i<xs.length):xs.getD i none=xs[i]:=by
 rw [List.getD_eq_getElem?_getD,List.getElem?_eq_getElem h];rfl
theorem Pm.row {n:Nat} {p:List Int} (h:Pm n p):Ny n p:=by
 have:=h.2.row
 rwa [h.1] at this
theorem Aee (c:Int×List (List (Option (List Int)))×List (List (Option (List Int)))×Unit) (l:Int) (p:List Int) (h: ∃N L,mW N L c.1 c.2.1 c.2.2.1 l p):
  fnW Va (look [(175,Eu),(156,bm)]) sk Try.f183 (c,l,p,()) (λ(z:Bool)=>z=Jr c.2.2.1 (c.1-l).toNat l.toNat p):=by
 obtain ⟨n,G,T,⟨⟩⟩:=c
 obtain ⟨N,L,h⟩:=h
 obtain ⟨n1,n2,en,el,hle,v,pm,fx⟩:=h
 dsimp only at en el v⊢
 subst en el
 refine Eq.mp (Aey ((N:Int),G,T,()) (L:Int) p _) ?_
 obtain ⟨v1,v2,v3,v4⟩:=v
 dsimp only at v1 v2
 refine ⟨λv=> ∃i:Nat,L<=i/\i<=N/\v.2.1=i/\Pm N v.1/\Fx i v.1/\Jr T (N-i) i v.1=Jr T (N-L) L p,λv=>N-v.2.1.toNat,⟨L,Nat.le_refl _,hle,rfl,pm,fx,rfl⟩,?_⟩
 rintro ⟨p',i',⟨⟩⟩ ⟨i,h1,h2,h3,h4,h5,h6⟩
 dsimp only at h3 h4 h5 h6⊢
 subst h3
 rw [show (((N:Int)-(L:Int)).toNat)=N-L by omega,show ((L:Int)).toNat=L by omega,<-h6]
 refine Br.dec (λhl=>?_) λhl=>?_
 ·have hl:i<N:=by omega
  have Rn:=iy (N-L) L v3 i h1 (by omega)
  obtain ⟨a1,a2⟩:=h4.Nv hl
  have hT:i<T.length:=by omega
  have hlen:T[i].length=N:=by have:=Rn.rl;dsimp only at this;rwa [wP hT] at this
  refine ⟨_,Au hT,_,Au (by rw [h4.1];exact hl),?_⟩
  have e1:p'[i]'(by rw [h4.1];exact hl)=(ap p' i:Int):=by rw [<-a1,Iy]
  rw [e1]
  refine ⟨_,Au (by omega),?_⟩
  have e2:N-i=(N-i-1)+1:=by omega
  have e3:(T.getD i []).getD (Bj p' (i:Int)).toNat none=T[i][ap p' i]'(by omega):=by
   rw [wP hT];exact LG (by show ap p' i<_;omega)
  rw [e2]
  simp only [Jr,e3]
  refine Br.of (λhb=>?_) λhb=>?_
  ·cases e:T[i][ap p' i]'(by omega) with
   |none=>rfl
   |some t=>rw [e] at hb;simp at hb
  ·cases e:T[i][ap p' i]'(by omega) with
   |none=>rw [e] at hb;simp at hb
   |some t=>
    have ht:(T.getD i []).getD (ap p' i) none=some t:=by rw [<-e];exact e3
    obtain ⟨t1,t2,t3,t4⟩:=Rn.rt _ _ ht
    simp only [Option.getD_some]
    refine ⟨_,if_pos ⟨by show t.length<=20;rw [t1.1];exact n2,t1.2.row⟩,_,if_pos ⟨by show p'.length<=20;rw [h4.1];exact n2,by show Ny (Aq t).length p';rw [mQ,t1.1];exact h4.row⟩,⟨i+1,by omega,by omega,Ak (by omega),h4.comp t1.inv,Fx.div h4 t1 h5 t2 hl t3,?_⟩,?_⟩
    ·rw [show N-(i+1)=N-i-1 by omega]
    ·show N-(IntKind.i64.wrap ((i:Int)+1)).toNat<N-((i:Int)).toNat
     rw [Ak (by omega)]
     omega
 ·rw [show N-i=0 by omega]
  rfl
theorem IQ:Sound Try.prog 183 sk:=
 Sound.Dg l5 (Ah Qo (Ah oY As)) mixed Try.func183 (by kernel_rfl) (by kernel_rfl) λx h=>Aee x.1 x.2.1 x.2.2.1 h
end Go.Proofs.Ytjbdmibbbpdnnaa

namespace Go.Proofs.Ytjbdmibbbpdnnaa
open Go.RowKit
abbrev vd:Type:=Nat×Nat×Int×List (List (Option (List Int)))×Nat×List (List (Option (List Int)))×Nat×List Int×Int×PUnit
abbrev OW:Type:=Nat×Int×List (List (Option (List Int)))×Nat×List (List (Option (List Int)))×Nat×List Int×Int×PUnit
abbrev OY:Type:=Nat×List (List (Option (List Int)))×Nat×List (List (Option (List Int)))×Nat×List Int×Int×PUnit
abbrev He (G:List (List (Option (List Int)))) (l:Int) (p:Option (List Int)) (T:List (List (Option (List Int)))) (y7:Bool) (n:Int):Prop:=0=0/\(G.getD (0+l.toNat) []).length=(G.getD (0+l.toNat) []).length/\(G.getD (0+l.toNat) []).length+(List.take 1 (List.drop 0 [p])).length<=Bm/\((0:Int)<=l/\l<(↑G.length:Int))/\0=0/\(G.getD (0+l.toNat) []++List.take 1 (List.drop 0 [p])).length=(G.getD (0+l.toNat) []++List.take 1 (List.drop 0 [p])).length/\0+l.toNat=0+l.toNat/\ [(0,G.length),(0,G.length),(0,G.length),(0,T.length)]= [(0,G.length),(0,G.length),(0,G.length),(0,T.length)]/\(l,p,l,p,y7,l,l,0+l.toNat,p,List.take 1 (List.drop 0 [p]),0+l.toNat,G.set (0+l.toNat) (G.getD (0+l.toNat) []++List.take 1 (List.drop 0 [p])),min G.length (0+l.toNat),T,T.length,n,())=(l,p,l,p,y7,l,l,0+l.toNat,p,List.take 1 (List.drop 0 [p]),0+l.toNat,G.set (0+l.toNat) (G.getD (0+l.toNat) []++List.take 1 (List.drop 0 [p])),min G.length (0+l.toNat),T,T.length,n,PUnit.unit)
theorem Aet {m:Nat} (n:Int) (G T:List (List (Option (List Int)))) (l:Int) (p:Option (List Int)) (P:(Int×List (List (Option (List Int)))×List (List (Option (List Int)))×Unit)×Unit->Prop):(∃(y7:Bool),sk.fn ((n,List.take G.length (List.drop 0 G),List.take T.length (List.drop 0 T),()),l,p.getD [],())=some y7/\Br y7 ((0=0/\G.length=G.length)/\(0=0/\T.length=T.length)/\(Ql (m+1)).Cz (n,G,T,l,p,())<=G.length/\(Ql (m+1)).Cz (n,G,T,l,p,())<=T.length/\P ((n,G,T,()),())) (((0:Int)<=l/\l<(↑G.length:Int))/\0=0/\(G.getD (0+l.toNat) []).length=(G.getD (0+l.toNat) []).length/\(G.getD (0+l.toNat) []).length+(List.take 1 (List.drop 0 [p])).length<=Bm/\((0:Int)<=l/\l<(↑G.length:Int))/\0=0/\(G.getD (0+l.toNat) []++List.take 1 (List.drop 0 [p])).length=(G.getD (0+l.toNat) []++List.take 1 (List.drop 0 [p])).length/\0+l.toNat=0+l.toNat/\(((0:Int)<=l/\l<(↑T.length:Int))/\ ∃(y8:(List Int×PUnit)×PUnit),Lh.fn (T.getD (0+l.toNat) [],())=some y8/\0=0/\(List.take y8.1.1.length (List.drop 0 y8.1.1)).length=(List.take y8.1.1.length (List.drop 0 y8.1.1)).length/\0=0/\G.length=(G.set (0+l.toNat) (G.getD (0+l.toNat) []++List.take 1 (List.drop 0 [p]))).length/\0=0/\T.length=T.length/\Bo (λ(v9:OY) (k10:OY->Prop)=>Br (decide ((↑v9.2.2.2.2.2.1.length:Int)>(0:Int))) (((0:Int)<=l/\l<(↑v9.2.1.length:Int))/\0=0/\(List.take v9.2.2.2.2.2.1.length (List.drop 0 v9.2.2.2.2.2.1)).length=(List.take v9.2.2.2.2.2.1.length (List.drop 0 v9.2.2.2.2.2.1)).length/\0=0/\v9.2.1.length=v9.2.1.length/\0=0/\v9.2.2.2.1.length=v9.2.2.2.1.length/\Bo (λ(v11:vd) (WH:vd->Prop)=>Br (decide (v11.2.2.1<(↑(v9.2.1.getD (0+l.toNat) []).length:Int))) (((0:Int)<=v11.2.2.1/\v11.2.2.1<(↑(v11.2.2.2.1.getD v11.2.1 []).length:Int))/\((0:Int)<=(0:Int)/\(0:Int)<(↑v11.2.2.2.2.2.2.2.1.length:Int))/\ ∃(an:Int),v11.2.2.2.2.2.2.2.1[0+Int.toNat (0:Int)]?=some an/\ ∃(Pu:Int),idx (((v11.2.2.2.1.getD v11.2.1 []).getD v11.2.2.1.toNat (none:Option (List Int))).getD []) an=some Pu/\((0:Int)<=Pu/\Pu<(↑(v11.2.2.2.2.2.1.getD v11.1 []).length:Int))/\Br ((v11.2.2.2.2.2.1.getD v11.1 []).getD Pu.toNat (none:Option (List Int))).isNone (((0:Int)<=(0:Int)/\(0:Int)<(↑v11.2.2.2.2.2.2.2.1.length:Int))/\ ∃(Vd:Int),v11.2.2.2.2.2.2.2.1[0+Int.toNat (0:Int)]?=some Vd/\((0:Int)<=Vd/\Vd<(↑(v11.2.2.2.2.2.1.getD v11.1 []).length:Int))/\ ∃(Xd:Option (List Int)),Ry.fn (((v11.2.2.2.2.2.1.getD v11.1 []).getD Vd.toNat (none:Option (List Int))).getD [],((v11.2.2.2.1.getD v11.2.1 []).getD v11.2.2.1.toNat (none:Option (List Int))).getD [],())=some Xd/\((0:Int)<=Pu/\Pu<(↑(v11.2.2.2.2.2.1.getD v11.1 []).length:Int))/\0=0/\v11.2.2.2.2.2.2.2.1.length=v11.2.2.2.2.2.2.2.1.length/\v11.2.2.2.2.2.2.2.1.length+(List.take 1 (List.drop 0 [Pu])).length<=Bm/\0=0/\(List.take (v11.2.2.2.2.2.2.2.1++List.take 1 (List.drop 0 [Pu])).length (List.drop 0 (v11.2.2.2.2.2.2.2.1++List.take 1 (List.drop 0 [Pu])))).length=(List.take (v11.2.2.2.2.2.2.2.1++List.take 1 (List.drop 0 [Pu])).length (List.drop 0 (v11.2.2.2.2.2.2.2.1++List.take 1 (List.drop 0 [Pu])))).length/\0=0/\v11.2.2.2.1.length=v11.2.2.2.1.length/\0=0/\v11.2.2.2.2.2.1.length=(v11.2.2.2.2.2.1.set v11.1 ((v11.2.2.2.2.2.1.getD v11.1 []).set Pu.toNat Xd)).length/\WH (v11.1,v11.2.1,IntKind.i64.wrap (v11.2.2.1+(1:Int)),v11.2.2.2.1,v11.2.2.2.2.1,v11.2.2.2.2.2.1.set v11.1 ((v11.2.2.2.2.2.1.getD v11.1 []).set Pu.toNat Xd),v11.2.2.2.2.2.2.1,List.take (v11.2.2.2.2.2.2.2.1++List.take 1 (List.drop 0 [Pu])).length (List.drop 0 (v11.2.2.2.2.2.2.2.1++List.take 1 (List.drop 0 [Pu]))),v11.2.2.2.2.2.2.2.2.1,())) (0=0/\(List.take v11.2.2.2.2.2.2.2.1.length (List.drop 0 v11.2.2.2.2.2.2.2.1)).length=(List.take v11.2.2.2.2.2.2.2.1.length (List.drop 0 v11.2.2.2.2.2.2.2.1)).length/\0=0/\v11.2.2.2.1.length=v11.2.2.2.1.length/\0=0/\v11.2.2.2.2.2.1.length=v11.2.2.2.2.2.1.length/\WH (v11.1,v11.2.1,IntKind.i64.wrap (v11.2.2.1+(1:Int)),v11.2.2.2.1,v11.2.2.2.2.1,v11.2.2.2.2.2.1,v11.2.2.2.2.2.2.1,List.take v11.2.2.2.2.2.2.2.1.length (List.drop 0 v11.2.2.2.2.2.2.2.1),v11.2.2.2.2.2.2.2.2.1,()))) (((0:Int)<=(1:Int)/\(1:Int)<=(↑v11.2.2.2.2.2.2.2.1.length:Int)/\(↑v11.2.2.2.2.2.2.2.1.length:Int)<=(↑v11.2.2.2.2.2.2.2.1.length:Int))/\0=0/\(List.take ((↑v11.2.2.2.2.2.2.2.1.length:Int).toNat-Int.toNat (1:Int)) (List.drop (0+Int.toNat (1:Int)) v11.2.2.2.2.2.2.2.1)).length=(List.take ((↑v11.2.2.2.2.2.2.2.1.length:Int).toNat-Int.toNat (1:Int)) (List.drop (0+Int.toNat (1:Int)) v11.2.2.2.2.2.2.2.1)).length/\0=0/\v11.2.2.2.1.length=v11.2.2.2.1.length/\0=0/\v11.2.2.2.2.2.1.length=v11.2.2.2.2.2.1.length/\k10 (v11.1,v11.2.2.2.1,v11.2.2.2.2.1,v11.2.2.2.2.2.1,v11.2.2.2.2.2.2.1,List.take ((↑v11.2.2.2.2.2.2.2.1.length:Int).toNat-Int.toNat (1:Int)) (List.drop (0+Int.toNat (1:Int)) v11.2.2.2.2.2.2.2.1),v11.2.2.2.2.2.2.2.2.1,()))) (v9.1,0+l.toNat,(0:Int),v9.2.1,v9.2.2.1,v9.2.2.2.1,v9.2.2.2.2.1,List.take v9.2.2.2.2.2.1.length (List.drop 0 v9.2.2.2.2.2.1),v9.2.2.2.2.2.2.1,PUnit.unit)) (∃(Im:(List Int×PUnit)×PUnit),Lh.fn (v9.2.2.2.1.getD v9.1 [],())=some Im/\0=0/\Im.1.1.length=Im.1.1.length/\0=0/\v9.2.1.length=v9.2.1.length/\0=0/\v9.2.2.2.1.length=v9.2.2.2.1.length/\Bo (λ(ia:OW) (k13:OW->Prop)=>Br (decide (ia.2.1<(↑Im.1.1.length:Int))) (((0:Int)<=ia.2.1/\ia.2.1<(↑ia.2.2.2.2.2.2.1.length:Int))/\ ∃(Pu:Int),ia.2.2.2.2.2.2.1[0+ia.2.1.toNat]?=some Pu/\((0:Int)<=l/\l<(↑ia.2.2.1.length:Int))/\0=0/\ia.2.2.2.2.2.2.1.length=ia.2.2.2.2.2.2.1.length/\0=0/\ia.2.2.1.length=ia.2.2.1.length/\0=0/\ia.2.2.2.2.1.length=ia.2.2.2.2.1.length/\Bo (λ(Lx:vd) (k16:vd->Prop)=>Br (decide (Lx.2.2.1<(↑(ia.2.2.1.getD (0+l.toNat) []).length:Int))) (((0:Int)<=Lx.2.2.1/\Lx.2.2.1<(↑(Lx.2.2.2.1.getD Lx.2.1 []).length:Int))/\((0:Int)<=Pu/\Pu<(↑(Lx.2.2.2.2.2.1.getD Lx.1 []).length:Int))/\ ∃(pK:Option (List Int)),Ry.fn (((Lx.2.2.2.2.2.1.getD Lx.1 []).getD Pu.toNat (none:Option (List Int))).getD [],((Lx.2.2.2.1.getD Lx.2.1 []).getD Lx.2.2.1.toNat (none:Option (List Int))).getD [],())=some pK/\ ∃(pP:Int),idx (((Lx.2.2.2.1.getD Lx.2.1 []).getD Lx.2.2.1.toNat (none:Option (List Int))).getD []) Pu=some pP/\((0:Int)<=pP/\pP<(↑(Lx.2.2.2.2.2.1.getD Lx.1 []).length:Int))/\ ∃(QV:List Int),Eu.fn (((Lx.2.2.2.2.2.1.getD Lx.1 []).getD pP.toNat (none:Option (List Int))).getD [],())=some QV/\ ∃(QC:Option (List Int)),Ry.fn (pK.getD [],QV,())=some QC/\0=0/\Lx.2.2.2.1.length=Lx.2.2.2.1.length/\0=0/\Lx.2.2.2.2.2.1.length=Lx.2.2.2.2.2.1.length/\ ∃(z7:(Int×List (List (Option (List Int)))×List (List (Option (List Int)))×PUnit)×PUnit),(Ql m).fn (Lx.2.2.2.2.2.2.2.2.1,Lx.2.2.2.1,Lx.2.2.2.2.2.1,IntKind.i64.wrap (l+(1:Int)),QC,())=some z7/\(Lx.1<(Ql m).Cz (Lx.2.2.2.2.2.2.2.2.1,Lx.2.2.2.1,Lx.2.2.2.2.2.1,IntKind.i64.wrap (l+(1:Int)),QC,())/\Lx.1<(List.length z7.1.2.2.1))/\(Lx.2.1<(Ql m).Cz (Lx.2.2.2.2.2.2.2.2.1,Lx.2.2.2.1,Lx.2.2.2.2.2.1,IntKind.i64.wrap (l+(1:Int)),QC,())/\Lx.2.1<(List.length z7.1.2.1))/\(Lx.1<(Ql m).Cz (Lx.2.2.2.2.2.2.2.2.1,Lx.2.2.2.1,Lx.2.2.2.2.2.1,IntKind.i64.wrap (l+(1:Int)),QC,())/\Lx.1<(List.length z7.1.2.2.1))/\(Lx.1<(Ql m).Cz (Lx.2.2.2.2.2.2.2.2.1,Lx.2.2.2.1,Lx.2.2.2.2.2.1,IntKind.i64.wrap (l+(1:Int)),QC,())/\Lx.1<(List.length z7.1.2.2.1))/\0=0/\Lx.2.2.2.2.2.2.2.1.length=Lx.2.2.2.2.2.2.2.1.length/\0=0/\z7.1.2.1.length=z7.1.2.1.length/\0=0/\z7.1.2.2.1.length=z7.1.2.2.1.length/\k16 (Lx.1,Lx.2.1,IntKind.i64.wrap (Lx.2.2.1+(1:Int)),z7.1.2.1,min Lx.2.2.2.2.1 ((Ql m).Cz (Lx.2.2.2.2.2.2.2.2.1,Lx.2.2.2.1,Lx.2.2.2.2.2.1,IntKind.i64.wrap (l+(1:Int)),QC,())),z7.1.2.2.1,min Lx.2.2.2.2.2.2.1 ((Ql m).Cz (Lx.2.2.2.2.2.2.2.2.1,Lx.2.2.2.1,Lx.2.2.2.2.2.1,IntKind.i64.wrap (l+(1:Int)),QC,())),Lx.2.2.2.2.2.2.2.1,z7.1.1,())) (0=0/\Lx.2.2.2.2.2.2.2.1.length=Lx.2.2.2.2.2.2.2.1.length/\0=0/\Lx.2.2.2.1.length=Lx.2.2.2.1.length/\0=0/\Lx.2.2.2.2.2.1.length=Lx.2.2.2.2.2.1.length/\k13 (Lx.1,IntKind.i64.wrap (ia.2.1+(1:Int)),Lx.2.2.2.1,Lx.2.2.2.2.1,Lx.2.2.2.2.2.1,Lx.2.2.2.2.2.2.1,Lx.2.2.2.2.2.2.2.1,Lx.2.2.2.2.2.2.2.2.1,()))) (ia.1,0+l.toNat,(0:Int),ia.2.2.1,ia.2.2.2.1,ia.2.2.2.2.1,ia.2.2.2.2.2.1,ia.2.2.2.2.2.2.1,ia.2.2.2.2.2.2.2.1,PUnit.unit)) ((0=0/\ia.2.2.1.length=ia.2.2.1.length)/\(0=0/\ia.2.2.2.2.1.length=ia.2.2.2.2.1.length)/\(Ql (m+1)).Cz (n,G,T,l,p,())<=ia.2.2.2.1/\(Ql (m+1)).Cz (n,G,T,l,p,())<=ia.2.2.2.2.2.1/\P ((ia.2.2.2.2.2.2.2.1,ia.2.2.1,ia.2.2.2.2.1,()),()))) (v9.1,(0:Int),v9.2.1,v9.2.2.1,v9.2.2.2.1,v9.2.2.2.2.1,Im.1.1,v9.2.2.2.2.2.2.1,PUnit.unit))) (0+l.toNat,G.set (0+l.toNat) (G.getD (0+l.toNat) []++List.take 1 (List.drop 0 [p])),min G.length (0+l.toNat),T,T.length,List.take y8.1.1.length (List.drop 0 y8.1.1),n,PUnit.unit))/\(((((0:Int)<=l/\l<(↑G.length:Int))/\((He G l p T y7 n))/\(He G l p T y7 n))/\((0:Int)<=l/\l<(↑G.length:Int))/\(He G l p T y7 n))/\((0:Int)<=l/\l<(↑G.length:Int))/\(He G l p T y7 n))/\(((((0:Int)<=l/\l<(↑G.length:Int))/\((He G l p T y7 n))/\(He G l p T y7 n))/\((0:Int)<=l/\l<(↑G.length:Int))/\(He G l p T y7 n))/\(((0:Int)<=l/\l<(↑G.length:Int))/\(((He G l p T y7 n))/\(He G l p T y7 n))/\(((He G l p T y7 n))/\((He G l p T y7 n))/\(He G l p T y7 n))/\((He G l p T y7 n))/\((He G l p T y7 n))/\(He G l p T y7 n))/\(((0:Int)<=l/\l<(↑G.length:Int))/\(He G l p T y7 n))/\((0:Int)<=l/\l<(↑G.length:Int))/\((He G l p T y7 n))/\((He G l p T y7 n))/\(He G l p T y7 n))/\(((0:Int)<=l/\l<(↑G.length:Int))/\(He G l p T y7 n))/\(((0:Int)<=l/\l<(↑G.length:Int))/\(He G l p T y7 n))/\((0:Int)<=l/\l<(↑G.length:Int))/\((He G l p T y7 n))/\((He G l p T y7 n))/\(He G l p T y7 n)))=fnMW (PC [Ih+7]) (look [(183,sk),(174,Lh),(156,Ry),(175,Eu),(173,Xe.m (Ql m))]) (Ql (m+1)) Try.f173 (n,G,T,l,p,()) P:=by kernel_rfl
theorem vZ {k l:Nat} {p:List Int} {s:Df×Df} (h:Jr s.2 k l p=true):Dv k l p s=s:=by
 cases k with
 |zero=>rfl
 |succ k=>unfold Dv;rw [if_pos h]
theorem vY (k l:Nat) (p:List Int) (s:Df×Df):Dv (k+1) l p s=if Jr s.2 (k+1) l p=true then s else
   (bR (Sw (s.1.getD l []++ [some p]) (s.2.getD l [])) (s.1.getD l []++ [some p])).foldl (λs q=>Dv k (l+1) q s)
    (s.1.set l (s.1.getD l []++ [some p]),s.2.set l (Sw (s.1.getD l []++ [some p]) (s.2.getD l []))):=rfl
theorem MM {n:Nat} {p:List Int} (h:Pm n p) {i:Nat} (hi:i<n):idx p (i:Int)=some (ap p i:Int):=by
 have cX:i<p.length:=by rw [h.1];exact hi
 rw [Au cX,<-(h.Nv hi).1,Iy cX]
theorem zi {x:Int} {gs:List PO} {j:Nat} (hj:j<gs.length) (s:Row×List Int):Uf x (gs.take (j+1)) s=Un x (Uf x (gs.take j) s) gs[j]:=by
 unfold Uf
 rw [List.take_add_one,List.getElem?_eq_getElem hj,Option.toList_some,List.foldl_append]
 rfl
theorem zj {gs:List PO} {f:Nat} {row:Row} :Tx gs f [] row=row:=by cases f<;>rfl
theorem gq {n:Nat} {p:List Int} (h:Pm n p):0<p.length/\p.length<=20:=⟨by rw [h.1];exact h.n1,by rw [h.1];exact h.n2⟩
theorem BK {n:Nat} {p q:List Int} (h:Pm n p) (k:Pm n q):Ny q.length p:=by rw [k.1];exact h.row
theorem Ae9 {m:Nat} (n:Int) (G T:List (List (Option (List Int)))) (l:Int) (p:Option (List Int)) (h:(∃N L q,p=some q/\mW N L n G T l q)/\(n-l).toNat<m+1):
  fnMW (PC [Ih+7]) (look [(183,sk),(174,Lh),(156,Ry),(175,Eu),(173,Xe.m (Ql m))]) (Ql (m+1)) Try.f173 (n,G,T,l,p,()) (λ(z:(Int×List (List (Option (List Int)))×List (List (Option (List Int)))×Unit)×Unit)=>z=((n,(Dv (n-l).toNat l.toNat (p.getD []) (G,T)).1,(Dv (n-l).toNat l.toNat (p.getD []) (G,T)).2,()),())):=by
 obtain ⟨⟨N,L,q,rfl,h⟩,hm⟩:=h
 have h':=h
 obtain ⟨n1,n2,en,el,hle,v,pm,fx⟩:=h
 subst en el
 have hk:((N:Int)-(L:Int)).toNat=N-L:=by omega
 rw [hk,Int.toNat_natCast]
 refine Eq.mp (Aet (N:Int) G T (L:Int) (some q) _) ⟨_,if_pos ⟨N,L,?a⟩,?b⟩
 case a=>
  simp only [List.drop_zero,List.take_length,Option.getD_some]
  exact h'
 obtain ⟨v1,v2,v3,v4⟩:=v
 dsimp only at v1 v2
 have hw:IntKind.i64.wrap ((L:Int)+1)=((L+1:Nat):Int):=Ak (by omega)
 simp only [He]
 simp only [List.drop_zero,List.take_length,Option.getD_some,hk,Int.toNat_natCast,Nat.zero_add,eq_self,true_and,and_true,List.take_succ_cons,List.take_zero,List.length_cons,List.length_nil,List.length_set,hw]
 refine Br.of (λhh=>⟨by show Int.toNat (L:Int)<=G.length;omega,by show Int.toNat (L:Int)<=T.length;omega,?_⟩) λhh=>?_
 ·rw [vZ (s:=(G,T)) hh]
 obtain ⟨k,hNk⟩: ∃k,N-L=k+1:=by
  cases e:N-L with
  |zero=>rw [e] at hh;simp [Jr] at hh
  |succ k=>exact ⟨k,rfl⟩
 have hLN:L<N:=by omega
 have hv:V N (k+1) L (G,T):=by rw [<-hNk];exact ⟨v1,v2,v3,v4⟩
 rw [hNk] at hh⊢
 have e1:(0:Int)<=(L:Int)/\(L:Int)<(G.length:Int):=by omega
 have e1':(0:Int)<=(L:Int)/\(L:Int)<(T.length:Int):=by omega
 have hgl:(G.getD L []).length<=400:=RK n2 (by omega) hv
 have e2:(G.getD L []).length+1<=Bm:=by show _<=4294967296;omega
 simp only [e1,e1',e2,and_self,true_and,and_true]
 generalize ED:G.getD L []++ [some q]=gs
 have Anc:gs.length<=401:=by rw [<-ED,List.length_append,List.length_singleton];omega
 have hg:PG N L gs:=by rw [<-ED];exact hv.pg pm fx
 have YN:Ta N L gs (T.getD L []):=by rw [<-ED];exact hv.Ajx q
 obtain ⟨r1,r2,r3⟩:=xI hLN n2 hg YN
 generalize hR:Sw gs (T.getD L [])=R at r1 r2 r3
 have mo:Dv (k+1) L q (G,T)=(bR R gs).foldl (λs q=>Dv k (L+1) q s) (G.set L gs,T.set L R):=by
  rw [vY,if_neg (by rw [hh];simp)]
  dsimp only
  rw [ED,hR]
 rw [mo]
 have hTl:L<T.length:=by omega
 have hGl:L<G.length:=by omega
 have hG1:(G.set L gs).getD L []=gs:=fm G L hGl gs
 have hT1: ∀row:Row,(T.set L row).getD L []=row:=fm T L hTl
 refine ⟨_,if_pos (by show (T.getD L []).length<=20;rw [YN.rl];exact n2),?_⟩
 dsimp only
 have SD:(Io (T.getD L [])).length+Mg (T.getD L [])<=40:=by have:=ua (T.getD L []);have:=xE (T.getD L []);have:=YN.rl;omega
 have hq0:FO gs (Io (T.getD L [])) (T.getD L []):=⟨λy hy=>Od.1 hy,λy hy=> .inl (Od.2 ⟨y,rfl,hy⟩)⟩
 refine ⟨λv=> ∃(row:Row) (qu:List Int) (kg kt:Nat),v=(L,G.set L gs,kg,T.set L row,kt,qu,(N:Int),())/\L<=kg/\L<=kt/\qu.length+Mg row<=40/\Ta N L gs row/\FO gs qu row/\Tx gs (qu.length+Mg row) qu row=R,
  fun v=>v.2.2.2.2.2.1.length+Mg (v.2.2.2.1.getD v.1 []),⟨T.getD L [],Io (T.getD L []),min G.length L,T.length,?_,by omega,by omega,SD,YN,hq0,?_⟩,?_⟩
 ·rw [qB T L hTl]
 ·rw [<-wg hLN hg 100 _ _ (by omega) YN hq0];exact hR
 rintro v ⟨row,qu,kg,kt,rfl,XW,XZ,hb,ME,hqi,LM⟩
 dsimp only
 simp only [hG1,hT1,List.length_set]
 refine Br.dec (λhl=>⟨e1.2,?_⟩) λhl=>?_
 ·cases qu with
  |nil=>simp at hl
  |cons x qu=>
  obtain ⟨p1,p2,xn,t,rfl,ht⟩:=BB hLN hg ME hqi
  have vP:xn<N:=by rw [<-ME.rl];exact mL ht
  refine Ap gs.length (λv=>v.2.2.1) (λj v=> ∃kg kt:Nat,v=(L,L,(j:Int),G.set L gs,kg,T.set L (Uf (xn:Int) (gs.take j) (row,qu)).1,kt,(xn:Int)::(Uf (xn:Int) (gs.take j) (row,qu)).2,(N:Int),())/\L<=kg/\L<=kt) rfl ⟨kg,kt,rfl,XW,XZ⟩ ?_
  rintro j v K hj hi ⟨kg,kt,rfl,h1,h2⟩ hK
  dsimp only
  simp only [hG1,hT1,Int.toNat_natCast]
  refine Br.dec (λhl=>?_) λhl=>?_
  ·have hl:j<gs.length:=by omega
   obtain ⟨x1,x2⟩:=OF hLN hg (gs.take j) (q:=qu) (λo ho=>List.mem_of_mem_take ho) ME ht
   have Qv:=zi (x:=(xn:Int)) hl (row,qu)
   generalize Uf (xn:Int) (gs.take j) (row,qu)=s at x1 x2 Qv⊢
   obtain ⟨r,qq⟩:=s
   dsimp only at x1 x2⊢
   obtain ⟨g,pY,Ra,XQ⟩:=hg gs[j] (List.getElem_mem hl)
   have htx:r.getD xn none=some t:=x1.mono _ _ ht
   obtain ⟨t1,t2,t3,t4⟩:=x1.ok.rt _ _ htx
   have hrl:r.length=N:=x1.ok.rl
   have hgj:gs.getD j none=some g:=by rw [LG hl];exact pY
   have hy:=Ra.lt vP
   have hga:=(Ra.Nv vP).1
   have SG:qq.length+Mg r=qu.length+Mg row:=x1.phi
   simp only [List.length_cons] at hb
   simp only [hgj,Option.getD_some]
   refine ⟨⟨by omega,by omega⟩,⟨by omega,by simp only [List.length_cons];omega⟩,_,rfl,_,MM Ra vP,⟨by omega,by omega⟩,?_⟩
   rw [pY] at Qv
   unfold Un at Qv
   dsimp only at Qv
   rw [Option.getD_some,hga,Int.toNat_natCast,Int.toNat_natCast,htx,Option.getD_some] at Qv
   rw [Int.toNat_natCast]
   refine Br.of (λhn=>?_) λhn=>?_
   ·have hn:r.getD (ap g xn) none=none:=by
     cases e:r.getD (ap g xn) none with
     |none=>rfl
     |some u=>rw [e] at hn;simp at hn
    rw [hn] at Qv
    refine ⟨⟨by omega,by simp only [List.length_cons];omega⟩,_,rfl,⟨by omega,by omega⟩,some (Ab t g),?_,⟨by omega,by omega⟩,?_,?_⟩
    ·rw [Int.toNat_natCast,htx,Option.getD_some]
     exact if_pos ⟨gq t1,BK t1 Ra⟩
    ·show qq.length+1+1<=4294967296
     omega
    ·rw [Ak (by omega)]
     refine hK hl _ rfl ⟨kg,kt,?_,h1,h2⟩
     rw [Qv,List.set_set]
     rfl
   ·have hn: ∃u,r.getD (ap g xn) none=some u:=by
     cases e:r.getD (ap g xn) none with
     |none=>rw [e] at hn;simp at hn
     |some u=>exact ⟨u,rfl⟩
    obtain ⟨u,hn⟩:=hn
    rw [hn] at Qv
    rw [Ak (by omega)]
    refine hK hl _ rfl ⟨kg,kt,?_,h1,h2⟩
    rw [Qv]
  ·have:j=gs.length:=by omega
   subst this
   rw [List.take_length]
   generalize hs:Uf (xn:Int) gs (row,qu)=s at p1 p2⊢
   obtain ⟨r,qq⟩:=s
   dsimp only at p1 p2⊢
   have SG:qq.length+Mg r=qu.length+Mg row:=p1.phi
   simp only [List.length_cons] at hb LM
   refine ⟨⟨by omega,by simp only [List.length_cons];omega,Int.le_refl _⟩,⟨r,qq,kg,kt,?_,h1,h2,by omega,p1.ok,p2,?_⟩,?_⟩
   ·simp
   ·rw [show qu.length+1+Mg row=(qu.length+Mg row)+1 by omega] at LM
    simp only [Tx,hs] at LM
    rw [SG]
    exact LM
   ·simp only [List.length_cons]
    have:(List.take (qq.length+1-Int.toNat 1) (List.drop (Int.toNat 1) ((xn:Int)::qq))).length=qq.length:=by simp
    rw [this]
    omega
 ·have:qu= []:=List.eq_nil_of_length_eq_zero (by omega)
  subst this
  rw [zj] at LM
  subst LM
  have hpr:=NZ hLN hg ME r3
  have hvl:=hv.lower gs row
  have VD: ∀qs:List (List Int),(∀q∈qs,q∈bR row gs)->V N k (L+1) (qs.foldl (λs q=>Dv k (L+1) q s) (G.set L gs,T.set L row))/\Yd (L+1) (G.set L gs,T.set L row) (qs.foldl (λs q=>Dv k (L+1) q s) (G.set L gs,T.set L row)):=
   fun qs SI=>DS n1 n2 (by omega) qs _ (λq hq=>hpr q (SI q hq)) hvl
  refine ⟨_,if_pos (by show row.length<=20;rw [ME.rl];exact n2),?_⟩
  dsimp only
  have hol:=ua row
  have hrl:=ME.rl
  refine Ap (Io row).length (λv=>v.2.1) (λi v=> ∃(s:Df×Df) (kg kt:Nat),v=(L,(i:Int),s.1,kg,s.2,kt,Io row,(N:Int),())/\L<=kg/\L<=kt/\s=(((Io row).take i).flatMap λy=>gs.map (Nz row y)).foldl (λs q=>Dv k (L+1) q s) (G.set L gs,T.set L row)) rfl ⟨_,kg,kt,rfl,XW,XZ,rfl⟩ ?_
  rintro i v K hi cX ⟨s,kg,kt,rfl,h1,h2,hs⟩ hK
  dsimp only
  have Lu: ∀q∈((Io row).take i).flatMap (λy=>gs.map (Nz row y)),q∈bR row gs:= λq hq=>by
   obtain ⟨y,hy,hq⟩:=List.mem_flatMap.1 hq
   exact List.mem_flatMap.2 ⟨y,List.mem_of_mem_take hy,hq⟩
  refine Br.dec (λhl=>?_) λhl=>?_
  ·have hl:i<(Io row).length:=by omega
   obtain ⟨f1,f2⟩:=VD _ Lu
   rw [<-hs] at f1 f2
   have g1:s.1.getD L []=gs:=by rw [(f2.low L (by omega)).1];exact hG1
   have g2:s.1.length=N:=f1.1
   obtain ⟨yn,VZ,hyr⟩:=Od.1 (List.getElem_mem hl)
   obtain ⟨t,ht⟩:=Option.ne_none_iff_exists'.1 hyr
   have hyN:yn<N:=by rw [<-hrl];exact mL ht
   obtain ⟨t1,t2,t3,t4⟩:=ME.rt _ _ ht
   refine ⟨⟨by omega,by omega⟩,(yn:Int),by rw [Int.toNat_natCast,List.getElem?_eq_getElem hl,VZ],by omega,?_⟩
   rw [g1]
   refine Ap gs.length (λv=>v.2.2.1) (λj v=> ∃(s':Df×Df) (kg kt:Nat),v=(L,L,(j:Int),s'.1,kg,s'.2,kt,Io row,(N:Int),())/\L<=kg/\L<=kt/\s'=(((Io row).take i).flatMap (λy=>gs.map (Nz row y))++(gs.take j).map (Nz row (yn:Int))).foldl (λs q=>Dv k (L+1) q s) (G.set L gs,T.set L row)) rfl ⟨s,kg,kt,rfl,h1,h2,by simpa using hs⟩ ?_
   rintro j v K' hj tu ⟨s',kg,kt,rfl,h1,h2,vO⟩ hK'
   dsimp only
   refine Br.dec (λHl=>?_) λHl=>?_
   ·have Hl:j<gs.length:=by omega
    have EN: ∀q∈((Io row).take i).flatMap (λy=>gs.map (Nz row y))++(gs.take j).map (Nz row (yn:Int)),q∈bR row gs:= λq hq=>by
     rcases List.mem_append.1 hq with hq|hq
     ·exact Lu q hq
     ·obtain ⟨o,ho,rfl⟩:=List.mem_map.1 hq
      exact List.mem_flatMap.2 ⟨(yn:Int),Od.2 ⟨yn,rfl,hyr⟩,List.mem_map.2 ⟨o,List.mem_of_mem_take ho,rfl⟩⟩
    obtain ⟨f1',f2'⟩:=VD _ EN
    rw [<-vO] at f1' f2'
    obtain ⟨G',T'⟩:=s'
    dsimp only at f1' f2'⊢
    have g1':G'.getD L []=gs:=by have:=(f2'.low L (by omega)).1;dsimp only at this;rw [this];exact hG1
    have g3':T'.getD L []=row:=by have:=(f2'.low L (by omega)).2;dsimp only at this;rw [this];exact hT1 row
    have g4':G'.length=N:=f1'.1
    have g5':T'.length=N:=f1'.2.1
    obtain ⟨g,pY,Ra,XQ⟩:=hg gs[j] (List.getElem_mem Hl)
    have hgj:gs.getD j none=some g:=by rw [LG Hl];exact pY
    have hgm:some g∈gs:=by rw [<-pY];exact List.getElem_mem Hl
    have hy:=Ra.lt hyN
    obtain ⟨t',mP⟩:=Option.ne_none_iff_exists'.1 (r3 yn t g ht hgm)
    obtain ⟨u1,u2,u3,u4⟩:=ME.rt _ _ mP
    have Adk:Nz row (yn:Int) gs[j]=Ab (Ab t g) (Aq t'):=by rw [pY];exact dN ht mP
    have VS:=hpr _ (List.mem_flatMap.2 ⟨(yn:Int),Od.2 ⟨yn,rfl,hyr⟩,List.mem_map.2 ⟨gs[j],List.getElem_mem Hl,Adk⟩⟩)
    simp only [g1',g3',Int.toNat_natCast,hgj,ht,Option.getD_some]
    have nY:L<Int.toNat ((L+1:Nat):Int):=by omega
    have LI:=sI n1 n2 k (L+1) _ (G',T') (by omega) f1' VS.1 VS.2
    have Akw:((Dv k (L+1) (Ab (Ab t g) (Aq t')) (G',T')).1).length=N:=LI.v.1
    have Akx:((Dv k (L+1) (Ab (Ab t g) (Aq t')) (G',T')).2).length=N:=LI.v.2.1
    have QL:((N:Int)-((L+1:Nat):Int)).toNat=k:=by omega
    refine ⟨⟨by omega,by omega⟩,⟨by omega,by omega⟩,some (Ab t g),if_pos ⟨gq t1,BK t1 Ra⟩,_,MM Ra hyN,⟨by omega,by omega⟩,Aq t',?_,some (Ab (Ab t g) (Aq t')),?_,_,if_pos ⟨⟨N,L+1,_,rfl,?pr⟩,?lt⟩,⟨nY,?k1⟩,⟨nY,?k2⟩,⟨nY,?k3⟩,⟨nY,?k4⟩,?go⟩
    case pr=>exact ⟨n1,n2,rfl,rfl,by omega,by rw [show N-(L+1)=k by omega];exact f1',VS.1,VS.2⟩
    case lt=>
     show ((N:Int)-((L+1:Nat):Int)).toNat<m
     omega
    case go=>
     dsimp only
     rw [Ak (by omega)]
     refine hK' Hl _ rfl ⟨_,_,_,rfl,?_,?_,?_⟩
     ·show L<=min kg (Int.toNat ((L+1:Nat):Int));omega
     ·show L<=min kt (Int.toNat ((L+1:Nat):Int));omega
     ·rw [List.take_add_one,List.getElem?_eq_getElem Hl,Option.toList_some,List.map_append,<-List.append_assoc,List.foldl_append,<-vO]
      simp only [List.map_cons,List.map_nil,List.foldl_cons,List.foldl_nil,Adk,QL,Int.toNat_natCast,Option.getD_some]
    case k1=>simp only [QL,Int.toNat_natCast,Option.getD_some];omega
    case k2=>simp only [QL,Int.toNat_natCast,Option.getD_some];omega
    case k3=>simp only [QL,Int.toNat_natCast,Option.getD_some];omega
    case k4=>simp only [QL,Int.toNat_natCast,Option.getD_some];omega
    ·rw [Int.toNat_natCast,mP,Option.getD_some]
     exact if_pos ⟨by show t'.length<=20;rw [u1.1];exact n2,u1.2.row⟩
    ·exact if_pos ⟨gq (t1.comp Ra),BK (t1.comp Ra) u1.inv⟩
   ·have:j=gs.length:=by omega
    subst this
    rw [Ak (by omega)]
    refine hK hl _ rfl ⟨s',kg,kt,rfl,h1,h2,?_⟩
    rw [vO,List.take_length,List.take_add_one,List.getElem?_eq_getElem hl,Option.toList_some,List.flatMap_append,VZ]
    simp
  ·have:i=(Io row).length:=by omega
   subst this
   rw [List.take_length] at hs
   refine ⟨h1,h2,?_⟩
   rw [hs]
   rfl
theorem OS {m:Nat} (YZ:Bq Try.prog 173 (Ql m)):Bq Try.prog 173 (Ql (m+1)):=
 Bq.z6 (TS [Ih+7]) (Ah IQ (Ev fL (Ah oZ (Ah Qo (Ev YZ As))))) mixed Try.func173 (by kernel_rfl) (by kernel_rfl) λx h=>Ae9 x.1 x.2.1 x.2.2.1 x.2.2.2.1 x.2.2.2.2.1 h
theorem BT:Bq Try.prog 173 (Ql 0):=
 Bq.z6 l5 As mixed Try.func173 (by kernel_rfl) (by kernel_rfl) λ_ h=>absurd h.2 (Nat.not_lt_zero _)
theorem oX: ∀m,Bq Try.prog 173 (Ql m)
 |0=>BT
 |m+1=>OS (oX m)
noncomputable abbrev uC:MSpec:=z6 WI (λx=> ∃N L q,x.2.2.2.2.1=some q/\mW N L x.1 x.2.1 x.2.2.1 x.2.2.2.1 q)
 (λx=>((x.1,(Dv (x.1-x.2.2.2.1).toNat x.2.2.2.1.toNat (x.2.2.2.2.1.getD []) (x.2.1,x.2.2.1)).1,(Dv (x.1-x.2.2.2.1).toNat x.2.2.2.1.toNat (x.2.2.2.2.1.getD []) (x.2.1,x.2.2.1)).2,()),()))
theorem BU:Bq Try.prog 173 uC:=Bq.Ae7 (λx=>(x.1-x.2.2.2.1).toNat) oX
end Go.Proofs.Ytjbdmibbbpdnnaa

namespace Go.Proofs.Ytjbdmibbbpdnnaa
open Go.RowKit
def Ud (n:Nat):Df:=List.replicate n []
def ai (n i:Nat):Row:=(List.replicate n none).set i (some (upto n))
def Yv (n:Nat):Df:=(List.range n).map λi=>ai n i
def Ok (n:Nat) (gens:List PO):Df×Df:=gens.foldl (λs o=>Dv n 0 (o.getD []) s) (Ud n,Yv n)
noncomputable abbrev zV:MSpec:= {Hq:= [none,none],ins:= [(false, .Dy tI),(false, .Dy tLO)],Ej:=false,Gm:= [none,none,none],outs:= [.Dy tI, .Ao tO WN false, .Ao tO WN false],fn:= λ_=>none,rp:=some 179}
noncomputable abbrev dL:MSpec:=z6 zV (λx=>(1<=x.1/\x.1<=20)/\List.length x.2.1<=4294967296/\ ∀o∈(x.2.1:List PO),∃g,o=some g/\Pm x.1.toNat g)
 (λx=>((x.1,(Ok x.1.toNat x.2.1).1,(Ok x.1.toNat x.2.1).2,()),()))
abbrev Uz:Type:=Int×List (List (Option (List Int)))×Int×List (List (Option (List Int)))×PUnit
theorem yL (n:Int) (gens:List (Option (List Int))) (P:(Int×List (List (Option (List Int)))×List (List (Option (List Int)))×Unit)×Unit->Prop):(((0:Int)<=n/\n<(↑Bm:Int)+(1:Int))/\n=n/\0=0/\(List.replicate n.toNat ([]:List (Option (List Int)))).length=(List.replicate n.toNat ([]:List (Option (List Int)))).length/\0=0/\0=([]:List Int).length/\Bo (λ(v3:Uz) (k4:Uz->Prop)=>Br (decide (v3.1<n)) (((0:Int)<=n/\n<(↑Bm:Int)+(1:Int))/\n=n/\ ∃(y5:Option (List Int)),Xu.fn (n,())=some y5/\((0:Int)<=v3.1/\v3.1<(↑(List.replicate n.toNat (none:Option (List Int))).length:Int))/\0+v3.1.toNat<(List.replicate n.toNat (none:Option (List Int))).length/\0=0/\(List.replicate n.toNat (none:Option (List Int))).length=((List.replicate n.toNat (none:Option (List Int))).set (0+v3.1.toNat) y5).length/\(0=0/\v3.2.2.2.1.length=v3.2.2.2.1.length)/\(0=0/\1= [(List.replicate n.toNat (none:Option (List Int))).set (0+v3.1.toNat) y5].length)/\0< [(List.replicate n.toNat (none:Option (List Int))).set (0+v3.1.toNat) y5].length/\v3.2.2.2.1.length+ [(List.replicate n.toNat (none:Option (List Int))).set (0+v3.1.toNat) y5].length<=Bm/\0=0/\v3.2.1.length=v3.2.1.length/\0=0/\(v3.2.2.2.1++ [(List.replicate n.toNat (none:Option (List Int))).set (0+v3.1.toNat) y5]).length=(v3.2.2.2.1++ [(List.replicate n.toNat (none:Option (List Int))).set (0+v3.1.toNat) y5]).length/\k4 (IntKind.i64.wrap (v3.1+(1:Int)),v3.2.1,v3.2.2.1,v3.2.2.2.1++ [(List.replicate n.toNat (none:Option (List Int))).set (0+v3.1.toNat) y5],())) (0=0/\v3.2.1.length=v3.2.1.length/\0=0/\v3.2.2.2.1.length=v3.2.2.2.1.length/\Bo (λ(v5:Uz) (k6:Uz->Prop)=>Br (decide (v5.1<(↑gens.length:Int))) (∃(y7:Option (List Int)),idx gens v5.1=some y7/\0=0/\v5.2.1.length=v5.2.1.length/\0=0/\v5.2.2.2.1.length=v5.2.2.2.1.length/\ ∃(y8:(Int×List (List (Option (List Int)))×List (List (Option (List Int)))×PUnit)×PUnit),uC.fn (v5.2.2.1,v5.2.1,v5.2.2.2.1,(0:Int),y7,())=some y8/\0=0/\y8.1.2.1.length=y8.1.2.1.length/\0=0/\y8.1.2.2.1.length=y8.1.2.2.1.length/\k6 (IntKind.i64.wrap (v5.1+(1:Int)),y8.1.2.1,y8.1.1,y8.1.2.2.1,())) ((0=0/\v5.2.1.length=v5.2.1.length)/\(0=0/\v5.2.2.2.1.length=v5.2.2.2.1.length)/\P ((v5.2.2.1,v5.2.1,v5.2.2.2.1,()),()))) ((0:Int),v3.2.1,v3.2.2.1,v3.2.2.2.1,PUnit.unit))) ((0:Int),List.replicate n.toNat ([]:List (Option (List Int))),n,[],PUnit.unit))=fnMW Va (look [(127,Xu),(173,uC)]) dL Try.f154 (n,gens,()) P:=by kernel_rfl
theorem Wt (n i:Nat):(Ud n).getD i []= []:=by
 unfold Ud
 rw [List.getD_eq_getElem?_getD,List.getElem?_replicate]
 split<;>rfl
theorem gY {n i:Nat} (h:i<n):(Yv n).getD i []=ai n i:=by
 unfold Yv
 rw [List.getD_eq_getElem?_getD,List.getElem?_map,List.getElem?_range h]
 rfl
theorem jw {n i y:Nat} (h:i<n):(ai n i).getD y none=if i=y then some (upto n) else none:=by
 unfold ai
 rw [Pb,List.length_replicate]
 by_cases e:i=y
 ·rw [if_pos ⟨e,h⟩,if_pos e]
 ·rw [if_neg (λhh=>e hh.1),if_neg e,List.getD_eq_getElem?_getD,List.getElem?_replicate]
  split<;>rfl
theorem pq {n:Nat} (h1:1<=n) (h2:n<=20): ∀(k l:Nat),l+k=n->gb n k l (Ud n,Yv n)
 |0,l,hk=>Wt n l
 |k+1,l,hk=>by
  have hl:l<n:=by omega
  have hg: ∀(g:List Int) (j:Nat),some g∈(Ud n).getD j []->False:= λg j hg=>by rw [Wt] at hg;cases hg
  refine ⟨pq h1 h2 k (l+1) (by omega),⟨λo ho=>?_,?_,?_,λy t e0=>?_,λy t g _ aq=>(hg _ _ aq).elim,λy t g t' _ aq=>(hg _ _ aq).elim⟩,λg aq=>(hg _ _ aq).elim⟩
  ·have ho:o∈(Ud n).getD l []:=ho
   rw [Wt] at ho;cases ho
  ·show ((Yv n).getD l []).length=n
   rw [gY hl];simp [ai]
  ·show ((Yv n).getD l []).getD l none=_
   rw [gY hl,jw hl,if_pos rfl]
  ·replace e0:((Yv n).getD l []).getD y none=some t:=e0
   rw [gY hl,jw hl] at e0
   by_cases hy:l=y
   ·rw [if_pos hy] at e0
    have e1:=Option.some.inj e0
    subst e1 hy
    exact ⟨Pm.id h1 h2,λi hi=>fb (by omega),fb hl, .id⟩
   ·rw [if_neg hy] at e0;cases e0
theorem yp (n:Nat): ∀(k l:Nat),GBf k l (Ud n,Yv n)
 |0,_=>trivial
 |k+1,l=>⟨yp n k (l+1),by show ((Ud n).getD l []).length<=_;rw [Wt];exact Nat.zero_le _⟩
theorem FE {n:Nat} (h1:1<=n) (h2:n<=20):V n n 0 (Ud n,Yv n):=⟨by simp [Ud],by simp [Yv],pq h1 h2 n 0 (by omega),yp n n 0⟩
def PmL (n:Nat) (gens:List PO):Prop:= ∀o∈gens,∃g,o=some g/\Pm n g
theorem vX {n:Nat} {gens:List PO} {j:Nat} (hj:j<gens.length):Ok n (gens.take (j+1))=Dv n 0 (gens[j].getD []) (Ok n (gens.take j)):=by
 unfold Ok
 rw [List.take_add_one,List.getElem?_eq_getElem hj,Option.toList_some,List.foldl_append]
 rfl
theorem jN {n:Nat} (h1:1<=n) (h2:n<=20): ∀(gens:List PO) (s:Df×Df),PmL n gens->V n n 0 s->V n n 0 (gens.foldl (λs o=>Dv n 0 (o.getD []) s) s)/\
  Yd 0 s (gens.foldl (λs o=>Dv n 0 (o.getD []) s) s)/\(∀g,some g∈gens->Gn n ((gens.foldl (λs o=>Dv n 0 (o.getD []) s) s).1.getD 0 []) g)/\ ∀o∈(gens.foldl (λs o=>Dv n 0 (o.getD []) s) s).1.getD 0 [],o∈s.1.getD 0 []\/o∈gens
 | [],s,_,hv=>⟨hv,Yd.refl _ _,(λ_ hg=>by cases hg),λ_ ho=> .inl ho⟩
 |o::gens,s,hg,hv=>by
  obtain ⟨g,rfl,Ra⟩:=hg o (by simp)
  have ha:=sI h1 h2 n 0 g s (by omega) hv Ra (λi hi=>absurd hi (Nat.not_lt_zero _))
  obtain ⟨a1,a2,a3,a4⟩:=jN h1 h2 gens (Dv n 0 g s) (λo ho=>hg o (by simp [ho])) ha.v
  refine ⟨a1,ha.grow.trans a2 (Nat.le_refl _),λg' aq=>?_,λo ho=>?_⟩
  ·rcases List.mem_cons.1 aq with e|aq
   ·cases e;exact ha.Ae4.mono λg hg=>a2.DW _ _ hg
   ·exact a3 g' aq
  ·rcases a4 o ho with h|h
   ·rcases ha.gens o h with h|h
    ·exact .inl h
    ·exact .inr (by simp [h])
   ·exact .inr (by simp [h])
theorem vW {n:Nat} (h1:1<=n) (h2:n<=20) {gens:List PO} (hg:PmL n gens):V n n 0 (Ok n gens):=(jN h1 h2 gens _ hg (FE h1 h2)).1
theorem nR {n:Nat} (h1:1<=n) (h2:n<=20) {gens:List PO} (hg:PmL n gens) {p:List Int} (hp:Pm n p):Jr (Ok n gens).2 n 0 p=true↔Gn n gens p:=by
 obtain ⟨a1,a2,a3,a4⟩:=jN h1 h2 gens _ hg (FE h1 h2)
 have hS:DB n λg=>some g∈gens:=⟨⟨h1,h2⟩,λg aq=>by obtain ⟨g',e,h⟩:=hg _ aq;cases e;exact h⟩
 have Lu: ∀g,some g∈(Ok n gens).1.getD 0 []->some g∈gens:= λg aq=>by
  rcases a4 _ aq with h|h
  ·have h:some g∈(Ud n).getD 0 []:=h
   rw [Wt] at h;cases h
  ·exact h
 have hS':DB n λg=>some g∈(Ok n gens).1.getD 0 []:=⟨⟨h1,h2⟩,λg aq=>hS.2 g (Lu g aq)⟩
 refine (iR h1 h2 n 0 (Ok n gens) (by omega) a1.2.2.1 p hp λi hi=>absurd hi (Nat.not_lt_zero _)).trans ⟨λh=>h.mono Lu,λh=>h.trans hS' λg aq=>a3 g aq⟩
theorem xQ (n:Int) (gens:List (Option (List Int))) (h:(1<=n/\n<=20)/\List.length gens<=4294967296/\ ∀o∈(gens:List PO),∃g,o=some g/\Pm n.toNat g):
  fnMW Va (look [(127,Xu),(173,uC)]) dL Try.f154 (n,gens,()) (λ(z:(Int×List (List (Option (List Int)))×List (List (Option (List Int)))×Unit)×Unit)=>z=((n,(Ok n.toNat gens).1,(Ok n.toNat gens).2,()),())):=by
 obtain ⟨⟨h1,h2⟩,h3,hg⟩:=h
 obtain ⟨N,rfl⟩: ∃N:Nat,n=N:=⟨n.toNat,by omega⟩
 rw [Int.toNat_natCast] at hg⊢
 have h1:1<=N:=by omega
 have h2:N<=20:=by omega
 refine Eq.mp (yL (N:Int) gens _) ?_
 have hm:((0:Int)<=(N:Int)/\(N:Int)<(Bm:Int)+1):=⟨by omega,by show (N:Int)<(4294967296:Int)+1;omega⟩
 simp only [hm,and_self,eq_self,true_and,Int.toNat_natCast,Nat.zero_add,List.length_nil,List.length_set,List.length_replicate,List.length_cons,Nat.lt_add_one,List.length_append]
 refine Ap N (λv=>v.1) (λj v=>v=((j:Int),Ud N,(N:Int),(List.range j).map (ai N),())) rfl rfl ?_
 rintro j v K hj hi rfl hK
 dsimp only
 refine Br.dec (λhl=>?_) λhl=>?_
 ·refine ⟨_,if_pos ⟨by show (1:Int)<=N;omega,by show (N:Int)<=20;omega⟩,⟨by omega,by omega⟩,by rw [Int.toNat_natCast];omega,?_,?_⟩
  ·show _<=4294967296
   simp only [List.length_map,List.length_range]
   omega
  ·rw [Ak (by omega)]
   refine hK (by omega) _ rfl ?_
   rw [List.range_succ,List.map_append]
   rfl
 ·have:j=N:=by omega
  subst this
  refine Ap gens.length (λv=>v.1) (λi v=>v=((i:Int),(Ok j (gens.take i)).1,(j:Int),(Ok j (gens.take i)).2,())) rfl rfl ?_
  rintro i v K' cX Anf rfl hK'
  dsimp only
  refine Br.dec (λHl=>?_) λHl=>?_
  ·have Hl:i<gens.length:=by omega
   obtain ⟨g,pY,Ra⟩:=hg gens[i] (List.getElem_mem Hl)
   have hv:=vW h1 h2 (gens:=gens.take i) λo ho=>hg o (List.mem_of_mem_take ho)
   refine ⟨_,Au Hl,_,if_pos ⟨j,0,g,pY,h1,h2,rfl,rfl,Nat.zero_le _,hv,Ra,λi hi=>absurd hi (Nat.not_lt_zero _)⟩,?_⟩
   rw [Ak (by omega)]
   refine hK' Hl _ rfl ?_
   rw [vX Hl]
   simp only [Int.sub_zero,Int.toNat_natCast]
   rfl
  ·have:i=gens.length:=by omega
   subst this
   rw [List.take_length]
theorem mA:Bq Try.prog 154 dL:=
 Bq.z6 l5 (Ah mw (Ev BU As)) mixed Try.func154 (by kernel_rfl) (by kernel_rfl) λx h=>xQ x.1 x.2.1 h
end Go.Proofs.Ytjbdmibbbpdnnaa

namespace Go.Proofs.Ytjbdmibbbpdnnaa
open Go.RowKit
def Wk (T:Df):Nat->Nat
 |0=>1
 |j+1=>Wk T j*(Io (T.getD j [])).length
noncomputable abbrev eO:Spec:=Dg (.pair (.ptr vf) (.pair tI .unit)) tI false true (λx=>x.2.1=0/\ ∃N:Nat,(1<=N/\N<=20)/\x.1.1=N/\V N N 0 (x.1.2.1,x.1.2.2.1)) (λx=>(Wk x.1.2.2.1 x.1.1.toNat:Int))
noncomputable abbrev x7:MSpec:= {Hq:= [none,none],ins:= [(false, .Dy tI),(false, .Dy hY)],Ej:=false,Gm:= [none,none,none],outs:= [.Dy tI, .Ao tO WN false, .Ao tO WN false],fn:= λ_=>none,rp:=some 179}
def Uo (n:Int) (g:List (List Int)):Df×Df:=Ok n.toNat (g.map some)
noncomputable abbrev Sf:MSpec:=z6 x7 (λx=>(1<=x.1/\x.1<=20)/\List.length x.2.1<=4294967296/\ ∀g∈(x.2.1:List (List Int)),Pm x.1.toNat g)
 (λx=>((x.1,(Uo x.1 x.2.1).1,(Uo x.1 x.2.1).2,()),()))
noncomputable def Qe (p:PP):Int:=if Ba p=true then (Wk (Uo p.1 p.2.2.1).2 p.1.toNat:Int) else 0
noncomputable abbrev Mx:Spec:=Dg (.pair Co .unit) tI false true (λx=>Cn x.1) (λx=>Qe x.1)
theorem UC (c:Int×List (List (Option (List Int)))×List (List (Option (List Int)))×Unit) (l:Int) (P:Int->Prop):(Bo (λ(v3:Int×Int×PUnit) (k4:Int×Int×PUnit->Prop)=>Br (decide (v3.2.1<c.1)) (∃(y5:List (Option (List Int))),idx c.2.2.1 v3.2.1=some y5/\ ∃(y6:(List Int×PUnit)×PUnit),Lh.fn (y5,())=some y6/\ ∃(y7:Int),Nl.fn (List.take y6.1.1.length (List.drop 0 y6.1.1),())=some y7/\k4 (IntKind.i64.wrap (v3.1*y7),IntKind.i64.wrap (v3.2.1+(1:Int)),())) (P v3.1)) ((1:Int),l,PUnit.unit))=fnW Va (look [(174,Lh),(82,Nl)]) eO Try.f155 (c,l,()) P:=by kernel_rfl
theorem vI (p:Int×ByteArray×List (List Int)×Unit) (P:Int->Prop):(∃(y2:Bool),Ex.fn ((p.1,p.2.1,p.2.2.1,()),())=some y2/\Br (!y2) (P (0:Int)) (∃(y3:(Int×List (List (Option (List Int)))×List (List (Option (List Int)))×PUnit)×PUnit),Sf.fn (p.1,p.2.2.1,())=some y3/\ ∃(y4:Int),eO.fn ((y3.1.1,List.take y3.1.2.1.length (List.drop 0 y3.1.2.1),List.take y3.1.2.2.1.length (List.drop 0 y3.1.2.2.1),()),(0:Int),())=some y4/\P y4))=fnW Da (look [(130,Ex),(154,Sf),(155,eO)]) Mx Try.f126 (p,()) P:=by kernel_rfl
theorem TU (n i:Nat):(upto n).countP (λy=>decide ((i:Int)<=y))=n-i:=by
 induction n with
 |zero=>simp [upto]
 |succ n ih=>
  rw [ak,List.countP_append,ih]
  simp only [List.countP_cons,List.countP_nil,decide_eq_true_eq]
  split<;>omega
theorem SW {n i:Nat} {gs:List PO} {row:Row} {H:List Int->Prop} (hi:i<n) (h:QW n i gs row H):(Io row).length<=n-i:=by
 rw [<-TU n i]
 unfold Io
 rw [h.rl,<-List.countP_eq_length_filter]
 refine List.countP_mono_left λy hy hs=>?_
 obtain ⟨h1,h2⟩:=Jf.1 hy
 obtain ⟨t,ht⟩:=Option.isSome_iff_exists.1 hs
 obtain ⟨t1,t2,t3,_⟩:=h.rt _ _ ht
 refine decide_eq_true ?_
 refine Classical.byContradiction λhn=>?_
 have hy':y.toNat<i:=by omega
 have:=t1.inj hi (by omega:y.toNat<n) (by rw [t3,t2 _ hy'])
 omega
def fact:Nat->Nat
 |0=>1
 |n+1=>(n+1)*fact n
theorem wI: ∀n,1<=fact n
 |0=>Nat.le_refl _
 |n+1=>by have:=wI n;simp only [fact];exact Nat.le_trans this (Nat.le_mul_of_pos_left _ (by omega))
theorem GA {a b:Nat} (h:a<=b):fact a<=fact b:=by
 induction h with
 |refl=>exact Nat.le_refl _
 |step _ ih=>simp only [fact];exact Nat.le_trans ih (Nat.le_mul_of_pos_left _ (by omega))
theorem NN {n:Nat} {s:Df×Df} (hc:gb n n 0 s): ∀j,j<=n->Wk s.2 j*fact (n-j)<=fact n
 |0,_=>by simp [Wk]
 |j+1,hj=>by
  have ih:=NN hc j (by omega)
  have h1:=SW (by omega) (iy n 0 hc j (by omega) (by omega))
  have e:n-j=(n-(j+1))+1:=by omega
  simp only [Wk]
  rw [e] at ih h1
  simp only [fact] at ih
  rw [Nat.mul_assoc]
  exact Nat.le_trans (Nat.mul_le_mul_left _ (Nat.mul_le_mul_right _ h1)) ih
theorem HM {n:Nat} (h2:n<=20) {s:Df×Df} (hc:gb n n 0 s) {j:Nat} (hj:j<=n):Wk s.2 j<=2432902008176640000:=by
 have h1:=NN hc j hj
 have h3:=wI (n-j)
 have h4:fact n<=2432902008176640000:=Nat.le_trans (GA h2) (by decide)
 have h5:Wk s.2 j*1<=Wk s.2 j*fact (n-j):=Nat.mul_le_mul_left _ h3
 omega
theorem TD (c:Int×List (List (Option (List Int)))×List (List (Option (List Int)))×Unit) (l:Int) (h:l=0/\ ∃N:Nat,(1<=N/\N<=20)/\c.1=N/\V N N 0 (c.2.1,c.2.2.1)):
  fnW Va (look [(174,Lh),(82,Nl)]) eO Try.f155 (c,l,()) (λ(z:Int)=>z=(Wk c.2.2.1 c.1.toNat:Int)):=by
 obtain ⟨rfl,N,⟨h1,h2⟩,hN,v⟩:=h
 obtain ⟨n,G,T,⟨⟩⟩:=c
 dsimp only at hN v⊢
 subst hN
 refine Eq.mp (UC ((N:Int),G,T,()) 0 _) ?_
 obtain ⟨v1,v2,v3,v4⟩:=v
 dsimp only at v1 v2⊢
 rw [Int.toNat_natCast]
 refine Ap N (λv=>v.2.1) (λj v=>v.1=(Wk T j:Int)) rfl rfl ?_
 rintro j ⟨o,i,⟨⟩⟩ K hj hi ho hK
 dsimp only at hi ho⊢
 subst hi ho
 refine Br.dec (λhl=>?_) λhl=>?_
 ·have hl:j<N:=by omega
  have hT:j<T.length:=by omega
  have Rn:=iy N 0 v3 j (by omega) (by omega)
  have hrl:=Rn.rl
  dsimp only at hrl
  rw [wP hT] at hrl
  refine ⟨_,Au hT,_,if_pos (by show (T[j]).length<=20;omega),_,if_pos trivial,?_⟩
  rw [List.drop_zero,List.take_length,Ak (by omega)]
  have hb:=HM h2 v3 (j:=j+1) (by omega)
  simp only [Wk] at hb
  rw [wP hT] at hb
  have e:(Wk T j:Int)*((Io T[j]).length:Int)=((Wk T j*(Io T[j]).length:Nat):Int):=by push_cast;rfl
  show K (IntKind.i64.wrap ((Wk T j:Int)*((Io T[j]).length:Int)),_,())
  rw [e,Bd (by omega) (by omega)]
  refine hK hl _ rfl ?_
  simp only [Wk]
  rw [wP hT]
 ·have:j=N:=by omega
  subst this
  rfl
theorem yk:Sound Try.prog 155 eO:=
 Sound.Dg l5 (Ev fL (Ah bp As)) mixed Try.func155 (by kernel_rfl) (by kernel_rfl) λx h=>TD x.1 x.2.1 h
theorem Cells.told {w:World} {S:Nat->Prop} {e:Ty} {cs:List Value} {xs:List e.den} (h:Cells w S (.slice e) cs xs): ∃o:Option (List e.den),Cells w S (.oslice e) cs o/\o.getD []=xs:=by
 simp only [Cells] at h
 obtain ⟨a,len,cap,rfl,h1,h2,h3⟩:=h
 cases a with
 |none=>
  rcases h3 with rfl|⟨g,o,h,_⟩
  ·refine ⟨none,?_,rfl⟩
   simp only [Cells]
   exact .inl ⟨trivial,cap,by rw [h1];rfl⟩
  ·cases h
 |some ad=>
  refine ⟨some xs,?_,rfl⟩
  simp only [Cells]
  exact .inr ⟨xs,ad,len,cap,rfl,rfl,h1,h2,h3.imp id λ⟨g,o,h,h4⟩=>⟨g,o,Option.some.inj h,h4⟩⟩
theorem zd {α β:Type} (Q:Nat->α->β->Prop): ∀(xs:List α),(∀i x,xs[i]?=some x-> ∃y,Q i x y)-> ∃ys:List β,ys.length=xs.length/\ ∀i x y,xs[i]?=some x->ys[i]?=some y->Q i x y:=by
 intro xs h
 refine ⟨List.ofFn λi:Fin xs.length=>Classical.choose (h i xs[i] (List.getElem?_eq_getElem i.2)),by simp,λi x y h1 h2=>?_⟩
 obtain ⟨hi,rfl⟩:=List.getElem?_eq_some_iff.1 h1
 obtain ⟨cX,rfl⟩:=List.getElem?_eq_some_iff.1 h2
 rw [List.getElem_ofFn]
 exact Classical.choose_spec (h i xs[i] (List.getElem?_eq_getElem hi))
theorem Bh.Aes {w:World} {S:Nat->Prop} {e:Ty} {v:Value} {xs:List (List e.den)} (h:Bh w S (.slice (.slice e)) v xs): ∃os:List (Option (List e.den)),Bh w S (.slice (.oslice e)) v os/\os.map (·.getD [])=xs:=by
 obtain ⟨cs,hc,rfl⟩:=h
 simp only [Cells] at hc
 obtain ⟨a,len,cap,rfl,h1,h2,h3⟩:=hc
 rcases h3 with rfl|⟨g,o,rfl,hg,hS,h4⟩
 ·refine ⟨[],⟨_,?_,rfl⟩,rfl⟩
  simp only [Cells]
  exact ⟨a,len,cap,rfl,h1,h2, .inl trivial⟩
 ·obtain ⟨os,e1,e2⟩:=zd (λi (x:List e.den) (y:Option (List e.den))=>y.getD []=x/\ ∃es:List Value,es.length=1/\(∀j u,es[j]?=some u->w.cell? ⟨g,o+i*1+j,none⟩=some u)/\Cells w S (.oslice e) es y) xs λi x hx=>by
   obtain ⟨es,k1,k2,k3⟩:=h4 i x hx
   obtain ⟨y,k4,k5⟩:=Cells.told (e:=e) (by simp only [Cells];exact k3)
   exact ⟨y,k5,es,k1,k2,k4⟩
  refine ⟨os,⟨_,?_,rfl⟩,?_⟩
  ·simp only [Cells]
   refine ⟨_,len,cap,rfl,by rw [h1,e1],h2, .inr ⟨g,o,rfl,hg,hS,λi y hy=>?_⟩⟩
   obtain ⟨hi,_⟩:=List.getElem?_eq_some_iff.1 hy
   obtain ⟨_,es,k1,k2,k3⟩:=e2 i _ y (List.getElem?_eq_getElem (by omega)) hy
   simp only [Cells] at k3
   exact ⟨es,k1,k2,k3⟩
  ·refine List.ext_getElem (by simp [e1]) λi g1 g2=>?_
   rw [List.getElem_map]
   exact (e2 i _ _ (List.getElem?_eq_getElem g2) (List.getElem?_eq_getElem (by omega))).1
theorem p9:Bq Try.prog 154 Sf:=by
 have h:=mA
 refine ⟨h.enter,λw S π us x r o g vs h1 hg h2 h3 hS h4 h5=>?_⟩
 obtain ⟨n,gens,⟨⟩⟩:=x
 match us,h2 with
 |u1::u2::us,h2=>
  obtain ⟨h6,⟨h7,h8⟩,h9⟩:=h2
  obtain ⟨os,lv,fo⟩:=Bh.Aes (e:=tI) h8
  have fo:os.map (·.getD [])=(gens:List (List Int)):=fo
  have gD:(1<=n/\n<=20)/\List.length gens<=4294967296/\ ∀g∈(gens:List (List Int)),Pm n.toNat g:=Classical.byContradiction λhn=>by
   have:Sf.fn (n,gens,())=none:=if_neg hn
   rw [this] at h5;cases h5
  have hos:os=gens.map some:=by
   rw [<-fo,List.map_map]
   refine (List.map_id os).symm.trans (List.map_congr_left λx hx=>?_)
   cases x with
   |some y=>rfl
   |none=>
    have:=gD.2.2 [] (by rw [<-fo];exact List.mem_map.2 ⟨none,hx,rfl⟩)
    have h1:=this.n1
    have h2:=this.1
    simp at h2
    omega
  have hv:Sf.fn (n,gens,())=some ((n,(Uo n gens).1,(Uo n gens).2,()),()):=if_pos gD
  rw [hv] at h5
  have h5:=Option.some.inj h5
  refine h.calls w S π (u1::u2::us) (n,os,()) r o g vs h1 hg ⟨h6,⟨h7,lv⟩,h9⟩ h3 hS h4 ?_
  refine (if_pos ⟨gD.1,by rw [hos,List.length_map];exact gD.2.1,λy hy=>?pp⟩).trans (congrArg some ?qq)
  case pp=>
   replace hy:y∈os:=hy
   rw [hos] at hy
   obtain ⟨g,hg,rfl⟩:=List.mem_map.1 hy
   exact ⟨g,rfl,gD.2.2 g hg⟩
  case qq=>subst hos;exact h5
theorem iw {p:PP} (hv:Valid p):(1<=p.1/\p.1<=20)/\List.length p.2.2.1<=4294967296/\ ∀g∈p.2.2.1,Pm p.1.toNat g:=
 ⟨hv.n,by have:=hv.cn;omega,λg hg=>⟨by have:=hv.len g hg;omega,du (hv.perm g hg)⟩⟩
theorem oK {n:Nat} {g:List (List Int)} (h: ∀x∈g,Pm n x):PmL n (g.map some):= λo ho=>by
 obtain ⟨x,hx,rfl⟩:=List.mem_map.1 ho
 exact ⟨x,rfl,h x hx⟩
theorem sR {p:PP} (hv:Valid p):V p.1.toNat p.1.toNat 0 (Uo p.1 p.2.2.1):=by
 have:=hv.n
 exact vW (by omega) (by omega) (oK (iw hv).2.2)
theorem ui (p:PP) (h:Cn p):fnW Da (look [(130,Ex),(154,Sf),(155,eO)]) Mx Try.f126 (p,()) (λ(z:Int)=>z=Qe p):=by
 refine Eq.mp (vI p _) ⟨_,if_pos h,?_⟩
 show Br (!Ba p) _ _
 unfold Qe
 cases hv:Ba p with
 |false=>exact Br.of (λ_=>rfl) λhh=>by cases hh
 |true=>
  refine Br.of (λhh=>by cases hh) λ_=>?_
  have hV:=valid hv
  have hn:=hV.n
  refine ⟨_,if_pos (iw hV),_,if_pos ⟨rfl,p.1.toNat,⟨by omega,by omega⟩,(Int.toNat_of_nonneg (by omega:(0:Int)<=p.1)).symm,?vv⟩,?_⟩
  case vv=>
   simp only [List.drop_zero,List.take_length]
   exact sR hV
  simp only [List.drop_zero,List.take_length]
  exact (if_pos trivial).symm
theorem kV:Sound Try.prog 126 Mx:=
 Sound.Dg Cg (Ah ah (Ev p9 (Ah yk As))) mixed Try.func126 (by kernel_rfl) (by kernel_rfl) λx h=>ui x.1 h
end Go.Proofs.Ytjbdmibbbpdnnaa

namespace Go.Proofs.Ytjbdmibbbpdnnaa
open Go.RowKit
theorem dp {α:Type} [DecidableEq α]: ∀ {l1 l2:List α},l1.Nodup->(∀x∈l1,x∈l2)->l1.length<=l2.length
 | [],_,_,_=>Nat.zero_le _
 |a::l,l2,hn,hs=>by
  obtain ⟨h1,h2⟩:=List.nodup_cons.1 hn
  have ha:=hs a (by simp)
  have:=dp (l1:=l) (l2:=l2.erase a) h2 λy hy=>by
   have hya:y≠a:= λe'=>h1 (by rw [<-e'];exact hy)
   exact (List.mem_erase_of_ne hya).2 (hs y (by simp [hy]))
  rw [List.length_erase_of_mem ha] at this
  have:=List.length_pos_of_mem ha
  simp only [List.length_cons]
  omega
def ku (n:Nat) (T:Df):Nat->Nat->List (List Int)
 |0,_=> [upto n]
 |k+1,l=>(Io (T.getD l [])).flatMap λy=>(ku n T k (l+1)).map λq=>Ab q (((T.getD l []).getD y.toNat none).getD [])
def s8 (T:Df):Nat->Nat->Nat
 |0,_=>1
 |k+1,l=>(Io (T.getD l [])).length*s8 T k (l+1)
theorem xw (n:Nat) (T:Df): ∀k l,(ku n T k l).length=s8 T k l
 |0,_=>rfl
 |k+1,l=>by
  simp only [ku,s8,List.length_flatMap,List.length_map,xw n T k (l+1)]
  generalize Io (T.getD l [])=o
  induction o with
  |nil=>simp
  |cons a o ih=>simp only [List.map_cons,List.sum_cons,ih,List.length_cons,Nat.succ_mul];omega
theorem rW (T:Df): ∀k j,Wk T (j+k)=Wk T j*s8 T k j
 |0,j=>by simp [s8]
 |k+1,j=>by
  have:=rW T k (j+1)
  rw [show j+(k+1)=j+1+k by omega,this]
  simp only [Wk,s8]
  rw [Nat.mul_assoc]
theorem xJ (n:Nat) (T:Df):(ku n T n 0).length=Wk T n:=by
 rw [xw,show Wk T n=Wk T (0+n) by rw [Nat.zero_add],rW]
 simp [Wk]
theorem om {n:Nat} (h1:1<=n) (h2:n<=20) {s:Df×Df} : ∀(k l:Nat),l+k=n->gb n k l s-> ∀p,p∈ku n s.2 k l↔Pm n p/\Fx l p/\Jr s.2 k l p=true
 |0,l,hk,hc,p=>by
  have hl:l=n:=by omega
  subst hl
  simp only [ku,List.mem_singleton]
  exact ⟨λe=>by subst e;exact ⟨Pm.id h1 h2,λi hi=>fb hi,rfl⟩,λh=>h.2.1.all h.1⟩
 |k+1,l,hk,hc,p=>by
  obtain ⟨c1,c2,c3⟩:=hc
  have ih:=om h1 h2 k (l+1) (by omega) c1
  have Zq:l<n:=by omega
  simp only [ku,List.mem_flatMap,List.mem_map]
  constructor
  ·rintro ⟨y,hy,q,hq,rfl⟩
   obtain ⟨yn,rfl,VZ⟩:=Od.1 hy
   obtain ⟨t,ht⟩:=Option.ne_none_iff_exists'.1 VZ
   obtain ⟨t1,t2,t3,t4⟩:=c2.rt _ _ ht
   obtain ⟨q1,q2,q3⟩:=(ih q).1 hq
   rw [Int.toNat_natCast,ht,Option.getD_some]
   have hap:ap (Ab q t) l=yn:=by rw [Gd q1 t1 Zq,q2 l (by omega),t3]
   refine ⟨q1.comp t1,λi hi=>by rw [Gd q1 t1 (by omega),q2 i (by omega),t2 i hi],?_⟩
   simp only [Jr]
   rw [show (Bj (Ab q t) (l:Int)).toNat=ap (Ab q t) l from rfl,hap,ht]
   show Jr s.2 k (l+1) (Ab (Ab q t) (Aq t))=true
   rw [Ee q1 t1 t1.inv,cG t1,comp_id q1]
   exact q3
  ·rintro ⟨p1,p2,p3⟩
   simp only [Jr] at p3
   rw [show (Bj p (l:Int)).toNat=ap p l from rfl] at p3
   split at p3
   ·cases p3
   ·rename_i t ht
    obtain ⟨t1,t2,t3,t4⟩:=c2.rt _ _ ht
    refine ⟨(ap p l:Int),Od.2 ⟨ap p l,rfl,by rw [ht];simp⟩,Ab p (Aq t),(ih _).2 ⟨p1.comp t1.inv,Fx.div p1 t1 p2 t2 Zq t3,p3⟩,?_⟩
    rw [Int.toNat_natCast,ht,Option.getD_some,Ee p1 t1.inv t1,Wd t1,comp_id p1]
theorem oo {n:Nat} (h1:1<=n) (h2:n<=20) {s:Df×Df} : ∀(k l:Nat),l+k=n->gb n k l s->(ku n s.2 k l).Nodup
 |0,l,hk,hc=>by simp [ku]
 |k+1,l,hk,hc=>by
  obtain ⟨c1,c2,c3⟩:=hc
  have ih:=oo h1 h2 k (l+1) (by omega) c1
  have hm:=om h1 h2 k (l+1) (by omega) c1
  have Zq:l<n:=by omega
  have rep: ∀y∈Io (s.2.getD l []),∃(yn:Nat) (t:List Int),y=yn/\((s.2.getD l []).getD y.toNat none).getD []=t/\Pm n t/\ap t l=yn:= λy hy=>by
   obtain ⟨yn,rfl,VZ⟩:=Od.1 hy
   obtain ⟨t,ht⟩:=Option.ne_none_iff_exists'.1 VZ
   obtain ⟨t1,t2,t3,t4⟩:=c2.rt _ _ ht
   exact ⟨yn,t,rfl,by rw [Int.toNat_natCast,ht];rfl,t1,t3⟩
  simp only [ku]
  refine List.pairwise_flatMap.2 ⟨λy hy=>?_,?_⟩
  ·obtain ⟨yn,t,rfl,e,t1,t3⟩:=rep y hy
   rw [e]
   refine List.pairwise_map.2 (List.Pairwise.imp_of_mem ?_ ih)
   intro a b ha hb Et he
   have ha:=((hm a).1 ha).1
   have hb:=((hm b).1 hb).1
   have h3:=congrArg (λz=>Ab z (Aq t)) he
   simp only [Ee ha t1 t1.inv,Ee hb t1 t1.inv,cG t1,comp_id ha,comp_id hb] at h3
   exact Et h3
  ·refine List.Pairwise.imp_of_mem ?_ ((pE _).filter _)
   intro y z hy hz Et a ha b hb he
   obtain ⟨yn,t,rfl,e,t1,t3⟩:=rep y hy
   obtain ⟨zn,u,rfl,e',u1,u3⟩:=rep z hz
   rw [e] at ha
   rw [e'] at hb
   obtain ⟨q,hq,rfl⟩:=List.mem_map.1 ha
   obtain ⟨q',fy,rfl⟩:=List.mem_map.1 hb
   obtain ⟨a1,a2,_⟩:=(hm q).1 hq
   obtain ⟨b1,b2,_⟩:=(hm q').1 fy
   have h3:=congrArg (λz=>ap z l) he
   simp only [Gd a1 t1 Zq,Gd b1 u1 Zq,a2 l (by omega),b2 l (by omega),t3,u3] at h3
   exact Et (by rw [h3])
theorem jP {g:List (List Int)} (Q:List Int->Prop) {x:List Int} {d:Int} : ∀(ls:List Int) (L:List (List Int)) (D:List Int),(∀l∈ls,Q (Ab x (Af g l)))->(∀y∈L,Q y)->
  (∀y∈(Fb g x d ls L D).1,Q y)/\(∀y∈L,y∈(Fb g x d ls L D).1)/\((Fb g x d ls L D).2.2=true-> ∀l∈ls,Ab x (Af g l)∈(Fb g x d ls L D).1)/\
   ((Fb g x d ls L D).2.2=false->(Fb g x d ls L D).1.length=3000/\ ∃z,Q z/\z∉(Fb g x d ls L D).1)
 | [],L,D,_,h=>⟨h,λ_ h=>h,(λ_ l hl=>by cases hl),(λe=>by cases e)⟩
 |l::ls,L,D,hq,h=>by
  have fy: ∀l∈ls,Q (Ab x (Af g l)):= λl' h'=>hq l' (List.mem_cons_of_mem _ h')
  simp only [Fb]
  split
  ·rename_i hm
   obtain ⟨a1,a2,a3,a4⟩:=jP Q (d:=d) ls L D fy h
   refine ⟨a1,a2,λe l' Hl=>?_,a4⟩
   rcases List.mem_cons.1 Hl with rfl|Hl
   ·exact a2 _ hm
   ·exact a3 e l' Hl
  ·rename_i hn
   split
   ·rename_i hf
    exact ⟨h,λ_ h=>h,(λe=>by cases e),λ_=>⟨hf,_,hq l (by simp),hn⟩⟩
   ·obtain ⟨a1,a2,a3,a4⟩:=jP Q (d:=d) ls (L++ [Ab x (Af g l)]) (D++ [d+1]) fy λy hy=>by
     rcases List.mem_append.1 hy with hy|hy
     ·exact h y hy
     ·rw [List.mem_singleton.1 hy];exact hq l (by simp)
    refine ⟨a1,λy hy=>a2 y (List.mem_append_left _ hy),λe l' Hl=>?_,a4⟩
    rcases List.mem_cons.1 Hl with rfl|Hl
    ·exact a2 _ (List.mem_append_right _ (by simp))
    ·exact a3 e l' Hl
theorem r6 {p:PP} (hV:Valid p) {m:Nat} {ls:List Int} (hl: ∀l∈ls,Dh (List.length p.2.2.1) l) (Q:List Int->Prop) (hQ: ∀x,Q x-> ∀l∈ls,Q (Ab x (Af p.2.2.1 l))):
  ∀(f k:Nat) (L:List (List Int)) (D:List Int),3001<=f+k->k<=L.length->Qy p m L D->(∀y∈L,Q y)->(∀(j:Nat) (h:j<L.length),j<k-> ∀l∈ls,Ab L[j] (Af p.2.2.1 l)∈L)->
  (∀y∈(Gw p.2.2.1 ls f k L D).1,Q y)/\((Gw p.2.2.1 ls f k L D).2.2=true-> ∀x∈(Gw p.2.2.1 ls f k L D).1,∀l∈ls,Ab x (Af p.2.2.1 l)∈(Gw p.2.2.1 ls f k L D).1)/\
   ((Gw p.2.2.1 ls f k L D).2.2=false->(Gw p.2.2.1 ls f k L D).1.length=3000/\ ∃z,Q z/\z∉(Gw p.2.2.1 ls f k L D).1)
 |0,k,L,D,hf,VG,hb,hq,hc=>by
  have:=hb.ok.cn
  omega
 |f+1,k,L,D,hf,VG,hb,hq,hc=>by
  simp only [Gw]
  split
  ·rename_i hk
   have GJ:k<D.length:=by rw [hb.len];exact hk
   have hd:=hb.dep k GJ
   have e:D.getD k 0=D[k]:=by rw [List.getD_eq_getElem?_getD,List.getElem?_eq_getElem GJ];rfl
   rw [Pz hk,e]
   obtain ⟨k1,⟨A,k2⟩,_⟩:=iu hV (hb.row _ (List.getElem_mem hk)) (hb.ok.len _ (List.getElem_mem hk)) (d:=D[k]) ls L D hl hb ⟨by omega,by omega⟩
   obtain ⟨a1,a2,a3,a4⟩:=jP (g:=p.2.2.1) Q (x:=L[k]) (d:=D[k]) ls L D (hQ _ (hq _ (List.getElem_mem hk))) hq
   split
   ·rename_i L' D' he
    rw [he] at k1 k2 a1 a2 a3 a4
    have k2:L'=L++A:=k2
    refine r6 hV hl Q hQ f (k+1) L' D' (by omega) (by rw [k2,List.length_append];omega) k1 a1 λj hj hjk l Hl=>?_
    by_cases e':j<k
    ·have e2:L'[j]=L[j]:=by simp only [k2];rw [List.getElem_append_left (by omega)]
     rw [e2];exact a2 _ (hc j (by omega) e' l Hl)
    ·have:j=k:=by omega
     subst this
     have e2:L'[j]=L[j]:=by simp only [k2];rw [List.getElem_append_left (by omega)]
     rw [e2];exact a3 rfl l Hl
   ·rename_i L' D' he
    rw [he] at a1 a4
    exact ⟨a1,(λe=>by cases e),λ_=>a4 rfl⟩
  ·rename_i hk
   refine ⟨hq,λ_ x hx l Hl=>?_,λe=>by cases e⟩
   obtain ⟨j,hj,rfl⟩:=List.mem_iff_getElem.1 hx
   have hj:j<L.length:=hj
   exact hc j hj (by omega) l Hl
theorem RD {p:PP} (hv:Ba p=true) {s:List Int} (hs:s.length<=20) (hr: ∀y∈s,0<=y/\y<p.1) (Q:List Int->Prop) (hQs:Q s) (hQ: ∀x,Q x-> ∀l∈Ae p.2.2.1.length,Q (Ab x (Af p.2.2.1 l))):
  (∀y∈(Fw p.2.2.1 s).1,Q y)/\((Fw p.2.2.1 s).2.2=true-> ∀x∈(Fw p.2.2.1 s).1,∀l∈Ae p.2.2.1.length,Ab x (Af p.2.2.1 l)∈(Fw p.2.2.1 s).1)/\
   ((Fw p.2.2.1 s).2.2=false->(Fw p.2.2.1 s).1.length=3000/\ ∃z,Q z/\z∉(Fw p.2.2.1 s).1):=
 r6 (valid hv) (λ_ hl=>Fo hl) Q hQ 3001 0 [s] [0] (by omega) (Nat.zero_le _) (ek hs hr) (λy hy=>by rw [List.mem_singleton.1 hy];exact hQs) λj _ hj=>absurd hj (Nat.not_lt_zero _)
theorem ae {g:List (List Int)} {x:List Int} :some x∈g.map some↔x∈g:=by simp
theorem AB {n:Nat} {g:List (List Int)} {x:List Int} (h:Gn n (g.map some) x) {l:Int} (hl:l∈Ae g.length):Gn n (g.map some) (Ab x (Af g l)):=by
 obtain ⟨k,hk,rfl|rfl⟩:=Mr (Fo hl)
 ·rw [Me hk];exact .mul h (ae.2 (List.getElem_mem hk))
 ·rw [Md hk];exact .inv h (ae.2 (List.getElem_mem hk))
theorem Xp {n k:Nat} (hk:k<n):(k:Int)+1∈Ae n/\ -((k:Int)+1)∈Ae n:=by
 unfold Ae
 exact ⟨List.mem_flatMap.2 ⟨k,List.mem_range.2 hk,by simp⟩,List.mem_flatMap.2 ⟨k,List.mem_range.2 hk,by simp⟩⟩
theorem zF {n:Nat} {g:List (List Int)} {L:List (List Int)} (h0:upto n∈L) (hc: ∀x∈L,∀l∈Ae g.length,Ab x (Af g l)∈L) {p:List Int} (hp:Gn n (g.map some) p):p∈L:=by
 induction hp with
 |id=>exact h0
 |mul _ hg ih=>
  obtain ⟨k,hk,rfl⟩:=List.mem_iff_getElem.1 (ae.1 hg)
  have:=hc _ ih _ (Xp hk).1
  rwa [Me hk] at this
 |inv _ hg ih=>
  obtain ⟨k,hk,rfl⟩:=List.mem_iff_getElem.1 (ae.1 hg)
  have:=hc _ ih _ (Xp hk).2
  rwa [Md hk] at this
structure Reach (p:PP) (L:List (List Int)) (D:List Int) (whole:Bool):Prop where
 ok:Qy p p.1.toNat L D
 nodup:L.Nodup
 first: ∃A,L=upto p.1.toNat::A
 gen: ∀x∈L,Gn p.1.toNat (p.2.2.1.map some) x
 all:whole=true-> ∀x,Gn p.1.toNat (p.2.2.1.map some) x->x∈L
 big:whole=false->L.length=3000/\ ∃z,Gn p.1.toNat (p.2.2.1.map some) z/\z∉L
theorem Cx.nodup {m:Nat} {L:List (List Int)} {Hg:List Int} (h:Cx m L Hg):L.Nodup:=
 List.pairwise_iff_getElem.2 λi j hi hj fv e=>by have:=h.inj hi hj e;omega
theorem Wm {p:PP} (hv:Ba p=true):Reach p (Fw p.2.2.1 (upto p.1.toNat)).1 (Fw p.2.2.1 (upto p.1.toNat)).2.1 (Fw p.2.2.1 (upto p.1.toNat)).2.2:=by
 have hV:=valid hv
 have hn:=hV.n
 have hl:(upto p.1.toNat).length=p.1.toNat:=Qs _
 have hr: ∀y∈upto p.1.toNat,0<=y/\y<p.1:= λy hy=>by have:=Jf.1 hy;omega
 obtain ⟨b1,b2⟩:=KR hv (by omega) hr
 rw [hl] at b1
 obtain ⟨a1,a2,a3⟩:=RD hv (by omega) hr (λx=>Gn p.1.toNat (p.2.2.1.map some) x) .id λx hx l hl=>AB hx hl
 exact ⟨b1,b1.ok.nodup,b2,a1,λhw x hx=>zF (by obtain ⟨A,e⟩:=b2;rw [e];simp) (a2 hw) hx,a3⟩
theorem Xq {p:PP} (hV:Valid p) {x:List Int} :x∈ku p.1.toNat (Uo p.1 p.2.2.1).2 p.1.toNat 0↔Gn p.1.toNat (p.2.2.1.map some) x:=by
 have hn:=hV.n
 have hg:=oK (iw hV).2.2
 have hS:DB p.1.toNat λg=>some g∈p.2.2.1.map some:=⟨⟨by omega,by omega⟩,λg aq=>by obtain ⟨g',e,h⟩:=hg _ aq;cases e;exact h⟩
 refine (om (by omega) (by omega) _ 0 (by omega) (sR hV).2.2.1 x).trans ⟨λh=>(nR (by omega) (by omega) hg h.1).1 h.2.2,λh=>?_⟩
 have hp:=Yy.pm hS h
 exact ⟨hp,λi hi=>absurd hi (Nat.not_lt_zero _),(nR (by omega) (by omega) hg hp).2 h⟩
theorem qh {p:PP} (hV:Valid p):(ku p.1.toNat (Uo p.1 p.2.2.1).2 p.1.toNat 0).Nodup:=by
 have hn:=hV.n
 exact oo (by omega) (by omega) _ 0 (by omega) (sR hV).2.2.1
theorem count_eq {p:PP} (hv:Ba p=true):Qe p=((ku p.1.toNat (Uo p.1 p.2.2.1).2 p.1.toNat 0).length:Int):=by
 unfold Qe
 rw [if_pos hv,xJ]
theorem wx {p:PP} (hv:Ba p=true):(Fw p.2.2.1 (upto p.1.toNat)).2.2=decide (1<=Qe p/\Qe p<=3000):=by
 have hV:=valid hv
 have h:=Wm hv
 rw [count_eq hv]
 have q9:=qh hV
 have h1:=dp h.nodup λx hx=>(Xq hV).2 (h.gen x hx)
 obtain ⟨A,hA⟩:=h.first
 have kh:1<=(Fw p.2.2.1 (upto p.1.toNat)).1.length:=by rw [hA];simp
 cases hw:(Fw p.2.2.1 (upto p.1.toNat)).2.2 with
 |true=>
  have h2:=dp q9 λx hx=>h.all hw x ((Xq hV).1 hx)
  have h3:=h.ok.ok.cn
  exact (decide_eq_true ⟨by omega,by omega⟩).symm
 |false=>
  obtain ⟨h2,z,h3,h4⟩:=h.big hw
  have h5:=dp (l1:=z::(Fw p.2.2.1 (upto p.1.toNat)).1) (List.nodup_cons.2 ⟨h4,h.nodup⟩) λx hx=>by
   rcases List.mem_cons.1 hx with rfl|hx
   ·exact (Xq hV).2 h3
   ·exact (Xq hV).2 (h.gen x hx)
  simp only [List.length_cons] at h5
  exact (decide_eq_false (by omega)).symm
end Go.Proofs.Ytjbdmibbbpdnnaa

namespace Go.Proofs.Ytjbdmibbbpdnnaa
open Go.RowKit
def tY (g:List (List Int)) (s:List Int):List (List Int):=(Ae g.length).map λl=>Ab s (Af g l)
noncomputable abbrev eN:Spec:=Dg (.pair Co (.pair tL .unit)) hY false true (λx=>Ba x.1=true/\List.length x.2.1<=20/\ ∀y∈x.2.1,0<=y/\y<x.1.1) (λx=>tY x.1.2.2.1 x.2.1)
abbrev EX:Type:=List (List Int)×List Int×List Int×List Int
def Wz (g:List (List Int)) (k:Int) (x:List Int) (d:Int):List Int->EX->List Int->EX×List Int
 | [],s,row=>(s,row)
 |l::ls,s,row=>if Ab x (Af g l)∈s.1 then Wz g k x d ls s (row++ [(s.1.idxOf (Ab x (Af g l)):Int)])
  else Wz g k x d ls (s.1++ [Ab x (Af g l)],s.2.1++ [d+1],s.2.2.1++ [k],s.2.2.2++ [l]) (row++ [(s.1.length:Int)])
def Yi (g:List (List Int)) (ls:List Int):Nat->Nat->EX->List (List Int)->EX×List (List Int)
 |0,_,s,N=>(s,N)
 |f+1,k,s,N=>if k<s.1.length then Yi g ls f (k+1) (Wz g (k:Int) (s.1.getD k []) (s.2.1.getD k 0) ls s []).1 (N++ [(Wz g (k:Int) (s.1.getD k []) (s.2.1.getD k 0) ls s []).2]) else (s,N)
def dg (key:ByteArray):List (List Int)->Nat->Option Int
 | [],_=>none
 |x::r,i=>if Nc x=key then some (i:Int) else dg key r (i+1)
def Sv (L:List (List Int)):ByteArray->Option Int:= λkey=>dg key L 0
def Abw (p:PP) (r:EX×List (List Int)):c6.den:=(p,r.1.1,r.1.2.1,Sv r.1.1,r.1.2.2.1,r.1.2.2.2,r.2,())
def Fu (p:PP):c6.den:=Abw p (Yi p.2.2.1 (Ae p.2.2.1.length) 3001 0 ([upto p.1.toNat],[0],[0],[0]) [])
noncomputable def Bz (p:PP):Bool:=Ba p&&(Fw p.2.2.1 (upto p.1.toNat)).2.2
noncomputable abbrev Lg:Spec:=Dg (.pair Co .unit) (.pair (.optr c6) (.pair .bool .unit)) true false (λx=>Cn x.1) (λx=>if Bz x.1=true then (some (Fu x.1),true,()) else (none,false,()))
abbrev yw:Type:=Int×Int×ByteArray×List (List Int)×List (List Int)×PUnit
theorem UB (p:Int×ByteArray×List (List Int)×Unit) (s:List Int) (P:List (List Int)->Prop):(∃(y3:List Int),Gj.fn ((↑p.2.2.1.length:Int),())=some y3/\0=0/\0=([]:List Int).length/\Bo (λ(v4:yw) (k5:yw->Prop)=>Br (decide (v4.1<(↑y3.length:Int))) (∃(y6:Int),idx y3 v4.1=some y6/\ ∃(y7:List Int),Se.fn (v4.2.2.2.1,y6,())=some y7/\ ∃(y8:List Int),Vg.fn (s,y7,())=some y8/\0=0/\v4.2.2.2.2.1.length=v4.2.2.2.2.1.length/\v4.2.2.2.2.1.length+(List.take 1 (List.drop 0 [y8])).length<=Bm/\0=0/\(v4.2.2.2.2.1++List.take 1 (List.drop 0 [y8])).length=(v4.2.2.2.2.1++List.take 1 (List.drop 0 [y8])).length/\k5 (IntKind.i64.wrap (v4.1+(1:Int)),v4.2.1,v4.2.2.1,v4.2.2.2.1,v4.2.2.2.2.1++List.take 1 (List.drop 0 [y8]),())) (P (List.take v4.2.2.2.2.1.length (List.drop 0 v4.2.2.2.2.1)))) ((0:Int),p.1,p.2.1,p.2.2.1,[],PUnit.unit))=fnW Da (look [(117,Gj),(157,Se),(156,Vg)]) eN Try.f129 (p,s,()) P:=by kernel_rfl
theorem TC (p:PP) (s:List Int) (h:Ba p=true/\s.length<=20/\ ∀y∈s,0<=y/\y<p.1):fnW Da (look [(117,Gj),(157,Se),(156,Vg)]) eN Try.f129 (p,s,()) (λ(z:List (List Int))=>z=tY p.2.2.1 s):=by
 obtain ⟨hv,hs,hr⟩:=h
 have hV:=valid hv
 have hf:=hV.cn
 refine Eq.mp (UB p s _) ⟨Ae p.2.2.1.length,if_pos ⟨Int.natCast_nonneg _,by show ((p.2.2.1.length:Nat):Int)<=8;omega⟩,rfl,rfl,?_⟩
 have hL:=Ld p.2.2.1.length
 refine Ap (Ae p.2.2.1.length).length (λv=>v.1) (λj v=>v=((j:Int),p.1,p.2.1,p.2.2.1,((Ae p.2.2.1.length).take j).map (λl=>Ab s (Af p.2.2.1 l)),())) rfl (by simp) ?_
 rintro j v K hj hi rfl hK
 dsimp only
 refine Br.dec (λhl=>?_) λhl=>?_
 ·have hl:j<(Ae p.2.2.1.length).length:=by omega
  have hlj:=Fo (List.getElem_mem hl)
  obtain ⟨h1,h2⟩:=ko hV hlj
  refine ⟨_,Au hl,_,if_pos ⟨hlj,hf.2,hV.perm⟩,_,if_pos ⟨hs,λy hy=>by have:=hr y hy;show 0<=y/\y<((Af p.2.2.1 (Ae p.2.2.1.length)[j]).length:Int);omega⟩,rfl,rfl,?_,rfl,rfl,?_⟩
  ·show (((Ae p.2.2.1.length).take j).map _).length+1<=4294967296
   rw [List.length_map,List.length_take]
   omega
  ·rw [Ak (by omega)]
   refine hK hl _ rfl ?_
   have e:(Ae p.2.2.1.length).take (j+1)=(Ae p.2.2.1.length).take j++ [(Ae p.2.2.1.length)[j]]:=by
    rw [List.take_add_one,List.getElem?_eq_getElem hl,Option.toList_some]
   rw [e,List.map_append]
   rfl
 ·have:j=(Ae p.2.2.1.length).length:=by omega
  subst this
  rw [List.drop_zero,List.take_length,List.take_length]
  rfl
theorem yj:Sound Try.prog 129 eN:=
 Sound.Dg Cg (Ah Sy (Ah p8 (Ah Qn As))) mixed Try.func129 (by kernel_rfl) (by kernel_rfl) λx h=>TC x.1 x.2.1 h
end Go.Proofs.Ytjbdmibbbpdnnaa

namespace Go.Proofs.Ytjbdmibbbpdnnaa
open Go.RowKit
theorem Fk {α:Type} {xs ys:List α} {i:Nat} {d:α} (h:i<xs.length):(xs++ys).getD i d=xs.getD i d:=by
 rw [List.getD_eq_getElem?_getD,List.getD_eq_getElem?_getD,List.getElem?_append_left h]
theorem ez {α:Type} {xs:List α} {x d:α} :(xs++ [x]).getD xs.length d=x:=by
 rw [List.getD_eq_getElem?_getD,List.getElem?_append_right (Nat.le_refl _),Nat.sub_self];rfl
theorem Bu {α:Type} {xs:List α} {i:Nat} {d:α} (h:i<xs.length):xs.getD i d=xs[i]:=by
 rw [List.getD_eq_getElem?_getD,List.getElem?_eq_getElem h];rfl
structure Lv (g:List (List Int)) (ls:List Int) (k:Nat) (L:List (List Int)) (D:List Int):Prop where
 len:D.length=L.length
 pos:0<L.length
 mono: ∀i j,i<=j->j<L.length->D.getD i 0<=D.getD j 0
 HH:k<L.length-> ∀j,j<L.length->D.getD j 0<=D.getD k 0+1
 par: ∀j,0<j->j<L.length-> ∃i l,i<j/\l∈ls/\L.getD j []=Ab (L.getD i []) (Af g l)/\D.getD j 0=D.getD i 0+1
 zero:D.getD 0 0=0
theorem Lv.add {g:List (List Int)} {ls:List Int} {k:Nat} {L:List (List Int)} {D:List Int} (h:Lv g ls k L D) (hk:k<L.length) {l:Int} (hl:l∈ls):
  Lv g ls k (L++ [Ab (L.getD k []) (Af g l)]) (D++ [D.getD k 0+1]):=by
 have hlen:=h.len
 have hD: ∀i,i<L.length->(D++ [D.getD k 0+1]).getD i 0=D.getD i 0:= λi hi=>Fk (by omega)
 have UR:(D++ [D.getD k 0+1]).getD L.length 0=D.getD k 0+1:=by rw [<-hlen];exact ez
 refine ⟨by simp [hlen],by simp,λi j fv hj=>?_,λ_ j hj=>?_,λj h0 hj=>?_,?_⟩
 ·rw [List.length_append,List.length_singleton] at hj
  by_cases e:j=L.length
  ·subst e
   rw [UR]
   by_cases e':i=L.length
   ·subst e';rw [UR];exact Int.le_refl _
   ·rw [hD i (by omega)]
    exact h.HH hk i (by omega)
  ·rw [hD i (by omega),hD j (by omega)]
   exact h.mono i j fv (by omega)
 ·rw [List.length_append,List.length_singleton] at hj
  rw [hD k hk]
  by_cases e:j=L.length
  ·subst e;rw [UR];exact Int.le_refl _
  ·rw [hD j (by omega)];exact h.HH hk j (by omega)
 ·rw [List.length_append,List.length_singleton] at hj
  by_cases e:j=L.length
  ·subst e
   exact ⟨k,l,hk,hl,by rw [ez,Fk hk],by rw [UR,hD k hk]⟩
  ·obtain ⟨i,l',h1,h2,h3,h4⟩:=h.par j h0 (by omega)
   exact ⟨i,l',h1,h2,by rw [Fk (by omega),Fk (by omega)];exact h3,by rw [hD j (by omega),hD i (by omega)];exact h4⟩
 ·rw [hD 0 h.pos];exact h.zero
theorem nw {g:List (List Int)} {ls:List Int} {k:Nat} : ∀(EU:List Int) (L:List (List Int)) (D:List Int),(∀l∈EU,l∈ls)->Lv g ls k L D->k<L.length-> ∀ {x:List Int} {d:Int},x=L.getD k []->d=D.getD k 0->
  Lv g ls k (Fb g x d EU L D).1 (Fb g x d EU L D).2.1/\(∃A,(Fb g x d EU L D).1=L++A)/\(∃A,(Fb g x d EU L D).2.1=D++A)/\
  ((Fb g x d EU L D).2.2=true-> ∀l∈EU,∃j,j<(Fb g x d EU L D).1.length/\(Fb g x d EU L D).1.getD j []=Ab x (Af g l)/\(Fb g x d EU L D).2.1.getD j 0<=d+1)
 | [],L,D,_,h,_,x,d,_,_=>⟨h,⟨[],by simp [Fb]⟩,⟨[],by simp [Fb]⟩,λ_ l hl=>by cases hl⟩
 |l::EU,L,D,hs,h,hk,x,d,hx,hd=>by
  have vO: ∀l∈EU,l∈ls:= λl' h'=>hs l' (List.mem_cons_of_mem _ h')
  have hlen:=h.len
  simp only [Fb]
  split
  ·rename_i hm
   obtain ⟨a1,⟨A,a2⟩,⟨A',a3⟩,a4⟩:=nw EU L D vO h hk hx hd
   refine ⟨a1,⟨A,a2⟩,⟨A',a3⟩,λe l' Hl=>?_⟩
   rcases List.mem_cons.1 Hl with rfl|Hl
   ·obtain ⟨j,hj,hjx⟩:=List.mem_iff_getElem.1 hm
    refine ⟨j,by rw [a2,List.length_append];omega,by rw [a2,Fk hj,Bu hj];exact hjx,?_⟩
    rw [a3,Fk (by omega),hd]
    exact h.HH hk j hj
   ·exact a4 e l' Hl
  ·split
   ·exact ⟨h,⟨[],by simp⟩,⟨[],by simp⟩,λe=>by cases e⟩
   ·have LI:=h.add hk (hs l (by simp))
    rw [<-hx,<-hd] at LI
    obtain ⟨a1,⟨A,a2⟩,⟨A',a3⟩,a4⟩:=nw EU (L++ [Ab x (Af g l)]) (D++ [d+1]) vO LI (by rw [List.length_append];omega) (x:=x) (d:=d) (by rw [Fk hk];exact hx) (by rw [Fk (by omega)];exact hd)
    refine ⟨a1,⟨_::A,by rw [a2,List.append_assoc];rfl⟩,⟨_::A',by rw [a3,List.append_assoc];rfl⟩,λe l' Hl=>?_⟩
    rcases List.mem_cons.1 Hl with rfl|Hl
    ·refine ⟨L.length,by rw [a2,List.length_append,List.length_append];simp only [List.length_singleton];omega,?_,?_⟩
     ·rw [a2,Fk (by simp),ez]
     ·rw [a3,Fk (by simp [hlen]),<-hlen,ez]
      exact Int.le_refl _
    ·exact a4 e l' Hl
structure nc (g:List (List Int)) (ls:List Int) (L:List (List Int)) (D:List Int):Prop where
 len:D.length=L.length
 pos:0<L.length
 zero:D.getD 0 0=0
 par: ∀j,0<j->j<L.length-> ∃i l,i<j/\l∈ls/\L.getD j []=Ab (L.getD i []) (Af g l)/\D.getD j 0=D.getD i 0+1
 step: ∀i,i<L.length-> ∀l∈ls,∃j,j<L.length/\L.getD j []=Ab (L.getD i []) (Af g l)/\D.getD j 0<=D.getD i 0+1
theorem wc {g:List (List Int)} {ls:List Int} : ∀(f k:Nat) (L:List (List Int)) (D:List Int),3001<=f+k->Lv g ls k L D->k<=L.length->
  (∀i,i<k-> ∀l∈ls,∃j,j<L.length/\L.getD j []=Ab (L.getD i []) (Af g l)/\D.getD j 0<=D.getD i 0+1)->
  (Gw g ls f k L D).2.2=true->(Gw g ls f k L D).1.length<=3000->nc g ls (Gw g ls f k L D).1 (Gw g ls f k L D).2.1
 |0,k,L,D,hf,h,VG,hc,hw,h3=>by
  simp only [Gw] at h3⊢
  omega
 |f+1,k,L,D,hf,h,VG,hc,hw,h3=>by
  simp only [Gw] at hw h3⊢
  split
  ·rename_i hk
   rw [if_pos hk] at hw h3
   obtain ⟨a1,⟨A,a2⟩,⟨A',a3⟩,a4⟩:=nw (x:=L.getD k []) (d:=D.getD k 0) ls L D (λ_ h=>h) h hk rfl rfl
   have hlen:=h.len
   split
   ·rename_i L' D' he
    rw [he] at a1 a2 a3 a4
    simp only [he] at hw h3
    have a2:L'=L++A:=a2
    have a3:D'=D++A':=a3
    have a4:=a4 rfl
    dsimp only at a4
    have hLl:L.length<=L'.length:=by rw [a2,List.length_append];omega
    refine wc f (k+1) L' D' (by omega) ⟨a1.len,a1.pos,a1.mono,λhk1 j hj=>?_,a1.par,a1.zero⟩ (by omega) (λi hi l hl=>?_) hw h3
    ·have h1:D'.getD j 0<=D'.getD k 0+1:=a1.HH (show k<L'.length by omega) j hj
     have h2:D'.getD k 0<=D'.getD (k+1) 0:=a1.mono k (k+1) (by omega) hk1
     omega
    ·by_cases e:i=k
     ·subst e
      obtain ⟨j,b1,b2,b3⟩:=a4 l hl
      refine ⟨j,b1,?_,?_⟩
      ·rw [b2,a2,Fk (by omega)]
      ·rw [show D'.getD i 0=D.getD i 0 by rw [a3,Fk (by omega)]];exact b3
     ·obtain ⟨j,b1,b2,b3⟩:=hc i (by omega) l hl
      refine ⟨j,by omega,?_,?_⟩
      ·rw [a2,Fk (by omega),Fk (by omega)];exact b2
      ·rw [a3,Fk (by omega),Fk (by omega)];exact b3
   ·rename_i L' D' he
    simp only [he] at hw
    cases hw
  ·rename_i hk
   exact ⟨h.len,h.pos,h.zero,h.par,λi hi=>hc i (by have hi:i<L.length:=hi;omega)⟩
theorem ny {p:PP} {s:List Int} (hv:Ba p=true) (hs:s.length<=20) (hr: ∀y∈s,0<=y/\y<p.1) (hw:(Fw p.2.2.1 s).2.2=true):
  nc p.2.2.1 (Ae p.2.2.1.length) (Fw p.2.2.1 s).1 (Fw p.2.2.1 s).2.1:=by
 have hb:=(KR hv hs hr).1.ok.cn
 refine wc 3001 0 [s] [0] (by omega) ⟨rfl,by simp,λi j fv hj=>?_,λ_ j hj=>?_,λj h0 hj=>?_,rfl⟩ (Nat.zero_le _) (λi hi=>absurd hi (Nat.not_lt_zero _)) hw hb
 ·have:j=0:=by simpa using hj
  subst this
  have:i=0:=by omega
  subst this
  exact Int.le_refl _
 ·have:j=0:=by simpa using hj
  subst this
  simp
 ·have:j=0:=by simpa using hj
  omega
theorem lD {p:PP} (hV:Valid p) {x:List Int} (hx: ∀y∈x,0<=y/\y<p.1) {l:Int} (hl:l∈Ae p.2.2.1.length):
  -l∈Ae p.2.2.1.length/\Ab (Ab x (Af p.2.2.1 l)) (Af p.2.2.1 (-l))=x:=by
 obtain ⟨k,hk,Hx⟩:=Mr (Fo hl)
 have hg:=du (hV.perm _ (List.getElem_mem hk))
 have hgl:=hV.len _ (List.getElem_mem hk)
 have hn:=hV.n
 have hp:Pm p.1.toNat (p.2.2.1[k]):=⟨by omega,hg⟩
 have key: ∀q r:List Int,Pm p.1.toNat q->Pm p.1.toNat r->Ab q r=upto p.1.toNat->Ab (Ab x q) r=x:= λq r hq hr he=>by
  refine List.ext_getElem (by rw [Ow,Ow]) λi h1 h2=>?_
  have hxi:=hx _ (List.getElem_mem h2)
  obtain ⟨xi,hxe⟩:=Int.eq_ofNat_of_zero_le hxi.1
  have vP:xi<p.1.toNat:=by omega
  have e1:ap (Ab q r) xi=ap (upto p.1.toNat) xi:=congrArg (λz=>ap z xi) he
  rw [Gd hq hr vP,fb vP] at e1
  simp only [Ab,List.getElem_map,hxe]
  have h3:=(hq.Nv vP).1
  have h4:=(hr.Nv (hq.lt vP)).1
  rw [h3,h4,e1]
 rcases Hx with rfl|rfl
 ·refine ⟨(Xp hk).2,?_⟩
  rw [Me hk,Md hk]
  exact key _ _ hp hp.inv (cG hp)
 ·refine ⟨by rw [Int.neg_neg];exact (Xp hk).1,?_⟩
  rw [Int.neg_neg,Me hk,Md hk]
  exact key _ _ hp.inv hp (Wd hp)
structure Ip (g:List (List Int)) (ls:List Int) (L:List (List Int)) (S:List Int->Prop) (d:List Int->Int):Prop where
 nn: ∀x∈L,0<=d x
 zero: ∀x∈L,d x=0↔S x
 step: ∀x∈L,∀l∈ls,d (Ab x (Af g l))<=d x+1
 down: ∀x∈L,0<d x-> ∃l∈ls,d (Ab x (Af g l))=d x-1
structure mX (g:List (List Int)) (ls:List Int) (L:List (List Int)):Prop where
 next: ∀x∈L,∀l∈ls,Ab x (Af g l)∈L
 back: ∀x∈L,∀l∈ls,-l∈ls/\Ab (Ab x (Af g l)) (Af g (-l))=x
theorem Ip.le {g:List (List Int)} {ls:List Int} {L:List (List Int)} {S:List Int->Prop} {d d':List Int->Int} (hc:mX g ls L) (h:Ip g ls L S d) (h':Ip g ls L S d'):
  ∀(n:Nat) (x:List Int),x∈L->d' x=n->d x<=n
 |0,x,hx,e=>by
  have:=(h.zero x hx).2 ((h'.zero x hx).1 e)
  omega
 |n+1,x,hx,e=>by
  obtain ⟨l,hl,hd⟩:=h'.down x hx (by omega)
  obtain ⟨b1,b2⟩:=hc.back x hx l hl
  have h1:=Ip.le hc h h' n _ (hc.next x hx l hl) (by omega)
  have h2:=h.step _ (hc.next x hx l hl) _ b1
  rw [b2] at h2
  omega
theorem Ip.eq {g:List (List Int)} {ls:List Int} {L:List (List Int)} {S:List Int->Prop} {d d':List Int->Int} (hc:mX g ls L) (h:Ip g ls L S d) (h':Ip g ls L S d') {x:List Int} (hx:x∈L):d x=d' x:=by
 have n1:=h.nn x hx
 have n2:=h'.nn x hx
 have h1:=Ip.le hc h h' (d' x).toNat x hx (by omega)
 have h2:=Ip.le hc h' h (d x).toNat x hx (by omega)
 omega
theorem Ip.HH {g:List (List Int)} {ls:List Int} {L:List (List Int)} {S:List Int->Prop} {d:List Int->Int} (hc:mX g ls L) (h:Ip g ls L S d) {x:List Int} (hx:x∈L) {l:Int} (hl:l∈ls):
  d x-1<=d (Ab x (Af g l)):=by
 obtain ⟨b1,b2⟩:=hc.back x hx l hl
 have h2:=h.step _ (hc.next x hx l hl) _ b1
 rw [b2] at h2
 omega
def Gy (L:List (List Int)) (D:List Int) (x:List Int):Int:=if x∈L then D.getD (L.idxOf x) 0 else-1
theorem Jn {L:List (List Int)} (hn:L.Nodup) {j:Nat} (hj:j<L.length):L.idxOf (L.getD j [])=j:=by
 rw [Bu hj]
 exact hn.idxOf_getElem j hj
theorem Ib {L:List (List Int)} {j:Nat} (hj:j<L.length):L.getD j []∈L:=by rw [Bu hj];exact List.getElem_mem hj
theorem gr {L:List (List Int)} {D:List Int} (hn:L.Nodup) {j:Nat} (hj:j<L.length):Gy L D (L.getD j [])=D.getD j 0:=by
 unfold Gy
 rw [if_pos (Ib hj),Jn hn hj]
theorem qf {p:PP} (hV:Valid p) {m:Nat} {L:List (List Int)} {D:List Int} (hb:Qy p m L D) (h:nc p.2.2.1 (Ae p.2.2.1.length) L D):mX p.2.2.1 (Ae p.2.2.1.length) L where
 next x hx l hl:=by
  obtain ⟨i,hi,rfl⟩:=List.mem_iff_getElem.1 hx
  obtain ⟨j,h1,h2,_⟩:=h.step i hi l hl
  rw [Bu hi] at h2
  rw [<-h2]
  exact Ib h1
 back x hx l hl:=lD hV (hb.row x hx) hl
theorem xh {p:PP} (hV:Valid p) {m:Nat} {L:List (List Int)} {D:List Int} (hb:Qy p m L D) (h:nc p.2.2.1 (Ae p.2.2.1.length) L D):
  Ip p.2.2.1 (Ae p.2.2.1.length) L (λx=>x=L.getD 0 []) (Gy L D) where
 nn x hx:=by
  obtain ⟨i,hi,rfl⟩:=List.mem_iff_getElem.1 hx
  rw [<-Bu (d:= []) hi,gr hb.ok.nodup hi]
  have:=hb.dep i (by rw [hb.len];exact hi)
  rw [Bu (by rw [hb.len];exact hi)]
  omega
 zero x hx:=by
  obtain ⟨i,hi,rfl⟩:=List.mem_iff_getElem.1 hx
  rw [<-Bu (d:= []) hi,gr hb.ok.nodup hi]
  constructor
  ·intro h0
   by_cases e:i=0
   ·rw [e]
   ·obtain ⟨k,l,h1,_,_,h4⟩:=h.par i (by omega) hi
    have hk:k<D.length:=by rw [hb.len];omega
    have:=hb.dep k hk
    rw [<-Bu (d:=0) hk] at this
    omega
  ·intro e
   have:i=0:=by
    have h1:=Jn hb.ok.nodup hi
    have h2:=Jn hb.ok.nodup h.pos
    rw [e,h2] at h1
    exact h1.symm
   rw [this]
   exact h.zero
 step x hx l hl:=by
  obtain ⟨i,hi,rfl⟩:=List.mem_iff_getElem.1 hx
  rw [<-Bu (d:= []) hi,gr hb.ok.nodup hi]
  obtain ⟨j,h1,h2,h3⟩:=h.step i hi l hl
  rw [<-h2,gr hb.ok.nodup h1]
  exact h3
 down x hx h0:=by
  obtain ⟨i,hi,rfl⟩:=List.mem_iff_getElem.1 hx
  rw [<-Bu (d:= []) hi,gr hb.ok.nodup hi] at h0⊢
  have VE:0<i:=by
   rcases Nat.eq_zero_or_pos i with e|e
   ·subst e;rw [h.zero] at h0;omega
   ·exact e
  obtain ⟨k,l,h1,h2,h3,h4⟩:=h.par i VE hi
  have hk:k<L.length:=by omega
  obtain ⟨b1,b2⟩:=lD hV (hb.row _ (Ib hk)) h2
  refine ⟨-l,b1,?_⟩
  rw [h3,b2,gr hb.ok.nodup hk]
  omega
end Go.Proofs.Ytjbdmibbbpdnnaa

namespace Go.Proofs.Ytjbdmibbbpdnnaa
open Go.RowKit
def Qu (x:Int):List Int->List Int×List Int->List Int×List Int
 | [],s=>s
 |t::r,s=>if s.1.getD t.toNat 0<0 then Qu x r (s.1.set t.toNat (s.1.getD x.toNat 0+1),s.2++ [t]) else Qu x r s
def mc (N:Nat->List Int):Nat->List Int->List Int->List Int
 |0,out,_=>out
 |_+1,out,[]=>out
 |f+1,out,x::q=>mc N f (Qu x (N x.toNat) (out,q)).1 (Qu x (N x.toNat) (out,q)).2
def zz (S:Nat->Bool) (m:Nat):List Int:=(List.range m).map λi=>if S i=true then 0 else-1
def QF (S:Nat->Bool) (m:Nat):List Int:=((List.range m).filter S).map λ(i:Nat)=>(i:Int)
def cj (N:Nat->List Int) (S:Nat->Bool) (m:Nat):List Int:=mc N (m+1) (zz S m) (QF S m)
def Uv (out:List Int):Nat:=out.countP λv=>decide (v<0)
theorem eA {xs:List Int} {i j:Nat} {v:Int} (hj:j<xs.length):(xs.set i v).getD j 0=if i=j then v else xs.getD j 0:=by
 rw [Pb]
 by_cases e:i=j
 ·subst e;rw [if_pos ⟨rfl,hj⟩,if_pos rfl]
 ·rw [if_neg λh=>e h.1,if_neg e]
theorem ov {xs:List Int} {i:Nat} {v:Int} (hi:i<xs.length) (h:xs.getD i 0<0) (hv:0<=v):Uv (xs.set i v)+1=Uv xs:=by
 unfold Uv
 rw [List.countP_set hi]
 rw [RL hi] at h
 have hp:0<xs.countP λv=>decide (v<0):=List.countP_pos_iff.2 ⟨xs[i],List.getElem_mem hi,decide_eq_true h⟩
 simp only [decide_eq_true h,if_true]
 rw [if_neg (by simp;omega)]
 omega
structure DI (N:Nat->List Int) (S:Nat->Bool) (m:Nat) (w:Nat->Prop) (out q:List Int):Prop where
 len:out.length=m
 ge: ∀i,i<m-> -1<=out.getD i 0
 WC: ∀y∈q,0<=y/\y<m/\0<=out.getD y.toNat 0
 src: ∀i,i<m->S i=true->out.getD i 0=0
 OP: ∀i,i<m->out.getD i 0=0->S i=true
 par: ∀i,i<m->0<out.getD i 0-> ∃j,j<m/\(i:Int)∈N j/\out.getD j 0=out.getD i 0-1
 done: ∀i,i<m->0<=out.getD i 0->(i:Int)∉q-> ¬w i-> ∀t∈N i,0<=out.getD t.toNat 0/\out.getD t.toNat 0<=out.getD i 0+1
 ord:q.Pairwise λa b=>out.getD a.toNat 0<=out.getD b.toNat 0
structure DX (N:Nat->List Int) (S:Nat->Bool) (m:Nat) (x:Nat) (d:Int) (out q:List Int):Prop where
 base:DI N S m (λi=>i=x) out q
 lt:x<m
 Nv:out.getD x 0=d
 d0:0<=d
 lo: ∀y∈q,d<=out.getD y.toNat 0
 hi: ∀i,i<m->out.getD i 0<=d+1
def ay (N:Nat->List Int) (m:Nat):Prop:= ∀i,i<m-> ∀t∈N i,0<=t/\t<m
theorem sX {N:Nat->List Int} {S:Nat->Bool} {m x:Nat} {d:Int} {out q:List Int} (hr:ay N m) (h:DX N S m x d out q) {t:Int} (ht:t∈N x) (QS:0<=t/\t<m) (cd:out.getD t.toNat 0<0):
  DX N S m x d (out.set t.toNat (d+1)) (q++ [t]):=by
 obtain ⟨⟨b1,b2,b3,b4,b5,b6,b7,b8⟩,h1,h2,h3,h4,h5⟩:=h
 obtain ⟨tn,rfl⟩:=Int.eq_ofNat_of_zero_le QS.1
 simp only [Int.toNat_natCast] at cd⊢
 have YT:tn<m:=by omega
 have hg: ∀i,i<m->(out.set tn (d+1)).getD i 0=if tn=i then d+1 else out.getD i 0:= λi hi=>eA (by omega)
 have Et: ∀i,0<=out.getD i 0->tn≠i:= λi hi e=>by subst e;omega
 have hq: ∀y∈q,(out.set tn (d+1)).getD y.toNat 0=out.getD y.toNat 0:= λy hy=>by
  have:=b3 y hy
  rw [hg _ (by omega),if_neg (Et _ this.2.2)]
 refine ⟨⟨by rw [List.length_set];exact b1,λi hi=>?_,λy hy=>?_,λi hi hs=>?_,λi hi h0=>?_,λi hi h0=>?_,λi hi h0 hn hw=>?_,?_⟩,h1,?_,h3,λy hy=>?_,λi hi=>?_⟩
 ·rw [hg i hi];split
  ·omega
  ·exact b2 i hi
 ·rcases List.mem_append.1 hy with hy|hy
  ·rw [hq y hy];exact b3 y hy
  ·rw [List.mem_singleton.1 hy]
   refine ⟨by omega,by omega,?_⟩
   rw [hg _ (by omega),if_pos (by omega)];omega
 ·have:=b4 i hi hs
  rw [hg i hi,if_neg (Et i (by omega))];exact this
 ·rw [hg i hi] at h0
  split at h0
  ·omega
  ·exact b5 i hi h0
 ·rw [hg i hi] at h0⊢
  by_cases e:tn=i
  ·subst e
   rw [if_pos rfl]
   exact ⟨x,h1,ht,by rw [hg x h1,if_neg (Et x (by omega)),h2];omega⟩
  ·rw [if_neg e] at h0⊢
   obtain ⟨j,j1,j2,j3⟩:=b6 i hi h0
   exact ⟨j,j1,j2,by rw [hg j j1,if_neg (Et j (by omega))];exact j3⟩
 ·rw [hg i hi] at h0⊢
  have Iv: ¬tn=i:= λe=>hn (by rw [<-e];simp)
  rw [if_neg Iv] at h0⊢
  intro t mP
  obtain ⟨c1,c2⟩:=b7 i hi h0 (λh=>hn (List.mem_append_left _ h)) hw t mP
  have:=hr i hi t mP
  rw [hg _ (by omega),if_neg (Et _ c1)]
  exact ⟨c1,c2⟩
 ·refine List.pairwise_append.2 ⟨?_,List.pairwise_singleton _ _,λa ha b hb=>?_⟩
  ·refine b8.imp_of_mem λha hb h=>?_
   rw [hq _ ha,hq _ hb];exact h
  ·rw [List.mem_singleton.1 hb,hq _ ha,hg _ (by omega),if_pos (by omega)]
   have:=b3 a ha
   exact h5 _ (by omega)
 ·rw [hg x h1,if_neg (Et x (by omega))];exact h2
 ·rcases List.mem_append.1 hy with hy|hy
  ·rw [hq y hy];exact h4 y hy
  ·rw [List.mem_singleton.1 hy,hg _ (by omega),if_pos (by omega)];omega
 ·rw [hg i hi];split
  ·exact Int.le_refl _
  ·exact h5 i hi
theorem KZ {N:Nat->List Int} {S:Nat->Bool} {m x:Nat} {d:Int} (hr:ay N m): ∀(ts:List Int) (out q:List Int),(∀t∈ts,t∈N x)->DX N S m x d out q->
  DX N S m x d (Qu x ts (out,q)).1 (Qu x ts (out,q)).2/\(Qu x ts (out,q)).2.length+Uv (Qu x ts (out,q)).1=q.length+Uv out/\
  (∀t∈ts,0<=(Qu x ts (out,q)).1.getD t.toNat 0)/\(∀i,i<m->0<=out.getD i 0->(Qu x ts (out,q)).1.getD i 0=out.getD i 0)
 | [],out,q,_,h=>⟨h,rfl,(λt ht=>nomatch ht),λ_ _ _=>rfl⟩
 |t::ts,out,q,hs,h=>by
  have vO: ∀t∈ts,t∈N x:= λt' h'=>hs t' (List.mem_cons_of_mem _ h')
  have QS:=hr x h.lt t (hs t (by simp))
  simp only [Qu]
  have hx0:out.getD ((x:Nat):Int).toNat 0=d:=by rw [Int.toNat_natCast];exact h.Nv
  by_cases cd:out.getD t.toNat 0<0
  ·rw [if_pos cd,hx0]
   have h1:=sX hr h (hs t (by simp)) QS cd
   have hd:=h.d0
   have hlen:=h.base.len
   obtain ⟨a1,a2,a3,a4⟩:=KZ hr ts _ _ vO h1
   have hti:(out.set t.toNat (d+1)).getD t.toNat 0=d+1:=by rw [eA (by omega),if_pos rfl]
   refine ⟨a1,?_,λt' mP=>?_,λi hi h0=>?_⟩
   ·have:=ov (xs:=out) (i:=t.toNat) (v:=d+1) (by omega) cd (by omega)
    rw [a2,List.length_append,List.length_singleton]
    omega
   ·rcases List.mem_cons.1 mP with rfl|mP
    ·rw [a4 _ (by omega) (by omega),hti];omega
    ·exact a3 t' mP
   ·have Et: ¬t.toNat=i:= λe=>by subst e;omega
    have e:(out.set t.toNat (d+1)).getD i 0=out.getD i 0:=by rw [eA (by omega),if_neg Et]
    rw [a4 i hi (by rw [e];exact h0),e]
  ·rw [if_neg cd]
   obtain ⟨a1,a2,a3,a4⟩:=KZ hr ts _ _ vO h
   refine ⟨a1,a2,λt' mP=>?_,a4⟩
   rcases List.mem_cons.1 mP with rfl|mP
   ·rw [a4 _ (by omega) (by omega)];omega
   ·exact a3 t' mP
structure DQ (N:Nat->List Int) (S:Nat->Bool) (m:Nat) (out q:List Int):Prop where
 base:DI N S m (λ_=>False) out q
 hi: ∀x q',q=x::q'-> ∀i,i<m->out.getD i 0<=out.getD x.toNat 0+1
theorem sV {N:Nat->List Int} {S:Nat->Bool} {m:Nat} (hr:ay N m) {x:Int} {out q:List Int} (h:DQ N S m out (x::q)):
  DQ N S m (Qu x (N x.toNat) (out,q)).1 (Qu x (N x.toNat) (out,q)).2/\(Qu x (N x.toNat) (out,q)).2.length+Uv (Qu x (N x.toNat) (out,q)).1=q.length+Uv out/\ ∀i,i<m->(Qu x (N x.toNat) (out,q)).1.getD i 0<=out.getD x.toNat 0+1:=by
 obtain ⟨b,hi⟩:=h
 obtain ⟨h1,h2,h3⟩:=b.WC x (by simp)
 obtain ⟨xn,rfl⟩:=Int.eq_ofNat_of_zero_le h1
 simp only [Int.toNat_natCast] at h3⊢
 obtain ⟨o1,o2⟩:=List.pairwise_cons.1 b.ord
 simp only [Int.toNat_natCast] at o1
 have hx:DX N S m xn (out.getD xn 0) out q:=by
  refine ⟨⟨b.len,b.ge,λy hy=>b.WC y (List.mem_cons_of_mem _ hy),b.src,b.OP,b.par,λi hi h0 hn hw=>b.done i hi h0 (λhm=>?_) (λh=>h),o2⟩,by omega,rfl,h3,o1,?_⟩
  ·rcases List.mem_cons.1 hm with e|hm
   ·exact hw (by omega)
   ·exact hn hm
  ·have:=hi xn q rfl
   rwa [Int.toNat_natCast] at this
 obtain ⟨a1,a2,a3,a4⟩:=KZ hr (N xn) out q (λ_ h=>h) hx
 obtain ⟨c,c1,c2,c3,c4,c5⟩:=a1
 refine ⟨⟨⟨c.len,c.ge,c.WC,c.src,c.OP,c.par,λi cX h0 hn _ t ht=>?_,c.ord⟩,λy q' e i hi=>?_⟩,a2,c5⟩
 ·by_cases e:i=xn
  ·subst e
   refine ⟨a3 t ht,?_⟩
   rw [c2]
   have:=hr i cX t ht
   exact c5 _ (by omega)
  ·exact c.done i cX h0 hn e t ht
 ·have h4:=c4 y (by rw [e];simp)
  have h5:=c5 i hi
  omega
theorem zy {N:Nat->List Int} {S:Nat->Bool} {m:Nat} (hr:ay N m) {x:Int} {out q:List Int} (h:DQ N S m out (x::q)):
  DQ N S m (Qu x (N x.toNat) (out,q)).1 (Qu x (N x.toNat) (out,q)).2/\(Qu x (N x.toNat) (out,q)).2.length+Uv (Qu x (N x.toNat) (out,q)).1=q.length+Uv out:=⟨(sV hr h).1,(sV hr h).2.1⟩
theorem KX {N:Nat->List Int} {S:Nat->Bool} {m M:Nat} (hr:ay N m): ∀(f:Nat) (out q:List Int) (T:Nat),DQ N S m out q->(∀i,i<m->out.getD i 0<=T)->T+(q.length+Uv out)<=M-> ∀i,i<m->(mc N f out q).getD i 0<=M
 |0,out,q,T,_,h1,h2,i,hi=>by have:=h1 i hi;simp only [mc];omega
 |f+1,out,[],T,_,h1,h2,i,hi=>by have:=h1 i hi;simp only [mc];omega
 |f+1,out,x::q,T,h,h1,h2,i,hi=>by
  obtain ⟨a1,a2,a3⟩:=sV hr h
  have hx:=h.base.WC x (by simp)
  have hxT:=h1 x.toNat (by omega)
  simp only [mc]
  simp only [List.length_cons] at h2
  exact KX hr f _ _ (T+1) a1 (λj hj=>by have:=a3 j hj;push_cast;omega) (by omega) i hi
theorem KY {N:Nat->List Int} {S:Nat->Bool} {m:Nat} (hr:ay N m): ∀(f:Nat) (out q:List Int),q.length+Uv out<f->DQ N S m out q->DQ N S m (mc N f out q) []
 |0,out,q,hf,_=>absurd hf (Nat.not_lt_zero _)
 |f+1,out,[],_,h=>h
 |f+1,out,x::q,hf,h=>by
  obtain ⟨h1,h2⟩:=zy hr h
  simp only [mc]
  simp only [List.length_cons] at hf
  exact KY hr f _ _ (by omega) h1
theorem Pw {S:Nat->Bool} {m i:Nat} (hi:i<m):(zz S m).getD i 0=if S i=true then 0 else-1:=by
 unfold zz
 rw [List.getD_eq_getElem?_getD,List.getElem?_map,List.getElem?_range hi]
 rfl
theorem jd {S:Nat->Bool} {m:Nat} {y:Int} :y∈QF S m↔ ∃i:Nat,y=i/\i<m/\S i=true:=by
 unfold QF
 simp only [List.mem_map,List.mem_filter,List.mem_range]
 constructor
 ·rintro ⟨i,⟨h1,h2⟩,rfl⟩;exact ⟨i,rfl,h1,h2⟩
 ·rintro ⟨i,rfl,h1,h2⟩;exact ⟨i,⟨h1,h2⟩,rfl⟩
theorem iA (N:Nat->List Int) (S:Nat->Bool) (m:Nat):DQ N S m (zz S m) (QF S m):=by
 have hle: ∀i,i<m->(zz S m).getD i 0<=0:= λi hi=>by rw [Pw hi];split<;>omega
 refine ⟨⟨by simp [zz],λi hi=>?_,λy hy=>?_,λi hi hs=>?_,λi hi h0=>?_,λi hi h0=>?_,λi hi h0 hn _=>?_,?_⟩,λx q' e i hi=>?_⟩
 ·rw [Pw hi];split<;>omega
 ·obtain ⟨i,rfl,h1,h2⟩:=jd.1 hy
  rw [Int.toNat_natCast,Pw h1,if_pos h2]
  exact ⟨by omega,by omega,Int.le_refl _⟩
 ·rw [Pw hi,if_pos hs]
 ·rw [Pw hi] at h0
  split at h0
  ·assumption
  ·omega
 ·have:=hle i hi;omega
 ·rw [Pw hi] at h0
  split at h0
  ·rename_i hs
   exact absurd (jd.2 ⟨i,rfl,hi,hs⟩) hn
  ·omega
 ·refine List.Pairwise.imp_of_mem (R:= λ_ _=>True) (λha hb _=>?_) (List.pairwise_of_forall λ_ _=>trivial)
  obtain ⟨i,rfl,h1,h2⟩:=jd.1 ha
  obtain ⟨j,rfl,h3,h4⟩:=jd.1 hb
  rw [Int.toNat_natCast,Int.toNat_natCast,Pw h1,Pw h3,if_pos h2,if_pos h4]
  exact Int.le_refl _
 ·obtain ⟨j,rfl,h3,h4⟩:=jd.1 (show x∈QF S m by rw [e];simp)
  have:=hle i hi
  rw [Int.toNat_natCast,Pw h3,if_pos h4]
  omega
theorem rT {S:Nat->Bool} {m:Nat} :(QF S m).length+Uv (zz S m)=m:=by
 unfold QF Uv zz
 rw [List.length_map,List.countP_map]
 have h:(List.range m).countP ((λv=>decide (v<0))∘ λi=>if S i=true then (0:Int) else-1)=(List.range m).countP λi=>!S i:=by
  refine List.countP_congr λi _=>?_
  simp only [Function.comp]
  by_cases e:S i=true
  ·simp [e]
  ·simp [Bool.not_eq_true _▸e]
 rw [h,<-List.countP_eq_length_filter]
 have:=List.length_eq_countP_add_countP (l:=List.range m) S
 rw [List.length_range] at this
 have e:(List.range m).countP (λa=>decide ¬S a=true)=(List.range m).countP λi=>!S i:=List.countP_congr λi _=>by cases S i<;>simp
 rw [e] at this
 omega
theorem UL {N:Nat->List Int} {S:Nat->Bool} {m:Nat} (hr:ay N m):DI N S m (λ_=>False) (cj N S m) []:=
 (KY hr (m+1) _ _ (by rw [rT];omega) (iA N S m)).base
theorem Abu {N:Nat->List Int} {S:Nat->Bool} {m:Nat} (hr:ay N m) {i:Nat} (hi:i<m):(cj N S m).getD i 0<=m:=
 KX hr (m+1) _ _ 0 (iA N S m) (λj hj=>by rw [Pw hj];split<;>omega) (by rw [rT];omega) i hi
end Go.Proofs.Ytjbdmibbbpdnnaa

namespace Go.Proofs.Ytjbdmibbbpdnnaa
open Go.RowKit
abbrev pz:Type:=Int×Int×ByteArray×List (List Int)×List Int×List (List Int)×List Int×(ByteArray->Option Int)×List Int×List Int×Int×ByteArray×List (List Int)×List (List Int)×PUnit
abbrev pA:Type:=Int×Int×ByteArray×List (List Int)×List (List Int)×List Int×(ByteArray->Option Int)×List Int×List Int×Int×ByteArray×List (List Int)×List (List Int)×PUnit
abbrev aR:List (Nat×Nat):= [(0,1),(0,1),(0,1),(0,1),(0,1),(0,1),(0,1),(0,1),(0,1),(0,1),(0,1),(0,1),(0,0)]
abbrev Dq (p:Int×ByteArray×List (List Int)×Unit) (y4:List Int) (y2:Int) (y3:Bool) (y6:ByteArray) (y5:ByteArray):Prop:=aR=aR/\(p,false,y4,p.1,p.2.1,p.2.2.1,y2,y3,!y3,p.1,y4,p.1,p.2.1,p.2.2.1,y4,y4,y6,p.1,p.2.1,p.2.2.1,p.1,p.2.1,p.2.2.1,[y4],[(0:Int)],bB (λ(_:ByteArray)=>none) y6 (0:Int),[(0:Int)],[(0:Int)],p.1,p.2.1,p.2.2.1,([]:List (List Int)),())=(p,false,y4,p.1,p.2.1,p.2.2.1,y2,y3,!y3,p.1,y4,p.1,p.2.1,p.2.2.1,y4,y4,y5,p.1,p.2.1,p.2.2.1,p.1,p.2.1,p.2.2.1,[y4],[(0:Int)],bB (λ(_:ByteArray)=>none) y5 (0:Int),[(0:Int)],[(0:Int)],p.1,p.2.1,p.2.2.1,([]:List (List Int)),PUnit.unit)
theorem JL (p:Int×ByteArray×List (List Int)×Unit) (P:(Option (PP×List (List Int)×List Int×(ByteArray->Option Int)×List Int×List Int×List (List Int)×Unit)×Bool×Unit)->Prop):(∃(y2:Int),Mx.fn ((p.1,p.2.1,p.2.2.1,()),())=some y2/\ ∃(y3:Bool),Bw.fn (y2,(1:Int),(3000:Int),())=some y3/\Br (!y3) (P (none,false,())) (∃(y4:List Int),Pj.fn (p.1,())=some y4/\ ∃(y5:ByteArray),En.fn (y4,())=some y5/\(∃(y6:List Int),Gj.fn ((↑p.2.2.1.length:Int),())=some y6/\0=0/\1= [y4].length/\0=0/\1= [(0:Int)].length/\0=0/\1= [(0:Int)].length/\0=0/\1= [(0:Int)].length/\0=0/\0=([]:List Int).length/\Bo (λ(v7:pA) (k8:pA->Prop)=>Br (decide (v7.1<(↑v7.2.2.2.2.1.length:Int))) (((0:Int)<=v7.1/\v7.1<(↑v7.2.2.2.2.1.length:Int))/\ ∃(y9:List Int),v7.2.2.2.2.1[0+v7.1.toNat]?=some y9/\ ∃(Jv:List (List Int)),eN.fn ((v7.2.1,v7.2.2.1,v7.2.2.2.1,()),y9,())=some Jv/\0=0/\0=([]:List Int).length/\0=0/\v7.2.2.2.2.1.length=v7.2.2.2.2.1.length/\0=0/\v7.2.2.2.2.2.1.length=v7.2.2.2.2.2.1.length/\0=0/\v7.2.2.2.2.2.2.2.1.length=v7.2.2.2.2.2.2.2.1.length/\0=0/\v7.2.2.2.2.2.2.2.2.1.length=v7.2.2.2.2.2.2.2.2.1.length/\0=0/\v7.2.2.2.2.2.2.2.2.2.2.2.2.1.length=v7.2.2.2.2.2.2.2.2.2.2.2.2.1.length/\Bo (λ(v11:pz) (WH:pz->Prop)=>Br (decide (v11.1<(↑Jv.length:Int))) (∃(an:List Int),idx Jv v11.1=some an/\ ∃(Pu:ByteArray),En.fn (an,())=some Pu/\Br (!(v11.2.2.2.2.2.2.2.1 Pu).isSome) (∃(Vd:Int),Oe.fn (List.take v11.2.2.2.2.2.1.length (List.drop 0 v11.2.2.2.2.2.1),())=some Vd/\0=0/\v11.2.2.2.2.2.1.length=v11.2.2.2.2.2.1.length/\v11.2.2.2.2.2.1.length+(List.take 1 (List.drop 0 [an])).length<=Bm/\((0:Int)<=v7.1/\v7.1<(↑v11.2.2.2.2.2.2.1.length:Int))/\ ∃(Xd:Int),v11.2.2.2.2.2.2.1[0+v7.1.toNat]?=some Xd/\0=0/\v11.2.2.2.2.2.2.1.length=v11.2.2.2.2.2.2.1.length/\v11.2.2.2.2.2.2.1.length+ [IntKind.i64.wrap (Xd+(1:Int))].length<=Bm/\0=0/\v11.2.2.2.2.2.2.2.2.1.length=v11.2.2.2.2.2.2.2.2.1.length/\v11.2.2.2.2.2.2.2.2.1.length+(List.take 1 (List.drop 0 [v7.1])).length<=Bm/\ ∃(pK:Int),idx y6 v11.1=some pK/\0=0/\v11.2.2.2.2.2.2.2.2.2.1.length=v11.2.2.2.2.2.2.2.2.2.1.length/\v11.2.2.2.2.2.2.2.2.2.1.length+ [pK].length<=Bm/\0=0/\v11.2.2.2.2.1.length=v11.2.2.2.2.1.length/\v11.2.2.2.2.1.length+(List.take 1 (List.drop 0 [Vd])).length<=Bm/\0=0/\(v11.2.2.2.2.1++List.take 1 (List.drop 0 [Vd])).length=(v11.2.2.2.2.1++List.take 1 (List.drop 0 [Vd])).length/\0=0/\(v11.2.2.2.2.2.1++List.take 1 (List.drop 0 [an])).length=(v11.2.2.2.2.2.1++List.take 1 (List.drop 0 [an])).length/\0=0/\(v11.2.2.2.2.2.2.1++ [IntKind.i64.wrap (Xd+(1:Int))]).length=(v11.2.2.2.2.2.2.1++ [IntKind.i64.wrap (Xd+(1:Int))]).length/\0=0/\(v11.2.2.2.2.2.2.2.2.1++List.take 1 (List.drop 0 [v7.1])).length=(v11.2.2.2.2.2.2.2.2.1++List.take 1 (List.drop 0 [v7.1])).length/\0=0/\(v11.2.2.2.2.2.2.2.2.2.1++ [pK]).length=(v11.2.2.2.2.2.2.2.2.2.1++ [pK]).length/\0=0/\v11.2.2.2.2.2.2.2.2.2.2.2.2.2.1.length=v11.2.2.2.2.2.2.2.2.2.2.2.2.2.1.length/\WH (IntKind.i64.wrap (v11.1+(1:Int)),v11.2.1,v11.2.2.1,v11.2.2.2.1,v11.2.2.2.2.1++List.take 1 (List.drop 0 [Vd]),v11.2.2.2.2.2.1++List.take 1 (List.drop 0 [an]),v11.2.2.2.2.2.2.1++ [IntKind.i64.wrap (Xd+(1:Int))],bB v11.2.2.2.2.2.2.2.1 Pu Vd,v11.2.2.2.2.2.2.2.2.1++List.take 1 (List.drop 0 [v7.1]),v11.2.2.2.2.2.2.2.2.2.1++ [pK],v11.2.2.2.2.2.2.2.2.2.2.1,v11.2.2.2.2.2.2.2.2.2.2.2.1,v11.2.2.2.2.2.2.2.2.2.2.2.2.1,v11.2.2.2.2.2.2.2.2.2.2.2.2.2.1,())) (0=0/\v11.2.2.2.2.1.length=v11.2.2.2.2.1.length/\v11.2.2.2.2.1.length+(List.take 1 (List.drop 0 [(v11.2.2.2.2.2.2.2.1 Pu).getD (Int.ofNat (nat_lit 0))])).length<=Bm/\0=0/\(v11.2.2.2.2.1++List.take 1 (List.drop 0 [(v11.2.2.2.2.2.2.2.1 Pu).getD (Int.ofNat (nat_lit 0))])).length=(v11.2.2.2.2.1++List.take 1 (List.drop 0 [(v11.2.2.2.2.2.2.2.1 Pu).getD (Int.ofNat (nat_lit 0))])).length/\0=0/\v11.2.2.2.2.2.1.length=v11.2.2.2.2.2.1.length/\0=0/\v11.2.2.2.2.2.2.1.length=v11.2.2.2.2.2.2.1.length/\0=0/\v11.2.2.2.2.2.2.2.2.1.length=v11.2.2.2.2.2.2.2.2.1.length/\0=0/\v11.2.2.2.2.2.2.2.2.2.1.length=v11.2.2.2.2.2.2.2.2.2.1.length/\0=0/\v11.2.2.2.2.2.2.2.2.2.2.2.2.2.1.length=v11.2.2.2.2.2.2.2.2.2.2.2.2.2.1.length/\WH (IntKind.i64.wrap (v11.1+(1:Int)),v11.2.1,v11.2.2.1,v11.2.2.2.1,v11.2.2.2.2.1++List.take 1 (List.drop 0 [(v11.2.2.2.2.2.2.2.1 Pu).getD (Int.ofNat (nat_lit 0))]),v11.2.2.2.2.2.1,v11.2.2.2.2.2.2.1,v11.2.2.2.2.2.2.2.1,v11.2.2.2.2.2.2.2.2.1,v11.2.2.2.2.2.2.2.2.2.1,v11.2.2.2.2.2.2.2.2.2.2.1,v11.2.2.2.2.2.2.2.2.2.2.2.1,v11.2.2.2.2.2.2.2.2.2.2.2.2.1,v11.2.2.2.2.2.2.2.2.2.2.2.2.2.1,()))) (0=0/\v11.2.2.2.2.2.2.2.2.2.2.2.2.2.1.length=v11.2.2.2.2.2.2.2.2.2.2.2.2.2.1.length/\v11.2.2.2.2.2.2.2.2.2.2.2.2.2.1.length+(List.take 1 (List.drop 0 [List.take v11.2.2.2.2.1.length (List.drop 0 v11.2.2.2.2.1)])).length<=Bm/\0=0/\v11.2.2.2.2.2.1.length=v11.2.2.2.2.2.1.length/\0=0/\v11.2.2.2.2.2.2.1.length=v11.2.2.2.2.2.2.1.length/\0=0/\v11.2.2.2.2.2.2.2.2.1.length=v11.2.2.2.2.2.2.2.2.1.length/\0=0/\v11.2.2.2.2.2.2.2.2.2.1.length=v11.2.2.2.2.2.2.2.2.2.1.length/\0=0/\(v11.2.2.2.2.2.2.2.2.2.2.2.2.2.1++List.take 1 (List.drop 0 [List.take v11.2.2.2.2.1.length (List.drop 0 v11.2.2.2.2.1)])).length=(v11.2.2.2.2.2.2.2.2.2.2.2.2.2.1++List.take 1 (List.drop 0 [List.take v11.2.2.2.2.1.length (List.drop 0 v11.2.2.2.2.1)])).length/\k8 (IntKind.i64.wrap (v7.1+(1:Int)),v11.2.1,v11.2.2.1,v11.2.2.2.1,v11.2.2.2.2.2.1,v11.2.2.2.2.2.2.1,v11.2.2.2.2.2.2.2.1,v11.2.2.2.2.2.2.2.2.1,v11.2.2.2.2.2.2.2.2.2.1,v11.2.2.2.2.2.2.2.2.2.2.1,v11.2.2.2.2.2.2.2.2.2.2.2.1,v11.2.2.2.2.2.2.2.2.2.2.2.2.1,v11.2.2.2.2.2.2.2.2.2.2.2.2.2.1++List.take 1 (List.drop 0 [List.take v11.2.2.2.2.1.length (List.drop 0 v11.2.2.2.2.1)]),()))) ((0:Int),v7.2.1,v7.2.2.1,v7.2.2.2.1,[],v7.2.2.2.2.1,v7.2.2.2.2.2.1,v7.2.2.2.2.2.2.1,v7.2.2.2.2.2.2.2.1,v7.2.2.2.2.2.2.2.2.1,v7.2.2.2.2.2.2.2.2.2.1,v7.2.2.2.2.2.2.2.2.2.2.1,v7.2.2.2.2.2.2.2.2.2.2.2.1,v7.2.2.2.2.2.2.2.2.2.2.2.2.1,PUnit.unit)) (P (some ((v7.2.2.2.2.2.2.2.2.2.1,v7.2.2.2.2.2.2.2.2.2.2.1,v7.2.2.2.2.2.2.2.2.2.2.2.1,()),List.take v7.2.2.2.2.1.length (List.drop 0 v7.2.2.2.2.1),List.take v7.2.2.2.2.2.1.length (List.drop 0 v7.2.2.2.2.2.1),v7.2.2.2.2.2.2.1,List.take v7.2.2.2.2.2.2.2.1.length (List.drop 0 v7.2.2.2.2.2.2.2.1),List.take v7.2.2.2.2.2.2.2.2.1.length (List.drop 0 v7.2.2.2.2.2.2.2.2.1),List.take v7.2.2.2.2.2.2.2.2.2.2.2.2.1.length (List.drop 0 v7.2.2.2.2.2.2.2.2.2.2.2.2.1),()),true,()))) ((0:Int),p.1,p.2.1,p.2.2.1,[y4],[(0:Int)],bB (λ(_:ByteArray)=>none) y5 (0:Int),[(0:Int)],[(0:Int)],p.1,p.2.1,p.2.2.1,([]:List (List Int)),PUnit.unit))/\((∃(y6:ByteArray),En.fn (y4,())=some y6/\(Dq p y4 y2 y3 y6 y5))/\ ∃(y6:ByteArray),En.fn (y4,())=some y6/\((Dq p y4 y2 y3 y6 y5))/\((Dq p y4 y2 y3 y6 y5))/\(Dq p y4 y2 y3 y6 y5))/\((∃(y6:ByteArray),En.fn (y4,())=some y6/\(Dq p y4 y2 y3 y6 y5))/\ ∃(y6:ByteArray),En.fn (y4,())=some y6/\((Dq p y4 y2 y3 y6 y5))/\((Dq p y4 y2 y3 y6 y5))/\(Dq p y4 y2 y3 y6 y5))/\ ∃(y6:ByteArray),En.fn (y4,())=some y6/\(((Dq p y4 y2 y3 y6 y5))/\((Dq p y4 y2 y3 y6 y5))/\(Dq p y4 y2 y3 y6 y5))/\(((Dq p y4 y2 y3 y6 y5))/\((Dq p y4 y2 y3 y6 y5))/\(Dq p y4 y2 y3 y6 y5))/\(((Dq p y4 y2 y3 y6 y5))/\(Dq p y4 y2 y3 y6 y5))/\(((Dq p y4 y2 y3 y6 y5))/\(Dq p y4 y2 y3 y6 y5))/\((Dq p y4 y2 y3 y6 y5))/\aR=aR/\(p,false,y4,p.1,p.2.1,p.2.2.1,y2,y3,!y3,p.1,y4,p.1,p.2.1,p.2.2.1,y4,y4,y6,p.1,p.2.1,p.2.2.1,p.1,p.2.1,p.2.2.1,[y4],[(0:Int)],bB (λ(_:ByteArray)=>none) y6 (0:Int),[(0:Int)],[(0:Int)],p.1,p.2.1,p.2.2.1,([]:List (List Int)),())=(p,false,y4,p.1,p.2.1,p.2.2.1,y2,y3,!y3,p.1,y4,p.1,p.2.1,p.2.2.1,y4,y4,y5,p.1,p.2.1,p.2.2.1,p.1,p.2.1,p.2.2.1,[y4],[(0:Int)],bB (λ(_:ByteArray)=>none) y5 (0:Int),[(0:Int)],[(0:Int)],p.1,p.2.1,p.2.2.1,[],PUnit.unit)))=fnW Da (look [(126,Mx),(97,Bw),(127,Pj),(128,En),(117,Gj),(129,eN),(58,Oe)]) Lg Try.f80 (p,()) P:=by kernel_rfl
theorem nJ {g:List (List Int)} {k:Int} {x:List Int} {d:Int} : ∀(ls:List Int) (s:EX) (row:List Int) (L':List (List Int)) (D':List Int),Fb g x d ls s.1 s.2.1=(L',D',true)->
  (Wz g k x d ls s row).1.1=L'/\(Wz g k x d ls s row).1.2.1=D'
 | [],s,row,L',D',h=>by
  simp only [Fb,Prod.mk.injEq] at h
  exact ⟨h.1,h.2.1⟩
 |l::ls,s,row,L',D',h=>by
  simp only [Fb] at h
  simp only [Wz]
  by_cases hm:Ab x (Af g l)∈s.1
  ·rw [if_pos hm] at h
   rw [if_pos hm]
   exact nJ ls s _ L' D' h
  ·rw [if_neg hm] at h
   rw [if_neg hm]
   by_cases hf:s.1.length=3000
   ·rw [if_pos hf] at h
    simp at h
   ·rw [if_neg hf] at h
    exact nJ ls _ _ L' D' h
theorem wF {g:List (List Int)} {ls:List Int} : ∀(f k:Nat) (s:EX) (N:List (List Int)) (L':List (List Int)) (D':List Int),Gw g ls f k s.1 s.2.1=(L',D',true)->
  (Yi g ls f k s N).1.1=L'/\(Yi g ls f k s N).1.2.1=D'
 |0,k,s,N,L',D',h=>by
  simp only [Gw,Prod.mk.injEq] at h
  exact ⟨h.1,h.2.1⟩
 |f+1,k,s,N,L',D',h=>by
  simp only [Gw] at h
  simp only [Yi]
  by_cases hk:k<s.1.length
  ·rw [if_pos hk] at h
   rw [if_pos hk]
   split at h
   ·rename_i L1 D1 he
    obtain ⟨a1,a2⟩:=nJ (k:=(k:Int)) ls s [] L1 D1 he
    refine wF f (k+1) _ _ L' D' ?_
    rw [a1,a2]
    exact h
   ·simp at h
  ·rw [if_neg hk] at h
   rw [if_neg hk]
   simp only [Prod.mk.injEq] at h
   exact ⟨h.1,h.2.1⟩
theorem j5 {key:ByteArray} {x:List Int} : ∀(L:List (List Int)) (i:Nat),dg key (L++ [x]) i=if (dg key L i).isSome=true then dg key L i else if Nc x=key then some ((i+L.length:Nat):Int) else none
 | [],i=>by simp [dg]
 |y::L,i=>by
  simp only [List.cons_append,dg]
  split
  ·rfl
  ·rw [j5 L (i+1),List.length_cons,show i+1+L.length=i+(L.length+1) by omega]
theorem km {x:List Int} (hx:Qz x): ∀(L:List (List Int)) (i:Nat),(∀y∈L,Qz y)->dg (Nc x) L i=if x∈L then some ((i+L.idxOf x:Nat):Int) else none
 | [],i,_=>by simp [dg]
 |y::L,i,h=>by
  have hy:=h y (by simp)
  simp only [dg]
  by_cases e:y=x
  ·subst e
   rw [if_pos rfl,if_pos (by simp),List.idxOf_cons_self]
   rfl
  ·rw [if_neg λhk=>e (key_inj hy hx hk),km hx L (i+1) λz hz=>h z (List.mem_cons_of_mem _ hz),show List.idxOf x (y::L)=(List.idxOf x L).succ by rw [List.idxOf_cons,beq_false_of_ne e];rfl]
   have:(x∈y::L)↔(x∈L):=by simp [Ne.symm e]
   by_cases hm:x∈L
   ·rw [if_pos hm,if_pos (this.2 hm),show i+1+List.idxOf x L=i+(List.idxOf x L).succ by omega]
   ·rw [if_neg hm,if_neg λh=>hm (this.1 h)]
theorem rM {x:List Int} {L:List (List Int)} (hx:Qz x) (hL: ∀y∈L,Qz y):Sv L (Nc x)=if x∈L then some (L.idxOf x:Int) else none:=by
 unfold Sv
 rw [km hx L 0 hL,Nat.zero_add]
theorem rK {x:List Int} {L:List (List Int)} (hx:Qz x) (hL: ∀y∈L,Qz y) (hn:x∉L):bB (Sv L) (Nc x) (L.length:Int)=Sv (L++ [x]):=by
 funext key
 unfold bB Sv
 rw [j5,Nat.zero_add]
 by_cases e:key=Nc x
 ·subst e
  rw [if_pos rfl,km hx L 0 hL,if_neg hn,if_neg (by simp),if_pos rfl]
 ·rw [if_neg e,if_neg (c:=Nc x=key) λh=>e h.symm]
  split
  ·rfl
  ·rename_i h
   cases hk:dg key L 0 with
   |none=>rfl
   |some v=>rw [hk] at h;simp at h
theorem yR (p:PP):Hw (Qe p) 1 3000=Bz p:=by
 unfold Bz
 by_cases hv:Ba p=true
 ·rw [hv,Bool.true_and,wx hv]
  rfl
 ·have hv:Ba p=false:=by simpa using hv
  rw [hv,Bool.false_and]
  have:Qe p=0:=by unfold Qe;rw [if_neg (by simp [hv])]
  rw [this]
  rfl
theorem HT (p:PP) (h:Cn p):fnW Da (look [(126,Mx),(97,Bw),(127,Pj),(128,En),(117,Gj),(129,eN),(58,Oe)]) Lg Try.f80 (p,()) (λ(z:Option (PP×List (List Int)×List Int×(ByteArray->Option Int)×List Int×List Int×List (List Int)×Unit)×Bool×Unit)=>z=(if Bz p=true then (some (Fu p),true,()) else (none,false,()))):=by
 refine Eq.mp (JL p _) ⟨_,if_pos h,_,if_pos trivial,?_⟩
 show Br (!Hw (Qe p) 1 3000) _ _
 rw [yR p]
 refine Br.of (λhb=>?_) λhb=>?_
 ·rw [if_neg (by simpa using hb)]
 have hw:Bz p=true:=by simpa using hb
 rw [if_pos hw]
 obtain ⟨hv,zG⟩:=Bool.and_eq_true_iff.1 hw
 have hV:=valid hv
 have tq:=hV.cn
 have hn:=hV.n
 obtain ⟨pn,ps,g,⟨⟩⟩:=p
 dsimp only at tq hn zG⊢
 have hI:(upto pn.toNat).length<=20:=by rw [Qs];omega
 have hIr: ∀y∈upto pn.toNat,0<=y/\y<pn:= λy hy=>by have:=Jf.1 hy;omega
 have XF:=ek (p:=(pn,ps,g,())) hI hIr
 obtain ⟨ls,Yj⟩: ∃ls,Ae g.length=ls:=⟨_,rfl⟩
 have QN:ls.length<=16:=by rw [<-Yj,Ld];omega
 have cY: ∀l∈ls,Dh (List.length g) l:= λl hl=>Fo (Yj▸hl)
 have EB: ∀x:List Int,(∀y∈x,0<=y/\y<pn)->Qz x:= λx hx y hy=>by have:=hx y hy;omega
 have zP:Gw g ls 3001 0 [upto pn.toNat] [0]=Fw g (upto pn.toNat):=by unfold Fw;rw [Yj]
 have pZ:bB (λ(_:ByteArray)=>(none:Option Int)) (Nc (upto pn.toNat)) 0=Sv [upto pn.toNat]:=by
  have:=rK (L:= []) (EB _ hIr) (λy hy=>by cases hy) (by simp)
  exact this
 refine ⟨upto pn.toNat,if_pos ⟨by show (0:Int)<=pn;omega,by show pn<=20;omega⟩,Nc (upto pn.toNat),if_pos (by show short (upto pn.toNat);unfold short;omega),⟨ls,?_,rfl,rfl,rfl,rfl,rfl,rfl,rfl,rfl,rfl,rfl,?_⟩,?_⟩
 ·refine (if_pos ⟨by show (0:Int)<=((g.length:Nat):Int);omega,by show ((g.length:Nat):Int)<=8;omega⟩).trans (congrArg some ?_)
  show Ae (((g.length:Nat):Int)).toNat=ls
  rw [Int.toNat_natCast];exact Yj
 ·obtain ⟨R,hR⟩: ∃R,Yi g ls 3001 0 ([upto pn.toNat],[0],[0],[0]) []=R:=⟨_,rfl⟩
  have Ahr:Fu (pn,ps,g,())=Abw (pn,ps,g,()) R:=by unfold Fu;rw [Yj];exact congrArg _ hR
  rw [Ahr]
  refine Bo.mk (λv=> ∃(k:Nat) (s:EX) (N:List (List Int)),v=((k:Int),pn,ps,g,s.1,s.2.1,Sv s.1,s.2.2.1,s.2.2.2,pn,ps,g,N,())/\k<=s.1.length/\Qy (pn,ps,g,()) (upto pn.toNat).length s.1 s.2.1/\s.2.2.1.length=s.1.length/\s.2.2.2.length=s.1.length/\N.length=k/\
    Gw g ls (3001-k) k s.1 s.2.1=Fw g (upto pn.toNat)/\Yi g ls (3001-k) k s N=R) (λv=>3001-v.1.toNat)
   ⟨0,([upto pn.toNat],[0],[0],[0]),[],?_,by simp,XF,rfl,rfl,rfl,zP,hR⟩ ?_
  ·rw [<-pZ];rfl
  rintro v ⟨k,s0,N,rfl,h1,h2,h3,h4,h5,h6,h7⟩
  obtain ⟨L0,D0,P0,B0⟩:=s0
  dsimp only at h1 h2 h3 h4 h6 h7⊢
  have hL0:=h2.ok.cn
  have hD0:=h2.len
  obtain ⟨f,hf⟩: ∃f,3001-k=f+1:=⟨3000-k,by omega⟩
  refine Br.dec (λhl=>?_) λhl=>?_
  ·have hk:k<L0.length:=by omega
   have GJ:k<D0.length:=by omega
   have hx: ∀y∈L0[k],0<=y/\y<pn:=h2.row _ (List.getElem_mem hk)
   have QT:L0[k].length=(upto pn.toNat).length:=h2.ok.len _ (List.getElem_mem hk)
   have hdk:=h2.dep k GJ
   have hxe:L0.getD k []=L0[k]:=Pz hk
   have zI:D0.getD k 0=D0[k]:=by rw [List.getD_eq_getElem?_getD,List.getElem?_eq_getElem GJ];rfl
   have hgo: ∀L' D' ok,Fb g L0[k] D0[k] ls L0 D0=(L',D',ok)->Fw g (upto pn.toNat)=if ok=true then Gw g ls f (k+1) L' D' else (L',D',false):=by
    intro L' D' ok he
    rw [<-h6,hf,Gw,if_pos hk,hxe,zI,he]
    cases ok<;>rfl
   obtain ⟨E,hE⟩: ∃E,Wz g (k:Int) L0[k] D0[k] ls (L0,D0,P0,B0) []=E:=⟨_,rfl⟩
   have hex:R=Yi g ls f (k+1) E.1 (N++ [E.2]):=by
    rw [<-h7,hf,Yi,if_pos hk]
    dsimp only
    rw [hxe,zI,hE]
   refine ⟨⟨by omega,by omega⟩,L0[k],by rw [Int.toNat_natCast,Nat.zero_add];exact List.getElem?_eq_getElem hk,ls.map (λl=>Ab L0[k] (Af g l)),?_,?_⟩
   ·refine (if_pos ⟨hv,by show L0[k].length<=20;omega,hx⟩).trans (congrArg some ?_)
    show tY g L0[k]=_
    unfold tY
    rw [Yj]
   refine ⟨rfl,rfl,rfl,rfl,rfl,rfl,rfl,rfl,rfl,rfl,rfl,rfl,?_⟩
   obtain ⟨nb,hnb⟩: ∃nb,ls.map (λl=>Ab L0[k] (Af g l))=nb:=⟨_,rfl⟩
   have hnl:nb.length=ls.length:=by rw [<-hnb,List.length_map]
   have hni: ∀i (h:i<ls.length),nb[i]'(by omega)=Ab L0[k] (Af g ls[i]):= λi h=>by simp only [<-hnb,List.getElem_map]
   rw [hnb]
   refine Bo.mk (λv=> ∃(i:Nat) (row:List Int) (s:EX),v=((i:Int),pn,ps,g,row,s.1,s.2.1,Sv s.1,s.2.2.1,s.2.2.2,pn,ps,g,N,())/\i<=ls.length/\row.length=i/\Qy (pn,ps,g,()) (upto pn.toNat).length s.1 s.2.1/\s.2.2.1.length=s.1.length/\s.2.2.2.length=s.1.length/\
     (∃A,s.1=L0++A)/\(∃A,s.2.1=D0++A)/\Fb g L0[k] D0[k] (ls.drop i) s.1 s.2.1=Fb g L0[k] D0[k] ls L0 D0/\Wz g (k:Int) L0[k] D0[k] (ls.drop i) s row=E) (λv=>ls.length-v.1.toNat)
    ⟨0,[],(L0,D0,P0,B0),rfl,Nat.zero_le _,rfl,h2,h3,h4,⟨[],by simp⟩,⟨[],by simp⟩,rfl,hE⟩ ?_
   rintro v ⟨i,row,s,rfl,g1,g2,g3,g4,g5,⟨A,g6⟩,⟨A',g7⟩,g8,g9⟩
   obtain ⟨L,D,Pa,By⟩:=s
   dsimp only at g3 g4 g5 g6 g7 g8 g9⊢
   have hLf:=g3.ok.cn
   have UR:=g3.len
   refine Br.dec (λhli=>?_) λhli=>?_
   ·have hi:i<ls.length:=by omega
    have VG:k<L.length:=by rw [g6,List.length_append];omega
    have XV:k<D.length:=by rw [UR];exact VG
    have hDk:D[k]=D0[k]:=by simp only [g7];exact List.getElem_append_left GJ
    have iU:=cY _ (List.getElem_mem hi)
    obtain ⟨nl,nr⟩:=jf hV hx iU
    dsimp only at nl nr
    rw [List.drop_eq_getElem_cons hi] at g8 g9
    simp only [Fb] at g8
    simp only [Wz] at g9
    have hyb:=EB _ nr
    refine ⟨_,Au (by omega),?_⟩
    rw [hni i hi]
    generalize hyv:Ab L0[k] (Af g ls[i])=yv at*
    refine ⟨Nc yv,if_pos (by show short yv;unfold short;rw [nl];omega),?_⟩
    rw [rM hyb λy hy=>EB _ (g3.row y hy)]
    refine Br.of (λIv=>?_) λIv=>?_
    ·have Iv:yv∉L:= λhm=>by rw [if_pos hm] at Iv;simp at Iv
     rw [if_neg Iv] at g8 g9
     by_cases fu:L.length=3000
     ·rw [if_pos fu] at g8
      have:=hgo _ _ _ g8.symm
      rw [if_neg (by decide)] at this
      rw [this] at zG
      cases zG
     rw [if_neg fu] at g8
     refine ⟨_,if_pos trivial,rfl,rfl,?_,⟨by omega,by omega⟩,D0[k],?_,rfl,rfl,?_,rfl,rfl,?_,_,Au hi,rfl,rfl,?_,rfl,rfl,?_,rfl,rfl,rfl,rfl,rfl,rfl,rfl,rfl,rfl,rfl,rfl,rfl,?_⟩
     ·show L.length+1<=4294967296;omega
     ·rw [Int.toNat_natCast,Nat.zero_add,List.getElem?_eq_getElem XV,hDk]
     ·show D.length+1<=4294967296;omega
     ·show Pa.length+1<=4294967296;omega
     ·show By.length+1<=4294967296;omega
     ·show row.length+1<=4294967296;omega
     ·dsimp only
      rw [Ax L,Bd (n:=D0[k]+1) (by omega) (by omega),Ak (by omega),rK hyb (λy hy=>EB _ (g3.row y hy)) Iv]
      refine ⟨⟨i+1,row++ [(L.length:Int)],(L++ [yv],D++ [D0[k]+1],Pa++ [(k:Int)],By++ [ls[i]]),rfl,hi,by rw [List.length_append,g2];rfl,g3.add Iv (by rw [nl,QT]) (by omega) nr ⟨by omega,by omega⟩,?_,?_,⟨A++ [yv],by rw [g6,List.append_assoc]⟩,⟨A'++ [D0[k]+1],by rw [g7,List.append_assoc]⟩,g8,g9⟩,by omega⟩
      ·simp [g4]
      ·simp [g5]
    ·have Iv:yv∈L:=Classical.byContradiction λhm=>by rw [if_neg hm] at Iv;simp at Iv
     rw [if_pos Iv] at g8 g9
     rw [if_pos Iv]
     refine ⟨rfl,rfl,?_,rfl,rfl,rfl,rfl,rfl,rfl,rfl,rfl,rfl,rfl,rfl,rfl,?_⟩
     ·show row.length+1<=4294967296;omega
     ·rw [Ak (by omega)]
      exact ⟨⟨i+1,row++ [(L.idxOf yv:Int)],(L,D,Pa,By),rfl,hi,by rw [List.length_append,g2];rfl,g3,g4,g5,⟨A,g6⟩,⟨A',g7⟩,g8,g9⟩,by omega⟩
   ·have:i=ls.length:=by omega
    subst this
    rw [List.drop_length,Fb] at g8
    rw [List.drop_length,Wz] at g9
    have:=hgo _ _ _ g8.symm
    rw [if_pos rfl] at this
    rw [Ax row,Ak (by omega)]
    refine ⟨rfl,rfl,?_,rfl,rfl,rfl,rfl,rfl,rfl,rfl,rfl,rfl,rfl,⟨k+1,(L,D,Pa,By),N++ [row],rfl,by rw [g6,List.length_append];omega,g3,g4,g5,by rw [List.length_append,h5];rfl,?_,?_⟩,by omega⟩
    ·show N.length+1<=4294967296;omega
    ·rw [show 3001-(k+1)=f by omega]
     exact this.symm
    ·rw [show 3001-(k+1)=f by omega,hex,<-g9]
  ·have hk:k=L0.length:=by omega
   rw [hf,Yi,if_neg (by show ¬k<L0.length;omega)] at h7
   subst h7
   simp only [List.drop_zero,List.take_length]
   rfl
 ·have zK:En.fn (upto pn.toNat,())=some (Nc (upto pn.toNat)):=if_pos (by show short (upto pn.toNat);unfold short;omega)
  repeat' (first|exact ⟨rfl,rfl⟩|refine ⟨_,zK,?_⟩|refine ⟨?_,?_⟩)
theorem qH:Sound Try.prog 80 Lg:=
 Sound.Dg Cg (Ah kV (Ah Qq (Ah bX (Ah dR (Ah Sy (Ah yj (Ah dP As))))))) mixed Try.func80 (by kernel_rfl) (by kernel_rfl) λx h=>HT x.1 h
end Go.Proofs.Ytjbdmibbbpdnnaa

namespace Go.Proofs.Ytjbdmibbbpdnnaa
open Go.RowKit
abbrev XP:Type:=PP×List (List Int)×List Int×(ByteArray->Option Int)×List Int×List Int×List (List Int)×Unit
noncomputable def Aa (p:PP):List (List Int):=(Fw p.2.2.1 (upto p.1.toNat)).1
noncomputable def Aj (p:PP):List Int:=(Fw p.2.2.1 (upto p.1.toNat)).2.1
def jK (e:XP):Prop:=Bz e.1=true/\e=Fu e.1
noncomputable def Ms (p:PP) (s:List Int):Int×Bool×Unit:=if s∈Aa p then ((List.idxOf s (Aa p):Nat),true,()) else (0,false,())
noncomputable def NC (e:Option XP) (s:List Int):Int×Bool×Unit:=match e with|some e=>Ms e.1 s|none=>(0,false,())
noncomputable abbrev Sa:Spec:=Dg (.pair (.optr c6) (.pair tL .unit)) (.pair tI (.pair .bool .unit)) true true (λx=>(∃e:XP,x.1=some e/\jK e)/\short x.2.1) (λx=>NC x.1 x.2.1)
noncomputable def Gi (p:PP):SS×Bool×Unit:=if Ba p=true then (Ai p.2.2.1 (upto p.1.toNat),Bz p,()) else (([],[],[],false,()),false,())
noncomputable abbrev Ks:Spec:=Dg (.pair Co .unit) (.pair Lt (.pair .bool .unit)) true false (λx=>Cn x.1) (λx=>Gi x.1)
noncomputable abbrev Vh:Spec:=Dg (.pair Co (.pair Lt (.pair tL .unit))) .bool false true (λx=>Cn x.1/\short x.2.2.1/\Ba x.1=true/\x.2.1=Ai x.1.2.2.1 (upto x.1.1.toNat)) (λx=>decide (x.2.2.1∈Aa x.1))
noncomputable abbrev kM:Spec:=Dg (.pair Co (.pair tL (.pair tL .unit))) .bool false true (λx=>Cn x.1/\short x.2.1/\short x.2.2.1) (λ_=>true)
abbrev FJ:Type:=(Int×ByteArray×List (List Int)×PUnit)×List (List Int)×List Int×(ByteArray->Option Int)×List Int×List Int×List (List Int)×PUnit
theorem Aai (e:Option (PP×List (List Int)×List Int×(ByteArray->Option Int)×List Int×List Int×List (List Int)×Unit)) (s:List Int) (P:(Int×Bool×Unit)->Prop):(∃(y3:FJ),e=some y3/\ ∃(y4:Bool),Sb.fn (y3.1,s,())=some y4/\Br (!y4) (P ((0:Int),false,())) (∃(y5:FJ),e=some y5/\ ∃(y6:ByteArray),En.fn (s,())=some y6/\P ((y5.2.2.2.1 y6).getD (Int.ofNat (nat_lit 0)),(y5.2.2.2.1 y6).isSome,())))=fnW Da (look [(141,Sb),(128,En)]) Sa Try.f98 (e,s,()) P:=by kernel_rfl
abbrev Cf:Type:=List (List Int)×List Int×List Int×Bool×PUnit
theorem CW (p:Int×ByteArray×List (List Int)×Unit) (P:((List (List Int)×List Int×List Int×Bool×Unit)×Bool×Unit)->Prop):(∃(y2:Bool),Ex.fn ((p.1,p.2.1,p.2.2.1,()),())=some y2/\Br (!y2) (P ((List.take 0 (List.drop 0 []),List.take 0 (List.drop 0 []),List.take 0 (List.drop 0 []),false,()),false,())) (((((∃(y3:List Int),Cj.fn (p.1,())=some y3/\(∃(y4:Cf),Ds.fn ((p.1,p.2.1,p.2.2.1,()),y3,())=some y4/\((P ((y4.1,y4.2.1,y4.2.2.1,y4.2.2.2.1,()),y4.2.2.2.1,())/\P ((y4.1,y4.2.1,y4.2.2.1,y4.2.2.2.1,()),y4.2.2.2.1,()))/\P ((y4.1,y4.2.1,y4.2.2.1,y4.2.2.2.1,()),y4.2.2.2.1,()))/\(P ((y4.1,y4.2.1,y4.2.2.1,y4.2.2.2.1,()),y4.2.2.2.1,())/\P ((y4.1,y4.2.1,y4.2.2.1,y4.2.2.2.1,()),y4.2.2.2.1,()))/\P ((y4.1,y4.2.1,y4.2.2.1,y4.2.2.2.1,()),y4.2.2.2.1,()))/\ ∃(y4:Cf),Ds.fn ((p.1,p.2.1,p.2.2.1,()),y3,())=some y4/\((P ((y4.1,y4.2.1,y4.2.2.1,y4.2.2.2.1,()),y4.2.2.2.1,())/\P ((y4.1,y4.2.1,y4.2.2.1,y4.2.2.2.1,()),y4.2.2.2.1,()))/\P ((y4.1,y4.2.1,y4.2.2.1,y4.2.2.2.1,()),y4.2.2.2.1,()))/\(P ((y4.1,y4.2.1,y4.2.2.1,y4.2.2.2.1,()),y4.2.2.2.1,())/\P ((y4.1,y4.2.1,y4.2.2.1,y4.2.2.2.1,()),y4.2.2.2.1,()))/\P ((y4.1,y4.2.1,y4.2.2.1,y4.2.2.2.1,()),y4.2.2.2.1,()))/\ ∃(y3:List Int),Cj.fn (p.1,())=some y3/\ ∃(y4:Cf),Ds.fn ((p.1,p.2.1,p.2.2.1,()),y3,())=some y4/\((P ((y4.1,y4.2.1,y4.2.2.1,y4.2.2.2.1,()),y4.2.2.2.1,())/\P ((y4.1,y4.2.1,y4.2.2.1,y4.2.2.2.1,()),y4.2.2.2.1,()))/\P ((y4.1,y4.2.1,y4.2.2.1,y4.2.2.2.1,()),y4.2.2.2.1,()))/\(P ((y4.1,y4.2.1,y4.2.2.1,y4.2.2.2.1,()),y4.2.2.2.1,())/\P ((y4.1,y4.2.1,y4.2.2.1,y4.2.2.2.1,()),y4.2.2.2.1,()))/\P ((y4.1,y4.2.1,y4.2.2.1,y4.2.2.2.1,()),y4.2.2.2.1,()))/\ ∃(y3:List Int),Cj.fn (p.1,())=some y3/\ ∃(y4:Cf),Ds.fn ((p.1,p.2.1,p.2.2.1,()),y3,())=some y4/\((P ((y4.1,y4.2.1,y4.2.2.1,y4.2.2.2.1,()),y4.2.2.2.1,())/\P ((y4.1,y4.2.1,y4.2.2.1,y4.2.2.2.1,()),y4.2.2.2.1,()))/\P ((y4.1,y4.2.1,y4.2.2.1,y4.2.2.2.1,()),y4.2.2.2.1,()))/\(P ((y4.1,y4.2.1,y4.2.2.1,y4.2.2.2.1,()),y4.2.2.2.1,())/\P ((y4.1,y4.2.1,y4.2.2.1,y4.2.2.2.1,()),y4.2.2.2.1,()))/\P ((y4.1,y4.2.1,y4.2.2.1,y4.2.2.2.1,()),y4.2.2.2.1,()))/\ ∃(y3:List Int),Cj.fn (p.1,())=some y3/\ ∃(y4:Cf),Ds.fn ((p.1,p.2.1,p.2.2.1,()),y3,())=some y4/\((P ((y4.1,y4.2.1,y4.2.2.1,y4.2.2.2.1,()),y4.2.2.2.1,())/\P ((y4.1,y4.2.1,y4.2.2.1,y4.2.2.2.1,()),y4.2.2.2.1,()))/\P ((y4.1,y4.2.1,y4.2.2.1,y4.2.2.2.1,()),y4.2.2.2.1,()))/\(P ((y4.1,y4.2.1,y4.2.2.1,y4.2.2.2.1,()),y4.2.2.2.1,())/\P ((y4.1,y4.2.1,y4.2.2.1,y4.2.2.2.1,()),y4.2.2.2.1,()))/\P ((y4.1,y4.2.1,y4.2.2.1,y4.2.2.2.1,()),y4.2.2.2.1,()))/\((((∃(y3:List Int),Cj.fn (p.1,())=some y3/\(∃(y4:Cf),Ds.fn ((p.1,p.2.1,p.2.2.1,()),y3,())=some y4/\((P ((y4.1,y4.2.1,y4.2.2.1,y4.2.2.2.1,()),y4.2.2.2.1,())/\P ((y4.1,y4.2.1,y4.2.2.1,y4.2.2.2.1,()),y4.2.2.2.1,()))/\P ((y4.1,y4.2.1,y4.2.2.1,y4.2.2.2.1,()),y4.2.2.2.1,()))/\(P ((y4.1,y4.2.1,y4.2.2.1,y4.2.2.2.1,()),y4.2.2.2.1,())/\P ((y4.1,y4.2.1,y4.2.2.1,y4.2.2.2.1,()),y4.2.2.2.1,()))/\P ((y4.1,y4.2.1,y4.2.2.1,y4.2.2.2.1,()),y4.2.2.2.1,()))/\ ∃(y4:Cf),Ds.fn ((p.1,p.2.1,p.2.2.1,()),y3,())=some y4/\((P ((y4.1,y4.2.1,y4.2.2.1,y4.2.2.2.1,()),y4.2.2.2.1,())/\P ((y4.1,y4.2.1,y4.2.2.1,y4.2.2.2.1,()),y4.2.2.2.1,()))/\P ((y4.1,y4.2.1,y4.2.2.1,y4.2.2.2.1,()),y4.2.2.2.1,()))/\(P ((y4.1,y4.2.1,y4.2.2.1,y4.2.2.2.1,()),y4.2.2.2.1,())/\P ((y4.1,y4.2.1,y4.2.2.1,y4.2.2.2.1,()),y4.2.2.2.1,()))/\P ((y4.1,y4.2.1,y4.2.2.1,y4.2.2.2.1,()),y4.2.2.2.1,()))/\ ∃(y3:List Int),Cj.fn (p.1,())=some y3/\ ∃(y4:Cf),Ds.fn ((p.1,p.2.1,p.2.2.1,()),y3,())=some y4/\((P ((y4.1,y4.2.1,y4.2.2.1,y4.2.2.2.1,()),y4.2.2.2.1,())/\P ((y4.1,y4.2.1,y4.2.2.1,y4.2.2.2.1,()),y4.2.2.2.1,()))/\P ((y4.1,y4.2.1,y4.2.2.1,y4.2.2.2.1,()),y4.2.2.2.1,()))/\(P ((y4.1,y4.2.1,y4.2.2.1,y4.2.2.2.1,()),y4.2.2.2.1,())/\P ((y4.1,y4.2.1,y4.2.2.1,y4.2.2.2.1,()),y4.2.2.2.1,()))/\P ((y4.1,y4.2.1,y4.2.2.1,y4.2.2.2.1,()),y4.2.2.2.1,()))/\ ∃(y3:List Int),Cj.fn (p.1,())=some y3/\ ∃(y4:Cf),Ds.fn ((p.1,p.2.1,p.2.2.1,()),y3,())=some y4/\((P ((y4.1,y4.2.1,y4.2.2.1,y4.2.2.2.1,()),y4.2.2.2.1,())/\P ((y4.1,y4.2.1,y4.2.2.1,y4.2.2.2.1,()),y4.2.2.2.1,()))/\P ((y4.1,y4.2.1,y4.2.2.1,y4.2.2.2.1,()),y4.2.2.2.1,()))/\(P ((y4.1,y4.2.1,y4.2.2.1,y4.2.2.2.1,()),y4.2.2.2.1,())/\P ((y4.1,y4.2.1,y4.2.2.1,y4.2.2.2.1,()),y4.2.2.2.1,()))/\P ((y4.1,y4.2.1,y4.2.2.1,y4.2.2.2.1,()),y4.2.2.2.1,()))/\(((∃(y3:List Int),Cj.fn (p.1,())=some y3/\(∃(y4:Cf),Ds.fn ((p.1,p.2.1,p.2.2.1,()),y3,())=some y4/\((P ((y4.1,y4.2.1,y4.2.2.1,y4.2.2.2.1,()),y4.2.2.2.1,())/\P ((y4.1,y4.2.1,y4.2.2.1,y4.2.2.2.1,()),y4.2.2.2.1,()))/\P ((y4.1,y4.2.1,y4.2.2.1,y4.2.2.2.1,()),y4.2.2.2.1,()))/\(P ((y4.1,y4.2.1,y4.2.2.1,y4.2.2.2.1,()),y4.2.2.2.1,())/\P ((y4.1,y4.2.1,y4.2.2.1,y4.2.2.2.1,()),y4.2.2.2.1,()))/\P ((y4.1,y4.2.1,y4.2.2.1,y4.2.2.2.1,()),y4.2.2.2.1,()))/\ ∃(y4:Cf),Ds.fn ((p.1,p.2.1,p.2.2.1,()),y3,())=some y4/\((P ((y4.1,y4.2.1,y4.2.2.1,y4.2.2.2.1,()),y4.2.2.2.1,())/\P ((y4.1,y4.2.1,y4.2.2.1,y4.2.2.2.1,()),y4.2.2.2.1,()))/\P ((y4.1,y4.2.1,y4.2.2.1,y4.2.2.2.1,()),y4.2.2.2.1,()))/\(P ((y4.1,y4.2.1,y4.2.2.1,y4.2.2.2.1,()),y4.2.2.2.1,())/\P ((y4.1,y4.2.1,y4.2.2.1,y4.2.2.2.1,()),y4.2.2.2.1,()))/\P ((y4.1,y4.2.1,y4.2.2.1,y4.2.2.2.1,()),y4.2.2.2.1,()))/\ ∃(y3:List Int),Cj.fn (p.1,())=some y3/\ ∃(y4:Cf),Ds.fn ((p.1,p.2.1,p.2.2.1,()),y3,())=some y4/\((P ((y4.1,y4.2.1,y4.2.2.1,y4.2.2.2.1,()),y4.2.2.2.1,())/\P ((y4.1,y4.2.1,y4.2.2.1,y4.2.2.2.1,()),y4.2.2.2.1,()))/\P ((y4.1,y4.2.1,y4.2.2.1,y4.2.2.2.1,()),y4.2.2.2.1,()))/\(P ((y4.1,y4.2.1,y4.2.2.1,y4.2.2.2.1,()),y4.2.2.2.1,())/\P ((y4.1,y4.2.1,y4.2.2.1,y4.2.2.2.1,()),y4.2.2.2.1,()))/\P ((y4.1,y4.2.1,y4.2.2.1,y4.2.2.2.1,()),y4.2.2.2.1,()))/\(∃(y3:List Int),Cj.fn (p.1,())=some y3/\((∃(y4:Cf),Ds.fn ((p.1,p.2.1,p.2.2.1,()),y3,())=some y4/\((P ((y4.1,y4.2.1,y4.2.2.1,y4.2.2.2.1,()),y4.2.2.2.1,())/\P ((y4.1,y4.2.1,y4.2.2.1,y4.2.2.2.1,()),y4.2.2.2.1,()))/\P ((y4.1,y4.2.1,y4.2.2.1,y4.2.2.2.1,()),y4.2.2.2.1,()))/\(P ((y4.1,y4.2.1,y4.2.2.1,y4.2.2.2.1,()),y4.2.2.2.1,())/\P ((y4.1,y4.2.1,y4.2.2.1,y4.2.2.2.1,()),y4.2.2.2.1,()))/\P ((y4.1,y4.2.1,y4.2.2.1,y4.2.2.2.1,()),y4.2.2.2.1,()))/\ ∃(y4:Cf),Ds.fn ((p.1,p.2.1,p.2.2.1,()),y3,())=some y4/\((P ((y4.1,y4.2.1,y4.2.2.1,y4.2.2.2.1,()),y4.2.2.2.1,())/\P ((y4.1,y4.2.1,y4.2.2.1,y4.2.2.2.1,()),y4.2.2.2.1,()))/\P ((y4.1,y4.2.1,y4.2.2.1,y4.2.2.2.1,()),y4.2.2.2.1,()))/\(P ((y4.1,y4.2.1,y4.2.2.1,y4.2.2.2.1,()),y4.2.2.2.1,())/\P ((y4.1,y4.2.1,y4.2.2.1,y4.2.2.2.1,()),y4.2.2.2.1,()))/\P ((y4.1,y4.2.1,y4.2.2.1,y4.2.2.2.1,()),y4.2.2.2.1,()))/\ ∃(y4:Cf),Ds.fn ((p.1,p.2.1,p.2.2.1,()),y3,())=some y4/\((P ((y4.1,y4.2.1,y4.2.2.1,y4.2.2.2.1,()),y4.2.2.2.1,())/\P ((y4.1,y4.2.1,y4.2.2.1,y4.2.2.2.1,()),y4.2.2.2.1,()))/\P ((y4.1,y4.2.1,y4.2.2.1,y4.2.2.2.1,()),y4.2.2.2.1,()))/\(P ((y4.1,y4.2.1,y4.2.2.1,y4.2.2.2.1,()),y4.2.2.2.1,())/\P ((y4.1,y4.2.1,y4.2.2.1,y4.2.2.2.1,()),y4.2.2.2.1,()))/\P ((y4.1,y4.2.1,y4.2.2.1,y4.2.2.2.1,()),y4.2.2.2.1,()))/\(∃(y3:List Int),Cj.fn (p.1,())=some y3/\ ∃(y4:Cf),Ds.fn ((p.1,p.2.1,p.2.2.1,()),y3,())=some y4/\((P ((y4.1,y4.2.1,y4.2.2.1,y4.2.2.2.1,()),y4.2.2.2.1,())/\P ((y4.1,y4.2.1,y4.2.2.1,y4.2.2.2.1,()),y4.2.2.2.1,()))/\P ((y4.1,y4.2.1,y4.2.2.1,y4.2.2.2.1,()),y4.2.2.2.1,()))/\(P ((y4.1,y4.2.1,y4.2.2.1,y4.2.2.2.1,()),y4.2.2.2.1,())/\P ((y4.1,y4.2.1,y4.2.2.1,y4.2.2.2.1,()),y4.2.2.2.1,()))/\P ((y4.1,y4.2.1,y4.2.2.1,y4.2.2.2.1,()),y4.2.2.2.1,()))/\ ∃(y3:List Int),Cj.fn (p.1,())=some y3/\ ∃(y4:Cf),Ds.fn ((p.1,p.2.1,p.2.2.1,()),y3,())=some y4/\((P ((y4.1,y4.2.1,y4.2.2.1,y4.2.2.2.1,()),y4.2.2.2.1,())/\P ((y4.1,y4.2.1,y4.2.2.1,y4.2.2.2.1,()),y4.2.2.2.1,()))/\P ((y4.1,y4.2.1,y4.2.2.1,y4.2.2.2.1,()),y4.2.2.2.1,()))/\(P ((y4.1,y4.2.1,y4.2.2.1,y4.2.2.2.1,()),y4.2.2.2.1,())/\P ((y4.1,y4.2.1,y4.2.2.1,y4.2.2.2.1,()),y4.2.2.2.1,()))/\P ((y4.1,y4.2.1,y4.2.2.1,y4.2.2.2.1,()),y4.2.2.2.1,()))/\(∃(y3:List Int),Cj.fn (p.1,())=some y3/\ ∃(y4:Cf),Ds.fn ((p.1,p.2.1,p.2.2.1,()),y3,())=some y4/\((P ((y4.1,y4.2.1,y4.2.2.1,y4.2.2.2.1,()),y4.2.2.2.1,())/\P ((y4.1,y4.2.1,y4.2.2.1,y4.2.2.2.1,()),y4.2.2.2.1,()))/\P ((y4.1,y4.2.1,y4.2.2.1,y4.2.2.2.1,()),y4.2.2.2.1,()))/\(P ((y4.1,y4.2.1,y4.2.2.1,y4.2.2.2.1,()),y4.2.2.2.1,())/\P ((y4.1,y4.2.1,y4.2.2.1,y4.2.2.2.1,()),y4.2.2.2.1,()))/\P ((y4.1,y4.2.1,y4.2.2.1,y4.2.2.2.1,()),y4.2.2.2.1,()))/\(∃(y3:List Int),Cj.fn (p.1,())=some y3/\ ∃(y4:Cf),Ds.fn ((p.1,p.2.1,p.2.2.1,()),y3,())=some y4/\((P ((y4.1,y4.2.1,y4.2.2.1,y4.2.2.2.1,()),y4.2.2.2.1,())/\P ((y4.1,y4.2.1,y4.2.2.1,y4.2.2.2.1,()),y4.2.2.2.1,()))/\P ((y4.1,y4.2.1,y4.2.2.1,y4.2.2.2.1,()),y4.2.2.2.1,()))/\(P ((y4.1,y4.2.1,y4.2.2.1,y4.2.2.2.1,()),y4.2.2.2.1,())/\P ((y4.1,y4.2.1,y4.2.2.1,y4.2.2.2.1,()),y4.2.2.2.1,()))/\P ((y4.1,y4.2.1,y4.2.2.1,y4.2.2.2.1,()),y4.2.2.2.1,()))/\ ∃(y3:List Int),Cj.fn (p.1,())=some y3/\ ∃(y4:Cf),Ds.fn ((p.1,p.2.1,p.2.2.1,()),y3,())=some y4/\((P ((y4.1,y4.2.1,y4.2.2.1,y4.2.2.2.1,()),y4.2.2.2.1,())/\P ((y4.1,y4.2.1,y4.2.2.1,y4.2.2.2.1,()),y4.2.2.2.1,()))/\P ((y4.1,y4.2.1,y4.2.2.1,y4.2.2.2.1,()),y4.2.2.2.1,()))/\(P ((y4.1,y4.2.1,y4.2.2.1,y4.2.2.2.1,()),y4.2.2.2.1,())/\P ((y4.1,y4.2.1,y4.2.2.1,y4.2.2.2.1,()),y4.2.2.2.1,()))/\P ((y4.1,y4.2.1,y4.2.2.1,y4.2.2.2.1,()),y4.2.2.2.1,()))/\(∃(y3:List Int),Cj.fn (p.1,())=some y3/\ ∃(y4:Cf),Ds.fn ((p.1,p.2.1,p.2.2.1,()),y3,())=some y4/\((P ((y4.1,y4.2.1,y4.2.2.1,y4.2.2.2.1,()),y4.2.2.2.1,())/\P ((y4.1,y4.2.1,y4.2.2.1,y4.2.2.2.1,()),y4.2.2.2.1,()))/\P ((y4.1,y4.2.1,y4.2.2.1,y4.2.2.2.1,()),y4.2.2.2.1,()))/\(P ((y4.1,y4.2.1,y4.2.2.1,y4.2.2.2.1,()),y4.2.2.2.1,())/\P ((y4.1,y4.2.1,y4.2.2.1,y4.2.2.2.1,()),y4.2.2.2.1,()))/\P ((y4.1,y4.2.1,y4.2.2.1,y4.2.2.2.1,()),y4.2.2.2.1,()))/\(∃(y3:List Int),Cj.fn (p.1,())=some y3/\ ∃(y4:Cf),Ds.fn ((p.1,p.2.1,p.2.2.1,()),y3,())=some y4/\((P ((y4.1,y4.2.1,y4.2.2.1,y4.2.2.2.1,()),y4.2.2.2.1,())/\P ((y4.1,y4.2.1,y4.2.2.1,y4.2.2.2.1,()),y4.2.2.2.1,()))/\P ((y4.1,y4.2.1,y4.2.2.1,y4.2.2.2.1,()),y4.2.2.2.1,()))/\(P ((y4.1,y4.2.1,y4.2.2.1,y4.2.2.2.1,()),y4.2.2.2.1,())/\P ((y4.1,y4.2.1,y4.2.2.1,y4.2.2.2.1,()),y4.2.2.2.1,()))/\P ((y4.1,y4.2.1,y4.2.2.1,y4.2.2.2.1,()),y4.2.2.2.1,()))/\(∃(y3:List Int),Cj.fn (p.1,())=some y3/\ ∃(y4:Cf),Ds.fn ((p.1,p.2.1,p.2.2.1,()),y3,())=some y4/\((P ((y4.1,y4.2.1,y4.2.2.1,y4.2.2.2.1,()),y4.2.2.2.1,())/\P ((y4.1,y4.2.1,y4.2.2.1,y4.2.2.2.1,()),y4.2.2.2.1,()))/\P ((y4.1,y4.2.1,y4.2.2.1,y4.2.2.2.1,()),y4.2.2.2.1,()))/\(P ((y4.1,y4.2.1,y4.2.2.1,y4.2.2.2.1,()),y4.2.2.2.1,())/\P ((y4.1,y4.2.1,y4.2.2.1,y4.2.2.2.1,()),y4.2.2.2.1,()))/\P ((y4.1,y4.2.1,y4.2.2.1,y4.2.2.2.1,()),y4.2.2.2.1,()))/\ ∃(y3:List Int),Cj.fn (p.1,())=some y3/\ ∃(y4:Cf),Ds.fn ((p.1,p.2.1,p.2.2.1,()),y3,())=some y4/\((P ((y4.1,y4.2.1,y4.2.2.1,y4.2.2.2.1,()),y4.2.2.2.1,())/\P ((y4.1,y4.2.1,y4.2.2.1,y4.2.2.2.1,()),y4.2.2.2.1,()))/\P ((y4.1,y4.2.1,y4.2.2.1,y4.2.2.2.1,()),y4.2.2.2.1,()))/\(P ((y4.1,y4.2.1,y4.2.2.1,y4.2.2.2.1,()),y4.2.2.2.1,())/\P ((y4.1,y4.2.1,y4.2.2.1,y4.2.2.2.1,()),y4.2.2.2.1,()))/\P ((y4.1,y4.2.1,y4.2.2.1,y4.2.2.2.1,()),y4.2.2.2.1,())))=fnW Da (look [(110,Ex),(124,Cj),(112,Ds)]) Ks Try.f75 (p,()) P:=by kernel_rfl
theorem JM (p:Int×ByteArray×List (List Int)×Unit) (f:List (List Int)×List Int×List Int×Bool×Unit) (s:List Int) (P:Bool->Prop):(∃(y4:Bool),Vk.fn ((p.1,p.2.1,p.2.2.1,()),s,())=some y4/\Br y4 (∃(y5:Int),Em.fn ((f.1,f.2.1,f.2.2.1,f.2.2.2.1,()),s,())=some y5/\P (decide (y5>=(0:Int)))) (P false))=fnW Da (look [(103,Vk),(54,Em)]) Vh Try.f53 (p,f,s,()) P:=by kernel_rfl
theorem GV {p:List Int} (h:Vo p):Ge p=true:=by
 refine Dz.2 ⟨h.pos,h.len,λj h1 h2=>?_⟩
 have:=h.row _ (List.getElem_mem h2)
 exact ⟨by omega,by omega,λhm=>by
  obtain ⟨i,hi,e⟩:=List.mem_iff_getElem.1 hm
  have cX:i<j:=by rw [List.length_take] at hi;omega
  rw [List.getElem_take] at e
  exact (List.pairwise_iff_getElem.1 h.nodup i j (by omega) h2 cX) e⟩
theorem Bt {p:PP} (hw:Bz p=true):Ba p=true/\(Fw p.2.2.1 (upto p.1.toNat)).2.2=true:=Bool.and_eq_true_iff.1 hw
theorem sy {p:PP} (hw:Bz p=true):Reach p (Aa p) (Aj p) true:=by
 have h:=Wm (Bt hw).1
 rw [(Bt hw).2] at h
 exact h
theorem Yu {p:PP} (hv:Ba p=true):Qy p p.1.toNat (Aa p) (Aj p):=(Wm hv).ok
theorem LF {p:PP} (hV:Valid p):DB p.1.toNat λg=>some g∈p.2.2.1.map some:=
 ⟨by have:=hV.n;omega,λg aq=>by obtain ⟨g',e,h⟩:=oK (iw hV).2.2 _ aq;cases e;exact h⟩
theorem dV {p:PP} (hv:Ba p=true) {x:List Int} (hx:x∈Aa p):Pm p.1.toNat x:=Yy.pm (LF (valid hv)) ((Wm hv).gen x hx)
theorem Aa0 {p:PP} (hV:Valid p) {x:List Int} (h:Pm p.1.toNat x):Eo p.1 x=true:=by
 have:=hV.n
 have:=h.1
 exact Dz.2 ⟨by omega,GV h.2⟩
theorem LD {p:PP} (_hV:Valid p) {x:List Int} (h:Eo p.1 x=true):Pm p.1.toNat x:=by
 obtain ⟨h1,h2⟩:=Dz.1 h
 exact ⟨by omega,du h2⟩
theorem OQ {p:PP} (hv:Ba p=true) {x:List Int} (hx:x∈Aa p):Eo p.1 x=true:=Aa0 (valid hv) (dV hv hx)
theorem TM {p:PP} (hv:Ba p=true) {x:List Int} (hx:x∈Aa p):Qz x:= λy hy=>by
 have h1:=(Yu hv).row x hx y hy
 have:=(valid hv).n
 omega
theorem TH {n:Nat} {x:List Int} (h:Pm n x):Qz x:= λy hy=>by
 have h1:=h.row y hy
 have:=h.n2
 omega
theorem oJ {n:Nat} {x:List Int} (h:Pm n x):short x:=by
 have h1:=h.1
 have:=h.n2
 unfold short;omega
theorem er {p:PP} (hw:Bz p=true):(Fu p).2.1=Aa p/\(Fu p).2.2.1=Aj p:=by
 have h:=(Bt hw).2
 refine wF 3001 0 ([upto p.1.toNat],[0],[0],[0]) [] _ _ ?_
 show Gw p.2.2.1 (Ae p.2.2.1.length) 3001 0 [upto p.1.toNat] [0]=(Aa p,Aj p,true)
 rw [<-h]
 rfl
theorem RJ {p:PP} (hw:Bz p=true) {s:List Int} (hs:Qz s):(Fu p).2.2.2.1 (Nc s)=if s∈Aa p then some (((Aa p).idxOf s:Nat):Int) else none:=by
 show Sv (Fu p).2.1 (Nc s)=_
 rw [(er hw).1,rM hs λy hy=>TM (Bt hw).1 hy]
theorem ZN (e:Option XP) (s:List Int) (h:(∃e':XP,e=some e'/\jK e')/\short s):fnW Da (look [(141,Sb),(128,En)]) Sa Try.f98 (e,s,()) (λ(z:Int×Bool×Unit)=>z=NC e s):=by
 obtain ⟨⟨e',rfl,h1,h2⟩,hs⟩:=h
 have hv:=(Bt h1).1
 refine Eq.mp (Aai (some e') s _) ⟨e',rfl,_,if_pos hs,Br.of (λhb=>?_) λhb=>⟨e',rfl,_,if_pos hs,?_⟩⟩
 ·have hb:=Cs hb
  show (0,false,())=Ms e'.1 s
  unfold Ms
  rw [if_neg λhm=>hb (OQ hv hm)]
 ·have hb:Eo e'.1.1 s=true:=by simpa using hb
  have hp:=LD (valid hv) hb
  dsimp only
  have e3:e'.2.2.2.1=(Fu e'.1).2.2.2.1:=by rw [<-h2]
  rw [e3,RJ h1 (TH hp)]
  show _=Ms e'.1 s
  unfold Ms
  split<;>rfl
theorem gW:Sound Try.prog 98 Sa:=
 Sound.Dg Cg (Ah gX (Ah dR As)) mixed Try.func98 (by kernel_rfl) (by kernel_rfl) λx h=>ZN x.1 x.2.1 h
theorem AY (p:PP) (h:Cn p):fnW Da (look [(110,Ex),(124,Cj),(112,Ds)]) Ks Try.f75 (p,()) (λ(z:SS×Bool×Unit)=>z=Gi p):=by
 refine Eq.mp (CW p _) ⟨_,if_pos h,?_⟩
 show Br (!Ba p) _ _
 unfold Gi
 by_cases hv:Ba p=true
 ·rw [if_pos hv,hv]
  refine ⟨λhb=>by simp at hb,λ_=>?_⟩
  have hn:=(valid hv).n
  have hid:Cj.fn (p.1,())=some (upto p.1.toNat):=if_pos ⟨by show 0<=p.1;omega,by show p.1<=20;omega⟩
  have VY: ∀y∈upto p.1.toNat,0<=y/\y<p.1:= λy hy=>by have:=Jf.1 hy;omega
  have wV:Ds.fn ((p.1,p.2.1,p.2.2.1,()),upto p.1.toNat,())=some (Ai p.2.2.1 (upto p.1.toNat)):=if_pos ⟨hv,by show (upto p.1.toNat).length<=20;rw [Qs];omega,VY⟩
  have hz:(((Ai p.2.2.1 (upto p.1.toNat)).1,(Ai p.2.2.1 (upto p.1.toNat)).2.1,(Ai p.2.2.1 (upto p.1.toNat)).2.2.1,(Ai p.2.2.1 (upto p.1.toNat)).2.2.2.1,()),(Ai p.2.2.1 (upto p.1.toNat)).2.2.2.1,())=(Ai p.2.2.1 (upto p.1.toNat),Bz p,()):=by
   unfold Bz
   rw [hv,Bool.true_and]
   rfl
  repeat' (first|exact hz|refine ⟨_,hid,?_⟩|refine ⟨_,wV,?_⟩|refine ⟨?_,?_⟩)
 ·rw [if_neg hv]
  refine ⟨λ_=>rfl,λhb=>?_⟩
  exact absurd (by simpa using hb) hv
theorem pf:Sound Try.prog 75 Ks:=
 Sound.Dg Cg (Ah Sk (Ah p6 (Ah ym As))) mixed Try.func75 (by kernel_rfl) (by kernel_rfl) λx h=>AY x.1 h
theorem HU (p:PP) (f:SS) (s:List Int) (h:Cn p/\short s/\Ba p=true/\f=Ai p.2.2.1 (upto p.1.toNat)):fnW Da (look [(103,Vk),(54,Em)]) Vh Try.f53 (p,f,s,()) (λ(z:Bool)=>z=decide (s∈Aa p)):=by
 obtain ⟨hp,hs,hv,rfl⟩:=h
 refine Eq.mp (JM p _ s _) ⟨_,if_pos ⟨hp,hs⟩,?_⟩
 show Br (Ba p&&Eo p.1 s) _ _
 rw [hv,Bool.true_and]
 refine Br.of (λhb=>?_) λhb=>?_
 ·have QQ:=LD (valid hv) hb
  refine ⟨_,if_pos (by show Cx s.length (Aa p) (Ts (Aa p));rw [QQ.1];exact (Yu hv).ok),?_⟩
  show decide (Qf (Aa p) s>=0)=_
  unfold Qf
  split
  ·rename_i hm
   rw [decide_eq_true hm]
   exact decide_eq_true (by omega)
  ·rename_i hm
   rw [decide_eq_false hm]
   rfl
 ·exact (decide_eq_false λhm=>by rw [OQ hv hm] at hb;cases hb).symm
theorem qI:Sound Try.prog 53 Vh:=
 Sound.Dg Cg (Ah jv (Ah Qp As)) mixed Try.func53 (by kernel_rfl) (by kernel_rfl) λx h=>HU x.1 x.2.1 x.2.2.1 h
theorem dW {p:PP} (hv:Ba p=true):(Aa p).length<=3000:=(Yu hv).ok.cn
theorem pk {p:PP} (hp:Cn p) (hw:Bz p=true):Ks.fn ((p.1,p.2.1,p.2.2.1,()),())=some (Ai p.2.2.1 (upto p.1.toNat),true,()):=
 (if_pos hp).trans (congrArg some ((if_pos (Bt hw).1).trans (by rw [<-hw])))
end Go.Proofs.Ytjbdmibbbpdnnaa

namespace Go.Proofs.Ytjbdmibbbpdnnaa
open Go.RowKit
def Fl (g:List (List Int)) (s w:List Int):List Int:=w.foldl (λq l=>Ab q (Af g l)) s
theorem HC {p:PP} (hV:Valid p) {l:Int} (hl:Dh (List.length p.2.2.1) l):Pm p.1.toNat (Af p.2.2.1 l):=by
 have hn:=hV.n
 obtain ⟨k,hk,Hx⟩:=Mr hl
 have hp:Pm p.1.toNat (p.2.2.1[k]):=⟨by have:=hV.len _ (List.getElem_mem hk);omega,du (hV.perm _ (List.getElem_mem hk))⟩
 rcases Hx with rfl|rfl
 ·rw [Me hk];exact hp
 ·rw [Md hk];exact hp.inv
theorem w7 {p:PP} (hV:Valid p): ∀(w s:List Int),(∀l∈w,Dh (List.length p.2.2.1) l)->Pm p.1.toNat s->Pm p.1.toNat (Fl p.2.2.1 s w)
 | [],s,_,hs=>hs
 |l::w,s,hl,hs=>by
  have h1:=HC hV (hl l (by simp))
  exact w7 hV w _ (λl' h=>hl l' (List.mem_cons_of_mem _ h)) (hs.comp h1)
theorem ze {g:List (List Int)} {s w:List Int} {j:Nat} (h:j<w.length):Fl g s (w.take (j+1))=Ab (Fl g s (w.take j)) (Af g w[j]):=by
 unfold Fl
 rw [List.take_add_one,List.getElem?_eq_getElem h,Option.toList_some,List.foldl_append]
 rfl
theorem OC {n:Nat} {q:List Int} (h:Pm n q):q.length<=20:=by have:=h.1;have:=h.n2;omega
theorem xW {p:PP} (hV:Valid p) {q:List Int} (h:Pm p.1.toNat q): ∀y∈q,0<=y/\y<p.1:= λy hy=>by
 have:=h.row y hy
 have:=hV.n
 omega
end Go.Proofs.Ytjbdmibbbpdnnaa
