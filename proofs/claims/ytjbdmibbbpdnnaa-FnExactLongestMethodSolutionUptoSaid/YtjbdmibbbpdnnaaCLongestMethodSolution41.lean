/-
  Part 42 of the proof that the statement FnExactLongestMethodSolution holds.
-/
import Derived.Test.YtjbdmibbbpdnnaaCLongestMethodSolution40
namespace Go.Proofs.Ytjbdmibbbpdnnaa
open Go.RowKit
def ap (p:List Int) (i:Nat):Nat:=(Cc p (i:Int)).toNat
def Pm (n:Nat) (p:List Int):Prop:=p.length=n/\Wo p
theorem Pm.n1 {n:Nat} {p:List Int} (h:Pm n p):1<=n:=h.1▸h.2.pos
theorem Pm.n2 {n:Nat} {p:List Int} (h:Pm n p):n<=20:=h.1▸h.2.len
theorem Pm.Qu {n:Nat} {p:List Int} (h:Pm n p) {i:Nat} (hi:i<n):Cc p (i:Int)=(ap p i:Int)/\ap p i<n:=by
 have gM:i<p.length:=by rw [h.1];exact hi
 have:=h.2.row _ (List.getElem_mem gM)
 unfold ap
 rw [Ih gM]
 have h1:=h.1
 omega
theorem Pm.lt {n:Nat} {p:List Int} (h:Pm n p) {i:Nat} (hi:i<n):ap p i<n:=(h.Qu hi).2
theorem Pm.ext {n:Nat} {p q:List Int} (h:Pm n p) (k:Pm n q) (e: ∀i,i<n->ap p i=ap q i):p=q:=by
 refine List.ext_getElem (by rw [h.1,k.1]) λi h1 h2=>?_
 have hi:i<n:=by rw [<-h.1];exact h1
 have a:=(h.Qu hi).1
 have b:=(k.Qu hi).1
 rw [Ih h1] at a
 rw [Ih h2] at b
 rw [a,b,e i hi]
theorem Pm.inj {n:Nat} {p:List Int} (h:Pm n p) {i j:Nat} (hi:i<n) (hj:j<n) (e:ap p i=ap p j):i=j:=
 h.2.inj i j (by rw [h.1];exact hi) (by rw [h.1];exact hj) e
theorem Pm.JL {n:Nat} {p:List Int} (h:Pm n p) {k:Nat} (hk:k<n): ∃i,i<n/\ap p i=k:=by
 obtain ⟨i,h1,h2⟩:=h.2.JL k (by rw [h.1];exact hk)
 exact ⟨i,by rw [<-h.1];exact h1,h2⟩
theorem Pm.of {n:Nat} {p:List Int} (hl:p.length=n) (h1:1<=n) (h2:n<=20) (f:Nat->Nat) (hf: ∀i,i<n->p[i]?=some (f i:Int)/\f i<n) (hi: ∀i j,i<n->j<n->f i=f j->i=j):Pm n p:=by
 refine ⟨hl,by omega,by omega,λy hy=>?_,?_⟩
 ·obtain ⟨i,hi,rfl⟩:=List.mem_iff_getElem.1 hy
  obtain ⟨h3,h4⟩:=hf i (by omega)
  rw [List.getElem?_eq_getElem hi] at h3
  rw [Option.some.inj h3]
  omega
 ·refine List.pairwise_iff_getElem.2 λi j h3 h4 h5 h6=>?_
  have a:=(hf i (by omega)).1
  have b:=(hf j (by omega)).1
  rw [List.getElem?_eq_getElem h3] at a
  rw [List.getElem?_eq_getElem h4] at b
  rw [Option.some.inj a,Option.some.inj b] at h6
  have:=hi i j (by omega) (by omega) (by omega)
  omega
theorem uv {n:Nat} {p q:List Int} (hp:Pm n p) (hq:Pm n q) {i:Nat} (hi:i<n):(Aa p q)[i]?=some (ap q (ap p i):Int):=by
 have h1:i<p.length:=by rw [hp.1];exact hi
 unfold Aa
 rw [List.getElem?_map,List.getElem?_eq_getElem h1]
 have a:=(hp.Qu hi).1
 rw [Ih h1] at a
 simp only [Option.map_some,a]
 rw [(hq.Qu (hp.Qu hi).2).1]
theorem Pm.comp {n:Nat} {p q:List Int} (hp:Pm n p) (hq:Pm n q):Pm n (Aa p q):=
 Pm.of (by rw [No,hp.1]) hp.n1 hp.n2 (λi=>ap q (ap p i)) (λi hi=>⟨uv hp hq hi,hq.lt (hp.lt hi)⟩) λi j hi hj e=>hp.inj hi hj (hq.inj (hp.lt hi) (hp.lt hj) e)
theorem GR {p:List Int} {i k:Nat} (h:p[i]?=some (k:Int)):ap p i=k:=by
 unfold ap Cc
 rw [Int.toNat_natCast,List.getD_eq_getElem?_getD,h]
 simp
theorem Ft {n:Nat} {p q:List Int} (hp:Pm n p) (hq:Pm n q) {i:Nat} (hi:i<n):ap (Aa p q) i=ap q (ap p i):=GR (uv hp hq hi)
theorem o5 {n i:Nat} (hi:i<n):(upto n)[i]?=some (i:Int):=by simp [upto,hi]
theorem dS {n i:Nat} (hi:i<n):ap (upto n) i=i:=GR (o5 hi)
theorem Pm.id {n:Nat} (h1:1<=n) (h2:n<=20):Pm n (upto n):=Pm.of (by simp [upto]) h1 h2 (λi=>i) (λi hi=>⟨o5 hi,hi⟩) λ_ _ _ _ e=>e
theorem AP {n:Nat} {p:List Int} (hp:Pm n p) {i:Nat} (hi:i<n):(An p)[ap p i]?=some (i:Int):=IT hp.2 (by rw [hp.1];exact hi)
theorem df {n:Nat} {p:List Int} (hp:Pm n p) {i:Nat} (hi:i<n):ap (An p) (ap p i)=i:=GR (AP hp hi)
theorem r8 {n:Nat} {p:List Int} (hp:Pm n p) {k:Nat} (hk:k<n):ap p (ap (An p) k)=k:=by
 obtain ⟨i,hi,rfl⟩:=hp.JL hk
 rw [df hp hi]
theorem Pm.inv {n:Nat} {p:List Int} (hp:Pm n p):Pm n (An p):=by
 refine Pm.of (by rw [lv,hp.1]) hp.n1 hp.n2 (λk=>ap (An p) k) (λk hk=>?_) λi j hi hj e=>?_
 ·obtain ⟨i,hi,rfl⟩:=hp.JL hk
  rw [df hp hi]
  exact ⟨AP hp hi,hi⟩
 ·rw [<-r8 hp hi,<-r8 hp hj,e]
theorem Eb {n:Nat} {p q r:List Int} (hp:Pm n p) (hq:Pm n q) (hr:Pm n r):Aa (Aa p q) r=Aa p (Aa q r):=
 ((hp.comp hq).comp hr).ext (hp.comp (hq.comp hr)) λi hi=>by rw [Ft (hp.comp hq) hr hi,Ft hp hq hi,Ft hp (hq.comp hr) hi,Ft hq hr (hp.lt hi)]
theorem comp_id {n:Nat} {p:List Int} (hp:Pm n p):Aa p (upto n)=p:=
 (hp.comp (Pm.id hp.n1 hp.n2)).ext hp λi hi=>by rw [Ft hp (Pm.id hp.n1 hp.n2) hi,dS (hp.lt hi)]
theorem id_comp {n:Nat} {p:List Int} (hp:Pm n p):Aa (upto n) p=p:=
 ((Pm.id hp.n1 hp.n2).comp hp).ext hp λi hi=>by rw [Ft (Pm.id hp.n1 hp.n2) hp hi,dS hi]
theorem bJ {n:Nat} {p:List Int} (hp:Pm n p):Aa p (An p)=upto n:=
 (hp.comp hp.inv).ext (Pm.id hp.n1 hp.n2) λi hi=>by rw [Ft hp hp.inv hi,df hp hi,dS hi]
theorem Uo {n:Nat} {p:List Int} (hp:Pm n p):Aa (An p) p=upto n:=
 (hp.inv.comp hp).ext (Pm.id hp.n1 hp.n2) λi hi=>by rw [Ft hp.inv hp hi,r8 hp hi,dS hi]
theorem my {n:Nat} {p q:List Int} (hp:Pm n p) (hq:Pm n q) (h:Aa p q=upto n):An p=q:=by
 rw [<-comp_id hp.inv,<-h,<-Eb hp.inv hp hq,Uo hp,id_comp hq]
theorem inv_mul {n:Nat} {p q:List Int} (hp:Pm n p) (hq:Pm n q):An (Aa p q)=Aa (An q) (An p):=
 my (hp.comp hq) (hq.inv.comp hp.inv) (by
  rw [Eb hp hq (hq.inv.comp hp.inv),<-Eb hq hq.inv hp.inv,bJ hq,id_comp hp.inv,bJ hp])
theorem inv_inv {n:Nat} {p:List Int} (hp:Pm n p):An (An p)=p:=my hp.inv hp (Uo hp)
theorem IU {n:Nat} (h1:1<=n) (h2:n<=20):An (upto n)=upto n:=my (Pm.id h1 h2) (Pm.id h1 h2) (comp_id (Pm.id h1 h2))
inductive Xf (n:Nat) (S:List Int->Prop):List Int->Prop where
 |id:Xf n S (upto n)
 |mul {p g:List Int} :Xf n S p->S g->Xf n S (Aa p g)
 |inv {p g:List Int} :Xf n S p->S g->Xf n S (Aa p (An g))
def zA (n:Nat) (S:List Int->Prop):Prop:=(1<=n/\n<=20)/\ ∀g,S g->Pm n g
theorem Xf.pm {n:Nat} {S:List Int->Prop} (hS:zA n S) {p:List Int} (h:Xf n S p):Pm n p:=by
 induction h with
 |id=>exact Pm.id hS.1.1 hS.1.2
 |mul _ hg ih=>exact ih.comp (hS.2 _ hg)
 |inv _ hg ih=>exact ih.comp (hS.2 _ hg).inv
theorem Xf.comp {n:Nat} {S:List Int->Prop} (hS:zA n S) {p q:List Int} (hp:Xf n S p) (hq:Xf n S q):Xf n S (Aa p q):=by
 induction hq with
 |id=>rw [comp_id (hp.pm hS)];exact hp
 |mul hq hg ih=>rw [<-Eb (hp.pm hS) (hq.pm hS) (hS.2 _ hg)];exact .mul ih hg
 |inv hq hg ih=>rw [<-Eb (hp.pm hS) (hq.pm hS) (hS.2 _ hg).inv];exact .inv ih hg
theorem Xf.one {n:Nat} {S:List Int->Prop} (hS:zA n S) {g:List Int} (hg:S g):Xf n S g:=by
 have:=Xf.mul (n:=n) (S:=S) .id hg
 rwa [id_comp (hS.2 g hg)] at this
theorem Xf.VA {n:Nat} {S:List Int->Prop} (hS:zA n S) {g:List Int} (hg:S g):Xf n S (An g):=by
 have:=Xf.inv (n:=n) (S:=S) .id hg
 rwa [id_comp (hS.2 g hg).inv] at this
theorem Xf.rW {n:Nat} {S:List Int->Prop} (hS:zA n S) {p:List Int} (hp:Xf n S p):Xf n S (An p):=by
 induction hp with
 |id=>rw [IU hS.1.1 hS.1.2];exact .id
 |mul hq hg ih=>rw [inv_mul (hq.pm hS) (hS.2 _ hg)];exact (Xf.VA hS hg).comp hS ih
 |inv hq hg ih=>rw [inv_mul (hq.pm hS) (hS.2 _ hg).inv,inv_inv (hS.2 _ hg)];exact (Xf.one hS hg).comp hS ih
theorem Xf.trans {n:Nat} {S S':List Int->Prop} (YH:zA n S') (h: ∀g,S g->Xf n S' g) {p:List Int} (hp:Xf n S p):Xf n S' p:=by
 induction hp with
 |id=>exact .id
 |mul _ hg ih=>exact ih.comp YH (h _ hg)
 |inv _ hg ih=>exact ih.comp YH ((h _ hg).rW YH)
abbrev PO:=Option (List Int)
abbrev Row:=List PO
abbrev Cz:=List Row
def Hz (row:Row):List Int:=(upto row.length).filter λy=>(row.getD y.toNat none).isSome
def Ja (T:Cz):Nat->Nat->List Int->Bool
 |0,_,_=>true
 |k+1,i,p=>match (T.getD i []).getD (Cc p (i:Int)).toNat none with
  |none=>false
  |some t=>Ja T k (i+1) (Aa p (An t))
def Ll (row:Row):Nat:=row.countP (·.isNone)
def Su (x:Int) (s:Row×List Int) (o:PO):Row×List Int:=
 match s.1.getD (Cc (o.getD []) x).toNat none with
 |some _=>s
 |none=>(s.1.set (Cc (o.getD []) x).toNat (some (Aa ((s.1.getD x.toNat none).getD []) (o.getD []))),s.2++ [Cc (o.getD []) x])
def Sk (x:Int) (gs:List PO) (s:Row×List Int):Row×List Int:=gs.foldl (Su x) s
def Sd (gs:List PO):Nat->List Int->Row->Row
 |0,_,row=>row
 |_+1,[],row=>row
 |f+1,x::q,row=>Sd gs f (Sk x gs (row,q)).2 (Sk x gs (row,q)).1
def Ra (gs:List PO) (row:Row):Row:=Sd gs 100 (Hz row) row
def Mu (row:Row) (y:Int) (g:PO):List Int:=
 Aa (Aa ((row.getD y.toNat none).getD []) (g.getD [])) (An ((row.getD (Cc (g.getD []) y).toNat none).getD []))
def aR (row:Row) (gs:List PO):List (List Int):=(Hz row).flatMap λy=>gs.map λg=>Mu row y g
def Dr:Nat->Nat->List Int->Cz×Cz->Cz×Cz
 |0,_,_,s=>s
 |k+1,l,p,s=>
  if Ja s.2 (k+1) l p=true then s else
   (aR (Ra (s.1.getD l []++ [some p]) (s.2.getD l [])) (s.1.getD l []++ [some p])).foldl (λs q=>Dr k (l+1) q s)
    (s.1.set l (s.1.getD l []++ [some p]),s.2.set l (Ra (s.1.getD l []++ [some p]) (s.2.getD l [])))
def Fx (l:Nat) (p:List Int):Prop:= ∀i,i<l->ap p i=i
def Gn (n:Nat) (gs:List PO):List Int->Prop:=Xf n λg=>some g∈gs
structure MK (n l:Nat) (gs:List PO) (row:Row) (H:List Int->Prop):Prop where
 pg: ∀o∈gs,∃g,o=some g/\Pm n g/\Fx l g
 rl:row.length=n
 r0:row.getD l none=some (upto n)
 rt: ∀y t,row.getD y none=some t->Pm n t/\Fx l t/\ap t l=y/\Gn n gs t
 cl: ∀y t g,row.getD y none=some t->some g∈gs->row.getD (ap g y) none≠none
 sg: ∀y t g t',row.getD y none=some t->some g∈gs->row.getD (ap g y) none=some t'->H (Aa (Aa t g) (An t'))
def eR (n:Nat):Nat->Nat->Cz×Cz->Prop
 |0,l,s=>s.1.getD l []= []
 |k+1,l,s=>eR n k (l+1) s/\MK n l (s.1.getD l []) (s.2.getD l []) (λq=>Ja s.2 k (l+1) q=true)/\ ∀g,some g∈s.1.getD (l+1) []->Gn n (s.1.getD l []) g
theorem PK {l1 l2:List Nat} (hn:l1.Nodup) (hs: ∀x∈l1,x∈l2) (hl:l2.length<=l1.length): ∀x∈l2,x∈l1:=by
 induction l1 generalizing l2 with
 |nil=>
  intro x hx
  have:l2= []:=List.eq_nil_of_length_eq_zero (by simpa using hl)
  rw [this] at hx;cases hx
 |cons a l ih=>
  intro x hx
  obtain ⟨h1,h2⟩:=List.nodup_cons.1 hn
  have ha:=hs a (by simp)
  by_cases e:x=a
  ·subst e;simp
  ·refine List.mem_cons_of_mem _ (ih (l2:=l2.erase a) h2 (λy hy=>?_) ?_ x ((List.mem_erase_of_ne e).2 hx))
   ·have hya:y≠a:= λe'=>h1 (by rw [<-e'];exact hy)
    exact (List.mem_erase_of_ne hya).2 (hs y (by simp [hy]))
   ·rw [List.length_erase_of_mem ha]
    simp only [List.length_cons] at hl
    omega
theorem yz {n:Nat} {g:List Int} (hg:Pm n g) (D:Nat->Bool) (h: ∀y,y<n->D y=true->D (ap g y)=true) {y:Nat} (hy:y<n) (hD:D y=true): ∃x,x<n/\D x=true/\ap g x=y:=by
 have:=PK (l1:=((List.range n).filter D).map (ap g)) (l2:=(List.range n).filter D) ?_ ?_ (by simp) y (List.mem_filter.2 ⟨List.mem_range.2 hy,hD⟩)
 ·obtain ⟨x,hx,e⟩:=List.mem_map.1 this
  obtain ⟨h1,h2⟩:=List.mem_filter.1 hx
  exact ⟨x,List.mem_range.1 h1,h2,e⟩
 ·refine List.pairwise_map.2 (List.Pairwise.imp_of_mem ?_ (List.nodup_range.filter D))
  intro a b ha hb Er e
  exact Er (hg.inj (List.mem_range.1 (List.mem_filter.1 ha).1) (List.mem_range.1 (List.mem_filter.1 hb).1) e)
 ·intro x hx
  obtain ⟨z,hz,rfl⟩:=List.mem_map.1 hx
  obtain ⟨h1,h2⟩:=List.mem_filter.1 hz
  exact List.mem_filter.2 ⟨List.mem_range.2 (hg.lt (List.mem_range.1 h1)),h z (List.mem_range.1 h1) h2⟩
theorem lk {row:Row} {y:Nat} {t:List Int} (h:row.getD y none=some t):y<row.length:=by
 rw [List.getD_eq_getElem?_getD] at h
 refine Classical.byContradiction λhn=>?_
 rw [List.getElem?_eq_none (by omega)] at h
 cases h
theorem MK.pms {n l:Nat} {gs:List PO} {row:Row} {H:List Int->Prop} (h:MK n l gs row H):zA n λg=>some g∈gs:=by
 refine ⟨?_,λg hg=>?_⟩
 ·have:=(h.rt l _ h.r0).1
  exact ⟨this.n1,this.n2⟩
 ·obtain ⟨g',e,h1,_⟩:=h.pg _ hg
  cases e;exact h1
theorem Fx.inv {n l:Nat} {p:List Int} (hp:Pm n p) (h:Fx l p) (hl:l<=n):Fx l (An p):= λi hi=>by
 have:=df hp (i:=i) (by omega)
 rwa [h i hi] at this
theorem Fx.comp {n l:Nat} {p q:List Int} (hp:Pm n p) (hq:Pm n q) (h1:Fx l p) (h2:Fx l q) (hl:l<=n):Fx l (Aa p q):= λi hi=>by
 rw [Ft hp hq (by omega),h1 i hi,h2 i hi]
theorem Fx.all {n:Nat} {p:List Int} (hp:Pm n p) (h:Fx n p):p=upto n:=hp.ext (Pm.id hp.n1 hp.n2) λi hi=>by rw [h i hi,dS hi]
theorem Fx.div {n l:Nat} {p t:List Int} (hp:Pm n p) (ht:Pm n t) (h1:Fx l p) (h2:Fx l t) (hl:l<n) (e:ap t l=ap p l):Fx (l+1) (Aa p (An t)):= λi hi=>by
 rw [Ft hp ht.inv (by omega)]
 by_cases MC:i<l
 ·rw [h1 i MC];exact h2.inv ht (by omega) i MC
 ·have:i=l:=by omega
  subst this
  rw [<-e,df ht hl]
theorem gK {n:Nat} (h1:1<=n) (h2:n<=20): ∀(k l:Nat) (s:Cz×Cz),l+k=n->eR n k l s-> ∀p,Pm n p->Fx l p->(Ja s.2 k l p=true↔Gn n (s.1.getD l []) p)
 |0,l,s,hk,hc,p,hp,hf=>by
  have hl:l=n:=by omega
  subst hl
  rw [hf.all hp]
  exact ⟨λ_=> .id,λ_=>rfl⟩
 |k+1,l,s,hk,hc,p,hp,hf=>by
  obtain ⟨c1,c2,c3⟩:=hc
  have hS:=c2.pms
  have ih:=gK h1 h2 k (l+1) s (by omega) c1
  have hS1:zA n λg=>some g∈s.1.getD (l+1) []:=⟨⟨h1,h2⟩,λg hg=>(c3 g hg).pm hS⟩
  have aL:l<n:=by omega
  constructor
  ·intro h
   simp only [Ja] at h
   rw [show (Cc p (l:Int)).toNat=ap p l from rfl] at h
   split at h
   ·cases h
   ·rename_i t ht
    obtain ⟨t1,t2,t3,t4⟩:=c2.rt _ _ ht
    have QZ:=Fx.div hp t1 hf t2 aL t3
    have hg:=((ih _ (hp.comp t1.inv) QZ).1 h).trans hS c3
    have:=Xf.comp hS hg t4
    rwa [Eb hp t1.inv t1,Uo t1,comp_id hp] at this
  ·intro h
   have key: ∀q,Gn n (s.1.getD l []) q-> ∃t,(s.2.getD l []).getD (ap q l) none=some t/\Gn n (s.1.getD (l+1) []) (Aa q (An t)):=by
    intro q hq
    induction hq with
    |id=>
     refine ⟨upto n,by rw [dS aL];exact c2.r0,?_⟩
     rw [IU h1 h2,comp_id (Pm.id h1 h2)]
     exact .id
    | @mul q g hq hg ihq=>
     obtain ⟨t,e1,e2⟩:=ihq
     have RO:=Xf.pm hS hq
     have Po:=hS.2 _ hg
     obtain ⟨t1,t2,t3,t4⟩:=c2.rt _ _ e1
     cases e3:(s.2.getD l []).getD (ap g (ap q l)) none with
     |none=>exact absurd e3 (c2.cl _ _ _ e1 hg)
     |some t'=>
      obtain ⟨u1,u2,u3,u4⟩:=c2.rt _ _ e3
      have hsg:=c2.sg _ _ _ _ e1 hg e3
      have hfg:Fx (l+1) (Aa (Aa t g) (An t')):=Fx.div (t1.comp Po) u1 (Fx.comp t1 Po t2 (by obtain ⟨g',e,_,h⟩:=c2.pg _ hg;cases e;exact h) (by omega)) u2 aL (by rw [u3,Ft t1 Po aL,t3])
      have TJ:=(ih _ ((t1.comp Po).comp u1.inv) hfg).1 hsg
      refine ⟨t',by rw [Ft RO Po aL];exact e3,?_⟩
      have:=Xf.comp hS1 e2 TJ
      rwa [show Aa (Aa q (An t)) (Aa (Aa t g) (An t'))=Aa (Aa q g) (An t') by
       rw [Eb RO t1.inv ((t1.comp Po).comp u1.inv),Eb t1 Po u1.inv,<-Eb t1.inv t1 (Po.comp u1.inv),Uo t1,id_comp (Po.comp u1.inv),Eb RO Po u1.inv]] at this
    | @inv q g hq hg ihq=>
     obtain ⟨t,e1,e2⟩:=ihq
     have RO:=Xf.pm hS hq
     have Po:=hS.2 _ hg
     obtain ⟨t1,t2,t3,t4⟩:=c2.rt _ _ e1
     have hy:ap q l<n:=RO.lt aL
     obtain ⟨x,hx,hD,he⟩:=yz Po (λy=>((s.2.getD l []).getD y none).isSome) (λy hy hd=>by
      obtain ⟨t0,OC⟩:=Option.isSome_iff_exists.1 hd
      exact Option.ne_none_iff_isSome.1 (c2.cl _ _ _ OC hg)) hy (by rw [e1];rfl)
     obtain ⟨t',e3⟩:=Option.isSome_iff_exists.1 hD
     obtain ⟨u1,u2,u3,u4⟩:=c2.rt _ _ e3
     have hsg:=c2.sg _ _ _ _ e3 hg (by rw [he];exact e1)
     have hfg:Fx (l+1) (Aa (Aa t' g) (An t)):=Fx.div (u1.comp Po) t1 (Fx.comp u1 Po u2 (by obtain ⟨g',e,_,h⟩:=c2.pg _ hg;cases e;exact h) (by omega)) t2 aL (by rw [t3,Ft u1 Po aL,u3,he])
     have TJ:=Xf.rW hS1 ((ih _ ((u1.comp Po).comp t1.inv) hfg).1 hsg)
     have hax:ap (An g) (ap q l)=x:=by rw [<-he,df Po hx]
     refine ⟨t',by rw [Ft RO Po.inv aL,hax];exact e3,?_⟩
     have:=Xf.comp hS1 e2 TJ
     rwa [show Aa (Aa q (An t)) (An (Aa (Aa t' g) (An t)))=Aa (Aa q (An g)) (An t') by
      rw [inv_mul (u1.comp Po) t1.inv,inv_inv t1,inv_mul u1 Po,Eb RO t1.inv (t1.comp (Po.inv.comp u1.inv)),<-Eb t1.inv t1 (Po.inv.comp u1.inv),Uo t1,id_comp (Po.inv.comp u1.inv),Eb RO Po.inv u1.inv]] at this
   obtain ⟨t,e1,e2⟩:=key p h
   obtain ⟨t1,t2,t3,t4⟩:=c2.rt _ _ e1
   simp only [Ja]
   rw [show (Cc p (l:Int)).toNat=ap p l from rfl,e1]
   exact (ih _ (hp.comp t1.inv) (Fx.div hp t1 hf t2 aL t3)).2 e2
end Go.Proofs.Ytjbdmibbbpdnnaa

namespace Go.Proofs.Ytjbdmibbbpdnnaa
open Go.RowKit
theorem Nr {α:Type} (xs:List α) (i j:Nat) (x d:α):(xs.set i x).getD j d=if i=j/\i<xs.length then x else xs.getD j d:=by
 rw [List.getD_eq_getElem?_getD,List.getElem?_set,List.getD_eq_getElem?_getD]
 by_cases e:i=j
 ·subst e
  by_cases h:i<xs.length
  ·rw [if_pos rfl,if_pos h,if_pos ⟨rfl,h⟩];rfl
  ·rw [if_pos rfl,if_neg h,if_neg (λhh=>h hh.2),List.getElem?_eq_none (by omega)]
 ·rw [if_neg e,if_neg (λhh=>e hh.1)]
theorem Xf.mono {n:Nat} {S S':List Int->Prop} (h: ∀g,S g->S' g) {p:List Int} (hp:Xf n S p):Xf n S' p:=by
 induction hp with
 |id=>exact .id
 |mul _ hg ih=>exact .mul ih (h _ hg)
 |inv _ hg ih=>exact .inv ih (h _ hg)
structure Rf (n l:Nat) (gs:List PO) (row:Row):Prop where
 rl:row.length=n
 r0:row.getD l none=some (upto n)
 rt: ∀y t,row.getD y none=some t->Pm n t/\Fx l t/\ap t l=y/\Gn n gs t
def PG (n l:Nat) (gs:List PO):Prop:= ∀o∈gs,∃g,o=some g/\Pm n g/\Fx l g
structure Ext (n l:Nat) (gs:List PO) (row:Row) (q:List Int) (s':Row×List Int):Prop where
 ok:Rf n l gs s'.1
 mono: ∀y t,row.getD y none=some t->s'.1.getD y none=some t
 XL:s'.2.length+Ll s'.1=q.length+Ll row
 oo: ∀y∈q,y∈s'.2
 new: ∀y∈s'.2,y∈q\/ ∃yn:Nat,y=yn/\s'.1.getD yn none≠none
 src: ∀y:Nat,s'.1.getD y none≠none->row.getD y none≠none\/(y:Int)∈s'.2
theorem Ext.refl {n l:Nat} {gs:List PO} {row:Row} {q:List Int} (h:Rf n l gs row):Ext n l gs row q (row,q):=⟨h,λ_ _ h=>h,rfl,λ_ h=>h,λ_ h=> .inl h,λ_ h=> .inl h⟩
theorem Zw {a b:Row} (h: ∀y t,a.getD y none=some t->b.getD y none=some t) {y:Nat} (hy:a.getD y none≠none):b.getD y none≠none:=by
 cases e:a.getD y none with
 |none=>exact absurd e hy
 |some t=>rw [h y t e];simp
theorem Ext.trans {n l:Nat} {gs:List PO} {row:Row} {q:List Int} {s1 s2:Row×List Int} (h:Ext n l gs row q s1) (k:Ext n l gs s1.1 s1.2 s2):Ext n l gs row q s2:=by
 refine ⟨k.ok,λy t e=>k.mono y t (h.mono y t e),k.XL.trans h.XL,λy hy=>k.oo y (h.oo y hy),λy hy=>?_,λy hy=>?_⟩
 ·rcases k.new y hy with h1|h1
  ·rcases h.new y h1 with h2|⟨yn,h2,h3⟩
   ·exact .inl h2
   ·exact .inr ⟨yn,h2,Zw k.mono h3⟩
  ·exact .inr h1
 ·rcases k.src y hy with h1|h1
  ·exact (h.src y h1).imp id λh2=>k.oo _ h2
  ·exact .inr h1
theorem CX {row:Row} {i:Nat} {t:List Int} (h:row.getD i none=none) (hi:i<row.length):Ll (row.set i (some t))+1=Ll row:=by
 unfold Ll
 have e:row[i]=none:=by
  rw [List.getD_eq_getElem?_getD,List.getElem?_eq_getElem hi] at h
  exact h
 have h1:=List.countP_set (p:= λo:PO=>o.isNone) (l:=row) (i:=i) (a:=some t) hi
 have j6:0<row.countP (·.isNone):=List.countP_pos_iff.2 ⟨row[i],List.getElem_mem hi,by rw [e];rfl⟩
 rw [h1,e]
 simp
 omega
theorem PJ {n l:Nat} {gs:List PO} (aL:l<n) (hg:PG n l gs) {row:Row} {q:List Int} (h:Rf n l gs row) {x:Nat} {t:List Int} (hx:row.getD x none=some t) {g:List Int} (ho:some g∈gs):
  Ext n l gs row q (Su (x:Int) (row,q) (some g))/\(Su (x:Int) (row,q) (some g)).1.getD (ap g x) none≠none:=by
 obtain ⟨g',e,Po,TI⟩:=hg _ ho
 cases e
 obtain ⟨t1,t2,t3,t4⟩:=h.rt _ _ hx
 have AN:x<n:=by rw [<-h.rl];exact lk hx
 obtain ⟨a1,a2⟩:=Po.Qu AN
 unfold Su
 simp only [Option.getD_some,a1,Int.toNat_natCast]
 cases e:row.getD (ap g x) none with
 |some u=>exact ⟨Ext.refl h,by simp only;rw [e];simp⟩
 |none=>
  simp only [hx,Option.getD_some]
  have hl:ap g x<row.length:=by rw [h.rl];exact a2
  have hS:zA n λg=>some g∈gs:=⟨⟨t1.n1,t1.n2⟩,λg Yv=>by obtain ⟨g',e,h1,_⟩:=hg _ Yv;cases e;exact h1⟩
  have Ae: ∀y,(row.set (ap g x) (some (Aa t g))).getD y none=if ap g x=y/\ap g x<row.length then some (Aa t g) else row.getD y none:= λy=>Nr _ _ _ _ _
  have Er: ∀y u,row.getD y none=some u->ap g x≠y:= λy u hu e'=>by rw [<-e',e] at hu;cases hu
  refine ⟨⟨⟨by simp [h.rl],?_,λy u hu=>?_⟩,λy u hu=>?_,?_,λy hy=>List.mem_append_left _ hy,λy hy=>?_,λy hy=>?_⟩,?_⟩
  ·rw [Ae,if_neg (λhh=>Er l _ h.r0 hh.1)];exact h.r0
  ·rw [Ae] at hu
   split at hu
   ·rename_i hc
    cases hu
    exact ⟨t1.comp Po,Fx.comp t1 Po t2 TI (by omega),by rw [Ft t1 Po aL,t3];exact hc.1, .mul t4 ho⟩
   ·exact h.rt y u hu
  ·show (row.set (ap g x) (some (Aa t g))).getD y none=some u
   rw [Ae,if_neg (λhh=>Er y u hu hh.1)];exact hu
  ·have:=CX (t:=Aa t g) e hl
   simp only [List.length_append,List.length_cons,List.length_nil]
   omega
  ·rcases List.mem_append.1 hy with hy|hy
   ·exact .inl hy
   ·simp only [List.mem_singleton] at hy
    exact .inr ⟨ap g x,hy,by show (row.set (ap g x) (some (Aa t g))).getD (ap g x) none≠none;rw [Ae,if_pos ⟨rfl,hl⟩];simp⟩
  ·have hy:(row.set (ap g x) (some (Aa t g))).getD y none≠none:=hy
   rw [Ae] at hy
   split at hy
   ·rename_i hc
    exact .inr (by show (y:Int)∈q++ [(ap g x:Int)];rw [<-hc.1];simp)
   ·exact .inl hy
  ·show (row.set (ap g x) (some (Aa t g))).getD (ap g x) none≠none
   rw [Ae,if_pos ⟨rfl,hl⟩];simp
theorem KC {n l:Nat} {gs:List PO} (aL:l<n) (hg:PG n l gs): ∀(QN:List PO) {row:Row} {q:List Int},(∀o∈QN,o∈gs)->Rf n l gs row-> ∀ {x:Nat} {t:List Int},row.getD x none=some t->
  Ext n l gs row q (Sk (x:Int) QN (row,q))/\ ∀g,some g∈QN->(Sk (x:Int) QN (row,q)).1.getD (ap g x) none≠none
 | [],row,q,_,h,x,t,hx=>⟨Ext.refl h,λg hg=>by cases hg⟩
 |o::QN,row,q,hs,h,x,t,hx=>by
  obtain ⟨g,rfl,_,_⟩:=hg o (hs o (by simp))
  obtain ⟨e1,e2⟩:=PJ (q:=q) aL hg h hx (hs (some g) (by simp))
  obtain ⟨f1,f2⟩:=KC aL hg QN (q:=(Su (x:Int) (row,q) (some g)).2) (λo ho=>hs o (by simp [ho])) e1.ok (e1.mono x t hx)
  have hb:Sk (x:Int) (some g::QN) (row,q)=Sk (x:Int) QN ((Su (x:Int) (row,q) (some g)).1,(Su (x:Int) (row,q) (some g)).2):=rfl
  rw [hb]
  refine ⟨e1.trans f1,λg' Yv=>?_⟩
  rcases List.mem_cons.1 Yv with e|Yv
  ·cases e;exact Zw f1.mono e2
  ·exact f2 g' Yv
def BG (gs:List PO) (q:List Int) (row:Row):Prop:=
 (∀y∈q,∃yn:Nat,y=yn/\row.getD yn none≠none)/\ ∀y:Nat,row.getD y none≠none->(y:Int)∈q\/ ∀g,some g∈gs->row.getD (ap g y) none≠none
theorem yL {n l:Nat} {gs:List PO} (aL:l<n) (hg:PG n l gs) {x:Int} {q:List Int} {row:Row} (h:Rf n l gs row) (hq:BG gs (x::q) row):
  Ext n l gs row q (Sk x gs (row,q))/\BG gs (Sk x gs (row,q)).2 (Sk x gs (row,q)).1/\ ∃(xn:Nat) (t:List Int),x=xn/\row.getD xn none=some t:=by
 obtain ⟨xn,rfl,hx⟩:=hq.1 x (by simp)
 cases e:row.getD xn none with
 |none=>exact absurd e hx
 |some t=>
  obtain ⟨e1,e2⟩:=KC aL hg gs (q:=q) (λo ho=>ho) h e
  refine ⟨e1,⟨λy hy=>?_,λy hy=>?_⟩,xn,t,rfl,e⟩
  ·rcases e1.new y hy with h1|h1
   ·obtain ⟨yn,h2,h3⟩:=hq.1 y (by simp [h1])
    exact ⟨yn,h2,Zw e1.mono h3⟩
   ·exact h1
  ·rcases e1.src y hy with h1|h1
   ·rcases hq.2 y h1 with h2|h2
    ·rcases List.mem_cons.1 h2 with h2|h2
     ·have:y=xn:=by omega
      subst this
      exact .inr λg Yv=>e2 g Yv
     ·exact .inl (e1.oo _ h2)
    ·exact .inr λg Yv=>Zw e1.mono (h2 g Yv)
   ·exact .inl h1
theorem KH {n l:Nat} {gs:List PO} (aL:l<n) (hg:PG n l gs): ∀(f:Nat) (q:List Int) (row:Row),q.length+Ll row<=f->Rf n l gs row->BG gs q row->
  Rf n l gs (Sd gs f q row)/\(∀y t,row.getD y none=some t->(Sd gs f q row).getD y none=some t)/\ ∀y t g,(Sd gs f q row).getD y none=some t->some g∈gs->(Sd gs f q row).getD (ap g y) none≠none
 |0,q,row,hf,h,hq=>by
  have:q= []:=List.eq_nil_of_length_eq_zero (by omega)
  subst this
  exact ⟨h,λ_ _ h=>h,λy t g e Yv=>by
   rcases hq.2 y (by rw [show row.getD y none=some t from e];simp) with h1|h1
   ·cases h1
   ·exact h1 g Yv⟩
 |f+1,[],row,hf,h,hq=>⟨h,λ_ _ h=>h,λy t g e Yv=>by
   rcases hq.2 y (by rw [show row.getD y none=some t from e];simp) with h1|h1
   ·cases h1
   ·exact h1 g Yv⟩
 |f+1,x::q,row,hf,h,hq=>by
  obtain ⟨e1,e2,_⟩:=yL aL hg h hq
  obtain ⟨r1,r2,r3⟩:=KH aL hg f _ _ (by have:=e1.XL;simp only [List.length_cons] at hf;omega) e1.ok e2
  exact ⟨r1,λy t e=>r2 y t (e1.mono y t e),r3⟩
theorem My {row:Row} {y:Int} :y∈Hz row↔ ∃yn:Nat,y=yn/\row.getD yn none≠none:=by
 unfold Hz
 rw [List.mem_filter,Im]
 constructor
 ·rintro ⟨h1,h2⟩
  exact ⟨y.toNat,by omega,Option.ne_none_iff_isSome.2 h2⟩
 ·rintro ⟨yn,rfl,h⟩
  obtain ⟨t,ht⟩:=Option.ne_none_iff_exists'.1 h
  exact ⟨by have:=lk ht;omega,by simpa using Option.ne_none_iff_isSome.1 h⟩
theorem so (row:Row):(Hz row).length<=row.length:=by
 unfold Hz
 refine Nat.le_trans (List.length_filter_le _ _) (by simp [upto])
theorem vX (row:Row):Ll row<=row.length:=List.countP_le_length
theorem w6 {n l:Nat} {gs:List PO} (aL:l<n) (h2:n<=20) (hg:PG n l gs) {row:Row} (h:Rf n l gs row):
  Rf n l gs (Ra gs row)/\(∀y t,row.getD y none=some t->(Ra gs row).getD y none=some t)/\ ∀y t g,(Ra gs row).getD y none=some t->some g∈gs->(Ra gs row).getD (ap g y) none≠none:=
 KH aL hg 100 _ _ (by have:=so row;have:=vX row;have:=h.rl;omega) h ⟨λy hy=>My.1 hy,λy hy=> .inl (My.2 ⟨y,rfl,hy⟩)⟩
theorem uj {n l:Nat} {gs:List PO} (aL:l<n) (hg:PG n l gs): ∀(f:Nat) (q:List Int) (row:Row),q.length+Ll row<=f->Rf n l gs row->BG gs q row->Sd gs f q row=Sd gs (q.length+Ll row) q row
 |0,q,row,hf,_,_=>by
  have:q.length+Ll row=0:=by omega
  rw [this]
 |f+1,[],row,hf,_,_=>by
  cases h:([]:List Int).length+Ll row with
  |zero=>rfl
  |succ m=>rfl
 |f+1,x::q,row,hf,h,hq=>by
  obtain ⟨e1,e2,_⟩:=yL aL hg h hq
  have NV:=e1.XL
  have:(x::q).length+Ll row=(q.length+Ll row)+1:=by simp only [List.length_cons];omega
  rw [this]
  simp only [Sd]
  rw [uj aL hg f _ _ (by simp only [List.length_cons] at hf;omega) e1.ok e2,NV]
def uu (row:Row):Nat:=row.countP (·.isSome)
theorem pK: ∀(a b:Row),a.length=b.length->(∀y t,a.getD y none=some t->b.getD y none=some t)->uu a<=uu b/\(uu a=uu b->a=b)
 | [],[],_,_=>⟨Nat.le_refl _,λ_=>rfl⟩
 | [],_::_,h,_=>by simp at h
 |_::_,[],h,_=>by simp at h
 |x::a,y::b,h,hm=>by
  obtain ⟨h1,h2⟩:=pK a b (by simpa using h) λi t e=>by simpa using hm (i+1) t (by simpa using e)
  unfold uu at h1 h2⊢
  cases x with
  |none=>
   cases y with
   |none=>simp only [List.countP_cons];exact ⟨by simpa using h1,λe=>by rw [h2 (by simpa using e)]⟩
   |some u=>
    simp only [List.countP_cons,Option.isSome_none,Option.isSome_some]
    simp only [if_true,Bool.false_eq_true,if_false]
    exact ⟨by omega,λe=>by omega⟩
  |some t=>
   have:=hm 0 t (by simp)
   simp only [List.getD_cons_zero] at this
   subst this
   simp only [List.countP_cons]
   exact ⟨by simpa using h1,λe=>by rw [h2 (by simpa using e)]⟩
def fJ (T:Cz):Nat->Nat->Nat
 |0,_=>0
 |k+1,l=>uu (T.getD l [])+fJ T k (l+1)
def XS:Nat->Nat->Cz×Cz->Prop
 |0,_,_=>True
 |k+1,l,s=>XS k (l+1) s/\(s.1.getD l []).length<=fJ s.2 (k+1) l
structure Wn (l0:Nat) (s s':Cz×Cz):Prop where
 Aak:s'.1.length=s.1.length
 mD:s'.2.length=s.2.length
 low: ∀i,i<l0->s'.1.getD i []=s.1.getD i []/\s'.2.getD i []=s.2.getD i []
 zU: ∀i o,o∈s.1.getD i []->o∈s'.1.getD i []
 LF: ∀i y t,(s.2.getD i []).getD y none=some t->(s'.2.getD i []).getD y none=some t
 VO: ∀i,(s'.2.getD i []).length=(s.2.getD i []).length
theorem Wn.refl (l0:Nat) (s:Cz×Cz):Wn l0 s s:=⟨rfl,rfl,λ_ _=>⟨rfl,rfl⟩,λ_ _ h=>h,λ_ _ _ h=>h,λ_=>rfl⟩
theorem Wn.trans {l0 l1:Nat} {a b c:Cz×Cz} (h:Wn l0 a b) (k:Wn l1 b c) (hl:l0<=l1):Wn l0 a c:=
 ⟨k.Aak.trans h.Aak,k.mD.trans h.mD,λi hi=>⟨(k.low i (by omega)).1.trans (h.low i hi).1,(k.low i (by omega)).2.trans (h.low i hi).2⟩,λi o ho=>k.zU i o (h.zU i o ho),λi y t e=>k.LF i y t (h.LF i y t e),λi=>(k.VO i).trans (h.VO i)⟩
theorem Wn.Ev {l0 l1:Nat} {a b:Cz×Cz} (h:Wn l1 a b) (hl:l0<=l1):Wn l0 a b:=(Wn.refl l0 a).trans h hl
theorem c8 {T T':Cz} : ∀(k l:Nat) (p:List Int),(∀i,l<=i->i<l+k->T'.getD i []=T.getD i [])->Ja T' k l p=Ja T k l p
 |0,_,_,_=>rfl
 |k+1,l,p,h=>by
  simp only [Ja]
  rw [h l (Nat.le_refl _) (by omega)]
  split
  ·rfl
  ·exact c8 k (l+1) _ λi h1 h2=>h i (by omega) (by omega)
theorem fc {n:Nat} {s s':Cz×Cz} : ∀(k l:Nat),(∀i,l<=i->s'.1.getD i []=s.1.getD i []/\s'.2.getD i []=s.2.getD i [])->eR n k l s->eR n k l s'
 |0,l,h,hc=>by simp only [eR] at hc⊢;rw [(h l (Nat.le_refl _)).1];exact hc
 |k+1,l,h,hc=>by
  simp only [eR] at hc⊢
  obtain ⟨c1,c2,c3⟩:=hc
  refine ⟨fc k (l+1) (λi hi=>h i (by omega)) c1,?_,?_⟩
  ·rw [(h l (Nat.le_refl _)).1,(h l (Nat.le_refl _)).2]
   have e:(λq=>Ja s'.2 k (l+1) q=true)= λq=>Ja s.2 k (l+1) q=true:=funext λq=>by rw [c8 k (l+1) q λi h1 h2=>(h i (by omega)).2]
   rw [e];exact c2
  ·rw [(h (l+1) (by omega)).1,(h l (Nat.le_refl _)).1];exact c3
theorem qv {T T':Cz} : ∀(k l:Nat),(∀i,l<=i->T'.getD i []=T.getD i [])->fJ T' k l=fJ T k l
 |0,_,_=>rfl
 |k+1,l,h=>by simp only [fJ];rw [h l (Nat.le_refl _),qv k (l+1) λi hi=>h i (by omega)]
theorem ma {s s':Cz×Cz} : ∀(k l:Nat),(∀i,l<=i->s'.1.getD i []=s.1.getD i []/\s'.2.getD i []=s.2.getD i [])->XS k l s->XS k l s'
 |0,_,_,_=>trivial
 |k+1,l,h,hg=>⟨ma k (l+1) (λi hi=>h i (by omega)) hg.1,by
  rw [(h l (Nat.le_refl _)).1,qv (k+1) l λi hi=>(h i hi).2];exact hg.2⟩
theorem wk {T T':Cz} (hl: ∀i,(T'.getD i []).length=(T.getD i []).length) (hm: ∀i y t,(T.getD i []).getD y none=some t->(T'.getD i []).getD y none=some t):
  ∀(k l:Nat),fJ T k l<=fJ T' k l/\(fJ T k l=fJ T' k l-> ∀i,l<=i->i<l+k->T'.getD i []=T.getD i [])
 |0,l=>⟨Nat.le_refl _,λ_ i h1 h2=>by omega⟩
 |k+1,l=>by
  obtain ⟨h1,h2⟩:=wk hl hm k (l+1)
  obtain ⟨h3,h4⟩:=pK (T.getD l []) (T'.getD l []) (hl l).symm (hm l)
  simp only [fJ]
  refine ⟨by omega,λe i g1 g2=>?_⟩
  by_cases hi:i=l
  ·subst hi;exact (h4 (by omega)).symm
  ·exact h2 (by omega) i (by omega) (by omega)
def V (n k l:Nat) (s:Cz×Cz):Prop:=s.1.length=n/\s.2.length=n/\eR n k l s/\XS k l s
structure XR (n k l:Nat) (s:Cz×Cz) (p:List Int) (s':Cz×Cz):Prop where
 v:V n k l s'
 grow:Wn l s s'
 Aag:Gn n (s'.1.getD l []) p
 gens: ∀o∈s'.1.getD l [],o∈s.1.getD l []\/o=some p
theorem MK.row {n l:Nat} {gs:List PO} {row:Row} {H:List Int->Prop} (h:MK n l gs row H):Rf n l gs row:=⟨h.rl,h.r0,h.rt⟩
theorem cM {row:Row} {y:Nat} {t g t':List Int} (h1:row.getD y none=some t) (h2:row.getD (ap g y) none=some t'):Mu row (y:Int) (some g)=Aa (Aa t g) (An t'):=by
 unfold Mu
 rw [Int.toNat_natCast,h1,Option.getD_some,Option.getD_some,show (Cc g (y:Int)).toNat=ap g y from rfl,h2,Option.getD_some]
theorem jg {n l:Nat} {gs:List PO} {row:Row} (hg:PG n l gs) (_h:Rf n l gs row) (hc: ∀y t g,row.getD y none=some t->some g∈gs->row.getD (ap g y) none≠none) {q:List Int} :
  q∈aR row gs↔ ∃(y:Nat) (t g t':List Int),row.getD y none=some t/\some g∈gs/\row.getD (ap g y) none=some t'/\q=Aa (Aa t g) (An t'):=by
 unfold aR
 rw [List.mem_flatMap]
 constructor
 ·rintro ⟨y,hy,hq⟩
  obtain ⟨o,ho,rfl⟩:=List.mem_map.1 hq
  obtain ⟨yn,rfl,RT⟩:=My.1 hy
  obtain ⟨t,ht⟩:=Option.ne_none_iff_exists'.1 RT
  obtain ⟨g,rfl,Po,_⟩:=hg o ho
  obtain ⟨t',lu⟩:=Option.ne_none_iff_exists'.1 (hc yn t g ht ho)
  exact ⟨yn,t,g,t',ht,ho,lu,cM ht lu⟩
 ·rintro ⟨y,t,g,t',h1,h2,h3,rfl⟩
  obtain ⟨g',e,Po,_⟩:=hg _ h2
  cases e
  exact ⟨(y:Int),My.2 ⟨y,rfl,by rw [h1];simp⟩,List.mem_map.2 ⟨some g,h2,cM h1 h3⟩⟩
theorem r6 {n:Nat} (h1:1<=n) (h2:n<=20): ∀(k l:Nat) (p:List Int) (s:Cz×Cz),l+k=n->V n k l s->Pm n p->Fx l p->XR n k l s p (Dr k l p s)
 |0,l,p,s,hk,hv,hp,hf=>by
  have hl:l=n:=by omega
  subst hl
  exact ⟨hv,Wn.refl _ _,by rw [hf.all hp];exact .id,λo ho=> .inl ho⟩
 |k+1,l,p,s,hk,hv,hp,hf=>by
  have aL:l<n:=by omega
  obtain ⟨v1,v2,hc,GC⟩:=hv
  have fm:=hc
  obtain ⟨c1,c2,c3⟩:=hc
  unfold Dr
  by_cases hh:Ja s.2 (k+1) l p=true
  ·rw [if_pos hh]
   exact ⟨⟨v1,v2,fm,GC⟩,Wn.refl _ _,(gK h1 h2 (k+1) l s hk fm p hp hf).1 hh,λo ho=> .inl ho⟩
  rw [if_neg hh]
  generalize AA:s.1.getD l []++ [some p]=gs
  have Ya:some p∈gs:=by rw [<-AA];simp
  have Qd: ∀o∈s.1.getD l [],o∈gs:= λo ho=>by rw [<-AA];exact List.mem_append_left _ ho
  have hg:PG n l gs:= λo ho=>by
   rw [<-AA] at ho
   rcases List.mem_append.1 ho with ho|ho
   ·exact c2.pg o ho
   ·rw [List.mem_singleton] at ho;exact ⟨p,ho,hp,hf⟩
  have ZU:Rf n l gs (s.2.getD l []):=⟨c2.rl,c2.r0,λy t e=>⟨(c2.rt y t e).1,(c2.rt y t e).2.1,(c2.rt y t e).2.2.1,(c2.rt y t e).2.2.2.mono λg hg=>Qd _ hg⟩⟩
  obtain ⟨r1,r2,r3⟩:=w6 aL h2 hg ZU
  generalize hR:Ra gs (s.2.getD l [])=R at r1 r2 r3
  have hS:zA n λg=>some g∈gs:=⟨⟨h1,h2⟩,λg Yv=>by obtain ⟨g',e,h,_⟩:=hg _ Yv;cases e;exact h⟩
  have PD: ∀i,((s.1.set l gs).getD i []=if i=l then gs else s.1.getD i [])/\(s.2.set l R).getD i []=if i=l then R else s.2.getD i []:= λi=>by
   rw [Nr,Nr]
   by_cases e:l=i
   ·subst e;rw [if_pos ⟨rfl,by omega⟩,if_pos rfl,if_pos ⟨rfl,by omega⟩,if_pos rfl];exact ⟨rfl,rfl⟩
   ·rw [if_neg (λhh=>e hh.1),if_neg (Ne.symm e),if_neg (λhh=>e hh.1),if_neg (Ne.symm e)];exact ⟨rfl,rfl⟩
  have RS: ∀i,l+1<=i->(s.1.set l gs).getD i []=s.1.getD i []/\(s.2.set l R).getD i []=s.2.getD i []:= λi hi=>by
   rw [(PD i).1,(PD i).2,if_neg (by omega),if_neg (by omega)];exact ⟨rfl,rfl⟩
  have kb:V n k (l+1) (s.1.set l gs,s.2.set l R):=⟨by simpa using v1,by simpa using v2,fc k (l+1) RS c1,ma k (l+1) RS GC.1⟩
  have TK:Wn l s (s.1.set l gs,s.2.set l R):=by
   refine ⟨by simp,by simp,λi hi=>?_,λi o ho=>?_,λi y t e=>?_,λi=>?_⟩
   ·rw [(PD i).1,(PD i).2,if_neg (by omega),if_neg (by omega)];exact ⟨rfl,rfl⟩
   ·rw [(PD i).1]
    split
    ·rename_i hi;subst hi;exact Qd o ho
    ·exact ho
   ·rw [(PD i).2]
    split
    ·rename_i hi;subst hi;exact r2 y t e
    ·exact e
   ·rw [(PD i).2]
    split
    ·rename_i hi;subst hi;rw [r1.rl,c2.rl]
    ·rfl
  have hq: ∀q∈aR R gs,Pm n q/\Fx (l+1) q/\Gn n gs q:= λq hq=>by
   obtain ⟨y,t,g,t',e1,e2,e3,rfl⟩:=(jg hg r1 r3).1 hq
   obtain ⟨t1,t2,t3,t4⟩:=r1.rt _ _ e1
   obtain ⟨u1,u2,u3,u4⟩:=r1.rt _ _ e3
   obtain ⟨g',e,Po,TI⟩:=hg _ e2
   cases e
   exact ⟨(t1.comp Po).comp u1.inv,Fx.div (t1.comp Po) u1 (Fx.comp t1 Po t2 TI (by omega)) u2 aL (by rw [u3,Ft t1 Po aL,t3]),Xf.comp hS (.mul t4 e2) (Xf.rW hS u4)⟩
  have fold: ∀(qs:List (List Int)) (s1:Cz×Cz),(∀q∈qs,Pm n q/\Fx (l+1) q)->V n k (l+1) s1->
    V n k (l+1) (qs.foldl (λs q=>Dr k (l+1) q s) s1)/\Wn (l+1) s1 (qs.foldl (λs q=>Dr k (l+1) q s) s1)/\
     (∀q∈qs,Gn n ((qs.foldl (λs q=>Dr k (l+1) q s) s1).1.getD (l+1) []) q)/\ ∀o∈(qs.foldl (λs q=>Dr k (l+1) q s) s1).1.getD (l+1) [],o∈s1.1.getD (l+1) []\/ ∃q∈qs,o=some q:=by
   intro qs
   induction qs with
   |nil=>exact λs1 _ hv=>⟨hv,Wn.refl _ _,(λq hq=>by cases hq),λo ho=>Or.inl ho⟩
   |cons q qs ih=>
    intro s1 NX hv
    have ha:=r6 h1 h2 k (l+1) q s1 (by omega) hv (NX q (by simp)).1 (NX q (by simp)).2
    obtain ⟨g1,g2,g3,g4⟩:=ih (Dr k (l+1) q s1) (λq' eg=>NX q' (by simp [eg])) ha.v
    simp only [List.foldl_cons]
    refine ⟨g1,ha.grow.trans g2 (Nat.le_refl _),λq' eg=>?_,λo ho=>?_⟩
    ·rcases List.mem_cons.1 eg with rfl|eg
     ·exact ha.Aag.mono λg hg=>g2.zU _ _ hg
     ·exact g3 q' eg
    ·rcases g4 o ho with h|⟨q',eg,h⟩
     ·rcases ha.gens o h with h|h
      ·exact .inl h
      ·exact .inr ⟨q,by simp,h⟩
     ·exact .inr ⟨q',by simp [eg],h⟩
  obtain ⟨f1,f2,f3,f4⟩:=fold (aR R gs) (s.1.set l gs,s.2.set l R) (λq h=>⟨(hq q h).1,(hq q h).2.1⟩) kb
  generalize (aR R gs).foldl (λs q=>Dr k (l+1) q s) (s.1.set l gs,s.2.set l R)=s' at f1 f2 f3 f4
  obtain ⟨w1,w2,w3,w4⟩:=f1
  have XV:s'.1.getD l []=gs:=by rw [(f2.low l (by omega)).1,(PD l).1,if_pos rfl]
  have el2:s'.2.getD l []=R:=by rw [(f2.low l (by omega)).2,(PD l).2,if_pos rfl]
  have HU:=TK.trans f2 (by omega)
  have Af9:MK n l gs R (λq=>Ja s'.2 k (l+1) q=true):=⟨hg,r1.rl,r1.r0,r1.rt,r3,λy t g t' e1 e2 e3=>by
   have hm:=(jg hg r1 r3).2 ⟨y,t,g,t',e1,e2,e3,rfl⟩
   exact (gK h1 h2 k (l+1) s' (by omega) w3 _ (hq _ hm).1 (hq _ hm).2.1).2 (f3 _ hm)⟩
  have QX:eR n (k+1) l s':=⟨w3,by rw [XV,el2];exact Af9,λg Yv=>by
   rw [XV]
   rcases f4 _ Yv with h|⟨q,eg,h⟩
   ·rw [(RS (l+1) (Nat.le_refl _)).1] at h
    exact (c3 g h).mono λg hg=>Qd _ hg
   ·cases h;exact (hq _ eg).2.2⟩
  have Oj:Gn n (s'.1.getD l []) p:=by rw [XV];exact Xf.one hS Ya
  refine ⟨⟨w1,w2,QX,w4,?_⟩,HU,Oj,λo ho=>?_⟩
  ·have hold:=GC.2
   obtain ⟨p1,p2⟩:=wk HU.VO HU.LF (k+1) l
   have Er:fJ s.2 (k+1) l≠fJ s'.2 (k+1) l:= λe=>by
    have:=c8 (k+1) l p (p2 e)
    rw [(gK h1 h2 (k+1) l s' hk QX p hp hf).2 Oj] at this
    exact hh this.symm
   rw [XV,<-AA,List.length_append,List.length_singleton]
   omega
  ·rw [XV,<-AA] at ho
   rcases List.mem_append.1 ho with ho|ho
   ·exact .inl ho
   ·rw [List.mem_singleton] at ho;exact .inr ho
end Go.Proofs.Ytjbdmibbbpdnnaa

namespace Go.Proofs.Ytjbdmibbbpdnnaa
open Go.RowKit
theorem JX {n l:Nat} {gs:List PO} {R:Row} (aL:l<n) (hg:PG n l gs) (r1:Rf n l gs R) (r3: ∀y t g,R.getD y none=some t->some g∈gs->R.getD (ap g y) none≠none): ∀q∈aR R gs,Pm n q/\Fx (l+1) q:=by
 intro q hq
 obtain ⟨y,t,g,t',e1,e2,e3,rfl⟩:=(jg hg r1 r3).1 hq
 obtain ⟨t1,t2,t3,t4⟩:=r1.rt _ _ e1
 obtain ⟨u1,u2,u3,u4⟩:=r1.rt _ _ e3
 obtain ⟨g',e,Po,TI⟩:=hg _ e2
 cases e
 exact ⟨(t1.comp Po).comp u1.inv,Fx.div (t1.comp Po) u1 (Fx.comp t1 Po t2 TI (by omega)) u2 aL (by rw [u3,Ft t1 Po aL,t3])⟩
theorem V.lower {n k l:Nat} {s:Cz×Cz} (h:V n (k+1) l s) (gs:List PO) (R:Row):V n k (l+1) (s.1.set l gs,s.2.set l R):=by
 obtain ⟨v1,v2,hc,GC⟩:=h
 have RS: ∀i,l+1<=i->(s.1.set l gs).getD i []=s.1.getD i []/\(s.2.set l R).getD i []=s.2.getD i []:= λi hi=>by
  rw [Nr,Nr,if_neg (by omega),if_neg (by omega)];exact ⟨rfl,rfl⟩
 exact ⟨by simpa using v1,by simpa using v2,fc k (l+1) RS hc.1,ma k (l+1) RS GC.1⟩
theorem zQ {n k l:Nat} (h1:1<=n) (h2:n<=20) (hk:l+k=n): ∀(qs:List (List Int)) (s1:Cz×Cz),(∀q∈qs,Pm n q/\Fx l q)->V n k l s1->
  V n k l (qs.foldl (λs q=>Dr k l q s) s1)/\Wn l s1 (qs.foldl (λs q=>Dr k l q s) s1)
 | [],s1,_,hv=>⟨hv,Wn.refl _ _⟩
 |q::qs,s1,NX,hv=>by
  have ha:=r6 h1 h2 k l q s1 hk hv (NX q (by simp)).1 (NX q (by simp)).2
  obtain ⟨g1,g2⟩:=zQ h1 h2 hk qs (Dr k l q s1) (λq' eg=>NX q' (by simp [eg])) ha.v
  exact ⟨g1,ha.grow.trans g2 (Nat.le_refl _)⟩
theorem KA {n:Nat} {s:Cz×Cz} : ∀(k l:Nat),eR n k l s->fJ s.2 k l<=n*k
 |0,_,_=>by simp [fJ]
 |k+1,l,hc=>by
  have h1:=KA k (l+1) hc.1
  have h2:uu (s.2.getD l [])<=n:=by
   have:=hc.2.1.rl
   have h3:uu (s.2.getD l [])<=(s.2.getD l []).length:=List.countP_le_length
   omega
  simp only [fJ]
  rw [Nat.mul_succ]
  omega
theorem MZ {n k l:Nat} {s:Cz×Cz} (h2:n<=20) (hk:l+(k+1)=n) (h:V n (k+1) l s):(s.1.getD l []).length<=400:=by
 have h3:=h.2.2.2.2
 have h4:=KA (k+1) l h.2.2.1
 have h5:n*(k+1)<=20*20:=Nat.mul_le_mul h2 (by omega)
 omega
theorem V.lvl {n k l:Nat} {s:Cz×Cz} (h:V n (k+1) l s):MK n l (s.1.getD l []) (s.2.getD l []) (λq=>Ja s.2 k (l+1) q=true):=h.2.2.1.2.1
theorem V.pg {n k l:Nat} {s:Cz×Cz} (h:V n (k+1) l s) {p:List Int} (hp:Pm n p) (hf:Fx l p):PG n l (s.1.getD l []++ [some p]):= λo ho=>by
 rcases List.mem_append.1 ho with ho|ho
 ·exact h.lvl.pg o ho
 ·rw [List.mem_singleton] at ho;exact ⟨p,ho,hp,hf⟩
theorem V.Agg {n k l:Nat} {s:Cz×Cz} (h:V n (k+1) l s) (p:List Int):Rf n l (s.1.getD l []++ [some p]) (s.2.getD l []):=
 ⟨h.lvl.rl,h.lvl.r0,λy t e=>⟨(h.lvl.rt y t e).1,(h.lvl.rt y t e).2.1,(h.lvl.rt y t e).2.2.1,(h.lvl.rt y t e).2.2.2.mono λ_ hg=>List.mem_append_left _ hg⟩⟩
theorem p9 {α:Type} (xs:List (List α)) (i:Nat) (h:i<xs.length):xs.set i (xs.getD i [])=xs:=by
 refine List.ext_getElem (by simp) λj h1 h2=>?_
 rw [List.getElem_set]
 split
 ·rename_i e;subst e;rw [List.getD_eq_getElem?_getD,List.getElem?_eq_getElem h];rfl
 ·rfl
theorem e8 {α:Type} (xs:List (List α)) (i:Nat) (h:i<xs.length) (r:List α):(xs.set i r).getD i []=r:=by
 rw [Nr,if_pos ⟨rfl,h⟩]
end Go.Proofs.Ytjbdmibbbpdnnaa

namespace Go.Proofs.Ytjbdmibbbpdnnaa
open Go.RowKit
noncomputable abbrev Kq:MSpec:=CU [none] [(false, .Hf XM)] false [none] [.row tI 2] (λx=>List.length x.1<=20) (λx=>((Hz x.1,()),()))
noncomputable abbrev Qm:Spec:=Dg (.pair tL (.pair tL .unit)) tO false true (λx=>(0<x.1.length/\x.1.length<=20)/\Gw x.2.1.length x.1) (λx=>some (Aa x.1 x.2.1))
noncomputable abbrev ak:Spec:=Dg (.pair tL (.pair tL .unit)) tL false false (λx=>x.1.length<=20/\Gw x.2.1.length x.1) (λx=>Aa x.1 x.2.1)
noncomputable abbrev Oa:Spec:=Dg (.pair tI .unit) tL false true (λx=>0<=x.1/\x.1<=20) (λx=>upto x.1.toNat)
noncomputable abbrev We:Spec:=Dg (.pair tI .unit) tO false true (λx=>1<=x.1/\x.1<=20) (λx=>some (upto x.1.toNat))
abbrev SD:TypeId:=22
structure lA (N L:Nat) (n:Int) (G T:Cz) (l:Int) (p:List Int):Prop where
 n1:1<=N
 n2:N<=20
 en:n=N
 el:l=L
 le:L<=N
 v:V N (N-L) L (G,T)
 pm:Pm N p
 fx:Fx L p
noncomputable abbrev qG:Spec:=Dg (.pair (.ptr tp) (.pair tI (.pair tL .unit))) .bool false true (λx=> ∃N L,lA N L x.1.1 x.1.2.1 x.1.2.2.1 x.2.1 x.2.2.1) (λx=>Ja x.1.2.2.1 (x.1.1-x.2.1).toNat x.2.1.toNat x.2.2.1)
noncomputable abbrev RX:MSpec:= {ptr:=some (179,3),Hb:= [none,none],ins:= [(false, .Hf tI),(false, .Al tO SD true),(false, .Al tO SD true),(false, .Hf tI),(false, .Hf tO)],Gb:=false,Gd:= [],outs:= [.Hf tI, .Al tO SD false, .Al tO SD false],fn:= λ_=>none,keeps:= [(1,1),(2,2)],Ct:= λx=>x.2.2.2.1.toNat}
noncomputable abbrev Pd (m:Nat):MSpec:=xf RX (λx=>(∃N L q,x.2.2.2.2.1=some q/\lA N L x.1 x.2.1 x.2.2.1 x.2.2.2.1 q)/\(x.1-x.2.2.2.1).toNat<m)
 (λx=>((x.1,(Dr (x.1-x.2.2.2.1).toNat x.2.2.2.1.toNat (x.2.2.2.2.1.getD []) (x.2.1,x.2.2.1)).1,(Dr (x.1-x.2.2.2.1).toNat x.2.2.2.1.toNat (x.2.2.2.2.1.getD []) (x.2.1,x.2.2.1)).2,()),()))
theorem wX (n:Int) (P:List Int->Prop):(((0:Int)<=n/\n<(↑Bo:Int)+(1:Int))/\n=n/\0=0/\(List.replicate n.toNat (Int.ofNat (nat_lit 0))).length=(List.replicate n.toNat (Int.ofNat (nat_lit 0))).length/\Bj (λ(v2:Int×List Int×PUnit) (k3:Int×List Int×PUnit->Prop)=>Br (decide (v2.1<(↑(List.replicate n.toNat (Int.ofNat (nat_lit 0))).length:Int))) (((0:Int)<=v2.1/\v2.1<(↑v2.2.1.length:Int))/\0+v2.1.toNat<v2.2.1.length/\0=0/\v2.2.1.length=(v2.2.1.set (0+v2.1.toNat) v2.1).length/\k3 (IntKind.i64.wrap (v2.1+(1:Int)),v2.2.1.set (0+v2.1.toNat) v2.1,())) (P (List.take v2.2.1.length (List.drop 0 v2.2.1)))) ((0:Int),List.replicate n.toNat (Int.ofNat (nat_lit 0)),PUnit.unit))=fnW Cu (look []) Oa Try.f127 (n,()) P:=by kernel_rfl
theorem FQ (row:List (Option (List Int))) (P:(List Int×Unit)×Unit->Prop):(0=0/\0=([]:List Int).length/\Bj (λ(v2:Int×List Int×PUnit) (k3:Int×List Int×PUnit->Prop)=>Br (decide (v2.1<(↑row.length:Int))) (∃(y4:Option (List Int)),idx row v2.1=some y4/\Br (!y4.isNone) (0=0/\v2.2.1.length=v2.2.1.length/\v2.2.1.length+(List.take 1 (List.drop 0 [v2.1])).length<=Bo/\0=0/\(v2.2.1++List.take 1 (List.drop 0 [v2.1])).length=(v2.2.1++List.take 1 (List.drop 0 [v2.1])).length/\k3 (IntKind.i64.wrap (v2.1+(1:Int)),v2.2.1++List.take 1 (List.drop 0 [v2.1]),())) (0=0/\v2.2.1.length=v2.2.1.length/\k3 (IntKind.i64.wrap (v2.1+(1:Int)),v2.2.1,()))) (P ((List.take v2.2.1.length (List.drop 0 v2.2.1),()),()))) ((0:Int),[],PUnit.unit))=fnMW Th (look []) Kq Try.f174 (row,()) P:=by kernel_rfl
theorem Abn (c:Int×List (List (Option (List Int)))×List (List (Option (List Int)))×Unit) (l:Int) (p:List Int) (P:Bool->Prop):(Bj (λ(v4:List Int×Int×PUnit) (k5:List Int×Int×PUnit->Prop)=>Br (decide (v4.2.1<c.1)) (∃(y6:List (Option (List Int))),idx c.2.2.1 v4.2.1=some y6/\ ∃(y7:Int),idx v4.1 v4.2.1=some y7/\ ∃(y8:Option (List Int)),idx y6 y7=some y8/\Br y8.isNone (P false) (∃(y9:List Int),El.fn (y8.getD [],())=some y9/\ ∃(jJ:List Int),ak.fn (v4.1,y9,())=some jJ/\k5 (jJ,IntKind.i64.wrap (v4.2.1+(1:Int)),()))) (P true)) (p,l,PUnit.unit))=fnW Th (look [(175,El),(156,ak)]) qG Try.f183 (c,l,p,()) P:=by kernel_rfl
theorem Sound.loose {P:Program} {f:FuncId} {arg res:Ty} {pre:arg.den->Prop} {val:arg.den->res.den} (h:Sound P f (Go.Proofs.Ytjbdmibbbpdnnaa.Dg arg res false true pre val)):Sound P f (Go.Proofs.Ytjbdmibbbpdnnaa.Dg arg res false false pre val):=
 ⟨h.enter,λw S vs x y h1 h2 h3=>Calls.mono (h.calls w S vs x y h1 h2 h3) λe' w' hr=>by
  obtain ⟨v,g1,g2,g3⟩:=hr
  exact ⟨v,g1,g2,Bc.Ev (S:= λb=>S b\/(true=true/\b<w.heap.size)) g3 λk _ hk=>hk.elim .inl λhh=>absurd (show false=true from hh.1) (by simp)⟩⟩
theorem nz:Sound Try.prog 156 ak:=Sound.loose Pg
theorem nA:Sound Try.prog 156 Qm:=Sound.toO Pg λx h=>⟨⟨h.1.2,h.2⟩,λe=>by
 have:=No x.1 x.2.1
 rw [e] at this
 have:=h.1.1
 simp only [List.length_nil] at*
 omega⟩
theorem w9 (n:Int) (h:0<=n/\n<=20):fnW Cu (look []) Oa Try.f127 (n,()) (λ(z:List Int)=>z=upto n.toNat):=by
 refine Eq.mp (wX n _) ⟨⟨by omega,by show n<(4294967296:Int)+1;omega⟩,rfl,rfl,rfl,?_⟩
 refine Am n.toNat (λv=>v.1) (λj v=>v.2.1.length=n.toNat/\v.2.1.take j=upto j) rfl ⟨by simp,by simp [upto]⟩ ?_
 rintro j ⟨i,ys,⟨⟩⟩ K hj hi ⟨h1,h2⟩ hK
 dsimp only at hi h1 h2⊢
 subst hi
 rw [List.length_replicate]
 simp only [Int.toNat_natCast,Nat.zero_add]
 refine Br.dec (λhl=>⟨⟨by omega,by omega⟩,by omega,trivial,by rw [List.length_set],?_⟩) λhl=>?_
 ·rw [Ak (by omega)]
  refine hK (by omega) _ rfl ⟨by rw [List.length_set];exact h1,?_⟩
  rw [List.take_add_one,List.take_set_of_le (by omega),h2,List.getElem?_set_self (by omega),Ys]
  rfl
 ·have:j=ys.length:=by omega
  subst this
  rw [List.take_length] at h2
  rw [List.drop_zero,List.take_length,h2,h1]
theorem aW:Sound Try.prog 127 Oa:=
 Sound.Dg Bu At mixed Try.func127 (by kernel_rfl) (by kernel_rfl) λx h=>w9 x.1 h
theorem PT {n:Int} (h:1<=n/\n<=20):(0<=n/\n<=20)/\upto n.toNat≠ []:=⟨by omega,λe=>by
 have:=congrArg List.length e
 simp [upto] at this
 omega⟩
theorem l5:Sound Try.prog 127 We:=Sound.toO aW λ_ h=>PT h
theorem w5 {row:Row} {j:Nat} :(upto (j+1)).filter (λy=>(row.getD y.toNat none).isSome)=(upto j).filter (λy=>(row.getD y.toNat none).isSome)++if (row.getD j none).isSome=true then [(j:Int)] else []:=by
 rw [Ys,List.filter_append]
 congr 1
 simp only [List.filter_cons,List.filter_nil,Int.toNat_natCast]
theorem DN (row:List (Option (List Int))) (h:List.length row<=20):fnMW Th (look []) Kq Try.f174 (row,()) (λ(z:(List Int×Unit)×Unit)=>z=((Hz row,()),())):=by
 refine Eq.mp (FQ row _) ⟨rfl,rfl,?_⟩
 refine Am row.length (λv=>v.1) (λj v=>v.2.1=(upto j).filter (λy=>(row.getD y.toNat none).isSome)) rfl rfl ?_
 rintro j ⟨i,ys,⟨⟩⟩ K hj hi h1 hK
 dsimp only at hi h1⊢
 subst hi
 refine Br.dec (λhl=>?_) λhl=>?_
 ·have hl:j<row.length:=by omega
  have hlen:ys.length<=j:=by rw [h1];refine Nat.le_trans (List.length_filter_le _ _) (by simp [upto])
  have hg:row.getD j none=row[j]:=by rw [List.getD_eq_getElem?_getD,List.getElem?_eq_getElem hl];rfl
  refine ⟨_,Ap hl,Br.of (λhb=>⟨rfl,rfl,?_,rfl,rfl,?_⟩) λhb=>⟨rfl,rfl,?_⟩⟩
  ·show ys.length+1<=4294967296
   omega
  ·rw [Ak (by omega)]
   refine hK hl _ rfl ?_
   show ys++ [(j:Int)]=_
   rw [w5,hg,h1,if_pos (by cases e:row[j] with
    |none=>rw [e] at hb;simp at hb
    |some t=>rfl)]
  ·rw [Ak (by omega)]
   refine hK hl _ rfl ?_
   show ys=_
   rw [w5,hg,h1,if_neg (by cases e:row[j] with
    |none=>simp
    |some t=>rw [e] at hb;simp at hb),List.append_nil]
 ·have:j=row.length:=by omega
  subst this
  rw [List.drop_zero,List.take_length,h1]
  rfl
theorem eB:Ea Try.prog 174 Kq:=
 Ea.CU jH At mixed Try.func174 (by kernel_rfl) (by kernel_rfl) λx h=>DN x.1 h
theorem gr {n:Nat} {s:Cz×Cz} : ∀(k l:Nat),eR n k l s-> ∀i,l<=i->i<l+k->MK n i (s.1.getD i []) (s.2.getD i []) (λq=>Ja s.2 (l+k-i-1) (i+1) q=true)
 |0,_,_,i,h1,h2=>by omega
 |k+1,l,hc,i,h1,h2=>by
  obtain ⟨c1,c2,_⟩:=hc
  by_cases e:i=l
  ·subst e
   rw [show i+(k+1)-i-1=k by omega]
   exact c2
  ·have:=gr k (l+1) c1 i (by omega) (by omega)
   rwa [show l+1+k-i-1=l+(k+1)-i-1 by omega] at this
theorem uR {α:Type} {xs:List (List α)} {i:Nat} (h:i<xs.length):xs.getD i []=xs[i]:=by
 rw [List.getD_eq_getElem?_getD,List.getElem?_eq_getElem h];rfl
theorem HK {α:Type} {xs:List (Option α)} {i:Nat} (h:i<xs.length):xs.getD i none=xs[i]:=by
 rw [List.getD_eq_getElem?_getD,List.getElem?_eq_getElem h];rfl
theorem Pm.row {n:Nat} {p:List Int} (h:Pm n p):Gw n p:=by
 have:=h.2.row
 rwa [h.1] at this
theorem Aax (c:Int×List (List (Option (List Int)))×List (List (Option (List Int)))×Unit) (l:Int) (p:List Int) (h: ∃N L,lA N L c.1 c.2.1 c.2.2.1 l p):
  fnW Th (look [(175,El),(156,ak)]) qG Try.f183 (c,l,p,()) (λ(z:Bool)=>z=Ja c.2.2.1 (c.1-l).toNat l.toNat p):=by
 obtain ⟨n,G,T,⟨⟩⟩:=c
 obtain ⟨N,L,h⟩:=h
 obtain ⟨n1,n2,en,el,hle,v,pm,fx⟩:=h
 dsimp only at en el v⊢
 subst en el
 refine Eq.mp (Abn ((N:Int),G,T,()) (L:Int) p _) ?_
 obtain ⟨v1,v2,v3,v4⟩:=v
 dsimp only at v1 v2
 refine ⟨λv=> ∃i:Nat,L<=i/\i<=N/\v.2.1=i/\Pm N v.1/\Fx i v.1/\Ja T (N-i) i v.1=Ja T (N-L) L p,λv=>N-v.2.1.toNat,⟨L,Nat.le_refl _,hle,rfl,pm,fx,rfl⟩,?_⟩
 rintro ⟨p',i',⟨⟩⟩ ⟨i,h1,h2,h3,h4,h5,h6⟩
 dsimp only at h3 h4 h5 h6⊢
 subst h3
 rw [show (((N:Int)-(L:Int)).toNat)=N-L by omega,show ((L:Int)).toNat=L by omega,<-h6]
 refine Br.dec (λhl=>?_) λhl=>?_
 ·have hl:i<N:=by omega
  have Qc:=gr (N-L) L v3 i h1 (by omega)
  obtain ⟨a1,a2⟩:=h4.Qu hl
  have hT:i<T.length:=by omega
  have hlen:T[i].length=N:=by have:=Qc.rl;dsimp only at this;rwa [uR hT] at this
  refine ⟨_,Ap hT,_,Ap (by rw [h4.1];exact hl),?_⟩
  have e1:p'[i]'(by rw [h4.1];exact hl)=(ap p' i:Int):=by rw [<-a1,Ih]
  rw [e1]
  refine ⟨_,Ap (by omega),?_⟩
  have e2:N-i=(N-i-1)+1:=by omega
  have e3:(T.getD i []).getD (Cc p' (i:Int)).toNat none=T[i][ap p' i]'(by omega):=by
   rw [uR hT];exact HK (by show ap p' i<_;omega)
  rw [e2]
  simp only [Ja,e3]
  refine Br.of (λhb=>?_) λhb=>?_
  ·cases e:T[i][ap p' i]'(by omega) with
   |none=>rfl
   |some t=>rw [e] at hb;simp at hb
  ·cases e:T[i][ap p' i]'(by omega) with
   |none=>rw [e] at hb;simp at hb
   |some t=>
    have ht:(T.getD i []).getD (ap p' i) none=some t:=by rw [<-e];exact e3
    obtain ⟨t1,t2,t3,t4⟩:=Qc.rt _ _ ht
    simp only [Option.getD_some]
    refine ⟨_,if_pos ⟨by show t.length<=20;rw [t1.1];exact n2,t1.2.row⟩,_,if_pos ⟨by show p'.length<=20;rw [h4.1];exact n2,by show Gw (An t).length p';rw [lv,t1.1];exact h4.row⟩,⟨i+1,by omega,by omega,Ak (by omega),h4.comp t1.inv,Fx.div h4 t1 h5 t2 hl t3,?_⟩,?_⟩
    ·rw [show N-(i+1)=N-i-1 by omega]
    ·show N-(IntKind.i64.wrap ((i:Int)+1)).toNat<N-((i:Int)).toNat
     rw [Ak (by omega)]
     omega
 ·rw [show N-i=0 by omega]
  rfl
theorem EL:Sound Try.prog 183 qG:=
 Sound.Dg jH (Ah Ph (Ah nz At)) mixed Try.func183 (by kernel_rfl) (by kernel_rfl) λx h=>Aax x.1 x.2.1 x.2.2.1 h
end Go.Proofs.Ytjbdmibbbpdnnaa

namespace Go.Proofs.Ytjbdmibbbpdnnaa
open Go.RowKit
abbrev tm:Type:=Nat×Nat×Int×List (List (Option (List Int)))×Nat×List (List (Option (List Int)))×Nat×List Int×Int×PUnit
abbrev KR:Type:=Nat×Int×List (List (Option (List Int)))×Nat×List (List (Option (List Int)))×Nat×List Int×Int×PUnit
abbrev KS:Type:=Nat×List (List (Option (List Int)))×Nat×List (List (Option (List Int)))×Nat×List Int×Int×PUnit
abbrev Gs (G:List (List (Option (List Int)))) (l:Int) (p:Option (List Int)) (T:List (List (Option (List Int)))) (y7:Bool) (n:Int):Prop:=0=0/\(G.getD (0+l.toNat) []).length=(G.getD (0+l.toNat) []).length/\(G.getD (0+l.toNat) []).length+(List.take 1 (List.drop 0 [p])).length<=Bo/\((0:Int)<=l/\l<(↑G.length:Int))/\0=0/\(G.getD (0+l.toNat) []++List.take 1 (List.drop 0 [p])).length=(G.getD (0+l.toNat) []++List.take 1 (List.drop 0 [p])).length/\0+l.toNat=0+l.toNat/\ [(0,G.length),(0,G.length),(0,G.length),(0,T.length)]= [(0,G.length),(0,G.length),(0,G.length),(0,T.length)]/\(l,p,l,p,y7,l,l,0+l.toNat,p,List.take 1 (List.drop 0 [p]),0+l.toNat,G.set (0+l.toNat) (G.getD (0+l.toNat) []++List.take 1 (List.drop 0 [p])),min G.length (0+l.toNat),T,T.length,n,())=(l,p,l,p,y7,l,l,0+l.toNat,p,List.take 1 (List.drop 0 [p]),0+l.toNat,G.set (0+l.toNat) (G.getD (0+l.toNat) []++List.take 1 (List.drop 0 [p])),min G.length (0+l.toNat),T,T.length,n,PUnit.unit)
theorem Abf {m:Nat} (n:Int) (G T:List (List (Option (List Int)))) (l:Int) (p:Option (List Int)) (P:(Int×List (List (Option (List Int)))×List (List (Option (List Int)))×Unit)×Unit->Prop):(∃(y7:Bool),qG.fn ((n,List.take G.length (List.drop 0 G),List.take T.length (List.drop 0 T),()),l,p.getD [],())=some y7/\Br y7 ((0=0/\G.length=G.length)/\(0=0/\T.length=T.length)/\(Pd (m+1)).Ct (n,G,T,l,p,())<=G.length/\(Pd (m+1)).Ct (n,G,T,l,p,())<=T.length/\P ((n,G,T,()),())) (((0:Int)<=l/\l<(↑G.length:Int))/\0=0/\(G.getD (0+l.toNat) []).length=(G.getD (0+l.toNat) []).length/\(G.getD (0+l.toNat) []).length+(List.take 1 (List.drop 0 [p])).length<=Bo/\((0:Int)<=l/\l<(↑G.length:Int))/\0=0/\(G.getD (0+l.toNat) []++List.take 1 (List.drop 0 [p])).length=(G.getD (0+l.toNat) []++List.take 1 (List.drop 0 [p])).length/\0+l.toNat=0+l.toNat/\(((0:Int)<=l/\l<(↑T.length:Int))/\ ∃(y8:(List Int×PUnit)×PUnit),Kq.fn (T.getD (0+l.toNat) [],())=some y8/\0=0/\(List.take y8.1.1.length (List.drop 0 y8.1.1)).length=(List.take y8.1.1.length (List.drop 0 y8.1.1)).length/\0=0/\G.length=(G.set (0+l.toNat) (G.getD (0+l.toNat) []++List.take 1 (List.drop 0 [p]))).length/\0=0/\T.length=T.length/\Bj (λ(v9:KS) (k10:KS->Prop)=>Br (decide ((↑v9.2.2.2.2.2.1.length:Int)>(0:Int))) (((0:Int)<=l/\l<(↑v9.2.1.length:Int))/\0=0/\(List.take v9.2.2.2.2.2.1.length (List.drop 0 v9.2.2.2.2.2.1)).length=(List.take v9.2.2.2.2.2.1.length (List.drop 0 v9.2.2.2.2.2.1)).length/\0=0/\v9.2.1.length=v9.2.1.length/\0=0/\v9.2.2.2.1.length=v9.2.2.2.1.length/\Bj (λ(v11:tm) (k12:tm->Prop)=>Br (decide (v11.2.2.1<(↑(v9.2.1.getD (0+l.toNat) []).length:Int))) (((0:Int)<=v11.2.2.1/\v11.2.2.1<(↑(v11.2.2.2.1.getD v11.2.1 []).length:Int))/\((0:Int)<=(0:Int)/\(0:Int)<(↑v11.2.2.2.2.2.2.2.1.length:Int))/\ ∃(eO:Int),v11.2.2.2.2.2.2.2.1[0+Int.toNat (0:Int)]?=some eO/\ ∃(Yu:Int),idx (((v11.2.2.2.1.getD v11.2.1 []).getD v11.2.2.1.toNat (none:Option (List Int))).getD []) eO=some Yu/\((0:Int)<=Yu/\Yu<(↑(v11.2.2.2.2.2.1.getD v11.1 []).length:Int))/\Br ((v11.2.2.2.2.2.1.getD v11.1 []).getD Yu.toNat (none:Option (List Int))).isNone (((0:Int)<=(0:Int)/\(0:Int)<(↑v11.2.2.2.2.2.2.2.1.length:Int))/\ ∃(dd:Int),v11.2.2.2.2.2.2.2.1[0+Int.toNat (0:Int)]?=some dd/\((0:Int)<=dd/\dd<(↑(v11.2.2.2.2.2.1.getD v11.1 []).length:Int))/\ ∃(br:Option (List Int)),Qm.fn (((v11.2.2.2.2.2.1.getD v11.1 []).getD dd.toNat (none:Option (List Int))).getD [],((v11.2.2.2.1.getD v11.2.1 []).getD v11.2.2.1.toNat (none:Option (List Int))).getD [],())=some br/\((0:Int)<=Yu/\Yu<(↑(v11.2.2.2.2.2.1.getD v11.1 []).length:Int))/\0=0/\v11.2.2.2.2.2.2.2.1.length=v11.2.2.2.2.2.2.2.1.length/\v11.2.2.2.2.2.2.2.1.length+(List.take 1 (List.drop 0 [Yu])).length<=Bo/\0=0/\(List.take (v11.2.2.2.2.2.2.2.1++List.take 1 (List.drop 0 [Yu])).length (List.drop 0 (v11.2.2.2.2.2.2.2.1++List.take 1 (List.drop 0 [Yu])))).length=(List.take (v11.2.2.2.2.2.2.2.1++List.take 1 (List.drop 0 [Yu])).length (List.drop 0 (v11.2.2.2.2.2.2.2.1++List.take 1 (List.drop 0 [Yu])))).length/\0=0/\v11.2.2.2.1.length=v11.2.2.2.1.length/\0=0/\v11.2.2.2.2.2.1.length=(v11.2.2.2.2.2.1.set v11.1 ((v11.2.2.2.2.2.1.getD v11.1 []).set Yu.toNat br)).length/\k12 (v11.1,v11.2.1,IntKind.i64.wrap (v11.2.2.1+(1:Int)),v11.2.2.2.1,v11.2.2.2.2.1,v11.2.2.2.2.2.1.set v11.1 ((v11.2.2.2.2.2.1.getD v11.1 []).set Yu.toNat br),v11.2.2.2.2.2.2.1,List.take (v11.2.2.2.2.2.2.2.1++List.take 1 (List.drop 0 [Yu])).length (List.drop 0 (v11.2.2.2.2.2.2.2.1++List.take 1 (List.drop 0 [Yu]))),v11.2.2.2.2.2.2.2.2.1,())) (0=0/\(List.take v11.2.2.2.2.2.2.2.1.length (List.drop 0 v11.2.2.2.2.2.2.2.1)).length=(List.take v11.2.2.2.2.2.2.2.1.length (List.drop 0 v11.2.2.2.2.2.2.2.1)).length/\0=0/\v11.2.2.2.1.length=v11.2.2.2.1.length/\0=0/\v11.2.2.2.2.2.1.length=v11.2.2.2.2.2.1.length/\k12 (v11.1,v11.2.1,IntKind.i64.wrap (v11.2.2.1+(1:Int)),v11.2.2.2.1,v11.2.2.2.2.1,v11.2.2.2.2.2.1,v11.2.2.2.2.2.2.1,List.take v11.2.2.2.2.2.2.2.1.length (List.drop 0 v11.2.2.2.2.2.2.2.1),v11.2.2.2.2.2.2.2.2.1,()))) (((0:Int)<=(1:Int)/\(1:Int)<=(↑v11.2.2.2.2.2.2.2.1.length:Int)/\(↑v11.2.2.2.2.2.2.2.1.length:Int)<=(↑v11.2.2.2.2.2.2.2.1.length:Int))/\0=0/\(List.take ((↑v11.2.2.2.2.2.2.2.1.length:Int).toNat-Int.toNat (1:Int)) (List.drop (0+Int.toNat (1:Int)) v11.2.2.2.2.2.2.2.1)).length=(List.take ((↑v11.2.2.2.2.2.2.2.1.length:Int).toNat-Int.toNat (1:Int)) (List.drop (0+Int.toNat (1:Int)) v11.2.2.2.2.2.2.2.1)).length/\0=0/\v11.2.2.2.1.length=v11.2.2.2.1.length/\0=0/\v11.2.2.2.2.2.1.length=v11.2.2.2.2.2.1.length/\k10 (v11.1,v11.2.2.2.1,v11.2.2.2.2.1,v11.2.2.2.2.2.1,v11.2.2.2.2.2.2.1,List.take ((↑v11.2.2.2.2.2.2.2.1.length:Int).toNat-Int.toNat (1:Int)) (List.drop (0+Int.toNat (1:Int)) v11.2.2.2.2.2.2.2.1),v11.2.2.2.2.2.2.2.2.1,()))) (v9.1,0+l.toNat,(0:Int),v9.2.1,v9.2.2.1,v9.2.2.2.1,v9.2.2.2.2.1,List.take v9.2.2.2.2.2.1.length (List.drop 0 v9.2.2.2.2.2.1),v9.2.2.2.2.2.2.1,PUnit.unit)) (∃(iD:(List Int×PUnit)×PUnit),Kq.fn (v9.2.2.2.1.getD v9.1 [],())=some iD/\0=0/\iD.1.1.length=iD.1.1.length/\0=0/\v9.2.1.length=v9.2.1.length/\0=0/\v9.2.2.2.1.length=v9.2.2.2.1.length/\Bj (λ(fX:KR) (k13:KR->Prop)=>Br (decide (fX.2.1<(↑iD.1.1.length:Int))) (((0:Int)<=fX.2.1/\fX.2.1<(↑fX.2.2.2.2.2.2.1.length:Int))/\ ∃(Yu:Int),fX.2.2.2.2.2.2.1[0+fX.2.1.toNat]?=some Yu/\((0:Int)<=l/\l<(↑fX.2.2.1.length:Int))/\0=0/\fX.2.2.2.2.2.2.1.length=fX.2.2.2.2.2.2.1.length/\0=0/\fX.2.2.1.length=fX.2.2.1.length/\0=0/\fX.2.2.2.2.1.length=fX.2.2.2.2.1.length/\Bj (λ(Lb:tm) (k16:tm->Prop)=>Br (decide (Lb.2.2.1<(↑(fX.2.2.1.getD (0+l.toNat) []).length:Int))) (((0:Int)<=Lb.2.2.1/\Lb.2.2.1<(↑(Lb.2.2.2.1.getD Lb.2.1 []).length:Int))/\((0:Int)<=Yu/\Yu<(↑(Lb.2.2.2.2.2.1.getD Lb.1 []).length:Int))/\ ∃(zw:Option (List Int)),Qm.fn (((Lb.2.2.2.2.2.1.getD Lb.1 []).getD Yu.toNat (none:Option (List Int))).getD [],((Lb.2.2.2.1.getD Lb.2.1 []).getD Lb.2.2.1.toNat (none:Option (List Int))).getD [],())=some zw/\ ∃(FV:Int),idx (((Lb.2.2.2.1.getD Lb.2.1 []).getD Lb.2.2.1.toNat (none:Option (List Int))).getD []) Yu=some FV/\((0:Int)<=FV/\FV<(↑(Lb.2.2.2.2.2.1.getD Lb.1 []).length:Int))/\ ∃(XQ:List Int),El.fn (((Lb.2.2.2.2.2.1.getD Lb.1 []).getD FV.toNat (none:Option (List Int))).getD [],())=some XQ/\ ∃(SF:Option (List Int)),Qm.fn (zw.getD [],XQ,())=some SF/\0=0/\Lb.2.2.2.1.length=Lb.2.2.2.1.length/\0=0/\Lb.2.2.2.2.2.1.length=Lb.2.2.2.2.2.1.length/\ ∃(GG:(Int×List (List (Option (List Int)))×List (List (Option (List Int)))×PUnit)×PUnit),(Pd m).fn (Lb.2.2.2.2.2.2.2.2.1,Lb.2.2.2.1,Lb.2.2.2.2.2.1,IntKind.i64.wrap (l+(1:Int)),SF,())=some GG/\(Lb.1<(Pd m).Ct (Lb.2.2.2.2.2.2.2.2.1,Lb.2.2.2.1,Lb.2.2.2.2.2.1,IntKind.i64.wrap (l+(1:Int)),SF,())/\Lb.1<(List.length GG.1.2.2.1))/\(Lb.2.1<(Pd m).Ct (Lb.2.2.2.2.2.2.2.2.1,Lb.2.2.2.1,Lb.2.2.2.2.2.1,IntKind.i64.wrap (l+(1:Int)),SF,())/\Lb.2.1<(List.length GG.1.2.1))/\(Lb.1<(Pd m).Ct (Lb.2.2.2.2.2.2.2.2.1,Lb.2.2.2.1,Lb.2.2.2.2.2.1,IntKind.i64.wrap (l+(1:Int)),SF,())/\Lb.1<(List.length GG.1.2.2.1))/\(Lb.1<(Pd m).Ct (Lb.2.2.2.2.2.2.2.2.1,Lb.2.2.2.1,Lb.2.2.2.2.2.1,IntKind.i64.wrap (l+(1:Int)),SF,())/\Lb.1<(List.length GG.1.2.2.1))/\0=0/\Lb.2.2.2.2.2.2.2.1.length=Lb.2.2.2.2.2.2.2.1.length/\0=0/\GG.1.2.1.length=GG.1.2.1.length/\0=0/\GG.1.2.2.1.length=GG.1.2.2.1.length/\k16 (Lb.1,Lb.2.1,IntKind.i64.wrap (Lb.2.2.1+(1:Int)),GG.1.2.1,min Lb.2.2.2.2.1 ((Pd m).Ct (Lb.2.2.2.2.2.2.2.2.1,Lb.2.2.2.1,Lb.2.2.2.2.2.1,IntKind.i64.wrap (l+(1:Int)),SF,())),GG.1.2.2.1,min Lb.2.2.2.2.2.2.1 ((Pd m).Ct (Lb.2.2.2.2.2.2.2.2.1,Lb.2.2.2.1,Lb.2.2.2.2.2.1,IntKind.i64.wrap (l+(1:Int)),SF,())),Lb.2.2.2.2.2.2.2.1,GG.1.1,())) (0=0/\Lb.2.2.2.2.2.2.2.1.length=Lb.2.2.2.2.2.2.2.1.length/\0=0/\Lb.2.2.2.1.length=Lb.2.2.2.1.length/\0=0/\Lb.2.2.2.2.2.1.length=Lb.2.2.2.2.2.1.length/\k13 (Lb.1,IntKind.i64.wrap (fX.2.1+(1:Int)),Lb.2.2.2.1,Lb.2.2.2.2.1,Lb.2.2.2.2.2.1,Lb.2.2.2.2.2.2.1,Lb.2.2.2.2.2.2.2.1,Lb.2.2.2.2.2.2.2.2.1,()))) (fX.1,0+l.toNat,(0:Int),fX.2.2.1,fX.2.2.2.1,fX.2.2.2.2.1,fX.2.2.2.2.2.1,fX.2.2.2.2.2.2.1,fX.2.2.2.2.2.2.2.1,PUnit.unit)) ((0=0/\fX.2.2.1.length=fX.2.2.1.length)/\(0=0/\fX.2.2.2.2.1.length=fX.2.2.2.2.1.length)/\(Pd (m+1)).Ct (n,G,T,l,p,())<=fX.2.2.2.1/\(Pd (m+1)).Ct (n,G,T,l,p,())<=fX.2.2.2.2.2.1/\P ((fX.2.2.2.2.2.2.2.1,fX.2.2.1,fX.2.2.2.2.1,()),()))) (v9.1,(0:Int),v9.2.1,v9.2.2.1,v9.2.2.2.1,v9.2.2.2.2.1,iD.1.1,v9.2.2.2.2.2.2.1,PUnit.unit))) (0+l.toNat,G.set (0+l.toNat) (G.getD (0+l.toNat) []++List.take 1 (List.drop 0 [p])),min G.length (0+l.toNat),T,T.length,List.take y8.1.1.length (List.drop 0 y8.1.1),n,PUnit.unit))/\(((((0:Int)<=l/\l<(↑G.length:Int))/\((Gs G l p T y7 n))/\(Gs G l p T y7 n))/\((0:Int)<=l/\l<(↑G.length:Int))/\(Gs G l p T y7 n))/\((0:Int)<=l/\l<(↑G.length:Int))/\(Gs G l p T y7 n))/\(((((0:Int)<=l/\l<(↑G.length:Int))/\((Gs G l p T y7 n))/\(Gs G l p T y7 n))/\((0:Int)<=l/\l<(↑G.length:Int))/\(Gs G l p T y7 n))/\(((0:Int)<=l/\l<(↑G.length:Int))/\(((Gs G l p T y7 n))/\(Gs G l p T y7 n))/\(((Gs G l p T y7 n))/\((Gs G l p T y7 n))/\(Gs G l p T y7 n))/\((Gs G l p T y7 n))/\((Gs G l p T y7 n))/\(Gs G l p T y7 n))/\(((0:Int)<=l/\l<(↑G.length:Int))/\(Gs G l p T y7 n))/\((0:Int)<=l/\l<(↑G.length:Int))/\((Gs G l p T y7 n))/\((Gs G l p T y7 n))/\(Gs G l p T y7 n))/\(((0:Int)<=l/\l<(↑G.length:Int))/\(Gs G l p T y7 n))/\(((0:Int)<=l/\l<(↑G.length:Int))/\(Gs G l p T y7 n))/\((0:Int)<=l/\l<(↑G.length:Int))/\((Gs G l p T y7 n))/\((Gs G l p T y7 n))/\(Gs G l p T y7 n)))=fnMW (KW [Hr+7]) (look [(183,qG),(174,Kq),(156,Qm),(175,El),(173,gg.m (Pd m))]) (Pd (m+1)) Try.f173 (n,G,T,l,p,()) P:=by kernel_rfl
theorem u7 {k l:Nat} {p:List Int} {s:Cz×Cz} (h:Ja s.2 k l p=true):Dr k l p s=s:=by
 cases k with
 |zero=>rfl
 |succ k=>unfold Dr;rw [if_pos h]
theorem u6 (k l:Nat) (p:List Int) (s:Cz×Cz):Dr (k+1) l p s=if Ja s.2 (k+1) l p=true then s else
   (aR (Ra (s.1.getD l []++ [some p]) (s.2.getD l [])) (s.1.getD l []++ [some p])).foldl (λs q=>Dr k (l+1) q s)
    (s.1.set l (s.1.getD l []++ [some p]),s.2.set l (Ra (s.1.getD l []++ [some p]) (s.2.getD l []))):=rfl
theorem IM {n:Nat} {p:List Int} (h:Pm n p) {i:Nat} (hi:i<n):idx p (i:Int)=some (ap p i:Int):=by
 have gM:i<p.length:=by rw [h.1];exact hi
 rw [Ap gM,<-(h.Qu hi).1,Ih gM]
theorem xt {x:Int} {gs:List PO} {j:Nat} (hj:j<gs.length) (s:Row×List Int):Sk x (gs.take (j+1)) s=Su x (Sk x (gs.take j) s) gs[j]:=by
 unfold Sk
 rw [List.take_add_one,List.getElem?_eq_getElem hj,Option.toList_some,List.foldl_append]
 rfl
theorem xu {gs:List PO} {f:Nat} {row:Row} :Sd gs f [] row=row:=by cases f<;>rfl
theorem fe {n:Nat} {p:List Int} (h:Pm n p):0<p.length/\p.length<=20:=⟨by rw [h.1];exact h.n1,by rw [h.1];exact h.n2⟩
theorem yU {n:Nat} {p q:List Int} (h:Pm n p) (k:Pm n q):Gw q.length p:=by rw [k.1];exact h.row
theorem Aap {m:Nat} (n:Int) (G T:List (List (Option (List Int)))) (l:Int) (p:Option (List Int)) (h:(∃N L q,p=some q/\lA N L n G T l q)/\(n-l).toNat<m+1):
  fnMW (KW [Hr+7]) (look [(183,qG),(174,Kq),(156,Qm),(175,El),(173,gg.m (Pd m))]) (Pd (m+1)) Try.f173 (n,G,T,l,p,()) (λ(z:(Int×List (List (Option (List Int)))×List (List (Option (List Int)))×Unit)×Unit)=>z=((n,(Dr (n-l).toNat l.toNat (p.getD []) (G,T)).1,(Dr (n-l).toNat l.toNat (p.getD []) (G,T)).2,()),())):=by
 obtain ⟨⟨N,L,q,rfl,h⟩,hm⟩:=h
 have h':=h
 obtain ⟨n1,n2,en,el,hle,v,pm,fx⟩:=h
 subst en el
 have hk:((N:Int)-(L:Int)).toNat=N-L:=by omega
 rw [hk,Int.toNat_natCast]
 refine Eq.mp (Abf (N:Int) G T (L:Int) (some q) _) ⟨_,if_pos ⟨N,L,?a⟩,?b⟩
 case a=>
  simp only [List.drop_zero,List.take_length,Option.getD_some]
  exact h'
 obtain ⟨v1,v2,v3,v4⟩:=v
 dsimp only at v1 v2
 have hw:IntKind.i64.wrap ((L:Int)+1)=((L+1:Nat):Int):=Ak (by omega)
 simp only [Gs]
 simp only [List.drop_zero,List.take_length,Option.getD_some,hk,Int.toNat_natCast,Nat.zero_add,eq_self,true_and,and_true,List.take_succ_cons,List.take_zero,List.length_cons,List.length_nil,List.length_set,hw]
 refine Br.of (λhh=>⟨by show Int.toNat (L:Int)<=G.length;omega,by show Int.toNat (L:Int)<=T.length;omega,?_⟩) λhh=>?_
 ·rw [u7 (s:=(G,T)) hh]
 obtain ⟨k,hNk⟩: ∃k,N-L=k+1:=by
  cases e:N-L with
  |zero=>rw [e] at hh;simp [Ja] at hh
  |succ k=>exact ⟨k,rfl⟩
 have YG:L<N:=by omega
 have hv:V N (k+1) L (G,T):=by rw [<-hNk];exact ⟨v1,v2,v3,v4⟩
 rw [hNk] at hh⊢
 have e1:(0:Int)<=(L:Int)/\(L:Int)<(G.length:Int):=by omega
 have e1':(0:Int)<=(L:Int)/\(L:Int)<(T.length:Int):=by omega
 have hgl:(G.getD L []).length<=400:=MZ n2 (by omega) hv
 have e2:(G.getD L []).length+1<=Bo:=by show _<=4294967296;omega
 simp only [e1,e1',e2,and_self,true_and,and_true]
 generalize AA:G.getD L []++ [some q]=gs
 have Aji:gs.length<=401:=by rw [<-AA,List.length_append,List.length_singleton];omega
 have hg:PG N L gs:=by rw [<-AA];exact hv.pg pm fx
 have UC:Rf N L gs (T.getD L []):=by rw [<-AA];exact hv.Agg q
 obtain ⟨r1,r2,r3⟩:=w6 YG n2 hg UC
 generalize hR:Ra gs (T.getD L [])=R at r1 r2 r3
 have mr:Dr (k+1) L q (G,T)=(aR R gs).foldl (λs q=>Dr k (L+1) q s) (G.set L gs,T.set L R):=by
  rw [u6,if_neg (by rw [hh];simp)]
  dsimp only
  rw [AA,hR]
 rw [mr]
 have hTl:L<T.length:=by omega
 have hGl:L<G.length:=by omega
 have hG1:(G.set L gs).getD L []=gs:=e8 G L hGl gs
 have hT1: ∀row:Row,(T.set L row).getD L []=row:=e8 T L hTl
 refine ⟨_,if_pos (by show (T.getD L []).length<=20;rw [UC.rl];exact n2),?_⟩
 dsimp only
 have WZ:(Hz (T.getD L [])).length+Ll (T.getD L [])<=40:=by have:=so (T.getD L []);have:=vX (T.getD L []);have:=UC.rl;omega
 have hq0:BG gs (Hz (T.getD L [])) (T.getD L []):=⟨λy hy=>My.1 hy,λy hy=> .inl (My.2 ⟨y,rfl,hy⟩)⟩
 refine ⟨λv=> ∃(row:Row) (qu:List Int) (kg kt:Nat),v=(L,G.set L gs,kg,T.set L row,kt,qu,(N:Int),())/\L<=kg/\L<=kt/\qu.length+Ll row<=40/\Rf N L gs row/\BG gs qu row/\Sd gs (qu.length+Ll row) qu row=R,
  fun v=>v.2.2.2.2.2.1.length+Ll (v.2.2.2.1.getD v.1 []),⟨T.getD L [],Hz (T.getD L []),min G.length L,T.length,?_,by omega,by omega,WZ,UC,hq0,?_⟩,?_⟩
 ·rw [p9 T L hTl]
 ·rw [<-uj YG hg 100 _ _ (by omega) UC hq0];exact hR
 rintro v ⟨row,qu,kg,kt,rfl,TP,TS,hb,ID,hqi,HP⟩
 dsimp only
 simp only [hG1,hT1,List.length_set]
 refine Br.dec (λhl=>⟨e1.2,?_⟩) λhl=>?_
 ·cases qu with
  |nil=>simp at hl
  |cons x qu=>
  obtain ⟨p1,p2,xn,t,rfl,ht⟩:=yL YG hg ID hqi
  have AN:xn<N:=by rw [<-ID.rl];exact lk ht
  refine Am gs.length (λv=>v.2.2.1) (λj v=> ∃kg kt:Nat,v=(L,L,(j:Int),G.set L gs,kg,T.set L (Sk (xn:Int) (gs.take j) (row,qu)).1,kt,(xn:Int)::(Sk (xn:Int) (gs.take j) (row,qu)).2,(N:Int),())/\L<=kg/\L<=kt) rfl ⟨kg,kt,rfl,TP,TS⟩ ?_
  rintro j v K hj hi ⟨kg,kt,rfl,h1,h2⟩ hK
  dsimp only
  simp only [hG1,hT1,Int.toNat_natCast]
  refine Br.dec (λhl=>?_) λhl=>?_
  ·have hl:j<gs.length:=by omega
   obtain ⟨x1,x2⟩:=KC YG hg (gs.take j) (q:=qu) (λo ho=>List.mem_of_mem_take ho) ID ht
   have Og:=xt (x:=(xn:Int)) hl (row,qu)
   generalize Sk (xn:Int) (gs.take j) (row,qu)=s at x1 x2 Og⊢
   obtain ⟨r,qq⟩:=s
   dsimp only at x1 x2⊢
   obtain ⟨g,oD,Po,TI⟩:=hg gs[j] (List.getElem_mem hl)
   have htx:r.getD xn none=some t:=x1.mono _ _ ht
   obtain ⟨t1,t2,t3,t4⟩:=x1.ok.rt _ _ htx
   have ZT:r.length=N:=x1.ok.rl
   have hgj:gs.getD j none=some g:=by rw [HK hl];exact oD
   have hy:=Po.lt AN
   have hga:=(Po.Qu AN).1
   have NV:qq.length+Ll r=qu.length+Ll row:=x1.XL
   simp only [List.length_cons] at hb
   simp only [hgj,Option.getD_some]
   refine ⟨⟨by omega,by omega⟩,⟨by omega,by simp only [List.length_cons];omega⟩,_,rfl,_,IM Po AN,⟨by omega,by omega⟩,?_⟩
   rw [oD] at Og
   unfold Su at Og
   dsimp only at Og
   rw [Option.getD_some,hga,Int.toNat_natCast,Int.toNat_natCast,htx,Option.getD_some] at Og
   rw [Int.toNat_natCast]
   refine Br.of (λhn=>?_) λhn=>?_
   ·have hn:r.getD (ap g xn) none=none:=by
     cases e:r.getD (ap g xn) none with
     |none=>rfl
     |some u=>rw [e] at hn;simp at hn
    rw [hn] at Og
    refine ⟨⟨by omega,by simp only [List.length_cons];omega⟩,_,rfl,⟨by omega,by omega⟩,some (Aa t g),?_,⟨by omega,by omega⟩,?_,?_⟩
    ·rw [Int.toNat_natCast,htx,Option.getD_some]
     exact if_pos ⟨fe t1,yU t1 Po⟩
    ·show qq.length+1+1<=4294967296
     omega
    ·rw [Ak (by omega)]
     refine hK hl _ rfl ⟨kg,kt,?_,h1,h2⟩
     rw [Og,List.set_set]
     rfl
   ·have hn: ∃u,r.getD (ap g xn) none=some u:=by
     cases e:r.getD (ap g xn) none with
     |none=>rw [e] at hn;simp at hn
     |some u=>exact ⟨u,rfl⟩
    obtain ⟨u,hn⟩:=hn
    rw [hn] at Og
    rw [Ak (by omega)]
    refine hK hl _ rfl ⟨kg,kt,?_,h1,h2⟩
    rw [Og]
  ·have:j=gs.length:=by omega
   subst this
   rw [List.take_length]
   generalize hs:Sk (xn:Int) gs (row,qu)=s at p1 p2⊢
   obtain ⟨r,qq⟩:=s
   dsimp only at p1 p2⊢
   have NV:qq.length+Ll r=qu.length+Ll row:=p1.XL
   simp only [List.length_cons] at hb HP
   refine ⟨⟨by omega,by simp only [List.length_cons];omega,Int.le_refl _⟩,⟨r,qq,kg,kt,?_,h1,h2,by omega,p1.ok,p2,?_⟩,?_⟩
   ·simp
   ·rw [show qu.length+1+Ll row=(qu.length+Ll row)+1 by omega] at HP
    simp only [Sd,hs] at HP
    rw [NV]
    exact HP
   ·simp only [List.length_cons]
    have:(List.take (qq.length+1-Int.toNat 1) (List.drop (Int.toNat 1) ((xn:Int)::qq))).length=qq.length:=by simp
    rw [this]
    omega
 ·have:qu= []:=List.eq_nil_of_length_eq_zero (by omega)
  subst this
  rw [xu] at HP
  subst HP
  have hpr:=JX YG hg ID r3
  have hvl:=hv.lower gs row
  have RC: ∀qs:List (List Int),(∀q∈qs,q∈aR row gs)->V N k (L+1) (qs.foldl (λs q=>Dr k (L+1) q s) (G.set L gs,T.set L row))/\Wn (L+1) (G.set L gs,T.set L row) (qs.foldl (λs q=>Dr k (L+1) q s) (G.set L gs,T.set L row)):=
   fun qs NX=>zQ n1 n2 (by omega) qs _ (λq hq=>hpr q (NX q hq)) hvl
  refine ⟨_,if_pos (by show row.length<=20;rw [ID.rl];exact n2),?_⟩
  dsimp only
  have hol:=so row
  have ZT:=ID.rl
  refine Am (Hz row).length (λv=>v.2.1) (λi v=> ∃(s:Cz×Cz) (kg kt:Nat),v=(L,(i:Int),s.1,kg,s.2,kt,Hz row,(N:Int),())/\L<=kg/\L<=kt/\s=(((Hz row).take i).flatMap λy=>gs.map (Mu row y)).foldl (λs q=>Dr k (L+1) q s) (G.set L gs,T.set L row)) rfl ⟨_,kg,kt,rfl,TP,TS,rfl⟩ ?_
  rintro i v K hi gM ⟨s,kg,kt,rfl,h1,h2,hs⟩ hK
  dsimp only
  have Qd: ∀q∈((Hz row).take i).flatMap (λy=>gs.map (Mu row y)),q∈aR row gs:= λq hq=>by
   obtain ⟨y,hy,hq⟩:=List.mem_flatMap.1 hq
   exact List.mem_flatMap.2 ⟨y,List.mem_of_mem_take hy,hq⟩
  refine Br.dec (λhl=>?_) λhl=>?_
  ·have hl:i<(Hz row).length:=by omega
   obtain ⟨f1,f2⟩:=RC _ Qd
   rw [<-hs] at f1 f2
   have g1:s.1.getD L []=gs:=by rw [(f2.low L (by omega)).1];exact hG1
   have g2:s.1.length=N:=f1.1
   obtain ⟨yn,RT,hyr⟩:=My.1 (List.getElem_mem hl)
   obtain ⟨t,ht⟩:=Option.ne_none_iff_exists'.1 hyr
   have hyN:yn<N:=by rw [<-ZT];exact lk ht
   obtain ⟨t1,t2,t3,t4⟩:=ID.rt _ _ ht
   refine ⟨⟨by omega,by omega⟩,(yn:Int),by rw [Int.toNat_natCast,List.getElem?_eq_getElem hl,RT],by omega,?_⟩
   rw [g1]
   refine Am gs.length (λv=>v.2.2.1) (λj v=> ∃(s':Cz×Cz) (kg kt:Nat),v=(L,L,(j:Int),s'.1,kg,s'.2,kt,Hz row,(N:Int),())/\L<=kg/\L<=kt/\s'=(((Hz row).take i).flatMap (λy=>gs.map (Mu row y))++(gs.take j).map (Mu row (yn:Int))).foldl (λs q=>Dr k (L+1) q s) (G.set L gs,T.set L row)) rfl ⟨s,kg,kt,rfl,h1,h2,by simpa using hs⟩ ?_
   rintro j v K' hj BY ⟨s',kg,kt,rfl,h1,h2,pX⟩ YF
   dsimp only
   refine Br.dec (λHc=>?_) λHc=>?_
   ·have Hc:j<gs.length:=by omega
    have AL: ∀q∈((Hz row).take i).flatMap (λy=>gs.map (Mu row y))++(gs.take j).map (Mu row (yn:Int)),q∈aR row gs:= λq hq=>by
     rcases List.mem_append.1 hq with hq|hq
     ·exact Qd q hq
     ·obtain ⟨o,ho,rfl⟩:=List.mem_map.1 hq
      exact List.mem_flatMap.2 ⟨(yn:Int),My.2 ⟨yn,rfl,hyr⟩,List.mem_map.2 ⟨o,List.mem_of_mem_take ho,rfl⟩⟩
    obtain ⟨WN,f2'⟩:=RC _ AL
    rw [<-pX] at WN f2'
    obtain ⟨G',T'⟩:=s'
    dsimp only at WN f2'⊢
    have g1':G'.getD L []=gs:=by have:=(f2'.low L (by omega)).1;dsimp only at this;rw [this];exact hG1
    have g3':T'.getD L []=row:=by have:=(f2'.low L (by omega)).2;dsimp only at this;rw [this];exact hT1 row
    have g4':G'.length=N:=WN.1
    have g5':T'.length=N:=WN.2.1
    obtain ⟨g,oD,Po,TI⟩:=hg gs[j] (List.getElem_mem Hc)
    have hgj:gs.getD j none=some g:=by rw [HK Hc];exact oD
    have hgm:some g∈gs:=by rw [<-oD];exact List.getElem_mem Hc
    have hy:=Po.lt hyN
    obtain ⟨t',lu⟩:=Option.ne_none_iff_exists'.1 (r3 yn t g ht hgm)
    obtain ⟨u1,u2,u3,u4⟩:=ID.rt _ _ lu
    have ZW:Mu row (yn:Int) gs[j]=Aa (Aa t g) (An t'):=by rw [oD];exact cM ht lu
    have RN:=hpr _ (List.mem_flatMap.2 ⟨(yn:Int),My.2 ⟨yn,rfl,hyr⟩,List.mem_map.2 ⟨gs[j],List.getElem_mem Hc,ZW⟩⟩)
    simp only [g1',g3',Int.toNat_natCast,hgj,ht,Option.getD_some]
    have mo:L<Int.toNat ((L+1:Nat):Int):=by omega
    have HM:=r6 n1 n2 k (L+1) _ (G',T') (by omega) WN RN.1 RN.2
    have Ah8:((Dr k (L+1) (Aa (Aa t g) (An t')) (G',T')).1).length=N:=HM.v.1
    have Ah9:((Dr k (L+1) (Aa (Aa t g) (An t')) (G',T')).2).length=N:=HM.v.2.1
    have MD:((N:Int)-((L+1:Nat):Int)).toNat=k:=by omega
    refine ⟨⟨by omega,by omega⟩,⟨by omega,by omega⟩,some (Aa t g),if_pos ⟨fe t1,yU t1 Po⟩,_,IM Po hyN,⟨by omega,by omega⟩,An t',?_,some (Aa (Aa t g) (An t')),?_,_,if_pos ⟨⟨N,L+1,_,rfl,?pr⟩,?lt⟩,⟨mo,?k1⟩,⟨mo,?k2⟩,⟨mo,?k3⟩,⟨mo,?k4⟩,?go⟩
    case pr=>exact ⟨n1,n2,rfl,rfl,by omega,by rw [show N-(L+1)=k by omega];exact WN,RN.1,RN.2⟩
    case lt=>
     show ((N:Int)-((L+1:Nat):Int)).toNat<m
     omega
    case go=>
     dsimp only
     rw [Ak (by omega)]
     refine YF Hc _ rfl ⟨_,_,_,rfl,?_,?_,?_⟩
     ·show L<=min kg (Int.toNat ((L+1:Nat):Int));omega
     ·show L<=min kt (Int.toNat ((L+1:Nat):Int));omega
     ·rw [List.take_add_one,List.getElem?_eq_getElem Hc,Option.toList_some,List.map_append,<-List.append_assoc,List.foldl_append,<-pX]
      simp only [List.map_cons,List.map_nil,List.foldl_cons,List.foldl_nil,ZW,MD,Int.toNat_natCast,Option.getD_some]
    case k1=>simp only [MD,Int.toNat_natCast,Option.getD_some];omega
    case k2=>simp only [MD,Int.toNat_natCast,Option.getD_some];omega
    case k3=>simp only [MD,Int.toNat_natCast,Option.getD_some];omega
    case k4=>simp only [MD,Int.toNat_natCast,Option.getD_some];omega
    ·rw [Int.toNat_natCast,lu,Option.getD_some]
     exact if_pos ⟨by show t'.length<=20;rw [u1.1];exact n2,u1.2.row⟩
    ·exact if_pos ⟨fe (t1.comp Po),yU (t1.comp Po) u1.inv⟩
   ·have:j=gs.length:=by omega
    subst this
    rw [Ak (by omega)]
    refine hK hl _ rfl ⟨s',kg,kt,rfl,h1,h2,?_⟩
    rw [pX,List.take_length,List.take_add_one,List.getElem?_eq_getElem hl,Option.toList_some,List.flatMap_append,RT]
    simp
  ·have:i=(Hz row).length:=by omega
   subst this
   rw [List.take_length] at hs
   refine ⟨h1,h2,?_⟩
   rw [hs]
   rfl
theorem KO {m:Nat} (UP:Ea Try.prog 173 (Pd m)):Ea Try.prog 173 (Pd (m+1)):=
 Ea.xf (PQ [Hr+7]) (Ah EL (Ri eB (Ah nA (Ah Ph (Ri UP At))))) mixed Try.func173 (by kernel_rfl) (by kernel_rfl) λx h=>Aap x.1 x.2.1 x.2.2.1 x.2.2.2.1 x.2.2.2.2.1 h
theorem z6:Ea Try.prog 173 (Pd 0):=
 Ea.xf jH At mixed Try.func173 (by kernel_rfl) (by kernel_rfl) λ_ h=>absurd h.2 (Nat.not_lt_zero _)
theorem ny: ∀m,Ea Try.prog 173 (Pd m)
 |0=>z6
 |m+1=>KO (ny m)
noncomputable abbrev sL:MSpec:=xf RX (λx=> ∃N L q,x.2.2.2.2.1=some q/\lA N L x.1 x.2.1 x.2.2.1 x.2.2.2.1 q)
 (λx=>((x.1,(Dr (x.1-x.2.2.2.1).toNat x.2.2.2.1.toNat (x.2.2.2.2.1.getD []) (x.2.1,x.2.2.1)).1,(Dr (x.1-x.2.2.2.1).toNat x.2.2.2.1.toNat (x.2.2.2.2.1.getD []) (x.2.1,x.2.2.1)).2,()),()))
theorem z7:Ea Try.prog 173 sL:=Ea.Aan (λx=>(x.1-x.2.2.2.1).toNat) ny
end Go.Proofs.Ytjbdmibbbpdnnaa

namespace Go.Proofs.Ytjbdmibbbpdnnaa
open Go.RowKit
def Si (n:Nat):Cz:=List.replicate n []
def Yr (n i:Nat):Row:=(List.replicate n none).set i (some (upto n))
def Xc (n:Nat):Cz:=(List.range n).map λi=>Yr n i
def Nd (n:Nat) (gens:List PO):Cz×Cz:=gens.foldl (λs o=>Dr n 0 (o.getD []) s) (Si n,Xc n)
noncomputable abbrev yd:MSpec:= {Hb:= [none,none],ins:= [(false, .Hf tI),(false, .Hf XM)],Gb:=false,Gd:= [none,none,none],outs:= [.Hf tI, .Al tO SD false, .Al tO SD false],fn:= λ_=>none,rp:=some 179}
noncomputable abbrev cL:MSpec:=xf yd (λx=>(1<=x.1/\x.1<=20)/\List.length x.2.1<=4294967296/\ ∀o∈(x.2.1:List PO),∃g,o=some g/\Pm x.1.toNat g)
 (λx=>((x.1,(Nd x.1.toNat x.2.1).1,(Nd x.1.toNat x.2.1).2,()),()))
abbrev Tg:Type:=Int×List (List (Option (List Int)))×Int×List (List (Option (List Int)))×PUnit
theorem x4 (n:Int) (gens:List (Option (List Int))) (P:(Int×List (List (Option (List Int)))×List (List (Option (List Int)))×Unit)×Unit->Prop):(((0:Int)<=n/\n<(↑Bo:Int)+(1:Int))/\n=n/\0=0/\(List.replicate n.toNat ([]:List (Option (List Int)))).length=(List.replicate n.toNat ([]:List (Option (List Int)))).length/\0=0/\0=([]:List Int).length/\Bj (λ(v3:Tg) (k4:Tg->Prop)=>Br (decide (v3.1<n)) (((0:Int)<=n/\n<(↑Bo:Int)+(1:Int))/\n=n/\ ∃(y5:Option (List Int)),We.fn (n,())=some y5/\((0:Int)<=v3.1/\v3.1<(↑(List.replicate n.toNat (none:Option (List Int))).length:Int))/\0+v3.1.toNat<(List.replicate n.toNat (none:Option (List Int))).length/\0=0/\(List.replicate n.toNat (none:Option (List Int))).length=((List.replicate n.toNat (none:Option (List Int))).set (0+v3.1.toNat) y5).length/\(0=0/\v3.2.2.2.1.length=v3.2.2.2.1.length)/\(0=0/\1= [(List.replicate n.toNat (none:Option (List Int))).set (0+v3.1.toNat) y5].length)/\0< [(List.replicate n.toNat (none:Option (List Int))).set (0+v3.1.toNat) y5].length/\v3.2.2.2.1.length+ [(List.replicate n.toNat (none:Option (List Int))).set (0+v3.1.toNat) y5].length<=Bo/\0=0/\v3.2.1.length=v3.2.1.length/\0=0/\(v3.2.2.2.1++ [(List.replicate n.toNat (none:Option (List Int))).set (0+v3.1.toNat) y5]).length=(v3.2.2.2.1++ [(List.replicate n.toNat (none:Option (List Int))).set (0+v3.1.toNat) y5]).length/\k4 (IntKind.i64.wrap (v3.1+(1:Int)),v3.2.1,v3.2.2.1,v3.2.2.2.1++ [(List.replicate n.toNat (none:Option (List Int))).set (0+v3.1.toNat) y5],())) (0=0/\v3.2.1.length=v3.2.1.length/\0=0/\v3.2.2.2.1.length=v3.2.2.2.1.length/\Bj (λ(v5:Tg) (k6:Tg->Prop)=>Br (decide (v5.1<(↑gens.length:Int))) (∃(y7:Option (List Int)),idx gens v5.1=some y7/\0=0/\v5.2.1.length=v5.2.1.length/\0=0/\v5.2.2.2.1.length=v5.2.2.2.1.length/\ ∃(y8:(Int×List (List (Option (List Int)))×List (List (Option (List Int)))×PUnit)×PUnit),sL.fn (v5.2.2.1,v5.2.1,v5.2.2.2.1,(0:Int),y7,())=some y8/\0=0/\y8.1.2.1.length=y8.1.2.1.length/\0=0/\y8.1.2.2.1.length=y8.1.2.2.1.length/\k6 (IntKind.i64.wrap (v5.1+(1:Int)),y8.1.2.1,y8.1.1,y8.1.2.2.1,())) ((0=0/\v5.2.1.length=v5.2.1.length)/\(0=0/\v5.2.2.2.1.length=v5.2.2.2.1.length)/\P ((v5.2.2.1,v5.2.1,v5.2.2.2.1,()),()))) ((0:Int),v3.2.1,v3.2.2.1,v3.2.2.2.1,PUnit.unit))) ((0:Int),List.replicate n.toNat ([]:List (Option (List Int))),n,[],PUnit.unit))=fnMW Th (look [(127,We),(173,sL)]) cL Try.f154 (n,gens,()) P:=by kernel_rfl
theorem Vg (n i:Nat):(Si n).getD i []= []:=by
 unfold Si
 rw [List.getD_eq_getElem?_getD,List.getElem?_replicate]
 split<;>rfl
theorem fR {n i:Nat} (h:i<n):(Xc n).getD i []=Yr n i:=by
 unfold Xc
 rw [List.getD_eq_getElem?_getD,List.getElem?_map,List.getElem?_range h]
 rfl
theorem iw {n i y:Nat} (h:i<n):(Yr n i).getD y none=if i=y then some (upto n) else none:=by
 unfold Yr
 rw [Nr,List.length_replicate]
 by_cases e:i=y
 ·rw [if_pos ⟨e,h⟩,if_pos e]
 ·rw [if_neg (λhh=>e hh.1),if_neg e,List.getD_eq_getElem?_getD,List.getElem?_replicate]
  split<;>rfl
theorem nS {n:Nat} (h1:1<=n) (h2:n<=20): ∀(k l:Nat),l+k=n->eR n k l (Si n,Xc n)
 |0,l,hk=>Vg n l
 |k+1,l,hk=>by
  have hl:l<n:=by omega
  have hg: ∀(g:List Int) (j:Nat),some g∈(Si n).getD j []->False:= λg j hg=>by rw [Vg] at hg;cases hg
  refine ⟨nS h1 h2 k (l+1) (by omega),⟨λo ho=>?_,?_,?_,λy t e0=>?_,λy t g _ Yv=>(hg _ _ Yv).elim,λy t g t' _ Yv=>(hg _ _ Yv).elim⟩,λg Yv=>(hg _ _ Yv).elim⟩
  ·have ho:o∈(Si n).getD l []:=ho
   rw [Vg] at ho;cases ho
  ·show ((Xc n).getD l []).length=n
   rw [fR hl];simp [Yr]
  ·show ((Xc n).getD l []).getD l none=_
   rw [fR hl,iw hl,if_pos rfl]
  ·replace e0:((Xc n).getD l []).getD y none=some t:=e0
   rw [fR hl,iw hl] at e0
   by_cases hy:l=y
   ·rw [if_pos hy] at e0
    have e1:=Option.some.inj e0
    subst e1 hy
    exact ⟨Pm.id h1 h2,λi hi=>dS (by omega),dS hl, .id⟩
   ·rw [if_neg hy] at e0;cases e0
theorem wK (n:Nat): ∀(k l:Nat),XS k l (Si n,Xc n)
 |0,_=>trivial
 |k+1,l=>⟨wK n k (l+1),by show ((Si n).getD l []).length<=_;rw [Vg];exact Nat.zero_le _⟩
theorem BA {n:Nat} (h1:1<=n) (h2:n<=20):V n n 0 (Si n,Xc n):=⟨by simp [Si],by simp [Xc],nS h1 h2 n 0 (by omega),wK n n 0⟩
def PmL (n:Nat) (gens:List PO):Prop:= ∀o∈gens,∃g,o=some g/\Pm n g
theorem u5 {n:Nat} {gens:List PO} {j:Nat} (hj:j<gens.length):Nd n (gens.take (j+1))=Dr n 0 (gens[j].getD []) (Nd n (gens.take j)):=by
 unfold Nd
 rw [List.take_add_one,List.getElem?_eq_getElem hj,Option.toList_some,List.foldl_append]
 rfl
theorem iK {n:Nat} (h1:1<=n) (h2:n<=20): ∀(gens:List PO) (s:Cz×Cz),PmL n gens->V n n 0 s->V n n 0 (gens.foldl (λs o=>Dr n 0 (o.getD []) s) s)/\
  Wn 0 s (gens.foldl (λs o=>Dr n 0 (o.getD []) s) s)/\(∀g,some g∈gens->Gn n ((gens.foldl (λs o=>Dr n 0 (o.getD []) s) s).1.getD 0 []) g)/\ ∀o∈(gens.foldl (λs o=>Dr n 0 (o.getD []) s) s).1.getD 0 [],o∈s.1.getD 0 []\/o∈gens
 | [],s,_,hv=>⟨hv,Wn.refl _ _,(λ_ hg=>by cases hg),λ_ ho=> .inl ho⟩
 |o::gens,s,hg,hv=>by
  obtain ⟨g,rfl,Po⟩:=hg o (by simp)
  have ha:=r6 h1 h2 n 0 g s (by omega) hv Po (λi hi=>absurd hi (Nat.not_lt_zero _))
  obtain ⟨a1,a2,a3,a4⟩:=iK h1 h2 gens (Dr n 0 g s) (λo ho=>hg o (by simp [ho])) ha.v
  refine ⟨a1,ha.grow.trans a2 (Nat.le_refl _),λg' Yv=>?_,λo ho=>?_⟩
  ·rcases List.mem_cons.1 Yv with e|Yv
   ·cases e;exact ha.Aag.mono λg hg=>a2.zU _ _ hg
   ·exact a3 g' Yv
  ·rcases a4 o ho with h|h
   ·rcases ha.gens o h with h|h
    ·exact .inl h
    ·exact .inr (by simp [h])
   ·exact .inr (by simp [h])
theorem tZ {n:Nat} (h1:1<=n) (h2:n<=20) {gens:List PO} (hg:PmL n gens):V n n 0 (Nd n gens):=(iK h1 h2 gens _ hg (BA h1 h2)).1
theorem me {n:Nat} (h1:1<=n) (h2:n<=20) {gens:List PO} (hg:PmL n gens) {p:List Int} (hp:Pm n p):Ja (Nd n gens).2 n 0 p=true↔Gn n gens p:=by
 obtain ⟨a1,a2,a3,a4⟩:=iK h1 h2 gens _ hg (BA h1 h2)
 have hS:zA n λg=>some g∈gens:=⟨⟨h1,h2⟩,λg Yv=>by obtain ⟨g',e,h⟩:=hg _ Yv;cases e;exact h⟩
 have Qd: ∀g,some g∈(Nd n gens).1.getD 0 []->some g∈gens:= λg Yv=>by
  rcases a4 _ Yv with h|h
  ·have h:some g∈(Si n).getD 0 []:=h
   rw [Vg] at h;cases h
  ·exact h
 have YH:zA n λg=>some g∈(Nd n gens).1.getD 0 []:=⟨⟨h1,h2⟩,λg Yv=>hS.2 g (Qd g Yv)⟩
 refine (gK h1 h2 n 0 (Nd n gens) (by omega) a1.2.2.1 p hp λi hi=>absurd hi (Nat.not_lt_zero _)).trans ⟨λh=>h.mono Qd,λh=>h.trans YH λg Yv=>a3 g Yv⟩
theorem wc (n:Int) (gens:List (Option (List Int))) (h:(1<=n/\n<=20)/\List.length gens<=4294967296/\ ∀o∈(gens:List PO),∃g,o=some g/\Pm n.toNat g):
  fnMW Th (look [(127,We),(173,sL)]) cL Try.f154 (n,gens,()) (λ(z:(Int×List (List (Option (List Int)))×List (List (Option (List Int)))×Unit)×Unit)=>z=((n,(Nd n.toNat gens).1,(Nd n.toNat gens).2,()),())):=by
 obtain ⟨⟨h1,h2⟩,h3,hg⟩:=h
 obtain ⟨N,rfl⟩: ∃N:Nat,n=N:=⟨n.toNat,by omega⟩
 rw [Int.toNat_natCast] at hg⊢
 have h1:1<=N:=by omega
 have h2:N<=20:=by omega
 refine Eq.mp (x4 (N:Int) gens _) ?_
 have hm:((0:Int)<=(N:Int)/\(N:Int)<(Bo:Int)+1):=⟨by omega,by show (N:Int)<(4294967296:Int)+1;omega⟩
 simp only [hm,and_self,eq_self,true_and,Int.toNat_natCast,Nat.zero_add,List.length_nil,List.length_set,List.length_replicate,List.length_cons,Nat.lt_add_one,List.length_append]
 refine Am N (λv=>v.1) (λj v=>v=((j:Int),Si N,(N:Int),(List.range j).map (Yr N),())) rfl rfl ?_
 rintro j v K hj hi rfl hK
 dsimp only
 refine Br.dec (λhl=>?_) λhl=>?_
 ·refine ⟨_,if_pos ⟨by show (1:Int)<=N;omega,by show (N:Int)<=20;omega⟩,⟨by omega,by omega⟩,by rw [Int.toNat_natCast];omega,?_,?_⟩
  ·show _<=4294967296
   simp only [List.length_map,List.length_range]
   omega
  ·rw [Ak (by omega)]
   refine hK (by omega) _ rfl ?_
   rw [List.range_succ,List.map_append]
   rfl
 ·have:j=N:=by omega
  subst this
  refine Am gens.length (λv=>v.1) (λi v=>v=((i:Int),(Nd j (gens.take i)).1,(j:Int),(Nd j (gens.take i)).2,())) rfl rfl ?_
  rintro i v K' gM Ajk rfl YF
  dsimp only
  refine Br.dec (λHc=>?_) λHc=>?_
  ·have Hc:i<gens.length:=by omega
   obtain ⟨g,oD,Po⟩:=hg gens[i] (List.getElem_mem Hc)
   have hv:=tZ h1 h2 (gens:=gens.take i) λo ho=>hg o (List.mem_of_mem_take ho)
   refine ⟨_,Ap Hc,_,if_pos ⟨j,0,g,oD,h1,h2,rfl,rfl,Nat.zero_le _,hv,Po,λi hi=>absurd hi (Nat.not_lt_zero _)⟩,?_⟩
   rw [Ak (by omega)]
   refine YF Hc _ rfl ?_
   rw [u5 Hc]
   simp only [Int.sub_zero,Int.toNat_natCast]
   rfl
  ·have:i=gens.length:=by omega
   subst this
   rw [List.take_length]
theorem l7:Ea Try.prog 154 cL:=
 Ea.xf jH (Ah l5 (Ri z7 At)) mixed Try.func154 (by kernel_rfl) (by kernel_rfl) λx h=>wc x.1 x.2.1 h
end Go.Proofs.Ytjbdmibbbpdnnaa

namespace Go.Proofs.Ytjbdmibbbpdnnaa
open Go.RowKit
def Uu (T:Cz):Nat->Nat
 |0=>1
 |j+1=>Uu T j*(Hz (T.getD j [])).length
noncomputable abbrev dF:Spec:=Dg (.pair (.ptr tp) (.pair tI .unit)) tI false true (λx=>x.2.1=0/\ ∃N:Nat,(1<=N/\N<=20)/\x.1.1=N/\V N N 0 (x.1.2.1,x.1.2.2.1)) (λx=>(Uu x.1.2.2.1 x.1.1.toNat:Int))
noncomputable abbrev vh:MSpec:= {Hb:= [none,none],ins:= [(false, .Hf tI),(false, .Hf dP)],Gb:=false,Gd:= [none,none,none],outs:= [.Hf tI, .Al tO SD false, .Al tO SD false],fn:= λ_=>none,rp:=some 179}
def Sv (n:Int) (g:List (List Int)):Cz×Cz:=Nd n.toNat (g.map some)
noncomputable abbrev Qp:MSpec:=xf vh (λx=>(1<=x.1/\x.1<=20)/\List.length x.2.1<=4294967296/\ ∀g∈(x.2.1:List (List Int)),Pm x.1.toNat g)
 (λx=>((x.1,(Sv x.1 x.2.1).1,(Sv x.1 x.2.1).2,()),()))
noncomputable def Ow (p:PP):Int:=if Bh p=true then (Uu (Sv p.1 p.2.2.1).2 p.1.toNat:Int) else 0
noncomputable abbrev Lz:Spec:=Dg (.pair Eh .unit) tI false true (λx=>Eu x.1) (λx=>Ow x.1)
theorem QB (c:Int×List (List (Option (List Int)))×List (List (Option (List Int)))×Unit) (l:Int) (P:Int->Prop):(Bj (λ(v3:Int×Int×PUnit) (k4:Int×Int×PUnit->Prop)=>Br (decide (v3.2.1<c.1)) (∃(y5:List (Option (List Int))),idx c.2.2.1 v3.2.1=some y5/\ ∃(y6:(List Int×PUnit)×PUnit),Kq.fn (y5,())=some y6/\ ∃(y7:Int),Ke.fn (List.take y6.1.1.length (List.drop 0 y6.1.1),())=some y7/\k4 (IntKind.i64.wrap (v3.1*y7),IntKind.i64.wrap (v3.2.1+(1:Int)),())) (P v3.1)) ((1:Int),l,PUnit.unit))=fnW Th (look [(174,Kq),(82,Ke)]) dF Try.f155 (c,l,()) P:=by kernel_rfl
theorem tM (p:Int×ByteArray×List (List Int)×Unit) (P:Int->Prop):(∃(y2:Bool),Fu.fn ((p.1,p.2.1,p.2.2.1,()),())=some y2/\Br (!y2) (P (0:Int)) (∃(y3:(Int×List (List (Option (List Int)))×List (List (Option (List Int)))×PUnit)×PUnit),Qp.fn (p.1,p.2.2.1,())=some y3/\ ∃(y4:Int),dF.fn ((y3.1.1,List.take y3.1.2.1.length (List.drop 0 y3.1.2.1),List.take y3.1.2.2.1.length (List.drop 0 y3.1.2.2.1),()),(0:Int),())=some y4/\P y4))=fnW Cu (look [(130,Fu),(154,Qp),(155,dF)]) Lz Try.f126 (p,()) P:=by kernel_rfl
theorem PS (n i:Nat):(upto n).countP (λy=>decide ((i:Int)<=y))=n-i:=by
 induction n with
 |zero=>simp [upto]
 |succ n ih=>
  rw [Ys,List.countP_append,ih]
  simp only [List.countP_cons,List.countP_nil,decide_eq_true_eq]
  split<;>omega
theorem OR {n i:Nat} {gs:List PO} {row:Row} {H:List Int->Prop} (hi:i<n) (h:MK n i gs row H):(Hz row).length<=n-i:=by
 rw [<-PS n i]
 unfold Hz
 rw [h.rl,<-List.countP_eq_length_filter]
 refine List.countP_mono_left λy hy hs=>?_
 obtain ⟨h1,h2⟩:=Im.1 hy
 obtain ⟨t,ht⟩:=Option.isSome_iff_exists.1 hs
 obtain ⟨t1,t2,t3,_⟩:=h.rt _ _ ht
 refine decide_eq_true ?_
 refine Classical.byContradiction λhn=>?_
 have hy':y.toNat<i:=by omega
 have:=t1.inj hi (by omega:y.toNat<n) (by rw [t3,t2 _ hy'])
 omega
def fact:Nat->Nat
 |0=>1
 |n+1=>(n+1)*fact n
theorem uK: ∀n,1<=fact n
 |0=>Nat.le_refl _
 |n+1=>by have:=uK n;simp only [fact];exact Nat.le_trans this (Nat.le_mul_of_pos_left _ (by omega))
theorem BS {a b:Nat} (h:a<=b):fact a<=fact b:=by
 induction h with
 |refl=>exact Nat.le_refl _
 |step _ ih=>simp only [fact];exact Nat.le_trans ih (Nat.le_mul_of_pos_left _ (by omega))
theorem JM {n:Nat} {s:Cz×Cz} (hc:eR n n 0 s): ∀j,j<=n->Uu s.2 j*fact (n-j)<=fact n
 |0,_=>by simp [Uu]
 |j+1,hj=>by
  have ih:=JM hc j (by omega)
  have h1:=OR (by omega) (gr n 0 hc j (by omega) (by omega))
  have e:n-j=(n-(j+1))+1:=by omega
  simp only [Uu]
  rw [e] at ih h1
  simp only [fact] at ih
  rw [Nat.mul_assoc]
  exact Nat.le_trans (Nat.mul_le_mul_left _ (Nat.mul_le_mul_right _ h1)) ih
theorem DA {n:Nat} (h2:n<=20) {s:Cz×Cz} (hc:eR n n 0 s) {j:Nat} (hj:j<=n):Uu s.2 j<=2432902008176640000:=by
 have h1:=JM hc j hj
 have h3:=uK (n-j)
 have h4:fact n<=2432902008176640000:=Nat.le_trans (BS h2) (by decide)
 have h5:Uu s.2 j*1<=Uu s.2 j*fact (n-j):=Nat.mul_le_mul_left _ h3
 omega
theorem OZ (c:Int×List (List (Option (List Int)))×List (List (Option (List Int)))×Unit) (l:Int) (h:l=0/\ ∃N:Nat,(1<=N/\N<=20)/\c.1=N/\V N N 0 (c.2.1,c.2.2.1)):
  fnW Th (look [(174,Kq),(82,Ke)]) dF Try.f155 (c,l,()) (λ(z:Int)=>z=(Uu c.2.2.1 c.1.toNat:Int)):=by
 obtain ⟨rfl,N,⟨h1,h2⟩,hN,v⟩:=h
 obtain ⟨n,G,T,⟨⟩⟩:=c
 dsimp only at hN v⊢
 subst hN
 refine Eq.mp (QB ((N:Int),G,T,()) 0 _) ?_
 obtain ⟨v1,v2,v3,v4⟩:=v
 dsimp only at v1 v2⊢
 rw [Int.toNat_natCast]
 refine Am N (λv=>v.2.1) (λj v=>v.1=(Uu T j:Int)) rfl rfl ?_
 rintro j ⟨o,i,⟨⟩⟩ K hj hi ho hK
 dsimp only at hi ho⊢
 subst hi ho
 refine Br.dec (λhl=>?_) λhl=>?_
 ·have hl:j<N:=by omega
  have hT:j<T.length:=by omega
  have Qc:=gr N 0 v3 j (by omega) (by omega)
  have ZT:=Qc.rl
  dsimp only at ZT
  rw [uR hT] at ZT
  refine ⟨_,Ap hT,_,if_pos (by show (T[j]).length<=20;omega),_,if_pos trivial,?_⟩
  rw [List.drop_zero,List.take_length,Ak (by omega)]
  have hb:=DA h2 v3 (j:=j+1) (by omega)
  simp only [Uu] at hb
  rw [uR hT] at hb
  have e:(Uu T j:Int)*((Hz T[j]).length:Int)=((Uu T j*(Hz T[j]).length:Nat):Int):=by push_cast;rfl
  show K (IntKind.i64.wrap ((Uu T j:Int)*((Hz T[j]).length:Int)),_,())
  rw [e,Bs (by omega) (by omega)]
  refine hK hl _ rfl ?_
  simp only [Uu]
  rw [uR hT]
 ·have:j=N:=by omega
  subst this
  rfl
theorem wH:Sound Try.prog 155 dF:=
 Sound.Dg jH (Ri eB (Ah Vd At)) mixed Try.func155 (by kernel_rfl) (by kernel_rfl) λx h=>OZ x.1 x.2.1 h
theorem Cells.told {w:World} {S:Nat->Prop} {e:Ty} {cs:List Value} {xs:List e.den} (h:Cells w S (.slice e) cs xs): ∃o:Option (List e.den),Cells w S (.oslice e) cs o/\o.getD []=xs:=by
 simp only [Cells] at h
 obtain ⟨a,len,cap,rfl,h1,h2,h3⟩:=h
 cases a with
 |none=>
  rcases h3 with rfl|⟨g,o,h,_⟩
  ·refine ⟨none,?_,rfl⟩
   simp only [Cells]
   exact .inl ⟨trivial,cap,by rw [h1];rfl⟩
  ·cases h
 |some ad=>
  refine ⟨some xs,?_,rfl⟩
  simp only [Cells]
  exact .inr ⟨xs,ad,len,cap,rfl,rfl,h1,h2,h3.imp id λ⟨g,o,h,h4⟩=>⟨g,o,Option.some.inj h,h4⟩⟩
theorem xo {α β:Type} (Q:Nat->α->β->Prop): ∀(xs:List α),(∀i x,xs[i]?=some x-> ∃y,Q i x y)-> ∃ys:List β,ys.length=xs.length/\ ∀i x y,xs[i]?=some x->ys[i]?=some y->Q i x y:=by
 intro xs h
 refine ⟨List.ofFn λi:Fin xs.length=>Classical.choose (h i xs[i] (List.getElem?_eq_getElem i.2)),by simp,λi x y h1 h2=>?_⟩
 obtain ⟨hi,rfl⟩:=List.getElem?_eq_some_iff.1 h1
 obtain ⟨gM,rfl⟩:=List.getElem?_eq_some_iff.1 h2
 rw [List.getElem_ofFn]
 exact Classical.choose_spec (h i xs[i] (List.getElem?_eq_getElem hi))
theorem Bc.Abe {w:World} {S:Nat->Prop} {e:Ty} {v:Value} {xs:List (List e.den)} (h:Bc w S (.slice (.slice e)) v xs): ∃os:List (Option (List e.den)),Bc w S (.slice (.oslice e)) v os/\os.map (·.getD [])=xs:=by
 obtain ⟨cs,hc,rfl⟩:=h
 simp only [Cells] at hc
 obtain ⟨a,len,cap,rfl,h1,h2,h3⟩:=hc
 rcases h3 with rfl|⟨g,o,rfl,hg,hS,h4⟩
 ·refine ⟨[],⟨_,?_,rfl⟩,rfl⟩
  simp only [Cells]
  exact ⟨a,len,cap,rfl,h1,h2, .inl trivial⟩
 ·obtain ⟨os,e1,e2⟩:=xo (λi (x:List e.den) (y:Option (List e.den))=>y.getD []=x/\ ∃es:List Value,es.length=1/\(∀j u,es[j]?=some u->w.cell? ⟨g,o+i*1+j,none⟩=some u)/\Cells w S (.oslice e) es y) xs λi x hx=>by
   obtain ⟨es,k1,k2,k3⟩:=h4 i x hx
   obtain ⟨y,k4,k5⟩:=Cells.told (e:=e) (by simp only [Cells];exact k3)
   exact ⟨y,k5,es,k1,k2,k4⟩
  refine ⟨os,⟨_,?_,rfl⟩,?_⟩
  ·simp only [Cells]
   refine ⟨_,len,cap,rfl,by rw [h1,e1],h2, .inr ⟨g,o,rfl,hg,hS,λi y hy=>?_⟩⟩
   obtain ⟨hi,_⟩:=List.getElem?_eq_some_iff.1 hy
   obtain ⟨_,es,k1,k2,k3⟩:=e2 i _ y (List.getElem?_eq_getElem (by omega)) hy
   simp only [Cells] at k3
   exact ⟨es,k1,k2,k3⟩
  ·refine List.ext_getElem (by simp [e1]) λi g1 g2=>?_
   rw [List.getElem_map]
   exact (e2 i _ _ (List.getElem?_eq_getElem g2) (List.getElem?_eq_getElem (by omega))).1
theorem nH:Ea Try.prog 154 Qp:=by
 have h:=l7
 refine ⟨h.enter,λw S π us x r o g vs h1 hg h2 h3 hS h4 h5=>?_⟩
 obtain ⟨n,gens,⟨⟩⟩:=x
 match us,h2 with
 |u1::u2::us,h2=>
  obtain ⟨h6,⟨h7,h8⟩,h9⟩:=h2
  obtain ⟨os,jW,eb⟩:=Bc.Abe (e:=tI) h8
  have eb:os.map (·.getD [])=(gens:List (List Int)):=eb
  have rR:(1<=n/\n<=20)/\List.length gens<=4294967296/\ ∀g∈(gens:List (List Int)),Pm n.toNat g:=Classical.byContradiction λhn=>by
   have:Qp.fn (n,gens,())=none:=if_neg hn
   rw [this] at h5;cases h5
  have hos:os=gens.map some:=by
   rw [<-eb,List.map_map]
   refine (List.map_id os).symm.trans (List.map_congr_left λx hx=>?_)
   cases x with
   |some y=>rfl
   |none=>
    have:=rR.2.2 [] (by rw [<-eb];exact List.mem_map.2 ⟨none,hx,rfl⟩)
    have h1:=this.n1
    have h2:=this.1
    simp at h2
    omega
  have hv:Qp.fn (n,gens,())=some ((n,(Sv n gens).1,(Sv n gens).2,()),()):=if_pos rR
  rw [hv] at h5
  have h5:=Option.some.inj h5
  refine h.calls w S π (u1::u2::us) (n,os,()) r o g vs h1 hg ⟨h6,⟨h7,jW⟩,h9⟩ h3 hS h4 ?_
  refine (if_pos ⟨rR.1,by rw [hos,List.length_map];exact rR.2.1,λy hy=>?pp⟩).trans (congrArg some ?qq)
  case pp=>
   replace hy:y∈os:=hy
   rw [hos] at hy
   obtain ⟨g,hg,rfl⟩:=List.mem_map.1 hy
   exact ⟨g,rfl,rR.2.2 g hg⟩
  case qq=>subst hos;exact h5
theorem gq {p:PP} (hv:Valid p):(1<=p.1/\p.1<=20)/\List.length p.2.2.1<=4294967296/\ ∀g∈p.2.2.1,Pm p.1.toNat g:=
 ⟨hv.n,by have:=hv.oe;omega,λg hg=>⟨by have:=hv.len g hg;omega,fI (hv.perm g hg)⟩⟩
theorem mZ {n:Nat} {g:List (List Int)} (h: ∀x∈g,Pm n x):PmL n (g.map some):= λo ho=>by
 obtain ⟨x,hx,rfl⟩:=List.mem_map.1 ho
 exact ⟨x,rfl,h x hx⟩
theorem rm {p:PP} (hv:Valid p):V p.1.toNat p.1.toNat 0 (Sv p.1 p.2.2.1):=by
 have:=hv.n
 exact tZ (by omega) (by omega) (mZ (gq hv).2.2)
theorem sx (p:PP) (h:Eu p):fnW Cu (look [(130,Fu),(154,Qp),(155,dF)]) Lz Try.f126 (p,()) (λ(z:Int)=>z=Ow p):=by
 refine Eq.mp (tM p _) ⟨_,if_pos h,?_⟩
 show Br (!Bh p) _ _
 unfold Ow
 cases hv:Bh p with
 |false=>exact Br.of (λ_=>rfl) λhh=>by cases hh
 |true=>
  refine Br.of (λhh=>by cases hh) λ_=>?_
  have hV:=valid hv
  have hn:=hV.n
  refine ⟨_,if_pos (gq hV),_,if_pos ⟨rfl,p.1.toNat,⟨by omega,by omega⟩,(Int.toNat_of_nonneg (by omega:(0:Int)<=p.1)).symm,?vv⟩,?_⟩
  case vv=>
   simp only [List.drop_zero,List.take_length]
   exact rm hV
  simp only [List.drop_zero,List.take_length]
  exact (if_pos trivial).symm
theorem jC:Sound Try.prog 126 Lz:=
 Sound.Dg Bu (Ah Yo (Ri nH (Ah wH At))) mixed Try.func126 (by kernel_rfl) (by kernel_rfl) λx h=>sx x.1 h
end Go.Proofs.Ytjbdmibbbpdnnaa

namespace Go.Proofs.Ytjbdmibbbpdnnaa
open Go.RowKit
theorem cr {α:Type} [DecidableEq α]: ∀ {l1 l2:List α},l1.Nodup->(∀x∈l1,x∈l2)->l1.length<=l2.length
 | [],_,_,_=>Nat.zero_le _
 |a::l,l2,hn,hs=>by
  obtain ⟨h1,h2⟩:=List.nodup_cons.1 hn
  have ha:=hs a (by simp)
  have:=cr (l1:=l) (l2:=l2.erase a) h2 λy hy=>by
   have hya:y≠a:= λe'=>h1 (by rw [<-e'];exact hy)
   exact (List.mem_erase_of_ne hya).2 (hs y (by simp [hy]))
  rw [List.length_erase_of_mem ha] at this
  have:=List.length_pos_of_mem ha
  simp only [List.length_cons]
  omega
def jf (n:Nat) (T:Cz):Nat->Nat->List (List Int)
 |0,_=> [upto n]
 |k+1,l=>(Hz (T.getD l [])).flatMap λy=>(jf n T k (l+1)).map λq=>Aa q (((T.getD l []).getD y.toNat none).getD [])
def qw (T:Cz):Nat->Nat->Nat
 |0,_=>1
 |k+1,l=>(Hz (T.getD l [])).length*qw T k (l+1)
theorem vN (n:Nat) (T:Cz): ∀k l,(jf n T k l).length=qw T k l
 |0,_=>rfl
 |k+1,l=>by
  simp only [jf,qw,List.length_flatMap,List.length_map,vN n T k (l+1)]
  generalize Hz (T.getD l [])=o
  induction o with
  |nil=>simp
  |cons a o ih=>simp only [List.map_cons,List.sum_cons,ih,List.length_cons,Nat.succ_mul];omega
theorem qj (T:Cz): ∀k j,Uu T (j+k)=Uu T j*qw T k j
 |0,j=>by simp [qw]
 |k+1,j=>by
  have:=qj T k (j+1)
  rw [show j+(k+1)=j+1+k by omega,this]
  simp only [Uu,qw]
  rw [Nat.mul_assoc]
theorem w7 (n:Nat) (T:Cz):(jf n T n 0).length=Uu T n:=by
 rw [vN,show Uu T n=Uu T (0+n) by rw [Nat.zero_add],qj]
 simp [Uu]
theorem mH {n:Nat} (h1:1<=n) (h2:n<=20) {s:Cz×Cz} : ∀(k l:Nat),l+k=n->eR n k l s-> ∀p,p∈jf n s.2 k l↔Pm n p/\Fx l p/\Ja s.2 k l p=true
 |0,l,hk,hc,p=>by
  have hl:l=n:=by omega
  subst hl
  simp only [jf,List.mem_singleton]
  exact ⟨λe=>by subst e;exact ⟨Pm.id h1 h2,λi hi=>dS hi,rfl⟩,λh=>h.2.1.all h.1⟩
 |k+1,l,hk,hc,p=>by
  obtain ⟨c1,c2,c3⟩:=hc
  have ih:=mH h1 h2 k (l+1) (by omega) c1
  have aL:l<n:=by omega
  simp only [jf,List.mem_flatMap,List.mem_map]
  constructor
  ·rintro ⟨y,hy,q,hq,rfl⟩
   obtain ⟨yn,rfl,RT⟩:=My.1 hy
   obtain ⟨t,ht⟩:=Option.ne_none_iff_exists'.1 RT
   obtain ⟨t1,t2,t3,t4⟩:=c2.rt _ _ ht
   obtain ⟨q1,q2,q3⟩:=(ih q).1 hq
   rw [Int.toNat_natCast,ht,Option.getD_some]
   have hap:ap (Aa q t) l=yn:=by rw [Ft q1 t1 aL,q2 l (by omega),t3]
   refine ⟨q1.comp t1,λi hi=>by rw [Ft q1 t1 (by omega),q2 i (by omega),t2 i hi],?_⟩
   simp only [Ja]
   rw [show (Cc (Aa q t) (l:Int)).toNat=ap (Aa q t) l from rfl,hap,ht]
   show Ja s.2 k (l+1) (Aa (Aa q t) (An t))=true
   rw [Eb q1 t1 t1.inv,bJ t1,comp_id q1]
   exact q3
  ·rintro ⟨p1,p2,p3⟩
   simp only [Ja] at p3
   rw [show (Cc p (l:Int)).toNat=ap p l from rfl] at p3
   split at p3
   ·cases p3
   ·rename_i t ht
    obtain ⟨t1,t2,t3,t4⟩:=c2.rt _ _ ht
    refine ⟨(ap p l:Int),My.2 ⟨ap p l,rfl,by rw [ht];simp⟩,Aa p (An t),(ih _).2 ⟨p1.comp t1.inv,Fx.div p1 t1 p2 t2 aL t3,p3⟩,?_⟩
    rw [Int.toNat_natCast,ht,Option.getD_some,Eb p1 t1.inv t1,Uo t1,comp_id p1]
theorem mI {n:Nat} (h1:1<=n) (h2:n<=20) {s:Cz×Cz} : ∀(k l:Nat),l+k=n->eR n k l s->(jf n s.2 k l).Nodup
 |0,l,hk,hc=>by simp [jf]
 |k+1,l,hk,hc=>by
  obtain ⟨c1,c2,c3⟩:=hc
  have ih:=mI h1 h2 k (l+1) (by omega) c1
  have hm:=mH h1 h2 k (l+1) (by omega) c1
  have aL:l<n:=by omega
  have rep: ∀y∈Hz (s.2.getD l []),∃(yn:Nat) (t:List Int),y=yn/\((s.2.getD l []).getD y.toNat none).getD []=t/\Pm n t/\ap t l=yn:= λy hy=>by
   obtain ⟨yn,rfl,RT⟩:=My.1 hy
   obtain ⟨t,ht⟩:=Option.ne_none_iff_exists'.1 RT
   obtain ⟨t1,t2,t3,t4⟩:=c2.rt _ _ ht
   exact ⟨yn,t,rfl,by rw [Int.toNat_natCast,ht];rfl,t1,t3⟩
  simp only [jf]
  refine List.pairwise_flatMap.2 ⟨λy hy=>?_,?_⟩
  ·obtain ⟨yn,t,rfl,e,t1,t3⟩:=rep y hy
   rw [e]
   refine List.pairwise_map.2 (List.Pairwise.imp_of_mem ?_ ih)
   intro a b ha hb Er he
   have ha:=((hm a).1 ha).1
   have hb:=((hm b).1 hb).1
   have h3:=congrArg (λz=>Aa z (An t)) he
   simp only [Eb ha t1 t1.inv,Eb hb t1 t1.inv,bJ t1,comp_id ha,comp_id hb] at h3
   exact Er h3
  ·refine List.Pairwise.imp_of_mem ?_ ((o6 _).filter _)
   intro y z hy hz Er a ha b hb he
   obtain ⟨yn,t,rfl,e,t1,t3⟩:=rep y hy
   obtain ⟨zn,u,rfl,e',u1,u3⟩:=rep z hz
   rw [e] at ha
   rw [e'] at hb
   obtain ⟨q,hq,rfl⟩:=List.mem_map.1 ha
   obtain ⟨q',eg,rfl⟩:=List.mem_map.1 hb
   obtain ⟨a1,a2,_⟩:=(hm q).1 hq
   obtain ⟨b1,b2,_⟩:=(hm q').1 eg
   have h3:=congrArg (λz=>ap z l) he
   simp only [Ft a1 t1 aL,Ft b1 u1 aL,a2 l (by omega),b2 l (by omega),t3,u3] at h3
   exact Er (by rw [h3])
theorem iM {g:List (List Int)} (Q:List Int->Prop) {x:List Int} {d:Int} : ∀(ls:List Int) (L:List (List Int)) (D:List Int),(∀l∈ls,Q (Aa x (Af g l)))->(∀y∈L,Q y)->
  (∀y∈(Es g x d ls L D).1,Q y)/\(∀y∈L,y∈(Es g x d ls L D).1)/\((Es g x d ls L D).2.2=true-> ∀l∈ls,Aa x (Af g l)∈(Es g x d ls L D).1)/\
   ((Es g x d ls L D).2.2=false->(Es g x d ls L D).1.length=3000/\ ∃z,Q z/\z∉(Es g x d ls L D).1)
 | [],L,D,_,h=>⟨h,λ_ h=>h,(λ_ l hl=>by cases hl),(λe=>by cases e)⟩
 |l::ls,L,D,hq,h=>by
  have eg: ∀l∈ls,Q (Aa x (Af g l)):= λl' h'=>hq l' (List.mem_cons_of_mem _ h')
  simp only [Es]
  split
  ·rename_i hm
   obtain ⟨a1,a2,a3,a4⟩:=iM Q (d:=d) ls L D eg h
   refine ⟨a1,a2,λe l' Hc=>?_,a4⟩
   rcases List.mem_cons.1 Hc with rfl|Hc
   ·exact a2 _ hm
   ·exact a3 e l' Hc
  ·rename_i hn
   split
   ·rename_i hf
    exact ⟨h,λ_ h=>h,(λe=>by cases e),λ_=>⟨hf,_,hq l (by simp),hn⟩⟩
   ·obtain ⟨a1,a2,a3,a4⟩:=iM Q (d:=d) ls (L++ [Aa x (Af g l)]) (D++ [d+1]) eg λy hy=>by
     rcases List.mem_append.1 hy with hy|hy
     ·exact h y hy
     ·rw [List.mem_singleton.1 hy];exact hq l (by simp)
    refine ⟨a1,λy hy=>a2 y (List.mem_append_left _ hy),λe l' Hc=>?_,a4⟩
    rcases List.mem_cons.1 Hc with rfl|Hc
    ·exact a2 _ (List.mem_append_right _ (by simp))
    ·exact a3 e l' Hc
theorem pF {p:PP} (hV:Valid p) {m:Nat} {ls:List Int} (hl: ∀l∈ls,Em (List.length p.2.2.1) l) (Q:List Int->Prop) (hQ: ∀x,Q x-> ∀l∈ls,Q (Aa x (Af p.2.2.1 l))):
  ∀(f k:Nat) (L:List (List Int)) (D:List Int),3001<=f+k->k<=L.length->Ol p m L D->(∀y∈L,Q y)->(∀(j:Nat) (h:j<L.length),j<k-> ∀l∈ls,Aa L[j] (Af p.2.2.1 l)∈L)->
  (∀y∈(Gl p.2.2.1 ls f k L D).1,Q y)/\((Gl p.2.2.1 ls f k L D).2.2=true-> ∀x∈(Gl p.2.2.1 ls f k L D).1,∀l∈ls,Aa x (Af p.2.2.1 l)∈(Gl p.2.2.1 ls f k L D).1)/\
   ((Gl p.2.2.1 ls f k L D).2.2=false->(Gl p.2.2.1 ls f k L D).1.length=3000/\ ∃z,Q z/\z∉(Gl p.2.2.1 ls f k L D).1)
 |0,k,L,D,hf,RD,hb,hq,hc=>by
  have:=hb.ok.oe
  omega
 |f+1,k,L,D,hf,RD,hb,hq,hc=>by
  simp only [Gl]
  split
  ·rename_i hk
   have BZ:k<D.length:=by rw [hb.len];exact hk
   have hd:=hb.dep k BZ
   have e:D.getD k 0=D[k]:=by rw [List.getD_eq_getElem?_getD,List.getElem?_eq_getElem BZ];rfl
   rw [Oq hk,e]
   obtain ⟨k1,⟨A,k2⟩,_⟩:=gn hV (hb.row _ (List.getElem_mem hk)) (hb.ok.len _ (List.getElem_mem hk)) (d:=D[k]) ls L D hl hb ⟨by omega,by omega⟩
   obtain ⟨a1,a2,a3,a4⟩:=iM (g:=p.2.2.1) Q (x:=L[k]) (d:=D[k]) ls L D (hQ _ (hq _ (List.getElem_mem hk))) hq
   split
   ·rename_i L' D' he
    rw [he] at k1 k2 a1 a2 a3 a4
    have k2:L'=L++A:=k2
    refine pF hV hl Q hQ f (k+1) L' D' (by omega) (by rw [k2,List.length_append];omega) k1 a1 λj hj hjk l Hc=>?_
    by_cases e':j<k
    ·have e2:L'[j]=L[j]:=by simp only [k2];rw [List.getElem_append_left (by omega)]
     rw [e2];exact a2 _ (hc j (by omega) e' l Hc)
    ·have:j=k:=by omega
     subst this
     have e2:L'[j]=L[j]:=by simp only [k2];rw [List.getElem_append_left (by omega)]
     rw [e2];exact a3 rfl l Hc
   ·rename_i L' D' he
    rw [he] at a1 a4
    exact ⟨a1,(λe=>by cases e),λ_=>a4 rfl⟩
  ·rename_i hk
   refine ⟨hq,λ_ x hx l Hc=>?_,λe=>by cases e⟩
   obtain ⟨j,hj,rfl⟩:=List.mem_iff_getElem.1 hx
   have hj:j<L.length:=hj
   exact hc j hj (by omega) l Hc
theorem zG {p:PP} (hv:Bh p=true) {s:List Int} (hs:s.length<=20) (hr: ∀y∈s,0<=y/\y<p.1) (Q:List Int->Prop) (hQs:Q s) (hQ: ∀x,Q x-> ∀l∈Ag p.2.2.1.length,Q (Aa x (Af p.2.2.1 l))):
  (∀y∈(Dm p.2.2.1 s).1,Q y)/\((Dm p.2.2.1 s).2.2=true-> ∀x∈(Dm p.2.2.1 s).1,∀l∈Ag p.2.2.1.length,Aa x (Af p.2.2.1 l)∈(Dm p.2.2.1 s).1)/\
   ((Dm p.2.2.1 s).2.2=false->(Dm p.2.2.1 s).1.length=3000/\ ∃z,Q z/\z∉(Dm p.2.2.1 s).1):=
 pF (valid hv) (λ_ hl=>Il hl) Q hQ 3001 0 [s] [0] (by omega) (Nat.zero_le _) (dg hs hr) (λy hy=>by rw [List.mem_singleton.1 hy];exact hQs) λj _ hj=>absurd hj (Nat.not_lt_zero _)
theorem im {g:List (List Int)} {x:List Int} :some x∈g.map some↔x∈g:=by simp
theorem yj {n:Nat} {g:List (List Int)} {x:List Int} (h:Gn n (g.map some) x) {l:Int} (hl:l∈Ag g.length):Gn n (g.map some) (Aa x (Af g l)):=by
 obtain ⟨k,hk,rfl|rfl⟩:=Lw (Il hl)
 ·rw [Li hk];exact .mul h (im.2 (List.getElem_mem hk))
 ·rw [Lh hk];exact .inv h (im.2 (List.getElem_mem hk))
theorem Vy {n k:Nat} (hk:k<n):(k:Int)+1∈Ag n/\ -((k:Int)+1)∈Ag n:=by
 unfold Ag
 exact ⟨List.mem_flatMap.2 ⟨k,List.mem_range.2 hk,by simp⟩,List.mem_flatMap.2 ⟨k,List.mem_range.2 hk,by simp⟩⟩
theorem xO {n:Nat} {g:List (List Int)} {L:List (List Int)} (h0:upto n∈L) (hc: ∀x∈L,∀l∈Ag g.length,Aa x (Af g l)∈L) {p:List Int} (hp:Gn n (g.map some) p):p∈L:=by
 induction hp with
 |id=>exact h0
 |mul _ hg ih=>
  obtain ⟨k,hk,rfl⟩:=List.mem_iff_getElem.1 (im.1 hg)
  have:=hc _ ih _ (Vy hk).1
  rwa [Li hk] at this
 |inv _ hg ih=>
  obtain ⟨k,hk,rfl⟩:=List.mem_iff_getElem.1 (im.1 hg)
  have:=hc _ ih _ (Vy hk).2
  rwa [Lh hk] at this
structure Reach (p:PP) (L:List (List Int)) (D:List Int) (whole:Bool):Prop where
 ok:Ol p p.1.toNat L D
 nodup:L.Nodup
 first: ∃A,L=upto p.1.toNat::A
 gen: ∀x∈L,Gn p.1.toNat (p.2.2.1.map some) x
 all:whole=true-> ∀x,Gn p.1.toNat (p.2.2.1.map some) x->x∈L
 big:whole=false->L.length=3000/\ ∃z,Gn p.1.toNat (p.2.2.1.map some) z/\z∉L
theorem Cw.nodup {m:Nat} {L:List (List Int)} {Hw:List Int} (h:Cw m L Hw):L.Nodup:=
 List.pairwise_iff_getElem.2 λi j hi hj j4 e=>by have:=h.inj hi hj e;omega
theorem Yh {p:PP} (hv:Bh p=true):Reach p (Dm p.2.2.1 (upto p.1.toNat)).1 (Dm p.2.2.1 (upto p.1.toNat)).2.1 (Dm p.2.2.1 (upto p.1.toNat)).2.2:=by
 have hV:=valid hv
 have hn:=hV.n
 have hl:(upto p.1.toNat).length=p.1.toNat:=Pk _
 have hr: ∀y∈upto p.1.toNat,0<=y/\y<p.1:= λy hy=>by have:=Im.1 hy;omega
 obtain ⟨b1,b2⟩:=rf hv (by omega) hr
 rw [hl] at b1
 obtain ⟨a1,a2,a3⟩:=zG hv (by omega) hr (λx=>Gn p.1.toNat (p.2.2.1.map some) x) .id λx hx l hl=>yj hx hl
 exact ⟨b1,b1.ok.nodup,b2,a1,λhw x hx=>xO (by obtain ⟨A,e⟩:=b2;rw [e];simp) (a2 hw) hx,a3⟩
theorem Wb {p:PP} (hV:Valid p) {x:List Int} :x∈jf p.1.toNat (Sv p.1 p.2.2.1).2 p.1.toNat 0↔Gn p.1.toNat (p.2.2.1.map some) x:=by
 have hn:=hV.n
 have hg:=mZ (gq hV).2.2
 have hS:zA p.1.toNat λg=>some g∈p.2.2.1.map some:=⟨⟨by omega,by omega⟩,λg Yv=>by obtain ⟨g',e,h⟩:=hg _ Yv;cases e;exact h⟩
 refine (mH (by omega) (by omega) _ 0 (by omega) (rm hV).2.2.1 x).trans ⟨λh=>(me (by omega) (by omega) hg h.1).1 h.2.2,λh=>?_⟩
 have hp:=Xf.pm hS h
 exact ⟨hp,λi hi=>absurd hi (Nat.not_lt_zero _),(me (by omega) (by omega) hg hp).2 h⟩
theorem oP {p:PP} (hV:Valid p):(jf p.1.toNat (Sv p.1 p.2.2.1).2 p.1.toNat 0).Nodup:=by
 have hn:=hV.n
 exact mI (by omega) (by omega) _ 0 (by omega) (rm hV).2.2.1
theorem count_eq {p:PP} (hv:Bh p=true):Ow p=((jf p.1.toNat (Sv p.1 p.2.2.1).2 p.1.toNat 0).length:Int):=by
 unfold Ow
 rw [if_pos hv,w7]
theorem ux {p:PP} (hv:Bh p=true):(Dm p.2.2.1 (upto p.1.toNat)).2.2=decide (1<=Ow p/\Ow p<=3000):=by
 have hV:=valid hv
 have h:=Yh hv
 rw [count_eq hv]
 have oJ:=oP hV
 have h1:=cr h.nodup λx hx=>(Wb hV).2 (h.gen x hx)
 obtain ⟨A,hA⟩:=h.first
 have j6:1<=(Dm p.2.2.1 (upto p.1.toNat)).1.length:=by rw [hA];simp
 cases hw:(Dm p.2.2.1 (upto p.1.toNat)).2.2 with
 |true=>
  have h2:=cr oJ λx hx=>h.all hw x ((Wb hV).1 hx)
  have h3:=h.ok.ok.oe
  exact (decide_eq_true ⟨by omega,by omega⟩).symm
 |false=>
  obtain ⟨h2,z,h3,h4⟩:=h.big hw
  have h5:=cr (l1:=z::(Dm p.2.2.1 (upto p.1.toNat)).1) (List.nodup_cons.2 ⟨h4,h.nodup⟩) λx hx=>by
   rcases List.mem_cons.1 hx with rfl|hx
   ·exact (Wb hV).2 h3
   ·exact (Wb hV).2 (h.gen x hx)
  simp only [List.length_cons] at h5
  exact (decide_eq_false (by omega)).symm
end Go.Proofs.Ytjbdmibbbpdnnaa

namespace Go.Proofs.Ytjbdmibbbpdnnaa
open Go.RowKit
def sk (g:List (List Int)) (s:List Int):List (List Int):=(Ag g.length).map λl=>Aa s (Af g l)
noncomputable abbrev dE:Spec:=Dg (.pair Eh (.pair tL .unit)) dP false true (λx=>Bh x.1=true/\List.length x.2.1<=20/\ ∀y∈x.2.1,0<=y/\y<x.1.1) (λx=>sk x.1.2.2.1 x.2.1)
abbrev EX:Type:=List (List Int)×List Int×List Int×List Int
def Vk (g:List (List Int)) (k:Int) (x:List Int) (d:Int):List Int->EX->List Int->EX×List Int
 | [],s,row=>(s,row)
 |l::ls,s,row=>if Aa x (Af g l)∈s.1 then Vk g k x d ls s (row++ [(s.1.idxOf (Aa x (Af g l)):Int)])
  else Vk g k x d ls (s.1++ [Aa x (Af g l)],s.2.1++ [d+1],s.2.2.1++ [k],s.2.2.2++ [l]) (row++ [(s.1.length:Int)])
def Ws (g:List (List Int)) (ls:List Int):Nat->Nat->EX->List (List Int)->EX×List (List Int)
 |0,_,s,N=>(s,N)
 |f+1,k,s,N=>if k<s.1.length then Ws g ls f (k+1) (Vk g (k:Int) (s.1.getD k []) (s.2.1.getD k 0) ls s []).1 (N++ [(Vk g (k:Int) (s.1.getD k []) (s.2.1.getD k 0) ls s []).2]) else (s,N)
def cg (key:ByteArray):List (List Int)->Nat->Option Int
 | [],_=>none
 |x::r,i=>if Nu x=key then some (i:Int) else cg key r (i+1)
def Te (L:List (List Int)):ByteArray->Option Int:= λkey=>cg key L 0
def XW (p:PP) (r:EX×List (List Int)):bd.den:=(p,r.1.1,r.1.2.1,Te r.1.1,r.1.2.2.1,r.1.2.2.2,r.2,())
def Jy (p:PP):bd.den:=XW p (Ws p.2.2.1 (Ag p.2.2.1.length) 3001 0 ([upto p.1.toNat],[0],[0],[0]) [])
noncomputable def Bp (p:PP):Bool:=Bh p&&(Dm p.2.2.1 (upto p.1.toNat)).2.2
noncomputable abbrev Nz:Spec:=Dg (.pair Eh .unit) (.pair (.optr bd) (.pair .bool .unit)) true false (λx=>Eu x.1) (λx=>if Bp x.1=true then (some (Jy x.1),true,()) else (none,false,()))
abbrev wO:Type:=Int×Int×ByteArray×List (List Int)×List (List Int)×PUnit
theorem QA (p:Int×ByteArray×List (List Int)×Unit) (s:List Int) (P:List (List Int)->Prop):(∃(y3:List Int),Ie.fn ((↑p.2.2.1.length:Int),())=some y3/\0=0/\0=([]:List Int).length/\Bj (λ(v4:wO) (k5:wO->Prop)=>Br (decide (v4.1<(↑y3.length:Int))) (∃(y6:Int),idx y3 v4.1=some y6/\ ∃(y7:List Int),Qo.fn (v4.2.2.2.1,y6,())=some y7/\ ∃(y8:List Int),Tp.fn (s,y7,())=some y8/\0=0/\v4.2.2.2.2.1.length=v4.2.2.2.2.1.length/\v4.2.2.2.2.1.length+(List.take 1 (List.drop 0 [y8])).length<=Bo/\0=0/\(v4.2.2.2.2.1++List.take 1 (List.drop 0 [y8])).length=(v4.2.2.2.2.1++List.take 1 (List.drop 0 [y8])).length/\k5 (IntKind.i64.wrap (v4.1+(1:Int)),v4.2.1,v4.2.2.1,v4.2.2.2.1,v4.2.2.2.2.1++List.take 1 (List.drop 0 [y8]),())) (P (List.take v4.2.2.2.2.1.length (List.drop 0 v4.2.2.2.2.1)))) ((0:Int),p.1,p.2.1,p.2.2.1,[],PUnit.unit))=fnW Cu (look [(117,Ie),(157,Qo),(156,Tp)]) dE Try.f129 (p,s,()) P:=by kernel_rfl
theorem OY (p:PP) (s:List Int) (h:Bh p=true/\s.length<=20/\ ∀y∈s,0<=y/\y<p.1):fnW Cu (look [(117,Ie),(157,Qo),(156,Tp)]) dE Try.f129 (p,s,()) (λ(z:List (List Int))=>z=sk p.2.2.1 s):=by
 obtain ⟨hv,hs,hr⟩:=h
 have hV:=valid hv
 have hf:=hV.oe
 refine Eq.mp (QA p s _) ⟨Ag p.2.2.1.length,if_pos ⟨Int.natCast_nonneg _,by show ((p.2.2.1.length:Nat):Int)<=8;omega⟩,rfl,rfl,?_⟩
 have hL:=Ko p.2.2.1.length
 refine Am (Ag p.2.2.1.length).length (λv=>v.1) (λj v=>v=((j:Int),p.1,p.2.1,p.2.2.1,((Ag p.2.2.1.length).take j).map (λl=>Aa s (Af p.2.2.1 l)),())) rfl (by simp) ?_
 rintro j v K hj hi rfl hK
 dsimp only
 refine Br.dec (λhl=>?_) λhl=>?_
 ·have hl:j<(Ag p.2.2.1.length).length:=by omega
  have WY:=Il (List.getElem_mem hl)
  obtain ⟨h1,h2⟩:=jb hV WY
  refine ⟨_,Ap hl,_,if_pos ⟨WY,hf.2,hV.perm⟩,_,if_pos ⟨hs,λy hy=>by have:=hr y hy;show 0<=y/\y<((Af p.2.2.1 (Ag p.2.2.1.length)[j]).length:Int);omega⟩,rfl,rfl,?_,rfl,rfl,?_⟩
  ·show (((Ag p.2.2.1.length).take j).map _).length+1<=4294967296
   rw [List.length_map,List.length_take]
   omega
  ·rw [Ak (by omega)]
   refine hK hl _ rfl ?_
   have e:(Ag p.2.2.1.length).take (j+1)=(Ag p.2.2.1.length).take j++ [(Ag p.2.2.1.length)[j]]:=by
    rw [List.take_add_one,List.getElem?_eq_getElem hl,Option.toList_some]
   rw [e,List.map_append]
   rfl
 ·have:j=(Ag p.2.2.1.length).length:=by omega
  subst this
  rw [List.drop_zero,List.take_length,List.take_length]
  rfl
theorem wG:Sound Try.prog 129 dE:=
 Sound.Dg Bu (Ah Xb (Ah nG (Ah Pg At))) mixed Try.func129 (by kernel_rfl) (by kernel_rfl) λx h=>OY x.1 x.2.1 h
end Go.Proofs.Ytjbdmibbbpdnnaa

namespace Go.Proofs.Ytjbdmibbbpdnnaa
open Go.RowKit
theorem Ez {α:Type} {xs ys:List α} {i:Nat} {d:α} (h:i<xs.length):(xs++ys).getD i d=xs.getD i d:=by
 rw [List.getD_eq_getElem?_getD,List.getD_eq_getElem?_getD,List.getElem?_append_left h]
theorem dk {α:Type} {xs:List α} {x d:α} :(xs++ [x]).getD xs.length d=x:=by
 rw [List.getD_eq_getElem?_getD,List.getElem?_append_right (Nat.le_refl _),Nat.sub_self];rfl
theorem Ch {α:Type} {xs:List α} {i:Nat} {d:α} (h:i<xs.length):xs.getD i d=xs[i]:=by
 rw [List.getD_eq_getElem?_getD,List.getElem?_eq_getElem h];rfl
structure Lv (g:List (List Int)) (ls:List Int) (k:Nat) (L:List (List Int)) (D:List Int):Prop where
 len:D.length=L.length
 pos:0<L.length
 mono: ∀i j,i<=j->j<L.length->D.getD i 0<=D.getD j 0
 CV:k<L.length-> ∀j,j<L.length->D.getD j 0<=D.getD k 0+1
 par: ∀j,0<j->j<L.length-> ∃i l,i<j/\l∈ls/\L.getD j []=Aa (L.getD i []) (Af g l)/\D.getD j 0=D.getD i 0+1
 zero:D.getD 0 0=0
theorem Lv.add {g:List (List Int)} {ls:List Int} {k:Nat} {L:List (List Int)} {D:List Int} (h:Lv g ls k L D) (hk:k<L.length) {l:Int} (hl:l∈ls):
  Lv g ls k (L++ [Aa (L.getD k []) (Af g l)]) (D++ [D.getD k 0+1]):=by
 have hlen:=h.len
 have hD: ∀i,i<L.length->(D++ [D.getD k 0+1]).getD i 0=D.getD i 0:= λi hi=>Ez (by omega)
 have QP:(D++ [D.getD k 0+1]).getD L.length 0=D.getD k 0+1:=by rw [<-hlen];exact dk
 refine ⟨by simp [hlen],by simp,λi j j4 hj=>?_,λ_ j hj=>?_,λj h0 hj=>?_,?_⟩
 ·rw [List.length_append,List.length_singleton] at hj
  by_cases e:j=L.length
  ·subst e
   rw [QP]
   by_cases e':i=L.length
   ·subst e';rw [QP];exact Int.le_refl _
   ·rw [hD i (by omega)]
    exact h.CV hk i (by omega)
  ·rw [hD i (by omega),hD j (by omega)]
   exact h.mono i j j4 (by omega)
 ·rw [List.length_append,List.length_singleton] at hj
  rw [hD k hk]
  by_cases e:j=L.length
  ·subst e;rw [QP];exact Int.le_refl _
  ·rw [hD j (by omega)];exact h.CV hk j (by omega)
 ·rw [List.length_append,List.length_singleton] at hj
  by_cases e:j=L.length
  ·subst e
   exact ⟨k,l,hk,hl,by rw [dk,Ez hk],by rw [QP,hD k hk]⟩
  ·obtain ⟨i,l',h1,h2,h3,h4⟩:=h.par j h0 (by omega)
   exact ⟨i,l',h1,h2,by rw [Ez (by omega),Ez (by omega)];exact h3,by rw [hD j (by omega),hD i (by omega)];exact h4⟩
 ·rw [hD 0 h.pos];exact h.zero
theorem lR {g:List (List Int)} {ls:List Int} {k:Nat} : ∀(AS:List Int) (L:List (List Int)) (D:List Int),(∀l∈AS,l∈ls)->Lv g ls k L D->k<L.length-> ∀ {x:List Int} {d:Int},x=L.getD k []->d=D.getD k 0->
  Lv g ls k (Es g x d AS L D).1 (Es g x d AS L D).2.1/\(∃A,(Es g x d AS L D).1=L++A)/\(∃A,(Es g x d AS L D).2.1=D++A)/\
  ((Es g x d AS L D).2.2=true-> ∀l∈AS,∃j,j<(Es g x d AS L D).1.length/\(Es g x d AS L D).1.getD j []=Aa x (Af g l)/\(Es g x d AS L D).2.1.getD j 0<=d+1)
 | [],L,D,_,h,_,x,d,_,_=>⟨h,⟨[],by simp [Es]⟩,⟨[],by simp [Es]⟩,λ_ l hl=>by cases hl⟩
 |l::AS,L,D,hs,h,hk,x,d,hx,hd=>by
  have pX: ∀l∈AS,l∈ls:= λl' h'=>hs l' (List.mem_cons_of_mem _ h')
  have hlen:=h.len
  simp only [Es]
  split
  ·rename_i hm
   obtain ⟨a1,⟨A,a2⟩,⟨A',a3⟩,a4⟩:=lR AS L D pX h hk hx hd
   refine ⟨a1,⟨A,a2⟩,⟨A',a3⟩,λe l' Hc=>?_⟩
   rcases List.mem_cons.1 Hc with rfl|Hc
   ·obtain ⟨j,hj,hjx⟩:=List.mem_iff_getElem.1 hm
    refine ⟨j,by rw [a2,List.length_append];omega,by rw [a2,Ez hj,Ch hj];exact hjx,?_⟩
    rw [a3,Ez (by omega),hd]
    exact h.CV hk j hj
   ·exact a4 e l' Hc
  ·split
   ·exact ⟨h,⟨[],by simp⟩,⟨[],by simp⟩,λe=>by cases e⟩
   ·have HM:=h.add hk (hs l (by simp))
    rw [<-hx,<-hd] at HM
    obtain ⟨a1,⟨A,a2⟩,⟨A',a3⟩,a4⟩:=lR AS (L++ [Aa x (Af g l)]) (D++ [d+1]) pX HM (by rw [List.length_append];omega) (x:=x) (d:=d) (by rw [Ez hk];exact hx) (by rw [Ez (by omega)];exact hd)
    refine ⟨a1,⟨_::A,by rw [a2,List.append_assoc];rfl⟩,⟨_::A',by rw [a3,List.append_assoc];rfl⟩,λe l' Hc=>?_⟩
    rcases List.mem_cons.1 Hc with rfl|Hc
    ·refine ⟨L.length,by rw [a2,List.length_append,List.length_append];simp only [List.length_singleton];omega,?_,?_⟩
     ·rw [a2,Ez (by simp),dk]
     ·rw [a3,Ez (by simp [hlen]),<-hlen,dk]
      exact Int.le_refl _
    ·exact a4 e l' Hc
structure iH (g:List (List Int)) (ls:List Int) (L:List (List Int)) (D:List Int):Prop where
 len:D.length=L.length
 pos:0<L.length
 zero:D.getD 0 0=0
 par: ∀j,0<j->j<L.length-> ∃i l,i<j/\l∈ls/\L.getD j []=Aa (L.getD i []) (Af g l)/\D.getD j 0=D.getD i 0+1
 step: ∀i,i<L.length-> ∀l∈ls,∃j,j<L.length/\L.getD j []=Aa (L.getD i []) (Af g l)/\D.getD j 0<=D.getD i 0+1
theorem uh {g:List (List Int)} {ls:List Int} : ∀(f k:Nat) (L:List (List Int)) (D:List Int),3001<=f+k->Lv g ls k L D->k<=L.length->
  (∀i,i<k-> ∀l∈ls,∃j,j<L.length/\L.getD j []=Aa (L.getD i []) (Af g l)/\D.getD j 0<=D.getD i 0+1)->
  (Gl g ls f k L D).2.2=true->(Gl g ls f k L D).1.length<=3000->iH g ls (Gl g ls f k L D).1 (Gl g ls f k L D).2.1
 |0,k,L,D,hf,h,RD,hc,hw,h3=>by
  simp only [Gl] at h3⊢
  omega
 |f+1,k,L,D,hf,h,RD,hc,hw,h3=>by
  simp only [Gl] at hw h3⊢
  split
  ·rename_i hk
   rw [if_pos hk] at hw h3
   obtain ⟨a1,⟨A,a2⟩,⟨A',a3⟩,a4⟩:=lR (x:=L.getD k []) (d:=D.getD k 0) ls L D (λ_ h=>h) h hk rfl rfl
   have hlen:=h.len
   split
   ·rename_i L' D' he
    rw [he] at a1 a2 a3 a4
    simp only [he] at hw h3
    have a2:L'=L++A:=a2
    have a3:D'=D++A':=a3
    have a4:=a4 rfl
    dsimp only at a4
    have hLl:L.length<=L'.length:=by rw [a2,List.length_append];omega
    refine uh f (k+1) L' D' (by omega) ⟨a1.len,a1.pos,a1.mono,λhk1 j hj=>?_,a1.par,a1.zero⟩ (by omega) (λi hi l hl=>?_) hw h3
    ·have h1:D'.getD j 0<=D'.getD k 0+1:=a1.CV (show k<L'.length by omega) j hj
     have h2:D'.getD k 0<=D'.getD (k+1) 0:=a1.mono k (k+1) (by omega) hk1
     omega
    ·by_cases e:i=k
     ·subst e
      obtain ⟨j,b1,b2,b3⟩:=a4 l hl
      refine ⟨j,b1,?_,?_⟩
      ·rw [b2,a2,Ez (by omega)]
      ·rw [show D'.getD i 0=D.getD i 0 by rw [a3,Ez (by omega)]];exact b3
     ·obtain ⟨j,b1,b2,b3⟩:=hc i (by omega) l hl
      refine ⟨j,by omega,?_,?_⟩
      ·rw [a2,Ez (by omega),Ez (by omega)];exact b2
      ·rw [a3,Ez (by omega),Ez (by omega)];exact b3
   ·rename_i L' D' he
    simp only [he] at hw
    cases hw
  ·rename_i hk
   exact ⟨h.len,h.pos,h.zero,h.par,λi hi=>hc i (by have hi:i<L.length:=hi;omega)⟩
theorem eZ {p:PP} {s:List Int} (hv:Bh p=true) (hs:s.length<=20) (hr: ∀y∈s,0<=y/\y<p.1) (hw:(Dm p.2.2.1 s).2.2=true):
  iH p.2.2.1 (Ag p.2.2.1.length) (Dm p.2.2.1 s).1 (Dm p.2.2.1 s).2.1:=by
 have hb:=(rf hv hs hr).1.ok.oe
 refine uh 3001 0 [s] [0] (by omega) ⟨rfl,by simp,λi j j4 hj=>?_,λ_ j hj=>?_,λj h0 hj=>?_,rfl⟩ (Nat.zero_le _) (λi hi=>absurd hi (Nat.not_lt_zero _)) hw hb
 ·have:j=0:=by simpa using hj
  subst this
  have:i=0:=by omega
  subst this
  exact Int.le_refl _
 ·have:j=0:=by simpa using hj
  subst this
  simp
 ·have:j=0:=by simpa using hj
  omega
theorem kf {p:PP} (hV:Valid p) {x:List Int} (hx: ∀y∈x,0<=y/\y<p.1) {l:Int} (hl:l∈Ag p.2.2.1.length):
  -l∈Ag p.2.2.1.length/\Aa (Aa x (Af p.2.2.1 l)) (Af p.2.2.1 (-l))=x:=by
 obtain ⟨k,hk,Iv⟩:=Lw (Il hl)
 have hg:=fI (hV.perm _ (List.getElem_mem hk))
 have hgl:=hV.len _ (List.getElem_mem hk)
 have hn:=hV.n
 have hp:Pm p.1.toNat (p.2.2.1[k]):=⟨by omega,hg⟩
 have key: ∀q r:List Int,Pm p.1.toNat q->Pm p.1.toNat r->Aa q r=upto p.1.toNat->Aa (Aa x q) r=x:= λq r hq hr he=>by
  refine List.ext_getElem (by rw [No,No]) λi h1 h2=>?_
  have hxi:=hx _ (List.getElem_mem h2)
  obtain ⟨xi,hxe⟩:=Int.eq_ofNat_of_zero_le hxi.1
  have AN:xi<p.1.toNat:=by omega
  have e1:ap (Aa q r) xi=ap (upto p.1.toNat) xi:=congrArg (λz=>ap z xi) he
  rw [Ft hq hr AN,dS AN] at e1
  simp only [Aa,List.getElem_map,hxe]
  have h3:=(hq.Qu AN).1
  have h4:=(hr.Qu (hq.lt AN)).1
  rw [h3,h4,e1]
 rcases Iv with rfl|rfl
 ·refine ⟨(Vy hk).2,?_⟩
  rw [Li hk,Lh hk]
  exact key _ _ hp hp.inv (bJ hp)
 ·refine ⟨by rw [Int.neg_neg];exact (Vy hk).1,?_⟩
  rw [Int.neg_neg,Li hk,Lh hk]
  exact key _ _ hp.inv hp (Uo hp)
structure Ir (g:List (List Int)) (ls:List Int) (L:List (List Int)) (S:List Int->Prop) (d:List Int->Int):Prop where
 nn: ∀x∈L,0<=d x
 zero: ∀x∈L,d x=0↔S x
 step: ∀x∈L,∀l∈ls,d (Aa x (Af g l))<=d x+1
 down: ∀x∈L,0<d x-> ∃l∈ls,d (Aa x (Af g l))=d x-1
structure lB (g:List (List Int)) (ls:List Int) (L:List (List Int)):Prop where
 next: ∀x∈L,∀l∈ls,Aa x (Af g l)∈L
 back: ∀x∈L,∀l∈ls,-l∈ls/\Aa (Aa x (Af g l)) (Af g (-l))=x
theorem Ir.le {g:List (List Int)} {ls:List Int} {L:List (List Int)} {S:List Int->Prop} {d d':List Int->Int} (hc:lB g ls L) (h:Ir g ls L S d) (h':Ir g ls L S d'):
  ∀(n:Nat) (x:List Int),x∈L->d' x=n->d x<=n
 |0,x,hx,e=>by
  have:=(h.zero x hx).2 ((h'.zero x hx).1 e)
  omega
 |n+1,x,hx,e=>by
  obtain ⟨l,hl,hd⟩:=h'.down x hx (by omega)
  obtain ⟨b1,b2⟩:=hc.back x hx l hl
  have h1:=Ir.le hc h h' n _ (hc.next x hx l hl) (by omega)
  have h2:=h.step _ (hc.next x hx l hl) _ b1
  rw [b2] at h2
  omega
theorem Ir.eq {g:List (List Int)} {ls:List Int} {L:List (List Int)} {S:List Int->Prop} {d d':List Int->Int} (hc:lB g ls L) (h:Ir g ls L S d) (h':Ir g ls L S d') {x:List Int} (hx:x∈L):d x=d' x:=by
 have n1:=h.nn x hx
 have n2:=h'.nn x hx
 have h1:=Ir.le hc h h' (d' x).toNat x hx (by omega)
 have h2:=Ir.le hc h' h (d x).toNat x hx (by omega)
 omega
theorem Ir.CV {g:List (List Int)} {ls:List Int} {L:List (List Int)} {S:List Int->Prop} {d:List Int->Int} (hc:lB g ls L) (h:Ir g ls L S d) {x:List Int} (hx:x∈L) {l:Int} (hl:l∈ls):
  d x-1<=d (Aa x (Af g l)):=by
 obtain ⟨b1,b2⟩:=hc.back x hx l hl
 have h2:=h.step _ (hc.next x hx l hl) _ b1
 rw [b2] at h2
 omega
def ki (L:List (List Int)) (D:List Int) (x:List Int):Int:=if x∈L then D.getD (L.idxOf x) 0 else-1
theorem Hp {L:List (List Int)} (hn:L.Nodup) {j:Nat} (hj:j<L.length):L.idxOf (L.getD j [])=j:=by
 rw [Ch hj]
 exact hn.idxOf_getElem j hj
theorem Ig {L:List (List Int)} {j:Nat} (hj:j<L.length):L.getD j []∈L:=by rw [Ch hj];exact List.getElem_mem hj
theorem ff {L:List (List Int)} {D:List Int} (hn:L.Nodup) {j:Nat} (hj:j<L.length):ki L D (L.getD j [])=D.getD j 0:=by
 unfold ki
 rw [if_pos (Ig hj),Hp hn hj]
theorem Wv {p:PP} (hV:Valid p) {m:Nat} {L:List (List Int)} {D:List Int} (hb:Ol p m L D) (h:iH p.2.2.1 (Ag p.2.2.1.length) L D):lB p.2.2.1 (Ag p.2.2.1.length) L where
 next x hx l hl:=by
  obtain ⟨i,hi,rfl⟩:=List.mem_iff_getElem.1 hx
  obtain ⟨j,h1,h2,_⟩:=h.step i hi l hl
  rw [Ch hi] at h2
  rw [<-h2]
  exact Ig h1
 back x hx l hl:=kf hV (hb.row x hx) hl
theorem ck {p:PP} (hV:Valid p) {m:Nat} {L:List (List Int)} {D:List Int} (hb:Ol p m L D) (h:iH p.2.2.1 (Ag p.2.2.1.length) L D):
  Ir p.2.2.1 (Ag p.2.2.1.length) L (λx=>x=L.getD 0 []) (ki L D) where
 nn x hx:=by
  obtain ⟨i,hi,rfl⟩:=List.mem_iff_getElem.1 hx
  rw [<-Ch (d:= []) hi,ff hb.ok.nodup hi]
  have:=hb.dep i (by rw [hb.len];exact hi)
  rw [Ch (by rw [hb.len];exact hi)]
  omega
 zero x hx:=by
  obtain ⟨i,hi,rfl⟩:=List.mem_iff_getElem.1 hx
  rw [<-Ch (d:= []) hi,ff hb.ok.nodup hi]
  constructor
  ·intro h0
   by_cases e:i=0
   ·rw [e]
   ·obtain ⟨k,l,h1,_,_,h4⟩:=h.par i (by omega) hi
    have hk:k<D.length:=by rw [hb.len];omega
    have:=hb.dep k hk
    rw [<-Ch (d:=0) hk] at this
    omega
  ·intro e
   have:i=0:=by
    have h1:=Hp hb.ok.nodup hi
    have h2:=Hp hb.ok.nodup h.pos
    rw [e,h2] at h1
    exact h1.symm
   rw [this]
   exact h.zero
 step x hx l hl:=by
  obtain ⟨i,hi,rfl⟩:=List.mem_iff_getElem.1 hx
  rw [<-Ch (d:= []) hi,ff hb.ok.nodup hi]
  obtain ⟨j,h1,h2,h3⟩:=h.step i hi l hl
  rw [<-h2,ff hb.ok.nodup h1]
  exact h3
 down x hx h0:=by
  obtain ⟨i,hi,rfl⟩:=List.mem_iff_getElem.1 hx
  rw [<-Ch (d:= []) hi,ff hb.ok.nodup hi] at h0⊢
  have YU:0<i:=by
   rcases Nat.eq_zero_or_pos i with e|e
   ·subst e;rw [h.zero] at h0;omega
   ·exact e
  obtain ⟨k,l,h1,h2,h3,h4⟩:=h.par i YU hi
  have hk:k<L.length:=by omega
  obtain ⟨b1,b2⟩:=kf hV (hb.row _ (Ig hk)) h2
  refine ⟨-l,b1,?_⟩
  rw [h3,b2,ff hb.ok.nodup hk]
  omega
end Go.Proofs.Ytjbdmibbbpdnnaa

namespace Go.Proofs.Ytjbdmibbbpdnnaa
open Go.RowKit
def Sx (x:Int):List Int->List Int×List Int->List Int×List Int
 | [],s=>s
 |t::r,s=>if s.1.getD t.toNat 0<0 then Sx x r (s.1.set t.toNat (s.1.getD x.toNat 0+1),s.2++ [t]) else Sx x r s
def BQ (N:Nat->List Int):Nat->List Int->List Int->List Int
 |0,out,_=>out
 |_+1,out,[]=>out
 |f+1,out,x::q=>BQ N f (Sx x (N x.toNat) (out,q)).1 (Sx x (N x.toNat) (out,q)).2
def FZ (S:Nat->Bool) (m:Nat):List Int:=(List.range m).map λi=>if S i=true then 0 else-1
def MU (S:Nat->Bool) (m:Nat):List Int:=((List.range m).filter S).map λ(i:Nat)=>(i:Int)
def kY (N:Nat->List Int) (S:Nat->Bool) (m:Nat):List Int:=BQ N (m+1) (FZ S m) (MU S m)
def Zy (out:List Int):Nat:=out.countP λv=>decide (v<0)
theorem Xs {xs:List Int} {i j:Nat} {v:Int} (hj:j<xs.length):(xs.set i v).getD j 0=if i=j then v else xs.getD j 0:=by
 rw [Nr]
 by_cases e:i=j
 ·subst e;rw [if_pos ⟨rfl,hj⟩,if_pos rfl]
 ·rw [if_neg λh=>e h.1,if_neg e]
theorem vS {xs:List Int} {i:Nat} {v:Int} (hi:i<xs.length) (h:xs.getD i 0<0) (hv:0<=v):Zy (xs.set i v)+1=Zy xs:=by
 unfold Zy
 rw [List.countP_set hi]
 rw [NA hi] at h
 have hp:0<xs.countP λv=>decide (v<0):=List.countP_pos_iff.2 ⟨xs[i],List.getElem_mem hi,decide_eq_true h⟩
 simp only [decide_eq_true h,if_true]
 rw [if_neg (by simp;omega)]
 omega
structure DI (N:Nat->List Int) (S:Nat->Bool) (m:Nat) (w:Nat->Prop) (out q:List Int):Prop where
 len:out.length=m
 ge: ∀i,i<m-> -1<=out.getD i 0
 inq: ∀y∈q,0<=y/\y<m/\0<=out.getD y.toNat 0
 src: ∀i,i<m->S i=true->out.getD i 0=0
 PH: ∀i,i<m->out.getD i 0=0->S i=true
 par: ∀i,i<m->0<out.getD i 0-> ∃j,j<m/\(i:Int)∈N j/\out.getD j 0=out.getD i 0-1
 done: ∀i,i<m->0<=out.getD i 0->(i:Int)∉q-> ¬w i-> ∀t∈N i,0<=out.getD t.toNat 0/\out.getD t.toNat 0<=out.getD i 0+1
 ord:q.Pairwise λa b=>out.getD a.toNat 0<=out.getD b.toNat 0
structure DX (N:Nat->List Int) (S:Nat->Bool) (m:Nat) (x:Nat) (d:Int) (out q:List Int):Prop where
 base:DI N S m (λi=>i=x) out q
 lt:x<m
 Qu:out.getD x 0=d
 d0:0<=d
 lo: ∀y∈q,d<=out.getD y.toNat 0
 hi: ∀i,i<m->out.getD i 0<=d+1
def eT (N:Nat->List Int) (m:Nat):Prop:= ∀i,i<m-> ∀t∈N i,0<=t/\t<m
theorem zL {N:Nat->List Int} {S:Nat->Bool} {m x:Nat} {d:Int} {out q:List Int} (hr:eT N m) (h:DX N S m x d out q) {t:Int} (ht:t∈N x) (XJ:0<=t/\t<m) (kV:out.getD t.toNat 0<0):
  DX N S m x d (out.set t.toNat (d+1)) (q++ [t]):=by
 obtain ⟨⟨b1,b2,b3,b4,b5,b6,b7,b8⟩,h1,h2,h3,h4,h5⟩:=h
 obtain ⟨tn,rfl⟩:=Int.eq_ofNat_of_zero_le XJ.1
 simp only [Int.toNat_natCast] at kV⊢
 have UH:tn<m:=by omega
 have hg: ∀i,i<m->(out.set tn (d+1)).getD i 0=if tn=i then d+1 else out.getD i 0:= λi hi=>Xs (by omega)
 have Er: ∀i,0<=out.getD i 0->tn≠i:= λi hi e=>by subst e;omega
 have hq: ∀y∈q,(out.set tn (d+1)).getD y.toNat 0=out.getD y.toNat 0:= λy hy=>by
  have:=b3 y hy
  rw [hg _ (by omega),if_neg (Er _ this.2.2)]
 refine ⟨⟨by rw [List.length_set];exact b1,λi hi=>?_,λy hy=>?_,λi hi hs=>?_,λi hi h0=>?_,λi hi h0=>?_,λi hi h0 hn hw=>?_,?_⟩,h1,?_,h3,λy hy=>?_,λi hi=>?_⟩
 ·rw [hg i hi];split
  ·omega
  ·exact b2 i hi
 ·rcases List.mem_append.1 hy with hy|hy
  ·rw [hq y hy];exact b3 y hy
  ·rw [List.mem_singleton.1 hy]
   refine ⟨by omega,by omega,?_⟩
   rw [hg _ (by omega),if_pos (by omega)];omega
 ·have:=b4 i hi hs
  rw [hg i hi,if_neg (Er i (by omega))];exact this
 ·rw [hg i hi] at h0
  split at h0
  ·omega
  ·exact b5 i hi h0
 ·rw [hg i hi] at h0⊢
  by_cases e:tn=i
  ·subst e
   rw [if_pos rfl]
   exact ⟨x,h1,ht,by rw [hg x h1,if_neg (Er x (by omega)),h2];omega⟩
  ·rw [if_neg e] at h0⊢
   obtain ⟨j,j1,j2,j3⟩:=b6 i hi h0
   exact ⟨j,j1,j2,by rw [hg j j1,if_neg (Er j (by omega))];exact j3⟩
 ·rw [hg i hi] at h0⊢
  have Oj: ¬tn=i:= λe=>hn (by rw [<-e];simp)
  rw [if_neg Oj] at h0⊢
  intro t lu
  obtain ⟨c1,c2⟩:=b7 i hi h0 (λh=>hn (List.mem_append_left _ h)) hw t lu
  have:=hr i hi t lu
  rw [hg _ (by omega),if_neg (Er _ c1)]
  exact ⟨c1,c2⟩
 ·refine List.pairwise_append.2 ⟨?_,List.pairwise_singleton _ _,λa ha b hb=>?_⟩
  ·refine b8.imp_of_mem λha hb h=>?_
   rw [hq _ ha,hq _ hb];exact h
  ·rw [List.mem_singleton.1 hb,hq _ ha,hg _ (by omega),if_pos (by omega)]
   have:=b3 a ha
   exact h5 _ (by omega)
 ·rw [hg x h1,if_neg (Er x (by omega))];exact h2
 ·rcases List.mem_append.1 hy with hy|hy
  ·rw [hq y hy];exact h4 y hy
  ·rw [List.mem_singleton.1 hy,hg _ (by omega),if_pos (by omega)];omega
 ·rw [hg i hi];split
  ·exact Int.le_refl _
  ·exact h5 i hi
theorem HD {N:Nat->List Int} {S:Nat->Bool} {m x:Nat} {d:Int} (hr:eT N m): ∀(ts:List Int) (out q:List Int),(∀t∈ts,t∈N x)->DX N S m x d out q->
  DX N S m x d (Sx x ts (out,q)).1 (Sx x ts (out,q)).2/\(Sx x ts (out,q)).2.length+Zy (Sx x ts (out,q)).1=q.length+Zy out/\
  (∀t∈ts,0<=(Sx x ts (out,q)).1.getD t.toNat 0)/\(∀i,i<m->0<=out.getD i 0->(Sx x ts (out,q)).1.getD i 0=out.getD i 0)
 | [],out,q,_,h=>⟨h,rfl,(λt ht=>nomatch ht),λ_ _ _=>rfl⟩
 |t::ts,out,q,hs,h=>by
  have pX: ∀t∈ts,t∈N x:= λt' h'=>hs t' (List.mem_cons_of_mem _ h')
  have XJ:=hr x h.lt t (hs t (by simp))
  simp only [Sx]
  have OG:out.getD ((x:Nat):Int).toNat 0=d:=by rw [Int.toNat_natCast];exact h.Qu
  by_cases kV:out.getD t.toNat 0<0
  ·rw [if_pos kV,OG]
   have h1:=zL hr h (hs t (by simp)) XJ kV
   have hd:=h.d0
   have hlen:=h.base.len
   obtain ⟨a1,a2,a3,a4⟩:=HD hr ts _ _ pX h1
   have hti:(out.set t.toNat (d+1)).getD t.toNat 0=d+1:=by rw [Xs (by omega),if_pos rfl]
   refine ⟨a1,?_,λt' lu=>?_,λi hi h0=>?_⟩
   ·have:=vS (xs:=out) (i:=t.toNat) (v:=d+1) (by omega) kV (by omega)
    rw [a2,List.length_append,List.length_singleton]
    omega
   ·rcases List.mem_cons.1 lu with rfl|lu
    ·rw [a4 _ (by omega) (by omega),hti];omega
    ·exact a3 t' lu
   ·have Er: ¬t.toNat=i:= λe=>by subst e;omega
    have e:(out.set t.toNat (d+1)).getD i 0=out.getD i 0:=by rw [Xs (by omega),if_neg Er]
    rw [a4 i hi (by rw [e];exact h0),e]
  ·rw [if_neg kV]
   obtain ⟨a1,a2,a3,a4⟩:=HD hr ts _ _ pX h
   refine ⟨a1,a2,λt' lu=>?_,a4⟩
   rcases List.mem_cons.1 lu with rfl|lu
   ·rw [a4 _ (by omega) (by omega)];omega
   ·exact a3 t' lu
structure DQ (N:Nat->List Int) (S:Nat->Bool) (m:Nat) (out q:List Int):Prop where
 base:DI N S m (λ_=>False) out q
 hi: ∀x q',q=x::q'-> ∀i,i<m->out.getD i 0<=out.getD x.toNat 0+1
theorem zK {N:Nat->List Int} {S:Nat->Bool} {m:Nat} (hr:eT N m) {x:Int} {out q:List Int} (h:DQ N S m out (x::q)):
  DQ N S m (Sx x (N x.toNat) (out,q)).1 (Sx x (N x.toNat) (out,q)).2/\(Sx x (N x.toNat) (out,q)).2.length+Zy (Sx x (N x.toNat) (out,q)).1=q.length+Zy out/\ ∀i,i<m->(Sx x (N x.toNat) (out,q)).1.getD i 0<=out.getD x.toNat 0+1:=by
 obtain ⟨b,hi⟩:=h
 obtain ⟨h1,h2,h3⟩:=b.inq x (by simp)
 obtain ⟨xn,rfl⟩:=Int.eq_ofNat_of_zero_le h1
 simp only [Int.toNat_natCast] at h3⊢
 obtain ⟨o1,o2⟩:=List.pairwise_cons.1 b.ord
 simp only [Int.toNat_natCast] at o1
 have hx:DX N S m xn (out.getD xn 0) out q:=by
  refine ⟨⟨b.len,b.ge,λy hy=>b.inq y (List.mem_cons_of_mem _ hy),b.src,b.PH,b.par,λi hi h0 hn hw=>b.done i hi h0 (λhm=>?_) (λh=>h),o2⟩,by omega,rfl,h3,o1,?_⟩
  ·rcases List.mem_cons.1 hm with e|hm
   ·exact hw (by omega)
   ·exact hn hm
  ·have:=hi xn q rfl
   rwa [Int.toNat_natCast] at this
 obtain ⟨a1,a2,a3,a4⟩:=HD hr (N xn) out q (λ_ h=>h) hx
 obtain ⟨c,c1,c2,c3,c4,c5⟩:=a1
 refine ⟨⟨⟨c.len,c.ge,c.inq,c.src,c.PH,c.par,λi gM h0 hn _ t ht=>?_,c.ord⟩,λy q' e i hi=>?_⟩,a2,c5⟩
 ·by_cases e:i=xn
  ·subst e
   refine ⟨a3 t ht,?_⟩
   rw [c2]
   have:=hr i gM t ht
   exact c5 _ (by omega)
  ·exact c.done i gM h0 hn e t ht
 ·have h4:=c4 y (by rw [e];simp)
  have h5:=c5 i hi
  omega
theorem HB {N:Nat->List Int} {S:Nat->Bool} {m:Nat} (hr:eT N m) {x:Int} {out q:List Int} (h:DQ N S m out (x::q)):
  DQ N S m (Sx x (N x.toNat) (out,q)).1 (Sx x (N x.toNat) (out,q)).2/\(Sx x (N x.toNat) (out,q)).2.length+Zy (Sx x (N x.toNat) (out,q)).1=q.length+Zy out:=⟨(zK hr h).1,(zK hr h).2.1⟩
theorem HC {N:Nat->List Int} {S:Nat->Bool} {m:Nat} (hr:eT N m): ∀(f:Nat) (out q:List Int),q.length+Zy out<f->DQ N S m out q->DQ N S m (BQ N f out q) []
 |0,out,q,hf,_=>absurd hf (Nat.not_lt_zero _)
 |f+1,out,[],_,h=>h
 |f+1,out,x::q,hf,h=>by
  obtain ⟨h1,h2⟩:=HB hr h
  simp only [BQ]
  simp only [List.length_cons] at hf
  exact HC hr f _ _ (by omega) h1
theorem Ue {S:Nat->Bool} {m i:Nat} (hi:i<m):(FZ S m).getD i 0=if S i=true then 0 else-1:=by
 unfold FZ
 rw [List.getD_eq_getElem?_getD,List.getElem?_map,List.getElem?_range hi]
 rfl
theorem hJ {S:Nat->Bool} {m:Nat} {y:Int} :y∈MU S m↔ ∃i:Nat,y=i/\i<m/\S i=true:=by
 unfold MU
 simp only [List.mem_map,List.mem_filter,List.mem_range]
 constructor
 ·rintro ⟨i,⟨h1,h2⟩,rfl⟩;exact ⟨i,rfl,h1,h2⟩
 ·rintro ⟨i,rfl,h1,h2⟩;exact ⟨i,⟨h1,h2⟩,rfl⟩
theorem uz (N:Nat->List Int) (S:Nat->Bool) (m:Nat):DQ N S m (FZ S m) (MU S m):=by
 have hle: ∀i,i<m->(FZ S m).getD i 0<=0:= λi hi=>by rw [Ue hi];split<;>omega
 refine ⟨⟨by simp [FZ],λi hi=>?_,λy hy=>?_,λi hi hs=>?_,λi hi h0=>?_,λi hi h0=>?_,λi hi h0 hn _=>?_,?_⟩,λx q' e i hi=>?_⟩
 ·rw [Ue hi];split<;>omega
 ·obtain ⟨i,rfl,h1,h2⟩:=hJ.1 hy
  rw [Int.toNat_natCast,Ue h1,if_pos h2]
  exact ⟨by omega,by omega,Int.le_refl _⟩
 ·rw [Ue hi,if_pos hs]
 ·rw [Ue hi] at h0
  split at h0
  ·assumption
  ·omega
 ·have:=hle i hi;omega
 ·rw [Ue hi] at h0
  split at h0
  ·rename_i hs
   exact absurd (hJ.2 ⟨i,rfl,hi,hs⟩) hn
  ·omega
 ·refine List.Pairwise.imp_of_mem (R:= λ_ _=>True) (λha hb _=>?_) (List.pairwise_of_forall λ_ _=>trivial)
  obtain ⟨i,rfl,h1,h2⟩:=hJ.1 ha
  obtain ⟨j,rfl,h3,h4⟩:=hJ.1 hb
  rw [Int.toNat_natCast,Int.toNat_natCast,Ue h1,Ue h3,if_pos h2,if_pos h4]
  exact Int.le_refl _
 ·obtain ⟨j,rfl,h3,h4⟩:=hJ.1 (show x∈MU S m by rw [e];simp)
  have:=hle i hi
  rw [Int.toNat_natCast,Ue h3,if_pos h4]
  omega
theorem JI {S:Nat->Bool} {m:Nat} :(MU S m).length+Zy (FZ S m)=m:=by
 unfold MU Zy FZ
 rw [List.length_map,List.countP_map]
 have h:(List.range m).countP ((λv=>decide (v<0))∘ λi=>if S i=true then (0:Int) else-1)=(List.range m).countP λi=>!S i:=by
  refine List.countP_congr λi _=>?_
  simp only [Function.comp]
  by_cases e:S i=true
  ·simp [e]
  ·simp [Bool.not_eq_true _▸e]
 rw [h,<-List.countP_eq_length_filter]
 have:=List.length_eq_countP_add_countP (l:=List.range m) S
 rw [List.length_range] at this
 have e:(List.range m).countP (λa=>decide ¬S a=true)=(List.range m).countP λi=>!S i:=List.countP_congr λi _=>by cases S i<;>simp
 rw [e] at this
 omega
theorem QI {N:Nat->List Int} {S:Nat->Bool} {m:Nat} (hr:eT N m):DI N S m (λ_=>False) (kY N S m) []:=
 (HC hr (m+1) _ _ (by rw [JI];omega) (uz N S m)).base
end Go.Proofs.Ytjbdmibbbpdnnaa

namespace Go.Proofs.Ytjbdmibbbpdnnaa
open Go.RowKit
abbrev nY:Type:=Int×Int×ByteArray×List (List Int)×List Int×List (List Int)×List Int×(ByteArray->Option Int)×List Int×List Int×Int×ByteArray×List (List Int)×List (List Int)×PUnit
abbrev nZ:Type:=Int×Int×ByteArray×List (List Int)×List (List Int)×List Int×(ByteArray->Option Int)×List Int×List Int×Int×ByteArray×List (List Int)×List (List Int)×PUnit
abbrev Zs:List (Nat×Nat):= [(0,1),(0,1),(0,1),(0,1),(0,1),(0,1),(0,1),(0,1),(0,1),(0,1),(0,1),(0,1),(0,0)]
abbrev Dl (p:Int×ByteArray×List (List Int)×Unit) (y4:List Int) (y2:Int) (y3:Bool) (y6:ByteArray) (y5:ByteArray):Prop:=Zs=Zs/\(p,false,y4,p.1,p.2.1,p.2.2.1,y2,y3,!y3,p.1,y4,p.1,p.2.1,p.2.2.1,y4,y4,y6,p.1,p.2.1,p.2.2.1,p.1,p.2.1,p.2.2.1,[y4],[(0:Int)],aB (λ(_:ByteArray)=>none) y6 (0:Int),[(0:Int)],[(0:Int)],p.1,p.2.1,p.2.2.1,([]:List (List Int)),())=(p,false,y4,p.1,p.2.1,p.2.2.1,y2,y3,!y3,p.1,y4,p.1,p.2.1,p.2.2.1,y4,y4,y5,p.1,p.2.1,p.2.2.1,p.1,p.2.1,p.2.2.1,[y4],[(0:Int)],aB (λ(_:ByteArray)=>none) y5 (0:Int),[(0:Int)],[(0:Int)],p.1,p.2.1,p.2.2.1,([]:List (List Int)),PUnit.unit)
theorem FK (p:Int×ByteArray×List (List Int)×Unit) (P:(Option (PP×List (List Int)×List Int×(ByteArray->Option Int)×List Int×List Int×List (List Int)×Unit)×Bool×Unit)->Prop):(∃(y2:Int),Lz.fn ((p.1,p.2.1,p.2.2.1,()),())=some y2/\ ∃(y3:Bool),Bf.fn (y2,(1:Int),(3000:Int),())=some y3/\Br (!y3) (P (none,false,())) (∃(y4:List Int),Oa.fn (p.1,())=some y4/\ ∃(y5:ByteArray),Fz.fn (y4,())=some y5/\(∃(y6:List Int),Ie.fn ((↑p.2.2.1.length:Int),())=some y6/\0=0/\1= [y4].length/\0=0/\1= [(0:Int)].length/\0=0/\1= [(0:Int)].length/\0=0/\1= [(0:Int)].length/\0=0/\0=([]:List Int).length/\Bj (λ(v7:nZ) (k8:nZ->Prop)=>Br (decide (v7.1<(↑v7.2.2.2.2.1.length:Int))) (((0:Int)<=v7.1/\v7.1<(↑v7.2.2.2.2.1.length:Int))/\ ∃(y9:List Int),v7.2.2.2.2.1[0+v7.1.toNat]?=some y9/\ ∃(jJ:List (List Int)),dE.fn ((v7.2.1,v7.2.2.1,v7.2.2.2.1,()),y9,())=some jJ/\0=0/\0=([]:List Int).length/\0=0/\v7.2.2.2.2.1.length=v7.2.2.2.2.1.length/\0=0/\v7.2.2.2.2.2.1.length=v7.2.2.2.2.2.1.length/\0=0/\v7.2.2.2.2.2.2.2.1.length=v7.2.2.2.2.2.2.2.1.length/\0=0/\v7.2.2.2.2.2.2.2.2.1.length=v7.2.2.2.2.2.2.2.2.1.length/\0=0/\v7.2.2.2.2.2.2.2.2.2.2.2.2.1.length=v7.2.2.2.2.2.2.2.2.2.2.2.2.1.length/\Bj (λ(v11:nY) (k12:nY->Prop)=>Br (decide (v11.1<(↑jJ.length:Int))) (∃(eO:List Int),idx jJ v11.1=some eO/\ ∃(Yu:ByteArray),Fz.fn (eO,())=some Yu/\Br (!(v11.2.2.2.2.2.2.2.1 Yu).isSome) (∃(dd:Int),Mz.fn (List.take v11.2.2.2.2.2.1.length (List.drop 0 v11.2.2.2.2.2.1),())=some dd/\0=0/\v11.2.2.2.2.2.1.length=v11.2.2.2.2.2.1.length/\v11.2.2.2.2.2.1.length+(List.take 1 (List.drop 0 [eO])).length<=Bo/\((0:Int)<=v7.1/\v7.1<(↑v11.2.2.2.2.2.2.1.length:Int))/\ ∃(br:Int),v11.2.2.2.2.2.2.1[0+v7.1.toNat]?=some br/\0=0/\v11.2.2.2.2.2.2.1.length=v11.2.2.2.2.2.2.1.length/\v11.2.2.2.2.2.2.1.length+ [IntKind.i64.wrap (br+(1:Int))].length<=Bo/\0=0/\v11.2.2.2.2.2.2.2.2.1.length=v11.2.2.2.2.2.2.2.2.1.length/\v11.2.2.2.2.2.2.2.2.1.length+(List.take 1 (List.drop 0 [v7.1])).length<=Bo/\ ∃(zw:Int),idx y6 v11.1=some zw/\0=0/\v11.2.2.2.2.2.2.2.2.2.1.length=v11.2.2.2.2.2.2.2.2.2.1.length/\v11.2.2.2.2.2.2.2.2.2.1.length+ [zw].length<=Bo/\0=0/\v11.2.2.2.2.1.length=v11.2.2.2.2.1.length/\v11.2.2.2.2.1.length+(List.take 1 (List.drop 0 [dd])).length<=Bo/\0=0/\(v11.2.2.2.2.1++List.take 1 (List.drop 0 [dd])).length=(v11.2.2.2.2.1++List.take 1 (List.drop 0 [dd])).length/\0=0/\(v11.2.2.2.2.2.1++List.take 1 (List.drop 0 [eO])).length=(v11.2.2.2.2.2.1++List.take 1 (List.drop 0 [eO])).length/\0=0/\(v11.2.2.2.2.2.2.1++ [IntKind.i64.wrap (br+(1:Int))]).length=(v11.2.2.2.2.2.2.1++ [IntKind.i64.wrap (br+(1:Int))]).length/\0=0/\(v11.2.2.2.2.2.2.2.2.1++List.take 1 (List.drop 0 [v7.1])).length=(v11.2.2.2.2.2.2.2.2.1++List.take 1 (List.drop 0 [v7.1])).length/\0=0/\(v11.2.2.2.2.2.2.2.2.2.1++ [zw]).length=(v11.2.2.2.2.2.2.2.2.2.1++ [zw]).length/\0=0/\v11.2.2.2.2.2.2.2.2.2.2.2.2.2.1.length=v11.2.2.2.2.2.2.2.2.2.2.2.2.2.1.length/\k12 (IntKind.i64.wrap (v11.1+(1:Int)),v11.2.1,v11.2.2.1,v11.2.2.2.1,v11.2.2.2.2.1++List.take 1 (List.drop 0 [dd]),v11.2.2.2.2.2.1++List.take 1 (List.drop 0 [eO]),v11.2.2.2.2.2.2.1++ [IntKind.i64.wrap (br+(1:Int))],aB v11.2.2.2.2.2.2.2.1 Yu dd,v11.2.2.2.2.2.2.2.2.1++List.take 1 (List.drop 0 [v7.1]),v11.2.2.2.2.2.2.2.2.2.1++ [zw],v11.2.2.2.2.2.2.2.2.2.2.1,v11.2.2.2.2.2.2.2.2.2.2.2.1,v11.2.2.2.2.2.2.2.2.2.2.2.2.1,v11.2.2.2.2.2.2.2.2.2.2.2.2.2.1,())) (0=0/\v11.2.2.2.2.1.length=v11.2.2.2.2.1.length/\v11.2.2.2.2.1.length+(List.take 1 (List.drop 0 [(v11.2.2.2.2.2.2.2.1 Yu).getD (Int.ofNat (nat_lit 0))])).length<=Bo/\0=0/\(v11.2.2.2.2.1++List.take 1 (List.drop 0 [(v11.2.2.2.2.2.2.2.1 Yu).getD (Int.ofNat (nat_lit 0))])).length=(v11.2.2.2.2.1++List.take 1 (List.drop 0 [(v11.2.2.2.2.2.2.2.1 Yu).getD (Int.ofNat (nat_lit 0))])).length/\0=0/\v11.2.2.2.2.2.1.length=v11.2.2.2.2.2.1.length/\0=0/\v11.2.2.2.2.2.2.1.length=v11.2.2.2.2.2.2.1.length/\0=0/\v11.2.2.2.2.2.2.2.2.1.length=v11.2.2.2.2.2.2.2.2.1.length/\0=0/\v11.2.2.2.2.2.2.2.2.2.1.length=v11.2.2.2.2.2.2.2.2.2.1.length/\0=0/\v11.2.2.2.2.2.2.2.2.2.2.2.2.2.1.length=v11.2.2.2.2.2.2.2.2.2.2.2.2.2.1.length/\k12 (IntKind.i64.wrap (v11.1+(1:Int)),v11.2.1,v11.2.2.1,v11.2.2.2.1,v11.2.2.2.2.1++List.take 1 (List.drop 0 [(v11.2.2.2.2.2.2.2.1 Yu).getD (Int.ofNat (nat_lit 0))]),v11.2.2.2.2.2.1,v11.2.2.2.2.2.2.1,v11.2.2.2.2.2.2.2.1,v11.2.2.2.2.2.2.2.2.1,v11.2.2.2.2.2.2.2.2.2.1,v11.2.2.2.2.2.2.2.2.2.2.1,v11.2.2.2.2.2.2.2.2.2.2.2.1,v11.2.2.2.2.2.2.2.2.2.2.2.2.1,v11.2.2.2.2.2.2.2.2.2.2.2.2.2.1,()))) (0=0/\v11.2.2.2.2.2.2.2.2.2.2.2.2.2.1.length=v11.2.2.2.2.2.2.2.2.2.2.2.2.2.1.length/\v11.2.2.2.2.2.2.2.2.2.2.2.2.2.1.length+(List.take 1 (List.drop 0 [List.take v11.2.2.2.2.1.length (List.drop 0 v11.2.2.2.2.1)])).length<=Bo/\0=0/\v11.2.2.2.2.2.1.length=v11.2.2.2.2.2.1.length/\0=0/\v11.2.2.2.2.2.2.1.length=v11.2.2.2.2.2.2.1.length/\0=0/\v11.2.2.2.2.2.2.2.2.1.length=v11.2.2.2.2.2.2.2.2.1.length/\0=0/\v11.2.2.2.2.2.2.2.2.2.1.length=v11.2.2.2.2.2.2.2.2.2.1.length/\0=0/\(v11.2.2.2.2.2.2.2.2.2.2.2.2.2.1++List.take 1 (List.drop 0 [List.take v11.2.2.2.2.1.length (List.drop 0 v11.2.2.2.2.1)])).length=(v11.2.2.2.2.2.2.2.2.2.2.2.2.2.1++List.take 1 (List.drop 0 [List.take v11.2.2.2.2.1.length (List.drop 0 v11.2.2.2.2.1)])).length/\k8 (IntKind.i64.wrap (v7.1+(1:Int)),v11.2.1,v11.2.2.1,v11.2.2.2.1,v11.2.2.2.2.2.1,v11.2.2.2.2.2.2.1,v11.2.2.2.2.2.2.2.1,v11.2.2.2.2.2.2.2.2.1,v11.2.2.2.2.2.2.2.2.2.1,v11.2.2.2.2.2.2.2.2.2.2.1,v11.2.2.2.2.2.2.2.2.2.2.2.1,v11.2.2.2.2.2.2.2.2.2.2.2.2.1,v11.2.2.2.2.2.2.2.2.2.2.2.2.2.1++List.take 1 (List.drop 0 [List.take v11.2.2.2.2.1.length (List.drop 0 v11.2.2.2.2.1)]),()))) ((0:Int),v7.2.1,v7.2.2.1,v7.2.2.2.1,[],v7.2.2.2.2.1,v7.2.2.2.2.2.1,v7.2.2.2.2.2.2.1,v7.2.2.2.2.2.2.2.1,v7.2.2.2.2.2.2.2.2.1,v7.2.2.2.2.2.2.2.2.2.1,v7.2.2.2.2.2.2.2.2.2.2.1,v7.2.2.2.2.2.2.2.2.2.2.2.1,v7.2.2.2.2.2.2.2.2.2.2.2.2.1,PUnit.unit)) (P (some ((v7.2.2.2.2.2.2.2.2.2.1,v7.2.2.2.2.2.2.2.2.2.2.1,v7.2.2.2.2.2.2.2.2.2.2.2.1,()),List.take v7.2.2.2.2.1.length (List.drop 0 v7.2.2.2.2.1),List.take v7.2.2.2.2.2.1.length (List.drop 0 v7.2.2.2.2.2.1),v7.2.2.2.2.2.2.1,List.take v7.2.2.2.2.2.2.2.1.length (List.drop 0 v7.2.2.2.2.2.2.2.1),List.take v7.2.2.2.2.2.2.2.2.1.length (List.drop 0 v7.2.2.2.2.2.2.2.2.1),List.take v7.2.2.2.2.2.2.2.2.2.2.2.2.1.length (List.drop 0 v7.2.2.2.2.2.2.2.2.2.2.2.2.1),()),true,()))) ((0:Int),p.1,p.2.1,p.2.2.1,[y4],[(0:Int)],aB (λ(_:ByteArray)=>none) y5 (0:Int),[(0:Int)],[(0:Int)],p.1,p.2.1,p.2.2.1,([]:List (List Int)),PUnit.unit))/\((∃(y6:ByteArray),Fz.fn (y4,())=some y6/\(Dl p y4 y2 y3 y6 y5))/\ ∃(y6:ByteArray),Fz.fn (y4,())=some y6/\((Dl p y4 y2 y3 y6 y5))/\((Dl p y4 y2 y3 y6 y5))/\(Dl p y4 y2 y3 y6 y5))/\((∃(y6:ByteArray),Fz.fn (y4,())=some y6/\(Dl p y4 y2 y3 y6 y5))/\ ∃(y6:ByteArray),Fz.fn (y4,())=some y6/\((Dl p y4 y2 y3 y6 y5))/\((Dl p y4 y2 y3 y6 y5))/\(Dl p y4 y2 y3 y6 y5))/\ ∃(y6:ByteArray),Fz.fn (y4,())=some y6/\(((Dl p y4 y2 y3 y6 y5))/\((Dl p y4 y2 y3 y6 y5))/\(Dl p y4 y2 y3 y6 y5))/\(((Dl p y4 y2 y3 y6 y5))/\((Dl p y4 y2 y3 y6 y5))/\(Dl p y4 y2 y3 y6 y5))/\(((Dl p y4 y2 y3 y6 y5))/\(Dl p y4 y2 y3 y6 y5))/\(((Dl p y4 y2 y3 y6 y5))/\(Dl p y4 y2 y3 y6 y5))/\((Dl p y4 y2 y3 y6 y5))/\Zs=Zs/\(p,false,y4,p.1,p.2.1,p.2.2.1,y2,y3,!y3,p.1,y4,p.1,p.2.1,p.2.2.1,y4,y4,y6,p.1,p.2.1,p.2.2.1,p.1,p.2.1,p.2.2.1,[y4],[(0:Int)],aB (λ(_:ByteArray)=>none) y6 (0:Int),[(0:Int)],[(0:Int)],p.1,p.2.1,p.2.2.1,([]:List (List Int)),())=(p,false,y4,p.1,p.2.1,p.2.2.1,y2,y3,!y3,p.1,y4,p.1,p.2.1,p.2.2.1,y4,y4,y5,p.1,p.2.1,p.2.2.1,p.1,p.2.1,p.2.2.1,[y4],[(0:Int)],aB (λ(_:ByteArray)=>none) y5 (0:Int),[(0:Int)],[(0:Int)],p.1,p.2.1,p.2.2.1,[],PUnit.unit)))=fnW Cu (look [(126,Lz),(97,Bf),(127,Oa),(128,Fz),(117,Ie),(129,dE),(58,Mz)]) Nz Try.f80 (p,()) P:=by kernel_rfl
theorem m5 {g:List (List Int)} {k:Int} {x:List Int} {d:Int} : ∀(ls:List Int) (s:EX) (row:List Int) (L':List (List Int)) (D':List Int),Es g x d ls s.1 s.2.1=(L',D',true)->
  (Vk g k x d ls s row).1.1=L'/\(Vk g k x d ls s row).1.2.1=D'
 | [],s,row,L',D',h=>by
  simp only [Es,Prod.mk.injEq] at h
  exact ⟨h.1,h.2.1⟩
 |l::ls,s,row,L',D',h=>by
  simp only [Es] at h
  simp only [Vk]
  by_cases hm:Aa x (Af g l)∈s.1
  ·rw [if_pos hm] at h
   rw [if_pos hm]
   exact m5 ls s _ L' D' h
  ·rw [if_neg hm] at h
   rw [if_neg hm]
   by_cases hf:s.1.length=3000
   ·rw [if_pos hf] at h
    simp at h
   ·rw [if_neg hf] at h
    exact m5 ls _ _ L' D' h
theorem uH {g:List (List Int)} {ls:List Int} : ∀(f k:Nat) (s:EX) (N:List (List Int)) (L':List (List Int)) (D':List Int),Gl g ls f k s.1 s.2.1=(L',D',true)->
  (Ws g ls f k s N).1.1=L'/\(Ws g ls f k s N).1.2.1=D'
 |0,k,s,N,L',D',h=>by
  simp only [Gl,Prod.mk.injEq] at h
  exact ⟨h.1,h.2.1⟩
 |f+1,k,s,N,L',D',h=>by
  simp only [Gl] at h
  simp only [Ws]
  by_cases hk:k<s.1.length
  ·rw [if_pos hk] at h
   rw [if_pos hk]
   split at h
   ·rename_i L1 D1 he
    obtain ⟨a1,a2⟩:=m5 (k:=(k:Int)) ls s [] L1 D1 he
    refine uH f (k+1) _ _ L' D' ?_
    rw [a1,a2]
    exact h
   ·simp at h
  ·rw [if_neg hk] at h
   rw [if_neg hk]
   simp only [Prod.mk.injEq] at h
   exact ⟨h.1,h.2.1⟩
theorem gU {key:ByteArray} {x:List Int} : ∀(L:List (List Int)) (i:Nat),cg key (L++ [x]) i=if (cg key L i).isSome=true then cg key L i else if Nu x=key then some ((i+L.length:Nat):Int) else none
 | [],i=>by simp [cg]
 |y::L,i=>by
  simp only [List.cons_append,cg]
  split
  ·rfl
  ·rw [gU L (i+1),List.length_cons,show i+1+L.length=i+(L.length+1) by omega]
theorem ja {x:List Int} (hx:Ub x): ∀(L:List (List Int)) (i:Nat),(∀y∈L,Ub y)->cg (Nu x) L i=if x∈L then some ((i+L.idxOf x:Nat):Int) else none
 | [],i,_=>by simp [cg]
 |y::L,i,h=>by
  have hy:=h y (by simp)
  simp only [cg]
  by_cases e:y=x
  ·subst e
   rw [if_pos rfl,if_pos (by simp),List.idxOf_cons_self]
   rfl
  ·rw [if_neg λhk=>e (key_inj hy hx hk),ja hx L (i+1) λz hz=>h z (List.mem_cons_of_mem _ hz),show List.idxOf x (y::L)=(List.idxOf x L).succ by rw [List.idxOf_cons,beq_false_of_ne e];rfl]
   have:(x∈y::L)↔(x∈L):=by simp [Ne.symm e]
   by_cases hm:x∈L
   ·rw [if_pos hm,if_pos (this.2 hm),show i+1+List.idxOf x L=i+(List.idxOf x L).succ by omega]
   ·rw [if_neg hm,if_neg λh=>hm (this.1 h)]
theorem CL {x:List Int} {L:List (List Int)} (hx:Ub x) (hL: ∀y∈L,Ub y):Te L (Nu x)=if x∈L then some (L.idxOf x:Int) else none:=by
 unfold Te
 rw [ja hx L 0 hL,Nat.zero_add]
theorem qa {x:List Int} {L:List (List Int)} (hx:Ub x) (hL: ∀y∈L,Ub y) (hn:x∉L):aB (Te L) (Nu x) (L.length:Int)=Te (L++ [x]):=by
 funext key
 unfold aB Te
 rw [gU,Nat.zero_add]
 by_cases e:key=Nu x
 ·subst e
  rw [if_pos rfl,ja hx L 0 hL,if_neg hn,if_neg (by simp),if_pos rfl]
 ·rw [if_neg e,if_neg (c:=Nu x=key) λh=>e h.symm]
  split
  ·rfl
  ·rename_i h
   cases hk:cg key L 0 with
   |none=>rfl
   |some v=>rw [hk] at h;simp at h
theorem x9 (p:PP):Hi (Ow p) 1 3000=Bp p:=by
 unfold Bp
 by_cases hv:Bh p=true
 ·rw [hv,Bool.true_and,ux hv]
  rfl
 ·have hv:Bh p=false:=by simpa using hv
  rw [hv,Bool.false_and]
  have:Ow p=0:=by unfold Ow;rw [if_neg (by simp [hv])]
  rw [this]
  rfl
theorem DF (p:PP) (h:Eu p):fnW Cu (look [(126,Lz),(97,Bf),(127,Oa),(128,Fz),(117,Ie),(129,dE),(58,Mz)]) Nz Try.f80 (p,()) (λ(z:Option (PP×List (List Int)×List Int×(ByteArray->Option Int)×List Int×List Int×List (List Int)×Unit)×Bool×Unit)=>z=(if Bp p=true then (some (Jy p),true,()) else (none,false,()))):=by
 refine Eq.mp (FK p _) ⟨_,if_pos h,_,if_pos trivial,?_⟩
 show Br (!Hi (Ow p) 1 3000) _ _
 rw [x9 p]
 refine Br.of (λhb=>?_) λhb=>?_
 ·rw [if_neg (by simpa using hb)]
 have hw:Bp p=true:=by simpa using hb
 rw [if_pos hw]
 obtain ⟨hv,xP⟩:=Bool.and_eq_true_iff.1 hw
 have hV:=valid hv
 have uX:=hV.oe
 have hn:=hV.n
 obtain ⟨pn,ps,g,⟨⟩⟩:=p
 dsimp only at uX hn xP⊢
 have hI:(upto pn.toNat).length<=20:=by rw [Pk];omega
 have hIr: ∀y∈upto pn.toNat,0<=y/\y<pn:= λy hy=>by have:=Im.1 hy;omega
 have SY:=dg (p:=(pn,ps,g,())) hI hIr
 obtain ⟨ls,ka⟩: ∃ls,Ag g.length=ls:=⟨_,rfl⟩
 have MF:ls.length<=16:=by rw [<-ka,Ko];omega
 have j5: ∀l∈ls,Em (List.length g) l:= λl hl=>Il (ka▸hl)
 have zY: ∀x:List Int,(∀y∈x,0<=y/\y<pn)->Ub x:= λx hx y hy=>by have:=hx y hy;omega
 have xY:Gl g ls 3001 0 [upto pn.toNat] [0]=Dm g (upto pn.toNat):=by unfold Dm;rw [ka]
 have oh:aB (λ(_:ByteArray)=>(none:Option Int)) (Nu (upto pn.toNat)) 0=Te [upto pn.toNat]:=by
  have:=qa (L:= []) (zY _ hIr) (λy hy=>by cases hy) (by simp)
  exact this
 refine ⟨upto pn.toNat,if_pos ⟨by show (0:Int)<=pn;omega,by show pn<=20;omega⟩,Nu (upto pn.toNat),if_pos (by show short (upto pn.toNat);unfold short;omega),⟨ls,?_,rfl,rfl,rfl,rfl,rfl,rfl,rfl,rfl,rfl,rfl,?_⟩,?_⟩
 ·refine (if_pos ⟨by show (0:Int)<=((g.length:Nat):Int);omega,by show ((g.length:Nat):Int)<=8;omega⟩).trans (congrArg some ?_)
  show Ag (((g.length:Nat):Int)).toNat=ls
  rw [Int.toNat_natCast];exact ka
 ·obtain ⟨R,hR⟩: ∃R,Ws g ls 3001 0 ([upto pn.toNat],[0],[0],[0]) []=R:=⟨_,rfl⟩
  have Aek:Jy (pn,ps,g,())=XW (pn,ps,g,()) R:=by unfold Jy;rw [ka];exact congrArg _ hR
  rw [Aek]
  refine Bj.mk (λv=> ∃(k:Nat) (s:EX) (N:List (List Int)),v=((k:Int),pn,ps,g,s.1,s.2.1,Te s.1,s.2.2.1,s.2.2.2,pn,ps,g,N,())/\k<=s.1.length/\Ol (pn,ps,g,()) (upto pn.toNat).length s.1 s.2.1/\s.2.2.1.length=s.1.length/\s.2.2.2.length=s.1.length/\N.length=k/\
    Gl g ls (3001-k) k s.1 s.2.1=Dm g (upto pn.toNat)/\Ws g ls (3001-k) k s N=R) (λv=>3001-v.1.toNat)
   ⟨0,([upto pn.toNat],[0],[0],[0]),[],?_,by simp,SY,rfl,rfl,rfl,xY,hR⟩ ?_
  ·rw [<-oh];rfl
  rintro v ⟨k,s0,N,rfl,h1,h2,h3,h4,h5,h6,h7⟩
  obtain ⟨L0,D0,P0,B0⟩:=s0
  dsimp only at h1 h2 h3 h4 h6 h7⊢
  have hL0:=h2.ok.oe
  have hD0:=h2.len
  obtain ⟨f,hf⟩: ∃f,3001-k=f+1:=⟨3000-k,by omega⟩
  refine Br.dec (λhl=>?_) λhl=>?_
  ·have hk:k<L0.length:=by omega
   have BZ:k<D0.length:=by omega
   have hx: ∀y∈L0[k],0<=y/\y<pn:=h2.row _ (List.getElem_mem hk)
   have OH:L0[k].length=(upto pn.toNat).length:=h2.ok.len _ (List.getElem_mem hk)
   have hdk:=h2.dep k BZ
   have hxe:L0.getD k []=L0[k]:=Oq hk
   have NM:D0.getD k 0=D0[k]:=by rw [List.getD_eq_getElem?_getD,List.getElem?_eq_getElem BZ];rfl
   have tP: ∀L' D' ok,Es g L0[k] D0[k] ls L0 D0=(L',D',ok)->Dm g (upto pn.toNat)=if ok=true then Gl g ls f (k+1) L' D' else (L',D',false):=by
    intro L' D' ok he
    rw [<-h6,hf,Gl,if_pos hk,hxe,NM,he]
    cases ok<;>rfl
   obtain ⟨E,hE⟩: ∃E,Vk g (k:Int) L0[k] D0[k] ls (L0,D0,P0,B0) []=E:=⟨_,rfl⟩
   have hex:R=Ws g ls f (k+1) E.1 (N++ [E.2]):=by
    rw [<-h7,hf,Ws,if_pos hk]
    dsimp only
    rw [hxe,NM,hE]
   refine ⟨⟨by omega,by omega⟩,L0[k],by rw [Int.toNat_natCast,Nat.zero_add];exact List.getElem?_eq_getElem hk,ls.map (λl=>Aa L0[k] (Af g l)),?_,?_⟩
   ·refine (if_pos ⟨hv,by show L0[k].length<=20;omega,hx⟩).trans (congrArg some ?_)
    show sk g L0[k]=_
    unfold sk
    rw [ka]
   refine ⟨rfl,rfl,rfl,rfl,rfl,rfl,rfl,rfl,rfl,rfl,rfl,rfl,?_⟩
   obtain ⟨nb,hnb⟩: ∃nb,ls.map (λl=>Aa L0[k] (Af g l))=nb:=⟨_,rfl⟩
   have hnl:nb.length=ls.length:=by rw [<-hnb,List.length_map]
   have hni: ∀i (h:i<ls.length),nb[i]'(by omega)=Aa L0[k] (Af g ls[i]):= λi h=>by simp only [<-hnb,List.getElem_map]
   rw [hnb]
   refine Bj.mk (λv=> ∃(i:Nat) (row:List Int) (s:EX),v=((i:Int),pn,ps,g,row,s.1,s.2.1,Te s.1,s.2.2.1,s.2.2.2,pn,ps,g,N,())/\i<=ls.length/\row.length=i/\Ol (pn,ps,g,()) (upto pn.toNat).length s.1 s.2.1/\s.2.2.1.length=s.1.length/\s.2.2.2.length=s.1.length/\
     (∃A,s.1=L0++A)/\(∃A,s.2.1=D0++A)/\Es g L0[k] D0[k] (ls.drop i) s.1 s.2.1=Es g L0[k] D0[k] ls L0 D0/\Vk g (k:Int) L0[k] D0[k] (ls.drop i) s row=E) (λv=>ls.length-v.1.toNat)
    ⟨0,[],(L0,D0,P0,B0),rfl,Nat.zero_le _,rfl,h2,h3,h4,⟨[],by simp⟩,⟨[],by simp⟩,rfl,hE⟩ ?_
   rintro v ⟨i,row,s,rfl,g1,g2,g3,g4,g5,⟨A,g6⟩,⟨A',g7⟩,g8,g9⟩
   obtain ⟨L,D,Pa,By⟩:=s
   dsimp only at g3 g4 g5 g6 g7 g8 g9⊢
   have hLf:=g3.ok.oe
   have QP:=g3.len
   refine Br.dec (λhli=>?_) λhli=>?_
   ·have hi:i<ls.length:=by omega
    have RD:k<L.length:=by rw [g6,List.length_append];omega
    have TO:k<D.length:=by rw [QP];exact RD
    have hDk:D[k]=D0[k]:=by simp only [g7];exact List.getElem_append_left BZ
    have rM:=j5 _ (List.getElem_mem hi)
    obtain ⟨nl,nr⟩:=lx hV hx rM
    dsimp only at nl nr
    rw [List.drop_eq_getElem_cons hi] at g8 g9
    simp only [Es] at g8
    simp only [Vk] at g9
    have hyb:=zY _ nr
    refine ⟨_,Ap (by omega),?_⟩
    rw [hni i hi]
    generalize hyv:Aa L0[k] (Af g ls[i])=yv at*
    refine ⟨Nu yv,if_pos (by show short yv;unfold short;rw [nl];omega),?_⟩
    rw [CL hyb λy hy=>zY _ (g3.row y hy)]
    refine Br.of (λOj=>?_) λOj=>?_
    ·have Oj:yv∉L:= λhm=>by rw [if_pos hm] at Oj;simp at Oj
     rw [if_neg Oj] at g8 g9
     by_cases ef:L.length=3000
     ·rw [if_pos ef] at g8
      have:=tP _ _ _ g8.symm
      rw [if_neg (by decide)] at this
      rw [this] at xP
      cases xP
     rw [if_neg ef] at g8
     refine ⟨_,if_pos trivial,rfl,rfl,?_,⟨by omega,by omega⟩,D0[k],?_,rfl,rfl,?_,rfl,rfl,?_,_,Ap hi,rfl,rfl,?_,rfl,rfl,?_,rfl,rfl,rfl,rfl,rfl,rfl,rfl,rfl,rfl,rfl,rfl,rfl,?_⟩
     ·show L.length+1<=4294967296;omega
     ·rw [Int.toNat_natCast,Nat.zero_add,List.getElem?_eq_getElem TO,hDk]
     ·show D.length+1<=4294967296;omega
     ·show Pa.length+1<=4294967296;omega
     ·show By.length+1<=4294967296;omega
     ·show row.length+1<=4294967296;omega
     ·dsimp only
      rw [Ck L,Bs (n:=D0[k]+1) (by omega) (by omega),Ak (by omega),qa hyb (λy hy=>zY _ (g3.row y hy)) Oj]
      refine ⟨⟨i+1,row++ [(L.length:Int)],(L++ [yv],D++ [D0[k]+1],Pa++ [(k:Int)],By++ [ls[i]]),rfl,hi,by rw [List.length_append,g2];rfl,g3.add Oj (by rw [nl,OH]) (by omega) nr ⟨by omega,by omega⟩,?_,?_,⟨A++ [yv],by rw [g6,List.append_assoc]⟩,⟨A'++ [D0[k]+1],by rw [g7,List.append_assoc]⟩,g8,g9⟩,by omega⟩
      ·simp [g4]
      ·simp [g5]
    ·have Oj:yv∈L:=Classical.byContradiction λhm=>by rw [if_neg hm] at Oj;simp at Oj
     rw [if_pos Oj] at g8 g9
     rw [if_pos Oj]
     refine ⟨rfl,rfl,?_,rfl,rfl,rfl,rfl,rfl,rfl,rfl,rfl,rfl,rfl,rfl,rfl,?_⟩
     ·show row.length+1<=4294967296;omega
     ·rw [Ak (by omega)]
      exact ⟨⟨i+1,row++ [(L.idxOf yv:Int)],(L,D,Pa,By),rfl,hi,by rw [List.length_append,g2];rfl,g3,g4,g5,⟨A,g6⟩,⟨A',g7⟩,g8,g9⟩,by omega⟩
   ·have:i=ls.length:=by omega
    subst this
    rw [List.drop_length,Es] at g8
    rw [List.drop_length,Vk] at g9
    have:=tP _ _ _ g8.symm
    rw [if_pos rfl] at this
    rw [Ck row,Ak (by omega)]
    refine ⟨rfl,rfl,?_,rfl,rfl,rfl,rfl,rfl,rfl,rfl,rfl,rfl,rfl,⟨k+1,(L,D,Pa,By),N++ [row],rfl,by rw [g6,List.length_append];omega,g3,g4,g5,by rw [List.length_append,h5];rfl,?_,?_⟩,by omega⟩
    ·show N.length+1<=4294967296;omega
    ·rw [show 3001-(k+1)=f by omega]
     exact this.symm
    ·rw [show 3001-(k+1)=f by omega,hex,<-g9]
  ·have hk:k=L0.length:=by omega
   rw [hf,Ws,if_neg (by show ¬k<L0.length;omega)] at h7
   subst h7
   simp only [List.drop_zero,List.take_length]
   rfl
 ·have xS:Fz.fn (upto pn.toNat,())=some (Nu (upto pn.toNat)):=if_pos (by show short (upto pn.toNat);unfold short;omega)
  repeat' (first|exact ⟨rfl,rfl⟩|refine ⟨_,xS,?_⟩|refine ⟨?_,?_⟩)
theorem pe:Sound Try.prog 80 Nz:=
 Sound.Dg Bu (Ah jC (Ah Ma (Ah aW (Ah nM (Ah Xb (Ah wG (Ah cO At))))))) mixed Try.func80 (by kernel_rfl) (by kernel_rfl) λx h=>DF x.1 h
end Go.Proofs.Ytjbdmibbbpdnnaa

namespace Go.Proofs.Ytjbdmibbbpdnnaa
open Go.RowKit
abbrev XP:Type:=PP×List (List Int)×List Int×(ByteArray->Option Int)×List Int×List Int×List (List Int)×Unit
noncomputable def Ab (p:PP):List (List Int):=(Dm p.2.2.1 (upto p.1.toNat)).1
noncomputable def cn (p:PP):List Int:=(Dm p.2.2.1 (upto p.1.toNat)).2.1
def tX (e:XP):Prop:=Bp e.1=true/\e=Jy e.1
noncomputable def Us (p:PP) (s:List Int):Int×Bool×Unit:=if s∈Ab p then ((List.idxOf s (Ab p):Nat),true,()) else (0,false,())
abbrev Abc:Ty:= .clo 151 (.pair (.ptr tL) .unit)
def Wa (goal s:List Int):Bool:=List.all goal λx=>decide (Cc s x=x)
noncomputable abbrev jw:Spec:=Dg (.pair tI (.pair (.ptr tL) .unit)) .bool false true (λx=>short x.2.1/\0<=x.1/\x.1<List.length x.2.1) (λx=>!decide (Cc x.2.1 x.1=x.1))
noncomputable abbrev qJ:Spec:=Dg (.pair tL (.pair Abc .unit)) tI false true (λx=>short x.1/\short x.2.1.1/\Gw (List.length x.2.1.1) x.1) (λx=>Bw (λy=>!decide (Cc x.2.1.1 y=y)) x.1 0)
noncomputable abbrev qD:Spec:=Dg (.pair tL (.pair Abc .unit)) .bool false true (λx=>short x.1/\short x.2.1.1/\Gw (List.length x.2.1.1) x.1) (λx=>List.any x.1 (λy=>!decide (Cc x.2.1.1 y=y)))
noncomputable abbrev Ob:Spec:=Dg (.pair tL (.pair tL .unit)) .bool false true (λx=>short x.1/\short x.2.1/\Gw (List.length x.2.1) x.1) (λx=>Wa x.1 x.2.1)
noncomputable def fD (p:PP):SS×Bool×Unit:=if Bh p=true then (Dj p.2.2.1 (upto p.1.toNat),Bp p,()) else (([],[],[],false,()),false,())
noncomputable abbrev Lo:Spec:=Dg (.pair Eh .unit) (.pair ay (.pair .bool .unit)) true false (λx=>Eu x.1) (λx=>fD x.1)
theorem WH (x:Int) (s:List Int) (P:Bool->Prop):(∃(y3:Int),idx s x=some y3/\P (y3 !=x))=fnW Cu (look []) jw Try.f151 (x,s,()) P:=by kernel_rfl
theorem Abq (xs:List Int) (c:List Int×Unit) (P:Int->Prop):(Bj (λ(v3:Int×PUnit) (k4:Int×PUnit->Prop)=>Br (decide (v3.1<(↑xs.length:Int))) (∃(y5:Int),idx xs v3.1=some y5/\ ∃(y6:Bool),jw.fn (y5,c.1,())=some y6/\Br y6 (P v3.1) (k4 (IntKind.i64.wrap (v3.1+(1:Int)),()))) (P (-1:Int))) ((0:Int),PUnit.unit))=fnW Cu (look [(151,jw)]) qJ Try.f118 (xs,c,()) P:=by kernel_rfl
theorem Abi (xs:List Int) (c:List Int×Unit) (P:Bool->Prop):(∃(y3:Int),qJ.fn (xs,c,())=some y3/\P (decide (y3>=(0:Int))))=fnW Cu (look [(118,qJ)]) qD Try.f131 (xs,c,()) P:=by kernel_rfl
theorem x5 (g s:List Int) (P:Bool->Prop):(∃(y3:Bool),qD.fn (g,(s,()),())=some y3/\P !y3)=fnW Cu (look [(131,qD)]) Ob Try.f121 (g,s,()) P:=by kernel_rfl
abbrev Cb:Type:=List (List Int)×List Int×List Int×Bool×PUnit
theorem zu (p:Int×ByteArray×List (List Int)×Unit) (P:((List (List Int)×List Int×List Int×Bool×Unit)×Bool×Unit)->Prop):(∃(y2:Bool),Fu.fn ((p.1,p.2.1,p.2.2.1,()),())=some y2/\Br (!y2) (P ((List.take 0 (List.drop 0 []),List.take 0 (List.drop 0 []),List.take 0 (List.drop 0 []),false,()),false,())) (((((∃(y3:List Int),Cg.fn (p.1,())=some y3/\(∃(y4:Cb),Da.fn ((p.1,p.2.1,p.2.2.1,()),y3,())=some y4/\((P ((y4.1,y4.2.1,y4.2.2.1,y4.2.2.2.1,()),y4.2.2.2.1,())/\P ((y4.1,y4.2.1,y4.2.2.1,y4.2.2.2.1,()),y4.2.2.2.1,()))/\P ((y4.1,y4.2.1,y4.2.2.1,y4.2.2.2.1,()),y4.2.2.2.1,()))/\(P ((y4.1,y4.2.1,y4.2.2.1,y4.2.2.2.1,()),y4.2.2.2.1,())/\P ((y4.1,y4.2.1,y4.2.2.1,y4.2.2.2.1,()),y4.2.2.2.1,()))/\P ((y4.1,y4.2.1,y4.2.2.1,y4.2.2.2.1,()),y4.2.2.2.1,()))/\ ∃(y4:Cb),Da.fn ((p.1,p.2.1,p.2.2.1,()),y3,())=some y4/\((P ((y4.1,y4.2.1,y4.2.2.1,y4.2.2.2.1,()),y4.2.2.2.1,())/\P ((y4.1,y4.2.1,y4.2.2.1,y4.2.2.2.1,()),y4.2.2.2.1,()))/\P ((y4.1,y4.2.1,y4.2.2.1,y4.2.2.2.1,()),y4.2.2.2.1,()))/\(P ((y4.1,y4.2.1,y4.2.2.1,y4.2.2.2.1,()),y4.2.2.2.1,())/\P ((y4.1,y4.2.1,y4.2.2.1,y4.2.2.2.1,()),y4.2.2.2.1,()))/\P ((y4.1,y4.2.1,y4.2.2.1,y4.2.2.2.1,()),y4.2.2.2.1,()))/\ ∃(y3:List Int),Cg.fn (p.1,())=some y3/\ ∃(y4:Cb),Da.fn ((p.1,p.2.1,p.2.2.1,()),y3,())=some y4/\((P ((y4.1,y4.2.1,y4.2.2.1,y4.2.2.2.1,()),y4.2.2.2.1,())/\P ((y4.1,y4.2.1,y4.2.2.1,y4.2.2.2.1,()),y4.2.2.2.1,()))/\P ((y4.1,y4.2.1,y4.2.2.1,y4.2.2.2.1,()),y4.2.2.2.1,()))/\(P ((y4.1,y4.2.1,y4.2.2.1,y4.2.2.2.1,()),y4.2.2.2.1,())/\P ((y4.1,y4.2.1,y4.2.2.1,y4.2.2.2.1,()),y4.2.2.2.1,()))/\P ((y4.1,y4.2.1,y4.2.2.1,y4.2.2.2.1,()),y4.2.2.2.1,()))/\ ∃(y3:List Int),Cg.fn (p.1,())=some y3/\ ∃(y4:Cb),Da.fn ((p.1,p.2.1,p.2.2.1,()),y3,())=some y4/\((P ((y4.1,y4.2.1,y4.2.2.1,y4.2.2.2.1,()),y4.2.2.2.1,())/\P ((y4.1,y4.2.1,y4.2.2.1,y4.2.2.2.1,()),y4.2.2.2.1,()))/\P ((y4.1,y4.2.1,y4.2.2.1,y4.2.2.2.1,()),y4.2.2.2.1,()))/\(P ((y4.1,y4.2.1,y4.2.2.1,y4.2.2.2.1,()),y4.2.2.2.1,())/\P ((y4.1,y4.2.1,y4.2.2.1,y4.2.2.2.1,()),y4.2.2.2.1,()))/\P ((y4.1,y4.2.1,y4.2.2.1,y4.2.2.2.1,()),y4.2.2.2.1,()))/\ ∃(y3:List Int),Cg.fn (p.1,())=some y3/\ ∃(y4:Cb),Da.fn ((p.1,p.2.1,p.2.2.1,()),y3,())=some y4/\((P ((y4.1,y4.2.1,y4.2.2.1,y4.2.2.2.1,()),y4.2.2.2.1,())/\P ((y4.1,y4.2.1,y4.2.2.1,y4.2.2.2.1,()),y4.2.2.2.1,()))/\P ((y4.1,y4.2.1,y4.2.2.1,y4.2.2.2.1,()),y4.2.2.2.1,()))/\(P ((y4.1,y4.2.1,y4.2.2.1,y4.2.2.2.1,()),y4.2.2.2.1,())/\P ((y4.1,y4.2.1,y4.2.2.1,y4.2.2.2.1,()),y4.2.2.2.1,()))/\P ((y4.1,y4.2.1,y4.2.2.1,y4.2.2.2.1,()),y4.2.2.2.1,()))/\((((∃(y3:List Int),Cg.fn (p.1,())=some y3/\(∃(y4:Cb),Da.fn ((p.1,p.2.1,p.2.2.1,()),y3,())=some y4/\((P ((y4.1,y4.2.1,y4.2.2.1,y4.2.2.2.1,()),y4.2.2.2.1,())/\P ((y4.1,y4.2.1,y4.2.2.1,y4.2.2.2.1,()),y4.2.2.2.1,()))/\P ((y4.1,y4.2.1,y4.2.2.1,y4.2.2.2.1,()),y4.2.2.2.1,()))/\(P ((y4.1,y4.2.1,y4.2.2.1,y4.2.2.2.1,()),y4.2.2.2.1,())/\P ((y4.1,y4.2.1,y4.2.2.1,y4.2.2.2.1,()),y4.2.2.2.1,()))/\P ((y4.1,y4.2.1,y4.2.2.1,y4.2.2.2.1,()),y4.2.2.2.1,()))/\ ∃(y4:Cb),Da.fn ((p.1,p.2.1,p.2.2.1,()),y3,())=some y4/\((P ((y4.1,y4.2.1,y4.2.2.1,y4.2.2.2.1,()),y4.2.2.2.1,())/\P ((y4.1,y4.2.1,y4.2.2.1,y4.2.2.2.1,()),y4.2.2.2.1,()))/\P ((y4.1,y4.2.1,y4.2.2.1,y4.2.2.2.1,()),y4.2.2.2.1,()))/\(P ((y4.1,y4.2.1,y4.2.2.1,y4.2.2.2.1,()),y4.2.2.2.1,())/\P ((y4.1,y4.2.1,y4.2.2.1,y4.2.2.2.1,()),y4.2.2.2.1,()))/\P ((y4.1,y4.2.1,y4.2.2.1,y4.2.2.2.1,()),y4.2.2.2.1,()))/\ ∃(y3:List Int),Cg.fn (p.1,())=some y3/\ ∃(y4:Cb),Da.fn ((p.1,p.2.1,p.2.2.1,()),y3,())=some y4/\((P ((y4.1,y4.2.1,y4.2.2.1,y4.2.2.2.1,()),y4.2.2.2.1,())/\P ((y4.1,y4.2.1,y4.2.2.1,y4.2.2.2.1,()),y4.2.2.2.1,()))/\P ((y4.1,y4.2.1,y4.2.2.1,y4.2.2.2.1,()),y4.2.2.2.1,()))/\(P ((y4.1,y4.2.1,y4.2.2.1,y4.2.2.2.1,()),y4.2.2.2.1,())/\P ((y4.1,y4.2.1,y4.2.2.1,y4.2.2.2.1,()),y4.2.2.2.1,()))/\P ((y4.1,y4.2.1,y4.2.2.1,y4.2.2.2.1,()),y4.2.2.2.1,()))/\ ∃(y3:List Int),Cg.fn (p.1,())=some y3/\ ∃(y4:Cb),Da.fn ((p.1,p.2.1,p.2.2.1,()),y3,())=some y4/\((P ((y4.1,y4.2.1,y4.2.2.1,y4.2.2.2.1,()),y4.2.2.2.1,())/\P ((y4.1,y4.2.1,y4.2.2.1,y4.2.2.2.1,()),y4.2.2.2.1,()))/\P ((y4.1,y4.2.1,y4.2.2.1,y4.2.2.2.1,()),y4.2.2.2.1,()))/\(P ((y4.1,y4.2.1,y4.2.2.1,y4.2.2.2.1,()),y4.2.2.2.1,())/\P ((y4.1,y4.2.1,y4.2.2.1,y4.2.2.2.1,()),y4.2.2.2.1,()))/\P ((y4.1,y4.2.1,y4.2.2.1,y4.2.2.2.1,()),y4.2.2.2.1,()))/\(((∃(y3:List Int),Cg.fn (p.1,())=some y3/\(∃(y4:Cb),Da.fn ((p.1,p.2.1,p.2.2.1,()),y3,())=some y4/\((P ((y4.1,y4.2.1,y4.2.2.1,y4.2.2.2.1,()),y4.2.2.2.1,())/\P ((y4.1,y4.2.1,y4.2.2.1,y4.2.2.2.1,()),y4.2.2.2.1,()))/\P ((y4.1,y4.2.1,y4.2.2.1,y4.2.2.2.1,()),y4.2.2.2.1,()))/\(P ((y4.1,y4.2.1,y4.2.2.1,y4.2.2.2.1,()),y4.2.2.2.1,())/\P ((y4.1,y4.2.1,y4.2.2.1,y4.2.2.2.1,()),y4.2.2.2.1,()))/\P ((y4.1,y4.2.1,y4.2.2.1,y4.2.2.2.1,()),y4.2.2.2.1,()))/\ ∃(y4:Cb),Da.fn ((p.1,p.2.1,p.2.2.1,()),y3,())=some y4/\((P ((y4.1,y4.2.1,y4.2.2.1,y4.2.2.2.1,()),y4.2.2.2.1,())/\P ((y4.1,y4.2.1,y4.2.2.1,y4.2.2.2.1,()),y4.2.2.2.1,()))/\P ((y4.1,y4.2.1,y4.2.2.1,y4.2.2.2.1,()),y4.2.2.2.1,()))/\(P ((y4.1,y4.2.1,y4.2.2.1,y4.2.2.2.1,()),y4.2.2.2.1,())/\P ((y4.1,y4.2.1,y4.2.2.1,y4.2.2.2.1,()),y4.2.2.2.1,()))/\P ((y4.1,y4.2.1,y4.2.2.1,y4.2.2.2.1,()),y4.2.2.2.1,()))/\ ∃(y3:List Int),Cg.fn (p.1,())=some y3/\ ∃(y4:Cb),Da.fn ((p.1,p.2.1,p.2.2.1,()),y3,())=some y4/\((P ((y4.1,y4.2.1,y4.2.2.1,y4.2.2.2.1,()),y4.2.2.2.1,())/\P ((y4.1,y4.2.1,y4.2.2.1,y4.2.2.2.1,()),y4.2.2.2.1,()))/\P ((y4.1,y4.2.1,y4.2.2.1,y4.2.2.2.1,()),y4.2.2.2.1,()))/\(P ((y4.1,y4.2.1,y4.2.2.1,y4.2.2.2.1,()),y4.2.2.2.1,())/\P ((y4.1,y4.2.1,y4.2.2.1,y4.2.2.2.1,()),y4.2.2.2.1,()))/\P ((y4.1,y4.2.1,y4.2.2.1,y4.2.2.2.1,()),y4.2.2.2.1,()))/\(∃(y3:List Int),Cg.fn (p.1,())=some y3/\((∃(y4:Cb),Da.fn ((p.1,p.2.1,p.2.2.1,()),y3,())=some y4/\((P ((y4.1,y4.2.1,y4.2.2.1,y4.2.2.2.1,()),y4.2.2.2.1,())/\P ((y4.1,y4.2.1,y4.2.2.1,y4.2.2.2.1,()),y4.2.2.2.1,()))/\P ((y4.1,y4.2.1,y4.2.2.1,y4.2.2.2.1,()),y4.2.2.2.1,()))/\(P ((y4.1,y4.2.1,y4.2.2.1,y4.2.2.2.1,()),y4.2.2.2.1,())/\P ((y4.1,y4.2.1,y4.2.2.1,y4.2.2.2.1,()),y4.2.2.2.1,()))/\P ((y4.1,y4.2.1,y4.2.2.1,y4.2.2.2.1,()),y4.2.2.2.1,()))/\ ∃(y4:Cb),Da.fn ((p.1,p.2.1,p.2.2.1,()),y3,())=some y4/\((P ((y4.1,y4.2.1,y4.2.2.1,y4.2.2.2.1,()),y4.2.2.2.1,())/\P ((y4.1,y4.2.1,y4.2.2.1,y4.2.2.2.1,()),y4.2.2.2.1,()))/\P ((y4.1,y4.2.1,y4.2.2.1,y4.2.2.2.1,()),y4.2.2.2.1,()))/\(P ((y4.1,y4.2.1,y4.2.2.1,y4.2.2.2.1,()),y4.2.2.2.1,())/\P ((y4.1,y4.2.1,y4.2.2.1,y4.2.2.2.1,()),y4.2.2.2.1,()))/\P ((y4.1,y4.2.1,y4.2.2.1,y4.2.2.2.1,()),y4.2.2.2.1,()))/\ ∃(y4:Cb),Da.fn ((p.1,p.2.1,p.2.2.1,()),y3,())=some y4/\((P ((y4.1,y4.2.1,y4.2.2.1,y4.2.2.2.1,()),y4.2.2.2.1,())/\P ((y4.1,y4.2.1,y4.2.2.1,y4.2.2.2.1,()),y4.2.2.2.1,()))/\P ((y4.1,y4.2.1,y4.2.2.1,y4.2.2.2.1,()),y4.2.2.2.1,()))/\(P ((y4.1,y4.2.1,y4.2.2.1,y4.2.2.2.1,()),y4.2.2.2.1,())/\P ((y4.1,y4.2.1,y4.2.2.1,y4.2.2.2.1,()),y4.2.2.2.1,()))/\P ((y4.1,y4.2.1,y4.2.2.1,y4.2.2.2.1,()),y4.2.2.2.1,()))/\(∃(y3:List Int),Cg.fn (p.1,())=some y3/\ ∃(y4:Cb),Da.fn ((p.1,p.2.1,p.2.2.1,()),y3,())=some y4/\((P ((y4.1,y4.2.1,y4.2.2.1,y4.2.2.2.1,()),y4.2.2.2.1,())/\P ((y4.1,y4.2.1,y4.2.2.1,y4.2.2.2.1,()),y4.2.2.2.1,()))/\P ((y4.1,y4.2.1,y4.2.2.1,y4.2.2.2.1,()),y4.2.2.2.1,()))/\(P ((y4.1,y4.2.1,y4.2.2.1,y4.2.2.2.1,()),y4.2.2.2.1,())/\P ((y4.1,y4.2.1,y4.2.2.1,y4.2.2.2.1,()),y4.2.2.2.1,()))/\P ((y4.1,y4.2.1,y4.2.2.1,y4.2.2.2.1,()),y4.2.2.2.1,()))/\ ∃(y3:List Int),Cg.fn (p.1,())=some y3/\ ∃(y4:Cb),Da.fn ((p.1,p.2.1,p.2.2.1,()),y3,())=some y4/\((P ((y4.1,y4.2.1,y4.2.2.1,y4.2.2.2.1,()),y4.2.2.2.1,())/\P ((y4.1,y4.2.1,y4.2.2.1,y4.2.2.2.1,()),y4.2.2.2.1,()))/\P ((y4.1,y4.2.1,y4.2.2.1,y4.2.2.2.1,()),y4.2.2.2.1,()))/\(P ((y4.1,y4.2.1,y4.2.2.1,y4.2.2.2.1,()),y4.2.2.2.1,())/\P ((y4.1,y4.2.1,y4.2.2.1,y4.2.2.2.1,()),y4.2.2.2.1,()))/\P ((y4.1,y4.2.1,y4.2.2.1,y4.2.2.2.1,()),y4.2.2.2.1,()))/\(∃(y3:List Int),Cg.fn (p.1,())=some y3/\ ∃(y4:Cb),Da.fn ((p.1,p.2.1,p.2.2.1,()),y3,())=some y4/\((P ((y4.1,y4.2.1,y4.2.2.1,y4.2.2.2.1,()),y4.2.2.2.1,())/\P ((y4.1,y4.2.1,y4.2.2.1,y4.2.2.2.1,()),y4.2.2.2.1,()))/\P ((y4.1,y4.2.1,y4.2.2.1,y4.2.2.2.1,()),y4.2.2.2.1,()))/\(P ((y4.1,y4.2.1,y4.2.2.1,y4.2.2.2.1,()),y4.2.2.2.1,())/\P ((y4.1,y4.2.1,y4.2.2.1,y4.2.2.2.1,()),y4.2.2.2.1,()))/\P ((y4.1,y4.2.1,y4.2.2.1,y4.2.2.2.1,()),y4.2.2.2.1,()))/\(∃(y3:List Int),Cg.fn (p.1,())=some y3/\ ∃(y4:Cb),Da.fn ((p.1,p.2.1,p.2.2.1,()),y3,())=some y4/\((P ((y4.1,y4.2.1,y4.2.2.1,y4.2.2.2.1,()),y4.2.2.2.1,())/\P ((y4.1,y4.2.1,y4.2.2.1,y4.2.2.2.1,()),y4.2.2.2.1,()))/\P ((y4.1,y4.2.1,y4.2.2.1,y4.2.2.2.1,()),y4.2.2.2.1,()))/\(P ((y4.1,y4.2.1,y4.2.2.1,y4.2.2.2.1,()),y4.2.2.2.1,())/\P ((y4.1,y4.2.1,y4.2.2.1,y4.2.2.2.1,()),y4.2.2.2.1,()))/\P ((y4.1,y4.2.1,y4.2.2.1,y4.2.2.2.1,()),y4.2.2.2.1,()))/\ ∃(y3:List Int),Cg.fn (p.1,())=some y3/\ ∃(y4:Cb),Da.fn ((p.1,p.2.1,p.2.2.1,()),y3,())=some y4/\((P ((y4.1,y4.2.1,y4.2.2.1,y4.2.2.2.1,()),y4.2.2.2.1,())/\P ((y4.1,y4.2.1,y4.2.2.1,y4.2.2.2.1,()),y4.2.2.2.1,()))/\P ((y4.1,y4.2.1,y4.2.2.1,y4.2.2.2.1,()),y4.2.2.2.1,()))/\(P ((y4.1,y4.2.1,y4.2.2.1,y4.2.2.2.1,()),y4.2.2.2.1,())/\P ((y4.1,y4.2.1,y4.2.2.1,y4.2.2.2.1,()),y4.2.2.2.1,()))/\P ((y4.1,y4.2.1,y4.2.2.1,y4.2.2.2.1,()),y4.2.2.2.1,()))/\(∃(y3:List Int),Cg.fn (p.1,())=some y3/\ ∃(y4:Cb),Da.fn ((p.1,p.2.1,p.2.2.1,()),y3,())=some y4/\((P ((y4.1,y4.2.1,y4.2.2.1,y4.2.2.2.1,()),y4.2.2.2.1,())/\P ((y4.1,y4.2.1,y4.2.2.1,y4.2.2.2.1,()),y4.2.2.2.1,()))/\P ((y4.1,y4.2.1,y4.2.2.1,y4.2.2.2.1,()),y4.2.2.2.1,()))/\(P ((y4.1,y4.2.1,y4.2.2.1,y4.2.2.2.1,()),y4.2.2.2.1,())/\P ((y4.1,y4.2.1,y4.2.2.1,y4.2.2.2.1,()),y4.2.2.2.1,()))/\P ((y4.1,y4.2.1,y4.2.2.1,y4.2.2.2.1,()),y4.2.2.2.1,()))/\(∃(y3:List Int),Cg.fn (p.1,())=some y3/\ ∃(y4:Cb),Da.fn ((p.1,p.2.1,p.2.2.1,()),y3,())=some y4/\((P ((y4.1,y4.2.1,y4.2.2.1,y4.2.2.2.1,()),y4.2.2.2.1,())/\P ((y4.1,y4.2.1,y4.2.2.1,y4.2.2.2.1,()),y4.2.2.2.1,()))/\P ((y4.1,y4.2.1,y4.2.2.1,y4.2.2.2.1,()),y4.2.2.2.1,()))/\(P ((y4.1,y4.2.1,y4.2.2.1,y4.2.2.2.1,()),y4.2.2.2.1,())/\P ((y4.1,y4.2.1,y4.2.2.1,y4.2.2.2.1,()),y4.2.2.2.1,()))/\P ((y4.1,y4.2.1,y4.2.2.1,y4.2.2.2.1,()),y4.2.2.2.1,()))/\(∃(y3:List Int),Cg.fn (p.1,())=some y3/\ ∃(y4:Cb),Da.fn ((p.1,p.2.1,p.2.2.1,()),y3,())=some y4/\((P ((y4.1,y4.2.1,y4.2.2.1,y4.2.2.2.1,()),y4.2.2.2.1,())/\P ((y4.1,y4.2.1,y4.2.2.1,y4.2.2.2.1,()),y4.2.2.2.1,()))/\P ((y4.1,y4.2.1,y4.2.2.1,y4.2.2.2.1,()),y4.2.2.2.1,()))/\(P ((y4.1,y4.2.1,y4.2.2.1,y4.2.2.2.1,()),y4.2.2.2.1,())/\P ((y4.1,y4.2.1,y4.2.2.1,y4.2.2.2.1,()),y4.2.2.2.1,()))/\P ((y4.1,y4.2.1,y4.2.2.1,y4.2.2.2.1,()),y4.2.2.2.1,()))/\ ∃(y3:List Int),Cg.fn (p.1,())=some y3/\ ∃(y4:Cb),Da.fn ((p.1,p.2.1,p.2.2.1,()),y3,())=some y4/\((P ((y4.1,y4.2.1,y4.2.2.1,y4.2.2.2.1,()),y4.2.2.2.1,())/\P ((y4.1,y4.2.1,y4.2.2.1,y4.2.2.2.1,()),y4.2.2.2.1,()))/\P ((y4.1,y4.2.1,y4.2.2.1,y4.2.2.2.1,()),y4.2.2.2.1,()))/\(P ((y4.1,y4.2.1,y4.2.2.1,y4.2.2.2.1,()),y4.2.2.2.1,())/\P ((y4.1,y4.2.1,y4.2.2.1,y4.2.2.2.1,()),y4.2.2.2.1,()))/\P ((y4.1,y4.2.1,y4.2.2.1,y4.2.2.2.1,()),y4.2.2.2.1,())))=fnW Cu (look [(110,Fu),(124,Cg),(112,Da)]) Lo Try.f75 (p,()) P:=by kernel_rfl
theorem Co {p:PP} (hw:Bp p=true):Bh p=true/\(Dm p.2.2.1 (upto p.1.toNat)).2.2=true:=Bool.and_eq_true_iff.1 hw
theorem wI {p:PP} (hw:Bp p=true):Reach p (Ab p) (cn p) true:=by
 have h:=Yh (Co hw).1
 rw [(Co hw).2] at h
 exact h
theorem KL {p:PP} (hv:Bh p=true):Ol p p.1.toNat (Ab p) (cn p):=(Yh hv).ok
theorem HJ {p:PP} (hV:Valid p):zA p.1.toNat λg=>some g∈p.2.2.1.map some:=
 ⟨by have:=hV.n;omega,λg Yv=>by obtain ⟨g',e,h⟩:=mZ (gq hV).2.2 _ Yv;cases e;exact h⟩
theorem KN {p:PP} (hv:Bh p=true) {x:List Int} (hx:x∈Ab p):Pm p.1.toNat x:=Xf.pm (HJ (valid hv)) ((Yh hv).gen x hx)
theorem wj {n:Nat} {x:List Int} (h:Pm n x):short x:=by
 have h1:=h.1
 have:=h.n2
 unfold short;omega
theorem zO {p:PP} (hw:Bp p=true):(Jy p).2.1=Ab p/\(Jy p).2.2.1=cn p:=by
 have h:=(Co hw).2
 refine uH 3001 0 ([upto p.1.toNat],[0],[0],[0]) [] _ _ ?_
 show Gl p.2.2.1 (Ag p.2.2.1.length) 3001 0 [upto p.1.toNat] [0]=(Ab p,cn p,true)
 rw [<-h]
 rfl
theorem UQ {s goal:List Int} (h:Gw s.length goal) {j:Nat} (hj:j<goal.length):0<=goal[j]/\goal[j]<s.length:=h _ (List.getElem_mem hj)
theorem VI (x:Int) (s:List Int) (h:short s/\0<=x/\x<(s.length:Int)):fnW Cu (look []) jw Try.f151 (x,s,()) (λ(z:Bool)=>z=!decide (Cc s x=x)):=by
 obtain ⟨_,h1,h2⟩:=h
 obtain ⟨xn,rfl⟩:=Int.eq_ofNat_of_zero_le h1
 refine Eq.mp (WH (xn:Int) s _) ⟨_,Ap (by omega),?_⟩
 have e:Cc s (xn:Int)=s[xn]'(by omega):=by unfold Cc;rw [Int.toNat_natCast,Ch]
 rw [e,Bool.eq_iff_iff]
 simp
theorem zc:Sound Try.prog 151 jw:=
 Sound.Dg Bu At mixed Try.func151 (by kernel_rfl) (by kernel_rfl) λx h=>VI x.1 x.2.1 h
theorem Ab0 (xs:List Int) (c:List Int×Unit) (h:short xs/\short c.1/\Gw (List.length c.1) xs):fnW Cu (look [(151,jw)]) qJ Try.f118 (xs,c,()) (λ(z:Int)=>z=Bw (λy=>!decide (Cc c.1 y=y)) xs 0):=by
 obtain ⟨h,h4,h5⟩:=h
 unfold short at h
 refine Eq.mp (Abq xs c _) ?_
 refine Am xs.length (λv=>v.1) (λj _=>Bw (λy=>!decide (Cc c.1 y=y)) (xs.drop j) j=Bw (λy=>!decide (Cc c.1 y=y)) xs 0) rfl (by simp) ?_
 rintro j ⟨i,⟨⟩⟩ K hj hi hR hK
 dsimp only at hi⊢
 subst hi
 refine Br.dec (λhl=>?_) λhl=>?_
 ·have hl:j<xs.length:=by omega
  rw [List.drop_eq_getElem_cons hl] at hR
  simp only [Bw] at hR
  refine ⟨_,Ap hl,_,if_pos ⟨h4,UQ h5 hl⟩,⟨λhe=>?_,λhe=>?_⟩⟩
  ·have he:(!decide (Cc c.1 xs[j]=xs[j]))=true:=he
   rw [if_pos he] at hR
   exact hR
  ·have he:(!decide (Cc c.1 xs[j]=xs[j]))=false:=he
   rw [if_neg (by rw [he];decide)] at hR
   rw [Ak (by omega)]
   exact hK hl _ rfl (by push_cast;exact hR)
 ·have:j=xs.length:=by omega
  subst this
  rw [List.drop_length] at hR
  exact hR
theorem EO:Sound Try.prog 118 qJ:=
 Sound.Dg Bu (Ah zc At) mixed Try.func118 (by kernel_rfl) (by kernel_rfl) λx h=>Ab0 x.1 x.2.1 h
theorem Aas (xs:List Int) (c:List Int×Unit) (h:short xs/\short c.1/\Gw (List.length c.1) xs):fnW Cu (look [(118,qJ)]) qD Try.f131 (xs,c,()) (λ(z:Bool)=>z=List.any xs (λy=>!decide (Cc c.1 y=y))):=by
 refine Eq.mp (Abi xs c _) ⟨_,if_pos h,?_⟩
 rw [Bool.eq_iff_iff,decide_eq_true_iff]
 exact Vz _ xs 0 (Int.le_refl 0)
theorem EG:Sound Try.prog 131 qD:=
 Sound.Dg Bu (Ah EO At) mixed Try.func131 (by kernel_rfl) (by kernel_rfl) λx h=>Aas x.1 x.2.1 h
theorem we (g s:List Int) (h:short g/\short s/\Gw s.length g):fnW Cu (look [(131,qD)]) Ob Try.f121 (g,s,()) (λ(z:Bool)=>z=Wa g s):=by
 refine Eq.mp (x5 g s _) ⟨_,if_pos h,?_⟩
 dsimp only
 unfold Wa
 rw [List.any_eq_not_all_not,Bool.not_not]
 simp only [Bool.not_not]
theorem l8:Sound Try.prog 121 Ob:=
 Sound.Dg Bu (Ah EG At) mixed Try.func121 (by kernel_rfl) (by kernel_rfl) λx h=>we x.1 x.2.1 h
theorem yI (p:PP) (h:Eu p):fnW Cu (look [(110,Fu),(124,Cg),(112,Da)]) Lo Try.f75 (p,()) (λ(z:SS×Bool×Unit)=>z=fD p):=by
 refine Eq.mp (zu p _) ⟨_,if_pos h,?_⟩
 show Br (!Bh p) _ _
 unfold fD
 by_cases hv:Bh p=true
 ·rw [if_pos hv,hv]
  refine ⟨λhb=>by simp at hb,λ_=>?_⟩
  have hn:=(valid hv).n
  have hid:Cg.fn (p.1,())=some (upto p.1.toNat):=if_pos ⟨by show 0<=p.1;omega,by show p.1<=20;omega⟩
  have RS: ∀y∈upto p.1.toNat,0<=y/\y<p.1:= λy hy=>by have:=Im.1 hy;omega
  have uY:Da.fn ((p.1,p.2.1,p.2.2.1,()),upto p.1.toNat,())=some (Dj p.2.2.1 (upto p.1.toNat)):=if_pos ⟨hv,by show (upto p.1.toNat).length<=20;rw [Pk];omega,RS⟩
  have hz:(((Dj p.2.2.1 (upto p.1.toNat)).1,(Dj p.2.2.1 (upto p.1.toNat)).2.1,(Dj p.2.2.1 (upto p.1.toNat)).2.2.1,(Dj p.2.2.1 (upto p.1.toNat)).2.2.2.1,()),(Dj p.2.2.1 (upto p.1.toNat)).2.2.2.1,())=(Dj p.2.2.1 (upto p.1.toNat),Bp p,()):=by
   unfold Bp
   rw [hv,Bool.true_and]
   rfl
  repeat' (first|exact hz|refine ⟨_,hid,?_⟩|refine ⟨_,uY,?_⟩|refine ⟨?_,?_⟩)
 ·rw [if_neg hv]
  refine ⟨λ_=>rfl,λhb=>?_⟩
  exact absurd (by simpa using hb) hv
theorem nL:Sound Try.prog 75 Lo:=
 Sound.Dg Bu (Ah Yq (Ah nE (Ah kD At))) mixed Try.func75 (by kernel_rfl) (by kernel_rfl) λx h=>yI x.1 h
theorem EZ {xs:List (List Int)} {room:Int} (hr:roomy room) (h: ¬Jl xs room<0):(Mx xs:Int)<=room-Jl xs room/\roomy (Jl xs room):=by
 have e2:=wN h
 have:=vI hr h
 exact ⟨by omega,this⟩
theorem SL {b:Bool} (h:(!b)=true):b=false:=by cases b<;>simp_all
theorem vQ {p:PP} {gs:List (List Int)} (h:Lk p gs=true) {j:Nat} (hj:j<gs.length):Fa p.1 gs[j]=true:=by
 obtain ⟨_,_,h3,_⟩:=Gm.1 h
 exact (h3 j hj hj).1
theorem cS {p:PP} (hv:Bh p=true):(Ab p).length<=3000:=(KL hv).ok.oe
theorem dx {p:PP} {t s:List Int} (hv:Bh p=true) (hs:s∈Ab p) (ht:Dd p t=true):Gw s.length t:=by
 have h1:=(KN hv hs).1
 have hn:=(valid hv).n
 intro y hy
 have:=(Fo ht).2 y hy
 omega
theorem nQ {p:PP} (hp:Eu p) (hw:Bp p=true):Lo.fn ((p.1,p.2.1,p.2.2.1,()),())=some (Dj p.2.2.1 (upto p.1.toNat),true,()):=
 (if_pos hp).trans (congrArg some ((if_pos (Co hw).1).trans (by rw [<-hw])))
theorem sX {p:PP} (hp:Eu p) (hw: ¬Bp p=true): ∃f,Lo.fn ((p.1,p.2.1,p.2.2.1,()),())=some (f,false,()):=by
 by_cases hv:Bh p=true
 ·exact ⟨_,(if_pos hp).trans (congrArg some ((if_pos hv).trans (by rw [<-Bool.not_eq_true _|>.mp hw])))⟩
 ·exact ⟨_,(if_pos hp).trans (congrArg some (if_neg hv))⟩
end Go.Proofs.Ytjbdmibbbpdnnaa

namespace Go.Proofs.Ytjbdmibbbpdnnaa
open Go.RowKit
def Gg (g:List (List Int)) (s w:List Int):List Int:=w.foldl (λq l=>Aa q (Af g l)) s
theorem CR {p:PP} (hV:Valid p) {l:Int} (hl:Em (List.length p.2.2.1) l):Pm p.1.toNat (Af p.2.2.1 l):=by
 have hn:=hV.n
 obtain ⟨k,hk,Iv⟩:=Lw hl
 have hp:Pm p.1.toNat (p.2.2.1[k]):=⟨by have:=hV.len _ (List.getElem_mem hk);omega,fI (hV.perm _ (List.getElem_mem hk))⟩
 rcases Iv with rfl|rfl
 ·rw [Li hk];exact hp
 ·rw [Lh hk];exact hp.inv
theorem uc {p:PP} (hV:Valid p): ∀(w s:List Int),(∀l∈w,Em (List.length p.2.2.1) l)->Pm p.1.toNat s->Pm p.1.toNat (Gg p.2.2.1 s w)
 | [],s,_,hs=>hs
 |l::w,s,hl,hs=>by
  have h1:=CR hV (hl l (by simp))
  exact uc hV w _ (λl' h=>hl l' (List.mem_cons_of_mem _ h)) (hs.comp h1)
theorem xp {g:List (List Int)} {s w:List Int} {j:Nat} (h:j<w.length):Gg g s (w.take (j+1))=Aa (Gg g s (w.take j)) (Af g w[j]):=by
 unfold Gg
 rw [List.take_add_one,List.getElem?_eq_getElem h,Option.toList_some,List.foldl_append]
 rfl
theorem VM {n:Nat} {q:List Int} (h:Pm n q):q.length<=20:=by have:=h.1;have:=h.n2;omega
theorem JZ {p:PP} (hV:Valid p) {q:List Int} (h:Pm p.1.toNat q): ∀y∈q,0<=y/\y<p.1:= λy hy=>by
 have:=h.row y hy
 have:=hV.n
 omega
theorem NC {p:PP} (hv:Bh p=true) {g s:List Int} (hs:Pm p.1.toNat s) (hg:Fa p.1 g=true):Gw s.length g:=by
 have h1:=hs.1
 have hn:=(valid hv).n
 have h2:=Fo (p:=p) (t:=g) (Ju.2 ⟨hv,hg⟩)
 intro y hy
 have:=h2.2 y hy
 omega
end Go.Proofs.Ytjbdmibbbpdnnaa

namespace Go.Proofs.Ytjbdmibbbpdnnaa
open Go.RowKit
theorem map_take {α β:Type} (f:α->β) {xs:List α} {j:Nat} (h:j<xs.length):(xs.take (j+1)).map f=(xs.take j).map f++ [f xs[j]]:=by
 rw [List.take_add_one,List.getElem?_eq_getElem h,List.map_append];rfl
theorem Aah {p:PP} {s:List Int} (h:s∈Ab p):0<=(Us p s).1/\(Us p s).1<(Ab p).length/\(Ab p).getD (Us p s).1.toNat []=s:=by
 unfold Us
 rw [if_pos h]
 have h1:=List.idxOf_lt_length_of_mem h
 refine ⟨Int.natCast_nonneg _,by show ((List.idxOf s (Ab p):Nat):Int)<_;omega,?_⟩
 show (Ab p).getD ((List.idxOf s (Ab p):Nat):Int).toNat []=s
 rw [Int.toNat_natCast,Ch h1]
 exact List.getElem_idxOf h1
theorem sZ {p:PP} (hv:Bh p=true):1<=(Ab p).length:=by
 obtain ⟨A,h⟩:=(Yh hv).first
 show 1<=(Dm p.2.2.1 (upto p.1.toNat)).1.length
 rw [h];simp
end Go.Proofs.Ytjbdmibbbpdnnaa
