/-
  Part 42 of the proof that the statement FnExactIsMethodSolution holds.
-/
import Derived.Test.YtebabhocakedaaaCIsMethodSolution40
namespace Go.Proofs.Ytebabhocakedaaa
open Go.RowKit
def ap (p:List Int) (i:Nat):Nat:=(Gk p (i:Int)).toNat
def Pm (n:Nat) (p:List Int):Prop:=p.length=n∧Qt p
theorem Pm.n1 {n:Nat} {p:List Int} (h:Pm n p):1≤n:=h.1▸h.2.pos
theorem Pm.n2 {n:Nat} {p:List Int} (h:Pm n p):n≤20:=h.1▸h.2.len
theorem Pm.at' {n:Nat} {p:List Int} (h:Pm n p) {i:Nat} (hi:i<n):Gk p (i:Int)=(ap p i:Int)∧ap p i<n:=by
 have hi':i<p.length:=by rw [h.1];exact hi
 have:=h.2.row _ (List.getElem_mem hi')
 unfold ap
 rw [Gv hi']
 have h1:=h.1
 omega
theorem Pm.lt {n:Nat} {p:List Int} (h:Pm n p) {i:Nat} (hi:i<n):ap p i<n:=(h.at' hi).2
theorem Pm.ext {n:Nat} {p q:List Int} (h:Pm n p) (k:Pm n q) (e: ∀i,i<n→ap p i=ap q i):p=q:=by
 refine List.ext_getElem (by rw [h.1,k.1]) fun i h1 h2=>?_
 have hi:i<n:=by rw [←h.1];exact h1
 have a:=(h.at' hi).1
 have b:=(k.at' hi).1
 rw [Gv h1] at a
 rw [Gv h2] at b
 rw [a,b,e i hi]
theorem Pm.inj {n:Nat} {p:List Int} (h:Pm n p) {i j:Nat} (hi:i<n) (hj:j<n) (e:ap p i=ap p j):i=j:=
 h.2.inj i j (by rw [h.1];exact hi) (by rw [h.1];exact hj) e
theorem Pm.Bbs {n:Nat} {p:List Int} (h:Pm n p) {k:Nat} (hk:k<n): ∃i,i<n∧ap p i=k:=by
 obtain ⟨i,h1,h2⟩:=h.2.Bbs k (by rw [h.1];exact hk)
 exact ⟨i,by rw [←h.1];exact h1,h2⟩
theorem Pm.of {n:Nat} {p:List Int} (hl:p.length=n) (h1:1≤n) (h2:n≤20) (f:Nat→Nat) (hf: ∀i,i<n→p[i]?=some (f i:Int)∧f i<n) (hi: ∀i j,i<n→j<n→f i=f j→i=j):Pm n p:=by
 refine ⟨hl,by omega,by omega,fun y hy=>?_,?_⟩
 ·obtain ⟨i,hi,rfl⟩:=List.mem_iff_getElem.1 hy
  obtain ⟨h3,h4⟩:=hf i (by omega)
  rw [List.getElem?_eq_getElem hi] at h3
  rw [Option.some.inj h3]
  omega
 ·refine List.pairwise_iff_getElem.2 fun i j h3 h4 h5 h6=>?_
  have a:=(hf i (by omega)).1
  have b:=(hf j (by omega)).1
  rw [List.getElem?_eq_getElem h3] at a
  rw [List.getElem?_eq_getElem h4] at b
  rw [Option.some.inj a,Option.some.inj b] at h6
  have:=hi i j (by omega) (by omega) (by omega)
  omega
theorem Aru {n:Nat} {p q:List Int} (hp:Pm n p) (hq:Pm n q) {i:Nat} (hi:i<n):(Aa p q)[i]?=some (ap q (ap p i):Int):=by
 have h1:i<p.length:=by rw [hp.1];exact hi
 unfold Aa
 rw [List.getElem?_map,List.getElem?_eq_getElem h1]
 have a:=(hp.at' hi).1
 rw [Gv h1] at a
 simp only [Option.map_some,a]
 rw [(hq.at' (hp.at' hi).2).1]
theorem Pm.comp {n:Nat} {p q:List Int} (hp:Pm n p) (hq:Pm n q):Pm n (Aa p q):=
 Pm.of (by rw [Rz,hp.1]) hp.n1 hp.n2 (fun i=>ap q (ap p i)) (fun i hi=>⟨Aru hp hq hi,hq.lt (hp.lt hi)⟩) fun i j hi hj e=>hp.inj hi hj (hq.inj (hp.lt hi) (hp.lt hj) e)
theorem Bay {p:List Int} {i k:Nat} (h:p[i]?=some (k:Int)):ap p i=k:=by
 unfold ap Gk
 rw [Int.toNat_natCast,List.getD_eq_getElem?_getD,h]
 simp
theorem Ey {n:Nat} {p q:List Int} (hp:Pm n p) (hq:Pm n q) {i:Nat} (hi:i<n):ap (Aa p q) i=ap q (ap p i):=Bay (Aru hp hq hi)
theorem Aue {n i:Nat} (hi:i<n):(upto n)[i]?=some (i:Int):=by simp [upto,hi]
theorem Ad8 {n i:Nat} (hi:i<n):ap (upto n) i=i:=Bay (Aue hi)
theorem Pm.id {n:Nat} (h1:1≤n) (h2:n≤20):Pm n (upto n):=Pm.of (by simp [upto]) h1 h2 (fun i=>i) (fun i hi=>⟨Aue hi,hi⟩) fun _ _ _ _ e=>e
theorem Ay3 {n:Nat} {p:List Int} (hp:Pm n p) {i:Nat} (hi:i<n):(Ah p)[ap p i]?=some (i:Int):=Bbd hp.2 (by rw [hp.1];exact hi)
theorem Aa9 {n:Nat} {p:List Int} (hp:Pm n p) {i:Nat} (hi:i<n):ap (Ah p) (ap p i)=i:=Bay (Ay3 hp hi)
theorem Aok {n:Nat} {p:List Int} (hp:Pm n p) {k:Nat} (hk:k<n):ap p (ap (Ah p) k)=k:=by
 obtain ⟨i,hi,rfl⟩:=hp.Bbs hk
 rw [Aa9 hp hi]
theorem Pm.inv {n:Nat} {p:List Int} (hp:Pm n p):Pm n (Ah p):=by
 refine Pm.of (by rw [Ai2,hp.1]) hp.n1 hp.n2 (fun k=>ap (Ah p) k) (fun k hk=>?_) fun i j hi hj e=>?_
 ·obtain ⟨i,hi,rfl⟩:=hp.Bbs hk
  rw [Aa9 hp hi]
  exact ⟨Ay3 hp hi,hi⟩
 ·rw [←Aok hp hi,←Aok hp hj,e]
theorem Dc {n:Nat} {p q r:List Int} (hp:Pm n p) (hq:Pm n q) (hr:Pm n r):Aa (Aa p q) r=Aa p (Aa q r):=
 ((hp.comp hq).comp hr).ext (hp.comp (hq.comp hr)) fun i hi=>by rw [Ey (hp.comp hq) hr hi,Ey hp hq hi,Ey hp (hq.comp hr) hi,Ey hq hr (hp.lt hi)]
theorem comp_id {n:Nat} {p:List Int} (hp:Pm n p):Aa p (upto n)=p:=
 (hp.comp (Pm.id hp.n1 hp.n2)).ext hp fun i hi=>by rw [Ey hp (Pm.id hp.n1 hp.n2) hi,Ad8 (hp.lt hi)]
theorem id_comp {n:Nat} {p:List Int} (hp:Pm n p):Aa (upto n) p=p:=
 ((Pm.id hp.n1 hp.n2).comp hp).ext hp fun i hi=>by rw [Ey (Pm.id hp.n1 hp.n2) hp hi,Ad8 hi]
theorem Adg {n:Nat} {p:List Int} (hp:Pm n p):Aa p (Ah p)=upto n:=
 (hp.comp hp.inv).ext (Pm.id hp.n1 hp.n2) fun i hi=>by rw [Ey hp hp.inv hi,Aa9 hp hi,Ad8 hi]
theorem Uf {n:Nat} {p:List Int} (hp:Pm n p):Aa (Ah p) p=upto n:=
 (hp.inv.comp hp).ext (Pm.id hp.n1 hp.n2) fun i hi=>by rw [Ey hp.inv hp hi,Aok hp hi,Ad8 hi]
theorem Aj7 {n:Nat} {p q:List Int} (hp:Pm n p) (hq:Pm n q) (h:Aa p q=upto n):Ah p=q:=by
 rw [←comp_id hp.inv,←h,←Dc hp.inv hp hq,Uf hp,id_comp hq]
theorem inv_mul {n:Nat} {p q:List Int} (hp:Pm n p) (hq:Pm n q):Ah (Aa p q)=Aa (Ah q) (Ah p):=
 Aj7 (hp.comp hq) (hq.inv.comp hp.inv) (by
  rw [Dc hp hq (hq.inv.comp hp.inv),←Dc hq hq.inv hp.inv,Adg hq,id_comp hp.inv,Adg hp])
theorem inv_inv {n:Nat} {p:List Int} (hp:Pm n p):Ah (Ah p)=p:=Aj7 hp.inv hp (Uf hp)
theorem Bbe {n:Nat} (h1:1≤n) (h2:n≤20):Ah (upto n)=upto n:=Aj7 (Pm.id h1 h2) (Pm.id h1 h2) (comp_id (Pm.id h1 h2))
inductive Gen (n:Nat) (S:List Int→Prop):List Int→Prop where
 |id:Gen n S (upto n)
 |mul {p g:List Int} :Gen n S p→S g→Gen n S (Aa p g)
 |inv {p g:List Int} :Gen n S p→S g→Gen n S (Aa p (Ah g))
def PmS (n:Nat) (S:List Int→Prop):Prop:=(1≤n∧n≤20)∧ ∀g,S g→Pm n g
theorem Gen.pm {n:Nat} {S:List Int→Prop} (hS:PmS n S) {p:List Int} (h:Gen n S p):Pm n p:=by
 induction h with
 |id=>exact Pm.id hS.1.1 hS.1.2
 |mul _ hg ih=>exact ih.comp (hS.2 _ hg)
 |inv _ hg ih=>exact ih.comp (hS.2 _ hg).inv
theorem Gen.comp {n:Nat} {S:List Int→Prop} (hS:PmS n S) {p q:List Int} (hp:Gen n S p) (hq:Gen n S q):Gen n S (Aa p q):=by
 induction hq with
 |id=>rw [comp_id (hp.pm hS)];exact hp
 |mul hq hg ih=>rw [←Dc (hp.pm hS) (hq.pm hS) (hS.2 _ hg)];exact .mul ih hg
 |inv hq hg ih=>rw [←Dc (hp.pm hS) (hq.pm hS) (hS.2 _ hg).inv];exact .inv ih hg
theorem Gen.one {n:Nat} {S:List Int→Prop} (hS:PmS n S) {g:List Int} (hg:S g):Gen n S g:=by
 have:=Gen.mul (n:=n) (S:=S) .id hg
 rwa [id_comp (hS.2 g hg)] at this
theorem Gen.Bez {n:Nat} {S:List Int→Prop} (hS:PmS n S) {g:List Int} (hg:S g):Gen n S (Ah g):=by
 have:=Gen.inv (n:=n) (S:=S) .id hg
 rwa [id_comp (hS.2 g hg).inv] at this
theorem Gen.Ap2 {n:Nat} {S:List Int→Prop} (hS:PmS n S) {p:List Int} (hp:Gen n S p):Gen n S (Ah p):=by
 induction hp with
 |id=>rw [Bbe hS.1.1 hS.1.2];exact .id
 |mul hq hg ih=>rw [inv_mul (hq.pm hS) (hS.2 _ hg)];exact (Gen.Bez hS hg).comp hS ih
 |inv hq hg ih=>rw [inv_mul (hq.pm hS) (hS.2 _ hg).inv,inv_inv (hS.2 _ hg)];exact (Gen.one hS hg).comp hS ih
theorem Gen.trans {n:Nat} {S S':List Int→Prop} (hS':PmS n S') (h: ∀g,S g→Gen n S' g) {p:List Int} (hp:Gen n S p):Gen n S' p:=by
 induction hp with
 |id=>exact .id
 |mul _ hg ih=>exact ih.comp hS' (h _ hg)
 |inv _ hg ih=>exact ih.comp hS' ((h _ hg).Ap2 hS')
abbrev PO:=Option (List Int)
abbrev Row:=List PO
abbrev Ck:=List Row
def Gm (row:Row):List Int:=(upto row.length).filter fun y=>(row.getD y.toNat none).isSome
def Ho (T:Ck):Nat→Nat→List Int→Bool
 |0,_,_=>true
 |k+1,i,p=>match (T.getD i []).getD (Gk p (i:Int)).toNat none with
  |none=>false
  |some t=>Ho T k (i+1) (Aa p (Ah t))
def Jr (row:Row):Nat:=row.countP (·.isNone)
def Pv (x:Int) (s:Row×List Int) (o:PO):Row×List Int:=
 match s.1.getD (Gk (o.getD []) x).toNat none with
 |some _=>s
 |none=>(s.1.set (Gk (o.getD []) x).toNat (some (Aa ((s.1.getD x.toNat none).getD []) (o.getD []))),s.2++ [Gk (o.getD []) x])
def Pl (x:Int) (gs:List PO) (s:Row×List Int):Row×List Int:=gs.foldl (Pv x) s
def Pc (gs:List PO):Nat→List Int→Row→Row
 |0,_,row=>row
 |_+1,[],row=>row
 |f+1,x::q,row=>Pc gs f (Pl x gs (row,q)).2 (Pl x gs (row,q)).1
def Oc (gs:List PO) (row:Row):Row:=Pc gs 100 (Gm row) row
def Kw (row:Row) (y:Int) (g:PO):List Int:=
 Aa (Aa ((row.getD y.toNat none).getD []) (g.getD [])) (Ah ((row.getD (Gk (g.getD []) y).toNat none).getD []))
def Xg (row:Row) (gs:List PO):List (List Int):=(Gm row).flatMap fun y=>gs.map fun g=>Kw row y g
def Db:Nat→Nat→List Int→Ck×Ck→Ck×Ck
 |0,_,_,s=>s
 |k+1,l,p,s=>
  if Ho s.2 (k+1) l p=true then s else
   (Xg (Oc (s.1.getD l []++ [some p]) (s.2.getD l [])) (s.1.getD l []++ [some p])).foldl (fun s q=>Db k (l+1) q s)
    (s.1.set l (s.1.getD l []++ [some p]),s.2.set l (Oc (s.1.getD l []++ [some p]) (s.2.getD l [])))
def Fx (l:Nat) (p:List Int):Prop:= ∀i,i<l→ap p i=i
def Gn (n:Nat) (gs:List PO):List Int→Prop:=Gen n fun g=>some g∈gs
structure Lvl (n l:Nat) (gs:List PO) (row:Row) (H:List Int→Prop):Prop where
 pg: ∀o∈gs,∃g,o=some g∧Pm n g∧Fx l g
 rl:row.length=n
 r0:row.getD l none=some (upto n)
 rt: ∀y t,row.getD y none=some t→Pm n t∧Fx l t∧ap t l=y∧Gn n gs t
 cl: ∀y t g,row.getD y none=some t→some g∈gs→row.getD (ap g y) none≠none
 sg: ∀y t g t',row.getD y none=some t→some g∈gs→row.getD (ap g y) none=some t'→H (Aa (Aa t g) (Ah t'))
def Abz (n:Nat):Nat→Nat→Ck×Ck→Prop
 |0,l,s=>s.1.getD l []= []
 |k+1,l,s=>Abz n k (l+1) s∧Lvl n l (s.1.getD l []) (s.2.getD l []) (fun q=>Ho s.2 k (l+1) q=true)∧ ∀g,some g∈s.1.getD (l+1) []→Gn n (s.1.getD l []) g
theorem Bdx {l1 l2:List Nat} (hn:l1.Nodup) (hs: ∀x∈l1,x∈l2) (hl:l2.length≤l1.length): ∀x∈l2,x∈l1:=by
 induction l1 generalizing l2 with
 |nil=>
  intro x hx
  have:l2= []:=List.eq_nil_of_length_eq_zero (by simpa using hl)
  rw [this] at hx;cases hx
 |cons a l ih=>
  intro x hx
  obtain ⟨h1,h2⟩:=List.nodup_cons.1 hn
  have ha:=hs a (by simp)
  by_cases e:x=a
  ·subst e;simp
  ·refine List.mem_cons_of_mem _ (ih (l2:=l2.erase a) h2 (fun y hy=>?_) ?_ x ((List.mem_erase_of_ne e).2 hx))
   ·have hya:y≠a:=fun e'=>h1 (by rw [←e'];exact hy)
    exact (List.mem_erase_of_ne hya).2 (hs y (by simp [hy]))
   ·rw [List.length_erase_of_mem ha]
    simp only [List.length_cons] at hl
    omega
theorem Aw7 {n:Nat} {g:List Int} (hg:Pm n g) (D:Nat→Bool) (h: ∀y,y<n→D y=true→D (ap g y)=true) {y:Nat} (hy:y<n) (hD:D y=true): ∃x,x<n∧D x=true∧ap g x=y:=by
 have:=Bdx (l1:=((List.range n).filter D).map (ap g)) (l2:=(List.range n).filter D) ?_ ?_ (by simp) y (List.mem_filter.2 ⟨List.mem_range.2 hy,hD⟩)
 ·obtain ⟨x,hx,e⟩:=List.mem_map.1 this
  obtain ⟨h1,h2⟩:=List.mem_filter.1 hx
  exact ⟨x,List.mem_range.1 h1,h2,e⟩
 ·refine List.pairwise_map.2 (List.Pairwise.imp_of_mem ?_ (List.nodup_range.filter D))
  intro a b ha hb hne e
  exact hne (hg.inj (List.mem_range.1 (List.mem_filter.1 ha).1) (List.mem_range.1 (List.mem_filter.1 hb).1) e)
 ·intro x hx
  obtain ⟨z,hz,rfl⟩:=List.mem_map.1 hx
  obtain ⟨h1,h2⟩:=List.mem_filter.1 hz
  exact List.mem_filter.2 ⟨List.mem_range.2 (hg.lt (List.mem_range.1 h1)),h z (List.mem_range.1 h1) h2⟩
theorem Ahz {row:Row} {y:Nat} {t:List Int} (h:row.getD y none=some t):y<row.length:=by
 rw [List.getD_eq_getElem?_getD] at h
 refine Classical.byContradiction fun hn=>?_
 rw [List.getElem?_eq_none (by omega)] at h
 cases h
theorem Lvl.pms {n l:Nat} {gs:List PO} {row:Row} {H:List Int→Prop} (h:Lvl n l gs row H):PmS n fun g=>some g∈gs:=by
 refine ⟨?_,fun g hg=>?_⟩
 ·have:=(h.rt l _ h.r0).1
  exact ⟨this.n1,this.n2⟩
 ·obtain ⟨g',e,h1,_⟩:=h.pg _ hg
  cases e;exact h1
theorem Fx.inv {n l:Nat} {p:List Int} (hp:Pm n p) (h:Fx l p) (hl:l≤n):Fx l (Ah p):=fun i hi=>by
 have:=Aa9 hp (i:=i) (by omega)
 rwa [h i hi] at this
theorem Fx.comp {n l:Nat} {p q:List Int} (hp:Pm n p) (hq:Pm n q) (h1:Fx l p) (h2:Fx l q) (hl:l≤n):Fx l (Aa p q):=fun i hi=>by
 rw [Ey hp hq (by omega),h1 i hi,h2 i hi]
theorem Fx.all {n:Nat} {p:List Int} (hp:Pm n p) (h:Fx n p):p=upto n:=hp.ext (Pm.id hp.n1 hp.n2) fun i hi=>by rw [h i hi,Ad8 hi]
theorem Fx.div {n l:Nat} {p t:List Int} (hp:Pm n p) (ht:Pm n t) (h1:Fx l p) (h2:Fx l t) (hl:l<n) (e:ap t l=ap p l):Fx (l+1) (Aa p (Ah t)):=fun i hi=>by
 rw [Ey hp ht.inv (by omega)]
 by_cases hil:i<l
 ·rw [h1 i hil];exact h2.inv ht (by omega) i hil
 ·have:i=l:=by omega
  subst this
  rw [←e,Aa9 ht hl]
theorem Adx {n:Nat} (h1:1≤n) (h2:n≤20): ∀(k l:Nat) (s:Ck×Ck),l+k=n→Abz n k l s→ ∀p,Pm n p→Fx l p→(Ho s.2 k l p=true↔Gn n (s.1.getD l []) p)
 |0,l,s,hk,hc,p,hp,hf=>by
  have hl:l=n:=by omega
  subst hl
  rw [hf.all hp]
  exact ⟨fun _=> .id,fun _=>rfl⟩
 |k+1,l,s,hk,hc,p,hp,hf=>by
  obtain ⟨c1,c2,c3⟩:=hc
  have hS:=c2.pms
  have ih:=Adx h1 h2 k (l+1) s (by omega) c1
  have hS1:PmS n fun g=>some g∈s.1.getD (l+1) []:=⟨⟨h1,h2⟩,fun g hg=>(c3 g hg).pm hS⟩
  have hln:l<n:=by omega
  constructor
  ·intro h
   simp only [Ho] at h
   rw [show (Gk p (l:Int)).toNat=ap p l from rfl] at h
   split at h
   ·cases h
   ·rename_i t ht
    obtain ⟨t1,t2,t3,t4⟩:=c2.rt _ _ ht
    have hf':=Fx.div hp t1 hf t2 hln t3
    have hg:=((ih _ (hp.comp t1.inv) hf').1 h).trans hS c3
    have:=Gen.comp hS hg t4
    rwa [Dc hp t1.inv t1,Uf t1,comp_id hp] at this
  ·intro h
   have key: ∀q,Gn n (s.1.getD l []) q→ ∃t,(s.2.getD l []).getD (ap q l) none=some t∧Gn n (s.1.getD (l+1) []) (Aa q (Ah t)):=by
    intro q hq
    induction hq with
    |id=>
     refine ⟨upto n,by rw [Ad8 hln];exact c2.r0,?_⟩
     rw [Bbe h1 h2,comp_id (Pm.id h1 h2)]
     exact .id
    | @mul q g hq hg ihq=>
     obtain ⟨t,e1,e2⟩:=ihq
     have hqp:=Gen.pm hS hq
     have hgp:=hS.2 _ hg
     obtain ⟨t1,t2,t3,t4⟩:=c2.rt _ _ e1
     cases e3:(s.2.getD l []).getD (ap g (ap q l)) none with
     |none=>exact absurd e3 (c2.cl _ _ _ e1 hg)
     |some t'=>
      obtain ⟨u1,u2,u3,u4⟩:=c2.rt _ _ e3
      have hsg:=c2.sg _ _ _ _ e1 hg e3
      have hfg:Fx (l+1) (Aa (Aa t g) (Ah t')):=Fx.div (t1.comp hgp) u1 (Fx.comp t1 hgp t2 (by obtain ⟨g',e,_,h⟩:=c2.pg _ hg;cases e;exact h) (by omega)) u2 hln (by rw [u3,Ey t1 hgp hln,t3])
      have hgn:=(ih _ ((t1.comp hgp).comp u1.inv) hfg).1 hsg
      refine ⟨t',by rw [Ey hqp hgp hln];exact e3,?_⟩
      have:=Gen.comp hS1 e2 hgn
      rwa [show Aa (Aa q (Ah t)) (Aa (Aa t g) (Ah t'))=Aa (Aa q g) (Ah t') by
       rw [Dc hqp t1.inv ((t1.comp hgp).comp u1.inv),Dc t1 hgp u1.inv,←Dc t1.inv t1 (hgp.comp u1.inv),Uf t1,id_comp (hgp.comp u1.inv),Dc hqp hgp u1.inv]] at this
    | @inv q g hq hg ihq=>
     obtain ⟨t,e1,e2⟩:=ihq
     have hqp:=Gen.pm hS hq
     have hgp:=hS.2 _ hg
     obtain ⟨t1,t2,t3,t4⟩:=c2.rt _ _ e1
     have hy:ap q l<n:=hqp.lt hln
     obtain ⟨x,hx,hD,he⟩:=Aw7 hgp (fun y=>((s.2.getD l []).getD y none).isSome) (fun y hy hd=>by
      obtain ⟨t0,ht0⟩:=Option.isSome_iff_exists.1 hd
      exact Option.ne_none_iff_isSome.1 (c2.cl _ _ _ ht0 hg)) hy (by rw [e1];rfl)
     obtain ⟨t',e3⟩:=Option.isSome_iff_exists.1 hD
     obtain ⟨u1,u2,u3,u4⟩:=c2.rt _ _ e3
     have hsg:=c2.sg _ _ _ _ e3 hg (by rw [he];exact e1)
     have hfg:Fx (l+1) (Aa (Aa t' g) (Ah t)):=Fx.div (u1.comp hgp) t1 (Fx.comp u1 hgp u2 (by obtain ⟨g',e,_,h⟩:=c2.pg _ hg;cases e;exact h) (by omega)) t2 hln (by rw [t3,Ey u1 hgp hln,u3,he])
     have hgn:=Gen.Ap2 hS1 ((ih _ ((u1.comp hgp).comp t1.inv) hfg).1 hsg)
     have hax:ap (Ah g) (ap q l)=x:=by rw [←he,Aa9 hgp hx]
     refine ⟨t',by rw [Ey hqp hgp.inv hln,hax];exact e3,?_⟩
     have:=Gen.comp hS1 e2 hgn
     rwa [show Aa (Aa q (Ah t)) (Ah (Aa (Aa t' g) (Ah t)))=Aa (Aa q (Ah g)) (Ah t') by
      rw [inv_mul (u1.comp hgp) t1.inv,inv_inv t1,inv_mul u1 hgp,Dc hqp t1.inv (t1.comp (hgp.inv.comp u1.inv)),←Dc t1.inv t1 (hgp.inv.comp u1.inv),Uf t1,id_comp (hgp.inv.comp u1.inv),Dc hqp hgp.inv u1.inv]] at this
   obtain ⟨t,e1,e2⟩:=key p h
   obtain ⟨t1,t2,t3,t4⟩:=c2.rt _ _ e1
   simp only [Ho]
   rw [show (Gk p (l:Int)).toNat=ap p l from rfl,e1]
   exact (ih _ (hp.comp t1.inv) (Fx.div hp t1 hf t2 hln t3)).2 e2
end Go.Proofs.Ytebabhocakedaaa
