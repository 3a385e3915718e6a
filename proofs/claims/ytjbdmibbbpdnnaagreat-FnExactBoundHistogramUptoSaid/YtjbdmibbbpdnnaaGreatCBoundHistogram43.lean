/-
  Part 44 of the proof that the statement FnExactBoundHistogram holds.
-/
import Derived.Test.YtjbdmibbbpdnnaaGreatCBoundHistogram42
namespace Go.Proofs.YtjbdmibbbpdnnaaGreat
open Go.RowKit
def ap (p:List Int) (i:Nat):Nat:=(Ji p (i:Int)).toNat
def Pm (n:Nat) (p:List Int):Prop:=p.length=n/\Xg p
theorem Pm.n1 {n:Nat} {p:List Int} (h:Pm n p):1<=n:=h.1▸h.2.pos
theorem Pm.n2 {n:Nat} {p:List Int} (h:Pm n p):n<=20:=h.1▸h.2.len
theorem Pm.Ue {n:Nat} {p:List Int} (h:Pm n p) {i:Nat} (hi:i<n):Ji p (i:Int)=(ap p i:Int)/\ap p i<n:=by
 have oX:i<p.length:=by rw [h.1];exact hi
 have:=h.2.row _ (List.getElem_mem oX)
 unfold ap
 rw [Ie oX]
 have h1:=h.1
 omega
theorem Pm.lt {n:Nat} {p:List Int} (h:Pm n p) {i:Nat} (hi:i<n):ap p i<n:=(h.Ue hi).2
theorem Pm.ext {n:Nat} {p q:List Int} (h:Pm n p) (k:Pm n q) (e: ∀i,i<n->ap p i=ap q i):p=q:=by
 refine List.ext_getElem (by rw [h.1,k.1]) λi h1 h2=>?_
 have hi:i<n:=by rw [<-h.1];exact h1
 have a:=(h.Ue hi).1
 have b:=(k.Ue hi).1
 rw [Ie h1] at a
 rw [Ie h2] at b
 rw [a,b,e i hi]
theorem Pm.inj {n:Nat} {p:List Int} (h:Pm n p) {i j:Nat} (hi:i<n) (hj:j<n) (e:ap p i=ap p j):i=j:=
 h.2.inj i j (by rw [h.1];exact hi) (by rw [h.1];exact hj) e
theorem Pm.KU {n:Nat} {p:List Int} (h:Pm n p) {k:Nat} (hk:k<n): ∃i,i<n/\ap p i=k:=by
 obtain ⟨i,h1,h2⟩:=h.2.KU k (by rw [h.1];exact hk)
 exact ⟨i,by rw [<-h.1];exact h1,h2⟩
theorem Pm.of {n:Nat} {p:List Int} (hl:p.length=n) (h1:1<=n) (h2:n<=20) (f:Nat->Nat) (hf: ∀i,i<n->p[i]?=some (f i:Int)/\f i<n) (hi: ∀i j,i<n->j<n->f i=f j->i=j):Pm n p:=by
 refine ⟨hl,by omega,by omega,λy hy=>?_,?_⟩
 ·obtain ⟨i,hi,rfl⟩:=List.mem_iff_getElem.1 hy
  obtain ⟨h3,h4⟩:=hf i (by omega)
  rw [List.getElem?_eq_getElem hi] at h3
  rw [Option.some.inj h3]
  omega
 ·refine List.pairwise_iff_getElem.2 λi j h3 h4 h5 h6=>?_
  have a:=(hf i (by omega)).1
  have b:=(hf j (by omega)).1
  rw [List.getElem?_eq_getElem h3] at a
  rw [List.getElem?_eq_getElem h4] at b
  rw [Option.some.inj a,Option.some.inj b] at h6
  have:=hi i j (by omega) (by omega) (by omega)
  omega
theorem vz {n:Nat} {p q:List Int} (hp:Pm n p) (hq:Pm n q) {i:Nat} (hi:i<n):(Aa p q)[i]?=some (ap q (ap p i):Int):=by
 have h1:i<p.length:=by rw [hp.1];exact hi
 unfold Aa
 rw [List.getElem?_map,List.getElem?_eq_getElem h1]
 have a:=(hp.Ue hi).1
 rw [Ie h1] at a
 simp only [Option.map_some,a]
 rw [(hq.Ue (hp.Ue hi).2).1]
theorem Pm.comp {n:Nat} {p q:List Int} (hp:Pm n p) (hq:Pm n q):Pm n (Aa p q):=
 Pm.of (by rw [Nw,hp.1]) hp.n1 hp.n2 (λi=>ap q (ap p i)) (λi hi=>⟨vz hp hq hi,hq.lt (hp.lt hi)⟩) λi j hi hj e=>hp.inj hi hj (hq.inj (hp.lt hi) (hp.lt hj) e)
theorem IG {p:List Int} {i k:Nat} (h:p[i]?=some (k:Int)):ap p i=k:=by
 unfold ap Ji
 rw [Int.toNat_natCast,List.getD_eq_getElem?_getD,h]
 simp
theorem Fy {n:Nat} {p q:List Int} (hp:Pm n p) (hq:Pm n q) {i:Nat} (hi:i<n):ap (Aa p q) i=ap q (ap p i):=IG (vz hp hq hi)
theorem oN {n i:Nat} (hi:i<n):(upto n)[i]?=some (i:Int):=by simp [upto,hi]
theorem eg {n i:Nat} (hi:i<n):ap (upto n) i=i:=IG (oN hi)
theorem Pm.id {n:Nat} (h1:1<=n) (h2:n<=20):Pm n (upto n):=Pm.of (by simp [upto]) h1 h2 (λi=>i) (λi hi=>⟨oN hi,hi⟩) λ_ _ _ _ e=>e
theorem CN {n:Nat} {p:List Int} (hp:Pm n p) {i:Nat} (hi:i<n):(Ao p)[ap p i]?=some (i:Int):=JZ hp.2 (by rw [hp.1];exact hi)
theorem dA {n:Nat} {p:List Int} (hp:Pm n p) {i:Nat} (hi:i<n):ap (Ao p) (ap p i)=i:=IG (CN hp hi)
theorem s9 {n:Nat} {p:List Int} (hp:Pm n p) {k:Nat} (hk:k<n):ap p (ap (Ao p) k)=k:=by
 obtain ⟨i,hi,rfl⟩:=hp.KU hk
 rw [dA hp hi]
theorem Pm.inv {n:Nat} {p:List Int} (hp:Pm n p):Pm n (Ao p):=by
 refine Pm.of (by rw [lZ,hp.1]) hp.n1 hp.n2 (λk=>ap (Ao p) k) (λk hk=>?_) λi j hi hj e=>?_
 ·obtain ⟨i,hi,rfl⟩:=hp.KU hk
  rw [dA hp hi]
  exact ⟨CN hp hi,hi⟩
 ·rw [<-s9 hp hi,<-s9 hp hj,e]
theorem Ed {n:Nat} {p q r:List Int} (hp:Pm n p) (hq:Pm n q) (hr:Pm n r):Aa (Aa p q) r=Aa p (Aa q r):=
 ((hp.comp hq).comp hr).ext (hp.comp (hq.comp hr)) λi hi=>by rw [Fy (hp.comp hq) hr hi,Fy hp hq hi,Fy hp (hq.comp hr) hi,Fy hq hr (hp.lt hi)]
theorem comp_id {n:Nat} {p:List Int} (hp:Pm n p):Aa p (upto n)=p:=
 (hp.comp (Pm.id hp.n1 hp.n2)).ext hp λi hi=>by rw [Fy hp (Pm.id hp.n1 hp.n2) hi,eg (hp.lt hi)]
theorem id_comp {n:Nat} {p:List Int} (hp:Pm n p):Aa (upto n) p=p:=
 ((Pm.id hp.n1 hp.n2).comp hp).ext hp λi hi=>by rw [Fy (Pm.id hp.n1 hp.n2) hp hi,eg hi]
theorem c5 {n:Nat} {p:List Int} (hp:Pm n p):Aa p (Ao p)=upto n:=
 (hp.comp hp.inv).ext (Pm.id hp.n1 hp.n2) λi hi=>by rw [Fy hp hp.inv hi,dA hp hi,eg hi]
theorem Vg {n:Nat} {p:List Int} (hp:Pm n p):Aa (Ao p) p=upto n:=
 (hp.inv.comp hp).ext (Pm.id hp.n1 hp.n2) λi hi=>by rw [Fy hp.inv hp hi,s9 hp hi,eg hi]
theorem ni {n:Nat} {p q:List Int} (hp:Pm n p) (hq:Pm n q) (h:Aa p q=upto n):Ao p=q:=by
 rw [<-comp_id hp.inv,<-h,<-Ed hp.inv hp hq,Vg hp,id_comp hq]
theorem inv_mul {n:Nat} {p q:List Int} (hp:Pm n p) (hq:Pm n q):Ao (Aa p q)=Aa (Ao q) (Ao p):=
 ni (hp.comp hq) (hq.inv.comp hp.inv) (by
  rw [Ed hp hq (hq.inv.comp hp.inv),<-Ed hq hq.inv hp.inv,c5 hq,id_comp hp.inv,c5 hp])
theorem inv_inv {n:Nat} {p:List Int} (hp:Pm n p):Ao (Ao p)=p:=ni hp.inv hp (Vg hp)
theorem KA {n:Nat} (h1:1<=n) (h2:n<=20):Ao (upto n)=upto n:=ni (Pm.id h1 h2) (Pm.id h1 h2) (comp_id (Pm.id h1 h2))
inductive Ya (n:Nat) (S:List Int->Prop):List Int->Prop where
 |id:Ya n S (upto n)
 |mul {p g:List Int} :Ya n S p->S g->Ya n S (Aa p g)
 |inv {p g:List Int} :Ya n S p->S g->Ya n S (Aa p (Ao g))
def BI (n:Nat) (S:List Int->Prop):Prop:=(1<=n/\n<=20)/\ ∀g,S g->Pm n g
theorem Ya.pm {n:Nat} {S:List Int->Prop} (hS:BI n S) {p:List Int} (h:Ya n S p):Pm n p:=by
 induction h with
 |id=>exact Pm.id hS.1.1 hS.1.2
 |mul _ hg ih=>exact ih.comp (hS.2 _ hg)
 |inv _ hg ih=>exact ih.comp (hS.2 _ hg).inv
theorem Ya.comp {n:Nat} {S:List Int->Prop} (hS:BI n S) {p q:List Int} (hp:Ya n S p) (hq:Ya n S q):Ya n S (Aa p q):=by
 induction hq with
 |id=>rw [comp_id (hp.pm hS)];exact hp
 |mul hq hg ih=>rw [<-Ed (hp.pm hS) (hq.pm hS) (hS.2 _ hg)];exact .mul ih hg
 |inv hq hg ih=>rw [<-Ed (hp.pm hS) (hq.pm hS) (hS.2 _ hg).inv];exact .inv ih hg
theorem Ya.one {n:Nat} {S:List Int->Prop} (hS:BI n S) {g:List Int} (hg:S g):Ya n S g:=by
 have:=Ya.mul (n:=n) (S:=S) .id hg
 rwa [id_comp (hS.2 g hg)] at this
theorem Ya.VP {n:Nat} {S:List Int->Prop} (hS:BI n S) {g:List Int} (hg:S g):Ya n S (Ao g):=by
 have:=Ya.inv (n:=n) (S:=S) .id hg
 rwa [id_comp (hS.2 g hg).inv] at this
theorem Ya.sL {n:Nat} {S:List Int->Prop} (hS:BI n S) {p:List Int} (hp:Ya n S p):Ya n S (Ao p):=by
 induction hp with
 |id=>rw [KA hS.1.1 hS.1.2];exact .id
 |mul hq hg ih=>rw [inv_mul (hq.pm hS) (hS.2 _ hg)];exact (Ya.VP hS hg).comp hS ih
 |inv hq hg ih=>rw [inv_mul (hq.pm hS) (hS.2 _ hg).inv,inv_inv (hS.2 _ hg)];exact (Ya.one hS hg).comp hS ih
theorem Ya.trans {n:Nat} {S S':List Int->Prop} (YU:BI n S') (h: ∀g,S g->Ya n S' g) {p:List Int} (hp:Ya n S p):Ya n S' p:=by
 induction hp with
 |id=>exact .id
 |mul _ hg ih=>exact ih.comp YU (h _ hg)
 |inv _ hg ih=>exact ih.comp YU ((h _ hg).sL YU)
abbrev PO:=Option (List Int)
abbrev Row:=List PO
abbrev Cy:=List Row
def Hy (row:Row):List Int:=(upto row.length).filter λy=>(row.getD y.toNat none).isSome
def Ix (T:Cy):Nat->Nat->List Int->Bool
 |0,_,_=>true
 |k+1,i,p=>match (T.getD i []).getD (Ji p (i:Int)).toNat none with
  |none=>false
  |some t=>Ix T k (i+1) (Aa p (Ao t))
def Ll (row:Row):Nat:=row.countP (·.isNone)
def Tl (x:Int) (s:Row×List Int) (o:PO):Row×List Int:=
 match s.1.getD (Ji (o.getD []) x).toNat none with
 |some _=>s
 |none=>(s.1.set (Ji (o.getD []) x).toNat (some (Aa ((s.1.getD x.toNat none).getD []) (o.getD []))),s.2++ [Ji (o.getD []) x])
def Td (x:Int) (gs:List PO) (s:Row×List Int):Row×List Int:=gs.foldl (Tl x) s
def Sv (gs:List PO):Nat->List Int->Row->Row
 |0,_,row=>row
 |_+1,[],row=>row
 |f+1,x::q,row=>Sv gs f (Td x gs (row,q)).2 (Td x gs (row,q)).1
def Ro (gs:List PO) (row:Row):Row:=Sv gs 100 (Hy row) row
def My (row:Row) (y:Int) (g:PO):List Int:=
 Aa (Aa ((row.getD y.toNat none).getD []) (g.getD [])) (Ao ((row.getD (Ji (g.getD []) y).toNat none).getD []))
def bo (row:Row) (gs:List PO):List (List Int):=(Hy row).flatMap λy=>gs.map λg=>My row y g
def Ds:Nat->Nat->List Int->Cy×Cy->Cy×Cy
 |0,_,_,s=>s
 |k+1,l,p,s=>
  if Ix s.2 (k+1) l p=true then s else
   (bo (Ro (s.1.getD l []++ [some p]) (s.2.getD l [])) (s.1.getD l []++ [some p])).foldl (λs q=>Ds k (l+1) q s)
    (s.1.set l (s.1.getD l []++ [some p]),s.2.set l (Ro (s.1.getD l []++ [some p]) (s.2.getD l [])))
def Fx (l:Nat) (p:List Int):Prop:= ∀i,i<l->ap p i=i
def Gn (n:Nat) (gs:List PO):List Int->Prop:=Ya n λg=>some g∈gs
structure NJ (n l:Nat) (gs:List PO) (row:Row) (H:List Int->Prop):Prop where
 pg: ∀o∈gs,∃g,o=some g/\Pm n g/\Fx l g
 rl:row.length=n
 r0:row.getD l none=some (upto n)
 rt: ∀y t,row.getD y none=some t->Pm n t/\Fx l t/\ap t l=y/\Gn n gs t
 cl: ∀y t g,row.getD y none=some t->some g∈gs->row.getD (ap g y) none≠none
 sg: ∀y t g t',row.getD y none=some t->some g∈gs->row.getD (ap g y) none=some t'->H (Aa (Aa t g) (Ao t'))
def fe (n:Nat):Nat->Nat->Cy×Cy->Prop
 |0,l,s=>s.1.getD l []= []
 |k+1,l,s=>fe n k (l+1) s/\NJ n l (s.1.getD l []) (s.2.getD l []) (λq=>Ix s.2 k (l+1) q=true)/\ ∀g,some g∈s.1.getD (l+1) []->Gn n (s.1.getD l []) g
theorem PZ {l1 l2:List Nat} (hn:l1.Nodup) (hs: ∀x∈l1,x∈l2) (hl:l2.length<=l1.length): ∀x∈l2,x∈l1:=by
 induction l1 generalizing l2 with
 |nil=>
  intro x hx
  have:l2= []:=List.eq_nil_of_length_eq_zero (by simpa using hl)
  rw [this] at hx;cases hx
 |cons a l ih=>
  intro x hx
  obtain ⟨h1,h2⟩:=List.nodup_cons.1 hn
  have ha:=hs a (by simp)
  by_cases e:x=a
  ·subst e;simp
  ·refine List.mem_cons_of_mem _ (ih (l2:=l2.erase a) h2 (λy hy=>?_) ?_ x ((List.mem_erase_of_ne e).2 hx))
   ·have hya:y≠a:= λe'=>h1 (by rw [<-e'];exact hy)
    exact (List.mem_erase_of_ne hya).2 (hs y (by simp [hy]))
   ·rw [List.length_erase_of_mem ha]
    simp only [List.length_cons] at hl
    omega
theorem zu {n:Nat} {g:List Int} (hg:Pm n g) (D:Nat->Bool) (h: ∀y,y<n->D y=true->D (ap g y)=true) {y:Nat} (hy:y<n) (hD:D y=true): ∃x,x<n/\D x=true/\ap g x=y:=by
 have:=PZ (l1:=((List.range n).filter D).map (ap g)) (l2:=(List.range n).filter D) ?_ ?_ (by simp) y (List.mem_filter.2 ⟨List.mem_range.2 hy,hD⟩)
 ·obtain ⟨x,hx,e⟩:=List.mem_map.1 this
  obtain ⟨h1,h2⟩:=List.mem_filter.1 hx
  exact ⟨x,List.mem_range.1 h1,h2,e⟩
 ·refine List.pairwise_map.2 (List.Pairwise.imp_of_mem ?_ (List.nodup_range.filter D))
  intro a b ha hb Fc e
  exact Fc (hg.inj (List.mem_range.1 (List.mem_filter.1 ha).1) (List.mem_range.1 (List.mem_filter.1 hb).1) e)
 ·intro x hx
  obtain ⟨z,hz,rfl⟩:=List.mem_map.1 hx
  obtain ⟨h1,h2⟩:=List.mem_filter.1 hz
  exact List.mem_filter.2 ⟨List.mem_range.2 (hg.lt (List.mem_range.1 h1)),h z (List.mem_range.1 h1) h2⟩
theorem lT {row:Row} {y:Nat} {t:List Int} (h:row.getD y none=some t):y<row.length:=by
 rw [List.getD_eq_getElem?_getD] at h
 refine Classical.byContradiction λhn=>?_
 rw [List.getElem?_eq_none (by omega)] at h
 cases h
theorem NJ.pms {n l:Nat} {gs:List PO} {row:Row} {H:List Int->Prop} (h:NJ n l gs row H):BI n λg=>some g∈gs:=by
 refine ⟨?_,λg hg=>?_⟩
 ·have:=(h.rt l _ h.r0).1
  exact ⟨this.n1,this.n2⟩
 ·obtain ⟨g',e,h1,_⟩:=h.pg _ hg
  cases e;exact h1
theorem Fx.inv {n l:Nat} {p:List Int} (hp:Pm n p) (h:Fx l p) (hl:l<=n):Fx l (Ao p):= λi hi=>by
 have:=dA hp (i:=i) (by omega)
 rwa [h i hi] at this
theorem Fx.comp {n l:Nat} {p q:List Int} (hp:Pm n p) (hq:Pm n q) (h1:Fx l p) (h2:Fx l q) (hl:l<=n):Fx l (Aa p q):= λi hi=>by
 rw [Fy hp hq (by omega),h1 i hi,h2 i hi]
theorem Fx.all {n:Nat} {p:List Int} (hp:Pm n p) (h:Fx n p):p=upto n:=hp.ext (Pm.id hp.n1 hp.n2) λi hi=>by rw [h i hi,eg hi]
theorem Fx.div {n l:Nat} {p t:List Int} (hp:Pm n p) (ht:Pm n t) (h1:Fx l p) (h2:Fx l t) (hl:l<n) (e:ap t l=ap p l):Fx (l+1) (Aa p (Ao t)):= λi hi=>by
 rw [Fy hp ht.inv (by omega)]
 by_cases hil:i<l
 ·rw [h1 i hil];exact h2.inv ht (by omega) i hil
 ·have:i=l:=by omega
  subst this
  rw [<-e,dA ht hl]
theorem gP {n:Nat} (h1:1<=n) (h2:n<=20): ∀(k l:Nat) (s:Cy×Cy),l+k=n->fe n k l s-> ∀p,Pm n p->Fx l p->(Ix s.2 k l p=true↔Gn n (s.1.getD l []) p)
 |0,l,s,hk,hc,p,hp,hf=>by
  have hl:l=n:=by omega
  subst hl
  rw [hf.all hp]
  exact ⟨λ_=> .id,λ_=>rfl⟩
 |k+1,l,s,hk,hc,p,hp,hf=>by
  obtain ⟨c1,c2,c3⟩:=hc
  have hS:=c2.pms
  have ih:=gP h1 h2 k (l+1) s (by omega) c1
  have hS1:BI n λg=>some g∈s.1.getD (l+1) []:=⟨⟨h1,h2⟩,λg hg=>(c3 g hg).pm hS⟩
  have bh:l<n:=by omega
  constructor
  ·intro h
   simp only [Ix] at h
   rw [show (Ji p (l:Int)).toNat=ap p l from rfl] at h
   split at h
   ·cases h
   ·rename_i t ht
    obtain ⟨t1,t2,t3,t4⟩:=c2.rt _ _ ht
    have RP:=Fx.div hp t1 hf t2 bh t3
    have hg:=((ih _ (hp.comp t1.inv) RP).1 h).trans hS c3
    have:=Ya.comp hS hg t4
    rwa [Ed hp t1.inv t1,Vg t1,comp_id hp] at this
  ·intro h
   have key: ∀q,Gn n (s.1.getD l []) q-> ∃t,(s.2.getD l []).getD (ap q l) none=some t/\Gn n (s.1.getD (l+1) []) (Aa q (Ao t)):=by
    intro q hq
    induction hq with
    |id=>
     refine ⟨upto n,by rw [eg bh];exact c2.r0,?_⟩
     rw [KA h1 h2,comp_id (Pm.id h1 h2)]
     exact .id
    | @mul q g hq hg ihq=>
     obtain ⟨t,e1,e2⟩:=ihq
     have SE:=Ya.pm hS hq
     have Qc:=hS.2 _ hg
     obtain ⟨t1,t2,t3,t4⟩:=c2.rt _ _ e1
     cases e3:(s.2.getD l []).getD (ap g (ap q l)) none with
     |none=>exact absurd e3 (c2.cl _ _ _ e1 hg)
     |some t'=>
      obtain ⟨u1,u2,u3,u4⟩:=c2.rt _ _ e3
      have hsg:=c2.sg _ _ _ _ e1 hg e3
      have hfg:Fx (l+1) (Aa (Aa t g) (Ao t')):=Fx.div (t1.comp Qc) u1 (Fx.comp t1 Qc t2 (by obtain ⟨g',e,_,h⟩:=c2.pg _ hg;cases e;exact h) (by omega)) u2 bh (by rw [u3,Fy t1 Qc bh,t3])
      have TZ:=(ih _ ((t1.comp Qc).comp u1.inv) hfg).1 hsg
      refine ⟨t',by rw [Fy SE Qc bh];exact e3,?_⟩
      have:=Ya.comp hS1 e2 TZ
      rwa [show Aa (Aa q (Ao t)) (Aa (Aa t g) (Ao t'))=Aa (Aa q g) (Ao t') by
       rw [Ed SE t1.inv ((t1.comp Qc).comp u1.inv),Ed t1 Qc u1.inv,<-Ed t1.inv t1 (Qc.comp u1.inv),Vg t1,id_comp (Qc.comp u1.inv),Ed SE Qc u1.inv]] at this
    | @inv q g hq hg ihq=>
     obtain ⟨t,e1,e2⟩:=ihq
     have SE:=Ya.pm hS hq
     have Qc:=hS.2 _ hg
     obtain ⟨t1,t2,t3,t4⟩:=c2.rt _ _ e1
     have hy:ap q l<n:=SE.lt bh
     obtain ⟨x,hx,hD,he⟩:=zu Qc (λy=>((s.2.getD l []).getD y none).isSome) (λy hy hd=>by
      obtain ⟨t0,ht0⟩:=Option.isSome_iff_exists.1 hd
      exact Option.ne_none_iff_isSome.1 (c2.cl _ _ _ ht0 hg)) hy (by rw [e1];rfl)
     obtain ⟨t',e3⟩:=Option.isSome_iff_exists.1 hD
     obtain ⟨u1,u2,u3,u4⟩:=c2.rt _ _ e3
     have hsg:=c2.sg _ _ _ _ e3 hg (by rw [he];exact e1)
     have hfg:Fx (l+1) (Aa (Aa t' g) (Ao t)):=Fx.div (u1.comp Qc) t1 (Fx.comp u1 Qc u2 (by obtain ⟨g',e,_,h⟩:=c2.pg _ hg;cases e;exact h) (by omega)) t2 bh (by rw [t3,Fy u1 Qc bh,u3,he])
     have TZ:=Ya.sL hS1 ((ih _ ((u1.comp Qc).comp t1.inv) hfg).1 hsg)
     have hax:ap (Ao g) (ap q l)=x:=by rw [<-he,dA Qc hx]
     refine ⟨t',by rw [Fy SE Qc.inv bh,hax];exact e3,?_⟩
     have:=Ya.comp hS1 e2 TZ
     rwa [show Aa (Aa q (Ao t)) (Ao (Aa (Aa t' g) (Ao t)))=Aa (Aa q (Ao g)) (Ao t') by
      rw [inv_mul (u1.comp Qc) t1.inv,inv_inv t1,inv_mul u1 Qc,Ed SE t1.inv (t1.comp (Qc.inv.comp u1.inv)),<-Ed t1.inv t1 (Qc.inv.comp u1.inv),Vg t1,id_comp (Qc.inv.comp u1.inv),Ed SE Qc.inv u1.inv]] at this
   obtain ⟨t,e1,e2⟩:=key p h
   obtain ⟨t1,t2,t3,t4⟩:=c2.rt _ _ e1
   simp only [Ix]
   rw [show (Ji p (l:Int)).toNat=ap p l from rfl,e1]
   exact (ih _ (hp.comp t1.inv) (Fx.div hp t1 hf t2 bh t3)).2 e2
end Go.Proofs.YtjbdmibbbpdnnaaGreat

namespace Go.Proofs.YtjbdmibbbpdnnaaGreat
open Go.RowKit
theorem Qo {α:Type} (xs:List α) (i j:Nat) (x d:α):(xs.set i x).getD j d=if i=j/\i<xs.length then x else xs.getD j d:=by
 rw [List.getD_eq_getElem?_getD,List.getElem?_set,List.getD_eq_getElem?_getD]
 by_cases e:i=j
 ·subst e
  by_cases h:i<xs.length
  ·rw [if_pos rfl,if_pos h,if_pos ⟨rfl,h⟩];rfl
  ·rw [if_pos rfl,if_neg h,if_neg (λhh=>h hh.2),List.getElem?_eq_none (by omega)]
 ·rw [if_neg e,if_neg (λhh=>e hh.1)]
theorem Ya.mono {n:Nat} {S S':List Int->Prop} (h: ∀g,S g->S' g) {p:List Int} (hp:Ya n S p):Ya n S' p:=by
 induction hp with
 |id=>exact .id
 |mul _ hg ih=>exact .mul ih (h _ hg)
 |inv _ hg ih=>exact .inv ih (h _ hg)
structure Rr (n l:Nat) (gs:List PO) (row:Row):Prop where
 rl:row.length=n
 r0:row.getD l none=some (upto n)
 rt: ∀y t,row.getD y none=some t->Pm n t/\Fx l t/\ap t l=y/\Gn n gs t
def PG (n l:Nat) (gs:List PO):Prop:= ∀o∈gs,∃g,o=some g/\Pm n g/\Fx l g
structure Ext (n l:Nat) (gs:List PO) (row:Row) (q:List Int) (s':Row×List Int):Prop where
 ok:Rr n l gs s'.1
 mono: ∀y t,row.getD y none=some t->s'.1.getD y none=some t
 XY:s'.2.length+Ll s'.1=q.length+Ll row
 p6: ∀y∈q,y∈s'.2
 new: ∀y∈s'.2,y∈q\/ ∃yn:Nat,y=yn/\s'.1.getD yn none≠none
 src: ∀y:Nat,s'.1.getD y none≠none->row.getD y none≠none\/(y:Int)∈s'.2
theorem Ext.refl {n l:Nat} {gs:List PO} {row:Row} {q:List Int} (h:Rr n l gs row):Ext n l gs row q (row,q):=⟨h,λ_ _ h=>h,rfl,λ_ h=>h,λ_ h=> .inl h,λ_ h=> .inl h⟩
theorem ar {a b:Row} (h: ∀y t,a.getD y none=some t->b.getD y none=some t) {y:Nat} (hy:a.getD y none≠none):b.getD y none≠none:=by
 cases e:a.getD y none with
 |none=>exact absurd e hy
 |some t=>rw [h y t e];simp
theorem Ext.trans {n l:Nat} {gs:List PO} {row:Row} {q:List Int} {s1 s2:Row×List Int} (h:Ext n l gs row q s1) (k:Ext n l gs s1.1 s1.2 s2):Ext n l gs row q s2:=by
 refine ⟨k.ok,λy t e=>k.mono y t (h.mono y t e),k.XY.trans h.XY,λy hy=>k.p6 y (h.p6 y hy),λy hy=>?_,λy hy=>?_⟩
 ·rcases k.new y hy with h1|h1
  ·rcases h.new y h1 with h2|⟨yn,h2,h3⟩
   ·exact .inl h2
   ·exact .inr ⟨yn,h2,ar k.mono h3⟩
  ·exact .inr h1
 ·rcases k.src y hy with h1|h1
  ·exact (h.src y h1).imp id λh2=>k.p6 _ h2
  ·exact .inr h1
theorem ES {row:Row} {i:Nat} {t:List Int} (h:row.getD i none=none) (hi:i<row.length):Ll (row.set i (some t))+1=Ll row:=by
 unfold Ll
 have e:row[i]=none:=by
  rw [List.getD_eq_getElem?_getD,List.getElem?_eq_getElem hi] at h
  exact h
 have h1:=List.countP_set (p:= λo:PO=>o.isNone) (l:=row) (i:=i) (a:=some t) hi
 have yU:0<row.countP (·.isNone):=List.countP_pos_iff.2 ⟨row[i],List.getElem_mem hi,by rw [e];rfl⟩
 rw [h1,e]
 simp
 omega
theorem PY {n l:Nat} {gs:List PO} (bh:l<n) (hg:PG n l gs) {row:Row} {q:List Int} (h:Rr n l gs row) {x:Nat} {t:List Int} (hx:row.getD x none=some t) {g:List Int} (ho:some g∈gs):
  Ext n l gs row q (Tl (x:Int) (row,q) (some g))/\(Tl (x:Int) (row,q) (some g)).1.getD (ap g x) none≠none:=by
 obtain ⟨g',e,Qc,TY⟩:=hg _ ho
 cases e
 obtain ⟨t1,t2,t3,t4⟩:=h.rt _ _ hx
 have NF:x<n:=by rw [<-h.rl];exact lT hx
 obtain ⟨a1,a2⟩:=Qc.Ue NF
 unfold Tl
 simp only [Option.getD_some,a1,Int.toNat_natCast]
 cases e:row.getD (ap g x) none with
 |some u=>exact ⟨Ext.refl h,by simp only;rw [e];simp⟩
 |none=>
  simp only [hx,Option.getD_some]
  have hl:ap g x<row.length:=by rw [h.rl];exact a2
  have hS:BI n λg=>some g∈gs:=⟨⟨t1.n1,t1.n2⟩,λg Zo=>by obtain ⟨g',e,h1,_⟩:=hg _ Zo;cases e;exact h1⟩
  have Ad: ∀y,(row.set (ap g x) (some (Aa t g))).getD y none=if ap g x=y/\ap g x<row.length then some (Aa t g) else row.getD y none:= λy=>Qo _ _ _ _ _
  have Fc: ∀y u,row.getD y none=some u->ap g x≠y:= λy u hu e'=>by rw [<-e',e] at hu;cases hu
  refine ⟨⟨⟨by simp [h.rl],?_,λy u hu=>?_⟩,λy u hu=>?_,?_,λy hy=>List.mem_append_left _ hy,λy hy=>?_,λy hy=>?_⟩,?_⟩
  ·rw [Ad,if_neg (λhh=>Fc l _ h.r0 hh.1)];exact h.r0
  ·rw [Ad] at hu
   split at hu
   ·rename_i hc
    cases hu
    exact ⟨t1.comp Qc,Fx.comp t1 Qc t2 TY (by omega),by rw [Fy t1 Qc bh,t3];exact hc.1, .mul t4 ho⟩
   ·exact h.rt y u hu
  ·show (row.set (ap g x) (some (Aa t g))).getD y none=some u
   rw [Ad,if_neg (λhh=>Fc y u hu hh.1)];exact hu
  ·have:=ES (t:=Aa t g) e hl
   simp only [List.length_append,List.length_cons,List.length_nil]
   omega
  ·rcases List.mem_append.1 hy with hy|hy
   ·exact .inl hy
   ·simp only [List.mem_singleton] at hy
    exact .inr ⟨ap g x,hy,by show (row.set (ap g x) (some (Aa t g))).getD (ap g x) none≠none;rw [Ad,if_pos ⟨rfl,hl⟩];simp⟩
  ·have hy:(row.set (ap g x) (some (Aa t g))).getD y none≠none:=hy
   rw [Ad] at hy
   split at hy
   ·rename_i hc
    exact .inr (by show (y:Int)∈q++ [(ap g x:Int)];rw [<-hc.1];simp)
   ·exact .inl hy
  ·show (row.set (ap g x) (some (Aa t g))).getD (ap g x) none≠none
   rw [Ad,if_pos ⟨rfl,hl⟩];simp
theorem LJ {n l:Nat} {gs:List PO} (bh:l<n) (hg:PG n l gs): ∀(RC:List PO) {row:Row} {q:List Int},(∀o∈RC,o∈gs)->Rr n l gs row-> ∀ {x:Nat} {t:List Int},row.getD x none=some t->
  Ext n l gs row q (Td (x:Int) RC (row,q))/\ ∀g,some g∈RC->(Td (x:Int) RC (row,q)).1.getD (ap g x) none≠none
 | [],row,q,_,h,x,t,hx=>⟨Ext.refl h,λg hg=>by cases hg⟩
 |o::RC,row,q,hs,h,x,t,hx=>by
  obtain ⟨g,rfl,_,_⟩:=hg o (hs o (by simp))
  obtain ⟨e1,e2⟩:=PY (q:=q) bh hg h hx (hs (some g) (by simp))
  obtain ⟨f1,f2⟩:=LJ bh hg RC (q:=(Tl (x:Int) (row,q) (some g)).2) (λo ho=>hs o (by simp [ho])) e1.ok (e1.mono x t hx)
  have hb:Td (x:Int) (some g::RC) (row,q)=Td (x:Int) RC ((Tl (x:Int) (row,q) (some g)).1,(Tl (x:Int) (row,q) (some g)).2):=rfl
  rw [hb]
  refine ⟨e1.trans f1,λg' Zo=>?_⟩
  rcases List.mem_cons.1 Zo with e|Zo
  ·cases e;exact ar f1.mono e2
  ·exact f2 g' Zo
def DE (gs:List PO) (q:List Int) (row:Row):Prop:=
 (∀y∈q,∃yn:Nat,y=yn/\row.getD yn none≠none)/\ ∀y:Nat,row.getD y none≠none->(y:Int)∈q\/ ∀g,some g∈gs->row.getD (ap g y) none≠none
theorem zI {n l:Nat} {gs:List PO} (bh:l<n) (hg:PG n l gs) {x:Int} {q:List Int} {row:Row} (h:Rr n l gs row) (hq:DE gs (x::q) row):
  Ext n l gs row q (Td x gs (row,q))/\DE gs (Td x gs (row,q)).2 (Td x gs (row,q)).1/\ ∃(xn:Nat) (t:List Int),x=xn/\row.getD xn none=some t:=by
 obtain ⟨xn,rfl,hx⟩:=hq.1 x (by simp)
 cases e:row.getD xn none with
 |none=>exact absurd e hx
 |some t=>
  obtain ⟨e1,e2⟩:=LJ bh hg gs (q:=q) (λo ho=>ho) h e
  refine ⟨e1,⟨λy hy=>?_,λy hy=>?_⟩,xn,t,rfl,e⟩
  ·rcases e1.new y hy with h1|h1
   ·obtain ⟨yn,h2,h3⟩:=hq.1 y (by simp [h1])
    exact ⟨yn,h2,ar e1.mono h3⟩
   ·exact h1
  ·rcases e1.src y hy with h1|h1
   ·rcases hq.2 y h1 with h2|h2
    ·rcases List.mem_cons.1 h2 with h2|h2
     ·have:y=xn:=by omega
      subst this
      exact .inr λg Zo=>e2 g Zo
     ·exact .inl (e1.p6 _ h2)
    ·exact .inr λg Zo=>ar e1.mono (h2 g Zo)
   ·exact .inl h1
theorem LO {n l:Nat} {gs:List PO} (bh:l<n) (hg:PG n l gs): ∀(f:Nat) (q:List Int) (row:Row),q.length+Ll row<=f->Rr n l gs row->DE gs q row->
  Rr n l gs (Sv gs f q row)/\(∀y t,row.getD y none=some t->(Sv gs f q row).getD y none=some t)/\ ∀y t g,(Sv gs f q row).getD y none=some t->some g∈gs->(Sv gs f q row).getD (ap g y) none≠none
 |0,q,row,hf,h,hq=>by
  have:q= []:=List.eq_nil_of_length_eq_zero (by omega)
  subst this
  exact ⟨h,λ_ _ h=>h,λy t g e Zo=>by
   rcases hq.2 y (by rw [show row.getD y none=some t from e];simp) with h1|h1
   ·cases h1
   ·exact h1 g Zo⟩
 |f+1,[],row,hf,h,hq=>⟨h,λ_ _ h=>h,λy t g e Zo=>by
   rcases hq.2 y (by rw [show row.getD y none=some t from e];simp) with h1|h1
   ·cases h1
   ·exact h1 g Zo⟩
 |f+1,x::q,row,hf,h,hq=>by
  obtain ⟨e1,e2,_⟩:=zI bh hg h hq
  obtain ⟨r1,r2,r3⟩:=LO bh hg f _ _ (by have:=e1.XY;simp only [List.length_cons] at hf;omega) e1.ok e2
  exact ⟨r1,λy t e=>r2 y t (e1.mono y t e),r3⟩
theorem Nd {row:Row} {y:Int} :y∈Hy row↔ ∃yn:Nat,y=yn/\row.getD yn none≠none:=by
 unfold Hy
 rw [List.mem_filter,Ik]
 constructor
 ·rintro ⟨h1,h2⟩
  exact ⟨y.toNat,by omega,Option.ne_none_iff_isSome.2 h2⟩
 ·rintro ⟨yn,rfl,h⟩
  obtain ⟨t,ht⟩:=Option.ne_none_iff_exists'.1 h
  exact ⟨by have:=lT ht;omega,by simpa using Option.ne_none_iff_isSome.1 h⟩
theorem tg (row:Row):(Hy row).length<=row.length:=by
 unfold Hy
 refine Nat.le_trans (List.length_filter_le _ _) (by simp [upto])
theorem wN (row:Row):Ll row<=row.length:=List.countP_le_length
theorem wR {n l:Nat} {gs:List PO} (bh:l<n) (h2:n<=20) (hg:PG n l gs) {row:Row} (h:Rr n l gs row):
  Rr n l gs (Ro gs row)/\(∀y t,row.getD y none=some t->(Ro gs row).getD y none=some t)/\ ∀y t g,(Ro gs row).getD y none=some t->some g∈gs->(Ro gs row).getD (ap g y) none≠none:=
 LO bh hg 100 _ _ (by have:=tg row;have:=wN row;have:=h.rl;omega) h ⟨λy hy=>Nd.1 hy,λy hy=> .inl (Nd.2 ⟨y,rfl,hy⟩)⟩
theorem vf {n l:Nat} {gs:List PO} (bh:l<n) (hg:PG n l gs): ∀(f:Nat) (q:List Int) (row:Row),q.length+Ll row<=f->Rr n l gs row->DE gs q row->Sv gs f q row=Sv gs (q.length+Ll row) q row
 |0,q,row,hf,_,_=>by
  have:q.length+Ll row=0:=by omega
  rw [this]
 |f+1,[],row,hf,_,_=>by
  cases h:([]:List Int).length+Ll row with
  |zero=>rfl
  |succ m=>rfl
 |f+1,x::q,row,hf,h,hq=>by
  obtain ⟨e1,e2,_⟩:=zI bh hg h hq
  have OO:=e1.XY
  have:(x::q).length+Ll row=(q.length+Ll row)+1:=by simp only [List.length_cons];omega
  rw [this]
  simp only [Sv]
  rw [vf bh hg f _ _ (by simp only [List.length_cons] at hf;omega) e1.ok e2,OO]
def vr (row:Row):Nat:=row.countP (·.isSome)
theorem qA: ∀(a b:Row),a.length=b.length->(∀y t,a.getD y none=some t->b.getD y none=some t)->vr a<=vr b/\(vr a=vr b->a=b)
 | [],[],_,_=>⟨Nat.le_refl _,λ_=>rfl⟩
 | [],_::_,h,_=>by simp at h
 |_::_,[],h,_=>by simp at h
 |x::a,y::b,h,hm=>by
  obtain ⟨h1,h2⟩:=qA a b (by simpa using h) λi t e=>by simpa using hm (i+1) t (by simpa using e)
  unfold vr at h1 h2⊢
  cases x with
  |none=>
   cases y with
   |none=>simp only [List.countP_cons];exact ⟨by simpa using h1,λe=>by rw [h2 (by simpa using e)]⟩
   |some u=>
    simp only [List.countP_cons,Option.isSome_none,Option.isSome_some]
    simp only [if_true,Bool.false_eq_true,if_false]
    exact ⟨by omega,λe=>by omega⟩
  |some t=>
   have:=hm 0 t (by simp)
   simp only [List.getD_cons_zero] at this
   subst this
   simp only [List.countP_cons]
   exact ⟨by simpa using h1,λe=>by rw [h2 (by simpa using e)]⟩
def fS (T:Cy):Nat->Nat->Nat
 |0,_=>0
 |k+1,l=>vr (T.getD l [])+fS T k (l+1)
def YF:Nat->Nat->Cy×Cy->Prop
 |0,_,_=>True
 |k+1,l,s=>YF k (l+1) s/\(s.1.getD l []).length<=fS s.2 (k+1) l
structure Xf (l0:Nat) (s s':Cy×Cy):Prop where
 len1:s'.1.length=s.1.length
 nq:s'.2.length=s.2.length
 low: ∀i,i<l0->s'.1.getD i []=s.1.getD i []/\s'.2.getD i []=s.2.getD i []
 BW: ∀i o,o∈s.1.getD i []->o∈s'.1.getD i []
 MI: ∀i y t,(s.2.getD i []).getD y none=some t->(s'.2.getD i []).getD y none=some t
 WH: ∀i,(s'.2.getD i []).length=(s.2.getD i []).length
theorem Xf.refl (l0:Nat) (s:Cy×Cy):Xf l0 s s:=⟨rfl,rfl,λ_ _=>⟨rfl,rfl⟩,λ_ _ h=>h,λ_ _ _ h=>h,λ_=>rfl⟩
theorem Xf.trans {l0 l1:Nat} {a b c:Cy×Cy} (h:Xf l0 a b) (k:Xf l1 b c) (hl:l0<=l1):Xf l0 a c:=
 ⟨k.len1.trans h.len1,k.nq.trans h.nq,λi hi=>⟨(k.low i (by omega)).1.trans (h.low i hi).1,(k.low i (by omega)).2.trans (h.low i hi).2⟩,λi o ho=>k.BW i o (h.BW i o ho),λi y t e=>k.MI i y t (h.MI i y t e),λi=>(k.WH i).trans (h.WH i)⟩
theorem Xf.Ez {l0 l1:Nat} {a b:Cy×Cy} (h:Xf l1 a b) (hl:l0<=l1):Xf l0 a b:=(Xf.refl l0 a).trans h hl
theorem cq {T T':Cy} : ∀(k l:Nat) (p:List Int),(∀i,l<=i->i<l+k->T'.getD i []=T.getD i [])->Ix T' k l p=Ix T k l p
 |0,_,_,_=>rfl
 |k+1,l,p,h=>by
  simp only [Ix]
  rw [h l (Nat.le_refl _) (by omega)]
  split
  ·rfl
  ·exact cq k (l+1) _ λi h1 h2=>h i (by omega) (by omega)
theorem fq {n:Nat} {s s':Cy×Cy} : ∀(k l:Nat),(∀i,l<=i->s'.1.getD i []=s.1.getD i []/\s'.2.getD i []=s.2.getD i [])->fe n k l s->fe n k l s'
 |0,l,h,hc=>by simp only [fe] at hc⊢;rw [(h l (Nat.le_refl _)).1];exact hc
 |k+1,l,h,hc=>by
  simp only [fe] at hc⊢
  obtain ⟨c1,c2,c3⟩:=hc
  refine ⟨fq k (l+1) (λi hi=>h i (by omega)) c1,?_,?_⟩
  ·rw [(h l (Nat.le_refl _)).1,(h l (Nat.le_refl _)).2]
   have e:(λq=>Ix s'.2 k (l+1) q=true)= λq=>Ix s.2 k (l+1) q=true:=funext λq=>by rw [cq k (l+1) q λi h1 h2=>(h i (by omega)).2]
   rw [e];exact c2
  ·rw [(h (l+1) (by omega)).1,(h l (Nat.le_refl _)).1];exact c3
theorem rj {T T':Cy} : ∀(k l:Nat),(∀i,l<=i->T'.getD i []=T.getD i [])->fS T' k l=fS T k l
 |0,_,_=>rfl
 |k+1,l,h=>by simp only [fS];rw [h l (Nat.le_refl _),rj k (l+1) λi hi=>h i (by omega)]
theorem mO {s s':Cy×Cy} : ∀(k l:Nat),(∀i,l<=i->s'.1.getD i []=s.1.getD i []/\s'.2.getD i []=s.2.getD i [])->YF k l s->YF k l s'
 |0,_,_,_=>trivial
 |k+1,l,h,hg=>⟨mO k (l+1) (λi hi=>h i (by omega)) hg.1,by
  rw [(h l (Nat.le_refl _)).1,rj (k+1) l λi hi=>(h i hi).2];exact hg.2⟩
theorem xa {T T':Cy} (hl: ∀i,(T'.getD i []).length=(T.getD i []).length) (hm: ∀i y t,(T.getD i []).getD y none=some t->(T'.getD i []).getD y none=some t):
  ∀(k l:Nat),fS T k l<=fS T' k l/\(fS T k l=fS T' k l-> ∀i,l<=i->i<l+k->T'.getD i []=T.getD i [])
 |0,l=>⟨Nat.le_refl _,λ_ i h1 h2=>by omega⟩
 |k+1,l=>by
  obtain ⟨h1,h2⟩:=xa hl hm k (l+1)
  obtain ⟨h3,h4⟩:=qA (T.getD l []) (T'.getD l []) (hl l).symm (hm l)
  simp only [fS]
  refine ⟨by omega,λe i g1 g2=>?_⟩
  by_cases hi:i=l
  ·subst hi;exact (h4 (by omega)).symm
  ·exact h2 (by omega) i (by omega) (by omega)
def V (n k l:Nat) (s:Cy×Cy):Prop:=s.1.length=n/\s.2.length=n/\fe n k l s/\YF k l s
structure YD (n k l:Nat) (s:Cy×Cy) (p:List Int) (s':Cy×Cy):Prop where
 v:V n k l s'
 grow:Xf l s s'
 Aau:Gn n (s'.1.getD l []) p
 gens: ∀o∈s'.1.getD l [],o∈s.1.getD l []\/o=some p
theorem NJ.row {n l:Nat} {gs:List PO} {row:Row} {H:List Int->Prop} (h:NJ n l gs row H):Rr n l gs row:=⟨h.rl,h.r0,h.rt⟩
theorem df {row:Row} {y:Nat} {t g t':List Int} (h1:row.getD y none=some t) (h2:row.getD (ap g y) none=some t'):My row (y:Int) (some g)=Aa (Aa t g) (Ao t'):=by
 unfold My
 rw [Int.toNat_natCast,h1,Option.getD_some,Option.getD_some,show (Ji g (y:Int)).toNat=ap g y from rfl,h2,Option.getD_some]
theorem ju {n l:Nat} {gs:List PO} {row:Row} (hg:PG n l gs) (_h:Rr n l gs row) (hc: ∀y t g,row.getD y none=some t->some g∈gs->row.getD (ap g y) none≠none) {q:List Int} :
  q∈bo row gs↔ ∃(y:Nat) (t g t':List Int),row.getD y none=some t/\some g∈gs/\row.getD (ap g y) none=some t'/\q=Aa (Aa t g) (Ao t'):=by
 unfold bo
 rw [List.mem_flatMap]
 constructor
 ·rintro ⟨y,hy,hq⟩
  obtain ⟨o,ho,rfl⟩:=List.mem_map.1 hq
  obtain ⟨yn,rfl,SJ⟩:=Nd.1 hy
  obtain ⟨t,ht⟩:=Option.ne_none_iff_exists'.1 SJ
  obtain ⟨g,rfl,Qc,_⟩:=hg o ho
  obtain ⟨t',EC⟩:=Option.ne_none_iff_exists'.1 (hc yn t g ht ho)
  exact ⟨yn,t,g,t',ht,ho,EC,df ht EC⟩
 ·rintro ⟨y,t,g,t',h1,h2,h3,rfl⟩
  obtain ⟨g',e,Qc,_⟩:=hg _ h2
  cases e
  exact ⟨(y:Int),Nd.2 ⟨y,rfl,by rw [h1];simp⟩,List.mem_map.2 ⟨some g,h2,df h1 h3⟩⟩
theorem s7 {n:Nat} (h1:1<=n) (h2:n<=20): ∀(k l:Nat) (p:List Int) (s:Cy×Cy),l+k=n->V n k l s->Pm n p->Fx l p->YD n k l s p (Ds k l p s)
 |0,l,p,s,hk,hv,hp,hf=>by
  have hl:l=n:=by omega
  subst hl
  exact ⟨hv,Xf.refl _ _,by rw [hf.all hp];exact .id,λo ho=> .inl ho⟩
 |k+1,l,p,s,hk,hv,hp,hf=>by
  have bh:l<n:=by omega
  obtain ⟨v1,v2,hc,HQ⟩:=hv
  have fE:=hc
  obtain ⟨c1,c2,c3⟩:=hc
  unfold Ds
  by_cases hh:Ix s.2 (k+1) l p=true
  ·rw [if_pos hh]
   exact ⟨⟨v1,v2,fE,HQ⟩,Xf.refl _ _,(gP h1 h2 (k+1) l s hk fE p hp hf).1 hh,λo ho=> .inl ho⟩
  rw [if_neg hh]
  generalize CA:s.1.getD l []++ [some p]=gs
  have Yt:some p∈gs:=by rw [<-CA];simp
  have Qq: ∀o∈s.1.getD l [],o∈gs:= λo ho=>by rw [<-CA];exact List.mem_append_left _ ho
  have hg:PG n l gs:= λo ho=>by
   rw [<-CA] at ho
   rcases List.mem_append.1 ho with ho|ho
   ·exact c2.pg o ho
   ·rw [List.mem_singleton] at ho;exact ⟨p,ho,hp,hf⟩
  have Aa7:Rr n l gs (s.2.getD l []):=⟨c2.rl,c2.r0,λy t e=>⟨(c2.rt y t e).1,(c2.rt y t e).2.1,(c2.rt y t e).2.2.1,(c2.rt y t e).2.2.2.mono λg hg=>Qq _ hg⟩⟩
  obtain ⟨r1,r2,r3⟩:=wR bh h2 hg Aa7
  generalize hR:Ro gs (s.2.getD l [])=R at r1 r2 r3
  have hS:BI n λg=>some g∈gs:=⟨⟨h1,h2⟩,λg Zo=>by obtain ⟨g',e,h,_⟩:=hg _ Zo;cases e;exact h⟩
  have PV: ∀i,((s.1.set l gs).getD i []=if i=l then gs else s.1.getD i [])/\(s.2.set l R).getD i []=if i=l then R else s.2.getD i []:= λi=>by
   rw [Qo,Qo]
   by_cases e:l=i
   ·subst e;rw [if_pos ⟨rfl,by omega⟩,if_pos rfl,if_pos ⟨rfl,by omega⟩,if_pos rfl];exact ⟨rfl,rfl⟩
   ·rw [if_neg (λhh=>e hh.1),if_neg (Ne.symm e),if_neg (λhh=>e hh.1),if_neg (Ne.symm e)];exact ⟨rfl,rfl⟩
  have SI: ∀i,l+1<=i->(s.1.set l gs).getD i []=s.1.getD i []/\(s.2.set l R).getD i []=s.2.getD i []:= λi hi=>by
   rw [(PV i).1,(PV i).2,if_neg (by omega),if_neg (by omega)];exact ⟨rfl,rfl⟩
  have gf:V n k (l+1) (s.1.set l gs,s.2.set l R):=⟨by simpa using v1,by simpa using v2,fq k (l+1) SI c1,mO k (l+1) SI HQ.1⟩
  have UA:Xf l s (s.1.set l gs,s.2.set l R):=by
   refine ⟨by simp,by simp,λi hi=>?_,λi o ho=>?_,λi y t e=>?_,λi=>?_⟩
   ·rw [(PV i).1,(PV i).2,if_neg (by omega),if_neg (by omega)];exact ⟨rfl,rfl⟩
   ·rw [(PV i).1]
    split
    ·rename_i hi;subst hi;exact Qq o ho
    ·exact ho
   ·rw [(PV i).2]
    split
    ·rename_i hi;subst hi;exact r2 y t e
    ·exact e
   ·rw [(PV i).2]
    split
    ·rename_i hi;subst hi;rw [r1.rl,c2.rl]
    ·rfl
  have hq: ∀q∈bo R gs,Pm n q/\Fx (l+1) q/\Gn n gs q:= λq hq=>by
   obtain ⟨y,t,g,t',e1,e2,e3,rfl⟩:=(ju hg r1 r3).1 hq
   obtain ⟨t1,t2,t3,t4⟩:=r1.rt _ _ e1
   obtain ⟨u1,u2,u3,u4⟩:=r1.rt _ _ e3
   obtain ⟨g',e,Qc,TY⟩:=hg _ e2
   cases e
   exact ⟨(t1.comp Qc).comp u1.inv,Fx.div (t1.comp Qc) u1 (Fx.comp t1 Qc t2 TY (by omega)) u2 bh (by rw [u3,Fy t1 Qc bh,t3]),Ya.comp hS (.mul t4 e2) (Ya.sL hS u4)⟩
  have fold: ∀(qs:List (List Int)) (s1:Cy×Cy),(∀q∈qs,Pm n q/\Fx (l+1) q)->V n k (l+1) s1->
    V n k (l+1) (qs.foldl (λs q=>Ds k (l+1) q s) s1)/\Xf (l+1) s1 (qs.foldl (λs q=>Ds k (l+1) q s) s1)/\
     (∀q∈qs,Gn n ((qs.foldl (λs q=>Ds k (l+1) q s) s1).1.getD (l+1) []) q)/\ ∀o∈(qs.foldl (λs q=>Ds k (l+1) q s) s1).1.getD (l+1) [],o∈s1.1.getD (l+1) []\/ ∃q∈qs,o=some q:=by
   intro qs
   induction qs with
   |nil=>exact λs1 _ hv=>⟨hv,Xf.refl _ _,(λq hq=>by cases hq),λo ho=>Or.inl ho⟩
   |cons q qs ih=>
    intro s1 OQ hv
    have ha:=s7 h1 h2 k (l+1) q s1 (by omega) hv (OQ q (by simp)).1 (OQ q (by simp)).2
    obtain ⟨g1,g2,g3,g4⟩:=ih (Ds k (l+1) q s1) (λq' eA=>OQ q' (by simp [eA])) ha.v
    simp only [List.foldl_cons]
    refine ⟨g1,ha.grow.trans g2 (Nat.le_refl _),λq' eA=>?_,λo ho=>?_⟩
    ·rcases List.mem_cons.1 eA with rfl|eA
     ·exact ha.Aau.mono λg hg=>g2.BW _ _ hg
     ·exact g3 q' eA
    ·rcases g4 o ho with h|⟨q',eA,h⟩
     ·rcases ha.gens o h with h|h
      ·exact .inl h
      ·exact .inr ⟨q,by simp,h⟩
     ·exact .inr ⟨q',by simp [eA],h⟩
  obtain ⟨f1,f2,f3,f4⟩:=fold (bo R gs) (s.1.set l gs,s.2.set l R) (λq h=>⟨(hq q h).1,(hq q h).2.1⟩) gf
  generalize (bo R gs).foldl (λs q=>Ds k (l+1) q s) (s.1.set l gs,s.2.set l R)=s' at f1 f2 f3 f4
  obtain ⟨w1,w2,w3,w4⟩:=f1
  have YI:s'.1.getD l []=gs:=by rw [(f2.low l (by omega)).1,(PV l).1,if_pos rfl]
  have el2:s'.2.getD l []=R:=by rw [(f2.low l (by omega)).2,(PV l).2,if_pos rfl]
  have JD:=UA.trans f2 (by omega)
  have Af4:NJ n l gs R (λq=>Ix s'.2 k (l+1) q=true):=⟨hg,r1.rl,r1.r0,r1.rt,r3,λy t g t' e1 e2 e3=>by
   have hm:=(ju hg r1 r3).2 ⟨y,t,g,t',e1,e2,e3,rfl⟩
   exact (gP h1 h2 k (l+1) s' (by omega) w3 _ (hq _ hm).1 (hq _ hm).2.1).2 (f3 _ hm)⟩
  have RM:fe n (k+1) l s':=⟨w3,by rw [YI,el2];exact Af4,λg Zo=>by
   rw [YI]
   rcases f4 _ Zo with h|⟨q,eA,h⟩
   ·rw [(SI (l+1) (Nat.le_refl _)).1] at h
    exact (c3 g h).mono λg hg=>Qq _ hg
   ·cases h;exact (hq _ eA).2.2⟩
  have Ts:Gn n (s'.1.getD l []) p:=by rw [YI];exact Ya.one hS Yt
  refine ⟨⟨w1,w2,RM,w4,?_⟩,JD,Ts,λo ho=>?_⟩
  ·have hold:=HQ.2
   obtain ⟨p1,p2⟩:=xa JD.WH JD.MI (k+1) l
   have Fc:fS s.2 (k+1) l≠fS s'.2 (k+1) l:= λe=>by
    have:=cq (k+1) l p (p2 e)
    rw [(gP h1 h2 (k+1) l s' hk RM p hp hf).2 Ts] at this
    exact hh this.symm
   rw [YI,<-CA,List.length_append,List.length_singleton]
   omega
  ·rw [YI,<-CA] at ho
   rcases List.mem_append.1 ho with ho|ho
   ·exact .inl ho
   ·rw [List.mem_singleton] at ho;exact .inr ho
end Go.Proofs.YtjbdmibbbpdnnaaGreat

namespace Go.Proofs.YtjbdmibbbpdnnaaGreat
open Go.RowKit
theorem LH {n l:Nat} {gs:List PO} {R:Row} (bh:l<n) (hg:PG n l gs) (r1:Rr n l gs R) (r3: ∀y t g,R.getD y none=some t->some g∈gs->R.getD (ap g y) none≠none): ∀q∈bo R gs,Pm n q/\Fx (l+1) q:=by
 intro q hq
 obtain ⟨y,t,g,t',e1,e2,e3,rfl⟩:=(ju hg r1 r3).1 hq
 obtain ⟨t1,t2,t3,t4⟩:=r1.rt _ _ e1
 obtain ⟨u1,u2,u3,u4⟩:=r1.rt _ _ e3
 obtain ⟨g',e,Qc,TY⟩:=hg _ e2
 cases e
 exact ⟨(t1.comp Qc).comp u1.inv,Fx.div (t1.comp Qc) u1 (Fx.comp t1 Qc t2 TY (by omega)) u2 bh (by rw [u3,Fy t1 Qc bh,t3])⟩
theorem V.lower {n k l:Nat} {s:Cy×Cy} (h:V n (k+1) l s) (gs:List PO) (R:Row):V n k (l+1) (s.1.set l gs,s.2.set l R):=by
 obtain ⟨v1,v2,hc,HQ⟩:=h
 have SI: ∀i,l+1<=i->(s.1.set l gs).getD i []=s.1.getD i []/\(s.2.set l R).getD i []=s.2.getD i []:= λi hi=>by
  rw [Qo,Qo,if_neg (by omega),if_neg (by omega)];exact ⟨rfl,rfl⟩
 exact ⟨by simpa using v1,by simpa using v2,fq k (l+1) SI hc.1,mO k (l+1) SI HQ.1⟩
theorem BS {n k l:Nat} (h1:1<=n) (h2:n<=20) (hk:l+k=n): ∀(qs:List (List Int)) (s1:Cy×Cy),(∀q∈qs,Pm n q/\Fx l q)->V n k l s1->
  V n k l (qs.foldl (λs q=>Ds k l q s) s1)/\Xf l s1 (qs.foldl (λs q=>Ds k l q s) s1)
 | [],s1,_,hv=>⟨hv,Xf.refl _ _⟩
 |q::qs,s1,OQ,hv=>by
  have ha:=s7 h1 h2 k l q s1 hk hv (OQ q (by simp)).1 (OQ q (by simp)).2
  obtain ⟨g1,g2⟩:=BS h1 h2 hk qs (Ds k l q s1) (λq' eA=>OQ q' (by simp [eA])) ha.v
  exact ⟨g1,ha.grow.trans g2 (Nat.le_refl _)⟩
theorem LI {n:Nat} {s:Cy×Cy} : ∀(k l:Nat),fe n k l s->fS s.2 k l<=n*k
 |0,_,_=>by simp [fS]
 |k+1,l,hc=>by
  have h1:=LI k (l+1) hc.1
  have h2:vr (s.2.getD l [])<=n:=by
   have:=hc.2.1.rl
   have h3:vr (s.2.getD l [])<=(s.2.getD l []).length:=List.countP_le_length
   omega
  simp only [fS]
  rw [Nat.mul_succ]
  omega
theorem NT {n k l:Nat} {s:Cy×Cy} (h2:n<=20) (hk:l+(k+1)=n) (h:V n (k+1) l s):(s.1.getD l []).length<=400:=by
 have h3:=h.2.2.2.2
 have h4:=LI (k+1) l h.2.2.1
 have h5:n*(k+1)<=20*20:=Nat.mul_le_mul h2 (by omega)
 omega
theorem V.lvl {n k l:Nat} {s:Cy×Cy} (h:V n (k+1) l s):NJ n l (s.1.getD l []) (s.2.getD l []) (λq=>Ix s.2 k (l+1) q=true):=h.2.2.1.2.1
theorem V.pg {n k l:Nat} {s:Cy×Cy} (h:V n (k+1) l s) {p:List Int} (hp:Pm n p) (hf:Fx l p):PG n l (s.1.getD l []++ [some p]):= λo ho=>by
 rcases List.mem_append.1 ho with ho|ho
 ·exact h.lvl.pg o ho
 ·rw [List.mem_singleton] at ho;exact ⟨p,ho,hp,hf⟩
theorem V.Agh {n k l:Nat} {s:Cy×Cy} (h:V n (k+1) l s) (p:List Int):Rr n l (s.1.getD l []++ [some p]) (s.2.getD l []):=
 ⟨h.lvl.rl,h.lvl.r0,λy t e=>⟨(h.lvl.rt y t e).1,(h.lvl.rt y t e).2.1,(h.lvl.rt y t e).2.2.1,(h.lvl.rt y t e).2.2.2.mono λ_ hg=>List.mem_append_left _ hg⟩⟩
theorem pQ {α:Type} (xs:List (List α)) (i:Nat) (h:i<xs.length):xs.set i (xs.getD i [])=xs:=by
 refine List.ext_getElem (by simp) λj h1 h2=>?_
 rw [List.getElem_set]
 split
 ·rename_i e;subst e;rw [List.getD_eq_getElem?_getD,List.getElem?_eq_getElem h];rfl
 ·rfl
theorem eu {α:Type} (xs:List (List α)) (i:Nat) (h:i<xs.length) (r:List α):(xs.set i r).getD i []=r:=by
 rw [Qo,if_pos ⟨rfl,h⟩]
end Go.Proofs.YtjbdmibbbpdnnaaGreat

namespace Go.Proofs.YtjbdmibbbpdnnaaGreat
open Go.RowKit
noncomputable abbrev Kq:MSpec:=Wb [none] [(false, .Ee YA)] false [none] [.row tI 2] (λx=>List.length x.1<=20) (λx=>((Hy x.1,()),()))
noncomputable abbrev Qy:Spec:=Cv (.pair tL (.pair tL .unit)) tO false true (λx=>(0<x.1.length/\x.1.length<=20)/\Iy x.2.1.length x.1) (λx=>some (Aa x.1 x.2.1))
noncomputable abbrev aJ:Spec:=Cv (.pair tL (.pair tL .unit)) tL false false (λx=>x.1.length<=20/\Iy x.2.1.length x.1) (λx=>Aa x.1 x.2.1)
noncomputable abbrev Of:Spec:=Cv (.pair tI .unit) tL false true (λx=>0<=x.1/\x.1<=20) (λx=>upto x.1.toNat)
noncomputable abbrev Wu:Spec:=Cv (.pair tI .unit) tO false true (λx=>1<=x.1/\x.1<=20) (λx=>some (upto x.1.toNat))
abbrev SW:TypeId:=22
structure m8 (N L:Nat) (n:Int) (G T:Cy) (l:Int) (p:List Int):Prop where
 n1:1<=N
 n2:N<=20
 en:n=N
 el:l=L
 le:L<=N
 v:V N (N-L) L (G,T)
 pm:Pm N p
 fx:Fx L p
noncomputable abbrev rC:Spec:=Cv (.pair (.ptr ug) (.pair tI (.pair tL .unit))) .bool false true (λx=> ∃N L,m8 N L x.1.1 x.1.2.1 x.1.2.2.1 x.2.1 x.2.2.1) (λx=>Ix x.1.2.2.1 (x.1.1-x.2.1).toNat x.2.1.toNat x.2.2.1)
noncomputable abbrev SO:MSpec:= {ptr:=some (106,3),Hb:= [none,none],ins:= [(false, .Ee tI),(false, .Al tO SW true),(false, .Al tO SW true),(false, .Ee tI),(false, .Ee tO)],Ej:=false,Gf:= [],outs:= [.Ee tI, .Al tO SW false, .Al tO SW false],fn:= λ_=>none,keeps:= [(1,1),(2,2)],Cr:= λx=>x.2.2.2.1.toNat}
noncomputable abbrev Pp (m:Nat):MSpec:=yg SO (λx=>(∃N L q,x.2.2.2.2.1=some q/\m8 N L x.1 x.2.1 x.2.2.1 x.2.2.2.1 q)/\(x.1-x.2.2.2.1).toNat<m)
 (λx=>((x.1,(Ds (x.1-x.2.2.2.1).toNat x.2.2.2.1.toNat (x.2.2.2.2.1.getD []) (x.2.1,x.2.2.1)).1,(Ds (x.1-x.2.2.2.1).toNat x.2.2.2.1.toNat (x.2.2.2.2.1.getD []) (x.2.1,x.2.2.1)).2,()),()))
theorem xO (n:Int) (P:List Int->Prop):(((0:Int)<=n/\n<(↑Bg:Int)+(1:Int))/\n=n/\0=0/\(List.replicate n.toNat (Int.ofNat (nat_lit 0))).length=(List.replicate n.toNat (Int.ofNat (nat_lit 0))).length/\Bi (λ(v2:Int×List Int×PUnit) (k3:Int×List Int×PUnit->Prop)=>Br (decide (v2.1<(↑(List.replicate n.toNat (Int.ofNat (nat_lit 0))).length:Int))) (((0:Int)<=v2.1/\v2.1<(↑v2.2.1.length:Int))/\0+v2.1.toNat<v2.2.1.length/\0=0/\v2.2.1.length=(v2.2.1.set (0+v2.1.toNat) v2.1).length/\k3 (IntKind.i64.wrap (v2.1+(1:Int)),v2.2.1.set (0+v2.1.toNat) v2.1,())) (P (List.take v2.2.1.length (List.drop 0 v2.2.1)))) ((0:Int),List.replicate n.toNat (Int.ofNat (nat_lit 0)),PUnit.unit))=fnW Cl (look []) Of Tryz.f41 (n,()) P:=by kernel_rfl
theorem HE (row:List (Option (List Int))) (P:(List Int×Unit)×Unit->Prop):(0=0/\0=([]:List Int).length/\Bi (λ(v2:Int×List Int×PUnit) (k3:Int×List Int×PUnit->Prop)=>Br (decide (v2.1<(↑row.length:Int))) (∃(y4:Option (List Int)),idx row v2.1=some y4/\Br (!y4.isNone) (0=0/\v2.2.1.length=v2.2.1.length/\v2.2.1.length+(List.take 1 (List.drop 0 [v2.1])).length<=Bg/\0=0/\(v2.2.1++List.take 1 (List.drop 0 [v2.1])).length=(v2.2.1++List.take 1 (List.drop 0 [v2.1])).length/\k3 (IntKind.i64.wrap (v2.1+(1:Int)),v2.2.1++List.take 1 (List.drop 0 [v2.1]),())) (0=0/\v2.2.1.length=v2.2.1.length/\k3 (IntKind.i64.wrap (v2.1+(1:Int)),v2.2.1,()))) (P ((List.take v2.2.1.length (List.drop 0 v2.2.1),()),()))) ((0:Int),[],PUnit.unit))=fnMW Ub (look []) Kq Tryz.f82 (row,()) P:=by kernel_rfl
theorem Abt (c:Int×List (List (Option (List Int)))×List (List (Option (List Int)))×Unit) (l:Int) (p:List Int) (P:Bool->Prop):(Bi (λ(v4:List Int×Int×PUnit) (k5:List Int×Int×PUnit->Prop)=>Br (decide (v4.2.1<c.1)) (∃(y6:List (Option (List Int))),idx c.2.2.1 v4.2.1=some y6/\ ∃(y7:Int),idx v4.1 v4.2.1=some y7/\ ∃(y8:Option (List Int)),idx y6 y7=some y8/\Br y8.isNone (P false) (∃(y9:List Int),Es.fn (y8.getD [],())=some y9/\ ∃(bC:List Int),aJ.fn (v4.1,y9,())=some bC/\k5 (bC,IntKind.i64.wrap (v4.2.1+(1:Int)),()))) (P true)) (p,l,PUnit.unit))=fnW Ub (look [(83,Es),(65,aJ)]) rC Tryz.f95 (c,l,p,()) P:=by kernel_rfl
theorem Sound.loose {P:Program} {f:FuncId} {arg res:Ty} {pre:arg.den->Prop} {val:arg.den->res.den} (h:Sound P f (Go.Proofs.YtjbdmibbbpdnnaaGreat.Cv arg res false true pre val)):Sound P f (Go.Proofs.YtjbdmibbbpdnnaaGreat.Cv arg res false false pre val):=
 ⟨h.enter,λw S vs x y h1 h2 h3=>Calls.mono (h.calls w S vs x y h1 h2 h3) λe' w' hr=>by
  obtain ⟨v,g1,g2,g3⟩:=hr
  exact ⟨v,g1,g2,Bd.Ez (S:= λb=>S b\/(true=true/\b<w.heap.size)) g3 λk _ hk=>hk.elim .inl λhh=>absurd (show false=true from hh.1) (by simp)⟩⟩
theorem o7:Sound Tryz.prog 65 aJ:=Sound.loose Pr
theorem o8:Sound Tryz.prog 65 Qy:=Sound.toO Pr λx h=>⟨⟨h.1.2,h.2⟩,λe=>by
 have:=Nw x.1 x.2.1
 rw [e] at this
 have:=h.1.1
 simp only [List.length_nil] at*
 omega⟩
theorem wW (n:Int) (h:0<=n/\n<=20):fnW Cl (look []) Of Tryz.f41 (n,()) (λ(z:List Int)=>z=upto n.toNat):=by
 refine Eq.mp (xO n _) ⟨⟨by omega,by show n<(4294967296:Int)+1;omega⟩,rfl,rfl,rfl,?_⟩
 refine Ag n.toNat (λv=>v.1) (λj v=>v.2.1.length=n.toNat/\v.2.1.take j=upto j) rfl ⟨by simp,by simp [upto]⟩ ?_
 rintro j ⟨i,ys,⟨⟩⟩ K hj hi ⟨h1,h2⟩ hK
 dsimp only at hi h1 h2⊢
 subst hi
 rw [List.length_replicate]
 simp only [Int.toNat_natCast,Nat.zero_add]
 refine Br.dec (λhl=>⟨⟨by omega,by omega⟩,by omega,trivial,by rw [List.length_set],?_⟩) λhl=>?_
 ·rw [Ah (by omega)]
  refine hK (by omega) _ rfl ⟨by rw [List.length_set];exact h1,?_⟩
  rw [List.take_add_one,List.take_set_of_le (by omega),h2,List.getElem?_set_self (by omega),Zm]
  rfl
 ·have:j=ys.length:=by omega
  subst this
  rw [List.take_length] at h2
  rw [List.drop_zero,List.take_length,h2,h1]
theorem bu:Sound Tryz.prog 41 Of:=
 Sound.Cv Bk Ak mixed Tryz.func41 (by kernel_rfl) (by kernel_rfl) λx h=>wW x.1 h
theorem QG {n:Int} (h:1<=n/\n<=20):(0<=n/\n<=20)/\upto n.toNat≠ []:=⟨by omega,λe=>by
 have:=congrArg List.length e
 simp [upto] at this
 omega⟩
theorem lB:Sound Tryz.prog 41 Wu:=Sound.toO bu λ_ h=>QG h
theorem wQ {row:Row} {j:Nat} :(upto (j+1)).filter (λy=>(row.getD y.toNat none).isSome)=(upto j).filter (λy=>(row.getD y.toNat none).isSome)++if (row.getD j none).isSome=true then [(j:Int)] else []:=by
 rw [Zm,List.filter_append]
 congr 1
 simp only [List.filter_cons,List.filter_nil,Int.toNat_natCast]
theorem FE (row:List (Option (List Int))) (h:List.length row<=20):fnMW Ub (look []) Kq Tryz.f82 (row,()) (λ(z:(List Int×Unit)×Unit)=>z=((Hy row,()),())):=by
 refine Eq.mp (HE row _) ⟨rfl,rfl,?_⟩
 refine Ag row.length (λv=>v.1) (λj v=>v.2.1=(upto j).filter (λy=>(row.getD y.toNat none).isSome)) rfl rfl ?_
 rintro j ⟨i,ys,⟨⟩⟩ K hj hi h1 hK
 dsimp only at hi h1⊢
 subst hi
 refine Br.dec (λhl=>?_) λhl=>?_
 ·have hl:j<row.length:=by omega
  have hlen:ys.length<=j:=by rw [h1];refine Nat.le_trans (List.length_filter_le _ _) (by simp [upto])
  have hg:row.getD j none=row[j]:=by rw [List.getD_eq_getElem?_getD,List.getElem?_eq_getElem hl];rfl
  refine ⟨_,Am hl,Br.of (λhb=>⟨rfl,rfl,?_,rfl,rfl,?_⟩) λhb=>⟨rfl,rfl,?_⟩⟩
  ·show ys.length+1<=4294967296
   omega
  ·rw [Ah (by omega)]
   refine hK hl _ rfl ?_
   show ys++ [(j:Int)]=_
   rw [wQ,hg,h1,if_pos (by cases e:row[j] with
    |none=>rw [e] at hb;simp at hb
    |some t=>rfl)]
  ·rw [Ah (by omega)]
   refine hK hl _ rfl ?_
   show ys=_
   rw [wQ,hg,h1,if_neg (by cases e:row[j] with
    |none=>simp
    |some t=>rw [e] at hb;simp at hb),List.append_nil]
 ·have:j=row.length:=by omega
  subst this
  rw [List.drop_zero,List.take_length,h1]
  rfl
theorem eP:Bh Tryz.prog 82 Kq:=
 Bh.Wb jV Ak mixed Tryz.func82 (by kernel_rfl) (by kernel_rfl) λx h=>FE x.1 h
theorem gx {n:Nat} {s:Cy×Cy} : ∀(k l:Nat),fe n k l s-> ∀i,l<=i->i<l+k->NJ n i (s.1.getD i []) (s.2.getD i []) (λq=>Ix s.2 (l+k-i-1) (i+1) q=true)
 |0,_,_,i,h1,h2=>by omega
 |k+1,l,hc,i,h1,h2=>by
  obtain ⟨c1,c2,_⟩:=hc
  by_cases e:i=l
  ·subst e
   rw [show i+(k+1)-i-1=k by omega]
   exact c2
  ·have:=gx k (l+1) c1 i (by omega) (by omega)
   rwa [show l+1+k-i-1=l+(k+1)-i-1 by omega] at this
theorem vR {α:Type} {xs:List (List α)} {i:Nat} (h:i<xs.length):xs.getD i []=xs[i]:=by
 rw [List.getD_eq_getElem?_getD,List.getElem?_eq_getElem h];rfl
theorem IU {α:Type} {xs:List (Option α)} {i:Nat} (h:i<xs.length):xs.getD i none=xs[i]:=by
 rw [List.getD_eq_getElem?_getD,List.getElem?_eq_getElem h];rfl
theorem Pm.row {n:Nat} {p:List Int} (h:Pm n p):Iy n p:=by
 have:=h.2.row
 rwa [h.1] at this
theorem Ab5 (c:Int×List (List (Option (List Int)))×List (List (Option (List Int)))×Unit) (l:Int) (p:List Int) (h: ∃N L,m8 N L c.1 c.2.1 c.2.2.1 l p):
  fnW Ub (look [(83,Es),(65,aJ)]) rC Tryz.f95 (c,l,p,()) (λ(z:Bool)=>z=Ix c.2.2.1 (c.1-l).toNat l.toNat p):=by
 obtain ⟨n,G,T,⟨⟩⟩:=c
 obtain ⟨N,L,h⟩:=h
 obtain ⟨n1,n2,en,el,hle,v,pm,fx⟩:=h
 dsimp only at en el v⊢
 subst en el
 refine Eq.mp (Abt ((N:Int),G,T,()) (L:Int) p _) ?_
 obtain ⟨v1,v2,v3,v4⟩:=v
 dsimp only at v1 v2
 refine ⟨λv=> ∃i:Nat,L<=i/\i<=N/\v.2.1=i/\Pm N v.1/\Fx i v.1/\Ix T (N-i) i v.1=Ix T (N-L) L p,λv=>N-v.2.1.toNat,⟨L,Nat.le_refl _,hle,rfl,pm,fx,rfl⟩,?_⟩
 rintro ⟨p',i',⟨⟩⟩ ⟨i,h1,h2,h3,h4,h5,h6⟩
 dsimp only at h3 h4 h5 h6⊢
 subst h3
 rw [show (((N:Int)-(L:Int)).toNat)=N-L by omega,show ((L:Int)).toNat=L by omega,<-h6]
 refine Br.dec (λhl=>?_) λhl=>?_
 ·have hl:i<N:=by omega
  have Tt:=gx (N-L) L v3 i h1 (by omega)
  obtain ⟨a1,a2⟩:=h4.Ue hl
  have hT:i<T.length:=by omega
  have hlen:T[i].length=N:=by have:=Tt.rl;dsimp only at this;rwa [vR hT] at this
  refine ⟨_,Am hT,_,Am (by rw [h4.1];exact hl),?_⟩
  have e1:p'[i]'(by rw [h4.1];exact hl)=(ap p' i:Int):=by rw [<-a1,Ie]
  rw [e1]
  refine ⟨_,Am (by omega),?_⟩
  have e2:N-i=(N-i-1)+1:=by omega
  have e3:(T.getD i []).getD (Ji p' (i:Int)).toNat none=T[i][ap p' i]'(by omega):=by
   rw [vR hT];exact IU (by show ap p' i<_;omega)
  rw [e2]
  simp only [Ix,e3]
  refine Br.of (λhb=>?_) λhb=>?_
  ·cases e:T[i][ap p' i]'(by omega) with
   |none=>rfl
   |some t=>rw [e] at hb;simp at hb
  ·cases e:T[i][ap p' i]'(by omega) with
   |none=>rw [e] at hb;simp at hb
   |some t=>
    have ht:(T.getD i []).getD (ap p' i) none=some t:=by rw [<-e];exact e3
    obtain ⟨t1,t2,t3,t4⟩:=Tt.rt _ _ ht
    simp only [Option.getD_some]
    refine ⟨_,if_pos ⟨by show t.length<=20;rw [t1.1];exact n2,t1.2.row⟩,_,if_pos ⟨by show p'.length<=20;rw [h4.1];exact n2,by show Iy (Ao t).length p';rw [lZ,t1.1];exact h4.row⟩,⟨i+1,by omega,by omega,Ah (by omega),h4.comp t1.inv,Fx.div h4 t1 h5 t2 hl t3,?_⟩,?_⟩
    ·rw [show N-(i+1)=N-i-1 by omega]
    ·show N-(IntKind.i64.wrap ((i:Int)+1)).toNat<N-((i:Int)).toNat
     rw [Ah (by omega)]
     omega
 ·rw [show N-i=0 by omega]
  rfl
theorem GD:Sound Tryz.prog 95 rC:=
 Sound.Cv jV (Ae Ps (Ae o7 Ak)) mixed Tryz.func95 (by kernel_rfl) (by kernel_rfl) λx h=>Ab5 x.1 x.2.1 x.2.2.1 h
end Go.Proofs.YtjbdmibbbpdnnaaGreat

namespace Go.Proofs.YtjbdmibbbpdnnaaGreat
open Go.RowKit
abbrev uf:Type:=Nat×Nat×Int×List (List (Option (List Int)))×Nat×List (List (Option (List Int)))×Nat×List Int×Int×PUnit
abbrev LY:Type:=Nat×Int×List (List (Option (List Int)))×Nat×List (List (Option (List Int)))×Nat×List Int×Int×PUnit
abbrev LZ:Type:=Nat×List (List (Option (List Int)))×Nat×List (List (Option (List Int)))×Nat×List Int×Int×PUnit
abbrev Gu (G:List (List (Option (List Int)))) (l:Int) (p:Option (List Int)) (T:List (List (Option (List Int)))) (y7:Bool) (n:Int):Prop:=0=0/\(G.getD (0+l.toNat) []).length=(G.getD (0+l.toNat) []).length/\(G.getD (0+l.toNat) []).length+(List.take 1 (List.drop 0 [p])).length<=Bg/\((0:Int)<=l/\l<(↑G.length:Int))/\0=0/\(G.getD (0+l.toNat) []++List.take 1 (List.drop 0 [p])).length=(G.getD (0+l.toNat) []++List.take 1 (List.drop 0 [p])).length/\0+l.toNat=0+l.toNat/\ [(0,G.length),(0,G.length),(0,G.length),(0,T.length)]= [(0,G.length),(0,G.length),(0,G.length),(0,T.length)]/\(l,p,l,p,y7,l,l,0+l.toNat,p,List.take 1 (List.drop 0 [p]),0+l.toNat,G.set (0+l.toNat) (G.getD (0+l.toNat) []++List.take 1 (List.drop 0 [p])),min G.length (0+l.toNat),T,T.length,n,())=(l,p,l,p,y7,l,l,0+l.toNat,p,List.take 1 (List.drop 0 [p]),0+l.toNat,G.set (0+l.toNat) (G.getD (0+l.toNat) []++List.take 1 (List.drop 0 [p])),min G.length (0+l.toNat),T,T.length,n,PUnit.unit)
theorem Abo {m:Nat} (n:Int) (G T:List (List (Option (List Int)))) (l:Int) (p:Option (List Int)) (P:(Int×List (List (Option (List Int)))×List (List (Option (List Int)))×Unit)×Unit->Prop):(∃(y7:Bool),rC.fn ((n,List.take G.length (List.drop 0 G),List.take T.length (List.drop 0 T),()),l,p.getD [],())=some y7/\Br y7 ((0=0/\G.length=G.length)/\(0=0/\T.length=T.length)/\(Pp (m+1)).Cr (n,G,T,l,p,())<=G.length/\(Pp (m+1)).Cr (n,G,T,l,p,())<=T.length/\P ((n,G,T,()),())) (((0:Int)<=l/\l<(↑G.length:Int))/\0=0/\(G.getD (0+l.toNat) []).length=(G.getD (0+l.toNat) []).length/\(G.getD (0+l.toNat) []).length+(List.take 1 (List.drop 0 [p])).length<=Bg/\((0:Int)<=l/\l<(↑G.length:Int))/\0=0/\(G.getD (0+l.toNat) []++List.take 1 (List.drop 0 [p])).length=(G.getD (0+l.toNat) []++List.take 1 (List.drop 0 [p])).length/\0+l.toNat=0+l.toNat/\(((0:Int)<=l/\l<(↑T.length:Int))/\ ∃(y8:(List Int×PUnit)×PUnit),Kq.fn (T.getD (0+l.toNat) [],())=some y8/\0=0/\(List.take y8.1.1.length (List.drop 0 y8.1.1)).length=(List.take y8.1.1.length (List.drop 0 y8.1.1)).length/\0=0/\G.length=(G.set (0+l.toNat) (G.getD (0+l.toNat) []++List.take 1 (List.drop 0 [p]))).length/\0=0/\T.length=T.length/\Bi (λ(v9:LZ) (k10:LZ->Prop)=>Br (decide ((↑v9.2.2.2.2.2.1.length:Int)>(0:Int))) (((0:Int)<=l/\l<(↑v9.2.1.length:Int))/\0=0/\(List.take v9.2.2.2.2.2.1.length (List.drop 0 v9.2.2.2.2.2.1)).length=(List.take v9.2.2.2.2.2.1.length (List.drop 0 v9.2.2.2.2.2.1)).length/\0=0/\v9.2.1.length=v9.2.1.length/\0=0/\v9.2.2.2.1.length=v9.2.2.2.1.length/\Bi (λ(v11:uf) (k12:uf->Prop)=>Br (decide (v11.2.2.1<(↑(v9.2.1.getD (0+l.toNat) []).length:Int))) (((0:Int)<=v11.2.2.1/\v11.2.2.1<(↑(v11.2.2.2.1.getD v11.2.1 []).length:Int))/\((0:Int)<=(0:Int)/\(0:Int)<(↑v11.2.2.2.2.2.2.2.1.length:Int))/\ ∃(BD:Int),v11.2.2.2.2.2.2.2.1[0+Int.toNat (0:Int)]?=some BD/\ ∃(aX:Int),idx (((v11.2.2.2.1.getD v11.2.1 []).getD v11.2.2.1.toNat (none:Option (List Int))).getD []) BD=some aX/\((0:Int)<=aX/\aX<(↑(v11.2.2.2.2.2.1.getD v11.1 []).length:Int))/\Br ((v11.2.2.2.2.2.1.getD v11.1 []).getD aX.toNat (none:Option (List Int))).isNone (((0:Int)<=(0:Int)/\(0:Int)<(↑v11.2.2.2.2.2.2.2.1.length:Int))/\ ∃(iT:Int),v11.2.2.2.2.2.2.2.1[0+Int.toNat (0:Int)]?=some iT/\((0:Int)<=iT/\iT<(↑(v11.2.2.2.2.2.1.getD v11.1 []).length:Int))/\ ∃(lO:Option (List Int)),Qy.fn (((v11.2.2.2.2.2.1.getD v11.1 []).getD iT.toNat (none:Option (List Int))).getD [],((v11.2.2.2.1.getD v11.2.1 []).getD v11.2.2.1.toNat (none:Option (List Int))).getD [],())=some lO/\((0:Int)<=aX/\aX<(↑(v11.2.2.2.2.2.1.getD v11.1 []).length:Int))/\0=0/\v11.2.2.2.2.2.2.2.1.length=v11.2.2.2.2.2.2.2.1.length/\v11.2.2.2.2.2.2.2.1.length+(List.take 1 (List.drop 0 [aX])).length<=Bg/\0=0/\(List.take (v11.2.2.2.2.2.2.2.1++List.take 1 (List.drop 0 [aX])).length (List.drop 0 (v11.2.2.2.2.2.2.2.1++List.take 1 (List.drop 0 [aX])))).length=(List.take (v11.2.2.2.2.2.2.2.1++List.take 1 (List.drop 0 [aX])).length (List.drop 0 (v11.2.2.2.2.2.2.2.1++List.take 1 (List.drop 0 [aX])))).length/\0=0/\v11.2.2.2.1.length=v11.2.2.2.1.length/\0=0/\v11.2.2.2.2.2.1.length=(v11.2.2.2.2.2.1.set v11.1 ((v11.2.2.2.2.2.1.getD v11.1 []).set aX.toNat lO)).length/\k12 (v11.1,v11.2.1,IntKind.i64.wrap (v11.2.2.1+(1:Int)),v11.2.2.2.1,v11.2.2.2.2.1,v11.2.2.2.2.2.1.set v11.1 ((v11.2.2.2.2.2.1.getD v11.1 []).set aX.toNat lO),v11.2.2.2.2.2.2.1,List.take (v11.2.2.2.2.2.2.2.1++List.take 1 (List.drop 0 [aX])).length (List.drop 0 (v11.2.2.2.2.2.2.2.1++List.take 1 (List.drop 0 [aX]))),v11.2.2.2.2.2.2.2.2.1,())) (0=0/\(List.take v11.2.2.2.2.2.2.2.1.length (List.drop 0 v11.2.2.2.2.2.2.2.1)).length=(List.take v11.2.2.2.2.2.2.2.1.length (List.drop 0 v11.2.2.2.2.2.2.2.1)).length/\0=0/\v11.2.2.2.1.length=v11.2.2.2.1.length/\0=0/\v11.2.2.2.2.2.1.length=v11.2.2.2.2.2.1.length/\k12 (v11.1,v11.2.1,IntKind.i64.wrap (v11.2.2.1+(1:Int)),v11.2.2.2.1,v11.2.2.2.2.1,v11.2.2.2.2.2.1,v11.2.2.2.2.2.2.1,List.take v11.2.2.2.2.2.2.2.1.length (List.drop 0 v11.2.2.2.2.2.2.2.1),v11.2.2.2.2.2.2.2.2.1,()))) (((0:Int)<=(1:Int)/\(1:Int)<=(↑v11.2.2.2.2.2.2.2.1.length:Int)/\(↑v11.2.2.2.2.2.2.2.1.length:Int)<=(↑v11.2.2.2.2.2.2.2.1.length:Int))/\0=0/\(List.take ((↑v11.2.2.2.2.2.2.2.1.length:Int).toNat-Int.toNat (1:Int)) (List.drop (0+Int.toNat (1:Int)) v11.2.2.2.2.2.2.2.1)).length=(List.take ((↑v11.2.2.2.2.2.2.2.1.length:Int).toNat-Int.toNat (1:Int)) (List.drop (0+Int.toNat (1:Int)) v11.2.2.2.2.2.2.2.1)).length/\0=0/\v11.2.2.2.1.length=v11.2.2.2.1.length/\0=0/\v11.2.2.2.2.2.1.length=v11.2.2.2.2.2.1.length/\k10 (v11.1,v11.2.2.2.1,v11.2.2.2.2.1,v11.2.2.2.2.2.1,v11.2.2.2.2.2.2.1,List.take ((↑v11.2.2.2.2.2.2.2.1.length:Int).toNat-Int.toNat (1:Int)) (List.drop (0+Int.toNat (1:Int)) v11.2.2.2.2.2.2.2.1),v11.2.2.2.2.2.2.2.2.1,()))) (v9.1,0+l.toNat,(0:Int),v9.2.1,v9.2.2.1,v9.2.2.2.1,v9.2.2.2.2.1,List.take v9.2.2.2.2.2.1.length (List.drop 0 v9.2.2.2.2.2.1),v9.2.2.2.2.2.2.1,PUnit.unit)) (∃(iX:(List Int×PUnit)×PUnit),Kq.fn (v9.2.2.2.1.getD v9.1 [],())=some iX/\0=0/\iX.1.1.length=iX.1.1.length/\0=0/\v9.2.1.length=v9.2.1.length/\0=0/\v9.2.2.2.1.length=v9.2.2.2.1.length/\Bi (λ(Iz:LY) (k13:LY->Prop)=>Br (decide (Iz.2.1<(↑iX.1.1.length:Int))) (((0:Int)<=Iz.2.1/\Iz.2.1<(↑Iz.2.2.2.2.2.2.1.length:Int))/\ ∃(aX:Int),Iz.2.2.2.2.2.2.1[0+Iz.2.1.toNat]?=some aX/\((0:Int)<=l/\l<(↑Iz.2.2.1.length:Int))/\0=0/\Iz.2.2.2.2.2.2.1.length=Iz.2.2.2.2.2.2.1.length/\0=0/\Iz.2.2.1.length=Iz.2.2.1.length/\0=0/\Iz.2.2.2.2.1.length=Iz.2.2.2.2.1.length/\Bi (λ(Lc:uf) (k16:uf->Prop)=>Br (decide (Lc.2.2.1<(↑(Iz.2.2.1.getD (0+l.toNat) []).length:Int))) (((0:Int)<=Lc.2.2.1/\Lc.2.2.1<(↑(Lc.2.2.2.1.getD Lc.2.1 []).length:Int))/\((0:Int)<=aX/\aX<(↑(Lc.2.2.2.2.2.1.getD Lc.1 []).length:Int))/\ ∃(BE:Option (List Int)),Qy.fn (((Lc.2.2.2.2.2.1.getD Lc.1 []).getD aX.toNat (none:Option (List Int))).getD [],((Lc.2.2.2.1.getD Lc.2.1 []).getD Lc.2.2.1.toNat (none:Option (List Int))).getD [],())=some BE/\ ∃(HM:Int),idx (((Lc.2.2.2.1.getD Lc.2.1 []).getD Lc.2.2.1.toNat (none:Option (List Int))).getD []) aX=some HM/\((0:Int)<=HM/\HM<(↑(Lc.2.2.2.2.2.1.getD Lc.1 []).length:Int))/\ ∃(QR:List Int),Es.fn (((Lc.2.2.2.2.2.1.getD Lc.1 []).getD HM.toNat (none:Option (List Int))).getD [],())=some QR/\ ∃(HX:Option (List Int)),Qy.fn (BE.getD [],QR,())=some HX/\0=0/\Lc.2.2.2.1.length=Lc.2.2.2.1.length/\0=0/\Lc.2.2.2.2.2.1.length=Lc.2.2.2.2.2.1.length/\ ∃(uN:(Int×List (List (Option (List Int)))×List (List (Option (List Int)))×PUnit)×PUnit),(Pp m).fn (Lc.2.2.2.2.2.2.2.2.1,Lc.2.2.2.1,Lc.2.2.2.2.2.1,IntKind.i64.wrap (l+(1:Int)),HX,())=some uN/\(Lc.1<(Pp m).Cr (Lc.2.2.2.2.2.2.2.2.1,Lc.2.2.2.1,Lc.2.2.2.2.2.1,IntKind.i64.wrap (l+(1:Int)),HX,())/\Lc.1<(List.length uN.1.2.2.1))/\(Lc.2.1<(Pp m).Cr (Lc.2.2.2.2.2.2.2.2.1,Lc.2.2.2.1,Lc.2.2.2.2.2.1,IntKind.i64.wrap (l+(1:Int)),HX,())/\Lc.2.1<(List.length uN.1.2.1))/\(Lc.1<(Pp m).Cr (Lc.2.2.2.2.2.2.2.2.1,Lc.2.2.2.1,Lc.2.2.2.2.2.1,IntKind.i64.wrap (l+(1:Int)),HX,())/\Lc.1<(List.length uN.1.2.2.1))/\(Lc.1<(Pp m).Cr (Lc.2.2.2.2.2.2.2.2.1,Lc.2.2.2.1,Lc.2.2.2.2.2.1,IntKind.i64.wrap (l+(1:Int)),HX,())/\Lc.1<(List.length uN.1.2.2.1))/\0=0/\Lc.2.2.2.2.2.2.2.1.length=Lc.2.2.2.2.2.2.2.1.length/\0=0/\uN.1.2.1.length=uN.1.2.1.length/\0=0/\uN.1.2.2.1.length=uN.1.2.2.1.length/\k16 (Lc.1,Lc.2.1,IntKind.i64.wrap (Lc.2.2.1+(1:Int)),uN.1.2.1,min Lc.2.2.2.2.1 ((Pp m).Cr (Lc.2.2.2.2.2.2.2.2.1,Lc.2.2.2.1,Lc.2.2.2.2.2.1,IntKind.i64.wrap (l+(1:Int)),HX,())),uN.1.2.2.1,min Lc.2.2.2.2.2.2.1 ((Pp m).Cr (Lc.2.2.2.2.2.2.2.2.1,Lc.2.2.2.1,Lc.2.2.2.2.2.1,IntKind.i64.wrap (l+(1:Int)),HX,())),Lc.2.2.2.2.2.2.2.1,uN.1.1,())) (0=0/\Lc.2.2.2.2.2.2.2.1.length=Lc.2.2.2.2.2.2.2.1.length/\0=0/\Lc.2.2.2.1.length=Lc.2.2.2.1.length/\0=0/\Lc.2.2.2.2.2.1.length=Lc.2.2.2.2.2.1.length/\k13 (Lc.1,IntKind.i64.wrap (Iz.2.1+(1:Int)),Lc.2.2.2.1,Lc.2.2.2.2.1,Lc.2.2.2.2.2.1,Lc.2.2.2.2.2.2.1,Lc.2.2.2.2.2.2.2.1,Lc.2.2.2.2.2.2.2.2.1,()))) (Iz.1,0+l.toNat,(0:Int),Iz.2.2.1,Iz.2.2.2.1,Iz.2.2.2.2.1,Iz.2.2.2.2.2.1,Iz.2.2.2.2.2.2.1,Iz.2.2.2.2.2.2.2.1,PUnit.unit)) ((0=0/\Iz.2.2.1.length=Iz.2.2.1.length)/\(0=0/\Iz.2.2.2.2.1.length=Iz.2.2.2.2.1.length)/\(Pp (m+1)).Cr (n,G,T,l,p,())<=Iz.2.2.2.1/\(Pp (m+1)).Cr (n,G,T,l,p,())<=Iz.2.2.2.2.2.1/\P ((Iz.2.2.2.2.2.2.2.1,Iz.2.2.1,Iz.2.2.2.2.1,()),()))) (v9.1,(0:Int),v9.2.1,v9.2.2.1,v9.2.2.2.1,v9.2.2.2.2.1,iX.1.1,v9.2.2.2.2.2.2.1,PUnit.unit))) (0+l.toNat,G.set (0+l.toNat) (G.getD (0+l.toNat) []++List.take 1 (List.drop 0 [p])),min G.length (0+l.toNat),T,T.length,List.take y8.1.1.length (List.drop 0 y8.1.1),n,PUnit.unit))/\(((((0:Int)<=l/\l<(↑G.length:Int))/\((Gu G l p T y7 n))/\(Gu G l p T y7 n))/\((0:Int)<=l/\l<(↑G.length:Int))/\(Gu G l p T y7 n))/\((0:Int)<=l/\l<(↑G.length:Int))/\(Gu G l p T y7 n))/\(((((0:Int)<=l/\l<(↑G.length:Int))/\((Gu G l p T y7 n))/\(Gu G l p T y7 n))/\((0:Int)<=l/\l<(↑G.length:Int))/\(Gu G l p T y7 n))/\(((0:Int)<=l/\l<(↑G.length:Int))/\(((Gu G l p T y7 n))/\(Gu G l p T y7 n))/\(((Gu G l p T y7 n))/\((Gu G l p T y7 n))/\(Gu G l p T y7 n))/\((Gu G l p T y7 n))/\((Gu G l p T y7 n))/\(Gu G l p T y7 n))/\(((0:Int)<=l/\l<(↑G.length:Int))/\(Gu G l p T y7 n))/\((0:Int)<=l/\l<(↑G.length:Int))/\((Gu G l p T y7 n))/\((Gu G l p T y7 n))/\(Gu G l p T y7 n))/\(((0:Int)<=l/\l<(↑G.length:Int))/\(Gu G l p T y7 n))/\(((0:Int)<=l/\l<(↑G.length:Int))/\(Gu G l p T y7 n))/\((0:Int)<=l/\l<(↑G.length:Int))/\((Gu G l p T y7 n))/\((Gu G l p T y7 n))/\(Gu G l p T y7 n)))=fnMW (MD [Ln+7]) (look [(95,rC),(82,Kq),(65,Qy),(83,Es),(80,Wd.m (Pp m))]) (Pp (m+1)) Tryz.f80 (n,G,T,l,p,()) P:=by kernel_rfl
theorem uT {k l:Nat} {p:List Int} {s:Cy×Cy} (h:Ix s.2 k l p=true):Ds k l p s=s:=by
 cases k with
 |zero=>rfl
 |succ k=>unfold Ds;rw [if_pos h]
theorem uS (k l:Nat) (p:List Int) (s:Cy×Cy):Ds (k+1) l p s=if Ix s.2 (k+1) l p=true then s else
   (bo (Ro (s.1.getD l []++ [some p]) (s.2.getD l [])) (s.1.getD l []++ [some p])).foldl (λs q=>Ds k (l+1) q s)
    (s.1.set l (s.1.getD l []++ [some p]),s.2.set l (Ro (s.1.getD l []++ [some p]) (s.2.getD l []))):=rfl
theorem JV {n:Nat} {p:List Int} (h:Pm n p) {i:Nat} (hi:i<n):idx p (i:Int)=some (ap p i:Int):=by
 have oX:i<p.length:=by rw [h.1];exact hi
 rw [Am oX,<-(h.Ue hi).1,Ie oX]
theorem yo {x:Int} {gs:List PO} {j:Nat} (hj:j<gs.length) (s:Row×List Int):Td x (gs.take (j+1)) s=Tl x (Td x (gs.take j) s) gs[j]:=by
 unfold Td
 rw [List.take_add_one,List.getElem?_eq_getElem hj,Option.toList_some,List.foldl_append]
 rfl
theorem yp {gs:List PO} {f:Nat} {row:Row} :Sv gs f [] row=row:=by cases f<;>rfl
theorem fu {n:Nat} {p:List Int} (h:Pm n p):0<p.length/\p.length<=20:=⟨by rw [h.1];exact h.n1,by rw [h.1];exact h.n2⟩
theorem zR {n:Nat} {p q:List Int} (h:Pm n p) (k:Pm n q):Iy q.length p:=by rw [k.1];exact h.row
theorem Ab0 {m:Nat} (n:Int) (G T:List (List (Option (List Int)))) (l:Int) (p:Option (List Int)) (h:(∃N L q,p=some q/\m8 N L n G T l q)/\(n-l).toNat<m+1):
  fnMW (MD [Ln+7]) (look [(95,rC),(82,Kq),(65,Qy),(83,Es),(80,Wd.m (Pp m))]) (Pp (m+1)) Tryz.f80 (n,G,T,l,p,()) (λ(z:(Int×List (List (Option (List Int)))×List (List (Option (List Int)))×Unit)×Unit)=>z=((n,(Ds (n-l).toNat l.toNat (p.getD []) (G,T)).1,(Ds (n-l).toNat l.toNat (p.getD []) (G,T)).2,()),())):=by
 obtain ⟨⟨N,L,q,rfl,h⟩,hm⟩:=h
 have h':=h
 obtain ⟨n1,n2,en,el,hle,v,pm,fx⟩:=h
 subst en el
 have hk:((N:Int)-(L:Int)).toNat=N-L:=by omega
 rw [hk,Int.toNat_natCast]
 refine Eq.mp (Abo (N:Int) G T (L:Int) (some q) _) ⟨_,if_pos ⟨N,L,?a⟩,?b⟩
 case a=>
  simp only [List.drop_zero,List.take_length,Option.getD_some]
  exact h'
 obtain ⟨v1,v2,v3,v4⟩:=v
 dsimp only at v1 v2
 have hw:IntKind.i64.wrap ((L:Int)+1)=((L+1:Nat):Int):=Ah (by omega)
 simp only [Gu]
 simp only [List.drop_zero,List.take_length,Option.getD_some,hk,Int.toNat_natCast,Nat.zero_add,eq_self,true_and,and_true,List.take_succ_cons,List.take_zero,List.length_cons,List.length_nil,List.length_set,hw]
 refine Br.of (λhh=>⟨by show Int.toNat (L:Int)<=G.length;omega,by show Int.toNat (L:Int)<=T.length;omega,?_⟩) λhh=>?_
 ·rw [uT (s:=(G,T)) hh]
 obtain ⟨k,hNk⟩: ∃k,N-L=k+1:=by
  cases e:N-L with
  |zero=>rw [e] at hh;simp [Ix] at hh
  |succ k=>exact ⟨k,rfl⟩
 have YT:L<N:=by omega
 have hv:V N (k+1) L (G,T):=by rw [<-hNk];exact ⟨v1,v2,v3,v4⟩
 rw [hNk] at hh⊢
 have e1:(0:Int)<=(L:Int)/\(L:Int)<(G.length:Int):=by omega
 have e1':(0:Int)<=(L:Int)/\(L:Int)<(T.length:Int):=by omega
 have hgl:(G.getD L []).length<=400:=NT n2 (by omega) hv
 have e2:(G.getD L []).length+1<=Bg:=by show _<=4294967296;omega
 simp only [e1,e1',e2,and_self,true_and,and_true]
 generalize CA:G.getD L []++ [some q]=gs
 have Ajd:gs.length<=401:=by rw [<-CA,List.length_append,List.length_singleton];omega
 have hg:PG N L gs:=by rw [<-CA];exact hv.pg pm fx
 have US:Rr N L gs (T.getD L []):=by rw [<-CA];exact hv.Agh q
 obtain ⟨r1,r2,r3⟩:=wR YT n2 hg US
 generalize hR:Ro gs (T.getD L [])=R at r1 r2 r3
 have yW:Ds (k+1) L q (G,T)=(bo R gs).foldl (λs q=>Ds k (L+1) q s) (G.set L gs,T.set L R):=by
  rw [uS,if_neg (by rw [hh];simp)]
  dsimp only
  rw [CA,hR]
 rw [yW]
 have hTl:L<T.length:=by omega
 have hGl:L<G.length:=by omega
 have hG1:(G.set L gs).getD L []=gs:=eu G L hGl gs
 have hT1: ∀row:Row,(T.set L row).getD L []=row:=eu T L hTl
 refine ⟨_,if_pos (by show (T.getD L []).length<=20;rw [US.rl];exact n2),?_⟩
 dsimp only
 have hn0:(Hy (T.getD L [])).length+Ll (T.getD L [])<=40:=by have:=tg (T.getD L []);have:=wN (T.getD L []);have:=US.rl;omega
 have hq0:DE gs (Hy (T.getD L [])) (T.getD L []):=⟨λy hy=>Nd.1 hy,λy hy=> .inl (Nd.2 ⟨y,rfl,hy⟩)⟩
 refine ⟨λv=> ∃(row:Row) (qu:List Int) (kg kt:Nat),v=(L,G.set L gs,kg,T.set L row,kt,qu,(N:Int),())/\L<=kg/\L<=kt/\qu.length+Ll row<=40/\Rr N L gs row/\DE gs qu row/\Sv gs (qu.length+Ll row) qu row=R,
  fun v=>v.2.2.2.2.2.1.length+Ll (v.2.2.2.1.getD v.1 []),⟨T.getD L [],Hy (T.getD L []),min G.length L,T.length,?_,by omega,by omega,hn0,US,hq0,?_⟩,?_⟩
 ·rw [pQ T L hTl]
 ·rw [<-vf YT hg 100 _ _ (by omega) US hq0];exact hR
 rintro v ⟨row,qu,kg,kt,rfl,UD,UG,hb,JL,hqi,IX⟩
 dsimp only
 simp only [hG1,hT1,List.length_set]
 refine Br.dec (λhl=>⟨e1.2,?_⟩) λhl=>?_
 ·cases qu with
  |nil=>simp at hl
  |cons x qu=>
  obtain ⟨p1,p2,xn,t,rfl,ht⟩:=zI YT hg JL hqi
  have NF:xn<N:=by rw [<-JL.rl];exact lT ht
  refine Ag gs.length (λv=>v.2.2.1) (λj v=> ∃kg kt:Nat,v=(L,L,(j:Int),G.set L gs,kg,T.set L (Td (xn:Int) (gs.take j) (row,qu)).1,kt,(xn:Int)::(Td (xn:Int) (gs.take j) (row,qu)).2,(N:Int),())/\L<=kg/\L<=kt) rfl ⟨kg,kt,rfl,UD,UG⟩ ?_
  rintro j v K hj hi ⟨kg,kt,rfl,h1,h2⟩ hK
  dsimp only
  simp only [hG1,hT1,Int.toNat_natCast]
  refine Br.dec (λhl=>?_) λhl=>?_
  ·have hl:j<gs.length:=by omega
   obtain ⟨x1,x2⟩:=LJ YT hg (gs.take j) (q:=qu) (λo ho=>List.mem_of_mem_take ho) JL ht
   have Ss:=yo (x:=(xn:Int)) hl (row,qu)
   generalize Td (xn:Int) (gs.take j) (row,qu)=s at x1 x2 Ss⊢
   obtain ⟨r,qq⟩:=s
   dsimp only at x1 x2⊢
   obtain ⟨g,pf,Qc,TY⟩:=hg gs[j] (List.getElem_mem hl)
   have htx:r.getD xn none=some t:=x1.mono _ _ ht
   obtain ⟨t1,t2,t3,t4⟩:=x1.ok.rt _ _ htx
   have hrl:r.length=N:=x1.ok.rl
   have hgj:gs.getD j none=some g:=by rw [IU hl];exact pf
   have hy:=Qc.lt NF
   have hga:=(Qc.Ue NF).1
   have OO:qq.length+Ll r=qu.length+Ll row:=x1.XY
   simp only [List.length_cons] at hb
   simp only [hgj,Option.getD_some]
   refine ⟨⟨by omega,by omega⟩,⟨by omega,by simp only [List.length_cons];omega⟩,_,rfl,_,JV Qc NF,⟨by omega,by omega⟩,?_⟩
   rw [pf] at Ss
   unfold Tl at Ss
   dsimp only at Ss
   rw [Option.getD_some,hga,Int.toNat_natCast,Int.toNat_natCast,htx,Option.getD_some] at Ss
   rw [Int.toNat_natCast]
   refine Br.of (λhn=>?_) λhn=>?_
   ·have hn:r.getD (ap g xn) none=none:=by
     cases e:r.getD (ap g xn) none with
     |none=>rfl
     |some u=>rw [e] at hn;simp at hn
    rw [hn] at Ss
    refine ⟨⟨by omega,by simp only [List.length_cons];omega⟩,_,rfl,⟨by omega,by omega⟩,some (Aa t g),?_,⟨by omega,by omega⟩,?_,?_⟩
    ·rw [Int.toNat_natCast,htx,Option.getD_some]
     exact if_pos ⟨fu t1,zR t1 Qc⟩
    ·show qq.length+1+1<=4294967296
     omega
    ·rw [Ah (by omega)]
     refine hK hl _ rfl ⟨kg,kt,?_,h1,h2⟩
     rw [Ss,List.set_set]
     rfl
   ·have hn: ∃u,r.getD (ap g xn) none=some u:=by
     cases e:r.getD (ap g xn) none with
     |none=>rw [e] at hn;simp at hn
     |some u=>exact ⟨u,rfl⟩
    obtain ⟨u,hn⟩:=hn
    rw [hn] at Ss
    rw [Ah (by omega)]
    refine hK hl _ rfl ⟨kg,kt,?_,h1,h2⟩
    rw [Ss]
  ·have:j=gs.length:=by omega
   subst this
   rw [List.take_length]
   generalize hs:Td (xn:Int) gs (row,qu)=s at p1 p2⊢
   obtain ⟨r,qq⟩:=s
   dsimp only at p1 p2⊢
   have OO:qq.length+Ll r=qu.length+Ll row:=p1.XY
   simp only [List.length_cons] at hb IX
   refine ⟨⟨by omega,by simp only [List.length_cons];omega,Int.le_refl _⟩,⟨r,qq,kg,kt,?_,h1,h2,by omega,p1.ok,p2,?_⟩,?_⟩
   ·simp
   ·rw [show qu.length+1+Ll row=(qu.length+Ll row)+1 by omega] at IX
    simp only [Sv,hs] at IX
    rw [OO]
    exact IX
   ·simp only [List.length_cons]
    have:(List.take (qq.length+1-Int.toNat 1) (List.drop (Int.toNat 1) ((xn:Int)::qq))).length=qq.length:=by simp
    rw [this]
    omega
 ·have:qu= []:=List.eq_nil_of_length_eq_zero (by omega)
  subst this
  rw [yp] at IX
  subst IX
  have hpr:=LH YT hg JL r3
  have hvl:=hv.lower gs row
  have RR: ∀qs:List (List Int),(∀q∈qs,q∈bo row gs)->V N k (L+1) (qs.foldl (λs q=>Ds k (L+1) q s) (G.set L gs,T.set L row))/\Xf (L+1) (G.set L gs,T.set L row) (qs.foldl (λs q=>Ds k (L+1) q s) (G.set L gs,T.set L row)):=
   fun qs OQ=>BS n1 n2 (by omega) qs _ (λq hq=>hpr q (OQ q hq)) hvl
  refine ⟨_,if_pos (by show row.length<=20;rw [JL.rl];exact n2),?_⟩
  dsimp only
  have hol:=tg row
  have hrl:=JL.rl
  refine Ag (Hy row).length (λv=>v.2.1) (λi v=> ∃(s:Cy×Cy) (kg kt:Nat),v=(L,(i:Int),s.1,kg,s.2,kt,Hy row,(N:Int),())/\L<=kg/\L<=kt/\s=(((Hy row).take i).flatMap λy=>gs.map (My row y)).foldl (λs q=>Ds k (L+1) q s) (G.set L gs,T.set L row)) rfl ⟨_,kg,kt,rfl,UD,UG,rfl⟩ ?_
  rintro i v K hi oX ⟨s,kg,kt,rfl,h1,h2,hs⟩ hK
  dsimp only
  have Qq: ∀q∈((Hy row).take i).flatMap (λy=>gs.map (My row y)),q∈bo row gs:= λq hq=>by
   obtain ⟨y,hy,hq⟩:=List.mem_flatMap.1 hq
   exact List.mem_flatMap.2 ⟨y,List.mem_of_mem_take hy,hq⟩
  refine Br.dec (λhl=>?_) λhl=>?_
  ·have hl:i<(Hy row).length:=by omega
   obtain ⟨f1,f2⟩:=RR _ Qq
   rw [<-hs] at f1 f2
   have g1:s.1.getD L []=gs:=by rw [(f2.low L (by omega)).1];exact hG1
   have g2:s.1.length=N:=f1.1
   obtain ⟨yn,SJ,hyr⟩:=Nd.1 (List.getElem_mem hl)
   obtain ⟨t,ht⟩:=Option.ne_none_iff_exists'.1 hyr
   have hyN:yn<N:=by rw [<-hrl];exact lT ht
   obtain ⟨t1,t2,t3,t4⟩:=JL.rt _ _ ht
   refine ⟨⟨by omega,by omega⟩,(yn:Int),by rw [Int.toNat_natCast,List.getElem?_eq_getElem hl,SJ],by omega,?_⟩
   rw [g1]
   refine Ag gs.length (λv=>v.2.2.1) (λj v=> ∃(s':Cy×Cy) (kg kt:Nat),v=(L,L,(j:Int),s'.1,kg,s'.2,kt,Hy row,(N:Int),())/\L<=kg/\L<=kt/\s'=(((Hy row).take i).flatMap (λy=>gs.map (My row y))++(gs.take j).map (My row (yn:Int))).foldl (λs q=>Ds k (L+1) q s) (G.set L gs,T.set L row)) rfl ⟨s,kg,kt,rfl,h1,h2,by simpa using hs⟩ ?_
   rintro j v K' hj lW ⟨s',kg,kt,rfl,h1,h2,w6⟩ YS
   dsimp only
   refine Br.dec (λGq=>?_) λGq=>?_
   ·have Gq:j<gs.length:=by omega
    have CJ: ∀q∈((Hy row).take i).flatMap (λy=>gs.map (My row y))++(gs.take j).map (My row (yn:Int)),q∈bo row gs:= λq hq=>by
     rcases List.mem_append.1 hq with hq|hq
     ·exact Qq q hq
     ·obtain ⟨o,ho,rfl⟩:=List.mem_map.1 hq
      exact List.mem_flatMap.2 ⟨(yn:Int),Nd.2 ⟨yn,rfl,hyr⟩,List.mem_map.2 ⟨o,List.mem_of_mem_take ho,rfl⟩⟩
    obtain ⟨XG,f2'⟩:=RR _ CJ
    rw [<-w6] at XG f2'
    obtain ⟨G',T'⟩:=s'
    dsimp only at XG f2'⊢
    have g1':G'.getD L []=gs:=by have:=(f2'.low L (by omega)).1;dsimp only at this;rw [this];exact hG1
    have g3':T'.getD L []=row:=by have:=(f2'.low L (by omega)).2;dsimp only at this;rw [this];exact hT1 row
    have g4':G'.length=N:=XG.1
    have g5':T'.length=N:=XG.2.1
    obtain ⟨g,pf,Qc,TY⟩:=hg gs[j] (List.getElem_mem Gq)
    have hgj:gs.getD j none=some g:=by rw [IU Gq];exact pf
    have hgm:some g∈gs:=by rw [<-pf];exact List.getElem_mem Gq
    have hy:=Qc.lt hyN
    obtain ⟨t',EC⟩:=Option.ne_none_iff_exists'.1 (r3 yn t g ht hgm)
    obtain ⟨u1,u2,u3,u4⟩:=JL.rt _ _ EC
    have Aaa:My row (yn:Int) gs[j]=Aa (Aa t g) (Ao t'):=by rw [pf];exact df ht EC
    have SD:=hpr _ (List.mem_flatMap.2 ⟨(yn:Int),Nd.2 ⟨yn,rfl,hyr⟩,List.mem_map.2 ⟨gs[j],List.getElem_mem Gq,Aaa⟩⟩)
    simp only [g1',g3',Int.toNat_natCast,hgj,ht,Option.getD_some]
    have mZ:L<Int.toNat ((L+1:Nat):Int):=by omega
    have IV:=s7 n1 n2 k (L+1) _ (G',T') (by omega) XG SD.1 SD.2
    have Ahc:((Ds k (L+1) (Aa (Aa t g) (Ao t')) (G',T')).1).length=N:=IV.v.1
    have Ahd:((Ds k (L+1) (Aa (Aa t g) (Ao t')) (G',T')).2).length=N:=IV.v.2.1
    have NB:((N:Int)-((L+1:Nat):Int)).toNat=k:=by omega
    refine ⟨⟨by omega,by omega⟩,⟨by omega,by omega⟩,some (Aa t g),if_pos ⟨fu t1,zR t1 Qc⟩,_,JV Qc hyN,⟨by omega,by omega⟩,Ao t',?_,some (Aa (Aa t g) (Ao t')),?_,_,if_pos ⟨⟨N,L+1,_,rfl,?pr⟩,?lt⟩,⟨mZ,?k1⟩,⟨mZ,?k2⟩,⟨mZ,?k3⟩,⟨mZ,?k4⟩,?go⟩
    case pr=>exact ⟨n1,n2,rfl,rfl,by omega,by rw [show N-(L+1)=k by omega];exact XG,SD.1,SD.2⟩
    case lt=>
     show ((N:Int)-((L+1:Nat):Int)).toNat<m
     omega
    case go=>
     dsimp only
     rw [Ah (by omega)]
     refine YS Gq _ rfl ⟨_,_,_,rfl,?_,?_,?_⟩
     ·show L<=min kg (Int.toNat ((L+1:Nat):Int));omega
     ·show L<=min kt (Int.toNat ((L+1:Nat):Int));omega
     ·rw [List.take_add_one,List.getElem?_eq_getElem Gq,Option.toList_some,List.map_append,<-List.append_assoc,List.foldl_append,<-w6]
      simp only [List.map_cons,List.map_nil,List.foldl_cons,List.foldl_nil,Aaa,NB,Int.toNat_natCast,Option.getD_some]
    case k1=>simp only [NB,Int.toNat_natCast,Option.getD_some];omega
    case k2=>simp only [NB,Int.toNat_natCast,Option.getD_some];omega
    case k3=>simp only [NB,Int.toNat_natCast,Option.getD_some];omega
    case k4=>simp only [NB,Int.toNat_natCast,Option.getD_some];omega
    ·rw [Int.toNat_natCast,EC,Option.getD_some]
     exact if_pos ⟨by show t'.length<=20;rw [u1.1];exact n2,u1.2.row⟩
    ·exact if_pos ⟨fu (t1.comp Qc),zR (t1.comp Qc) u1.inv⟩
   ·have:j=gs.length:=by omega
    subst this
    rw [Ah (by omega)]
    refine hK hl _ rfl ⟨s',kg,kt,rfl,h1,h2,?_⟩
    rw [w6,List.take_length,List.take_add_one,List.getElem?_eq_getElem hl,Option.toList_some,List.flatMap_append,SJ]
    simp
  ·have:i=(Hy row).length:=by omega
   subst this
   rw [List.take_length] at hs
   refine ⟨h1,h2,?_⟩
   rw [hs]
   rfl
theorem LU {m:Nat} (VF:Bh Tryz.prog 80 (Pp m)):Bh Tryz.prog 80 (Pp (m+1)):=
 Bh.yg (QD [Ln+7]) (Ae GD (Dt eP (Ae o8 (Ae Ps (Dt VF Ak))))) mixed Tryz.func80 (by kernel_rfl) (by kernel_rfl) λx h=>Ab0 x.1 x.2.1 x.2.2.1 x.2.2.2.1 x.2.2.2.2.1 h
theorem zY:Bh Tryz.prog 80 (Pp 0):=
 Bh.yg jV Ak mixed Tryz.func80 (by kernel_rfl) (by kernel_rfl) λ_ h=>absurd h.2 (Nat.not_lt_zero _)
theorem o6: ∀m,Bh Tryz.prog 80 (Pp m)
 |0=>zY
 |m+1=>LU (o6 m)
noncomputable abbrev tN:MSpec:=yg SO (λx=> ∃N L q,x.2.2.2.2.1=some q/\m8 N L x.1 x.2.1 x.2.2.1 x.2.2.2.1 q)
 (λx=>((x.1,(Ds (x.1-x.2.2.2.1).toNat x.2.2.2.1.toNat (x.2.2.2.2.1.getD []) (x.2.1,x.2.2.1)).1,(Ds (x.1-x.2.2.2.1).toNat x.2.2.2.1.toNat (x.2.2.2.2.1.getD []) (x.2.1,x.2.2.1)).2,()),()))
theorem zZ:Bh Tryz.prog 80 tN:=Bh.Aay (λx=>(x.1-x.2.2.2.1).toNat) o6
end Go.Proofs.YtjbdmibbbpdnnaaGreat

namespace Go.Proofs.YtjbdmibbbpdnnaaGreat
open Go.RowKit
def Ta (n:Nat):Cy:=List.replicate n []
def Zk (n i:Nat):Row:=(List.replicate n none).set i (some (upto n))
def Xx (n:Nat):Cy:=(List.range n).map λi=>Zk n i
def Nj (n:Nat) (gens:List PO):Cy×Cy:=gens.foldl (λs o=>Ds n 0 (o.getD []) s) (Ta n,Xx n)
noncomputable abbrev z8:MSpec:= {Hb:= [none,none],ins:= [(false, .Ee tI),(false, .Ee YA)],Ej:=false,Gf:= [none,none,none],outs:= [.Ee tI, .Al tO SW false, .Al tO SW false],fn:= λ_=>none,rp:=some 106}
noncomputable abbrev de:MSpec:=yg z8 (λx=>(1<=x.1/\x.1<=20)/\List.length x.2.1<=4294967296/\ ∀o∈(x.2.1:List PO),∃g,o=some g/\Pm x.1.toNat g)
 (λx=>((x.1,(Nj x.1.toNat x.2.1).1,(Nj x.1.toNat x.2.1).2,()),()))
abbrev Ua:Type:=Int×List (List (Option (List Int)))×Int×List (List (Option (List Int)))×PUnit
theorem xT (n:Int) (gens:List (Option (List Int))) (P:(Int×List (List (Option (List Int)))×List (List (Option (List Int)))×Unit)×Unit->Prop):(((0:Int)<=n/\n<(↑Bg:Int)+(1:Int))/\n=n/\0=0/\(List.replicate n.toNat ([]:List (Option (List Int)))).length=(List.replicate n.toNat ([]:List (Option (List Int)))).length/\0=0/\0=([]:List Int).length/\Bi (λ(v3:Ua) (k4:Ua->Prop)=>Br (decide (v3.1<n)) (((0:Int)<=n/\n<(↑Bg:Int)+(1:Int))/\n=n/\ ∃(y5:Option (List Int)),Wu.fn (n,())=some y5/\((0:Int)<=v3.1/\v3.1<(↑(List.replicate n.toNat (none:Option (List Int))).length:Int))/\0+v3.1.toNat<(List.replicate n.toNat (none:Option (List Int))).length/\0=0/\(List.replicate n.toNat (none:Option (List Int))).length=((List.replicate n.toNat (none:Option (List Int))).set (0+v3.1.toNat) y5).length/\(0=0/\v3.2.2.2.1.length=v3.2.2.2.1.length)/\(0=0/\1= [(List.replicate n.toNat (none:Option (List Int))).set (0+v3.1.toNat) y5].length)/\0< [(List.replicate n.toNat (none:Option (List Int))).set (0+v3.1.toNat) y5].length/\v3.2.2.2.1.length+ [(List.replicate n.toNat (none:Option (List Int))).set (0+v3.1.toNat) y5].length<=Bg/\0=0/\v3.2.1.length=v3.2.1.length/\0=0/\(v3.2.2.2.1++ [(List.replicate n.toNat (none:Option (List Int))).set (0+v3.1.toNat) y5]).length=(v3.2.2.2.1++ [(List.replicate n.toNat (none:Option (List Int))).set (0+v3.1.toNat) y5]).length/\k4 (IntKind.i64.wrap (v3.1+(1:Int)),v3.2.1,v3.2.2.1,v3.2.2.2.1++ [(List.replicate n.toNat (none:Option (List Int))).set (0+v3.1.toNat) y5],())) (0=0/\v3.2.1.length=v3.2.1.length/\0=0/\v3.2.2.2.1.length=v3.2.2.2.1.length/\Bi (λ(v5:Ua) (k6:Ua->Prop)=>Br (decide (v5.1<(↑gens.length:Int))) (∃(y7:Option (List Int)),idx gens v5.1=some y7/\0=0/\v5.2.1.length=v5.2.1.length/\0=0/\v5.2.2.2.1.length=v5.2.2.2.1.length/\ ∃(y8:(Int×List (List (Option (List Int)))×List (List (Option (List Int)))×PUnit)×PUnit),tN.fn (v5.2.2.1,v5.2.1,v5.2.2.2.1,(0:Int),y7,())=some y8/\0=0/\y8.1.2.1.length=y8.1.2.1.length/\0=0/\y8.1.2.2.1.length=y8.1.2.2.1.length/\k6 (IntKind.i64.wrap (v5.1+(1:Int)),y8.1.2.1,y8.1.1,y8.1.2.2.1,())) ((0=0/\v5.2.1.length=v5.2.1.length)/\(0=0/\v5.2.2.2.1.length=v5.2.2.2.1.length)/\P ((v5.2.2.1,v5.2.1,v5.2.2.2.1,()),()))) ((0:Int),v3.2.1,v3.2.2.1,v3.2.2.2.1,PUnit.unit))) ((0:Int),List.replicate n.toNat ([]:List (Option (List Int))),n,[],PUnit.unit))=fnMW Ub (look [(41,Wu),(80,tN)]) de Tryz.f63 (n,gens,()) P:=by kernel_rfl
theorem Vw (n i:Nat):(Ta n).getD i []= []:=by
 unfold Ta
 rw [List.getD_eq_getElem?_getD,List.getElem?_replicate]
 split<;>rfl
theorem fY {n i:Nat} (h:i<n):(Xx n).getD i []=Zk n i:=by
 unfold Xx
 rw [List.getD_eq_getElem?_getD,List.getElem?_map,List.getElem?_range h]
 rfl
theorem iJ {n i y:Nat} (h:i<n):(Zk n i).getD y none=if i=y then some (upto n) else none:=by
 unfold Zk
 rw [Qo,List.length_replicate]
 by_cases e:i=y
 ·rw [if_pos ⟨e,h⟩,if_pos e]
 ·rw [if_neg (λhh=>e hh.1),if_neg e,List.getD_eq_getElem?_getD,List.getElem?_replicate]
  split<;>rfl
theorem oC {n:Nat} (h1:1<=n) (h2:n<=20): ∀(k l:Nat),l+k=n->fe n k l (Ta n,Xx n)
 |0,l,hk=>Vw n l
 |k+1,l,hk=>by
  have hl:l<n:=by omega
  have hg: ∀(g:List Int) (j:Nat),some g∈(Ta n).getD j []->False:= λg j hg=>by rw [Vw] at hg;cases hg
  refine ⟨oC h1 h2 k (l+1) (by omega),⟨λo ho=>?_,?_,?_,λy t e0=>?_,λy t g _ Zo=>(hg _ _ Zo).elim,λy t g t' _ Zo=>(hg _ _ Zo).elim⟩,λg Zo=>(hg _ _ Zo).elim⟩
  ·have ho:o∈(Ta n).getD l []:=ho
   rw [Vw] at ho;cases ho
  ·show ((Xx n).getD l []).length=n
   rw [fY hl];simp [Zk]
  ·show ((Xx n).getD l []).getD l none=_
   rw [fY hl,iJ hl,if_pos rfl]
  ·replace e0:((Xx n).getD l []).getD y none=some t:=e0
   rw [fY hl,iJ hl] at e0
   by_cases hy:l=y
   ·rw [if_pos hy] at e0
    have e1:=Option.some.inj e0
    subst e1 hy
    exact ⟨Pm.id h1 h2,λi hi=>eg (by omega),eg hl, .id⟩
   ·rw [if_neg hy] at e0;cases e0
theorem xu (n:Nat): ∀(k l:Nat),YF k l (Ta n,Xx n)
 |0,_=>trivial
 |k+1,l=>⟨xu n k (l+1),by show ((Ta n).getD l []).length<=_;rw [Vw];exact Nat.zero_le _⟩
theorem CX {n:Nat} (h1:1<=n) (h2:n<=20):V n n 0 (Ta n,Xx n):=⟨by simp [Ta],by simp [Xx],oC h1 h2 n 0 (by omega),xu n n 0⟩
def PmL (n:Nat) (gens:List PO):Prop:= ∀o∈gens,∃g,o=some g/\Pm n g
theorem uR {n:Nat} {gens:List PO} {j:Nat} (hj:j<gens.length):Nj n (gens.take (j+1))=Ds n 0 (gens[j].getD []) (Nj n (gens.take j)):=by
 unfold Nj
 rw [List.take_add_one,List.getElem?_eq_getElem hj,Option.toList_some,List.foldl_append]
 rfl
theorem j4 {n:Nat} (h1:1<=n) (h2:n<=20): ∀(gens:List PO) (s:Cy×Cy),PmL n gens->V n n 0 s->V n n 0 (gens.foldl (λs o=>Ds n 0 (o.getD []) s) s)/\
  Xf 0 s (gens.foldl (λs o=>Ds n 0 (o.getD []) s) s)/\(∀g,some g∈gens->Gn n ((gens.foldl (λs o=>Ds n 0 (o.getD []) s) s).1.getD 0 []) g)/\ ∀o∈(gens.foldl (λs o=>Ds n 0 (o.getD []) s) s).1.getD 0 [],o∈s.1.getD 0 []\/o∈gens
 | [],s,_,hv=>⟨hv,Xf.refl _ _,(λ_ hg=>by cases hg),λ_ ho=> .inl ho⟩
 |o::gens,s,hg,hv=>by
  obtain ⟨g,rfl,Qc⟩:=hg o (by simp)
  have ha:=s7 h1 h2 n 0 g s (by omega) hv Qc (λi hi=>absurd hi (Nat.not_lt_zero _))
  obtain ⟨a1,a2,a3,a4⟩:=j4 h1 h2 gens (Ds n 0 g s) (λo ho=>hg o (by simp [ho])) ha.v
  refine ⟨a1,ha.grow.trans a2 (Nat.le_refl _),λg' Zo=>?_,λo ho=>?_⟩
  ·rcases List.mem_cons.1 Zo with e|Zo
   ·cases e;exact ha.Aau.mono λg hg=>a2.BW _ _ hg
   ·exact a3 g' Zo
  ·rcases a4 o ho with h|h
   ·rcases ha.gens o h with h|h
    ·exact .inl h
    ·exact .inr (by simp [h])
   ·exact .inr (by simp [h])
theorem uQ {n:Nat} (h1:1<=n) (h2:n<=20) {gens:List PO} (hg:PmL n gens):V n n 0 (Nj n gens):=(j4 h1 h2 gens _ hg (CX h1 h2)).1
theorem mR {n:Nat} (h1:1<=n) (h2:n<=20) {gens:List PO} (hg:PmL n gens) {p:List Int} (hp:Pm n p):Ix (Nj n gens).2 n 0 p=true↔Gn n gens p:=by
 obtain ⟨a1,a2,a3,a4⟩:=j4 h1 h2 gens _ hg (CX h1 h2)
 have hS:BI n λg=>some g∈gens:=⟨⟨h1,h2⟩,λg Zo=>by obtain ⟨g',e,h⟩:=hg _ Zo;cases e;exact h⟩
 have Qq: ∀g,some g∈(Nj n gens).1.getD 0 []->some g∈gens:= λg Zo=>by
  rcases a4 _ Zo with h|h
  ·have h:some g∈(Ta n).getD 0 []:=h
   rw [Vw] at h;cases h
  ·exact h
 have YU:BI n λg=>some g∈(Nj n gens).1.getD 0 []:=⟨⟨h1,h2⟩,λg Zo=>hS.2 g (Qq g Zo)⟩
 refine (gP h1 h2 n 0 (Nj n gens) (by omega) a1.2.2.1 p hp λi hi=>absurd hi (Nat.not_lt_zero _)).trans ⟨λh=>h.mono Qq,λh=>h.trans YU λg Zo=>a3 g Zo⟩
theorem x5 (n:Int) (gens:List (Option (List Int))) (h:(1<=n/\n<=20)/\List.length gens<=4294967296/\ ∀o∈(gens:List PO),∃g,o=some g/\Pm n.toNat g):
  fnMW Ub (look [(41,Wu),(80,tN)]) de Tryz.f63 (n,gens,()) (λ(z:(Int×List (List (Option (List Int)))×List (List (Option (List Int)))×Unit)×Unit)=>z=((n,(Nj n.toNat gens).1,(Nj n.toNat gens).2,()),())):=by
 obtain ⟨⟨h1,h2⟩,h3,hg⟩:=h
 obtain ⟨N,rfl⟩: ∃N:Nat,n=N:=⟨n.toNat,by omega⟩
 rw [Int.toNat_natCast] at hg⊢
 have h1:1<=N:=by omega
 have h2:N<=20:=by omega
 refine Eq.mp (xT (N:Int) gens _) ?_
 have hm:((0:Int)<=(N:Int)/\(N:Int)<(Bg:Int)+1):=⟨by omega,by show (N:Int)<(4294967296:Int)+1;omega⟩
 simp only [hm,and_self,eq_self,true_and,Int.toNat_natCast,Nat.zero_add,List.length_nil,List.length_set,List.length_replicate,List.length_cons,Nat.lt_add_one,List.length_append]
 refine Ag N (λv=>v.1) (λj v=>v=((j:Int),Ta N,(N:Int),(List.range j).map (Zk N),())) rfl rfl ?_
 rintro j v K hj hi rfl hK
 dsimp only
 refine Br.dec (λhl=>?_) λhl=>?_
 ·refine ⟨_,if_pos ⟨by show (1:Int)<=N;omega,by show (N:Int)<=20;omega⟩,⟨by omega,by omega⟩,by rw [Int.toNat_natCast];omega,?_,?_⟩
  ·show _<=4294967296
   simp only [List.length_map,List.length_range]
   omega
  ·rw [Ah (by omega)]
   refine hK (by omega) _ rfl ?_
   rw [List.range_succ,List.map_append]
   rfl
 ·have:j=N:=by omega
  subst this
  refine Ag gens.length (λv=>v.1) (λi v=>v=((i:Int),(Nj j (gens.take i)).1,(j:Int),(Nj j (gens.take i)).2,())) rfl rfl ?_
  rintro i v K' oX Ajf rfl YS
  dsimp only
  refine Br.dec (λGq=>?_) λGq=>?_
  ·have Gq:i<gens.length:=by omega
   obtain ⟨g,pf,Qc⟩:=hg gens[i] (List.getElem_mem Gq)
   have hv:=uQ h1 h2 (gens:=gens.take i) λo ho=>hg o (List.mem_of_mem_take ho)
   refine ⟨_,Am Gq,_,if_pos ⟨j,0,g,pf,h1,h2,rfl,rfl,Nat.zero_le _,hv,Qc,λi hi=>absurd hi (Nat.not_lt_zero _)⟩,?_⟩
   rw [Ah (by omega)]
   refine YS Gq _ rfl ?_
   rw [uR Gq]
   simp only [Int.sub_zero,Int.toNat_natCast]
   rfl
  ·have:i=gens.length:=by omega
   subst this
   rw [List.take_length]
theorem lG:Bh Tryz.prog 63 de:=
 Bh.yg jV (Ae lB (Dt zZ Ak)) mixed Tryz.func63 (by kernel_rfl) (by kernel_rfl) λx h=>x5 x.1 x.2.1 h
end Go.Proofs.YtjbdmibbbpdnnaaGreat

namespace Go.Proofs.YtjbdmibbbpdnnaaGreat
open Go.RowKit
def Vo (T:Cy):Nat->Nat
 |0=>1
 |j+1=>Vo T j*(Hy (T.getD j [])).length
noncomputable abbrev dW:Spec:=Cv (.pair (.ptr ug) (.pair tI .unit)) tI false true (λx=>x.2.1=0/\ ∃N:Nat,(1<=N/\N<=20)/\x.1.1=N/\V N N 0 (x.1.2.1,x.1.2.2.1)) (λx=>(Vo x.1.2.2.1 x.1.1.toNat:Int))
noncomputable abbrev wb:MSpec:= {Hb:= [none,none],ins:= [(false, .Ee tI),(false, .Ee Zp)],Ej:=false,Gf:= [none,none,none],outs:= [.Ee tI, .Al tO SW false, .Al tO SW false],fn:= λ_=>none,rp:=some 106}
def Tm (n:Int) (g:List (List Int)):Cy×Cy:=Nj n.toNat (g.map some)
noncomputable abbrev Rb:MSpec:=yg wb (λx=>(1<=x.1/\x.1<=20)/\List.length x.2.1<=4294967296/\ ∀g∈(x.2.1:List (List Int)),Pm x.1.toNat g)
 (λx=>((x.1,(Tm x.1 x.2.1).1,(Tm x.1 x.2.1).2,()),()))
noncomputable def Pe (p:PP):Int:=if Bf p=true then (Vo (Tm p.1 p.2.2.1).2 p.1.toNat:Int) else 0
noncomputable abbrev Mb:Spec:=Cv (.pair Dn .unit) tI false true (λx=>Cf x.1) (λx=>Pe x.1)
theorem QO (c:Int×List (List (Option (List Int)))×List (List (Option (List Int)))×Unit) (l:Int) (P:Int->Prop):(Bi (λ(v3:Int×Int×PUnit) (k4:Int×Int×PUnit->Prop)=>Br (decide (v3.2.1<c.1)) (∃(y5:List (Option (List Int))),idx c.2.2.1 v3.2.1=some y5/\ ∃(y6:(List Int×PUnit)×PUnit),Kq.fn (y5,())=some y6/\ ∃(y7:Int),Ra.fn (List.take y6.1.1.length (List.drop 0 y6.1.1),())=some y7/\k4 (IntKind.i64.wrap (v3.1*y7),IntKind.i64.wrap (v3.2.1+(1:Int)),())) (P v3.1)) ((1:Int),l,PUnit.unit))=fnW Ub (look [(82,Kq),(81,Ra)]) dW Tryz.f64 (c,l,()) P:=by kernel_rfl
theorem uE (p:Int×ByteArray×List (List Int)×Unit) (P:Int->Prop):(∃(y2:Bool),Dw.fn ((p.1,p.2.1,p.2.2.1,()),())=some y2/\Br (!y2) (P (0:Int)) (∃(y3:(Int×List (List (Option (List Int)))×List (List (Option (List Int)))×PUnit)×PUnit),Rb.fn (p.1,p.2.2.1,())=some y3/\ ∃(y4:Int),dW.fn ((y3.1.1,List.take y3.1.2.1.length (List.drop 0 y3.1.2.1),List.take y3.1.2.2.1.length (List.drop 0 y3.1.2.2.1),()),(0:Int),())=some y4/\P y4))=fnW Cl (look [(46,Dw),(63,Rb),(64,dW)]) Mb Tryz.f40 (p,()) P:=by kernel_rfl
theorem QF (n i:Nat):(upto n).countP (λy=>decide ((i:Int)<=y))=n-i:=by
 induction n with
 |zero=>simp [upto]
 |succ n ih=>
  rw [Zm,List.countP_append,ih]
  simp only [List.countP_cons,List.countP_nil,decide_eq_true_eq]
  split<;>omega
theorem PE {n i:Nat} {gs:List PO} {row:Row} {H:List Int->Prop} (hi:i<n) (h:NJ n i gs row H):(Hy row).length<=n-i:=by
 rw [<-QF n i]
 unfold Hy
 rw [h.rl,<-List.countP_eq_length_filter]
 refine List.countP_mono_left λy hy hs=>?_
 obtain ⟨h1,h2⟩:=Ik.1 hy
 obtain ⟨t,ht⟩:=Option.isSome_iff_exists.1 hs
 obtain ⟨t1,t2,t3,_⟩:=h.rt _ _ ht
 refine decide_eq_true ?_
 refine Classical.byContradiction λhn=>?_
 have hy':y.toNat<i:=by omega
 have:=t1.inj hi (by omega:y.toNat<n) (by rw [t3,t2 _ hy'])
 omega
def fact:Nat->Nat
 |0=>1
 |n+1=>(n+1)*fact n
theorem vK: ∀n,1<=fact n
 |0=>Nat.le_refl _
 |n+1=>by have:=vK n;simp only [fact];exact Nat.le_trans this (Nat.le_mul_of_pos_left _ (by omega))
theorem DP {a b:Nat} (h:a<=b):fact a<=fact b:=by
 induction h with
 |refl=>exact Nat.le_refl _
 |step _ ih=>simp only [fact];exact Nat.le_trans ih (Nat.le_mul_of_pos_left _ (by omega))
theorem KV {n:Nat} {s:Cy×Cy} (hc:fe n n 0 s): ∀j,j<=n->Vo s.2 j*fact (n-j)<=fact n
 |0,_=>by simp [Vo]
 |j+1,hj=>by
  have ih:=KV hc j (by omega)
  have h1:=PE (by omega) (gx n 0 hc j (by omega) (by omega))
  have e:n-j=(n-(j+1))+1:=by omega
  simp only [Vo]
  rw [e] at ih h1
  simp only [fact] at ih
  rw [Nat.mul_assoc]
  exact Nat.le_trans (Nat.mul_le_mul_left _ (Nat.mul_le_mul_right _ h1)) ih
theorem EV {n:Nat} (h2:n<=20) {s:Cy×Cy} (hc:fe n n 0 s) {j:Nat} (hj:j<=n):Vo s.2 j<=2432902008176640000:=by
 have h1:=KV hc j hj
 have h3:=vK (n-j)
 have h4:fact n<=2432902008176640000:=Nat.le_trans (DP h2) (by decide)
 have h5:Vo s.2 j*1<=Vo s.2 j*fact (n-j):=Nat.mul_le_mul_left _ h3
 omega
theorem PQ (c:Int×List (List (Option (List Int)))×List (List (Option (List Int)))×Unit) (l:Int) (h:l=0/\ ∃N:Nat,(1<=N/\N<=20)/\c.1=N/\V N N 0 (c.2.1,c.2.2.1)):
  fnW Ub (look [(82,Kq),(81,Ra)]) dW Tryz.f64 (c,l,()) (λ(z:Int)=>z=(Vo c.2.2.1 c.1.toNat:Int)):=by
 obtain ⟨rfl,N,⟨h1,h2⟩,hN,v⟩:=h
 obtain ⟨n,G,T,⟨⟩⟩:=c
 dsimp only at hN v⊢
 subst hN
 refine Eq.mp (QO ((N:Int),G,T,()) 0 _) ?_
 obtain ⟨v1,v2,v3,v4⟩:=v
 dsimp only at v1 v2⊢
 rw [Int.toNat_natCast]
 refine Ag N (λv=>v.2.1) (λj v=>v.1=(Vo T j:Int)) rfl rfl ?_
 rintro j ⟨o,i,⟨⟩⟩ K hj hi ho hK
 dsimp only at hi ho⊢
 subst hi ho
 refine Br.dec (λhl=>?_) λhl=>?_
 ·have hl:j<N:=by omega
  have hT:j<T.length:=by omega
  have Tt:=gx N 0 v3 j (by omega) (by omega)
  have hrl:=Tt.rl
  dsimp only at hrl
  rw [vR hT] at hrl
  refine ⟨_,Am hT,_,if_pos (by show (T[j]).length<=20;omega),_,if_pos trivial,?_⟩
  rw [List.drop_zero,List.take_length,Ah (by omega)]
  have hb:=EV h2 v3 (j:=j+1) (by omega)
  simp only [Vo] at hb
  rw [vR hT] at hb
  have e:(Vo T j:Int)*((Hy T[j]).length:Int)=((Vo T j*(Hy T[j]).length:Nat):Int):=by push_cast;rfl
  show K (IntKind.i64.wrap ((Vo T j:Int)*((Hy T[j]).length:Int)),_,())
  rw [e,Ca (by omega) (by omega)]
  refine hK hl _ rfl ?_
  simp only [Vo]
  rw [vR hT]
 ·have:j=N:=by omega
  subst this
  rfl
theorem xt:Sound Tryz.prog 64 dW:=
 Sound.Cv jV (Dt eP (Ae fW Ak)) mixed Tryz.func64 (by kernel_rfl) (by kernel_rfl) λx h=>PQ x.1 x.2.1 h
theorem Cells.told {w:World} {S:Nat->Prop} {e:Ty} {cs:List Value} {xs:List e.den} (h:Cells w S (.slice e) cs xs): ∃o:Option (List e.den),Cells w S (.oslice e) cs o/\o.getD []=xs:=by
 simp only [Cells] at h
 obtain ⟨a,len,cap,rfl,h1,h2,h3⟩:=h
 cases a with
 |none=>
  rcases h3 with rfl|⟨g,o,h,_⟩
  ·refine ⟨none,?_,rfl⟩
   simp only [Cells]
   exact .inl ⟨trivial,cap,by rw [h1];rfl⟩
  ·cases h
 |some ad=>
  refine ⟨some xs,?_,rfl⟩
  simp only [Cells]
  exact .inr ⟨xs,ad,len,cap,rfl,rfl,h1,h2,h3.imp id λ⟨g,o,h,h4⟩=>⟨g,o,Option.some.inj h,h4⟩⟩
theorem yk {α β:Type} (Q:Nat->α->β->Prop): ∀(xs:List α),(∀i x,xs[i]?=some x-> ∃y,Q i x y)-> ∃ys:List β,ys.length=xs.length/\ ∀i x y,xs[i]?=some x->ys[i]?=some y->Q i x y:=by
 intro xs h
 refine ⟨List.ofFn λi:Fin xs.length=>Classical.choose (h i xs[i] (List.getElem?_eq_getElem i.2)),by simp,λi x y h1 h2=>?_⟩
 obtain ⟨hi,rfl⟩:=List.getElem?_eq_some_iff.1 h1
 obtain ⟨oX,rfl⟩:=List.getElem?_eq_some_iff.1 h2
 rw [List.getElem_ofFn]
 exact Classical.choose_spec (h i xs[i] (List.getElem?_eq_getElem hi))
theorem Bd.Abn {w:World} {S:Nat->Prop} {e:Ty} {v:Value} {xs:List (List e.den)} (h:Bd w S (.slice (.slice e)) v xs): ∃os:List (Option (List e.den)),Bd w S (.slice (.oslice e)) v os/\os.map (·.getD [])=xs:=by
 obtain ⟨cs,hc,rfl⟩:=h
 simp only [Cells] at hc
 obtain ⟨a,len,cap,rfl,h1,h2,h3⟩:=hc
 rcases h3 with rfl|⟨g,o,rfl,hg,hS,h4⟩
 ·refine ⟨[],⟨_,?_,rfl⟩,rfl⟩
  simp only [Cells]
  exact ⟨a,len,cap,rfl,h1,h2, .inl trivial⟩
 ·obtain ⟨os,e1,e2⟩:=yk (λi (x:List e.den) (y:Option (List e.den))=>y.getD []=x/\ ∃es:List Value,es.length=1/\(∀j u,es[j]?=some u->w.cell? ⟨g,o+i*1+j,none⟩=some u)/\Cells w S (.oslice e) es y) xs λi x hx=>by
   obtain ⟨es,k1,k2,k3⟩:=h4 i x hx
   obtain ⟨y,k4,k5⟩:=Cells.told (e:=e) (by simp only [Cells];exact k3)
   exact ⟨y,k5,es,k1,k2,k4⟩
  refine ⟨os,⟨_,?_,rfl⟩,?_⟩
  ·simp only [Cells]
   refine ⟨_,len,cap,rfl,by rw [h1,e1],h2, .inr ⟨g,o,rfl,hg,hS,λi y hy=>?_⟩⟩
   obtain ⟨hi,_⟩:=List.getElem?_eq_some_iff.1 hy
   obtain ⟨_,es,k1,k2,k3⟩:=e2 i _ y (List.getElem?_eq_getElem (by omega)) hy
   simp only [Cells] at k3
   exact ⟨es,k1,k2,k3⟩
  ·refine List.ext_getElem (by simp [e1]) λi g1 g2=>?_
   rw [List.getElem_map]
   exact (e2 i _ _ (List.getElem?_eq_getElem g2) (List.getElem?_eq_getElem (by omega))).1
theorem od:Bh Tryz.prog 63 Rb:=by
 have h:=lG
 refine ⟨h.enter,λw S π us x r o g vs h1 hg h2 h3 hS h4 h5=>?_⟩
 obtain ⟨n,gens,⟨⟩⟩:=x
 match us,h2 with
 |u1::u2::us,h2=>
  obtain ⟨h6,⟨h7,h8⟩,h9⟩:=h2
  obtain ⟨os,kr,ew⟩:=Bd.Abn (e:=tI) h8
  have ew:os.map (·.getD [])=(gens:List (List Int)):=ew
  have fG:(1<=n/\n<=20)/\List.length gens<=4294967296/\ ∀g∈(gens:List (List Int)),Pm n.toNat g:=Classical.byContradiction λhn=>by
   have:Rb.fn (n,gens,())=none:=if_neg hn
   rw [this] at h5;cases h5
  have hos:os=gens.map some:=by
   rw [<-ew,List.map_map]
   refine (List.map_id os).symm.trans (List.map_congr_left λx hx=>?_)
   cases x with
   |some y=>rfl
   |none=>
    have:=fG.2.2 [] (by rw [<-ew];exact List.mem_map.2 ⟨none,hx,rfl⟩)
    have h1:=this.n1
    have h2:=this.1
    simp at h2
    omega
  have hv:Rb.fn (n,gens,())=some ((n,(Tm n gens).1,(Tm n gens).2,()),()):=if_pos fG
  rw [hv] at h5
  have h5:=Option.some.inj h5
  refine h.calls w S π (u1::u2::us) (n,os,()) r o g vs h1 hg ⟨h6,⟨h7,kr⟩,h9⟩ h3 hS h4 ?_
  refine (if_pos ⟨fG.1,by rw [hos,List.length_map];exact fG.2.1,λy hy=>?pp⟩).trans (congrArg some ?qq)
  case pp=>
   replace hy:y∈os:=hy
   rw [hos] at hy
   obtain ⟨g,hg,rfl⟩:=List.mem_map.1 hy
   exact ⟨g,rfl,fG.2.2 g hg⟩
  case qq=>subst hos;exact h5
theorem gu {p:PP} (hv:Valid p):(1<=p.1/\p.1<=20)/\List.length p.2.2.1<=4294967296/\ ∀g∈p.2.2.1,Pm p.1.toNat g:=
 ⟨hv.n,by have:=hv.lf;omega,λg hg=>⟨by have:=hv.len g hg;omega,jB (hv.perm g hg)⟩⟩
theorem nO {n:Nat} {g:List (List Int)} (h: ∀x∈g,Pm n x):PmL n (g.map some):= λo ho=>by
 obtain ⟨x,hx,rfl⟩:=List.mem_map.1 ho
 exact ⟨x,rfl,h x hx⟩
theorem sl {p:PP} (hv:Valid p):V p.1.toNat p.1.toNat 0 (Tm p.1 p.2.2.1):=by
 have:=hv.n
 exact uQ (by omega) (by omega) (nO (gu hv).2.2)
theorem tw (p:PP) (h:Cf p):fnW Cl (look [(46,Dw),(63,Rb),(64,dW)]) Mb Tryz.f40 (p,()) (λ(z:Int)=>z=Pe p):=by
 refine Eq.mp (uE p _) ⟨_,if_pos h,?_⟩
 show Br (!Bf p) _ _
 unfold Pe
 cases hv:Bf p with
 |false=>exact Br.of (λ_=>rfl) λhh=>by cases hh
 |true=>
  refine Br.of (λhh=>by cases hh) λ_=>?_
  have hV:=valid hv
  have hn:=hV.n
  refine ⟨_,if_pos (gu hV),_,if_pos ⟨rfl,p.1.toNat,⟨by omega,by omega⟩,(Int.toNat_of_nonneg (by omega:(0:Int)<=p.1)).symm,?vv⟩,?_⟩
  case vv=>
   simp only [List.drop_zero,List.take_length]
   exact sl hV
  simp only [List.drop_zero,List.take_length]
  exact (if_pos trivial).symm
theorem jS:Sound Tryz.prog 40 Mb:=
 Sound.Cv Bk (Ae Rg (Dt od (Ae xt Ak))) mixed Tryz.func40 (by kernel_rfl) (by kernel_rfl) λx h=>tw x.1 h
end Go.Proofs.YtjbdmibbbpdnnaaGreat

namespace Go.Proofs.YtjbdmibbbpdnnaaGreat
open Go.RowKit
theorem cK {α:Type} [DecidableEq α]: ∀ {l1 l2:List α},l1.Nodup->(∀x∈l1,x∈l2)->l1.length<=l2.length
 | [],_,_,_=>Nat.zero_le _
 |a::l,l2,hn,hs=>by
  obtain ⟨h1,h2⟩:=List.nodup_cons.1 hn
  have ha:=hs a (by simp)
  have:=cK (l1:=l) (l2:=l2.erase a) h2 λy hy=>by
   have hya:y≠a:= λe'=>h1 (by rw [<-e'];exact hy)
   exact (List.mem_erase_of_ne hya).2 (hs y (by simp [hy]))
  rw [List.length_erase_of_mem ha] at this
  have:=List.length_pos_of_mem ha
  simp only [List.length_cons]
  omega
def jt (n:Nat) (T:Cy):Nat->Nat->List (List Int)
 |0,_=> [upto n]
 |k+1,l=>(Hy (T.getD l [])).flatMap λy=>(jt n T k (l+1)).map λq=>Aa q (((T.getD l []).getD y.toNat none).getD [])
def rk (T:Cy):Nat->Nat->Nat
 |0,_=>1
 |k+1,l=>(Hy (T.getD l [])).length*rk T k (l+1)
theorem wF (n:Nat) (T:Cy): ∀k l,(jt n T k l).length=rk T k l
 |0,_=>rfl
 |k+1,l=>by
  simp only [jt,rk,List.length_flatMap,List.length_map,wF n T k (l+1)]
  generalize Hy (T.getD l [])=o
  induction o with
  |nil=>simp
  |cons a o ih=>simp only [List.map_cons,List.sum_cons,ih,List.length_cons,Nat.succ_mul];omega
theorem r7 (T:Cy): ∀k j,Vo T (j+k)=Vo T j*rk T k j
 |0,j=>by simp [rk]
 |k+1,j=>by
  have:=r7 T k (j+1)
  rw [show j+(k+1)=j+1+k by omega,this]
  simp only [Vo,rk]
  rw [Nat.mul_assoc]
theorem wS (n:Nat) (T:Cy):(jt n T n 0).length=Vo T n:=by
 rw [wF,show Vo T n=Vo T (0+n) by rw [Nat.zero_add],r7]
 simp [Vo]
theorem nv {n:Nat} (h1:1<=n) (h2:n<=20) {s:Cy×Cy} : ∀(k l:Nat),l+k=n->fe n k l s-> ∀p,p∈jt n s.2 k l↔Pm n p/\Fx l p/\Ix s.2 k l p=true
 |0,l,hk,hc,p=>by
  have hl:l=n:=by omega
  subst hl
  simp only [jt,List.mem_singleton]
  exact ⟨λe=>by subst e;exact ⟨Pm.id h1 h2,λi hi=>eg hi,rfl⟩,λh=>h.2.1.all h.1⟩
 |k+1,l,hk,hc,p=>by
  obtain ⟨c1,c2,c3⟩:=hc
  have ih:=nv h1 h2 k (l+1) (by omega) c1
  have bh:l<n:=by omega
  simp only [jt,List.mem_flatMap,List.mem_map]
  constructor
  ·rintro ⟨y,hy,q,hq,rfl⟩
   obtain ⟨yn,rfl,SJ⟩:=Nd.1 hy
   obtain ⟨t,ht⟩:=Option.ne_none_iff_exists'.1 SJ
   obtain ⟨t1,t2,t3,t4⟩:=c2.rt _ _ ht
   obtain ⟨q1,q2,q3⟩:=(ih q).1 hq
   rw [Int.toNat_natCast,ht,Option.getD_some]
   have hap:ap (Aa q t) l=yn:=by rw [Fy q1 t1 bh,q2 l (by omega),t3]
   refine ⟨q1.comp t1,λi hi=>by rw [Fy q1 t1 (by omega),q2 i (by omega),t2 i hi],?_⟩
   simp only [Ix]
   rw [show (Ji (Aa q t) (l:Int)).toNat=ap (Aa q t) l from rfl,hap,ht]
   show Ix s.2 k (l+1) (Aa (Aa q t) (Ao t))=true
   rw [Ed q1 t1 t1.inv,c5 t1,comp_id q1]
   exact q3
  ·rintro ⟨p1,p2,p3⟩
   simp only [Ix] at p3
   rw [show (Ji p (l:Int)).toNat=ap p l from rfl] at p3
   split at p3
   ·cases p3
   ·rename_i t ht
    obtain ⟨t1,t2,t3,t4⟩:=c2.rt _ _ ht
    refine ⟨(ap p l:Int),Nd.2 ⟨ap p l,rfl,by rw [ht];simp⟩,Aa p (Ao t),(ih _).2 ⟨p1.comp t1.inv,Fx.div p1 t1 p2 t2 bh t3,p3⟩,?_⟩
    rw [Int.toNat_natCast,ht,Option.getD_some,Ed p1 t1.inv t1,Vg t1,comp_id p1]
theorem nw {n:Nat} (h1:1<=n) (h2:n<=20) {s:Cy×Cy} : ∀(k l:Nat),l+k=n->fe n k l s->(jt n s.2 k l).Nodup
 |0,l,hk,hc=>by simp [jt]
 |k+1,l,hk,hc=>by
  obtain ⟨c1,c2,c3⟩:=hc
  have ih:=nw h1 h2 k (l+1) (by omega) c1
  have hm:=nv h1 h2 k (l+1) (by omega) c1
  have bh:l<n:=by omega
  have rep: ∀y∈Hy (s.2.getD l []),∃(yn:Nat) (t:List Int),y=yn/\((s.2.getD l []).getD y.toNat none).getD []=t/\Pm n t/\ap t l=yn:= λy hy=>by
   obtain ⟨yn,rfl,SJ⟩:=Nd.1 hy
   obtain ⟨t,ht⟩:=Option.ne_none_iff_exists'.1 SJ
   obtain ⟨t1,t2,t3,t4⟩:=c2.rt _ _ ht
   exact ⟨yn,t,rfl,by rw [Int.toNat_natCast,ht];rfl,t1,t3⟩
  simp only [jt]
  refine List.pairwise_flatMap.2 ⟨λy hy=>?_,?_⟩
  ·obtain ⟨yn,t,rfl,e,t1,t3⟩:=rep y hy
   rw [e]
   refine List.pairwise_map.2 (List.Pairwise.imp_of_mem ?_ ih)
   intro a b ha hb Fc he
   have ha:=((hm a).1 ha).1
   have hb:=((hm b).1 hb).1
   have h3:=congrArg (λz=>Aa z (Ao t)) he
   simp only [Ed ha t1 t1.inv,Ed hb t1 t1.inv,c5 t1,comp_id ha,comp_id hb] at h3
   exact Fc h3
  ·refine List.Pairwise.imp_of_mem ?_ ((oO _).filter _)
   intro y z hy hz Fc a ha b hb he
   obtain ⟨yn,t,rfl,e,t1,t3⟩:=rep y hy
   obtain ⟨zn,u,rfl,e',u1,u3⟩:=rep z hz
   rw [e] at ha
   rw [e'] at hb
   obtain ⟨q,hq,rfl⟩:=List.mem_map.1 ha
   obtain ⟨q',eA,rfl⟩:=List.mem_map.1 hb
   obtain ⟨a1,a2,_⟩:=(hm q).1 hq
   obtain ⟨b1,b2,_⟩:=(hm q').1 eA
   have h3:=congrArg (λz=>ap z l) he
   simp only [Fy a1 t1 bh,Fy b1 u1 bh,a2 l (by omega),b2 l (by omega),t3,u3] at h3
   exact Fc (by rw [h3])
theorem j6 {g:List (List Int)} (Q:List Int->Prop) {x:List Int} {d:Int} : ∀(ls:List Int) (L:List (List Int)) (D:List Int),(∀l∈ls,Q (Aa x (Af g l)))->(∀y∈L,Q y)->
  (∀y∈(Ec g x d ls L D).1,Q y)/\(∀y∈L,y∈(Ec g x d ls L D).1)/\((Ec g x d ls L D).2.2=true-> ∀l∈ls,Aa x (Af g l)∈(Ec g x d ls L D).1)/\
   ((Ec g x d ls L D).2.2=false->(Ec g x d ls L D).1.length=3000/\ ∃z,Q z/\z∉(Ec g x d ls L D).1)
 | [],L,D,_,h=>⟨h,λ_ h=>h,(λ_ l hl=>by cases hl),(λe=>by cases e)⟩
 |l::ls,L,D,hq,h=>by
  have eA: ∀l∈ls,Q (Aa x (Af g l)):= λl' h'=>hq l' (List.mem_cons_of_mem _ h')
  simp only [Ec]
  split
  ·rename_i hm
   obtain ⟨a1,a2,a3,a4⟩:=j6 Q (d:=d) ls L D eA h
   refine ⟨a1,a2,λe l' Gq=>?_,a4⟩
   rcases List.mem_cons.1 Gq with rfl|Gq
   ·exact a2 _ hm
   ·exact a3 e l' Gq
  ·rename_i hn
   split
   ·rename_i hf
    exact ⟨h,λ_ h=>h,(λe=>by cases e),λ_=>⟨hf,_,hq l (by simp),hn⟩⟩
   ·obtain ⟨a1,a2,a3,a4⟩:=j6 Q (d:=d) ls (L++ [Aa x (Af g l)]) (D++ [d+1]) eA λy hy=>by
     rcases List.mem_append.1 hy with hy|hy
     ·exact h y hy
     ·rw [List.mem_singleton.1 hy];exact hq l (by simp)
    refine ⟨a1,λy hy=>a2 y (List.mem_append_left _ hy),λe l' Gq=>?_,a4⟩
    rcases List.mem_cons.1 Gq with rfl|Gq
    ·exact a2 _ (List.mem_append_right _ (by simp))
    ·exact a3 e l' Gq
theorem qp {p:PP} (hV:Valid p) {m:Nat} {ls:List Int} (hl: ∀l∈ls,Gx (List.length p.2.2.1) l) (Q:List Int->Prop) (hQ: ∀x,Q x-> ∀l∈ls,Q (Aa x (Af p.2.2.1 l))):
  ∀(f k:Nat) (L:List (List Int)) (D:List Int),3001<=f+k->k<=L.length->Mr p m L D->(∀y∈L,Q y)->(∀(j:Nat) (h:j<L.length),j<k-> ∀l∈ls,Aa L[j] (Af p.2.2.1 l)∈L)->
  (∀y∈(Fl p.2.2.1 ls f k L D).1,Q y)/\((Fl p.2.2.1 ls f k L D).2.2=true-> ∀x∈(Fl p.2.2.1 ls f k L D).1,∀l∈ls,Aa x (Af p.2.2.1 l)∈(Fl p.2.2.1 ls f k L D).1)/\
   ((Fl p.2.2.1 ls f k L D).2.2=false->(Fl p.2.2.1 ls f k L D).1.length=3000/\ ∃z,Q z/\z∉(Fl p.2.2.1 ls f k L D).1)
 |0,k,L,D,hf,JG,hb,hq,hc=>by
  have:=hb.ok.lf
  omega
 |f+1,k,L,D,hf,JG,hb,hq,hc=>by
  simp only [Fl]
  split
  ·rename_i hk
   have vY:k<D.length:=by rw [hb.len];exact hk
   have hd:=hb.dep k vY
   have e:D.getD k 0=D[k]:=by rw [List.getD_eq_getElem?_getD,List.getElem?_eq_getElem vY];rfl
   rw [Mv hk,e]
   obtain ⟨k1,⟨A,k2⟩,_⟩:=gp hV (hb.row _ (List.getElem_mem hk)) (hb.ok.len _ (List.getElem_mem hk)) (d:=D[k]) ls L D hl hb ⟨by omega,by omega⟩
   obtain ⟨a1,a2,a3,a4⟩:=j6 (g:=p.2.2.1) Q (x:=L[k]) (d:=D[k]) ls L D (hQ _ (hq _ (List.getElem_mem hk))) hq
   split
   ·rename_i L' D' he
    rw [he] at k1 k2 a1 a2 a3 a4
    have k2:L'=L++A:=k2
    refine qp hV hl Q hQ f (k+1) L' D' (by omega) (by rw [k2,List.length_append];omega) k1 a1 λj hj hjk l Gq=>?_
    by_cases e':j<k
    ·have e2:L'[j]=L[j]:=by simp only [k2];rw [List.getElem_append_left (by omega)]
     rw [e2];exact a2 _ (hc j (by omega) e' l Gq)
    ·have:j=k:=by omega
     subst this
     have e2:L'[j]=L[j]:=by simp only [k2];rw [List.getElem_append_left (by omega)]
     rw [e2];exact a3 rfl l Gq
   ·rename_i L' D' he
    rw [he] at a1 a4
    exact ⟨a1,(λe=>by cases e),λ_=>a4 rfl⟩
  ·rename_i hk
   refine ⟨hq,λ_ x hx l Gq=>?_,λe=>by cases e⟩
   obtain ⟨j,hj,rfl⟩:=List.mem_iff_getElem.1 hx
   have hj:j<L.length:=hj
   exact hc j hj (by omega) l Gq
theorem BN {p:PP} (hv:Bf p=true) {s:List Int} (hs:s.length<=20) (hr: ∀y∈s,0<=y/\y<p.1) (Q:List Int->Prop) (hQs:Q s) (hQ: ∀x,Q x-> ∀l∈Aw p.2.2.1.length,Q (Aa x (Af p.2.2.1 l))):
  (∀y∈(Cu p.2.2.1 s).1,Q y)/\((Cu p.2.2.1 s).2.2=true-> ∀x∈(Cu p.2.2.1 s).1,∀l∈Aw p.2.2.1.length,Aa x (Af p.2.2.1 l)∈(Cu p.2.2.1 s).1)/\
   ((Cu p.2.2.1 s).2.2=false->(Cu p.2.2.1 s).1.length=3000/\ ∃z,Q z/\z∉(Cu p.2.2.1 s).1):=
 qp (valid hv) (λ_ hl=>Ju hl) Q hQ 3001 0 [s] [0] (by omega) (Nat.zero_le _) (Yc hs hr) (λy hy=>by rw [List.mem_singleton.1 hy];exact hQs) λj _ hj=>absurd hj (Nat.not_lt_zero _)
theorem iA {g:List (List Int)} {x:List Int} :some x∈g.map some↔x∈g:=by simp
theorem ze {n:Nat} {g:List (List Int)} {x:List Int} (h:Gn n (g.map some) x) {l:Int} (hl:l∈Aw g.length):Gn n (g.map some) (Aa x (Af g l)):=by
 obtain ⟨k,hk,rfl|rfl⟩:=Pd (Ju hl)
 ·rw [Nm hk];exact .mul h (iA.2 (List.getElem_mem hk))
 ·rw [Nl hk];exact .inv h (iA.2 (List.getElem_mem hk))
theorem Wq {n k:Nat} (hk:k<n):(k:Int)+1∈Aw n/\ -((k:Int)+1)∈Aw n:=by
 unfold Aw
 exact ⟨List.mem_flatMap.2 ⟨k,List.mem_range.2 hk,by simp⟩,List.mem_flatMap.2 ⟨k,List.mem_range.2 hk,by simp⟩⟩
theorem yK {n:Nat} {g:List (List Int)} {L:List (List Int)} (h0:upto n∈L) (hc: ∀x∈L,∀l∈Aw g.length,Aa x (Af g l)∈L) {p:List Int} (hp:Gn n (g.map some) p):p∈L:=by
 induction hp with
 |id=>exact h0
 |mul _ hg ih=>
  obtain ⟨k,hk,rfl⟩:=List.mem_iff_getElem.1 (iA.1 hg)
  have:=hc _ ih _ (Wq hk).1
  rwa [Nm hk] at this
 |inv _ hg ih=>
  obtain ⟨k,hk,rfl⟩:=List.mem_iff_getElem.1 (iA.1 hg)
  have:=hc _ ih _ (Wq hk).2
  rwa [Nl hk] at this
structure Reach (p:PP) (L:List (List Int)) (D:List Int) (whole:Bool):Prop where
 ok:Mr p p.1.toNat L D
 nodup:L.Nodup
 first: ∃A,L=upto p.1.toNat::A
 gen: ∀x∈L,Gn p.1.toNat (p.2.2.1.map some) x
 all:whole=true-> ∀x,Gn p.1.toNat (p.2.2.1.map some) x->x∈L
 big:whole=false->L.length=3000/\ ∃z,Gn p.1.toNat (p.2.2.1.map some) z/\z∉L
theorem Dl.nodup {m:Nat} {L:List (List Int)} {Hv:List Int} (h:Dl m L Hv):L.Nodup:=
 List.pairwise_iff_getElem.2 λi j hi hj iW e=>by have:=h.inj hi hj e;omega
theorem cV {p:PP} (hv:Bf p=true):Reach p (Cu p.2.2.1 (upto p.1.toNat)).1 (Cu p.2.2.1 (upto p.1.toNat)).2.1 (Cu p.2.2.1 (upto p.1.toNat)).2.2:=by
 have hV:=valid hv
 have hn:=hV.n
 have hl:(upto p.1.toNat).length=p.1.toNat:=Px _
 have hr: ∀y∈upto p.1.toNat,0<=y/\y<p.1:= λy hy=>by have:=Ik.1 hy;omega
 obtain ⟨b1,b2⟩:=se hv (by omega) hr
 rw [hl] at b1
 obtain ⟨a1,a2,a3⟩:=BN hv (by omega) hr (λx=>Gn p.1.toNat (p.2.2.1.map some) x) .id λx hx l hl=>ze hx hl
 exact ⟨b1,b1.ok.nodup,b2,a1,λhw x hx=>yK (by obtain ⟨A,e⟩:=b2;rw [e];simp) (a2 hw) hx,a3⟩
theorem Wr {p:PP} (hV:Valid p) {x:List Int} :x∈jt p.1.toNat (Tm p.1 p.2.2.1).2 p.1.toNat 0↔Gn p.1.toNat (p.2.2.1.map some) x:=by
 have hn:=hV.n
 have hg:=nO (gu hV).2.2
 have hS:BI p.1.toNat λg=>some g∈p.2.2.1.map some:=⟨⟨by omega,by omega⟩,λg Zo=>by obtain ⟨g',e,h⟩:=hg _ Zo;cases e;exact h⟩
 refine (nv (by omega) (by omega) _ 0 (by omega) (sl hV).2.2.1 x).trans ⟨λh=>(mR (by omega) (by omega) hg h.1).1 h.2.2,λh=>?_⟩
 have hp:=Ya.pm hS h
 exact ⟨hp,λi hi=>absurd hi (Nat.not_lt_zero _),(mR (by omega) (by omega) hg hp).2 h⟩
theorem pz {p:PP} (hV:Valid p):(jt p.1.toNat (Tm p.1 p.2.2.1).2 p.1.toNat 0).Nodup:=by
 have hn:=hV.n
 exact nw (by omega) (by omega) _ 0 (by omega) (sl hV).2.2.1
theorem count_eq {p:PP} (hv:Bf p=true):Pe p=((jt p.1.toNat (Tm p.1 p.2.2.1).2 p.1.toNat 0).length:Int):=by
 unfold Pe
 rw [if_pos hv,wS]
theorem vB {p:PP} (hv:Bf p=true):(Cu p.2.2.1 (upto p.1.toNat)).2.2=decide (1<=Pe p/\Pe p<=3000):=by
 have hV:=valid hv
 have h:=cV hv
 rw [count_eq hv]
 have HT:=pz hV
 have h1:=cK h.nodup λx hx=>(Wr hV).2 (h.gen x hx)
 obtain ⟨A,hA⟩:=h.first
 have yU:1<=(Cu p.2.2.1 (upto p.1.toNat)).1.length:=by rw [hA];simp
 cases hw:(Cu p.2.2.1 (upto p.1.toNat)).2.2 with
 |true=>
  have h2:=cK HT λx hx=>h.all hw x ((Wr hV).1 hx)
  have h3:=h.ok.ok.lf
  exact (decide_eq_true ⟨by omega,by omega⟩).symm
 |false=>
  obtain ⟨h2,z,h3,h4⟩:=h.big hw
  have h5:=cK (l1:=z::(Cu p.2.2.1 (upto p.1.toNat)).1) (List.nodup_cons.2 ⟨h4,h.nodup⟩) λx hx=>by
   rcases List.mem_cons.1 hx with rfl|hx
   ·exact (Wr hV).2 h3
   ·exact (Wr hV).2 (h.gen x hx)
  simp only [List.length_cons] at h5
  exact (decide_eq_false (by omega)).symm
end Go.Proofs.YtjbdmibbbpdnnaaGreat

namespace Go.Proofs.YtjbdmibbbpdnnaaGreat
open Go.RowKit
def sZ (g:List (List Int)) (s:List Int):List (List Int):=(Aw g.length).map λl=>Aa s (Af g l)
noncomputable abbrev dV:Spec:=Cv (.pair Dn (.pair tL .unit)) Zp false true (λx=>Bf x.1=true/\List.length x.2.1<=20/\ ∀y∈x.2.1,0<=y/\y<x.1.1) (λx=>sZ x.1.2.2.1 x.2.1)
abbrev EX:Type:=List (List Int)×List Int×List Int×List Int
def mJ (g:List (List Int)) (k:Int) (x:List Int) (d:Int):List Int->EX->List Int->EX×List Int
 | [],s,row=>(s,row)
 |l::ls,s,row=>if Aa x (Af g l)∈s.1 then mJ g k x d ls s (row++ [(s.1.idxOf (Aa x (Af g l)):Int)])
  else mJ g k x d ls (s.1++ [Aa x (Af g l)],s.2.1++ [d+1],s.2.2.1++ [k],s.2.2.2++ [l]) (row++ [(s.1.length:Int)])
def pd (g:List (List Int)) (ls:List Int):Nat->Nat->EX->List (List Int)->EX×List (List Int)
 |0,_,s,N=>(s,N)
 |f+1,k,s,N=>if k<s.1.length then pd g ls f (k+1) (mJ g (k:Int) (s.1.getD k []) (s.2.1.getD k 0) ls s []).1 (N++ [(mJ g (k:Int) (s.1.getD k []) (s.2.1.getD k 0) ls s []).2]) else (s,N)
def cC (key:ByteArray):List (List Int)->Nat->Option Int
 | [],_=>none
 |x::r,i=>if Ij x=key then some (i:Int) else cC key r (i+1)
def Tv (L:List (List Int)):ByteArray->Option Int:= λkey=>cC key L 0
def YJ (p:PP) (r:EX×List (List Int)):xC.den:=(p,r.1.1,r.1.2.1,Tv r.1.1,r.1.2.2.1,r.1.2.2.2,r.2,())
def Vk (p:PP):xC.den:=YJ p (pd p.2.2.1 (Aw p.2.2.1.length) 3001 0 ([upto p.1.toNat],[0],[0],[0]) [])
noncomputable def Fh (p:PP):Bool:=Bf p&&(Cu p.2.2.1 (upto p.1.toNat)).2.2
noncomputable abbrev Od:Spec:=Cv (.pair Dn .unit) (.pair (.optr xC) (.pair .bool .unit)) true false (λx=>Cf x.1) (λx=>if Fh x.1=true then (some (Vk x.1),true,()) else (none,false,()))
abbrev xz:Type:=Int×Int×ByteArray×List (List Int)×List (List Int)×PUnit
theorem QN (p:Int×ByteArray×List (List Int)×Unit) (s:List Int) (P:List (List Int)->Prop):(∃(y3:List Int),Ic.fn ((↑p.2.2.1.length:Int),())=some y3/\0=0/\0=([]:List Int).length/\Bi (λ(v4:xz) (k5:xz->Prop)=>Br (decide (v4.1<(↑y3.length:Int))) (∃(y6:Int),idx y3 v4.1=some y6/\ ∃(y7:List Int),Ke.fn (v4.2.2.2.1,y6,())=some y7/\ ∃(y8:List Int),Uh.fn (s,y7,())=some y8/\0=0/\v4.2.2.2.2.1.length=v4.2.2.2.2.1.length/\v4.2.2.2.2.1.length+(List.take 1 (List.drop 0 [y8])).length<=Bg/\0=0/\(v4.2.2.2.2.1++List.take 1 (List.drop 0 [y8])).length=(v4.2.2.2.2.1++List.take 1 (List.drop 0 [y8])).length/\k5 (IntKind.i64.wrap (v4.1+(1:Int)),v4.2.1,v4.2.2.1,v4.2.2.2.1,v4.2.2.2.2.1++List.take 1 (List.drop 0 [y8]),())) (P (List.take v4.2.2.2.2.1.length (List.drop 0 v4.2.2.2.2.1)))) ((0:Int),p.1,p.2.1,p.2.2.1,[],PUnit.unit))=fnW Cl (look [(43,Ic),(66,Ke),(65,Uh)]) dV Tryz.f44 (p,s,()) P:=by kernel_rfl
theorem PN (p:PP) (s:List Int) (h:Bf p=true/\s.length<=20/\ ∀y∈s,0<=y/\y<p.1):fnW Cl (look [(43,Ic),(66,Ke),(65,Uh)]) dV Tryz.f44 (p,s,()) (λ(z:List (List Int))=>z=sZ p.2.2.1 s):=by
 obtain ⟨hv,hs,hr⟩:=h
 have hV:=valid hv
 have hf:=hV.lf
 refine Eq.mp (QN p s _) ⟨Aw p.2.2.1.length,if_pos ⟨Int.natCast_nonneg _,by show ((p.2.2.1.length:Nat):Int)<=8;omega⟩,rfl,rfl,?_⟩
 have hL:=Kn p.2.2.1.length
 refine Ag (Aw p.2.2.1.length).length (λv=>v.1) (λj v=>v=((j:Int),p.1,p.2.1,p.2.2.1,((Aw p.2.2.1.length).take j).map (λl=>Aa s (Af p.2.2.1 l)),())) rfl (by simp) ?_
 rintro j v K hj hi rfl hK
 dsimp only
 refine Br.dec (λhl=>?_) λhl=>?_
 ·have hl:j<(Aw p.2.2.1.length).length:=by omega
  have ZO:=Ju (List.getElem_mem hl)
  obtain ⟨h1,h2⟩:=dN hV ZO
  refine ⟨_,Am hl,_,if_pos ⟨ZO,hf.2,hV.perm⟩,_,if_pos ⟨hs,λy hy=>by have:=hr y hy;show 0<=y/\y<((Af p.2.2.1 (Aw p.2.2.1.length)[j]).length:Int);omega⟩,rfl,rfl,?_,rfl,rfl,?_⟩
  ·show (((Aw p.2.2.1.length).take j).map _).length+1<=4294967296
   rw [List.length_map,List.length_take]
   omega
  ·rw [Ah (by omega)]
   refine hK hl _ rfl ?_
   have e:(Aw p.2.2.1.length).take (j+1)=(Aw p.2.2.1.length).take j++ [(Aw p.2.2.1.length)[j]]:=by
    rw [List.take_add_one,List.getElem?_eq_getElem hl,Option.toList_some]
   rw [e,List.map_append]
   rfl
 ·have:j=(Aw p.2.2.1.length).length:=by omega
  subst this
  rw [List.drop_zero,List.take_length,List.take_length]
  rfl
theorem xr:Sound Tryz.prog 44 dV:=
 Sound.Cv Bk (Ae Xw (Ae dg (Ae Pr Ak))) mixed Tryz.func44 (by kernel_rfl) (by kernel_rfl) λx h=>PN x.1 x.2.1 h
end Go.Proofs.YtjbdmibbbpdnnaaGreat

namespace Go.Proofs.YtjbdmibbbpdnnaaGreat
open Go.RowKit
theorem Ft {α:Type} {xs ys:List α} {i:Nat} {d:α} (h:i<xs.length):(xs++ys).getD i d=xs.getD i d:=by
 rw [List.getD_eq_getElem?_getD,List.getD_eq_getElem?_getD,List.getElem?_append_left h]
theorem dF {α:Type} {xs:List α} {x d:α} :(xs++ [x]).getD xs.length d=x:=by
 rw [List.getD_eq_getElem?_getD,List.getElem?_append_right (Nat.le_refl _),Nat.sub_self];rfl
theorem Nb {α:Type} {xs:List α} {i:Nat} {d:α} (h:i<xs.length):xs.getD i d=xs[i]:=by
 rw [List.getD_eq_getElem?_getD,List.getElem?_eq_getElem h];rfl
structure Lv (g:List (List Int)) (ls:List Int) (k:Nat) (L:List (List Int)) (D:List Int):Prop where
 len:D.length=L.length
 pos:0<L.length
 mono: ∀i j,i<=j->j<L.length->D.getD i 0<=D.getD j 0
 KR:k<L.length-> ∀j,j<L.length->D.getD j 0<=D.getD k 0+1
 par: ∀j,0<j->j<L.length-> ∃i l,i<j/\l∈ls/\L.getD j []=Aa (L.getD i []) (Af g l)/\D.getD j 0=D.getD i 0+1
 zero:D.getD 0 0=0
theorem Lv.add {g:List (List Int)} {ls:List Int} {k:Nat} {L:List (List Int)} {D:List Int} (h:Lv g ls k L D) (hk:k<L.length) {l:Int} (hl:l∈ls):
  Lv g ls k (L++ [Aa (L.getD k []) (Af g l)]) (D++ [D.getD k 0+1]):=by
 have hlen:=h.len
 have hD: ∀i,i<L.length->(D++ [D.getD k 0+1]).getD i 0=D.getD i 0:= λi hi=>Ft (by omega)
 have MY:(D++ [D.getD k 0+1]).getD L.length 0=D.getD k 0+1:=by rw [<-hlen];exact dF
 refine ⟨by simp [hlen],by simp,λi j iW hj=>?_,λ_ j hj=>?_,λj h0 hj=>?_,?_⟩
 ·rw [List.length_append,List.length_singleton] at hj
  by_cases e:j=L.length
  ·subst e
   rw [MY]
   by_cases e':i=L.length
   ·subst e';rw [MY];exact Int.le_refl _
   ·rw [hD i (by omega)]
    exact h.KR hk i (by omega)
  ·rw [hD i (by omega),hD j (by omega)]
   exact h.mono i j iW (by omega)
 ·rw [List.length_append,List.length_singleton] at hj
  rw [hD k hk]
  by_cases e:j=L.length
  ·subst e;rw [MY];exact Int.le_refl _
  ·rw [hD j (by omega)];exact h.KR hk j (by omega)
 ·rw [List.length_append,List.length_singleton] at hj
  by_cases e:j=L.length
  ·subst e
   exact ⟨k,l,hk,hl,by rw [dF,Ft hk],by rw [MY,hD k hk]⟩
  ·obtain ⟨i,l',h1,h2,h3,h4⟩:=h.par j h0 (by omega)
   exact ⟨i,l',h1,h2,by rw [Ft (by omega),Ft (by omega)];exact h3,by rw [hD j (by omega),hD i (by omega)];exact h4⟩
 ·rw [hD 0 h.pos];exact h.zero
theorem my {g:List (List Int)} {ls:List Int} {k:Nat} : ∀(CQ:List Int) (L:List (List Int)) (D:List Int),(∀l∈CQ,l∈ls)->Lv g ls k L D->k<L.length-> ∀ {x:List Int} {d:Int},x=L.getD k []->d=D.getD k 0->
  Lv g ls k (Ec g x d CQ L D).1 (Ec g x d CQ L D).2.1/\(∃A,(Ec g x d CQ L D).1=L++A)/\(∃A,(Ec g x d CQ L D).2.1=D++A)/\
  ((Ec g x d CQ L D).2.2=true-> ∀l∈CQ,∃j,j<(Ec g x d CQ L D).1.length/\(Ec g x d CQ L D).1.getD j []=Aa x (Af g l)/\(Ec g x d CQ L D).2.1.getD j 0<=d+1)
 | [],L,D,_,h,_,x,d,_,_=>⟨h,⟨[],by simp [Ec]⟩,⟨[],by simp [Ec]⟩,λ_ l hl=>by cases hl⟩
 |l::CQ,L,D,hs,h,hk,x,d,hx,hd=>by
  have w6: ∀l∈CQ,l∈ls:= λl' h'=>hs l' (List.mem_cons_of_mem _ h')
  have hlen:=h.len
  simp only [Ec]
  split
  ·rename_i hm
   obtain ⟨a1,⟨A,a2⟩,⟨A',a3⟩,a4⟩:=my CQ L D w6 h hk hx hd
   refine ⟨a1,⟨A,a2⟩,⟨A',a3⟩,λe l' Gq=>?_⟩
   rcases List.mem_cons.1 Gq with rfl|Gq
   ·obtain ⟨j,hj,hjx⟩:=List.mem_iff_getElem.1 hm
    refine ⟨j,by rw [a2,List.length_append];omega,by rw [a2,Ft hj,Nb hj];exact hjx,?_⟩
    rw [a3,Ft (by omega),hd]
    exact h.KR hk j hj
   ·exact a4 e l' Gq
  ·split
   ·exact ⟨h,⟨[],by simp⟩,⟨[],by simp⟩,λe=>by cases e⟩
   ·have IV:=h.add hk (hs l (by simp))
    rw [<-hx,<-hd] at IV
    obtain ⟨a1,⟨A,a2⟩,⟨A',a3⟩,a4⟩:=my CQ (L++ [Aa x (Af g l)]) (D++ [d+1]) w6 IV (by rw [List.length_append];omega) (x:=x) (d:=d) (by rw [Ft hk];exact hx) (by rw [Ft (by omega)];exact hd)
    refine ⟨a1,⟨_::A,by rw [a2,List.append_assoc];rfl⟩,⟨_::A',by rw [a3,List.append_assoc];rfl⟩,λe l' Gq=>?_⟩
    rcases List.mem_cons.1 Gq with rfl|Gq
    ·refine ⟨L.length,by rw [a2,List.length_append,List.length_append];simp only [List.length_singleton];omega,?_,?_⟩
     ·rw [a2,Ft (by simp),dF]
     ·rw [a3,Ft (by simp [hlen]),<-hlen,dF]
      exact Int.le_refl _
    ·exact a4 e l' Gq
structure mc (g:List (List Int)) (ls:List Int) (L:List (List Int)) (D:List Int):Prop where
 len:D.length=L.length
 pos:0<L.length
 zero:D.getD 0 0=0
 par: ∀j,0<j->j<L.length-> ∃i l,i<j/\l∈ls/\L.getD j []=Aa (L.getD i []) (Af g l)/\D.getD j 0=D.getD i 0+1
 step: ∀i,i<L.length-> ∀l∈ls,∃j,j<L.length/\L.getD j []=Aa (L.getD i []) (Af g l)/\D.getD j 0<=D.getD i 0+1
theorem vd {g:List (List Int)} {ls:List Int} : ∀(f k:Nat) (L:List (List Int)) (D:List Int),3001<=f+k->Lv g ls k L D->k<=L.length->
  (∀i,i<k-> ∀l∈ls,∃j,j<L.length/\L.getD j []=Aa (L.getD i []) (Af g l)/\D.getD j 0<=D.getD i 0+1)->
  (Fl g ls f k L D).2.2=true->(Fl g ls f k L D).1.length<=3000->mc g ls (Fl g ls f k L D).1 (Fl g ls f k L D).2.1
 |0,k,L,D,hf,h,JG,hc,hw,h3=>by
  simp only [Fl] at h3⊢
  omega
 |f+1,k,L,D,hf,h,JG,hc,hw,h3=>by
  simp only [Fl] at hw h3⊢
  split
  ·rename_i hk
   rw [if_pos hk] at hw h3
   obtain ⟨a1,⟨A,a2⟩,⟨A',a3⟩,a4⟩:=my (x:=L.getD k []) (d:=D.getD k 0) ls L D (λ_ h=>h) h hk rfl rfl
   have hlen:=h.len
   split
   ·rename_i L' D' he
    rw [he] at a1 a2 a3 a4
    simp only [he] at hw h3
    have a2:L'=L++A:=a2
    have a3:D'=D++A':=a3
    have a4:=a4 rfl
    dsimp only at a4
    have hLl:L.length<=L'.length:=by rw [a2,List.length_append];omega
    refine vd f (k+1) L' D' (by omega) ⟨a1.len,a1.pos,a1.mono,λhk1 j hj=>?_,a1.par,a1.zero⟩ (by omega) (λi hi l hl=>?_) hw h3
    ·have h1:D'.getD j 0<=D'.getD k 0+1:=a1.KR (show k<L'.length by omega) j hj
     have h2:D'.getD k 0<=D'.getD (k+1) 0:=a1.mono k (k+1) (by omega) hk1
     omega
    ·by_cases e:i=k
     ·subst e
      obtain ⟨j,b1,b2,b3⟩:=a4 l hl
      refine ⟨j,b1,?_,?_⟩
      ·rw [b2,a2,Ft (by omega)]
      ·rw [show D'.getD i 0=D.getD i 0 by rw [a3,Ft (by omega)]];exact b3
     ·obtain ⟨j,b1,b2,b3⟩:=hc i (by omega) l hl
      refine ⟨j,by omega,?_,?_⟩
      ·rw [a2,Ft (by omega),Ft (by omega)];exact b2
      ·rw [a3,Ft (by omega),Ft (by omega)];exact b3
   ·rename_i L' D' he
    simp only [he] at hw
    cases hw
  ·rename_i hk
   exact ⟨h.len,h.pos,h.zero,h.par,λi hi=>hc i (by have hi:i<L.length:=hi;omega)⟩
theorem fm {p:PP} {s:List Int} (hv:Bf p=true) (hs:s.length<=20) (hr: ∀y∈s,0<=y/\y<p.1) (hw:(Cu p.2.2.1 s).2.2=true):
  mc p.2.2.1 (Aw p.2.2.1.length) (Cu p.2.2.1 s).1 (Cu p.2.2.1 s).2.1:=by
 have hb:=(se hv hs hr).1.ok.lf
 refine vd 3001 0 [s] [0] (by omega) ⟨rfl,by simp,λi j iW hj=>?_,λ_ j hj=>?_,λj h0 hj=>?_,rfl⟩ (Nat.zero_le _) (λi hi=>absurd hi (Nat.not_lt_zero _)) hw hb
 ·have:j=0:=by simpa using hj
  subst this
  have:i=0:=by omega
  subst this
  exact Int.le_refl _
 ·have:j=0:=by simpa using hj
  subst this
  simp
 ·have:j=0:=by simpa using hj
  omega
theorem wu {p:PP} (hV:Valid p) {x:List Int} (hx: ∀y∈x,0<=y/\y<p.1) {l:Int} (hl:l∈Aw p.2.2.1.length):
  -l∈Aw p.2.2.1.length/\Aa (Aa x (Af p.2.2.1 l)) (Af p.2.2.1 (-l))=x:=by
 obtain ⟨k,hk,Mj⟩:=Pd (Ju hl)
 have hg:=jB (hV.perm _ (List.getElem_mem hk))
 have hgl:=hV.len _ (List.getElem_mem hk)
 have hn:=hV.n
 have hp:Pm p.1.toNat (p.2.2.1[k]):=⟨by omega,hg⟩
 have key: ∀q r:List Int,Pm p.1.toNat q->Pm p.1.toNat r->Aa q r=upto p.1.toNat->Aa (Aa x q) r=x:= λq r hq hr he=>by
  refine List.ext_getElem (by rw [Nw,Nw]) λi h1 h2=>?_
  have hxi:=hx _ (List.getElem_mem h2)
  obtain ⟨xi,JP⟩:=Int.eq_ofNat_of_zero_le hxi.1
  have NF:xi<p.1.toNat:=by omega
  have e1:ap (Aa q r) xi=ap (upto p.1.toNat) xi:=congrArg (λz=>ap z xi) he
  rw [Fy hq hr NF,eg NF] at e1
  simp only [Aa,List.getElem_map,JP]
  have h3:=(hq.Ue NF).1
  have h4:=(hr.Ue (hq.lt NF)).1
  rw [h3,h4,e1]
 rcases Mj with rfl|rfl
 ·refine ⟨(Wq hk).2,?_⟩
  rw [Nm hk,Nl hk]
  exact key _ _ hp hp.inv (c5 hp)
 ·refine ⟨by rw [Int.neg_neg];exact (Wq hk).1,?_⟩
  rw [Int.neg_neg,Nm hk,Nl hk]
  exact key _ _ hp.inv hp (Vg hp)
structure Ot (g:List (List Int)) (ls:List Int) (L:List (List Int)) (S:List Int->Prop) (d:List Int->Int):Prop where
 nn: ∀x∈L,0<=d x
 zero: ∀x∈L,d x=0↔S x
 step: ∀x∈L,∀l∈ls,d (Aa x (Af g l))<=d x+1
 down: ∀x∈L,0<d x-> ∃l∈ls,d (Aa x (Af g l))=d x-1
structure m9 (g:List (List Int)) (ls:List Int) (L:List (List Int)):Prop where
 next: ∀x∈L,∀l∈ls,Aa x (Af g l)∈L
 back: ∀x∈L,∀l∈ls,-l∈ls/\Aa (Aa x (Af g l)) (Af g (-l))=x
theorem Ot.le {g:List (List Int)} {ls:List Int} {L:List (List Int)} {S:List Int->Prop} {d d':List Int->Int} (hc:m9 g ls L) (h:Ot g ls L S d) (h':Ot g ls L S d'):
  ∀(n:Nat) (x:List Int),x∈L->d' x=n->d x<=n
 |0,x,hx,e=>by
  have:=(h.zero x hx).2 ((h'.zero x hx).1 e)
  omega
 |n+1,x,hx,e=>by
  obtain ⟨l,hl,hd⟩:=h'.down x hx (by omega)
  obtain ⟨b1,b2⟩:=hc.back x hx l hl
  have h1:=Ot.le hc h h' n _ (hc.next x hx l hl) (by omega)
  have h2:=h.step _ (hc.next x hx l hl) _ b1
  rw [b2] at h2
  omega
theorem Ot.eq {g:List (List Int)} {ls:List Int} {L:List (List Int)} {S:List Int->Prop} {d d':List Int->Int} (hc:m9 g ls L) (h:Ot g ls L S d) (h':Ot g ls L S d') {x:List Int} (hx:x∈L):d x=d' x:=by
 have n1:=h.nn x hx
 have n2:=h'.nn x hx
 have h1:=Ot.le hc h h' (d' x).toNat x hx (by omega)
 have h2:=Ot.le hc h' h (d x).toNat x hx (by omega)
 omega
theorem Ot.KR {g:List (List Int)} {ls:List Int} {L:List (List Int)} {S:List Int->Prop} {d:List Int->Int} (hc:m9 g ls L) (h:Ot g ls L S d) {x:List Int} (hx:x∈L) {l:Int} (hl:l∈ls):
  d x-1<=d (Aa x (Af g l)):=by
 obtain ⟨b1,b2⟩:=hc.back x hx l hl
 have h2:=h.step _ (hc.next x hx l hl) _ b1
 rw [b2] at h2
 omega
theorem yY {L:List (List Int)} (hn:L.Nodup) {j:Nat} (hj:j<L.length):L.idxOf (L.getD j [])=j:=by
 rw [Nb hj]
 exact hn.idxOf_getElem j hj
theorem gN {L:List (List Int)} {j:Nat} (hj:j<L.length):L.getD j []∈L:=by rw [Nb hj];exact List.getElem_mem hj
theorem eF {p:PP} (hV:Valid p) {m:Nat} {L:List (List Int)} {D:List Int} (hb:Mr p m L D) (h:mc p.2.2.1 (Aw p.2.2.1.length) L D):m9 p.2.2.1 (Aw p.2.2.1.length) L where
 next x hx l hl:=by
  obtain ⟨i,hi,rfl⟩:=List.mem_iff_getElem.1 hx
  obtain ⟨j,h1,h2,_⟩:=h.step i hi l hl
  rw [Nb hi] at h2
  rw [<-h2]
  exact gN h1
 back x hx l hl:=wu hV (hb.row x hx) hl
end Go.Proofs.YtjbdmibbbpdnnaaGreat

namespace Go.Proofs.YtjbdmibbbpdnnaaGreat
open Go.RowKit
abbrev oH:Type:=Int×Int×ByteArray×List (List Int)×List Int×List (List Int)×List Int×(ByteArray->Option Int)×List Int×List Int×Int×ByteArray×List (List Int)×List (List Int)×PUnit
abbrev oI:Type:=Int×Int×ByteArray×List (List Int)×List (List Int)×List Int×(ByteArray->Option Int)×List Int×List Int×Int×ByteArray×List (List Int)×List (List Int)×PUnit
abbrev ak:List (Nat×Nat):= [(0,1),(0,1),(0,1),(0,1),(0,1),(0,1),(0,1),(0,1),(0,1),(0,1),(0,1),(0,1),(0,0)]
abbrev Dk (p:Int×ByteArray×List (List Int)×Unit) (y4:List Int) (y2:Int) (y3:Bool) (y6:ByteArray) (y5:ByteArray):Prop:=ak=ak/\(p,false,y4,p.1,p.2.1,p.2.2.1,y2,y3,!y3,p.1,y4,p.1,p.2.1,p.2.2.1,y4,y4,y6,p.1,p.2.1,p.2.2.1,p.1,p.2.1,p.2.2.1,[y4],[(0:Int)],Sp (λ(_:ByteArray)=>none) y6 (0:Int),[(0:Int)],[(0:Int)],p.1,p.2.1,p.2.2.1,([]:List (List Int)),())=(p,false,y4,p.1,p.2.1,p.2.2.1,y2,y3,!y3,p.1,y4,p.1,p.2.1,p.2.2.1,y4,y4,y5,p.1,p.2.1,p.2.2.1,p.1,p.2.1,p.2.2.1,[y4],[(0:Int)],Sp (λ(_:ByteArray)=>none) y5 (0:Int),[(0:Int)],[(0:Int)],p.1,p.2.1,p.2.2.1,([]:List (List Int)),PUnit.unit)
theorem GY (p:Int×ByteArray×List (List Int)×Unit) (P:(Option (PP×List (List Int)×List Int×(ByteArray->Option Int)×List Int×List Int×List (List Int)×Unit)×Bool×Unit)->Prop):(∃(y2:Int),Mb.fn ((p.1,p.2.1,p.2.2.1,()),())=some y2/\ ∃(y3:Bool),Bp.fn (y2,(1:Int),(3000:Int),())=some y3/\Br (!y3) (P (none,false,())) (∃(y4:List Int),Of.fn (p.1,())=some y4/\ ∃(y5:ByteArray),Cm.fn (y4,())=some y5/\(∃(y6:List Int),Ic.fn ((↑p.2.2.1.length:Int),())=some y6/\0=0/\1= [y4].length/\0=0/\1= [(0:Int)].length/\0=0/\1= [(0:Int)].length/\0=0/\1= [(0:Int)].length/\0=0/\0=([]:List Int).length/\Bi (λ(v7:oI) (k8:oI->Prop)=>Br (decide (v7.1<(↑v7.2.2.2.2.1.length:Int))) (((0:Int)<=v7.1/\v7.1<(↑v7.2.2.2.2.1.length:Int))/\ ∃(y9:List Int),v7.2.2.2.2.1[0+v7.1.toNat]?=some y9/\ ∃(bC:List (List Int)),dV.fn ((v7.2.1,v7.2.2.1,v7.2.2.2.1,()),y9,())=some bC/\0=0/\0=([]:List Int).length/\0=0/\v7.2.2.2.2.1.length=v7.2.2.2.2.1.length/\0=0/\v7.2.2.2.2.2.1.length=v7.2.2.2.2.2.1.length/\0=0/\v7.2.2.2.2.2.2.2.1.length=v7.2.2.2.2.2.2.2.1.length/\0=0/\v7.2.2.2.2.2.2.2.2.1.length=v7.2.2.2.2.2.2.2.2.1.length/\0=0/\v7.2.2.2.2.2.2.2.2.2.2.2.2.1.length=v7.2.2.2.2.2.2.2.2.2.2.2.2.1.length/\Bi (λ(v11:oH) (k12:oH->Prop)=>Br (decide (v11.1<(↑bC.length:Int))) (∃(BD:List Int),idx bC v11.1=some BD/\ ∃(aX:ByteArray),Cm.fn (BD,())=some aX/\Br (!(v11.2.2.2.2.2.2.2.1 aX).isSome) (∃(iT:Int),dT.fn (List.take v11.2.2.2.2.2.1.length (List.drop 0 v11.2.2.2.2.2.1),())=some iT/\0=0/\v11.2.2.2.2.2.1.length=v11.2.2.2.2.2.1.length/\v11.2.2.2.2.2.1.length+(List.take 1 (List.drop 0 [BD])).length<=Bg/\((0:Int)<=v7.1/\v7.1<(↑v11.2.2.2.2.2.2.1.length:Int))/\ ∃(lO:Int),v11.2.2.2.2.2.2.1[0+v7.1.toNat]?=some lO/\0=0/\v11.2.2.2.2.2.2.1.length=v11.2.2.2.2.2.2.1.length/\v11.2.2.2.2.2.2.1.length+ [IntKind.i64.wrap (lO+(1:Int))].length<=Bg/\0=0/\v11.2.2.2.2.2.2.2.2.1.length=v11.2.2.2.2.2.2.2.2.1.length/\v11.2.2.2.2.2.2.2.2.1.length+(List.take 1 (List.drop 0 [v7.1])).length<=Bg/\ ∃(BE:Int),idx y6 v11.1=some BE/\0=0/\v11.2.2.2.2.2.2.2.2.2.1.length=v11.2.2.2.2.2.2.2.2.2.1.length/\v11.2.2.2.2.2.2.2.2.2.1.length+ [BE].length<=Bg/\0=0/\v11.2.2.2.2.1.length=v11.2.2.2.2.1.length/\v11.2.2.2.2.1.length+(List.take 1 (List.drop 0 [iT])).length<=Bg/\0=0/\(v11.2.2.2.2.1++List.take 1 (List.drop 0 [iT])).length=(v11.2.2.2.2.1++List.take 1 (List.drop 0 [iT])).length/\0=0/\(v11.2.2.2.2.2.1++List.take 1 (List.drop 0 [BD])).length=(v11.2.2.2.2.2.1++List.take 1 (List.drop 0 [BD])).length/\0=0/\(v11.2.2.2.2.2.2.1++ [IntKind.i64.wrap (lO+(1:Int))]).length=(v11.2.2.2.2.2.2.1++ [IntKind.i64.wrap (lO+(1:Int))]).length/\0=0/\(v11.2.2.2.2.2.2.2.2.1++List.take 1 (List.drop 0 [v7.1])).length=(v11.2.2.2.2.2.2.2.2.1++List.take 1 (List.drop 0 [v7.1])).length/\0=0/\(v11.2.2.2.2.2.2.2.2.2.1++ [BE]).length=(v11.2.2.2.2.2.2.2.2.2.1++ [BE]).length/\0=0/\v11.2.2.2.2.2.2.2.2.2.2.2.2.2.1.length=v11.2.2.2.2.2.2.2.2.2.2.2.2.2.1.length/\k12 (IntKind.i64.wrap (v11.1+(1:Int)),v11.2.1,v11.2.2.1,v11.2.2.2.1,v11.2.2.2.2.1++List.take 1 (List.drop 0 [iT]),v11.2.2.2.2.2.1++List.take 1 (List.drop 0 [BD]),v11.2.2.2.2.2.2.1++ [IntKind.i64.wrap (lO+(1:Int))],Sp v11.2.2.2.2.2.2.2.1 aX iT,v11.2.2.2.2.2.2.2.2.1++List.take 1 (List.drop 0 [v7.1]),v11.2.2.2.2.2.2.2.2.2.1++ [BE],v11.2.2.2.2.2.2.2.2.2.2.1,v11.2.2.2.2.2.2.2.2.2.2.2.1,v11.2.2.2.2.2.2.2.2.2.2.2.2.1,v11.2.2.2.2.2.2.2.2.2.2.2.2.2.1,())) (0=0/\v11.2.2.2.2.1.length=v11.2.2.2.2.1.length/\v11.2.2.2.2.1.length+(List.take 1 (List.drop 0 [(v11.2.2.2.2.2.2.2.1 aX).getD (Int.ofNat (nat_lit 0))])).length<=Bg/\0=0/\(v11.2.2.2.2.1++List.take 1 (List.drop 0 [(v11.2.2.2.2.2.2.2.1 aX).getD (Int.ofNat (nat_lit 0))])).length=(v11.2.2.2.2.1++List.take 1 (List.drop 0 [(v11.2.2.2.2.2.2.2.1 aX).getD (Int.ofNat (nat_lit 0))])).length/\0=0/\v11.2.2.2.2.2.1.length=v11.2.2.2.2.2.1.length/\0=0/\v11.2.2.2.2.2.2.1.length=v11.2.2.2.2.2.2.1.length/\0=0/\v11.2.2.2.2.2.2.2.2.1.length=v11.2.2.2.2.2.2.2.2.1.length/\0=0/\v11.2.2.2.2.2.2.2.2.2.1.length=v11.2.2.2.2.2.2.2.2.2.1.length/\0=0/\v11.2.2.2.2.2.2.2.2.2.2.2.2.2.1.length=v11.2.2.2.2.2.2.2.2.2.2.2.2.2.1.length/\k12 (IntKind.i64.wrap (v11.1+(1:Int)),v11.2.1,v11.2.2.1,v11.2.2.2.1,v11.2.2.2.2.1++List.take 1 (List.drop 0 [(v11.2.2.2.2.2.2.2.1 aX).getD (Int.ofNat (nat_lit 0))]),v11.2.2.2.2.2.1,v11.2.2.2.2.2.2.1,v11.2.2.2.2.2.2.2.1,v11.2.2.2.2.2.2.2.2.1,v11.2.2.2.2.2.2.2.2.2.1,v11.2.2.2.2.2.2.2.2.2.2.1,v11.2.2.2.2.2.2.2.2.2.2.2.1,v11.2.2.2.2.2.2.2.2.2.2.2.2.1,v11.2.2.2.2.2.2.2.2.2.2.2.2.2.1,()))) (0=0/\v11.2.2.2.2.2.2.2.2.2.2.2.2.2.1.length=v11.2.2.2.2.2.2.2.2.2.2.2.2.2.1.length/\v11.2.2.2.2.2.2.2.2.2.2.2.2.2.1.length+(List.take 1 (List.drop 0 [List.take v11.2.2.2.2.1.length (List.drop 0 v11.2.2.2.2.1)])).length<=Bg/\0=0/\v11.2.2.2.2.2.1.length=v11.2.2.2.2.2.1.length/\0=0/\v11.2.2.2.2.2.2.1.length=v11.2.2.2.2.2.2.1.length/\0=0/\v11.2.2.2.2.2.2.2.2.1.length=v11.2.2.2.2.2.2.2.2.1.length/\0=0/\v11.2.2.2.2.2.2.2.2.2.1.length=v11.2.2.2.2.2.2.2.2.2.1.length/\0=0/\(v11.2.2.2.2.2.2.2.2.2.2.2.2.2.1++List.take 1 (List.drop 0 [List.take v11.2.2.2.2.1.length (List.drop 0 v11.2.2.2.2.1)])).length=(v11.2.2.2.2.2.2.2.2.2.2.2.2.2.1++List.take 1 (List.drop 0 [List.take v11.2.2.2.2.1.length (List.drop 0 v11.2.2.2.2.1)])).length/\k8 (IntKind.i64.wrap (v7.1+(1:Int)),v11.2.1,v11.2.2.1,v11.2.2.2.1,v11.2.2.2.2.2.1,v11.2.2.2.2.2.2.1,v11.2.2.2.2.2.2.2.1,v11.2.2.2.2.2.2.2.2.1,v11.2.2.2.2.2.2.2.2.2.1,v11.2.2.2.2.2.2.2.2.2.2.1,v11.2.2.2.2.2.2.2.2.2.2.2.1,v11.2.2.2.2.2.2.2.2.2.2.2.2.1,v11.2.2.2.2.2.2.2.2.2.2.2.2.2.1++List.take 1 (List.drop 0 [List.take v11.2.2.2.2.1.length (List.drop 0 v11.2.2.2.2.1)]),()))) ((0:Int),v7.2.1,v7.2.2.1,v7.2.2.2.1,[],v7.2.2.2.2.1,v7.2.2.2.2.2.1,v7.2.2.2.2.2.2.1,v7.2.2.2.2.2.2.2.1,v7.2.2.2.2.2.2.2.2.1,v7.2.2.2.2.2.2.2.2.2.1,v7.2.2.2.2.2.2.2.2.2.2.1,v7.2.2.2.2.2.2.2.2.2.2.2.1,v7.2.2.2.2.2.2.2.2.2.2.2.2.1,PUnit.unit)) (P (some ((v7.2.2.2.2.2.2.2.2.2.1,v7.2.2.2.2.2.2.2.2.2.2.1,v7.2.2.2.2.2.2.2.2.2.2.2.1,()),List.take v7.2.2.2.2.1.length (List.drop 0 v7.2.2.2.2.1),List.take v7.2.2.2.2.2.1.length (List.drop 0 v7.2.2.2.2.2.1),v7.2.2.2.2.2.2.1,List.take v7.2.2.2.2.2.2.2.1.length (List.drop 0 v7.2.2.2.2.2.2.2.1),List.take v7.2.2.2.2.2.2.2.2.1.length (List.drop 0 v7.2.2.2.2.2.2.2.2.1),List.take v7.2.2.2.2.2.2.2.2.2.2.2.2.1.length (List.drop 0 v7.2.2.2.2.2.2.2.2.2.2.2.2.1),()),true,()))) ((0:Int),p.1,p.2.1,p.2.2.1,[y4],[(0:Int)],Sp (λ(_:ByteArray)=>none) y5 (0:Int),[(0:Int)],[(0:Int)],p.1,p.2.1,p.2.2.1,([]:List (List Int)),PUnit.unit))/\((∃(y6:ByteArray),Cm.fn (y4,())=some y6/\(Dk p y4 y2 y3 y6 y5))/\ ∃(y6:ByteArray),Cm.fn (y4,())=some y6/\((Dk p y4 y2 y3 y6 y5))/\((Dk p y4 y2 y3 y6 y5))/\(Dk p y4 y2 y3 y6 y5))/\((∃(y6:ByteArray),Cm.fn (y4,())=some y6/\(Dk p y4 y2 y3 y6 y5))/\ ∃(y6:ByteArray),Cm.fn (y4,())=some y6/\((Dk p y4 y2 y3 y6 y5))/\((Dk p y4 y2 y3 y6 y5))/\(Dk p y4 y2 y3 y6 y5))/\ ∃(y6:ByteArray),Cm.fn (y4,())=some y6/\(((Dk p y4 y2 y3 y6 y5))/\((Dk p y4 y2 y3 y6 y5))/\(Dk p y4 y2 y3 y6 y5))/\(((Dk p y4 y2 y3 y6 y5))/\((Dk p y4 y2 y3 y6 y5))/\(Dk p y4 y2 y3 y6 y5))/\(((Dk p y4 y2 y3 y6 y5))/\(Dk p y4 y2 y3 y6 y5))/\(((Dk p y4 y2 y3 y6 y5))/\(Dk p y4 y2 y3 y6 y5))/\((Dk p y4 y2 y3 y6 y5))/\ak=ak/\(p,false,y4,p.1,p.2.1,p.2.2.1,y2,y3,!y3,p.1,y4,p.1,p.2.1,p.2.2.1,y4,y4,y6,p.1,p.2.1,p.2.2.1,p.1,p.2.1,p.2.2.1,[y4],[(0:Int)],Sp (λ(_:ByteArray)=>none) y6 (0:Int),[(0:Int)],[(0:Int)],p.1,p.2.1,p.2.2.1,([]:List (List Int)),())=(p,false,y4,p.1,p.2.1,p.2.2.1,y2,y3,!y3,p.1,y4,p.1,p.2.1,p.2.2.1,y4,y4,y5,p.1,p.2.1,p.2.2.1,p.1,p.2.1,p.2.2.1,[y4],[(0:Int)],Sp (λ(_:ByteArray)=>none) y5 (0:Int),[(0:Int)],[(0:Int)],p.1,p.2.1,p.2.2.1,[],PUnit.unit)))=fnW Cl (look [(40,Mb),(39,Bp),(41,Of),(42,Cm),(43,Ic),(44,dV),(45,dT)]) Od Tryz.f24 (p,()) P:=by kernel_rfl
theorem mK {g:List (List Int)} {k:Int} {x:List Int} {d:Int} : ∀(ls:List Int) (s:EX) (row:List Int) (L':List (List Int)) (D':List Int),Ec g x d ls s.1 s.2.1=(L',D',true)->
  (mJ g k x d ls s row).1.1=L'/\(mJ g k x d ls s row).1.2.1=D'
 | [],s,row,L',D',h=>by
  simp only [Ec,Prod.mk.injEq] at h
  exact ⟨h.1,h.2.1⟩
 |l::ls,s,row,L',D',h=>by
  simp only [Ec] at h
  simp only [mJ]
  by_cases hm:Aa x (Af g l)∈s.1
  ·rw [if_pos hm] at h
   rw [if_pos hm]
   exact mK ls s _ L' D' h
  ·rw [if_neg hm] at h
   rw [if_neg hm]
   by_cases hf:s.1.length=3000
   ·rw [if_pos hf] at h
    simp at h
   ·rw [if_neg hf] at h
    exact mK ls _ _ L' D' h
theorem vI {g:List (List Int)} {ls:List Int} : ∀(f k:Nat) (s:EX) (N:List (List Int)) (L':List (List Int)) (D':List Int),Fl g ls f k s.1 s.2.1=(L',D',true)->
  (pd g ls f k s N).1.1=L'/\(pd g ls f k s N).1.2.1=D'
 |0,k,s,N,L',D',h=>by
  simp only [Fl,Prod.mk.injEq] at h
  exact ⟨h.1,h.2.1⟩
 |f+1,k,s,N,L',D',h=>by
  simp only [Fl] at h
  simp only [pd]
  by_cases hk:k<s.1.length
  ·rw [if_pos hk] at h
   rw [if_pos hk]
   split at h
   ·rename_i L1 D1 he
    obtain ⟨a1,a2⟩:=mK (k:=(k:Int)) ls s [] L1 D1 he
    refine vI f (k+1) _ _ L' D' ?_
    rw [a1,a2]
    exact h
   ·simp at h
  ·rw [if_neg hk] at h
   rw [if_neg hk]
   simp only [Prod.mk.injEq] at h
   exact ⟨h.1,h.2.1⟩
theorem hZ {key:ByteArray} {x:List Int} : ∀(L:List (List Int)) (i:Nat),cC key (L++ [x]) i=if (cC key L i).isSome=true then cC key L i else if Ij x=key then some ((i+L.length:Nat):Int) else none
 | [],i=>by simp [cC]
 |y::L,i=>by
  simp only [List.cons_append,cC]
  split
  ·rfl
  ·rw [hZ L (i+1),List.length_cons,show i+1+L.length=i+(L.length+1) by omega]
theorem jo {x:List Int} (hx:Ou x): ∀(L:List (List Int)) (i:Nat),(∀y∈L,Ou y)->cC (Ij x) L i=if x∈L then some ((i+L.idxOf x:Nat):Int) else none
 | [],i,_=>by simp [cC]
 |y::L,i,h=>by
  have hy:=h y (by simp)
  simp only [cC]
  by_cases e:y=x
  ·subst e
   rw [if_pos rfl,if_pos (by simp),List.idxOf_cons_self]
   rfl
  ·rw [if_neg λhk=>e (key_inj hy hx hk),jo hx L (i+1) λz hz=>h z (List.mem_cons_of_mem _ hz),show List.idxOf x (y::L)=(List.idxOf x L).succ by rw [List.idxOf_cons,beq_false_of_ne e];rfl]
   have:(x∈y::L)↔(x∈L):=by simp [Ne.symm e]
   by_cases hm:x∈L
   ·rw [if_pos hm,if_pos (this.2 hm),show i+1+List.idxOf x L=i+(List.idxOf x L).succ by omega]
   ·rw [if_neg hm,if_neg λh=>hm (this.1 h)]
theorem EI {x:List Int} {L:List (List Int)} (hx:Ou x) (hL: ∀y∈L,Ou y):Tv L (Ij x)=if x∈L then some (L.idxOf x:Int) else none:=by
 unfold Tv
 rw [jo hx L 0 hL,Nat.zero_add]
theorem qS {x:List Int} {L:List (List Int)} (hx:Ou x) (hL: ∀y∈L,Ou y) (hn:x∉L):Sp (Tv L) (Ij x) (L.length:Int)=Tv (L++ [x]):=by
 funext key
 unfold Sp Tv
 rw [hZ,Nat.zero_add]
 by_cases e:key=Ij x
 ·subst e
  rw [if_pos rfl,jo hx L 0 hL,if_neg hn,if_neg (by simp),if_pos rfl]
 ·rw [if_neg e,if_neg (c:=Ij x=key) λh=>e h.symm]
  split
  ·rfl
  ·rename_i h
   cases hk:cC key L 0 with
   |none=>rfl
   |some v=>rw [hk] at h;simp at h
theorem xZ (p:PP):Hg (Pe p) 1 3000=Fh p:=by
 unfold Fh
 by_cases hv:Bf p=true
 ·rw [hv,Bool.true_and,vB hv]
  rfl
 ·have hv:Bf p=false:=by simpa using hv
  rw [hv,Bool.false_and]
  have:Pe p=0:=by unfold Pe;rw [if_neg (by simp [hv])]
  rw [this]
  rfl
theorem EZ (p:PP) (h:Cf p):fnW Cl (look [(40,Mb),(39,Bp),(41,Of),(42,Cm),(43,Ic),(44,dV),(45,dT)]) Od Tryz.f24 (p,()) (λ(z:Option (PP×List (List Int)×List Int×(ByteArray->Option Int)×List Int×List Int×List (List Int)×Unit)×Bool×Unit)=>z=(if Fh p=true then (some (Vk p),true,()) else (none,false,()))):=by
 refine Eq.mp (GY p _) ⟨_,if_pos h,_,if_pos trivial,?_⟩
 show Br (!Hg (Pe p) 1 3000) _ _
 rw [xZ p]
 refine Br.of (λhb=>?_) λhb=>?_
 ·rw [if_neg (by simpa using hb)]
 have hw:Fh p=true:=by simpa using hb
 rw [if_pos hw]
 obtain ⟨hv,yM⟩:=Bool.and_eq_true_iff.1 hw
 have hV:=valid hv
 have lj:=hV.lf
 have hn:=hV.n
 obtain ⟨pn,ps,g,⟨⟩⟩:=p
 dsimp only at lj hn yM⊢
 have hI:(upto pn.toNat).length<=20:=by rw [Px];omega
 have hIr: ∀y∈upto pn.toNat,0<=y/\y<pn:= λy hy=>by have:=Ik.1 hy;omega
 have NY:=Yc (p:=(pn,ps,g,())) hI hIr
 obtain ⟨ls,ll⟩: ∃ls,Aw g.length=ls:=⟨_,rfl⟩
 have vZ:ls.length<=16:=by rw [<-ll,Kn];omega
 have gT: ∀l∈ls,Gx (List.length g) l:= λl hl=>Ju (ll▸hl)
 have mS: ∀x:List Int,(∀y∈x,0<=y/\y<pn)->Ou x:= λx hx y hy=>by have:=hx y hy;omega
 have nd:Fl g ls 3001 0 [upto pn.toNat] [0]=Cu g (upto pn.toNat):=by unfold Cu;rw [ll]
 have pj:Sp (λ(_:ByteArray)=>(none:Option Int)) (Ij (upto pn.toNat)) 0=Tv [upto pn.toNat]:=by
  have:=qS (L:= []) (mS _ hIr) (λy hy=>by cases hy) (by simp)
  exact this
 refine ⟨upto pn.toNat,if_pos ⟨by show (0:Int)<=pn;omega,by show pn<=20;omega⟩,Ij (upto pn.toNat),if_pos (by show short (upto pn.toNat);unfold short;omega),⟨ls,?_,rfl,rfl,rfl,rfl,rfl,rfl,rfl,rfl,rfl,rfl,?_⟩,?_⟩
 ·refine (if_pos ⟨by show (0:Int)<=((g.length:Nat):Int);omega,by show ((g.length:Nat):Int)<=8;omega⟩).trans (congrArg some ?_)
  show Aw (((g.length:Nat):Int)).toNat=ls
  rw [Int.toNat_natCast];exact ll
 ·obtain ⟨R,hR⟩: ∃R,pd g ls 3001 0 ([upto pn.toNat],[0],[0],[0]) []=R:=⟨_,rfl⟩
  have Ael:Vk (pn,ps,g,())=YJ (pn,ps,g,()) R:=by unfold Vk;rw [ll];exact congrArg _ hR
  rw [Ael]
  refine Bi.mk (λv=> ∃(k:Nat) (s:EX) (N:List (List Int)),v=((k:Int),pn,ps,g,s.1,s.2.1,Tv s.1,s.2.2.1,s.2.2.2,pn,ps,g,N,())/\k<=s.1.length/\Mr (pn,ps,g,()) (upto pn.toNat).length s.1 s.2.1/\s.2.2.1.length=s.1.length/\s.2.2.2.length=s.1.length/\N.length=k/\
    Fl g ls (3001-k) k s.1 s.2.1=Cu g (upto pn.toNat)/\pd g ls (3001-k) k s N=R) (λv=>3001-v.1.toNat)
   ⟨0,([upto pn.toNat],[0],[0],[0]),[],?_,by simp,NY,rfl,rfl,rfl,nd,hR⟩ ?_
  ·rw [<-pj];rfl
  rintro v ⟨k,s0,N,rfl,h1,h2,h3,h4,h5,h6,h7⟩
  obtain ⟨L0,D0,P0,B0⟩:=s0
  dsimp only at h1 h2 h3 h4 h6 h7⊢
  have hL0:=h2.ok.lf
  have hD0:=h2.len
  obtain ⟨f,hf⟩: ∃f,3001-k=f+1:=⟨3000-k,by omega⟩
  refine Br.dec (λhl=>?_) λhl=>?_
  ·have hk:k<L0.length:=by omega
   have vY:k<D0.length:=by omega
   have hx: ∀y∈L0[k],0<=y/\y<pn:=h2.row _ (List.getElem_mem hk)
   have JQ:L0[k].length=(upto pn.toNat).length:=h2.ok.len _ (List.getElem_mem hk)
   have hdk:=h2.dep k vY
   have JP:L0.getD k []=L0[k]:=Mv hk
   have OE:D0.getD k 0=D0[k]:=by rw [List.getD_eq_getElem?_getD,List.getElem?_eq_getElem vY];rfl
   have RS: ∀L' D' ok,Ec g L0[k] D0[k] ls L0 D0=(L',D',ok)->Cu g (upto pn.toNat)=if ok=true then Fl g ls f (k+1) L' D' else (L',D',false):=by
    intro L' D' ok he
    rw [<-h6,hf,Fl,if_pos hk,JP,OE,he]
    cases ok<;>rfl
   obtain ⟨E,hE⟩: ∃E,mJ g (k:Int) L0[k] D0[k] ls (L0,D0,P0,B0) []=E:=⟨_,rfl⟩
   have hex:R=pd g ls f (k+1) E.1 (N++ [E.2]):=by
    rw [<-h7,hf,pd,if_pos hk]
    dsimp only
    rw [JP,OE,hE]
   refine ⟨⟨by omega,by omega⟩,L0[k],by rw [Int.toNat_natCast,Nat.zero_add];exact List.getElem?_eq_getElem hk,ls.map (λl=>Aa L0[k] (Af g l)),?_,?_⟩
   ·refine (if_pos ⟨hv,by show L0[k].length<=20;omega,hx⟩).trans (congrArg some ?_)
    show sZ g L0[k]=_
    unfold sZ
    rw [ll]
   refine ⟨rfl,rfl,rfl,rfl,rfl,rfl,rfl,rfl,rfl,rfl,rfl,rfl,?_⟩
   obtain ⟨nb,hnb⟩: ∃nb,ls.map (λl=>Aa L0[k] (Af g l))=nb:=⟨_,rfl⟩
   have hnl:nb.length=ls.length:=by rw [<-hnb,List.length_map]
   have hni: ∀i (h:i<ls.length),nb[i]'(by omega)=Aa L0[k] (Af g ls[i]):= λi h=>by simp only [<-hnb,List.getElem_map]
   rw [hnb]
   refine Bi.mk (λv=> ∃(i:Nat) (row:List Int) (s:EX),v=((i:Int),pn,ps,g,row,s.1,s.2.1,Tv s.1,s.2.2.1,s.2.2.2,pn,ps,g,N,())/\i<=ls.length/\row.length=i/\Mr (pn,ps,g,()) (upto pn.toNat).length s.1 s.2.1/\s.2.2.1.length=s.1.length/\s.2.2.2.length=s.1.length/\
     (∃A,s.1=L0++A)/\(∃A,s.2.1=D0++A)/\Ec g L0[k] D0[k] (ls.drop i) s.1 s.2.1=Ec g L0[k] D0[k] ls L0 D0/\mJ g (k:Int) L0[k] D0[k] (ls.drop i) s row=E) (λv=>ls.length-v.1.toNat)
    ⟨0,[],(L0,D0,P0,B0),rfl,Nat.zero_le _,rfl,h2,h3,h4,⟨[],by simp⟩,⟨[],by simp⟩,rfl,hE⟩ ?_
   rintro v ⟨i,row,s,rfl,g1,g2,g3,g4,g5,⟨A,g6⟩,⟨A',g7⟩,g8,g9⟩
   obtain ⟨L,D,Pa,By⟩:=s
   dsimp only at g3 g4 g5 g6 g7 g8 g9⊢
   have hLf:=g3.ok.lf
   have MY:=g3.len
   refine Br.dec (λZN=>?_) λZN=>?_
   ·have hi:i<ls.length:=by omega
    have JG:k<L.length:=by rw [g6,List.length_append];omega
    have JF:k<D.length:=by rw [MY];exact JG
    have YO:D[k]=D0[k]:=by simp only [g7];exact List.getElem_append_left vY
    have sF:=gT _ (List.getElem_mem hi)
    obtain ⟨nl,nr⟩:=m5 hV hx sF
    dsimp only at nl nr
    rw [List.drop_eq_getElem_cons hi] at g8 g9
    simp only [Ec] at g8
    simp only [mJ] at g9
    have hyb:=mS _ nr
    refine ⟨_,Am (by omega),?_⟩
    rw [hni i hi]
    generalize hyv:Aa L0[k] (Af g ls[i])=yv at*
    refine ⟨Ij yv,if_pos (by show short yv;unfold short;rw [nl];omega),?_⟩
    rw [EI hyb λy hy=>mS _ (g3.row y hy)]
    refine Br.of (λTs=>?_) λTs=>?_
    ·have Ts:yv∉L:= λhm=>by rw [if_pos hm] at Ts;simp at Ts
     rw [if_neg Ts] at g8 g9
     by_cases Qb:L.length=3000
     ·rw [if_pos Qb] at g8
      have:=RS _ _ _ g8.symm
      rw [if_neg (by decide)] at this
      rw [this] at yM
      cases yM
     rw [if_neg Qb] at g8
     refine ⟨_,if_pos trivial,rfl,rfl,?_,⟨by omega,by omega⟩,D0[k],?_,rfl,rfl,?_,rfl,rfl,?_,_,Am hi,rfl,rfl,?_,rfl,rfl,?_,rfl,rfl,rfl,rfl,rfl,rfl,rfl,rfl,rfl,rfl,rfl,rfl,?_⟩
     ·show L.length+1<=4294967296;omega
     ·rw [Int.toNat_natCast,Nat.zero_add,List.getElem?_eq_getElem JF,YO]
     ·show D.length+1<=4294967296;omega
     ·show Pa.length+1<=4294967296;omega
     ·show By.length+1<=4294967296;omega
     ·show row.length+1<=4294967296;omega
     ·dsimp only
      rw [At L,Ca (n:=D0[k]+1) (by omega) (by omega),Ah (by omega),qS hyb (λy hy=>mS _ (g3.row y hy)) Ts]
      refine ⟨⟨i+1,row++ [(L.length:Int)],(L++ [yv],D++ [D0[k]+1],Pa++ [(k:Int)],By++ [ls[i]]),rfl,hi,by rw [List.length_append,g2];rfl,g3.add Ts (by rw [nl,JQ]) (by omega) nr ⟨by omega,by omega⟩,?_,?_,⟨A++ [yv],by rw [g6,List.append_assoc]⟩,⟨A'++ [D0[k]+1],by rw [g7,List.append_assoc]⟩,g8,g9⟩,by omega⟩
      ·simp [g4]
      ·simp [g5]
    ·have Ts:yv∈L:=Classical.byContradiction λhm=>by rw [if_neg hm] at Ts;simp at Ts
     rw [if_pos Ts] at g8 g9
     rw [if_pos Ts]
     refine ⟨rfl,rfl,?_,rfl,rfl,rfl,rfl,rfl,rfl,rfl,rfl,rfl,rfl,rfl,rfl,?_⟩
     ·show row.length+1<=4294967296;omega
     ·rw [Ah (by omega)]
      exact ⟨⟨i+1,row++ [(L.idxOf yv:Int)],(L,D,Pa,By),rfl,hi,by rw [List.length_append,g2];rfl,g3,g4,g5,⟨A,g6⟩,⟨A',g7⟩,g8,g9⟩,by omega⟩
   ·have:i=ls.length:=by omega
    subst this
    rw [List.drop_length,Ec] at g8
    rw [List.drop_length,mJ] at g9
    have:=RS _ _ _ g8.symm
    rw [if_pos rfl] at this
    rw [At row,Ah (by omega)]
    refine ⟨rfl,rfl,?_,rfl,rfl,rfl,rfl,rfl,rfl,rfl,rfl,rfl,rfl,⟨k+1,(L,D,Pa,By),N++ [row],rfl,by rw [g6,List.length_append];omega,g3,g4,g5,by rw [List.length_append,h5];rfl,?_,?_⟩,by omega⟩
    ·show N.length+1<=4294967296;omega
    ·rw [show 3001-(k+1)=f by omega]
     exact this.symm
    ·rw [show 3001-(k+1)=f by omega,hex,<-g9]
  ·have hk:k=L0.length:=by omega
   rw [hf,pd,if_neg (by show ¬k<L0.length;omega)] at h7
   subst h7
   simp only [List.drop_zero,List.take_length]
   rfl
 ·have yP:Cm.fn (upto pn.toNat,())=some (Ij (upto pn.toNat)):=if_pos (by show short (upto pn.toNat);unfold short;omega)
  repeat' (first|exact ⟨rfl,rfl⟩|refine ⟨_,yP,?_⟩|refine ⟨?_,?_⟩)
theorem pT:Sound Tryz.prog 24 Od:=
 Sound.Cv Bk (Ae jS (Ae Pv (Ae bu (Ae Pu (Ae Xw (Ae xr (Ae xo Ak))))))) mixed Tryz.func24 (by kernel_rfl) (by kernel_rfl) λx h=>EZ x.1 h
end Go.Proofs.YtjbdmibbbpdnnaaGreat

namespace Go.Proofs.YtjbdmibbbpdnnaaGreat
open Go.RowKit
abbrev XP:Type:=PP×List (List Int)×List Int×(ByteArray->Option Int)×List Int×List Int×List (List Int)×Unit
noncomputable def Bj (p:PP):List (List Int):=(Cu p.2.2.1 (upto p.1.toNat)).1
noncomputable def ic (p:PP):List Int:=(Cu p.2.2.1 (upto p.1.toNat)).2.1
def YE (e:XP):Prop:=Fh e.1=true/\e=Vk e.1
noncomputable def fN (p:PP):SS×Bool×Unit:=if Bf p=true then (Fe p.2.2.1 (upto p.1.toNat),Fh p,()) else (([],[],[],false,()),false,())
noncomputable abbrev Lp:Spec:=Cv (.pair Dn .unit) (.pair aS (.pair .bool .unit)) true false (λx=>Cf x.1) (λx=>fN x.1)
noncomputable abbrev Ul:Spec:=Cv (.pair tL (.pair tL .unit)) tL false true (λx=>short x.2.1/\Iy (List.length x.1) x.2.1) (λx=>Bo x.1 x.2.1)
abbrev Bz:Type:=List (List Int)×List Int×List Int×Bool×PUnit
theorem AY (p:Int×ByteArray×List (List Int)×Unit) (P:((List (List Int)×List Int×List Int×Bool×Unit)×Bool×Unit)->Prop):(∃(y2:Bool),Dw.fn ((p.1,p.2.1,p.2.2.1,()),())=some y2/\Br (!y2) (P ((List.take 0 (List.drop 0 []),List.take 0 (List.drop 0 []),List.take 0 (List.drop 0 []),false,()),false,())) (((((∃(y3:List Int),Cd.fn (p.1,())=some y3/\(∃(y4:Bz),Cz.fn ((p.1,p.2.1,p.2.2.1,()),y3,())=some y4/\((P ((y4.1,y4.2.1,y4.2.2.1,y4.2.2.2.1,()),y4.2.2.2.1,())/\P ((y4.1,y4.2.1,y4.2.2.1,y4.2.2.2.1,()),y4.2.2.2.1,()))/\P ((y4.1,y4.2.1,y4.2.2.1,y4.2.2.2.1,()),y4.2.2.2.1,()))/\(P ((y4.1,y4.2.1,y4.2.2.1,y4.2.2.2.1,()),y4.2.2.2.1,())/\P ((y4.1,y4.2.1,y4.2.2.1,y4.2.2.2.1,()),y4.2.2.2.1,()))/\P ((y4.1,y4.2.1,y4.2.2.1,y4.2.2.2.1,()),y4.2.2.2.1,()))/\ ∃(y4:Bz),Cz.fn ((p.1,p.2.1,p.2.2.1,()),y3,())=some y4/\((P ((y4.1,y4.2.1,y4.2.2.1,y4.2.2.2.1,()),y4.2.2.2.1,())/\P ((y4.1,y4.2.1,y4.2.2.1,y4.2.2.2.1,()),y4.2.2.2.1,()))/\P ((y4.1,y4.2.1,y4.2.2.1,y4.2.2.2.1,()),y4.2.2.2.1,()))/\(P ((y4.1,y4.2.1,y4.2.2.1,y4.2.2.2.1,()),y4.2.2.2.1,())/\P ((y4.1,y4.2.1,y4.2.2.1,y4.2.2.2.1,()),y4.2.2.2.1,()))/\P ((y4.1,y4.2.1,y4.2.2.1,y4.2.2.2.1,()),y4.2.2.2.1,()))/\ ∃(y3:List Int),Cd.fn (p.1,())=some y3/\ ∃(y4:Bz),Cz.fn ((p.1,p.2.1,p.2.2.1,()),y3,())=some y4/\((P ((y4.1,y4.2.1,y4.2.2.1,y4.2.2.2.1,()),y4.2.2.2.1,())/\P ((y4.1,y4.2.1,y4.2.2.1,y4.2.2.2.1,()),y4.2.2.2.1,()))/\P ((y4.1,y4.2.1,y4.2.2.1,y4.2.2.2.1,()),y4.2.2.2.1,()))/\(P ((y4.1,y4.2.1,y4.2.2.1,y4.2.2.2.1,()),y4.2.2.2.1,())/\P ((y4.1,y4.2.1,y4.2.2.1,y4.2.2.2.1,()),y4.2.2.2.1,()))/\P ((y4.1,y4.2.1,y4.2.2.1,y4.2.2.2.1,()),y4.2.2.2.1,()))/\ ∃(y3:List Int),Cd.fn (p.1,())=some y3/\ ∃(y4:Bz),Cz.fn ((p.1,p.2.1,p.2.2.1,()),y3,())=some y4/\((P ((y4.1,y4.2.1,y4.2.2.1,y4.2.2.2.1,()),y4.2.2.2.1,())/\P ((y4.1,y4.2.1,y4.2.2.1,y4.2.2.2.1,()),y4.2.2.2.1,()))/\P ((y4.1,y4.2.1,y4.2.2.1,y4.2.2.2.1,()),y4.2.2.2.1,()))/\(P ((y4.1,y4.2.1,y4.2.2.1,y4.2.2.2.1,()),y4.2.2.2.1,())/\P ((y4.1,y4.2.1,y4.2.2.1,y4.2.2.2.1,()),y4.2.2.2.1,()))/\P ((y4.1,y4.2.1,y4.2.2.1,y4.2.2.2.1,()),y4.2.2.2.1,()))/\ ∃(y3:List Int),Cd.fn (p.1,())=some y3/\ ∃(y4:Bz),Cz.fn ((p.1,p.2.1,p.2.2.1,()),y3,())=some y4/\((P ((y4.1,y4.2.1,y4.2.2.1,y4.2.2.2.1,()),y4.2.2.2.1,())/\P ((y4.1,y4.2.1,y4.2.2.1,y4.2.2.2.1,()),y4.2.2.2.1,()))/\P ((y4.1,y4.2.1,y4.2.2.1,y4.2.2.2.1,()),y4.2.2.2.1,()))/\(P ((y4.1,y4.2.1,y4.2.2.1,y4.2.2.2.1,()),y4.2.2.2.1,())/\P ((y4.1,y4.2.1,y4.2.2.1,y4.2.2.2.1,()),y4.2.2.2.1,()))/\P ((y4.1,y4.2.1,y4.2.2.1,y4.2.2.2.1,()),y4.2.2.2.1,()))/\((((∃(y3:List Int),Cd.fn (p.1,())=some y3/\(∃(y4:Bz),Cz.fn ((p.1,p.2.1,p.2.2.1,()),y3,())=some y4/\((P ((y4.1,y4.2.1,y4.2.2.1,y4.2.2.2.1,()),y4.2.2.2.1,())/\P ((y4.1,y4.2.1,y4.2.2.1,y4.2.2.2.1,()),y4.2.2.2.1,()))/\P ((y4.1,y4.2.1,y4.2.2.1,y4.2.2.2.1,()),y4.2.2.2.1,()))/\(P ((y4.1,y4.2.1,y4.2.2.1,y4.2.2.2.1,()),y4.2.2.2.1,())/\P ((y4.1,y4.2.1,y4.2.2.1,y4.2.2.2.1,()),y4.2.2.2.1,()))/\P ((y4.1,y4.2.1,y4.2.2.1,y4.2.2.2.1,()),y4.2.2.2.1,()))/\ ∃(y4:Bz),Cz.fn ((p.1,p.2.1,p.2.2.1,()),y3,())=some y4/\((P ((y4.1,y4.2.1,y4.2.2.1,y4.2.2.2.1,()),y4.2.2.2.1,())/\P ((y4.1,y4.2.1,y4.2.2.1,y4.2.2.2.1,()),y4.2.2.2.1,()))/\P ((y4.1,y4.2.1,y4.2.2.1,y4.2.2.2.1,()),y4.2.2.2.1,()))/\(P ((y4.1,y4.2.1,y4.2.2.1,y4.2.2.2.1,()),y4.2.2.2.1,())/\P ((y4.1,y4.2.1,y4.2.2.1,y4.2.2.2.1,()),y4.2.2.2.1,()))/\P ((y4.1,y4.2.1,y4.2.2.1,y4.2.2.2.1,()),y4.2.2.2.1,()))/\ ∃(y3:List Int),Cd.fn (p.1,())=some y3/\ ∃(y4:Bz),Cz.fn ((p.1,p.2.1,p.2.2.1,()),y3,())=some y4/\((P ((y4.1,y4.2.1,y4.2.2.1,y4.2.2.2.1,()),y4.2.2.2.1,())/\P ((y4.1,y4.2.1,y4.2.2.1,y4.2.2.2.1,()),y4.2.2.2.1,()))/\P ((y4.1,y4.2.1,y4.2.2.1,y4.2.2.2.1,()),y4.2.2.2.1,()))/\(P ((y4.1,y4.2.1,y4.2.2.1,y4.2.2.2.1,()),y4.2.2.2.1,())/\P ((y4.1,y4.2.1,y4.2.2.1,y4.2.2.2.1,()),y4.2.2.2.1,()))/\P ((y4.1,y4.2.1,y4.2.2.1,y4.2.2.2.1,()),y4.2.2.2.1,()))/\ ∃(y3:List Int),Cd.fn (p.1,())=some y3/\ ∃(y4:Bz),Cz.fn ((p.1,p.2.1,p.2.2.1,()),y3,())=some y4/\((P ((y4.1,y4.2.1,y4.2.2.1,y4.2.2.2.1,()),y4.2.2.2.1,())/\P ((y4.1,y4.2.1,y4.2.2.1,y4.2.2.2.1,()),y4.2.2.2.1,()))/\P ((y4.1,y4.2.1,y4.2.2.1,y4.2.2.2.1,()),y4.2.2.2.1,()))/\(P ((y4.1,y4.2.1,y4.2.2.1,y4.2.2.2.1,()),y4.2.2.2.1,())/\P ((y4.1,y4.2.1,y4.2.2.1,y4.2.2.2.1,()),y4.2.2.2.1,()))/\P ((y4.1,y4.2.1,y4.2.2.1,y4.2.2.2.1,()),y4.2.2.2.1,()))/\(((∃(y3:List Int),Cd.fn (p.1,())=some y3/\(∃(y4:Bz),Cz.fn ((p.1,p.2.1,p.2.2.1,()),y3,())=some y4/\((P ((y4.1,y4.2.1,y4.2.2.1,y4.2.2.2.1,()),y4.2.2.2.1,())/\P ((y4.1,y4.2.1,y4.2.2.1,y4.2.2.2.1,()),y4.2.2.2.1,()))/\P ((y4.1,y4.2.1,y4.2.2.1,y4.2.2.2.1,()),y4.2.2.2.1,()))/\(P ((y4.1,y4.2.1,y4.2.2.1,y4.2.2.2.1,()),y4.2.2.2.1,())/\P ((y4.1,y4.2.1,y4.2.2.1,y4.2.2.2.1,()),y4.2.2.2.1,()))/\P ((y4.1,y4.2.1,y4.2.2.1,y4.2.2.2.1,()),y4.2.2.2.1,()))/\ ∃(y4:Bz),Cz.fn ((p.1,p.2.1,p.2.2.1,()),y3,())=some y4/\((P ((y4.1,y4.2.1,y4.2.2.1,y4.2.2.2.1,()),y4.2.2.2.1,())/\P ((y4.1,y4.2.1,y4.2.2.1,y4.2.2.2.1,()),y4.2.2.2.1,()))/\P ((y4.1,y4.2.1,y4.2.2.1,y4.2.2.2.1,()),y4.2.2.2.1,()))/\(P ((y4.1,y4.2.1,y4.2.2.1,y4.2.2.2.1,()),y4.2.2.2.1,())/\P ((y4.1,y4.2.1,y4.2.2.1,y4.2.2.2.1,()),y4.2.2.2.1,()))/\P ((y4.1,y4.2.1,y4.2.2.1,y4.2.2.2.1,()),y4.2.2.2.1,()))/\ ∃(y3:List Int),Cd.fn (p.1,())=some y3/\ ∃(y4:Bz),Cz.fn ((p.1,p.2.1,p.2.2.1,()),y3,())=some y4/\((P ((y4.1,y4.2.1,y4.2.2.1,y4.2.2.2.1,()),y4.2.2.2.1,())/\P ((y4.1,y4.2.1,y4.2.2.1,y4.2.2.2.1,()),y4.2.2.2.1,()))/\P ((y4.1,y4.2.1,y4.2.2.1,y4.2.2.2.1,()),y4.2.2.2.1,()))/\(P ((y4.1,y4.2.1,y4.2.2.1,y4.2.2.2.1,()),y4.2.2.2.1,())/\P ((y4.1,y4.2.1,y4.2.2.1,y4.2.2.2.1,()),y4.2.2.2.1,()))/\P ((y4.1,y4.2.1,y4.2.2.1,y4.2.2.2.1,()),y4.2.2.2.1,()))/\(∃(y3:List Int),Cd.fn (p.1,())=some y3/\((∃(y4:Bz),Cz.fn ((p.1,p.2.1,p.2.2.1,()),y3,())=some y4/\((P ((y4.1,y4.2.1,y4.2.2.1,y4.2.2.2.1,()),y4.2.2.2.1,())/\P ((y4.1,y4.2.1,y4.2.2.1,y4.2.2.2.1,()),y4.2.2.2.1,()))/\P ((y4.1,y4.2.1,y4.2.2.1,y4.2.2.2.1,()),y4.2.2.2.1,()))/\(P ((y4.1,y4.2.1,y4.2.2.1,y4.2.2.2.1,()),y4.2.2.2.1,())/\P ((y4.1,y4.2.1,y4.2.2.1,y4.2.2.2.1,()),y4.2.2.2.1,()))/\P ((y4.1,y4.2.1,y4.2.2.1,y4.2.2.2.1,()),y4.2.2.2.1,()))/\ ∃(y4:Bz),Cz.fn ((p.1,p.2.1,p.2.2.1,()),y3,())=some y4/\((P ((y4.1,y4.2.1,y4.2.2.1,y4.2.2.2.1,()),y4.2.2.2.1,())/\P ((y4.1,y4.2.1,y4.2.2.1,y4.2.2.2.1,()),y4.2.2.2.1,()))/\P ((y4.1,y4.2.1,y4.2.2.1,y4.2.2.2.1,()),y4.2.2.2.1,()))/\(P ((y4.1,y4.2.1,y4.2.2.1,y4.2.2.2.1,()),y4.2.2.2.1,())/\P ((y4.1,y4.2.1,y4.2.2.1,y4.2.2.2.1,()),y4.2.2.2.1,()))/\P ((y4.1,y4.2.1,y4.2.2.1,y4.2.2.2.1,()),y4.2.2.2.1,()))/\ ∃(y4:Bz),Cz.fn ((p.1,p.2.1,p.2.2.1,()),y3,())=some y4/\((P ((y4.1,y4.2.1,y4.2.2.1,y4.2.2.2.1,()),y4.2.2.2.1,())/\P ((y4.1,y4.2.1,y4.2.2.1,y4.2.2.2.1,()),y4.2.2.2.1,()))/\P ((y4.1,y4.2.1,y4.2.2.1,y4.2.2.2.1,()),y4.2.2.2.1,()))/\(P ((y4.1,y4.2.1,y4.2.2.1,y4.2.2.2.1,()),y4.2.2.2.1,())/\P ((y4.1,y4.2.1,y4.2.2.1,y4.2.2.2.1,()),y4.2.2.2.1,()))/\P ((y4.1,y4.2.1,y4.2.2.1,y4.2.2.2.1,()),y4.2.2.2.1,()))/\(∃(y3:List Int),Cd.fn (p.1,())=some y3/\ ∃(y4:Bz),Cz.fn ((p.1,p.2.1,p.2.2.1,()),y3,())=some y4/\((P ((y4.1,y4.2.1,y4.2.2.1,y4.2.2.2.1,()),y4.2.2.2.1,())/\P ((y4.1,y4.2.1,y4.2.2.1,y4.2.2.2.1,()),y4.2.2.2.1,()))/\P ((y4.1,y4.2.1,y4.2.2.1,y4.2.2.2.1,()),y4.2.2.2.1,()))/\(P ((y4.1,y4.2.1,y4.2.2.1,y4.2.2.2.1,()),y4.2.2.2.1,())/\P ((y4.1,y4.2.1,y4.2.2.1,y4.2.2.2.1,()),y4.2.2.2.1,()))/\P ((y4.1,y4.2.1,y4.2.2.1,y4.2.2.2.1,()),y4.2.2.2.1,()))/\ ∃(y3:List Int),Cd.fn (p.1,())=some y3/\ ∃(y4:Bz),Cz.fn ((p.1,p.2.1,p.2.2.1,()),y3,())=some y4/\((P ((y4.1,y4.2.1,y4.2.2.1,y4.2.2.2.1,()),y4.2.2.2.1,())/\P ((y4.1,y4.2.1,y4.2.2.1,y4.2.2.2.1,()),y4.2.2.2.1,()))/\P ((y4.1,y4.2.1,y4.2.2.1,y4.2.2.2.1,()),y4.2.2.2.1,()))/\(P ((y4.1,y4.2.1,y4.2.2.1,y4.2.2.2.1,()),y4.2.2.2.1,())/\P ((y4.1,y4.2.1,y4.2.2.1,y4.2.2.2.1,()),y4.2.2.2.1,()))/\P ((y4.1,y4.2.1,y4.2.2.1,y4.2.2.2.1,()),y4.2.2.2.1,()))/\(∃(y3:List Int),Cd.fn (p.1,())=some y3/\ ∃(y4:Bz),Cz.fn ((p.1,p.2.1,p.2.2.1,()),y3,())=some y4/\((P ((y4.1,y4.2.1,y4.2.2.1,y4.2.2.2.1,()),y4.2.2.2.1,())/\P ((y4.1,y4.2.1,y4.2.2.1,y4.2.2.2.1,()),y4.2.2.2.1,()))/\P ((y4.1,y4.2.1,y4.2.2.1,y4.2.2.2.1,()),y4.2.2.2.1,()))/\(P ((y4.1,y4.2.1,y4.2.2.1,y4.2.2.2.1,()),y4.2.2.2.1,())/\P ((y4.1,y4.2.1,y4.2.2.1,y4.2.2.2.1,()),y4.2.2.2.1,()))/\P ((y4.1,y4.2.1,y4.2.2.1,y4.2.2.2.1,()),y4.2.2.2.1,()))/\(∃(y3:List Int),Cd.fn (p.1,())=some y3/\ ∃(y4:Bz),Cz.fn ((p.1,p.2.1,p.2.2.1,()),y3,())=some y4/\((P ((y4.1,y4.2.1,y4.2.2.1,y4.2.2.2.1,()),y4.2.2.2.1,())/\P ((y4.1,y4.2.1,y4.2.2.1,y4.2.2.2.1,()),y4.2.2.2.1,()))/\P ((y4.1,y4.2.1,y4.2.2.1,y4.2.2.2.1,()),y4.2.2.2.1,()))/\(P ((y4.1,y4.2.1,y4.2.2.1,y4.2.2.2.1,()),y4.2.2.2.1,())/\P ((y4.1,y4.2.1,y4.2.2.1,y4.2.2.2.1,()),y4.2.2.2.1,()))/\P ((y4.1,y4.2.1,y4.2.2.1,y4.2.2.2.1,()),y4.2.2.2.1,()))/\ ∃(y3:List Int),Cd.fn (p.1,())=some y3/\ ∃(y4:Bz),Cz.fn ((p.1,p.2.1,p.2.2.1,()),y3,())=some y4/\((P ((y4.1,y4.2.1,y4.2.2.1,y4.2.2.2.1,()),y4.2.2.2.1,())/\P ((y4.1,y4.2.1,y4.2.2.1,y4.2.2.2.1,()),y4.2.2.2.1,()))/\P ((y4.1,y4.2.1,y4.2.2.1,y4.2.2.2.1,()),y4.2.2.2.1,()))/\(P ((y4.1,y4.2.1,y4.2.2.1,y4.2.2.2.1,()),y4.2.2.2.1,())/\P ((y4.1,y4.2.1,y4.2.2.1,y4.2.2.2.1,()),y4.2.2.2.1,()))/\P ((y4.1,y4.2.1,y4.2.2.1,y4.2.2.2.1,()),y4.2.2.2.1,()))/\(∃(y3:List Int),Cd.fn (p.1,())=some y3/\ ∃(y4:Bz),Cz.fn ((p.1,p.2.1,p.2.2.1,()),y3,())=some y4/\((P ((y4.1,y4.2.1,y4.2.2.1,y4.2.2.2.1,()),y4.2.2.2.1,())/\P ((y4.1,y4.2.1,y4.2.2.1,y4.2.2.2.1,()),y4.2.2.2.1,()))/\P ((y4.1,y4.2.1,y4.2.2.1,y4.2.2.2.1,()),y4.2.2.2.1,()))/\(P ((y4.1,y4.2.1,y4.2.2.1,y4.2.2.2.1,()),y4.2.2.2.1,())/\P ((y4.1,y4.2.1,y4.2.2.1,y4.2.2.2.1,()),y4.2.2.2.1,()))/\P ((y4.1,y4.2.1,y4.2.2.1,y4.2.2.2.1,()),y4.2.2.2.1,()))/\(∃(y3:List Int),Cd.fn (p.1,())=some y3/\ ∃(y4:Bz),Cz.fn ((p.1,p.2.1,p.2.2.1,()),y3,())=some y4/\((P ((y4.1,y4.2.1,y4.2.2.1,y4.2.2.2.1,()),y4.2.2.2.1,())/\P ((y4.1,y4.2.1,y4.2.2.1,y4.2.2.2.1,()),y4.2.2.2.1,()))/\P ((y4.1,y4.2.1,y4.2.2.1,y4.2.2.2.1,()),y4.2.2.2.1,()))/\(P ((y4.1,y4.2.1,y4.2.2.1,y4.2.2.2.1,()),y4.2.2.2.1,())/\P ((y4.1,y4.2.1,y4.2.2.1,y4.2.2.2.1,()),y4.2.2.2.1,()))/\P ((y4.1,y4.2.1,y4.2.2.1,y4.2.2.2.1,()),y4.2.2.2.1,()))/\(∃(y3:List Int),Cd.fn (p.1,())=some y3/\ ∃(y4:Bz),Cz.fn ((p.1,p.2.1,p.2.2.1,()),y3,())=some y4/\((P ((y4.1,y4.2.1,y4.2.2.1,y4.2.2.2.1,()),y4.2.2.2.1,())/\P ((y4.1,y4.2.1,y4.2.2.1,y4.2.2.2.1,()),y4.2.2.2.1,()))/\P ((y4.1,y4.2.1,y4.2.2.1,y4.2.2.2.1,()),y4.2.2.2.1,()))/\(P ((y4.1,y4.2.1,y4.2.2.1,y4.2.2.2.1,()),y4.2.2.2.1,())/\P ((y4.1,y4.2.1,y4.2.2.1,y4.2.2.2.1,()),y4.2.2.2.1,()))/\P ((y4.1,y4.2.1,y4.2.2.1,y4.2.2.2.1,()),y4.2.2.2.1,()))/\ ∃(y3:List Int),Cd.fn (p.1,())=some y3/\ ∃(y4:Bz),Cz.fn ((p.1,p.2.1,p.2.2.1,()),y3,())=some y4/\((P ((y4.1,y4.2.1,y4.2.2.1,y4.2.2.2.1,()),y4.2.2.2.1,())/\P ((y4.1,y4.2.1,y4.2.2.1,y4.2.2.2.1,()),y4.2.2.2.1,()))/\P ((y4.1,y4.2.1,y4.2.2.1,y4.2.2.2.1,()),y4.2.2.2.1,()))/\(P ((y4.1,y4.2.1,y4.2.2.1,y4.2.2.2.1,()),y4.2.2.2.1,())/\P ((y4.1,y4.2.1,y4.2.2.1,y4.2.2.2.1,()),y4.2.2.2.1,()))/\P ((y4.1,y4.2.1,y4.2.2.1,y4.2.2.2.1,()),y4.2.2.2.1,())))=fnW Cl (look [(33,Dw),(35,Cd),(34,Cz)]) Lp Tryz.f19 (p,()) P:=by kernel_rfl
theorem HG (xs is:List Int) (P:List Int->Prop):(((0:Int)<=(↑is.length:Int)/\(↑is.length:Int)<(↑Bg:Int)+(1:Int))/\(↑is.length:Int)=(↑is.length:Int)/\0=0/\(List.replicate (↑is.length:Int).toNat (Int.ofNat (nat_lit 0))).length=(List.replicate (↑is.length:Int).toNat (Int.ofNat (nat_lit 0))).length/\Bi (λ(v3:Int×List Int×PUnit) (k4:Int×List Int×PUnit->Prop)=>Br (decide (v3.1<(↑is.length:Int))) (∃(y5:Int),idx is v3.1=some y5/\ ∃(y6:Int),idx xs y5=some y6/\((0:Int)<=v3.1/\v3.1<(↑v3.2.1.length:Int))/\0+v3.1.toNat<v3.2.1.length/\0=0/\v3.2.1.length=(v3.2.1.set (0+v3.1.toNat) y6).length/\k4 (IntKind.i64.wrap (v3.1+(1:Int)),v3.2.1.set (0+v3.1.toNat) y6,())) (P (List.take v3.2.1.length (List.drop 0 v3.2.1)))) ((0:Int),List.replicate (↑is.length:Int).toNat (Int.ofNat (nat_lit 0)),PUnit.unit))=fnW Cl (look []) Ul Tryz.f72 (xs,is,()) P:=by kernel_rfl
theorem He {p:PP} (hw:Fh p=true):Bf p=true/\(Cu p.2.2.1 (upto p.1.toNat)).2.2=true:=Bool.and_eq_true_iff.1 hw
theorem LS {p:PP} (hv:Bf p=true):Mr p p.1.toNat (Bj p) (ic p):=(cV hv).ok
theorem IT {p:PP} (hV:Valid p):BI p.1.toNat λg=>some g∈p.2.2.1.map some:=
 ⟨by have:=hV.n;omega,λg Zo=>by obtain ⟨g',e,h⟩:=nO (gu hV).2.2 _ Zo;cases e;exact h⟩
theorem SV {p:PP} (hv:Bf p=true) {x:List Int} (hx:x∈Bj p):Pm p.1.toNat x:=Ya.pm (IT (valid hv)) ((cV hv).gen x hx)
theorem NR {p:PP} (hw:Fh p=true):(Vk p).2.1=Bj p/\(Vk p).2.2.1=ic p:=by
 have h:=(He hw).2
 refine vI 3001 0 ([upto p.1.toNat],[0],[0],[0]) [] _ _ ?_
 show Fl p.2.2.1 (Aw p.2.2.1.length) 3001 0 [upto p.1.toNat] [0]=(Bj p,ic p,true)
 rw [<-h]
 rfl
theorem zC (p:PP) (h:Cf p):fnW Cl (look [(33,Dw),(35,Cd),(34,Cz)]) Lp Tryz.f19 (p,()) (λ(z:SS×Bool×Unit)=>z=fN p):=by
 refine Eq.mp (AY p _) ⟨_,if_pos h,?_⟩
 show Br (!Bf p) _ _
 unfold fN
 by_cases hv:Bf p=true
 ·rw [if_pos hv,hv]
  refine ⟨λhb=>by simp at hb,λ_=>?_⟩
  have hn:=(valid hv).n
  have hid:Cd.fn (p.1,())=some (upto p.1.toNat):=if_pos ⟨by show 0<=p.1;omega,by show p.1<=20;omega⟩
  have SI: ∀y∈upto p.1.toNat,0<=y/\y<p.1:= λy hy=>by have:=Ik.1 hy;omega
  have vW:Cz.fn ((p.1,p.2.1,p.2.2.1,()),upto p.1.toNat,())=some (Fe p.2.2.1 (upto p.1.toNat)):=if_pos ⟨hv,by show (upto p.1.toNat).length<=20;rw [Px];omega,SI⟩
  have hz:(((Fe p.2.2.1 (upto p.1.toNat)).1,(Fe p.2.2.1 (upto p.1.toNat)).2.1,(Fe p.2.2.1 (upto p.1.toNat)).2.2.1,(Fe p.2.2.1 (upto p.1.toNat)).2.2.2.1,()),(Fe p.2.2.1 (upto p.1.toNat)).2.2.2.1,())=(Fe p.2.2.1 (upto p.1.toNat),Fh p,()):=by
   unfold Fh
   rw [hv,Bool.true_and]
   rfl
  repeat' (first|exact hz|refine ⟨_,hid,?_⟩|refine ⟨_,vW,?_⟩|refine ⟨?_,?_⟩)
 ·rw [if_neg hv]
  refine ⟨λ_=>rfl,λhb=>?_⟩
  exact absurd (by simpa using hb) hv
theorem oo:Sound Tryz.prog 19 Lp:=
 Sound.Cv Bk (Ae Rh (Ae oc (Ae kQ Ak))) mixed Tryz.func19 (by kernel_rfl) (by kernel_rfl) λx h=>zC x.1 h
theorem FG (xs is:List Int) (h:short is/\Iy xs.length is):fnW Cl (look []) Ul Tryz.f72 (xs,is,()) (λ(z:List Int)=>z=Bo xs is):=by
 obtain ⟨h,hr⟩:=h
 unfold short at h
 have Ly:(Bo xs is).length=is.length:=nM xs is
 refine Eq.mp (HG xs is _) ⟨⟨by omega,by show (is.length:Int)<(4294967296:Int)+1;omega⟩,rfl,rfl,rfl,?_⟩
 refine Ag is.length (λv=>v.1) (λj v=>v.2.1.length=(Bo xs is).length/\v.2.1.take j=(Bo xs is).take j) rfl ⟨by rw [Ly];simp,by simp⟩ ?_
 rintro j ⟨i,ys,⟨⟩⟩ K hj hi ⟨h1,h2⟩ hK
 dsimp only at hi h1 h2⊢
 subst hi
 refine Br.dec (λhl=>?_) λhl=>?_
 ·have hl:j<is.length:=by omega
  have hx:=hr _ (List.getElem_mem hl)
  obtain ⟨xn,JP⟩:=Int.eq_ofNat_of_zero_le hx.1
  have Gq:j<(Bo xs is).length:=by rw [Ly];exact hl
  have e:xs[xn]'(by omega)=(Bo xs is)[j]:=by
   simp only [Bo,List.getElem_map,Ji,JP,Int.toNat_natCast]
   rw [Nb]
  refine ⟨_,Am hl,xs[xn]'(by omega),by rw [JP];exact Am (by omega),⟨by omega,by omega⟩,by rw [Int.toNat_natCast,Nat.zero_add];omega,rfl,by rw [List.length_set],?_⟩
  rw [Ah (by omega),Int.toNat_natCast,Nat.zero_add,e]
  refine hK hl _ rfl ⟨by rw [List.length_set];exact h1,?_⟩
  rw [List.take_add_one,List.take_set_of_le (by omega),h2,List.getElem?_set_self (by omega),List.take_add_one,List.getElem?_eq_getElem Gq]
 ·have:j=is.length:=by omega
  subst this
  rw [At,<-List.take_length (l:=ys),h1,Ly,h2,<-Ly,List.take_length]
theorem pX:Sound Tryz.prog 72 Ul:=
 Sound.Cv Bk Ak mixed Tryz.func72 (by kernel_rfl) (by kernel_rfl) λx h=>FG x.1 x.2.1 h
theorem iI {p:PP} (hv:Bf p=true):(Bj p).length<=3000:=(LS hv).ok.lf
theorem tz {p:PP} {t s:List Int} (hv:Bf p=true) (hs:s∈Bj p) (ht:Co p t=true):Iy s.length t:=by
 have h1:=(SV hv hs).1
 have hn:=(valid hv).n
 intro y hy
 have:=(Eo ht).2 y hy
 omega
theorem oB {p:PP} (hp:Cf p) (hw:Fh p=true):Lp.fn ((p.1,p.2.1,p.2.2.1,()),())=some (Fe p.2.2.1 (upto p.1.toNat),true,()):=
 (if_pos hp).trans (congrArg some ((if_pos (He hw).1).trans (by rw [<-hw])))
theorem tZ {p:PP} (hp:Cf p) (hw: ¬Fh p=true): ∃f,Lp.fn ((p.1,p.2.1,p.2.2.1,()),())=some (f,false,()):=by
 by_cases hv:Bf p=true
 ·exact ⟨_,(if_pos hp).trans (congrArg some ((if_pos hv).trans (by rw [<-Bool.not_eq_true _|>.mp hw])))⟩
 ·exact ⟨_,(if_pos hp).trans (congrArg some (if_neg hv))⟩
end Go.Proofs.YtjbdmibbbpdnnaaGreat

namespace Go.Proofs.YtjbdmibbbpdnnaaGreat
open Go.RowKit
theorem WE {n:Nat} {q:List Int} (h:Pm n q):q.length<=20:=by have:=h.1;have:=h.n2;omega
end Go.Proofs.YtjbdmibbbpdnnaaGreat

namespace Go.Proofs.YtjbdmibbbpdnnaaGreat
open Go.RowKit
theorem map_take {α β:Type} (f:α->β) {xs:List α} {j:Nat} (h:j<xs.length):(xs.take (j+1)).map f=(xs.take j).map f++ [f xs[j]]:=by
 rw [List.take_add_one,List.getElem?_eq_getElem h,List.map_append];rfl
theorem WK {p:PP} (hv:Bf p=true):1<=(Bj p).length:=by
 obtain ⟨A,h⟩:=(cV hv).first
 show 1<=(Cu p.2.2.1 (upto p.1.toNat)).1.length
 rw [h];simp
end Go.Proofs.YtjbdmibbbpdnnaaGreat

namespace Go.Proofs.YtjbdmibbbpdnnaaGreat
open Go.RowKit
theorem rQ {p:PP} (hw:Fh p=true):m9 p.2.2.1 (Aw p.2.2.1.length) (Bj p):=by
 obtain ⟨hv,hb⟩:=He hw
 have hV:=valid hv
 have hn:=hV.n
 exact eF hV (LS hv) (fm hv (by rw [Px];omega) (λy hy=>by have:=Ik.1 hy;omega) hb)
theorem GM {p:PP} (hw:Fh p=true):mc p.2.2.1 (Aw p.2.2.1.length) (Bj p) (ic p):=by
 obtain ⟨hv,hb⟩:=He hw
 have hn:=(valid hv).n
 exact fm hv (by rw [Px];omega) (λy hy=>by have:=Ik.1 hy;omega) hb
theorem u6 {p:PP} (hw:Fh p=true) (Q:List Int->Prop) (hQ: ∀x∈Bj p,Q x-> ∀l∈Aw p.2.2.1.length,Q (Aa x (Af p.2.2.1 l))) {x:List Int} (hx:x∈Bj p) (hq:Q x):
  ∀y∈Bj p,Q y:=by
 have hc:=rQ hw
 have hL:=GM hw
 have up: ∀(j:Nat),j<(Bj p).length->Q ((Bj p).getD j [])->Q ((Bj p).getD 0 []):=by
  intro j
  induction j using Nat.strongRecOn with
  |_ j ih=>
   intro hj hqj
   by_cases e:j=0
   ·subst e;exact hqj
   ·obtain ⟨i,l,h1,h2,h3,_⟩:=hL.par j (by omega) hj
    have hi:i<(Bj p).length:=by omega
    obtain ⟨b1,b2⟩:=hc.back _ (gN hi) l h2
    refine ih i h1 hi ?_
    have:=hQ _ (gN hj) hqj _ b1
    rwa [h3,b2] at this
 have down:Q ((Bj p).getD 0 [])-> ∀(j:Nat),j<(Bj p).length->Q ((Bj p).getD j []):=by
  intro h0 j
  induction j using Nat.strongRecOn with
  |_ j ih=>
   intro hj
   by_cases e:j=0
   ·subst e;exact h0
   ·obtain ⟨i,l,h1,h2,h3,_⟩:=hL.par j (by omega) hj
    have hi:i<(Bj p).length:=by omega
    rw [h3]
    exact hQ _ (gN hi) (ih i h1 hi) l h2
 obtain ⟨j,hj,rfl⟩:=List.mem_iff_getElem.1 hx
 rw [<-Nb (d:= []) hj] at hq
 intro y hy
 obtain ⟨k,hk,rfl⟩:=List.mem_iff_getElem.1 hy
 rw [<-Nb (d:= []) hk]
 exact down (up j hj hq) k hk
end Go.Proofs.YtjbdmibbbpdnnaaGreat

namespace Go.Proofs.YtjbdmibbbpdnnaaGreat
open Go.RowKit
theorem YK {e:XP} (h:YE e):e.2.1=Bj e.1:=(congrArg (λz:XP=>z.2.1) h.2).trans (NR h.1).1
theorem qM {α:Type} {P:α->Bool} : ∀(l:List α) (i:Nat),l.any P=true-> ∃k,∃h:k<l.length,Dv P l (i:Int)=((i+k:Nat):Int)/\P l[k]=true/\ ∀j (h:j<k),P (l[j]'(by omega))=false
 | [],i,h=>by simp at h
 |y::r,i,h=>by
  simp only [Dv]
  by_cases hy:P y=true
  ·rw [if_pos hy]
   exact ⟨0,by simp,rfl,hy,λj hj=>absurd hj (Nat.not_lt_zero _)⟩
  ·rw [if_neg hy]
   have hr:r.any P=true:=by
    rw [List.any_cons,Bool.or_eq_true] at h
    exact h.resolve_left hy
   obtain ⟨k,hk,h1,h2,h3⟩:=qM r (i+1) hr
   refine ⟨k+1,by simpa using hk,?_,h2,λj hj=>?_⟩
   ·rw [show ((i:Int)+1)=((i+1:Nat):Int) by push_cast;rfl,h1]
    congr 1
    omega
   ·cases j with
    |zero=>exact Bool.not_eq_true _|>.mp hy
    |succ j=>exact h3 j (by omega)
end Go.Proofs.YtjbdmibbbpdnnaaGreat

namespace Go.Proofs.YtjbdmibbbpdnnaaGreat
open Go.RowKit
theorem cN {s q t:List Int} (h:Iy s.length t):Bo (Aa s q) t=Aa (Bo s t) q:=by
 unfold Bo Aa
 rw [List.map_map]
 refine List.map_congr_left λy hy=>?_
 obtain ⟨h1,h2⟩:=h y hy
 have hy':y.toNat<s.length:=by omega
 show Ji (s.map (Ji q)) y=Ji q (Ji s y)
 unfold Ji
 rw [Nb (by rw [List.length_map];exact hy'),List.getElem_map,Nb hy']
 try rfl
theorem ri {n:Nat} {t:List Int} (h: ∀y∈t,0<=y/\y<(n:Int)):Bo (upto n) t=t:=by
 unfold Bo
 refine (List.map_congr_left λy hy=>?_).trans (List.map_id t)
 obtain ⟨h1,h2⟩:=h y hy
 obtain ⟨k,rfl⟩:=Int.eq_ofNat_of_zero_le h1
 have hk:k<n:=by omega
 show Ji (upto n) (k:Int)=(k:Int)
 unfold Ji
 rw [Int.toNat_natCast,List.getD_eq_getElem?_getD,oN hk]
 rfl
theorem ki {p:PP} (hv:Bf p=true):(Bj p).getD 0 []=upto p.1.toNat/\upto p.1.toNat∈Bj p:=by
 obtain ⟨A,h⟩:=(cV hv).first
 have h:Bj p=upto p.1.toNat::A:=h
 rw [h]
 exact ⟨rfl,by simp⟩
noncomputable def cH (p:PP) (t:List Int):List (List Int):=(Cu p.2.2.1 t).1
noncomputable def zi (p:PP) (t:List Int):List Int:=(Cu p.2.2.1 t).2.1
theorem kY {p:PP} {t:List Int} (ht:Co p t=true): ∀y∈t,0<=y/\y<((p.1.toNat:Nat):Int):= λy hy=>by
 have h1:=(Eo ht).2 y hy
 have:=(valid (Lq.1 ht).1).n
 omega
theorem FM {p:PP} {t:List Int} (hw:Fh p=true) (ht:Co p t=true):(Cu p.2.2.1 t).2.2=true:=by
 have hv:=(He hw).1
 have hV:=valid hv
 obtain ⟨t1,t2⟩:=Eo ht
 have ct:=nL ht
 obtain ⟨a1,_,a3⟩:=BN hv t1 t2 (λx=> ∃s∈Bj p,x=Bo s t) ⟨_,(ki hv).2,(ri (kY ht)).symm⟩ λx ⟨s,hs,hx⟩ l hl=>by
  refine ⟨_,(rQ hw).next s hs l hl,?_⟩
  rw [hx,cN (tz hv hs ht)]
 refine Classical.byContradiction λhn=>?_
 obtain ⟨h1,z,⟨s,hs,hz⟩,h3⟩:=a3 (by simpa using hn)
 have h5:=cK (l1:=z::(Cu p.2.2.1 t).1) (l2:=(Bj p).map λs=>Bo s t) (List.nodup_cons.2 ⟨h3,ct.ok.nodup⟩) λx hx=>by
  rcases List.mem_cons.1 hx with rfl|hx
  ·exact List.mem_map.2 ⟨s,hs,hz.symm⟩
  ·obtain ⟨s',w6,e⟩:=a1 x hx
   exact List.mem_map.2 ⟨s',w6,e.symm⟩
 have h6:=iI hv
 simp only [List.length_cons,List.length_map] at h5
 omega
theorem Ot.congr {g:List (List Int)} {ls:List Int} {L:List (List Int)} {S S':List Int->Prop} {d:List Int->Int} (h:Ot g ls L S d) (e: ∀x∈L,S x↔S' x):Ot g ls L S' d:=
 ⟨h.nn,λx hx=>(h.zero x hx).trans (e x hx),h.step,h.down⟩
theorem zG {p:PP} {t:List Int} (hw:Fh p=true) (ht:Co p t=true):mc p.2.2.1 (Aw p.2.2.1.length) (cH p t) (zi p t):=
 fm (He hw).1 (Eo ht).1 (Eo ht).2 (FM hw ht)
theorem FL {p:PP} {t:List Int} (ht:Co p t=true):(cH p t).getD 0 []=t/\t∈cH p t:=by
 obtain ⟨_,A,h⟩:=se (Lq.1 ht).1 (Eo ht).1 (Eo ht).2
 have h:cH p t=t::A:=h
 rw [h]
 exact ⟨rfl,by simp⟩
theorem WD {p:PP} {t:List Int} (hw:Fh p=true) (ht:Co p t=true): ∀s∈Bj p,Bo s t∈cH p t:=by
 have hv:=(He hw).1
 have hc:=eF (valid hv) (nL ht) (zG hw ht)
 refine u6 hw (λs=>Bo s t∈cH p t) (λx hx hq l hl=>?_) (ki hv).2 ?_
 ·rw [cN (tz hv hx ht)]
  exact hc.next _ hq l hl
 ·rw [ri (kY ht)]
  exact (FL ht).2
end Go.Proofs.YtjbdmibbbpdnnaaGreat

namespace Go.Proofs.YtjbdmibbbpdnnaaGreat
open Go.RowKit
abbrev BB:Type:=List TT×List (ByteArray->Option Int)×Unit
def GS:List (List Int)->List Int->(ByteArray->Option Int)->ByteArray->Option Int
 |x::xs,d::ds,m=>GS xs ds (Sp m (Ij x) d)
 |_,_,m=>m
def Pg (t:TT):ByteArray->Option Int:=GS t.2.1 t.2.2.1 λ_=>none
def cF (ts:List TT):BB:=(ts,ts.map Pg,())
structure DD (t:TT):Prop where
 lf:t.2.1.length<=3000
 len:t.2.2.1.length=t.2.1.length
 nodup:t.2.1.Nodup
 byte: ∀x∈t.2.1,Ou x
 Adm: ∀d∈t.2.2.1,0<=d/\d<=3000
 tl:t.1.length<=20
 pl: ∀x∈t.2.1,x.length<=20
def Xh (ts:List TT):Prop:=ts.length<=4/\ ∀t∈ts,DD t
def an (t:TT) (s:List Int):Int:=t.2.2.1.getD (t.2.1.idxOf (Bo s t.1)) 0
def No (ts:List TT) (s:List Int):List Int:=ts.map λt=>an t s
def ig (ts:List TT) (s:List Int):Int:=(No ts s).foldl max 0
def bP (ts:List TT) (s:List Int):Prop:=s.length<=20/\ ∀t∈ts,Iy s.length t.1/\Bo s t.1∈t.2.1
noncomputable abbrev Oi:Spec:=Cv (.pair xD .unit) (.optr iP) false false (λx=>Xh x.1) (λx=>some (cF x.1))
def NI (b:Option BB) (s:List Int):Prop:= ∃ts,Xh ts/\b=some (cF ts)/\bP ts s
def KL (b:Option BB) (s:List Int):List Int:=match b with|some b=>No b.1 s|none=> []
def zh (b:Option BB) (s:List Int):Int:=match b with|some b=>ig b.1 s|none=>0
noncomputable abbrev rv:Spec:=Cv (.pair (.optr iP) (.pair tL .unit)) tL false true (λx=>NI x.1 x.2.1) (λx=>KL x.1 x.2.1)
noncomputable abbrev dU:Spec:=Cv (.pair (.optr iP) (.pair tL .unit)) tI false true (λx=>NI x.1 x.2.1) (λx=>zh x.1 x.2.1)
noncomputable abbrev Ze:Spec:=Cv (.pair xD (.pair tL .unit)) tL false true (λx=>Xh x.1/\bP x.1 x.2.1) (λx=>No x.1 x.2.1)
noncomputable abbrev aL:Spec:=Cv (.pair xD (.pair tL .unit)) tI false true (λx=>Xh x.1/\bP x.1 x.2.1) (λx=>ig x.1 x.2.1)
abbrev iM:Type:=Int×List Int×List (List Int)×List Int×List (List Int×List (List Int)×List Int×PUnit)×(ByteArray->Option Int)×List (ByteArray->Option Int)×PUnit
abbrev iO:Type:=Int×List (List Int×List (List Int)×List Int×PUnit)×List (ByteArray->Option Int)×PUnit
theorem xS (ts:List (List Int×List (List Int)×List Int×Unit)) (P:Option (List (List Int×List (List Int)×List Int×Unit)×List (ByteArray->Option Int)×Unit)->Prop):(0=0/\0=([]:List Int).length/\Bi (λ(v2:iO) (k3:iO->Prop)=>Br (decide (v2.1<(↑ts.length:Int))) (∃(y4:List Int×List (List Int)×List Int×PUnit),idx ts v2.1=some y4/\0=0/\v2.2.2.1.length=v2.2.2.1.length/\Bi (λ(v5:iM) (k6:iM->Prop)=>Br (decide (v5.1<(↑y4.2.1.length:Int))) (∃(y7:List Int),idx y4.2.1 v5.1=some y7/\ ∃(y8:ByteArray),Cm.fn (y7,())=some y8/\ ∃(y9:Int),idx v5.2.2.2.1 v5.1=some y9/\0=0/\v5.2.2.2.2.2.2.1.length=v5.2.2.2.2.2.2.1.length/\k6 (IntKind.i64.wrap (v5.1+(1:Int)),v5.2.1,v5.2.2.1,v5.2.2.2.1,v5.2.2.2.2.1,Sp v5.2.2.2.2.2.1 y8 y9,v5.2.2.2.2.2.2.1,())) (0=0/\v5.2.2.2.2.2.2.1.length=v5.2.2.2.2.2.2.1.length/\v5.2.2.2.2.2.2.1.length+(List.take 1 (List.drop 0 [v5.2.2.2.2.2.1])).length<=Bg/\0=0/\(v5.2.2.2.2.2.2.1++List.take 1 (List.drop 0 [v5.2.2.2.2.2.1])).length=(v5.2.2.2.2.2.2.1++List.take 1 (List.drop 0 [v5.2.2.2.2.2.1])).length/\k3 (IntKind.i64.wrap (v2.1+(1:Int)),v5.2.2.2.2.1,v5.2.2.2.2.2.2.1++List.take 1 (List.drop 0 [v5.2.2.2.2.2.1]),()))) ((0:Int),y4.1,y4.2.1,y4.2.2.1,v2.2.1,λ(_:ByteArray)=>none,v2.2.2.1,PUnit.unit)) (P (some (v2.2.1,List.take v2.2.2.1.length (List.drop 0 v2.2.2.1),())))) ((0:Int),ts,[],PUnit.unit))=fnW (AL [Sq+101101]) (look [(42,Cm)]) Oi Tryz.f26 (ts,()) P:=by kernel_rfl
abbrev LX:Type:=List (List Int×List (List Int)×List Int×PUnit)×List (ByteArray->Option Int)×PUnit
theorem Abp (b:Option (List (List Int×List (List Int)×List Int×Unit)×List (ByteArray->Option Int)×Unit)) (s:List Int) (P:List Int->Prop):(∃(y3:LX),b=some y3/\0=0/\0=([]:List Int).length/\Bi (λ(v4:Int×List Int×PUnit) (k5:Int×List Int×PUnit->Prop)=>Br (decide (v4.1<(↑y3.1.length:Int))) (∃(y6:List Int×List (List Int)×List Int×PUnit),idx y3.1 v4.1=some y6/\ ∃(y7:LX),b=some y7/\ ∃(y8:ByteArray->Option Int),idx y7.2.1 v4.1=some y8/\ ∃(y9:List Int),Ul.fn (s,y6.1,())=some y9/\ ∃(bC:ByteArray),Cm.fn (y9,())=some bC/\0=0/\v4.2.1.length=v4.2.1.length/\v4.2.1.length+(List.take 1 (List.drop 0 [(y8 bC).getD (Int.ofNat (nat_lit 0))])).length<=Bg/\0=0/\(v4.2.1++List.take 1 (List.drop 0 [(y8 bC).getD (Int.ofNat (nat_lit 0))])).length=(v4.2.1++List.take 1 (List.drop 0 [(y8 bC).getD (Int.ofNat (nat_lit 0))])).length/\k5 (IntKind.i64.wrap (v4.1+(1:Int)),v4.2.1++List.take 1 (List.drop 0 [(y8 bC).getD (Int.ofNat (nat_lit 0))]),())) (P (List.take v4.2.1.length (List.drop 0 v4.2.1)))) ((0:Int),[],PUnit.unit))=fnW Cl (look [(42,Cm),(72,Ul)]) rv Tryz.f50 (b,s,()) P:=by kernel_rfl
theorem QL (b:Option (List (List Int×List (List Int)×List Int×Unit)×List (ByteArray->Option Int)×Unit)) (s:List Int) (P:Int->Prop):(∃(y3:List Int),rv.fn (b,s,())=some y3/\Bi (λ(v4:Int×Int×PUnit) (k5:Int×Int×PUnit->Prop)=>Br (decide (v4.2.1<(↑y3.length:Int))) (∃(y6:Int),idx y3 v4.2.1=some y6/\k5 (if true=true then if y6>v4.1 then y6 else v4.1 else if y6<v4.1 then y6 else v4.1,IntKind.i64.wrap (v4.2.1+(1:Int)),())) (P v4.1)) ((0:Int),(0:Int),PUnit.unit))=fnW Cl (look [(50,rv)]) dU Tryz.f27 (b,s,()) P:=by kernel_rfl
abbrev jU:Type:=List Int×List (List Int)×List Int×PUnit
theorem MO (ts:List (List Int×List (List Int)×List Int×Unit)) (s:List Int) (P:List Int->Prop):(0=0/\0=([]:List Int).length/\Bi (λ(v3:Int×List Int×PUnit) (k4:Int×List Int×PUnit->Prop)=>Br (decide (v3.1<(↑ts.length:Int))) (∃(y5:jU),idx ts v3.1=some y5/\ ∃(y6:jU),idx ts v3.1=some y6/\ ∃(y7:jU),idx ts v3.1=some y7/\ ∃(y8:List Int),Um.fn (y7.1,s,())=some y8/\ ∃(y9:Int),Ns.fn (y6,y8,())=some y9/\ ∃(bC:Int),idx y5.2.2.1 y9=some bC/\0=0/\v3.2.1.length=v3.2.1.length/\v3.2.1.length+(List.take 1 (List.drop 0 [bC])).length<=Bg/\0=0/\(v3.2.1++List.take 1 (List.drop 0 [bC])).length=(v3.2.1++List.take 1 (List.drop 0 [bC])).length/\k4 (IntKind.i64.wrap (v3.1+(1:Int)),v3.2.1++List.take 1 (List.drop 0 [bC]),())) (P (List.take v3.2.1.length (List.drop 0 v3.2.1)))) ((0:Int),[],PUnit.unit))=fnW Cl (look [(62,Um),(61,Ns)]) Ze Tryz.f37 (ts,s,()) P:=by kernel_rfl
theorem QK (ts:List (List Int×List (List Int)×List Int×Unit)) (s:List Int) (P:Int->Prop):(∃(y3:List Int),Ze.fn (ts,s,())=some y3/\Bi (λ(v4:Int×Int×PUnit) (k5:Int×Int×PUnit->Prop)=>Br (decide (v4.2.1<(↑y3.length:Int))) (∃(y6:Int),idx y3 v4.2.1=some y6/\k5 (if true=true then if y6>v4.1 then y6 else v4.1 else if y6<v4.1 then y6 else v4.1,IntKind.i64.wrap (v4.2.1+(1:Int)),())) (P v4.1)) ((0:Int),(0:Int),PUnit.unit))=fnW Cl (look [(37,Ze)]) aL Tryz.f21 (ts,s,()) P:=by kernel_rfl
theorem DD.short {t:TT} (h:DD t):Iv t:=by
 have h1:=h.lf;have h2:=h.len;have h3:=h.tl
 exact ⟨by unfold _root_.Go.Proofs.YtjbdmibbbpdnnaaGreat.short;omega,⟨by omega,λr hr=>by have:=h.pl r hr;unfold _root_.Go.Proofs.YtjbdmibbbpdnnaaGreat.short;omega⟩,by unfold _root_.Go.Proofs.YtjbdmibbbpdnnaaGreat.short;omega⟩
theorem rV {p:PP} {t:TT} (h:Dh p t=true):DD t/\Co p t.1=true/\(Cu p.2.2.1 t.1).2.2=true/\t.2.1=cH p t.1/\t.2.2.1=zi p t.1:=by
 obtain ⟨h1,h2⟩:=Bool.and_eq_true_iff.1 h
 obtain ⟨h3,h4⟩:=Za.1 h1
 have h5:=jq.1 h2
 unfold Du at h5
 rw [if_pos h1] at h5
 have e1:t.2.1=cH p t.1:=(congrArg (λz:TT=>z.2.1) h5).symm
 have e2:t.2.2.1=zi p t.1:=(congrArg (λz:TT=>z.2.2.1) h5).symm
 have hv:=(Lq.1 h3).1
 have hn:=(valid hv).n
 have ct:=nL h3
 have lj:=ct.ok.lf
 have hlen:=ct.len
 have yf:=ct.ok.short
 refine ⟨⟨by rw [e1];exact lj,by rw [e1,e2];exact hlen,by rw [e1];exact ct.ok.nodup,λx hx=>?_,λd hd=>?_,(Eo h3).1,λx hx=>?_⟩,h3,h4,e1,e2⟩
 ·rw [e1] at hx
  intro y hy
  have:=ct.row x hx y hy
  omega
 ·rw [e2] at hd
  obtain ⟨j,hj,rfl⟩:=List.mem_iff_getElem.1 hd
  have h6:=ct.dep j hj
  have lW:j<(Cu p.2.2.1 t.1).2.1.length:=hj
  exact ⟨h6.1,by have:=h6.2;show (Cu p.2.2.1 t.1).2.1[j]<=3000;omega⟩
 ·rw [e1] at hx
  have:=ct.ok.len x hx
  omega
theorem Xa {p:PP} {ts:List TT} (h:Eg p ts=true):Bf p=true/\Xh ts/\ ∀t∈ts,Dh p t=true:=by
 unfold Eg at h
 rw [Bool.and_eq_true,Bool.and_eq_true,List.all_eq_true,decide_eq_true_iff] at h
 exact ⟨h.1.1,⟨h.1.2,λt ht=>(rV (h.2 t ht)).1⟩,h.2⟩
theorem xG: ∀(xs:List (List Int)) (ds:List Int) (m:ByteArray->Option Int) (x:List Int),xs.length=ds.length->xs.Nodup->(∀y∈xs,Ou y)->Ou x->GS xs ds m (Ij x)=if x∈xs then some (ds.getD (xs.idxOf x) 0) else m (Ij x)
 | [],ds,m,x,_,_,_,_=>by cases ds<;>simp [GS]
 |y::xs,[],m,x,hl,_,_,_=>by simp at hl
 |y::xs,d::ds,m,x,hl,hn,hb,hx=>by
  obtain ⟨hy,hn⟩:=List.nodup_cons.1 hn
  simp only [GS]
  rw [xG xs ds _ x (by simpa using hl) hn (λz hz=>hb z (List.mem_cons_of_mem _ hz)) hx]
  by_cases hm:x∈xs
  ·have Fc:y≠x:= λe=>hy (e▸hm)
   have hi:(y::xs).idxOf x=xs.idxOf x+1:=by rw [List.idxOf_cons,show (y==x)=false by simpa using Fc];rfl
   rw [if_pos hm,if_pos (List.mem_cons_of_mem _ hm),hi]
   rfl
  ·rw [if_neg hm]
   unfold Sp
   by_cases e:Ij x=Ij y
   ·have:=key_inj hx (hb y (by simp)) e
    subst this
    rw [if_pos e,if_pos (by simp),List.idxOf_cons_self]
    rfl
   ·have Fc:x≠y:= λh=>e (by rw [h])
    rw [if_neg e,if_neg (by simp [Fc,hm])]
theorem MH {t:TT} (h:DD t) {x:List Int} (hx:x∈t.2.1):Pg t (Ij x)=some (t.2.2.1.getD (t.2.1.idxOf x) 0):=by
 unfold Pg
 rw [xG _ _ _ _ h.len.symm h.nodup h.byte (h.byte x hx),if_pos hx]
theorem x4 (ts:List TT) (h:Xh ts):fnW (AL [Sq+101101]) (look [(42,Cm)]) Oi Tryz.f26 (ts,()) (λ(z:Option BB)=>z=some (cF ts)):=by
 obtain ⟨h4,hd⟩:=h
 refine Eq.mp (xS ts _) ⟨rfl,rfl,?_⟩
 refine Ag ts.length (λv=>v.1) (λi v=>v=((i:Int),ts,(ts.take i).map Pg,())) rfl rfl ?_
 rintro i v K hi RT rfl hK
 dsimp only
 refine Br.dec (λhl=>?_) λhl=>?_
 ·have hl:i<ts.length:=by omega
  have DU:=hd _ (List.getElem_mem hl)
  have lj:=DU.lf
  have hlen:=DU.len
  have UX:=DU.short
  refine ⟨_,Am hl,rfl,rfl,?_⟩
  refine Ag (ts[i]).2.1.length (λv=>v.1) (λj v=> ∃m,v=((j:Int),(ts[i]).1,(ts[i]).2.1,(ts[i]).2.2.1,ts,m,(ts.take i).map Pg,())/\GS ((ts[i]).2.1.drop j) ((ts[i]).2.2.1.drop j) m=Pg ts[i]) rfl ⟨_,rfl,by rw [List.drop_zero,List.drop_zero];rfl⟩ ?_
  rintro j v K1 hj hjj ⟨m,rfl,hm⟩ hK1
  dsimp only
  refine Br.dec (λdJ=>?_) λdJ=>?_
  ·have dJ:j<(ts[i]).2.1.length:=by omega
   have uI:j<(ts[i]).2.2.1.length:=by omega
   rw [List.drop_eq_getElem_cons dJ,List.drop_eq_getElem_cons uI] at hm
   refine ⟨_,Am dJ,_,if_pos (UX.2.1.2 _ (List.getElem_mem dJ)),_,Am uI,rfl,rfl,?_⟩
   rw [Ah (by omega)]
   exact hK1 dJ _ rfl ⟨_,rfl,hm⟩
  ·have:j=(ts[i]).2.1.length:=by omega
   subst this
   rw [List.drop_length] at hm
   have hm:m=Pg ts[i]:=by
    rw [<-hm]
    cases List.drop (ts[i]).2.1.length (ts[i]).2.2.1<;>rfl
   subst hm
   refine ⟨rfl,rfl,by show ((ts.take i).map Pg).length+1<=4294967296;rw [List.length_map,List.length_take];omega,rfl,rfl,?_⟩
   rw [Ah (by omega)]
   have hmm:(ts.take (i+1)).map Pg=(ts.take i).map Pg++ [Pg ts[i]]:=by
    rw [List.take_add_one,List.getElem?_eq_getElem hl,Option.toList_some,List.map_append]
    rfl
   refine hK hl _ rfl ?_
   rw [hmm]
   rfl
 ·have:i=ts.length:=by omega
  subst this
  rw [At,List.take_length]
  rfl
theorem lF:Sound Tryz.prog 26 Oi:=
 Sound.Cv (AM [Sq+101101]) (Ae Pu Ak) mixed Tryz.func26 (by kernel_rfl) (by kernel_rfl) λx h=>x4 x.1 h
theorem gq (ts:List TT) (s:List Int):(No ts s).length=ts.length:=by unfold No;rw [List.length_map]
theorem yr {t:TT} (h:DD t) {s:List Int} (hs:Bo s t.1∈t.2.1):0<=an t s/\an t s<=3000:=by
 have hi:=List.idxOf_lt_length_of_mem hs
 have hl:=h.len
 unfold an
 rw [Nb (by omega)]
 exact h.Adm _ (List.getElem_mem _)
theorem DJ {ts:List TT} (h:Xh ts) {s:List Int} (hs:bP ts s): ∀d∈No ts s,0<=d/\d<=3000:= λd hd=>by
 obtain ⟨t,ht,rfl⟩:=List.mem_map.1 hd
 exact yr (h.2 t ht) (hs.2 t ht).2
theorem qv {ts:List TT} {s:List Int} {i:Nat} (hl:i<ts.length):(No (ts.take (i+1)) s)=No (ts.take i) s++ [an ts[i] s]:=by
 unfold No
 rw [List.take_add_one,List.getElem?_eq_getElem hl,Option.toList_some,List.map_append]
 rfl
theorem Ab1 (b:Option BB) (s:List Int) (h:NI b s):fnW Cl (look [(42,Cm),(72,Ul)]) rv Tryz.f50 (b,s,()) (λ(z:List Int)=>z=KL b s):=by
 obtain ⟨ts,⟨h4,hd⟩,rfl,hs⟩:=h
 refine Eq.mp (Abp _ s _) ⟨cF ts,rfl,rfl,rfl,?_⟩
 show Bi _ _
 refine Ag ts.length (λv=>v.1) (λi v=>v=((i:Int),No (ts.take i) s,())) rfl rfl ?_
 rintro i v K hi RT rfl hK
 dsimp only
 refine Br.dec (λhl=>?_) λhl=>?_
 ·have hl:i<ts.length:=by have hl:(i:Int)<(ts.length:Int):=hl;omega
  have DU:=hd _ (List.getElem_mem hl)
  obtain ⟨gf,oZ⟩:=hs.2 _ (List.getElem_mem hl)
  have htl:=DU.tl
  have dK:=DU.pl _ oZ
  refine ⟨ts[i],Am hl,cF ts,rfl,Pg ts[i],?_,_,if_pos ⟨by show (ts[i]).1.length<=4294967296;omega,gf⟩,_,if_pos (by show (Bo s (ts[i]).1).length<=4294967296;omega),rfl,rfl,?_,rfl,rfl,?_⟩
  ·show idx (ts.map Pg) (i:Int)=_
   rw [Am (by rw [List.length_map];exact hl),List.getElem_map]
  ·show (No (ts.take i) s).length+1<=4294967296
   rw [gq,List.length_take];omega
  ·rw [Ah (by omega)]
   refine hK hl _ rfl ?_
   rw [qv hl,show Pg ts[i] (Ij (Bo s (ts[i]).1))=some (an ts[i] s) from MH DU oZ]
   rfl
 ·have:i=ts.length:=by have hl: ¬(i:Int)<(ts.length:Int):=hl;omega
  subst this
  rw [At,List.take_length]
  rfl
theorem GA:Sound Tryz.prog 50 rv:=
 Sound.Cv Bk (Ae Pu (Ae pX Ak)) mixed Tryz.func50 (by kernel_rfl) (by kernel_rfl) λx h=>Ab1 x.1 x.2.1 h
theorem KQ (a b:Int):(if true=true then if b>a then b else a else if b<a then b else a)=max a b:=by
 rw [if_pos rfl]
 by_cases h:b>a
 ·rw [if_pos h,Int.max_eq_right (by omega)]
 ·rw [if_neg h,Int.max_eq_left (by omega)]
theorem IS {xs:List Int} {m:Int} (h: ∀x∈xs,0<=x/\x<=m) (hm:0<=m):0<=xs.foldl max 0/\xs.foldl max 0<=m:=by
 rcases Xm xs 0 with h1|h1
 ·rw [h1];exact ⟨Int.le_refl _,hm⟩
 ·exact h _ h1
theorem OY {ts:List TT} (h:Xh ts) {s:List Int} (hs:bP ts s):0<=ig ts s/\ig ts s<=3000:=IS (DJ h hs) (by omega)
theorem PK (b:Option BB) (s:List Int) (h:NI b s):fnW Cl (look [(50,rv)]) dU Tryz.f27 (b,s,()) (λ(z:Int)=>z=zh b s):=by
 obtain ⟨ts,ht,hb,hs⟩:=id h
 have hl4:=ht.1
 have hlen:=gq ts s
 obtain ⟨xs,NG⟩: ∃xs,KL b s=xs:=⟨_,rfl⟩
 have JP:zh b s=xs.foldl max 0:=by rw [<-NG,hb];rfl
 have JQ:xs.length=ts.length:=by rw [<-NG,hb];exact hlen
 refine Eq.mp (QL b s _) ⟨xs,(if_pos h).trans (congrArg some NG),?_⟩
 rw [JP]
 refine Ag xs.length (λv=>v.2.1) (λi v=>v=((xs.take i).foldl max 0,(i:Int),())) rfl rfl ?_
 rintro i v K hi RT rfl hK
 dsimp only
 refine Br.dec (λhl=>?_) λhl=>?_
 ·have hl:i<xs.length:=by omega
  refine ⟨_,Am hl,?_⟩
  rw [Ah (by omega)]
  refine hK hl _ rfl ?_
  rw [List.take_add_one,List.getElem?_eq_getElem hl,Option.toList_some,List.foldl_append,KQ]
  rfl
 ·have:i=xs.length:=by omega
  subst this
  rw [List.take_length]
theorem xq:Sound Tryz.prog 27 dU:=
 Sound.Cv Bk (Ae GA Ak) mixed Tryz.func27 (by kernel_rfl) (by kernel_rfl) λx h=>PK x.1 x.2.1 h
theorem yZ {L:List (List Int)} {x:List Int} (hn:L.Nodup) (hx:x∈L):Dv (λq=>decide (q=x)) L 0=((L.idxOf x:Nat):Int):=by
 obtain ⟨k,hk,h1,h2,_⟩:=qM (P:= λq=>decide (q=x)) L 0 (List.any_eq_true.2 ⟨x,hx,decide_eq_true rfl⟩)
 have h3:L[k]=x:=of_decide_eq_true h2
 have h4:=yY hn hk
 rw [Nb hk,h3] at h4
 rw [h4,<-Nat.zero_add k]
 exact h1
theorem KZ (ts:List TT) (s:List Int) (h:Xh ts/\bP ts s):fnW Cl (look [(62,Um),(61,Ns)]) Ze Tryz.f37 (ts,s,()) (λ(z:List Int)=>z=No ts s):=by
 obtain ⟨⟨h4,hd⟩,hs⟩:=h
 refine Eq.mp (MO ts s _) ⟨rfl,rfl,?_⟩
 refine Ag ts.length (λv=>v.1) (λi v=>v=((i:Int),No (ts.take i) s,())) rfl rfl ?_
 rintro i v K hi RT rfl hK
 dsimp only
 refine Br.dec (λhl=>?_) λhl=>?_
 ·have hl:i<ts.length:=by omega
  have DU:=hd _ (List.getElem_mem hl)
  obtain ⟨gf,oZ⟩:=hs.2 _ (List.getElem_mem hl)
  have htl:=DU.tl
  have dK:=DU.pl _ oZ
  have hix:=List.idxOf_lt_length_of_mem oZ
  have hle:=DU.len
  have he:Ns.fn (((ts[i]).1,(ts[i]).2.1,(ts[i]).2.2.1,()),Bo s (ts[i]).1,())=some (((ts[i]).2.1.idxOf (Bo s (ts[i]).1):Nat):Int):=
   (if_pos ⟨DU.short,by show (Bo s (ts[i]).1).length<=4294967296;omega⟩).trans (congrArg some (yZ DU.nodup oZ))
  refine ⟨_,Am hl,_,Am hl,_,Am hl,_,if_pos ⟨by show (ts[i]).1.length<=4294967296;omega,gf⟩,_,he,_,Am (by omega),rfl,rfl,?_,rfl,rfl,?_⟩
  ·show (No (ts.take i) s).length+1<=4294967296
   rw [gq,List.length_take];omega
  ·rw [Ah (by omega)]
   refine hK hl _ rfl ?_
   rw [qv hl]
   unfold an
   rw [Nb (by omega)]
   rfl
 ·have:i=ts.length:=by omega
  subst this
  rw [At,List.take_length]
theorem tW:Sound Tryz.prog 37 Ze:=
 Sound.Cv Bk (Ae pY (Ae ou Ak)) mixed Tryz.func37 (by kernel_rfl) (by kernel_rfl) λx h=>KZ x.1 x.2.1 h
theorem PJ (ts:List TT) (s:List Int) (h:Xh ts/\bP ts s):fnW Cl (look [(37,Ze)]) aL Tryz.f21 (ts,s,()) (λ(z:Int)=>z=ig ts s):=by
 have hl4:=h.1.1
 have hlen:=gq ts s
 obtain ⟨xs,NG⟩: ∃xs,No ts s=xs:=⟨_,rfl⟩
 have JP:ig ts s=xs.foldl max 0:=by rw [<-NG];rfl
 have JQ:xs.length=ts.length:=by rw [<-NG];exact hlen
 refine Eq.mp (QK ts s _) ⟨xs,(if_pos h).trans (congrArg some NG),?_⟩
 rw [JP]
 refine Ag xs.length (λv=>v.2.1) (λi v=>v=((xs.take i).foldl max 0,(i:Int),())) rfl rfl ?_
 rintro i v K hi RT rfl hK
 dsimp only
 refine Br.dec (λhl=>?_) λhl=>?_
 ·have hl:i<xs.length:=by omega
  refine ⟨_,Am hl,?_⟩
  rw [Ah (by omega)]
  refine hK hl _ rfl ?_
  rw [List.take_add_one,List.getElem?_eq_getElem hl,Option.toList_some,List.foldl_append,KQ]
  rfl
 ·have:i=xs.length:=by omega
  subst this
  rw [List.take_length]
theorem xp:Sound Tryz.prog 21 aL:=
 Sound.Cv Bk (Ae tW Ak) mixed Tryz.func21 (by kernel_rfl) (by kernel_rfl) λx h=>PJ x.1 x.2.1 h
theorem dm {p:PP} {ts:List TT} (hw:Fh p=true) (ht:Eg p ts=true) {s:List Int} (hs:s∈Bj p):bP ts s:=by
 obtain ⟨hv,_,Ho⟩:=Xa ht
 refine ⟨WE (SV hv hs),λt jl=>?_⟩
 obtain ⟨_,h3,_,e1,_⟩:=rV (Ho t jl)
 exact ⟨tz hv hs h3,by rw [e1];exact WD hw h3 s hs⟩
end Go.Proofs.YtjbdmibbbpdnnaaGreat
