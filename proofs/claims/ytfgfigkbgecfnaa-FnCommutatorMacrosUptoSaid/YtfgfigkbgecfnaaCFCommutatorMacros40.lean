/-
  Part 41 of the proof that the statement FnCommutatorMacros holds.
-/
import Derived.Test.YtfgfigkbgecfnaaCFCommutatorMacros39
import Derived.Shelf.RegionOpenPlain
import Derived.WalkKit
import Derived.Lib.Walk
namespace Go.Proofs.Ytfgfigkbgecfnaa
open Go.RowKit
def ap (p:List Int) (i:Nat):Nat:=(Gr p (i:Int)).toNat
def Pm (n:Nat) (p:List Int):Prop:=p.length=n/\Wk p
theorem Pm.n1 {n:Nat} {p:List Int} (h:Pm n p):1<=n:=h.1▸h.2.pos
theorem Pm.n2 {n:Nat} {p:List Int} (h:Pm n p):n<=20:=h.1▸h.2.len
theorem Pm.Vy {n:Nat} {p:List Int} (h:Pm n p) {i:Nat} (hi:i<n):Gr p (i:Int)=(ap p i:Int)/\ap p i<n:=by
 have k9:i<p.length:=by rw [h.1];exact hi
 have:=h.2.row _ (Ar k9)
 unfold ap
 rw [Kp k9]
 have h1:=h.1
 omega
theorem Pm.lt {n:Nat} {p:List Int} (h:Pm n p) {i:Nat} (hi:i<n):ap p i<n:=(h.Vy hi).2
theorem Pm.ext {n:Nat} {p q:List Int} (h:Pm n p) (k:Pm n q) (e: ∀i,i<n->ap p i=ap q i):p=q:=by
 refine List.ext_getElem (by rw [h.1,k.1]) λi h1 h2=>?_
 have hi:i<n:=by rw [<-h.1];exact h1
 have a:=(h.Vy hi).1
 have b:=(k.Vy hi).1
 rw [Kp h1] at a
 rw [Kp h2] at b
 rw [a,b,e i hi]
theorem Pm.inj {n:Nat} {p:List Int} (h:Pm n p) {i j:Nat} (hi:i<n) (hj:j<n) (e:ap p i=ap p j):i=j:=
 h.2.inj i j (by rw [h.1];exact hi) (by rw [h.1];exact hj) e
theorem Pm.yV {n:Nat} {p:List Int} (h:Pm n p) {k:Nat} (hk:k<n): ∃i,i<n/\ap p i=k:=by
 obtain ⟨i,h1,h2⟩:=h.2.yV k (by rw [h.1];exact hk)
 exact ⟨i,by rw [<-h.1];exact h1,h2⟩
theorem Pm.of {n:Nat} {p:List Int} (hl:p.length=n) (h1:1<=n) (h2:n<=20) (f:Nat->Nat) (hf: ∀i,i<n->p[i]?=some (f i:Int)/\f i<n) (hi: ∀i j,i<n->j<n->f i=f j->i=j):Pm n p:=by
 refine ⟨hl,by omega,by omega,λy hy=>?_,?_⟩
 ·obtain ⟨i,hi,rfl⟩:=Db.1 hy
  obtain ⟨h3,h4⟩:=hf i (by omega)
  rw [Ac hi] at h3
  rw [Aw h3]
  omega
 ·refine Fa.2 λi j h3 h4 h5 h6=>?_
  have a:=(hf i (by omega)).1
  have b:=(hf j (by omega)).1
  rw [Ac h3] at a
  rw [Ac h4] at b
  rw [Aw a,Aw b] at h6
  have:=hi i j (by omega) (by omega) (by omega)
  omega
theorem sL {n:Nat} {p q:List Int} (hp:Pm n p) (hq:Pm n q) {i:Nat} (hi:i<n):(As p q)[i]?=some (ap q (ap p i):Int):=by
 have h1:i<p.length:=by rw [hp.1];exact hi
 unfold As
 rw [Et,Ac h1]
 have a:=(hp.Vy hi).1
 rw [Kp h1] at a
 simp only [Ah,a]
 rw [(hq.Vy (hp.Vy hi).2).1]
theorem Pm.comp {n:Nat} {p q:List Int} (hp:Pm n p) (hq:Pm n q):Pm n (As p q):=
 Pm.of (by rw [Ya,hp.1]) hp.n1 hp.n2 (λi=>ap q (ap p i)) (λi hi=>⟨sL hp hq hi,hq.lt (hp.lt hi)⟩) λi j hi hj e=>hp.inj hi hj (hq.inj (hp.lt hi) (hp.lt hj) e)
theorem AM {p:List Int} {i k:Nat} (h:p[i]?=some (k:Int)):ap p i=k:=by
 unfold ap Gr
 rw [Cq,An,h]
 simp
theorem To {n:Nat} {p q:List Int} (hp:Pm n p) (hq:Pm n q) {i:Nat} (hi:i<n):ap (As p q) i=ap q (ap p i):=AM (sL hp hq hi)
theorem uG {n i:Nat} (hi:i<n):(upto n)[i]?=some (i:Int):=by simp [upto,hi]
theorem sC {n i:Nat} (hi:i<n):ap (upto n) i=i:=AM (uG hi)
theorem Pm.id {n:Nat} (h1:1<=n) (h2:n<=20):Pm n (upto n):=Pm.of (by simp [upto]) h1 h2 (λi=>i) (λi hi=>⟨uG hi,hi⟩) λ_ _ _ _ e=>e
theorem xJ {n:Nat} {p:List Int} (hp:Pm n p) {i:Nat} (hi:i<n):(Bx p)[ap p i]?=some (i:Int):=CE hp.2 (by rw [hp.1];exact hi)
theorem l4 {n:Nat} {p:List Int} (hp:Pm n p) {i:Nat} (hi:i<n):ap (Bx p) (ap p i)=i:=AM (xJ hp hi)
theorem qa {n:Nat} {p:List Int} (hp:Pm n p) {k:Nat} (hk:k<n):ap p (ap (Bx p) k)=k:=by
 obtain ⟨i,hi,rfl⟩:=hp.yV hk
 rw [l4 hp hi]
theorem Pm.inv {n:Nat} {p:List Int} (hp:Pm n p):Pm n (Bx p):=by
 refine Pm.of (by rw [qF,hp.1]) hp.n1 hp.n2 (λk=>ap (Bx p) k) (λk hk=>?_) λi j hi hj e=>?_
 ·obtain ⟨i,hi,rfl⟩:=hp.yV hk
  rw [l4 hp hi]
  exact ⟨xJ hp hi,hi⟩
 ·rw [<-qa hp hi,<-qa hp hj,e]
theorem Js {n:Nat} {p q r:List Int} (hp:Pm n p) (hq:Pm n q) (hr:Pm n r):As (As p q) r=As p (As q r):=
 ((hp.comp hq).comp hr).ext (hp.comp (hq.comp hr)) λi hi=>by rw [To (hp.comp hq) hr hi,To hp hq hi,To hp (hq.comp hr) hi,To hq hr (hp.lt hi)]
theorem comp_id {n:Nat} {p:List Int} (hp:Pm n p):As p (upto n)=p:=
 (hp.comp (Pm.id hp.n1 hp.n2)).ext hp λi hi=>by rw [To hp (Pm.id hp.n1 hp.n2) hi,sC (hp.lt hi)]
theorem id_comp {n:Nat} {p:List Int} (hp:Pm n p):As (upto n) p=p:=
 ((Pm.id hp.n1 hp.n2).comp hp).ext hp λi hi=>by rw [To (Pm.id hp.n1 hp.n2) hp hi,sC hi]
theorem cT {n:Nat} {p:List Int} (hp:Pm n p):As p (Bx p)=upto n:=
 (hp.comp hp.inv).ext (Pm.id hp.n1 hp.n2) λi hi=>by rw [To hp hp.inv hi,l4 hp hi,sC hi]
theorem ie {n:Nat} {p:List Int} (hp:Pm n p):As (Bx p) p=upto n:=
 (hp.inv.comp hp).ext (Pm.id hp.n1 hp.n2) λi hi=>by rw [To hp.inv hp hi,qa hp hi,sC hi]
theorem mi {n:Nat} {p q:List Int} (hp:Pm n p) (hq:Pm n q) (h:As p q=upto n):Bx p=q:=by
 rw [<-comp_id hp.inv,<-h,<-Js hp.inv hp hq,ie hp,id_comp hq]
theorem inv_mul {n:Nat} {p q:List Int} (hp:Pm n p) (hq:Pm n q):Bx (As p q)=As (Bx q) (Bx p):=
 mi (hp.comp hq) (hq.inv.comp hp.inv) (by
  rw [Js hp hq (hq.inv.comp hp.inv),<-Js hq hq.inv hp.inv,cT hq,id_comp hp.inv,cT hp])
theorem inv_inv {n:Nat} {p:List Int} (hp:Pm n p):Bx (Bx p)=p:=mi hp.inv hp (ie hp)
theorem LV {n:Nat} (h1:1<=n) (h2:n<=20):Bx (upto n)=upto n:=mi (Pm.id h1 h2) (Pm.id h1 h2) (comp_id (Pm.id h1 h2))
inductive gy (n:Nat) (S:List Int->Prop):List Int->Prop where
 |id:gy n S (upto n)
 |mul {p g:List Int} :gy n S p->S g->gy n S (As p g)
 |inv {p g:List Int} :gy n S p->S g->gy n S (As p (Bx g))
def NA (n:Nat) (S:List Int->Prop):Prop:=(1<=n/\n<=20)/\ ∀g,S g->Pm n g
theorem gy.pm {n:Nat} {S:List Int->Prop} (hS:NA n S) {p:List Int} (h:gy n S p):Pm n p:=by
 induction h with
 |id=>exact Pm.id hS.1.1 hS.1.2
 |mul _ hg ih=>exact ih.comp (hS.2 _ hg)
 |inv _ hg ih=>exact ih.comp (hS.2 _ hg).inv
theorem gy.comp {n:Nat} {S:List Int->Prop} (hS:NA n S) {p q:List Int} (hp:gy n S p) (hq:gy n S q):gy n S (As p q):=by
 induction hq with
 |id=>rw [comp_id (hp.pm hS)];exact hp
 |mul hq hg ih=>rw [<-Js (hp.pm hS) (hq.pm hS) (hS.2 _ hg)];exact .mul ih hg
 |inv hq hg ih=>rw [<-Js (hp.pm hS) (hq.pm hS) (hS.2 _ hg).inv];exact .inv ih hg
theorem gy.one {n:Nat} {S:List Int->Prop} (hS:NA n S) {g:List Int} (hg:S g):gy n S g:=by
 have:=gy.mul (n:=n) (S:=S) .id hg
 rwa [id_comp (hS.2 g hg)] at this
theorem gy.MG {n:Nat} {S:List Int->Prop} (hS:NA n S) {g:List Int} (hg:S g):gy n S (Bx g):=by
 have:=gy.inv (n:=n) (S:=S) .id hg
 rwa [id_comp (hS.2 g hg).inv] at this
theorem gy.GQ {n:Nat} {S:List Int->Prop} (hS:NA n S) {p:List Int} (hp:gy n S p):gy n S (Bx p):=by
 induction hp with
 |id=>rw [LV hS.1.1 hS.1.2];exact .id
 |mul hq hg ih=>rw [inv_mul (hq.pm hS) (hS.2 _ hg)];exact (gy.MG hS hg).comp hS ih
 |inv hq hg ih=>rw [inv_mul (hq.pm hS) (hS.2 _ hg).inv,inv_inv (hS.2 _ hg)];exact (gy.one hS hg).comp hS ih
theorem gy.trans {n:Nat} {S S':List Int->Prop} (UZ:NA n S') (h: ∀g,S g->gy n S' g) {p:List Int} (hp:gy n S p):gy n S' p:=by
 induction hp with
 |id=>exact .id
 |mul _ hg ih=>exact ih.comp UZ (h _ hg)
 |inv _ hg ih=>exact ih.comp UZ ((h _ hg).GQ UZ)
abbrev PO:=Option (List Int)
abbrev Row:=List PO
abbrev Of:=List Row
def xx (T:Of):Nat->Nat->List Int->Bool
 |0,_,_=>true
 |k+1,i,p=>match (T.getD i []).getD (Gr p (i:Int)).toNat none with
  |none=>false
  |some t=>xx T k (i+1) (As p (Bx t))
def JL (row:Row):Nat:=row.countP (·.isNone)
def Fx (l:Nat) (p:List Int):Prop:= ∀i,i<l->ap p i=i
def Gn (n:Nat) (gs:List PO):List Int->Prop:=gy n λg=>some g∈gs
structure SG (n l:Nat) (gs:List PO) (row:Row) (H:List Int->Prop):Prop where
 pg: ∀o∈gs,∃g,o=some g/\Pm n g/\Fx l g
 rl:row.length=n
 r0:row.getD l none=some (upto n)
 rt: ∀y t,row.getD y none=some t->Pm n t/\Fx l t/\ap t l=y/\Gn n gs t
 cl: ∀y t g,row.getD y none=some t->some g∈gs->row.getD (ap g y) none≠none
 sg: ∀y t g t',row.getD y none=some t->some g∈gs->row.getD (ap g y) none=some t'->H (As (As t g) (Bx t'))
def JV (n:Nat):Nat->Nat->Of×Of->Prop
 |0,l,s=>s.1.getD l []= []
 |k+1,l,s=>JV n k (l+1) s/\SG n l (s.1.getD l []) (s.2.getD l []) (λq=>xx s.2 k (l+1) q=true)/\ ∀g,some g∈s.1.getD (l+1) []->Gn n (s.1.getD l []) g
theorem Fx.inv {n l:Nat} {p:List Int} (hp:Pm n p) (h:Fx l p) (hl:l<=n):Fx l (Bx p):= λi hi=>by
 have:=l4 hp (i:=i) (by omega)
 rwa [h i hi] at this
theorem Fx.comp {n l:Nat} {p q:List Int} (hp:Pm n p) (hq:Pm n q) (h1:Fx l p) (h2:Fx l q) (hl:l<=n):Fx l (As p q):= λi hi=>by
 rw [To hp hq (by omega),h1 i hi,h2 i hi]
theorem gy.mono {n:Nat} {S S':List Int->Prop} (h: ∀g,S g->S' g) {p:List Int} (hp:gy n S p):gy n S' p:=by
 induction hp with
 |id=>exact .id
 |mul _ hg ih=>exact .mul ih (h _ hg)
 |inv _ hg ih=>exact .inv ih (h _ hg)
structure xg (n l:Nat) (gs:List PO) (row:Row):Prop where
 rl:row.length=n
 r0:row.getD l none=some (upto n)
 rt: ∀y t,row.getD y none=some t->Pm n t/\Fx l t/\ap t l=y/\Gn n gs t
def PG (n l:Nat) (gs:List PO):Prop:= ∀o∈gs,∃g,o=some g/\Pm n g/\Fx l g
structure Ext (n l:Nat) (gs:List PO) (row:Row) (q:List Int) (s':Row×List Int):Prop where
 ok:xg n l gs s'.1
 mono: ∀y t,row.getD y none=some t->s'.1.getD y none=some t
 phi:s'.2.length+JL s'.1=q.length+JL row
 o0: ∀y∈q,y∈s'.2
 new: ∀y∈s'.2,y∈q\/ ∃yn:Nat,y=yn/\s'.1.getD yn none≠none
 src: ∀y:Nat,s'.1.getD y none≠none->row.getD y none≠none\/(y:Int)∈s'.2
theorem Ext.refl {n l:Nat} {gs:List PO} {row:Row} {q:List Int} (h:xg n l gs row):Ext n l gs row q (row,q):=⟨h,λ_ _ h=>h,rfl,λ_ h=>h,λ_ h=> .inl h,λ_ h=> .inl h⟩
theorem w8 {a b:Row} (h: ∀y t,a.getD y none=some t->b.getD y none=some t) {y:Nat} (hy:a.getD y none≠none):b.getD y none≠none:=by
 cases e:a.getD y none with
 |none=>exact absurd e hy
 |some t=>rw [h y t e];simp
theorem Ext.trans {n l:Nat} {gs:List PO} {row:Row} {q:List Int} {s1 s2:Row×List Int} (h:Ext n l gs row q s1) (k:Ext n l gs s1.1 s1.2 s2):Ext n l gs row q s2:=by
 refine ⟨k.ok,λy t e=>k.mono y t (h.mono y t e),k.phi.trans h.phi,λy hy=>k.o0 y (h.o0 y hy),λy hy=>?_,λy hy=>?_⟩
 ·rcases k.new y hy with h1|h1
  ·rcases h.new y h1 with h2|⟨yn,h2,h3⟩
   ·exact .inl h2
   ·exact .inr ⟨yn,h2,w8 k.mono h3⟩
  ·exact .inr h1
 ·rcases k.src y hy with h1|h1
  ·exact (h.src y h1).imp id λh2=>k.o0 _ h2
  ·exact .inr h1
def UJ (row:Row):Nat:=row.countP (·.isSome)
def RO (T:Of):Nat->Nat->Nat
 |0,_=>0
 |k+1,l=>UJ (T.getD l [])+RO T k (l+1)
def UE:Nat->Nat->Of×Of->Prop
 |0,_,_=>True
 |k+1,l,s=>UE k (l+1) s/\(s.1.getD l []).length<=RO s.2 (k+1) l
structure Grow (l0:Nat) (s s':Of×Of):Prop where
 LY:s'.1.length=s.1.length
 qQ:s'.2.length=s.2.length
 low: ∀i,i<l0->s'.1.getD i []=s.1.getD i []/\s'.2.getD i []=s.2.getD i []
 HY: ∀i o,o∈s.1.getD i []->o∈s'.1.getD i []
 JQ: ∀i y t,(s.2.getD i []).getD y none=some t->(s'.2.getD i []).getD y none=some t
 RQ: ∀i,(s'.2.getD i []).length=(s.2.getD i []).length
theorem Grow.refl (l0:Nat) (s:Of×Of):Grow l0 s s:=⟨rfl,rfl,λ_ _=>⟨rfl,rfl⟩,λ_ _ h=>h,λ_ _ _ h=>h,λ_=>rfl⟩
theorem Grow.trans {l0 l1:Nat} {a b c:Of×Of} (h:Grow l0 a b) (k:Grow l1 b c) (hl:l0<=l1):Grow l0 a c:=
 ⟨k.LY.trans h.LY,k.qQ.trans h.qQ,λi hi=>⟨(k.low i (by omega)).1.trans (h.low i hi).1,(k.low i (by omega)).2.trans (h.low i hi).2⟩,λi o ho=>k.HY i o (h.HY i o ho),λi y t e=>k.JQ i y t (h.JQ i y t e),λi=>(k.RQ i).trans (h.RQ i)⟩
theorem Grow.Gj {l0 l1:Nat} {a b:Of×Of} (h:Grow l1 a b) (hl:l0<=l1):Grow l0 a b:=(Grow.refl l0 a).trans h hl
def V (n k l:Nat) (s:Of×Of):Prop:=s.1.length=n/\s.2.length=n/\JV n k l s/\UE k l s
theorem SG.row {n l:Nat} {gs:List PO} {row:Row} {H:List Int->Prop} (h:SG n l gs row H):xg n l gs row:=⟨h.rl,h.r0,h.rt⟩
theorem V.lvl {n k l:Nat} {s:Of×Of} (h:V n (k+1) l s):SG n l (s.1.getD l []) (s.2.getD l []) (λq=>xx s.2 k (l+1) q=true):=h.2.2.1.2.1
theorem V.pg {n k l:Nat} {s:Of×Of} (h:V n (k+1) l s) {p:List Int} (hp:Pm n p) (hf:Fx l p):PG n l (s.1.getD l []++ [some p]):= λo ho=>by
 rcases Av.1 ho with ho|ho
 ·exact h.lvl.pg o ho
 ·rw [Ad] at ho;exact ⟨p,ho,hp,hf⟩
noncomputable abbrev Kv:Spec:=Kx (.pair tI .unit) tL false true (λx=>0<=x.1/\x.1<=20) (λx=>upto x.1.toNat)
theorem uN (n:Int) (P:List Int->Prop):(((0:Int)<=n/\n<(↑Ga:Int)+(1:Int))/\n=n/\0=0/\(List.replicate n.toNat (Int.ofNat (nat_lit 0))).length=(List.replicate n.toNat (Int.ofNat (nat_lit 0))).length/\Gz (λ(v2:Int×List Int×PUnit) (k3:Int×List Int×PUnit->Prop)=>Br (decide (v2.1<(↑(List.replicate n.toNat (Int.ofNat (nat_lit 0))).length:Int))) (((0:Int)<=v2.1/\v2.1<(↑v2.2.1.length:Int))/\0+v2.1.toNat<v2.2.1.length/\0=0/\v2.2.1.length=(v2.2.1.set (0+v2.1.toNat) v2.1).length/\k3 (IntKind.i64.wrap (v2.1+(1:Int)),v2.2.1.set (0+v2.1.toNat) v2.1,())) (P (List.take v2.2.1.length (List.drop 0 v2.2.1)))) ((0:Int),List.replicate n.toNat (Int.ofNat (nat_lit 0)),PUnit.unit))=fnW Hi (look []) Kv Try.f25 (n,()) P:=by kernel_rfl
theorem ua (n:Int) (h:0<=n/\n<=20):fnW Hi (look []) Kv Try.f25 (n,()) (λ(z:List Int)=>z=upto n.toNat):=by
 refine Eq.mp (uN n _) ⟨⟨by omega,by show n<(4294967296:Int)+1;omega⟩,rfl,rfl,rfl,?_⟩
 refine Cl n.toNat (λv=>v.1) (λj v=>v.2.1.length=n.toNat/\v.2.1.take j=upto j) rfl ⟨by simp,by simp [upto]⟩ ?_
 rintro j ⟨i,ys,⟨⟩⟩ K hj hi ⟨h1,h2⟩ hK
 dsimp only at hi h1 h2⊢
 subst hi
 rw [Iq]
 simp only [Cq,Dp]
 refine Br.dec (λhl=>⟨⟨by omega,by omega⟩,by omega,trivial,by rw [Eh],?_⟩) λhl=>?_
 ·rw [Dr (by omega)]
  refine hK (by omega) _ rfl ⟨by rw [Eh];exact h1,?_⟩
  rw [Xt,List.take_set_of_le (by omega),h2,List.getElem?_set_self (by omega),Wi]
  rfl
 ·have:j=ys.length:=by omega
  subst this
  rw [Bj] at h2
  rw [Kg,Bj,h2,h1]
theorem cj:Sound Try.prog 25 Kv:=
 Sound.Kx Gc Dk mixed Try.func25 (by kernel_rfl) (by kernel_rfl) λx h=>ua x.1 h
theorem Pm.row {n:Nat} {p:List Int} (h:Pm n p):Ox n p:=by
 have:=h.2.row
 rwa [h.1] at this
theorem kd {n k:Nat} (hk:k<n):(k:Int)+1∈Be n/\ -((k:Int)+1)∈Be n:=by
 unfold Be
 exact ⟨Mb.2 ⟨k,Ho.2 hk,by simp⟩,Mb.2 ⟨k,Ho.2 hk,by simp⟩⟩
theorem eh {α:Type} {xs ys:List α} {i:Nat} {d:α} (h:i<xs.length):(xs++ys).getD i d=xs.getD i d:=by
 rw [An,An,Am h]
theorem oW {α:Type} {xs:List α} {x d:α} :(xs++ [x]).getD xs.length d=x:=by
 rw [An,Al (Ao _),Nat.sub_self];rfl
structure Lv (g:List (List Int)) (ls:List Int) (k:Nat) (L:List (List Int)) (D:List Int):Prop where
 len:D.length=L.length
 pos:0<L.length
 mono: ∀i j,i<=j->j<L.length->D.getD i 0<=D.getD j 0
 MD:k<L.length-> ∀j,j<L.length->D.getD j 0<=D.getD k 0+1
 par: ∀j,0<j->j<L.length-> ∃i l,i<j/\l∈ls/\L.getD j []=As (L.getD i []) (Bm g l)/\D.getD j 0=D.getD i 0+1
 zero:D.getD 0 0=0
theorem Lv.add {g:List (List Int)} {ls:List Int} {k:Nat} {L:List (List Int)} {D:List Int} (h:Lv g ls k L D) (hk:k<L.length) {l:Int} (hl:l∈ls):
  Lv g ls k (L++ [As (L.getD k []) (Bm g l)]) (D++ [D.getD k 0+1]):=by
 have hlen:=h.len
 have hD: ∀i,i<L.length->(D++ [D.getD k 0+1]).getD i 0=D.getD i 0:= λi hi=>eh (by omega)
 have SM:(D++ [D.getD k 0+1]).getD L.length 0=D.getD k 0+1:=by rw [<-hlen];exact oW
 refine ⟨by simp [hlen],by simp,λi j fW hj=>?_,λ_ j hj=>?_,λj h0 hj=>?_,?_⟩
 ·rw [Cf,Ex] at hj
  by_cases e:j=L.length
  ·subst e
   rw [SM]
   by_cases e':i=L.length
   ·subst e';rw [SM];exact Int.le_refl _
   ·rw [hD i (by omega)]
    exact h.MD hk i (by omega)
  ·rw [hD i (by omega),hD j (by omega)]
   exact h.mono i j fW (by omega)
 ·rw [Cf,Ex] at hj
  rw [hD k hk]
  by_cases e:j=L.length
  ·subst e;rw [SM];exact Int.le_refl _
  ·rw [hD j (by omega)];exact h.MD hk j (by omega)
 ·rw [Cf,Ex] at hj
  by_cases e:j=L.length
  ·subst e
   exact ⟨k,l,hk,hl,by rw [oW,eh hk],by rw [SM,hD k hk]⟩
  ·obtain ⟨i,l',h1,h2,h3,h4⟩:=h.par j h0 (by omega)
   exact ⟨i,l',h1,h2,by rw [eh (by omega),eh (by omega)];exact h3,by rw [hD j (by omega),hD i (by omega)];exact h4⟩
 ·rw [hD 0 h.pos];exact h.zero
structure Rc (g:List (List Int)) (ls:List Int) (L:List (List Int)) (S:List Int->Prop) (d:List Int->Int):Prop where
 nn: ∀x∈L,0<=d x
 zero: ∀x∈L,d x=0↔S x
 step: ∀x∈L,∀l∈ls,d (As x (Bm g l))<=d x+1
 down: ∀x∈L,0<d x-> ∃l∈ls,d (As x (Bm g l))=d x-1
structure uW (g:List (List Int)) (ls:List Int) (L:List (List Int)):Prop where
 next: ∀x∈L,∀l∈ls,As x (Bm g l)∈L
 back: ∀x∈L,∀l∈ls,-l∈ls/\As (As x (Bm g l)) (Bm g (-l))=x
theorem Rc.le {g:List (List Int)} {ls:List Int} {L:List (List Int)} {S:List Int->Prop} {d d':List Int->Int} (hc:uW g ls L) (h:Rc g ls L S d) (h':Rc g ls L S d'):
  ∀(n:Nat) (x:List Int),x∈L->d' x=n->d x<=n
 |0,x,hx,e=>by
  have:=(h.zero x hx).2 ((h'.zero x hx).1 e)
  omega
 |n+1,x,hx,e=>by
  obtain ⟨l,hl,hd⟩:=h'.down x hx (by omega)
  obtain ⟨b1,b2⟩:=hc.back x hx l hl
  have h1:=Rc.le hc h h' n _ (hc.next x hx l hl) (by omega)
  have h2:=h.step _ (hc.next x hx l hl) _ b1
  rw [b2] at h2
  omega
theorem Rc.eq {g:List (List Int)} {ls:List Int} {L:List (List Int)} {S:List Int->Prop} {d d':List Int->Int} (hc:uW g ls L) (h:Rc g ls L S d) (h':Rc g ls L S d') {x:List Int} (hx:x∈L):d x=d' x:=by
 have n1:=h.nn x hx
 have n2:=h'.nn x hx
 have h1:=Rc.le hc h h' (d' x).toNat x hx (by omega)
 have h2:=Rc.le hc h' h (d x).toNat x hx (by omega)
 omega
theorem Rc.MD {g:List (List Int)} {ls:List Int} {L:List (List Int)} {S:List Int->Prop} {d:List Int->Int} (hc:uW g ls L) (h:Rc g ls L S d) {x:List Int} (hx:x∈L) {l:Int} (hl:l∈ls):
  d x-1<=d (As x (Bm g l)):=by
 obtain ⟨b1,b2⟩:=hc.back x hx l hl
 have h2:=h.step _ (hc.next x hx l hl) _ b1
 rw [b2] at h2
 omega
theorem pe {p:List Int} (h:Wk p):Hq p=true:=by
 refine Fz.2 ⟨h.pos,h.len,λj h1 h2=>?_⟩
 have:=h.row _ (Ar h2)
 exact ⟨by omega,by omega,λhm=>by
  obtain ⟨i,hi,e⟩:=Db.1 hm
  have k9:i<j:=by rw [Ed] at hi;omega
  rw [List.getElem_take] at e
  exact (Fa.1 h.nodup i j (by omega) h2 k9) e⟩
theorem ML {p:PP} (hV:Valid p) {x:List Int} (h:Pm p.1.toNat x):Lj p.1 x=true:=by
 have:=hV.n
 have:=h.1
 exact Fz.2 ⟨by omega,pe h.2⟩
theorem xT {n:Nat} {x:List Int} (h:Pm n x):eL x:= λy hy=>by
 have h1:=h.row y hy
 have:=h.n2
 omega
theorem dB {n:Nat} {x:List Int} (h:Pm n x):short x:=by
 have h1:=h.1
 have:=h.n2
 unfold short;omega
theorem lM {b:Bool} (h:(!b)=true):b=false:=by cases b<;>simp_all
def Hp (g:List (List Int)) (s w:List Int):List Int:=w.foldl (λq l=>As q (Bm g l)) s
noncomputable abbrev Te:Spec:=Kx (.pair tI (.pair wV (.pair tL .unit))) tL false true (λx=> ∃p:PP,m_validP p=true/\p.1=x.1/\p.2.2.1=x.2.1/\Fq (List.length x.2.1:Nat) x.2.2.1=true) (λx=>Hp x.2.1 (upto x.1.toNat) x.2.2.1)
theorem x6 (n:Int) (g:List (List Int)) (w:List Int) (P:List Int->Prop):(∃(y4:List Int),Kv.fn (n,())=some y4/\Gz (λ(v5:List Int×Int×PUnit) (k6:List Int×Int×PUnit->Prop)=>Br (decide (v5.2.1<(↑w.length:Int))) (∃(y7:Int),idx w v5.2.1=some y7/\ ∃(y8:List Int),Th.fn (g,y7,())=some y8/\ ∃(y9:List Int),Jo.fn (v5.1,y8,())=some y9/\k6 (y9,IntKind.i64.wrap (v5.2.1+(1:Int)),())) (P v5.1)) (y4,(0:Int),PUnit.unit))=fnW Hi (look [(25,Kv),(86,Jo),(87,Th)]) Te Try.f61 (n,g,w,()) P:=by kernel_rfl
theorem er {p:PP} (hV:Valid p) {l:Int} (hl:Cc (List.length p.2.2.1) l):Pm p.1.toNat (Bm p.2.2.1 l):=by
 have hn:=hV.n
 obtain ⟨k,hk,Om⟩:=Mk hl
 have hp:Pm p.1.toNat (p.2.2.1[k]):=⟨by have:=hV.len _ (Ar hk);omega,bq (hV.perm _ (Ar hk))⟩
 rcases Om with rfl|rfl
 ·rw [It hk];exact hp
 ·rw [Lf hk];exact hp.inv
theorem Zt {p:PP} (hV:Valid p): ∀(w s:List Int),(∀l∈w,Cc (List.length p.2.2.1) l)->Pm p.1.toNat s->Pm p.1.toNat (Hp p.2.2.1 s w)
 | [],s,_,hs=>hs
 |l::w,s,hl,hs=>by
  have h1:=er hV (hl l (by simp))
  exact Zt hV w _ (λl' h=>hl l' (Aq _ h)) (hs.comp h1)
theorem lI {g:List (List Int)} {s w:List Int} {j:Nat} (h:j<w.length):Hp g s (w.take (j+1))=As (Hp g s (w.take j)) (Bm g w[j]):=by
 unfold Hp
 rw [Xt,Ac h,Option.toList_some,List.foldl_append]
 rfl
theorem wx {n:Nat} {q:List Int} (h:Pm n q):q.length<=20:=by have:=h.1;have:=h.n2;omega
theorem DK {n:Nat} {p q:List Int} (hp:Pm n p) (hq:Pm n q):Ox q.length p:=by rw [hq.1];exact hp.row
theorem wj (n:Int) (g:List (List Int)) (w:List Int) (h: ∃p:PP,m_validP p=true/\p.1=n/\p.2.2.1=g/\Fq (List.length g:Nat) w=true):fnW Hi (look [(25,Kv),(86,Jo),(87,Th)]) Te Try.f61 (n,g,w,()) (λ(z:List Int)=>z=Hp g (upto n.toNat) w):=by
 obtain ⟨p,hv,rfl,rfl,hw⟩:=h
 have hV:=valid hv
 have hn:=hV.n
 have hf:=hV.AY
 obtain ⟨w1,w2⟩:=Zn hw
 refine Eq.mp (x6 p.1 p.2.2.1 w _) ⟨upto p.1.toNat,Af ⟨by show 0<=p.1;omega,by show p.1<=20;omega⟩,?_⟩
 refine Cl w.length (λv=>v.2.1) (λj v=>v.1=Hp p.2.2.1 (upto p.1.toNat) (w.take j)) rfl rfl ?_
 rintro j ⟨q,i,⟨⟩⟩ K hj hi hR hK
 dsimp only at hi hR⊢
 subst hi hR
 have hq:=Zt hV (w.take j) _ (λl hl=>w2 l (Hm hl)) (Pm.id (n:=p.1.toNat) (by omega) (by omega))
 refine Br.dec (λhl=>?_) λhl=>?_
 ·have hl:j<w.length:=by omega
  have yy:=w2 _ (Ar hl)
  have kQ:=er hV yy
  refine ⟨_,El hl,_,Af ⟨yy,hf.2,hV.perm⟩,_,Af ⟨wx hq,DK hq kQ⟩,?_⟩
  rw [Dr (by omega)]
  exact hK hl _ rfl (lI hl).symm
 ·have:j=w.length:=by omega
  subst this
  rw [Bj]
theorem nf:Sound Try.prog 61 Te:=
 Sound.Kx Gc (Cg cj (Cg iH (Cg nj Dk))) mixed Try.func61 (by kernel_rfl) (by kernel_rfl) λx h=>wj x.1 x.2.1 x.2.2.1 h
theorem DM {p:PP} (hV:Valid p) {q:List Int} (h:Pm p.1.toNat q): ∀y∈q,0<=y/\y<p.1:= λy hy=>by
 have:=h.row y hy
 have:=hV.n
 omega
theorem map_take {α β:Type} (f:α->β) {xs:List α} {j:Nat} (h:j<xs.length):(xs.take (j+1)).map f=(xs.take j).map f++ [f xs[j]]:=by
 rw [Xt,Ac h,Vw];rfl
theorem Rc.congr {g:List (List Int)} {ls:List Int} {L:List (List Int)} {S S':List Int->Prop} {d:List Int->Int} (h:Rc g ls L S d) (e: ∀x∈L,S x↔S' x):Rc g ls L S' d:=
 ⟨h.nn,λx hx=>(h.zero x hx).trans (e x hx),h.step,h.down⟩
structure Part (n k:Nat) (s:Of×Of):Prop where
 l1:s.1.length=n
 l2:s.2.length=n
 pg:PG n k (s.1.getD k [])
 row:xg n k (s.1.getD k []) (s.2.getD k [])
 comp:JV n (n-(k+1)) (k+1) s
 gb:UE (n-(k+1)) (k+1) s
 sub: ∀g,some g∈s.1.getD (k+1) []->Gn n (s.1.getD k []) g
def Hd (n k:Nat) (s:Of×Of) (q:List Int):Prop:= ∃t,(s.2.getD k []).getD (ap q k) none=some t/\xx s.2 (n-(k+1)) (k+1) (As q (Bx t))=true
structure oO (n k:Nat) (s s':Of×Of):Prop where
 grow:Grow k s s'
 same:s'.1.getD k []=s.1.getD k []
 part:Part n k s'
 Ep: ∀q,Pm n q->Fx k q->Hd n k s q->Hd n k s' q
 new: ∀y t,(s'.2.getD k []).getD y none=some t->(s.2.getD k []).getD y none=some t\/ ∀g,some g∈s.1.getD k []->Hd n k s' (As t g)
theorem oO.refl {n k:Nat} {s:Of×Of} (h:Part n k s):oO n k s s:=⟨Grow.refl _ _,rfl,h,λ_ _ _ h=>h,λ_ _ h=> .inl h⟩
theorem Part.tg {n k:Nat} {s:Of×Of} (h:Part n k s) (hk:k<n) {y:Nat} {t g:List Int} (ht:(s.2.getD k []).getD y none=some t) (hg:some g∈s.1.getD k []):Pm n (As t g)/\Fx k (As t g)/\ap (As t g) k=ap g y:=by
 obtain ⟨t1,t2,t3,t4⟩:=h.row.rt _ _ ht
 obtain ⟨g',e,g1,g2⟩:=h.pg _ hg
 cases e
 exact ⟨t1.comp g1,Fx.comp t1 g1 t2 g2 (by omega),by rw [To t1 g1 hk,t3]⟩
theorem oO.trans {n k:Nat} {a b c:Of×Of} (hk:k<n) (h:oO n k a b) (h':oO n k b c):oO n k a c:=by
 refine ⟨h.grow.trans h'.grow (Ao _),h'.same.trans h.same,h'.part,λq h1 h2 h3=>h'.Ep q h1 h2 (h.Ep q h1 h2 h3),λy t e=>?_⟩
 rcases h'.new y t e with e1|e1
 ·rcases h.new y t e1 with e2|e2
  ·exact .inl e2
  ·refine .inr λg hg=>?_
   obtain ⟨p1,p2,_⟩:=h.part.tg hk e1 (by rw [h.same];exact hg)
   exact h'.Ep _ p1 p2 (e2 g hg)
 ·exact .inr λg hg=>e1 g (by rw [h.same];exact hg)
theorem Part.v {n k:Nat} {s:Of×Of} (h:Part n k s):V n (n-(k+1)) (k+1) s:=⟨h.l1,h.l2,h.comp,h.gb⟩
noncomputable abbrev Wc:Spec:=Kx (.pair Oq (.pair tL (.pair tL .unit))) tL false false (λx=>m_validP x.1=true/\Pm x.1.1.toNat x.2.1/\short x.2.2.1/\ ∀l∈x.2.2.1,Cc (List.length x.1.2.2.1) l) (λx=>Hp x.1.2.2.1 x.2.1 x.2.2.1)
def pX (p:PP) (gs:List (List Int)):Prop:=gs.length<=5/\ ∀g∈gs,pq p g=true
abbrev nv:Type:=List Int×Int×Int×ByteArray×List (List Int)×PUnit
theorem zE (p:Int×ByteArray×List (List Int)×Unit) (s w:List Int) (P:List Int->Prop):(∃(y4:List Int),Tc.fn (s,())=some y4/\Gz (λ(v5:nv) (k6:nv->Prop)=>Br (decide (v5.2.1<(↑w.length:Int))) (∃(y7:Int),idx w v5.2.1=some y7/\ ∃(y8:List Int),aB.fn ((v5.2.2.1,v5.2.2.2.1,v5.2.2.2.2.1,()),v5.1,y7,())=some y8/\k6 (y8,IntKind.i64.wrap (v5.2.1+(1:Int)),v5.2.2.1,v5.2.2.2.1,v5.2.2.2.2.1,())) (P v5.1)) (y4,(0:Int),p.1,p.2.1,p.2.2.1,PUnit.unit))=fnW Hi (look [(92,Tc),(75,aB)]) Wc Try.f66 (p,s,w,()) P:=by kernel_rfl
theorem yY (p:PP) (s w:List Int) (h:m_validP p=true/\Pm p.1.toNat s/\short w/\ ∀l∈w,Cc (List.length p.2.2.1) l):fnW Hi (look [(92,Tc),(75,aB)]) Wc Try.f66 (p,s,w,()) (λ(z:List Int)=>z=Hp p.2.2.1 s w):=by
 obtain ⟨hv,hs,w1,w2⟩:=h
 have hV:=valid hv
 have w1:w.length<=4294967296:=w1
 refine Eq.mp (zE p s w _) ⟨_,Af (dB hs),?_⟩
 refine Cl w.length (λv=>v.2.1) (λj v=>v=(Hp p.2.2.1 s (w.take j),(j:Int),p.1,p.2.1,p.2.2.1,())) rfl rfl ?_
 rintro j v K hj hi hR hK
 subst hR
 dsimp only
 have hq:=Zt hV (w.take j) _ (λl hl=>w2 l (Hm hl)) hs
 refine Br.dec (λhl=>?_) λhl=>?_
 ·have hl:j<w.length:=by omega
  have yy:=w2 _ (Ar hl)
  refine ⟨_,El hl,_,Af ⟨hv,wx hq,DM hV hq,yy⟩,?_⟩
  rw [Dr (by omega)]
  refine hK hl _ rfl ?_
  rw [lI hl]
 ·have:j=w.length:=by omega
  subst this
  rw [Bj]
theorem oe:Sound Try.prog 66 Wc:=
 Sound.Kx Gc (Cg nd (Cg rN Dk)) mixed Try.func66 (by kernel_rfl) (by kernel_rfl) λx h=>yY x.1 x.2.1 x.2.2.1 h
theorem pX.take {p:PP} {gs:List (List Int)} (h:pX p gs) (j:Nat):pX p (gs.take j):=⟨by rw [Ed];have:=h.1;omega,λg hg=>h.2 g (Hm hg)⟩
structure OD (t:TT):Prop where
 AY:t.2.1.length<=3000
 len:t.2.2.1.length=t.2.1.length
 nodup:t.2.1.Nodup
 byte: ∀x∈t.2.1,eL x
 Aaj: ∀d∈t.2.2.1,0<=d/\d<=3000
 tl:t.1.length<=20
 pl: ∀x∈t.2.1,x.length<=20
theorem OD.short {t:TT} (h:OD t):DU t:=by
 have h1:=h.AY;have h2:=h.len;have h3:=h.tl
 exact ⟨by unfold _root_.Go.Proofs.Ytfgfigkbgecfnaa.short;omega,⟨by omega,λr hr=>by have:=h.pl r hr;unfold _root_.Go.Proofs.Ytfgfigkbgecfnaa.short;omega⟩,by unfold _root_.Go.Proofs.Ytfgfigkbgecfnaa.short;omega⟩
open Go.RowKit Go.Lib
theorem Bz.LY {w:World} {F:List Nat} {e:Ty} {cs:List Value} {x:List e.den} (h:Bz w F (.slice e) cs x):cs.length=1:=by
 simp only [Bz] at h
 obtain ⟨a,n,c,rfl,_⟩:=h
 rfl
theorem oI (p q:List Int) (P:List Int->Prop):(0=0/\0=([]:List Int).length/\Gz (λ(v3:Int×List Int×PUnit) (k4:Int×List Int×PUnit->Prop)=>Br (decide (v3.1<(↑p.length:Int))) (∃(y5:Int),idx p v3.1=some y5/\ ∃(y6:Int),idx q y5=some y6/\0=0/\v3.2.1.length=v3.2.1.length/\v3.2.1.length+(List.take 1 (List.drop 0 [y6])).length<=Ga/\0=0/\(v3.2.1++List.take 1 (List.drop 0 [y6])).length=(v3.2.1++List.take 1 (List.drop 0 [y6])).length/\k4 (IntKind.i64.wrap (v3.1+(1:Int)),v3.2.1++List.take 1 (List.drop 0 [y6]),())) (P (List.take v3.2.1.length (List.drop 0 v3.2.1)))) ((0:Int),[],PUnit.unit))=fnW Hi (look []) Jo Try.f94 (p,q,()) P:=by kernel_rfl
theorem yj {p q:List Int} {j:Nat} (h:j<p.length):(As p q).take (j+1)=(As p q).take j++ [Gr q p[j]]:=by
 unfold As
 rw [Cr (by rw [Nl];exact h),List.getElem_map]
theorem o7 (p q:List Int) (h:List.length p<=20/\Ox (List.length q) p):fnW Hi (look []) Jo Try.f94 (p,q,()) (λ(z:List Int)=>z=As p q):=by
 obtain ⟨h1,h2⟩:=h
 refine Eq.mp (oI p q _) ⟨rfl,rfl,?_⟩
 refine Cl p.length (λv=>v.1) (λj v=>v=((j:Int),(As p q).take j,())) rfl rfl ?_
 rintro j v K hj hi rfl hK
 dsimp only
 have hlen:((As p q).take j).length<=20:=by rw [Ed];unfold As;rw [Nl];omega
 refine Br.dec (λhl=>?_) λhl=>?_
 ·have hl:j<p.length:=by omega
  have hr:=h2 p[j] (Ar hl)
  refine ⟨_,El hl,Gr q p[j],ic hr.1 hr.2,rfl,rfl,?_,rfl,rfl,?_⟩
  ·show ((As p q).take j).length+1<=4294967296
   omega
  ·rw [Dr (by omega)]
   refine hK hl _ rfl ?_
   rw [yj hl]
   rfl
 ·have:j=p.length:=by omega
  subst this
  rw [Ou,<-Ya p q,Bj]
theorem iJ:Sound Try.prog 94 Jo:=
 Sound.Kx Gc Dk mixed Try.func94 (by kernel_rfl) (by kernel_rfl) λx h=>o7 x.1 x.2.1 h
abbrev tB:Ty:= .slice (.int .u8)
abbrev NZ:Ty:= .int .u64
def hN (h:Int):Int:=IntKind.u64.wrap (IntKind.u64.wrap (h*(6364136223846793005:Int))+(1442695040888963407:Int))
def xN (h:Int):Int:=IntKind.i64.wrap (IntKind.u64.wrap (↑(BitVec.ofInt IntKind.u64.bits (h.fdiv ((2:Int)^min (Int.toNat (33:Int)) IntKind.u64.bits))&&&BitVec.ofInt IntKind.u64.bits (16777215:Int)).toNat:Int))
def dI (b:List Int) (i:Int):Int:=if i<(b.length:Int) then i+1 else i
def dR (b:List Int) (i h n:Int):Int:=if i<(b.length:Int) then (xN (hN h)+Gr b i).tmod n else (xN (hN h)).tmod n
structure kY (b:List Int) (i:Int):Prop where
 len:b.length<=4096
 byte: ∀y∈b,0<=y/\y<256
 lo:0<=i
 hi:i<=b.length
def ue:List Int->Int->Int
 | [],h=>h
 |c::r,h=>ue r (IntKind.u64.wrap (IntKind.u64.wrap (IntKind.u64.wrap (h*(1099511628211:Int))+IntKind.u64.wrap c)+(3:Int)))
def jg (b:List Int) (s:Int):Int:=ue b (IntKind.u64.wrap (IntKind.u64.wrap (s*(7919:Int))+IntKind.u64.wrap (b.length:Int)))
def bH (b:List Int) (n:Int):Nat->Int->Int->List Int->Int×Int×List Int
 |0,i,h,mv=>(i,h,mv)
 |k+1,i,h,mv=>bH b n k (dI b (dI b i)) (hN (hN h)) ((mv.set (dR b i h n).toNat (Gr mv (dR b (dI b i) (hN h) n))).set (dR b (dI b i) (hN h) n).toNat (Gr mv (dR b i h n)))
def jh (b:List Int) (n i h:Int):Int×Int×List Int:=bH b n (1+dR b i h 3).toNat (dI b i) (hN h) (upto n.toNat)
def Vf (b:List Int) (n:Int):Nat->Int->Int->List (List Int)->Int×Int×List (List Int)
 |0,i,h,ms=>(i,h,ms)
 |k+1,i,h,ms=>Vf b n k (jh b n i h).1 (jh b n i h).2.1 (ms++ [(jh b n i h).2.2])
def CY:ByteArray:= {data:= #[(65:UInt8),(66:UInt8)]}
def Ve (b:List Int) (i h:Int):Int×Int×PP:=((Vf b (3+dR b i h 3) 2 (dI b i) (hN h) []).1,(Vf b (3+dR b i h 3) 2 (dI b i) (hN h) []).2.1,(3+dR b i h 3,CY,(Vf b (3+dR b i h 3) 2 (dI b i) (hN h) []).2.2,()))
noncomputable abbrev LW:MSpec:= {Jg:= [none,none],ins:= [(false, .Ji tB),(false, .Ji NZ)],Hy:=false,Ia:= [none,none,none],outs:= [.Ji tB, .Ji tI, .Ji NZ],fn:= λ_=>none,rp:=some 50}
noncomputable abbrev ju:MSpec:=CT LW (λx=>List.length x.1<=4096) (λx=>((x.1,0,jg x.1 x.2.1,()),()))
noncomputable abbrev GR:MSpec:= {ptr:=some (50,3),Jg:= [none],ins:= [(false, .Ji tB),(false, .Ji tI),(false, .Ji NZ),(false, .Ji tI)],Hy:=false,Ia:= [none],outs:= [.Ji tB, .Ji tI, .Ji NZ, .Ji tI],fn:= λ_=>none}
noncomputable abbrev Vs:MSpec:=CT GR (λx=>kY x.1 x.2.1/\1<=x.2.2.2.1) (λx=>((x.1,dI x.1 x.2.1,hN x.2.2.1,dR x.1 x.2.1 x.2.2.1 x.2.2.2.1,()),()))
noncomputable abbrev aC:MSpec:=FG [none] [(false, .Ji tI)] false [none] [rL] (λx=>0<=x.1/\x.1<=20) (λx=>((upto x.1.toNat,()),()))
noncomputable abbrev Wf:MSpec:=FG [none] [(false, .Ji tI)] false [none] [rL] (λx=>1<=x.1/\x.1<=20) (λx=>((upto x.1.toNat,()),()))
noncomputable abbrev pJ:Spec:=Kx (.pair tB .unit) .bool false true (λ_=>True) (λx=>decide ((List.length x.1:Int)>4096))
noncomputable abbrev RG:MSpec:= {ptr:=some (50,3),Jg:= [],ins:= [(false, .Ji tB),(false, .Ji tI),(false, .Ji NZ)],Hy:=false,Ia:= [some 3],outs:= [.Ji tB, .Ji tI, .Ji NZ, .Ji tI, .Ji .str,rLL],fn:= λ_=>none}
noncomputable abbrev pM:MSpec:=CT RG (λx=>kY x.1 x.2.1) (λx=>((x.1,(Ve x.1 x.2.1 x.2.2.1).1,(Ve x.1 x.2.1 x.2.2.1).2.1,(Ve x.1 x.2.1 x.2.2.1).2.2.1,(Ve x.1 x.2.1 x.2.2.1).2.2.2.1,(Ve x.1 x.2.1 x.2.2.1).2.2.2.2.1,()),()))
theorem MZ (code:List Int) (wI:Int) (P:((List Int×Int×Int×Unit)×Unit)->Prop):(Gz (λ(v3:Int×List Int×Int×Int×PUnit) (k4:Int×List Int×Int×Int×PUnit->Prop)=>Br (decide (v3.1<(↑code.length:Int))) (∃(y5:Int),idx code v3.1=some y5/\k4 (IntKind.i64.wrap (v3.1+(1:Int)),v3.2.1,v3.2.2.1,IntKind.u64.wrap (IntKind.u64.wrap (IntKind.u64.wrap (v3.2.2.2.1*(1099511628211:Int))+IntKind.u64.wrap y5)+(3:Int)),())) (P ((v3.2.1,v3.2.2.1,v3.2.2.2.1,()),()))) ((0:Int),code,Int.ofNat (nat_lit 0),IntKind.u64.wrap (IntKind.u64.wrap (wI*(7919:Int))+IntKind.u64.wrap (↑code.length:Int)),PUnit.unit))=fnMW kW (look []) ju Try.f6 (code,wI,()) P:=by kernel_rfl
theorem HL (b:List Int) (i h n:Int) (P:((List Int×Int×Int×Int×Unit)×Unit)->Prop):(¬(33:Int)<(0:Int)/\Br (decide (i<(↑b.length:Int))) (∃(y5:Int),idx b i=some y5/\n≠(0:Int)/\P ((b,IntKind.i64.wrap (i+(1:Int)),IntKind.u64.wrap (IntKind.u64.wrap (h*(6364136223846793005:Int))+(1442695040888963407:Int)),(IntKind.i64.wrap (IntKind.i64.wrap (IntKind.u64.wrap (↑(BitVec.ofInt IntKind.u64.bits ((IntKind.u64.wrap (IntKind.u64.wrap (h*(6364136223846793005:Int))+(1442695040888963407:Int))).fdiv ((2:Int)^min (Int.toNat (33:Int)) IntKind.u64.bits))&&&BitVec.ofInt IntKind.u64.bits (16777215:Int)).toNat:Int))+IntKind.i64.wrap y5)).tmod n,()),())) (n≠(0:Int)/\P ((b,i,IntKind.u64.wrap (IntKind.u64.wrap (h*(6364136223846793005:Int))+(1442695040888963407:Int)),(IntKind.i64.wrap (IntKind.u64.wrap (↑(BitVec.ofInt IntKind.u64.bits ((IntKind.u64.wrap (IntKind.u64.wrap (h*(6364136223846793005:Int))+(1442695040888963407:Int))).fdiv ((2:Int)^min (Int.toNat (33:Int)) IntKind.u64.bits))&&&BitVec.ofInt IntKind.u64.bits (16777215:Int)).toNat:Int))).tmod n,()),())))=fnMW kW (look []) Vs Try.f21 (b,i,h,n,()) P:=by kernel_rfl
theorem RX (code:List Int) (P:Bool->Prop):(P (decide ((↑code.length:Int)>(4096:Int))))=fnW Hi (look []) pJ Try.f5 (code,()) P:=by kernel_rfl
theorem EM (n:Int) (P:((List Int×Unit)×Unit)->Prop):(0=0/\0=([]:List Int).length/\Gz (λ(v2:Int×List Int×PUnit) (k3:Int×List Int×PUnit->Prop)=>Br (decide (v2.1<n)) (0=0/\v2.2.1.length=v2.2.1.length/\v2.2.1.length+(List.take 1 (List.drop 0 [v2.1])).length<=Ga/\0=0/\(v2.2.1++List.take 1 (List.drop 0 [v2.1])).length=(v2.2.1++List.take 1 (List.drop 0 [v2.1])).length/\k3 (IntKind.i64.wrap (v2.1+(1:Int)),v2.2.1++List.take 1 (List.drop 0 [v2.1]),())) (P ((List.take v2.2.1.length (List.drop 0 v2.2.1),()),()))) ((0:Int),[],PUnit.unit))=fnMW kW (look []) aC Try.f58 (n,()) P:=by kernel_rfl
theorem zL (n:Int) (P:((List Int×Unit)×Unit)->Prop):(∃(y2:Bool),Df.fn (n,(1:Int),(20:Int),())=some y2/\Br (!y2) (P ((List.take 0 (List.drop 0 []),()),())) (∃(y3:(List Int×PUnit)×PUnit),aC.fn (n,())=some y3/\P ((List.take y3.1.1.length (List.drop 0 y3.1.1),()),())))=fnMW kW (look [(39,Df),(58,aC)]) Wf Try.f22 (n,()) P:=by kernel_rfl
abbrev EA:Type:=Int×Int×ByteArray×Int×ByteArray×List (List Int)×List (List Int)×List Int×List Int×Int×Int×PUnit
abbrev EB:Type:=Int×ByteArray×Int×ByteArray×List (List Int)×List (List Int)×List Int×Int×Int×PUnit
abbrev s5:Type:=(List Int×Int×Int×Int×PUnit)×PUnit
theorem SA (b:List Int) (i h:Int) (P:((List Int×Int×Int×Int×ByteArray×List (List Int)×Unit)×Unit)->Prop):(∃(y4:s5),Vs.fn (b,i,h,(3:Int),())=some y4/\0=0/\0=([]:List Int).length/\0=0/\0=([]:List Int).length/\Gz (λ(v5:EB) (k6:EB->Prop)=>Br (decide ((↑v5.2.2.2.2.2.1.length:Int)<(2:Int))) (∃(y7:(List Int×PUnit)×PUnit),Wf.fn (v5.2.2.1,())=some y7/\ ∃(y8:s5),Vs.fn (v5.2.2.2.2.2.2.1,v5.2.2.2.2.2.2.2.1,v5.2.2.2.2.2.2.2.2.1,(3:Int),())=some y8/\0=0/\y7.1.1.length=y7.1.1.length/\0=0/\v5.2.2.2.2.1.length=v5.2.2.2.2.1.length/\0=0/\v5.2.2.2.2.2.1.length=v5.2.2.2.2.2.1.length/\Gz (λ(v9:EA) (RF:EA->Prop)=>Br (decide (v9.1>(0:Int))) (∃(iP:s5),Vs.fn (v9.2.2.2.2.2.2.2.2.1,v9.2.2.2.2.2.2.2.2.2.1,v9.2.2.2.2.2.2.2.2.2.2.1,v9.2.2.2.1,())=some iP/\ ∃(pW:s5),Vs.fn (iP.1.1,iP.1.2.1,iP.1.2.2.1,v9.2.2.2.1,())=some pW/\((0:Int)<=iP.1.2.2.2.1/\iP.1.2.2.2.1<(↑v9.2.2.2.2.2.2.2.1.length:Int))/\ ∃(HO:Int),v9.2.2.2.2.2.2.2.1[0+iP.1.2.2.2.1.toNat]?=some HO/\((0:Int)<=pW.1.2.2.2.1/\pW.1.2.2.2.1<(↑v9.2.2.2.2.2.2.2.1.length:Int))/\ ∃(FI:Int),v9.2.2.2.2.2.2.2.1[0+pW.1.2.2.2.1.toNat]?=some FI/\((0:Int)<=iP.1.2.2.2.1/\iP.1.2.2.2.1<(↑v9.2.2.2.2.2.2.2.1.length:Int))/\0+iP.1.2.2.2.1.toNat<v9.2.2.2.2.2.2.2.1.length/\((0:Int)<=pW.1.2.2.2.1/\pW.1.2.2.2.1<(↑v9.2.2.2.2.2.2.2.1.length:Int))/\0+pW.1.2.2.2.1.toNat<(v9.2.2.2.2.2.2.2.1.set (0+iP.1.2.2.2.1.toNat) FI).length/\0=0/\v9.2.2.2.2.2.2.2.1.length=((v9.2.2.2.2.2.2.2.1.set (0+iP.1.2.2.2.1.toNat) FI).set (0+pW.1.2.2.2.1.toNat) HO).length/\0=0/\v9.2.2.2.2.2.1.length=v9.2.2.2.2.2.1.length/\0=0/\v9.2.2.2.2.2.2.1.length=v9.2.2.2.2.2.2.1.length/\RF (IntKind.i64.wrap (v9.1-(1:Int)),v9.2.1,v9.2.2.1,v9.2.2.2.1,v9.2.2.2.2.1,v9.2.2.2.2.2.1,v9.2.2.2.2.2.2.1,(v9.2.2.2.2.2.2.2.1.set (0+iP.1.2.2.2.1.toNat) FI).set (0+pW.1.2.2.2.1.toNat) HO,pW.1.1,pW.1.2.1,pW.1.2.2.1,())) (0=0/\v9.2.2.2.2.2.2.1.length=v9.2.2.2.2.2.2.1.length/\v9.2.2.2.2.2.2.1.length+(List.take 1 (List.drop 0 [List.take v9.2.2.2.2.2.2.2.1.length (List.drop 0 v9.2.2.2.2.2.2.2.1)])).length<=Ga/\0=0/\v9.2.2.2.2.2.1.length=v9.2.2.2.2.2.1.length/\0=0/\(v9.2.2.2.2.2.2.1++List.take 1 (List.drop 0 [List.take v9.2.2.2.2.2.2.2.1.length (List.drop 0 v9.2.2.2.2.2.2.2.1)])).length=(v9.2.2.2.2.2.2.1++List.take 1 (List.drop 0 [List.take v9.2.2.2.2.2.2.2.1.length (List.drop 0 v9.2.2.2.2.2.2.2.1)])).length/\k6 (v9.2.1,v9.2.2.1,v9.2.2.2.1,v9.2.2.2.2.1,v9.2.2.2.2.2.1,v9.2.2.2.2.2.2.1++List.take 1 (List.drop 0 [List.take v9.2.2.2.2.2.2.2.1.length (List.drop 0 v9.2.2.2.2.2.2.2.1)]),v9.2.2.2.2.2.2.2.2.1,v9.2.2.2.2.2.2.2.2.2.1,v9.2.2.2.2.2.2.2.2.2.2.1,()))) (IntKind.i64.wrap ((1:Int)+y8.1.2.2.2.1),v5.1,v5.2.1,v5.2.2.1,v5.2.2.2.1,v5.2.2.2.2.1,v5.2.2.2.2.2.1,y7.1.1,y8.1.1,y8.1.2.1,y8.1.2.2.1,PUnit.unit)) (P ((v5.2.2.2.2.2.2.1,v5.2.2.2.2.2.2.2.1,v5.2.2.2.2.2.2.2.2.1,v5.2.2.1,v5.2.2.2.1,List.take v5.2.2.2.2.2.1.length (List.drop 0 v5.2.2.2.2.2.1),()),()))) (Int.ofNat (nat_lit 0), {data:= #[]},IntKind.i64.wrap ((3:Int)+y4.1.2.2.2.1), {data:= #[(65:UInt8),(66:UInt8)]},[],[],y4.1.1,y4.1.2.1,y4.1.2.2.1,PUnit.unit))=fnMW kW (look [(21,Vs),(22,Wf)]) pM Try.f7 (b,i,h,()) P:=by kernel_rfl
theorem JT (h:Int):0<=xN h/\xN h<=16777215:=by
 obtain ⟨a,ha⟩: ∃a,BitVec.ofInt IntKind.u64.bits (h.fdiv ((2:Int)^min (Int.toNat (33:Int)) IntKind.u64.bits))=a:=⟨_,rfl⟩
 have h1:(a&&&BitVec.ofInt IntKind.u64.bits (16777215:Int)).toNat<=16777215:=by
  rw [BitVec.toNat_and]
  exact Nat.and_le_right
 unfold xN
 rw [ha]
 obtain ⟨x,hx⟩: ∃x,(a&&&BitVec.ofInt IntKind.u64.bits (16777215:Int)).toNat=x:=⟨_,rfl⟩
 rw [hx] at h1⊢
 have e:IntKind.u64.wrap (x:Int)=x:=by
  unfold IntKind.wrap
  have e1:IntKind.signed .u64=false:=rfl
  have e2:IntKind.bits .u64=64:=rfl
  rw [e1,e2]
  simp only [Bool.false_and,Ci,Pk]
  omega
 rw [e,En (by omega) (by omega)]
 omega
theorem kY.Gr {b:List Int} {i:Int} (h:kY b i) (hi:i<b.length):0<=Gr b i/\Gr b i<256:=by
 have h0:=h.lo
 have hl:i.toNat<b.length:=by omega
 refine h.byte _ ?_
 unfold Go.Proofs.Ytfgfigkbgecfnaa.Gr
 rw [An,Ac hl]
 exact Ar hl
theorem kY.next {b:List Int} {i:Int} (h:kY b i):kY b (dI b i):=by
 have h0:=h.lo
 have h1:=h.hi
 unfold dI
 split
 ·exact ⟨h.len,h.byte,by omega,by omega⟩
 ·exact h
theorem lR {b:List Int} {i n:Int} (h:kY b i) (hn:1<=n) (s:Int):0<=dR b i s n/\dR b i s n<n:=by
 have hx:=JT (hN s)
 unfold dR
 split
 ·rename_i hi
  have:=h.Gr hi
  exact ⟨Int.tmod_nonneg _ (by omega),Int.tmod_lt_of_pos _ (by omega)⟩
 ·exact ⟨Int.tmod_nonneg _ (by omega),Int.tmod_lt_of_pos _ (by omega)⟩
theorem MK (code:List Int) (wI:Int) (h:code.length<=4096):fnMW kW (look []) ju Try.f6 (code,wI,()) (λ(z:(List Int×Int×Int×Unit)×Unit)=>z=((code,0,jg code wI,()),())):=by
 obtain ⟨R,hR⟩: ∃R,jg code wI=R:=⟨_,rfl⟩
 rw [hR]
 unfold jg at hR
 refine Eq.mp (MZ code wI _) ?_
 refine Cl code.length (λv=>v.1) (λj v=>v.2.1=code/\v.2.2.1=0/\ue (code.drop j) v.2.2.2.1=R) rfl ⟨rfl,rfl,hR⟩ ?_
 rintro j ⟨jj,c,i,s,⟨⟩⟩ K hj lf ⟨r1,r2,r3⟩ hK
 dsimp only at lf r1 r2 r3⊢
 subst lf r1 r2
 refine Br.dec (λhl=>?_) λhl=>?_
 ·have hl:j<c.length:=by omega
  refine ⟨_,El hl,?_⟩
  rw [Dr (by omega)]
  rw [List.drop_eq_getElem_cons hl,ue] at r3
  exact hK hl _ rfl ⟨rfl,rfl,r3⟩
 ·have:j=c.length:=by omega
  subst this
  rw [List.drop_length,ue] at r3
  rw [r3]
theorem wN:Jd Try.prog 6 ju:=
 Jd.CT jE Dk mixed Try.func6 (by kernel_rfl) (by kernel_rfl) λx h=>MK x.1 x.2.1 h
theorem HB (b:List Int) (i h n:Int) (hd:kY b i/\1<=n):fnMW kW (look []) Vs Try.f21 (b,i,h,n,()) (λ(z:(List Int×Int×Int×Int×Unit)×Unit)=>z=((b,dI b i,hN h,dR b i h n,()),())):=by
 obtain ⟨hd,hn⟩:=hd
 have h0:=hd.lo
 have hlen:=hd.len
 have hx:=JT (hN h)
 refine Eq.mp (HL b i h n _) ⟨by omega,Br.dec (λhl=>?_) λhl=>?_⟩
 ·have hg:=hd.Gr hl
  refine ⟨_,ic h0 hl,by omega,?_⟩
  rw [En (n:=Gr b i) (by omega) (by omega)]
  show ((b,IntKind.i64.wrap (i+1),hN h,(IntKind.i64.wrap (xN (hN h)+Gr b i)).tmod n,()),())=_
  rw [En (by omega) (by omega),En (by omega) (by omega)]
  unfold dI dR
  rw [Af hl,Af hl]
 ·refine ⟨by omega,?_⟩
  show ((b,i,hN h,(xN (hN h)).tmod n,()),())=_
  unfold dI dR
  rw [Aj hl,Aj hl]
theorem ur:Jd Try.prog 21 Vs:=
 Jd.CT jE Dk mixed Try.func21 (by kernel_rfl) (by kernel_rfl) λx h=>HB x.1 x.2.1 x.2.2.1 x.2.2.2.1 h
theorem RK (code:List Int) (_:True):fnW Hi (look []) pJ Try.f5 (code,()) (λ(z:Bool)=>z=decide ((code.length:Int)>4096)):=Eq.mp (RX code _) rfl
theorem zq:Sound Try.prog 5 pJ:=
 Sound.Kx Gc Dk mixed Try.func5 (by kernel_rfl) (by kernel_rfl) λx h=>RK x.1 h
theorem DG (n:Int) (h:0<=n/\n<=20):fnMW kW (look []) aC Try.f58 (n,()) (λ(z:(List Int×Unit)×Unit)=>z=((upto n.toNat,()),())):=by
 refine Eq.mp (EM n _) ⟨rfl,rfl,?_⟩
 refine Cl n.toNat (λv=>v.1) (λj v=>v.2.1=upto j) rfl rfl ?_
 rintro j ⟨i,ys,⟨⟩⟩ K hj hi h1 hK
 dsimp only at hi h1⊢
 subst hi h1
 refine Br.dec (λhl=>?_) λhl=>?_
 ·refine ⟨rfl,rfl,?_,rfl,rfl,?_⟩
  ·show (upto j).length+1<=4294967296
   rw [Ps];omega
  ·rw [Dr (by omega)]
   exact hK (by omega) _ rfl (Wi j).symm
 ·have:j=n.toNat:=by omega
  subst this
  rw [Ou]
theorem rP:Jd Try.prog 58 aC:=
 Jd.FG jE Dk mixed Try.func58 (by kernel_rfl) (by kernel_rfl) λx h=>DG x.1 h
theorem zc (n:Int) (h:1<=n/\n<=20):fnMW kW (look [(39,Df),(58,aC)]) Wf Try.f22 (n,()) (λ(z:(List Int×Unit)×Unit)=>z=((upto n.toNat,()),())):=by
 refine Eq.mp (zL n _) ⟨true,Af trivial|>.trans (Fh some (Ct ⟨h.1,h.2⟩)),λhc=>(by cases hc),λ_=>⟨_,Af ⟨by show 0<=n;omega,h.2⟩,?_⟩⟩
 rw [Ou]
theorem ou:Jd Try.prog 22 Wf:=
 Jd.FG jE (Cg Ua (Zy rP Dk)) mixed Try.func22 (by kernel_rfl) (by kernel_rfl) λx h=>zc x.1 h
theorem uz {b:List Int} (n:Int): ∀(k:Nat) (i h:Int) (mv:List Int),kY b i->kY b (bH b n k i h mv).1
 |0,_,_,_,hd=>hd
 |k+1,i,h,mv,hd=>by rw [bH];exact uz n k _ _ _ hd.next.next
theorem mD {b:List Int} {n i:Int} (hd:kY b i) (h:Int):kY b (jh b n i h).1:=uz n _ _ _ _ hd.next
theorem xR (b:List Int) (n:Int): ∀(k:Nat) (i h:Int) (ms:List (List Int)),(Vf b n k i h ms).2.2.length=k+ms.length
 |0,_,_,ms=>by rw [Vf];show ms.length=0+ms.length;omega
 |k+1,i,h,ms=>by rw [Vf,xR b n k,Cf,Ex];omega
theorem xQ {b:List Int} (n:Int): ∀(k:Nat) (i h:Int) (ms:List (List Int)),kY b i->kY b (Vf b n k i h ms).1
 |0,_,_,_,hd=>hd
 |k+1,i,h,ms,hd=>by rw [Vf];exact xQ n k _ _ _ (mD hd h)
theorem OH {xs:List Int} {y:Int} (h0:0<=y) (h:y<xs.length):xs[0+y.toNat]?=some (Gr xs y):=by
 have hl:y.toNat<xs.length:=by omega
 unfold Gr
 rw [Dp,An,Ac hl]
 rfl
theorem RN (b:List Int) (i h:Int) (hd:kY b i):fnMW kW (look [(21,Vs),(22,Wf)]) pM Try.f7 (b,i,h,()) (λ(z:(List Int×Int×Int×Int×ByteArray×List (List Int)×Unit)×Unit)=>z=((b,(Ve b i h).1,(Ve b i h).2.1,(Ve b i h).2.2.1,(Ve b i h).2.2.2.1,(Ve b i h).2.2.2.2.1,()),())):=by
 have hr:=lR hd (show (1:Int)<=3 by decide) h
 obtain ⟨n,hn⟩: ∃n,3+dR b i h 3=n:=⟨_,rfl⟩
 obtain ⟨R,hR⟩: ∃R,Vf b n 2 (dI b i) (hN h) []=R:=⟨_,rfl⟩
 have hm:Ve b i h=(R.1,R.2.1,(n,CY,R.2.2,())):=by unfold Ve;rw [hn,hR]
 rw [hm]
 refine Eq.mp (SA b i h _) ⟨_,Af ⟨hd,by show (1:Int)<=3;decide⟩,rfl,rfl,rfl,rfl,?_⟩
 dsimp only
 rw [En (n:=3+dR b i h 3) (by omega) (by omega),hn]
 have hn3:3<=n/\n<=5:=by omega
 refine Gz.mk (λy=> ∃(f:Nat) (i h:Int) (ms:List (List Int)),y=((0:Int), {data:= #[]},n,CY,[],ms,b,i,h,())/\kY b i/\f+ms.length=2/\Vf b n f i h ms=R) (λy=>2-y.2.2.2.2.2.1.length)
  ⟨2,dI b i,hN h,[],rfl,hd.next,rfl,hR⟩ ?_
 rintro y ⟨f,i,h,ms,rfl,hd,hl,hv⟩
 dsimp only
 refine Br.dec (λhf=>?_) λhf=>?_
 ·obtain ⟨f,rfl⟩: ∃f',f=f'+1:=⟨f-1,by omega⟩
  rw [Vf] at hv
  obtain ⟨M,hM⟩: ∃M,jh b n i h=M:=⟨_,rfl⟩
  have hMd:kY b M.1:=by rw [<-hM];exact mD hd h
  rw [hM] at hv
  unfold jh at hM
  have hr:=lR hd (show (1:Int)<=3 by decide) h
  refine ⟨_,Af ⟨by show 1<=n;omega,by show n<=20;omega⟩,_,Af ⟨hd,by show (1:Int)<=3;decide⟩,rfl,rfl,rfl,rfl,rfl,rfl,?_⟩
  dsimp only
  rw [En (n:=1+dR b i h 3) (by omega) (by omega)]
  refine Gz.mk (λz=> ∃(c:Nat) (i h:Int) (mv:List Int),z=((c:Int),(0:Int), {data:= #[]},n,CY,[],ms,mv,b,i,h,())/\kY b i/\c<=3/\mv.length=n.toNat/\bH b n c i h mv=M) (λz=>z.1.toNat)
   ⟨(1+dR b i h 3).toNat,dI b i,hN h,upto n.toNat,by rw [Int.toNat_of_nonneg (by omega)],hd.next,by omega,Ps _,hM⟩ ?_
  rintro z ⟨c,i',h',mv,rfl,yw,hc,cB,TK⟩
  dsimp only
  refine Br.dec (λgz=>?_) λgz=>?_
  ·obtain ⟨c,rfl⟩: ∃c',c=c'+1:=⟨c-1,by omega⟩
   rw [bH] at TK
   have r1:=lR yw (show 1<=n by omega) h'
   have r2:=lR yw.next (show 1<=n by omega) (hN h')
   have l1:dR b i' h' n<mv.length:=by omega
   have l2:dR b (dI b i') (hN h') n<mv.length:=by omega
   refine ⟨_,Af ⟨yw,by show 1<=n;omega⟩,_,Af ⟨yw.next,by show 1<=n;omega⟩,⟨r1.1,l1⟩,_,OH r1.1 l1,⟨r2.1,l2⟩,_,OH r2.1 l2,⟨r1.1,l1⟩,by show 0+(dR b i' h' n).toNat<mv.length;omega,⟨r2.1,l2⟩,
    by rw [Eh];show 0+(dR b (dI b i') (hN h') n).toNat<mv.length;omega,rfl,by simp only [Eh],rfl,rfl,rfl,rfl,?_⟩
   dsimp only
   rw [En (by omega) (by omega),Dp,Dp]
   exact ⟨⟨c,_,_,_,by rw [show ((c+1:Nat):Int)-1=(c:Int) by omega],yw.next.next,by omega,by simp only [Eh];exact cB,TK⟩,by show ((((c+1:Nat):Int)-1).toNat)<(((c+1:Nat):Int)).toNat;omega⟩
  ·obtain rfl:c=0:=by omega
   rw [bH] at TK
   subst TK
   refine ⟨rfl,rfl,by show ms.length+1<=4294967296;omega,rfl,rfl,rfl,rfl,?_⟩
   rw [Ou]
   exact ⟨⟨f,_,_,_,rfl,hMd,by rw [Cf];show f+(ms.length+1)=2;omega,hv⟩,by show 2-(ms++ [mv]).length<2-ms.length;rw [Cf,Ex];omega⟩
 ·obtain rfl:f=0:=by omega
  rw [Vf] at hv
  rw [<-hv]
  simp only [Ou]
theorem zu:Jd Try.prog 7 pM:=
 Jd.CT jE (Zy ur (Zy ou Dk)) mixed Try.func7 (by kernel_rfl) (by kernel_rfl) λx h=>RN x.1 x.2.1 x.2.2.1 h
end Go.Proofs.Ytfgfigkbgecfnaa
