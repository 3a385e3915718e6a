/-
  Part 41 of the proof that the statement FnTables holds.
-/
import Derived.Test.YtkkdpknjohcekaaCFTables39
import Derived.Shelf.RegionOpenPlain
import Derived.WalkKit
import Derived.Lib.Walk
namespace Go.Proofs.Ytkkdpknjohcekaa
open Go.RowKit
def ap (p:List Int) (i:Nat):Nat:=(Hs p (i:Int)).toNat
def Pm (n:Nat) (p:List Int):Prop:=p.length=n/\Zy p
theorem Pm.n1 {n:Nat} {p:List Int} (h:Pm n p):1<=n:=h.1▸h.2.pos
theorem Pm.n2 {n:Nat} {p:List Int} (h:Pm n p):n<=20:=h.1▸h.2.len
theorem Pm.Yc {n:Nat} {p:List Int} (h:Pm n p) {i:Nat} (hi:i<n):Hs p (i:Int)=(ap p i:Int)/\ap p i<n:=by
 have pb:i<p.length:=by rw [h.1];exact hi
 have:=h.2.row _ (Ak pb)
 unfold ap
 rw [Jr pb]
 have h1:=h.1
 omega
theorem Pm.lt {n:Nat} {p:List Int} (h:Pm n p) {i:Nat} (hi:i<n):ap p i<n:=(h.Yc hi).2
theorem Pm.ext {n:Nat} {p q:List Int} (h:Pm n p) (k:Pm n q) (e: ∀i,i<n->ap p i=ap q i):p=q:=by
 refine List.ext_getElem (by rw [h.1,k.1]) λi h1 h2=>?_
 have hi:i<n:=by rw [<-h.1];exact h1
 have a:=(h.Yc hi).1
 have b:=(k.Yc hi).1
 rw [Jr h1] at a
 rw [Jr h2] at b
 rw [a,b,e i hi]
theorem Pm.inj {n:Nat} {p:List Int} (h:Pm n p) {i j:Nat} (hi:i<n) (hj:j<n) (e:ap p i=ap p j):i=j:=
 h.2.inj i j (by rw [h.1];exact hi) (by rw [h.1];exact hj) e
theorem Pm.KR {n:Nat} {p:List Int} (h:Pm n p) {k:Nat} (hk:k<n): ∃i,i<n/\ap p i=k:=by
 obtain ⟨i,h1,h2⟩:=h.2.KR k (by rw [h.1];exact hk)
 exact ⟨i,by rw [<-h.1];exact h1,h2⟩
theorem Pm.of {n:Nat} {p:List Int} (hl:p.length=n) (h1:1<=n) (h2:n<=20) (f:Nat->Nat) (hf: ∀i,i<n->p[i]?=some (f i:Int)/\f i<n) (hi: ∀i j,i<n->j<n->f i=f j->i=j):Pm n p:=by
 refine ⟨hl,by omega,by omega,λy hy=>?_,?_⟩
 ·obtain ⟨i,hi,rfl⟩:=Az.1 hy
  obtain ⟨h3,h4⟩:=hf i (by omega)
  rw [Ac hi] at h3
  rw [Ba h3]
  omega
 ·refine Eb.2 λi j h3 h4 h5 h6=>?_
  have a:=(hf i (by omega)).1
  have b:=(hf j (by omega)).1
  rw [Ac h3] at a
  rw [Ac h4] at b
  rw [Ba a,Ba b] at h6
  have:=hi i j (by omega) (by omega) (by omega)
  omega
theorem yx {n:Nat} {p q:List Int} (hp:Pm n p) (hq:Pm n q) {i:Nat} (hi:i<n):(As p q)[i]?=some (ap q (ap p i):Int):=by
 have h1:i<p.length:=by rw [hp.1];exact hi
 unfold As
 rw [Fk,Ac h1]
 have a:=(hp.Yc hi).1
 rw [Jr h1] at a
 simp only [Ai,a]
 rw [(hq.Yc (hp.Yc hi).2).1]
theorem Pm.comp {n:Nat} {p q:List Int} (hp:Pm n p) (hq:Pm n q):Pm n (As p q):=
 Pm.of (by rw [Xj,hp.1]) hp.n1 hp.n2 (λi=>ap q (ap p i)) (λi hi=>⟨yx hp hq hi,hq.lt (hp.lt hi)⟩) λi j hi hj e=>hp.inj hi hj (hq.inj (hp.lt hi) (hp.lt hj) e)
theorem OD {p:List Int} {i k:Nat} (h:p[i]?=some (k:Int)):ap p i=k:=by
 unfold ap Hs
 rw [Ay,Ah,h]
 simp
theorem Ug {n:Nat} {p q:List Int} (hp:Pm n p) (hq:Pm n q) {i:Nat} (hi:i<n):ap (As p q) i=ap q (ap p i):=OD (yx hp hq hi)
theorem s8 {n i:Nat} (hi:i<n):(upto n)[i]?=some (i:Int):=by simp [upto,hi]
theorem yf {n i:Nat} (hi:i<n):ap (upto n) i=i:=OD (s8 hi)
theorem Pm.id {n:Nat} (h1:1<=n) (h2:n<=20):Pm n (upto n):=Pm.of (by simp [upto]) h1 h2 (λi=>i) (λi hi=>⟨s8 hi,hi⟩) λ_ _ _ _ e=>e
theorem HX {n:Nat} {p:List Int} (hp:Pm n p) {i:Nat} (hi:i<n):(Dl p)[ap p i]?=some (i:Int):=QH hp.2 (by rw [hp.1];exact hi)
theorem oW {n:Nat} {p:List Int} (hp:Pm n p) {i:Nat} (hi:i<n):ap (Dl p) (ap p i)=i:=OD (HX hp hi)
theorem vB {n:Nat} {p:List Int} (hp:Pm n p) {k:Nat} (hk:k<n):ap p (ap (Dl p) k)=k:=by
 obtain ⟨i,hi,rfl⟩:=hp.KR hk
 rw [oW hp hi]
theorem Pm.inv {n:Nat} {p:List Int} (hp:Pm n p):Pm n (Dl p):=by
 refine Pm.of (by rw [wg,hp.1]) hp.n1 hp.n2 (λk=>ap (Dl p) k) (λk hk=>?_) λi j hi hj e=>?_
 ·obtain ⟨i,hi,rfl⟩:=hp.KR hk
  rw [oW hp hi]
  exact ⟨HX hp hi,hi⟩
 ·rw [<-vB hp hi,<-vB hp hj,e]
theorem Vw {n:Nat} {p q r:List Int} (hp:Pm n p) (hq:Pm n q) (hr:Pm n r):As (As p q) r=As p (As q r):=
 ((hp.comp hq).comp hr).ext (hp.comp (hq.comp hr)) λi hi=>by rw [Ug (hp.comp hq) hr hi,Ug hp hq hi,Ug hp (hq.comp hr) hi,Ug hq hr (hp.lt hi)]
theorem comp_id {n:Nat} {p:List Int} (hp:Pm n p):As p (upto n)=p:=
 (hp.comp (Pm.id hp.n1 hp.n2)).ext hp λi hi=>by rw [Ug hp (Pm.id hp.n1 hp.n2) hi,yf (hp.lt hi)]
theorem id_comp {n:Nat} {p:List Int} (hp:Pm n p):As (upto n) p=p:=
 ((Pm.id hp.n1 hp.n2).comp hp).ext hp λi hi=>by rw [Ug (Pm.id hp.n1 hp.n2) hp hi,yf hi]
theorem pV {n:Nat} {p:List Int} (hp:Pm n p):As p (Dl p)=upto n:=
 (hp.comp hp.inv).ext (Pm.id hp.n1 hp.n2) λi hi=>by rw [Ug hp hp.inv hi,oW hp hi,yf hi]
theorem qy {n:Nat} {p:List Int} (hp:Pm n p):As (Dl p) p=upto n:=
 (hp.inv.comp hp).ext (Pm.id hp.n1 hp.n2) λi hi=>by rw [Ug hp.inv hp hi,vB hp hi,yf hi]
theorem qz {n:Nat} {p q:List Int} (hp:Pm n p) (hq:Pm n q) (h:As p q=upto n):Dl p=q:=by
 rw [<-comp_id hp.inv,<-h,<-Vw hp.inv hp hq,qy hp,id_comp hq]
theorem inv_mul {n:Nat} {p q:List Int} (hp:Pm n p) (hq:Pm n q):Dl (As p q)=As (Dl q) (Dl p):=
 qz (hp.comp hq) (hq.inv.comp hp.inv) (by
  rw [Vw hp hq (hq.inv.comp hp.inv),<-Vw hq hq.inv hp.inv,pV hq,id_comp hp.inv,pV hp])
theorem inv_inv {n:Nat} {p:List Int} (hp:Pm n p):Dl (Dl p)=p:=qz hp.inv hp (qy hp)
theorem Aat {n:Nat} (h1:1<=n) (h2:n<=20):Dl (upto n)=upto n:=qz (Pm.id h1 h2) (Pm.id h1 h2) (comp_id (Pm.id h1 h2))
inductive jE (n:Nat) (S:List Int->Prop):List Int->Prop where
 |id:jE n S (upto n)
 |mul {p g:List Int} :jE n S p->S g->jE n S (As p g)
 |inv {p g:List Int} :jE n S p->S g->jE n S (As p (Dl g))
def YZ (n:Nat) (S:List Int->Prop):Prop:=(1<=n/\n<=20)/\ ∀g,S g->Pm n g
theorem jE.pm {n:Nat} {S:List Int->Prop} (hS:YZ n S) {p:List Int} (h:jE n S p):Pm n p:=by
 induction h with
 |id=>exact Pm.id hS.1.1 hS.1.2
 |mul _ hg ih=>exact ih.comp (hS.2 _ hg)
 |inv _ hg ih=>exact ih.comp (hS.2 _ hg).inv
theorem jE.comp {n:Nat} {S:List Int->Prop} (hS:YZ n S) {p q:List Int} (hp:jE n S p) (hq:jE n S q):jE n S (As p q):=by
 induction hq with
 |id=>rw [comp_id (hp.pm hS)];exact hp
 |mul hq hg ih=>rw [<-Vw (hp.pm hS) (hq.pm hS) (hS.2 _ hg)];exact .mul ih hg
 |inv hq hg ih=>rw [<-Vw (hp.pm hS) (hq.pm hS) (hS.2 _ hg).inv];exact .inv ih hg
theorem jE.one {n:Nat} {S:List Int->Prop} (hS:YZ n S) {g:List Int} (hg:S g):jE n S g:=by
 have:=jE.mul (n:=n) (S:=S) .id hg
 rwa [id_comp (hS.2 g hg)] at this
theorem jE.Ab3 {n:Nat} {S:List Int->Prop} (hS:YZ n S) {g:List Int} (hg:S g):jE n S (Dl g):=by
 have:=jE.inv (n:=n) (S:=S) .id hg
 rwa [id_comp (hS.2 g hg).inv] at this
theorem jE.VP {n:Nat} {S:List Int->Prop} (hS:YZ n S) {p:List Int} (hp:jE n S p):jE n S (Dl p):=by
 induction hp with
 |id=>rw [Aat hS.1.1 hS.1.2];exact .id
 |mul hq hg ih=>rw [inv_mul (hq.pm hS) (hS.2 _ hg)];exact (jE.Ab3 hS hg).comp hS ih
 |inv hq hg ih=>rw [inv_mul (hq.pm hS) (hS.2 _ hg).inv,inv_inv (hS.2 _ hg)];exact (jE.one hS hg).comp hS ih
theorem jE.trans {n:Nat} {S S':List Int->Prop} (hS':YZ n S') (h: ∀g,S g->jE n S' g) {p:List Int} (hp:jE n S p):jE n S' p:=by
 induction hp with
 |id=>exact .id
 |mul _ hg ih=>exact ih.comp hS' (h _ hg)
 |inv _ hg ih=>exact ih.comp hS' ((h _ hg).VP hS')
abbrev PO:=Option (List Int)
abbrev Row:=List PO
abbrev Qv:=List Row
def HJ (T:Qv):Nat->Nat->List Int->Bool
 |0,_,_=>true
 |k+1,i,p=>match (T.getD i []).getD (Hs p (i:Int)).toNat none with
  |none=>false
  |some t=>HJ T k (i+1) (As p (Dl t))
def YM (row:Row):Nat:=row.countP (·.isNone)
def Fx (l:Nat) (p:List Int):Prop:= ∀i,i<l->ap p i=i
def Gn (n:Nat) (gs:List PO):List Int->Prop:=jE n λg=>some g∈gs
structure Lvl (n l:Nat) (gs:List PO) (row:Row) (H:List Int->Prop):Prop where
 pg: ∀o∈gs,∃g,o=some g/\Pm n g/\Fx l g
 rl:row.length=n
 r0:row.getD l none=some (upto n)
 rt: ∀y t,row.getD y none=some t->Pm n t/\Fx l t/\ap t l=y/\Gn n gs t
 cl: ∀y t g,row.getD y none=some t->some g∈gs->row.getD (ap g y) none≠none
 sg: ∀y t g t',row.getD y none=some t->some g∈gs->row.getD (ap g y) none=some t'->H (As (As t g) (Dl t'))
def YY (n:Nat):Nat->Nat->Qv×Qv->Prop
 |0,l,s=>s.1.getD l []= []
 |k+1,l,s=>YY n k (l+1) s/\Lvl n l (s.1.getD l []) (s.2.getD l []) (λq=>HJ s.2 k (l+1) q=true)/\ ∀g,some g∈s.1.getD (l+1) []->Gn n (s.1.getD l []) g
theorem Fx.inv {n l:Nat} {p:List Int} (hp:Pm n p) (h:Fx l p) (hl:l<=n):Fx l (Dl p):= λi hi=>by
 have:=oW hp (i:=i) (by omega)
 rwa [h i hi] at this
theorem Fx.comp {n l:Nat} {p q:List Int} (hp:Pm n p) (hq:Pm n q) (h1:Fx l p) (h2:Fx l q) (hl:l<=n):Fx l (As p q):= λi hi=>by
 rw [Ug hp hq (by omega),h1 i hi,h2 i hi]
theorem jE.mono {n:Nat} {S S':List Int->Prop} (h: ∀g,S g->S' g) {p:List Int} (hp:jE n S p):jE n S' p:=by
 induction hp with
 |id=>exact .id
 |mul _ hg ih=>exact .mul ih (h _ hg)
 |inv _ hg ih=>exact .inv ih (h _ hg)
structure GR (n l:Nat) (gs:List PO) (row:Row):Prop where
 rl:row.length=n
 r0:row.getD l none=some (upto n)
 rt: ∀y t,row.getD y none=some t->Pm n t/\Fx l t/\ap t l=y/\Gn n gs t
def PG (n l:Nat) (gs:List PO):Prop:= ∀o∈gs,∃g,o=some g/\Pm n g/\Fx l g
structure Ext (n l:Nat) (gs:List PO) (row:Row) (q:List Int) (s':Row×List Int):Prop where
 ok:GR n l gs s'.1
 mono: ∀y t,row.getD y none=some t->s'.1.getD y none=some t
 phi:s'.2.length+YM s'.1=q.length+YM row
 sK: ∀y∈q,y∈s'.2
 new: ∀y∈s'.2,y∈q\/ ∃yn:Nat,y=yn/\s'.1.getD yn none≠none
 src: ∀y:Nat,s'.1.getD y none≠none->row.getD y none≠none\/(y:Int)∈s'.2
theorem Ext.refl {n l:Nat} {gs:List PO} {row:Row} {q:List Int} (h:GR n l gs row):Ext n l gs row q (row,q):=⟨h,λ_ _ h=>h,rfl,λ_ h=>h,λ_ h=> .inl h,λ_ h=> .inl h⟩
theorem DS {a b:Row} (h: ∀y t,a.getD y none=some t->b.getD y none=some t) {y:Nat} (hy:a.getD y none≠none):b.getD y none≠none:=by
 cases e:a.getD y none with
 |none=>exact absurd e hy
 |some t=>rw [h y t e];simp
theorem Ext.trans {n l:Nat} {gs:List PO} {row:Row} {q:List Int} {s1 s2:Row×List Int} (h:Ext n l gs row q s1) (k:Ext n l gs s1.1 s1.2 s2):Ext n l gs row q s2:=by
 refine ⟨k.ok,λy t e=>k.mono y t (h.mono y t e),k.phi.trans h.phi,λy hy=>k.sK y (h.sK y hy),λy hy=>?_,λy hy=>?_⟩
 ·rcases k.new y hy with h1|h1
  ·rcases h.new y h1 with h2|⟨yn,h2,h3⟩
   ·exact .inl h2
   ·exact .inr ⟨yn,h2,DS k.mono h3⟩
  ·exact .inr h1
 ·rcases k.src y hy with h1|h1
  ·exact (h.src y h1).imp id λh2=>k.sK _ h2
  ·exact .inr h1
def Ahe (row:Row):Nat:=row.countP (·.isSome)
def Af3 (T:Qv):Nat->Nat->Nat
 |0,_=>0
 |k+1,l=>Ahe (T.getD l [])+Af3 T k (l+1)
def GBf:Nat->Nat->Qv×Qv->Prop
 |0,_,_=>True
 |k+1,l,s=>GBf k (l+1) s/\(s.1.getD l []).length<=Af3 s.2 (k+1) l
structure og (l0:Nat) (s s':Qv×Qv):Prop where
 Aaw:s'.1.length=s.1.length
 qE:s'.2.length=s.2.length
 low: ∀i,i<l0->s'.1.getD i []=s.1.getD i []/\s'.2.getD i []=s.2.getD i []
 XG: ∀i o,o∈s.1.getD i []->o∈s'.1.getD i []
 YS: ∀i y t,(s.2.getD i []).getD y none=some t->(s'.2.getD i []).getD y none=some t
 Af5: ∀i,(s'.2.getD i []).length=(s.2.getD i []).length
theorem og.refl (l0:Nat) (s:Qv×Qv):og l0 s s:=⟨rfl,rfl,λ_ _=>⟨rfl,rfl⟩,λ_ _ h=>h,λ_ _ _ h=>h,λ_=>rfl⟩
theorem og.trans {l0 l1:Nat} {a b c:Qv×Qv} (h:og l0 a b) (k:og l1 b c) (hl:l0<=l1):og l0 a c:=
 ⟨k.Aaw.trans h.Aaw,k.qE.trans h.qE,λi hi=>⟨(k.low i (by omega)).1.trans (h.low i hi).1,(k.low i (by omega)).2.trans (h.low i hi).2⟩,λi o ho=>k.XG i o (h.XG i o ho),λi y t e=>k.YS i y t (h.YS i y t e),λi=>(k.Af5 i).trans (h.Af5 i)⟩
theorem og.Io {l0 l1:Nat} {a b:Qv×Qv} (h:og l1 a b) (hl:l0<=l1):og l0 a b:=(og.refl l0 a).trans h hl
def V (n k l:Nat) (s:Qv×Qv):Prop:=s.1.length=n/\s.2.length=n/\YY n k l s/\GBf k l s
theorem Lvl.row {n l:Nat} {gs:List PO} {row:Row} {H:List Int->Prop} (h:Lvl n l gs row H):GR n l gs row:=⟨h.rl,h.r0,h.rt⟩
theorem V.lvl {n k l:Nat} {s:Qv×Qv} (h:V n (k+1) l s):Lvl n l (s.1.getD l []) (s.2.getD l []) (λq=>HJ s.2 k (l+1) q=true):=h.2.2.1.2.1
theorem V.pg {n k l:Nat} {s:Qv×Qv} (h:V n (k+1) l s) {p:List Int} (hp:Pm n p) (hf:Fx l p):PG n l (s.1.getD l []++ [some p]):= λo ho=>by
 rcases Aw.1 ho with ho|ho
 ·exact h.lvl.pg o ho
 ·rw [Ad] at ho;exact ⟨p,ho,hp,hf⟩
theorem Pm.row {n:Nat} {p:List Int} (h:Pm n p):Oj n p:=by
 have:=h.2.row
 rwa [h.1] at this
def PmL (n:Nat) (Ahk:List PO):Prop:= ∀o∈Ahk,∃g,o=some g/\Pm n g
theorem OI {p:PP} (hv:Valid p):(1<=p.1/\p.1<=20)/\List.length p.2.2.1<=4294967296/\ ∀g∈p.2.2.1,Pm p.1.toNat g:=
 ⟨hv.n,by have:=hv.oz;omega,λg hg=>⟨by have:=hv.len g hg;omega,gy (hv.perm g hg)⟩⟩
theorem RV {n:Nat} {g:List (List Int)} (h: ∀x∈g,Pm n x):PmL n (g.map some):= λo ho=>by
 obtain ⟨x,hx,rfl⟩:=Bo.1 ho
 exact ⟨x,rfl,h x hx⟩
theorem gr {α:Type} [DecidableEq α]: ∀ {l1 l2:List α},l1.Nodup->(∀x∈l1,x∈l2)->l1.length<=l2.length
 | [],_,_,_=>Mz _
 |a::l,l2,hn,hs=>by
  obtain ⟨h1,h2⟩:=Ca.1 hn
  have ha:=hs a (by simp)
  have:=gr (l1:=l) (l2:=l2.erase a) h2 λy hy=>by
   have hya:y≠a:= λe'=>h1 (by rw [<-e'];exact hy)
   exact (List.mem_erase_of_ne hya).2 (hs y (by simp [hy]))
  rw [List.length_erase_of_mem ha] at this
  have:=List.length_pos_of_mem ha
  simp only [Bg]
  omega
theorem mc {g:List (List Int)} (Q:List Int->Prop) {x:List Int} {d:Int} : ∀(ls:List Int) (L:List (List Int)) (D:List Int),(∀l∈ls,Q (As x (Av g l)))->(∀y∈L,Q y)->
  (∀y∈(Hz g x d ls L D).1,Q y)/\(∀y∈L,y∈(Hz g x d ls L D).1)/\((Hz g x d ls L D).2.2=true-> ∀l∈ls,As x (Av g l)∈(Hz g x d ls L D).1)/\
   ((Hz g x d ls L D).2.2=false->(Hz g x d ls L D).1.length=3000/\ ∃z,Q z/\z∉(Hz g x d ls L D).1)
 | [],L,D,_,h=>⟨h,λ_ h=>h,(λ_ l hl=>by cases hl),(λe=>by cases e)⟩
 |l::ls,L,D,hq,h=>by
  have ud: ∀l∈ls,Q (As x (Av g l)):= λl' h'=>hq l' (An _ h')
  simp only [Hz]
  split
  ·rename_i hm
   obtain ⟨a1,a2,a3,a4⟩:=mc Q (d:=d) ls L D ud h
   refine ⟨a1,a2,λe l' Ns=>?_,a4⟩
   rcases Bb.1 Ns with rfl|Ns
   ·exact a2 _ hm
   ·exact a3 e l' Ns
  ·rename_i hn
   split
   ·rename_i hf
    exact ⟨h,λ_ h=>h,(λe=>by cases e),λ_=>⟨hf,_,hq l (by simp),hn⟩⟩
   ·obtain ⟨a1,a2,a3,a4⟩:=mc Q (d:=d) ls (L++ [As x (Av g l)]) (D++ [d+1]) ud λy hy=>by
     rcases Aw.1 hy with hy|hy
     ·exact h y hy
     ·rw [Ad.1 hy];exact hq l (by simp)
    refine ⟨a1,λy hy=>a2 y (Bk _ hy),λe l' Ns=>?_,a4⟩
    rcases Bb.1 Ns with rfl|Ns
    ·exact a2 _ (Bu _ (by simp))
    ·exact a3 e l' Ns
theorem tQ {p:PP} (hV:Valid p) {m:Nat} {ls:List Int} (hl: ∀l∈ls,Hj (List.length p.2.2.1) l) (Q:List Int->Prop) (hQ: ∀x,Q x-> ∀l∈ls,Q (As x (Av p.2.2.1 l))):
  ∀(f k:Nat) (L:List (List Int)) (D:List Int),3001<=f+k->k<=L.length->Tg p m L D->(∀y∈L,Q y)->(∀(j:Nat) (h:j<L.length),j<k-> ∀l∈ls,As L[j] (Av p.2.2.1 l)∈L)->
  (∀y∈(Ky p.2.2.1 ls f k L D).1,Q y)/\((Ky p.2.2.1 ls f k L D).2.2=true-> ∀x∈(Ky p.2.2.1 ls f k L D).1,∀l∈ls,As x (Av p.2.2.1 l)∈(Ky p.2.2.1 ls f k L D).1)/\
   ((Ky p.2.2.1 ls f k L D).2.2=false->(Ky p.2.2.1 ls f k L D).1.length=3000/\ ∃z,Q z/\z∉(Ky p.2.2.1 ls f k L D).1)
 |0,k,L,D,hf,VC,hb,hq,hc=>by
  have:=hb.ok.oz
  omega
 |f+1,k,L,D,hf,VC,hb,hq,hc=>by
  simp only [Ky]
  split
  ·rename_i hk
   have JT:k<D.length:=by rw [hb.len];exact hk
   have hd:=hb.dep k JT
   have e:D.getD k 0=D[k]:=by rw [Ah,Ac JT];rfl
   rw [Un hk,e]
   obtain ⟨k1,⟨A,k2⟩,_⟩:=kM hV (hb.row _ (Ak hk)) (hb.ok.len _ (Ak hk)) (d:=D[k]) ls L D hl hb ⟨by omega,by omega⟩
   obtain ⟨a1,a2,a3,a4⟩:=mc (g:=p.2.2.1) Q (x:=L[k]) (d:=D[k]) ls L D (hQ _ (hq _ (Ak hk))) hq
   split
   ·rename_i L' D' he
    rw [he] at k1 k2 a1 a2 a3 a4
    have k2:L'=L++A:=k2
    refine tQ hV hl Q hQ f (k+1) L' D' (by omega) (by rw [k2,Au];omega) k1 a1 λj hj hjk l Ns=>?_
    by_cases e':j<k
    ·have e2:L'[j]=L[j]:=by simp only [k2];rw [Og (by omega)]
     rw [e2];exact a2 _ (hc j (by omega) e' l Ns)
    ·have:j=k:=by omega
     subst this
     have e2:L'[j]=L[j]:=by simp only [k2];rw [Og (by omega)]
     rw [e2];exact a3 rfl l Ns
   ·rename_i L' D' he
    rw [he] at a1 a4
    exact ⟨a1,(λe=>by cases e),λ_=>a4 rfl⟩
  ·rename_i hk
   refine ⟨hq,λ_ x hx l Ns=>?_,λe=>by cases e⟩
   obtain ⟨j,hj,rfl⟩:=Az.1 hx
   have hj:j<L.length:=hj
   exact hc j hj (by omega) l Ns
theorem vE {p:PP} (hv:Dh p=true) {s:List Int} (hs:s.length<=20) (hr: ∀y∈s,0<=y/\y<p.1) (Q:List Int->Prop) (hQs:Q s) (hQ: ∀x,Q x-> ∀l∈Cu p.2.2.1.length,Q (As x (Av p.2.2.1 l))):
  (∀y∈(Gp p.2.2.1 s).1,Q y)/\((Gp p.2.2.1 s).2.2=true-> ∀x∈(Gp p.2.2.1 s).1,∀l∈Cu p.2.2.1.length,As x (Av p.2.2.1 l)∈(Gp p.2.2.1 s).1)/\
   ((Gp p.2.2.1 s).2.2=false->(Gp p.2.2.1 s).1.length=3000/\ ∃z,Q z/\z∉(Gp p.2.2.1 s).1):=
 tQ (valid hv) (λ_ hl=>Ol hl) Q hQ 3001 0 [s] [0] (by omega) (Mz _) (ib hs hr) (λy hy=>by rw [Ad.1 hy];exact hQs) λj _ hj=>absurd hj (Gk _)
theorem lN {g:List (List Int)} {x:List Int} :some x∈g.map some↔x∈g:=by simp
theorem DM {n:Nat} {g:List (List Int)} {x:List Int} (h:Gn n (g.map some) x) {l:Int} (hl:l∈Cu g.length):Gn n (g.map some) (As x (Av g l)):=by
 obtain ⟨k,hk,rfl|rfl⟩:=Ou (Ol hl)
 ·rw [Ow hk];exact .mul h (lN.2 (Ak hk))
 ·rw [Ov hk];exact .inv h (lN.2 (Ak hk))
theorem Tl {n k:Nat} (hk:k<n):(k:Int)+1∈Cu n/\ -((k:Int)+1)∈Cu n:=by
 unfold Cu
 exact ⟨Oe.2 ⟨k,Hu.2 hk,by simp⟩,Oe.2 ⟨k,Hu.2 hk,by simp⟩⟩
theorem CQ {n:Nat} {g:List (List Int)} {L:List (List Int)} (h0:upto n∈L) (hc: ∀x∈L,∀l∈Cu g.length,As x (Av g l)∈L) {p:List Int} (hp:Gn n (g.map some) p):p∈L:=by
 induction hp with
 |id=>exact h0
 |mul _ hg ih=>
  obtain ⟨k,hk,rfl⟩:=Az.1 (lN.1 hg)
  have:=hc _ ih _ (Tl hk).1
  rwa [Ow hk] at this
 |inv _ hg ih=>
  obtain ⟨k,hk,rfl⟩:=Az.1 (lN.1 hg)
  have:=hc _ ih _ (Tl hk).2
  rwa [Ov hk] at this
structure Reach (p:PP) (L:List (List Int)) (D:List Int) (whole:Bool):Prop where
 ok:Tg p p.1.toNat L D
 nodup:L.Nodup
 first: ∃A,L=upto p.1.toNat::A
 gen: ∀x∈L,Gn p.1.toNat (p.2.2.1.map some) x
 all:whole=true-> ∀x,Gn p.1.toNat (p.2.2.1.map some) x->x∈L
 big:whole=false->L.length=3000/\ ∃z,Gn p.1.toNat (p.2.2.1.map some) z/\z∉L
theorem Fy.nodup {m:Nat} {L:List (List Int)} {Mg:List Int} (h:Fy m L Mg):L.Nodup:=
 Eb.2 λi j hi hj il e=>by have:=h.inj hi hj e;omega
theorem rh {p:PP} (hv:Dh p=true):Reach p (Gp p.2.2.1 (upto p.1.toNat)).1 (Gp p.2.2.1 (upto p.1.toNat)).2.1 (Gp p.2.2.1 (upto p.1.toNat)).2.2:=by
 have hV:=valid hv
 have hn:=hV.n
 have hl:(upto p.1.toNat).length=p.1.toNat:=Vi _
 have hr: ∀y∈upto p.1.toNat,0<=y/\y<p.1:= λy hy=>by have:=Si.1 hy;omega
 obtain ⟨b1,b2⟩:=vF hv (by omega) hr
 rw [hl] at b1
 obtain ⟨a1,a2,a3⟩:=vE hv (by omega) hr (λx=>Gn p.1.toNat (p.2.2.1.map some) x) .id λx hx l hl=>DM hx hl
 exact ⟨b1,b1.ok.nodup,b2,a1,λhw x hx=>CQ (by obtain ⟨A,e⟩:=b2;rw [e];simp) (a2 hw) hx,a3⟩
noncomputable def Kq (p:PP):Bool:=Dh p&&(Gp p.2.2.1 (upto p.1.toNat)).2.2
theorem Ig {α:Type} {xs ys:List α} {i:Nat} {d:α} (h:i<xs.length):(xs++ys).getD i d=xs.getD i d:=by
 rw [Ah,Ah,Ap h]
theorem Zm {α:Type} {xs:List α} {x d:α} :(xs++ [x]).getD xs.length d=x:=by
 rw [Ah,Ao (Ar _),Nat.sub_self];rfl
theorem Kb {α:Type} {xs:List α} {i:Nat} {d:α} (h:i<xs.length):xs.getD i d=xs[i]:=by
 rw [Ah,Ac h];rfl
structure Lv (g:List (List Int)) (ls:List Int) (k:Nat) (L:List (List Int)) (D:List Int):Prop where
 len:D.length=L.length
 pos:0<L.length
 mono: ∀i j,i<=j->j<L.length->D.getD i 0<=D.getD j 0
 VU:k<L.length-> ∀j,j<L.length->D.getD j 0<=D.getD k 0+1
 par: ∀j,0<j->j<L.length-> ∃i l,i<j/\l∈ls/\L.getD j []=As (L.getD i []) (Av g l)/\D.getD j 0=D.getD i 0+1
 zero:D.getD 0 0=0
theorem Lv.add {g:List (List Int)} {ls:List Int} {k:Nat} {L:List (List Int)} {D:List Int} (h:Lv g ls k L D) (hk:k<L.length) {l:Int} (hl:l∈ls):
  Lv g ls k (L++ [As (L.getD k []) (Av g l)]) (D++ [D.getD k 0+1]):=by
 have hlen:=h.len
 have hD: ∀i,i<L.length->(D++ [D.getD k 0+1]).getD i 0=D.getD i 0:= λi hi=>Ig (by omega)
 have XH:(D++ [D.getD k 0+1]).getD L.length 0=D.getD k 0+1:=by rw [<-hlen];exact Zm
 refine ⟨by simp [hlen],by simp,λi j il hj=>?_,λ_ j hj=>?_,λj h0 hj=>?_,?_⟩
 ·rw [Au,Cr] at hj
  by_cases e:j=L.length
  ·subst e
   rw [XH]
   by_cases e':i=L.length
   ·subst e';rw [XH];exact Iz _
   ·rw [hD i (by omega)]
    exact h.VU hk i (by omega)
  ·rw [hD i (by omega),hD j (by omega)]
   exact h.mono i j il (by omega)
 ·rw [Au,Cr] at hj
  rw [hD k hk]
  by_cases e:j=L.length
  ·subst e;rw [XH];exact Iz _
  ·rw [hD j (by omega)];exact h.VU hk j (by omega)
 ·rw [Au,Cr] at hj
  by_cases e:j=L.length
  ·subst e
   exact ⟨k,l,hk,hl,by rw [Zm,Ig hk],by rw [XH,hD k hk]⟩
  ·obtain ⟨i,l',h1,h2,h3,h4⟩:=h.par j h0 (by omega)
   exact ⟨i,l',h1,h2,by rw [Ig (by omega),Ig (by omega)];exact h3,by rw [hD j (by omega),hD i (by omega)];exact h4⟩
 ·rw [hD 0 h.pos];exact h.zero
theorem pQ {g:List (List Int)} {ls:List Int} {k:Nat} : ∀(IA:List Int) (L:List (List Int)) (D:List Int),(∀l∈IA,l∈ls)->Lv g ls k L D->k<L.length-> ∀ {x:List Int} {d:Int},x=L.getD k []->d=D.getD k 0->
  Lv g ls k (Hz g x d IA L D).1 (Hz g x d IA L D).2.1/\(∃A,(Hz g x d IA L D).1=L++A)/\(∃A,(Hz g x d IA L D).2.1=D++A)/\
  ((Hz g x d IA L D).2.2=true-> ∀l∈IA,∃j,j<(Hz g x d IA L D).1.length/\(Hz g x d IA L D).1.getD j []=As x (Av g l)/\(Hz g x d IA L D).2.1.getD j 0<=d+1)
 | [],L,D,_,h,_,x,d,_,_=>⟨h,⟨[],by simp [Hz]⟩,⟨[],by simp [Hz]⟩,λ_ l hl=>by cases hl⟩
 |l::IA,L,D,hs,h,hk,x,d,hx,hd=>by
  have KA: ∀l∈IA,l∈ls:= λl' h'=>hs l' (An _ h')
  have hlen:=h.len
  simp only [Hz]
  split
  ·rename_i hm
   obtain ⟨a1,⟨A,a2⟩,⟨A',a3⟩,a4⟩:=pQ IA L D KA h hk hx hd
   refine ⟨a1,⟨A,a2⟩,⟨A',a3⟩,λe l' Ns=>?_⟩
   rcases Bb.1 Ns with rfl|Ns
   ·obtain ⟨j,hj,hjx⟩:=Az.1 hm
    refine ⟨j,by rw [a2,Au];omega,by rw [a2,Ig hj,Kb hj];exact hjx,?_⟩
    rw [a3,Ig (by omega),hd]
    exact h.VU hk j hj
   ·exact a4 e l' Ns
  ·split
   ·exact ⟨h,⟨[],by simp⟩,⟨[],by simp⟩,λe=>by cases e⟩
   ·have OX:=h.add hk (hs l (by simp))
    rw [<-hx,<-hd] at OX
    obtain ⟨a1,⟨A,a2⟩,⟨A',a3⟩,a4⟩:=pQ IA (L++ [As x (Av g l)]) (D++ [d+1]) KA OX (by rw [Au];omega) (x:=x) (d:=d) (by rw [Ig hk];exact hx) (by rw [Ig (by omega)];exact hd)
    refine ⟨a1,⟨_::A,by rw [a2,Cz];rfl⟩,⟨_::A',by rw [a3,Cz];rfl⟩,λe l' Ns=>?_⟩
    rcases Bb.1 Ns with rfl|Ns
    ·refine ⟨L.length,by rw [a2,Au,Au];simp only [Cr];omega,?_,?_⟩
     ·rw [a2,Ig (by simp),Zm]
     ·rw [a3,Ig (by simp [hlen]),<-hlen,Zm]
      exact Iz _
    ·exact a4 e l' Ns
structure m7 (g:List (List Int)) (ls:List Int) (L:List (List Int)) (D:List Int):Prop where
 len:D.length=L.length
 pos:0<L.length
 zero:D.getD 0 0=0
 par: ∀j,0<j->j<L.length-> ∃i l,i<j/\l∈ls/\L.getD j []=As (L.getD i []) (Av g l)/\D.getD j 0=D.getD i 0+1
 step: ∀i,i<L.length-> ∀l∈ls,∃j,j<L.length/\L.getD j []=As (L.getD i []) (Av g l)/\D.getD j 0<=D.getD i 0+1
theorem ym {g:List (List Int)} {ls:List Int} : ∀(f k:Nat) (L:List (List Int)) (D:List Int),3001<=f+k->Lv g ls k L D->k<=L.length->
  (∀i,i<k-> ∀l∈ls,∃j,j<L.length/\L.getD j []=As (L.getD i []) (Av g l)/\D.getD j 0<=D.getD i 0+1)->
  (Ky g ls f k L D).2.2=true->(Ky g ls f k L D).1.length<=3000->m7 g ls (Ky g ls f k L D).1 (Ky g ls f k L D).2.1
 |0,k,L,D,hf,h,VC,hc,hw,h3=>by
  simp only [Ky] at h3⊢
  omega
 |f+1,k,L,D,hf,h,VC,hc,hw,h3=>by
  simp only [Ky] at hw h3⊢
  split
  ·rename_i hk
   rw [Ab hk] at hw h3
   obtain ⟨a1,⟨A,a2⟩,⟨A',a3⟩,a4⟩:=pQ (x:=L.getD k []) (d:=D.getD k 0) ls L D (λ_ h=>h) h hk rfl rfl
   have hlen:=h.len
   split
   ·rename_i L' D' he
    rw [he] at a1 a2 a3 a4
    simp only [he] at hw h3
    have a2:L'=L++A:=a2
    have a3:D'=D++A':=a3
    have a4:=a4 rfl
    dsimp only at a4
    have hLl:L.length<=L'.length:=by rw [a2,Au];omega
    refine ym f (k+1) L' D' (by omega) ⟨a1.len,a1.pos,a1.mono,λhk1 j hj=>?_,a1.par,a1.zero⟩ (by omega) (λi hi l hl=>?_) hw h3
    ·have h1:D'.getD j 0<=D'.getD k 0+1:=a1.VU (show k<L'.length by omega) j hj
     have h2:D'.getD k 0<=D'.getD (k+1) 0:=a1.mono k (k+1) (by omega) hk1
     omega
    ·by_cases e:i=k
     ·subst e
      obtain ⟨j,b1,b2,b3⟩:=a4 l hl
      refine ⟨j,b1,?_,?_⟩
      ·rw [b2,a2,Ig (by omega)]
      ·rw [show D'.getD i 0=D.getD i 0 by rw [a3,Ig (by omega)]];exact b3
     ·obtain ⟨j,b1,b2,b3⟩:=hc i (by omega) l hl
      refine ⟨j,by omega,?_,?_⟩
      ·rw [a2,Ig (by omega),Ig (by omega)];exact b2
      ·rw [a3,Ig (by omega),Ig (by omega)];exact b3
   ·rename_i L' D' he
    simp only [he] at hw
    cases hw
  ·rename_i hk
   exact ⟨h.len,h.pos,h.zero,h.par,λi hi=>hc i (by have hi:i<L.length:=hi;omega)⟩
theorem jN {p:PP} {s:List Int} (hv:Dh p=true) (hs:s.length<=20) (hr: ∀y∈s,0<=y/\y<p.1) (hw:(Gp p.2.2.1 s).2.2=true):
  m7 p.2.2.1 (Cu p.2.2.1.length) (Gp p.2.2.1 s).1 (Gp p.2.2.1 s).2.1:=by
 have hb:=(vF hv hs hr).1.ok.oz
 refine ym 3001 0 [s] [0] (by omega) ⟨rfl,by simp,λi j il hj=>?_,λ_ j hj=>?_,λj h0 hj=>?_,rfl⟩ (Mz _) (λi hi=>absurd hi (Gk _)) hw hb
 ·have:j=0:=by simpa using hj
  subst this
  have:i=0:=by omega
  subst this
  exact Iz _
 ·have:j=0:=by simpa using hj
  subst this
  simp
 ·have:j=0:=by simpa using hj
  omega
theorem nN {p:PP} (hV:Valid p) {x:List Int} (hx: ∀y∈x,0<=y/\y<p.1) {l:Int} (hl:l∈Cu p.2.2.1.length):
  -l∈Cu p.2.2.1.length/\As (As x (Av p.2.2.1 l)) (Av p.2.2.1 (-l))=x:=by
 obtain ⟨k,hk,Ra⟩:=Ou (Ol hl)
 have hg:=gy (hV.perm _ (Ak hk))
 have hgl:=hV.len _ (Ak hk)
 have hn:=hV.n
 have hp:Pm p.1.toNat (p.2.2.1[k]):=⟨by omega,hg⟩
 have key: ∀q r:List Int,Pm p.1.toNat q->Pm p.1.toNat r->As q r=upto p.1.toNat->As (As x q) r=x:= λq r hq hr he=>by
  refine List.ext_getElem (by rw [Xj,Xj]) λi h1 h2=>?_
  have hxi:=hx _ (Ak h2)
  obtain ⟨xi,hxe⟩:=Lm hxi.1
  have hxn:xi<p.1.toNat:=by omega
  have e1:ap (As q r) xi=ap (upto p.1.toNat) xi:=Hv (λz=>ap z xi) he
  rw [Ug hq hr hxn,yf hxn] at e1
  simp only [As,List.getElem_map,hxe]
  have h3:=(hq.Yc hxn).1
  have h4:=(hr.Yc (hq.lt hxn)).1
  rw [h3,h4,e1]
 rcases Ra with rfl|rfl
 ·refine ⟨(Tl hk).2,?_⟩
  rw [Ow hk,Ov hk]
  exact key _ _ hp hp.inv (pV hp)
 ·refine ⟨by rw [Int.neg_neg];exact (Tl hk).1,?_⟩
  rw [Int.neg_neg,Ow hk,Ov hk]
  exact key _ _ hp.inv hp (qy hp)
structure Pv (g:List (List Int)) (ls:List Int) (L:List (List Int)) (S:List Int->Prop) (d:List Int->Int):Prop where
 nn: ∀x∈L,0<=d x
 zero: ∀x∈L,d x=0↔S x
 step: ∀x∈L,∀l∈ls,d (As x (Av g l))<=d x+1
 down: ∀x∈L,0<d x-> ∃l∈ls,d (As x (Av g l))=d x-1
structure pw (g:List (List Int)) (ls:List Int) (L:List (List Int)):Prop where
 next: ∀x∈L,∀l∈ls,As x (Av g l)∈L
 back: ∀x∈L,∀l∈ls,-l∈ls/\As (As x (Av g l)) (Av g (-l))=x
theorem Pv.le {g:List (List Int)} {ls:List Int} {L:List (List Int)} {S:List Int->Prop} {d d':List Int->Int} (hc:pw g ls L) (h:Pv g ls L S d) (h':Pv g ls L S d'):
  ∀(n:Nat) (x:List Int),x∈L->d' x=n->d x<=n
 |0,x,hx,e=>by
  have:=(h.zero x hx).2 ((h'.zero x hx).1 e)
  omega
 |n+1,x,hx,e=>by
  obtain ⟨l,hl,hd⟩:=h'.down x hx (by omega)
  obtain ⟨b1,b2⟩:=hc.back x hx l hl
  have h1:=Pv.le hc h h' n _ (hc.next x hx l hl) (by omega)
  have h2:=h.step _ (hc.next x hx l hl) _ b1
  rw [b2] at h2
  omega
theorem Pv.eq {g:List (List Int)} {ls:List Int} {L:List (List Int)} {S:List Int->Prop} {d d':List Int->Int} (hc:pw g ls L) (h:Pv g ls L S d) (h':Pv g ls L S d') {x:List Int} (hx:x∈L):d x=d' x:=by
 have n1:=h.nn x hx
 have n2:=h'.nn x hx
 have h1:=Pv.le hc h h' (d' x).toNat x hx (by omega)
 have h2:=Pv.le hc h' h (d x).toNat x hx (by omega)
 omega
def cA (L:List (List Int)) (D:List Int) (x:List Int):Int:=if x∈L then D.getD (L.idxOf x) 0 else-1
theorem dj {L:List (List Int)} (hn:L.Nodup) {j:Nat} (hj:j<L.length):L.idxOf (L.getD j [])=j:=by
 rw [Kb hj]
 exact hn.idxOf_getElem j hj
theorem cn {L:List (List Int)} {j:Nat} (hj:j<L.length):L.getD j []∈L:=by rw [Kb hj];exact Ak hj
theorem jR {L:List (List Int)} {D:List Int} (hn:L.Nodup) {j:Nat} (hj:j<L.length):cA L D (L.getD j [])=D.getD j 0:=by
 unfold cA
 rw [Ab (cn hj),dj hn hj]
theorem jd {p:PP} (hV:Valid p) {m:Nat} {L:List (List Int)} {D:List Int} (hb:Tg p m L D) (h:m7 p.2.2.1 (Cu p.2.2.1.length) L D):pw p.2.2.1 (Cu p.2.2.1.length) L where
 next x hx l hl:=by
  obtain ⟨i,hi,rfl⟩:=Az.1 hx
  obtain ⟨j,h1,h2,_⟩:=h.step i hi l hl
  rw [Kb hi] at h2
  rw [<-h2]
  exact cn h1
 back x hx l hl:=nN hV (hb.row x hx) hl
theorem gi {p:PP} (hV:Valid p) {m:Nat} {L:List (List Int)} {D:List Int} (hb:Tg p m L D) (h:m7 p.2.2.1 (Cu p.2.2.1.length) L D):
  Pv p.2.2.1 (Cu p.2.2.1.length) L (λx=>x=L.getD 0 []) (cA L D) where
 nn x hx:=by
  obtain ⟨i,hi,rfl⟩:=Az.1 hx
  rw [<-Kb (d:= []) hi,jR hb.ok.nodup hi]
  have:=hb.dep i (by rw [hb.len];exact hi)
  rw [Kb (by rw [hb.len];exact hi)]
  omega
 zero x hx:=by
  obtain ⟨i,hi,rfl⟩:=Az.1 hx
  rw [<-Kb (d:= []) hi,jR hb.ok.nodup hi]
  constructor
  ·intro h0
   by_cases e:i=0
   ·rw [e]
   ·obtain ⟨k,l,h1,_,_,h4⟩:=h.par i (by omega) hi
    have hk:k<D.length:=by rw [hb.len];omega
    have:=hb.dep k hk
    rw [<-Kb (d:=0) hk] at this
    omega
  ·intro e
   have:i=0:=by
    have h1:=dj hb.ok.nodup hi
    have h2:=dj hb.ok.nodup h.pos
    rw [e,h2] at h1
    exact h1.symm
   rw [this]
   exact h.zero
 step x hx l hl:=by
  obtain ⟨i,hi,rfl⟩:=Az.1 hx
  rw [<-Kb (d:= []) hi,jR hb.ok.nodup hi]
  obtain ⟨j,h1,h2,h3⟩:=h.step i hi l hl
  rw [<-h2,jR hb.ok.nodup h1]
  exact h3
 down x hx h0:=by
  obtain ⟨i,hi,rfl⟩:=Az.1 hx
  rw [<-Kb (d:= []) hi,jR hb.ok.nodup hi] at h0⊢
  have hi0:0<i:=by
   rcases Rz i with e|e
   ·subst e;rw [h.zero] at h0;omega
   ·exact e
  obtain ⟨k,l,h1,h2,h3,h4⟩:=h.par i hi0 hi
  have hk:k<L.length:=by omega
  obtain ⟨b1,b2⟩:=nN hV (hb.row _ (cn hk)) h2
  refine ⟨-l,b1,?_⟩
  rw [h3,b2,jR hb.ok.nodup hk]
  omega
noncomputable def Dd (p:PP):List (List Int):=(Gp p.2.2.1 (upto p.1.toNat)).1
noncomputable def ar (p:PP):List Int:=(Gp p.2.2.1 (upto p.1.toNat)).2.1
def IB (goal s:List Int):Bool:=List.all goal λx=>decide (Hs s x=x)
noncomputable def iu (p:PP) (t q:List Int):Bool:=Bv p t&&Jv p.1 q (t.length:Int)
noncomputable abbrev iD:Spec:=Hq (.pair Mw (.pair tL (.pair tL .unit))) .bool false true (λx=>Ii x.1/\short x.2.1/\short x.2.2.1) (λx=>iu x.1 x.2.1 x.2.2.1)
theorem BF (p:Int×ByteArray×List (List Int)×Unit) (t q:List Int) (P:Bool->Prop):(∃(y4:Bool),Fc.fn ((p.1,p.2.1,p.2.2.1,()),t,())=some y4/\Br y4 (∃(y5:Bool),Wm.fn (p.1,q,(↑t.length:Int),())=some y5/\P y5) (P false))=fnW Gb (look [(98,Fc),(163,Wm)]) iD Try.f101 (p,t,q,()) P:=by kernel_rfl
theorem ui {p:List Int} (h:Zy p):Kg p=true:=by
 refine Db.2 ⟨h.pos,h.len,λj h1 h2=>?_⟩
 have:=h.row _ (Ak h2)
 exact ⟨by omega,by omega,λhm=>by
  obtain ⟨i,hi,e⟩:=Az.1 hm
  have pb:i<j:=by rw [Cl] at hi;omega
  rw [List.getElem_take] at e
  exact (Eb.1 h.nodup i j (by omega) h2 pb) e⟩
theorem Gz {p:PP} (hw:Kq p=true):Dh p=true/\(Gp p.2.2.1 (upto p.1.toNat)).2.2=true:=Bj.1 hw
theorem FJ {p:PP} (hv:Dh p=true):Tg p p.1.toNat (Dd p) (ar p):=(rh hv).ok
theorem OV {p:PP} (hV:Valid p):YZ p.1.toNat λg=>some g∈p.2.2.1.map some:=
 ⟨by have:=hV.n;omega,λg hg'=>by obtain ⟨g',e,h⟩:=RV (OI hV).2.2 _ hg';cases e;exact h⟩
theorem SI {p:PP} (hv:Dh p=true) {x:List Int} (hx:x∈Dd p):Pm p.1.toNat x:=jE.pm (OV (valid hv)) ((rh hv).gen x hx)
theorem RT {p:PP} (hV:Valid p) {x:List Int} (h:Pm p.1.toNat x):Ix p.1 x=true:=by
 have:=hV.n
 have:=h.1
 exact Db.2 ⟨by omega,ui h.2⟩
theorem r9 {n:Nat} {x:List Int} (h:Pm n x):short x:=by
 have h1:=h.1
 have:=h.n2
 unfold short;omega
theorem MP {p:PP} {t:List Int} (h:Bv p t=true):BP p.1:=by
 have:=(valid (Iv.1 h).1).n
 unfold BP;omega
theorem zK (p:PP) (t q:List Int) (h:Ii p/\short t/\short q):fnW Gb (look [(98,Fc),(163,Wm)]) iD Try.f101 (p,t,q,()) (λ(z:Bool)=>z=iu p t q):=by
 refine Eq.mp (BF p t q _) ⟨_,Ab ⟨h.1,h.2.1⟩,?_⟩
 unfold iu
 refine Br.of (λht=>?_) λht=>?_
 ·have ht:Bv p t=true:=ht
  rw [ht,Bool.true_and]
  exact ⟨_,Ab ⟨MP ht,h.2.2⟩,rfl⟩
 ·have ht:Bv p t=false:=ht
  rw [ht,Bool.false_and]
theorem oP:Sound Try.prog 101 iD:=
 Sound.Hq Ee (Ax Ve (Ax gP Bt)) mixed Try.func101 (by kernel_rfl) (by kernel_rfl) λx h=>zK x.1 x.2.1 x.2.2.1 h
theorem SJ {p:PP} (hv:Dh p=true):(Dd p).length<=3000:=(FJ hv).ok.oz
theorem dz {p:PP} {t s:List Int} (hv:Dh p=true) (hs:s∈Dd p) (ht:Bv p t=true):Oj s.length t:=by
 have h1:=(SI hv hs).1
 have hn:=(valid hv).n
 intro y hy
 have:=(Hm ht).2 y hy
 omega
def Mv (g:List (List Int)) (s w:List Int):List Int:=w.foldl (λq l=>As q (Av g l)) s
noncomputable abbrev Wo:Spec:=Hq (.pair tI (.pair ky (.pair tL .unit))) tL false true (λx=> ∃p:PP,Dh p=true/\p.1=x.1/\p.2.2.1=x.2.1/\Lu (List.length x.2.1:Nat) x.2.2.1=true) (λx=>Mv x.2.1 (upto x.1.toNat) x.2.2.1)
theorem ir {p:PP} (hV:Valid p) {l:Int} (hl:Hj (List.length p.2.2.1) l):Pm p.1.toNat (Av p.2.2.1 l):=by
 have hn:=hV.n
 obtain ⟨k,hk,Ra⟩:=Ou hl
 have hp:Pm p.1.toNat (p.2.2.1[k]):=⟨by have:=hV.len _ (Ak hk);omega,gy (hV.perm _ (Ak hk))⟩
 rcases Ra with rfl|rfl
 ·rw [Ow hk];exact hp
 ·rw [Ov hk];exact hp.inv
theorem pL {p:PP} (hV:Valid p): ∀(w s:List Int),(∀l∈w,Hj (List.length p.2.2.1) l)->Pm p.1.toNat s->Pm p.1.toNat (Mv p.2.2.1 s w)
 | [],s,_,hs=>hs
 |l::w,s,hl,hs=>by
  have h1:=ir hV (hl l (by simp))
  exact pL hV w _ (λl' h=>hl l' (An _ h)) (hs.comp h1)
theorem nv {p:PP} (hV:Valid p) {s:List Int} (hs:Pm p.1.toNat s): ∀(w q:List Int),(∀l∈w,Hj (List.length p.2.2.1) l)->Pm p.1.toNat q->As s (Mv p.2.2.1 q w)=Mv p.2.2.1 (As s q) w
 | [],q,_,_=>rfl
 |l::w,q,hl,hq=>by
  have h1:=ir hV (hl l (by simp))
  have h2:=nv hV hs w _ (λl' h=>hl l' (An _ h)) (hq.comp h1)
  show As s (Mv p.2.2.1 (As q (Av p.2.2.1 l)) w)=Mv p.2.2.1 (As (As s q) (Av p.2.2.1 l)) w
  rw [h2,Vw hs hq h1]
theorem BU {g:List (List Int)} {s w:List Int} {j:Nat} (h:j<w.length):Mv g s (w.take (j+1))=As (Mv g s (w.take j)) (Av g w[j]):=by
 unfold Mv
 rw [List.take_add_one,Ac h,Option.toList_some,List.foldl_append]
 rfl
theorem RU {n:Nat} {q:List Int} (h:Pm n q):q.length<=20:=by have:=h.1;have:=h.n2;omega
theorem zP {n:Nat} {p q:List Int} (hp:Pm n p) (hq:Pm n q):Oj q.length p:=by rw [hq.1];exact hp.row
theorem map_take {α β:Type} (f:α->β) {xs:List α} {j:Nat} (h:j<xs.length):(xs.take (j+1)).map f=(xs.take j).map f++ [f xs[j]]:=by
 rw [List.take_add_one,Ac h,Tw];rfl
theorem Rh {p:PP} (hw:Kq p=true):pw p.2.2.1 (Cu p.2.2.1.length) (Dd p):=by
 obtain ⟨hv,hb⟩:=Gz hw
 have hV:=valid hv
 have hn:=hV.n
 exact jd hV (FJ hv) (jN hv (by rw [Vi];omega) (λy hy=>by have:=Si.1 hy;omega) hb)
theorem uX {p:PP} (hw:Kq p=true):m7 p.2.2.1 (Cu p.2.2.1.length) (Dd p) (ar p):=by
 obtain ⟨hv,hb⟩:=Gz hw
 have hn:=(valid hv).n
 exact jN hv (by rw [Vi];omega) (λy hy=>by have:=Si.1 hy;omega) hb
theorem xt {p:PP} (hw:Kq p=true) (Q:List Int->Prop) (hQ: ∀x∈Dd p,Q x-> ∀l∈Cu p.2.2.1.length,Q (As x (Av p.2.2.1 l))) {x:List Int} (hx:x∈Dd p) (hq:Q x):
  ∀y∈Dd p,Q y:=by
 have hc:=Rh hw
 have hL:=uX hw
 have up: ∀(j:Nat),j<(Dd p).length->Q ((Dd p).getD j [])->Q ((Dd p).getD 0 []):=by
  intro j
  induction j using Nat.strongRecOn with
  |_ j ih=>
   intro hj hqj
   by_cases e:j=0
   ·subst e;exact hqj
   ·obtain ⟨i,l,h1,h2,h3,_⟩:=hL.par j (by omega) hj
    have hi:i<(Dd p).length:=by omega
    obtain ⟨b1,b2⟩:=hc.back _ (cn hi) l h2
    refine ih i h1 hi ?_
    have:=hQ _ (cn hj) hqj _ b1
    rwa [h3,b2] at this
 have down:Q ((Dd p).getD 0 [])-> ∀(j:Nat),j<(Dd p).length->Q ((Dd p).getD j []):=by
  intro h0 j
  induction j using Nat.strongRecOn with
  |_ j ih=>
   intro hj
   by_cases e:j=0
   ·subst e;exact h0
   ·obtain ⟨i,l,h1,h2,h3,_⟩:=hL.par j (by omega) hj
    have hi:i<(Dd p).length:=by omega
    rw [h3]
    exact hQ _ (cn hi) (ih i h1 hi) l h2
 obtain ⟨j,hj,rfl⟩:=Az.1 hx
 rw [<-Kb (d:= []) hj] at hq
 intro y hy
 obtain ⟨k,hk,rfl⟩:=Az.1 hy
 rw [<-Kb (d:= []) hk]
 exact down (up j hj hq) k hk
theorem uf {α:Type} {P:α->Bool} : ∀(l:List α) (i:Nat),l.any P=true-> ∃k,∃h:k<l.length,Eg P l (i:Int)=((i+k:Nat):Int)/\P l[k]=true/\ ∀j (h:j<k),P (l[j]'(by omega))=false
 | [],i,h=>by simp at h
 |y::r,i,h=>by
  simp only [Eg]
  by_cases hy:P y=true
  ·rw [Ab hy]
   exact ⟨0,by simp,rfl,hy,λj hj=>absurd hj (Gk _)⟩
  ·rw [Al hy]
   have hr:r.any P=true:=by
    rw [List.any_cons,Jq] at h
    exact h.resolve_left hy
   obtain ⟨k,hk,h1,h2,h3⟩:=uf r (i+1) hr
   refine ⟨k+1,by simpa using hk,?_,h2,λj hj=>?_⟩
   ·rw [show ((i:Int)+1)=((i+1:Nat):Int) by push_cast;rfl,h1]
    congr 1
    omega
   ·cases j with
    |zero=>exact Ht _|>.mp hy
    |succ j=>exact h3 j (by omega)
theorem Lw {s q t:List Int} (h:Oj s.length t):Bc (As s q) t=As (Bc s t) q:=by
 unfold Bc As
 rw [List.map_map]
 refine Ek λy hy=>?_
 obtain ⟨h1,h2⟩:=h y hy
 have hy':y.toNat<s.length:=by omega
 show Hs (s.map (Hs q)) y=Hs q (Hs s y)
 unfold Hs
 rw [Kb (by rw [Fm];exact hy'),List.getElem_map,Kb hy']
 try rfl
theorem ix {n:Nat} {t:List Int} (h: ∀y∈t,0<=y/\y<(n:Int)):Bc (upto n) t=t:=by
 unfold Bc
 refine (Ek λy hy=>?_).trans (List.map_id t)
 obtain ⟨h1,h2⟩:=h y hy
 obtain ⟨k,rfl⟩:=Lm h1
 have hk:k<n:=by omega
 show Hs (upto n) (k:Int)=(k:Int)
 unfold Hs
 rw [Ay,Ah,s8 hk]
 rfl
theorem sat_iff {goal s:List Int} :IB goal s=true↔Bc s goal=goal:=by
 unfold IB Bc
 rw [At]
 constructor
 ·intro h
  exact (Ek λy hy=>Hy (h y hy)).trans (List.map_id goal)
 ·intro h y hy
  obtain ⟨j,hj,rfl⟩:=Az.1 hy
  have h2:(goal.map (Hs s))[j]?=goal[j]?:=Hv (λz:List Int=>z[j]?) h
  rw [Fk,Ac hj] at h2
  exact Ew (Ba h2)
theorem Lg {p:PP} (hv:Dh p=true):(Dd p).getD 0 []=upto p.1.toNat/\upto p.1.toNat∈Dd p:=by
 obtain ⟨A,h⟩:=(rh hv).first
 have h:Dd p=upto p.1.toNat::A:=h
 rw [h]
 exact ⟨rfl,by simp⟩
noncomputable def Hf (p:PP) (t:List Int):List (List Int):=(Gp p.2.2.1 t).1
noncomputable def Px (p:PP) (t:List Int):List Int:=(Gp p.2.2.1 t).2.1
noncomputable def Ei (p:PP) (t x:List Int):Int:=cA (Hf p t) (Px p t) x
theorem Xz {p:PP} {t:List Int} (ht:Bv p t=true): ∀y∈t,0<=y/\y<((p.1.toNat:Nat):Int):= λy hy=>by
 have h1:=(Hm ht).2 y hy
 have:=(valid (Iv.1 ht).1).n
 omega
theorem LK {p:PP} {t:List Int} (hw:Kq p=true) (ht:Bv p t=true):(Gp p.2.2.1 t).2.2=true:=by
 have hv:=(Gz hw).1
 have hV:=valid hv
 obtain ⟨t1,t2⟩:=Hm ht
 have df:=bP ht
 obtain ⟨a1,_,a3⟩:=vE hv t1 t2 (λx=> ∃s∈Dd p,x=Bc s t) ⟨_,(Lg hv).2,(ix (Xz ht)).symm⟩ λx ⟨s,hs,hx⟩ l hl=>by
  refine ⟨_,(Rh hw).next s hs l hl,?_⟩
  rw [hx,Lw (dz hv hs ht)]
 refine Cs λhn=>?_
 obtain ⟨h1,z,⟨s,hs,hz⟩,h3⟩:=a3 (by simpa using hn)
 have h5:=gr (l1:=z::(Gp p.2.2.1 t).1) (l2:=(Dd p).map λs=>Bc s t) (Ca.2 ⟨h3,df.ok.nodup⟩) λx hx=>by
  rcases Bb.1 hx with rfl|hx
  ·exact Bo.2 ⟨s,hs,hz.symm⟩
  ·obtain ⟨s',KA,e⟩:=a1 x hx
   exact Bo.2 ⟨s',KA,e.symm⟩
 have h6:=SJ hv
 simp only [Bg,Fm] at h5
 omega
theorem ko {p:PP} {t:List Int} (hw:Kq p=true) (ht:Bv p t=true):m7 p.2.2.1 (Cu p.2.2.1.length) (Hf p t) (Px p t):=
 jN (Gz hw).1 (Hm ht).1 (Hm ht).2 (LK hw ht)
theorem uD {p:PP} {t:List Int} (ht:Bv p t=true):(Hf p t).getD 0 []=t/\t∈Hf p t:=by
 obtain ⟨_,A,h⟩:=vF (Iv.1 ht).1 (Hm ht).1 (Hm ht).2
 have h:Hf p t=t::A:=h
 rw [h]
 exact ⟨rfl,by simp⟩
theorem km {p:PP} {t:List Int} (hw:Kq p=true) (ht:Bv p t=true): ∀s∈Dd p,Bc s t∈Hf p t:=by
 have hv:=(Gz hw).1
 have hc:=jd (valid hv) (bP ht) (ko hw ht)
 refine xt hw (λs=>Bc s t∈Hf p t) (λx hx hq l hl=>?_) (Lg hv).2 ?_
 ·rw [Lw (dz hv hx ht)]
  exact hc.next _ hq l hl
 ·rw [ix (Xz ht)]
  exact (uD ht).2
theorem ay {p:PP} {t:List Int} (hw:Kq p=true) (ht:Bv p t=true):
  Pv p.2.2.1 (Cu p.2.2.1.length) (Dd p) (λs=>IB t s=true) (λs=>Ei p t (Bc s t)):=by
 have hv:=(Gz hw).1
 have hd:=gi (valid hv) (bP ht) (ko hw ht)
 have aL:=km hw ht
 refine ⟨λx hx=>hd.nn _ (aL x hx),λx hx=>(hd.zero _ (aL x hx)).trans ?_,λx hx l hl=>?_,λx hx h0=>?_⟩
 ·rw [show (Gp p.2.2.1 t).1.getD 0 []=t from (uD ht).1]
  exact sat_iff.symm
 ·rw [Lw (dz hv hx ht)]
  exact hd.step _ (aL x hx) l hl
 ·obtain ⟨l,hl,h1⟩:=hd.down _ (aL x hx) h0
  refine ⟨l,hl,?_⟩
  rw [Lw (dz hv hx ht)]
  exact h1
theorem QC {p:PP} {t:List Int} (ht:Bv p t=true):IB t (upto p.1.toNat)=true:=sat_iff.2 (ix (Xz ht))
noncomputable abbrev Zp:Spec:=Hq (.pair dS (.pair tL .unit)) tI false true (λx=>Fy (List.length x.2.1) x.1.1 x.1.2.2.1/\List.length x.1.2.1=List.length x.1.1) (λx=>cA x.1.1 x.1.2.1 x.2.1)
theorem MU (f:List (List Int)×List Int×List Int×Bool×Unit) (s:List Int) (P:Int->Prop):(∃(y3:Int),Vb.fn ((f.1,f.2.1,f.2.2.1,f.2.2.2.1,()),s,())=some y3/\Br (decide (y3<(0:Int))) (P (-1:Int)) (∃(y4:Int),idx f.2.1 y3=some y4/\P y4))=fnW Gb (look [(134,Vb)]) Zp Try.f102 (f,s,()) P:=by kernel_rfl
theorem KU (f:SS) (s:List Int) (h:Fy (List.length s) f.1 f.2.2.1/\List.length f.2.1=List.length f.1):fnW Gb (look [(134,Vb)]) Zp Try.f102 (f,s,()) (λ(z:Int)=>z=cA f.1 f.2.1 s):=by
 obtain ⟨h1,h2⟩:=h
 refine Eq.mp (MU f s _) ⟨_,Ab h1,?_⟩
 show Br (decide (je f.1 s<0)) _ _
 unfold je cA
 by_cases hm:s∈f.1
 ·have hl:=Lo hm
  rw [Ab hm,Ab hm]
  refine Br.dec (λhn=>absurd hn (by omega)) λ_=>?_
  have sA:List.idxOf s f.1<f.2.1.length:=by omega
  refine ⟨f.2.1[List.idxOf s f.1],?_,by rw [Kb sA]⟩
  show idx f.2.1 (if s∈f.1 then ((List.idxOf s f.1:Nat):Int) else-1)=_
  rw [Ab hm]
  exact Cc sA
 ·rw [Al hm,Al hm]
  exact ⟨λ_=>rfl,λhn=>by simp at hn⟩
theorem ta:Sound Try.prog 102 Zp:=
 Sound.Hq Ee (Ax lR Bt) mixed Try.func102 (by kernel_rfl) (by kernel_rfl) λx h=>KU x.1 x.2.1 h
theorem LJ {p:PP} {goal:List Int} (hw:Kq p=true) (ht:Bv p goal=true) {x:List Int} (hx:x∈Hf p goal):0<=Ei p goal x/\Ei p goal x<=3000:=by
 have df:=bP ht
 have qo:=df.ok.oz
 refine ⟨(gi (valid (Gz hw).1) df (ko hw ht)).nn x hx,?_⟩
 obtain ⟨i,hi,rfl⟩:=Az.1 hx
 have hiD:i<(Gp p.2.2.1 goal).2.1.length:=by rw [df.len];exact hi
 have h1:=df.dep i hiD
 have h2:Ei p goal ((Hf p goal)[i])=(Px p goal).getD i 0:=by
  rw [<-Kb (d:= []) hi];exact jR df.ok.nodup hi
 have h3:(Px p goal).getD i 0=(Gp p.2.2.1 goal).2.1[i]:=Kb hiD
 rw [h2,h3]
 have:i<(Gp p.2.2.1 goal).1.length:=hi
 omega
theorem kP {p:PP} (hw:Kq p=true):Pv p.2.2.1 (Cu p.2.2.1.length) (Dd p) (λx=>x=(Dd p).getD 0 []) (cA (Dd p) (ar p)):=
 gi (valid (Gz hw).1) (FJ (Gz hw).1) (uX hw)
structure Part (n k:Nat) (s:Qv×Qv):Prop where
 l1:s.1.length=n
 l2:s.2.length=n
 pg:PG n k (s.1.getD k [])
 row:GR n k (s.1.getD k []) (s.2.getD k [])
 comp:YY n (n-(k+1)) (k+1) s
 gb:GBf (n-(k+1)) (k+1) s
 sub: ∀g,some g∈s.1.getD (k+1) []->Gn n (s.1.getD k []) g
def Hd (n k:Nat) (s:Qv×Qv) (q:List Int):Prop:= ∃t,(s.2.getD k []).getD (ap q k) none=some t/\HJ s.2 (n-(k+1)) (k+1) (As q (Dl t))=true
structure tO (n k:Nat) (s s':Qv×Qv):Prop where
 grow:og k s s'
 same:s'.1.getD k []=s.1.getD k []
 part:Part n k s'
 Gg: ∀q,Pm n q->Fx k q->Hd n k s q->Hd n k s' q
 new: ∀y t,(s'.2.getD k []).getD y none=some t->(s.2.getD k []).getD y none=some t\/ ∀g,some g∈s.1.getD k []->Hd n k s' (As t g)
theorem tO.refl {n k:Nat} {s:Qv×Qv} (h:Part n k s):tO n k s s:=⟨og.refl _ _,rfl,h,λ_ _ _ h=>h,λ_ _ h=> .inl h⟩
theorem Part.tg {n k:Nat} {s:Qv×Qv} (h:Part n k s) (hk:k<n) {y:Nat} {t g:List Int} (ht:(s.2.getD k []).getD y none=some t) (hg:some g∈s.1.getD k []):Pm n (As t g)/\Fx k (As t g)/\ap (As t g) k=ap g y:=by
 obtain ⟨t1,t2,t3,t4⟩:=h.row.rt _ _ ht
 obtain ⟨g',e,g1,g2⟩:=h.pg _ hg
 cases e
 exact ⟨t1.comp g1,Fx.comp t1 g1 t2 g2 (by omega),by rw [Ug t1 g1 hk,t3]⟩
theorem tO.trans {n k:Nat} {a b c:Qv×Qv} (hk:k<n) (h:tO n k a b) (h':tO n k b c):tO n k a c:=by
 refine ⟨h.grow.trans h'.grow (Ar _),h'.same.trans h.same,h'.part,λq h1 h2 h3=>h'.Gg q h1 h2 (h.Gg q h1 h2 h3),λy t e=>?_⟩
 rcases h'.new y t e with e1|e1
 ·rcases h.new y t e1 with e2|e2
  ·exact .inl e2
  ·refine .inr λg hg=>?_
   obtain ⟨p1,p2,_⟩:=h.part.tg hk e1 (by rw [h.same];exact hg)
   exact h'.Gg _ p1 p2 (e2 g hg)
 ·exact .inr λg hg=>e1 g (by rw [h.same];exact hg)
theorem Part.v {n k:Nat} {s:Qv×Qv} (h:Part n k s):V n (n-(k+1)) (k+1) s:=⟨h.l1,h.l2,h.comp,h.gb⟩
def vo (p:PP) (gs:List (List Int)):Prop:=gs.length<=5/\ ∀g∈gs,Bv p g=true
theorem vo.take {p:PP} {gs:List (List Int)} (h:vo p gs) (j:Nat):vo p (gs.take j):=⟨by rw [Cl];have:=h.1;omega,λg hg=>h.2 g (Ic hg)⟩
structure Acf (t:TT):Prop where
 oz:t.2.1.length<=3000
 len:t.2.2.1.length=t.2.1.length
 nodup:t.2.1.Nodup
 byte: ∀x∈t.2.1,fq x
 Amx: ∀d∈t.2.2.1,0<=d/\d<=3000
 tl:t.1.length<=20
 pl: ∀x∈t.2.1,x.length<=20
theorem Acf.short {t:TT} (h:Acf t):Kv t:=by
 have h1:=h.oz;have h2:=h.len;have h3:=h.tl
 exact ⟨by unfold _root_.Go.Proofs.Ytkkdpknjohcekaa.short;omega,⟨by omega,λr hr=>by have:=h.pl r hr;unfold _root_.Go.Proofs.Ytkkdpknjohcekaa.short;omega⟩,by unfold _root_.Go.Proofs.Ytkkdpknjohcekaa.short;omega⟩
theorem qw {L:List (List Int)} {x:List Int} (hn:L.Nodup) (hx:x∈L):Eg (λq=>decide (q=x)) L 0=((L.idxOf x:Nat):Int):=by
 obtain ⟨k,hk,h1,h2,_⟩:=uf (P:= λq=>decide (q=x)) L 0 (Ej.2 ⟨x,hx,Ew rfl⟩)
 have h3:L[k]=x:=Hy h2
 have h4:=dj hn hk
 rw [Kb hk,h3] at h4
 rw [h4,<-Cf k]
 exact h1
open Go.RowKit Go.Lib
theorem Cn.Aaw {w:World} {F:List Nat} {e:Ty} {cs:List Value} {x:List e.den} (h:Cn w F (.slice e) cs x):cs.length=1:=by
 simp only [Cn] at h
 obtain ⟨a,n,c,rfl,_⟩:=h
 rfl
theorem tF (p q:List Int) (P:List Int->Prop):(0=0/\0=([]:List Int).length/\Em (λ(v3:Int×List Int×PUnit) (k4:Int×List Int×PUnit->Prop)=>Br (decide (v3.1<(↑p.length:Int))) (∃(y5:Int),idx p v3.1=some y5/\ ∃(y6:Int),idx q y5=some y6/\0=0/\v3.2.1.length=v3.2.1.length/\v3.2.1.length+(List.take 1 (List.drop 0 [y6])).length<=Et/\0=0/\(v3.2.1++List.take 1 (List.drop 0 [y6])).length=(v3.2.1++List.take 1 (List.drop 0 [y6])).length/\k4 (IntKind.i64.wrap (v3.1+(1:Int)),v3.2.1++List.take 1 (List.drop 0 [y6]),())) (P (List.take v3.2.1.length (List.drop 0 v3.2.1)))) ((0:Int),[],PUnit.unit))=fnW Gb (look []) Rc Try.f75 (p,q,()) P:=by kernel_rfl
theorem JF {p q:List Int} {j:Nat} (h:j<p.length):(As p q).take (j+1)=(As p q).take j++ [Hs q p[j]]:=by
 unfold As
 rw [Be (by rw [Fm];exact h),List.getElem_map]
theorem sS (p q:List Int) (h:List.length p<=20/\Oj (List.length q) p):fnW Gb (look []) Rc Try.f75 (p,q,()) (λ(z:List Int)=>z=As p q):=by
 obtain ⟨h1,h2⟩:=h
 refine Eq.mp (tF p q _) ⟨rfl,rfl,?_⟩
 refine Cg p.length (λv=>v.1) (λj v=>v=((j:Int),(As p q).take j,())) rfl rfl ?_
 rintro j v K hj hi rfl hK
 dsimp only
 have hlen:((As p q).take j).length<=20:=by rw [Cl];unfold As;rw [Fm];omega
 refine Br.dec (λhl=>?_) λhl=>?_
 ·have hl:j<p.length:=by omega
  have hr:=h2 p[j] (Ak hl)
  refine ⟨_,Cc hl,Hs q p[j],fZ hr.1 hr.2,rfl,rfl,?_,rfl,rfl,?_⟩
  ·show ((As p q).take j).length+1<=4294967296
   omega
  ·rw [Cm (by omega)]
   refine hK hl _ rfl ?_
   rw [JF hl]
   rfl
 ·have:j=p.length:=by omega
  subst this
  rw [Cj,<-Xj p q,Bp]
theorem br:Sound Try.prog 75 Rc:=
 Sound.Hq Ee Bt mixed Try.func75 (by kernel_rfl) (by kernel_rfl) λx h=>sS x.1 x.2.1 h
theorem Pv.sub {g:List (List Int)} {ls:List Int} {L:List (List Int)} {S S':List Int->Prop} {d d':List Int->Int} (hc:pw g ls L) (h:Pv g ls L S d) (h':Pv g ls L S' d') (hS: ∀x∈L,S' x->S x):
  ∀(n:Nat) (x:List Int),x∈L->d' x=n->d x<=n
 |0,x,hx,e=>by
  have:=(h.zero x hx).2 (hS x hx ((h'.zero x hx).1 e))
  omega
 |n+1,x,hx,e=>by
  obtain ⟨l,hl,hd⟩:=h'.down x hx (by omega)
  obtain ⟨b1,b2⟩:=hc.back x hx l hl
  have h1:=Pv.sub hc h h' hS n _ (hc.next x hx l hl) (by omega)
  have h2:=h.step _ (hc.next x hx l hl) _ b1
  rw [b2] at h2
  omega
abbrev tB:Ty:= .slice (.int .u8)
abbrev IV:Ty:= .int .u64
def hN (h:Int):Int:=IntKind.u64.wrap (IntKind.u64.wrap (h*(6364136223846793005:Int))+(1442695040888963407:Int))
def xN (h:Int):Int:=IntKind.i64.wrap (IntKind.u64.wrap (↑(BitVec.ofInt IntKind.u64.bits (h.fdiv ((2:Int)^min (Int.toNat (33:Int)) IntKind.u64.bits))&&&BitVec.ofInt IntKind.u64.bits (16777215:Int)).toNat:Int))
def dI (b:List Int) (i:Int):Int:=if i<(b.length:Int) then i+1 else i
def dR (b:List Int) (i h n:Int):Int:=if i<(b.length:Int) then (xN (hN h)+Hs b i).tmod n else (xN (hN h)).tmod n
structure Yv (b:List Int) (i:Int):Prop where
 len:b.length<=4096
 byte: ∀y∈b,0<=y/\y<256
 lo:0<=i
 hi:i<=b.length
def zT:List Int->Int->Int
 | [],h=>h
 |c::r,h=>zT r (IntKind.u64.wrap (IntKind.u64.wrap (IntKind.u64.wrap (h*(1099511628211:Int))+IntKind.u64.wrap c)+(3:Int)))
def mD (b:List Int) (s:Int):Int:=zT b (IntKind.u64.wrap (IntKind.u64.wrap (s*(7919:Int))+IntKind.u64.wrap (b.length:Int)))
def Xq (b:List Int) (i h m:Int):Int×Int×Int:=(dI b (dI b i),hN (hN h),if dR b (dI b i) (hN h) 2=0 then-(1+dR b i h m) else 1+dR b i h m)
def TE (b:List Int) (m:Int):Nat->Int->Int->List Int->Int×Int×List Int
 |0,i,h,w=>(i,h,w)
 |k+1,i,h,w=>TE b m k (Xq b i h m).1 (Xq b i h m).2.1 (w++ [(Xq b i h m).2.2])
def Tn (b:List Int) (i h m k:Int):Int×Int×List Int:=TE b m (dR b i h (k+1)).toNat (dI b i) (hN h) []
def dQ (b:List Int) (n:Int):Nat->Int->Int->List Int->Int×Int×List Int
 |0,i,h,mv=>(i,h,mv)
 |k+1,i,h,mv=>dQ b n k (dI b (dI b i)) (hN (hN h)) ((mv.set (dR b i h n).toNat (Hs mv (dR b (dI b i) (hN h) n))).set (dR b (dI b i) (hN h) n).toNat (Hs mv (dR b i h n)))
def mF (b:List Int) (n i h:Int):Int×Int×List Int:=dQ b n (1+dR b i h 3).toNat (dI b i) (hN h) (upto n.toNat)
def Ys (b:List Int) (n:Int):Nat->Int->Int->List (List Int)->Int×Int×List (List Int)
 |0,i,h,ms=>(i,h,ms)
 |k+1,i,h,ms=>Ys b n k (mF b n i h).1 (mF b n i h).2.1 (ms++ [(mF b n i h).2.2])
def QZ:ByteArray:= {data:= #[(65:UInt8),(66:UInt8)]}
def Yr (b:List Int) (i h:Int):Int×Int×PP:=((Ys b (3+dR b i h 3) 2 (dI b i) (hN h) []).1,(Ys b (3+dR b i h 3) 2 (dI b i) (hN h) []).2.1,(3+dR b i h 3,QZ,(Ys b (3+dR b i h 3) 2 (dI b i) (hN h) []).2.2,()))
def NQ (b:List Int) (n:Int):Nat->Int->Int->Int->List Int->Int×Int×List Int
 |0,_,i,h,o=>(i,h,o)
 |f+1,j,i,h,o=>if j<n/\o.length<3 then NQ b n f (j+1) (dI b i) (hN h) (if dR b i h 2=0 then o++ [j] else o) else (i,h,o)
def OT (b:List Int) (n:Int) (r:Int×Int×List Int):Int×Int×List Int:=if r.2.2.length=0 then (dI b r.1,hN r.2.1,r.2.2++ [dR b r.1 r.2.1 n]) else r
def Vq (b:List Int) (i h n:Int):Int×Int×List Int:=OT b n (NQ b n n.toNat 0 i h [])
noncomputable abbrev Aau:MSpec:= {Jn:= [none,none],ins:= [(false, .Fp tB),(false, .Fp IV)],Hx:=false,Im:= [none,none,none],outs:= [.Fp tB, .Fp tI, .Fp IV],fn:= λ_=>none,rp:=some 75}
noncomputable abbrev mU:MSpec:=wF Aau (λx=>List.length x.1<=4096) (λx=>((x.1,0,mD x.1 x.2.1,()),()))
noncomputable abbrev VQ:MSpec:= {ptr:=some (75,3),Jn:= [none],ins:= [(false, .Fp tB),(false, .Fp tI),(false, .Fp IV),(false, .Fp tI)],Hx:=false,Im:= [none],outs:= [.Fp tB, .Fp tI, .Fp IV, .Fp tI],fn:= λ_=>none}
noncomputable abbrev Ib:MSpec:=wF VQ (λx=>Yv x.1 x.2.1/\1<=x.2.2.2.1) (λx=>((x.1,dI x.1 x.2.1,hN x.2.2.1,dR x.1 x.2.1 x.2.2.1 x.2.2.2.1,()),()))
noncomputable abbrev cG:MSpec:=iw [none] [(false, .Fp tI)] false [none] [rL] (λx=>0<=x.1/\x.1<=20) (λx=>((upto x.1.toNat,()),()))
noncomputable abbrev Zu:MSpec:=iw [none] [(false, .Fp tI)] false [none] [rL] (λx=>1<=x.1/\x.1<=20) (λx=>((upto x.1.toNat,()),()))
noncomputable abbrev Sk:Spec:=Hq (.pair tI .unit) tL false true (λx=>1<=x.1/\x.1<=20) (λx=>upto x.1.toNat)
noncomputable abbrev uO:Spec:=Hq (.pair tB .unit) .bool false true (λ_=>True) (λx=>decide ((List.length x.1:Int)>4096))
noncomputable abbrev Ael:MSpec:= {ptr:=some (75,3),Jn:= [],ins:= [(false, .Fp tB),(false, .Fp tI),(false, .Fp IV)],Hx:=false,Im:= [some 3],outs:= [.Fp tB, .Fp tI, .Fp IV, .Fp tI, .Fp .str,rLL],fn:= λ_=>none}
noncomputable abbrev uT:MSpec:=wF Ael (λx=>Yv x.1 x.2.1) (λx=>((x.1,(Yr x.1 x.2.1 x.2.2.1).1,(Yr x.1 x.2.1 x.2.2.1).2.1,(Yr x.1 x.2.1 x.2.2.1).2.2.1,(Yr x.1 x.2.1 x.2.2.1).2.2.2.1,(Yr x.1 x.2.1 x.2.2.1).2.2.2.2.1,()),()))
noncomputable abbrev Aek:MSpec:= {ptr:=some (75,3),Jn:= [none],ins:= [(false, .Fp tB),(false, .Fp tI),(false, .Fp IV),(false, .Fp tI)],Hx:=false,Im:= [none],outs:= [.Fp tB, .Fp tI, .Fp IV, .Fp tI],fn:= λ_=>none}
noncomputable abbrev uS:MSpec:=wF Aek (λx=>Yv x.1 x.2.1/\1<=x.2.2.2.1/\x.2.2.2.1<=8) (λx=>((x.1,(Xq x.1 x.2.1 x.2.2.1 x.2.2.2.1).1,(Xq x.1 x.2.1 x.2.2.1 x.2.2.2.1).2.1,(Xq x.1 x.2.1 x.2.2.1 x.2.2.2.1).2.2,()),()))
noncomputable abbrev Aeo:MSpec:= {ptr:=some (75,3),Jn:= [none,none],ins:= [(false, .Fp tB),(false, .Fp tI),(false, .Fp IV),(false, .Fp tI),(false, .Fp tI)],Hx:=false,Im:= [none],outs:= [.Fp tB, .Fp tI, .Fp IV,rL],fn:= λ_=>none}
noncomputable abbrev o3:MSpec:=wF Aeo (λx=>Yv x.1 x.2.1/\(1<=x.2.2.2.1/\x.2.2.2.1<=8)/\0<=x.2.2.2.2.1/\x.2.2.2.2.1<=20) (λx=>((x.1,(Tn x.1 x.2.1 x.2.2.1 x.2.2.2.1 x.2.2.2.2.1).1,(Tn x.1 x.2.1 x.2.2.1 x.2.2.2.1 x.2.2.2.2.1).2.1,(Tn x.1 x.2.1 x.2.2.1 x.2.2.2.1 x.2.2.2.2.1).2.2,()),()))
noncomputable abbrev Aen:MSpec:= {ptr:=some (75,3),Jn:= [some 3],ins:= [(false, .Fp tB),(false, .Fp tI),(false, .Fp IV),(false, .Fp tI),(false, .Fp .str),(false, .Fp ky)],Hx:=false,Im:= [none],outs:= [.Fp tB, .Fp tI, .Fp IV,rL],fn:= λ_=>none}
noncomputable abbrev rC:MSpec:=wF Aen (λx=>Yv x.1 x.2.1/\1<=x.2.2.2.1/\x.2.2.2.1<=20) (λx=>((x.1,(Vq x.1 x.2.1 x.2.2.1 x.2.2.2.1).1,(Vq x.1 x.2.1 x.2.2.1 x.2.2.2.1).2.1,(Vq x.1 x.2.1 x.2.2.1 x.2.2.2.1).2.2,()),()))
theorem Abn (code:List Int) (FC:Int) (P:((List Int×Int×Int×Unit)×Unit)->Prop):(Em (λ(v3:Int×List Int×Int×Int×PUnit) (k4:Int×List Int×Int×Int×PUnit->Prop)=>Br (decide (v3.1<(↑code.length:Int))) (∃(y5:Int),idx code v3.1=some y5/\k4 (IntKind.i64.wrap (v3.1+(1:Int)),v3.2.1,v3.2.2.1,IntKind.u64.wrap (IntKind.u64.wrap (IntKind.u64.wrap (v3.2.2.2.1*(1099511628211:Int))+IntKind.u64.wrap y5)+(3:Int)),())) (P ((v3.2.1,v3.2.2.1,v3.2.2.2.1,()),()))) ((0:Int),code,Int.ofNat (nat_lit 0),IntKind.u64.wrap (IntKind.u64.wrap (FC*(7919:Int))+IntKind.u64.wrap (↑code.length:Int)),PUnit.unit))=fnMW Pz (look []) mU Try.f11 (code,FC,()) P:=by kernel_rfl
theorem WO (b:List Int) (i h n:Int) (P:((List Int×Int×Int×Int×Unit)×Unit)->Prop):(¬(33:Int)<(0:Int)/\Br (decide (i<(↑b.length:Int))) (∃(y5:Int),idx b i=some y5/\n≠(0:Int)/\P ((b,IntKind.i64.wrap (i+(1:Int)),IntKind.u64.wrap (IntKind.u64.wrap (h*(6364136223846793005:Int))+(1442695040888963407:Int)),(IntKind.i64.wrap (IntKind.i64.wrap (IntKind.u64.wrap (↑(BitVec.ofInt IntKind.u64.bits ((IntKind.u64.wrap (IntKind.u64.wrap (h*(6364136223846793005:Int))+(1442695040888963407:Int))).fdiv ((2:Int)^min (Int.toNat (33:Int)) IntKind.u64.bits))&&&BitVec.ofInt IntKind.u64.bits (16777215:Int)).toNat:Int))+IntKind.i64.wrap y5)).tmod n,()),())) (n≠(0:Int)/\P ((b,i,IntKind.u64.wrap (IntKind.u64.wrap (h*(6364136223846793005:Int))+(1442695040888963407:Int)),(IntKind.i64.wrap (IntKind.u64.wrap (↑(BitVec.ofInt IntKind.u64.bits ((IntKind.u64.wrap (IntKind.u64.wrap (h*(6364136223846793005:Int))+(1442695040888963407:Int))).fdiv ((2:Int)^min (Int.toNat (33:Int)) IntKind.u64.bits))&&&BitVec.ofInt IntKind.u64.bits (16777215:Int)).toNat:Int))).tmod n,()),())))=fnMW Pz (look []) Ib Try.f17 (b,i,h,n,()) P:=by kernel_rfl
theorem Afd (code:List Int) (P:Bool->Prop):(P (decide ((↑code.length:Int)>(4096:Int))))=fnW Gb (look []) uO Try.f10 (code,()) P:=by kernel_rfl
theorem TJ (n:Int) (P:((List Int×Unit)×Unit)->Prop):(0=0/\0=([]:List Int).length/\Em (λ(v2:Int×List Int×PUnit) (k3:Int×List Int×PUnit->Prop)=>Br (decide (v2.1<n)) (0=0/\v2.2.1.length=v2.2.1.length/\v2.2.1.length+(List.take 1 (List.drop 0 [v2.1])).length<=Et/\0=0/\(v2.2.1++List.take 1 (List.drop 0 [v2.1])).length=(v2.2.1++List.take 1 (List.drop 0 [v2.1])).length/\k3 (IntKind.i64.wrap (v2.1+(1:Int)),v2.2.1++List.take 1 (List.drop 0 [v2.1]),())) (P ((List.take v2.2.1.length (List.drop 0 v2.2.1),()),()))) ((0:Int),[],PUnit.unit))=fnMW Pz (look []) cG Try.f66 (n,()) P:=by kernel_rfl
theorem NC (n:Int) (P:((List Int×Unit)×Unit)->Prop):(∃(y2:Bool),Bz.fn (n,(1:Int),(20:Int),())=some y2/\Br (!y2) (P ((List.take 0 (List.drop 0 []),()),())) (∃(y3:(List Int×PUnit)×PUnit),cG.fn (n,())=some y3/\P ((List.take y3.1.1.length (List.drop 0 y3.1.1),()),())))=fnMW Pz (look [(65,Bz),(66,cG)]) Zu Try.f16 (n,()) P:=by kernel_rfl
theorem TO (n:Int) (P:List Int->Prop):(∃(y2:Bool),Bz.fn (n,(1:Int),(20:Int),())=some y2/\Br (!y2) (P (List.take 0 (List.drop 0 []))) (∃(y3:List Int),Pa.fn (n,())=some y3/\P y3))=fnW Gb (look [(65,Bz),(66,Pa)]) Sk Try.f16 (n,()) P:=by kernel_rfl
abbrev SM:Type:=Int×Int×ByteArray×Int×ByteArray×List (List Int)×List (List Int)×List Int×List Int×Int×Int×PUnit
abbrev SP:Type:=Int×ByteArray×Int×ByteArray×List (List Int)×List (List Int)×List Int×Int×Int×PUnit
abbrev xB:Type:=(List Int×Int×Int×Int×PUnit)×PUnit
theorem Afk (b:List Int) (i h:Int) (P:((List Int×Int×Int×Int×ByteArray×List (List Int)×Unit)×Unit)->Prop):(∃(y4:xB),Ib.fn (b,i,h,(3:Int),())=some y4/\0=0/\0=([]:List Int).length/\0=0/\0=([]:List Int).length/\Em (λ(v5:SP) (k6:SP->Prop)=>Br (decide ((↑v5.2.2.2.2.2.1.length:Int)<(2:Int))) (∃(y7:(List Int×PUnit)×PUnit),Zu.fn (v5.2.2.1,())=some y7/\ ∃(y8:xB),Ib.fn (v5.2.2.2.2.2.2.1,v5.2.2.2.2.2.2.2.1,v5.2.2.2.2.2.2.2.2.1,(3:Int),())=some y8/\0=0/\y7.1.1.length=y7.1.1.length/\0=0/\v5.2.2.2.2.1.length=v5.2.2.2.2.1.length/\0=0/\v5.2.2.2.2.2.1.length=v5.2.2.2.2.2.1.length/\Em (λ(v9:SM) (k10:SM->Prop)=>Br (decide (v9.1>(0:Int))) (∃(bD:xB),Ib.fn (v9.2.2.2.2.2.2.2.2.1,v9.2.2.2.2.2.2.2.2.2.1,v9.2.2.2.2.2.2.2.2.2.2.1,v9.2.2.2.1,())=some bD/\ ∃(c5:xB),Ib.fn (bD.1.1,bD.1.2.1,bD.1.2.2.1,v9.2.2.2.1,())=some c5/\((0:Int)<=bD.1.2.2.2.1/\bD.1.2.2.2.1<(↑v9.2.2.2.2.2.2.2.1.length:Int))/\ ∃(sf:Int),v9.2.2.2.2.2.2.2.1[0+bD.1.2.2.2.1.toNat]?=some sf/\((0:Int)<=c5.1.2.2.2.1/\c5.1.2.2.2.1<(↑v9.2.2.2.2.2.2.2.1.length:Int))/\ ∃(pt:Int),v9.2.2.2.2.2.2.2.1[0+c5.1.2.2.2.1.toNat]?=some pt/\((0:Int)<=bD.1.2.2.2.1/\bD.1.2.2.2.1<(↑v9.2.2.2.2.2.2.2.1.length:Int))/\0+bD.1.2.2.2.1.toNat<v9.2.2.2.2.2.2.2.1.length/\((0:Int)<=c5.1.2.2.2.1/\c5.1.2.2.2.1<(↑v9.2.2.2.2.2.2.2.1.length:Int))/\0+c5.1.2.2.2.1.toNat<(v9.2.2.2.2.2.2.2.1.set (0+bD.1.2.2.2.1.toNat) pt).length/\0=0/\v9.2.2.2.2.2.2.2.1.length=((v9.2.2.2.2.2.2.2.1.set (0+bD.1.2.2.2.1.toNat) pt).set (0+c5.1.2.2.2.1.toNat) sf).length/\0=0/\v9.2.2.2.2.2.1.length=v9.2.2.2.2.2.1.length/\0=0/\v9.2.2.2.2.2.2.1.length=v9.2.2.2.2.2.2.1.length/\k10 (IntKind.i64.wrap (v9.1-(1:Int)),v9.2.1,v9.2.2.1,v9.2.2.2.1,v9.2.2.2.2.1,v9.2.2.2.2.2.1,v9.2.2.2.2.2.2.1,(v9.2.2.2.2.2.2.2.1.set (0+bD.1.2.2.2.1.toNat) pt).set (0+c5.1.2.2.2.1.toNat) sf,c5.1.1,c5.1.2.1,c5.1.2.2.1,())) (0=0/\v9.2.2.2.2.2.2.1.length=v9.2.2.2.2.2.2.1.length/\v9.2.2.2.2.2.2.1.length+(List.take 1 (List.drop 0 [List.take v9.2.2.2.2.2.2.2.1.length (List.drop 0 v9.2.2.2.2.2.2.2.1)])).length<=Et/\0=0/\v9.2.2.2.2.2.1.length=v9.2.2.2.2.2.1.length/\0=0/\(v9.2.2.2.2.2.2.1++List.take 1 (List.drop 0 [List.take v9.2.2.2.2.2.2.2.1.length (List.drop 0 v9.2.2.2.2.2.2.2.1)])).length=(v9.2.2.2.2.2.2.1++List.take 1 (List.drop 0 [List.take v9.2.2.2.2.2.2.2.1.length (List.drop 0 v9.2.2.2.2.2.2.2.1)])).length/\k6 (v9.2.1,v9.2.2.1,v9.2.2.2.1,v9.2.2.2.2.1,v9.2.2.2.2.2.1,v9.2.2.2.2.2.2.1++List.take 1 (List.drop 0 [List.take v9.2.2.2.2.2.2.2.1.length (List.drop 0 v9.2.2.2.2.2.2.2.1)]),v9.2.2.2.2.2.2.2.2.1,v9.2.2.2.2.2.2.2.2.2.1,v9.2.2.2.2.2.2.2.2.2.2.1,()))) (IntKind.i64.wrap ((1:Int)+y8.1.2.2.2.1),v5.1,v5.2.1,v5.2.2.1,v5.2.2.2.1,v5.2.2.2.2.1,v5.2.2.2.2.2.1,y7.1.1,y8.1.1,y8.1.2.1,y8.1.2.2.1,PUnit.unit)) (P ((v5.2.2.2.2.2.2.1,v5.2.2.2.2.2.2.2.1,v5.2.2.2.2.2.2.2.2.1,v5.2.2.1,v5.2.2.2.1,List.take v5.2.2.2.2.2.1.length (List.drop 0 v5.2.2.2.2.2.1),()),()))) (Int.ofNat (nat_lit 0), {data:= #[]},IntKind.i64.wrap ((3:Int)+y4.1.2.2.2.1), {data:= #[(65:UInt8),(66:UInt8)]},[],[],y4.1.1,y4.1.2.1,y4.1.2.2.1,PUnit.unit))=fnMW Pz (look [(17,Ib),(16,Zu)]) uT Try.f12 (b,i,h,()) P:=by kernel_rfl
abbrev SL:Type:=(List Int×Int×Int×Int×PUnit)×PUnit
theorem Afj (b:List Int) (i h m:Int) (P:((List Int×Int×Int×Int×Unit)×Unit)->Prop):(∃(y5:SL),Ib.fn (b,i,h,m,())=some y5/\ ∃(y6:SL),Ib.fn (y5.1.1,y5.1.2.1,y5.1.2.2.1,(2:Int),())=some y6/\Br (y6.1.2.2.2.1==(0:Int)) (P ((y6.1.1,y6.1.2.1,y6.1.2.2.1,IntKind.i64.wrap ((0:Int)-IntKind.i64.wrap ((1:Int)+y5.1.2.2.2.1)),()),())) (P ((y6.1.1,y6.1.2.1,y6.1.2.2.1,IntKind.i64.wrap ((1:Int)+y5.1.2.2.2.1),()),())))=fnMW Pz (look [(17,Ib)]) uS Try.f138 (b,i,h,m,()) P:=by kernel_rfl
abbrev SO:Type:=Int×List Int×List Int×Int×Int×PUnit
abbrev SQ:Type:=(List Int×Int×Int×Int×PUnit)×PUnit
theorem Afn (b:List Int) (i h m k:Int) (P:((List Int×Int×Int×List Int×Unit)×Unit)->Prop):(∃(y6:SQ),Ib.fn (b,i,h,IntKind.i64.wrap (k+(1:Int)),())=some y6/\0=0/\0=([]:List Int).length/\Em (λ(v7:SO) (k8:SO->Prop)=>Br (decide (v7.1>(0:Int))) (∃(y9:SQ),uS.fn (v7.2.2.1,v7.2.2.2.1,v7.2.2.2.2.1,m,())=some y9/\0=0/\v7.2.1.length=v7.2.1.length/\v7.2.1.length+(List.take 1 (List.drop 0 [y9.1.2.2.2.1])).length<=Et/\0=0/\(v7.2.1++List.take 1 (List.drop 0 [y9.1.2.2.2.1])).length=(v7.2.1++List.take 1 (List.drop 0 [y9.1.2.2.2.1])).length/\k8 (IntKind.i64.wrap (v7.1-(1:Int)),v7.2.1++List.take 1 (List.drop 0 [y9.1.2.2.2.1]),y9.1.1,y9.1.2.1,y9.1.2.2.1,())) (P ((v7.2.2.1,v7.2.2.2.1,v7.2.2.2.2.1,List.take v7.2.1.length (List.drop 0 v7.2.1),()),()))) (y6.1.2.2.2.1,[],y6.1.1,y6.1.2.1,y6.1.2.2.1,PUnit.unit))=fnMW Pz (look [(17,Ib),(138,uS)]) o3 Try.f62 (b,i,h,m,k,()) P:=by kernel_rfl
abbrev SN:Type:=Int×Int×ByteArray×List (List Int)×List Int×List Int×Int×Int×PUnit
abbrev FN:Type:=(List Int×Int×Int×Int×PUnit)×PUnit
theorem Afm (b:List Int) (i h n:Int) (str:ByteArray) (g:List (List Int)) (P:((List Int×Int×Int×List Int×Unit)×Unit)->Prop):(0=0/\0=([]:List Int).length/\Em (λ(v7:SN) (k8:SN->Prop)=>Br (decide (v7.1<v7.2.1)) (Br (decide ((↑v7.2.2.2.2.1.length:Int)<(3:Int))) (∃(y9:FN),Ib.fn (v7.2.2.2.2.2.1,v7.2.2.2.2.2.2.1,v7.2.2.2.2.2.2.2.1,(2:Int),())=some y9/\Br (y9.1.2.2.2.1==(0:Int)) (0=0/\v7.2.2.2.2.1.length=v7.2.2.2.2.1.length/\v7.2.2.2.2.1.length+(List.take 1 (List.drop 0 [v7.1])).length<=Et/\0=0/\(v7.2.2.2.2.1++List.take 1 (List.drop 0 [v7.1])).length=(v7.2.2.2.2.1++List.take 1 (List.drop 0 [v7.1])).length/\k8 (IntKind.i64.wrap (v7.1+(1:Int)),v7.2.1,v7.2.2.1,v7.2.2.2.1,v7.2.2.2.2.1++List.take 1 (List.drop 0 [v7.1]),y9.1.1,y9.1.2.1,y9.1.2.2.1,())) (0=0/\v7.2.2.2.2.1.length=v7.2.2.2.2.1.length/\k8 (IntKind.i64.wrap (v7.1+(1:Int)),v7.2.1,v7.2.2.1,v7.2.2.2.1,v7.2.2.2.2.1,y9.1.1,y9.1.2.1,y9.1.2.2.1,()))) (Br ((↑v7.2.2.2.2.1.length:Int)==(0:Int)) (∃(y9:FN),Ib.fn (v7.2.2.2.2.2.1,v7.2.2.2.2.2.2.1,v7.2.2.2.2.2.2.2.1,v7.2.1,())=some y9/\0=0/\v7.2.2.2.2.1.length=v7.2.2.2.2.1.length/\v7.2.2.2.2.1.length+(List.take 1 (List.drop 0 [y9.1.2.2.2.1])).length<=Et/\P ((y9.1.1,y9.1.2.1,y9.1.2.2.1,List.take (v7.2.2.2.2.1++List.take 1 (List.drop 0 [y9.1.2.2.2.1])).length (List.drop 0 (v7.2.2.2.2.1++List.take 1 (List.drop 0 [y9.1.2.2.2.1]))),()),())) (P ((v7.2.2.2.2.2.1,v7.2.2.2.2.2.2.1,v7.2.2.2.2.2.2.2.1,List.take v7.2.2.2.2.1.length (List.drop 0 v7.2.2.2.2.1),()),())))) (Br ((↑v7.2.2.2.2.1.length:Int)==(0:Int)) (∃(y9:FN),Ib.fn (v7.2.2.2.2.2.1,v7.2.2.2.2.2.2.1,v7.2.2.2.2.2.2.2.1,v7.2.1,())=some y9/\0=0/\v7.2.2.2.2.1.length=v7.2.2.2.2.1.length/\v7.2.2.2.2.1.length+(List.take 1 (List.drop 0 [y9.1.2.2.2.1])).length<=Et/\P ((y9.1.1,y9.1.2.1,y9.1.2.2.1,List.take (v7.2.2.2.2.1++List.take 1 (List.drop 0 [y9.1.2.2.2.1])).length (List.drop 0 (v7.2.2.2.2.1++List.take 1 (List.drop 0 [y9.1.2.2.2.1]))),()),())) (P ((v7.2.2.2.2.2.1,v7.2.2.2.2.2.2.1,v7.2.2.2.2.2.2.2.1,List.take v7.2.2.2.2.1.length (List.drop 0 v7.2.2.2.2.1),()),())))) ((0:Int),n,str,g,[],b,i,h,PUnit.unit))=fnMW Pz (look [(17,Ib)]) rC Try.f32 (b,i,h,n,str,g,()) P:=by kernel_rfl
theorem YV (h:Int):0<=xN h/\xN h<=16777215:=by
 obtain ⟨a,ha⟩: ∃a,BitVec.ofInt IntKind.u64.bits (h.fdiv ((2:Int)^min (Int.toNat (33:Int)) IntKind.u64.bits))=a:=⟨_,rfl⟩
 have h1:(a&&&BitVec.ofInt IntKind.u64.bits (16777215:Int)).toNat<=16777215:=by
  rw [BitVec.toNat_and]
  exact Nat.and_le_right
 unfold xN
 rw [ha]
 obtain ⟨x,hx⟩: ∃x,(a&&&BitVec.ofInt IntKind.u64.bits (16777215:Int)).toNat=x:=⟨_,rfl⟩
 rw [hx] at h1⊢
 have e:IntKind.u64.wrap (x:Int)=x:=by
  unfold IntKind.wrap
  have e1:IntKind.signed .u64=false:=rfl
  have e2:IntKind.bits .u64=64:=rfl
  rw [e1,e2]
  simp only [Bool.false_and,Cy,Sa]
  omega
 rw [e,Cq (by omega) (by omega)]
 omega
theorem Yv.Hs {b:List Int} {i:Int} (h:Yv b i) (hi:i<b.length):0<=Hs b i/\Hs b i<256:=by
 have h0:=h.lo
 have hl:i.toNat<b.length:=by omega
 refine h.byte _ ?_
 unfold Go.Proofs.Ytkkdpknjohcekaa.Hs
 rw [Ah,Ac hl]
 exact Ak hl
theorem Yv.next {b:List Int} {i:Int} (h:Yv b i):Yv b (dI b i):=by
 have h0:=h.lo
 have h1:=h.hi
 unfold dI
 split
 ·exact ⟨h.len,h.byte,by omega,by omega⟩
 ·exact h
theorem ca {b:List Int} {i n:Int} (h:Yv b i) (hn:1<=n) (s:Int):0<=dR b i s n/\dR b i s n<n:=by
 have hx:=YV (hN s)
 unfold dR
 split
 ·rename_i hi
  have:=h.Hs hi
  exact ⟨Int.tmod_nonneg _ (by omega),Int.tmod_lt_of_pos _ (by omega)⟩
 ·exact ⟨Int.tmod_nonneg _ (by omega),Int.tmod_lt_of_pos _ (by omega)⟩
theorem Ab6 (code:List Int) (FC:Int) (h:code.length<=4096):fnMW Pz (look []) mU Try.f11 (code,FC,()) (λ(z:(List Int×Int×Int×Unit)×Unit)=>z=((code,0,mD code FC,()),())):=by
 obtain ⟨R,hR⟩: ∃R,mD code FC=R:=⟨_,rfl⟩
 rw [hR]
 unfold mD at hR
 refine Eq.mp (Abn code FC _) ?_
 refine Cg code.length (λv=>v.1) (λj v=>v.2.1=code/\v.2.2.1=0/\zT (code.drop j) v.2.2.2.1=R) rfl ⟨rfl,rfl,hR⟩ ?_
 rintro j ⟨jj,c,i,s,⟨⟩⟩ K hj pc ⟨r1,r2,r3⟩ hK
 dsimp only at pc r1 r2 r3⊢
 subst pc r1 r2
 refine Br.dec (λhl=>?_) λhl=>?_
 ·have hl:j<c.length:=by omega
  refine ⟨_,Cc hl,?_⟩
  rw [Cm (by omega)]
  rw [Gt hl,zT] at r3
  exact hK hl _ rfl ⟨rfl,rfl,r3⟩
 ·have:j=c.length:=by omega
  subst this
  rw [Ww,zT] at r3
  rw [r3]
theorem FF:Dx Try.prog 11 mU:=
 Dx.wF Pb Bt mixed Try.func11 (by kernel_rfl) (by kernel_rfl) λx h=>Ab6 x.1 x.2.1 h
theorem VZ (b:List Int) (i h n:Int) (hd:Yv b i/\1<=n):fnMW Pz (look []) Ib Try.f17 (b,i,h,n,()) (λ(z:(List Int×Int×Int×Int×Unit)×Unit)=>z=((b,dI b i,hN h,dR b i h n,()),())):=by
 obtain ⟨hd,hn⟩:=hd
 have h0:=hd.lo
 have hlen:=hd.len
 have hx:=YV (hN h)
 refine Eq.mp (WO b i h n _) ⟨by omega,Br.dec (λhl=>?_) λhl=>?_⟩
 ·have hg:=hd.Hs hl
  refine ⟨_,fZ h0 hl,by omega,?_⟩
  rw [Cq (n:=Hs b i) (by omega) (by omega)]
  show ((b,IntKind.i64.wrap (i+1),hN h,(IntKind.i64.wrap (xN (hN h)+Hs b i)).tmod n,()),())=_
  rw [Cq (by omega) (by omega),Cq (by omega) (by omega)]
  unfold dI dR
  rw [Ab hl,Ab hl]
 ·refine ⟨by omega,?_⟩
  show ((b,i,hN h,(xN (hN h)).tmod n,()),())=_
  unfold dI dR
  rw [Al hl,Al hl]
theorem Xy:Dx Try.prog 17 Ib:=
 Dx.wF Pb Bt mixed Try.func17 (by kernel_rfl) (by kernel_rfl) λx h=>VZ x.1 x.2.1 x.2.2.1 x.2.2.2.1 h
theorem Aes (code:List Int) (_:True):fnW Gb (look []) uO Try.f10 (code,()) (λ(z:Bool)=>z=decide ((code.length:Int)>4096)):=Eq.mp (Afd code _) rfl
theorem LY:Sound Try.prog 10 uO:=
 Sound.Hq Ee Bt mixed Try.func10 (by kernel_rfl) (by kernel_rfl) λx h=>Aes x.1 h
theorem Aey (b:List Int) (i h m:Int) (hd:Yv b i/\1<=m/\m<=8):fnMW Pz (look [(17,Ib)]) uS Try.f138 (b,i,h,m,()) (λ(z:(List Int×Int×Int×Int×Unit)×Unit)=>z=((b,(Xq b i h m).1,(Xq b i h m).2.1,(Xq b i h m).2.2,()),())):=by
 obtain ⟨hd,h1,h8⟩:=hd
 have hr:=ca hd h1 h
 refine Eq.mp (Afj b i h m _) ⟨_,Ab ⟨hd,h1⟩,_,Ab ⟨hd.next,by show (1:Int)<=2;decide⟩,Br.of (λhz=>?_) λhz=>?_⟩
 ·have hz:dR b (dI b i) (hN h) 2=0:=by simpa using hz
  show ((b,dI b (dI b i),hN (hN h),IntKind.i64.wrap (0-IntKind.i64.wrap (1+dR b i h m)),()),())=_
  rw [Cq (n:=1+dR b i h m) (by omega) (by omega),Cq (by omega) (by omega)]
  unfold Xq
  rw [Ab hz,Int.zero_sub]
 ·have hz: ¬dR b (dI b i) (hN h) 2=0:=by simpa using hz
  show ((b,dI b (dI b i),hN (hN h),IntKind.i64.wrap (1+dR b i h m),()),())=_
  rw [Cq (by omega) (by omega)]
  unfold Xq
  rw [Al hz]
theorem MD:Dx Try.prog 138 uS:=
 Dx.wF Pb (Fz Xy Bt) mixed Try.func138 (by kernel_rfl) (by kernel_rfl) λx h=>Aey x.1 x.2.1 x.2.2.1 x.2.2.2.1 h
theorem RJ (n:Int) (h:0<=n/\n<=20):fnMW Pz (look []) cG Try.f66 (n,()) (λ(z:(List Int×Unit)×Unit)=>z=((upto n.toNat,()),())):=by
 refine Eq.mp (TJ n _) ⟨rfl,rfl,?_⟩
 refine Cg n.toNat (λv=>v.1) (λj v=>v.2.1=upto j) rfl rfl ?_
 rintro j ⟨i,ys,⟨⟩⟩ K hj hi h1 hK
 dsimp only at hi h1⊢
 subst hi h1
 refine Br.dec (λhl=>?_) λhl=>?_
 ·refine ⟨rfl,rfl,?_,rfl,rfl,?_⟩
  ·show (upto j).length+1<=4294967296
   rw [Vi];omega
  ·rw [Cm (by omega)]
   exact hK (by omega) _ rfl (nj j).symm
 ·have:j=n.toNat:=by omega
  subst this
  rw [Cj]
theorem xm:Dx Try.prog 66 cG:=
 Dx.iw Pb Bt mixed Try.func66 (by kernel_rfl) (by kernel_rfl) λx h=>RJ x.1 h
theorem LF (n:Int) (h:1<=n/\n<=20):fnMW Pz (look [(65,Bz),(66,cG)]) Zu Try.f16 (n,()) (λ(z:(List Int×Unit)×Unit)=>z=((upto n.toNat,()),())):=by
 refine Eq.mp (NC n _) ⟨true,Ab trivial|>.trans (Hv some (Ew ⟨h.1,h.2⟩)),λhc=>(by cases hc),λ_=>⟨_,Ab ⟨by show 0<=n;omega,h.2⟩,?_⟩⟩
 rw [Cj]
theorem tj:Dx Try.prog 16 Zu:=
 Dx.iw Pb (Ax Ng (Fz xm Bt)) mixed Try.func16 (by kernel_rfl) (by kernel_rfl) λx h=>LF x.1 h
theorem RO (n:Int) (h:1<=n/\n<=20):fnW Gb (look [(65,Bz),(66,Pa)]) Sk Try.f16 (n,()) (λ(z:List Int)=>z=upto n.toNat):=
 Eq.mp (TO n _) ⟨true,Ab trivial|>.trans (Hv some (Ew ⟨h.1,h.2⟩)),λhc=>(by cases hc),λ_=>⟨_,Ab ⟨by show 0<=n;omega,h.2⟩,rfl⟩⟩
theorem xq:Sound Try.prog 16 Sk:=
 Sound.Hq Ee (Ax Ng (Ax gN Bt)) mixed Try.func16 (by kernel_rfl) (by kernel_rfl) λx h=>RO x.1 h
theorem IW {b:List Int} {i:Int} (hd:Yv b i) (h m:Int):Yv b (Xq b i h m).1:=hd.next.next
theorem Af2 (b:List Int) (i h m k:Int) (hd:Yv b i/\(1<=m/\m<=8)/\0<=k/\k<=20):fnMW Pz (look [(17,Ib),(138,uS)]) o3 Try.f62 (b,i,h,m,k,()) (λ(z:(List Int×Int×Int×List Int×Unit)×Unit)=>z=((b,(Tn b i h m k).1,(Tn b i h m k).2.1,(Tn b i h m k).2.2,()),())):=by
 obtain ⟨hd,hm,ua,hk⟩:=hd
 have hr:=ca hd (show 1<=k+1 by omega) h
 obtain ⟨R,hR⟩: ∃R,Tn b i h m k=R:=⟨_,rfl⟩
 rw [hR]
 unfold Tn at hR
 refine Eq.mp (Afn b i h m k _) ?_
 rw [Cq (by omega) (by omega)]
 refine ⟨_,Ab ⟨hd,by show 1<=k+1;omega⟩,rfl,rfl,?_⟩
 refine Em.mk (λy=> ∃(f:Nat) (i h:Int) (w:List Int),y=((f:Int),w,b,i,h,())/\Yv b i/\f+w.length<=20/\TE b m f i h w=R) (λy=>y.1.toNat)
  ⟨(dR b i h (k+1)).toNat,dI b i,hN h,[],by rw [Int.toNat_of_nonneg hr.1],hd.next,by simp only [Iq];omega,hR⟩ ?_
 rintro y ⟨f,i,h,w,rfl,hd,hl,hv⟩
 dsimp only
 refine Br.dec (λhf=>?_) λhf=>?_
 ·obtain ⟨f,rfl⟩: ∃f',f=f'+1:=⟨f-1,by omega⟩
  refine ⟨_,Ab ⟨hd,hm⟩,rfl,rfl,by show w.length+1<=4294967296;omega,rfl,rfl,?_⟩
  rw [Cq (by omega) (by omega)]
  rw [TE] at hv
  exact ⟨⟨f,_,_,_,by rw [show ((f+1:Nat):Int)-1=(f:Int) by omega];rfl,IW hd h m,by rw [Au];show f+(w.length+1)<=20;omega,hv⟩,by show ((((f+1:Nat):Int)-1).toNat)<(((f+1:Nat):Int)).toNat;omega⟩
 ·obtain rfl:f=0:=by omega
  rw [TE] at hv
  rw [<-hv]
  simp only [Cj]
theorem MH:Dx Try.prog 62 o3:=
 Dx.wF Pb (Fz Xy (Fz MD Bt)) mixed Try.func62 (by kernel_rfl) (by kernel_rfl) λx h=>Af2 x.1 x.2.1 x.2.2.1 x.2.2.2.1 x.2.2.2.2.1 h
theorem AJ {b:List Int} (n:Int): ∀(k:Nat) (i h:Int) (mv:List Int),Yv b i->Yv b (dQ b n k i h mv).1
 |0,_,_,_,hd=>hd
 |k+1,i,h,mv,hd=>by rw [dQ];exact AJ n k _ _ _ hd.next.next
theorem qQ {b:List Int} {n i:Int} (hd:Yv b i) (h:Int):Yv b (mF b n i h).1:=AJ n _ _ _ _ hd.next
theorem IE (b:List Int) (n:Int): ∀(k:Nat) (i h:Int) (ms:List (List Int)),(Ys b n k i h ms).2.2.length=k+ms.length
 |0,_,_,ms=>by rw [Ys];show ms.length=0+ms.length;omega
 |k+1,i,h,ms=>by rw [Ys,IE b n k,Au,Cr];omega
theorem ID {b:List Int} (n:Int): ∀(k:Nat) (i h:Int) (ms:List (List Int)),Yv b i->Yv b (Ys b n k i h ms).1
 |0,_,_,_,hd=>hd
 |k+1,i,h,ms,hd=>by rw [Ys];exact ID n k _ _ _ (qQ hd h)
theorem Aci {xs:List Int} {y:Int} (h0:0<=y) (h:y<xs.length):xs[0+y.toNat]?=some (Hs xs y):=by
 have hl:y.toNat<xs.length:=by omega
 unfold Hs
 rw [Cf,Ah,Ac hl]
 rfl
theorem Aez (b:List Int) (i h:Int) (hd:Yv b i):fnMW Pz (look [(17,Ib),(16,Zu)]) uT Try.f12 (b,i,h,()) (λ(z:(List Int×Int×Int×Int×ByteArray×List (List Int)×Unit)×Unit)=>z=((b,(Yr b i h).1,(Yr b i h).2.1,(Yr b i h).2.2.1,(Yr b i h).2.2.2.1,(Yr b i h).2.2.2.2.1,()),())):=by
 have hr:=ca hd (show (1:Int)<=3 by decide) h
 obtain ⟨n,hn⟩: ∃n,3+dR b i h 3=n:=⟨_,rfl⟩
 obtain ⟨R,hR⟩: ∃R,Ys b n 2 (dI b i) (hN h) []=R:=⟨_,rfl⟩
 have hm:Yr b i h=(R.1,R.2.1,(n,QZ,R.2.2,())):=by unfold Yr;rw [hn,hR]
 rw [hm]
 refine Eq.mp (Afk b i h _) ⟨_,Ab ⟨hd,by show (1:Int)<=3;decide⟩,rfl,rfl,rfl,rfl,?_⟩
 dsimp only
 rw [Cq (n:=3+dR b i h 3) (by omega) (by omega),hn]
 have hn3:3<=n/\n<=5:=by omega
 refine Em.mk (λy=> ∃(f:Nat) (i h:Int) (ms:List (List Int)),y=((0:Int), {data:= #[]},n,QZ,[],ms,b,i,h,())/\Yv b i/\f+ms.length=2/\Ys b n f i h ms=R) (λy=>2-y.2.2.2.2.2.1.length)
  ⟨2,dI b i,hN h,[],rfl,hd.next,rfl,hR⟩ ?_
 rintro y ⟨f,i,h,ms,rfl,hd,hl,hv⟩
 dsimp only
 refine Br.dec (λhf=>?_) λhf=>?_
 ·obtain ⟨f,rfl⟩: ∃f',f=f'+1:=⟨f-1,by omega⟩
  rw [Ys] at hv
  obtain ⟨M,hM⟩: ∃M,mF b n i h=M:=⟨_,rfl⟩
  have hMd:Yv b M.1:=by rw [<-hM];exact qQ hd h
  rw [hM] at hv
  unfold mF at hM
  have hr:=ca hd (show (1:Int)<=3 by decide) h
  refine ⟨_,Ab ⟨by show 1<=n;omega,by show n<=20;omega⟩,_,Ab ⟨hd,by show (1:Int)<=3;decide⟩,rfl,rfl,rfl,rfl,rfl,rfl,?_⟩
  dsimp only
  rw [Cq (n:=1+dR b i h 3) (by omega) (by omega)]
  refine Em.mk (λz=> ∃(c:Nat) (i h:Int) (mv:List Int),z=((c:Int),(0:Int), {data:= #[]},n,QZ,[],ms,mv,b,i,h,())/\Yv b i/\c<=3/\mv.length=n.toNat/\dQ b n c i h mv=M) (λz=>z.1.toNat)
   ⟨(1+dR b i h 3).toNat,dI b i,hN h,upto n.toNat,by rw [Int.toNat_of_nonneg (by omega)],hd.next,by omega,Vi _,hM⟩ ?_
  rintro z ⟨c,i',h',mv,rfl,BN,hc,fT,hsw⟩
  dsimp only
  refine Br.dec (λkD=>?_) λkD=>?_
  ·obtain ⟨c,rfl⟩: ∃c',c=c'+1:=⟨c-1,by omega⟩
   rw [dQ] at hsw
   have r1:=ca BN (show 1<=n by omega) h'
   have r2:=ca BN.next (show 1<=n by omega) (hN h')
   have l1:dR b i' h' n<mv.length:=by omega
   have l2:dR b (dI b i') (hN h') n<mv.length:=by omega
   refine ⟨_,Ab ⟨BN,by show 1<=n;omega⟩,_,Ab ⟨BN.next,by show 1<=n;omega⟩,⟨r1.1,l1⟩,_,Aci r1.1 l1,⟨r2.1,l2⟩,_,Aci r2.1 l2,⟨r1.1,l1⟩,by show 0+(dR b i' h' n).toNat<mv.length;omega,⟨r2.1,l2⟩,
    by rw [Ez];show 0+(dR b (dI b i') (hN h') n).toNat<mv.length;omega,rfl,by simp only [Ez],rfl,rfl,rfl,rfl,?_⟩
   dsimp only
   rw [Cq (by omega) (by omega),Cf,Cf]
   exact ⟨⟨c,_,_,_,by rw [show ((c+1:Nat):Int)-1=(c:Int) by omega],BN.next.next,by omega,by simp only [Ez];exact fT,hsw⟩,by show ((((c+1:Nat):Int)-1).toNat)<(((c+1:Nat):Int)).toNat;omega⟩
  ·obtain rfl:c=0:=by omega
   rw [dQ] at hsw
   subst hsw
   refine ⟨rfl,rfl,by show ms.length+1<=4294967296;omega,rfl,rfl,rfl,rfl,?_⟩
   rw [Cj]
   exact ⟨⟨f,_,_,_,rfl,hMd,by rw [Au];show f+(ms.length+1)=2;omega,hv⟩,by show 2-(ms++ [mv]).length<2-ms.length;rw [Au,Cr];omega⟩
 ·obtain rfl:f=0:=by omega
  rw [Ys] at hv
  rw [<-hv]
  simp only [Cj]
theorem ME:Dx Try.prog 12 uT:=
 Dx.wF Pb (Fz Xy (Fz tj Bt)) mixed Try.func12 (by kernel_rfl) (by kernel_rfl) λx h=>Aez x.1 x.2.1 x.2.2.1 h
theorem Af1 (b:List Int) (i h n:Int) (str:ByteArray) (g:List (List Int)) (hd:Yv b i/\1<=n/\n<=20):fnMW Pz (look [(17,Ib)]) rC Try.f32 (b,i,h,n,str,g,()) (λ(z:(List Int×Int×Int×List Int×Unit)×Unit)=>z=((b,(Vq b i h n).1,(Vq b i h n).2.1,(Vq b i h n).2.2,()),())):=by
 obtain ⟨hd,hn1,hn⟩:=hd
 obtain ⟨R,hR⟩: ∃R,Vq b i h n=R:=⟨_,rfl⟩
 rw [hR]
 unfold Vq at hR
 refine Eq.mp (Afm b i h n str g _) ⟨rfl,rfl,?_⟩
 refine Em.mk (λy=> ∃(f:Nat) (j i h:Int) (o:List Int),y=(j,n,str,g,o,b,i,h,())/\Yv b i/\0<=j/\n-j<=f/\o.length<=3/\OT b n (NQ b n f j i h o)=R) (λy=>(n-y.1).toNat)
  ⟨n.toNat,0,i,h,[],rfl,hd,by omega,by omega,by simp,hR⟩ ?_
 rintro y ⟨f,j,i,h,o,rfl,hd,hj,hf,ho,hv⟩
 dsimp only
 have fin:NQ b n f j i h o=(i,h,o)->Br ((o.length:Int)==0) (∃(y9:(List Int×Int×Int×Int×PUnit)×PUnit),Ib.fn (b,i,h,n,())=some y9/\(0:Nat)=0/\o.length=o.length/\o.length+(List.take (1:Nat) (List.drop (0:Nat) [y9.1.2.2.2.1])).length<=Et/\
   ((y9.1.1,y9.1.2.1,y9.1.2.2.1,List.take (o++List.take (1:Nat) (List.drop (0:Nat) [y9.1.2.2.2.1])).length (List.drop (0:Nat) (o++List.take (1:Nat) (List.drop (0:Nat) [y9.1.2.2.2.1]))),()),())=((b,R.1,R.2.1,R.2.2,()),()))
   (((b,i,h,List.take o.length (List.drop 0 o),()),())=((b,R.1,R.2.1,R.2.2,()),())):=by
  intro he
  rw [he] at hv
  refine Br.of (λhz=>?_) λhz=>?_
  ·have hz:o.length=0:=by simpa using hz
   rw [OT,Ab hz] at hv
   refine ⟨_,Ab ⟨hd,hn1⟩,rfl,rfl,by show o.length+1<=4294967296;omega,?_⟩
   rw [<-hv,Cj]
   rfl
  ·have hz: ¬o.length=0:=by simpa using hz
   rw [OT,Al hz] at hv
   rw [<-hv,Cj]
 refine Br.dec (λhjn=>?_) λhjn=>?_
 ·refine Br.dec (λho3=>?_) λho3=>?_
  ·obtain ⟨f,rfl⟩: ∃f',f=f'+1:=⟨f-1,by omega⟩
   rw [NQ,Ab ⟨hjn,by omega⟩] at hv
   refine ⟨_,Ab ⟨hd,by show (1:Int)<=2;decide⟩,Br.of (λhz=>?_) λhz=>?_⟩
   ·have hz:dR b i h 2=0:=by simpa using hz
    rw [Ab hz] at hv
    refine ⟨rfl,rfl,by show o.length+1<=4294967296;omega,rfl,rfl,?_⟩
    rw [Cq (by omega) (by omega)]
    exact ⟨⟨f,j+1,_,_,_,rfl,hd.next,by omega,by omega,by rw [Au];show o.length+1<=3;omega,hv⟩,by show (n-(j+1)).toNat<(n-j).toNat;omega⟩
   ·have hz: ¬dR b i h 2=0:=by simpa using hz
    rw [Al hz] at hv
    refine ⟨rfl,rfl,?_⟩
    rw [Cq (by omega) (by omega)]
    exact ⟨⟨f,j+1,_,_,_,rfl,hd.next,by omega,by omega,ho,hv⟩,by show (n-(j+1)).toNat<(n-j).toNat;omega⟩
  ·refine fin ?_
   cases f with
   |zero=>rfl
   |succ f=>rw [NQ,Al (λhc=>ho3 (by omega))]
 ·refine fin ?_
  cases f with
  |zero=>rfl
  |succ f=>rw [NQ,Al (λhc=>hjn hc.1)]
theorem MG:Dx Try.prog 32 rC:=
 Dx.wF Pb (Fz Xy Bt) mixed Try.func32 (by kernel_rfl) (by kernel_rfl) λx h=>Af1 x.1 x.2.1 x.2.2.1 x.2.2.2.1 x.2.2.2.2.1 x.2.2.2.2.2.1 h
end Go.Proofs.Ytkkdpknjohcekaa
