/-
  Part 41 of the proof that the statement FnSymmetries holds.
-/
import Derived.Test.YtkkdpknjohcekaaCFSymmetries39
import Derived.Shelf.RegionOpenPlain
import Derived.WalkKit
import Derived.Lib.Walk
namespace Go.Proofs.Ytkkdpknjohcekaa
open Go.RowKit
def ap (p:List Int) (i:Nat):Nat:=(Jb p (i:Int)).toNat
def Pm (n:Nat) (p:List Int):Prop:=p.length=n/\Yl p
theorem Pm.n1 {n:Nat} {p:List Int} (h:Pm n p):1<=n:=h.1▸h.2.pos
theorem Pm.n2 {n:Nat} {p:List Int} (h:Pm n p):n<=20:=h.1▸h.2.len
theorem Pm.Zg {n:Nat} {p:List Int} (h:Pm n p) {i:Nat} (hi:i<n):Jb p (i:Int)=(ap p i:Int)/\ap p i<n:=by
 have oS:i<p.length:=by rw [h.1];exact hi
 have:=h.2.row _ (Ak oS)
 unfold ap
 rw [Jf oS]
 have h1:=h.1
 omega
theorem Pm.lt {n:Nat} {p:List Int} (h:Pm n p) {i:Nat} (hi:i<n):ap p i<n:=(h.Zg hi).2
theorem Pm.ext {n:Nat} {p q:List Int} (h:Pm n p) (k:Pm n q) (e: ∀i,i<n->ap p i=ap q i):p=q:=by
 refine List.ext_getElem (by rw [h.1,k.1]) λi h1 h2=>?_
 have hi:i<n:=by rw [<-h.1];exact h1
 have a:=(h.Zg hi).1
 have b:=(k.Zg hi).1
 rw [Jf h1] at a
 rw [Jf h2] at b
 rw [a,b,e i hi]
theorem Pm.inj {n:Nat} {p:List Int} (h:Pm n p) {i j:Nat} (hi:i<n) (hj:j<n) (e:ap p i=ap p j):i=j:=
 h.2.inj i j (by rw [h.1];exact hi) (by rw [h.1];exact hj) e
theorem Pm.DK {n:Nat} {p:List Int} (h:Pm n p) {k:Nat} (hk:k<n): ∃i,i<n/\ap p i=k:=by
 obtain ⟨i,h1,h2⟩:=h.2.DK k (by rw [h.1];exact hk)
 exact ⟨i,by rw [<-h.1];exact h1,h2⟩
theorem Pm.of {n:Nat} {p:List Int} (hl:p.length=n) (h1:1<=n) (h2:n<=20) (f:Nat->Nat) (hf: ∀i,i<n->p[i]?=some (f i:Int)/\f i<n) (hi: ∀i j,i<n->j<n->f i=f j->i=j):Pm n p:=by
 refine ⟨hl,by omega,by omega,λy hy=>?_,?_⟩
 ·obtain ⟨i,hi,rfl⟩:=Bd.1 hy
  obtain ⟨h3,h4⟩:=hf i (by omega)
  rw [Ac hi] at h3
  rw [Aw h3]
  omega
 ·refine Dc.2 λi j h3 h4 h5 h6=>?_
  have a:=(hf i (by omega)).1
  have b:=(hf j (by omega)).1
  rw [Ac h3] at a
  rw [Ac h4] at b
  rw [Aw a,Aw b] at h6
  have:=hi i j (by omega) (by omega) (by omega)
  omega
theorem ye {n:Nat} {p q:List Int} (hp:Pm n p) (hq:Pm n q) {i:Nat} (hi:i<n):(An p q)[i]?=some (ap q (ap p i):Int):=by
 have h1:i<p.length:=by rw [hp.1];exact hi
 unfold An
 rw [Ge,Ac h1]
 have a:=(hp.Zg hi).1
 rw [Jf h1] at a
 simp only [Ah,a]
 rw [(hq.Zg (hp.Zg hi).2).1]
theorem Pm.comp {n:Nat} {p q:List Int} (hp:Pm n p) (hq:Pm n q):Pm n (An p q):=
 Pm.of (by rw [Kn,hp.1]) hp.n1 hp.n2 (λi=>ap q (ap p i)) (λi hi=>⟨ye hp hq hi,hq.lt (hp.lt hi)⟩) λi j hi hj e=>hp.inj hi hj (hq.inj (hp.lt hi) (hp.lt hj) e)
theorem NA {p:List Int} {i k:Nat} (h:p[i]?=some (k:Int)):ap p i=k:=by
 unfold ap Jb
 rw [Bh,Al,h]
 simp
theorem Us {n:Nat} {p q:List Int} (hp:Pm n p) (hq:Pm n q) {i:Nat} (hi:i<n):ap (An p q) i=ap q (ap p i):=NA (ye hp hq hi)
theorem AB {n i:Nat} (hi:i<n):(upto n)[i]?=some (i:Int):=by simp [upto,hi]
theorem xQ {n i:Nat} (hi:i<n):ap (upto n) i=i:=NA (AB hi)
theorem Pm.id {n:Nat} (h1:1<=n) (h2:n<=20):Pm n (upto n):=Pm.of (by simp [upto]) h1 h2 (λi=>i) (λi hi=>⟨AB hi,hi⟩) λ_ _ _ _ e=>e
theorem GZ {n:Nat} {p:List Int} (hp:Pm n p) {i:Nat} (hi:i<n):(Bq p)[ap p i]?=some (i:Int):=CT hp.2 (by rw [hp.1];exact hi)
theorem oK {n:Nat} {p:List Int} (hp:Pm n p) {i:Nat} (hi:i<n):ap (Bq p) (ap p i)=i:=NA (GZ hp hi)
theorem uU {n:Nat} {p:List Int} (hp:Pm n p) {k:Nat} (hk:k<n):ap p (ap (Bq p) k)=k:=by
 obtain ⟨i,hi,rfl⟩:=hp.DK hk
 rw [oK hp hi]
theorem Pm.inv {n:Nat} {p:List Int} (hp:Pm n p):Pm n (Bq p):=by
 refine Pm.of (by rw [Vd,hp.1]) hp.n1 hp.n2 (λk=>ap (Bq p) k) (λk hk=>?_) λi j hi hj e=>?_
 ·obtain ⟨i,hi,rfl⟩:=hp.DK hk
  rw [oK hp hi]
  exact ⟨GZ hp hi,hi⟩
 ·rw [<-uU hp hi,<-uU hp hj,e]
theorem Je {n:Nat} {p q r:List Int} (hp:Pm n p) (hq:Pm n q) (hr:Pm n r):An (An p q) r=An p (An q r):=
 ((hp.comp hq).comp hr).ext (hp.comp (hq.comp hr)) λi hi=>by rw [Us (hp.comp hq) hr hi,Us hp hq hi,Us hp (hq.comp hr) hi,Us hq hr (hp.lt hi)]
theorem comp_id {n:Nat} {p:List Int} (hp:Pm n p):An p (upto n)=p:=
 (hp.comp (Pm.id hp.n1 hp.n2)).ext hp λi hi=>by rw [Us hp (Pm.id hp.n1 hp.n2) hi,xQ (hp.lt hi)]
theorem id_comp {n:Nat} {p:List Int} (hp:Pm n p):An (upto n) p=p:=
 ((Pm.id hp.n1 hp.n2).comp hp).ext hp λi hi=>by rw [Us (Pm.id hp.n1 hp.n2) hp hi,xQ hi]
theorem c9 {n:Nat} {p:List Int} (hp:Pm n p):An p (Bq p)=upto n:=
 (hp.comp hp.inv).ext (Pm.id hp.n1 hp.n2) λi hi=>by rw [Us hp hp.inv hi,oK hp hi,xQ hi]
theorem l8 {n:Nat} {p:List Int} (hp:Pm n p):An (Bq p) p=upto n:=
 (hp.inv.comp hp).ext (Pm.id hp.n1 hp.n2) λi hi=>by rw [Us hp.inv hp hi,uU hp hi,xQ hi]
theorem l9 {n:Nat} {p q:List Int} (hp:Pm n p) (hq:Pm n q) (h:An p q=upto n):Bq p=q:=by
 rw [<-comp_id hp.inv,<-h,<-Je hp.inv hp hq,l8 hp,id_comp hq]
theorem inv_mul {n:Nat} {p q:List Int} (hp:Pm n p) (hq:Pm n q):Bq (An p q)=An (Bq q) (Bq p):=
 l9 (hp.comp hq) (hq.inv.comp hp.inv) (by
  rw [Je hp hq (hq.inv.comp hp.inv),<-Je hq hq.inv hp.inv,c9 hq,id_comp hp.inv,c9 hp])
theorem inv_inv {n:Nat} {p:List Int} (hp:Pm n p):Bq (Bq p)=p:=l9 hp.inv hp (l8 hp)
theorem PI {n:Nat} (h1:1<=n) (h2:n<=20):Bq (upto n)=upto n:=l9 (Pm.id h1 h2) (Pm.id h1 h2) (comp_id (Pm.id h1 h2))
inductive jq (n:Nat) (S:List Int->Prop):List Int->Prop where
 |id:jq n S (upto n)
 |mul {p g:List Int} :jq n S p->S g->jq n S (An p g)
 |inv {p g:List Int} :jq n S p->S g->jq n S (An p (Bq g))
def YE (n:Nat) (S:List Int->Prop):Prop:=(1<=n/\n<=20)/\ ∀g,S g->Pm n g
theorem jq.pm {n:Nat} {S:List Int->Prop} (hS:YE n S) {p:List Int} (h:jq n S p):Pm n p:=by
 induction h with
 |id=>exact Pm.id hS.1.1 hS.1.2
 |mul _ hg ih=>exact ih.comp (hS.2 _ hg)
 |inv _ hg ih=>exact ih.comp (hS.2 _ hg).inv
theorem jq.comp {n:Nat} {S:List Int->Prop} (hS:YE n S) {p q:List Int} (hp:jq n S p) (hq:jq n S q):jq n S (An p q):=by
 induction hq with
 |id=>rw [comp_id (hp.pm hS)];exact hp
 |mul hq hg ih=>rw [<-Je (hp.pm hS) (hq.pm hS) (hS.2 _ hg)];exact .mul ih hg
 |inv hq hg ih=>rw [<-Je (hp.pm hS) (hq.pm hS) (hS.2 _ hg).inv];exact .inv ih hg
theorem jq.one {n:Nat} {S:List Int->Prop} (hS:YE n S) {g:List Int} (hg:S g):jq n S g:=by
 have:=jq.mul (n:=n) (S:=S) .id hg
 rwa [id_comp (hS.2 g hg)] at this
theorem jq.Aaf {n:Nat} {S:List Int->Prop} (hS:YE n S) {g:List Int} (hg:S g):jq n S (Bq g):=by
 have:=jq.inv (n:=n) (S:=S) .id hg
 rwa [id_comp (hS.2 g hg).inv] at this
theorem jq.UX {n:Nat} {S:List Int->Prop} (hS:YE n S) {p:List Int} (hp:jq n S p):jq n S (Bq p):=by
 induction hp with
 |id=>rw [PI hS.1.1 hS.1.2];exact .id
 |mul hq hg ih=>rw [inv_mul (hq.pm hS) (hS.2 _ hg)];exact (jq.Aaf hS hg).comp hS ih
 |inv hq hg ih=>rw [inv_mul (hq.pm hS) (hS.2 _ hg).inv,inv_inv (hS.2 _ hg)];exact (jq.one hS hg).comp hS ih
theorem jq.trans {n:Nat} {S S':List Int->Prop} (hS':YE n S') (h: ∀g,S g->jq n S' g) {p:List Int} (hp:jq n S p):jq n S' p:=by
 induction hp with
 |id=>exact .id
 |mul _ hg ih=>exact ih.comp hS' (h _ hg)
 |inv _ hg ih=>exact ih.comp hS' ((h _ hg).UX hS')
abbrev PO:=Option (List Int)
abbrev Row:=List PO
abbrev Rg:=List Row
def GL (T:Rg):Nat->Nat->List Int->Bool
 |0,_,_=>true
 |k+1,i,p=>match (T.getD i []).getD (Jb p (i:Int)).toNat none with
  |none=>false
  |some t=>GL T k (i+1) (An p (Bq t))
def XS (row:Row):Nat:=row.countP (·.isNone)
def Fx (l:Nat) (p:List Int):Prop:= ∀i,i<l->ap p i=i
def Gn (n:Nat) (gs:List PO):List Int->Prop:=jq n λg=>some g∈gs
structure Lvl (n l:Nat) (gs:List PO) (row:Row) (H:List Int->Prop):Prop where
 pg: ∀o∈gs,∃g,o=some g/\Pm n g/\Fx l g
 rl:row.length=n
 r0:row.getD l none=some (upto n)
 rt: ∀y t,row.getD y none=some t->Pm n t/\Fx l t/\ap t l=y/\Gn n gs t
 cl: ∀y t g,row.getD y none=some t->some g∈gs->row.getD (ap g y) none≠none
 sg: ∀y t g t',row.getD y none=some t->some g∈gs->row.getD (ap g y) none=some t'->H (An (An t g) (Bq t'))
def YD (n:Nat):Nat->Nat->Rg×Rg->Prop
 |0,l,s=>s.1.getD l []= []
 |k+1,l,s=>YD n k (l+1) s/\Lvl n l (s.1.getD l []) (s.2.getD l []) (λq=>GL s.2 k (l+1) q=true)/\ ∀g,some g∈s.1.getD (l+1) []->Gn n (s.1.getD l []) g
theorem Fx.inv {n l:Nat} {p:List Int} (hp:Pm n p) (h:Fx l p) (hl:l<=n):Fx l (Bq p):= λi hi=>by
 have:=oK hp (i:=i) (by omega)
 rwa [h i hi] at this
theorem Fx.comp {n l:Nat} {p q:List Int} (hp:Pm n p) (hq:Pm n q) (h1:Fx l p) (h2:Fx l q) (hl:l<=n):Fx l (An p q):= λi hi=>by
 rw [Us hp hq (by omega),h1 i hi,h2 i hi]
theorem jq.mono {n:Nat} {S S':List Int->Prop} (h: ∀g,S g->S' g) {p:List Int} (hp:jq n S p):jq n S' p:=by
 induction hp with
 |id=>exact .id
 |mul _ hg ih=>exact .mul ih (h _ hg)
 |inv _ hg ih=>exact .inv ih (h _ hg)
structure FW (n l:Nat) (gs:List PO) (row:Row):Prop where
 rl:row.length=n
 r0:row.getD l none=some (upto n)
 rt: ∀y t,row.getD y none=some t->Pm n t/\Fx l t/\ap t l=y/\Gn n gs t
def PG (n l:Nat) (gs:List PO):Prop:= ∀o∈gs,∃g,o=some g/\Pm n g/\Fx l g
structure Ext (n l:Nat) (gs:List PO) (row:Row) (q:List Int) (s':Row×List Int):Prop where
 ok:FW n l gs s'.1
 mono: ∀y t,row.getD y none=some t->s'.1.getD y none=some t
 phi:s'.2.length+XS s'.1=q.length+XS row
 sf: ∀y∈q,y∈s'.2
 new: ∀y∈s'.2,y∈q\/ ∃yn:Nat,y=yn/\s'.1.getD yn none≠none
 src: ∀y:Nat,s'.1.getD y none≠none->row.getD y none≠none\/(y:Int)∈s'.2
theorem Ext.refl {n l:Nat} {gs:List PO} {row:Row} {q:List Int} (h:FW n l gs row):Ext n l gs row q (row,q):=⟨h,λ_ _ h=>h,rfl,λ_ h=>h,λ_ h=> .inl h,λ_ h=> .inl h⟩
theorem DE {a b:Row} (h: ∀y t,a.getD y none=some t->b.getD y none=some t) {y:Nat} (hy:a.getD y none≠none):b.getD y none≠none:=by
 cases e:a.getD y none with
 |none=>exact absurd e hy
 |some t=>rw [h y t e];simp
theorem Ext.trans {n l:Nat} {gs:List PO} {row:Row} {q:List Int} {s1 s2:Row×List Int} (h:Ext n l gs row q s1) (k:Ext n l gs s1.1 s1.2 s2):Ext n l gs row q s2:=by
 refine ⟨k.ok,λy t e=>k.mono y t (h.mono y t e),k.phi.trans h.phi,λy hy=>k.sf y (h.sf y hy),λy hy=>?_,λy hy=>?_⟩
 ·rcases k.new y hy with h1|h1
  ·rcases h.new y h1 with h2|⟨yn,h2,h3⟩
   ·exact .inl h2
   ·exact .inr ⟨yn,h2,DE k.mono h3⟩
  ·exact .inr h1
 ·rcases k.src y hy with h1|h1
  ·exact (h.src y h1).imp id λh2=>k.sf _ h2
  ·exact .inr h1
def Ah8 (row:Row):Nat:=row.countP (·.isSome)
def Aey (T:Rg):Nat->Nat->Nat
 |0,_=>0
 |k+1,l=>Ah8 (T.getD l [])+Aey T k (l+1)
def GBf:Nat->Nat->Rg×Rg->Prop
 |0,_,_=>True
 |k+1,l,s=>GBf k (l+1) s/\(s.1.getD l []).length<=Aey s.2 (k+1) l
structure od (l0:Nat) (s s':Rg×Rg):Prop where
 Aa9:s'.1.length=s.1.length
 qc:s'.2.length=s.2.length
 low: ∀i,i<l0->s'.1.getD i []=s.1.getD i []/\s'.2.getD i []=s.2.getD i []
 WJ: ∀i o,o∈s.1.getD i []->o∈s'.1.getD i []
 XX: ∀i y t,(s.2.getD i []).getD y none=some t->(s'.2.getD i []).getD y none=some t
 Af0: ∀i,(s'.2.getD i []).length=(s.2.getD i []).length
theorem od.refl (l0:Nat) (s:Rg×Rg):od l0 s s:=⟨rfl,rfl,λ_ _=>⟨rfl,rfl⟩,λ_ _ h=>h,λ_ _ _ h=>h,λ_=>rfl⟩
theorem od.trans {l0 l1:Nat} {a b c:Rg×Rg} (h:od l0 a b) (k:od l1 b c) (hl:l0<=l1):od l0 a c:=
 ⟨k.Aa9.trans h.Aa9,k.qc.trans h.qc,λi hi=>⟨(k.low i (by omega)).1.trans (h.low i hi).1,(k.low i (by omega)).2.trans (h.low i hi).2⟩,λi o ho=>k.WJ i o (h.WJ i o ho),λi y t e=>k.XX i y t (h.XX i y t e),λi=>(k.Af0 i).trans (h.Af0 i)⟩
theorem od.Ig {l0 l1:Nat} {a b:Rg×Rg} (h:od l1 a b) (hl:l0<=l1):od l0 a b:=(od.refl l0 a).trans h hl
def V (n k l:Nat) (s:Rg×Rg):Prop:=s.1.length=n/\s.2.length=n/\YD n k l s/\GBf k l s
theorem Lvl.row {n l:Nat} {gs:List PO} {row:Row} {H:List Int->Prop} (h:Lvl n l gs row H):FW n l gs row:=⟨h.rl,h.r0,h.rt⟩
theorem V.lvl {n k l:Nat} {s:Rg×Rg} (h:V n (k+1) l s):Lvl n l (s.1.getD l []) (s.2.getD l []) (λq=>GL s.2 k (l+1) q=true):=h.2.2.1.2.1
theorem V.pg {n k l:Nat} {s:Rg×Rg} (h:V n (k+1) l s) {p:List Int} (hp:Pm n p) (hf:Fx l p):PG n l (s.1.getD l []++ [some p]):= λo ho=>by
 rcases Az.1 ho with ho|ho
 ·exact h.lvl.pg o ho
 ·rw [Ae] at ho;exact ⟨p,ho,hp,hf⟩
theorem Sound.loose {P:Program} {f:FuncId} {arg res:Ty} {pre:arg.den->Prop} {val:arg.den->res.den} (h:Sound P f (Go.Proofs.Ytkkdpknjohcekaa.Hg arg res false true pre val)):Sound P f (Go.Proofs.Ytkkdpknjohcekaa.Hg arg res false false pre val):=
 ⟨h.enter,λw S vs x y h1 h2 h3=>Calls.mono (h.calls w S vs x y h1 h2 h3) λe' w' hr=>by
  obtain ⟨v,g1,g2,g3⟩:=hr
  exact ⟨v,g1,g2,Cz.Ig (S:= λb=>S b\/(true=true/\b<w.heap.size)) g3 λk _ hk=>hk.elim .inl λhh=>absurd (show false=true from hh.1) (by simp)⟩⟩
theorem Pm.row {n:Nat} {p:List Int} (h:Pm n p):Le n p:=by
 have:=h.2.row
 rwa [h.1] at this
def PmL (n:Nat) (Ahd:List PO):Prop:= ∀o∈Ahd,∃g,o=some g/\Pm n g
theorem NI {p:PP} (hv:Valid p):(1<=p.1/\p.1<=20)/\List.length p.2.2.1<=4294967296/\ ∀g∈p.2.2.1,Pm p.1.toNat g:=
 ⟨hv.n,by have:=hv.oM;omega,λg hg=>⟨by have:=hv.len g hg;omega,Rd (hv.perm g hg)⟩⟩
theorem QV {n:Nat} {g:List (List Int)} (h: ∀x∈g,Pm n x):PmL n (g.map some):= λo ho=>by
 obtain ⟨x,hx,rfl⟩:=Bo.1 ho
 exact ⟨x,rfl,h x hx⟩
theorem lz {α:Type} [DecidableEq α]: ∀ {l1 l2:List α},l1.Nodup->(∀x∈l1,x∈l2)->l1.length<=l2.length
 | [],_,_,_=>Ni _
 |a::l,l2,hn,hs=>by
  obtain ⟨h1,h2⟩:=Cf.1 hn
  have ha:=hs a (by simp)
  have:=lz (l1:=l) (l2:=l2.erase a) h2 λy hy=>by
   have hya:y≠a:= λe'=>h1 (by rw [<-e'];exact hy)
   exact (List.mem_erase_of_ne hya).2 (hs y (by simp [hy]))
  rw [Vu ha] at this
  have:=List.length_pos_of_mem ha
  simp only [Bg]
  omega
theorem mg {g:List (List Int)} (Q:List Int->Prop) {x:List Int} {d:Int} : ∀(ls:List Int) (L:List (List Int)) (D:List Int),(∀l∈ls,Q (An x (At g l)))->(∀y∈L,Q y)->
  (∀y∈(Jd g x d ls L D).1,Q y)/\(∀y∈L,y∈(Jd g x d ls L D).1)/\((Jd g x d ls L D).2.2=true-> ∀l∈ls,An x (At g l)∈(Jd g x d ls L D).1)/\
   ((Jd g x d ls L D).2.2=false->(Jd g x d ls L D).1.length=3000/\ ∃z,Q z/\z∉(Jd g x d ls L D).1)
 | [],L,D,_,h=>⟨h,λ_ h=>h,(λ_ l hl=>by cases hl),(λe=>by cases e)⟩
 |l::ls,L,D,hq,h=>by
  have m8: ∀l∈ls,Q (An x (At g l)):= λl' h'=>hq l' (Am _ h')
  simp only [Jd]
  split
  ·rename_i hm
   obtain ⟨a1,a2,a3,a4⟩:=mg Q (d:=d) ls L D m8 h
   refine ⟨a1,a2,λe l' Nt=>?_,a4⟩
   rcases Ba.1 Nt with rfl|Nt
   ·exact a2 _ hm
   ·exact a3 e l' Nt
  ·rename_i hn
   split
   ·rename_i hf
    exact ⟨h,λ_ h=>h,(λe=>by cases e),λ_=>⟨hf,_,hq l (by simp),hn⟩⟩
   ·obtain ⟨a1,a2,a3,a4⟩:=mg Q (d:=d) ls (L++ [An x (At g l)]) (D++ [d+1]) m8 λy hy=>by
     rcases Az.1 hy with hy|hy
     ·exact h y hy
     ·rw [Ae.1 hy];exact hq l (by simp)
    refine ⟨a1,λy hy=>a2 y (Bn _ hy),λe l' Nt=>?_,a4⟩
    rcases Ba.1 Nt with rfl|Nt
    ·exact a2 _ (Bx _ (by simp))
    ·exact a3 e l' Nt
theorem td {p:PP} (hV:Valid p) {m:Nat} {ls:List Int} (hl: ∀l∈ls,Fb (List.length p.2.2.1) l) (Q:List Int->Prop) (hQ: ∀x,Q x-> ∀l∈ls,Q (An x (At p.2.2.1 l))):
  ∀(f k:Nat) (L:List (List Int)) (D:List Int),3001<=f+k->k<=L.length->Yw p m L D->(∀y∈L,Q y)->(∀(j:Nat) (h:j<L.length),j<k-> ∀l∈ls,An L[j] (At p.2.2.1 l)∈L)->
  (∀y∈(Nq p.2.2.1 ls f k L D).1,Q y)/\((Nq p.2.2.1 ls f k L D).2.2=true-> ∀x∈(Nq p.2.2.1 ls f k L D).1,∀l∈ls,An x (At p.2.2.1 l)∈(Nq p.2.2.1 ls f k L D).1)/\
   ((Nq p.2.2.1 ls f k L D).2.2=false->(Nq p.2.2.1 ls f k L D).1.length=3000/\ ∃z,Q z/\z∉(Nq p.2.2.1 ls f k L D).1)
 |0,k,L,D,hf,hkL,hb,hq,hc=>by
  have:=hb.ok.oM
  omega
 |f+1,k,L,D,hf,hkL,hb,hq,hc=>by
  simp only [Nq]
  split
  ·rename_i hk
   have UL:k<D.length:=by rw [hb.len];exact hk
   have hd:=hb.dep k UL
   have e:D.getD k 0=D[k]:=by rw [Al,Ac UL];rfl
   rw [Xw hk,e]
   obtain ⟨k1,⟨A,k2⟩,_⟩:=kA hV (hb.row _ (Ak hk)) (hb.ok.len _ (Ak hk)) (d:=D[k]) ls L D hl hb ⟨by omega,by omega⟩
   obtain ⟨a1,a2,a3,a4⟩:=mg (g:=p.2.2.1) Q (x:=L[k]) (d:=D[k]) ls L D (hQ _ (hq _ (Ak hk))) hq
   split
   ·rename_i L' D' he
    rw [he] at k1 k2 a1 a2 a3 a4
    have k2:L'=L++A:=k2
    refine td hV hl Q hQ f (k+1) L' D' (by omega) (by rw [k2,Ay];omega) k1 a1 λj hj hjk l Nt=>?_
    by_cases e':j<k
    ·have e2:L'[j]=L[j]:=by simp only [k2];rw [eX (by omega)]
     rw [e2];exact a2 _ (hc j (by omega) e' l Nt)
    ·have:j=k:=by omega
     subst this
     have e2:L'[j]=L[j]:=by simp only [k2];rw [eX (by omega)]
     rw [e2];exact a3 rfl l Nt
   ·rename_i L' D' he
    rw [he] at a1 a4
    exact ⟨a1,(λe=>by cases e),λ_=>a4 rfl⟩
  ·rename_i hk
   refine ⟨hq,λ_ x hx l Nt=>?_,λe=>by cases e⟩
   obtain ⟨j,hj,rfl⟩:=Bd.1 hx
   have hj:j<L.length:=hj
   exact hc j hj (by omega) l Nt
theorem TO {p:PP} (hv:Bc p=true) {s:List Int} (hs:s.length<=20) (hr: ∀y∈s,0<=y/\y<p.1) (Q:List Int->Prop) (hQs:Q s) (hQ: ∀x,Q x-> ∀l∈Bk p.2.2.1.length,Q (An x (At p.2.2.1 l))):
  (∀y∈(Ls p.2.2.1 s).1,Q y)/\((Ls p.2.2.1 s).2.2=true-> ∀x∈(Ls p.2.2.1 s).1,∀l∈Bk p.2.2.1.length,An x (At p.2.2.1 l)∈(Ls p.2.2.1 s).1)/\
   ((Ls p.2.2.1 s).2.2=false->(Ls p.2.2.1 s).1.length=3000/\ ∃z,Q z/\z∉(Ls p.2.2.1 s).1):=
 td (valid hv) (λ_ hl=>Fk hl) Q hQ 3001 0 [s] [0] (by omega) (Ni _) (mh hs hr) (λy hy=>by rw [Ae.1 hy];exact hQs) λj _ hj=>absurd hj (Jw _)
theorem lM {g:List (List Int)} {x:List Int} :some x∈g.map some↔x∈g:=by simp
theorem CZ {n:Nat} {g:List (List Int)} {x:List Int} (h:Gn n (g.map some) x) {l:Int} (hl:l∈Bk g.length):Gn n (g.map some) (An x (At g l)):=by
 obtain ⟨k,hk,rfl|rfl⟩:=Lm (Fk hl)
 ·rw [Il hk];exact .mul h (lM.2 (Ak hk))
 ·rw [Jz hk];exact .inv h (lM.2 (Ak hk))
theorem Kq {n k:Nat} (hk:k<n):(k:Int)+1∈Bk n/\ -((k:Int)+1)∈Bk n:=by
 unfold Bk
 exact ⟨Kh.2 ⟨k,Io.2 hk,by simp⟩,Kh.2 ⟨k,Io.2 hk,by simp⟩⟩
theorem CC {n:Nat} {g:List (List Int)} {L:List (List Int)} (h0:upto n∈L) (hc: ∀x∈L,∀l∈Bk g.length,An x (At g l)∈L) {p:List Int} (hp:Gn n (g.map some) p):p∈L:=by
 induction hp with
 |id=>exact h0
 |mul _ hg ih=>
  obtain ⟨k,hk,rfl⟩:=Bd.1 (lM.1 hg)
  have:=hc _ ih _ (Kq hk).1
  rwa [Il hk] at this
 |inv _ hg ih=>
  obtain ⟨k,hk,rfl⟩:=Bd.1 (lM.1 hg)
  have:=hc _ ih _ (Kq hk).2
  rwa [Jz hk] at this
structure Reach (p:PP) (L:List (List Int)) (D:List Int) (whole:Bool):Prop where
 ok:Yw p p.1.toNat L D
 nodup:L.Nodup
 first: ∃A,L=upto p.1.toNat::A
 gen: ∀x∈L,Gn p.1.toNat (p.2.2.1.map some) x
 all:whole=true-> ∀x,Gn p.1.toNat (p.2.2.1.map some) x->x∈L
 big:whole=false->L.length=3000/\ ∃z,Gn p.1.toNat (p.2.2.1.map some) z/\z∉L
theorem Fg.nodup {m:Nat} {L:List (List Int)} {Lc:List Int} (h:Fg m L Lc):L.Nodup:=
 Dc.2 λi j hi hj dm e=>by have:=h.inj hi hj e;omega
theorem lE {p:PP} (hv:Bc p=true):Reach p (Ls p.2.2.1 (upto p.1.toNat)).1 (Ls p.2.2.1 (upto p.1.toNat)).2.1 (Ls p.2.2.1 (upto p.1.toNat)).2.2:=by
 have hV:=valid hv
 have hn:=hV.n
 have hl:(upto p.1.toNat).length=p.1.toNat:=Jj _
 have hr: ∀y∈upto p.1.toNat,0<=y/\y<p.1:= λy hy=>by have:=Nb.1 hy;omega
 obtain ⟨b1,b2⟩:=NF hv (by omega) hr
 rw [hl] at b1
 obtain ⟨a1,a2,a3⟩:=TO hv (by omega) hr (λx=>Gn p.1.toNat (p.2.2.1.map some) x) .id λx hx l hl=>CZ hx hl
 exact ⟨b1,b1.ok.nodup,b2,a1,λhw x hx=>CC (by obtain ⟨A,e⟩:=b2;rw [e];simp) (a2 hw) hx,a3⟩
noncomputable def Hk (p:PP):Bool:=Bc p&&(Ls p.2.2.1 (upto p.1.toNat)).2.2
theorem Jl {α:Type} {xs ys:List α} {i:Nat} {d:α} (h:i<xs.length):(xs++ys).getD i d=xs.getD i d:=by
 rw [Al,Al,Aq h]
theorem gT {α:Type} {xs:List α} {x d:α} :(xs++ [x]).getD xs.length d=x:=by
 rw [Al,Ao (Ar _),Nat.sub_self];rfl
theorem Nv {α:Type} {xs:List α} {i:Nat} {d:α} (h:i<xs.length):xs.getD i d=xs[i]:=by
 rw [Al,Ac h];rfl
structure Lv (g:List (List Int)) (ls:List Int) (k:Nat) (L:List (List Int)) (D:List Int):Prop where
 len:D.length=L.length
 pos:0<L.length
 mono: ∀i j,i<=j->j<L.length->D.getD i 0<=D.getD j 0
 JQ:k<L.length-> ∀j,j<L.length->D.getD j 0<=D.getD k 0+1
 par: ∀j,0<j->j<L.length-> ∃i l,i<j/\l∈ls/\L.getD j []=An (L.getD i []) (At g l)/\D.getD j 0=D.getD i 0+1
 zero:D.getD 0 0=0
theorem Lv.add {g:List (List Int)} {ls:List Int} {k:Nat} {L:List (List Int)} {D:List Int} (h:Lv g ls k L D) (hk:k<L.length) {l:Int} (hl:l∈ls):
  Lv g ls k (L++ [An (L.getD k []) (At g l)]) (D++ [D.getD k 0+1]):=by
 have hlen:=h.len
 have hD: ∀i,i<L.length->(D++ [D.getD k 0+1]).getD i 0=D.getD i 0:= λi hi=>Jl (by omega)
 have WL:(D++ [D.getD k 0+1]).getD L.length 0=D.getD k 0+1:=by rw [<-hlen];exact gT
 refine ⟨by simp [hlen],by simp,λi j dm hj=>?_,λ_ j hj=>?_,λj h0 hj=>?_,?_⟩
 ·rw [Ay,Ck] at hj
  by_cases e:j=L.length
  ·subst e
   rw [WL]
   by_cases e':i=L.length
   ·subst e';rw [WL];exact bY _
   ·rw [hD i (by omega)]
    exact h.JQ hk i (by omega)
  ·rw [hD i (by omega),hD j (by omega)]
   exact h.mono i j dm (by omega)
 ·rw [Ay,Ck] at hj
  rw [hD k hk]
  by_cases e:j=L.length
  ·subst e;rw [WL];exact bY _
  ·rw [hD j (by omega)];exact h.JQ hk j (by omega)
 ·rw [Ay,Ck] at hj
  by_cases e:j=L.length
  ·subst e
   exact ⟨k,l,hk,hl,by rw [gT,Jl hk],by rw [WL,hD k hk]⟩
  ·obtain ⟨i,l',h1,h2,h3,h4⟩:=h.par j h0 (by omega)
   exact ⟨i,l',h1,h2,by rw [Jl (by omega),Jl (by omega)];exact h3,by rw [hD j (by omega),hD i (by omega)];exact h4⟩
 ·rw [hD 0 h.pos];exact h.zero
theorem pz {g:List (List Int)} {ls:List Int} {k:Nat} : ∀(HD:List Int) (L:List (List Int)) (D:List Int),(∀l∈HD,l∈ls)->Lv g ls k L D->k<L.length-> ∀ {x:List Int} {d:Int},x=L.getD k []->d=D.getD k 0->
  Lv g ls k (Jd g x d HD L D).1 (Jd g x d HD L D).2.1/\(∃A,(Jd g x d HD L D).1=L++A)/\(∃A,(Jd g x d HD L D).2.1=D++A)/\
  ((Jd g x d HD L D).2.2=true-> ∀l∈HD,∃j,j<(Jd g x d HD L D).1.length/\(Jd g x d HD L D).1.getD j []=An x (At g l)/\(Jd g x d HD L D).2.1.getD j 0<=d+1)
 | [],L,D,_,h,_,x,d,_,_=>⟨h,⟨[],by simp [Jd]⟩,⟨[],by simp [Jd]⟩,λ_ l hl=>by cases hl⟩
 |l::HD,L,D,hs,h,hk,x,d,hx,hd=>by
  have OW: ∀l∈HD,l∈ls:= λl' h'=>hs l' (Am _ h')
  have hlen:=h.len
  simp only [Jd]
  split
  ·rename_i hm
   obtain ⟨a1,⟨A,a2⟩,⟨A',a3⟩,a4⟩:=pz HD L D OW h hk hx hd
   refine ⟨a1,⟨A,a2⟩,⟨A',a3⟩,λe l' Nt=>?_⟩
   rcases Ba.1 Nt with rfl|Nt
   ·obtain ⟨j,hj,hjx⟩:=Bd.1 hm
    refine ⟨j,by rw [a2,Ay];omega,by rw [a2,Jl hj,Nv hj];exact hjx,?_⟩
    rw [a3,Jl (by omega),hd]
    exact h.JQ hk j hj
   ·exact a4 e l' Nt
  ·split
   ·exact ⟨h,⟨[],by simp⟩,⟨[],by simp⟩,λe=>by cases e⟩
   ·have Acn:=h.add hk (hs l (by simp))
    rw [<-hx,<-hd] at Acn
    obtain ⟨a1,⟨A,a2⟩,⟨A',a3⟩,a4⟩:=pz HD (L++ [An x (At g l)]) (D++ [d+1]) OW Acn (by rw [Ay];omega) (x:=x) (d:=d) (by rw [Jl hk];exact hx) (by rw [Jl (by omega)];exact hd)
    refine ⟨a1,⟨_::A,by rw [a2,Ct];rfl⟩,⟨_::A',by rw [a3,Ct];rfl⟩,λe l' Nt=>?_⟩
    rcases Ba.1 Nt with rfl|Nt
    ·refine ⟨L.length,by rw [a2,Ay,Ay];simp only [Ck];omega,?_,?_⟩
     ·rw [a2,Jl (by simp),gT]
     ·rw [a3,Jl (by simp [hlen]),<-hlen,gT]
      exact bY _
    ·exact a4 e l' Nt
structure p8 (g:List (List Int)) (ls:List Int) (L:List (List Int)) (D:List Int):Prop where
 len:D.length=L.length
 pos:0<L.length
 zero:D.getD 0 0=0
 par: ∀j,0<j->j<L.length-> ∃i l,i<j/\l∈ls/\L.getD j []=An (L.getD i []) (At g l)/\D.getD j 0=D.getD i 0+1
 step: ∀i,i<L.length-> ∀l∈ls,∃j,j<L.length/\L.getD j []=An (L.getD i []) (At g l)/\D.getD j 0<=D.getD i 0+1
theorem xX {g:List (List Int)} {ls:List Int} : ∀(f k:Nat) (L:List (List Int)) (D:List Int),3001<=f+k->Lv g ls k L D->k<=L.length->
  (∀i,i<k-> ∀l∈ls,∃j,j<L.length/\L.getD j []=An (L.getD i []) (At g l)/\D.getD j 0<=D.getD i 0+1)->
  (Nq g ls f k L D).2.2=true->(Nq g ls f k L D).1.length<=3000->p8 g ls (Nq g ls f k L D).1 (Nq g ls f k L D).2.1
 |0,k,L,D,hf,h,hkL,hc,hw,h3=>by
  simp only [Nq] at h3⊢
  omega
 |f+1,k,L,D,hf,h,hkL,hc,hw,h3=>by
  simp only [Nq] at hw h3⊢
  split
  ·rename_i hk
   rw [Ab hk] at hw h3
   obtain ⟨a1,⟨A,a2⟩,⟨A',a3⟩,a4⟩:=pz (x:=L.getD k []) (d:=D.getD k 0) ls L D (λ_ h=>h) h hk rfl rfl
   have hlen:=h.len
   split
   ·rename_i L' D' he
    rw [he] at a1 a2 a3 a4
    simp only [he] at hw h3
    have a2:L'=L++A:=a2
    have a3:D'=D++A':=a3
    have a4:=a4 rfl
    dsimp only at a4
    have hLl:L.length<=L'.length:=by rw [a2,Ay];omega
    refine xX f (k+1) L' D' (by omega) ⟨a1.len,a1.pos,a1.mono,λhk1 j hj=>?_,a1.par,a1.zero⟩ (by omega) (λi hi l hl=>?_) hw h3
    ·have h1:D'.getD j 0<=D'.getD k 0+1:=a1.JQ (show k<L'.length by omega) j hj
     have h2:D'.getD k 0<=D'.getD (k+1) 0:=a1.mono k (k+1) (by omega) hk1
     omega
    ·by_cases e:i=k
     ·subst e
      obtain ⟨j,b1,b2,b3⟩:=a4 l hl
      refine ⟨j,b1,?_,?_⟩
      ·rw [b2,a2,Jl (by omega)]
      ·rw [show D'.getD i 0=D.getD i 0 by rw [a3,Jl (by omega)]];exact b3
     ·obtain ⟨j,b1,b2,b3⟩:=hc i (by omega) l hl
      refine ⟨j,by omega,?_,?_⟩
      ·rw [a2,Jl (by omega),Jl (by omega)];exact b2
      ·rw [a3,Jl (by omega),Jl (by omega)];exact b3
   ·rename_i L' D' he
    simp only [he] at hw
    cases hw
  ·rename_i hk
   exact ⟨h.len,h.pos,h.zero,h.par,λi hi=>hc i (by have hi:i<L.length:=hi;omega)⟩
theorem pA {p:PP} {s:List Int} (hv:Bc p=true) (hs:s.length<=20) (hr: ∀y∈s,0<=y/\y<p.1) (hw:(Ls p.2.2.1 s).2.2=true):
  p8 p.2.2.1 (Bk p.2.2.1.length) (Ls p.2.2.1 s).1 (Ls p.2.2.1 s).2.1:=by
 have hb:=(NF hv hs hr).1.ok.oM
 refine xX 3001 0 [s] [0] (by omega) ⟨rfl,by simp,λi j dm hj=>?_,λ_ j hj=>?_,λj h0 hj=>?_,rfl⟩ (Ni _) (λi hi=>absurd hi (Jw _)) hw hb
 ·have:j=0:=by simpa using hj
  subst this
  have:i=0:=by omega
  subst this
  exact bY _
 ·have:j=0:=by simpa using hj
  subst this
  simp
 ·have:j=0:=by simpa using hj
  omega
theorem nM {p:PP} (hV:Valid p) {x:List Int} (hx: ∀y∈x,0<=y/\y<p.1) {l:Int} (hl:l∈Bk p.2.2.1.length):
  -l∈Bk p.2.2.1.length/\An (An x (At p.2.2.1 l)) (At p.2.2.1 (-l))=x:=by
 obtain ⟨k,hk,Rl⟩:=Lm (Fk hl)
 have hg:=Rd (hV.perm _ (Ak hk))
 have hgl:=hV.len _ (Ak hk)
 have hn:=hV.n
 have hp:Pm p.1.toNat (p.2.2.1[k]):=⟨by omega,hg⟩
 have key: ∀q r:List Int,Pm p.1.toNat q->Pm p.1.toNat r->An q r=upto p.1.toNat->An (An x q) r=x:= λq r hq hr he=>by
  refine List.ext_getElem (by rw [Kn,Kn]) λi h1 h2=>?_
  have hxi:=hx _ (Ak h2)
  obtain ⟨xi,hxe⟩:=Xh hxi.1
  have hxn:xi<p.1.toNat:=by omega
  have e1:ap (An q r) xi=ap (upto p.1.toNat) xi:=Jt (λz=>ap z xi) he
  rw [Us hq hr hxn,xQ hxn] at e1
  simp only [An,List.getElem_map,hxe]
  have h3:=(hq.Zg hxn).1
  have h4:=(hr.Zg (hq.lt hxn)).1
  rw [h3,h4,e1]
 rcases Rl with rfl|rfl
 ·refine ⟨(Kq hk).2,?_⟩
  rw [Il hk,Jz hk]
  exact key _ _ hp hp.inv (c9 hp)
 ·refine ⟨by rw [Int.neg_neg];exact (Kq hk).1,?_⟩
  rw [Int.neg_neg,Il hk,Jz hk]
  exact key _ _ hp.inv hp (l8 hp)
structure Ur (g:List (List Int)) (ls:List Int) (L:List (List Int)) (S:List Int->Prop) (d:List Int->Int):Prop where
 nn: ∀x∈L,0<=d x
 zero: ∀x∈L,d x=0↔S x
 step: ∀x∈L,∀l∈ls,d (An x (At g l))<=d x+1
 down: ∀x∈L,0<d x-> ∃l∈ls,d (An x (At g l))=d x-1
structure mc (g:List (List Int)) (ls:List Int) (L:List (List Int)):Prop where
 next: ∀x∈L,∀l∈ls,An x (At g l)∈L
 back: ∀x∈L,∀l∈ls,-l∈ls/\An (An x (At g l)) (At g (-l))=x
theorem Ur.le {g:List (List Int)} {ls:List Int} {L:List (List Int)} {S:List Int->Prop} {d d':List Int->Int} (hc:mc g ls L) (h:Ur g ls L S d) (h':Ur g ls L S d'):
  ∀(n:Nat) (x:List Int),x∈L->d' x=n->d x<=n
 |0,x,hx,e=>by
  have:=(h.zero x hx).2 ((h'.zero x hx).1 e)
  omega
 |n+1,x,hx,e=>by
  obtain ⟨l,hl,hd⟩:=h'.down x hx (by omega)
  obtain ⟨b1,b2⟩:=hc.back x hx l hl
  have h1:=Ur.le hc h h' n _ (hc.next x hx l hl) (by omega)
  have h2:=h.step _ (hc.next x hx l hl) _ b1
  rw [b2] at h2
  omega
theorem Ur.eq {g:List (List Int)} {ls:List Int} {L:List (List Int)} {S:List Int->Prop} {d d':List Int->Int} (hc:mc g ls L) (h:Ur g ls L S d) (h':Ur g ls L S d') {x:List Int} (hx:x∈L):d x=d' x:=by
 have n1:=h.nn x hx
 have n2:=h'.nn x hx
 have h1:=Ur.le hc h h' (d' x).toNat x hx (by omega)
 have h2:=Ur.le hc h' h (d x).toNat x hx (by omega)
 omega
theorem Ur.JQ {g:List (List Int)} {ls:List Int} {L:List (List Int)} {S:List Int->Prop} {d:List Int->Int} (hc:mc g ls L) (h:Ur g ls L S d) {x:List Int} (hx:x∈L) {l:Int} (hl:l∈ls):
  d x-1<=d (An x (At g l)):=by
 obtain ⟨b1,b2⟩:=hc.back x hx l hl
 have h2:=h.step _ (hc.next x hx l hl) _ b1
 rw [b2] at h2
 omega
def Hj (L:List (List Int)) (D:List Int) (x:List Int):Int:=if x∈L then D.getD (L.idxOf x) 0 else-1
theorem jJ {L:List (List Int)} (hn:L.Nodup) {j:Nat} (hj:j<L.length):L.idxOf (L.getD j [])=j:=by
 rw [Nv hj]
 exact hn.idxOf_getElem j hj
theorem cn {L:List (List Int)} {j:Nat} (hj:j<L.length):L.getD j []∈L:=by rw [Nv hj];exact Ak hj
theorem jC {L:List (List Int)} {D:List Int} (hn:L.Nodup) {j:Nat} (hj:j<L.length):Hj L D (L.getD j [])=D.getD j 0:=by
 unfold Hj
 rw [Ab (cn hj),jJ hn hj]
theorem sa {p:PP} (hV:Valid p) {m:Nat} {L:List (List Int)} {D:List Int} (hb:Yw p m L D) (h:p8 p.2.2.1 (Bk p.2.2.1.length) L D):mc p.2.2.1 (Bk p.2.2.1.length) L where
 next x hx l hl:=by
  obtain ⟨i,hi,rfl⟩:=Bd.1 hx
  obtain ⟨j,h1,h2,_⟩:=h.step i hi l hl
  rw [Nv hi] at h2
  rw [<-h2]
  exact cn h1
 back x hx l hl:=nM hV (hb.row x hx) hl
theorem yT {p:PP} (hV:Valid p) {m:Nat} {L:List (List Int)} {D:List Int} (hb:Yw p m L D) (h:p8 p.2.2.1 (Bk p.2.2.1.length) L D):
  Ur p.2.2.1 (Bk p.2.2.1.length) L (λx=>x=L.getD 0 []) (Hj L D) where
 nn x hx:=by
  obtain ⟨i,hi,rfl⟩:=Bd.1 hx
  rw [<-Nv (d:= []) hi,jC hb.ok.nodup hi]
  have:=hb.dep i (by rw [hb.len];exact hi)
  rw [Nv (by rw [hb.len];exact hi)]
  omega
 zero x hx:=by
  obtain ⟨i,hi,rfl⟩:=Bd.1 hx
  rw [<-Nv (d:= []) hi,jC hb.ok.nodup hi]
  constructor
  ·intro h0
   by_cases e:i=0
   ·rw [e]
   ·obtain ⟨k,l,h1,_,_,h4⟩:=h.par i (by omega) hi
    have hk:k<D.length:=by rw [hb.len];omega
    have:=hb.dep k hk
    rw [<-Nv (d:=0) hk] at this
    omega
  ·intro e
   have:i=0:=by
    have h1:=jJ hb.ok.nodup hi
    have h2:=jJ hb.ok.nodup h.pos
    rw [e,h2] at h1
    exact h1.symm
   rw [this]
   exact h.zero
 step x hx l hl:=by
  obtain ⟨i,hi,rfl⟩:=Bd.1 hx
  rw [<-Nv (d:= []) hi,jC hb.ok.nodup hi]
  obtain ⟨j,h1,h2,h3⟩:=h.step i hi l hl
  rw [<-h2,jC hb.ok.nodup h1]
  exact h3
 down x hx h0:=by
  obtain ⟨i,hi,rfl⟩:=Bd.1 hx
  rw [<-Nv (d:= []) hi,jC hb.ok.nodup hi] at h0⊢
  have hi0:0<i:=by
   rcases Sk i with e|e
   ·subst e;rw [h.zero] at h0;omega
   ·exact e
  obtain ⟨k,l,h1,h2,h3,h4⟩:=h.par i hi0 hi
  have hk:k<L.length:=by omega
  obtain ⟨b1,b2⟩:=nM hV (hb.row _ (cn hk)) h2
  refine ⟨-l,b1,?_⟩
  rw [h3,b2,jC hb.ok.nodup hk]
  omega
noncomputable def Av (p:PP):List (List Int):=(Ls p.2.2.1 (upto p.1.toNat)).1
noncomputable def De (p:PP):List Int:=(Ls p.2.2.1 (upto p.1.toNat)).2.1
noncomputable def Tf (p:PP) (s:List Int):Bool:=Hk p&&decide (s∈Av p)
noncomputable def Dj (p:PP):SS×Bool×Unit:=if Bc p=true then (Es p.2.2.1 (upto p.1.toNat),Hk p,()) else (([],[],[],false,()),false,())
noncomputable abbrev Xb:Spec:=Hg (.pair Ij .unit) (.pair bF (.pair .bool .unit)) true false (λx=>Gq x.1) (λx=>Dj x.1)
abbrev Ed:Type:=List (List Int)×List Int×List Int×Bool×PUnit
theorem FQ (p:Int×ByteArray×List (List Int)×Unit) (P:((List (List Int)×List Int×List Int×Bool×Unit)×Bool×Unit)->Prop):(∃(y2:Bool),Ic.fn ((p.1,p.2.1,p.2.2.1,()),())=some y2/\Br (!y2) (P ((List.take 0 (List.drop 0 []),List.take 0 (List.drop 0 []),List.take 0 (List.drop 0 []),false,()),false,())) (((((∃(y3:List Int),Cv.fn (p.1,())=some y3/\(∃(y4:Ed),Gt.fn ((p.1,p.2.1,p.2.2.1,()),y3,())=some y4/\((P ((y4.1,y4.2.1,y4.2.2.1,y4.2.2.2.1,()),y4.2.2.2.1,())/\P ((y4.1,y4.2.1,y4.2.2.1,y4.2.2.2.1,()),y4.2.2.2.1,()))/\P ((y4.1,y4.2.1,y4.2.2.1,y4.2.2.2.1,()),y4.2.2.2.1,()))/\(P ((y4.1,y4.2.1,y4.2.2.1,y4.2.2.2.1,()),y4.2.2.2.1,())/\P ((y4.1,y4.2.1,y4.2.2.1,y4.2.2.2.1,()),y4.2.2.2.1,()))/\P ((y4.1,y4.2.1,y4.2.2.1,y4.2.2.2.1,()),y4.2.2.2.1,()))/\ ∃(y4:Ed),Gt.fn ((p.1,p.2.1,p.2.2.1,()),y3,())=some y4/\((P ((y4.1,y4.2.1,y4.2.2.1,y4.2.2.2.1,()),y4.2.2.2.1,())/\P ((y4.1,y4.2.1,y4.2.2.1,y4.2.2.2.1,()),y4.2.2.2.1,()))/\P ((y4.1,y4.2.1,y4.2.2.1,y4.2.2.2.1,()),y4.2.2.2.1,()))/\(P ((y4.1,y4.2.1,y4.2.2.1,y4.2.2.2.1,()),y4.2.2.2.1,())/\P ((y4.1,y4.2.1,y4.2.2.1,y4.2.2.2.1,()),y4.2.2.2.1,()))/\P ((y4.1,y4.2.1,y4.2.2.1,y4.2.2.2.1,()),y4.2.2.2.1,()))/\ ∃(y3:List Int),Cv.fn (p.1,())=some y3/\ ∃(y4:Ed),Gt.fn ((p.1,p.2.1,p.2.2.1,()),y3,())=some y4/\((P ((y4.1,y4.2.1,y4.2.2.1,y4.2.2.2.1,()),y4.2.2.2.1,())/\P ((y4.1,y4.2.1,y4.2.2.1,y4.2.2.2.1,()),y4.2.2.2.1,()))/\P ((y4.1,y4.2.1,y4.2.2.1,y4.2.2.2.1,()),y4.2.2.2.1,()))/\(P ((y4.1,y4.2.1,y4.2.2.1,y4.2.2.2.1,()),y4.2.2.2.1,())/\P ((y4.1,y4.2.1,y4.2.2.1,y4.2.2.2.1,()),y4.2.2.2.1,()))/\P ((y4.1,y4.2.1,y4.2.2.1,y4.2.2.2.1,()),y4.2.2.2.1,()))/\ ∃(y3:List Int),Cv.fn (p.1,())=some y3/\ ∃(y4:Ed),Gt.fn ((p.1,p.2.1,p.2.2.1,()),y3,())=some y4/\((P ((y4.1,y4.2.1,y4.2.2.1,y4.2.2.2.1,()),y4.2.2.2.1,())/\P ((y4.1,y4.2.1,y4.2.2.1,y4.2.2.2.1,()),y4.2.2.2.1,()))/\P ((y4.1,y4.2.1,y4.2.2.1,y4.2.2.2.1,()),y4.2.2.2.1,()))/\(P ((y4.1,y4.2.1,y4.2.2.1,y4.2.2.2.1,()),y4.2.2.2.1,())/\P ((y4.1,y4.2.1,y4.2.2.1,y4.2.2.2.1,()),y4.2.2.2.1,()))/\P ((y4.1,y4.2.1,y4.2.2.1,y4.2.2.2.1,()),y4.2.2.2.1,()))/\ ∃(y3:List Int),Cv.fn (p.1,())=some y3/\ ∃(y4:Ed),Gt.fn ((p.1,p.2.1,p.2.2.1,()),y3,())=some y4/\((P ((y4.1,y4.2.1,y4.2.2.1,y4.2.2.2.1,()),y4.2.2.2.1,())/\P ((y4.1,y4.2.1,y4.2.2.1,y4.2.2.2.1,()),y4.2.2.2.1,()))/\P ((y4.1,y4.2.1,y4.2.2.1,y4.2.2.2.1,()),y4.2.2.2.1,()))/\(P ((y4.1,y4.2.1,y4.2.2.1,y4.2.2.2.1,()),y4.2.2.2.1,())/\P ((y4.1,y4.2.1,y4.2.2.1,y4.2.2.2.1,()),y4.2.2.2.1,()))/\P ((y4.1,y4.2.1,y4.2.2.1,y4.2.2.2.1,()),y4.2.2.2.1,()))/\((((∃(y3:List Int),Cv.fn (p.1,())=some y3/\(∃(y4:Ed),Gt.fn ((p.1,p.2.1,p.2.2.1,()),y3,())=some y4/\((P ((y4.1,y4.2.1,y4.2.2.1,y4.2.2.2.1,()),y4.2.2.2.1,())/\P ((y4.1,y4.2.1,y4.2.2.1,y4.2.2.2.1,()),y4.2.2.2.1,()))/\P ((y4.1,y4.2.1,y4.2.2.1,y4.2.2.2.1,()),y4.2.2.2.1,()))/\(P ((y4.1,y4.2.1,y4.2.2.1,y4.2.2.2.1,()),y4.2.2.2.1,())/\P ((y4.1,y4.2.1,y4.2.2.1,y4.2.2.2.1,()),y4.2.2.2.1,()))/\P ((y4.1,y4.2.1,y4.2.2.1,y4.2.2.2.1,()),y4.2.2.2.1,()))/\ ∃(y4:Ed),Gt.fn ((p.1,p.2.1,p.2.2.1,()),y3,())=some y4/\((P ((y4.1,y4.2.1,y4.2.2.1,y4.2.2.2.1,()),y4.2.2.2.1,())/\P ((y4.1,y4.2.1,y4.2.2.1,y4.2.2.2.1,()),y4.2.2.2.1,()))/\P ((y4.1,y4.2.1,y4.2.2.1,y4.2.2.2.1,()),y4.2.2.2.1,()))/\(P ((y4.1,y4.2.1,y4.2.2.1,y4.2.2.2.1,()),y4.2.2.2.1,())/\P ((y4.1,y4.2.1,y4.2.2.1,y4.2.2.2.1,()),y4.2.2.2.1,()))/\P ((y4.1,y4.2.1,y4.2.2.1,y4.2.2.2.1,()),y4.2.2.2.1,()))/\ ∃(y3:List Int),Cv.fn (p.1,())=some y3/\ ∃(y4:Ed),Gt.fn ((p.1,p.2.1,p.2.2.1,()),y3,())=some y4/\((P ((y4.1,y4.2.1,y4.2.2.1,y4.2.2.2.1,()),y4.2.2.2.1,())/\P ((y4.1,y4.2.1,y4.2.2.1,y4.2.2.2.1,()),y4.2.2.2.1,()))/\P ((y4.1,y4.2.1,y4.2.2.1,y4.2.2.2.1,()),y4.2.2.2.1,()))/\(P ((y4.1,y4.2.1,y4.2.2.1,y4.2.2.2.1,()),y4.2.2.2.1,())/\P ((y4.1,y4.2.1,y4.2.2.1,y4.2.2.2.1,()),y4.2.2.2.1,()))/\P ((y4.1,y4.2.1,y4.2.2.1,y4.2.2.2.1,()),y4.2.2.2.1,()))/\ ∃(y3:List Int),Cv.fn (p.1,())=some y3/\ ∃(y4:Ed),Gt.fn ((p.1,p.2.1,p.2.2.1,()),y3,())=some y4/\((P ((y4.1,y4.2.1,y4.2.2.1,y4.2.2.2.1,()),y4.2.2.2.1,())/\P ((y4.1,y4.2.1,y4.2.2.1,y4.2.2.2.1,()),y4.2.2.2.1,()))/\P ((y4.1,y4.2.1,y4.2.2.1,y4.2.2.2.1,()),y4.2.2.2.1,()))/\(P ((y4.1,y4.2.1,y4.2.2.1,y4.2.2.2.1,()),y4.2.2.2.1,())/\P ((y4.1,y4.2.1,y4.2.2.1,y4.2.2.2.1,()),y4.2.2.2.1,()))/\P ((y4.1,y4.2.1,y4.2.2.1,y4.2.2.2.1,()),y4.2.2.2.1,()))/\(((∃(y3:List Int),Cv.fn (p.1,())=some y3/\(∃(y4:Ed),Gt.fn ((p.1,p.2.1,p.2.2.1,()),y3,())=some y4/\((P ((y4.1,y4.2.1,y4.2.2.1,y4.2.2.2.1,()),y4.2.2.2.1,())/\P ((y4.1,y4.2.1,y4.2.2.1,y4.2.2.2.1,()),y4.2.2.2.1,()))/\P ((y4.1,y4.2.1,y4.2.2.1,y4.2.2.2.1,()),y4.2.2.2.1,()))/\(P ((y4.1,y4.2.1,y4.2.2.1,y4.2.2.2.1,()),y4.2.2.2.1,())/\P ((y4.1,y4.2.1,y4.2.2.1,y4.2.2.2.1,()),y4.2.2.2.1,()))/\P ((y4.1,y4.2.1,y4.2.2.1,y4.2.2.2.1,()),y4.2.2.2.1,()))/\ ∃(y4:Ed),Gt.fn ((p.1,p.2.1,p.2.2.1,()),y3,())=some y4/\((P ((y4.1,y4.2.1,y4.2.2.1,y4.2.2.2.1,()),y4.2.2.2.1,())/\P ((y4.1,y4.2.1,y4.2.2.1,y4.2.2.2.1,()),y4.2.2.2.1,()))/\P ((y4.1,y4.2.1,y4.2.2.1,y4.2.2.2.1,()),y4.2.2.2.1,()))/\(P ((y4.1,y4.2.1,y4.2.2.1,y4.2.2.2.1,()),y4.2.2.2.1,())/\P ((y4.1,y4.2.1,y4.2.2.1,y4.2.2.2.1,()),y4.2.2.2.1,()))/\P ((y4.1,y4.2.1,y4.2.2.1,y4.2.2.2.1,()),y4.2.2.2.1,()))/\ ∃(y3:List Int),Cv.fn (p.1,())=some y3/\ ∃(y4:Ed),Gt.fn ((p.1,p.2.1,p.2.2.1,()),y3,())=some y4/\((P ((y4.1,y4.2.1,y4.2.2.1,y4.2.2.2.1,()),y4.2.2.2.1,())/\P ((y4.1,y4.2.1,y4.2.2.1,y4.2.2.2.1,()),y4.2.2.2.1,()))/\P ((y4.1,y4.2.1,y4.2.2.1,y4.2.2.2.1,()),y4.2.2.2.1,()))/\(P ((y4.1,y4.2.1,y4.2.2.1,y4.2.2.2.1,()),y4.2.2.2.1,())/\P ((y4.1,y4.2.1,y4.2.2.1,y4.2.2.2.1,()),y4.2.2.2.1,()))/\P ((y4.1,y4.2.1,y4.2.2.1,y4.2.2.2.1,()),y4.2.2.2.1,()))/\(∃(y3:List Int),Cv.fn (p.1,())=some y3/\((∃(y4:Ed),Gt.fn ((p.1,p.2.1,p.2.2.1,()),y3,())=some y4/\((P ((y4.1,y4.2.1,y4.2.2.1,y4.2.2.2.1,()),y4.2.2.2.1,())/\P ((y4.1,y4.2.1,y4.2.2.1,y4.2.2.2.1,()),y4.2.2.2.1,()))/\P ((y4.1,y4.2.1,y4.2.2.1,y4.2.2.2.1,()),y4.2.2.2.1,()))/\(P ((y4.1,y4.2.1,y4.2.2.1,y4.2.2.2.1,()),y4.2.2.2.1,())/\P ((y4.1,y4.2.1,y4.2.2.1,y4.2.2.2.1,()),y4.2.2.2.1,()))/\P ((y4.1,y4.2.1,y4.2.2.1,y4.2.2.2.1,()),y4.2.2.2.1,()))/\ ∃(y4:Ed),Gt.fn ((p.1,p.2.1,p.2.2.1,()),y3,())=some y4/\((P ((y4.1,y4.2.1,y4.2.2.1,y4.2.2.2.1,()),y4.2.2.2.1,())/\P ((y4.1,y4.2.1,y4.2.2.1,y4.2.2.2.1,()),y4.2.2.2.1,()))/\P ((y4.1,y4.2.1,y4.2.2.1,y4.2.2.2.1,()),y4.2.2.2.1,()))/\(P ((y4.1,y4.2.1,y4.2.2.1,y4.2.2.2.1,()),y4.2.2.2.1,())/\P ((y4.1,y4.2.1,y4.2.2.1,y4.2.2.2.1,()),y4.2.2.2.1,()))/\P ((y4.1,y4.2.1,y4.2.2.1,y4.2.2.2.1,()),y4.2.2.2.1,()))/\ ∃(y4:Ed),Gt.fn ((p.1,p.2.1,p.2.2.1,()),y3,())=some y4/\((P ((y4.1,y4.2.1,y4.2.2.1,y4.2.2.2.1,()),y4.2.2.2.1,())/\P ((y4.1,y4.2.1,y4.2.2.1,y4.2.2.2.1,()),y4.2.2.2.1,()))/\P ((y4.1,y4.2.1,y4.2.2.1,y4.2.2.2.1,()),y4.2.2.2.1,()))/\(P ((y4.1,y4.2.1,y4.2.2.1,y4.2.2.2.1,()),y4.2.2.2.1,())/\P ((y4.1,y4.2.1,y4.2.2.1,y4.2.2.2.1,()),y4.2.2.2.1,()))/\P ((y4.1,y4.2.1,y4.2.2.1,y4.2.2.2.1,()),y4.2.2.2.1,()))/\(∃(y3:List Int),Cv.fn (p.1,())=some y3/\ ∃(y4:Ed),Gt.fn ((p.1,p.2.1,p.2.2.1,()),y3,())=some y4/\((P ((y4.1,y4.2.1,y4.2.2.1,y4.2.2.2.1,()),y4.2.2.2.1,())/\P ((y4.1,y4.2.1,y4.2.2.1,y4.2.2.2.1,()),y4.2.2.2.1,()))/\P ((y4.1,y4.2.1,y4.2.2.1,y4.2.2.2.1,()),y4.2.2.2.1,()))/\(P ((y4.1,y4.2.1,y4.2.2.1,y4.2.2.2.1,()),y4.2.2.2.1,())/\P ((y4.1,y4.2.1,y4.2.2.1,y4.2.2.2.1,()),y4.2.2.2.1,()))/\P ((y4.1,y4.2.1,y4.2.2.1,y4.2.2.2.1,()),y4.2.2.2.1,()))/\ ∃(y3:List Int),Cv.fn (p.1,())=some y3/\ ∃(y4:Ed),Gt.fn ((p.1,p.2.1,p.2.2.1,()),y3,())=some y4/\((P ((y4.1,y4.2.1,y4.2.2.1,y4.2.2.2.1,()),y4.2.2.2.1,())/\P ((y4.1,y4.2.1,y4.2.2.1,y4.2.2.2.1,()),y4.2.2.2.1,()))/\P ((y4.1,y4.2.1,y4.2.2.1,y4.2.2.2.1,()),y4.2.2.2.1,()))/\(P ((y4.1,y4.2.1,y4.2.2.1,y4.2.2.2.1,()),y4.2.2.2.1,())/\P ((y4.1,y4.2.1,y4.2.2.1,y4.2.2.2.1,()),y4.2.2.2.1,()))/\P ((y4.1,y4.2.1,y4.2.2.1,y4.2.2.2.1,()),y4.2.2.2.1,()))/\(∃(y3:List Int),Cv.fn (p.1,())=some y3/\ ∃(y4:Ed),Gt.fn ((p.1,p.2.1,p.2.2.1,()),y3,())=some y4/\((P ((y4.1,y4.2.1,y4.2.2.1,y4.2.2.2.1,()),y4.2.2.2.1,())/\P ((y4.1,y4.2.1,y4.2.2.1,y4.2.2.2.1,()),y4.2.2.2.1,()))/\P ((y4.1,y4.2.1,y4.2.2.1,y4.2.2.2.1,()),y4.2.2.2.1,()))/\(P ((y4.1,y4.2.1,y4.2.2.1,y4.2.2.2.1,()),y4.2.2.2.1,())/\P ((y4.1,y4.2.1,y4.2.2.1,y4.2.2.2.1,()),y4.2.2.2.1,()))/\P ((y4.1,y4.2.1,y4.2.2.1,y4.2.2.2.1,()),y4.2.2.2.1,()))/\(∃(y3:List Int),Cv.fn (p.1,())=some y3/\ ∃(y4:Ed),Gt.fn ((p.1,p.2.1,p.2.2.1,()),y3,())=some y4/\((P ((y4.1,y4.2.1,y4.2.2.1,y4.2.2.2.1,()),y4.2.2.2.1,())/\P ((y4.1,y4.2.1,y4.2.2.1,y4.2.2.2.1,()),y4.2.2.2.1,()))/\P ((y4.1,y4.2.1,y4.2.2.1,y4.2.2.2.1,()),y4.2.2.2.1,()))/\(P ((y4.1,y4.2.1,y4.2.2.1,y4.2.2.2.1,()),y4.2.2.2.1,())/\P ((y4.1,y4.2.1,y4.2.2.1,y4.2.2.2.1,()),y4.2.2.2.1,()))/\P ((y4.1,y4.2.1,y4.2.2.1,y4.2.2.2.1,()),y4.2.2.2.1,()))/\ ∃(y3:List Int),Cv.fn (p.1,())=some y3/\ ∃(y4:Ed),Gt.fn ((p.1,p.2.1,p.2.2.1,()),y3,())=some y4/\((P ((y4.1,y4.2.1,y4.2.2.1,y4.2.2.2.1,()),y4.2.2.2.1,())/\P ((y4.1,y4.2.1,y4.2.2.1,y4.2.2.2.1,()),y4.2.2.2.1,()))/\P ((y4.1,y4.2.1,y4.2.2.1,y4.2.2.2.1,()),y4.2.2.2.1,()))/\(P ((y4.1,y4.2.1,y4.2.2.1,y4.2.2.2.1,()),y4.2.2.2.1,())/\P ((y4.1,y4.2.1,y4.2.2.1,y4.2.2.2.1,()),y4.2.2.2.1,()))/\P ((y4.1,y4.2.1,y4.2.2.1,y4.2.2.2.1,()),y4.2.2.2.1,()))/\(∃(y3:List Int),Cv.fn (p.1,())=some y3/\ ∃(y4:Ed),Gt.fn ((p.1,p.2.1,p.2.2.1,()),y3,())=some y4/\((P ((y4.1,y4.2.1,y4.2.2.1,y4.2.2.2.1,()),y4.2.2.2.1,())/\P ((y4.1,y4.2.1,y4.2.2.1,y4.2.2.2.1,()),y4.2.2.2.1,()))/\P ((y4.1,y4.2.1,y4.2.2.1,y4.2.2.2.1,()),y4.2.2.2.1,()))/\(P ((y4.1,y4.2.1,y4.2.2.1,y4.2.2.2.1,()),y4.2.2.2.1,())/\P ((y4.1,y4.2.1,y4.2.2.1,y4.2.2.2.1,()),y4.2.2.2.1,()))/\P ((y4.1,y4.2.1,y4.2.2.1,y4.2.2.2.1,()),y4.2.2.2.1,()))/\(∃(y3:List Int),Cv.fn (p.1,())=some y3/\ ∃(y4:Ed),Gt.fn ((p.1,p.2.1,p.2.2.1,()),y3,())=some y4/\((P ((y4.1,y4.2.1,y4.2.2.1,y4.2.2.2.1,()),y4.2.2.2.1,())/\P ((y4.1,y4.2.1,y4.2.2.1,y4.2.2.2.1,()),y4.2.2.2.1,()))/\P ((y4.1,y4.2.1,y4.2.2.1,y4.2.2.2.1,()),y4.2.2.2.1,()))/\(P ((y4.1,y4.2.1,y4.2.2.1,y4.2.2.2.1,()),y4.2.2.2.1,())/\P ((y4.1,y4.2.1,y4.2.2.1,y4.2.2.2.1,()),y4.2.2.2.1,()))/\P ((y4.1,y4.2.1,y4.2.2.1,y4.2.2.2.1,()),y4.2.2.2.1,()))/\(∃(y3:List Int),Cv.fn (p.1,())=some y3/\ ∃(y4:Ed),Gt.fn ((p.1,p.2.1,p.2.2.1,()),y3,())=some y4/\((P ((y4.1,y4.2.1,y4.2.2.1,y4.2.2.2.1,()),y4.2.2.2.1,())/\P ((y4.1,y4.2.1,y4.2.2.1,y4.2.2.2.1,()),y4.2.2.2.1,()))/\P ((y4.1,y4.2.1,y4.2.2.1,y4.2.2.2.1,()),y4.2.2.2.1,()))/\(P ((y4.1,y4.2.1,y4.2.2.1,y4.2.2.2.1,()),y4.2.2.2.1,())/\P ((y4.1,y4.2.1,y4.2.2.1,y4.2.2.2.1,()),y4.2.2.2.1,()))/\P ((y4.1,y4.2.1,y4.2.2.1,y4.2.2.2.1,()),y4.2.2.2.1,()))/\ ∃(y3:List Int),Cv.fn (p.1,())=some y3/\ ∃(y4:Ed),Gt.fn ((p.1,p.2.1,p.2.2.1,()),y3,())=some y4/\((P ((y4.1,y4.2.1,y4.2.2.1,y4.2.2.2.1,()),y4.2.2.2.1,())/\P ((y4.1,y4.2.1,y4.2.2.1,y4.2.2.2.1,()),y4.2.2.2.1,()))/\P ((y4.1,y4.2.1,y4.2.2.1,y4.2.2.2.1,()),y4.2.2.2.1,()))/\(P ((y4.1,y4.2.1,y4.2.2.1,y4.2.2.2.1,()),y4.2.2.2.1,())/\P ((y4.1,y4.2.1,y4.2.2.1,y4.2.2.2.1,()),y4.2.2.2.1,()))/\P ((y4.1,y4.2.1,y4.2.2.1,y4.2.2.2.1,()),y4.2.2.2.1,())))=fnW Fz (look [(47,Ic),(66,Cv),(153,Gt)]) Xb Try.f84 (p,()) P:=by kernel_rfl
theorem tQ {p:List Int} (h:Yl p):Gp p=true:=by
 refine Fp.2 ⟨h.pos,h.len,λj h1 h2=>?_⟩
 have:=h.row _ (Ak h2)
 exact ⟨by omega,by omega,λhm=>by
  obtain ⟨i,hi,e⟩:=Bd.1 hm
  have oS:i<j:=by rw [Co] at hi;omega
  rw [List.getElem_take] at e
  exact (Dc.1 h.nodup i j (by omega) h2 oS) e⟩
theorem Gi {p:PP} (hw:Hk p=true):Bc p=true/\(Ls p.2.2.1 (upto p.1.toNat)).2.2=true:=Bm.1 hw
theorem kg {p:PP} (hv:Bc p=true):Yw p p.1.toNat (Av p) (De p):=(lE hv).ok
theorem NX {p:PP} (hV:Valid p):YE p.1.toNat λg=>some g∈p.2.2.1.map some:=
 ⟨by have:=hV.n;omega,λg hg'=>by obtain ⟨g',e,h⟩:=QV (NI hV).2.2 _ hg';cases e;exact h⟩
theorem Wb {p:PP} (hv:Bc p=true) {x:List Int} (hx:x∈Av p):Pm p.1.toNat x:=jq.pm (NX (valid hv)) ((lE hv).gen x hx)
theorem jX {p:PP} (hV:Valid p) {x:List Int} (h:Pm p.1.toNat x):Cj p.1 x=true:=by
 have:=hV.n
 have:=h.1
 exact Fp.2 ⟨by omega,tQ h.2⟩
theorem YQ {p:PP} (_hV:Valid p) {x:List Int} (h:Cj p.1 x=true):Pm p.1.toNat x:=by
 obtain ⟨h1,h2⟩:=Fp.1 h
 exact ⟨by omega,Rd h2⟩
theorem Aau {p:PP} (hv:Bc p=true) {x:List Int} (hx:x∈Av p):Cj p.1 x=true:=jX (valid hv) (Wb hv hx)
theorem Sw {n:Nat} {x:List Int} (h:Pm n x):short x:=by
 have h1:=h.1
 have:=h.n2
 unfold short;omega
theorem tw {p:PP} {s:List Int} :Tf p s=true↔Hk p=true/\s∈Av p:=by
 unfold Tf;rw [Ag,Lr]
theorem DX (p:PP) (h:Gq p):fnW Fz (look [(47,Ic),(66,Cv),(153,Gt)]) Xb Try.f84 (p,()) (λ(z:SS×Bool×Unit)=>z=Dj p):=by
 refine Eq.mp (FQ p _) ⟨_,Ab h,?_⟩
 show Br (!Bc p) _ _
 unfold Dj
 by_cases hv:Bc p=true
 ·rw [Ab hv,hv]
  refine ⟨λhb=>by simp at hb,λ_=>?_⟩
  have hn:=(valid hv).n
  have OH:Cv.fn (p.1,())=some (upto p.1.toNat):=Ab ⟨by show 0<=p.1;omega,by show p.1<=20;omega⟩
  have hup: ∀y∈upto p.1.toNat,0<=y/\y<p.1:= λy hy=>by have:=Nb.1 hy;omega
  have vD:Gt.fn ((p.1,p.2.1,p.2.2.1,()),upto p.1.toNat,())=some (Es p.2.2.1 (upto p.1.toNat)):=Ab ⟨hv,by show (upto p.1.toNat).length<=20;rw [Jj];omega,hup⟩
  have hz:(((Es p.2.2.1 (upto p.1.toNat)).1,(Es p.2.2.1 (upto p.1.toNat)).2.1,(Es p.2.2.1 (upto p.1.toNat)).2.2.1,(Es p.2.2.1 (upto p.1.toNat)).2.2.2.1,()),(Es p.2.2.1 (upto p.1.toNat)).2.2.2.1,())=(Es p.2.2.1 (upto p.1.toNat),Hk p,()):=by
   unfold Hk
   rw [hv,Vt]
   rfl
  repeat' (first|exact hz|refine ⟨_,OH,?_⟩|refine ⟨_,vD,?_⟩|refine ⟨?_,?_⟩)
 ·rw [Ai hv]
  refine ⟨λ_=>rfl,λhb=>?_⟩
  exact absurd (by simpa using hb) hv
theorem re:Sound Try.prog 84 Xb:=
 Sound.Hg Ef (Au Xd (Au Vo (Au zN Bt))) mixed Try.func84 (by kernel_rfl) (by kernel_rfl) λx h=>DX x.1 h
def It (g:List (List Int)) (s w:List Int):List Int:=w.foldl (λq l=>An q (At g l)) s
noncomputable abbrev Wx:Spec:=Hg (.pair tI (.pair rm (.pair tL .unit))) tL false true (λx=> ∃p:PP,Bc p=true/\p.1=x.1/\p.2.2.1=x.2.1/\Gc (List.length x.2.1:Nat) x.2.2.1=true) (λx=>It x.2.1 (upto x.1.toNat) x.2.2.1)
theorem Qa {p:PP} (hV:Valid p) {l:Int} (hl:Fb (List.length p.2.2.1) l):Pm p.1.toNat (At p.2.2.1 l):=by
 have hn:=hV.n
 obtain ⟨k,hk,Rl⟩:=Lm hl
 have hp:Pm p.1.toNat (p.2.2.1[k]):=⟨by have:=hV.len _ (Ak hk);omega,Rd (hV.perm _ (Ak hk))⟩
 rcases Rl with rfl|rfl
 ·rw [Il hk];exact hp
 ·rw [Jz hk];exact hp.inv
theorem pt {p:PP} (hV:Valid p): ∀(w s:List Int),(∀l∈w,Fb (List.length p.2.2.1) l)->Pm p.1.toNat s->Pm p.1.toNat (It p.2.2.1 s w)
 | [],s,_,hs=>hs
 |l::w,s,hl,hs=>by
  have h1:=Qa hV (hl l (by simp))
  exact pt hV w _ (λl' h=>hl l' (Am _ h)) (hs.comp h1)
theorem nu {p:PP} (hV:Valid p) {s:List Int} (hs:Pm p.1.toNat s): ∀(w q:List Int),(∀l∈w,Fb (List.length p.2.2.1) l)->Pm p.1.toNat q->An s (It p.2.2.1 q w)=It p.2.2.1 (An s q) w
 | [],q,_,_=>rfl
 |l::w,q,hl,hq=>by
  have h1:=Qa hV (hl l (by simp))
  have h2:=nu hV hs w _ (λl' h=>hl l' (Am _ h)) (hq.comp h1)
  show An s (It p.2.2.1 (An q (At p.2.2.1 l)) w)=It p.2.2.1 (An (An s q) (At p.2.2.1 l)) w
  rw [h2,Je hs hq h1]
theorem BG {g:List (List Int)} {s w:List Int} {j:Nat} (h:j<w.length):It g s (w.take (j+1))=An (It g s (w.take j)) (At g w[j]):=by
 unfold It
 rw [List.take_add_one,Ac h,Option.toList_some,List.foldl_append]
 rfl
theorem QT {n:Nat} {q:List Int} (h:Pm n q):q.length<=20:=by have:=h.1;have:=h.n2;omega
theorem zx {n:Nat} {p q:List Int} (hp:Pm n p) (hq:Pm n q):Le q.length p:=by rw [hq.1];exact hp.row
theorem map_take {α β:Type} (f:α->β) {xs:List α} {j:Nat} (h:j<xs.length):(xs.take (j+1)).map f=(xs.take j).map f++ [f xs[j]]:=by
 rw [List.take_add_one,Ac h,Zu];rfl
theorem Uh {p:PP} (hw:Hk p=true):mc p.2.2.1 (Bk p.2.2.1.length) (Av p):=by
 obtain ⟨hv,hb⟩:=Gi hw
 have hV:=valid hv
 have hn:=hV.n
 exact sa hV (kg hv) (pA hv (by rw [Jj];omega) (λy hy=>by have:=Nb.1 hy;omega) hb)
theorem uy {p:PP} (hw:Hk p=true):p8 p.2.2.1 (Bk p.2.2.1.length) (Av p) (De p):=by
 obtain ⟨hv,hb⟩:=Gi hw
 have hn:=(valid hv).n
 exact pA hv (by rw [Jj];omega) (λy hy=>by have:=Nb.1 hy;omega) hb
theorem x5 {p:PP} (hw:Hk p=true) (Q:List Int->Prop) (hQ: ∀x∈Av p,Q x-> ∀l∈Bk p.2.2.1.length,Q (An x (At p.2.2.1 l))) {x:List Int} (hx:x∈Av p) (hq:Q x):
  ∀y∈Av p,Q y:=by
 have hc:=Uh hw
 have hL:=uy hw
 have up: ∀(j:Nat),j<(Av p).length->Q ((Av p).getD j [])->Q ((Av p).getD 0 []):=by
  intro j
  induction j using Nat.strongRecOn with
  |_ j ih=>
   intro hj hqj
   by_cases e:j=0
   ·subst e;exact hqj
   ·obtain ⟨i,l,h1,h2,h3,_⟩:=hL.par j (by omega) hj
    have hi:i<(Av p).length:=by omega
    obtain ⟨b1,b2⟩:=hc.back _ (cn hi) l h2
    refine ih i h1 hi ?_
    have:=hQ _ (cn hj) hqj _ b1
    rwa [h3,b2] at this
 have down:Q ((Av p).getD 0 [])-> ∀(j:Nat),j<(Av p).length->Q ((Av p).getD j []):=by
  intro h0 j
  induction j using Nat.strongRecOn with
  |_ j ih=>
   intro hj
   by_cases e:j=0
   ·subst e;exact h0
   ·obtain ⟨i,l,h1,h2,h3,_⟩:=hL.par j (by omega) hj
    have hi:i<(Av p).length:=by omega
    rw [h3]
    exact hQ _ (cn hi) (ih i h1 hi) l h2
 obtain ⟨j,hj,rfl⟩:=Bd.1 hx
 rw [<-Nv (d:= []) hj] at hq
 intro y hy
 obtain ⟨k,hk,rfl⟩:=Bd.1 hy
 rw [<-Nv (d:= []) hk]
 exact down (up j hj hq) k hk
theorem yS {p:PP} (hV:Valid p):(Bk p.2.2.1.length).length<=16:=by rw [Sr];have:=hV.oM;omega
theorem Qw {p:PP} (hv:Bc p=true):(Av p).getD 0 []=upto p.1.toNat/\upto p.1.toNat∈Av p:=by
 obtain ⟨A,h⟩:=(lE hv).first
 have h:Av p=upto p.1.toNat::A:=h
 rw [h]
 exact ⟨rfl,by simp⟩
def iA (g:List (List Int)) (dep:List Int->Int) (ls:List Int):Nat->List Int->List Int->List Int×List Int
 |0,x,w=>(w,x)
 |n+1,x,w=>match ls.find? (λl=>decide (dep (An x (At g l))=n)) with
  |some l=>iA g dep ls n (An x (At g l)) (w++ [l])
  |none=>iA g dep ls n x w
noncomputable abbrev Ok:Spec:=Hg (.pair bF (.pair tL .unit)) tI false true (λx=>Fg (List.length x.2.1) x.1.1 x.1.2.2.1/\List.length x.1.2.1=List.length x.1.1) (λx=>Hj x.1.1 x.1.2.1 x.2.1)
theorem LS (f:List (List Int)×List Int×List Int×Bool×Unit) (s:List Int) (P:Int->Prop):(∃(y3:Int),Vl.fn ((f.1,f.2.1,f.2.2.1,f.2.2.2.1,()),s,())=some y3/\Br (decide (y3<(0:Int))) (P (-1:Int)) (∃(y4:Int),idx f.2.1 y3=some y4/\P y4))=fnW Fz (look [(134,Vl)]) Ok Try.f102 (f,s,()) P:=by kernel_rfl
theorem JX (f:SS) (s:List Int) (h:Fg (List.length s) f.1 f.2.2.1/\List.length f.2.1=List.length f.1):fnW Fz (look [(134,Vl)]) Ok Try.f102 (f,s,()) (λ(z:Int)=>z=Hj f.1 f.2.1 s):=by
 obtain ⟨h1,h2⟩:=h
 refine Eq.mp (LS f s _) ⟨_,Ab h1,?_⟩
 show Br (decide (iX f.1 s<0)) _ _
 unfold iX Hj
 by_cases hm:s∈f.1
 ·have hl:=List.idxOf_lt_length_of_mem hm
  rw [Ab hm,Ab hm]
  refine Br.dec (λhn=>absurd hn (by omega)) λ_=>?_
  have MN:List.idxOf s f.1<f.2.1.length:=by omega
  refine ⟨f.2.1[List.idxOf s f.1],?_,by rw [Nv MN]⟩
  show idx f.2.1 (if s∈f.1 then ((List.idxOf s f.1:Nat):Int) else-1)=_
  rw [Ab hm]
  exact Df MN
 ·rw [Ai hm,Ai hm]
  exact ⟨λ_=>rfl,λhn=>by simp at hn⟩
theorem j5:Sound Try.prog 102 Ok:=
 Sound.Hg Ef (Au lT Bt) mixed Try.func102 (by kernel_rfl) (by kernel_rfl) λx h=>JX x.1 x.2.1 h
noncomputable def aG (p:PP) (s:List Int):List Int:=(iA p.2.2.1 (Hj (Av p) (De p)) (Bk p.2.2.1.length) (Hj (Av p) (De p) s).toNat s []).1
noncomputable abbrev kc:MSpec:=fa [some 3,some 4,none] [(false, .Gb tI),(false, .Gb .str),(false, .Gb rm),(false, .Gb rm),(false, .Gb tL),(false, .Gb tL),(false, .Gb .bool),(false, .Gb tL)] false [none] [rL]
 (λx=>Hk (x.1,x.2.1,x.2.2.1,())=true/\(x.2.2.2.1,x.2.2.2.2.1,x.2.2.2.2.2.1,x.2.2.2.2.2.2.1,())=Es x.2.2.1 (upto x.1.toNat)/\x.2.2.2.2.2.2.2.1∈Av (x.1,x.2.1,x.2.2.1,())) (λx=>((aG (x.1,x.2.1,x.2.2.1,()) x.2.2.2.2.2.2.2.1,()),()))
noncomputable abbrev ie:Spec:=Hg (.pair Ij (.pair tL (.pair tI .unit))) tL false false (λx=>Bc x.1=true/\List.length x.2.1<=20/\(∀y∈x.2.1,0<=y/\y<x.1.1)/\Fb (List.length x.1.2.2.1) x.2.2.1) (λx=>An x.2.1 (At x.1.2.2.1 x.2.2.1))
abbrev oX:Type:=List Int×Int×Int×ByteArray×List (List Int)×List (List Int)×List Int×List Int×Bool×List Int×PUnit
theorem Ab5 (n:Int) (str:ByteArray) (g L:List (List Int)) (D Lc:List Int) (b:Bool) (s:List Int) (P:((List Int×Unit)×Unit)->Prop):(∃(y9:List Int),Nd.fn ((n,str,g,()),())=some y9/\ ∃(cS:Int),Ok.fn ((L,D,Lc,b,()),s,())=some cS/\0=0/\0=([]:List Int).length/\Ek (λ(v11:oX) (k12:oX->Prop)=>Br (decide (v11.2.1>(0:Int))) (0=0/\v11.2.2.2.2.2.2.2.2.2.1.length=v11.2.2.2.2.2.2.2.2.2.1.length/\Ek (λ(aS:oX) (k14:oX->Prop)=>Br (decide (aS.2.1<(↑y9.length:Int))) (∃(xJ:Int),idx y9 aS.2.1=some xJ/\ ∃(y16:List Int),ie.fn ((aS.2.2.1,aS.2.2.2.1,aS.2.2.2.2.1,()),aS.1,xJ,())=some y16/\ ∃(y17:Int),Ok.fn ((aS.2.2.2.2.2.1,aS.2.2.2.2.2.2.1,aS.2.2.2.2.2.2.2.1,aS.2.2.2.2.2.2.2.2.1,()),y16,())=some y17/\Br (y17==IntKind.i64.wrap (v11.2.1-(1:Int))) (∃(YB:Int),idx y9 aS.2.1=some YB/\0=0/\aS.2.2.2.2.2.2.2.2.2.1.length=aS.2.2.2.2.2.2.2.2.2.1.length/\aS.2.2.2.2.2.2.2.2.2.1.length+(List.take 1 (List.drop 0 [YB])).length<=Fu/\0=0/\(aS.2.2.2.2.2.2.2.2.2.1++List.take 1 (List.drop 0 [YB])).length=(aS.2.2.2.2.2.2.2.2.2.1++List.take 1 (List.drop 0 [YB])).length/\k12 (y16,IntKind.i64.wrap (v11.2.1-(1:Int)),aS.2.2.1,aS.2.2.2.1,aS.2.2.2.2.1,aS.2.2.2.2.2.1,aS.2.2.2.2.2.2.1,aS.2.2.2.2.2.2.2.1,aS.2.2.2.2.2.2.2.2.1,aS.2.2.2.2.2.2.2.2.2.1++List.take 1 (List.drop 0 [YB]),())) (0=0/\aS.2.2.2.2.2.2.2.2.2.1.length=aS.2.2.2.2.2.2.2.2.2.1.length/\k14 (aS.1,IntKind.i64.wrap (aS.2.1+(1:Int)),aS.2.2.1,aS.2.2.2.1,aS.2.2.2.2.1,aS.2.2.2.2.2.1,aS.2.2.2.2.2.2.1,aS.2.2.2.2.2.2.2.1,aS.2.2.2.2.2.2.2.2.1,aS.2.2.2.2.2.2.2.2.2.1,()))) (0=0/\aS.2.2.2.2.2.2.2.2.2.1.length=aS.2.2.2.2.2.2.2.2.2.1.length/\k12 (aS.1,IntKind.i64.wrap (v11.2.1-(1:Int)),aS.2.2.1,aS.2.2.2.1,aS.2.2.2.2.1,aS.2.2.2.2.2.1,aS.2.2.2.2.2.2.1,aS.2.2.2.2.2.2.2.1,aS.2.2.2.2.2.2.2.2.1,aS.2.2.2.2.2.2.2.2.2.1,()))) (v11.1,(0:Int),v11.2.2.1,v11.2.2.2.1,v11.2.2.2.2.1,v11.2.2.2.2.2.1,v11.2.2.2.2.2.2.1,v11.2.2.2.2.2.2.2.1,v11.2.2.2.2.2.2.2.2.1,v11.2.2.2.2.2.2.2.2.2.1,PUnit.unit)) (P ((List.take v11.2.2.2.2.2.2.2.2.2.1.length (List.drop 0 v11.2.2.2.2.2.2.2.2.2.1),()),()))) (s,cS,n,str,g,L,D,Lc,b,[],PUnit.unit))=fnMW Ot (look [(144,Nd),(102,Ok),(145,ie)]) kc Try.f70 (n,str,g,L,D,Lc,b,s,()) P:=by kernel_rfl
theorem sy:Sound Try.prog 145 ie:=lN.loose
theorem So {p:PP} (hw:Hk p=true):Ur p.2.2.1 (Bk p.2.2.1.length) (Av p) (λx=>x=(Av p).getD 0 []) (Hj (Av p) (De p)):=
 yT (valid (Gi hw).1) (kg (Gi hw).1) (uy hw)
theorem tq {p:PP} (hw:Hk p=true) {x:List Int} (hx:x∈Av p):0<=Hj (Av p) (De p) x/\Hj (Av p) (De p) x<=3000:=by
 have fT:=kg (Gi hw).1
 have CH:=fT.ok.oM
 refine ⟨(So hw).nn x hx,?_⟩
 obtain ⟨i,hi,rfl⟩:=Bd.1 hx
 have hiD:i<(De p).length:=by rw [fT.len];exact hi
 have h1:=fT.dep i hiD
 have h2:Hj (Av p) (De p) ((Av p)[i])=(De p).getD i 0:=by
  rw [<-Nv (d:= []) hi];exact jC fT.ok.nodup hi
 rw [h2,Nv hiD]
 omega
theorem Aai (n0:Int) (str:ByteArray) (g L:List (List Int)) (D Lc:List Int) (b:Bool) (s:List Int) (h:Hk (n0,str,g,())=true/\(L,D,Lc,b,())=Es g (upto n0.toNat)/\s∈Av (n0,str,g,())):
  fnMW Ot (look [(144,Nd),(102,Ok),(145,ie)]) kc Try.f70 (n0,str,g,L,D,Lc,b,s,()) (λ(z:(List Int×Unit)×Unit)=>z=((aG (n0,str,g,()) s,()),())):=by
 obtain ⟨hw,hse,hs⟩:=h
 obtain ⟨p,CN⟩: ∃p:PP,(n0,str,g,())=p:=⟨_,rfl⟩
 have e1:n0=p.1:=by rw [<-CN]
 have e2:str=p.2.1:=by rw [<-CN]
 have e3:g=p.2.2.1:=by rw [<-CN]
 rw [CN] at hw hs
 have hL:L=(Es p.2.2.1 (upto p.1.toNat)).1:=by rw [<-e3,<-e1,<-hse]
 have hD:D=(Es p.2.2.1 (upto p.1.toNat)).2.1:=by rw [<-e3,<-e1,<-hse]
 have hS:Lc=(Es p.2.2.1 (upto p.1.toNat)).2.2.1:=by rw [<-e3,<-e1,<-hse]
 have hB:b=(Es p.2.2.1 (upto p.1.toNat)).2.2.2.1:=by rw [<-e3,<-e1,<-hse]
 refine Eq.mp (Ab5 n0 str g L D Lc b s _) ?_
 rw [CN,e1,e2,e3,hL,hD,hS,hB]
 clear hse hL hD hS hB CN e1 e2 e3
 have hv:=(Gi hw).1
 have hV:=valid hv
 have hn:=hV.n
 have fT:=kg hv
 have CH:=fT.ok.oM
 have hc:=Uh hw
 have hd:=So hw
 obtain ⟨ls,vH⟩: ∃ls,Bk p.2.2.1.length=ls:=⟨_,rfl⟩
 have pY: ∀l∈ls,Fb (List.length p.2.2.1) l:= λl hl=>Fk (vH▸hl)
 have CF: ∀x,Hj (Av p) (De p) x=Hj (Av p) (De p) x:= λx=>rfl
 rw [vH] at hc hd
 have WZ: ∀x:List Int,x.length=p.1.toNat->Ok.fn (((Es p.2.2.1 (upto p.1.toNat)).1,(Es p.2.2.1 (upto p.1.toNat)).2.1,(Es p.2.2.1 (upto p.1.toNat)).2.2.1,(Es p.2.2.1 (upto p.1.toNat)).2.2.2.1,()),x,())=some (Hj (Av p) (De p) x):= λx hx=>
  Ab ⟨by show Fg x.length (Av p) (aQ (Av p));rw [hx];exact fT.ok,fT.len⟩
 have hlf:=yS hV
 rw [vH] at hlf
 have hsl:=(Wb hv hs).1
 have ZA:0<=Hj (Av p) (De p) s/\Hj (Av p) (De p) s<=3000:=tq hw hs
 unfold aG
 rw [vH]
 refine ⟨ls,(Ab hV.oM.2).trans (Jt some vH),_,WZ _ hsl,rfl,rfl,?_⟩
 obtain ⟨R,hR⟩: ∃R,iA p.2.2.1 (Hj (Av p) (De p)) ls (Hj (Av p) (De p) s).toNat s []=R:=⟨_,rfl⟩
 rw [hR]
 obtain ⟨n0,hn0⟩:=Xh ZA.1
 rw [hn0] at hR ZA⊢
 rw [Bh] at hR
 refine Ek.mk (λv=> ∃(x:List Int) (n:Nat) (w:List Int),v=(x,(n:Int),p.1,p.2.1,p.2.2.1,(Es p.2.2.1 (upto p.1.toNat)).1,(Es p.2.2.1 (upto p.1.toNat)).2.1,(Es p.2.2.1 (upto p.1.toNat)).2.2.1,(Es p.2.2.1 (upto p.1.toNat)).2.2.2.1,w,())/\x∈Av p/\Hj (Av p) (De p) x=n/\w.length+n<=3000/\iA p.2.2.1 (Hj (Av p) (De p)) ls n x w=R) (λv=>v.2.1.toNat)
  ⟨s,n0,[],rfl,hs,hn0,by simp only [Hr];omega,hR⟩ ?_
 rintro v ⟨x,n,w,rfl,g1,g2,g3,g4⟩
 dsimp only
 refine Br.dec (λhl=>⟨rfl,rfl,?_⟩) λhl=>?_
 ·obtain ⟨n,rfl⟩: ∃n',n=n'+1:=⟨n-1,by omega⟩
  simp only [iA] at g4
  have hxl:x.length=p.1.toNat:=(Wb hv g1).1
  have TH: ∀y∈x,0<=y/\y<p.1:=fT.row x g1
  have hwr:IntKind.i64.wrap (((n+1:Nat):Int)-1)=(n:Int):=by rw [Cs (by omega) (by omega)];omega
  rw [hwr]
  refine Cu ls.length (λv=>v.2.1) (λi v=>v=(x,(i:Int),p.1,p.2.1,p.2.2.1,(Es p.2.2.1 (upto p.1.toNat)).1,(Es p.2.2.1 (upto p.1.toNat)).2.1,(Es p.2.2.1 (upto p.1.toNat)).2.2.1,(Es p.2.2.1 (upto p.1.toNat)).2.2.2.1,w,())/\
   (ls.drop i).find? (λl=>decide (Hj (Av p) (De p) (An x (At p.2.2.1 l))=n))=ls.find? (λl=>decide (Hj (Av p) (De p) (An x (At p.2.2.1 l))=n))) rfl ⟨rfl,by rw [Im]⟩ ?_
  rintro i v K hi hii ⟨rfl,hf⟩ hK
  dsimp only
  refine Br.dec (λUJ=>?_) λUJ=>?_
  ·have UJ:i<ls.length:=by omega
   have hlm:=Ak UJ
   have yD:=pY _ hlm
   obtain ⟨nl,nr⟩:=w9 hV TH yD
   have hnx:=hc.next x g1 _ hlm
   rw [Bu UJ] at hf
   refine ⟨_,Df UJ,_,Ab ⟨hv,by show x.length<=20;omega,TH,yD⟩,_,WZ _ (by rw [<-hxl];exact nl),Br.of (λhb=>?_) λhb=>?_⟩
   ·have hb:Hj (Av p) (De p) (An x (At p.2.2.1 ls[i]))=n:=by simpa using hb
    rw [List.find?_cons_of_pos (by simpa using hb)] at hf
    rw [<-hf] at g4
    refine ⟨_,Df UJ,rfl,rfl,?_,rfl,rfl,⟨_,n,w++ [ls[i]],rfl,hnx,hb,by rw [Ay,Ck];omega,g4⟩,?_⟩
    ·show w.length+1<=4294967296;omega
    ·show ((n:Int)).toNat<(((n+1:Nat):Int)).toNat
     omega
   ·have hb: ¬Hj (Av p) (De p) (An x (At p.2.2.1 ls[i]))=n:=by simpa using hb
    rw [List.find?_cons_of_neg (by simpa using hb)] at hf
    refine ⟨rfl,rfl,?_⟩
    rw [Dw (by omega)]
    exact hK UJ _ rfl ⟨rfl,hf⟩
  ·have:i=ls.length:=by omega
   subst this
   rw [Oq,List.find?_nil] at hf
   obtain ⟨l,hlm,hle⟩:=hd.down x g1 (by rw [CF,g2];omega)
   have:=List.find?_eq_none.1 hf.symm l hlm
   rw [CF,CF,g2] at hle
   exact absurd (Dg (by rw [hle];omega)) this
 ·rw [Di]
  have:n=0:=by omega
  subst this
  rw [<-g4]
  rfl
theorem ER:Dx Try.prog 70 kc:=
 Dx.fa Np (Au eK (Au j5 (Au sy Bt))) mixed Try.func70 (by kernel_rfl) (by kernel_rfl) λx h=>Aai x.1 x.2.1 x.2.2.1 x.2.2.2.1 x.2.2.2.2.1 x.2.2.2.2.2.1 x.2.2.2.2.2.2.1 x.2.2.2.2.2.2.2.1 h
theorem kf {g:List (List Int)} {dep:List Int->Int} {ls:List Int} : ∀(n:Nat) (x w:List Int),(∀l∈w,l∈ls)-> ∀l∈(iA g dep ls n x w).1,l∈ls
 |0,x,w,h=>h
 |n+1,x,w,h=>by
  simp only [iA]
  split
  ·rename_i l hf
   refine kf n _ _ λl' hl=>?_
   rcases Az.1 hl with h2|h2
   ·exact h l' h2
   ·rw [Ae.1 h2];exact List.mem_of_find?_eq_some hf
  ·exact kf n x w h
structure Part (n k:Nat) (s:Rg×Rg):Prop where
 l1:s.1.length=n
 l2:s.2.length=n
 pg:PG n k (s.1.getD k [])
 row:FW n k (s.1.getD k []) (s.2.getD k [])
 comp:YD n (n-(k+1)) (k+1) s
 gb:GBf (n-(k+1)) (k+1) s
 sub: ∀g,some g∈s.1.getD (k+1) []->Gn n (s.1.getD k []) g
def Hd (n k:Nat) (s:Rg×Rg) (q:List Int):Prop:= ∃t,(s.2.getD k []).getD (ap q k) none=some t/\GL s.2 (n-(k+1)) (k+1) (An q (Bq t))=true
structure ta (n k:Nat) (s s':Rg×Rg):Prop where
 grow:od k s s'
 same:s'.1.getD k []=s.1.getD k []
 part:Part n k s'
 Fw: ∀q,Pm n q->Fx k q->Hd n k s q->Hd n k s' q
 new: ∀y t,(s'.2.getD k []).getD y none=some t->(s.2.getD k []).getD y none=some t\/ ∀g,some g∈s.1.getD k []->Hd n k s' (An t g)
theorem ta.refl {n k:Nat} {s:Rg×Rg} (h:Part n k s):ta n k s s:=⟨od.refl _ _,rfl,h,λ_ _ _ h=>h,λ_ _ h=> .inl h⟩
theorem Part.tg {n k:Nat} {s:Rg×Rg} (h:Part n k s) (hk:k<n) {y:Nat} {t g:List Int} (ht:(s.2.getD k []).getD y none=some t) (hg:some g∈s.1.getD k []):Pm n (An t g)/\Fx k (An t g)/\ap (An t g) k=ap g y:=by
 obtain ⟨t1,t2,t3,t4⟩:=h.row.rt _ _ ht
 obtain ⟨g',e,g1,g2⟩:=h.pg _ hg
 cases e
 exact ⟨t1.comp g1,Fx.comp t1 g1 t2 g2 (by omega),by rw [Us t1 g1 hk,t3]⟩
theorem ta.trans {n k:Nat} {a b c:Rg×Rg} (hk:k<n) (h:ta n k a b) (h':ta n k b c):ta n k a c:=by
 refine ⟨h.grow.trans h'.grow (Ar _),h'.same.trans h.same,h'.part,λq h1 h2 h3=>h'.Fw q h1 h2 (h.Fw q h1 h2 h3),λy t e=>?_⟩
 rcases h'.new y t e with e1|e1
 ·rcases h.new y t e1 with e2|e2
  ·exact .inl e2
  ·refine .inr λg hg=>?_
   obtain ⟨p1,p2,_⟩:=h.part.tg hk e1 (by rw [h.same];exact hg)
   exact h'.Fw _ p1 p2 (e2 g hg)
 ·exact .inr λg hg=>e1 g (by rw [h.same];exact hg)
theorem Part.v {n k:Nat} {s:Rg×Rg} (h:Part n k s):V n (n-(k+1)) (k+1) s:=⟨h.l1,h.l2,h.comp,h.gb⟩
def uN (p:PP) (gs:List (List Int)):Prop:=gs.length<=5/\ ∀g∈gs,tZ p g=true
theorem rh {g:List (List Int)} {dep:List Int->Int} {ls:List Int} : ∀(n:Nat) (x w:List Int),∃u,(iA g dep ls n x w).1=w++u/\(iA g dep ls n x w).2=It g x u
 |0,x,w=>⟨[],by simp [iA],rfl⟩
 |n+1,x,w=>by
  simp only [iA]
  split
  ·rename_i l _
   obtain ⟨u,h1,h2⟩:=rh (g:=g) (dep:=dep) (ls:=ls) n (An x (At g l)) (w++ [l])
   exact ⟨l::u,by rw [h1,Ct];rfl,h2⟩
  ·exact rh n x w
theorem uN.take {p:PP} {gs:List (List Int)} (h:uN p gs) (j:Nat):uN p (gs.take j):=⟨by rw [Co];have:=h.1;omega,λg hg=>h.2 g (Ma hg)⟩
open Go.RowKit Go.Lib
theorem Cp.Aa9 {w:World} {F:List Nat} {e:Ty} {cs:List Value} {x:List e.den} (h:Cp w F (.slice e) cs x):cs.length=1:=by
 simp only [Cp] at h
 obtain ⟨a,n,c,rfl,_⟩:=h
 rfl
theorem sU (p q:List Int) (P:List Int->Prop):(0=0/\0=([]:List Int).length/\Ek (λ(v3:Int×List Int×PUnit) (k4:Int×List Int×PUnit->Prop)=>Br (decide (v3.1<(↑p.length:Int))) (∃(y5:Int),idx p v3.1=some y5/\ ∃(y6:Int),idx q y5=some y6/\0=0/\v3.2.1.length=v3.2.1.length/\v3.2.1.length+(List.take 1 (List.drop 0 [y6])).length<=Fu/\0=0/\(v3.2.1++List.take 1 (List.drop 0 [y6])).length=(v3.2.1++List.take 1 (List.drop 0 [y6])).length/\k4 (IntKind.i64.wrap (v3.1+(1:Int)),v3.2.1++List.take 1 (List.drop 0 [y6]),())) (P (List.take v3.2.1.length (List.drop 0 v3.2.1)))) ((0:Int),[],PUnit.unit))=fnW Fz (look []) Hz Try.f75 (p,q,()) P:=by kernel_rfl
theorem IF {p q:List Int} {j:Nat} (h:j<p.length):(An p q).take (j+1)=(An p q).take j++ [Jb q p[j]]:=by
 unfold An
 rw [Da (by rw [Jv];exact h),List.getElem_map]
theorem sq (p q:List Int) (h:List.length p<=20/\Le (List.length q) p):fnW Fz (look []) Hz Try.f75 (p,q,()) (λ(z:List Int)=>z=An p q):=by
 obtain ⟨h1,h2⟩:=h
 refine Eq.mp (sU p q _) ⟨rfl,rfl,?_⟩
 refine Cu p.length (λv=>v.1) (λj v=>v=((j:Int),(An p q).take j,())) rfl rfl ?_
 rintro j v K hj hi rfl hK
 dsimp only
 have hlen:((An p q).take j).length<=20:=by rw [Co];unfold An;rw [Jv];omega
 refine Br.dec (λhl=>?_) λhl=>?_
 ·have hl:j<p.length:=by omega
  have hr:=h2 p[j] (Ak hl)
  refine ⟨_,Df hl,Jb q p[j],cy hr.1 hr.2,rfl,rfl,?_,rfl,rfl,?_⟩
  ·show ((An p q).take j).length+1<=4294967296
   omega
  ·rw [Dw (by omega)]
   refine hK hl _ rfl ?_
   rw [IF hl]
   rfl
 ·have:j=p.length:=by omega
  subst this
  rw [Di,<-Kn p q,Ca]
theorem bC:Sound Try.prog 75 Hz:=
 Sound.Hg Ef Bt mixed Try.func75 (by kernel_rfl) (by kernel_rfl) λx h=>sq x.1 x.2.1 h
theorem NW {n:Int} {s:List Int} (h:Cj n s=true):Pm n.toNat s:=by
 obtain ⟨a,b⟩:=Fp.1 h
 exact ⟨by omega,Rd b⟩
noncomputable def aF (p:PP) (s:List Int):Int:=if Tf p s=true then Hj (Av p) (De p) s else-1
noncomputable abbrev Vm:Spec:=Hg (.pair Ij (.pair tL .unit)) (.pair bF (.pair tI (.pair .bool .unit))) true false (λx=>Gq x.1/\short x.2.1) (λx=>((Dj x.1).1,aF x.1 x.2.1,Tf x.1 x.2.1,()))
noncomputable abbrev dM:Spec:=Hg (.pair Ij (.pair tL .unit)) tI false true (λx=>Gq x.1/\short x.2.1) (λx=>aF x.1 x.2.1)
theorem SO (p:Int×ByteArray×List (List Int)×Unit) (s:List Int) (P:((List (List Int)×List Int×List Int×Bool×Unit)×Int×Bool×Unit)->Prop):(∃(y3:(List (List Int)×List Int×List Int×Bool×PUnit)×Bool×PUnit),Xb.fn ((p.1,p.2.1,p.2.2.1,()),())=some y3/\Br (!y3.2.1) (P ((y3.1.1,y3.1.2.1,y3.1.2.2.1,y3.1.2.2.2.1,()),(-1:Int),false,())) (∃(y4:Bool),Gv.fn ((p.1,p.2.1,p.2.2.1,()),s,())=some y4/\Br (!y4) (P ((y3.1.1,y3.1.2.1,y3.1.2.2.1,y3.1.2.2.2.1,()),(-1:Int),false,())) (∃(y5:Int),Ok.fn ((y3.1.1,y3.1.2.1,y3.1.2.2.1,y3.1.2.2.2.1,()),s,())=some y5/\P ((y3.1.1,y3.1.2.1,y3.1.2.2.1,y3.1.2.2.2.1,()),y5,decide (y5>=(0:Int)),()))))=fnW Fz (look [(84,Xb),(73,Gv),(102,Ok)]) Vm Try.f69 (p,s,()) P:=by kernel_rfl
theorem Ab4 (p:Int×ByteArray×List (List Int)×Unit) (s:List Int) (P:Int->Prop):(∃(y3:(List (List Int)×List Int×List Int×Bool×PUnit)×Int×Bool×PUnit),Vm.fn ((p.1,p.2.1,p.2.2.1,()),s,())=some y3/\Br (!y3.2.2.1) (P (-1:Int)) (P y3.2.1))=fnW Fz (look [(69,Vm)]) dM Try.f27 (p,s,()) P:=by kernel_rfl
theorem QR (p:PP) (s:List Int) (h:Gq p/\short s):fnW Fz (look [(84,Xb),(73,Gv),(102,Ok)]) Vm Try.f69 (p,s,()) (λ(z:SS×Int×Bool×Unit)=>z=((Dj p).1,aF p s,Tf p s,())):=by
 refine Eq.mp (SO p s _) ⟨_,Ab h.1,?_⟩
 by_cases hw:Hk p=true
 ·have hv:=(Gi hw).1
  have e1:Dj p=(Es p.2.2.1 (upto p.1.toNat),true,()):=by unfold Dj;rw [Ab hv,hw]
  show Br (!(Dj p).2.1) _ _
  refine ⟨λhb=>by rw [e1] at hb;simp at hb,λ_=>⟨_,Ab h,?_⟩⟩
  show Br (!(Bc p&&Cj p.1 s)) _ _
  rw [hv,Vt]
  unfold aF Tf
  rw [hw,Vt]
  refine Br.of (λhb=>?_) λhb=>?_
  ·have hm: ¬s∈Av p:= λhm=>by rw [Aau hv hm] at hb;cases hb
   rw [Ht hm,Ai (by decide)]
  ·have hb:Cj p.1 s=true:=by simpa using hb
   have TF:=YQ (valid hv) hb
   refine ⟨_,Ab ⟨by show Fg s.length (Dj p).1.1 (Dj p).1.2.2.1;rw [e1,TF.1];exact (kg hv).ok,by show (Dj p).1.2.1.length=(Dj p).1.1.length;rw [e1];exact (kg hv).len⟩,?_⟩
   have CF:Hj (Dj p).1.1 (Dj p).1.2.1 s=Hj (Av p) (De p) s:=by rw [e1];rfl
   by_cases hm:s∈Av p
   ·have hd:=(tq hw hm).1
    rw [Dg hm,Ab rfl]
    show (_,Hj (Dj p).1.1 (Dj p).1.2.1 s,decide (Hj (Dj p).1.1 (Dj p).1.2.1 s>=0),())=_
    rw [CF,Dg hd]
   ·have hd:Hj (Av p) (De p) s= -1:=Ai hm
    rw [Ht hm,Ai (by decide)]
    show (_,Hj (Dj p).1.1 (Dj p).1.2.1 s,decide (Hj (Dj p).1.1 (Dj p).1.2.1 s>=0),())=_
    rw [CF,hd]
    rfl
 ·have e1:(Dj p).2.1=false:=by
   unfold Dj
   by_cases hv:Bc p=true
   ·rw [Ab hv];exact Gw _|>.mp hw
   ·rw [Ai hv]
  show Br (!(Dj p).2.1) _ _
  rw [e1]
  refine ⟨λ_=>?_,λhb=>by simp at hb⟩
  have hf:Tf p s=false:=by unfold Tf;rw [Gw _|>.mp hw,Xg]
  unfold aF
  rw [hf,Ai (by decide)]
theorem lV:Sound Try.prog 69 Vm:=
 Sound.Hg Ef (Au re (Au Qn (Au j5 Bt))) mixed Try.func69 (by kernel_rfl) (by kernel_rfl) λx h=>QR x.1 x.2.1 h
theorem Aah (p:PP) (s:List Int) (h:Gq p/\short s):fnW Fz (look [(69,Vm)]) dM Try.f27 (p,s,()) (λ(z:Int)=>z=aF p s):=by
 refine Eq.mp (Ab4 p s _) ⟨_,Ab h,?_⟩
 show Br (!Tf p s) _ _
 refine Br.of (λhb=>?_) λ_=>rfl
 unfold aF
 rw [Ai (Ga hb)]
theorem EP:Sound Try.prog 27 dM:=
 Sound.Hg Ef (Au lV Bt) mixed Try.func27 (by kernel_rfl) (by kernel_rfl) λx h=>Aah x.1 x.2.1 h
abbrev tB:Ty:= .slice (.int .u8)
abbrev MQ:Ty:= .int .u64
def hN (h:Int):Int:=IntKind.u64.wrap (IntKind.u64.wrap (h*(6364136223846793005:Int))+(1442695040888963407:Int))
def xN (h:Int):Int:=IntKind.i64.wrap (IntKind.u64.wrap (↑(BitVec.ofInt IntKind.u64.bits (h.fdiv ((2:Int)^min (Int.toNat (33:Int)) IntKind.u64.bits))&&&BitVec.ofInt IntKind.u64.bits (16777215:Int)).toNat:Int))
def dI (b:List Int) (i:Int):Int:=if i<(b.length:Int) then i+1 else i
def dR (b:List Int) (i h n:Int):Int:=if i<(b.length:Int) then (xN (hN h)+Jb b i).tmod n else (xN (hN h)).tmod n
structure cT (b:List Int) (i:Int):Prop where
 len:b.length<=4096
 byte: ∀y∈b,0<=y/\y<256
 lo:0<=i
 hi:i<=b.length
def zB:List Int->Int->Int
 | [],h=>h
 |c::r,h=>zB r (IntKind.u64.wrap (IntKind.u64.wrap (IntKind.u64.wrap (h*(1099511628211:Int))+IntKind.u64.wrap c)+(3:Int)))
def mH (b:List Int) (s:Int):Int:=zB b (IntKind.u64.wrap (IntKind.u64.wrap (s*(7919:Int))+IntKind.u64.wrap (b.length:Int)))
def Yb (b:List Int) (i h m:Int):Int×Int×Int:=(dI b (dI b i),hN (hN h),if dR b (dI b i) (hN h) 2=0 then-(1+dR b i h m) else 1+dR b i h m)
def SB (b:List Int) (m:Int):Nat->Int->Int->List Int->Int×Int×List Int
 |0,i,h,w=>(i,h,w)
 |k+1,i,h,w=>SB b m k (Yb b i h m).1 (Yb b i h m).2.1 (w++ [(Yb b i h m).2.2])
def Ub (b:List Int) (i h m k:Int):Int×Int×List Int:=SB b m (dR b i h (k+1)).toNat (dI b i) (hN h) []
def dW (b:List Int) (n:Int):Nat->Int->Int->List Int->Int×Int×List Int
 |0,i,h,mv=>(i,h,mv)
 |k+1,i,h,mv=>dW b n k (dI b (dI b i)) (hN (hN h)) ((mv.set (dR b i h n).toNat (Jb mv (dR b (dI b i) (hN h) n))).set (dR b (dI b i) (hN h) n).toNat (Jb mv (dR b i h n)))
def mI (b:List Int) (n i h:Int):Int×Int×List Int:=dW b n (1+dR b i h 3).toNat (dI b i) (hN h) (upto n.toNat)
def Zc (b:List Int) (n:Int):Nat->Int->Int->List (List Int)->Int×Int×List (List Int)
 |0,i,h,ms=>(i,h,ms)
 |k+1,i,h,ms=>Zc b n k (mI b n i h).1 (mI b n i h).2.1 (ms++ [(mI b n i h).2.2])
def QB:ByteArray:= {data:= #[(65:UInt8),(66:UInt8)]}
def Zb (b:List Int) (i h:Int):Int×Int×PP:=((Zc b (3+dR b i h 3) 2 (dI b i) (hN h) []).1,(Zc b (3+dR b i h 3) 2 (dI b i) (hN h) []).2.1,(3+dR b i h 3,QB,(Zc b (3+dR b i h 3) 2 (dI b i) (hN h) []).2.2,()))
noncomputable abbrev Aa7:MSpec:= {Ke:= [none,none],ins:= [(false, .Gb tB),(false, .Gb MQ)],Hc:=false,Iw:= [none,none,none],outs:= [.Gb tB, .Gb tI, .Gb MQ],fn:= λ_=>none,rp:=some 75}
noncomputable abbrev mW:MSpec:=zb Aa7 (λx=>List.length x.1<=4096) (λx=>((x.1,0,mH x.1 x.2.1,()),()))
noncomputable abbrev UY:MSpec:= {ptr:=some (75,3),Ke:= [none],ins:= [(false, .Gb tB),(false, .Gb tI),(false, .Gb MQ),(false, .Gb tI)],Hc:=false,Iw:= [none],outs:= [.Gb tB, .Gb tI, .Gb MQ, .Gb tI],fn:= λ_=>none}
noncomputable abbrev Ky:MSpec:=zb UY (λx=>cT x.1 x.2.1/\1<=x.2.2.2.1) (λx=>((x.1,dI x.1 x.2.1,hN x.2.2.1,dR x.1 x.2.1 x.2.2.1 x.2.2.2.1,()),()))
noncomputable abbrev Pj:Spec:=Hg (.pair tL (.pair tL .unit)) .bool false true (λx=>short x.1/\short x.2.1) (λx=>Oy x.1 x.2.1)
noncomputable abbrev cI:MSpec:=fa [none] [(false, .Gb tI)] false [none] [rL] (λx=>0<=x.1/\x.1<=20) (λx=>((upto x.1.toNat,()),()))
noncomputable abbrev a8:MSpec:=fa [none] [(false, .Gb tI)] false [none] [rL] (λx=>1<=x.1/\x.1<=20) (λx=>((upto x.1.toNat,()),()))
noncomputable abbrev Ol:Spec:=Hg (.pair tI .unit) tL false true (λx=>1<=x.1/\x.1<=20) (λx=>upto x.1.toNat)
noncomputable abbrev ui:Spec:=Hg (.pair tB .unit) .bool false true (λ_=>True) (λx=>decide ((List.length x.1:Int)>4096))
noncomputable abbrev Aeh:MSpec:= {ptr:=some (75,3),Ke:= [],ins:= [(false, .Gb tB),(false, .Gb tI),(false, .Gb MQ)],Hc:=false,Iw:= [some 3],outs:= [.Gb tB, .Gb tI, .Gb MQ, .Gb tI, .Gb .str,rLL],fn:= λ_=>none}
noncomputable abbrev uu:MSpec:=zb Aeh (λx=>cT x.1 x.2.1) (λx=>((x.1,(Zb x.1 x.2.1 x.2.2.1).1,(Zb x.1 x.2.1 x.2.2.1).2.1,(Zb x.1 x.2.1 x.2.2.1).2.2.1,(Zb x.1 x.2.1 x.2.2.1).2.2.2.1,(Zb x.1 x.2.1 x.2.2.1).2.2.2.2.1,()),()))
noncomputable abbrev Aeg:MSpec:= {ptr:=some (75,3),Ke:= [none],ins:= [(false, .Gb tB),(false, .Gb tI),(false, .Gb MQ),(false, .Gb tI)],Hc:=false,Iw:= [none],outs:= [.Gb tB, .Gb tI, .Gb MQ, .Gb tI],fn:= λ_=>none}
noncomputable abbrev ur:MSpec:=zb Aeg (λx=>cT x.1 x.2.1/\1<=x.2.2.2.1/\x.2.2.2.1<=8) (λx=>((x.1,(Yb x.1 x.2.1 x.2.2.1 x.2.2.2.1).1,(Yb x.1 x.2.1 x.2.2.1 x.2.2.2.1).2.1,(Yb x.1 x.2.1 x.2.2.1 x.2.2.2.1).2.2,()),()))
noncomputable abbrev Aej:MSpec:= {ptr:=some (75,3),Ke:= [none,none],ins:= [(false, .Gb tB),(false, .Gb tI),(false, .Gb MQ),(false, .Gb tI),(false, .Gb tI)],Hc:=false,Iw:= [none],outs:= [.Gb tB, .Gb tI, .Gb MQ,rL],fn:= λ_=>none}
noncomputable abbrev o0:MSpec:=zb Aej (λx=>cT x.1 x.2.1/\(1<=x.2.2.2.1/\x.2.2.2.1<=8)/\0<=x.2.2.2.2.1/\x.2.2.2.2.1<=20) (λx=>((x.1,(Ub x.1 x.2.1 x.2.2.1 x.2.2.2.1 x.2.2.2.2.1).1,(Ub x.1 x.2.1 x.2.2.1 x.2.2.2.1 x.2.2.2.2.1).2.1,(Ub x.1 x.2.1 x.2.2.1 x.2.2.2.1 x.2.2.2.2.1).2.2,()),()))
theorem Ab7 (code:List Int) (EL:Int) (P:((List Int×Int×Int×Unit)×Unit)->Prop):(Ek (λ(v3:Int×List Int×Int×Int×PUnit) (k4:Int×List Int×Int×Int×PUnit->Prop)=>Br (decide (v3.1<(↑code.length:Int))) (∃(y5:Int),idx code v3.1=some y5/\k4 (IntKind.i64.wrap (v3.1+(1:Int)),v3.2.1,v3.2.2.1,IntKind.u64.wrap (IntKind.u64.wrap (IntKind.u64.wrap (v3.2.2.2.1*(1099511628211:Int))+IntKind.u64.wrap y5)+(3:Int)),())) (P ((v3.2.1,v3.2.2.1,v3.2.2.2.1,()),()))) ((0:Int),code,Int.ofNat (nat_lit 0),IntKind.u64.wrap (IntKind.u64.wrap (EL*(7919:Int))+IntKind.u64.wrap (↑code.length:Int)),PUnit.unit))=fnMW Ot (look []) mW Try.f11 (code,EL,()) P:=by kernel_rfl
theorem VT (b:List Int) (i h n:Int) (P:((List Int×Int×Int×Int×Unit)×Unit)->Prop):(¬(33:Int)<(0:Int)/\Br (decide (i<(↑b.length:Int))) (∃(y5:Int),idx b i=some y5/\n≠(0:Int)/\P ((b,IntKind.i64.wrap (i+(1:Int)),IntKind.u64.wrap (IntKind.u64.wrap (h*(6364136223846793005:Int))+(1442695040888963407:Int)),(IntKind.i64.wrap (IntKind.i64.wrap (IntKind.u64.wrap (↑(BitVec.ofInt IntKind.u64.bits ((IntKind.u64.wrap (IntKind.u64.wrap (h*(6364136223846793005:Int))+(1442695040888963407:Int))).fdiv ((2:Int)^min (Int.toNat (33:Int)) IntKind.u64.bits))&&&BitVec.ofInt IntKind.u64.bits (16777215:Int)).toNat:Int))+IntKind.i64.wrap y5)).tmod n,()),())) (n≠(0:Int)/\P ((b,i,IntKind.u64.wrap (IntKind.u64.wrap (h*(6364136223846793005:Int))+(1442695040888963407:Int)),(IntKind.i64.wrap (IntKind.u64.wrap (↑(BitVec.ofInt IntKind.u64.bits ((IntKind.u64.wrap (IntKind.u64.wrap (h*(6364136223846793005:Int))+(1442695040888963407:Int))).fdiv ((2:Int)^min (Int.toNat (33:Int)) IntKind.u64.bits))&&&BitVec.ofInt IntKind.u64.bits (16777215:Int)).toNat:Int))).tmod n,()),())))=fnMW Ot (look []) Ky Try.f17 (b,i,h,n,()) P:=by kernel_rfl
theorem FM (a b:List Int) (P:Bool->Prop):(Br ((↑a.length:Int) !=(↑b.length:Int)) (P false) (Ek (λ(v3:Int×PUnit) (k4:Int×PUnit->Prop)=>Br (decide (v3.1<(↑a.length:Int))) (∃(y5:Int),idx a v3.1=some y5/\ ∃(y6:Int),idx b v3.1=some y6/\Br (y5 !=y6) (P false) (k4 (IntKind.i64.wrap (v3.1+(1:Int)),()))) (P true)) ((0:Int),PUnit.unit)))=fnW Fz (look []) Pj Try.f15 (a,b,()) P:=by kernel_rfl
theorem Af7 (code:List Int) (P:Bool->Prop):(P (decide ((↑code.length:Int)>(4096:Int))))=fnW Fz (look []) ui Try.f10 (code,()) P:=by kernel_rfl
theorem SH (n:Int) (P:((List Int×Unit)×Unit)->Prop):(0=0/\0=([]:List Int).length/\Ek (λ(v2:Int×List Int×PUnit) (k3:Int×List Int×PUnit->Prop)=>Br (decide (v2.1<n)) (0=0/\v2.2.1.length=v2.2.1.length/\v2.2.1.length+(List.take 1 (List.drop 0 [v2.1])).length<=Fu/\0=0/\(v2.2.1++List.take 1 (List.drop 0 [v2.1])).length=(v2.2.1++List.take 1 (List.drop 0 [v2.1])).length/\k3 (IntKind.i64.wrap (v2.1+(1:Int)),v2.2.1++List.take 1 (List.drop 0 [v2.1]),())) (P ((List.take v2.2.1.length (List.drop 0 v2.2.1),()),()))) ((0:Int),[],PUnit.unit))=fnMW Ot (look []) cI Try.f66 (n,()) P:=by kernel_rfl
theorem LZ (n:Int) (P:((List Int×Unit)×Unit)->Prop):(∃(y2:Bool),Dh.fn (n,(1:Int),(20:Int),())=some y2/\Br (!y2) (P ((List.take 0 (List.drop 0 []),()),())) (∃(y3:(List Int×PUnit)×PUnit),cI.fn (n,())=some y3/\P ((List.take y3.1.1.length (List.drop 0 y3.1.1),()),())))=fnMW Ot (look [(65,Dh),(66,cI)]) a8 Try.f16 (n,()) P:=by kernel_rfl
theorem SN (n:Int) (P:List Int->Prop):(∃(y2:Bool),Dh.fn (n,(1:Int),(20:Int),())=some y2/\Br (!y2) (P (List.take 0 (List.drop 0 []))) (∃(y3:List Int),Cv.fn (n,())=some y3/\P y3))=fnW Fz (look [(65,Dh),(66,Cv)]) Ol Try.f16 (n,()) P:=by kernel_rfl
abbrev RN:Type:=Int×Int×ByteArray×Int×ByteArray×List (List Int)×List (List Int)×List Int×List Int×Int×Int×PUnit
abbrev RP:Type:=Int×ByteArray×Int×ByteArray×List (List Int)×List (List Int)×List Int×Int×Int×PUnit
abbrev xd:Type:=(List Int×Int×Int×Int×PUnit)×PUnit
theorem Afe (b:List Int) (i h:Int) (P:((List Int×Int×Int×Int×ByteArray×List (List Int)×Unit)×Unit)->Prop):(∃(y4:xd),Ky.fn (b,i,h,(3:Int),())=some y4/\0=0/\0=([]:List Int).length/\0=0/\0=([]:List Int).length/\Ek (λ(v5:RP) (k6:RP->Prop)=>Br (decide ((↑v5.2.2.2.2.2.1.length:Int)<(2:Int))) (∃(y7:(List Int×PUnit)×PUnit),a8.fn (v5.2.2.1,())=some y7/\ ∃(y8:xd),Ky.fn (v5.2.2.2.2.2.2.1,v5.2.2.2.2.2.2.2.1,v5.2.2.2.2.2.2.2.2.1,(3:Int),())=some y8/\0=0/\y7.1.1.length=y7.1.1.length/\0=0/\v5.2.2.2.2.1.length=v5.2.2.2.2.1.length/\0=0/\v5.2.2.2.2.2.1.length=v5.2.2.2.2.2.1.length/\Ek (λ(v9:RN) (k10:RN->Prop)=>Br (decide (v9.1>(0:Int))) (∃(Xr:xd),Ky.fn (v9.2.2.2.2.2.2.2.2.1,v9.2.2.2.2.2.2.2.2.2.1,v9.2.2.2.2.2.2.2.2.2.2.1,v9.2.2.2.1,())=some Xr/\ ∃(Yv:xd),Ky.fn (Xr.1.1,Xr.1.2.1,Xr.1.2.2.1,v9.2.2.2.1,())=some Yv/\((0:Int)<=Xr.1.2.2.2.1/\Xr.1.2.2.2.1<(↑v9.2.2.2.2.2.2.2.1.length:Int))/\ ∃(TJ:Int),v9.2.2.2.2.2.2.2.1[0+Xr.1.2.2.2.1.toNat]?=some TJ/\((0:Int)<=Yv.1.2.2.2.1/\Yv.1.2.2.2.1<(↑v9.2.2.2.2.2.2.2.1.length:Int))/\ ∃(MF:Int),v9.2.2.2.2.2.2.2.1[0+Yv.1.2.2.2.1.toNat]?=some MF/\((0:Int)<=Xr.1.2.2.2.1/\Xr.1.2.2.2.1<(↑v9.2.2.2.2.2.2.2.1.length:Int))/\0+Xr.1.2.2.2.1.toNat<v9.2.2.2.2.2.2.2.1.length/\((0:Int)<=Yv.1.2.2.2.1/\Yv.1.2.2.2.1<(↑v9.2.2.2.2.2.2.2.1.length:Int))/\0+Yv.1.2.2.2.1.toNat<(v9.2.2.2.2.2.2.2.1.set (0+Xr.1.2.2.2.1.toNat) MF).length/\0=0/\v9.2.2.2.2.2.2.2.1.length=((v9.2.2.2.2.2.2.2.1.set (0+Xr.1.2.2.2.1.toNat) MF).set (0+Yv.1.2.2.2.1.toNat) TJ).length/\0=0/\v9.2.2.2.2.2.1.length=v9.2.2.2.2.2.1.length/\0=0/\v9.2.2.2.2.2.2.1.length=v9.2.2.2.2.2.2.1.length/\k10 (IntKind.i64.wrap (v9.1-(1:Int)),v9.2.1,v9.2.2.1,v9.2.2.2.1,v9.2.2.2.2.1,v9.2.2.2.2.2.1,v9.2.2.2.2.2.2.1,(v9.2.2.2.2.2.2.2.1.set (0+Xr.1.2.2.2.1.toNat) MF).set (0+Yv.1.2.2.2.1.toNat) TJ,Yv.1.1,Yv.1.2.1,Yv.1.2.2.1,())) (0=0/\v9.2.2.2.2.2.2.1.length=v9.2.2.2.2.2.2.1.length/\v9.2.2.2.2.2.2.1.length+(List.take 1 (List.drop 0 [List.take v9.2.2.2.2.2.2.2.1.length (List.drop 0 v9.2.2.2.2.2.2.2.1)])).length<=Fu/\0=0/\v9.2.2.2.2.2.1.length=v9.2.2.2.2.2.1.length/\0=0/\(v9.2.2.2.2.2.2.1++List.take 1 (List.drop 0 [List.take v9.2.2.2.2.2.2.2.1.length (List.drop 0 v9.2.2.2.2.2.2.2.1)])).length=(v9.2.2.2.2.2.2.1++List.take 1 (List.drop 0 [List.take v9.2.2.2.2.2.2.2.1.length (List.drop 0 v9.2.2.2.2.2.2.2.1)])).length/\k6 (v9.2.1,v9.2.2.1,v9.2.2.2.1,v9.2.2.2.2.1,v9.2.2.2.2.2.1,v9.2.2.2.2.2.2.1++List.take 1 (List.drop 0 [List.take v9.2.2.2.2.2.2.2.1.length (List.drop 0 v9.2.2.2.2.2.2.2.1)]),v9.2.2.2.2.2.2.2.2.1,v9.2.2.2.2.2.2.2.2.2.1,v9.2.2.2.2.2.2.2.2.2.2.1,()))) (IntKind.i64.wrap ((1:Int)+y8.1.2.2.2.1),v5.1,v5.2.1,v5.2.2.1,v5.2.2.2.1,v5.2.2.2.2.1,v5.2.2.2.2.2.1,y7.1.1,y8.1.1,y8.1.2.1,y8.1.2.2.1,PUnit.unit)) (P ((v5.2.2.2.2.2.2.1,v5.2.2.2.2.2.2.2.1,v5.2.2.2.2.2.2.2.2.1,v5.2.2.1,v5.2.2.2.1,List.take v5.2.2.2.2.2.1.length (List.drop 0 v5.2.2.2.2.2.1),()),()))) (Int.ofNat (nat_lit 0), {data:= #[]},IntKind.i64.wrap ((3:Int)+y4.1.2.2.2.1), {data:= #[(65:UInt8),(66:UInt8)]},[],[],y4.1.1,y4.1.2.1,y4.1.2.2.1,PUnit.unit))=fnMW Ot (look [(17,Ky),(16,a8)]) uu Try.f12 (b,i,h,()) P:=by kernel_rfl
abbrev RM:Type:=(List Int×Int×Int×Int×PUnit)×PUnit
theorem Afd (b:List Int) (i h m:Int) (P:((List Int×Int×Int×Int×Unit)×Unit)->Prop):(∃(y5:RM),Ky.fn (b,i,h,m,())=some y5/\ ∃(y6:RM),Ky.fn (y5.1.1,y5.1.2.1,y5.1.2.2.1,(2:Int),())=some y6/\Br (y6.1.2.2.2.1==(0:Int)) (P ((y6.1.1,y6.1.2.1,y6.1.2.2.1,IntKind.i64.wrap ((0:Int)-IntKind.i64.wrap ((1:Int)+y5.1.2.2.2.1)),()),())) (P ((y6.1.1,y6.1.2.1,y6.1.2.2.1,IntKind.i64.wrap ((1:Int)+y5.1.2.2.2.1),()),())))=fnMW Ot (look [(17,Ky)]) ur Try.f138 (b,i,h,m,()) P:=by kernel_rfl
abbrev RO:Type:=Int×List Int×List Int×Int×Int×PUnit
abbrev RQ:Type:=(List Int×Int×Int×Int×PUnit)×PUnit
theorem Afg (b:List Int) (i h m k:Int) (P:((List Int×Int×Int×List Int×Unit)×Unit)->Prop):(∃(y6:RQ),Ky.fn (b,i,h,IntKind.i64.wrap (k+(1:Int)),())=some y6/\0=0/\0=([]:List Int).length/\Ek (λ(v7:RO) (k8:RO->Prop)=>Br (decide (v7.1>(0:Int))) (∃(y9:RQ),ur.fn (v7.2.2.1,v7.2.2.2.1,v7.2.2.2.2.1,m,())=some y9/\0=0/\v7.2.1.length=v7.2.1.length/\v7.2.1.length+(List.take 1 (List.drop 0 [y9.1.2.2.2.1])).length<=Fu/\0=0/\(v7.2.1++List.take 1 (List.drop 0 [y9.1.2.2.2.1])).length=(v7.2.1++List.take 1 (List.drop 0 [y9.1.2.2.2.1])).length/\k8 (IntKind.i64.wrap (v7.1-(1:Int)),v7.2.1++List.take 1 (List.drop 0 [y9.1.2.2.2.1]),y9.1.1,y9.1.2.1,y9.1.2.2.1,())) (P ((v7.2.2.1,v7.2.2.2.1,v7.2.2.2.2.1,List.take v7.2.1.length (List.drop 0 v7.2.1),()),()))) (y6.1.2.2.2.1,[],y6.1.1,y6.1.2.1,y6.1.2.2.1,PUnit.unit))=fnMW Ot (look [(17,Ky),(138,ur)]) o0 Try.f62 (b,i,h,m,k,()) P:=by kernel_rfl
theorem YA (h:Int):0<=xN h/\xN h<=16777215:=by
 obtain ⟨a,ha⟩: ∃a,BitVec.ofInt IntKind.u64.bits (h.fdiv ((2:Int)^min (Int.toNat (33:Int)) IntKind.u64.bits))=a:=⟨_,rfl⟩
 have h1:(a&&&BitVec.ofInt IntKind.u64.bits (16777215:Int)).toNat<=16777215:=by
  rw [BitVec.toNat_and]
  exact Nat.and_le_right
 unfold xN
 rw [ha]
 obtain ⟨x,hx⟩: ∃x,(a&&&BitVec.ofInt IntKind.u64.bits (16777215:Int)).toNat=x:=⟨_,rfl⟩
 rw [hx] at h1⊢
 have e:IntKind.u64.wrap (x:Int)=x:=by
  unfold IntKind.wrap
  have e1:IntKind.signed .u64=false:=rfl
  have e2:IntKind.bits .u64=64:=rfl
  rw [e1,e2]
  simp only [Xg,Cy,Sl]
  omega
 rw [e,Cs (by omega) (by omega)]
 omega
theorem cT.Jb {b:List Int} {i:Int} (h:cT b i) (hi:i<b.length):0<=Jb b i/\Jb b i<256:=by
 have h0:=h.lo
 have hl:i.toNat<b.length:=by omega
 refine h.byte _ ?_
 unfold Go.Proofs.Ytkkdpknjohcekaa.Jb
 rw [Al,Ac hl]
 exact Ak hl
theorem cT.next {b:List Int} {i:Int} (h:cT b i):cT b (dI b i):=by
 have h0:=h.lo
 have h1:=h.hi
 unfold dI
 split
 ·exact ⟨h.len,h.byte,by omega,by omega⟩
 ·exact h
theorem en {b:List Int} {i n:Int} (h:cT b i) (hn:1<=n) (s:Int):0<=dR b i s n/\dR b i s n<n:=by
 have hx:=YA (hN s)
 unfold dR
 split
 ·rename_i hi
  have:=h.Jb hi
  exact ⟨Int.tmod_nonneg _ (by omega),Int.tmod_lt_of_pos _ (by omega)⟩
 ·exact ⟨Int.tmod_nonneg _ (by omega),Int.tmod_lt_of_pos _ (by omega)⟩
theorem Aak (code:List Int) (EL:Int) (h:code.length<=4096):fnMW Ot (look []) mW Try.f11 (code,EL,()) (λ(z:(List Int×Int×Int×Unit)×Unit)=>z=((code,0,mH code EL,()),())):=by
 obtain ⟨R,hR⟩: ∃R,mH code EL=R:=⟨_,rfl⟩
 rw [hR]
 unfold mH at hR
 refine Eq.mp (Ab7 code EL _) ?_
 refine Cu code.length (λv=>v.1) (λj v=>v.2.1=code/\v.2.2.1=0/\zB (code.drop j) v.2.2.2.1=R) rfl ⟨rfl,rfl,hR⟩ ?_
 rintro j ⟨jj,c,i,s,⟨⟩⟩ K hj oT ⟨r1,r2,r3⟩ hK
 dsimp only at oT r1 r2 r3⊢
 subst oT r1 r2
 refine Br.dec (λhl=>?_) λhl=>?_
 ·have hl:j<c.length:=by omega
  refine ⟨_,Df hl,?_⟩
  rw [Dw (by omega)]
  rw [Bu hl,zB] at r3
  exact hK hl _ rfl ⟨rfl,rfl,r3⟩
 ·have:j=c.length:=by omega
  subst this
  rw [Oq,zB] at r3
  rw [r3]
theorem ES:Dx Try.prog 11 mW:=
 Dx.zb Np Bt mixed Try.func11 (by kernel_rfl) (by kernel_rfl) λx h=>Aak x.1 x.2.1 h
theorem VE (b:List Int) (i h n:Int) (hd:cT b i/\1<=n):fnMW Ot (look []) Ky Try.f17 (b,i,h,n,()) (λ(z:(List Int×Int×Int×Int×Unit)×Unit)=>z=((b,dI b i,hN h,dR b i h n,()),())):=by
 obtain ⟨hd,hn⟩:=hd
 have h0:=hd.lo
 have hlen:=hd.len
 have hx:=YA (hN h)
 refine Eq.mp (VT b i h n _) ⟨by omega,Br.dec (λhl=>?_) λhl=>?_⟩
 ·have hg:=hd.Jb hl
  refine ⟨_,cy h0 hl,by omega,?_⟩
  rw [Cs (n:=Jb b i) (by omega) (by omega)]
  show ((b,IntKind.i64.wrap (i+1),hN h,(IntKind.i64.wrap (xN (hN h)+Jb b i)).tmod n,()),())=_
  rw [Cs (by omega) (by omega),Cs (by omega) (by omega)]
  unfold dI dR
  rw [Ab hl,Ab hl]
 ·refine ⟨by omega,?_⟩
  show ((b,i,hN h,(xN (hN h)).tmod n,()),())=_
  unfold dI dR
  rw [Ai hl,Ai hl]
theorem bz:Dx Try.prog 17 Ky:=
 Dx.zb Np Bt mixed Try.func17 (by kernel_rfl) (by kernel_rfl) λx h=>VE x.1 x.2.1 x.2.2.1 x.2.2.2.1 h
theorem Aeo (code:List Int) (_:True):fnW Fz (look []) ui Try.f10 (code,()) (λ(z:Bool)=>z=decide ((code.length:Int)>4096)):=Eq.mp (Af7 code _) rfl
theorem KR:Sound Try.prog 10 ui:=
 Sound.Hg Ef Bt mixed Try.func10 (by kernel_rfl) (by kernel_rfl) λx h=>Aeo x.1 h
theorem Aeu (b:List Int) (i h m:Int) (hd:cT b i/\1<=m/\m<=8):fnMW Ot (look [(17,Ky)]) ur Try.f138 (b,i,h,m,()) (λ(z:(List Int×Int×Int×Int×Unit)×Unit)=>z=((b,(Yb b i h m).1,(Yb b i h m).2.1,(Yb b i h m).2.2,()),())):=by
 obtain ⟨hd,h1,h8⟩:=hd
 have hr:=en hd h1 h
 refine Eq.mp (Afd b i h m _) ⟨_,Ab ⟨hd,h1⟩,_,Ab ⟨hd.next,by show (1:Int)<=2;decide⟩,Br.of (λhz=>?_) λhz=>?_⟩
 ·have hz:dR b (dI b i) (hN h) 2=0:=by simpa using hz
  show ((b,dI b (dI b i),hN (hN h),IntKind.i64.wrap (0-IntKind.i64.wrap (1+dR b i h m)),()),())=_
  rw [Cs (n:=1+dR b i h m) (by omega) (by omega),Cs (by omega) (by omega)]
  unfold Yb
  rw [Ab hz,Int.zero_sub]
 ·have hz: ¬dR b (dI b i) (hN h) 2=0:=by simpa using hz
  show ((b,dI b (dI b i),hN (hN h),IntKind.i64.wrap (1+dR b i h m),()),())=_
  rw [Cs (by omega) (by omega)]
  unfold Yb
  rw [Ai hz]
theorem KX:Dx Try.prog 138 ur:=
 Dx.zb Np (Hl bz Bt) mixed Try.func138 (by kernel_rfl) (by kernel_rfl) λx h=>Aeu x.1 x.2.1 x.2.2.1 x.2.2.2.1 h
theorem DT (a b:List Int) (h:short a/\short b):fnW Fz (look []) Pj Try.f15 (a,b,()) (λ(z:Bool)=>z=Oy a b):=by
 refine Eq.mp (FM a b _) ⟨λhl=>?_,λhl=>?_⟩
 ·simp only [bne_iff_ne,ne_eq,Ll] at hl
  exact (Ht λou=>hl (by rw [ou])).symm
 ·simp only [We,Ll] at hl
  exact vh a b hl h.1
theorem qZ:Sound Try.prog 15 Pj:=
 Sound.Hg Ef Bt mixed Try.func15 (by kernel_rfl) (by kernel_rfl) λx h=>DT x.1 x.2.1 h
theorem QK (n:Int) (h:0<=n/\n<=20):fnMW Ot (look []) cI Try.f66 (n,()) (λ(z:(List Int×Unit)×Unit)=>z=((upto n.toNat,()),())):=by
 refine Eq.mp (SH n _) ⟨rfl,rfl,?_⟩
 refine Cu n.toNat (λv=>v.1) (λj v=>v.2.1=upto j) rfl rfl ?_
 rintro j ⟨i,ys,⟨⟩⟩ K hj hi h1 hK
 dsimp only at hi h1⊢
 subst hi h1
 refine Br.dec (λhl=>?_) λhl=>?_
 ·refine ⟨rfl,rfl,?_,rfl,rfl,?_⟩
  ·show (upto j).length+1<=4294967296
   rw [Jj];omega
  ·rw [Dw (by omega)]
   exact hK (by omega) _ rfl (iq j).symm
 ·have:j=n.toNat:=by omega
  subst this
  rw [Di]
theorem wV:Dx Try.prog 66 cI:=
 Dx.fa Np Bt mixed Try.func66 (by kernel_rfl) (by kernel_rfl) λx h=>QK x.1 h
theorem KD (n:Int) (h:1<=n/\n<=20):fnMW Ot (look [(65,Dh),(66,cI)]) a8 Try.f16 (n,()) (λ(z:(List Int×Unit)×Unit)=>z=((upto n.toNat,()),())):=by
 refine Eq.mp (LZ n _) ⟨true,Ab trivial|>.trans (Jt some (Dg ⟨h.1,h.2⟩)),λhc=>(by cases hc),λ_=>⟨_,Ab ⟨by show 0<=n;omega,h.2⟩,?_⟩⟩
 rw [Di]
theorem sG:Dx Try.prog 16 a8:=
 Dx.fa Np (Au Sy (Hl wV Bt)) mixed Try.func16 (by kernel_rfl) (by kernel_rfl) λx h=>KD x.1 h
theorem QQ (n:Int) (h:1<=n/\n<=20):fnW Fz (look [(65,Dh),(66,Cv)]) Ol Try.f16 (n,()) (λ(z:List Int)=>z=upto n.toNat):=
 Eq.mp (SN n _) ⟨true,Ab trivial|>.trans (Jt some (Dg ⟨h.1,h.2⟩)),λhc=>(by cases hc),λ_=>⟨_,Ab ⟨by show 0<=n;omega,h.2⟩,rfl⟩⟩
theorem lU:Sound Try.prog 16 Ol:=
 Sound.Hg Ef (Au Sy (Au Vo Bt)) mixed Try.func16 (by kernel_rfl) (by kernel_rfl) λx h=>QQ x.1 h
theorem HX {b:List Int} {i:Int} (hd:cT b i) (h m:Int):cT b (Yb b i h m).1:=hd.next.next
theorem Aex (b:List Int) (i h m k:Int) (hd:cT b i/\(1<=m/\m<=8)/\0<=k/\k<=20):fnMW Ot (look [(17,Ky),(138,ur)]) o0 Try.f62 (b,i,h,m,k,()) (λ(z:(List Int×Int×Int×List Int×Unit)×Unit)=>z=((b,(Ub b i h m k).1,(Ub b i h m k).2.1,(Ub b i h m k).2.2,()),())):=by
 obtain ⟨hd,hm,rW,hk⟩:=hd
 have hr:=en hd (show 1<=k+1 by omega) h
 obtain ⟨R,hR⟩: ∃R,Ub b i h m k=R:=⟨_,rfl⟩
 rw [hR]
 unfold Ub at hR
 refine Eq.mp (Afg b i h m k _) ?_
 rw [Cs (by omega) (by omega)]
 refine ⟨_,Ab ⟨hd,by show 1<=k+1;omega⟩,rfl,rfl,?_⟩
 refine Ek.mk (λy=> ∃(f:Nat) (i h:Int) (w:List Int),y=((f:Int),w,b,i,h,())/\cT b i/\f+w.length<=20/\SB b m f i h w=R) (λy=>y.1.toNat)
  ⟨(dR b i h (k+1)).toNat,dI b i,hN h,[],by rw [Int.toNat_of_nonneg hr.1],hd.next,by simp only [Hr];omega,hR⟩ ?_
 rintro y ⟨f,i,h,w,rfl,hd,hl,hv⟩
 dsimp only
 refine Br.dec (λhf=>?_) λhf=>?_
 ·obtain ⟨f,rfl⟩: ∃f',f=f'+1:=⟨f-1,by omega⟩
  refine ⟨_,Ab ⟨hd,hm⟩,rfl,rfl,by show w.length+1<=4294967296;omega,rfl,rfl,?_⟩
  rw [Cs (by omega) (by omega)]
  rw [SB] at hv
  exact ⟨⟨f,_,_,_,by rw [show ((f+1:Nat):Int)-1=(f:Int) by omega];rfl,HX hd h m,by rw [Ay];show f+(w.length+1)<=20;omega,hv⟩,by show ((((f+1:Nat):Int)-1).toNat)<(((f+1:Nat):Int)).toNat;omega⟩
 ·obtain rfl:f=0:=by omega
  rw [SB] at hv
  rw [<-hv]
  simp only [Di]
theorem LC:Dx Try.prog 62 o0:=
 Dx.zb Np (Hl bz (Hl KX Bt)) mixed Try.func62 (by kernel_rfl) (by kernel_rfl) λx h=>Aex x.1 x.2.1 x.2.2.1 x.2.2.2.1 x.2.2.2.2.1 h
theorem zS {b:List Int} (n:Int): ∀(k:Nat) (i h:Int) (mv:List Int),cT b i->cT b (dW b n k i h mv).1
 |0,_,_,_,hd=>hd
 |k+1,i,h,mv,hd=>by rw [dW];exact zS n k _ _ _ hd.next.next
theorem qq {b:List Int} {n i:Int} (hd:cT b i) (h:Int):cT b (mI b n i h).1:=zS n _ _ _ _ hd.next
theorem HI (b:List Int) (n:Int): ∀(k:Nat) (i h:Int) (ms:List (List Int)),(Zc b n k i h ms).2.2.length=k+ms.length
 |0,_,_,ms=>by rw [Zc];show ms.length=0+ms.length;omega
 |k+1,i,h,ms=>by rw [Zc,HI b n k,Ay,Ck];omega
theorem HH {b:List Int} (n:Int): ∀(k:Nat) (i h:Int) (ms:List (List Int)),cT b i->cT b (Zc b n k i h ms).1
 |0,_,_,_,hd=>hd
 |k+1,i,h,ms,hd=>by rw [Zc];exact HH n k _ _ _ (qq hd h)
theorem Ac8 {xs:List Int} {y:Int} (h0:0<=y) (h:y<xs.length):xs[0+y.toNat]?=some (Jb xs y):=by
 have hl:y.toNat<xs.length:=by omega
 unfold Jb
 rw [Db,Al,Ac hl]
 rfl
theorem Aev (b:List Int) (i h:Int) (hd:cT b i):fnMW Ot (look [(17,Ky),(16,a8)]) uu Try.f12 (b,i,h,()) (λ(z:(List Int×Int×Int×Int×ByteArray×List (List Int)×Unit)×Unit)=>z=((b,(Zb b i h).1,(Zb b i h).2.1,(Zb b i h).2.2.1,(Zb b i h).2.2.2.1,(Zb b i h).2.2.2.2.1,()),())):=by
 have hr:=en hd (show (1:Int)<=3 by decide) h
 obtain ⟨n,hn⟩: ∃n,3+dR b i h 3=n:=⟨_,rfl⟩
 obtain ⟨R,hR⟩: ∃R,Zc b n 2 (dI b i) (hN h) []=R:=⟨_,rfl⟩
 have hm:Zb b i h=(R.1,R.2.1,(n,QB,R.2.2,())):=by unfold Zb;rw [hn,hR]
 rw [hm]
 refine Eq.mp (Afe b i h _) ⟨_,Ab ⟨hd,by show (1:Int)<=3;decide⟩,rfl,rfl,rfl,rfl,?_⟩
 dsimp only
 rw [Cs (n:=3+dR b i h 3) (by omega) (by omega),hn]
 have hn3:3<=n/\n<=5:=by omega
 refine Ek.mk (λy=> ∃(f:Nat) (i h:Int) (ms:List (List Int)),y=((0:Int), {data:= #[]},n,QB,[],ms,b,i,h,())/\cT b i/\f+ms.length=2/\Zc b n f i h ms=R) (λy=>2-y.2.2.2.2.2.1.length)
  ⟨2,dI b i,hN h,[],rfl,hd.next,rfl,hR⟩ ?_
 rintro y ⟨f,i,h,ms,rfl,hd,hl,hv⟩
 dsimp only
 refine Br.dec (λhf=>?_) λhf=>?_
 ·obtain ⟨f,rfl⟩: ∃f',f=f'+1:=⟨f-1,by omega⟩
  rw [Zc] at hv
  obtain ⟨M,hM⟩: ∃M,mI b n i h=M:=⟨_,rfl⟩
  have hMd:cT b M.1:=by rw [<-hM];exact qq hd h
  rw [hM] at hv
  unfold mI at hM
  have hr:=en hd (show (1:Int)<=3 by decide) h
  refine ⟨_,Ab ⟨by show 1<=n;omega,by show n<=20;omega⟩,_,Ab ⟨hd,by show (1:Int)<=3;decide⟩,rfl,rfl,rfl,rfl,rfl,rfl,?_⟩
  dsimp only
  rw [Cs (n:=1+dR b i h 3) (by omega) (by omega)]
  refine Ek.mk (λz=> ∃(c:Nat) (i h:Int) (mv:List Int),z=((c:Int),(0:Int), {data:= #[]},n,QB,[],ms,mv,b,i,h,())/\cT b i/\c<=3/\mv.length=n.toNat/\dW b n c i h mv=M) (λz=>z.1.toNat)
   ⟨(1+dR b i h 3).toNat,dI b i,hN h,upto n.toNat,by rw [Int.toNat_of_nonneg (by omega)],hd.next,by omega,Jj _,hM⟩ ?_
  rintro z ⟨c,i',h',mv,rfl,AZ,hc,fS,hsw⟩
  dsimp only
  refine Br.dec (λko=>?_) λko=>?_
  ·obtain ⟨c,rfl⟩: ∃c',c=c'+1:=⟨c-1,by omega⟩
   rw [dW] at hsw
   have r1:=en AZ (show 1<=n by omega) h'
   have r2:=en AZ.next (show 1<=n by omega) (hN h')
   have l1:dR b i' h' n<mv.length:=by omega
   have l2:dR b (dI b i') (hN h') n<mv.length:=by omega
   refine ⟨_,Ab ⟨AZ,by show 1<=n;omega⟩,_,Ab ⟨AZ.next,by show 1<=n;omega⟩,⟨r1.1,l1⟩,_,Ac8 r1.1 l1,⟨r2.1,l2⟩,_,Ac8 r2.1 l2,⟨r1.1,l1⟩,by show 0+(dR b i' h' n).toNat<mv.length;omega,⟨r2.1,l2⟩,
    by rw [Ce];show 0+(dR b (dI b i') (hN h') n).toNat<mv.length;omega,rfl,by simp only [Ce],rfl,rfl,rfl,rfl,?_⟩
   dsimp only
   rw [Cs (by omega) (by omega),Db,Db]
   exact ⟨⟨c,_,_,_,by rw [show ((c+1:Nat):Int)-1=(c:Int) by omega],AZ.next.next,by omega,by simp only [Ce];exact fS,hsw⟩,by show ((((c+1:Nat):Int)-1).toNat)<(((c+1:Nat):Int)).toNat;omega⟩
  ·obtain rfl:c=0:=by omega
   rw [dW] at hsw
   subst hsw
   refine ⟨rfl,rfl,by show ms.length+1<=4294967296;omega,rfl,rfl,rfl,rfl,?_⟩
   rw [Di]
   exact ⟨⟨f,_,_,_,rfl,hMd,by rw [Ay];show f+(ms.length+1)=2;omega,hv⟩,by show 2-(ms++ [mv]).length<2-ms.length;rw [Ay,Ck];omega⟩
 ·obtain rfl:f=0:=by omega
  rw [Zc] at hv
  rw [<-hv]
  simp only [Di]
theorem KY:Dx Try.prog 12 uu:=
 Dx.zb Np (Hl bz (Hl sG Bt)) mixed Try.func12 (by kernel_rfl) (by kernel_rfl) λx h=>Aev x.1 x.2.1 x.2.2.1 h
end Go.Proofs.Ytkkdpknjohcekaa
