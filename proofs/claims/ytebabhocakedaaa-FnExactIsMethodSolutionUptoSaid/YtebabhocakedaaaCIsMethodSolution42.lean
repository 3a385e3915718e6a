/-
  Part 43 of the proof that the statement FnExactIsMethodSolution holds.
-/
import Derived.Test.YtebabhocakedaaaCIsMethodSolution41
namespace Go.Proofs.Ytebabhocakedaaa
open Go.RowKit
theorem Nd {α:Type} (xs:List α) (i j:Nat) (x d:α):(xs.set i x).getD j d=if i=j∧i<xs.length then x else xs.getD j d:=by
 rw [List.getD_eq_getElem?_getD,List.getElem?_set,List.getD_eq_getElem?_getD]
 by_cases e:i=j
 ·subst e
  by_cases h:i<xs.length
  ·rw [if_pos rfl,if_pos h,if_pos ⟨rfl,h⟩];rfl
  ·rw [if_pos rfl,if_neg h,if_neg (fun hh=>h hh.2),List.getElem?_eq_none (by omega)]
 ·rw [if_neg e,if_neg (fun hh=>e hh.1)]
theorem Gen.mono {n:Nat} {S S':List Int→Prop} (h: ∀g,S g→S' g) {p:List Int} (hp:Gen n S p):Gen n S' p:=by
 induction hp with
 |id=>exact .id
 |mul _ hg ih=>exact .mul ih (h _ hg)
 |inv _ hg ih=>exact .inv ih (h _ hg)
structure Og (n l:Nat) (gs:List PO) (row:Row):Prop where
 rl:row.length=n
 r0:row.getD l none=some (upto n)
 rt: ∀y t,row.getD y none=some t→Pm n t∧Fx l t∧ap t l=y∧Gn n gs t
def PG (n l:Nat) (gs:List PO):Prop:= ∀o∈gs,∃g,o=some g∧Pm n g∧Fx l g
structure Ext (n l:Nat) (gs:List PO) (row:Row) (q:List Int) (s':Row×List Int):Prop where
 ok:Og n l gs s'.1
 mono: ∀y t,row.getD y none=some t→s'.1.getD y none=some t
 phi:s'.2.length+Jr s'.1=q.length+Jr row
 old: ∀y∈q,y∈s'.2
 new: ∀y∈s'.2,y∈q∨ ∃yn:Nat,y=yn∧s'.1.getD yn none≠none
 src: ∀y:Nat,s'.1.getD y none≠none→row.getD y none≠none∨(y:Int)∈s'.2
theorem Ext.refl {n l:Nat} {gs:List PO} {row:Row} {q:List Int} (h:Og n l gs row):Ext n l gs row q (row,q):=⟨h,fun _ _ h=>h,rfl,fun _ h=>h,fun _ h=> .inl h,fun _ h=> .inl h⟩
theorem Vv {a b:Row} (h: ∀y t,a.getD y none=some t→b.getD y none=some t) {y:Nat} (hy:a.getD y none≠none):b.getD y none≠none:=by
 cases e:a.getD y none with
 |none=>exact absurd e hy
 |some t=>rw [h y t e];simp
theorem Ext.trans {n l:Nat} {gs:List PO} {row:Row} {q:List Int} {s1 s2:Row×List Int} (h:Ext n l gs row q s1) (k:Ext n l gs s1.1 s1.2 s2):Ext n l gs row q s2:=by
 refine ⟨k.ok,fun y t e=>k.mono y t (h.mono y t e),k.phi.trans h.phi,fun y hy=>k.old y (h.old y hy),fun y hy=>?_,fun y hy=>?_⟩
 ·rcases k.new y hy with h1|h1
  ·rcases h.new y h1 with h2|⟨yn,h2,h3⟩
   ·exact .inl h2
   ·exact .inr ⟨yn,h2,Vv k.mono h3⟩
  ·exact .inr h1
 ·rcases k.src y hy with h1|h1
  ·exact (h.src y h1).imp id fun h2=>k.old _ h2
  ·exact .inr h1
theorem Az4 {row:Row} {i:Nat} {t:List Int} (h:row.getD i none=none) (hi:i<row.length):Jr (row.set i (some t))+1=Jr row:=by
 unfold Jr
 have e:row[i]=none:=by
  rw [List.getD_eq_getElem?_getD,List.getElem?_eq_getElem hi] at h
  exact h
 have h1:=List.countP_set (p:=fun o:PO=>o.isNone) (l:=row) (i:=i) (a:=some t) hi
 have hpos:0<row.countP (·.isNone):=List.countP_pos_iff.2 ⟨row[i],List.getElem_mem hi,by rw [e];rfl⟩
 rw [h1,e]
 simp
 omega
theorem Bdw {n l:Nat} {gs:List PO} (hln:l<n) (hg:PG n l gs) {row:Row} {q:List Int} (h:Og n l gs row) {x:Nat} {t:List Int} (hx:row.getD x none=some t) {g:List Int} (ho:some g∈gs):
  Ext n l gs row q (Pv (x:Int) (row,q) (some g))∧(Pv (x:Int) (row,q) (some g)).1.getD (ap g x) none≠none:=by
 obtain ⟨g',e,hgp,hgf⟩:=hg _ ho
 cases e
 obtain ⟨t1,t2,t3,t4⟩:=h.rt _ _ hx
 have hxn:x<n:=by rw [←h.rl];exact Ahz hx
 obtain ⟨a1,a2⟩:=hgp.at' hxn
 unfold Pv
 simp only [Option.getD_some,a1,Int.toNat_natCast]
 cases e:row.getD (ap g x) none with
 |some u=>exact ⟨Ext.refl h,by simp only;rw [e];simp⟩
 |none=>
  simp only [hx,Option.getD_some]
  have hl:ap g x<row.length:=by rw [h.rl];exact a2
  have hS:PmS n fun g=>some g∈gs:=⟨⟨t1.n1,t1.n2⟩,fun g hg'=>by obtain ⟨g',e,h1,_⟩:=hg _ hg';cases e;exact h1⟩
  have Ac: ∀y,(row.set (ap g x) (some (Aa t g))).getD y none=if ap g x=y∧ap g x<row.length then some (Aa t g) else row.getD y none:=fun y=>Nd _ _ _ _ _
  have hne: ∀y u,row.getD y none=some u→ap g x≠y:=fun y u hu e'=>by rw [←e',e] at hu;cases hu
  refine ⟨⟨⟨by simp [h.rl],?_,fun y u hu=>?_⟩,fun y u hu=>?_,?_,fun y hy=>List.mem_append_left _ hy,fun y hy=>?_,fun y hy=>?_⟩,?_⟩
  ·rw [Ac,if_neg (fun hh=>hne l _ h.r0 hh.1)];exact h.r0
  ·rw [Ac] at hu
   split at hu
   ·rename_i hc
    cases hu
    exact ⟨t1.comp hgp,Fx.comp t1 hgp t2 hgf (by omega),by rw [Ey t1 hgp hln,t3];exact hc.1, .mul t4 ho⟩
   ·exact h.rt y u hu
  ·show (row.set (ap g x) (some (Aa t g))).getD y none=some u
   rw [Ac,if_neg (fun hh=>hne y u hu hh.1)];exact hu
  ·have:=Az4 (t:=Aa t g) e hl
   simp only [List.length_append,List.length_cons,List.length_nil]
   omega
  ·rcases List.mem_append.1 hy with hy|hy
   ·exact .inl hy
   ·simp only [List.mem_singleton] at hy
    exact .inr ⟨ap g x,hy,by show (row.set (ap g x) (some (Aa t g))).getD (ap g x) none≠none;rw [Ac,if_pos ⟨rfl,hl⟩];simp⟩
  ·have hy:(row.set (ap g x) (some (Aa t g))).getD y none≠none:=hy
   rw [Ac] at hy
   split at hy
   ·rename_i hc
    exact .inr (by show (y:Int)∈q++ [(ap g x:Int)];rw [←hc.1];simp)
   ·exact .inl hy
  ·show (row.set (ap g x) (some (Aa t g))).getD (ap g x) none≠none
   rw [Ac,if_pos ⟨rfl,hl⟩];simp
theorem Bc4 {n l:Nat} {gs:List PO} (hln:l<n) (hg:PG n l gs): ∀(gs':List PO) {row:Row} {q:List Int},(∀o∈gs',o∈gs)→Og n l gs row→ ∀ {x:Nat} {t:List Int},row.getD x none=some t→
  Ext n l gs row q (Pl (x:Int) gs' (row,q))∧ ∀g,some g∈gs'→(Pl (x:Int) gs' (row,q)).1.getD (ap g x) none≠none
 | [],row,q,_,h,x,t,hx=>⟨Ext.refl h,fun g hg=>by cases hg⟩
 |o::gs',row,q,hs,h,x,t,hx=>by
  obtain ⟨g,rfl,_,_⟩:=hg o (hs o (by simp))
  obtain ⟨e1,e2⟩:=Bdw (q:=q) hln hg h hx (hs (some g) (by simp))
  obtain ⟨f1,f2⟩:=Bc4 hln hg gs' (q:=(Pv (x:Int) (row,q) (some g)).2) (fun o ho=>hs o (by simp [ho])) e1.ok (e1.mono x t hx)
  have hb:Pl (x:Int) (some g::gs') (row,q)=Pl (x:Int) gs' ((Pv (x:Int) (row,q) (some g)).1,(Pv (x:Int) (row,q) (some g)).2):=rfl
  rw [hb]
  refine ⟨e1.trans f1,fun g' hg'=>?_⟩
  rcases List.mem_cons.1 hg' with e|hg'
  ·cases e;exact Vv f1.mono e2
  ·exact f2 g' hg'
def Ayg (gs:List PO) (q:List Int) (row:Row):Prop:=
 (∀y∈q,∃yn:Nat,y=yn∧row.getD yn none≠none)∧ ∀y:Nat,row.getD y none≠none→(y:Int)∈q∨ ∀g,some g∈gs→row.getD (ap g y) none≠none
theorem Awj {n l:Nat} {gs:List PO} (hln:l<n) (hg:PG n l gs) {x:Int} {q:List Int} {row:Row} (h:Og n l gs row) (hq:Ayg gs (x::q) row):
  Ext n l gs row q (Pl x gs (row,q))∧Ayg gs (Pl x gs (row,q)).2 (Pl x gs (row,q)).1∧ ∃(xn:Nat) (t:List Int),x=xn∧row.getD xn none=some t:=by
 obtain ⟨xn,rfl,hx⟩:=hq.1 x (by simp)
 cases e:row.getD xn none with
 |none=>exact absurd e hx
 |some t=>
  obtain ⟨e1,e2⟩:=Bc4 hln hg gs (q:=q) (fun o ho=>ho) h e
  refine ⟨e1,⟨fun y hy=>?_,fun y hy=>?_⟩,xn,t,rfl,e⟩
  ·rcases e1.new y hy with h1|h1
   ·obtain ⟨yn,h2,h3⟩:=hq.1 y (by simp [h1])
    exact ⟨yn,h2,Vv e1.mono h3⟩
   ·exact h1
  ·rcases e1.src y hy with h1|h1
   ·rcases hq.2 y h1 with h2|h2
    ·rcases List.mem_cons.1 h2 with h2|h2
     ·have:y=xn:=by omega
      subst this
      exact .inr fun g hg'=>e2 g hg'
     ·exact .inl (e1.old _ h2)
    ·exact .inr fun g hg'=>Vv e1.mono (h2 g hg')
   ·exact .inl h1
theorem Bc9 {n l:Nat} {gs:List PO} (hln:l<n) (hg:PG n l gs): ∀(f:Nat) (q:List Int) (row:Row),q.length+Jr row≤f→Og n l gs row→Ayg gs q row→
  Og n l gs (Pc gs f q row)∧(∀y t,row.getD y none=some t→(Pc gs f q row).getD y none=some t)∧ ∀y t g,(Pc gs f q row).getD y none=some t→some g∈gs→(Pc gs f q row).getD (ap g y) none≠none
 |0,q,row,hf,h,hq=>by
  have:q= []:=List.eq_nil_of_length_eq_zero (by omega)
  subst this
  exact ⟨h,fun _ _ h=>h,fun y t g e hg'=>by
   rcases hq.2 y (by rw [show row.getD y none=some t from e];simp) with h1|h1
   ·cases h1
   ·exact h1 g hg'⟩
 |f+1,[],row,hf,h,hq=>⟨h,fun _ _ h=>h,fun y t g e hg'=>by
   rcases hq.2 y (by rw [show row.getD y none=some t from e];simp) with h1|h1
   ·cases h1
   ·exact h1 g hg'⟩
 |f+1,x::q,row,hf,h,hq=>by
  obtain ⟨e1,e2,_⟩:=Awj hln hg h hq
  obtain ⟨r1,r2,r3⟩:=Bc9 hln hg f _ _ (by have:=e1.phi;simp only [List.length_cons] at hf;omega) e1.ok e2
  exact ⟨r1,fun y t e=>r2 y t (e1.mono y t e),r3⟩
theorem Lc {row:Row} {y:Int} :y∈Gm row↔ ∃yn:Nat,y=yn∧row.getD yn none≠none:=by
 unfold Gm
 rw [List.mem_filter,Ix]
 constructor
 ·rintro ⟨h1,h2⟩
  exact ⟨y.toNat,by omega,Option.ne_none_iff_isSome.2 h2⟩
 ·rintro ⟨yn,rfl,h⟩
  obtain ⟨t,ht⟩:=Option.ne_none_iff_exists'.1 h
  exact ⟨by have:=Ahz ht;omega,by simpa using Option.ne_none_iff_isSome.1 h⟩
theorem Apk (row:Row):(Gm row).length≤row.length:=by
 unfold Gm
 refine Nat.le_trans (List.length_filter_le _ _) (by simp [upto])
theorem At9 (row:Row):Jr row≤row.length:=List.countP_le_length
theorem Atd {n l:Nat} {gs:List PO} (hln:l<n) (h2:n≤20) (hg:PG n l gs) {row:Row} (h:Og n l gs row):
  Og n l gs (Oc gs row)∧(∀y t,row.getD y none=some t→(Oc gs row).getD y none=some t)∧ ∀y t g,(Oc gs row).getD y none=some t→some g∈gs→(Oc gs row).getD (ap g y) none≠none:=
 Bc9 hln hg 100 _ _ (by have:=Apk row;have:=At9 row;have:=h.rl;omega) h ⟨fun y hy=>Lc.1 hy,fun y hy=> .inl (Lc.2 ⟨y,rfl,hy⟩)⟩
theorem Arm {n l:Nat} {gs:List PO} (hln:l<n) (hg:PG n l gs): ∀(f:Nat) (q:List Int) (row:Row),q.length+Jr row≤f→Og n l gs row→Ayg gs q row→Pc gs f q row=Pc gs (q.length+Jr row) q row
 |0,q,row,hf,_,_=>by
  have:q.length+Jr row=0:=by omega
  rw [this]
 |f+1,[],row,hf,_,_=>by
  cases h:([]:List Int).length+Jr row with
  |zero=>rfl
  |succ m=>rfl
 |f+1,x::q,row,hf,h,hq=>by
  obtain ⟨e1,e2,_⟩:=Awj hln hg h hq
  have hphi:=e1.phi
  have:(x::q).length+Jr row=(q.length+Jr row)+1:=by simp only [List.length_cons];omega
  rw [this]
  simp only [Pc]
  rw [Arm hln hg f _ _ (by simp only [List.length_cons] at hf;omega) e1.ok e2,hphi]
def Art (row:Row):Nat:=row.countP (·.isSome)
theorem Amo: ∀(a b:Row),a.length=b.length→(∀y t,a.getD y none=some t→b.getD y none=some t)→Art a≤Art b∧(Art a=Art b→a=b)
 | [],[],_,_=>⟨Nat.le_refl _,fun _=>rfl⟩
 | [],_::_,h,_=>by simp at h
 |_::_,[],h,_=>by simp at h
 |x::a,y::b,h,hm=>by
  obtain ⟨h1,h2⟩:=Amo a b (by simpa using h) fun i t e=>by simpa using hm (i+1) t (by simpa using e)
  unfold Art at h1 h2⊢
  cases x with
  |none=>
   cases y with
   |none=>simp only [List.countP_cons];exact ⟨by simpa using h1,fun e=>by rw [h2 (by simpa using e)]⟩
   |some u=>
    simp only [List.countP_cons,Option.isSome_none,Option.isSome_some]
    simp only [if_true,Bool.false_eq_true,if_false]
    exact ⟨by omega,fun e=>by omega⟩
  |some t=>
   have:=hm 0 t (by simp)
   simp only [List.getD_cons_zero] at this
   subst this
   simp only [List.countP_cons]
   exact ⟨by simpa using h1,fun e=>by rw [h2 (by simpa using e)]⟩
def Acr (T:Ck):Nat→Nat→Nat
 |0,_=>0
 |k+1,l=>Art (T.getD l [])+Acr T k (l+1)
def GBf:Nat→Nat→Ck×Ck→Prop
 |0,_,_=>True
 |k+1,l,s=>GBf k (l+1) s∧(s.1.getD l []).length≤Acr s.2 (k+1) l
structure Sx (l0:Nat) (s s':Ck×Ck):Prop where
 len1:s'.1.length=s.1.length
 Ajc:s'.2.length=s.2.length
 low: ∀i,i<l0→s'.1.getD i []=s.1.getD i []∧s'.2.getD i []=s.2.getD i []
 gmono: ∀i o,o∈s.1.getD i []→o∈s'.1.getD i []
 tmono: ∀i y t,(s.2.getD i []).getD y none=some t→(s'.2.getD i []).getD y none=some t
 rlen: ∀i,(s'.2.getD i []).length=(s.2.getD i []).length
theorem Sx.refl (l0:Nat) (s:Ck×Ck):Sx l0 s s:=⟨rfl,rfl,fun _ _=>⟨rfl,rfl⟩,fun _ _ h=>h,fun _ _ _ h=>h,fun _=>rfl⟩
theorem Sx.trans {l0 l1:Nat} {a b c:Ck×Ck} (h:Sx l0 a b) (k:Sx l1 b c) (hl:l0≤l1):Sx l0 a c:=
 ⟨k.len1.trans h.len1,k.Ajc.trans h.Ajc,fun i hi=>⟨(k.low i (by omega)).1.trans (h.low i hi).1,(k.low i (by omega)).2.trans (h.low i hi).2⟩,fun i o ho=>k.gmono i o (h.gmono i o ho),fun i y t e=>k.tmono i y t (h.tmono i y t e),fun i=>(k.rlen i).trans (h.rlen i)⟩
theorem Sx.Eb {l0 l1:Nat} {a b:Ck×Ck} (h:Sx l1 a b) (hl:l0≤l1):Sx l0 a b:=(Sx.refl l0 a).trans h hl
theorem Yt {T T':Ck} : ∀(k l:Nat) (p:List Int),(∀i,l≤i→i<l+k→T'.getD i []=T.getD i [])→Ho T' k l p=Ho T k l p
 |0,_,_,_=>rfl
 |k+1,l,p,h=>by
  simp only [Ho]
  rw [h l (Nat.le_refl _) (by omega)]
  split
  ·rfl
  ·exact Yt k (l+1) _ fun i h1 h2=>h i (by omega) (by omega)
theorem Ac8 {n:Nat} {s s':Ck×Ck} : ∀(k l:Nat),(∀i,l≤i→s'.1.getD i []=s.1.getD i []∧s'.2.getD i []=s.2.getD i [])→Abz n k l s→Abz n k l s'
 |0,l,h,hc=>by simp only [Abz] at hc⊢;rw [(h l (Nat.le_refl _)).1];exact hc
 |k+1,l,h,hc=>by
  simp only [Abz] at hc⊢
  obtain ⟨c1,c2,c3⟩:=hc
  refine ⟨Ac8 k (l+1) (fun i hi=>h i (by omega)) c1,?_,?_⟩
  ·rw [(h l (Nat.le_refl _)).1,(h l (Nat.le_refl _)).2]
   have e:(fun q=>Ho s'.2 k (l+1) q=true)=fun q=>Ho s.2 k (l+1) q=true:=funext fun q=>by rw [Yt k (l+1) q fun i h1 h2=>(h i (by omega)).2]
   rw [e];exact c2
  ·rw [(h (l+1) (by omega)).1,(h l (Nat.le_refl _)).1];exact c3
theorem Anl {T T':Ck} : ∀(k l:Nat),(∀i,l≤i→T'.getD i []=T.getD i [])→Acr T' k l=Acr T k l
 |0,_,_=>rfl
 |k+1,l,h=>by simp only [Acr];rw [h l (Nat.le_refl _),Anl k (l+1) fun i hi=>h i (by omega)]
theorem Aj1 {s s':Ck×Ck} : ∀(k l:Nat),(∀i,l≤i→s'.1.getD i []=s.1.getD i []∧s'.2.getD i []=s.2.getD i [])→GBf k l s→GBf k l s'
 |0,_,_,_=>trivial
 |k+1,l,h,hg=>⟨Aj1 k (l+1) (fun i hi=>h i (by omega)) hg.1,by
  rw [(h l (Nat.le_refl _)).1,Anl (k+1) l fun i hi=>(h i hi).2];exact hg.2⟩
theorem Ato {T T':Ck} (hl: ∀i,(T'.getD i []).length=(T.getD i []).length) (hm: ∀i y t,(T.getD i []).getD y none=some t→(T'.getD i []).getD y none=some t):
  ∀(k l:Nat),Acr T k l≤Acr T' k l∧(Acr T k l=Acr T' k l→ ∀i,l≤i→i<l+k→T'.getD i []=T.getD i [])
 |0,l=>⟨Nat.le_refl _,fun _ i h1 h2=>by omega⟩
 |k+1,l=>by
  obtain ⟨h1,h2⟩:=Ato hl hm k (l+1)
  obtain ⟨h3,h4⟩:=Amo (T.getD l []) (T'.getD l []) (hl l).symm (hm l)
  simp only [Acr]
  refine ⟨by omega,fun e i g1 g2=>?_⟩
  by_cases hi:i=l
  ·subst hi;exact (h4 (by omega)).symm
  ·exact h2 (by omega) i (by omega) (by omega)
def V (n k l:Nat) (s:Ck×Ck):Prop:=s.1.length=n∧s.2.length=n∧Abz n k l s∧GBf k l s
structure Bfo (n k l:Nat) (s:Ck×Ck) (p:List Int) (s':Ck×Ck):Prop where
 v:V n k l s'
 grow:Sx l s s'
 isin:Gn n (s'.1.getD l []) p
 gens: ∀o∈s'.1.getD l [],o∈s.1.getD l []∨o=some p
theorem Lvl.row {n l:Nat} {gs:List PO} {row:Row} {H:List Int→Prop} (h:Lvl n l gs row H):Og n l gs row:=⟨h.rl,h.r0,h.rt⟩
theorem Zr {row:Row} {y:Nat} {t g t':List Int} (h1:row.getD y none=some t) (h2:row.getD (ap g y) none=some t'):Kw row (y:Int) (some g)=Aa (Aa t g) (Ah t'):=by
 unfold Kw
 rw [Int.toNat_natCast,h1,Option.getD_some,Option.getD_some,show (Gk g (y:Int)).toNat=ap g y from rfl,h2,Option.getD_some]
theorem Afp {n l:Nat} {gs:List PO} {row:Row} (hg:PG n l gs) (_h:Og n l gs row) (hc: ∀y t g,row.getD y none=some t→some g∈gs→row.getD (ap g y) none≠none) {q:List Int} :
  q∈Xg row gs↔ ∃(y:Nat) (t g t':List Int),row.getD y none=some t∧some g∈gs∧row.getD (ap g y) none=some t'∧q=Aa (Aa t g) (Ah t'):=by
 unfold Xg
 rw [List.mem_flatMap]
 constructor
 ·rintro ⟨y,hy,hq⟩
  obtain ⟨o,ho,rfl⟩:=List.mem_map.1 hq
  obtain ⟨yn,rfl,hyn⟩:=Lc.1 hy
  obtain ⟨t,ht⟩:=Option.ne_none_iff_exists'.1 hyn
  obtain ⟨g,rfl,hgp,_⟩:=hg o ho
  obtain ⟨t',ht'⟩:=Option.ne_none_iff_exists'.1 (hc yn t g ht ho)
  exact ⟨yn,t,g,t',ht,ho,ht',Zr ht ht'⟩
 ·rintro ⟨y,t,g,t',h1,h2,h3,rfl⟩
  obtain ⟨g',e,hgp,_⟩:=hg _ h2
  cases e
  exact ⟨(y:Int),Lc.2 ⟨y,rfl,by rw [h1];simp⟩,List.mem_map.2 ⟨some g,h2,Zr h1 h3⟩⟩
theorem Aoi {n:Nat} (h1:1≤n) (h2:n≤20): ∀(k l:Nat) (p:List Int) (s:Ck×Ck),l+k=n→V n k l s→Pm n p→Fx l p→Bfo n k l s p (Db k l p s)
 |0,l,p,s,hk,hv,hp,hf=>by
  have hl:l=n:=by omega
  subst hl
  exact ⟨hv,Sx.refl _ _,by rw [hf.all hp];exact .id,fun o ho=> .inl ho⟩
 |k+1,l,p,s,hk,hv,hp,hf=>by
  have hln:l<n:=by omega
  obtain ⟨v1,v2,hc,hgb⟩:=hv
  have hc0:=hc
  obtain ⟨c1,c2,c3⟩:=hc
  unfold Db
  by_cases hh:Ho s.2 (k+1) l p=true
  ·rw [if_pos hh]
   exact ⟨⟨v1,v2,hc0,hgb⟩,Sx.refl _ _,(Adx h1 h2 (k+1) l s hk hc0 p hp hf).1 hh,fun o ho=> .inl ho⟩
  rw [if_neg hh]
  generalize hgs:s.1.getD l []++ [some p]=gs
  have hpin:some p∈gs:=by rw [←hgs];simp
  have hsub: ∀o∈s.1.getD l [],o∈gs:=fun o ho=>by rw [←hgs];exact List.mem_append_left _ ho
  have hg:PG n l gs:=fun o ho=>by
   rw [←hgs] at ho
   rcases List.mem_append.1 ho with ho|ho
   ·exact c2.pg o ho
   ·rw [List.mem_singleton] at ho;exact ⟨p,ho,hp,hf⟩
  have hrow0:Og n l gs (s.2.getD l []):=⟨c2.rl,c2.r0,fun y t e=>⟨(c2.rt y t e).1,(c2.rt y t e).2.1,(c2.rt y t e).2.2.1,(c2.rt y t e).2.2.2.mono fun g hg=>hsub _ hg⟩⟩
  obtain ⟨r1,r2,r3⟩:=Atd hln h2 hg hrow0
  generalize hR:Oc gs (s.2.getD l [])=R at r1 r2 r3
  have hS:PmS n fun g=>some g∈gs:=⟨⟨h1,h2⟩,fun g hg'=>by obtain ⟨g',e,h,_⟩:=hg _ hg';cases e;exact h⟩
  have s11: ∀i,((s.1.set l gs).getD i []=if i=l then gs else s.1.getD i [])∧(s.2.set l R).getD i []=if i=l then R else s.2.getD i []:=fun i=>by
   rw [Nd,Nd]
   by_cases e:l=i
   ·subst e;rw [if_pos ⟨rfl,by omega⟩,if_pos rfl,if_pos ⟨rfl,by omega⟩,if_pos rfl];exact ⟨rfl,rfl⟩
   ·rw [if_neg (fun hh=>e hh.1),if_neg (Ne.symm e),if_neg (fun hh=>e hh.1),if_neg (Ne.symm e)];exact ⟨rfl,rfl⟩
  have hup: ∀i,l+1≤i→(s.1.set l gs).getD i []=s.1.getD i []∧(s.2.set l R).getD i []=s.2.getD i []:=fun i hi=>by
   rw [(s11 i).1,(s11 i).2,if_neg (by omega),if_neg (by omega)];exact ⟨rfl,rfl⟩
  have hs1:V n k (l+1) (s.1.set l gs,s.2.set l R):=⟨by simpa using v1,by simpa using v2,Ac8 k (l+1) hup c1,Aj1 k (l+1) hup hgb.1⟩
  have hgrow1:Sx l s (s.1.set l gs,s.2.set l R):=by
   refine ⟨by simp,by simp,fun i hi=>?_,fun i o ho=>?_,fun i y t e=>?_,fun i=>?_⟩
   ·rw [(s11 i).1,(s11 i).2,if_neg (by omega),if_neg (by omega)];exact ⟨rfl,rfl⟩
   ·rw [(s11 i).1]
    split
    ·rename_i hi;subst hi;exact hsub o ho
    ·exact ho
   ·rw [(s11 i).2]
    split
    ·rename_i hi;subst hi;exact r2 y t e
    ·exact e
   ·rw [(s11 i).2]
    split
    ·rename_i hi;subst hi;rw [r1.rl,c2.rl]
    ·rfl
  have hq: ∀q∈Xg R gs,Pm n q∧Fx (l+1) q∧Gn n gs q:=fun q hq=>by
   obtain ⟨y,t,g,t',e1,e2,e3,rfl⟩:=(Afp hg r1 r3).1 hq
   obtain ⟨t1,t2,t3,t4⟩:=r1.rt _ _ e1
   obtain ⟨u1,u2,u3,u4⟩:=r1.rt _ _ e3
   obtain ⟨g',e,hgp,hgf⟩:=hg _ e2
   cases e
   exact ⟨(t1.comp hgp).comp u1.inv,Fx.div (t1.comp hgp) u1 (Fx.comp t1 hgp t2 hgf (by omega)) u2 hln (by rw [u3,Ey t1 hgp hln,t3]),Gen.comp hS (.mul t4 e2) (Gen.Ap2 hS u4)⟩
  have fold: ∀(qs:List (List Int)) (s1:Ck×Ck),(∀q∈qs,Pm n q∧Fx (l+1) q)→V n k (l+1) s1→
    V n k (l+1) (qs.foldl (fun s q=>Db k (l+1) q s) s1)∧Sx (l+1) s1 (qs.foldl (fun s q=>Db k (l+1) q s) s1)∧
     (∀q∈qs,Gn n ((qs.foldl (fun s q=>Db k (l+1) q s) s1).1.getD (l+1) []) q)∧ ∀o∈(qs.foldl (fun s q=>Db k (l+1) q s) s1).1.getD (l+1) [],o∈s1.1.getD (l+1) []∨ ∃q∈qs,o=some q:=by
   intro qs
   induction qs with
   |nil=>exact fun s1 _ hv=>⟨hv,Sx.refl _ _,(fun q hq=>by cases hq),fun o ho=>Or.inl ho⟩
   |cons q qs ih=>
    intro s1 hqs hv
    have ha:=Aoi h1 h2 k (l+1) q s1 (by omega) hv (hqs q (by simp)).1 (hqs q (by simp)).2
    obtain ⟨g1,g2,g3,g4⟩:=ih (Db k (l+1) q s1) (fun q' hq'=>hqs q' (by simp [hq'])) ha.v
    simp only [List.foldl_cons]
    refine ⟨g1,ha.grow.trans g2 (Nat.le_refl _),fun q' hq'=>?_,fun o ho=>?_⟩
    ·rcases List.mem_cons.1 hq' with rfl|hq'
     ·exact ha.isin.mono fun g hg=>g2.gmono _ _ hg
     ·exact g3 q' hq'
    ·rcases g4 o ho with h|⟨q',hq',h⟩
     ·rcases ha.gens o h with h|h
      ·exact .inl h
      ·exact .inr ⟨q,by simp,h⟩
     ·exact .inr ⟨q',by simp [hq'],h⟩
  obtain ⟨f1,f2,f3,f4⟩:=fold (Xg R gs) (s.1.set l gs,s.2.set l R) (fun q h=>⟨(hq q h).1,(hq q h).2.1⟩) hs1
  generalize (Xg R gs).foldl (fun s q=>Db k (l+1) q s) (s.1.set l gs,s.2.set l R)=s' at f1 f2 f3 f4
  obtain ⟨w1,w2,w3,w4⟩:=f1
  have el1:s'.1.getD l []=gs:=by rw [(f2.low l (by omega)).1,(s11 l).1,if_pos rfl]
  have el2:s'.2.getD l []=R:=by rw [(f2.low l (by omega)).2,(s11 l).2,if_pos rfl]
  have hgrow:=hgrow1.trans f2 (by omega)
  have hlvl:Lvl n l gs R (fun q=>Ho s'.2 k (l+1) q=true):=⟨hg,r1.rl,r1.r0,r1.rt,r3,fun y t g t' e1 e2 e3=>by
   have hm:=(Afp hg r1 r3).2 ⟨y,t,g,t',e1,e2,e3,rfl⟩
   exact (Adx h1 h2 k (l+1) s' (by omega) w3 _ (hq _ hm).1 (hq _ hm).2.1).2 (f3 _ hm)⟩
  have hcomp:Abz n (k+1) l s':=⟨w3,by rw [el1,el2];exact hlvl,fun g hg'=>by
   rw [el1]
   rcases f4 _ hg' with h|⟨q,hq',h⟩
   ·rw [(hup (l+1) (Nat.le_refl _)).1] at h
    exact (c3 g h).mono fun g hg=>hsub _ hg
   ·cases h;exact (hq _ hq').2.2⟩
  have hin:Gn n (s'.1.getD l []) p:=by rw [el1];exact Gen.one hS hpin
  refine ⟨⟨w1,w2,hcomp,w4,?_⟩,hgrow,hin,fun o ho=>?_⟩
  ·have hold:=hgb.2
   obtain ⟨p1,p2⟩:=Ato hgrow.rlen hgrow.tmono (k+1) l
   have hne:Acr s.2 (k+1) l≠Acr s'.2 (k+1) l:=fun e=>by
    have:=Yt (k+1) l p (p2 e)
    rw [(Adx h1 h2 (k+1) l s' hk hcomp p hp hf).2 hin] at this
    exact hh this.symm
   rw [el1,←hgs,List.length_append,List.length_singleton]
   omega
  ·rw [el1,←hgs] at ho
   rcases List.mem_append.1 ho with ho|ho
   ·exact .inl ho
   ·rw [List.mem_singleton] at ho;exact .inr ho
end Go.Proofs.Ytebabhocakedaaa
