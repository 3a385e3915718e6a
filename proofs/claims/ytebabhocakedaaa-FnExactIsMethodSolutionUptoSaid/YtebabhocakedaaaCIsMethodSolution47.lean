/-
  Part 48 of the proof that the statement FnExactIsMethodSolution holds.
-/
import Derived.Test.YtebabhocakedaaaCIsMethodSolution46
namespace Go.Proofs.Ytebabhocakedaaa
open Go.RowKit
theorem Aaf {α:Type} {xs ys:List α} {i:Nat} {d:α} (h:i<xs.length):(xs++ys).getD i d=xs.getD i d:=by
 rw [List.getD_eq_getElem?_getD,List.getD_eq_getElem?_getD,List.getElem?_append_left h]
theorem Amt {α:Type} {xs:List α} {x d:α} :(xs++ [x]).getD xs.length d=x:=by
 rw [List.getD_eq_getElem?_getD,List.getElem?_append_right (Nat.le_refl _),Nat.sub_self];rfl
theorem Axz {α:Type} {xs:List α} {i:Nat} {d:α} (h:i<xs.length):xs.getD i d=xs[i]:=by
 rw [List.getD_eq_getElem?_getD,List.getElem?_eq_getElem h];rfl
structure Lv (g:List (List Int)) (ls:List Int) (k:Nat) (L:List (List Int)) (D:List Int):Prop where
 len:D.length=L.length
 pos:0<L.length
 mono: ∀i j,i≤j→j<L.length→D.getD i 0≤D.getD j 0
 Bew:k<L.length→ ∀j,j<L.length→D.getD j 0≤D.getD k 0+1
 par: ∀j,0<j→j<L.length→ ∃i l,i<j∧l∈ls∧L.getD j []=Aa (L.getD i []) (Ae g l)∧D.getD j 0=D.getD i 0+1
 zero:D.getD 0 0=0
theorem Lv.add {g:List (List Int)} {ls:List Int} {k:Nat} {L:List (List Int)} {D:List Int} (h:Lv g ls k L D) (hk:k<L.length) {l:Int} (hl:l∈ls):
  Lv g ls k (L++ [Aa (L.getD k []) (Ae g l)]) (D++ [D.getD k 0+1]):=by
 have hlen:=h.len
 have hD: ∀i,i<L.length→(D++ [D.getD k 0+1]).getD i 0=D.getD i 0:=fun i hi=>Aaf (by omega)
 have hDl:(D++ [D.getD k 0+1]).getD L.length 0=D.getD k 0+1:=by rw [←hlen];exact Amt
 refine ⟨by simp [hlen],by simp,fun i j hij hj=>?_,fun _ j hj=>?_,fun j h0 hj=>?_,?_⟩
 ·rw [List.length_append,List.length_singleton] at hj
  by_cases e:j=L.length
  ·subst e
   rw [hDl]
   by_cases e':i=L.length
   ·subst e';rw [hDl];exact Int.le_refl _
   ·rw [hD i (by omega)]
    exact h.Bew hk i (by omega)
  ·rw [hD i (by omega),hD j (by omega)]
   exact h.mono i j hij (by omega)
 ·rw [List.length_append,List.length_singleton] at hj
  rw [hD k hk]
  by_cases e:j=L.length
  ·subst e;rw [hDl];exact Int.le_refl _
  ·rw [hD j (by omega)];exact h.Bew hk j (by omega)
 ·rw [List.length_append,List.length_singleton] at hj
  by_cases e:j=L.length
  ·subst e
   exact ⟨k,l,hk,hl,by rw [Amt,Aaf hk],by rw [hDl,hD k hk]⟩
  ·obtain ⟨i,l',h1,h2,h3,h4⟩:=h.par j h0 (by omega)
   exact ⟨i,l',h1,h2,by rw [Aaf (by omega),Aaf (by omega)];exact h3,by rw [hD j (by omega),hD i (by omega)];exact h4⟩
 ·rw [hD 0 h.pos];exact h.zero
structure Qs (g:List (List Int)) (ls:List Int) (L:List (List Int)) (S:List Int→Prop) (d:List Int→Int):Prop where
 nn: ∀x∈L,0≤d x
 zero: ∀x∈L,d x=0↔S x
 step: ∀x∈L,∀l∈ls,d (Aa x (Ae g l))≤d x+1
 down: ∀x∈L,0<d x→ ∃l∈ls,d (Aa x (Ae g l))=d x-1
structure Auw (g:List (List Int)) (ls:List Int) (L:List (List Int)):Prop where
 next: ∀x∈L,∀l∈ls,Aa x (Ae g l)∈L
 back: ∀x∈L,∀l∈ls,-l∈ls∧Aa (Aa x (Ae g l)) (Ae g (-l))=x
theorem Qs.le {g:List (List Int)} {ls:List Int} {L:List (List Int)} {S:List Int→Prop} {d d':List Int→Int} (hc:Auw g ls L) (h:Qs g ls L S d) (h':Qs g ls L S d'):
  ∀(n:Nat) (x:List Int),x∈L→d' x=n→d x≤n
 |0,x,hx,e=>by
  have:=(h.zero x hx).2 ((h'.zero x hx).1 e)
  omega
 |n+1,x,hx,e=>by
  obtain ⟨l,hl,hd⟩:=h'.down x hx (by omega)
  obtain ⟨b1,b2⟩:=hc.back x hx l hl
  have h1:=Qs.le hc h h' n _ (hc.next x hx l hl) (by omega)
  have h2:=h.step _ (hc.next x hx l hl) _ b1
  rw [b2] at h2
  omega
theorem Qs.eq {g:List (List Int)} {ls:List Int} {L:List (List Int)} {S:List Int→Prop} {d d':List Int→Int} (hc:Auw g ls L) (h:Qs g ls L S d) (h':Qs g ls L S d') {x:List Int} (hx:x∈L):d x=d' x:=by
 have n1:=h.nn x hx
 have n2:=h'.nn x hx
 have h1:=Qs.le hc h h' (d' x).toNat x hx (by omega)
 have h2:=Qs.le hc h' h (d x).toNat x hx (by omega)
 omega
theorem Qs.Bew {g:List (List Int)} {ls:List Int} {L:List (List Int)} {S:List Int→Prop} {d:List Int→Int} (hc:Auw g ls L) (h:Qs g ls L S d) {x:List Int} (hx:x∈L) {l:Int} (hl:l∈ls):
  d x-1≤d (Aa x (Ae g l)):=by
 obtain ⟨b1,b2⟩:=hc.back x hx l hl
 have h2:=h.step _ (hc.next x hx l hl) _ b1
 rw [b2] at h2
 omega
end Go.Proofs.Ytebabhocakedaaa
