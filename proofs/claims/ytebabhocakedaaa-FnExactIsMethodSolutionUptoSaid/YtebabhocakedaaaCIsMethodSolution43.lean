/-
  Part 44 of the proof that the statement FnExactIsMethodSolution holds.
-/
import Derived.Test.YtebabhocakedaaaCIsMethodSolution42
namespace Go.Proofs.Ytebabhocakedaaa
open Go.RowKit
theorem Bc1 {n l:Nat} {gs:List PO} {R:Row} (hln:l<n) (hg:PG n l gs) (r1:Og n l gs R) (r3: ∀y t g,R.getD y none=some t→some g∈gs→R.getD (ap g y) none≠none): ∀q∈Xg R gs,Pm n q∧Fx (l+1) q:=by
 intro q hq
 obtain ⟨y,t,g,t',e1,e2,e3,rfl⟩:=(Afp hg r1 r3).1 hq
 obtain ⟨t1,t2,t3,t4⟩:=r1.rt _ _ e1
 obtain ⟨u1,u2,u3,u4⟩:=r1.rt _ _ e3
 obtain ⟨g',e,hgp,hgf⟩:=hg _ e2
 cases e
 exact ⟨(t1.comp hgp).comp u1.inv,Fx.div (t1.comp hgp) u1 (Fx.comp t1 hgp t2 hgf (by omega)) u2 hln (by rw [u3,Ey t1 hgp hln,t3])⟩
theorem V.lower {n k l:Nat} {s:Ck×Ck} (h:V n (k+1) l s) (gs:List PO) (R:Row):V n k (l+1) (s.1.set l gs,s.2.set l R):=by
 obtain ⟨v1,v2,hc,hgb⟩:=h
 have hup: ∀i,l+1≤i→(s.1.set l gs).getD i []=s.1.getD i []∧(s.2.set l R).getD i []=s.2.getD i []:=fun i hi=>by
  rw [Nd,Nd,if_neg (by omega),if_neg (by omega)];exact ⟨rfl,rfl⟩
 exact ⟨by simpa using v1,by simpa using v2,Ac8 k (l+1) hup hc.1,Aj1 k (l+1) hup hgb.1⟩
theorem Axv {n k l:Nat} (h1:1≤n) (h2:n≤20) (hk:l+k=n): ∀(qs:List (List Int)) (s1:Ck×Ck),(∀q∈qs,Pm n q∧Fx l q)→V n k l s1→
  V n k l (qs.foldl (fun s q=>Db k l q s) s1)∧Sx l s1 (qs.foldl (fun s q=>Db k l q s) s1)
 | [],s1,_,hv=>⟨hv,Sx.refl _ _⟩
 |q::qs,s1,hqs,hv=>by
  have ha:=Aoi h1 h2 k l q s1 hk hv (hqs q (by simp)).1 (hqs q (by simp)).2
  obtain ⟨g1,g2⟩:=Axv h1 h2 hk qs (Db k l q s1) (fun q' hq'=>hqs q' (by simp [hq'])) ha.v
  exact ⟨g1,ha.grow.trans g2 (Nat.le_refl _)⟩
theorem Bc3 {n:Nat} {s:Ck×Ck} : ∀(k l:Nat),Abz n k l s→Acr s.2 k l≤n*k
 |0,_,_=>by simp [Acr]
 |k+1,l,hc=>by
  have h1:=Bc3 k (l+1) hc.1
  have h2:Art (s.2.getD l [])≤n:=by
   have:=hc.2.1.rl
   have h3:Art (s.2.getD l [])≤(s.2.getD l []).length:=List.countP_le_length
   omega
  simp only [Acr]
  rw [Nat.mul_succ]
  omega
theorem Bdb {n k l:Nat} {s:Ck×Ck} (h2:n≤20) (hk:l+(k+1)=n) (h:V n (k+1) l s):(s.1.getD l []).length≤400:=by
 have h3:=h.2.2.2.2
 have h4:=Bc3 (k+1) l h.2.2.1
 have h5:n*(k+1)≤20*20:=Nat.mul_le_mul h2 (by omega)
 omega
theorem V.lvl {n k l:Nat} {s:Ck×Ck} (h:V n (k+1) l s):Lvl n l (s.1.getD l []) (s.2.getD l []) (fun q=>Ho s.2 k (l+1) q=true):=h.2.2.1.2.1
theorem V.pg {n k l:Nat} {s:Ck×Ck} (h:V n (k+1) l s) {p:List Int} (hp:Pm n p) (hf:Fx l p):PG n l (s.1.getD l []++ [some p]):=fun o ho=>by
 rcases List.mem_append.1 ho with ho|ho
 ·exact h.lvl.pg o ho
 ·rw [List.mem_singleton] at ho;exact ⟨p,ho,hp,hf⟩
theorem V.Bgx {n k l:Nat} {s:Ck×Ck} (h:V n (k+1) l s) (p:List Int):Og n l (s.1.getD l []++ [some p]) (s.2.getD l []):=
 ⟨h.lvl.rl,h.lvl.r0,fun y t e=>⟨(h.lvl.rt y t e).1,(h.lvl.rt y t e).2.1,(h.lvl.rt y t e).2.2.1,(h.lvl.rt y t e).2.2.2.mono fun _ hg=>List.mem_append_left _ hg⟩⟩
theorem Alw {α:Type} (xs:List (List α)) (i:Nat) (h:i<xs.length):xs.set i (xs.getD i [])=xs:=by
 refine List.ext_getElem (by simp) fun j h1 h2=>?_
 rw [List.getElem_set]
 split
 ·rename_i e;subst e;rw [List.getD_eq_getElem?_getD,List.getElem?_eq_getElem h];rfl
 ·rfl
theorem Ab8 {α:Type} (xs:List (List α)) (i:Nat) (h:i<xs.length) (r:List α):(xs.set i r).getD i []=r:=by
 rw [Nd,if_pos ⟨rfl,h⟩]
end Go.Proofs.Ytebabhocakedaaa
