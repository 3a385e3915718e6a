/-
  Part 52 of the proof that the statement FnExactPhaseTwoWord holds.
-/
import Derived.Test.YtebabhocakedaaaCPhaseTwoWord50
namespace Go.Proofs.Ytebabhocakedaaa
open Go.RowKit
def Ti (N:Nat→List Int) (ls d:List Int):Nat→Int→List Int→List Int×Int
 |0,i,w=>(w,i)
 |f+1,i,w=>if 0<Bv d i then Ti N ls d f ((N i.toNat).getD (Dq (fun y=>decide (Bv d y<Bv d i)) (N i.toNat) 0).toNat 0) (w++ [ls.getD (Dq (fun y=>decide (Bv d y<Bv d i)) (N i.toNat) 0).toNat 0]) else (w,i)
noncomputable def Oh (p:PP) (d:List Int) (i:Int):List Int×Int×Bool×Unit:=
 if Bv d i>200 then ([],0,false,()) else ((Ti (Io p) (Ae p.2.2.1.length) d (Bv d i).toNat i []).1,(Ti (Io p) (Ae p.2.2.1.length) d (Bv d i).toNat i []).2,true,())
structure Bcl (p:PP) (d:List Int):Prop where
 len:d.length=(Ab p).length
 nn: ∀i,i<d.length→0≤d.getD i 0
 dn: ∀i,i<d.length→0<d.getD i 0→ ∃t∈Io p i,d.getD t.toNat 0<d.getD i 0
theorem Bd0 {e:XP} (h:Aps e):e.2.2.1=Ah e.1:=(congrArg (fun z:XP=>z.2.2.1) h.2).trans (Aje h.1).2
theorem Bfg {e:XP} (h:Aps e):e.2.2.2.2.2.2.1=(Ab e.1).map (Aov e.1.2.2.1 (Ab e.1)):=(congrArg (fun z:XP=>z.2.2.2.2.2.2.1) h.2).trans (Bag h.1)
theorem Bi6 {e:XP} (h:Aps e) {i:Nat} (hi:i<(Ab e.1).length):idx e.2.2.2.2.2.2.1 (i:Int)=some (Io e.1 i):=by
 rw [Bfg h,Aw (by rw [List.length_map];exact hi),List.getElem_map]
 unfold Io
 rw [Cv hi]
theorem Al8 (p:PP) (i:Nat):(Io p i).length=(Ae p.2.2.1.length).length:=by unfold Io Aov;rw [List.length_map]
theorem Ai8 {p:PP} (hV:Valid p):(Ae p.2.2.1.length).length≤16:=by rw [Jm];have:=hV.few;omega
theorem Bi7 {xs:List Int} {k:Nat} (h:k<xs.length):xs[0+((k:Nat):Int).toNat]?=some (xs.getD k 0):=by
 rw [Nat.zero_add,Int.toNat_natCast,List.getElem?_eq_getElem h,Cv h]
theorem Abt {α:Type} {P:α→Bool} : ∀(l:List α) (i:Nat),l.any P=true→ ∃k,∃h:k<l.length,Dq P l (i:Int)=((i+k:Nat):Int)∧P l[k]=true∧ ∀j (h:j<k),P (l[j]'(by omega))=false
 | [],i,h=>by simp at h
 |y::r,i,h=>by
  simp only [Dq]
  by_cases hy:P y=true
  ·rw [if_pos hy]
   exact ⟨0,by simp,rfl,hy,fun j hj=>absurd hj (Nat.not_lt_zero _)⟩
  ·rw [if_neg hy]
   have hr:r.any P=true:=by
    rw [List.any_cons,Bool.or_eq_true] at h
    exact h.resolve_left hy
   obtain ⟨k,hk,h1,h2,h3⟩:=Abt r (i+1) hr
   refine ⟨k+1,by simpa using hk,?_,h2,fun j hj=>?_⟩
   ·rw [show ((i:Int)+1)=((i+1:Nat):Int) by push_cast;rfl,h1]
    congr 1
    omega
   ·cases j with
    |zero=>exact Bool.not_eq_true _|>.mp hy
    |succ j=>exact h3 j (by omega)
theorem Bff {p:PP} (hw:Cd p=true) {d:List Int} (h:Bcl p d) {i:Nat} (hi:i<d.length) (hp:0<d.getD i 0):
  ∃k,∃(h1:k<(Ae p.2.2.1.length).length) (h2:k<(Io p i).length),Dq (fun y=>decide (Bv d y<Bv d (i:Int))) (Io p i) 0=(k:Int)∧
   ∃t:Nat,(Io p i)[k]=(t:Int)∧t<d.length∧d.getD t 0<d.getD i 0:=by
 obtain ⟨t,ht,htl⟩:=h.dn i hi hp
 have hany:(Io p i).any (fun y=>decide (Bv d y<Bv d (i:Int)))=true:=List.any_eq_true.2 ⟨t,ht,decide_eq_true htl⟩
 obtain ⟨k,hk,h1,h2,_⟩:=Abt (Io p i) 0 hany
 have hl:=h.len
 obtain ⟨r1,r2⟩:=Ar1 hw i (by omega) _ (List.getElem_mem hk)
 obtain ⟨tn,htn⟩:=Int.eq_ofNat_of_zero_le r1
 refine ⟨k,by rw [←Al8];exact hk,hk,by rw [Nat.zero_add] at h1;exact h1,tn,htn,by omega,?_⟩
 have h2:=of_decide_eq_true h2
 unfold Bv at h2
 rw [htn,Int.toNat_natCast,Int.toNat_natCast] at h2
 exact h2
end Go.Proofs.Ytebabhocakedaaa
