/-
  Part 53 of the proof that the statement FnExactPhaseTwoWord holds.
-/
import Derived.Test.YtebabhocakedaaaCPhaseTwoWord51
namespace Go.Proofs.Ytebabhocakedaaa
open Go.RowKit
theorem Iv.congr {g:List (List Int)} {ls:List Int} {L:List (List Int)} {S S':List Int→Prop} {d:List Int→Int} (h:Iv g ls L S d) (e: ∀x∈L,S x↔S' x):Iv g ls L S' d:=
 ⟨h.nn,fun x hx=>(h.zero x hx).trans (e x hx),h.step,h.down⟩
theorem Bfd {p:PP} (hw:Cd p=true) {S:List Int→Prop} {d:List Int} (hl:d.length=(Ab p).length) (h:Iv p.2.2.1 (Ae p.2.2.1.length) (Ab p) S (fun x=>d.getD ((Ab p).idxOf x) 0)):Bcl p d:=by
 have hnd:=(Ba3 hw).nodup
 refine ⟨hl,fun i hi=>?_,fun i hi h0=>?_⟩
 ·have:=h.nn _ (Sj (show i<(Ab p).length by omega))
  rwa [Ly hnd (by omega)] at this
 ·have hi':i<(Ab p).length:=by omega
  obtain ⟨l,h1,h2⟩:=h.down _ (Sj hi') (by rw [Ly hnd hi'];exact h0)
  rw [Ly hnd hi'] at h2
  refine ⟨_,List.mem_map.2 ⟨l,h1,rfl⟩,?_⟩
  rw [Int.toNat_natCast,h2]
  omega
def Ahl (g:List (List Int)) (dep:List Int→Int) (ls:List Int):Nat→List Int→List Int→List Int×List Int
 |0,x,w=>(w,x)
 |n+1,x,w=>match ls.find? (fun l=>decide (dep (Aa x (Af g l))=n)) with
  |some l=>Ahl g dep ls n (Aa x (Af g l)) (w++ [l])
  |none=>Ahl g dep ls n x w
theorem Azm {α:Type} {P:α→Bool} : ∀(l:List α) (k:Nat) (h:k<l.length),P l[k]=true→(∀j (hj:j<k),P (l[j]'(by omega))=false)→l.find? P=some l[k]
 | [],k,h,_,_=>by simp at h
 |y::r,0,_,h1,_=>by rw [List.find?_cons_of_pos (show P y=true from h1)];rfl
 |y::r,k+1,h,h1,h2=>by
  rw [List.find?_cons_of_neg (by have:=h2 0 (by omega);simp at this;simp [this])]
  exact Azm r k (by simpa using h) h1 fun j hj=>h2 (j+1) (by omega)
theorem Ax3 {p:PP} (hw:Cd p=true) {S:List Int→Prop} {d:List Int} (hdn:Bcl p d) (hd:Iv p.2.2.1 (Ae p.2.2.1.length) (Ab p) S (fun x=>d.getD ((Ab p).idxOf x) 0))
  {see:List Int→List Int} {dep:List Int→Int} (hs: ∀x∈Ab p,∀l∈Ae p.2.2.1.length,see (Aa x (Af p.2.2.1 l))=Aa (see x) (Af p.2.2.1 l))
  (he: ∀x∈Ab p,d.getD ((Ab p).idxOf x) 0=dep (see x)):
  ∀(n i:Nat) (w:List Int),i<(Ab p).length→d.getD i 0=n→
   (Ti (Io p) (Ae p.2.2.1.length) d n (i:Int) w).1=(Ahl p.2.2.1 dep (Ae p.2.2.1.length) n (see ((Ab p).getD i [])) w).1∧
   (Ti (Io p) (Ae p.2.2.1.length) d n (i:Int) w).1.length=w.length+n∧
   ∃j:Nat,(Ti (Io p) (Ae p.2.2.1.length) d n (i:Int) w).2=(j:Int)∧j<(Ab p).length∧d.getD j 0=0∧see ((Ab p).getD j [])=(Ahl p.2.2.1 dep (Ae p.2.2.1.length) n (see ((Ab p).getD i [])) w).2
 |0,i,w,hi,e=>⟨rfl,rfl,i,rfl,hi,e,rfl⟩
 |n+1,i,w,hi,e=>by
  have hnd:=(Ba3 hw).nodup
  have hl:=hdn.len
  have hpos:0<d.getD i 0:=by omega
  have hg:Bv d (i:Int)=d.getD i 0:=by unfold Bv;rw [Int.toNat_natCast]
  obtain ⟨t0,ht0,htl⟩:=hdn.dn i (by omega) hpos
  have hany:(Io p i).any (fun y=>decide (Bv d y<Bv d (i:Int)))=true:=List.any_eq_true.2 ⟨t0,ht0,decide_eq_true htl⟩
  obtain ⟨k,hk,k1,k2,k3⟩:=Abt (Io p i) 0 hany
  have k1:Dq (fun y=>decide (Bv d y<Bv d (i:Int))) (Io p i) 0=(k:Int):=by rw [Nat.zero_add] at k1;exact k1
  have hkl:k<(Ae p.2.2.1.length).length:=by rw [←Al8 p i];exact hk
  have hx:=Sj (L:=Ab p) hi
  have hat: ∀j (hj:j<(Ae p.2.2.1.length).length),∃h2:j<(Io p i).length,(Io p i)[j]=(((Ab p).idxOf (Aa ((Ab p).getD i []) (Af p.2.2.1 (Ae p.2.2.1.length)[j])):Nat):Int):=fun j hj=>
   ⟨by rw [Al8];exact hj,by simp only [Io,Aov,List.getElem_map]⟩
  have hval: ∀j (hj:j<(Ae p.2.2.1.length).length) (h2:j<(Io p i).length),decide (Bv d (Io p i)[j]<Bv d (i:Int))=decide (dep (Aa (see ((Ab p).getD i [])) (Af p.2.2.1 (Ae p.2.2.1.length)[j]))=n):=fun j hj h2=>by
   obtain ⟨_,h3⟩:=hat j hj
   have hlm:=List.getElem_mem hj
   have h4:=hd.Bax (Rt hw) hx hlm
   rw [Ly hnd hi] at h4
   have h5:=he _ ((Rt hw).next _ hx _ hlm)
   rw [hs _ hx _ hlm] at h5
   rw [h3,hg,←h5]
   unfold Bv
   rw [Int.toNat_natCast,Bool.eq_iff_iff,decide_eq_true_iff,decide_eq_true_iff]
   omega
  have hfind:(Ae p.2.2.1.length).find? (fun l=>decide (dep (Aa (see ((Ab p).getD i [])) (Af p.2.2.1 l))=n))=some (Ae p.2.2.1.length)[k]:=by
   refine Azm _ k hkl ?_ fun j hj=>?_
   ·rw [←hval k hkl hk];exact k2
   ·rw [←hval j (by omega) (by omega)];exact k3 j hj
  obtain ⟨_,hkn⟩:=hat k hkl
  have hlm:=List.getElem_mem hkl
  obtain ⟨n1,n2⟩:=Bdp hw hi hlm
  have hgk:Bv d (i:Int)>0:=by rw [hg];exact hpos
  simp only [Ti,Ahl]
  rw [if_pos hgk,Int.toNat_natCast,k1,Int.toNat_natCast,Cv hk,hkn,Cv hkl,hfind]
  dsimp only
  have hdk:d.getD ((Ab p).idxOf (Aa ((Ab p).getD i []) (Af p.2.2.1 (Ae p.2.2.1.length)[k]))) 0=n:=by
   have h6:=of_decide_eq_true ((hval k hkl hk).symm.trans k2)
   rw [he _ ((Rt hw).next _ hx _ hlm),hs _ hx _ hlm]
   exact h6
  obtain ⟨r1,r2,r3⟩:=Ax3 hw hdn hd hs he n _ (w++ [(Ae p.2.2.1.length)[k]]) n1 hdk
  rw [n2,hs _ hx _ hlm] at r1 r3
  refine ⟨r1,?_,r3⟩
  rw [r2,List.length_append,List.length_singleton]
  omega
end Go.Proofs.Ytebabhocakedaaa
