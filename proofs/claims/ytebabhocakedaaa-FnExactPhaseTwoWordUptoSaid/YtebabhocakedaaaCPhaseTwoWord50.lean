/-
  Part 51 of the proof that the statement FnExactPhaseTwoWord holds.
-/
import Derived.Test.YtebabhocakedaaaCPhaseTwoWord49
namespace Go.Proofs.Ytebabhocakedaaa
open Go.RowKit
def Aov (g:List (List Int)) (L:List (List Int)) (x:List Int):List Int:=(Ae g.length).map fun l=>((L.idxOf (Aa x (Af g l)):Nat):Int)
theorem Ri {g:List (List Int)} {k:Int} {x:List Int} {d:Int} : ∀(ls:List Int) (s:EX) (row:List Int),∃A,(Te g k x d ls s row).1.1=s.1++A
 | [],s,row=>⟨[],by simp [Te]⟩
 |l::ls,s,row=>by
  simp only [Te]
  split
  ·exact Ri ls s _
  ·obtain ⟨A,h⟩:=Ri (g:=g) (k:=k) (x:=x) (d:=d) ls (s.1++ [Aa x (Af g l)],s.2.1++ [d+1],s.2.2.1++ [k],s.2.2.2++ [l]) (row++ [(s.1.length:Int)])
   exact ⟨_::A,by rw [h,List.append_assoc];rfl⟩
theorem Axa {L A:List (List Int)} {y:List Int} (h:y∈L):(L++A).idxOf y=L.idxOf y:=by rw [List.idxOf_append,if_pos h]
theorem Bam {L A:List (List Int)} {y:List Int} (h:y∉L):(L++y::A).idxOf y=L.length:=by
 rw [List.idxOf_append,if_neg h,List.idxOf_cons_self];simp
theorem Agj {g:List (List Int)} {k:Int} {x:List Int} {d:Int} : ∀(ls:List Int) (s:EX) (row:List Int) (A:List (List Int)),
  (Te g k x d ls s row).2=row++ls.map fun l=>((((Te g k x d ls s row).1.1++A).idxOf (Aa x (Af g l)):Nat):Int)
 | [],s,row,A=>by simp [Te]
 |l::ls,s,row,A=>by
  simp only [Te]
  split
  ·rename_i hm
   obtain ⟨B,hB⟩:=Ri (g:=g) (k:=k) (x:=x) (d:=d) ls s (row++ [(s.1.idxOf (Aa x (Af g l)):Int)])
   rw [Agj ls s _ A,List.append_assoc,List.map_cons,hB,List.append_assoc,Axa hm]
   rfl
  ·rename_i hm
   obtain ⟨B,hB⟩:=Ri (g:=g) (k:=k) (x:=x) (d:=d) ls (s.1++ [Aa x (Af g l)],s.2.1++ [d+1],s.2.2.1++ [k],s.2.2.2++ [l]) (row++ [(s.1.length:Int)])
   rw [Agj ls _ _ A,List.append_assoc,List.map_cons,hB]
   dsimp only
   rw [List.append_assoc,List.append_assoc,List.singleton_append,List.cons_append,Bam hm]
   try rfl
theorem Aoa {g:List (List Int)} {ls:List Int} : ∀(f k:Nat) (s:EX) (N:List (List Int)),∃A,(Uk g ls f k s N).1.1=s.1++A
 |0,k,s,N=>⟨[],by simp [Uk]⟩
 |f+1,k,s,N=>by
  simp only [Uk]
  split
  ·obtain ⟨A,hA⟩:=Ri (g:=g) (k:=(k:Int)) (x:=s.1.getD k []) (d:=s.2.1.getD k 0) ls s []
   obtain ⟨B,hB⟩:=Aoa (g:=g) (ls:=ls) f (k+1) (Te g (k:Int) (s.1.getD k []) (s.2.1.getD k 0) ls s []).1 (N++ [(Te g (k:Int) (s.1.getD k []) (s.2.1.getD k 0) ls s []).2])
   exact ⟨A++B,by rw [hB,hA,List.append_assoc]⟩
  ·exact ⟨[],by simp⟩
theorem Aob {g:List (List Int)} : ∀(f k:Nat) (s:EX) (N:List (List Int)),(Uk g (Ae g.length) f k s N).1.1.length≤f+k→
  (Uk g (Ae g.length) f k s N).2=N++((Uk g (Ae g.length) f k s N).1.1.drop k).map (Aov g (Uk g (Ae g.length) f k s N).1.1)
 |0,k,s,N,h=>by
  simp only [Uk] at h⊢
  rw [List.drop_of_length_le (by omega)]
  simp
 |f+1,k,s,N,h=>by
  simp only [Uk] at h⊢
  split
  ·rename_i hk
   rw [if_pos hk] at h
   obtain ⟨A,hA⟩:=Ri (g:=g) (k:=(k:Int)) (x:=s.1.getD k []) (d:=s.2.1.getD k 0) (Ae g.length) s []
   obtain ⟨B,hB⟩:=Aoa (g:=g) (ls:=Ae g.length) f (k+1) (Te g (k:Int) (s.1.getD k []) (s.2.1.getD k 0) (Ae g.length) s []).1 (N++ [(Te g (k:Int) (s.1.getD k []) (s.2.1.getD k 0) (Ae g.length) s []).2])
   have hrow:=Agj (g:=g) (k:=(k:Int)) (x:=s.1.getD k []) (d:=s.2.1.getD k 0) (Ae g.length) s [] B
   rw [←hB,List.nil_append] at hrow
   rw [Aob f (k+1) _ _ (by omega),List.append_assoc]
   congr 1
   generalize hR:Uk g (Ae g.length) f (k+1) _ _=R at*
   have hkR:k<R.1.1.length:=by rw [hB,hA,List.length_append,List.length_append];omega
   rw [List.drop_eq_getElem_cons hkR,List.map_cons,List.singleton_append]
   congr 1
   have e:R.1.1[k]=s.1.getD k []:=by
    rw [←Cv (d:= []) hkR,hB,hA,List.append_assoc,Em hk]
   rw [hrow,e]
   rfl
  ·rename_i hk
   rw [List.drop_of_length_le (by show s.1.length≤k;omega)]
   simp
theorem Bag {p:PP} (hw:Cd p=true):(Gz p).2.2.2.2.2.2.1=(Ab p).map (Aov p.2.2.1 (Ab p)):=by
 have h1:=(Aje hw).1
 have h2:=Avs (Cn hw).1
 have h3:=Aob (g:=p.2.2.1) 3001 0 ([upto p.1.toNat],[0],[0],[0]) [] (by
  show (Gz p).2.1.length≤3001+0
  rw [h1];omega)
 have h4:(Uk p.2.2.1 (Ae p.2.2.1.length) 3001 0 ([upto p.1.toNat],[0],[0],[0]) []).1.1=Ab p:=h1
 rw [h4,List.nil_append,List.drop_zero] at h3
 exact h3
noncomputable def Io (p:PP) (i:Nat):List Int:=Aov p.2.2.1 (Ab p) ((Ab p).getD i [])
theorem Rt {p:PP} (hw:Cd p=true):Ajq p.2.2.1 (Ae p.2.2.1.length) (Ab p):=by
 obtain ⟨hv,hb⟩:=Cn hw
 have hV:=valid hv
 have hn:=hV.n
 exact Amw hV (Yb hv) (Ak8 hv (by rw [Nr];omega) (fun y hy=>by have:=Hk.1 hy;omega) hb)
theorem Bby {p:PP} (hw:Cd p=true):Ajt p.2.2.1 (Ae p.2.2.1.length) (Ab p) (Ah p):=by
 obtain ⟨hv,hb⟩:=Cn hw
 have hn:=(valid hv).n
 exact Ak8 hv (by rw [Nr];omega) (fun y hy=>by have:=Hk.1 hy;omega) hb
theorem Bdp {p:PP} (hw:Cd p=true) {i:Nat} (hi:i<(Ab p).length) {l:Int} (hl:l∈Ae p.2.2.1.length):
  (Ab p).idxOf (Aa ((Ab p).getD i []) (Af p.2.2.1 l))<(Ab p).length∧
  (Ab p).getD ((Ab p).idxOf (Aa ((Ab p).getD i []) (Af p.2.2.1 l))) []=Aa ((Ab p).getD i []) (Af p.2.2.1 l):=by
 have hm:=(Rt hw).next _ (Sj hi) l hl
 have h1:=List.idxOf_lt_length_of_mem hm
 exact ⟨h1,by rw [Cv h1];exact List.getElem_idxOf h1⟩
theorem Ar1 {p:PP} (hw:Cd p=true):Bgu (Io p) (Ab p).length:=fun i hi t ht=>by
 obtain ⟨l,hl,rfl⟩:=List.mem_map.1 ht
 have:=(Bdp hw hi hl).1
 omega
end Go.Proofs.Ytebabhocakedaaa
