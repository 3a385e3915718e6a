/-
  Part 42 of the proof that the statement FnExactStateClassCount holds.
-/
import Derived.Test.YtebabhocakedaaaCStateClassCount40
namespace Go.Proofs.Ytebabhocakedaaa
open Go.ChangeShapes Go.WideShapes Go.ChangeAt Go.RowKit
set_option maxRecDepth 100000
theorem own:ownKnob Try.prog.godebug=none:=by kernel_rfl
theorem laidOut:laidOutB Try.prog=true:=by kernel_rfl
theorem Ayk (xs:List Int):xs.length+1≤tL.Mx xs:=by
 have: ∀l:List Int,l.length≤(l.map (Ty.Mx tI)).sum:=by
  intro l
  induction l with
  |nil=>simp
  |cons a l ih=>simp only [List.map_cons,List.sum_cons,List.length_cons];have:Ty.Mx tI a=1:=rfl;omega
 have:=this xs
 show xs.length+1≤(xs.map (Ty.Mx tI)).sum+1
 omega
theorem Av5 (xs:List (List Int)):xs.length+1≤tLL.Mx xs∧ ∀r∈xs,r.length+1≤tLL.Mx xs:=by
 have h1: ∀l:List (List Int),l.length≤(l.map (Ty.Mx tL)).sum∧ ∀r∈l,r.length+1≤(l.map (Ty.Mx tL)).sum:=by
  intro l
  induction l with
  |nil=>simp
  |cons a l ih=>
   have ha:=Ayk a
   simp only [List.map_cons,List.sum_cons,List.length_cons]
   refine ⟨by omega,fun r hr=>?_⟩
   cases List.mem_cons.1 hr with
   |inl e=>subst e;omega
   |inr e=>have:=ih.2 r e;omega
 have h2:=h1 xs
 refine ⟨?_,fun r hr=>?_⟩
 ·show xs.length+1≤(xs.map (Ty.Mx tL)).sum+1
  omega
 ·show r.length+1≤(xs.map (Ty.Mx tL)).sum+1
  have:=h2.2 r hr
  omega
theorem Awt (t:List (List Int)) (h:tLL.Mx t≤1048576):Is t:=by
 have h2:=Av5 t
 refine ⟨by omega,fun r hr=>?_⟩
 have:=h2.2 r hr;unfold short;omega
theorem Ba0 (p:PP) (h:Db.Mx p≤1048576):Ed p:=by
 have h':1+(Ty.Mx .str p.2.1+(tLL.Mx p.2.2.1+0))≤1048576:=h
 have h1:p.2.1.size≤Ty.Mx .str p.2.1:=by simp [Ty.Mx]
 exact ⟨by omega,Awt _ (by omega)⟩
theorem Alq {H:Type} {enc:TypeId×Value→H} {W:World} {base:Nat} {t:TypeId} {τ:Ty} {v:Value} {d:DataW H} {p:List MemPlace} (ht:Atn.ty t=some τ) (hs:τ.Ab=true)
  (ho:Value.okWide Try.prog W .any base t v) (h:DataW.Trod enc Try.prog W 0 (fun _=>true) true t v d p): ∃x:τ.den,Bb W (fun _=>False) τ v x∧τ.Mx x≤Rows.uptoBulk d:=by
 obtain ⟨fuel,hf⟩:=h
 obtain ⟨x,hc,hb⟩:=Ax8 Bcb (Bek H) fuel t τ _ d p ht hf
 obtain ⟨fs,hu,_⟩:=Bcb.fields t τ ht hs
 obtain ⟨cs,rfl,_⟩:=okWide_struct hu ho
 exact ⟨x,⟨_,hc,by simp [An,hs,Value.cells]⟩,hb⟩
theorem Bcd {W:World} {A:Nat→Prop} {v:Value} {b:Bool} (hr:Bb W A .bool v b):v= .bool b:=by
 obtain ⟨cs,hc,rfl⟩:=hr
 have hc:cs= [.bool b]:=hc
 subst hc
 rfl
end Go.Proofs.Ytebabhocakedaaa
