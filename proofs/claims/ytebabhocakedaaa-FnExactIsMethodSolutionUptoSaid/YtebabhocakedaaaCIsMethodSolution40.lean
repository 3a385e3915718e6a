/-
  Part 41 of the proof that the statement FnExactIsMethodSolution holds.
-/
import Derived.Test.YtebabhocakedaaaCIsMethodSolution39
namespace Go.Proofs.Ytebabhocakedaaa
open Go.ChangeShapes Go.WideShapes Go.ChangeAt Go.RowKit
set_option maxRecDepth 100000
theorem own:ownKnob Try.prog.godebug=none:=by kernel_rfl
theorem laidOut:laidOutB Try.prog=true:=by kernel_rfl
theorem Amm (xs:List Int):xs.length+1≤tL.Jx xs:=by
 have: ∀l:List Int,l.length≤(l.map (Ty.Jx tI)).sum:=by
  intro l
  induction l with
  |nil=>simp
  |cons a l ih=>simp only [List.map_cons,List.sum_cons,List.length_cons];have:Ty.Jx tI a=1:=rfl;omega
 have:=this xs
 show xs.length+1≤(xs.map (Ty.Jx tI)).sum+1
 omega
theorem Av7 (xs:List (List Int)):xs.length+1≤tLL.Jx xs∧ ∀r∈xs,r.length+1≤tLL.Jx xs:=by
 have h1: ∀l:List (List Int),l.length≤(l.map (Ty.Jx tL)).sum∧ ∀r∈l,r.length+1≤(l.map (Ty.Jx tL)).sum:=by
  intro l
  induction l with
  |nil=>simp
  |cons a l ih=>
   have ha:=Amm a
   simp only [List.map_cons,List.sum_cons,List.length_cons]
   refine ⟨by omega,fun r hr=>?_⟩
   cases List.mem_cons.1 hr with
   |inl e=>subst e;omega
   |inr e=>have:=ih.2 r e;omega
 have h2:=h1 xs
 refine ⟨?_,fun r hr=>?_⟩
 ·show xs.length+1≤(xs.map (Ty.Jx tL)).sum+1
  omega
 ·show r.length+1≤(xs.map (Ty.Jx tL)).sum+1
  have:=h2.2 r hr
  omega
theorem Azt (t:List Int) (h:tL.Jx t≤1048576):short t:=by
 have h1:=Amm t
 unfold short;omega
theorem Acv (t:List (List Int)) (h:tLL.Jx t≤1048576):Cx t:=by
 have h2:=Av7 t
 refine ⟨by omega,fun r hr=>?_⟩
 have:=h2.2 r hr;unfold short;omega
theorem Azu (p:PP) (h:Ct.Jx p≤1048576):Dk p:=by
 have h':1+(Ty.Jx .str p.2.1+(tLL.Jx p.2.2.1+0))≤1048576:=h
 have h1:p.2.1.size≤Ty.Jx .str p.2.1:=by simp [Ty.Jx]
 exact ⟨by omega,Acv _ (by omega)⟩
theorem Alu {H:Type} {enc:TypeId×Value→H} {W:World} {base:Nat} {t:TypeId} {τ:Ty} {v:Value} {d:DataW H} {p:List MemPlace} (ht:Alv.ty t=some τ) (hs:τ.Ab=true)
  (ho:Value.okWide Try.prog W .any base t v) (h:DataW.Trod enc Try.prog W 0 (fun _=>true) true t v d p): ∃x:τ.den,Bc W (fun _=>False) τ v x∧τ.Jx x≤Rows.uptoBulk d:=by
 obtain ⟨fuel,hf⟩:=h
 obtain ⟨x,hc,hb⟩:=Akw Awl (Bb0 H) fuel t τ _ d p ht hf
 obtain ⟨fs,hu,_⟩:=Awl.fields t τ ht hs
 obtain ⟨cs,rfl,_⟩:=okWide_struct hu ho
 exact ⟨x,⟨_,hc,by simp [Ap,hs,Value.cells]⟩,hb⟩
theorem Bc6 {H:Type} {enc:TypeId×Value→H} {W:World} {t:TypeId} {τ:Ty} {v:Value} {d:DataW H} {p:List MemPlace} (ht:Alv.ty t=some τ) (hs:τ.Ab=false)
  (ho:v.cells= #[v]) (h:DataW.Trod enc Try.prog W 0 (fun _=>true) true t v d p): ∃x:τ.den,Bc W (fun _=>False) τ v x∧τ.Jx x≤Rows.uptoBulk d:=by
 obtain ⟨fuel,hf⟩:=h
 rw [ho] at hf
 obtain ⟨x,hc,hb⟩:=Akw Awl (Bb0 H) fuel t τ _ d p ht hf
 exact ⟨x,⟨_,hc,by simp [Ap,hs]⟩,hb⟩
theorem Wd {H:Type} {enc:TypeId×Value→H} {W:World} {base:Nat} {t te:TypeId} {e:Ty} {v:Value} {d:DataW H} {p:List MemPlace} (ht:Alv.ty t=some (.slice e)) (hu:Program.underlying Try.prog t=some (.slice te))
  (ho:Value.okWide Try.prog W .any base t v) (h:DataW.Trod enc Try.prog W 0 (fun _=>true) true t v d p): ∃x:List e.den,Bc W (fun _=>False) (.slice e) v x∧Ty.Jx (.slice e) x≤Rows.uptoBulk d:=by
 obtain ⟨a,b,c,rfl⟩:=okWide_slice hu ho
 exact Bc6 (τ:= .slice e) ht rfl rfl h
theorem Bc8 {W:World} {A:Nat→Prop} {v:Value} {b:Bool} (hr:Bc W A .bool v b):v= .bool b:=by
 obtain ⟨cs,hc,rfl⟩:=hr
 have hc:cs= [.bool b]:=hc
 subst hc
 rfl
end Go.Proofs.Ytebabhocakedaaa
