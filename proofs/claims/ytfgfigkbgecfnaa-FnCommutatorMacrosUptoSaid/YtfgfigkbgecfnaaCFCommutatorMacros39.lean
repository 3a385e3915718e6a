/-
  Part 40 of the proof that the statement FnCommutatorMacros holds.
-/
import Derived.Test.YtfgfigkbgecfnaaCFCommutatorMacros38
namespace Go.Proofs.Ytfgfigkbgecfnaa
open Go.ChangeShapes Go.WideShapes Go.ChangeAt Go.RowKit
set_option maxRecDepth 100000
theorem own:ownKnob Try.prog.godebug=none:=by kernel_rfl
theorem laidOut:laidOutB Try.prog=true:=by kernel_rfl
theorem DQ {H:Type} {enc:TypeId×Value->H} {W:World} {t:TypeId} {τ:Ty} {v:Value} {d:DataW H} {p:List MemPlace} (ht:kU.ty t=some τ) (hs:τ.Ak=false)
  (ho:v.cells= #[v]) (h:DataW.Trod enc Try.prog W 0 (λ_=>true) true t v d p): ∃x:τ.den,Ck W (λ_=>False) τ v x/\τ.cO x<=Rows.uptoBulk d:=by
 obtain ⟨fuel,hf⟩:=h
 rw [ho] at hf
 obtain ⟨x,hc,hb⟩:=wY MN (KA H) fuel t τ _ d p ht hf
 exact ⟨x,⟨_,hc,by simp [Bi,hs]⟩,hb⟩
theorem DS {W:World} {A:Nat->Prop} {v:Value} {b:Bool} (hr:Ck W A .bool v b):v= .bool b:=by
 obtain ⟨cs,hc,rfl⟩:=hr
 have hc:cs= [.bool b]:=hc
 subst hc
 rfl
end Go.Proofs.Ytfgfigkbgecfnaa
