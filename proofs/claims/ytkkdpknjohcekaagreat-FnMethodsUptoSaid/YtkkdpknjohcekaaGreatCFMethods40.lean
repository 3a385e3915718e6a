/-
  Part 41 of the proof that the statement FnMethods holds.
-/
import Derived.Test.YtkkdpknjohcekaaGreatCFMethods39
namespace Go.Proofs.YtkkdpknjohcekaaGreat
open Go.ChangeShapes Go.WideShapes Go.ChangeAt Go.RowKit
set_option maxRecDepth 100000
theorem own:ownKnob Tryz.prog.godebug=none:=by kernel_rfl
theorem laidOut:laidOutB Tryz.prog=true:=by kernel_rfl
theorem Ac9 {H:Type} {enc:TypeId×Value->H} {W:World} {t:TypeId} {τ:Ty} {v:Value} {d:DataW H} {p:List MemPlace} (ht:uT.ty t=some τ) (hs:τ.Ar=false)
  (ho:v.cells= #[v]) (h:DataW.Trod enc Tryz.prog W 0 (λ_=>true) true t v d p): ∃x:τ.den,Dg W (λ_=>False) τ v x/\τ.iP x<=Rows.uptoBulk d:=by
 obtain ⟨fuel,hf⟩:=h
 rw [ho] at hf
 obtain ⟨x,hc,hb⟩:=PV Al9 (Aiy H) fuel t τ _ d p ht hf
 exact ⟨x,⟨_,hc,by simp [Ce,hs]⟩,hb⟩
theorem Acb {W:World} {A:Nat->Prop} {v:Value} {b:Bool} (hr:Dg W A .bool v b):v= .bool b:=by
 obtain ⟨cs,hc,rfl⟩:=hr
 have hc:cs= [.bool b]:=hc
 subst hc
 rfl
end Go.Proofs.YtkkdpknjohcekaaGreat
