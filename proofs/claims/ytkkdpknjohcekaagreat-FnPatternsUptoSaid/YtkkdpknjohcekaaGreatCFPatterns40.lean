/-
  Part 41 of the proof that the statement FnPatterns holds.
-/
import Derived.Test.YtkkdpknjohcekaaGreatCFPatterns39
namespace Go.Proofs.YtkkdpknjohcekaaGreat
open Go.ChangeShapes Go.WideShapes Go.ChangeAt Go.RowKit
set_option maxRecDepth 100000
theorem own:ownKnob Tryz.prog.godebug=none:=by kernel_rfl
theorem laidOut:laidOutB Tryz.prog=true:=by kernel_rfl
theorem Abs {H:Type} {enc:TypeId×Value->H} {W:World} {t:TypeId} {τ:Ty} {v:Value} {d:DataW H} {p:List MemPlace} (ht:ux.ty t=some τ) (hs:τ.Ap=false)
  (ho:v.cells= #[v]) (h:DataW.Trod enc Tryz.prog W 0 (λ_=>true) true t v d p): ∃x:τ.den,Cw W (λ_=>False) τ v x/\τ.iy x<=Rows.uptoBulk d:=by
 obtain ⟨fuel,hf⟩:=h
 rw [ho] at hf
 obtain ⟨x,hc,hb⟩:=PK Ak7 (Ai2 H) fuel t τ _ d p ht hf
 exact ⟨x,⟨_,hc,by simp [Cd,hs]⟩,hb⟩
theorem Abu {W:World} {A:Nat->Prop} {v:Value} {b:Bool} (hr:Cw W A .bool v b):v= .bool b:=by
 obtain ⟨cs,hc,rfl⟩:=hr
 have hc:cs= [.bool b]:=hc
 subst hc
 rfl
end Go.Proofs.YtkkdpknjohcekaaGreat
