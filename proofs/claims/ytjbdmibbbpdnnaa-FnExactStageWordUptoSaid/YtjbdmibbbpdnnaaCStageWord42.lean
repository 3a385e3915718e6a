/-
  Part 43 of the proof that the statement FnExactStageWord holds.
-/
import Derived.Test.YtjbdmibbbpdnnaaCStageWord41
namespace Go.Proofs.Ytjbdmibbbpdnnaa
open Go.RowKit
abbrev tU:Ty:= .int .u64
def dL:Tab where
 ty:= λt=>match t with
  |2=>some tI
  |3=>some tI
  |4=>some .bool
  |25=>some tL
  |157=>some tU
  |174=>some tU
  |_=>none
 elem:= λt=>match t with
  |25=>some 2
  |_=>none
 mapOf:= λ_=>none
 off:= λ_ _=>none
 me:=true
 tw:=true
theorem VP: ∀t τ,dL.ty t=some τ->iE Try.prog dL t τ:=by
 intro t τ h
 simp only [dL] at h
 split at h
 ·cases h;exact ⟨Bu (b:=8) (by kernel_rfl) (by omega),(by kernel_rfl:Try.prog.underlying 2=some (.int .i64))⟩
 ·cases h;exact ⟨Bu (b:=8) (by kernel_rfl) (by omega),(by kernel_rfl:Try.prog.underlying 3=some (.int .i64))⟩
 ·cases h;exact ⟨Bu (b:=1) (by kernel_rfl) (by omega),(by kernel_rfl:Try.prog.underlying 4=some (.bool))⟩
 ·cases h;exact ⟨Bu (b:=24) (by kernel_rfl) (by omega),⟨2,by kernel_rfl,rfl,rfl⟩⟩
 ·cases h;exact ⟨Bu (b:=8) (by kernel_rfl) (by omega),(by kernel_rfl:Try.prog.underlying 157=some (.int .u64))⟩
 ·cases h;exact ⟨Bu (b:=8) (by kernel_rfl) (by omega),(by kernel_rfl:Try.prog.underlying 174=some (.int .u64))⟩
 ·cases h
theorem KU: ∀t te,dL.elem t=some te->Try.prog.underlying t=some (.slice te):=by
 intro t te h
 simp only [dL] at h
 split at h
 ·cases h;kernel_rfl
 ·cases h
theorem KV: ∀t τ,dL.ty t=some τ->τ.Ab=true-> ∃(fs:Array Field) (Gx:Array (Nat×Nat)),Try.prog.underlying t=some (.struct fs)/\(∀w,(placesOf fs).run Try.prog w= .ok Gx w)/\
  ∀f o u ρ,dL.off t f=some (o,u)->dL.ty u=some ρ->Gx[f]?=some (o,ρ.size):=by
 intro t τ h hs
 simp only [dL] at h
 split at h
 ·cases h;simp [Ty.Ab] at hs
 ·cases h;simp [Ty.Ab] at hs
 ·cases h;simp [Ty.Ab] at hs
 ·cases h;simp [Ty.Ab] at hs
 ·cases h;simp [Ty.Ab] at hs
 ·cases h;simp [Ty.Ab] at hs
 ·cases h
theorem zi:Bz Try.prog dL:=⟨KV,VP,KU,(λt v h=>by cases h),(λs f o t h=>by cases h)⟩
end Go.Proofs.Ytjbdmibbbpdnnaa
