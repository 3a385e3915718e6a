/-
  Part 43 of the proof that the statement FnExactMethodLength holds.
-/
import Derived.Test.YtjbdmibbbpdnnaaCMethodLength41
namespace Go.Proofs.Ytjbdmibbbpdnnaa
open Go.RowKit
abbrev tU:Ty:= .int .u64
def ei:Tab where
 ty:= λt=>match t with
  |2=>some tI
  |3=>some tI
  |4=>some .bool
  |25=>some tL
  |157=>some tU
  |174=>some tU
  |_=>none
 elem:= λt=>match t with
  |25=>some 2
  |_=>none
 mapOf:= λ_=>none
 off:= λ_ _=>none
 mK:=true
 ur:=true
theorem YC: ∀t τ,ei.ty t=some τ->ja Try.prog ei t τ:=by
 intro t τ h
 simp only [ei] at h
 split at h
 ·cases h;exact ⟨Bu (b:=8) (by kernel_rfl) (by omega),(by kernel_rfl:Try.prog.underlying 2=some (.int .i64))⟩
 ·cases h;exact ⟨Bu (b:=8) (by kernel_rfl) (by omega),(by kernel_rfl:Try.prog.underlying 3=some (.int .i64))⟩
 ·cases h;exact ⟨Bu (b:=1) (by kernel_rfl) (by omega),(by kernel_rfl:Try.prog.underlying 4=some (.bool))⟩
 ·cases h;exact ⟨Bu (b:=24) (by kernel_rfl) (by omega),⟨2,by kernel_rfl,rfl,rfl⟩⟩
 ·cases h;exact ⟨Bu (b:=8) (by kernel_rfl) (by omega),(by kernel_rfl:Try.prog.underlying 157=some (.int .u64))⟩
 ·cases h;exact ⟨Bu (b:=8) (by kernel_rfl) (by omega),(by kernel_rfl:Try.prog.underlying 174=some (.int .u64))⟩
 ·cases h
theorem MY: ∀t te,ei.elem t=some te->Try.prog.underlying t=some (.slice te):=by
 intro t te h
 simp only [ei] at h
 split at h
 ·cases h;kernel_rfl
 ·cases h
theorem MZ: ∀t τ,ei.ty t=some τ->τ.Ac=true-> ∃(fs:Array Field) (He:Array (Nat×Nat)),Try.prog.underlying t=some (.struct fs)/\(∀w,(placesOf fs).run Try.prog w= .ok He w)/\
  ∀f o u ρ,ei.off t f=some (o,u)->ei.ty u=some ρ->He[f]?=some (o,ρ.size):=by
 intro t τ h hs
 simp only [ei] at h
 split at h
 ·cases h;simp [Ty.Ac] at hs
 ·cases h;simp [Ty.Ac] at hs
 ·cases h;simp [Ty.Ac] at hs
 ·cases h;simp [Ty.Ac] at hs
 ·cases h;simp [Ty.Ac] at hs
 ·cases h;simp [Ty.Ac] at hs
 ·cases h
theorem zX:Cd Try.prog ei:=⟨MZ,YC,MY,(λt v h=>by cases h),(λs f o t h=>by cases h)⟩
end Go.Proofs.Ytjbdmibbbpdnnaa
