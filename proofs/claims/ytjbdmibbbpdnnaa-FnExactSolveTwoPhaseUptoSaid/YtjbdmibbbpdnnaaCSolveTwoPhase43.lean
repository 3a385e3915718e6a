/-
  Part 44 of the proof that the statement FnExactSolveTwoPhase holds.
-/
import Derived.Test.YtjbdmibbbpdnnaaCSolveTwoPhase42
namespace Go.Proofs.Ytjbdmibbbpdnnaa
open Go.RowKit
abbrev tU:Ty:= .int .u64
def eZ:Tab where
 ty:= λt=>match t with
  |2=>some tI
  |3=>some tI
  |4=>some .bool
  |25=>some tL
  |157=>some tU
  |174=>some tU
  |_=>none
 elem:= λt=>match t with
  |25=>some 2
  |_=>none
 mapOf:= λ_=>none
 off:= λ_ _=>none
 nM:=true
 vo:=true
theorem Aab: ∀t τ,eZ.ty t=some τ->jL Try.prog eZ t τ:=by
 intro t τ h
 simp only [eZ] at h
 split at h
 ·cases h;exact ⟨Ce (b:=8) (by kernel_rfl) (by omega),(by kernel_rfl:Try.prog.underlying 2=some (.int .i64))⟩
 ·cases h;exact ⟨Ce (b:=8) (by kernel_rfl) (by omega),(by kernel_rfl:Try.prog.underlying 3=some (.int .i64))⟩
 ·cases h;exact ⟨Ce (b:=1) (by kernel_rfl) (by omega),(by kernel_rfl:Try.prog.underlying 4=some (.bool))⟩
 ·cases h;exact ⟨Ce (b:=24) (by kernel_rfl) (by omega),⟨2,by kernel_rfl,rfl,rfl⟩⟩
 ·cases h;exact ⟨Ce (b:=8) (by kernel_rfl) (by omega),(by kernel_rfl:Try.prog.underlying 157=some (.int .u64))⟩
 ·cases h;exact ⟨Ce (b:=8) (by kernel_rfl) (by omega),(by kernel_rfl:Try.prog.underlying 174=some (.int .u64))⟩
 ·cases h
theorem PE: ∀t te,eZ.elem t=some te->Try.prog.underlying t=some (.slice te):=by
 intro t te h
 simp only [eZ] at h
 split at h
 ·cases h;kernel_rfl
 ·cases h
theorem PF: ∀t τ,eZ.ty t=some τ->τ.Ac=true-> ∃(fs:Array Field) (Hp:Array (Nat×Nat)),Try.prog.underlying t=some (.struct fs)/\(∀w,(placesOf fs).run Try.prog w= .ok Hp w)/\
  ∀f o u ρ,eZ.off t f=some (o,u)->eZ.ty u=some ρ->Hp[f]?=some (o,ρ.size):=by
 intro t τ h hs
 simp only [eZ] at h
 split at h
 ·cases h;simp [Ty.Ac] at hs
 ·cases h;simp [Ty.Ac] at hs
 ·cases h;simp [Ty.Ac] at hs
 ·cases h;simp [Ty.Ac] at hs
 ·cases h;simp [Ty.Ac] at hs
 ·cases h;simp [Ty.Ac] at hs
 ·cases h
theorem CM:Ch Try.prog eZ:=⟨PF,Aab,PE,(λt v h=>by cases h),(λs f o t h=>by cases h)⟩
end Go.Proofs.Ytjbdmibbbpdnnaa
