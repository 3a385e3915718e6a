/-
  Part 43 of the proof that the statement FnTwoPhase holds.
-/
import Derived.Test.YtkkdpknjohcekaaCFTwoPhase41
namespace Go.Proofs.Ytkkdpknjohcekaa
open Go.RowKit
abbrev tU:Ty:= .int .u64
def kU:Tab where
 ty:= λt=>match t with
  |2=>some tI
  |3=>some tI
  |4=>some .bool
  |31=>some tL
  |79=>some tU
  |26=>some tU
  |_=>none
 elem:= λt=>match t with
  |31=>some 2
  |_=>none
 mapOf:= λ_=>none
 off:= λ_ _=>none
 tb:=true
 CG:=true
theorem Al1: ∀t τ,kU.ty t=some τ->oR Try.prog kU t τ:=by
 intro t τ h
 simp only [kU] at h
 split at h
 ·cases h;exact ⟨Ek (b:=8) (by kernel_rfl) (by omega),(by kernel_rfl:Try.prog.underlying 2=some (.int .i64))⟩
 ·cases h;exact ⟨Ek (b:=8) (by kernel_rfl) (by omega),(by kernel_rfl:Try.prog.underlying 3=some (.int .i64))⟩
 ·cases h;exact ⟨Ek (b:=1) (by kernel_rfl) (by omega),(by kernel_rfl:Try.prog.underlying 4=some (.bool))⟩
 ·cases h;exact ⟨Ek (b:=24) (by kernel_rfl) (by omega),⟨2,by kernel_rfl,rfl,rfl⟩⟩
 ·cases h;exact ⟨Ek (b:=8) (by kernel_rfl) (by omega),(by kernel_rfl:Try.prog.underlying 79=some (.int .u64))⟩
 ·cases h;exact ⟨Ek (b:=8) (by kernel_rfl) (by omega),(by kernel_rfl:Try.prog.underlying 26=some (.int .u64))⟩
 ·cases h
theorem Acd: ∀t te,kU.elem t=some te->Try.prog.underlying t=some (.slice te):=by
 intro t te h
 simp only [kU] at h
 split at h
 ·cases h;kernel_rfl
 ·cases h
theorem Ace: ∀t τ,kU.ty t=some τ->τ.Ar=true-> ∃(fs:Array Field) (Mk:Array (Nat×Nat)),Try.prog.underlying t=some (.struct fs)/\(∀w,(placesOf fs).run Try.prog w= .ok Mk w)/\
  ∀f o u ρ,kU.off t f=some (o,u)->kU.ty u=some ρ->Mk[f]?=some (o,ρ.size):=by
 intro t τ h hs
 simp only [kU] at h
 split at h
 ·cases h;simp [Ty.Ar] at hs
 ·cases h;simp [Ty.Ar] at hs
 ·cases h;simp [Ty.Ar] at hs
 ·cases h;simp [Ty.Ar] at hs
 ·cases h;simp [Ty.Ar] at hs
 ·cases h;simp [Ty.Ar] at hs
 ·cases h
theorem OY:Eh Try.prog kU:=⟨Ace,Al1,Acd,(λt v h=>by cases h),(λs f o t h=>by cases h)⟩
end Go.Proofs.Ytkkdpknjohcekaa
