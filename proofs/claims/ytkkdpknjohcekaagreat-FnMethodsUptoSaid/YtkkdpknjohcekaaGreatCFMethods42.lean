/-
  Part 43 of the proof that the statement FnMethods holds.
-/
import Derived.Test.YtkkdpknjohcekaaGreatCFMethods41
namespace Go.Proofs.YtkkdpknjohcekaaGreat
open Go.RowKit
abbrev tU:Ty:= .int .u64
def kY:Tab where
 ty:= λt=>match t with
  |2=>some tI
  |3=>some tI
  |4=>some .bool
  |33=>some tL
  |99=>some tU
  |26=>some tU
  |_=>none
 elem:= λt=>match t with
  |33=>some 2
  |_=>none
 mapOf:= λ_=>none
 off:= λ_ _=>none
 tq:=true
 CY:=true
theorem Alk: ∀t τ,kY.ty t=some τ->ph Tryz.prog kY t τ:=by
 intro t τ h
 simp only [kY] at h
 split at h
 ·cases h;exact ⟨Fk (b:=8) (by kernel_rfl) (by omega),(by kernel_rfl:Tryz.prog.underlying 2=some (.int .i64))⟩
 ·cases h;exact ⟨Fk (b:=8) (by kernel_rfl) (by omega),(by kernel_rfl:Tryz.prog.underlying 3=some (.int .i64))⟩
 ·cases h;exact ⟨Fk (b:=1) (by kernel_rfl) (by omega),(by kernel_rfl:Tryz.prog.underlying 4=some (.bool))⟩
 ·cases h;exact ⟨Fk (b:=24) (by kernel_rfl) (by omega),⟨2,by kernel_rfl,rfl,rfl⟩⟩
 ·cases h;exact ⟨Fk (b:=8) (by kernel_rfl) (by omega),(by kernel_rfl:Tryz.prog.underlying 99=some (.int .u64))⟩
 ·cases h;exact ⟨Fk (b:=8) (by kernel_rfl) (by omega),(by kernel_rfl:Tryz.prog.underlying 26=some (.int .u64))⟩
 ·cases h
theorem Acv: ∀t te,kY.elem t=some te->Tryz.prog.underlying t=some (.slice te):=by
 intro t te h
 simp only [kY] at h
 split at h
 ·cases h;kernel_rfl
 ·cases h
theorem Acw: ∀t τ,kY.ty t=some τ->τ.Ar=true-> ∃(fs:Array Field) (My:Array (Nat×Nat)),Tryz.prog.underlying t=some (.struct fs)/\(∀w,(placesOf fs).run Tryz.prog w= .ok My w)/\
  ∀f o u ρ,kY.off t f=some (o,u)->kY.ty u=some ρ->My[f]?=some (o,ρ.size):=by
 intro t τ h hs
 simp only [kY] at h
 split at h
 ·cases h;simp [Ty.Ar] at hs
 ·cases h;simp [Ty.Ar] at hs
 ·cases h;simp [Ty.Ar] at hs
 ·cases h;simp [Ty.Ar] at hs
 ·cases h;simp [Ty.Ar] at hs
 ·cases h;simp [Ty.Ar] at hs
 ·cases h
theorem PS:Ep Tryz.prog kY:=⟨Acw,Alk,Acv,(λt v h=>by cases h),(λs f o t h=>by cases h)⟩
end Go.Proofs.YtkkdpknjohcekaaGreat
