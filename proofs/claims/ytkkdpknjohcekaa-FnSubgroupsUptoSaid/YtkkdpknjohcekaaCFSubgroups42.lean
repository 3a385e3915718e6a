/-
  Part 43 of the proof that the statement FnSubgroups holds.
-/
import Derived.Test.YtkkdpknjohcekaaCFSubgroups41
namespace Go.Proofs.Ytkkdpknjohcekaa
open Go.RowKit
abbrev tU:Ty:= .int .u64
def kX:Tab where
 ty:= λt=>match t with
  |2=>some tI
  |3=>some tI
  |4=>some .bool
  |31=>some tL
  |79=>some tU
  |26=>some tU
  |_=>none
 elem:= λt=>match t with
  |31=>some 2
  |_=>none
 mapOf:= λ_=>none
 off:= λ_ _=>none
 sl:=true
 yC:=true
theorem Al9: ∀t τ,kX.ty t=some τ->nk Try.prog kX t τ:=by
 intro t τ h
 simp only [kX] at h
 split at h
 ·cases h;exact ⟨Dm (b:=8) (by kernel_rfl) (by omega),(by kernel_rfl:Try.prog.underlying 2=some (.int .i64))⟩
 ·cases h;exact ⟨Dm (b:=8) (by kernel_rfl) (by omega),(by kernel_rfl:Try.prog.underlying 3=some (.int .i64))⟩
 ·cases h;exact ⟨Dm (b:=1) (by kernel_rfl) (by omega),(by kernel_rfl:Try.prog.underlying 4=some (.bool))⟩
 ·cases h;exact ⟨Dm (b:=24) (by kernel_rfl) (by omega),⟨2,by kernel_rfl,rfl,rfl⟩⟩
 ·cases h;exact ⟨Dm (b:=8) (by kernel_rfl) (by omega),(by kernel_rfl:Try.prog.underlying 79=some (.int .u64))⟩
 ·cases h;exact ⟨Dm (b:=8) (by kernel_rfl) (by omega),(by kernel_rfl:Try.prog.underlying 26=some (.int .u64))⟩
 ·cases h
theorem Aco: ∀t te,kX.elem t=some te->Try.prog.underlying t=some (.slice te):=by
 intro t te h
 simp only [kX] at h
 split at h
 ·cases h;kernel_rfl
 ·cases h
theorem Acp: ∀t τ,kX.ty t=some τ->τ.Ap=true-> ∃(fs:Array Field) (Kj:Array (Nat×Nat)),Try.prog.underlying t=some (.struct fs)/\(∀w,(placesOf fs).run Try.prog w= .ok Kj w)/\
  ∀f o u ρ,kX.off t f=some (o,u)->kX.ty u=some ρ->Kj[f]?=some (o,ρ.size):=by
 intro t τ h hs
 simp only [kX] at h
 split at h
 ·cases h;simp [Ty.Ap] at hs
 ·cases h;simp [Ty.Ap] at hs
 ·cases h;simp [Ty.Ap] at hs
 ·cases h;simp [Ty.Ap] at hs
 ·cases h;simp [Ty.Ap] at hs
 ·cases h;simp [Ty.Ap] at hs
 ·cases h
theorem OZ:Ef Try.prog kX:=⟨Acp,Al9,Aco,(λt v h=>by cases h),(λs f o t h=>by cases h)⟩
end Go.Proofs.Ytkkdpknjohcekaa
