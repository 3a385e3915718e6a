/-
  Part 43 of the proof that the statement FnExactSolveTwoPhaseWithin holds.
-/
import Derived.Test.YtfgfigkbgecfnaaCSolveTwoPhaseWithin41
namespace Go.Proofs.Ytfgfigkbgecfnaa
open Go.RowKit
abbrev tU:Ty:= .int .u64
def lg:Tab where
 ty:= λt=>match t with
  |2=>some tI
  |3=>some tI
  |4=>some .bool
  |33=>some tL
  |99=>some tU
  |26=>some tU
  |_=>none
 elem:= λt=>match t with
  |33=>some 2
  |_=>none
 mapOf:= λ_=>none
 off:= λ_ _=>none
 tN:=true
 DA:=true
theorem Amj: ∀t τ,lg.ty t=some τ->pk Try.prog lg t τ:=by
 intro t τ h;simp only [lg] at h;split at h
 ·cases h;exact ⟨Fe (b:=8) (by kernel_rfl) (by omega),(by kernel_rfl:Try.prog.underlying 2=some (.int .i64))⟩
 ·cases h;exact ⟨Fe (b:=8) (by kernel_rfl) (by omega),(by kernel_rfl:Try.prog.underlying 3=some (.int .i64))⟩
 ·cases h;exact ⟨Fe (b:=1) (by kernel_rfl) (by omega),(by kernel_rfl:Try.prog.underlying 4=some (.bool))⟩
 ·cases h;exact ⟨Fe (b:=24) (by kernel_rfl) (by omega),⟨2,by kernel_rfl,rfl,rfl⟩⟩
 ·cases h;exact ⟨Fe (b:=8) (by kernel_rfl) (by omega),(by kernel_rfl:Try.prog.underlying 99=some (.int .u64))⟩
 ·cases h;exact ⟨Fe (b:=8) (by kernel_rfl) (by omega),(by kernel_rfl:Try.prog.underlying 26=some (.int .u64))⟩
 ·cases h
theorem Ade: ∀t te,lg.elem t=some te->Try.prog.underlying t=some (.slice te):=by
 intro t te h;simp only [lg] at h;split at h
 ·cases h;kernel_rfl
 ·cases h
theorem Adf: ∀t τ,lg.ty t=some τ->τ.Ar=true-> ∃(fs:Array Field) (Mo:Array (Nat×Nat)),Try.prog.underlying t=some (.struct fs)/\(∀w,(placesOf fs).run Try.prog w= .ok Mo w)/\
  ∀f o u ρ,lg.off t f=some (o,u)->lg.ty u=some ρ->Mo[f]?=some (o,ρ.size):=by
 intro t τ h hs;simp only [lg] at h;split at h
 ·cases h;simp [Ty.Ar] at hs
 ·cases h;simp [Ty.Ar] at hs
 ·cases h;simp [Ty.Ar] at hs
 ·cases h;simp [Ty.Ar] at hs
 ·cases h;simp [Ty.Ar] at hs
 ·cases h;simp [Ty.Ar] at hs
 ·cases h
theorem QL:Ec Try.prog lg:=⟨Adf,Amj,Ade,(λt v h=>by cases h),(λs f o t h=>by cases h)⟩
end Go.Proofs.Ytfgfigkbgecfnaa
