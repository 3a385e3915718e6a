/-
  Part 37 of the proof that the statement FnExactSolveTwoPhaseWithin holds.
-/
import Derived.Test.YtfgfigkbgecfnaaCSolveTwoPhaseWithin35
namespace Go.Proofs.Ytfgfigkbgecfnaa
open Go.RowKit
abbrev tO:Ty:= .oslice tI
abbrev tLO:Ty:= .slice tO
abbrev CW:Ty:= .pair tI (.pair (.slice tLO) (.pair (.slice tLO) .unit))
def bu:Tab where
 ty:= λt=>match t with
  |2=>some tI
  |3=>some tI
  |4=>some .bool
  |33=>some tO
  |27=>some tLO
  |162=>some (.slice tLO)
  |164=>some CW
  |_=>none
 elem:= λt=>match t with
  |33=>some 2
  |27=>some 33
  |162=>some 27
  |_=>none
 mapOf:= λ_=>none
 off:= λs f=>match s,f with
  |164,0=>some (0,2)
  |164,1=>some (1,162)
  |164,2=>some (2,162)
  |_,_=>none
 tN:=true
 DA:=false
 Aht:= [27]
theorem Amf: ∀t τ,bu.ty t=some τ->pk Try.prog bu t τ:=by
 intro t τ h;simp only [bu] at h;split at h
 ·cases h;exact ⟨Fe (b:=8) (by kernel_rfl) (by omega),(by kernel_rfl:Try.prog.underlying 2=some (.int .i64))⟩
 ·cases h;exact ⟨Fe (b:=8) (by kernel_rfl) (by omega),(by kernel_rfl:Try.prog.underlying 3=some (.int .i64))⟩
 ·cases h;exact ⟨Fe (b:=1) (by kernel_rfl) (by omega),(by kernel_rfl:Try.prog.underlying 4=some (.bool))⟩
 ·cases h;exact ⟨Fe (b:=24) (by kernel_rfl) (by omega),⟨2,by kernel_rfl,rfl,rfl⟩⟩
 ·cases h;exact ⟨Fe (b:=24) (by kernel_rfl) (by omega),⟨33,by kernel_rfl,rfl,rfl⟩⟩
 ·cases h;exact ⟨Fe (b:=24) (by kernel_rfl) (by omega),⟨27,by kernel_rfl,rfl,rfl⟩⟩
 ·cases h;exact ⟨Fe (b:=56) (by kernel_rfl) (by omega),⟨fieldsOf Try.prog 164,by kernel_rfl⟩⟩
 ·cases h
theorem Ad9: ∀t te,bu.elem t=some te->Try.prog.underlying t=some (.slice te):=by
 intro t te h;simp only [bu] at h;split at h
 ·cases h;kernel_rfl
 ·cases h;kernel_rfl
 ·cases h;kernel_rfl
 ·cases h
theorem Ah2: ∀s f o t,bu.off s f=some (o,t)-> ∃(fs:Array Field) (fd:Field),Try.prog.underlying s=some (.struct fs)/\fs[f]?=some fd/\fd.offset=o/\fd.type=t/\ ∃i:TypeInfo,Try.prog.info? t=some i/\i.size≠0:=by
 intro s f o t h;simp only [bu] at h;split at h
 ·cases h;exact Is (by kernel_rfl) (by kernel_rfl) (by kernel_rfl)
 ·cases h;exact Is (by kernel_rfl) (by kernel_rfl) (by kernel_rfl)
 ·cases h;exact Is (by kernel_rfl) (by kernel_rfl) (by kernel_rfl)
 ·cases h
theorem Ada: ∀t τ,bu.ty t=some τ->τ.Ar=true-> ∃(fs:Array Field) (Mo:Array (Nat×Nat)),Try.prog.underlying t=some (.struct fs)/\(∀w,(placesOf fs).run Try.prog w= .ok Mo w)/\
  ∀f o u ρ,bu.off t f=some (o,u)->bu.ty u=some ρ->Mo[f]?=some (o,ρ.size):=by
 intro t τ h hs
 have all: ∀t,∀f o u ρ,bu.off t f=some (o,u)->bu.ty u=some ρ->(Ve t)[f]?=some (o,ρ.size):=by
  intro t f o u ρ ho hu;simp only [bu] at ho;split at ho
  all_goals first
   |(cases ho;cases hu;rfl)
   |cases ho
 simp only [bu] at h;split at h
 ·cases h;simp [Ty.Ar] at hs
 ·cases h;simp [Ty.Ar] at hs
 ·cases h;simp [Ty.Ar] at hs
 ·cases h;simp [Ty.Ar] at hs
 ·cases h;simp [Ty.Ar] at hs
 ·cases h;simp [Ty.Ar] at hs
 ·cases h;exact ⟨fieldsOf Try.prog 164,Ve 164,by kernel_rfl,(λw=>by kernel_rfl),all _⟩
 ·cases h
theorem qA:Ec Try.prog bu:=⟨Ada,Amf,Ad9,(λt v h=>by cases h),Ah2⟩
def Adb (l:List Nat):Tab:= {bu with marks:=l}
theorem Ah1 (l:List Nat):Ec Try.prog (Adb l):=qA.qE l
end Go.Proofs.Ytfgfigkbgecfnaa
