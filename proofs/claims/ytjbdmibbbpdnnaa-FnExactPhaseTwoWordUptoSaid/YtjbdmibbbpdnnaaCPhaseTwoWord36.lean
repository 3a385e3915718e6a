/-
  Part 37 of the proof that the statement FnExactPhaseTwoWord holds.
-/
import Derived.Test.YtjbdmibbbpdnnaaCPhaseTwoWord35
namespace Go.Proofs.Ytjbdmibbbpdnnaa
open Go.RowKit
abbrev tO:Ty:= .oslice tI
abbrev VX:Ty:= .slice tO
abbrev tj:Ty:= .pair tI (.pair (.slice VX) (.pair (.slice VX) .unit))
def Tz:Tab where
 ty:= λt=>match t with
  |2=>some tI
  |3=>some tI
  |4=>some .bool
  |25=>some tO
  |22=>some VX
  |177=>some (.slice VX)
  |179=>some tj
  |_=>none
 elem:= λt=>match t with
  |25=>some 2
  |22=>some 25
  |177=>some 22
  |_=>none
 mapOf:= λ_=>none
 off:= λs f=>match s,f with
  |179,0=>some (0,2)
  |179,1=>some (1,177)
  |179,2=>some (2,177)
  |_,_=>none
 oa:=true
 tQ:=false
 PC:= [22]
theorem UK: ∀t τ,Tz.ty t=some τ->kW Try.prog Tz t τ:=by
 intro t τ h
 simp only [Tz] at h
 split at h
 ·cases h;exact ⟨Cn (b:=8) (by kernel_rfl) (by omega),(by kernel_rfl:Try.prog.underlying 2=some (.int .i64))⟩
 ·cases h;exact ⟨Cn (b:=8) (by kernel_rfl) (by omega),(by kernel_rfl:Try.prog.underlying 3=some (.int .i64))⟩
 ·cases h;exact ⟨Cn (b:=1) (by kernel_rfl) (by omega),(by kernel_rfl:Try.prog.underlying 4=some (.bool))⟩
 ·cases h;exact ⟨Cn (b:=24) (by kernel_rfl) (by omega),⟨2,by kernel_rfl,rfl,rfl⟩⟩
 ·cases h;exact ⟨Cn (b:=24) (by kernel_rfl) (by omega),⟨25,by kernel_rfl,rfl,rfl⟩⟩
 ·cases h;exact ⟨Cn (b:=24) (by kernel_rfl) (by omega),⟨22,by kernel_rfl,rfl,rfl⟩⟩
 ·cases h;exact ⟨Cn (b:=56) (by kernel_rfl) (by omega),⟨fieldsOf Try.prog 179,by kernel_rfl⟩⟩
 ·cases h
theorem JZ: ∀t te,Tz.elem t=some te->Try.prog.underlying t=some (.slice te):=by
 intro t te h
 simp only [Tz] at h
 split at h
 ·cases h;kernel_rfl
 ·cases h;kernel_rfl
 ·cases h;kernel_rfl
 ·cases h
theorem OI: ∀s f o t,Tz.off s f=some (o,t)-> ∃(fs:Array Field) (fd:Field),Try.prog.underlying s=some (.struct fs)/\fs[f]?=some fd/\fd.offset=o/\fd.type=t/\ ∃i:TypeInfo,Try.prog.info? t=some i/\i.size≠0:=by
 intro s f o t h
 simp only [Tz] at h
 split at h
 ·cases h;exact Ds (by kernel_rfl) (by kernel_rfl) (by kernel_rfl)
 ·cases h;exact Ds (by kernel_rfl) (by kernel_rfl) (by kernel_rfl)
 ·cases h;exact Ds (by kernel_rfl) (by kernel_rfl) (by kernel_rfl)
 ·cases h
theorem KA: ∀t τ,Tz.ty t=some τ->τ.Ac=true-> ∃(fs:Array Field) (Iw:Array (Nat×Nat)),Try.prog.underlying t=some (.struct fs)/\(∀w,(placesOf fs).run Try.prog w= .ok Iw w)/\
  ∀f o u ρ,Tz.off t f=some (o,u)->Tz.ty u=some ρ->Iw[f]?=some (o,ρ.size):=by
 intro t τ h hs
 have all: ∀t,∀f o u ρ,Tz.off t f=some (o,u)->Tz.ty u=some ρ->(Lz t)[f]?=some (o,ρ.size):=by
  intro t f o u ρ ho hu
  simp only [Tz] at ho
  split at ho
  all_goals first
   |(cases ho;cases hu;rfl)
   |cases ho
 simp only [Tz] at h
 split at h
 ·cases h;simp [Ty.Ac] at hs
 ·cases h;simp [Ty.Ac] at hs
 ·cases h;simp [Ty.Ac] at hs
 ·cases h;simp [Ty.Ac] at hs
 ·cases h;simp [Ty.Ac] at hs
 ·cases h;simp [Ty.Ac] at hs
 ·cases h;exact ⟨fieldsOf Try.prog 179,Lz 179,by kernel_rfl,(λw=>by kernel_rfl),all _⟩
 ·cases h
theorem jR:Cd Try.prog Tz:=⟨KA,UK,JZ,(λt v h=>by cases h),OI⟩
def KB (l:List Nat):Tab:= {Tz with marks:=l}
theorem OH (l:List Nat):Cd Try.prog (KB l):=jR.qS l
end Go.Proofs.Ytjbdmibbbpdnnaa
