/-
  Part 37 of the proof that the statement FnExactLongestMethodSolution holds.
-/
import Derived.Test.YtjbdmibbbpdnnaaCLongestMethodSolution35
namespace Go.Proofs.Ytjbdmibbbpdnnaa
open Go.RowKit
abbrev tO:Ty:= .oslice tI
abbrev XM:Ty:= .slice tO
abbrev tp:Ty:= .pair tI (.pair (.slice XM) (.pair (.slice XM) .unit))
def Th:Tab where
 ty:= λt=>match t with
  |2=>some tI
  |3=>some tI
  |4=>some .bool
  |25=>some tO
  |22=>some XM
  |177=>some (.slice XM)
  |179=>some tp
  |_=>none
 elem:= λt=>match t with
  |25=>some 2
  |22=>some 25
  |177=>some 22
  |_=>none
 mapOf:= λ_=>none
 off:= λs f=>match s,f with
  |179,0=>some (0,2)
  |179,1=>some (1,177)
  |179,2=>some (2,177)
  |_,_=>none
 m8:=true
 tw:=false
 QM:= [22]
theorem VV: ∀t τ,Th.ty t=some τ->iI Try.prog Th t τ:=by
 intro t τ h
 simp only [Th] at h
 split at h
 ·cases h;exact ⟨Bz (b:=8) (by kernel_rfl) (by omega),(by kernel_rfl:Try.prog.underlying 2=some (.int .i64))⟩
 ·cases h;exact ⟨Bz (b:=8) (by kernel_rfl) (by omega),(by kernel_rfl:Try.prog.underlying 3=some (.int .i64))⟩
 ·cases h;exact ⟨Bz (b:=1) (by kernel_rfl) (by omega),(by kernel_rfl:Try.prog.underlying 4=some (.bool))⟩
 ·cases h;exact ⟨Bz (b:=24) (by kernel_rfl) (by omega),⟨2,by kernel_rfl,rfl,rfl⟩⟩
 ·cases h;exact ⟨Bz (b:=24) (by kernel_rfl) (by omega),⟨25,by kernel_rfl,rfl,rfl⟩⟩
 ·cases h;exact ⟨Bz (b:=24) (by kernel_rfl) (by omega),⟨22,by kernel_rfl,rfl,rfl⟩⟩
 ·cases h;exact ⟨Bz (b:=56) (by kernel_rfl) (by omega),⟨fieldsOf Try.prog 179,by kernel_rfl⟩⟩
 ·cases h
theorem KU: ∀t te,Th.elem t=some te->Try.prog.underlying t=some (.slice te):=by
 intro t te h
 simp only [Th] at h
 split at h
 ·cases h;kernel_rfl
 ·cases h;kernel_rfl
 ·cases h;kernel_rfl
 ·cases h
theorem PR: ∀s f o t,Th.off s f=some (o,t)-> ∃(fs:Array Field) (fd:Field),Try.prog.underlying s=some (.struct fs)/\fs[f]?=some fd/\fd.offset=o/\fd.type=t/\ ∃i:TypeInfo,Try.prog.info? t=some i/\i.size≠0:=by
 intro s f o t h
 simp only [Th] at h
 split at h
 ·cases h;exact Ds (by kernel_rfl) (by kernel_rfl) (by kernel_rfl)
 ·cases h;exact Ds (by kernel_rfl) (by kernel_rfl) (by kernel_rfl)
 ·cases h;exact Ds (by kernel_rfl) (by kernel_rfl) (by kernel_rfl)
 ·cases h
theorem KV: ∀t τ,Th.ty t=some τ->τ.Ac=true-> ∃(fs:Array Field) (Ha:Array (Nat×Nat)),Try.prog.underlying t=some (.struct fs)/\(∀w,(placesOf fs).run Try.prog w= .ok Ha w)/\
  ∀f o u ρ,Th.off t f=some (o,u)->Th.ty u=some ρ->Ha[f]?=some (o,ρ.size):=by
 intro t τ h hs
 have all: ∀t,∀f o u ρ,Th.off t f=some (o,u)->Th.ty u=some ρ->(Lx t)[f]?=some (o,ρ.size):=by
  intro t f o u ρ ho hu
  simp only [Th] at ho
  split at ho
  all_goals first
   |(cases ho;cases hu;rfl)
   |cases ho
 simp only [Th] at h
 split at h
 ·cases h;simp [Ty.Ac] at hs
 ·cases h;simp [Ty.Ac] at hs
 ·cases h;simp [Ty.Ac] at hs
 ·cases h;simp [Ty.Ac] at hs
 ·cases h;simp [Ty.Ac] at hs
 ·cases h;simp [Ty.Ac] at hs
 ·cases h;exact ⟨fieldsOf Try.prog 179,Lx 179,by kernel_rfl,(λw=>by kernel_rfl),all _⟩
 ·cases h
theorem jH:Cd Try.prog Th:=⟨KV,VV,KU,(λt v h=>by cases h),PR⟩
def KW (l:List Nat):Tab:= {Th with marks:=l}
theorem PQ (l:List Nat):Cd Try.prog (KW l):=jH.jI l
end Go.Proofs.Ytjbdmibbbpdnnaa
