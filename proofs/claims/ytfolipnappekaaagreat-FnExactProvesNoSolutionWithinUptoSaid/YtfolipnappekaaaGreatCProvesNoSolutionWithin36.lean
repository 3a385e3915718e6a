/-
  Part 37 of the proof that the statement FnExactProvesNoSolutionWithin holds.
-/
import Derived.Test.YtfolipnappekaaaGreatCProvesNoSolutionWithin35
namespace Go.Proofs.YtfolipnappekaaaGreat
open Go.RowKit
abbrev tO:Ty:= .oslice tI
abbrev ZD:Ty:= .slice tO
abbrev l6:Ty:= .pair tI (.pair (.slice ZD) (.pair (.slice ZD) .unit))
def Yn:Tab where
 ty:= λt=>match t with
  |2=>some tI
  |3=>some tI
  |4=>some .bool
  |26=>some tO
  |22=>some ZD
  |139=>some (.slice ZD)
  |141=>some l6
  |_=>none
 elem:= λt=>match t with
  |26=>some 2
  |22=>some 26
  |139=>some 22
  |_=>none
 mapOf:= λ_=>none
 off:= λs f=>match s,f with
  |141,0=>some (0,2)
  |141,1=>some (1,139)
  |141,2=>some (2,139)
  |_,_=>none
 pK:=true
 xK:=false
 RD:= [22]
theorem Aei: ∀t τ,Yn.ty t=some τ->lp Tryz.prog Yn t τ:=by
 intro t τ h
 simp only [Yn] at h
 split at h
 ·cases h;exact ⟨Cc (b:=8) (by kernel_rfl) (by omega),(by kernel_rfl:Tryz.prog.underlying 2=some (.int .i64))⟩
 ·cases h;exact ⟨Cc (b:=8) (by kernel_rfl) (by omega),(by kernel_rfl:Tryz.prog.underlying 3=some (.int .i64))⟩
 ·cases h;exact ⟨Cc (b:=1) (by kernel_rfl) (by omega),(by kernel_rfl:Tryz.prog.underlying 4=some (.bool))⟩
 ·cases h;exact ⟨Cc (b:=24) (by kernel_rfl) (by omega),⟨2,by kernel_rfl,rfl,rfl⟩⟩
 ·cases h;exact ⟨Cc (b:=24) (by kernel_rfl) (by omega),⟨26,by kernel_rfl,rfl,rfl⟩⟩
 ·cases h;exact ⟨Cc (b:=24) (by kernel_rfl) (by omega),⟨22,by kernel_rfl,rfl,rfl⟩⟩
 ·cases h;exact ⟨Cc (b:=56) (by kernel_rfl) (by omega),⟨fieldsOf Tryz.prog 141,by kernel_rfl⟩⟩
 ·cases h
theorem VG: ∀t te,Yn.elem t=some te->Tryz.prog.underlying t=some (.slice te):=by
 intro t te h
 simp only [Yn] at h
 split at h
 ·cases h;kernel_rfl
 ·cases h;kernel_rfl
 ·cases h;kernel_rfl
 ·cases h
theorem ZH: ∀s f o t,Yn.off s f=some (o,t)-> ∃(fs:Array Field) (fd:Field),Tryz.prog.underlying s=some (.struct fs)/\fs[f]?=some fd/\fd.offset=o/\fd.type=t/\ ∃i:TypeInfo,Tryz.prog.info? t=some i/\i.size≠0:=by
 intro s f o t h
 simp only [Yn] at h
 split at h
 ·cases h;exact Cj (by kernel_rfl) (by kernel_rfl) (by kernel_rfl)
 ·cases h;exact Cj (by kernel_rfl) (by kernel_rfl) (by kernel_rfl)
 ·cases h;exact Cj (by kernel_rfl) (by kernel_rfl) (by kernel_rfl)
 ·cases h
theorem VH: ∀t τ,Yn.ty t=some τ->τ.Ac=true-> ∃(fs:Array Field) (Hi:Array (Nat×Nat)),Tryz.prog.underlying t=some (.struct fs)/\(∀w,(placesOf fs).run Tryz.prog w= .ok Hi w)/\
  ∀f o u ρ,Yn.off t f=some (o,u)->Yn.ty u=some ρ->Hi[f]?=some (o,ρ.size):=by
 intro t τ h hs
 have all: ∀t,∀f o u ρ,Yn.off t f=some (o,u)->Yn.ty u=some ρ->(Ju t)[f]?=some (o,ρ.size):=by
  intro t f o u ρ ho hu
  simp only [Yn] at ho
  split at ho
  all_goals first
   |(cases ho;cases hu;rfl)
   |cases ho
 simp only [Yn] at h
 split at h
 ·cases h;simp [Ty.Ac] at hs
 ·cases h;simp [Ty.Ac] at hs
 ·cases h;simp [Ty.Ac] at hs
 ·cases h;simp [Ty.Ac] at hs
 ·cases h;simp [Ty.Ac] at hs
 ·cases h;simp [Ty.Ac] at hs
 ·cases h;exact ⟨fieldsOf Tryz.prog 141,Ju 141,by kernel_rfl,(λw=>by kernel_rfl),all _⟩
 ·cases h
theorem rM:By Tryz.prog Yn:=⟨VH,Aei,VG,(λt v h=>by cases h),ZH⟩
def VI (l:List Nat):Tab:= {Yn with marks:=l}
theorem ZG (l:List Nat):By Tryz.prog (VI l):=rM.fV l
end Go.Proofs.YtfolipnappekaaaGreat
