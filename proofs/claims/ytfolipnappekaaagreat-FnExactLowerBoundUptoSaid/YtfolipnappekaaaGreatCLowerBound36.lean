/-
  Part 37 of the proof that the statement FnExactLowerBound holds.
-/
import Derived.Test.YtfolipnappekaaaGreatCLowerBound35
namespace Go.Proofs.YtfolipnappekaaaGreat
open Go.RowKit
abbrev tO:Ty:= .oslice tI
abbrev RF:Ty:= .slice tO
abbrev iY:Ty:= .pair tI (.pair (.slice RF) (.pair (.slice RF) .unit))
def Vz:Tab where
 ty:= λt=>match t with
  |2=>some tI
  |3=>some tI
  |4=>some .bool
  |26=>some tO
  |22=>some RF
  |139=>some (.slice RF)
  |141=>some iY
  |_=>none
 elem:= λt=>match t with
  |26=>some 2
  |22=>some 26
  |139=>some 22
  |_=>none
 mapOf:= λ_=>none
 off:= λs f=>match s,f with
  |141,0=>some (0,2)
  |141,1=>some (1,139)
  |141,2=>some (2,139)
  |_,_=>none
 mW:=true
 uL:=false
 JP:= [22]
theorem XZ: ∀t τ,Vz.ty t=some τ->jc Tryz.prog Vz t τ:=by
 intro t τ h
 simp only [Vz] at h
 split at h
 ·cases h;exact ⟨By (b:=8) (by kernel_rfl) (by omega),(by kernel_rfl:Tryz.prog.underlying 2=some (.int .i64))⟩
 ·cases h;exact ⟨By (b:=8) (by kernel_rfl) (by omega),(by kernel_rfl:Tryz.prog.underlying 3=some (.int .i64))⟩
 ·cases h;exact ⟨By (b:=1) (by kernel_rfl) (by omega),(by kernel_rfl:Tryz.prog.underlying 4=some (.bool))⟩
 ·cases h;exact ⟨By (b:=24) (by kernel_rfl) (by omega),⟨2,by kernel_rfl,rfl,rfl⟩⟩
 ·cases h;exact ⟨By (b:=24) (by kernel_rfl) (by omega),⟨26,by kernel_rfl,rfl,rfl⟩⟩
 ·cases h;exact ⟨By (b:=24) (by kernel_rfl) (by omega),⟨22,by kernel_rfl,rfl,rfl⟩⟩
 ·cases h;exact ⟨By (b:=56) (by kernel_rfl) (by omega),⟨fieldsOf Tryz.prog 141,by kernel_rfl⟩⟩
 ·cases h
theorem NL: ∀t te,Vz.elem t=some te->Tryz.prog.underlying t=some (.slice te):=by
 intro t te h
 simp only [Vz] at h
 split at h
 ·cases h;kernel_rfl
 ·cases h;kernel_rfl
 ·cases h;kernel_rfl
 ·cases h
theorem RJ: ∀s f o t,Vz.off s f=some (o,t)-> ∃(fs:Array Field) (fd:Field),Tryz.prog.underlying s=some (.struct fs)/\fs[f]?=some fd/\fd.offset=o/\fd.type=t/\ ∃i:TypeInfo,Tryz.prog.info? t=some i/\i.size≠0:=by
 intro s f o t h
 simp only [Vz] at h
 split at h
 ·cases h;exact Cd (by kernel_rfl) (by kernel_rfl) (by kernel_rfl)
 ·cases h;exact Cd (by kernel_rfl) (by kernel_rfl) (by kernel_rfl)
 ·cases h;exact Cd (by kernel_rfl) (by kernel_rfl) (by kernel_rfl)
 ·cases h
theorem NM: ∀t τ,Vz.ty t=some τ->τ.Ab=true-> ∃(fs:Array Field) (Gx:Array (Nat×Nat)),Tryz.prog.underlying t=some (.struct fs)/\(∀w,(placesOf fs).run Tryz.prog w= .ok Gx w)/\
  ∀f o u ρ,Vz.off t f=some (o,u)->Vz.ty u=some ρ->Gx[f]?=some (o,ρ.size):=by
 intro t τ h hs
 have all: ∀t,∀f o u ρ,Vz.off t f=some (o,u)->Vz.ty u=some ρ->(Iy t)[f]?=some (o,ρ.size):=by
  intro t f o u ρ ho hu
  simp only [Vz] at ho
  split at ho
  all_goals first
   |(cases ho;cases hu;rfl)
   |cases ho
 simp only [Vz] at h
 split at h
 ·cases h;simp [Ty.Ab] at hs
 ·cases h;simp [Ty.Ab] at hs
 ·cases h;simp [Ty.Ab] at hs
 ·cases h;simp [Ty.Ab] at hs
 ·cases h;simp [Ty.Ab] at hs
 ·cases h;simp [Ty.Ab] at hs
 ·cases h;exact ⟨fieldsOf Tryz.prog 141,Iy 141,by kernel_rfl,(λw=>by kernel_rfl),all _⟩
 ·cases h
theorem oW:Bz Tryz.prog Vz:=⟨NM,XZ,NL,(λt v h=>by cases h),RJ⟩
def NN (l:List Nat):Tab:= {Vz with marks:=l}
theorem RI (l:List Nat):Bz Tryz.prog (NN l):=oW.dX l
end Go.Proofs.YtfolipnappekaaaGreat
