/-
  Part 37 of the proof that the statement FnExactBestTableIndex holds.
-/
import Derived.Test.YtfolipnappekaaaGreatCBestTableIndex35
namespace Go.Proofs.YtfolipnappekaaaGreat
open Go.RowKit
abbrev tO:Ty:= .oslice tI
abbrev RK:Ty:= .slice tO
abbrev j8:Ty:= .pair tI (.pair (.slice RK) (.pair (.slice RK) .unit))
def Wb:Tab where
 ty:= λt=>match t with
  |2=>some tI
  |3=>some tI
  |4=>some .bool
  |26=>some tO
  |22=>some RK
  |139=>some (.slice RK)
  |141=>some j8
  |_=>none
 elem:= λt=>match t with
  |26=>some 2
  |22=>some 26
  |139=>some 22
  |_=>none
 mapOf:= λ_=>none
 off:= λs f=>match s,f with
  |141,0=>some (0,2)
  |141,1=>some (1,139)
  |141,2=>some (2,139)
  |_,_=>none
 ng:=true
 uP:=false
 JS:= [22]
theorem YE: ∀t τ,Wb.ty t=some τ->jj Tryz.prog Wb t τ:=by
 intro t τ h
 simp only [Wb] at h
 split at h
 ·cases h;exact ⟨By (b:=8) (by kernel_rfl) (by omega),(by kernel_rfl:Tryz.prog.underlying 2=some (.int .i64))⟩
 ·cases h;exact ⟨By (b:=8) (by kernel_rfl) (by omega),(by kernel_rfl:Tryz.prog.underlying 3=some (.int .i64))⟩
 ·cases h;exact ⟨By (b:=1) (by kernel_rfl) (by omega),(by kernel_rfl:Tryz.prog.underlying 4=some (.bool))⟩
 ·cases h;exact ⟨By (b:=24) (by kernel_rfl) (by omega),⟨2,by kernel_rfl,rfl,rfl⟩⟩
 ·cases h;exact ⟨By (b:=24) (by kernel_rfl) (by omega),⟨26,by kernel_rfl,rfl,rfl⟩⟩
 ·cases h;exact ⟨By (b:=24) (by kernel_rfl) (by omega),⟨22,by kernel_rfl,rfl,rfl⟩⟩
 ·cases h;exact ⟨By (b:=56) (by kernel_rfl) (by omega),⟨fieldsOf Tryz.prog 141,by kernel_rfl⟩⟩
 ·cases h
theorem NO: ∀t te,Wb.elem t=some te->Tryz.prog.underlying t=some (.slice te):=by
 intro t te h
 simp only [Wb] at h
 split at h
 ·cases h;kernel_rfl
 ·cases h;kernel_rfl
 ·cases h;kernel_rfl
 ·cases h
theorem RO: ∀s f o t,Wb.off s f=some (o,t)-> ∃(fs:Array Field) (fd:Field),Tryz.prog.underlying s=some (.struct fs)/\fs[f]?=some fd/\fd.offset=o/\fd.type=t/\ ∃i:TypeInfo,Tryz.prog.info? t=some i/\i.size≠0:=by
 intro s f o t h
 simp only [Wb] at h
 split at h
 ·cases h;exact Ce (by kernel_rfl) (by kernel_rfl) (by kernel_rfl)
 ·cases h;exact Ce (by kernel_rfl) (by kernel_rfl) (by kernel_rfl)
 ·cases h;exact Ce (by kernel_rfl) (by kernel_rfl) (by kernel_rfl)
 ·cases h
theorem NP: ∀t τ,Wb.ty t=some τ->τ.Ab=true-> ∃(fs:Array Field) (Gx:Array (Nat×Nat)),Tryz.prog.underlying t=some (.struct fs)/\(∀w,(placesOf fs).run Tryz.prog w= .ok Gx w)/\
  ∀f o u ρ,Wb.off t f=some (o,u)->Wb.ty u=some ρ->Gx[f]?=some (o,ρ.size):=by
 intro t τ h hs
 have all: ∀t,∀f o u ρ,Wb.off t f=some (o,u)->Wb.ty u=some ρ->(Iy t)[f]?=some (o,ρ.size):=by
  intro t f o u ρ ho hu
  simp only [Wb] at ho
  split at ho
  all_goals first
   |(cases ho;cases hu;rfl)
   |cases ho
 simp only [Wb] at h
 split at h
 ·cases h;simp [Ty.Ab] at hs
 ·cases h;simp [Ty.Ab] at hs
 ·cases h;simp [Ty.Ab] at hs
 ·cases h;simp [Ty.Ab] at hs
 ·cases h;simp [Ty.Ab] at hs
 ·cases h;simp [Ty.Ab] at hs
 ·cases h;exact ⟨fieldsOf Tryz.prog 141,Iy 141,by kernel_rfl,(λw=>by kernel_rfl),all _⟩
 ·cases h
theorem p8:Bz Tryz.prog Wb:=⟨NP,YE,NO,(λt v h=>by cases h),RO⟩
def NQ (l:List Nat):Tab:= {Wb with marks:=l}
theorem RN (l:List Nat):Bz Tryz.prog (NQ l):=p8.ee l
end Go.Proofs.YtfolipnappekaaaGreat
