/-
  Part 44 of the proof that the statement FnExactSolutionsAtDepth holds.
-/
import Derived.Test.YtfolipnappekaaaGreatCSolutionsAtDepth42
namespace Go.Proofs.YtfolipnappekaaaGreat
open Go.RowKit
def Rq:Tab where
 ty:= λt=>match t with
  |2=>some tI
  |3=>some tI
  |4=>some .bool
  |26=>some tO
  |22=>some YU
  |139=>some (.slice YU)
  |153=>some kU
  |_=>none
 elem:= λt=>match t with
  |26=>some 2
  |22=>some 26
  |139=>some 22
  |_=>none
 mapOf:= λ_=>none
 off:= λs f=>match s,f with
  |153,0=>some (0,2)
  |153,1=>some (1,139)
  |153,2=>some (2,139)
  |_,_=>none
 pC:=true
 xB:=false
 QQ:= [22]
theorem Aeb: ∀t τ,Rq.ty t=some τ->ld Tryz.prog Rq t τ:=by
 intro t τ h
 simp only [Rq] at h
 split at h
 ·cases h;exact ⟨Cc (b:=8) (by kernel_rfl) (by omega),(by kernel_rfl:Tryz.prog.underlying 2=some (.int .i64))⟩
 ·cases h;exact ⟨Cc (b:=8) (by kernel_rfl) (by omega),(by kernel_rfl:Tryz.prog.underlying 3=some (.int .i64))⟩
 ·cases h;exact ⟨Cc (b:=1) (by kernel_rfl) (by omega),(by kernel_rfl:Tryz.prog.underlying 4=some (.bool))⟩
 ·cases h;exact ⟨Cc (b:=24) (by kernel_rfl) (by omega),⟨2,by kernel_rfl,rfl,rfl⟩⟩
 ·cases h;exact ⟨Cc (b:=24) (by kernel_rfl) (by omega),⟨26,by kernel_rfl,rfl,rfl⟩⟩
 ·cases h;exact ⟨Cc (b:=24) (by kernel_rfl) (by omega),⟨22,by kernel_rfl,rfl,rfl⟩⟩
 ·cases h;exact ⟨Cc (b:=56) (by kernel_rfl) (by omega),⟨fieldsOf Tryz.prog 153,by kernel_rfl⟩⟩
 ·cases h
theorem UZ: ∀t te,Rq.elem t=some te->Tryz.prog.underlying t=some (.slice te):=by
 intro t te h
 simp only [Rq] at h
 split at h
 ·cases h;kernel_rfl
 ·cases h;kernel_rfl
 ·cases h;kernel_rfl
 ·cases h
theorem ZA: ∀s f o t,Rq.off s f=some (o,t)-> ∃(fs:Array Field) (fd:Field),Tryz.prog.underlying s=some (.struct fs)/\fs[f]?=some fd/\fd.offset=o/\fd.type=t/\ ∃i:TypeInfo,Tryz.prog.info? t=some i/\i.size≠0:=by
 intro s f o t h
 simp only [Rq] at h
 split at h
 ·cases h;exact Cj (by kernel_rfl) (by kernel_rfl) (by kernel_rfl)
 ·cases h;exact Cj (by kernel_rfl) (by kernel_rfl) (by kernel_rfl)
 ·cases h;exact Cj (by kernel_rfl) (by kernel_rfl) (by kernel_rfl)
 ·cases h
theorem VA: ∀t τ,Rq.ty t=some τ->τ.Ac=true-> ∃(fs:Array Field) (Hi:Array (Nat×Nat)),Tryz.prog.underlying t=some (.struct fs)/\(∀w,(placesOf fs).run Tryz.prog w= .ok Hi w)/\
  ∀f o u ρ,Rq.off t f=some (o,u)->Rq.ty u=some ρ->Hi[f]?=some (o,ρ.size):=by
 intro t τ h hs
 have all: ∀t,∀f o u ρ,Rq.off t f=some (o,u)->Rq.ty u=some ρ->(Js t)[f]?=some (o,ρ.size):=by
  intro t f o u ρ ho hu
  simp only [Rq] at ho
  split at ho
  all_goals first
   |(cases ho;cases hu;rfl)
   |cases ho
 simp only [Rq] at h
 split at h
 ·cases h;simp [Ty.Ac] at hs
 ·cases h;simp [Ty.Ac] at hs
 ·cases h;simp [Ty.Ac] at hs
 ·cases h;simp [Ty.Ac] at hs
 ·cases h;simp [Ty.Ac] at hs
 ·cases h;simp [Ty.Ac] at hs
 ·cases h;exact ⟨fieldsOf Tryz.prog 153,Js 153,by kernel_rfl,(λw=>by kernel_rfl),all _⟩
 ·cases h
theorem j8:By Tryz.prog Rq:=⟨VA,Aeb,UZ,(λt v h=>by cases h),ZA⟩
def VB (l:List Nat):Tab:= {Rq with marks:=l}
theorem YZ (l:List Nat):By Tryz.prog (VB l):=j8.fS l
end Go.Proofs.YtfolipnappekaaaGreat
