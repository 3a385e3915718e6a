/-
  Part 44 of the proof that the statement FnExactBestTableIndex holds.
-/
import Derived.Test.YtfolipnappekaaaGreatCBestTableIndex42
namespace Go.Proofs.YtfolipnappekaaaGreat
open Go.RowKit
def Pu:Tab where
 ty:= λt=>match t with
  |2=>some tI
  |3=>some tI
  |4=>some .bool
  |26=>some tO
  |22=>some RK
  |139=>some (.slice RK)
  |153=>some j8
  |_=>none
 elem:= λt=>match t with
  |26=>some 2
  |22=>some 26
  |139=>some 22
  |_=>none
 mapOf:= λ_=>none
 off:= λs f=>match s,f with
  |153,0=>some (0,2)
  |153,1=>some (1,139)
  |153,2=>some (2,139)
  |_,_=>none
 ng:=true
 uP:=false
 JS:= [22]
theorem YG: ∀t τ,Pu.ty t=some τ->jj Tryz.prog Pu t τ:=by
 intro t τ h
 simp only [Pu] at h
 split at h
 ·cases h;exact ⟨By (b:=8) (by kernel_rfl) (by omega),(by kernel_rfl:Tryz.prog.underlying 2=some (.int .i64))⟩
 ·cases h;exact ⟨By (b:=8) (by kernel_rfl) (by omega),(by kernel_rfl:Tryz.prog.underlying 3=some (.int .i64))⟩
 ·cases h;exact ⟨By (b:=1) (by kernel_rfl) (by omega),(by kernel_rfl:Tryz.prog.underlying 4=some (.bool))⟩
 ·cases h;exact ⟨By (b:=24) (by kernel_rfl) (by omega),⟨2,by kernel_rfl,rfl,rfl⟩⟩
 ·cases h;exact ⟨By (b:=24) (by kernel_rfl) (by omega),⟨26,by kernel_rfl,rfl,rfl⟩⟩
 ·cases h;exact ⟨By (b:=24) (by kernel_rfl) (by omega),⟨22,by kernel_rfl,rfl,rfl⟩⟩
 ·cases h;exact ⟨By (b:=56) (by kernel_rfl) (by omega),⟨fieldsOf Tryz.prog 153,by kernel_rfl⟩⟩
 ·cases h
theorem NR: ∀t te,Pu.elem t=some te->Tryz.prog.underlying t=some (.slice te):=by
 intro t te h
 simp only [Pu] at h
 split at h
 ·cases h;kernel_rfl
 ·cases h;kernel_rfl
 ·cases h;kernel_rfl
 ·cases h
theorem RQ: ∀s f o t,Pu.off s f=some (o,t)-> ∃(fs:Array Field) (fd:Field),Tryz.prog.underlying s=some (.struct fs)/\fs[f]?=some fd/\fd.offset=o/\fd.type=t/\ ∃i:TypeInfo,Tryz.prog.info? t=some i/\i.size≠0:=by
 intro s f o t h
 simp only [Pu] at h
 split at h
 ·cases h;exact Ce (by kernel_rfl) (by kernel_rfl) (by kernel_rfl)
 ·cases h;exact Ce (by kernel_rfl) (by kernel_rfl) (by kernel_rfl)
 ·cases h;exact Ce (by kernel_rfl) (by kernel_rfl) (by kernel_rfl)
 ·cases h
theorem NS: ∀t τ,Pu.ty t=some τ->τ.Ab=true-> ∃(fs:Array Field) (Gx:Array (Nat×Nat)),Tryz.prog.underlying t=some (.struct fs)/\(∀w,(placesOf fs).run Tryz.prog w= .ok Gx w)/\
  ∀f o u ρ,Pu.off t f=some (o,u)->Pu.ty u=some ρ->Gx[f]?=some (o,ρ.size):=by
 intro t τ h hs
 have all: ∀t,∀f o u ρ,Pu.off t f=some (o,u)->Pu.ty u=some ρ->(Iy t)[f]?=some (o,ρ.size):=by
  intro t f o u ρ ho hu
  simp only [Pu] at ho
  split at ho
  all_goals first
   |(cases ho;cases hu;rfl)
   |cases ho
 simp only [Pu] at h
 split at h
 ·cases h;simp [Ty.Ab] at hs
 ·cases h;simp [Ty.Ab] at hs
 ·cases h;simp [Ty.Ab] at hs
 ·cases h;simp [Ty.Ab] at hs
 ·cases h;simp [Ty.Ab] at hs
 ·cases h;simp [Ty.Ab] at hs
 ·cases h;exact ⟨fieldsOf Tryz.prog 153,Iy 153,by kernel_rfl,(λw=>by kernel_rfl),all _⟩
 ·cases h
theorem gy:Bz Tryz.prog Pu:=⟨NS,YG,NR,(λt v h=>by cases h),RQ⟩
def NT (l:List Nat):Tab:= {Pu with marks:=l}
theorem RP (l:List Nat):Bz Tryz.prog (NT l):=gy.ee l
end Go.Proofs.YtfolipnappekaaaGreat
