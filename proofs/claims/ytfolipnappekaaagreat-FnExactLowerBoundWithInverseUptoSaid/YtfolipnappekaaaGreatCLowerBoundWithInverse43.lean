/-
  Part 44 of the proof that the statement FnExactLowerBoundWithInverse holds.
-/
import Derived.Test.YtfolipnappekaaaGreatCLowerBoundWithInverse42
namespace Go.Proofs.YtfolipnappekaaaGreat
open Go.RowKit
def Ps:Tab where
 ty:= λt=>match t with
  |2=>some tI
  |3=>some tI
  |4=>some .bool
  |26=>some tO
  |22=>some RK
  |139=>some (.slice RK)
  |153=>some j5
  |_=>none
 elem:= λt=>match t with
  |26=>some 2
  |22=>some 26
  |139=>some 22
  |_=>none
 mapOf:= λ_=>none
 off:= λs f=>match s,f with
  |153,0=>some (0,2)
  |153,1=>some (1,139)
  |153,2=>some (2,139)
  |_,_=>none
 mY:=true
 uQ:=false
 JW:= [22]
theorem YH: ∀t τ,Ps.ty t=some τ->jg Tryz.prog Ps t τ:=by
 intro t τ h
 simp only [Ps] at h
 split at h
 ·cases h;exact ⟨By (b:=8) (by kernel_rfl) (by omega),(by kernel_rfl:Tryz.prog.underlying 2=some (.int .i64))⟩
 ·cases h;exact ⟨By (b:=8) (by kernel_rfl) (by omega),(by kernel_rfl:Tryz.prog.underlying 3=some (.int .i64))⟩
 ·cases h;exact ⟨By (b:=1) (by kernel_rfl) (by omega),(by kernel_rfl:Tryz.prog.underlying 4=some (.bool))⟩
 ·cases h;exact ⟨By (b:=24) (by kernel_rfl) (by omega),⟨2,by kernel_rfl,rfl,rfl⟩⟩
 ·cases h;exact ⟨By (b:=24) (by kernel_rfl) (by omega),⟨26,by kernel_rfl,rfl,rfl⟩⟩
 ·cases h;exact ⟨By (b:=24) (by kernel_rfl) (by omega),⟨22,by kernel_rfl,rfl,rfl⟩⟩
 ·cases h;exact ⟨By (b:=56) (by kernel_rfl) (by omega),⟨fieldsOf Tryz.prog 153,by kernel_rfl⟩⟩
 ·cases h
theorem NT: ∀t te,Ps.elem t=some te->Tryz.prog.underlying t=some (.slice te):=by
 intro t te h
 simp only [Ps] at h
 split at h
 ·cases h;kernel_rfl
 ·cases h;kernel_rfl
 ·cases h;kernel_rfl
 ·cases h
theorem RQ: ∀s f o t,Ps.off s f=some (o,t)-> ∃(fs:Array Field) (fd:Field),Tryz.prog.underlying s=some (.struct fs)/\fs[f]?=some fd/\fd.offset=o/\fd.type=t/\ ∃i:TypeInfo,Tryz.prog.info? t=some i/\i.size≠0:=by
 intro s f o t h
 simp only [Ps] at h
 split at h
 ·cases h;exact Ce (by kernel_rfl) (by kernel_rfl) (by kernel_rfl)
 ·cases h;exact Ce (by kernel_rfl) (by kernel_rfl) (by kernel_rfl)
 ·cases h;exact Ce (by kernel_rfl) (by kernel_rfl) (by kernel_rfl)
 ·cases h
theorem NU: ∀t τ,Ps.ty t=some τ->τ.Ab=true-> ∃(fs:Array Field) (Gz:Array (Nat×Nat)),Tryz.prog.underlying t=some (.struct fs)/\(∀w,(placesOf fs).run Tryz.prog w= .ok Gz w)/\
  ∀f o u ρ,Ps.off t f=some (o,u)->Ps.ty u=some ρ->Gz[f]?=some (o,ρ.size):=by
 intro t τ h hs
 have all: ∀t,∀f o u ρ,Ps.off t f=some (o,u)->Ps.ty u=some ρ->(Ja t)[f]?=some (o,ρ.size):=by
  intro t f o u ρ ho hu
  simp only [Ps] at ho
  split at ho
  all_goals first
   |(cases ho;cases hu;rfl)
   |cases ho
 simp only [Ps] at h
 split at h
 ·cases h;simp [Ty.Ab] at hs
 ·cases h;simp [Ty.Ab] at hs
 ·cases h;simp [Ty.Ab] at hs
 ·cases h;simp [Ty.Ab] at hs
 ·cases h;simp [Ty.Ab] at hs
 ·cases h;simp [Ty.Ab] at hs
 ·cases h;exact ⟨fieldsOf Tryz.prog 153,Ja 153,by kernel_rfl,(λw=>by kernel_rfl),all _⟩
 ·cases h
theorem gw:Bz Tryz.prog Ps:=⟨NU,YH,NT,(λt v h=>by cases h),RQ⟩
def NV (l:List Nat):Tab:= {Ps with marks:=l}
theorem RP (l:List Nat):Bz Tryz.prog (NV l):=gw.eb l
end Go.Proofs.YtfolipnappekaaaGreat
