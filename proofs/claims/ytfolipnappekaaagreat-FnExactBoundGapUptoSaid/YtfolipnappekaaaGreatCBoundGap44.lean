/-
  Part 45 of the proof that the statement FnExactBoundGap holds.
-/
import Derived.Test.YtfolipnappekaaaGreatCBoundGap43
namespace Go.Proofs.YtfolipnappekaaaGreat
open Go.RowKit
def Ri:Tab where
 ty:= λt=>match t with
  |2=>some tI
  |3=>some tI
  |4=>some .bool
  |26=>some tO
  |22=>some WI
  |139=>some (.slice WI)
  |153=>some fc
  |_=>none
 elem:= λt=>match t with
  |26=>some 2
  |22=>some 26
  |139=>some 22
  |_=>none
 mapOf:= λ_=>none
 off:= λs f=>match s,f with
  |153,0=>some (0,2)
  |153,1=>some (1,139)
  |153,2=>some (2,139)
  |_,_=>none
 ou:=true
 wI:=false
 OC:= [22]
theorem Ac4: ∀t τ,Ri.ty t=some τ->jY Tryz.prog Ri t τ:=by
 intro t τ h
 simp only [Ri] at h
 split at h
 ·cases h;exact ⟨Cd (b:=8) (by kernel_rfl) (by omega),(by kernel_rfl:Tryz.prog.underlying 2=some (.int .i64))⟩
 ·cases h;exact ⟨Cd (b:=8) (by kernel_rfl) (by omega),(by kernel_rfl:Tryz.prog.underlying 3=some (.int .i64))⟩
 ·cases h;exact ⟨Cd (b:=1) (by kernel_rfl) (by omega),(by kernel_rfl:Tryz.prog.underlying 4=some (.bool))⟩
 ·cases h;exact ⟨Cd (b:=24) (by kernel_rfl) (by omega),⟨2,by kernel_rfl,rfl,rfl⟩⟩
 ·cases h;exact ⟨Cd (b:=24) (by kernel_rfl) (by omega),⟨26,by kernel_rfl,rfl,rfl⟩⟩
 ·cases h;exact ⟨Cd (b:=24) (by kernel_rfl) (by omega),⟨22,by kernel_rfl,rfl,rfl⟩⟩
 ·cases h;exact ⟨Cd (b:=56) (by kernel_rfl) (by omega),⟨fieldsOf Tryz.prog 153,by kernel_rfl⟩⟩
 ·cases h
theorem SN: ∀t te,Ri.elem t=some te->Tryz.prog.underlying t=some (.slice te):=by
 intro t te h
 simp only [Ri] at h
 split at h
 ·cases h;kernel_rfl
 ·cases h;kernel_rfl
 ·cases h;kernel_rfl
 ·cases h
theorem WO: ∀s f o t,Ri.off s f=some (o,t)-> ∃(fs:Array Field) (fd:Field),Tryz.prog.underlying s=some (.struct fs)/\fs[f]?=some fd/\fd.offset=o/\fd.type=t/\ ∃i:TypeInfo,Tryz.prog.info? t=some i/\i.size≠0:=by
 intro s f o t h
 simp only [Ri] at h
 split at h
 ·cases h;exact Cn (by kernel_rfl) (by kernel_rfl) (by kernel_rfl)
 ·cases h;exact Cn (by kernel_rfl) (by kernel_rfl) (by kernel_rfl)
 ·cases h;exact Cn (by kernel_rfl) (by kernel_rfl) (by kernel_rfl)
 ·cases h
theorem SO: ∀t τ,Ri.ty t=some τ->τ.Ab=true-> ∃(fs:Array Field) (Ho:Array (Nat×Nat)),Tryz.prog.underlying t=some (.struct fs)/\(∀w,(placesOf fs).run Tryz.prog w= .ok Ho w)/\
  ∀f o u ρ,Ri.off t f=some (o,u)->Ri.ty u=some ρ->Ho[f]?=some (o,ρ.size):=by
 intro t τ h hs
 have all: ∀t,∀f o u ρ,Ri.off t f=some (o,u)->Ri.ty u=some ρ->(Jo t)[f]?=some (o,ρ.size):=by
  intro t f o u ρ ho hu
  simp only [Ri] at ho
  split at ho
  all_goals first
   |(cases ho;cases hu;rfl)
   |cases ho
 simp only [Ri] at h
 split at h
 ·cases h;simp [Ty.Ab] at hs
 ·cases h;simp [Ty.Ab] at hs
 ·cases h;simp [Ty.Ab] at hs
 ·cases h;simp [Ty.Ab] at hs
 ·cases h;simp [Ty.Ab] at hs
 ·cases h;simp [Ty.Ab] at hs
 ·cases h;exact ⟨fieldsOf Tryz.prog 153,Jo 153,by kernel_rfl,(λw=>by kernel_rfl),all _⟩
 ·cases h
theorem il:Ce Tryz.prog Ri:=⟨SO,Ac4,SN,(λt v h=>by cases h),WO⟩
def SP (l:List Nat):Tab:= {Ri with marks:=l}
theorem WN (l:List Nat):Ce Tryz.prog (SP l):=il.ff l
end Go.Proofs.YtfolipnappekaaaGreat
