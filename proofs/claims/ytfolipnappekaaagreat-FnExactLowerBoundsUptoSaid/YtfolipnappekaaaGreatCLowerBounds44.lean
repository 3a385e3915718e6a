/-
  Part 45 of the proof that the statement FnExactLowerBounds holds.
-/
import Derived.Test.YtfolipnappekaaaGreatCLowerBounds43
namespace Go.Proofs.YtfolipnappekaaaGreat
open Go.RowKit
def Qf:Tab where
 ty:= λt=>match t with
  |2=>some tI
  |3=>some tI
  |4=>some .bool
  |26=>some tO
  |22=>some TW
  |139=>some (.slice TW)
  |153=>some jz
  |_=>none
 elem:= λt=>match t with
  |26=>some 2
  |22=>some 26
  |139=>some 22
  |_=>none
 mapOf:= λ_=>none
 off:= λs f=>match s,f with
  |153,0=>some (0,2)
  |153,1=>some (1,139)
  |153,2=>some (2,139)
  |_,_=>none
 nX:=true
 vY:=false
 MG:= [22]
theorem Aal: ∀t τ,Qf.ty t=some τ->jL Tryz.prog Qf t τ:=by
 intro t τ h
 simp only [Qf] at h
 split at h
 ·cases h;exact ⟨Bz (b:=8) (by kernel_rfl) (by omega),(by kernel_rfl:Tryz.prog.underlying 2=some (.int .i64))⟩
 ·cases h;exact ⟨Bz (b:=8) (by kernel_rfl) (by omega),(by kernel_rfl:Tryz.prog.underlying 3=some (.int .i64))⟩
 ·cases h;exact ⟨Bz (b:=1) (by kernel_rfl) (by omega),(by kernel_rfl:Tryz.prog.underlying 4=some (.bool))⟩
 ·cases h;exact ⟨Bz (b:=24) (by kernel_rfl) (by omega),⟨2,by kernel_rfl,rfl,rfl⟩⟩
 ·cases h;exact ⟨Bz (b:=24) (by kernel_rfl) (by omega),⟨26,by kernel_rfl,rfl,rfl⟩⟩
 ·cases h;exact ⟨Bz (b:=24) (by kernel_rfl) (by omega),⟨22,by kernel_rfl,rfl,rfl⟩⟩
 ·cases h;exact ⟨Bz (b:=56) (by kernel_rfl) (by omega),⟨fieldsOf Tryz.prog 153,by kernel_rfl⟩⟩
 ·cases h
theorem QA: ∀t te,Qf.elem t=some te->Tryz.prog.underlying t=some (.slice te):=by
 intro t te h
 simp only [Qf] at h
 split at h
 ·cases h;kernel_rfl
 ·cases h;kernel_rfl
 ·cases h;kernel_rfl
 ·cases h
theorem UC: ∀s f o t,Qf.off s f=some (o,t)-> ∃(fs:Array Field) (fd:Field),Tryz.prog.underlying s=some (.struct fs)/\fs[f]?=some fd/\fd.offset=o/\fd.type=t/\ ∃i:TypeInfo,Tryz.prog.info? t=some i/\i.size≠0:=by
 intro s f o t h
 simp only [Qf] at h
 split at h
 ·cases h;exact Cf (by kernel_rfl) (by kernel_rfl) (by kernel_rfl)
 ·cases h;exact Cf (by kernel_rfl) (by kernel_rfl) (by kernel_rfl)
 ·cases h;exact Cf (by kernel_rfl) (by kernel_rfl) (by kernel_rfl)
 ·cases h
theorem QB: ∀t τ,Qf.ty t=some τ->τ.Ab=true-> ∃(fs:Array Field) (Hg:Array (Nat×Nat)),Tryz.prog.underlying t=some (.struct fs)/\(∀w,(placesOf fs).run Tryz.prog w= .ok Hg w)/\
  ∀f o u ρ,Qf.off t f=some (o,u)->Qf.ty u=some ρ->Hg[f]?=some (o,ρ.size):=by
 intro t τ h hs
 have all: ∀t,∀f o u ρ,Qf.off t f=some (o,u)->Qf.ty u=some ρ->(Jg t)[f]?=some (o,ρ.size):=by
  intro t f o u ρ ho hu
  simp only [Qf] at ho
  split at ho
  all_goals first
   |(cases ho;cases hu;rfl)
   |cases ho
 simp only [Qf] at h
 split at h
 ·cases h;simp [Ty.Ab] at hs
 ·cases h;simp [Ty.Ab] at hs
 ·cases h;simp [Ty.Ab] at hs
 ·cases h;simp [Ty.Ab] at hs
 ·cases h;simp [Ty.Ab] at hs
 ·cases h;simp [Ty.Ab] at hs
 ·cases h;exact ⟨fieldsOf Tryz.prog 153,Jg 153,by kernel_rfl,(λw=>by kernel_rfl),all _⟩
 ·cases h
theorem gV:Ca Tryz.prog Qf:=⟨QB,Aal,QA,(λt v h=>by cases h),UC⟩
def QC (l:List Nat):Tab:= {Qf with marks:=l}
theorem UB (l:List Nat):Ca Tryz.prog (QC l):=gV.eL l
end Go.Proofs.YtfolipnappekaaaGreat
