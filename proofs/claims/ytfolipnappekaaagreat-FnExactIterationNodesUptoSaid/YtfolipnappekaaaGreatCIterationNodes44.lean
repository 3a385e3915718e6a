/-
  Part 45 of the proof that the statement FnExactIterationNodes holds.
-/
import Derived.Test.YtfolipnappekaaaGreatCIterationNodes43
namespace Go.Proofs.YtfolipnappekaaaGreat
open Go.RowKit
def Xh:Tab where
 ty:= λt=>match t with
  |2=>some tI
  |3=>some tI
  |4=>some .bool
  |26=>some tO
  |22=>some tLO
  |139=>some (.slice tLO)
  |153=>some oQ
  |_=>none
 elem:= λt=>match t with
  |26=>some 2
  |22=>some 26
  |139=>some 22
  |_=>none
 mapOf:= λ_=>none
 off:= λs f=>match s,f with
  |153,0=>some (0,2)
  |153,1=>some (1,139)
  |153,2=>some (2,139)
  |_,_=>none
 u9:=true
 DK:=false
 ZY:= [22]
theorem Alg: ∀t τ,Xh.ty t=some τ->p9 Tryz.prog Xh t τ:=by
 intro t τ h
 simp only [Xh] at h
 split at h
 ·cases h;exact ⟨Eh (b:=8) (by kernel_rfl) (by omega),(by kernel_rfl:Tryz.prog.underlying 2=some (.int .i64))⟩
 ·cases h;exact ⟨Eh (b:=8) (by kernel_rfl) (by omega),(by kernel_rfl:Tryz.prog.underlying 3=some (.int .i64))⟩
 ·cases h;exact ⟨Eh (b:=1) (by kernel_rfl) (by omega),(by kernel_rfl:Tryz.prog.underlying 4=some (.bool))⟩
 ·cases h;exact ⟨Eh (b:=24) (by kernel_rfl) (by omega),⟨2,by kernel_rfl,rfl,rfl⟩⟩
 ·cases h;exact ⟨Eh (b:=24) (by kernel_rfl) (by omega),⟨26,by kernel_rfl,rfl,rfl⟩⟩
 ·cases h;exact ⟨Eh (b:=24) (by kernel_rfl) (by omega),⟨22,by kernel_rfl,rfl,rfl⟩⟩
 ·cases h;exact ⟨Eh (b:=56) (by kernel_rfl) (by omega),⟨fieldsOf Tryz.prog 153,by kernel_rfl⟩⟩
 ·cases h
theorem Acv: ∀t te,Xh.elem t=some te->Tryz.prog.underlying t=some (.slice te):=by
 intro t te h
 simp only [Xh] at h
 split at h
 ·cases h;kernel_rfl
 ·cases h;kernel_rfl
 ·cases h;kernel_rfl
 ·cases h
theorem Ag6: ∀s f o t,Xh.off s f=some (o,t)-> ∃(fs:Array Field) (fd:Field),Tryz.prog.underlying s=some (.struct fs)/\fs[f]?=some fd/\fd.offset=o/\fd.type=t/\ ∃i:TypeInfo,Tryz.prog.info? t=some i/\i.size≠0:=by
 intro s f o t h
 simp only [Xh] at h
 split at h
 ·cases h;exact Et (by kernel_rfl) (by kernel_rfl) (by kernel_rfl)
 ·cases h;exact Et (by kernel_rfl) (by kernel_rfl) (by kernel_rfl)
 ·cases h;exact Et (by kernel_rfl) (by kernel_rfl) (by kernel_rfl)
 ·cases h
theorem Acw: ∀t τ,Xh.ty t=some τ->τ.Aq=true-> ∃(fs:Array Field) (Ls:Array (Nat×Nat)),Tryz.prog.underlying t=some (.struct fs)/\(∀w,(placesOf fs).run Tryz.prog w= .ok Ls w)/\
  ∀f o u ρ,Xh.off t f=some (o,u)->Xh.ty u=some ρ->Ls[f]?=some (o,ρ.size):=by
 intro t τ h hs
 have all: ∀t,∀f o u ρ,Xh.off t f=some (o,u)->Xh.ty u=some ρ->(Om t)[f]?=some (o,ρ.size):=by
  intro t f o u ρ ho hu
  simp only [Xh] at ho
  split at ho
  all_goals first
   |(cases ho;cases hu;rfl)
   |cases ho
 simp only [Xh] at h
 split at h
 ·cases h;simp [Ty.Aq] at hs
 ·cases h;simp [Ty.Aq] at hs
 ·cases h;simp [Ty.Aq] at hs
 ·cases h;simp [Ty.Aq] at hs
 ·cases h;simp [Ty.Aq] at hs
 ·cases h;simp [Ty.Aq] at hs
 ·cases h;exact ⟨fieldsOf Tryz.prog 153,Om 153,by kernel_rfl,(λw=>by kernel_rfl),all _⟩
 ·cases h
theorem mQ:Eb Tryz.prog Xh:=⟨Acw,Alg,Acv,(λt v h=>by cases h),Ag6⟩
def Acx (l:List Nat):Tab:= {Xh with marks:=l}
theorem Ag5 (l:List Nat):Eb Tryz.prog (Acx l):=mQ.kN l
end Go.Proofs.YtfolipnappekaaaGreat
