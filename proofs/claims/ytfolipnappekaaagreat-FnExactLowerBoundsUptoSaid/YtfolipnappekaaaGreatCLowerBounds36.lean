/-
  Part 37 of the proof that the statement FnExactLowerBounds holds.
-/
import Derived.Test.YtfolipnappekaaaGreatCLowerBounds35
namespace Go.Proofs.YtfolipnappekaaaGreat
open Go.RowKit
abbrev tO:Ty:= .oslice tI
abbrev TW:Ty:= .slice tO
abbrev jz:Ty:= .pair tI (.pair (.slice TW) (.pair (.slice TW) .unit))
def Wz:Tab where
 ty:= λt=>match t with
  |2=>some tI
  |3=>some tI
  |4=>some .bool
  |26=>some tO
  |22=>some TW
  |139=>some (.slice TW)
  |141=>some jz
  |_=>none
 elem:= λt=>match t with
  |26=>some 2
  |22=>some 26
  |139=>some 22
  |_=>none
 mapOf:= λ_=>none
 off:= λs f=>match s,f with
  |141,0=>some (0,2)
  |141,1=>some (1,139)
  |141,2=>some (2,139)
  |_,_=>none
 nX:=true
 vY:=false
 MG:= [22]
theorem Aaj: ∀t τ,Wz.ty t=some τ->jL Tryz.prog Wz t τ:=by
 intro t τ h
 simp only [Wz] at h
 split at h
 ·cases h;exact ⟨Bz (b:=8) (by kernel_rfl) (by omega),(by kernel_rfl:Tryz.prog.underlying 2=some (.int .i64))⟩
 ·cases h;exact ⟨Bz (b:=8) (by kernel_rfl) (by omega),(by kernel_rfl:Tryz.prog.underlying 3=some (.int .i64))⟩
 ·cases h;exact ⟨Bz (b:=1) (by kernel_rfl) (by omega),(by kernel_rfl:Tryz.prog.underlying 4=some (.bool))⟩
 ·cases h;exact ⟨Bz (b:=24) (by kernel_rfl) (by omega),⟨2,by kernel_rfl,rfl,rfl⟩⟩
 ·cases h;exact ⟨Bz (b:=24) (by kernel_rfl) (by omega),⟨26,by kernel_rfl,rfl,rfl⟩⟩
 ·cases h;exact ⟨Bz (b:=24) (by kernel_rfl) (by omega),⟨22,by kernel_rfl,rfl,rfl⟩⟩
 ·cases h;exact ⟨Bz (b:=56) (by kernel_rfl) (by omega),⟨fieldsOf Tryz.prog 141,by kernel_rfl⟩⟩
 ·cases h
theorem PX: ∀t te,Wz.elem t=some te->Tryz.prog.underlying t=some (.slice te):=by
 intro t te h
 simp only [Wz] at h
 split at h
 ·cases h;kernel_rfl
 ·cases h;kernel_rfl
 ·cases h;kernel_rfl
 ·cases h
theorem UA: ∀s f o t,Wz.off s f=some (o,t)-> ∃(fs:Array Field) (fd:Field),Tryz.prog.underlying s=some (.struct fs)/\fs[f]?=some fd/\fd.offset=o/\fd.type=t/\ ∃i:TypeInfo,Tryz.prog.info? t=some i/\i.size≠0:=by
 intro s f o t h
 simp only [Wz] at h
 split at h
 ·cases h;exact Cf (by kernel_rfl) (by kernel_rfl) (by kernel_rfl)
 ·cases h;exact Cf (by kernel_rfl) (by kernel_rfl) (by kernel_rfl)
 ·cases h;exact Cf (by kernel_rfl) (by kernel_rfl) (by kernel_rfl)
 ·cases h
theorem PY: ∀t τ,Wz.ty t=some τ->τ.Ab=true-> ∃(fs:Array Field) (Hg:Array (Nat×Nat)),Tryz.prog.underlying t=some (.struct fs)/\(∀w,(placesOf fs).run Tryz.prog w= .ok Hg w)/\
  ∀f o u ρ,Wz.off t f=some (o,u)->Wz.ty u=some ρ->Hg[f]?=some (o,ρ.size):=by
 intro t τ h hs
 have all: ∀t,∀f o u ρ,Wz.off t f=some (o,u)->Wz.ty u=some ρ->(Jg t)[f]?=some (o,ρ.size):=by
  intro t f o u ρ ho hu
  simp only [Wz] at ho
  split at ho
  all_goals first
   |(cases ho;cases hu;rfl)
   |cases ho
 simp only [Wz] at h
 split at h
 ·cases h;simp [Ty.Ab] at hs
 ·cases h;simp [Ty.Ab] at hs
 ·cases h;simp [Ty.Ab] at hs
 ·cases h;simp [Ty.Ab] at hs
 ·cases h;simp [Ty.Ab] at hs
 ·cases h;simp [Ty.Ab] at hs
 ·cases h;exact ⟨fieldsOf Tryz.prog 141,Jg 141,by kernel_rfl,(λw=>by kernel_rfl),all _⟩
 ·cases h
theorem pQ:Ca Tryz.prog Wz:=⟨PY,Aaj,PX,(λt v h=>by cases h),UA⟩
def PZ (l:List Nat):Tab:= {Wz with marks:=l}
theorem TZ (l:List Nat):Ca Tryz.prog (PZ l):=pQ.eL l
end Go.Proofs.YtfolipnappekaaaGreat
