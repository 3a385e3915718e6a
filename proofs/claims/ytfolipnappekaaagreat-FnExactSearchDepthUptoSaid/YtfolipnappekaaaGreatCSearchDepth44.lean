/-
  Part 45 of the proof that the statement FnExactSearchDepth holds.
-/
import Derived.Test.YtfolipnappekaaaGreatCSearchDepth43
namespace Go.Proofs.YtfolipnappekaaaGreat
open Go.RowKit
def Xc:Tab where
 ty:= λt=>match t with
  |2=>some tI
  |3=>some tI
  |4=>some .bool
  |26=>some tO
  |22=>some tLO
  |139=>some (.slice tLO)
  |153=>some oH
  |_=>none
 elem:= λt=>match t with
  |26=>some 2
  |22=>some 26
  |139=>some 22
  |_=>none
 mapOf:= λ_=>none
 off:= λs f=>match s,f with
  |153,0=>some (0,2)
  |153,1=>some (1,139)
  |153,2=>some (2,139)
  |_,_=>none
 tH:=true
 CO:=false
 YV:= [22]
theorem Akq: ∀t τ,Xc.ty t=some τ->oT Tryz.prog Xc t τ:=by
 intro t τ h
 simp only [Xc] at h
 split at h
 ·cases h;exact ⟨Eg (b:=8) (by kernel_rfl) (by omega),(by kernel_rfl:Tryz.prog.underlying 2=some (.int .i64))⟩
 ·cases h;exact ⟨Eg (b:=8) (by kernel_rfl) (by omega),(by kernel_rfl:Tryz.prog.underlying 3=some (.int .i64))⟩
 ·cases h;exact ⟨Eg (b:=1) (by kernel_rfl) (by omega),(by kernel_rfl:Tryz.prog.underlying 4=some (.bool))⟩
 ·cases h;exact ⟨Eg (b:=24) (by kernel_rfl) (by omega),⟨2,by kernel_rfl,rfl,rfl⟩⟩
 ·cases h;exact ⟨Eg (b:=24) (by kernel_rfl) (by omega),⟨26,by kernel_rfl,rfl,rfl⟩⟩
 ·cases h;exact ⟨Eg (b:=24) (by kernel_rfl) (by omega),⟨22,by kernel_rfl,rfl,rfl⟩⟩
 ·cases h;exact ⟨Eg (b:=56) (by kernel_rfl) (by omega),⟨fieldsOf Tryz.prog 153,by kernel_rfl⟩⟩
 ·cases h
theorem Ac0: ∀t te,Xc.elem t=some te->Tryz.prog.underlying t=some (.slice te):=by
 intro t te h
 simp only [Xc] at h
 split at h
 ·cases h;kernel_rfl
 ·cases h;kernel_rfl
 ·cases h;kernel_rfl
 ·cases h
theorem Aff: ∀s f o t,Xc.off s f=some (o,t)-> ∃(fs:Array Field) (fd:Field),Tryz.prog.underlying s=some (.struct fs)/\fs[f]?=some fd/\fd.offset=o/\fd.type=t/\ ∃i:TypeInfo,Tryz.prog.info? t=some i/\i.size≠0:=by
 intro s f o t h
 simp only [Xc] at h
 split at h
 ·cases h;exact Er (by kernel_rfl) (by kernel_rfl) (by kernel_rfl)
 ·cases h;exact Er (by kernel_rfl) (by kernel_rfl) (by kernel_rfl)
 ·cases h;exact Er (by kernel_rfl) (by kernel_rfl) (by kernel_rfl)
 ·cases h
theorem Ac1: ∀t τ,Xc.ty t=some τ->τ.Aq=true-> ∃(fs:Array Field) (Ln:Array (Nat×Nat)),Tryz.prog.underlying t=some (.struct fs)/\(∀w,(placesOf fs).run Tryz.prog w= .ok Ln w)/\
  ∀f o u ρ,Xc.off t f=some (o,u)->Xc.ty u=some ρ->Ln[f]?=some (o,ρ.size):=by
 intro t τ h hs
 have all: ∀t,∀f o u ρ,Xc.off t f=some (o,u)->Xc.ty u=some ρ->(Oj t)[f]?=some (o,ρ.size):=by
  intro t f o u ρ ho hu
  simp only [Xc] at ho
  split at ho
  all_goals first
   |(cases ho;cases hu;rfl)
   |cases ho
 simp only [Xc] at h
 split at h
 ·cases h;simp [Ty.Aq] at hs
 ·cases h;simp [Ty.Aq] at hs
 ·cases h;simp [Ty.Aq] at hs
 ·cases h;simp [Ty.Aq] at hs
 ·cases h;simp [Ty.Aq] at hs
 ·cases h;simp [Ty.Aq] at hs
 ·cases h;exact ⟨fieldsOf Tryz.prog 153,Oj 153,by kernel_rfl,(λw=>by kernel_rfl),all _⟩
 ·cases h
theorem mD:Dz Tryz.prog Xc:=⟨Ac1,Akq,Ac0,(λt v h=>by cases h),Aff⟩
def Ac2 (l:List Nat):Tab:= {Xc with marks:=l}
theorem Afe (l:List Nat):Dz Tryz.prog (Ac2 l):=mD.kz l
end Go.Proofs.YtfolipnappekaaaGreat
