/-
  Part 43 of the proof that the statement FnPatterns holds.
-/
import Derived.Test.YtkkdpknjohcekaaGreatCFPatterns41
namespace Go.Proofs.YtkkdpknjohcekaaGreat
open Go.RowKit
def Xk:Tab where
 ty:= λt=>match t with
  |2=>some tI
  |3=>some tI
  |4=>some .bool
  |33=>some tO
  |27=>some tLO
  |163=>some (.slice tLO)
  |170=>some kz
  |_=>none
 elem:= λt=>match t with
  |33=>some 2
  |27=>some 33
  |163=>some 27
  |_=>none
 mapOf:= λ_=>none
 off:= λs f=>match s,f with
  |170,0=>some (0,2)
  |170,1=>some (1,163)
  |170,2=>some (2,163)
  |_,_=>none
 sT:=true
 CH:=false
 ZI:= [27]
theorem Aki: ∀t τ,Xk.ty t=some τ->oI Tryz.prog Xk t τ:=by
 intro t τ h
 simp only [Xk] at h
 split at h
 ·cases h;exact ⟨Ex (b:=8) (by kernel_rfl) (by omega),(by kernel_rfl:Tryz.prog.underlying 2=some (.int .i64))⟩
 ·cases h;exact ⟨Ex (b:=8) (by kernel_rfl) (by omega),(by kernel_rfl:Tryz.prog.underlying 3=some (.int .i64))⟩
 ·cases h;exact ⟨Ex (b:=1) (by kernel_rfl) (by omega),(by kernel_rfl:Tryz.prog.underlying 4=some (.bool))⟩
 ·cases h;exact ⟨Ex (b:=24) (by kernel_rfl) (by omega),⟨2,by kernel_rfl,rfl,rfl⟩⟩
 ·cases h;exact ⟨Ex (b:=24) (by kernel_rfl) (by omega),⟨33,by kernel_rfl,rfl,rfl⟩⟩
 ·cases h;exact ⟨Ex (b:=24) (by kernel_rfl) (by omega),⟨27,by kernel_rfl,rfl,rfl⟩⟩
 ·cases h;exact ⟨Ex (b:=56) (by kernel_rfl) (by omega),⟨fieldsOf Tryz.prog 170,by kernel_rfl⟩⟩
 ·cases h
theorem Acl: ∀t te,Xk.elem t=some te->Tryz.prog.underlying t=some (.slice te):=by
 intro t te h
 simp only [Xk] at h
 split at h
 ·cases h;kernel_rfl
 ·cases h;kernel_rfl
 ·cases h;kernel_rfl
 ·cases h
theorem Aft: ∀s f o t,Xk.off s f=some (o,t)-> ∃(fs:Array Field) (fd:Field),Tryz.prog.underlying s=some (.struct fs)/\fs[f]?=some fd/\fd.offset=o/\fd.type=t/\ ∃i:TypeInfo,Tryz.prog.info? t=some i/\i.size≠0:=by
 intro s f o t h
 simp only [Xk] at h
 split at h
 ·cases h;exact Gv (by kernel_rfl) (by kernel_rfl) (by kernel_rfl)
 ·cases h;exact Gv (by kernel_rfl) (by kernel_rfl) (by kernel_rfl)
 ·cases h;exact Gv (by kernel_rfl) (by kernel_rfl) (by kernel_rfl)
 ·cases h
theorem Acm: ∀t τ,Xk.ty t=some τ->τ.Ap=true-> ∃(fs:Array Field) (Mb:Array (Nat×Nat)),Tryz.prog.underlying t=some (.struct fs)/\(∀w,(placesOf fs).run Tryz.prog w= .ok Mb w)/\
  ∀f o u ρ,Xk.off t f=some (o,u)->Xk.ty u=some ρ->Mb[f]?=some (o,ρ.size):=by
 intro t τ h hs
 have all: ∀t,∀f o u ρ,Xk.off t f=some (o,u)->Xk.ty u=some ρ->(Re t)[f]?=some (o,ρ.size):=by
  intro t f o u ρ ho hu
  simp only [Xk] at ho
  split at ho
  all_goals first
   |(cases ho;cases hu;rfl)
   |cases ho
 simp only [Xk] at h
 split at h
 ·cases h;simp [Ty.Ap] at hs
 ·cases h;simp [Ty.Ap] at hs
 ·cases h;simp [Ty.Ap] at hs
 ·cases h;simp [Ty.Ap] at hs
 ·cases h;simp [Ty.Ap] at hs
 ·cases h;simp [Ty.Ap] at hs
 ·cases h;exact ⟨fieldsOf Tryz.prog 170,Re 170,by kernel_rfl,(λw=>by kernel_rfl),all _⟩
 ·cases h
theorem mD:Eb Tryz.prog Xk:=⟨Acm,Aki,Acl,(λt v h=>by cases h),Aft⟩
def Acn (l:List Nat):Tab:= {Xk with marks:=l}
theorem Afs (l:List Nat):Eb Tryz.prog (Acn l):=mD.kB l
end Go.Proofs.YtkkdpknjohcekaaGreat
