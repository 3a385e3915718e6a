/-
  Part 37 of the proof that the statement FnExactBoundHistogram holds.
-/
import Derived.Test.YtjbdmibbbpdnnaaGreatCBoundHistogram35
namespace Go.Proofs.YtjbdmibbbpdnnaaGreat
open Go.RowKit
abbrev tO:Ty:= .oslice tI
abbrev YA:Ty:= .slice tO
abbrev ug:Ty:= .pair tI (.pair (.slice YA) (.pair (.slice YA) .unit))
def Ub:Tab where
 ty:= λt=>match t with
  |2=>some tI
  |3=>some tI
  |4=>some .bool
  |28=>some tO
  |22=>some YA
  |104=>some (.slice YA)
  |106=>some ug
  |_=>none
 elem:= λt=>match t with
  |28=>some 2
  |22=>some 28
  |104=>some 22
  |_=>none
 mapOf:= λ_=>none
 off:= λs f=>match s,f with
  |106,0=>some (0,2)
  |106,1=>some (1,104)
  |106,2=>some (2,104)
  |_,_=>none
 oW:=true
 uK:=false
 QZ:= [22]
theorem WM: ∀t τ,Ub.ty t=some τ->l7 Tryz.prog Ub t τ:=by
 intro t τ h
 simp only [Ub] at h
 split at h
 ·cases h;exact ⟨Dd (b:=8) (by kernel_rfl) (by omega),(by kernel_rfl:Tryz.prog.underlying 2=some (.int .i64))⟩
 ·cases h;exact ⟨Dd (b:=8) (by kernel_rfl) (by omega),(by kernel_rfl:Tryz.prog.underlying 3=some (.int .i64))⟩
 ·cases h;exact ⟨Dd (b:=1) (by kernel_rfl) (by omega),(by kernel_rfl:Tryz.prog.underlying 4=some (.bool))⟩
 ·cases h;exact ⟨Dd (b:=24) (by kernel_rfl) (by omega),⟨2,by kernel_rfl,rfl,rfl⟩⟩
 ·cases h;exact ⟨Dd (b:=24) (by kernel_rfl) (by omega),⟨28,by kernel_rfl,rfl,rfl⟩⟩
 ·cases h;exact ⟨Dd (b:=24) (by kernel_rfl) (by omega),⟨22,by kernel_rfl,rfl,rfl⟩⟩
 ·cases h;exact ⟨Dd (b:=56) (by kernel_rfl) (by omega),⟨fieldsOf Tryz.prog 106,by kernel_rfl⟩⟩
 ·cases h
theorem MB: ∀t te,Ub.elem t=some te->Tryz.prog.underlying t=some (.slice te):=by
 intro t te h
 simp only [Ub] at h
 split at h
 ·cases h;kernel_rfl
 ·cases h;kernel_rfl
 ·cases h;kernel_rfl
 ·cases h
theorem QE: ∀s f o t,Ub.off s f=some (o,t)-> ∃(fs:Array Field) (fd:Field),Tryz.prog.underlying s=some (.struct fs)/\fs[f]?=some fd/\fd.offset=o/\fd.type=t/\ ∃i:TypeInfo,Tryz.prog.info? t=some i/\i.size≠0:=by
 intro s f o t h
 simp only [Ub] at h
 split at h
 ·cases h;exact Ey (by kernel_rfl) (by kernel_rfl) (by kernel_rfl)
 ·cases h;exact Ey (by kernel_rfl) (by kernel_rfl) (by kernel_rfl)
 ·cases h;exact Ey (by kernel_rfl) (by kernel_rfl) (by kernel_rfl)
 ·cases h
theorem MC: ∀t τ,Ub.ty t=some τ->τ.Ac=true-> ∃(fs:Array Field) (Iu:Array (Nat×Nat)),Tryz.prog.underlying t=some (.struct fs)/\(∀w,(placesOf fs).run Tryz.prog w= .ok Iu w)/\
  ∀f o u ρ,Ub.off t f=some (o,u)->Ub.ty u=some ρ->Iu[f]?=some (o,ρ.size):=by
 intro t τ h hs
 have all: ∀t,∀f o u ρ,Ub.off t f=some (o,u)->Ub.ty u=some ρ->(Pl t)[f]?=some (o,ρ.size):=by
  intro t f o u ρ ho hu
  simp only [Ub] at ho
  split at ho
  all_goals first
   |(cases ho;cases hu;rfl)
   |cases ho
 simp only [Ub] at h
 split at h
 ·cases h;simp [Ty.Ac] at hs
 ·cases h;simp [Ty.Ac] at hs
 ·cases h;simp [Ty.Ac] at hs
 ·cases h;simp [Ty.Ac] at hs
 ·cases h;simp [Ty.Ac] at hs
 ·cases h;simp [Ty.Ac] at hs
 ·cases h;exact ⟨fieldsOf Tryz.prog 106,Pl 106,by kernel_rfl,(λw=>by kernel_rfl),all _⟩
 ·cases h
theorem jV:Cb Tryz.prog Ub:=⟨MC,WM,MB,(λt v h=>by cases h),QE⟩
def MD (l:List Nat):Tab:= {Ub with marks:=l}
theorem QD (l:List Nat):Cb Tryz.prog (MD l):=jV.jW l
end Go.Proofs.YtjbdmibbbpdnnaaGreat
