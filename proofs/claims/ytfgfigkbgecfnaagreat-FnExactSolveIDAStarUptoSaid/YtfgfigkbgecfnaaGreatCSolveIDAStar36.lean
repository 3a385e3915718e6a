/-
  Part 37 of the proof that the statement FnExactSolveIDAStar holds.
-/
import Derived.Test.YtfgfigkbgecfnaaGreatCSolveIDAStar35
namespace Go.Proofs.YtfgfigkbgecfnaaGreat
open Go.RowKit
abbrev tO:Ty:= .oslice tI
abbrev tLO:Ty:= .slice tO
abbrev pN:Ty:= .pair tI (.pair (.slice tLO) (.pair (.slice tLO) .unit))
def dg:Tab where
 ty:= λt=>match t with
  |2=>some tI
  |3=>some tI
  |4=>some .bool
  |26=>some tO
  |22=>some tLO
  |97=>some (.slice tLO)
  |99=>some pN
  |_=>none
 elem:= λt=>match t with
  |26=>some 2
  |22=>some 26
  |97=>some 22
  |_=>none
 mapOf:= λ_=>none
 off:= λs f=>match s,f with
  |99,0=>some (0,2)
  |99,1=>some (1,97)
  |99,2=>some (2,97)
  |_,_=>none
 vg:=true
 FN:=false
 Ac7:= [22]
theorem Ao2: ∀t τ,dg.ty t=some τ->q7 Tryz.prog dg t τ:=by
 intro t τ h
 simp only [dg] at h
 split at h
 ·cases h;exact ⟨Eu (b:=8) (by kernel_rfl) (by omega),(by kernel_rfl:Tryz.prog.underlying 2=some (.int .i64))⟩
 ·cases h;exact ⟨Eu (b:=8) (by kernel_rfl) (by omega),(by kernel_rfl:Tryz.prog.underlying 3=some (.int .i64))⟩
 ·cases h;exact ⟨Eu (b:=1) (by kernel_rfl) (by omega),(by kernel_rfl:Tryz.prog.underlying 4=some (.bool))⟩
 ·cases h;exact ⟨Eu (b:=24) (by kernel_rfl) (by omega),⟨2,by kernel_rfl,rfl,rfl⟩⟩
 ·cases h;exact ⟨Eu (b:=24) (by kernel_rfl) (by omega),⟨26,by kernel_rfl,rfl,rfl⟩⟩
 ·cases h;exact ⟨Eu (b:=24) (by kernel_rfl) (by omega),⟨22,by kernel_rfl,rfl,rfl⟩⟩
 ·cases h;exact ⟨Eu (b:=56) (by kernel_rfl) (by omega),⟨fieldsOf Tryz.prog 99,by kernel_rfl⟩⟩
 ·cases h
theorem Af6: ∀t te,dg.elem t=some te->Tryz.prog.underlying t=some (.slice te):=by
 intro t te h
 simp only [dg] at h
 split at h
 ·cases h;kernel_rfl
 ·cases h;kernel_rfl
 ·cases h;kernel_rfl
 ·cases h
theorem Aio: ∀s f o t,dg.off s f=some (o,t)-> ∃(fs:Array Field) (fd:Field),Tryz.prog.underlying s=some (.struct fs)/\fs[f]?=some fd/\fd.offset=o/\fd.type=t/\ ∃i:TypeInfo,Tryz.prog.info? t=some i/\i.size≠0:=by
 intro s f o t h
 simp only [dg] at h
 split at h
 ·cases h;exact Gm (by kernel_rfl) (by kernel_rfl) (by kernel_rfl)
 ·cases h;exact Gm (by kernel_rfl) (by kernel_rfl) (by kernel_rfl)
 ·cases h;exact Gm (by kernel_rfl) (by kernel_rfl) (by kernel_rfl)
 ·cases h
theorem Af7: ∀t τ,dg.ty t=some τ->τ.Aq=true-> ∃(fs:Array Field) (Md:Array (Nat×Nat)),Tryz.prog.underlying t=some (.struct fs)/\(∀w,(placesOf fs).run Tryz.prog w= .ok Md w)/\
  ∀f o u ρ,dg.off t f=some (o,u)->dg.ty u=some ρ->Md[f]?=some (o,ρ.size):=by
 intro t τ h hs
 have all: ∀t,∀f o u ρ,dg.off t f=some (o,u)->dg.ty u=some ρ->(Ql t)[f]?=some (o,ρ.size):=by
  intro t f o u ρ ho hu
  simp only [dg] at ho
  split at ho
  all_goals first
   |(cases ho;cases hu;rfl)
   |cases ho
 simp only [dg] at h
 split at h
 ·cases h;simp [Ty.Aq] at hs
 ·cases h;simp [Ty.Aq] at hs
 ·cases h;simp [Ty.Aq] at hs
 ·cases h;simp [Ty.Aq] at hs
 ·cases h;simp [Ty.Aq] at hs
 ·cases h;simp [Ty.Aq] at hs
 ·cases h;exact ⟨fieldsOf Tryz.prog 99,Ql 99,by kernel_rfl,(λw=>by kernel_rfl),all _⟩
 ·cases h
theorem xl:Ed Tryz.prog dg:=⟨Af7,Ao2,Af6,(λt v h=>by cases h),Aio⟩
def Af8 (l:List Nat):Tab:= {dg with marks:=l}
theorem Ain (l:List Nat):Ed Tryz.prog (Af8 l):=xl.lB l
end Go.Proofs.YtfgfigkbgecfnaaGreat
