/-
  Part 37 of the proof that the statement FnNoShorterSolution holds.
-/
import Derived.Test.YtkkdpknjohcekaaGreatCFNoShorterSolution35
namespace Go.Proofs.YtkkdpknjohcekaaGreat
open Go.RowKit
abbrev tO:Ty:= .oslice tI
abbrev tLO:Ty:= .slice tO
abbrev RF:Ty:= .pair tI (.pair (.slice tLO) (.pair (.slice tLO) .unit))
def cF:Tab where
 ty:= λt=>match t with
  |2=>some tI
  |3=>some tI
  |4=>some .bool
  |33=>some tO
  |27=>some tLO
  |163=>some (.slice tLO)
  |165=>some RF
  |_=>none
 elem:= λt=>match t with
  |33=>some 2
  |27=>some 33
  |163=>some 27
  |_=>none
 mapOf:= λ_=>none
 off:= λs f=>match s,f with
  |165,0=>some (0,2)
  |165,1=>some (1,163)
  |165,2=>some (2,163)
  |_,_=>none
 vu:=true
 CB:=false
 Afg:= [27]
theorem Ajk: ∀t τ,cF.ty t=some τ->r7 Tryz.prog cF t τ:=by
 intro t τ h
 simp only [cF] at h
 split at h
 ·cases h;exact ⟨Gl (b:=8) (by kernel_rfl) (by omega),(by kernel_rfl:Tryz.prog.underlying 2=some (.int .i64))⟩
 ·cases h;exact ⟨Gl (b:=8) (by kernel_rfl) (by omega),(by kernel_rfl:Tryz.prog.underlying 3=some (.int .i64))⟩
 ·cases h;exact ⟨Gl (b:=1) (by kernel_rfl) (by omega),(by kernel_rfl:Tryz.prog.underlying 4=some (.bool))⟩
 ·cases h;exact ⟨Gl (b:=24) (by kernel_rfl) (by omega),⟨2,by kernel_rfl,rfl,rfl⟩⟩
 ·cases h;exact ⟨Gl (b:=24) (by kernel_rfl) (by omega),⟨33,by kernel_rfl,rfl,rfl⟩⟩
 ·cases h;exact ⟨Gl (b:=24) (by kernel_rfl) (by omega),⟨27,by kernel_rfl,rfl,rfl⟩⟩
 ·cases h;exact ⟨Gl (b:=56) (by kernel_rfl) (by omega),⟨fieldsOf Tryz.prog 165,by kernel_rfl⟩⟩
 ·cases h
theorem Abh: ∀t te,cF.elem t=some te->Tryz.prog.underlying t=some (.slice te):=by
 intro t te h
 simp only [cF] at h
 split at h
 ·cases h;kernel_rfl
 ·cases h;kernel_rfl
 ·cases h;kernel_rfl
 ·cases h
theorem Aex: ∀s f o t,cF.off s f=some (o,t)-> ∃(fs:Array Field) (fd:Field),Tryz.prog.underlying s=some (.struct fs)/\fs[f]?=some fd/\fd.offset=o/\fd.type=t/\ ∃i:TypeInfo,Tryz.prog.info? t=some i/\i.size≠0:=by
 intro s f o t h
 simp only [cF] at h
 split at h
 ·cases h;exact Ho (by kernel_rfl) (by kernel_rfl) (by kernel_rfl)
 ·cases h;exact Ho (by kernel_rfl) (by kernel_rfl) (by kernel_rfl)
 ·cases h;exact Ho (by kernel_rfl) (by kernel_rfl) (by kernel_rfl)
 ·cases h
theorem Abi: ∀t τ,cF.ty t=some τ->τ.Aq=true-> ∃(fs:Array Field) (Ov:Array (Nat×Nat)),Tryz.prog.underlying t=some (.struct fs)/\(∀w,(placesOf fs).run Tryz.prog w= .ok Ov w)/\
  ∀f o u ρ,cF.off t f=some (o,u)->cF.ty u=some ρ->Ov[f]?=some (o,ρ.size):=by
 intro t τ h hs
 have all: ∀t,∀f o u ρ,cF.off t f=some (o,u)->cF.ty u=some ρ->(Ur t)[f]?=some (o,ρ.size):=by
  intro t f o u ρ ho hu
  simp only [cF] at ho
  split at ho
  all_goals first
   |(cases ho;cases hu;rfl)
   |cases ho
 simp only [cF] at h
 split at h
 ·cases h;simp [Ty.Aq] at hs
 ·cases h;simp [Ty.Aq] at hs
 ·cases h;simp [Ty.Aq] at hs
 ·cases h;simp [Ty.Aq] at hs
 ·cases h;simp [Ty.Aq] at hs
 ·cases h;simp [Ty.Aq] at hs
 ·cases h;exact ⟨fieldsOf Tryz.prog 165,Ur 165,by kernel_rfl,(λw=>by kernel_rfl),all _⟩
 ·cases h
theorem vd:Ed Tryz.prog cF:=⟨Abi,Ajk,Abh,(λt v h=>by cases h),Aex⟩
def Abj (l:List Nat):Tab:= {cF with marks:=l}
theorem Aew (l:List Nat):Ed Tryz.prog (Abj l):=vd.pX l
end Go.Proofs.YtkkdpknjohcekaaGreat
