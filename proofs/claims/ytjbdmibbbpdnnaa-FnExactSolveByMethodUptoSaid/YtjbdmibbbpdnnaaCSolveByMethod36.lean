/-
  Part 37 of the proof that the statement FnExactSolveByMethod holds.
-/
import Derived.Test.YtjbdmibbbpdnnaaCSolveByMethod35
namespace Go.Proofs.Ytjbdmibbbpdnnaa
open Go.RowKit
abbrev tO:Ty:= .oslice tI
abbrev tLO:Ty:= .slice tO
abbrev uD:Ty:= .pair tI (.pair (.slice tLO) (.pair (.slice tLO) .unit))
def Uc:Tab where
 ty:= λt=>match t with
  |2=>some tI
  |3=>some tI
  |4=>some .bool
  |25=>some tO
  |22=>some tLO
  |177=>some (.slice tLO)
  |179=>some uD
  |_=>none
 elem:= λt=>match t with
  |25=>some 2
  |22=>some 25
  |177=>some 22
  |_=>none
 mapOf:= λ_=>none
 off:= λs f=>match s,f with
  |179,0=>some (0,2)
  |179,1=>some (1,177)
  |179,2=>some (2,177)
  |_,_=>none
 mV:=true
 uH:=false
 TL:= [22]
theorem YU: ∀t τ,Uc.ty t=some τ->jj Try.prog Uc t τ:=by
 intro t τ h
 simp only [Uc] at h
 split at h
 ·cases h;exact ⟨Ca (b:=8) (by kernel_rfl) (by omega),(by kernel_rfl:Try.prog.underlying 2=some (.int .i64))⟩
 ·cases h;exact ⟨Ca (b:=8) (by kernel_rfl) (by omega),(by kernel_rfl:Try.prog.underlying 3=some (.int .i64))⟩
 ·cases h;exact ⟨Ca (b:=1) (by kernel_rfl) (by omega),(by kernel_rfl:Try.prog.underlying 4=some (.bool))⟩
 ·cases h;exact ⟨Ca (b:=24) (by kernel_rfl) (by omega),⟨2,by kernel_rfl,rfl,rfl⟩⟩
 ·cases h;exact ⟨Ca (b:=24) (by kernel_rfl) (by omega),⟨25,by kernel_rfl,rfl,rfl⟩⟩
 ·cases h;exact ⟨Ca (b:=24) (by kernel_rfl) (by omega),⟨22,by kernel_rfl,rfl,rfl⟩⟩
 ·cases h;exact ⟨Ca (b:=56) (by kernel_rfl) (by omega),⟨fieldsOf Try.prog 179,by kernel_rfl⟩⟩
 ·cases h
theorem NI: ∀t te,Uc.elem t=some te->Try.prog.underlying t=some (.slice te):=by
 intro t te h
 simp only [Uc] at h
 split at h
 ·cases h;kernel_rfl
 ·cases h;kernel_rfl
 ·cases h;kernel_rfl
 ·cases h
theorem SK: ∀s f o t,Uc.off s f=some (o,t)-> ∃(fs:Array Field) (fd:Field),Try.prog.underlying s=some (.struct fs)/\fs[f]?=some fd/\fd.offset=o/\fd.type=t/\ ∃i:TypeInfo,Try.prog.info? t=some i/\i.size≠0:=by
 intro s f o t h
 simp only [Uc] at h
 split at h
 ·cases h;exact Dy (by kernel_rfl) (by kernel_rfl) (by kernel_rfl)
 ·cases h;exact Dy (by kernel_rfl) (by kernel_rfl) (by kernel_rfl)
 ·cases h;exact Dy (by kernel_rfl) (by kernel_rfl) (by kernel_rfl)
 ·cases h
theorem NJ: ∀t τ,Uc.ty t=some τ->τ.Ac=true-> ∃(fs:Array Field) (Hd:Array (Nat×Nat)),Try.prog.underlying t=some (.struct fs)/\(∀w,(placesOf fs).run Try.prog w= .ok Hd w)/\
  ∀f o u ρ,Uc.off t f=some (o,u)->Uc.ty u=some ρ->Hd[f]?=some (o,ρ.size):=by
 intro t τ h hs
 have all: ∀t,∀f o u ρ,Uc.off t f=some (o,u)->Uc.ty u=some ρ->(Mc t)[f]?=some (o,ρ.size):=by
  intro t f o u ρ ho hu
  simp only [Uc] at ho
  split at ho
  all_goals first
   |(cases ho;cases hu;rfl)
   |cases ho
 simp only [Uc] at h
 split at h
 ·cases h;simp [Ty.Ac] at hs
 ·cases h;simp [Ty.Ac] at hs
 ·cases h;simp [Ty.Ac] at hs
 ·cases h;simp [Ty.Ac] at hs
 ·cases h;simp [Ty.Ac] at hs
 ·cases h;simp [Ty.Ac] at hs
 ·cases h;exact ⟨fieldsOf Try.prog 179,Mc 179,by kernel_rfl,(λw=>by kernel_rfl),all _⟩
 ·cases h
theorem kC:Cf Try.prog Uc:=⟨NJ,YU,NI,(λt v h=>by cases h),SK⟩
def NK (l:List Nat):Tab:= {Uc with marks:=l}
theorem SJ (l:List Nat):Cf Try.prog (NK l):=kC.kD l
end Go.Proofs.Ytjbdmibbbpdnnaa
