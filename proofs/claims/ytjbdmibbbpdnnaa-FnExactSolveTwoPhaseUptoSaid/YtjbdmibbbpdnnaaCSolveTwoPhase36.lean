/-
  Part 37 of the proof that the statement FnExactSolveTwoPhase holds.
-/
import Derived.Test.YtjbdmibbbpdnnaaCSolveTwoPhase35
namespace Go.Proofs.Ytjbdmibbbpdnnaa
open Go.RowKit
abbrev tO:Ty:= .oslice tI
abbrev tLO:Ty:= .slice tO
abbrev vf:Ty:= .pair tI (.pair (.slice tLO) (.pair (.slice tLO) .unit))
def Va:Tab where
 ty:= λt=>match t with
  |2=>some tI
  |3=>some tI
  |4=>some .bool
  |25=>some tO
  |22=>some tLO
  |177=>some (.slice tLO)
  |179=>some vf
  |_=>none
 elem:= λt=>match t with
  |25=>some 2
  |22=>some 25
  |177=>some 22
  |_=>none
 mapOf:= λ_=>none
 off:= λs f=>match s,f with
  |179,0=>some (0,2)
  |179,1=>some (1,177)
  |179,2=>some (2,177)
  |_,_=>none
 nM:=true
 vo:=false
 UO:= [22]
theorem Aa9: ∀t τ,Va.ty t=some τ->jL Try.prog Va t τ:=by
 intro t τ h
 simp only [Va] at h
 split at h
 ·cases h;exact ⟨Ce (b:=8) (by kernel_rfl) (by omega),(by kernel_rfl:Try.prog.underlying 2=some (.int .i64))⟩
 ·cases h;exact ⟨Ce (b:=8) (by kernel_rfl) (by omega),(by kernel_rfl:Try.prog.underlying 3=some (.int .i64))⟩
 ·cases h;exact ⟨Ce (b:=1) (by kernel_rfl) (by omega),(by kernel_rfl:Try.prog.underlying 4=some (.bool))⟩
 ·cases h;exact ⟨Ce (b:=24) (by kernel_rfl) (by omega),⟨2,by kernel_rfl,rfl,rfl⟩⟩
 ·cases h;exact ⟨Ce (b:=24) (by kernel_rfl) (by omega),⟨25,by kernel_rfl,rfl,rfl⟩⟩
 ·cases h;exact ⟨Ce (b:=24) (by kernel_rfl) (by omega),⟨22,by kernel_rfl,rfl,rfl⟩⟩
 ·cases h;exact ⟨Ce (b:=56) (by kernel_rfl) (by omega),⟨fieldsOf Try.prog 179,by kernel_rfl⟩⟩
 ·cases h
theorem PA: ∀t te,Va.elem t=some te->Try.prog.underlying t=some (.slice te):=by
 intro t te h
 simp only [Va] at h
 split at h
 ·cases h;kernel_rfl
 ·cases h;kernel_rfl
 ·cases h;kernel_rfl
 ·cases h
theorem TT: ∀s f o t,Va.off s f=some (o,t)-> ∃(fs:Array Field) (fd:Field),Try.prog.underlying s=some (.struct fs)/\fs[f]?=some fd/\fd.offset=o/\fd.type=t/\ ∃i:TypeInfo,Try.prog.info? t=some i/\i.size≠0:=by
 intro s f o t h
 simp only [Va] at h
 split at h
 ·cases h;exact Dw (by kernel_rfl) (by kernel_rfl) (by kernel_rfl)
 ·cases h;exact Dw (by kernel_rfl) (by kernel_rfl) (by kernel_rfl)
 ·cases h;exact Dw (by kernel_rfl) (by kernel_rfl) (by kernel_rfl)
 ·cases h
theorem PB: ∀t τ,Va.ty t=some τ->τ.Ac=true-> ∃(fs:Array Field) (Hp:Array (Nat×Nat)),Try.prog.underlying t=some (.struct fs)/\(∀w,(placesOf fs).run Try.prog w= .ok Hp w)/\
  ∀f o u ρ,Va.off t f=some (o,u)->Va.ty u=some ρ->Hp[f]?=some (o,ρ.size):=by
 intro t τ h hs
 have all: ∀t,∀f o u ρ,Va.off t f=some (o,u)->Va.ty u=some ρ->(Mu t)[f]?=some (o,ρ.size):=by
  intro t f o u ρ ho hu
  simp only [Va] at ho
  split at ho
  all_goals first
   |(cases ho;cases hu;rfl)
   |cases ho
 simp only [Va] at h
 split at h
 ·cases h;simp [Ty.Ac] at hs
 ·cases h;simp [Ty.Ac] at hs
 ·cases h;simp [Ty.Ac] at hs
 ·cases h;simp [Ty.Ac] at hs
 ·cases h;simp [Ty.Ac] at hs
 ·cases h;simp [Ty.Ac] at hs
 ·cases h;exact ⟨fieldsOf Try.prog 179,Mu 179,by kernel_rfl,(λw=>by kernel_rfl),all _⟩
 ·cases h
theorem l5:Ch Try.prog Va:=⟨PB,Aa9,PA,(λt v h=>by cases h),TT⟩
def PC (l:List Nat):Tab:= {Va with marks:=l}
theorem TS (l:List Nat):Ch Try.prog (PC l):=l5.l8 l
end Go.Proofs.Ytjbdmibbbpdnnaa
