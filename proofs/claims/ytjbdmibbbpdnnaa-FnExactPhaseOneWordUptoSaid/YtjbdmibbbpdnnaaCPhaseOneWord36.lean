/-
  Part 37 of the proof that the statement FnExactPhaseOneWord holds.
-/
import Derived.Test.YtjbdmibbbpdnnaaCPhaseOneWord35
namespace Go.Proofs.Ytjbdmibbbpdnnaa
open Go.RowKit
abbrev tO:Ty:= .oslice tI
abbrev YD:Ty:= .slice tO
abbrev tQ:Ty:= .pair tI (.pair (.slice YD) (.pair (.slice YD) .unit))
def Tv:Tab where
 ty:= λt=>match t with
  |2=>some tI
  |3=>some tI
  |4=>some .bool
  |25=>some tO
  |22=>some YD
  |177=>some (.slice YD)
  |179=>some tQ
  |_=>none
 elem:= λt=>match t with
  |25=>some 2
  |22=>some 25
  |177=>some 22
  |_=>none
 mapOf:= λ_=>none
 off:= λs f=>match s,f with
  |179,0=>some (0,2)
  |179,1=>some (1,177)
  |179,2=>some (2,177)
  |_,_=>none
 my:=true
 tV:=false
 QS:= [22]
theorem WG: ∀t τ,Tv.ty t=some τ->iU Try.prog Tv t τ:=by
 intro t τ h
 simp only [Tv] at h
 split at h
 ·cases h;exact ⟨Bw (b:=8) (by kernel_rfl) (by omega),(by kernel_rfl:Try.prog.underlying 2=some (.int .i64))⟩
 ·cases h;exact ⟨Bw (b:=8) (by kernel_rfl) (by omega),(by kernel_rfl:Try.prog.underlying 3=some (.int .i64))⟩
 ·cases h;exact ⟨Bw (b:=1) (by kernel_rfl) (by omega),(by kernel_rfl:Try.prog.underlying 4=some (.bool))⟩
 ·cases h;exact ⟨Bw (b:=24) (by kernel_rfl) (by omega),⟨2,by kernel_rfl,rfl,rfl⟩⟩
 ·cases h;exact ⟨Bw (b:=24) (by kernel_rfl) (by omega),⟨25,by kernel_rfl,rfl,rfl⟩⟩
 ·cases h;exact ⟨Bw (b:=24) (by kernel_rfl) (by omega),⟨22,by kernel_rfl,rfl,rfl⟩⟩
 ·cases h;exact ⟨Bw (b:=56) (by kernel_rfl) (by omega),⟨fieldsOf Try.prog 179,by kernel_rfl⟩⟩
 ·cases h
theorem LK: ∀t te,Tv.elem t=some te->Try.prog.underlying t=some (.slice te):=by
 intro t te h
 simp only [Tv] at h
 split at h
 ·cases h;kernel_rfl
 ·cases h;kernel_rfl
 ·cases h;kernel_rfl
 ·cases h
theorem PX: ∀s f o t,Tv.off s f=some (o,t)-> ∃(fs:Array Field) (fd:Field),Try.prog.underlying s=some (.struct fs)/\fs[f]?=some fd/\fd.offset=o/\fd.type=t/\ ∃i:TypeInfo,Try.prog.info? t=some i/\i.size≠0:=by
 intro s f o t h
 simp only [Tv] at h
 split at h
 ·cases h;exact Ds (by kernel_rfl) (by kernel_rfl) (by kernel_rfl)
 ·cases h;exact Ds (by kernel_rfl) (by kernel_rfl) (by kernel_rfl)
 ·cases h;exact Ds (by kernel_rfl) (by kernel_rfl) (by kernel_rfl)
 ·cases h
theorem LL: ∀t τ,Tv.ty t=some τ->τ.Ac=true-> ∃(fs:Array Field) (Gz:Array (Nat×Nat)),Try.prog.underlying t=some (.struct fs)/\(∀w,(placesOf fs).run Try.prog w= .ok Gz w)/\
  ∀f o u ρ,Tv.off t f=some (o,u)->Tv.ty u=some ρ->Gz[f]?=some (o,ρ.size):=by
 intro t τ h hs
 have all: ∀t,∀f o u ρ,Tv.off t f=some (o,u)->Tv.ty u=some ρ->(Lt t)[f]?=some (o,ρ.size):=by
  intro t f o u ρ ho hu
  simp only [Tv] at ho
  split at ho
  all_goals first
   |(cases ho;cases hu;rfl)
   |cases ho
 simp only [Tv] at h
 split at h
 ·cases h;simp [Ty.Ac] at hs
 ·cases h;simp [Ty.Ac] at hs
 ·cases h;simp [Ty.Ac] at hs
 ·cases h;simp [Ty.Ac] at hs
 ·cases h;simp [Ty.Ac] at hs
 ·cases h;simp [Ty.Ac] at hs
 ·cases h;exact ⟨fieldsOf Try.prog 179,Lt 179,by kernel_rfl,(λw=>by kernel_rfl),all _⟩
 ·cases h
theorem jX:Ca Try.prog Tv:=⟨LL,WG,LK,(λt v h=>by cases h),PX⟩
def LM (l:List Nat):Tab:= {Tv with marks:=l}
theorem PW (l:List Nat):Ca Try.prog (LM l):=jX.ka l
end Go.Proofs.Ytjbdmibbbpdnnaa
