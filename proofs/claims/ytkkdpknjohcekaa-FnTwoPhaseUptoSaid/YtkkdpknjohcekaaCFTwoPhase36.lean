/-
  Part 37 of the proof that the statement FnTwoPhase holds.
-/
import Derived.Test.YtkkdpknjohcekaaCFTwoPhase35
namespace Go.Proofs.Ytkkdpknjohcekaa
open Go.RowKit
abbrev tO:Ty:= .oslice tI
abbrev tLO:Ty:= .slice tO
abbrev BZ:Ty:= .pair tI (.pair (.slice tLO) (.pair (.slice tLO) .unit))
def bh:Tab where
 ty:= λt=>match t with
  |2=>some tI
  |3=>some tI
  |4=>some .bool
  |31=>some tO
  |27=>some tLO
  |187=>some (.slice tLO)
  |198=>some BZ
  |_=>none
 elem:= λt=>match t with
  |31=>some 2
  |27=>some 31
  |187=>some 27
  |_=>none
 mapOf:= λ_=>none
 off:= λs f=>match s,f with
  |198,0=>some (0,2)
  |198,1=>some (1,187)
  |198,2=>some (2,187)
  |_,_=>none
 tb:=true
 CG:=false
 Agl:= [27]
theorem Akx: ∀t τ,bh.ty t=some τ->oR Try.prog bh t τ:=by
 intro t τ h
 simp only [bh] at h
 split at h
 ·cases h;exact ⟨Ek (b:=8) (by kernel_rfl) (by omega),(by kernel_rfl:Try.prog.underlying 2=some (.int .i64))⟩
 ·cases h;exact ⟨Ek (b:=8) (by kernel_rfl) (by omega),(by kernel_rfl:Try.prog.underlying 3=some (.int .i64))⟩
 ·cases h;exact ⟨Ek (b:=1) (by kernel_rfl) (by omega),(by kernel_rfl:Try.prog.underlying 4=some (.bool))⟩
 ·cases h;exact ⟨Ek (b:=24) (by kernel_rfl) (by omega),⟨2,by kernel_rfl,rfl,rfl⟩⟩
 ·cases h;exact ⟨Ek (b:=24) (by kernel_rfl) (by omega),⟨31,by kernel_rfl,rfl,rfl⟩⟩
 ·cases h;exact ⟨Ek (b:=24) (by kernel_rfl) (by omega),⟨27,by kernel_rfl,rfl,rfl⟩⟩
 ·cases h;exact ⟨Ek (b:=56) (by kernel_rfl) (by omega),⟨fieldsOf Try.prog 198,by kernel_rfl⟩⟩
 ·cases h
theorem Ac8: ∀t te,bh.elem t=some te->Try.prog.underlying t=some (.slice te):=by
 intro t te h
 simp only [bh] at h
 split at h
 ·cases h;kernel_rfl
 ·cases h;kernel_rfl
 ·cases h;kernel_rfl
 ·cases h
theorem Afz: ∀s f o t,bh.off s f=some (o,t)-> ∃(fs:Array Field) (fd:Field),Try.prog.underlying s=some (.struct fs)/\fs[f]?=some fd/\fd.offset=o/\fd.type=t/\ ∃i:TypeInfo,Try.prog.info? t=some i/\i.size≠0:=by
 intro s f o t h
 simp only [bh] at h
 split at h
 ·cases h;exact Hk (by kernel_rfl) (by kernel_rfl) (by kernel_rfl)
 ·cases h;exact Hk (by kernel_rfl) (by kernel_rfl) (by kernel_rfl)
 ·cases h;exact Hk (by kernel_rfl) (by kernel_rfl) (by kernel_rfl)
 ·cases h
theorem Ac9: ∀t τ,bh.ty t=some τ->τ.Ar=true-> ∃(fs:Array Field) (Mk:Array (Nat×Nat)),Try.prog.underlying t=some (.struct fs)/\(∀w,(placesOf fs).run Try.prog w= .ok Mk w)/\
  ∀f o u ρ,bh.off t f=some (o,u)->bh.ty u=some ρ->Mk[f]?=some (o,ρ.size):=by
 intro t τ h hs
 have all: ∀t,∀f o u ρ,bh.off t f=some (o,u)->bh.ty u=some ρ->(Rk t)[f]?=some (o,ρ.size):=by
  intro t f o u ρ ho hu
  simp only [bh] at ho
  split at ho
  all_goals first
   |(cases ho;cases hu;rfl)
   |cases ho
 simp only [bh] at h
 split at h
 ·cases h;simp [Ty.Ar] at hs
 ·cases h;simp [Ty.Ar] at hs
 ·cases h;simp [Ty.Ar] at hs
 ·cases h;simp [Ty.Ar] at hs
 ·cases h;simp [Ty.Ar] at hs
 ·cases h;simp [Ty.Ar] at hs
 ·cases h;exact ⟨fieldsOf Try.prog 198,Rk 198,by kernel_rfl,(λw=>by kernel_rfl),all _⟩
 ·cases h
theorem q6:Eh Try.prog bh:=⟨Ac9,Akx,Ac8,(λt v h=>by cases h),Afz⟩
def Aca (l:List Nat):Tab:= {bh with marks:=l}
theorem Afy (l:List Nat):Eh Try.prog (Aca l):=q6.qa l
end Go.Proofs.Ytkkdpknjohcekaa
