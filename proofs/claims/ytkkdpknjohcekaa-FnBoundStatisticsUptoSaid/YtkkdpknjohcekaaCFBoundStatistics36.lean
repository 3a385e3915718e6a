/-
  Part 37 of the proof that the statement FnBoundStatistics holds.
-/
import Derived.Test.YtkkdpknjohcekaaCFBoundStatistics35
namespace Go.Proofs.Ytkkdpknjohcekaa
open Go.RowKit
abbrev tO:Ty:= .oslice tI
abbrev tLO:Ty:= .slice tO
abbrev kv:Ty:= .pair tI (.pair (.slice tLO) (.pair (.slice tLO) .unit))
def aY:Tab where
 ty:= λt=>match t with
  |2=>some tI
  |3=>some tI
  |4=>some .bool
  |31=>some tO
  |27=>some tLO
  |187=>some (.slice tLO)
  |198=>some kv
  |_=>none
 elem:= λt=>match t with
  |31=>some 2
  |27=>some 31
  |187=>some 27
  |_=>none
 mapOf:= λ_=>none
 off:= λs f=>match s,f with
  |198,0=>some (0,2)
  |198,1=>some (1,187)
  |198,2=>some (2,187)
  |_,_=>none
 sX:=true
 BH:=false
 XU:= [27]
theorem Ajl: ∀t τ,aY.ty t=some τ->oJ Try.prog aY t τ:=by
 intro t τ h
 simp only [aY] at h
 split at h
 ·cases h;exact ⟨Dq (b:=8) (by kernel_rfl) (by omega),(by kernel_rfl:Try.prog.underlying 2=some (.int .i64))⟩
 ·cases h;exact ⟨Dq (b:=8) (by kernel_rfl) (by omega),(by kernel_rfl:Try.prog.underlying 3=some (.int .i64))⟩
 ·cases h;exact ⟨Dq (b:=1) (by kernel_rfl) (by omega),(by kernel_rfl:Try.prog.underlying 4=some (.bool))⟩
 ·cases h;exact ⟨Dq (b:=24) (by kernel_rfl) (by omega),⟨2,by kernel_rfl,rfl,rfl⟩⟩
 ·cases h;exact ⟨Dq (b:=24) (by kernel_rfl) (by omega),⟨31,by kernel_rfl,rfl,rfl⟩⟩
 ·cases h;exact ⟨Dq (b:=24) (by kernel_rfl) (by omega),⟨27,by kernel_rfl,rfl,rfl⟩⟩
 ·cases h;exact ⟨Dq (b:=56) (by kernel_rfl) (by omega),⟨fieldsOf Try.prog 198,by kernel_rfl⟩⟩
 ·cases h
theorem Abb: ∀t te,aY.elem t=some te->Try.prog.underlying t=some (.slice te):=by
 intro t te h
 simp only [aY] at h
 split at h
 ·cases h;kernel_rfl
 ·cases h;kernel_rfl
 ·cases h;kernel_rfl
 ·cases h
theorem Aeq: ∀s f o t,aY.off s f=some (o,t)-> ∃(fs:Array Field) (fd:Field),Try.prog.underlying s=some (.struct fs)/\fs[f]?=some fd/\fd.offset=o/\fd.type=t/\ ∃i:TypeInfo,Try.prog.info? t=some i/\i.size≠0:=by
 intro s f o t h
 simp only [aY] at h
 split at h
 ·cases h;exact Gm (by kernel_rfl) (by kernel_rfl) (by kernel_rfl)
 ·cases h;exact Gm (by kernel_rfl) (by kernel_rfl) (by kernel_rfl)
 ·cases h;exact Gm (by kernel_rfl) (by kernel_rfl) (by kernel_rfl)
 ·cases h
theorem Abc: ∀t τ,aY.ty t=some τ->τ.Ao=true-> ∃(fs:Array Field) (Lz:Array (Nat×Nat)),Try.prog.underlying t=some (.struct fs)/\(∀w,(placesOf fs).run Try.prog w= .ok Lz w)/\
  ∀f o u ρ,aY.off t f=some (o,u)->aY.ty u=some ρ->Lz[f]?=some (o,ρ.size):=by
 intro t τ h hs
 have all: ∀t,∀f o u ρ,aY.off t f=some (o,u)->aY.ty u=some ρ->(Oq t)[f]?=some (o,ρ.size):=by
  intro t f o u ρ ho hu
  simp only [aY] at ho
  split at ho
  all_goals first
   |(cases ho;cases hu;rfl)
   |cases ho
 simp only [aY] at h
 split at h
 ·cases h;simp [Ty.Ao] at hs
 ·cases h;simp [Ty.Ao] at hs
 ·cases h;simp [Ty.Ao] at hs
 ·cases h;simp [Ty.Ao] at hs
 ·cases h;simp [Ty.Ao] at hs
 ·cases h;simp [Ty.Ao] at hs
 ·cases h;exact ⟨fieldsOf Try.prog 198,Oq 198,by kernel_rfl,(λw=>by kernel_rfl),all _⟩
 ·cases h
theorem pU:Dz Try.prog aY:=⟨Abc,Ajl,Abb,(λt v h=>by cases h),Aeq⟩
def Abd (l:List Nat):Tab:= {aY with marks:=l}
theorem Aep (l:List Nat):Dz Try.prog (Abd l):=pU.kA l
end Go.Proofs.Ytkkdpknjohcekaa
