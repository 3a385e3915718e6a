/-
  Part 37 of the proof that the statement FnSubgroups holds.
-/
import Derived.Test.YtkkdpknjohcekaaCFSubgroups35
namespace Go.Proofs.Ytkkdpknjohcekaa
open Go.RowKit
abbrev tO:Ty:= .oslice tI
abbrev tLO:Ty:= .slice tO
abbrev df:Ty:= .pair tI (.pair (.slice tLO) (.pair (.slice tLO) .unit))
def aY:Tab where
 ty:= λt=>match t with
  |2=>some tI
  |3=>some tI
  |4=>some .bool
  |31=>some tO
  |27=>some tLO
  |187=>some (.slice tLO)
  |198=>some df
  |_=>none
 elem:= λt=>match t with
  |31=>some 2
  |27=>some 31
  |187=>some 27
  |_=>none
 mapOf:= λ_=>none
 off:= λs f=>match s,f with
  |198,0=>some (0,2)
  |198,1=>some (1,187)
  |198,2=>some (2,187)
  |_,_=>none
 sl:=true
 yC:=false
 ZG:= [27]
theorem Al6: ∀t τ,aY.ty t=some τ->nk Try.prog aY t τ:=by
 intro t τ h
 simp only [aY] at h
 split at h
 ·cases h;exact ⟨Dm (b:=8) (by kernel_rfl) (by omega),(by kernel_rfl:Try.prog.underlying 2=some (.int .i64))⟩
 ·cases h;exact ⟨Dm (b:=8) (by kernel_rfl) (by omega),(by kernel_rfl:Try.prog.underlying 3=some (.int .i64))⟩
 ·cases h;exact ⟨Dm (b:=1) (by kernel_rfl) (by omega),(by kernel_rfl:Try.prog.underlying 4=some (.bool))⟩
 ·cases h;exact ⟨Dm (b:=24) (by kernel_rfl) (by omega),⟨2,by kernel_rfl,rfl,rfl⟩⟩
 ·cases h;exact ⟨Dm (b:=24) (by kernel_rfl) (by omega),⟨31,by kernel_rfl,rfl,rfl⟩⟩
 ·cases h;exact ⟨Dm (b:=24) (by kernel_rfl) (by omega),⟨27,by kernel_rfl,rfl,rfl⟩⟩
 ·cases h;exact ⟨Dm (b:=56) (by kernel_rfl) (by omega),⟨fieldsOf Try.prog 198,by kernel_rfl⟩⟩
 ·cases h
theorem Ach: ∀t te,aY.elem t=some te->Try.prog.underlying t=some (.slice te):=by
 intro t te h
 simp only [aY] at h
 split at h
 ·cases h;kernel_rfl
 ·cases h;kernel_rfl
 ·cases h;kernel_rfl
 ·cases h
theorem Agd: ∀s f o t,aY.off s f=some (o,t)-> ∃(fs:Array Field) (fd:Field),Try.prog.underlying s=some (.struct fs)/\fs[f]?=some fd/\fd.offset=o/\fd.type=t/\ ∃i:TypeInfo,Try.prog.info? t=some i/\i.size≠0:=by
 intro s f o t h
 simp only [aY] at h
 split at h
 ·cases h;exact Gp (by kernel_rfl) (by kernel_rfl) (by kernel_rfl)
 ·cases h;exact Gp (by kernel_rfl) (by kernel_rfl) (by kernel_rfl)
 ·cases h;exact Gp (by kernel_rfl) (by kernel_rfl) (by kernel_rfl)
 ·cases h
theorem Aci: ∀t τ,aY.ty t=some τ->τ.Ap=true-> ∃(fs:Array Field) (Kj:Array (Nat×Nat)),Try.prog.underlying t=some (.struct fs)/\(∀w,(placesOf fs).run Try.prog w= .ok Kj w)/\
  ∀f o u ρ,aY.off t f=some (o,u)->aY.ty u=some ρ->Kj[f]?=some (o,ρ.size):=by
 intro t τ h hs
 have all: ∀t,∀f o u ρ,aY.off t f=some (o,u)->aY.ty u=some ρ->(Ob t)[f]?=some (o,ρ.size):=by
  intro t f o u ρ ho hu
  simp only [aY] at ho
  split at ho
  all_goals first
   |(cases ho;cases hu;rfl)
   |cases ho
 simp only [aY] at h
 split at h
 ·cases h;simp [Ty.Ap] at hs
 ·cases h;simp [Ty.Ap] at hs
 ·cases h;simp [Ty.Ap] at hs
 ·cases h;simp [Ty.Ap] at hs
 ·cases h;simp [Ty.Ap] at hs
 ·cases h;simp [Ty.Ap] at hs
 ·cases h;exact ⟨fieldsOf Try.prog 198,Ob 198,by kernel_rfl,(λw=>by kernel_rfl),all _⟩
 ·cases h
theorem qn:Ef Try.prog aY:=⟨Aci,Al6,Ach,(λt v h=>by cases h),Agd⟩
def Acj (l:List Nat):Tab:= {aY with marks:=l}
theorem Agc (l:List Nat):Ef Try.prog (Acj l):=qn.qt l
end Go.Proofs.Ytkkdpknjohcekaa
