/-
  Part 45 of the proof that the statement FnSubgroups holds.
-/
import Derived.Test.YtkkdpknjohcekaaCFSubgroups43
namespace Go.Proofs.Ytkkdpknjohcekaa
open Go.RowKit
def Tz:Tab where
 ty:= λt=>match t with
  |2=>some tI
  |3=>some tI
  |4=>some .bool
  |31=>some tO
  |27=>some tLO
  |187=>some (.slice tLO)
  |189=>some df
  |_=>none
 elem:= λt=>match t with
  |31=>some 2
  |27=>some 31
  |187=>some 27
  |_=>none
 mapOf:= λ_=>none
 off:= λs f=>match s,f with
  |189,0=>some (0,2)
  |189,1=>some (1,187)
  |189,2=>some (2,187)
  |_,_=>none
 sl:=true
 yC:=false
 ZG:= [27]
theorem Al8: ∀t τ,Tz.ty t=some τ->nk Try.prog Tz t τ:=by
 intro t τ h
 simp only [Tz] at h
 split at h
 ·cases h;exact ⟨Dm (b:=8) (by kernel_rfl) (by omega),(by kernel_rfl:Try.prog.underlying 2=some (.int .i64))⟩
 ·cases h;exact ⟨Dm (b:=8) (by kernel_rfl) (by omega),(by kernel_rfl:Try.prog.underlying 3=some (.int .i64))⟩
 ·cases h;exact ⟨Dm (b:=1) (by kernel_rfl) (by omega),(by kernel_rfl:Try.prog.underlying 4=some (.bool))⟩
 ·cases h;exact ⟨Dm (b:=24) (by kernel_rfl) (by omega),⟨2,by kernel_rfl,rfl,rfl⟩⟩
 ·cases h;exact ⟨Dm (b:=24) (by kernel_rfl) (by omega),⟨31,by kernel_rfl,rfl,rfl⟩⟩
 ·cases h;exact ⟨Dm (b:=24) (by kernel_rfl) (by omega),⟨27,by kernel_rfl,rfl,rfl⟩⟩
 ·cases h;exact ⟨Dm (b:=56) (by kernel_rfl) (by omega),⟨fieldsOf Try.prog 189,by kernel_rfl⟩⟩
 ·cases h
theorem Ack: ∀t te,Tz.elem t=some te->Try.prog.underlying t=some (.slice te):=by
 intro t te h
 simp only [Tz] at h
 split at h
 ·cases h;kernel_rfl
 ·cases h;kernel_rfl
 ·cases h;kernel_rfl
 ·cases h
theorem Agf: ∀s f o t,Tz.off s f=some (o,t)-> ∃(fs:Array Field) (fd:Field),Try.prog.underlying s=some (.struct fs)/\fs[f]?=some fd/\fd.offset=o/\fd.type=t/\ ∃i:TypeInfo,Try.prog.info? t=some i/\i.size≠0:=by
 intro s f o t h
 simp only [Tz] at h
 split at h
 ·cases h;exact Gp (by kernel_rfl) (by kernel_rfl) (by kernel_rfl)
 ·cases h;exact Gp (by kernel_rfl) (by kernel_rfl) (by kernel_rfl)
 ·cases h;exact Gp (by kernel_rfl) (by kernel_rfl) (by kernel_rfl)
 ·cases h
theorem Acl: ∀t τ,Tz.ty t=some τ->τ.Ap=true-> ∃(fs:Array Field) (Kj:Array (Nat×Nat)),Try.prog.underlying t=some (.struct fs)/\(∀w,(placesOf fs).run Try.prog w= .ok Kj w)/\
  ∀f o u ρ,Tz.off t f=some (o,u)->Tz.ty u=some ρ->Kj[f]?=some (o,ρ.size):=by
 intro t τ h hs
 have all: ∀t,∀f o u ρ,Tz.off t f=some (o,u)->Tz.ty u=some ρ->(Ob t)[f]?=some (o,ρ.size):=by
  intro t f o u ρ ho hu
  simp only [Tz] at ho
  split at ho
  all_goals first
   |(cases ho;cases hu;rfl)
   |cases ho
 simp only [Tz] at h
 split at h
 ·cases h;simp [Ty.Ap] at hs
 ·cases h;simp [Ty.Ap] at hs
 ·cases h;simp [Ty.Ap] at hs
 ·cases h;simp [Ty.Ap] at hs
 ·cases h;simp [Ty.Ap] at hs
 ·cases h;simp [Ty.Ap] at hs
 ·cases h;exact ⟨fieldsOf Try.prog 189,Ob 189,by kernel_rfl,(λw=>by kernel_rfl),all _⟩
 ·cases h
theorem gk:Ef Try.prog Tz:=⟨Acl,Al8,Ack,(λt v h=>by cases h),Agf⟩
def Acm (l:List Nat):Tab:= {Tz with marks:=l}
theorem Age (l:List Nat):Ef Try.prog (Acm l):=gk.qt l
end Go.Proofs.Ytkkdpknjohcekaa
