/-
  Part 37 of the proof that the statement FnStateClasses holds.
-/
import Derived.Test.YtkkdpknjohcekaaCFStateClasses35
namespace Go.Proofs.Ytkkdpknjohcekaa
open Go.RowKit
abbrev tO:Ty:= .oslice tI
abbrev tLO:Ty:= .slice tO
abbrev yE:Ty:= .pair tI (.pair (.slice tLO) (.pair (.slice tLO) .unit))
def ab:Tab where
 ty:= λt=>match t with
  |2=>some tI
  |3=>some tI
  |4=>some .bool
  |31=>some tO
  |27=>some tLO
  |187=>some (.slice tLO)
  |198=>some yE
  |_=>none
 elem:= λt=>match t with
  |31=>some 2
  |27=>some 31
  |187=>some 27
  |_=>none
 mapOf:= λ_=>none
 off:= λs f=>match s,f with
  |198,0=>some (0,2)
  |198,1=>some (1,187)
  |198,2=>some (2,187)
  |_,_=>none
 sS:=true
 z8:=false
 Aal:= [27]
theorem Aem: ∀t τ,ab.ty t=some τ->p7 Try.prog ab t τ:=by
 intro t τ h
 simp only [ab] at h
 split at h
 ·cases h;exact ⟨Em (b:=8) (by kernel_rfl) (by omega),(by kernel_rfl:Try.prog.underlying 2=some (.int .i64))⟩
 ·cases h;exact ⟨Em (b:=8) (by kernel_rfl) (by omega),(by kernel_rfl:Try.prog.underlying 3=some (.int .i64))⟩
 ·cases h;exact ⟨Em (b:=1) (by kernel_rfl) (by omega),(by kernel_rfl:Try.prog.underlying 4=some (.bool))⟩
 ·cases h;exact ⟨Em (b:=24) (by kernel_rfl) (by omega),⟨2,by kernel_rfl,rfl,rfl⟩⟩
 ·cases h;exact ⟨Em (b:=24) (by kernel_rfl) (by omega),⟨31,by kernel_rfl,rfl,rfl⟩⟩
 ·cases h;exact ⟨Em (b:=24) (by kernel_rfl) (by omega),⟨27,by kernel_rfl,rfl,rfl⟩⟩
 ·cases h;exact ⟨Em (b:=56) (by kernel_rfl) (by omega),⟨fieldsOf Try.prog 198,by kernel_rfl⟩⟩
 ·cases h
theorem VY: ∀t te,ab.elem t=some te->Try.prog.underlying t=some (.slice te):=by
 intro t te h
 simp only [ab] at h
 split at h
 ·cases h;kernel_rfl
 ·cases h;kernel_rfl
 ·cases h;kernel_rfl
 ·cases h
theorem Aa2: ∀s f o t,ab.off s f=some (o,t)-> ∃(fs:Array Field) (fd:Field),Try.prog.underlying s=some (.struct fs)/\fs[f]?=some fd/\fd.offset=o/\fd.type=t/\ ∃i:TypeInfo,Try.prog.info? t=some i/\i.size≠0:=by
 intro s f o t h
 simp only [ab] at h
 split at h
 ·cases h;exact Gl (by kernel_rfl) (by kernel_rfl) (by kernel_rfl)
 ·cases h;exact Gl (by kernel_rfl) (by kernel_rfl) (by kernel_rfl)
 ·cases h;exact Gl (by kernel_rfl) (by kernel_rfl) (by kernel_rfl)
 ·cases h
theorem VZ: ∀t τ,ab.ty t=some τ->τ.Ap=true-> ∃(fs:Array Field) (Nv:Array (Nat×Nat)),Try.prog.underlying t=some (.struct fs)/\(∀w,(placesOf fs).run Try.prog w= .ok Nv w)/\
  ∀f o u ρ,ab.off t f=some (o,u)->ab.ty u=some ρ->Nv[f]?=some (o,ρ.size):=by
 intro t τ h hs
 have all: ∀t,∀f o u ρ,ab.off t f=some (o,u)->ab.ty u=some ρ->(Qn t)[f]?=some (o,ρ.size):=by
  intro t f o u ρ ho hu
  simp only [ab] at ho
  split at ho
  all_goals first
   |(cases ho;cases hu;rfl)
   |cases ho
 simp only [ab] at h
 split at h
 ·cases h;simp [Ty.Ap] at hs
 ·cases h;simp [Ty.Ap] at hs
 ·cases h;simp [Ty.Ap] at hs
 ·cases h;simp [Ty.Ap] at hs
 ·cases h;simp [Ty.Ap] at hs
 ·cases h;simp [Ty.Ap] at hs
 ·cases h;exact ⟨fieldsOf Try.prog 198,Qn 198,by kernel_rfl,(λw=>by kernel_rfl),all _⟩
 ·cases h
theorem nU:Dn Try.prog ab:=⟨VZ,Aem,VY,(λt v h=>by cases h),Aa2⟩
def WA (l:List Nat):Tab:= {ab with marks:=l}
theorem Aa1 (l:List Nat):Dn Try.prog (WA l):=nU.nX l
end Go.Proofs.Ytkkdpknjohcekaa
