/-
  Part 37 of the proof that the statement FnExactMethodLength holds.
-/
import Derived.Test.YtjbdmibbbpdnnaaCMethodLength35
namespace Go.Proofs.Ytjbdmibbbpdnnaa
open Go.RowKit
abbrev tO:Ty:= .oslice tI
abbrev ZM:Ty:= .slice tO
abbrev uj:Ty:= .pair tI (.pair (.slice ZM) (.pair (.slice ZM) .unit))
def Ts:Tab where
 ty:= λt=>match t with
  |2=>some tI
  |3=>some tI
  |4=>some .bool
  |25=>some tO
  |22=>some ZM
  |177=>some (.slice ZM)
  |179=>some uj
  |_=>none
 elem:= λt=>match t with
  |25=>some 2
  |22=>some 25
  |177=>some 22
  |_=>none
 mapOf:= λ_=>none
 off:= λs f=>match s,f with
  |179,0=>some (0,2)
  |179,1=>some (1,177)
  |179,2=>some (2,177)
  |_,_=>none
 mK:=true
 ur:=false
 SR:= [22]
theorem YA: ∀t τ,Ts.ty t=some τ->ja Try.prog Ts t τ:=by
 intro t τ h
 simp only [Ts] at h
 split at h
 ·cases h;exact ⟨Bu (b:=8) (by kernel_rfl) (by omega),(by kernel_rfl:Try.prog.underlying 2=some (.int .i64))⟩
 ·cases h;exact ⟨Bu (b:=8) (by kernel_rfl) (by omega),(by kernel_rfl:Try.prog.underlying 3=some (.int .i64))⟩
 ·cases h;exact ⟨Bu (b:=1) (by kernel_rfl) (by omega),(by kernel_rfl:Try.prog.underlying 4=some (.bool))⟩
 ·cases h;exact ⟨Bu (b:=24) (by kernel_rfl) (by omega),⟨2,by kernel_rfl,rfl,rfl⟩⟩
 ·cases h;exact ⟨Bu (b:=24) (by kernel_rfl) (by omega),⟨25,by kernel_rfl,rfl,rfl⟩⟩
 ·cases h;exact ⟨Bu (b:=24) (by kernel_rfl) (by omega),⟨22,by kernel_rfl,rfl,rfl⟩⟩
 ·cases h;exact ⟨Bu (b:=56) (by kernel_rfl) (by omega),⟨fieldsOf Try.prog 179,by kernel_rfl⟩⟩
 ·cases h
theorem MU: ∀t te,Ts.elem t=some te->Try.prog.underlying t=some (.slice te):=by
 intro t te h
 simp only [Ts] at h
 split at h
 ·cases h;kernel_rfl
 ·cases h;kernel_rfl
 ·cases h;kernel_rfl
 ·cases h
theorem RU: ∀s f o t,Ts.off s f=some (o,t)-> ∃(fs:Array Field) (fd:Field),Try.prog.underlying s=some (.struct fs)/\fs[f]?=some fd/\fd.offset=o/\fd.type=t/\ ∃i:TypeInfo,Try.prog.info? t=some i/\i.size≠0:=by
 intro s f o t h
 simp only [Ts] at h
 split at h
 ·cases h;exact Dw (by kernel_rfl) (by kernel_rfl) (by kernel_rfl)
 ·cases h;exact Dw (by kernel_rfl) (by kernel_rfl) (by kernel_rfl)
 ·cases h;exact Dw (by kernel_rfl) (by kernel_rfl) (by kernel_rfl)
 ·cases h
theorem MV: ∀t τ,Ts.ty t=some τ->τ.Ac=true-> ∃(fs:Array Field) (He:Array (Nat×Nat)),Try.prog.underlying t=some (.struct fs)/\(∀w,(placesOf fs).run Try.prog w= .ok He w)/\
  ∀f o u ρ,Ts.off t f=some (o,u)->Ts.ty u=some ρ->He[f]?=some (o,ρ.size):=by
 intro t τ h hs
 have all: ∀t,∀f o u ρ,Ts.off t f=some (o,u)->Ts.ty u=some ρ->(Mb t)[f]?=some (o,ρ.size):=by
  intro t f o u ρ ho hu
  simp only [Ts] at ho
  split at ho
  all_goals first
   |(cases ho;cases hu;rfl)
   |cases ho
 simp only [Ts] at h
 split at h
 ·cases h;simp [Ty.Ac] at hs
 ·cases h;simp [Ty.Ac] at hs
 ·cases h;simp [Ty.Ac] at hs
 ·cases h;simp [Ty.Ac] at hs
 ·cases h;simp [Ty.Ac] at hs
 ·cases h;simp [Ty.Ac] at hs
 ·cases h;exact ⟨fieldsOf Try.prog 179,Mb 179,by kernel_rfl,(λw=>by kernel_rfl),all _⟩
 ·cases h
theorem ko:Cd Try.prog Ts:=⟨MV,YA,MU,(λt v h=>by cases h),RU⟩
def MW (l:List Nat):Tab:= {Ts with marks:=l}
theorem RT (l:List Nat):Cd Try.prog (MW l):=ko.kq l
end Go.Proofs.Ytjbdmibbbpdnnaa
