/-
  Part 37 of the proof that the statement FnExactStageWord holds.
-/
import Derived.Test.YtjbdmibbbpdnnaaCStageWord35
namespace Go.Proofs.Ytjbdmibbbpdnnaa
open Go.RowKit
abbrev tO:Ty:= .oslice tI
abbrev XG:Ty:= .slice tO
abbrev tq:Ty:= .pair tI (.pair (.slice XG) (.pair (.slice XG) .unit))
def Tn:Tab where
 ty:= λt=>match t with
  |2=>some tI
  |3=>some tI
  |4=>some .bool
  |25=>some tO
  |22=>some XG
  |177=>some (.slice XG)
  |179=>some tq
  |_=>none
 elem:= λt=>match t with
  |25=>some 2
  |22=>some 25
  |177=>some 22
  |_=>none
 mapOf:= λ_=>none
 off:= λs f=>match s,f with
  |179,0=>some (0,2)
  |179,1=>some (1,177)
  |179,2=>some (2,177)
  |_,_=>none
 me:=true
 tw:=false
 QJ:= [22]
theorem VN: ∀t τ,Tn.ty t=some τ->iE Try.prog Tn t τ:=by
 intro t τ h
 simp only [Tn] at h
 split at h
 ·cases h;exact ⟨Bu (b:=8) (by kernel_rfl) (by omega),(by kernel_rfl:Try.prog.underlying 2=some (.int .i64))⟩
 ·cases h;exact ⟨Bu (b:=8) (by kernel_rfl) (by omega),(by kernel_rfl:Try.prog.underlying 3=some (.int .i64))⟩
 ·cases h;exact ⟨Bu (b:=1) (by kernel_rfl) (by omega),(by kernel_rfl:Try.prog.underlying 4=some (.bool))⟩
 ·cases h;exact ⟨Bu (b:=24) (by kernel_rfl) (by omega),⟨2,by kernel_rfl,rfl,rfl⟩⟩
 ·cases h;exact ⟨Bu (b:=24) (by kernel_rfl) (by omega),⟨25,by kernel_rfl,rfl,rfl⟩⟩
 ·cases h;exact ⟨Bu (b:=24) (by kernel_rfl) (by omega),⟨22,by kernel_rfl,rfl,rfl⟩⟩
 ·cases h;exact ⟨Bu (b:=56) (by kernel_rfl) (by omega),⟨fieldsOf Try.prog 179,by kernel_rfl⟩⟩
 ·cases h
theorem KQ: ∀t te,Tn.elem t=some te->Try.prog.underlying t=some (.slice te):=by
 intro t te h
 simp only [Tn] at h
 split at h
 ·cases h;kernel_rfl
 ·cases h;kernel_rfl
 ·cases h;kernel_rfl
 ·cases h
theorem PI: ∀s f o t,Tn.off s f=some (o,t)-> ∃(fs:Array Field) (fd:Field),Try.prog.underlying s=some (.struct fs)/\fs[f]?=some fd/\fd.offset=o/\fd.type=t/\ ∃i:TypeInfo,Try.prog.info? t=some i/\i.size≠0:=by
 intro s f o t h
 simp only [Tn] at h
 split at h
 ·cases h;exact Ds (by kernel_rfl) (by kernel_rfl) (by kernel_rfl)
 ·cases h;exact Ds (by kernel_rfl) (by kernel_rfl) (by kernel_rfl)
 ·cases h;exact Ds (by kernel_rfl) (by kernel_rfl) (by kernel_rfl)
 ·cases h
theorem KR: ∀t τ,Tn.ty t=some τ->τ.Ab=true-> ∃(fs:Array Field) (Gx:Array (Nat×Nat)),Try.prog.underlying t=some (.struct fs)/\(∀w,(placesOf fs).run Try.prog w= .ok Gx w)/\
  ∀f o u ρ,Tn.off t f=some (o,u)->Tn.ty u=some ρ->Gx[f]?=some (o,ρ.size):=by
 intro t τ h hs
 have all: ∀t,∀f o u ρ,Tn.off t f=some (o,u)->Tn.ty u=some ρ->(Ls t)[f]?=some (o,ρ.size):=by
  intro t f o u ρ ho hu
  simp only [Tn] at ho
  split at ho
  all_goals first
   |(cases ho;cases hu;rfl)
   |cases ho
 simp only [Tn] at h
 split at h
 ·cases h;simp [Ty.Ab] at hs
 ·cases h;simp [Ty.Ab] at hs
 ·cases h;simp [Ty.Ab] at hs
 ·cases h;simp [Ty.Ab] at hs
 ·cases h;simp [Ty.Ab] at hs
 ·cases h;simp [Ty.Ab] at hs
 ·cases h;exact ⟨fieldsOf Try.prog 179,Ls 179,by kernel_rfl,(λw=>by kernel_rfl),all _⟩
 ·cases h
theorem jK:Bz Try.prog Tn:=⟨KR,VN,KQ,(λt v h=>by cases h),PI⟩
def KS (l:List Nat):Tab:= {Tn with marks:=l}
theorem PH (l:List Nat):Bz Try.prog (KS l):=jK.jL l
end Go.Proofs.Ytjbdmibbbpdnnaa
