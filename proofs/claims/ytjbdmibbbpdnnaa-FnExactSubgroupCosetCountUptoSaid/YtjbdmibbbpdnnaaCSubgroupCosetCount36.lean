/-
  Part 37 of the proof that the statement FnExactSubgroupCosetCount holds.
-/
import Derived.Test.YtjbdmibbbpdnnaaCSubgroupCosetCount35
namespace Go.Proofs.Ytjbdmibbbpdnnaa
open Go.RowKit
abbrev tO:Ty:= .oslice tI
abbrev NF:Ty:= .slice tO
abbrev qw:Ty:= .pair tI (.pair (.slice NF) (.pair (.slice NF) .unit))
def Rx:Tab where
 ty:= λt=>match t with
  |2=>some tI
  |3=>some tI
  |4=>some .bool
  |25=>some tO
  |22=>some NF
  |177=>some (.slice NF)
  |179=>some qw
  |_=>none
 elem:= λt=>match t with
  |25=>some 2
  |22=>some 25
  |177=>some 22
  |_=>none
 mapOf:= λ_=>none
 off:= λs f=>match s,f with
  |179,0=>some (0,2)
  |179,1=>some (1,177)
  |179,2=>some (2,177)
  |_,_=>none
 lX:=true
 qR:=false
 GQ:= [22]
theorem LX: ∀t τ,Rx.ty t=some τ->j5 Try.prog Rx t τ:=by
 intro t τ h
 simp only [Rx] at h
 split at h
 ·cases h;exact ⟨Cc (b:=8) (by kernel_rfl) (by omega),(by kernel_rfl:Try.prog.underlying 2=some (.int .i64))⟩
 ·cases h;exact ⟨Cc (b:=8) (by kernel_rfl) (by omega),(by kernel_rfl:Try.prog.underlying 3=some (.int .i64))⟩
 ·cases h;exact ⟨Cc (b:=1) (by kernel_rfl) (by omega),(by kernel_rfl:Try.prog.underlying 4=some (.bool))⟩
 ·cases h;exact ⟨Cc (b:=24) (by kernel_rfl) (by omega),⟨2,by kernel_rfl,rfl,rfl⟩⟩
 ·cases h;exact ⟨Cc (b:=24) (by kernel_rfl) (by omega),⟨25,by kernel_rfl,rfl,rfl⟩⟩
 ·cases h;exact ⟨Cc (b:=24) (by kernel_rfl) (by omega),⟨22,by kernel_rfl,rfl,rfl⟩⟩
 ·cases h;exact ⟨Cc (b:=56) (by kernel_rfl) (by omega),⟨fieldsOf Try.prog 179,by kernel_rfl⟩⟩
 ·cases h
theorem CN: ∀t te,Rx.elem t=some te->Try.prog.underlying t=some (.slice te):=by
 intro t te h
 simp only [Rx] at h
 split at h
 ·cases h;kernel_rfl
 ·cases h;kernel_rfl
 ·cases h;kernel_rfl
 ·cases h
theorem FY: ∀s f o t,Rx.off s f=some (o,t)-> ∃(fs:Array Field) (fd:Field),Try.prog.underlying s=some (.struct fs)/\fs[f]?=some fd/\fd.offset=o/\fd.type=t/\ ∃i:TypeInfo,Try.prog.info? t=some i/\i.size≠0:=by
 intro s f o t h
 simp only [Rx] at h
 split at h
 ·cases h;exact Db (by kernel_rfl) (by kernel_rfl) (by kernel_rfl)
 ·cases h;exact Db (by kernel_rfl) (by kernel_rfl) (by kernel_rfl)
 ·cases h;exact Db (by kernel_rfl) (by kernel_rfl) (by kernel_rfl)
 ·cases h
theorem CO: ∀t τ,Rx.ty t=some τ->τ.Ab=true-> ∃(fs:Array Field) (Hu:Array (Nat×Nat)),Try.prog.underlying t=some (.struct fs)/\(∀w,(placesOf fs).run Try.prog w= .ok Hu w)/\
  ∀f o u ρ,Rx.off t f=some (o,u)->Rx.ty u=some ρ->Hu[f]?=some (o,ρ.size):=by
 intro t τ h hs
 have all: ∀t,∀f o u ρ,Rx.off t f=some (o,u)->Rx.ty u=some ρ->(Kt t)[f]?=some (o,ρ.size):=by
  intro t f o u ρ ho hu
  simp only [Rx] at ho
  split at ho
  all_goals first
   |(cases ho;cases hu;rfl)
   |cases ho
 simp only [Rx] at h
 split at h
 ·cases h;simp [Ty.Ab] at hs
 ·cases h;simp [Ty.Ab] at hs
 ·cases h;simp [Ty.Ab] at hs
 ·cases h;simp [Ty.Ab] at hs
 ·cases h;simp [Ty.Ab] at hs
 ·cases h;simp [Ty.Ab] at hs
 ·cases h;exact ⟨fieldsOf Try.prog 179,Kt 179,by kernel_rfl,(λw=>by kernel_rfl),all _⟩
 ·cases h
theorem hY:Bt Try.prog Rx:=⟨CO,LX,CN,(λt v h=>by cases h),FY⟩
def CP (l:List Nat):Tab:= {Rx with marks:=l}
theorem FX (l:List Nat):Bt Try.prog (CP l):=hY.oz l
end Go.Proofs.Ytjbdmibbbpdnnaa
