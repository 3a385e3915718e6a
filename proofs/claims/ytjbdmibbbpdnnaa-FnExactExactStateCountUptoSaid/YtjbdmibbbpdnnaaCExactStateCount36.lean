/-
  Part 37 of the proof that the statement FnExactExactStateCount holds.
-/
import Derived.Test.YtjbdmibbbpdnnaaCExactStateCount35
namespace Go.Proofs.Ytjbdmibbbpdnnaa
open Go.RowKit
abbrev tO:Ty:= .oslice tI
abbrev VD:Ty:= .slice tO
abbrev tq:Ty:= .pair tI (.pair (.slice VD) (.pair (.slice VD) .unit))
def To:Tab where
 ty:= λt=>match t with
  |2=>some tI
  |3=>some tI
  |4=>some .bool
  |25=>some tO
  |22=>some VD
  |177=>some (.slice VD)
  |179=>some tq
  |_=>none
 elem:= λt=>match t with
  |25=>some 2
  |22=>some 25
  |177=>some 22
  |_=>none
 mapOf:= λ_=>none
 off:= λs f=>match s,f with
  |179,0=>some (0,2)
  |179,1=>some (1,177)
  |179,2=>some (2,177)
  |_,_=>none
 og:=true
 tU:=false
 OJ:= [22]
theorem TR: ∀t τ,To.ty t=some τ->kz Try.prog To t τ:=by
 intro t τ h
 simp only [To] at h
 split at h
 ·cases h;exact ⟨Ch (b:=8) (by kernel_rfl) (by omega),(by kernel_rfl:Try.prog.underlying 2=some (.int .i64))⟩
 ·cases h;exact ⟨Ch (b:=8) (by kernel_rfl) (by omega),(by kernel_rfl:Try.prog.underlying 3=some (.int .i64))⟩
 ·cases h;exact ⟨Ch (b:=1) (by kernel_rfl) (by omega),(by kernel_rfl:Try.prog.underlying 4=some (.bool))⟩
 ·cases h;exact ⟨Ch (b:=24) (by kernel_rfl) (by omega),⟨2,by kernel_rfl,rfl,rfl⟩⟩
 ·cases h;exact ⟨Ch (b:=24) (by kernel_rfl) (by omega),⟨25,by kernel_rfl,rfl,rfl⟩⟩
 ·cases h;exact ⟨Ch (b:=24) (by kernel_rfl) (by omega),⟨22,by kernel_rfl,rfl,rfl⟩⟩
 ·cases h;exact ⟨Ch (b:=56) (by kernel_rfl) (by omega),⟨fieldsOf Try.prog 179,by kernel_rfl⟩⟩
 ·cases h
theorem JY: ∀t te,To.elem t=some te->Try.prog.underlying t=some (.slice te):=by
 intro t te h
 simp only [To] at h
 split at h
 ·cases h;kernel_rfl
 ·cases h;kernel_rfl
 ·cases h;kernel_rfl
 ·cases h
theorem NQ: ∀s f o t,To.off s f=some (o,t)-> ∃(fs:Array Field) (fd:Field),Try.prog.underlying s=some (.struct fs)/\fs[f]?=some fd/\fd.offset=o/\fd.type=t/\ ∃i:TypeInfo,Try.prog.info? t=some i/\i.size≠0:=by
 intro s f o t h
 simp only [To] at h
 split at h
 ·cases h;exact Dr (by kernel_rfl) (by kernel_rfl) (by kernel_rfl)
 ·cases h;exact Dr (by kernel_rfl) (by kernel_rfl) (by kernel_rfl)
 ·cases h;exact Dr (by kernel_rfl) (by kernel_rfl) (by kernel_rfl)
 ·cases h
theorem JZ: ∀t τ,To.ty t=some τ->τ.Ac=true-> ∃(fs:Array Field) (Iq:Array (Nat×Nat)),Try.prog.underlying t=some (.struct fs)/\(∀w,(placesOf fs).run Try.prog w= .ok Iq w)/\
  ∀f o u ρ,To.off t f=some (o,u)->To.ty u=some ρ->Iq[f]?=some (o,ρ.size):=by
 intro t τ h hs
 have all: ∀t,∀f o u ρ,To.off t f=some (o,u)->To.ty u=some ρ->(Lx t)[f]?=some (o,ρ.size):=by
  intro t f o u ρ ho hu
  simp only [To] at ho
  split at ho
  all_goals first
   |(cases ho;cases hu;rfl)
   |cases ho
 simp only [To] at h
 split at h
 ·cases h;simp [Ty.Ac] at hs
 ·cases h;simp [Ty.Ac] at hs
 ·cases h;simp [Ty.Ac] at hs
 ·cases h;simp [Ty.Ac] at hs
 ·cases h;simp [Ty.Ac] at hs
 ·cases h;simp [Ty.Ac] at hs
 ·cases h;exact ⟨fieldsOf Try.prog 179,Lx 179,by kernel_rfl,(λw=>by kernel_rfl),all _⟩
 ·cases h
theorem jo:Bz Try.prog To:=⟨JZ,TR,JY,(λt v h=>by cases h),NQ⟩
def KA (l:List Nat):Tab:= {To with marks:=l}
theorem NP (l:List Nat):Bz Try.prog (KA l):=jo.jr l
end Go.Proofs.Ytjbdmibbbpdnnaa
