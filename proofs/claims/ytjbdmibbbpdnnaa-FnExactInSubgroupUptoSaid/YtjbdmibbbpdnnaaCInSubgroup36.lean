/-
  Part 37 of the proof that the statement FnExactInSubgroup holds.
-/
import Derived.Test.YtjbdmibbbpdnnaaCInSubgroup35
namespace Go.Proofs.Ytjbdmibbbpdnnaa
open Go.RowKit
abbrev tO:Ty:= .oslice tI
abbrev OV:Ty:= .slice tO
abbrev qP:Ty:= .pair tI (.pair (.slice OV) (.pair (.slice OV) .unit))
def Sj:Tab where
 ty:= λt=>match t with
  |2=>some tI
  |3=>some tI
  |4=>some .bool
  |25=>some tO
  |22=>some OV
  |177=>some (.slice OV)
  |179=>some qP
  |_=>none
 elem:= λt=>match t with
  |25=>some 2
  |22=>some 25
  |177=>some 22
  |_=>none
 mapOf:= λ_=>none
 off:= λs f=>match s,f with
  |179,0=>some (0,2)
  |179,1=>some (1,177)
  |179,2=>some (2,177)
  |_,_=>none
 mi:=true
 rm:=false
 IF:= [22]
theorem NJ: ∀t τ,Sj.ty t=some τ->jj Try.prog Sj t τ:=by
 intro t τ h
 simp only [Sj] at h
 split at h
 ·cases h;exact ⟨Cd (b:=8) (by kernel_rfl) (by omega),(by kernel_rfl:Try.prog.underlying 2=some (.int .i64))⟩
 ·cases h;exact ⟨Cd (b:=8) (by kernel_rfl) (by omega),(by kernel_rfl:Try.prog.underlying 3=some (.int .i64))⟩
 ·cases h;exact ⟨Cd (b:=1) (by kernel_rfl) (by omega),(by kernel_rfl:Try.prog.underlying 4=some (.bool))⟩
 ·cases h;exact ⟨Cd (b:=24) (by kernel_rfl) (by omega),⟨2,by kernel_rfl,rfl,rfl⟩⟩
 ·cases h;exact ⟨Cd (b:=24) (by kernel_rfl) (by omega),⟨25,by kernel_rfl,rfl,rfl⟩⟩
 ·cases h;exact ⟨Cd (b:=24) (by kernel_rfl) (by omega),⟨22,by kernel_rfl,rfl,rfl⟩⟩
 ·cases h;exact ⟨Cd (b:=56) (by kernel_rfl) (by omega),⟨fieldsOf Try.prog 179,by kernel_rfl⟩⟩
 ·cases h
theorem DW: ∀t te,Sj.elem t=some te->Try.prog.underlying t=some (.slice te):=by
 intro t te h
 simp only [Sj] at h
 split at h
 ·cases h;kernel_rfl
 ·cases h;kernel_rfl
 ·cases h;kernel_rfl
 ·cases h
theorem HO: ∀s f o t,Sj.off s f=some (o,t)-> ∃(fs:Array Field) (fd:Field),Try.prog.underlying s=some (.struct fs)/\fs[f]?=some fd/\fd.offset=o/\fd.type=t/\ ∃i:TypeInfo,Try.prog.info? t=some i/\i.size≠0:=by
 intro s f o t h
 simp only [Sj] at h
 split at h
 ·cases h;exact Df (by kernel_rfl) (by kernel_rfl) (by kernel_rfl)
 ·cases h;exact Df (by kernel_rfl) (by kernel_rfl) (by kernel_rfl)
 ·cases h;exact Df (by kernel_rfl) (by kernel_rfl) (by kernel_rfl)
 ·cases h
theorem DX: ∀t τ,Sj.ty t=some τ->τ.Ab=true-> ∃(fs:Array Field) (Hy:Array (Nat×Nat)),Try.prog.underlying t=some (.struct fs)/\(∀w,(placesOf fs).run Try.prog w= .ok Hy w)/\
  ∀f o u ρ,Sj.off t f=some (o,u)->Sj.ty u=some ρ->Hy[f]?=some (o,ρ.size):=by
 intro t τ h hs
 have all: ∀t,∀f o u ρ,Sj.off t f=some (o,u)->Sj.ty u=some ρ->(Kv t)[f]?=some (o,ρ.size):=by
  intro t f o u ρ ho hu
  simp only [Sj] at ho
  split at ho
  all_goals first
   |(cases ho;cases hu;rfl)
   |cases ho
 simp only [Sj] at h
 split at h
 ·cases h;simp [Ty.Ab] at hs
 ·cases h;simp [Ty.Ab] at hs
 ·cases h;simp [Ty.Ab] at hs
 ·cases h;simp [Ty.Ab] at hs
 ·cases h;simp [Ty.Ab] at hs
 ·cases h;simp [Ty.Ab] at hs
 ·cases h;exact ⟨fieldsOf Try.prog 179,Kv 179,by kernel_rfl,(λw=>by kernel_rfl),all _⟩
 ·cases h
theorem iq:Bu Try.prog Sj:=⟨DX,NJ,DW,(λt v h=>by cases h),HO⟩
def DY (l:List Nat):Tab:= {Sj with marks:=l}
theorem HN (l:List Nat):Bu Try.prog (DY l):=iq.oU l
end Go.Proofs.Ytjbdmibbbpdnnaa
