/-
  Part 37 of the proof that the statement FnMethods holds.
-/
import Derived.Test.YtkkdpknjohcekaaGreatCFMethods35
namespace Go.Proofs.YtkkdpknjohcekaaGreat
open Go.RowKit
abbrev tO:Ty:= .oslice tI
abbrev tLO:Ty:= .slice tO
abbrev CU:Ty:= .pair tI (.pair (.slice tLO) (.pair (.slice tLO) .unit))
def bm:Tab where
 ty:= λt=>match t with
  |2=>some tI
  |3=>some tI
  |4=>some .bool
  |33=>some tO
  |27=>some tLO
  |163=>some (.slice tLO)
  |165=>some CU
  |_=>none
 elem:= λt=>match t with
  |33=>some 2
  |27=>some 33
  |163=>some 27
  |_=>none
 mapOf:= λ_=>none
 off:= λs f=>match s,f with
  |165,0=>some (0,2)
  |165,1=>some (1,163)
  |165,2=>some (2,163)
  |_,_=>none
 tq:=true
 CY:=false
 Ahd:= [27]
theorem Ali: ∀t τ,bm.ty t=some τ->ph Tryz.prog bm t τ:=by
 intro t τ h
 simp only [bm] at h
 split at h
 ·cases h;exact ⟨Fk (b:=8) (by kernel_rfl) (by omega),(by kernel_rfl:Tryz.prog.underlying 2=some (.int .i64))⟩
 ·cases h;exact ⟨Fk (b:=8) (by kernel_rfl) (by omega),(by kernel_rfl:Tryz.prog.underlying 3=some (.int .i64))⟩
 ·cases h;exact ⟨Fk (b:=1) (by kernel_rfl) (by omega),(by kernel_rfl:Tryz.prog.underlying 4=some (.bool))⟩
 ·cases h;exact ⟨Fk (b:=24) (by kernel_rfl) (by omega),⟨2,by kernel_rfl,rfl,rfl⟩⟩
 ·cases h;exact ⟨Fk (b:=24) (by kernel_rfl) (by omega),⟨33,by kernel_rfl,rfl,rfl⟩⟩
 ·cases h;exact ⟨Fk (b:=24) (by kernel_rfl) (by omega),⟨27,by kernel_rfl,rfl,rfl⟩⟩
 ·cases h;exact ⟨Fk (b:=56) (by kernel_rfl) (by omega),⟨fieldsOf Tryz.prog 165,by kernel_rfl⟩⟩
 ·cases h
theorem Acq: ∀t te,bm.elem t=some te->Tryz.prog.underlying t=some (.slice te):=by
 intro t te h
 simp only [bm] at h
 split at h
 ·cases h;kernel_rfl
 ·cases h;kernel_rfl
 ·cases h;kernel_rfl
 ·cases h
theorem Agq: ∀s f o t,bm.off s f=some (o,t)-> ∃(fs:Array Field) (fd:Field),Tryz.prog.underlying s=some (.struct fs)/\fs[f]?=some fd/\fd.offset=o/\fd.type=t/\ ∃i:TypeInfo,Tryz.prog.info? t=some i/\i.size≠0:=by
 intro s f o t h
 simp only [bm] at h
 split at h
 ·cases h;exact Hz (by kernel_rfl) (by kernel_rfl) (by kernel_rfl)
 ·cases h;exact Hz (by kernel_rfl) (by kernel_rfl) (by kernel_rfl)
 ·cases h;exact Hz (by kernel_rfl) (by kernel_rfl) (by kernel_rfl)
 ·cases h
theorem Acr: ∀t τ,bm.ty t=some τ->τ.Ar=true-> ∃(fs:Array Field) (My:Array (Nat×Nat)),Tryz.prog.underlying t=some (.struct fs)/\(∀w,(placesOf fs).run Tryz.prog w= .ok My w)/\
  ∀f o u ρ,bm.off t f=some (o,u)->bm.ty u=some ρ->My[f]?=some (o,ρ.size):=by
 intro t τ h hs
 have all: ∀t,∀f o u ρ,bm.off t f=some (o,u)->bm.ty u=some ρ->(Uy t)[f]?=some (o,ρ.size):=by
  intro t f o u ρ ho hu
  simp only [bm] at ho
  split at ho
  all_goals first
   |(cases ho;cases hu;rfl)
   |cases ho
 simp only [bm] at h
 split at h
 ·cases h;simp [Ty.Ar] at hs
 ·cases h;simp [Ty.Ar] at hs
 ·cases h;simp [Ty.Ar] at hs
 ·cases h;simp [Ty.Ar] at hs
 ·cases h;simp [Ty.Ar] at hs
 ·cases h;simp [Ty.Ar] at hs
 ·cases h;exact ⟨fieldsOf Tryz.prog 165,Uy 165,by kernel_rfl,(λw=>by kernel_rfl),all _⟩
 ·cases h
theorem qv:Ep Tryz.prog bm:=⟨Acr,Ali,Acq,(λt v h=>by cases h),Agq⟩
def Acs (l:List Nat):Tab:= {bm with marks:=l}
theorem Agp (l:List Nat):Ep Tryz.prog (Acs l):=qv.qx l
end Go.Proofs.YtkkdpknjohcekaaGreat
