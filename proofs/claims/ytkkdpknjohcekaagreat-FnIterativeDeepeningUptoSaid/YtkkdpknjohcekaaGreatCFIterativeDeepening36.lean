/-
  Part 37 of the proof that the statement FnIterativeDeepening holds.
-/
import Derived.Test.YtkkdpknjohcekaaGreatCFIterativeDeepening35
namespace Go.Proofs.YtkkdpknjohcekaaGreat
open Go.RowKit
abbrev tO:Ty:= .oslice tI
abbrev tLO:Ty:= .slice tO
abbrev QR:Ty:= .pair tI (.pair (.slice tLO) (.pair (.slice tLO) .unit))
def cz:Tab where
 ty:= λt=>match t with
  |2=>some tI
  |3=>some tI
  |4=>some .bool
  |33=>some tO
  |27=>some tLO
  |163=>some (.slice tLO)
  |165=>some QR
  |_=>none
 elem:= λt=>match t with
  |33=>some 2
  |27=>some 33
  |163=>some 27
  |_=>none
 mapOf:= λ_=>none
 off:= λs f=>match s,f with
  |165,0=>some (0,2)
  |165,1=>some (1,163)
  |165,2=>some (2,163)
  |_,_=>none
 vn:=true
 BK:=false
 Af3:= [27]
theorem Aja: ∀t τ,cz.ty t=some τ->qV Tryz.prog cz t τ:=by
 intro t τ h
 simp only [cz] at h
 split at h
 ·cases h;exact ⟨Gm (b:=8) (by kernel_rfl) (by omega),(by kernel_rfl:Tryz.prog.underlying 2=some (.int .i64))⟩
 ·cases h;exact ⟨Gm (b:=8) (by kernel_rfl) (by omega),(by kernel_rfl:Tryz.prog.underlying 3=some (.int .i64))⟩
 ·cases h;exact ⟨Gm (b:=1) (by kernel_rfl) (by omega),(by kernel_rfl:Tryz.prog.underlying 4=some (.bool))⟩
 ·cases h;exact ⟨Gm (b:=24) (by kernel_rfl) (by omega),⟨2,by kernel_rfl,rfl,rfl⟩⟩
 ·cases h;exact ⟨Gm (b:=24) (by kernel_rfl) (by omega),⟨33,by kernel_rfl,rfl,rfl⟩⟩
 ·cases h;exact ⟨Gm (b:=24) (by kernel_rfl) (by omega),⟨27,by kernel_rfl,rfl,rfl⟩⟩
 ·cases h;exact ⟨Gm (b:=56) (by kernel_rfl) (by omega),⟨fieldsOf Tryz.prog 165,by kernel_rfl⟩⟩
 ·cases h
theorem Ab7: ∀t te,cz.elem t=some te->Tryz.prog.underlying t=some (.slice te):=by
 intro t te h
 simp only [cz] at h
 split at h
 ·cases h;kernel_rfl
 ·cases h;kernel_rfl
 ·cases h;kernel_rfl
 ·cases h
theorem Aek: ∀s f o t,cz.off s f=some (o,t)-> ∃(fs:Array Field) (fd:Field),Tryz.prog.underlying s=some (.struct fs)/\fs[f]?=some fd/\fd.offset=o/\fd.type=t/\ ∃i:TypeInfo,Tryz.prog.info? t=some i/\i.size≠0:=by
 intro s f o t h
 simp only [cz] at h
 split at h
 ·cases h;exact Hq (by kernel_rfl) (by kernel_rfl) (by kernel_rfl)
 ·cases h;exact Hq (by kernel_rfl) (by kernel_rfl) (by kernel_rfl)
 ·cases h;exact Hq (by kernel_rfl) (by kernel_rfl) (by kernel_rfl)
 ·cases h
theorem Ab8: ∀t τ,cz.ty t=some τ->τ.Aq=true-> ∃(fs:Array Field) (Oq:Array (Nat×Nat)),Tryz.prog.underlying t=some (.struct fs)/\(∀w,(placesOf fs).run Tryz.prog w= .ok Oq w)/\
  ∀f o u ρ,cz.off t f=some (o,u)->cz.ty u=some ρ->Oq[f]?=some (o,ρ.size):=by
 intro t τ h hs
 have all: ∀t,∀f o u ρ,cz.off t f=some (o,u)->cz.ty u=some ρ->(Ur t)[f]?=some (o,ρ.size):=by
  intro t f o u ρ ho hu
  simp only [cz] at ho
  split at ho
  all_goals first
   |(cases ho;cases hu;rfl)
   |cases ho
 simp only [cz] at h
 split at h
 ·cases h;simp [Ty.Aq] at hs
 ·cases h;simp [Ty.Aq] at hs
 ·cases h;simp [Ty.Aq] at hs
 ·cases h;simp [Ty.Aq] at hs
 ·cases h;simp [Ty.Aq] at hs
 ·cases h;simp [Ty.Aq] at hs
 ·cases h;exact ⟨fieldsOf Tryz.prog 165,Ur 165,by kernel_rfl,(λw=>by kernel_rfl),all _⟩
 ·cases h
theorem uU:Eb Tryz.prog cz:=⟨Ab8,Aja,Ab7,(λt v h=>by cases h),Aek⟩
def Ab9 (l:List Nat):Tab:= {cz with marks:=l}
theorem Aej (l:List Nat):Eb Tryz.prog (Ab9 l):=uU.pO l
end Go.Proofs.YtkkdpknjohcekaaGreat
