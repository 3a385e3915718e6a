/-
  Part 37 of the proof that the statement FnPatterns holds.
-/
import Derived.Test.YtkkdpknjohcekaaGreatCFPatterns35
namespace Go.Proofs.YtkkdpknjohcekaaGreat
open Go.RowKit
abbrev tO:Ty:= .oslice tI
abbrev tLO:Ty:= .slice tO
abbrev kz:Ty:= .pair tI (.pair (.slice tLO) (.pair (.slice tLO) .unit))
def aZ:Tab where
 ty:= λt=>match t with
  |2=>some tI
  |3=>some tI
  |4=>some .bool
  |33=>some tO
  |27=>some tLO
  |163=>some (.slice tLO)
  |165=>some kz
  |_=>none
 elem:= λt=>match t with
  |33=>some 2
  |27=>some 33
  |163=>some 27
  |_=>none
 mapOf:= λ_=>none
 off:= λs f=>match s,f with
  |165,0=>some (0,2)
  |165,1=>some (1,163)
  |165,2=>some (2,163)
  |_,_=>none
 sT:=true
 CH:=false
 ZI:= [27]
theorem Akg: ∀t τ,aZ.ty t=some τ->oI Tryz.prog aZ t τ:=by
 intro t τ h
 simp only [aZ] at h
 split at h
 ·cases h;exact ⟨Ex (b:=8) (by kernel_rfl) (by omega),(by kernel_rfl:Tryz.prog.underlying 2=some (.int .i64))⟩
 ·cases h;exact ⟨Ex (b:=8) (by kernel_rfl) (by omega),(by kernel_rfl:Tryz.prog.underlying 3=some (.int .i64))⟩
 ·cases h;exact ⟨Ex (b:=1) (by kernel_rfl) (by omega),(by kernel_rfl:Tryz.prog.underlying 4=some (.bool))⟩
 ·cases h;exact ⟨Ex (b:=24) (by kernel_rfl) (by omega),⟨2,by kernel_rfl,rfl,rfl⟩⟩
 ·cases h;exact ⟨Ex (b:=24) (by kernel_rfl) (by omega),⟨33,by kernel_rfl,rfl,rfl⟩⟩
 ·cases h;exact ⟨Ex (b:=24) (by kernel_rfl) (by omega),⟨27,by kernel_rfl,rfl,rfl⟩⟩
 ·cases h;exact ⟨Ex (b:=56) (by kernel_rfl) (by omega),⟨fieldsOf Tryz.prog 165,by kernel_rfl⟩⟩
 ·cases h
theorem Aci: ∀t te,aZ.elem t=some te->Tryz.prog.underlying t=some (.slice te):=by
 intro t te h
 simp only [aZ] at h
 split at h
 ·cases h;kernel_rfl
 ·cases h;kernel_rfl
 ·cases h;kernel_rfl
 ·cases h
theorem Afr: ∀s f o t,aZ.off s f=some (o,t)-> ∃(fs:Array Field) (fd:Field),Tryz.prog.underlying s=some (.struct fs)/\fs[f]?=some fd/\fd.offset=o/\fd.type=t/\ ∃i:TypeInfo,Tryz.prog.info? t=some i/\i.size≠0:=by
 intro s f o t h
 simp only [aZ] at h
 split at h
 ·cases h;exact Gv (by kernel_rfl) (by kernel_rfl) (by kernel_rfl)
 ·cases h;exact Gv (by kernel_rfl) (by kernel_rfl) (by kernel_rfl)
 ·cases h;exact Gv (by kernel_rfl) (by kernel_rfl) (by kernel_rfl)
 ·cases h
theorem Acj: ∀t τ,aZ.ty t=some τ->τ.Ap=true-> ∃(fs:Array Field) (Mb:Array (Nat×Nat)),Tryz.prog.underlying t=some (.struct fs)/\(∀w,(placesOf fs).run Tryz.prog w= .ok Mb w)/\
  ∀f o u ρ,aZ.off t f=some (o,u)->aZ.ty u=some ρ->Mb[f]?=some (o,ρ.size):=by
 intro t τ h hs
 have all: ∀t,∀f o u ρ,aZ.off t f=some (o,u)->aZ.ty u=some ρ->(Re t)[f]?=some (o,ρ.size):=by
  intro t f o u ρ ho hu
  simp only [aZ] at ho
  split at ho
  all_goals first
   |(cases ho;cases hu;rfl)
   |cases ho
 simp only [aZ] at h
 split at h
 ·cases h;simp [Ty.Ap] at hs
 ·cases h;simp [Ty.Ap] at hs
 ·cases h;simp [Ty.Ap] at hs
 ·cases h;simp [Ty.Ap] at hs
 ·cases h;simp [Ty.Ap] at hs
 ·cases h;simp [Ty.Ap] at hs
 ·cases h;exact ⟨fieldsOf Tryz.prog 165,Re 165,by kernel_rfl,(λw=>by kernel_rfl),all _⟩
 ·cases h
theorem pT:Eb Tryz.prog aZ:=⟨Acj,Akg,Aci,(λt v h=>by cases h),Afr⟩
def Ack (l:List Nat):Tab:= {aZ with marks:=l}
theorem Afq (l:List Nat):Eb Tryz.prog (Ack l):=pT.kB l
end Go.Proofs.YtkkdpknjohcekaaGreat
