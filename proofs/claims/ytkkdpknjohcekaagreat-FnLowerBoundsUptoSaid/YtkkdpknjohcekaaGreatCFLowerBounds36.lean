/-
  Part 37 of the proof that the statement FnLowerBounds holds.
-/
import Derived.Test.YtkkdpknjohcekaaGreatCFLowerBounds35
namespace Go.Proofs.YtkkdpknjohcekaaGreat
open Go.RowKit
abbrev tO:Ty:= .oslice tI
abbrev tLO:Ty:= .slice tO
abbrev AO:Ty:= .pair tI (.pair (.slice tLO) (.pair (.slice tLO) .unit))
def bk:Tab where
 ty:= λt=>match t with
  |2=>some tI
  |3=>some tI
  |4=>some .bool
  |33=>some tO
  |27=>some tLO
  |163=>some (.slice tLO)
  |165=>some AO
  |_=>none
 elem:= λt=>match t with
  |33=>some 2
  |27=>some 33
  |163=>some 27
  |_=>none
 mapOf:= λ_=>none
 off:= λs f=>match s,f with
  |165,0=>some (0,2)
  |165,1=>some (1,163)
  |165,2=>some (2,163)
  |_,_=>none
 vd:=true
 BI:=false
 Aeh:= [27]
theorem Aik: ∀t τ,bk.ty t=some τ->qT Tryz.prog bk t τ:=by
 intro t τ h
 simp only [bk] at h
 split at h
 ·cases h;exact ⟨Gt (b:=8) (by kernel_rfl) (by omega),(by kernel_rfl:Tryz.prog.underlying 2=some (.int .i64))⟩
 ·cases h;exact ⟨Gt (b:=8) (by kernel_rfl) (by omega),(by kernel_rfl:Tryz.prog.underlying 3=some (.int .i64))⟩
 ·cases h;exact ⟨Gt (b:=1) (by kernel_rfl) (by omega),(by kernel_rfl:Tryz.prog.underlying 4=some (.bool))⟩
 ·cases h;exact ⟨Gt (b:=24) (by kernel_rfl) (by omega),⟨2,by kernel_rfl,rfl,rfl⟩⟩
 ·cases h;exact ⟨Gt (b:=24) (by kernel_rfl) (by omega),⟨33,by kernel_rfl,rfl,rfl⟩⟩
 ·cases h;exact ⟨Gt (b:=24) (by kernel_rfl) (by omega),⟨27,by kernel_rfl,rfl,rfl⟩⟩
 ·cases h;exact ⟨Gt (b:=56) (by kernel_rfl) (by omega),⟨fieldsOf Tryz.prog 165,by kernel_rfl⟩⟩
 ·cases h
theorem Aak: ∀t te,bk.elem t=some te->Tryz.prog.underlying t=some (.slice te):=by
 intro t te h
 simp only [bk] at h
 split at h
 ·cases h;kernel_rfl
 ·cases h;kernel_rfl
 ·cases h;kernel_rfl
 ·cases h
theorem Adx: ∀s f o t,bk.off s f=some (o,t)-> ∃(fs:Array Field) (fd:Field),Tryz.prog.underlying s=some (.struct fs)/\fs[f]?=some fd/\fd.offset=o/\fd.type=t/\ ∃i:TypeInfo,Tryz.prog.info? t=some i/\i.size≠0:=by
 intro s f o t h
 simp only [bk] at h
 split at h
 ·cases h;exact Hs (by kernel_rfl) (by kernel_rfl) (by kernel_rfl)
 ·cases h;exact Hs (by kernel_rfl) (by kernel_rfl) (by kernel_rfl)
 ·cases h;exact Hs (by kernel_rfl) (by kernel_rfl) (by kernel_rfl)
 ·cases h
theorem Aal: ∀t τ,bk.ty t=some τ->τ.Ao=true-> ∃(fs:Array Field) (Oy:Array (Nat×Nat)),Tryz.prog.underlying t=some (.struct fs)/\(∀w,(placesOf fs).run Tryz.prog w= .ok Oy w)/\
  ∀f o u ρ,bk.off t f=some (o,u)->bk.ty u=some ρ->Oy[f]?=some (o,ρ.size):=by
 intro t τ h hs
 have all: ∀t,∀f o u ρ,bk.off t f=some (o,u)->bk.ty u=some ρ->(Vg t)[f]?=some (o,ρ.size):=by
  intro t f o u ρ ho hu
  simp only [bk] at ho
  split at ho
  all_goals first
   |(cases ho;cases hu;rfl)
   |cases ho
 simp only [bk] at h
 split at h
 ·cases h;simp [Ty.Ao] at hs
 ·cases h;simp [Ty.Ao] at hs
 ·cases h;simp [Ty.Ao] at hs
 ·cases h;simp [Ty.Ao] at hs
 ·cases h;simp [Ty.Ao] at hs
 ·cases h;simp [Ty.Ao] at hs
 ·cases h;exact ⟨fieldsOf Tryz.prog 165,Vg 165,by kernel_rfl,(λw=>by kernel_rfl),all _⟩
 ·cases h
theorem pP:Eg Tryz.prog bk:=⟨Aal,Aik,Aak,(λt v h=>by cases h),Adx⟩
def Aam (l:List Nat):Tab:= {bk with marks:=l}
theorem Adw (l:List Nat):Eg Tryz.prog (Aam l):=pP.pR l
end Go.Proofs.YtkkdpknjohcekaaGreat
