/-
  Part 37 of the proof that the statement FnExactSubsetPuzzle holds.
-/
import Derived.Test.YtebabhocakedaaaCSubsetPuzzle35
namespace Go.Proofs.Ytebabhocakedaaa
open Go.RowKit
abbrev tO:Ty:= .oslice tI
abbrev tLO:Ty:= .slice tO
abbrev Aqe:Ty:= .pair tI (.pair (.slice tLO) (.pair (.slice tLO) .unit))
def Pz:Tab where
 ty:=fun t=>match t with
  |2=>some tI
  |3=>some tI
  |4=>some .bool
  |25=>some tO
  |22=>some tLO
  |141=>some (.slice tLO)
  |143=>some Aqe
  |_=>none
 elem:=fun t=>match t with
  |25=>some 2
  |22=>some 25
  |141=>some 22
  |_=>none
 mapOf:=fun _=>none
 off:=fun s f=>match s,f with
  |143,0=>some (0,2)
  |143,1=>some (1,141)
  |143,2=>some (2,141)
  |_,_=>none
 fr0:=true
 tr0:=false
 grids:= [22]
theorem Beh: ∀t τ,Pz.ty t=some τ→Ahj Try.prog Pz t τ:=by
 intro t τ h
 simp only [Pz] at h
 split at h
 ·cases h;exact ⟨Dm (b:=8) (by kernel_rfl) (by omega),(by kernel_rfl:Try.prog.underlying 2=some (.int .i64))⟩
 ·cases h;exact ⟨Dm (b:=8) (by kernel_rfl) (by omega),(by kernel_rfl:Try.prog.underlying 3=some (.int .i64))⟩
 ·cases h;exact ⟨Dm (b:=1) (by kernel_rfl) (by omega),(by kernel_rfl:Try.prog.underlying 4=some (.bool))⟩
 ·cases h;exact ⟨Dm (b:=24) (by kernel_rfl) (by omega),⟨2,by kernel_rfl,rfl,rfl⟩⟩
 ·cases h;exact ⟨Dm (b:=24) (by kernel_rfl) (by omega),⟨25,by kernel_rfl,rfl,rfl⟩⟩
 ·cases h;exact ⟨Dm (b:=24) (by kernel_rfl) (by omega),⟨22,by kernel_rfl,rfl,rfl⟩⟩
 ·cases h;exact ⟨Dm (b:=56) (by kernel_rfl) (by omega),⟨fieldsOf Try.prog 143,by kernel_rfl⟩⟩
 ·cases h
theorem Bbu: ∀t te,Pz.elem t=some te→Try.prog.underlying t=some (.slice te):=by
 intro t te h
 simp only [Pz] at h
 split at h
 ·cases h;kernel_rfl
 ·cases h;kernel_rfl
 ·cases h;kernel_rfl
 ·cases h
theorem Bd6: ∀s f o t,Pz.off s f=some (o,t)→ ∃(fs:Array Field) (fd:Field),Try.prog.underlying s=some (.struct fs)∧fs[f]?=some fd∧fd.offset=o∧fd.type=t∧ ∃i:TypeInfo,Try.prog.info? t=some i∧i.size≠0:=by
 intro s f o t h
 simp only [Pz] at h
 split at h
 ·cases h;exact Ex (by kernel_rfl) (by kernel_rfl) (by kernel_rfl)
 ·cases h;exact Ex (by kernel_rfl) (by kernel_rfl) (by kernel_rfl)
 ·cases h;exact Ex (by kernel_rfl) (by kernel_rfl) (by kernel_rfl)
 ·cases h
theorem Bbv: ∀t τ,Pz.ty t=some τ→τ.Ab=true→ ∃(fs:Array Field) (places:Array (Nat×Nat)),Try.prog.underlying t=some (.struct fs)∧(∀w,(placesOf fs).run Try.prog w= .ok places w)∧
  ∀f o u ρ,Pz.off t f=some (o,u)→Pz.ty u=some ρ→places[f]?=some (o,ρ.size):=by
 intro t τ h hs
 have all: ∀t,∀f o u ρ,Pz.off t f=some (o,u)→Pz.ty u=some ρ→(Pw t)[f]?=some (o,ρ.size):=by
  intro t f o u ρ ho hu
  simp only [Pz] at ho
  split at ho
  all_goals first
   |(cases ho;cases hu;rfl)
   |cases ho
 simp only [Pz] at h
 split at h
 ·cases h;simp [Ty.Ab] at hs
 ·cases h;simp [Ty.Ab] at hs
 ·cases h;simp [Ty.Ab] at hs
 ·cases h;simp [Ty.Ab] at hs
 ·cases h;simp [Ty.Ab] at hs
 ·cases h;simp [Ty.Ab] at hs
 ·cases h;exact ⟨fieldsOf Try.prog 143,Pw 143,by kernel_rfl,(fun w=>by kernel_rfl),all _⟩
 ·cases h
theorem Agb:Bt Try.prog Pz:=⟨Bbv,Beh,Bbu,(fun t v h=>by cases h),Bd6⟩
def Bbw (l:List Nat):Tab:= {Pz with marks:=l}
theorem Bd5 (l:List Nat):Bt Try.prog (Bbw l):=Agb.Ant l
end Go.Proofs.Ytebabhocakedaaa
