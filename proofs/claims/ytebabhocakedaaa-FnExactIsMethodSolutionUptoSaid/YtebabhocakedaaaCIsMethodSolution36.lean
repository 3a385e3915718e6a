/-
  Part 37 of the proof that the statement FnExactIsMethodSolution holds.
-/
import Derived.Test.YtebabhocakedaaaCIsMethodSolution35
namespace Go.Proofs.Ytebabhocakedaaa
open Go.RowKit
abbrev tO:Ty:= .oslice tI
abbrev tLO:Ty:= .slice tO
abbrev Aqo:Ty:= .pair tI (.pair (.slice tLO) (.pair (.slice tLO) .unit))
def Qd:Tab where
 ty:=fun t=>match t with
  |2=>some tI
  |3=>some tI
  |4=>some .bool
  |25=>some tO
  |22=>some tLO
  |141=>some (.slice tLO)
  |143=>some Aqo
  |_=>none
 elem:=fun t=>match t with
  |25=>some 2
  |22=>some 25
  |141=>some 22
  |_=>none
 mapOf:=fun _=>none
 off:=fun s f=>match s,f with
  |143,0=>some (0,2)
  |143,1=>some (1,141)
  |143,2=>some (2,141)
  |_,_=>none
 fr0:=true
 tr0:=false
 grids:= [22]
theorem Bfc: ∀t τ,Qd.ty t=some τ→Ahh Try.prog Qd t τ:=by
 intro t τ h
 simp only [Qd] at h
 split at h
 ·cases h;exact ⟨Dq (b:=8) (by kernel_rfl) (by omega),(by kernel_rfl:Try.prog.underlying 2=some (.int .i64))⟩
 ·cases h;exact ⟨Dq (b:=8) (by kernel_rfl) (by omega),(by kernel_rfl:Try.prog.underlying 3=some (.int .i64))⟩
 ·cases h;exact ⟨Dq (b:=1) (by kernel_rfl) (by omega),(by kernel_rfl:Try.prog.underlying 4=some (.bool))⟩
 ·cases h;exact ⟨Dq (b:=24) (by kernel_rfl) (by omega),⟨2,by kernel_rfl,rfl,rfl⟩⟩
 ·cases h;exact ⟨Dq (b:=24) (by kernel_rfl) (by omega),⟨25,by kernel_rfl,rfl,rfl⟩⟩
 ·cases h;exact ⟨Dq (b:=24) (by kernel_rfl) (by omega),⟨22,by kernel_rfl,rfl,rfl⟩⟩
 ·cases h;exact ⟨Dq (b:=56) (by kernel_rfl) (by omega),⟨fieldsOf Try.prog 143,by kernel_rfl⟩⟩
 ·cases h
theorem Bck: ∀t te,Qd.elem t=some te→Try.prog.underlying t=some (.slice te):=by
 intro t te h
 simp only [Qd] at h
 split at h
 ·cases h;kernel_rfl
 ·cases h;kernel_rfl
 ·cases h;kernel_rfl
 ·cases h
theorem Be1: ∀s f o t,Qd.off s f=some (o,t)→ ∃(fs:Array Field) (fd:Field),Try.prog.underlying s=some (.struct fs)∧fs[f]?=some fd∧fd.offset=o∧fd.type=t∧ ∃i:TypeInfo,Try.prog.info? t=some i∧i.size≠0:=by
 intro s f o t h
 simp only [Qd] at h
 split at h
 ·cases h;exact Ff (by kernel_rfl) (by kernel_rfl) (by kernel_rfl)
 ·cases h;exact Ff (by kernel_rfl) (by kernel_rfl) (by kernel_rfl)
 ·cases h;exact Ff (by kernel_rfl) (by kernel_rfl) (by kernel_rfl)
 ·cases h
theorem Bcl: ∀t τ,Qd.ty t=some τ→τ.Ab=true→ ∃(fs:Array Field) (places:Array (Nat×Nat)),Try.prog.underlying t=some (.struct fs)∧(∀w,(placesOf fs).run Try.prog w= .ok places w)∧
  ∀f o u ρ,Qd.off t f=some (o,u)→Qd.ty u=some ρ→places[f]?=some (o,ρ.size):=by
 intro t τ h hs
 have all: ∀t,∀f o u ρ,Qd.off t f=some (o,u)→Qd.ty u=some ρ→(Qc t)[f]?=some (o,ρ.size):=by
  intro t f o u ρ ho hu
  simp only [Qd] at ho
  split at ho
  all_goals first
   |(cases ho;cases hu;rfl)
   |cases ho
 simp only [Qd] at h
 split at h
 ·cases h;simp [Ty.Ab] at hs
 ·cases h;simp [Ty.Ab] at hs
 ·cases h;simp [Ty.Ab] at hs
 ·cases h;simp [Ty.Ab] at hs
 ·cases h;simp [Ty.Ab] at hs
 ·cases h;simp [Ty.Ab] at hs
 ·cases h;exact ⟨fieldsOf Try.prog 143,Qc 143,by kernel_rfl,(fun w=>by kernel_rfl),all _⟩
 ·cases h
theorem Agb:Bt Try.prog Qd:=⟨Bcl,Bfc,Bck,(fun t v h=>by cases h),Be1⟩
def Bcm (l:List Nat):Tab:= {Qd with marks:=l}
theorem Be0 (l:List Nat):Bt Try.prog (Bcm l):=Agb.Aoc l
end Go.Proofs.Ytebabhocakedaaa
