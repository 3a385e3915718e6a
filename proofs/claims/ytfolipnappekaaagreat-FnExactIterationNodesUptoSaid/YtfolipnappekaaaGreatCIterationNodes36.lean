/-
  Part 37 of the proof that the statement FnExactIterationNodes holds.
-/
import Derived.Test.YtfolipnappekaaaGreatCIterationNodes35
namespace Go.Proofs.YtfolipnappekaaaGreat
open Go.RowKit
abbrev tO:Ty:= .oslice tI
abbrev tLO:Ty:= .slice tO
abbrev oQ:Ty:= .pair tI (.pair (.slice tLO) (.pair (.slice tLO) .unit))
def cG:Tab where
 ty:= λt=>match t with
  |2=>some tI
  |3=>some tI
  |4=>some .bool
  |26=>some tO
  |22=>some tLO
  |139=>some (.slice tLO)
  |141=>some oQ
  |_=>none
 elem:= λt=>match t with
  |26=>some 2
  |22=>some 26
  |139=>some 22
  |_=>none
 mapOf:= λ_=>none
 off:= λs f=>match s,f with
  |141,0=>some (0,2)
  |141,1=>some (1,139)
  |141,2=>some (2,139)
  |_,_=>none
 u9:=true
 DK:=false
 ZY:= [22]
theorem Ale: ∀t τ,cG.ty t=some τ->p9 Tryz.prog cG t τ:=by
 intro t τ h
 simp only [cG] at h
 split at h
 ·cases h;exact ⟨Eh (b:=8) (by kernel_rfl) (by omega),(by kernel_rfl:Tryz.prog.underlying 2=some (.int .i64))⟩
 ·cases h;exact ⟨Eh (b:=8) (by kernel_rfl) (by omega),(by kernel_rfl:Tryz.prog.underlying 3=some (.int .i64))⟩
 ·cases h;exact ⟨Eh (b:=1) (by kernel_rfl) (by omega),(by kernel_rfl:Tryz.prog.underlying 4=some (.bool))⟩
 ·cases h;exact ⟨Eh (b:=24) (by kernel_rfl) (by omega),⟨2,by kernel_rfl,rfl,rfl⟩⟩
 ·cases h;exact ⟨Eh (b:=24) (by kernel_rfl) (by omega),⟨26,by kernel_rfl,rfl,rfl⟩⟩
 ·cases h;exact ⟨Eh (b:=24) (by kernel_rfl) (by omega),⟨22,by kernel_rfl,rfl,rfl⟩⟩
 ·cases h;exact ⟨Eh (b:=56) (by kernel_rfl) (by omega),⟨fieldsOf Tryz.prog 141,by kernel_rfl⟩⟩
 ·cases h
theorem Acr: ∀t te,cG.elem t=some te->Tryz.prog.underlying t=some (.slice te):=by
 intro t te h
 simp only [cG] at h
 split at h
 ·cases h;kernel_rfl
 ·cases h;kernel_rfl
 ·cases h;kernel_rfl
 ·cases h
theorem Ag4: ∀s f o t,cG.off s f=some (o,t)-> ∃(fs:Array Field) (fd:Field),Tryz.prog.underlying s=some (.struct fs)/\fs[f]?=some fd/\fd.offset=o/\fd.type=t/\ ∃i:TypeInfo,Tryz.prog.info? t=some i/\i.size≠0:=by
 intro s f o t h
 simp only [cG] at h
 split at h
 ·cases h;exact Et (by kernel_rfl) (by kernel_rfl) (by kernel_rfl)
 ·cases h;exact Et (by kernel_rfl) (by kernel_rfl) (by kernel_rfl)
 ·cases h;exact Et (by kernel_rfl) (by kernel_rfl) (by kernel_rfl)
 ·cases h
theorem Acs: ∀t τ,cG.ty t=some τ->τ.Aq=true-> ∃(fs:Array Field) (Ls:Array (Nat×Nat)),Tryz.prog.underlying t=some (.struct fs)/\(∀w,(placesOf fs).run Tryz.prog w= .ok Ls w)/\
  ∀f o u ρ,cG.off t f=some (o,u)->cG.ty u=some ρ->Ls[f]?=some (o,ρ.size):=by
 intro t τ h hs
 have all: ∀t,∀f o u ρ,cG.off t f=some (o,u)->cG.ty u=some ρ->(Om t)[f]?=some (o,ρ.size):=by
  intro t f o u ρ ho hu
  simp only [cG] at ho
  split at ho
  all_goals first
   |(cases ho;cases hu;rfl)
   |cases ho
 simp only [cG] at h
 split at h
 ·cases h;simp [Ty.Aq] at hs
 ·cases h;simp [Ty.Aq] at hs
 ·cases h;simp [Ty.Aq] at hs
 ·cases h;simp [Ty.Aq] at hs
 ·cases h;simp [Ty.Aq] at hs
 ·cases h;simp [Ty.Aq] at hs
 ·cases h;exact ⟨fieldsOf Tryz.prog 141,Om 141,by kernel_rfl,(λw=>by kernel_rfl),all _⟩
 ·cases h
theorem wk:Eb Tryz.prog cG:=⟨Acs,Ale,Acr,(λt v h=>by cases h),Ag4⟩
def Acu (l:List Nat):Tab:= {cG with marks:=l}
theorem Ag3 (l:List Nat):Eb Tryz.prog (Acu l):=wk.kN l
end Go.Proofs.YtfolipnappekaaaGreat
