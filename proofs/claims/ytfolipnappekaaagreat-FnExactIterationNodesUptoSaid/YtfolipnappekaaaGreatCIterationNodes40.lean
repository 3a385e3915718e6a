/-
  Part 41 of the proof that the statement FnExactIterationNodes holds.
-/
import Derived.Test.YtfolipnappekaaaGreatCIterationNodes39
import Derived.Test.YtfolipnappekaaaGreatRows
import Derived.WalkKit
import Derived.ProofKit
import Derived.OpenShut
import Derived.JoinedCond
import Derived.ChangeOld
import Derived.Below
import Derived.Carry
namespace Go.Proofs.YtfolipnappekaaaGreat
open Go.ChangeShapes Go.WideShapes Go.ChangeAt Go.RowKit
theorem jM {H:Type} : ∀(l:List (DataW H)),(l.map Rows.uptoBulk).sum=Rows.uptoBulkAll l
 | []=>by simp [Rows.uptoBulkAll]
 |d::r=>by simp only [Cc,List.sum_cons,Rows.uptoBulkAll,jM r]
theorem ZO (H:Type):YY (H:=H) Rows.uptoBulk where
 lit:= λl=>by cases l<;>simp [Rows.uptoBulk]
 str:= λbs=>by simp [Rows.uptoBulk]
 nil:=by simp [Rows.uptoBulk]
 slice:= λes sp=>by simp only [Rows.uptoBulk,jM];omega
 agg:= λps=>by simp only [Rows.uptoBulk,jM];omega
theorem MG {P:Program} {T:Tab} {t:TypeId} {τ:Ty} (h:p9 P T t τ):P.cellsOf t=τ.size:=by
 obtain ⟨i,hi,hs,_⟩:=h.info
 unfold Program.cellsOf
 rw [hi]
 exact hs
def yr (T:Tab) (P:Program):Ty->Nat->List Field->Bool
 | .unit,_,[]=>true
 | .pair a r,o,f::fs=>decide (f.offset=o)&&(decide (T.ty f.type=some a)&&(decide (P.cellsOf f.type=a.size)&&yr T P r (o+a.size) fs))
 |_,_,_=>false
theorem cN (T:Tab) (P:Program) (τ:Ty): ∀(o:Nat) (l:List Field),yr T P τ o l=true->Fits T P τ o l:=by
 induction τ with
 |unit=>intro o l h;cases l with|nil=>trivial|cons f fs=>simp [yr] at h
 |pair a r _ ih=>
  intro o l h
  cases l with
  |nil=>simp [yr] at h
  |cons f fs=>
   simp only [yr,Af,Nj] at h
   exact ⟨h.1,h.2.1,h.2.2.1,ih _ fs h.2.2.2⟩
 |_=>intro o l h;simp [yr] at h
def mI:Tab:= {Ej with ty:= λt=>(Ej.ty t).filter (·.read)}
theorem fM {t:TypeId} {τ:Ty} :mI.ty t=some τ↔Ej.ty t=some τ/\τ.read=true:=by
 simp only [mI,Option.filter_eq_some_iff]
set_option maxRecDepth 100000 in
theorem PH:YZ Tryz.prog mI where
 ty:= λt τ h=>by
  obtain ⟨h1,h2⟩:=fM.1 h
  have:=Acy t τ h1
  refine ⟨this.info,?_⟩
  have hd:=this.desc
  cases τ<;>first|exact hd|skip
  ·obtain ⟨te,a,b,c⟩:=hd
   exact ⟨te,a,b,fM.2 ⟨c,h2⟩⟩
  ·simp [Ty.read] at h2
 cells:= λt τ h=>MG (Acy t τ (fM.1 h).1)
 fields:=by
  intro t τ h hs
  have hr:=(fM.1 h).2
  have h:=(fM.1 h).1
  simp only [Ej] at h
  split at h
  all_goals first
   |(cases h;cases hs;done)
   |skip
  ·cases h;exact ⟨fieldsOf Tryz.prog 54,(by kernel_rfl),cN mI Tryz.prog Ku 0 (fieldsOf Tryz.prog 54).toList (by kernel_rfl)⟩
  ·cases h;exact ⟨fieldsOf Tryz.prog 58,(by kernel_rfl),cN mI Tryz.prog Ku 0 (fieldsOf Tryz.prog 58).toList (by kernel_rfl)⟩
  ·cases h;exact ⟨fieldsOf Tryz.prog 24,(by kernel_rfl),cN mI Tryz.prog Fb 0 (fieldsOf Tryz.prog 24).toList (by kernel_rfl)⟩
  ·cases h;exact ⟨fieldsOf Tryz.prog 30,(by kernel_rfl),cN mI Tryz.prog Fb 0 (fieldsOf Tryz.prog 30).toList (by kernel_rfl)⟩
  ·cases h;exact ⟨fieldsOf Tryz.prog 99,(by kernel_rfl),cN mI Tryz.prog kK 0 (fieldsOf Tryz.prog 99).toList (by kernel_rfl)⟩
  ·cases h;exact ⟨fieldsOf Tryz.prog 141,(by kernel_rfl),cN mI Tryz.prog DH 0 (fieldsOf Tryz.prog 141).toList (by kernel_rfl)⟩
  ·cases h;exact ⟨fieldsOf Tryz.prog 153,(by kernel_rfl),cN mI Tryz.prog DH 0 (fieldsOf Tryz.prog 153).toList (by kernel_rfl)⟩
  ·cases h;exact absurd hr (by decide)
  ·cases h;exact absurd hr (by decide)
  ·cases h;exact ⟨fieldsOf Tryz.prog 78,(by kernel_rfl),cN mI Tryz.prog oR 0 (fieldsOf Tryz.prog 78).toList (by kernel_rfl)⟩
  ·cases h;exact absurd hr (by decide)
  ·cases h
 Ai7:=by
  intro t e h
  have h:=(fM.1 h).1
  simp only [Ej] at h
  split at h<;>cases h<;>decide
 plain:= λt τ h=>(fM.1 h).2
end Go.Proofs.YtfolipnappekaaaGreat
