/-
  Part 40 of the proof that the statement FnExactProvesNoSolutionWithin holds.
-/
import Derived.Test.YtfolipnappekaaaGreatCProvesNoSolutionWithin38
import Derived.Test.YtfolipnappekaaaGreatRows
import Derived.WalkKit
import Derived.ProofKit
import Derived.OpenShut
import Derived.JoinedCond
import Derived.ChangeOld
import Derived.Below
import Derived.Carry
namespace Go.Proofs.YtfolipnappekaaaGreat
open Go.ChangeShapes Go.WideShapes Go.ChangeAt Go.RowKit
theorem eR {H:Type} : ∀(l:List (DataW H)),(l.map Rows.uptoBulk).sum=Rows.uptoBulkAll l
 | []=>by simp [Rows.uptoBulkAll]
 |d::r=>by simp only [List.map_cons,List.sum_cons,Rows.uptoBulkAll,eR r]
theorem QS (H:Type):QA (H:=H) Rows.uptoBulk where
 lit:= λl=>by cases l<;>simp [Rows.uptoBulk]
 str:= λbs=>by simp [Rows.uptoBulk]
 nil:=by simp [Rows.uptoBulk]
 slice:= λes sp=>by simp only [Rows.uptoBulk,eR];omega
 agg:= λps=>by simp only [Rows.uptoBulk,eR];omega
theorem DN {P:Program} {T:Tab} {t:TypeId} {τ:Ty} (h:lp P T t τ):P.cellsOf t=τ.size:=by
 obtain ⟨i,hi,hs,_⟩:=h.info
 unfold Program.cellsOf
 rw [hi]
 exact hs
def ua (T:Tab) (P:Program):Ty->Nat->List Field->Bool
 | .unit,_,[]=>true
 | .pair a r,o,f::fs=>decide (f.offset=o)&&(decide (T.ty f.type=some a)&&(decide (P.cellsOf f.type=a.size)&&ua T P r (o+a.size) fs))
 |_,_,_=>false
theorem Yu (T:Tab) (P:Program) (τ:Ty): ∀(o:Nat) (l:List Field),ua T P τ o l=true->Fits T P τ o l:=by
 induction τ with
 |unit=>intro o l h;cases l with|nil=>trivial|cons f fs=>simp [ua] at h
 |pair a r _ ih=>
  intro o l h
  cases l with
  |nil=>simp [ua] at h
  |cons f fs=>
   simp only [ua,Bool.and_eq_true,decide_eq_true_eq] at h
   exact ⟨h.1,h.2.1,h.2.2.1,ih _ fs h.2.2.2⟩
 |_=>intro o l h;simp [ua] at h
def j8:Tab:= {Cd with ty:= λt=>(Cd.ty t).filter (·.read)}
theorem bZ {t:TypeId} {τ:Ty} :j8.ty t=some τ↔Cd.ty t=some τ/\τ.read=true:=by
 simp only [j8,Option.filter_eq_some_iff]
set_option maxRecDepth 100000 in
theorem GJ:QB Tryz.prog j8 where
 ty:= λt τ h=>by
  obtain ⟨h1,h2⟩:=bZ.1 h
  have:=VM t τ h1
  refine ⟨this.info,?_⟩
  have hd:=this.desc
  cases τ<;>first|exact hd|skip
  ·obtain ⟨te,a,b,c⟩:=hd
   exact ⟨te,a,b,bZ.2 ⟨c,h2⟩⟩
  ·simp [Ty.read] at h2
 cells:= λt τ h=>DN (VM t τ (bZ.1 h).1)
 fields:=by
  intro t τ h hs
  have hr:=(bZ.1 h).2
  have h:=(bZ.1 h).1
  simp only [Cd] at h
  split at h
  all_goals first
   |(cases h;cases hs;done)
   |skip
  ·cases h;exact ⟨fieldsOf Tryz.prog 54,(by kernel_rfl),Yu j8 Tryz.prog Gz 0 (fieldsOf Tryz.prog 54).toList (by kernel_rfl)⟩
  ·cases h;exact ⟨fieldsOf Tryz.prog 58,(by kernel_rfl),Yu j8 Tryz.prog Gz 0 (fieldsOf Tryz.prog 58).toList (by kernel_rfl)⟩
  ·cases h;exact ⟨fieldsOf Tryz.prog 24,(by kernel_rfl),Yu j8 Tryz.prog Cp 0 (fieldsOf Tryz.prog 24).toList (by kernel_rfl)⟩
  ·cases h;exact ⟨fieldsOf Tryz.prog 30,(by kernel_rfl),Yu j8 Tryz.prog Cp 0 (fieldsOf Tryz.prog 30).toList (by kernel_rfl)⟩
  ·cases h;exact ⟨fieldsOf Tryz.prog 99,(by kernel_rfl),Yu j8 Tryz.prog fS 0 (fieldsOf Tryz.prog 99).toList (by kernel_rfl)⟩
  ·cases h;exact ⟨fieldsOf Tryz.prog 141,(by kernel_rfl),Yu j8 Tryz.prog xH 0 (fieldsOf Tryz.prog 141).toList (by kernel_rfl)⟩
  ·cases h;exact ⟨fieldsOf Tryz.prog 153,(by kernel_rfl),Yu j8 Tryz.prog xH 0 (fieldsOf Tryz.prog 153).toList (by kernel_rfl)⟩
  ·cases h;exact absurd hr (by decide)
  ·cases h;exact absurd hr (by decide)
  ·cases h;exact ⟨fieldsOf Tryz.prog 78,(by kernel_rfl),Yu j8 Tryz.prog nO 0 (fieldsOf Tryz.prog 78).toList (by kernel_rfl)⟩
  ·cases h;exact absurd hr (by decide)
  ·cases h
 Abd:=by
  intro t e h
  have h:=(bZ.1 h).1
  simp only [Cd] at h
  split at h<;>cases h<;>decide
 plain:= λt τ h=>(bZ.1 h).2
end Go.Proofs.YtfolipnappekaaaGreat
