/-
  Part 40 of the proof that the statement FnIterativeDeepening holds.
-/
import Derived.Test.YtkkdpknjohcekaaGreatCFIterativeDeepening38
import Derived.Test.YtkkdpknjohcekaaGreatRows
import Derived.WalkKit
import Derived.ProofKit
import Derived.OpenShut
import Derived.JoinedCond
import Derived.ChangeOld
import Derived.Below
import Derived.Carry
namespace Go.Proofs.YtkkdpknjohcekaaGreat
open Go.ChangeShapes Go.WideShapes Go.ChangeAt Go.RowKit
theorem jB {H:Type} : ∀(l:List (DataW H)),(l.map Rows.uptoBulk).sum=Rows.uptoBulkAll l
 | []=>by simp [Rows.uptoBulkAll]
 |d::r=>by simp only [Cc,List.sum_cons,Rows.uptoBulkAll,jB r]
theorem Agq (H:Type):WJ (H:=H) Rows.uptoBulk where
 lit:= λl=>by cases l<;>simp [Rows.uptoBulk]
 str:= λbs=>by simp [Rows.uptoBulk]
 nil:=by simp [Rows.uptoBulk]
 slice:= λes sp=>by simp only [Rows.uptoBulk,jB];omega
 agg:= λps=>by simp only [Rows.uptoBulk,jB];omega
theorem IX {P:Program} {T:Tab} {t:TypeId} {τ:Ty} (h:qV P T t τ):P.cellsOf t=τ.size:=by
 obtain ⟨i,hi,hs,_⟩:=h.info
 unfold Program.cellsOf
 rw [hi]
 exact hs
def x9 (T:Tab) (P:Program):Ty->Nat->List Field->Bool
 | .unit,_,[]=>true
 | .pair a r,o,f::fs=>decide (f.offset=o)&&(decide (T.ty f.type=some a)&&(decide (P.cellsOf f.type=a.size)&&x9 T P r (o+a.size) fs))
 |_,_,_=>false
theorem jO (T:Tab) (P:Program) (τ:Ty): ∀(o:Nat) (l:List Field),x9 T P τ o l=true->Fits T P τ o l:=by
 induction τ with
 |unit=>intro o l h;cases l with|nil=>trivial|cons f fs=>simp [x9] at h
 |pair a r _ ih=>
  intro o l h
  cases l with
  |nil=>simp [x9] at h
  |cons f fs=>
   simp only [x9,Ag,Ri] at h
   exact ⟨h.1,h.2.1,h.2.2.1,ih _ fs h.2.2.2⟩
 |_=>intro o l h;simp [x9] at h
def uo:Tab:= {Gr with ty:= λt=>(Gr.ty t).filter (·.read)}
theorem fM {t:TypeId} {τ:Ty} :uo.ty t=some τ↔Gr.ty t=some τ/\τ.read=true:=by
 simp only [uo,Option.filter_eq_some_iff]
set_option maxRecDepth 100000 in
theorem Aj0:WL Tryz.prog uo where
 ty:= λt τ h=>by
  obtain ⟨h1,h2⟩:=fM.1 h
  have:=Aba t τ h1
  refine ⟨this.info,?_⟩
  have hd:=this.desc
  cases τ<;>first|exact hd|skip
  ·obtain ⟨te,a,b,c⟩:=hd
   exact ⟨te,a,b,fM.2 ⟨c,h2⟩⟩
  ·simp [Ty.read] at h2
 cells:= λt τ h=>IX (Aba t τ (fM.1 h).1)
 fields:=by
  intro t τ h hs
  have hr:=(fM.1 h).2
  have h:=(fM.1 h).1
  simp only [Gr] at h
  split at h
  all_goals first
   |(cases h;cases hs;done)
   |skip
  ·cases h;exact ⟨fieldsOf Tryz.prog 47,(by kernel_rfl),jO uo Tryz.prog cg 0 (fieldsOf Tryz.prog 47).toList (by kernel_rfl)⟩
  ·cases h;exact ⟨fieldsOf Tryz.prog 29,(by kernel_rfl),jO uo Tryz.prog Jc 0 (fieldsOf Tryz.prog 29).toList (by kernel_rfl)⟩
  ·cases h;exact ⟨fieldsOf Tryz.prog 72,(by kernel_rfl),jO uo Tryz.prog bb 0 (fieldsOf Tryz.prog 72).toList (by kernel_rfl)⟩
  ·cases h;exact ⟨fieldsOf Tryz.prog 165,(by kernel_rfl),jO uo Tryz.prog AO 0 (fieldsOf Tryz.prog 165).toList (by kernel_rfl)⟩
  ·cases h;exact ⟨fieldsOf Tryz.prog 170,(by kernel_rfl),jO uo Tryz.prog AO 0 (fieldsOf Tryz.prog 170).toList (by kernel_rfl)⟩
  ·cases h;exact absurd hr (by decide)
  ·cases h;exact absurd hr (by decide)
  ·cases h;exact absurd hr (by decide)
  ·cases h;exact ⟨fieldsOf Tryz.prog 69,(by kernel_rfl),jO uo Tryz.prog Age 0 (fieldsOf Tryz.prog 69).toList (by kernel_rfl)⟩
  ·cases h
 Agd:=by
  intro t e h
  have h:=(fM.1 h).1
  simp only [Gr] at h
  split at h<;>cases h<;>decide
 plain:= λt τ h=>(fM.1 h).2
end Go.Proofs.YtkkdpknjohcekaaGreat
