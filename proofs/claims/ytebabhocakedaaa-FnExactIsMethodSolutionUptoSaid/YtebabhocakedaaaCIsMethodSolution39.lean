/-
  Part 40 of the proof that the statement FnExactIsMethodSolution holds.
-/
import Derived.Test.YtebabhocakedaaaCIsMethodSolution38
import Derived.Test.YtebabhocakedaaaRows
import Derived.WalkKit
import Derived.ProofKit
import Derived.OpenShut
import Derived.JoinedCond
import Derived.ChangeOld
import Derived.Below
import Derived.Carry
namespace Go.Proofs.Ytebabhocakedaaa
open Go.ChangeShapes Go.WideShapes Go.ChangeAt Go.RowKit
theorem Aa1 {H:Type} : ∀(l:List (DataW H)),(l.map Rows.uptoBulk).sum=Rows.uptoBulkAll l
 | []=>by simp [Rows.uptoBulkAll]
 |d::r=>by simp only [List.map_cons,List.sum_cons,Rows.uptoBulkAll,Aa1 r]
theorem Bb0 (H:Type):Bar (H:=H) Rows.uptoBulk where
 lit:=fun l=>by cases l<;>simp [Rows.uptoBulk]
 str:=fun bs=>by simp [Rows.uptoBulk]
 nil:=by simp [Rows.uptoBulk]
 slice:=fun es sp=>by simp only [Rows.uptoBulk,Aa1];omega
 agg:=fun ps=>by simp only [Rows.uptoBulk,Aa1];omega
theorem Avb {P:Program} {T:Tab} {t:TypeId} {τ:Ty} (h:Ahh P T t τ):P.cellsOf t=τ.size:=by
 obtain ⟨i,hi,hs,_⟩:=h.info
 unfold Program.cellsOf
 rw [hi]
 exact hs
def Amr (T:Tab) (P:Program):Ty→Nat→List Field→Bool
 | .unit,_,[]=>true
 | .pair a r,o,f::fs=>decide (f.offset=o)&&(decide (T.ty f.type=some a)&&(decide (P.cellsOf f.type=a.size)&&Amr T P r (o+a.size) fs))
 |_,_,_=>false
theorem Ahx (T:Tab) (P:Program) (τ:Ty): ∀(o:Nat) (l:List Field),Amr T P τ o l=true→Fits T P τ o l:=by
 induction τ with
 |unit=>intro o l h;cases l with|nil=>trivial|cons f fs=>simp [Amr] at h
 |pair a r _ ih=>
  intro o l h
  cases l with
  |nil=>simp [Amr] at h
  |cons f fs=>
   simp only [Amr,Bool.and_eq_true,decide_eq_true_eq] at h
   exact ⟨h.1,h.2.1,h.2.2.1,ih _ fs h.2.2.2⟩
 |_=>intro o l h;simp [Amr] at h
def Alv:Tab:= {tab with ty:=fun t=>(tab.ty t).filter (·.read)}
theorem Wh {t:TypeId} {τ:Ty} :Alv.ty t=some τ↔tab.ty t=some τ∧τ.read=true:=by
 simp only [Alv,Option.filter_eq_some_iff]
set_option maxRecDepth 100000 in
theorem Awl:Bas Try.prog Alv where
 ty:=fun t τ h=>by
  obtain ⟨h1,h2⟩:=Wh.1 h
  have:=Bco t τ h1
  refine ⟨this.info,?_⟩
  have hd:=this.desc
  cases τ<;>first|exact hd|skip
  ·obtain ⟨te,a,b,c⟩:=hd
   exact ⟨te,a,b,Wh.2 ⟨c,h2⟩⟩
  ·simp [Ty.read] at h2
 cells:=fun t τ h=>Avb (Bco t τ (Wh.1 h).1)
 fields:=by
  intro t τ h hs
  have hr:=(Wh.1 h).2
  have h:=(Wh.1 h).1
  simp only [tab] at h
  split at h
  all_goals first
   |(cases h;cases hs;done)
   |skip
  ·cases h;exact ⟨fieldsOf Try.prog 24,(by kernel_rfl),Ahx Alv Try.prog Ct 0 (fieldsOf Try.prog 24).toList (by kernel_rfl)⟩
  ·cases h;exact ⟨fieldsOf Try.prog 28,(by kernel_rfl),Ahx Alv Try.prog Ct 0 (fieldsOf Try.prog 28).toList (by kernel_rfl)⟩
  ·cases h;exact ⟨fieldsOf Try.prog 61,(by kernel_rfl),Ahx Alv Try.prog Wq 0 (fieldsOf Try.prog 61).toList (by kernel_rfl)⟩
  ·cases h;exact ⟨fieldsOf Try.prog 143,(by kernel_rfl),Ahx Alv Try.prog Bcj 0 (fieldsOf Try.prog 143).toList (by kernel_rfl)⟩
  ·cases h;exact absurd hr (by decide)
  ·cases h;exact absurd hr (by decide)
  ·cases h
 some':=by
  intro t e h
  have h:=(Wh.1 h).1
  simp only [tab] at h
  split at h<;>cases h<;>decide
 plain:=fun t τ h=>(Wh.1 h).2
end Go.Proofs.Ytebabhocakedaaa
