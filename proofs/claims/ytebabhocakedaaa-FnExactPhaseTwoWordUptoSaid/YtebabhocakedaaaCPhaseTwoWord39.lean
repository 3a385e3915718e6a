/-
  Part 40 of the proof that the statement FnExactPhaseTwoWord holds.
-/
import Derived.Test.YtebabhocakedaaaCPhaseTwoWord38
import Derived.Test.YtebabhocakedaaaRows
import Derived.WalkKit
import Derived.ProofKit
import Derived.OpenShut
import Derived.JoinedCond
import Derived.ChangeOld
import Derived.Below
import Derived.Carry
namespace Go.Proofs.Ytebabhocakedaaa
open Go.ChangeShapes Go.WideShapes Go.ChangeAt Go.RowKit
theorem Abb {H:Type} : ∀(l:List (DataW H)),(l.map Rows.uptoBulk).sum=Rows.uptoBulkAll l
 | []=>by simp [Rows.uptoBulkAll]
 |d::r=>by simp only [List.map_cons,List.sum_cons,Rows.uptoBulkAll,Abb r]
theorem Bcw (H:Type):Bck (H:=H) Rows.uptoBulk where
 lit:=fun l=>by cases l<;>simp [Rows.uptoBulk]
 str:=fun bs=>by simp [Rows.uptoBulk]
 nil:=by simp [Rows.uptoBulk]
 slice:=fun es sp=>by simp only [Rows.uptoBulk,Abb];omega
 agg:=fun ps=>by simp only [Rows.uptoBulk,Abb];omega
theorem Awz {P:Program} {T:Tab} {t:TypeId} {τ:Ty} (h:Aiw P T t τ):P.cellsOf t=τ.size:=by
 obtain ⟨i,hi,hs,_⟩:=h.info
 unfold Program.cellsOf
 rw [hi]
 exact hs
def Aod (T:Tab) (P:Program):Ty→Nat→List Field→Bool
 | .unit,_,[]=>true
 | .pair a r,o,f::fs=>decide (f.offset=o)&&(decide (T.ty f.type=some a)&&(decide (P.cellsOf f.type=a.size)&&Aod T P r (o+a.size) fs))
 |_,_,_=>false
theorem Ajf (T:Tab) (P:Program) (τ:Ty): ∀(o:Nat) (l:List Field),Aod T P τ o l=true→Fits T P τ o l:=by
 induction τ with
 |unit=>intro o l h;cases l with|nil=>trivial|cons f fs=>simp [Aod] at h
 |pair a r _ ih=>
  intro o l h
  cases l with
  |nil=>simp [Aod] at h
  |cons f fs=>
   simp only [Aod,Bool.and_eq_true,decide_eq_true_eq] at h
   exact ⟨h.1,h.2.1,h.2.2.1,ih _ fs h.2.2.2⟩
 |_=>intro o l h;simp [Aod] at h
def Ane:Tab:= {tab with ty:=fun t=>(tab.ty t).filter (·.read)}
theorem Xr {t:TypeId} {τ:Ty} :Ane.ty t=some τ↔tab.ty t=some τ∧τ.read=true:=by
 simp only [Ane,Option.filter_eq_some_iff]
set_option maxRecDepth 100000 in
theorem Ay8:Bcm Try.prog Ane where
 ty:=fun t τ h=>by
  obtain ⟨h1,h2⟩:=Xr.1 h
  have:=Bep t τ h1
  refine ⟨this.info,?_⟩
  have hd:=this.desc
  cases τ<;>first|exact hd|skip
  ·obtain ⟨te,a,b,c⟩:=hd
   exact ⟨te,a,b,Xr.2 ⟨c,h2⟩⟩
  ·simp [Ty.read] at h2
 cells:=fun t τ h=>Awz (Bep t τ (Xr.1 h).1)
 fields:=by
  intro t τ h hs
  have hr:=(Xr.1 h).2
  have h:=(Xr.1 h).1
  simp only [tab] at h
  split at h
  all_goals first
   |(cases h;cases hs;done)
   |skip
  ·cases h;exact ⟨fieldsOf Try.prog 24,(by kernel_rfl),Ajf Ane Try.prog Cq 0 (fieldsOf Try.prog 24).toList (by kernel_rfl)⟩
  ·cases h;exact ⟨fieldsOf Try.prog 28,(by kernel_rfl),Ajf Ane Try.prog Cq 0 (fieldsOf Try.prog 28).toList (by kernel_rfl)⟩
  ·cases h;exact ⟨fieldsOf Try.prog 61,(by kernel_rfl),Ajf Ane Try.prog Np 0 (fieldsOf Try.prog 61).toList (by kernel_rfl)⟩
  ·cases h;exact ⟨fieldsOf Try.prog 143,(by kernel_rfl),Ajf Ane Try.prog Bel 0 (fieldsOf Try.prog 143).toList (by kernel_rfl)⟩
  ·cases h;exact absurd hr (by decide)
  ·cases h;exact absurd hr (by decide)
  ·cases h
 some':=by
  intro t e h
  have h:=(Xr.1 h).1
  simp only [tab] at h
  split at h<;>cases h<;>decide
 plain:=fun t τ h=>(Xr.1 h).2
end Go.Proofs.Ytebabhocakedaaa
