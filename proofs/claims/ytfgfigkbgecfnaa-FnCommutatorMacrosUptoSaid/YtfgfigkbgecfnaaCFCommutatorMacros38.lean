/-
  Part 39 of the proof that the statement FnCommutatorMacros holds.
-/
import Derived.Test.YtfgfigkbgecfnaaCFCommutatorMacros37
import Derived.Test.YtfgfigkbgecfnaaRows
import Derived.WalkKit
import Derived.ProofKit
import Derived.OpenShut
import Derived.JoinedCond
import Derived.ChangeOld
import Derived.Below
import Derived.Carry
namespace Go.Proofs.Ytfgfigkbgecfnaa
open Go.ChangeShapes Go.WideShapes Go.ChangeAt Go.RowKit
theorem dW {H:Type} : ∀(l:List (DataW H)),(l.map Rows.uptoBulk).sum=Rows.uptoBulkAll l
 | []=>by simp [Rows.uptoBulkAll]
 |d::r=>by simp only [Bl,List.sum_cons,Rows.uptoBulkAll,dW r]
theorem KA (H:Type):AD (H:=H) Rows.uptoBulk where
 lit:= λl=>by cases l<;>simp [Rows.uptoBulk]
 str:= λbs=>by simp [Rows.uptoBulk]
 nil:=by simp [Rows.uptoBulk]
 slice:= λes sp=>by simp only [Rows.uptoBulk,dW];omega
 agg:= λps=>by simp only [Rows.uptoBulk,dW];omega
theorem vn {P:Program} {T:Tab} {t:TypeId} {τ:Ty} (h:lA P T t τ):P.cellsOf t=τ.size:=by
 obtain ⟨i,hi,hs,_⟩:=h.info
 unfold Program.cellsOf
 rw [hi]
 exact hs
def oV (T:Tab) (P:Program):Ty->Nat->List Field->Bool
 | .unit,_,[]=>true
 | .pair a r,o,f::fs=>decide (f.offset=o)&&(decide (T.ty f.type=some a)&&(decide (P.cellsOf f.type=a.size)&&oV T P r (o+a.size) fs))
 |_,_,_=>false
theorem aW (T:Tab) (P:Program) (τ:Ty): ∀(o:Nat) (l:List Field),oV T P τ o l=true->Fits T P τ o l:=by
 induction τ with
 |unit=>intro o l h;cases l with|nil=>trivial|cons f fs=>simp [oV] at h
 |pair a r _ ih=>
  intro o l h
  cases l with
  |nil=>simp [oV] at h
  |cons f fs=>
   simp only [oV,Ag,Ra] at h
   exact ⟨h.1,h.2.1,h.2.2.1,ih _ fs h.2.2.2⟩
 |_=>intro o l h;simp [oV] at h
def kU:Tab:= {Hi with ty:= λt=>(Hi.ty t).filter (·.read)}
theorem bA {t:TypeId} {τ:Ty} :kU.ty t=some τ↔Hi.ty t=some τ/\τ.read=true:=by
 simp only [kU,Option.filter_eq_some_iff]
set_option maxRecDepth 100000 in
theorem MN:AE Try.prog kU where
 ty:= λt τ h=>by
  obtain ⟨h1,h2⟩:=bA.1 h
  have:=ED t τ h1
  refine ⟨this.info,?_⟩
  have hd:=this.desc
  cases τ<;>first|exact hd|skip
  ·obtain ⟨te,a,b,c⟩:=hd
   exact ⟨te,a,b,bA.2 ⟨c,h2⟩⟩
  ·simp [Ty.read] at h2
 cells:= λt τ h=>vn (ED t τ (bA.1 h).1)
 fields:=by
  intro t τ h hs
  have hr:=(bA.1 h).2
  have h:=(bA.1 h).1
  simp only [Hi] at h
  split at h
  all_goals first
   |(cases h;cases hs;done)
   |skip
  ·cases h;exact ⟨fieldsOf Try.prog 38,(by kernel_rfl),aW kU Try.prog Oq 0 (fieldsOf Try.prog 38).toList (by kernel_rfl)⟩
  ·cases h;exact ⟨fieldsOf Try.prog 29,(by kernel_rfl),aW kU Try.prog Oq 0 (fieldsOf Try.prog 29).toList (by kernel_rfl)⟩
  ·cases h;exact ⟨fieldsOf Try.prog 64,(by kernel_rfl),aW kU Try.prog ya 0 (fieldsOf Try.prog 64).toList (by kernel_rfl)⟩
  ·cases h;exact ⟨fieldsOf Try.prog 164,(by kernel_rfl),aW kU Try.prog EC 0 (fieldsOf Try.prog 164).toList (by kernel_rfl)⟩
  ·cases h;exact absurd hr (by decide)
  ·cases h;exact absurd hr (by decide)
  ·cases h;exact ⟨fieldsOf Try.prog 86,(by kernel_rfl),aW kU Try.prog s6 0 (fieldsOf Try.prog 86).toList (by kernel_rfl)⟩
  ·cases h;exact ⟨fieldsOf Try.prog 50,(by kernel_rfl),aW kU Try.prog JP 0 (fieldsOf Try.prog 50).toList (by kernel_rfl)⟩
  ·cases h;exact ⟨fieldsOf Try.prog 35,(by kernel_rfl),aW kU Try.prog nw 0 (fieldsOf Try.prog 35).toList (by kernel_rfl)⟩
  ·cases h
 JO:=by
  intro t e h
  have h:=(bA.1 h).1
  simp only [Hi] at h
  split at h<;>cases h<;>decide
 plain:= λt τ h=>(bA.1 h).2
end Go.Proofs.Ytfgfigkbgecfnaa
