/-
  Part 40 of the proof that the statement FnExactSolveTwoPhaseWithin holds.
-/
import Derived.Test.YtfgfigkbgecfnaaCSolveTwoPhaseWithin38
import Derived.Test.YtfgfigkbgecfnaaRows
import Derived.WalkKit
import Derived.ProofKit
import Derived.OpenShut
import Derived.JoinedCond
import Derived.ChangeOld
import Derived.Below
import Derived.Carry
namespace Go.Proofs.Ytfgfigkbgecfnaa
open Go.ChangeShapes Go.WideShapes Go.ChangeAt Go.RowKit
theorem kl {H:Type} : ∀(l:List (DataW H)),(l.map Rows.uptoBulk).sum=Rows.uptoBulkAll l
 | []=>by simp [Rows.uptoBulkAll]
 |d::r=>by simp only [Cb,List.sum_cons,Rows.uptoBulkAll,kl r]
theorem ZR (H:Type):ZB (H:=H) Rows.uptoBulk where
 lit:= λl=>by cases l<;>simp [Rows.uptoBulk]
 str:= λbs=>by simp [Rows.uptoBulk]
 nil:=by simp [Rows.uptoBulk]
 slice:= λes sp=>by simp only [Rows.uptoBulk,kl];omega
 agg:= λps=>by simp only [Rows.uptoBulk,kl];omega
theorem ME {P:Program} {T:Tab} {t:TypeId} {τ:Ty} (h:pk P T t τ):P.cellsOf t=τ.size:=by
 obtain ⟨i,hi,hs,_⟩:=h.info;unfold Program.cellsOf;rw [hi];exact hs
def xS (T:Tab) (P:Program):Ty->Nat->List Field->Bool
 | .unit,_,[]=>true
 | .pair a r,o,f::fs=>decide (f.offset=o)&&(decide (T.ty f.type=some a)&&(decide (P.cellsOf f.type=a.size)&&xS T P r (o+a.size) fs))
 |_,_,_=>false
theorem fP (T:Tab) (P:Program) (τ:Ty): ∀(o:Nat) (l:List Field),xS T P τ o l=true->Fits T P τ o l:=by
 induction τ with
 |unit=>intro o l h;cases l with|nil=>trivial|cons f fs=>simp [xS] at h
 |pair a r _ ih=>
  intro o l h
  cases l with
  |nil=>simp [xS] at h
  |cons f fs=>
   simp only [xS,Ak,Wo] at h;exact ⟨h.1,h.2.1,h.2.2.1,ih _ fs h.2.2.2⟩
 |_=>intro o l h;simp [xS] at h
def oM:Tab:= {Hf with ty:= λt=>(Hf.ty t).filter (·.read)}
theorem gz {t:TypeId} {τ:Ty} :oM.ty t=some τ↔Hf.ty t=some τ/\τ.read=true:=by
 simp only [oM,Option.filter_eq_some_iff]
set_option maxRecDepth 100000 in
theorem PA:ZE Try.prog oM where
 ty:= λt τ h=>by
  obtain ⟨h1,h2⟩:=gz.1 h;have:=Adc t τ h1;refine ⟨this.info,?_⟩;have hd:=this.desc
  cases τ<;>first|exact hd|skip
  ·obtain ⟨te,a,b,c⟩:=hd;exact ⟨te,a,b,gz.2 ⟨c,h2⟩⟩
  ·simp [Ty.read] at h2
 cells:= λt τ h=>ME (Adc t τ (gz.1 h).1)
 fields:=by
  intro t τ h hs;have hr:=(gz.1 h).2;have h:=(gz.1 h).1;simp only [Hf] at h;split at h
  all_goals first
   |(cases h;cases hs;done)
   |skip
  ·cases h;exact ⟨fieldsOf Try.prog 38,(by kernel_rfl),fP oM Try.prog Gi 0 (fieldsOf Try.prog 38).toList (by kernel_rfl)⟩
  ·cases h;exact ⟨fieldsOf Try.prog 29,(by kernel_rfl),fP oM Try.prog Gi 0 (fieldsOf Try.prog 29).toList (by kernel_rfl)⟩
  ·cases h;exact ⟨fieldsOf Try.prog 64,(by kernel_rfl),fP oM Try.prog Qn 0 (fieldsOf Try.prog 64).toList (by kernel_rfl)⟩
  ·cases h;exact ⟨fieldsOf Try.prog 164,(by kernel_rfl),fP oM Try.prog Ad6 0 (fieldsOf Try.prog 164).toList (by kernel_rfl)⟩
  ·cases h;exact absurd hr (by decide)
  ·cases h;exact absurd hr (by decide)
  ·cases h;exact ⟨fieldsOf Try.prog 86,(by kernel_rfl),fP oM Try.prog vY 0 (fieldsOf Try.prog 86).toList (by kernel_rfl)⟩
  ·cases h;exact ⟨fieldsOf Try.prog 50,(by kernel_rfl),fP oM Try.prog Ajb 0 (fieldsOf Try.prog 50).toList (by kernel_rfl)⟩
  ·cases h;exact ⟨fieldsOf Try.prog 35,(by kernel_rfl),fP oM Try.prog QK 0 (fieldsOf Try.prog 35).toList (by kernel_rfl)⟩
  ·cases h
 Aj9:=by
  intro t e h;have h:=(gz.1 h).1;simp only [Hf] at h
  split at h<;>cases h<;>decide
 plain:= λt τ h=>(gz.1 h).2
end Go.Proofs.Ytfgfigkbgecfnaa
