/-
  Part 40 of the proof that the statement FnTwoPhase holds.
-/
import Derived.Test.YtkkdpknjohcekaaCFTwoPhase38
import Derived.Test.YtkkdpknjohcekaaRows
import Derived.WalkKit
import Derived.ProofKit
import Derived.OpenShut
import Derived.JoinedCond
import Derived.ChangeOld
import Derived.Below
import Derived.Carry
namespace Go.Proofs.Ytkkdpknjohcekaa
open Go.ChangeShapes Go.WideShapes Go.ChangeAt Go.RowKit
theorem jR {H:Type} : ∀(l:List (DataW H)),(l.map Rows.uptoBulk).sum=Rows.uptoBulkAll l
 | []=>by simp [Rows.uptoBulkAll]
 |d::r=>by simp only [Ca,List.sum_cons,Rows.uptoBulkAll,jR r]
theorem Aic (H:Type):XV (H:=H) Rows.uptoBulk where
 lit:= λl=>by cases l<;>simp [Rows.uptoBulk]
 str:= λbs=>by simp [Rows.uptoBulk]
 nil:=by simp [Rows.uptoBulk]
 slice:= λes sp=>by simp only [Rows.uptoBulk,jR];omega
 agg:= λps=>by simp only [Rows.uptoBulk,jR];omega
theorem KS {P:Program} {T:Tab} {t:TypeId} {τ:Ty} (h:oR P T t τ):P.cellsOf t=τ.size:=by
 obtain ⟨i,hi,hs,_⟩:=h.info
 unfold Program.cellsOf
 rw [hi]
 exact hs
def xl (T:Tab) (P:Program):Ty->Nat->List Field->Bool
 | .unit,_,[]=>true
 | .pair a r,o,f::fs=>decide (f.offset=o)&&(decide (T.ty f.type=some a)&&(decide (P.cellsOf f.type=a.size)&&xl T P r (o+a.size) fs))
 |_,_,_=>false
theorem cG (T:Tab) (P:Program) (τ:Ty): ∀(o:Nat) (l:List Field),xl T P τ o l=true->Fits T P τ o l:=by
 induction τ with
 |unit=>intro o l h;cases l with|nil=>trivial|cons f fs=>simp [xl] at h
 |pair a r _ ih=>
  intro o l h
  cases l with
  |nil=>simp [xl] at h
  |cons f fs=>
   simp only [xl,Aj,Rc] at h
   exact ⟨h.1,h.2.1,h.2.2.1,ih _ fs h.2.2.2⟩
 |_=>intro o l h;simp [xl] at h
def pO:Tab:= {Gz with ty:= λt=>(Gz.ty t).filter (·.read)}
theorem fU {t:TypeId} {τ:Ty} :pO.ty t=some τ↔Gz.ty t=some τ/\τ.read=true:=by
 simp only [pO,Option.filter_eq_some_iff]
set_option maxRecDepth 100000 in
theorem Ako:XX Try.prog pO where
 ty:= λt τ h=>by
  obtain ⟨h1,h2⟩:=fU.1 h
  have:=Acb t τ h1
  refine ⟨this.info,?_⟩
  have hd:=this.desc
  cases τ<;>first|exact hd|skip
  ·obtain ⟨te,a,b,c⟩:=hd
   exact ⟨te,a,b,fU.2 ⟨c,h2⟩⟩
  ·simp [Ty.read] at h2
 cells:= λt τ h=>KS (Acb t τ (fU.1 h).1)
 fields:=by
  intro t τ h hs
  have hr:=(fU.1 h).2
  have h:=(fU.1 h).1
  simp only [Gz] at h
  split at h
  all_goals first
   |(cases h;cases hs;done)
   |skip
  ·cases h;exact ⟨fieldsOf Try.prog 48,(by kernel_rfl),cG pO Try.prog CA 0 (fieldsOf Try.prog 48).toList (by kernel_rfl)⟩
  ·cases h;exact ⟨fieldsOf Try.prog 29,(by kernel_rfl),cG pO Try.prog Iw 0 (fieldsOf Try.prog 29).toList (by kernel_rfl)⟩
  ·cases h;exact ⟨fieldsOf Try.prog 84,(by kernel_rfl),cG pO Try.prog Xf 0 (fieldsOf Try.prog 84).toList (by kernel_rfl)⟩
  ·cases h;exact ⟨fieldsOf Try.prog 198,(by kernel_rfl),cG pO Try.prog BY 0 (fieldsOf Try.prog 198).toList (by kernel_rfl)⟩
  ·cases h;exact ⟨fieldsOf Try.prog 189,(by kernel_rfl),cG pO Try.prog BY 0 (fieldsOf Try.prog 189).toList (by kernel_rfl)⟩
  ·cases h;exact absurd hr (by decide)
  ·cases h;exact absurd hr (by decide)
  ·cases h;exact absurd hr (by decide)
  ·cases h;exact ⟨fieldsOf Try.prog 141,(by kernel_rfl),cG pO Try.prog vr 0 (fieldsOf Try.prog 141).toList (by kernel_rfl)⟩
  ·cases h;exact ⟨fieldsOf Try.prog 75,(by kernel_rfl),cG pO Try.prog Ai0 0 (fieldsOf Try.prog 75).toList (by kernel_rfl)⟩
  ·cases h;exact ⟨fieldsOf Try.prog 64,(by kernel_rfl),cG pO Try.prog OX 0 (fieldsOf Try.prog 64).toList (by kernel_rfl)⟩
  ·cases h
 Ahz:=by
  intro t e h
  have h:=(fU.1 h).1
  simp only [Gz] at h
  split at h<;>cases h<;>decide
 plain:= λt τ h=>(fU.1 h).2
end Go.Proofs.Ytkkdpknjohcekaa
