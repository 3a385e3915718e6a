/-
  Part 40 of the proof that the statement FnBoundStatistics holds.
-/
import Derived.Test.YtkkdpknjohcekaaCFBoundStatistics38
import Derived.Test.YtkkdpknjohcekaaRows
import Derived.WalkKit
import Derived.ProofKit
import Derived.OpenShut
import Derived.JoinedCond
import Derived.ChangeOld
import Derived.Below
import Derived.Carry
namespace Go.Proofs.Ytkkdpknjohcekaa
open Go.ChangeShapes Go.WideShapes Go.ChangeAt Go.RowKit
theorem jD {H:Type} : ∀(l:List (DataW H)),(l.map Rows.uptoBulk).sum=Rows.uptoBulkAll l
 | []=>by simp [Rows.uptoBulkAll]
 |d::r=>by simp only [Bm,Sn,Rows.uptoBulkAll,jD r]
theorem Ah1 (H:Type):WM (H:=H) Rows.uptoBulk where
 lit:= λl=>by cases l<;>simp [Rows.uptoBulk]
 str:= λbs=>by simp [Rows.uptoBulk]
 nil:=by simp [Rows.uptoBulk]
 slice:= λes sp=>by simp only [Rows.uptoBulk,jD];omega
 agg:= λps=>by simp only [Rows.uptoBulk,jD];omega
theorem JW {P:Program} {T:Tab} {t:TypeId} {τ:Ty} (h:oJ P T t τ):P.cellsOf t=τ.size:=by
 obtain ⟨i,hi,hs,_⟩:=h.info
 unfold Program.cellsOf
 rw [hi]
 exact hs
def x9 (T:Tab) (P:Program):Ty->Nat->List Field->Bool
 | .unit,_,[]=>true
 | .pair a r,o,f::fs=>decide (f.offset=o)&&(decide (T.ty f.type=some a)&&(decide (P.cellsOf f.type=a.size)&&x9 T P r (o+a.size) fs))
 |_,_,_=>false
theorem cA (T:Tab) (P:Program) (τ:Ty): ∀(o:Nat) (l:List Field),x9 T P τ o l=true->Fits T P τ o l:=by
 induction τ with
 |unit=>intro o l h;cases l with|nil=>trivial|cons f fs=>simp [x9] at h
 |pair a r _ ih=>
  intro o l h
  cases l with
  |nil=>simp [x9] at h
  |cons f fs=>
   simp only [x9,Af,Rd] at h
   exact ⟨h.1,h.2.1,h.2.2.1,ih _ fs h.2.2.2⟩
 |_=>intro o l h;simp [x9] at h
def pD:Tab:= {Hf with ty:= λt=>(Hf.ty t).filter (·.read)}
theorem fI {t:TypeId} {τ:Ty} :pD.ty t=some τ↔Hf.ty t=some τ/\τ.read=true:=by
 simp only [pD,Option.filter_eq_some_iff]
set_option maxRecDepth 100000 in
theorem Ajd:WO Try.prog pD where
 ty:= λt τ h=>by
  obtain ⟨h1,h2⟩:=fI.1 h
  have:=Abh t τ h1
  refine ⟨this.info,?_⟩
  have hd:=this.desc
  cases τ<;>first|exact hd|skip
  ·obtain ⟨te,a,b,c⟩:=hd
   exact ⟨te,a,b,fI.2 ⟨c,h2⟩⟩
  ·simp [Ty.read] at h2
 cells:= λt τ h=>JW (Abh t τ (fI.1 h).1)
 fields:=by
  intro t τ h hs
  have hr:=(fI.1 h).2
  have h:=(fI.1 h).1
  simp only [Hf] at h
  split at h
  all_goals first
   |(cases h;cases hs;done)
   |skip
  ·cases h;exact ⟨fieldsOf Try.prog 48,(by kernel_rfl),cA pD Try.prog cd 0 (fieldsOf Try.prog 48).toList (by kernel_rfl)⟩
  ·cases h;exact ⟨fieldsOf Try.prog 29,(by kernel_rfl),cA pD Try.prog Ma 0 (fieldsOf Try.prog 29).toList (by kernel_rfl)⟩
  ·cases h;exact ⟨fieldsOf Try.prog 84,(by kernel_rfl),cA pD Try.prog kx 0 (fieldsOf Try.prog 84).toList (by kernel_rfl)⟩
  ·cases h;exact ⟨fieldsOf Try.prog 198,(by kernel_rfl),cA pD Try.prog BA 0 (fieldsOf Try.prog 198).toList (by kernel_rfl)⟩
  ·cases h;exact ⟨fieldsOf Try.prog 189,(by kernel_rfl),cA pD Try.prog BA 0 (fieldsOf Try.prog 189).toList (by kernel_rfl)⟩
  ·cases h;exact absurd hr (by decide)
  ·cases h;exact absurd hr (by decide)
  ·cases h;exact absurd hr (by decide)
  ·cases h;exact ⟨fieldsOf Try.prog 141,(by kernel_rfl),cA pD Try.prog BC 0 (fieldsOf Try.prog 141).toList (by kernel_rfl)⟩
  ·cases h;exact ⟨fieldsOf Try.prog 75,(by kernel_rfl),cA pD Try.prog Ago 0 (fieldsOf Try.prog 75).toList (by kernel_rfl)⟩
  ·cases h;exact ⟨fieldsOf Try.prog 64,(by kernel_rfl),cA pD Try.prog OC 0 (fieldsOf Try.prog 64).toList (by kernel_rfl)⟩
  ·cases h
 Agn:=by
  intro t e h
  have h:=(fI.1 h).1
  simp only [Hf] at h
  split at h<;>cases h<;>decide
 plain:= λt τ h=>(fI.1 h).2
end Go.Proofs.Ytkkdpknjohcekaa
