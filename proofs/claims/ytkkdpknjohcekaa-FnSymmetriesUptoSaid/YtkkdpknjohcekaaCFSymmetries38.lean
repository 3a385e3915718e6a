/-
  Part 39 of the proof that the statement FnSymmetries holds.
-/
import Derived.Test.YtkkdpknjohcekaaCFSymmetries37
import Derived.Test.YtkkdpknjohcekaaRows
import Derived.WalkKit
import Derived.ProofKit
import Derived.OpenShut
import Derived.JoinedCond
import Derived.ChangeOld
import Derived.Below
import Derived.Carry
namespace Go.Proofs.Ytkkdpknjohcekaa
open Go.ChangeShapes Go.WideShapes Go.ChangeAt Go.RowKit
theorem gI {H:Type} : ∀(l:List (DataW H)),(l.map Rows.uptoBulk).sum=Rows.uptoBulkAll l
 | []=>by simp [Rows.uptoBulkAll]
 |d::r=>by simp only [Bw,List.sum_cons,Rows.uptoBulkAll,gI r]
theorem YJ (H:Type):MS (H:=H) Rows.uptoBulk where
 lit:= λl=>by cases l<;>simp [Rows.uptoBulk]
 str:= λbs=>by simp [Rows.uptoBulk]
 nil:=by simp [Rows.uptoBulk]
 slice:= λes sp=>by simp only [Rows.uptoBulk,gI];omega
 agg:= λps=>by simp only [Rows.uptoBulk,gI];omega
theorem BO {P:Program} {T:Tab} {t:TypeId} {τ:Ty} (h:pd P T t τ):P.cellsOf t=τ.size:=by
 obtain ⟨i,hi,hs,_⟩:=h.info
 unfold Program.cellsOf
 rw [hi]
 exact hs
def tv (T:Tab) (P:Program):Ty->Nat->List Field->Bool
 | .unit,_,[]=>true
 | .pair a r,o,f::fs=>decide (f.offset=o)&&(decide (T.ty f.type=some a)&&(decide (P.cellsOf f.type=a.size)&&tv T P r (o+a.size) fs))
 |_,_,_=>false
theorem bh (T:Tab) (P:Program) (τ:Ty): ∀(o:Nat) (l:List Field),tv T P τ o l=true->Fits T P τ o l:=by
 induction τ with
 |unit=>intro o l h;cases l with|nil=>trivial|cons f fs=>simp [tv] at h
 |pair a r _ ih=>
  intro o l h
  cases l with
  |nil=>simp [tv] at h
  |cons f fs=>
   simp only [tv,Ag,Uo] at h
   exact ⟨h.1,h.2.1,h.2.2.1,ih _ fs h.2.2.2⟩
 |_=>intro o l h;simp [tv] at h
def mU:Tab:= {Fz with ty:= λt=>(Fz.ty t).filter (·.read)}
theorem dJ {t:TypeId} {τ:Ty} :mU.ty t=some τ↔Fz.ty t=some τ/\τ.read=true:=by
 simp only [mU,Option.filter_eq_some_iff]
set_option maxRecDepth 100000 in
theorem Aao:MT Try.prog mU where
 ty:= λt τ h=>by
  obtain ⟨h1,h2⟩:=dJ.1 h
  have:=RT t τ h1
  refine ⟨this.info,?_⟩
  have hd:=this.desc
  cases τ<;>first|exact hd|skip
  ·obtain ⟨te,a,b,c⟩:=hd
   exact ⟨te,a,b,dJ.2 ⟨c,h2⟩⟩
  ·simp [Ty.read] at h2
 cells:= λt τ h=>BO (RT t τ (dJ.1 h).1)
 fields:=by
  intro t τ h hs
  have hr:=(dJ.1 h).2
  have h:=(dJ.1 h).1
  simp only [Fz] at h
  split at h
  all_goals first
   |(cases h;cases hs;done)
   |skip
  ·cases h;exact ⟨fieldsOf Try.prog 48,(by kernel_rfl),bh mU Try.prog xg 0 (fieldsOf Try.prog 48).toList (by kernel_rfl)⟩
  ·cases h;exact ⟨fieldsOf Try.prog 29,(by kernel_rfl),bh mU Try.prog Ij 0 (fieldsOf Try.prog 29).toList (by kernel_rfl)⟩
  ·cases h;exact ⟨fieldsOf Try.prog 84,(by kernel_rfl),bh mU Try.prog bF 0 (fieldsOf Try.prog 84).toList (by kernel_rfl)⟩
  ·cases h;exact ⟨fieldsOf Try.prog 198,(by kernel_rfl),bh mU Try.prog xe 0 (fieldsOf Try.prog 198).toList (by kernel_rfl)⟩
  ·cases h;exact ⟨fieldsOf Try.prog 189,(by kernel_rfl),bh mU Try.prog xe 0 (fieldsOf Try.prog 189).toList (by kernel_rfl)⟩
  ·cases h;exact absurd hr (by decide)
  ·cases h;exact absurd hr (by decide)
  ·cases h;exact absurd hr (by decide)
  ·cases h;exact ⟨fieldsOf Try.prog 141,(by kernel_rfl),bh mU Try.prog xf 0 (fieldsOf Try.prog 141).toList (by kernel_rfl)⟩
  ·cases h;exact ⟨fieldsOf Try.prog 75,(by kernel_rfl),bh mU Try.prog XW 0 (fieldsOf Try.prog 75).toList (by kernel_rfl)⟩
  ·cases h;exact ⟨fieldsOf Try.prog 64,(by kernel_rfl),bh mU Try.prog FA 0 (fieldsOf Try.prog 64).toList (by kernel_rfl)⟩
  ·cases h
 XV:=by
  intro t e h
  have h:=(dJ.1 h).1
  simp only [Fz] at h
  split at h<;>cases h<;>decide
 plain:= λt τ h=>(dJ.1 h).2
end Go.Proofs.Ytkkdpknjohcekaa
