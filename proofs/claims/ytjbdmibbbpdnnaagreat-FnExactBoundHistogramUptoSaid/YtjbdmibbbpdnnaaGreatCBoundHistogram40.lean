/-
  Part 41 of the proof that the statement FnExactBoundHistogram holds.
-/
import Derived.Test.YtjbdmibbbpdnnaaGreatCBoundHistogram39
import Derived.Test.YtjbdmibbbpdnnaaGreatRows
import Derived.WalkKit
import Derived.ProofKit
import Derived.OpenShut
import Derived.JoinedCond
import Derived.ChangeOld
import Derived.Below
import Derived.Carry
namespace Go.Proofs.YtjbdmibbbpdnnaaGreat
open Go.ChangeShapes Go.WideShapes Go.ChangeAt Go.RowKit
theorem dr {H:Type} : ∀(l:List (DataW H)),(l.map Rows.uptoBulk).sum=Rows.uptoBulkAll l
 | []=>by simp [Rows.uptoBulkAll]
 |d::r=>by simp only [List.map_cons,List.sum_cons,Rows.uptoBulkAll,dr r]
theorem IJ (H:Type):HZ (H:=H) Rows.uptoBulk where
 lit:= λl=>by cases l<;>simp [Rows.uptoBulk]
 str:= λbs=>by simp [Rows.uptoBulk]
 nil:=by simp [Rows.uptoBulk]
 slice:= λes sp=>by simp only [Rows.uptoBulk,dr];omega
 agg:= λps=>by simp only [Rows.uptoBulk,dr];omega
theorem yy {P:Program} {T:Tab} {t:TypeId} {τ:Ty} (h:l7 P T t τ):P.cellsOf t=τ.size:=by
 obtain ⟨i,hi,hs,_⟩:=h.info
 unfold Program.cellsOf
 rw [hi]
 exact hs
def qD (T:Tab) (P:Program):Ty->Nat->List Field->Bool
 | .unit,_,[]=>true
 | .pair a r,o,f::fs=>decide (f.offset=o)&&(decide (T.ty f.type=some a)&&(decide (P.cellsOf f.type=a.size)&&qD T P r (o+a.size) fs))
 |_,_,_=>false
theorem dD (T:Tab) (P:Program) (τ:Ty): ∀(o:Nat) (l:List Field),qD T P τ o l=true->Fits T P τ o l:=by
 induction τ with
 |unit=>intro o l h;cases l with|nil=>trivial|cons f fs=>simp [qD] at h
 |pair a r _ ih=>
  intro o l h
  cases l with
  |nil=>simp [qD] at h
  |cons f fs=>
   simp only [qD,Bool.and_eq_true,decide_eq_true_eq] at h
   exact ⟨h.1,h.2.1,h.2.2.1,ih _ fs h.2.2.2⟩
 |_=>intro o l h;simp [qD] at h
def lx:Tab:= {Cl with ty:= λt=>(Cl.ty t).filter (·.read)}
theorem aG {t:TypeId} {τ:Ty} :lx.ty t=some τ↔Cl.ty t=some τ/\τ.read=true:=by
 simp only [lx,Option.filter_eq_some_iff]
set_option maxRecDepth 100000 in
theorem zK:IA Tryz.prog lx where
 ty:= λt τ h=>by
  obtain ⟨h1,h2⟩:=aG.1 h
  have:=ME t τ h1
  refine ⟨this.info,?_⟩
  have hd:=this.desc
  cases τ<;>first|exact hd|skip
  ·obtain ⟨te,a,b,c⟩:=hd
   exact ⟨te,a,b,aG.2 ⟨c,h2⟩⟩
  ·simp [Ty.read] at h2
 cells:= λt τ h=>yy (ME t τ (aG.1 h).1)
 fields:=by
  intro t τ h hs
  have hr:=(aG.1 h).2
  have h:=(aG.1 h).1
  simp only [Cl] at h
  split at h
  all_goals first
   |(cases h;cases hs;done)
   |skip
  ·cases h;exact ⟨fieldsOf Tryz.prog 44,(by kernel_rfl),dD lx Tryz.prog Gl 0 (fieldsOf Tryz.prog 44).toList (by kernel_rfl)⟩
  ·cases h;exact ⟨fieldsOf Tryz.prog 53,(by kernel_rfl),dD lx Tryz.prog Gl 0 (fieldsOf Tryz.prog 53).toList (by kernel_rfl)⟩
  ·cases h;exact ⟨fieldsOf Tryz.prog 24,(by kernel_rfl),dD lx Tryz.prog Dn 0 (fieldsOf Tryz.prog 24).toList (by kernel_rfl)⟩
  ·cases h;exact ⟨fieldsOf Tryz.prog 30,(by kernel_rfl),dD lx Tryz.prog Dn 0 (fieldsOf Tryz.prog 30).toList (by kernel_rfl)⟩
  ·cases h;exact ⟨fieldsOf Tryz.prog 47,(by kernel_rfl),dD lx Tryz.prog aS 0 (fieldsOf Tryz.prog 47).toList (by kernel_rfl)⟩
  ·cases h;exact ⟨fieldsOf Tryz.prog 106,(by kernel_rfl),dD lx Tryz.prog MA 0 (fieldsOf Tryz.prog 106).toList (by kernel_rfl)⟩
  ·cases h;exact absurd hr (by decide)
  ·cases h;exact absurd hr (by decide)
  ·cases h
 SU:=by
  intro t e h
  have h:=(aG.1 h).1
  simp only [Cl] at h
  split at h<;>cases h<;>decide
 plain:= λt τ h=>(aG.1 h).2
end Go.Proofs.YtjbdmibbbpdnnaaGreat
