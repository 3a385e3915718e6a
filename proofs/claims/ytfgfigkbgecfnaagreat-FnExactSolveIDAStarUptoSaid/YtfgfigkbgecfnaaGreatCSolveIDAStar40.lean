/-
  Part 41 of the proof that the statement FnExactSolveIDAStar holds.
-/
import Derived.Test.YtfgfigkbgecfnaaGreatCSolveIDAStar39
import Derived.Test.YtfgfigkbgecfnaaGreatRows
import Derived.WalkKit
import Derived.ProofKit
import Derived.OpenShut
import Derived.JoinedCond
import Derived.ChangeOld
import Derived.Below
import Derived.Carry
namespace Go.Proofs.YtfgfigkbgecfnaaGreat
open Go.ChangeShapes Go.WideShapes Go.ChangeAt Go.RowKit
theorem kI {H:Type} : ∀(l:List (DataW H)),(l.map Rows.uptoBulk).sum=Rows.uptoBulkAll l
 | []=>by simp [Rows.uptoBulkAll]
 |d::r=>by simp only [Ce,List.sum_cons,Rows.uptoBulkAll,kI r]
theorem Abv (H:Type):Abe (H:=H) Rows.uptoBulk where
 lit:= λl=>by cases l<;>simp [Rows.uptoBulk]
 str:= λbs=>by simp [Rows.uptoBulk]
 nil:=by simp [Rows.uptoBulk]
 slice:= λes sp=>by simp only [Rows.uptoBulk,kI];omega
 agg:= λps=>by simp only [Rows.uptoBulk,kI];omega
theorem OZ {P:Program} {T:Tab} {t:TypeId} {τ:Ty} (h:q7 P T t τ):P.cellsOf t=τ.size:=by
 obtain ⟨i,hi,hs,_⟩:=h.info
 unfold Program.cellsOf
 rw [hi]
 exact hs
def zo (T:Tab) (P:Program):Ty->Nat->List Field->Bool
 | .unit,_,[]=>true
 | .pair a r,o,f::fs=>decide (f.offset=o)&&(decide (T.ty f.type=some a)&&(decide (P.cellsOf f.type=a.size)&&zo T P r (o+a.size) fs))
 |_,_,_=>false
theorem dt (T:Tab) (P:Program) (τ:Ty): ∀(o:Nat) (l:List Field),zo T P τ o l=true->Fits T P τ o l:=by
 induction τ with
 |unit=>intro o l h;cases l with|nil=>trivial|cons f fs=>simp [zo] at h
 |pair a r _ ih=>
  intro o l h
  cases l with
  |nil=>simp [zo] at h
  |cons f fs=>
   simp only [zo,Af,Nn] at h
   exact ⟨h.1,h.2.1,h.2.2.1,ih _ fs h.2.2.2⟩
 |_=>intro o l h;simp [zo] at h
def nD:Tab:= {En with ty:= λt=>(En.ty t).filter (·.read)}
theorem gG {t:TypeId} {τ:Ty} :nD.ty t=some τ↔En.ty t=some τ/\τ.read=true:=by
 simp only [nD,Option.filter_eq_some_iff]
set_option maxRecDepth 100000 in
theorem SD:Abf Tryz.prog nD where
 ty:= λt τ h=>by
  obtain ⟨h1,h2⟩:=gG.1 h
  have:=Afc t τ h1
  refine ⟨this.info,?_⟩
  have hd:=this.desc
  cases τ<;>first|exact hd|skip
  ·obtain ⟨te,a,b,c⟩:=hd
   exact ⟨te,a,b,gG.2 ⟨c,h2⟩⟩
  ·simp [Ty.read] at h2
 cells:= λt τ h=>OZ (Afc t τ (gG.1 h).1)
 fields:=by
  intro t τ h hs
  have hr:=(gG.1 h).2
  have h:=(gG.1 h).1
  simp only [En] at h
  split at h
  all_goals first
   |(cases h;cases hs;done)
   |skip
  ·cases h;exact ⟨fieldsOf Tryz.prog 46,(by kernel_rfl),dt nD Tryz.prog Ld 0 (fieldsOf Tryz.prog 46).toList (by kernel_rfl)⟩
  ·cases h;exact ⟨fieldsOf Tryz.prog 53,(by kernel_rfl),dt nD Tryz.prog Ld 0 (fieldsOf Tryz.prog 53).toList (by kernel_rfl)⟩
  ·cases h;exact ⟨fieldsOf Tryz.prog 24,(by kernel_rfl),dt nD Tryz.prog Ga 0 (fieldsOf Tryz.prog 24).toList (by kernel_rfl)⟩
  ·cases h;exact ⟨fieldsOf Tryz.prog 31,(by kernel_rfl),dt nD Tryz.prog Ga 0 (fieldsOf Tryz.prog 31).toList (by kernel_rfl)⟩
  ·cases h;exact ⟨fieldsOf Tryz.prog 120,(by kernel_rfl),dt nD Tryz.prog ly 0 (fieldsOf Tryz.prog 120).toList (by kernel_rfl)⟩
  ·cases h;exact ⟨fieldsOf Tryz.prog 99,(by kernel_rfl),dt nD Tryz.prog FK 0 (fieldsOf Tryz.prog 99).toList (by kernel_rfl)⟩
  ·cases h;exact ⟨fieldsOf Tryz.prog 127,(by kernel_rfl),dt nD Tryz.prog FK 0 (fieldsOf Tryz.prog 127).toList (by kernel_rfl)⟩
  ·cases h;exact absurd hr (by decide)
  ·cases h;exact ⟨fieldsOf Tryz.prog 49,(by kernel_rfl),dt nD Tryz.prog pO 0 (fieldsOf Tryz.prog 49).toList (by kernel_rfl)⟩
  ·cases h;exact absurd hr (by decide)
  ·cases h
 Akr:=by
  intro t e h
  have h:=(gG.1 h).1
  simp only [En] at h
  split at h<;>cases h<;>decide
 plain:= λt τ h=>(gG.1 h).2
end Go.Proofs.YtfgfigkbgecfnaaGreat
