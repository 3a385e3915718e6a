/-
  Part 40 of the proof that the statement FnPatterns holds.
-/
import Derived.Test.YtkkdpknjohcekaaGreatCFPatterns38
import Derived.Test.YtkkdpknjohcekaaGreatRows
import Derived.WalkKit
import Derived.ProofKit
import Derived.OpenShut
import Derived.JoinedCond
import Derived.ChangeOld
import Derived.Below
import Derived.Carry
namespace Go.Proofs.YtkkdpknjohcekaaGreat
open Go.ChangeShapes Go.WideShapes Go.ChangeAt Go.RowKit
theorem jF {H:Type} : ∀(l:List (DataW H)),(l.map Rows.uptoBulk).sum=Rows.uptoBulkAll l
 | []=>by simp [Rows.uptoBulkAll]
 |d::r=>by simp only [Bu,Xe,Rows.uptoBulkAll,jF r]
theorem Ai2 (H:Type):YI (H:=H) Rows.uptoBulk where
 lit:= λl=>by cases l<;>simp [Rows.uptoBulk]
 str:= λbs=>by simp [Rows.uptoBulk]
 nil:=by simp [Rows.uptoBulk]
 slice:= λes sp=>by simp only [Rows.uptoBulk,jF];omega
 agg:= λps=>by simp only [Rows.uptoBulk,jF];omega
theorem KV {P:Program} {T:Tab} {t:TypeId} {τ:Ty} (h:oI P T t τ):P.cellsOf t=τ.size:=by
 obtain ⟨i,hi,hs,_⟩:=h.info
 unfold Program.cellsOf
 rw [hi]
 exact hs
def xu (T:Tab) (P:Program):Ty->Nat->List Field->Bool
 | .unit,_,[]=>true
 | .pair a r,o,f::fs=>decide (f.offset=o)&&(decide (T.ty f.type=some a)&&(decide (P.cellsOf f.type=a.size)&&xu T P r (o+a.size) fs))
 |_,_,_=>false
theorem jR (T:Tab) (P:Program) (τ:Ty): ∀(o:Nat) (l:List Field),xu T P τ o l=true->Fits T P τ o l:=by
 induction τ with
 |unit=>intro o l h;cases l with|nil=>trivial|cons f fs=>simp [xu] at h
 |pair a r _ ih=>
  intro o l h
  cases l with
  |nil=>simp [xu] at h
  |cons f fs=>
   simp only [xu,Ag,Ng] at h
   exact ⟨h.1,h.2.1,h.2.2.1,ih _ fs h.2.2.2⟩
 |_=>intro o l h;simp [xu] at h
def ux:Tab:= {Gb with ty:= λt=>(Gb.ty t).filter (·.read)}
theorem fQ {t:TypeId} {τ:Ty} :ux.ty t=some τ↔Gb.ty t=some τ/\τ.read=true:=by
 simp only [ux,Option.filter_eq_some_iff]
set_option maxRecDepth 100000 in
theorem Ak7:YK Tryz.prog ux where
 ty:= λt τ h=>by
  obtain ⟨h1,h2⟩:=fQ.1 h
  have:=Aco t τ h1
  refine ⟨this.info,?_⟩
  have hd:=this.desc
  cases τ<;>first|exact hd|skip
  ·obtain ⟨te,a,b,c⟩:=hd
   exact ⟨te,a,b,fQ.2 ⟨c,h2⟩⟩
  ·simp [Ty.read] at h2
 cells:= λt τ h=>KV (Aco t τ (fQ.1 h).1)
 fields:=by
  intro t τ h hs
  have hr:=(fQ.1 h).2
  have h:=(fQ.1 h).1
  simp only [Gb] at h
  split at h
  all_goals first
   |(cases h;cases hs;done)
   |skip
  ·cases h;exact ⟨fieldsOf Tryz.prog 47,(by kernel_rfl),jR ux Tryz.prog CE 0 (fieldsOf Tryz.prog 47).toList (by kernel_rfl)⟩
  ·cases h;exact ⟨fieldsOf Tryz.prog 29,(by kernel_rfl),jR ux Tryz.prog Ix 0 (fieldsOf Tryz.prog 29).toList (by kernel_rfl)⟩
  ·cases h;exact ⟨fieldsOf Tryz.prog 72,(by kernel_rfl),jR ux Tryz.prog dg 0 (fieldsOf Tryz.prog 72).toList (by kernel_rfl)⟩
  ·cases h;exact ⟨fieldsOf Tryz.prog 165,(by kernel_rfl),jR ux Tryz.prog CD 0 (fieldsOf Tryz.prog 165).toList (by kernel_rfl)⟩
  ·cases h;exact ⟨fieldsOf Tryz.prog 170,(by kernel_rfl),jR ux Tryz.prog CD 0 (fieldsOf Tryz.prog 170).toList (by kernel_rfl)⟩
  ·cases h;exact absurd hr (by decide)
  ·cases h;exact absurd hr (by decide)
  ·cases h;exact absurd hr (by decide)
  ·cases h;exact ⟨fieldsOf Tryz.prog 69,(by kernel_rfl),jR ux Tryz.prog Aho 0 (fieldsOf Tryz.prog 69).toList (by kernel_rfl)⟩
  ·cases h
 Ahn:=by
  intro t e h
  have h:=(fQ.1 h).1
  simp only [Gb] at h
  split at h<;>cases h<;>decide
 plain:= λt τ h=>(fQ.1 h).2
end Go.Proofs.YtkkdpknjohcekaaGreat
