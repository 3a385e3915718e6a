/-
  Part 40 of the proof that the statement FnLowerBounds holds.
-/
import Derived.Test.YtkkdpknjohcekaaGreatCFLowerBounds38
import Derived.Test.YtkkdpknjohcekaaGreatRows
import Derived.WalkKit
import Derived.ProofKit
import Derived.OpenShut
import Derived.JoinedCond
import Derived.ChangeOld
import Derived.Below
import Derived.Carry
namespace Go.Proofs.YtkkdpknjohcekaaGreat
open Go.ChangeShapes Go.WideShapes Go.ChangeAt Go.RowKit
theorem jE {H:Type} : ∀(l:List (DataW H)),(l.map Rows.uptoBulk).sum=Rows.uptoBulkAll l
 | []=>by simp [Rows.uptoBulkAll]
 |d::r=>by simp only [Bz,List.sum_cons,Rows.uptoBulkAll,jE r]
theorem Ag3 (H:Type):VQ (H:=H) Rows.uptoBulk where
 lit:= λl=>by cases l<;>simp [Rows.uptoBulk]
 str:= λbs=>by simp [Rows.uptoBulk]
 nil:=by simp [Rows.uptoBulk]
 slice:= λes sp=>by simp only [Rows.uptoBulk,jE];omega
 agg:= λps=>by simp only [Rows.uptoBulk,jE];omega
theorem IY {P:Program} {T:Tab} {t:TypeId} {τ:Ty} (h:qT P T t τ):P.cellsOf t=τ.size:=by
 obtain ⟨i,hi,hs,_⟩:=h.info
 unfold Program.cellsOf
 rw [hi]
 exact hs
def x7 (T:Tab) (P:Program):Ty->Nat->List Field->Bool
 | .unit,_,[]=>true
 | .pair a r,o,f::fs=>decide (f.offset=o)&&(decide (T.ty f.type=some a)&&(decide (P.cellsOf f.type=a.size)&&x7 T P r (o+a.size) fs))
 |_,_,_=>false
theorem jP (T:Tab) (P:Program) (τ:Ty): ∀(o:Nat) (l:List Field),x7 T P τ o l=true->Fits T P τ o l:=by
 induction τ with
 |unit=>intro o l h;cases l with|nil=>trivial|cons f fs=>simp [x7] at h
 |pair a r _ ih=>
  intro o l h
  cases l with
  |nil=>simp [x7] at h
  |cons f fs=>
   simp only [x7,Af,Nv] at h
   exact ⟨h.1,h.2.1,h.2.2.1,ih _ fs h.2.2.2⟩
 |_=>intro o l h;simp [x7] at h
def ue:Tab:= {Fz with ty:= λt=>(Fz.ty t).filter (·.read)}
theorem fR {t:TypeId} {τ:Ty} :ue.ty t=some τ↔Fz.ty t=some τ/\τ.read=true:=by
 simp only [ue,Option.filter_eq_some_iff]
set_option maxRecDepth 100000 in
theorem Aid:VS Tryz.prog ue where
 ty:= λt τ h=>by
  obtain ⟨h1,h2⟩:=fR.1 h
  have:=Aan t τ h1
  refine ⟨this.info,?_⟩
  have hd:=this.desc
  cases τ<;>first|exact hd|skip
  ·obtain ⟨te,a,b,c⟩:=hd
   exact ⟨te,a,b,fR.2 ⟨c,h2⟩⟩
  ·simp [Ty.read] at h2
 cells:= λt τ h=>IY (Aan t τ (fR.1 h).1)
 fields:=by
  intro t τ h hs
  have hr:=(fR.1 h).2
  have h:=(fR.1 h).1
  simp only [Fz] at h
  split at h
  all_goals first
   |(cases h;cases hs;done)
   |skip
  ·cases h;exact ⟨fieldsOf Tryz.prog 47,(by kernel_rfl),jP ue Tryz.prog cy 0 (fieldsOf Tryz.prog 47).toList (by kernel_rfl)⟩
  ·cases h;exact ⟨fieldsOf Tryz.prog 29,(by kernel_rfl),jP ue Tryz.prog Hk 0 (fieldsOf Tryz.prog 29).toList (by kernel_rfl)⟩
  ·cases h;exact ⟨fieldsOf Tryz.prog 72,(by kernel_rfl),jP ue Tryz.prog bj 0 (fieldsOf Tryz.prog 72).toList (by kernel_rfl)⟩
  ·cases h;exact ⟨fieldsOf Tryz.prog 165,(by kernel_rfl),jP ue Tryz.prog AN 0 (fieldsOf Tryz.prog 165).toList (by kernel_rfl)⟩
  ·cases h;exact ⟨fieldsOf Tryz.prog 170,(by kernel_rfl),jP ue Tryz.prog AN 0 (fieldsOf Tryz.prog 170).toList (by kernel_rfl)⟩
  ·cases h;exact absurd hr (by decide)
  ·cases h;exact absurd hr (by decide)
  ·cases h;exact absurd hr (by decide)
  ·cases h;exact ⟨fieldsOf Tryz.prog 69,(by kernel_rfl),jP ue Tryz.prog Afp 0 (fieldsOf Tryz.prog 69).toList (by kernel_rfl)⟩
  ·cases h
 Afo:=by
  intro t e h
  have h:=(fR.1 h).1
  simp only [Fz] at h
  split at h<;>cases h<;>decide
 plain:= λt τ h=>(fR.1 h).2
end Go.Proofs.YtkkdpknjohcekaaGreat
