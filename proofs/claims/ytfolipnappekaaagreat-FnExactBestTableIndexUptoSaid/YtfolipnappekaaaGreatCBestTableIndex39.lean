/-
  Part 40 of the proof that the statement FnExactBestTableIndex holds.
-/
import Derived.Test.YtfolipnappekaaaGreatCBestTableIndex38
import Derived.Test.YtfolipnappekaaaGreatRows
import Derived.WalkKit
import Derived.ProofKit
import Derived.OpenShut
import Derived.JoinedCond
import Derived.ChangeOld
import Derived.Below
import Derived.Carry
namespace Go.Proofs.YtfolipnappekaaaGreat
open Go.ChangeShapes Go.WideShapes Go.ChangeAt Go.RowKit
theorem dq {H:Type} : ∀(l:List (DataW H)),(l.map Rows.uptoBulk).sum=Rows.uptoBulkAll l
 | []=>by simp [Rows.uptoBulkAll]
 |d::r=>by simp only [List.map_cons,List.sum_cons,Rows.uptoBulkAll,dq r]
theorem JL (H:Type):IX (H:=H) Rows.uptoBulk where
 lit:= λl=>by cases l<;>simp [Rows.uptoBulk]
 str:= λbs=>by simp [Rows.uptoBulk]
 nil:=by simp [Rows.uptoBulk]
 slice:= λes sp=>by simp only [Rows.uptoBulk,dq];omega
 agg:= λps=>by simp only [Rows.uptoBulk,dq];omega
theorem z7 {P:Program} {T:Tab} {t:TypeId} {τ:Ty} (h:jj P T t τ):P.cellsOf t=τ.size:=by
 obtain ⟨i,hi,hs,_⟩:=h.info
 unfold Program.cellsOf
 rw [hi]
 exact hs
def ri (T:Tab) (P:Program):Ty->Nat->List Field->Bool
 | .unit,_,[]=>true
 | .pair a r,o,f::fs=>decide (f.offset=o)&&(decide (T.ty f.type=some a)&&(decide (P.cellsOf f.type=a.size)&&ri T P r (o+a.size) fs))
 |_,_,_=>false
theorem Wh (T:Tab) (P:Program) (τ:Ty): ∀(o:Nat) (l:List Field),ri T P τ o l=true->Fits T P τ o l:=by
 induction τ with
 |unit=>intro o l h;cases l with|nil=>trivial|cons f fs=>simp [ri] at h
 |pair a r _ ih=>
  intro o l h
  cases l with
  |nil=>simp [ri] at h
  |cons f fs=>
   simp only [ri,Bool.and_eq_true,decide_eq_true_eq] at h
   exact ⟨h.1,h.2.1,h.2.2.1,ih _ fs h.2.2.2⟩
 |_=>intro o l h;simp [ri] at h
def iK:Tab:= {Cc with ty:= λt=>(Cc.ty t).filter (·.read)}
theorem aE {t:TypeId} {τ:Ty} :iK.ty t=some τ↔Cc.ty t=some τ/\τ.read=true:=by
 simp only [iK,Option.filter_eq_some_iff]
set_option maxRecDepth 100000 in
theorem AR:IZ Tryz.prog iK where
 ty:= λt τ h=>by
  obtain ⟨h1,h2⟩:=aE.1 h
  have:=NU t τ h1
  refine ⟨this.info,?_⟩
  have hd:=this.desc
  cases τ<;>first|exact hd|skip
  ·obtain ⟨te,a,b,c⟩:=hd
   exact ⟨te,a,b,aE.2 ⟨c,h2⟩⟩
  ·simp [Ty.read] at h2
 cells:= λt τ h=>z7 (NU t τ (aE.1 h).1)
 fields:=by
  intro t τ h hs
  have hr:=(aE.1 h).2
  have h:=(aE.1 h).1
  simp only [Cc] at h
  split at h
  all_goals first
   |(cases h;cases hs;done)
   |skip
  ·cases h;exact ⟨fieldsOf Tryz.prog 54,(by kernel_rfl),Wh iK Tryz.prog Gy 0 (fieldsOf Tryz.prog 54).toList (by kernel_rfl)⟩
  ·cases h;exact ⟨fieldsOf Tryz.prog 58,(by kernel_rfl),Wh iK Tryz.prog Gy 0 (fieldsOf Tryz.prog 58).toList (by kernel_rfl)⟩
  ·cases h;exact ⟨fieldsOf Tryz.prog 24,(by kernel_rfl),Wh iK Tryz.prog Dc 0 (fieldsOf Tryz.prog 24).toList (by kernel_rfl)⟩
  ·cases h;exact ⟨fieldsOf Tryz.prog 30,(by kernel_rfl),Wh iK Tryz.prog Dc 0 (fieldsOf Tryz.prog 30).toList (by kernel_rfl)⟩
  ·cases h;exact ⟨fieldsOf Tryz.prog 99,(by kernel_rfl),Wh iK Tryz.prog eb 0 (fieldsOf Tryz.prog 99).toList (by kernel_rfl)⟩
  ·cases h;exact ⟨fieldsOf Tryz.prog 141,(by kernel_rfl),Wh iK Tryz.prog uM 0 (fieldsOf Tryz.prog 141).toList (by kernel_rfl)⟩
  ·cases h;exact ⟨fieldsOf Tryz.prog 153,(by kernel_rfl),Wh iK Tryz.prog uM 0 (fieldsOf Tryz.prog 153).toList (by kernel_rfl)⟩
  ·cases h;exact absurd hr (by decide)
  ·cases h;exact absurd hr (by decide)
  ·cases h;exact ⟨fieldsOf Tryz.prog 78,(by kernel_rfl),Wh iK Tryz.prog UD 0 (fieldsOf Tryz.prog 78).toList (by kernel_rfl)⟩
  ·cases h;exact absurd hr (by decide)
  ·cases h
 UC:=by
  intro t e h
  have h:=(aE.1 h).1
  simp only [Cc] at h
  split at h<;>cases h<;>decide
 plain:= λt τ h=>(aE.1 h).2
end Go.Proofs.YtfolipnappekaaaGreat
