/-
  Part 40 of the proof that the statement FnExactMethodLength holds.
-/
import Derived.Test.YtjbdmibbbpdnnaaCMethodLength38
import Derived.Test.YtjbdmibbbpdnnaaRows
import Derived.WalkKit
import Derived.ProofKit
import Derived.OpenShut
import Derived.JoinedCond
import Derived.ChangeOld
import Derived.Below
import Derived.Carry
namespace Go.Proofs.Ytjbdmibbbpdnnaa
open Go.ChangeShapes Go.WideShapes Go.ChangeAt Go.RowKit
theorem dv {H:Type} : ∀(l:List (DataW H)),(l.map Rows.uptoBulk).sum=Rows.uptoBulkAll l
 | []=>by simp [Rows.uptoBulkAll]
 |d::r=>by simp only [List.map_cons,List.sum_cons,Rows.uptoBulkAll,dv r]
theorem IU (H:Type):IG (H:=H) Rows.uptoBulk where
 lit:= λl=>by cases l<;>simp [Rows.uptoBulk]
 str:= λbs=>by simp [Rows.uptoBulk]
 nil:=by simp [Rows.uptoBulk]
 slice:= λes sp=>by simp only [Rows.uptoBulk,dv];omega
 agg:= λps=>by simp only [Rows.uptoBulk,dv];omega
theorem yk {P:Program} {T:Tab} {t:TypeId} {τ:Ty} (h:ja P T t τ):P.cellsOf t=τ.size:=by
 obtain ⟨i,hi,hs,_⟩:=h.info
 unfold Program.cellsOf
 rw [hi]
 exact hs
def qA (T:Tab) (P:Program):Ty->Nat->List Field->Bool
 | .unit,_,[]=>true
 | .pair a r,o,f::fs=>decide (f.offset=o)&&(decide (T.ty f.type=some a)&&(decide (P.cellsOf f.type=a.size)&&qA T P r (o+a.size) fs))
 |_,_,_=>false
theorem a5 (T:Tab) (P:Program) (τ:Ty): ∀(o:Nat) (l:List Field),qA T P τ o l=true->Fits T P τ o l:=by
 induction τ with
 |unit=>intro o l h;cases l with|nil=>trivial|cons f fs=>simp [qA] at h
 |pair a r _ ih=>
  intro o l h
  cases l with
  |nil=>simp [qA] at h
  |cons f fs=>
   simp only [qA,Bool.and_eq_true,decide_eq_true_eq] at h
   exact ⟨h.1,h.2.1,h.2.2.1,ih _ fs h.2.2.2⟩
 |_=>intro o l h;simp [qA] at h
def jS:Tab:= {Co with ty:= λt=>(Co.ty t).filter (·.read)}
theorem aG {t:TypeId} {τ:Ty} :jS.ty t=some τ↔Co.ty t=some τ/\τ.read=true:=by
 simp only [jS,Option.filter_eq_some_iff]
set_option maxRecDepth 100000 in
theorem zx:II Try.prog jS where
 ty:= λt τ h=>by
  obtain ⟨h1,h2⟩:=aG.1 h
  have:=MX t τ h1
  refine ⟨this.info,?_⟩
  have hd:=this.desc
  cases τ<;>first|exact hd|skip
  ·obtain ⟨te,a,b,c⟩:=hd
   exact ⟨te,a,b,aG.2 ⟨c,h2⟩⟩
  ·simp [Ty.read] at h2
 cells:= λt τ h=>yk (MX t τ (aG.1 h).1)
 fields:=by
  intro t τ h hs
  have hr:=(aG.1 h).2
  have h:=(aG.1 h).1
  simp only [Co] at h
  split at h
  all_goals first
   |(cases h;cases hs;done)
   |skip
  ·cases h;exact ⟨fieldsOf Try.prog 105,(by kernel_rfl),a5 jS Try.prog gr 0 (fieldsOf Try.prog 105).toList (by kernel_rfl)⟩
  ·cases h;exact ⟨fieldsOf Try.prog 108,(by kernel_rfl),a5 jS Try.prog gr 0 (fieldsOf Try.prog 108).toList (by kernel_rfl)⟩
  ·cases h;exact ⟨fieldsOf Try.prog 24,(by kernel_rfl),a5 jS Try.prog Dc 0 (fieldsOf Try.prog 24).toList (by kernel_rfl)⟩
  ·cases h;exact ⟨fieldsOf Try.prog 28,(by kernel_rfl),a5 jS Try.prog Dc 0 (fieldsOf Try.prog 28).toList (by kernel_rfl)⟩
  ·cases h;exact ⟨fieldsOf Try.prog 62,(by kernel_rfl),a5 jS Try.prog Ww 0 (fieldsOf Try.prog 62).toList (by kernel_rfl)⟩
  ·cases h;exact ⟨fieldsOf Try.prog 179,(by kernel_rfl),a5 jS Try.prog MT 0 (fieldsOf Try.prog 179).toList (by kernel_rfl)⟩
  ·cases h;exact absurd hr (by decide)
  ·cases h;exact absurd hr (by decide)
  ·cases h;exact absurd hr (by decide)
  ·cases h;exact ⟨fieldsOf Try.prog 118,(by kernel_rfl),a5 jS Try.prog uk 0 (fieldsOf Try.prog 118).toList (by kernel_rfl)⟩
  ·cases h
 UH:=by
  intro t e h
  have h:=(aG.1 h).1
  simp only [Co] at h
  split at h<;>cases h<;>decide
 plain:= λt τ h=>(aG.1 h).2
end Go.Proofs.Ytjbdmibbbpdnnaa
