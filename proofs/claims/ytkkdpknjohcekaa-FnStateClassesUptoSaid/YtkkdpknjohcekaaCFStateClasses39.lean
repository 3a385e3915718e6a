/-
  Part 40 of the proof that the statement FnStateClasses holds.
-/
import Derived.Test.YtkkdpknjohcekaaCFStateClasses38
import Derived.Test.YtkkdpknjohcekaaRows
import Derived.WalkKit
import Derived.ProofKit
import Derived.OpenShut
import Derived.JoinedCond
import Derived.ChangeOld
import Derived.Below
import Derived.Carry
namespace Go.Proofs.Ytkkdpknjohcekaa
open Go.ChangeShapes Go.WideShapes Go.ChangeAt Go.RowKit
theorem ir {H:Type} : ∀(l:List (DataW H)),(l.map Rows.uptoBulk).sum=Rows.uptoBulkAll l
 | []=>by simp [Rows.uptoBulkAll]
 |d::r=>by simp only [Bk,Ov,Rows.uptoBulkAll,ir r]
theorem Ac8 (H:Type):RD (H:=H) Rows.uptoBulk where
 lit:= λl=>by cases l<;>simp [Rows.uptoBulk]
 str:= λbs=>by simp [Rows.uptoBulk]
 nil:=by simp [Rows.uptoBulk]
 slice:= λes sp=>by simp only [Rows.uptoBulk,ir];omega
 agg:= λps=>by simp only [Rows.uptoBulk,ir];omega
theorem FF {P:Program} {T:Tab} {t:TypeId} {τ:Ty} (h:p7 P T t τ):P.cellsOf t=τ.size:=by
 obtain ⟨i,hi,hs,_⟩:=h.info
 unfold Program.cellsOf
 rw [hi]
 exact hs
def uK (T:Tab) (P:Program):Ty->Nat->List Field->Bool
 | .unit,_,[]=>true
 | .pair a r,o,f::fs=>decide (f.offset=o)&&(decide (T.ty f.type=some a)&&(decide (P.cellsOf f.type=a.size)&&uK T P r (o+a.size) fs))
 |_,_,_=>false
theorem bB (T:Tab) (P:Program) (τ:Ty): ∀(o:Nat) (l:List Field),uK T P τ o l=true->Fits T P τ o l:=by
 induction τ with
 |unit=>intro o l h;cases l with|nil=>trivial|cons f fs=>simp [uK] at h
 |pair a r _ ih=>
  intro o l h
  cases l with
  |nil=>simp [uK] at h
  |cons f fs=>
   simp only [uK,Ag,Mu] at h
   exact ⟨h.1,h.2.1,h.2.2.1,ih _ fs h.2.2.2⟩
 |_=>intro o l h;simp [uK] at h
def nH:Tab:= {Hf with ty:= λt=>(Hf.ty t).filter (·.read)}
theorem eo {t:TypeId} {τ:Ty} :nH.ty t=some τ↔Hf.ty t=some τ/\τ.read=true:=by
 simp only [nH,Option.filter_eq_some_iff]
set_option maxRecDepth 100000 in
theorem Aea:RE Try.prog nH where
 ty:= λt τ h=>by
  obtain ⟨h1,h2⟩:=eo.1 h
  have:=WB t τ h1
  refine ⟨this.info,?_⟩
  have hd:=this.desc
  cases τ<;>first|exact hd|skip
  ·obtain ⟨te,a,b,c⟩:=hd
   exact ⟨te,a,b,eo.2 ⟨c,h2⟩⟩
  ·simp [Ty.read] at h2
 cells:= λt τ h=>FF (WB t τ (eo.1 h).1)
 fields:=by
  intro t τ h hs
  have hr:=(eo.1 h).2
  have h:=(eo.1 h).1
  simp only [Hf] at h
  split at h
  all_goals first
   |(cases h;cases hs;done)
   |skip
  ·cases h;exact ⟨fieldsOf Try.prog 48,(by kernel_rfl),bB nH Try.prog yG 0 (fieldsOf Try.prog 48).toList (by kernel_rfl)⟩
  ·cases h;exact ⟨fieldsOf Try.prog 29,(by kernel_rfl),bB nH Try.prog Kg 0 (fieldsOf Try.prog 29).toList (by kernel_rfl)⟩
  ·cases h;exact ⟨fieldsOf Try.prog 84,(by kernel_rfl),bB nH Try.prog iZ 0 (fieldsOf Try.prog 84).toList (by kernel_rfl)⟩
  ·cases h;exact ⟨fieldsOf Try.prog 198,(by kernel_rfl),bB nH Try.prog yD 0 (fieldsOf Try.prog 198).toList (by kernel_rfl)⟩
  ·cases h;exact ⟨fieldsOf Try.prog 189,(by kernel_rfl),bB nH Try.prog yD 0 (fieldsOf Try.prog 189).toList (by kernel_rfl)⟩
  ·cases h;exact absurd hr (by decide)
  ·cases h;exact absurd hr (by decide)
  ·cases h;exact absurd hr (by decide)
  ·cases h;exact ⟨fieldsOf Try.prog 141,(by kernel_rfl),bB nH Try.prog yF 0 (fieldsOf Try.prog 141).toList (by kernel_rfl)⟩
  ·cases h;exact ⟨fieldsOf Try.prog 75,(by kernel_rfl),bB nH Try.prog Abv 0 (fieldsOf Try.prog 75).toList (by kernel_rfl)⟩
  ·cases h;exact ⟨fieldsOf Try.prog 64,(by kernel_rfl),bB nH Try.prog JE 0 (fieldsOf Try.prog 64).toList (by kernel_rfl)⟩
  ·cases h
 Abu:=by
  intro t e h
  have h:=(eo.1 h).1
  simp only [Hf] at h
  split at h<;>cases h<;>decide
 plain:= λt τ h=>(eo.1 h).2
end Go.Proofs.Ytkkdpknjohcekaa
