/-
  Part 39 of the proof that the statement FnTables holds.
-/
import Derived.Test.YtkkdpknjohcekaaCFTables37
import Derived.Test.YtkkdpknjohcekaaRows
import Derived.WalkKit
import Derived.ProofKit
import Derived.OpenShut
import Derived.JoinedCond
import Derived.ChangeOld
import Derived.Below
import Derived.Carry
namespace Go.Proofs.Ytkkdpknjohcekaa
open Go.ChangeShapes Go.WideShapes Go.ChangeAt Go.RowKit
theorem gW {H:Type} : ∀(l:List (DataW H)),(l.map Rows.uptoBulk).sum=Rows.uptoBulkAll l
 | []=>by simp [Rows.uptoBulkAll]
 |d::r=>by simp only [Bh,Vk,Rows.uptoBulkAll,gW r]
theorem ZF (H:Type):NT (H:=H) Rows.uptoBulk where
 lit:= λl=>by cases l<;>simp [Rows.uptoBulk]
 str:= λbs=>by simp [Rows.uptoBulk]
 nil:=by simp [Rows.uptoBulk]
 slice:= λes sp=>by simp only [Rows.uptoBulk,gW];omega
 agg:= λps=>by simp only [Rows.uptoBulk,gW];omega
theorem CB {P:Program} {T:Tab} {t:TypeId} {τ:Ty} (h:pD P T t τ):P.cellsOf t=τ.size:=by
 obtain ⟨i,hi,hs,_⟩:=h.info
 unfold Program.cellsOf
 rw [hi]
 exact hs
def tZ (T:Tab) (P:Program):Ty->Nat->List Field->Bool
 | .unit,_,[]=>true
 | .pair a r,o,f::fs=>decide (f.offset=o)&&(decide (T.ty f.type=some a)&&(decide (P.cellsOf f.type=a.size)&&tZ T P r (o+a.size) fs))
 |_,_,_=>false
theorem aV (T:Tab) (P:Program) (τ:Ty): ∀(o:Nat) (l:List Field),tZ T P τ o l=true->Fits T P τ o l:=by
 induction τ with
 |unit=>intro o l h;cases l with|nil=>trivial|cons f fs=>simp [tZ] at h
 |pair a r _ ih=>
  intro o l h
  cases l with
  |nil=>simp [tZ] at h
  |cons f fs=>
   simp only [tZ,Ag,Kn] at h
   exact ⟨h.1,h.2.1,h.2.2.1,ih _ fs h.2.2.2⟩
 |_=>intro o l h;simp [tZ] at h
def mS:Tab:= {Gb with ty:= λt=>(Gb.ty t).filter (·.read)}
theorem dH {t:TypeId} {τ:Ty} :mS.ty t=some τ↔Gb.ty t=some τ/\τ.read=true:=by
 simp only [mS,Option.filter_eq_some_iff]
set_option maxRecDepth 100000 in
theorem Abb:NV Try.prog mS where
 ty:= λt τ h=>by
  obtain ⟨h1,h2⟩:=dH.1 h
  have:=SU t τ h1
  refine ⟨this.info,?_⟩
  have hd:=this.desc
  cases τ<;>first|exact hd|skip
  ·obtain ⟨te,a,b,c⟩:=hd
   exact ⟨te,a,b,dH.2 ⟨c,h2⟩⟩
  ·simp [Ty.read] at h2
 cells:= λt τ h=>CB (SU t τ (dH.1 h).1)
 fields:=by
  intro t τ h hs
  have hr:=(dH.1 h).2
  have h:=(dH.1 h).1
  simp only [Gb] at h
  split at h
  all_goals first
   |(cases h;cases hs;done)
   |skip
  ·cases h;exact ⟨fieldsOf Try.prog 48,(by kernel_rfl),aV mS Try.prog aH 0 (fieldsOf Try.prog 48).toList (by kernel_rfl)⟩
  ·cases h;exact ⟨fieldsOf Try.prog 29,(by kernel_rfl),aV mS Try.prog Mw 0 (fieldsOf Try.prog 29).toList (by kernel_rfl)⟩
  ·cases h;exact ⟨fieldsOf Try.prog 84,(by kernel_rfl),aV mS Try.prog dS 0 (fieldsOf Try.prog 84).toList (by kernel_rfl)⟩
  ·cases h;exact ⟨fieldsOf Try.prog 198,(by kernel_rfl),aV mS Try.prog xC 0 (fieldsOf Try.prog 198).toList (by kernel_rfl)⟩
  ·cases h;exact ⟨fieldsOf Try.prog 189,(by kernel_rfl),aV mS Try.prog xC 0 (fieldsOf Try.prog 189).toList (by kernel_rfl)⟩
  ·cases h;exact absurd hr (by decide)
  ·cases h;exact absurd hr (by decide)
  ·cases h;exact absurd hr (by decide)
  ·cases h;exact ⟨fieldsOf Try.prog 141,(by kernel_rfl),aV mS Try.prog xD 0 (fieldsOf Try.prog 141).toList (by kernel_rfl)⟩
  ·cases h;exact ⟨fieldsOf Try.prog 75,(by kernel_rfl),aV mS Try.prog YR 0 (fieldsOf Try.prog 75).toList (by kernel_rfl)⟩
  ·cases h;exact ⟨fieldsOf Try.prog 64,(by kernel_rfl),aV mS Try.prog FO 0 (fieldsOf Try.prog 64).toList (by kernel_rfl)⟩
  ·cases h
 YQ:=by
  intro t e h
  have h:=(dH.1 h).1
  simp only [Gb] at h
  split at h<;>cases h<;>decide
 plain:= λt τ h=>(dH.1 h).2
end Go.Proofs.Ytkkdpknjohcekaa
