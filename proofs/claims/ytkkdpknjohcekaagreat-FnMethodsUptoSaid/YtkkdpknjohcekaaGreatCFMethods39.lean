/-
  Part 40 of the proof that the statement FnMethods holds.
-/
import Derived.Test.YtkkdpknjohcekaaGreatCFMethods38
import Derived.Test.YtkkdpknjohcekaaGreatRows
import Derived.WalkKit
import Derived.ProofKit
import Derived.OpenShut
import Derived.JoinedCond
import Derived.ChangeOld
import Derived.Below
import Derived.Carry
namespace Go.Proofs.YtkkdpknjohcekaaGreat
open Go.ChangeShapes Go.WideShapes Go.ChangeAt Go.RowKit
theorem ka {H:Type} : ∀(l:List (DataW H)),(l.map Rows.uptoBulk).sum=Rows.uptoBulkAll l
 | []=>by simp [Rows.uptoBulkAll]
 |d::r=>by simp only [Bz,List.sum_cons,Rows.uptoBulkAll,ka r]
theorem Aiy (H:Type):YT (H:=H) Rows.uptoBulk where
 lit:= λl=>by cases l<;>simp [Rows.uptoBulk]
 str:= λbs=>by simp [Rows.uptoBulk]
 nil:=by simp [Rows.uptoBulk]
 slice:= λes sp=>by simp only [Rows.uptoBulk,ka];omega
 agg:= λps=>by simp only [Rows.uptoBulk,ka];omega
theorem LH {P:Program} {T:Tab} {t:TypeId} {τ:Ty} (h:ph P T t τ):P.cellsOf t=τ.size:=by
 obtain ⟨i,hi,hs,_⟩:=h.info
 unfold Program.cellsOf
 rw [hi]
 exact hs
def xE (T:Tab) (P:Program):Ty->Nat->List Field->Bool
 | .unit,_,[]=>true
 | .pair a r,o,f::fs=>decide (f.offset=o)&&(decide (T.ty f.type=some a)&&(decide (P.cellsOf f.type=a.size)&&xE T P r (o+a.size) fs))
 |_,_,_=>false
theorem kr (T:Tab) (P:Program) (τ:Ty): ∀(o:Nat) (l:List Field),xE T P τ o l=true->Fits T P τ o l:=by
 induction τ with
 |unit=>intro o l h;cases l with|nil=>trivial|cons f fs=>simp [xE] at h
 |pair a r _ ih=>
  intro o l h
  cases l with
  |nil=>simp [xE] at h
  |cons f fs=>
   simp only [xE,Ah,Ru] at h
   exact ⟨h.1,h.2.1,h.2.2.1,ih _ fs h.2.2.2⟩
 |_=>intro o l h;simp [xE] at h
def uT:Tab:= {Fl with ty:= λt=>(Fl.ty t).filter (·.read)}
theorem fZ {t:TypeId} {τ:Ty} :uT.ty t=some τ↔Fl.ty t=some τ/\τ.read=true:=by
 simp only [uT,Option.filter_eq_some_iff]
set_option maxRecDepth 100000 in
theorem Al9:YV Tryz.prog uT where
 ty:= λt τ h=>by
  obtain ⟨h1,h2⟩:=fZ.1 h
  have:=Acu t τ h1
  refine ⟨this.info,?_⟩
  have hd:=this.desc
  cases τ<;>first|exact hd|skip
  ·obtain ⟨te,a,b,c⟩:=hd
   exact ⟨te,a,b,fZ.2 ⟨c,h2⟩⟩
  ·simp [Ty.read] at h2
 cells:= λt τ h=>LH (Acu t τ (fZ.1 h).1)
 fields:=by
  intro t τ h hs
  have hr:=(fZ.1 h).2
  have h:=(fZ.1 h).1
  simp only [Fl] at h
  split at h
  all_goals first
   |(cases h;cases hs;done)
   |skip
  ·cases h;exact ⟨fieldsOf Tryz.prog 47,(by kernel_rfl),kr uT Tryz.prog CV 0 (fieldsOf Tryz.prog 47).toList (by kernel_rfl)⟩
  ·cases h;exact ⟨fieldsOf Tryz.prog 29,(by kernel_rfl),kr uT Tryz.prog Iw 0 (fieldsOf Tryz.prog 29).toList (by kernel_rfl)⟩
  ·cases h;exact ⟨fieldsOf Tryz.prog 72,(by kernel_rfl),kr uT Tryz.prog bl 0 (fieldsOf Tryz.prog 72).toList (by kernel_rfl)⟩
  ·cases h;exact ⟨fieldsOf Tryz.prog 165,(by kernel_rfl),kr uT Tryz.prog CT 0 (fieldsOf Tryz.prog 165).toList (by kernel_rfl)⟩
  ·cases h;exact ⟨fieldsOf Tryz.prog 170,(by kernel_rfl),kr uT Tryz.prog CT 0 (fieldsOf Tryz.prog 170).toList (by kernel_rfl)⟩
  ·cases h;exact absurd hr (by decide)
  ·cases h;exact absurd hr (by decide)
  ·cases h;exact absurd hr (by decide)
  ·cases h;exact ⟨fieldsOf Tryz.prog 69,(by kernel_rfl),kr uT Tryz.prog Ain 0 (fieldsOf Tryz.prog 69).toList (by kernel_rfl)⟩
  ·cases h
 Aim:=by
  intro t e h
  have h:=(fZ.1 h).1
  simp only [Fl] at h
  split at h<;>cases h<;>decide
 plain:= λt τ h=>(fZ.1 h).2
end Go.Proofs.YtkkdpknjohcekaaGreat
