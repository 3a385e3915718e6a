/-
  Part 40 of the proof that the statement FnNoShorterSolution holds.
-/
import Derived.Test.YtkkdpknjohcekaaGreatCFNoShorterSolution38
import Derived.Test.YtkkdpknjohcekaaGreatRows
import Derived.WalkKit
import Derived.ProofKit
import Derived.OpenShut
import Derived.JoinedCond
import Derived.ChangeOld
import Derived.Below
import Derived.Carry
namespace Go.Proofs.YtkkdpknjohcekaaGreat
open Go.ChangeShapes Go.WideShapes Go.ChangeAt Go.RowKit
theorem ka {H:Type} : ∀(l:List (DataW H)),(l.map Rows.uptoBulk).sum=Rows.uptoBulkAll l
 | []=>by simp [Rows.uptoBulkAll]
 |d::r=>by simp only [Ca,List.sum_cons,Rows.uptoBulkAll,ka r]
theorem Ah7 (H:Type):WV (H:=H) Rows.uptoBulk where
 lit:= λl=>by cases l<;>simp [Rows.uptoBulk]
 str:= λbs=>by simp [Rows.uptoBulk]
 nil:=by simp [Rows.uptoBulk]
 slice:= λes sp=>by simp only [Rows.uptoBulk,ka];omega
 agg:= λps=>by simp only [Rows.uptoBulk,ka];omega
theorem JQ {P:Program} {T:Tab} {t:TypeId} {τ:Ty} (h:r7 P T t τ):P.cellsOf t=τ.size:=by
 obtain ⟨i,hi,hs,_⟩:=h.info
 unfold Program.cellsOf
 rw [hi]
 exact hs
def xm (T:Tab) (P:Program):Ty->Nat->List Field->Bool
 | .unit,_,[]=>true
 | .pair a r,o,f::fs=>decide (f.offset=o)&&(decide (T.ty f.type=some a)&&(decide (P.cellsOf f.type=a.size)&&xm T P r (o+a.size) fs))
 |_,_,_=>false
theorem kv (T:Tab) (P:Program) (τ:Ty): ∀(o:Nat) (l:List Field),xm T P τ o l=true->Fits T P τ o l:=by
 induction τ with
 |unit=>intro o l h;cases l with|nil=>trivial|cons f fs=>simp [xm] at h
 |pair a r _ ih=>
  intro o l h
  cases l with
  |nil=>simp [xm] at h
  |cons f fs=>
   simp only [xm,Af,Rn] at h
   exact ⟨h.1,h.2.1,h.2.2.1,ih _ fs h.2.2.2⟩
 |_=>intro o l h;simp [xm] at h
def uy:Tab:= {Fu with ty:= λt=>(Fu.ty t).filter (·.read)}
theorem gk {t:TypeId} {τ:Ty} :uy.ty t=some τ↔Fu.ty t=some τ/\τ.read=true:=by
 simp only [uy,Option.filter_eq_some_iff]
set_option maxRecDepth 100000 in
theorem Ajc:WX Tryz.prog uy where
 ty:= λt τ h=>by
  obtain ⟨h1,h2⟩:=gk.1 h
  have:=Abk t τ h1
  refine ⟨this.info,?_⟩
  have hd:=this.desc
  cases τ<;>first|exact hd|skip
  ·obtain ⟨te,a,b,c⟩:=hd
   exact ⟨te,a,b,gk.2 ⟨c,h2⟩⟩
  ·simp [Ty.read] at h2
 cells:= λt τ h=>JQ (Abk t τ (gk.1 h).1)
 fields:=by
  intro t τ h hs
  have hr:=(gk.1 h).2
  have h:=(gk.1 h).1
  simp only [Fu] at h
  split at h
  all_goals first
   |(cases h;cases hs;done)
   |skip
  ·cases h;exact ⟨fieldsOf Tryz.prog 47,(by kernel_rfl),kv uy Tryz.prog cv 0 (fieldsOf Tryz.prog 47).toList (by kernel_rfl)⟩
  ·cases h;exact ⟨fieldsOf Tryz.prog 29,(by kernel_rfl),kv uy Tryz.prog Hq 0 (fieldsOf Tryz.prog 29).toList (by kernel_rfl)⟩
  ·cases h;exact ⟨fieldsOf Tryz.prog 72,(by kernel_rfl),kv uy Tryz.prog Zr 0 (fieldsOf Tryz.prog 72).toList (by kernel_rfl)⟩
  ·cases h;exact ⟨fieldsOf Tryz.prog 165,(by kernel_rfl),kv uy Tryz.prog BG 0 (fieldsOf Tryz.prog 165).toList (by kernel_rfl)⟩
  ·cases h;exact ⟨fieldsOf Tryz.prog 170,(by kernel_rfl),kv uy Tryz.prog BG 0 (fieldsOf Tryz.prog 170).toList (by kernel_rfl)⟩
  ·cases h;exact absurd hr (by decide)
  ·cases h;exact absurd hr (by decide)
  ·cases h;exact absurd hr (by decide)
  ·cases h;exact ⟨fieldsOf Tryz.prog 69,(by kernel_rfl),kv uy Tryz.prog Agt 0 (fieldsOf Tryz.prog 69).toList (by kernel_rfl)⟩
  ·cases h
 Ags:=by
  intro t e h
  have h:=(gk.1 h).1
  simp only [Fu] at h
  split at h<;>cases h<;>decide
 plain:= λt τ h=>(gk.1 h).2
end Go.Proofs.YtkkdpknjohcekaaGreat
