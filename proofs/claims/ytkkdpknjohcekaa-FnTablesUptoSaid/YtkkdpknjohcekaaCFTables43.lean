/-
  Part 44 of the proof that the statement FnTables holds: every run of the law at an input of bulk at most 1048576 returns true, and its arguments read afterwards as before.
-/
import Derived.Test.YtkkdpknjohcekaaCFTables42
namespace Go.Proofs.Ytkkdpknjohcekaa
open Go.ChangeShapes Go.WideShapes Go.ChangeAt Go.RowKit
set_option maxRecDepth 100000
theorem oo (H:Type) (enc:TypeId×Value->H) (W:World) (base:Nat) (args:Array Value) (ds gs:List (DataW H)) (before:List MemPlace)
  (VK: ∀(j:Nat) t v,Try.f5.params[j]?=some t->args[j]?=some v->Value.okWide Try.prog W .any base t v)
  (hW:DataW.Whole enc Try.prog Try.f5.params.toList Rows.fnTablesSpec.vars false W args.toList ds gs before) (hk:Rows.uptoSmall H (ds++gs)=true):
  Calls Try.prog 5 args W λe W'=> ∃v,e= .returned v/\Rows.fnTablesSpec.post enc Try.prog Try.f5 false true false false W args v W':=by
 have hW':=hW
 obtain ⟨p,q,hA0,hV,rfl,hfz,sl⟩:=hW
 have hA:DataW.TrodAll enc Try.prog W 0 (λ_=>true) true Try.f5.params.toList args.toList ds p:=hA0
 rw [Try.params5] at hA VK
 obtain ⟨v0,vs0,d0,ds0,p0,q0,Qd,rfl,rfl,h0,r0⟩:=trodAll_cons hA
 obtain ⟨rfl,rfl,rfl⟩:=trodAll_nil r0
 obtain rfl:args= #[v0]:=by cases args;simp_all
 obtain ⟨rfl,rfl⟩:=trodVars_none hV
 have lt0: ∀x∈p0,x.block<W.heap.size:=by obtain ⟨m,hm⟩:=h0;exact DataW.trod_lt m _ _ _ hm
 obtain ⟨x0,⟨hx0,hr0⟩,ZP⟩:=xa (te:=5) rfl (by kernel_rfl) (by kernel_rfl) (by kernel_rfl) (VK 0 _ v0 rfl rfl) h0
 have hB:Rows.uptoBulkAll ([d0]++ [])<=1048576:=Hy hk
 simp only [List.append_nil,Rows.uptoBulkAll] at hB
 have b0:Ty.fp (.slice (.int .u8)) x0<=1048576:=Qu ZP (by omega)
 refine (AD.calls W (λ_=>False) [v0] (x0,()) true (λ_ h=>h.elim) ⟨hx0,trivial⟩ (Ab (show vM x0 from ⟨by have:=JD x0;omega,hr0⟩))).mono λe W' ⟨v,he,bel,hr⟩=>?_
 have hv:v= .bool true:=SD hr
 subst hv
 subst he
 exact ⟨_,rfl,_,_,_,[],_,[],hW',trodAll_mk1 (shut_bool Try.underlying4 _),trodAll_cons_mk (Below.trod laidOut (by kernel_rfl) (Hy (by kernel_rfl)) h0 bel lt0) trodAll_mk0,rfl,bel.frame _,λh=>by cases h⟩
set_option maxRecDepth 100000 in
theorem sH (os:Os) (started:os.Started) (H:Type) (enc:TypeId×Value->H) (F:Stop.Interp):
  ReturnsInHanded {} Try.checked os 5 .any ((Rows.OpenSpec.upto Rows.fnTablesSpec).pre6 enc Try.prog Try.f5 Rows.fnTablesUptoRow.domain false) (((Rows.OpenSpec.upto Rows.fnTablesSpec).at F).post enc Try.prog Try.f5 false true false false):=by
 refine returnsInHanded_of_cond (C:=Try.checked) (s:=Rows.OpenSpec.upto Rows.fnTablesSpec) (k:=Rows.uptoSmall) rfl own started (by kernel_rfl) Try.func5
  (OpenSpec.witness (enc:=enc) (C:=Try.checked) (s:=Rows.OpenSpec.upto Rows.fnTablesSpec) (k:=Rows.uptoSmall) rfl false ⟨#[], #[.slice none 0 0],[]⟩ 8 (by kernel_rfl) (by kernel_rfl) (by kernel_rfl)
   (x:=([.nil],[],[])) (by kernel_rfl) rfl (by kernel_rfl)) ?_
 intro W base args ds gs before VK hW _ hk _
 exact oo H enc W base args ds gs before VK hW hk
theorem provedFTables:Rows.FnTablesUptoSaid:=
 OpenClaim.holds_of_cond 5 Try.f5 rfl rfl rfl rfl rfl rfl rfl ⟨rfl,rfl,rfl,rfl,rfl⟩ rfl rfl rfl rfl rfl (by kernel_rfl) Try.func5 (by kernel_rfl)
  (Hy (by kernel_rfl)) (by unfold Func.isWrapper;first|(rw [Ab (by decide+kernel)];kernel_rfl)|(rw [Al (by decide+kernel)];exact ⟨rfl,rfl⟩))
  (λos started H enc _ F=>sH os started H enc F)
end Go.Proofs.Ytkkdpknjohcekaa
