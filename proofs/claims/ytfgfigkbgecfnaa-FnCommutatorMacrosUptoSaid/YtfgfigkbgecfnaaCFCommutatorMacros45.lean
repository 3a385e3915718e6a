/-
  Part 46 of the proof that the statement FnCommutatorMacros holds: every run of the law at an input of bulk at most 1048576 returns true, and its arguments read afterwards as before.
-/
import Derived.Test.YtfgfigkbgecfnaaCFCommutatorMacros44
namespace Go.Proofs.Ytfgfigkbgecfnaa
open Go.ChangeShapes Go.WideShapes Go.ChangeAt Go.RowKit
set_option maxRecDepth 100000
theorem Xu (H:Type) (enc:TypeId×Value->H) (W:World) (base:Nat) (args:Array Value) (ds gs:List (DataW H)) (before:List MemPlace)
  (GL: ∀(j:Nat) t v,Try.f3.params[j]?=some t->args[j]?=some v->Value.okWide Try.prog W .any base t v)
  (hW:DataW.Whole enc Try.prog Try.f3.params.toList Rows.fnCommutatorMacrosSpec.vars false W args.toList ds gs before) (hk:Rows.uptoSmall H (ds++gs)=true):
  Calls Try.prog 3 args W λe W'=> ∃v,e= .returned v/\Rows.fnCommutatorMacrosSpec.post enc Try.prog Try.f3 false true false false W args v W':=by
 have hW':=hW
 obtain ⟨p,q,hA0,hV,rfl,hfz,tj⟩:=hW
 have hA:DataW.TrodAll enc Try.prog W 0 (λ_=>true) true Try.f3.params.toList args.toList ds p:=hA0
 rw [Try.params3] at hA GL
 obtain ⟨v0,vs0,d0,ds0,p0,q0,No,rfl,rfl,h0,r0⟩:=trodAll_cons hA
 obtain ⟨rfl,rfl,rfl⟩:=trodAll_nil r0
 obtain rfl:args= #[v0]:=by cases args;simp_all
 obtain ⟨rfl,rfl⟩:=trodVars_none hV
 have lt0: ∀x∈p0,x.block<W.heap.size:=by obtain ⟨m,hm⟩:=h0;exact DataW.trod_lt m _ _ _ hm
 obtain ⟨x0,⟨TM,WY⟩,VK⟩:=rE (te:=5) rfl (by kernel_rfl) (by kernel_rfl) (by kernel_rfl) (GL 0 _ v0 rfl rfl) h0
 have hB:Rows.uptoBulkAll ([d0]++ [])<=1048576:=Dh hk
 simp only [List.append_nil,Rows.uptoBulkAll] at hB
 have b0:Ty.cO (.slice (.int .u8)) x0<=1048576:=Kj VK (by omega)
 refine (rQ.calls W (λ_=>False) [v0] (x0,()) true (λ_ h=>h.elim) ⟨TM,trivial⟩ (Af (show qh x0 from ⟨by have:=yg x0;omega,WY⟩))).mono λe W' ⟨v,he,YM,hr⟩=>?_
 have hv:v= .bool true:=DS hr
 subst hv
 subst he
 exact ⟨_,rfl,_,_,_,[],_,[],hW',trodAll_mk1 (shut_bool Try.underlying4 _),trodAll_cons_mk (Below.trod laidOut (by kernel_rfl) (Dh (by kernel_rfl)) h0 YM lt0) trodAll_mk0,rfl,YM.frame _,λh=>by cases h⟩
set_option maxRecDepth 100000 in
theorem ar (os:Os) (started:os.Started) (H:Type) (enc:TypeId×Value->H) (F:Stop.Interp):
  ReturnsInHanded {} Try.checked os 3 .any ((Rows.OpenSpec.upto Rows.fnCommutatorMacrosSpec).pre6 enc Try.prog Try.f3 Rows.fnCommutatorMacrosUptoRow.domain false) (((Rows.OpenSpec.upto Rows.fnCommutatorMacrosSpec).at F).post enc Try.prog Try.f3 false true false false):=by
 refine returnsInHanded_of_cond (C:=Try.checked) (s:=Rows.OpenSpec.upto Rows.fnCommutatorMacrosSpec) (k:=Rows.uptoSmall) rfl own started (by kernel_rfl) Try.func3
  (OpenSpec.witness (enc:=enc) (C:=Try.checked) (s:=Rows.OpenSpec.upto Rows.fnCommutatorMacrosSpec) (k:=Rows.uptoSmall) rfl false ⟨#[], #[.slice none 0 0],[]⟩ 8 (by kernel_rfl) (by kernel_rfl) (by kernel_rfl)
   (x:=([.nil],[],[])) (by kernel_rfl) rfl (by kernel_rfl)) ?_
 intro W base args ds gs before GL hW _ hk _
 exact Xu H enc W base args ds gs before GL hW hk
theorem provedFCommutatorMacros:Rows.FnCommutatorMacrosUptoSaid:=
 OpenClaim.holds_of_cond 3 Try.f3 rfl rfl rfl rfl rfl rfl rfl ⟨rfl,rfl,rfl,rfl,rfl⟩ rfl rfl rfl rfl rfl (by kernel_rfl) Try.func3 (by kernel_rfl)
  (Dh (by kernel_rfl)) (by unfold Func.isWrapper;first|(rw [Af (by decide+kernel)];kernel_rfl)|(rw [Aj (by decide+kernel)];exact ⟨rfl,rfl⟩))
  (λos started H enc _ F=>ar os started H enc F)
end Go.Proofs.Ytfgfigkbgecfnaa
