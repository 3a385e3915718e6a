/-
  Part 45 of the proof that the statement FnStateClasses holds: every run of the law at an input of bulk at most 1048576 returns true, and its arguments read afterwards as before.
-/
import Derived.Test.YtkkdpknjohcekaaCFStateClasses43
namespace Go.Proofs.Ytkkdpknjohcekaa
open Go.ChangeShapes Go.WideShapes Go.ChangeAt Go.RowKit
set_option maxRecDepth 100000
theorem fv (H:Type) (enc:TypeId×Value->H) (W:World) (base:Nat) (args:Array Value) (ds gs:List (DataW H)) (before:List MemPlace)
  (NJ: ∀(j:Nat) t v,Try.f4.params[j]?=some t->args[j]?=some v->Value.okWide Try.prog W .any base t v)
  (hW:DataW.Whole enc Try.prog Try.f4.params.toList Rows.fnStateClassesSpec.vars false W args.toList ds gs before) (hk:Rows.uptoSmall H (ds++gs)=true):
  Calls Try.prog 4 args W λe W'=> ∃v,e= .returned v/\Rows.fnStateClassesSpec.post enc Try.prog Try.f4 false true false false W args v W':=by
 have hW':=hW
 obtain ⟨p,q,hA0,hV,rfl,hfz,lQ⟩:=hW
 have hA:DataW.TrodAll enc Try.prog W 0 (λ_=>true) true Try.f4.params.toList args.toList ds p:=hA0
 rw [Try.params4] at hA NJ
 obtain ⟨v0,vs0,d0,ds0,p0,q0,Qk,rfl,rfl,h0,r0⟩:=trodAll_cons hA
 obtain ⟨rfl,rfl,rfl⟩:=trodAll_nil r0
 obtain rfl:args= #[v0]:=by cases args;simp_all
 obtain ⟨rfl,rfl⟩:=trodVars_none hV
 have lt0: ∀x∈p0,x.block<W.heap.size:=by obtain ⟨m,hm⟩:=h0;exact DataW.trod_lt m _ _ _ hm
 obtain ⟨x0,⟨hx0,YT⟩,hb0⟩:=xT (te:=5) rfl (by kernel_rfl) (by kernel_rfl) (by kernel_rfl) (NJ 0 _ v0 rfl rfl) h0
 have hB:Rows.uptoBulkAll ([d0]++ [])<=1048576:=Ex hk
 simp only [fO,Rows.uptoBulkAll] at hB
 have b0:Ty.fV (.slice (.int .u8)) x0<=1048576:=Ek hb0 (by omega)
 refine (yj.calls W (λ_=>False) [v0] (x0,()) true (λ_ h=>h.elim) ⟨hx0,trivial⟩ (Ac (show wH x0 from ⟨by have:=ML x0;omega,YT⟩))).mono λe W' ⟨v,he,bel,hr⟩=>?_
 have hv:v= .bool true:=VI hr
 subst hv
 subst he
 exact ⟨_,rfl,_,_,_,[],_,[],hW',trodAll_mk1 (shut_bool Try.underlying4 _),trodAll_cons_mk (Below.trod laidOut (by kernel_rfl) (Ex (by kernel_rfl)) h0 bel lt0) trodAll_mk0,rfl,bel.frame _,λh=>by cases h⟩
set_option maxRecDepth 100000 in
theorem jc (os:Os) (started:os.Started) (H:Type) (enc:TypeId×Value->H) (F:Stop.Interp):
  ReturnsInHanded {} Try.checked os 4 .any ((Rows.OpenSpec.upto Rows.fnStateClassesSpec).pre6 enc Try.prog Try.f4 Rows.fnStateClassesUptoRow.domain false) (((Rows.OpenSpec.upto Rows.fnStateClassesSpec).at F).post enc Try.prog Try.f4 false true false false):=by
 refine returnsInHanded_of_cond (C:=Try.checked) (s:=Rows.OpenSpec.upto Rows.fnStateClassesSpec) (k:=Rows.uptoSmall) rfl own started (by kernel_rfl) Try.func4
  (OpenSpec.witness (enc:=enc) (C:=Try.checked) (s:=Rows.OpenSpec.upto Rows.fnStateClassesSpec) (k:=Rows.uptoSmall) rfl false ⟨#[], #[.slice none 0 0],[]⟩ 8 (by kernel_rfl) (by kernel_rfl) (by kernel_rfl)
   (x:=([.nil],[],[])) (by kernel_rfl) rfl (by kernel_rfl)) ?_
 intro W base args ds gs before NJ hW _ hk _
 exact fv H enc W base args ds gs before NJ hW hk
theorem provedFStateClasses:Rows.FnStateClassesUptoSaid:=
 OpenClaim.holds_of_cond 4 Try.f4 rfl rfl rfl rfl rfl rfl rfl ⟨rfl,rfl,rfl,rfl,rfl⟩ rfl rfl rfl rfl rfl (by kernel_rfl) Try.func4 (by kernel_rfl)
  (Ex (by kernel_rfl)) (by unfold Func.isWrapper;first|(rw [Ac (by decide+kernel)];kernel_rfl)|(rw [Ai (by decide+kernel)];exact ⟨rfl,rfl⟩))
  (λos started H enc _ F=>jc os started H enc F)
end Go.Proofs.Ytkkdpknjohcekaa
