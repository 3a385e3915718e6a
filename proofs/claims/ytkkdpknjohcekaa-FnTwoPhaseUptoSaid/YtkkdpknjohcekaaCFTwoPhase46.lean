/-
  Part 47 of the proof that the statement FnTwoPhase holds: every run of the law at an input of bulk at most 1048576 returns true, and its arguments read afterwards as before.
-/
import Derived.Test.YtkkdpknjohcekaaCFTwoPhase45
namespace Go.Proofs.Ytkkdpknjohcekaa
open Go.ChangeShapes Go.WideShapes Go.ChangeAt Go.RowKit
set_option maxRecDepth 100000
theorem nu (H:Type) (enc:TypeId×Value->H) (W:World) (base:Nat) (args:Array Value) (ds gs:List (DataW H)) (before:List MemPlace)
  (vZ: ∀(j:Nat) t v,Try.f9.params[j]?=some t->args[j]?=some v->Value.okWide Try.prog W .any base t v)
  (hW:DataW.Whole enc Try.prog Try.f9.params.toList Rows.fnTwoPhaseSpec.vars false W args.toList ds gs before) (hk:Rows.uptoSmall H (ds++gs)=true):
  Calls Try.prog 9 args W λe W'=> ∃v,e= .returned v/\Rows.fnTwoPhaseSpec.post enc Try.prog Try.f9 false true false false W args v W':=by
 have hW':=hW
 obtain ⟨p,q,hA0,hV,rfl,hfz,rH⟩:=hW
 have hA:DataW.TrodAll enc Try.prog W 0 (λ_=>true) true Try.f9.params.toList args.toList ds p:=hA0
 rw [Try.params9] at hA vZ
 obtain ⟨v0,vs0,d0,ds0,p0,q0,Rh,rfl,rfl,h0,r0⟩:=trodAll_cons hA
 obtain ⟨rfl,rfl,rfl⟩:=trodAll_nil r0
 obtain rfl:args= #[v0]:=by cases args;simp_all
 obtain ⟨rfl,rfl⟩:=trodVars_none hV
 have lt0: ∀x∈p0,x.block<W.heap.size:=by obtain ⟨m,hm⟩:=h0;exact DataW.trod_lt m _ _ _ hm
 obtain ⟨x0,⟨hx0,hr0⟩,hb0⟩:=AQ (te:=5) rfl (by kernel_rfl) (by kernel_rfl) (by kernel_rfl) (vZ 0 _ v0 rfl rfl) h0
 have hB:Rows.uptoBulkAll ([d0]++ [])<=1048576:=Ia hk
 simp only [List.append_nil,Rows.uptoBulkAll] at hB
 have b0:Ty.iC (.slice (.int .u8)) x0<=1048576:=Iq hb0 (by omega)
 refine (BE.calls W (λ_=>False) [v0] (x0,()) true (λ_ h=>h.elim) ⟨hx0,trivial⟩ (Ab (show yW x0 from ⟨by have:=TA x0;omega,hr0⟩))).mono λe W' ⟨v,he,bel,hr⟩=>?_
 have hv:v= .bool true:=Abt hr
 subst hv
 subst he
 exact ⟨_,rfl,_,_,_,[],_,[],hW',trodAll_mk1 (shut_bool Try.underlying4 _),trodAll_cons_mk (Below.trod laidOut (by kernel_rfl) (Ia (by kernel_rfl)) h0 bel lt0) trodAll_mk0,rfl,bel.frame _,λh=>by cases h⟩
set_option maxRecDepth 100000 in
theorem rO (os:Os) (started:os.Started) (H:Type) (enc:TypeId×Value->H) (F:Stop.Interp):
  ReturnsInHanded {} Try.checked os 9 .any ((Rows.OpenSpec.upto Rows.fnTwoPhaseSpec).pre6 enc Try.prog Try.f9 Rows.fnTwoPhaseUptoRow.domain false) (((Rows.OpenSpec.upto Rows.fnTwoPhaseSpec).at F).post enc Try.prog Try.f9 false true false false):=by
 refine returnsInHanded_of_cond (C:=Try.checked) (s:=Rows.OpenSpec.upto Rows.fnTwoPhaseSpec) (k:=Rows.uptoSmall) rfl own started (by kernel_rfl) Try.func9
  (OpenSpec.witness (enc:=enc) (C:=Try.checked) (s:=Rows.OpenSpec.upto Rows.fnTwoPhaseSpec) (k:=Rows.uptoSmall) rfl false ⟨#[], #[.slice none 0 0],[]⟩ 8 (by kernel_rfl) (by kernel_rfl) (by kernel_rfl)
   (x:=([.nil],[],[])) (by kernel_rfl) rfl (by kernel_rfl)) ?_
 intro W base args ds gs before vZ hW _ hk _
 exact nu H enc W base args ds gs before vZ hW hk
theorem provedFTwoPhase:Rows.FnTwoPhaseUptoSaid:=
 OpenClaim.holds_of_cond 9 Try.f9 rfl rfl rfl rfl rfl rfl rfl ⟨rfl,rfl,rfl,rfl,rfl⟩ rfl rfl rfl rfl rfl (by kernel_rfl) Try.func9 (by kernel_rfl)
  (Ia (by kernel_rfl)) (by unfold Func.isWrapper;first|(rw [Ab (by decide+kernel)];kernel_rfl)|(rw [Ai (by decide+kernel)];exact ⟨rfl,rfl⟩))
  (λos started H enc _ F=>rO os started H enc F)
end Go.Proofs.Ytkkdpknjohcekaa
