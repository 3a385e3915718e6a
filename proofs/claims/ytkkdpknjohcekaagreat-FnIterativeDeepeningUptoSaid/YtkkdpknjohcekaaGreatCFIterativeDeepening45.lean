/-
  Part 46 of the proof that the statement FnIterativeDeepening holds: every run of the law at an input of bulk at most 1048576 returns true, and its arguments read afterwards as before.
-/
import Derived.Test.YtkkdpknjohcekaaGreatCFIterativeDeepening44
namespace Go.Proofs.YtkkdpknjohcekaaGreat
open Go.ChangeShapes Go.WideShapes Go.ChangeAt Go.RowKit
set_option maxRecDepth 100000
theorem aO (H:Type) (enc:TypeId×Value->H) (W:World) (base:Nat) (args:Array Value) (ds gs:List (DataW H)) (before:List MemPlace)
  (SI: ∀(j:Nat) t v,Tryz.f3.params[j]?=some t->args[j]?=some v->Value.okWide Tryz.prog W .any base t v)
  (hW:DataW.Whole enc Tryz.prog Tryz.f3.params.toList Rows.fnIterativeDeepeningSpec.vars false W args.toList ds gs before) (hk:Rows.uptoSmall H (ds++gs)=true):
  Calls Tryz.prog 3 args W λe W'=> ∃v,e= .returned v/\Rows.fnIterativeDeepeningSpec.post enc Tryz.prog Tryz.f3 false true false false W args v W':=by
 have hW':=hW
 obtain ⟨p,q,hA0,hV,rfl,hfz,BI⟩:=hW
 have hA:DataW.TrodAll enc Tryz.prog W 0 (λ_=>true) true Tryz.f3.params.toList args.toList ds p:=hA0
 rw [Tryz.params3] at hA SI
 obtain ⟨v0,vs0,d0,ds0,p0,q0,Ro,rfl,rfl,h0,r0⟩:=trodAll_cons hA
 obtain ⟨rfl,rfl,rfl⟩:=trodAll_nil r0
 obtain rfl:args= #[v0]:=by cases args;simp_all
 obtain ⟨rfl,rfl⟩:=trodVars_none hV
 have lt0: ∀x∈p0,x.block<W.heap.size:=by obtain ⟨m,hm⟩:=h0;exact DataW.trod_lt m _ _ _ hm
 obtain ⟨x0,⟨hx0,hr0⟩,hb0⟩:=zK (te:=5) rfl (by kernel_rfl) (by kernel_rfl) (by kernel_rfl) (SI 0 _ v0 rfl rfl) h0
 have hB:Rows.uptoBulkAll ([d0]++ [])<=1048576:=Ik hk
 simp only [List.append_nil,Rows.uptoBulkAll] at hB
 have b0:Ty.iq (.slice (.int .u8)) x0<=1048576:=Lg hb0 (by omega)
 refine (zW.calls W (λ_=>False) [v0] (x0,()) true (λ_ h=>h.elim) ⟨hx0,trivial⟩ (Ab (show yy x0 from ⟨by have:=RN x0;omega,hr0⟩))).mono λe W' ⟨v,he,bel,hr⟩=>?_
 have hv:v= .bool true:=Aam hr
 subst hv
 subst he
 exact ⟨_,rfl,_,_,_,[],_,[],hW',trodAll_mk1 (shut_bool Tryz.underlying4 _),trodAll_cons_mk (Below.trod laidOut (by kernel_rfl) (Ik (by kernel_rfl)) h0 bel lt0) trodAll_mk0,rfl,bel.frame _,λh=>by cases h⟩
set_option maxRecDepth 100000 in
theorem cv (os:Os) (started:os.Started) (H:Type) (enc:TypeId×Value->H) (F:Stop.Interp):
  ReturnsInHanded {} Tryz.checked os 3 .any ((Rows.OpenSpec.upto Rows.fnIterativeDeepeningSpec).pre6 enc Tryz.prog Tryz.f3 Rows.fnIterativeDeepeningUptoRow.domain false) (((Rows.OpenSpec.upto Rows.fnIterativeDeepeningSpec).at F).post enc Tryz.prog Tryz.f3 false true false false):=by
 refine returnsInHanded_of_cond (C:=Tryz.checked) (s:=Rows.OpenSpec.upto Rows.fnIterativeDeepeningSpec) (k:=Rows.uptoSmall) rfl own started (by kernel_rfl) Tryz.func3
  (OpenSpec.witness (enc:=enc) (C:=Tryz.checked) (s:=Rows.OpenSpec.upto Rows.fnIterativeDeepeningSpec) (k:=Rows.uptoSmall) rfl false ⟨#[], #[.slice none 0 0],[]⟩ 8 (by kernel_rfl) (by kernel_rfl) (by kernel_rfl)
   (x:=([.nil],[],[])) (by kernel_rfl) rfl (by kernel_rfl)) ?_
 intro W base args ds gs before SI hW _ hk _
 exact aO H enc W base args ds gs before SI hW hk
theorem provedFIterativeDeepening:Rows.FnIterativeDeepeningUptoSaid:=
 OpenClaim.holds_of_cond 3 Tryz.f3 rfl rfl rfl rfl rfl rfl rfl ⟨rfl,rfl,rfl,rfl,rfl⟩ rfl rfl rfl rfl rfl (by kernel_rfl) Tryz.func3 (by kernel_rfl)
  (Ik (by kernel_rfl)) (by unfold Func.isWrapper;first|(rw [Ab (by decide+kernel)];kernel_rfl)|(rw [Ai (by decide+kernel)];exact ⟨rfl,rfl⟩))
  (λos started H enc _ F=>cv os started H enc F)
end Go.Proofs.YtkkdpknjohcekaaGreat
