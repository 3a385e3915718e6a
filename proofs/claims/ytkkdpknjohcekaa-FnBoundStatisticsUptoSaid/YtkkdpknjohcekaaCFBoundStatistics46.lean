/-
  Part 47 of the proof that the statement FnBoundStatistics holds: every run of the law at an input of bulk at most 1048576 returns true, and its arguments read afterwards as before.
-/
import Derived.Test.YtkkdpknjohcekaaCFBoundStatistics45
namespace Go.Proofs.Ytkkdpknjohcekaa
open Go.ChangeShapes Go.WideShapes Go.ChangeAt Go.RowKit
set_option maxRecDepth 100000
theorem dg (H:Type) (enc:TypeId×Value->H) (W:World) (base:Nat) (args:Array Value) (ds gs:List (DataW H)) (before:List MemPlace)
  (z8: ∀(j:Nat) t v,Try.f8.params[j]?=some t->args[j]?=some v->Value.okWide Try.prog W .any base t v)
  (hW:DataW.Whole enc Try.prog Try.f8.params.toList Rows.fnBoundStatisticsSpec.vars false W args.toList ds gs before) (hk:Rows.uptoSmall H (ds++gs)=true):
  Calls Try.prog 8 args W λe W'=> ∃v,e= .returned v/\Rows.fnBoundStatisticsSpec.post enc Try.prog Try.f8 false true false false W args v W':=by
 have hW':=hW
 obtain ⟨p,q,hA0,hV,rfl,hfz,JE⟩:=hW
 have hA:DataW.TrodAll enc Try.prog W 0 (λ_=>true) true Try.f8.params.toList args.toList ds p:=hA0
 rw [Try.params8] at hA z8
 obtain ⟨v0,vs0,d0,ds0,p0,q0,Rg,rfl,rfl,h0,r0⟩:=trodAll_cons hA
 obtain ⟨rfl,rfl,rfl⟩:=trodAll_nil r0
 obtain rfl:args= #[v0]:=by cases args;simp_all
 obtain ⟨rfl,rfl⟩:=trodVars_none hV
 have lt0: ∀x∈p0,x.block<W.heap.size:=by obtain ⟨m,hm⟩:=h0;exact DataW.trod_lt m _ _ _ hm
 obtain ⟨x0,⟨hx0,hr0⟩,hb0⟩:=zU (te:=5) rfl (by kernel_rfl) (by kernel_rfl) (by kernel_rfl) (z8 0 _ v0 rfl rfl) h0
 have hB:Rows.uptoBulkAll ([d0]++ [])<=1048576:=Lg hk
 simp only [List.append_nil,Rows.uptoBulkAll] at hB
 have b0:Ty.il (.slice (.int .u8)) x0<=1048576:=Gx hb0 (by omega)
 refine (AJ.calls W (λ_=>False) [v0] (x0,()) true (λ_ h=>h.elim) ⟨hx0,trivial⟩ (Ac (show yK x0 from ⟨by have:=RX x0;omega,hr0⟩))).mono λe W' ⟨v,he,bel,hr⟩=>?_
 have hv:v= .bool true:=Aar hr
 subst hv
 subst he
 exact ⟨_,rfl,_,_,_,[],_,[],hW',trodAll_mk1 (shut_bool Try.underlying4 _),trodAll_cons_mk (Below.trod laidOut (by kernel_rfl) (Lg (by kernel_rfl)) h0 bel lt0) trodAll_mk0,rfl,bel.frame _,λh=>by cases h⟩
set_option maxRecDepth 100000 in
theorem fi (os:Os) (started:os.Started) (H:Type) (enc:TypeId×Value->H) (F:Stop.Interp):
  ReturnsInHanded {} Try.checked os 8 .any ((Rows.OpenSpec.upto Rows.fnBoundStatisticsSpec).pre6 enc Try.prog Try.f8 Rows.fnBoundStatisticsUptoRow.domain false) (((Rows.OpenSpec.upto Rows.fnBoundStatisticsSpec).at F).post enc Try.prog Try.f8 false true false false):=by
 refine returnsInHanded_of_cond (C:=Try.checked) (s:=Rows.OpenSpec.upto Rows.fnBoundStatisticsSpec) (k:=Rows.uptoSmall) rfl own started (by kernel_rfl) Try.func8
  (OpenSpec.witness (enc:=enc) (C:=Try.checked) (s:=Rows.OpenSpec.upto Rows.fnBoundStatisticsSpec) (k:=Rows.uptoSmall) rfl false ⟨#[], #[.slice none 0 0],[]⟩ 8 (by kernel_rfl) (by kernel_rfl) (by kernel_rfl)
   (x:=([.nil],[],[])) (by kernel_rfl) rfl (by kernel_rfl)) ?_
 intro W base args ds gs before z8 hW _ hk _
 exact dg H enc W base args ds gs before z8 hW hk
theorem provedFBoundStatistics:Rows.FnBoundStatisticsUptoSaid:=
 OpenClaim.holds_of_cond 8 Try.f8 rfl rfl rfl rfl rfl rfl rfl ⟨rfl,rfl,rfl,rfl,rfl⟩ rfl rfl rfl rfl rfl (by kernel_rfl) Try.func8 (by kernel_rfl)
  (Lg (by kernel_rfl)) (by unfold Func.isWrapper;first|(rw [Ac (by decide+kernel)];kernel_rfl)|(rw [Ak (by decide+kernel)];exact ⟨rfl,rfl⟩))
  (λos started H enc _ F=>fi os started H enc F)
end Go.Proofs.Ytkkdpknjohcekaa
