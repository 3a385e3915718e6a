/-
  Part 46 of the proof that the statement FnNoShorterSolution holds: every run of the law at an input of bulk at most 1048576 returns true, and its arguments read afterwards as before.
-/
import Derived.Test.YtkkdpknjohcekaaGreatCFNoShorterSolution44
namespace Go.Proofs.YtkkdpknjohcekaaGreat
open Go.ChangeShapes Go.WideShapes Go.ChangeAt Go.RowKit
set_option maxRecDepth 100000
theorem bP (H:Type) (enc:TypeId×Value->H) (W:World) (base:Nat) (args:Array Value) (ds gs:List (DataW H)) (before:List MemPlace)
  (SW: ∀(j:Nat) t v,Tryz.f5.params[j]?=some t->args[j]?=some v->Value.okWide Tryz.prog W .any base t v)
  (hW:DataW.Whole enc Tryz.prog Tryz.f5.params.toList Rows.fnNoShorterSolutionSpec.vars false W args.toList ds gs before) (hk:Rows.uptoSmall H (ds++gs)=true):
  Calls Tryz.prog 5 args W λe W'=> ∃v,e= .returned v/\Rows.fnNoShorterSolutionSpec.post enc Tryz.prog Tryz.f5 false true false false W args v W':=by
 have hW':=hW
 obtain ⟨p,q,hA0,hV,rfl,hfz,s9⟩:=hW
 have hA:DataW.TrodAll enc Tryz.prog W 0 (λ_=>true) true Tryz.f5.params.toList args.toList ds p:=hA0
 rw [Tryz.params5] at hA SW
 obtain ⟨v0,vs0,d0,ds0,p0,q0,Rr,rfl,rfl,h0,r0⟩:=trodAll_cons hA
 obtain ⟨rfl,rfl,rfl⟩:=trodAll_nil r0
 obtain rfl:args= #[v0]:=by cases args;simp_all
 obtain ⟨rfl,rfl⟩:=trodVars_none hV
 have lt0: ∀x∈p0,x.block<W.heap.size:=by obtain ⟨m,hm⟩:=h0;exact DataW.trod_lt m _ _ _ hm
 obtain ⟨x0,⟨hx0,hr0⟩,hb0⟩:=zX (te:=5) rfl (by kernel_rfl) (by kernel_rfl) (by kernel_rfl) (SW 0 _ v0 rfl rfl) h0
 have hB:Rows.uptoBulkAll ([d0]++ [])<=1048576:=Jg hk
 simp only [List.append_nil,Rows.uptoBulkAll] at hB
 have b0:Ty.iQ (.slice (.int .u8)) x0<=1048576:=Ml hb0 (by omega)
 refine (AM.calls W (λ_=>False) [v0] (x0,()) true (λ_ h=>h.elim) ⟨hx0,trivial⟩ (Ab (show yO x0 from ⟨by have:=RZ x0;omega,hr0⟩))).mono λe W' ⟨v,he,bel,hr⟩=>?_
 have hv:v= .bool true:=Aau hr
 subst hv
 subst he
 exact ⟨_,rfl,_,_,_,[],_,[],hW',trodAll_mk1 (shut_bool Tryz.underlying4 _),trodAll_cons_mk (Below.trod laidOut (by kernel_rfl) (Jg (by kernel_rfl)) h0 bel lt0) trodAll_mk0,rfl,bel.frame _,λh=>by cases h⟩
set_option maxRecDepth 100000 in
theorem dC (os:Os) (started:os.Started) (H:Type) (enc:TypeId×Value->H) (F:Stop.Interp):
  ReturnsInHanded {} Tryz.checked os 5 .any ((Rows.OpenSpec.upto Rows.fnNoShorterSolutionSpec).pre6 enc Tryz.prog Tryz.f5 Rows.fnNoShorterSolutionUptoRow.domain false) (((Rows.OpenSpec.upto Rows.fnNoShorterSolutionSpec).at F).post enc Tryz.prog Tryz.f5 false true false false):=by
 refine returnsInHanded_of_cond (C:=Tryz.checked) (s:=Rows.OpenSpec.upto Rows.fnNoShorterSolutionSpec) (k:=Rows.uptoSmall) rfl own started (by kernel_rfl) Tryz.func5
  (OpenSpec.witness (enc:=enc) (C:=Tryz.checked) (s:=Rows.OpenSpec.upto Rows.fnNoShorterSolutionSpec) (k:=Rows.uptoSmall) rfl false ⟨#[], #[.slice none 0 0],[]⟩ 8 (by kernel_rfl) (by kernel_rfl) (by kernel_rfl)
   (x:=([.nil],[],[])) (by kernel_rfl) rfl (by kernel_rfl)) ?_
 intro W base args ds gs before SW hW _ hk _
 exact bP H enc W base args ds gs before SW hW hk
theorem provedFNoShorterSolution:Rows.FnNoShorterSolutionUptoSaid:=
 OpenClaim.holds_of_cond 5 Tryz.f5 rfl rfl rfl rfl rfl rfl rfl ⟨rfl,rfl,rfl,rfl,rfl⟩ rfl rfl rfl rfl rfl (by kernel_rfl) Tryz.func5 (by kernel_rfl)
  (Jg (by kernel_rfl)) (by unfold Func.isWrapper;first|(rw [Ab (by decide+kernel)];kernel_rfl)|(rw [Ai (by decide+kernel)];exact ⟨rfl,rfl⟩))
  (λos started H enc _ F=>dC os started H enc F)
end Go.Proofs.YtkkdpknjohcekaaGreat
