/-
  Part 43 of the proof that the statement FnExactSubgroupCosetCount holds: every run of the law at an input of bulk at most 1048576 returns true, and its arguments read afterwards as before.
-/
import Derived.Test.YtjbdmibbbpdnnaaCSubgroupCosetCount41
namespace Go.Proofs.Ytjbdmibbbpdnnaa
open Go.ChangeShapes Go.WideShapes Go.ChangeAt Go.RowKit
set_option maxRecDepth 100000
theorem Sq (H:Type) (enc:TypeId×Value->H) (W:World) (base:Nat) (args:Array Value) (ds gs:List (DataW H)) (before:List MemPlace)
  (uX: ∀(j:Nat) t v,Try.f4.params[j]?=some t->args[j]?=some v->Value.okWide Try.prog W .any base t v)
  (hW:DataW.Whole enc Try.prog Try.f4.params.toList Rows.fnExactSubgroupCosetCountSpec.vars false W args.toList ds gs before) (hk:Rows.uptoSmall H (ds++gs)=true):
  Calls Try.prog 4 args W λe W'=> ∃v,e= .returned v/\Rows.fnExactSubgroupCosetCountSpec.post enc Try.prog Try.f4 false true false false W args v W':=by
 have hW':=hW
 obtain ⟨p,q,hA0,hV,rfl,hfz,zt⟩:=hW
 have hA:DataW.TrodAll enc Try.prog W 0 (λ_=>true) true Try.f4.params.toList args.toList ds p:=hA0
 rw [Try.params4] at hA uX
 obtain ⟨v0,vs0,d0,ds0,p0,q0,Jz,rfl,rfl,h0,r0⟩:=trodAll_cons hA
 obtain ⟨v1,vs1,d1,ds1,p1,q1,rfl,rfl,rfl,h1,r1⟩:=trodAll_cons r0
 obtain ⟨rfl,rfl,rfl⟩:=trodAll_nil r1
 obtain rfl:args= #[v0,v1]:=by cases args;simp_all
 obtain ⟨rfl,rfl⟩:=trodVars_none hV
 have lt0: ∀x∈p0,x.block<W.heap.size:=by obtain ⟨m,hm⟩:=h0;exact DataW.trod_lt m _ _ _ hm
 obtain ⟨x0,TH,JE⟩:=mM (τ:=Cx) rfl rfl (uX 0 _ v0 rfl rfl) h0
 have lt1: ∀x∈p1,x.block<W.heap.size:=by obtain ⟨m,hm⟩:=h1;exact DataW.trod_lt m _ _ _ hm
 obtain ⟨x1,hx1,zT⟩:=pY (te:=2) (e:=tI) rfl (by kernel_rfl) (uX 1 _ v1 rfl rfl) h1
 have hB:Rows.uptoBulkAll ([d0,d1]++ [])<=1048576:=of_decide_eq_true hk
 simp only [List.append_nil,Rows.uptoBulkAll] at hB
 have b0:Ty.Lo (Cx) x0<=1048576:=Nat.le_trans JE (by omega)
 have b1:Ty.Lo (tL) x1<=1048576:=Nat.le_trans zT (by omega)
 refine (ji.calls W (λ_=>False) [v0,v1] (x0,x1,()) true (λ_ h=>h.elim) ⟨TH,hx1,trivial⟩ (if_pos (⟨yQ x0 b0,yP x1 b1⟩))).mono λe W' ⟨v,he,UB,hr⟩=>?_
 have hv:v= .bool true:=CA hr
 subst hv
 subst he
 exact ⟨_,rfl,_,_,_,[],_,[],hW',trodAll_mk1 (shut_bool Try.underlying4 _),trodAll_cons_mk (Below.trod laidOut (by kernel_rfl) (of_decide_eq_true (by kernel_rfl)) h0 UB lt0) (trodAll_cons_mk (Below.trod laidOut (by kernel_rfl) (of_decide_eq_true (by kernel_rfl)) h1 UB lt1) trodAll_mk0),rfl,UB.frame _,λh=>by cases h⟩
set_option maxRecDepth 100000 in
theorem Uy (os:Os) (started:os.Started) (H:Type) (enc:TypeId×Value->H) (F:Stop.Interp):
  ReturnsInHanded {} Try.checked os 4 .any ((Rows.OpenSpec.upto Rows.fnExactSubgroupCosetCountSpec).pre6 enc Try.prog Try.f4 Rows.fnExactSubgroupCosetCountUptoRow.domain false) (((Rows.OpenSpec.upto Rows.fnExactSubgroupCosetCountSpec).at F).post enc Try.prog Try.f4 false true false false):=by
 refine returnsInHanded_of_cond (C:=Try.checked) (s:=Rows.OpenSpec.upto Rows.fnExactSubgroupCosetCountSpec) (k:=Rows.uptoSmall) rfl own started (by kernel_rfl) Try.func4
  (OpenSpec.witness (enc:=enc) (C:=Try.checked) (s:=Rows.OpenSpec.upto Rows.fnExactSubgroupCosetCountSpec) (k:=Rows.uptoSmall) rfl false ⟨#[], #[.agg #[.int .i64 0, .string ByteArray.empty, .slice none 0 0], .slice none 0 0],[]⟩ 8 (by kernel_rfl) (by kernel_rfl) (by kernel_rfl)
   (x:=([.agg [.lit (.int .i64 0), .lit (.string []), .nil], .nil],[],[])) (by kernel_rfl) rfl (by kernel_rfl)) ?_
 intro W base args ds gs before uX hW _ hk _
 exact Sq H enc W base args ds gs before uX hW hk
theorem provedSubgroupCosetCount:Rows.FnExactSubgroupCosetCountUptoSaid:=
 OpenClaim.holds_of_cond 4 Try.f4 rfl rfl rfl rfl rfl rfl rfl ⟨rfl,rfl,rfl,rfl,rfl⟩ rfl rfl rfl rfl rfl (by kernel_rfl) Try.func4 (by kernel_rfl)
  (of_decide_eq_true (by kernel_rfl)) (by unfold Func.isWrapper;first|(rw [if_pos (by decide+kernel)];kernel_rfl)|(rw [if_neg (by decide+kernel)];exact ⟨rfl,rfl⟩))
  (λos started H enc _ F=>Uy os started H enc F)
end Go.Proofs.Ytjbdmibbbpdnnaa
