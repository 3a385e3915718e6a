/-
  Part 44 of the proof that the statement FnExactExactStateCount holds: every run of the law at an input of bulk at most 1048576 returns true, and its arguments read afterwards as before.
-/
import Derived.Test.YtjbdmibbbpdnnaaCExactStateCount42
namespace Go.Proofs.Ytjbdmibbbpdnnaa
open Go.ChangeShapes Go.WideShapes Go.ChangeAt Go.RowKit
set_option maxRecDepth 100000
theorem Xj (H:Type) (enc:TypeId×Value->H) (W:World) (base:Nat) (args:Array Value) (ds gs:List (DataW H)) (before:List MemPlace)
  (xV: ∀(j:Nat) t v,Try.f12.params[j]?=some t->args[j]?=some v->Value.okWide Try.prog W .any base t v)
  (hW:DataW.Whole enc Try.prog Try.f12.params.toList Rows.fnExactExactStateCountSpec.vars false W args.toList ds gs before) (hk:Rows.uptoSmall H (ds++gs)=true):
  Calls Try.prog 12 args W λe W'=> ∃v,e= .returned v/\Rows.fnExactExactStateCountSpec.post enc Try.prog Try.f12 false true false false W args v W':=by
 have hW':=hW
 obtain ⟨p,q,hA0,hV,rfl,hfz,FO⟩:=hW
 have hA:DataW.TrodAll enc Try.prog W 0 (λ_=>true) true Try.f12.params.toList args.toList ds p:=hA0
 rw [Try.params12] at hA xV
 obtain ⟨v0,vs0,d0,ds0,p0,q0,Kv,rfl,rfl,h0,r0⟩:=trodAll_cons hA
 obtain ⟨v1,vs1,d1,ds1,p1,q1,rfl,rfl,rfl,h1,r1⟩:=trodAll_cons r0
 obtain ⟨rfl,rfl,rfl⟩:=trodAll_nil r1
 obtain rfl:args= #[v0,v1]:=by cases args;simp_all
 obtain ⟨rfl,rfl⟩:=trodVars_none hV
 have lt0: ∀x∈p0,x.block<W.heap.size:=by obtain ⟨m,hm⟩:=h0;exact DataW.trod_lt m _ _ _ hm
 obtain ⟨x0,hx0,LW⟩:=pb (τ:=Dm) rfl rfl (xV 0 _ v0 rfl rfl) h0
 have lt1: ∀x∈p1,x.block<W.heap.size:=by obtain ⟨m,hm⟩:=h1;exact DataW.trod_lt m _ _ _ hm
 obtain ⟨x1,hx1,GQ⟩:=sM (te:=105) (e:=Gx) rfl (by kernel_rfl) (xV 1 _ v1 rfl rfl) h1
 have hB:Rows.uptoBulkAll ([d0,d1]++ [])<=1048576:=of_decide_eq_true hk
 simp only [List.append_nil,Rows.uptoBulkAll] at hB
 have b0:Ty.Hv (Dm) x0<=1048576:=Nat.le_trans LW (by omega)
 have b1:Ty.Hv (zl) x1<=1048576:=Nat.le_trans GQ (by omega)
 refine (nH.calls W (λ_=>False) [v0,v1] (x0,x1,()) true (λ_ h=>h.elim) ⟨hx0,hx1,trivial⟩ (if_pos (⟨DX x0 b0,z0 x1 b1⟩))).mono λe W' ⟨v,he,bel,hr⟩=>?_
 have hv:v= .bool true:=JJ hr
 subst hv
 subst he
 exact ⟨_,rfl,_,_,_,[],_,[],hW',trodAll_mk1 (shut_bool Try.underlying4 _),trodAll_cons_mk (Below.trod laidOut (by kernel_rfl) (of_decide_eq_true (by kernel_rfl)) h0 bel lt0) (trodAll_cons_mk (Below.trod laidOut (by kernel_rfl) (of_decide_eq_true (by kernel_rfl)) h1 bel lt1) trodAll_mk0),rfl,bel.frame _,λh=>by cases h⟩
set_option maxRecDepth 100000 in
theorem aY (os:Os) (started:os.Started) (H:Type) (enc:TypeId×Value->H) (F:Stop.Interp):
  ReturnsInHanded {} Try.checked os 12 .any ((Rows.OpenSpec.upto Rows.fnExactExactStateCountSpec).pre6 enc Try.prog Try.f12 Rows.fnExactExactStateCountUptoRow.domain false) (((Rows.OpenSpec.upto Rows.fnExactExactStateCountSpec).at F).post enc Try.prog Try.f12 false true false false):=by
 refine returnsInHanded_of_cond (C:=Try.checked) (s:=Rows.OpenSpec.upto Rows.fnExactExactStateCountSpec) (k:=Rows.uptoSmall) rfl own started (by kernel_rfl) Try.func12
  (OpenSpec.witness (enc:=enc) (C:=Try.checked) (s:=Rows.OpenSpec.upto Rows.fnExactExactStateCountSpec) (k:=Rows.uptoSmall) rfl false ⟨#[], #[.agg #[.int .i64 0, .string ByteArray.empty, .slice none 0 0], .slice none 0 0],[]⟩ 8 (by kernel_rfl) (by kernel_rfl) (by kernel_rfl)
   (x:=([.agg [.lit (.int .i64 0), .lit (.string []), .nil], .nil],[],[])) (by kernel_rfl) rfl (by kernel_rfl)) ?_
 intro W base args ds gs before xV hW _ hk _
 exact Xj H enc W base args ds gs before xV hW hk
theorem provedExactStateCount:Rows.FnExactExactStateCountUptoSaid:=
 OpenClaim.holds_of_cond 12 Try.f12 rfl rfl rfl rfl rfl rfl rfl ⟨rfl,rfl,rfl,rfl,rfl⟩ rfl rfl rfl rfl rfl (by kernel_rfl) Try.func12 (by kernel_rfl)
  (of_decide_eq_true (by kernel_rfl)) (by unfold Func.isWrapper;first|(rw [if_pos (by decide+kernel)];kernel_rfl)|(rw [if_neg (by decide+kernel)];exact ⟨rfl,rfl⟩))
  (λos started H enc _ F=>aY os started H enc F)
end Go.Proofs.Ytjbdmibbbpdnnaa
