/-
  Part 46 of the proof that the statement FnExactSolveTwoPhaseWithin holds: every run of the law at an input of bulk at most 1048576 returns true, and its arguments read afterwards as before.
-/
import Derived.Test.YtfgfigkbgecfnaaCSolveTwoPhaseWithin44
namespace Go.Proofs.Ytfgfigkbgecfnaa
open Go.ChangeShapes Go.WideShapes Go.ChangeAt Go.RowKit
set_option maxRecDepth 100000
theorem bd (H:Type) (enc:TypeId×Value->H) (W:World) (base:Nat) (args:Array Value) (ds gs:List (DataW H)) (before:List MemPlace)
  (mI: ∀(j:Nat) t v,Try.f4.params[j]?=some t->args[j]?=some v->Value.okWide Try.prog W .any base t v)
  (hW:DataW.Whole enc Try.prog Try.f4.params.toList Rows.fnExactSolveTwoPhaseWithinSpec.vars false W args.toList ds gs before) (hk:Rows.uptoSmall H (ds++gs)=true):
  Calls Try.prog 4 args W λe W'=> ∃v,e= .returned v/\Rows.fnExactSolveTwoPhaseWithinSpec.post enc Try.prog Try.f4 false true false false W args v W':=by
 have hW':=hW;obtain ⟨p,q,hA0,hV,rfl,hfz,sd⟩:=hW;have hA:DataW.TrodAll enc Try.prog W 0 (λ_=>true) true Try.f4.params.toList args.toList ds p:=hA0;rw [Try.params4] at hA mI;obtain ⟨v0,vs0,d0,ds0,p0,q0,Rr,rfl,rfl,h0,r0⟩:=trodAll_cons hA;obtain ⟨v1,vs1,d1,ds1,p1,q1,rfl,rfl,rfl,h1,r1⟩:=trodAll_cons r0;obtain ⟨v2,vs2,d2,ds2,p2,q2,rfl,rfl,rfl,h2,r2⟩:=trodAll_cons r1;obtain ⟨v3,vs3,d3,ds3,p3,q3,rfl,rfl,rfl,h3,r3⟩:=trodAll_cons r2;obtain ⟨rfl,rfl,rfl⟩:=trodAll_nil r3
 obtain rfl:args= #[v0,v1,v2,v3]:=by cases args;simp_all
 obtain ⟨rfl,rfl⟩:=trodVars_none hV
 have lt0: ∀x∈p0,x.block<W.heap.size:=by obtain ⟨m,hm⟩:=h0;exact DataW.trod_lt m _ _ _ hm
 obtain ⟨x0,hx0,hb0⟩:=x9 (τ:=Gi) rfl rfl (mI 0 _ v0 rfl rfl) h0
 have lt1: ∀x∈p1,x.block<W.heap.size:=by obtain ⟨m,hm⟩:=h1;exact DataW.trod_lt m _ _ _ hm
 obtain ⟨x1,hx1,YN⟩:=oK (te:=2) (e:=tI) rfl (by kernel_rfl) (mI 1 _ v1 rfl rfl) h1
 have lt2: ∀x∈p2,x.block<W.heap.size:=by obtain ⟨m,hm⟩:=h2;exact DataW.trod_lt m _ _ _ hm
 obtain ⟨x2,hx2,hb2⟩:=oK (te:=2) (e:=tI) rfl (by kernel_rfl) (mI 2 _ v2 rfl rfl) h2
 have lt3: ∀x∈p3,x.block<W.heap.size:=by obtain ⟨m,hm⟩:=h3;exact DataW.trod_lt m _ _ _ hm
 obtain ⟨x3,hx3,hb3⟩:=PF (k:= .i64) rfl (by kernel_rfl) (mI 3 _ v3 rfl rfl) h3;have hB:Rows.uptoBulkAll ([d0,d1,d2,d3]++ [])<=1048576:=Cx hk;simp only [iQ,Rows.uptoBulkAll] at hB;have b0:Ty.Sf (Gi) x0<=1048576:=Gz hb0 (by omega);have b1:Ty.Sf (tL) x1<=1048576:=Gz YN (by omega);have b2:Ty.Sf (tL) x2<=1048576:=Gz hb2 (by omega);have b3:Ty.Sf (tI) x3<=1048576:=Gz hb3 (by omega);refine (xk.calls W (λ_=>False) [v0,v1,v2,v3] (x0,x1,x2,x3,()) true (λ_ h=>h.elim) ⟨hx0,hx1,hx2,hx3,trivial⟩ (Ac (⟨WX x0 b0,yR x1 b1,yR x2 b2⟩))).mono λe W' ⟨v,he,bel,hr⟩=>?_;have hv:v= .bool true:=Acn hr;subst hv;subst he
 exact ⟨_,rfl,_,_,_,[],_,[],hW',trodAll_mk1 (shut_bool Try.underlying4 _),trodAll_cons_mk (Below.trod laidOut (by kernel_rfl) (Cx (by kernel_rfl)) h0 bel lt0) (trodAll_cons_mk (Below.trod laidOut (by kernel_rfl) (Cx (by kernel_rfl)) h1 bel lt1) (trodAll_cons_mk (Below.trod laidOut (by kernel_rfl) (Cx (by kernel_rfl)) h2 bel lt2) (trodAll_cons_mk (Below.trod laidOut (by kernel_rfl) (Cx (by kernel_rfl)) h3 bel lt3) trodAll_mk0))),rfl,bel.frame _,λh=>by cases h⟩
set_option maxRecDepth 100000 in
theorem cV (os:Os) (started:os.Started) (H:Type) (enc:TypeId×Value->H) (F:Stop.Interp):
  ReturnsInHanded {} Try.checked os 4 .any ((Rows.OpenSpec.upto Rows.fnExactSolveTwoPhaseWithinSpec).pre6 enc Try.prog Try.f4 Rows.fnExactSolveTwoPhaseWithinUptoRow.domain false) (((Rows.OpenSpec.upto Rows.fnExactSolveTwoPhaseWithinSpec).at F).post enc Try.prog Try.f4 false true false false):=by
 refine returnsInHanded_of_cond (C:=Try.checked) (s:=Rows.OpenSpec.upto Rows.fnExactSolveTwoPhaseWithinSpec) (k:=Rows.uptoSmall) rfl own started (by kernel_rfl) Try.func4
  (OpenSpec.witness (enc:=enc) (C:=Try.checked) (s:=Rows.OpenSpec.upto Rows.fnExactSolveTwoPhaseWithinSpec) (k:=Rows.uptoSmall) rfl false ⟨#[], #[.agg #[.int .i64 0, .string ByteArray.empty, .slice none 0 0], .slice none 0 0, .slice none 0 0, .int .i64 0],[]⟩ 8 (by kernel_rfl) (by kernel_rfl) (by kernel_rfl)
   (x:=([.agg [.lit (.int .i64 0), .lit (.string []), .nil], .nil, .nil, .lit (.int .i64 0)],[],[])) (by kernel_rfl) rfl (by kernel_rfl)) ?_
 intro W base args ds gs before mI hW _ hk _;exact bd H enc W base args ds gs before mI hW hk
theorem provedSolveTwoPhaseWithin:Rows.FnExactSolveTwoPhaseWithinUptoSaid:=
 OpenClaim.holds_of_cond 4 Try.f4 rfl rfl rfl rfl rfl rfl rfl ⟨rfl,rfl,rfl,rfl,rfl⟩ rfl rfl rfl rfl rfl (by kernel_rfl) Try.func4 (by kernel_rfl)
  (Cx (by kernel_rfl)) (by unfold Func.isWrapper;first|(rw [Ac (by decide+kernel)];kernel_rfl)|(rw [Ai (by decide+kernel)];exact ⟨rfl,rfl⟩))
  (λos started H enc _ F=>cV os started H enc F)
end Go.Proofs.Ytfgfigkbgecfnaa
