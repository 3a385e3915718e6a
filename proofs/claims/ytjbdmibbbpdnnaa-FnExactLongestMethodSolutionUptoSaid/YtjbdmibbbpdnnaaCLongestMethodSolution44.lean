/-
  Part 45 of the proof that the statement FnExactLongestMethodSolution holds: every run of the law at an input of bulk at most 1048576 returns true, and its arguments read afterwards as before.
-/
import Derived.Test.YtjbdmibbbpdnnaaCLongestMethodSolution43
namespace Go.Proofs.Ytjbdmibbbpdnnaa
open Go.ChangeShapes Go.WideShapes Go.ChangeAt Go.RowKit
set_option maxRecDepth 100000
theorem Rh (H:Type) (enc:TypeId×Value->H) (W:World) (base:Nat) (args:Array Value) (ds gs:List (DataW H)) (before:List MemPlace)
  (mr: ∀(j:Nat) t v,Try.f9.params[j]?=some t->args[j]?=some v->Value.okWide Try.prog W .any base t v)
  (hW:DataW.Whole enc Try.prog Try.f9.params.toList Rows.fnExactLongestMethodSolutionSpec.vars false W args.toList ds gs before) (hk:Rows.uptoSmall H (ds++gs)=true):
  Calls Try.prog 9 args W λe W'=> ∃v,e= .returned v/\Rows.fnExactLongestMethodSolutionSpec.post enc Try.prog Try.f9 false true false false W args v W':=by
 have hW':=hW
 obtain ⟨p,q,hA0,hV,rfl,hfz,oJ⟩:=hW
 have hA:DataW.TrodAll enc Try.prog W 0 (λ_=>true) true Try.f9.params.toList args.toList ds p:=hA0
 rw [Try.params9] at hA mr
 obtain ⟨v0,vs0,d0,ds0,p0,q0,Kx,rfl,rfl,h0,r0⟩:=trodAll_cons hA
 obtain ⟨v1,vs1,d1,ds1,p1,q1,rfl,rfl,rfl,h1,r1⟩:=trodAll_cons r0
 obtain ⟨rfl,rfl,rfl⟩:=trodAll_nil r1
 obtain rfl:args= #[v0,v1]:=by cases args;simp_all
 obtain ⟨rfl,rfl⟩:=trodVars_none hV
 have lt0: ∀x∈p0,x.block<W.heap.size:=by obtain ⟨m,hm⟩:=h0;exact DataW.trod_lt m _ _ _ hm
 obtain ⟨x0,OG,SY⟩:=p8 (τ:=Eh) rfl rfl (mr 0 _ v0 rfl rfl) h0
 have lt1: ∀x∈p1,x.block<W.heap.size:=by obtain ⟨m,hm⟩:=h1;exact DataW.trod_lt m _ _ _ hm
 obtain ⟨x1,hx1,HO⟩:=sI (te:=25) (e:=tL) rfl (by kernel_rfl) (mr 1 _ v1 rfl rfl) h1
 have hB:Rows.uptoBulkAll ([d0,d1]++ [])<=1048576:=of_decide_eq_true hk
 simp only [List.append_nil,Rows.uptoBulkAll] at hB
 have b0:Ty.Ng (Eh) x0<=1048576:=Nat.le_trans SY (by omega)
 have b1:Ty.Ng (dP) x1<=1048576:=Nat.le_trans HO (by omega)
 refine (pj.calls W (λ_=>False) [v0,v1] (x0,x1,()) true (λ_ h=>h.elim) ⟨OG,hx1,trivial⟩ (if_pos (⟨ED x0 b0,nu x1 b1⟩))).mono λe W' ⟨v,he,bel,hr⟩=>?_
 have hv:v= .bool true:=KG hr
 subst hv
 subst he
 exact ⟨_,rfl,_,_,_,[],_,[],hW',trodAll_mk1 (shut_bool Try.underlying4 _),trodAll_cons_mk (Below.trod laidOut (by kernel_rfl) (of_decide_eq_true (by kernel_rfl)) h0 bel lt0) (trodAll_cons_mk (Below.trod laidOut (by kernel_rfl) (of_decide_eq_true (by kernel_rfl)) h1 bel lt1) trodAll_mk0),rfl,bel.frame _,λh=>by cases h⟩
set_option maxRecDepth 100000 in
theorem Td (os:Os) (started:os.Started) (H:Type) (enc:TypeId×Value->H) (F:Stop.Interp):
  ReturnsInHanded {} Try.checked os 9 .any ((Rows.OpenSpec.upto Rows.fnExactLongestMethodSolutionSpec).pre6 enc Try.prog Try.f9 Rows.fnExactLongestMethodSolutionUptoRow.domain false) (((Rows.OpenSpec.upto Rows.fnExactLongestMethodSolutionSpec).at F).post enc Try.prog Try.f9 false true false false):=by
 refine returnsInHanded_of_cond (C:=Try.checked) (s:=Rows.OpenSpec.upto Rows.fnExactLongestMethodSolutionSpec) (k:=Rows.uptoSmall) rfl own started (by kernel_rfl) Try.func9
  (OpenSpec.witness (enc:=enc) (C:=Try.checked) (s:=Rows.OpenSpec.upto Rows.fnExactLongestMethodSolutionSpec) (k:=Rows.uptoSmall) rfl false ⟨#[], #[.agg #[.int .i64 0, .string ByteArray.empty, .slice none 0 0], .slice none 0 0],[]⟩ 8 (by kernel_rfl) (by kernel_rfl) (by kernel_rfl)
   (x:=([.agg [.lit (.int .i64 0), .lit (.string []), .nil], .nil],[],[])) (by kernel_rfl) rfl (by kernel_rfl)) ?_
 intro W base args ds gs before mr hW _ hk _
 exact Rh H enc W base args ds gs before mr hW hk
theorem provedLongestMethodSolution:Rows.FnExactLongestMethodSolutionUptoSaid:=
 OpenClaim.holds_of_cond 9 Try.f9 rfl rfl rfl rfl rfl rfl rfl ⟨rfl,rfl,rfl,rfl,rfl⟩ rfl rfl rfl rfl rfl (by kernel_rfl) Try.func9 (by kernel_rfl)
  (of_decide_eq_true (by kernel_rfl)) (by unfold Func.isWrapper;first|(rw [if_pos (by decide+kernel)];kernel_rfl)|(rw [if_neg (by decide+kernel)];exact ⟨rfl,rfl⟩))
  (λos started H enc _ F=>Td os started H enc F)
end Go.Proofs.Ytjbdmibbbpdnnaa
