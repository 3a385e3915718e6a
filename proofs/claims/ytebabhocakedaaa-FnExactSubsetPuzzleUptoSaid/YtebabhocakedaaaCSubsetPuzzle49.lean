/-
  Part 50 of the proof that the statement FnExactSubsetPuzzle holds: every run of the law at an input of bulk at most 1048576 returns true, and its arguments read afterwards as before.
-/
import Derived.Test.YtebabhocakedaaaCSubsetPuzzle48
namespace Go.Proofs.Ytebabhocakedaaa
open Go.ChangeShapes Go.WideShapes Go.ChangeAt Go.RowKit
set_option maxRecDepth 100000
theorem Yf (H:Type) (enc:TypeId×Value→H) (W:World) (base:Nat) (args:Array Value) (ds gs:List (DataW H)) (before:List MemPlace)
  (hval: ∀(j:Nat) t v,Try.f7.params[j]?=some t→args[j]?=some v→Value.okWide Try.prog W .any base t v)
  (hW:DataW.Whole enc Try.prog Try.f7.params.toList Rows.fnExactSubsetPuzzleSpec.vars false W args.toList ds gs before) (hk:Rows.uptoSmall H (ds++gs)=true):
  Calls Try.prog 7 args W fun e W'=> ∃v,e= .returned v∧Rows.fnExactSubsetPuzzleSpec.post enc Try.prog Try.f7 false true false false W args v W':=by
 have hW':=hW
 obtain ⟨p,q,hA0,hV,rfl,hfz,hnd⟩:=hW
 have hA:DataW.TrodAll enc Try.prog W 0 (fun _=>true) true Try.f7.params.toList args.toList ds p:=hA0
 rw [Try.params7] at hA hval
 obtain ⟨v0,vs0,d0,ds0,p0,q0,hargs,rfl,rfl,h0,r0⟩:=trodAll_cons hA
 obtain ⟨v1,vs1,d1,ds1,p1,q1,rfl,rfl,rfl,h1,r1⟩:=trodAll_cons r0
 obtain ⟨rfl,rfl,rfl⟩:=trodAll_nil r1
 obtain rfl:args= #[v0,v1]:=by cases args;simp_all
 obtain ⟨rfl,rfl⟩:=trodVars_none hV
 have lt0: ∀x∈p0,x.block<W.heap.size:=by obtain ⟨m,hm⟩:=h0;exact DataW.trod_lt m _ _ _ hm
 obtain ⟨x0,hx0,hb0⟩:=Alm (τ:=Cr) rfl rfl (hval 0 _ v0 rfl rfl) h0
 have lt1: ∀x∈p1,x.block<W.heap.size:=by obtain ⟨m,hm⟩:=h1;exact DataW.trod_lt m _ _ _ hm
 obtain ⟨x1,hx1,hb1⟩:=Apm (te:=2) (e:=tI) rfl (by kernel_rfl) (hval 1 _ v1 rfl rfl) h1
 have hB:Rows.uptoBulkAll ([d0,d1]++ [])≤1048576:=of_decide_eq_true hk
 simp only [List.append_nil,Rows.uptoBulkAll] at hB
 have b0:Ty.Kp (Cr) x0≤1048576:=Nat.le_trans hb0 (by omega)
 have b1:Ty.Kp (tL) x1≤1048576:=Nat.le_trans hb1 (by omega)
 refine (Aq2.calls W (fun _=>False) [v0,v1] (x0,x1,()) true (fun _ h=>h.elim) ⟨hx0,hx1,trivial⟩ (if_pos (⟨Azd x0 b0,Azc x1 b1⟩))).mono fun e W' ⟨v,he,bel,hr⟩=>?_
 have hv:v= .bool true:=Bbi hr
 subst hv
 subst he
 exact ⟨_,rfl,_,_,_,[],_,[],hW',trodAll_mk1 (shut_bool Try.underlying4 _),trodAll_cons_mk (Below.trod laidOut (by kernel_rfl) (of_decide_eq_true (by kernel_rfl)) h0 bel lt0) (trodAll_cons_mk (Below.trod laidOut (by kernel_rfl) (of_decide_eq_true (by kernel_rfl)) h1 bel lt1) trodAll_mk0),rfl,bel.frame _,fun h=>by cases h⟩
set_option maxRecDepth 100000 in
theorem Acl (os:Os) (started:os.Started) (H:Type) (enc:TypeId×Value→H) (F:Stop.Interp):
  ReturnsInHanded {} Try.checked os 7 .any ((Rows.OpenSpec.upto Rows.fnExactSubsetPuzzleSpec).pre6 enc Try.prog Try.f7 Rows.fnExactSubsetPuzzleUptoRow.domain false) (((Rows.OpenSpec.upto Rows.fnExactSubsetPuzzleSpec).at F).post enc Try.prog Try.f7 false true false false):=by
 refine returnsInHanded_of_cond (C:=Try.checked) (s:=Rows.OpenSpec.upto Rows.fnExactSubsetPuzzleSpec) (k:=Rows.uptoSmall) rfl own started (by kernel_rfl) Try.func7
  (OpenSpec.witness (enc:=enc) (C:=Try.checked) (s:=Rows.OpenSpec.upto Rows.fnExactSubsetPuzzleSpec) (k:=Rows.uptoSmall) rfl false ⟨#[], #[.agg #[.int .i64 0, .string ByteArray.empty, .slice none 0 0], .slice none 0 0],[]⟩ 8 (by kernel_rfl) (by kernel_rfl) (by kernel_rfl)
   (x:=([.agg [.lit (.int .i64 0), .lit (.string []), .nil], .nil],[],[])) (by kernel_rfl) rfl (by kernel_rfl)) ?_
 intro W base args ds gs before hval hW _ hk _
 exact Yf H enc W base args ds gs before hval hW hk
theorem provedSubsetPuzzle:Rows.FnExactSubsetPuzzleUptoSaid:=
 OpenClaim.holds_of_cond 7 Try.f7 rfl rfl rfl rfl rfl rfl rfl ⟨rfl,rfl,rfl,rfl,rfl⟩ rfl rfl rfl rfl rfl (by kernel_rfl) Try.func7 (by kernel_rfl)
  (of_decide_eq_true (by kernel_rfl)) (by unfold Func.isWrapper;first|(rw [if_pos (by decide+kernel)];kernel_rfl)|(rw [if_neg (by decide+kernel)];exact ⟨rfl,rfl⟩))
  (fun os started H enc _ F=>Acl os started H enc F)
end Go.Proofs.Ytebabhocakedaaa
