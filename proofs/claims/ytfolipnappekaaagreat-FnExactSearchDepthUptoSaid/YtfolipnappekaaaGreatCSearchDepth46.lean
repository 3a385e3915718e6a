/-
  Part 47 of the proof that the statement FnExactSearchDepth holds: every run of the law at an input of bulk at most 1048576 returns true, and its arguments read afterwards as before.
-/
import Derived.Test.YtfolipnappekaaaGreatCSearchDepth45
namespace Go.Proofs.YtfolipnappekaaaGreat
open Go.ChangeShapes Go.WideShapes Go.ChangeAt Go.RowKit
set_option maxRecDepth 100000
theorem kD (H:Type) (enc:TypeId×Value->H) (W:World) (base:Nat) (args:Array Value) (ds gs:List (DataW H)) (before:List MemPlace)
  (rQ: ∀(j:Nat) t v,Tryz.f8.params[j]?=some t->args[j]?=some v->Value.okWide Tryz.prog W .any base t v)
  (hW:DataW.Whole enc Tryz.prog Tryz.f8.params.toList Rows.fnExactSearchDepthSpec.vars false W args.toList ds gs before) (hk:Rows.uptoSmall H (ds++gs)=true):
  Calls Tryz.prog 8 args W λe W'=> ∃v,e= .returned v/\Rows.fnExactSearchDepthSpec.post enc Tryz.prog Tryz.f8 false true false false W args v W':=by
 have hW':=hW
 obtain ⟨p,q,hA0,hV,rfl,hfz,RP⟩:=hW
 have hA:DataW.TrodAll enc Tryz.prog W 0 (λ_=>true) true Tryz.f8.params.toList args.toList ds p:=hA0
 rw [Tryz.params8] at hA rQ
 obtain ⟨v0,vs0,d0,ds0,p0,q0,Qx,rfl,rfl,h0,r0⟩:=trodAll_cons hA
 obtain ⟨v1,vs1,d1,ds1,p1,q1,rfl,rfl,rfl,h1,r1⟩:=trodAll_cons r0
 obtain ⟨v2,vs2,d2,ds2,p2,q2,rfl,rfl,rfl,h2,r2⟩:=trodAll_cons r1
 obtain ⟨v3,vs3,d3,ds3,p3,q3,rfl,rfl,rfl,h3,r3⟩:=trodAll_cons r2
 obtain ⟨rfl,rfl,rfl⟩:=trodAll_nil r3
 obtain rfl:args= #[v0,v1,v2,v3]:=by cases args;simp_all
 obtain ⟨rfl,rfl⟩:=trodVars_none hV
 have lt0: ∀x∈p0,x.block<W.heap.size:=by obtain ⟨m,hm⟩:=h0;exact DataW.trod_lt m _ _ _ hm
 obtain ⟨x0,hx0,hb0⟩:=wZ (τ:=Fl) rfl rfl (rQ 0 _ v0 rfl rfl) h0
 have lt1: ∀x∈p1,x.block<W.heap.size:=by obtain ⟨m,hm⟩:=h1;exact DataW.trod_lt m _ _ _ hm
 obtain ⟨x1,hx1,zB⟩:=o3 (te:=54) (e:=Kt) rfl (by kernel_rfl) (rQ 1 _ v1 rfl rfl) h1
 have lt2: ∀x∈p2,x.block<W.heap.size:=by obtain ⟨m,hm⟩:=h2;exact DataW.trod_lt m _ _ _ hm
 obtain ⟨x2,hx2,hb2⟩:=o3 (te:=2) (e:=tI) rfl (by kernel_rfl) (rQ 2 _ v2 rfl rfl) h2
 have lt3: ∀x∈p3,x.block<W.heap.size:=by obtain ⟨m,hm⟩:=h3;exact DataW.trod_lt m _ _ _ hm
 obtain ⟨x3,hx3,hb3⟩:=OP (k:= .i64) rfl (by kernel_rfl) (rQ 3 _ v3 rfl rfl) h3
 have hB:Rows.uptoBulkAll ([d0,d1,d2,d3]++ [])<=1048576:=Gs hk
 simp only [List.append_nil,Rows.uptoBulkAll] at hB
 have b0:Ty.Lt (Fl) x0<=1048576:=Ix hb0 (by omega)
 have b1:Ty.Lt (vQ) x1<=1048576:=Ix zB (by omega)
 have b2:Ty.Lt (tL) x2<=1048576:=Ix hb2 (by omega)
 have b3:Ty.Lt (tI) x3<=1048576:=Ix hb3 (by omega)
 refine (IM.calls W (λ_=>False) [v0,v1,v2,v3] (x0,x1,x2,x3,()) true (λ_ h=>h.elim) ⟨hx0,hx1,hx2,hx3,trivial⟩ (Ab (⟨VU x0 b0,OV x1 b1,pY x2 b2⟩))).mono λe W' ⟨v,he,bel,hr⟩=>?_
 have hv:v= .bool true:=Abf hr
 subst hv
 subst he
 exact ⟨_,rfl,_,_,_,[],_,[],hW',trodAll_mk1 (shut_bool Tryz.underlying4 _),trodAll_cons_mk (Below.trod laidOut (by kernel_rfl) (Gs (by kernel_rfl)) h0 bel lt0) (trodAll_cons_mk (Below.trod laidOut (by kernel_rfl) (Gs (by kernel_rfl)) h1 bel lt1) (trodAll_cons_mk (Below.trod laidOut (by kernel_rfl) (Gs (by kernel_rfl)) h2 bel lt2) (trodAll_cons_mk (Below.trod laidOut (by kernel_rfl) (Gs (by kernel_rfl)) h3 bel lt3) trodAll_mk0))),rfl,bel.frame _,λh=>by cases h⟩
set_option maxRecDepth 100000 in
theorem nK (os:Os) (started:os.Started) (H:Type) (enc:TypeId×Value->H) (F:Stop.Interp):
  ReturnsInHanded {} Tryz.checked os 8 .any ((Rows.OpenSpec.upto Rows.fnExactSearchDepthSpec).pre6 enc Tryz.prog Tryz.f8 Rows.fnExactSearchDepthUptoRow.domain false) (((Rows.OpenSpec.upto Rows.fnExactSearchDepthSpec).at F).post enc Tryz.prog Tryz.f8 false true false false):=by
 refine returnsInHanded_of_cond (C:=Tryz.checked) (s:=Rows.OpenSpec.upto Rows.fnExactSearchDepthSpec) (k:=Rows.uptoSmall) rfl own started (by kernel_rfl) Tryz.func8
  (OpenSpec.witness (enc:=enc) (C:=Tryz.checked) (s:=Rows.OpenSpec.upto Rows.fnExactSearchDepthSpec) (k:=Rows.uptoSmall) rfl false ⟨#[], #[.agg #[.int .i64 0, .string ByteArray.empty, .slice none 0 0], .slice none 0 0, .slice none 0 0, .int .i64 0],[]⟩ 8 (by kernel_rfl) (by kernel_rfl) (by kernel_rfl)
   (x:=([.agg [.lit (.int .i64 0), .lit (.string []), .nil], .nil, .nil, .lit (.int .i64 0)],[],[])) (by kernel_rfl) rfl (by kernel_rfl)) ?_
 intro W base args ds gs before rQ hW _ hk _
 exact kD H enc W base args ds gs before rQ hW hk
theorem provedSearchDepth:Rows.FnExactSearchDepthUptoSaid:=
 OpenClaim.holds_of_cond 8 Tryz.f8 rfl rfl rfl rfl rfl rfl rfl ⟨rfl,rfl,rfl,rfl,rfl⟩ rfl rfl rfl rfl rfl (by kernel_rfl) Tryz.func8 (by kernel_rfl)
  (Gs (by kernel_rfl)) (by unfold Func.isWrapper;first|(rw [Ab (by decide+kernel)];kernel_rfl)|(rw [Ag (by decide+kernel)];exact ⟨rfl,rfl⟩))
  (λos started H enc _ F=>nK os started H enc F)
end Go.Proofs.YtfolipnappekaaaGreat
