/-
  Part 35 of the proof that the statement FnExactIsMethodSolution holds.
-/
import Derived.Test.YtebabhocakedaaaCIsMethodSolution33
import Derived.Laws.BitsLemmas
namespace Go.Proofs.Ytebabhocakedaaa
open Go.RowKit
instance:Coe Spec Ad5:=⟨.q⟩
instance:Coe Bp Ad5:=⟨.m⟩
def look:List (FuncId×Ad5)→Env
 | [],_=>none
 |(g,s)::r,f=>if g=f then some s else look r f
theorem Ao {P:Program} :Gl P (look []):=fun _ _ h=>by cases h
theorem Ad {P:Program} {g:FuncId} {s:Spec} {r:List (FuncId×Ad5)} (h:Sound P g s) (hr:Gl P (look r)):Gl P (look ((g, .q s)::r)):=by
 intro f t hf
 simp only [look] at hf
 split at hf
 ·rename_i hg
  injection hf with hf
  rw [←hg,←hf]
  exact h
 ·exact hr f t hf
theorem Tt {P:Program} {g:FuncId} {s:Bp} {r:List (FuncId×Ad5)} (h:Dz P g s) (hr:Gl P (look r)):Gl P (look ((g, .m s)::r)):=by
 intro f t hf
 simp only [look] at hf
 split at hf
 ·rename_i hg
  injection hf with hf
  rw [←hg,←hf]
  exact h
 ·exact hr f t hf
theorem Bt.flags {P:Program} {T:Tab} (h:Bt P T) (f t:Bool):Bt P {T with fr0:=f,tr0:=t} :=
 ⟨h.fill,fun a b hab=>⟨(h.ty a b hab).info,(h.ty a b hab).desc⟩,h.elem,h.mapOf,h.off⟩
theorem Bt.Aoc {P:Program} {T:Tab} (h:Bt P T) (r:List Nat):Bt P {T with marks:=r} :=
 ⟨h.fill,fun a b hab=>⟨(h.ty a b hab).info,(h.ty a b hab).desc⟩,h.elem,h.mapOf,h.off⟩
noncomputable def mkS (arg res:Ty) (multi fresh:Bool) (pre:arg.den→Prop) (val:arg.den→res.den):Spec:=
 {arg:=arg,res:=res,multi:=multi,fresh:=fresh,fn:=fun x=>open Classical in if pre x then some (val x) else none}
theorem Sound.mkS {P:Program} {T:Tab} {Γ:Env} (hT:Bt P T) (hΓ:Gl P Γ) (hm:P.follows .mixedOrders=true) {f:FuncId} {fn:Func} (hf:P.funcs[f]?=some fn) (hn:(fn.name== "runtime.NumGoroutine")=false)
  (hb:fn.body.isNone=false) {arg res:Ty} {multi fresh:Bool} {pre:arg.den→Prop} {val:arg.den→res.den} (h: ∀x,pre x→fnW T Γ (Go.Proofs.Ytebabhocakedaaa.mkS arg res multi fresh pre val) fn x (fun z=>z=val x)):Sound P f (Go.Proofs.Ytebabhocakedaaa.mkS arg res multi fresh pre val):=
 Sound.ofW hT hΓ hm hf hn hb _ fun x y hy=>by
  have hp:pre x:=Classical.byContradiction fun hn=>by
   have:(Go.Proofs.Ytebabhocakedaaa.mkS arg res multi fresh pre val).fn x=none:=if_neg hn
   rw [this] at hy
   cases hy
  have hv:(Go.Proofs.Ytebabhocakedaaa.mkS arg res multi fresh pre val).fn x=some (val x):=if_pos hp
  rw [hv] at hy
  injection hy with hy
  rw [←hy]
  exact h x hp
noncomputable def mkM (shapes:List (Option Nat)) (ins:List (Bool×CK)) (multi:Bool) (rshapes:List (Option Nat)) (outs:List CK) (pre:Ins.den ins→Prop) (val:Ins.den ins→CKs.den outs×IOs.den ins):Bp:=
 {shapes:=shapes,ins:=ins,multi:=multi,rshapes:=rshapes,outs:=outs,fn:=fun x=>open Classical in if pre x then some (val x) else none}
theorem Dz.mkM {P:Program} {T:Tab} {Γ:Env} (hT:Bt P T) (hΓ:Gl P Γ) (hm:P.follows .mixedOrders=true) {f:FuncId} {fn:Func} (hf:P.funcs[f]?=some fn) (hn:(fn.name== "runtime.NumGoroutine")=false)
  (hb:fn.body.isNone=false) {shapes:List (Option Nat)} {ins:List (Bool×CK)} {multi:Bool} {rshapes:List (Option Nat)} {outs:List CK} {pre:Ins.den ins→Prop} {val:Ins.den ins→CKs.den outs×IOs.den ins}
  (h: ∀x,pre x→Afa T Γ (Go.Proofs.Ytebabhocakedaaa.mkM shapes ins multi rshapes outs pre val) fn x (fun z=>z=val x)):Dz P f (Go.Proofs.Ytebabhocakedaaa.mkM shapes ins multi rshapes outs pre val):=
 Dz.ofW hT hΓ hm hf hn hb _ fun x y hy=>by
  have hp:pre x:=Classical.byContradiction fun hn=>by
   have:(Go.Proofs.Ytebabhocakedaaa.mkM shapes ins multi rshapes outs pre val).fn x=none:=if_neg hn
   rw [this] at hy
   cases hy
  have hv:(Go.Proofs.Ytebabhocakedaaa.mkM shapes ins multi rshapes outs pre val).fn x=some (val x):=if_pos hp
  rw [hv] at hy
  injection hy with hy
  rw [←hy]
  exact h x hp
noncomputable def mkK (s:Bp) (pre:Ins.den s.ins→Prop) (val:Ins.den s.ins→CKs.den s.outs×IOs.den s.ins):Bp:= {s with fn:=fun x=>open Classical in if pre x then some (val x) else none}
theorem Dz.mkK {P:Program} {T:Tab} {Γ:Env} (hT:Bt P T) (hΓ:Gl P Γ) (hm:P.follows .mixedOrders=true) {f:FuncId} {fn:Func} (hf:P.funcs[f]?=some fn) (hn:(fn.name== "runtime.NumGoroutine")=false)
  (hb:fn.body.isNone=false) {s:Bp} {pre:Ins.den s.ins→Prop} {val:Ins.den s.ins→CKs.den s.outs×IOs.den s.ins}
  (h: ∀x,pre x→Afa T Γ (Go.Proofs.Ytebabhocakedaaa.mkK s pre val) fn x (fun z=>z=val x)):Dz P f (Go.Proofs.Ytebabhocakedaaa.mkK s pre val):=
 Dz.ofW hT hΓ hm hf hn hb _ fun x y hy=>by
  have hp:pre x:=Classical.byContradiction fun hn=>by
   have:(Go.Proofs.Ytebabhocakedaaa.mkK s pre val).fn x=none:=if_neg hn
   rw [this] at hy
   cases hy
  have hv:(Go.Proofs.Ytebabhocakedaaa.mkK s pre val).fn x=some (val x):=if_pos hp
  rw [hv] at hy
  injection hy with hy
  rw [←hy]
  exact h x hp
theorem Dz.Bfu {P:Program} {f:FuncId} {s:Bp} {pre:Ins.den s.ins→Prop} {val:Ins.den s.ins→CKs.den s.outs×IOs.den s.ins} (μ:Ins.den s.ins→Nat)
  (h: ∀n,Dz P f (Go.Proofs.Ytebabhocakedaaa.mkK s (fun x=>pre x∧μ x<n) val)):Dz P f (Go.Proofs.Ytebabhocakedaaa.mkK s pre val):=by
 refine ⟨(h 0).enter,fun w S π us x r o g vs h1 hg h2 h3 hS h4 h5=>?_⟩
 have hp:pre x:=Classical.byContradiction fun hn=>by
  have:(Go.Proofs.Ytebabhocakedaaa.mkK s pre val).fn x=none:=if_neg hn
  rw [this] at h5;cases h5
 have hv:(Go.Proofs.Ytebabhocakedaaa.mkK s pre val).fn x=some (val x):=if_pos hp
 rw [hv] at h5
 exact (h (μ x+1)).calls w S π us x r o g vs h1 hg h2 h3 hS h4 ((if_pos ⟨hp,Nat.lt_succ_self _⟩).trans h5)
theorem Bc.toO {w:World} {S:Nat→Prop} {e:Ty} {v:Value} {xs:List e.den} (h:Bc w S (.slice e) v xs) (hne:xs≠ []):Bc w S (.oslice e) v (some xs):=by
 obtain ⟨cs,hc,rfl⟩:=h
 simp only [Cells] at hc
 obtain ⟨a,len,cap,rfl,h1,h2,h3⟩:=hc
 rcases h3 with h3|⟨g,o,rfl,h4⟩
 ·exact absurd h3 hne
 ·exact ⟨_, .inr ⟨xs,_,len,cap,rfl,rfl,h1,h2, .inr ⟨g,o,rfl,h4⟩⟩,rfl⟩
theorem Sound.toO {P:Program} {f:FuncId} {arg e:Ty} {fresh:Bool} {pre pre':arg.den→Prop} {val:arg.den→(Ty.slice e).den} (h:Sound P f (Go.Proofs.Ytebabhocakedaaa.mkS arg (.slice e) false fresh pre val)) (hp: ∀x,pre' x→pre x∧val x≠ []):
  Sound P f (Go.Proofs.Ytebabhocakedaaa.mkS arg (.oslice e) false fresh pre' (fun x=>some (val x))):=by
 refine ⟨h.enter,fun w S vs x y h1 h2 h3=>?_⟩
 have hpre:pre' x:=Classical.byContradiction fun hn=>by
  have:(Go.Proofs.Ytebabhocakedaaa.mkS arg (.oslice e) false fresh pre' (fun x=>some (val x))).fn x=none:=if_neg hn
  rw [this] at h3;cases h3
 have hv:(Go.Proofs.Ytebabhocakedaaa.mkS arg (.oslice e) false fresh pre' (fun x=>some (val x))).fn x=some (some (val x)):=if_pos hpre
 rw [hv] at h3
 have h3:=Option.some.inj h3
 subst h3
 refine Calls.mono (h.calls w S vs x (val x) h1 h2 (if_pos (hp x hpre).1)) fun e' w' hr=>?_
 obtain ⟨v,g1,g2,g3⟩:=hr
 exact ⟨v,g1,g2,Bc.toO g3 (hp x hpre).2⟩
theorem Bc.told {w:World} {S:Nat→Prop} {e:Ty} {v:Value} {xs:List e.den} (h:Bc w S (.slice e) v xs): ∃o:Option (List e.den),Bc w S (.oslice e) v o∧o.getD []=xs:=by
 obtain ⟨cs,hc,rfl⟩:=h
 simp only [Cells] at hc
 obtain ⟨a,len,cap,rfl,h1,h2,h3⟩:=hc
 cases a with
 |none=>
  rcases h3 with rfl|⟨g,o,h,_⟩
  ·exact ⟨none,⟨_, .inl ⟨rfl,cap,by rw [h1];rfl⟩,rfl⟩,rfl⟩
  ·cases h
 |some ad=>
  refine ⟨some xs,⟨_, .inr ⟨xs,ad,len,cap,rfl,rfl,h1,h2,h3.imp id fun ⟨g,o,h,h4⟩=>⟨g,o,Option.some.inj h,h4⟩⟩,rfl⟩,rfl⟩
theorem Br.of {b:Bool} {A B:Prop} (t:b=true→A) (f:b=false→B):Br b A B:=⟨t,f⟩
theorem Br.dec {p:Prop} [Decidable p] {A B:Prop} (t:p→A) (f: ¬p→B):Br (decide p) A B:=⟨fun h=>t (of_decide_eq_true h),fun h=>f (of_decide_eq_false h)⟩
theorem Am {V:Type} {step:V→(V→Prop)→Prop} {v0:V} (len:Nat) (at':V→Int) (R:Nat→V→Prop) (h0:at' v0=0) (hR:R 0 v0)
  (hs: ∀(j:Nat) (v:V) (K:V→Prop),j≤len→at' v=j→R j v→(j<len→ ∀v',at' v'=((j+1:Nat):Int)→R (j+1) v'→K v')→step v K):Bv step v0:=by
 refine ⟨fun v=> ∃j:Nat,j≤len∧at' v=j∧R j v,fun v=>len-(at' v).toNat,⟨0,Nat.zero_le _,h0,hR⟩,?_⟩
 rintro v ⟨j,h1,h2,h3⟩
 refine hs j v _ h1 h2 h3 fun hl v' h4 h5=>⟨⟨j+1,hl,h4,h5⟩,?_⟩
 rw [h2,h4]
 simp only [Int.toNat_natCast]
 omega
theorem Bq {n:Int} (h1: -9223372036854775808≤n) (h2:n<9223372036854775808):IntKind.i64.wrap n=n:=by rw [IntKind.wrap_i64];omega
theorem Al {n:Nat} (h2:n<9223372036854775807):IntKind.i64.wrap ((n:Int)+1)=((n+1:Nat):Int):=by
 rw [Bq (by omega) (by omega)];rfl
theorem Aj {α:Type} {xs:List α} {j:Nat} (h:j<xs.length):idx xs (j:Int)=some xs[j]:=by
 unfold idx
 rw [if_pos (by omega),Int.toNat_natCast,List.getElem?_eq_getElem h]
end Go.Proofs.Ytebabhocakedaaa
