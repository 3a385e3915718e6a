/-
  Part 35 of the proof that the statement FnExactLongestMethodSolution holds.
-/
import Derived.Test.YtjbdmibbbpdnnaaCLongestMethodSolution33
import Derived.Laws.BitsLemmas
namespace Go.Proofs.Ytjbdmibbbpdnnaa
open Go.RowKit
instance:Coe Spec gg:=⟨.q⟩
instance:Coe MSpec gg:=⟨.m⟩
def look:List (FuncId×gg)->Env
 | [],_=>none
 |(g,s)::r,f=>if g=f then some s else look r f
theorem At {P:Program} :Hy P (look []):= λ_ _ h=>by cases h
theorem Ah {P:Program} {g:FuncId} {s:Spec} {r:List (FuncId×gg)} (h:Sound P g s) (hr:Hy P (look r)):Hy P (look ((g, .q s)::r)):=by
 intro f t hf
 simp only [look] at hf
 split at hf
 ·rename_i hg
  injection hf with hf
  rw [<-hg,<-hf]
  exact h
 ·exact hr f t hf
theorem Ri {P:Program} {g:FuncId} {s:MSpec} {r:List (FuncId×gg)} (h:Ea P g s) (hr:Hy P (look r)):Hy P (look ((g, .m s)::r)):=by
 intro f t hf
 simp only [look] at hf
 split at hf
 ·rename_i hg
  injection hf with hf
  rw [<-hg,<-hf]
  exact h
 ·exact hr f t hf
theorem Cd.flags {P:Program} {T:Tab} (h:Cd P T) (f t:Bool):Cd P {T with m8:=f,tw:=t} :=
 ⟨h.fill,λa b oC=>⟨(h.ty a b oC).info,(h.ty a b oC).desc⟩,h.elem,h.mapOf,h.off⟩
theorem Cd.jI {P:Program} {T:Tab} (h:Cd P T) (r:List Nat):Cd P {T with marks:=r} :=
 ⟨h.fill,λa b oC=>⟨(h.ty a b oC).info,(h.ty a b oC).desc⟩,h.elem,h.mapOf,h.off⟩
noncomputable def Dg (arg res:Ty) (Gb fresh:Bool) (pre:arg.den->Prop) (val:arg.den->res.den):Spec:=
 {arg:=arg,res:=res,Gb:=Gb,fresh:=fresh,fn:= λx=>open Classical in if pre x then some (val x) else none}
theorem Sound.Dg {P:Program} {T:Tab} {Γ:Env} (hT:Cd P T) (Md:Hy P Γ) (hm:P.follows .mixedOrders=true) {f:FuncId} {fn:Func} (hf:P.funcs[f]?=some fn) (hn:(fn.name== "runtime.NumGoroutine")=false)
  (hb:fn.body.isNone=false) {arg res:Ty} {Gb fresh:Bool} {pre:arg.den->Prop} {val:arg.den->res.den} (h: ∀x,pre x->fnW T Γ (Go.Proofs.Ytjbdmibbbpdnnaa.Dg arg res Gb fresh pre val) fn x (λz=>z=val x)):Sound P f (Go.Proofs.Ytjbdmibbbpdnnaa.Dg arg res Gb fresh pre val):=
 Sound.ofW hT Md hm hf hn hb _ λx y hy=>by
  have hp:pre x:=Classical.byContradiction λhn=>by
   have:(Go.Proofs.Ytjbdmibbbpdnnaa.Dg arg res Gb fresh pre val).fn x=none:=if_neg hn
   rw [this] at hy
   cases hy
  have hv:(Go.Proofs.Ytjbdmibbbpdnnaa.Dg arg res Gb fresh pre val).fn x=some (val x):=if_pos hp
  rw [hv] at hy
  injection hy with hy
  rw [<-hy]
  exact h x hp
noncomputable def CU (Hb:List (Option Nat)) (ins:List (Bool×CK)) (Gb:Bool) (Gd:List (Option Nat)) (outs:List CK) (pre:Ins.den ins->Prop) (val:Ins.den ins->CKs.den outs×IOs.den ins):MSpec:=
 {Hb:=Hb,ins:=ins,Gb:=Gb,Gd:=Gd,outs:=outs,fn:= λx=>open Classical in if pre x then some (val x) else none}
theorem Ea.CU {P:Program} {T:Tab} {Γ:Env} (hT:Cd P T) (Md:Hy P Γ) (hm:P.follows .mixedOrders=true) {f:FuncId} {fn:Func} (hf:P.funcs[f]?=some fn) (hn:(fn.name== "runtime.NumGoroutine")=false)
  (hb:fn.body.isNone=false) {Hb:List (Option Nat)} {ins:List (Bool×CK)} {Gb:Bool} {Gd:List (Option Nat)} {outs:List CK} {pre:Ins.den ins->Prop} {val:Ins.den ins->CKs.den outs×IOs.den ins}
  (h: ∀x,pre x->fnMW T Γ (Go.Proofs.Ytjbdmibbbpdnnaa.CU Hb ins Gb Gd outs pre val) fn x (λz=>z=val x)):Ea P f (Go.Proofs.Ytjbdmibbbpdnnaa.CU Hb ins Gb Gd outs pre val):=
 Ea.ofW hT Md hm hf hn hb _ λx y hy=>by
  have hp:pre x:=Classical.byContradiction λhn=>by
   have:(Go.Proofs.Ytjbdmibbbpdnnaa.CU Hb ins Gb Gd outs pre val).fn x=none:=if_neg hn
   rw [this] at hy
   cases hy
  have hv:(Go.Proofs.Ytjbdmibbbpdnnaa.CU Hb ins Gb Gd outs pre val).fn x=some (val x):=if_pos hp
  rw [hv] at hy
  injection hy with hy
  rw [<-hy]
  exact h x hp
noncomputable def xf (s:MSpec) (pre:Ins.den s.ins->Prop) (val:Ins.den s.ins->CKs.den s.outs×IOs.den s.ins):MSpec:= {s with fn:= λx=>open Classical in if pre x then some (val x) else none}
theorem Ea.xf {P:Program} {T:Tab} {Γ:Env} (hT:Cd P T) (Md:Hy P Γ) (hm:P.follows .mixedOrders=true) {f:FuncId} {fn:Func} (hf:P.funcs[f]?=some fn) (hn:(fn.name== "runtime.NumGoroutine")=false)
  (hb:fn.body.isNone=false) {s:MSpec} {pre:Ins.den s.ins->Prop} {val:Ins.den s.ins->CKs.den s.outs×IOs.den s.ins}
  (h: ∀x,pre x->fnMW T Γ (Go.Proofs.Ytjbdmibbbpdnnaa.xf s pre val) fn x (λz=>z=val x)):Ea P f (Go.Proofs.Ytjbdmibbbpdnnaa.xf s pre val):=
 Ea.ofW hT Md hm hf hn hb _ λx y hy=>by
  have hp:pre x:=Classical.byContradiction λhn=>by
   have:(Go.Proofs.Ytjbdmibbbpdnnaa.xf s pre val).fn x=none:=if_neg hn
   rw [this] at hy
   cases hy
  have hv:(Go.Proofs.Ytjbdmibbbpdnnaa.xf s pre val).fn x=some (val x):=if_pos hp
  rw [hv] at hy
  injection hy with hy
  rw [<-hy]
  exact h x hp
theorem Ea.Aan {P:Program} {f:FuncId} {s:MSpec} {pre:Ins.den s.ins->Prop} {val:Ins.den s.ins->CKs.den s.outs×IOs.den s.ins} (μ:Ins.den s.ins->Nat)
  (h: ∀n,Ea P f (Go.Proofs.Ytjbdmibbbpdnnaa.xf s (λx=>pre x/\μ x<n) val)):Ea P f (Go.Proofs.Ytjbdmibbbpdnnaa.xf s pre val):=by
 refine ⟨(h 0).enter,λw S π us x r o g vs h1 hg h2 h3 hS h4 h5=>?_⟩
 have hp:pre x:=Classical.byContradiction λhn=>by
  have:(Go.Proofs.Ytjbdmibbbpdnnaa.xf s pre val).fn x=none:=if_neg hn
  rw [this] at h5;cases h5
 have hv:(Go.Proofs.Ytjbdmibbbpdnnaa.xf s pre val).fn x=some (val x):=if_pos hp
 rw [hv] at h5
 exact (h (μ x+1)).calls w S π us x r o g vs h1 hg h2 h3 hS h4 ((if_pos ⟨hp,Nat.lt_succ_self _⟩).trans h5)
theorem Bc.toO {w:World} {S:Nat->Prop} {e:Ty} {v:Value} {xs:List e.den} (h:Bc w S (.slice e) v xs) (Er:xs≠ []):Bc w S (.oslice e) v (some xs):=by
 obtain ⟨cs,hc,rfl⟩:=h
 simp only [Cells] at hc
 obtain ⟨a,len,cap,rfl,h1,h2,h3⟩:=hc
 rcases h3 with h3|⟨g,o,rfl,h4⟩
 ·exact absurd h3 Er
 ·exact ⟨_, .inr ⟨xs,_,len,cap,rfl,rfl,h1,h2, .inr ⟨g,o,rfl,h4⟩⟩,rfl⟩
theorem Sound.toO {P:Program} {f:FuncId} {arg e:Ty} {fresh:Bool} {pre KB:arg.den->Prop} {val:arg.den->(Ty.slice e).den} (h:Sound P f (Go.Proofs.Ytjbdmibbbpdnnaa.Dg arg (.slice e) false fresh pre val)) (hp: ∀x,KB x->pre x/\val x≠ []):
  Sound P f (Go.Proofs.Ytjbdmibbbpdnnaa.Dg arg (.oslice e) false fresh KB (λx=>some (val x))):=by
 refine ⟨h.enter,λw S vs x y h1 h2 h3=>?_⟩
 have rR:KB x:=Classical.byContradiction λhn=>by
  have:(Go.Proofs.Ytjbdmibbbpdnnaa.Dg arg (.oslice e) false fresh KB (λx=>some (val x))).fn x=none:=if_neg hn
  rw [this] at h3;cases h3
 have hv:(Go.Proofs.Ytjbdmibbbpdnnaa.Dg arg (.oslice e) false fresh KB (λx=>some (val x))).fn x=some (some (val x)):=if_pos rR
 rw [hv] at h3
 have h3:=Option.some.inj h3
 subst h3
 refine Calls.mono (h.calls w S vs x (val x) h1 h2 (if_pos (hp x rR).1)) λe' w' hr=>?_
 obtain ⟨v,g1,g2,g3⟩:=hr
 exact ⟨v,g1,g2,Bc.toO g3 (hp x rR).2⟩
theorem Bc.told {w:World} {S:Nat->Prop} {e:Ty} {v:Value} {xs:List e.den} (h:Bc w S (.slice e) v xs): ∃o:Option (List e.den),Bc w S (.oslice e) v o/\o.getD []=xs:=by
 obtain ⟨cs,hc,rfl⟩:=h
 simp only [Cells] at hc
 obtain ⟨a,len,cap,rfl,h1,h2,h3⟩:=hc
 cases a with
 |none=>
  rcases h3 with rfl|⟨g,o,h,_⟩
  ·exact ⟨none,⟨_, .inl ⟨rfl,cap,by rw [h1];rfl⟩,rfl⟩,rfl⟩
  ·cases h
 |some ad=>
  refine ⟨some xs,⟨_, .inr ⟨xs,ad,len,cap,rfl,rfl,h1,h2,h3.imp id λ⟨g,o,h,h4⟩=>⟨g,o,Option.some.inj h,h4⟩⟩,rfl⟩,rfl⟩
theorem Br.of {b:Bool} {A B:Prop} (t:b=true->A) (f:b=false->B):Br b A B:=⟨t,f⟩
theorem Br.dec {p:Prop} [Decidable p] {A B:Prop} (t:p->A) (f: ¬p->B):Br (decide p) A B:=⟨λh=>t (of_decide_eq_true h),λh=>f (of_decide_eq_false h)⟩
theorem Am {V:Type} {step:V->(V->Prop)->Prop} {v0:V} (len:Nat) (Qu:V->Int) (R:Nat->V->Prop) (h0:Qu v0=0) (hR:R 0 v0)
  (hs: ∀(j:Nat) (v:V) (K:V->Prop),j<=len->Qu v=j->R j v->(j<len-> ∀v',Qu v'=((j+1:Nat):Int)->R (j+1) v'->K v')->step v K):Bj step v0:=by
 refine ⟨λv=> ∃j:Nat,j<=len/\Qu v=j/\R j v,λv=>len-(Qu v).toNat,⟨0,Nat.zero_le _,h0,hR⟩,?_⟩
 rintro v ⟨j,h1,h2,h3⟩
 refine hs j v _ h1 h2 h3 λhl v' h4 h5=>⟨⟨j+1,hl,h4,h5⟩,?_⟩
 rw [h2,h4]
 simp only [Int.toNat_natCast]
 omega
theorem Bs {n:Int} (h1: -9223372036854775808<=n) (h2:n<9223372036854775808):IntKind.i64.wrap n=n:=by rw [IntKind.wrap_i64];omega
theorem Ak {n:Nat} (h2:n<9223372036854775807):IntKind.i64.wrap ((n:Int)+1)=((n+1:Nat):Int):=by
 rw [Bs (by omega) (by omega)];rfl
theorem Ap {α:Type} {xs:List α} {j:Nat} (h:j<xs.length):idx xs (j:Int)=some xs[j]:=by
 unfold idx
 rw [if_pos (by omega),Int.toNat_natCast,List.getElem?_eq_getElem h]
end Go.Proofs.Ytjbdmibbbpdnnaa
