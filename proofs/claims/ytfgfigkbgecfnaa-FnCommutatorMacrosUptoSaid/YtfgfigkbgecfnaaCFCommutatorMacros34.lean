/-
  Part 35 of the proof that the statement FnCommutatorMacros holds.
-/
import Derived.Test.YtfgfigkbgecfnaaCFCommutatorMacros33
import Derived.Laws.BitsLemmas
namespace Go.Proofs.Ytfgfigkbgecfnaa
open Go.RowKit
instance:Coe Spec lp:=⟨.q⟩
instance:Coe MSpec lp:=⟨.m⟩
def look:List (FuncId×lp)->Env
 | [],_=>none
 |(g,s)::r,f=>if g=f then some s else look r f
theorem Dk {P:Program} :Ib P (look []):= λ_ _ h=>by cases h
theorem Cg {P:Program} {g:FuncId} {s:Spec} {r:List (FuncId×lp)} (h:Sound P g s) (hr:Ib P (look r)):Ib P (look ((g, .q s)::r)):=by
 intro f t hf
 simp only [look] at hf
 split at hf
 ·rename_i hg
  injection hf with hf
  rw [<-hg,<-hf]
  exact h
 ·exact hr f t hf
theorem Zy {P:Program} {g:FuncId} {s:MSpec} {r:List (FuncId×lp)} (h:Jd P g s) (hr:Ib P (look r)):Ib P (look ((g, .m s)::r)):=by
 intro f t hf
 simp only [look] at hf
 split at hf
 ·rename_i hg
  injection hf with hf
  rw [<-hg,<-hf]
  exact h
 ·exact hr f t hf
theorem De.flags {P:Program} {T:Tab} (h:De P T) (f t:Bool):De P {T with nO:=f,uF:=t} :=
 ⟨h.fill,λa b vL=>⟨(h.ty a b vL).info,(h.ty a b vL).desc⟩,h.elem,h.mapOf,h.off⟩
theorem De.zO {P:Program} {T:Tab} (h:De P T) (r:List Nat):De P {T with marks:=r} :=
 ⟨h.fill,λa b vL=>⟨(h.ty a b vL).info,(h.ty a b vL).desc⟩,h.elem,h.mapOf,h.off⟩
noncomputable def Kx (arg res:Ty) (Hy fresh:Bool) (pre:arg.den->Prop) (val:arg.den->res.den):Spec:=
 {arg:=arg,res:=res,Hy:=Hy,fresh:=fresh,fn:= λx=>open Classical in if pre x then some (val x) else none}
theorem Sound.Kx {P:Program} {T:Tab} {Γ:Env} (hT:De P T) (Ls:Ib P Γ) (hm:P.follows .mixedOrders=true) {f:FuncId} {fn:Func} (hf:P.funcs[f]?=some fn) (hn:(fn.name== "runtime.NumGoroutine")=false)
  (hb:fn.body.isNone=false) {arg res:Ty} {Hy fresh:Bool} {pre:arg.den->Prop} {val:arg.den->res.den} (h: ∀x,pre x->fnW T Γ (Go.Proofs.Ytfgfigkbgecfnaa.Kx arg res Hy fresh pre val) fn x (λz=>z=val x)):Sound P f (Go.Proofs.Ytfgfigkbgecfnaa.Kx arg res Hy fresh pre val):=
 Sound.TX hT Ls hm hf hn hb _ λx y hy=>by
  have hp:pre x:=Cd λhn=>by
   have:(Go.Proofs.Ytfgfigkbgecfnaa.Kx arg res Hy fresh pre val).fn x=none:=Aj hn
   rw [this] at hy
   cases hy
  have hv:(Go.Proofs.Ytfgfigkbgecfnaa.Kx arg res Hy fresh pre val).fn x=some (val x):=Af hp
  rw [hv] at hy
  injection hy with hy
  rw [<-hy]
  exact h x hp
noncomputable def FG (Jg:List (Option Nat)) (ins:List (Bool×CK)) (Hy:Bool) (Ia:List (Option Nat)) (outs:List CK) (pre:Ins.den ins->Prop) (val:Ins.den ins->CKs.den outs×IOs.den ins):MSpec:=
 {Jg:=Jg,ins:=ins,Hy:=Hy,Ia:=Ia,outs:=outs,fn:= λx=>open Classical in if pre x then some (val x) else none}
theorem Jd.FG {P:Program} {T:Tab} {Γ:Env} (hT:De P T) (Ls:Ib P Γ) (hm:P.follows .mixedOrders=true) {f:FuncId} {fn:Func} (hf:P.funcs[f]?=some fn) (hn:(fn.name== "runtime.NumGoroutine")=false)
  (hb:fn.body.isNone=false) {Jg:List (Option Nat)} {ins:List (Bool×CK)} {Hy:Bool} {Ia:List (Option Nat)} {outs:List CK} {pre:Ins.den ins->Prop} {val:Ins.den ins->CKs.den outs×IOs.den ins}
  (h: ∀x,pre x->fnMW T Γ (Go.Proofs.Ytfgfigkbgecfnaa.FG Jg ins Hy Ia outs pre val) fn x (λz=>z=val x)):Jd P f (Go.Proofs.Ytfgfigkbgecfnaa.FG Jg ins Hy Ia outs pre val):=
 Jd.TX hT Ls hm hf hn hb _ λx y hy=>by
  have hp:pre x:=Cd λhn=>by
   have:(Go.Proofs.Ytfgfigkbgecfnaa.FG Jg ins Hy Ia outs pre val).fn x=none:=Aj hn
   rw [this] at hy
   cases hy
  have hv:(Go.Proofs.Ytfgfigkbgecfnaa.FG Jg ins Hy Ia outs pre val).fn x=some (val x):=Af hp
  rw [hv] at hy
  injection hy with hy
  rw [<-hy]
  exact h x hp
noncomputable def CT (s:MSpec) (pre:Ins.den s.ins->Prop) (val:Ins.den s.ins->CKs.den s.outs×IOs.den s.ins):MSpec:= {s with fn:= λx=>open Classical in if pre x then some (val x) else none}
theorem Jd.CT {P:Program} {T:Tab} {Γ:Env} (hT:De P T) (Ls:Ib P Γ) (hm:P.follows .mixedOrders=true) {f:FuncId} {fn:Func} (hf:P.funcs[f]?=some fn) (hn:(fn.name== "runtime.NumGoroutine")=false)
  (hb:fn.body.isNone=false) {s:MSpec} {pre:Ins.den s.ins->Prop} {val:Ins.den s.ins->CKs.den s.outs×IOs.den s.ins}
  (h: ∀x,pre x->fnMW T Γ (Go.Proofs.Ytfgfigkbgecfnaa.CT s pre val) fn x (λz=>z=val x)):Jd P f (Go.Proofs.Ytfgfigkbgecfnaa.CT s pre val):=
 Jd.TX hT Ls hm hf hn hb _ λx y hy=>by
  have hp:pre x:=Cd λhn=>by
   have:(Go.Proofs.Ytfgfigkbgecfnaa.CT s pre val).fn x=none:=Aj hn
   rw [this] at hy
   cases hy
  have hv:(Go.Proofs.Ytfgfigkbgecfnaa.CT s pre val).fn x=some (val x):=Af hp
  rw [hv] at hy
  injection hy with hy
  rw [<-hy]
  exact h x hp
theorem Br.of {b:Bool} {A B:Prop} (t:b=true->A) (f:b=false->B):Br b A B:=⟨t,f⟩
theorem Br.dec {p:Prop} [Decidable p] {A B:Prop} (t:p->A) (f: ¬p->B):Br (decide p) A B:=⟨λh=>t (Dh h),λh=>f (of_decide_eq_false h)⟩
theorem Cl {V:Type} {step:V->(V->Prop)->Prop} {v0:V} (len:Nat) (Vy:V->Int) (R:Nat->V->Prop) (h0:Vy v0=0) (hR:R 0 v0)
  (hs: ∀(j:Nat) (v:V) (K:V->Prop),j<=len->Vy v=j->R j v->(j<len-> ∀v',Vy v'=((j+1:Nat):Int)->R (j+1) v'->K v')->step v K):Gz step v0:=by
 refine ⟨λv=> ∃j:Nat,j<=len/\Vy v=j/\R j v,λv=>len-(Vy v).toNat,⟨0,Zr _,h0,hR⟩,?_⟩
 rintro v ⟨j,h1,h2,h3⟩
 refine hs j v _ h1 h2 h3 λhl v' h4 h5=>⟨⟨j+1,hl,h4,h5⟩,?_⟩
 rw [h2,h4]
 simp only [Cq]
 omega
theorem En {n:Int} (h1: -9223372036854775808<=n) (h2:n<9223372036854775808):IntKind.i64.wrap n=n:=by rw [IntKind.wrap_i64];omega
theorem Dr {n:Nat} (h2:n<9223372036854775807):IntKind.i64.wrap ((n:Int)+1)=((n+1:Nat):Int):=by
 rw [En (by omega) (by omega)];rfl
theorem El {α:Type} {xs:List α} {j:Nat} (h:j<xs.length):idx xs (j:Int)=some xs[j]:=by
 unfold idx
 rw [Af (by omega),Cq,Ac h]
end Go.Proofs.Ytfgfigkbgecfnaa
