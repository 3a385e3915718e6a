/-
  Part 35 of the proof that the statement FnTwoPhase holds.
-/
import Derived.Test.YtkkdpknjohcekaaCFTwoPhase33
import Derived.Laws.BitsLemmas
namespace Go.Proofs.Ytkkdpknjohcekaa
open Go.RowKit
instance:Coe Spec mY:=⟨.q⟩
instance:Coe MSpec mY:=⟨.m⟩
def look:List (FuncId×mY)->Env
 | [],_=>none
 |(g,s)::r,f=>if g=f then some s else look r f
theorem Cc {P:Program} :Li P (look []):= λ_ _ h=>by cases h
theorem Ba {P:Program} {g:FuncId} {s:Spec} {r:List (FuncId×mY)} (h:Sound P g s) (hr:Li P (look r)):Li P (look ((g, .q s)::r)):=by
 intro f t hf
 simp only [look] at hf
 split at hf
 ·rename_i hg
  injection hf with hf
  rw [<-hg,<-hf]
  exact h
 ·exact hr f t hf
theorem Gy {P:Program} {g:FuncId} {s:MSpec} {r:List (FuncId×mY)} (h:Dx P g s) (hr:Li P (look r)):Li P (look ((g, .m s)::r)):=by
 intro f t hf
 simp only [look] at hf
 split at hf
 ·rename_i hg
  injection hf with hf
  rw [<-hg,<-hf]
  exact h
 ·exact hr f t hf
theorem Eh.flags {P:Program} {T:Tab} (h:Eh P T) (f t:Bool):Eh P {T with tb:=f,CG:=t} :=
 ⟨h.fill,λa b CW=>⟨(h.ty a b CW).info,(h.ty a b CW).desc⟩,h.elem,h.mapOf,h.off⟩
theorem Eh.qa {P:Program} {T:Tab} (h:Eh P T) (r:List Nat):Eh P {T with marks:=r} :=
 ⟨h.fill,λa b CW=>⟨(h.ty a b CW).info,(h.ty a b CW).desc⟩,h.elem,h.mapOf,h.off⟩
theorem Eh.XB {P:Program} {T:Tab} (h:Eh P T) (l:List Nat):Eh P {T with parts:=l} :=
 ⟨h.fill,λa b CW=>⟨(h.ty a b CW).info,(h.ty a b CW).desc⟩,h.elem,h.mapOf,h.off⟩
noncomputable def Hg (arg res:Ty) (Ij fresh:Bool) (pre:arg.den->Prop) (val:arg.den->res.den):Spec:=
 {arg:=arg,res:=res,Ij:=Ij,fresh:=fresh,fn:= λx=>open Classical in if pre x then some (val x) else none}
theorem Sound.Hg {P:Program} {T:Tab} {Γ:Env} (hT:Eh P T) (Pl:Li P Γ) (hm:P.follows .mixedOrders=true) {f:FuncId} {fn:Func} (hf:P.funcs[f]?=some fn) (hn:(fn.name== "runtime.NumGoroutine")=false)
  (hb:fn.body.isNone=false) {arg res:Ty} {Ij fresh:Bool} {pre:arg.den->Prop} {val:arg.den->res.den} (h: ∀x,pre x->fnW T Γ (Go.Proofs.Ytkkdpknjohcekaa.Hg arg res Ij fresh pre val) fn x (λz=>z=val x)):Sound P f (Go.Proofs.Ytkkdpknjohcekaa.Hg arg res Ij fresh pre val):=
 Sound.ofW hT Pl hm hf hn hb _ λx y hy=>by
  have hp:pre x:=Bs λhn=>by
   have:(Go.Proofs.Ytkkdpknjohcekaa.Hg arg res Ij fresh pre val).fn x=none:=Ai hn
   rw [this] at hy
   cases hy
  have hv:(Go.Proofs.Ytkkdpknjohcekaa.Hg arg res Ij fresh pre val).fn x=some (val x):=Ab hp
  rw [hv] at hy
  injection hy with hy
  rw [<-hy]
  exact h x hp
noncomputable def mA (Jy:List (Option Nat)) (ins:List (Bool×CK)) (Ij:Bool) (Iu:List (Option Nat)) (outs:List CK) (pre:Ins.den ins->Prop) (val:Ins.den ins->CKs.den outs×IOs.den ins):MSpec:=
 {Jy:=Jy,ins:=ins,Ij:=Ij,Iu:=Iu,outs:=outs,fn:= λx=>open Classical in if pre x then some (val x) else none}
theorem Dx.mA {P:Program} {T:Tab} {Γ:Env} (hT:Eh P T) (Pl:Li P Γ) (hm:P.follows .mixedOrders=true) {f:FuncId} {fn:Func} (hf:P.funcs[f]?=some fn) (hn:(fn.name== "runtime.NumGoroutine")=false)
  (hb:fn.body.isNone=false) {Jy:List (Option Nat)} {ins:List (Bool×CK)} {Ij:Bool} {Iu:List (Option Nat)} {outs:List CK} {pre:Ins.den ins->Prop} {val:Ins.den ins->CKs.den outs×IOs.den ins}
  (h: ∀x,pre x->fnMW T Γ (Go.Proofs.Ytkkdpknjohcekaa.mA Jy ins Ij Iu outs pre val) fn x (λz=>z=val x)):Dx P f (Go.Proofs.Ytkkdpknjohcekaa.mA Jy ins Ij Iu outs pre val):=
 Dx.ofW hT Pl hm hf hn hb _ λx y hy=>by
  have hp:pre x:=Bs λhn=>by
   have:(Go.Proofs.Ytkkdpknjohcekaa.mA Jy ins Ij Iu outs pre val).fn x=none:=Ai hn
   rw [this] at hy
   cases hy
  have hv:(Go.Proofs.Ytkkdpknjohcekaa.mA Jy ins Ij Iu outs pre val).fn x=some (val x):=Ab hp
  rw [hv] at hy
  injection hy with hy
  rw [<-hy]
  exact h x hp
noncomputable def oP (s:MSpec) (pre:Ins.den s.ins->Prop) (val:Ins.den s.ins->CKs.den s.outs×IOs.den s.ins):MSpec:= {s with fn:= λx=>open Classical in if pre x then some (val x) else none}
theorem Dx.oP {P:Program} {T:Tab} {Γ:Env} (hT:Eh P T) (Pl:Li P Γ) (hm:P.follows .mixedOrders=true) {f:FuncId} {fn:Func} (hf:P.funcs[f]?=some fn) (hn:(fn.name== "runtime.NumGoroutine")=false)
  (hb:fn.body.isNone=false) {s:MSpec} {pre:Ins.den s.ins->Prop} {val:Ins.den s.ins->CKs.den s.outs×IOs.den s.ins}
  (h: ∀x,pre x->fnMW T Γ (Go.Proofs.Ytkkdpknjohcekaa.oP s pre val) fn x (λz=>z=val x)):Dx P f (Go.Proofs.Ytkkdpknjohcekaa.oP s pre val):=
 Dx.ofW hT Pl hm hf hn hb _ λx y hy=>by
  have hp:pre x:=Bs λhn=>by
   have:(Go.Proofs.Ytkkdpknjohcekaa.oP s pre val).fn x=none:=Ai hn
   rw [this] at hy
   cases hy
  have hv:(Go.Proofs.Ytkkdpknjohcekaa.oP s pre val).fn x=some (val x):=Ab hp
  rw [hv] at hy
  injection hy with hy
  rw [<-hy]
  exact h x hp
theorem Dx.Api {P:Program} {f:FuncId} {s:MSpec} {pre:Ins.den s.ins->Prop} {val:Ins.den s.ins->CKs.den s.outs×IOs.den s.ins} (μ:Ins.den s.ins->Nat)
  (h: ∀n,Dx P f (Go.Proofs.Ytkkdpknjohcekaa.oP s (λx=>pre x/\μ x<n) val)):Dx P f (Go.Proofs.Ytkkdpknjohcekaa.oP s pre val):=by
 refine ⟨(h 0).enter,λw S π us x r o g vs h1 hg h2 h3 hS h4 h5=>?_⟩
 have hp:pre x:=Bs λhn=>by
  have:(Go.Proofs.Ytkkdpknjohcekaa.oP s pre val).fn x=none:=Ai hn
  rw [this] at h5;cases h5
 have hv:(Go.Proofs.Ytkkdpknjohcekaa.oP s pre val).fn x=some (val x):=Ab hp
 rw [hv] at h5
 exact (h (μ x+1)).calls w S π us x r o g vs h1 hg h2 h3 hS h4 ((Ab ⟨hp,Nat.lt_succ_self _⟩).trans h5)
theorem Dc.toO {w:World} {S:Nat->Prop} {e:Ty} {v:Value} {xs:List e.den} (h:Dc w S (.slice e) v xs) (Ip:xs≠ []):Dc w S (.oslice e) v (some xs):=by
 obtain ⟨cs,hc,rfl⟩:=h
 simp only [Cells] at hc
 obtain ⟨a,len,cap,rfl,h1,h2,h3⟩:=hc
 rcases h3 with h3|⟨g,o,rfl,h4⟩
 ·exact absurd h3 Ip
 ·exact ⟨_, .inr ⟨xs,_,len,cap,rfl,rfl,h1,h2, .inr ⟨g,o,rfl,h4⟩⟩,rfl⟩
theorem Sound.toO {P:Program} {f:FuncId} {arg e:Ty} {fresh:Bool} {pre um:arg.den->Prop} {val:arg.den->(Ty.slice e).den} (h:Sound P f (Go.Proofs.Ytkkdpknjohcekaa.Hg arg (.slice e) false fresh pre val)) (hp: ∀x,um x->pre x/\val x≠ []):
  Sound P f (Go.Proofs.Ytkkdpknjohcekaa.Hg arg (.oslice e) false fresh um (λx=>some (val x))):=by
 refine ⟨h.enter,λw S vs x y h1 h2 h3=>?_⟩
 have rK:um x:=Bs λhn=>by
  have:(Go.Proofs.Ytkkdpknjohcekaa.Hg arg (.oslice e) false fresh um (λx=>some (val x))).fn x=none:=Ai hn
  rw [this] at h3;cases h3
 have hv:(Go.Proofs.Ytkkdpknjohcekaa.Hg arg (.oslice e) false fresh um (λx=>some (val x))).fn x=some (some (val x)):=Ab rK
 rw [hv] at h3
 have h3:=Bd h3
 subst h3
 refine Calls.mono (h.calls w S vs x (val x) h1 h2 (Ab (hp x rK).1)) λe' w' hr=>?_
 obtain ⟨v,g1,g2,g3⟩:=hr
 exact ⟨v,g1,g2,Dc.toO g3 (hp x rK).2⟩
theorem Dc.told {w:World} {S:Nat->Prop} {e:Ty} {v:Value} {xs:List e.den} (h:Dc w S (.slice e) v xs): ∃o:Option (List e.den),Dc w S (.oslice e) v o/\o.getD []=xs:=by
 obtain ⟨cs,hc,rfl⟩:=h
 simp only [Cells] at hc
 obtain ⟨a,len,cap,rfl,h1,h2,h3⟩:=hc
 cases a with
 |none=>
  rcases h3 with rfl|⟨g,o,h,_⟩
  ·exact ⟨none,⟨_, .inl ⟨rfl,cap,by rw [h1];rfl⟩,rfl⟩,rfl⟩
  ·cases h
 |some ad=>
  refine ⟨some xs,⟨_, .inr ⟨xs,ad,len,cap,rfl,rfl,h1,h2,h3.imp id λ⟨g,o,h,h4⟩=>⟨g,o,Bd h,h4⟩⟩,rfl⟩,rfl⟩
theorem Br.of {b:Bool} {A B:Prop} (t:b=true->A) (f:b=false->B):Br b A B:=⟨t,f⟩
theorem Br.dec {p:Prop} [Decidable p] {A B:Prop} (t:p->A) (f: ¬p->B):Br (decide p) A B:=⟨λh=>t (Ia h),λh=>f (of_decide_eq_false h)⟩
theorem Cg {V:Type} {step:V->(V->Prop)->Prop} {v0:V} (len:Nat) (Re:V->Int) (R:Nat->V->Prop) (h0:Re v0=0) (hR:R 0 v0)
  (hs: ∀(j:Nat) (v:V) (K:V->Prop),j<=len->Re v=j->R j v->(j<len-> ∀v',Re v'=((j+1:Nat):Int)->R (j+1) v'->K v')->step v K):Ea step v0:=by
 refine ⟨λv=> ∃j:Nat,j<=len/\Re v=j/\R j v,λv=>len-(Re v).toNat,⟨0,Kr _,h0,hR⟩,?_⟩
 rintro v ⟨j,h1,h2,h3⟩
 refine hs j v _ h1 h2 h3 λhl v' h4 h5=>⟨⟨j+1,hl,h4,h5⟩,?_⟩
 rw [h2,h4]
 simp only [Ac]
 omega
theorem Cj {n:Int} (h1: -9223372036854775808<=n) (h2:n<9223372036854775808):IntKind.i64.wrap n=n:=by rw [IntKind.wrap_i64];omega
theorem Cb {n:Nat} (h2:n<9223372036854775807):IntKind.i64.wrap ((n:Int)+1)=((n+1:Nat):Int):=by
 rw [Cj (by omega) (by omega)];rfl
theorem Cf {α:Type} {xs:List α} {j:Nat} (h:j<xs.length):idx xs (j:Int)=some xs[j]:=by
 unfold idx
 rw [Ab (by omega),Ac,Ad h]
end Go.Proofs.Ytkkdpknjohcekaa
