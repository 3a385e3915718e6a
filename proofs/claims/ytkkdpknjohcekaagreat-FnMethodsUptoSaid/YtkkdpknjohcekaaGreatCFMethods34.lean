/-
  Part 35 of the proof that the statement FnMethods holds.
-/
import Derived.Test.YtkkdpknjohcekaaGreatCFMethods33
import Derived.Laws.BitsLemmas
namespace Go.Proofs.YtkkdpknjohcekaaGreat
open Go.RowKit
instance:Coe Spec ng:=⟨.q⟩
instance:Coe MSpec ng:=⟨.m⟩
def look:List (FuncId×ng)->Env
 | [],_=>none
 |(g,s)::r,f=>if g=f then some s else look r f
theorem Bl {P:Program} :Lr P (look []):= λ_ _ h=>by cases h
theorem Au {P:Program} {g:FuncId} {s:Spec} {r:List (FuncId×ng)} (h:Sound P g s) (hr:Lr P (look r)):Lr P (look ((g, .q s)::r)):=by
 intro f t hf
 simp only [look] at hf
 split at hf
 ·rename_i hg
  injection hf with hf
  rw [<-hg,<-hf]
  exact h
 ·exact hr f t hf
theorem Ic {P:Program} {g:FuncId} {s:MSpec} {r:List (FuncId×ng)} (h:Eu P g s) (hr:Lr P (look r)):Lr P (look ((g, .m s)::r)):=by
 intro f t hf
 simp only [look] at hf
 split at hf
 ·rename_i hg
  injection hf with hf
  rw [<-hg,<-hf]
  exact h
 ·exact hr f t hf
theorem Ep.flags {P:Program} {T:Tab} (h:Ep P T) (f t:Bool):Ep P {T with tq:=f,CY:=t} :=
 ⟨h.fill,λa b FT=>⟨(h.ty a b FT).info,(h.ty a b FT).desc⟩,h.elem,h.mapOf,h.off⟩
theorem Ep.qx {P:Program} {T:Tab} (h:Ep P T) (r:List Nat):Ep P {T with marks:=r} :=
 ⟨h.fill,λa b FT=>⟨(h.ty a b FT).info,(h.ty a b FT).desc⟩,h.elem,h.mapOf,h.off⟩
noncomputable def Gk (arg res:Ty) (Jy fresh:Bool) (pre:arg.den->Prop) (val:arg.den->res.den):Spec:=
 {arg:=arg,res:=res,Jy:=Jy,fresh:=fresh,fn:= λx=>open Classical in if pre x then some (val x) else none}
theorem Sound.Gk {P:Program} {T:Tab} {Γ:Env} (hT:Ep P T) (Pw:Lr P Γ) (hm:P.follows .mixedOrders=true) {f:FuncId} {fn:Func} (hf:P.funcs[f]?=some fn) (hn:(fn.name== "runtime.NumGoroutine")=false)
  (hb:fn.body.isNone=false) {arg res:Ty} {Jy fresh:Bool} {pre:arg.den->Prop} {val:arg.den->res.den} (h: ∀x,pre x->fnW T Γ (Go.Proofs.YtkkdpknjohcekaaGreat.Gk arg res Jy fresh pre val) fn x (λz=>z=val x)):Sound P f (Go.Proofs.YtkkdpknjohcekaaGreat.Gk arg res Jy fresh pre val):=
 Sound.ofW hT Pw hm hf hn hb _ λx y hy=>by
  have hp:pre x:=Bp λhn=>by
   have:(Go.Proofs.YtkkdpknjohcekaaGreat.Gk arg res Jy fresh pre val).fn x=none:=Ai hn
   rw [this] at hy
   cases hy
  have hv:(Go.Proofs.YtkkdpknjohcekaaGreat.Gk arg res Jy fresh pre val).fn x=some (val x):=Ab hp
  rw [hv] at hy
  injection hy with hy
  rw [<-hy]
  exact h x hp
noncomputable def vV (Kn:List (Option Nat)) (ins:List (Bool×CK)) (Jy:Bool) (Ji:List (Option Nat)) (outs:List CK) (pre:Ins.den ins->Prop) (val:Ins.den ins->CKs.den outs×IOs.den ins):MSpec:=
 {Kn:=Kn,ins:=ins,Jy:=Jy,Ji:=Ji,outs:=outs,fn:= λx=>open Classical in if pre x then some (val x) else none}
theorem Eu.vV {P:Program} {T:Tab} {Γ:Env} (hT:Ep P T) (Pw:Lr P Γ) (hm:P.follows .mixedOrders=true) {f:FuncId} {fn:Func} (hf:P.funcs[f]?=some fn) (hn:(fn.name== "runtime.NumGoroutine")=false)
  (hb:fn.body.isNone=false) {Kn:List (Option Nat)} {ins:List (Bool×CK)} {Jy:Bool} {Ji:List (Option Nat)} {outs:List CK} {pre:Ins.den ins->Prop} {val:Ins.den ins->CKs.den outs×IOs.den ins}
  (h: ∀x,pre x->fnMW T Γ (Go.Proofs.YtkkdpknjohcekaaGreat.vV Kn ins Jy Ji outs pre val) fn x (λz=>z=val x)):Eu P f (Go.Proofs.YtkkdpknjohcekaaGreat.vV Kn ins Jy Ji outs pre val):=
 Eu.ofW hT Pw hm hf hn hb _ λx y hy=>by
  have hp:pre x:=Bp λhn=>by
   have:(Go.Proofs.YtkkdpknjohcekaaGreat.vV Kn ins Jy Ji outs pre val).fn x=none:=Ai hn
   rw [this] at hy
   cases hy
  have hv:(Go.Proofs.YtkkdpknjohcekaaGreat.vV Kn ins Jy Ji outs pre val).fn x=some (val x):=Ab hp
  rw [hv] at hy
  injection hy with hy
  rw [<-hy]
  exact h x hp
noncomputable def pb (s:MSpec) (pre:Ins.den s.ins->Prop) (val:Ins.den s.ins->CKs.den s.outs×IOs.den s.ins):MSpec:= {s with fn:= λx=>open Classical in if pre x then some (val x) else none}
theorem Eu.pb {P:Program} {T:Tab} {Γ:Env} (hT:Ep P T) (Pw:Lr P Γ) (hm:P.follows .mixedOrders=true) {f:FuncId} {fn:Func} (hf:P.funcs[f]?=some fn) (hn:(fn.name== "runtime.NumGoroutine")=false)
  (hb:fn.body.isNone=false) {s:MSpec} {pre:Ins.den s.ins->Prop} {val:Ins.den s.ins->CKs.den s.outs×IOs.den s.ins}
  (h: ∀x,pre x->fnMW T Γ (Go.Proofs.YtkkdpknjohcekaaGreat.pb s pre val) fn x (λz=>z=val x)):Eu P f (Go.Proofs.YtkkdpknjohcekaaGreat.pb s pre val):=
 Eu.ofW hT Pw hm hf hn hb _ λx y hy=>by
  have hp:pre x:=Bp λhn=>by
   have:(Go.Proofs.YtkkdpknjohcekaaGreat.pb s pre val).fn x=none:=Ai hn
   rw [this] at hy
   cases hy
  have hv:(Go.Proofs.YtkkdpknjohcekaaGreat.pb s pre val).fn x=some (val x):=Ab hp
  rw [hv] at hy
  injection hy with hy
  rw [<-hy]
  exact h x hp
theorem Eu.Apu {P:Program} {f:FuncId} {s:MSpec} {pre:Ins.den s.ins->Prop} {val:Ins.den s.ins->CKs.den s.outs×IOs.den s.ins} (μ:Ins.den s.ins->Nat)
  (h: ∀n,Eu P f (Go.Proofs.YtkkdpknjohcekaaGreat.pb s (λx=>pre x/\μ x<n) val)):Eu P f (Go.Proofs.YtkkdpknjohcekaaGreat.pb s pre val):=by
 refine ⟨(h 0).enter,λw S π us x r o g vs h1 hg h2 h3 hS h4 h5=>?_⟩
 have hp:pre x:=Bp λhn=>by
  have:(Go.Proofs.YtkkdpknjohcekaaGreat.pb s pre val).fn x=none:=Ai hn
  rw [this] at h5;cases h5
 have hv:(Go.Proofs.YtkkdpknjohcekaaGreat.pb s pre val).fn x=some (val x):=Ab hp
 rw [hv] at h5
 exact (h (μ x+1)).calls w S π us x r o g vs h1 hg h2 h3 hS h4 ((Ab ⟨hp,Nat.lt_succ_self _⟩).trans h5)
theorem Dg.toO {w:World} {S:Nat->Prop} {e:Ty} {v:Value} {xs:List e.den} (h:Dg w S (.slice e) v xs) (Jd:xs≠ []):Dg w S (.oslice e) v (some xs):=by
 obtain ⟨cs,hc,rfl⟩:=h
 simp only [Cells] at hc
 obtain ⟨a,len,cap,rfl,h1,h2,h3⟩:=hc
 rcases h3 with h3|⟨g,o,rfl,h4⟩
 ·exact absurd h3 Jd
 ·exact ⟨_, .inr ⟨xs,_,len,cap,rfl,rfl,h1,h2, .inr ⟨g,o,rfl,h4⟩⟩,rfl⟩
theorem Sound.toO {P:Program} {f:FuncId} {arg e:Ty} {fresh:Bool} {pre Ac4:arg.den->Prop} {val:arg.den->(Ty.slice e).den} (h:Sound P f (Go.Proofs.YtkkdpknjohcekaaGreat.Gk arg (.slice e) false fresh pre val)) (hp: ∀x,Ac4 x->pre x/\val x≠ []):
  Sound P f (Go.Proofs.YtkkdpknjohcekaaGreat.Gk arg (.oslice e) false fresh Ac4 (λx=>some (val x))):=by
 refine ⟨h.enter,λw S vs x y h1 h2 h3=>?_⟩
 have zN:Ac4 x:=Bp λhn=>by
  have:(Go.Proofs.YtkkdpknjohcekaaGreat.Gk arg (.oslice e) false fresh Ac4 (λx=>some (val x))).fn x=none:=Ai hn
  rw [this] at h3;cases h3
 have hv:(Go.Proofs.YtkkdpknjohcekaaGreat.Gk arg (.oslice e) false fresh Ac4 (λx=>some (val x))).fn x=some (some (val x)):=Ab zN
 rw [hv] at h3
 have h3:=Bd h3
 subst h3
 refine Calls.mono (h.calls w S vs x (val x) h1 h2 (Ab (hp x zN).1)) λe' w' hr=>?_
 obtain ⟨v,g1,g2,g3⟩:=hr
 exact ⟨v,g1,g2,Dg.toO g3 (hp x zN).2⟩
theorem Br.of {b:Bool} {A B:Prop} (t:b=true->A) (f:b=false->B):Br b A B:=⟨t,f⟩
theorem Br.dec {p:Prop} [Decidable p] {A B:Prop} (t:p->A) (f: ¬p->B):Br (decide p) A B:=⟨λh=>t (Hr h),λh=>f (of_decide_eq_false h)⟩
theorem Bo {V:Type} {step:V->(V->Prop)->Prop} {v0:V} (len:Nat) (Wl:V->Int) (R:Nat->V->Prop) (h0:Wl v0=0) (hR:R 0 v0)
  (hs: ∀(j:Nat) (v:V) (K:V->Prop),j<=len->Wl v=j->R j v->(j<len-> ∀v',Wl v'=((j+1:Nat):Int)->R (j+1) v'->K v')->step v K):Dn step v0:=by
 refine ⟨λv=> ∃j:Nat,j<=len/\Wl v=j/\R j v,λv=>len-(Wl v).toNat,⟨0,Mc _,h0,hR⟩,?_⟩
 rintro v ⟨j,h1,h2,h3⟩
 refine hs j v _ h1 h2 h3 λhl v' h4 h5=>⟨⟨j+1,hl,h4,h5⟩,?_⟩
 rw [h2,h4]
 simp only [Ae]
 omega
theorem Ct {n:Int} (h1: -9223372036854775808<=n) (h2:n<9223372036854775808):IntKind.i64.wrap n=n:=by rw [IntKind.wrap_i64];omega
theorem Bj {n:Nat} (h2:n<9223372036854775807):IntKind.i64.wrap ((n:Int)+1)=((n+1:Nat):Int):=by
 rw [Ct (by omega) (by omega)];rfl
theorem Bn {α:Type} {xs:List α} {j:Nat} (h:j<xs.length):idx xs (j:Int)=some xs[j]:=by
 unfold idx
 rw [Ab (by omega),Ae,Ac h]
end Go.Proofs.YtkkdpknjohcekaaGreat
