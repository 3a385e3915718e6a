/-
  Part 35 of the proof that the statement FnNoShorterSolution holds.
-/
import Derived.Test.YtkkdpknjohcekaaGreatCFNoShorterSolution33
import Derived.Laws.BitsLemmas
namespace Go.Proofs.YtkkdpknjohcekaaGreat
open Go.RowKit
instance:Coe Spec iC:=⟨.q⟩
instance:Coe MSpec iC:=⟨.m⟩
def look:List (FuncId×iC)->Env
 | [],_=>none
 |(g,s)::r,f=>if g=f then some s else look r f
theorem Bn {P:Program} :Ll P (look []):= λ_ _ h=>by cases h
theorem Ax {P:Program} {g:FuncId} {s:Spec} {r:List (FuncId×iC)} (h:Sound P g s) (hr:Ll P (look r)):Ll P (look ((g, .q s)::r)):=by
 intro f t hf
 simp only [look] at hf
 split at hf
 ·rename_i hg
  injection hf with hf
  rw [<-hg,<-hf]
  exact h
 ·exact hr f t hf
theorem Gb {P:Program} {g:FuncId} {s:MSpec} {r:List (FuncId×iC)} (h:Cp P g s) (hr:Ll P (look r)):Ll P (look ((g, .m s)::r)):=by
 intro f t hf
 simp only [look] at hf
 split at hf
 ·rename_i hg
  injection hf with hf
  rw [<-hg,<-hf]
  exact h
 ·exact hr f t hf
theorem Ed.flags {P:Program} {T:Tab} (h:Ed P T) (f t:Bool):Ed P {T with vu:=f,CB:=t} :=
 ⟨h.fill,λa b vK=>⟨(h.ty a b vK).info,(h.ty a b vK).desc⟩,h.elem,h.mapOf,h.off⟩
theorem Ed.pX {P:Program} {T:Tab} (h:Ed P T) (r:List Nat):Ed P {T with marks:=r} :=
 ⟨h.fill,λa b vK=>⟨(h.ty a b vK).info,(h.ty a b vK).desc⟩,h.elem,h.mapOf,h.off⟩
noncomputable def Gw (arg res:Ty) (Ht fresh:Bool) (pre:arg.den->Prop) (val:arg.den->res.den):Spec:=
 {arg:=arg,res:=res,Ht:=Ht,fresh:=fresh,fn:= λx=>open Classical in if pre x then some (val x) else none}
theorem Sound.Gw {P:Program} {T:Tab} {Γ:Env} (hT:Ed P T) (Po:Ll P Γ) (hm:P.follows .mixedOrders=true) {f:FuncId} {fn:Func} (hf:P.funcs[f]?=some fn) (hn:(fn.name== "runtime.NumGoroutine")=false)
  (hb:fn.body.isNone=false) {arg res:Ty} {Ht fresh:Bool} {pre:arg.den->Prop} {val:arg.den->res.den} (h: ∀x,pre x->fnW T Γ (Go.Proofs.YtkkdpknjohcekaaGreat.Gw arg res Ht fresh pre val) fn x (λz=>z=val x)):Sound P f (Go.Proofs.YtkkdpknjohcekaaGreat.Gw arg res Ht fresh pre val):=
 Sound.ofW hT Po hm hf hn hb _ λx y hy=>by
  have hp:pre x:=Bx λhn=>by
   have:(Go.Proofs.YtkkdpknjohcekaaGreat.Gw arg res Ht fresh pre val).fn x=none:=Ai hn
   rw [this] at hy
   cases hy
  have hv:(Go.Proofs.YtkkdpknjohcekaaGreat.Gw arg res Ht fresh pre val).fn x=some (val x):=Ab hp
  rw [hv] at hy
  injection hy with hy
  rw [<-hy]
  exact h x hp
noncomputable def mW (Jb:List (Option Nat)) (ins:List (Bool×CK)) (Ht:Bool) (Hp:List (Option Nat)) (outs:List CK) (pre:Ins.den ins->Prop) (val:Ins.den ins->CKs.den outs×IOs.den ins):MSpec:=
 {Jb:=Jb,ins:=ins,Ht:=Ht,Hp:=Hp,outs:=outs,fn:= λx=>open Classical in if pre x then some (val x) else none}
theorem Cp.mW {P:Program} {T:Tab} {Γ:Env} (hT:Ed P T) (Po:Ll P Γ) (hm:P.follows .mixedOrders=true) {f:FuncId} {fn:Func} (hf:P.funcs[f]?=some fn) (hn:(fn.name== "runtime.NumGoroutine")=false)
  (hb:fn.body.isNone=false) {Jb:List (Option Nat)} {ins:List (Bool×CK)} {Ht:Bool} {Hp:List (Option Nat)} {outs:List CK} {pre:Ins.den ins->Prop} {val:Ins.den ins->CKs.den outs×IOs.den ins}
  (h: ∀x,pre x->fnMW T Γ (Go.Proofs.YtkkdpknjohcekaaGreat.mW Jb ins Ht Hp outs pre val) fn x (λz=>z=val x)):Cp P f (Go.Proofs.YtkkdpknjohcekaaGreat.mW Jb ins Ht Hp outs pre val):=
 Cp.ofW hT Po hm hf hn hb _ λx y hy=>by
  have hp:pre x:=Bx λhn=>by
   have:(Go.Proofs.YtkkdpknjohcekaaGreat.mW Jb ins Ht Hp outs pre val).fn x=none:=Ai hn
   rw [this] at hy
   cases hy
  have hv:(Go.Proofs.YtkkdpknjohcekaaGreat.mW Jb ins Ht Hp outs pre val).fn x=some (val x):=Ab hp
  rw [hv] at hy
  injection hy with hy
  rw [<-hy]
  exact h x hp
noncomputable def gX (s:MSpec) (pre:Ins.den s.ins->Prop) (val:Ins.den s.ins->CKs.den s.outs×IOs.den s.ins):MSpec:= {s with fn:= λx=>open Classical in if pre x then some (val x) else none}
theorem Cp.gX {P:Program} {T:Tab} {Γ:Env} (hT:Ed P T) (Po:Ll P Γ) (hm:P.follows .mixedOrders=true) {f:FuncId} {fn:Func} (hf:P.funcs[f]?=some fn) (hn:(fn.name== "runtime.NumGoroutine")=false)
  (hb:fn.body.isNone=false) {s:MSpec} {pre:Ins.den s.ins->Prop} {val:Ins.den s.ins->CKs.den s.outs×IOs.den s.ins}
  (h: ∀x,pre x->fnMW T Γ (Go.Proofs.YtkkdpknjohcekaaGreat.gX s pre val) fn x (λz=>z=val x)):Cp P f (Go.Proofs.YtkkdpknjohcekaaGreat.gX s pre val):=
 Cp.ofW hT Po hm hf hn hb _ λx y hy=>by
  have hp:pre x:=Bx λhn=>by
   have:(Go.Proofs.YtkkdpknjohcekaaGreat.gX s pre val).fn x=none:=Ai hn
   rw [this] at hy
   cases hy
  have hv:(Go.Proofs.YtkkdpknjohcekaaGreat.gX s pre val).fn x=some (val x):=Ab hp
  rw [hv] at hy
  injection hy with hy
  rw [<-hy]
  exact h x hp
theorem Cp.Agq {P:Program} {f:FuncId} {s:MSpec} {pre:Ins.den s.ins->Prop} {val:Ins.den s.ins->CKs.den s.outs×IOs.den s.ins} (μ:Ins.den s.ins->Nat)
  (h: ∀n,Cp P f (Go.Proofs.YtkkdpknjohcekaaGreat.gX s (λx=>pre x/\μ x<n) val)):Cp P f (Go.Proofs.YtkkdpknjohcekaaGreat.gX s pre val):=by
 refine ⟨(h 0).enter,λw S π us x r o g vs h1 hg h2 h3 hS h4 h5=>?_⟩
 have hp:pre x:=Bx λhn=>by
  have:(Go.Proofs.YtkkdpknjohcekaaGreat.gX s pre val).fn x=none:=Ai hn
  rw [this] at h5;cases h5
 have hv:(Go.Proofs.YtkkdpknjohcekaaGreat.gX s pre val).fn x=some (val x):=Ab hp
 rw [hv] at h5
 exact (h (μ x+1)).calls w S π us x r o g vs h1 hg h2 h3 hS h4 ((Ab ⟨hp,Nat.lt_succ_self _⟩).trans h5)
theorem Cu.toO {w:World} {S:Nat->Prop} {e:Ty} {v:Value} {xs:List e.den} (h:Cu w S (.slice e) v xs) (Jr:xs≠ []):Cu w S (.oslice e) v (some xs):=by
 obtain ⟨cs,hc,rfl⟩:=h
 simp only [Cells] at hc
 obtain ⟨a,len,cap,rfl,h1,h2,h3⟩:=hc
 rcases h3 with h3|⟨g,o,rfl,h4⟩
 ·exact absurd h3 Jr
 ·exact ⟨_, .inr ⟨xs,_,len,cap,rfl,rfl,h1,h2, .inr ⟨g,o,rfl,h4⟩⟩,rfl⟩
theorem Sound.toO {P:Program} {f:FuncId} {arg e:Ty} {fresh:Bool} {pre ui:arg.den->Prop} {val:arg.den->(Ty.slice e).den} (h:Sound P f (Go.Proofs.YtkkdpknjohcekaaGreat.Gw arg (.slice e) false fresh pre val)) (hp: ∀x,ui x->pre x/\val x≠ []):
  Sound P f (Go.Proofs.YtkkdpknjohcekaaGreat.Gw arg (.oslice e) false fresh ui (λx=>some (val x))):=by
 refine ⟨h.enter,λw S vs x y h1 h2 h3=>?_⟩
 have rq:ui x:=Bx λhn=>by
  have:(Go.Proofs.YtkkdpknjohcekaaGreat.Gw arg (.oslice e) false fresh ui (λx=>some (val x))).fn x=none:=Ai hn
  rw [this] at h3;cases h3
 have hv:(Go.Proofs.YtkkdpknjohcekaaGreat.Gw arg (.oslice e) false fresh ui (λx=>some (val x))).fn x=some (some (val x)):=Ab rq
 rw [hv] at h3
 have h3:=Bc h3
 subst h3
 refine Calls.mono (h.calls w S vs x (val x) h1 h2 (Ab (hp x rq).1)) λe' w' hr=>?_
 obtain ⟨v,g1,g2,g3⟩:=hr
 exact ⟨v,g1,g2,Cu.toO g3 (hp x rq).2⟩
theorem Cu.told {w:World} {S:Nat->Prop} {e:Ty} {v:Value} {xs:List e.den} (h:Cu w S (.slice e) v xs): ∃o:Option (List e.den),Cu w S (.oslice e) v o/\o.getD []=xs:=by
 obtain ⟨cs,hc,rfl⟩:=h
 simp only [Cells] at hc
 obtain ⟨a,len,cap,rfl,h1,h2,h3⟩:=hc
 cases a with
 |none=>
  rcases h3 with rfl|⟨g,o,h,_⟩
  ·exact ⟨none,⟨_, .inl ⟨rfl,cap,by rw [h1];rfl⟩,rfl⟩,rfl⟩
  ·cases h
 |some ad=>
  refine ⟨some xs,⟨_, .inr ⟨xs,ad,len,cap,rfl,rfl,h1,h2,h3.imp id λ⟨g,o,h,h4⟩=>⟨g,o,Bc h,h4⟩⟩,rfl⟩,rfl⟩
theorem Cp.ofO {P:Program} {f:FuncId} {sh:List (Option Nat)} {e:Ty} {ins:List (Bool×CK)} {Ht:Bool} {rsh:List (Option Nat)} {outs:List CK}
  {pre:Ins.den ((false, .Ec (.oslice e))::ins)->Prop} {val:Ins.den ((false, .Ec (.oslice e))::ins)->CKs.den outs×IOs.den ins} {ui:Ins.den ((false, .Ec (.slice e))::ins)->Prop} {Abu:Ins.den ((false, .Ec (.slice e))::ins)->CKs.den outs×IOs.den ins}
  (h:Cp P f (Go.Proofs.YtkkdpknjohcekaaGreat.mW sh ((false, .Ec (.oslice e))::ins) Ht rsh outs pre val))
  (hp: ∀(o:Option (List e.den)) (r:Ins.den ins),ui (o.getD [],r)->pre (o,r)/\val (o,r)=Abu (o.getD [],r)):Cp P f (Go.Proofs.YtkkdpknjohcekaaGreat.mW sh ((false, .Ec (.slice e))::ins) Ht rsh outs ui Abu):=by
 refine ⟨h.enter,λw S π us x r o g vs h1 hg h2 h3 hS h4 h5=>?_⟩
 obtain ⟨xs,rest⟩:=x
 cases us with
 |nil=>exact h2.elim
 |cons u us=>
  obtain ⟨⟨h6,h7⟩,h8⟩:=h2
  obtain ⟨ox,h9,rfl⟩:=h7.told
  have rq:ui (ox.getD [],rest):=Bx λhn=>by
   have:(Go.Proofs.YtkkdpknjohcekaaGreat.mW sh ((false, .Ec (.slice e))::ins) Ht rsh outs ui Abu).fn (ox.getD [],rest)=none:=Ai hn
   rw [this] at h5;cases h5
  obtain ⟨k1,k2⟩:=hp ox rest rq
  have hv:(Go.Proofs.YtkkdpknjohcekaaGreat.mW sh ((false, .Ec (.slice e))::ins) Ht rsh outs ui Abu).fn (ox.getD [],rest)=some (Abu (ox.getD [],rest)):=Ab rq
  rw [hv] at h5
  have h5:=Bc h5
  exact h.calls w S π (u::us) (ox,rest) r o g vs h1 hg ⟨⟨h6,h9⟩,h8⟩ h3 hS h4 ((Ab k1).trans (by rw [k2];exact Ga some h5))
theorem Br.of {b:Bool} {A B:Prop} (t:b=true->A) (f:b=false->B):Br b A B:=⟨t,f⟩
theorem Br.dec {p:Prop} [Decidable p] {A B:Prop} (t:p->A) (f: ¬p->B):Br (decide p) A B:=⟨λh=>t (Jg h),λh=>f (of_decide_eq_false h)⟩
theorem Bu {V:Type} {step:V->(V->Prop)->Prop} {v0:V} (len:Nat) (aq:V->Int) (R:Nat->V->Prop) (h0:aq v0=0) (hR:R 0 v0)
  (hs: ∀(j:Nat) (v:V) (K:V->Prop),j<=len->aq v=j->R j v->(j<len-> ∀v',aq v'=((j+1:Nat):Int)->R (j+1) v'->K v')->step v K):Dn step v0:=by
 refine ⟨λv=> ∃j:Nat,j<=len/\aq v=j/\R j v,λv=>len-(aq v).toNat,⟨0,Kd _,h0,hR⟩,?_⟩
 rintro v ⟨j,h1,h2,h3⟩
 refine hs j v _ h1 h2 h3 λhl v' h4 h5=>⟨⟨j+1,hl,h4,h5⟩,?_⟩
 rw [h2,h4]
 simp only [Au]
 omega
theorem Cn {n:Int} (h1: -9223372036854775808<=n) (h2:n<9223372036854775808):IntKind.i64.wrap n=n:=by rw [IntKind.wrap_i64];omega
theorem Bv {n:Nat} (h2:n<9223372036854775807):IntKind.i64.wrap ((n:Int)+1)=((n+1:Nat):Int):=by
 rw [Cn (by omega) (by omega)];rfl
theorem Cf {α:Type} {xs:List α} {j:Nat} (h:j<xs.length):idx xs (j:Int)=some xs[j]:=by
 unfold idx
 rw [Ab (by omega),Au,Ac h]
end Go.Proofs.YtkkdpknjohcekaaGreat
