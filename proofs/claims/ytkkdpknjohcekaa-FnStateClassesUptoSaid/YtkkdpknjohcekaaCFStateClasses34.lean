/-
  Part 35 of the proof that the statement FnStateClasses holds.
-/
import Derived.Test.YtkkdpknjohcekaaCFStateClasses33
import Derived.Laws.BitsLemmas
namespace Go.Proofs.Ytkkdpknjohcekaa
open Go.RowKit
instance:Coe Spec fJ:=⟨.q⟩
instance:Coe MSpec fJ:=⟨.m⟩
def look:List (FuncId×fJ)->Env
 | [],_=>none
 |(g,s)::r,f=>if g=f then some s else look r f
theorem Cm {P:Program} :Ki P (look []):= λ_ _ h=>by cases h
theorem Bh {P:Program} {g:FuncId} {s:Spec} {r:List (FuncId×fJ)} (h:Sound P g s) (hr:Ki P (look r)):Ki P (look ((g, .q s)::r)):=by
 intro f t hf
 simp only [look] at hf
 split at hf
 ·rename_i hg
  injection hf with hf
  rw [<-hg,<-hf]
  exact h
 ·exact hr f t hf
theorem Jd {P:Program} {g:FuncId} {s:MSpec} {r:List (FuncId×fJ)} (h:Da P g s) (hr:Ki P (look r)):Ki P (look ((g, .m s)::r)):=by
 intro f t hf
 simp only [look] at hf
 split at hf
 ·rename_i hg
  injection hf with hf
  rw [<-hg,<-hf]
  exact h
 ·exact hr f t hf
theorem Dn.flags {P:Program} {T:Tab} (h:Dn P T) (f t:Bool):Dn P {T with sS:=f,z8:=t} :=
 ⟨h.fill,λa b pd=>⟨(h.ty a b pd).info,(h.ty a b pd).desc⟩,h.elem,h.mapOf,h.off⟩
theorem Dn.nX {P:Program} {T:Tab} (h:Dn P T) (r:List Nat):Dn P {T with marks:=r} :=
 ⟨h.fill,λa b pd=>⟨(h.ty a b pd).info,(h.ty a b pd).desc⟩,h.elem,h.mapOf,h.off⟩
theorem Dn.QN {P:Program} {T:Tab} (h:Dn P T) (l:List Nat):Dn P {T with parts:=l} :=
 ⟨h.fill,λa b pd=>⟨(h.ty a b pd).info,(h.ty a b pd).desc⟩,h.elem,h.mapOf,h.off⟩
noncomputable def Hv (arg res:Ty) (Gh fresh:Bool) (pre:arg.den->Prop) (val:arg.den->res.den):Spec:=
 {arg:=arg,res:=res,Gh:=Gh,fresh:=fresh,fn:= λx=>open Classical in if pre x then some (val x) else none}
theorem Sound.Hv {P:Program} {T:Tab} {Γ:Env} (hT:Dn P T) (Oh:Ki P Γ) (hm:P.follows .mixedOrders=true) {f:FuncId} {fn:Func} (hf:P.funcs[f]?=some fn) (hn:(fn.name== "runtime.NumGoroutine")=false)
  (hb:fn.body.isNone=false) {arg res:Ty} {Gh fresh:Bool} {pre:arg.den->Prop} {val:arg.den->res.den} (h: ∀x,pre x->fnW T Γ (Go.Proofs.Ytkkdpknjohcekaa.Hv arg res Gh fresh pre val) fn x (λz=>z=val x)):Sound P f (Go.Proofs.Ytkkdpknjohcekaa.Hv arg res Gh fresh pre val):=
 Sound.ofW hT Oh hm hf hn hb _ λx y hy=>by
  have hp:pre x:=Bf λhn=>by
   have:(Go.Proofs.Ytkkdpknjohcekaa.Hv arg res Gh fresh pre val).fn x=none:=Ai hn
   rw [this] at hy
   cases hy
  have hv:(Go.Proofs.Ytkkdpknjohcekaa.Hv arg res Gh fresh pre val).fn x=some (val x):=Ac hp
  rw [hv] at hy
  injection hy with hy
  rw [<-hy]
  exact h x hp
noncomputable def fb (Ih:List (Option Nat)) (ins:List (Bool×CK)) (Gh:Bool) (Hb:List (Option Nat)) (outs:List CK) (pre:Ins.den ins->Prop) (val:Ins.den ins->CKs.den outs×IOs.den ins):MSpec:=
 {Ih:=Ih,ins:=ins,Gh:=Gh,Hb:=Hb,outs:=outs,fn:= λx=>open Classical in if pre x then some (val x) else none}
theorem Da.fb {P:Program} {T:Tab} {Γ:Env} (hT:Dn P T) (Oh:Ki P Γ) (hm:P.follows .mixedOrders=true) {f:FuncId} {fn:Func} (hf:P.funcs[f]?=some fn) (hn:(fn.name== "runtime.NumGoroutine")=false)
  (hb:fn.body.isNone=false) {Ih:List (Option Nat)} {ins:List (Bool×CK)} {Gh:Bool} {Hb:List (Option Nat)} {outs:List CK} {pre:Ins.den ins->Prop} {val:Ins.den ins->CKs.den outs×IOs.den ins}
  (h: ∀x,pre x->fnMW T Γ (Go.Proofs.Ytkkdpknjohcekaa.fb Ih ins Gh Hb outs pre val) fn x (λz=>z=val x)):Da P f (Go.Proofs.Ytkkdpknjohcekaa.fb Ih ins Gh Hb outs pre val):=
 Da.ofW hT Oh hm hf hn hb _ λx y hy=>by
  have hp:pre x:=Bf λhn=>by
   have:(Go.Proofs.Ytkkdpknjohcekaa.fb Ih ins Gh Hb outs pre val).fn x=none:=Ai hn
   rw [this] at hy
   cases hy
  have hv:(Go.Proofs.Ytkkdpknjohcekaa.fb Ih ins Gh Hb outs pre val).fn x=some (val x):=Ac hp
  rw [hv] at hy
  injection hy with hy
  rw [<-hy]
  exact h x hp
noncomputable def sY (s:MSpec) (pre:Ins.den s.ins->Prop) (val:Ins.den s.ins->CKs.den s.outs×IOs.den s.ins):MSpec:= {s with fn:= λx=>open Classical in if pre x then some (val x) else none}
theorem Da.sY {P:Program} {T:Tab} {Γ:Env} (hT:Dn P T) (Oh:Ki P Γ) (hm:P.follows .mixedOrders=true) {f:FuncId} {fn:Func} (hf:P.funcs[f]?=some fn) (hn:(fn.name== "runtime.NumGoroutine")=false)
  (hb:fn.body.isNone=false) {s:MSpec} {pre:Ins.den s.ins->Prop} {val:Ins.den s.ins->CKs.den s.outs×IOs.den s.ins}
  (h: ∀x,pre x->fnMW T Γ (Go.Proofs.Ytkkdpknjohcekaa.sY s pre val) fn x (λz=>z=val x)):Da P f (Go.Proofs.Ytkkdpknjohcekaa.sY s pre val):=
 Da.ofW hT Oh hm hf hn hb _ λx y hy=>by
  have hp:pre x:=Bf λhn=>by
   have:(Go.Proofs.Ytkkdpknjohcekaa.sY s pre val).fn x=none:=Ai hn
   rw [this] at hy
   cases hy
  have hv:(Go.Proofs.Ytkkdpknjohcekaa.sY s pre val).fn x=some (val x):=Ac hp
  rw [hv] at hy
  injection hy with hy
  rw [<-hy]
  exact h x hp
theorem Da.Aic {P:Program} {f:FuncId} {s:MSpec} {pre:Ins.den s.ins->Prop} {val:Ins.den s.ins->CKs.den s.outs×IOs.den s.ins} (μ:Ins.den s.ins->Nat)
  (h: ∀n,Da P f (Go.Proofs.Ytkkdpknjohcekaa.sY s (λx=>pre x/\μ x<n) val)):Da P f (Go.Proofs.Ytkkdpknjohcekaa.sY s pre val):=by
 refine ⟨(h 0).enter,λw S π us x r o g vs h1 hg h2 h3 hS h4 h5=>?_⟩
 have hp:pre x:=Bf λhn=>by
  have:(Go.Proofs.Ytkkdpknjohcekaa.sY s pre val).fn x=none:=Ai hn
  rw [this] at h5;cases h5
 have hv:(Go.Proofs.Ytkkdpknjohcekaa.sY s pre val).fn x=some (val x):=Ac hp
 rw [hv] at h5
 exact (h (μ x+1)).calls w S π us x r o g vs h1 hg h2 h3 hS h4 ((Ac ⟨hp,Nat.lt_succ_self _⟩).trans h5)
theorem Ct.toO {w:World} {S:Nat->Prop} {e:Ty} {v:Value} {xs:List e.den} (h:Ct w S (.slice e) v xs) (Hq:xs≠ []):Ct w S (.oslice e) v (some xs):=by
 obtain ⟨cs,hc,rfl⟩:=h
 simp only [Cells] at hc
 obtain ⟨a,len,cap,rfl,h1,h2,h3⟩:=hc
 rcases h3 with h3|⟨g,o,rfl,h4⟩
 ·exact absurd h3 Hq
 ·exact ⟨_, .inr ⟨xs,_,len,cap,rfl,rfl,h1,h2, .inr ⟨g,o,rfl,h4⟩⟩,rfl⟩
theorem Sound.toO {P:Program} {f:FuncId} {arg e:Ty} {fresh:Bool} {pre gP:arg.den->Prop} {val:arg.den->(Ty.slice e).den} (h:Sound P f (Go.Proofs.Ytkkdpknjohcekaa.Hv arg (.slice e) false fresh pre val)) (hp: ∀x,gP x->pre x/\val x≠ []):
  Sound P f (Go.Proofs.Ytkkdpknjohcekaa.Hv arg (.oslice e) false fresh gP (λx=>some (val x))):=by
 refine ⟨h.enter,λw S vs x y h1 h2 h3=>?_⟩
 have gC:gP x:=Bf λhn=>by
  have:(Go.Proofs.Ytkkdpknjohcekaa.Hv arg (.oslice e) false fresh gP (λx=>some (val x))).fn x=none:=Ai hn
  rw [this] at h3;cases h3
 have hv:(Go.Proofs.Ytkkdpknjohcekaa.Hv arg (.oslice e) false fresh gP (λx=>some (val x))).fn x=some (some (val x)):=Ac gC
 rw [hv] at h3
 have h3:=Ax h3
 subst h3
 refine Calls.mono (h.calls w S vs x (val x) h1 h2 (Ac (hp x gC).1)) λe' w' hr=>?_
 obtain ⟨v,g1,g2,g3⟩:=hr
 exact ⟨v,g1,g2,Ct.toO g3 (hp x gC).2⟩
theorem Ct.told {w:World} {S:Nat->Prop} {e:Ty} {v:Value} {xs:List e.den} (h:Ct w S (.slice e) v xs): ∃o:Option (List e.den),Ct w S (.oslice e) v o/\o.getD []=xs:=by
 obtain ⟨cs,hc,rfl⟩:=h
 simp only [Cells] at hc
 obtain ⟨a,len,cap,rfl,h1,h2,h3⟩:=hc
 cases a with
 |none=>
  rcases h3 with rfl|⟨g,o,h,_⟩
  ·exact ⟨none,⟨_, .inl ⟨rfl,cap,by rw [h1];rfl⟩,rfl⟩,rfl⟩
  ·cases h
 |some ad=>
  refine ⟨some xs,⟨_, .inr ⟨xs,ad,len,cap,rfl,rfl,h1,h2,h3.imp id λ⟨g,o,h,h4⟩=>⟨g,o,Ax h,h4⟩⟩,rfl⟩,rfl⟩
theorem Da.ofO {P:Program} {f:FuncId} {sh:List (Option Nat)} {e:Ty} {ins:List (Bool×CK)} {Gh:Bool} {rsh:List (Option Nat)} {outs:List CK}
  {pre:Ins.den ((false, .Hx (.oslice e))::ins)->Prop} {val:Ins.den ((false, .Hx (.oslice e))::ins)->CKs.den outs×IOs.den ins} {gP:Ins.den ((false, .Hx (.slice e))::ins)->Prop} {sN:Ins.den ((false, .Hx (.slice e))::ins)->CKs.den outs×IOs.den ins}
  (h:Da P f (Go.Proofs.Ytkkdpknjohcekaa.fb sh ((false, .Hx (.oslice e))::ins) Gh rsh outs pre val))
  (hp: ∀(o:Option (List e.den)) (r:Ins.den ins),gP (o.getD [],r)->pre (o,r)/\val (o,r)=sN (o.getD [],r)):Da P f (Go.Proofs.Ytkkdpknjohcekaa.fb sh ((false, .Hx (.slice e))::ins) Gh rsh outs gP sN):=by
 refine ⟨h.enter,λw S π us x r o g vs h1 hg h2 h3 hS h4 h5=>?_⟩
 obtain ⟨xs,rest⟩:=x
 cases us with
 |nil=>exact h2.elim
 |cons u us=>
  obtain ⟨⟨h6,h7⟩,h8⟩:=h2
  obtain ⟨ox,h9,rfl⟩:=h7.told
  have gC:gP (ox.getD [],rest):=Bf λhn=>by
   have:(Go.Proofs.Ytkkdpknjohcekaa.fb sh ((false, .Hx (.slice e))::ins) Gh rsh outs gP sN).fn (ox.getD [],rest)=none:=Ai hn
   rw [this] at h5;cases h5
  obtain ⟨k1,k2⟩:=hp ox rest gC
  have hv:(Go.Proofs.Ytkkdpknjohcekaa.fb sh ((false, .Hx (.slice e))::ins) Gh rsh outs gP sN).fn (ox.getD [],rest)=some (sN (ox.getD [],rest)):=Ac gC
  rw [hv] at h5
  have h5:=Ax h5
  exact h.calls w S π (u::us) (ox,rest) r o g vs h1 hg ⟨⟨h6,h9⟩,h8⟩ h3 hS h4 ((Ac k1).trans (by rw [k2];exact Ma some h5))
theorem Da.Anm {P:Program} {f:FuncId} {Ih:List (Option Nat)} {ins:List (Bool×CK)} {Gh:Bool} {Hb:List (Option Nat)} {outs:List CK} {pre:Ins.den ins->Prop} {val:Ins.den ins->CKs.den outs×IOs.den ins} (μ:Ins.den ins->Nat)
  (h: ∀n,Da P f (Go.Proofs.Ytkkdpknjohcekaa.fb Ih ins Gh Hb outs (λx=>pre x/\μ x<n) val)):Da P f (Go.Proofs.Ytkkdpknjohcekaa.fb Ih ins Gh Hb outs pre val):=by
 refine ⟨(h 0).enter,λw S π us x r o g vs h1 hg h2 h3 hS h4 h5=>?_⟩
 have hp:pre x:=Bf λhn=>by
  have:(Go.Proofs.Ytkkdpknjohcekaa.fb Ih ins Gh Hb outs pre val).fn x=none:=Ai hn
  rw [this] at h5;cases h5
 have hv:(Go.Proofs.Ytkkdpknjohcekaa.fb Ih ins Gh Hb outs pre val).fn x=some (val x):=Ac hp
 rw [hv] at h5
 exact (h (μ x+1)).calls w S π us x r o g vs h1 hg h2 h3 hS h4 ((Ac ⟨hp,Nat.lt_succ_self _⟩).trans h5)
theorem Br.of {b:Bool} {A B:Prop} (t:b=true->A) (f:b=false->B):Br b A B:=⟨t,f⟩
theorem Br.dec {p:Prop} [Decidable p] {A B:Prop} (t:p->A) (f: ¬p->B):Br (decide p) A B:=⟨λh=>t (Ex h),λh=>f (of_decide_eq_false h)⟩
theorem Ci {V:Type} {step:V->(V->Prop)->Prop} {v0:V} (len:Nat) (Yh:V->Int) (R:Nat->V->Prop) (h0:Yh v0=0) (hR:R 0 v0)
  (hs: ∀(j:Nat) (v:V) (K:V->Prop),j<=len->Yh v=j->R j v->(j<len-> ∀v',Yh v'=((j+1:Nat):Int)->R (j+1) v'->K v')->step v K):Dt step v0:=by
 refine ⟨λv=> ∃j:Nat,j<=len/\Yh v=j/\R j v,λv=>len-(Yh v).toNat,⟨0,Iz _,h0,hR⟩,?_⟩
 rintro v ⟨j,h1,h2,h3⟩
 refine hs j v _ h1 h2 h3 λhl v' h4 h5=>⟨⟨j+1,hl,h4,h5⟩,?_⟩
 rw [h2,h4]
 simp only [As]
 omega
theorem Dh {n:Int} (h1: -9223372036854775808<=n) (h2:n<9223372036854775808):IntKind.i64.wrap n=n:=by rw [IntKind.wrap_i64];omega
theorem Cg {n:Nat} (h2:n<9223372036854775807):IntKind.i64.wrap ((n:Int)+1)=((n+1:Nat):Int):=by
 rw [Dh (by omega) (by omega)];rfl
theorem Df {α:Type} {xs:List α} {j:Nat} (h:j<xs.length):idx xs (j:Int)=some xs[j]:=by
 unfold idx
 rw [Ac (by omega),As,Ab h]
end Go.Proofs.Ytkkdpknjohcekaa
