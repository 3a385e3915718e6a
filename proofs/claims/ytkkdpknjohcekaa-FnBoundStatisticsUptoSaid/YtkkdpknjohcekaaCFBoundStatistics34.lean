/-
  Part 35 of the proof that the statement FnBoundStatistics holds.
-/
import Derived.Test.YtkkdpknjohcekaaCFBoundStatistics33
import Derived.Laws.BitsLemmas
namespace Go.Proofs.Ytkkdpknjohcekaa
open Go.RowKit
instance:Coe Spec bw:=⟨.q⟩
instance:Coe MSpec bw:=⟨.m⟩
def look:List (FuncId×bw)->Env
 | [],_=>none
 |(g,s)::r,f=>if g=f then some s else look r f
theorem Bw {P:Program} :Kx P (look []):= λ_ _ h=>by cases h
theorem Bd {P:Program} {g:FuncId} {s:Spec} {r:List (FuncId×bw)} (h:Sound P g s) (hr:Kx P (look r)):Kx P (look ((g, .q s)::r)):=by
 intro f t hf
 simp only [look] at hf
 split at hf
 ·rename_i hg
  injection hf with hf
  rw [<-hg,<-hf]
  exact h
 ·exact hr f t hf
theorem Ft {P:Program} {g:FuncId} {s:MSpec} {r:List (FuncId×bw)} (h:Cn P g s) (hr:Kx P (look r)):Kx P (look ((g, .m s)::r)):=by
 intro f t hf
 simp only [look] at hf
 split at hf
 ·rename_i hg
  injection hf with hf
  rw [<-hg,<-hf]
  exact h
 ·exact hr f t hf
theorem Dz.flags {P:Program} {T:Tab} (h:Dz P T) (f t:Bool):Dz P {T with sX:=f,BH:=t} :=
 ⟨h.fill,λa b vK=>⟨(h.ty a b vK).info,(h.ty a b vK).desc⟩,h.elem,h.mapOf,h.off⟩
theorem Dz.kA {P:Program} {T:Tab} (h:Dz P T) (r:List Nat):Dz P {T with marks:=r} :=
 ⟨h.fill,λa b vK=>⟨(h.ty a b vK).info,(h.ty a b vK).desc⟩,h.elem,h.mapOf,h.off⟩
noncomputable def Ib (arg res:Ty) (Hi fresh:Bool) (pre:arg.den->Prop) (val:arg.den->res.den):Spec:=
 {arg:=arg,res:=res,Hi:=Hi,fresh:=fresh,fn:= λx=>open Classical in if pre x then some (val x) else none}
theorem Sound.Ib {P:Program} {T:Tab} {Γ:Env} (hT:Dz P T) (Pb:Kx P Γ) (hm:P.follows .mixedOrders=true) {f:FuncId} {fn:Func} (hf:P.funcs[f]?=some fn) (hn:(fn.name== "runtime.NumGoroutine")=false)
  (hb:fn.body.isNone=false) {arg res:Ty} {Hi fresh:Bool} {pre:arg.den->Prop} {val:arg.den->res.den} (h: ∀x,pre x->fnW T Γ (Go.Proofs.Ytkkdpknjohcekaa.Ib arg res Hi fresh pre val) fn x (λz=>z=val x)):Sound P f (Go.Proofs.Ytkkdpknjohcekaa.Ib arg res Hi fresh pre val):=
 Sound.ofW hT Pb hm hf hn hb _ λx y hy=>by
  have hp:pre x:=Bj λhn=>by
   have:(Go.Proofs.Ytkkdpknjohcekaa.Ib arg res Hi fresh pre val).fn x=none:=Ak hn
   rw [this] at hy
   cases hy
  have hv:(Go.Proofs.Ytkkdpknjohcekaa.Ib arg res Hi fresh pre val).fn x=some (val x):=Ac hp
  rw [hv] at hy
  injection hy with hy
  rw [<-hy]
  exact h x hp
noncomputable def lg (Ip:List (Option Nat)) (ins:List (Bool×CK)) (Hi:Bool) (Hb:List (Option Nat)) (outs:List CK) (pre:Ins.den ins->Prop) (val:Ins.den ins->CKs.den outs×IOs.den ins):MSpec:=
 {Ip:=Ip,ins:=ins,Hi:=Hi,Hb:=Hb,outs:=outs,fn:= λx=>open Classical in if pre x then some (val x) else none}
theorem Cn.lg {P:Program} {T:Tab} {Γ:Env} (hT:Dz P T) (Pb:Kx P Γ) (hm:P.follows .mixedOrders=true) {f:FuncId} {fn:Func} (hf:P.funcs[f]?=some fn) (hn:(fn.name== "runtime.NumGoroutine")=false)
  (hb:fn.body.isNone=false) {Ip:List (Option Nat)} {ins:List (Bool×CK)} {Hi:Bool} {Hb:List (Option Nat)} {outs:List CK} {pre:Ins.den ins->Prop} {val:Ins.den ins->CKs.den outs×IOs.den ins}
  (h: ∀x,pre x->fnMW T Γ (Go.Proofs.Ytkkdpknjohcekaa.lg Ip ins Hi Hb outs pre val) fn x (λz=>z=val x)):Cn P f (Go.Proofs.Ytkkdpknjohcekaa.lg Ip ins Hi Hb outs pre val):=
 Cn.ofW hT Pb hm hf hn hb _ λx y hy=>by
  have hp:pre x:=Bj λhn=>by
   have:(Go.Proofs.Ytkkdpknjohcekaa.lg Ip ins Hi Hb outs pre val).fn x=none:=Ak hn
   rw [this] at hy
   cases hy
  have hv:(Go.Proofs.Ytkkdpknjohcekaa.lg Ip ins Hi Hb outs pre val).fn x=some (val x):=Ac hp
  rw [hv] at hy
  injection hy with hy
  rw [<-hy]
  exact h x hp
noncomputable def eM (s:MSpec) (pre:Ins.den s.ins->Prop) (val:Ins.den s.ins->CKs.den s.outs×IOs.den s.ins):MSpec:= {s with fn:= λx=>open Classical in if pre x then some (val x) else none}
theorem Cn.eM {P:Program} {T:Tab} {Γ:Env} (hT:Dz P T) (Pb:Kx P Γ) (hm:P.follows .mixedOrders=true) {f:FuncId} {fn:Func} (hf:P.funcs[f]?=some fn) (hn:(fn.name== "runtime.NumGoroutine")=false)
  (hb:fn.body.isNone=false) {s:MSpec} {pre:Ins.den s.ins->Prop} {val:Ins.den s.ins->CKs.den s.outs×IOs.den s.ins}
  (h: ∀x,pre x->fnMW T Γ (Go.Proofs.Ytkkdpknjohcekaa.eM s pre val) fn x (λz=>z=val x)):Cn P f (Go.Proofs.Ytkkdpknjohcekaa.eM s pre val):=
 Cn.ofW hT Pb hm hf hn hb _ λx y hy=>by
  have hp:pre x:=Bj λhn=>by
   have:(Go.Proofs.Ytkkdpknjohcekaa.eM s pre val).fn x=none:=Ak hn
   rw [this] at hy
   cases hy
  have hv:(Go.Proofs.Ytkkdpknjohcekaa.eM s pre val).fn x=some (val x):=Ac hp
  rw [hv] at hy
  injection hy with hy
  rw [<-hy]
  exact h x hp
theorem Cn.Agk {P:Program} {f:FuncId} {s:MSpec} {pre:Ins.den s.ins->Prop} {val:Ins.den s.ins->CKs.den s.outs×IOs.den s.ins} (μ:Ins.den s.ins->Nat)
  (h: ∀n,Cn P f (Go.Proofs.Ytkkdpknjohcekaa.eM s (λx=>pre x/\μ x<n) val)):Cn P f (Go.Proofs.Ytkkdpknjohcekaa.eM s pre val):=by
 refine ⟨(h 0).enter,λw S π us x r o g vs h1 hg h2 h3 hS h4 h5=>?_⟩
 have hp:pre x:=Bj λhn=>by
  have:(Go.Proofs.Ytkkdpknjohcekaa.eM s pre val).fn x=none:=Ak hn
  rw [this] at h5;cases h5
 have hv:(Go.Proofs.Ytkkdpknjohcekaa.eM s pre val).fn x=some (val x):=Ac hp
 rw [hv] at h5
 exact (h (μ x+1)).calls w S π us x r o g vs h1 hg h2 h3 hS h4 ((Ac ⟨hp,Nat.lt_succ_self _⟩).trans h5)
theorem Cw.toO {w:World} {S:Nat->Prop} {e:Ty} {v:Value} {xs:List e.den} (h:Cw w S (.slice e) v xs) (Iv:xs≠ []):Cw w S (.oslice e) v (some xs):=by
 obtain ⟨cs,hc,rfl⟩:=h
 simp only [Cells] at hc
 obtain ⟨a,len,cap,rfl,h1,h2,h3⟩:=hc
 rcases h3 with h3|⟨g,o,rfl,h4⟩
 ·exact absurd h3 Iv
 ·exact ⟨_, .inr ⟨xs,_,len,cap,rfl,rfl,h1,h2, .inr ⟨g,o,rfl,h4⟩⟩,rfl⟩
theorem Sound.toO {P:Program} {f:FuncId} {arg e:Ty} {fresh:Bool} {pre ue:arg.den->Prop} {val:arg.den->(Ty.slice e).den} (h:Sound P f (Go.Proofs.Ytkkdpknjohcekaa.Ib arg (.slice e) false fresh pre val)) (hp: ∀x,ue x->pre x/\val x≠ []):
  Sound P f (Go.Proofs.Ytkkdpknjohcekaa.Ib arg (.oslice e) false fresh ue (λx=>some (val x))):=by
 refine ⟨h.enter,λw S vs x y h1 h2 h3=>?_⟩
 have gO:ue x:=Bj λhn=>by
  have:(Go.Proofs.Ytkkdpknjohcekaa.Ib arg (.oslice e) false fresh ue (λx=>some (val x))).fn x=none:=Ak hn
  rw [this] at h3;cases h3
 have hv:(Go.Proofs.Ytkkdpknjohcekaa.Ib arg (.oslice e) false fresh ue (λx=>some (val x))).fn x=some (some (val x)):=Ac gO
 rw [hv] at h3
 have h3:=Bb h3
 subst h3
 refine Calls.mono (h.calls w S vs x (val x) h1 h2 (Ac (hp x gO).1)) λe' w' hr=>?_
 obtain ⟨v,g1,g2,g3⟩:=hr
 exact ⟨v,g1,g2,Cw.toO g3 (hp x gO).2⟩
theorem Cw.told {w:World} {S:Nat->Prop} {e:Ty} {v:Value} {xs:List e.den} (h:Cw w S (.slice e) v xs): ∃o:Option (List e.den),Cw w S (.oslice e) v o/\o.getD []=xs:=by
 obtain ⟨cs,hc,rfl⟩:=h
 simp only [Cells] at hc
 obtain ⟨a,len,cap,rfl,h1,h2,h3⟩:=hc
 cases a with
 |none=>
  rcases h3 with rfl|⟨g,o,h,_⟩
  ·exact ⟨none,⟨_, .inl ⟨rfl,cap,by rw [h1];rfl⟩,rfl⟩,rfl⟩
  ·cases h
 |some ad=>
  refine ⟨some xs,⟨_, .inr ⟨xs,ad,len,cap,rfl,rfl,h1,h2,h3.imp id λ⟨g,o,h,h4⟩=>⟨g,o,Bb h,h4⟩⟩,rfl⟩,rfl⟩
theorem Cn.ofO {P:Program} {f:FuncId} {sh:List (Option Nat)} {e:Ty} {ins:List (Bool×CK)} {Hi:Bool} {rsh:List (Option Nat)} {outs:List CK}
  {pre:Ins.den ((false, .Fy (.oslice e))::ins)->Prop} {val:Ins.den ((false, .Fy (.oslice e))::ins)->CKs.den outs×IOs.den ins} {ue:Ins.den ((false, .Fy (.slice e))::ins)->Prop} {Abp:Ins.den ((false, .Fy (.slice e))::ins)->CKs.den outs×IOs.den ins}
  (h:Cn P f (Go.Proofs.Ytkkdpknjohcekaa.lg sh ((false, .Fy (.oslice e))::ins) Hi rsh outs pre val))
  (hp: ∀(o:Option (List e.den)) (r:Ins.den ins),ue (o.getD [],r)->pre (o,r)/\val (o,r)=Abp (o.getD [],r)):Cn P f (Go.Proofs.Ytkkdpknjohcekaa.lg sh ((false, .Fy (.slice e))::ins) Hi rsh outs ue Abp):=by
 refine ⟨h.enter,λw S π us x r o g vs h1 hg h2 h3 hS h4 h5=>?_⟩
 obtain ⟨xs,rest⟩:=x
 cases us with
 |nil=>exact h2.elim
 |cons u us=>
  obtain ⟨⟨h6,h7⟩,h8⟩:=h2
  obtain ⟨ox,h9,rfl⟩:=h7.told
  have gO:ue (ox.getD [],rest):=Bj λhn=>by
   have:(Go.Proofs.Ytkkdpknjohcekaa.lg sh ((false, .Fy (.slice e))::ins) Hi rsh outs ue Abp).fn (ox.getD [],rest)=none:=Ak hn
   rw [this] at h5;cases h5
  obtain ⟨k1,k2⟩:=hp ox rest gO
  have hv:(Go.Proofs.Ytkkdpknjohcekaa.lg sh ((false, .Fy (.slice e))::ins) Hi rsh outs ue Abp).fn (ox.getD [],rest)=some (Abp (ox.getD [],rest)):=Ac gO
  rw [hv] at h5
  have h5:=Bb h5
  exact h.calls w S π (u::us) (ox,rest) r o g vs h1 hg ⟨⟨h6,h9⟩,h8⟩ h3 hS h4 ((Ac k1).trans (by rw [k2];exact Gc some h5))
theorem Br.of {b:Bool} {A B:Prop} (t:b=true->A) (f:b=false->B):Br b A B:=⟨t,f⟩
theorem Br.dec {p:Prop} [Decidable p] {A B:Prop} (t:p->A) (f: ¬p->B):Br (decide p) A B:=⟨λh=>t (Lg h),λh=>f (of_decide_eq_false h)⟩
theorem Bs {V:Type} {step:V->(V->Prop)->Prop} {v0:V} (len:Nat) (Zk:V->Int) (R:Nat->V->Prop) (h0:Zk v0=0) (hR:R 0 v0)
  (hs: ∀(j:Nat) (v:V) (K:V->Prop),j<=len->Zk v=j->R j v->(j<len-> ∀v',Zk v'=((j+1:Nat):Int)->R (j+1) v'->K v')->step v K):Dh step v0:=by
 refine ⟨λv=> ∃j:Nat,j<=len/\Zk v=j/\R j v,λv=>len-(Zk v).toNat,⟨0,Ja _,h0,hR⟩,?_⟩
 rintro v ⟨j,h1,h2,h3⟩
 refine hs j v _ h1 h2 h3 λhl v' h4 h5=>⟨⟨j+1,hl,h4,h5⟩,?_⟩
 rw [h2,h4]
 simp only [Aj]
 omega
theorem Dl {n:Int} (h1: -9223372036854775808<=n) (h2:n<9223372036854775808):IntKind.i64.wrap n=n:=by rw [IntKind.wrap_i64];omega
theorem Bk {n:Nat} (h2:n<9223372036854775807):IntKind.i64.wrap ((n:Int)+1)=((n+1:Nat):Int):=by
 rw [Dl (by omega) (by omega)];rfl
theorem Ck {α:Type} {xs:List α} {j:Nat} (h:j<xs.length):idx xs (j:Int)=some xs[j]:=by
 unfold idx
 rw [Ac (by omega),Aj,Ab h]
end Go.Proofs.Ytkkdpknjohcekaa
