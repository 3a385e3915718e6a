/-
  Part 35 of the proof that the statement FnSubgroups holds.
-/
import Derived.Test.YtkkdpknjohcekaaCFSubgroups33
import Derived.Laws.BitsLemmas
namespace Go.Proofs.Ytkkdpknjohcekaa
open Go.RowKit
instance:Coe Spec bq:=⟨.q⟩
instance:Coe MSpec bq:=⟨.m⟩
def look:List (FuncId×bq)->Env
 | [],_=>none
 |(g,s)::r,f=>if g=f then some s else look r f
theorem Cb {P:Program} :Kq P (look []):= λ_ _ h=>by cases h
theorem Be {P:Program} {g:FuncId} {s:Spec} {r:List (FuncId×bq)} (h:Sound P g s) (hr:Kq P (look r)):Kq P (look ((g, .q s)::r)):=by
 intro f t hf
 simp only [look] at hf
 split at hf
 ·rename_i hg
  injection hf with hf
  rw [<-hg,<-hf]
  exact h
 ·exact hr f t hf
theorem Ez {P:Program} {g:FuncId} {s:MSpec} {r:List (FuncId×bq)} (h:Ci P g s) (hr:Kq P (look r)):Kq P (look ((g, .m s)::r)):=by
 intro f t hf
 simp only [look] at hf
 split at hf
 ·rename_i hg
  injection hf with hf
  rw [<-hg,<-hf]
  exact h
 ·exact hr f t hf
theorem Ef.flags {P:Program} {T:Tab} (h:Ef P T) (f t:Bool):Ef P {T with sl:=f,yC:=t} :=
 ⟨h.fill,λa b ZH=>⟨(h.ty a b ZH).info,(h.ty a b ZH).desc⟩,h.elem,h.mapOf,h.off⟩
theorem Ef.qt {P:Program} {T:Tab} (h:Ef P T) (r:List Nat):Ef P {T with marks:=r} :=
 ⟨h.fill,λa b ZH=>⟨(h.ty a b ZH).info,(h.ty a b ZH).desc⟩,h.elem,h.mapOf,h.off⟩
noncomputable def Ht (arg res:Ty) (Gl fresh:Bool) (pre:arg.den->Prop) (val:arg.den->res.den):Spec:=
 {arg:=arg,res:=res,Gl:=Gl,fresh:=fresh,fn:= λx=>open Classical in if pre x then some (val x) else none}
theorem Sound.Ht {P:Program} {T:Tab} {Γ:Env} (hT:Ef P T) (Om:Kq P Γ) (hm:P.follows .mixedOrders=true) {f:FuncId} {fn:Func} (hf:P.funcs[f]?=some fn) (hn:(fn.name== "runtime.NumGoroutine")=false)
  (hb:fn.body.isNone=false) {arg res:Ty} {Gl fresh:Bool} {pre:arg.den->Prop} {val:arg.den->res.den} (h: ∀x,pre x->fnW T Γ (Go.Proofs.Ytkkdpknjohcekaa.Ht arg res Gl fresh pre val) fn x (λz=>z=val x)):Sound P f (Go.Proofs.Ytkkdpknjohcekaa.Ht arg res Gl fresh pre val):=
 Sound.ofW hT Om hm hf hn hb _ λx y hy=>by
  have hp:pre x:=Bk λhn=>by
   have:(Go.Proofs.Ytkkdpknjohcekaa.Ht arg res Gl fresh pre val).fn x=none:=Ak hn
   rw [this] at hy
   cases hy
  have hv:(Go.Proofs.Ytkkdpknjohcekaa.Ht arg res Gl fresh pre val).fn x=some (val x):=Ab hp
  rw [hv] at hy
  injection hy with hy
  rw [<-hy]
  exact h x hp
noncomputable def ir (Hw:List (Option Nat)) (ins:List (Bool×CK)) (Gl:Bool) (Gz:List (Option Nat)) (outs:List CK) (pre:Ins.den ins->Prop) (val:Ins.den ins->CKs.den outs×IOs.den ins):MSpec:=
 {Hw:=Hw,ins:=ins,Gl:=Gl,Gz:=Gz,outs:=outs,fn:= λx=>open Classical in if pre x then some (val x) else none}
theorem Ci.ir {P:Program} {T:Tab} {Γ:Env} (hT:Ef P T) (Om:Kq P Γ) (hm:P.follows .mixedOrders=true) {f:FuncId} {fn:Func} (hf:P.funcs[f]?=some fn) (hn:(fn.name== "runtime.NumGoroutine")=false)
  (hb:fn.body.isNone=false) {Hw:List (Option Nat)} {ins:List (Bool×CK)} {Gl:Bool} {Gz:List (Option Nat)} {outs:List CK} {pre:Ins.den ins->Prop} {val:Ins.den ins->CKs.den outs×IOs.den ins}
  (h: ∀x,pre x->fnMW T Γ (Go.Proofs.Ytkkdpknjohcekaa.ir Hw ins Gl Gz outs pre val) fn x (λz=>z=val x)):Ci P f (Go.Proofs.Ytkkdpknjohcekaa.ir Hw ins Gl Gz outs pre val):=
 Ci.ofW hT Om hm hf hn hb _ λx y hy=>by
  have hp:pre x:=Bk λhn=>by
   have:(Go.Proofs.Ytkkdpknjohcekaa.ir Hw ins Gl Gz outs pre val).fn x=none:=Ak hn
   rw [this] at hy
   cases hy
  have hv:(Go.Proofs.Ytkkdpknjohcekaa.ir Hw ins Gl Gz outs pre val).fn x=some (val x):=Ab hp
  rw [hv] at hy
  injection hy with hy
  rw [<-hy]
  exact h x hp
noncomputable def dS (s:MSpec) (pre:Ins.den s.ins->Prop) (val:Ins.den s.ins->CKs.den s.outs×IOs.den s.ins):MSpec:= {s with fn:= λx=>open Classical in if pre x then some (val x) else none}
theorem Ci.dS {P:Program} {T:Tab} {Γ:Env} (hT:Ef P T) (Om:Kq P Γ) (hm:P.follows .mixedOrders=true) {f:FuncId} {fn:Func} (hf:P.funcs[f]?=some fn) (hn:(fn.name== "runtime.NumGoroutine")=false)
  (hb:fn.body.isNone=false) {s:MSpec} {pre:Ins.den s.ins->Prop} {val:Ins.den s.ins->CKs.den s.outs×IOs.den s.ins}
  (h: ∀x,pre x->fnMW T Γ (Go.Proofs.Ytkkdpknjohcekaa.dS s pre val) fn x (λz=>z=val x)):Ci P f (Go.Proofs.Ytkkdpknjohcekaa.dS s pre val):=
 Ci.ofW hT Om hm hf hn hb _ λx y hy=>by
  have hp:pre x:=Bk λhn=>by
   have:(Go.Proofs.Ytkkdpknjohcekaa.dS s pre val).fn x=none:=Ak hn
   rw [this] at hy
   cases hy
  have hv:(Go.Proofs.Ytkkdpknjohcekaa.dS s pre val).fn x=some (val x):=Ab hp
  rw [hv] at hy
  injection hy with hy
  rw [<-hy]
  exact h x hp
theorem Ci.Ai9 {P:Program} {f:FuncId} {s:MSpec} {pre:Ins.den s.ins->Prop} {val:Ins.den s.ins->CKs.den s.outs×IOs.den s.ins} (μ:Ins.den s.ins->Nat)
  (h: ∀n,Ci P f (Go.Proofs.Ytkkdpknjohcekaa.dS s (λx=>pre x/\μ x<n) val)):Ci P f (Go.Proofs.Ytkkdpknjohcekaa.dS s pre val):=by
 refine ⟨(h 0).enter,λw S π us x r o g vs h1 hg h2 h3 hS h4 h5=>?_⟩
 have hp:pre x:=Bk λhn=>by
  have:(Go.Proofs.Ytkkdpknjohcekaa.dS s pre val).fn x=none:=Ak hn
  rw [this] at h5;cases h5
 have hv:(Go.Proofs.Ytkkdpknjohcekaa.dS s pre val).fn x=some (val x):=Ab hp
 rw [hv] at h5
 exact (h (μ x+1)).calls w S π us x r o g vs h1 hg h2 h3 hS h4 ((Ab ⟨hp,Nat.lt_succ_self _⟩).trans h5)
theorem Da.toO {w:World} {S:Nat->Prop} {e:Ty} {v:Value} {xs:List e.den} (h:Da w S (.slice e) v xs) (Ig:xs≠ []):Da w S (.oslice e) v (some xs):=by
 obtain ⟨cs,hc,rfl⟩:=h
 simp only [Cells] at hc
 obtain ⟨a,len,cap,rfl,h1,h2,h3⟩:=hc
 rcases h3 with h3|⟨g,o,rfl,h4⟩
 ·exact absurd h3 Ig
 ·exact ⟨_, .inr ⟨xs,_,len,cap,rfl,rfl,h1,h2, .inr ⟨g,o,rfl,h4⟩⟩,rfl⟩
theorem Sound.toO {P:Program} {f:FuncId} {arg e:Ty} {fresh:Bool} {pre jt:arg.den->Prop} {val:arg.den->(Ty.slice e).den} (h:Sound P f (Go.Proofs.Ytkkdpknjohcekaa.Ht arg (.slice e) false fresh pre val)) (hp: ∀x,jt x->pre x/\val x≠ []):
  Sound P f (Go.Proofs.Ytkkdpknjohcekaa.Ht arg (.oslice e) false fresh jt (λx=>some (val x))):=by
 refine ⟨h.enter,λw S vs x y h1 h2 h3=>?_⟩
 have du:jt x:=Bk λhn=>by
  have:(Go.Proofs.Ytkkdpknjohcekaa.Ht arg (.oslice e) false fresh jt (λx=>some (val x))).fn x=none:=Ak hn
  rw [this] at h3;cases h3
 have hv:(Go.Proofs.Ytkkdpknjohcekaa.Ht arg (.oslice e) false fresh jt (λx=>some (val x))).fn x=some (some (val x)):=Ab du
 rw [hv] at h3
 have h3:=Bd h3
 subst h3
 refine Calls.mono (h.calls w S vs x (val x) h1 h2 (Ab (hp x du).1)) λe' w' hr=>?_
 obtain ⟨v,g1,g2,g3⟩:=hr
 exact ⟨v,g1,g2,Da.toO g3 (hp x du).2⟩
theorem Da.told {w:World} {S:Nat->Prop} {e:Ty} {v:Value} {xs:List e.den} (h:Da w S (.slice e) v xs): ∃o:Option (List e.den),Da w S (.oslice e) v o/\o.getD []=xs:=by
 obtain ⟨cs,hc,rfl⟩:=h
 simp only [Cells] at hc
 obtain ⟨a,len,cap,rfl,h1,h2,h3⟩:=hc
 cases a with
 |none=>
  rcases h3 with rfl|⟨g,o,h,_⟩
  ·exact ⟨none,⟨_, .inl ⟨rfl,cap,by rw [h1];rfl⟩,rfl⟩,rfl⟩
  ·cases h
 |some ad=>
  refine ⟨some xs,⟨_, .inr ⟨xs,ad,len,cap,rfl,rfl,h1,h2,h3.imp id λ⟨g,o,h,h4⟩=>⟨g,o,Bd h,h4⟩⟩,rfl⟩,rfl⟩
theorem Ci.ofO {P:Program} {f:FuncId} {sh:List (Option Nat)} {e:Ty} {ins:List (Bool×CK)} {Gl:Bool} {rsh:List (Option Nat)} {outs:List CK}
  {pre:Ins.den ((false, .Fe (.oslice e))::ins)->Prop} {val:Ins.den ((false, .Fe (.oslice e))::ins)->CKs.den outs×IOs.den ins} {jt:Ins.den ((false, .Fe (.slice e))::ins)->Prop} {vE:Ins.den ((false, .Fe (.slice e))::ins)->CKs.den outs×IOs.den ins}
  (h:Ci P f (Go.Proofs.Ytkkdpknjohcekaa.ir sh ((false, .Fe (.oslice e))::ins) Gl rsh outs pre val))
  (hp: ∀(o:Option (List e.den)) (r:Ins.den ins),jt (o.getD [],r)->pre (o,r)/\val (o,r)=vE (o.getD [],r)):Ci P f (Go.Proofs.Ytkkdpknjohcekaa.ir sh ((false, .Fe (.slice e))::ins) Gl rsh outs jt vE):=by
 refine ⟨h.enter,λw S π us x r o g vs h1 hg h2 h3 hS h4 h5=>?_⟩
 obtain ⟨xs,rest⟩:=x
 cases us with
 |nil=>exact h2.elim
 |cons u us=>
  obtain ⟨⟨h6,h7⟩,h8⟩:=h2
  obtain ⟨ox,h9,rfl⟩:=h7.told
  have du:jt (ox.getD [],rest):=Bk λhn=>by
   have:(Go.Proofs.Ytkkdpknjohcekaa.ir sh ((false, .Fe (.slice e))::ins) Gl rsh outs jt vE).fn (ox.getD [],rest)=none:=Ak hn
   rw [this] at h5;cases h5
  obtain ⟨k1,k2⟩:=hp ox rest du
  have hv:(Go.Proofs.Ytkkdpknjohcekaa.ir sh ((false, .Fe (.slice e))::ins) Gl rsh outs jt vE).fn (ox.getD [],rest)=some (vE (ox.getD [],rest)):=Ab du
  rw [hv] at h5
  have h5:=Bd h5
  exact h.calls w S π (u::us) (ox,rest) r o g vs h1 hg ⟨⟨h6,h9⟩,h8⟩ h3 hS h4 ((Ab k1).trans (by rw [k2];exact Cx some h5))
theorem Br.of {b:Bool} {A B:Prop} (t:b=true->A) (f:b=false->B):Br b A B:=⟨t,f⟩
theorem Br.dec {p:Prop} [Decidable p] {A B:Prop} (t:p->A) (f: ¬p->B):Br (decide p) A B:=⟨λh=>t (Gw h),λh=>f (of_decide_eq_false h)⟩
theorem Cj {V:Type} {step:V->(V->Prop)->Prop} {v0:V} (len:Nat) (Ss:V->Int) (R:Nat->V->Prop) (h0:Ss v0=0) (hR:R 0 v0)
  (hs: ∀(j:Nat) (v:V) (K:V->Prop),j<=len->Ss v=j->R j v->(j<len-> ∀v',Ss v'=((j+1:Nat):Int)->R (j+1) v'->K v')->step v K):Ev step v0:=by
 refine ⟨λv=> ∃j:Nat,j<=len/\Ss v=j/\R j v,λv=>len-(Ss v).toNat,⟨0,Jx _,h0,hR⟩,?_⟩
 rintro v ⟨j,h1,h2,h3⟩
 refine hs j v _ h1 h2 h3 λhl v' h4 h5=>⟨⟨j+1,hl,h4,h5⟩,?_⟩
 rw [h2,h4]
 simp only [Ac]
 omega
theorem Dq {n:Int} (h1: -9223372036854775808<=n) (h2:n<9223372036854775808):IntKind.i64.wrap n=n:=by rw [IntKind.wrap_i64];omega
theorem Cd {n:Nat} (h2:n<9223372036854775807):IntKind.i64.wrap ((n:Int)+1)=((n+1:Nat):Int):=by
 rw [Dq (by omega) (by omega)];rfl
theorem Dk {α:Type} {xs:List α} {j:Nat} (h:j<xs.length):idx xs (j:Int)=some xs[j]:=by
 unfold idx
 rw [Ab (by omega),Ac,Ad h]
end Go.Proofs.Ytkkdpknjohcekaa
