/-
  Part 35 of the proof that the statement FnSymmetries holds.
-/
import Derived.Test.YtkkdpknjohcekaaCFSymmetries33
import Derived.Laws.BitsLemmas
namespace Go.Proofs.Ytkkdpknjohcekaa
open Go.RowKit
instance:Coe Spec iB:=⟨.q⟩
instance:Coe MSpec iB:=⟨.m⟩
def look:List (FuncId×iB)->Env
 | [],_=>none
 |(g,s)::r,f=>if g=f then some s else look r f
theorem Bt {P:Program} :Ju P (look []):= λ_ _ h=>by cases h
theorem Au {P:Program} {g:FuncId} {s:Spec} {r:List (FuncId×iB)} (h:Sound P g s) (hr:Ju P (look r)):Ju P (look ((g, .q s)::r)):=by
 intro f t hf
 simp only [look] at hf
 split at hf
 ·rename_i hg
  injection hf with hf
  rw [<-hg,<-hf]
  exact h
 ·exact hr f t hf
theorem Hl {P:Program} {g:FuncId} {s:MSpec} {r:List (FuncId×iB)} (h:Dx P g s) (hr:Ju P (look r)):Ju P (look ((g, .m s)::r)):=by
 intro f t hf
 simp only [look] at hf
 split at hf
 ·rename_i hg
  injection hf with hf
  rw [<-hg,<-hf]
  exact h
 ·exact hr f t hf
theorem NS {P:Program} {g:FuncId} {s:Spec} {m:MSpec} {r:List (FuncId×iB)} (h:Sound P g s) (h':Dx P g m) (hr:Ju P (look r)):Ju P (look ((g, .b s m)::r)):=by
 intro f t hf
 simp only [look] at hf
 split at hf
 ·rename_i hg
  injection hf with hf
  rw [<-hg,<-hf]
  exact ⟨h,h'⟩
 ·exact hr f t hf
theorem Du.flags {P:Program} {T:Tab} (h:Du P T) (f t:Bool):Du P {T with rU:=f,AA:=t} :=
 ⟨h.fill,λa b ou=>⟨(h.ty a b ou).info,(h.ty a b ou).desc⟩,h.elem,h.mapOf,h.off⟩
theorem Du.uK {P:Program} {T:Tab} (h:Du P T) (r:List Nat):Du P {T with marks:=r} :=
 ⟨h.fill,λa b ou=>⟨(h.ty a b ou).info,(h.ty a b ou).desc⟩,h.elem,h.mapOf,h.off⟩
theorem Du.MC {P:Program} {T:Tab} (h:Du P T) (l:List Nat):Du P {T with parts:=l} :=
 ⟨h.fill,λa b ou=>⟨(h.ty a b ou).info,(h.ty a b ou).desc⟩,h.elem,h.mapOf,h.off⟩
noncomputable def Hg (arg res:Ty) (Hc fresh:Bool) (pre:arg.den->Prop) (val:arg.den->res.den):Spec:=
 {arg:=arg,res:=res,Hc:=Hc,fresh:=fresh,fn:= λx=>open Classical in if pre x then some (val x) else none}
theorem Sound.Hg {P:Program} {T:Tab} {Γ:Env} (hT:Du P T) (Of:Ju P Γ) (hm:P.follows .mixedOrders=true) {f:FuncId} {fn:Func} (hf:P.funcs[f]?=some fn) (hn:(fn.name== "runtime.NumGoroutine")=false)
  (hb:fn.body.isNone=false) {arg res:Ty} {Hc fresh:Bool} {pre:arg.den->Prop} {val:arg.den->res.den} (h: ∀x,pre x->fnW T Γ (Go.Proofs.Ytkkdpknjohcekaa.Hg arg res Hc fresh pre val) fn x (λz=>z=val x)):Sound P f (Go.Proofs.Ytkkdpknjohcekaa.Hg arg res Hc fresh pre val):=
 Sound.ofW hT Of hm hf hn hb _ λx y hy=>by
  have hp:pre x:=Cd λhn=>by
   have:(Go.Proofs.Ytkkdpknjohcekaa.Hg arg res Hc fresh pre val).fn x=none:=Ai hn
   rw [this] at hy
   cases hy
  have hv:(Go.Proofs.Ytkkdpknjohcekaa.Hg arg res Hc fresh pre val).fn x=some (val x):=Ab hp
  rw [hv] at hy
  injection hy with hy
  rw [<-hy]
  exact h x hp
noncomputable def fa (Ke:List (Option Nat)) (ins:List (Bool×CK)) (Hc:Bool) (Iw:List (Option Nat)) (outs:List CK) (pre:Ins.den ins->Prop) (val:Ins.den ins->CKs.den outs×IOs.den ins):MSpec:=
 {Ke:=Ke,ins:=ins,Hc:=Hc,Iw:=Iw,outs:=outs,fn:= λx=>open Classical in if pre x then some (val x) else none}
theorem Dx.fa {P:Program} {T:Tab} {Γ:Env} (hT:Du P T) (Of:Ju P Γ) (hm:P.follows .mixedOrders=true) {f:FuncId} {fn:Func} (hf:P.funcs[f]?=some fn) (hn:(fn.name== "runtime.NumGoroutine")=false)
  (hb:fn.body.isNone=false) {Ke:List (Option Nat)} {ins:List (Bool×CK)} {Hc:Bool} {Iw:List (Option Nat)} {outs:List CK} {pre:Ins.den ins->Prop} {val:Ins.den ins->CKs.den outs×IOs.den ins}
  (h: ∀x,pre x->fnMW T Γ (Go.Proofs.Ytkkdpknjohcekaa.fa Ke ins Hc Iw outs pre val) fn x (λz=>z=val x)):Dx P f (Go.Proofs.Ytkkdpknjohcekaa.fa Ke ins Hc Iw outs pre val):=
 Dx.ofW hT Of hm hf hn hb _ λx y hy=>by
  have hp:pre x:=Cd λhn=>by
   have:(Go.Proofs.Ytkkdpknjohcekaa.fa Ke ins Hc Iw outs pre val).fn x=none:=Ai hn
   rw [this] at hy
   cases hy
  have hv:(Go.Proofs.Ytkkdpknjohcekaa.fa Ke ins Hc Iw outs pre val).fn x=some (val x):=Ab hp
  rw [hv] at hy
  injection hy with hy
  rw [<-hy]
  exact h x hp
noncomputable def zb (s:MSpec) (pre:Ins.den s.ins->Prop) (val:Ins.den s.ins->CKs.den s.outs×IOs.den s.ins):MSpec:= {s with fn:= λx=>open Classical in if pre x then some (val x) else none}
theorem Dx.zb {P:Program} {T:Tab} {Γ:Env} (hT:Du P T) (Of:Ju P Γ) (hm:P.follows .mixedOrders=true) {f:FuncId} {fn:Func} (hf:P.funcs[f]?=some fn) (hn:(fn.name== "runtime.NumGoroutine")=false)
  (hb:fn.body.isNone=false) {s:MSpec} {pre:Ins.den s.ins->Prop} {val:Ins.den s.ins->CKs.den s.outs×IOs.den s.ins}
  (h: ∀x,pre x->fnMW T Γ (Go.Proofs.Ytkkdpknjohcekaa.zb s pre val) fn x (λz=>z=val x)):Dx P f (Go.Proofs.Ytkkdpknjohcekaa.zb s pre val):=
 Dx.ofW hT Of hm hf hn hb _ λx y hy=>by
  have hp:pre x:=Cd λhn=>by
   have:(Go.Proofs.Ytkkdpknjohcekaa.zb s pre val).fn x=none:=Ai hn
   rw [this] at hy
   cases hy
  have hv:(Go.Proofs.Ytkkdpknjohcekaa.zb s pre val).fn x=some (val x):=Ab hp
  rw [hv] at hy
  injection hy with hy
  rw [<-hy]
  exact h x hp
theorem Cz.told {w:World} {S:Nat->Prop} {e:Ty} {v:Value} {xs:List e.den} (h:Cz w S (.slice e) v xs): ∃o:Option (List e.den),Cz w S (.oslice e) v o/\o.getD []=xs:=by
 obtain ⟨cs,hc,rfl⟩:=h
 simp only [Cells] at hc
 obtain ⟨a,len,cap,rfl,h1,h2,h3⟩:=hc
 cases a with
 |none=>
  rcases h3 with rfl|⟨g,o,h,_⟩
  ·exact ⟨none,⟨_, .inl ⟨rfl,cap,by rw [h1];rfl⟩,rfl⟩,rfl⟩
  ·cases h
 |some ad=>
  refine ⟨some xs,⟨_, .inr ⟨xs,ad,len,cap,rfl,rfl,h1,h2,h3.imp id λ⟨g,o,h,h4⟩=>⟨g,o,Aw h,h4⟩⟩,rfl⟩,rfl⟩
theorem Dx.ofO {P:Program} {f:FuncId} {sh:List (Option Nat)} {e:Ty} {ins:List (Bool×CK)} {Hc:Bool} {rsh:List (Option Nat)} {outs:List CK}
  {pre:Ins.den ((false, .Gb (.oslice e))::ins)->Prop} {val:Ins.den ((false, .Gb (.oslice e))::ins)->CKs.den outs×IOs.den ins} {qD:Ins.den ((false, .Gb (.slice e))::ins)->Prop} {ry:Ins.den ((false, .Gb (.slice e))::ins)->CKs.den outs×IOs.den ins}
  (h:Dx P f (Go.Proofs.Ytkkdpknjohcekaa.fa sh ((false, .Gb (.oslice e))::ins) Hc rsh outs pre val))
  (hp: ∀(o:Option (List e.den)) (r:Ins.den ins),qD (o.getD [],r)->pre (o,r)/\val (o,r)=ry (o.getD [],r)):Dx P f (Go.Proofs.Ytkkdpknjohcekaa.fa sh ((false, .Gb (.slice e))::ins) Hc rsh outs qD ry):=by
 refine ⟨h.enter,λw S π us x r o g vs h1 hg h2 h3 hS h4 h5=>?_⟩
 obtain ⟨xs,rest⟩:=x
 cases us with
 |nil=>exact h2.elim
 |cons u us=>
  obtain ⟨⟨h6,h7⟩,h8⟩:=h2
  obtain ⟨ox,h9,rfl⟩:=h7.told
  have OS:qD (ox.getD [],rest):=Cd λhn=>by
   have:(Go.Proofs.Ytkkdpknjohcekaa.fa sh ((false, .Gb (.slice e))::ins) Hc rsh outs qD ry).fn (ox.getD [],rest)=none:=Ai hn
   rw [this] at h5;cases h5
  obtain ⟨k1,k2⟩:=hp ox rest OS
  have hv:(Go.Proofs.Ytkkdpknjohcekaa.fa sh ((false, .Gb (.slice e))::ins) Hc rsh outs qD ry).fn (ox.getD [],rest)=some (ry (ox.getD [],rest)):=Ab OS
  rw [hv] at h5
  have h5:=Aw h5
  exact h.calls w S π (u::us) (ox,rest) r o g vs h1 hg ⟨⟨h6,h9⟩,h8⟩ h3 hS h4 ((Ab k1).trans (by rw [k2];exact Jt some h5))
theorem Br.of {b:Bool} {A B:Prop} (t:b=true->A) (f:b=false->B):Br b A B:=⟨t,f⟩
theorem Br.dec {p:Prop} [Decidable p] {A B:Prop} (t:p->A) (f: ¬p->B):Br (decide p) A B:=⟨λh=>t (Ff h),λh=>f (of_decide_eq_false h)⟩
theorem Cu {V:Type} {step:V->(V->Prop)->Prop} {v0:V} (len:Nat) (Zg:V->Int) (R:Nat->V->Prop) (h0:Zg v0=0) (hR:R 0 v0)
  (hs: ∀(j:Nat) (v:V) (K:V->Prop),j<=len->Zg v=j->R j v->(j<len-> ∀v',Zg v'=((j+1:Nat):Int)->R (j+1) v'->K v')->step v K):Ek step v0:=by
 refine ⟨λv=> ∃j:Nat,j<=len/\Zg v=j/\R j v,λv=>len-(Zg v).toNat,⟨0,Ni _,h0,hR⟩,?_⟩
 rintro v ⟨j,h1,h2,h3⟩
 refine hs j v _ h1 h2 h3 λhl v' h4 h5=>⟨⟨j+1,hl,h4,h5⟩,?_⟩
 rw [h2,h4]
 simp only [Bh]
 omega
theorem Cs {n:Int} (h1: -9223372036854775808<=n) (h2:n<9223372036854775808):IntKind.i64.wrap n=n:=by rw [IntKind.wrap_i64];omega
theorem Dw {n:Nat} (h2:n<9223372036854775807):IntKind.i64.wrap ((n:Int)+1)=((n+1:Nat):Int):=by
 rw [Cs (by omega) (by omega)];rfl
theorem Df {α:Type} {xs:List α} {j:Nat} (h:j<xs.length):idx xs (j:Int)=some xs[j]:=by
 unfold idx
 rw [Ab (by omega),Bh,Ac h]
end Go.Proofs.Ytkkdpknjohcekaa
