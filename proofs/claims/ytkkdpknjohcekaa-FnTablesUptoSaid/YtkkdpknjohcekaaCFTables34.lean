/-
  Part 35 of the proof that the statement FnTables holds.
-/
import Derived.Test.YtkkdpknjohcekaaCFTables33
import Derived.Laws.BitsLemmas
namespace Go.Proofs.Ytkkdpknjohcekaa
open Go.RowKit
instance:Coe Spec pv:=⟨.q⟩
instance:Coe MSpec pv:=⟨.m⟩
def look:List (FuncId×pv)->Env
 | [],_=>none
 |(g,s)::r,f=>if g=f then some s else look r f
theorem Bt {P:Program} :Kd P (look []):= λ_ _ h=>by cases h
theorem Ax {P:Program} {g:FuncId} {s:Spec} {r:List (FuncId×pv)} (h:Sound P g s) (hr:Kd P (look r)):Kd P (look ((g, .q s)::r)):=by
 intro f t hf
 simp only [look] at hf
 split at hf
 ·rename_i hg
  injection hf with hf
  rw [<-hg,<-hf]
  exact h
 ·exact hr f t hf
theorem Fz {P:Program} {g:FuncId} {s:MSpec} {r:List (FuncId×pv)} (h:Dx P g s) (hr:Kd P (look r)):Kd P (look ((g, .m s)::r)):=by
 intro f t hf
 simp only [look] at hf
 split at hf
 ·rename_i hg
  injection hf with hf
  rw [<-hg,<-hf]
  exact h
 ·exact hr f t hf
theorem Ed.flags {P:Program} {T:Tab} (h:Ed P T) (f t:Bool):Ed P {T with sv:=f,AQ:=t} :=
 ⟨h.fill,λa b oB=>⟨(h.ty a b oB).info,(h.ty a b oB).desc⟩,h.elem,h.mapOf,h.off⟩
theorem Ed.vh {P:Program} {T:Tab} (h:Ed P T) (r:List Nat):Ed P {T with marks:=r} :=
 ⟨h.fill,λa b oB=>⟨(h.ty a b oB).info,(h.ty a b oB).desc⟩,h.elem,h.mapOf,h.off⟩
noncomputable def Hq (arg res:Ty) (Hx fresh:Bool) (pre:arg.den->Prop) (val:arg.den->res.den):Spec:=
 {arg:=arg,res:=res,Hx:=Hx,fresh:=fresh,fn:= λx=>open Classical in if pre x then some (val x) else none}
theorem Sound.Hq {P:Program} {T:Tab} {Γ:Env} (hT:Ed P T) (Nt:Kd P Γ) (hm:P.follows .mixedOrders=true) {f:FuncId} {fn:Func} (hf:P.funcs[f]?=some fn) (hn:(fn.name== "runtime.NumGoroutine")=false)
  (hb:fn.body.isNone=false) {arg res:Ty} {Hx fresh:Bool} {pre:arg.den->Prop} {val:arg.den->res.den} (h: ∀x,pre x->fnW T Γ (Go.Proofs.Ytkkdpknjohcekaa.Hq arg res Hx fresh pre val) fn x (λz=>z=val x)):Sound P f (Go.Proofs.Ytkkdpknjohcekaa.Hq arg res Hx fresh pre val):=
 Sound.ofW hT Nt hm hf hn hb _ λx y hy=>by
  have hp:pre x:=Cs λhn=>by
   have:(Go.Proofs.Ytkkdpknjohcekaa.Hq arg res Hx fresh pre val).fn x=none:=Al hn
   rw [this] at hy
   cases hy
  have hv:(Go.Proofs.Ytkkdpknjohcekaa.Hq arg res Hx fresh pre val).fn x=some (val x):=Ab hp
  rw [hv] at hy
  injection hy with hy
  rw [<-hy]
  exact h x hp
noncomputable def iw (Jn:List (Option Nat)) (ins:List (Bool×CK)) (Hx:Bool) (Im:List (Option Nat)) (outs:List CK) (pre:Ins.den ins->Prop) (val:Ins.den ins->CKs.den outs×IOs.den ins):MSpec:=
 {Jn:=Jn,ins:=ins,Hx:=Hx,Im:=Im,outs:=outs,fn:= λx=>open Classical in if pre x then some (val x) else none}
theorem Dx.iw {P:Program} {T:Tab} {Γ:Env} (hT:Ed P T) (Nt:Kd P Γ) (hm:P.follows .mixedOrders=true) {f:FuncId} {fn:Func} (hf:P.funcs[f]?=some fn) (hn:(fn.name== "runtime.NumGoroutine")=false)
  (hb:fn.body.isNone=false) {Jn:List (Option Nat)} {ins:List (Bool×CK)} {Hx:Bool} {Im:List (Option Nat)} {outs:List CK} {pre:Ins.den ins->Prop} {val:Ins.den ins->CKs.den outs×IOs.den ins}
  (h: ∀x,pre x->fnMW T Γ (Go.Proofs.Ytkkdpknjohcekaa.iw Jn ins Hx Im outs pre val) fn x (λz=>z=val x)):Dx P f (Go.Proofs.Ytkkdpknjohcekaa.iw Jn ins Hx Im outs pre val):=
 Dx.ofW hT Nt hm hf hn hb _ λx y hy=>by
  have hp:pre x:=Cs λhn=>by
   have:(Go.Proofs.Ytkkdpknjohcekaa.iw Jn ins Hx Im outs pre val).fn x=none:=Al hn
   rw [this] at hy
   cases hy
  have hv:(Go.Proofs.Ytkkdpknjohcekaa.iw Jn ins Hx Im outs pre val).fn x=some (val x):=Ab hp
  rw [hv] at hy
  injection hy with hy
  rw [<-hy]
  exact h x hp
noncomputable def wF (s:MSpec) (pre:Ins.den s.ins->Prop) (val:Ins.den s.ins->CKs.den s.outs×IOs.den s.ins):MSpec:= {s with fn:= λx=>open Classical in if pre x then some (val x) else none}
theorem Dx.wF {P:Program} {T:Tab} {Γ:Env} (hT:Ed P T) (Nt:Kd P Γ) (hm:P.follows .mixedOrders=true) {f:FuncId} {fn:Func} (hf:P.funcs[f]?=some fn) (hn:(fn.name== "runtime.NumGoroutine")=false)
  (hb:fn.body.isNone=false) {s:MSpec} {pre:Ins.den s.ins->Prop} {val:Ins.den s.ins->CKs.den s.outs×IOs.den s.ins}
  (h: ∀x,pre x->fnMW T Γ (Go.Proofs.Ytkkdpknjohcekaa.wF s pre val) fn x (λz=>z=val x)):Dx P f (Go.Proofs.Ytkkdpknjohcekaa.wF s pre val):=
 Dx.ofW hT Nt hm hf hn hb _ λx y hy=>by
  have hp:pre x:=Cs λhn=>by
   have:(Go.Proofs.Ytkkdpknjohcekaa.wF s pre val).fn x=none:=Al hn
   rw [this] at hy
   cases hy
  have hv:(Go.Proofs.Ytkkdpknjohcekaa.wF s pre val).fn x=some (val x):=Ab hp
  rw [hv] at hy
  injection hy with hy
  rw [<-hy]
  exact h x hp
theorem Df.told {w:World} {S:Nat->Prop} {e:Ty} {v:Value} {xs:List e.den} (h:Df w S (.slice e) v xs): ∃o:Option (List e.den),Df w S (.oslice e) v o/\o.getD []=xs:=by
 obtain ⟨cs,hc,rfl⟩:=h
 simp only [Cells] at hc
 obtain ⟨a,len,cap,rfl,h1,h2,h3⟩:=hc
 cases a with
 |none=>
  rcases h3 with rfl|⟨g,o,h,_⟩
  ·exact ⟨none,⟨_, .inl ⟨rfl,cap,by rw [h1];rfl⟩,rfl⟩,rfl⟩
  ·cases h
 |some ad=>
  refine ⟨some xs,⟨_, .inr ⟨xs,ad,len,cap,rfl,rfl,h1,h2,h3.imp id λ⟨g,o,h,h4⟩=>⟨g,o,Ba h,h4⟩⟩,rfl⟩,rfl⟩
theorem Dx.ofO {P:Program} {f:FuncId} {sh:List (Option Nat)} {e:Ty} {ins:List (Bool×CK)} {Hx:Bool} {rsh:List (Option Nat)} {outs:List CK}
  {pre:Ins.den ((false, .Fp (.oslice e))::ins)->Prop} {val:Ins.den ((false, .Fp (.oslice e))::ins)->CKs.den outs×IOs.den ins} {RX:Ins.den ((false, .Fp (.slice e))::ins)->Prop} {TB:Ins.den ((false, .Fp (.slice e))::ins)->CKs.den outs×IOs.den ins}
  (h:Dx P f (Go.Proofs.Ytkkdpknjohcekaa.iw sh ((false, .Fp (.oslice e))::ins) Hx rsh outs pre val))
  (hp: ∀(o:Option (List e.den)) (r:Ins.den ins),RX (o.getD [],r)->pre (o,r)/\val (o,r)=TB (o.getD [],r)):Dx P f (Go.Proofs.Ytkkdpknjohcekaa.iw sh ((false, .Fp (.slice e))::ins) Hx rsh outs RX TB):=by
 refine ⟨h.enter,λw S π us x r o g vs h1 hg h2 h3 hS h4 h5=>?_⟩
 obtain ⟨xs,rest⟩:=x
 cases us with
 |nil=>exact h2.elim
 |cons u us=>
  obtain ⟨⟨h6,h7⟩,h8⟩:=h2
  obtain ⟨ox,h9,rfl⟩:=h7.told
  have Adv:RX (ox.getD [],rest):=Cs λhn=>by
   have:(Go.Proofs.Ytkkdpknjohcekaa.iw sh ((false, .Fp (.slice e))::ins) Hx rsh outs RX TB).fn (ox.getD [],rest)=none:=Al hn
   rw [this] at h5;cases h5
  obtain ⟨k1,k2⟩:=hp ox rest Adv
  have hv:(Go.Proofs.Ytkkdpknjohcekaa.iw sh ((false, .Fp (.slice e))::ins) Hx rsh outs RX TB).fn (ox.getD [],rest)=some (TB (ox.getD [],rest)):=Ab Adv
  rw [hv] at h5
  have h5:=Ba h5
  exact h.calls w S π (u::us) (ox,rest) r o g vs h1 hg ⟨⟨h6,h9⟩,h8⟩ h3 hS h4 ((Ab k1).trans (by rw [k2];exact Hv some h5))
theorem Br.of {b:Bool} {A B:Prop} (t:b=true->A) (f:b=false->B):Br b A B:=⟨t,f⟩
theorem Br.dec {p:Prop} [Decidable p] {A B:Prop} (t:p->A) (f: ¬p->B):Br (decide p) A B:=⟨λh=>t (Hy h),λh=>f (of_decide_eq_false h)⟩
theorem Cg {V:Type} {step:V->(V->Prop)->Prop} {v0:V} (len:Nat) (Yc:V->Int) (R:Nat->V->Prop) (h0:Yc v0=0) (hR:R 0 v0)
  (hs: ∀(j:Nat) (v:V) (K:V->Prop),j<=len->Yc v=j->R j v->(j<len-> ∀v',Yc v'=((j+1:Nat):Int)->R (j+1) v'->K v')->step v K):Em step v0:=by
 refine ⟨λv=> ∃j:Nat,j<=len/\Yc v=j/\R j v,λv=>len-(Yc v).toNat,⟨0,Mz _,h0,hR⟩,?_⟩
 rintro v ⟨j,h1,h2,h3⟩
 refine hs j v _ h1 h2 h3 λhl v' h4 h5=>⟨⟨j+1,hl,h4,h5⟩,?_⟩
 rw [h2,h4]
 simp only [Ay]
 omega
theorem Cq {n:Int} (h1: -9223372036854775808<=n) (h2:n<9223372036854775808):IntKind.i64.wrap n=n:=by rw [IntKind.wrap_i64];omega
theorem Cm {n:Nat} (h2:n<9223372036854775807):IntKind.i64.wrap ((n:Int)+1)=((n+1:Nat):Int):=by
 rw [Cq (by omega) (by omega)];rfl
theorem Cc {α:Type} {xs:List α} {j:Nat} (h:j<xs.length):idx xs (j:Int)=some xs[j]:=by
 unfold idx
 rw [Ab (by omega),Ay,Ac h]
end Go.Proofs.Ytkkdpknjohcekaa
