/-
  Part 35 of the proof that the statement FnExactProvesNoSolutionWithin holds.
-/
import Derived.Test.YtfolipnappekaaaGreatCProvesNoSolutionWithin33
import Derived.Laws.BitsLemmas
namespace Go.Proofs.YtfolipnappekaaaGreat
open Go.RowKit
instance:Coe Spec Ql:=⟨.q⟩
instance:Coe MSpec Ql:=⟨.m⟩
def look:List (FuncId×Ql)->Env
 | [],_=>none
 |(g,s)::r,f=>if g=f then some s else look r f
theorem Aj {P:Program} :Gq P (look []):= λ_ _ h=>by cases h
theorem Ae {P:Program} {g:FuncId} {s:Spec} {r:List (FuncId×Ql)} (h:Sound P g s) (hr:Gq P (look r)):Gq P (look ((g, .q s)::r)):=by
 intro f t hf
 simp only [look] at hf
 split at hf
 ·rename_i hg
  injection hf with hf
  rw [<-hg,<-hf]
  exact h
 ·exact hr f t hf
theorem Er {P:Program} {g:FuncId} {s:MSpec} {r:List (FuncId×Ql)} (h:Ay P g s) (hr:Gq P (look r)):Gq P (look ((g, .m s)::r)):=by
 intro f t hf
 simp only [look] at hf
 split at hf
 ·rename_i hg
  injection hf with hf
  rw [<-hg,<-hf]
  exact h
 ·exact hr f t hf
theorem By.flags {P:Program} {T:Tab} (h:By P T) (f t:Bool):By P {T with pK:=f,xK:=t} :=
 ⟨h.fill,λa b iL=>⟨(h.ty a b iL).info,(h.ty a b iL).desc⟩,h.elem,h.mapOf,h.off⟩
theorem By.fV {P:Program} {T:Tab} (h:By P T) (r:List Nat):By P {T with marks:=r} :=
 ⟨h.fill,λa b iL=>⟨(h.ty a b iL).info,(h.ty a b iL).desc⟩,h.elem,h.mapOf,h.off⟩
noncomputable def Cg (arg res:Ty) (Ct fresh:Bool) (pre:arg.den->Prop) (val:arg.den->res.den):Spec:=
 {arg:=arg,res:=res,Ct:=Ct,fresh:=fresh,fn:= λx=>open Classical in if pre x then some (val x) else none}
theorem Sound.Cg {P:Program} {T:Tab} {Γ:Env} (hT:By P T) (Kn:Gq P Γ) (hm:P.follows .mixedOrders=true) {f:FuncId} {fn:Func} (hf:P.funcs[f]?=some fn) (hn:(fn.name== "runtime.NumGoroutine")=false)
  (hb:fn.body.isNone=false) {arg res:Ty} {Ct fresh:Bool} {pre:arg.den->Prop} {val:arg.den->res.den} (h: ∀x,pre x->fnW T Γ (Go.Proofs.YtfolipnappekaaaGreat.Cg arg res Ct fresh pre val) fn x (λz=>z=val x)):Sound P f (Go.Proofs.YtfolipnappekaaaGreat.Cg arg res Ct fresh pre val):=
 Sound.ofW hT Kn hm hf hn hb _ λx y hy=>by
  have hp:pre x:=Classical.byContradiction λhn=>by
   have:(Go.Proofs.YtfolipnappekaaaGreat.Cg arg res Ct fresh pre val).fn x=none:=if_neg hn
   rw [this] at hy
   cases hy
  have hv:(Go.Proofs.YtfolipnappekaaaGreat.Cg arg res Ct fresh pre val).fn x=some (val x):=if_pos hp
  rw [hv] at hy
  injection hy with hy
  rw [<-hy]
  exact h x hp
noncomputable def jn (Eh:List (Option Nat)) (ins:List (Bool×CK)) (Ct:Bool) (Di:List (Option Nat)) (outs:List CK) (pre:Ins.den ins->Prop) (val:Ins.den ins->CKs.den outs×IOs.den ins):MSpec:=
 {Eh:=Eh,ins:=ins,Ct:=Ct,Di:=Di,outs:=outs,fn:= λx=>open Classical in if pre x then some (val x) else none}
theorem Ay.jn {P:Program} {T:Tab} {Γ:Env} (hT:By P T) (Kn:Gq P Γ) (hm:P.follows .mixedOrders=true) {f:FuncId} {fn:Func} (hf:P.funcs[f]?=some fn) (hn:(fn.name== "runtime.NumGoroutine")=false)
  (hb:fn.body.isNone=false) {Eh:List (Option Nat)} {ins:List (Bool×CK)} {Ct:Bool} {Di:List (Option Nat)} {outs:List CK} {pre:Ins.den ins->Prop} {val:Ins.den ins->CKs.den outs×IOs.den ins}
  (h: ∀x,pre x->fnMW T Γ (Go.Proofs.YtfolipnappekaaaGreat.jn Eh ins Ct Di outs pre val) fn x (λz=>z=val x)):Ay P f (Go.Proofs.YtfolipnappekaaaGreat.jn Eh ins Ct Di outs pre val):=
 Ay.ofW hT Kn hm hf hn hb _ λx y hy=>by
  have hp:pre x:=Classical.byContradiction λhn=>by
   have:(Go.Proofs.YtfolipnappekaaaGreat.jn Eh ins Ct Di outs pre val).fn x=none:=if_neg hn
   rw [this] at hy
   cases hy
  have hv:(Go.Proofs.YtfolipnappekaaaGreat.jn Eh ins Ct Di outs pre val).fn x=some (val x):=if_pos hp
  rw [hv] at hy
  injection hy with hy
  rw [<-hy]
  exact h x hp
noncomputable def fG (s:MSpec) (pre:Ins.den s.ins->Prop) (val:Ins.den s.ins->CKs.den s.outs×IOs.den s.ins):MSpec:= {s with fn:= λx=>open Classical in if pre x then some (val x) else none}
theorem Ay.fG {P:Program} {T:Tab} {Γ:Env} (hT:By P T) (Kn:Gq P Γ) (hm:P.follows .mixedOrders=true) {f:FuncId} {fn:Func} (hf:P.funcs[f]?=some fn) (hn:(fn.name== "runtime.NumGoroutine")=false)
  (hb:fn.body.isNone=false) {s:MSpec} {pre:Ins.den s.ins->Prop} {val:Ins.den s.ins->CKs.den s.outs×IOs.den s.ins}
  (h: ∀x,pre x->fnMW T Γ (Go.Proofs.YtfolipnappekaaaGreat.fG s pre val) fn x (λz=>z=val x)):Ay P f (Go.Proofs.YtfolipnappekaaaGreat.fG s pre val):=
 Ay.ofW hT Kn hm hf hn hb _ λx y hy=>by
  have hp:pre x:=Classical.byContradiction λhn=>by
   have:(Go.Proofs.YtfolipnappekaaaGreat.fG s pre val).fn x=none:=if_neg hn
   rw [this] at hy
   cases hy
  have hv:(Go.Proofs.YtfolipnappekaaaGreat.fG s pre val).fn x=some (val x):=if_pos hp
  rw [hv] at hy
  injection hy with hy
  rw [<-hy]
  exact h x hp
theorem Ay.TS {P:Program} {f:FuncId} {s:MSpec} {pre:Ins.den s.ins->Prop} {val:Ins.den s.ins->CKs.den s.outs×IOs.den s.ins} (μ:Ins.den s.ins->Nat)
  (h: ∀n,Ay P f (Go.Proofs.YtfolipnappekaaaGreat.fG s (λx=>pre x/\μ x<n) val)):Ay P f (Go.Proofs.YtfolipnappekaaaGreat.fG s pre val):=by
 refine ⟨(h 0).enter,λw S π us x r o g vs h1 hg h2 h3 hS h4 h5=>?_⟩
 have hp:pre x:=Classical.byContradiction λhn=>by
  have:(Go.Proofs.YtfolipnappekaaaGreat.fG s pre val).fn x=none:=if_neg hn
  rw [this] at h5;cases h5
 have hv:(Go.Proofs.YtfolipnappekaaaGreat.fG s pre val).fn x=some (val x):=if_pos hp
 rw [hv] at h5
 exact (h (μ x+1)).calls w S π us x r o g vs h1 hg h2 h3 hS h4 ((if_pos ⟨hp,Nat.lt_succ_self _⟩).trans h5)
theorem Bc.toO {w:World} {S:Nat->Prop} {e:Ty} {v:Value} {xs:List e.den} (h:Bc w S (.slice e) v xs) (Ek:xs≠ []):Bc w S (.oslice e) v (some xs):=by
 obtain ⟨cs,hc,rfl⟩:=h
 simp only [Cells] at hc
 obtain ⟨a,len,cap,rfl,h1,h2,h3⟩:=hc
 rcases h3 with h3|⟨g,o,rfl,h4⟩
 ·exact absurd h3 Ek
 ·exact ⟨_, .inr ⟨xs,_,len,cap,rfl,rfl,h1,h2, .inr ⟨g,o,rfl,h4⟩⟩,rfl⟩
theorem Sound.toO {P:Program} {f:FuncId} {arg e:Ty} {fresh:Bool} {pre ee:arg.den->Prop} {val:arg.den->(Ty.slice e).den} (h:Sound P f (Go.Proofs.YtfolipnappekaaaGreat.Cg arg (.slice e) false fresh pre val)) (hp: ∀x,ee x->pre x/\val x≠ []):
  Sound P f (Go.Proofs.YtfolipnappekaaaGreat.Cg arg (.oslice e) false fresh ee (λx=>some (val x))):=by
 refine ⟨h.enter,λw S vs x y h1 h2 h3=>?_⟩
 have a5:ee x:=Classical.byContradiction λhn=>by
  have:(Go.Proofs.YtfolipnappekaaaGreat.Cg arg (.oslice e) false fresh ee (λx=>some (val x))).fn x=none:=if_neg hn
  rw [this] at h3;cases h3
 have hv:(Go.Proofs.YtfolipnappekaaaGreat.Cg arg (.oslice e) false fresh ee (λx=>some (val x))).fn x=some (some (val x)):=if_pos a5
 rw [hv] at h3
 have h3:=Option.some.inj h3
 subst h3
 refine Calls.mono (h.calls w S vs x (val x) h1 h2 (if_pos (hp x a5).1)) λe' w' hr=>?_
 obtain ⟨v,g1,g2,g3⟩:=hr
 exact ⟨v,g1,g2,Bc.toO g3 (hp x a5).2⟩
theorem Bc.told {w:World} {S:Nat->Prop} {e:Ty} {v:Value} {xs:List e.den} (h:Bc w S (.slice e) v xs): ∃o:Option (List e.den),Bc w S (.oslice e) v o/\o.getD []=xs:=by
 obtain ⟨cs,hc,rfl⟩:=h
 simp only [Cells] at hc
 obtain ⟨a,len,cap,rfl,h1,h2,h3⟩:=hc
 cases a with
 |none=>
  rcases h3 with rfl|⟨g,o,h,_⟩
  ·exact ⟨none,⟨_, .inl ⟨rfl,cap,by rw [h1];rfl⟩,rfl⟩,rfl⟩
  ·cases h
 |some ad=>
  refine ⟨some xs,⟨_, .inr ⟨xs,ad,len,cap,rfl,rfl,h1,h2,h3.imp id λ⟨g,o,h,h4⟩=>⟨g,o,Option.some.inj h,h4⟩⟩,rfl⟩,rfl⟩
theorem Ay.ofO {P:Program} {f:FuncId} {sh:List (Option Nat)} {e:Ty} {ins:List (Bool×CK)} {Ct:Bool} {rsh:List (Option Nat)} {outs:List CK}
  {pre:Ins.den ((false, .Dm (.oslice e))::ins)->Prop} {val:Ins.den ((false, .Dm (.oslice e))::ins)->CKs.den outs×IOs.den ins} {ee:Ins.den ((false, .Dm (.slice e))::ins)->Prop} {rS:Ins.den ((false, .Dm (.slice e))::ins)->CKs.den outs×IOs.den ins}
  (h:Ay P f (Go.Proofs.YtfolipnappekaaaGreat.jn sh ((false, .Dm (.oslice e))::ins) Ct rsh outs pre val))
  (hp: ∀(o:Option (List e.den)) (r:Ins.den ins),ee (o.getD [],r)->pre (o,r)/\val (o,r)=rS (o.getD [],r)):Ay P f (Go.Proofs.YtfolipnappekaaaGreat.jn sh ((false, .Dm (.slice e))::ins) Ct rsh outs ee rS):=by
 refine ⟨h.enter,λw S π us x r o g vs h1 hg h2 h3 hS h4 h5=>?_⟩
 obtain ⟨xs,rest⟩:=x
 cases us with
 |nil=>exact h2.elim
 |cons u us=>
  obtain ⟨⟨h6,h7⟩,h8⟩:=h2
  obtain ⟨ox,h9,rfl⟩:=h7.told
  have a5:ee (ox.getD [],rest):=Classical.byContradiction λhn=>by
   have:(Go.Proofs.YtfolipnappekaaaGreat.jn sh ((false, .Dm (.slice e))::ins) Ct rsh outs ee rS).fn (ox.getD [],rest)=none:=if_neg hn
   rw [this] at h5;cases h5
  obtain ⟨k1,k2⟩:=hp ox rest a5
  have hv:(Go.Proofs.YtfolipnappekaaaGreat.jn sh ((false, .Dm (.slice e))::ins) Ct rsh outs ee rS).fn (ox.getD [],rest)=some (rS (ox.getD [],rest)):=if_pos a5
  rw [hv] at h5
  have h5:=Option.some.inj h5
  exact h.calls w S π (u::us) (ox,rest) r o g vs h1 hg ⟨⟨h6,h9⟩,h8⟩ h3 hS h4 ((if_pos k1).trans (by rw [k2];exact congrArg some h5))
theorem Sound.Ai7 {P:Program} {f:FuncId} {arg res:Ty} {Ct fresh:Bool} {pre:arg.den->Prop} {val:arg.den->res.den} (μ:arg.den->Nat)
  (h: ∀n,Sound P f (Go.Proofs.YtfolipnappekaaaGreat.Cg arg res Ct fresh (λx=>pre x/\μ x<n) val)):Sound P f (Go.Proofs.YtfolipnappekaaaGreat.Cg arg res Ct fresh pre val):=by
 refine ⟨(h 0).enter,λw S vs x y h1 h2 h3=>?_⟩
 have hp:pre x:=Classical.byContradiction λhn=>by
  have:(Go.Proofs.YtfolipnappekaaaGreat.Cg arg res Ct fresh pre val).fn x=none:=if_neg hn
  rw [this] at h3;cases h3
 have hv:(Go.Proofs.YtfolipnappekaaaGreat.Cg arg res Ct fresh pre val).fn x=some (val x):=if_pos hp
 rw [hv] at h3
 exact (h (μ x+1)).calls w S vs x y h1 h2 ((if_pos ⟨hp,Nat.lt_succ_self _⟩).trans h3)
theorem Ay.Ai7 {P:Program} {f:FuncId} {Eh:List (Option Nat)} {ins:List (Bool×CK)} {Ct:Bool} {Di:List (Option Nat)} {outs:List CK} {pre:Ins.den ins->Prop} {val:Ins.den ins->CKs.den outs×IOs.den ins} (μ:Ins.den ins->Nat)
  (h: ∀n,Ay P f (Go.Proofs.YtfolipnappekaaaGreat.jn Eh ins Ct Di outs (λx=>pre x/\μ x<n) val)):Ay P f (Go.Proofs.YtfolipnappekaaaGreat.jn Eh ins Ct Di outs pre val):=by
 refine ⟨(h 0).enter,λw S π us x r o g vs h1 hg h2 h3 hS h4 h5=>?_⟩
 have hp:pre x:=Classical.byContradiction λhn=>by
  have:(Go.Proofs.YtfolipnappekaaaGreat.jn Eh ins Ct Di outs pre val).fn x=none:=if_neg hn
  rw [this] at h5;cases h5
 have hv:(Go.Proofs.YtfolipnappekaaaGreat.jn Eh ins Ct Di outs pre val).fn x=some (val x):=if_pos hp
 rw [hv] at h5
 exact (h (μ x+1)).calls w S π us x r o g vs h1 hg h2 h3 hS h4 ((if_pos ⟨hp,Nat.lt_succ_self _⟩).trans h5)
theorem Br.of {b:Bool} {A B:Prop} (t:b=true->A) (f:b=false->B):Br b A B:=⟨t,f⟩
theorem Br.dec {p:Prop} [Decidable p] {A B:Prop} (t:p->A) (f: ¬p->B):Br (decide p) A B:=⟨λh=>t (of_decide_eq_true h),λh=>f (of_decide_eq_false h)⟩
theorem Ag {V:Type} {step:V->(V->Prop)->Prop} {v0:V} (len:Nat) (Vu:V->Int) (R:Nat->V->Prop) (h0:Vu v0=0) (hR:R 0 v0)
  (hs: ∀(j:Nat) (v:V) (K:V->Prop),j<=len->Vu v=j->R j v->(j<len-> ∀v',Vu v'=((j+1:Nat):Int)->R (j+1) v'->K v')->step v K):Bk step v0:=by
 refine ⟨λv=> ∃j:Nat,j<=len/\Vu v=j/\R j v,λv=>len-(Vu v).toNat,⟨0,Nat.zero_le _,h0,hR⟩,?_⟩
 rintro v ⟨j,h1,h2,h3⟩
 refine hs j v _ h1 h2 h3 λhl v' h4 h5=>⟨⟨j+1,hl,h4,h5⟩,?_⟩
 rw [h2,h4]
 simp only [Int.toNat_natCast]
 omega
theorem Bn {n:Int} (h1: -9223372036854775808<=n) (h2:n<9223372036854775808):IntKind.i64.wrap n=n:=by rw [IntKind.wrap_i64];omega
theorem Ah {n:Nat} (h2:n<9223372036854775807):IntKind.i64.wrap ((n:Int)+1)=((n+1:Nat):Int):=by
 rw [Bn (by omega) (by omega)];rfl
theorem Aq {α:Type} {xs:List α} {j:Nat} (h:j<xs.length):idx xs (j:Int)=some xs[j]:=by
 unfold idx
 rw [if_pos (by omega),Int.toNat_natCast,List.getElem?_eq_getElem h]
end Go.Proofs.YtfolipnappekaaaGreat
