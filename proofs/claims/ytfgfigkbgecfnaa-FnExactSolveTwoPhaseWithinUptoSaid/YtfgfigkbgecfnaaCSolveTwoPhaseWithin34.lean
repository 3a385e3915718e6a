/-
  Part 35 of the proof that the statement FnExactSolveTwoPhaseWithin holds.
-/
import Derived.Test.YtfgfigkbgecfnaaCSolveTwoPhaseWithin33
import Derived.Laws.BitsLemmas
namespace Go.Proofs.Ytfgfigkbgecfnaa
open Go.RowKit
instance:Coe Spec cY:=⟨.q⟩
instance:Coe MSpec cY:=⟨.m⟩
def look:List (FuncId×cY)->Env
 | [],_=>none
 |(g,s)::r,f=>if g=f then some s else look r f
theorem Ce {P:Program} :Ky P (look []):= λ_ _ h=>by cases h
theorem Bf {P:Program} {g:FuncId} {s:Spec} {r:List (FuncId×cY)} (h:Sound P g s) (hr:Ky P (look r)):Ky P (look ((g, .q s)::r)):=by
 intro f t hf;simp only [look] at hf;split at hf
 ·rename_i hg
  injection hf with hf
  rw [<-hg,<-hf];exact h
 ·exact hr f t hf
theorem Ic {P:Program} {g:FuncId} {s:MSpec} {r:List (FuncId×cY)} (h:Ds P g s) (hr:Ky P (look r)):Ky P (look ((g, .m s)::r)):=by
 intro f t hf;simp only [look] at hf;split at hf
 ·rename_i hg
  injection hf with hf
  rw [<-hg,<-hf];exact h
 ·exact hr f t hf
theorem FH {P:Program} {g:FuncId} {s:Spec} {m:MSpec} {r:List (FuncId×cY)} (h:Sound P g s) (h':Ds P g m) (hr:Ky P (look r)):Ky P (look ((g, .b s m)::r)):=by
 intro f t hf;simp only [look] at hf;split at hf
 ·rename_i hg
  injection hf with hf
  rw [<-hg,<-hf];exact ⟨h,h'⟩
 ·exact hr f t hf
theorem Ec.flags {P:Program} {T:Tab} (h:Ec P T) (f t:Bool):Ec P {T with tN:=f,DA:=t} :=
 ⟨h.fill,λa b qU=>⟨(h.ty a b qU).info,(h.ty a b qU).desc⟩,h.elem,h.mapOf,h.off⟩
theorem Ec.qE {P:Program} {T:Tab} (h:Ec P T) (r:List Nat):Ec P {T with marks:=r} :=
 ⟨h.fill,λa b qU=>⟨(h.ty a b qU).info,(h.ty a b qU).desc⟩,h.elem,h.mapOf,h.off⟩
theorem Ec.YD {P:Program} {T:Tab} (h:Ec P T) (l:List Nat):Ec P {T with parts:=l} :=
 ⟨h.fill,λa b qU=>⟨(h.ty a b qU).info,(h.ty a b qU).desc⟩,h.elem,h.mapOf,h.off⟩
noncomputable def Ho (arg res:Ty) (Jy fresh:Bool) (pre:arg.den->Prop) (val:arg.den->res.den):Spec:=
 {arg:=arg,res:=res,Jy:=Jy,fresh:=fresh,fn:= λx=>open Classical in if pre x then some (val x) else none}
theorem Sound.Ho {P:Program} {T:Tab} {Γ:Env} (hT:Ec P T) (Pn:Ky P Γ) (hm:P.follows .mixedOrders=true) {f:FuncId} {fn:Func} (hf:P.funcs[f]?=some fn) (hn:(fn.name== "runtime.NumGoroutine")=false)
  (hb:fn.body.isNone=false) {arg res:Ty} {Jy fresh:Bool} {pre:arg.den->Prop} {val:arg.den->res.den} (h: ∀x,pre x->fnW T Γ (Go.Proofs.Ytfgfigkbgecfnaa.Ho arg res Jy fresh pre val) fn x (λz=>z=val x)):Sound P f (Go.Proofs.Ytfgfigkbgecfnaa.Ho arg res Jy fresh pre val):=
 Sound.ofW hT Pn hm hf hn hb _ λx y hy=>by
  have hp:pre x:=Bz λhn=>by
   have:(Go.Proofs.Ytfgfigkbgecfnaa.Ho arg res Jy fresh pre val).fn x=none:=Ai hn;rw [this] at hy;cases hy
  have hv:(Go.Proofs.Ytfgfigkbgecfnaa.Ho arg res Jy fresh pre val).fn x=some (val x):=Ac hp;rw [hv] at hy
  injection hy with hy
  rw [<-hy];exact h x hp
noncomputable def cW (Mq:List (Option Nat)) (ins:List (Bool×CK)) (Jy:Bool) (Li:List (Option Nat)) (outs:List CK) (pre:Ins.den ins->Prop) (val:Ins.den ins->CKs.den outs×IOs.den ins):MSpec:=
 {Mq:=Mq,ins:=ins,Jy:=Jy,Li:=Li,outs:=outs,fn:= λx=>open Classical in if pre x then some (val x) else none}
theorem Ds.cW {P:Program} {T:Tab} {Γ:Env} (hT:Ec P T) (Pn:Ky P Γ) (hm:P.follows .mixedOrders=true) {f:FuncId} {fn:Func} (hf:P.funcs[f]?=some fn) (hn:(fn.name== "runtime.NumGoroutine")=false)
  (hb:fn.body.isNone=false) {Mq:List (Option Nat)} {ins:List (Bool×CK)} {Jy:Bool} {Li:List (Option Nat)} {outs:List CK} {pre:Ins.den ins->Prop} {val:Ins.den ins->CKs.den outs×IOs.den ins}
  (h: ∀x,pre x->fnMW T Γ (Go.Proofs.Ytfgfigkbgecfnaa.cW Mq ins Jy Li outs pre val) fn x (λz=>z=val x)):Ds P f (Go.Proofs.Ytfgfigkbgecfnaa.cW Mq ins Jy Li outs pre val):=
 Ds.ofW hT Pn hm hf hn hb _ λx y hy=>by
  have hp:pre x:=Bz λhn=>by
   have:(Go.Proofs.Ytfgfigkbgecfnaa.cW Mq ins Jy Li outs pre val).fn x=none:=Ai hn;rw [this] at hy;cases hy
  have hv:(Go.Proofs.Ytfgfigkbgecfnaa.cW Mq ins Jy Li outs pre val).fn x=some (val x):=Ac hp;rw [hv] at hy
  injection hy with hy
  rw [<-hy];exact h x hp
noncomputable def LI (s:MSpec) (pre:Ins.den s.ins->Prop) (val:Ins.den s.ins->CKs.den s.outs×IOs.den s.ins):MSpec:= {s with fn:= λx=>open Classical in if pre x then some (val x) else none}
theorem Ds.LI {P:Program} {T:Tab} {Γ:Env} (hT:Ec P T) (Pn:Ky P Γ) (hm:P.follows .mixedOrders=true) {f:FuncId} {fn:Func} (hf:P.funcs[f]?=some fn) (hn:(fn.name== "runtime.NumGoroutine")=false)
  (hb:fn.body.isNone=false) {s:MSpec} {pre:Ins.den s.ins->Prop} {val:Ins.den s.ins->CKs.den s.outs×IOs.den s.ins}
  (h: ∀x,pre x->fnMW T Γ (Go.Proofs.Ytfgfigkbgecfnaa.LI s pre val) fn x (λz=>z=val x)):Ds P f (Go.Proofs.Ytfgfigkbgecfnaa.LI s pre val):=
 Ds.ofW hT Pn hm hf hn hb _ λx y hy=>by
  have hp:pre x:=Bz λhn=>by
   have:(Go.Proofs.Ytfgfigkbgecfnaa.LI s pre val).fn x=none:=Ai hn;rw [this] at hy;cases hy
  have hv:(Go.Proofs.Ytfgfigkbgecfnaa.LI s pre val).fn x=some (val x):=Ac hp;rw [hv] at hy
  injection hy with hy
  rw [<-hy];exact h x hp
theorem Ds.Ar2 {P:Program} {f:FuncId} {s:MSpec} {pre:Ins.den s.ins->Prop} {val:Ins.den s.ins->CKs.den s.outs×IOs.den s.ins} (μ:Ins.den s.ins->Nat)
  (h: ∀n,Ds P f (Go.Proofs.Ytfgfigkbgecfnaa.LI s (λx=>pre x/\μ x<n) val)):Ds P f (Go.Proofs.Ytfgfigkbgecfnaa.LI s pre val):=by
 refine ⟨(h 0).enter,λw S π us x r o g vs h1 hg h2 h3 hS h4 h5=>?_⟩
 have hp:pre x:=Bz λhn=>by
  have:(Go.Proofs.Ytfgfigkbgecfnaa.LI s pre val).fn x=none:=Ai hn;rw [this] at h5;cases h5
 have hv:(Go.Proofs.Ytfgfigkbgecfnaa.LI s pre val).fn x=some (val x):=Ac hp;rw [hv] at h5;exact (h (μ x+1)).calls w S π us x r o g vs h1 hg h2 h3 hS h4 ((Ac ⟨hp,Nat.lt_succ_self _⟩).trans h5)
theorem Dd.toO {w:World} {S:Nat->Prop} {e:Ty} {v:Value} {xs:List e.den} (h:Dd w S (.slice e) v xs) (Ii:xs≠ []):Dd w S (.oslice e) v (some xs):=by
 obtain ⟨cs,hc,rfl⟩:=h;simp only [Cells] at hc;obtain ⟨a,len,cap,rfl,h1,h2,h3⟩:=hc;rcases h3 with h3|⟨g,o,rfl,h4⟩
 ·exact absurd h3 Ii
 ·exact ⟨_, .inr ⟨xs,_,len,cap,rfl,rfl,h1,h2, .inr ⟨g,o,rfl,h4⟩⟩,rfl⟩
theorem Sound.toO {P:Program} {f:FuncId} {arg e:Ty} {fresh:Bool} {pre uR:arg.den->Prop} {val:arg.den->(Ty.slice e).den} (h:Sound P f (Go.Proofs.Ytfgfigkbgecfnaa.Ho arg (.slice e) false fresh pre val)) (hp: ∀x,uR x->pre x/\val x≠ []):
  Sound P f (Go.Proofs.Ytfgfigkbgecfnaa.Ho arg (.oslice e) false fresh uR (λx=>some (val x))):=by
 refine ⟨h.enter,λw S vs x y h1 h2 h3=>?_⟩
 have sf:uR x:=Bz λhn=>by
  have:(Go.Proofs.Ytfgfigkbgecfnaa.Ho arg (.oslice e) false fresh uR (λx=>some (val x))).fn x=none:=Ai hn;rw [this] at h3;cases h3
 have hv:(Go.Proofs.Ytfgfigkbgecfnaa.Ho arg (.oslice e) false fresh uR (λx=>some (val x))).fn x=some (some (val x)):=Ac sf;rw [hv] at h3;have h3:=Bi h3;subst h3;refine Calls.mono (h.calls w S vs x (val x) h1 h2 (Ac (hp x sf).1)) λe' w' hr=>?_;obtain ⟨v,g1,g2,g3⟩:=hr;exact ⟨v,g1,g2,Dd.toO g3 (hp x sf).2⟩
theorem Dd.told {w:World} {S:Nat->Prop} {e:Ty} {v:Value} {xs:List e.den} (h:Dd w S (.slice e) v xs): ∃o:Option (List e.den),Dd w S (.oslice e) v o/\o.getD []=xs:=by
 obtain ⟨cs,hc,rfl⟩:=h;simp only [Cells] at hc;obtain ⟨a,len,cap,rfl,h1,h2,h3⟩:=hc
 cases a with
 |none=>
  rcases h3 with rfl|⟨g,o,h,_⟩
  ·exact ⟨none,⟨_, .inl ⟨rfl,cap,by rw [h1];rfl⟩,rfl⟩,rfl⟩
  ·cases h
 |some ad=>
  refine ⟨some xs,⟨_, .inr ⟨xs,ad,len,cap,rfl,rfl,h1,h2,h3.imp id λ⟨g,o,h,h4⟩=>⟨g,o,Bi h,h4⟩⟩,rfl⟩,rfl⟩
theorem Br.of {b:Bool} {A B:Prop} (t:b=true->A) (f:b=false->B):Br b A B:=⟨t,f⟩
theorem Br.dec {p:Prop} [Decidable p] {A B:Prop} (t:p->A) (f: ¬p->B):Br (decide p) A B:=⟨λh=>t (Cx h),λh=>f (of_decide_eq_false h)⟩
theorem Bt {V:Type} {step:V->(V->Prop)->Prop} {v0:V} (len:Nat) (Sb:V->Int) (R:Nat->V->Prop) (h0:Sb v0=0) (hR:R 0 v0)
  (hs: ∀(j:Nat) (v:V) (K:V->Prop),j<=len->Sb v=j->R j v->(j<len-> ∀v',Sb v'=((j+1:Nat):Int)->R (j+1) v'->K v')->step v K):Dh step v0:=by
 refine ⟨λv=> ∃j:Nat,j<=len/\Sb v=j/\R j v,λv=>len-(Sb v).toNat,⟨0,Iz _,h0,hR⟩,?_⟩;rintro v ⟨j,h1,h2,h3⟩
 refine hs j v _ h1 h2 h3 λhl v' h4 h5=>⟨⟨j+1,hl,h4,h5⟩,?_⟩
 rw [h2,h4];simp only [Ab];omega
theorem Co {n:Int} (h1: -9223372036854775808<=n) (h2:n<9223372036854775808):IntKind.i64.wrap n=n:=by rw [IntKind.wrap_i64];omega
theorem Bm {n:Nat} (h2:n<9223372036854775807):IntKind.i64.wrap ((n:Int)+1)=((n+1:Nat):Int):=by
 rw [Co (by omega) (by omega)];rfl
theorem Bu {α:Type} {xs:List α} {j:Nat} (h:j<xs.length):idx xs (j:Int)=some xs[j]:=by
 unfold idx;rw [Ac (by omega),Ab,Ad h]
end Go.Proofs.Ytfgfigkbgecfnaa
