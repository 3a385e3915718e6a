/-
  Part 35 of the proof that the statement FnExactSolveIDAStar holds.
-/
import Derived.Test.YtfgfigkbgecfnaaGreatCSolveIDAStar33
import Derived.Laws.BitsLemmas
namespace Go.Proofs.YtfgfigkbgecfnaaGreat
open Go.RowKit
instance:Coe Spec Pp:=⟨.q⟩
instance:Coe MSpec Pp:=⟨.m⟩
def look:List (FuncId×Pp)->Env
 | [],_=>none
 |(g,s)::r,f=>if g=f then some s else look r f
theorem Bh {P:Program} :Kk P (look []):= λ_ _ h=>by cases h
theorem Av {P:Program} {g:FuncId} {s:Spec} {r:List (FuncId×Pp)} (h:Sound P g s) (hr:Kk P (look r)):Kk P (look ((g, .q s)::r)):=by
 intro f t hf
 simp only [look] at hf
 split at hf
 ·rename_i hg
  injection hf with hf
  rw [<-hg,<-hf]
  exact h
 ·exact hr f t hf
theorem Et {P:Program} {g:FuncId} {s:MSpec} {r:List (FuncId×Pp)} (h:Cb P g s) (hr:Kk P (look r)):Kk P (look ((g, .m s)::r)):=by
 intro f t hf
 simp only [look] at hf
 split at hf
 ·rename_i hg
  injection hf with hf
  rw [<-hg,<-hf]
  exact h
 ·exact hr f t hf
theorem uQ {P:Program} {g:FuncId} {s:Spec} {m:MSpec} {r:List (FuncId×Pp)} (h:Sound P g s) (h':Cb P g m) (hr:Kk P (look r)):Kk P (look ((g, .b s m)::r)):=by
 intro f t hf
 simp only [look] at hf
 split at hf
 ·rename_i hg
  injection hf with hf
  rw [<-hg,<-hf]
  exact ⟨h,h'⟩
 ·exact hr f t hf
theorem Ed.flags {P:Program} {T:Tab} (h:Ed P T) (f t:Bool):Ed P {T with vg:=f,FN:=t} :=
 ⟨h.fill,λa b fH=>⟨(h.ty a b fH).info,(h.ty a b fH).desc⟩,h.elem,h.mapOf,h.off⟩
theorem Ed.lB {P:Program} {T:Tab} (h:Ed P T) (r:List Nat):Ed P {T with marks:=r} :=
 ⟨h.fill,λa b fH=>⟨(h.ty a b fH).info,(h.ty a b fH).desc⟩,h.elem,h.mapOf,h.off⟩
noncomputable def Fb (arg res:Ty) (Hb fresh:Bool) (pre:arg.den->Prop) (val:arg.den->res.den):Spec:=
 {arg:=arg,res:=res,Hb:=Hb,fresh:=fresh,fn:= λx=>open Classical in if pre x then some (val x) else none}
theorem Sound.Fb {P:Program} {T:Tab} {Γ:Env} (hT:Ed P T) (Ph:Kk P Γ) (hm:P.follows .mixedOrders=true) {f:FuncId} {fn:Func} (hf:P.funcs[f]?=some fn) (hn:(fn.name== "runtime.NumGoroutine")=false)
  (hb:fn.body.isNone=false) {arg res:Ty} {Hb fresh:Bool} {pre:arg.den->Prop} {val:arg.den->res.den} (h: ∀x,pre x->fnW T Γ (Go.Proofs.YtfgfigkbgecfnaaGreat.Fb arg res Hb fresh pre val) fn x (λz=>z=val x)):Sound P f (Go.Proofs.YtfgfigkbgecfnaaGreat.Fb arg res Hb fresh pre val):=
 Sound.ofW hT Ph hm hf hn hb _ λx y hy=>by
  have hp:pre x:=Bw λhn=>by
   have:(Go.Proofs.YtfgfigkbgecfnaaGreat.Fb arg res Hb fresh pre val).fn x=none:=Ag hn
   rw [this] at hy
   cases hy
  have hv:(Go.Proofs.YtfgfigkbgecfnaaGreat.Fb arg res Hb fresh pre val).fn x=some (val x):=Ab hp
  rw [hv] at hy
  injection hy with hy
  rw [<-hy]
  exact h x hp
noncomputable def de (Ja:List (Option Nat)) (ins:List (Bool×CK)) (Hb:Bool) (Fu:List (Option Nat)) (outs:List CK) (pre:Ins.den ins->Prop) (val:Ins.den ins->CKs.den outs×IOs.den ins):MSpec:=
 {Ja:=Ja,ins:=ins,Hb:=Hb,Fu:=Fu,outs:=outs,fn:= λx=>open Classical in if pre x then some (val x) else none}
theorem Cb.de {P:Program} {T:Tab} {Γ:Env} (hT:Ed P T) (Ph:Kk P Γ) (hm:P.follows .mixedOrders=true) {f:FuncId} {fn:Func} (hf:P.funcs[f]?=some fn) (hn:(fn.name== "runtime.NumGoroutine")=false)
  (hb:fn.body.isNone=false) {Ja:List (Option Nat)} {ins:List (Bool×CK)} {Hb:Bool} {Fu:List (Option Nat)} {outs:List CK} {pre:Ins.den ins->Prop} {val:Ins.den ins->CKs.den outs×IOs.den ins}
  (h: ∀x,pre x->fnMW T Γ (Go.Proofs.YtfgfigkbgecfnaaGreat.de Ja ins Hb Fu outs pre val) fn x (λz=>z=val x)):Cb P f (Go.Proofs.YtfgfigkbgecfnaaGreat.de Ja ins Hb Fu outs pre val):=
 Cb.ofW hT Ph hm hf hn hb _ λx y hy=>by
  have hp:pre x:=Bw λhn=>by
   have:(Go.Proofs.YtfgfigkbgecfnaaGreat.de Ja ins Hb Fu outs pre val).fn x=none:=Ag hn
   rw [this] at hy
   cases hy
  have hv:(Go.Proofs.YtfgfigkbgecfnaaGreat.de Ja ins Hb Fu outs pre val).fn x=some (val x):=Ab hp
  rw [hv] at hy
  injection hy with hy
  rw [<-hy]
  exact h x hp
noncomputable def iy (s:MSpec) (pre:Ins.den s.ins->Prop) (val:Ins.den s.ins->CKs.den s.outs×IOs.den s.ins):MSpec:= {s with fn:= λx=>open Classical in if pre x then some (val x) else none}
theorem Cb.iy {P:Program} {T:Tab} {Γ:Env} (hT:Ed P T) (Ph:Kk P Γ) (hm:P.follows .mixedOrders=true) {f:FuncId} {fn:Func} (hf:P.funcs[f]?=some fn) (hn:(fn.name== "runtime.NumGoroutine")=false)
  (hb:fn.body.isNone=false) {s:MSpec} {pre:Ins.den s.ins->Prop} {val:Ins.den s.ins->CKs.den s.outs×IOs.den s.ins}
  (h: ∀x,pre x->fnMW T Γ (Go.Proofs.YtfgfigkbgecfnaaGreat.iy s pre val) fn x (λz=>z=val x)):Cb P f (Go.Proofs.YtfgfigkbgecfnaaGreat.iy s pre val):=
 Cb.ofW hT Ph hm hf hn hb _ λx y hy=>by
  have hp:pre x:=Bw λhn=>by
   have:(Go.Proofs.YtfgfigkbgecfnaaGreat.iy s pre val).fn x=none:=Ag hn
   rw [this] at hy
   cases hy
  have hv:(Go.Proofs.YtfgfigkbgecfnaaGreat.iy s pre val).fn x=some (val x):=Ab hp
  rw [hv] at hy
  injection hy with hy
  rw [<-hy]
  exact h x hp
theorem Cb.Ae3 {P:Program} {f:FuncId} {s:MSpec} {pre:Ins.den s.ins->Prop} {val:Ins.den s.ins->CKs.den s.outs×IOs.den s.ins} (μ:Ins.den s.ins->Nat)
  (h: ∀n,Cb P f (Go.Proofs.YtfgfigkbgecfnaaGreat.iy s (λx=>pre x/\μ x<n) val)):Cb P f (Go.Proofs.YtfgfigkbgecfnaaGreat.iy s pre val):=by
 refine ⟨(h 0).enter,λw S π us x r o g vs h1 hg h2 h3 hS h4 h5=>?_⟩
 have hp:pre x:=Bw λhn=>by
  have:(Go.Proofs.YtfgfigkbgecfnaaGreat.iy s pre val).fn x=none:=Ag hn
  rw [this] at h5;cases h5
 have hv:(Go.Proofs.YtfgfigkbgecfnaaGreat.iy s pre val).fn x=some (val x):=Ab hp
 rw [hv] at h5
 exact (h (μ x+1)).calls w S π us x r o g vs h1 hg h2 h3 hS h4 ((Ab ⟨hp,Nat.lt_succ_self _⟩).trans h5)
theorem Cw.toO {w:World} {S:Nat->Prop} {e:Ty} {v:Value} {xs:List e.den} (h:Cw w S (.slice e) v xs) (Ih:xs≠ []):Cw w S (.oslice e) v (some xs):=by
 obtain ⟨cs,hc,rfl⟩:=h
 simp only [Cells] at hc
 obtain ⟨a,len,cap,rfl,h1,h2,h3⟩:=hc
 rcases h3 with h3|⟨g,o,rfl,h4⟩
 ·exact absurd h3 Ih
 ·exact ⟨_, .inr ⟨xs,_,len,cap,rfl,rfl,h1,h2, .inr ⟨g,o,rfl,h4⟩⟩,rfl⟩
theorem Sound.toO {P:Program} {f:FuncId} {arg e:Ty} {fresh:Bool} {pre wu:arg.den->Prop} {val:arg.den->(Ty.slice e).den} (h:Sound P f (Go.Proofs.YtfgfigkbgecfnaaGreat.Fb arg (.slice e) false fresh pre val)) (hp: ∀x,wu x->pre x/\val x≠ []):
  Sound P f (Go.Proofs.YtfgfigkbgecfnaaGreat.Fb arg (.oslice e) false fresh wu (λx=>some (val x))):=by
 refine ⟨h.enter,λw S vs x y h1 h2 h3=>?_⟩
 have iQ:wu x:=Bw λhn=>by
  have:(Go.Proofs.YtfgfigkbgecfnaaGreat.Fb arg (.oslice e) false fresh wu (λx=>some (val x))).fn x=none:=Ag hn
  rw [this] at h3;cases h3
 have hv:(Go.Proofs.YtfgfigkbgecfnaaGreat.Fb arg (.oslice e) false fresh wu (λx=>some (val x))).fn x=some (some (val x)):=Ab iQ
 rw [hv] at h3
 have h3:=Ba h3
 subst h3
 refine Calls.mono (h.calls w S vs x (val x) h1 h2 (Ab (hp x iQ).1)) λe' w' hr=>?_
 obtain ⟨v,g1,g2,g3⟩:=hr
 exact ⟨v,g1,g2,Cw.toO g3 (hp x iQ).2⟩
theorem Cw.told {w:World} {S:Nat->Prop} {e:Ty} {v:Value} {xs:List e.den} (h:Cw w S (.slice e) v xs): ∃o:Option (List e.den),Cw w S (.oslice e) v o/\o.getD []=xs:=by
 obtain ⟨cs,hc,rfl⟩:=h
 simp only [Cells] at hc
 obtain ⟨a,len,cap,rfl,h1,h2,h3⟩:=hc
 cases a with
 |none=>
  rcases h3 with rfl|⟨g,o,h,_⟩
  ·exact ⟨none,⟨_, .inl ⟨rfl,cap,by rw [h1];rfl⟩,rfl⟩,rfl⟩
  ·cases h
 |some ad=>
  refine ⟨some xs,⟨_, .inr ⟨xs,ad,len,cap,rfl,rfl,h1,h2,h3.imp id λ⟨g,o,h,h4⟩=>⟨g,o,Ba h,h4⟩⟩,rfl⟩,rfl⟩
theorem Cb.ofO {P:Program} {f:FuncId} {sh:List (Option Nat)} {e:Ty} {ins:List (Bool×CK)} {Hb:Bool} {rsh:List (Option Nat)} {outs:List CK}
  {pre:Ins.den ((false, .Em (.oslice e))::ins)->Prop} {val:Ins.den ((false, .Em (.oslice e))::ins)->CKs.den outs×IOs.den ins} {wu:Ins.den ((false, .Em (.slice e))::ins)->Prop} {Afq:Ins.den ((false, .Em (.slice e))::ins)->CKs.den outs×IOs.den ins}
  (h:Cb P f (Go.Proofs.YtfgfigkbgecfnaaGreat.de sh ((false, .Em (.oslice e))::ins) Hb rsh outs pre val))
  (hp: ∀(o:Option (List e.den)) (r:Ins.den ins),wu (o.getD [],r)->pre (o,r)/\val (o,r)=Afq (o.getD [],r)):Cb P f (Go.Proofs.YtfgfigkbgecfnaaGreat.de sh ((false, .Em (.slice e))::ins) Hb rsh outs wu Afq):=by
 refine ⟨h.enter,λw S π us x r o g vs h1 hg h2 h3 hS h4 h5=>?_⟩
 obtain ⟨xs,rest⟩:=x
 cases us with
 |nil=>exact h2.elim
 |cons u us=>
  obtain ⟨⟨h6,h7⟩,h8⟩:=h2
  obtain ⟨ox,h9,rfl⟩:=h7.told
  have iQ:wu (ox.getD [],rest):=Bw λhn=>by
   have:(Go.Proofs.YtfgfigkbgecfnaaGreat.de sh ((false, .Em (.slice e))::ins) Hb rsh outs wu Afq).fn (ox.getD [],rest)=none:=Ag hn
   rw [this] at h5;cases h5
  obtain ⟨k1,k2⟩:=hp ox rest iQ
  have hv:(Go.Proofs.YtfgfigkbgecfnaaGreat.de sh ((false, .Em (.slice e))::ins) Hb rsh outs wu Afq).fn (ox.getD [],rest)=some (Afq (ox.getD [],rest)):=Ab iQ
  rw [hv] at h5
  have h5:=Ba h5
  exact h.calls w S π (u::us) (ox,rest) r o g vs h1 hg ⟨⟨h6,h9⟩,h8⟩ h3 hS h4 ((Ab k1).trans (by rw [k2];exact Lr some h5))
theorem Sound.Axh {P:Program} {f:FuncId} {arg res:Ty} {Hb fresh:Bool} {pre:arg.den->Prop} {val:arg.den->res.den} (μ:arg.den->Nat)
  (h: ∀n,Sound P f (Go.Proofs.YtfgfigkbgecfnaaGreat.Fb arg res Hb fresh (λx=>pre x/\μ x<n) val)):Sound P f (Go.Proofs.YtfgfigkbgecfnaaGreat.Fb arg res Hb fresh pre val):=by
 refine ⟨(h 0).enter,λw S vs x y h1 h2 h3=>?_⟩
 have hp:pre x:=Bw λhn=>by
  have:(Go.Proofs.YtfgfigkbgecfnaaGreat.Fb arg res Hb fresh pre val).fn x=none:=Ag hn
  rw [this] at h3;cases h3
 have hv:(Go.Proofs.YtfgfigkbgecfnaaGreat.Fb arg res Hb fresh pre val).fn x=some (val x):=Ab hp
 rw [hv] at h3
 exact (h (μ x+1)).calls w S vs x y h1 h2 ((Ab ⟨hp,Nat.lt_succ_self _⟩).trans h3)
theorem Br.of {b:Bool} {A B:Prop} (t:b=true->A) (f:b=false->B):Br b A B:=⟨t,f⟩
theorem Br.dec {p:Prop} [Decidable p] {A B:Prop} (t:p->A) (f: ¬p->B):Br (decide p) A B:=⟨λh=>t (Gx h),λh=>f (of_decide_eq_false h)⟩
theorem Bf {V:Type} {step:V->(V->Prop)->Prop} {v0:V} (len:Nat) (bj:V->Int) (R:Nat->V->Prop) (h0:bj v0=0) (hR:R 0 v0)
  (hs: ∀(j:Nat) (v:V) (K:V->Prop),j<=len->bj v=j->R j v->(j<len-> ∀v',bj v'=((j+1:Nat):Int)->R (j+1) v'->K v')->step v K):Db step v0:=by
 refine ⟨λv=> ∃j:Nat,j<=len/\bj v=j/\R j v,λv=>len-(bj v).toNat,⟨0,Ip _,h0,hR⟩,?_⟩
 rintro v ⟨j,h1,h2,h3⟩
 refine hs j v _ h1 h2 h3 λhl v' h4 h5=>⟨⟨j+1,hl,h4,h5⟩,?_⟩
 rw [h2,h4]
 simp only [Ai]
 omega
theorem Di {n:Int} (h1: -9223372036854775808<=n) (h2:n<9223372036854775808):IntKind.i64.wrap n=n:=by rw [IntKind.wrap_i64];omega
theorem Bg {n:Nat} (h2:n<9223372036854775807):IntKind.i64.wrap ((n:Int)+1)=((n+1:Nat):Int):=by
 rw [Di (by omega) (by omega)];rfl
theorem Bu {α:Type} {xs:List α} {j:Nat} (h:j<xs.length):idx xs (j:Int)=some xs[j]:=by
 unfold idx
 rw [Ab (by omega),Ai,Ac h]
end Go.Proofs.YtfgfigkbgecfnaaGreat
