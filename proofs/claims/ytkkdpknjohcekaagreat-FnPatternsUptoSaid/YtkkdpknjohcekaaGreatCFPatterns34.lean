/-
  Part 35 of the proof that the statement FnPatterns holds.
-/
import Derived.Test.YtkkdpknjohcekaaGreatCFPatterns33
import Derived.Laws.BitsLemmas
namespace Go.Proofs.YtkkdpknjohcekaaGreat
open Go.RowKit
instance:Coe Spec bx:=⟨.q⟩
instance:Coe MSpec bx:=⟨.m⟩
def look:List (FuncId×bx)->Env
 | [],_=>none
 |(g,s)::r,f=>if g=f then some s else look r f
theorem Bp {P:Program} :Kv P (look []):= λ_ _ h=>by cases h
theorem Av {P:Program} {g:FuncId} {s:Spec} {r:List (FuncId×bx)} (h:Sound P g s) (hr:Kv P (look r)):Kv P (look ((g, .q s)::r)):=by
 intro f t hf
 simp only [look] at hf
 split at hf
 ·rename_i hg
  injection hf with hf
  rw [<-hg,<-hf]
  exact h
 ·exact hr f t hf
theorem Fu {P:Program} {g:FuncId} {s:MSpec} {r:List (FuncId×bx)} (h:Cp P g s) (hr:Kv P (look r)):Kv P (look ((g, .m s)::r)):=by
 intro f t hf
 simp only [look] at hf
 split at hf
 ·rename_i hg
  injection hf with hf
  rw [<-hg,<-hf]
  exact h
 ·exact hr f t hf
theorem Eb.flags {P:Program} {T:Tab} (h:Eb P T) (f t:Bool):Eb P {T with sT:=f,CH:=t} :=
 ⟨h.fill,λa b zm=>⟨(h.ty a b zm).info,(h.ty a b zm).desc⟩,h.elem,h.mapOf,h.off⟩
theorem Eb.kB {P:Program} {T:Tab} (h:Eb P T) (r:List Nat):Eb P {T with marks:=r} :=
 ⟨h.fill,λa b zm=>⟨(h.ty a b zm).info,(h.ty a b zm).desc⟩,h.elem,h.mapOf,h.off⟩
noncomputable def Gt (arg res:Ty) (Hk fresh:Bool) (pre:arg.den->Prop) (val:arg.den->res.den):Spec:=
 {arg:=arg,res:=res,Hk:=Hk,fresh:=fresh,fn:= λx=>open Classical in if pre x then some (val x) else none}
theorem Sound.Gt {P:Program} {T:Tab} {Γ:Env} (hT:Eb P T) (Ot:Kv P Γ) (hm:P.follows .mixedOrders=true) {f:FuncId} {fn:Func} (hf:P.funcs[f]?=some fn) (hn:(fn.name== "runtime.NumGoroutine")=false)
  (hb:fn.body.isNone=false) {arg res:Ty} {Hk fresh:Bool} {pre:arg.den->Prop} {val:arg.den->res.den} (h: ∀x,pre x->fnW T Γ (Go.Proofs.YtkkdpknjohcekaaGreat.Gt arg res Hk fresh pre val) fn x (λz=>z=val x)):Sound P f (Go.Proofs.YtkkdpknjohcekaaGreat.Gt arg res Hk fresh pre val):=
 Sound.ofW hT Ot hm hf hn hb _ λx y hy=>by
  have hp:pre x:=Bk λhn=>by
   have:(Go.Proofs.YtkkdpknjohcekaaGreat.Gt arg res Hk fresh pre val).fn x=none:=Ak hn
   rw [this] at hy
   cases hy
  have hv:(Go.Proofs.YtkkdpknjohcekaaGreat.Gt arg res Hk fresh pre val).fn x=some (val x):=Ab hp
  rw [hv] at hy
  injection hy with hy
  rw [<-hy]
  exact h x hp
noncomputable def qA (Ii:List (Option Nat)) (ins:List (Bool×CK)) (Hk:Bool) (Gz:List (Option Nat)) (outs:List CK) (pre:Ins.den ins->Prop) (val:Ins.den ins->CKs.den outs×IOs.den ins):MSpec:=
 {Ii:=Ii,ins:=ins,Hk:=Hk,Gz:=Gz,outs:=outs,fn:= λx=>open Classical in if pre x then some (val x) else none}
theorem Cp.qA {P:Program} {T:Tab} {Γ:Env} (hT:Eb P T) (Ot:Kv P Γ) (hm:P.follows .mixedOrders=true) {f:FuncId} {fn:Func} (hf:P.funcs[f]?=some fn) (hn:(fn.name== "runtime.NumGoroutine")=false)
  (hb:fn.body.isNone=false) {Ii:List (Option Nat)} {ins:List (Bool×CK)} {Hk:Bool} {Gz:List (Option Nat)} {outs:List CK} {pre:Ins.den ins->Prop} {val:Ins.den ins->CKs.den outs×IOs.den ins}
  (h: ∀x,pre x->fnMW T Γ (Go.Proofs.YtkkdpknjohcekaaGreat.qA Ii ins Hk Gz outs pre val) fn x (λz=>z=val x)):Cp P f (Go.Proofs.YtkkdpknjohcekaaGreat.qA Ii ins Hk Gz outs pre val):=
 Cp.ofW hT Ot hm hf hn hb _ λx y hy=>by
  have hp:pre x:=Bk λhn=>by
   have:(Go.Proofs.YtkkdpknjohcekaaGreat.qA Ii ins Hk Gz outs pre val).fn x=none:=Ak hn
   rw [this] at hy
   cases hy
  have hv:(Go.Proofs.YtkkdpknjohcekaaGreat.qA Ii ins Hk Gz outs pre val).fn x=some (val x):=Ab hp
  rw [hv] at hy
  injection hy with hy
  rw [<-hy]
  exact h x hp
noncomputable def cS (s:MSpec) (pre:Ins.den s.ins->Prop) (val:Ins.den s.ins->CKs.den s.outs×IOs.den s.ins):MSpec:= {s with fn:= λx=>open Classical in if pre x then some (val x) else none}
theorem Cp.cS {P:Program} {T:Tab} {Γ:Env} (hT:Eb P T) (Ot:Kv P Γ) (hm:P.follows .mixedOrders=true) {f:FuncId} {fn:Func} (hf:P.funcs[f]?=some fn) (hn:(fn.name== "runtime.NumGoroutine")=false)
  (hb:fn.body.isNone=false) {s:MSpec} {pre:Ins.den s.ins->Prop} {val:Ins.den s.ins->CKs.den s.outs×IOs.den s.ins}
  (h: ∀x,pre x->fnMW T Γ (Go.Proofs.YtkkdpknjohcekaaGreat.cS s pre val) fn x (λz=>z=val x)):Cp P f (Go.Proofs.YtkkdpknjohcekaaGreat.cS s pre val):=
 Cp.ofW hT Ot hm hf hn hb _ λx y hy=>by
  have hp:pre x:=Bk λhn=>by
   have:(Go.Proofs.YtkkdpknjohcekaaGreat.cS s pre val).fn x=none:=Ak hn
   rw [this] at hy
   cases hy
  have hv:(Go.Proofs.YtkkdpknjohcekaaGreat.cS s pre val).fn x=some (val x):=Ab hp
  rw [hv] at hy
  injection hy with hy
  rw [<-hy]
  exact h x hp
theorem Cp.Ahj {P:Program} {f:FuncId} {s:MSpec} {pre:Ins.den s.ins->Prop} {val:Ins.den s.ins->CKs.den s.outs×IOs.den s.ins} (μ:Ins.den s.ins->Nat)
  (h: ∀n,Cp P f (Go.Proofs.YtkkdpknjohcekaaGreat.cS s (λx=>pre x/\μ x<n) val)):Cp P f (Go.Proofs.YtkkdpknjohcekaaGreat.cS s pre val):=by
 refine ⟨(h 0).enter,λw S π us x r o g vs h1 hg h2 h3 hS h4 h5=>?_⟩
 have hp:pre x:=Bk λhn=>by
  have:(Go.Proofs.YtkkdpknjohcekaaGreat.cS s pre val).fn x=none:=Ak hn
  rw [this] at h5;cases h5
 have hv:(Go.Proofs.YtkkdpknjohcekaaGreat.cS s pre val).fn x=some (val x):=Ab hp
 rw [hv] at h5
 exact (h (μ x+1)).calls w S π us x r o g vs h1 hg h2 h3 hS h4 ((Ab ⟨hp,Nat.lt_succ_self _⟩).trans h5)
theorem Cw.toO {w:World} {S:Nat->Prop} {e:Ty} {v:Value} {xs:List e.den} (h:Cw w S (.slice e) v xs) (Iz:xs≠ []):Cw w S (.oslice e) v (some xs):=by
 obtain ⟨cs,hc,rfl⟩:=h
 simp only [Cells] at hc
 obtain ⟨a,len,cap,rfl,h1,h2,h3⟩:=hc
 rcases h3 with h3|⟨g,o,rfl,h4⟩
 ·exact absurd h3 Iz
 ·exact ⟨_, .inr ⟨xs,_,len,cap,rfl,rfl,h1,h2, .inr ⟨g,o,rfl,h4⟩⟩,rfl⟩
theorem Sound.toO {P:Program} {f:FuncId} {arg e:Ty} {fresh:Bool} {pre ui:arg.den->Prop} {val:arg.den->(Ty.slice e).den} (h:Sound P f (Go.Proofs.YtkkdpknjohcekaaGreat.Gt arg (.slice e) false fresh pre val)) (hp: ∀x,ui x->pre x/\val x≠ []):
  Sound P f (Go.Proofs.YtkkdpknjohcekaaGreat.Gt arg (.oslice e) false fresh ui (λx=>some (val x))):=by
 refine ⟨h.enter,λw S vs x y h1 h2 h3=>?_⟩
 have gW:ui x:=Bk λhn=>by
  have:(Go.Proofs.YtkkdpknjohcekaaGreat.Gt arg (.oslice e) false fresh ui (λx=>some (val x))).fn x=none:=Ak hn
  rw [this] at h3;cases h3
 have hv:(Go.Proofs.YtkkdpknjohcekaaGreat.Gt arg (.oslice e) false fresh ui (λx=>some (val x))).fn x=some (some (val x)):=Ab gW
 rw [hv] at h3
 have h3:=Bd h3
 subst h3
 refine Calls.mono (h.calls w S vs x (val x) h1 h2 (Ab (hp x gW).1)) λe' w' hr=>?_
 obtain ⟨v,g1,g2,g3⟩:=hr
 exact ⟨v,g1,g2,Cw.toO g3 (hp x gW).2⟩
theorem Cw.told {w:World} {S:Nat->Prop} {e:Ty} {v:Value} {xs:List e.den} (h:Cw w S (.slice e) v xs): ∃o:Option (List e.den),Cw w S (.oslice e) v o/\o.getD []=xs:=by
 obtain ⟨cs,hc,rfl⟩:=h
 simp only [Cells] at hc
 obtain ⟨a,len,cap,rfl,h1,h2,h3⟩:=hc
 cases a with
 |none=>
  rcases h3 with rfl|⟨g,o,h,_⟩
  ·exact ⟨none,⟨_, .inl ⟨rfl,cap,by rw [h1];rfl⟩,rfl⟩,rfl⟩
  ·cases h
 |some ad=>
  refine ⟨some xs,⟨_, .inr ⟨xs,ad,len,cap,rfl,rfl,h1,h2,h3.imp id λ⟨g,o,h,h4⟩=>⟨g,o,Bd h,h4⟩⟩,rfl⟩,rfl⟩
theorem Cp.ofO {P:Program} {f:FuncId} {sh:List (Option Nat)} {e:Ty} {ins:List (Bool×CK)} {Hk:Bool} {rsh:List (Option Nat)} {outs:List CK}
  {pre:Ins.den ((false, .Fz (.oslice e))::ins)->Prop} {val:Ins.den ((false, .Fz (.oslice e))::ins)->CKs.den outs×IOs.den ins} {ui:Ins.den ((false, .Fz (.slice e))::ins)->Prop} {Acw:Ins.den ((false, .Fz (.slice e))::ins)->CKs.den outs×IOs.den ins}
  (h:Cp P f (Go.Proofs.YtkkdpknjohcekaaGreat.qA sh ((false, .Fz (.oslice e))::ins) Hk rsh outs pre val))
  (hp: ∀(o:Option (List e.den)) (r:Ins.den ins),ui (o.getD [],r)->pre (o,r)/\val (o,r)=Acw (o.getD [],r)):Cp P f (Go.Proofs.YtkkdpknjohcekaaGreat.qA sh ((false, .Fz (.slice e))::ins) Hk rsh outs ui Acw):=by
 refine ⟨h.enter,λw S π us x r o g vs h1 hg h2 h3 hS h4 h5=>?_⟩
 obtain ⟨xs,rest⟩:=x
 cases us with
 |nil=>exact h2.elim
 |cons u us=>
  obtain ⟨⟨h6,h7⟩,h8⟩:=h2
  obtain ⟨ox,h9,rfl⟩:=h7.told
  have gW:ui (ox.getD [],rest):=Bk λhn=>by
   have:(Go.Proofs.YtkkdpknjohcekaaGreat.qA sh ((false, .Fz (.slice e))::ins) Hk rsh outs ui Acw).fn (ox.getD [],rest)=none:=Ak hn
   rw [this] at h5;cases h5
  obtain ⟨k1,k2⟩:=hp ox rest gW
  have hv:(Go.Proofs.YtkkdpknjohcekaaGreat.qA sh ((false, .Fz (.slice e))::ins) Hk rsh outs ui Acw).fn (ox.getD [],rest)=some (Acw (ox.getD [],rest)):=Ab gW
  rw [hv] at h5
  have h5:=Bd h5
  exact h.calls w S π (u::us) (ox,rest) r o g vs h1 hg ⟨⟨h6,h9⟩,h8⟩ h3 hS h4 ((Ab k1).trans (by rw [k2];exact Fq some h5))
theorem Br.of {b:Bool} {A B:Prop} (t:b=true->A) (f:b=false->B):Br b A B:=⟨t,f⟩
theorem Br.dec {p:Prop} [Decidable p] {A B:Prop} (t:p->A) (f: ¬p->B):Br (decide p) A B:=⟨λh=>t (He h),λh=>f (of_decide_eq_false h)⟩
theorem Bw {V:Type} {step:V->(V->Prop)->Prop} {v0:V} (len:Nat) (Xm:V->Int) (R:Nat->V->Prop) (h0:Xm v0=0) (hR:R 0 v0)
  (hs: ∀(j:Nat) (v:V) (K:V->Prop),j<=len->Xm v=j->R j v->(j<len-> ∀v',Xm v'=((j+1:Nat):Int)->R (j+1) v'->K v')->step v K):Dm step v0:=by
 refine ⟨λv=> ∃j:Nat,j<=len/\Xm v=j/\R j v,λv=>len-(Xm v).toNat,⟨0,Ja _,h0,hR⟩,?_⟩
 rintro v ⟨j,h1,h2,h3⟩
 refine hs j v _ h1 h2 h3 λhl v' h4 h5=>⟨⟨j+1,hl,h4,h5⟩,?_⟩
 rw [h2,h4]
 simp only [Aj]
 omega
theorem Df {n:Int} (h1: -9223372036854775808<=n) (h2:n<9223372036854775808):IntKind.i64.wrap n=n:=by rw [IntKind.wrap_i64];omega
theorem Bm {n:Nat} (h2:n<9223372036854775807):IntKind.i64.wrap ((n:Int)+1)=((n+1:Nat):Int):=by
 rw [Df (by omega) (by omega)];rfl
theorem Co {α:Type} {xs:List α} {j:Nat} (h:j<xs.length):idx xs (j:Int)=some xs[j]:=by
 unfold idx
 rw [Ab (by omega),Aj,Ac h]
end Go.Proofs.YtkkdpknjohcekaaGreat
