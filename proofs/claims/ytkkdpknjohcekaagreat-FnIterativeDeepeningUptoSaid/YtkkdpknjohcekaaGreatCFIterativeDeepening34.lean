/-
  Part 35 of the proof that the statement FnIterativeDeepening holds.
-/
import Derived.Test.YtkkdpknjohcekaaGreatCFIterativeDeepening33
import Derived.Laws.BitsLemmas
namespace Go.Proofs.YtkkdpknjohcekaaGreat
open Go.RowKit
instance:Coe Spec hI:=⟨.q⟩
instance:Coe MSpec hI:=⟨.m⟩
def look:List (FuncId×hI)->Env
 | [],_=>none
 |(g,s)::r,f=>if g=f then some s else look r f
theorem Bo {P:Program} :Lj P (look []):= λ_ _ h=>by cases h
theorem Ba {P:Program} {g:FuncId} {s:Spec} {r:List (FuncId×hI)} (h:Sound P g s) (hr:Lj P (look r)):Lj P (look ((g, .q s)::r)):=by
 intro f t hf
 simp only [look] at hf
 split at hf
 ·rename_i hg
  injection hf with hf
  rw [<-hg,<-hf]
  exact h
 ·exact hr f t hf
theorem Fp {P:Program} {g:FuncId} {s:MSpec} {r:List (FuncId×hI)} (h:Cl P g s) (hr:Lj P (look r)):Lj P (look ((g, .m s)::r)):=by
 intro f t hf
 simp only [look] at hf
 split at hf
 ·rename_i hg
  injection hf with hf
  rw [<-hg,<-hf]
  exact h
 ·exact hr f t hf
theorem Eb.flags {P:Program} {T:Tab} (h:Eb P T) (f t:Bool):Eb P {T with vn:=f,BK:=t} :=
 ⟨h.fill,λa b kQ=>⟨(h.ty a b kQ).info,(h.ty a b kQ).desc⟩,h.elem,h.mapOf,h.off⟩
theorem Eb.pO {P:Program} {T:Tab} (h:Eb P T) (r:List Nat):Eb P {T with marks:=r} :=
 ⟨h.fill,λa b kQ=>⟨(h.ty a b kQ).info,(h.ty a b kQ).desc⟩,h.elem,h.mapOf,h.off⟩
noncomputable def Hj (arg res:Ty) (Ib fresh:Bool) (pre:arg.den->Prop) (val:arg.den->res.den):Spec:=
 {arg:=arg,res:=res,Ib:=Ib,fresh:=fresh,fn:= λx=>open Classical in if pre x then some (val x) else none}
theorem Sound.Hj {P:Program} {T:Tab} {Γ:Env} (hT:Eb P T) (Pk:Lj P Γ) (hm:P.follows .mixedOrders=true) {f:FuncId} {fn:Func} (hf:P.funcs[f]?=some fn) (hn:(fn.name== "runtime.NumGoroutine")=false)
  (hb:fn.body.isNone=false) {arg res:Ty} {Ib fresh:Bool} {pre:arg.den->Prop} {val:arg.den->res.den} (h: ∀x,pre x->fnW T Γ (Go.Proofs.YtkkdpknjohcekaaGreat.Hj arg res Ib fresh pre val) fn x (λz=>z=val x)):Sound P f (Go.Proofs.YtkkdpknjohcekaaGreat.Hj arg res Ib fresh pre val):=
 Sound.ofW hT Pk hm hf hn hb _ λx y hy=>by
  have hp:pre x:=Bu λhn=>by
   have:(Go.Proofs.YtkkdpknjohcekaaGreat.Hj arg res Ib fresh pre val).fn x=none:=Ai hn
   rw [this] at hy
   cases hy
  have hv:(Go.Proofs.YtkkdpknjohcekaaGreat.Hj arg res Ib fresh pre val).fn x=some (val x):=Ab hp
  rw [hv] at hy
  injection hy with hy
  rw [<-hy]
  exact h x hp
noncomputable def jZ (Jj:List (Option Nat)) (ins:List (Bool×CK)) (Ib:Bool) (Hv:List (Option Nat)) (outs:List CK) (pre:Ins.den ins->Prop) (val:Ins.den ins->CKs.den outs×IOs.den ins):MSpec:=
 {Jj:=Jj,ins:=ins,Ib:=Ib,Hv:=Hv,outs:=outs,fn:= λx=>open Classical in if pre x then some (val x) else none}
theorem Cl.jZ {P:Program} {T:Tab} {Γ:Env} (hT:Eb P T) (Pk:Lj P Γ) (hm:P.follows .mixedOrders=true) {f:FuncId} {fn:Func} (hf:P.funcs[f]?=some fn) (hn:(fn.name== "runtime.NumGoroutine")=false)
  (hb:fn.body.isNone=false) {Jj:List (Option Nat)} {ins:List (Bool×CK)} {Ib:Bool} {Hv:List (Option Nat)} {outs:List CK} {pre:Ins.den ins->Prop} {val:Ins.den ins->CKs.den outs×IOs.den ins}
  (h: ∀x,pre x->fnMW T Γ (Go.Proofs.YtkkdpknjohcekaaGreat.jZ Jj ins Ib Hv outs pre val) fn x (λz=>z=val x)):Cl P f (Go.Proofs.YtkkdpknjohcekaaGreat.jZ Jj ins Ib Hv outs pre val):=
 Cl.ofW hT Pk hm hf hn hb _ λx y hy=>by
  have hp:pre x:=Bu λhn=>by
   have:(Go.Proofs.YtkkdpknjohcekaaGreat.jZ Jj ins Ib Hv outs pre val).fn x=none:=Ai hn
   rw [this] at hy
   cases hy
  have hv:(Go.Proofs.YtkkdpknjohcekaaGreat.jZ Jj ins Ib Hv outs pre val).fn x=some (val x):=Ab hp
  rw [hv] at hy
  injection hy with hy
  rw [<-hy]
  exact h x hp
noncomputable def gY (s:MSpec) (pre:Ins.den s.ins->Prop) (val:Ins.den s.ins->CKs.den s.outs×IOs.den s.ins):MSpec:= {s with fn:= λx=>open Classical in if pre x then some (val x) else none}
theorem Cl.gY {P:Program} {T:Tab} {Γ:Env} (hT:Eb P T) (Pk:Lj P Γ) (hm:P.follows .mixedOrders=true) {f:FuncId} {fn:Func} (hf:P.funcs[f]?=some fn) (hn:(fn.name== "runtime.NumGoroutine")=false)
  (hb:fn.body.isNone=false) {s:MSpec} {pre:Ins.den s.ins->Prop} {val:Ins.den s.ins->CKs.den s.outs×IOs.den s.ins}
  (h: ∀x,pre x->fnMW T Γ (Go.Proofs.YtkkdpknjohcekaaGreat.gY s pre val) fn x (λz=>z=val x)):Cl P f (Go.Proofs.YtkkdpknjohcekaaGreat.gY s pre val):=
 Cl.ofW hT Pk hm hf hn hb _ λx y hy=>by
  have hp:pre x:=Bu λhn=>by
   have:(Go.Proofs.YtkkdpknjohcekaaGreat.gY s pre val).fn x=none:=Ai hn
   rw [this] at hy
   cases hy
  have hv:(Go.Proofs.YtkkdpknjohcekaaGreat.gY s pre val).fn x=some (val x):=Ab hp
  rw [hv] at hy
  injection hy with hy
  rw [<-hy]
  exact h x hp
theorem Cl.Agb {P:Program} {f:FuncId} {s:MSpec} {pre:Ins.den s.ins->Prop} {val:Ins.den s.ins->CKs.den s.outs×IOs.den s.ins} (μ:Ins.den s.ins->Nat)
  (h: ∀n,Cl P f (Go.Proofs.YtkkdpknjohcekaaGreat.gY s (λx=>pre x/\μ x<n) val)):Cl P f (Go.Proofs.YtkkdpknjohcekaaGreat.gY s pre val):=by
 refine ⟨(h 0).enter,λw S π us x r o g vs h1 hg h2 h3 hS h4 h5=>?_⟩
 have hp:pre x:=Bu λhn=>by
  have:(Go.Proofs.YtkkdpknjohcekaaGreat.gY s pre val).fn x=none:=Ai hn
  rw [this] at h5;cases h5
 have hv:(Go.Proofs.YtkkdpknjohcekaaGreat.gY s pre val).fn x=some (val x):=Ab hp
 rw [hv] at h5
 exact (h (μ x+1)).calls w S π us x r o g vs h1 hg h2 h3 hS h4 ((Ab ⟨hp,Nat.lt_succ_self _⟩).trans h5)
theorem Ct.toO {w:World} {S:Nat->Prop} {e:Ty} {v:Value} {xs:List e.den} (h:Ct w S (.slice e) v xs) (Jl:xs≠ []):Ct w S (.oslice e) v (some xs):=by
 obtain ⟨cs,hc,rfl⟩:=h
 simp only [Cells] at hc
 obtain ⟨a,len,cap,rfl,h1,h2,h3⟩:=hc
 rcases h3 with h3|⟨g,o,rfl,h4⟩
 ·exact absurd h3 Jl
 ·exact ⟨_, .inr ⟨xs,_,len,cap,rfl,rfl,h1,h2, .inr ⟨g,o,rfl,h4⟩⟩,rfl⟩
theorem Sound.toO {P:Program} {f:FuncId} {arg e:Ty} {fresh:Bool} {pre ub:arg.den->Prop} {val:arg.den->(Ty.slice e).den} (h:Sound P f (Go.Proofs.YtkkdpknjohcekaaGreat.Hj arg (.slice e) false fresh pre val)) (hp: ∀x,ub x->pre x/\val x≠ []):
  Sound P f (Go.Proofs.YtkkdpknjohcekaaGreat.Hj arg (.oslice e) false fresh ub (λx=>some (val x))):=by
 refine ⟨h.enter,λw S vs x y h1 h2 h3=>?_⟩
 have rh:ub x:=Bu λhn=>by
  have:(Go.Proofs.YtkkdpknjohcekaaGreat.Hj arg (.oslice e) false fresh ub (λx=>some (val x))).fn x=none:=Ai hn
  rw [this] at h3;cases h3
 have hv:(Go.Proofs.YtkkdpknjohcekaaGreat.Hj arg (.oslice e) false fresh ub (λx=>some (val x))).fn x=some (some (val x)):=Ab rh
 rw [hv] at h3
 have h3:=Az h3
 subst h3
 refine Calls.mono (h.calls w S vs x (val x) h1 h2 (Ab (hp x rh).1)) λe' w' hr=>?_
 obtain ⟨v,g1,g2,g3⟩:=hr
 exact ⟨v,g1,g2,Ct.toO g3 (hp x rh).2⟩
theorem Ct.told {w:World} {S:Nat->Prop} {e:Ty} {v:Value} {xs:List e.den} (h:Ct w S (.slice e) v xs): ∃o:Option (List e.den),Ct w S (.oslice e) v o/\o.getD []=xs:=by
 obtain ⟨cs,hc,rfl⟩:=h
 simp only [Cells] at hc
 obtain ⟨a,len,cap,rfl,h1,h2,h3⟩:=hc
 cases a with
 |none=>
  rcases h3 with rfl|⟨g,o,h,_⟩
  ·exact ⟨none,⟨_, .inl ⟨rfl,cap,by rw [h1];rfl⟩,rfl⟩,rfl⟩
  ·cases h
 |some ad=>
  refine ⟨some xs,⟨_, .inr ⟨xs,ad,len,cap,rfl,rfl,h1,h2,h3.imp id λ⟨g,o,h,h4⟩=>⟨g,o,Az h,h4⟩⟩,rfl⟩,rfl⟩
theorem Cl.ofO {P:Program} {f:FuncId} {sh:List (Option Nat)} {e:Ty} {ins:List (Bool×CK)} {Ib:Bool} {rsh:List (Option Nat)} {outs:List CK}
  {pre:Ins.den ((false, .Eh (.oslice e))::ins)->Prop} {val:Ins.den ((false, .Eh (.oslice e))::ins)->CKs.den outs×IOs.den ins} {ub:Ins.den ((false, .Eh (.slice e))::ins)->Prop} {Abm:Ins.den ((false, .Eh (.slice e))::ins)->CKs.den outs×IOs.den ins}
  (h:Cl P f (Go.Proofs.YtkkdpknjohcekaaGreat.jZ sh ((false, .Eh (.oslice e))::ins) Ib rsh outs pre val))
  (hp: ∀(o:Option (List e.den)) (r:Ins.den ins),ub (o.getD [],r)->pre (o,r)/\val (o,r)=Abm (o.getD [],r)):Cl P f (Go.Proofs.YtkkdpknjohcekaaGreat.jZ sh ((false, .Eh (.slice e))::ins) Ib rsh outs ub Abm):=by
 refine ⟨h.enter,λw S π us x r o g vs h1 hg h2 h3 hS h4 h5=>?_⟩
 obtain ⟨xs,rest⟩:=x
 cases us with
 |nil=>exact h2.elim
 |cons u us=>
  obtain ⟨⟨h6,h7⟩,h8⟩:=h2
  obtain ⟨ox,h9,rfl⟩:=h7.told
  have rh:ub (ox.getD [],rest):=Bu λhn=>by
   have:(Go.Proofs.YtkkdpknjohcekaaGreat.jZ sh ((false, .Eh (.slice e))::ins) Ib rsh outs ub Abm).fn (ox.getD [],rest)=none:=Ai hn
   rw [this] at h5;cases h5
  obtain ⟨k1,k2⟩:=hp ox rest rh
  have hv:(Go.Proofs.YtkkdpknjohcekaaGreat.jZ sh ((false, .Eh (.slice e))::ins) Ib rsh outs ub Abm).fn (ox.getD [],rest)=some (Abm (ox.getD [],rest)):=Ab rh
  rw [hv] at h5
  have h5:=Az h5
  exact h.calls w S π (u::us) (ox,rest) r o g vs h1 hg ⟨⟨h6,h9⟩,h8⟩ h3 hS h4 ((Ab k1).trans (by rw [k2];exact Gz some h5))
theorem Br.of {b:Bool} {A B:Prop} (t:b=true->A) (f:b=false->B):Br b A B:=⟨t,f⟩
theorem Br.dec {p:Prop} [Decidable p] {A B:Prop} (t:p->A) (f: ¬p->B):Br (decide p) A B:=⟨λh=>t (Ik h),λh=>f (of_decide_eq_false h)⟩
theorem Bw {V:Type} {step:V->(V->Prop)->Prop} {v0:V} (len:Nat) (aj:V->Int) (R:Nat->V->Prop) (h0:aj v0=0) (hR:R 0 v0)
  (hs: ∀(j:Nat) (v:V) (K:V->Prop),j<=len->aj v=j->R j v->(j<len-> ∀v',aj v'=((j+1:Nat):Int)->R (j+1) v'->K v')->step v K):Di step v0:=by
 refine ⟨λv=> ∃j:Nat,j<=len/\aj v=j/\R j v,λv=>len-(aj v).toNat,⟨0,Kw _,h0,hR⟩,?_⟩
 rintro v ⟨j,h1,h2,h3⟩
 refine hs j v _ h1 h2 h3 λhl v' h4 h5=>⟨⟨j+1,hl,h4,h5⟩,?_⟩
 rw [h2,h4]
 simp only [Ar]
 omega
theorem Cn {n:Int} (h1: -9223372036854775808<=n) (h2:n<9223372036854775808):IntKind.i64.wrap n=n:=by rw [IntKind.wrap_i64];omega
theorem Bz {n:Nat} (h2:n<9223372036854775807):IntKind.i64.wrap ((n:Int)+1)=((n+1:Nat):Int):=by
 rw [Cn (by omega) (by omega)];rfl
theorem Cj {α:Type} {xs:List α} {j:Nat} (h:j<xs.length):idx xs (j:Int)=some xs[j]:=by
 unfold idx
 rw [Ab (by omega),Ar,Ac h]
end Go.Proofs.YtkkdpknjohcekaaGreat
