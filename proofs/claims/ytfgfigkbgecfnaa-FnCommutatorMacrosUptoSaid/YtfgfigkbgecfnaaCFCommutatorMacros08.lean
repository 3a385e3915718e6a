/-
  Part 9 of the proof that the statement FnCommutatorMacros holds.
-/
import Derived.Test.YtfgfigkbgecfnaaCFCommutatorMacros07
import Derived.Laws.BytesString
namespace Go.Proofs.Ytfgfigkbgecfnaa
open Go.RowKit
section
variable {P:Program} {T:Tab} {X:Ctx} {w w':World} {π:Pi} {H:List (Nat×OB)}
theorem Ck.Gj {S S':Nat->Prop} {τ:Ty} {v:Value} {x:τ.den} (h:Ck w S τ v x) (hS: ∀k,k<w.heap.size->S' k->S k):Ck w S' τ v x:=
 let ⟨cs,hc,hv⟩:=h
 ⟨cs,Cells.Ep (Ao _) (λ_ _ _=>rfl) hS τ cs x hc,hv⟩
theorem Bv.Gj {S S':Nat->Prop} {τ:Ty} {vs:List Value} {x:τ.den} (h:Bv w S τ vs x) (hS: ∀k,k<w.heap.size->S' k->S k):Bv w S' τ vs x:=
 Bv.Ep ⟨Ao _,λ_ _ _=>rfl⟩ hS τ vs x h
theorem Bv.flat {S S':Nat->Prop} : ∀(τ:Ty) (vs:List Value) (x:τ.den),τ.flat=true->Bv w S τ vs x->Bv w S' τ vs x
 | .pair a r,[],x,_,h=>h
 | .pair a r,v::vs,x,hf,h=>by
  simp only [Ty.flat,Ag] at hf
  exact ⟨h.1.flat hf.1,Bv.flat r vs x.2 hf.2 h.2⟩
 | .unit,[],_,_,_=>trivial
 | .unit,_::_,_,_,h=>h
 | .int _,_,_,_,h=>by simp [Bv] at h
 | .bool,_,_,_,h=>by simp [Bv] at h
 | .str,_,_,_,h=>by simp [Bv] at h
 | .slice _,_,_,_,h=>by simp [Bv] at h
 | .ptr _,_,_,_,h=>by simp [Bv] at h
 | .oslice _,_,_,_,h=>by simp [Bv] at h
 | .optr _,_,_,_,h=>by simp [Bv] at h
 | .smap _,_,_,_,h=>by simp [Bv] at h
 | .clo _ _,_,_,_,h=>by simp [Bv] at h
theorem Za {fr:Bool} {τ Lg:Ty} {x:Lg.den} {f:Bool} {y:τ.den} {v:Value} (h:cW fr τ Lg x=some (f,y)) (hc:Ck w (Cb X.w0.heap.size X.Sc π fr) Lg v x):
  Cells w (Cb X.w0.heap.size X.Sc π f) τ [v] y:=by
 unfold cW at h
 split at h
 ·split at h
  ·rename_i e e' _ BD
   subst BD
   simp only [Aa,Ab] at h
   obtain ⟨rfl,rfl⟩:=h
   have h1:=Ck.Oc rfl hc
   simp only [Cells] at h1⊢
   rcases h1 with ⟨rfl,c,h1⟩|⟨xs,ad,len,cap,rfl,h1,h2,h3,h4⟩
   ·exact ⟨none,0,c,h1,rfl,Zr _, .inl rfl⟩
   ·exact ⟨_,len,cap,h1,h2,h3,h4.imp id λ⟨g,o,ha,h4⟩=>⟨g,o,by rw [ha],h4⟩⟩
  ·cases h
 ·split at h
  ·rename_i a a' _ VF
   subst VF
   simp only [Aa,Ab] at h
   obtain ⟨rfl,rfl⟩:=h
   have h1:=Ck.Oc rfl hc
   simp only [Cells] at h1⊢
   obtain ⟨g,o,h2⟩:=h1
   exact .inr ⟨_,g,o,rfl,h2⟩
  ·cases h
 ·cases h
theorem dY {st:St} (τ:Ty) (c:AC) (v:Value) (fr:Bool) (x:τ.den) (Pp:τ.Ak=false) (hs:c.settled=true) (hc:Fe X w π st.heap c v)
  (hv:Cn st τ c=some (fr,x)):Cells w (Cb X.w0.heap.size X.Sc π fr) τ [v] x:=by
 cases c with
 |data Rj Lg y=>
  rw [Kw] at hv
  split at hv
  ·rename_i ht;subst ht
   simp only [Aa,Ab] at hv
   obtain ⟨rfl,rfl⟩:=hv
   have h1:=Ck.Oc Pp hc
   cases hf:Lg.flat with
   |true=>exact Cells.flat Lg _ _ hf h1
   |false=>rw [cz];exact h1
  ·exact Za hv hc
 |Jf=>
  cases τ with
  |slice e=>
   simp only [Cn,Aa,Ab] at hv
   obtain ⟨_,rfl⟩:=hv
   exact ⟨none,0,0,by rw [show v=_ from hc],rfl,Ao _, .inl rfl⟩
  |oslice e=>
   simp only [Cn,Aa,Ab] at hv
   obtain ⟨_,rfl⟩:=hv
   exact .inl ⟨rfl,0,by rw [show v=_ from hc]⟩
  |_=>simp [Cn] at hv
 |Qx=>
  cases τ with
  |optr e=>
   simp only [Cn,Aa,Ab] at hv
   obtain ⟨_,rfl⟩:=hv
   exact .inl ⟨rfl,by rw [show v=_ from hc]⟩
  |_=>simp [Cn] at hv
 |_=>simp [AC.settled] at hs
theorem Cells.and_left {f1 f2:Bool} {τ:Ty} {cs:List Value} {x:τ.den} (h:Cells w (Cb X.w0.heap.size X.Sc π f1) τ cs x):Cells w (Cb X.w0.heap.size X.Sc π (f1&&f2)) τ cs x:=
 Cells.Ep (Ao _) (λ_ _ _=>rfl) (λk _ hk=>by
  rcases hk with h1|h1|⟨h1,h2⟩
  ·exact .inl h1
  ·exact .inr (.inl h1)
  ·simp at h1;exact .inr (.inr ⟨h1.1,h2⟩)) τ cs x h
theorem Cells.and_right {f1 f2:Bool} {τ:Ty} {cs:List Value} {x:τ.den} (h:Cells w (Cb X.w0.heap.size X.Sc π f2) τ cs x):Cells w (Cb X.w0.heap.size X.Sc π (f1&&f2)) τ cs x:=
 Cells.Ep (Ao _) (λ_ _ _=>rfl) (λk _ hk=>by
  rcases hk with h1|h1|⟨h1,h2⟩
  ·exact .inl h1
  ·exact .inr (.inl h1)
  ·simp at h1;exact .inr (.inr ⟨h1.2,h2⟩)) τ cs x h
theorem Rz {st:St} : ∀(τ:Ty) (cs:List AC) (us:List Value) (fr:Bool) (x:τ.den),cs.all (·.settled)=true->Eb X w π st.heap cs us->
  Dn st τ cs=some (fr,x)->Cells w (Cb X.w0.heap.size X.Sc π fr) τ us x:=by
 have one: ∀(τ:Ty) (cs:List AC) (us:List Value) (fr:Bool) (x:τ.den),τ.Ak=false->cs.all (·.settled)=true->Eb X w π st.heap cs us->
   Dn st τ cs=some (fr,x)->Cells w (Cb X.w0.heap.size X.Sc π fr) τ us x:=by
  intro τ cs us fr x Pp hs hr hv
  rw [Pu Pp] at hv
  split at hv
  ·rename_i c
   obtain ⟨u,hu,_,hc⟩:=hr.2 0 c rfl
   have hl:us.length=1:=hr.1
   obtain ⟨u',rfl⟩:=Cv.1 hl
   simp at hu;subst hu
   exact dY τ c _ fr x Pp (by simpa using hs) hc hv
  ·cases hv
 intro τ
 induction τ with
 |unit=>
  intro cs us fr x hs hr hv
  cases cs with
  |nil=>have:us= []:=Cj hr.1;exact this
  |cons c cs=>simp [Dn] at hv
 |pair a r cC cw=>
  intro cs us fr x hs hr hv
  simp only [Dn] at hv
  split at hv
  ·rename_i f1 y f2 z h1 h2
   simp only [Aa,Ab] at hv
   obtain ⟨rfl,rfl⟩:=hv
   have GJ:Eb X w π st.heap (cs.take a.size) (us.take a.size):=by have:=Um hr 0 a.size;simpa using this
   have JA:Eb X w π st.heap (cs.drop a.size) (us.drop a.size):=
    ⟨by simp [hr.1],λi c hc=>by
     rw [Ce] at hc⊢
     exact hr.2 _ c hc⟩
   have fX:(cs.take a.size).all (·.settled)=true:=Au.2 λc hc=>Au.1 hs c (Hm hc)
   have nH:(cs.drop a.size).all (·.settled)=true:=Au.2 λc hc=>Au.1 hs c (Zq hc)
   exact ⟨us.take a.size,us.drop a.size,(Ir _ _).symm,(cC _ _ _ _ fX GJ h1).and_left,(cw _ _ _ _ nH JA h2).and_right⟩
  ·cases hv
 |_=>exact λcs us fr x hs hr hv=>one _ cs us fr x rfl hs hr hv
theorem My {st:St} {τ:Ty} {c:AC} (h:c.settled=true):Hc st τ c=Cn st τ c:=by
 cases c<;>simp [AC.settled] at h<;>cases τ<;>rfl
theorem Jz {st:St} (τ:Ty) (c:AV) (v:Value) (fr:Bool) (x:τ.den) (hs:c.settled=true) (hc:Ba X w π st.heap c v)
  (hv:Dz st τ c=some (fr,x)):Ck w (Cb X.w0.heap.size X.Sc π fr) τ v x:=by
 have Le: ∀c:AC,c.settled=true->Fe X w π st.heap c v->(if τ.Ak then none else Hc st τ c)=some (fr,x)->Ck w (Cb X.w0.heap.size X.Sc π fr) τ v x:=by
  intro c hs hc hv
  split at hv
  ·cases hv
  ·rename_i Pp
   simp only [Gt] at Pp
   rw [My hs] at hv
   exact Ck.ix Pp (dY τ c v fr x Pp hs hc hv)
 cases c with
 | «at»c=>
  cases c with
  |data Rj Lg y=>
   rw [Yx] at hv
   split at hv
   ·rename_i ht;subst ht
    simp only [Aa,Ab] at hv
    obtain ⟨rfl,rfl⟩:=hv
    cases hf:Lg.flat with
    |true=>exact Ck.flat hf hc
    |false=>rw [cz];exact hc
   ·exact Le (.data Rj Lg y) hs hc hv
  |Jf=>exact Le .Jf hs hc hv
  |Qx=>exact Le .Qx hs hc hv
  |undef=>simp [AV.settled,AC.settled] at hs
  |skip=>simp [AV.settled,AC.settled] at hs
  |own l off len=>simp [AV.settled,AC.settled] at hs
  |Ez l i=>simp [AV.settled,AC.settled] at hs
  |Hj l i=>simp [AV.settled,AC.settled] at hs
  |clo f Cx=>simp [AV.settled,AC.settled] at hs
  |Hv l=>simp [AV.settled,AC.settled] at hs
  |sub l i c=>simp [AV.settled,AC.settled] at hs
  |Hf l i c=>simp [AV.settled,AC.settled] at hs
 |agg cs=>
  simp only [Dz] at hv
  split at hv
  ·rename_i Pp
   obtain ⟨us,rfl,hr⟩:=hc
   exact ⟨us,Rz τ cs us fr x hs hr hv,by simp [Bi,Pp]⟩
  ·cases hv
 |Wh Rj Lg y=>simp [Dz] at hv
 |Jy l=>simp [Dz] at hv
theorem aH {st:St} : ∀(τ:Ty) (cs:List AV) (vs:List Value) (fr:Bool) (x:τ.den),cs.length=vs.length->cs.all (·.settled)=true->
  (∀(i:Nat) c v,cs[i]?=some c->vs[i]?=some v->Ba X w π st.heap c v)->Cs st τ cs=some (fr,x)->Bv w (Cb X.w0.heap.size X.Sc π false) τ vs x
 | .unit,[],vs,fr,x,hl,hs,hr,hv=>by
  have:vs= []:=Cj hl.symm
  subst this;trivial
 | .unit,_::_,vs,fr,x,hl,hs,hr,hv=>by simp [Cs] at hv
 | .pair a r,[],vs,fr,x,hl,hs,hr,hv=>by simp [Cs] at hv
 | .pair a r,c::cs,[],fr,x,hl,hs,hr,hv=>by simp at hl
 | .pair a r,c::cs,v::vs,fr,x,hl,hs,hr,hv=>by
  simp only [Cs] at hv
  split at hv
  ·rename_i f1 y f2 z h1 h2
   simp only [Aa,Ab] at hv
   obtain ⟨rfl,rfl⟩:=hv
   simp only [Gu,Ag] at hs
   exact ⟨(Jz a c v f1 y hs.1 (hr 0 c v rfl rfl) h1).Gj (λk _ hk=>by
     rcases hk with h|h|⟨h,_⟩
     ·exact .inl h
     ·exact .inr (.inl h)
     ·cases h),
    aH r cs vs f2 z (by simpa using hl) hs.2 (λi c' v' hc tq=>hr (i+1) c' v' hc tq) h2⟩
  ·cases hv
 | .int _,cs,vs,fr,x,hl,hs,hr,hv=>by cases cs<;>simp [Cs] at hv
 | .bool,cs,vs,fr,x,hl,hs,hr,hv=>by cases cs<;>simp [Cs] at hv
 | .str,cs,vs,fr,x,hl,hs,hr,hv=>by cases cs<;>simp [Cs] at hv
 | .slice _,cs,vs,fr,x,hl,hs,hr,hv=>by cases cs<;>simp [Cs] at hv
 | .ptr _,cs,vs,fr,x,hl,hs,hr,hv=>by cases cs<;>simp [Cs] at hv
 | .oslice _,cs,vs,fr,x,hl,hs,hr,hv=>by cases cs<;>simp [Cs] at hv
 | .optr _,cs,vs,fr,x,hl,hs,hr,hv=>by cases cs<;>simp [Cs] at hv
 | .smap _,cs,vs,fr,x,hl,hs,hr,hv=>by cases cs<;>simp [Cs] at hv
 | .clo _ _,cs,vs,fr,x,hl,hs,hr,hv=>by cases cs<;>simp [Cs] at hv
theorem dL {st:St} {a:Act} (h:Ax X π st a w) (args:List Operand) (i:Nat) (c:AV) (v:Value) (hc:(args.map st.ev)[i]?=some c) (hv:(args.map a.eval)[i]?=some v):Ba X w π st.heap c v:=by
 rw [Et] at hc hv
 cases hi:args[i]? with
 |none=>rw [hi] at hc;cases hc
 |some o=>
  rw [hi] at hc hv
  simp only [Ah,Aa] at hc hv
  subst hc;subst hv
  exact Co h.2 o
theorem Vk {Γ:Env} (Ls:Ib P Γ) {st:St} {a:Act} (h:Ax X π st a w) (f:FuncId) (cs:List AV) (vs:List Value) (hlen:cs.length=vs.length)
  (JB: ∀(i:Nat) c v,cs[i]?=some c->vs[i]?=some v->Ba X w π st.heap c v) (av:AV) (he:Lq Γ st f cs=some av):
  (∀vs w,(callFunc f vs).run P w= .ok (.enter f vs) w)/\
  Calls P f vs.toArray w (λe kF=> ∃v,e= .returned v/\Below w.heap.size w kF/\Ba X kF π st.heap av v):=by
 unfold Lq at he
 split at he
 ·rename_i s hs
  have snd:Sound P f s:=Ls f _ hs
  refine ⟨snd.enter,?_⟩
  split at he
  ·rename_i Ha
   split at he
   ·cases he
   ·rename_i nO x hx
    cases hy:s.fn x with
    |none=>rw [hy] at he;cases he
    |some y=>
     rw [hy] at he
     simp only [Ah,Aa] at he
     have kT: ∀(S:Nat->Prop),(∀k,S k->k<w.heap.size)->Bv w S s.arg vs x->(s.fresh=true\/s.res.flat=true\/ ∀k,Cb X.w0.heap.size X.Sc π false k->S k)->
       Calls P f vs.toArray w (λe kF=> ∃v,e= .returned v/\Below w.heap.size w kF/\Ba X kF π st.heap av v):=by
      intro S VC No XQ
      refine (snd.calls w S _ x y VC No hy).mono ?_
      rintro e kF ⟨v,rfl,hb,hr⟩
      refine ⟨v,rfl,hb,?_⟩
      have hA:s.res.flat=true\/ ∀k,k<kF.heap.size->Cb X.w0.heap.size X.Sc π (s.fresh||s.res.flat) k->(S k\/(s.fresh=true/\k<w.heap.size)):=by
       cases hf:s.res.flat with
       |true=>exact .inl rfl
       |false=>
        right
        intro k _ hk
        cases tf:s.fresh with
        |true=>
         right
         refine ⟨rfl,?_⟩
         rcases hk with ⟨l,r,hl,hg⟩|hk|⟨_,hk⟩
         ·exact (h.1.own ⟨l,r,hl,hg⟩).1
         ·have:=h.1.sc k hk;have:=h.1.below.size;omega
         ·have:=h.1.below.size;omega
        |false=>
         left
         have mc:Cb X.w0.heap.size X.Sc π false k:=by simpa [tf,hf] using hk
         rcases XQ with h1|h1|h1
         ·rw [tf] at h1;cases h1
         ·rw [hf] at h1;cases h1
         ·exact h1 k mc
      unfold fG at hr
      subst he
      split
      ·rename_i hm
       rw [Af hm] at hr
       obtain ⟨us,rfl,hr⟩:=hr
       refine ⟨us,rfl,?_⟩
       rcases hA with hf|hA
       ·exact Bv.flat _ _ _ hf hr
       ·exact hr.Gj hA
      ·rename_i hm
       rw [Aj hm] at hr
       rcases hA with hf|hA
       ·exact Ck.flat hf hr
       ·exact hr.Gj hA
     cases VX:(s.fresh||s.res.flat) with
     |true=>
      refine kT (λ_=>False) (λ_ h=>h.elim) (Vu h.1 s.arg _ _ nO x hlen JB hx ⟨λ_ h=>h.elim, .inr λ_ h=>h.elim⟩) ?_
      simp only [Ja] at VX
      rcases VX with h1|h1
      ·exact .inl h1
      ·exact .inr (.inl h1)
     |false=>
      rw [VX,Wj] at Ha
      refine kT (Cb X.w0.heap.size X.Sc π false) (λk hk=>?_) (aH s.arg _ _ nO x hlen Ha JB hx) (.inr (.inr λ_ hk=>hk))
      rcases hk with ⟨l,r,hl,hg⟩|hk|⟨hk,_⟩
      ·exact (h.1.own ⟨l,r,hl,hg⟩).1
      ·have:=h.1.sc k hk;have:=h.1.below.size;omega
      ·cases hk
  ·cases he
 ·cases he
theorem lN {fr:Bool} : ∀(τ:Ty) (us:List Value) (x:τ.den),(∀a r,τ≠ .pair a r->True)->Cells w (Cb X.w0.heap.size X.Sc π fr) τ us x->τ.chain=true->
  (Wq fr τ x).length=us.length/\ ∀(i:Nat) c v,(Wq fr τ x)[i]?=some c->us[i]?=some v->Ba X w π H c v
 | .unit,us,x,_,hc,_=>by
  simp only [Cells] at hc
  subst hc
  exact ⟨rfl,λi c v h=>by simp [Wq] at h⟩
 | .pair a r,us,x,_,hc,OX=>by
  simp only [Cells] at hc
  simp only [Ty.chain,Ag,Ds] at OX
  obtain ⟨c1,c2,rfl,h1,h2⟩:=hc
  have hl:=Cells.len a c1 x.1 h1
  have h3:a.size=1:=by cases a<;>simp_all [Ty.Ak,Ty.size]
  rw [h3] at hl
  obtain ⟨u,rfl⟩:=Cv.1 hl
  obtain ⟨h4,h5⟩:=lN r c2 x.2 (λ_ _ _=>trivial) h2 OX.2
  refine ⟨by simp [Wq,h4],λi c v hc hv=>?_⟩
  rcases i with _|i
  ·simp only [Wq,Bd,Aa] at hc
   simp only [List.singleton_append,Bd,Aa] at hv
   subst hc;subst hv
   exact ⟨[u],h1,by simp [Bi,OX.1]⟩
  ·simp only [Wq,Jq] at hc
   simp only [List.singleton_append,Jq] at hv
   exact h5 i c v hc hv
 | .int _,_,_,_,_,h=>by simp [Ty.chain] at h
 | .bool,_,_,_,_,h=>by simp [Ty.chain] at h
 | .str,_,_,_,_,h=>by simp [Ty.chain] at h
 | .slice _,_,_,_,_,h=>by simp [Ty.chain] at h
 | .oslice _,_,_,_,_,h=>by simp [Ty.chain] at h
 | .ptr _,_,_,_,_,h=>by simp [Ty.chain] at h
 | .optr _,_,_,_,_,h=>by simp [Ty.chain] at h
 | .smap _,_,_,_,_,h=>by simp [Ty.chain] at h
 | .clo _ _,_,_,_,_,h=>by simp [Ty.chain] at h
theorem cK {cs ds:List AV} {vs us:List Value} (hl:cs.length=vs.length) (h1: ∀(i:Nat) c v,cs[i]?=some c->vs[i]?=some v->Ba X w π H c v)
  (h2: ∀(i:Nat) c v,ds[i]?=some c->us[i]?=some v->Ba X w π H c v) (i:Nat) (c:AV) (v:Value) (hc:(cs++ds)[i]?=some c) (hv:(vs++us)[i]?=some v):Ba X w π H c v:=by
 by_cases hi:i<cs.length
 ·rw [Am hi] at hc
  rw [Am (by omega)] at hv
  exact h1 i c v hc hv
 ·rw [Al (by omega)] at hc
  rw [Al (by omega)] at hv
  rw [hl] at hc
  exact h2 _ c v hc hv
theorem nK {Γ:Env} (Ls:Ib P Γ) {st:St} {a:Act} (h:Ax X π st a w) (c:AV) (v:Value) (hv:Ba X w π st.heap c v) (args:List Operand) (av:AV) (he:Sq Γ st c (args.map st.ev)=some av):
  ∃f bs us,v= .func (.func f) (bs:List Value).toArray (us:List Value).toArray/\(∀vs w,(callFunc f vs).run P w= .ok (.enter f vs) w)/\
  Calls P f (bs++args.map a.eval++us).toArray w (λe kF=> ∃v,e= .returned v/\Below w.heap.size w kF/\Ba X kF π st.heap av v):=by
 unfold Sq at he
 split at he
 ·rename_i fr f τ x
  split at he
  ·rename_i OX
   obtain ⟨cs,hc,rfl⟩:=hv
   simp only [Cells] at hc
   obtain ⟨us,rfl,hc⟩:=hc
   obtain ⟨h1,h2⟩:=lN (H:=st.heap) τ us x (λ_ _ _=>trivial) hc OX
   by_cases hf:f<1000000000
   ·rw [Af hf] at he
    have:=Vk Ls h f _ (args.map a.eval++us) (by simp [h1]) (cK (by simp) (dL h args) h2) av he
    exact ⟨f,[],us,by simp [Bi,Ty.Ak,cR hf],by simpa using this⟩
   ·rw [Aj hf] at he
    have:=Vk Ls h (f-1000000000) _ (us++args.map a.eval) (by simp [h1]) (cK h1 h2 (dL h args)) av he
    exact ⟨f-1000000000,us,[],by simp [Bi,Ty.Ak,aU hf],by simpa using this⟩
  ·cases he
 ·rename_i f Cx
  obtain ⟨us,rfl,h1,h2⟩:=hv
  have:=Vk Ls h f _ (args.map a.eval++us) (by simp [h1]) (cK (by simp) (dL h args) (λi c v hc hv=>by
   rw [Et] at hc
   cases hi:Cx[i]? with
   |none=>rw [hi] at hc;cases hc
   |some p=>
    rw [hi] at hc
    simp only [Ah,Aa] at hc
    subst hc
    obtain ⟨r,tid,vs,h3,h4,h5⟩:=h2 i p hi
    rw [h5] at hv
    simp only [Aa] at hv
    subst hv
    exact ⟨r,tid,vs,h3,h4,rfl⟩)) av he
  exact ⟨f,[],us,rfl,by simpa using this⟩
 ·cases he
theorem rG (ρ:Operand->Value) (t:Nat) (f:FuncId) (bs us:List Value) (args:Array Operand) (ts:Array TypeId) (dst:Option Tmp) (ty:TypeId) (pos:String) (af:Array Edge) (gd:Option (Nat×Bool))
  (QY:ρ (.tmp t)= .func (.func f) bs.toArray us.toArray) (hc: ∀vs w,(callFunc f vs).run P w= .ok (.enter f vs) w):
  (execOp ρ ⟨dst, .call {callee:= .value (.tmp t),args:=args,argTypes:=ts},ty,pos,af,gd⟩).run P w= .ok (.enter f (bs++args.toList.map ρ++us).toArray) w:=by
 have:bs.toArray++(args.map ρ)++us.toArray=(bs++args.toList.map ρ++us).toArray:=by apply Ma;simp
 simp [execOp,resolve,Deferred.ofValue,QY,invoke,hc,this]
theorem lO {st:St} {a:Act} (h:Ax X π st a w): ∀(l:List Operand) (c:List (Nat×Nat)),fO (l.map st.ev)=some c->
  (l.map a.eval).length=c.length/\ ∀(j:Nat) p,c[j]?=some p-> ∃r tid vs,Ap st.heap p.1=some (.var tid vs)/\π p.1=some r/\(l.map a.eval)[j]?=some (.pointer (some ⟨r.g,p.2,none⟩))
 | [],c,he=>by simp only [List.map_nil,fO,Aa] at he;subst he;exact ⟨rfl,λj p hp=>by simp at hp⟩
 |x::l,c,he=>by
  simp only [Bl] at he
  unfold fO at he
  split at he
  ·rename_i heq;simp at heq
  ·rename_i k i r heq
   simp only [Es] at heq
   obtain ⟨h1,rfl⟩:=heq
   cases hr:fO (l.map st.ev) with
   |none=>rw [hr] at he;cases he
   |some c'=>
    rw [hr] at he
    simp only [Ah,Aa] at he
    subst he
    obtain ⟨h2,h3⟩:=lO h l c' hr
    have e:=Co h.2 x
    rw [h1] at e
    obtain ⟨r,tid,vs,h4,h5,h6⟩:=e
    refine ⟨by simpa using h2,λj p hp=>?_⟩
    rcases j with _|j
    ·simp only [Bd,Aa] at hp;subst hp
     exact ⟨r,tid,vs,h4,h5,by rw [Bl,Bd,h6]⟩
    ·exact h3 j p hp
  ·cases he
theorem vd (a b:ByteArray):(a==b)=decide (a=b):=by
 obtain ⟨a⟩:=a;obtain ⟨b⟩:=b
 show ByteArray.beq _ _=_
 unfold ByteArray.beq
 by_cases h:a=b
 ·subst h;simp
 ·rw [La (by simpa using h)];simpa using h
theorem dc (s:ByteArray): ∀(es:List MapEntry) (i:Nat),(∀e∈es,(Pg e.key).isSome=true)->
  ∃r,Instr.findNow .string (.string s) es i=some r/\r.map (·.2)=Nq es s/\(∀j v,r=some (j,v)->i<=j/\(∃e,es[j-i]?=some e/\e.key= .string s)/\ ∀k e,k<j-i->es[k]?=some e->Pg e.key≠some s)
 | [],i,_=>⟨none,rfl,rfl,λj v h=>by cases h⟩
 |e::es,i,h=>by
  have he:=h e (by simp)
  have hk: ∃t,e.key= .string t:=by
   unfold Pg at he
   split at he
   ·exact ⟨_,by assumption⟩
   ·cases he
  obtain ⟨t,hk⟩:=hk
  simp only [Instr.findNow,hk,Instr.sameNow]
  by_cases Yi:s=t
  ·subst Yi
   have hb:(s==s)=true:=by rw [vd];simp
   rw [hb]
   refine ⟨some (i,e.val),rfl,by simp [Nq,hk,Pg],λj v hj=>?_⟩
   simp only [Aa,Ab] at hj
   obtain ⟨rfl,rfl⟩:=hj
   exact ⟨Ao _,⟨e,by simp,hk⟩,λk e h=>by omega⟩
  ·obtain ⟨r,h1,h2,h3⟩:=dc s es (i+1) λe he=>h e (by simp [he])
   have hb:(s==t)=false:=by rw [vd];simpa using Yi
   rw [hb]
   refine ⟨r,h1,?_,λj v hj=>?_⟩
   ·rw [h2]
    simp only [Nq,hk,Pg]
    rw [Aj (by simpa using λe:t=s=>Yi e.symm)]
   ·obtain ⟨h4,⟨e',h5,h6⟩,h7⟩:=h3 j v hj
    refine ⟨by omega,⟨e',by rw [show j-i=(j-(i+1))+1 by omega,Jq];exact h5,h6⟩,λk e2 TB NL=>?_⟩
    rcases k with _|k
    ·simp only [Bd,Aa] at NL
     subst NL
     rw [hk]
     simpa [Pg] using λe:t=s=>Yi e.symm
    ·exact h7 k e2 (by omega) (by simpa using NL)
theorem bC {g:Nat} {es:Array MapEntry} {clock:Nat} (h:w.heap[g]?=some (.map es clock)):(getObj g).run P w= .ok (.map es clock) w:=by simp [getObj,Sem.run,h]
theorem Re {k:TypeId} (hk:P.underlying k=some .string) (b:Bool) (s:ByteArray) (w:World):(Instr.checkKey b 10000 k (.string s)).run P w= .ok () w:=by
 rw [show (10000:Nat)=9999+1 from rfl]
 unfold Instr.checkKey
 rw [Sem.run_bind,run_underlying hk]
 rfl
theorem lV (hT:De P T) {st:St} {a:Act} (h:Ax X π st a w) (t:TypeId) (m k:AV) (ok:Bool) (vm vk:Value) (av:AV) (hm:Ba X w π st.heap m vm) (hk:Ba X w π st.heap k vk)
  (he:aV T st t m k ok=some av): ∃v,(Instr.lookup t vm vk ok).run P w= .ok v w/\Ba X w π st.heap av v:=by
 unfold aV at he
 split at he
 ·rename_i vt fr s ht
  have:=bw hk;subst this
  obtain ⟨kt,et,h1,h2,h3,h4,h5⟩:=hT.mapOf t vt ht
  split at he
  ·rename_i l8 f hv
   simp only [Aa] at he
   have hr:=Tl h.1 (S:= λ_=>False) (.smap vt) m vm l8 f hm hv ⟨λ_ h=>h.elim, .inr λ_ h=>h.elim⟩
   obtain ⟨cs,hc,rfl⟩:=hr
   have yz: ∀y:vt.den,∀u,Cells w (λ_=>False) vt [u] y->Ck w (Cb X.w0.heap.size X.Sc π true) vt u y:= λy u hu=>⟨[u],Cells.flat vt [u] y h4 hu,by simp [Bi,h5]⟩
   obtain ⟨inf,hi,Qv,_,mb⟩:=(hT.ty et vt h3).info
   have hzero:(zeroValue et).run P w= .ok (Bi vt (Bb vt)) w:=by simp [zeroValue,typeInfo,hi,mb]
   have BY:Cells w (λ_=>False) vt [Bi vt (Bb vt)] vt.zero:=by
    cases vt<;>first|(simp [Ty.flat] at h4;done)|(simp [Ty.Ak] at h5;done)|(simp [Bi,Ty.Ak,Bb,Cells,Ty.zero];done)
   have fin: ∀(es:List MapEntry),(∀e∈es,(Pg e.key).isSome=true)->(f s=none->Nq es s=none)->(∀y,f s=some y-> ∃u,Nq es s=some u/\Cells w (λ_=>False) vt [u] y)->
     (∀r,(Instr.findKey kt (.string s) es).run P w= .ok r w-> ∀u,r.map (·.2)=(if (f s).isSome then some u else none)->(r=none->u=Bi vt (Bb vt))->
      (Instr.lookup t (Bi (.smap vt) cs) (.string s) ok).run P w= .ok (if ok then .tuple #[u, .bool (f s).isSome] else u) w)->
     ∃v,(Instr.lookup t (Bi (.smap vt) cs) (.string s) ok).run P w= .ok v w/\Ba X w π st.heap av v:=by
    intro es h6 h7 h8 h9
    obtain ⟨r,lb,j9,_⟩:=dc s es 0 h6
    have EY:(Instr.findKey kt (.string s) es).run P w= .ok r w:=by
     unfold Instr.findKey
     simp only [Sem.run_bind,run_underlying h2,Result.andThen_ok,lb,Sem.run_pure]
    have: ∃u,r.map (·.2)=(if (f s).isSome then some u else none)/\(r=none->u=Bi vt (Bb vt))/\Cells w (λ_=>False) vt [u] ((f s).getD vt.zero):=by
     cases hf:f s with
     |none=>
      have OL:=h7 hf
      rw [OL] at j9
      exact ⟨Bi vt (Bb vt),by rw [j9];rfl,λ_=>rfl,BY⟩
     |some y=>
      obtain ⟨u,OL,UO⟩:=h8 y hf
      rw [OL] at j9
      refine ⟨u,by rw [j9];rfl,λ(e:r=none)=>?_,UO⟩
      rw [e] at j9;cases j9
    obtain ⟨u,OL,UO,YS⟩:=this
    have Qw:=h9 r EY u OL UO
    cases ok with
    |true=>
     simp only [Nh] at he Qw
     subst he
     exact ⟨_,Qw,[u, .bool (f s).isSome],rfl,yz _ u YS,⟨[_],rfl,rfl⟩,trivial⟩
    |false=>
     simp only [Ci,Pk] at he Qw
     subst he
     exact ⟨_,Qw,yz _ u YS⟩
   have IW: ∀v,Bi (.smap vt) [v]=v:= λv=>by simp [Bi,Ty.Ak]
   have run: ∀(r:Option (Nat×Value)) (u:Value) (b:Bool),r.map (·.2)=(if b then some u else none)->(r=none->u=Bi vt (Bb vt))->
     (∃j,r=some (j,u)/\b=true)\/(r=none/\b=false/\u=Bi vt (Bb vt)):=by
    intro r u b h6 h7
    cases r with
    |none=>cases b<;>simp at h6⊢;exact h7 rfl
    |some p=>cases b<;>simp at h6⊢;subst h6;exact ⟨p.1,rfl⟩
   simp only [Cells] at hc
   rcases hc with ⟨rfl,hf⟩|⟨g,rfl,hg,_,es,clock,h6,h7,h8,h9⟩
   ·refine fin [] (by simp) (λ_=>rfl) (λy hy=>by rw [hf] at hy;cases hy) λr h6 u h7 h8=>?_
    rcases run r u _ h7 h8 with ⟨j,rfl,hb⟩|⟨rfl,hb,rfl⟩
    ·rw [hf] at hb;cases hb
    ·rw [hb,IW]
     unfold Instr.lookup
     generalize hz:Bi vt (Bb vt)=z at hzero⊢
     simp [run_underlying h1,Re h2,h6,hzero]
   ·refine fin es.toList h7 (λhn=>h8 s hn) (λy hy=>h9 s y hy) λr lb u j9 EY=>?_
    rw [IW]
    unfold Instr.lookup
    rcases run r u _ j9 EY with ⟨j,rfl,hb⟩|⟨rfl,hb,rfl⟩
    ·rw [hb]
     simp [run_underlying h1,Re h2,bC h6,lb]
    ·rw [hb]
     generalize hz:Bi vt (Bb vt)=z at hzero⊢
     simp [run_underlying h1,Re h2,bC h6,lb,hzero]
  ·cases he
 ·cases he
theorem zg (ns:List Int): ∀b:ByteArray,ns.foldl (λr n=>r.push (UInt8.ofNat n.toNat)) b=⟨b.data++(ns.map λn=>UInt8.ofNat n.toNat).toArray⟩:=by
 induction ns with
 |nil=>intro b;simp
 |cons n ns ih=>
  intro b
  rw [Ky,ih]
  simp [ByteArray.push]
theorem vC {s d:TypeId} {v:Value} {xs:List Int} (hT:De P T) (hs:T.ty s=some (.slice (.int .u8))) (hd:T.ty d=some .str) (h:Ck w (λ_=>False) (.slice (.int .u8)) v xs):
  (convert s d v).run P w= .ok (.string (bytesOf xs)) w:=by
 obtain ⟨te,h1,h2,h3⟩:=(hT.ty _ _ hs).desc
 have h4:P.underlying te=some (.int .u8):=(hT.ty _ _ h3).desc
 have h5:P.underlying d=some .string:=(hT.ty _ _ hd).desc
 obtain ⟨cs,hc,rfl⟩:=h
 simp only [Cells] at hc
 obtain ⟨a,len,cap,rfl,hlen,kO,vP⟩:=hc
 simp only [Bi,Ty.Ak,Ci,Pk,cI]
 rw [run_convert_bytes_string w s d te a len cap h1 h4 h5]
 rcases vP with rfl|⟨g,o,rfl,hg,_,Ig⟩
 ·have:len=0:=hlen
  subst this
  cases a with
  |none=>simp [Conv.bytesToString,bytesOf];rfl
  |some a=>
   rw [run_bytesToString w a 0 cap [] (by simp [loadCells,loadCellsFrom])]
   rfl
 ·rw [run_bytesToString w _ len cap xs (by
   have:=run_loadCells_list (P:=P) w ⟨g,o,none⟩ (xs.map (Value.int .u8)) (λj v hv=>by
    rw [Et] at hv
    cases hj:xs[j]? with
    |none=>rw [hj] at hv;cases hv
    |some x=>
     rw [hj] at hv
     simp only [Ah,Aa] at hv
     subst hv
     obtain ⟨es,h6,h7,h8⟩:=Ig j x hj
     have h8:es= [.int .u8 x]:=h8
     subst h8
     rw [Addr.add_lit]
     have:=h7 0 _ rfl
     simpa [Ty.size] using this)
   rw [Nl,<-hlen] at this
   exact this)]
  rw [zg]
  simp [bytesOf]
theorem dO (ρ:Operand->Value) (f:FuncId) (args:Array Operand) (ts:Array TypeId) (dst:Option Tmp) (ty:TypeId) (pos:String) (af:Array Edge) (gd:Option (Nat×Bool))
  (QY:ρ (.func f)= .func (.func f) #[] #[]) (hc: ∀vs w,(callFunc f vs).run P w= .ok (.enter f vs) w):
  (execOp ρ ⟨dst, .call {callee:= .value (.func f),args:=args,argTypes:=ts},ty,pos,af,gd⟩).run P w= .ok (.enter f (args.map ρ)) w:=by
 simp [execOp,resolve,Deferred.ofValue,QY,invoke,hc]
theorem pS {fr:Bool} : ∀(τ:Ty) (x:τ.den) (vs:List Value) (i:Nat) (av:AV),Bv w (Cb X.w0.heap.size X.Sc π fr) τ vs x->Yw fr τ x i=some av->
  ∃v,vs[i]?=some v/\Ba X w π H av v
 | .pair a r,x,[],i,av,h,he=>h.elim
 | .pair a r,x,v::vs,0,av,h,he=>by
  simp only [Yw,Aa] at he;subst he
  exact ⟨v,rfl,mT h.1⟩
 | .pair a r,x,v::vs,i+1,av,h,he=>by
  obtain ⟨u,hu,hr⟩:=pS r x.2 vs i av h.2 he
  exact ⟨u,hu,hr⟩
 | .int _,_,_,i,_,_,he=>by cases i<;>simp [Yw] at he
 | .bool,_,_,i,_,_,he=>by cases i<;>simp [Yw] at he
 | .str,_,_,i,_,_,he=>by cases i<;>simp [Yw] at he
 | .slice _,_,_,i,_,_,he=>by cases i<;>simp [Yw] at he
 | .ptr _,_,_,i,_,_,he=>by cases i<;>simp [Yw] at he
 | .oslice _,_,_,i,_,_,he=>by cases i<;>simp [Yw] at he
 | .optr _,_,_,i,_,_,he=>by cases i<;>simp [Yw] at he
 | .smap _,_,_,i,_,_,he=>by cases i<;>simp [Yw] at he
 | .clo _ _,_,_,i,_,_,he=>by cases i<;>simp [Yw] at he
 | .unit,_,_,i,_,_,he=>by cases i<;>simp [Yw] at he
theorem yK (x:AV) (vx:Value) (n:Int) (hx:Ba X w π H x vx) (h:CL x=some n): ∃a len cap,vx= .slice a len cap/\n=len:=by
 unfold CL at h
 split at h
 ·simp only [Aa] at h;subst h
  exact ⟨none,0,0,hx,rfl⟩
 ·simp only [Aa] at h;subst h
  obtain ⟨cs,hc,rfl⟩:=hx
  simp only [Cells] at hc
  obtain ⟨a,len,cap,rfl,hl,_⟩:=hc
  exact ⟨a,len,cap,by simp [Bi,Ty.Ak],by rw [hl]⟩
 ·rename_i l off len
  simp only [Aa] at h;subst h
  obtain ⟨b,sz,n,_,_,_,ho⟩:=hx
  cases hp:π l with
  |none=>rw [hp] at ho;obtain ⟨rfl,_,rfl⟩:=ho;exact ⟨none,0,0,rfl,rfl⟩
  |some r=>rw [hp] at ho;obtain ⟨ad,rfl,_⟩:=ho;exact ⟨some ad,len,_,rfl,rfl⟩
 ·cases h
theorem mN {c:AV} {v:Value} (h:Ba X w π H c v):Ba X w π H (jq c) v:=by
 unfold jq
 split
 ·rename_i fr e x
  obtain ⟨cs,h1,h2⟩:=h
  rcases h1 with ⟨rfl,c,rfl⟩|⟨xs,ad,len,cap,rfl,rfl,h3,h4,h5⟩
  ·exact ⟨_,⟨none,0,c,rfl,rfl,Zr _, .inl rfl⟩,h2⟩
  ·refine ⟨_,⟨some ad,len,cap,rfl,h3,h4,h5.imp id λ⟨g,o,g1,g2⟩=>⟨g,o,by rw [g1],g2⟩⟩,h2⟩
 ·exact h
theorem tG {st:St} (h:Kc X w π st.heap) (x:AV) (vx:Value) (n:Int) (hx:Ba X w π st.heap x vx) (hn:tF st x=some n): ∃a len cap,vx= .slice a len cap/\n=len:=by
 unfold tF at hn
 split at hn
 ·rename_i l i c
  split at hn
  ·rename_i e te rows kp hl
   simp only [Aa] at hn;subst hn
   unfold St.at at hl
   obtain ⟨r,b,sz,m,g1,g0,g2,g3,⟨g4,_⟩,g5⟩:=hx
   rw [hl] at g1;cases g1
   simp only [OB.c6,Aa,Ab] at g0
   obtain ⟨rfl,rfl⟩:=g0
   have gz:c=0:=by omega
   subst gz
   rw [Dt,Dc] at g5
   obtain ⟨u,R,k1,k2,k3⟩:=hJ h hl g2 g3 (by simp)
   rw [g5] at k1
   have hu:=Aw k1
   subst hu
   cases R with
   |none=>obtain ⟨rfl,_,hh⟩:=k2;exact ⟨none,0,0,rfl,by rw [hh]⟩
   |some q=>obtain ⟨ad,rfl,_⟩:=k2;exact ⟨some ad,_,_,rfl,rfl⟩
  ·cases hn
 ·exact yK x vx n hx hn
theorem yL (x:AV) (vx:Value) (n:Int) (hx:Ba X w π H x vx) (h:xK x=some n): ∃s,vx= .string s/\n=s.size:=by
 unfold xK at h
 split at h
 ·simp only [Aa] at h;subst h
  exact ⟨_,bw hx,rfl⟩
 ·cases h
theorem lW {st:St} {a:Act} (h:Ax X π st a w) (mx:Bool) (args:List Operand) (av:AV) (ts:Array TypeId) (ty:TypeId) (he:qk mx (args.map st.ev)=some av):
  ∃v,(if mx then Builtin.max_ ts ty (args.map a.eval).toArray else Builtin.min_ ts ty (args.map a.eval).toArray).run P w= .ok v w/\Ba X w π st.heap av v:=by
 unfold qk at he
 split at he
 ·rename_i k n k' m heq
  cases args with
  |nil=>simp at heq
  |cons x r=>
   cases r with
   |nil=>simp at heq
   |cons y r=>
    simp only [Bl,Es,List.map_eq_nil_iff] at heq
    obtain ⟨hx,hy,rfl⟩:=heq
    split at he
    ·rename_i hk;subst hk
     simp only [Vi,Aa] at he;subst he
     have e1:=Co h.2 x;rw [hx] at e1
     have e2:=Co h.2 y;rw [hy] at e2
     have e1:=Mn e1
     have e2:=Mn e2
     refine ⟨_,?_,Ke _ _ _⟩
     cases mx<;>simp [Builtin.max_,Builtin.min_,Builtin.max2,Builtin.min2,e1,e2]
    ·cases he
 ·cases he
theorem db {Γ:Env} (hT:De P T) (Ls:Ib P Γ) {st:St} {a:Act} (h:Ax X π st a w) (o:Oper) (av:AV) (he:Dq T Γ st o=some av):
  xe P X π st.heap w av ((execOp a.eval o).run P w):=by
 obtain ⟨dst,op,ty,pos,af,gd⟩:=o
 have val: ∀(s:Sem Value) (v:Value),s.run P w= .ok v w->Ba X w π st.heap av v->(execOp a.eval ⟨dst,op,ty,pos,af,gd⟩=do pure (.value (<-s)))->
   xe P X π st.heap w av ((execOp a.eval ⟨dst,op,ty,pos,af,gd⟩).run P w):=by
  intro s v h1 h2 h3
  rw [h3,Sem.run_bind,h1]
  exact ⟨rfl,h2⟩
 unfold Dq at he
 split at he
 all_goals (rename_i lh;dsimp only at lh;try subst lh)
 ·
  simp only [Aa] at he;subst he
  exact ⟨rfl,Co h.2 _⟩
 ·
  simp only [Aa] at he;subst he
  exact ⟨rfl,Co h.2 _⟩
 ·
  rename_i c x y
  unfold aa at he
  split at he
  ·rename_i fr b hc
   simp only [Aa] at he;subst he
   have e:=Co h.2 c
   rw [hc] at e
   have e:=Un e
   have:(execOp a.eval ⟨dst, .pick c x y,ty,pos,af,gd⟩).run P w= .ok (.value (if b then a.eval x else a.eval y)) w:=by
    simp [execOp,e,asBool]
   rw [this]
   refine ⟨rfl,?_⟩
   cases b
   ·exact Co h.2 y
   ·exact Co h.2 x
  ·cases he
 ·
  obtain ⟨v,h1,h2⟩:=gR hT h _ _ _ _ (Co h.2 _) he
  exact val _ v h1 h2 rfl
 ·
  rename_i x
  have e:=Co h.2 x
  split at he
  ·rename_i fr τ y hx
   simp only [Aa] at he;subst he
   rw [hx] at e
   have e':=e
   obtain ⟨cs,hc,hv⟩:=e
   simp only [Cells] at hc
   obtain ⟨g,o,rfl,_⟩:=hc
   simp only [Bi,Ty.Ak,Ci,Pk,cI] at hv
   have:(execOp a.eval ⟨dst, .nilCheck x,ty,pos,af,gd⟩).run P w= .ok (.value (a.eval x)) w:=by simp [execOp,hv]
   rw [this];exact ⟨rfl,e'⟩
  ·rename_i fr τ y hx
   simp only [Aa] at he;subst he
   rw [hx] at e
   obtain ⟨cs,hc,hv⟩:=e
   simp only [Cells] at hc
   rcases hc with ⟨h0,_⟩|⟨y',g,o,h0,rfl,hr⟩
   ·cases h0
   simp only [Aa] at h0;subst h0
   simp only [Bi,Ty.Ak,Ci,Pk,cI] at hv
   have:(execOp a.eval ⟨dst, .nilCheck x,ty,pos,af,gd⟩).run P w= .ok (.value (a.eval x)) w:=by simp [execOp,hv]
   rw [this];exact ⟨rfl,[_],⟨g,o,rfl,hr⟩,by rw [hv];simp [Bi,Ty.Ak]⟩
  ·rename_i l i hx
   simp only [Aa] at he;subst he
   rw [hx] at e
   have e':=e
   obtain ⟨r,tid,vs,_,_,hv⟩:=e
   have:(execOp a.eval ⟨dst, .nilCheck x,ty,pos,af,gd⟩).run P w= .ok (.value (a.eval x)) w:=by simp [execOp,hv]
   rw [this];exact ⟨rfl,e'⟩
  ·rename_i l i hx
   simp only [Aa] at he;subst he
   rw [hx] at e
   have e':=e
   obtain ⟨r,b,sz,n,_,_,_,_,hv⟩:=e
   have:(execOp a.eval ⟨dst, .nilCheck x,ty,pos,af,gd⟩).run P w= .ok (.value (a.eval x)) w:=by simp [execOp,hv]
   rw [this];exact ⟨rfl,e'⟩
  ·cases he
 ·
  obtain ⟨v,h1,h2⟩:=qi (P:=P) hT _ _ _ _ _ _ _ _ av (Co h.2 _) (Co h.2 _) he
  exact val _ v h1 h2 rfl
 ·
  obtain ⟨v,h1,h2⟩:=vI (P:=P) _ _ _ av (Co h.2 _) he
  exact val _ v h1 h2 rfl
 ·
  rename_i s t x
  split at he
  ·rename_i σ k HX k1 n hs ht hx
   simp only [Vi,Aa] at he;subst he
   have e:=Co h.2 x
   rw [hx] at e
   have e:=Mn e
   have hd:P.underlying t=some (.int k):=(hT.ty _ _ ht).desc
   have XG:(P.underlying s).isSome=true:=by
    obtain ⟨i,hi,_⟩:=(hT.ty _ _ hs).info
    have:=(hT.ty _ _ hs).desc
    cases σ<;>simp only at this
    all_goals first
     |(rw [this];rfl)
     |(obtain ⟨_,this,_⟩:=this;rw [this];rfl)
     |(obtain ⟨_,this⟩:=this;rw [this];rfl)
     |(obtain ⟨_,_,this⟩:=this;rw [this];rfl)
     |exact this.elim
   exact val _ (.int k (k.wrap n)) (by
    obtain ⟨d,SR⟩:=Option.isSome_iff_exists.1 XG
    rw [e];simp [convert,run_underlying SR,run_underlying hd,Conv.intToInt]) (Ke _ _ _) rfl
  ·rename_i _ _ hs ht
   cases hv:Dz st (.slice (.int .u8)) (st.ev x) with
   |none=>rw [hv] at he;cases he
   |some p=>
    rw [hv] at he
    simp only [Ah,Aa] at he;subst he
    have e:=Co h.2 x
    have hr:=Tl h.1 (S:= λ_=>False) _ _ _ p.1 p.2 e hv ⟨λ_ h=>h.elim, .inr λ_ h=>h.elim⟩
    exact val _ _ (vC hT hs ht hr) (gj _ _) rfl
  ·cases he
 ·
  rename_i t x lo hi mx
  split at he
  ·cases he
  ·rename_i ZR
   simp only [Gt,Option.isSome_eq_false_iff,Option.isNone_iff_eq_none] at ZR
   subst ZR
   obtain ⟨v,h1,h2⟩:=nN hT h t _ _ lo hi av (Co h.2 x) he
   exact val _ v h1 h2 rfl
 ·
  obtain ⟨v,h1,h2⟩:=Yc hT _ _ _ _ av (Co h.2 _) he
  exact val _ v (h1 w) h2 rfl
 ·
  obtain ⟨v,h1,h2⟩:=nL hT _ _ _ _ av (Co h.2 _) he
  exact val _ v h1 h2 rfl
 ·
  obtain ⟨v,h1,h2⟩:=gQ hT h _ _ _ _ _ av (mN (Co h.2 _)) (Co h.2 _) he
  exact val _ v h1 h2 rfl
 ·
  rename_i t x i
  unfold ef at he
  split at he
  ·rename_i HX s l8 k n hx hi
   split at he
   ·rename_i Sw
    split at he
    ·rename_i h0
     cases hb:s[n.toNat]? with
     |none=>rw [hb] at he;cases he
     |some b=>
      rw [hb] at he
      simp only [Ah,Aa] at he;subst he
      have e1:=Co h.2 x;rw [hx] at e1
      have e2:=Co h.2 i;rw [hi] at e2
      have e1:=bw e1
      have e2:=Mn e2
      have hu:P.underlying t=some .string:=(hT.ty _ _ Sw).desc
      have h0':(0:Int)<=n:=h0
      exact val _ (.int .u8 b.toNat) (by
       rw [e1,e2]
       simp only [Instr.index,Sem.run_bind,asIntOf,Sem.run_pure,Result.andThen_ok,run_underlying hu]
       simp only [Af h0',hb,Sem.run_pure]) (Ke _ _ _) rfl
    ·cases he
   ·cases he
  ·cases he
 ·
  rename_i x i
  split at he
  ·rename_i fr τ y hx
   have e:=Co h.2 x
   rw [hx] at e
   obtain ⟨vs,hv,hr⟩:=e
   obtain ⟨u,hu,eH⟩:=pS (H:=st.heap) τ y vs i av hr he
   exact val _ u (by rw [hv];simp [Instr.extract,hu]) eH rfl
  ·rename_i l hx
   have e:=Co h.2 x
   rw [hx] at e
   obtain ⟨vs,hv,hlen,hr⟩:=e
   unfold EI at he
   cases hp:l[i]? with
   |none=>rw [hp] at he;cases he
   |some p=>
    rw [hp] at he
    simp only [Dw] at he
    have hi:i<vs.length:=by have:=(Ai.1 hp).1;omega
    have hu:=Ac hi
    have eH:=hr i p _ hp hu
    refine val _ vs[i] (by rw [hv];simp [Instr.extract,hu]) ?_ rfl
    obtain ⟨b,cs⟩:=p
    unfold OF at he
    split at he
    ·rename_i cX heq
     simp only [Ab] at heq
     obtain ⟨rfl,rfl⟩:=heq
     simp only [Aa] at he;subst he
     exact eH
    ·rename_i c heq
     simp only [Ab] at heq
     obtain ⟨rfl,rfl⟩:=heq
     simp only [Aa] at he;subst he
     exact eH c rfl
    ·cases he
  ·cases he
 ·
  rename_i f args ts
  have:=Vk Ls h f (args.toList.map st.ev) (args.toList.map a.eval) (by simp) (dL h _) av he
  rw [dO a.eval f args ts dst ty pos af gd rfl this.1]
  refine ⟨rfl,?_⟩
  have h2:=this.2
  rwa [show (args.toList.map a.eval).toArray=args.map a.eval from by apply Ma;simp] at h2
 ·
  rename_i t args ts
  obtain ⟨f,bs,us,h1,h2,h3⟩:=nK Ls h _ _ (Co h.2 (.tmp t)) args.toList av he
  rw [rG a.eval t f bs us args ts dst ty pos af gd h1 h2]
  exact ⟨rfl,h3⟩
 ·
  rename_i f first Cx
  split at he
  ·rename_i fV
   replace fV:first= #[]:=by simpa using fV
   cases hc:fO (Cx.toList.map st.ev) with
   |none=>rw [hc] at he;cases he
   |some c=>
    rw [hc] at he
    simp only [Ah,Aa] at he;subst he
    obtain ⟨h1,h2⟩:=lO h _ _ hc
    subst fV
    refine val (Instr.makeFunc (.func f) #[] (Cx.map a.eval)) (.func (.func f) #[] (Cx.map a.eval)) rfl ⟨Cx.toList.map a.eval,?_,h1,h2⟩ (by simp [execOp])
    congr 1
    apply Ma;simp
  ·rename_i fr τ x fV
   split at he
   ·rename_i qv
    simp only [Aa] at he;subst he
    simp only [Ag,Ds,Array.isEmpty_iff] at qv
    obtain ⟨OU,Pp⟩:=qv
    subst OU
    obtain ⟨o,rfl,vN⟩: ∃o,first= #[o]/\st.ev o= .at (.data fr τ x):=by
     obtain ⟨l⟩:=first
     cases l with
     |nil=>simp at fV
     |cons o r=>
      cases r with
      |nil=>exact ⟨o,rfl,by simpa using fV⟩
      |cons _ _=>simp at fV
    have hr:=Co h.2 o
    rw [vN] at hr
    refine val (Instr.makeFunc (.func f) #[a.eval o] #[]) (.func (.func f) #[a.eval o] #[]) rfl ⟨[qg (f+1000000000) [a.eval o]],?_,?_⟩ (by simp [execOp])
    ·simp only [Cells]
     exact ⟨[a.eval o],rfl,[a.eval o],[],rfl,Ck.Oc Pp hr,rfl⟩
    ·rw [aU (by omega)];simp [Bi,Ty.Ak]
   ·cases he
  ·cases he
 ·
  obtain ⟨v,h1,h2⟩:=lV hT h _ _ _ _ _ _ _ (Co h.2 _) (Co h.2 _) he
  exact val _ v h1 h2 rfl
 ·
  rename_i args ts
  split at he
  ·rename_i x t No nT
   have e1:args= #[x]:=by apply Ma;simpa using No
   have e2:ts= #[t]:=by apply Ma;simpa using nT
   subst e1;subst e2
   split at he
   ·rename_i e Sw
    cases hn:tF st (st.ev x) with
    |none=>rw [hn] at he;cases he
    |some n=>
     rw [hn] at he
     simp only [Dw,Vi,Aa] at he;subst he
     obtain ⟨te,hu,_⟩:=(hT.ty _ _ Sw).desc
     obtain ⟨ad,len,cap,hv,rfl⟩:=tG h.1 _ _ n (Co h.2 x) hn
     refine val (Builtin.len_ #[t] ty #[a.eval x]) (.int .i64 len) ?_ (Ke _ _ _) ?_
     ·rw [hv];simp [Builtin.len_,run_underlying hu,goInt]
     ·simp [execOp,resolve,invoke,builtin]
   ·rename_i e Sw
    cases hn:tF st (jq (st.ev x)) with
    |none=>rw [hn] at he;cases he
    |some n=>
     rw [hn] at he
     simp only [Dw,Vi,Aa] at he;subst he
     obtain ⟨te,hu,_⟩:=(hT.ty _ _ Sw).desc
     obtain ⟨ad,len,cap,hv,rfl⟩:=tG h.1 _ _ n (mN (Co h.2 x)) hn
     refine val (Builtin.len_ #[t] ty #[a.eval x]) (.int .i64 len) ?_ (Ke _ _ _) ?_
     ·rw [hv];simp [Builtin.len_,run_underlying hu,goInt]
     ·simp [execOp,resolve,invoke,builtin]
   ·rename_i Sw
    cases hn:xK (st.ev x) with
    |none=>rw [hn] at he;cases he
    |some n=>
     rw [hn] at he
     simp only [Dw,Vi,Aa] at he;subst he
     have hu:P.underlying t=some .string:=(hT.ty _ _ Sw).desc
     obtain ⟨s,hv,rfl⟩:=yL _ _ n (Co h.2 x) hn
     refine val (Builtin.len_ #[t] ty #[a.eval x]) (.int .i64 s.size) ?_ (Ke _ _ _) ?_
     ·rw [hv];simp [Builtin.len_,run_underlying hu,goInt]
     ·simp [execOp,resolve,invoke,builtin]
   ·cases he
  ·cases he
 ·
  rename_i args ts
  obtain ⟨v,h1,h2⟩:=lW (P:=P) h false args.toList av ts ty he
  rw [show (args.toList.map a.eval).toArray=args.map a.eval from by apply Ma;simp] at h1
  refine val (Builtin.min_ ts ty (args.map a.eval)) v (by simpa only [Ci,Pk,Nh] using h1) h2 ?_
  simp [execOp,resolve,invoke,builtin]
 ·
  rename_i args ts
  obtain ⟨v,h1,h2⟩:=lW (P:=P) h true args.toList av ts ty he
  rw [show (args.toList.map a.eval).toArray=args.map a.eval from by apply Ma;simp] at h1
  refine val (Builtin.max_ ts ty (args.map a.eval)) v (by simpa only [Ci,Pk,Nh] using h1) h2 ?_
  simp [execOp,resolve,invoke,builtin]
 ·cases he
end
end Go.Proofs.Ytfgfigkbgecfnaa
