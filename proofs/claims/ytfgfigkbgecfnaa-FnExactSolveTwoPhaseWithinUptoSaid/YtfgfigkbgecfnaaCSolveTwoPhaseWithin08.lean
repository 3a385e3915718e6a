/-
  Part 9 of the proof that the statement FnExactSolveTwoPhaseWithin holds.
-/
import Derived.Test.YtfgfigkbgecfnaaCSolveTwoPhaseWithin07
import Derived.Laws.BytesString
namespace Go.Proofs.Ytfgfigkbgecfnaa
open Go.RowKit
section
variable {P:Program} {T:Tab} {X:Ctx} {w w':World} {π:Pi} {H:List (Nat×OB)}
theorem Dd.Jg {S S':Nat->Prop} {τ:Ty} {v:Value} {x:τ.den} (h:Dd w S τ v x) (hS: ∀k,k<w.heap.size->S' k->S k):Dd w S' τ v x:=
 let ⟨cs,hc,hv⟩:=h
 ⟨cs,Cells.Gd (Ap _) (λ_ _ _=>rfl) hS τ cs x hc,hv⟩
theorem De.Jg {S S':Nat->Prop} {τ:Ty} {vs:List Value} {x:τ.den} (h:De w S τ vs x) (hS: ∀k,k<w.heap.size->S' k->S k):De w S' τ vs x:=
 De.Gd ⟨Ap _,λ_ _ _=>rfl⟩ hS τ vs x h
theorem De.flat {S S':Nat->Prop} : ∀(τ:Ty) (vs:List Value) (x:τ.den),τ.flat=true->De w S τ vs x->De w S' τ vs x
 | .pair a r,[],x,_,h=>h
 | .pair a r,v::vs,x,hf,h=>by
  simp only [Ty.flat,Ak] at hf;exact ⟨h.1.flat hf.1,De.flat r vs x.2 hf.2 h.2⟩
 | .unit,[],_,_,_=>trivial
 | .unit,_::_,_,_,h=>h
 | .int _,_,_,_,h=>by simp [De] at h
 | .bool,_,_,_,h=>by simp [De] at h
 | .str,_,_,_,h=>by simp [De] at h
 | .slice _,_,_,_,h=>by simp [De] at h
 | .ptr _,_,_,_,h=>by simp [De] at h
 | .oslice _,_,_,_,h=>by simp [De] at h
 | .optr _,_,_,_,h=>by simp [De] at h
 | .smap _,_,_,_,h=>by simp [De] at h
 | .clo _ _,_,_,_,h=>by simp [De] at h
theorem dN {fr:Bool} {τ Ow:Ty} {x:Ow.den} {f:Bool} {y:τ.den} {v:Value} (h:j8 fr τ Ow x=some (f,y)) (hc:Dd w (Dk X.w0.heap.size X.Sc π fr) Ow v x):
  Cells w (Dk X.w0.heap.size X.Sc π f) τ [v] y:=by
 unfold j8 at h;split at h
 ·split at h
  ·rename_i e e' _ hee;subst hee;simp only [Aa,Ag] at h;obtain ⟨rfl,rfl⟩:=h;have h1:=Dd.Sw rfl hc;simp only [Cells] at h1⊢;rcases h1 with ⟨rfl,c,h1⟩|⟨xs,ad,len,cap,rfl,h1,h2,h3,h4⟩
   ·exact ⟨none,0,c,h1,rfl,Iz _, .inl rfl⟩
   ·exact ⟨_,len,cap,h1,h2,h3,h4.imp id λ⟨g,o,ha,h4⟩=>⟨g,o,by rw [ha],h4⟩⟩
  ·cases h
 ·split at h
  ·rename_i a a' _ haa;subst haa;simp only [Aa,Ag] at h;obtain ⟨rfl,rfl⟩:=h;have h1:=Dd.Sw rfl hc;simp only [Cells] at h1⊢;obtain ⟨g,o,h2⟩:=h1;exact .inr ⟨_,g,o,rfl,h2⟩
  ·cases h
 ·cases h
theorem ko {st:St} (τ:Ty) (c:AC) (v:Value) (fr:Bool) (x:τ.den) (Up:τ.Ar=false) (hs:c.settled=true) (hc:Hw X w π st.heap c v)
  (hv:Dy st τ c=some (fr,x)):Cells w (Dk X.w0.heap.size X.Sc π fr) τ [v] x:=by
 cases c with
 |data Ww Ow y=>
  rw [Ol] at hv;split at hv
  ·rename_i ht;subst ht;simp only [Aa,Ag] at hv;obtain ⟨rfl,rfl⟩:=hv;have h1:=Dd.Sw Up hc
   cases hf:Ow.flat with
   |true=>exact Cells.flat Ow _ _ hf h1
   |false=>rw [iK];exact h1
  ·exact dN hv hc
 |Mn=>
  cases τ with
  |slice e=>
   simp only [Dy,Aa,Ag] at hv;obtain ⟨_,rfl⟩:=hv;exact ⟨none,0,0,by rw [show v=_ from hc],rfl,Ap _, .inl rfl⟩
  |oslice e=>
   simp only [Dy,Aa,Ag] at hv;obtain ⟨_,rfl⟩:=hv;exact .inl ⟨rfl,0,by rw [show v=_ from hc]⟩
  |_=>simp [Dy] at hv
 |Wk=>
  cases τ with
  |optr e=>
   simp only [Dy,Aa,Ag] at hv;obtain ⟨_,rfl⟩:=hv;exact .inl ⟨rfl,by rw [show v=_ from hc]⟩
  |_=>simp [Dy] at hv
 |_=>simp [AC.settled] at hs
theorem Cells.and_left {f1 f2:Bool} {τ:Ty} {cs:List Value} {x:τ.den} (h:Cells w (Dk X.w0.heap.size X.Sc π f1) τ cs x):Cells w (Dk X.w0.heap.size X.Sc π (f1&&f2)) τ cs x:=
 Cells.Gd (Ap _) (λ_ _ _=>rfl) (λk _ hk=>by
  rcases hk with h1|h1|⟨h1,h2⟩
  ·exact .inl h1
  ·exact .inr (.inl h1)
  ·simp at h1;exact .inr (.inr ⟨h1.1,h2⟩)) τ cs x h
theorem Cells.and_right {f1 f2:Bool} {τ:Ty} {cs:List Value} {x:τ.den} (h:Cells w (Dk X.w0.heap.size X.Sc π f2) τ cs x):Cells w (Dk X.w0.heap.size X.Sc π (f1&&f2)) τ cs x:=
 Cells.Gd (Ap _) (λ_ _ _=>rfl) (λk _ hk=>by
  rcases hk with h1|h1|⟨h1,h2⟩
  ·exact .inl h1
  ·exact .inr (.inl h1)
  ·simp at h1;exact .inr (.inr ⟨h1.2,h2⟩)) τ cs x h
theorem Xq {st:St} : ∀(τ:Ty) (cs:List AC) (us:List Value) (fr:Bool) (x:τ.den),cs.all (·.settled)=true->Gq X w π st.heap cs us->
  Fq st τ cs=some (fr,x)->Cells w (Dk X.w0.heap.size X.Sc π fr) τ us x:=by
 have one: ∀(τ:Ty) (cs:List AC) (us:List Value) (fr:Bool) (x:τ.den),τ.Ar=false->cs.all (·.settled)=true->Gq X w π st.heap cs us->
   Fq st τ cs=some (fr,x)->Cells w (Dk X.w0.heap.size X.Sc π fr) τ us x:=by
  intro τ cs us fr x Up hs hr hv;rw [Uw Up] at hv;split at hv
  ·rename_i c;obtain ⟨u,hu,_,hc⟩:=hr.2 0 c rfl;have hl:us.length=1:=hr.1;obtain ⟨u',rfl⟩:=Ek.1 hl;simp at hu;subst hu;exact ko τ c _ fr x Up (by simpa using hs) hc hv
  ·cases hv
 intro τ
 induction τ with
 |unit=>
  intro cs us fr x hs hr hv
  cases cs with
  |nil=>have:us= []:=Cr hr.1;exact this
  |cons c cs=>simp [Fq] at hv
 |pair a r iL iH=>
  intro cs us fr x hs hr hv;simp only [Fq] at hv;split at hv
  ·rename_i f1 y f2 z h1 h2;simp only [Aa,Ag] at hv;obtain ⟨rfl,rfl⟩:=hv
   have SK:Gq X w π st.heap (cs.take a.size) (us.take a.size):=by have:=aw hr 0 a.size;simpa using this
   have YV:Gq X w π st.heap (cs.drop a.size) (us.drop a.size):=
    ⟨by simp [hr.1],λi c hc=>by
     rw [Cp] at hc⊢
     exact hr.2 _ c hc⟩
   have ld:(cs.take a.size).all (·.settled)=true:=Bk.2 λc hc=>Bk.1 hs c (Gl hc);have wq:(cs.drop a.size).all (·.settled)=true:=Bk.2 λc hc=>Bk.1 hs c (er hc);exact ⟨us.take a.size,us.drop a.size,(Ip _ _).symm,(iL _ _ _ _ ld SK h1).and_left,(iH _ _ _ _ wq YV h2).and_right⟩
  ·cases hv
 |_=>exact λcs us fr x hs hr hv=>one _ cs us fr x rfl hs hr hv
theorem Qz {st:St} {τ:Ty} {c:AC} (h:c.settled=true):Kh st τ c=Dy st τ c:=by
 cases c<;>simp [AC.settled] at h<;>cases τ<;>rfl
theorem Ni {st:St} (τ:Ty) (c:AV) (v:Value) (fr:Bool) (x:τ.den) (hs:c.settled=true) (hc:Bx X w π st.heap c v)
  (hv:Gk st τ c=some (fr,x)):Dd w (Dk X.w0.heap.size X.Sc π fr) τ v x:=by
 have Ou: ∀c:AC,c.settled=true->Hw X w π st.heap c v->(if τ.Ar then none else Kh st τ c)=some (fr,x)->Dd w (Dk X.w0.heap.size X.Sc π fr) τ v x:=by
  intro c hs hc hv;split at hv
  ·cases hv
  ·rename_i Up;simp only [Gb] at Up;rw [Qz hs] at hv;exact Dd.oD Up (ko τ c v fr x Up hs hc hv)
 cases c with
 | «at»c=>
  cases c with
  |data Ww Ow y=>
   rw [dH] at hv;split at hv
   ·rename_i ht;subst ht;simp only [Aa,Ag] at hv;obtain ⟨rfl,rfl⟩:=hv
    cases hf:Ow.flat with
    |true=>exact Dd.flat hf hc
    |false=>rw [iK];exact hc
   ·exact Ou (.data Ww Ow y) hs hc hv
  |Mn=>exact Ou .Mn hs hc hv
  |Wk=>exact Ou .Wk hs hc hv
  |undef=>simp [AV.settled,AC.settled] at hs
  |skip=>simp [AV.settled,AC.settled] at hs
  |own l off len=>simp [AV.settled,AC.settled] at hs
  |Hs l i=>simp [AV.settled,AC.settled] at hs
  |Kq l i=>simp [AV.settled,AC.settled] at hs
  |clo f En=>simp [AV.settled,AC.settled] at hs
  |Le l=>simp [AV.settled,AC.settled] at hs
  |sub l i c=>simp [AV.settled,AC.settled] at hs
  |Kl l i c=>simp [AV.settled,AC.settled] at hs
 |agg cs=>
  simp only [Gk] at hv;split at hv
  ·rename_i Up;obtain ⟨us,rfl,hr⟩:=hc;exact ⟨us,Xq τ cs us fr x hs hr hv,by simp [Cj,Up]⟩
  ·cases hv
 |bL Ww Ow y=>simp [Gk] at hv
 |Nh l=>simp [Gk] at hv
theorem fw {st:St} : ∀(τ:Ty) (cs:List AV) (vs:List Value) (fr:Bool) (x:τ.den),cs.length=vs.length->cs.all (·.settled)=true->
  (∀(i:Nat) c v,cs[i]?=some c->vs[i]?=some v->Bx X w π st.heap c v)->Eg st τ cs=some (fr,x)->De w (Dk X.w0.heap.size X.Sc π false) τ vs x
 | .unit,[],vs,fr,x,hl,hs,hr,hv=>by
  have:vs= []:=Cr hl.symm;subst this;trivial
 | .unit,_::_,vs,fr,x,hl,hs,hr,hv=>by simp [Eg] at hv
 | .pair a r,[],vs,fr,x,hl,hs,hr,hv=>by simp [Eg] at hv
 | .pair a r,c::cs,[],fr,x,hl,hs,hr,hv=>by simp at hl
 | .pair a r,c::cs,v::vs,fr,x,hl,hs,hr,hv=>by
  simp only [Eg] at hv;split at hv
  ·rename_i f1 y f2 z h1 h2;simp only [Aa,Ag] at hv;obtain ⟨rfl,rfl⟩:=hv;simp only [Jz,Ak] at hs
   exact ⟨(Ni a c v f1 y hs.1 (hr 0 c v rfl rfl) h1).Jg (λk _ hk=>by
     rcases hk with h|h|⟨h,_⟩
     ·exact .inl h
     ·exact .inr (.inl h)
     ·cases h),
    fw r cs vs f2 z (by simpa using hl) hs.2 (λi c' v' hc ya=>hr (i+1) c' v' hc ya) h2⟩
  ·cases hv
 | .int _,cs,vs,fr,x,hl,hs,hr,hv=>by cases cs<;>simp [Eg] at hv
 | .bool,cs,vs,fr,x,hl,hs,hr,hv=>by cases cs<;>simp [Eg] at hv
 | .str,cs,vs,fr,x,hl,hs,hr,hv=>by cases cs<;>simp [Eg] at hv
 | .slice _,cs,vs,fr,x,hl,hs,hr,hv=>by cases cs<;>simp [Eg] at hv
 | .ptr _,cs,vs,fr,x,hl,hs,hr,hv=>by cases cs<;>simp [Eg] at hv
 | .oslice _,cs,vs,fr,x,hl,hs,hr,hv=>by cases cs<;>simp [Eg] at hv
 | .optr _,cs,vs,fr,x,hl,hs,hr,hv=>by cases cs<;>simp [Eg] at hv
 | .smap _,cs,vs,fr,x,hl,hs,hr,hv=>by cases cs<;>simp [Eg] at hv
 | .clo _ _,cs,vs,fr,x,hl,hs,hr,hv=>by cases cs<;>simp [Eg] at hv
theorem jM {st:St} {a:Act} (h:Bs X π st a w) (args:List Operand) (i:Nat) (c:AV) (v:Value) (hc:(args.map st.ev)[i]?=some c) (hv:(args.map a.eval)[i]?=some v):Bx X w π st.heap c v:=by
 rw [Fa] at hc hv
 cases hi:args[i]? with
 |none=>rw [hi] at hc;cases hc
 |some o=>
  rw [hi] at hc hv;simp only [An,Aa] at hc hv;subst hc;subst hv;exact Eb h.2 o
theorem bf {Γ:Env} (Pn:Ky P Γ) {st:St} {a:Act} (h:Bs X π st a w) (f:FuncId) (cs:List AV) (vs:List Value) (hlen:cs.length=vs.length)
  (Ais: ∀(i:Nat) c v,cs[i]?=some c->vs[i]?=some v->Bx X w π st.heap c v) (av:AV) (he:Pk Γ st f cs=some av):
  (∀vs w,(callFunc f vs).run P w= .ok (.enter f vs) w)/\
  Calls P f vs.toArray w (λe rU=> ∃v,e= .returned v/\Below w.heap.size w rU/\Bx X rU π st.heap av v):=by
 unfold Pk at he;split at he
 ·rename_i s hs;have snd:Sound P f s:=Pn f _ hs;refine ⟨snd.enter,?_⟩;split at he
  ·rename_i Kg;split at he
   ·cases he
   ·rename_i tN x hx
    cases hy:s.fn x with
    |none=>rw [hy] at he;cases he
    |some y=>
     rw [hy] at he;simp only [An,Aa] at he
     have si: ∀(S:Nat->Prop),(∀k,S k->k<w.heap.size)->De w S s.arg vs x->(s.fresh=true\/s.res.flat=true\/ ∀k,Dk X.w0.heap.size X.Sc π false k->S k)->
       Calls P f vs.toArray w (λe rU=> ∃v,e= .returned v/\Below w.heap.size w rU/\Bx X rU π st.heap av v):=by
      intro S Aud Rr Awy;refine (snd.calls w S _ x y Aud Rr hy).mono ?_;rintro e rU ⟨v,rfl,hb,hr⟩;refine ⟨v,rfl,hb,?_⟩
      have hA:s.res.flat=true\/ ∀k,k<rU.heap.size->Dk X.w0.heap.size X.Sc π (s.fresh||s.res.flat) k->(S k\/(s.fresh=true/\k<w.heap.size)):=by
       cases hf:s.res.flat with
       |true=>exact .inl rfl
       |false=>
        right
        intro k _ hk
        cases zK:s.fresh with
        |true=>
         right
         refine ⟨rfl,?_⟩;rcases hk with ⟨l,r,hl,hg⟩|hk|⟨_,hk⟩
         ·exact (h.1.own ⟨l,r,hl,hg⟩).1
         ·have:=h.1.sc k hk;have:=h.1.below.size;omega
         ·have:=h.1.below.size;omega
        |false=>
         left
         have lJ:Dk X.w0.heap.size X.Sc π false k:=by simpa [zK,hf] using hk
         rcases Awy with h1|h1|h1
         ·rw [zK] at h1;cases h1
         ·rw [hf] at h1;cases h1
         ·exact h1 k lJ
      unfold mg at hr;subst he;split
      ·rename_i hm;rw [Ac hm] at hr;obtain ⟨us,rfl,hr⟩:=hr;refine ⟨us,rfl,?_⟩;rcases hA with hf|hA
       ·exact De.flat _ _ _ hf hr
       ·exact hr.Jg hA
      ·rename_i hm;rw [Ai hm] at hr;rcases hA with hf|hA
       ·exact Dd.flat hf hr
       ·exact hr.Jg hA
     cases hff:(s.fresh||s.res.flat) with
     |true=>
      refine si (λ_=>False) (λ_ h=>h.elim) (bx h.1 s.arg _ _ tN x hlen Ais hx ⟨λ_ h=>h.elim, .inr λ_ h=>h.elim⟩) ?_;simp only [Kx] at hff;rcases hff with h1|h1
      ·exact .inl h1
      ·exact .inr (.inl h1)
     |false=>
      rw [hff,bM] at Kg;refine si (Dk X.w0.heap.size X.Sc π false) (λk hk=>?_) (fw s.arg _ _ tN x hlen Kg Ais hx) (.inr (.inr λ_ hk=>hk));rcases hk with ⟨l,r,hl,hg⟩|hk|⟨hk,_⟩
      ·exact (h.1.own ⟨l,r,hl,hg⟩).1
      ·have:=h.1.sc k hk;have:=h.1.below.size;omega
      ·cases hk
  ·cases he
 ·cases he
theorem tv {fr:Bool} : ∀(τ:Ty) (us:List Value) (x:τ.den),(∀a r,τ≠ .pair a r->True)->Cells w (Dk X.w0.heap.size X.Sc π fr) τ us x->τ.chain=true->
  (bT fr τ x).length=us.length/\ ∀(i:Nat) c v,(bT fr τ x)[i]?=some c->us[i]?=some v->Bx X w π H c v
 | .unit,us,x,_,hc,_=>by
  simp only [Cells] at hc;subst hc;exact ⟨rfl,λi c v h=>by simp [bT] at h⟩
 | .pair a r,us,x,_,hc,hch=>by
  simp only [Cells] at hc;simp only [Ty.chain,Ak,Fy] at hch;obtain ⟨c1,c2,rfl,h1,h2⟩:=hc;have hl:=Cells.len a c1 x.1 h1
  have h3:a.size=1:=by cases a<;>simp_all [Ty.Ar,Ty.size]
  rw [h3] at hl;obtain ⟨u,rfl⟩:=Ek.1 hl;obtain ⟨h4,h5⟩:=tv r c2 x.2 (λ_ _ _=>trivial) h2 hch.2;refine ⟨by simp [bT,h4],λi c v hc hv=>?_⟩;rcases i with _|i
  ·simp only [bT,Cf,Aa] at hc;simp only [List.singleton_append,Cf,Aa] at hv;subst hc;subst hv;exact ⟨[u],h1,by simp [Cj,hch.1]⟩
  ·simp only [bT,Kj] at hc;simp only [List.singleton_append,Kj] at hv;exact h5 i c v hc hv
 | .int _,_,_,_,_,h=>by simp [Ty.chain] at h
 | .bool,_,_,_,_,h=>by simp [Ty.chain] at h
 | .str,_,_,_,_,h=>by simp [Ty.chain] at h
 | .slice _,_,_,_,_,h=>by simp [Ty.chain] at h
 | .oslice _,_,_,_,_,h=>by simp [Ty.chain] at h
 | .ptr _,_,_,_,_,h=>by simp [Ty.chain] at h
 | .optr _,_,_,_,_,h=>by simp [Ty.chain] at h
 | .smap _,_,_,_,_,h=>by simp [Ty.chain] at h
 | .clo _ _,_,_,_,_,h=>by simp [Ty.chain] at h
theorem iT {cs ds:List AV} {vs us:List Value} (hl:cs.length=vs.length) (h1: ∀(i:Nat) c v,cs[i]?=some c->vs[i]?=some v->Bx X w π H c v)
  (h2: ∀(i:Nat) c v,ds[i]?=some c->us[i]?=some v->Bx X w π H c v) (i:Nat) (c:AV) (v:Value) (hc:(cs++ds)[i]?=some c) (hv:(vs++us)[i]?=some v):Bx X w π H c v:=by
 by_cases hi:i<cs.length
 ·rw [Au hi] at hc;rw [Au (by omega)] at hv;exact h1 i c v hc hv
 ·rw [As (by omega)] at hc;rw [As (by omega)] at hv;rw [hl] at hc;exact h2 _ c v hc hv
theorem wA {Γ:Env} (Pn:Ky P Γ) {st:St} {a:Act} (h:Bs X π st a w) (c:AV) (v:Value) (hv:Bx X w π st.heap c v) (args:List Operand) (av:AV) (he:Yr Γ st c (args.map st.ev)=some av):
  ∃f bs us,v= .func (.func f) (bs:List Value).toArray (us:List Value).toArray/\(∀vs w,(callFunc f vs).run P w= .ok (.enter f vs) w)/\
  Calls P f (bs++args.map a.eval++us).toArray w (λe rU=> ∃v,e= .returned v/\Below w.heap.size w rU/\Bx X rU π st.heap av v):=by
 unfold Yr at he;split at he
 ·rename_i fr f τ x;split at he
  ·rename_i hch;obtain ⟨cs,hc,rfl⟩:=hv;simp only [Cells] at hc;obtain ⟨us,rfl,hc⟩:=hc;obtain ⟨h1,h2⟩:=tv (H:=st.heap) τ us x (λ_ _ _=>trivial) hc hch
   by_cases hf:f<1000000000
   ·rw [Ac hf] at he;have:=bf Pn h f _ (args.map a.eval++us) (by simp [h1]) (iT (by simp) (jM h args) h2) av he;exact ⟨f,[],us,by simp [Cj,Ty.Ar,j4 hf],by simpa using this⟩
   ·rw [Ai hf] at he;have:=bf Pn h (f-1000000000) _ (us++args.map a.eval) (by simp [h1]) (iT h1 h2 (jM h args)) av he;exact ⟨f-1000000000,us,[],by simp [Cj,Ty.Ar,fN hf],by simpa using this⟩
  ·cases he
 ·rename_i f En;obtain ⟨us,rfl,h1,h2⟩:=hv
  have:=bf Pn h f _ (args.map a.eval++us) (by simp [h1]) (iT (by simp) (jM h args) (λi c v hc hv=>by
   rw [Fa] at hc
   cases hi:En[i]? with
   |none=>rw [hi] at hc;cases hc
   |some p=>
    rw [hi] at hc;simp only [An,Aa] at hc;subst hc;obtain ⟨r,tid,vs,h3,h4,h5⟩:=h2 i p hi;rw [h5] at hv;simp only [Aa] at hv;subst hv
    exact ⟨r,tid,vs,h3,h4,rfl⟩)) av he
  exact ⟨f,[],us,rfl,by simpa using this⟩
 ·cases he
theorem BS (ρ:Operand->Value) (t:Nat) (f:FuncId) (bs us:List Value) (args:Array Operand) (ts:Array TypeId) (dst:Option Tmp) (ty:TypeId) (pos:String) (af:Array Edge) (gd:Option (Nat×Bool))
  (hρ:ρ (.tmp t)= .func (.func f) bs.toArray us.toArray) (hc: ∀vs w,(callFunc f vs).run P w= .ok (.enter f vs) w):
  (execOp ρ ⟨dst, .call {callee:= .value (.tmp t),args:=args,argTypes:=ts},ty,pos,af,gd⟩).run P w= .ok (.enter f (bs++args.toList.map ρ++us).toArray) w:=by
 have:bs.toArray++(args.map ρ)++us.toArray=(bs++args.toList.map ρ++us).toArray:=by apply Pr;simp
 simp [execOp,resolve,Deferred.ofValue,hρ,invoke,hc,this]
theorem tw {st:St} {a:Act} (h:Bs X π st a w): ∀(l:List Operand) (c:List (Nat×Nat)),mu (l.map st.ev)=some c->
  (l.map a.eval).length=c.length/\ ∀(j:Nat) p,c[j]?=some p-> ∃r tid vs,Ay st.heap p.1=some (.var tid vs)/\π p.1=some r/\(l.map a.eval)[j]?=some (.pointer (some ⟨r.g,p.2,none⟩))
 | [],c,he=>by simp only [List.map_nil,mu,Aa] at he;subst he;exact ⟨rfl,λj p hp=>by simp at hp⟩
 |x::l,c,he=>by
  simp only [Cb] at he;unfold mu at he;split at he
  ·rename_i heq;simp at heq
  ·rename_i k i r heq;simp only [Hi] at heq;obtain ⟨h1,rfl⟩:=heq
   cases hr:mu (l.map st.ev) with
   |none=>rw [hr] at he;cases he
   |some c'=>
    rw [hr] at he;simp only [An,Aa] at he;subst he;obtain ⟨h2,h3⟩:=tw h l c' hr;have e:=Eb h.2 x;rw [h1] at e;obtain ⟨r,tid,vs,h4,h5,h6⟩:=e;refine ⟨by simpa using h2,λj p hp=>?_⟩;rcases j with _|j
    ·simp only [Cf,Aa] at hp;subst hp;exact ⟨r,tid,vs,h4,h5,by rw [Cb,Cf,h6]⟩
    ·exact h3 j p hp
  ·cases he
theorem LU (a b:ByteArray):(a==b)=decide (a=b):=by
 obtain ⟨a⟩:=a;obtain ⟨b⟩:=b;show ByteArray.beq _ _=_;unfold ByteArray.beq
 by_cases h:a=b
 ·subst h;simp
 ·rw [Ey (by simpa using h)];simpa using h
theorem je (s:ByteArray): ∀(es:List MapEntry) (i:Nat),(∀e∈es,(Uc e.key).isSome=true)->
  ∃r,Instr.findNow .string (.string s) es i=some r/\r.map (·.2)=Ru es s/\(∀j v,r=some (j,v)->i<=j/\(∃e,es[j-i]?=some e/\e.key= .string s)/\ ∀k e,k<j-i->es[k]?=some e->Uc e.key≠some s)
 | [],i,_=>⟨none,rfl,rfl,λj v h=>by cases h⟩
 |e::es,i,h=>by
  have he:=h e (by simp)
  have hk: ∃t,e.key= .string t:=by
   unfold Uc at he;split at he
   ·exact ⟨_,by assumption⟩
   ·cases he
  obtain ⟨t,hk⟩:=hk;simp only [Instr.findNow,hk,Instr.sameNow]
  by_cases Sd:s=t
  ·subst Sd
   have hb:(s==s)=true:=by rw [LU];simp
   rw [hb];refine ⟨some (i,e.val),rfl,by simp [Ru,hk,Uc],λj v hj=>?_⟩;simp only [Aa,Ag] at hj;obtain ⟨rfl,rfl⟩:=hj;exact ⟨Ap _,⟨e,by simp,hk⟩,λk e h=>by omega⟩
  ·obtain ⟨r,h1,h2,h3⟩:=je s es (i+1) λe he=>h e (by simp [he])
   have hb:(s==t)=false:=by rw [LU];simpa using Sd
   rw [hb];refine ⟨r,h1,?_,λj v hj=>?_⟩
   ·rw [h2];simp only [Ru,hk,Uc];rw [Ai (by simpa using λe:t=s=>Sd e.symm)]
   ·obtain ⟨h4,⟨e',h5,h6⟩,h7⟩:=h3 j v hj;refine ⟨by omega,⟨e',by rw [show j-i=(j-(i+1))+1 by omega,Kj];exact h5,h6⟩,λk e2 GC he2=>?_⟩;rcases k with _|k
    ·simp only [Cf,Aa] at he2;subst he2;rw [hk];simpa [Uc] using λe:t=s=>Sd e.symm
    ·exact h7 k e2 (by omega) (by simpa using he2)
theorem gB {g:Nat} {es:Array MapEntry} {clock:Nat} (h:w.heap[g]?=some (.map es clock)):(getObj g).run P w= .ok (.map es clock) w:=by simp [getObj,Sem.run,h]
theorem Wr {k:TypeId} (hk:P.underlying k=some .string) (b:Bool) (s:ByteArray) (w:World):(Instr.checkKey b 10000 k (.string s)).run P w= .ok () w:=by
 rw [show (10000:Nat)=9999+1 from rfl];unfold Instr.checkKey;rw [Sem.run_bind,run_underlying hk];rfl
theorem tE (hT:Ec P T) {st:St} {a:Act} (h:Bs X π st a w) (t:TypeId) (m k:AV) (ok:Bool) (vm vk:Value) (av:AV) (hm:Bx X w π st.heap m vm) (hk:Bx X w π st.heap k vk)
  (he:fO T st t m k ok=some av): ∃v,(Instr.lookup t vm vk ok).run P w= .ok v w/\Bx X w π st.heap av v:=by
 unfold fO at he;split at he
 ·rename_i vt fr s ht;have:=gw hk;subst this;obtain ⟨kt,et,h1,h2,h3,h4,h5⟩:=hT.mapOf t vt ht;split at he
  ·rename_i sA f hv;simp only [Aa] at he;have hr:=Zo h.1 (S:= λ_=>False) (.smap vt) m vm sA f hm hv ⟨λ_ h=>h.elim, .inr λ_ h=>h.elim⟩;obtain ⟨cs,hc,rfl⟩:=hr
   have UW: ∀y:vt.den,∀u,Cells w (λ_=>False) vt [u] y->Dd w (Dk X.w0.heap.size X.Sc π true) vt u y:= λy u hu=>⟨[u],Cells.flat vt [u] y h4 hu,by simp [Cj,h5]⟩
   obtain ⟨inf,hi,Wi,_,tZ⟩:=(hT.ty et vt h3).info
   have hzero:(zeroValue et).run P w= .ok (Cj vt (Cd vt)) w:=by simp [zeroValue,typeInfo,hi,tZ]
   have hzc:Cells w (λ_=>False) vt [Cj vt (Cd vt)] vt.zero:=by
    cases vt<;>first|(simp [Ty.flat] at h4;done)|(simp [Ty.Ar] at h5;done)|(simp [Cj,Ty.Ar,Cd,Cells,Ty.zero];done)
   have fin: ∀(es:List MapEntry),(∀e∈es,(Uc e.key).isSome=true)->(f s=none->Ru es s=none)->(∀y,f s=some y-> ∃u,Ru es s=some u/\Cells w (λ_=>False) vt [u] y)->
     (∀r,(Instr.findKey kt (.string s) es).run P w= .ok r w-> ∀u,r.map (·.2)=(if (f s).isSome then some u else none)->(r=none->u=Cj vt (Cd vt))->
      (Instr.lookup t (Cj (.smap vt) cs) (.string s) ok).run P w= .ok (if ok then .tuple #[u, .bool (f s).isSome] else u) w)->
     ∃v,(Instr.lookup t (Cj (.smap vt) cs) (.string s) ok).run P w= .ok v w/\Bx X w π st.heap av v:=by
    intro es h6 h7 h8 h9;obtain ⟨r,qT,lE,_⟩:=je s es 0 h6
    have h12:(Instr.findKey kt (.string s) es).run P w= .ok r w:=by
     unfold Instr.findKey;simp only [Sem.run_bind,run_underlying h2,Result.andThen_ok,qT,Sem.run_pure]
    have: ∃u,r.map (·.2)=(if (f s).isSome then some u else none)/\(r=none->u=Cj vt (Cd vt))/\Cells w (λ_=>False) vt [u] ((f s).getD vt.zero):=by
     cases hf:f s with
     |none=>
      have h13:=h7 hf;rw [h13] at lE;exact ⟨Cj vt (Cd vt),by rw [lE];rfl,λ_=>rfl,hzc⟩
     |some y=>
      obtain ⟨u,h13,h14⟩:=h8 y hf;rw [h13] at lE;refine ⟨u,by rw [lE];rfl,λ(e:r=none)=>?_,h14⟩;rw [e] at lE;cases lE
    obtain ⟨u,h13,h14,h15⟩:=this;have Wj:=h9 r h12 u h13 h14
    cases ok with
    |true=>
     simp only [Oz] at he Wj;subst he;exact ⟨_,Wj,[u, .bool (f s).isSome],rfl,UW _ u h15,⟨[_],rfl,rfl⟩,trivial⟩
    |false=>
     simp only [Dt,Uk] at he Wj;subst he;exact ⟨_,Wj,UW _ u h15⟩
   have hmk: ∀v,Cj (.smap vt) [v]=v:= λv=>by simp [Cj,Ty.Ar]
   have run: ∀(r:Option (Nat×Value)) (u:Value) (b:Bool),r.map (·.2)=(if b then some u else none)->(r=none->u=Cj vt (Cd vt))->
     (∃j,r=some (j,u)/\b=true)\/(r=none/\b=false/\u=Cj vt (Cd vt)):=by
    intro r u b h6 h7
    cases r with
    |none=>cases b<;>simp at h6⊢;exact h7 rfl
    |some p=>cases b<;>simp at h6⊢;subst h6;exact ⟨p.1,rfl⟩
   simp only [Cells] at hc;rcases hc with ⟨rfl,hf⟩|⟨g,rfl,hg,_,es,clock,h6,h7,h8,h9⟩
   ·refine fin [] (by simp) (λ_=>rfl) (λy hy=>by rw [hf] at hy;cases hy) λr h6 u h7 h8=>?_;rcases run r u _ h7 h8 with ⟨j,rfl,hb⟩|⟨rfl,hb,rfl⟩
    ·rw [hf] at hb;cases hb
    ·rw [hb,hmk];unfold Instr.lookup;generalize hz:Cj vt (Cd vt)=z at hzero⊢;simp [run_underlying h1,Wr h2,h6,hzero]
   ·refine fin es.toList h7 (λhn=>h8 s hn) (λy hy=>h9 s y hy) λr qT u lE h12=>?_;rw [hmk];unfold Instr.lookup;rcases run r u _ lE h12 with ⟨j,rfl,hb⟩|⟨rfl,hb,rfl⟩
    ·rw [hb];simp [run_underlying h1,Wr h2,gB h6,qT]
    ·rw [hb];generalize hz:Cj vt (Cd vt)=z at hzero⊢;simp [run_underlying h1,Wr h2,gB h6,qT,hzero]
  ·cases he
 ·cases he
theorem WM (ns:List Int): ∀b:ByteArray,ns.foldl (λr n=>r.push (UInt8.ofNat n.toNat)) b=⟨b.data++(ns.map λn=>UInt8.ofNat n.toNat).toArray⟩:=by
 induction ns with
 |nil=>intro b;simp
 |cons n ns ih=>
  intro b;rw [Ro,ih];simp [ByteArray.push]
theorem MJ {s d:TypeId} {v:Value} {xs:List Int} (hT:Ec P T) (hs:T.ty s=some (.slice (.int .u8))) (hd:T.ty d=some .str) (h:Dd w (λ_=>False) (.slice (.int .u8)) v xs):
  (convert s d v).run P w= .ok (.string (bytesOf xs)) w:=by
 obtain ⟨te,h1,h2,h3⟩:=(hT.ty _ _ hs).desc;have h4:P.underlying te=some (.int .u8):=(hT.ty _ _ h3).desc;have h5:P.underlying d=some .string:=(hT.ty _ _ hd).desc;obtain ⟨cs,hc,rfl⟩:=h;simp only [Cells] at hc;obtain ⟨a,len,cap,rfl,hlen,tX,ND⟩:=hc;simp only [Cj,Ty.Ar,Dt,Uk,iR];rw [run_convert_bytes_string w s d te a len cap h1 h4 h5];rcases ND with rfl|⟨g,o,rfl,hg,_,Ma⟩
 ·have:len=0:=hlen;subst this
  cases a with
  |none=>simp [Conv.bytesToString,bytesOf];rfl
  |some a=>
   rw [run_bytesToString w a 0 cap [] (by simp [loadCells,loadCellsFrom])];rfl
 ·rw [run_bytesToString w _ len cap xs (by
   have:=run_loadCells_list (P:=P) w ⟨g,o,none⟩ (xs.map (Value.int .u8)) (λj v hv=>by
    rw [Fa] at hv
    cases hj:xs[j]? with
    |none=>rw [hj] at hv;cases hv
    |some x=>
     rw [hj] at hv;simp only [An,Aa] at hv;subst hv;obtain ⟨es,h6,h7,h8⟩:=Ma j x hj;have h8:es= [.int .u8 x]:=h8;subst h8;rw [Addr.add_lit];have:=h7 0 _ rfl
     simpa [Ty.size] using this)
   rw [Ct,<-hlen] at this
   exact this)]
  rw [WM];simp [bytesOf]
theorem jP (ρ:Operand->Value) (f:FuncId) (args:Array Operand) (ts:Array TypeId) (dst:Option Tmp) (ty:TypeId) (pos:String) (af:Array Edge) (gd:Option (Nat×Bool))
  (hρ:ρ (.func f)= .func (.func f) #[] #[]) (hc: ∀vs w,(callFunc f vs).run P w= .ok (.enter f vs) w):
  (execOp ρ ⟨dst, .call {callee:= .value (.func f),args:=args,argTypes:=ts},ty,pos,af,gd⟩).run P w= .ok (.enter f (args.map ρ)) w:=by
 simp [execOp,resolve,Deferred.ofValue,hρ,invoke,hc]
theorem z6 {fr:Bool} : ∀(τ:Ty) (x:τ.den) (vs:List Value) (i:Nat) (av:AV),De w (Dk X.w0.heap.size X.Sc π fr) τ vs x->dG fr τ x i=some av->
  ∃v,vs[i]?=some v/\Bx X w π H av v
 | .pair a r,x,[],i,av,h,he=>h.elim
 | .pair a r,x,v::vs,0,av,h,he=>by
  simp only [dG,Aa] at he;subst he;exact ⟨v,rfl,uX h.1⟩
 | .pair a r,x,v::vs,i+1,av,h,he=>by
  obtain ⟨u,hu,hr⟩:=z6 r x.2 vs i av h.2 he;exact ⟨u,hu,hr⟩
 | .int _,_,_,i,_,_,he=>by cases i<;>simp [dG] at he
 | .bool,_,_,i,_,_,he=>by cases i<;>simp [dG] at he
 | .str,_,_,i,_,_,he=>by cases i<;>simp [dG] at he
 | .slice _,_,_,i,_,_,he=>by cases i<;>simp [dG] at he
 | .ptr _,_,_,i,_,_,he=>by cases i<;>simp [dG] at he
 | .oslice _,_,_,i,_,_,he=>by cases i<;>simp [dG] at he
 | .optr _,_,_,i,_,_,he=>by cases i<;>simp [dG] at he
 | .smap _,_,_,i,_,_,he=>by cases i<;>simp [dG] at he
 | .clo _ _,_,_,i,_,_,he=>by cases i<;>simp [dG] at he
 | .unit,_,_,i,_,_,he=>by cases i<;>simp [dG] at he
theorem VJ (x:AV) (vx:Value) (n:Int) (hx:Bx X w π H x vx) (h:Abg x=some n): ∃a len cap,vx= .slice a len cap/\n=len:=by
 unfold Abg at h;split at h
 ·simp only [Aa] at h;subst h;exact ⟨none,0,0,hx,rfl⟩
 ·simp only [Aa] at h;subst h;obtain ⟨cs,hc,rfl⟩:=hx;simp only [Cells] at hc;obtain ⟨a,len,cap,rfl,hl,_⟩:=hc;exact ⟨a,len,cap,by simp [Cj,Ty.Ar],by rw [hl]⟩
 ·rename_i l off len;simp only [Aa] at h;subst h;obtain ⟨b,sz,n,_,_,_,ho⟩:=hx
  cases hp:π l with
  |none=>rw [hp] at ho;obtain ⟨rfl,_,rfl⟩:=ho;exact ⟨none,0,0,rfl,rfl⟩
  |some r=>rw [hp] at ho;obtain ⟨ad,rfl,_⟩:=ho;exact ⟨some ad,len,_,rfl,rfl⟩
 ·cases h
theorem uO {c:AV} {v:Value} (h:Bx X w π H c v):Bx X w π H (qa c) v:=by
 unfold qa;split
 ·rename_i fr e x;obtain ⟨cs,h1,h2⟩:=h;rcases h1 with ⟨rfl,c,rfl⟩|⟨xs,ad,len,cap,rfl,rfl,h3,h4,h5⟩
  ·exact ⟨_,⟨none,0,c,rfl,rfl,Iz _, .inl rfl⟩,h2⟩
  ·refine ⟨_,⟨some ad,len,cap,rfl,h3,h4,h5.imp id λ⟨g,o,g1,g2⟩=>⟨g,o,by rw [g1],g2⟩⟩,h2⟩
 ·exact h
theorem GX {st:St} (h:Nm X w π st.heap) (x:AV) (vx:Value) (n:Int) (hx:Bx X w π st.heap x vx) (hn:GW st x=some n): ∃a len cap,vx= .slice a len cap/\n=len:=by
 unfold GW at hn;split at hn
 ·rename_i l i c;split at hn
  ·rename_i e te rows kp hl;simp only [Aa] at hn;subst hn;unfold St.at at hl;obtain ⟨r,b,sz,m,g1,g0,g2,g3,⟨g4,_⟩,g5⟩:=hx;rw [hl] at g1;cases g1;simp only [OB.ic,Aa,Ag] at g0;obtain ⟨rfl,rfl⟩:=g0
   have mF:c=0:=by omega
   subst mF;rw [Gm,El] at g5;obtain ⟨u,R,k1,k2,k3⟩:=o4 h hl g2 g3 (by simp);rw [g5] at k1;have hu:=Bi k1;subst hu
   cases R with
   |none=>obtain ⟨rfl,_,hh⟩:=k2;exact ⟨none,0,0,rfl,by rw [hh]⟩
   |some q=>obtain ⟨ad,rfl,_⟩:=k2;exact ⟨some ad,_,_,rfl,rfl⟩
  ·cases hn
 ·exact VJ x vx n hx hn
theorem VK (x:AV) (vx:Value) (n:Int) (hx:Bx X w π H x vx) (h:SU x=some n): ∃s,vx= .string s/\n=s.size:=by
 unfold SU at h;split at h
 ·simp only [Aa] at h;subst h;exact ⟨_,gw hx,rfl⟩
 ·cases h
theorem tF {st:St} {a:Act} (h:Bs X π st a w) (mx:Bool) (args:List Operand) (av:AV) (ts:Array TypeId) (ty:TypeId) (he:zB mx (args.map st.ev)=some av):
  ∃v,(if mx then Builtin.max_ ts ty (args.map a.eval).toArray else Builtin.min_ ts ty (args.map a.eval).toArray).run P w= .ok v w/\Bx X w π st.heap av v:=by
 unfold zB at he;split at he
 ·rename_i k n k' m heq
  cases args with
  |nil=>simp at heq
  |cons x r=>
   cases r with
   |nil=>simp at heq
   |cons y r=>
    simp only [Cb,Hi,List.map_eq_nil_iff] at heq;obtain ⟨hx,hy,rfl⟩:=heq;split at he
    ·rename_i hk;subst hk;simp only [aY,Aa] at he;subst he;have e1:=Eb h.2 x;rw [hx] at e1;have e2:=Eb h.2 y;rw [hy] at e2;have e1:=Qj e1;have e2:=Qj e2;refine ⟨_,?_,Nt _ _ _⟩
     cases mx<;>simp [Builtin.max_,Builtin.min_,Builtin.max2,Builtin.min2,e1,e2]
    ·cases he
 ·cases he
theorem jd {Γ:Env} (hT:Ec P T) (Pn:Ky P Γ) {st:St} {a:Act} (h:Bs X π st a w) (o:Oper) (av:AV) (he:Fv T Γ st o=some av):
  QZ P X π st.heap w av ((execOp a.eval o).run P w):=by
 obtain ⟨dst,op,ty,pos,af,gd⟩:=o
 have val: ∀(s:Sem Value) (v:Value),s.run P w= .ok v w->Bx X w π st.heap av v->(execOp a.eval ⟨dst,op,ty,pos,af,gd⟩=do pure (.value (<-s)))->
   QZ P X π st.heap w av ((execOp a.eval ⟨dst,op,ty,pos,af,gd⟩).run P w):=by
  intro s v h1 h2 h3;rw [h3,Sem.run_bind,h1];exact ⟨rfl,h2⟩
 unfold Fv at he;split at he
 all_goals (rename_i qZ;dsimp only at qZ;try subst qZ)
 ·
  simp only [Aa] at he;subst he;exact ⟨rfl,Eb h.2 _⟩
 ·
  simp only [Aa] at he;subst he;exact ⟨rfl,Eb h.2 _⟩
 ·
  rename_i c x y;unfold eI at he;split at he
  ·rename_i fr b hc;simp only [Aa] at he;subst he;have e:=Eb h.2 c;rw [hc] at e;have e:=ay e
   have:(execOp a.eval ⟨dst, .pick c x y,ty,pos,af,gd⟩).run P w= .ok (.value (if b then a.eval x else a.eval y)) w:=by
    simp [execOp,e,asBool]
   rw [this];refine ⟨rfl,?_⟩;cases b
   ·exact Eb h.2 y
   ·exact Eb h.2 x
  ·cases he
 ·
  obtain ⟨v,h1,h2⟩:=nR hT h _ _ _ _ (Eb h.2 _) he;exact val _ v h1 h2 rfl
 ·
  rename_i x;have e:=Eb h.2 x;split at he
  ·rename_i fr τ y hx;simp only [Aa] at he;subst he;rw [hx] at e;have e':=e;obtain ⟨cs,hc,hv⟩:=e;simp only [Cells] at hc;obtain ⟨g,o,rfl,_⟩:=hc;simp only [Cj,Ty.Ar,Dt,Uk,iR] at hv
   have:(execOp a.eval ⟨dst, .nilCheck x,ty,pos,af,gd⟩).run P w= .ok (.value (a.eval x)) w:=by simp [execOp,hv]
   rw [this];exact ⟨rfl,e'⟩
  ·rename_i fr τ y hx;simp only [Aa] at he;subst he;rw [hx] at e;obtain ⟨cs,hc,hv⟩:=e;simp only [Cells] at hc;rcases hc with ⟨h0,_⟩|⟨y',g,o,h0,rfl,hr⟩
   ·cases h0
   simp only [Aa] at h0;subst h0;simp only [Cj,Ty.Ar,Dt,Uk,iR] at hv
   have:(execOp a.eval ⟨dst, .nilCheck x,ty,pos,af,gd⟩).run P w= .ok (.value (a.eval x)) w:=by simp [execOp,hv]
   rw [this];exact ⟨rfl,[_],⟨g,o,rfl,hr⟩,by rw [hv];simp [Cj,Ty.Ar]⟩
  ·rename_i l i hx;simp only [Aa] at he;subst he;rw [hx] at e;have e':=e;obtain ⟨r,tid,vs,_,_,hv⟩:=e
   have:(execOp a.eval ⟨dst, .nilCheck x,ty,pos,af,gd⟩).run P w= .ok (.value (a.eval x)) w:=by simp [execOp,hv]
   rw [this];exact ⟨rfl,e'⟩
  ·rename_i l i hx;simp only [Aa] at he;subst he;rw [hx] at e;have e':=e;obtain ⟨r,b,sz,n,_,_,_,_,hv⟩:=e
   have:(execOp a.eval ⟨dst, .nilCheck x,ty,pos,af,gd⟩).run P w= .ok (.value (a.eval x)) w:=by simp [execOp,hv]
   rw [this];exact ⟨rfl,e'⟩
  ·cases he
 ·
  obtain ⟨v,h1,h2⟩:=zz (P:=P) hT _ _ _ _ _ _ _ _ av (Eb h.2 _) (Eb h.2 _) he;exact val _ v h1 h2 rfl
 ·
  obtain ⟨v,h1,h2⟩:=MS (P:=P) _ _ _ av (Eb h.2 _) he;exact val _ v h1 h2 rfl
 ·
  rename_i s t x;split at he
  ·rename_i σ k fr1 k1 n hs ht hx;simp only [aY,Aa] at he;subst he;have e:=Eb h.2 x;rw [hx] at e;have e:=Qj e;have hd:P.underlying t=some (.int k):=(hT.ty _ _ ht).desc
   have Awk:(P.underlying s).isSome=true:=by
    obtain ⟨i,hi,_⟩:=(hT.ty _ _ hs).info;have:=(hT.ty _ _ hs).desc
    cases σ<;>simp only at this
    all_goals first
     |(rw [this];rfl)
     |(obtain ⟨_,this,_⟩:=this;rw [this];rfl)
     |(obtain ⟨_,this⟩:=this;rw [this];rfl)
     |(obtain ⟨_,_,this⟩:=this;rw [this];rfl)
     |exact this.elim
   exact val _ (.int k (k.wrap n)) (by
    obtain ⟨d,hd0⟩:=Xs.1 Awk
    rw [e];simp [convert,run_underlying hd0,run_underlying hd,Conv.intToInt]) (Nt _ _ _) rfl
  ·rename_i _ _ hs ht
   cases hv:Gk st (.slice (.int .u8)) (st.ev x) with
   |none=>rw [hv] at he;cases he
   |some p=>
    rw [hv] at he;simp only [An,Aa] at he;subst he;have e:=Eb h.2 x;have hr:=Zo h.1 (S:= λ_=>False) _ _ _ p.1 p.2 e hv ⟨λ_ h=>h.elim, .inr λ_ h=>h.elim⟩;exact val _ _ (MJ hT hs ht hr) (mS _ _) rfl
  ·cases he
 ·
  rename_i t x lo hi mx;split at he
  ·cases he
  ·rename_i hmx;simp only [Gb,Option.isSome_eq_false_iff,Option.isNone_iff_eq_none] at hmx;subst hmx;obtain ⟨v,h1,h2⟩:=wD hT h t _ _ lo hi av (Eb h.2 x) he;exact val _ v h1 h2 rfl
 ·
  obtain ⟨v,h1,h2⟩:=de hT _ _ _ _ av (Eb h.2 _) he;exact val _ v (h1 w) h2 rfl
 ·
  obtain ⟨v,h1,h2⟩:=wB hT _ _ _ _ av (Eb h.2 _) he;exact val _ v h1 h2 rfl
 ·
  obtain ⟨v,h1,h2⟩:=nQ hT h _ _ _ _ _ av (uO (Eb h.2 _)) (Eb h.2 _) he;exact val _ v h1 h2 rfl
 ·
  rename_i t x i;unfold kB at he;split at he
  ·rename_i fr1 s sA k n hx hi;split at he
   ·rename_i Xv;split at he
    ·rename_i h0
     cases hb:s[n.toNat]? with
     |none=>rw [hb] at he;cases he
     |some b=>
      rw [hb] at he;simp only [An,Aa] at he;subst he;have e1:=Eb h.2 x;rw [hx] at e1;have e2:=Eb h.2 i;rw [hi] at e2;have e1:=gw e1;have e2:=Qj e2;have hu:P.underlying t=some .string:=(hT.ty _ _ Xv).desc;have h0':(0:Int)<=n:=h0
      exact val _ (.int .u8 b.toNat) (by
       rw [e1,e2];simp only [Instr.index,Sem.run_bind,asIntOf,Sem.run_pure,Result.andThen_ok,run_underlying hu]
       simp only [Ac h0',hb,Sem.run_pure]) (Nt _ _ _) rfl
    ·cases he
   ·cases he
  ·cases he
 ·
  rename_i x i;split at he
  ·rename_i fr τ y hx;have e:=Eb h.2 x;rw [hx] at e;obtain ⟨vs,hv,hr⟩:=e;obtain ⟨u,hu,lb⟩:=z6 (H:=st.heap) τ y vs i av hr he;exact val _ u (by rw [hv];simp [Instr.extract,hu]) lb rfl
  ·rename_i l hx;have e:=Eb h.2 x;rw [hx] at e;obtain ⟨vs,hv,hlen,hr⟩:=e;unfold Adm at he
   cases hp:l[i]? with
   |none=>rw [hp] at he;cases he
   |some p=>
    rw [hp] at he;simp only [Ew] at he
    have hi:i<vs.length:=by have:=(Ao.1 hp).1;omega
    have hu:=Ad hi;have lb:=hr i p _ hp hu;refine val _ vs[i] (by rw [hv];simp [Instr.extract,hu]) ?_ rfl;obtain ⟨b,cs⟩:=p;unfold Ao9 at he;split at he
    ·rename_i j9 heq;simp only [Ag] at heq;obtain ⟨rfl,rfl⟩:=heq;simp only [Aa] at he;subst he;exact lb
    ·rename_i c heq;simp only [Ag] at heq;obtain ⟨rfl,rfl⟩:=heq;simp only [Aa] at he;subst he;exact lb c rfl
    ·cases he
  ·cases he
 ·
  rename_i f args ts;have:=bf Pn h f (args.toList.map st.ev) (args.toList.map a.eval) (by simp) (jM h _) av he;rw [jP a.eval f args ts dst ty pos af gd rfl this.1];refine ⟨rfl,?_⟩;have h2:=this.2
  rwa [show (args.toList.map a.eval).toArray=args.map a.eval from by apply Pr;simp] at h2
 ·
  rename_i t args ts;obtain ⟨f,bs,us,h1,h2,h3⟩:=wA Pn h _ _ (Eb h.2 (.tmp t)) args.toList av he;rw [BS a.eval t f bs us args ts dst ty pos af gd h1 h2];exact ⟨rfl,h3⟩
 ·
  rename_i f first En;split at he
  ·rename_i mG
   replace mG:first= #[]:=by simpa using mG
   cases hc:mu (En.toList.map st.ev) with
   |none=>rw [hc] at he;cases he
   |some c=>
    rw [hc] at he;simp only [An,Aa] at he;subst he;obtain ⟨h1,h2⟩:=tw h _ _ hc;subst mG;refine val (Instr.makeFunc (.func f) #[] (En.map a.eval)) (.func (.func f) #[] (En.map a.eval)) rfl ⟨En.toList.map a.eval,?_,h1,h2⟩ (by simp [execOp])
    congr 1
    apply Pr;simp
  ·rename_i fr τ x mG;split at he
   ·rename_i zJ;simp only [Aa] at he;subst he;simp only [Ak,Fy,Array.isEmpty_iff] at zJ;obtain ⟨Aov,Up⟩:=zJ;subst Aov
    obtain ⟨o,rfl,MZ⟩: ∃o,first= #[o]/\st.ev o= .at (.data fr τ x):=by
     obtain ⟨l⟩:=first
     cases l with
     |nil=>simp at mG
     |cons o r=>
      cases r with
      |nil=>exact ⟨o,rfl,by simpa using mG⟩
      |cons _ _=>simp at mG
    have hr:=Eb h.2 o;rw [MZ] at hr;refine val (Instr.makeFunc (.func f) #[a.eval o] #[]) (.func (.func f) #[a.eval o] #[]) rfl ⟨[zu (f+1000000000) [a.eval o]],?_,?_⟩ (by simp [execOp])
    ·simp only [Cells];exact ⟨[a.eval o],rfl,[a.eval o],[],rfl,Dd.Sw Up hr,rfl⟩
    ·rw [fN (by omega)];simp [Cj,Ty.Ar]
   ·cases he
  ·cases he
 ·
  obtain ⟨v,h1,h2⟩:=tE hT h _ _ _ _ _ _ _ (Eb h.2 _) (Eb h.2 _) he;exact val _ v h1 h2 rfl
 ·
  rename_i args ts;split at he
  ·rename_i x t Rr wK
   have e1:args= #[x]:=by apply Pr;simpa using Rr
   have e2:ts= #[t]:=by apply Pr;simpa using wK
   subst e1;subst e2;split at he
   ·rename_i e Xv
    cases hn:GW st (st.ev x) with
    |none=>rw [hn] at he;cases he
    |some n=>
     rw [hn] at he;simp only [Ew,aY,Aa] at he;subst he;obtain ⟨te,hu,_⟩:=(hT.ty _ _ Xv).desc;obtain ⟨ad,len,cap,hv,rfl⟩:=GX h.1 _ _ n (Eb h.2 x) hn;refine val (Builtin.len_ #[t] ty #[a.eval x]) (.int .i64 len) ?_ (Nt _ _ _) ?_
     ·rw [hv];simp [Builtin.len_,run_underlying hu,goInt]
     ·simp [execOp,resolve,invoke,builtin]
   ·rename_i e Xv
    cases hn:GW st (qa (st.ev x)) with
    |none=>rw [hn] at he;cases he
    |some n=>
     rw [hn] at he;simp only [Ew,aY,Aa] at he;subst he;obtain ⟨te,hu,_⟩:=(hT.ty _ _ Xv).desc;obtain ⟨ad,len,cap,hv,rfl⟩:=GX h.1 _ _ n (uO (Eb h.2 x)) hn;refine val (Builtin.len_ #[t] ty #[a.eval x]) (.int .i64 len) ?_ (Nt _ _ _) ?_
     ·rw [hv];simp [Builtin.len_,run_underlying hu,goInt]
     ·simp [execOp,resolve,invoke,builtin]
   ·rename_i Xv
    cases hn:SU (st.ev x) with
    |none=>rw [hn] at he;cases he
    |some n=>
     rw [hn] at he;simp only [Ew,aY,Aa] at he;subst he;have hu:P.underlying t=some .string:=(hT.ty _ _ Xv).desc;obtain ⟨s,hv,rfl⟩:=VK _ _ n (Eb h.2 x) hn;refine val (Builtin.len_ #[t] ty #[a.eval x]) (.int .i64 s.size) ?_ (Nt _ _ _) ?_
     ·rw [hv];simp [Builtin.len_,run_underlying hu,goInt]
     ·simp [execOp,resolve,invoke,builtin]
   ·cases he
  ·cases he
 ·
  rename_i args ts;obtain ⟨v,h1,h2⟩:=tF (P:=P) h false args.toList av ts ty he;rw [show (args.toList.map a.eval).toArray=args.map a.eval from by apply Pr;simp] at h1;refine val (Builtin.min_ ts ty (args.map a.eval)) v (by simpa only [Dt,Uk,Oz] using h1) h2 ?_;simp [execOp,resolve,invoke,builtin]
 ·
  rename_i args ts;obtain ⟨v,h1,h2⟩:=tF (P:=P) h true args.toList av ts ty he;rw [show (args.toList.map a.eval).toArray=args.map a.eval from by apply Pr;simp] at h1;refine val (Builtin.max_ ts ty (args.map a.eval)) v (by simpa only [Dt,Uk,Oz] using h1) h2 ?_;simp [execOp,resolve,invoke,builtin]
 ·cases he
end
end Go.Proofs.Ytfgfigkbgecfnaa
