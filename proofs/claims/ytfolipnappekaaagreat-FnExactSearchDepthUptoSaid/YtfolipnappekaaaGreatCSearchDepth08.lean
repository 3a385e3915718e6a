/-
  Part 9 of the proof that the statement FnExactSearchDepth holds.
-/
import Derived.Test.YtfolipnappekaaaGreatCSearchDepth07
import Derived.Laws.BytesString
namespace Go.Proofs.YtfolipnappekaaaGreat
open Go.RowKit
section
variable {P:Program} {T:Tab} {X:Ctx} {w w':World} {π:Pi} {H:List (Nat×OB)}
theorem Cs.Ip {S S':Nat->Prop} {τ:Ty} {v:Value} {x:τ.den} (h:Cs w S τ v x) (hS: ∀k,k<w.heap.size->S' k->S k):Cs w S' τ v x:=
 let ⟨cs,hc,hv⟩:=h
 ⟨cs,Cells.Ez (Ao _) (λ_ _ _=>rfl) hS τ cs x hc,hv⟩
theorem Cv.Ip {S S':Nat->Prop} {τ:Ty} {vs:List Value} {x:τ.den} (h:Cv w S τ vs x) (hS: ∀k,k<w.heap.size->S' k->S k):Cv w S' τ vs x:=
 Cv.Ez ⟨Ao _,λ_ _ _=>rfl⟩ hS τ vs x h
theorem Cv.flat {S S':Nat->Prop} : ∀(τ:Ty) (vs:List Value) (x:τ.den),τ.flat=true->Cv w S τ vs x->Cv w S' τ vs x
 | .pair a r,[],x,_,h=>h
 | .pair a r,v::vs,x,hf,h=>by
  simp only [Ty.flat,Af] at hf
  exact ⟨h.1.flat hf.1,Cv.flat r vs x.2 hf.2 h.2⟩
 | .unit,[],_,_,_=>trivial
 | .unit,_::_,_,_,h=>h
 | .int _,_,_,_,h=>by simp [Cv] at h
 | .bool,_,_,_,h=>by simp [Cv] at h
 | .str,_,_,_,h=>by simp [Cv] at h
 | .slice _,_,_,_,h=>by simp [Cv] at h
 | .ptr _,_,_,_,h=>by simp [Cv] at h
 | .oslice _,_,_,_,h=>by simp [Cv] at h
 | .optr _,_,_,_,h=>by simp [Cv] at h
 | .smap _,_,_,_,h=>by simp [Cv] at h
 | .clo _ _,_,_,_,h=>by simp [Cv] at h
theorem dh {fr:Bool} {τ Oe:Ty} {x:Oe.den} {f:Bool} {y:τ.den} {v:Value} (h:iq fr τ Oe x=some (f,y)) (hc:Cs w (Da X.w0.heap.size X.Sc π fr) Oe v x):
  Cells w (Da X.w0.heap.size X.Sc π f) τ [v] y:=by
 unfold iq at h
 split at h
 ·split at h
  ·rename_i e e' _ ZB
   subst ZB
   simp only [Aa,Ad] at h
   obtain ⟨rfl,rfl⟩:=h
   have h1:=Cs.Ru rfl hc
   simp only [Cells] at h1⊢
   rcases h1 with ⟨rfl,c,h1⟩|⟨xs,ad,len,cap,rfl,h1,h2,h3,h4⟩
   ·exact ⟨none,0,c,h1,rfl,Iq _, .inl rfl⟩
   ·exact ⟨_,len,cap,h1,h2,h3,h4.imp id λ⟨g,o,ha,h4⟩=>⟨g,o,by rw [ha],h4⟩⟩
  ·cases h
 ·split at h
  ·rename_i a a' _ haa
   subst haa
   simp only [Aa,Ad] at h
   obtain ⟨rfl,rfl⟩:=h
   have h1:=Cs.Ru rfl hc
   simp only [Cells] at h1⊢
   obtain ⟨g,o,h2⟩:=h1
   exact .inr ⟨_,g,o,rfl,h2⟩
  ·cases h
 ·cases h
theorem jD {st:St} (τ:Ty) (c:AC) (v:Value) (fr:Bool) (x:τ.den) (Tw:τ.Aq=false) (hs:c.settled=true) (hc:Hp X w π st.heap c v)
  (hv:Dt st τ c=some (fr,x)):Cells w (Da X.w0.heap.size X.Sc π fr) τ [v] x:=by
 cases c with
 |data Wb Oe y=>
  rw [Ns] at hv
  split at hv
  ·rename_i ht;subst ht
   simp only [Aa,Ad] at hv
   obtain ⟨rfl,rfl⟩:=hv
   have h1:=Cs.Ru Tw hc
   cases hf:Oe.flat with
   |true=>exact Cells.flat Oe _ _ hf h1
   |false=>rw [gO];exact h1
  ·exact dh hv hc
 |Ly=>
  cases τ with
  |slice e=>
   simp only [Dt,Aa,Ad] at hv
   obtain ⟨_,rfl⟩:=hv
   exact ⟨none,0,0,by rw [show v=_ from hc],rfl,Ao _, .inl rfl⟩
  |oslice e=>
   simp only [Dt,Aa,Ad] at hv
   obtain ⟨_,rfl⟩:=hv
   exact .inl ⟨rfl,0,by rw [show v=_ from hc]⟩
  |_=>simp [Dt] at hv
 |Xa=>
  cases τ with
  |optr e=>
   simp only [Dt,Aa,Ad] at hv
   obtain ⟨_,rfl⟩:=hv
   exact .inl ⟨rfl,by rw [show v=_ from hc]⟩
  |_=>simp [Dt] at hv
 |_=>simp [AC.settled] at hs
theorem Cells.and_left {f1 f2:Bool} {τ:Ty} {cs:List Value} {x:τ.den} (h:Cells w (Da X.w0.heap.size X.Sc π f1) τ cs x):Cells w (Da X.w0.heap.size X.Sc π (f1&&f2)) τ cs x:=
 Cells.Ez (Ao _) (λ_ _ _=>rfl) (λk _ hk=>by
  rcases hk with h1|h1|⟨h1,h2⟩
  ·exact .inl h1
  ·exact .inr (.inl h1)
  ·simp at h1;exact .inr (.inr ⟨h1.1,h2⟩)) τ cs x h
theorem Cells.and_right {f1 f2:Bool} {τ:Ty} {cs:List Value} {x:τ.den} (h:Cells w (Da X.w0.heap.size X.Sc π f2) τ cs x):Cells w (Da X.w0.heap.size X.Sc π (f1&&f2)) τ cs x:=
 Cells.Ez (Ao _) (λ_ _ _=>rfl) (λk _ hk=>by
  rcases hk with h1|h1|⟨h1,h2⟩
  ·exact .inl h1
  ·exact .inr (.inl h1)
  ·simp at h1;exact .inr (.inr ⟨h1.2,h2⟩)) τ cs x h
theorem de {st:St} : ∀(τ:Ty) (cs:List AC) (us:List Value) (fr:Bool) (x:τ.den),cs.all (·.settled)=true->Gi X w π st.heap cs us->
  Fp st τ cs=some (fr,x)->Cells w (Da X.w0.heap.size X.Sc π fr) τ us x:=by
 have one: ∀(τ:Ty) (cs:List AC) (us:List Value) (fr:Bool) (x:τ.den),τ.Aq=false->cs.all (·.settled)=true->Gi X w π st.heap cs us->
   Fp st τ cs=some (fr,x)->Cells w (Da X.w0.heap.size X.Sc π fr) τ us x:=by
  intro τ cs us fr x Tw hs hr hv
  rw [Ua Tw] at hv
  split at hv
  ·rename_i c
   obtain ⟨u,hu,_,hc⟩:=hr.2 0 c rfl
   have hl:us.length=1:=hr.1
   obtain ⟨u',rfl⟩:=De.1 hl
   simp at hu;subst hu
   exact jD τ c _ fr x Tw (by simpa using hs) hc hv
  ·cases hv
 intro τ
 induction τ with
 |unit=>
  intro cs us fr x hs hr hv
  cases cs with
  |nil=>have:us= []:=Ck hr.1;exact this
  |cons c cs=>simp [Fp] at hv
 |pair a r mI jX=>
  intro cs us fr x hs hr hv
  simp only [Fp] at hv
  split at hv
  ·rename_i f1 y f2 z h1 h2
   simp only [Aa,Ad] at hv
   obtain ⟨rfl,rfl⟩:=hv
   have UB:Gi X w π st.heap (cs.take a.size) (us.take a.size):=by have:=Zz hr 0 a.size;simpa using this
   have ZT:Gi X w π st.heap (cs.drop a.size) (us.drop a.size):=
    ⟨by simp [hr.1],λi c hc=>by
     rw [Cw] at hc⊢
     exact hr.2 _ c hc⟩
   have eW:(cs.take a.size).all (·.settled)=true:=Bd.2 λc hc=>Bd.1 hs c (Gl hc)
   have mH:(cs.drop a.size).all (·.settled)=true:=Bd.2 λc hc=>Bd.1 hs c (dA hc)
   exact ⟨us.take a.size,us.drop a.size,(Ig _ _).symm,(mI _ _ _ _ eW UB h1).and_left,(jX _ _ _ _ mH ZT h2).and_right⟩
  ·cases hv
 |_=>exact λcs us fr x hs hr hv=>one _ cs us fr x rfl hs hr hv
theorem Qh {st:St} {τ:Ty} {c:AC} (h:c.settled=true):Js st τ c=Dt st τ c:=by
 cases c<;>simp [AC.settled] at h<;>cases τ<;>rfl
theorem Pa {st:St} (τ:Ty) (c:AV) (v:Value) (fr:Bool) (x:τ.den) (hs:c.settled=true) (hc:Bu X w π st.heap c v)
  (hv:Fu st τ c=some (fr,x)):Cs w (Da X.w0.heap.size X.Sc π fr) τ v x:=by
 have Nx: ∀c:AC,c.settled=true->Hp X w π st.heap c v->(if τ.Aq then none else Js st τ c)=some (fr,x)->Cs w (Da X.w0.heap.size X.Sc π fr) τ v x:=by
  intro c hs hc hv
  split at hv
  ·cases hv
  ·rename_i Tw
   simp only [Ii] at Tw
   rw [Qh hs] at hv
   exact Cs.nQ Tw (jD τ c v fr x Tw hs hc hv)
 cases c with
 | «at»c=>
  cases c with
  |data Wb Oe y=>
   rw [dc] at hv
   split at hv
   ·rename_i ht;subst ht
    simp only [Aa,Ad] at hv
    obtain ⟨rfl,rfl⟩:=hv
    cases hf:Oe.flat with
    |true=>exact Cs.flat hf hc
    |false=>rw [gO];exact hc
   ·exact Nx (.data Wb Oe y) hs hc hv
  |Ly=>exact Nx .Ly hs hc hv
  |Xa=>exact Nx .Xa hs hc hv
  |undef=>simp [AV.settled,AC.settled] at hs
  |skip=>simp [AV.settled,AC.settled] at hs
  |own l off len=>simp [AV.settled,AC.settled] at hs
  |Hm l i=>simp [AV.settled,AC.settled] at hs
  |Jy l i=>simp [AV.settled,AC.settled] at hs
  |clo f Ec=>simp [AV.settled,AC.settled] at hs
  |Kg l=>simp [AV.settled,AC.settled] at hs
  |sub l i c=>simp [AV.settled,AC.settled] at hs
  |Jv l i c=>simp [AV.settled,AC.settled] at hs
 |agg cs=>
  simp only [Fu] at hv
  split at hv
  ·rename_i Tw
   obtain ⟨us,rfl,hr⟩:=hc
   exact ⟨us,de τ cs us fr x hs hr hv,by simp [Ci,Tw]⟩
  ·cases hv
 |bz Wb Oe y=>simp [Fu] at hv
 |Mq l=>simp [Fu] at hv
theorem eD {st:St} : ∀(τ:Ty) (cs:List AV) (vs:List Value) (fr:Bool) (x:τ.den),cs.length=vs.length->cs.all (·.settled)=true->
  (∀(i:Nat) c v,cs[i]?=some c->vs[i]?=some v->Bu X w π st.heap c v)->Dw st τ cs=some (fr,x)->Cv w (Da X.w0.heap.size X.Sc π false) τ vs x
 | .unit,[],vs,fr,x,hl,hs,hr,hv=>by
  have:vs= []:=Ck hl.symm
  subst this;trivial
 | .unit,_::_,vs,fr,x,hl,hs,hr,hv=>by simp [Dw] at hv
 | .pair a r,[],vs,fr,x,hl,hs,hr,hv=>by simp [Dw] at hv
 | .pair a r,c::cs,[],fr,x,hl,hs,hr,hv=>by simp at hl
 | .pair a r,c::cs,v::vs,fr,x,hl,hs,hr,hv=>by
  simp only [Dw] at hv
  split at hv
  ·rename_i f1 y f2 z h1 h2
   simp only [Aa,Ad] at hv
   obtain ⟨rfl,rfl⟩:=hv
   simp only [Hx,Af] at hs
   exact ⟨(Pa a c v f1 y hs.1 (hr 0 c v rfl rfl) h1).Ip (λk _ hk=>by
     rcases hk with h|h|⟨h,_⟩
     ·exact .inl h
     ·exact .inr (.inl h)
     ·cases h),
    eD r cs vs f2 z (by simpa using hl) hs.2 (λi c' v' hc FT=>hr (i+1) c' v' hc FT) h2⟩
  ·cases hv
 | .int _,cs,vs,fr,x,hl,hs,hr,hv=>by cases cs<;>simp [Dw] at hv
 | .bool,cs,vs,fr,x,hl,hs,hr,hv=>by cases cs<;>simp [Dw] at hv
 | .str,cs,vs,fr,x,hl,hs,hr,hv=>by cases cs<;>simp [Dw] at hv
 | .slice _,cs,vs,fr,x,hl,hs,hr,hv=>by cases cs<;>simp [Dw] at hv
 | .ptr _,cs,vs,fr,x,hl,hs,hr,hv=>by cases cs<;>simp [Dw] at hv
 | .oslice _,cs,vs,fr,x,hl,hs,hr,hv=>by cases cs<;>simp [Dw] at hv
 | .optr _,cs,vs,fr,x,hl,hs,hr,hv=>by cases cs<;>simp [Dw] at hv
 | .smap _,cs,vs,fr,x,hl,hs,hr,hv=>by cases cs<;>simp [Dw] at hv
 | .clo _ _,cs,vs,fr,x,hl,hs,hr,hv=>by cases cs<;>simp [Dw] at hv
theorem je {st:St} {a:Act} (h:Bl X π st a w) (args:List Operand) (i:Nat) (c:AV) (v:Value) (hc:(args.map st.ev)[i]?=some c) (hv:(args.map a.eval)[i]?=some v):Bu X w π st.heap c v:=by
 rw [Fc] at hc hv
 cases hi:args[i]? with
 |none=>rw [hi] at hc;cases hc
 |some o=>
  rw [hi] at hc hv
  simp only [Am,Aa] at hc hv
  subst hc;subst hv
  exact Du h.2 o
theorem aP {Γ:Env} (Pg:Ki P Γ) {st:St} {a:Act} (h:Bl X π st a w) (f:FuncId) (cs:List AV) (vs:List Value) (hlen:cs.length=vs.length)
  (Ah2: ∀(i:Nat) c v,cs[i]?=some c->vs[i]?=some v->Bu X w π st.heap c v) (av:AV) (he:Ot Γ st f cs=some av):
  (∀vs w,(callFunc f vs).run P w= .ok (.enter f vs) w)/\
  Calls P f vs.toArray w (λe ry=> ∃v,e= .returned v/\Below w.heap.size w ry/\Bu X ry π st.heap av v):=by
 unfold Ot at he
 split at he
 ·rename_i s hs
  have snd:Sound P f s:=Pg f _ hs
  refine ⟨snd.enter,?_⟩
  split at he
  ·rename_i Jn
   split at he
   ·cases he
   ·rename_i tH x hx
    cases hy:s.fn x with
    |none=>rw [hy] at he;cases he
    |some y=>
     rw [hy] at he
     simp only [Am,Aa] at he
     have rP: ∀(S:Nat->Prop),(∀k,S k->k<w.heap.size)->Cv w S s.arg vs x->(s.fresh=true\/s.res.flat=true\/ ∀k,Da X.w0.heap.size X.Sc π false k->S k)->
       Calls P f vs.toArray w (λe ry=> ∃v,e= .returned v/\Below w.heap.size w ry/\Bu X ry π st.heap av v):=by
      intro S Aro Qx Atp
      refine (snd.calls w S _ x y Aro Qx hy).mono ?_
      rintro e ry ⟨v,rfl,hb,hr⟩
      refine ⟨v,rfl,hb,?_⟩
      have hA:s.res.flat=true\/ ∀k,k<ry.heap.size->Da X.w0.heap.size X.Sc π (s.fresh||s.res.flat) k->(S k\/(s.fresh=true/\k<w.heap.size)):=by
       cases hf:s.res.flat with
       |true=>exact .inl rfl
       |false=>
        right
        intro k _ hk
        cases FK:s.fresh with
        |true=>
         right
         refine ⟨rfl,?_⟩
         rcases hk with ⟨l,r,hl,hg⟩|hk|⟨_,hk⟩
         ·exact (h.1.own ⟨l,r,hl,hg⟩).1
         ·have:=h.1.sc k hk;have:=h.1.below.size;omega
         ·have:=h.1.below.size;omega
        |false=>
         left
         have tV:Da X.w0.heap.size X.Sc π false k:=by simpa [FK,hf] using hk
         rcases Atp with h1|h1|h1
         ·rw [FK] at h1;cases h1
         ·rw [hf] at h1;cases h1
         ·exact h1 k tV
      unfold lJ at hr
      subst he
      split
      ·rename_i hm
       rw [Ab hm] at hr
       obtain ⟨us,rfl,hr⟩:=hr
       refine ⟨us,rfl,?_⟩
       rcases hA with hf|hA
       ·exact Cv.flat _ _ _ hf hr
       ·exact hr.Ip hA
      ·rename_i hm
       rw [Ag hm] at hr
       rcases hA with hf|hA
       ·exact Cs.flat hf hr
       ·exact hr.Ip hA
     cases hff:(s.fresh||s.res.flat) with
     |true=>
      refine rP (λ_=>False) (λ_ h=>h.elim) (bh h.1 s.arg _ _ tH x hlen Ah2 hx ⟨λ_ h=>h.elim, .inr λ_ h=>h.elim⟩) ?_
      simp only [Ka] at hff
      rcases hff with h1|h1
      ·exact .inl h1
      ·exact .inr (.inl h1)
     |false=>
      rw [hff,Se] at Jn
      refine rP (Da X.w0.heap.size X.Sc π false) (λk hk=>?_) (eD s.arg _ _ tH x hlen Jn Ah2 hx) (.inr (.inr λ_ hk=>hk))
      rcases hk with ⟨l,r,hl,hg⟩|hk|⟨hk,_⟩
      ·exact (h.1.own ⟨l,r,hl,hg⟩).1
      ·have:=h.1.sc k hk;have:=h.1.below.size;omega
      ·cases hk
  ·cases he
 ·cases he
theorem tj {fr:Bool} : ∀(τ:Ty) (us:List Value) (x:τ.den),(∀a r,τ≠ .pair a r->True)->Cells w (Da X.w0.heap.size X.Sc π fr) τ us x->τ.chain=true->
  (bH fr τ x).length=us.length/\ ∀(i:Nat) c v,(bH fr τ x)[i]?=some c->us[i]?=some v->Bu X w π H c v
 | .unit,us,x,_,hc,_=>by
  simp only [Cells] at hc
  subst hc
  exact ⟨rfl,λi c v h=>by simp [bH] at h⟩
 | .pair a r,us,x,_,hc,hch=>by
  simp only [Cells] at hc
  simp only [Ty.chain,Af,Ef] at hch
  obtain ⟨c1,c2,rfl,h1,h2⟩:=hc
  have hl:=Cells.len a c1 x.1 h1
  have h3:a.size=1:=by cases a<;>simp_all [Ty.Aq,Ty.size]
  rw [h3] at hl
  obtain ⟨u,rfl⟩:=De.1 hl
  obtain ⟨h4,h5⟩:=tj r c2 x.2 (λ_ _ _=>trivial) h2 hch.2
  refine ⟨by simp [bH,h4],λi c v hc hv=>?_⟩
  rcases i with _|i
  ·simp only [bH,Bz,Aa] at hc
   simp only [List.singleton_append,Bz,Aa] at hv
   subst hc;subst hv
   exact ⟨[u],h1,by simp [Ci,hch.1]⟩
  ·simp only [bH,Mb] at hc
   simp only [List.singleton_append,Mb] at hv
   exact h5 i c v hc hv
 | .int _,_,_,_,_,h=>by simp [Ty.chain] at h
 | .bool,_,_,_,_,h=>by simp [Ty.chain] at h
 | .str,_,_,_,_,h=>by simp [Ty.chain] at h
 | .slice _,_,_,_,_,h=>by simp [Ty.chain] at h
 | .oslice _,_,_,_,_,h=>by simp [Ty.chain] at h
 | .ptr _,_,_,_,_,h=>by simp [Ty.chain] at h
 | .optr _,_,_,_,_,h=>by simp [Ty.chain] at h
 | .smap _,_,_,_,_,h=>by simp [Ty.chain] at h
 | .clo _ _,_,_,_,_,h=>by simp [Ty.chain] at h
theorem hY {cs ds:List AV} {vs us:List Value} (hl:cs.length=vs.length) (h1: ∀(i:Nat) c v,cs[i]?=some c->vs[i]?=some v->Bu X w π H c v)
  (h2: ∀(i:Nat) c v,ds[i]?=some c->us[i]?=some v->Bu X w π H c v) (i:Nat) (c:AV) (v:Value) (hc:(cs++ds)[i]?=some c) (hv:(vs++us)[i]?=some v):Bu X w π H c v:=by
 by_cases hi:i<cs.length
 ·rw [At hi] at hc
  rw [At (by omega)] at hv
  exact h1 i c v hc hv
 ·rw [Ar (by omega)] at hc
  rw [Ar (by omega)] at hv
  rw [hl] at hc
  exact h2 _ c v hc hv
theorem wi {Γ:Env} (Pg:Ki P Γ) {st:St} {a:Act} (h:Bl X π st a w) (c:AV) (v:Value) (hv:Bu X w π st.heap c v) (args:List Operand) (av:AV) (he:Xu Γ st c (args.map st.ev)=some av):
  ∃f bs us,v= .func (.func f) (bs:List Value).toArray (us:List Value).toArray/\(∀vs w,(callFunc f vs).run P w= .ok (.enter f vs) w)/\
  Calls P f (bs++args.map a.eval++us).toArray w (λe ry=> ∃v,e= .returned v/\Below w.heap.size w ry/\Bu X ry π st.heap av v):=by
 unfold Xu at he
 split at he
 ·rename_i fr f τ x
  split at he
  ·rename_i hch
   obtain ⟨cs,hc,rfl⟩:=hv
   simp only [Cells] at hc
   obtain ⟨us,rfl,hc⟩:=hc
   obtain ⟨h1,h2⟩:=tj (H:=st.heap) τ us x (λ_ _ _=>trivial) hc hch
   by_cases hf:f<1000000000
   ·rw [Ab hf] at he
    have:=aP Pg h f _ (args.map a.eval++us) (by simp [h1]) (hY (by simp) (je h args) h2) av he
    exact ⟨f,[],us,by simp [Ci,Ty.Aq,ik hf],by simpa using this⟩
   ·rw [Ag hf] at he
    have:=aP Pg h (f-1000000000) _ (us++args.map a.eval) (by simp [h1]) (hY h1 h2 (je h args)) av he
    exact ⟨f-1000000000,us,[],by simp [Ci,Ty.Aq,eR hf],by simpa using this⟩
  ·cases he
 ·rename_i f Ec
  obtain ⟨us,rfl,h1,h2⟩:=hv
  have:=aP Pg h f _ (args.map a.eval++us) (by simp [h1]) (hY (by simp) (je h args) (λi c v hc hv=>by
   rw [Fc] at hc
   cases hi:Ec[i]? with
   |none=>rw [hi] at hc;cases hc
   |some p=>
    rw [hi] at hc
    simp only [Am,Aa] at hc
    subst hc
    obtain ⟨r,tid,vs,h3,h4,h5⟩:=h2 i p hi
    rw [h5] at hv
    simp only [Aa] at hv
    subst hv
    exact ⟨r,tid,vs,h3,h4,rfl⟩)) av he
  exact ⟨f,[],us,rfl,by simpa using this⟩
 ·cases he
theorem BG (ρ:Operand->Value) (t:Nat) (f:FuncId) (bs us:List Value) (args:Array Operand) (ts:Array TypeId) (dst:Option Tmp) (ty:TypeId) (pos:String) (af:Array Edge) (gd:Option (Nat×Bool))
  (hρ:ρ (.tmp t)= .func (.func f) bs.toArray us.toArray) (hc: ∀vs w,(callFunc f vs).run P w= .ok (.enter f vs) w):
  (execOp ρ ⟨dst, .call {callee:= .value (.tmp t),args:=args,argTypes:=ts},ty,pos,af,gd⟩).run P w= .ok (.enter f (bs++args.toList.map ρ++us).toArray) w:=by
 have:bs.toArray++(args.map ρ)++us.toArray=(bs++args.toList.map ρ++us).toArray:=by apply Pb;simp
 simp [execOp,resolve,Deferred.ofValue,hρ,invoke,hc,this]
theorem tm {st:St} {a:Act} (h:Bl X π st a w): ∀(l:List Operand) (c:List (Nat×Nat)),lR (l.map st.ev)=some c->
  (l.map a.eval).length=c.length/\ ∀(j:Nat) p,c[j]?=some p-> ∃r tid vs,Au st.heap p.1=some (.var tid vs)/\π p.1=some r/\(l.map a.eval)[j]?=some (.pointer (some ⟨r.g,p.2,none⟩))
 | [],c,he=>by simp only [List.map_nil,lR,Aa] at he;subst he;exact ⟨rfl,λj p hp=>by simp at hp⟩
 |x::l,c,he=>by
  simp only [Ca] at he
  unfold lR at he
  split at he
  ·rename_i heq;simp at heq
  ·rename_i k i r heq
   simp only [Gb] at heq
   obtain ⟨h1,rfl⟩:=heq
   cases hr:lR (l.map st.ev) with
   |none=>rw [hr] at he;cases he
   |some c'=>
    rw [hr] at he
    simp only [Am,Aa] at he
    subst he
    obtain ⟨h2,h3⟩:=tm h l c' hr
    have e:=Du h.2 x
    rw [h1] at e
    obtain ⟨r,tid,vs,h4,h5,h6⟩:=e
    refine ⟨by simpa using h2,λj p hp=>?_⟩
    rcases j with _|j
    ·simp only [Bz,Aa] at hp;subst hp
     exact ⟨r,tid,vs,h4,h5,by rw [Ca,Bz,h6]⟩
    ·exact h3 j p hp
  ·cases he
theorem KX (a b:ByteArray):(a==b)=decide (a=b):=by
 obtain ⟨a⟩:=a;obtain ⟨b⟩:=b
 show ByteArray.beq _ _=_
 unfold ByteArray.beq
 by_cases h:a=b
 ·subst h;simp
 ·rw [Dq (by simpa using h)];simpa using h
theorem iz (s:ByteArray): ∀(es:List MapEntry) (i:Nat),(∀e∈es,(Tj e.key).isSome=true)->
  ∃r,Instr.findNow .string (.string s) es i=some r/\r.map (·.2)=Qz es s/\(∀j v,r=some (j,v)->i<=j/\(∃e,es[j-i]?=some e/\e.key= .string s)/\ ∀k e,k<j-i->es[k]?=some e->Tj e.key≠some s)
 | [],i,_=>⟨none,rfl,rfl,λj v h=>by cases h⟩
 |e::es,i,h=>by
  have he:=h e (by simp)
  have hk: ∃t,e.key= .string t:=by
   unfold Tj at he
   split at he
   ·exact ⟨_,by assumption⟩
   ·cases he
  obtain ⟨t,hk⟩:=hk
  simp only [Instr.findNow,hk,Instr.sameNow]
  by_cases Tq:s=t
  ·subst Tq
   have hb:(s==s)=true:=by rw [KX];simp
   rw [hb]
   refine ⟨some (i,e.val),rfl,by simp [Qz,hk,Tj],λj v hj=>?_⟩
   simp only [Aa,Ad] at hj
   obtain ⟨rfl,rfl⟩:=hj
   exact ⟨Ao _,⟨e,by simp,hk⟩,λk e h=>by omega⟩
  ·obtain ⟨r,h1,h2,h3⟩:=iz s es (i+1) λe he=>h e (by simp [he])
   have hb:(s==t)=false:=by rw [KX];simpa using Tq
   rw [hb]
   refine ⟨r,h1,?_,λj v hj=>?_⟩
   ·rw [h2]
    simp only [Qz,hk,Tj]
    rw [Ag (by simpa using λe:t=s=>Tq e.symm)]
   ·obtain ⟨h4,⟨e',h5,h6⟩,h7⟩:=h3 j v hj
    refine ⟨by omega,⟨e',by rw [show j-i=(j-(i+1))+1 by omega,Mb];exact h5,h6⟩,λk e2 ZH he2=>?_⟩
    rcases k with _|k
    ·simp only [Bz,Aa] at he2
     subst he2
     rw [hk]
     simpa [Tj] using λe:t=s=>Tq e.symm
    ·exact h7 k e2 (by omega) (by simpa using he2)
theorem fC {g:Nat} {es:Array MapEntry} {clock:Nat} (h:w.heap[g]?=some (.map es clock)):(getObj g).run P w= .ok (.map es clock) w:=by simp [getObj,Sem.run,h]
theorem Vx {k:TypeId} (hk:P.underlying k=some .string) (b:Bool) (s:ByteArray) (w:World):(Instr.checkKey b 10000 k (.string s)).run P w= .ok () w:=by
 rw [show (10000:Nat)=9999+1 from rfl]
 unfold Instr.checkKey
 rw [Sem.run_bind,run_underlying hk]
 rfl
theorem tw (hT:Dz P T) {st:St} {a:Act} (h:Bl X π st a w) (t:TypeId) (m k:AV) (ok:Bool) (vm vk:Value) (av:AV) (hm:Bu X w π st.heap m vm) (hk:Bu X w π st.heap k vk)
  (he:eS T st t m k ok=some av): ∃v,(Instr.lookup t vm vk ok).run P w= .ok v w/\Bu X w π st.heap av v:=by
 unfold eS at he
 split at he
 ·rename_i vt fr s ht
  have:=fu hk;subst this
  obtain ⟨kt,et,h1,h2,h3,h4,h5⟩:=hT.mapOf t vt ht
  split at he
  ·rename_i sw f hv
   simp only [Aa] at he
   have hr:=Yw h.1 (S:= λ_=>False) (.smap vt) m vm sw f hm hv ⟨λ_ h=>h.elim, .inr λ_ h=>h.elim⟩
   obtain ⟨cs,hc,rfl⟩:=hr
   have TU: ∀y:vt.den,∀u,Cells w (λ_=>False) vt [u] y->Cs w (Da X.w0.heap.size X.Sc π true) vt u y:= λy u hu=>⟨[u],Cells.flat vt [u] y h4 hu,by simp [Ci,h5]⟩
   obtain ⟨inf,hi,Vq,_,tU⟩:=(hT.ty et vt h3).info
   have hzero:(zeroValue et).run P w= .ok (Ci vt (Cd vt)) w:=by simp [zeroValue,typeInfo,hi,tU]
   have hzc:Cells w (λ_=>False) vt [Ci vt (Cd vt)] vt.zero:=by
    cases vt<;>first|(simp [Ty.flat] at h4;done)|(simp [Ty.Aq] at h5;done)|(simp [Ci,Ty.Aq,Cd,Cells,Ty.zero];done)
   have fin: ∀(es:List MapEntry),(∀e∈es,(Tj e.key).isSome=true)->(f s=none->Qz es s=none)->(∀y,f s=some y-> ∃u,Qz es s=some u/\Cells w (λ_=>False) vt [u] y)->
     (∀r,(Instr.findKey kt (.string s) es).run P w= .ok r w-> ∀u,r.map (·.2)=(if (f s).isSome then some u else none)->(r=none->u=Ci vt (Cd vt))->
      (Instr.lookup t (Ci (.smap vt) cs) (.string s) ok).run P w= .ok (if ok then .tuple #[u, .bool (f s).isSome] else u) w)->
     ∃v,(Instr.lookup t (Ci (.smap vt) cs) (.string s) ok).run P w= .ok v w/\Bu X w π st.heap av v:=by
    intro es h6 h7 h8 h9
    obtain ⟨r,oO,gJ,_⟩:=iz s es 0 h6
    have h12:(Instr.findKey kt (.string s) es).run P w= .ok r w:=by
     unfold Instr.findKey
     simp only [Sem.run_bind,run_underlying h2,Result.andThen_ok,oO,Sem.run_pure]
    have: ∃u,r.map (·.2)=(if (f s).isSome then some u else none)/\(r=none->u=Ci vt (Cd vt))/\Cells w (λ_=>False) vt [u] ((f s).getD vt.zero):=by
     cases hf:f s with
     |none=>
      have h13:=h7 hf
      rw [h13] at gJ
      exact ⟨Ci vt (Cd vt),by rw [gJ];rfl,λ_=>rfl,hzc⟩
     |some y=>
      obtain ⟨u,h13,h14⟩:=h8 y hf
      rw [h13] at gJ
      refine ⟨u,by rw [gJ];rfl,λ(e:r=none)=>?_,h14⟩
      rw [e] at gJ;cases gJ
    obtain ⟨u,h13,h14,h15⟩:=this
    have Vr:=h9 r h12 u h13 h14
    cases ok with
    |true=>
     simp only [Ph] at he Vr
     subst he
     exact ⟨_,Vr,[u, .bool (f s).isSome],rfl,TU _ u h15,⟨[_],rfl,rfl⟩,trivial⟩
    |false=>
     simp only [Dh,Tr] at he Vr
     subst he
     exact ⟨_,Vr,TU _ u h15⟩
   have hmk: ∀v,Ci (.smap vt) [v]=v:= λv=>by simp [Ci,Ty.Aq]
   have run: ∀(r:Option (Nat×Value)) (u:Value) (b:Bool),r.map (·.2)=(if b then some u else none)->(r=none->u=Ci vt (Cd vt))->
     (∃j,r=some (j,u)/\b=true)\/(r=none/\b=false/\u=Ci vt (Cd vt)):=by
    intro r u b h6 h7
    cases r with
    |none=>cases b<;>simp at h6⊢;exact h7 rfl
    |some p=>cases b<;>simp at h6⊢;subst h6;exact ⟨p.1,rfl⟩
   simp only [Cells] at hc
   rcases hc with ⟨rfl,hf⟩|⟨g,rfl,hg,_,es,clock,h6,h7,h8,h9⟩
   ·refine fin [] (by simp) (λ_=>rfl) (λy hy=>by rw [hf] at hy;cases hy) λr h6 u h7 h8=>?_
    rcases run r u _ h7 h8 with ⟨j,rfl,hb⟩|⟨rfl,hb,rfl⟩
    ·rw [hf] at hb;cases hb
    ·rw [hb,hmk]
     unfold Instr.lookup
     generalize hz:Ci vt (Cd vt)=z at hzero⊢
     simp [run_underlying h1,Vx h2,h6,hzero]
   ·refine fin es.toList h7 (λhn=>h8 s hn) (λy hy=>h9 s y hy) λr oO u gJ h12=>?_
    rw [hmk]
    unfold Instr.lookup
    rcases run r u _ gJ h12 with ⟨j,rfl,hb⟩|⟨rfl,hb,rfl⟩
    ·rw [hb]
     simp [run_underlying h1,Vx h2,fC h6,oO]
    ·rw [hb]
     generalize hz:Ci vt (Cd vt)=z at hzero⊢
     simp [run_underlying h1,Vx h2,fC h6,oO,hzero]
  ·cases he
 ·cases he
theorem VL (ns:List Int): ∀b:ByteArray,ns.foldl (λr n=>r.push (UInt8.ofNat n.toNat)) b=⟨b.data++(ns.map λn=>UInt8.ofNat n.toNat).toArray⟩:=by
 induction ns with
 |nil=>intro b;simp
 |cons n ns ih=>
  intro b
  rw [Ih,ih]
  simp [ByteArray.push]
theorem LQ {s d:TypeId} {v:Value} {xs:List Int} (hT:Dz P T) (hs:T.ty s=some (.slice (.int .u8))) (hd:T.ty d=some .str) (h:Cs w (λ_=>False) (.slice (.int .u8)) v xs):
  (convert s d v).run P w= .ok (.string (bytesOf xs)) w:=by
 obtain ⟨te,h1,h2,h3⟩:=(hT.ty _ _ hs).desc
 have h4:P.underlying te=some (.int .u8):=(hT.ty _ _ h3).desc
 have h5:P.underlying d=some .string:=(hT.ty _ _ hd).desc
 obtain ⟨cs,hc,rfl⟩:=h
 simp only [Cells] at hc
 obtain ⟨a,len,cap,rfl,hlen,tR,MF⟩:=hc
 simp only [Ci,Ty.Aq,Dh,Tr,gY]
 rw [run_convert_bytes_string w s d te a len cap h1 h4 h5]
 rcases MF with rfl|⟨g,o,rfl,hg,_,Ke⟩
 ·have:len=0:=hlen
  subst this
  cases a with
  |none=>simp [Conv.bytesToString,bytesOf];rfl
  |some a=>
   rw [run_bytesToString w a 0 cap [] (by simp [loadCells,loadCellsFrom])]
   rfl
 ·rw [run_bytesToString w _ len cap xs (by
   have:=run_loadCells_list (P:=P) w ⟨g,o,none⟩ (xs.map (Value.int .u8)) (λj v hv=>by
    rw [Fc] at hv
    cases hj:xs[j]? with
    |none=>rw [hj] at hv;cases hv
    |some x=>
     rw [hj] at hv
     simp only [Am,Aa] at hv
     subst hv
     obtain ⟨es,h6,h7,h8⟩:=Ke j x hj
     have h8:es= [.int .u8 x]:=h8
     subst h8
     rw [Addr.add_lit]
     have:=h7 0 _ rfl
     simpa [Ty.size] using this)
   rw [Di,<-hlen] at this
   exact this)]
  rw [VL]
  simp [bytesOf]
theorem jh (ρ:Operand->Value) (f:FuncId) (args:Array Operand) (ts:Array TypeId) (dst:Option Tmp) (ty:TypeId) (pos:String) (af:Array Edge) (gd:Option (Nat×Bool))
  (hρ:ρ (.func f)= .func (.func f) #[] #[]) (hc: ∀vs w,(callFunc f vs).run P w= .ok (.enter f vs) w):
  (execOp ρ ⟨dst, .call {callee:= .value (.func f),args:=args,argTypes:=ts},ty,pos,af,gd⟩).run P w= .ok (.enter f (args.map ρ)) w:=by
 simp [execOp,resolve,Deferred.ofValue,hρ,invoke,hc]
theorem yW {fr:Bool} : ∀(τ:Ty) (x:τ.den) (vs:List Value) (i:Nat) (av:AV),Cv w (Da X.w0.heap.size X.Sc π fr) τ vs x->db fr τ x i=some av->
  ∃v,vs[i]?=some v/\Bu X w π H av v
 | .pair a r,x,[],i,av,h,he=>h.elim
 | .pair a r,x,v::vs,0,av,h,he=>by
  simp only [db,Aa] at he;subst he
  exact ⟨v,rfl,uO h.1⟩
 | .pair a r,x,v::vs,i+1,av,h,he=>by
  obtain ⟨u,hu,hr⟩:=yW r x.2 vs i av h.2 he
  exact ⟨u,hu,hr⟩
 | .int _,_,_,i,_,_,he=>by cases i<;>simp [db] at he
 | .bool,_,_,i,_,_,he=>by cases i<;>simp [db] at he
 | .str,_,_,i,_,_,he=>by cases i<;>simp [db] at he
 | .slice _,_,_,i,_,_,he=>by cases i<;>simp [db] at he
 | .ptr _,_,_,i,_,_,he=>by cases i<;>simp [db] at he
 | .oslice _,_,_,i,_,_,he=>by cases i<;>simp [db] at he
 | .optr _,_,_,i,_,_,he=>by cases i<;>simp [db] at he
 | .smap _,_,_,i,_,_,he=>by cases i<;>simp [db] at he
 | .clo _ _,_,_,i,_,_,he=>by cases i<;>simp [db] at he
 | .unit,_,_,i,_,_,he=>by cases i<;>simp [db] at he
theorem UL (x:AV) (vx:Value) (n:Int) (hx:Bu X w π H x vx) (h:Aag x=some n): ∃a len cap,vx= .slice a len cap/\n=len:=by
 unfold Aag at h
 split at h
 ·simp only [Aa] at h;subst h
  exact ⟨none,0,0,hx,rfl⟩
 ·simp only [Aa] at h;subst h
  obtain ⟨cs,hc,rfl⟩:=hx
  simp only [Cells] at hc
  obtain ⟨a,len,cap,rfl,hl,_⟩:=hc
  exact ⟨a,len,cap,by simp [Ci,Ty.Aq],by rw [hl]⟩
 ·rename_i l off len
  simp only [Aa] at h;subst h
  obtain ⟨b,sz,n,_,_,_,ho⟩:=hx
  cases hp:π l with
  |none=>rw [hp] at ho;obtain ⟨rfl,_,rfl⟩:=ho;exact ⟨none,0,0,rfl,rfl⟩
  |some r=>rw [hp] at ho;obtain ⟨ad,rfl,_⟩:=ho;exact ⟨some ad,len,_,rfl,rfl⟩
 ·cases h
theorem uG {c:AV} {v:Value} (h:Bu X w π H c v):Bu X w π H (pI c) v:=by
 unfold pI
 split
 ·rename_i fr e x
  obtain ⟨cs,h1,h2⟩:=h
  rcases h1 with ⟨rfl,c,rfl⟩|⟨xs,ad,len,cap,rfl,rfl,h3,h4,h5⟩
  ·exact ⟨_,⟨none,0,c,rfl,rfl,Iq _, .inl rfl⟩,h2⟩
  ·refine ⟨_,⟨some ad,len,cap,rfl,h3,h4,h5.imp id λ⟨g,o,g1,g2⟩=>⟨g,o,by rw [g1],g2⟩⟩,h2⟩
 ·exact h
theorem GG {st:St} (h:Mv X w π st.heap) (x:AV) (vx:Value) (n:Int) (hx:Bu X w π st.heap x vx) (hn:GF st x=some n): ∃a len cap,vx= .slice a len cap/\n=len:=by
 unfold GF at hn
 split at hn
 ·rename_i l i c
  split at hn
  ·rename_i e te rows kp hl
   simp only [Aa] at hn;subst hn
   unfold St.at at hl
   obtain ⟨r,b,sz,m,g1,g0,g2,g3,⟨g4,_⟩,g5⟩:=hx
   rw [hl] at g1;cases g1
   simp only [OB.gi,Aa,Ad] at g0
   obtain ⟨rfl,rfl⟩:=g0
   have l4:c=0:=by omega
   subst l4
   rw [Fq,Ex] at g5
   obtain ⟨u,R,k1,k2,k3⟩:=nv h hl g2 g3 (by simp)
   rw [g5] at k1
   have hu:=Ba k1
   subst hu
   cases R with
   |none=>obtain ⟨rfl,_,hh⟩:=k2;exact ⟨none,0,0,rfl,by rw [hh]⟩
   |some q=>obtain ⟨ad,rfl,_⟩:=k2;exact ⟨some ad,_,_,rfl,rfl⟩
  ·cases hn
 ·exact UL x vx n hx hn
theorem UM (x:AV) (vx:Value) (n:Int) (hx:Bu X w π H x vx) (h:SA x=some n): ∃s,vx= .string s/\n=s.size:=by
 unfold SA at h
 split at h
 ·simp only [Aa] at h;subst h
  exact ⟨_,fu hx,rfl⟩
 ·cases h
theorem tz {st:St} {a:Act} (h:Bl X π st a w) (mx:Bool) (args:List Operand) (av:AV) (ts:Array TypeId) (ty:TypeId) (he:zt mx (args.map st.ev)=some av):
  ∃v,(if mx then Builtin.max_ ts ty (args.map a.eval).toArray else Builtin.min_ ts ty (args.map a.eval).toArray).run P w= .ok v w/\Bu X w π st.heap av v:=by
 unfold zt at he
 split at he
 ·rename_i k n k' m heq
  cases args with
  |nil=>simp at heq
  |cons x r=>
   cases r with
   |nil=>simp at heq
   |cons y r=>
    simp only [Ca,Gb,List.map_eq_nil_iff] at heq
    obtain ⟨hx,hy,rfl⟩:=heq
    split at he
    ·rename_i hk;subst hk
     simp only [aM,Aa] at he;subst he
     have e1:=Du h.2 x;rw [hx] at e1
     have e2:=Du h.2 y;rw [hy] at e2
     have e1:=Qb e1
     have e2:=Qb e2
     refine ⟨_,?_,Oa _ _ _⟩
     cases mx<;>simp [Builtin.max_,Builtin.min_,Builtin.max2,Builtin.min2,e1,e2]
    ·cases he
 ·cases he
theorem ix {Γ:Env} (hT:Dz P T) (Pg:Ki P Γ) {st:St} {a:Act} (h:Bl X π st a w) (o:Oper) (av:AV) (he:Ey T Γ st o=some av):
  QN P X π st.heap w av ((execOp a.eval o).run P w):=by
 obtain ⟨dst,op,ty,pos,af,gd⟩:=o
 have val: ∀(s:Sem Value) (v:Value),s.run P w= .ok v w->Bu X w π st.heap av v->(execOp a.eval ⟨dst,op,ty,pos,af,gd⟩=do pure (.value (<-s)))->
   QN P X π st.heap w av ((execOp a.eval ⟨dst,op,ty,pos,af,gd⟩).run P w):=by
  intro s v h1 h2 h3
  rw [h3,Sem.run_bind,h1]
  exact ⟨rfl,h2⟩
 unfold Ey at he
 split at he
 all_goals (rename_i sB;dsimp only at sB;try subst sB)
 ·
  simp only [Aa] at he;subst he
  exact ⟨rfl,Du h.2 _⟩
 ·
  simp only [Aa] at he;subst he
  exact ⟨rfl,Du h.2 _⟩
 ·
  rename_i c x y
  unfold dM at he
  split at he
  ·rename_i fr b hc
   simp only [Aa] at he;subst he
   have e:=Du h.2 c
   rw [hc] at e
   have e:=a5 e
   have:(execOp a.eval ⟨dst, .pick c x y,ty,pos,af,gd⟩).run P w= .ok (.value (if b then a.eval x else a.eval y)) w:=by
    simp [execOp,e,asBool]
   rw [this]
   refine ⟨rfl,?_⟩
   cases b
   ·exact Du h.2 y
   ·exact Du h.2 x
  ·cases he
 ·
  obtain ⟨v,h1,h2⟩:=ng hT h _ _ _ _ (Du h.2 _) he
  exact val _ v h1 h2 rfl
 ·
  rename_i x
  have e:=Du h.2 x
  split at he
  ·rename_i fr τ y hx
   simp only [Aa] at he;subst he
   rw [hx] at e
   have e':=e
   obtain ⟨cs,hc,hv⟩:=e
   simp only [Cells] at hc
   obtain ⟨g,o,rfl,_⟩:=hc
   simp only [Ci,Ty.Aq,Dh,Tr,gY] at hv
   have:(execOp a.eval ⟨dst, .nilCheck x,ty,pos,af,gd⟩).run P w= .ok (.value (a.eval x)) w:=by simp [execOp,hv]
   rw [this];exact ⟨rfl,e'⟩
  ·rename_i fr τ y hx
   simp only [Aa] at he;subst he
   rw [hx] at e
   obtain ⟨cs,hc,hv⟩:=e
   simp only [Cells] at hc
   rcases hc with ⟨h0,_⟩|⟨y',g,o,h0,rfl,hr⟩
   ·cases h0
   simp only [Aa] at h0;subst h0
   simp only [Ci,Ty.Aq,Dh,Tr,gY] at hv
   have:(execOp a.eval ⟨dst, .nilCheck x,ty,pos,af,gd⟩).run P w= .ok (.value (a.eval x)) w:=by simp [execOp,hv]
   rw [this];exact ⟨rfl,[_],⟨g,o,rfl,hr⟩,by rw [hv];simp [Ci,Ty.Aq]⟩
  ·rename_i l i hx
   simp only [Aa] at he;subst he
   rw [hx] at e
   have e':=e
   obtain ⟨r,tid,vs,_,_,hv⟩:=e
   have:(execOp a.eval ⟨dst, .nilCheck x,ty,pos,af,gd⟩).run P w= .ok (.value (a.eval x)) w:=by simp [execOp,hv]
   rw [this];exact ⟨rfl,e'⟩
  ·rename_i l i hx
   simp only [Aa] at he;subst he
   rw [hx] at e
   have e':=e
   obtain ⟨r,b,sz,n,_,_,_,_,hv⟩:=e
   have:(execOp a.eval ⟨dst, .nilCheck x,ty,pos,af,gd⟩).run P w= .ok (.value (a.eval x)) w:=by simp [execOp,hv]
   rw [this];exact ⟨rfl,e'⟩
  ·cases he
 ·
  obtain ⟨v,h1,h2⟩:=zq (P:=P) hT _ _ _ _ _ _ _ _ av (Du h.2 _) (Du h.2 _) he
  exact val _ v h1 h2 rfl
 ·
  obtain ⟨v,h1,h2⟩:=LY (P:=P) _ _ _ av (Du h.2 _) he
  exact val _ v h1 h2 rfl
 ·
  rename_i s t x
  split at he
  ·rename_i σ k fr1 k1 n hs ht hx
   simp only [aM,Aa] at he;subst he
   have e:=Du h.2 x
   rw [hx] at e
   have e:=Qb e
   have hd:P.underlying t=some (.int k):=(hT.ty _ _ ht).desc
   have Ate:(P.underlying s).isSome=true:=by
    obtain ⟨i,hi,_⟩:=(hT.ty _ _ hs).info
    have:=(hT.ty _ _ hs).desc
    cases σ<;>simp only at this
    all_goals first
     |(rw [this];rfl)
     |(obtain ⟨_,this,_⟩:=this;rw [this];rfl)
     |(obtain ⟨_,this⟩:=this;rw [this];rfl)
     |(obtain ⟨_,_,this⟩:=this;rw [this];rfl)
     |exact this.elim
   exact val _ (.int k (k.wrap n)) (by
    obtain ⟨d,hd0⟩:=gQ.1 Ate
    rw [e];simp [convert,run_underlying hd0,run_underlying hd,Conv.intToInt]) (Oa _ _ _) rfl
  ·rename_i _ _ hs ht
   cases hv:Fu st (.slice (.int .u8)) (st.ev x) with
   |none=>rw [hv] at he;cases he
   |some p=>
    rw [hv] at he
    simp only [Am,Aa] at he;subst he
    have e:=Du h.2 x
    have hr:=Yw h.1 (S:= λ_=>False) _ _ _ p.1 p.2 e hv ⟨λ_ h=>h.elim, .inr λ_ h=>h.elim⟩
    exact val _ _ (LQ hT hs ht hr) (pB _ _) rfl
  ·cases he
 ·
  rename_i t x lo hi mx
  split at he
  ·cases he
  ·rename_i hmx
   simp only [Ii,Option.isSome_eq_false_iff,Option.isNone_iff_eq_none] at hmx
   subst hmx
   obtain ⟨v,h1,h2⟩:=wm hT h t _ _ lo hi av (Du h.2 x) he
   exact val _ v h1 h2 rfl
 ·
  obtain ⟨v,h1,h2⟩:=cC hT _ _ _ _ av (Du h.2 _) he
  exact val _ v (h1 w) h2 rfl
 ·
  obtain ⟨v,h1,h2⟩:=wj hT _ _ _ _ av (Du h.2 _) he
  exact val _ v h1 h2 rfl
 ·
  obtain ⟨v,h1,h2⟩:=nf hT h _ _ _ _ _ av (uG (Du h.2 _)) (Du h.2 _) he
  exact val _ v h1 h2 rfl
 ·
  rename_i t x i
  unfold jM at he
  split at he
  ·rename_i fr1 s sw k n hx hi
   split at he
   ·rename_i Ya
    split at he
    ·rename_i h0
     cases hb:s[n.toNat]? with
     |none=>rw [hb] at he;cases he
     |some b=>
      rw [hb] at he
      simp only [Am,Aa] at he;subst he
      have e1:=Du h.2 x;rw [hx] at e1
      have e2:=Du h.2 i;rw [hi] at e2
      have e1:=fu e1
      have e2:=Qb e2
      have hu:P.underlying t=some .string:=(hT.ty _ _ Ya).desc
      have h0':(0:Int)<=n:=h0
      exact val _ (.int .u8 b.toNat) (by
       rw [e1,e2]
       simp only [Instr.index,Sem.run_bind,asIntOf,Sem.run_pure,Result.andThen_ok,run_underlying hu]
       simp only [Ab h0',hb,Sem.run_pure]) (Oa _ _ _) rfl
    ·cases he
   ·cases he
  ·cases he
 ·
  rename_i x i
  split at he
  ·rename_i fr τ y hx
   have e:=Du h.2 x
   rw [hx] at e
   obtain ⟨vs,hv,hr⟩:=e
   obtain ⟨u,hu,eE⟩:=yW (H:=st.heap) τ y vs i av hr he
   exact val _ u (by rw [hv];simp [Instr.extract,hu]) eE rfl
  ·rename_i l hx
   have e:=Du h.2 x
   rw [hx] at e
   obtain ⟨vs,hv,hlen,hr⟩:=e
   unfold Acd at he
   cases hp:l[i]? with
   |none=>rw [hp] at he;cases he
   |some p=>
    rw [hp] at he
    simp only [Fh] at he
    have hi:i<vs.length:=by have:=(An.1 hp).1;omega
    have hu:=Ac hi
    have eE:=hr i p _ hp hu
    refine val _ vs[i] (by rw [hv];simp [Instr.extract,hu]) ?_ rfl
    obtain ⟨b,cs⟩:=p
    unfold Am3 at he
    split at he
    ·rename_i ir heq
     simp only [Ad] at heq
     obtain ⟨rfl,rfl⟩:=heq
     simp only [Aa] at he;subst he
     exact eE
    ·rename_i c heq
     simp only [Ad] at heq
     obtain ⟨rfl,rfl⟩:=heq
     simp only [Aa] at he;subst he
     exact eE c rfl
    ·cases he
  ·cases he
 ·
  rename_i f args ts
  have:=aP Pg h f (args.toList.map st.ev) (args.toList.map a.eval) (by simp) (je h _) av he
  rw [jh a.eval f args ts dst ty pos af gd rfl this.1]
  refine ⟨rfl,?_⟩
  have h2:=this.2
  rwa [show (args.toList.map a.eval).toArray=args.map a.eval from by apply Pb;simp] at h2
 ·
  rename_i t args ts
  obtain ⟨f,bs,us,h1,h2,h3⟩:=wi Pg h _ _ (Du h.2 (.tmp t)) args.toList av he
  rw [BG a.eval t f bs us args ts dst ty pos af gd h1 h2]
  exact ⟨rfl,h3⟩
 ·
  rename_i f first Ec
  split at he
  ·rename_i m4
   replace m4:first= #[]:=by simpa using m4
   cases hc:lR (Ec.toList.map st.ev) with
   |none=>rw [hc] at he;cases he
   |some c=>
    rw [hc] at he
    simp only [Am,Aa] at he;subst he
    obtain ⟨h1,h2⟩:=tm h _ _ hc
    subst m4
    refine val (Instr.makeFunc (.func f) #[] (Ec.map a.eval)) (.func (.func f) #[] (Ec.map a.eval)) rfl ⟨Ec.toList.map a.eval,?_,h1,h2⟩ (by simp [execOp])
    congr 1
    apply Pb;simp
  ·rename_i fr τ x m4
   split at he
   ·rename_i rJ
    simp only [Aa] at he;subst he
    simp only [Af,Ef,Array.isEmpty_iff] at rJ
    obtain ⟨Ami,Tw⟩:=rJ
    subst Ami
    obtain ⟨o,rfl,MC⟩: ∃o,first= #[o]/\st.ev o= .at (.data fr τ x):=by
     obtain ⟨l⟩:=first
     cases l with
     |nil=>simp at m4
     |cons o r=>
      cases r with
      |nil=>exact ⟨o,rfl,by simpa using m4⟩
      |cons _ _=>simp at m4
    have hr:=Du h.2 o
    rw [MC] at hr
    refine val (Instr.makeFunc (.func f) #[a.eval o] #[]) (.func (.func f) #[a.eval o] #[]) rfl ⟨[zo (f+1000000000) [a.eval o]],?_,?_⟩ (by simp [execOp])
    ·simp only [Cells]
     exact ⟨[a.eval o],rfl,[a.eval o],[],rfl,Cs.Ru Tw hr,rfl⟩
    ·rw [eR (by omega)];simp [Ci,Ty.Aq]
   ·cases he
  ·cases he
 ·
  obtain ⟨v,h1,h2⟩:=tw hT h _ _ _ _ _ _ _ (Du h.2 _) (Du h.2 _) he
  exact val _ v h1 h2 rfl
 ·
  rename_i args ts
  split at he
  ·rename_i x t Qx u5
   have e1:args= #[x]:=by apply Pb;simpa using Qx
   have e2:ts= #[t]:=by apply Pb;simpa using u5
   subst e1;subst e2
   split at he
   ·rename_i e Ya
    cases hn:GF st (st.ev x) with
    |none=>rw [hn] at he;cases he
    |some n=>
     rw [hn] at he
     simp only [Fh,aM,Aa] at he;subst he
     obtain ⟨te,hu,_⟩:=(hT.ty _ _ Ya).desc
     obtain ⟨ad,len,cap,hv,rfl⟩:=GG h.1 _ _ n (Du h.2 x) hn
     refine val (Builtin.len_ #[t] ty #[a.eval x]) (.int .i64 len) ?_ (Oa _ _ _) ?_
     ·rw [hv];simp [Builtin.len_,run_underlying hu,goInt]
     ·simp [execOp,resolve,invoke,builtin]
   ·rename_i e Ya
    cases hn:GF st (pI (st.ev x)) with
    |none=>rw [hn] at he;cases he
    |some n=>
     rw [hn] at he
     simp only [Fh,aM,Aa] at he;subst he
     obtain ⟨te,hu,_⟩:=(hT.ty _ _ Ya).desc
     obtain ⟨ad,len,cap,hv,rfl⟩:=GG h.1 _ _ n (uG (Du h.2 x)) hn
     refine val (Builtin.len_ #[t] ty #[a.eval x]) (.int .i64 len) ?_ (Oa _ _ _) ?_
     ·rw [hv];simp [Builtin.len_,run_underlying hu,goInt]
     ·simp [execOp,resolve,invoke,builtin]
   ·rename_i Ya
    cases hn:SA (st.ev x) with
    |none=>rw [hn] at he;cases he
    |some n=>
     rw [hn] at he
     simp only [Fh,aM,Aa] at he;subst he
     have hu:P.underlying t=some .string:=(hT.ty _ _ Ya).desc
     obtain ⟨s,hv,rfl⟩:=UM _ _ n (Du h.2 x) hn
     refine val (Builtin.len_ #[t] ty #[a.eval x]) (.int .i64 s.size) ?_ (Oa _ _ _) ?_
     ·rw [hv];simp [Builtin.len_,run_underlying hu,goInt]
     ·simp [execOp,resolve,invoke,builtin]
   ·cases he
  ·cases he
 ·
  rename_i args ts
  obtain ⟨v,h1,h2⟩:=tz (P:=P) h false args.toList av ts ty he
  rw [show (args.toList.map a.eval).toArray=args.map a.eval from by apply Pb;simp] at h1
  refine val (Builtin.min_ ts ty (args.map a.eval)) v (by simpa only [Dh,Tr,Ph] using h1) h2 ?_
  simp [execOp,resolve,invoke,builtin]
 ·
  rename_i args ts
  obtain ⟨v,h1,h2⟩:=tz (P:=P) h true args.toList av ts ty he
  rw [show (args.toList.map a.eval).toArray=args.map a.eval from by apply Pb;simp] at h1
  refine val (Builtin.max_ ts ty (args.map a.eval)) v (by simpa only [Dh,Tr,Ph] using h1) h2 ?_
  simp [execOp,resolve,invoke,builtin]
 ·cases he
end
end Go.Proofs.YtfolipnappekaaaGreat
