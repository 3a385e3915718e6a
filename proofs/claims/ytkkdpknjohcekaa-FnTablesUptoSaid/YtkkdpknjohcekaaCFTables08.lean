/-
  Part 9 of the proof that the statement FnTables holds.
-/
import Derived.Test.YtkkdpknjohcekaaCFTables07
import Derived.Laws.BytesString
namespace Go.Proofs.Ytkkdpknjohcekaa
open Go.RowKit
section
variable {P:Program} {T:Tab} {X:Ctx} {w w':World} {π:Pi} {H:List (Nat×OB)}
theorem Df.Io {S S':Nat->Prop} {τ:Ty} {v:Value} {x:τ.den} (h:Df w S τ v x) (hS: ∀k,k<w.heap.size->S' k->S k):Df w S' τ v x:=
 let ⟨cs,hc,hv⟩:=h
 ⟨cs,Cells.Gg (Ar _) (λ_ _ _=>rfl) hS τ cs x hc,hv⟩
theorem Ch.Io {S S':Nat->Prop} {τ:Ty} {vs:List Value} {x:τ.den} (h:Ch w S τ vs x) (hS: ∀k,k<w.heap.size->S' k->S k):Ch w S' τ vs x:=
 Ch.Gg ⟨Ar _,λ_ _ _=>rfl⟩ hS τ vs x h
theorem Ch.flat {S S':Nat->Prop} : ∀(τ:Ty) (vs:List Value) (x:τ.den),τ.flat=true->Ch w S τ vs x->Ch w S' τ vs x
 | .pair a r,[],x,_,h=>h
 | .pair a r,v::vs,x,hf,h=>by
  simp only [Ty.flat,Ag] at hf
  exact ⟨h.1.flat hf.1,Ch.flat r vs x.2 hf.2 h.2⟩
 | .unit,[],_,_,_=>trivial
 | .unit,_::_,_,_,h=>h
 | .int _,_,_,_,h=>by simp [Ch] at h
 | .bool,_,_,_,h=>by simp [Ch] at h
 | .str,_,_,_,h=>by simp [Ch] at h
 | .slice _,_,_,_,h=>by simp [Ch] at h
 | .ptr _,_,_,_,h=>by simp [Ch] at h
 | .oslice _,_,_,_,h=>by simp [Ch] at h
 | .optr _,_,_,_,h=>by simp [Ch] at h
 | .smap _,_,_,_,h=>by simp [Ch] at h
 | .clo _ _,_,_,_,h=>by simp [Ch] at h
theorem bF {fr:Bool} {τ Nh:Ty} {x:Nh.den} {f:Bool} {y:τ.den} {v:Value} (h:fD fr τ Nh x=some (f,y)) (hc:Df w (Cp X.w0.heap.size X.Sc π fr) Nh v x):
  Cells w (Cp X.w0.heap.size X.Sc π f) τ [v] y:=by
 unfold fD at h
 split at h
 ·split at h
  ·rename_i e e' _ PB
   subst PB
   simp only [Aa,Ae] at h
   obtain ⟨rfl,rfl⟩:=h
   have h1:=Df.Qr rfl hc
   simp only [Cells] at h1⊢
   rcases h1 with ⟨rfl,c,h1⟩|⟨xs,ad,len,cap,rfl,h1,h2,h3,h4⟩
   ·exact ⟨none,0,c,h1,rfl,Mz _, .inl rfl⟩
   ·exact ⟨_,len,cap,h1,h2,h3,h4.imp id λ⟨g,o,ha,h4⟩=>⟨g,o,by rw [ha],h4⟩⟩
  ·cases h
 ·split at h
  ·rename_i a a' _ haa
   subst haa
   simp only [Aa,Ae] at h
   obtain ⟨rfl,rfl⟩:=h
   have h1:=Df.Qr rfl hc
   simp only [Cells] at h1⊢
   obtain ⟨g,o,h2⟩:=h1
   exact .inr ⟨_,g,o,rfl,h2⟩
  ·cases h
 ·cases h
theorem gY {st:St} (τ:Ty) (c:AC) (v:Value) (fr:Bool) (x:τ.den) (Sf:τ.Am=false) (hs:c.settled=true) (hc:Gx X w π st.heap c v)
  (hv:Dj st τ c=some (fr,x)):Cells w (Cp X.w0.heap.size X.Sc π fr) τ [v] x:=by
 cases c with
 |data Um Nh y=>
  rw [Mx] at hv
  split at hv
  ·rename_i ht;subst ht
   simp only [Aa,Ae] at hv
   obtain ⟨rfl,rfl⟩:=hv
   have h1:=Df.Qr Sf hc
   cases hf:Nh.flat with
   |true=>exact Cells.flat Nh _ _ hf h1
   |false=>rw [eY];exact h1
  ·exact bF hv hc
 |Le=>
  cases τ with
  |slice e=>
   simp only [Dj,Aa,Ae] at hv
   obtain ⟨_,rfl⟩:=hv
   exact ⟨none,0,0,by rw [show v=_ from hc],rfl,Ar _, .inl rfl⟩
  |oslice e=>
   simp only [Dj,Aa,Ae] at hv
   obtain ⟨_,rfl⟩:=hv
   exact .inl ⟨rfl,0,by rw [show v=_ from hc]⟩
  |_=>simp [Dj] at hv
 |Ua=>
  cases τ with
  |optr e=>
   simp only [Dj,Aa,Ae] at hv
   obtain ⟨_,rfl⟩:=hv
   exact .inl ⟨rfl,by rw [show v=_ from hc]⟩
  |_=>simp [Dj] at hv
 |_=>simp [AC.settled] at hs
theorem Cells.and_left {f1 f2:Bool} {τ:Ty} {cs:List Value} {x:τ.den} (h:Cells w (Cp X.w0.heap.size X.Sc π f1) τ cs x):Cells w (Cp X.w0.heap.size X.Sc π (f1&&f2)) τ cs x:=
 Cells.Gg (Ar _) (λ_ _ _=>rfl) (λk _ hk=>by
  rcases hk with h1|h1|⟨h1,h2⟩
  ·exact .inl h1
  ·exact .inr (.inl h1)
  ·simp at h1;exact .inr (.inr ⟨h1.1,h2⟩)) τ cs x h
theorem Cells.and_right {f1 f2:Bool} {τ:Ty} {cs:List Value} {x:τ.den} (h:Cells w (Cp X.w0.heap.size X.Sc π f2) τ cs x):Cells w (Cp X.w0.heap.size X.Sc π (f1&&f2)) τ cs x:=
 Cells.Gg (Ar _) (λ_ _ _=>rfl) (λk _ hk=>by
  rcases hk with h1|h1|⟨h1,h2⟩
  ·exact .inl h1
  ·exact .inr (.inl h1)
  ·simp at h1;exact .inr (.inr ⟨h1.2,h2⟩)) τ cs x h
theorem Vj {st:St} : ∀(τ:Ty) (cs:List AC) (us:List Value) (fr:Bool) (x:τ.den),cs.all (·.settled)=true->Fh X w π st.heap cs us->
  Er st τ cs=some (fr,x)->Cells w (Cp X.w0.heap.size X.Sc π fr) τ us x:=by
 have one: ∀(τ:Ty) (cs:List AC) (us:List Value) (fr:Bool) (x:τ.den),τ.Am=false->cs.all (·.settled)=true->Fh X w π st.heap cs us->
   Er st τ cs=some (fr,x)->Cells w (Cp X.w0.heap.size X.Sc π fr) τ us x:=by
  intro τ cs us fr x Sf hs hr hv
  rw [Sl Sf] at hv
  split at hv
  ·rename_i c
   obtain ⟨u,hu,_,hc⟩:=hr.2 0 c rfl
   have hl:us.length=1:=hr.1
   obtain ⟨u',rfl⟩:=Dv.1 hl
   simp at hu;subst hu
   exact gY τ c _ fr x Sf (by simpa using hs) hc hv
  ·cases hv
 intro τ
 induction τ with
 |unit=>
  intro cs us fr x hs hr hv
  cases cs with
  |nil=>have:us= []:=De hr.1;exact this
  |cons c cs=>simp [Er] at hv
 |pair a r fa eV=>
  intro cs us fr x hs hr hv
  simp only [Er] at hv
  split at hv
  ·rename_i f1 y f2 z h1 h2
   simp only [Aa,Ae] at hv
   obtain ⟨rfl,rfl⟩:=hv
   have VI:Fh X w π st.heap (cs.take a.size) (us.take a.size):=by have:=Xu hr 0 a.size;simpa using this
   have YD:Fh X w π st.heap (cs.drop a.size) (us.drop a.size):=
    ⟨by simp [hr.1],λi c hc=>by
     rw [Ct] at hc⊢
     exact hr.2 _ c hc⟩
   have fV:(cs.take a.size).all (·.settled)=true:=At.2 λc hc=>At.1 hs c (Ic hc)
   have pf:(cs.drop a.size).all (·.settled)=true:=At.2 λc hc=>At.1 hs c (Uc hc)
   exact ⟨us.take a.size,us.drop a.size,(Hp _ _).symm,(fa _ _ _ _ fV VI h1).and_left,(eV _ _ _ _ pf YD h2).and_right⟩
  ·cases hv
 |_=>exact λcs us fr x hs hr hv=>one _ cs us fr x rfl hs hr hv
theorem Pn {st:St} {τ:Ty} {c:AC} (h:c.settled=true):Jf st τ c=Dj st τ c:=by
 cases c<;>simp [AC.settled] at h<;>cases τ<;>rfl
theorem Mc {st:St} (τ:Ty) (c:AV) (v:Value) (fr:Bool) (x:τ.den) (hs:c.settled=true) (hc:Bi X w π st.heap c v)
  (hv:Fe st τ c=some (fr,x)):Df w (Cp X.w0.heap.size X.Sc π fr) τ v x:=by
 have Nf: ∀c:AC,c.settled=true->Gx X w π st.heap c v->(if τ.Am then none else Jf st τ c)=some (fr,x)->Df w (Cp X.w0.heap.size X.Sc π fr) τ v x:=by
  intro c hs hc hv
  split at hv
  ·cases hv
  ·rename_i Sf
   simp only [Ht] at Sf
   rw [Pn hs] at hv
   exact Df.lA Sf (gY τ c v fr x Sf hs hc hv)
 cases c with
 | «at»c=>
  cases c with
  |data Um Nh y=>
   rw [bB] at hv
   split at hv
   ·rename_i ht;subst ht
    simp only [Aa,Ae] at hv
    obtain ⟨rfl,rfl⟩:=hv
    cases hf:Nh.flat with
    |true=>exact Df.flat hf hc
    |false=>rw [eY];exact hc
   ·exact Nf (.data Um Nh y) hs hc hv
  |Le=>exact Nf .Le hs hc hv
  |Ua=>exact Nf .Ua hs hc hv
  |undef=>simp [AV.settled,AC.settled] at hs
  |skip=>simp [AV.settled,AC.settled] at hs
  |own l off len=>simp [AV.settled,AC.settled] at hs
  |Gs l i=>simp [AV.settled,AC.settled] at hs
  |Jl l i=>simp [AV.settled,AC.settled] at hs
  |clo f Dy=>simp [AV.settled,AC.settled] at hs
  |Jw l=>simp [AV.settled,AC.settled] at hs
  |sub l i c=>simp [AV.settled,AC.settled] at hs
  |Ji l i c=>simp [AV.settled,AC.settled] at hs
 |agg cs=>
  simp only [Fe] at hv
  split at hv
  ·rename_i Sf
   obtain ⟨us,rfl,hr⟩:=hc
   exact ⟨us,Vj τ cs us fr x hs hr hv,by simp [Bs,Sf]⟩
  ·cases hv
 |Zw Um Nh y=>simp [Fe] at hv
 |Mb l=>simp [Fe] at hv
theorem cO {st:St} : ∀(τ:Ty) (cs:List AV) (vs:List Value) (fr:Bool) (x:τ.den),cs.length=vs.length->cs.all (·.settled)=true->
  (∀(i:Nat) c v,cs[i]?=some c->vs[i]?=some v->Bi X w π st.heap c v)->Dr st τ cs=some (fr,x)->Ch w (Cp X.w0.heap.size X.Sc π false) τ vs x
 | .unit,[],vs,fr,x,hl,hs,hr,hv=>by
  have:vs= []:=De hl.symm
  subst this;trivial
 | .unit,_::_,vs,fr,x,hl,hs,hr,hv=>by simp [Dr] at hv
 | .pair a r,[],vs,fr,x,hl,hs,hr,hv=>by simp [Dr] at hv
 | .pair a r,c::cs,[],fr,x,hl,hs,hr,hv=>by simp at hl
 | .pair a r,c::cs,v::vs,fr,x,hl,hs,hr,hv=>by
  simp only [Dr] at hv
  split at hv
  ·rename_i f1 y f2 z h1 h2
   simp only [Aa,Ae] at hv
   obtain ⟨rfl,rfl⟩:=hv
   simp only [Iw,Ag] at hs
   exact ⟨(Mc a c v f1 y hs.1 (hr 0 c v rfl rfl) h1).Io (λk _ hk=>by
     rcases hk with h|h|⟨h,_⟩
     ·exact .inl h
     ·exact .inr (.inl h)
     ·cases h),
    cO r cs vs f2 z (by simpa using hl) hs.2 (λi c' v' hc yX=>hr (i+1) c' v' hc yX) h2⟩
  ·cases hv
 | .int _,cs,vs,fr,x,hl,hs,hr,hv=>by cases cs<;>simp [Dr] at hv
 | .bool,cs,vs,fr,x,hl,hs,hr,hv=>by cases cs<;>simp [Dr] at hv
 | .str,cs,vs,fr,x,hl,hs,hr,hv=>by cases cs<;>simp [Dr] at hv
 | .slice _,cs,vs,fr,x,hl,hs,hr,hv=>by cases cs<;>simp [Dr] at hv
 | .ptr _,cs,vs,fr,x,hl,hs,hr,hv=>by cases cs<;>simp [Dr] at hv
 | .oslice _,cs,vs,fr,x,hl,hs,hr,hv=>by cases cs<;>simp [Dr] at hv
 | .optr _,cs,vs,fr,x,hl,hs,hr,hv=>by cases cs<;>simp [Dr] at hv
 | .smap _,cs,vs,fr,x,hl,hs,hr,hv=>by cases cs<;>simp [Dr] at hv
 | .clo _ _,cs,vs,fr,x,hl,hs,hr,hv=>by cases cs<;>simp [Dr] at hv
theorem gI {st:St} {a:Act} (h:Bd X π st a w) (args:List Operand) (i:Nat) (c:AV) (v:Value) (hc:(args.map st.ev)[i]?=some c) (hv:(args.map a.eval)[i]?=some v):Bi X w π st.heap c v:=by
 rw [Fk] at hc hv
 cases hi:args[i]? with
 |none=>rw [hi] at hc;cases hc
 |some o=>
  rw [hi] at hc hv
  simp only [Ai,Aa] at hc hv
  subst hc;subst hv
  exact Dm h.2 o
theorem Yz {Γ:Env} (Nt:Kd P Γ) {st:St} {a:Act} (h:Bd X π st a w) (f:FuncId) (cs:List AV) (vs:List Value) (hlen:cs.length=vs.length)
  (YE: ∀(i:Nat) c v,cs[i]?=some c->vs[i]?=some v->Bi X w π st.heap c v) (av:AV) (he:Nq Γ st f cs=some av):
  (∀vs w,(callFunc f vs).run P w= .ok (.enter f vs) w)/\
  Calls P f vs.toArray w (λe oc=> ∃v,e= .returned v/\Below w.heap.size w oc/\Bi X oc π st.heap av v):=by
 unfold Nq at he
 split at he
 ·rename_i s hs
  have snd:Sound P f s:=Nt f _ hs
  refine ⟨snd.enter,?_⟩
  split at he
  ·rename_i Jd
   split at he
   ·cases he
   ·rename_i sv x hx
    cases hy:s.fn x with
    |none=>rw [hy] at he;cases he
    |some y=>
     rw [hy] at he
     simp only [Ai,Aa] at he
     have fU: ∀(S:Nat->Prop),(∀k,S k->k<w.heap.size)->Ch w S s.arg vs x->(s.fresh=true\/s.res.flat=true\/ ∀k,Cp X.w0.heap.size X.Sc π false k->S k)->
       Calls P f vs.toArray w (λe oc=> ∃v,e= .returned v/\Below w.heap.size w oc/\Bi X oc π st.heap av v):=by
      intro S Ai2 Qd Ak2
      refine (snd.calls w S _ x y Ai2 Qd hy).mono ?_
      rintro e oc ⟨v,rfl,hb,hr⟩
      refine ⟨v,rfl,hb,?_⟩
      have hA:s.res.flat=true\/ ∀k,k<oc.heap.size->Cp X.w0.heap.size X.Sc π (s.fresh||s.res.flat) k->(S k\/(s.fresh=true/\k<w.heap.size)):=by
       cases hf:s.res.flat with
       |true=>exact .inl rfl
       |false=>
        right
        intro k _ hk
        cases yS:s.fresh with
        |true=>
         right
         refine ⟨rfl,?_⟩
         rcases hk with ⟨l,r,hl,hg⟩|hk|⟨_,hk⟩
         ·exact (h.1.own ⟨l,r,hl,hg⟩).1
         ·have:=h.1.sc k hk;have:=h.1.below.size;omega
         ·have:=h.1.below.size;omega
        |false=>
         left
         have qs:Cp X.w0.heap.size X.Sc π false k:=by simpa [yS,hf] using hk
         rcases Ak2 with h1|h1|h1
         ·rw [yS] at h1;cases h1
         ·rw [hf] at h1;cases h1
         ·exact h1 k qs
      unfold jF at hr
      subst he
      split
      ·rename_i hm
       rw [Ab hm] at hr
       obtain ⟨us,rfl,hr⟩:=hr
       refine ⟨us,rfl,?_⟩
       rcases hA with hf|hA
       ·exact Ch.flat _ _ _ hf hr
       ·exact hr.Io hA
      ·rename_i hm
       rw [Al hm] at hr
       rcases hA with hf|hA
       ·exact Df.flat hf hr
       ·exact hr.Io hA
     cases hff:(s.fresh||s.res.flat) with
     |true=>
      refine fU (λ_=>False) (λ_ h=>h.elim) (Zj h.1 s.arg _ _ sv x hlen YE hx ⟨λ_ h=>h.elim, .inr λ_ h=>h.elim⟩) ?_
      simp only [Jq] at hff
      rcases hff with h1|h1
      ·exact .inl h1
      ·exact .inr (.inl h1)
     |false=>
      rw [hff,Zx] at Jd
      refine fU (Cp X.w0.heap.size X.Sc π false) (λk hk=>?_) (cO s.arg _ _ sv x hlen Jd YE hx) (.inr (.inr λ_ hk=>hk))
      rcases hk with ⟨l,r,hl,hg⟩|hk|⟨hk,_⟩
      ·exact (h.1.own ⟨l,r,hl,hg⟩).1
      ·have:=h.1.sc k hk;have:=h.1.below.size;omega
      ·cases hk
  ·cases he
 ·cases he
theorem pS {fr:Bool} : ∀(τ:Ty) (us:List Value) (x:τ.den),(∀a r,τ≠ .pair a r->True)->Cells w (Cp X.w0.heap.size X.Sc π fr) τ us x->τ.chain=true->
  (a8 fr τ x).length=us.length/\ ∀(i:Nat) c v,(a8 fr τ x)[i]?=some c->us[i]?=some v->Bi X w π H c v
 | .unit,us,x,_,hc,_=>by
  simp only [Cells] at hc
  subst hc
  exact ⟨rfl,λi c v h=>by simp [a8] at h⟩
 | .pair a r,us,x,_,hc,hch=>by
  simp only [Cells] at hc
  simp only [Ty.chain,Ag,Dn] at hch
  obtain ⟨c1,c2,rfl,h1,h2⟩:=hc
  have hl:=Cells.len a c1 x.1 h1
  have h3:a.size=1:=by cases a<;>simp_all [Ty.Am,Ty.size]
  rw [h3] at hl
  obtain ⟨u,rfl⟩:=Dv.1 hl
  obtain ⟨h4,h5⟩:=pS r c2 x.2 (λ_ _ _=>trivial) h2 hch.2
  refine ⟨by simp [a8,h4],λi c v hc hv=>?_⟩
  rcases i with _|i
  ·simp only [a8,Bn,Aa] at hc
   simp only [List.singleton_append,Bn,Aa] at hv
   subst hc;subst hv
   exact ⟨[u],h1,by simp [Bs,hch.1]⟩
  ·simp only [a8,Ln] at hc
   simp only [List.singleton_append,Ln] at hv
   exact h5 i c v hc hv
 | .int _,_,_,_,_,h=>by simp [Ty.chain] at h
 | .bool,_,_,_,_,h=>by simp [Ty.chain] at h
 | .str,_,_,_,_,h=>by simp [Ty.chain] at h
 | .slice _,_,_,_,_,h=>by simp [Ty.chain] at h
 | .oslice _,_,_,_,_,h=>by simp [Ty.chain] at h
 | .ptr _,_,_,_,_,h=>by simp [Ty.chain] at h
 | .optr _,_,_,_,_,h=>by simp [Ty.chain] at h
 | .smap _,_,_,_,_,h=>by simp [Ty.chain] at h
 | .clo _ _,_,_,_,_,h=>by simp [Ty.chain] at h
theorem fi {cs ds:List AV} {vs us:List Value} (hl:cs.length=vs.length) (h1: ∀(i:Nat) c v,cs[i]?=some c->vs[i]?=some v->Bi X w π H c v)
  (h2: ∀(i:Nat) c v,ds[i]?=some c->us[i]?=some v->Bi X w π H c v) (i:Nat) (c:AV) (v:Value) (hc:(cs++ds)[i]?=some c) (hv:(vs++us)[i]?=some v):Bi X w π H c v:=by
 by_cases hi:i<cs.length
 ·rw [Ap hi] at hc
  rw [Ap (by omega)] at hv
  exact h1 i c v hc hv
 ·rw [Ao (by omega)] at hc
  rw [Ao (by omega)] at hv
  rw [hl] at hc
  exact h2 _ c v hc hv
theorem sq {Γ:Env} (Nt:Kd P Γ) {st:St} {a:Act} (h:Bd X π st a w) (c:AV) (v:Value) (hv:Bi X w π st.heap c v) (args:List Operand) (av:AV) (he:Wb Γ st c (args.map st.ev)=some av):
  ∃f bs us,v= .func (.func f) (bs:List Value).toArray (us:List Value).toArray/\(∀vs w,(callFunc f vs).run P w= .ok (.enter f vs) w)/\
  Calls P f (bs++args.map a.eval++us).toArray w (λe oc=> ∃v,e= .returned v/\Below w.heap.size w oc/\Bi X oc π st.heap av v):=by
 unfold Wb at he
 split at he
 ·rename_i fr f τ x
  split at he
  ·rename_i hch
   obtain ⟨cs,hc,rfl⟩:=hv
   simp only [Cells] at hc
   obtain ⟨us,rfl,hc⟩:=hc
   obtain ⟨h1,h2⟩:=pS (H:=st.heap) τ us x (λ_ _ _=>trivial) hc hch
   by_cases hf:f<1000000000
   ·rw [Ab hf] at he
    have:=Yz Nt h f _ (args.map a.eval++us) (by simp [h1]) (fi (by simp) (gI h args) h2) av he
    exact ⟨f,[],us,by simp [Bs,Ty.Am,fy hf],by simpa using this⟩
   ·rw [Al hf] at he
    have:=Yz Nt h (f-1000000000) _ (us++args.map a.eval) (by simp [h1]) (fi h1 h2 (gI h args)) av he
    exact ⟨f-1000000000,us,[],by simp [Bs,Ty.Am,cZ hf],by simpa using this⟩
  ·cases he
 ·rename_i f Dy
  obtain ⟨us,rfl,h1,h2⟩:=hv
  have:=Yz Nt h f _ (args.map a.eval++us) (by simp [h1]) (fi (by simp) (gI h args) (λi c v hc hv=>by
   rw [Fk] at hc
   cases hi:Dy[i]? with
   |none=>rw [hi] at hc;cases hc
   |some p=>
    rw [hi] at hc
    simp only [Ai,Aa] at hc
    subst hc
    obtain ⟨r,tid,vs,h3,h4,h5⟩:=h2 i p hi
    rw [h5] at hv
    simp only [Aa] at hv
    subst hv
    exact ⟨r,tid,vs,h3,h4,rfl⟩)) av he
  exact ⟨f,[],us,rfl,by simpa using this⟩
 ·cases he
theorem xc (ρ:Operand->Value) (t:Nat) (f:FuncId) (bs us:List Value) (args:Array Operand) (ts:Array TypeId) (dst:Option Tmp) (ty:TypeId) (pos:String) (af:Array Edge) (gd:Option (Nat×Bool))
  (hρ:ρ (.tmp t)= .func (.func f) bs.toArray us.toArray) (hc: ∀vs w,(callFunc f vs).run P w= .ok (.enter f vs) w):
  (execOp ρ ⟨dst, .call {callee:= .value (.tmp t),args:=args,argTypes:=ts},ty,pos,af,gd⟩).run P w= .ok (.enter f (bs++args.toList.map ρ++us).toArray) w:=by
 have:bs.toArray++(args.map ρ)++us.toArray=(bs++args.toList.map ρ++us).toArray:=by apply Od;simp
 simp [execOp,resolve,Deferred.ofValue,hρ,invoke,hc,this]
theorem pT {st:St} {a:Act} (h:Bd X π st a w): ∀(l:List Operand) (c:List (Nat×Nat)),jQ (l.map st.ev)=some c->
  (l.map a.eval).length=c.length/\ ∀(j:Nat) p,c[j]?=some p-> ∃r tid vs,Aq st.heap p.1=some (.var tid vs)/\π p.1=some r/\(l.map a.eval)[j]?=some (.pointer (some ⟨r.g,p.2,none⟩))
 | [],c,he=>by simp only [List.map_nil,jQ,Aa] at he;subst he;exact ⟨rfl,λj p hp=>by simp at hp⟩
 |x::l,c,he=>by
  simp only [Bh] at he
  unfold jQ at he
  split at he
  ·rename_i heq;simp at heq
  ·rename_i k i r heq
   simp only [Gi] at heq
   obtain ⟨h1,rfl⟩:=heq
   cases hr:jQ (l.map st.ev) with
   |none=>rw [hr] at he;cases he
   |some c'=>
    rw [hr] at he
    simp only [Ai,Aa] at he
    subst he
    obtain ⟨h2,h3⟩:=pT h l c' hr
    have e:=Dm h.2 x
    rw [h1] at e
    obtain ⟨r,tid,vs,h4,h5,h6⟩:=e
    refine ⟨by simpa using h2,λj p hp=>?_⟩
    rcases j with _|j
    ·simp only [Bn,Aa] at hp;subst hp
     exact ⟨r,tid,vs,h4,h5,by rw [Bh,Bn,h6]⟩
    ·exact h3 j p hp
  ·cases he
theorem BW (a b:ByteArray):(a==b)=decide (a=b):=by
 obtain ⟨a⟩:=a;obtain ⟨b⟩:=b
 show ByteArray.beq _ _=_
 unfold ByteArray.beq
 by_cases h:a=b
 ·subst h;simp
 ·rw [Fo (by simpa using h)];simpa using h
theorem fJ (s:ByteArray): ∀(es:List MapEntry) (i:Nat),(∀e∈es,(Rv e.key).isSome=true)->
  ∃r,Instr.findNow .string (.string s) es i=some r/\r.map (·.2)=Qf es s/\(∀j v,r=some (j,v)->i<=j/\(∃e,es[j-i]?=some e/\e.key= .string s)/\ ∀k e,k<j-i->es[k]?=some e->Rv e.key≠some s)
 | [],i,_=>⟨none,rfl,rfl,λj v h=>by cases h⟩
 |e::es,i,h=>by
  have he:=h e (by simp)
  have hk: ∃t,e.key= .string t:=by
   unfold Rv at he
   split at he
   ·exact ⟨_,by assumption⟩
   ·cases he
  obtain ⟨t,hk⟩:=hk
  simp only [Instr.findNow,hk,Instr.sameNow]
  by_cases Yo:s=t
  ·subst Yo
   have hb:(s==s)=true:=by rw [BW];simp
   rw [hb]
   refine ⟨some (i,e.val),rfl,by simp [Qf,hk,Rv],λj v hj=>?_⟩
   simp only [Aa,Ae] at hj
   obtain ⟨rfl,rfl⟩:=hj
   exact ⟨Ar _,⟨e,by simp,hk⟩,λk e h=>by omega⟩
  ·obtain ⟨r,h1,h2,h3⟩:=fJ s es (i+1) λe he=>h e (by simp [he])
   have hb:(s==t)=false:=by rw [BW];simpa using Yo
   rw [hb]
   refine ⟨r,h1,?_,λj v hj=>?_⟩
   ·rw [h2]
    simp only [Qf,hk,Rv]
    rw [Al (by simpa using λe:t=s=>Yo e.symm)]
   ·obtain ⟨h4,⟨e',h5,h6⟩,h7⟩:=h3 j v hj
    refine ⟨by omega,⟨e',by rw [show j-i=(j-(i+1))+1 by omega,Ln];exact h5,h6⟩,λk e2 hk2 he2=>?_⟩
    rcases k with _|k
    ·simp only [Bn,Aa] at he2
     subst he2
     rw [hk]
     simpa [Rv] using λe:t=s=>Yo e.symm
    ·exact h7 k e2 (by omega) (by simpa using he2)
theorem dK {g:Nat} {es:Array MapEntry} {clock:Nat} (h:w.heap[g]?=some (.map es clock)):(getObj g).run P w= .ok (.map es clock) w:=by simp [getObj,Sem.run,h]
theorem Uh {k:TypeId} (hk:P.underlying k=some .string) (b:Bool) (s:ByteArray) (w:World):(Instr.checkKey b 10000 k (.string s)).run P w= .ok () w:=by
 rw [show (10000:Nat)=9999+1 from rfl]
 unfold Instr.checkKey
 rw [Sem.run_bind,run_underlying hk]
 rfl
theorem qa (hT:Ed P T) {st:St} {a:Act} (h:Bd X π st a w) (t:TypeId) (m k:AV) (ok:Bool) (vm vk:Value) (av:AV) (hm:Bi X w π st.heap m vm) (hk:Bi X w π st.heap k vk)
  (he:da T st t m k ok=some av): ∃v,(Instr.lookup t vm vk ok).run P w= .ok v w/\Bi X w π st.heap av v:=by
 unfold da at he
 split at he
 ·rename_i vt fr s ht
  have:=dE hk;subst this
  obtain ⟨kt,et,h1,h2,h3,h4,h5⟩:=hT.mapOf t vt ht
  split at he
  ·rename_i p7 f hv
   simp only [Aa] at he
   have hr:=Wu h.1 (S:= λ_=>False) (.smap vt) m vm p7 f hm hv ⟨λ_ h=>h.elim, .inr λ_ h=>h.elim⟩
   obtain ⟨cs,hc,rfl⟩:=hr
   have JU: ∀y:vt.den,∀u,Cells w (λ_=>False) vt [u] y->Df w (Cp X.w0.heap.size X.Sc π true) vt u y:= λy u hu=>⟨[u],Cells.flat vt [u] y h4 hu,by simp [Bs,h5]⟩
   obtain ⟨inf,hi,Tx,_,qq⟩:=(hT.ty et vt h3).info
   have hzero:(zeroValue et).run P w= .ok (Bs vt (Bl vt)) w:=by simp [zeroValue,typeInfo,hi,qq]
   have PZ:Cells w (λ_=>False) vt [Bs vt (Bl vt)] vt.zero:=by
    cases vt<;>first|(simp [Ty.flat] at h4;done)|(simp [Ty.Am] at h5;done)|(simp [Bs,Ty.Am,Bl,Cells,Ty.zero];done)
   have fin: ∀(es:List MapEntry),(∀e∈es,(Rv e.key).isSome=true)->(f s=none->Qf es s=none)->(∀y,f s=some y-> ∃u,Qf es s=some u/\Cells w (λ_=>False) vt [u] y)->
     (∀r,(Instr.findKey kt (.string s) es).run P w= .ok r w-> ∀u,r.map (·.2)=(if (f s).isSome then some u else none)->(r=none->u=Bs vt (Bl vt))->
      (Instr.lookup t (Bs (.smap vt) cs) (.string s) ok).run P w= .ok (if ok then .tuple #[u, .bool (f s).isSome] else u) w)->
     ∃v,(Instr.lookup t (Bs (.smap vt) cs) (.string s) ok).run P w= .ok v w/\Bi X w π st.heap av v:=by
    intro es h6 h7 h8 h9
    obtain ⟨r,p9,mq,_⟩:=fJ s es 0 h6
    have UR:(Instr.findKey kt (.string s) es).run P w= .ok r w:=by
     unfold Instr.findKey
     simp only [Sem.run_bind,run_underlying h2,Result.andThen_ok,p9,Sem.run_pure]
    have: ∃u,r.map (·.2)=(if (f s).isSome then some u else none)/\(r=none->u=Bs vt (Bl vt))/\Cells w (λ_=>False) vt [u] ((f s).getD vt.zero):=by
     cases hf:f s with
     |none=>
      have h13:=h7 hf
      rw [h13] at mq
      exact ⟨Bs vt (Bl vt),by rw [mq];rfl,λ_=>rfl,PZ⟩
     |some y=>
      obtain ⟨u,h13,h14⟩:=h8 y hf
      rw [h13] at mq
      refine ⟨u,by rw [mq];rfl,λ(e:r=none)=>?_,h14⟩
      rw [e] at mq;cases mq
    obtain ⟨u,h13,h14,h15⟩:=this
    have Tz:=h9 r UR u h13 h14
    cases ok with
    |true=>
     simp only [Pw] at he Tz
     subst he
     exact ⟨_,Tz,[u, .bool (f s).isSome],rfl,JU _ u h15,⟨[_],rfl,rfl⟩,trivial⟩
    |false=>
     simp only [Cy,Sa] at he Tz
     subst he
     exact ⟨_,Tz,JU _ u h15⟩
   have XY: ∀v,Bs (.smap vt) [v]=v:= λv=>by simp [Bs,Ty.Am]
   have run: ∀(r:Option (Nat×Value)) (u:Value) (b:Bool),r.map (·.2)=(if b then some u else none)->(r=none->u=Bs vt (Bl vt))->
     (∃j,r=some (j,u)/\b=true)\/(r=none/\b=false/\u=Bs vt (Bl vt)):=by
    intro r u b h6 h7
    cases r with
    |none=>cases b<;>simp at h6⊢;exact h7 rfl
    |some p=>cases b<;>simp at h6⊢;subst h6;exact ⟨p.1,rfl⟩
   simp only [Cells] at hc
   rcases hc with ⟨rfl,hf⟩|⟨g,rfl,hg,_,es,clock,h6,h7,h8,h9⟩
   ·refine fin [] (by simp) (λ_=>rfl) (λy hy=>by rw [hf] at hy;cases hy) λr h6 u h7 h8=>?_
    rcases run r u _ h7 h8 with ⟨j,rfl,hb⟩|⟨rfl,hb,rfl⟩
    ·rw [hf] at hb;cases hb
    ·rw [hb,XY]
     unfold Instr.lookup
     generalize hz:Bs vt (Bl vt)=z at hzero⊢
     simp [run_underlying h1,Uh h2,h6,hzero]
   ·refine fin es.toList h7 (λhn=>h8 s hn) (λy hy=>h9 s y hy) λr p9 u mq UR=>?_
    rw [XY]
    unfold Instr.lookup
    rcases run r u _ mq UR with ⟨j,rfl,hb⟩|⟨rfl,hb,rfl⟩
    ·rw [hb]
     simp [run_underlying h1,Uh h2,dK h6,p9]
    ·rw [hb]
     generalize hz:Bs vt (Bl vt)=z at hzero⊢
     simp [run_underlying h1,Uh h2,dK h6,p9,hzero]
  ·cases he
 ·cases he
theorem LN (ns:List Int): ∀b:ByteArray,ns.foldl (λr n=>r.push (UInt8.ofNat n.toNat)) b=⟨b.data++(ns.map λn=>UInt8.ofNat n.toNat).toArray⟩:=by
 induction ns with
 |nil=>intro b;simp
 |cons n ns ih=>
  intro b
  rw [My,ih]
  simp [ByteArray.push]
theorem CG {s d:TypeId} {v:Value} {xs:List Int} (hT:Ed P T) (hs:T.ty s=some (.slice (.int .u8))) (hd:T.ty d=some .str) (h:Df w (λ_=>False) (.slice (.int .u8)) v xs):
  (convert s d v).run P w= .ok (.string (bytesOf xs)) w:=by
 obtain ⟨te,h1,h2,h3⟩:=(hT.ty _ _ hs).desc
 have h4:P.underlying te=some (.int .u8):=(hT.ty _ _ h3).desc
 have h5:P.underlying d=some .string:=(hT.ty _ _ hd).desc
 obtain ⟨cs,hc,rfl⟩:=h
 simp only [Cells] at hc
 obtain ⟨a,len,cap,rfl,hlen,qn,CX⟩:=hc
 simp only [Bs,Ty.Am,Cy,Sa,fg]
 rw [run_convert_bytes_string w s d te a len cap h1 h4 h5]
 rcases CX with rfl|⟨g,o,rfl,hg,_,Kt⟩
 ·have:len=0:=hlen
  subst this
  cases a with
  |none=>simp [Conv.bytesToString,bytesOf];rfl
  |some a=>
   rw [run_bytesToString w a 0 cap [] (by simp [loadCells,loadCellsFrom])]
   rfl
 ·rw [run_bytesToString w _ len cap xs (by
   have:=run_loadCells_list (P:=P) w ⟨g,o,none⟩ (xs.map (Value.int .u8)) (λj v hv=>by
    rw [Fk] at hv
    cases hj:xs[j]? with
    |none=>rw [hj] at hv;cases hv
    |some x=>
     rw [hj] at hv
     simp only [Ai,Aa] at hv
     subst hv
     obtain ⟨es,h6,h7,h8⟩:=Kt j x hj
     have h8:es= [.int .u8 x]:=h8
     subst h8
     rw [Addr.add_lit]
     have:=h7 0 _ rfl
     simpa [Ty.size] using this)
   rw [Fm,<-hlen] at this
   exact this)]
  rw [LN]
  simp [bytesOf]
theorem gL (ρ:Operand->Value) (f:FuncId) (args:Array Operand) (ts:Array TypeId) (dst:Option Tmp) (ty:TypeId) (pos:String) (af:Array Edge) (gd:Option (Nat×Bool))
  (hρ:ρ (.func f)= .func (.func f) #[] #[]) (hc: ∀vs w,(callFunc f vs).run P w= .ok (.enter f vs) w):
  (execOp ρ ⟨dst, .call {callee:= .value (.func f),args:=args,argTypes:=ts},ty,pos,af,gd⟩).run P w= .ok (.enter f (args.map ρ)) w:=by
 simp [execOp,resolve,Deferred.ofValue,hρ,invoke,hc]
theorem ve {fr:Bool} : ∀(τ:Ty) (x:τ.den) (vs:List Value) (i:Nat) (av:AV),Ch w (Cp X.w0.heap.size X.Sc π fr) τ vs x->bA fr τ x i=some av->
  ∃v,vs[i]?=some v/\Bi X w π H av v
 | .pair a r,x,[],i,av,h,he=>h.elim
 | .pair a r,x,v::vs,0,av,h,he=>by
  simp only [bA,Aa] at he;subst he
  exact ⟨v,rfl,rm h.1⟩
 | .pair a r,x,v::vs,i+1,av,h,he=>by
  obtain ⟨u,hu,hr⟩:=ve r x.2 vs i av h.2 he
  exact ⟨u,hu,hr⟩
 | .int _,_,_,i,_,_,he=>by cases i<;>simp [bA] at he
 | .bool,_,_,i,_,_,he=>by cases i<;>simp [bA] at he
 | .str,_,_,i,_,_,he=>by cases i<;>simp [bA] at he
 | .slice _,_,_,i,_,_,he=>by cases i<;>simp [bA] at he
 | .ptr _,_,_,i,_,_,he=>by cases i<;>simp [bA] at he
 | .oslice _,_,_,i,_,_,he=>by cases i<;>simp [bA] at he
 | .optr _,_,_,i,_,_,he=>by cases i<;>simp [bA] at he
 | .smap _,_,_,i,_,_,he=>by cases i<;>simp [bA] at he
 | .clo _ _,_,_,i,_,_,he=>by cases i<;>simp [bA] at he
 | .unit,_,_,i,_,_,he=>by cases i<;>simp [bA] at he
theorem KJ (x:AV) (vx:Value) (n:Int) (hx:Bi X w π H x vx) (h:QN x=some n): ∃a len cap,vx= .slice a len cap/\n=len:=by
 unfold QN at h
 split at h
 ·simp only [Aa] at h;subst h
  exact ⟨none,0,0,hx,rfl⟩
 ·simp only [Aa] at h;subst h
  obtain ⟨cs,hc,rfl⟩:=hx
  simp only [Cells] at hc
  obtain ⟨a,len,cap,rfl,hl,_⟩:=hc
  exact ⟨a,len,cap,by simp [Bs,Ty.Am],by rw [hl]⟩
 ·rename_i l off len
  simp only [Aa] at h;subst h
  obtain ⟨b,sz,n,_,_,_,ho⟩:=hx
  cases hp:π l with
  |none=>rw [hp] at ho;obtain ⟨rfl,_,rfl⟩:=ho;exact ⟨none,0,0,rfl,rfl⟩
  |some r=>rw [hp] at ho;obtain ⟨ad,rfl,_⟩:=ho;exact ⟨some ad,len,_,rfl,rfl⟩
 ·cases h
theorem r8 {c:AV} {v:Value} (h:Bi X w π H c v):Bi X w π H (mO c) v:=by
 unfold mO
 split
 ·rename_i fr e x
  obtain ⟨cs,h1,h2⟩:=h
  rcases h1 with ⟨rfl,c,rfl⟩|⟨xs,ad,len,cap,rfl,rfl,h3,h4,h5⟩
  ·exact ⟨_,⟨none,0,c,rfl,rfl,Mz _, .inl rfl⟩,h2⟩
  ·refine ⟨_,⟨some ad,len,cap,rfl,h3,h4,h5.imp id λ⟨g,o,g1,g2⟩=>⟨g,o,by rw [g1],g2⟩⟩,h2⟩
 ·exact h
theorem zd {st:St} (h:Mh X w π st.heap) (x:AV) (vx:Value) (n:Int) (hx:Bi X w π st.heap x vx) (hn:zc st x=some n): ∃a len cap,vx= .slice a len cap/\n=len:=by
 unfold zc at hn
 split at hn
 ·rename_i l i c
  split at hn
  ·rename_i e te rows kp hl
   simp only [Aa] at hn;subst hn
   unfold St.at at hl
   obtain ⟨r,b,sz,m,g1,g0,g2,g3,⟨g4,_⟩,g5⟩:=hx
   rw [hl] at g1;cases g1
   simp only [OB.eu,Aa,Ae] at g0
   obtain ⟨rfl,rfl⟩:=g0
   have kD:c=0:=by omega
   subst kD
   rw [Ex,Ef] at g5
   obtain ⟨u,R,k1,k2,k3⟩:=lf h hl g2 g3 (by simp)
   rw [g5] at k1
   have hu:=Ba k1
   subst hu
   cases R with
   |none=>obtain ⟨rfl,_,hh⟩:=k2;exact ⟨none,0,0,rfl,by rw [hh]⟩
   |some q=>obtain ⟨ad,rfl,_⟩:=k2;exact ⟨some ad,_,_,rfl,rfl⟩
  ·cases hn
 ·exact KJ x vx n hx hn
theorem KK (x:AV) (vx:Value) (n:Int) (hx:Bi X w π H x vx) (h:HY x=some n): ∃s,vx= .string s/\n=s.size:=by
 unfold HY at h
 split at h
 ·simp only [Aa] at h;subst h
  exact ⟨_,dE hx,rfl⟩
 ·cases h
theorem qb {st:St} {a:Act} (h:Bd X π st a w) (mx:Bool) (args:List Operand) (av:AV) (ts:Array TypeId) (ty:TypeId) (he:vQ mx (args.map st.ev)=some av):
  ∃v,(if mx then Builtin.max_ ts ty (args.map a.eval).toArray else Builtin.min_ ts ty (args.map a.eval).toArray).run P w= .ok v w/\Bi X w π st.heap av v:=by
 unfold vQ at he
 split at he
 ·rename_i k n k' m heq
  cases args with
  |nil=>simp at heq
  |cons x r=>
   cases r with
   |nil=>simp at heq
   |cons y r=>
    simp only [Bh,Gi,List.map_eq_nil_iff] at heq
    obtain ⟨hx,hy,rfl⟩:=heq
    split at he
    ·rename_i hk;subst hk
     simp only [Yx,Aa] at he;subst he
     have e1:=Dm h.2 x;rw [hx] at e1
     have e2:=Dm h.2 y;rw [hy] at e2
     have e1:=Oz e1
     have e2:=Oz e2
     refine ⟨_,?_,Mj _ _ _⟩
     cases mx<;>simp [Builtin.max_,Builtin.min_,Builtin.max2,Builtin.min2,e1,e2]
    ·cases he
 ·cases he
theorem fI {Γ:Env} (hT:Ed P T) (Nt:Kd P Γ) {st:St} {a:Act} (h:Bd X π st a w) (o:Oper) (av:AV) (he:Es T Γ st o=some av):
  GP P X π st.heap w av ((execOp a.eval o).run P w):=by
 obtain ⟨dst,op,ty,pos,af,gd⟩:=o
 have val: ∀(s:Sem Value) (v:Value),s.run P w= .ok v w->Bi X w π st.heap av v->(execOp a.eval ⟨dst,op,ty,pos,af,gd⟩=do pure (.value (<-s)))->
   GP P X π st.heap w av ((execOp a.eval ⟨dst,op,ty,pos,af,gd⟩).run P w):=by
  intro s v h1 h2 h3
  rw [h3,Sem.run_bind,h1]
  exact ⟨rfl,h2⟩
 unfold Es at he
 split at he
 all_goals (rename_i pe;dsimp only at pe;try subst pe)
 ·
  simp only [Aa] at he;subst he
  exact ⟨rfl,Dm h.2 _⟩
 ·
  simp only [Aa] at he;subst he
  exact ⟨rfl,Dm h.2 _⟩
 ·
  rename_i c x y
  unfold ck at he
  split at he
  ·rename_i fr b hc
   simp only [Aa] at he;subst he
   have e:=Dm h.2 c
   rw [hc] at e
   have e:=Xv e
   have:(execOp a.eval ⟨dst, .pick c x y,ty,pos,af,gd⟩).run P w= .ok (.value (if b then a.eval x else a.eval y)) w:=by
    simp [execOp,e,asBool]
   rw [this]
   refine ⟨rfl,?_⟩
   cases b
   ·exact Dm h.2 y
   ·exact Dm h.2 x
  ·cases he
 ·
  obtain ⟨v,h1,h2⟩:=kX hT h _ _ _ _ (Dm h.2 _) he
  exact val _ v h1 h2 rfl
 ·
  rename_i x
  have e:=Dm h.2 x
  split at he
  ·rename_i fr τ y hx
   simp only [Aa] at he;subst he
   rw [hx] at e
   have e':=e
   obtain ⟨cs,hc,hv⟩:=e
   simp only [Cells] at hc
   obtain ⟨g,o,rfl,_⟩:=hc
   simp only [Bs,Ty.Am,Cy,Sa,fg] at hv
   have:(execOp a.eval ⟨dst, .nilCheck x,ty,pos,af,gd⟩).run P w= .ok (.value (a.eval x)) w:=by simp [execOp,hv]
   rw [this];exact ⟨rfl,e'⟩
  ·rename_i fr τ y hx
   simp only [Aa] at he;subst he
   rw [hx] at e
   obtain ⟨cs,hc,hv⟩:=e
   simp only [Cells] at hc
   rcases hc with ⟨h0,_⟩|⟨y',g,o,h0,rfl,hr⟩
   ·cases h0
   simp only [Aa] at h0;subst h0
   simp only [Bs,Ty.Am,Cy,Sa,fg] at hv
   have:(execOp a.eval ⟨dst, .nilCheck x,ty,pos,af,gd⟩).run P w= .ok (.value (a.eval x)) w:=by simp [execOp,hv]
   rw [this];exact ⟨rfl,[_],⟨g,o,rfl,hr⟩,by rw [hv];simp [Bs,Ty.Am]⟩
  ·rename_i l i hx
   simp only [Aa] at he;subst he
   rw [hx] at e
   have e':=e
   obtain ⟨r,tid,vs,_,_,hv⟩:=e
   have:(execOp a.eval ⟨dst, .nilCheck x,ty,pos,af,gd⟩).run P w= .ok (.value (a.eval x)) w:=by simp [execOp,hv]
   rw [this];exact ⟨rfl,e'⟩
  ·rename_i l i hx
   simp only [Aa] at he;subst he
   rw [hx] at e
   have e':=e
   obtain ⟨r,b,sz,n,_,_,_,_,hv⟩:=e
   have:(execOp a.eval ⟨dst, .nilCheck x,ty,pos,af,gd⟩).run P w= .ok (.value (a.eval x)) w:=by simp [execOp,hv]
   rw [this];exact ⟨rfl,e'⟩
  ·cases he
 ·
  obtain ⟨v,h1,h2⟩:=vO (P:=P) hT _ _ _ _ _ _ _ _ av (Dm h.2 _) (Dm h.2 _) he
  exact val _ v h1 h2 rfl
 ·
  obtain ⟨v,h1,h2⟩:=CO (P:=P) _ _ _ av (Dm h.2 _) he
  exact val _ v h1 h2 rfl
 ·
  rename_i s t x
  split at he
  ·rename_i σ k XF k1 n hs ht hx
   simp only [Yx,Aa] at he;subst he
   have e:=Dm h.2 x
   rw [hx] at e
   have e:=Oz e
   have hd:P.underlying t=some (.int k):=(hT.ty _ _ ht).desc
   have Ajr:(P.underlying s).isSome=true:=by
    obtain ⟨i,hi,_⟩:=(hT.ty _ _ hs).info
    have:=(hT.ty _ _ hs).desc
    cases σ<;>simp only at this
    all_goals first
     |(rw [this];rfl)
     |(obtain ⟨_,this,_⟩:=this;rw [this];rfl)
     |(obtain ⟨_,this⟩:=this;rw [this];rfl)
     |(obtain ⟨_,_,this⟩:=this;rw [this];rfl)
     |exact this.elim
   exact val _ (.int k (k.wrap n)) (by
    obtain ⟨d,hd0⟩:=Option.isSome_iff_exists.1 Ajr
    rw [e];simp [convert,run_underlying hd0,run_underlying hd,Conv.intToInt]) (Mj _ _ _) rfl
  ·rename_i _ _ hs ht
   cases hv:Fe st (.slice (.int .u8)) (st.ev x) with
   |none=>rw [hv] at he;cases he
   |some p=>
    rw [hv] at he
    simp only [Ai,Aa] at he;subst he
    have e:=Dm h.2 x
    have hr:=Wu h.1 (S:= λ_=>False) _ _ _ p.1 p.2 e hv ⟨λ_ h=>h.elim, .inr λ_ h=>h.elim⟩
    exact val _ _ (CG hT hs ht hr) (kf _ _) rfl
  ·cases he
 ·
  rename_i t x lo hi mx
  split at he
  ·cases he
  ·rename_i hmx
   simp only [Ht,Option.isSome_eq_false_iff,Option.isNone_iff_eq_none] at hmx
   subst hmx
   obtain ⟨v,h1,h2⟩:=su hT h t _ _ lo hi av (Dm h.2 x) he
   exact val _ v h1 h2 rfl
 ·
  obtain ⟨v,h1,h2⟩:=aU hT _ _ _ _ av (Dm h.2 _) he
  exact val _ v (h1 w) h2 rfl
 ·
  obtain ⟨v,h1,h2⟩:=sr hT _ _ _ _ av (Dm h.2 _) he
  exact val _ v h1 h2 rfl
 ·
  obtain ⟨v,h1,h2⟩:=kW hT h _ _ _ _ _ av (r8 (Dm h.2 _)) (Dm h.2 _) he
  exact val _ v h1 h2 rfl
 ·
  rename_i t x i
  unfold ic at he
  split at he
  ·rename_i XF s p7 k n hx hi
   split at he
   ·rename_i Wg
    split at he
    ·rename_i h0
     cases hb:s[n.toNat]? with
     |none=>rw [hb] at he;cases he
     |some b=>
      rw [hb] at he
      simp only [Ai,Aa] at he;subst he
      have e1:=Dm h.2 x;rw [hx] at e1
      have e2:=Dm h.2 i;rw [hi] at e2
      have e1:=dE e1
      have e2:=Oz e2
      have hu:P.underlying t=some .string:=(hT.ty _ _ Wg).desc
      have h0':(0:Int)<=n:=h0
      exact val _ (.int .u8 b.toNat) (by
       rw [e1,e2]
       simp only [Instr.index,Sem.run_bind,asIntOf,Sem.run_pure,Result.andThen_ok,run_underlying hu]
       simp only [Ab h0',hb,Sem.run_pure]) (Mj _ _ _) rfl
    ·cases he
   ·cases he
  ·cases he
 ·
  rename_i x i
  split at he
  ·rename_i fr τ y hx
   have e:=Dm h.2 x
   rw [hx] at e
   obtain ⟨vs,hv,hr⟩:=e
   obtain ⟨u,hu,iK⟩:=ve (H:=st.heap) τ y vs i av hr he
   exact val _ u (by rw [hv];simp [Instr.extract,hu]) iK rfl
  ·rename_i l hx
   have e:=Dm h.2 x
   rw [hx] at e
   obtain ⟨vs,hv,hlen,hr⟩:=e
   unfold SZ at he
   cases hp:l[i]? with
   |none=>rw [hp] at he;cases he
   |some p=>
    rw [hp] at he
    simp only [Ey] at he
    have hi:i<vs.length:=by have:=(Aj.1 hp).1;omega
    have hu:=Ac hi
    have iK:=hr i p _ hp hu
    refine val _ vs[i] (by rw [hv];simp [Instr.extract,hu]) ?_ rfl
    obtain ⟨b,cs⟩:=p
    unfold Ach at he
    split at he
    ·rename_i fE heq
     simp only [Ae] at heq
     obtain ⟨rfl,rfl⟩:=heq
     simp only [Aa] at he;subst he
     exact iK
    ·rename_i c heq
     simp only [Ae] at heq
     obtain ⟨rfl,rfl⟩:=heq
     simp only [Aa] at he;subst he
     exact iK c rfl
    ·cases he
  ·cases he
 ·
  rename_i f args ts
  have:=Yz Nt h f (args.toList.map st.ev) (args.toList.map a.eval) (by simp) (gI h _) av he
  rw [gL a.eval f args ts dst ty pos af gd rfl this.1]
  refine ⟨rfl,?_⟩
  have h2:=this.2
  rwa [show (args.toList.map a.eval).toArray=args.map a.eval from by apply Od;simp] at h2
 ·
  rename_i t args ts
  obtain ⟨f,bs,us,h1,h2,h3⟩:=sq Nt h _ _ (Dm h.2 (.tmp t)) args.toList av he
  rw [xc a.eval t f bs us args ts dst ty pos af gd h1 h2]
  exact ⟨rfl,h3⟩
 ·
  rename_i f first Dy
  split at he
  ·rename_i jW
   replace jW:first= #[]:=by simpa using jW
   cases hc:jQ (Dy.toList.map st.ev) with
   |none=>rw [hc] at he;cases he
   |some c=>
    rw [hc] at he
    simp only [Ai,Aa] at he;subst he
    obtain ⟨h1,h2⟩:=pT h _ _ hc
    subst jW
    refine val (Instr.makeFunc (.func f) #[] (Dy.map a.eval)) (.func (.func f) #[] (Dy.map a.eval)) rfl ⟨Dy.toList.map a.eval,?_,h1,h2⟩ (by simp [execOp])
    congr 1
    apply Od;simp
  ·rename_i fr τ x jW
   split at he
   ·rename_i vZ
    simp only [Aa] at he;subst he
    simp only [Ag,Dn,Array.isEmpty_iff] at vZ
    obtain ⟨Acv,Sf⟩:=vZ
    subst Acv
    obtain ⟨o,rfl,CT⟩: ∃o,first= #[o]/\st.ev o= .at (.data fr τ x):=by
     obtain ⟨l⟩:=first
     cases l with
     |nil=>simp at jW
     |cons o r=>
      cases r with
      |nil=>exact ⟨o,rfl,by simpa using jW⟩
      |cons _ _=>simp at jW
    have hr:=Dm h.2 o
    rw [CT] at hr
    refine val (Instr.makeFunc (.func f) #[a.eval o] #[]) (.func (.func f) #[a.eval o] #[]) rfl ⟨[vL (f+1000000000) [a.eval o]],?_,?_⟩ (by simp [execOp])
    ·simp only [Cells]
     exact ⟨[a.eval o],rfl,[a.eval o],[],rfl,Df.Qr Sf hr,rfl⟩
    ·rw [cZ (by omega)];simp [Bs,Ty.Am]
   ·cases he
  ·cases he
 ·
  obtain ⟨v,h1,h2⟩:=qa hT h _ _ _ _ _ _ _ (Dm h.2 _) (Dm h.2 _) he
  exact val _ v h1 h2 rfl
 ·
  rename_i args ts
  split at he
  ·rename_i x t Qd sC
   have e1:args= #[x]:=by apply Od;simpa using Qd
   have e2:ts= #[t]:=by apply Od;simpa using sC
   subst e1;subst e2
   split at he
   ·rename_i e Wg
    cases hn:zc st (st.ev x) with
    |none=>rw [hn] at he;cases he
    |some n=>
     rw [hn] at he
     simp only [Ey,Yx,Aa] at he;subst he
     obtain ⟨te,hu,_⟩:=(hT.ty _ _ Wg).desc
     obtain ⟨ad,len,cap,hv,rfl⟩:=zd h.1 _ _ n (Dm h.2 x) hn
     refine val (Builtin.len_ #[t] ty #[a.eval x]) (.int .i64 len) ?_ (Mj _ _ _) ?_
     ·rw [hv];simp [Builtin.len_,run_underlying hu,goInt]
     ·simp [execOp,resolve,invoke,builtin]
   ·rename_i e Wg
    cases hn:zc st (mO (st.ev x)) with
    |none=>rw [hn] at he;cases he
    |some n=>
     rw [hn] at he
     simp only [Ey,Yx,Aa] at he;subst he
     obtain ⟨te,hu,_⟩:=(hT.ty _ _ Wg).desc
     obtain ⟨ad,len,cap,hv,rfl⟩:=zd h.1 _ _ n (r8 (Dm h.2 x)) hn
     refine val (Builtin.len_ #[t] ty #[a.eval x]) (.int .i64 len) ?_ (Mj _ _ _) ?_
     ·rw [hv];simp [Builtin.len_,run_underlying hu,goInt]
     ·simp [execOp,resolve,invoke,builtin]
   ·rename_i Wg
    cases hn:HY (st.ev x) with
    |none=>rw [hn] at he;cases he
    |some n=>
     rw [hn] at he
     simp only [Ey,Yx,Aa] at he;subst he
     have hu:P.underlying t=some .string:=(hT.ty _ _ Wg).desc
     obtain ⟨s,hv,rfl⟩:=KK _ _ n (Dm h.2 x) hn
     refine val (Builtin.len_ #[t] ty #[a.eval x]) (.int .i64 s.size) ?_ (Mj _ _ _) ?_
     ·rw [hv];simp [Builtin.len_,run_underlying hu,goInt]
     ·simp [execOp,resolve,invoke,builtin]
   ·cases he
  ·cases he
 ·
  rename_i args ts
  obtain ⟨v,h1,h2⟩:=qb (P:=P) h false args.toList av ts ty he
  rw [show (args.toList.map a.eval).toArray=args.map a.eval from by apply Od;simp] at h1
  refine val (Builtin.min_ ts ty (args.map a.eval)) v (by simpa only [Cy,Sa,Pw] using h1) h2 ?_
  simp [execOp,resolve,invoke,builtin]
 ·
  rename_i args ts
  obtain ⟨v,h1,h2⟩:=qb (P:=P) h true args.toList av ts ty he
  rw [show (args.toList.map a.eval).toArray=args.map a.eval from by apply Od;simp] at h1
  refine val (Builtin.max_ ts ty (args.map a.eval)) v (by simpa only [Cy,Sa,Pw] using h1) h2 ?_
  simp [execOp,resolve,invoke,builtin]
 ·cases he
end
end Go.Proofs.Ytkkdpknjohcekaa
