/-
  Part 9 of the proof that the statement FnSymmetries holds.
-/
import Derived.Test.YtkkdpknjohcekaaCFSymmetries07
import Derived.Laws.BytesString
namespace Go.Proofs.Ytkkdpknjohcekaa
open Go.RowKit
section
variable {P:Program} {T:Tab} {X:Ctx} {w w':World} {π:Pi} {H:List (Nat×OB)}
theorem Cz.Ig {S S':Nat->Prop} {τ:Ty} {v:Value} {x:τ.den} (h:Cz w S τ v x) (hS: ∀k,k<w.heap.size->S' k->S k):Cz w S' τ v x:=
 let ⟨cs,hc,hv⟩:=h
 ⟨cs,Cells.Fw (Ar _) (λ_ _ _=>rfl) hS τ cs x hc,hv⟩
theorem Cl.Ig {S S':Nat->Prop} {τ:Ty} {vs:List Value} {x:τ.den} (h:Cl w S τ vs x) (hS: ∀k,k<w.heap.size->S' k->S k):Cl w S' τ vs x:=
 Cl.Fw ⟨Ar _,λ_ _ _=>rfl⟩ hS τ vs x h
theorem Cl.flat {S S':Nat->Prop} : ∀(τ:Ty) (vs:List Value) (x:τ.den),τ.flat=true->Cl w S τ vs x->Cl w S' τ vs x
 | .pair a r,[],x,_,h=>h
 | .pair a r,v::vs,x,hf,h=>by
  simp only [Ty.flat,Ag] at hf
  exact ⟨h.1.flat hf.1,Cl.flat r vs x.2 hf.2 h.2⟩
 | .unit,[],_,_,_=>trivial
 | .unit,_::_,_,_,h=>h
 | .int _,_,_,_,h=>by simp [Cl] at h
 | .bool,_,_,_,h=>by simp [Cl] at h
 | .str,_,_,_,h=>by simp [Cl] at h
 | .slice _,_,_,_,h=>by simp [Cl] at h
 | .ptr _,_,_,_,h=>by simp [Cl] at h
 | .oslice _,_,_,_,h=>by simp [Cl] at h
 | .optr _,_,_,_,h=>by simp [Cl] at h
 | .smap _,_,_,_,h=>by simp [Cl] at h
 | .clo _ _,_,_,_,h=>by simp [Cl] at h
theorem bK {fr:Bool} {τ Nr:Ty} {x:Nr.den} {f:Bool} {y:τ.den} {v:Value} (h:fC fr τ Nr x=some (f,y)) (hc:Cz w (Cr X.w0.heap.size X.Sc π fr) Nr v x):
  Cells w (Cr X.w0.heap.size X.Sc π f) τ [v] y:=by
 unfold fC at h
 split at h
 ·split at h
  ·rename_i e e' _ OE
   subst OE
   simp only [Aa,Ad] at h
   obtain ⟨rfl,rfl⟩:=h
   have h1:=Cz.Rc rfl hc
   simp only [Cells] at h1⊢
   rcases h1 with ⟨rfl,c,h1⟩|⟨xs,ad,len,cap,rfl,h1,h2,h3,h4⟩
   ·exact ⟨none,0,c,h1,rfl,Ni _, .inl rfl⟩
   ·exact ⟨_,len,cap,h1,h2,h3,h4.imp id λ⟨g,o,ha,h4⟩=>⟨g,o,by rw [ha],h4⟩⟩
  ·cases h
 ·split at h
  ·rename_i a a' _ haa
   subst haa
   simp only [Aa,Ad] at h
   obtain ⟨rfl,rfl⟩:=h
   have h1:=Cz.Rc rfl hc
   simp only [Cells] at h1⊢
   obtain ⟨g,o,h2⟩:=h1
   exact .inr ⟨_,g,o,rfl,h2⟩
  ·cases h
 ·cases h
theorem gK {st:St} (τ:Ty) (c:AC) (v:Value) (fr:Bool) (x:τ.den) (Sq:τ.Ap=false) (hs:c.settled=true) (hc:Gy X w π st.heap c v)
  (hv:Dm st τ c=some (fr,x)):Cells w (Cr X.w0.heap.size X.Sc π fr) τ [v] x:=by
 cases c with
 |data Uz Nr y=>
  rw [Ng] at hv
  split at hv
  ·rename_i ht;subst ht
   simp only [Aa,Ad] at hv
   obtain ⟨rfl,rfl⟩:=hv
   have h1:=Cz.Rc Sq hc
   cases hf:Nr.flat with
   |true=>exact Cells.flat Nr _ _ hf h1
   |false=>rw [eW];exact h1
  ·exact bK hv hc
 |Lo=>
  cases τ with
  |slice e=>
   simp only [Dm,Aa,Ad] at hv
   obtain ⟨_,rfl⟩:=hv
   exact ⟨none,0,0,by rw [show v=_ from hc],rfl,Ar _, .inl rfl⟩
  |oslice e=>
   simp only [Dm,Aa,Ad] at hv
   obtain ⟨_,rfl⟩:=hv
   exact .inl ⟨rfl,0,by rw [show v=_ from hc]⟩
  |_=>simp [Dm] at hv
 |Uk=>
  cases τ with
  |optr e=>
   simp only [Dm,Aa,Ad] at hv
   obtain ⟨_,rfl⟩:=hv
   exact .inl ⟨rfl,by rw [show v=_ from hc]⟩
  |_=>simp [Dm] at hv
 |_=>simp [AC.settled] at hs
theorem Cells.and_left {f1 f2:Bool} {τ:Ty} {cs:List Value} {x:τ.den} (h:Cells w (Cr X.w0.heap.size X.Sc π f1) τ cs x):Cells w (Cr X.w0.heap.size X.Sc π (f1&&f2)) τ cs x:=
 Cells.Fw (Ar _) (λ_ _ _=>rfl) (λk _ hk=>by
  rcases hk with h1|h1|⟨h1,h2⟩
  ·exact .inl h1
  ·exact .inr (.inl h1)
  ·simp at h1;exact .inr (.inr ⟨h1.1,h2⟩)) τ cs x h
theorem Cells.and_right {f1 f2:Bool} {τ:Ty} {cs:List Value} {x:τ.den} (h:Cells w (Cr X.w0.heap.size X.Sc π f2) τ cs x):Cells w (Cr X.w0.heap.size X.Sc π (f1&&f2)) τ cs x:=
 Cells.Fw (Ar _) (λ_ _ _=>rfl) (λk _ hk=>by
  rcases hk with h1|h1|⟨h1,h2⟩
  ·exact .inl h1
  ·exact .inr (.inl h1)
  ·simp at h1;exact .inr (.inr ⟨h1.2,h2⟩)) τ cs x h
theorem Vs {st:St} : ∀(τ:Ty) (cs:List AC) (us:List Value) (fr:Bool) (x:τ.den),cs.all (·.settled)=true->Fc X w π st.heap cs us->
  Eo st τ cs=some (fr,x)->Cells w (Cr X.w0.heap.size X.Sc π fr) τ us x:=by
 have one: ∀(τ:Ty) (cs:List AC) (us:List Value) (fr:Bool) (x:τ.den),τ.Ap=false->cs.all (·.settled)=true->Fc X w π st.heap cs us->
   Eo st τ cs=some (fr,x)->Cells w (Cr X.w0.heap.size X.Sc π fr) τ us x:=by
  intro τ cs us fr x Sq hs hr hv
  rw [Sz Sq] at hv
  split at hv
  ·rename_i c
   obtain ⟨u,hu,_,hc⟩:=hr.2 0 c rfl
   have hl:us.length=1:=hr.1
   obtain ⟨u',rfl⟩:=Dy.1 hl
   simp at hu;subst hu
   exact gK τ c _ fr x Sq (by simpa using hs) hc hv
  ·cases hv
 intro τ
 induction τ with
 |unit=>
  intro cs us fr x hs hr hv
  cases cs with
  |nil=>have:us= []:=Dd hr.1;exact this
  |cons c cs=>simp [Eo] at hv
 |pair a r eZ eV=>
  intro cs us fr x hs hr hv
  simp only [Eo] at hv
  split at hv
  ·rename_i f1 y f2 z h1 h2
   simp only [Aa,Ad] at hv
   obtain ⟨rfl,rfl⟩:=hv
   have UQ:Fc X w π st.heap (cs.take a.size) (us.take a.size):=by have:=Yg hr 0 a.size;simpa using this
   have TG:Fc X w π st.heap (cs.drop a.size) (us.drop a.size):=
    ⟨by simp [hr.1],λi c hc=>by
     rw [Ci] at hc⊢
     exact hr.2 _ c hc⟩
   have jI:(cs.take a.size).all (·.settled)=true:=Ax.2 λc hc=>Ax.1 hs c (Ma hc)
   have rK:(cs.drop a.size).all (·.settled)=true:=Ax.2 λc hc=>Ax.1 hs c (bZ hc)
   exact ⟨us.take a.size,us.drop a.size,(Gk _ _).symm,(eZ _ _ _ _ jI UQ h1).and_left,(eV _ _ _ _ rK TG h2).and_right⟩
  ·cases hv
 |_=>exact λcs us fr x hs hr hv=>one _ cs us fr x rfl hs hr hv
theorem Px {st:St} {τ:Ty} {c:AC} (h:c.settled=true):Jk st τ c=Dm st τ c:=by
 cases c<;>simp [AC.settled] at h<;>cases τ<;>rfl
theorem Mi {st:St} (τ:Ty) (c:AV) (v:Value) (fr:Bool) (x:τ.den) (hs:c.settled=true) (hc:Bf X w π st.heap c v)
  (hv:Ez st τ c=some (fr,x)):Cz w (Cr X.w0.heap.size X.Sc π fr) τ v x:=by
 have Nn: ∀c:AC,c.settled=true->Gy X w π st.heap c v->(if τ.Ap then none else Jk st τ c)=some (fr,x)->Cz w (Cr X.w0.heap.size X.Sc π fr) τ v x:=by
  intro c hs hc hv
  split at hv
  ·cases hv
  ·rename_i Sq
   simp only [Gw] at Sq
   rw [Px hs] at hv
   exact Cz.ly Sq (gK τ c v fr x Sq hs hc hv)
 cases c with
 | «at»c=>
  cases c with
  |data Uz Nr y=>
   rw [bH] at hv
   split at hv
   ·rename_i ht;subst ht
    simp only [Aa,Ad] at hv
    obtain ⟨rfl,rfl⟩:=hv
    cases hf:Nr.flat with
    |true=>exact Cz.flat hf hc
    |false=>rw [eW];exact hc
   ·exact Nn (.data Uz Nr y) hs hc hv
  |Lo=>exact Nn .Lo hs hc hv
  |Uk=>exact Nn .Uk hs hc hv
  |undef=>simp [AV.settled,AC.settled] at hs
  |skip=>simp [AV.settled,AC.settled] at hs
  |own l off len=>simp [AV.settled,AC.settled] at hs
  |Gr l i=>simp [AV.settled,AC.settled] at hs
  |Jp l i=>simp [AV.settled,AC.settled] at hs
  |clo f Eb=>simp [AV.settled,AC.settled] at hs
  |Ka l=>simp [AV.settled,AC.settled] at hs
  |sub l i c=>simp [AV.settled,AC.settled] at hs
  |Jn l i c=>simp [AV.settled,AC.settled] at hs
 |agg cs=>
  simp only [Ez] at hv
  split at hv
  ·rename_i Sq
   obtain ⟨us,rfl,hr⟩:=hc
   exact ⟨us,Vs τ cs us fr x hs hr hv,by simp [Bs,Sq]⟩
  ·cases hv
 |aa Uz Nr y=>simp [Ez] at hv
 |Mh l=>simp [Ez] at hv
theorem cR {st:St} : ∀(τ:Ty) (cs:List AV) (vs:List Value) (fr:Bool) (x:τ.den),cs.length=vs.length->cs.all (·.settled)=true->
  (∀(i:Nat) c v,cs[i]?=some c->vs[i]?=some v->Bf X w π st.heap c v)->Dr st τ cs=some (fr,x)->Cl w (Cr X.w0.heap.size X.Sc π false) τ vs x
 | .unit,[],vs,fr,x,hl,hs,hr,hv=>by
  have:vs= []:=Dd hl.symm
  subst this;trivial
 | .unit,_::_,vs,fr,x,hl,hs,hr,hv=>by simp [Dr] at hv
 | .pair a r,[],vs,fr,x,hl,hs,hr,hv=>by simp [Dr] at hv
 | .pair a r,c::cs,[],fr,x,hl,hs,hr,hv=>by simp at hl
 | .pair a r,c::cs,v::vs,fr,x,hl,hs,hr,hv=>by
  simp only [Dr] at hv
  split at hv
  ·rename_i f1 y f2 z h1 h2
   simp only [Aa,Ad] at hv
   obtain ⟨rfl,rfl⟩:=hv
   simp only [Iv,Ag] at hs
   exact ⟨(Mi a c v f1 y hs.1 (hr 0 c v rfl rfl) h1).Ig (λk _ hk=>by
     rcases hk with h|h|⟨h,_⟩
     ·exact .inl h
     ·exact .inr (.inl h)
     ·cases h),
    cR r cs vs f2 z (by simpa using hl) hs.2 (λi c' v' hc l7=>hr (i+1) c' v' hc l7) h2⟩
  ·cases hv
 | .int _,cs,vs,fr,x,hl,hs,hr,hv=>by cases cs<;>simp [Dr] at hv
 | .bool,cs,vs,fr,x,hl,hs,hr,hv=>by cases cs<;>simp [Dr] at hv
 | .str,cs,vs,fr,x,hl,hs,hr,hv=>by cases cs<;>simp [Dr] at hv
 | .slice _,cs,vs,fr,x,hl,hs,hr,hv=>by cases cs<;>simp [Dr] at hv
 | .ptr _,cs,vs,fr,x,hl,hs,hr,hv=>by cases cs<;>simp [Dr] at hv
 | .oslice _,cs,vs,fr,x,hl,hs,hr,hv=>by cases cs<;>simp [Dr] at hv
 | .optr _,cs,vs,fr,x,hl,hs,hr,hv=>by cases cs<;>simp [Dr] at hv
 | .smap _,cs,vs,fr,x,hl,hs,hr,hv=>by cases cs<;>simp [Dr] at hv
 | .clo _ _,cs,vs,fr,x,hl,hs,hr,hv=>by cases cs<;>simp [Dr] at hv
theorem gx {st:St} {a:Act} (h:Bb X π st a w) (args:List Operand) (i:Nat) (c:AV) (v:Value) (hc:(args.map st.ev)[i]?=some c) (hv:(args.map a.eval)[i]?=some v):Bf X w π st.heap c v:=by
 rw [Ge] at hc hv
 cases hi:args[i]? with
 |none=>rw [hi] at hc;cases hc
 |some o=>
  rw [hi] at hc hv
  simp only [Ah,Aa] at hc hv
  subst hc;subst hv
  exact Dn h.2 o
theorem Zj {Γ:Env} (Of:Ju P Γ) {st:St} {a:Act} (h:Bb X π st a w) (f:FuncId) (cs:List AV) (vs:List Value) (hlen:cs.length=vs.length)
  (XJ: ∀(i:Nat) c v,cs[i]?=some c->vs[i]?=some v->Bf X w π st.heap c v) (av:AV) (he:Od Γ st f cs=some av):
  (∀vs w,(callFunc f vs).run P w= .ok (.enter f vs) w)/\
  Calls P f vs.toArray w (λe o9=> ∃v,e= .returned v/\Below w.heap.size w o9/\Bf X o9 π st.heap av v):=by
 unfold Od at he
 split at he
 ·rename_i s hs
  have snd:Sound P f s:=Of f _ hs
  refine ⟨snd.enter,?_⟩
  split at he
  ·rename_i Jg
   split at he
   ·cases he
   ·rename_i rU x hx
    cases hy:s.fn x with
    |none=>rw [hy] at he;cases he
    |some y=>
     rw [hy] at he
     simp only [Ah,Aa] at he
     have oA: ∀(S:Nat->Prop),(∀k,S k->k<w.heap.size)->Cl w S s.arg vs x->(s.fresh=true\/s.res.flat=true\/ ∀k,Cr X.w0.heap.size X.Sc π false k->S k)->
       Calls P f vs.toArray w (λe o9=> ∃v,e= .returned v/\Below w.heap.size w o9/\Bf X o9 π st.heap av v):=by
      intro S Ahq Qk Ajl
      refine (snd.calls w S _ x y Ahq Qk hy).mono ?_
      rintro e o9 ⟨v,rfl,hb,hr⟩
      refine ⟨v,rfl,hb,?_⟩
      have hA:s.res.flat=true\/ ∀k,k<o9.heap.size->Cr X.w0.heap.size X.Sc π (s.fresh||s.res.flat) k->(S k\/(s.fresh=true/\k<w.heap.size)):=by
       cases hf:s.res.flat with
       |true=>exact .inl rfl
       |false=>
        right
        intro k _ hk
        cases vD:s.fresh with
        |true=>
         right
         refine ⟨rfl,?_⟩
         rcases hk with ⟨l,r,hl,hg⟩|hk|⟨_,hk⟩
         ·exact (h.1.own ⟨l,r,hl,hg⟩).1
         ·have:=h.1.sc k hk;have:=h.1.below.size;omega
         ·have:=h.1.below.size;omega
        |false=>
         left
         have pW:Cr X.w0.heap.size X.Sc π false k:=by simpa [vD,hf] using hk
         rcases Ajl with h1|h1|h1
         ·rw [vD] at h1;cases h1
         ·rw [hf] at h1;cases h1
         ·exact h1 k pW
      unfold jr at hr
      subst he
      split
      ·rename_i hm
       rw [Ab hm] at hr
       obtain ⟨us,rfl,hr⟩:=hr
       refine ⟨us,rfl,?_⟩
       rcases hA with hf|hA
       ·exact Cl.flat _ _ _ hf hr
       ·exact hr.Ig hA
      ·rename_i hm
       rw [Ai hm] at hr
       rcases hA with hf|hA
       ·exact Cz.flat hf hr
       ·exact hr.Ig hA
     cases hff:(s.fresh||s.res.flat) with
     |true=>
      refine oA (λ_=>False) (λ_ h=>h.elim) (Zt h.1 s.arg _ _ rU x hlen XJ hx ⟨λ_ h=>h.elim, .inr λ_ h=>h.elim⟩) ?_
      simp only [Lk] at hff
      rcases hff with h1|h1
      ·exact .inl h1
      ·exact .inr (.inl h1)
     |false=>
      rw [hff,ab] at Jg
      refine oA (Cr X.w0.heap.size X.Sc π false) (λk hk=>?_) (cR s.arg _ _ rU x hlen Jg XJ hx) (.inr (.inr λ_ hk=>hk))
      rcases hk with ⟨l,r,hl,hg⟩|hk|⟨hk,_⟩
      ·exact (h.1.own ⟨l,r,hl,hg⟩).1
      ·have:=h.1.sc k hk;have:=h.1.below.size;omega
      ·cases hk
  ·cases he
 ·cases he
theorem pC {fr:Bool} : ∀(τ:Ty) (us:List Value) (x:τ.den),(∀a r,τ≠ .pair a r->True)->Cells w (Cr X.w0.heap.size X.Sc π fr) τ us x->τ.chain=true->
  (ak fr τ x).length=us.length/\ ∀(i:Nat) c v,(ak fr τ x)[i]?=some c->us[i]?=some v->Bf X w π H c v
 | .unit,us,x,_,hc,_=>by
  simp only [Cells] at hc
  subst hc
  exact ⟨rfl,λi c v h=>by simp [ak] at h⟩
 | .pair a r,us,x,_,hc,hch=>by
  simp only [Cells] at hc
  simp only [Ty.chain,Ag,Eg] at hch
  obtain ⟨c1,c2,rfl,h1,h2⟩:=hc
  have hl:=Cells.len a c1 x.1 h1
  have h3:a.size=1:=by cases a<;>simp_all [Ty.Ap,Ty.size]
  rw [h3] at hl
  obtain ⟨u,rfl⟩:=Dy.1 hl
  obtain ⟨h4,h5⟩:=pC r c2 x.2 (λ_ _ _=>trivial) h2 hch.2
  refine ⟨by simp [ak,h4],λi c v hc hv=>?_⟩
  rcases i with _|i
  ·simp only [ak,Bl,Aa] at hc
   simp only [List.singleton_append,Bl,Aa] at hv
   subst hc;subst hv
   exact ⟨[u],h1,by simp [Bs,hch.1]⟩
  ·simp only [ak,Lz] at hc
   simp only [List.singleton_append,Lz] at hv
   exact h5 i c v hc hv
 | .int _,_,_,_,_,h=>by simp [Ty.chain] at h
 | .bool,_,_,_,_,h=>by simp [Ty.chain] at h
 | .str,_,_,_,_,h=>by simp [Ty.chain] at h
 | .slice _,_,_,_,_,h=>by simp [Ty.chain] at h
 | .oslice _,_,_,_,_,h=>by simp [Ty.chain] at h
 | .ptr _,_,_,_,_,h=>by simp [Ty.chain] at h
 | .optr _,_,_,_,_,h=>by simp [Ty.chain] at h
 | .smap _,_,_,_,_,h=>by simp [Ty.chain] at h
 | .clo _ _,_,_,_,_,h=>by simp [Ty.chain] at h
theorem fj {cs ds:List AV} {vs us:List Value} (hl:cs.length=vs.length) (h1: ∀(i:Nat) c v,cs[i]?=some c->vs[i]?=some v->Bf X w π H c v)
  (h2: ∀(i:Nat) c v,ds[i]?=some c->us[i]?=some v->Bf X w π H c v) (i:Nat) (c:AV) (v:Value) (hc:(cs++ds)[i]?=some c) (hv:(vs++us)[i]?=some v):Bf X w π H c v:=by
 by_cases hi:i<cs.length
 ·rw [Aq hi] at hc
  rw [Aq (by omega)] at hv
  exact h1 i c v hc hv
 ·rw [Ao (by omega)] at hc
  rw [Ao (by omega)] at hv
  rw [hl] at hc
  exact h2 _ c v hc hv
theorem rQ {Γ:Env} (Of:Ju P Γ) {st:St} {a:Act} (h:Bb X π st a w) (c:AV) (v:Value) (hv:Bf X w π st.heap c v) (args:List Operand) (av:AV) (he:Wm Γ st c (args.map st.ev)=some av):
  ∃f bs us,v= .func (.func f) (bs:List Value).toArray (us:List Value).toArray/\(∀vs w,(callFunc f vs).run P w= .ok (.enter f vs) w)/\
  Calls P f (bs++args.map a.eval++us).toArray w (λe o9=> ∃v,e= .returned v/\Below w.heap.size w o9/\Bf X o9 π st.heap av v):=by
 unfold Wm at he
 split at he
 ·rename_i fr f τ x
  split at he
  ·rename_i hch
   obtain ⟨cs,hc,rfl⟩:=hv
   simp only [Cells] at hc
   obtain ⟨us,rfl,hc⟩:=hc
   obtain ⟨h1,h2⟩:=pC (H:=st.heap) τ us x (λ_ _ _=>trivial) hc hch
   by_cases hf:f<1000000000
   ·rw [Ab hf] at he
    have:=Zj Of h f _ (args.map a.eval++us) (by simp [h1]) (fj (by simp) (gx h args) h2) av he
    exact ⟨f,[],us,by simp [Bs,Ty.Ap,fw hf],by simpa using this⟩
   ·rw [Ai hf] at he
    have:=Zj Of h (f-1000000000) _ (us++args.map a.eval) (by simp [h1]) (fj h1 h2 (gx h args)) av he
    exact ⟨f-1000000000,us,[],by simp [Bs,Ty.Ap,df hf],by simpa using this⟩
  ·cases he
 ·rename_i f Eb
  obtain ⟨us,rfl,h1,h2⟩:=hv
  have:=Zj Of h f _ (args.map a.eval++us) (by simp [h1]) (fj (by simp) (gx h args) (λi c v hc hv=>by
   rw [Ge] at hc
   cases hi:Eb[i]? with
   |none=>rw [hi] at hc;cases hc
   |some p=>
    rw [hi] at hc
    simp only [Ah,Aa] at hc
    subst hc
    obtain ⟨r,tid,vs,h3,h4,h5⟩:=h2 i p hi
    rw [h5] at hv
    simp only [Aa] at hv
    subst hv
    exact ⟨r,tid,vs,h3,h4,rfl⟩)) av he
  exact ⟨f,[],us,rfl,by simpa using this⟩
 ·cases he
theorem wL (ρ:Operand->Value) (t:Nat) (f:FuncId) (bs us:List Value) (args:Array Operand) (ts:Array TypeId) (dst:Option Tmp) (ty:TypeId) (pos:String) (af:Array Edge) (gd:Option (Nat×Bool))
  (hρ:ρ (.tmp t)= .func (.func f) bs.toArray us.toArray) (hc: ∀vs w,(callFunc f vs).run P w= .ok (.enter f vs) w):
  (execOp ρ ⟨dst, .call {callee:= .value (.tmp t),args:=args,argTypes:=ts},ty,pos,af,gd⟩).run P w= .ok (.enter f (bs++args.toList.map ρ++us).toArray) w:=by
 have:bs.toArray++(args.map ρ)++us.toArray=(bs++args.toList.map ρ++us).toArray:=by apply Oo;simp
 simp [execOp,resolve,Deferred.ofValue,hρ,invoke,hc,this]
theorem pD {st:St} {a:Act} (h:Bb X π st a w): ∀(l:List Operand) (c:List (Nat×Nat)),jB (l.map st.ev)=some c->
  (l.map a.eval).length=c.length/\ ∀(j:Nat) p,c[j]?=some p-> ∃r tid vs,As st.heap p.1=some (.var tid vs)/\π p.1=some r/\(l.map a.eval)[j]?=some (.pointer (some ⟨r.g,p.2,none⟩))
 | [],c,he=>by simp only [List.map_nil,jB,Aa] at he;subst he;exact ⟨rfl,λj p hp=>by simp at hp⟩
 |x::l,c,he=>by
  simp only [Bw] at he
  unfold jB at he
  split at he
  ·rename_i heq;simp at heq
  ·rename_i k i r heq
   simp only [Gd] at heq
   obtain ⟨h1,rfl⟩:=heq
   cases hr:jB (l.map st.ev) with
   |none=>rw [hr] at he;cases he
   |some c'=>
    rw [hr] at he
    simp only [Ah,Aa] at he
    subst he
    obtain ⟨h2,h3⟩:=pD h l c' hr
    have e:=Dn h.2 x
    rw [h1] at e
    obtain ⟨r,tid,vs,h4,h5,h6⟩:=e
    refine ⟨by simpa using h2,λj p hp=>?_⟩
    rcases j with _|j
    ·simp only [Bl,Aa] at hp;subst hp
     exact ⟨r,tid,vs,h4,h5,by rw [Bw,Bl,h6]⟩
    ·exact h3 j p hp
  ·cases he
theorem BI (a b:ByteArray):(a==b)=decide (a=b):=by
 obtain ⟨a⟩:=a;obtain ⟨b⟩:=b
 show ByteArray.beq _ _=_
 unfold ByteArray.beq
 by_cases h:a=b
 ·subst h;simp
 ·rw [Ht (by simpa using h)];simpa using h
theorem fJ (s:ByteArray): ∀(es:List MapEntry) (i:Nat),(∀e∈es,(Sf e.key).isSome=true)->
  ∃r,Instr.findNow .string (.string s) es i=some r/\r.map (·.2)=Qm es s/\(∀j v,r=some (j,v)->i<=j/\(∃e,es[j-i]?=some e/\e.key= .string s)/\ ∀k e,k<j-i->es[k]?=some e->Sf e.key≠some s)
 | [],i,_=>⟨none,rfl,rfl,λj v h=>by cases h⟩
 |e::es,i,h=>by
  have he:=h e (by simp)
  have hk: ∃t,e.key= .string t:=by
   unfold Sf at he
   split at he
   ·exact ⟨_,by assumption⟩
   ·cases he
  obtain ⟨t,hk⟩:=hk
  simp only [Instr.findNow,hk,Instr.sameNow]
  by_cases Up:s=t
  ·subst Up
   have hb:(s==s)=true:=by rw [BI];simp
   rw [hb]
   refine ⟨some (i,e.val),rfl,by simp [Qm,hk,Sf],λj v hj=>?_⟩
   simp only [Aa,Ad] at hj
   obtain ⟨rfl,rfl⟩:=hj
   exact ⟨Ar _,⟨e,by simp,hk⟩,λk e h=>by omega⟩
  ·obtain ⟨r,h1,h2,h3⟩:=fJ s es (i+1) λe he=>h e (by simp [he])
   have hb:(s==t)=false:=by rw [BI];simpa using Up
   rw [hb]
   refine ⟨r,h1,?_,λj v hj=>?_⟩
   ·rw [h2]
    simp only [Qm,hk,Sf]
    rw [Ai (by simpa using λe:t=s=>Up e.symm)]
   ·obtain ⟨h4,⟨e',h5,h6⟩,h7⟩:=h3 j v hj
    refine ⟨by omega,⟨e',by rw [show j-i=(j-(i+1))+1 by omega,Lz];exact h5,h6⟩,λk e2 hk2 GM=>?_⟩
    rcases k with _|k
    ·simp only [Bl,Aa] at GM
     subst GM
     rw [hk]
     simpa [Sf] using λe:t=s=>Up e.symm
    ·exact h7 k e2 (by omega) (by simpa using GM)
theorem dL {g:Nat} {es:Array MapEntry} {clock:Nat} (h:w.heap[g]?=some (.map es clock)):(getObj g).run P w= .ok (.map es clock) w:=by simp [getObj,Sem.run,h]
theorem Ut {k:TypeId} (hk:P.underlying k=some .string) (b:Bool) (s:ByteArray) (w:World):(Instr.checkKey b 10000 k (.string s)).run P w= .ok () w:=by
 rw [show (10000:Nat)=9999+1 from rfl]
 unfold Instr.checkKey
 rw [Sem.run_bind,run_underlying hk]
 rfl
theorem pH (hT:Du P T) {st:St} {a:Act} (h:Bb X π st a w) (t:TypeId) (m k:AV) (ok:Bool) (vm vk:Value) (av:AV) (hm:Bf X w π st.heap m vm) (hk:Bf X w π st.heap k vk)
  (he:dg T st t m k ok=some av): ∃v,(Instr.lookup t vm vk ok).run P w= .ok v w/\Bf X w π st.heap av v:=by
 unfold dg at he
 split at he
 ·rename_i vt fr s ht
  have:=dF hk;subst this
  obtain ⟨kt,et,h1,h2,h3,h4,h5⟩:=hT.mapOf t vt ht
  split at he
  ·rename_i oO f hv
   simp only [Aa] at he
   have hr:=Xe h.1 (S:= λ_=>False) (.smap vt) m vm oO f hm hv ⟨λ_ h=>h.elim, .inr λ_ h=>h.elim⟩
   obtain ⟨cs,hc,rfl⟩:=hr
   have IT: ∀y:vt.den,∀u,Cells w (λ_=>False) vt [u] y->Cz w (Cr X.w0.heap.size X.Sc π true) vt u y:= λy u hu=>⟨[u],Cells.flat vt [u] y h4 hu,by simp [Bs,h5]⟩
   obtain ⟨inf,hi,Uj,_,pV⟩:=(hT.ty et vt h3).info
   have hzero:(zeroValue et).run P w= .ok (Bs vt (Bi vt)) w:=by simp [zeroValue,typeInfo,hi,pV]
   have PA:Cells w (λ_=>False) vt [Bs vt (Bi vt)] vt.zero:=by
    cases vt<;>first|(simp [Ty.flat] at h4;done)|(simp [Ty.Ap] at h5;done)|(simp [Bs,Ty.Ap,Bi,Cells,Ty.zero];done)
   have fin: ∀(es:List MapEntry),(∀e∈es,(Sf e.key).isSome=true)->(f s=none->Qm es s=none)->(∀y,f s=some y-> ∃u,Qm es s=some u/\Cells w (λ_=>False) vt [u] y)->
     (∀r,(Instr.findKey kt (.string s) es).run P w= .ok r w-> ∀u,r.map (·.2)=(if (f s).isSome then some u else none)->(r=none->u=Bs vt (Bi vt))->
      (Instr.lookup t (Bs (.smap vt) cs) (.string s) ok).run P w= .ok (if ok then .tuple #[u, .bool (f s).isSome] else u) w)->
     ∃v,(Instr.lookup t (Bs (.smap vt) cs) (.string s) ok).run P w= .ok v w/\Bf X w π st.heap av v:=by
    intro es h6 h7 h8 h9
    obtain ⟨r,oQ,mz,_⟩:=fJ s es 0 h6
    have TX:(Instr.findKey kt (.string s) es).run P w= .ok r w:=by
     unfold Instr.findKey
     simp only [Sem.run_bind,run_underlying h2,Result.andThen_ok,oQ,Sem.run_pure]
    have: ∃u,r.map (·.2)=(if (f s).isSome then some u else none)/\(r=none->u=Bs vt (Bi vt))/\Cells w (λ_=>False) vt [u] ((f s).getD vt.zero):=by
     cases hf:f s with
     |none=>
      have h13:=h7 hf
      rw [h13] at mz
      exact ⟨Bs vt (Bi vt),by rw [mz];rfl,λ_=>rfl,PA⟩
     |some y=>
      obtain ⟨u,h13,h14⟩:=h8 y hf
      rw [h13] at mz
      refine ⟨u,by rw [mz];rfl,λ(e:r=none)=>?_,h14⟩
      rw [e] at mz;cases mz
    obtain ⟨u,h13,h14,h15⟩:=this
    have Qy:=h9 r TX u h13 h14
    cases ok with
    |true=>
     simp only [Qf] at he Qy
     subst he
     exact ⟨_,Qy,[u, .bool (f s).isSome],rfl,IT _ u h15,⟨[_],rfl,rfl⟩,trivial⟩
    |false=>
     simp only [Cy,Sl] at he Qy
     subst he
     exact ⟨_,Qy,IT _ u h15⟩
   have XG: ∀v,Bs (.smap vt) [v]=v:= λv=>by simp [Bs,Ty.Ap]
   have run: ∀(r:Option (Nat×Value)) (u:Value) (b:Bool),r.map (·.2)=(if b then some u else none)->(r=none->u=Bs vt (Bi vt))->
     (∃j,r=some (j,u)/\b=true)\/(r=none/\b=false/\u=Bs vt (Bi vt)):=by
    intro r u b h6 h7
    cases r with
    |none=>cases b<;>simp at h6⊢;exact h7 rfl
    |some p=>cases b<;>simp at h6⊢;subst h6;exact ⟨p.1,rfl⟩
   simp only [Cells] at hc
   rcases hc with ⟨rfl,hf⟩|⟨g,rfl,hg,_,es,clock,h6,h7,h8,h9⟩
   ·refine fin [] (by simp) (λ_=>rfl) (λy hy=>by rw [hf] at hy;cases hy) λr h6 u h7 h8=>?_
    rcases run r u _ h7 h8 with ⟨j,rfl,hb⟩|⟨rfl,hb,rfl⟩
    ·rw [hf] at hb;cases hb
    ·rw [hb,XG]
     unfold Instr.lookup
     generalize hz:Bs vt (Bi vt)=z at hzero⊢
     simp [run_underlying h1,Ut h2,h6,hzero]
   ·refine fin es.toList h7 (λhn=>h8 s hn) (λy hy=>h9 s y hy) λr oQ u mz TX=>?_
    rw [XG]
    unfold Instr.lookup
    rcases run r u _ mz TX with ⟨j,rfl,hb⟩|⟨rfl,hb,rfl⟩
    ·rw [hb]
     simp [run_underlying h1,Ut h2,dL h6,oQ]
    ·rw [hb]
     generalize hz:Bs vt (Bi vt)=z at hzero⊢
     simp [run_underlying h1,Ut h2,dL h6,oQ,hzero]
  ·cases he
 ·cases he
theorem KH (ns:List Int): ∀b:ByteArray,ns.foldl (λr n=>r.push (UInt8.ofNat n.toNat)) b=⟨b.data++(ns.map λn=>UInt8.ofNat n.toNat).toArray⟩:=by
 induction ns with
 |nil=>intro b;simp
 |cons n ns ih=>
  intro b
  rw [Ui,ih]
  simp [ByteArray.push]
theorem BU {s d:TypeId} {v:Value} {xs:List Int} (hT:Du P T) (hs:T.ty s=some (.slice (.int .u8))) (hd:T.ty d=some .str) (h:Cz w (λ_=>False) (.slice (.int .u8)) v xs):
  (convert s d v).run P w= .ok (.string (bytesOf xs)) w:=by
 obtain ⟨te,h1,h2,h3⟩:=(hT.ty _ _ hs).desc
 have h4:P.underlying te=some (.int .u8):=(hT.ty _ _ h3).desc
 have h5:P.underlying d=some .string:=(hT.ty _ _ hd).desc
 obtain ⟨cs,hc,rfl⟩:=h
 simp only [Cells] at hc
 obtain ⟨a,len,cap,rfl,hlen,pT,CJ⟩:=hc
 simp only [Bs,Ty.Ap,Cy,Sl,fh]
 rw [run_convert_bytes_string w s d te a len cap h1 h4 h5]
 rcases CJ with rfl|⟨g,o,rfl,hg,_,Kp⟩
 ·have:len=0:=hlen
  subst this
  cases a with
  |none=>simp [Conv.bytesToString,bytesOf];rfl
  |some a=>
   rw [run_bytesToString w a 0 cap [] (by simp [loadCells,loadCellsFrom])]
   rfl
 ·rw [run_bytesToString w _ len cap xs (by
   have:=run_loadCells_list (P:=P) w ⟨g,o,none⟩ (xs.map (Value.int .u8)) (λj v hv=>by
    rw [Ge] at hv
    cases hj:xs[j]? with
    |none=>rw [hj] at hv;cases hv
    |some x=>
     rw [hj] at hv
     simp only [Ah,Aa] at hv
     subst hv
     obtain ⟨es,h6,h7,h8⟩:=Kp j x hj
     have h8:es= [.int .u8 x]:=h8
     subst h8
     rw [Addr.add_lit]
     have:=h7 0 _ rfl
     simpa [Ty.size] using this)
   rw [Jv,<-hlen] at this
   exact this)]
  rw [KH]
  simp [bytesOf]
theorem gA (ρ:Operand->Value) (f:FuncId) (args:Array Operand) (ts:Array TypeId) (dst:Option Tmp) (ty:TypeId) (pos:String) (af:Array Edge) (gd:Option (Nat×Bool))
  (hρ:ρ (.func f)= .func (.func f) #[] #[]) (hc: ∀vs w,(callFunc f vs).run P w= .ok (.enter f vs) w):
  (execOp ρ ⟨dst, .call {callee:= .value (.func f),args:=args,argTypes:=ts},ty,pos,af,gd⟩).run P w= .ok (.enter f (args.map ρ)) w:=by
 simp [execOp,resolve,Deferred.ofValue,hρ,invoke,hc]
theorem uG {fr:Bool} : ∀(τ:Ty) (x:τ.den) (vs:List Value) (i:Nat) (av:AV),Cl w (Cr X.w0.heap.size X.Sc π fr) τ vs x->bG fr τ x i=some av->
  ∃v,vs[i]?=some v/\Bf X w π H av v
 | .pair a r,x,[],i,av,h,he=>h.elim
 | .pair a r,x,v::vs,0,av,h,he=>by
  simp only [bG,Aa] at he;subst he
  exact ⟨v,rfl,qJ h.1⟩
 | .pair a r,x,v::vs,i+1,av,h,he=>by
  obtain ⟨u,hu,hr⟩:=uG r x.2 vs i av h.2 he
  exact ⟨u,hu,hr⟩
 | .int _,_,_,i,_,_,he=>by cases i<;>simp [bG] at he
 | .bool,_,_,i,_,_,he=>by cases i<;>simp [bG] at he
 | .str,_,_,i,_,_,he=>by cases i<;>simp [bG] at he
 | .slice _,_,_,i,_,_,he=>by cases i<;>simp [bG] at he
 | .ptr _,_,_,i,_,_,he=>by cases i<;>simp [bG] at he
 | .oslice _,_,_,i,_,_,he=>by cases i<;>simp [bG] at he
 | .optr _,_,_,i,_,_,he=>by cases i<;>simp [bG] at he
 | .smap _,_,_,i,_,_,he=>by cases i<;>simp [bG] at he
 | .clo _ _,_,_,i,_,_,he=>by cases i<;>simp [bG] at he
 | .unit,_,_,i,_,_,he=>by cases i<;>simp [bG] at he
theorem JI (x:AV) (vx:Value) (n:Int) (hx:Bf X w π H x vx) (h:PR x=some n): ∃a len cap,vx= .slice a len cap/\n=len:=by
 unfold PR at h
 split at h
 ·simp only [Aa] at h;subst h
  exact ⟨none,0,0,hx,rfl⟩
 ·simp only [Aa] at h;subst h
  obtain ⟨cs,hc,rfl⟩:=hx
  simp only [Cells] at hc
  obtain ⟨a,len,cap,rfl,hl,_⟩:=hc
  exact ⟨a,len,cap,by simp [Bs,Ty.Ap],by rw [hl]⟩
 ·rename_i l off len
  simp only [Aa] at h;subst h
  obtain ⟨b,sz,n,_,_,_,ho⟩:=hx
  cases hp:π l with
  |none=>rw [hp] at ho;obtain ⟨rfl,_,rfl⟩:=ho;exact ⟨none,0,0,rfl,rfl⟩
  |some r=>rw [hp] at ho;obtain ⟨ad,rfl,_⟩:=ho;exact ⟨some ad,len,_,rfl,rfl⟩
 ·cases h
theorem qC {c:AV} {v:Value} (h:Bf X w π H c v):Bf X w π H (mQ c) v:=by
 unfold mQ
 split
 ·rename_i fr e x
  obtain ⟨cs,h1,h2⟩:=h
  rcases h1 with ⟨rfl,c,rfl⟩|⟨xs,ad,len,cap,rfl,rfl,h3,h4,h5⟩
  ·exact ⟨_,⟨none,0,c,rfl,rfl,Ni _, .inl rfl⟩,h2⟩
  ·refine ⟨_,⟨some ad,len,cap,rfl,h3,h4,h5.imp id λ⟨g,o,g1,g2⟩=>⟨g,o,by rw [g1],g2⟩⟩,h2⟩
 ·exact h
theorem yQ {st:St} (h:Mm X w π st.heap) (x:AV) (vx:Value) (n:Int) (hx:Bf X w π st.heap x vx) (hn:yP st x=some n): ∃a len cap,vx= .slice a len cap/\n=len:=by
 unfold yP at hn
 split at hn
 ·rename_i l i c
  split at hn
  ·rename_i e te rows kp hl
   simp only [Aa] at hn;subst hn
   unfold St.at at hl
   obtain ⟨r,b,sz,m,g1,g0,g2,g3,⟨g4,_⟩,g5⟩:=hx
   rw [hl] at g1;cases g1
   simp only [OB.ez,Aa,Ad] at g0
   obtain ⟨rfl,rfl⟩:=g0
   have ko:c=0:=by omega
   subst ko
   rw [Et,Dz] at g5
   obtain ⟨u,R,k1,k2,k3⟩:=kX h hl g2 g3 (by simp)
   rw [g5] at k1
   have hu:=Aw k1
   subst hu
   cases R with
   |none=>obtain ⟨rfl,_,hh⟩:=k2;exact ⟨none,0,0,rfl,by rw [hh]⟩
   |some q=>obtain ⟨ad,rfl,_⟩:=k2;exact ⟨some ad,_,_,rfl,rfl⟩
  ·cases hn
 ·exact JI x vx n hx hn
theorem JJ (x:AV) (vx:Value) (n:Int) (hx:Bf X w π H x vx) (h:HB x=some n): ∃s,vx= .string s/\n=s.size:=by
 unfold HB at h
 split at h
 ·simp only [Aa] at h;subst h
  exact ⟨_,dF hx,rfl⟩
 ·cases h
theorem pI {st:St} {a:Act} (h:Bb X π st a w) (mx:Bool) (args:List Operand) (av:AV) (ts:Array TypeId) (ty:TypeId) (he:vq mx (args.map st.ev)=some av):
  ∃v,(if mx then Builtin.max_ ts ty (args.map a.eval).toArray else Builtin.min_ ts ty (args.map a.eval).toArray).run P w= .ok v w/\Bf X w π st.heap av v:=by
 unfold vq at he
 split at he
 ·rename_i k n k' m heq
  cases args with
  |nil=>simp at heq
  |cons x r=>
   cases r with
   |nil=>simp at heq
   |cons y r=>
    simp only [Bw,Gd,List.map_eq_nil_iff] at heq
    obtain ⟨hx,hy,rfl⟩:=heq
    split at he
    ·rename_i hk;subst hk
     simp only [Zh,Aa] at he;subst he
     have e1:=Dn h.2 x;rw [hx] at e1
     have e2:=Dn h.2 y;rw [hy] at e2
     have e1:=Ph e1
     have e2:=Ph e2
     refine ⟨_,?_,Mo _ _ _⟩
     cases mx<;>simp [Builtin.max_,Builtin.min_,Builtin.max2,Builtin.min2,e1,e2]
    ·cases he
 ·cases he
theorem fI {Γ:Env} (hT:Du P T) (Of:Ju P Γ) {st:St} {a:Act} (h:Bb X π st a w) (o:Oper) (av:AV) (he:Ep T Γ st o=some av):
  FU P X π st.heap w av ((execOp a.eval o).run P w):=by
 obtain ⟨dst,op,ty,pos,af,gd⟩:=o
 have val: ∀(s:Sem Value) (v:Value),s.run P w= .ok v w->Bf X w π st.heap av v->(execOp a.eval ⟨dst,op,ty,pos,af,gd⟩=do pure (.value (<-s)))->
   FU P X π st.heap w av ((execOp a.eval ⟨dst,op,ty,pos,af,gd⟩).run P w):=by
  intro s v h1 h2 h3
  rw [h3,Sem.run_bind,h1]
  exact ⟨rfl,h2⟩
 unfold Ep at he
 split at he
 all_goals (rename_i oV;dsimp only at oV;try subst oV)
 ·
  simp only [Aa] at he;subst he
  exact ⟨rfl,Dn h.2 _⟩
 ·
  simp only [Aa] at he;subst he
  exact ⟨rfl,Dn h.2 _⟩
 ·
  rename_i c x y
  unfold ck at he
  split at he
  ·rename_i fr b hc
   simp only [Aa] at he;subst he
   have e:=Dn h.2 c
   rw [hc] at e
   have e:=Yh e
   have:(execOp a.eval ⟨dst, .pick c x y,ty,pos,af,gd⟩).run P w= .ok (.value (if b then a.eval x else a.eval y)) w:=by
    simp [execOp,e,asBool]
   rw [this]
   refine ⟨rfl,?_⟩
   cases b
   ·exact Dn h.2 y
   ·exact Dn h.2 x
  ·cases he
 ·
  obtain ⟨v,h1,h2⟩:=kN hT h _ _ _ _ (Dn h.2 _) he
  exact val _ v h1 h2 rfl
 ·
  rename_i x
  have e:=Dn h.2 x
  split at he
  ·rename_i fr τ y hx
   simp only [Aa] at he;subst he
   rw [hx] at e
   have e':=e
   obtain ⟨cs,hc,hv⟩:=e
   simp only [Cells] at hc
   obtain ⟨g,o,rfl,_⟩:=hc
   simp only [Bs,Ty.Ap,Cy,Sl,fh] at hv
   have:(execOp a.eval ⟨dst, .nilCheck x,ty,pos,af,gd⟩).run P w= .ok (.value (a.eval x)) w:=by simp [execOp,hv]
   rw [this];exact ⟨rfl,e'⟩
  ·rename_i fr τ y hx
   simp only [Aa] at he;subst he
   rw [hx] at e
   obtain ⟨cs,hc,hv⟩:=e
   simp only [Cells] at hc
   rcases hc with ⟨h0,_⟩|⟨y',g,o,h0,rfl,hr⟩
   ·cases h0
   simp only [Aa] at h0;subst h0
   simp only [Bs,Ty.Ap,Cy,Sl,fh] at hv
   have:(execOp a.eval ⟨dst, .nilCheck x,ty,pos,af,gd⟩).run P w= .ok (.value (a.eval x)) w:=by simp [execOp,hv]
   rw [this];exact ⟨rfl,[_],⟨g,o,rfl,hr⟩,by rw [hv];simp [Bs,Ty.Ap]⟩
  ·rename_i l i hx
   simp only [Aa] at he;subst he
   rw [hx] at e
   have e':=e
   obtain ⟨r,tid,vs,_,_,hv⟩:=e
   have:(execOp a.eval ⟨dst, .nilCheck x,ty,pos,af,gd⟩).run P w= .ok (.value (a.eval x)) w:=by simp [execOp,hv]
   rw [this];exact ⟨rfl,e'⟩
  ·rename_i l i hx
   simp only [Aa] at he;subst he
   rw [hx] at e
   have e':=e
   obtain ⟨r,b,sz,n,_,_,_,_,hv⟩:=e
   have:(execOp a.eval ⟨dst, .nilCheck x,ty,pos,af,gd⟩).run P w= .ok (.value (a.eval x)) w:=by simp [execOp,hv]
   rw [this];exact ⟨rfl,e'⟩
  ·cases he
 ·
  obtain ⟨v,h1,h2⟩:=vn (P:=P) hT _ _ _ _ _ _ _ _ av (Dn h.2 _) (Dn h.2 _) he
  exact val _ v h1 h2 rfl
 ·
  obtain ⟨v,h1,h2⟩:=CA (P:=P) _ _ _ av (Dn h.2 _) he
  exact val _ v h1 h2 rfl
 ·
  rename_i s t x
  split at he
  ·rename_i σ k WI k1 n hs ht hx
   simp only [Zh,Aa] at he;subst he
   have e:=Dn h.2 x
   rw [hx] at e
   have e:=Ph e
   have hd:P.underlying t=some (.int k):=(hT.ty _ _ ht).desc
   have Ajc:(P.underlying s).isSome=true:=by
    obtain ⟨i,hi,_⟩:=(hT.ty _ _ hs).info
    have:=(hT.ty _ _ hs).desc
    cases σ<;>simp only at this
    all_goals first
     |(rw [this];rfl)
     |(obtain ⟨_,this,_⟩:=this;rw [this];rfl)
     |(obtain ⟨_,this⟩:=this;rw [this];rfl)
     |(obtain ⟨_,_,this⟩:=this;rw [this];rfl)
     |exact this.elim
   exact val _ (.int k (k.wrap n)) (by
    obtain ⟨d,ZA⟩:=Option.isSome_iff_exists.1 Ajc
    rw [e];simp [convert,run_underlying ZA,run_underlying hd,Conv.intToInt]) (Mo _ _ _) rfl
  ·rename_i _ _ hs ht
   cases hv:Ez st (.slice (.int .u8)) (st.ev x) with
   |none=>rw [hv] at he;cases he
   |some p=>
    rw [hv] at he
    simp only [Ah,Aa] at he;subst he
    have e:=Dn h.2 x
    have hr:=Xe h.1 (S:= λ_=>False) _ _ _ p.1 p.2 e hv ⟨λ_ h=>h.elim, .inr λ_ h=>h.elim⟩
    exact val _ _ (BU hT hs ht hr) (jR _ _) rfl
  ·cases he
 ·
  rename_i t x lo hi mx
  split at he
  ·cases he
  ·rename_i hmx
   simp only [Gw,Option.isSome_eq_false_iff,Option.isNone_iff_eq_none] at hmx
   subst hmx
   obtain ⟨v,h1,h2⟩:=rT hT h t _ _ lo hi av (Dn h.2 x) he
   exact val _ v h1 h2 rfl
 ·
  obtain ⟨v,h1,h2⟩:=bg hT _ _ _ _ av (Dn h.2 _) he
  exact val _ v (h1 w) h2 rfl
 ·
  obtain ⟨v,h1,h2⟩:=rR hT _ _ _ _ av (Dn h.2 _) he
  exact val _ v h1 h2 rfl
 ·
  obtain ⟨v,h1,h2⟩:=kM hT h _ _ _ _ _ av (qC (Dn h.2 _)) (Dn h.2 _) he
  exact val _ v h1 h2 rfl
 ·
  rename_i t x i
  unfold gR at he
  split at he
  ·rename_i WI s oO k n hx hi
   split at he
   ·rename_i Wr
    split at he
    ·rename_i h0
     cases hb:s[n.toNat]? with
     |none=>rw [hb] at he;cases he
     |some b=>
      rw [hb] at he
      simp only [Ah,Aa] at he;subst he
      have e1:=Dn h.2 x;rw [hx] at e1
      have e2:=Dn h.2 i;rw [hi] at e2
      have e1:=dF e1
      have e2:=Ph e2
      have hu:P.underlying t=some .string:=(hT.ty _ _ Wr).desc
      have h0':(0:Int)<=n:=h0
      exact val _ (.int .u8 b.toNat) (by
       rw [e1,e2]
       simp only [Instr.index,Sem.run_bind,asIntOf,Sem.run_pure,Result.andThen_ok,run_underlying hu]
       simp only [Ab h0',hb,Sem.run_pure]) (Mo _ _ _) rfl
    ·cases he
   ·cases he
  ·cases he
 ·
  rename_i x i
  split at he
  ·rename_i fr τ y hx
   have e:=Dn h.2 x
   rw [hx] at e
   obtain ⟨vs,hv,hr⟩:=e
   obtain ⟨u,hu,ix⟩:=uG (H:=st.heap) τ y vs i av hr he
   exact val _ u (by rw [hv];simp [Instr.extract,hu]) ix rfl
  ·rename_i l hx
   have e:=Dn h.2 x
   rw [hx] at e
   obtain ⟨vs,hv,hlen,hr⟩:=e
   unfold RY at he
   cases hp:l[i]? with
   |none=>rw [hp] at he;cases he
   |some p=>
    rw [hp] at he
    simp only [Ev] at he
    have hi:i<vs.length:=by have:=(Aj.1 hp).1;omega
    have hu:=Ac hi
    have ix:=hr i p _ hp hu
    refine val _ vs[i] (by rw [hv];simp [Instr.extract,hu]) ?_ rfl
    obtain ⟨b,cs⟩:=p
    unfold Ac6 at he
    split at he
    ·rename_i fD heq
     simp only [Ad] at heq
     obtain ⟨rfl,rfl⟩:=heq
     simp only [Aa] at he;subst he
     exact ix
    ·rename_i c heq
     simp only [Ad] at heq
     obtain ⟨rfl,rfl⟩:=heq
     simp only [Aa] at he;subst he
     exact ix c rfl
    ·cases he
  ·cases he
 ·
  rename_i f args ts
  have:=Zj Of h f (args.toList.map st.ev) (args.toList.map a.eval) (by simp) (gx h _) av he
  rw [gA a.eval f args ts dst ty pos af gd rfl this.1]
  refine ⟨rfl,?_⟩
  have h2:=this.2
  rwa [show (args.toList.map a.eval).toArray=args.map a.eval from by apply Oo;simp] at h2
 ·
  rename_i t args ts
  obtain ⟨f,bs,us,h1,h2,h3⟩:=rQ Of h _ _ (Dn h.2 (.tmp t)) args.toList av he
  rw [wL a.eval t f bs us args ts dst ty pos af gd h1 h2]
  exact ⟨rfl,h3⟩
 ·
  rename_i f first Eb
  split at he
  ·rename_i jH
   replace jH:first= #[]:=by simpa using jH
   cases hc:jB (Eb.toList.map st.ev) with
   |none=>rw [hc] at he;cases he
   |some c=>
    rw [hc] at he
    simp only [Ah,Aa] at he;subst he
    obtain ⟨h1,h2⟩:=pD h _ _ hc
    subst jH
    refine val (Instr.makeFunc (.func f) #[] (Eb.map a.eval)) (.func (.func f) #[] (Eb.map a.eval)) rfl ⟨Eb.toList.map a.eval,?_,h1,h2⟩ (by simp [execOp])
    congr 1
    apply Oo;simp
  ·rename_i fr τ x jH
   split at he
   ·rename_i rI
    simp only [Aa] at he;subst he
    simp only [Ag,Eg,Array.isEmpty_iff] at rI
    obtain ⟨Acr,Sq⟩:=rI
    subst Acr
    obtain ⟨o,rfl,CG⟩: ∃o,first= #[o]/\st.ev o= .at (.data fr τ x):=by
     obtain ⟨l⟩:=first
     cases l with
     |nil=>simp at jH
     |cons o r=>
      cases r with
      |nil=>exact ⟨o,rfl,by simpa using jH⟩
      |cons _ _=>simp at jH
    have hr:=Dn h.2 o
    rw [CG] at hr
    refine val (Instr.makeFunc (.func f) #[a.eval o] #[]) (.func (.func f) #[a.eval o] #[]) rfl ⟨[ve (f+1000000000) [a.eval o]],?_,?_⟩ (by simp [execOp])
    ·simp only [Cells]
     exact ⟨[a.eval o],rfl,[a.eval o],[],rfl,Cz.Rc Sq hr,rfl⟩
    ·rw [df (by omega)];simp [Bs,Ty.Ap]
   ·cases he
  ·cases he
 ·
  obtain ⟨v,h1,h2⟩:=pH hT h _ _ _ _ _ _ _ (Dn h.2 _) (Dn h.2 _) he
  exact val _ v h1 h2 rfl
 ·
  rename_i args ts
  split at he
  ·rename_i x t Qk s5
   have e1:args= #[x]:=by apply Oo;simpa using Qk
   have e2:ts= #[t]:=by apply Oo;simpa using s5
   subst e1;subst e2
   split at he
   ·rename_i e Wr
    cases hn:yP st (st.ev x) with
    |none=>rw [hn] at he;cases he
    |some n=>
     rw [hn] at he
     simp only [Ev,Zh,Aa] at he;subst he
     obtain ⟨te,hu,_⟩:=(hT.ty _ _ Wr).desc
     obtain ⟨ad,len,cap,hv,rfl⟩:=yQ h.1 _ _ n (Dn h.2 x) hn
     refine val (Builtin.len_ #[t] ty #[a.eval x]) (.int .i64 len) ?_ (Mo _ _ _) ?_
     ·rw [hv];simp [Builtin.len_,run_underlying hu,goInt]
     ·simp [execOp,resolve,invoke,builtin]
   ·rename_i e Wr
    cases hn:yP st (mQ (st.ev x)) with
    |none=>rw [hn] at he;cases he
    |some n=>
     rw [hn] at he
     simp only [Ev,Zh,Aa] at he;subst he
     obtain ⟨te,hu,_⟩:=(hT.ty _ _ Wr).desc
     obtain ⟨ad,len,cap,hv,rfl⟩:=yQ h.1 _ _ n (qC (Dn h.2 x)) hn
     refine val (Builtin.len_ #[t] ty #[a.eval x]) (.int .i64 len) ?_ (Mo _ _ _) ?_
     ·rw [hv];simp [Builtin.len_,run_underlying hu,goInt]
     ·simp [execOp,resolve,invoke,builtin]
   ·rename_i Wr
    cases hn:HB (st.ev x) with
    |none=>rw [hn] at he;cases he
    |some n=>
     rw [hn] at he
     simp only [Ev,Zh,Aa] at he;subst he
     have hu:P.underlying t=some .string:=(hT.ty _ _ Wr).desc
     obtain ⟨s,hv,rfl⟩:=JJ _ _ n (Dn h.2 x) hn
     refine val (Builtin.len_ #[t] ty #[a.eval x]) (.int .i64 s.size) ?_ (Mo _ _ _) ?_
     ·rw [hv];simp [Builtin.len_,run_underlying hu,goInt]
     ·simp [execOp,resolve,invoke,builtin]
   ·cases he
  ·cases he
 ·
  rename_i args ts
  obtain ⟨v,h1,h2⟩:=pI (P:=P) h false args.toList av ts ty he
  rw [show (args.toList.map a.eval).toArray=args.map a.eval from by apply Oo;simp] at h1
  refine val (Builtin.min_ ts ty (args.map a.eval)) v (by simpa only [Cy,Sl,Qf] using h1) h2 ?_
  simp [execOp,resolve,invoke,builtin]
 ·
  rename_i args ts
  obtain ⟨v,h1,h2⟩:=pI (P:=P) h true args.toList av ts ty he
  rw [show (args.toList.map a.eval).toArray=args.map a.eval from by apply Oo;simp] at h1
  refine val (Builtin.max_ ts ty (args.map a.eval)) v (by simpa only [Cy,Sl,Qf] using h1) h2 ?_
  simp [execOp,resolve,invoke,builtin]
 ·cases he
end
end Go.Proofs.Ytkkdpknjohcekaa
