/-
  Part 9 of the proof that the statement FnTwoPhase holds.
-/
import Derived.Test.YtkkdpknjohcekaaCFTwoPhase07
import Derived.Laws.BytesString
namespace Go.Proofs.Ytkkdpknjohcekaa
open Go.RowKit
section
variable {P:Program} {T:Tab} {X:Ctx} {w w':World} {π:Pi} {H:List (Nat×OB)}
theorem Dc.Jh {S S':Nat->Prop} {τ:Ty} {v:Value} {x:τ.den} (h:Dc w S τ v x) (hS: ∀k,k<w.heap.size->S' k->S k):Dc w S' τ v x:=
 let ⟨cs,hc,hv⟩:=h
 ⟨cs,Cells.Fz (Aq _) (λ_ _ _=>rfl) hS τ cs x hc,hv⟩
theorem Cz.Jh {S S':Nat->Prop} {τ:Ty} {vs:List Value} {x:τ.den} (h:Cz w S τ vs x) (hS: ∀k,k<w.heap.size->S' k->S k):Cz w S' τ vs x:=
 Cz.Fz ⟨Aq _,λ_ _ _=>rfl⟩ hS τ vs x h
theorem Cz.flat {S S':Nat->Prop} : ∀(τ:Ty) (vs:List Value) (x:τ.den),τ.flat=true->Cz w S τ vs x->Cz w S' τ vs x
 | .pair a r,[],x,_,h=>h
 | .pair a r,v::vs,x,hf,h=>by
  simp only [Ty.flat,Aj] at hf
  exact ⟨h.1.flat hf.1,Cz.flat r vs x.2 hf.2 h.2⟩
 | .unit,[],_,_,_=>trivial
 | .unit,_::_,_,_,h=>h
 | .int _,_,_,_,h=>by simp [Cz] at h
 | .bool,_,_,_,h=>by simp [Cz] at h
 | .str,_,_,_,h=>by simp [Cz] at h
 | .slice _,_,_,_,h=>by simp [Cz] at h
 | .ptr _,_,_,_,h=>by simp [Cz] at h
 | .oslice _,_,_,_,h=>by simp [Cz] at h
 | .optr _,_,_,_,h=>by simp [Cz] at h
 | .smap _,_,_,_,h=>by simp [Cz] at h
 | .clo _ _,_,_,_,h=>by simp [Cz] at h
theorem dt {fr:Bool} {τ Ox:Ty} {x:Ox.den} {f:Bool} {y:τ.den} {v:Value} (h:iK fr τ Ox x=some (f,y)) (hc:Dc w (Df X.w0.heap.size X.Sc π fr) Ox v x):
  Cells w (Df X.w0.heap.size X.Sc π f) τ [v] y:=by
 unfold iK at h
 split at h
 ·split at h
  ·rename_i e e' _ ZJ
   subst ZJ
   simp only [Aa,Ag] at h
   obtain ⟨rfl,rfl⟩:=h
   have h1:=Dc.Sj rfl hc
   simp only [Cells] at h1⊢
   rcases h1 with ⟨rfl,c,h1⟩|⟨xs,ad,len,cap,rfl,h1,h2,h3,h4⟩
   ·exact ⟨none,0,c,h1,rfl,Kr _, .inl rfl⟩
   ·exact ⟨_,len,cap,h1,h2,h3,h4.imp id λ⟨g,o,ha,h4⟩=>⟨g,o,by rw [ha],h4⟩⟩
  ·cases h
 ·split at h
  ·rename_i a a' _ haa
   subst haa
   simp only [Aa,Ag] at h
   obtain ⟨rfl,rfl⟩:=h
   have h1:=Dc.Sj rfl hc
   simp only [Cells] at h1⊢
   obtain ⟨g,o,h2⟩:=h1
   exact .inr ⟨_,g,o,rfl,h2⟩
  ·cases h
 ·cases h
theorem jT {st:St} (τ:Ty) (c:AC) (v:Value) (fr:Bool) (x:τ.den) (Ue:τ.Ar=false) (hs:c.settled=true) (hc:Hu X w π st.heap c v)
  (hv:Ee st τ c=some (fr,x)):Cells w (Df X.w0.heap.size X.Sc π fr) τ [v] x:=by
 cases c with
 |data Wm Ox y=>
  rw [Oi] at hv
  split at hv
  ·rename_i ht;subst ht
   simp only [Aa,Ag] at hv
   obtain ⟨rfl,rfl⟩:=hv
   have h1:=Dc.Sj Ue hc
   cases hf:Ox.flat with
   |true=>exact Cells.flat Ox _ _ hf h1
   |false=>rw [ij];exact h1
  ·exact dt hv hc
 |Mj=>
  cases τ with
  |slice e=>
   simp only [Ee,Aa,Ag] at hv
   obtain ⟨_,rfl⟩:=hv
   exact ⟨none,0,0,by rw [show v=_ from hc],rfl,Aq _, .inl rfl⟩
  |oslice e=>
   simp only [Ee,Aa,Ag] at hv
   obtain ⟨_,rfl⟩:=hv
   exact .inl ⟨rfl,0,by rw [show v=_ from hc]⟩
  |_=>simp [Ee] at hv
 |Wa=>
  cases τ with
  |optr e=>
   simp only [Ee,Aa,Ag] at hv
   obtain ⟨_,rfl⟩:=hv
   exact .inl ⟨rfl,by rw [show v=_ from hc]⟩
  |_=>simp [Ee] at hv
 |_=>simp [AC.settled] at hs
theorem Cells.and_left {f1 f2:Bool} {τ:Ty} {cs:List Value} {x:τ.den} (h:Cells w (Df X.w0.heap.size X.Sc π f1) τ cs x):Cells w (Df X.w0.heap.size X.Sc π (f1&&f2)) τ cs x:=
 Cells.Fz (Aq _) (λ_ _ _=>rfl) (λk _ hk=>by
  rcases hk with h1|h1|⟨h1,h2⟩
  ·exact .inl h1
  ·exact .inr (.inl h1)
  ·simp at h1;exact .inr (.inr ⟨h1.1,h2⟩)) τ cs x h
theorem Cells.and_right {f1 f2:Bool} {τ:Ty} {cs:List Value} {x:τ.den} (h:Cells w (Df X.w0.heap.size X.Sc π f2) τ cs x):Cells w (Df X.w0.heap.size X.Sc π (f1&&f2)) τ cs x:=
 Cells.Fz (Aq _) (λ_ _ _=>rfl) (λk _ hk=>by
  rcases hk with h1|h1|⟨h1,h2⟩
  ·exact .inl h1
  ·exact .inr (.inl h1)
  ·simp at h1;exact .inr (.inr ⟨h1.2,h2⟩)) τ cs x h
theorem Xi {st:St} : ∀(τ:Ty) (cs:List AC) (us:List Value) (fr:Bool) (x:τ.den),cs.all (·.settled)=true->Gh X w π st.heap cs us->
  Fq st τ cs=some (fr,x)->Cells w (Df X.w0.heap.size X.Sc π fr) τ us x:=by
 have one: ∀(τ:Ty) (cs:List AC) (us:List Value) (fr:Bool) (x:τ.den),τ.Ar=false->cs.all (·.settled)=true->Gh X w π st.heap cs us->
   Fq st τ cs=some (fr,x)->Cells w (Df X.w0.heap.size X.Sc π fr) τ us x:=by
  intro τ cs us fr x Ue hs hr hv
  rw [Ul Ue] at hv
  split at hv
  ·rename_i c
   obtain ⟨u,hu,_,hc⟩:=hr.2 0 c rfl
   have hl:us.length=1:=hr.1
   obtain ⟨u',rfl⟩:=Es.1 hl
   simp at hu;subst hu
   exact jT τ c _ fr x Ue (by simpa using hs) hc hv
  ·cases hv
 intro τ
 induction τ with
 |unit=>
  intro cs us fr x hs hr hv
  cases cs with
  |nil=>have:us= []:=Cp hr.1;exact this
  |cons c cs=>simp [Fq] at hv
 |pair a r il ie=>
  intro cs us fr x hs hr hv
  simp only [Fq] at hv
  split at hv
  ·rename_i f1 y f2 z h1 h2
   simp only [Aa,Ag] at hv
   obtain ⟨rfl,rfl⟩:=hv
   have hr1:Gh X w π st.heap (cs.take a.size) (us.take a.size):=by have:=ae hr 0 a.size;simpa using this
   have hr2:Gh X w π st.heap (cs.drop a.size) (us.drop a.size):=
    ⟨by simp [hr.1],λi c hc=>by
     rw [Cs] at hc⊢
     exact hr.2 _ c hc⟩
   have kS:(cs.take a.size).all (·.settled)=true:=Bg.2 λc hc=>Bg.1 hs c (Gf hc)
   have vJ:(cs.drop a.size).all (·.settled)=true:=Bg.2 λc hc=>Bg.1 hs c (dQ hc)
   exact ⟨us.take a.size,us.drop a.size,(Ka _ _).symm,(il _ _ _ _ kS hr1 h1).and_left,(ie _ _ _ _ vJ hr2 h2).and_right⟩
  ·cases hv
 |_=>exact λcs us fr x hs hr hv=>one _ cs us fr x rfl hs hr hv
theorem Qp {st:St} {τ:Ty} {c:AC} (h:c.settled=true):Kj st τ c=Ee st τ c:=by
 cases c<;>simp [AC.settled] at h<;>cases τ<;>rfl
theorem Ng {st:St} (τ:Ty) (c:AV) (v:Value) (fr:Bool) (x:τ.den) (hs:c.settled=true) (hc:Bt X w π st.heap c v)
  (hv:Ge st τ c=some (fr,x)):Dc w (Df X.w0.heap.size X.Sc π fr) τ v x:=by
 have Ot: ∀c:AC,c.settled=true->Hu X w π st.heap c v->(if τ.Ar then none else Kj st τ c)=some (fr,x)->Dc w (Df X.w0.heap.size X.Sc π fr) τ v x:=by
  intro c hs hc hv
  split at hv
  ·cases hv
  ·rename_i Ue
   simp only [En] at Ue
   rw [Qp hs] at hv
   exact Dc.oa Ue (jT τ c v fr x Ue hs hc hv)
 cases c with
 | «at»c=>
  cases c with
  |data Wm Ox y=>
   rw [dk] at hv
   split at hv
   ·rename_i ht;subst ht
    simp only [Aa,Ag] at hv
    obtain ⟨rfl,rfl⟩:=hv
    cases hf:Ox.flat with
    |true=>exact Dc.flat hf hc
    |false=>rw [ij];exact hc
   ·exact Ot (.data Wm Ox y) hs hc hv
  |Mj=>exact Ot .Mj hs hc hv
  |Wa=>exact Ot .Wa hs hc hv
  |undef=>simp [AV.settled,AC.settled] at hs
  |skip=>simp [AV.settled,AC.settled] at hs
  |own l off len=>simp [AV.settled,AC.settled] at hs
  |Ho l i=>simp [AV.settled,AC.settled] at hs
  |Kp l i=>simp [AV.settled,AC.settled] at hs
  |clo f Ew=>simp [AV.settled,AC.settled] at hs
  |Ky l=>simp [AV.settled,AC.settled] at hs
  |sub l i c=>simp [AV.settled,AC.settled] at hs
  |Km l i c=>simp [AV.settled,AC.settled] at hs
 |agg cs=>
  simp only [Ge] at hv
  split at hv
  ·rename_i Ue
   obtain ⟨us,rfl,hr⟩:=hc
   exact ⟨us,Xi τ cs us fr x hs hr hv,by simp [Ci,Ue]⟩
  ·cases hv
 |bB Wm Ox y=>simp [Ge] at hv
 |Nd l=>simp [Ge] at hv
theorem eU {st:St} : ∀(τ:Ty) (cs:List AV) (vs:List Value) (fr:Bool) (x:τ.den),cs.length=vs.length->cs.all (·.settled)=true->
  (∀(i:Nat) c v,cs[i]?=some c->vs[i]?=some v->Bt X w π st.heap c v)->El st τ cs=some (fr,x)->Cz w (Df X.w0.heap.size X.Sc π false) τ vs x
 | .unit,[],vs,fr,x,hl,hs,hr,hv=>by
  have:vs= []:=Cp hl.symm
  subst this;trivial
 | .unit,_::_,vs,fr,x,hl,hs,hr,hv=>by simp [El] at hv
 | .pair a r,[],vs,fr,x,hl,hs,hr,hv=>by simp [El] at hv
 | .pair a r,c::cs,[],fr,x,hl,hs,hr,hv=>by simp at hl
 | .pair a r,c::cs,v::vs,fr,x,hl,hs,hr,hv=>by
  simp only [El] at hv
  split at hv
  ·rename_i f1 y f2 z h1 h2
   simp only [Aa,Ag] at hv
   obtain ⟨rfl,rfl⟩:=hv
   simp only [Jw,Aj] at hs
   exact ⟨(Ng a c v f1 y hs.1 (hr 0 c v rfl rfl) h1).Jh (λk _ hk=>by
     rcases hk with h|h|⟨h,_⟩
     ·exact .inl h
     ·exact .inr (.inl h)
     ·cases h),
    eU r cs vs f2 z (by simpa using hl) hs.2 (λi c' v' hc xy=>hr (i+1) c' v' hc xy) h2⟩
  ·cases hv
 | .int _,cs,vs,fr,x,hl,hs,hr,hv=>by cases cs<;>simp [El] at hv
 | .bool,cs,vs,fr,x,hl,hs,hr,hv=>by cases cs<;>simp [El] at hv
 | .str,cs,vs,fr,x,hl,hs,hr,hv=>by cases cs<;>simp [El] at hv
 | .slice _,cs,vs,fr,x,hl,hs,hr,hv=>by cases cs<;>simp [El] at hv
 | .ptr _,cs,vs,fr,x,hl,hs,hr,hv=>by cases cs<;>simp [El] at hv
 | .oslice _,cs,vs,fr,x,hl,hs,hr,hv=>by cases cs<;>simp [El] at hv
 | .optr _,cs,vs,fr,x,hl,hs,hr,hv=>by cases cs<;>simp [El] at hv
 | .smap _,cs,vs,fr,x,hl,hs,hr,hv=>by cases cs<;>simp [El] at hv
 | .clo _ _,cs,vs,fr,x,hl,hs,hr,hv=>by cases cs<;>simp [El] at hv
theorem jt {st:St} {a:Act} (h:Bm X π st a w) (args:List Operand) (i:Nat) (c:AV) (v:Value) (hc:(args.map st.ev)[i]?=some c) (hv:(args.map a.eval)[i]?=some v):Bt X w π st.heap c v:=by
 rw [Fv] at hc hv
 cases hi:args[i]? with
 |none=>rw [hi] at hc;cases hc
 |some o=>
  rw [hi] at hc hv
  simp only [An,Aa] at hc hv
  subst hc;subst hv
  exact Eg h.2 o
theorem aT {Γ:Env} (Pl:Li P Γ) {st:St} {a:Act} (h:Bm X π st a w) (f:FuncId) (cs:List AV) (vs:List Value) (hlen:cs.length=vs.length)
  (Ahm: ∀(i:Nat) c v,cs[i]?=some c->vs[i]?=some v->Bt X w π st.heap c v) (av:AV) (he:Pj Γ st f cs=some av):
  (∀vs w,(callFunc f vs).run P w= .ok (.enter f vs) w)/\
  Calls P f vs.toArray w (λe rh=> ∃v,e= .returned v/\Below w.heap.size w rh/\Bt X rh π st.heap av v):=by
 unfold Pj at he
 split at he
 ·rename_i s hs
  have snd:Sound P f s:=Pl f _ hs
  refine ⟨snd.enter,?_⟩
  split at he
  ·rename_i Kh
   split at he
   ·cases he
   ·rename_i tb x hx
    cases hy:s.fn x with
    |none=>rw [hy] at he;cases he
    |some y=>
     rw [hy] at he
     simp only [An,Aa] at he
     have rM: ∀(S:Nat->Prop),(∀k,S k->k<w.heap.size)->Cz w S s.arg vs x->(s.fresh=true\/s.res.flat=true\/ ∀k,Df X.w0.heap.size X.Sc π false k->S k)->
       Calls P f vs.toArray w (λe rh=> ∃v,e= .returned v/\Below w.heap.size w rh/\Bt X rh π st.heap av v):=by
      intro S Asu Rh Av2
      refine (snd.calls w S _ x y Asu Rh hy).mono ?_
      rintro e rh ⟨v,rfl,hb,hr⟩
      refine ⟨v,rfl,hb,?_⟩
      have hA:s.res.flat=true\/ ∀k,k<rh.heap.size->Df X.w0.heap.size X.Sc π (s.fresh||s.res.flat) k->(S k\/(s.fresh=true/\k<w.heap.size)):=by
       cases hf:s.res.flat with
       |true=>exact .inl rfl
       |false=>
        right
        intro k _ hk
        cases zi:s.fresh with
        |true=>
         right
         refine ⟨rfl,?_⟩
         rcases hk with ⟨l,r,hl,hg⟩|hk|⟨_,hk⟩
         ·exact (h.1.own ⟨l,r,hl,hg⟩).1
         ·have:=h.1.sc k hk;have:=h.1.below.size;omega
         ·have:=h.1.below.size;omega
        |false=>
         left
         have mU:Df X.w0.heap.size X.Sc π false k:=by simpa [zi,hf] using hk
         rcases Av2 with h1|h1|h1
         ·rw [zi] at h1;cases h1
         ·rw [hf] at h1;cases h1
         ·exact h1 k mU
      unfold lV at hr
      subst he
      split
      ·rename_i hm
       rw [Ab hm] at hr
       obtain ⟨us,rfl,hr⟩:=hr
       refine ⟨us,rfl,?_⟩
       rcases hA with hf|hA
       ·exact Cz.flat _ _ _ hf hr
       ·exact hr.Jh hA
      ·rename_i hm
       rw [Ai hm] at hr
       rcases hA with hf|hA
       ·exact Dc.flat hf hr
       ·exact hr.Jh hA
     cases hff:(s.fresh||s.res.flat) with
     |true=>
      refine rM (λ_=>False) (λ_ h=>h.elim) (bk h.1 s.arg _ _ tb x hlen Ahm hx ⟨λ_ h=>h.elim, .inr λ_ h=>h.elim⟩) ?_
      simp only [Ks] at hff
      rcases hff with h1|h1
      ·exact .inl h1
      ·exact .inr (.inl h1)
     |false=>
      rw [hff,bD] at Kh
      refine rM (Df X.w0.heap.size X.Sc π false) (λk hk=>?_) (eU s.arg _ _ tb x hlen Kh Ahm hx) (.inr (.inr λ_ hk=>hk))
      rcases hk with ⟨l,r,hl,hg⟩|hk|⟨hk,_⟩
      ·exact (h.1.own ⟨l,r,hl,hg⟩).1
      ·have:=h.1.sc k hk;have:=h.1.below.size;omega
      ·cases hk
  ·cases he
 ·cases he
theorem sO {fr:Bool} : ∀(τ:Ty) (us:List Value) (x:τ.den),(∀a r,τ≠ .pair a r->True)->Cells w (Df X.w0.heap.size X.Sc π fr) τ us x->τ.chain=true->
  (bK fr τ x).length=us.length/\ ∀(i:Nat) c v,(bK fr τ x)[i]?=some c->us[i]?=some v->Bt X w π H c v
 | .unit,us,x,_,hc,_=>by
  simp only [Cells] at hc
  subst hc
  exact ⟨rfl,λi c v h=>by simp [bK] at h⟩
 | .pair a r,us,x,_,hc,hch=>by
  simp only [Cells] at hc
  simp only [Ty.chain,Aj,Fg] at hch
  obtain ⟨c1,c2,rfl,h1,h2⟩:=hc
  have hl:=Cells.len a c1 x.1 h1
  have h3:a.size=1:=by cases a<;>simp_all [Ty.Ar,Ty.size]
  rw [h3] at hl
  obtain ⟨u,rfl⟩:=Es.1 hl
  obtain ⟨h4,h5⟩:=sO r c2 x.2 (λ_ _ _=>trivial) h2 hch.2
  refine ⟨by simp [bK,h4],λi c v hc hv=>?_⟩
  rcases i with _|i
  ·simp only [bK,Bz,Aa] at hc
   simp only [List.singleton_append,Bz,Aa] at hv
   subst hc;subst hv
   exact ⟨[u],h1,by simp [Ci,hch.1]⟩
  ·simp only [bK,Kk] at hc
   simp only [List.singleton_append,Kk] at hv
   exact h5 i c v hc hv
 | .int _,_,_,_,_,h=>by simp [Ty.chain] at h
 | .bool,_,_,_,_,h=>by simp [Ty.chain] at h
 | .str,_,_,_,_,h=>by simp [Ty.chain] at h
 | .slice _,_,_,_,_,h=>by simp [Ty.chain] at h
 | .oslice _,_,_,_,_,h=>by simp [Ty.chain] at h
 | .ptr _,_,_,_,_,h=>by simp [Ty.chain] at h
 | .optr _,_,_,_,_,h=>by simp [Ty.chain] at h
 | .smap _,_,_,_,_,h=>by simp [Ty.chain] at h
 | .clo _ _,_,_,_,_,h=>by simp [Ty.chain] at h
theorem iy {cs ds:List AV} {vs us:List Value} (hl:cs.length=vs.length) (h1: ∀(i:Nat) c v,cs[i]?=some c->vs[i]?=some v->Bt X w π H c v)
  (h2: ∀(i:Nat) c v,ds[i]?=some c->us[i]?=some v->Bt X w π H c v) (i:Nat) (c:AV) (v:Value) (hc:(cs++ds)[i]?=some c) (hv:(vs++us)[i]?=some v):Bt X w π H c v:=by
 by_cases hi:i<cs.length
 ·rw [Au hi] at hc
  rw [Au (by omega)] at hv
  exact h1 i c v hc hv
 ·rw [At (by omega)] at hc
  rw [At (by omega)] at hv
  rw [hl] at hc
  exact h2 _ c v hc hv
theorem vO {Γ:Env} (Pl:Li P Γ) {st:St} {a:Act} (h:Bm X π st a w) (c:AV) (v:Value) (hv:Bt X w π st.heap c v) (args:List Operand) (av:AV) (he:Yg Γ st c (args.map st.ev)=some av):
  ∃f bs us,v= .func (.func f) (bs:List Value).toArray (us:List Value).toArray/\(∀vs w,(callFunc f vs).run P w= .ok (.enter f vs) w)/\
  Calls P f (bs++args.map a.eval++us).toArray w (λe rh=> ∃v,e= .returned v/\Below w.heap.size w rh/\Bt X rh π st.heap av v):=by
 unfold Yg at he
 split at he
 ·rename_i fr f τ x
  split at he
  ·rename_i hch
   obtain ⟨cs,hc,rfl⟩:=hv
   simp only [Cells] at hc
   obtain ⟨us,rfl,hc⟩:=hc
   obtain ⟨h1,h2⟩:=sO (H:=st.heap) τ us x (λ_ _ _=>trivial) hc hch
   by_cases hf:f<1000000000
   ·rw [Ab hf] at he
    have:=aT Pl h f _ (args.map a.eval++us) (by simp [h1]) (iy (by simp) (jt h args) h2) av he
    exact ⟨f,[],us,by simp [Ci,Ty.Ar,iG hf],by simpa using this⟩
   ·rw [Ai hf] at he
    have:=aT Pl h (f-1000000000) _ (us++args.map a.eval) (by simp [h1]) (iy h1 h2 (jt h args)) av he
    exact ⟨f-1000000000,us,[],by simp [Ci,Ty.Ar,fk hf],by simpa using this⟩
  ·cases he
 ·rename_i f Ew
  obtain ⟨us,rfl,h1,h2⟩:=hv
  have:=aT Pl h f _ (args.map a.eval++us) (by simp [h1]) (iy (by simp) (jt h args) (λi c v hc hv=>by
   rw [Fv] at hc
   cases hi:Ew[i]? with
   |none=>rw [hi] at hc;cases hc
   |some p=>
    rw [hi] at hc
    simp only [An,Aa] at hc
    subst hc
    obtain ⟨r,tid,vs,h3,h4,h5⟩:=h2 i p hi
    rw [h5] at hv
    simp only [Aa] at hv
    subst hv
    exact ⟨r,tid,vs,h3,h4,rfl⟩)) av he
  exact ⟨f,[],us,rfl,by simpa using this⟩
 ·cases he
theorem AS (ρ:Operand->Value) (t:Nat) (f:FuncId) (bs us:List Value) (args:Array Operand) (ts:Array TypeId) (dst:Option Tmp) (ty:TypeId) (pos:String) (af:Array Edge) (gd:Option (Nat×Bool))
  (hρ:ρ (.tmp t)= .func (.func f) bs.toArray us.toArray) (hc: ∀vs w,(callFunc f vs).run P w= .ok (.enter f vs) w):
  (execOp ρ ⟨dst, .call {callee:= .value (.tmp t),args:=args,argTypes:=ts},ty,pos,af,gd⟩).run P w= .ok (.enter f (bs++args.toList.map ρ++us).toArray) w:=by
 have:bs.toArray++(args.map ρ)++us.toArray=(bs++args.toList.map ρ++us).toArray:=by apply Pq;simp
 simp [execOp,resolve,Deferred.ofValue,hρ,invoke,hc,this]
theorem sP {st:St} {a:Act} (h:Bm X π st a w): ∀(l:List Operand) (c:List (Nat×Nat)),m9 (l.map st.ev)=some c->
  (l.map a.eval).length=c.length/\ ∀(j:Nat) p,c[j]?=some p-> ∃r tid vs,Ay st.heap p.1=some (.var tid vs)/\π p.1=some r/\(l.map a.eval)[j]?=some (.pointer (some ⟨r.g,p.2,none⟩))
 | [],c,he=>by simp only [List.map_nil,m9,Aa] at he;subst he;exact ⟨rfl,λj p hp=>by simp at hp⟩
 |x::l,c,he=>by
  simp only [Ca] at he
  unfold m9 at he
  split at he
  ·rename_i heq;simp at heq
  ·rename_i k i r heq
   simp only [Ha] at heq
   obtain ⟨h1,rfl⟩:=heq
   cases hr:m9 (l.map st.ev) with
   |none=>rw [hr] at he;cases he
   |some c'=>
    rw [hr] at he
    simp only [An,Aa] at he
    subst he
    obtain ⟨h2,h3⟩:=sP h l c' hr
    have e:=Eg h.2 x
    rw [h1] at e
    obtain ⟨r,tid,vs,h4,h5,h6⟩:=e
    refine ⟨by simpa using h2,λj p hp=>?_⟩
    rcases j with _|j
    ·simp only [Bz,Aa] at hp;subst hp
     exact ⟨r,tid,vs,h4,h5,by rw [Ca,Bz,h6]⟩
    ·exact h3 j p hp
  ·cases he
theorem KI (a b:ByteArray):(a==b)=decide (a=b):=by
 obtain ⟨a⟩:=a;obtain ⟨b⟩:=b
 show ByteArray.beq _ _=_
 unfold ByteArray.beq
 by_cases h:a=b
 ·subst h;simp
 ·rw [Eu (by simpa using h)];simpa using h
theorem iQ (s:ByteArray): ∀(es:List MapEntry) (i:Nat),(∀e∈es,(Tr e.key).isSome=true)->
  ∃r,Instr.findNow .string (.string s) es i=some r/\r.map (·.2)=Rj es s/\(∀j v,r=some (j,v)->i<=j/\(∃e,es[j-i]?=some e/\e.key= .string s)/\ ∀k e,k<j-i->es[k]?=some e->Tr e.key≠some s)
 | [],i,_=>⟨none,rfl,rfl,λj v h=>by cases h⟩
 |e::es,i,h=>by
  have he:=h e (by simp)
  have hk: ∃t,e.key= .string t:=by
   unfold Tr at he
   split at he
   ·exact ⟨_,by assumption⟩
   ·cases he
  obtain ⟨t,hk⟩:=hk
  simp only [Instr.findNow,hk,Instr.sameNow]
  by_cases Pc:s=t
  ·subst Pc
   have hb:(s==s)=true:=by rw [KI];simp
   rw [hb]
   refine ⟨some (i,e.val),rfl,by simp [Rj,hk,Tr],λj v hj=>?_⟩
   simp only [Aa,Ag] at hj
   obtain ⟨rfl,rfl⟩:=hj
   exact ⟨Aq _,⟨e,by simp,hk⟩,λk e h=>by omega⟩
  ·obtain ⟨r,h1,h2,h3⟩:=iQ s es (i+1) λe he=>h e (by simp [he])
   have hb:(s==t)=false:=by rw [KI];simpa using Pc
   rw [hb]
   refine ⟨r,h1,?_,λj v hj=>?_⟩
   ·rw [h2]
    simp only [Rj,hk,Tr]
    rw [Ai (by simpa using λe:t=s=>Pc e.symm)]
   ·obtain ⟨h4,⟨e',h5,h6⟩,h7⟩:=h3 j v hj
    refine ⟨by omega,⟨e',by rw [show j-i=(j-(i+1))+1 by omega,Kk];exact h5,h6⟩,λk e2 hk2 he2=>?_⟩
    rcases k with _|k
    ·simp only [Bz,Aa] at he2
     subst he2
     rw [hk]
     simpa [Tr] using λe:t=s=>Pc e.symm
    ·exact h7 k e2 (by omega) (by simpa using he2)
theorem fW {g:Nat} {es:Array MapEntry} {clock:Nat} (h:w.heap[g]?=some (.map es clock)):(getObj g).run P w= .ok (.map es clock) w:=by simp [getObj,Sem.run,h]
theorem Wh {k:TypeId} (hk:P.underlying k=some .string) (b:Bool) (s:ByteArray) (w:World):(Instr.checkKey b 10000 k (.string s)).run P w= .ok () w:=by
 rw [show (10000:Nat)=9999+1 from rfl]
 unfold Instr.checkKey
 rw [Sem.run_bind,run_underlying hk]
 rfl
theorem sU (hT:Eh P T) {st:St} {a:Act} (h:Bm X π st a w) (t:TypeId) (m k:AV) (ok:Bool) (vm vk:Value) (av:AV) (hm:Bt X w π st.heap m vm) (hk:Bt X w π st.heap k vk)
  (he:fm T st t m k ok=some av): ∃v,(Instr.lookup t vm vk ok).run P w= .ok v w/\Bt X w π st.heap av v:=by
 unfold fm at he
 split at he
 ·rename_i vt fr s ht
  have:=fR hk;subst this
  obtain ⟨kt,et,h1,h2,h3,h4,h5⟩:=hT.mapOf t vt ht
  split at he
  ·rename_i s9 f hv
   simp only [Aa] at he
   have hr:=Zd h.1 (S:= λ_=>False) (.smap vt) m vm s9 f hm hv ⟨λ_ h=>h.elim, .inr λ_ h=>h.elim⟩
   obtain ⟨cs,hc,rfl⟩:=hr
   have TR: ∀y:vt.den,∀u,Cells w (λ_=>False) vt [u] y->Dc w (Df X.w0.heap.size X.Sc π true) vt u y:= λy u hu=>⟨[u],Cells.flat vt [u] y h4 hu,by simp [Ci,h5]⟩
   obtain ⟨inf,hi,Vy,_,tu⟩:=(hT.ty et vt h3).info
   have hzero:(zeroValue et).run P w= .ok (Ci vt (Bx vt)) w:=by simp [zeroValue,typeInfo,hi,tu]
   have hzc:Cells w (λ_=>False) vt [Ci vt (Bx vt)] vt.zero:=by
    cases vt<;>first|(simp [Ty.flat] at h4;done)|(simp [Ty.Ar] at h5;done)|(simp [Ci,Ty.Ar,Bx,Cells,Ty.zero];done)
   have fin: ∀(es:List MapEntry),(∀e∈es,(Tr e.key).isSome=true)->(f s=none->Rj es s=none)->(∀y,f s=some y-> ∃u,Rj es s=some u/\Cells w (λ_=>False) vt [u] y)->
     (∀r,(Instr.findKey kt (.string s) es).run P w= .ok r w-> ∀u,r.map (·.2)=(if (f s).isSome then some u else none)->(r=none->u=Ci vt (Bx vt))->
      (Instr.lookup t (Ci (.smap vt) cs) (.string s) ok).run P w= .ok (if ok then .tuple #[u, .bool (f s).isSome] else u) w)->
     ∃v,(Instr.lookup t (Ci (.smap vt) cs) (.string s) ok).run P w= .ok v w/\Bt X w π st.heap av v:=by
    intro es h6 h7 h8 h9
    obtain ⟨r,qt,lg,_⟩:=iQ s es 0 h6
    have h12:(Instr.findKey kt (.string s) es).run P w= .ok r w:=by
     unfold Instr.findKey
     simp only [Sem.run_bind,run_underlying h2,Result.andThen_ok,qt,Sem.run_pure]
    have: ∃u,r.map (·.2)=(if (f s).isSome then some u else none)/\(r=none->u=Ci vt (Bx vt))/\Cells w (λ_=>False) vt [u] ((f s).getD vt.zero):=by
     cases hf:f s with
     |none=>
      have h13:=h7 hf
      rw [h13] at lg
      exact ⟨Ci vt (Bx vt),by rw [lg];rfl,λ_=>rfl,hzc⟩
     |some y=>
      obtain ⟨u,h13,h14⟩:=h8 y hf
      rw [h13] at lg
      refine ⟨u,by rw [lg];rfl,λ(e:r=none)=>?_,h14⟩
      rw [e] at lg;cases lg
    obtain ⟨u,h13,h14,h15⟩:=this
    have Vz:=h9 r h12 u h13 h14
    cases ok with
    |true=>
     simp only [Oz] at he Vz
     subst he
     exact ⟨_,Vz,[u, .bool (f s).isSome],rfl,TR _ u h15,⟨[_],rfl,rfl⟩,trivial⟩
    |false=>
     simp only [Di,Rt] at he Vz
     subst he
     exact ⟨_,Vz,TR _ u h15⟩
   have hmk: ∀v,Ci (.smap vt) [v]=v:= λv=>by simp [Ci,Ty.Ar]
   have run: ∀(r:Option (Nat×Value)) (u:Value) (b:Bool),r.map (·.2)=(if b then some u else none)->(r=none->u=Ci vt (Bx vt))->
     (∃j,r=some (j,u)/\b=true)\/(r=none/\b=false/\u=Ci vt (Bx vt)):=by
    intro r u b h6 h7
    cases r with
    |none=>cases b<;>simp at h6⊢;exact h7 rfl
    |some p=>cases b<;>simp at h6⊢;subst h6;exact ⟨p.1,rfl⟩
   simp only [Cells] at hc
   rcases hc with ⟨rfl,hf⟩|⟨g,rfl,hg,_,es,clock,h6,h7,h8,h9⟩
   ·refine fin [] (by simp) (λ_=>rfl) (λy hy=>by rw [hf] at hy;cases hy) λr h6 u h7 h8=>?_
    rcases run r u _ h7 h8 with ⟨j,rfl,hb⟩|⟨rfl,hb,rfl⟩
    ·rw [hf] at hb;cases hb
    ·rw [hb,hmk]
     unfold Instr.lookup
     generalize hz:Ci vt (Bx vt)=z at hzero⊢
     simp [run_underlying h1,Wh h2,h6,hzero]
   ·refine fin es.toList h7 (λhn=>h8 s hn) (λy hy=>h9 s y hy) λr qt u lg h12=>?_
    rw [hmk]
    unfold Instr.lookup
    rcases run r u _ lg h12 with ⟨j,rfl,hb⟩|⟨rfl,hb,rfl⟩
    ·rw [hb]
     simp [run_underlying h1,Wh h2,fW h6,qt]
    ·rw [hb]
     generalize hz:Ci vt (Bx vt)=z at hzero⊢
     simp [run_underlying h1,Wh h2,fW h6,qt,hzero]
  ·cases he
 ·cases he
theorem VH (ns:List Int): ∀b:ByteArray,ns.foldl (λr n=>r.push (UInt8.ofNat n.toNat)) b=⟨b.data++(ns.map λn=>UInt8.ofNat n.toNat).toArray⟩:=by
 induction ns with
 |nil=>intro b;simp
 |cons n ns ih=>
  intro b
  rw [Rd,ih]
  simp [ByteArray.push]
theorem KX {s d:TypeId} {v:Value} {xs:List Int} (hT:Eh P T) (hs:T.ty s=some (.slice (.int .u8))) (hd:T.ty d=some .str) (h:Dc w (λ_=>False) (.slice (.int .u8)) v xs):
  (convert s d v).run P w= .ok (.string (bytesOf xs)) w:=by
 obtain ⟨te,h1,h2,h3⟩:=(hT.ty _ _ hs).desc
 have h4:P.underlying te=some (.int .u8):=(hT.ty _ _ h3).desc
 have h5:P.underlying d=some .string:=(hT.ty _ _ hd).desc
 obtain ⟨cs,hc,rfl⟩:=h
 simp only [Cells] at hc
 obtain ⟨a,len,cap,rfl,hlen,tq,LV⟩:=hc
 simp only [Ci,Ty.Ar,Di,Rt,iv]
 rw [run_convert_bytes_string w s d te a len cap h1 h4 h5]
 rcases LV with rfl|⟨g,o,rfl,hg,_,Ly⟩
 ·have:len=0:=hlen
  subst this
  cases a with
  |none=>simp [Conv.bytesToString,bytesOf];rfl
  |some a=>
   rw [run_bytesToString w a 0 cap [] (by simp [loadCells,loadCellsFrom])]
   rfl
 ·rw [run_bytesToString w _ len cap xs (by
   have:=run_loadCells_list (P:=P) w ⟨g,o,none⟩ (xs.map (Value.int .u8)) (λj v hv=>by
    rw [Fv] at hv
    cases hj:xs[j]? with
    |none=>rw [hj] at hv;cases hv
    |some x=>
     rw [hj] at hv
     simp only [An,Aa] at hv
     subst hv
     obtain ⟨es,h6,h7,h8⟩:=Ly j x hj
     have h8:es= [.int .u8 x]:=h8
     subst h8
     rw [Addr.add_lit]
     have:=h7 0 _ rfl
     simpa [Ty.size] using this)
   rw [Ck,<-hlen] at this
   exact this)]
  rw [VH]
  simp [bytesOf]
theorem jw (ρ:Operand->Value) (f:FuncId) (args:Array Operand) (ts:Array TypeId) (dst:Option Tmp) (ty:TypeId) (pos:String) (af:Array Edge) (gd:Option (Nat×Bool))
  (hρ:ρ (.func f)= .func (.func f) #[] #[]) (hc: ∀vs w,(callFunc f vs).run P w= .ok (.enter f vs) w):
  (execOp ρ ⟨dst, .call {callee:= .value (.func f),args:=args,argTypes:=ts},ty,pos,af,gd⟩).run P w= .ok (.enter f (args.map ρ)) w:=by
 simp [execOp,resolve,Deferred.ofValue,hρ,invoke,hc]
theorem yA {fr:Bool} : ∀(τ:Ty) (x:τ.den) (vs:List Value) (i:Nat) (av:AV),Cz w (Df X.w0.heap.size X.Sc π fr) τ vs x->dj fr τ x i=some av->
  ∃v,vs[i]?=some v/\Bt X w π H av v
 | .pair a r,x,[],i,av,h,he=>h.elim
 | .pair a r,x,v::vs,0,av,h,he=>by
  simp only [dj,Aa] at he;subst he
  exact ⟨v,rfl,uw h.1⟩
 | .pair a r,x,v::vs,i+1,av,h,he=>by
  obtain ⟨u,hu,hr⟩:=yA r x.2 vs i av h.2 he
  exact ⟨u,hu,hr⟩
 | .int _,_,_,i,_,_,he=>by cases i<;>simp [dj] at he
 | .bool,_,_,i,_,_,he=>by cases i<;>simp [dj] at he
 | .str,_,_,i,_,_,he=>by cases i<;>simp [dj] at he
 | .slice _,_,_,i,_,_,he=>by cases i<;>simp [dj] at he
 | .ptr _,_,_,i,_,_,he=>by cases i<;>simp [dj] at he
 | .oslice _,_,_,i,_,_,he=>by cases i<;>simp [dj] at he
 | .optr _,_,_,i,_,_,he=>by cases i<;>simp [dj] at he
 | .smap _,_,_,i,_,_,he=>by cases i<;>simp [dj] at he
 | .clo _ _,_,_,i,_,_,he=>by cases i<;>simp [dj] at he
 | .unit,_,_,i,_,_,he=>by cases i<;>simp [dj] at he
theorem UE (x:AV) (vx:Value) (n:Int) (hx:Bt X w π H x vx) (h:Aak x=some n): ∃a len cap,vx= .slice a len cap/\n=len:=by
 unfold Aak at h
 split at h
 ·simp only [Aa] at h;subst h
  exact ⟨none,0,0,hx,rfl⟩
 ·simp only [Aa] at h;subst h
  obtain ⟨cs,hc,rfl⟩:=hx
  simp only [Cells] at hc
  obtain ⟨a,len,cap,rfl,hl,_⟩:=hc
  exact ⟨a,len,cap,by simp [Ci,Ty.Ar],by rw [hl]⟩
 ·rename_i l off len
  simp only [Aa] at h;subst h
  obtain ⟨b,sz,n,_,_,_,ho⟩:=hx
  cases hp:π l with
  |none=>rw [hp] at ho;obtain ⟨rfl,_,rfl⟩:=ho;exact ⟨none,0,0,rfl,rfl⟩
  |some r=>rw [hp] at ho;obtain ⟨ad,rfl,_⟩:=ho;exact ⟨some ad,len,_,rfl,rfl⟩
 ·cases h
theorem uj {c:AV} {v:Value} (h:Bt X w π H c v):Bt X w π H (pK c) v:=by
 unfold pK
 split
 ·rename_i fr e x
  obtain ⟨cs,h1,h2⟩:=h
  rcases h1 with ⟨rfl,c,rfl⟩|⟨xs,ad,len,cap,rfl,rfl,h3,h4,h5⟩
  ·exact ⟨_,⟨none,0,c,rfl,rfl,Kr _, .inl rfl⟩,h2⟩
  ·refine ⟨_,⟨some ad,len,cap,rfl,h3,h4,h5.imp id λ⟨g,o,g1,g2⟩=>⟨g,o,by rw [g1],g2⟩⟩,h2⟩
 ·exact h
theorem FW {st:St} (h:Nk X w π st.heap) (x:AV) (vx:Value) (n:Int) (hx:Bt X w π st.heap x vx) (hn:FV st x=some n): ∃a len cap,vx= .slice a len cap/\n=len:=by
 unfold FV at hn
 split at hn
 ·rename_i l i c
  split at hn
  ·rename_i e te rows kp hl
   simp only [Aa] at hn;subst hn
   unfold St.at at hl
   obtain ⟨r,b,sz,m,g1,g0,g2,g3,⟨g4,_⟩,g5⟩:=hx
   rw [hl] at g1;cases g1
   simp only [OB.gJ,Aa,Ag] at g0
   obtain ⟨rfl,rfl⟩:=g0
   have kO:c=0:=by omega
   subst kO
   rw [Fw,Ed] at g5
   obtain ⟨u,R,k1,k2,k3⟩:=nP h hl g2 g3 (by simp)
   rw [g5] at k1
   have hu:=Bd k1
   subst hu
   cases R with
   |none=>obtain ⟨rfl,_,hh⟩:=k2;exact ⟨none,0,0,rfl,by rw [hh]⟩
   |some q=>obtain ⟨ad,rfl,_⟩:=k2;exact ⟨some ad,_,_,rfl,rfl⟩
  ·cases hn
 ·exact UE x vx n hx hn
theorem UF (x:AV) (vx:Value) (n:Int) (hx:Bt X w π H x vx) (h:RM x=some n): ∃s,vx= .string s/\n=s.size:=by
 unfold RM at h
 split at h
 ·simp only [Aa] at h;subst h
  exact ⟨_,fR hx,rfl⟩
 ·cases h
theorem sV {st:St} {a:Act} (h:Bm X π st a w) (mx:Bool) (args:List Operand) (av:AV) (ts:Array TypeId) (ty:TypeId) (he:z9 mx (args.map st.ev)=some av):
  ∃v,(if mx then Builtin.max_ ts ty (args.map a.eval).toArray else Builtin.min_ ts ty (args.map a.eval).toArray).run P w= .ok v w/\Bt X w π st.heap av v:=by
 unfold z9 at he
 split at he
 ·rename_i k n k' m heq
  cases args with
  |nil=>simp at heq
  |cons x r=>
   cases r with
   |nil=>simp at heq
   |cons y r=>
    simp only [Ca,Ha,List.map_eq_nil_iff] at heq
    obtain ⟨hx,hy,rfl⟩:=heq
    split at he
    ·rename_i hk;subst hk
     simp only [aO,Aa] at he;subst he
     have e1:=Eg h.2 x;rw [hx] at e1
     have e2:=Eg h.2 y;rw [hy] at e2
     have e1:=Qd e1
     have e2:=Qd e2
     refine ⟨_,?_,No _ _ _⟩
     cases mx<;>simp [Builtin.max_,Builtin.min_,Builtin.max2,Builtin.min2,e1,e2]
    ·cases he
 ·cases he
theorem iP {Γ:Env} (hT:Eh P T) (Pl:Li P Γ) {st:St} {a:Act} (h:Bm X π st a w) (o:Oper) (av:AV) (he:Ft T Γ st o=some av):
  PW P X π st.heap w av ((execOp a.eval o).run P w):=by
 obtain ⟨dst,op,ty,pos,af,gd⟩:=o
 have val: ∀(s:Sem Value) (v:Value),s.run P w= .ok v w->Bt X w π st.heap av v->(execOp a.eval ⟨dst,op,ty,pos,af,gd⟩=do pure (.value (<-s)))->
   PW P X π st.heap w av ((execOp a.eval ⟨dst,op,ty,pos,af,gd⟩).run P w):=by
  intro s v h1 h2 h3
  rw [h3,Sem.run_bind,h1]
  exact ⟨rfl,h2⟩
 unfold Ft at he
 split at he
 all_goals (rename_i qy;dsimp only at qy;try subst qy)
 ·
  simp only [Aa] at he;subst he
  exact ⟨rfl,Eg h.2 _⟩
 ·
  simp only [Aa] at he;subst he
  exact ⟨rfl,Eg h.2 _⟩
 ·
  rename_i c x y
  unfold ef at he
  split at he
  ·rename_i fr b hc
   simp only [Aa] at he;subst he
   have e:=Eg h.2 c
   rw [hc] at e
   have e:=ag e
   have:(execOp a.eval ⟨dst, .pick c x y,ty,pos,af,gd⟩).run P w= .ok (.value (if b then a.eval x else a.eval y)) w:=by
    simp [execOp,e,asBool]
   rw [this]
   refine ⟨rfl,?_⟩
   cases b
   ·exact Eg h.2 y
   ·exact Eg h.2 x
  ·cases he
 ·
  obtain ⟨v,h1,h2⟩:=nE hT h _ _ _ _ (Eg h.2 _) he
  exact val _ v h1 h2 rfl
 ·
  rename_i x
  have e:=Eg h.2 x
  split at he
  ·rename_i fr τ y hx
   simp only [Aa] at he;subst he
   rw [hx] at e
   have e':=e
   obtain ⟨cs,hc,hv⟩:=e
   simp only [Cells] at hc
   obtain ⟨g,o,rfl,_⟩:=hc
   simp only [Ci,Ty.Ar,Di,Rt,iv] at hv
   have:(execOp a.eval ⟨dst, .nilCheck x,ty,pos,af,gd⟩).run P w= .ok (.value (a.eval x)) w:=by simp [execOp,hv]
   rw [this];exact ⟨rfl,e'⟩
  ·rename_i fr τ y hx
   simp only [Aa] at he;subst he
   rw [hx] at e
   obtain ⟨cs,hc,hv⟩:=e
   simp only [Cells] at hc
   rcases hc with ⟨h0,_⟩|⟨y',g,o,h0,rfl,hr⟩
   ·cases h0
   simp only [Aa] at h0;subst h0
   simp only [Ci,Ty.Ar,Di,Rt,iv] at hv
   have:(execOp a.eval ⟨dst, .nilCheck x,ty,pos,af,gd⟩).run P w= .ok (.value (a.eval x)) w:=by simp [execOp,hv]
   rw [this];exact ⟨rfl,[_],⟨g,o,rfl,hr⟩,by rw [hv];simp [Ci,Ty.Ar]⟩
  ·rename_i l i hx
   simp only [Aa] at he;subst he
   rw [hx] at e
   have e':=e
   obtain ⟨r,tid,vs,_,_,hv⟩:=e
   have:(execOp a.eval ⟨dst, .nilCheck x,ty,pos,af,gd⟩).run P w= .ok (.value (a.eval x)) w:=by simp [execOp,hv]
   rw [this];exact ⟨rfl,e'⟩
  ·rename_i l i hx
   simp only [Aa] at he;subst he
   rw [hx] at e
   have e':=e
   obtain ⟨r,b,sz,n,_,_,_,_,hv⟩:=e
   have:(execOp a.eval ⟨dst, .nilCheck x,ty,pos,af,gd⟩).run P w= .ok (.value (a.eval x)) w:=by simp [execOp,hv]
   rw [this];exact ⟨rfl,e'⟩
  ·cases he
 ·
  obtain ⟨v,h1,h2⟩:=z7 (P:=P) hT _ _ _ _ _ _ _ _ av (Eg h.2 _) (Eg h.2 _) he
  exact val _ v h1 h2 rfl
 ·
  obtain ⟨v,h1,h2⟩:=LI (P:=P) _ _ _ av (Eg h.2 _) he
  exact val _ v h1 h2 rfl
 ·
  rename_i s t x
  split at he
  ·rename_i σ k fr1 k1 n hs ht hx
   simp only [aO,Aa] at he;subst he
   have e:=Eg h.2 x
   rw [hx] at e
   have e:=Qd e
   have hd:P.underlying t=some (.int k):=(hT.ty _ _ ht).desc
   have Aut:(P.underlying s).isSome=true:=by
    obtain ⟨i,hi,_⟩:=(hT.ty _ _ hs).info
    have:=(hT.ty _ _ hs).desc
    cases σ<;>simp only at this
    all_goals first
     |(rw [this];rfl)
     |(obtain ⟨_,this,_⟩:=this;rw [this];rfl)
     |(obtain ⟨_,this⟩:=this;rw [this];rfl)
     |(obtain ⟨_,_,this⟩:=this;rw [this];rfl)
     |exact this.elim
   exact val _ (.int k (k.wrap n)) (by
    obtain ⟨d,hd0⟩:=Xl.1 Aut
    rw [e];simp [convert,run_underlying hd0,run_underlying hd,Conv.intToInt]) (No _ _ _) rfl
  ·rename_i _ _ hs ht
   cases hv:Ge st (.slice (.int .u8)) (st.ev x) with
   |none=>rw [hv] at he;cases he
   |some p=>
    rw [hv] at he
    simp only [An,Aa] at he;subst he
    have e:=Eg h.2 x
    have hr:=Zd h.1 (S:= λ_=>False) _ _ _ p.1 p.2 e hv ⟨λ_ h=>h.elim, .inr λ_ h=>h.elim⟩
    exact val _ _ (KX hT hs ht hr) (mB _ _) rfl
  ·cases he
 ·
  rename_i t x lo hi mx
  split at he
  ·cases he
  ·rename_i hmx
   simp only [En,Option.isSome_eq_false_iff,Option.isNone_iff_eq_none] at hmx
   subst hmx
   obtain ⟨v,h1,h2⟩:=vR hT h t _ _ lo hi av (Eg h.2 x) he
   exact val _ v h1 h2 rfl
 ·
  obtain ⟨v,h1,h2⟩:=cF hT _ _ _ _ av (Eg h.2 _) he
  exact val _ v (h1 w) h2 rfl
 ·
  obtain ⟨v,h1,h2⟩:=vP hT _ _ _ _ av (Eg h.2 _) he
  exact val _ v h1 h2 rfl
 ·
  obtain ⟨v,h1,h2⟩:=nD hT h _ _ _ _ _ av (uj (Eg h.2 _)) (Eg h.2 _) he
  exact val _ v h1 h2 rfl
 ·
  rename_i t x i
  unfold kc at he
  split at he
  ·rename_i fr1 s s9 k n hx hi
   split at he
   ·rename_i Yl
    split at he
    ·rename_i h0
     cases hb:s[n.toNat]? with
     |none=>rw [hb] at he;cases he
     |some b=>
      rw [hb] at he
      simp only [An,Aa] at he;subst he
      have e1:=Eg h.2 x;rw [hx] at e1
      have e2:=Eg h.2 i;rw [hi] at e2
      have e1:=fR e1
      have e2:=Qd e2
      have hu:P.underlying t=some .string:=(hT.ty _ _ Yl).desc
      have h0':(0:Int)<=n:=h0
      exact val _ (.int .u8 b.toNat) (by
       rw [e1,e2]
       simp only [Instr.index,Sem.run_bind,asIntOf,Sem.run_pure,Result.andThen_ok,run_underlying hu]
       simp only [Ab h0',hb,Sem.run_pure]) (No _ _ _) rfl
    ·cases he
   ·cases he
  ·cases he
 ·
  rename_i x i
  split at he
  ·rename_i fr τ y hx
   have e:=Eg h.2 x
   rw [hx] at e
   obtain ⟨vs,hv,hr⟩:=e
   obtain ⟨u,hu,kR⟩:=yA (H:=st.heap) τ y vs i av hr he
   exact val _ u (by rw [hv];simp [Instr.extract,hu]) kR rfl
  ·rename_i l hx
   have e:=Eg h.2 x
   rw [hx] at e
   obtain ⟨vs,hv,hlen,hr⟩:=e
   unfold Ack at he
   cases hp:l[i]? with
   |none=>rw [hp] at he;cases he
   |some p=>
    rw [hp] at he
    simp only [Fc] at he
    have hi:i<vs.length:=by have:=(Ap.1 hp).1;omega
    have hu:=Ad hi
    have kR:=hr i p _ hp hu
    refine val _ vs[i] (by rw [hv];simp [Instr.extract,hu]) ?_ rfl
    obtain ⟨b,cs⟩:=p
    unfold Amk at he
    split at he
    ·rename_i iL heq
     simp only [Ag] at heq
     obtain ⟨rfl,rfl⟩:=heq
     simp only [Aa] at he;subst he
     exact kR
    ·rename_i c heq
     simp only [Ag] at heq
     obtain ⟨rfl,rfl⟩:=heq
     simp only [Aa] at he;subst he
     exact kR c rfl
    ·cases he
  ·cases he
 ·
  rename_i f args ts
  have:=aT Pl h f (args.toList.map st.ev) (args.toList.map a.eval) (by simp) (jt h _) av he
  rw [jw a.eval f args ts dst ty pos af gd rfl this.1]
  refine ⟨rfl,?_⟩
  have h2:=this.2
  rwa [show (args.toList.map a.eval).toArray=args.map a.eval from by apply Pq;simp] at h2
 ·
  rename_i t args ts
  obtain ⟨f,bs,us,h1,h2,h3⟩:=vO Pl h _ _ (Eg h.2 (.tmp t)) args.toList av he
  rw [AS a.eval t f bs us args ts dst ty pos af gd h1 h2]
  exact ⟨rfl,h3⟩
 ·
  rename_i f first Ew
  split at he
  ·rename_i mj
   replace mj:first= #[]:=by simpa using mj
   cases hc:m9 (Ew.toList.map st.ev) with
   |none=>rw [hc] at he;cases he
   |some c=>
    rw [hc] at he
    simp only [An,Aa] at he;subst he
    obtain ⟨h1,h2⟩:=sP h _ _ hc
    subst mj
    refine val (Instr.makeFunc (.func f) #[] (Ew.map a.eval)) (.func (.func f) #[] (Ew.map a.eval)) rfl ⟨Ew.toList.map a.eval,?_,h1,h2⟩ (by simp [execOp])
    congr 1
    apply Pq;simp
  ·rename_i fr τ x mj
   split at he
   ·rename_i zh
    simp only [Aa] at he;subst he
    simp only [Aj,Fg,Array.isEmpty_iff] at zh
    obtain ⟨An6,Ue⟩:=zh
    subst An6
    obtain ⟨o,rfl,LP⟩: ∃o,first= #[o]/\st.ev o= .at (.data fr τ x):=by
     obtain ⟨l⟩:=first
     cases l with
     |nil=>simp at mj
     |cons o r=>
      cases r with
      |nil=>exact ⟨o,rfl,by simpa using mj⟩
      |cons _ _=>simp at mj
    have hr:=Eg h.2 o
    rw [LP] at hr
    refine val (Instr.makeFunc (.func f) #[a.eval o] #[]) (.func (.func f) #[a.eval o] #[]) rfl ⟨[yV (f+1000000000) [a.eval o]],?_,?_⟩ (by simp [execOp])
    ·simp only [Cells]
     exact ⟨[a.eval o],rfl,[a.eval o],[],rfl,Dc.Sj Ue hr,rfl⟩
    ·rw [fk (by omega)];simp [Ci,Ty.Ar]
   ·cases he
  ·cases he
 ·
  obtain ⟨v,h1,h2⟩:=sU hT h _ _ _ _ _ _ _ (Eg h.2 _) (Eg h.2 _) he
  exact val _ v h1 h2 rfl
 ·
  rename_i args ts
  split at he
  ·rename_i x t Rh tD
   have e1:args= #[x]:=by apply Pq;simpa using Rh
   have e2:ts= #[t]:=by apply Pq;simpa using tD
   subst e1;subst e2
   split at he
   ·rename_i e Yl
    cases hn:FV st (st.ev x) with
    |none=>rw [hn] at he;cases he
    |some n=>
     rw [hn] at he
     simp only [Fc,aO,Aa] at he;subst he
     obtain ⟨te,hu,_⟩:=(hT.ty _ _ Yl).desc
     obtain ⟨ad,len,cap,hv,rfl⟩:=FW h.1 _ _ n (Eg h.2 x) hn
     refine val (Builtin.len_ #[t] ty #[a.eval x]) (.int .i64 len) ?_ (No _ _ _) ?_
     ·rw [hv];simp [Builtin.len_,run_underlying hu,goInt]
     ·simp [execOp,resolve,invoke,builtin]
   ·rename_i e Yl
    cases hn:FV st (pK (st.ev x)) with
    |none=>rw [hn] at he;cases he
    |some n=>
     rw [hn] at he
     simp only [Fc,aO,Aa] at he;subst he
     obtain ⟨te,hu,_⟩:=(hT.ty _ _ Yl).desc
     obtain ⟨ad,len,cap,hv,rfl⟩:=FW h.1 _ _ n (uj (Eg h.2 x)) hn
     refine val (Builtin.len_ #[t] ty #[a.eval x]) (.int .i64 len) ?_ (No _ _ _) ?_
     ·rw [hv];simp [Builtin.len_,run_underlying hu,goInt]
     ·simp [execOp,resolve,invoke,builtin]
   ·rename_i Yl
    cases hn:RM (st.ev x) with
    |none=>rw [hn] at he;cases he
    |some n=>
     rw [hn] at he
     simp only [Fc,aO,Aa] at he;subst he
     have hu:P.underlying t=some .string:=(hT.ty _ _ Yl).desc
     obtain ⟨s,hv,rfl⟩:=UF _ _ n (Eg h.2 x) hn
     refine val (Builtin.len_ #[t] ty #[a.eval x]) (.int .i64 s.size) ?_ (No _ _ _) ?_
     ·rw [hv];simp [Builtin.len_,run_underlying hu,goInt]
     ·simp [execOp,resolve,invoke,builtin]
   ·cases he
  ·cases he
 ·
  rename_i args ts
  obtain ⟨v,h1,h2⟩:=sV (P:=P) h false args.toList av ts ty he
  rw [show (args.toList.map a.eval).toArray=args.map a.eval from by apply Pq;simp] at h1
  refine val (Builtin.min_ ts ty (args.map a.eval)) v (by simpa only [Di,Rt,Oz] using h1) h2 ?_
  simp [execOp,resolve,invoke,builtin]
 ·
  rename_i args ts
  obtain ⟨v,h1,h2⟩:=sV (P:=P) h true args.toList av ts ty he
  rw [show (args.toList.map a.eval).toArray=args.map a.eval from by apply Pq;simp] at h1
  refine val (Builtin.max_ ts ty (args.map a.eval)) v (by simpa only [Di,Rt,Oz] using h1) h2 ?_
  simp [execOp,resolve,invoke,builtin]
 ·cases he
end
end Go.Proofs.Ytkkdpknjohcekaa
