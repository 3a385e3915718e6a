/-
  Part 9 of the proof that the statement FnIterativeDeepening holds.
-/
import Derived.Test.YtkkdpknjohcekaaGreatCFIterativeDeepening07
import Derived.Laws.BytesString
namespace Go.Proofs.YtkkdpknjohcekaaGreat
open Go.RowKit
section
variable {P:Program} {T:Tab} {X:Ctx} {w w':World} {π:Pi} {H:List (Nat×OB)}
theorem Ct.Jr {S S':Nat->Prop} {τ:Ty} {v:Value} {x:τ.den} (h:Ct w S τ v x) (hS: ∀k,k<w.heap.size->S' k->S k):Ct w S' τ v x:=
 let ⟨cs,hc,hv⟩:=h
 ⟨cs,Cells.Ft (Ap _) (λ_ _ _=>rfl) hS τ cs x hc,hv⟩
theorem Cp.Jr {S S':Nat->Prop} {τ:Ty} {vs:List Value} {x:τ.den} (h:Cp w S τ vs x) (hS: ∀k,k<w.heap.size->S' k->S k):Cp w S' τ vs x:=
 Cp.Ft ⟨Ap _,λ_ _ _=>rfl⟩ hS τ vs x h
theorem Cp.flat {S S':Nat->Prop} : ∀(τ:Ty) (vs:List Value) (x:τ.den),τ.flat=true->Cp w S τ vs x->Cp w S' τ vs x
 | .pair a r,[],x,_,h=>h
 | .pair a r,v::vs,x,hf,h=>by
  simp only [Ty.flat,Ag] at hf
  exact ⟨h.1.flat hf.1,Cp.flat r vs x.2 hf.2 h.2⟩
 | .unit,[],_,_,_=>trivial
 | .unit,_::_,_,_,h=>h
 | .int _,_,_,_,h=>by simp [Cp] at h
 | .bool,_,_,_,h=>by simp [Cp] at h
 | .str,_,_,_,h=>by simp [Cp] at h
 | .slice _,_,_,_,h=>by simp [Cp] at h
 | .ptr _,_,_,_,h=>by simp [Cp] at h
 | .oslice _,_,_,_,h=>by simp [Cp] at h
 | .optr _,_,_,_,h=>by simp [Cp] at h
 | .smap _,_,_,_,h=>by simp [Cp] at h
 | .clo _ _,_,_,_,h=>by simp [Cp] at h
theorem di {fr:Bool} {τ Ov:Ty} {x:Ov.den} {f:Bool} {y:τ.den} {v:Value} (h:iA fr τ Ov x=some (f,y)) (hc:Ct w (Cx X.w0.heap.size X.Sc π fr) Ov v x):
  Cells w (Cx X.w0.heap.size X.Sc π f) τ [v] y:=by
 unfold iA at h
 split at h
 ·split at h
  ·rename_i e e' _ XV
   subst XV
   simp only [Aa,Ae] at h
   obtain ⟨rfl,rfl⟩:=h
   have h1:=Ct.So rfl hc
   simp only [Cells] at h1⊢
   rcases h1 with ⟨rfl,c,h1⟩|⟨xs,ad,len,cap,rfl,h1,h2,h3,h4⟩
   ·exact ⟨none,0,c,h1,rfl,Kw _, .inl rfl⟩
   ·exact ⟨_,len,cap,h1,h2,h3,h4.imp id λ⟨g,o,ha,h4⟩=>⟨g,o,by rw [ha],h4⟩⟩
  ·cases h
 ·split at h
  ·rename_i a a' _ haa
   subst haa
   simp only [Aa,Ae] at h
   obtain ⟨rfl,rfl⟩:=h
   have h1:=Ct.So rfl hc
   simp only [Cells] at h1⊢
   obtain ⟨g,o,h2⟩:=h1
   exact .inr ⟨_,g,o,rfl,h2⟩
  ·cases h
 ·cases h
theorem jE {st:St} (τ:Ty) (c:AC) (v:Value) (fr:Bool) (x:τ.den) (Ug:τ.Aq=false) (hs:c.settled=true) (hc:Ia X w π st.heap c v)
  (hv:Dn st τ c=some (fr,x)):Cells w (Cx X.w0.heap.size X.Sc π fr) τ [v] x:=by
 cases c with
 |data Wh Ov y=>
  rw [Of] at hv
  split at hv
  ·rename_i ht;subst ht
   simp only [Aa,Ae] at hv
   obtain ⟨rfl,rfl⟩:=hv
   have h1:=Ct.So Ug hc
   cases hf:Ov.flat with
   |true=>exact Cells.flat Ov _ _ hf h1
   |false=>rw [gV];exact h1
  ·exact di hv hc
 |Mo=>
  cases τ with
  |slice e=>
   simp only [Dn,Aa,Ae] at hv
   obtain ⟨_,rfl⟩:=hv
   exact ⟨none,0,0,by rw [show v=_ from hc],rfl,Ap _, .inl rfl⟩
  |oslice e=>
   simp only [Dn,Aa,Ae] at hv
   obtain ⟨_,rfl⟩:=hv
   exact .inl ⟨rfl,0,by rw [show v=_ from hc]⟩
  |_=>simp [Dn] at hv
 |Vw=>
  cases τ with
  |optr e=>
   simp only [Dn,Aa,Ae] at hv
   obtain ⟨_,rfl⟩:=hv
   exact .inl ⟨rfl,by rw [show v=_ from hc]⟩
  |_=>simp [Dn] at hv
 |_=>simp [AC.settled] at hs
theorem Cells.and_left {f1 f2:Bool} {τ:Ty} {cs:List Value} {x:τ.den} (h:Cells w (Cx X.w0.heap.size X.Sc π f1) τ cs x):Cells w (Cx X.w0.heap.size X.Sc π (f1&&f2)) τ cs x:=
 Cells.Ft (Ap _) (λ_ _ _=>rfl) (λk _ hk=>by
  rcases hk with h1|h1|⟨h1,h2⟩
  ·exact .inl h1
  ·exact .inr (.inl h1)
  ·simp at h1;exact .inr (.inr ⟨h1.1,h2⟩)) τ cs x h
theorem Cells.and_right {f1 f2:Bool} {τ:Ty} {cs:List Value} {x:τ.den} (h:Cells w (Cx X.w0.heap.size X.Sc π f2) τ cs x):Cells w (Cx X.w0.heap.size X.Sc π (f1&&f2)) τ cs x:=
 Cells.Ft (Ap _) (λ_ _ _=>rfl) (λk _ hk=>by
  rcases hk with h1|h1|⟨h1,h2⟩
  ·exact .inl h1
  ·exact .inr (.inl h1)
  ·simp at h1;exact .inr (.inr ⟨h1.2,h2⟩)) τ cs x h
theorem Xd {st:St} : ∀(τ:Ty) (cs:List AC) (us:List Value) (fr:Bool) (x:τ.den),cs.all (·.settled)=true->Gb X w π st.heap cs us->
  Ff st τ cs=some (fr,x)->Cells w (Cx X.w0.heap.size X.Sc π fr) τ us x:=by
 have one: ∀(τ:Ty) (cs:List AC) (us:List Value) (fr:Bool) (x:τ.den),τ.Aq=false->cs.all (·.settled)=true->Gb X w π st.heap cs us->
   Ff st τ cs=some (fr,x)->Cells w (Cx X.w0.heap.size X.Sc π fr) τ us x:=by
  intro τ cs us fr x Ug hs hr hv
  rw [Uk Ug] at hv
  split at hv
  ·rename_i c
   obtain ⟨u,hu,_,hc⟩:=hr.2 0 c rfl
   have hl:us.length=1:=hr.1
   obtain ⟨u',rfl⟩:=Dz.1 hl
   simp at hu;subst hu
   exact jE τ c _ fr x Ug (by simpa using hs) hc hv
  ·cases hv
 intro τ
 induction τ with
 |unit=>
  intro cs us fr x hs hr hv
  cases cs with
  |nil=>have:us= []:=Ch hr.1;exact this
  |cons c cs=>simp [Ff] at hv
 |pair a r gX gT=>
  intro cs us fr x hs hr hv
  simp only [Ff] at hv
  split at hv
  ·rename_i f1 y f2 z h1 h2
   simp only [Aa,Ae] at hv
   obtain ⟨rfl,rfl⟩:=hv
   have SH:Gb X w π st.heap (cs.take a.size) (us.take a.size):=by have:=a6 hr 0 a.size;simpa using this
   have YM:Gb X w π st.heap (cs.drop a.size) (us.drop a.size):=
    ⟨by simp [hr.1],λi c hc=>by
     rw [Da] at hc⊢
     exact hr.2 _ c hc⟩
   have iR:(cs.take a.size).all (·.settled)=true:=Bb.2 λc hc=>Bb.1 hs c (Ey hc)
   have rj:(cs.drop a.size).all (·.settled)=true:=Bb.2 λc hc=>Bb.1 hs c (dJ hc)
   exact ⟨us.take a.size,us.drop a.size,(Kf _ _).symm,(gX _ _ _ _ iR SH h1).and_left,(gT _ _ _ _ rj YM h2).and_right⟩
  ·cases hv
 |_=>exact λcs us fr x hs hr hv=>one _ cs us fr x rfl hs hr hv
theorem Qy {st:St} {τ:Ty} {c:AC} (h:c.settled=true):Ko st τ c=Dn st τ c:=by
 cases c<;>simp [AC.settled] at h<;>cases τ<;>rfl
theorem Nf {st:St} (τ:Ty) (c:AV) (v:Value) (fr:Bool) (x:τ.den) (hs:c.settled=true) (hc:Bm X w π st.heap c v)
  (hv:Fw st τ c=some (fr,x)):Ct w (Cx X.w0.heap.size X.Sc π fr) τ v x:=by
 have Ol: ∀c:AC,c.settled=true->Ia X w π st.heap c v->(if τ.Aq then none else Ko st τ c)=some (fr,x)->Ct w (Cx X.w0.heap.size X.Sc π fr) τ v x:=by
  intro c hs hc hv
  split at hv
  ·cases hv
  ·rename_i Ug
   simp only [Hx] at Ug
   rw [Qy hs] at hv
   exact Ct.nL Ug (jE τ c v fr x Ug hs hc hv)
 cases c with
 | «at»c=>
  cases c with
  |data Wh Ov y=>
   rw [de] at hv
   split at hv
   ·rename_i ht;subst ht
    simp only [Aa,Ae] at hv
    obtain ⟨rfl,rfl⟩:=hv
    cases hf:Ov.flat with
    |true=>exact Ct.flat hf hc
    |false=>rw [gV];exact hc
   ·exact Ol (.data Wh Ov y) hs hc hv
  |Mo=>exact Ol .Mo hs hc hv
  |Vw=>exact Ol .Vw hs hc hv
  |undef=>simp [AV.settled,AC.settled] at hs
  |skip=>simp [AV.settled,AC.settled] at hs
  |own l off len=>simp [AV.settled,AC.settled] at hs
  |Hs l i=>simp [AV.settled,AC.settled] at hs
  |Ku l i=>simp [AV.settled,AC.settled] at hs
  |clo f Ec=>simp [AV.settled,AC.settled] at hs
  |Lb l=>simp [AV.settled,AC.settled] at hs
  |sub l i c=>simp [AV.settled,AC.settled] at hs
  |Kr l i c=>simp [AV.settled,AC.settled] at hs
 |agg cs=>
  simp only [Fw] at hv
  split at hv
  ·rename_i Ug
   obtain ⟨us,rfl,hr⟩:=hc
   exact ⟨us,Xd τ cs us fr x hs hr hv,by simp [By,Ug]⟩
  ·cases hv
 |bw Wh Ov y=>simp [Fw] at hv
 |Nd l=>simp [Fw] at hv
theorem eM {st:St} : ∀(τ:Ty) (cs:List AV) (vs:List Value) (fr:Bool) (x:τ.den),cs.length=vs.length->cs.all (·.settled)=true->
  (∀(i:Nat) c v,cs[i]?=some c->vs[i]?=some v->Bm X w π st.heap c v)->Du st τ cs=some (fr,x)->Cp w (Cx X.w0.heap.size X.Sc π false) τ vs x
 | .unit,[],vs,fr,x,hl,hs,hr,hv=>by
  have:vs= []:=Ch hl.symm
  subst this;trivial
 | .unit,_::_,vs,fr,x,hl,hs,hr,hv=>by simp [Du] at hv
 | .pair a r,[],vs,fr,x,hl,hs,hr,hv=>by simp [Du] at hv
 | .pair a r,c::cs,[],fr,x,hl,hs,hr,hv=>by simp at hl
 | .pair a r,c::cs,v::vs,fr,x,hl,hs,hr,hv=>by
  simp only [Du] at hv
  split at hv
  ·rename_i f1 y f2 z h1 h2
   simp only [Aa,Ae] at hv
   obtain ⟨rfl,rfl⟩:=hv
   simp only [Jg,Ag] at hs
   exact ⟨(Nf a c v f1 y hs.1 (hr 0 c v rfl rfl) h1).Jr (λk _ hk=>by
     rcases hk with h|h|⟨h,_⟩
     ·exact .inl h
     ·exact .inr (.inl h)
     ·cases h),
    eM r cs vs f2 z (by simpa using hl) hs.2 (λi c' v' hc yU=>hr (i+1) c' v' hc yU) h2⟩
  ·cases hv
 | .int _,cs,vs,fr,x,hl,hs,hr,hv=>by cases cs<;>simp [Du] at hv
 | .bool,cs,vs,fr,x,hl,hs,hr,hv=>by cases cs<;>simp [Du] at hv
 | .str,cs,vs,fr,x,hl,hs,hr,hv=>by cases cs<;>simp [Du] at hv
 | .slice _,cs,vs,fr,x,hl,hs,hr,hv=>by cases cs<;>simp [Du] at hv
 | .ptr _,cs,vs,fr,x,hl,hs,hr,hv=>by cases cs<;>simp [Du] at hv
 | .oslice _,cs,vs,fr,x,hl,hs,hr,hv=>by cases cs<;>simp [Du] at hv
 | .optr _,cs,vs,fr,x,hl,hs,hr,hv=>by cases cs<;>simp [Du] at hv
 | .smap _,cs,vs,fr,x,hl,hs,hr,hv=>by cases cs<;>simp [Du] at hv
 | .clo _ _,cs,vs,fr,x,hl,hs,hr,hv=>by cases cs<;>simp [Du] at hv
theorem jh {st:St} {a:Act} (h:Bh X π st a w) (args:List Operand) (i:Nat) (c:AV) (v:Value) (hc:(args.map st.ev)[i]?=some c) (hv:(args.map a.eval)[i]?=some v):Bm X w π st.heap c v:=by
 rw [Fk] at hc hv
 cases hi:args[i]? with
 |none=>rw [hi] at hc;cases hc
 |some o=>
  rw [hi] at hc hv
  simp only [Ak,Aa] at hc hv
  subst hc;subst hv
  exact Dq h.2 o
theorem aP {Γ:Env} (Pk:Lj P Γ) {st:St} {a:Act} (h:Bh X π st a w) (f:FuncId) (cs:List AV) (vs:List Value) (hlen:cs.length=vs.length)
  (Ag0: ∀(i:Nat) c v,cs[i]?=some c->vs[i]?=some v->Bm X w π st.heap c v) (av:AV) (he:Pf Γ st f cs=some av):
  (∀vs w,(callFunc f vs).run P w= .ok (.enter f vs) w)/\
  Calls P f vs.toArray w (λe qQ=> ∃v,e= .returned v/\Below w.heap.size w qQ/\Bm X qQ π st.heap av v):=by
 unfold Pf at he
 split at he
 ·rename_i s hs
  have snd:Sound P f s:=Pk f _ hs
  refine ⟨snd.enter,?_⟩
  split at he
  ·rename_i Ki
   split at he
   ·cases he
   ·rename_i vn x hx
    cases hy:s.fn x with
    |none=>rw [hy] at he;cases he
    |some y=>
     rw [hy] at he
     simp only [Ak,Aa] at he
     have ri: ∀(S:Nat->Prop),(∀k,S k->k<w.heap.size)->Cp w S s.arg vs x->(s.fresh=true\/s.res.flat=true\/ ∀k,Cx X.w0.heap.size X.Sc π false k->S k)->
       Calls P f vs.toArray w (λe qQ=> ∃v,e= .returned v/\Below w.heap.size w qQ/\Bm X qQ π st.heap av v):=by
      intro S Aqo Ro Asq
      refine (snd.calls w S _ x y Aqo Ro hy).mono ?_
      rintro e qQ ⟨v,rfl,hb,hr⟩
      refine ⟨v,rfl,hb,?_⟩
      have hA:s.res.flat=true\/ ∀k,k<qQ.heap.size->Cx X.w0.heap.size X.Sc π (s.fresh||s.res.flat) k->(S k\/(s.fresh=true/\k<w.heap.size)):=by
       cases hf:s.res.flat with
       |true=>exact .inl rfl
       |false=>
        right
        intro k _ hk
        cases yM:s.fresh with
        |true=>
         right
         refine ⟨rfl,?_⟩
         rcases hk with ⟨l,r,hl,hg⟩|hk|⟨_,hk⟩
         ·exact (h.1.own ⟨l,r,hl,hg⟩).1
         ·have:=h.1.sc k hk;have:=h.1.below.size;omega
         ·have:=h.1.below.size;omega
        |false=>
         left
         have qg:Cx X.w0.heap.size X.Sc π false k:=by simpa [yM,hf] using hk
         rcases Asq with h1|h1|h1
         ·rw [yM] at h1;cases h1
         ·rw [hf] at h1;cases h1
         ·exact h1 k qg
      unfold lD at hr
      subst he
      split
      ·rename_i hm
       rw [Ab hm] at hr
       obtain ⟨us,rfl,hr⟩:=hr
       refine ⟨us,rfl,?_⟩
       rcases hA with hf|hA
       ·exact Cp.flat _ _ _ hf hr
       ·exact hr.Jr hA
      ·rename_i hm
       rw [Ai hm] at hr
       rcases hA with hf|hA
       ·exact Ct.flat hf hr
       ·exact hr.Jr hA
     cases hff:(s.fresh||s.res.flat) with
     |true=>
      refine ri (λ_=>False) (λ_ h=>h.elim) (bf h.1 s.arg _ _ vn x hlen Ag0 hx ⟨λ_ h=>h.elim, .inr λ_ h=>h.elim⟩) ?_
      simp only [Mi] at hff
      rcases hff with h1|h1
      ·exact .inl h1
      ·exact .inr (.inl h1)
     |false=>
      rw [hff,Sw] at Ki
      refine ri (Cx X.w0.heap.size X.Sc π false) (λk hk=>?_) (eM s.arg _ _ vn x hlen Ki Ag0 hx) (.inr (.inr λ_ hk=>hk))
      rcases hk with ⟨l,r,hl,hg⟩|hk|⟨hk,_⟩
      ·exact (h.1.own ⟨l,r,hl,hg⟩).1
      ·have:=h.1.sc k hk;have:=h.1.below.size;omega
      ·cases hk
  ·cases he
 ·cases he
theorem sE {fr:Bool} : ∀(τ:Ty) (us:List Value) (x:τ.den),(∀a r,τ≠ .pair a r->True)->Cells w (Cx X.w0.heap.size X.Sc π fr) τ us x->τ.chain=true->
  (bE fr τ x).length=us.length/\ ∀(i:Nat) c v,(bE fr τ x)[i]?=some c->us[i]?=some v->Bm X w π H c v
 | .unit,us,x,_,hc,_=>by
  simp only [Cells] at hc
  subst hc
  exact ⟨rfl,λi c v h=>by simp [bE] at h⟩
 | .pair a r,us,x,_,hc,hch=>by
  simp only [Cells] at hc
  simp only [Ty.chain,Ag,Er] at hch
  obtain ⟨c1,c2,rfl,h1,h2⟩:=hc
  have hl:=Cells.len a c1 x.1 h1
  have h3:a.size=1:=by cases a<;>simp_all [Ty.Aq,Ty.size]
  rw [h3] at hl
  obtain ⟨u,rfl⟩:=Dz.1 hl
  obtain ⟨h4,h5⟩:=sE r c2 x.2 (λ_ _ _=>trivial) h2 hch.2
  refine ⟨by simp [bE,h4],λi c v hc hv=>?_⟩
  rcases i with _|i
  ·simp only [bE,Bq,Aa] at hc
   simp only [List.singleton_append,Bq,Aa] at hv
   subst hc;subst hv
   exact ⟨[u],h1,by simp [By,hch.1]⟩
  ·simp only [bE,Mv] at hc
   simp only [List.singleton_append,Mv] at hv
   exact h5 i c v hc hv
 | .int _,_,_,_,_,h=>by simp [Ty.chain] at h
 | .bool,_,_,_,_,h=>by simp [Ty.chain] at h
 | .str,_,_,_,_,h=>by simp [Ty.chain] at h
 | .slice _,_,_,_,_,h=>by simp [Ty.chain] at h
 | .oslice _,_,_,_,_,h=>by simp [Ty.chain] at h
 | .ptr _,_,_,_,_,h=>by simp [Ty.chain] at h
 | .optr _,_,_,_,_,h=>by simp [Ty.chain] at h
 | .smap _,_,_,_,_,h=>by simp [Ty.chain] at h
 | .clo _ _,_,_,_,_,h=>by simp [Ty.chain] at h
theorem ij {cs ds:List AV} {vs us:List Value} (hl:cs.length=vs.length) (h1: ∀(i:Nat) c v,cs[i]?=some c->vs[i]?=some v->Bm X w π H c v)
  (h2: ∀(i:Nat) c v,ds[i]?=some c->us[i]?=some v->Bm X w π H c v) (i:Nat) (c:AV) (v:Value) (hc:(cs++ds)[i]?=some c) (hv:(vs++us)[i]?=some v):Bm X w π H c v:=by
 by_cases hi:i<cs.length
 ·rw [At hi] at hc
  rw [At (by omega)] at hv
  exact h1 i c v hc hv
 ·rw [As (by omega)] at hc
  rw [As (by omega)] at hv
  rw [hl] at hc
  exact h2 _ c v hc hv
theorem vC {Γ:Env} (Pk:Lj P Γ) {st:St} {a:Act} (h:Bh X π st a w) (c:AV) (v:Value) (hv:Bm X w π st.heap c v) (args:List Operand) (av:AV) (he:Ya Γ st c (args.map st.ev)=some av):
  ∃f bs us,v= .func (.func f) (bs:List Value).toArray (us:List Value).toArray/\(∀vs w,(callFunc f vs).run P w= .ok (.enter f vs) w)/\
  Calls P f (bs++args.map a.eval++us).toArray w (λe qQ=> ∃v,e= .returned v/\Below w.heap.size w qQ/\Bm X qQ π st.heap av v):=by
 unfold Ya at he
 split at he
 ·rename_i fr f τ x
  split at he
  ·rename_i hch
   obtain ⟨cs,hc,rfl⟩:=hv
   simp only [Cells] at hc
   obtain ⟨us,rfl,hc⟩:=hc
   obtain ⟨h1,h2⟩:=sE (H:=st.heap) τ us x (λ_ _ _=>trivial) hc hch
   by_cases hf:f<1000000000
   ·rw [Ab hf] at he
    have:=aP Pk h f _ (args.map a.eval++us) (by simp [h1]) (ij (by simp) (jh h args) h2) av he
    exact ⟨f,[],us,by simp [By,Ty.Aq,ix hf],by simpa using this⟩
   ·rw [Ai hf] at he
    have:=aP Pk h (f-1000000000) _ (us++args.map a.eval) (by simp [h1]) (ij h1 h2 (jh h args)) av he
    exact ⟨f-1000000000,us,[],by simp [By,Ty.Aq,fe hf],by simpa using this⟩
  ·cases he
 ·rename_i f Ec
  obtain ⟨us,rfl,h1,h2⟩:=hv
  have:=aP Pk h f _ (args.map a.eval++us) (by simp [h1]) (ij (by simp) (jh h args) (λi c v hc hv=>by
   rw [Fk] at hc
   cases hi:Ec[i]? with
   |none=>rw [hi] at hc;cases hc
   |some p=>
    rw [hi] at hc
    simp only [Ak,Aa] at hc
    subst hc
    obtain ⟨r,tid,vs,h3,h4,h5⟩:=h2 i p hi
    rw [h5] at hv
    simp only [Aa] at hv
    subst hv
    exact ⟨r,tid,vs,h3,h4,rfl⟩)) av he
  exact ⟨f,[],us,rfl,by simpa using this⟩
 ·cases he
theorem zM (ρ:Operand->Value) (t:Nat) (f:FuncId) (bs us:List Value) (args:Array Operand) (ts:Array TypeId) (dst:Option Tmp) (ty:TypeId) (pos:String) (af:Array Edge) (gd:Option (Nat×Bool))
  (hρ:ρ (.tmp t)= .func (.func f) bs.toArray us.toArray) (hc: ∀vs w,(callFunc f vs).run P w= .ok (.enter f vs) w):
  (execOp ρ ⟨dst, .call {callee:= .value (.tmp t),args:=args,argTypes:=ts},ty,pos,af,gd⟩).run P w= .ok (.enter f (bs++args.toList.map ρ++us).toArray) w:=by
 have:bs.toArray++(args.map ρ)++us.toArray=(bs++args.toList.map ρ++us).toArray:=by apply Pu;simp
 simp [execOp,resolve,Deferred.ofValue,hρ,invoke,hc,this]
theorem sF {st:St} {a:Act} (h:Bh X π st a w): ∀(l:List Operand) (c:List (Nat×Nat)),lO (l.map st.ev)=some c->
  (l.map a.eval).length=c.length/\ ∀(j:Nat) p,c[j]?=some p-> ∃r tid vs,Av st.heap p.1=some (.var tid vs)/\π p.1=some r/\(l.map a.eval)[j]?=some (.pointer (some ⟨r.g,p.2,none⟩))
 | [],c,he=>by simp only [List.map_nil,lO,Aa] at he;subst he;exact ⟨rfl,λj p hp=>by simp at hp⟩
 |x::l,c,he=>by
  simp only [Cc] at he
  unfold lO at he
  split at he
  ·rename_i heq;simp at heq
  ·rename_i k i r heq
   simp only [Hb] at heq
   obtain ⟨h1,rfl⟩:=heq
   cases hr:lO (l.map st.ev) with
   |none=>rw [hr] at he;cases he
   |some c'=>
    rw [hr] at he
    simp only [Ak,Aa] at he
    subst he
    obtain ⟨h2,h3⟩:=sF h l c' hr
    have e:=Dq h.2 x
    rw [h1] at e
    obtain ⟨r,tid,vs,h4,h5,h6⟩:=e
    refine ⟨by simpa using h2,λj p hp=>?_⟩
    rcases j with _|j
    ·simp only [Bq,Aa] at hp;subst hp
     exact ⟨r,tid,vs,h4,h5,by rw [Cc,Bq,h6]⟩
    ·exact h3 j p hp
  ·cases he
theorem IM (a b:ByteArray):(a==b)=decide (a=b):=by
 obtain ⟨a⟩:=a;obtain ⟨b⟩:=b
 show ByteArray.beq _ _=_
 unfold ByteArray.beq
 by_cases h:a=b
 ·subst h;simp
 ·rw [Ez (by simpa using h)];simpa using h
theorem iG (s:ByteArray): ∀(es:List MapEntry) (i:Nat),(∀e∈es,(Tv e.key).isSome=true)->
  ∃r,Instr.findNow .string (.string s) es i=some r/\r.map (·.2)=Rq es s/\(∀j v,r=some (j,v)->i<=j/\(∃e,es[j-i]?=some e/\e.key= .string s)/\ ∀k e,k<j-i->es[k]?=some e->Tv e.key≠some s)
 | [],i,_=>⟨none,rfl,rfl,λj v h=>by cases h⟩
 |e::es,i,h=>by
  have he:=h e (by simp)
  have hk: ∃t,e.key= .string t:=by
   unfold Tv at he
   split at he
   ·exact ⟨_,by assumption⟩
   ·cases he
  obtain ⟨t,hk⟩:=hk
  simp only [Instr.findNow,hk,Instr.sameNow]
  by_cases Pj:s=t
  ·subst Pj
   have hb:(s==s)=true:=by rw [IM];simp
   rw [hb]
   refine ⟨some (i,e.val),rfl,by simp [Rq,hk,Tv],λj v hj=>?_⟩
   simp only [Aa,Ae] at hj
   obtain ⟨rfl,rfl⟩:=hj
   exact ⟨Ap _,⟨e,by simp,hk⟩,λk e h=>by omega⟩
  ·obtain ⟨r,h1,h2,h3⟩:=iG s es (i+1) λe he=>h e (by simp [he])
   have hb:(s==t)=false:=by rw [IM];simpa using Pj
   rw [hb]
   refine ⟨r,h1,?_,λj v hj=>?_⟩
   ·rw [h2]
    simp only [Rq,hk,Tv]
    rw [Ai (by simpa using λe:t=s=>Pj e.symm)]
   ·obtain ⟨h4,⟨e',h5,h6⟩,h7⟩:=h3 j v hj
    refine ⟨by omega,⟨e',by rw [show j-i=(j-(i+1))+1 by omega,Mv];exact h5,h6⟩,λk e2 hk2 he2=>?_⟩
    rcases k with _|k
    ·simp only [Bq,Aa] at he2
     subst he2
     rw [hk]
     simpa [Tv] using λe:t=s=>Pj e.symm
    ·exact h7 k e2 (by omega) (by simpa using he2)
theorem fO {g:Nat} {es:Array MapEntry} {clock:Nat} (h:w.heap[g]?=some (.map es clock)):(getObj g).run P w= .ok (.map es clock) w:=by simp [getObj,Sem.run,h]
theorem Wc {k:TypeId} (hk:P.underlying k=some .string) (b:Bool) (s:ByteArray) (w:World):(Instr.checkKey b 10000 k (.string s)).run P w= .ok () w:=by
 rw [show (10000:Nat)=9999+1 from rfl]
 unfold Instr.checkKey
 rw [Sem.run_bind,run_underlying hk]
 rfl
theorem sK (hT:Eb P T) {st:St} {a:Act} (h:Bh X π st a w) (t:TypeId) (m k:AV) (ok:Bool) (vm vk:Value) (av:AV) (hm:Bm X w π st.heap m vm) (hk:Bm X w π st.heap k vk)
  (he:ff T st t m k ok=some av): ∃v,(Instr.lookup t vm vk ok).run P w= .ok v w/\Bm X w π st.heap av v:=by
 unfold ff at he
 split at he
 ·rename_i vt fr s ht
  have:=fJ hk;subst this
  obtain ⟨kt,et,h1,h2,h3,h4,h5⟩:=hT.mapOf t vt ht
  split at he
  ·rename_i rR f hv
   simp only [Aa] at he
   have hr:=Ze h.1 (S:= λ_=>False) (.smap vt) m vm rR f hm hv ⟨λ_ h=>h.elim, .inr λ_ h=>h.elim⟩
   obtain ⟨cs,hc,rfl⟩:=hr
   have DR: ∀y:vt.den,∀u,Cells w (λ_=>False) vt [u] y->Ct w (Cx X.w0.heap.size X.Sc π true) vt u y:= λy u hu=>⟨[u],Cells.flat vt [u] y h4 hu,by simp [By,h5]⟩
   obtain ⟨inf,hi,Vu,_,tb⟩:=(hT.ty et vt h3).info
   have hzero:(zeroValue et).run P w= .ok (By vt (Bp vt)) w:=by simp [zeroValue,typeInfo,hi,tb]
   have YT:Cells w (λ_=>False) vt [By vt (Bp vt)] vt.zero:=by
    cases vt<;>first|(simp [Ty.flat] at h4;done)|(simp [Ty.Aq] at h5;done)|(simp [By,Ty.Aq,Bp,Cells,Ty.zero];done)
   have fin: ∀(es:List MapEntry),(∀e∈es,(Tv e.key).isSome=true)->(f s=none->Rq es s=none)->(∀y,f s=some y-> ∃u,Rq es s=some u/\Cells w (λ_=>False) vt [u] y)->
     (∀r,(Instr.findKey kt (.string s) es).run P w= .ok r w-> ∀u,r.map (·.2)=(if (f s).isSome then some u else none)->(r=none->u=By vt (Bp vt))->
      (Instr.lookup t (By (.smap vt) cs) (.string s) ok).run P w= .ok (if ok then .tuple #[u, .bool (f s).isSome] else u) w)->
     ∃v,(Instr.lookup t (By (.smap vt) cs) (.string s) ok).run P w= .ok v w/\Bm X w π st.heap av v:=by
    intro es h6 h7 h8 h9
    obtain ⟨r,qb,kP,_⟩:=iG s es 0 h6
    have h12:(Instr.findKey kt (.string s) es).run P w= .ok r w:=by
     unfold Instr.findKey
     simp only [Sem.run_bind,run_underlying h2,Result.andThen_ok,qb,Sem.run_pure]
    have: ∃u,r.map (·.2)=(if (f s).isSome then some u else none)/\(r=none->u=By vt (Bp vt))/\Cells w (λ_=>False) vt [u] ((f s).getD vt.zero):=by
     cases hf:f s with
     |none=>
      have h13:=h7 hf
      rw [h13] at kP
      exact ⟨By vt (Bp vt),by rw [kP];rfl,λ_=>rfl,YT⟩
     |some y=>
      obtain ⟨u,h13,h14⟩:=h8 y hf
      rw [h13] at kP
      refine ⟨u,by rw [kP];rfl,λ(e:r=none)=>?_,h14⟩
      rw [e] at kP;cases kP
    obtain ⟨u,h13,h14,h15⟩:=this
    have Vv:=h9 r h12 u h13 h14
    cases ok with
    |true=>
     simp only [Py] at he Vv
     subst he
     exact ⟨_,Vv,[u, .bool (f s).isSome],rfl,DR _ u h15,⟨[_],rfl,rfl⟩,trivial⟩
    |false=>
     simp only [Cz,Ry] at he Vv
     subst he
     exact ⟨_,Vv,DR _ u h15⟩
   have hmk: ∀v,By (.smap vt) [v]=v:= λv=>by simp [By,Ty.Aq]
   have run: ∀(r:Option (Nat×Value)) (u:Value) (b:Bool),r.map (·.2)=(if b then some u else none)->(r=none->u=By vt (Bp vt))->
     (∃j,r=some (j,u)/\b=true)\/(r=none/\b=false/\u=By vt (Bp vt)):=by
    intro r u b h6 h7
    cases r with
    |none=>cases b<;>simp at h6⊢;exact h7 rfl
    |some p=>cases b<;>simp at h6⊢;subst h6;exact ⟨p.1,rfl⟩
   simp only [Cells] at hc
   rcases hc with ⟨rfl,hf⟩|⟨g,rfl,hg,_,es,clock,h6,h7,h8,h9⟩
   ·refine fin [] (by simp) (λ_=>rfl) (λy hy=>by rw [hf] at hy;cases hy) λr h6 u h7 h8=>?_
    rcases run r u _ h7 h8 with ⟨j,rfl,hb⟩|⟨rfl,hb,rfl⟩
    ·rw [hf] at hb;cases hb
    ·rw [hb,hmk]
     unfold Instr.lookup
     generalize hz:By vt (Bp vt)=z at hzero⊢
     simp [run_underlying h1,Wc h2,h6,hzero]
   ·refine fin es.toList h7 (λhn=>h8 s hn) (λy hy=>h9 s y hy) λr qb u kP h12=>?_
    rw [hmk]
    unfold Instr.lookup
    rcases run r u _ kP h12 with ⟨j,rfl,hb⟩|⟨rfl,hb,rfl⟩
    ·rw [hb]
     simp [run_underlying h1,Wc h2,fO h6,qb]
    ·rw [hb]
     generalize hz:By vt (Bp vt)=z at hzero⊢
     simp [run_underlying h1,Wc h2,fO h6,qb,hzero]
  ·cases he
 ·cases he
theorem TW (ns:List Int): ∀b:ByteArray,ns.foldl (λr n=>r.push (UInt8.ofNat n.toNat)) b=⟨b.data++(ns.map λn=>UInt8.ofNat n.toNat).toArray⟩:=by
 induction ns with
 |nil=>intro b;simp
 |cons n ns ih=>
  intro b
  rw [Df,ih]
  simp [ByteArray.push]
theorem JC {s d:TypeId} {v:Value} {xs:List Int} (hT:Eb P T) (hs:T.ty s=some (.slice (.int .u8))) (hd:T.ty d=some .str) (h:Ct w (λ_=>False) (.slice (.int .u8)) v xs):
  (convert s d v).run P w= .ok (.string (bytesOf xs)) w:=by
 obtain ⟨te,h1,h2,h3⟩:=(hT.ty _ _ hs).desc
 have h4:P.underlying te=some (.int .u8):=(hT.ty _ _ h3).desc
 have h5:P.underlying d=some .string:=(hT.ty _ _ hd).desc
 obtain ⟨cs,hc,rfl⟩:=h
 simp only [Cells] at hc
 obtain ⟨a,len,cap,rfl,hlen,sZ,JQ⟩:=hc
 simp only [By,Ty.Aq,Cz,Ry,ib]
 rw [run_convert_bytes_string w s d te a len cap h1 h4 h5]
 rcases JQ with rfl|⟨g,o,rfl,hg,_,Jh⟩
 ·have:len=0:=hlen
  subst this
  cases a with
  |none=>simp [Conv.bytesToString,bytesOf];rfl
  |some a=>
   rw [run_bytesToString w a 0 cap [] (by simp [loadCells,loadCellsFrom])]
   rfl
 ·rw [run_bytesToString w _ len cap xs (by
   have:=run_loadCells_list (P:=P) w ⟨g,o,none⟩ (xs.map (Value.int .u8)) (λj v hv=>by
    rw [Fk] at hv
    cases hj:xs[j]? with
    |none=>rw [hj] at hv;cases hv
    |some x=>
     rw [hj] at hv
     simp only [Ak,Aa] at hv
     subst hv
     obtain ⟨es,h6,h7,h8⟩:=Jh j x hj
     have h8:es= [.int .u8 x]:=h8
     subst h8
     rw [Addr.add_lit]
     have:=h7 0 _ rfl
     simpa [Ty.size] using this)
   rw [Gh,<-hlen] at this
   exact this)]
  rw [TW]
  simp [bytesOf]
theorem jl (ρ:Operand->Value) (f:FuncId) (args:Array Operand) (ts:Array TypeId) (dst:Option Tmp) (ty:TypeId) (pos:String) (af:Array Edge) (gd:Option (Nat×Bool))
  (hρ:ρ (.func f)= .func (.func f) #[] #[]) (hc: ∀vs w,(callFunc f vs).run P w= .ok (.enter f vs) w):
  (execOp ρ ⟨dst, .call {callee:= .value (.func f),args:=args,argTypes:=ts},ty,pos,af,gd⟩).run P w= .ok (.enter f (args.map ρ)) w:=by
 simp [execOp,resolve,Deferred.ofValue,hρ,invoke,hc]
theorem y0 {fr:Bool} : ∀(τ:Ty) (x:τ.den) (vs:List Value) (i:Nat) (av:AV),Cp w (Cx X.w0.heap.size X.Sc π fr) τ vs x->dd fr τ x i=some av->
  ∃v,vs[i]?=some v/\Bm X w π H av v
 | .pair a r,x,[],i,av,h,he=>h.elim
 | .pair a r,x,v::vs,0,av,h,he=>by
  simp only [dd,Aa] at he;subst he
  exact ⟨v,rfl,ui h.1⟩
 | .pair a r,x,v::vs,i+1,av,h,he=>by
  obtain ⟨u,hu,hr⟩:=y0 r x.2 vs i av h.2 he
  exact ⟨u,hu,hr⟩
 | .int _,_,_,i,_,_,he=>by cases i<;>simp [dd] at he
 | .bool,_,_,i,_,_,he=>by cases i<;>simp [dd] at he
 | .str,_,_,i,_,_,he=>by cases i<;>simp [dd] at he
 | .slice _,_,_,i,_,_,he=>by cases i<;>simp [dd] at he
 | .ptr _,_,_,i,_,_,he=>by cases i<;>simp [dd] at he
 | .oslice _,_,_,i,_,_,he=>by cases i<;>simp [dd] at he
 | .optr _,_,_,i,_,_,he=>by cases i<;>simp [dd] at he
 | .smap _,_,_,i,_,_,he=>by cases i<;>simp [dd] at he
 | .clo _ _,_,_,i,_,_,he=>by cases i<;>simp [dd] at he
 | .unit,_,_,i,_,_,he=>by cases i<;>simp [dd] at he
theorem SP (x:AV) (vx:Value) (n:Int) (hx:Bm X w π H x vx) (h:ZK x=some n): ∃a len cap,vx= .slice a len cap/\n=len:=by
 unfold ZK at h
 split at h
 ·simp only [Aa] at h;subst h
  exact ⟨none,0,0,hx,rfl⟩
 ·simp only [Aa] at h;subst h
  obtain ⟨cs,hc,rfl⟩:=hx
  simp only [Cells] at hc
  obtain ⟨a,len,cap,rfl,hl,_⟩:=hc
  exact ⟨a,len,cap,by simp [By,Ty.Aq],by rw [hl]⟩
 ·rename_i l off len
  simp only [Aa] at h;subst h
  obtain ⟨b,sz,n,_,_,_,ho⟩:=hx
  cases hp:π l with
  |none=>rw [hp] at ho;obtain ⟨rfl,_,rfl⟩:=ho;exact ⟨none,0,0,rfl,rfl⟩
  |some r=>rw [hp] at ho;obtain ⟨ad,rfl,_⟩:=ho;exact ⟨some ad,len,_,rfl,rfl⟩
 ·cases h
theorem u9 {c:AV} {v:Value} (h:Bm X w π H c v):Bm X w π H (px c) v:=by
 unfold px
 split
 ·rename_i fr e x
  obtain ⟨cs,h1,h2⟩:=h
  rcases h1 with ⟨rfl,c,rfl⟩|⟨xs,ad,len,cap,rfl,rfl,h3,h4,h5⟩
  ·exact ⟨_,⟨none,0,c,rfl,rfl,Kw _, .inl rfl⟩,h2⟩
  ·refine ⟨_,⟨some ad,len,cap,rfl,h3,h4,h5.imp id λ⟨g,o,g1,g2⟩=>⟨g,o,by rw [g1],g2⟩⟩,h2⟩
 ·exact h
theorem EH {st:St} (h:Nj X w π st.heap) (x:AV) (vx:Value) (n:Int) (hx:Bm X w π st.heap x vx) (hn:EG st x=some n): ∃a len cap,vx= .slice a len cap/\n=len:=by
 unfold EG at hn
 split at hn
 ·rename_i l i c
  split at hn
  ·rename_i e te rows kp hl
   simp only [Aa] at hn;subst hn
   unfold St.at at hl
   obtain ⟨r,b,sz,m,g1,g0,g2,g3,⟨g4,_⟩,g5⟩:=hx
   rw [hl] at g1;cases g1
   simp only [OB.gz,Aa,Ae] at g0
   obtain ⟨rfl,rfl⟩:=g0
   have kq:c=0:=by omega
   subst kq
   rw [Fl,En] at g5
   obtain ⟨u,R,k1,k2,k3⟩:=nt h hl g2 g3 (by simp)
   rw [g5] at k1
   have hu:=Az k1
   subst hu
   cases R with
   |none=>obtain ⟨rfl,_,hh⟩:=k2;exact ⟨none,0,0,rfl,by rw [hh]⟩
   |some q=>obtain ⟨ad,rfl,_⟩:=k2;exact ⟨some ad,_,_,rfl,rfl⟩
  ·cases hn
 ·exact SP x vx n hx hn
theorem SQ (x:AV) (vx:Value) (n:Int) (hx:Bm X w π H x vx) (h:PT x=some n): ∃s,vx= .string s/\n=s.size:=by
 unfold PT at h
 split at h
 ·simp only [Aa] at h;subst h
  exact ⟨_,fJ hx,rfl⟩
 ·cases h
theorem sL {st:St} {a:Act} (h:Bh X π st a w) (mx:Bool) (args:List Operand) (av:AV) (ts:Array TypeId) (ty:TypeId) (he:yC mx (args.map st.ev)=some av):
  ∃v,(if mx then Builtin.max_ ts ty (args.map a.eval).toArray else Builtin.min_ ts ty (args.map a.eval).toArray).run P w= .ok v w/\Bm X w π st.heap av v:=by
 unfold yC at he
 split at he
 ·rename_i k n k' m heq
  cases args with
  |nil=>simp at heq
  |cons x r=>
   cases r with
   |nil=>simp at heq
   |cons y r=>
    simp only [Cc,Hb,List.map_eq_nil_iff] at heq
    obtain ⟨hx,hy,rfl⟩:=heq
    split at he
    ·rename_i hk;subst hk
     simp only [aL,Aa] at he;subst he
     have e1:=Dq h.2 x;rw [hx] at e1
     have e2:=Dq h.2 y;rw [hy] at e2
     have e1:=Qk e1
     have e2:=Qk e2
     refine ⟨_,?_,No _ _ _⟩
     cases mx<;>simp [Builtin.max_,Builtin.min_,Builtin.max2,Builtin.min2,e1,e2]
    ·cases he
 ·cases he
theorem iF {Γ:Env} (hT:Eb P T) (Pk:Lj P Γ) {st:St} {a:Act} (h:Bh X π st a w) (o:Oper) (av:AV) (he:Fh T Γ st o=some av):
  OC P X π st.heap w av ((execOp a.eval o).run P w):=by
 obtain ⟨dst,op,ty,pos,af,gd⟩:=o
 have val: ∀(s:Sem Value) (v:Value),s.run P w= .ok v w->Bm X w π st.heap av v->(execOp a.eval ⟨dst,op,ty,pos,af,gd⟩=do pure (.value (<-s)))->
   OC P X π st.heap w av ((execOp a.eval ⟨dst,op,ty,pos,af,gd⟩).run P w):=by
  intro s v h1 h2 h3
  rw [h3,Sem.run_bind,h1]
  exact ⟨rfl,h2⟩
 unfold Fh at he
 split at he
 all_goals (rename_i rW;dsimp only at rW;try subst rW)
 ·
  simp only [Aa] at he;subst he
  exact ⟨rfl,Dq h.2 _⟩
 ·
  simp only [Aa] at he;subst he
  exact ⟨rfl,Dq h.2 _⟩
 ·
  rename_i c x y
  unfold dW at he
  split at he
  ·rename_i fr b hc
   simp only [Aa] at he;subst he
   have e:=Dq h.2 c
   rw [hc] at e
   have e:=a7 e
   have:(execOp a.eval ⟨dst, .pick c x y,ty,pos,af,gd⟩).run P w= .ok (.value (if b then a.eval x else a.eval y)) w:=by
    simp [execOp,e,asBool]
   rw [this]
   refine ⟨rfl,?_⟩
   cases b
   ·exact Dq h.2 y
   ·exact Dq h.2 x
  ·cases he
 ·
  obtain ⟨v,h1,h2⟩:=nc hT h _ _ _ _ (Dq h.2 _) he
  exact val _ v h1 h2 rfl
 ·
  rename_i x
  have e:=Dq h.2 x
  split at he
  ·rename_i fr τ y hx
   simp only [Aa] at he;subst he
   rw [hx] at e
   have e':=e
   obtain ⟨cs,hc,hv⟩:=e
   simp only [Cells] at hc
   obtain ⟨g,o,rfl,_⟩:=hc
   simp only [By,Ty.Aq,Cz,Ry,ib] at hv
   have:(execOp a.eval ⟨dst, .nilCheck x,ty,pos,af,gd⟩).run P w= .ok (.value (a.eval x)) w:=by simp [execOp,hv]
   rw [this];exact ⟨rfl,e'⟩
  ·rename_i fr τ y hx
   simp only [Aa] at he;subst he
   rw [hx] at e
   obtain ⟨cs,hc,hv⟩:=e
   simp only [Cells] at hc
   rcases hc with ⟨h0,_⟩|⟨y',g,o,h0,rfl,hr⟩
   ·cases h0
   simp only [Aa] at h0;subst h0
   simp only [By,Ty.Aq,Cz,Ry,ib] at hv
   have:(execOp a.eval ⟨dst, .nilCheck x,ty,pos,af,gd⟩).run P w= .ok (.value (a.eval x)) w:=by simp [execOp,hv]
   rw [this];exact ⟨rfl,[_],⟨g,o,rfl,hr⟩,by rw [hv];simp [By,Ty.Aq]⟩
  ·rename_i l i hx
   simp only [Aa] at he;subst he
   rw [hx] at e
   have e':=e
   obtain ⟨r,tid,vs,_,_,hv⟩:=e
   have:(execOp a.eval ⟨dst, .nilCheck x,ty,pos,af,gd⟩).run P w= .ok (.value (a.eval x)) w:=by simp [execOp,hv]
   rw [this];exact ⟨rfl,e'⟩
  ·rename_i l i hx
   simp only [Aa] at he;subst he
   rw [hx] at e
   have e':=e
   obtain ⟨r,b,sz,n,_,_,_,_,hv⟩:=e
   have:(execOp a.eval ⟨dst, .nilCheck x,ty,pos,af,gd⟩).run P w= .ok (.value (a.eval x)) w:=by simp [execOp,hv]
   rw [this];exact ⟨rfl,e'⟩
  ·cases he
 ·
  obtain ⟨v,h1,h2⟩:=yA (P:=P) hT _ _ _ _ _ _ _ _ av (Dq h.2 _) (Dq h.2 _) he
  exact val _ v h1 h2 rfl
 ·
  obtain ⟨v,h1,h2⟩:=JJ (P:=P) _ _ _ av (Dq h.2 _) he
  exact val _ v h1 h2 rfl
 ·
  rename_i s t x
  split at he
  ·rename_i σ k fr1 k1 n hs ht hx
   simp only [aL,Aa] at he;subst he
   have e:=Dq h.2 x
   rw [hx] at e
   have e:=Qk e
   have hd:P.underlying t=some (.int k):=(hT.ty _ _ ht).desc
   have Ase:(P.underlying s).isSome=true:=by
    obtain ⟨i,hi,_⟩:=(hT.ty _ _ hs).info
    have:=(hT.ty _ _ hs).desc
    cases σ<;>simp only at this
    all_goals first
     |(rw [this];rfl)
     |(obtain ⟨_,this,_⟩:=this;rw [this];rfl)
     |(obtain ⟨_,this⟩:=this;rw [this];rfl)
     |(obtain ⟨_,_,this⟩:=this;rw [this];rfl)
     |exact this.elim
   exact val _ (.int k (k.wrap n)) (by
    obtain ⟨d,hd0⟩:=gW.1 Ase
    rw [e];simp [convert,run_underlying hd0,run_underlying hd,Conv.intToInt]) (No _ _ _) rfl
  ·rename_i _ _ hs ht
   cases hv:Fw st (.slice (.int .u8)) (st.ev x) with
   |none=>rw [hv] at he;cases he
   |some p=>
    rw [hv] at he
    simp only [Ak,Aa] at he;subst he
    have e:=Dq h.2 x
    have hr:=Ze h.1 (S:= λ_=>False) _ _ _ p.1 p.2 e hv ⟨λ_ h=>h.elim, .inr λ_ h=>h.elim⟩
    exact val _ _ (JC hT hs ht hr) (mb _ _) rfl
  ·cases he
 ·
  rename_i t x lo hi mx
  split at he
  ·cases he
  ·rename_i hmx
   simp only [Hx,Option.isSome_eq_false_iff,Option.isNone_iff_eq_none] at hmx
   subst hmx
   obtain ⟨v,h1,h2⟩:=vF hT h t _ _ lo hi av (Dq h.2 x) he
   exact val _ v h1 h2 rfl
 ·
  obtain ⟨v,h1,h2⟩:=cF hT _ _ _ _ av (Dq h.2 _) he
  exact val _ v (h1 w) h2 rfl
 ·
  obtain ⟨v,h1,h2⟩:=vD hT _ _ _ _ av (Dq h.2 _) he
  exact val _ v h1 h2 rfl
 ·
  obtain ⟨v,h1,h2⟩:=nb hT h _ _ _ _ _ av (u9 (Dq h.2 _)) (Dq h.2 _) he
  exact val _ v h1 h2 rfl
 ·
  rename_i t x i
  unfold jM at he
  split at he
  ·rename_i fr1 s rR k n hx hi
   split at he
   ·rename_i Yh
    split at he
    ·rename_i h0
     cases hb:s[n.toNat]? with
     |none=>rw [hb] at he;cases he
     |some b=>
      rw [hb] at he
      simp only [Ak,Aa] at he;subst he
      have e1:=Dq h.2 x;rw [hx] at e1
      have e2:=Dq h.2 i;rw [hi] at e2
      have e1:=fJ e1
      have e2:=Qk e2
      have hu:P.underlying t=some .string:=(hT.ty _ _ Yh).desc
      have h0':(0:Int)<=n:=h0
      exact val _ (.int .u8 b.toNat) (by
       rw [e1,e2]
       simp only [Instr.index,Sem.run_bind,asIntOf,Sem.run_pure,Result.andThen_ok,run_underlying hu]
       simp only [Ab h0',hb,Sem.run_pure]) (No _ _ _) rfl
    ·cases he
   ·cases he
  ·cases he
 ·
  rename_i x i
  split at he
  ·rename_i fr τ y hx
   have e:=Dq h.2 x
   rw [hx] at e
   obtain ⟨vs,hv,hr⟩:=e
   obtain ⟨u,hu,kx⟩:=y0 (H:=st.heap) τ y vs i av hr he
   exact val _ u (by rw [hv];simp [Instr.extract,hu]) kx rfl
  ·rename_i l hx
   have e:=Dq h.2 x
   rw [hx] at e
   obtain ⟨vs,hv,hlen,hr⟩:=e
   unfold Abh at he
   cases hp:l[i]? with
   |none=>rw [hp] at he;cases he
   |some p=>
    rw [hp] at he
    simp only [Fo] at he
    have hi:i<vs.length:=by have:=(An.1 hp).1;omega
    have hu:=Ac hi
    have kx:=hr i p _ hp hu
    refine val _ vs[i] (by rw [hv];simp [Instr.extract,hu]) ?_ rfl
    obtain ⟨b,cs⟩:=p
    unfold Akm at he
    split at he
    ·rename_i iB heq
     simp only [Ae] at heq
     obtain ⟨rfl,rfl⟩:=heq
     simp only [Aa] at he;subst he
     exact kx
    ·rename_i c heq
     simp only [Ae] at heq
     obtain ⟨rfl,rfl⟩:=heq
     simp only [Aa] at he;subst he
     exact kx c rfl
    ·cases he
  ·cases he
 ·
  rename_i f args ts
  have:=aP Pk h f (args.toList.map st.ev) (args.toList.map a.eval) (by simp) (jh h _) av he
  rw [jl a.eval f args ts dst ty pos af gd rfl this.1]
  refine ⟨rfl,?_⟩
  have h2:=this.2
  rwa [show (args.toList.map a.eval).toArray=args.map a.eval from by apply Pu;simp] at h2
 ·
  rename_i t args ts
  obtain ⟨f,bs,us,h1,h2,h3⟩:=vC Pk h _ _ (Dq h.2 (.tmp t)) args.toList av he
  rw [zM a.eval t f bs us args ts dst ty pos af gd h1 h2]
  exact ⟨rfl,h3⟩
 ·
  rename_i f first Ec
  split at he
  ·rename_i lY
   replace lY:first= #[]:=by simpa using lY
   cases hc:lO (Ec.toList.map st.ev) with
   |none=>rw [hc] at he;cases he
   |some c=>
    rw [hc] at he
    simp only [Ak,Aa] at he;subst he
    obtain ⟨h1,h2⟩:=sF h _ _ hc
    subst lY
    refine val (Instr.makeFunc (.func f) #[] (Ec.map a.eval)) (.func (.func f) #[] (Ec.map a.eval)) rfl ⟨Ec.toList.map a.eval,?_,h1,h2⟩ (by simp [execOp])
    congr 1
    apply Pu;simp
  ·rename_i fr τ x lY
   split at he
   ·rename_i yK
    simp only [Aa] at he;subst he
    simp only [Ag,Er,Array.isEmpty_iff] at yK
    obtain ⟨Al3,Ug⟩:=yK
    subst Al3
    obtain ⟨o,rfl,JO⟩: ∃o,first= #[o]/\st.ev o= .at (.data fr τ x):=by
     obtain ⟨l⟩:=first
     cases l with
     |nil=>simp at lY
     |cons o r=>
      cases r with
      |nil=>exact ⟨o,rfl,by simpa using lY⟩
      |cons _ _=>simp at lY
    have hr:=Dq h.2 o
    rw [JO] at hr
    refine val (Instr.makeFunc (.func f) #[a.eval o] #[]) (.func (.func f) #[a.eval o] #[]) rfl ⟨[yx (f+1000000000) [a.eval o]],?_,?_⟩ (by simp [execOp])
    ·simp only [Cells]
     exact ⟨[a.eval o],rfl,[a.eval o],[],rfl,Ct.So Ug hr,rfl⟩
    ·rw [fe (by omega)];simp [By,Ty.Aq]
   ·cases he
  ·cases he
 ·
  obtain ⟨v,h1,h2⟩:=sK hT h _ _ _ _ _ _ _ (Dq h.2 _) (Dq h.2 _) he
  exact val _ v h1 h2 rfl
 ·
  rename_i args ts
  split at he
  ·rename_i x t Ro tm
   have e1:args= #[x]:=by apply Pu;simpa using Ro
   have e2:ts= #[t]:=by apply Pu;simpa using tm
   subst e1;subst e2
   split at he
   ·rename_i e Yh
    cases hn:EG st (st.ev x) with
    |none=>rw [hn] at he;cases he
    |some n=>
     rw [hn] at he
     simp only [Fo,aL,Aa] at he;subst he
     obtain ⟨te,hu,_⟩:=(hT.ty _ _ Yh).desc
     obtain ⟨ad,len,cap,hv,rfl⟩:=EH h.1 _ _ n (Dq h.2 x) hn
     refine val (Builtin.len_ #[t] ty #[a.eval x]) (.int .i64 len) ?_ (No _ _ _) ?_
     ·rw [hv];simp [Builtin.len_,run_underlying hu,goInt]
     ·simp [execOp,resolve,invoke,builtin]
   ·rename_i e Yh
    cases hn:EG st (px (st.ev x)) with
    |none=>rw [hn] at he;cases he
    |some n=>
     rw [hn] at he
     simp only [Fo,aL,Aa] at he;subst he
     obtain ⟨te,hu,_⟩:=(hT.ty _ _ Yh).desc
     obtain ⟨ad,len,cap,hv,rfl⟩:=EH h.1 _ _ n (u9 (Dq h.2 x)) hn
     refine val (Builtin.len_ #[t] ty #[a.eval x]) (.int .i64 len) ?_ (No _ _ _) ?_
     ·rw [hv];simp [Builtin.len_,run_underlying hu,goInt]
     ·simp [execOp,resolve,invoke,builtin]
   ·rename_i Yh
    cases hn:PT (st.ev x) with
    |none=>rw [hn] at he;cases he
    |some n=>
     rw [hn] at he
     simp only [Fo,aL,Aa] at he;subst he
     have hu:P.underlying t=some .string:=(hT.ty _ _ Yh).desc
     obtain ⟨s,hv,rfl⟩:=SQ _ _ n (Dq h.2 x) hn
     refine val (Builtin.len_ #[t] ty #[a.eval x]) (.int .i64 s.size) ?_ (No _ _ _) ?_
     ·rw [hv];simp [Builtin.len_,run_underlying hu,goInt]
     ·simp [execOp,resolve,invoke,builtin]
   ·cases he
  ·cases he
 ·
  rename_i args ts
  obtain ⟨v,h1,h2⟩:=sL (P:=P) h false args.toList av ts ty he
  rw [show (args.toList.map a.eval).toArray=args.map a.eval from by apply Pu;simp] at h1
  refine val (Builtin.min_ ts ty (args.map a.eval)) v (by simpa only [Cz,Ry,Py] using h1) h2 ?_
  simp [execOp,resolve,invoke,builtin]
 ·
  rename_i args ts
  obtain ⟨v,h1,h2⟩:=sL (P:=P) h true args.toList av ts ty he
  rw [show (args.toList.map a.eval).toArray=args.map a.eval from by apply Pu;simp] at h1
  refine val (Builtin.max_ ts ty (args.map a.eval)) v (by simpa only [Cz,Ry,Py] using h1) h2 ?_
  simp [execOp,resolve,invoke,builtin]
 ·cases he
end
end Go.Proofs.YtkkdpknjohcekaaGreat
