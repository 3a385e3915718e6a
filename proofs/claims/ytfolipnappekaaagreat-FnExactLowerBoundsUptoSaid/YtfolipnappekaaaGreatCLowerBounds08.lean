/-
  Part 9 of the proof that the statement FnExactLowerBounds holds.
-/
import Derived.Test.YtfolipnappekaaaGreatCLowerBounds07
import Derived.Laws.BytesString
namespace Go.Proofs.YtfolipnappekaaaGreat
open Go.RowKit
section
variable {P:Program} {T:Tab} {X:Ctx} {w w':World} {π:Pi} {H:List (Nat×OB)}
theorem Be.Ep {S S':Nat->Prop} {τ:Ty} {v:Value} {x:τ.den} (h:Be w S τ v x) (hS: ∀k,k<w.heap.size->S' k->S k):Be w S' τ v x:=
 let ⟨cs,hc,hv⟩:=h
 ⟨cs,Cells.Ch (Nat.le_refl _) (λ_ _ _=>rfl) hS τ cs x hc,hv⟩
theorem Bd.Ep {S S':Nat->Prop} {τ:Ty} {vs:List Value} {x:τ.den} (h:Bd w S τ vs x) (hS: ∀k,k<w.heap.size->S' k->S k):Bd w S' τ vs x:=
 Bd.Ch ⟨Nat.le_refl _,λ_ _ _=>rfl⟩ hS τ vs x h
theorem Bd.flat {S S':Nat->Prop} : ∀(τ:Ty) (vs:List Value) (x:τ.den),τ.flat=true->Bd w S τ vs x->Bd w S' τ vs x
 | .pair a r,[],x,_,h=>h
 | .pair a r,v::vs,x,hf,h=>by
  simp only [Ty.flat,Bool.and_eq_true] at hf
  exact ⟨h.1.flat hf.1,Bd.flat r vs x.2 hf.2 h.2⟩
 | .unit,[],_,_,_=>trivial
 | .unit,_::_,_,_,h=>h
 | .int _,_,_,_,h=>by simp [Bd] at h
 | .bool,_,_,_,h=>by simp [Bd] at h
 | .str,_,_,_,h=>by simp [Bd] at h
 | .slice _,_,_,_,h=>by simp [Bd] at h
 | .ptr _,_,_,_,h=>by simp [Bd] at h
 | .oslice _,_,_,_,h=>by simp [Bd] at h
 | .optr _,_,_,_,h=>by simp [Bd] at h
 | .smap _,_,_,_,h=>by simp [Bd] at h
 | .clo _ _,_,_,_,h=>by simp [Bd] at h
theorem Yj {fr:Bool} {τ Jc:Ty} {x:Jc.den} {f:Bool} {y:τ.den} {v:Value} (h:cE fr τ Jc x=some (f,y)) (hc:Be w (Bg X.w0.heap.size X.Sc π fr) Jc v x):
  Cells w (Bg X.w0.heap.size X.Sc π f) τ [v] y:=by
 unfold cE at h
 split at h
 ·split at h
  ·rename_i e e' _ ML
   subst ML
   simp only [Option.some.injEq,Prod.mk.injEq] at h
   obtain ⟨rfl,rfl⟩:=h
   have h1:=Be.Lu rfl hc
   simp only [Cells] at h1⊢
   rcases h1 with ⟨rfl,c,h1⟩|⟨xs,ad,len,cap,rfl,h1,h2,h3,h4⟩
   ·exact ⟨none,0,c,h1,rfl,Nat.zero_le _, .inl rfl⟩
   ·exact ⟨_,len,cap,h1,h2,h3,h4.imp id λ⟨g,o,ha,h4⟩=>⟨g,o,by rw [ha],h4⟩⟩
  ·cases h
 ·split at h
  ·rename_i a a' _ haa
   subst haa
   simp only [Option.some.injEq,Prod.mk.injEq] at h
   obtain ⟨rfl,rfl⟩:=h
   have h1:=Be.Lu rfl hc
   simp only [Cells] at h1⊢
   obtain ⟨g,o,h2⟩:=h1
   exact .inr ⟨_,g,o,rfl,h2⟩
  ·cases h
 ·cases h
theorem dT {st:St} (τ:Ty) (c:AC) (v:Value) (fr:Bool) (x:τ.den) (Nk:τ.Ab=false) (hs:c.settled=true) (hc:Dw X w π st.heap c v)
  (hv:Bn st τ c=some (fr,x)):Cells w (Bg X.w0.heap.size X.Sc π fr) τ [v] x:=by
 cases c with
 |data Pk Jc y=>
  rw [It] at hv
  split at hv
  ·rename_i ht;subst ht
   simp only [Option.some.injEq,Prod.mk.injEq] at hv
   obtain ⟨rfl,rfl⟩:=hv
   have h1:=Be.Lu Nk hc
   cases hf:Jc.flat with
   |true=>exact Cells.flat Jc _ _ hf h1
   |false=>rw [Bool.or_false];exact h1
  ·exact Yj hv hc
 |Hp=>
  cases τ with
  |slice e=>
   simp only [Bn,Option.some.injEq,Prod.mk.injEq] at hv
   obtain ⟨_,rfl⟩:=hv
   exact ⟨none,0,0,by rw [show v=_ from hc],rfl,Nat.le_refl _, .inl rfl⟩
  |oslice e=>
   simp only [Bn,Option.some.injEq,Prod.mk.injEq] at hv
   obtain ⟨_,rfl⟩:=hv
   exact .inl ⟨rfl,0,by rw [show v=_ from hc]⟩
  |_=>simp [Bn] at hv
 |Qd=>
  cases τ with
  |optr e=>
   simp only [Bn,Option.some.injEq,Prod.mk.injEq] at hv
   obtain ⟨_,rfl⟩:=hv
   exact .inl ⟨rfl,by rw [show v=_ from hc]⟩
  |_=>simp [Bn] at hv
 |_=>simp [AC.settled] at hs
theorem Cells.and_left {f1 f2:Bool} {τ:Ty} {cs:List Value} {x:τ.den} (h:Cells w (Bg X.w0.heap.size X.Sc π f1) τ cs x):Cells w (Bg X.w0.heap.size X.Sc π (f1&&f2)) τ cs x:=
 Cells.Ch (Nat.le_refl _) (λ_ _ _=>rfl) (λk _ hk=>by
  rcases hk with h1|h1|⟨h1,h2⟩
  ·exact .inl h1
  ·exact .inr (.inl h1)
  ·simp at h1;exact .inr (.inr ⟨h1.1,h2⟩)) τ cs x h
theorem Cells.and_right {f1 f2:Bool} {τ:Ty} {cs:List Value} {x:τ.den} (h:Cells w (Bg X.w0.heap.size X.Sc π f2) τ cs x):Cells w (Bg X.w0.heap.size X.Sc π (f1&&f2)) τ cs x:=
 Cells.Ch (Nat.le_refl _) (λ_ _ _=>rfl) (λk _ hk=>by
  rcases hk with h1|h1|⟨h1,h2⟩
  ·exact .inl h1
  ·exact .inr (.inl h1)
  ·simp at h1;exact .inr (.inr ⟨h1.2,h2⟩)) τ cs x h
theorem Yg {st:St} : ∀(τ:Ty) (cs:List AC) (us:List Value) (fr:Bool) (x:τ.den),cs.all (·.settled)=true->Cy X w π st.heap cs us->
  Cq st τ cs=some (fr,x)->Cells w (Bg X.w0.heap.size X.Sc π fr) τ us x:=by
 have one: ∀(τ:Ty) (cs:List AC) (us:List Value) (fr:Bool) (x:τ.den),τ.Ab=false->cs.all (·.settled)=true->Cy X w π st.heap cs us->
   Cq st τ cs=some (fr,x)->Cells w (Bg X.w0.heap.size X.Sc π fr) τ us x:=by
  intro τ cs us fr x Nk hs hr hv
  rw [Nn Nk] at hv
  split at hv
  ·rename_i c
   obtain ⟨u,hu,_,hc⟩:=hr.2 0 c rfl
   have hl:us.length=1:=hr.1
   obtain ⟨u',rfl⟩:=List.length_eq_one_iff.1 hl
   simp at hu;subst hu
   exact dT τ c _ fr x Nk (by simpa using hs) hc hv
  ·cases hv
 intro τ
 induction τ with
 |unit=>
  intro cs us fr x hs hr hv
  cases cs with
  |nil=>have:us= []:=List.eq_nil_of_length_eq_zero hr.1;exact this
  |cons c cs=>simp [Cq] at hv
 |pair a r hJ er=>
  intro cs us fr x hs hr hv
  simp only [Cq] at hv
  split at hv
  ·rename_i f1 y f2 z h1 h2
   simp only [Option.some.injEq,Prod.mk.injEq] at hv
   obtain ⟨rfl,rfl⟩:=hv
   have SU:Cy X w π st.heap (cs.take a.size) (us.take a.size):=by have:=Tc hr 0 a.size;simpa using this
   have VX:Cy X w π st.heap (cs.drop a.size) (us.drop a.size):=
    ⟨by simp [hr.1],λi c hc=>by
     rw [List.getElem?_drop] at hc⊢
     exact hr.2 _ c hc⟩
   have gZ:(cs.take a.size).all (·.settled)=true:=List.all_eq_true.2 λc hc=>List.all_eq_true.1 hs c (List.mem_of_mem_take hc)
   have qd:(cs.drop a.size).all (·.settled)=true:=List.all_eq_true.2 λc hc=>List.all_eq_true.1 hs c (List.mem_of_mem_drop hc)
   exact ⟨us.take a.size,us.drop a.size,(List.take_append_drop _ _).symm,(hJ _ _ _ _ gZ SU h1).and_left,(er _ _ _ _ qd VX h2).and_right⟩
  ·cases hv
 |_=>exact λcs us fr x hs hr hv=>one _ cs us fr x rfl hs hr hv
theorem Kt {st:St} {τ:Ty} {c:AC} (h:c.settled=true):Fl st τ c=Bn st τ c:=by
 cases c<;>simp [AC.settled] at h<;>cases τ<;>rfl
theorem Jt {st:St} (τ:Ty) (c:AV) (v:Value) (fr:Bool) (x:τ.den) (hs:c.settled=true) (hc:An X w π st.heap c v)
  (hv:Ct st τ c=some (fr,x)):Be w (Bg X.w0.heap.size X.Sc π fr) τ v x:=by
 have Ix: ∀c:AC,c.settled=true->Dw X w π st.heap c v->(if τ.Ab then none else Fl st τ c)=some (fr,x)->Be w (Bg X.w0.heap.size X.Sc π fr) τ v x:=by
  intro c hs hc hv
  split at hv
  ·cases hv
  ·rename_i Nk
   simp only [Bool.not_eq_true] at Nk
   rw [Kt hs] at hv
   exact Be.j5 Nk (dT τ c v fr x Nk hs hc hv)
 cases c with
 | «at»c=>
  cases c with
  |data Pk Jc y=>
   rw [Ye] at hv
   split at hv
   ·rename_i ht;subst ht
    simp only [Option.some.injEq,Prod.mk.injEq] at hv
    obtain ⟨rfl,rfl⟩:=hv
    cases hf:Jc.flat with
    |true=>exact Be.flat hf hc
    |false=>rw [Bool.or_false];exact hc
   ·exact Ix (.data Pk Jc y) hs hc hv
  |Hp=>exact Ix .Hp hs hc hv
  |Qd=>exact Ix .Qd hs hc hv
  |undef=>simp [AV.settled,AC.settled] at hs
  |skip=>simp [AV.settled,AC.settled] at hs
  |own l off len=>simp [AV.settled,AC.settled] at hs
  |Dv l i=>simp [AV.settled,AC.settled] at hs
  |Fu l i=>simp [AV.settled,AC.settled] at hs
  |clo f Bv=>simp [AV.settled,AC.settled] at hs
  |Ga l=>simp [AV.settled,AC.settled] at hs
  |sub l i c=>simp [AV.settled,AC.settled] at hs
  |Fp l i c=>simp [AV.settled,AC.settled] at hs
 |agg cs=>
  simp only [Ct] at hv
  split at hv
  ·rename_i Nk
   obtain ⟨us,rfl,hr⟩:=hc
   exact ⟨us,Yg τ cs us fr x hs hr hv,by simp [As,Nk]⟩
  ·cases hv
 |Vl Pk Jc y=>simp [Ct] at hv
 |Ib l=>simp [Ct] at hv
theorem ak {st:St} : ∀(τ:Ty) (cs:List AV) (vs:List Value) (fr:Bool) (x:τ.den),cs.length=vs.length->cs.all (·.settled)=true->
  (∀(i:Nat) c v,cs[i]?=some c->vs[i]?=some v->An X w π st.heap c v)->Bq st τ cs=some (fr,x)->Bd w (Bg X.w0.heap.size X.Sc π false) τ vs x
 | .unit,[],vs,fr,x,hl,hs,hr,hv=>by
  have:vs= []:=List.eq_nil_of_length_eq_zero hl.symm
  subst this;trivial
 | .unit,_::_,vs,fr,x,hl,hs,hr,hv=>by simp [Bq] at hv
 | .pair a r,[],vs,fr,x,hl,hs,hr,hv=>by simp [Bq] at hv
 | .pair a r,c::cs,[],fr,x,hl,hs,hr,hv=>by simp at hl
 | .pair a r,c::cs,v::vs,fr,x,hl,hs,hr,hv=>by
  simp only [Bq] at hv
  split at hv
  ·rename_i f1 y f2 z h1 h2
   simp only [Option.some.injEq,Prod.mk.injEq] at hv
   obtain ⟨rfl,rfl⟩:=hv
   simp only [List.all_cons,Bool.and_eq_true] at hs
   exact ⟨(Jt a c v f1 y hs.1 (hr 0 c v rfl rfl) h1).Ep (λk _ hk=>by
     rcases hk with h|h|⟨h,_⟩
     ·exact .inl h
     ·exact .inr (.inl h)
     ·cases h),
    ak r cs vs f2 z (by simpa using hl) hs.2 (λi c' v' hc HS=>hr (i+1) c' v' hc HS) h2⟩
  ·cases hv
 | .int _,cs,vs,fr,x,hl,hs,hr,hv=>by cases cs<;>simp [Bq] at hv
 | .bool,cs,vs,fr,x,hl,hs,hr,hv=>by cases cs<;>simp [Bq] at hv
 | .str,cs,vs,fr,x,hl,hs,hr,hv=>by cases cs<;>simp [Bq] at hv
 | .slice _,cs,vs,fr,x,hl,hs,hr,hv=>by cases cs<;>simp [Bq] at hv
 | .ptr _,cs,vs,fr,x,hl,hs,hr,hv=>by cases cs<;>simp [Bq] at hv
 | .oslice _,cs,vs,fr,x,hl,hs,hr,hv=>by cases cs<;>simp [Bq] at hv
 | .optr _,cs,vs,fr,x,hl,hs,hr,hv=>by cases cs<;>simp [Bq] at hv
 | .smap _,cs,vs,fr,x,hl,hs,hr,hv=>by cases cs<;>simp [Bq] at hv
 | .clo _ _,cs,vs,fr,x,hl,hs,hr,hv=>by cases cs<;>simp [Bq] at hv
theorem dz {st:St} {a:Act} (h:Al X π st a w) (args:List Operand) (i:Nat) (c:AV) (v:Value) (hc:(args.map st.ev)[i]?=some c) (hv:(args.map a.eval)[i]?=some v):An X w π st.heap c v:=by
 rw [List.getElem?_map] at hc hv
 cases hi:args[i]? with
 |none=>rw [hi] at hc;cases hc
 |some o=>
  rw [hi] at hc hv
  simp only [Option.map_some,Option.some.injEq] at hc hv
  subst hc;subst hv
  exact Bo h.2 o
theorem Uh {Γ:Env} (Mq:Hi P Γ) {st:St} {a:Act} (h:Al X π st a w) (f:FuncId) (cs:List AV) (vs:List Value) (hlen:cs.length=vs.length)
  (VY: ∀(i:Nat) c v,cs[i]?=some c->vs[i]?=some v->An X w π st.heap c v) (av:AV) (he:Jm Γ st f cs=some av):
  (∀vs w,(callFunc f vs).run P w= .ok (.enter f vs) w)/\
  Calls P f vs.toArray w (λe pZ=> ∃v,e= .returned v/\Below w.heap.size w pZ/\An X pZ π st.heap av v):=by
 unfold Jm at he
 split at he
 ·rename_i s hs
  have snd:Sound P f s:=Mq f _ hs
  refine ⟨snd.enter,?_⟩
  split at he
  ·rename_i Fe
   split at he
   ·cases he
   ·rename_i nX x hx
    cases hy:s.fn x with
    |none=>rw [hy] at he;cases he
    |some y=>
     rw [hy] at he
     simp only [Option.map_some,Option.some.injEq] at he
     have mj: ∀(S:Nat->Prop),(∀k,S k->k<w.heap.size)->Bd w S s.arg vs x->(s.fresh=true\/s.res.flat=true\/ ∀k,Bg X.w0.heap.size X.Sc π false k->S k)->
       Calls P f vs.toArray w (λe pZ=> ∃v,e= .returned v/\Below w.heap.size w pZ/\An X pZ π st.heap av v):=by
      intro S Agz Lf Aj0
      refine (snd.calls w S _ x y Agz Lf hy).mono ?_
      rintro e pZ ⟨v,rfl,hb,hr⟩
      refine ⟨v,rfl,hb,?_⟩
      have hA:s.res.flat=true\/ ∀k,k<pZ.heap.size->Bg X.w0.heap.size X.Sc π (s.fresh||s.res.flat) k->(S k\/(s.fresh=true/\k<w.heap.size)):=by
       cases hf:s.res.flat with
       |true=>exact .inl rfl
       |false=>
        right
        intro k _ hk
        cases AN:s.fresh with
        |true=>
         right
         refine ⟨rfl,?_⟩
         rcases hk with ⟨l,r,hl,hg⟩|hk|⟨_,hk⟩
         ·exact (h.1.own ⟨l,r,hl,hg⟩).1
         ·have:=h.1.sc k hk;have:=h.1.below.size;omega
         ·have:=h.1.below.size;omega
        |false=>
         left
         have o8:Bg X.w0.heap.size X.Sc π false k:=by simpa [AN,hf] using hk
         rcases Aj0 with h1|h1|h1
         ·rw [AN] at h1;cases h1
         ·rw [hf] at h1;cases h1
         ·exact h1 k o8
      unfold fW at hr
      subst he
      split
      ·rename_i hm
       rw [if_pos hm] at hr
       obtain ⟨us,rfl,hr⟩:=hr
       refine ⟨us,rfl,?_⟩
       rcases hA with hf|hA
       ·exact Bd.flat _ _ _ hf hr
       ·exact hr.Ep hA
      ·rename_i hm
       rw [if_neg hm] at hr
       rcases hA with hf|hA
       ·exact Be.flat hf hr
       ·exact hr.Ep hA
     cases hff:(s.fresh||s.res.flat) with
     |true=>
      refine mj (λ_=>False) (λ_ h=>h.elim) (Uv h.1 s.arg _ _ nX x hlen VY hx ⟨λ_ h=>h.elim, .inr λ_ h=>h.elim⟩) ?_
      simp only [Bool.or_eq_true] at hff
      rcases hff with h1|h1
      ·exact .inl h1
      ·exact .inr (.inl h1)
     |false=>
      rw [hff,Bool.false_or] at Fe
      refine mj (Bg X.w0.heap.size X.Sc π false) (λk hk=>?_) (ak s.arg _ _ nX x hlen Fe VY hx) (.inr (.inr λ_ hk=>hk))
      rcases hk with ⟨l,r,hl,hg⟩|hk|⟨hk,_⟩
      ·exact (h.1.own ⟨l,r,hl,hg⟩).1
      ·have:=h.1.sc k hk;have:=h.1.below.size;omega
      ·cases hk
  ·cases he
 ·cases he
theorem nI {fr:Bool} : ∀(τ:Ty) (us:List Value) (x:τ.den),(∀a r,τ≠ .pair a r->True)->Cells w (Bg X.w0.heap.size X.Sc π fr) τ us x->τ.chain=true->
  (Vr fr τ x).length=us.length/\ ∀(i:Nat) c v,(Vr fr τ x)[i]?=some c->us[i]?=some v->An X w π H c v
 | .unit,us,x,_,hc,_=>by
  simp only [Cells] at hc
  subst hc
  exact ⟨rfl,λi c v h=>by simp [Vr] at h⟩
 | .pair a r,us,x,_,hc,hch=>by
  simp only [Cells] at hc
  simp only [Ty.chain,Bool.and_eq_true,Bool.not_eq_true'] at hch
  obtain ⟨c1,c2,rfl,h1,h2⟩:=hc
  have hl:=Cells.len a c1 x.1 h1
  have h3:a.size=1:=by cases a<;>simp_all [Ty.Ab,Ty.size]
  rw [h3] at hl
  obtain ⟨u,rfl⟩:=List.length_eq_one_iff.1 hl
  obtain ⟨h4,h5⟩:=nI r c2 x.2 (λ_ _ _=>trivial) h2 hch.2
  refine ⟨by simp [Vr,h4],λi c v hc hv=>?_⟩
  rcases i with _|i
  ·simp only [Vr,List.getElem?_cons_zero,Option.some.injEq] at hc
   simp only [List.singleton_append,List.getElem?_cons_zero,Option.some.injEq] at hv
   subst hc;subst hv
   exact ⟨[u],h1,by simp [As,hch.1]⟩
  ·simp only [Vr,List.getElem?_cons_succ] at hc
   simp only [List.singleton_append,List.getElem?_cons_succ] at hv
   exact h5 i c v hc hv
 | .int _,_,_,_,_,h=>by simp [Ty.chain] at h
 | .bool,_,_,_,_,h=>by simp [Ty.chain] at h
 | .str,_,_,_,_,h=>by simp [Ty.chain] at h
 | .slice _,_,_,_,_,h=>by simp [Ty.chain] at h
 | .oslice _,_,_,_,_,h=>by simp [Ty.chain] at h
 | .ptr _,_,_,_,_,h=>by simp [Ty.chain] at h
 | .optr _,_,_,_,_,h=>by simp [Ty.chain] at h
 | .smap _,_,_,_,_,h=>by simp [Ty.chain] at h
 | .clo _ _,_,_,_,_,h=>by simp [Ty.chain] at h
theorem cp {cs ds:List AV} {vs us:List Value} (hl:cs.length=vs.length) (h1: ∀(i:Nat) c v,cs[i]?=some c->vs[i]?=some v->An X w π H c v)
  (h2: ∀(i:Nat) c v,ds[i]?=some c->us[i]?=some v->An X w π H c v) (i:Nat) (c:AV) (v:Value) (hc:(cs++ds)[i]?=some c) (hv:(vs++us)[i]?=some v):An X w π H c v:=by
 by_cases hi:i<cs.length
 ·rw [List.getElem?_append_left hi] at hc
  rw [List.getElem?_append_left (by omega)] at hv
  exact h1 i c v hc hv
 ·rw [List.getElem?_append_right (by omega)] at hc
  rw [List.getElem?_append_right (by omega)] at hv
  rw [hl] at hc
  exact h2 _ c v hc hv
theorem ql {Γ:Env} (Mq:Hi P Γ) {st:St} {a:Act} (h:Al X π st a w) (c:AV) (v:Value) (hv:An X w π st.heap c v) (args:List Operand) (av:AV) (he:Qq Γ st c (args.map st.ev)=some av):
  ∃f bs us,v= .func (.func f) (bs:List Value).toArray (us:List Value).toArray/\(∀vs w,(callFunc f vs).run P w= .ok (.enter f vs) w)/\
  Calls P f (bs++args.map a.eval++us).toArray w (λe pZ=> ∃v,e= .returned v/\Below w.heap.size w pZ/\An X pZ π st.heap av v):=by
 unfold Qq at he
 split at he
 ·rename_i fr f τ x
  split at he
  ·rename_i hch
   obtain ⟨cs,hc,rfl⟩:=hv
   simp only [Cells] at hc
   obtain ⟨us,rfl,hc⟩:=hc
   obtain ⟨h1,h2⟩:=nI (H:=st.heap) τ us x (λ_ _ _=>trivial) hc hch
   by_cases hf:f<1000000000
   ·rw [if_pos hf] at he
    have:=Uh Mq h f _ (args.map a.eval++us) (by simp [h1]) (cp (by simp) (dz h args) h2) av he
    exact ⟨f,[],us,by simp [As,Ty.Ab,cB hf],by simpa using this⟩
   ·rw [if_neg hf] at he
    have:=Uh Mq h (f-1000000000) _ (us++args.map a.eval) (by simp [h1]) (cp h1 h2 (dz h args)) av he
    exact ⟨f-1000000000,us,[],by simp [As,Ty.Ab,aF hf],by simpa using this⟩
  ·cases he
 ·rename_i f Bv
  obtain ⟨us,rfl,h1,h2⟩:=hv
  have:=Uh Mq h f _ (args.map a.eval++us) (by simp [h1]) (cp (by simp) (dz h args) (λi c v hc hv=>by
   rw [List.getElem?_map] at hc
   cases hi:Bv[i]? with
   |none=>rw [hi] at hc;cases hc
   |some p=>
    rw [hi] at hc
    simp only [Option.map_some,Option.some.injEq] at hc
    subst hc
    obtain ⟨r,tid,vs,h3,h4,h5⟩:=h2 i p hi
    rw [h5] at hv
    simp only [Option.some.injEq] at hv
    subst hv
    exact ⟨r,tid,vs,h3,h4,rfl⟩)) av he
  exact ⟨f,[],us,rfl,by simpa using this⟩
 ·cases he
theorem vo (ρ:Operand->Value) (t:Nat) (f:FuncId) (bs us:List Value) (args:Array Operand) (ts:Array TypeId) (dst:Option Tmp) (ty:TypeId) (pos:String) (af:Array Edge) (gd:Option (Nat×Bool))
  (hρ:ρ (.tmp t)= .func (.func f) bs.toArray us.toArray) (hc: ∀vs w,(callFunc f vs).run P w= .ok (.enter f vs) w):
  (execOp ρ ⟨dst, .call {callee:= .value (.tmp t),args:=args,argTypes:=ts},ty,pos,af,gd⟩).run P w= .ok (.enter f (bs++args.toList.map ρ++us).toArray) w:=by
 have:bs.toArray++(args.map ρ)++us.toArray=(bs++args.toList.map ρ++us).toArray:=by apply Array.ext';simp
 simp [execOp,resolve,Deferred.ofValue,hρ,invoke,hc,this]
theorem nJ {st:St} {a:Act} (h:Al X π st a w): ∀(l:List Operand) (c:List (Nat×Nat)),gk (l.map st.ev)=some c->
  (l.map a.eval).length=c.length/\ ∀(j:Nat) p,c[j]?=some p-> ∃r tid vs,Ad st.heap p.1=some (.var tid vs)/\π p.1=some r/\(l.map a.eval)[j]?=some (.pointer (some ⟨r.g,p.2,none⟩))
 | [],c,he=>by simp only [List.map_nil,gk,Option.some.injEq] at he;subst he;exact ⟨rfl,λj p hp=>by simp at hp⟩
 |x::l,c,he=>by
  simp only [List.map_cons] at he
  unfold gk at he
  split at he
  ·rename_i heq;simp at heq
  ·rename_i k i r heq
   simp only [List.cons.injEq] at heq
   obtain ⟨h1,rfl⟩:=heq
   cases hr:gk (l.map st.ev) with
   |none=>rw [hr] at he;cases he
   |some c'=>
    rw [hr] at he
    simp only [Option.map_some,Option.some.injEq] at he
    subst he
    obtain ⟨h2,h3⟩:=nJ h l c' hr
    have e:=Bo h.2 x
    rw [h1] at e
    obtain ⟨r,tid,vs,h4,h5,h6⟩:=e
    refine ⟨by simpa using h2,λj p hp=>?_⟩
    rcases j with _|j
    ·simp only [List.getElem?_cons_zero,Option.some.injEq] at hp;subst hp
     exact ⟨r,tid,vs,h4,h5,by rw [List.map_cons,List.getElem?_cons_zero,h6]⟩
    ·exact h3 j p hp
  ·cases he
theorem zN (a b:ByteArray):(a==b)=decide (a=b):=by
 obtain ⟨a⟩:=a;obtain ⟨b⟩:=b
 show ByteArray.beq _ _=_
 unfold ByteArray.beq
 by_cases h:a=b
 ·subst h;simp
 ·rw [decide_eq_false (by simpa using h)];simpa using h
theorem cK (s:ByteArray): ∀(es:List MapEntry) (i:Nat),(∀e∈es,(Nb e.key).isSome=true)->
  ∃r,Instr.findNow .string (.string s) es i=some r/\r.map (·.2)=Lh es s/\(∀j v,r=some (j,v)->i<=j/\(∃e,es[j-i]?=some e/\e.key= .string s)/\ ∀k e,k<j-i->es[k]?=some e->Nb e.key≠some s)
 | [],i,_=>⟨none,rfl,rfl,λj v h=>by cases h⟩
 |e::es,i,h=>by
  have he:=h e (by simp)
  have hk: ∃t,e.key= .string t:=by
   unfold Nb at he
   split at he
   ·exact ⟨_,by assumption⟩
   ·cases he
  obtain ⟨t,hk⟩:=hk
  simp only [Instr.findNow,hk,Instr.sameNow]
  by_cases Tx:s=t
  ·subst Tx
   have hb:(s==s)=true:=by rw [zN];simp
   rw [hb]
   refine ⟨some (i,e.val),rfl,by simp [Lh,hk,Nb],λj v hj=>?_⟩
   simp only [Option.some.injEq,Prod.mk.injEq] at hj
   obtain ⟨rfl,rfl⟩:=hj
   exact ⟨Nat.le_refl _,⟨e,by simp,hk⟩,λk e h=>by omega⟩
  ·obtain ⟨r,h1,h2,h3⟩:=cK s es (i+1) λe he=>h e (by simp [he])
   have hb:(s==t)=false:=by rw [zN];simpa using Tx
   rw [hb]
   refine ⟨r,h1,?_,λj v hj=>?_⟩
   ·rw [h2]
    simp only [Lh,hk,Nb]
    rw [if_neg (by simpa using λe:t=s=>Tx e.symm)]
   ·obtain ⟨h4,⟨e',h5,h6⟩,h7⟩:=h3 j v hj
    refine ⟨by omega,⟨e',by rw [show j-i=(j-(i+1))+1 by omega,List.getElem?_cons_succ];exact h5,h6⟩,λk e2 MR he2=>?_⟩
    rcases k with _|k
    ·simp only [List.getElem?_cons_zero,Option.some.injEq] at he2
     subst he2
     rw [hk]
     simpa [Nb] using λe:t=s=>Tx e.symm
    ·exact h7 k e2 (by omega) (by simpa using he2)
theorem bj {g:Nat} {es:Array MapEntry} {clock:Nat} (h:w.heap[g]?=some (.map es clock)):(getObj g).run P w= .ok (.map es clock) w:=by simp [getObj,Sem.run,h]
theorem Pg {k:TypeId} (hk:P.underlying k=some .string) (b:Bool) (s:ByteArray) (w:World):(Instr.checkKey b 10000 k (.string s)).run P w= .ok () w:=by
 rw [show (10000:Nat)=9999+1 from rfl]
 unfold Instr.checkKey
 rw [Sem.run_bind,run_underlying hk]
 rfl
theorem nP (hT:Ca P T) {st:St} {a:Act} (h:Al X π st a w) (t:TypeId) (m k:AV) (ok:Bool) (vm vk:Value) (av:AV) (hm:An X w π st.heap m vm) (hk:An X w π st.heap k vk)
  (he:aH T st t m k ok=some av): ∃v,(Instr.lookup t vm vk ok).run P w= .ok v w/\An X w π st.heap av v:=by
 unfold aH at he
 split at he
 ·rename_i vt fr s ht
  have:=bb hk;subst this
  obtain ⟨kt,et,h1,h2,h3,h4,h5⟩:=hT.mapOf t vt ht
  split at he
  ·rename_i mS f hv
   simp only [Option.some.injEq] at he
   have hr:=Rx h.1 (S:= λ_=>False) (.smap vt) m vm mS f hm hv ⟨λ_ h=>h.elim, .inr λ_ h=>h.elim⟩
   obtain ⟨cs,hc,rfl⟩:=hr
   have HK: ∀y:vt.den,∀u,Cells w (λ_=>False) vt [u] y->Be w (Bg X.w0.heap.size X.Sc π true) vt u y:= λy u hu=>⟨[u],Cells.flat vt [u] y h4 hu,by simp [As,h5]⟩
   obtain ⟨inf,hi,Oz,_,o7⟩:=(hT.ty et vt h3).info
   have hzero:(zeroValue et).run P w= .ok (As vt (Aq vt)) w:=by simp [zeroValue,typeInfo,hi,o7]
   have ND:Cells w (λ_=>False) vt [As vt (Aq vt)] vt.zero:=by
    cases vt<;>first|(simp [Ty.flat] at h4;done)|(simp [Ty.Ab] at h5;done)|(simp [As,Ty.Ab,Aq,Cells,Ty.zero];done)
   have fin: ∀(es:List MapEntry),(∀e∈es,(Nb e.key).isSome=true)->(f s=none->Lh es s=none)->(∀y,f s=some y-> ∃u,Lh es s=some u/\Cells w (λ_=>False) vt [u] y)->
     (∀r,(Instr.findKey kt (.string s) es).run P w= .ok r w-> ∀u,r.map (·.2)=(if (f s).isSome then some u else none)->(r=none->u=As vt (Aq vt))->
      (Instr.lookup t (As (.smap vt) cs) (.string s) ok).run P w= .ok (if ok then .tuple #[u, .bool (f s).isSome] else u) w)->
     ∃v,(Instr.lookup t (As (.smap vt) cs) (.string s) ok).run P w= .ok v w/\An X w π st.heap av v:=by
    intro es h6 h7 h8 h9
    obtain ⟨r,jG,c8,_⟩:=cK s es 0 h6
    have RZ:(Instr.findKey kt (.string s) es).run P w= .ok r w:=by
     unfold Instr.findKey
     simp only [Sem.run_bind,run_underlying h2,Result.andThen_ok,jG,Sem.run_pure]
    have: ∃u,r.map (·.2)=(if (f s).isSome then some u else none)/\(r=none->u=As vt (Aq vt))/\Cells w (λ_=>False) vt [u] ((f s).getD vt.zero):=by
     cases hf:f s with
     |none=>
      have h13:=h7 hf
      rw [h13] at c8
      exact ⟨As vt (Aq vt),by rw [c8];rfl,λ_=>rfl,ND⟩
     |some y=>
      obtain ⟨u,h13,h14⟩:=h8 y hf
      rw [h13] at c8
      refine ⟨u,by rw [c8];rfl,λ(e:r=none)=>?_,h14⟩
      rw [e] at c8;cases c8
    obtain ⟨u,h13,h14,h15⟩:=this
    have Pa:=h9 r RZ u h13 h14
    cases ok with
    |true=>
     simp only [if_true] at he Pa
     subst he
     exact ⟨_,Pa,[u, .bool (f s).isSome],rfl,HK _ u h15,⟨[_],rfl,rfl⟩,trivial⟩
    |false=>
     simp only [Bool.false_eq_true,if_false] at he Pa
     subst he
     exact ⟨_,Pa,HK _ u h15⟩
   have VS: ∀v,As (.smap vt) [v]=v:= λv=>by simp [As,Ty.Ab]
   have run: ∀(r:Option (Nat×Value)) (u:Value) (b:Bool),r.map (·.2)=(if b then some u else none)->(r=none->u=As vt (Aq vt))->
     (∃j,r=some (j,u)/\b=true)\/(r=none/\b=false/\u=As vt (Aq vt)):=by
    intro r u b h6 h7
    cases r with
    |none=>cases b<;>simp at h6⊢;exact h7 rfl
    |some p=>cases b<;>simp at h6⊢;subst h6;exact ⟨p.1,rfl⟩
   simp only [Cells] at hc
   rcases hc with ⟨rfl,hf⟩|⟨g,rfl,hg,_,es,clock,h6,h7,h8,h9⟩
   ·refine fin [] (by simp) (λ_=>rfl) (λy hy=>by rw [hf] at hy;cases hy) λr h6 u h7 h8=>?_
    rcases run r u _ h7 h8 with ⟨j,rfl,hb⟩|⟨rfl,hb,rfl⟩
    ·rw [hf] at hb;cases hb
    ·rw [hb,VS]
     unfold Instr.lookup
     generalize hz:As vt (Aq vt)=z at hzero⊢
     simp [run_underlying h1,Pg h2,h6,hzero]
   ·refine fin es.toList h7 (λhn=>h8 s hn) (λy hy=>h9 s y hy) λr jG u c8 RZ=>?_
    rw [VS]
    unfold Instr.lookup
    rcases run r u _ c8 RZ with ⟨j,rfl,hb⟩|⟨rfl,hb,rfl⟩
    ·rw [hb]
     simp [run_underlying h1,Pg h2,bj h6,jG]
    ·rw [hb]
     generalize hz:As vt (Aq vt)=z at hzero⊢
     simp [run_underlying h1,Pg h2,bj h6,jG,hzero]
  ·cases he
 ·cases he
theorem JC (ns:List Int): ∀b:ByteArray,ns.foldl (λr n=>r.push (UInt8.ofNat n.toNat)) b=⟨b.data++(ns.map λn=>UInt8.ofNat n.toNat).toArray⟩:=by
 induction ns with
 |nil=>intro b;simp
 |cons n ns ih=>
  intro b
  rw [List.foldl_cons,ih]
  simp [ByteArray.push]
theorem AD {s d:TypeId} {v:Value} {xs:List Int} (hT:Ca P T) (hs:T.ty s=some (.slice (.int .u8))) (hd:T.ty d=some .str) (h:Be w (λ_=>False) (.slice (.int .u8)) v xs):
  (convert s d v).run P w= .ok (.string (bytesOf xs)) w:=by
 obtain ⟨te,h1,h2,h3⟩:=(hT.ty _ _ hs).desc
 have h4:P.underlying te=some (.int .u8):=(hT.ty _ _ h3).desc
 have h5:P.underlying d=some .string:=(hT.ty _ _ hd).desc
 obtain ⟨cs,hc,rfl⟩:=h
 simp only [Cells] at hc
 obtain ⟨a,len,cap,rfl,hlen,o4,AR⟩:=hc
 simp only [As,Ty.Ab,Bool.false_eq_true,if_false,List.headD_cons]
 rw [run_convert_bytes_string w s d te a len cap h1 h4 h5]
 rcases AR with rfl|⟨g,o,rfl,hg,_,Hf⟩
 ·have:len=0:=hlen
  subst this
  cases a with
  |none=>simp [Conv.bytesToString,bytesOf];rfl
  |some a=>
   rw [run_bytesToString w a 0 cap [] (by simp [loadCells,loadCellsFrom])]
   rfl
 ·rw [run_bytesToString w _ len cap xs (by
   have:=run_loadCells_list (P:=P) w ⟨g,o,none⟩ (xs.map (Value.int .u8)) (λj v hv=>by
    rw [List.getElem?_map] at hv
    cases hj:xs[j]? with
    |none=>rw [hj] at hv;cases hv
    |some x=>
     rw [hj] at hv
     simp only [Option.map_some,Option.some.injEq] at hv
     subst hv
     obtain ⟨es,h6,h7,h8⟩:=Hf j x hj
     have h8:es= [.int .u8 x]:=h8
     subst h8
     rw [Addr.add_lit]
     have:=h7 0 _ rfl
     simpa [Ty.size] using this)
   rw [List.length_map,<-hlen] at this
   exact this)]
  rw [JC]
  simp [bytesOf]
theorem dC (ρ:Operand->Value) (f:FuncId) (args:Array Operand) (ts:Array TypeId) (dst:Option Tmp) (ty:TypeId) (pos:String) (af:Array Edge) (gd:Option (Nat×Bool))
  (hρ:ρ (.func f)= .func (.func f) #[] #[]) (hc: ∀vs w,(callFunc f vs).run P w= .ok (.enter f vs) w):
  (execOp ρ ⟨dst, .call {callee:= .value (.func f),args:=args,argTypes:=ts},ty,pos,af,gd⟩).run P w= .ok (.enter f (args.map ρ)) w:=by
 simp [execOp,resolve,Deferred.ofValue,hρ,invoke,hc]
theorem tv {fr:Bool} : ∀(τ:Ty) (x:τ.den) (vs:List Value) (i:Nat) (av:AV),Bd w (Bg X.w0.heap.size X.Sc π fr) τ vs x->Yd fr τ x i=some av->
  ∃v,vs[i]?=some v/\An X w π H av v
 | .pair a r,x,[],i,av,h,he=>h.elim
 | .pair a r,x,v::vs,0,av,h,he=>by
  simp only [Yd,Option.some.injEq] at he;subst he
  exact ⟨v,rfl,oY h.1⟩
 | .pair a r,x,v::vs,i+1,av,h,he=>by
  obtain ⟨u,hu,hr⟩:=tv r x.2 vs i av h.2 he
  exact ⟨u,hu,hr⟩
 | .int _,_,_,i,_,_,he=>by cases i<;>simp [Yd] at he
 | .bool,_,_,i,_,_,he=>by cases i<;>simp [Yd] at he
 | .str,_,_,i,_,_,he=>by cases i<;>simp [Yd] at he
 | .slice _,_,_,i,_,_,he=>by cases i<;>simp [Yd] at he
 | .ptr _,_,_,i,_,_,he=>by cases i<;>simp [Yd] at he
 | .oslice _,_,_,i,_,_,he=>by cases i<;>simp [Yd] at he
 | .optr _,_,_,i,_,_,he=>by cases i<;>simp [Yd] at he
 | .smap _,_,_,i,_,_,he=>by cases i<;>simp [Yd] at he
 | .clo _ _,_,_,i,_,_,he=>by cases i<;>simp [Yd] at he
 | .unit,_,_,i,_,_,he=>by cases i<;>simp [Yd] at he
theorem IA (x:AV) (vx:Value) (n:Int) (hx:An X w π H x vx) (h:NT x=some n): ∃a len cap,vx= .slice a len cap/\n=len:=by
 unfold NT at h
 split at h
 ·simp only [Option.some.injEq] at h;subst h
  exact ⟨none,0,0,hx,rfl⟩
 ·simp only [Option.some.injEq] at h;subst h
  obtain ⟨cs,hc,rfl⟩:=hx
  simp only [Cells] at hc
  obtain ⟨a,len,cap,rfl,hl,_⟩:=hc
  exact ⟨a,len,cap,by simp [As,Ty.Ab],by rw [hl]⟩
 ·rename_i l off len
  simp only [Option.some.injEq] at h;subst h
  obtain ⟨b,sz,n,_,_,_,ho⟩:=hx
  cases hp:π l with
  |none=>rw [hp] at ho;obtain ⟨rfl,_,rfl⟩:=ho;exact ⟨none,0,0,rfl,rfl⟩
  |some r=>rw [hp] at ho;obtain ⟨ad,rfl,_⟩:=ho;exact ⟨some ad,len,_,rfl,rfl⟩
 ·cases h
theorem oS {c:AV} {v:Value} (h:An X w π H c v):An X w π H (kC c) v:=by
 unfold kC
 split
 ·rename_i fr e x
  obtain ⟨cs,h1,h2⟩:=h
  rcases h1 with ⟨rfl,c,rfl⟩|⟨xs,ad,len,cap,rfl,rfl,h3,h4,h5⟩
  ·exact ⟨_,⟨none,0,c,rfl,rfl,Nat.zero_le _, .inl rfl⟩,h2⟩
  ·refine ⟨_,⟨some ad,len,cap,rfl,h3,h4,h5.imp id λ⟨g,o,g1,g2⟩=>⟨g,o,by rw [g1],g2⟩⟩,h2⟩
 ·exact h
theorem xQ {st:St} (h:Ih X w π st.heap) (x:AV) (vx:Value) (n:Int) (hx:An X w π st.heap x vx) (hn:xP st x=some n): ∃a len cap,vx= .slice a len cap/\n=len:=by
 unfold xP at hn
 split at hn
 ·rename_i l i c
  split at hn
  ·rename_i e te rows kp hl
   simp only [Option.some.injEq] at hn;subst hn
   unfold St.at at hl
   obtain ⟨r,b,sz,m,g1,g0,g2,g3,⟨g4,_⟩,g5⟩:=hx
   rw [hl] at g1;cases g1
   simp only [OB.bJ,Option.some.injEq,Prod.mk.injEq] at g0
   obtain ⟨rfl,rfl⟩:=g0
   have fj:c=0:=by omega
   subst fj
   rw [Nat.mul_one,Nat.add_zero] at g5
   obtain ⟨u,R,k1,k2,k3⟩:=iI h hl g2 g3 (by simp)
   rw [g5] at k1
   have hu:=Option.some.inj k1
   subst hu
   cases R with
   |none=>obtain ⟨rfl,_,hh⟩:=k2;exact ⟨none,0,0,rfl,by rw [hh]⟩
   |some q=>obtain ⟨ad,rfl,_⟩:=k2;exact ⟨some ad,_,_,rfl,rfl⟩
  ·cases hn
 ·exact IA x vx n hx hn
theorem IB (x:AV) (vx:Value) (n:Int) (hx:An X w π H x vx) (h:FY x=some n): ∃s,vx= .string s/\n=s.size:=by
 unfold FY at h
 split at h
 ·simp only [Option.some.injEq] at h;subst h
  exact ⟨_,bb hx,rfl⟩
 ·cases h
theorem nQ {st:St} {a:Act} (h:Al X π st a w) (mx:Bool) (args:List Operand) (av:AV) (ts:Array TypeId) (ty:TypeId) (he:tW mx (args.map st.ev)=some av):
  ∃v,(if mx then Builtin.max_ ts ty (args.map a.eval).toArray else Builtin.min_ ts ty (args.map a.eval).toArray).run P w= .ok v w/\An X w π st.heap av v:=by
 unfold tW at he
 split at he
 ·rename_i k n k' m heq
  cases args with
  |nil=>simp at heq
  |cons x r=>
   cases r with
   |nil=>simp at heq
   |cons y r=>
    simp only [List.map_cons,List.cons.injEq,List.map_eq_nil_iff] at heq
    obtain ⟨hx,hy,rfl⟩:=heq
    split at he
    ·rename_i hk;subst hk
     simp only [Uf,Option.some.injEq] at he;subst he
     have e1:=Bo h.2 x;rw [hx] at e1
     have e2:=Bo h.2 y;rw [hy] at e2
     have e1:=Kn e1
     have e2:=Kn e2
     refine ⟨_,?_,Iy _ _ _⟩
     cases mx<;>simp [Builtin.max_,Builtin.min_,Builtin.max2,Builtin.min2,e1,e2]
    ·cases he
 ·cases he
theorem lj {Γ:Env} (hT:Ca P T) (Mq:Hi P Γ) {st:St} {a:Act} (h:Al X π st a w) (o:Oper) (av:AV) (he:Ci T Γ st o=some av):
  EO P X π st.heap w av ((execOp a.eval o).run P w):=by
 obtain ⟨dst,op,ty,pos,af,gd⟩:=o
 have val: ∀(s:Sem Value) (v:Value),s.run P w= .ok v w->An X w π st.heap av v->(execOp a.eval ⟨dst,op,ty,pos,af,gd⟩=do pure (.value (<-s)))->
   EO P X π st.heap w av ((execOp a.eval ⟨dst,op,ty,pos,af,gd⟩).run P w):=by
  intro s v h1 h2 h3
  rw [h3,Sem.run_bind,h1]
  exact ⟨rfl,h2⟩
 unfold Ci at he
 split at he
 all_goals (rename_i mX;dsimp only at mX;try subst mX)
 ·
  simp only [Option.some.injEq] at he;subst he
  exact ⟨rfl,Bo h.2 _⟩
 ·
  simp only [Option.some.injEq] at he;subst he
  exact ⟨rfl,Bo h.2 _⟩
 ·
  rename_i c x y
  unfold Zh at he
  split at he
  ·rename_i fr b hc
   simp only [Option.some.injEq] at he;subst he
   have e:=Bo h.2 c
   rw [hc] at e
   have e:=Td e
   have:(execOp a.eval ⟨dst, .pick c x y,ty,pos,af,gd⟩).run P w= .ok (.value (if b then a.eval x else a.eval y)) w:=by
    simp [execOp,e,asBool]
   rw [this]
   refine ⟨rfl,?_⟩
   cases b
   ·exact Bo h.2 y
   ·exact Bo h.2 x
  ·cases he
 ·
  obtain ⟨v,h1,h2⟩:=iz hT h _ _ _ _ (Bo h.2 _) he
  exact val _ v h1 h2 rfl
 ·
  rename_i x
  have e:=Bo h.2 x
  split at he
  ·rename_i fr τ y hx
   simp only [Option.some.injEq] at he;subst he
   rw [hx] at e
   have e':=e
   obtain ⟨cs,hc,hv⟩:=e
   simp only [Cells] at hc
   obtain ⟨g,o,rfl,_⟩:=hc
   simp only [As,Ty.Ab,Bool.false_eq_true,if_false,List.headD_cons] at hv
   have:(execOp a.eval ⟨dst, .nilCheck x,ty,pos,af,gd⟩).run P w= .ok (.value (a.eval x)) w:=by simp [execOp,hv]
   rw [this];exact ⟨rfl,e'⟩
  ·rename_i fr τ y hx
   simp only [Option.some.injEq] at he;subst he
   rw [hx] at e
   obtain ⟨cs,hc,hv⟩:=e
   simp only [Cells] at hc
   rcases hc with ⟨h0,_⟩|⟨y',g,o,h0,rfl,hr⟩
   ·cases h0
   simp only [Option.some.injEq] at h0;subst h0
   simp only [As,Ty.Ab,Bool.false_eq_true,if_false,List.headD_cons] at hv
   have:(execOp a.eval ⟨dst, .nilCheck x,ty,pos,af,gd⟩).run P w= .ok (.value (a.eval x)) w:=by simp [execOp,hv]
   rw [this];exact ⟨rfl,[_],⟨g,o,rfl,hr⟩,by rw [hv];simp [As,Ty.Ab]⟩
  ·rename_i l i hx
   simp only [Option.some.injEq] at he;subst he
   rw [hx] at e
   have e':=e
   obtain ⟨r,tid,vs,_,_,hv⟩:=e
   have:(execOp a.eval ⟨dst, .nilCheck x,ty,pos,af,gd⟩).run P w= .ok (.value (a.eval x)) w:=by simp [execOp,hv]
   rw [this];exact ⟨rfl,e'⟩
  ·rename_i l i hx
   simp only [Option.some.injEq] at he;subst he
   rw [hx] at e
   have e':=e
   obtain ⟨r,b,sz,n,_,_,_,_,hv⟩:=e
   have:(execOp a.eval ⟨dst, .nilCheck x,ty,pos,af,gd⟩).run P w= .ok (.value (a.eval x)) w:=by simp [execOp,hv]
   rw [this];exact ⟨rfl,e'⟩
  ·cases he
 ·
  obtain ⟨v,h1,h2⟩:=tU (P:=P) hT _ _ _ _ _ _ _ _ av (Bo h.2 _) (Bo h.2 _) he
  exact val _ v h1 h2 rfl
 ·
  obtain ⟨v,h1,h2⟩:=AI (P:=P) _ _ _ av (Bo h.2 _) he
  exact val _ v h1 h2 rfl
 ·
  rename_i s t x
  split at he
  ·rename_i σ k US k1 n hs ht hx
   simp only [Uf,Option.some.injEq] at he;subst he
   have e:=Bo h.2 x
   rw [hx] at e
   have e:=Kn e
   have hd:P.underlying t=some (.int k):=(hT.ty _ _ ht).desc
   have Air:(P.underlying s).isSome=true:=by
    obtain ⟨i,hi,_⟩:=(hT.ty _ _ hs).info
    have:=(hT.ty _ _ hs).desc
    cases σ<;>simp only at this
    all_goals first
     |(rw [this];rfl)
     |(obtain ⟨_,this,_⟩:=this;rw [this];rfl)
     |(obtain ⟨_,this⟩:=this;rw [this];rfl)
     |(obtain ⟨_,_,this⟩:=this;rw [this];rfl)
     |exact this.elim
   exact val _ (.int k (k.wrap n)) (by
    obtain ⟨d,hd0⟩:=Option.isSome_iff_exists.1 Air
    rw [e];simp [convert,run_underlying hd0,run_underlying hd,Conv.intToInt]) (Iy _ _ _) rfl
  ·rename_i _ _ hs ht
   cases hv:Ct st (.slice (.int .u8)) (st.ev x) with
   |none=>rw [hv] at he;cases he
   |some p=>
    rw [hv] at he
    simp only [Option.map_some,Option.some.injEq] at he;subst he
    have e:=Bo h.2 x
    have hr:=Rx h.1 (S:= λ_=>False) _ _ _ p.1 p.2 e hv ⟨λ_ h=>h.elim, .inr λ_ h=>h.elim⟩
    exact val _ _ (AD hT hs ht hr) (ku _ _) rfl
  ·cases he
 ·
  rename_i t x lo hi mx
  split at he
  ·cases he
  ·rename_i hmx
   simp only [Bool.not_eq_true,Option.isSome_eq_false_iff,Option.isNone_iff_eq_none] at hmx
   subst hmx
   obtain ⟨v,h1,h2⟩:=qp hT h t _ _ lo hi av (Bo h.2 x) he
   exact val _ v h1 h2 rfl
 ·
  obtain ⟨v,h1,h2⟩:=Xe hT _ _ _ _ av (Bo h.2 _) he
  exact val _ v (h1 w) h2 rfl
 ·
  obtain ⟨v,h1,h2⟩:=qn hT _ _ _ _ av (Bo h.2 _) he
  exact val _ v h1 h2 rfl
 ·
  obtain ⟨v,h1,h2⟩:=iy hT h _ _ _ _ _ av (oS (Bo h.2 _)) (Bo h.2 _) he
  exact val _ v h1 h2 rfl
 ·
  rename_i t x i
  unfold eb at he
  split at he
  ·rename_i US s mS k n hx hi
   split at he
   ·rename_i Qv
    split at he
    ·rename_i h0
     cases hb:s[n.toNat]? with
     |none=>rw [hb] at he;cases he
     |some b=>
      rw [hb] at he
      simp only [Option.map_some,Option.some.injEq] at he;subst he
      have e1:=Bo h.2 x;rw [hx] at e1
      have e2:=Bo h.2 i;rw [hi] at e2
      have e1:=bb e1
      have e2:=Kn e2
      have hu:P.underlying t=some .string:=(hT.ty _ _ Qv).desc
      have h0':(0:Int)<=n:=h0
      exact val _ (.int .u8 b.toNat) (by
       rw [e1,e2]
       simp only [Instr.index,Sem.run_bind,asIntOf,Sem.run_pure,Result.andThen_ok,run_underlying hu]
       simp only [if_pos h0',hb,Sem.run_pure]) (Iy _ _ _) rfl
    ·cases he
   ·cases he
  ·cases he
 ·
  rename_i x i
  split at he
  ·rename_i fr τ y hx
   have e:=Bo h.2 x
   rw [hx] at e
   obtain ⟨vs,hv,hr⟩:=e
   obtain ⟨u,hu,al⟩:=tv (H:=st.heap) τ y vs i av hr he
   exact val _ u (by rw [hv];simp [Instr.extract,hu]) al rfl
  ·rename_i l hx
   have e:=Bo h.2 x
   rw [hx] at e
   obtain ⟨vs,hv,hlen,hr⟩:=e
   unfold QK at he
   cases hp:l[i]? with
   |none=>rw [hp] at he;cases he
   |some p=>
    rw [hp] at he
    simp only [Option.bind_some] at he
    have hi:i<vs.length:=by have:=(List.getElem?_eq_some_iff.1 hp).1;omega
    have hu:=List.getElem?_eq_getElem hi
    have al:=hr i p _ hp hu
    refine val _ vs[i] (by rw [hv];simp [Instr.extract,hu]) ?_ rfl
    obtain ⟨b,cs⟩:=p
    unfold Abx at he
    split at he
    ·rename_i cF heq
     simp only [Prod.mk.injEq] at heq
     obtain ⟨rfl,rfl⟩:=heq
     simp only [Option.some.injEq] at he;subst he
     exact al
    ·rename_i c heq
     simp only [Prod.mk.injEq] at heq
     obtain ⟨rfl,rfl⟩:=heq
     simp only [Option.some.injEq] at he;subst he
     exact al c rfl
    ·cases he
  ·cases he
 ·
  rename_i f args ts
  have:=Uh Mq h f (args.toList.map st.ev) (args.toList.map a.eval) (by simp) (dz h _) av he
  rw [dC a.eval f args ts dst ty pos af gd rfl this.1]
  refine ⟨rfl,?_⟩
  have h2:=this.2
  rwa [show (args.toList.map a.eval).toArray=args.map a.eval from by apply Array.ext';simp] at h2
 ·
  rename_i t args ts
  obtain ⟨f,bs,us,h1,h2,h3⟩:=ql Mq h _ _ (Bo h.2 (.tmp t)) args.toList av he
  rw [vo a.eval t f bs us args ts dst ty pos af gd h1 h2]
  exact ⟨rfl,h3⟩
 ·
  rename_i f first Bv
  split at he
  ·rename_i gx
   replace gx:first= #[]:=by simpa using gx
   cases hc:gk (Bv.toList.map st.ev) with
   |none=>rw [hc] at he;cases he
   |some c=>
    rw [hc] at he
    simp only [Option.map_some,Option.some.injEq] at he;subst he
    obtain ⟨h1,h2⟩:=nJ h _ _ hc
    subst gx
    refine val (Instr.makeFunc (.func f) #[] (Bv.map a.eval)) (.func (.func f) #[] (Bv.map a.eval)) rfl ⟨Bv.toList.map a.eval,?_,h1,h2⟩ (by simp [execOp])
    congr 1
    apply Array.ext';simp
  ·rename_i fr τ x gx
   split at he
   ·rename_i me
    simp only [Option.some.injEq] at he;subst he
    simp only [Bool.and_eq_true,Bool.not_eq_true',Array.isEmpty_iff] at me
    obtain ⟨Ac9,Nk⟩:=me
    subst Ac9
    obtain ⟨o,rfl,AM⟩: ∃o,first= #[o]/\st.ev o= .at (.data fr τ x):=by
     obtain ⟨l⟩:=first
     cases l with
     |nil=>simp at gx
     |cons o r=>
      cases r with
      |nil=>exact ⟨o,rfl,by simpa using gx⟩
      |cons _ _=>simp at gx
    have hr:=Bo h.2 o
    rw [AM] at hr
    refine val (Instr.makeFunc (.func f) #[a.eval o] #[]) (.func (.func f) #[a.eval o] #[]) rfl ⟨[tS (f+1000000000) [a.eval o]],?_,?_⟩ (by simp [execOp])
    ·simp only [Cells]
     exact ⟨[a.eval o],rfl,[a.eval o],[],rfl,Be.Lu Nk hr,rfl⟩
    ·rw [aF (by omega)];simp [As,Ty.Ab]
   ·cases he
  ·cases he
 ·
  obtain ⟨v,h1,h2⟩:=nP hT h _ _ _ _ _ _ _ (Bo h.2 _) (Bo h.2 _) he
  exact val _ v h1 h2 rfl
 ·
  rename_i args ts
  split at he
  ·rename_i x t Lf oe
   have e1:args= #[x]:=by apply Array.ext';simpa using Lf
   have e2:ts= #[t]:=by apply Array.ext';simpa using oe
   subst e1;subst e2
   split at he
   ·rename_i e Qv
    cases hn:xP st (st.ev x) with
    |none=>rw [hn] at he;cases he
    |some n=>
     rw [hn] at he
     simp only [Option.bind_some,Uf,Option.some.injEq] at he;subst he
     obtain ⟨te,hu,_⟩:=(hT.ty _ _ Qv).desc
     obtain ⟨ad,len,cap,hv,rfl⟩:=xQ h.1 _ _ n (Bo h.2 x) hn
     refine val (Builtin.len_ #[t] ty #[a.eval x]) (.int .i64 len) ?_ (Iy _ _ _) ?_
     ·rw [hv];simp [Builtin.len_,run_underlying hu,goInt]
     ·simp [execOp,resolve,invoke,builtin]
   ·rename_i e Qv
    cases hn:xP st (kC (st.ev x)) with
    |none=>rw [hn] at he;cases he
    |some n=>
     rw [hn] at he
     simp only [Option.bind_some,Uf,Option.some.injEq] at he;subst he
     obtain ⟨te,hu,_⟩:=(hT.ty _ _ Qv).desc
     obtain ⟨ad,len,cap,hv,rfl⟩:=xQ h.1 _ _ n (oS (Bo h.2 x)) hn
     refine val (Builtin.len_ #[t] ty #[a.eval x]) (.int .i64 len) ?_ (Iy _ _ _) ?_
     ·rw [hv];simp [Builtin.len_,run_underlying hu,goInt]
     ·simp [execOp,resolve,invoke,builtin]
   ·rename_i Qv
    cases hn:FY (st.ev x) with
    |none=>rw [hn] at he;cases he
    |some n=>
     rw [hn] at he
     simp only [Option.bind_some,Uf,Option.some.injEq] at he;subst he
     have hu:P.underlying t=some .string:=(hT.ty _ _ Qv).desc
     obtain ⟨s,hv,rfl⟩:=IB _ _ n (Bo h.2 x) hn
     refine val (Builtin.len_ #[t] ty #[a.eval x]) (.int .i64 s.size) ?_ (Iy _ _ _) ?_
     ·rw [hv];simp [Builtin.len_,run_underlying hu,goInt]
     ·simp [execOp,resolve,invoke,builtin]
   ·cases he
  ·cases he
 ·
  rename_i args ts
  obtain ⟨v,h1,h2⟩:=nQ (P:=P) h false args.toList av ts ty he
  rw [show (args.toList.map a.eval).toArray=args.map a.eval from by apply Array.ext';simp] at h1
  refine val (Builtin.min_ ts ty (args.map a.eval)) v (by simpa only [Bool.false_eq_true,if_false,if_true] using h1) h2 ?_
  simp [execOp,resolve,invoke,builtin]
 ·
  rename_i args ts
  obtain ⟨v,h1,h2⟩:=nQ (P:=P) h true args.toList av ts ty he
  rw [show (args.toList.map a.eval).toArray=args.map a.eval from by apply Array.ext';simp] at h1
  refine val (Builtin.max_ ts ty (args.map a.eval)) v (by simpa only [Bool.false_eq_true,if_false,if_true] using h1) h2 ?_
  simp [execOp,resolve,invoke,builtin]
 ·cases he
end
end Go.Proofs.YtfolipnappekaaaGreat
