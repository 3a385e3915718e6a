/-
  Part 9 of the proof that the statement FnExactProvesNoSolutionWithin holds.
-/
import Derived.Test.YtfolipnappekaaaGreatCProvesNoSolutionWithin07
import Derived.Laws.BytesString
namespace Go.Proofs.YtfolipnappekaaaGreat
open Go.RowKit
section
variable {P:Program} {T:Tab} {X:Ctx} {w w':World} {π:Pi} {H:List (Nat×OB)}
theorem Bc.En {S S':Nat->Prop} {τ:Ty} {v:Value} {x:τ.den} (h:Bc w S τ v x) (hS: ∀k,k<w.heap.size->S' k->S k):Bc w S' τ v x:=
 let ⟨cs,hc,hv⟩:=h
 ⟨cs,Cells.Cn (Nat.le_refl _) (λ_ _ _=>rfl) hS τ cs x hc,hv⟩
theorem Bf.En {S S':Nat->Prop} {τ:Ty} {vs:List Value} {x:τ.den} (h:Bf w S τ vs x) (hS: ∀k,k<w.heap.size->S' k->S k):Bf w S' τ vs x:=
 Bf.Cn ⟨Nat.le_refl _,λ_ _ _=>rfl⟩ hS τ vs x h
theorem Bf.flat {S S':Nat->Prop} : ∀(τ:Ty) (vs:List Value) (x:τ.den),τ.flat=true->Bf w S τ vs x->Bf w S' τ vs x
 | .pair a r,[],x,_,h=>h
 | .pair a r,v::vs,x,hf,h=>by
  simp only [Ty.flat,Bool.and_eq_true] at hf
  exact ⟨h.1.flat hf.1,Bf.flat r vs x.2 hf.2 h.2⟩
 | .unit,[],_,_,_=>trivial
 | .unit,_::_,_,_,h=>h
 | .int _,_,_,_,h=>by simp [Bf] at h
 | .bool,_,_,_,h=>by simp [Bf] at h
 | .str,_,_,_,h=>by simp [Bf] at h
 | .slice _,_,_,_,h=>by simp [Bf] at h
 | .ptr _,_,_,_,h=>by simp [Bf] at h
 | .oslice _,_,_,_,h=>by simp [Bf] at h
 | .optr _,_,_,_,h=>by simp [Bf] at h
 | .smap _,_,_,_,h=>by simp [Bf] at h
 | .clo _ _,_,_,_,h=>by simp [Bf] at h
theorem Zx {fr:Bool} {τ Jr:Ty} {x:Jr.den} {f:Bool} {y:τ.den} {v:Value} (h:dw fr τ Jr x=some (f,y)) (hc:Bc w (Bj X.w0.heap.size X.Sc π fr) Jr v x):
  Cells w (Bj X.w0.heap.size X.Sc π f) τ [v] y:=by
 unfold dw at h
 split at h
 ·split at h
  ·rename_i e e' _ RL
   subst RL
   simp only [Option.some.injEq,Prod.mk.injEq] at h
   obtain ⟨rfl,rfl⟩:=h
   have h1:=Bc.Mv rfl hc
   simp only [Cells] at h1⊢
   rcases h1 with ⟨rfl,c,h1⟩|⟨xs,ad,len,cap,rfl,h1,h2,h3,h4⟩
   ·exact ⟨none,0,c,h1,rfl,Nat.zero_le _, .inl rfl⟩
   ·exact ⟨_,len,cap,h1,h2,h3,h4.imp id λ⟨g,o,ha,h4⟩=>⟨g,o,by rw [ha],h4⟩⟩
  ·cases h
 ·split at h
  ·rename_i a a' _ haa
   subst haa
   simp only [Option.some.injEq,Prod.mk.injEq] at h
   obtain ⟨rfl,rfl⟩:=h
   have h1:=Bc.Mv rfl hc
   simp only [Cells] at h1⊢
   obtain ⟨g,o,h2⟩:=h1
   exact .inr ⟨_,g,o,rfl,h2⟩
  ·cases h
 ·cases h
theorem eV {st:St} (τ:Ty) (c:AC) (v:Value) (fr:Bool) (x:τ.den) (Oi:τ.Ac=false) (hs:c.settled=true) (hc:Dv X w π st.heap c v)
  (hv:Bp st τ c=some (fr,x)):Cells w (Bj X.w0.heap.size X.Sc π fr) τ [v] x:=by
 cases c with
 |data Qt Jr y=>
  rw [Jh] at hv
  split at hv
  ·rename_i ht;subst ht
   simp only [Option.some.injEq,Prod.mk.injEq] at hv
   obtain ⟨rfl,rfl⟩:=hv
   have h1:=Bc.Mv Oi hc
   cases hf:Jr.flat with
   |true=>exact Cells.flat Jr _ _ hf h1
   |false=>rw [Bool.or_false];exact h1
  ·exact Zx hv hc
 |Hr=>
  cases τ with
  |slice e=>
   simp only [Bp,Option.some.injEq,Prod.mk.injEq] at hv
   obtain ⟨_,rfl⟩:=hv
   exact ⟨none,0,0,by rw [show v=_ from hc],rfl,Nat.le_refl _, .inl rfl⟩
  |oslice e=>
   simp only [Bp,Option.some.injEq,Prod.mk.injEq] at hv
   obtain ⟨_,rfl⟩:=hv
   exact .inl ⟨rfl,0,by rw [show v=_ from hc]⟩
  |_=>simp [Bp] at hv
 |Rp=>
  cases τ with
  |optr e=>
   simp only [Bp,Option.some.injEq,Prod.mk.injEq] at hv
   obtain ⟨_,rfl⟩:=hv
   exact .inl ⟨rfl,by rw [show v=_ from hc]⟩
  |_=>simp [Bp] at hv
 |_=>simp [AC.settled] at hs
theorem Cells.and_left {f1 f2:Bool} {τ:Ty} {cs:List Value} {x:τ.den} (h:Cells w (Bj X.w0.heap.size X.Sc π f1) τ cs x):Cells w (Bj X.w0.heap.size X.Sc π (f1&&f2)) τ cs x:=
 Cells.Cn (Nat.le_refl _) (λ_ _ _=>rfl) (λk _ hk=>by
  rcases hk with h1|h1|⟨h1,h2⟩
  ·exact .inl h1
  ·exact .inr (.inl h1)
  ·simp at h1;exact .inr (.inr ⟨h1.1,h2⟩)) τ cs x h
theorem Cells.and_right {f1 f2:Bool} {τ:Ty} {cs:List Value} {x:τ.den} (h:Cells w (Bj X.w0.heap.size X.Sc π f2) τ cs x):Cells w (Bj X.w0.heap.size X.Sc π (f1&&f2)) τ cs x:=
 Cells.Cn (Nat.le_refl _) (λ_ _ _=>rfl) (λk _ hk=>by
  rcases hk with h1|h1|⟨h1,h2⟩
  ·exact .inl h1
  ·exact .inr (.inl h1)
  ·simp at h1;exact .inr (.inr ⟨h1.2,h2⟩)) τ cs x h
theorem Zu {st:St} : ∀(τ:Ty) (cs:List AC) (us:List Value) (fr:Bool) (x:τ.den),cs.all (·.settled)=true->Da X w π st.heap cs us->
  Cu st τ cs=some (fr,x)->Cells w (Bj X.w0.heap.size X.Sc π fr) τ us x:=by
 have one: ∀(τ:Ty) (cs:List AC) (us:List Value) (fr:Bool) (x:τ.den),τ.Ac=false->cs.all (·.settled)=true->Da X w π st.heap cs us->
   Cu st τ cs=some (fr,x)->Cells w (Bj X.w0.heap.size X.Sc π fr) τ us x:=by
  intro τ cs us fr x Oi hs hr hv
  rw [Ok Oi] at hv
  split at hv
  ·rename_i c
   obtain ⟨u,hu,_,hc⟩:=hr.2 0 c rfl
   have hl:us.length=1:=hr.1
   obtain ⟨u',rfl⟩:=List.length_eq_one_iff.1 hl
   simp at hu;subst hu
   exact eV τ c _ fr x Oi (by simpa using hs) hc hv
  ·cases hv
 intro τ
 induction τ with
 |unit=>
  intro cs us fr x hs hr hv
  cases cs with
  |nil=>have:us= []:=List.eq_nil_of_length_eq_zero hr.1;exact this
  |cons c cs=>simp [Cu] at hv
 |pair a r jm fv=>
  intro cs us fr x hs hr hv
  simp only [Cu] at hv
  split at hv
  ·rename_i f1 y f2 z h1 h2
   simp only [Option.some.injEq,Prod.mk.injEq] at hv
   obtain ⟨rfl,rfl⟩:=hv
   have MG:Da X w π st.heap (cs.take a.size) (us.take a.size):=by have:=Ur hr 0 a.size;simpa using this
   have SC:Da X w π st.heap (cs.drop a.size) (us.drop a.size):=
    ⟨by simp [hr.1],λi c hc=>by
     rw [List.getElem?_drop] at hc⊢
     exact hr.2 _ c hc⟩
   have bD:(cs.take a.size).all (·.settled)=true:=List.all_eq_true.2 λc hc=>List.all_eq_true.1 hs c (List.mem_of_mem_take hc)
   have jl:(cs.drop a.size).all (·.settled)=true:=List.all_eq_true.2 λc hc=>List.all_eq_true.1 hs c (List.mem_of_mem_drop hc)
   exact ⟨us.take a.size,us.drop a.size,(List.take_append_drop _ _).symm,(jm _ _ _ _ bD MG h1).and_left,(fv _ _ _ _ jl SC h2).and_right⟩
  ·cases hv
 |_=>exact λcs us fr x hs hr hv=>one _ cs us fr x rfl hs hr hv
theorem Ll {st:St} {τ:Ty} {c:AC} (h:c.settled=true):Fp st τ c=Bp st τ c:=by
 cases c<;>simp [AC.settled] at h<;>cases τ<;>rfl
theorem Kj {st:St} (τ:Ty) (c:AV) (v:Value) (fr:Bool) (x:τ.den) (hs:c.settled=true) (hc:Ao X w π st.heap c v)
  (hv:Cv st τ c=some (fr,x)):Bc w (Bj X.w0.heap.size X.Sc π fr) τ v x:=by
 have Jl: ∀c:AC,c.settled=true->Dv X w π st.heap c v->(if τ.Ac then none else Fp st τ c)=some (fr,x)->Bc w (Bj X.w0.heap.size X.Sc π fr) τ v x:=by
  intro c hs hc hv
  split at hv
  ·cases hv
  ·rename_i Oi
   simp only [Bool.not_eq_true] at Oi
   rw [Ll hs] at hv
   exact Bc.ko Oi (eV τ c v fr x Oi hs hc hv)
 cases c with
 | «at»c=>
  cases c with
  |data Qt Jr y=>
   rw [Zs] at hv
   split at hv
   ·rename_i ht;subst ht
    simp only [Option.some.injEq,Prod.mk.injEq] at hv
    obtain ⟨rfl,rfl⟩:=hv
    cases hf:Jr.flat with
    |true=>exact Bc.flat hf hc
    |false=>rw [Bool.or_false];exact hc
   ·exact Jl (.data Qt Jr y) hs hc hv
  |Hr=>exact Jl .Hr hs hc hv
  |Rp=>exact Jl .Rp hs hc hv
  |undef=>simp [AV.settled,AC.settled] at hs
  |skip=>simp [AV.settled,AC.settled] at hs
  |own l off len=>simp [AV.settled,AC.settled] at hs
  |Dt l i=>simp [AV.settled,AC.settled] at hs
  |Fy l i=>simp [AV.settled,AC.settled] at hs
  |clo f Ca=>simp [AV.settled,AC.settled] at hs
  |Gd l=>simp [AV.settled,AC.settled] at hs
  |sub l i c=>simp [AV.settled,AC.settled] at hs
  |Fu l i c=>simp [AV.settled,AC.settled] at hs
 |agg cs=>
  simp only [Cv] at hv
  split at hv
  ·rename_i Oi
   obtain ⟨us,rfl,hr⟩:=hc
   exact ⟨us,Zu τ cs us fr x hs hr hv,by simp [Au,Oi]⟩
  ·cases hv
 |Xa Qt Jr y=>simp [Cv] at hv
 |Ih l=>simp [Cv] at hv
theorem bj {st:St} : ∀(τ:Ty) (cs:List AV) (vs:List Value) (fr:Bool) (x:τ.den),cs.length=vs.length->cs.all (·.settled)=true->
  (∀(i:Nat) c v,cs[i]?=some c->vs[i]?=some v->Ao X w π st.heap c v)->Bt st τ cs=some (fr,x)->Bf w (Bj X.w0.heap.size X.Sc π false) τ vs x
 | .unit,[],vs,fr,x,hl,hs,hr,hv=>by
  have:vs= []:=List.eq_nil_of_length_eq_zero hl.symm
  subst this;trivial
 | .unit,_::_,vs,fr,x,hl,hs,hr,hv=>by simp [Bt] at hv
 | .pair a r,[],vs,fr,x,hl,hs,hr,hv=>by simp [Bt] at hv
 | .pair a r,c::cs,[],fr,x,hl,hs,hr,hv=>by simp at hl
 | .pair a r,c::cs,v::vs,fr,x,hl,hs,hr,hv=>by
  simp only [Bt] at hv
  split at hv
  ·rename_i f1 y f2 z h1 h2
   simp only [Option.some.injEq,Prod.mk.injEq] at hv
   obtain ⟨rfl,rfl⟩:=hv
   simp only [List.all_cons,Bool.and_eq_true] at hs
   exact ⟨(Kj a c v f1 y hs.1 (hr 0 c v rfl rfl) h1).En (λk _ hk=>by
     rcases hk with h|h|⟨h,_⟩
     ·exact .inl h
     ·exact .inr (.inl h)
     ·cases h),
    bj r cs vs f2 z (by simpa using hl) hs.2 (λi c' v' hc zm=>hr (i+1) c' v' hc zm) h2⟩
  ·cases hv
 | .int _,cs,vs,fr,x,hl,hs,hr,hv=>by cases cs<;>simp [Bt] at hv
 | .bool,cs,vs,fr,x,hl,hs,hr,hv=>by cases cs<;>simp [Bt] at hv
 | .str,cs,vs,fr,x,hl,hs,hr,hv=>by cases cs<;>simp [Bt] at hv
 | .slice _,cs,vs,fr,x,hl,hs,hr,hv=>by cases cs<;>simp [Bt] at hv
 | .ptr _,cs,vs,fr,x,hl,hs,hr,hv=>by cases cs<;>simp [Bt] at hv
 | .oslice _,cs,vs,fr,x,hl,hs,hr,hv=>by cases cs<;>simp [Bt] at hv
 | .optr _,cs,vs,fr,x,hl,hs,hr,hv=>by cases cs<;>simp [Bt] at hv
 | .smap _,cs,vs,fr,x,hl,hs,hr,hv=>by cases cs<;>simp [Bt] at hv
 | .clo _ _,cs,vs,fr,x,hl,hs,hr,hv=>by cases cs<;>simp [Bt] at hv
theorem eu {st:St} {a:Act} (h:Ak X π st a w) (args:List Operand) (i:Nat) (c:AV) (v:Value) (hc:(args.map st.ev)[i]?=some c) (hv:(args.map a.eval)[i]?=some v):Ao X w π st.heap c v:=by
 rw [List.getElem?_map] at hc hv
 cases hi:args[i]? with
 |none=>rw [hi] at hc;cases hc
 |some o=>
  rw [hi] at hc hv
  simp only [Option.map_some,Option.some.injEq] at hc hv
  subst hc;subst hv
  exact Bq h.2 o
theorem Vy {Γ:Env} (Kn:Gq P Γ) {st:St} {a:Act} (h:Ak X π st a w) (f:FuncId) (cs:List AV) (vs:List Value) (hlen:cs.length=vs.length)
  (Aaz: ∀(i:Nat) c v,cs[i]?=some c->vs[i]?=some v->Ao X w π st.heap c v) (av:AV) (he:Kc Γ st f cs=some av):
  (∀vs w,(callFunc f vs).run P w= .ok (.enter f vs) w)/\
  Calls P f vs.toArray w (λe nR=> ∃v,e= .returned v/\Below w.heap.size w nR/\Ao X nR π st.heap av v):=by
 unfold Kc at he
 split at he
 ·rename_i s hs
  have snd:Sound P f s:=Kn f _ hs
  refine ⟨snd.enter,?_⟩
  split at he
  ·rename_i Fk
   split at he
   ·cases he
   ·rename_i pK x hx
    cases hy:s.fn x with
    |none=>rw [hy] at he;cases he
    |some y=>
     rw [hy] at he
     simp only [Option.map_some,Option.some.injEq] at he
     have o3: ∀(S:Nat->Prop),(∀k,S k->k<w.heap.size)->Bf w S s.arg vs x->(s.fresh=true\/s.res.flat=true\/ ∀k,Bj X.w0.heap.size X.Sc π false k->S k)->
       Calls P f vs.toArray w (λe nR=> ∃v,e= .returned v/\Below w.heap.size w nR/\Ao X nR π st.heap av v):=by
      intro S Alf Ma Anf
      refine (snd.calls w S _ x y Alf Ma hy).mono ?_
      rintro e nR ⟨v,rfl,hb,hr⟩
      refine ⟨v,rfl,hb,?_⟩
      have hA:s.res.flat=true\/ ∀k,k<nR.heap.size->Bj X.w0.heap.size X.Sc π (s.fresh||s.res.flat) k->(S k\/(s.fresh=true/\k<w.heap.size)):=by
       cases hf:s.res.flat with
       |true=>exact .inl rfl
       |false=>
        right
        intro k _ hk
        cases zd:s.fresh with
        |true=>
         right
         refine ⟨rfl,?_⟩
         rcases hk with ⟨l,r,hl,hg⟩|hk|⟨_,hk⟩
         ·exact (h.1.own ⟨l,r,hl,hg⟩).1
         ·have:=h.1.sc k hk;have:=h.1.below.size;omega
         ·have:=h.1.below.size;omega
        |false=>
         left
         have pV:Bj X.w0.heap.size X.Sc π false k:=by simpa [zd,hf] using hk
         rcases Anf with h1|h1|h1
         ·rw [zd] at h1;cases h1
         ·rw [hf] at h1;cases h1
         ·exact h1 k pV
      unfold iw at hr
      subst he
      split
      ·rename_i hm
       rw [if_pos hm] at hr
       obtain ⟨us,rfl,hr⟩:=hr
       refine ⟨us,rfl,?_⟩
       rcases hA with hf|hA
       ·exact Bf.flat _ _ _ hf hr
       ·exact hr.En hA
      ·rename_i hm
       rw [if_neg hm] at hr
       rcases hA with hf|hA
       ·exact Bc.flat hf hr
       ·exact hr.En hA
     cases hff:(s.fresh||s.res.flat) with
     |true=>
      refine o3 (λ_=>False) (λ_ h=>h.elim) (Wn h.1 s.arg _ _ pK x hlen Aaz hx ⟨λ_ h=>h.elim, .inr λ_ h=>h.elim⟩) ?_
      simp only [Bool.or_eq_true] at hff
      rcases hff with h1|h1
      ·exact .inl h1
      ·exact .inr (.inl h1)
     |false=>
      rw [hff,Bool.false_or] at Fk
      refine o3 (Bj X.w0.heap.size X.Sc π false) (λk hk=>?_) (bj s.arg _ _ pK x hlen Fk Aaz hx) (.inr (.inr λ_ hk=>hk))
      rcases hk with ⟨l,r,hl,hg⟩|hk|⟨hk,_⟩
      ·exact (h.1.own ⟨l,r,hl,hg⟩).1
      ·have:=h.1.sc k hk;have:=h.1.below.size;omega
      ·cases hk
  ·cases he
 ·cases he
theorem pq {fr:Bool} : ∀(τ:Ty) (us:List Value) (x:τ.den),(∀a r,τ≠ .pair a r->True)->Cells w (Bj X.w0.heap.size X.Sc π fr) τ us x->τ.chain=true->
  (Xg fr τ x).length=us.length/\ ∀(i:Nat) c v,(Xg fr τ x)[i]?=some c->us[i]?=some v->Ao X w π H c v
 | .unit,us,x,_,hc,_=>by
  simp only [Cells] at hc
  subst hc
  exact ⟨rfl,λi c v h=>by simp [Xg] at h⟩
 | .pair a r,us,x,_,hc,hch=>by
  simp only [Cells] at hc
  simp only [Ty.chain,Bool.and_eq_true,Bool.not_eq_true'] at hch
  obtain ⟨c1,c2,rfl,h1,h2⟩:=hc
  have hl:=Cells.len a c1 x.1 h1
  have h3:a.size=1:=by cases a<;>simp_all [Ty.Ac,Ty.size]
  rw [h3] at hl
  obtain ⟨u,rfl⟩:=List.length_eq_one_iff.1 hl
  obtain ⟨h4,h5⟩:=pq r c2 x.2 (λ_ _ _=>trivial) h2 hch.2
  refine ⟨by simp [Xg,h4],λi c v hc hv=>?_⟩
  rcases i with _|i
  ·simp only [Xg,List.getElem?_cons_zero,Option.some.injEq] at hc
   simp only [List.singleton_append,List.getElem?_cons_zero,Option.some.injEq] at hv
   subst hc;subst hv
   exact ⟨[u],h1,by simp [Au,hch.1]⟩
  ·simp only [Xg,List.getElem?_cons_succ] at hc
   simp only [List.singleton_append,List.getElem?_cons_succ] at hv
   exact h5 i c v hc hv
 | .int _,_,_,_,_,h=>by simp [Ty.chain] at h
 | .bool,_,_,_,_,h=>by simp [Ty.chain] at h
 | .str,_,_,_,_,h=>by simp [Ty.chain] at h
 | .slice _,_,_,_,_,h=>by simp [Ty.chain] at h
 | .oslice _,_,_,_,_,h=>by simp [Ty.chain] at h
 | .ptr _,_,_,_,_,h=>by simp [Ty.chain] at h
 | .optr _,_,_,_,_,h=>by simp [Ty.chain] at h
 | .smap _,_,_,_,_,h=>by simp [Ty.chain] at h
 | .clo _ _,_,_,_,_,h=>by simp [Ty.chain] at h
theorem dg {cs ds:List AV} {vs us:List Value} (hl:cs.length=vs.length) (h1: ∀(i:Nat) c v,cs[i]?=some c->vs[i]?=some v->Ao X w π H c v)
  (h2: ∀(i:Nat) c v,ds[i]?=some c->us[i]?=some v->Ao X w π H c v) (i:Nat) (c:AV) (v:Value) (hc:(cs++ds)[i]?=some c) (hv:(vs++us)[i]?=some v):Ao X w π H c v:=by
 by_cases hi:i<cs.length
 ·rw [List.getElem?_append_left hi] at hc
  rw [List.getElem?_append_left (by omega)] at hv
  exact h1 i c v hc hv
 ·rw [List.getElem?_append_right (by omega)] at hc
  rw [List.getElem?_append_right (by omega)] at hv
  rw [hl] at hc
  exact h2 _ c v hc hv
theorem sk {Γ:Env} (Kn:Gq P Γ) {st:St} {a:Act} (h:Ak X π st a w) (c:AV) (v:Value) (hv:Ao X w π st.heap c v) (args:List Operand) (av:AV) (he:Sm Γ st c (args.map st.ev)=some av):
  ∃f bs us,v= .func (.func f) (bs:List Value).toArray (us:List Value).toArray/\(∀vs w,(callFunc f vs).run P w= .ok (.enter f vs) w)/\
  Calls P f (bs++args.map a.eval++us).toArray w (λe nR=> ∃v,e= .returned v/\Below w.heap.size w nR/\Ao X nR π st.heap av v):=by
 unfold Sm at he
 split at he
 ·rename_i fr f τ x
  split at he
  ·rename_i hch
   obtain ⟨cs,hc,rfl⟩:=hv
   simp only [Cells] at hc
   obtain ⟨us,rfl,hc⟩:=hc
   obtain ⟨h1,h2⟩:=pq (H:=st.heap) τ us x (λ_ _ _=>trivial) hc hch
   by_cases hf:f<1000000000
   ·rw [if_pos hf] at he
    have:=Vy Kn h f _ (args.map a.eval++us) (by simp [h1]) (dg (by simp) (eu h args) h2) av he
    exact ⟨f,[],us,by simp [Au,Ty.Ac,dt hf],by simpa using this⟩
   ·rw [if_neg hf] at he
    have:=Vy Kn h (f-1000000000) _ (us++args.map a.eval) (by simp [h1]) (dg h1 h2 (eu h args)) av he
    exact ⟨f-1000000000,us,[],by simp [Au,Ty.Ac,bx hf],by simpa using this⟩
  ·cases he
 ·rename_i f Ca
  obtain ⟨us,rfl,h1,h2⟩:=hv
  have:=Vy Kn h f _ (args.map a.eval++us) (by simp [h1]) (dg (by simp) (eu h args) (λi c v hc hv=>by
   rw [List.getElem?_map] at hc
   cases hi:Ca[i]? with
   |none=>rw [hi] at hc;cases hc
   |some p=>
    rw [hi] at hc
    simp only [Option.map_some,Option.some.injEq] at hc
    subst hc
    obtain ⟨r,tid,vs,h3,h4,h5⟩:=h2 i p hi
    rw [h5] at hv
    simp only [Option.some.injEq] at hv
    subst hv
    exact ⟨r,tid,vs,h3,h4,rfl⟩)) av he
  exact ⟨f,[],us,rfl,by simpa using this⟩
 ·cases he
theorem xf (ρ:Operand->Value) (t:Nat) (f:FuncId) (bs us:List Value) (args:Array Operand) (ts:Array TypeId) (dst:Option Tmp) (ty:TypeId) (pos:String) (af:Array Edge) (gd:Option (Nat×Bool))
  (hρ:ρ (.tmp t)= .func (.func f) bs.toArray us.toArray) (hc: ∀vs w,(callFunc f vs).run P w= .ok (.enter f vs) w):
  (execOp ρ ⟨dst, .call {callee:= .value (.tmp t),args:=args,argTypes:=ts},ty,pos,af,gd⟩).run P w= .ok (.enter f (bs++args.toList.map ρ++us).toArray) w:=by
 have:bs.toArray++(args.map ρ)++us.toArray=(bs++args.toList.map ρ++us).toArray:=by apply Array.ext';simp
 simp [execOp,resolve,Deferred.ofValue,hρ,invoke,hc,this]
theorem pt {st:St} {a:Act} (h:Ak X π st a w): ∀(l:List Operand) (c:List (Nat×Nat)),iE (l.map st.ev)=some c->
  (l.map a.eval).length=c.length/\ ∀(j:Nat) p,c[j]?=some p-> ∃r tid vs,Ad st.heap p.1=some (.var tid vs)/\π p.1=some r/\(l.map a.eval)[j]?=some (.pointer (some ⟨r.g,p.2,none⟩))
 | [],c,he=>by simp only [List.map_nil,iE,Option.some.injEq] at he;subst he;exact ⟨rfl,λj p hp=>by simp at hp⟩
 |x::l,c,he=>by
  simp only [List.map_cons] at he
  unfold iE at he
  split at he
  ·rename_i heq;simp at heq
  ·rename_i k i r heq
   simp only [List.cons.injEq] at heq
   obtain ⟨h1,rfl⟩:=heq
   cases hr:iE (l.map st.ev) with
   |none=>rw [hr] at he;cases he
   |some c'=>
    rw [hr] at he
    simp only [Option.map_some,Option.some.injEq] at he
    subst he
    obtain ⟨h2,h3⟩:=pt h l c' hr
    have e:=Bq h.2 x
    rw [h1] at e
    obtain ⟨r,tid,vs,h4,h5,h6⟩:=e
    refine ⟨by simpa using h2,λj p hp=>?_⟩
    rcases j with _|j
    ·simp only [List.getElem?_cons_zero,Option.some.injEq] at hp;subst hp
     exact ⟨r,tid,vs,h4,h5,by rw [List.map_cons,List.getElem?_cons_zero,h6]⟩
    ·exact h3 j p hp
  ·cases he
theorem DB (a b:ByteArray):(a==b)=decide (a=b):=by
 obtain ⟨a⟩:=a;obtain ⟨b⟩:=b
 show ByteArray.beq _ _=_
 unfold ByteArray.beq
 by_cases h:a=b
 ·subst h;simp
 ·rw [decide_eq_false (by simpa using h)];simpa using h
theorem dD (s:ByteArray): ∀(es:List MapEntry) (i:Nat),(∀e∈es,(Ob e.key).isSome=true)->
  ∃r,Instr.findNow .string (.string s) es i=some r/\r.map (·.2)=Mc es s/\(∀j v,r=some (j,v)->i<=j/\(∃e,es[j-i]?=some e/\e.key= .string s)/\ ∀k e,k<j-i->es[k]?=some e->Ob e.key≠some s)
 | [],i,_=>⟨none,rfl,rfl,λj v h=>by cases h⟩
 |e::es,i,h=>by
  have he:=h e (by simp)
  have hk: ∃t,e.key= .string t:=by
   unfold Ob at he
   split at he
   ·exact ⟨_,by assumption⟩
   ·cases he
  obtain ⟨t,hk⟩:=hk
  simp only [Instr.findNow,hk,Instr.sameNow]
  by_cases Oq:s=t
  ·subst Oq
   have hb:(s==s)=true:=by rw [DB];simp
   rw [hb]
   refine ⟨some (i,e.val),rfl,by simp [Mc,hk,Ob],λj v hj=>?_⟩
   simp only [Option.some.injEq,Prod.mk.injEq] at hj
   obtain ⟨rfl,rfl⟩:=hj
   exact ⟨Nat.le_refl _,⟨e,by simp,hk⟩,λk e h=>by omega⟩
  ·obtain ⟨r,h1,h2,h3⟩:=dD s es (i+1) λe he=>h e (by simp [he])
   have hb:(s==t)=false:=by rw [DB];simpa using Oq
   rw [hb]
   refine ⟨r,h1,?_,λj v hj=>?_⟩
   ·rw [h2]
    simp only [Mc,hk,Ob]
    rw [if_neg (by simpa using λe:t=s=>Oq e.symm)]
   ·obtain ⟨h4,⟨e',h5,h6⟩,h7⟩:=h3 j v hj
    refine ⟨by omega,⟨e',by rw [show j-i=(j-(i+1))+1 by omega,List.getElem?_cons_succ];exact h5,h6⟩,λk e2 RQ he2=>?_⟩
    rcases k with _|k
    ·simp only [List.getElem?_cons_zero,Option.some.injEq] at he2
     subst he2
     rw [hk]
     simpa [Ob] using λe:t=s=>Oq e.symm
    ·exact h7 k e2 (by omega) (by simpa using he2)
theorem c6 {g:Nat} {es:Array MapEntry} {clock:Nat} (h:w.heap[g]?=some (.map es clock)):(getObj g).run P w= .ok (.map es clock) w:=by simp [getObj,Sem.run,h]
theorem Qp {k:TypeId} (hk:P.underlying k=some .string) (b:Bool) (s:ByteArray) (w:World):(Instr.checkKey b 10000 k (.string s)).run P w= .ok () w:=by
 rw [show (10000:Nat)=9999+1 from rfl]
 unfold Instr.checkKey
 rw [Sem.run_bind,run_underlying hk]
 rfl
theorem pB (hT:By P T) {st:St} {a:Act} (h:Ak X π st a w) (t:TypeId) (m k:AV) (ok:Bool) (vm vk:Value) (av:AV) (hm:Ao X w π st.heap m vm) (hk:Ao X w π st.heap k vk)
  (he:bz T st t m k ok=some av): ∃v,(Instr.lookup t vm vk ok).run P w= .ok v w/\Ao X w π st.heap av v:=by
 unfold bz at he
 split at he
 ·rename_i vt fr s ht
  have:=bV hk;subst this
  obtain ⟨kt,et,h1,h2,h3,h4,h5⟩:=hT.mapOf t vt ht
  split at he
  ·rename_i oI f hv
   simp only [Option.some.injEq] at he
   have hr:=Tq h.1 (S:= λ_=>False) (.smap vt) m vm oI f hm hv ⟨λ_ h=>h.elim, .inr λ_ h=>h.elim⟩
   obtain ⟨cs,hc,rfl⟩:=hr
   have LZ: ∀y:vt.den,∀u,Cells w (λ_=>False) vt [u] y->Bc w (Bj X.w0.heap.size X.Sc π true) vt u y:= λy u hu=>⟨[u],Cells.flat vt [u] y h4 hu,by simp [Au,h5]⟩
   obtain ⟨inf,hi,Qg,_,pU⟩:=(hT.ty et vt h3).info
   have hzero:(zeroValue et).run P w= .ok (Au vt (Ar vt)) w:=by simp [zeroValue,typeInfo,hi,pU]
   have SK:Cells w (λ_=>False) vt [Au vt (Ar vt)] vt.zero:=by
    cases vt<;>first|(simp [Ty.flat] at h4;done)|(simp [Ty.Ac] at h5;done)|(simp [Au,Ty.Ac,Ar,Cells,Ty.zero];done)
   have fin: ∀(es:List MapEntry),(∀e∈es,(Ob e.key).isSome=true)->(f s=none->Mc es s=none)->(∀y,f s=some y-> ∃u,Mc es s=some u/\Cells w (λ_=>False) vt [u] y)->
     (∀r,(Instr.findKey kt (.string s) es).run P w= .ok r w-> ∀u,r.map (·.2)=(if (f s).isSome then some u else none)->(r=none->u=Au vt (Ar vt))->
      (Instr.lookup t (Au (.smap vt) cs) (.string s) ok).run P w= .ok (if ok then .tuple #[u, .bool (f s).isSome] else u) w)->
     ∃v,(Instr.lookup t (Au (.smap vt) cs) (.string s) ok).run P w= .ok v w/\Ao X w π st.heap av v:=by
    intro es h6 h7 h8 h9
    obtain ⟨r,lg,cV,_⟩:=dD s es 0 h6
    have XI:(Instr.findKey kt (.string s) es).run P w= .ok r w:=by
     unfold Instr.findKey
     simp only [Sem.run_bind,run_underlying h2,Result.andThen_ok,lg,Sem.run_pure]
    have: ∃u,r.map (·.2)=(if (f s).isSome then some u else none)/\(r=none->u=Au vt (Ar vt))/\Cells w (λ_=>False) vt [u] ((f s).getD vt.zero):=by
     cases hf:f s with
     |none=>
      have h13:=h7 hf
      rw [h13] at cV
      exact ⟨Au vt (Ar vt),by rw [cV];rfl,λ_=>rfl,SK⟩
     |some y=>
      obtain ⟨u,h13,h14⟩:=h8 y hf
      rw [h13] at cV
      refine ⟨u,by rw [cV];rfl,λ(e:r=none)=>?_,h14⟩
      rw [e] at cV;cases cV
    obtain ⟨u,h13,h14,h15⟩:=this
    have Qh:=h9 r XI u h13 h14
    cases ok with
    |true=>
     simp only [if_true] at he Qh
     subst he
     exact ⟨_,Qh,[u, .bool (f s).isSome],rfl,LZ _ u h15,⟨[_],rfl,rfl⟩,trivial⟩
    |false=>
     simp only [Bool.false_eq_true,if_false] at he Qh
     subst he
     exact ⟨_,Qh,LZ _ u h15⟩
   have hmk: ∀v,Au (.smap vt) [v]=v:= λv=>by simp [Au,Ty.Ac]
   have run: ∀(r:Option (Nat×Value)) (u:Value) (b:Bool),r.map (·.2)=(if b then some u else none)->(r=none->u=Au vt (Ar vt))->
     (∃j,r=some (j,u)/\b=true)\/(r=none/\b=false/\u=Au vt (Ar vt)):=by
    intro r u b h6 h7
    cases r with
    |none=>cases b<;>simp at h6⊢;exact h7 rfl
    |some p=>cases b<;>simp at h6⊢;subst h6;exact ⟨p.1,rfl⟩
   simp only [Cells] at hc
   rcases hc with ⟨rfl,hf⟩|⟨g,rfl,hg,_,es,clock,h6,h7,h8,h9⟩
   ·refine fin [] (by simp) (λ_=>rfl) (λy hy=>by rw [hf] at hy;cases hy) λr h6 u h7 h8=>?_
    rcases run r u _ h7 h8 with ⟨j,rfl,hb⟩|⟨rfl,hb,rfl⟩
    ·rw [hf] at hb;cases hb
    ·rw [hb,hmk]
     unfold Instr.lookup
     generalize hz:Au vt (Ar vt)=z at hzero⊢
     simp [run_underlying h1,Qp h2,h6,hzero]
   ·refine fin es.toList h7 (λhn=>h8 s hn) (λy hy=>h9 s y hy) λr lg u cV XI=>?_
    rw [hmk]
    unfold Instr.lookup
    rcases run r u _ cV XI with ⟨j,rfl,hb⟩|⟨rfl,hb,rfl⟩
    ·rw [hb]
     simp [run_underlying h1,Qp h2,c6 h6,lg]
    ·rw [hb]
     generalize hz:Au vt (Ar vt)=z at hzero⊢
     simp [run_underlying h1,Qp h2,c6 h6,lg,hzero]
  ·cases he
 ·cases he
theorem NQ (ns:List Int): ∀b:ByteArray,ns.foldl (λr n=>r.push (UInt8.ofNat n.toNat)) b=⟨b.data++(ns.map λn=>UInt8.ofNat n.toNat).toArray⟩:=by
 induction ns with
 |nil=>intro b;simp
 |cons n ns ih=>
  intro b
  rw [List.foldl_cons,ih]
  simp [ByteArray.push]
theorem DT {s d:TypeId} {v:Value} {xs:List Int} (hT:By P T) (hs:T.ty s=some (.slice (.int .u8))) (hd:T.ty d=some .str) (h:Bc w (λ_=>False) (.slice (.int .u8)) v xs):
  (convert s d v).run P w= .ok (.string (bytesOf xs)) w:=by
 obtain ⟨te,h1,h2,h3⟩:=(hT.ty _ _ hs).desc
 have h4:P.underlying te=some (.int .u8):=(hT.ty _ _ h3).desc
 have h5:P.underlying d=some .string:=(hT.ty _ _ hd).desc
 obtain ⟨cs,hc,rfl⟩:=h
 simp only [Cells] at hc
 obtain ⟨a,len,cap,rfl,hlen,pR,EF⟩:=hc
 simp only [Au,Ty.Ac,Bool.false_eq_true,if_false,List.headD_cons]
 rw [run_convert_bytes_string w s d te a len cap h1 h4 h5]
 rcases EF with rfl|⟨g,o,rfl,hg,_,Fh⟩
 ·have:len=0:=hlen
  subst this
  cases a with
  |none=>simp [Conv.bytesToString,bytesOf];rfl
  |some a=>
   rw [run_bytesToString w a 0 cap [] (by simp [loadCells,loadCellsFrom])]
   rfl
 ·rw [run_bytesToString w _ len cap xs (by
   have:=run_loadCells_list (P:=P) w ⟨g,o,none⟩ (xs.map (Value.int .u8)) (λj v hv=>by
    rw [List.getElem?_map] at hv
    cases hj:xs[j]? with
    |none=>rw [hj] at hv;cases hv
    |some x=>
     rw [hj] at hv
     simp only [Option.map_some,Option.some.injEq] at hv
     subst hv
     obtain ⟨es,h6,h7,h8⟩:=Fh j x hj
     have h8:es= [.int .u8 x]:=h8
     subst h8
     rw [Addr.add_lit]
     have:=h7 0 _ rfl
     simpa [Ty.size] using this)
   rw [List.length_map,<-hlen] at this
   exact this)]
  rw [NQ]
  simp [bytesOf]
theorem ez (ρ:Operand->Value) (f:FuncId) (args:Array Operand) (ts:Array TypeId) (dst:Option Tmp) (ty:TypeId) (pos:String) (af:Array Edge) (gd:Option (Nat×Bool))
  (hρ:ρ (.func f)= .func (.func f) #[] #[]) (hc: ∀vs w,(callFunc f vs).run P w= .ok (.enter f vs) w):
  (execOp ρ ⟨dst, .call {callee:= .value (.func f),args:=args,argTypes:=ts},ty,pos,af,gd⟩).run P w= .ok (.enter f (args.map ρ)) w:=by
 simp [execOp,resolve,Deferred.ofValue,hρ,invoke,hc]
theorem vq {fr:Bool} : ∀(τ:Ty) (x:τ.den) (vs:List Value) (i:Nat) (av:AV),Bf w (Bj X.w0.heap.size X.Sc π fr) τ vs x->Zr fr τ x i=some av->
  ∃v,vs[i]?=some v/\Ao X w π H av v
 | .pair a r,x,[],i,av,h,he=>h.elim
 | .pair a r,x,v::vs,0,av,h,he=>by
  simp only [Zr,Option.some.injEq] at he;subst he
  exact ⟨v,rfl,qP h.1⟩
 | .pair a r,x,v::vs,i+1,av,h,he=>by
  obtain ⟨u,hu,hr⟩:=vq r x.2 vs i av h.2 he
  exact ⟨u,hu,hr⟩
 | .int _,_,_,i,_,_,he=>by cases i<;>simp [Zr] at he
 | .bool,_,_,i,_,_,he=>by cases i<;>simp [Zr] at he
 | .str,_,_,i,_,_,he=>by cases i<;>simp [Zr] at he
 | .slice _,_,_,i,_,_,he=>by cases i<;>simp [Zr] at he
 | .ptr _,_,_,i,_,_,he=>by cases i<;>simp [Zr] at he
 | .oslice _,_,_,i,_,_,he=>by cases i<;>simp [Zr] at he
 | .optr _,_,_,i,_,_,he=>by cases i<;>simp [Zr] at he
 | .smap _,_,_,i,_,_,he=>by cases i<;>simp [Zr] at he
 | .clo _ _,_,_,i,_,_,he=>by cases i<;>simp [Zr] at he
 | .unit,_,_,i,_,_,he=>by cases i<;>simp [Zr] at he
theorem MQ (x:AV) (vx:Value) (n:Int) (hx:Ao X w π H x vx) (h:TD x=some n): ∃a len cap,vx= .slice a len cap/\n=len:=by
 unfold TD at h
 split at h
 ·simp only [Option.some.injEq] at h;subst h
  exact ⟨none,0,0,hx,rfl⟩
 ·simp only [Option.some.injEq] at h;subst h
  obtain ⟨cs,hc,rfl⟩:=hx
  simp only [Cells] at hc
  obtain ⟨a,len,cap,rfl,hl,_⟩:=hc
  exact ⟨a,len,cap,by simp [Au,Ty.Ac],by rw [hl]⟩
 ·rename_i l off len
  simp only [Option.some.injEq] at h;subst h
  obtain ⟨b,sz,n,_,_,_,ho⟩:=hx
  cases hp:π l with
  |none=>rw [hp] at ho;obtain ⟨rfl,_,rfl⟩:=ho;exact ⟨none,0,0,rfl,rfl⟩
  |some r=>rw [hp] at ho;obtain ⟨ad,rfl,_⟩:=ho;exact ⟨some ad,len,_,rfl,rfl⟩
 ·cases h
theorem qI {c:AV} {v:Value} (h:Ao X w π H c v):Ao X w π H (m6 c) v:=by
 unfold m6
 split
 ·rename_i fr e x
  obtain ⟨cs,h1,h2⟩:=h
  rcases h1 with ⟨rfl,c,rfl⟩|⟨xs,ad,len,cap,rfl,rfl,h3,h4,h5⟩
  ·exact ⟨_,⟨none,0,c,rfl,rfl,Nat.zero_le _, .inl rfl⟩,h2⟩
  ·refine ⟨_,⟨some ad,len,cap,rfl,h3,h4,h5.imp id λ⟨g,o,g1,g2⟩=>⟨g,o,by rw [g1],g2⟩⟩,h2⟩
 ·exact h
theorem zz {st:St} (h:Im X w π st.heap) (x:AV) (vx:Value) (n:Int) (hx:Ao X w π st.heap x vx) (hn:zy st x=some n): ∃a len cap,vx= .slice a len cap/\n=len:=by
 unfold zy at hn
 split at hn
 ·rename_i l i c
  split at hn
  ·rename_i e te rows kp hl
   simp only [Option.some.injEq] at hn;subst hn
   unfold St.at at hl
   obtain ⟨r,b,sz,m,g1,g0,g2,g3,⟨g4,_⟩,g5⟩:=hx
   rw [hl] at g1;cases g1
   simp only [OB.cE,Option.some.injEq,Prod.mk.injEq] at g0
   obtain ⟨rfl,rfl⟩:=g0
   have gI:c=0:=by omega
   subst gI
   rw [Nat.mul_one,Nat.add_zero] at g5
   obtain ⟨u,R,k1,k2,k3⟩:=jS h hl g2 g3 (by simp)
   rw [g5] at k1
   have hu:=Option.some.inj k1
   subst hu
   cases R with
   |none=>obtain ⟨rfl,_,hh⟩:=k2;exact ⟨none,0,0,rfl,by rw [hh]⟩
   |some q=>obtain ⟨ad,rfl,_⟩:=k2;exact ⟨some ad,_,_,rfl,rfl⟩
  ·cases hn
 ·exact MQ x vx n hx hn
theorem MR (x:AV) (vx:Value) (n:Int) (hx:Ao X w π H x vx) (h:KD x=some n): ∃s,vx= .string s/\n=s.size:=by
 unfold KD at h
 split at h
 ·simp only [Option.some.injEq] at h;subst h
  exact ⟨_,bV hx,rfl⟩
 ·cases h
theorem pC {st:St} {a:Act} (h:Ak X π st a w) (mx:Bool) (args:List Operand) (av:AV) (ts:Array TypeId) (ty:TypeId) (he:vX mx (args.map st.ev)=some av):
  ∃v,(if mx then Builtin.max_ ts ty (args.map a.eval).toArray else Builtin.min_ ts ty (args.map a.eval).toArray).run P w= .ok v w/\Ao X w π st.heap av v:=by
 unfold vX at he
 split at he
 ·rename_i k n k' m heq
  cases args with
  |nil=>simp at heq
  |cons x r=>
   cases r with
   |nil=>simp at heq
   |cons y r=>
    simp only [List.map_cons,List.cons.injEq,List.map_eq_nil_iff] at heq
    obtain ⟨hx,hy,rfl⟩:=heq
    split at he
    ·rename_i hk;subst hk
     simp only [Vv,Option.some.injEq] at he;subst he
     have e1:=Bq h.2 x;rw [hx] at e1
     have e2:=Bq h.2 y;rw [hy] at e2
     have e1:=Ld e1
     have e2:=Ld e2
     refine ⟨_,?_,Jo _ _ _⟩
     cases mx<;>simp [Builtin.max_,Builtin.min_,Builtin.max2,Builtin.min2,e1,e2]
    ·cases he
 ·cases he
theorem dB {Γ:Env} (hT:By P T) (Kn:Gq P Γ) {st:St} {a:Act} (h:Ak X π st a w) (o:Oper) (av:AV) (he:Cm T Γ st o=some av):
  IN P X π st.heap w av ((execOp a.eval o).run P w):=by
 obtain ⟨dst,op,ty,pos,af,gd⟩:=o
 have val: ∀(s:Sem Value) (v:Value),s.run P w= .ok v w->Ao X w π st.heap av v->(execOp a.eval ⟨dst,op,ty,pos,af,gd⟩=do pure (.value (<-s)))->
   IN P X π st.heap w av ((execOp a.eval ⟨dst,op,ty,pos,af,gd⟩).run P w):=by
  intro s v h1 h2 h3
  rw [h3,Sem.run_bind,h1]
  exact ⟨rfl,h2⟩
 unfold Cm at he
 split at he
 all_goals (rename_i oM;dsimp only at oM;try subst oM)
 ·
  simp only [Option.some.injEq] at he;subst he
  exact ⟨rfl,Bq h.2 _⟩
 ·
  simp only [Option.some.injEq] at he;subst he
  exact ⟨rfl,Bq h.2 _⟩
 ·
  rename_i c x y
  unfold aC at he
  split at he
  ·rename_i fr b hc
   simp only [Option.some.injEq] at he;subst he
   have e:=Bq h.2 c
   rw [hc] at e
   have e:=Us e
   have:(execOp a.eval ⟨dst, .pick c x y,ty,pos,af,gd⟩).run P w= .ok (.value (if b then a.eval x else a.eval y)) w:=by
    simp [execOp,e,asBool]
   rw [this]
   refine ⟨rfl,?_⟩
   cases b
   ·exact Bq h.2 y
   ·exact Bq h.2 x
  ·cases he
 ·
  obtain ⟨v,h1,h2⟩:=jI hT h _ _ _ _ (Bq h.2 _) he
  exact val _ v h1 h2 rfl
 ·
  rename_i x
  have e:=Bq h.2 x
  split at he
  ·rename_i fr τ y hx
   simp only [Option.some.injEq] at he;subst he
   rw [hx] at e
   have e':=e
   obtain ⟨cs,hc,hv⟩:=e
   simp only [Cells] at hc
   obtain ⟨g,o,rfl,_⟩:=hc
   simp only [Au,Ty.Ac,Bool.false_eq_true,if_false,List.headD_cons] at hv
   have:(execOp a.eval ⟨dst, .nilCheck x,ty,pos,af,gd⟩).run P w= .ok (.value (a.eval x)) w:=by simp [execOp,hv]
   rw [this];exact ⟨rfl,e'⟩
  ·rename_i fr τ y hx
   simp only [Option.some.injEq] at he;subst he
   rw [hx] at e
   obtain ⟨cs,hc,hv⟩:=e
   simp only [Cells] at hc
   rcases hc with ⟨h0,_⟩|⟨y',g,o,h0,rfl,hr⟩
   ·cases h0
   simp only [Option.some.injEq] at h0;subst h0
   simp only [Au,Ty.Ac,Bool.false_eq_true,if_false,List.headD_cons] at hv
   have:(execOp a.eval ⟨dst, .nilCheck x,ty,pos,af,gd⟩).run P w= .ok (.value (a.eval x)) w:=by simp [execOp,hv]
   rw [this];exact ⟨rfl,[_],⟨g,o,rfl,hr⟩,by rw [hv];simp [Au,Ty.Ac]⟩
  ·rename_i l i hx
   simp only [Option.some.injEq] at he;subst he
   rw [hx] at e
   have e':=e
   obtain ⟨r,tid,vs,_,_,hv⟩:=e
   have:(execOp a.eval ⟨dst, .nilCheck x,ty,pos,af,gd⟩).run P w= .ok (.value (a.eval x)) w:=by simp [execOp,hv]
   rw [this];exact ⟨rfl,e'⟩
  ·rename_i l i hx
   simp only [Option.some.injEq] at he;subst he
   rw [hx] at e
   have e':=e
   obtain ⟨r,b,sz,n,_,_,_,_,hv⟩:=e
   have:(execOp a.eval ⟨dst, .nilCheck x,ty,pos,af,gd⟩).run P w= .ok (.value (a.eval x)) w:=by simp [execOp,hv]
   rw [this];exact ⟨rfl,e'⟩
  ·cases he
 ·
  obtain ⟨v,h1,h2⟩:=vV (P:=P) hT _ _ _ _ _ _ _ _ av (Bq h.2 _) (Bq h.2 _) he
  exact val _ v h1 h2 rfl
 ·
  obtain ⟨v,h1,h2⟩:=DZ (P:=P) _ _ _ av (Bq h.2 _) he
  exact val _ v h1 h2 rfl
 ·
  rename_i s t x
  split at he
  ·rename_i σ k ZZ k1 n hs ht hx
   simp only [Vv,Option.some.injEq] at he;subst he
   have e:=Bq h.2 x
   rw [hx] at e
   have e:=Ld e
   have hd:P.underlying t=some (.int k):=(hT.ty _ _ ht).desc
   have An4:(P.underlying s).isSome=true:=by
    obtain ⟨i,hi,_⟩:=(hT.ty _ _ hs).info
    have:=(hT.ty _ _ hs).desc
    cases σ<;>simp only at this
    all_goals first
     |(rw [this];rfl)
     |(obtain ⟨_,this,_⟩:=this;rw [this];rfl)
     |(obtain ⟨_,this⟩:=this;rw [this];rfl)
     |(obtain ⟨_,_,this⟩:=this;rw [this];rfl)
     |exact this.elim
   exact val _ (.int k (k.wrap n)) (by
    obtain ⟨d,hd0⟩:=Option.isSome_iff_exists.1 An4
    rw [e];simp [convert,run_underlying hd0,run_underlying hd,Conv.intToInt]) (Jo _ _ _) rfl
  ·rename_i _ _ hs ht
   cases hv:Cv st (.slice (.int .u8)) (st.ev x) with
   |none=>rw [hv] at he;cases he
   |some p=>
    rw [hv] at he
    simp only [Option.map_some,Option.some.injEq] at he;subst he
    have e:=Bq h.2 x
    have hr:=Tq h.1 (S:= λ_=>False) _ _ _ p.1 p.2 e hv ⟨λ_ h=>h.elim, .inr λ_ h=>h.elim⟩
    exact val _ _ (DT hT hs ht hr) (lV _ _) rfl
  ·cases he
 ·
  rename_i t x lo hi mx
  split at he
  ·cases he
  ·rename_i hmx
   simp only [Bool.not_eq_true,Option.isSome_eq_false_iff,Option.isNone_iff_eq_none] at hmx
   subst hmx
   obtain ⟨v,h1,h2⟩:=sn hT h t _ _ lo hi av (Bq h.2 x) he
   exact val _ v h1 h2 rfl
 ·
  obtain ⟨v,h1,h2⟩:=Yt hT _ _ _ _ av (Bq h.2 _) he
  exact val _ v (h1 w) h2 rfl
 ·
  obtain ⟨v,h1,h2⟩:=sl hT _ _ _ _ av (Bq h.2 _) he
  exact val _ v h1 h2 rfl
 ·
  obtain ⟨v,h1,h2⟩:=jH hT h _ _ _ _ _ av (qI (Bq h.2 _)) (Bq h.2 _) he
  exact val _ v h1 h2 rfl
 ·
  rename_i t x i
  unfold fe at he
  split at he
  ·rename_i ZZ s oI k n hx hi
   split at he
   ·rename_i Ss
    split at he
    ·rename_i h0
     cases hb:s[n.toNat]? with
     |none=>rw [hb] at he;cases he
     |some b=>
      rw [hb] at he
      simp only [Option.map_some,Option.some.injEq] at he;subst he
      have e1:=Bq h.2 x;rw [hx] at e1
      have e2:=Bq h.2 i;rw [hi] at e2
      have e1:=bV e1
      have e2:=Ld e2
      have hu:P.underlying t=some .string:=(hT.ty _ _ Ss).desc
      have h0':(0:Int)<=n:=h0
      exact val _ (.int .u8 b.toNat) (by
       rw [e1,e2]
       simp only [Instr.index,Sem.run_bind,asIntOf,Sem.run_pure,Result.andThen_ok,run_underlying hu]
       simp only [if_pos h0',hb,Sem.run_pure]) (Jo _ _ _) rfl
    ·cases he
   ·cases he
  ·cases he
 ·
  rename_i x i
  split at he
  ·rename_i fr τ y hx
   have e:=Bq h.2 x
   rw [hx] at e
   obtain ⟨vs,hv,hr⟩:=e
   obtain ⟨u,hu,bk⟩:=vq (H:=st.heap) τ y vs i av hr he
   exact val _ u (by rw [hv];simp [Instr.extract,hu]) bk rfl
  ·rename_i l hx
   have e:=Bq h.2 x
   rw [hx] at e
   obtain ⟨vs,hv,hlen,hr⟩:=e
   unfold VU at he
   cases hp:l[i]? with
   |none=>rw [hp] at he;cases he
   |some p=>
    rw [hp] at he
    simp only [Option.bind_some] at he
    have hi:i<vs.length:=by have:=(List.getElem?_eq_some_iff.1 hp).1;omega
    have hu:=List.getElem?_eq_getElem hi
    have bk:=hr i p _ hp hu
    refine val _ vs[i] (by rw [hv];simp [Instr.extract,hu]) ?_ rfl
    obtain ⟨b,cs⟩:=p
    unfold Aft at he
    split at he
    ·rename_i dx heq
     simp only [Prod.mk.injEq] at heq
     obtain ⟨rfl,rfl⟩:=heq
     simp only [Option.some.injEq] at he;subst he
     exact bk
    ·rename_i c heq
     simp only [Prod.mk.injEq] at heq
     obtain ⟨rfl,rfl⟩:=heq
     simp only [Option.some.injEq] at he;subst he
     exact bk c rfl
    ·cases he
  ·cases he
 ·
  rename_i f args ts
  have:=Vy Kn h f (args.toList.map st.ev) (args.toList.map a.eval) (by simp) (eu h _) av he
  rw [ez a.eval f args ts dst ty pos af gd rfl this.1]
  refine ⟨rfl,?_⟩
  have h2:=this.2
  rwa [show (args.toList.map a.eval).toArray=args.map a.eval from by apply Array.ext';simp] at h2
 ·
  rename_i t args ts
  obtain ⟨f,bs,us,h1,h2,h3⟩:=sk Kn h _ _ (Bq h.2 (.tmp t)) args.toList av he
  rw [xf a.eval t f bs us args ts dst ty pos af gd h1 h2]
  exact ⟨rfl,h3⟩
 ·
  rename_i f first Ca
  split at he
  ·rename_i iO
   replace iO:first= #[]:=by simpa using iO
   cases hc:iE (Ca.toList.map st.ev) with
   |none=>rw [hc] at he;cases he
   |some c=>
    rw [hc] at he
    simp only [Option.map_some,Option.some.injEq] at he;subst he
    obtain ⟨h1,h2⟩:=pt h _ _ hc
    subst iO
    refine val (Instr.makeFunc (.func f) #[] (Ca.map a.eval)) (.func (.func f) #[] (Ca.map a.eval)) rfl ⟨Ca.toList.map a.eval,?_,h1,h2⟩ (by simp [execOp])
    congr 1
    apply Array.ext';simp
  ·rename_i fr τ x iO
   split at he
   ·rename_i wa
    simp only [Option.some.injEq] at he;subst he
    simp only [Bool.and_eq_true,Bool.not_eq_true',Array.isEmpty_iff] at wa
    obtain ⟨Agb,Oi⟩:=wa
    subst Agb
    obtain ⟨o,rfl,EC⟩: ∃o,first= #[o]/\st.ev o= .at (.data fr τ x):=by
     obtain ⟨l⟩:=first
     cases l with
     |nil=>simp at iO
     |cons o r=>
      cases r with
      |nil=>exact ⟨o,rfl,by simpa using iO⟩
      |cons _ _=>simp at iO
    have hr:=Bq h.2 o
    rw [EC] at hr
    refine val (Instr.makeFunc (.func f) #[a.eval o] #[]) (.func (.func f) #[a.eval o] #[]) rfl ⟨[vT (f+1000000000) [a.eval o]],?_,?_⟩ (by simp [execOp])
    ·simp only [Cells]
     exact ⟨[a.eval o],rfl,[a.eval o],[],rfl,Bc.Mv Oi hr,rfl⟩
    ·rw [bx (by omega)];simp [Au,Ty.Ac]
   ·cases he
  ·cases he
 ·
  obtain ⟨v,h1,h2⟩:=pB hT h _ _ _ _ _ _ _ (Bq h.2 _) (Bq h.2 _) he
  exact val _ v h1 h2 rfl
 ·
  rename_i args ts
  split at he
  ·rename_i x t Ma q7
   have e1:args= #[x]:=by apply Array.ext';simpa using Ma
   have e2:ts= #[t]:=by apply Array.ext';simpa using q7
   subst e1;subst e2
   split at he
   ·rename_i e Ss
    cases hn:zy st (st.ev x) with
    |none=>rw [hn] at he;cases he
    |some n=>
     rw [hn] at he
     simp only [Option.bind_some,Vv,Option.some.injEq] at he;subst he
     obtain ⟨te,hu,_⟩:=(hT.ty _ _ Ss).desc
     obtain ⟨ad,len,cap,hv,rfl⟩:=zz h.1 _ _ n (Bq h.2 x) hn
     refine val (Builtin.len_ #[t] ty #[a.eval x]) (.int .i64 len) ?_ (Jo _ _ _) ?_
     ·rw [hv];simp [Builtin.len_,run_underlying hu,goInt]
     ·simp [execOp,resolve,invoke,builtin]
   ·rename_i e Ss
    cases hn:zy st (m6 (st.ev x)) with
    |none=>rw [hn] at he;cases he
    |some n=>
     rw [hn] at he
     simp only [Option.bind_some,Vv,Option.some.injEq] at he;subst he
     obtain ⟨te,hu,_⟩:=(hT.ty _ _ Ss).desc
     obtain ⟨ad,len,cap,hv,rfl⟩:=zz h.1 _ _ n (qI (Bq h.2 x)) hn
     refine val (Builtin.len_ #[t] ty #[a.eval x]) (.int .i64 len) ?_ (Jo _ _ _) ?_
     ·rw [hv];simp [Builtin.len_,run_underlying hu,goInt]
     ·simp [execOp,resolve,invoke,builtin]
   ·rename_i Ss
    cases hn:KD (st.ev x) with
    |none=>rw [hn] at he;cases he
    |some n=>
     rw [hn] at he
     simp only [Option.bind_some,Vv,Option.some.injEq] at he;subst he
     have hu:P.underlying t=some .string:=(hT.ty _ _ Ss).desc
     obtain ⟨s,hv,rfl⟩:=MR _ _ n (Bq h.2 x) hn
     refine val (Builtin.len_ #[t] ty #[a.eval x]) (.int .i64 s.size) ?_ (Jo _ _ _) ?_
     ·rw [hv];simp [Builtin.len_,run_underlying hu,goInt]
     ·simp [execOp,resolve,invoke,builtin]
   ·cases he
  ·cases he
 ·
  rename_i args ts
  obtain ⟨v,h1,h2⟩:=pC (P:=P) h false args.toList av ts ty he
  rw [show (args.toList.map a.eval).toArray=args.map a.eval from by apply Array.ext';simp] at h1
  refine val (Builtin.min_ ts ty (args.map a.eval)) v (by simpa only [Bool.false_eq_true,if_false,if_true] using h1) h2 ?_
  simp [execOp,resolve,invoke,builtin]
 ·
  rename_i args ts
  obtain ⟨v,h1,h2⟩:=pC (P:=P) h true args.toList av ts ty he
  rw [show (args.toList.map a.eval).toArray=args.map a.eval from by apply Array.ext';simp] at h1
  refine val (Builtin.max_ ts ty (args.map a.eval)) v (by simpa only [Bool.false_eq_true,if_false,if_true] using h1) h2 ?_
  simp [execOp,resolve,invoke,builtin]
 ·cases he
end
end Go.Proofs.YtfolipnappekaaaGreat
