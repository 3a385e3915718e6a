/-
  Part 9 of the proof that the statement FnExactIsMethodSolution holds.
-/
import Derived.Test.YtebabhocakedaaaCIsMethodSolution07
import Derived.Laws.BytesString
namespace Go.Proofs.Ytebabhocakedaaa
open Go.RowKit
section
variable {P:Program} {T:Tab} {X:Ctx} {w w':World} {π:Pi} {H:List (Nat×OB)}
theorem Bc.Eb {S S':Nat→Prop} {τ:Ty} {v:Value} {x:τ.den} (h:Bc w S τ v x) (hS: ∀k,k<w.heap.size→S' k→S k):Bc w S' τ v x:=
 let ⟨cs,hc,hv⟩:=h
 ⟨cs,Cells.Ch (Nat.le_refl _) (fun _ _ _=>rfl) hS τ cs x hc,hv⟩
theorem Au.Eb {S S':Nat→Prop} {τ:Ty} {vs:List Value} {x:τ.den} (h:Au w S τ vs x) (hS: ∀k,k<w.heap.size→S' k→S k):Au w S' τ vs x:=
 Au.Ch ⟨Nat.le_refl _,fun _ _ _=>rfl⟩ hS τ vs x h
theorem Au.flat {S S':Nat→Prop} : ∀(τ:Ty) (vs:List Value) (x:τ.den),τ.flat=true→Au w S τ vs x→Au w S' τ vs x
 | .pair a r,[],x,_,h=>h
 | .pair a r,v::vs,x,hf,h=>by
  simp only [Ty.flat,Bool.and_eq_true] at hf
  exact ⟨h.1.flat hf.1,Au.flat r vs x.2 hf.2 h.2⟩
 | .unit,[],_,_,_=>trivial
 | .unit,_::_,_,_,h=>h
 | .int _,_,_,_,h=>by simp [Au] at h
 | .bool,_,_,_,h=>by simp [Au] at h
 | .str,_,_,_,h=>by simp [Au] at h
 | .slice _,_,_,_,h=>by simp [Au] at h
 | .ptr _,_,_,_,h=>by simp [Au] at h
 | .oslice _,_,_,_,h=>by simp [Au] at h
 | .optr _,_,_,_,h=>by simp [Au] at h
 | .smap _,_,_,_,h=>by simp [Au] at h
 | .clo _ _,_,_,_,h=>by simp [Au] at h
theorem Ta {fr:Bool} {τ τ':Ty} {x:τ'.den} {f:Bool} {y:τ.den} {v:Value} (h:Yh fr τ τ' x=some (f,y)) (hc:Bc w (Bb X.w0.heap.size X.Sc π fr) τ' v x):
  Cells w (Bb X.w0.heap.size X.Sc π f) τ [v] y:=by
 unfold Yh at h
 split at h
 ·split at h
  ·rename_i e e' _ hee
   subst hee
   simp only [Option.some.injEq,Prod.mk.injEq] at h
   obtain ⟨rfl,rfl⟩:=h
   have h1:=Bc.Kv rfl hc
   simp only [Cells] at h1⊢
   rcases h1 with ⟨rfl,c,h1⟩|⟨xs,ad,len,cap,rfl,h1,h2,h3,h4⟩
   ·exact ⟨none,0,c,h1,rfl,Nat.zero_le _, .inl rfl⟩
   ·exact ⟨_,len,cap,h1,h2,h3,h4.imp id fun ⟨g,o,ha,h4⟩=>⟨g,o,by rw [ha],h4⟩⟩
  ·cases h
 ·split at h
  ·rename_i a a' _ haa
   subst haa
   simp only [Option.some.injEq,Prod.mk.injEq] at h
   obtain ⟨rfl,rfl⟩:=h
   have h1:=Bc.Kv rfl hc
   simp only [Cells] at h1⊢
   obtain ⟨g,o,h2⟩:=h1
   exact .inr ⟨_,g,o,rfl,h2⟩
  ·cases h
 ·cases h
theorem Aa3 {st:St} (τ:Ty) (c:AC) (v:Value) (fr:Bool) (x:τ.den) (hτ:τ.Ab=false) (hs:c.settled=true) (hc:Df X w π st.heap c v)
  (hv:Bj st τ c=some (fr,x)):Cells w (Bb X.w0.heap.size X.Sc π fr) τ [v] x:=by
 cases c with
 |data fr' τ' y=>
  rw [He] at hv
  split at hv
  ·rename_i ht;subst ht
   simp only [Option.some.injEq,Prod.mk.injEq] at hv
   obtain ⟨rfl,rfl⟩:=hv
   have h1:=Bc.Kv hτ hc
   cases hf:τ'.flat with
   |true=>exact Cells.flat τ' _ _ hf h1
   |false=>rw [Bool.or_false];exact h1
  ·exact Ta hv hc
 |nilv=>
  cases τ with
  |slice e=>
   simp only [Bj,Option.some.injEq,Prod.mk.injEq] at hv
   obtain ⟨_,rfl⟩:=hv
   exact ⟨none,0,0,by rw [show v=_ from hc],rfl,Nat.le_refl _, .inl rfl⟩
  |oslice e=>
   simp only [Bj,Option.some.injEq,Prod.mk.injEq] at hv
   obtain ⟨_,rfl⟩:=hv
   exact .inl ⟨rfl,0,by rw [show v=_ from hc]⟩
  |_=>simp [Bj] at hv
 |nilp=>
  cases τ with
  |optr e=>
   simp only [Bj,Option.some.injEq,Prod.mk.injEq] at hv
   obtain ⟨_,rfl⟩:=hv
   exact .inl ⟨rfl,by rw [show v=_ from hc]⟩
  |_=>simp [Bj] at hv
 |_=>simp [AC.settled] at hs
theorem Cells.and_left {f1 f2:Bool} {τ:Ty} {cs:List Value} {x:τ.den} (h:Cells w (Bb X.w0.heap.size X.Sc π f1) τ cs x):Cells w (Bb X.w0.heap.size X.Sc π (f1&&f2)) τ cs x:=
 Cells.Ch (Nat.le_refl _) (fun _ _ _=>rfl) (fun k _ hk=>by
  rcases hk with h1|h1|⟨h1,h2⟩
  ·exact .inl h1
  ·exact .inr (.inl h1)
  ·simp at h1;exact .inr (.inr ⟨h1.1,h2⟩)) τ cs x h
theorem Cells.and_right {f1 f2:Bool} {τ:Ty} {cs:List Value} {x:τ.den} (h:Cells w (Bb X.w0.heap.size X.Sc π f2) τ cs x):Cells w (Bb X.w0.heap.size X.Sc π (f1&&f2)) τ cs x:=
 Cells.Ch (Nat.le_refl _) (fun _ _ _=>rfl) (fun k _ hk=>by
  rcases hk with h1|h1|⟨h1,h2⟩
  ·exact .inl h1
  ·exact .inr (.inl h1)
  ·simp at h1;exact .inr (.inr ⟨h1.2,h2⟩)) τ cs x h
theorem Sw {st:St} : ∀(τ:Ty) (cs:List AC) (us:List Value) (fr:Bool) (x:τ.den),cs.all (·.settled)=true→Cl X w π st.heap cs us→
  Ce st τ cs=some (fr,x)→Cells w (Bb X.w0.heap.size X.Sc π fr) τ us x:=by
 have one: ∀(τ:Ty) (cs:List AC) (us:List Value) (fr:Bool) (x:τ.den),τ.Ab=false→cs.all (·.settled)=true→Cl X w π st.heap cs us→
   Ce st τ cs=some (fr,x)→Cells w (Bb X.w0.heap.size X.Sc π fr) τ us x:=by
  intro τ cs us fr x hτ hs hr hv
  rw [Kz hτ] at hv
  split at hv
  ·rename_i c
   obtain ⟨u,hu,_,hc⟩:=hr.2 0 c rfl
   have hl:us.length=1:=hr.1
   obtain ⟨u',rfl⟩:=List.length_eq_one_iff.1 hl
   simp at hu;subst hu
   exact Aa3 τ c _ fr x hτ (by simpa using hs) hc hv
  ·cases hv
 intro τ
 induction τ with
 |unit=>
  intro cs us fr x hs hr hv
  cases cs with
  |nil=>have:us= []:=List.eq_nil_of_length_eq_zero hr.1;exact this
  |cons c cs=>simp [Ce] at hv
 |pair a r iha ihr=>
  intro cs us fr x hs hr hv
  simp only [Ce] at hv
  split at hv
  ·rename_i f1 y f2 z h1 h2
   simp only [Option.some.injEq,Prod.mk.injEq] at hv
   obtain ⟨rfl,rfl⟩:=hv
   have hr1:Cl X w π st.heap (cs.take a.size) (us.take a.size):=by have:=Ow hr 0 a.size;simpa using this
   have hr2:Cl X w π st.heap (cs.drop a.size) (us.drop a.size):=
    ⟨by simp [hr.1],fun i c hc=>by
     rw [List.getElem?_drop] at hc⊢
     exact hr.2 _ c hc⟩
   have hs1:(cs.take a.size).all (·.settled)=true:=List.all_eq_true.2 fun c hc=>List.all_eq_true.1 hs c (List.mem_of_mem_take hc)
   have hs2:(cs.drop a.size).all (·.settled)=true:=List.all_eq_true.2 fun c hc=>List.all_eq_true.1 hs c (List.mem_of_mem_drop hc)
   exact ⟨us.take a.size,us.drop a.size,(List.take_append_drop _ _).symm,(iha _ _ _ _ hs1 hr1 h1).and_left,(ihr _ _ _ _ hs2 hr2 h2).and_right⟩
  ·cases hv
 |_=>exact fun cs us fr x hs hr hv=>one _ cs us fr x rfl hs hr hv
theorem Jb {st:St} {τ:Ty} {c:AC} (h:c.settled=true):Ek st τ c=Bj st τ c:=by
 cases c<;>simp [AC.settled] at h<;>cases τ<;>rfl
theorem Ia {st:St} (τ:Ty) (c:AV) (v:Value) (fr:Bool) (x:τ.den) (hs:c.settled=true) (hc:Ai X w π st.heap c v)
  (hv:Ci st τ c=some (fr,x)):Bc w (Bb X.w0.heap.size X.Sc π fr) τ v x:=by
 have hother: ∀c:AC,c.settled=true→Df X w π st.heap c v→(if τ.Ab then none else Ek st τ c)=some (fr,x)→Bc w (Bb X.w0.heap.size X.Sc π fr) τ v x:=by
  intro c hs hc hv
  split at hv
  ·cases hv
  ·rename_i hτ
   simp only [Bool.not_eq_true] at hτ
   rw [Jb hs] at hv
   exact Bc.Aea hτ (Aa3 τ c v fr x hτ hs hc hv)
 cases c with
 | «at»c=>
  cases c with
  |data fr' τ' y=>
   rw [Su] at hv
   split at hv
   ·rename_i ht;subst ht
    simp only [Option.some.injEq,Prod.mk.injEq] at hv
    obtain ⟨rfl,rfl⟩:=hv
    cases hf:τ'.flat with
    |true=>exact Bc.flat hf hc
    |false=>rw [Bool.or_false];exact hc
   ·exact hother (.data fr' τ' y) hs hc hv
  |nilv=>exact hother .nilv hs hc hv
  |nilp=>exact hother .nilp hs hc hv
  |undef=>simp [AV.settled,AC.settled] at hs
  |skip=>simp [AV.settled,AC.settled] at hs
  |own l off len=>simp [AV.settled,AC.settled] at hs
  |vptr l i=>simp [AV.settled,AC.settled] at hs
  |eptr l i=>simp [AV.settled,AC.settled] at hs
  |clo f caps=>simp [AV.settled,AC.settled] at hs
  |mapr l=>simp [AV.settled,AC.settled] at hs
  |sub l i c=>simp [AV.settled,AC.settled] at hs
  |sptr l i c=>simp [AV.settled,AC.settled] at hs
 |agg cs=>
  simp only [Ci] at hv
  split at hv
  ·rename_i hτ
   obtain ⟨us,rfl,hr⟩:=hc
   exact ⟨us,Sw τ cs us fr x hs hr hv,by simp [Ap,hτ]⟩
  ·cases hv
 |tup fr' τ' y=>simp [Ci] at hv
 |tupc l=>simp [Ci] at hv
theorem Uv {st:St} : ∀(τ:Ty) (cs:List AV) (vs:List Value) (fr:Bool) (x:τ.den),cs.length=vs.length→cs.all (·.settled)=true→
  (∀(i:Nat) c v,cs[i]?=some c→vs[i]?=some v→Ai X w π st.heap c v)→Bm st τ cs=some (fr,x)→Au w (Bb X.w0.heap.size X.Sc π false) τ vs x
 | .unit,[],vs,fr,x,hl,hs,hr,hv=>by
  have:vs= []:=List.eq_nil_of_length_eq_zero hl.symm
  subst this;trivial
 | .unit,_::_,vs,fr,x,hl,hs,hr,hv=>by simp [Bm] at hv
 | .pair a r,[],vs,fr,x,hl,hs,hr,hv=>by simp [Bm] at hv
 | .pair a r,c::cs,[],fr,x,hl,hs,hr,hv=>by simp at hl
 | .pair a r,c::cs,v::vs,fr,x,hl,hs,hr,hv=>by
  simp only [Bm] at hv
  split at hv
  ·rename_i f1 y f2 z h1 h2
   simp only [Option.some.injEq,Prod.mk.injEq] at hv
   obtain ⟨rfl,rfl⟩:=hv
   simp only [List.all_cons,Bool.and_eq_true] at hs
   exact ⟨(Ia a c v f1 y hs.1 (hr 0 c v rfl rfl) h1).Eb (fun k _ hk=>by
     rcases hk with h|h|⟨h,_⟩
     ·exact .inl h
     ·exact .inr (.inl h)
     ·cases h),
    Uv r cs vs f2 z (by simpa using hl) hs.2 (fun i c' v' hc hv'=>hr (i+1) c' v' hc hv') h2⟩
  ·cases hv
 | .int _,cs,vs,fr,x,hl,hs,hr,hv=>by cases cs<;>simp [Bm] at hv
 | .bool,cs,vs,fr,x,hl,hs,hr,hv=>by cases cs<;>simp [Bm] at hv
 | .str,cs,vs,fr,x,hl,hs,hr,hv=>by cases cs<;>simp [Bm] at hv
 | .slice _,cs,vs,fr,x,hl,hs,hr,hv=>by cases cs<;>simp [Bm] at hv
 | .ptr _,cs,vs,fr,x,hl,hs,hr,hv=>by cases cs<;>simp [Bm] at hv
 | .oslice _,cs,vs,fr,x,hl,hs,hr,hv=>by cases cs<;>simp [Bm] at hv
 | .optr _,cs,vs,fr,x,hl,hs,hr,hv=>by cases cs<;>simp [Bm] at hv
 | .smap _,cs,vs,fr,x,hl,hs,hr,hv=>by cases cs<;>simp [Bm] at hv
 | .clo _ _,cs,vs,fr,x,hl,hs,hr,hv=>by cases cs<;>simp [Bm] at hv
theorem Aei {st:St} {a:Act} (h:Af X π st a w) (args:List Operand) (i:Nat) (c:AV) (v:Value) (hc:(args.map st.ev)[i]?=some c) (hv:(args.map a.eval)[i]?=some v):Ai X w π st.heap c v:=by
 rw [List.getElem?_map] at hc hv
 cases hi:args[i]? with
 |none=>rw [hi] at hc;cases hc
 |some o=>
  rw [hi] at hc hv
  simp only [Option.map_some,Option.some.injEq] at hc hv
  subst hc;subst hv
  exact Bk h.2 o
theorem Vi {Γ:Env} (hΓ:Gl P Γ) {st:St} {a:Act} (h:Af X π st a w) (f:FuncId) (cs:List AV) (vs:List Value) (hlen:cs.length=vs.length)
  (hreps: ∀(i:Nat) c v,cs[i]?=some c→vs[i]?=some v→Ai X w π st.heap c v) (av:AV) (he:Iu Γ st f cs=some av):
  (∀vs w,(callFunc f vs).run P w= .ok (.enter f vs) w)∧
  Calls P f vs.toArray w (fun e w''=> ∃v,e= .returned v∧Below w.heap.size w w''∧Ai X w'' π st.heap av v):=by
 unfold Iu at he
 split at he
 ·rename_i s hs
  have snd:Sound P f s:=hΓ f _ hs
  refine ⟨snd.enter,?_⟩
  split at he
  ·rename_i hcond
   split at he
   ·cases he
   ·rename_i fr0 x hx
    cases hy:s.fn x with
    |none=>rw [hy] at he;cases he
    |some y=>
     rw [hy] at he
     simp only [Option.map_some,Option.some.injEq] at he
     have hres: ∀(S:Nat→Prop),(∀k,S k→k<w.heap.size)→Au w S s.arg vs x→(s.fresh=true∨s.res.flat=true∨ ∀k,Bb X.w0.heap.size X.Sc π false k→S k)→
       Calls P f vs.toArray w (fun e w''=> ∃v,e= .returned v∧Below w.heap.size w w''∧Ai X w'' π st.heap av v):=by
      intro S hSlt hargs hwhy
      refine (snd.calls w S _ x y hSlt hargs hy).mono ?_
      rintro e w'' ⟨v,rfl,hb,hr⟩
      refine ⟨v,rfl,hb,?_⟩
      have hA:s.res.flat=true∨ ∀k,k<w''.heap.size→Bb X.w0.heap.size X.Sc π (s.fresh||s.res.flat) k→(S k∨(s.fresh=true∧k<w.heap.size)):=by
       cases hf:s.res.flat with
       |true=>exact .inl rfl
       |false=>
        right
        intro k _ hk
        cases hfr:s.fresh with
        |true=>
         right
         refine ⟨rfl,?_⟩
         rcases hk with ⟨l,r,hl,hg⟩|hk|⟨_,hk⟩
         ·exact (h.1.own ⟨l,r,hl,hg⟩).1
         ·have:=h.1.sc k hk;have:=h.1.below.size;omega
         ·have:=h.1.below.size;omega
        |false=>
         left
         have hk':Bb X.w0.heap.size X.Sc π false k:=by simpa [hfr,hf] using hk
         rcases hwhy with h1|h1|h1
         ·rw [hfr] at h1;cases h1
         ·rw [hf] at h1;cases h1
         ·exact h1 k hk'
      unfold Ac0 at hr
      subst he
      split
      ·rename_i hm
       rw [if_pos hm] at hr
       obtain ⟨us,rfl,hr⟩:=hr
       refine ⟨us,rfl,?_⟩
       rcases hA with hf|hA
       ·exact Au.flat _ _ _ hf hr
       ·exact hr.Eb hA
      ·rename_i hm
       rw [if_neg hm] at hr
       rcases hA with hf|hA
       ·exact Bc.flat hf hr
       ·exact hr.Eb hA
     cases hff:(s.fresh||s.res.flat) with
     |true=>
      refine hres (fun _=>False) (fun _ h=>h.elim) (Qf h.1 s.arg _ _ fr0 x hlen hreps hx ⟨fun _ h=>h.elim, .inr fun _ h=>h.elim⟩) ?_
      simp only [Bool.or_eq_true] at hff
      rcases hff with h1|h1
      ·exact .inl h1
      ·exact .inr (.inl h1)
     |false=>
      rw [hff,Bool.false_or] at hcond
      refine hres (Bb X.w0.heap.size X.Sc π false) (fun k hk=>?_) (Uv s.arg _ _ fr0 x hlen hcond hreps hx) (.inr (.inr fun _ hk=>hk))
      rcases hk with ⟨l,r,hl,hg⟩|hk|⟨hk,_⟩
      ·exact (h.1.own ⟨l,r,hl,hg⟩).1
      ·have:=h.1.sc k hk;have:=h.1.below.size;omega
      ·cases hk
  ·cases he
 ·cases he
theorem Aim {fr:Bool} : ∀(τ:Ty) (us:List Value) (x:τ.den),(∀a r,τ≠ .pair a r→True)→Cells w (Bb X.w0.heap.size X.Sc π fr) τ us x→τ.chain=true→
  (Vf fr τ x).length=us.length∧ ∀(i:Nat) c v,(Vf fr τ x)[i]?=some c→us[i]?=some v→Ai X w π H c v
 | .unit,us,x,_,hc,_=>by
  simp only [Cells] at hc
  subst hc
  exact ⟨rfl,fun i c v h=>by simp [Vf] at h⟩
 | .pair a r,us,x,_,hc,hch=>by
  simp only [Cells] at hc
  simp only [Ty.chain,Bool.and_eq_true,Bool.not_eq_true'] at hch
  obtain ⟨c1,c2,rfl,h1,h2⟩:=hc
  have hl:=Cells.len a c1 x.1 h1
  have h3:a.size=1:=by cases a<;>simp_all [Ty.Ab,Ty.size]
  rw [h3] at hl
  obtain ⟨u,rfl⟩:=List.length_eq_one_iff.1 hl
  obtain ⟨h4,h5⟩:=Aim r c2 x.2 (fun _ _ _=>trivial) h2 hch.2
  refine ⟨by simp [Vf,h4],fun i c v hc hv=>?_⟩
  rcases i with _|i
  ·simp only [Vf,List.getElem?_cons_zero,Option.some.injEq] at hc
   simp only [List.singleton_append,List.getElem?_cons_zero,Option.some.injEq] at hv
   subst hc;subst hv
   exact ⟨[u],h1,by simp [Ap,hch.1]⟩
  ·simp only [Vf,List.getElem?_cons_succ] at hc
   simp only [List.singleton_append,List.getElem?_cons_succ] at hv
   exact h5 i c v hc hv
 | .int _,_,_,_,_,h=>by simp [Ty.chain] at h
 | .bool,_,_,_,_,h=>by simp [Ty.chain] at h
 | .str,_,_,_,_,h=>by simp [Ty.chain] at h
 | .slice _,_,_,_,_,h=>by simp [Ty.chain] at h
 | .oslice _,_,_,_,_,h=>by simp [Ty.chain] at h
 | .ptr _,_,_,_,_,h=>by simp [Ty.chain] at h
 | .optr _,_,_,_,_,h=>by simp [Ty.chain] at h
 | .smap _,_,_,_,_,h=>by simp [Ty.chain] at h
 | .clo _ _,_,_,_,_,h=>by simp [Ty.chain] at h
theorem Agf {cs ds:List AV} {vs us:List Value} (hl:cs.length=vs.length) (h1: ∀(i:Nat) c v,cs[i]?=some c→vs[i]?=some v→Ai X w π H c v)
  (h2: ∀(i:Nat) c v,ds[i]?=some c→us[i]?=some v→Ai X w π H c v) (i:Nat) (c:AV) (v:Value) (hc:(cs++ds)[i]?=some c) (hv:(vs++us)[i]?=some v):Ai X w π H c v:=by
 by_cases hi:i<cs.length
 ·rw [List.getElem?_append_left hi] at hc
  rw [List.getElem?_append_left (by omega)] at hv
  exact h1 i c v hc hv
 ·rw [List.getElem?_append_right (by omega)] at hc
  rw [List.getElem?_append_right (by omega)] at hv
  rw [hl] at hc
  exact h2 _ c v hc hv
theorem Al4 {Γ:Env} (hΓ:Gl P Γ) {st:St} {a:Act} (h:Af X π st a w) (c:AV) (v:Value) (hv:Ai X w π st.heap c v) (args:List Operand) (av:AV) (he:Qg Γ st c (args.map st.ev)=some av):
  ∃f us,v= .func (.func f) #[] (us:List Value).toArray∧(∀vs w,(callFunc f vs).run P w= .ok (.enter f vs) w)∧
  Calls P f (args.map a.eval++us).toArray w (fun e w''=> ∃v,e= .returned v∧Below w.heap.size w w''∧Ai X w'' π st.heap av v):=by
 unfold Qg at he
 split at he
 ·rename_i fr f τ x
  split at he
  ·rename_i hch
   obtain ⟨cs,hc,rfl⟩:=hv
   simp only [Cells] at hc
   obtain ⟨us,rfl,hc⟩:=hc
   obtain ⟨h1,h2⟩:=Aim (H:=st.heap) τ us x (fun _ _ _=>trivial) hc hch
   have:=Vi hΓ h f _ (args.map a.eval++us) (by simp [h1]) (Agf (by simp) (Aei h args) h2) av he
   exact ⟨f,us,by simp [Ap,Ty.Ab],this⟩
  ·cases he
 ·rename_i f caps
  obtain ⟨us,rfl,h1,h2⟩:=hv
  have:=Vi hΓ h f _ (args.map a.eval++us) (by simp [h1]) (Agf (by simp) (Aei h args) (fun i c v hc hv=>by
   rw [List.getElem?_map] at hc
   cases hi:caps[i]? with
   |none=>rw [hi] at hc;cases hc
   |some p=>
    rw [hi] at hc
    simp only [Option.map_some,Option.some.injEq] at hc
    subst hc
    obtain ⟨r,tid,vs,h3,h4,h5⟩:=h2 i p hi
    rw [h5] at hv
    simp only [Option.some.injEq] at hv
    subst hv
    exact ⟨r,tid,vs,h3,h4,rfl⟩)) av he
  exact ⟨f,us,rfl,this⟩
 ·cases he
theorem Aq7 (ρ:Operand→Value) (t:Nat) (f:FuncId) (us:List Value) (args:Array Operand) (ts:Array TypeId) (dst:Option Tmp) (ty:TypeId) (pos:String) (af:Array Edge) (gd:Option (Nat×Bool))
  (hρ:ρ (.tmp t)= .func (.func f) #[] us.toArray) (hc: ∀vs w,(callFunc f vs).run P w= .ok (.enter f vs) w):
  (execOp ρ ⟨dst, .call {callee:= .value (.tmp t),args:=args,argTypes:=ts},ty,pos,af,gd⟩).run P w= .ok (.enter f (args.toList.map ρ++us).toArray) w:=by
 have:(args.map ρ)++us.toArray=(args.toList.map ρ++us).toArray:=by apply Array.ext';simp
 simp [execOp,resolve,Deferred.ofValue,hρ,invoke,hc,this]
theorem Ain {st:St} {a:Act} (h:Af X π st a w): ∀(l:List Operand) (c:List (Nat×Nat)),Ac7 (l.map st.ev)=some c→
  (l.map a.eval).length=c.length∧ ∀(j:Nat) p,c[j]?=some p→ ∃r tid vs,Ac st.heap p.1=some (.var tid vs)∧π p.1=some r∧(l.map a.eval)[j]?=some (.pointer (some ⟨r.g,p.2,none⟩))
 | [],c,he=>by simp only [List.map_nil,Ac7,Option.some.injEq] at he;subst he;exact ⟨rfl,fun j p hp=>by simp at hp⟩
 |x::l,c,he=>by
  simp only [List.map_cons] at he
  unfold Ac7 at he
  split at he
  ·rename_i heq;simp at heq
  ·rename_i k i r heq
   simp only [List.cons.injEq] at heq
   obtain ⟨h1,rfl⟩:=heq
   cases hr:Ac7 (l.map st.ev) with
   |none=>rw [hr] at he;cases he
   |some c'=>
    rw [hr] at he
    simp only [Option.map_some,Option.some.injEq] at he
    subst he
    obtain ⟨h2,h3⟩:=Ain h l c' hr
    have e:=Bk h.2 x
    rw [h1] at e
    obtain ⟨r,tid,vs,h4,h5,h6⟩:=e
    refine ⟨by simpa using h2,fun j p hp=>?_⟩
    rcases j with _|j
    ·simp only [List.getElem?_cons_zero,Option.some.injEq] at hp;subst hp
     exact ⟨r,tid,vs,h4,h5,by rw [List.map_cons,List.getElem?_cons_zero,h6]⟩
    ·exact h3 j p hp
  ·cases he
theorem Av3 (a b:ByteArray):(a==b)=decide (a=b):=by
 obtain ⟨a⟩:=a;obtain ⟨b⟩:=b
 show ByteArray.beq _ _=_
 unfold ByteArray.beq
 by_cases h:a=b
 ·subst h;simp
 ·rw [decide_eq_false (by simpa using h)];simpa using h
theorem Ym (s:ByteArray): ∀(es:List MapEntry) (i:Nat),(∀e∈es,(Kn e.key).isSome=true)→
  ∃r,Instr.findNow .string (.string s) es i=some r∧r.map (·.2)=Jl es s∧(∀j v,r=some (j,v)→i≤j∧(∃e,es[j-i]?=some e∧e.key= .string s)∧ ∀k e,k<j-i→es[k]?=some e→Kn e.key≠some s)
 | [],i,_=>⟨none,rfl,rfl,fun j v h=>by cases h⟩
 |e::es,i,h=>by
  have he:=h e (by simp)
  have hk: ∃t,e.key= .string t:=by
   unfold Kn at he
   split at he
   ·exact ⟨_,by assumption⟩
   ·cases he
  obtain ⟨t,hk⟩:=hk
  simp only [Instr.findNow,hk,Instr.sameNow]
  by_cases hst:s=t
  ·subst hst
   have hb:(s==s)=true:=by rw [Av3];simp
   rw [hb]
   refine ⟨some (i,e.val),rfl,by simp [Jl,hk,Kn],fun j v hj=>?_⟩
   simp only [Option.some.injEq,Prod.mk.injEq] at hj
   obtain ⟨rfl,rfl⟩:=hj
   exact ⟨Nat.le_refl _,⟨e,by simp,hk⟩,fun k e h=>by omega⟩
  ·obtain ⟨r,h1,h2,h3⟩:=Ym s es (i+1) fun e he=>h e (by simp [he])
   have hb:(s==t)=false:=by rw [Av3];simpa using hst
   rw [hb]
   refine ⟨r,h1,?_,fun j v hj=>?_⟩
   ·rw [h2]
    simp only [Jl,hk,Kn]
    rw [if_neg (by simpa using fun e:t=s=>hst e.symm)]
   ·obtain ⟨h4,⟨e',h5,h6⟩,h7⟩:=h3 j v hj
    refine ⟨by omega,⟨e',by rw [show j-i=(j-(i+1))+1 by omega,List.getElem?_cons_succ];exact h5,h6⟩,fun k e2 hk2 he2=>?_⟩
    rcases k with _|k
    ·simp only [List.getElem?_cons_zero,Option.some.injEq] at he2
     subst he2
     rw [hk]
     simpa [Kn] using fun e:t=s=>hst e.symm
    ·exact h7 k e2 (by omega) (by simpa using he2)
theorem Wj {g:Nat} {es:Array MapEntry} {clock:Nat} (h:w.heap[g]?=some (.map es clock)):(getObj g).run P w= .ok (.map es clock) w:=by simp [getObj,Sem.run,h]
theorem Ma {k:TypeId} (hk:P.underlying k=some .string) (b:Bool) (s:ByteArray) (w:World):(Instr.checkKey b 10000 k (.string s)).run P w= .ok () w:=by
 rw [show (10000:Nat)=9999+1 from rfl]
 unfold Instr.checkKey
 rw [Sem.run_bind,run_underlying hk]
 rfl
theorem Ais (hT:Bt P T) {st:St} {a:Act} (h:Af X π st a w) (t:TypeId) (m k:AV) (ok:Bool) (vm vk:Value) (av:AV) (hm:Ai X w π st.heap m vm) (hk:Ai X w π st.heap k vk)
  (he:Vj T st t m k ok=some av): ∃v,(Instr.lookup t vm vk ok).run P w= .ok v w∧Ai X w π st.heap av v:=by
 unfold Vj at he
 split at he
 ·rename_i vt fr s ht
  have:=We hk;subst this
  obtain ⟨kt,et,h1,h2,h3,h4,h5⟩:=hT.mapOf t vt ht
  split at he
  ·rename_i fr2 f hv
   simp only [Option.some.injEq] at he
   have hr:=Nu h.1 (S:=fun _=>False) (.smap vt) m vm fr2 f hm hv ⟨fun _ h=>h.elim, .inr fun _ h=>h.elim⟩
   obtain ⟨cs,hc,rfl⟩:=hr
   have hone: ∀y:vt.den,∀u,Cells w (fun _=>False) vt [u] y→Bc w (Bb X.w0.heap.size X.Sc π true) vt u y:=fun y u hu=>⟨[u],Cells.flat vt [u] y h4 hu,by simp [Ap,h5]⟩
   obtain ⟨inf,hi,hisz,_,hiz⟩:=(hT.ty et vt h3).info
   have hzero:(zeroValue et).run P w= .ok (Ap vt (Ak vt)) w:=by simp [zeroValue,typeInfo,hi,hiz]
   have hzc:Cells w (fun _=>False) vt [Ap vt (Ak vt)] vt.zero:=by
    cases vt<;>first|(simp [Ty.flat] at h4;done)|(simp [Ty.Ab] at h5;done)|(simp [Ap,Ty.Ab,Ak,Cells,Ty.zero];done)
   have fin: ∀(es:List MapEntry),(∀e∈es,(Kn e.key).isSome=true)→(f s=none→Jl es s=none)→(∀y,f s=some y→ ∃u,Jl es s=some u∧Cells w (fun _=>False) vt [u] y)→
     (∀r,(Instr.findKey kt (.string s) es).run P w= .ok r w→ ∀u,r.map (·.2)=(if (f s).isSome then some u else none)→(r=none→u=Ap vt (Ak vt))→
      (Instr.lookup t (Ap (.smap vt) cs) (.string s) ok).run P w= .ok (if ok then .tuple #[u, .bool (f s).isSome] else u) w)→
     ∃v,(Instr.lookup t (Ap (.smap vt) cs) (.string s) ok).run P w= .ok v w∧Ai X w π st.heap av v:=by
    intro es h6 h7 h8 h9
    obtain ⟨r,h10,h11,_⟩:=Ym s es 0 h6
    have h12:(Instr.findKey kt (.string s) es).run P w= .ok r w:=by
     unfold Instr.findKey
     simp only [Sem.run_bind,run_underlying h2,Result.andThen_ok,h10,Sem.run_pure]
    have: ∃u,r.map (·.2)=(if (f s).isSome then some u else none)∧(r=none→u=Ap vt (Ak vt))∧Cells w (fun _=>False) vt [u] ((f s).getD vt.zero):=by
     cases hf:f s with
     |none=>
      have h13:=h7 hf
      rw [h13] at h11
      exact ⟨Ap vt (Ak vt),by rw [h11];rfl,fun _=>rfl,hzc⟩
     |some y=>
      obtain ⟨u,h13,h14⟩:=h8 y hf
      rw [h13] at h11
      refine ⟨u,by rw [h11];rfl,fun (e:r=none)=>?_,h14⟩
      rw [e] at h11;cases h11
    obtain ⟨u,h13,h14,h15⟩:=this
    have hrun:=h9 r h12 u h13 h14
    cases ok with
    |true=>
     simp only [if_true] at he hrun
     subst he
     exact ⟨_,hrun,[u, .bool (f s).isSome],rfl,hone _ u h15,⟨[_],rfl,rfl⟩,trivial⟩
    |false=>
     simp only [Bool.false_eq_true,if_false] at he hrun
     subst he
     exact ⟨_,hrun,hone _ u h15⟩
   have hmk: ∀v,Ap (.smap vt) [v]=v:=fun v=>by simp [Ap,Ty.Ab]
   have run: ∀(r:Option (Nat×Value)) (u:Value) (b:Bool),r.map (·.2)=(if b then some u else none)→(r=none→u=Ap vt (Ak vt))→
     (∃j,r=some (j,u)∧b=true)∨(r=none∧b=false∧u=Ap vt (Ak vt)):=by
    intro r u b h6 h7
    cases r with
    |none=>cases b<;>simp at h6⊢;exact h7 rfl
    |some p=>cases b<;>simp at h6⊢;subst h6;exact ⟨p.1,rfl⟩
   simp only [Cells] at hc
   rcases hc with ⟨rfl,hf⟩|⟨g,rfl,hg,_,es,clock,h6,h7,h8,h9⟩
   ·refine fin [] (by simp) (fun _=>rfl) (fun y hy=>by rw [hf] at hy;cases hy) fun r h6 u h7 h8=>?_
    rcases run r u _ h7 h8 with ⟨j,rfl,hb⟩|⟨rfl,hb,rfl⟩
    ·rw [hf] at hb;cases hb
    ·rw [hb,hmk]
     unfold Instr.lookup
     generalize hz:Ap vt (Ak vt)=z at hzero⊢
     simp [run_underlying h1,Ma h2,h6,hzero]
   ·refine fin es.toList h7 (fun hn=>h8 s hn) (fun y hy=>h9 s y hy) fun r h10 u h11 h12=>?_
    rw [hmk]
    unfold Instr.lookup
    rcases run r u _ h11 h12 with ⟨j,rfl,hb⟩|⟨rfl,hb,rfl⟩
    ·rw [hb]
     simp [run_underlying h1,Ma h2,Wj h6,h10]
    ·rw [hb]
     generalize hz:Ap vt (Ak vt)=z at hzero⊢
     simp [run_underlying h1,Ma h2,Wj h6,h10,hzero]
  ·cases he
 ·cases he
theorem Azl (ns:List Int): ∀b:ByteArray,ns.foldl (fun r n=>r.push (UInt8.ofNat n.toNat)) b=⟨b.data++(ns.map fun n=>UInt8.ofNat n.toNat).toArray⟩:=by
 induction ns with
 |nil=>intro b;simp
 |cons n ns ih=>
  intro b
  rw [List.foldl_cons,ih]
  simp [ByteArray.push]
theorem Avd {s d:TypeId} {v:Value} {xs:List Int} (hT:Bt P T) (hs:T.ty s=some (.slice (.int .u8))) (hd:T.ty d=some .str) (h:Bc w (fun _=>False) (.slice (.int .u8)) v xs):
  (convert s d v).run P w= .ok (.string (bytesOf xs)) w:=by
 obtain ⟨te,h1,h2,h3⟩:=(hT.ty _ _ hs).desc
 have h4:P.underlying te=some (.int .u8):=(hT.ty _ _ h3).desc
 have h5:P.underlying d=some .string:=(hT.ty _ _ hd).desc
 obtain ⟨cs,hc,rfl⟩:=h
 simp only [Cells] at hc
 obtain ⟨a,len,cap,rfl,hlen,hcap,hor⟩:=hc
 simp only [Ap,Ty.Ab,Bool.false_eq_true,if_false,List.headD_cons]
 rw [run_convert_bytes_string w s d te a len cap h1 h4 h5]
 rcases hor with rfl|⟨g,o,rfl,hg,_,hall⟩
 ·have:len=0:=hlen
  subst this
  cases a with
  |none=>simp [Conv.bytesToString,bytesOf];rfl
  |some a=>
   rw [run_bytesToString w a 0 cap [] (by simp [loadCells,loadCellsFrom])]
   rfl
 ·rw [run_bytesToString w _ len cap xs (by
   have:=run_loadCells_list (P:=P) w ⟨g,o,none⟩ (xs.map (Value.int .u8)) (fun j v hv=>by
    rw [List.getElem?_map] at hv
    cases hj:xs[j]? with
    |none=>rw [hj] at hv;cases hv
    |some x=>
     rw [hj] at hv
     simp only [Option.map_some,Option.some.injEq] at hv
     subst hv
     obtain ⟨es,h6,h7,h8⟩:=hall j x hj
     have h8:es= [.int .u8 x]:=h8
     subst h8
     rw [Addr.add_lit]
     have:=h7 0 _ rfl
     simpa [Ty.size] using this)
   rw [List.length_map,←hlen] at this
   exact this)]
  rw [Azl]
  simp [bytesOf]
theorem Zn (ρ:Operand→Value) (f:FuncId) (args:Array Operand) (ts:Array TypeId) (dst:Option Tmp) (ty:TypeId) (pos:String) (af:Array Edge) (gd:Option (Nat×Bool))
  (hρ:ρ (.func f)= .func (.func f) #[] #[]) (hc: ∀vs w,(callFunc f vs).run P w= .ok (.enter f vs) w):
  (execOp ρ ⟨dst, .call {callee:= .value (.func f),args:=args,argTypes:=ts},ty,pos,af,gd⟩).run P w= .ok (.enter f (args.map ρ)) w:=by
 simp [execOp,resolve,Deferred.ofValue,hρ,invoke,hc]
theorem Aoa {fr:Bool} : ∀(τ:Ty) (x:τ.den) (vs:List Value) (i:Nat) (av:AV),Au w (Bb X.w0.heap.size X.Sc π fr) τ vs x→Sr fr τ x i=some av→
  ∃v,vs[i]?=some v∧Ai X w π H av v
 | .pair a r,x,[],i,av,h,he=>h.elim
 | .pair a r,x,v::vs,0,av,h,he=>by
  simp only [Sr,Option.some.injEq] at he;subst he
  exact ⟨v,rfl,h.1⟩
 | .pair a r,x,v::vs,i+1,av,h,he=>by
  obtain ⟨u,hu,hr⟩:=Aoa r x.2 vs i av h.2 he
  exact ⟨u,hu,hr⟩
 | .int _,_,_,i,_,_,he=>by cases i<;>simp [Sr] at he
 | .bool,_,_,i,_,_,he=>by cases i<;>simp [Sr] at he
 | .str,_,_,i,_,_,he=>by cases i<;>simp [Sr] at he
 | .slice _,_,_,i,_,_,he=>by cases i<;>simp [Sr] at he
 | .ptr _,_,_,i,_,_,he=>by cases i<;>simp [Sr] at he
 | .oslice _,_,_,i,_,_,he=>by cases i<;>simp [Sr] at he
 | .optr _,_,_,i,_,_,he=>by cases i<;>simp [Sr] at he
 | .smap _,_,_,i,_,_,he=>by cases i<;>simp [Sr] at he
 | .clo _ _,_,_,i,_,_,he=>by cases i<;>simp [Sr] at he
 | .unit,_,_,i,_,_,he=>by cases i<;>simp [Sr] at he
theorem Ayz (x:AV) (vx:Value) (n:Int) (hx:Ai X w π H x vx) (h:Bbi x=some n): ∃a len cap,vx= .slice a len cap∧n=len:=by
 unfold Bbi at h
 split at h
 ·simp only [Option.some.injEq] at h;subst h
  exact ⟨none,0,0,hx,rfl⟩
 ·simp only [Option.some.injEq] at h;subst h
  obtain ⟨cs,hc,rfl⟩:=hx
  simp only [Cells] at hc
  obtain ⟨a,len,cap,rfl,hl,_⟩:=hc
  exact ⟨a,len,cap,by simp [Ap,Ty.Ab],by rw [hl]⟩
 ·rename_i l off len
  simp only [Option.some.injEq] at h;subst h
  obtain ⟨b,sz,n,_,_,_,ho⟩:=hx
  cases hp:π l with
  |none=>rw [hp] at ho;obtain ⟨rfl,_,rfl⟩:=ho;exact ⟨none,0,0,rfl,rfl⟩
  |some r=>rw [hp] at ho;obtain ⟨ad,rfl,_⟩:=ho;exact ⟨some ad,len,_,rfl,rfl⟩
 ·cases h
theorem Ajw {c:AV} {v:Value} (h:Ai X w π H c v):Ai X w π H (Afw c) v:=by
 unfold Afw
 split
 ·rename_i fr e x
  obtain ⟨cs,h1,h2⟩:=h
  rcases h1 with ⟨rfl,c,rfl⟩|⟨xs,ad,len,cap,rfl,rfl,h3,h4,h5⟩
  ·exact ⟨_,⟨none,0,c,rfl,rfl,Nat.zero_le _, .inl rfl⟩,h2⟩
  ·refine ⟨_,⟨some ad,len,cap,rfl,h3,h4,h5.imp id fun ⟨g,o,g1,g2⟩=>⟨g,o,by rw [g1],g2⟩⟩,h2⟩
 ·exact h
theorem Asp {st:St} (h:Gj X w π st.heap) (x:AV) (vx:Value) (n:Int) (hx:Ai X w π st.heap x vx) (hn:Aso st x=some n): ∃a len cap,vx= .slice a len cap∧n=len:=by
 unfold Aso at hn
 split at hn
 ·rename_i l i c
  split at hn
  ·rename_i e te rows kp hl
   simp only [Option.some.injEq] at hn;subst hn
   unfold St.at at hl
   obtain ⟨r,b,sz,m,g1,g0,g2,g3,⟨g4,_⟩,g5⟩:=hx
   rw [hl] at g1;cases g1
   simp only [OB.inn,Option.some.injEq,Prod.mk.injEq] at g0
   obtain ⟨rfl,rfl⟩:=g0
   have hc0:c=0:=by omega
   subst hc0
   rw [Nat.mul_one,Nat.add_zero] at g5
   obtain ⟨u,R,k1,k2,k3⟩:=Adw h hl g2 g3 (by simp)
   rw [g5] at k1
   have hu:=Option.some.inj k1
   subst hu
   cases R with
   |none=>obtain ⟨rfl,_,hh⟩:=k2;exact ⟨none,0,0,rfl,by rw [hh]⟩
   |some q=>obtain ⟨ad,rfl,_⟩:=k2;exact ⟨some ad,_,_,rfl,rfl⟩
  ·cases hn
 ·exact Ayz x vx n hx hn
theorem Az0 (x:AV) (vx:Value) (n:Int) (hx:Ai X w π H x vx) (h:Ay4 x=some n): ∃s,vx= .string s∧n=s.size:=by
 unfold Ay4 at h
 split at h
 ·simp only [Option.some.injEq] at h;subst h
  exact ⟨_,We hx,rfl⟩
 ·cases h
theorem Ait {st:St} {a:Act} (h:Af X π st a w) (mx:Bool) (args:List Operand) (av:AV) (ts:Array TypeId) (ty:TypeId) (he:Aou mx (args.map st.ev)=some av):
  ∃v,(if mx then Builtin.max_ ts ty (args.map a.eval).toArray else Builtin.min_ ts ty (args.map a.eval).toArray).run P w= .ok v w∧Ai X w π st.heap av v:=by
 unfold Aou at he
 split at he
 ·rename_i k n k' m heq
  cases args with
  |nil=>simp at heq
  |cons x r=>
   cases r with
   |nil=>simp at heq
   |cons y r=>
    simp only [List.map_cons,List.cons.injEq,List.map_eq_nil_iff] at heq
    obtain ⟨hx,hy,rfl⟩:=heq
    split at he
    ·rename_i hk;subst hk
     simp only [Pu,Option.some.injEq] at he;subst he
     have e1:=Bk h.2 x;rw [hx] at e1
     have e2:=Bk h.2 y;rw [hy] at e2
     have e1:=Io e1
     have e2:=Io e2
     refine ⟨_,?_,Hk _ _ _⟩
     cases mx<;>simp [Builtin.max_,Builtin.min_,Builtin.max2,Builtin.min2,e1,e2]
    ·cases he
 ·cases he
theorem Agk {Γ:Env} (hT:Bt P T) (hΓ:Gl P Γ) {st:St} {a:Act} (h:Af X π st a w) (o:Oper) (av:AV) (he:Bz T Γ st o=some av):
  Axk P X π st.heap w av ((execOp a.eval o).run P w):=by
 obtain ⟨dst,op,ty,pos,af,gd⟩:=o
 have val: ∀(s:Sem Value) (v:Value),s.run P w= .ok v w→Ai X w π st.heap av v→(execOp a.eval ⟨dst,op,ty,pos,af,gd⟩=do pure (.value (←s)))→
   Axk P X π st.heap w av ((execOp a.eval ⟨dst,op,ty,pos,af,gd⟩).run P w):=by
  intro s v h1 h2 h3
  rw [h3,Sem.run_bind,h1]
  exact ⟨rfl,h2⟩
 unfold Bz at he
 split at he
 all_goals (rename_i hop;dsimp only at hop;try subst hop)
 ·
  simp only [Option.some.injEq] at he;subst he
  exact ⟨rfl,Bk h.2 _⟩
 ·
  simp only [Option.some.injEq] at he;subst he
  exact ⟨rfl,Bk h.2 _⟩
 ·
  rename_i c x y
  unfold Tx at he
  split at he
  ·rename_i fr b hc
   simp only [Option.some.injEq] at he;subst he
   have e:=Bk h.2 c
   rw [hc] at e
   have e:=Ox e
   have:(execOp a.eval ⟨dst, .pick c x y,ty,pos,af,gd⟩).run P w= .ok (.value (if b then a.eval x else a.eval y)) w:=by
    simp [execOp,e,asBool]
   rw [this]
   refine ⟨rfl,?_⟩
   cases b
   ·exact Bk h.2 y
   ·exact Bk h.2 x
  ·cases he
 ·
  obtain ⟨v,h1,h2⟩:=Ado hT h _ _ _ _ (Bk h.2 _) he
  exact val _ v h1 h2 rfl
 ·
  rename_i x
  have e:=Bk h.2 x
  split at he
  ·rename_i fr τ y hx
   simp only [Option.some.injEq] at he;subst he
   rw [hx] at e
   have e':=e
   obtain ⟨cs,hc,hv⟩:=e
   simp only [Cells] at hc
   obtain ⟨g,o,rfl,_⟩:=hc
   simp only [Ap,Ty.Ab,Bool.false_eq_true,if_false,List.headD_cons] at hv
   have:(execOp a.eval ⟨dst, .nilCheck x,ty,pos,af,gd⟩).run P w= .ok (.value (a.eval x)) w:=by simp [execOp,hv]
   rw [this];exact ⟨rfl,e'⟩
  ·rename_i fr τ y hx
   simp only [Option.some.injEq] at he;subst he
   rw [hx] at e
   obtain ⟨cs,hc,hv⟩:=e
   simp only [Cells] at hc
   rcases hc with ⟨h0,_⟩|⟨y',g,o,h0,rfl,hr⟩
   ·cases h0
   simp only [Option.some.injEq] at h0;subst h0
   simp only [Ap,Ty.Ab,Bool.false_eq_true,if_false,List.headD_cons] at hv
   have:(execOp a.eval ⟨dst, .nilCheck x,ty,pos,af,gd⟩).run P w= .ok (.value (a.eval x)) w:=by simp [execOp,hv]
   rw [this];exact ⟨rfl,[_],⟨g,o,rfl,hr⟩,by rw [hv];simp [Ap,Ty.Ab]⟩
  ·rename_i l i hx
   simp only [Option.some.injEq] at he;subst he
   rw [hx] at e
   have e':=e
   obtain ⟨r,tid,vs,_,_,hv⟩:=e
   have:(execOp a.eval ⟨dst, .nilCheck x,ty,pos,af,gd⟩).run P w= .ok (.value (a.eval x)) w:=by simp [execOp,hv]
   rw [this];exact ⟨rfl,e'⟩
  ·rename_i l i hx
   simp only [Option.some.injEq] at he;subst he
   rw [hx] at e
   have e':=e
   obtain ⟨r,b,sz,n,_,_,_,_,hv⟩:=e
   have:(execOp a.eval ⟨dst, .nilCheck x,ty,pos,af,gd⟩).run P w= .ok (.value (a.eval x)) w:=by simp [execOp,hv]
   rw [this];exact ⟨rfl,e'⟩
  ·cases he
 ·
  obtain ⟨v,h1,h2⟩:=Aos (P:=P) hT _ _ _ _ _ _ _ _ av (Bk h.2 _) (Bk h.2 _) he
  exact val _ v h1 h2 rfl
 ·
  obtain ⟨v,h1,h2⟩:=Avi (P:=P) _ _ _ av (Bk h.2 _) he
  exact val _ v h1 h2 rfl
 ·
  rename_i s t x
  split at he
  ·rename_i σ k fr1 k1 n hs ht hx
   simp only [Pu,Option.some.injEq] at he;subst he
   have e:=Bk h.2 x
   rw [hx] at e
   have e:=Io e
   have hd:P.underlying t=some (.int k):=(hT.ty _ _ ht).desc
   have hsrc:(P.underlying s).isSome=true:=by
    obtain ⟨i,hi,_⟩:=(hT.ty _ _ hs).info
    have:=(hT.ty _ _ hs).desc
    cases σ<;>simp only at this
    all_goals first
     |(rw [this];rfl)
     |(obtain ⟨_,this,_⟩:=this;rw [this];rfl)
     |(obtain ⟨_,this⟩:=this;rw [this];rfl)
     |(obtain ⟨_,_,this⟩:=this;rw [this];rfl)
     |exact this.elim
   exact val _ (.int k (k.wrap n)) (by
    obtain ⟨d,hd0⟩:=Option.isSome_iff_exists.1 hsrc
    rw [e];simp [convert,run_underlying hd0,run_underlying hd,Conv.intToInt]) (Hk _ _ _) rfl
  ·rename_i _ _ hs ht
   cases hv:Ci st (.slice (.int .u8)) (st.ev x) with
   |none=>rw [hv] at he;cases he
   |some p=>
    rw [hv] at he
    simp only [Option.map_some,Option.some.injEq] at he;subst he
    have e:=Bk h.2 x
    have hr:=Nu h.1 (S:=fun _=>False) _ _ _ p.1 p.2 e hv ⟨fun _ h=>h.elim, .inr fun _ h=>h.elim⟩
    exact val _ _ (Avd hT hs ht hr) (Afq _ _) rfl
  ·cases he
 ·
  rename_i t x lo hi mx
  split at he
  ·cases he
  ·rename_i hmx
   simp only [Bool.not_eq_true,Option.isSome_eq_false_iff,Option.isNone_iff_eq_none] at hmx
   subst hmx
   obtain ⟨v,h1,h2⟩:=Al7 hT h t _ _ lo hi av (Bk h.2 x) he
   exact val _ v h1 h2 rfl
 ·
  obtain ⟨v,h1,h2⟩:=Sa hT _ _ _ _ av (Bk h.2 _) he
  exact val _ v (h1 w) h2 rfl
 ·
  obtain ⟨v,h1,h2⟩:=Al5 hT _ _ _ _ av (Bk h.2 _) he
  exact val _ v h1 h2 rfl
 ·
  obtain ⟨v,h1,h2⟩:=Adn hT h _ _ _ _ _ av (Ajw (Bk h.2 _)) (Bk h.2 _) he
  exact val _ v h1 h2 rfl
 ·
  rename_i t x i
  unfold Aab at he
  split at he
  ·rename_i fr1 s fr2 k n hx hi
   split at he
   ·rename_i hty
    split at he
    ·rename_i h0
     cases hb:s[n.toNat]? with
     |none=>rw [hb] at he;cases he
     |some b=>
      rw [hb] at he
      simp only [Option.map_some,Option.some.injEq] at he;subst he
      have e1:=Bk h.2 x;rw [hx] at e1
      have e2:=Bk h.2 i;rw [hi] at e2
      have e1:=We e1
      have e2:=Io e2
      have hu:P.underlying t=some .string:=(hT.ty _ _ hty).desc
      have h0':(0:Int)≤n:=h0
      exact val _ (.int .u8 b.toNat) (by
       rw [e1,e2]
       simp only [Instr.index,Sem.run_bind,asIntOf,Sem.run_pure,Result.andThen_ok,run_underlying hu]
       simp only [if_pos h0',hb,Sem.run_pure]) (Hk _ _ _) rfl
    ·cases he
   ·cases he
  ·cases he
 ·
  rename_i x i
  split at he
  ·rename_i fr τ y hx
   have e:=Bk h.2 x
   rw [hx] at e
   obtain ⟨vs,hv,hr⟩:=e
   obtain ⟨u,hu,hr'⟩:=Aoa (H:=st.heap) τ y vs i av hr he
   exact val _ u (by rw [hv];simp [Instr.extract,hu]) hr' rfl
  ·rename_i l hx
   have e:=Bk h.2 x
   rw [hx] at e
   obtain ⟨vs,hv,hlen,hr⟩:=e
   unfold Bcs at he
   cases hp:l[i]? with
   |none=>rw [hp] at he;cases he
   |some p=>
    rw [hp] at he
    simp only [Option.bind_some] at he
    have hi:i<vs.length:=by have:=(List.getElem?_eq_some_iff.1 hp).1;omega
    have hu:=List.getElem?_eq_getElem hi
    have hr':=hr i p _ hp hu
    refine val _ vs[i] (by rw [hv];simp [Instr.extract,hu]) ?_ rfl
    obtain ⟨b,cs⟩:=p
    unfold Bfr at he
    split at he
    ·rename_i cs' heq
     simp only [Prod.mk.injEq] at heq
     obtain ⟨rfl,rfl⟩:=heq
     simp only [Option.some.injEq] at he;subst he
     exact hr'
    ·rename_i c heq
     simp only [Prod.mk.injEq] at heq
     obtain ⟨rfl,rfl⟩:=heq
     simp only [Option.some.injEq] at he;subst he
     exact hr' c rfl
    ·cases he
  ·cases he
 ·
  rename_i f args ts
  have:=Vi hΓ h f (args.toList.map st.ev) (args.toList.map a.eval) (by simp) (Aei h _) av he
  rw [Zn a.eval f args ts dst ty pos af gd rfl this.1]
  refine ⟨rfl,?_⟩
  have h2:=this.2
  rwa [show (args.toList.map a.eval).toArray=args.map a.eval from by apply Array.ext';simp] at h2
 ·
  rename_i t args ts
  obtain ⟨f,us,h1,h2,h3⟩:=Al4 hΓ h _ _ (Bk h.2 (.tmp t)) args.toList av he
  rw [Aq7 a.eval t f us args ts dst ty pos af gd h1 h2]
  exact ⟨rfl,h3⟩
 ·
  rename_i f first caps
  split at he
  ·rename_i hfirst
   cases hc:Ac7 (caps.toList.map st.ev) with
   |none=>rw [hc] at he;cases he
   |some c=>
    rw [hc] at he
    simp only [Option.map_some,Option.some.injEq] at he;subst he
    obtain ⟨h1,h2⟩:=Ain h _ _ hc
    have hf0:first= #[]:=by simpa using hfirst
    subst hf0
    refine val (Instr.makeFunc (.func f) #[] (caps.map a.eval)) (.func (.func f) #[] (caps.map a.eval)) rfl ⟨caps.toList.map a.eval,?_,h1,h2⟩ (by simp [execOp])
    congr 1
    apply Array.ext';simp
  ·cases he
 ·
  obtain ⟨v,h1,h2⟩:=Ais hT h _ _ _ _ _ _ _ (Bk h.2 _) (Bk h.2 _) he
  exact val _ v h1 h2 rfl
 ·
  rename_i args ts
  split at he
  ·rename_i x t hargs hts
   have e1:args= #[x]:=by apply Array.ext';simpa using hargs
   have e2:ts= #[t]:=by apply Array.ext';simpa using hts
   subst e1;subst e2
   split at he
   ·rename_i e hty
    cases hn:Aso st (st.ev x) with
    |none=>rw [hn] at he;cases he
    |some n=>
     rw [hn] at he
     simp only [Option.bind_some,Pu,Option.some.injEq] at he;subst he
     obtain ⟨te,hu,_⟩:=(hT.ty _ _ hty).desc
     obtain ⟨ad,len,cap,hv,rfl⟩:=Asp h.1 _ _ n (Bk h.2 x) hn
     refine val (Builtin.len_ #[t] ty #[a.eval x]) (.int .i64 len) ?_ (Hk _ _ _) ?_
     ·rw [hv];simp [Builtin.len_,run_underlying hu,goInt]
     ·simp [execOp,resolve,invoke,builtin]
   ·rename_i e hty
    cases hn:Aso st (Afw (st.ev x)) with
    |none=>rw [hn] at he;cases he
    |some n=>
     rw [hn] at he
     simp only [Option.bind_some,Pu,Option.some.injEq] at he;subst he
     obtain ⟨te,hu,_⟩:=(hT.ty _ _ hty).desc
     obtain ⟨ad,len,cap,hv,rfl⟩:=Asp h.1 _ _ n (Ajw (Bk h.2 x)) hn
     refine val (Builtin.len_ #[t] ty #[a.eval x]) (.int .i64 len) ?_ (Hk _ _ _) ?_
     ·rw [hv];simp [Builtin.len_,run_underlying hu,goInt]
     ·simp [execOp,resolve,invoke,builtin]
   ·rename_i hty
    cases hn:Ay4 (st.ev x) with
    |none=>rw [hn] at he;cases he
    |some n=>
     rw [hn] at he
     simp only [Option.bind_some,Pu,Option.some.injEq] at he;subst he
     have hu:P.underlying t=some .string:=(hT.ty _ _ hty).desc
     obtain ⟨s,hv,rfl⟩:=Az0 _ _ n (Bk h.2 x) hn
     refine val (Builtin.len_ #[t] ty #[a.eval x]) (.int .i64 s.size) ?_ (Hk _ _ _) ?_
     ·rw [hv];simp [Builtin.len_,run_underlying hu,goInt]
     ·simp [execOp,resolve,invoke,builtin]
   ·cases he
  ·cases he
 ·
  rename_i args ts
  obtain ⟨v,h1,h2⟩:=Ait (P:=P) h false args.toList av ts ty he
  rw [show (args.toList.map a.eval).toArray=args.map a.eval from by apply Array.ext';simp] at h1
  refine val (Builtin.min_ ts ty (args.map a.eval)) v (by simpa only [Bool.false_eq_true,if_false,if_true] using h1) h2 ?_
  simp [execOp,resolve,invoke,builtin]
 ·
  rename_i args ts
  obtain ⟨v,h1,h2⟩:=Ait (P:=P) h true args.toList av ts ty he
  rw [show (args.toList.map a.eval).toArray=args.map a.eval from by apply Array.ext';simp] at h1
  refine val (Builtin.max_ ts ty (args.map a.eval)) v (by simpa only [Bool.false_eq_true,if_false,if_true] using h1) h2 ?_
  simp [execOp,resolve,invoke,builtin]
 ·cases he
end
end Go.Proofs.Ytebabhocakedaaa
