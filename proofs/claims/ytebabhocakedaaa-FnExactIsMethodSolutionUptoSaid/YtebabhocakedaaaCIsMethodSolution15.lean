/-
  Part 16 of the proof that the statement FnExactIsMethodSolution holds.
-/
import Derived.Test.YtebabhocakedaaaCIsMethodSolution14
namespace Go.Proofs.Ytebabhocakedaaa
open Go.RowKit
section
variable {P:Program} {T:Tab} {X:Ctx} {w w':World} {π π':Pi} {H H':List (Nat×OB)}
def Gp (X:Ctx) (w:World) (π:Pi) (H:List (Nat×OB)):List AC→List Value→Prop
 | [],[]=>True
 |a::as,u::us=>Df X w π H a u∧Gp X w π H as us
 |_,_=>False
theorem Gp.append {as bs:List AC} {us vs:List Value} (h1:Gp X w π H as us) (h2:Gp X w π H bs vs):Gp X w π H (as++bs) (us++vs):=by
 induction as generalizing us with
 |nil=>cases us with
  |nil=>exact h2
  |cons u us=>exact h1.elim
 |cons a as ih=>cases us with
  |nil=>exact h1.elim
  |cons u us=>exact ⟨h1.1,ih h1.2⟩
theorem Gp.of: ∀ {cs:List AC} {us:List Value},Cl X w π H cs us→Gp X w π H cs us
 | [],[],_=>trivial
 | [],u::us,h=>by have:=h.1;simp at this
 |c::cs,[],h=>by have:=h.1;simp at this
 |c::cs,u::us,h=>by
  obtain ⟨u',h1,_,h2⟩:=h.2 0 c rfl
  simp at h1;subst h1
  exact ⟨h2,Gp.of ⟨by have:=h.1;simpa using this,fun i c' hc=>by
   obtain ⟨u',h3,h4⟩:=h.2 (i+1) c' (by simpa using hc)
   exact ⟨u',by simpa using h3,h4⟩⟩⟩
theorem Gp.to: ∀ {cs:List AC} {us:List Value},Gp X w π H cs us→(∀u∈us,u.oneCell'=true)→Cl X w π H cs us
 | [],[],_,_=>⟨rfl,fun i c hc=>by simp at hc⟩
 | [],u::us,h,_=>h.elim
 |c::cs,[],h,_=>h.elim
 |c::cs,u::us,h,ho=>by
  have ih:=Gp.to h.2 fun v hv=>ho v (List.mem_cons_of_mem _ hv)
  refine ⟨by simp [ih.1],fun i c' hc=>?_⟩
  rcases i with _|i
  ·simp at hc;subst hc;exact ⟨u,rfl,ho u (by simp),h.1⟩
  ·obtain ⟨u',h3,h4⟩:=ih.2 i c' (by simpa using hc)
   exact ⟨u',by simpa using h3,h4⟩
theorem Gp.take: ∀ {cs:List AC} {us:List Value} (n:Nat),Gp X w π H cs us→Gp X w π H (cs.take n) (us.take n)∧Gp X w π H (cs.drop n) (us.drop n)
 |cs,us,0,h=>by simpa [Gp] using h
 | [],[],n+1,_=>by simp [Gp]
 | [],u::us,n+1,h=>h.elim
 |c::cs,[],n+1,h=>h.elim
 |c::cs,u::us,n+1,h=>by
  have:=Gp.take n h.2
  exact ⟨⟨h.1,this.1⟩,this.2⟩
theorem Ss: ∀(sh:List (Option Nat)) (avs:List AV) (vs:List Value) (as:List AC),avs.length=vs.length→(∀(i:Nat) c v,avs[i]?=some c→vs[i]?=some v→Ai X w π H c v)→ungroup sh avs=some as→
  ∃us,vs=Fm sh us∧Sp sh us∧Gp X w π H as us
 | [],[],vs,as,hl,_,he=>by
  simp only [ungroup,Option.some.injEq] at he;subst he
  have:vs= []:=List.eq_nil_of_length_eq_zero hl.symm
  subst this
  exact ⟨[],rfl,trivial,trivial⟩
 |none::sh, .at a::avs,vs,as,hl,hr,he=>by
  simp only [ungroup] at he
  cases hu:ungroup sh avs with
  |none=>rw [hu] at he;cases he
  |some r=>
   rw [hu] at he
   simp only [Option.map_some,Option.some.injEq] at he;subst he
   cases vs with
   |nil=>simp at hl
   |cons v vs=>
    obtain ⟨us,h1,h2,h3⟩:=Ss sh avs vs r (by simpa using hl) (fun i c v hc hv=>hr (i+1) c v (by simpa using hc) (by simpa using hv)) hu
    exact ⟨v::us,by rw [h1];rfl,h2,hr 0 _ v rfl rfl,h3⟩
 |some n::sh, .agg cs::avs,vs,as,hl,hr,he=>by
  simp only [ungroup] at he
  split at he
  ·rename_i hn
   cases hu:ungroup sh avs with
   |none=>rw [hu] at he;cases he
   |some r=>
    rw [hu] at he
    simp only [Option.map_some,Option.some.injEq] at he;subst he
    cases vs with
    |nil=>simp at hl
    |cons v vs=>
     obtain ⟨us,h1,h2,h3⟩:=Ss sh avs vs r (by simpa using hl) (fun i c v hc hv=>hr (i+1) c v (by simpa using hc) (by simpa using hv)) hu
     obtain ⟨ws,rfl,h4⟩:=hr 0 _ v rfl rfl
     have hwl:ws.length=n:=by rw [←hn];exact h4.1
     refine ⟨ws++us,?_,⟨by simp [hwl],?_,?_⟩,(Gp.of h4).append h3⟩
     ·rw [h1];simp only [Fm];rw [List.take_left' hwl,List.drop_left' hwl]
     ·rw [List.take_left' hwl]
      intro u hu
      obtain ⟨j,hj,rfl⟩:=List.getElem_of_mem hu
      obtain ⟨u',h5,h6,_⟩:=h4.2 j (cs[j]'(by have:=h4.1;omega)) (List.getElem?_eq_getElem _)
      rw [List.getElem?_eq_getElem hj] at h5
      simp only [Option.some.injEq] at h5
      rw [h5];exact h6
     ·rw [List.drop_left' hwl];exact h2
  ·cases he
 | [],_::_,_,_,_,_,he=>by simp [ungroup] at he
 |none::_,[],_,_,_,_,he=>by simp [ungroup] at he
 |none::_, .agg _::_,_,_,_,_,he=>by simp [ungroup] at he
 |none::_, .tup _ _ _::_,_,_,_,_,he=>by simp [ungroup] at he
 |none::_, .tupc _::_,_,_,_,_,he=>by simp [ungroup] at he
 |some _::_,[],_,_,_,_,he=>by simp [ungroup] at he
 |some _::_, .at _::_,_,_,_,_,he=>by simp [ungroup] at he
 |some _::_, .tup _ _ _::_,_,_,_,_,he=>by simp [ungroup] at he
 |some _::_, .tupc _::_,_,_,_,_,he=>by simp [ungroup] at he
theorem Ud: ∀(sh:List (Option Nat)) (as:List AC) (us:List Value),Sp sh us→Gp X w π H as us→
  (Kj sh as).length=(Fm sh us).length∧(∀(i:Nat) c v,(Kj sh as)[i]?=some c→(Fm sh us)[i]?=some v→Ai X w π H c v)∧
  (Pf sh as).length=(Fm sh us).length∧(∀(i:Nat) p v,(Pf sh as)[i]?=some p→(Fm sh us)[i]?=some v→Uy X w π H p v)
 | [],[],[],_,_=>⟨rfl,fun i c v hc=>by simp [Kj] at hc,rfl,fun i c v hc=>by simp [Pf] at hc⟩
 | [],_::_,[],_,h=>h.elim
 |none::_,_,[],h,_=>h.elim
 | [],_,_::_,h,_=>h.elim
 |none::sh,[],u::us,_,h=>h.elim
 |none::sh,a::as,u::us,hs,h=>by
  obtain ⟨h1,h2,h3,h4⟩:=Ud sh as us hs h.2
  refine ⟨by simp [Kj,Fm,h1],fun i c v hc hv=>?_,by simp [Pf,Fm,h3],fun i p v hp hv=>?_⟩
  ·rcases i with _|i
   ·simp [Kj,Fm] at hc hv;subst hc;subst hv;exact h.1
   ·exact h2 i c v (by simpa [Kj] using hc) (by simpa [Fm] using hv)
  ·rcases i with _|i
   ·simp [Pf,Fm] at hp hv;subst hp;subst hv
    unfold Uy
    rw [if_neg (by simp)]
    intro a' ha;simp at ha;subst ha;exact h.1
   ·exact h4 i p v (by simpa [Pf] using hp) (by simpa [Fm] using hv)
 |some n::sh,as,us,hs,h=>by
  obtain ⟨hs1,hs2,hs3⟩:=hs
  obtain ⟨k1,k2⟩:=Gp.take n h
  obtain ⟨h1,h2,h3,h4⟩:=Ud sh (as.drop n) (us.drop n) hs3 k2
  have k3:=Gp.to k1 hs2
  refine ⟨by simp [Kj,Fm,h1],fun i c v hc hv=>?_,by simp [Pf,Fm,h3],fun i p v hp hv=>?_⟩
  ·rcases i with _|i
   ·simp only [Kj,Fm,List.getElem?_cons_zero,Option.some.injEq] at hc hv;subst hc;subst hv;exact ⟨_,rfl,k3⟩
   ·exact h2 i c v (by simpa [Kj] using hc) (by simpa [Fm] using hv)
  ·rcases i with _|i
   ·simp only [Pf,Fm,List.getElem?_cons_zero,Option.some.injEq] at hp hv;subst hp;subst hv
    unfold Uy
    rw [if_pos rfl]
    exact ⟨_,rfl,k3⟩
   ·exact h4 i p v (by simpa [Pf] using hp) (by simpa [Fm] using hv)
def Ja (io:Bool) (k:Nat):CK→AC→List (Nat×Loc)
 | .dat _, .own l _ _=> [(Bn false k, .view l)]
 | .dat _, .clo _ caps=>views k (caps.map (·.1))
 | .dat _, .vptr l _=>views k [l]
 | .dat _, .sub l _ _=> [(Bn false k, .view l)]
 | .dat _,_=> []
 |_, .own l _ _=> [(Bn io k, .row l)]
 |_, .sub l i c=> [(Bn io k, .sub l i c)]
 |_,_=> []
def Fu:Nat→List (Bool×CK)→List AC→List (Nat×Loc)
 |k,p::r,a::as=>Ja p.1 k p.2 a++Fu (k+1) r as
 |_,_,_=> []
theorem Baa {st:St} {io:Bool} {k:Nat} {c:CK} {a:AC} {x:c.den} {tks:List (Nat×Loc)} (he:Fv st io k c a=some (x,tks)):tks=Ja io k c a:=by
 cases c with
 |dat τ=>
  cases a with
  |own l off len=>
   simp only [Fv] at he
   cases hv:Bj st τ (.own l off len) with
   |none=>rw [hv] at he;cases he
   |some p=>rw [hv] at he;simp only [Option.map_some,Option.some.injEq,Prod.mk.injEq] at he;exact he.2.symm
  |clo g caps=>
   simp only [Fv] at he
   split at he
   ·cases hv:Ek st τ (.clo g caps) with
    |none=>rw [hv] at he;cases he
    |some p=>rw [hv] at he;simp only [Option.map_some,Option.some.injEq,Prod.mk.injEq] at he;exact he.2.symm
   ·cases he
  |vptr l i=>
   simp only [Fv] at he
   split at he
   ·cases hv:Ek st τ (.vptr l i) with
    |none=>rw [hv] at he;cases he
    |some p=>rw [hv] at he;simp only [Option.map_some,Option.some.injEq,Prod.mk.injEq] at he;exact he.2.symm
   ·cases he
  |sub l i c=>
   simp only [Fv] at he
   cases hv:Bj st τ (.sub l i c) with
   |none=>rw [hv] at he;cases he
   |some p=>rw [hv] at he;simp only [Option.map_some,Option.some.injEq,Prod.mk.injEq] at he;exact he.2.symm
  |_=>
   simp only [Fv] at he
   split at he
   ·first
     |(rename_i hc;cases hv:Bj st τ _ with
      |none=>rw [hv] at he;cases he
      |some p=>rw [hv] at he;simp only [Option.map_some,Option.some.injEq,Prod.mk.injEq] at he;exact he.2.symm)
   ·cases he
 |row e te=>
  cases a<;>simp only [Fv] at he<;>try (cases he;done)
  ·simp only [Option.some.injEq,Prod.mk.injEq] at he;exact he.2.symm
  ·split at he
   ·split at he
    ·simp only [Option.some.injEq,Prod.mk.injEq] at he;exact he.2.symm
    ·cases he
   ·cases he
  ·rename_i l i c
   split at he
   ·rename_i e' tid xs hl
    split at he
    ·cases hx:xs[i]? with
     |none=>rw [hx] at he;cases he
     |some y=>rw [hx] at he;simp only [Option.map_some,Option.some.injEq,Prod.mk.injEq] at he;exact he.2.symm
    ·cases he
   ·cases he
 |xrow e te=>
  cases a<;>simp only [Fv] at he<;>try (cases he;done)
  ·simp only [Option.some.injEq,Prod.mk.injEq] at he;exact he.2.symm
  ·split at he
   ·split at he
    ·simp only [Option.some.injEq,Prod.mk.injEq] at he;exact he.2.symm
    ·cases he
   ·cases he
  ·rename_i l i c
   split at he
   ·rename_i e' tid xs hl
    split at he
    ·cases hx:xs[i]? with
     |none=>rw [hx] at he;cases he
     |some y=>rw [hx] at he;simp only [Option.map_some,Option.some.injEq,Prod.mk.injEq] at he;exact he.2.symm
    ·cases he
   ·cases he
 |part e te=>
  cases a<;>simp only [Fv] at he<;>try (cases he;done)
  split at he
  ·split at he
   ·simp only [Option.some.injEq,Prod.mk.injEq] at he;exact he.2.symm
   ·cases he
  ·cases he
 |grid e te kp=>
  cases a<;>simp only [Fv] at he<;>try (cases he;done)
  split at he
  ·split at he
   ·simp only [Option.some.injEq,Prod.mk.injEq] at he;exact he.2.symm
   ·cases he
  ·cases he
theorem Pk.Eb {D D':Nat→Prop} {r:Option Real} {e:Ty} {rows:List (List e.den)} (h:Pk w D r e rows none) (hD: ∀b,D' b→D b):Pk w D' r e rows none:=
 h.Ch (fun _ _ _ _ _=>rfl) fun es x hc=>Cells.Ch (Nat.le_refl _) (fun _ _ _=>rfl) (fun b _ hb=>hD b hb) e es x hc
def Ahg (X:Ctx) (w:World) (π:Pi) (V:List Nat) (H:List (Nat×OB)) (πc:Pi):(k:Nat)→(cs:List (Bool×CK))→Ins.den cs→List AC→List Value→Prop
 |_,[],_,[],[]=>True
 |k,p::r,x,a::as,u::us=>(Uw w (Hu X π V) (πc (Bn p.1 k)) u p.2 x.1∧Kq w π H p.1 a u (πc (Bn p.1 k)) p.2 x.1)∧Ahg X w π V H πc (k+1) r x.2 as us
 |_,_,_,_,_=>False
theorem Aya {b b':Bool} {k j:Nat} (hk:k<100000) (hj:j<100000) (h:k≠j):Bn b k≠Bn b' j:=by
 unfold Bn;cases b<;>cases b'<;>simp<;>omega
theorem Ahg.congr {V:List Nat} {πc πc':Pi} : ∀(cs:List (Bool×CK)) (k:Nat) (x:Ins.den cs) (as:List AC) (us:List Value),(∀b j,k≤j→j<k+cs.length→πc' (Bn b j)=πc (Bn b j))→Ahg X w π V H πc k cs x as us→Ahg X w π V H πc' k cs x as us
 | [],_,_,[],[],_,h=>h
 | [],_,_,_::_,_,_,h=>h.elim
 | [],_,_,[],_::_,_,h=>h.elim
 |_::_,_,_,[],_,_,h=>h.elim
 |_::_,_,_,_::_,[],_,h=>h.elim
 |p::r,k,x,a::as,u::us,hc,h=>⟨by rw [hc p.1 k (Nat.le_refl _) (by simp)];exact h.1,Ahg.congr r (k+1) x.2 as us (fun b j h1 h2=>hc b j (by omega) (by simp;omega)) h.2⟩
theorem Ahg.Bft {V:List Nat} {πc:Pi} : ∀(cs:List (Bool×CK)) (k:Nat) (x:Ins.den cs) (as:List AC) (us:List Value),Ahg X w π V H πc k cs x as us→Ux w (Hu X π V) πc k cs x us
 | [],_,_,[],[],h=>h
 | [],_,_,_::_,_,h=>h.elim
 | [],_,_,[],_::_,h=>h.elim
 |_p::_r,_k,_x,[],_,h=>h.elim
 |_p::_r,_k,_x,_::_,[],h=>h.elim
 |_p::r,k,x,_a::as,_u::us,h=>⟨h.1.1,Ahg.Bft r (k+1) x.2 as us h.2⟩
theorem Kf.Eb {D D':Nat→Prop} {r:Option Real} {e:Ty} {xs:List e.den} (h:Kf w D r e xs) (hD: ∀b,D' b→D b):Kf w D' r e xs:=by
 cases r with
 |none=>exact h
 |some r=>
  obtain ⟨k1,cu,ti,k2,k3,k4,k5,k6⟩:=h
  exact ⟨k1,cu,ti,k2,k3,k4,k5,fun i y hy=>by
   obtain ⟨es,g1,g2,g3⟩:=k6 i y hy
   exact ⟨es,g1,g2,Cells.Ch (Nat.le_refl _) (fun _ _ _=>rfl) (fun b _ hb=>hD b hb) e es y g3⟩⟩
theorem Ux.Eb {D D':Nat→Prop} {πc:Pi} (hD: ∀b,D' b→D b): ∀(cs:List (Bool×CK)) (k:Nat) (x:Ins.den cs) (us:List Value),Ux w D πc k cs x us→Ux w D' πc k cs x us
 | [],_,_,[],h=>h
 | [],_,_,_::_,h=>h.elim
 |p::r,k,x,[],h=>h.elim
 |(io,c)::r,k,x,u::us,h=>⟨by
   have:=h.1
   cases c with
   |dat τ=>exact ⟨this.1,this.2.Eb fun b _ hb=>hD b hb⟩
   |row e te=>exact ⟨this.1,this.2.Eb hD⟩
   |xrow e te=>exact this
   |grid e te kp=>exact ⟨this.1,Pk.Eb this.2 hD⟩
   |part e te=>exact ⟨this.1,this.2.1,this.2.2.Eb hD⟩,Ux.Eb hD r (k+1) x.2 us h.2⟩
theorem Kq.Av {io:Bool} {a:AC} {u:Value} {r:Option Real} {c:CK} {x:c.den} (k:Nat) (h:Kq w π H io a u r c x) {r':Real} (hr:r=some r') {b:Nat} (hb:r'.Av b):
  ∃t,t∈Ja io k c a∧t.1=Bn io k∧t.2.reads=false∧ ∃q,π t.2.lab=some q∧q.Av b∧ ∀l i j,t.2= .sub l i j→b≠q.g:=by
 subst hr
 have rowc: ∀l,some r'=(π l).map full→ ∃q,π l=some q∧q.Av b:=by
  intro l hl
  cases hp:π l with
  |none=>rw [hp] at hl;cases hl
  |some q=>rw [hp] at hl;simp only [Option.map_some,Option.some.injEq] at hl;subst hl;exact ⟨q,rfl,hb⟩
 cases c with
 |dat τ=>cases h
 |row e te=>
  simp only [Kq] at h
  cases a<;>simp only [] at h<;>first|(cases h;done)|skip
  ·obtain ⟨q,h1,h2⟩:=rowc _ h.1;exact ⟨_,List.mem_singleton.2 rfl,rfl,rfl,q,h1,h2,fun _ _ _ e=>by cases e⟩
  ·obtain ⟨_,tid,xs,_,_,q,h1,h2,_⟩:=h
   exact ⟨_,List.mem_singleton.2 rfl,rfl,rfl,q,h1,(h2 r' rfl b hb).1,fun _ _ _ _=>(h2 r' rfl b hb).2⟩
 |xrow e te=>
  simp only [Kq] at h
  cases a<;>simp only [] at h<;>first|(cases h;done)|skip
  ·obtain ⟨q,h1,h2⟩:=rowc _ h.1;exact ⟨_,List.mem_singleton.2 rfl,rfl,rfl,q,h1,h2,fun _ _ _ e=>by cases e⟩
  ·obtain ⟨_,tid,xs,_,_,q,h1,h2,_⟩:=h
   exact ⟨_,List.mem_singleton.2 rfl,rfl,rfl,q,h1,(h2 r' rfl b hb).1,fun _ _ _ _=>(h2 r' rfl b hb).2⟩
 |part e te=>
  obtain ⟨_,h⟩:=h
  cases a<;>simp only [] at h<;>first|(cases h;done)|skip
  obtain ⟨q,h1,h2⟩:=rowc _ h.1;exact ⟨_,List.mem_singleton.2 rfl,rfl,rfl,q,h1,h2,fun _ _ _ e=>by cases e⟩
 |grid e te kp=>
  obtain ⟨_,h⟩:=h
  cases a<;>simp only [] at h<;>first|(cases h;done)|skip
  obtain ⟨q,h1,h2⟩:=rowc _ h.1;exact ⟨_,List.mem_singleton.2 rfl,rfl,rfl,q,h1,h2,fun _ _ _ e=>by cases e⟩
theorem Aub {io:Bool} {k:Nat} {c:CK} {a:AC} {t:Nat×Loc} (h:t∈Ja io k c a):(t.1=Bn io k∧t.2.reads=false)∨(t.1=Bn false k∧t.2.reads=true):=by
 cases c<;>cases a<;>simp [Ja,views] at h<;>first|(obtain ⟨_,_,rfl⟩:=h;simp [Loc.reads];done)|(obtain ⟨_,⟨_,_⟩,rfl⟩:=h;simp [Loc.reads];done)|(rw [h];simp [Loc.reads])
theorem Aku {st:St} (h:Gj X w π st.heap) {V:List Nat} : ∀(cs:List (Bool×CK)) (k:Nat) (as:List AC) (us:List Value) (x:Ins.den cs) (tks:List (Nat×Loc)),k+cs.length<100000→Gp X w π st.heap as us→Ws st k cs as=some (x,tks)→(∀t∈tks,t.2.reads=true→t.2.lab∈V)→
  tks=Fu k cs as∧ ∃πc:Pi,Ahg X w π V st.heap πc k cs x as us∧(∀l,πc l≠none→ ∃b j,k≤j∧j<k+cs.length∧l=Bn b j)∧(∀l,Ac (On k cs x) l=none→πc l=none)∧
   (∀c r b,πc c=some r→r.Av b→ ∃t∈Fu k cs as,t.1=c∧t.2.reads=false∧ ∃q,π t.2.lab=some q∧q.Av b∧ ∀l i j,t.2= .sub l i j→b≠q.g)
 | [],k,[],[],x,tks,_,_,he,_=>by
  simp only [Ws,Option.some.injEq,Prod.mk.injEq] at he
  exact ⟨he.2.symm,fun _=>none,trivial,fun l h=>absurd rfl h,fun _ _=>rfl,fun c r b h=>by cases h⟩
 | [],k,[],_::_,_,_,_,h,_,_=>h.elim
 | [],k,_::_,_,_,_,_,_,he,_=>by simp [Ws] at he
 |p::r,k,[],_,_,_,_,_,he,_=>by simp [Ws] at he
 |p::r,k,a::as,[],_,_,_,h,_,_=>h.elim
 |p::r,k,a::as,u::us,x,tks,hk,hr,he,hV=>by
  simp only [Ws] at he
  split at he
  ·rename_i x1 t1 x2 t2 h1 h2
   simp only [Option.some.injEq,Prod.mk.injEq] at he
   obtain ⟨rfl,rfl⟩:=he
   simp only [List.length_cons] at hk
   obtain ⟨e2,πc,g1,g2,g3,g4⟩:=Aku h r (k+1) as us x2 t2 (by omega) hr.2 h2 fun t ht=>hV t (List.mem_append_right _ ht)
   have e1:=Baa h1
   obtain ⟨rr,r1,r2⟩:=Ba9 h hr.1 h1 fun t ht=>hV t (List.mem_append_left _ ht)
   refine ⟨by simp only [Fu];rw [e1,e2],fun l=>if l=Bn p.1 k then rr else πc l,⟨by simpa using ⟨r1,r2⟩,g1.congr r (k+1) x2 as us fun b j j1 j2=>if_neg (Aya (by omega) (by omega) (by omega))⟩,fun l hl=>?_,fun l hl=>?_,fun c q b hc hb=>?_⟩
   ·by_cases e:l=Bn p.1 k
    ·exact ⟨p.1,k,Nat.le_refl _,by simp,e⟩
    ·dsimp only at hl
     rw [if_neg e] at hl
     obtain ⟨b,j,j1,j2,j3⟩:=g2 l hl
     exact ⟨b,j,by omega,by simp;omega,j3⟩
   ·simp only [On] at hl
    dsimp only
    by_cases e:l=Bn p.1 k
    ·rw [if_pos e]
     cases hc:p.2 with
     |dat τ=>
      revert r2
      generalize p.2=c at*
      subst hc
      intro r2;exact r2
     |row e' te=>
      exfalso
      generalize p.2=c at*
      subst hc
      simp only [Aay,Yf,Ac,if_pos e.symm] at hl
      cases hl
     |xrow e' te=>
      exfalso
      generalize p.2=c at*
      subst hc
      simp only [Aay,Yf,Ac,if_pos e.symm] at hl
      cases hl
     |part e' te=>
      exfalso
      generalize p.2=c at*
      subst hc
      simp only [Aay,Yf,Ac,if_pos e.symm] at hl
      cases hl
     |grid e' te kp=>
      exfalso
      generalize p.2=c at*
      subst hc
      simp only [Aay,Yf,Ac,if_pos e.symm] at hl
      cases hl
    ·rw [if_neg e]
     refine g3 l ?_
     cases hc:Aay (Bn p.1 k) p.2 x1 with
     |none=>rw [hc] at hl;exact hl
     |some b=>rw [hc] at hl;simp only [Yf,Ac,if_neg (Ne.symm e)] at hl;exact hl
   ·dsimp only at hc
    by_cases e:c=Bn p.1 k
    ·rw [if_pos e] at hc
     obtain ⟨t,t1,t0,t2⟩:=r2.Av k hc hb
     exact ⟨t,by simp only [Fu];exact List.mem_append_left _ t1,by rw [t0,e],t2⟩
    ·rw [if_neg e] at hc
     obtain ⟨t,t1,t2⟩:=g4 c q b hc hb
     exact ⟨t,by simp only [Fu];exact List.mem_append_right _ t1,t2⟩
  ·cases he
end
end Go.Proofs.Ytebabhocakedaaa
