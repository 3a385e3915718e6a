/-
  Part 16 of the proof that the statement FnExactLowerBounds holds.
-/
import Derived.Test.YtfolipnappekaaaGreatCLowerBounds14
namespace Go.Proofs.YtfolipnappekaaaGreat
open Go.RowKit
section
variable {P:Program} {T:Tab} {X:Ctx} {w w':World} {π π':Pi} {H H':List (Nat×OB)}
def Ii (X:Ctx) (w:World) (π:Pi) (H:List (Nat×OB)):List AC->List Value->Prop
 | [],[]=>True
 |a::as,u::us=>Dw X w π H a u/\Ii X w π H as us
 |_,_=>False
theorem Ii.append {as bs:List AC} {us vs:List Value} (h1:Ii X w π H as us) (h2:Ii X w π H bs vs):Ii X w π H (as++bs) (us++vs):=by
 induction as generalizing us with
 |nil=>cases us with
  |nil=>exact h2
  |cons u us=>exact h1.elim
 |cons a as ih=>cases us with
  |nil=>exact h1.elim
  |cons u us=>exact ⟨h1.1,ih h1.2⟩
theorem Ii.of: ∀ {cs:List AC} {us:List Value},Cy X w π H cs us->Ii X w π H cs us
 | [],[],_=>trivial
 | [],u::us,h=>by have:=h.1;simp at this
 |c::cs,[],h=>by have:=h.1;simp at this
 |c::cs,u::us,h=>by
  obtain ⟨u',h1,_,h2⟩:=h.2 0 c rfl
  simp at h1;subst h1
  exact ⟨h2,Ii.of ⟨by have:=h.1;simpa using this,λi c' hc=>by
   obtain ⟨u',h3,h4⟩:=h.2 (i+1) c' (by simpa using hc)
   exact ⟨u',by simpa using h3,h4⟩⟩⟩
theorem Ii.to: ∀ {cs:List AC} {us:List Value},Ii X w π H cs us->(∀u∈us,u.oneCell'=true)->Cy X w π H cs us
 | [],[],_,_=>⟨rfl,λi c hc=>by simp at hc⟩
 | [],u::us,h,_=>h.elim
 |c::cs,[],h,_=>h.elim
 |c::cs,u::us,h,ho=>by
  have ih:=Ii.to h.2 λv hv=>ho v (List.mem_cons_of_mem _ hv)
  refine ⟨by simp [ih.1],λi c' hc=>?_⟩
  rcases i with _|i
  ·simp at hc;subst hc;exact ⟨u,rfl,ho u (by simp),h.1⟩
  ·obtain ⟨u',h3,h4⟩:=ih.2 i c' (by simpa using hc)
   exact ⟨u',by simpa using h3,h4⟩
theorem Ii.take: ∀ {cs:List AC} {us:List Value} (n:Nat),Ii X w π H cs us->Ii X w π H (cs.take n) (us.take n)/\Ii X w π H (cs.drop n) (us.drop n)
 |cs,us,0,h=>by simpa [Ii] using h
 | [],[],n+1,_=>by simp [Ii]
 | [],u::us,n+1,h=>h.elim
 |c::cs,[],n+1,h=>h.elim
 |c::cs,u::us,n+1,h=>by
  have:=Ii.take n h.2
  exact ⟨⟨h.1,this.1⟩,this.2⟩
theorem Te: ∀(sh:List (Option Nat)) (ij:List AV) (vs:List Value) (as:List AC),ij.length=vs.length->(∀(i:Nat) c v,ij[i]?=some c->vs[i]?=some v->An X w π H c v)->ungroup sh ij=some as->
  ∃us,vs=Gg sh us/\Xx sh us/\Ii X w π H as us
 | [],[],vs,as,hl,_,he=>by
  simp only [ungroup,Option.some.injEq] at he;subst he
  have:vs= []:=List.eq_nil_of_length_eq_zero hl.symm
  subst this
  exact ⟨[],rfl,trivial,trivial⟩
 |none::sh, .at a::ij,vs,as,hl,hr,he=>by
  simp only [ungroup] at he
  cases hu:ungroup sh ij with
  |none=>rw [hu] at he;cases he
  |some r=>
   rw [hu] at he
   simp only [Option.map_some,Option.some.injEq] at he;subst he
   cases vs with
   |nil=>simp at hl
   |cons v vs=>
    obtain ⟨us,h1,h2,h3⟩:=Te sh ij vs r (by simpa using hl) (λi c v hc hv=>hr (i+1) c v (by simpa using hc) (by simpa using hv)) hu
    exact ⟨v::us,by rw [h1];rfl,h2,hr 0 _ v rfl rfl,h3⟩
 |some n::sh, .agg cs::ij,vs,as,hl,hr,he=>by
  simp only [ungroup] at he
  split at he
  ·rename_i hn
   cases hu:ungroup sh ij with
   |none=>rw [hu] at he;cases he
   |some r=>
    rw [hu] at he
    simp only [Option.map_some,Option.some.injEq] at he;subst he
    cases vs with
    |nil=>simp at hl
    |cons v vs=>
     obtain ⟨us,h1,h2,h3⟩:=Te sh ij vs r (by simpa using hl) (λi c v hc hv=>hr (i+1) c v (by simpa using hc) (by simpa using hv)) hu
     obtain ⟨ws,rfl,h4⟩:=hr 0 _ v rfl rfl
     have NC:ws.length=n:=by rw [<-hn];exact h4.1
     refine ⟨ws++us,?_,⟨by simp [NC],?_,?_⟩,(Ii.of h4).append h3⟩
     ·rw [h1];simp only [Gg];rw [List.take_left' NC,List.drop_left' NC]
     ·rw [List.take_left' NC]
      intro u hu
      obtain ⟨j,hj,rfl⟩:=List.getElem_of_mem hu
      obtain ⟨u',h5,h6,_⟩:=h4.2 j (cs[j]'(by have:=h4.1;omega)) (List.getElem?_eq_getElem _)
      rw [List.getElem?_eq_getElem hj] at h5
      simp only [Option.some.injEq] at h5
      rw [h5];exact h6
     ·rw [List.drop_left' NC];exact h2
  ·cases he
 |some n::sh, .at (.data fr τ x)::ij,vs,as,hl,hr,he=>by
  simp only [ungroup] at he
  split at he
  ·rename_i hn
   cases hu:ungroup sh ij with
   |none=>rw [hu] at he;cases he
   |some r=>
    rw [hu] at he
    simp only [Option.map_some,Option.some.injEq] at he;subst he
    cases vs with
    |nil=>simp at hl
    |cons v vs=>
     obtain ⟨us,h1,h2,h3⟩:=Te sh ij vs r (by simpa using hl) (λi c v hc hv=>hr (i+1) c v (by simpa using hc) (by simpa using hv)) hu
     obtain ⟨ws,h0,hv⟩:=hr 0 _ v rfl rfl
     have h4:=lk (X:=X) (H:=H) τ ws x h0
     have hv:v= .agg ws.toArray:=by rw [hv];unfold As;rw [if_pos hn.1]
     subst hv
     have NC:ws.length=n:=by rw [<-hn.2];exact h4.1
     refine ⟨ws++us,?_,⟨by simp [NC],?_,?_⟩,(Ii.of h4).append h3⟩
     ·rw [h1];simp only [Gg];rw [List.take_left' NC,List.drop_left' NC]
     ·rw [List.take_left' NC]
      intro u hu
      obtain ⟨j,hj,rfl⟩:=List.getElem_of_mem hu
      obtain ⟨u',h5,h6,_⟩:=h4.2 j ((Me fr τ x)[j]'(by have:=h4.1;omega)) (List.getElem?_eq_getElem _)
      rw [List.getElem?_eq_getElem hj] at h5
      simp only [Option.some.injEq] at h5
      rw [h5];exact h6
     ·rw [List.drop_left' NC];exact h2
  ·cases he
 | [],_::_,_,_,_,_,he=>by simp [ungroup] at he
 |none::_,[],_,_,_,_,he=>by simp [ungroup] at he
 |none::_, .agg _::_,_,_,_,_,he=>by simp [ungroup] at he
 |none::_, .Vl _ _ _::_,_,_,_,_,he=>by simp [ungroup] at he
 |none::_, .Ib _::_,_,_,_,_,he=>by simp [ungroup] at he
 |some _::_,[],_,_,_,_,he=>by simp [ungroup] at he
 |some _::_, .at .undef::_,_,_,_,_,he=>by simp [ungroup] at he
 |some _::_, .at .skip::_,_,_,_,_,he=>by simp [ungroup] at he
 |some _::_, .at .Hp::_,_,_,_,_,he=>by simp [ungroup] at he
 |some _::_, .at .Qd::_,_,_,_,_,he=>by simp [ungroup] at he
 |some _::_, .at (.own _ _ _)::_,_,_,_,_,he=>by simp [ungroup] at he
 |some _::_, .at (.Dv _ _)::_,_,_,_,_,he=>by simp [ungroup] at he
 |some _::_, .at (.Fu _ _)::_,_,_,_,_,he=>by simp [ungroup] at he
 |some _::_, .at (.sub _ _ _)::_,_,_,_,_,he=>by simp [ungroup] at he
 |some _::_, .at (.Fp _ _ _)::_,_,_,_,_,he=>by simp [ungroup] at he
 |some _::_, .at (.clo _ _)::_,_,_,_,_,he=>by simp [ungroup] at he
 |some _::_, .at (.Ga _)::_,_,_,_,_,he=>by simp [ungroup] at he
 |some _::_, .Vl _ _ _::_,_,_,_,_,he=>by simp [ungroup] at he
 |some _::_, .Ib _::_,_,_,_,_,he=>by simp [ungroup] at he
theorem Zm: ∀(sh:List (Option Nat)) (as:List AC) (us:List Value),Xx sh us->Ii X w π H as us->
  (Mv sh as).length=(Gg sh us).length/\(∀(i:Nat) c v,(Mv sh as)[i]?=some c->(Gg sh us)[i]?=some v->An X w π H c v)/\
  (Tp sh as).length=(Gg sh us).length/\(∀(i:Nat) p v,(Tp sh as)[i]?=some p->(Gg sh us)[i]?=some v->au X w π H p v)
 | [],[],[],_,_=>⟨rfl,λi c v hc=>by simp [Mv] at hc,rfl,λi c v hc=>by simp [Tp] at hc⟩
 | [],_::_,[],_,h=>h.elim
 |none::_,_,[],h,_=>h.elim
 | [],_,_::_,h,_=>h.elim
 |none::sh,[],u::us,_,h=>h.elim
 |none::sh,a::as,u::us,hs,h=>by
  obtain ⟨h1,h2,h3,h4⟩:=Zm sh as us hs h.2
  refine ⟨by simp [Mv,Gg,h1],λi c v hc hv=>?_,by simp [Tp,Gg,h3],λi p v hp hv=>?_⟩
  ·rcases i with _|i
   ·simp [Mv,Gg] at hc hv;subst hc;subst hv;exact h.1
   ·exact h2 i c v (by simpa [Mv] using hc) (by simpa [Gg] using hv)
  ·rcases i with _|i
   ·simp [Tp,Gg] at hp hv;subst hp;subst hv
    unfold au
    rw [if_neg (by simp)]
    intro a' ha;simp at ha;subst ha;exact h.1
   ·exact h4 i p v (by simpa [Tp] using hp) (by simpa [Gg] using hv)
 |some n::sh,as,us,hs,h=>by
  obtain ⟨gZ,qd,hs3⟩:=hs
  obtain ⟨k1,k2⟩:=Ii.take n h
  obtain ⟨h1,h2,h3,h4⟩:=Zm sh (as.drop n) (us.drop n) hs3 k2
  have k3:=Ii.to k1 qd
  refine ⟨by simp [Mv,Gg,h1],λi c v hc hv=>?_,by simp [Tp,Gg,h3],λi p v hp hv=>?_⟩
  ·rcases i with _|i
   ·simp only [Mv,Gg,List.getElem?_cons_zero,Option.some.injEq] at hc hv;subst hc;subst hv;exact ⟨_,rfl,k3⟩
   ·exact h2 i c v (by simpa [Mv] using hc) (by simpa [Gg] using hv)
  ·rcases i with _|i
   ·simp only [Tp,Gg,List.getElem?_cons_zero,Option.some.injEq] at hp hv;subst hp;subst hv
    unfold au
    rw [if_pos rfl]
    exact ⟨_,rfl,k3⟩
   ·exact h4 i p v (by simpa [Tp] using hp) (by simpa [Gg] using hv)
def Ks (io:Bool) (k:Nat):CK->AC->List (Nat×Loc)
 | .Dh _, .own l _ _=> [(Bl false k, .view l)]
 | .Dh _, .clo _ Bv=>views k (Bv.map (·.1))
 | .Dh _, .Dv l _=>views k [l]
 | .Dh _, .sub l _ _=> [(Bl false k, .view l)]
 | .Dh _,_=> []
 |_, .own l _ _=> [(Bl io k, .row l)]
 |_, .sub l i c=> [(Bl io k, .sub l i c)]
 |_,_=> []
def Ha:Nat->List (Bool×CK)->List AC->List (Nat×Loc)
 |k,p::r,a::as=>Ks p.1 k p.2 a++Ha (k+1) r as
 |_,_,_=> []
theorem KA {st:St} {io:Bool} {k:Nat} {c:CK} {a:AC} {x:c.den} {tks:List (Nat×Loc)} (he:Hk st io k c a=some (x,tks)):tks=Ks io k c a:=by
 cases c with
 |Dh τ=>
  cases a with
  |own l off len=>
   simp only [Hk] at he
   cases hv:Bn st τ (.own l off len) with
   |none=>rw [hv] at he;cases he
   |some p=>rw [hv] at he;simp only [Option.map_some,Option.some.injEq,Prod.mk.injEq] at he;exact he.2.symm
  |clo g Bv=>
   simp only [Hk] at he
   split at he
   ·cases hv:Fl st τ (.clo g Bv) with
    |none=>rw [hv] at he;cases he
    |some p=>rw [hv] at he;simp only [Option.map_some,Option.some.injEq,Prod.mk.injEq] at he;exact he.2.symm
   ·cases he
  |Dv l i=>
   simp only [Hk] at he
   split at he
   ·cases hv:Fl st τ (.Dv l i) with
    |none=>rw [hv] at he;cases he
    |some p=>rw [hv] at he;simp only [Option.map_some,Option.some.injEq,Prod.mk.injEq] at he;exact he.2.symm
   ·cases he
  |sub l i c=>
   simp only [Hk] at he
   cases hv:Bn st τ (.sub l i c) with
   |none=>rw [hv] at he;cases he
   |some p=>rw [hv] at he;simp only [Option.map_some,Option.some.injEq,Prod.mk.injEq] at he;exact he.2.symm
  |_=>
   simp only [Hk] at he
   split at he
   ·first
     |(rename_i hc;cases hv:Bn st τ _ with
      |none=>rw [hv] at he;cases he
      |some p=>rw [hv] at he;simp only [Option.map_some,Option.some.injEq,Prod.mk.injEq] at he;exact he.2.symm)
   ·cases he
 |row e te=>
  cases a<;>simp only [Hk] at he<;>try (cases he;done)
  ·simp only [Option.some.injEq,Prod.mk.injEq] at he;exact he.2.symm
  ·split at he
   ·split at he
    ·simp only [Option.some.injEq,Prod.mk.injEq] at he;exact he.2.symm
    ·cases he
   ·cases he
  ·rename_i l i c
   split at he
   ·rename_i e' tid xs hl
    split at he
    ·cases hx:xs[i]? with
     |none=>rw [hx] at he;cases he
     |some y=>rw [hx] at he;simp only [Option.map_some,Option.some.injEq,Prod.mk.injEq] at he;exact he.2.symm
    ·cases he
   ·cases he
 |Ds e te=>
  cases a<;>simp only [Hk] at he<;>try (cases he;done)
  ·simp only [Option.some.injEq,Prod.mk.injEq] at he;exact he.2.symm
  ·split at he
   ·split at he
    ·simp only [Option.some.injEq,Prod.mk.injEq] at he;exact he.2.symm
    ·cases he
   ·cases he
  ·rename_i l i c
   split at he
   ·rename_i e' tid xs hl
    split at he
    ·cases hx:xs[i]? with
     |none=>rw [hx] at he;cases he
     |some y=>rw [hx] at he;simp only [Option.map_some,Option.some.injEq,Prod.mk.injEq] at he;exact he.2.symm
    ·cases he
   ·cases he
 |part e te=>
  cases a<;>simp only [Hk] at he<;>try (cases he;done)
  split at he
  ·split at he
   ·simp only [Option.some.injEq,Prod.mk.injEq] at he;exact he.2.symm
   ·cases he
  ·cases he
 |Aj e te kp=>
  cases a<;>simp only [Hk] at he<;>try (cases he;done)
  split at he
  ·split at he
   ·simp only [Option.some.injEq,Prod.mk.injEq] at he;exact he.2.symm
   ·cases he
  ·cases he
theorem Tu.Ep {D D':Nat->Prop} {r:Option Real} {e:Ty} {rows:List (List e.den)} (h:Tu w D r e rows none) (hD: ∀b,D' b->D b):Tu w D' r e rows none:=
 h.Ch (λ_ _ _ _ _=>rfl) λes x hc=>Cells.Ch (Nat.le_refl _) (λ_ _ _=>rfl) (λb _ hb=>hD b hb) e es x hc
def m7 (X:Ctx) (w:World) (π:Pi) (V:List Nat) (H:List (Nat×OB)) (πc:Pi):(k:Nat)->(cs:List (Bool×CK))->Ins.den cs->List AC->List Value->Prop
 |_,[],_,[],[]=>True
 |k,p::r,x,a::as,u::us=>(ao w (Ji X π V) (πc (Bl p.1 k)) u p.2 x.1/\Nh w π H p.1 a u (πc (Bl p.1 k)) p.2 x.1)/\m7 X w π V H πc (k+1) r x.2 as us
 |_,_,_,_,_=>False
theorem GH {b b':Bool} {k j:Nat} (hk:k<100000) (hj:j<100000) (h:k≠j):Bl b k≠Bl b' j:=by
 unfold Bl;cases b<;>cases b'<;>simp<;>omega
theorem m7.congr {V:List Nat} {πc Af4:Pi} : ∀(cs:List (Bool×CK)) (k:Nat) (x:Ins.den cs) (as:List AC) (us:List Value),(∀b j,k<=j->j<k+cs.length->Af4 (Bl b j)=πc (Bl b j))->m7 X w π V H πc k cs x as us->m7 X w π V H Af4 k cs x as us
 | [],_,_,[],[],_,h=>h
 | [],_,_,_::_,_,_,h=>h.elim
 | [],_,_,[],_::_,_,h=>h.elim
 |_::_,_,_,[],_,_,h=>h.elim
 |_::_,_,_,_::_,[],_,h=>h.elim
 |p::r,k,x,a::as,u::us,hc,h=>⟨by rw [hc p.1 k (Nat.le_refl _) (by simp)];exact h.1,m7.congr r (k+1) x.2 as us (λb j h1 h2=>hc b j (by omega) (by simp;omega)) h.2⟩
theorem m7.Adu {V:List Nat} {πc:Pi} : ∀(cs:List (Bool×CK)) (k:Nat) (x:Ins.den cs) (as:List AC) (us:List Value),m7 X w π V H πc k cs x as us->aq w (Ji X π V) πc k cs x us
 | [],_,_,[],[],h=>h
 | [],_,_,_::_,_,h=>h.elim
 | [],_,_,[],_::_,h=>h.elim
 |_p::_r,_k,_x,[],_,h=>h.elim
 |_p::_r,_k,_x,_::_,[],h=>h.elim
 |_p::r,k,x,_a::as,_u::us,h=>⟨h.1.1,m7.Adu r (k+1) x.2 as us h.2⟩
theorem Mr.Ep {D D':Nat->Prop} {r:Option Real} {e:Ty} {xs:List e.den} (h:Mr w D r e xs) (hD: ∀b,D' b->D b):Mr w D' r e xs:=by
 cases r with
 |none=>exact h
 |some r=>
  obtain ⟨k1,cu,ti,k2,k3,k4,k5,k6⟩:=h
  exact ⟨k1,cu,ti,k2,k3,k4,k5,λi y hy=>by
   obtain ⟨es,g1,g2,g3⟩:=k6 i y hy
   exact ⟨es,g1,g2,Cells.Ch (Nat.le_refl _) (λ_ _ _=>rfl) (λb _ hb=>hD b hb) e es y g3⟩⟩
theorem aq.Ep {D D':Nat->Prop} {πc:Pi} (hD: ∀b,D' b->D b): ∀(cs:List (Bool×CK)) (k:Nat) (x:Ins.den cs) (us:List Value),aq w D πc k cs x us->aq w D' πc k cs x us
 | [],_,_,[],h=>h
 | [],_,_,_::_,h=>h.elim
 |p::r,k,x,[],h=>h.elim
 |(io,c)::r,k,x,u::us,h=>⟨by
   have:=h.1
   cases c with
   |Dh τ=>exact ⟨this.1,this.2.Ep λb _ hb=>hD b hb⟩
   |row e te=>exact ⟨this.1,this.2.Ep hD⟩
   |Ds e te=>exact this
   |Aj e te kp=>exact ⟨this.1,Tu.Ep this.2 hD⟩
   |part e te=>exact ⟨this.1,this.2.1,this.2.2.Ep hD⟩,aq.Ep hD r (k+1) x.2 us h.2⟩
theorem Nh.Bb {io:Bool} {a:AC} {u:Value} {r:Option Real} {c:CK} {x:c.den} (k:Nat) (h:Nh w π H io a u r c x) {r':Real} (hr:r=some r') {b:Nat} (hb:r'.Bb b):
  ∃t,t∈Ks io k c a/\t.1=Bl io k/\t.2.reads=false/\ ∃q,π t.2.Qc=some q/\q.Bb b/\ ∀l i j,t.2= .sub l i j->b≠q.g:=by
 subst hr
 have TP: ∀l,some r'=(π l).map full-> ∃q,π l=some q/\q.Bb b:=by
  intro l hl
  cases hp:π l with
  |none=>rw [hp] at hl;cases hl
  |some q=>rw [hp] at hl;simp only [Option.map_some,Option.some.injEq] at hl;subst hl;exact ⟨q,rfl,hb⟩
 cases c with
 |Dh τ=>cases h
 |row e te=>
  simp only [Nh] at h
  cases a<;>simp only [] at h<;>first|(cases h;done)|skip
  ·obtain ⟨q,h1,h2⟩:=TP _ h.1;exact ⟨_,List.mem_singleton.2 rfl,rfl,rfl,q,h1,h2,λ_ _ _ e=>by cases e⟩
  ·obtain ⟨_,tid,xs,_,_,q,h1,h2,_⟩:=h
   exact ⟨_,List.mem_singleton.2 rfl,rfl,rfl,q,h1,(h2 r' rfl b hb).1,λ_ _ _ _=>(h2 r' rfl b hb).2⟩
 |Ds e te=>
  simp only [Nh] at h
  cases a<;>simp only [] at h<;>first|(cases h;done)|skip
  ·obtain ⟨q,h1,h2⟩:=TP _ h.1;exact ⟨_,List.mem_singleton.2 rfl,rfl,rfl,q,h1,h2,λ_ _ _ e=>by cases e⟩
  ·obtain ⟨_,tid,xs,_,_,q,h1,h2,_⟩:=h
   exact ⟨_,List.mem_singleton.2 rfl,rfl,rfl,q,h1,(h2 r' rfl b hb).1,λ_ _ _ _=>(h2 r' rfl b hb).2⟩
 |part e te=>
  obtain ⟨_,h⟩:=h
  cases a<;>simp only [] at h<;>first|(cases h;done)|skip
  obtain ⟨q,h1,h2⟩:=TP _ h.1;exact ⟨_,List.mem_singleton.2 rfl,rfl,rfl,q,h1,h2,λ_ _ _ e=>by cases e⟩
 |Aj e te kp=>
  obtain ⟨_,h⟩:=h
  cases a<;>simp only [] at h<;>first|(cases h;done)|skip
  obtain ⟨q,h1,h2⟩:=TP _ h.1;exact ⟨_,List.mem_singleton.2 rfl,rfl,rfl,q,h1,h2,λ_ _ _ e=>by cases e⟩
theorem z9 {io:Bool} {k:Nat} {c:CK} {a:AC} {t:Nat×Loc} (h:t∈Ks io k c a):(t.1=Bl io k/\t.2.reads=false)\/(t.1=Bl false k/\t.2.reads=true):=by
 cases c<;>cases a<;>simp [Ks,views] at h<;>first|(obtain ⟨_,_,rfl⟩:=h;simp [Loc.reads];done)|(obtain ⟨_,⟨_,_⟩,rfl⟩:=h;simp [Loc.reads];done)|(rw [h];simp [Loc.reads])
theorem pR {st:St} (h:Ih X w π st.heap) {V:List Nat} : ∀(cs:List (Bool×CK)) (k:Nat) (as:List AC) (us:List Value) (x:Ins.den cs) (tks:List (Nat×Loc)),k+cs.length<100000->Ii X w π st.heap as us->bt st k cs as=some (x,tks)->(∀t∈tks,t.2.reads=true->t.2.Qc∈V)->
  tks=Ha k cs as/\ ∃πc:Pi,m7 X w π V st.heap πc k cs x as us/\(∀l,πc l≠none-> ∃b j,k<=j/\j<k+cs.length/\l=Bl b j)/\(∀l,Ad (Sv k cs x) l=none->πc l=none)/\
   (∀c r b,πc c=some r->r.Bb b-> ∃t∈Ha k cs as,t.1=c/\t.2.reads=false/\ ∃q,π t.2.Qc=some q/\q.Bb b/\ ∀l i j,t.2= .sub l i j->b≠q.g)
 | [],k,[],[],x,tks,_,_,he,_=>by
  simp only [bt,Option.some.injEq,Prod.mk.injEq] at he
  exact ⟨he.2.symm,λ_=>none,trivial,λl h=>absurd rfl h,λ_ _=>rfl,λc r b h=>by cases h⟩
 | [],k,[],_::_,_,_,_,h,_,_=>h.elim
 | [],k,_::_,_,_,_,_,_,he,_=>by simp [bt] at he
 |p::r,k,[],_,_,_,_,_,he,_=>by simp [bt] at he
 |p::r,k,a::as,[],_,_,_,h,_,_=>h.elim
 |p::r,k,a::as,u::us,x,tks,hk,hr,he,hV=>by
  simp only [bt] at he
  split at he
  ·rename_i x1 t1 x2 t2 h1 h2
   simp only [Option.some.injEq,Prod.mk.injEq] at he
   obtain ⟨rfl,rfl⟩:=he
   simp only [List.length_cons] at hk
   obtain ⟨e2,πc,g1,g2,g3,g4⟩:=pR h r (k+1) as us x2 t2 (by omega) hr.2 h2 λt ht=>hV t (List.mem_append_right _ ht)
   have e1:=KA h1
   obtain ⟨rr,r1,r2⟩:=JZ h hr.1 h1 λt ht=>hV t (List.mem_append_left _ ht)
   refine ⟨by simp only [Ha];rw [e1,e2],λl=>if l=Bl p.1 k then rr else πc l,⟨by simpa using ⟨r1,r2⟩,g1.congr r (k+1) x2 as us λb j j1 j2=>if_neg (GH (by omega) (by omega) (by omega))⟩,λl hl=>?_,λl hl=>?_,λc q b hc hb=>?_⟩
   ·by_cases e:l=Bl p.1 k
    ·exact ⟨p.1,k,Nat.le_refl _,by simp,e⟩
    ·dsimp only at hl
     rw [if_neg e] at hl
     obtain ⟨b,j,j1,j2,j3⟩:=g2 l hl
     exact ⟨b,j,by omega,by simp;omega,j3⟩
   ·simp only [Sv] at hl
    dsimp only
    by_cases e:l=Bl p.1 k
    ·rw [if_pos e]
     cases hc:p.2 with
     |Dh τ=>
      revert r2
      generalize p.2=c at*
      subst hc
      intro r2;exact r2
     |row e' te=>
      exfalso
      generalize p.2=c at*
      subst hc
      simp only [eO,cC,Ad,if_pos e.symm] at hl
      cases hl
     |Ds e' te=>
      exfalso
      generalize p.2=c at*
      subst hc
      simp only [eO,cC,Ad,if_pos e.symm] at hl
      cases hl
     |part e' te=>
      exfalso
      generalize p.2=c at*
      subst hc
      simp only [eO,cC,Ad,if_pos e.symm] at hl
      cases hl
     |Aj e' te kp=>
      exfalso
      generalize p.2=c at*
      subst hc
      simp only [eO,cC,Ad,if_pos e.symm] at hl
      cases hl
    ·rw [if_neg e]
     refine g3 l ?_
     cases hc:eO (Bl p.1 k) p.2 x1 with
     |none=>rw [hc] at hl;exact hl
     |some b=>rw [hc] at hl;simp only [cC,Ad,if_neg (Ne.symm e)] at hl;exact hl
   ·dsimp only at hc
    by_cases e:c=Bl p.1 k
    ·rw [if_pos e] at hc
     obtain ⟨t,t1,t0,t2⟩:=r2.Bb k hc hb
     exact ⟨t,by simp only [Ha];exact List.mem_append_left _ t1,by rw [t0,e],t2⟩
    ·rw [if_neg e] at hc
     obtain ⟨t,t1,t2⟩:=g4 c q b hc hb
     exact ⟨t,by simp only [Ha];exact List.mem_append_right _ t1,t2⟩
  ·cases he
end
end Go.Proofs.YtfolipnappekaaaGreat
