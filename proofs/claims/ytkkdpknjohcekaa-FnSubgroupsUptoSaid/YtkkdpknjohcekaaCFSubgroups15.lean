/-
  Part 16 of the proof that the statement FnSubgroups holds.
-/
import Derived.Test.YtkkdpknjohcekaaCFSubgroups14
namespace Go.Proofs.Ytkkdpknjohcekaa
open Go.RowKit
section
variable {P:Program} {T:Tab} {X:Ctx} {w w':World} {π π':Pi} {H H':List (Nat×OB)}
def Ms (X:Ctx) (w:World) (π:Pi) (H:List (Nat×OB)):List AC->List Value->Prop
 | [],[]=>True
 |a::as,u::us=>Hj X w π H a u/\Ms X w π H as us
 |_,_=>False
theorem Ms.append {as bs:List AC} {us vs:List Value} (h1:Ms X w π H as us) (h2:Ms X w π H bs vs):Ms X w π H (as++bs) (us++vs):=by
 induction as generalizing us with
 |nil=>cases us with
  |nil=>exact h2
  |cons u us=>exact h1.elim
 |cons a as ih=>cases us with
  |nil=>exact h1.elim
  |cons u us=>exact ⟨h1.1,ih h1.2⟩
theorem Ms.of: ∀ {cs:List AC} {us:List Value},Fw X w π H cs us->Ms X w π H cs us
 | [],[],_=>trivial
 | [],u::us,h=>by have:=h.1;simp at this
 |c::cs,[],h=>by have:=h.1;simp at this
 |c::cs,u::us,h=>by
  obtain ⟨u',h1,_,h2⟩:=h.2 0 c rfl
  simp at h1;subst h1
  exact ⟨h2,Ms.of ⟨by have:=h.1;simpa using this,λi c' hc=>by
   obtain ⟨u',h3,h4⟩:=h.2 (i+1) c' (by simpa using hc)
   exact ⟨u',by simpa using h3,h4⟩⟩⟩
theorem Ms.to: ∀ {cs:List AC} {us:List Value},Ms X w π H cs us->(∀u∈us,u.oneCell'=true)->Fw X w π H cs us
 | [],[],_,_=>⟨rfl,λi c hc=>by simp at hc⟩
 | [],u::us,h,_=>h.elim
 |c::cs,[],h,_=>h.elim
 |c::cs,u::us,h,ho=>by
  have ih:=Ms.to h.2 λv hv=>ho v (Ar _ hv)
  refine ⟨by simp [ih.1],λi c' hc=>?_⟩
  rcases i with _|i
  ·simp at hc;subst hc;exact ⟨u,rfl,ho u (by simp),h.1⟩
  ·obtain ⟨u',h3,h4⟩:=ih.2 i c' (by simpa using hc)
   exact ⟨u',by simpa using h3,h4⟩
theorem Ms.take: ∀ {cs:List AC} {us:List Value} (n:Nat),Ms X w π H cs us->Ms X w π H (cs.take n) (us.take n)/\Ms X w π H (cs.drop n) (us.drop n)
 |cs,us,0,h=>by simpa [Ms] using h
 | [],[],n+1,_=>by simp [Ms]
 | [],u::us,n+1,h=>h.elim
 |c::cs,[],n+1,h=>h.elim
 |c::cs,u::us,n+1,h=>by
  have:=Ms.take n h.2
  exact ⟨⟨h.1,this.1⟩,this.2⟩
theorem aj: ∀(sh:List (Option Nat)) (nu:List AV) (vs:List Value) (as:List AC),nu.length=vs.length->(∀(i:Nat) c v,nu[i]?=some c->vs[i]?=some v->Bq X w π H c v)->ungroup sh nu=some as->
  ∃us,vs=Ks sh us/\cZ sh us/\Ms X w π H as us
 | [],[],vs,as,hl,_,he=>by
  simp only [ungroup,Aa] at he;subst he
  have:vs= []:=Co hl.symm
  subst this
  exact ⟨[],rfl,trivial,trivial⟩
 |none::sh, .at a::nu,vs,as,hl,hr,he=>by
  simp only [ungroup] at he
  cases hu:ungroup sh nu with
  |none=>rw [hu] at he;cases he
  |some r=>
   rw [hu] at he
   simp only [Am,Aa] at he;subst he
   cases vs with
   |nil=>simp at hl
   |cons v vs=>
    obtain ⟨us,h1,h2,h3⟩:=aj sh nu vs r (by simpa using hl) (λi c v hc hv=>hr (i+1) c v (by simpa using hc) (by simpa using hv)) hu
    exact ⟨v::us,by rw [h1];rfl,h2,hr 0 _ v rfl rfl,h3⟩
 |some n::sh, .agg cs::nu,vs,as,hl,hr,he=>by
  simp only [ungroup] at he
  split at he
  ·rename_i hn
   cases hu:ungroup sh nu with
   |none=>rw [hu] at he;cases he
   |some r=>
    rw [hu] at he
    simp only [Am,Aa] at he;subst he
    cases vs with
    |nil=>simp at hl
    |cons v vs=>
     obtain ⟨us,h1,h2,h3⟩:=aj sh nu vs r (by simpa using hl) (λi c v hc hv=>hr (i+1) c v (by simpa using hc) (by simpa using hv)) hu
     obtain ⟨ws,rfl,h4⟩:=hr 0 _ v rfl rfl
     have hwl:ws.length=n:=by rw [<-hn];exact h4.1
     refine ⟨ws++us,?_,⟨by simp [hwl],?_,?_⟩,(Ms.of h4).append h3⟩
     ·rw [h1];simp only [Ks];rw [List.take_left' hwl,List.drop_left' hwl]
     ·rw [List.take_left' hwl]
      intro u hu
      obtain ⟨j,hj,rfl⟩:=Nc hu
      obtain ⟨u',h5,h6,_⟩:=h4.2 j (cs[j]'(by have:=h4.1;omega)) (Ad _)
      rw [Ad hj] at h5
      simp only [Aa] at h5
      rw [h5];exact h6
     ·rw [List.drop_left' hwl];exact h2
  ·cases he
 |some n::sh, .at (.data fr τ x)::nu,vs,as,hl,hr,he=>by
  simp only [ungroup] at he
  split at he
  ·rename_i hn
   cases hu:ungroup sh nu with
   |none=>rw [hu] at he;cases he
   |some r=>
    rw [hu] at he
    simp only [Am,Aa] at he;subst he
    cases vs with
    |nil=>simp at hl
    |cons v vs=>
     obtain ⟨us,h1,h2,h3⟩:=aj sh nu vs r (by simpa using hl) (λi c v hc hv=>hr (i+1) c v (by simpa using hc) (by simpa using hv)) hu
     obtain ⟨ws,h0,hv⟩:=hr 0 _ v rfl rfl
     have h4:=qE (X:=X) (H:=H) τ ws x h0
     have hv:v= .agg ws.toArray:=by rw [hv];unfold Ce;rw [Ab hn.1]
     subst hv
     have hwl:ws.length=n:=by rw [<-hn.2];exact h4.1
     refine ⟨ws++us,?_,⟨by simp [hwl],?_,?_⟩,(Ms.of h4).append h3⟩
     ·rw [h1];simp only [Ks];rw [List.take_left' hwl,List.drop_left' hwl]
     ·rw [List.take_left' hwl]
      intro u hu
      obtain ⟨j,hj,rfl⟩:=Nc hu
      obtain ⟨u',h5,h6,_⟩:=h4.2 j ((Sa fr τ x)[j]'(by have:=h4.1;omega)) (Ad _)
      rw [Ad hj] at h5
      simp only [Aa] at h5
      rw [h5];exact h6
     ·rw [List.drop_left' hwl];exact h2
  ·cases he
 | [],_::_,_,_,_,_,he=>by simp [ungroup] at he
 |none::_,[],_,_,_,_,he=>by simp [ungroup] at he
 |none::_, .agg _::_,_,_,_,_,he=>by simp [ungroup] at he
 |none::_, .bp _ _ _::_,_,_,_,_,he=>by simp [ungroup] at he
 |none::_, .Mn _::_,_,_,_,_,he=>by simp [ungroup] at he
 |some _::_,[],_,_,_,_,he=>by simp [ungroup] at he
 |some _::_, .at .undef::_,_,_,_,_,he=>by simp [ungroup] at he
 |some _::_, .at .skip::_,_,_,_,_,he=>by simp [ungroup] at he
 |some _::_, .at .Lp::_,_,_,_,_,he=>by simp [ungroup] at he
 |some _::_, .at .Vp::_,_,_,_,_,he=>by simp [ungroup] at he
 |some _::_, .at (.own _ _ _)::_,_,_,_,_,he=>by simp [ungroup] at he
 |some _::_, .at (.He _ _)::_,_,_,_,_,he=>by simp [ungroup] at he
 |some _::_, .at (.Jv _ _)::_,_,_,_,_,he=>by simp [ungroup] at he
 |some _::_, .at (.sub _ _ _)::_,_,_,_,_,he=>by simp [ungroup] at he
 |some _::_, .at (.Js _ _ _)::_,_,_,_,_,he=>by simp [ungroup] at he
 |some _::_, .at (.clo _ _)::_,_,_,_,_,he=>by simp [ungroup] at he
 |some _::_, .at (.Kh _)::_,_,_,_,_,he=>by simp [ungroup] at he
 |some _::_, .bp _ _ _::_,_,_,_,_,he=>by simp [ungroup] at he
 |some _::_, .Mn _::_,_,_,_,_,he=>by simp [ungroup] at he
theorem er: ∀(sh:List (Option Nat)) (as:List AC) (us:List Value),cZ sh us->Ms X w π H as us->
  (Sz sh as).length=(Ks sh us).length/\(∀(i:Nat) c v,(Sz sh as)[i]?=some c->(Ks sh us)[i]?=some v->Bq X w π H c v)/\
  (aw sh as).length=(Ks sh us).length/\(∀(i:Nat) p v,(aw sh as)[i]?=some p->(Ks sh us)[i]?=some v->eZ X w π H p v)
 | [],[],[],_,_=>⟨rfl,λi c v hc=>by simp [Sz] at hc,rfl,λi c v hc=>by simp [aw] at hc⟩
 | [],_::_,[],_,h=>h.elim
 |none::_,_,[],h,_=>h.elim
 | [],_,_::_,h,_=>h.elim
 |none::sh,[],u::us,_,h=>h.elim
 |none::sh,a::as,u::us,hs,h=>by
  obtain ⟨h1,h2,h3,h4⟩:=er sh as us hs h.2
  refine ⟨by simp [Sz,Ks,h1],λi c v hc hv=>?_,by simp [aw,Ks,h3],λi p v hp hv=>?_⟩
  ·rcases i with _|i
   ·simp [Sz,Ks] at hc hv;subst hc;subst hv;exact h.1
   ·exact h2 i c v (by simpa [Sz] using hc) (by simpa [Ks] using hv)
  ·rcases i with _|i
   ·simp [aw,Ks] at hp hv;subst hp;subst hv
    unfold eZ
    rw [Ak (by simp)]
    intro a' ha;simp at ha;subst ha;exact h.1
   ·exact h4 i p v (by simpa [aw] using hp) (by simpa [Ks] using hv)
 |some n::sh,as,us,hs,h=>by
  obtain ⟨kS,vO,hs3⟩:=hs
  obtain ⟨k1,k2⟩:=Ms.take n h
  obtain ⟨h1,h2,h3,h4⟩:=er sh (as.drop n) (us.drop n) hs3 k2
  have k3:=Ms.to k1 vO
  refine ⟨by simp [Sz,Ks,h1],λi c v hc hv=>?_,by simp [aw,Ks,h3],λi p v hp hv=>?_⟩
  ·rcases i with _|i
   ·simp only [Sz,Ks,Bz,Aa] at hc hv;subst hc;subst hv;exact ⟨_,rfl,k3⟩
   ·exact h2 i c v (by simpa [Sz] using hc) (by simpa [Ks] using hv)
  ·rcases i with _|i
   ·simp only [aw,Ks,Bz,Aa] at hp hv;subst hp;subst hv
    unfold eZ
    rw [Ab rfl]
    exact ⟨_,rfl,k3⟩
   ·exact h4 i p v (by simpa [aw] using hp) (by simpa [Ks] using hv)
def Qd (io:Bool) (k:Nat):CK->AC->List (Nat×Loc)
 | .Fe _, .own l _ _=> [(Ed false k, .view l)]
 | .Fe _, .clo _ Ek=>views k (Ek.map (·.1))
 | .Fe _, .He l _=>views k [l]
 | .Fe _, .sub l _ _=> [(Ed false k, .view l)]
 | .Fe _,_=> []
 |_, .own l _ _=> [(Ed io k, .row l)]
 |_, .sub l i c=> [(Ed io k, .sub l i c)]
 |_,_=> []
def Lm:Nat->List (Bool×CK)->List AC->List (Nat×Loc)
 |k,p::r,a::as=>Qd p.1 k p.2 a++Lm (k+1) r as
 |_,_,_=> []
theorem WL {st:St} {io:Bool} {k:Nat} {c:CK} {a:AC} {x:c.den} {tks:List (Nat×Loc)} (he:Lx st io k c a=some (x,tks)):tks=Qd io k c a:=by
 cases c with
 |Fe τ=>
  cases a with
  |own l off len=>
   simp only [Lx] at he
   cases hv:Dx st τ (.own l off len) with
   |none=>rw [hv] at he;cases he
   |some p=>rw [hv] at he;simp only [Am,Aa,Ah] at he;exact he.2.symm
  |clo g Ek=>
   simp only [Lx] at he
   split at he
   ·cases hv:Jp st τ (.clo g Ek) with
    |none=>rw [hv] at he;cases he
    |some p=>rw [hv] at he;simp only [Am,Aa,Ah] at he;exact he.2.symm
   ·cases he
  |He l i=>
   simp only [Lx] at he
   split at he
   ·cases hv:Jp st τ (.He l i) with
    |none=>rw [hv] at he;cases he
    |some p=>rw [hv] at he;simp only [Am,Aa,Ah] at he;exact he.2.symm
   ·cases he
  |sub l i c=>
   simp only [Lx] at he
   cases hv:Dx st τ (.sub l i c) with
   |none=>rw [hv] at he;cases he
   |some p=>rw [hv] at he;simp only [Am,Aa,Ah] at he;exact he.2.symm
  |_=>
   simp only [Lx] at he
   split at he
   ·first
     |(rename_i hc;cases hv:Dx st τ _ with
      |none=>rw [hv] at he;cases he
      |some p=>rw [hv] at he;simp only [Am,Aa,Ah] at he;exact he.2.symm)
   ·cases he
 |row e te=>
  cases a<;>simp only [Lx] at he<;>try (cases he;done)
  ·simp only [Aa,Ah] at he;exact he.2.symm
  ·split at he
   ·split at he
    ·simp only [Aa,Ah] at he;exact he.2.symm
    ·cases he
   ·cases he
  ·rename_i l i c
   split at he
   ·rename_i e' tid xs hl
    split at he
    ·cases hx:xs[i]? with
     |none=>rw [hx] at he;cases he
     |some y=>rw [hx] at he;simp only [Am,Aa,Ah] at he;exact he.2.symm
    ·cases he
   ·cases he
 |Ho e te=>
  cases a<;>simp only [Lx] at he<;>try (cases he;done)
  ·simp only [Aa,Ah] at he;exact he.2.symm
  ·split at he
   ·split at he
    ·simp only [Aa,Ah] at he;exact he.2.symm
    ·cases he
   ·cases he
  ·rename_i l i c
   split at he
   ·rename_i e' tid xs hl
    split at he
    ·cases hx:xs[i]? with
     |none=>rw [hx] at he;cases he
     |some y=>rw [hx] at he;simp only [Am,Aa,Ah] at he;exact he.2.symm
    ·cases he
   ·cases he
 |part e te=>
  cases a<;>simp only [Lx] at he<;>try (cases he;done)
  split at he
  ·split at he
   ·simp only [Aa,Ah] at he;exact he.2.symm
   ·cases he
  ·cases he
 |Bo e te kp=>
  cases a<;>simp only [Lx] at he<;>try (cases he;done)
  split at he
  ·split at he
   ·simp only [Aa,Ah] at he;exact he.2.symm
   ·cases he
  ·cases he
theorem aC.Ii {D D':Nat->Prop} {r:Option Real} {e:Ty} {rows:List (List e.den)} (h:aC w D r e rows none) (hD: ∀b,D' b->D b):aC w D' r e rows none:=
 h.Fm (λ_ _ _ _ _=>rfl) λes x hc=>Cells.Fm (Aq _) (λ_ _ _=>rfl) (λb _ hb=>hD b hb) e es x hc
def rJ (X:Ctx) (w:World) (π:Pi) (V:List Nat) (H:List (Nat×OB)) (πc:Pi):(k:Nat)->(cs:List (Bool×CK))->Ins.den cs->List AC->List Value->Prop
 |_,[],_,[],[]=>True
 |k,p::r,x,a::as,u::us=>(eX w (Of X π V) (πc (Ed p.1 k)) u p.2 x.1/\To w π H p.1 a u (πc (Ed p.1 k)) p.2 x.1)/\rJ X w π V H πc (k+1) r x.2 as us
 |_,_,_,_,_=>False
theorem SK {b b':Bool} {k j:Nat} (hk:k<100000) (hj:j<100000) (h:k≠j):Ed b k≠Ed b' j:=by
 unfold Ed;cases b<;>cases b'<;>simp<;>omega
theorem rJ.congr {V:List Nat} {πc Aqo:Pi} : ∀(cs:List (Bool×CK)) (k:Nat) (x:Ins.den cs) (as:List AC) (us:List Value),(∀b j,k<=j->j<k+cs.length->Aqo (Ed b j)=πc (Ed b j))->rJ X w π V H πc k cs x as us->rJ X w π V H Aqo k cs x as us
 | [],_,_,[],[],_,h=>h
 | [],_,_,_::_,_,_,h=>h.elim
 | [],_,_,[],_::_,_,h=>h.elim
 |_::_,_,_,[],_,_,h=>h.elim
 |_::_,_,_,_::_,[],_,h=>h.elim
 |p::r,k,x,a::as,u::us,hc,h=>⟨by rw [hc p.1 k (Aq _) (by simp)];exact h.1,rJ.congr r (k+1) x.2 as us (λb j h1 h2=>hc b j (by omega) (by simp;omega)) h.2⟩
theorem rJ.Apc {V:List Nat} {πc:Pi} : ∀(cs:List (Bool×CK)) (k:Nat) (x:Ins.den cs) (as:List AC) (us:List Value),rJ X w π V H πc k cs x as us->eY w (Of X π V) πc k cs x us
 | [],_,_,[],[],h=>h
 | [],_,_,_::_,_,h=>h.elim
 | [],_,_,[],_::_,h=>h.elim
 |_p::_r,_k,_x,[],_,h=>h.elim
 |_p::_r,_k,_x,_::_,[],h=>h.elim
 |_p::r,k,x,_a::as,_u::us,h=>⟨h.1.1,rJ.Apc r (k+1) x.2 as us h.2⟩
theorem Sv.Ii {D D':Nat->Prop} {r:Option Real} {e:Ty} {xs:List e.den} (h:Sv w D r e xs) (hD: ∀b,D' b->D b):Sv w D' r e xs:=by
 cases r with
 |none=>exact h
 |some r=>
  obtain ⟨k1,cu,ti,k2,k3,k4,k5,k6⟩:=h
  exact ⟨k1,cu,ti,k2,k3,k4,k5,λi y hy=>by
   obtain ⟨es,g1,g2,g3⟩:=k6 i y hy
   exact ⟨es,g1,g2,Cells.Fm (Aq _) (λ_ _ _=>rfl) (λb _ hb=>hD b hb) e es y g3⟩⟩
theorem eY.Ii {D D':Nat->Prop} {πc:Pi} (hD: ∀b,D' b->D b): ∀(cs:List (Bool×CK)) (k:Nat) (x:Ins.den cs) (us:List Value),eY w D πc k cs x us->eY w D' πc k cs x us
 | [],_,_,[],h=>h
 | [],_,_,_::_,h=>h.elim
 |p::r,k,x,[],h=>h.elim
 |(io,c)::r,k,x,u::us,h=>⟨by
   have:=h.1
   cases c with
   |Fe τ=>exact ⟨this.1,this.2.Ii λb _ hb=>hD b hb⟩
   |row e te=>exact ⟨this.1,this.2.Ii hD⟩
   |Ho e te=>exact this
   |Bo e te kp=>exact ⟨this.1,aC.Ii this.2 hD⟩
   |part e te=>exact ⟨this.1,this.2.1,this.2.2.Ii hD⟩,eY.Ii hD r (k+1) x.2 us h.2⟩
theorem To.Cz {io:Bool} {a:AC} {u:Value} {r:Option Real} {c:CK} {x:c.den} (k:Nat) (h:To w π H io a u r c x) {r':Real} (hr:r=some r') {b:Nat} (hb:r'.Cz b):
  ∃t,t∈Qd io k c a/\t.1=Ed io k/\t.2.reads=false/\ ∃q,π t.2.Xb=some q/\q.Cz b/\ ∀l i j,t.2= .sub l i j->b≠q.g:=by
 subst hr
 have Afy: ∀l,some r'=(π l).map full-> ∃q,π l=some q/\q.Cz b:=by
  intro l hl
  cases hp:π l with
  |none=>rw [hp] at hl;cases hl
  |some q=>rw [hp] at hl;simp only [Am,Aa] at hl;subst hl;exact ⟨q,rfl,hb⟩
 cases c with
 |Fe τ=>cases h
 |row e te=>
  simp only [To] at h
  cases a<;>simp only [] at h<;>first|(cases h;done)|skip
  ·obtain ⟨q,h1,h2⟩:=Afy _ h.1;exact ⟨_,Ae.2 rfl,rfl,rfl,q,h1,h2,λ_ _ _ e=>by cases e⟩
  ·obtain ⟨_,tid,xs,_,_,q,h1,h2,_⟩:=h
   exact ⟨_,Ae.2 rfl,rfl,rfl,q,h1,(h2 r' rfl b hb).1,λ_ _ _ _=>(h2 r' rfl b hb).2⟩
 |Ho e te=>
  simp only [To] at h
  cases a<;>simp only [] at h<;>first|(cases h;done)|skip
  ·obtain ⟨q,h1,h2⟩:=Afy _ h.1;exact ⟨_,Ae.2 rfl,rfl,rfl,q,h1,h2,λ_ _ _ e=>by cases e⟩
  ·obtain ⟨_,tid,xs,_,_,q,h1,h2,_⟩:=h
   exact ⟨_,Ae.2 rfl,rfl,rfl,q,h1,(h2 r' rfl b hb).1,λ_ _ _ _=>(h2 r' rfl b hb).2⟩
 |part e te=>
  obtain ⟨_,h⟩:=h
  cases a<;>simp only [] at h<;>first|(cases h;done)|skip
  obtain ⟨q,h1,h2⟩:=Afy _ h.1;exact ⟨_,Ae.2 rfl,rfl,rfl,q,h1,h2,λ_ _ _ e=>by cases e⟩
 |Bo e te kp=>
  obtain ⟨_,h⟩:=h
  cases a<;>simp only [] at h<;>first|(cases h;done)|skip
  obtain ⟨q,h1,h2⟩:=Afy _ h.1;exact ⟨_,Ae.2 rfl,rfl,rfl,q,h1,h2,λ_ _ _ e=>by cases e⟩
theorem JB {io:Bool} {k:Nat} {c:CK} {a:AC} {t:Nat×Loc} (h:t∈Qd io k c a):(t.1=Ed io k/\t.2.reads=false)\/(t.1=Ed false k/\t.2.reads=true):=by
 cases c<;>cases a<;>simp [Qd,views] at h<;>first|(obtain ⟨_,_,rfl⟩:=h;simp [Loc.reads];done)|(obtain ⟨_,⟨_,_⟩,rfl⟩:=h;simp [Loc.reads];done)|(rw [h];simp [Loc.reads])
theorem vA {st:St} (h:Mr X w π st.heap) {V:List Nat} : ∀(cs:List (Bool×CK)) (k:Nat) (as:List AC) (us:List Value) (x:Ins.den cs) (tks:List (Nat×Loc)),k+cs.length<100000->Ms X w π st.heap as us->gp st k cs as=some (x,tks)->(∀t∈tks,t.2.reads=true->t.2.Xb∈V)->
  tks=Lm k cs as/\ ∃πc:Pi,rJ X w π V st.heap πc k cs x as us/\(∀l,πc l≠none-> ∃b j,k<=j/\j<k+cs.length/\l=Ed b j)/\(∀l,Aw (Zv k cs x) l=none->πc l=none)/\
   (∀c r b,πc c=some r->r.Cz b-> ∃t∈Lm k cs as,t.1=c/\t.2.reads=false/\ ∃q,π t.2.Xb=some q/\q.Cz b/\ ∀l i j,t.2= .sub l i j->b≠q.g)
 | [],k,[],[],x,tks,_,_,he,_=>by
  simp only [gp,Aa,Ah] at he
  exact ⟨he.2.symm,λ_=>none,trivial,λl h=>absurd rfl h,λ_ _=>rfl,λc r b h=>by cases h⟩
 | [],k,[],_::_,_,_,_,h,_,_=>h.elim
 | [],k,_::_,_,_,_,_,_,he,_=>by simp [gp] at he
 |p::r,k,[],_,_,_,_,_,he,_=>by simp [gp] at he
 |p::r,k,a::as,[],_,_,_,h,_,_=>h.elim
 |p::r,k,a::as,u::us,x,tks,hk,hr,he,hV=>by
  simp only [gp] at he
  split at he
  ·rename_i x1 t1 x2 t2 h1 h2
   simp only [Aa,Ah] at he
   obtain ⟨rfl,rfl⟩:=he
   simp only [Av] at hk
   obtain ⟨e2,πc,g1,g2,g3,g4⟩:=vA h r (k+1) as us x2 t2 (by omega) hr.2 h2 λt ht=>hV t (Cm _ ht)
   have e1:=WL h1
   obtain ⟨rr,r1,r2⟩:=WK h hr.1 h1 λt ht=>hV t (Bi _ ht)
   refine ⟨by simp only [Lm];rw [e1,e2],λl=>if l=Ed p.1 k then rr else πc l,⟨by simpa using ⟨r1,r2⟩,g1.congr r (k+1) x2 as us λb j j1 j2=>Ak (SK (by omega) (by omega) (by omega))⟩,λl hl=>?_,λl hl=>?_,λc q b hc hb=>?_⟩
   ·by_cases e:l=Ed p.1 k
    ·exact ⟨p.1,k,Aq _,by simp,e⟩
    ·dsimp only at hl
     rw [Ak e] at hl
     obtain ⟨b,j,j1,j2,j3⟩:=g2 l hl
     exact ⟨b,j,by omega,by simp;omega,j3⟩
   ·simp only [Zv] at hl
    dsimp only
    by_cases e:l=Ed p.1 k
    ·rw [Ab e]
     cases hc:p.2 with
     |Fe τ=>
      revert r2
      generalize p.2=c at*
      subst hc
      intro r2;exact r2
     |row e' te=>
      exfalso
      generalize p.2=c at*
      subst hc
      simp only [kQ,iM,Aw,Ab e.symm] at hl
      cases hl
     |Ho e' te=>
      exfalso
      generalize p.2=c at*
      subst hc
      simp only [kQ,iM,Aw,Ab e.symm] at hl
      cases hl
     |part e' te=>
      exfalso
      generalize p.2=c at*
      subst hc
      simp only [kQ,iM,Aw,Ab e.symm] at hl
      cases hl
     |Bo e' te kp=>
      exfalso
      generalize p.2=c at*
      subst hc
      simp only [kQ,iM,Aw,Ab e.symm] at hl
      cases hl
    ·rw [Ak e]
     refine g3 l ?_
     cases hc:kQ (Ed p.1 k) p.2 x1 with
     |none=>rw [hc] at hl;exact hl
     |some b=>rw [hc] at hl;simp only [iM,Aw,Ak (Gb e)] at hl;exact hl
   ·dsimp only at hc
    by_cases e:c=Ed p.1 k
    ·rw [Ab e] at hc
     obtain ⟨t,t1,t0,t2⟩:=r2.Cz k hc hb
     exact ⟨t,by simp only [Lm];exact Bi _ t1,by rw [t0,e],t2⟩
    ·rw [Ak e] at hc
     obtain ⟨t,t1,t2⟩:=g4 c q b hc hb
     exact ⟨t,by simp only [Lm];exact Cm _ t1,t2⟩
  ·cases he
end
end Go.Proofs.Ytkkdpknjohcekaa
