/-
  Part 16 of the proof that the statement FnTwoPhase holds.
-/
import Derived.Test.YtkkdpknjohcekaaCFTwoPhase14
namespace Go.Proofs.Ytkkdpknjohcekaa
open Go.RowKit
section
variable {P:Program} {T:Tab} {X:Ctx} {w w':World} {π π':Pi} {H H':List (Nat×OB)}
def Nl (X:Ctx) (w:World) (π:Pi) (H:List (Nat×OB)):List AC->List Value->Prop
 | [],[]=>True
 |a::as,u::us=>Hu X w π H a u/\Nl X w π H as us
 |_,_=>False
theorem Nl.append {as bs:List AC} {us vs:List Value} (h1:Nl X w π H as us) (h2:Nl X w π H bs vs):Nl X w π H (as++bs) (us++vs):=by
 induction as generalizing us with
 |nil=>cases us with
  |nil=>exact h2
  |cons u us=>exact h1.elim
 |cons a as ih=>cases us with
  |nil=>exact h1.elim
  |cons u us=>exact ⟨h1.1,ih h1.2⟩
theorem Nl.of: ∀ {cs:List AC} {us:List Value},Gh X w π H cs us->Nl X w π H cs us
 | [],[],_=>trivial
 | [],u::us,h=>by have:=h.1;simp at this
 |c::cs,[],h=>by have:=h.1;simp at this
 |c::cs,u::us,h=>by
  obtain ⟨u',h1,_,h2⟩:=h.2 0 c rfl
  simp at h1;subst h1
  exact ⟨h2,Nl.of ⟨by have:=h.1;simpa using this,λi c' hc=>by
   obtain ⟨u',h3,h4⟩:=h.2 (i+1) c' (by simpa using hc)
   exact ⟨u',by simpa using h3,h4⟩⟩⟩
theorem Nl.to: ∀ {cs:List AC} {us:List Value},Nl X w π H cs us->(∀u∈us,u.oneCell'=true)->Gh X w π H cs us
 | [],[],_,_=>⟨rfl,λi c hc=>by simp at hc⟩
 | [],u::us,h,_=>h.elim
 |c::cs,[],h,_=>h.elim
 |c::cs,u::us,h,ho=>by
  have ih:=Nl.to h.2 λv hv=>ho v (As _ hv)
  refine ⟨by simp [ih.1],λi c' hc=>?_⟩
  rcases i with _|i
  ·simp at hc;subst hc;exact ⟨u,rfl,ho u (by simp),h.1⟩
  ·obtain ⟨u',h3,h4⟩:=ih.2 i c' (by simpa using hc)
   exact ⟨u',by simpa using h3,h4⟩
theorem Nl.take: ∀ {cs:List AC} {us:List Value} (n:Nat),Nl X w π H cs us->Nl X w π H (cs.take n) (us.take n)/\Nl X w π H (cs.drop n) (us.drop n)
 |cs,us,0,h=>by simpa [Nl] using h
 | [],[],n+1,_=>by simp [Nl]
 | [],u::us,n+1,h=>h.elim
 |c::cs,[],n+1,h=>h.elim
 |c::cs,u::us,n+1,h=>by
  have:=Nl.take n h.2
  exact ⟨⟨h.1,this.1⟩,this.2⟩
theorem al: ∀(sh:List (Option Nat)) (ni:List AV) (vs:List Value) (as:List AC),ni.length=vs.length->(∀(i:Nat) c v,ni[i]?=some c->vs[i]?=some v->Bt X w π H c v)->ungroup sh ni=some as->
  ∃us,vs=Lk sh us/\dc sh us/\Nl X w π H as us
 | [],[],vs,as,hl,_,he=>by
  simp only [ungroup,Aa] at he;subst he
  have:vs= []:=Cp hl.symm
  subst this
  exact ⟨[],rfl,trivial,trivial⟩
 |none::sh, .at a::ni,vs,as,hl,hr,he=>by
  simp only [ungroup] at he
  cases hu:ungroup sh ni with
  |none=>rw [hu] at he;cases he
  |some r=>
   rw [hu] at he
   simp only [An,Aa] at he;subst he
   cases vs with
   |nil=>simp at hl
   |cons v vs=>
    obtain ⟨us,h1,h2,h3⟩:=al sh ni vs r (by simpa using hl) (λi c v hc hv=>hr (i+1) c v (by simpa using hc) (by simpa using hv)) hu
    exact ⟨v::us,by rw [h1];rfl,h2,hr 0 _ v rfl rfl,h3⟩
 |some n::sh, .agg cs::ni,vs,as,hl,hr,he=>by
  simp only [ungroup] at he
  split at he
  ·rename_i hn
   cases hu:ungroup sh ni with
   |none=>rw [hu] at he;cases he
   |some r=>
    rw [hu] at he
    simp only [An,Aa] at he;subst he
    cases vs with
    |nil=>simp at hl
    |cons v vs=>
     obtain ⟨us,h1,h2,h3⟩:=al sh ni vs r (by simpa using hl) (λi c v hc hv=>hr (i+1) c v (by simpa using hc) (by simpa using hv)) hu
     obtain ⟨ws,rfl,h4⟩:=hr 0 _ v rfl rfl
     have hwl:ws.length=n:=by rw [<-hn];exact h4.1
     refine ⟨ws++us,?_,⟨by simp [hwl],?_,?_⟩,(Nl.of h4).append h3⟩
     ·rw [h1];simp only [Lk];rw [List.take_left' hwl,List.drop_left' hwl]
     ·rw [List.take_left' hwl]
      intro u hu
      obtain ⟨j,hj,rfl⟩:=Nw hu
      obtain ⟨u',h5,h6,_⟩:=h4.2 j (cs[j]'(by have:=h4.1;omega)) (Ad _)
      rw [Ad hj] at h5
      simp only [Aa] at h5
      rw [h5];exact h6
     ·rw [List.drop_left' hwl];exact h2
  ·cases he
 |some n::sh, .at (.data fr τ x)::ni,vs,as,hl,hr,he=>by
  simp only [ungroup] at he
  split at he
  ·rename_i hn
   cases hu:ungroup sh ni with
   |none=>rw [hu] at he;cases he
   |some r=>
    rw [hu] at he
    simp only [An,Aa] at he;subst he
    cases vs with
    |nil=>simp at hl
    |cons v vs=>
     obtain ⟨us,h1,h2,h3⟩:=al sh ni vs r (by simpa using hl) (λi c v hc hv=>hr (i+1) c v (by simpa using hc) (by simpa using hv)) hu
     obtain ⟨ws,h0,hv⟩:=hr 0 _ v rfl rfl
     have h4:=qj (X:=X) (H:=H) τ ws x h0
     have hv:v= .agg ws.toArray:=by rw [hv];unfold Ci;rw [Ab hn.1]
     subst hv
     have hwl:ws.length=n:=by rw [<-hn.2];exact h4.1
     refine ⟨ws++us,?_,⟨by simp [hwl],?_,?_⟩,(Nl.of h4).append h3⟩
     ·rw [h1];simp only [Lk];rw [List.take_left' hwl,List.drop_left' hwl]
     ·rw [List.take_left' hwl]
      intro u hu
      obtain ⟨j,hj,rfl⟩:=Nw hu
      obtain ⟨u',h5,h6,_⟩:=h4.2 j ((Sr fr τ x)[j]'(by have:=h4.1;omega)) (Ad _)
      rw [Ad hj] at h5
      simp only [Aa] at h5
      rw [h5];exact h6
     ·rw [List.drop_left' hwl];exact h2
  ·cases he
 | [],_::_,_,_,_,_,he=>by simp [ungroup] at he
 |none::_,[],_,_,_,_,he=>by simp [ungroup] at he
 |none::_, .agg _::_,_,_,_,_,he=>by simp [ungroup] at he
 |none::_, .bB _ _ _::_,_,_,_,_,he=>by simp [ungroup] at he
 |none::_, .Nd _::_,_,_,_,_,he=>by simp [ungroup] at he
 |some _::_,[],_,_,_,_,he=>by simp [ungroup] at he
 |some _::_, .at .undef::_,_,_,_,_,he=>by simp [ungroup] at he
 |some _::_, .at .skip::_,_,_,_,_,he=>by simp [ungroup] at he
 |some _::_, .at .Mj::_,_,_,_,_,he=>by simp [ungroup] at he
 |some _::_, .at .Wa::_,_,_,_,_,he=>by simp [ungroup] at he
 |some _::_, .at (.own _ _ _)::_,_,_,_,_,he=>by simp [ungroup] at he
 |some _::_, .at (.Ho _ _)::_,_,_,_,_,he=>by simp [ungroup] at he
 |some _::_, .at (.Kp _ _)::_,_,_,_,_,he=>by simp [ungroup] at he
 |some _::_, .at (.sub _ _ _)::_,_,_,_,_,he=>by simp [ungroup] at he
 |some _::_, .at (.Km _ _ _)::_,_,_,_,_,he=>by simp [ungroup] at he
 |some _::_, .at (.clo _ _)::_,_,_,_,_,he=>by simp [ungroup] at he
 |some _::_, .at (.Ky _)::_,_,_,_,_,he=>by simp [ungroup] at he
 |some _::_, .bB _ _ _::_,_,_,_,_,he=>by simp [ungroup] at he
 |some _::_, .Nd _::_,_,_,_,_,he=>by simp [ungroup] at he
theorem ek: ∀(sh:List (Option Nat)) (as:List AC) (us:List Value),dc sh us->Nl X w π H as us->
  (Tm sh as).length=(Lk sh us).length/\(∀(i:Nat) c v,(Tm sh as)[i]?=some c->(Lk sh us)[i]?=some v->Bt X w π H c v)/\
  (ay sh as).length=(Lk sh us).length/\(∀(i:Nat) p v,(ay sh as)[i]?=some p->(Lk sh us)[i]?=some v->fb X w π H p v)
 | [],[],[],_,_=>⟨rfl,λi c v hc=>by simp [Tm] at hc,rfl,λi c v hc=>by simp [ay] at hc⟩
 | [],_::_,[],_,h=>h.elim
 |none::_,_,[],h,_=>h.elim
 | [],_,_::_,h,_=>h.elim
 |none::sh,[],u::us,_,h=>h.elim
 |none::sh,a::as,u::us,hs,h=>by
  obtain ⟨h1,h2,h3,h4⟩:=ek sh as us hs h.2
  refine ⟨by simp [Tm,Lk,h1],λi c v hc hv=>?_,by simp [ay,Lk,h3],λi p v hp hv=>?_⟩
  ·rcases i with _|i
   ·simp [Tm,Lk] at hc hv;subst hc;subst hv;exact h.1
   ·exact h2 i c v (by simpa [Tm] using hc) (by simpa [Lk] using hv)
  ·rcases i with _|i
   ·simp [ay,Lk] at hp hv;subst hp;subst hv
    unfold fb
    rw [Ai (by simp)]
    intro a' ha;simp at ha;subst ha;exact h.1
   ·exact h4 i p v (by simpa [ay] using hp) (by simpa [Lk] using hv)
 |some n::sh,as,us,hs,h=>by
  obtain ⟨kS,vJ,hs3⟩:=hs
  obtain ⟨k1,k2⟩:=Nl.take n h
  obtain ⟨h1,h2,h3,h4⟩:=ek sh (as.drop n) (us.drop n) hs3 k2
  have k3:=Nl.to k1 vJ
  refine ⟨by simp [Tm,Lk,h1],λi c v hc hv=>?_,by simp [ay,Lk,h3],λi p v hp hv=>?_⟩
  ·rcases i with _|i
   ·simp only [Tm,Lk,Bz,Aa] at hc hv;subst hc;subst hv;exact ⟨_,rfl,k3⟩
   ·exact h2 i c v (by simpa [Tm] using hc) (by simpa [Lk] using hv)
  ·rcases i with _|i
   ·simp only [ay,Lk,Bz,Aa] at hp hv;subst hp;subst hv
    unfold fb
    rw [Ab rfl]
    exact ⟨_,rfl,k3⟩
   ·exact h4 i p v (by simpa [ay] using hp) (by simpa [Lk] using hv)
def Qo (io:Bool) (k:Nat):CK->AC->List (Nat×Loc)
 | .Gw _, .own l _ _=> [(Em false k, .view l)]
 | .Gw _, .clo _ Ew=>views k (Ew.map (·.1))
 | .Gw _, .Ho l _=>views k [l]
 | .Gw _, .sub l _ _=> [(Em false k, .view l)]
 | .Gw _,_=> []
 |_, .own l _ _=> [(Em io k, .row l)]
 |_, .sub l i c=> [(Em io k, .sub l i c)]
 |_,_=> []
def Mh:Nat->List (Bool×CK)->List AC->List (Nat×Loc)
 |k,p::r,a::as=>Qo p.1 k p.2 a++Mh (k+1) r as
 |_,_,_=> []
theorem WE {st:St} {io:Bool} {k:Nat} {c:CK} {a:AC} {x:c.den} {tks:List (Nat×Loc)} (he:Mn st io k c a=some (x,tks)):tks=Qo io k c a:=by
 cases c with
 |Gw τ=>
  cases a with
  |own l off len=>
   simp only [Mn] at he
   cases hv:Ee st τ (.own l off len) with
   |none=>rw [hv] at he;cases he
   |some p=>rw [hv] at he;simp only [An,Aa,Ag] at he;exact he.2.symm
  |clo g Ew=>
   simp only [Mn] at he
   split at he
   ·cases hv:Kj st τ (.clo g Ew) with
    |none=>rw [hv] at he;cases he
    |some p=>rw [hv] at he;simp only [An,Aa,Ag] at he;exact he.2.symm
   ·cases he
  |Ho l i=>
   simp only [Mn] at he
   split at he
   ·cases hv:Kj st τ (.Ho l i) with
    |none=>rw [hv] at he;cases he
    |some p=>rw [hv] at he;simp only [An,Aa,Ag] at he;exact he.2.symm
   ·cases he
  |sub l i c=>
   simp only [Mn] at he
   cases hv:Ee st τ (.sub l i c) with
   |none=>rw [hv] at he;cases he
   |some p=>rw [hv] at he;simp only [An,Aa,Ag] at he;exact he.2.symm
  |_=>
   simp only [Mn] at he
   split at he
   ·first
     |(rename_i hc;cases hv:Ee st τ _ with
      |none=>rw [hv] at he;cases he
      |some p=>rw [hv] at he;simp only [An,Aa,Ag] at he;exact he.2.symm)
   ·cases he
 |row e te=>
  cases a<;>simp only [Mn] at he<;>try (cases he;done)
  ·simp only [Aa,Ag] at he;exact he.2.symm
  ·split at he
   ·split at he
    ·simp only [Aa,Ag] at he;exact he.2.symm
    ·cases he
   ·cases he
  ·rename_i l i c
   split at he
   ·rename_i e' tid xs hl
    split at he
    ·cases hx:xs[i]? with
     |none=>rw [hx] at he;cases he
     |some y=>rw [hx] at he;simp only [An,Aa,Ag] at he;exact he.2.symm
    ·cases he
   ·cases he
 |Ie e te=>
  cases a<;>simp only [Mn] at he<;>try (cases he;done)
  ·simp only [Aa,Ag] at he;exact he.2.symm
  ·split at he
   ·split at he
    ·simp only [Aa,Ag] at he;exact he.2.symm
    ·cases he
   ·cases he
  ·rename_i l i c
   split at he
   ·rename_i e' tid xs hl
    split at he
    ·cases hx:xs[i]? with
     |none=>rw [hx] at he;cases he
     |some y=>rw [hx] at he;simp only [An,Aa,Ag] at he;exact he.2.symm
    ·cases he
   ·cases he
 |part e te=>
  cases a<;>simp only [Mn] at he<;>try (cases he;done)
  split at he
  ·split at he
   ·simp only [Aa,Ag] at he;exact he.2.symm
   ·cases he
  ·cases he
 |Bu e te kp=>
  cases a<;>simp only [Mn] at he<;>try (cases he;done)
  split at he
  ·split at he
   ·simp only [Aa,Ag] at he;exact he.2.symm
   ·cases he
  ·cases he
theorem aD.Jh {D D':Nat->Prop} {r:Option Real} {e:Ty} {rows:List (List e.den)} (h:aD w D r e rows none) (hD: ∀b,D' b->D b):aD w D' r e rows none:=
 h.Fz (λ_ _ _ _ _=>rfl) λes x hc=>Cells.Fz (Aq _) (λ_ _ _=>rfl) (λb _ hb=>hD b hb) e es x hc
def rq (X:Ctx) (w:World) (π:Pi) (V:List Nat) (H:List (Nat×OB)) (πc:Pi):(k:Nat)->(cs:List (Bool×CK))->Ins.den cs->List AC->List Value->Prop
 |_,[],_,[],[]=>True
 |k,p::r,x,a::as,u::us=>(eZ w (Pf X π V) (πc (Em p.1 k)) u p.2 x.1/\Ua w π H p.1 a u (πc (Em p.1 k)) p.2 x.1)/\rq X w π V H πc (k+1) r x.2 as us
 |_,_,_,_,_=>False
theorem SD {b b':Bool} {k j:Nat} (hk:k<100000) (hj:j<100000) (h:k≠j):Em b k≠Em b' j:=by
 unfold Em;cases b<;>cases b'<;>simp<;>omega
theorem rq.congr {V:List Nat} {πc Aqj:Pi} : ∀(cs:List (Bool×CK)) (k:Nat) (x:Ins.den cs) (as:List AC) (us:List Value),(∀b j,k<=j->j<k+cs.length->Aqj (Em b j)=πc (Em b j))->rq X w π V H πc k cs x as us->rq X w π V H Aqj k cs x as us
 | [],_,_,[],[],_,h=>h
 | [],_,_,_::_,_,_,h=>h.elim
 | [],_,_,[],_::_,_,h=>h.elim
 |_::_,_,_,[],_,_,h=>h.elim
 |_::_,_,_,_::_,[],_,h=>h.elim
 |p::r,k,x,a::as,u::us,hc,h=>⟨by rw [hc p.1 k (Aq _) (by simp)];exact h.1,rq.congr r (k+1) x.2 as us (λb j h1 h2=>hc b j (by omega) (by simp;omega)) h.2⟩
theorem rq.Ap3 {V:List Nat} {πc:Pi} : ∀(cs:List (Bool×CK)) (k:Nat) (x:Ins.den cs) (as:List AC) (us:List Value),rq X w π V H πc k cs x as us->fa w (Pf X π V) πc k cs x us
 | [],_,_,[],[],h=>h
 | [],_,_,_::_,_,h=>h.elim
 | [],_,_,[],_::_,h=>h.elim
 |_p::_r,_k,_x,[],_,h=>h.elim
 |_p::_r,_k,_x,_::_,[],h=>h.elim
 |_p::r,k,x,_a::as,_u::us,h=>⟨h.1.1,rq.Ap3 r (k+1) x.2 as us h.2⟩
theorem Ti.Jh {D D':Nat->Prop} {r:Option Real} {e:Ty} {xs:List e.den} (h:Ti w D r e xs) (hD: ∀b,D' b->D b):Ti w D' r e xs:=by
 cases r with
 |none=>exact h
 |some r=>
  obtain ⟨k1,cu,ti,k2,k3,k4,k5,k6⟩:=h
  exact ⟨k1,cu,ti,k2,k3,k4,k5,λi y hy=>by
   obtain ⟨es,g1,g2,g3⟩:=k6 i y hy
   exact ⟨es,g1,g2,Cells.Fz (Aq _) (λ_ _ _=>rfl) (λb _ hb=>hD b hb) e es y g3⟩⟩
theorem fa.Jh {D D':Nat->Prop} {πc:Pi} (hD: ∀b,D' b->D b): ∀(cs:List (Bool×CK)) (k:Nat) (x:Ins.den cs) (us:List Value),fa w D πc k cs x us->fa w D' πc k cs x us
 | [],_,_,[],h=>h
 | [],_,_,_::_,h=>h.elim
 |p::r,k,x,[],h=>h.elim
 |(io,c)::r,k,x,u::us,h=>⟨by
   have:=h.1
   cases c with
   |Gw τ=>exact ⟨this.1,this.2.Jh λb _ hb=>hD b hb⟩
   |row e te=>exact ⟨this.1,this.2.Jh hD⟩
   |Ie e te=>exact this
   |Bu e te kp=>exact ⟨this.1,aD.Jh this.2 hD⟩
   |part e te=>exact ⟨this.1,this.2.1,this.2.2.Jh hD⟩,fa.Jh hD r (k+1) x.2 us h.2⟩
theorem Ua.Da {io:Bool} {a:AC} {u:Value} {r:Option Real} {c:CK} {x:c.den} (k:Nat) (h:Ua w π H io a u r c x) {r':Real} (hr:r=some r') {b:Nat} (hb:r'.Da b):
  ∃t,t∈Qo io k c a/\t.1=Em io k/\t.2.reads=false/\ ∃q,π t.2.Xn=some q/\q.Da b/\ ∀l i j,t.2= .sub l i j->b≠q.g:=by
 subst hr
 have Afk: ∀l,some r'=(π l).map full-> ∃q,π l=some q/\q.Da b:=by
  intro l hl
  cases hp:π l with
  |none=>rw [hp] at hl;cases hl
  |some q=>rw [hp] at hl;simp only [An,Aa] at hl;subst hl;exact ⟨q,rfl,hb⟩
 cases c with
 |Gw τ=>cases h
 |row e te=>
  simp only [Ua] at h
  cases a<;>simp only [] at h<;>first|(cases h;done)|skip
  ·obtain ⟨q,h1,h2⟩:=Afk _ h.1;exact ⟨_,Af.2 rfl,rfl,rfl,q,h1,h2,λ_ _ _ e=>by cases e⟩
  ·obtain ⟨_,tid,xs,_,_,q,h1,h2,_⟩:=h
   exact ⟨_,Af.2 rfl,rfl,rfl,q,h1,(h2 r' rfl b hb).1,λ_ _ _ _=>(h2 r' rfl b hb).2⟩
 |Ie e te=>
  simp only [Ua] at h
  cases a<;>simp only [] at h<;>first|(cases h;done)|skip
  ·obtain ⟨q,h1,h2⟩:=Afk _ h.1;exact ⟨_,Af.2 rfl,rfl,rfl,q,h1,h2,λ_ _ _ e=>by cases e⟩
  ·obtain ⟨_,tid,xs,_,_,q,h1,h2,_⟩:=h
   exact ⟨_,Af.2 rfl,rfl,rfl,q,h1,(h2 r' rfl b hb).1,λ_ _ _ _=>(h2 r' rfl b hb).2⟩
 |part e te=>
  obtain ⟨_,h⟩:=h
  cases a<;>simp only [] at h<;>first|(cases h;done)|skip
  obtain ⟨q,h1,h2⟩:=Afk _ h.1;exact ⟨_,Af.2 rfl,rfl,rfl,q,h1,h2,λ_ _ _ e=>by cases e⟩
 |Bu e te kp=>
  obtain ⟨_,h⟩:=h
  cases a<;>simp only [] at h<;>first|(cases h;done)|skip
  obtain ⟨q,h1,h2⟩:=Afk _ h.1;exact ⟨_,Af.2 rfl,rfl,rfl,q,h1,h2,λ_ _ _ e=>by cases e⟩
theorem IW {io:Bool} {k:Nat} {c:CK} {a:AC} {t:Nat×Loc} (h:t∈Qo io k c a):(t.1=Em io k/\t.2.reads=false)\/(t.1=Em false k/\t.2.reads=true):=by
 cases c<;>cases a<;>simp [Qo,views] at h<;>first|(obtain ⟨_,_,rfl⟩:=h;simp [Loc.reads];done)|(obtain ⟨_,⟨_,_⟩,rfl⟩:=h;simp [Loc.reads];done)|(rw [h];simp [Loc.reads])
theorem vu {st:St} (h:Nk X w π st.heap) {V:List Nat} : ∀(cs:List (Bool×CK)) (k:Nat) (as:List AC) (us:List Value) (x:Ins.den cs) (tks:List (Nat×Loc)),k+cs.length<100000->Nl X w π st.heap as us->gp st k cs as=some (x,tks)->(∀t∈tks,t.2.reads=true->t.2.Xn∈V)->
  tks=Mh k cs as/\ ∃πc:Pi,rq X w π V st.heap πc k cs x as us/\(∀l,πc l≠none-> ∃b j,k<=j/\j<k+cs.length/\l=Em b j)/\(∀l,Ay (Zz k cs x) l=none->πc l=none)/\
   (∀c r b,πc c=some r->r.Da b-> ∃t∈Mh k cs as,t.1=c/\t.2.reads=false/\ ∃q,π t.2.Xn=some q/\q.Da b/\ ∀l i j,t.2= .sub l i j->b≠q.g)
 | [],k,[],[],x,tks,_,_,he,_=>by
  simp only [gp,Aa,Ag] at he
  exact ⟨he.2.symm,λ_=>none,trivial,λl h=>absurd rfl h,λ_ _=>rfl,λc r b h=>by cases h⟩
 | [],k,[],_::_,_,_,_,h,_,_=>h.elim
 | [],k,_::_,_,_,_,_,_,he,_=>by simp [gp] at he
 |p::r,k,[],_,_,_,_,_,he,_=>by simp [gp] at he
 |p::r,k,a::as,[],_,_,_,h,_,_=>h.elim
 |p::r,k,a::as,u::us,x,tks,hk,hr,he,hV=>by
  simp only [gp] at he
  split at he
  ·rename_i x1 t1 x2 t2 h1 h2
   simp only [Aa,Ag] at he
   obtain ⟨rfl,rfl⟩:=he
   simp only [Aw] at hk
   obtain ⟨e2,πc,g1,g2,g3,g4⟩:=vu h r (k+1) as us x2 t2 (by omega) hr.2 h2 λt ht=>hV t (Cn _ ht)
   have e1:=WE h1
   obtain ⟨rr,r1,r2⟩:=WD h hr.1 h1 λt ht=>hV t (Bj _ ht)
   refine ⟨by simp only [Mh];rw [e1,e2],λl=>if l=Em p.1 k then rr else πc l,⟨by simpa using ⟨r1,r2⟩,g1.congr r (k+1) x2 as us λb j j1 j2=>Ai (SD (by omega) (by omega) (by omega))⟩,λl hl=>?_,λl hl=>?_,λc q b hc hb=>?_⟩
   ·by_cases e:l=Em p.1 k
    ·exact ⟨p.1,k,Aq _,by simp,e⟩
    ·dsimp only at hl
     rw [Ai e] at hl
     obtain ⟨b,j,j1,j2,j3⟩:=g2 l hl
     exact ⟨b,j,by omega,by simp;omega,j3⟩
   ·simp only [Zz] at hl
    dsimp only
    by_cases e:l=Em p.1 k
    ·rw [Ab e]
     cases hc:p.2 with
     |Gw τ=>
      revert r2
      generalize p.2=c at*
      subst hc
      intro r2;exact r2
     |row e' te=>
      exfalso
      generalize p.2=c at*
      subst hc
      simp only [kN,iI,Ay,Ab e.symm] at hl
      cases hl
     |Ie e' te=>
      exfalso
      generalize p.2=c at*
      subst hc
      simp only [kN,iI,Ay,Ab e.symm] at hl
      cases hl
     |part e' te=>
      exfalso
      generalize p.2=c at*
      subst hc
      simp only [kN,iI,Ay,Ab e.symm] at hl
      cases hl
     |Bu e' te kp=>
      exfalso
      generalize p.2=c at*
      subst hc
      simp only [kN,iI,Ay,Ab e.symm] at hl
      cases hl
    ·rw [Ai e]
     refine g3 l ?_
     cases hc:kN (Em p.1 k) p.2 x1 with
     |none=>rw [hc] at hl;exact hl
     |some b=>rw [hc] at hl;simp only [iI,Ay,Ai (Gv e)] at hl;exact hl
   ·dsimp only at hc
    by_cases e:c=Em p.1 k
    ·rw [Ab e] at hc
     obtain ⟨t,t1,t0,t2⟩:=r2.Da k hc hb
     exact ⟨t,by simp only [Mh];exact Bj _ t1,by rw [t0,e],t2⟩
    ·rw [Ai e] at hc
     obtain ⟨t,t1,t2⟩:=g4 c q b hc hb
     exact ⟨t,by simp only [Mh];exact Cn _ t1,t2⟩
  ·cases he
end
end Go.Proofs.Ytkkdpknjohcekaa
