/-
  Part 16 of the proof that the statement FnExactSolveTwoPhaseWithin holds.
-/
import Derived.Test.YtfgfigkbgecfnaaCSolveTwoPhaseWithin14
namespace Go.Proofs.Ytfgfigkbgecfnaa
open Go.RowKit
section
variable {P:Program} {T:Tab} {X:Ctx} {w w':World} {π π':Pi} {H H':List (Nat×OB)}
def Nn (X:Ctx) (w:World) (π:Pi) (H:List (Nat×OB)):List AC->List Value->Prop
 | [],[]=>True
 |a::as,u::us=>Hw X w π H a u/\Nn X w π H as us
 |_,_=>False
theorem Nn.append {as bs:List AC} {us vs:List Value} (h1:Nn X w π H as us) (h2:Nn X w π H bs vs):Nn X w π H (as++bs) (us++vs):=by
 induction as generalizing us with
 |nil=>cases us with
  |nil=>exact h2
  |cons u us=>exact h1.elim
 |cons a as ih=>cases us with
  |nil=>exact h1.elim
  |cons u us=>exact ⟨h1.1,ih h1.2⟩
theorem Nn.of: ∀ {cs:List AC} {us:List Value},Gq X w π H cs us->Nn X w π H cs us
 | [],[],_=>trivial
 | [],u::us,h=>by have:=h.1;simp at this
 |c::cs,[],h=>by have:=h.1;simp at this
 |c::cs,u::us,h=>by
  obtain ⟨u',h1,_,h2⟩:=h.2 0 c rfl;simp at h1;subst h1
  exact ⟨h2,Nn.of ⟨by have:=h.1;simpa using this,λi c' hc=>by
   obtain ⟨u',h3,h4⟩:=h.2 (i+1) c' (by simpa using hc)
   exact ⟨u',by simpa using h3,h4⟩⟩⟩
theorem Nn.to: ∀ {cs:List AC} {us:List Value},Nn X w π H cs us->(∀u∈us,u.oneCell'=true)->Gq X w π H cs us
 | [],[],_,_=>⟨rfl,λi c hc=>by simp at hc⟩
 | [],u::us,h,_=>h.elim
 |c::cs,[],h,_=>h.elim
 |c::cs,u::us,h,ho=>by
  have ih:=Nn.to h.2 λv hv=>ho v (At _ hv);refine ⟨by simp [ih.1],λi c' hc=>?_⟩;rcases i with _|i
  ·simp at hc;subst hc;exact ⟨u,rfl,ho u (by simp),h.1⟩
  ·obtain ⟨u',h3,h4⟩:=ih.2 i c' (by simpa using hc);exact ⟨u',by simpa using h3,h4⟩
theorem Nn.take: ∀ {cs:List AC} {us:List Value} (n:Nat),Nn X w π H cs us->Nn X w π H (cs.take n) (us.take n)/\Nn X w π H (cs.drop n) (us.drop n)
 |cs,us,0,h=>by simpa [Nn] using h
 | [],[],n+1,_=>by simp [Nn]
 | [],u::us,n+1,h=>h.elim
 |c::cs,[],n+1,h=>h.elim
 |c::cs,u::us,n+1,h=>by
  have:=Nn.take n h.2;exact ⟨⟨h.1,this.1⟩,this.2⟩
theorem aE: ∀(sh:List (Option Nat)) (nC:List AV) (vs:List Value) (as:List AC),nC.length=vs.length->(∀(i:Nat) c v,nC[i]?=some c->vs[i]?=some v->Bx X w π H c v)->ungroup sh nC=some as->
  ∃us,vs=Lm sh us/\dC sh us/\Nn X w π H as us
 | [],[],vs,as,hl,_,he=>by
  simp only [ungroup,Aa] at he;subst he;have:vs= []:=Cr hl.symm;subst this;exact ⟨[],rfl,trivial,trivial⟩
 |none::sh, .at a::nC,vs,as,hl,hr,he=>by
  simp only [ungroup] at he
  cases hu:ungroup sh nC with
  |none=>rw [hu] at he;cases he
  |some r=>
   rw [hu] at he;simp only [An,Aa] at he;subst he
   cases vs with
   |nil=>simp at hl
   |cons v vs=>
    obtain ⟨us,h1,h2,h3⟩:=aE sh nC vs r (by simpa using hl) (λi c v hc hv=>hr (i+1) c v (by simpa using hc) (by simpa using hv)) hu;exact ⟨v::us,by rw [h1];rfl,h2,hr 0 _ v rfl rfl,h3⟩
 |some n::sh, .agg cs::nC,vs,as,hl,hr,he=>by
  simp only [ungroup] at he;split at he
  ·rename_i hn
   cases hu:ungroup sh nC with
   |none=>rw [hu] at he;cases he
   |some r=>
    rw [hu] at he;simp only [An,Aa] at he;subst he
    cases vs with
    |nil=>simp at hl
    |cons v vs=>
     obtain ⟨us,h1,h2,h3⟩:=aE sh nC vs r (by simpa using hl) (λi c v hc hv=>hr (i+1) c v (by simpa using hc) (by simpa using hv)) hu;obtain ⟨ws,rfl,h4⟩:=hr 0 _ v rfl rfl
     have NJ:ws.length=n:=by rw [<-hn];exact h4.1
     refine ⟨ws++us,?_,⟨by simp [NJ],?_,?_⟩,(Nn.of h4).append h3⟩
     ·rw [h1];simp only [Lm];rw [List.take_left' NJ,List.drop_left' NJ]
     ·rw [List.take_left' NJ];intro u hu;obtain ⟨j,hj,rfl⟩:=Sa hu;obtain ⟨u',h5,h6,_⟩:=h4.2 j (cs[j]'(by have:=h4.1;omega)) (Ad _);rw [Ad hj] at h5;simp only [Aa] at h5;rw [h5];exact h6
     ·rw [List.drop_left' NJ];exact h2
  ·cases he
 |some n::sh, .at (.data fr τ x)::nC,vs,as,hl,hr,he=>by
  simp only [ungroup] at he;split at he
  ·rename_i hn
   cases hu:ungroup sh nC with
   |none=>rw [hu] at he;cases he
   |some r=>
    rw [hu] at he;simp only [An,Aa] at he;subst he
    cases vs with
    |nil=>simp at hl
    |cons v vs=>
     obtain ⟨us,h1,h2,h3⟩:=aE sh nC vs r (by simpa using hl) (λi c v hc hv=>hr (i+1) c v (by simpa using hc) (by simpa using hv)) hu;obtain ⟨ws,h0,hv⟩:=hr 0 _ v rfl rfl;have h4:=qM (X:=X) (H:=H) τ ws x h0
     have hv:v= .agg ws.toArray:=by rw [hv];unfold Cj;rw [Ac hn.1]
     subst hv
     have NJ:ws.length=n:=by rw [<-hn.2];exact h4.1
     refine ⟨ws++us,?_,⟨by simp [NJ],?_,?_⟩,(Nn.of h4).append h3⟩
     ·rw [h1];simp only [Lm];rw [List.take_left' NJ,List.drop_left' NJ]
     ·rw [List.take_left' NJ];intro u hu;obtain ⟨j,hj,rfl⟩:=Sa hu;obtain ⟨u',h5,h6,_⟩:=h4.2 j ((Td fr τ x)[j]'(by have:=h4.1;omega)) (Ad _);rw [Ad hj] at h5;simp only [Aa] at h5;rw [h5];exact h6
     ·rw [List.drop_left' NJ];exact h2
  ·cases he
 | [],_::_,_,_,_,_,he=>by simp [ungroup] at he
 |none::_,[],_,_,_,_,he=>by simp [ungroup] at he
 |none::_, .agg _::_,_,_,_,_,he=>by simp [ungroup] at he
 |none::_, .bL _ _ _::_,_,_,_,_,he=>by simp [ungroup] at he
 |none::_, .Nh _::_,_,_,_,_,he=>by simp [ungroup] at he
 |some _::_,[],_,_,_,_,he=>by simp [ungroup] at he
 |some _::_, .at .undef::_,_,_,_,_,he=>by simp [ungroup] at he
 |some _::_, .at .skip::_,_,_,_,_,he=>by simp [ungroup] at he
 |some _::_, .at .Mn::_,_,_,_,_,he=>by simp [ungroup] at he
 |some _::_, .at .Wk::_,_,_,_,_,he=>by simp [ungroup] at he
 |some _::_, .at (.own _ _ _)::_,_,_,_,_,he=>by simp [ungroup] at he
 |some _::_, .at (.Hs _ _)::_,_,_,_,_,he=>by simp [ungroup] at he
 |some _::_, .at (.Kq _ _)::_,_,_,_,_,he=>by simp [ungroup] at he
 |some _::_, .at (.sub _ _ _)::_,_,_,_,_,he=>by simp [ungroup] at he
 |some _::_, .at (.Kl _ _ _)::_,_,_,_,_,he=>by simp [ungroup] at he
 |some _::_, .at (.clo _ _)::_,_,_,_,_,he=>by simp [ungroup] at he
 |some _::_, .at (.Le _)::_,_,_,_,_,he=>by simp [ungroup] at he
 |some _::_, .bL _ _ _::_,_,_,_,_,he=>by simp [ungroup] at he
 |some _::_, .Nh _::_,_,_,_,_,he=>by simp [ungroup] at he
theorem eN: ∀(sh:List (Option Nat)) (as:List AC) (us:List Value),dC sh us->Nn X w π H as us->
  (Tv sh as).length=(Lm sh us).length/\(∀(i:Nat) c v,(Tv sh as)[i]?=some c->(Lm sh us)[i]?=some v->Bx X w π H c v)/\
  (aM sh as).length=(Lm sh us).length/\(∀(i:Nat) p v,(aM sh as)[i]?=some p->(Lm sh us)[i]?=some v->fE X w π H p v)
 | [],[],[],_,_=>⟨rfl,λi c v hc=>by simp [Tv] at hc,rfl,λi c v hc=>by simp [aM] at hc⟩
 | [],_::_,[],_,h=>h.elim
 |none::_,_,[],h,_=>h.elim
 | [],_,_::_,h,_=>h.elim
 |none::sh,[],u::us,_,h=>h.elim
 |none::sh,a::as,u::us,hs,h=>by
  obtain ⟨h1,h2,h3,h4⟩:=eN sh as us hs h.2;refine ⟨by simp [Tv,Lm,h1],λi c v hc hv=>?_,by simp [aM,Lm,h3],λi p v hp hv=>?_⟩
  ·rcases i with _|i
   ·simp [Tv,Lm] at hc hv;subst hc;subst hv;exact h.1
   ·exact h2 i c v (by simpa [Tv] using hc) (by simpa [Lm] using hv)
  ·rcases i with _|i
   ·simp [aM,Lm] at hp hv;subst hp;subst hv;unfold fE;rw [Ai (by simp)];intro a' ha;simp at ha;subst ha;exact h.1
   ·exact h4 i p v (by simpa [aM] using hp) (by simpa [Lm] using hv)
 |some n::sh,as,us,hs,h=>by
  obtain ⟨ld,wq,hs3⟩:=hs;obtain ⟨k1,k2⟩:=Nn.take n h;obtain ⟨h1,h2,h3,h4⟩:=eN sh (as.drop n) (us.drop n) hs3 k2;have k3:=Nn.to k1 wq;refine ⟨by simp [Tv,Lm,h1],λi c v hc hv=>?_,by simp [aM,Lm,h3],λi p v hp hv=>?_⟩
  ·rcases i with _|i
   ·simp only [Tv,Lm,Cf,Aa] at hc hv;subst hc;subst hv;exact ⟨_,rfl,k3⟩
   ·exact h2 i c v (by simpa [Tv] using hc) (by simpa [Lm] using hv)
  ·rcases i with _|i
   ·simp only [aM,Lm,Cf,Aa] at hp hv;subst hp;subst hv;unfold fE;rw [Ac rfl];exact ⟨_,rfl,k3⟩
   ·exact h4 i p v (by simpa [aM] using hp) (by simpa [Lm] using hv)
def Qy (io:Bool) (k:Nat):CK->AC->List (Nat×Loc)
 | .Ia _, .own l _ _=> [(Eh false k, .view l)]
 | .Ia _, .clo _ En=>views k (En.map (·.1))
 | .Ia _, .Hs l _=>views k [l]
 | .Ia _, .sub l _ _=> [(Eh false k, .view l)]
 | .Ia _,_=> []
 |_, .own l _ _=> [(Eh io k, .row l)]
 |_, .sub l i c=> [(Eh io k, .sub l i c)]
 |_,_=> []
def Mi:Nat->List (Bool×CK)->List AC->List (Nat×Loc)
 |k,p::r,a::as=>Qy p.1 k p.2 a++Mi (k+1) r as
 |_,_,_=> []
theorem XK {st:St} {io:Bool} {k:Nat} {c:CK} {a:AC} {x:c.den} {tks:List (Nat×Loc)} (he:Mt st io k c a=some (x,tks)):tks=Qy io k c a:=by
 cases c with
 |Ia τ=>
  cases a with
  |own l off len=>
   simp only [Mt] at he
   cases hv:Dy st τ (.own l off len) with
   |none=>rw [hv] at he;cases he
   |some p=>rw [hv] at he;simp only [An,Aa,Ag] at he;exact he.2.symm
  |clo g En=>
   simp only [Mt] at he;split at he
   ·cases hv:Kh st τ (.clo g En) with
    |none=>rw [hv] at he;cases he
    |some p=>rw [hv] at he;simp only [An,Aa,Ag] at he;exact he.2.symm
   ·cases he
  |Hs l i=>
   simp only [Mt] at he;split at he
   ·cases hv:Kh st τ (.Hs l i) with
    |none=>rw [hv] at he;cases he
    |some p=>rw [hv] at he;simp only [An,Aa,Ag] at he;exact he.2.symm
   ·cases he
  |sub l i c=>
   simp only [Mt] at he
   cases hv:Dy st τ (.sub l i c) with
   |none=>rw [hv] at he;cases he
   |some p=>rw [hv] at he;simp only [An,Aa,Ag] at he;exact he.2.symm
  |_=>
   simp only [Mt] at he;split at he
   ·first
     |(rename_i hc;cases hv:Dy st τ _ with
      |none=>rw [hv] at he;cases he
      |some p=>rw [hv] at he;simp only [An,Aa,Ag] at he;exact he.2.symm)
   ·cases he
 |row e te=>
  cases a<;>simp only [Mt] at he<;>try (cases he;done)
  ·simp only [Aa,Ag] at he;exact he.2.symm
  ·split at he
   ·split at he
    ·simp only [Aa,Ag] at he;exact he.2.symm
    ·cases he
   ·cases he
  ·rename_i l i c;split at he
   ·rename_i e' tid xs hl;split at he
    ·cases hx:xs[i]? with
     |none=>rw [hx] at he;cases he
     |some y=>rw [hx] at he;simp only [An,Aa,Ag] at he;exact he.2.symm
    ·cases he
   ·cases he
 |Hz e te=>
  cases a<;>simp only [Mt] at he<;>try (cases he;done)
  ·simp only [Aa,Ag] at he;exact he.2.symm
  ·split at he
   ·split at he
    ·simp only [Aa,Ag] at he;exact he.2.symm
    ·cases he
   ·cases he
  ·rename_i l i c;split at he
   ·rename_i e' tid xs hl;split at he
    ·cases hx:xs[i]? with
     |none=>rw [hx] at he;cases he
     |some y=>rw [hx] at he;simp only [An,Aa,Ag] at he;exact he.2.symm
    ·cases he
   ·cases he
 |part e te=>
  cases a<;>simp only [Mt] at he<;>try (cases he;done)
  split at he
  ·split at he
   ·simp only [Aa,Ag] at he;exact he.2.symm
   ·cases he
  ·cases he
 |Ca e te kp=>
  cases a<;>simp only [Mt] at he<;>try (cases he;done)
  split at he
  ·split at he
   ·simp only [Aa,Ag] at he;exact he.2.symm
   ·cases he
  ·cases he
theorem aP.Jg {D D':Nat->Prop} {r:Option Real} {e:Ty} {rows:List (List e.den)} (h:aP w D r e rows none) (hD: ∀b,D' b->D b):aP w D' r e rows none:=
 h.Gd (λ_ _ _ _ _=>rfl) λes x hc=>Cells.Gd (Ap _) (λ_ _ _=>rfl) (λb _ hb=>hD b hb) e es x hc
def rY (X:Ctx) (w:World) (π:Pi) (V:List Nat) (H:List (Nat×OB)) (πc:Pi):(k:Nat)->(cs:List (Bool×CK))->Ins.den cs->List AC->List Value->Prop
 |_,[],_,[],[]=>True
 |k,p::r,x,a::as,u::us=>(fC w (Pg X π V) (πc (Eh p.1 k)) u p.2 x.1/\Um w π H p.1 a u (πc (Eh p.1 k)) p.2 x.1)/\rY X w π V H πc (k+1) r x.2 as us
 |_,_,_,_,_=>False
theorem TJ {b b':Bool} {k j:Nat} (hk:k<100000) (hj:j<100000) (h:k≠j):Eh b k≠Eh b' j:=by
 unfold Eh;cases b<;>cases b'<;>simp<;>omega
theorem rY.congr {V:List Nat} {πc As4:Pi} : ∀(cs:List (Bool×CK)) (k:Nat) (x:Ins.den cs) (as:List AC) (us:List Value),(∀b j,k<=j->j<k+cs.length->As4 (Eh b j)=πc (Eh b j))->rY X w π V H πc k cs x as us->rY X w π V H As4 k cs x as us
 | [],_,_,[],[],_,h=>h
 | [],_,_,_::_,_,_,h=>h.elim
 | [],_,_,[],_::_,_,h=>h.elim
 |_::_,_,_,[],_,_,h=>h.elim
 |_::_,_,_,_::_,[],_,h=>h.elim
 |p::r,k,x,a::as,u::us,hc,h=>⟨by rw [hc p.1 k (Ap _) (by simp)];exact h.1,rY.congr r (k+1) x.2 as us (λb j h1 h2=>hc b j (by omega) (by simp;omega)) h.2⟩
theorem rY.Aqt {V:List Nat} {πc:Pi} : ∀(cs:List (Bool×CK)) (k:Nat) (x:Ins.den cs) (as:List AC) (us:List Value),rY X w π V H πc k cs x as us->fD w (Pg X π V) πc k cs x us
 | [],_,_,[],[],h=>h
 | [],_,_,_::_,_,h=>h.elim
 | [],_,_,[],_::_,h=>h.elim
 |_p::_r,_k,_x,[],_,h=>h.elim
 |_p::_r,_k,_x,_::_,[],h=>h.elim
 |_p::r,k,x,_a::as,_u::us,h=>⟨h.1.1,rY.Aqt r (k+1) x.2 as us h.2⟩
theorem Tr.Jg {D D':Nat->Prop} {r:Option Real} {e:Ty} {xs:List e.den} (h:Tr w D r e xs) (hD: ∀b,D' b->D b):Tr w D' r e xs:=by
 cases r with
 |none=>exact h
 |some r=>
  obtain ⟨k1,cu,ti,k2,k3,k4,k5,k6⟩:=h
  exact ⟨k1,cu,ti,k2,k3,k4,k5,λi y hy=>by
   obtain ⟨es,g1,g2,g3⟩:=k6 i y hy
   exact ⟨es,g1,g2,Cells.Gd (Ap _) (λ_ _ _=>rfl) (λb _ hb=>hD b hb) e es y g3⟩⟩
theorem fD.Jg {D D':Nat->Prop} {πc:Pi} (hD: ∀b,D' b->D b): ∀(cs:List (Bool×CK)) (k:Nat) (x:Ins.den cs) (us:List Value),fD w D πc k cs x us->fD w D' πc k cs x us
 | [],_,_,[],h=>h
 | [],_,_,_::_,h=>h.elim
 |p::r,k,x,[],h=>h.elim
 |(io,c)::r,k,x,u::us,h=>⟨by
   have:=h.1
   cases c with
   |Ia τ=>exact ⟨this.1,this.2.Jg λb _ hb=>hD b hb⟩
   |row e te=>exact ⟨this.1,this.2.Jg hD⟩
   |Hz e te=>exact this
   |Ca e te kp=>exact ⟨this.1,aP.Jg this.2 hD⟩
   |part e te=>exact ⟨this.1,this.2.1,this.2.2.Jg hD⟩,fD.Jg hD r (k+1) x.2 us h.2⟩
theorem Um.Df {io:Bool} {a:AC} {u:Value} {r:Option Real} {c:CK} {x:c.den} (k:Nat) (h:Um w π H io a u r c x) {r':Real} (hr:r=some r') {b:Nat} (hb:r'.Df b):
  ∃t,t∈Qy io k c a/\t.1=Eh io k/\t.2.reads=false/\ ∃q,π t.2.Xw=some q/\q.Df b/\ ∀l i j,t.2= .sub l i j->b≠q.g:=by
 subst hr
 have Agr: ∀l,some r'=(π l).map full-> ∃q,π l=some q/\q.Df b:=by
  intro l hl
  cases hp:π l with
  |none=>rw [hp] at hl;cases hl
  |some q=>rw [hp] at hl;simp only [An,Aa] at hl;subst hl;exact ⟨q,rfl,hb⟩
 cases c with
 |Ia τ=>cases h
 |row e te=>
  simp only [Um] at h
  cases a<;>simp only [] at h<;>first|(cases h;done)|skip
  ·obtain ⟨q,h1,h2⟩:=Agr _ h.1;exact ⟨_,Af.2 rfl,rfl,rfl,q,h1,h2,λ_ _ _ e=>by cases e⟩
  ·obtain ⟨_,tid,xs,_,_,q,h1,h2,_⟩:=h;exact ⟨_,Af.2 rfl,rfl,rfl,q,h1,(h2 r' rfl b hb).1,λ_ _ _ _=>(h2 r' rfl b hb).2⟩
 |Hz e te=>
  simp only [Um] at h
  cases a<;>simp only [] at h<;>first|(cases h;done)|skip
  ·obtain ⟨q,h1,h2⟩:=Agr _ h.1;exact ⟨_,Af.2 rfl,rfl,rfl,q,h1,h2,λ_ _ _ e=>by cases e⟩
  ·obtain ⟨_,tid,xs,_,_,q,h1,h2,_⟩:=h;exact ⟨_,Af.2 rfl,rfl,rfl,q,h1,(h2 r' rfl b hb).1,λ_ _ _ _=>(h2 r' rfl b hb).2⟩
 |part e te=>
  obtain ⟨_,h⟩:=h
  cases a<;>simp only [] at h<;>first|(cases h;done)|skip
  obtain ⟨q,h1,h2⟩:=Agr _ h.1;exact ⟨_,Af.2 rfl,rfl,rfl,q,h1,h2,λ_ _ _ e=>by cases e⟩
 |Ca e te kp=>
  obtain ⟨_,h⟩:=h
  cases a<;>simp only [] at h<;>first|(cases h;done)|skip
  obtain ⟨q,h1,h2⟩:=Agr _ h.1;exact ⟨_,Af.2 rfl,rfl,rfl,q,h1,h2,λ_ _ _ e=>by cases e⟩
theorem KA {io:Bool} {k:Nat} {c:CK} {a:AC} {t:Nat×Loc} (h:t∈Qy io k c a):(t.1=Eh io k/\t.2.reads=false)\/(t.1=Eh false k/\t.2.reads=true):=by
 cases c<;>cases a<;>simp [Qy,views] at h<;>first|(obtain ⟨_,_,rfl⟩:=h;simp [Loc.reads];done)|(obtain ⟨_,⟨_,_⟩,rfl⟩:=h;simp [Loc.reads];done)|(rw [h];simp [Loc.reads])
theorem vZ {st:St} (h:Nm X w π st.heap) {V:List Nat} : ∀(cs:List (Bool×CK)) (k:Nat) (as:List AC) (us:List Value) (x:Ins.den cs) (tks:List (Nat×Loc)),k+cs.length<100000->Nn X w π st.heap as us->gP st k cs as=some (x,tks)->(∀t∈tks,t.2.reads=true->t.2.Xw∈V)->
  tks=Mi k cs as/\ ∃πc:Pi,rY X w π V st.heap πc k cs x as us/\(∀l,πc l≠none-> ∃b j,k<=j/\j<k+cs.length/\l=Eh b j)/\(∀l,Ay (al k cs x) l=none->πc l=none)/\
   (∀c r b,πc c=some r->r.Df b-> ∃t∈Mi k cs as,t.1=c/\t.2.reads=false/\ ∃q,π t.2.Xw=some q/\q.Df b/\ ∀l i j,t.2= .sub l i j->b≠q.g)
 | [],k,[],[],x,tks,_,_,he,_=>by
  simp only [gP,Aa,Ag] at he;exact ⟨he.2.symm,λ_=>none,trivial,λl h=>absurd rfl h,λ_ _=>rfl,λc r b h=>by cases h⟩
 | [],k,[],_::_,_,_,_,h,_,_=>h.elim
 | [],k,_::_,_,_,_,_,_,he,_=>by simp [gP] at he
 |p::r,k,[],_,_,_,_,_,he,_=>by simp [gP] at he
 |p::r,k,a::as,[],_,_,_,h,_,_=>h.elim
 |p::r,k,a::as,u::us,x,tks,hk,hr,he,hV=>by
  simp only [gP] at he;split at he
  ·rename_i x1 t1 x2 t2 h1 h2;simp only [Aa,Ag] at he;obtain ⟨rfl,rfl⟩:=he;simp only [Aw] at hk;obtain ⟨e2,πc,g1,g2,g3,g4⟩:=vZ h r (k+1) as us x2 t2 (by omega) hr.2 h2 λt ht=>hV t (Cm _ ht);have e1:=XK h1;obtain ⟨rr,r1,r2⟩:=XJ h hr.1 h1 λt ht=>hV t (Bo _ ht);refine ⟨by simp only [Mi];rw [e1,e2],λl=>if l=Eh p.1 k then rr else πc l,⟨by simpa using ⟨r1,r2⟩,g1.congr r (k+1) x2 as us λb j j1 j2=>Ai (TJ (by omega) (by omega) (by omega))⟩,λl hl=>?_,λl hl=>?_,λc q b hc hb=>?_⟩
   ·by_cases e:l=Eh p.1 k
    ·exact ⟨p.1,k,Ap _,by simp,e⟩
    ·dsimp only at hl;rw [Ai e] at hl;obtain ⟨b,j,j1,j2,j3⟩:=g2 l hl;exact ⟨b,j,by omega,by simp;omega,j3⟩
   ·simp only [al] at hl;dsimp only
    by_cases e:l=Eh p.1 k
    ·rw [Ac e]
     cases hc:p.2 with
     |Ia τ=>
      revert r2
      generalize p.2=c at*;subst hc;intro r2;exact r2
     |row e' te=>
      exfalso;generalize p.2=c at*;subst hc;simp only [l6,j6,Ay,Ac e.symm] at hl;cases hl
     |Hz e' te=>
      exfalso;generalize p.2=c at*;subst hc;simp only [l6,j6,Ay,Ac e.symm] at hl;cases hl
     |part e' te=>
      exfalso;generalize p.2=c at*;subst hc;simp only [l6,j6,Ay,Ac e.symm] at hl;cases hl
     |Ca e' te kp=>
      exfalso;generalize p.2=c at*;subst hc;simp only [l6,j6,Ay,Ac e.symm] at hl;cases hl
    ·rw [Ai e];refine g3 l ?_
     cases hc:l6 (Eh p.1 k) p.2 x1 with
     |none=>rw [hc] at hl;exact hl
     |some b=>rw [hc] at hl;simp only [j6,Ay,Ai (Ha e)] at hl;exact hl
   ·dsimp only at hc
    by_cases e:c=Eh p.1 k
    ·rw [Ac e] at hc;obtain ⟨t,t1,t0,t2⟩:=r2.Df k hc hb;exact ⟨t,by simp only [Mi];exact Bo _ t1,by rw [t0,e],t2⟩
    ·rw [Ai e] at hc;obtain ⟨t,t1,t2⟩:=g4 c q b hc hb;exact ⟨t,by simp only [Mi];exact Cm _ t1,t2⟩
  ·cases he
end
end Go.Proofs.Ytfgfigkbgecfnaa
