/-
  Part 16 of the proof that the statement FnMethods holds.
-/
import Derived.Test.YtkkdpknjohcekaaGreatCFMethods14
namespace Go.Proofs.YtkkdpknjohcekaaGreat
open Go.RowKit
section
variable {P:Program} {T:Tab} {X:Ctx} {w w':World} {π π':Pi} {H H':List (Nat×OB)}
def Nx (X:Ctx) (w:World) (π:Pi) (H:List (Nat×OB)):List AC->List Value->Prop
 | [],[]=>True
 |a::as,u::us=>Iq X w π H a u/\Nx X w π H as us
 |_,_=>False
theorem Nx.append {as bs:List AC} {us vs:List Value} (h1:Nx X w π H as us) (h2:Nx X w π H bs vs):Nx X w π H (as++bs) (us++vs):=by
 induction as generalizing us with
 |nil=>cases us with
  |nil=>exact h2
  |cons u us=>exact h1.elim
 |cons a as ih=>cases us with
  |nil=>exact h1.elim
  |cons u us=>exact ⟨h1.1,ih h1.2⟩
theorem Nx.of: ∀ {cs:List AC} {us:List Value},Gv X w π H cs us->Nx X w π H cs us
 | [],[],_=>trivial
 | [],u::us,h=>by have:=h.1;simp at this
 |c::cs,[],h=>by have:=h.1;simp at this
 |c::cs,u::us,h=>by
  obtain ⟨u',h1,_,h2⟩:=h.2 0 c rfl
  simp at h1;subst h1
  exact ⟨h2,Nx.of ⟨by have:=h.1;simpa using this,λi c' hc=>by
   obtain ⟨u',h3,h4⟩:=h.2 (i+1) c' (by simpa using hc)
   exact ⟨u',by simpa using h3,h4⟩⟩⟩
theorem Nx.to: ∀ {cs:List AC} {us:List Value},Nx X w π H cs us->(∀u∈us,u.oneCell'=true)->Gv X w π H cs us
 | [],[],_,_=>⟨rfl,λi c hc=>by simp at hc⟩
 | [],u::us,h,_=>h.elim
 |c::cs,[],h,_=>h.elim
 |c::cs,u::us,h,ho=>by
  have ih:=Nx.to h.2 λv hv=>ho v (Ap _ hv)
  refine ⟨by simp [ih.1],λi c' hc=>?_⟩
  rcases i with _|i
  ·simp at hc;subst hc;exact ⟨u,rfl,ho u (by simp),h.1⟩
  ·obtain ⟨u',h3,h4⟩:=ih.2 i c' (by simpa using hc)
   exact ⟨u',by simpa using h3,h4⟩
theorem Nx.take: ∀ {cs:List AC} {us:List Value} (n:Nat),Nx X w π H cs us->Nx X w π H (cs.take n) (us.take n)/\Nx X w π H (cs.drop n) (us.drop n)
 |cs,us,0,h=>by simpa [Nx] using h
 | [],[],n+1,_=>by simp [Nx]
 | [],u::us,n+1,h=>h.elim
 |c::cs,[],n+1,h=>h.elim
 |c::cs,u::us,n+1,h=>by
  have:=Nx.take n h.2
  exact ⟨⟨h.1,this.1⟩,this.2⟩
theorem aw: ∀(sh:List (Option Nat)) (nt:List AV) (vs:List Value) (as:List AC),nt.length=vs.length->(∀(i:Nat) c v,nt[i]?=some c->vs[i]?=some v->Bs X w π H c v)->ungroup sh nt=some as->
  ∃us,vs=Lt sh us/\dk sh us/\Nx X w π H as us
 | [],[],vs,as,hl,_,he=>by
  simp only [ungroup,Aa] at he;subst he
  have:vs= []:=Cm hl.symm
  subst this
  exact ⟨[],rfl,trivial,trivial⟩
 |none::sh, .at a::nt,vs,as,hl,hr,he=>by
  simp only [ungroup] at he
  cases hu:ungroup sh nt with
  |none=>rw [hu] at he;cases he
  |some r=>
   rw [hu] at he
   simp only [An,Aa] at he;subst he
   cases vs with
   |nil=>simp at hl
   |cons v vs=>
    obtain ⟨us,h1,h2,h3⟩:=aw sh nt vs r (by simpa using hl) (λi c v hc hv=>hr (i+1) c v (by simpa using hc) (by simpa using hv)) hu
    exact ⟨v::us,by rw [h1];rfl,h2,hr 0 _ v rfl rfl,h3⟩
 |some n::sh, .agg cs::nt,vs,as,hl,hr,he=>by
  simp only [ungroup] at he
  split at he
  ·rename_i hn
   cases hu:ungroup sh nt with
   |none=>rw [hu] at he;cases he
   |some r=>
    rw [hu] at he
    simp only [An,Aa] at he;subst he
    cases vs with
    |nil=>simp at hl
    |cons v vs=>
     obtain ⟨us,h1,h2,h3⟩:=aw sh nt vs r (by simpa using hl) (λi c v hc hv=>hr (i+1) c v (by simpa using hc) (by simpa using hv)) hu
     obtain ⟨ws,rfl,h4⟩:=hr 0 _ v rfl rfl
     have YQ:ws.length=n:=by rw [<-hn];exact h4.1
     refine ⟨ws++us,?_,⟨by simp [YQ],?_,?_⟩,(Nx.of h4).append h3⟩
     ·rw [h1];simp only [Lt];rw [List.take_left' YQ,List.drop_left' YQ]
     ·rw [List.take_left' YQ]
      intro u hu
      obtain ⟨j,hj,rfl⟩:=Ol hu
      obtain ⟨u',h5,h6,_⟩:=h4.2 j (cs[j]'(by have:=h4.1;omega)) (Ac _)
      rw [Ac hj] at h5
      simp only [Aa] at h5
      rw [h5];exact h6
     ·rw [List.drop_left' YQ];exact h2
  ·cases he
 |some n::sh, .at (.data fr τ x)::nt,vs,as,hl,hr,he=>by
  simp only [ungroup] at he
  split at he
  ·rename_i hn
   cases hu:ungroup sh nt with
   |none=>rw [hu] at he;cases he
   |some r=>
    rw [hu] at he
    simp only [An,Aa] at he;subst he
    cases vs with
    |nil=>simp at hl
    |cons v vs=>
     obtain ⟨us,h1,h2,h3⟩:=aw sh nt vs r (by simpa using hl) (λi c v hc hv=>hr (i+1) c v (by simpa using hc) (by simpa using hv)) hu
     obtain ⟨ws,h0,hv⟩:=hr 0 _ v rfl rfl
     have h4:=qG (X:=X) (H:=H) τ ws x h0
     have hv:v= .agg ws.toArray:=by rw [hv];unfold Ce;rw [Ab hn.1]
     subst hv
     have YQ:ws.length=n:=by rw [<-hn.2];exact h4.1
     refine ⟨ws++us,?_,⟨by simp [YQ],?_,?_⟩,(Nx.of h4).append h3⟩
     ·rw [h1];simp only [Lt];rw [List.take_left' YQ,List.drop_left' YQ]
     ·rw [List.take_left' YQ]
      intro u hu
      obtain ⟨j,hj,rfl⟩:=Ol hu
      obtain ⟨u',h5,h6,_⟩:=h4.2 j ((Td fr τ x)[j]'(by have:=h4.1;omega)) (Ac _)
      rw [Ac hj] at h5
      simp only [Aa] at h5
      rw [h5];exact h6
     ·rw [List.drop_left' YQ];exact h2
  ·cases he
 | [],_::_,_,_,_,_,he=>by simp [ungroup] at he
 |none::_,[],_,_,_,_,he=>by simp [ungroup] at he
 |none::_, .agg _::_,_,_,_,_,he=>by simp [ungroup] at he
 |none::_, .bH _ _ _::_,_,_,_,_,he=>by simp [ungroup] at he
 |none::_, .Nr _::_,_,_,_,_,he=>by simp [ungroup] at he
 |some _::_,[],_,_,_,_,he=>by simp [ungroup] at he
 |some _::_, .at .undef::_,_,_,_,_,he=>by simp [ungroup] at he
 |some _::_, .at .skip::_,_,_,_,_,he=>by simp [ungroup] at he
 |some _::_, .at .Mx::_,_,_,_,_,he=>by simp [ungroup] at he
 |some _::_, .at .Wh::_,_,_,_,_,he=>by simp [ungroup] at he
 |some _::_, .at (.own _ _ _)::_,_,_,_,_,he=>by simp [ungroup] at he
 |some _::_, .at (.Ii _ _)::_,_,_,_,_,he=>by simp [ungroup] at he
 |some _::_, .at (.Ld _ _)::_,_,_,_,_,he=>by simp [ungroup] at he
 |some _::_, .at (.sub _ _ _)::_,_,_,_,_,he=>by simp [ungroup] at he
 |some _::_, .at (.Ky _ _ _)::_,_,_,_,_,he=>by simp [ungroup] at he
 |some _::_, .at (.clo _ _)::_,_,_,_,_,he=>by simp [ungroup] at he
 |some _::_, .at (.Lk _)::_,_,_,_,_,he=>by simp [ungroup] at he
 |some _::_, .bH _ _ _::_,_,_,_,_,he=>by simp [ungroup] at he
 |some _::_, .Nr _::_,_,_,_,_,he=>by simp [ungroup] at he
theorem ez: ∀(sh:List (Option Nat)) (as:List AC) (us:List Value),dk sh us->Nx X w π H as us->
  (Tt sh as).length=(Lt sh us).length/\(∀(i:Nat) c v,(Tt sh as)[i]?=some c->(Lt sh us)[i]?=some v->Bs X w π H c v)/\
  (aE sh as).length=(Lt sh us).length/\(∀(i:Nat) p v,(aE sh as)[i]?=some p->(Lt sh us)[i]?=some v->ff X w π H p v)
 | [],[],[],_,_=>⟨rfl,λi c v hc=>by simp [Tt] at hc,rfl,λi c v hc=>by simp [aE] at hc⟩
 | [],_::_,[],_,h=>h.elim
 |none::_,_,[],h,_=>h.elim
 | [],_,_::_,h,_=>h.elim
 |none::sh,[],u::us,_,h=>h.elim
 |none::sh,a::as,u::us,hs,h=>by
  obtain ⟨h1,h2,h3,h4⟩:=ez sh as us hs h.2
  refine ⟨by simp [Tt,Lt,h1],λi c v hc hv=>?_,by simp [aE,Lt,h3],λi p v hp hv=>?_⟩
  ·rcases i with _|i
   ·simp [Tt,Lt] at hc hv;subst hc;subst hv;exact h.1
   ·exact h2 i c v (by simpa [Tt] using hc) (by simpa [Lt] using hv)
  ·rcases i with _|i
   ·simp [aE,Lt] at hp hv;subst hp;subst hv
    unfold ff
    rw [Ai (by simp)]
    intro a' ha;simp at ha;subst ha;exact h.1
   ·exact h4 i p v (by simpa [aE] using hp) (by simpa [Lt] using hv)
 |some n::sh,as,us,hs,h=>by
  obtain ⟨ca,vU,hs3⟩:=hs
  obtain ⟨k1,k2⟩:=Nx.take n h
  obtain ⟨h1,h2,h3,h4⟩:=ez sh (as.drop n) (us.drop n) hs3 k2
  have k3:=Nx.to k1 vU
  refine ⟨by simp [Tt,Lt,h1],λi c v hc hv=>?_,by simp [aE,Lt,h3],λi p v hp hv=>?_⟩
  ·rcases i with _|i
   ·simp only [Tt,Lt,Bx,Aa] at hc hv;subst hc;subst hv;exact ⟨_,rfl,k3⟩
   ·exact h2 i c v (by simpa [Tt] using hc) (by simpa [Lt] using hv)
  ·rcases i with _|i
   ·simp only [aE,Lt,Bx,Aa] at hp hv;subst hp;subst hv
    unfold ff
    rw [Ab rfl]
    exact ⟨_,rfl,k3⟩
   ·exact h4 i p v (by simpa [aE] using hp) (by simpa [Lt] using hv)
def Rf (io:Bool) (k:Nat):CK->AC->List (Nat×Loc)
 | .Hw _, .own l _ _=> [(Ee false k, .view l)]
 | .Hw _, .clo _ Ev=>views k (Ev.map (·.1))
 | .Hw _, .Ii l _=>views k [l]
 | .Hw _, .sub l _ _=> [(Ee false k, .view l)]
 | .Hw _,_=> []
 |_, .own l _ _=> [(Ee io k, .row l)]
 |_, .sub l i c=> [(Ee io k, .sub l i c)]
 |_,_=> []
def Mu:Nat->List (Bool×CK)->List AC->List (Nat×Loc)
 |k,p::r,a::as=>Rf p.1 k p.2 a++Mu (k+1) r as
 |_,_,_=> []
theorem XG {st:St} {io:Bool} {k:Nat} {c:CK} {a:AC} {x:c.den} {tks:List (Nat×Loc)} (he:Na st io k c a=some (x,tks)):tks=Rf io k c a:=by
 cases c with
 |Hw τ=>
  cases a with
  |own l off len=>
   simp only [Na] at he
   cases hv:Ec st τ (.own l off len) with
   |none=>rw [hv] at he;cases he
   |some p=>rw [hv] at he;simp only [An,Aa,Af] at he;exact he.2.symm
  |clo g Ev=>
   simp only [Na] at he
   split at he
   ·cases hv:Kw st τ (.clo g Ev) with
    |none=>rw [hv] at he;cases he
    |some p=>rw [hv] at he;simp only [An,Aa,Af] at he;exact he.2.symm
   ·cases he
  |Ii l i=>
   simp only [Na] at he
   split at he
   ·cases hv:Kw st τ (.Ii l i) with
    |none=>rw [hv] at he;cases he
    |some p=>rw [hv] at he;simp only [An,Aa,Af] at he;exact he.2.symm
   ·cases he
  |sub l i c=>
   simp only [Na] at he
   cases hv:Ec st τ (.sub l i c) with
   |none=>rw [hv] at he;cases he
   |some p=>rw [hv] at he;simp only [An,Aa,Af] at he;exact he.2.symm
  |_=>
   simp only [Na] at he
   split at he
   ·first
     |(rename_i hc;cases hv:Ec st τ _ with
      |none=>rw [hv] at he;cases he
      |some p=>rw [hv] at he;simp only [An,Aa,Af] at he;exact he.2.symm)
   ·cases he
 |row e te=>
  cases a<;>simp only [Na] at he<;>try (cases he;done)
  ·simp only [Aa,Af] at he;exact he.2.symm
  ·split at he
   ·split at he
    ·simp only [Aa,Af] at he;exact he.2.symm
    ·cases he
   ·cases he
  ·rename_i l i c
   split at he
   ·rename_i e' tid xs hl
    split at he
    ·cases hx:xs[i]? with
     |none=>rw [hx] at he;cases he
     |some y=>rw [hx] at he;simp only [An,Aa,Af] at he;exact he.2.symm
    ·cases he
   ·cases he
 |Iu e te=>
  cases a<;>simp only [Na] at he<;>try (cases he;done)
  ·simp only [Aa,Af] at he;exact he.2.symm
  ·split at he
   ·split at he
    ·simp only [Aa,Af] at he;exact he.2.symm
    ·cases he
   ·cases he
  ·rename_i l i c
   split at he
   ·rename_i e' tid xs hl
    split at he
    ·cases hx:xs[i]? with
     |none=>rw [hx] at he;cases he
     |some y=>rw [hx] at he;simp only [An,Aa,Af] at he;exact he.2.symm
    ·cases he
   ·cases he
 |part e te=>
  cases a<;>simp only [Na] at he<;>try (cases he;done)
  split at he
  ·split at he
   ·simp only [Aa,Af] at he;exact he.2.symm
   ·cases he
  ·cases he
 |Bu e te kp=>
  cases a<;>simp only [Na] at he<;>try (cases he;done)
  split at he
  ·split at he
   ·simp only [Aa,Af] at he;exact he.2.symm
   ·cases he
  ·cases he
theorem aK.Jv {D D':Nat->Prop} {r:Option Real} {e:Ty} {rows:List (List e.den)} (h:aK w D r e rows none) (hD: ∀b,D' b->D b):aK w D' r e rows none:=
 h.Gj (λ_ _ _ _ _=>rfl) λes x hc=>Cells.Gj (Aq _) (λ_ _ _=>rfl) (λb _ hb=>hD b hb) e es x hc
def rJ (X:Ctx) (w:World) (π:Pi) (V:List Nat) (H:List (Nat×OB)) (πc:Pi):(k:Nat)->(cs:List (Bool×CK))->Ins.den cs->List AC->List Value->Prop
 |_,[],_,[],[]=>True
 |k,p::r,x,a::as,u::us=>(fc w (Pq X π V) (πc (Ee p.1 k)) u p.2 x.1/\Ui w π H p.1 a u (πc (Ee p.1 k)) p.2 x.1)/\rJ X w π V H πc (k+1) r x.2 as us
 |_,_,_,_,_=>False
theorem TB {b b':Bool} {k j:Nat} (hk:k<100000) (hj:j<100000) (h:k≠j):Ee b k≠Ee b' j:=by
 unfold Ee;cases b<;>cases b'<;>simp<;>omega
theorem rJ.congr {V:List Nat} {πc Ar7:Pi} : ∀(cs:List (Bool×CK)) (k:Nat) (x:Ins.den cs) (as:List AC) (us:List Value),(∀b j,k<=j->j<k+cs.length->Ar7 (Ee b j)=πc (Ee b j))->rJ X w π V H πc k cs x as us->rJ X w π V H Ar7 k cs x as us
 | [],_,_,[],[],_,h=>h
 | [],_,_,_::_,_,_,h=>h.elim
 | [],_,_,[],_::_,_,h=>h.elim
 |_::_,_,_,[],_,_,h=>h.elim
 |_::_,_,_,_::_,[],_,h=>h.elim
 |p::r,k,x,a::as,u::us,hc,h=>⟨by rw [hc p.1 k (Aq _) (by simp)];exact h.1,rJ.congr r (k+1) x.2 as us (λb j h1 h2=>hc b j (by omega) (by simp;omega)) h.2⟩
theorem rJ.Apg {V:List Nat} {πc:Pi} : ∀(cs:List (Bool×CK)) (k:Nat) (x:Ins.den cs) (as:List AC) (us:List Value),rJ X w π V H πc k cs x as us->fe w (Pq X π V) πc k cs x us
 | [],_,_,[],[],h=>h
 | [],_,_,_::_,_,h=>h.elim
 | [],_,_,[],_::_,h=>h.elim
 |_p::_r,_k,_x,[],_,h=>h.elim
 |_p::_r,_k,_x,_::_,[],h=>h.elim
 |_p::r,k,x,_a::as,_u::us,h=>⟨h.1.1,rJ.Apg r (k+1) x.2 as us h.2⟩
theorem Sk.Jv {D D':Nat->Prop} {r:Option Real} {e:Ty} {xs:List e.den} (h:Sk w D r e xs) (hD: ∀b,D' b->D b):Sk w D' r e xs:=by
 cases r with
 |none=>exact h
 |some r=>
  obtain ⟨k1,cu,ti,k2,k3,k4,k5,k6⟩:=h
  exact ⟨k1,cu,ti,k2,k3,k4,k5,λi y hy=>by
   obtain ⟨es,g1,g2,g3⟩:=k6 i y hy
   exact ⟨es,g1,g2,Cells.Gj (Aq _) (λ_ _ _=>rfl) (λb _ hb=>hD b hb) e es y g3⟩⟩
theorem fe.Jv {D D':Nat->Prop} {πc:Pi} (hD: ∀b,D' b->D b): ∀(cs:List (Bool×CK)) (k:Nat) (x:Ins.den cs) (us:List Value),fe w D πc k cs x us->fe w D' πc k cs x us
 | [],_,_,[],h=>h
 | [],_,_,_::_,h=>h.elim
 |p::r,k,x,[],h=>h.elim
 |(io,c)::r,k,x,u::us,h=>⟨by
   have:=h.1
   cases c with
   |Hw τ=>exact ⟨this.1,this.2.Jv λb _ hb=>hD b hb⟩
   |row e te=>exact ⟨this.1,this.2.Jv hD⟩
   |Iu e te=>exact this
   |Bu e te kp=>exact ⟨this.1,aK.Jv this.2 hD⟩
   |part e te=>exact ⟨this.1,this.2.1,this.2.2.Jv hD⟩,fe.Jv hD r (k+1) x.2 us h.2⟩
theorem Ui.Cw {io:Bool} {a:AC} {u:Value} {r:Option Real} {c:CK} {x:c.den} (k:Nat) (h:Ui w π H io a u r c x) {r':Real} (hr:r=some r') {b:Nat} (hb:r'.Cw b):
  ∃t,t∈Rf io k c a/\t.1=Ee io k/\t.2.reads=false/\ ∃q,π t.2.Xu=some q/\q.Cw b/\ ∀l i j,t.2= .sub l i j->b≠q.g:=by
 subst hr
 have Agc: ∀l,some r'=(π l).map full-> ∃q,π l=some q/\q.Cw b:=by
  intro l hl
  cases hp:π l with
  |none=>rw [hp] at hl;cases hl
  |some q=>rw [hp] at hl;simp only [An,Aa] at hl;subst hl;exact ⟨q,rfl,hb⟩
 cases c with
 |Hw τ=>cases h
 |row e te=>
  simp only [Ui] at h
  cases a<;>simp only [] at h<;>first|(cases h;done)|skip
  ·obtain ⟨q,h1,h2⟩:=Agc _ h.1;exact ⟨_,Ad.2 rfl,rfl,rfl,q,h1,h2,λ_ _ _ e=>by cases e⟩
  ·obtain ⟨_,tid,xs,_,_,q,h1,h2,_⟩:=h
   exact ⟨_,Ad.2 rfl,rfl,rfl,q,h1,(h2 r' rfl b hb).1,λ_ _ _ _=>(h2 r' rfl b hb).2⟩
 |Iu e te=>
  simp only [Ui] at h
  cases a<;>simp only [] at h<;>first|(cases h;done)|skip
  ·obtain ⟨q,h1,h2⟩:=Agc _ h.1;exact ⟨_,Ad.2 rfl,rfl,rfl,q,h1,h2,λ_ _ _ e=>by cases e⟩
  ·obtain ⟨_,tid,xs,_,_,q,h1,h2,_⟩:=h
   exact ⟨_,Ad.2 rfl,rfl,rfl,q,h1,(h2 r' rfl b hb).1,λ_ _ _ _=>(h2 r' rfl b hb).2⟩
 |part e te=>
  obtain ⟨_,h⟩:=h
  cases a<;>simp only [] at h<;>first|(cases h;done)|skip
  obtain ⟨q,h1,h2⟩:=Agc _ h.1;exact ⟨_,Ad.2 rfl,rfl,rfl,q,h1,h2,λ_ _ _ e=>by cases e⟩
 |Bu e te kp=>
  obtain ⟨_,h⟩:=h
  cases a<;>simp only [] at h<;>first|(cases h;done)|skip
  obtain ⟨q,h1,h2⟩:=Agc _ h.1;exact ⟨_,Ad.2 rfl,rfl,rfl,q,h1,h2,λ_ _ _ e=>by cases e⟩
theorem JL {io:Bool} {k:Nat} {c:CK} {a:AC} {t:Nat×Loc} (h:t∈Rf io k c a):(t.1=Ee io k/\t.2.reads=false)\/(t.1=Ee false k/\t.2.reads=true):=by
 cases c<;>cases a<;>simp [Rf,views] at h<;>first|(obtain ⟨_,_,rfl⟩:=h;simp [Loc.reads];done)|(obtain ⟨_,⟨_,_⟩,rfl⟩:=h;simp [Loc.reads];done)|(rw [h];simp [Loc.reads])
theorem vJ {st:St} (h:Nw X w π st.heap) {V:List Nat} : ∀(cs:List (Bool×CK)) (k:Nat) (as:List AC) (us:List Value) (x:Ins.den cs) (tks:List (Nat×Loc)),k+cs.length<100000->Nx X w π st.heap as us->gu st k cs as=some (x,tks)->(∀t∈tks,t.2.reads=true->t.2.Xu∈V)->
  tks=Mu k cs as/\ ∃πc:Pi,rJ X w π V st.heap πc k cs x as us/\(∀l,πc l≠none-> ∃b j,k<=j/\j<k+cs.length/\l=Ee b j)/\(∀l,Av (a9 k cs x) l=none->πc l=none)/\
   (∀c r b,πc c=some r->r.Cw b-> ∃t∈Mu k cs as,t.1=c/\t.2.reads=false/\ ∃q,π t.2.Xu=some q/\q.Cw b/\ ∀l i j,t.2= .sub l i j->b≠q.g)
 | [],k,[],[],x,tks,_,_,he,_=>by
  simp only [gu,Aa,Af] at he
  exact ⟨he.2.symm,λ_=>none,trivial,λl h=>absurd rfl h,λ_ _=>rfl,λc r b h=>by cases h⟩
 | [],k,[],_::_,_,_,_,h,_,_=>h.elim
 | [],k,_::_,_,_,_,_,_,he,_=>by simp [gu] at he
 |p::r,k,[],_,_,_,_,_,he,_=>by simp [gu] at he
 |p::r,k,a::as,[],_,_,_,h,_,_=>h.elim
 |p::r,k,a::as,u::us,x,tks,hk,hr,he,hV=>by
  simp only [gu] at he
  split at he
  ·rename_i x1 t1 x2 t2 h1 h2
   simp only [Aa,Af] at he
   obtain ⟨rfl,rfl⟩:=he
   simp only [Ay] at hk
   obtain ⟨e2,πc,g1,g2,g3,g4⟩:=vJ h r (k+1) as us x2 t2 (by omega) hr.2 h2 λt ht=>hV t (Ck _ ht)
   have e1:=XG h1
   obtain ⟨rr,r1,r2⟩:=XF h hr.1 h1 λt ht=>hV t (Bi _ ht)
   refine ⟨by simp only [Mu];rw [e1,e2],λl=>if l=Ee p.1 k then rr else πc l,⟨by simpa using ⟨r1,r2⟩,g1.congr r (k+1) x2 as us λb j j1 j2=>Ai (TB (by omega) (by omega) (by omega))⟩,λl hl=>?_,λl hl=>?_,λc q b hc hb=>?_⟩
   ·by_cases e:l=Ee p.1 k
    ·exact ⟨p.1,k,Aq _,by simp,e⟩
    ·dsimp only at hl
     rw [Ai e] at hl
     obtain ⟨b,j,j1,j2,j3⟩:=g2 l hl
     exact ⟨b,j,by omega,by simp;omega,j3⟩
   ·simp only [a9] at hl
    dsimp only
    by_cases e:l=Ee p.1 k
    ·rw [Ab e]
     cases hc:p.2 with
     |Hw τ=>
      revert r2
      generalize p.2=c at*
      subst hc
      intro r2;exact r2
     |row e' te=>
      exfalso
      generalize p.2=c at*
      subst hc
      simp only [kU,iU,Av,Ab e.symm] at hl
      cases hl
     |Iu e' te=>
      exfalso
      generalize p.2=c at*
      subst hc
      simp only [kU,iU,Av,Ab e.symm] at hl
      cases hl
     |part e' te=>
      exfalso
      generalize p.2=c at*
      subst hc
      simp only [kU,iU,Av,Ab e.symm] at hl
      cases hl
     |Bu e' te kp=>
      exfalso
      generalize p.2=c at*
      subst hc
      simp only [kU,iU,Av,Ab e.symm] at hl
      cases hl
    ·rw [Ai e]
     refine g3 l ?_
     cases hc:kU (Ee p.1 k) p.2 x1 with
     |none=>rw [hc] at hl;exact hl
     |some b=>rw [hc] at hl;simp only [iU,Av,Ai (Hv e)] at hl;exact hl
   ·dsimp only at hc
    by_cases e:c=Ee p.1 k
    ·rw [Ab e] at hc
     obtain ⟨t,t1,t0,t2⟩:=r2.Cw k hc hb
     exact ⟨t,by simp only [Mu];exact Bi _ t1,by rw [t0,e],t2⟩
    ·rw [Ai e] at hc
     obtain ⟨t,t1,t2⟩:=g4 c q b hc hb
     exact ⟨t,by simp only [Mu];exact Ck _ t1,t2⟩
  ·cases he
end
end Go.Proofs.YtkkdpknjohcekaaGreat
