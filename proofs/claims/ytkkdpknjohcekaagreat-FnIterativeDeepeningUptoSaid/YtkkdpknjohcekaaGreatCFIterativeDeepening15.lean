/-
  Part 16 of the proof that the statement FnIterativeDeepening holds.
-/
import Derived.Test.YtkkdpknjohcekaaGreatCFIterativeDeepening14
namespace Go.Proofs.YtkkdpknjohcekaaGreat
open Go.RowKit
section
variable {P:Program} {T:Tab} {X:Ctx} {w w':World} {π π':Pi} {H H':List (Nat×OB)}
def Nk (X:Ctx) (w:World) (π:Pi) (H:List (Nat×OB)):List AC->List Value->Prop
 | [],[]=>True
 |a::as,u::us=>Ia X w π H a u/\Nk X w π H as us
 |_,_=>False
theorem Nk.append {as bs:List AC} {us vs:List Value} (h1:Nk X w π H as us) (h2:Nk X w π H bs vs):Nk X w π H (as++bs) (us++vs):=by
 induction as generalizing us with
 |nil=>cases us with
  |nil=>exact h2
  |cons u us=>exact h1.elim
 |cons a as ih=>cases us with
  |nil=>exact h1.elim
  |cons u us=>exact ⟨h1.1,ih h1.2⟩
theorem Nk.of: ∀ {cs:List AC} {us:List Value},Gb X w π H cs us->Nk X w π H cs us
 | [],[],_=>trivial
 | [],u::us,h=>by have:=h.1;simp at this
 |c::cs,[],h=>by have:=h.1;simp at this
 |c::cs,u::us,h=>by
  obtain ⟨u',h1,_,h2⟩:=h.2 0 c rfl
  simp at h1;subst h1
  exact ⟨h2,Nk.of ⟨by have:=h.1;simpa using this,λi c' hc=>by
   obtain ⟨u',h3,h4⟩:=h.2 (i+1) c' (by simpa using hc)
   exact ⟨u',by simpa using h3,h4⟩⟩⟩
theorem Nk.to: ∀ {cs:List AC} {us:List Value},Nk X w π H cs us->(∀u∈us,u.oneCell'=true)->Gb X w π H cs us
 | [],[],_,_=>⟨rfl,λi c hc=>by simp at hc⟩
 | [],u::us,h,_=>h.elim
 |c::cs,[],h,_=>h.elim
 |c::cs,u::us,h,ho=>by
  have ih:=Nk.to h.2 λv hv=>ho v (Ao _ hv)
  refine ⟨by simp [ih.1],λi c' hc=>?_⟩
  rcases i with _|i
  ·simp at hc;subst hc;exact ⟨u,rfl,ho u (by simp),h.1⟩
  ·obtain ⟨u',h3,h4⟩:=ih.2 i c' (by simpa using hc)
   exact ⟨u',by simpa using h3,h4⟩
theorem Nk.take: ∀ {cs:List AC} {us:List Value} (n:Nat),Nk X w π H cs us->Nk X w π H (cs.take n) (us.take n)/\Nk X w π H (cs.drop n) (us.drop n)
 |cs,us,0,h=>by simpa [Nk] using h
 | [],[],n+1,_=>by simp [Nk]
 | [],u::us,n+1,h=>h.elim
 |c::cs,[],n+1,h=>h.elim
 |c::cs,u::us,n+1,h=>by
  have:=Nk.take n h.2
  exact ⟨⟨h.1,this.1⟩,this.2⟩
theorem ah: ∀(sh:List (Option Nat)) (mO:List AV) (vs:List Value) (as:List AC),mO.length=vs.length->(∀(i:Nat) c v,mO[i]?=some c->vs[i]?=some v->Bm X w π H c v)->ungroup sh mO=some as->
  ∃us,vs=Ll sh us/\cV sh us/\Nk X w π H as us
 | [],[],vs,as,hl,_,he=>by
  simp only [ungroup,Aa] at he;subst he
  have:vs= []:=Ch hl.symm
  subst this
  exact ⟨[],rfl,trivial,trivial⟩
 |none::sh, .at a::mO,vs,as,hl,hr,he=>by
  simp only [ungroup] at he
  cases hu:ungroup sh mO with
  |none=>rw [hu] at he;cases he
  |some r=>
   rw [hu] at he
   simp only [Ak,Aa] at he;subst he
   cases vs with
   |nil=>simp at hl
   |cons v vs=>
    obtain ⟨us,h1,h2,h3⟩:=ah sh mO vs r (by simpa using hl) (λi c v hc hv=>hr (i+1) c v (by simpa using hc) (by simpa using hv)) hu
    exact ⟨v::us,by rw [h1];rfl,h2,hr 0 _ v rfl rfl,h3⟩
 |some n::sh, .agg cs::mO,vs,as,hl,hr,he=>by
  simp only [ungroup] at he
  split at he
  ·rename_i hn
   cases hu:ungroup sh mO with
   |none=>rw [hu] at he;cases he
   |some r=>
    rw [hu] at he
    simp only [Ak,Aa] at he;subst he
    cases vs with
    |nil=>simp at hl
    |cons v vs=>
     obtain ⟨us,h1,h2,h3⟩:=ah sh mO vs r (by simpa using hl) (λi c v hc hv=>hr (i+1) c v (by simpa using hc) (by simpa using hv)) hu
     obtain ⟨ws,rfl,h4⟩:=hr 0 _ v rfl rfl
     have WE:ws.length=n:=by rw [<-hn];exact h4.1
     refine ⟨ws++us,?_,⟨by simp [WE],?_,?_⟩,(Nk.of h4).append h3⟩
     ·rw [h1];simp only [Ll];rw [List.take_left' WE,List.drop_left' WE]
     ·rw [List.take_left' WE]
      intro u hu
      obtain ⟨j,hj,rfl⟩:=Nw hu
      obtain ⟨u',h5,h6,_⟩:=h4.2 j (cs[j]'(by have:=h4.1;omega)) (Ac _)
      rw [Ac hj] at h5
      simp only [Aa] at h5
      rw [h5];exact h6
     ·rw [List.drop_left' WE];exact h2
  ·cases he
 |some n::sh, .at (.data fr τ x)::mO,vs,as,hl,hr,he=>by
  simp only [ungroup] at he
  split at he
  ·rename_i hn
   cases hu:ungroup sh mO with
   |none=>rw [hu] at he;cases he
   |some r=>
    rw [hu] at he
    simp only [Ak,Aa] at he;subst he
    cases vs with
    |nil=>simp at hl
    |cons v vs=>
     obtain ⟨us,h1,h2,h3⟩:=ah sh mO vs r (by simpa using hl) (λi c v hc hv=>hr (i+1) c v (by simpa using hc) (by simpa using hv)) hu
     obtain ⟨ws,h0,hv⟩:=hr 0 _ v rfl rfl
     have h4:=pZ (X:=X) (H:=H) τ ws x h0
     have hv:v= .agg ws.toArray:=by rw [hv];unfold By;rw [Ab hn.1]
     subst hv
     have WE:ws.length=n:=by rw [<-hn.2];exact h4.1
     refine ⟨ws++us,?_,⟨by simp [WE],?_,?_⟩,(Nk.of h4).append h3⟩
     ·rw [h1];simp only [Ll];rw [List.take_left' WE,List.drop_left' WE]
     ·rw [List.take_left' WE]
      intro u hu
      obtain ⟨j,hj,rfl⟩:=Nw hu
      obtain ⟨u',h5,h6,_⟩:=h4.2 j ((Ta fr τ x)[j]'(by have:=h4.1;omega)) (Ac _)
      rw [Ac hj] at h5
      simp only [Aa] at h5
      rw [h5];exact h6
     ·rw [List.drop_left' WE];exact h2
  ·cases he
 | [],_::_,_,_,_,_,he=>by simp [ungroup] at he
 |none::_,[],_,_,_,_,he=>by simp [ungroup] at he
 |none::_, .agg _::_,_,_,_,_,he=>by simp [ungroup] at he
 |none::_, .bw _ _ _::_,_,_,_,_,he=>by simp [ungroup] at he
 |none::_, .Nd _::_,_,_,_,_,he=>by simp [ungroup] at he
 |some _::_,[],_,_,_,_,he=>by simp [ungroup] at he
 |some _::_, .at .undef::_,_,_,_,_,he=>by simp [ungroup] at he
 |some _::_, .at .skip::_,_,_,_,_,he=>by simp [ungroup] at he
 |some _::_, .at .Mo::_,_,_,_,_,he=>by simp [ungroup] at he
 |some _::_, .at .Vw::_,_,_,_,_,he=>by simp [ungroup] at he
 |some _::_, .at (.own _ _ _)::_,_,_,_,_,he=>by simp [ungroup] at he
 |some _::_, .at (.Hs _ _)::_,_,_,_,_,he=>by simp [ungroup] at he
 |some _::_, .at (.Ku _ _)::_,_,_,_,_,he=>by simp [ungroup] at he
 |some _::_, .at (.sub _ _ _)::_,_,_,_,_,he=>by simp [ungroup] at he
 |some _::_, .at (.Kr _ _ _)::_,_,_,_,_,he=>by simp [ungroup] at he
 |some _::_, .at (.clo _ _)::_,_,_,_,_,he=>by simp [ungroup] at he
 |some _::_, .at (.Lb _)::_,_,_,_,_,he=>by simp [ungroup] at he
 |some _::_, .bw _ _ _::_,_,_,_,_,he=>by simp [ungroup] at he
 |some _::_, .Nd _::_,_,_,_,_,he=>by simp [ungroup] at he
theorem ec: ∀(sh:List (Option Nat)) (as:List AC) (us:List Value),cV sh us->Nk X w π H as us->
  (Tp sh as).length=(Ll sh us).length/\(∀(i:Nat) c v,(Tp sh as)[i]?=some c->(Ll sh us)[i]?=some v->Bm X w π H c v)/\
  (au sh as).length=(Ll sh us).length/\(∀(i:Nat) p v,(au sh as)[i]?=some p->(Ll sh us)[i]?=some v->eS X w π H p v)
 | [],[],[],_,_=>⟨rfl,λi c v hc=>by simp [Tp] at hc,rfl,λi c v hc=>by simp [au] at hc⟩
 | [],_::_,[],_,h=>h.elim
 |none::_,_,[],h,_=>h.elim
 | [],_,_::_,h,_=>h.elim
 |none::sh,[],u::us,_,h=>h.elim
 |none::sh,a::as,u::us,hs,h=>by
  obtain ⟨h1,h2,h3,h4⟩:=ec sh as us hs h.2
  refine ⟨by simp [Tp,Ll,h1],λi c v hc hv=>?_,by simp [au,Ll,h3],λi p v hp hv=>?_⟩
  ·rcases i with _|i
   ·simp [Tp,Ll] at hc hv;subst hc;subst hv;exact h.1
   ·exact h2 i c v (by simpa [Tp] using hc) (by simpa [Ll] using hv)
  ·rcases i with _|i
   ·simp [au,Ll] at hp hv;subst hp;subst hv
    unfold eS
    rw [Ai (by simp)]
    intro a' ha;simp at ha;subst ha;exact h.1
   ·exact h4 i p v (by simpa [au] using hp) (by simpa [Ll] using hv)
 |some n::sh,as,us,hs,h=>by
  obtain ⟨iR,rj,hs3⟩:=hs
  obtain ⟨k1,k2⟩:=Nk.take n h
  obtain ⟨h1,h2,h3,h4⟩:=ec sh (as.drop n) (us.drop n) hs3 k2
  have k3:=Nk.to k1 rj
  refine ⟨by simp [Tp,Ll,h1],λi c v hc hv=>?_,by simp [au,Ll,h3],λi p v hp hv=>?_⟩
  ·rcases i with _|i
   ·simp only [Tp,Ll,Bq,Aa] at hc hv;subst hc;subst hv;exact ⟨_,rfl,k3⟩
   ·exact h2 i c v (by simpa [Tp] using hc) (by simpa [Ll] using hv)
  ·rcases i with _|i
   ·simp only [au,Ll,Bq,Aa] at hp hv;subst hp;subst hv
    unfold eS
    rw [Ab rfl]
    exact ⟨_,rfl,k3⟩
   ·exact h4 i p v (by simpa [au] using hp) (by simpa [Ll] using hv)
def Qx (io:Bool) (k:Nat):CK->AC->List (Nat×Loc)
 | .Eh _, .own l _ _=> [(Dv false k, .view l)]
 | .Eh _, .clo _ Ec=>views k (Ec.map (·.1))
 | .Eh _, .Hs l _=>views k [l]
 | .Eh _, .sub l _ _=> [(Dv false k, .view l)]
 | .Eh _,_=> []
 |_, .own l _ _=> [(Dv io k, .row l)]
 |_, .sub l i c=> [(Dv io k, .sub l i c)]
 |_,_=> []
def Mh:Nat->List (Bool×CK)->List AC->List (Nat×Loc)
 |k,p::r,a::as=>Qx p.1 k p.2 a++Mh (k+1) r as
 |_,_,_=> []
theorem UX {st:St} {io:Bool} {k:Nat} {c:CK} {a:AC} {x:c.den} {tks:List (Nat×Loc)} (he:Mr st io k c a=some (x,tks)):tks=Qx io k c a:=by
 cases c with
 |Eh τ=>
  cases a with
  |own l off len=>
   simp only [Mr] at he
   cases hv:Dn st τ (.own l off len) with
   |none=>rw [hv] at he;cases he
   |some p=>rw [hv] at he;simp only [Ak,Aa,Ae] at he;exact he.2.symm
  |clo g Ec=>
   simp only [Mr] at he
   split at he
   ·cases hv:Ko st τ (.clo g Ec) with
    |none=>rw [hv] at he;cases he
    |some p=>rw [hv] at he;simp only [Ak,Aa,Ae] at he;exact he.2.symm
   ·cases he
  |Hs l i=>
   simp only [Mr] at he
   split at he
   ·cases hv:Ko st τ (.Hs l i) with
    |none=>rw [hv] at he;cases he
    |some p=>rw [hv] at he;simp only [Ak,Aa,Ae] at he;exact he.2.symm
   ·cases he
  |sub l i c=>
   simp only [Mr] at he
   cases hv:Dn st τ (.sub l i c) with
   |none=>rw [hv] at he;cases he
   |some p=>rw [hv] at he;simp only [Ak,Aa,Ae] at he;exact he.2.symm
  |_=>
   simp only [Mr] at he
   split at he
   ·first
     |(rename_i hc;cases hv:Dn st τ _ with
      |none=>rw [hv] at he;cases he
      |some p=>rw [hv] at he;simp only [Ak,Aa,Ae] at he;exact he.2.symm)
   ·cases he
 |row e te=>
  cases a<;>simp only [Mr] at he<;>try (cases he;done)
  ·simp only [Aa,Ae] at he;exact he.2.symm
  ·split at he
   ·split at he
    ·simp only [Aa,Ae] at he;exact he.2.symm
    ·cases he
   ·cases he
  ·rename_i l i c
   split at he
   ·rename_i e' tid xs hl
    split at he
    ·cases hx:xs[i]? with
     |none=>rw [hx] at he;cases he
     |some y=>rw [hx] at he;simp only [Ak,Aa,Ae] at he;exact he.2.symm
    ·cases he
   ·cases he
 |Ij e te=>
  cases a<;>simp only [Mr] at he<;>try (cases he;done)
  ·simp only [Aa,Ae] at he;exact he.2.symm
  ·split at he
   ·split at he
    ·simp only [Aa,Ae] at he;exact he.2.symm
    ·cases he
   ·cases he
  ·rename_i l i c
   split at he
   ·rename_i e' tid xs hl
    split at he
    ·cases hx:xs[i]? with
     |none=>rw [hx] at he;cases he
     |some y=>rw [hx] at he;simp only [Ak,Aa,Ae] at he;exact he.2.symm
    ·cases he
   ·cases he
 |part e te=>
  cases a<;>simp only [Mr] at he<;>try (cases he;done)
  split at he
  ·split at he
   ·simp only [Aa,Ae] at he;exact he.2.symm
   ·cases he
  ·cases he
 |Bn e te kp=>
  cases a<;>simp only [Mr] at he<;>try (cases he;done)
  split at he
  ·split at he
   ·simp only [Aa,Ae] at he;exact he.2.symm
   ·cases he
  ·cases he
theorem aB.Jr {D D':Nat->Prop} {r:Option Real} {e:Ty} {rows:List (List e.den)} (h:aB w D r e rows none) (hD: ∀b,D' b->D b):aB w D' r e rows none:=
 h.Ft (λ_ _ _ _ _=>rfl) λes x hc=>Cells.Ft (Ap _) (λ_ _ _=>rfl) (λb _ hb=>hD b hb) e es x hc
def qU (X:Ctx) (w:World) (π:Pi) (V:List Nat) (H:List (Nat×OB)) (πc:Pi):(k:Nat)->(cs:List (Bool×CK))->Ins.den cs->List AC->List Value->Prop
 |_,[],_,[],[]=>True
 |k,p::r,x,a::as,u::us=>(eP w (Pb X π V) (πc (Dv p.1 k)) u p.2 x.1/\Ud w π H p.1 a u (πc (Dv p.1 k)) p.2 x.1)/\qU X w π V H πc (k+1) r x.2 as us
 |_,_,_,_,_=>False
theorem QH {b b':Bool} {k j:Nat} (hk:k<100000) (hj:j<100000) (h:k≠j):Dv b k≠Dv b' j:=by
 unfold Dv;cases b<;>cases b'<;>simp<;>omega
theorem qU.congr {V:List Nat} {πc Aoh:Pi} : ∀(cs:List (Bool×CK)) (k:Nat) (x:Ins.den cs) (as:List AC) (us:List Value),(∀b j,k<=j->j<k+cs.length->Aoh (Dv b j)=πc (Dv b j))->qU X w π V H πc k cs x as us->qU X w π V H Aoh k cs x as us
 | [],_,_,[],[],_,h=>h
 | [],_,_,_::_,_,_,h=>h.elim
 | [],_,_,[],_::_,_,h=>h.elim
 |_::_,_,_,[],_,_,h=>h.elim
 |_::_,_,_,_::_,[],_,h=>h.elim
 |p::r,k,x,a::as,u::us,hc,h=>⟨by rw [hc p.1 k (Ap _) (by simp)];exact h.1,qU.congr r (k+1) x.2 as us (λb j h1 h2=>hc b j (by omega) (by simp;omega)) h.2⟩
theorem qU.Amv {V:List Nat} {πc:Pi} : ∀(cs:List (Bool×CK)) (k:Nat) (x:Ins.den cs) (as:List AC) (us:List Value),qU X w π V H πc k cs x as us->eR w (Pb X π V) πc k cs x us
 | [],_,_,[],[],h=>h
 | [],_,_,_::_,_,h=>h.elim
 | [],_,_,[],_::_,h=>h.elim
 |_p::_r,_k,_x,[],_,h=>h.elim
 |_p::_r,_k,_x,_::_,[],h=>h.elim
 |_p::r,k,x,_a::as,_u::us,h=>⟨h.1.1,qU.Amv r (k+1) x.2 as us h.2⟩
theorem Tl.Jr {D D':Nat->Prop} {r:Option Real} {e:Ty} {xs:List e.den} (h:Tl w D r e xs) (hD: ∀b,D' b->D b):Tl w D' r e xs:=by
 cases r with
 |none=>exact h
 |some r=>
  obtain ⟨k1,cu,ti,k2,k3,k4,k5,k6⟩:=h
  exact ⟨k1,cu,ti,k2,k3,k4,k5,λi y hy=>by
   obtain ⟨es,g1,g2,g3⟩:=k6 i y hy
   exact ⟨es,g1,g2,Cells.Ft (Ap _) (λ_ _ _=>rfl) (λb _ hb=>hD b hb) e es y g3⟩⟩
theorem eR.Jr {D D':Nat->Prop} {πc:Pi} (hD: ∀b,D' b->D b): ∀(cs:List (Bool×CK)) (k:Nat) (x:Ins.den cs) (us:List Value),eR w D πc k cs x us->eR w D' πc k cs x us
 | [],_,_,[],h=>h
 | [],_,_,_::_,h=>h.elim
 |p::r,k,x,[],h=>h.elim
 |(io,c)::r,k,x,u::us,h=>⟨by
   have:=h.1
   cases c with
   |Eh τ=>exact ⟨this.1,this.2.Jr λb _ hb=>hD b hb⟩
   |row e te=>exact ⟨this.1,this.2.Jr hD⟩
   |Ij e te=>exact this
   |Bn e te kp=>exact ⟨this.1,aB.Jr this.2 hD⟩
   |part e te=>exact ⟨this.1,this.2.1,this.2.2.Jr hD⟩,eR.Jr hD r (k+1) x.2 us h.2⟩
theorem Ud.Cq {io:Bool} {a:AC} {u:Value} {r:Option Real} {c:CK} {x:c.den} (k:Nat) (h:Ud w π H io a u r c x) {r':Real} (hr:r=some r') {b:Nat} (hb:r'.Cq b):
  ∃t,t∈Qx io k c a/\t.1=Dv io k/\t.2.reads=false/\ ∃q,π t.2.Xg=some q/\q.Cq b/\ ∀l i j,t.2= .sub l i j->b≠q.g:=by
 subst hr
 have Aea: ∀l,some r'=(π l).map full-> ∃q,π l=some q/\q.Cq b:=by
  intro l hl
  cases hp:π l with
  |none=>rw [hp] at hl;cases hl
  |some q=>rw [hp] at hl;simp only [Ak,Aa] at hl;subst hl;exact ⟨q,rfl,hb⟩
 cases c with
 |Eh τ=>cases h
 |row e te=>
  simp only [Ud] at h
  cases a<;>simp only [] at h<;>first|(cases h;done)|skip
  ·obtain ⟨q,h1,h2⟩:=Aea _ h.1;exact ⟨_,Ad.2 rfl,rfl,rfl,q,h1,h2,λ_ _ _ e=>by cases e⟩
  ·obtain ⟨_,tid,xs,_,_,q,h1,h2,_⟩:=h
   exact ⟨_,Ad.2 rfl,rfl,rfl,q,h1,(h2 r' rfl b hb).1,λ_ _ _ _=>(h2 r' rfl b hb).2⟩
 |Ij e te=>
  simp only [Ud] at h
  cases a<;>simp only [] at h<;>first|(cases h;done)|skip
  ·obtain ⟨q,h1,h2⟩:=Aea _ h.1;exact ⟨_,Ad.2 rfl,rfl,rfl,q,h1,h2,λ_ _ _ e=>by cases e⟩
  ·obtain ⟨_,tid,xs,_,_,q,h1,h2,_⟩:=h
   exact ⟨_,Ad.2 rfl,rfl,rfl,q,h1,(h2 r' rfl b hb).1,λ_ _ _ _=>(h2 r' rfl b hb).2⟩
 |part e te=>
  obtain ⟨_,h⟩:=h
  cases a<;>simp only [] at h<;>first|(cases h;done)|skip
  obtain ⟨q,h1,h2⟩:=Aea _ h.1;exact ⟨_,Ad.2 rfl,rfl,rfl,q,h1,h2,λ_ _ _ e=>by cases e⟩
 |Bn e te kp=>
  obtain ⟨_,h⟩:=h
  cases a<;>simp only [] at h<;>first|(cases h;done)|skip
  obtain ⟨q,h1,h2⟩:=Aea _ h.1;exact ⟨_,Ad.2 rfl,rfl,rfl,q,h1,h2,λ_ _ _ e=>by cases e⟩
theorem GZ {io:Bool} {k:Nat} {c:CK} {a:AC} {t:Nat×Loc} (h:t∈Qx io k c a):(t.1=Dv io k/\t.2.reads=false)\/(t.1=Dv false k/\t.2.reads=true):=by
 cases c<;>cases a<;>simp [Qx,views] at h<;>first|(obtain ⟨_,_,rfl⟩:=h;simp [Loc.reads];done)|(obtain ⟨_,⟨_,_⟩,rfl⟩:=h;simp [Loc.reads];done)|(rw [h];simp [Loc.reads])
theorem uV {st:St} (h:Nj X w π st.heap) {V:List Nat} : ∀(cs:List (Bool×CK)) (k:Nat) (as:List AC) (us:List Value) (x:Ins.den cs) (tks:List (Nat×Loc)),k+cs.length<100000->Nk X w π st.heap as us->fZ st k cs as=some (x,tks)->(∀t∈tks,t.2.reads=true->t.2.Xg∈V)->
  tks=Mh k cs as/\ ∃πc:Pi,qU X w π V st.heap πc k cs x as us/\(∀l,πc l≠none-> ∃b j,k<=j/\j<k+cs.length/\l=Dv b j)/\(∀l,Av (Zv k cs x) l=none->πc l=none)/\
   (∀c r b,πc c=some r->r.Cq b-> ∃t∈Mh k cs as,t.1=c/\t.2.reads=false/\ ∃q,π t.2.Xg=some q/\q.Cq b/\ ∀l i j,t.2= .sub l i j->b≠q.g)
 | [],k,[],[],x,tks,_,_,he,_=>by
  simp only [fZ,Aa,Ae] at he
  exact ⟨he.2.symm,λ_=>none,trivial,λl h=>absurd rfl h,λ_ _=>rfl,λc r b h=>by cases h⟩
 | [],k,[],_::_,_,_,_,h,_,_=>h.elim
 | [],k,_::_,_,_,_,_,_,he,_=>by simp [fZ] at he
 |p::r,k,[],_,_,_,_,_,he,_=>by simp [fZ] at he
 |p::r,k,a::as,[],_,_,_,h,_,_=>h.elim
 |p::r,k,a::as,u::us,x,tks,hk,hr,he,hV=>by
  simp only [fZ] at he
  split at he
  ·rename_i x1 t1 x2 t2 h1 h2
   simp only [Aa,Ae] at he
   obtain ⟨rfl,rfl⟩:=he
   simp only [Aw] at hk
   obtain ⟨e2,πc,g1,g2,g3,g4⟩:=uV h r (k+1) as us x2 t2 (by omega) hr.2 h2 λt ht=>hV t (Cf _ ht)
   have e1:=UX h1
   obtain ⟨rr,r1,r2⟩:=UW h hr.1 h1 λt ht=>hV t (Bk _ ht)
   refine ⟨by simp only [Mh];rw [e1,e2],λl=>if l=Dv p.1 k then rr else πc l,⟨by simpa using ⟨r1,r2⟩,g1.congr r (k+1) x2 as us λb j j1 j2=>Ai (QH (by omega) (by omega) (by omega))⟩,λl hl=>?_,λl hl=>?_,λc q b hc hb=>?_⟩
   ·by_cases e:l=Dv p.1 k
    ·exact ⟨p.1,k,Ap _,by simp,e⟩
    ·dsimp only at hl
     rw [Ai e] at hl
     obtain ⟨b,j,j1,j2,j3⟩:=g2 l hl
     exact ⟨b,j,by omega,by simp;omega,j3⟩
   ·simp only [Zv] at hl
    dsimp only
    by_cases e:l=Dv p.1 k
    ·rw [Ab e]
     cases hc:p.2 with
     |Eh τ=>
      revert r2
      generalize p.2=c at*
      subst hc
      intro r2;exact r2
     |row e' te=>
      exfalso
      generalize p.2=c at*
      subst hc
      simp only [ko,iy,Av,Ab e.symm] at hl
      cases hl
     |Ij e' te=>
      exfalso
      generalize p.2=c at*
      subst hc
      simp only [ko,iy,Av,Ab e.symm] at hl
      cases hl
     |part e' te=>
      exfalso
      generalize p.2=c at*
      subst hc
      simp only [ko,iy,Av,Ab e.symm] at hl
      cases hl
     |Bn e' te kp=>
      exfalso
      generalize p.2=c at*
      subst hc
      simp only [ko,iy,Av,Ab e.symm] at hl
      cases hl
    ·rw [Ai e]
     refine g3 l ?_
     cases hc:ko (Dv p.1 k) p.2 x1 with
     |none=>rw [hc] at hl;exact hl
     |some b=>rw [hc] at hl;simp only [iy,Av,Ai (Hr e)] at hl;exact hl
   ·dsimp only at hc
    by_cases e:c=Dv p.1 k
    ·rw [Ab e] at hc
     obtain ⟨t,t1,t0,t2⟩:=r2.Cq k hc hb
     exact ⟨t,by simp only [Mh];exact Bk _ t1,by rw [t0,e],t2⟩
    ·rw [Ai e] at hc
     obtain ⟨t,t1,t2⟩:=g4 c q b hc hb
     exact ⟨t,by simp only [Mh];exact Cf _ t1,t2⟩
  ·cases he
end
end Go.Proofs.YtkkdpknjohcekaaGreat
