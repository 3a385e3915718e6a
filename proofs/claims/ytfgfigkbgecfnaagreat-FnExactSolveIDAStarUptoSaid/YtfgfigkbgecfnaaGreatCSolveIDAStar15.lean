/-
  Part 16 of the proof that the statement FnExactSolveIDAStar holds.
-/
import Derived.Test.YtfgfigkbgecfnaaGreatCSolveIDAStar14
namespace Go.Proofs.YtfgfigkbgecfnaaGreat
open Go.RowKit
section
variable {P:Program} {T:Tab} {X:Ctx} {w w':World} {π π':Pi} {H H':List (Nat×OB)}
def Km (X:Ctx) (w:World) (π:Pi) (H:List (Nat×OB)):List AC->List Value->Prop
 | [],[]=>True
 |a::as,u::us=>Hk X w π H a u/\Km X w π H as us
 |_,_=>False
theorem Km.append {as bs:List AC} {us vs:List Value} (h1:Km X w π H as us) (h2:Km X w π H bs vs):Km X w π H (as++bs) (us++vs):=by
 induction as generalizing us with
 |nil=>cases us with
  |nil=>exact h2
  |cons u us=>exact h1.elim
 |cons a as ih=>cases us with
  |nil=>exact h1.elim
  |cons u us=>exact ⟨h1.1,ih h1.2⟩
theorem Km.of: ∀ {cs:List AC} {us:List Value},Fv X w π H cs us->Km X w π H cs us
 | [],[],_=>trivial
 | [],u::us,h=>by have:=h.1;simp at this
 |c::cs,[],h=>by have:=h.1;simp at this
 |c::cs,u::us,h=>by
  obtain ⟨u',h1,_,h2⟩:=h.2 0 c rfl
  simp at h1;subst h1
  exact ⟨h2,Km.of ⟨by have:=h.1;simpa using this,λi c' hc=>by
   obtain ⟨u',h3,h4⟩:=h.2 (i+1) c' (by simpa using hc)
   exact ⟨u',by simpa using h3,h4⟩⟩⟩
theorem Km.to: ∀ {cs:List AC} {us:List Value},Km X w π H cs us->(∀u∈us,u.oneCell'=true)->Fv X w π H cs us
 | [],[],_,_=>⟨rfl,λi c hc=>by simp at hc⟩
 | [],u::us,h,_=>h.elim
 |c::cs,[],h,_=>h.elim
 |c::cs,u::us,h,ho=>by
  have ih:=Km.to h.2 λv hv=>ho v (Ar _ hv)
  refine ⟨by simp [ih.1],λi c' hc=>?_⟩
  rcases i with _|i
  ·simp at hc;subst hc;exact ⟨u,rfl,ho u (by simp),h.1⟩
  ·obtain ⟨u',h3,h4⟩:=ih.2 i c' (by simpa using hc)
   exact ⟨u',by simpa using h3,h4⟩
theorem Km.take: ∀ {cs:List AC} {us:List Value} (n:Nat),Km X w π H cs us->Km X w π H (cs.take n) (us.take n)/\Km X w π H (cs.drop n) (us.drop n)
 |cs,us,0,h=>by simpa [Km] using h
 | [],[],n+1,_=>by simp [Km]
 | [],u::us,n+1,h=>h.elim
 |c::cs,[],n+1,h=>h.elim
 |c::cs,u::us,n+1,h=>by
  have:=Km.take n h.2
  exact ⟨⟨h.1,this.1⟩,this.2⟩
theorem Km.hd (s:MSpec) {cs:List AC} {us:List Value} (h:Km X w π H cs us):Km X w π H (s.hd cs) (s.hd us):=by
 unfold MSpec.hd
 split
 ·exact h
 ·exact (Km.take _ h).1
theorem Wm: ∀(sh:List (Option Nat)) (nW:List AV) (vs:List Value) (as:List AC),nW.length=vs.length->(∀(i:Nat) c v,nW[i]?=some c->vs[i]?=some v->Bs X w π H c v)->ungroup sh nW=some as->
  ∃us,vs=Ki sh us/\bO sh us/\Km X w π H as us
 | [],[],vs,as,hl,_,he=>by
  simp only [ungroup,Aa] at he;subst he
  have:vs= []:=Cn hl.symm
  subst this
  exact ⟨[],rfl,trivial,trivial⟩
 |none::sh, .at a::nW,vs,as,hl,hr,he=>by
  simp only [ungroup] at he
  cases hu:ungroup sh nW with
  |none=>rw [hu] at he;cases he
  |some r=>
   rw [hu] at he
   simp only [Am,Aa] at he;subst he
   cases vs with
   |nil=>simp at hl
   |cons v vs=>
    obtain ⟨us,h1,h2,h3⟩:=Wm sh nW vs r (by simpa using hl) (λi c v hc hv=>hr (i+1) c v (by simpa using hc) (by simpa using hv)) hu
    exact ⟨v::us,by rw [h1];rfl,h2,hr 0 _ v rfl rfl,h3⟩
 |some n::sh, .agg cs::nW,vs,as,hl,hr,he=>by
  simp only [ungroup] at he
  split at he
  ·rename_i hn
   cases hu:ungroup sh nW with
   |none=>rw [hu] at he;cases he
   |some r=>
    rw [hu] at he
    simp only [Am,Aa] at he;subst he
    cases vs with
    |nil=>simp at hl
    |cons v vs=>
     obtain ⟨us,h1,h2,h3⟩:=Wm sh nW vs r (by simpa using hl) (λi c v hc hv=>hr (i+1) c v (by simpa using hc) (by simpa using hv)) hu
     obtain ⟨ws,rfl,h4⟩:=hr 0 _ v rfl rfl
     have XZ:ws.length=n:=by rw [<-hn];exact h4.1
     refine ⟨ws++us,?_,⟨by simp [XZ],?_,?_⟩,(Km.of h4).append h3⟩
     ·rw [h1];simp only [Ki];rw [List.take_left' XZ,List.drop_left' XZ]
     ·rw [List.take_left' XZ]
      intro u hu
      obtain ⟨j,hj,rfl⟩:=Ry hu
      obtain ⟨u',h5,h6,_⟩:=h4.2 j (cs[j]'(by have:=h4.1;omega)) (Ac _)
      rw [Ac hj] at h5
      simp only [Aa] at h5
      rw [h5];exact h6
     ·rw [List.drop_left' XZ];exact h2
  ·cases he
 |some n::sh, .at (.data fr τ x)::nW,vs,as,hl,hr,he=>by
  simp only [ungroup] at he
  split at he
  ·rename_i hn
   cases hu:ungroup sh nW with
   |none=>rw [hu] at he;cases he
   |some r=>
    rw [hu] at he
    simp only [Am,Aa] at he;subst he
    cases vs with
    |nil=>simp at hl
    |cons v vs=>
     obtain ⟨us,h1,h2,h3⟩:=Wm sh nW vs r (by simpa using hl) (λi c v hc hv=>hr (i+1) c v (by simpa using hc) (by simpa using hv)) hu
     obtain ⟨ws,h0,hv⟩:=hr 0 _ v rfl rfl
     have h4:=rO (X:=X) (H:=H) τ ws x h0
     have hv:v= .agg ws.toArray:=by rw [hv];unfold Cf;rw [Ab hn.1]
     subst hv
     have XZ:ws.length=n:=by rw [<-hn.2];exact h4.1
     refine ⟨ws++us,?_,⟨by simp [XZ],?_,?_⟩,(Km.of h4).append h3⟩
     ·rw [h1];simp only [Ki];rw [List.take_left' XZ,List.drop_left' XZ]
     ·rw [List.take_left' XZ]
      intro u hu
      obtain ⟨j,hj,rfl⟩:=Ry hu
      obtain ⟨u',h5,h6,_⟩:=h4.2 j ((Tc fr τ x)[j]'(by have:=h4.1;omega)) (Ac _)
      rw [Ac hj] at h5
      simp only [Aa] at h5
      rw [h5];exact h6
     ·rw [List.drop_left' XZ];exact h2
  ·cases he
 | [],_::_,_,_,_,_,he=>by simp [ungroup] at he
 |none::_,[],_,_,_,_,he=>by simp [ungroup] at he
 |none::_, .agg _::_,_,_,_,_,he=>by simp [ungroup] at he
 |none::_, .cf _ _ _::_,_,_,_,_,he=>by simp [ungroup] at he
 |none::_, .Mn _::_,_,_,_,_,he=>by simp [ungroup] at he
 |some _::_,[],_,_,_,_,he=>by simp [ungroup] at he
 |some _::_, .at .undef::_,_,_,_,_,he=>by simp [ungroup] at he
 |some _::_, .at .skip::_,_,_,_,_,he=>by simp [ungroup] at he
 |some _::_, .at .Lm::_,_,_,_,_,he=>by simp [ungroup] at he
 |some _::_, .at .Vo::_,_,_,_,_,he=>by simp [ungroup] at he
 |some _::_, .at (.own _ _ _)::_,_,_,_,_,he=>by simp [ungroup] at he
 |some _::_, .at (.Gy _ _)::_,_,_,_,_,he=>by simp [ungroup] at he
 |some _::_, .at (.Kh _ _)::_,_,_,_,_,he=>by simp [ungroup] at he
 |some _::_, .at (.sub _ _ _)::_,_,_,_,_,he=>by simp [ungroup] at he
 |some _::_, .at (.Kd _ _ _)::_,_,_,_,_,he=>by simp [ungroup] at he
 |some _::_, .at (.clo _ _)::_,_,_,_,_,he=>by simp [ungroup] at he
 |some _::_, .at (.Kr _)::_,_,_,_,_,he=>by simp [ungroup] at he
 |some _::_, .cf _ _ _::_,_,_,_,_,he=>by simp [ungroup] at he
 |some _::_, .Mn _::_,_,_,_,_,he=>by simp [ungroup] at he
theorem bU: ∀(sh:List (Option Nat)) (as:List AC) (us:List Value),bO sh us->Km X w π H as us->
  (Tw sh as).length=(Ki sh us).length/\(∀(i:Nat) c v,(Tw sh as)[i]?=some c->(Ki sh us)[i]?=some v->Bs X w π H c v)/\
  (Xi sh as).length=(Ki sh us).length/\(∀(i:Nat) p v,(Xi sh as)[i]?=some p->(Ki sh us)[i]?=some v->di X w π H p v)
 | [],[],[],_,_=>⟨rfl,λi c v hc=>by simp [Tw] at hc,rfl,λi c v hc=>by simp [Xi] at hc⟩
 | [],_::_,[],_,h=>h.elim
 |none::_,_,[],h,_=>h.elim
 | [],_,_::_,h,_=>h.elim
 |none::sh,[],u::us,_,h=>h.elim
 |none::sh,a::as,u::us,hs,h=>by
  obtain ⟨h1,h2,h3,h4⟩:=bU sh as us hs h.2
  refine ⟨by simp [Tw,Ki,h1],λi c v hc hv=>?_,by simp [Xi,Ki,h3],λi p v hp hv=>?_⟩
  ·rcases i with _|i
   ·simp [Tw,Ki] at hc hv;subst hc;subst hv;exact h.1
   ·exact h2 i c v (by simpa [Tw] using hc) (by simpa [Ki] using hv)
  ·rcases i with _|i
   ·simp [Xi,Ki] at hp hv;subst hp;subst hv
    unfold di
    rw [Ag (by simp)]
    intro a' ha;simp at ha;subst ha;exact h.1
   ·exact h4 i p v (by simpa [Xi] using hp) (by simpa [Ki] using hv)
 |some n::sh,as,us,hs,h=>by
  obtain ⟨eY,lJ,hs3⟩:=hs
  obtain ⟨k1,k2⟩:=Km.take n h
  obtain ⟨h1,h2,h3,h4⟩:=bU sh (as.drop n) (us.drop n) hs3 k2
  have k3:=Km.to k1 lJ
  refine ⟨by simp [Tw,Ki,h1],λi c v hc hv=>?_,by simp [Xi,Ki,h3],λi p v hp hv=>?_⟩
  ·rcases i with _|i
   ·simp only [Tw,Ki,Ca,Aa] at hc hv;subst hc;subst hv;exact ⟨_,rfl,k3⟩
   ·exact h2 i c v (by simpa [Tw] using hc) (by simpa [Ki] using hv)
  ·rcases i with _|i
   ·simp only [Xi,Ki,Ca,Aa] at hp hv;subst hp;subst hv
    unfold di
    rw [Ab rfl]
    exact ⟨_,rfl,k3⟩
   ·exact h4 i p v (by simpa [Xi] using hp) (by simpa [Ki] using hv)
def Ra (io:Bool) (k:Nat):CK->AC->List (Nat×Loc)
 | .Em _, .own l _ _=> [(Dt false k, .view l)]
 | .Em _, .clo _ Eg=>views k (Eg.map (·.1))
 | .Em _, .Gy l _=>views k [l]
 | .Em _, .sub l _ _=> [(Dt false k, .view l)]
 | .Em _,_=> []
 |_, .own l _ _=> [(Dt io k, .row l)]
 |_, .sub l i c=> [(Dt io k, .sub l i c)]
 |_,_=> []
def Ly:Nat->List (Bool×CK)->List AC->List (Nat×Loc)
 |k,p::r,a::as=>Ra p.1 k p.2 a++Ly (k+1) r as
 |_,_,_=> []
theorem Aab {st:St} {io:Bool} {k:Nat} {c:CK} {a:AC} {x:c.den} {tks:List (Nat×Loc)} (he:Mi st io k c a=some (x,tks)):tks=Ra io k c a:=by
 cases c with
 |Em τ=>
  cases a with
  |own l off len=>
   simp only [Mi] at he
   cases hv:Dv st τ (.own l off len) with
   |none=>rw [hv] at he;cases he
   |some p=>rw [hv] at he;simp only [Am,Aa,Ae] at he;exact he.2.symm
  |clo g Eg=>
   simp only [Mi] at he
   split at he
   ·cases hv:Jz st τ (.clo g Eg) with
    |none=>rw [hv] at he;cases he
    |some p=>rw [hv] at he;simp only [Am,Aa,Ae] at he;exact he.2.symm
   ·cases he
  |Gy l i=>
   simp only [Mi] at he
   split at he
   ·cases hv:Jz st τ (.Gy l i) with
    |none=>rw [hv] at he;cases he
    |some p=>rw [hv] at he;simp only [Am,Aa,Ae] at he;exact he.2.symm
   ·cases he
  |sub l i c=>
   simp only [Mi] at he
   cases hv:Dv st τ (.sub l i c) with
   |none=>rw [hv] at he;cases he
   |some p=>rw [hv] at he;simp only [Am,Aa,Ae] at he;exact he.2.symm
  |_=>
   simp only [Mi] at he
   split at he
   ·first
     |(rename_i hc;cases hv:Dv st τ _ with
      |none=>rw [hv] at he;cases he
      |some p=>rw [hv] at he;simp only [Am,Aa,Ae] at he;exact he.2.symm)
   ·cases he
 |row e te=>
  cases a<;>simp only [Mi] at he<;>try (cases he;done)
  ·simp only [Aa,Ae] at he;exact he.2.symm
  ·split at he
   ·split at he
    ·simp only [Aa,Ae] at he;exact he.2.symm
    ·cases he
   ·cases he
  ·rename_i l i c
   split at he
   ·rename_i e' tid xs hl
    split at he
    ·cases hx:xs[i]? with
     |none=>rw [hx] at he;cases he
     |some y=>rw [hx] at he;simp only [Am,Aa,Ae] at he;exact he.2.symm
    ·cases he
   ·cases he
 |Hp e te=>
  cases a<;>simp only [Mi] at he<;>try (cases he;done)
  ·simp only [Aa,Ae] at he;exact he.2.symm
  ·split at he
   ·split at he
    ·simp only [Aa,Ae] at he;exact he.2.symm
    ·cases he
   ·cases he
  ·rename_i l i c
   split at he
   ·rename_i e' tid xs hl
    split at he
    ·cases hx:xs[i]? with
     |none=>rw [hx] at he;cases he
     |some y=>rw [hx] at he;simp only [Am,Aa,Ae] at he;exact he.2.symm
    ·cases he
   ·cases he
 |part e te=>
  cases a<;>simp only [Mi] at he<;>try (cases he;done)
  split at he
  ·split at he
   ·simp only [Aa,Ae] at he;exact he.2.symm
   ·cases he
  ·cases he
 |Bp e te kp=>
  cases a<;>simp only [Mi] at he<;>try (cases he;done)
  split at he
  ·split at he
   ·simp only [Aa,Ae] at he;exact he.2.symm
   ·cases he
  ·cases he
theorem bd.Iv {D D':Nat->Prop} {r:Option Real} {e:Ty} {rows:List (List e.den)} (h:bd w D r e rows none) (hD: ∀b,D' b->D b):bd w D' r e rows none:=
 h.Fg (λ_ _ _ _ _=>rfl) λes x hc=>Cells.Fg (Ao _) (λ_ _ _=>rfl) (λb _ hb=>hD b hb) e es x hc
def sP (X:Ctx) (w:World) (π:Pi) (V:List Nat) (H:List (Nat×OB)) (πc:Pi):(k:Nat)->(cs:List (Bool×CK))->Ins.den cs->List AC->List Value->Prop
 |_,[],_,[],[]=>True
 |k,p::r,x,a::as,u::us=>(fI w (Pb X π V) (πc (Dt p.1 k)) u p.2 x.1/\Un w π H p.1 a u (πc (Dt p.1 k)) p.2 x.1)/\sP X w π V H πc (k+1) r x.2 as us
 |_,_,_,_,_=>False
theorem WC {b b':Bool} {k j:Nat} (hk:k<100000) (hj:j<100000) (h:k≠j):Dt b k≠Dt b' j:=by
 unfold Dt;cases b<;>cases b'<;>simp<;>omega
theorem sP.congr {V:List Nat} {πc At0:Pi} : ∀(cs:List (Bool×CK)) (k:Nat) (x:Ins.den cs) (as:List AC) (us:List Value),(∀b j,k<=j->j<k+cs.length->At0 (Dt b j)=πc (Dt b j))->sP X w π V H πc k cs x as us->sP X w π V H At0 k cs x as us
 | [],_,_,[],[],_,h=>h
 | [],_,_,_::_,_,_,h=>h.elim
 | [],_,_,[],_::_,_,h=>h.elim
 |_::_,_,_,[],_,_,h=>h.elim
 |_::_,_,_,_::_,[],_,h=>h.elim
 |p::r,k,x,a::as,u::us,hc,h=>⟨by rw [hc p.1 k (Ao _) (by simp)];exact h.1,sP.congr r (k+1) x.2 as us (λb j h1 h2=>hc b j (by omega) (by simp;omega)) h.2⟩
theorem sP.Ark {V:List Nat} {πc:Pi} : ∀(cs:List (Bool×CK)) (k:Nat) (x:Ins.den cs) (as:List AC) (us:List Value),sP X w π V H πc k cs x as us->fK w (Pb X π V) πc k cs x us
 | [],_,_,[],[],h=>h
 | [],_,_,_::_,_,h=>h.elim
 | [],_,_,[],_::_,h=>h.elim
 |_p::_r,_k,_x,[],_,h=>h.elim
 |_p::_r,_k,_x,_::_,[],h=>h.elim
 |_p::r,k,x,_a::as,_u::us,h=>⟨h.1.1,sP.Ark r (k+1) x.2 as us h.2⟩
theorem Ts.Iv {D D':Nat->Prop} {r:Option Real} {e:Ty} {xs:List e.den} (h:Ts w D r e xs) (hD: ∀b,D' b->D b):Ts w D' r e xs:=by
 cases r with
 |none=>exact h
 |some r=>
  obtain ⟨k1,cu,ti,k2,k3,k4,k5,k6⟩:=h
  exact ⟨k1,cu,ti,k2,k3,k4,k5,λi y hy=>by
   obtain ⟨es,g1,g2,g3⟩:=k6 i y hy
   exact ⟨es,g1,g2,Cells.Fg (Ao _) (λ_ _ _=>rfl) (λb _ hb=>hD b hb) e es y g3⟩⟩
theorem fK.Iv {D D':Nat->Prop} {πc:Pi} (hD: ∀b,D' b->D b): ∀(cs:List (Bool×CK)) (k:Nat) (x:Ins.den cs) (us:List Value),fK w D πc k cs x us->fK w D' πc k cs x us
 | [],_,_,[],h=>h
 | [],_,_,_::_,h=>h.elim
 |p::r,k,x,[],h=>h.elim
 |(io,c)::r,k,x,u::us,h=>⟨by
   have:=h.1
   cases c with
   |Em τ=>exact ⟨this.1,this.2.Iv λb _ hb=>hD b hb⟩
   |row e te=>exact ⟨this.1,this.2.Iv hD⟩
   |Hp e te=>exact this
   |Bp e te kp=>exact ⟨this.1,bd.Iv this.2 hD⟩
   |part e te=>exact ⟨this.1,this.2.1,this.2.2.Iv hD⟩,fK.Iv hD r (k+1) x.2 us h.2⟩
theorem Un.Cx {io:Bool} {a:AC} {u:Value} {r:Option Real} {c:CK} {x:c.den} (k:Nat) (h:Un w π H io a u r c x) {r':Real} (hr:r=some r') {b:Nat} (hb:r'.Cx b):
  ∃t,t∈Ra io k c a/\t.1=Dt io k/\t.2.reads=false/\ ∃q,π t.2.Xy=some q/\q.Cx b/\ ∀l i j,t.2= .sub l i j->b≠q.g:=by
 subst hr
 have Aie: ∀l,some r'=(π l).map full-> ∃q,π l=some q/\q.Cx b:=by
  intro l hl
  cases hp:π l with
  |none=>rw [hp] at hl;cases hl
  |some q=>rw [hp] at hl;simp only [Am,Aa] at hl;subst hl;exact ⟨q,rfl,hb⟩
 cases c with
 |Em τ=>cases h
 |row e te=>
  simp only [Un] at h
  cases a<;>simp only [] at h<;>first|(cases h;done)|skip
  ·obtain ⟨q,h1,h2⟩:=Aie _ h.1;exact ⟨_,Ad.2 rfl,rfl,rfl,q,h1,h2,λ_ _ _ e=>by cases e⟩
  ·obtain ⟨_,tid,xs,_,_,q,h1,h2,_⟩:=h
   exact ⟨_,Ad.2 rfl,rfl,rfl,q,h1,(h2 r' rfl b hb).1,λ_ _ _ _=>(h2 r' rfl b hb).2⟩
 |Hp e te=>
  simp only [Un] at h
  cases a<;>simp only [] at h<;>first|(cases h;done)|skip
  ·obtain ⟨q,h1,h2⟩:=Aie _ h.1;exact ⟨_,Ad.2 rfl,rfl,rfl,q,h1,h2,λ_ _ _ e=>by cases e⟩
  ·obtain ⟨_,tid,xs,_,_,q,h1,h2,_⟩:=h
   exact ⟨_,Ad.2 rfl,rfl,rfl,q,h1,(h2 r' rfl b hb).1,λ_ _ _ _=>(h2 r' rfl b hb).2⟩
 |part e te=>
  obtain ⟨_,h⟩:=h
  cases a<;>simp only [] at h<;>first|(cases h;done)|skip
  obtain ⟨q,h1,h2⟩:=Aie _ h.1;exact ⟨_,Ad.2 rfl,rfl,rfl,q,h1,h2,λ_ _ _ e=>by cases e⟩
 |Bp e te kp=>
  obtain ⟨_,h⟩:=h
  cases a<;>simp only [] at h<;>first|(cases h;done)|skip
  obtain ⟨q,h1,h2⟩:=Aie _ h.1;exact ⟨_,Ad.2 rfl,rfl,rfl,q,h1,h2,λ_ _ _ e=>by cases e⟩
theorem MS {io:Bool} {k:Nat} {c:CK} {a:AC} {t:Nat×Loc} (h:t∈Ra io k c a):(t.1=Dt io k/\t.2.reads=false)\/(t.1=Dt false k/\t.2.reads=true):=by
 cases c<;>cases a<;>simp [Ra,views] at h<;>first|(obtain ⟨_,_,rfl⟩:=h;simp [Loc.reads];done)|(obtain ⟨_,⟨_,_⟩,rfl⟩:=h;simp [Loc.reads];done)|(rw [h];simp [Loc.reads])
theorem xm {st:St} (h:Nf X w π st.heap) {V:List Nat} : ∀(cs:List (Bool×CK)) (k:Nat) (as:List AC) (us:List Value) (x:Ins.den cs) (tks:List (Nat×Loc)),k+cs.length<100000->Km X w π st.heap as us->gU st k cs as=some (x,tks)->(∀t∈tks,t.2.reads=true->t.2.Xy∈V)->
  tks=Ly k cs as/\ ∃πc:Pi,sP X w π V st.heap πc k cs x as us/\(∀l,πc l≠none-> ∃b j,k<=j/\j<k+cs.length/\l=Dt b j)/\(∀l,Au (aE k cs x) l=none->πc l=none)/\
   (∀c r b,πc c=some r->r.Cx b-> ∃t∈Ly k cs as,t.1=c/\t.2.reads=false/\ ∃q,π t.2.Xy=some q/\q.Cx b/\ ∀l i j,t.2= .sub l i j->b≠q.g)
 | [],k,[],[],x,tks,_,_,he,_=>by
  simp only [gU,Aa,Ae] at he
  exact ⟨he.2.symm,λ_=>none,trivial,λl h=>absurd rfl h,λ_ _=>rfl,λc r b h=>by cases h⟩
 | [],k,[],_::_,_,_,_,h,_,_=>h.elim
 | [],k,_::_,_,_,_,_,_,he,_=>by simp [gU] at he
 |p::r,k,[],_,_,_,_,_,he,_=>by simp [gU] at he
 |p::r,k,a::as,[],_,_,_,h,_,_=>h.elim
 |p::r,k,a::as,u::us,x,tks,hk,hr,he,hV=>by
  simp only [gU] at he
  split at he
  ·rename_i x1 t1 x2 t2 h1 h2
   simp only [Aa,Ae] at he
   obtain ⟨rfl,rfl⟩:=he
   simp only [Aw] at hk
   obtain ⟨e2,πc,g1,g2,g3,g4⟩:=xm h r (k+1) as us x2 t2 (by omega) hr.2 h2 λt ht=>hV t (Bx _ ht)
   have e1:=Aab h1
   obtain ⟨rr,r1,r2⟩:=Aaa h hr.1 h1 λt ht=>hV t (Bd _ ht)
   refine ⟨by simp only [Ly];rw [e1,e2],λl=>if l=Dt p.1 k then rr else πc l,⟨by simpa using ⟨r1,r2⟩,g1.congr r (k+1) x2 as us λb j j1 j2=>Ag (WC (by omega) (by omega) (by omega))⟩,λl hl=>?_,λl hl=>?_,λc q b hc hb=>?_⟩
   ·by_cases e:l=Dt p.1 k
    ·exact ⟨p.1,k,Ao _,by simp,e⟩
    ·dsimp only at hl
     rw [Ag e] at hl
     obtain ⟨b,j,j1,j2,j3⟩:=g2 l hl
     exact ⟨b,j,by omega,by simp;omega,j3⟩
   ·simp only [aE] at hl
    dsimp only
    by_cases e:l=Dt p.1 k
    ·rw [Ab e]
     cases hc:p.2 with
     |Em τ=>
      revert r2
      generalize p.2=c at*
      subst hc
      intro r2;exact r2
     |row e' te=>
      exfalso
      generalize p.2=c at*
      subst hc
      simp only [lE,jh,Au,Ab e.symm] at hl
      cases hl
     |Hp e' te=>
      exfalso
      generalize p.2=c at*
      subst hc
      simp only [lE,jh,Au,Ab e.symm] at hl
      cases hl
     |part e' te=>
      exfalso
      generalize p.2=c at*
      subst hc
      simp only [lE,jh,Au,Ab e.symm] at hl
      cases hl
     |Bp e' te kp=>
      exfalso
      generalize p.2=c at*
      subst hc
      simp only [lE,jh,Au,Ab e.symm] at hl
      cases hl
    ·rw [Ag e]
     refine g3 l ?_
     cases hc:lE (Dt p.1 k) p.2 x1 with
     |none=>rw [hc] at hl;exact hl
     |some b=>rw [hc] at hl;simp only [jh,Au,Ag (Gl e)] at hl;exact hl
   ·dsimp only at hc
    by_cases e:c=Dt p.1 k
    ·rw [Ab e] at hc
     obtain ⟨t,t1,t0,t2⟩:=r2.Cx k hc hb
     exact ⟨t,by simp only [Ly];exact Bd _ t1,by rw [t0,e],t2⟩
    ·rw [Ag e] at hc
     obtain ⟨t,t1,t2⟩:=g4 c q b hc hb
     exact ⟨t,by simp only [Ly];exact Bx _ t1,t2⟩
  ·cases he
end
end Go.Proofs.YtfgfigkbgecfnaaGreat
