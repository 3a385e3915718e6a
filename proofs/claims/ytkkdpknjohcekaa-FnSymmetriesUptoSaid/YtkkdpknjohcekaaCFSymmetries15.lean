/-
  Part 16 of the proof that the statement FnSymmetries holds.
-/
import Derived.Test.YtkkdpknjohcekaaCFSymmetries14
namespace Go.Proofs.Ytkkdpknjohcekaa
open Go.RowKit
section
variable {P:Program} {T:Tab} {X:Ctx} {w w':World} {π π':Pi} {H H':List (Nat×OB)}
def Mn (X:Ctx) (w:World) (π:Pi) (H:List (Nat×OB)):List AC->List Value->Prop
 | [],[]=>True
 |a::as,u::us=>Gy X w π H a u/\Mn X w π H as us
 |_,_=>False
theorem Mn.append {as bs:List AC} {us vs:List Value} (h1:Mn X w π H as us) (h2:Mn X w π H bs vs):Mn X w π H (as++bs) (us++vs):=by
 induction as generalizing us with
 |nil=>cases us with
  |nil=>exact h2
  |cons u us=>exact h1.elim
 |cons a as ih=>cases us with
  |nil=>exact h1.elim
  |cons u us=>exact ⟨h1.1,ih h1.2⟩
theorem Mn.of: ∀ {cs:List AC} {us:List Value},Fc X w π H cs us->Mn X w π H cs us
 | [],[],_=>trivial
 | [],u::us,h=>by have:=h.1;simp at this
 |c::cs,[],h=>by have:=h.1;simp at this
 |c::cs,u::us,h=>by
  obtain ⟨u',h1,_,h2⟩:=h.2 0 c rfl
  simp at h1;subst h1
  exact ⟨h2,Mn.of ⟨by have:=h.1;simpa using this,λi c' hc=>by
   obtain ⟨u',h3,h4⟩:=h.2 (i+1) c' (by simpa using hc)
   exact ⟨u',by simpa using h3,h4⟩⟩⟩
theorem Mn.to: ∀ {cs:List AC} {us:List Value},Mn X w π H cs us->(∀u∈us,u.oneCell'=true)->Fc X w π H cs us
 | [],[],_,_=>⟨rfl,λi c hc=>by simp at hc⟩
 | [],u::us,h,_=>h.elim
 |c::cs,[],h,_=>h.elim
 |c::cs,u::us,h,ho=>by
  have ih:=Mn.to h.2 λv hv=>ho v (Am _ hv)
  refine ⟨by simp [ih.1],λi c' hc=>?_⟩
  rcases i with _|i
  ·simp at hc;subst hc;exact ⟨u,rfl,ho u (by simp),h.1⟩
  ·obtain ⟨u',h3,h4⟩:=ih.2 i c' (by simpa using hc)
   exact ⟨u',by simpa using h3,h4⟩
theorem Mn.take: ∀ {cs:List AC} {us:List Value} (n:Nat),Mn X w π H cs us->Mn X w π H (cs.take n) (us.take n)/\Mn X w π H (cs.drop n) (us.drop n)
 |cs,us,0,h=>by simpa [Mn] using h
 | [],[],n+1,_=>by simp [Mn]
 | [],u::us,n+1,h=>h.elim
 |c::cs,[],n+1,h=>h.elim
 |c::cs,u::us,n+1,h=>by
  have:=Mn.take n h.2
  exact ⟨⟨h.1,this.1⟩,this.2⟩
theorem Yk: ∀(sh:List (Option Nat)) (ky:List AV) (vs:List Value) (as:List AC),ky.length=vs.length->(∀(i:Nat) c v,ky[i]?=some c->vs[i]?=some v->Bf X w π H c v)->ungroup sh ky=some as->
  ∃us,vs=Ko sh us/\bx sh us/\Mn X w π H as us
 | [],[],vs,as,hl,_,he=>by
  simp only [ungroup,Aa] at he;subst he
  have:vs= []:=Dd hl.symm
  subst this
  exact ⟨[],rfl,trivial,trivial⟩
 |none::sh, .at a::ky,vs,as,hl,hr,he=>by
  simp only [ungroup] at he
  cases hu:ungroup sh ky with
  |none=>rw [hu] at he;cases he
  |some r=>
   rw [hu] at he
   simp only [Ah,Aa] at he;subst he
   cases vs with
   |nil=>simp at hl
   |cons v vs=>
    obtain ⟨us,h1,h2,h3⟩:=Yk sh ky vs r (by simpa using hl) (λi c v hc hv=>hr (i+1) c v (by simpa using hc) (by simpa using hv)) hu
    exact ⟨v::us,by rw [h1];rfl,h2,hr 0 _ v rfl rfl,h3⟩
 |some n::sh, .agg cs::ky,vs,as,hl,hr,he=>by
  simp only [ungroup] at he
  split at he
  ·rename_i hn
   cases hu:ungroup sh ky with
   |none=>rw [hu] at he;cases he
   |some r=>
    rw [hu] at he
    simp only [Ah,Aa] at he;subst he
    cases vs with
    |nil=>simp at hl
    |cons v vs=>
     obtain ⟨us,h1,h2,h3⟩:=Yk sh ky vs r (by simpa using hl) (λi c v hc hv=>hr (i+1) c v (by simpa using hc) (by simpa using hv)) hu
     obtain ⟨ws,rfl,h4⟩:=hr 0 _ v rfl rfl
     have OZ:ws.length=n:=by rw [<-hn];exact h4.1
     refine ⟨ws++us,?_,⟨by simp [OZ],?_,?_⟩,(Mn.of h4).append h3⟩
     ·rw [h1];simp only [Ko];rw [List.take_left' OZ,List.drop_left' OZ]
     ·rw [List.take_left' OZ]
      intro u hu
      obtain ⟨j,hj,rfl⟩:=Mw hu
      obtain ⟨u',h5,h6,_⟩:=h4.2 j (cs[j]'(by have:=h4.1;omega)) (Ac _)
      rw [Ac hj] at h5
      simp only [Aa] at h5
      rw [h5];exact h6
     ·rw [List.drop_left' OZ];exact h2
  ·cases he
 |some n::sh, .at (.data fr τ x)::ky,vs,as,hl,hr,he=>by
  simp only [ungroup] at he
  split at he
  ·rename_i hn
   cases hu:ungroup sh ky with
   |none=>rw [hu] at he;cases he
   |some r=>
    rw [hu] at he
    simp only [Ah,Aa] at he;subst he
    cases vs with
    |nil=>simp at hl
    |cons v vs=>
     obtain ⟨us,h1,h2,h3⟩:=Yk sh ky vs r (by simpa using hl) (λi c v hc hv=>hr (i+1) c v (by simpa using hc) (by simpa using hv)) hu
     obtain ⟨ws,h0,hv⟩:=hr 0 _ v rfl rfl
     have h4:=nB (X:=X) (H:=H) τ ws x h0
     have hv:v= .agg ws.toArray:=by rw [hv];unfold Bs;rw [Ab hn.1]
     subst hv
     have OZ:ws.length=n:=by rw [<-hn.2];exact h4.1
     refine ⟨ws++us,?_,⟨by simp [OZ],?_,?_⟩,(Mn.of h4).append h3⟩
     ·rw [h1];simp only [Ko];rw [List.take_left' OZ,List.drop_left' OZ]
     ·rw [List.take_left' OZ]
      intro u hu
      obtain ⟨j,hj,rfl⟩:=Mw hu
      obtain ⟨u',h5,h6,_⟩:=h4.2 j ((Rj fr τ x)[j]'(by have:=h4.1;omega)) (Ac _)
      rw [Ac hj] at h5
      simp only [Aa] at h5
      rw [h5];exact h6
     ·rw [List.drop_left' OZ];exact h2
  ·cases he
 | [],_::_,_,_,_,_,he=>by simp [ungroup] at he
 |none::_,[],_,_,_,_,he=>by simp [ungroup] at he
 |none::_, .agg _::_,_,_,_,_,he=>by simp [ungroup] at he
 |none::_, .aa _ _ _::_,_,_,_,_,he=>by simp [ungroup] at he
 |none::_, .Mh _::_,_,_,_,_,he=>by simp [ungroup] at he
 |some _::_,[],_,_,_,_,he=>by simp [ungroup] at he
 |some _::_, .at .undef::_,_,_,_,_,he=>by simp [ungroup] at he
 |some _::_, .at .skip::_,_,_,_,_,he=>by simp [ungroup] at he
 |some _::_, .at .Lo::_,_,_,_,_,he=>by simp [ungroup] at he
 |some _::_, .at .Uk::_,_,_,_,_,he=>by simp [ungroup] at he
 |some _::_, .at (.own _ _ _)::_,_,_,_,_,he=>by simp [ungroup] at he
 |some _::_, .at (.Gr _ _)::_,_,_,_,_,he=>by simp [ungroup] at he
 |some _::_, .at (.Jp _ _)::_,_,_,_,_,he=>by simp [ungroup] at he
 |some _::_, .at (.sub _ _ _)::_,_,_,_,_,he=>by simp [ungroup] at he
 |some _::_, .at (.Jn _ _ _)::_,_,_,_,_,he=>by simp [ungroup] at he
 |some _::_, .at (.clo _ _)::_,_,_,_,_,he=>by simp [ungroup] at he
 |some _::_, .at (.Ka _)::_,_,_,_,_,he=>by simp [ungroup] at he
 |some _::_, .aa _ _ _::_,_,_,_,_,he=>by simp [ungroup] at he
 |some _::_, .Mh _::_,_,_,_,_,he=>by simp [ungroup] at he
theorem cr: ∀(sh:List (Option Nat)) (as:List AC) (us:List Value),bx sh us->Mn X w π H as us->
  (Sa sh as).length=(Ko sh us).length/\(∀(i:Nat) c v,(Sa sh as)[i]?=some c->(Ko sh us)[i]?=some v->Bf X w π H c v)/\
  (Yq sh as).length=(Ko sh us).length/\(∀(i:Nat) p v,(Yq sh as)[i]?=some p->(Ko sh us)[i]?=some v->cW X w π H p v)
 | [],[],[],_,_=>⟨rfl,λi c v hc=>by simp [Sa] at hc,rfl,λi c v hc=>by simp [Yq] at hc⟩
 | [],_::_,[],_,h=>h.elim
 |none::_,_,[],h,_=>h.elim
 | [],_,_::_,h,_=>h.elim
 |none::sh,[],u::us,_,h=>h.elim
 |none::sh,a::as,u::us,hs,h=>by
  obtain ⟨h1,h2,h3,h4⟩:=cr sh as us hs h.2
  refine ⟨by simp [Sa,Ko,h1],λi c v hc hv=>?_,by simp [Yq,Ko,h3],λi p v hp hv=>?_⟩
  ·rcases i with _|i
   ·simp [Sa,Ko] at hc hv;subst hc;subst hv;exact h.1
   ·exact h2 i c v (by simpa [Sa] using hc) (by simpa [Ko] using hv)
  ·rcases i with _|i
   ·simp [Yq,Ko] at hp hv;subst hp;subst hv
    unfold cW
    rw [Ai (by simp)]
    intro a' ha;simp at ha;subst ha;exact h.1
   ·exact h4 i p v (by simpa [Yq] using hp) (by simpa [Ko] using hv)
 |some n::sh,as,us,hs,h=>by
  obtain ⟨jI,rK,hs3⟩:=hs
  obtain ⟨k1,k2⟩:=Mn.take n h
  obtain ⟨h1,h2,h3,h4⟩:=cr sh (as.drop n) (us.drop n) hs3 k2
  have k3:=Mn.to k1 rK
  refine ⟨by simp [Sa,Ko,h1],λi c v hc hv=>?_,by simp [Yq,Ko,h3],λi p v hp hv=>?_⟩
  ·rcases i with _|i
   ·simp only [Sa,Ko,Bl,Aa] at hc hv;subst hc;subst hv;exact ⟨_,rfl,k3⟩
   ·exact h2 i c v (by simpa [Sa] using hc) (by simpa [Ko] using hv)
  ·rcases i with _|i
   ·simp only [Yq,Ko,Bl,Aa] at hp hv;subst hp;subst hv
    unfold cW
    rw [Ab rfl]
    exact ⟨_,rfl,k3⟩
   ·exact h4 i p v (by simpa [Yq] using hp) (by simpa [Ko] using hv)
def Pw (io:Bool) (k:Nat):CK->AC->List (Nat×Loc)
 | .Gb _, .own l _ _=> [(Dt false k, .view l)]
 | .Gb _, .clo _ Eb=>views k (Eb.map (·.1))
 | .Gb _, .Gr l _=>views k [l]
 | .Gb _, .sub l _ _=> [(Dt false k, .view l)]
 | .Gb _,_=> []
 |_, .own l _ _=> [(Dt io k, .row l)]
 |_, .sub l i c=> [(Dt io k, .sub l i c)]
 |_,_=> []
def Lj:Nat->List (Bool×CK)->List AC->List (Nat×Loc)
 |k,p::r,a::as=>Pw p.1 k p.2 a++Lj (k+1) r as
 |_,_,_=> []
theorem LK {st:St} {io:Bool} {k:Nat} {c:CK} {a:AC} {x:c.den} {tks:List (Nat×Loc)} (he:Lu st io k c a=some (x,tks)):tks=Pw io k c a:=by
 cases c with
 |Gb τ=>
  cases a with
  |own l off len=>
   simp only [Lu] at he
   cases hv:Dm st τ (.own l off len) with
   |none=>rw [hv] at he;cases he
   |some p=>rw [hv] at he;simp only [Ah,Aa,Ad] at he;exact he.2.symm
  |clo g Eb=>
   simp only [Lu] at he
   split at he
   ·cases hv:Jk st τ (.clo g Eb) with
    |none=>rw [hv] at he;cases he
    |some p=>rw [hv] at he;simp only [Ah,Aa,Ad] at he;exact he.2.symm
   ·cases he
  |Gr l i=>
   simp only [Lu] at he
   split at he
   ·cases hv:Jk st τ (.Gr l i) with
    |none=>rw [hv] at he;cases he
    |some p=>rw [hv] at he;simp only [Ah,Aa,Ad] at he;exact he.2.symm
   ·cases he
  |sub l i c=>
   simp only [Lu] at he
   cases hv:Dm st τ (.sub l i c) with
   |none=>rw [hv] at he;cases he
   |some p=>rw [hv] at he;simp only [Ah,Aa,Ad] at he;exact he.2.symm
  |_=>
   simp only [Lu] at he
   split at he
   ·first
     |(rename_i hc;cases hv:Dm st τ _ with
      |none=>rw [hv] at he;cases he
      |some p=>rw [hv] at he;simp only [Ah,Aa,Ad] at he;exact he.2.symm)
   ·cases he
 |row e te=>
  cases a<;>simp only [Lu] at he<;>try (cases he;done)
  ·simp only [Aa,Ad] at he;exact he.2.symm
  ·split at he
   ·split at he
    ·simp only [Aa,Ad] at he;exact he.2.symm
    ·cases he
   ·cases he
  ·rename_i l i c
   split at he
   ·rename_i e' tid xs hl
    split at he
    ·cases hx:xs[i]? with
     |none=>rw [hx] at he;cases he
     |some y=>rw [hx] at he;simp only [Ah,Aa,Ad] at he;exact he.2.symm
    ·cases he
   ·cases he
 |Ha e te=>
  cases a<;>simp only [Lu] at he<;>try (cases he;done)
  ·simp only [Aa,Ad] at he;exact he.2.symm
  ·split at he
   ·split at he
    ·simp only [Aa,Ad] at he;exact he.2.symm
    ·cases he
   ·cases he
  ·rename_i l i c
   split at he
   ·rename_i e' tid xs hl
    split at he
    ·cases hx:xs[i]? with
     |none=>rw [hx] at he;cases he
     |some y=>rw [hx] at he;simp only [Ah,Aa,Ad] at he;exact he.2.symm
    ·cases he
   ·cases he
 |part e te=>
  cases a<;>simp only [Lu] at he<;>try (cases he;done)
  split at he
  ·split at he
   ·simp only [Aa,Ad] at he;exact he.2.symm
   ·cases he
  ·cases he
 |Bj e te kp=>
  cases a<;>simp only [Lu] at he<;>try (cases he;done)
  split at he
  ·split at he
   ·simp only [Aa,Ad] at he;exact he.2.symm
   ·cases he
  ·cases he
theorem Yx.Ig {D D':Nat->Prop} {r:Option Real} {e:Ty} {rows:List (List e.den)} (h:Yx w D r e rows none) (hD: ∀b,D' b->D b):Yx w D' r e rows none:=
 h.Fw (λ_ _ _ _ _=>rfl) λes x hc=>Cells.Fw (Ar _) (λ_ _ _=>rfl) (λb _ hb=>hD b hb) e es x hc
def oe (X:Ctx) (w:World) (π:Pi) (V:List Nat) (H:List (Nat×OB)) (πc:Pi):(k:Nat)->(cs:List (Bool×CK))->Ins.den cs->List AC->List Value->Prop
 |_,[],_,[],[]=>True
 |k,p::r,x,a::as,u::us=>(cU w (Nz X π V) (πc (Dt p.1 k)) u p.2 x.1/\Sm w π H p.1 a u (πc (Dt p.1 k)) p.2 x.1)/\oe X w π V H πc (k+1) r x.2 as us
 |_,_,_,_,_=>False
theorem HO {b b':Bool} {k j:Nat} (hk:k<100000) (hj:j<100000) (h:k≠j):Dt b k≠Dt b' j:=by
 unfold Dt;cases b<;>cases b'<;>simp<;>omega
theorem oe.congr {V:List Nat} {πc Afk:Pi} : ∀(cs:List (Bool×CK)) (k:Nat) (x:Ins.den cs) (as:List AC) (us:List Value),(∀b j,k<=j->j<k+cs.length->Afk (Dt b j)=πc (Dt b j))->oe X w π V H πc k cs x as us->oe X w π V H Afk k cs x as us
 | [],_,_,[],[],_,h=>h
 | [],_,_,_::_,_,_,h=>h.elim
 | [],_,_,[],_::_,_,h=>h.elim
 |_::_,_,_,[],_,_,h=>h.elim
 |_::_,_,_,_::_,[],_,h=>h.elim
 |p::r,k,x,a::as,u::us,hc,h=>⟨by rw [hc p.1 k (Ar _) (by simp)];exact h.1,oe.congr r (k+1) x.2 as us (λb j h1 h2=>hc b j (by omega) (by simp;omega)) h.2⟩
theorem oe.Aee {V:List Nat} {πc:Pi} : ∀(cs:List (Bool×CK)) (k:Nat) (x:Ins.den cs) (as:List AC) (us:List Value),oe X w π V H πc k cs x as us->cV w (Nz X π V) πc k cs x us
 | [],_,_,[],[],h=>h
 | [],_,_,_::_,_,h=>h.elim
 | [],_,_,[],_::_,h=>h.elim
 |_p::_r,_k,_x,[],_,h=>h.elim
 |_p::_r,_k,_x,_::_,[],h=>h.elim
 |_p::r,k,x,_a::as,_u::us,h=>⟨h.1.1,oe.Aee r (k+1) x.2 as us h.2⟩
theorem Rw.Ig {D D':Nat->Prop} {r:Option Real} {e:Ty} {xs:List e.den} (h:Rw w D r e xs) (hD: ∀b,D' b->D b):Rw w D' r e xs:=by
 cases r with
 |none=>exact h
 |some r=>
  obtain ⟨k1,cu,ti,k2,k3,k4,k5,k6⟩:=h
  exact ⟨k1,cu,ti,k2,k3,k4,k5,λi y hy=>by
   obtain ⟨es,g1,g2,g3⟩:=k6 i y hy
   exact ⟨es,g1,g2,Cells.Fw (Ar _) (λ_ _ _=>rfl) (λb _ hb=>hD b hb) e es y g3⟩⟩
theorem cV.Ig {D D':Nat->Prop} {πc:Pi} (hD: ∀b,D' b->D b): ∀(cs:List (Bool×CK)) (k:Nat) (x:Ins.den cs) (us:List Value),cV w D πc k cs x us->cV w D' πc k cs x us
 | [],_,_,[],h=>h
 | [],_,_,_::_,h=>h.elim
 |p::r,k,x,[],h=>h.elim
 |(io,c)::r,k,x,u::us,h=>⟨by
   have:=h.1
   cases c with
   |Gb τ=>exact ⟨this.1,this.2.Ig λb _ hb=>hD b hb⟩
   |row e te=>exact ⟨this.1,this.2.Ig hD⟩
   |Ha e te=>exact this
   |Bj e te kp=>exact ⟨this.1,Yx.Ig this.2 hD⟩
   |part e te=>exact ⟨this.1,this.2.1,this.2.2.Ig hD⟩,cV.Ig hD r (k+1) x.2 us h.2⟩
theorem Sm.Cm {io:Bool} {a:AC} {u:Value} {r:Option Real} {c:CK} {x:c.den} (k:Nat) (h:Sm w π H io a u r c x) {r':Real} (hr:r=some r') {b:Nat} (hb:r'.Cm b):
  ∃t,t∈Pw io k c a/\t.1=Dt io k/\t.2.reads=false/\ ∃q,π t.2.Vx=some q/\q.Cm b/\ ∀l i j,t.2= .sub l i j->b≠q.g:=by
 subst hr
 have VN: ∀l,some r'=(π l).map full-> ∃q,π l=some q/\q.Cm b:=by
  intro l hl
  cases hp:π l with
  |none=>rw [hp] at hl;cases hl
  |some q=>rw [hp] at hl;simp only [Ah,Aa] at hl;subst hl;exact ⟨q,rfl,hb⟩
 cases c with
 |Gb τ=>cases h
 |row e te=>
  simp only [Sm] at h
  cases a<;>simp only [] at h<;>first|(cases h;done)|skip
  ·obtain ⟨q,h1,h2⟩:=VN _ h.1;exact ⟨_,Ae.2 rfl,rfl,rfl,q,h1,h2,λ_ _ _ e=>by cases e⟩
  ·obtain ⟨_,tid,xs,_,_,q,h1,h2,_⟩:=h
   exact ⟨_,Ae.2 rfl,rfl,rfl,q,h1,(h2 r' rfl b hb).1,λ_ _ _ _=>(h2 r' rfl b hb).2⟩
 |Ha e te=>
  simp only [Sm] at h
  cases a<;>simp only [] at h<;>first|(cases h;done)|skip
  ·obtain ⟨q,h1,h2⟩:=VN _ h.1;exact ⟨_,Ae.2 rfl,rfl,rfl,q,h1,h2,λ_ _ _ e=>by cases e⟩
  ·obtain ⟨_,tid,xs,_,_,q,h1,h2,_⟩:=h
   exact ⟨_,Ae.2 rfl,rfl,rfl,q,h1,(h2 r' rfl b hb).1,λ_ _ _ _=>(h2 r' rfl b hb).2⟩
 |part e te=>
  obtain ⟨_,h⟩:=h
  cases a<;>simp only [] at h<;>first|(cases h;done)|skip
  obtain ⟨q,h1,h2⟩:=VN _ h.1;exact ⟨_,Ae.2 rfl,rfl,rfl,q,h1,h2,λ_ _ _ e=>by cases e⟩
 |Bj e te kp=>
  obtain ⟨_,h⟩:=h
  cases a<;>simp only [] at h<;>first|(cases h;done)|skip
  obtain ⟨q,h1,h2⟩:=VN _ h.1;exact ⟨_,Ae.2 rfl,rfl,rfl,q,h1,h2,λ_ _ _ e=>by cases e⟩
theorem zY {io:Bool} {k:Nat} {c:CK} {a:AC} {t:Nat×Loc} (h:t∈Pw io k c a):(t.1=Dt io k/\t.2.reads=false)\/(t.1=Dt false k/\t.2.reads=true):=by
 cases c<;>cases a<;>simp [Pw,views] at h<;>first|(obtain ⟨_,_,rfl⟩:=h;simp [Loc.reads];done)|(obtain ⟨_,⟨_,_⟩,rfl⟩:=h;simp [Loc.reads];done)|(rw [h];simp [Loc.reads])
theorem rn {st:St} (h:Mm X w π st.heap) {V:List Nat} : ∀(cs:List (Bool×CK)) (k:Nat) (as:List AC) (us:List Value) (x:Ins.den cs) (tks:List (Nat×Loc)),k+cs.length<100000->Mn X w π st.heap as us->dY st k cs as=some (x,tks)->(∀t∈tks,t.2.reads=true->t.2.Vx∈V)->
  tks=Lj k cs as/\ ∃πc:Pi,oe X w π V st.heap πc k cs x as us/\(∀l,πc l≠none-> ∃b j,k<=j/\j<k+cs.length/\l=Dt b j)/\(∀l,As (Xz k cs x) l=none->πc l=none)/\
   (∀c r b,πc c=some r->r.Cm b-> ∃t∈Lj k cs as,t.1=c/\t.2.reads=false/\ ∃q,π t.2.Vx=some q/\q.Cm b/\ ∀l i j,t.2= .sub l i j->b≠q.g)
 | [],k,[],[],x,tks,_,_,he,_=>by
  simp only [dY,Aa,Ad] at he
  exact ⟨he.2.symm,λ_=>none,trivial,λl h=>absurd rfl h,λ_ _=>rfl,λc r b h=>by cases h⟩
 | [],k,[],_::_,_,_,_,h,_,_=>h.elim
 | [],k,_::_,_,_,_,_,_,he,_=>by simp [dY] at he
 |p::r,k,[],_,_,_,_,_,he,_=>by simp [dY] at he
 |p::r,k,a::as,[],_,_,_,h,_,_=>h.elim
 |p::r,k,a::as,u::us,x,tks,hk,hr,he,hV=>by
  simp only [dY] at he
  split at he
  ·rename_i x1 t1 x2 t2 h1 h2
   simp only [Aa,Ad] at he
   obtain ⟨rfl,rfl⟩:=he
   simp only [Bg] at hk
   obtain ⟨e2,πc,g1,g2,g3,g4⟩:=rn h r (k+1) as us x2 t2 (by omega) hr.2 h2 λt ht=>hV t (Bx _ ht)
   have e1:=LK h1
   obtain ⟨rr,r1,r2⟩:=LJ h hr.1 h1 λt ht=>hV t (Bn _ ht)
   refine ⟨by simp only [Lj];rw [e1,e2],λl=>if l=Dt p.1 k then rr else πc l,⟨by simpa using ⟨r1,r2⟩,g1.congr r (k+1) x2 as us λb j j1 j2=>Ai (HO (by omega) (by omega) (by omega))⟩,λl hl=>?_,λl hl=>?_,λc q b hc hb=>?_⟩
   ·by_cases e:l=Dt p.1 k
    ·exact ⟨p.1,k,Ar _,by simp,e⟩
    ·dsimp only at hl
     rw [Ai e] at hl
     obtain ⟨b,j,j1,j2,j3⟩:=g2 l hl
     exact ⟨b,j,by omega,by simp;omega,j3⟩
   ·simp only [Xz] at hl
    dsimp only
    by_cases e:l=Dt p.1 k
    ·rw [Ab e]
     cases hc:p.2 with
     |Gb τ=>
      revert r2
      generalize p.2=c at*
      subst hc
      intro r2;exact r2
     |row e' te=>
      exfalso
      generalize p.2=c at*
      subst hc
      simp only [iu,fy,As,Ab e.symm] at hl
      cases hl
     |Ha e' te=>
      exfalso
      generalize p.2=c at*
      subst hc
      simp only [iu,fy,As,Ab e.symm] at hl
      cases hl
     |part e' te=>
      exfalso
      generalize p.2=c at*
      subst hc
      simp only [iu,fy,As,Ab e.symm] at hl
      cases hl
     |Bj e' te kp=>
      exfalso
      generalize p.2=c at*
      subst hc
      simp only [iu,fy,As,Ab e.symm] at hl
      cases hl
    ·rw [Ai e]
     refine g3 l ?_
     cases hc:iu (Dt p.1 k) p.2 x1 with
     |none=>rw [hc] at hl;exact hl
     |some b=>rw [hc] at hl;simp only [fy,As,Ai (Gl e)] at hl;exact hl
   ·dsimp only at hc
    by_cases e:c=Dt p.1 k
    ·rw [Ab e] at hc
     obtain ⟨t,t1,t0,t2⟩:=r2.Cm k hc hb
     exact ⟨t,by simp only [Lj];exact Bn _ t1,by rw [t0,e],t2⟩
    ·rw [Ai e] at hc
     obtain ⟨t,t1,t2⟩:=g4 c q b hc hb
     exact ⟨t,by simp only [Lj];exact Bx _ t1,t2⟩
  ·cases he
end
end Go.Proofs.Ytkkdpknjohcekaa
