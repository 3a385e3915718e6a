/-
  Part 16 of the proof that the statement FnTables holds.
-/
import Derived.Test.YtkkdpknjohcekaaCFTables14
namespace Go.Proofs.Ytkkdpknjohcekaa
open Go.RowKit
section
variable {P:Program} {T:Tab} {X:Ctx} {w w':World} {π π':Pi} {H H':List (Nat×OB)}
def Mi (X:Ctx) (w:World) (π:Pi) (H:List (Nat×OB)):List AC->List Value->Prop
 | [],[]=>True
 |a::as,u::us=>Gx X w π H a u/\Mi X w π H as us
 |_,_=>False
theorem Mi.append {as bs:List AC} {us vs:List Value} (h1:Mi X w π H as us) (h2:Mi X w π H bs vs):Mi X w π H (as++bs) (us++vs):=by
 induction as generalizing us with
 |nil=>cases us with
  |nil=>exact h2
  |cons u us=>exact h1.elim
 |cons a as ih=>cases us with
  |nil=>exact h1.elim
  |cons u us=>exact ⟨h1.1,ih h1.2⟩
theorem Mi.of: ∀ {cs:List AC} {us:List Value},Fh X w π H cs us->Mi X w π H cs us
 | [],[],_=>trivial
 | [],u::us,h=>by have:=h.1;simp at this
 |c::cs,[],h=>by have:=h.1;simp at this
 |c::cs,u::us,h=>by
  obtain ⟨u',h1,_,h2⟩:=h.2 0 c rfl
  simp at h1;subst h1
  exact ⟨h2,Mi.of ⟨by have:=h.1;simpa using this,λi c' hc=>by
   obtain ⟨u',h3,h4⟩:=h.2 (i+1) c' (by simpa using hc)
   exact ⟨u',by simpa using h3,h4⟩⟩⟩
theorem Mi.to: ∀ {cs:List AC} {us:List Value},Mi X w π H cs us->(∀u∈us,u.oneCell'=true)->Fh X w π H cs us
 | [],[],_,_=>⟨rfl,λi c hc=>by simp at hc⟩
 | [],u::us,h,_=>h.elim
 |c::cs,[],h,_=>h.elim
 |c::cs,u::us,h,ho=>by
  have ih:=Mi.to h.2 λv hv=>ho v (An _ hv)
  refine ⟨by simp [ih.1],λi c' hc=>?_⟩
  rcases i with _|i
  ·simp at hc;subst hc;exact ⟨u,rfl,ho u (by simp),h.1⟩
  ·obtain ⟨u',h3,h4⟩:=ih.2 i c' (by simpa using hc)
   exact ⟨u',by simpa using h3,h4⟩
theorem Mi.take: ∀ {cs:List AC} {us:List Value} (n:Nat),Mi X w π H cs us->Mi X w π H (cs.take n) (us.take n)/\Mi X w π H (cs.drop n) (us.drop n)
 |cs,us,0,h=>by simpa [Mi] using h
 | [],[],n+1,_=>by simp [Mi]
 | [],u::us,n+1,h=>h.elim
 |c::cs,[],n+1,h=>h.elim
 |c::cs,u::us,n+1,h=>by
  have:=Mi.take n h.2
  exact ⟨⟨h.1,this.1⟩,this.2⟩
theorem Yb: ∀(sh:List (Option Nat)) (kK:List AV) (vs:List Value) (as:List AC),kK.length=vs.length->(∀(i:Nat) c v,kK[i]?=some c->vs[i]?=some v->Bi X w π H c v)->ungroup sh kK=some as->
  ∃us,vs=Kf sh us/\bp sh us/\Mi X w π H as us
 | [],[],vs,as,hl,_,he=>by
  simp only [ungroup,Aa] at he;subst he
  have:vs= []:=De hl.symm
  subst this
  exact ⟨[],rfl,trivial,trivial⟩
 |none::sh, .at a::kK,vs,as,hl,hr,he=>by
  simp only [ungroup] at he
  cases hu:ungroup sh kK with
  |none=>rw [hu] at he;cases he
  |some r=>
   rw [hu] at he
   simp only [Ai,Aa] at he;subst he
   cases vs with
   |nil=>simp at hl
   |cons v vs=>
    obtain ⟨us,h1,h2,h3⟩:=Yb sh kK vs r (by simpa using hl) (λi c v hc hv=>hr (i+1) c v (by simpa using hc) (by simpa using hv)) hu
    exact ⟨v::us,by rw [h1];rfl,h2,hr 0 _ v rfl rfl,h3⟩
 |some n::sh, .agg cs::kK,vs,as,hl,hr,he=>by
  simp only [ungroup] at he
  split at he
  ·rename_i hn
   cases hu:ungroup sh kK with
   |none=>rw [hu] at he;cases he
   |some r=>
    rw [hu] at he
    simp only [Ai,Aa] at he;subst he
    cases vs with
    |nil=>simp at hl
    |cons v vs=>
     obtain ⟨us,h1,h2,h3⟩:=Yb sh kK vs r (by simpa using hl) (λi c v hc hv=>hr (i+1) c v (by simpa using hc) (by simpa using hv)) hu
     obtain ⟨ws,rfl,h4⟩:=hr 0 _ v rfl rfl
     have PY:ws.length=n:=by rw [<-hn];exact h4.1
     refine ⟨ws++us,?_,⟨by simp [PY],?_,?_⟩,(Mi.of h4).append h3⟩
     ·rw [h1];simp only [Kf];rw [List.take_left' PY,List.drop_left' PY]
     ·rw [List.take_left' PY]
      intro u hu
      obtain ⟨j,hj,rfl⟩:=Ja hu
      obtain ⟨u',h5,h6,_⟩:=h4.2 j (cs[j]'(by have:=h4.1;omega)) (Ac _)
      rw [Ac hj] at h5
      simp only [Aa] at h5
      rw [h5];exact h6
     ·rw [List.drop_left' PY];exact h2
  ·cases he
 |some n::sh, .at (.data fr τ x)::kK,vs,as,hl,hr,he=>by
  simp only [ungroup] at he
  split at he
  ·rename_i hn
   cases hu:ungroup sh kK with
   |none=>rw [hu] at he;cases he
   |some r=>
    rw [hu] at he
    simp only [Ai,Aa] at he;subst he
    cases vs with
    |nil=>simp at hl
    |cons v vs=>
     obtain ⟨us,h1,h2,h3⟩:=Yb sh kK vs r (by simpa using hl) (λi c v hc hv=>hr (i+1) c v (by simpa using hc) (by simpa using hv)) hu
     obtain ⟨ws,h0,hv⟩:=hr 0 _ v rfl rfl
     have h4:=nC (X:=X) (H:=H) τ ws x h0
     have hv:v= .agg ws.toArray:=by rw [hv];unfold Bs;rw [Ab hn.1]
     subst hv
     have PY:ws.length=n:=by rw [<-hn.2];exact h4.1
     refine ⟨ws++us,?_,⟨by simp [PY],?_,?_⟩,(Mi.of h4).append h3⟩
     ·rw [h1];simp only [Kf];rw [List.take_left' PY,List.drop_left' PY]
     ·rw [List.take_left' PY]
      intro u hu
      obtain ⟨j,hj,rfl⟩:=Ja hu
      obtain ⟨u',h5,h6,_⟩:=h4.2 j ((Qy fr τ x)[j]'(by have:=h4.1;omega)) (Ac _)
      rw [Ac hj] at h5
      simp only [Aa] at h5
      rw [h5];exact h6
     ·rw [List.drop_left' PY];exact h2
  ·cases he
 | [],_::_,_,_,_,_,he=>by simp [ungroup] at he
 |none::_,[],_,_,_,_,he=>by simp [ungroup] at he
 |none::_, .agg _::_,_,_,_,_,he=>by simp [ungroup] at he
 |none::_, .Zw _ _ _::_,_,_,_,_,he=>by simp [ungroup] at he
 |none::_, .Mb _::_,_,_,_,_,he=>by simp [ungroup] at he
 |some _::_,[],_,_,_,_,he=>by simp [ungroup] at he
 |some _::_, .at .undef::_,_,_,_,_,he=>by simp [ungroup] at he
 |some _::_, .at .skip::_,_,_,_,_,he=>by simp [ungroup] at he
 |some _::_, .at .Le::_,_,_,_,_,he=>by simp [ungroup] at he
 |some _::_, .at .Ua::_,_,_,_,_,he=>by simp [ungroup] at he
 |some _::_, .at (.own _ _ _)::_,_,_,_,_,he=>by simp [ungroup] at he
 |some _::_, .at (.Gs _ _)::_,_,_,_,_,he=>by simp [ungroup] at he
 |some _::_, .at (.Jl _ _)::_,_,_,_,_,he=>by simp [ungroup] at he
 |some _::_, .at (.sub _ _ _)::_,_,_,_,_,he=>by simp [ungroup] at he
 |some _::_, .at (.Ji _ _ _)::_,_,_,_,_,he=>by simp [ungroup] at he
 |some _::_, .at (.clo _ _)::_,_,_,_,_,he=>by simp [ungroup] at he
 |some _::_, .at (.Jw _)::_,_,_,_,_,he=>by simp [ungroup] at he
 |some _::_, .Zw _ _ _::_,_,_,_,_,he=>by simp [ungroup] at he
 |some _::_, .Mb _::_,_,_,_,_,he=>by simp [ungroup] at he
theorem cr: ∀(sh:List (Option Nat)) (as:List AC) (us:List Value),bp sh us->Mi X w π H as us->
  (Rq sh as).length=(Kf sh us).length/\(∀(i:Nat) c v,(Rq sh as)[i]?=some c->(Kf sh us)[i]?=some v->Bi X w π H c v)/\
  (Yi sh as).length=(Kf sh us).length/\(∀(i:Nat) p v,(Yi sh as)[i]?=some p->(Kf sh us)[i]?=some v->cR X w π H p v)
 | [],[],[],_,_=>⟨rfl,λi c v hc=>by simp [Rq] at hc,rfl,λi c v hc=>by simp [Yi] at hc⟩
 | [],_::_,[],_,h=>h.elim
 |none::_,_,[],h,_=>h.elim
 | [],_,_::_,h,_=>h.elim
 |none::sh,[],u::us,_,h=>h.elim
 |none::sh,a::as,u::us,hs,h=>by
  obtain ⟨h1,h2,h3,h4⟩:=cr sh as us hs h.2
  refine ⟨by simp [Rq,Kf,h1],λi c v hc hv=>?_,by simp [Yi,Kf,h3],λi p v hp hv=>?_⟩
  ·rcases i with _|i
   ·simp [Rq,Kf] at hc hv;subst hc;subst hv;exact h.1
   ·exact h2 i c v (by simpa [Rq] using hc) (by simpa [Kf] using hv)
  ·rcases i with _|i
   ·simp [Yi,Kf] at hp hv;subst hp;subst hv
    unfold cR
    rw [Al (by simp)]
    intro a' ha;simp at ha;subst ha;exact h.1
   ·exact h4 i p v (by simpa [Yi] using hp) (by simpa [Kf] using hv)
 |some n::sh,as,us,hs,h=>by
  obtain ⟨fV,pf,hs3⟩:=hs
  obtain ⟨k1,k2⟩:=Mi.take n h
  obtain ⟨h1,h2,h3,h4⟩:=cr sh (as.drop n) (us.drop n) hs3 k2
  have k3:=Mi.to k1 pf
  refine ⟨by simp [Rq,Kf,h1],λi c v hc hv=>?_,by simp [Yi,Kf,h3],λi p v hp hv=>?_⟩
  ·rcases i with _|i
   ·simp only [Rq,Kf,Bn,Aa] at hc hv;subst hc;subst hv;exact ⟨_,rfl,k3⟩
   ·exact h2 i c v (by simpa [Rq] using hc) (by simpa [Kf] using hv)
  ·rcases i with _|i
   ·simp only [Yi,Kf,Bn,Aa] at hp hv;subst hp;subst hv
    unfold cR
    rw [Ab rfl]
    exact ⟨_,rfl,k3⟩
   ·exact h4 i p v (by simpa [Yi] using hp) (by simpa [Kf] using hv)
def Pl (io:Bool) (k:Nat):CK->AC->List (Nat×Loc)
 | .Fp _, .own l _ _=> [(Ds false k, .view l)]
 | .Fp _, .clo _ Dy=>views k (Dy.map (·.1))
 | .Fp _, .Gs l _=>views k [l]
 | .Fp _, .sub l _ _=> [(Ds false k, .view l)]
 | .Fp _,_=> []
 |_, .own l _ _=> [(Ds io k, .row l)]
 |_, .sub l i c=> [(Ds io k, .sub l i c)]
 |_,_=> []
def Lc:Nat->List (Bool×CK)->List AC->List (Nat×Loc)
 |k,p::r,a::as=>Pl p.1 k p.2 a++Lc (k+1) r as
 |_,_,_=> []
theorem MM {st:St} {io:Bool} {k:Nat} {c:CK} {a:AC} {x:c.den} {tks:List (Nat×Loc)} (he:Lj st io k c a=some (x,tks)):tks=Pl io k c a:=by
 cases c with
 |Fp τ=>
  cases a with
  |own l off len=>
   simp only [Lj] at he
   cases hv:Dj st τ (.own l off len) with
   |none=>rw [hv] at he;cases he
   |some p=>rw [hv] at he;simp only [Ai,Aa,Ae] at he;exact he.2.symm
  |clo g Dy=>
   simp only [Lj] at he
   split at he
   ·cases hv:Jf st τ (.clo g Dy) with
    |none=>rw [hv] at he;cases he
    |some p=>rw [hv] at he;simp only [Ai,Aa,Ae] at he;exact he.2.symm
   ·cases he
  |Gs l i=>
   simp only [Lj] at he
   split at he
   ·cases hv:Jf st τ (.Gs l i) with
    |none=>rw [hv] at he;cases he
    |some p=>rw [hv] at he;simp only [Ai,Aa,Ae] at he;exact he.2.symm
   ·cases he
  |sub l i c=>
   simp only [Lj] at he
   cases hv:Dj st τ (.sub l i c) with
   |none=>rw [hv] at he;cases he
   |some p=>rw [hv] at he;simp only [Ai,Aa,Ae] at he;exact he.2.symm
  |_=>
   simp only [Lj] at he
   split at he
   ·first
     |(rename_i hc;cases hv:Dj st τ _ with
      |none=>rw [hv] at he;cases he
      |some p=>rw [hv] at he;simp only [Ai,Aa,Ae] at he;exact he.2.symm)
   ·cases he
 |row e te=>
  cases a<;>simp only [Lj] at he<;>try (cases he;done)
  ·simp only [Aa,Ae] at he;exact he.2.symm
  ·split at he
   ·split at he
    ·simp only [Aa,Ae] at he;exact he.2.symm
    ·cases he
   ·cases he
  ·rename_i l i c
   split at he
   ·rename_i e' tid xs hl
    split at he
    ·cases hx:xs[i]? with
     |none=>rw [hx] at he;cases he
     |some y=>rw [hx] at he;simp only [Ai,Aa,Ae] at he;exact he.2.symm
    ·cases he
   ·cases he
 |Hb e te=>
  cases a<;>simp only [Lj] at he<;>try (cases he;done)
  ·simp only [Aa,Ae] at he;exact he.2.symm
  ·split at he
   ·split at he
    ·simp only [Aa,Ae] at he;exact he.2.symm
    ·cases he
   ·cases he
  ·rename_i l i c
   split at he
   ·rename_i e' tid xs hl
    split at he
    ·cases hx:xs[i]? with
     |none=>rw [hx] at he;cases he
     |some y=>rw [hx] at he;simp only [Ai,Aa,Ae] at he;exact he.2.symm
    ·cases he
   ·cases he
 |part e te=>
  cases a<;>simp only [Lj] at he<;>try (cases he;done)
  split at he
  ·split at he
   ·simp only [Aa,Ae] at he;exact he.2.symm
   ·cases he
  ·cases he
 |Bm e te kp=>
  cases a<;>simp only [Lj] at he<;>try (cases he;done)
  split at he
  ·split at he
   ·simp only [Aa,Ae] at he;exact he.2.symm
   ·cases he
  ·cases he
theorem Ym.Io {D D':Nat->Prop} {r:Option Real} {e:Ty} {rows:List (List e.den)} (h:Ym w D r e rows none) (hD: ∀b,D' b->D b):Ym w D' r e rows none:=
 h.Gg (λ_ _ _ _ _=>rfl) λes x hc=>Cells.Gg (Ar _) (λ_ _ _=>rfl) (λb _ hb=>hD b hb) e es x hc
def oh (X:Ctx) (w:World) (π:Pi) (V:List Nat) (H:List (Nat×OB)) (πc:Pi):(k:Nat)->(cs:List (Bool×CK))->Ins.den cs->List AC->List Value->Prop
 |_,[],_,[],[]=>True
 |k,p::r,x,a::as,u::us=>(cP w (Nn X π V) (πc (Ds p.1 k)) u p.2 x.1/\Sb w π H p.1 a u (πc (Ds p.1 k)) p.2 x.1)/\oh X w π V H πc (k+1) r x.2 as us
 |_,_,_,_,_=>False
theorem IK {b b':Bool} {k j:Nat} (hk:k<100000) (hj:j<100000) (h:k≠j):Ds b k≠Ds b' j:=by
 unfold Ds;cases b<;>cases b'<;>simp<;>omega
theorem oh.congr {V:List Nat} {πc Afq:Pi} : ∀(cs:List (Bool×CK)) (k:Nat) (x:Ins.den cs) (as:List AC) (us:List Value),(∀b j,k<=j->j<k+cs.length->Afq (Ds b j)=πc (Ds b j))->oh X w π V H πc k cs x as us->oh X w π V H Afq k cs x as us
 | [],_,_,[],[],_,h=>h
 | [],_,_,_::_,_,_,h=>h.elim
 | [],_,_,[],_::_,_,h=>h.elim
 |_::_,_,_,[],_,_,h=>h.elim
 |_::_,_,_,_::_,[],_,h=>h.elim
 |p::r,k,x,a::as,u::us,hc,h=>⟨by rw [hc p.1 k (Ar _) (by simp)];exact h.1,oh.congr r (k+1) x.2 as us (λb j h1 h2=>hc b j (by omega) (by simp;omega)) h.2⟩
theorem oh.Aei {V:List Nat} {πc:Pi} : ∀(cs:List (Bool×CK)) (k:Nat) (x:Ins.den cs) (as:List AC) (us:List Value),oh X w π V H πc k cs x as us->cQ w (Nn X π V) πc k cs x us
 | [],_,_,[],[],h=>h
 | [],_,_,_::_,_,h=>h.elim
 | [],_,_,[],_::_,h=>h.elim
 |_p::_r,_k,_x,[],_,h=>h.elim
 |_p::_r,_k,_x,_::_,[],h=>h.elim
 |_p::r,k,x,_a::as,_u::us,h=>⟨h.1.1,oh.Aei r (k+1) x.2 as us h.2⟩
theorem Rl.Io {D D':Nat->Prop} {r:Option Real} {e:Ty} {xs:List e.den} (h:Rl w D r e xs) (hD: ∀b,D' b->D b):Rl w D' r e xs:=by
 cases r with
 |none=>exact h
 |some r=>
  obtain ⟨k1,cu,ti,k2,k3,k4,k5,k6⟩:=h
  exact ⟨k1,cu,ti,k2,k3,k4,k5,λi y hy=>by
   obtain ⟨es,g1,g2,g3⟩:=k6 i y hy
   exact ⟨es,g1,g2,Cells.Gg (Ar _) (λ_ _ _=>rfl) (λb _ hb=>hD b hb) e es y g3⟩⟩
theorem cQ.Io {D D':Nat->Prop} {πc:Pi} (hD: ∀b,D' b->D b): ∀(cs:List (Bool×CK)) (k:Nat) (x:Ins.den cs) (us:List Value),cQ w D πc k cs x us->cQ w D' πc k cs x us
 | [],_,_,[],h=>h
 | [],_,_,_::_,h=>h.elim
 |p::r,k,x,[],h=>h.elim
 |(io,c)::r,k,x,u::us,h=>⟨by
   have:=h.1
   cases c with
   |Fp τ=>exact ⟨this.1,this.2.Io λb _ hb=>hD b hb⟩
   |row e te=>exact ⟨this.1,this.2.Io hD⟩
   |Hb e te=>exact this
   |Bm e te kp=>exact ⟨this.1,Ym.Io this.2 hD⟩
   |part e te=>exact ⟨this.1,this.2.1,this.2.2.Io hD⟩,cQ.Io hD r (k+1) x.2 us h.2⟩
theorem Sb.Ci {io:Bool} {a:AC} {u:Value} {r:Option Real} {c:CK} {x:c.den} (k:Nat) (h:Sb w π H io a u r c x) {r':Real} (hr:r=some r') {b:Nat} (hb:r'.Ci b):
  ∃t,t∈Pl io k c a/\t.1=Ds io k/\t.2.reads=false/\ ∃q,π t.2.Vm=some q/\q.Ci b/\ ∀l i j,t.2= .sub l i j->b≠q.g:=by
 subst hr
 have WH: ∀l,some r'=(π l).map full-> ∃q,π l=some q/\q.Ci b:=by
  intro l hl
  cases hp:π l with
  |none=>rw [hp] at hl;cases hl
  |some q=>rw [hp] at hl;simp only [Ai,Aa] at hl;subst hl;exact ⟨q,rfl,hb⟩
 cases c with
 |Fp τ=>cases h
 |row e te=>
  simp only [Sb] at h
  cases a<;>simp only [] at h<;>first|(cases h;done)|skip
  ·obtain ⟨q,h1,h2⟩:=WH _ h.1;exact ⟨_,Ad.2 rfl,rfl,rfl,q,h1,h2,λ_ _ _ e=>by cases e⟩
  ·obtain ⟨_,tid,xs,_,_,q,h1,h2,_⟩:=h
   exact ⟨_,Ad.2 rfl,rfl,rfl,q,h1,(h2 r' rfl b hb).1,λ_ _ _ _=>(h2 r' rfl b hb).2⟩
 |Hb e te=>
  simp only [Sb] at h
  cases a<;>simp only [] at h<;>first|(cases h;done)|skip
  ·obtain ⟨q,h1,h2⟩:=WH _ h.1;exact ⟨_,Ad.2 rfl,rfl,rfl,q,h1,h2,λ_ _ _ e=>by cases e⟩
  ·obtain ⟨_,tid,xs,_,_,q,h1,h2,_⟩:=h
   exact ⟨_,Ad.2 rfl,rfl,rfl,q,h1,(h2 r' rfl b hb).1,λ_ _ _ _=>(h2 r' rfl b hb).2⟩
 |part e te=>
  obtain ⟨_,h⟩:=h
  cases a<;>simp only [] at h<;>first|(cases h;done)|skip
  obtain ⟨q,h1,h2⟩:=WH _ h.1;exact ⟨_,Ad.2 rfl,rfl,rfl,q,h1,h2,λ_ _ _ e=>by cases e⟩
 |Bm e te kp=>
  obtain ⟨_,h⟩:=h
  cases a<;>simp only [] at h<;>first|(cases h;done)|skip
  obtain ⟨q,h1,h2⟩:=WH _ h.1;exact ⟨_,Ad.2 rfl,rfl,rfl,q,h1,h2,λ_ _ _ e=>by cases e⟩
theorem AO {io:Bool} {k:Nat} {c:CK} {a:AC} {t:Nat×Loc} (h:t∈Pl io k c a):(t.1=Ds io k/\t.2.reads=false)\/(t.1=Ds false k/\t.2.reads=true):=by
 cases c<;>cases a<;>simp [Pl,views] at h<;>first|(obtain ⟨_,_,rfl⟩:=h;simp [Loc.reads];done)|(obtain ⟨_,⟨_,_⟩,rfl⟩:=h;simp [Loc.reads];done)|(rw [h];simp [Loc.reads])
theorem s6 {st:St} (h:Mh X w π st.heap) {V:List Nat} : ∀(cs:List (Bool×CK)) (k:Nat) (as:List AC) (us:List Value) (x:Ins.den cs) (tks:List (Nat×Loc)),k+cs.length<100000->Mi X w π st.heap as us->dU st k cs as=some (x,tks)->(∀t∈tks,t.2.reads=true->t.2.Vm∈V)->
  tks=Lc k cs as/\ ∃πc:Pi,oh X w π V st.heap πc k cs x as us/\(∀l,πc l≠none-> ∃b j,k<=j/\j<k+cs.length/\l=Ds b j)/\(∀l,Aq (Xo k cs x) l=none->πc l=none)/\
   (∀c r b,πc c=some r->r.Ci b-> ∃t∈Lc k cs as,t.1=c/\t.2.reads=false/\ ∃q,π t.2.Vm=some q/\q.Ci b/\ ∀l i j,t.2= .sub l i j->b≠q.g)
 | [],k,[],[],x,tks,_,_,he,_=>by
  simp only [dU,Aa,Ae] at he
  exact ⟨he.2.symm,λ_=>none,trivial,λl h=>absurd rfl h,λ_ _=>rfl,λc r b h=>by cases h⟩
 | [],k,[],_::_,_,_,_,h,_,_=>h.elim
 | [],k,_::_,_,_,_,_,_,he,_=>by simp [dU] at he
 |p::r,k,[],_,_,_,_,_,he,_=>by simp [dU] at he
 |p::r,k,a::as,[],_,_,_,h,_,_=>h.elim
 |p::r,k,a::as,u::us,x,tks,hk,hr,he,hV=>by
  simp only [dU] at he
  split at he
  ·rename_i x1 t1 x2 t2 h1 h2
   simp only [Aa,Ae] at he
   obtain ⟨rfl,rfl⟩:=he
   simp only [Bg] at hk
   obtain ⟨e2,πc,g1,g2,g3,g4⟩:=s6 h r (k+1) as us x2 t2 (by omega) hr.2 h2 λt ht=>hV t (Bu _ ht)
   have e1:=MM h1
   obtain ⟨rr,r1,r2⟩:=ML h hr.1 h1 λt ht=>hV t (Bk _ ht)
   refine ⟨by simp only [Lc];rw [e1,e2],λl=>if l=Ds p.1 k then rr else πc l,⟨by simpa using ⟨r1,r2⟩,g1.congr r (k+1) x2 as us λb j j1 j2=>Al (IK (by omega) (by omega) (by omega))⟩,λl hl=>?_,λl hl=>?_,λc q b hc hb=>?_⟩
   ·by_cases e:l=Ds p.1 k
    ·exact ⟨p.1,k,Ar _,by simp,e⟩
    ·dsimp only at hl
     rw [Al e] at hl
     obtain ⟨b,j,j1,j2,j3⟩:=g2 l hl
     exact ⟨b,j,by omega,by simp;omega,j3⟩
   ·simp only [Xo] at hl
    dsimp only
    by_cases e:l=Ds p.1 k
    ·rw [Ab e]
     cases hc:p.2 with
     |Fp τ=>
      revert r2
      generalize p.2=c at*
      subst hc
      intro r2;exact r2
     |row e' te=>
      exfalso
      generalize p.2=c at*
      subst hc
      simp only [iI,fz,Aq,Ab e.symm] at hl
      cases hl
     |Hb e' te=>
      exfalso
      generalize p.2=c at*
      subst hc
      simp only [iI,fz,Aq,Ab e.symm] at hl
      cases hl
     |part e' te=>
      exfalso
      generalize p.2=c at*
      subst hc
      simp only [iI,fz,Aq,Ab e.symm] at hl
      cases hl
     |Bm e' te kp=>
      exfalso
      generalize p.2=c at*
      subst hc
      simp only [iI,fz,Aq,Ab e.symm] at hl
      cases hl
    ·rw [Al e]
     refine g3 l ?_
     cases hc:iI (Ds p.1 k) p.2 x1 with
     |none=>rw [hc] at hl;exact hl
     |some b=>rw [hc] at hl;simp only [fz,Aq,Al (Hi e)] at hl;exact hl
   ·dsimp only at hc
    by_cases e:c=Ds p.1 k
    ·rw [Ab e] at hc
     obtain ⟨t,t1,t0,t2⟩:=r2.Ci k hc hb
     exact ⟨t,by simp only [Lc];exact Bk _ t1,by rw [t0,e],t2⟩
    ·rw [Al e] at hc
     obtain ⟨t,t1,t2⟩:=g4 c q b hc hb
     exact ⟨t,by simp only [Lc];exact Bu _ t1,t2⟩
  ·cases he
end
end Go.Proofs.Ytkkdpknjohcekaa
