/-
  Part 16 of the proof that the statement FnCommutatorMacros holds.
-/
import Derived.Test.YtfgfigkbgecfnaaCFCommutatorMacros14
namespace Go.Proofs.Ytfgfigkbgecfnaa
open Go.RowKit
section
variable {P:Program} {T:Tab} {X:Ctx} {w w':World} {π π':Pi} {H H':List (Nat×OB)}
def Kd (X:Ctx) (w:World) (π:Pi) (H:List (Nat×OB)):List AC->List Value->Prop
 | [],[]=>True
 |a::as,u::us=>Fe X w π H a u/\Kd X w π H as us
 |_,_=>False
theorem Kd.append {as bs:List AC} {us vs:List Value} (h1:Kd X w π H as us) (h2:Kd X w π H bs vs):Kd X w π H (as++bs) (us++vs):=by
 induction as generalizing us with
 |nil=>cases us with
  |nil=>exact h2
  |cons u us=>exact h1.elim
 |cons a as ih=>cases us with
  |nil=>exact h1.elim
  |cons u us=>exact ⟨h1.1,ih h1.2⟩
theorem Kd.of: ∀ {cs:List AC} {us:List Value},Eb X w π H cs us->Kd X w π H cs us
 | [],[],_=>trivial
 | [],u::us,h=>by have:=h.1;simp at this
 |c::cs,[],h=>by have:=h.1;simp at this
 |c::cs,u::us,h=>by
  obtain ⟨u',h1,_,h2⟩:=h.2 0 c rfl
  simp at h1;subst h1
  exact ⟨h2,Kd.of ⟨by have:=h.1;simpa using this,λi c' hc=>by
   obtain ⟨u',h3,h4⟩:=h.2 (i+1) c' (by simpa using hc)
   exact ⟨u',by simpa using h3,h4⟩⟩⟩
theorem Kd.to: ∀ {cs:List AC} {us:List Value},Kd X w π H cs us->(∀u∈us,u.oneCell'=true)->Eb X w π H cs us
 | [],[],_,_=>⟨rfl,λi c hc=>by simp at hc⟩
 | [],u::us,h,_=>h.elim
 |c::cs,[],h,_=>h.elim
 |c::cs,u::us,h,ho=>by
  have ih:=Kd.to h.2 λv hv=>ho v (Aq _ hv)
  refine ⟨by simp [ih.1],λi c' hc=>?_⟩
  rcases i with _|i
  ·simp at hc;subst hc;exact ⟨u,rfl,ho u (by simp),h.1⟩
  ·obtain ⟨u',h3,h4⟩:=ih.2 i c' (by simpa using hc)
   exact ⟨u',by simpa using h3,h4⟩
theorem Kd.take: ∀ {cs:List AC} {us:List Value} (n:Nat),Kd X w π H cs us->Kd X w π H (cs.take n) (us.take n)/\Kd X w π H (cs.drop n) (us.drop n)
 |cs,us,0,h=>by simpa [Kd] using h
 | [],[],n+1,_=>by simp [Kd]
 | [],u::us,n+1,h=>h.elim
 |c::cs,[],n+1,h=>h.elim
 |c::cs,u::us,n+1,h=>by
  have:=Kd.take n h.2
  exact ⟨⟨h.1,this.1⟩,this.2⟩
theorem Uq: ∀(sh:List (Option Nat)) (gF:List AV) (vs:List Value) (as:List AC),gF.length=vs.length->(∀(i:Nat) c v,gF[i]?=some c->vs[i]?=some v->Ba X w π H c v)->ungroup sh gF=some as->
  ∃us,vs=Ie sh us/\Yt sh us/\Kd X w π H as us
 | [],[],vs,as,hl,_,he=>by
  simp only [ungroup,Aa] at he;subst he
  have:vs= []:=Cj hl.symm
  subst this
  exact ⟨[],rfl,trivial,trivial⟩
 |none::sh, .at a::gF,vs,as,hl,hr,he=>by
  simp only [ungroup] at he
  cases hu:ungroup sh gF with
  |none=>rw [hu] at he;cases he
  |some r=>
   rw [hu] at he
   simp only [Ah,Aa] at he;subst he
   cases vs with
   |nil=>simp at hl
   |cons v vs=>
    obtain ⟨us,h1,h2,h3⟩:=Uq sh gF vs r (by simpa using hl) (λi c v hc hv=>hr (i+1) c v (by simpa using hc) (by simpa using hv)) hu
    exact ⟨v::us,by rw [h1];rfl,h2,hr 0 _ v rfl rfl,h3⟩
 |some n::sh, .agg cs::gF,vs,as,hl,hr,he=>by
  simp only [ungroup] at he
  split at he
  ·rename_i hn
   cases hu:ungroup sh gF with
   |none=>rw [hu] at he;cases he
   |some r=>
    rw [hu] at he
    simp only [Ah,Aa] at he;subst he
    cases vs with
    |nil=>simp at hl
    |cons v vs=>
     obtain ⟨us,h1,h2,h3⟩:=Uq sh gF vs r (by simpa using hl) (λi c v hc hv=>hr (i+1) c v (by simpa using hc) (by simpa using hv)) hu
     obtain ⟨ws,rfl,h4⟩:=hr 0 _ v rfl rfl
     have xH:ws.length=n:=by rw [<-hn];exact h4.1
     refine ⟨ws++us,?_,⟨by simp [xH],?_,?_⟩,(Kd.of h4).append h3⟩
     ·rw [h1];simp only [Ie];rw [List.take_left' xH,List.drop_left' xH]
     ·rw [List.take_left' xH]
      intro u hu
      obtain ⟨j,hj,rfl⟩:=Ko hu
      obtain ⟨u',h5,h6,_⟩:=h4.2 j (cs[j]'(by have:=h4.1;omega)) (Ac _)
      rw [Ac hj] at h5
      simp only [Aa] at h5
      rw [h5];exact h6
     ·rw [List.drop_left' xH];exact h2
  ·cases he
 |some n::sh, .at (.data fr τ x)::gF,vs,as,hl,hr,he=>by
  simp only [ungroup] at he
  split at he
  ·rename_i hn
   cases hu:ungroup sh gF with
   |none=>rw [hu] at he;cases he
   |some r=>
    rw [hu] at he
    simp only [Ah,Aa] at he;subst he
    cases vs with
    |nil=>simp at hl
    |cons v vs=>
     obtain ⟨us,h1,h2,h3⟩:=Uq sh gF vs r (by simpa using hl) (λi c v hc hv=>hr (i+1) c v (by simpa using hc) (by simpa using hv)) hu
     obtain ⟨ws,h0,hv⟩:=hr 0 _ v rfl rfl
     have h4:=jR (X:=X) (H:=H) τ ws x h0
     have hv:v= .agg ws.toArray:=by rw [hv];unfold Bi;rw [Af hn.1]
     subst hv
     have xH:ws.length=n:=by rw [<-hn.2];exact h4.1
     refine ⟨ws++us,?_,⟨by simp [xH],?_,?_⟩,(Kd.of h4).append h3⟩
     ·rw [h1];simp only [Ie];rw [List.take_left' xH,List.drop_left' xH]
     ·rw [List.take_left' xH]
      intro u hu
      obtain ⟨j,hj,rfl⟩:=Ko hu
      obtain ⟨u',h5,h6,_⟩:=h4.2 j ((Oi fr τ x)[j]'(by have:=h4.1;omega)) (Ac _)
      rw [Ac hj] at h5
      simp only [Aa] at h5
      rw [h5];exact h6
     ·rw [List.drop_left' xH];exact h2
  ·cases he
 | [],_::_,_,_,_,_,he=>by simp [ungroup] at he
 |none::_,[],_,_,_,_,he=>by simp [ungroup] at he
 |none::_, .agg _::_,_,_,_,_,he=>by simp [ungroup] at he
 |none::_, .Wh _ _ _::_,_,_,_,_,he=>by simp [ungroup] at he
 |none::_, .Jy _::_,_,_,_,_,he=>by simp [ungroup] at he
 |some _::_,[],_,_,_,_,he=>by simp [ungroup] at he
 |some _::_, .at .undef::_,_,_,_,_,he=>by simp [ungroup] at he
 |some _::_, .at .skip::_,_,_,_,_,he=>by simp [ungroup] at he
 |some _::_, .at .Jf::_,_,_,_,_,he=>by simp [ungroup] at he
 |some _::_, .at .Qx::_,_,_,_,_,he=>by simp [ungroup] at he
 |some _::_, .at (.own _ _ _)::_,_,_,_,_,he=>by simp [ungroup] at he
 |some _::_, .at (.Ez _ _)::_,_,_,_,_,he=>by simp [ungroup] at he
 |some _::_, .at (.Hj _ _)::_,_,_,_,_,he=>by simp [ungroup] at he
 |some _::_, .at (.sub _ _ _)::_,_,_,_,_,he=>by simp [ungroup] at he
 |some _::_, .at (.Hf _ _ _)::_,_,_,_,_,he=>by simp [ungroup] at he
 |some _::_, .at (.clo _ _)::_,_,_,_,_,he=>by simp [ungroup] at he
 |some _::_, .at (.Hv _)::_,_,_,_,_,he=>by simp [ungroup] at he
 |some _::_, .Wh _ _ _::_,_,_,_,_,he=>by simp [ungroup] at he
 |some _::_, .Jy _::_,_,_,_,_,he=>by simp [ungroup] at he
theorem ah: ∀(sh:List (Option Nat)) (as:List AC) (us:List Value),Yt sh us->Kd X w π H as us->
  (Pb sh as).length=(Ie sh us).length/\(∀(i:Nat) c v,(Pb sh as)[i]?=some c->(Ie sh us)[i]?=some v->Ba X w π H c v)/\
  (Uw sh as).length=(Ie sh us).length/\(∀(i:Nat) p v,(Uw sh as)[i]?=some p->(Ie sh us)[i]?=some v->aM X w π H p v)
 | [],[],[],_,_=>⟨rfl,λi c v hc=>by simp [Pb] at hc,rfl,λi c v hc=>by simp [Uw] at hc⟩
 | [],_::_,[],_,h=>h.elim
 |none::_,_,[],h,_=>h.elim
 | [],_,_::_,h,_=>h.elim
 |none::sh,[],u::us,_,h=>h.elim
 |none::sh,a::as,u::us,hs,h=>by
  obtain ⟨h1,h2,h3,h4⟩:=ah sh as us hs h.2
  refine ⟨by simp [Pb,Ie,h1],λi c v hc hv=>?_,by simp [Uw,Ie,h3],λi p v hp hv=>?_⟩
  ·rcases i with _|i
   ·simp [Pb,Ie] at hc hv;subst hc;subst hv;exact h.1
   ·exact h2 i c v (by simpa [Pb] using hc) (by simpa [Ie] using hv)
  ·rcases i with _|i
   ·simp [Uw,Ie] at hp hv;subst hp;subst hv
    unfold aM
    rw [Aj (by simp)]
    intro a' ha;simp at ha;subst ha;exact h.1
   ·exact h4 i p v (by simpa [Uw] using hp) (by simpa [Ie] using hv)
 |some n::sh,as,us,hs,h=>by
  obtain ⟨fX,nH,hs3⟩:=hs
  obtain ⟨k1,k2⟩:=Kd.take n h
  obtain ⟨h1,h2,h3,h4⟩:=ah sh (as.drop n) (us.drop n) hs3 k2
  have k3:=Kd.to k1 nH
  refine ⟨by simp [Pb,Ie,h1],λi c v hc hv=>?_,by simp [Uw,Ie,h3],λi p v hp hv=>?_⟩
  ·rcases i with _|i
   ·simp only [Pb,Ie,Bd,Aa] at hc hv;subst hc;subst hv;exact ⟨_,rfl,k3⟩
   ·exact h2 i c v (by simpa [Pb] using hc) (by simpa [Ie] using hv)
  ·rcases i with _|i
   ·simp only [Uw,Ie,Bd,Aa] at hp hv;subst hp;subst hv
    unfold aM
    rw [Af rfl]
    exact ⟨_,rfl,k3⟩
   ·exact h4 i p v (by simpa [Uw] using hp) (by simpa [Ie] using hv)
def Mx (io:Bool) (k:Nat):CK->AC->List (Nat×Loc)
 | .Ji _, .own l _ _=> [(Cp false k, .view l)]
 | .Ji _, .clo _ Cx=>views k (Cx.map (·.1))
 | .Ji _, .Ez l _=>views k [l]
 | .Ji _, .sub l _ _=> [(Cp false k, .view l)]
 | .Ji _,_=> []
 |_, .own l _ _=> [(Cp io k, .row l)]
 |_, .sub l i c=> [(Cp io k, .sub l i c)]
 |_,_=> []
def Iz:Nat->List (Bool×CK)->List AC->List (Nat×Loc)
 |k,p::r,a::as=>Mx p.1 k p.2 a++Iz (k+1) r as
 |_,_,_=> []
theorem zy {st:St} {io:Bool} {k:Nat} {c:CK} {a:AC} {x:c.den} {tks:List (Nat×Loc)} (he:Jm st io k c a=some (x,tks)):tks=Mx io k c a:=by
 cases c with
 |Ji τ=>
  cases a with
  |own l off len=>
   simp only [Jm] at he
   cases hv:Cn st τ (.own l off len) with
   |none=>rw [hv] at he;cases he
   |some p=>rw [hv] at he;simp only [Ah,Aa,Ab] at he;exact he.2.symm
  |clo g Cx=>
   simp only [Jm] at he
   split at he
   ·cases hv:Hc st τ (.clo g Cx) with
    |none=>rw [hv] at he;cases he
    |some p=>rw [hv] at he;simp only [Ah,Aa,Ab] at he;exact he.2.symm
   ·cases he
  |Ez l i=>
   simp only [Jm] at he
   split at he
   ·cases hv:Hc st τ (.Ez l i) with
    |none=>rw [hv] at he;cases he
    |some p=>rw [hv] at he;simp only [Ah,Aa,Ab] at he;exact he.2.symm
   ·cases he
  |sub l i c=>
   simp only [Jm] at he
   cases hv:Cn st τ (.sub l i c) with
   |none=>rw [hv] at he;cases he
   |some p=>rw [hv] at he;simp only [Ah,Aa,Ab] at he;exact he.2.symm
  |_=>
   simp only [Jm] at he
   split at he
   ·first
     |(rename_i hc;cases hv:Cn st τ _ with
      |none=>rw [hv] at he;cases he
      |some p=>rw [hv] at he;simp only [Ah,Aa,Ab] at he;exact he.2.symm)
   ·cases he
 |row e te=>
  cases a<;>simp only [Jm] at he<;>try (cases he;done)
  ·simp only [Aa,Ab] at he;exact he.2.symm
  ·split at he
   ·split at he
    ·simp only [Aa,Ab] at he;exact he.2.symm
    ·cases he
   ·cases he
  ·rename_i l i c
   split at he
   ·rename_i e' tid xs hl
    split at he
    ·cases hx:xs[i]? with
     |none=>rw [hx] at he;cases he
     |some y=>rw [hx] at he;simp only [Ah,Aa,Ab] at he;exact he.2.symm
    ·cases he
   ·cases he
 |Fl e te=>
  cases a<;>simp only [Jm] at he<;>try (cases he;done)
  ·simp only [Aa,Ab] at he;exact he.2.symm
  ·split at he
   ·split at he
    ·simp only [Aa,Ab] at he;exact he.2.symm
    ·cases he
   ·cases he
  ·rename_i l i c
   split at he
   ·rename_i e' tid xs hl
    split at he
    ·cases hx:xs[i]? with
     |none=>rw [hx] at he;cases he
     |some y=>rw [hx] at he;simp only [Ah,Aa,Ab] at he;exact he.2.symm
    ·cases he
   ·cases he
 |part e te=>
  cases a<;>simp only [Jm] at he<;>try (cases he;done)
  split at he
  ·split at he
   ·simp only [Aa,Ab] at he;exact he.2.symm
   ·cases he
  ·cases he
 |Bc e te kp=>
  cases a<;>simp only [Jm] at he<;>try (cases he;done)
  split at he
  ·split at he
   ·simp only [Aa,Ab] at he;exact he.2.symm
   ·cases he
  ·cases he
theorem Uy.Gj {D D':Nat->Prop} {r:Option Real} {e:Ty} {rows:List (List e.den)} (h:Uy w D r e rows none) (hD: ∀b,D' b->D b):Uy w D' r e rows none:=
 h.Ep (λ_ _ _ _ _=>rfl) λes x hc=>Cells.Ep (Ao _) (λ_ _ _=>rfl) (λb _ hb=>hD b hb) e es x hc
def kI (X:Ctx) (w:World) (π:Pi) (V:List Nat) (H:List (Nat×OB)) (πc:Pi):(k:Nat)->(cs:List (Bool×CK))->Ins.den cs->List AC->List Value->Prop
 |_,[],_,[],[]=>True
 |k,p::r,x,a::as,u::us=>(aI w (Lm X π V) (πc (Cp p.1 k)) u p.2 x.1/\Pl w π H p.1 a u (πc (Cp p.1 k)) p.2 x.1)/\kI X w π V H πc (k+1) r x.2 as us
 |_,_,_,_,_=>False
theorem xW {b b':Bool} {k j:Nat} (hk:k<100000) (hj:j<100000) (h:k≠j):Cp b k≠Cp b' j:=by
 unfold Cp;cases b<;>cases b'<;>simp<;>omega
theorem kI.congr {V:List Nat} {πc SE:Pi} : ∀(cs:List (Bool×CK)) (k:Nat) (x:Ins.den cs) (as:List AC) (us:List Value),(∀b j,k<=j->j<k+cs.length->SE (Cp b j)=πc (Cp b j))->kI X w π V H πc k cs x as us->kI X w π V H SE k cs x as us
 | [],_,_,[],[],_,h=>h
 | [],_,_,_::_,_,_,h=>h.elim
 | [],_,_,[],_::_,_,h=>h.elim
 |_::_,_,_,[],_,_,h=>h.elim
 |_::_,_,_,_::_,[],_,h=>h.elim
 |p::r,k,x,a::as,u::us,hc,h=>⟨by rw [hc p.1 k (Ao _) (by simp)];exact h.1,kI.congr r (k+1) x.2 as us (λb j h1 h2=>hc b j (by omega) (by simp;omega)) h.2⟩
theorem kI.RD {V:List Nat} {πc:Pi} : ∀(cs:List (Bool×CK)) (k:Nat) (x:Ins.den cs) (as:List AC) (us:List Value),kI X w π V H πc k cs x as us->aK w (Lm X π V) πc k cs x us
 | [],_,_,[],[],h=>h
 | [],_,_,_::_,_,h=>h.elim
 | [],_,_,[],_::_,h=>h.elim
 |_p::_r,_k,_x,[],_,h=>h.elim
 |_p::_r,_k,_x,_::_,[],h=>h.elim
 |_p::r,k,x,_a::as,_u::us,h=>⟨h.1.1,kI.RD r (k+1) x.2 as us h.2⟩
theorem Oe.Gj {D D':Nat->Prop} {r:Option Real} {e:Ty} {xs:List e.den} (h:Oe w D r e xs) (hD: ∀b,D' b->D b):Oe w D' r e xs:=by
 cases r with
 |none=>exact h
 |some r=>
  obtain ⟨k1,cu,ti,k2,k3,k4,k5,k6⟩:=h
  exact ⟨k1,cu,ti,k2,k3,k4,k5,λi y hy=>by
   obtain ⟨es,g1,g2,g3⟩:=k6 i y hy
   exact ⟨es,g1,g2,Cells.Ep (Ao _) (λ_ _ _=>rfl) (λb _ hb=>hD b hb) e es y g3⟩⟩
theorem aK.Gj {D D':Nat->Prop} {πc:Pi} (hD: ∀b,D' b->D b): ∀(cs:List (Bool×CK)) (k:Nat) (x:Ins.den cs) (us:List Value),aK w D πc k cs x us->aK w D' πc k cs x us
 | [],_,_,[],h=>h
 | [],_,_,_::_,h=>h.elim
 |p::r,k,x,[],h=>h.elim
 |(io,c)::r,k,x,u::us,h=>⟨by
   have:=h.1
   cases c with
   |Ji τ=>exact ⟨this.1,this.2.Gj λb _ hb=>hD b hb⟩
   |row e te=>exact ⟨this.1,this.2.Gj hD⟩
   |Fl e te=>exact this
   |Bc e te kp=>exact ⟨this.1,Uy.Gj this.2 hD⟩
   |part e te=>exact ⟨this.1,this.2.1,this.2.2.Gj hD⟩,aK.Gj hD r (k+1) x.2 us h.2⟩
theorem Pl.Bu {io:Bool} {a:AC} {u:Value} {r:Option Real} {c:CK} {x:c.den} (k:Nat) (h:Pl w π H io a u r c x) {r':Real} (hr:r=some r') {b:Nat} (hb:r'.Bu b):
  ∃t,t∈Mx io k c a/\t.1=Cp io k/\t.2.reads=false/\ ∃q,π t.2.Sa=some q/\q.Bu b/\ ∀l i j,t.2= .sub l i j->b≠q.g:=by
 subst hr
 have HF: ∀l,some r'=(π l).map full-> ∃q,π l=some q/\q.Bu b:=by
  intro l hl
  cases hp:π l with
  |none=>rw [hp] at hl;cases hl
  |some q=>rw [hp] at hl;simp only [Ah,Aa] at hl;subst hl;exact ⟨q,rfl,hb⟩
 cases c with
 |Ji τ=>cases h
 |row e te=>
  simp only [Pl] at h
  cases a<;>simp only [] at h<;>first|(cases h;done)|skip
  ·obtain ⟨q,h1,h2⟩:=HF _ h.1;exact ⟨_,Ad.2 rfl,rfl,rfl,q,h1,h2,λ_ _ _ e=>by cases e⟩
  ·obtain ⟨_,tid,xs,_,_,q,h1,h2,_⟩:=h
   exact ⟨_,Ad.2 rfl,rfl,rfl,q,h1,(h2 r' rfl b hb).1,λ_ _ _ _=>(h2 r' rfl b hb).2⟩
 |Fl e te=>
  simp only [Pl] at h
  cases a<;>simp only [] at h<;>first|(cases h;done)|skip
  ·obtain ⟨q,h1,h2⟩:=HF _ h.1;exact ⟨_,Ad.2 rfl,rfl,rfl,q,h1,h2,λ_ _ _ e=>by cases e⟩
  ·obtain ⟨_,tid,xs,_,_,q,h1,h2,_⟩:=h
   exact ⟨_,Ad.2 rfl,rfl,rfl,q,h1,(h2 r' rfl b hb).1,λ_ _ _ _=>(h2 r' rfl b hb).2⟩
 |part e te=>
  obtain ⟨_,h⟩:=h
  cases a<;>simp only [] at h<;>first|(cases h;done)|skip
  obtain ⟨q,h1,h2⟩:=HF _ h.1;exact ⟨_,Ad.2 rfl,rfl,rfl,q,h1,h2,λ_ _ _ e=>by cases e⟩
 |Bc e te kp=>
  obtain ⟨_,h⟩:=h
  cases a<;>simp only [] at h<;>first|(cases h;done)|skip
  obtain ⟨q,h1,h2⟩:=HF _ h.1;exact ⟨_,Ad.2 rfl,rfl,rfl,q,h1,h2,λ_ _ _ e=>by cases e⟩
theorem uD {io:Bool} {k:Nat} {c:CK} {a:AC} {t:Nat×Loc} (h:t∈Mx io k c a):(t.1=Cp io k/\t.2.reads=false)\/(t.1=Cp false k/\t.2.reads=true):=by
 cases c<;>cases a<;>simp [Mx,views] at h<;>first|(obtain ⟨_,_,rfl⟩:=h;simp [Loc.reads];done)|(obtain ⟨_,⟨_,_⟩,rfl⟩:=h;simp [Loc.reads];done)|(rw [h];simp [Loc.reads])
theorem ny {st:St} (h:Kc X w π st.heap) {V:List Nat} : ∀(cs:List (Bool×CK)) (k:Nat) (as:List AC) (us:List Value) (x:Ins.den cs) (tks:List (Nat×Loc)),k+cs.length<100000->Kd X w π st.heap as us->bJ st k cs as=some (x,tks)->(∀t∈tks,t.2.reads=true->t.2.Sa∈V)->
  tks=Iz k cs as/\ ∃πc:Pi,kI X w π V st.heap πc k cs x as us/\(∀l,πc l≠none-> ∃b j,k<=j/\j<k+cs.length/\l=Cp b j)/\(∀l,Ap (Ug k cs x) l=none->πc l=none)/\
   (∀c r b,πc c=some r->r.Bu b-> ∃t∈Iz k cs as,t.1=c/\t.2.reads=false/\ ∃q,π t.2.Sa=some q/\q.Bu b/\ ∀l i j,t.2= .sub l i j->b≠q.g)
 | [],k,[],[],x,tks,_,_,he,_=>by
  simp only [bJ,Aa,Ab] at he
  exact ⟨he.2.symm,λ_=>none,trivial,λl h=>absurd rfl h,λ_ _=>rfl,λc r b h=>by cases h⟩
 | [],k,[],_::_,_,_,_,h,_,_=>h.elim
 | [],k,_::_,_,_,_,_,_,he,_=>by simp [bJ] at he
 |p::r,k,[],_,_,_,_,_,he,_=>by simp [bJ] at he
 |p::r,k,a::as,[],_,_,_,h,_,_=>h.elim
 |p::r,k,a::as,u::us,x,tks,hk,hr,he,hV=>by
  simp only [bJ] at he
  split at he
  ·rename_i x1 t1 x2 t2 h1 h2
   simp only [Aa,Ab] at he
   obtain ⟨rfl,rfl⟩:=he
   simp only [Bf] at hk
   obtain ⟨e2,πc,g1,g2,g3,g4⟩:=ny h r (k+1) as us x2 t2 (by omega) hr.2 h2 λt ht=>hV t (Bp _ ht)
   have e1:=zy h1
   obtain ⟨rr,r1,r2⟩:=zx h hr.1 h1 λt ht=>hV t (Bg _ ht)
   refine ⟨by simp only [Iz];rw [e1,e2],λl=>if l=Cp p.1 k then rr else πc l,⟨by simpa using ⟨r1,r2⟩,g1.congr r (k+1) x2 as us λb j j1 j2=>Aj (xW (by omega) (by omega) (by omega))⟩,λl hl=>?_,λl hl=>?_,λc q b hc hb=>?_⟩
   ·by_cases e:l=Cp p.1 k
    ·exact ⟨p.1,k,Ao _,by simp,e⟩
    ·dsimp only at hl
     rw [Aj e] at hl
     obtain ⟨b,j,j1,j2,j3⟩:=g2 l hl
     exact ⟨b,j,by omega,by simp;omega,j3⟩
   ·simp only [Ug] at hl
    dsimp only
    by_cases e:l=Cp p.1 k
    ·rw [Af e]
     cases hc:p.2 with
     |Ji τ=>
      revert r2
      generalize p.2=c at*
      subst hc
      intro r2;exact r2
     |row e' te=>
      exfalso
      generalize p.2=c at*
      subst hc
      simp only [eF,cU,Ap,Af e.symm] at hl
      cases hl
     |Fl e' te=>
      exfalso
      generalize p.2=c at*
      subst hc
      simp only [eF,cU,Ap,Af e.symm] at hl
      cases hl
     |part e' te=>
      exfalso
      generalize p.2=c at*
      subst hc
      simp only [eF,cU,Ap,Af e.symm] at hl
      cases hl
     |Bc e' te kp=>
      exfalso
      generalize p.2=c at*
      subst hc
      simp only [eF,cU,Ap,Af e.symm] at hl
      cases hl
    ·rw [Aj e]
     refine g3 l ?_
     cases hc:eF (Cp p.1 k) p.2 x1 with
     |none=>rw [hc] at hl;exact hl
     |some b=>rw [hc] at hl;simp only [cU,Ap,Aj (Fo e)] at hl;exact hl
   ·dsimp only at hc
    by_cases e:c=Cp p.1 k
    ·rw [Af e] at hc
     obtain ⟨t,t1,t0,t2⟩:=r2.Bu k hc hb
     exact ⟨t,by simp only [Iz];exact Bg _ t1,by rw [t0,e],t2⟩
    ·rw [Aj e] at hc
     obtain ⟨t,t1,t2⟩:=g4 c q b hc hb
     exact ⟨t,by simp only [Iz];exact Bp _ t1,t2⟩
  ·cases he
end
end Go.Proofs.Ytfgfigkbgecfnaa
