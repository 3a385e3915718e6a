/-
  Part 16 of the proof that the statement FnExactProvesNoSolutionWithin holds.
-/
import Derived.Test.YtfolipnappekaaaGreatCProvesNoSolutionWithin14
namespace Go.Proofs.YtfolipnappekaaaGreat
open Go.RowKit
section
variable {P:Program} {T:Tab} {X:Ctx} {w w':World} {π π':Pi} {H H':List (Nat×OB)}
def Io (X:Ctx) (w:World) (π:Pi) (H:List (Nat×OB)):List AC->List Value->Prop
 | [],[]=>True
 |a::as,u::us=>Dv X w π H a u/\Io X w π H as us
 |_,_=>False
theorem Io.append {as bs:List AC} {us vs:List Value} (h1:Io X w π H as us) (h2:Io X w π H bs vs):Io X w π H (as++bs) (us++vs):=by
 induction as generalizing us with
 |nil=>cases us with
  |nil=>exact h2
  |cons u us=>exact h1.elim
 |cons a as ih=>cases us with
  |nil=>exact h1.elim
  |cons u us=>exact ⟨h1.1,ih h1.2⟩
theorem Io.of: ∀ {cs:List AC} {us:List Value},Da X w π H cs us->Io X w π H cs us
 | [],[],_=>trivial
 | [],u::us,h=>by have:=h.1;simp at this
 |c::cs,[],h=>by have:=h.1;simp at this
 |c::cs,u::us,h=>by
  obtain ⟨u',h1,_,h2⟩:=h.2 0 c rfl
  simp at h1;subst h1
  exact ⟨h2,Io.of ⟨by have:=h.1;simpa using this,λi c' hc=>by
   obtain ⟨u',h3,h4⟩:=h.2 (i+1) c' (by simpa using hc)
   exact ⟨u',by simpa using h3,h4⟩⟩⟩
theorem Io.to: ∀ {cs:List AC} {us:List Value},Io X w π H cs us->(∀u∈us,u.oneCell'=true)->Da X w π H cs us
 | [],[],_,_=>⟨rfl,λi c hc=>by simp at hc⟩
 | [],u::us,h,_=>h.elim
 |c::cs,[],h,_=>h.elim
 |c::cs,u::us,h,ho=>by
  have ih:=Io.to h.2 λv hv=>ho v (List.mem_cons_of_mem _ hv)
  refine ⟨by simp [ih.1],λi c' hc=>?_⟩
  rcases i with _|i
  ·simp at hc;subst hc;exact ⟨u,rfl,ho u (by simp),h.1⟩
  ·obtain ⟨u',h3,h4⟩:=ih.2 i c' (by simpa using hc)
   exact ⟨u',by simpa using h3,h4⟩
theorem Io.take: ∀ {cs:List AC} {us:List Value} (n:Nat),Io X w π H cs us->Io X w π H (cs.take n) (us.take n)/\Io X w π H (cs.drop n) (us.drop n)
 |cs,us,0,h=>by simpa [Io] using h
 | [],[],n+1,_=>by simp [Io]
 | [],u::us,n+1,h=>h.elim
 |c::cs,[],n+1,h=>h.elim
 |c::cs,u::us,n+1,h=>by
  have:=Io.take n h.2
  exact ⟨⟨h.1,this.1⟩,this.2⟩
theorem Uw: ∀(sh:List (Option Nat)) (jv:List AV) (vs:List Value) (as:List AC),jv.length=vs.length->(∀(i:Nat) c v,jv[i]?=some c->vs[i]?=some v->Ao X w π H c v)->ungroup sh jv=some as->
  ∃us,vs=Gi sh us/\Zk sh us/\Io X w π H as us
 | [],[],vs,as,hl,_,he=>by
  simp only [ungroup,Option.some.injEq] at he;subst he
  have:vs= []:=List.eq_nil_of_length_eq_zero hl.symm
  subst this
  exact ⟨[],rfl,trivial,trivial⟩
 |none::sh, .at a::jv,vs,as,hl,hr,he=>by
  simp only [ungroup] at he
  cases hu:ungroup sh jv with
  |none=>rw [hu] at he;cases he
  |some r=>
   rw [hu] at he
   simp only [Option.map_some,Option.some.injEq] at he;subst he
   cases vs with
   |nil=>simp at hl
   |cons v vs=>
    obtain ⟨us,h1,h2,h3⟩:=Uw sh jv vs r (by simpa using hl) (λi c v hc hv=>hr (i+1) c v (by simpa using hc) (by simpa using hv)) hu
    exact ⟨v::us,by rw [h1];rfl,h2,hr 0 _ v rfl rfl,h3⟩
 |some n::sh, .agg cs::jv,vs,as,hl,hr,he=>by
  simp only [ungroup] at he
  split at he
  ·rename_i hn
   cases hu:ungroup sh jv with
   |none=>rw [hu] at he;cases he
   |some r=>
    rw [hu] at he
    simp only [Option.map_some,Option.some.injEq] at he;subst he
    cases vs with
    |nil=>simp at hl
    |cons v vs=>
     obtain ⟨us,h1,h2,h3⟩:=Uw sh jv vs r (by simpa using hl) (λi c v hc hv=>hr (i+1) c v (by simpa using hc) (by simpa using hv)) hu
     obtain ⟨ws,rfl,h4⟩:=hr 0 _ v rfl rfl
     have MH:ws.length=n:=by rw [<-hn];exact h4.1
     refine ⟨ws++us,?_,⟨by simp [MH],?_,?_⟩,(Io.of h4).append h3⟩
     ·rw [h1];simp only [Gi];rw [List.take_left' MH,List.drop_left' MH]
     ·rw [List.take_left' MH]
      intro u hu
      obtain ⟨j,hj,rfl⟩:=List.getElem_of_mem hu
      obtain ⟨u',h5,h6,_⟩:=h4.2 j (cs[j]'(by have:=h4.1;omega)) (List.getElem?_eq_getElem _)
      rw [List.getElem?_eq_getElem hj] at h5
      simp only [Option.some.injEq] at h5
      rw [h5];exact h6
     ·rw [List.drop_left' MH];exact h2
  ·cases he
 |some n::sh, .at (.data fr τ x)::jv,vs,as,hl,hr,he=>by
  simp only [ungroup] at he
  split at he
  ·rename_i hn
   cases hu:ungroup sh jv with
   |none=>rw [hu] at he;cases he
   |some r=>
    rw [hu] at he
    simp only [Option.map_some,Option.some.injEq] at he;subst he
    cases vs with
    |nil=>simp at hl
    |cons v vs=>
     obtain ⟨us,h1,h2,h3⟩:=Uw sh jv vs r (by simpa using hl) (λi c v hc hv=>hr (i+1) c v (by simpa using hc) (by simpa using hv)) hu
     obtain ⟨ws,h0,hv⟩:=hr 0 _ v rfl rfl
     have h4:=mT (X:=X) (H:=H) τ ws x h0
     have hv:v= .agg ws.toArray:=by rw [hv];unfold Au;rw [if_pos hn.1]
     subst hv
     have MH:ws.length=n:=by rw [<-hn.2];exact h4.1
     refine ⟨ws++us,?_,⟨by simp [MH],?_,?_⟩,(Io.of h4).append h3⟩
     ·rw [h1];simp only [Gi];rw [List.take_left' MH,List.drop_left' MH]
     ·rw [List.take_left' MH]
      intro u hu
      obtain ⟨j,hj,rfl⟩:=List.getElem_of_mem hu
      obtain ⟨u',h5,h6,_⟩:=h4.2 j ((Nf fr τ x)[j]'(by have:=h4.1;omega)) (List.getElem?_eq_getElem _)
      rw [List.getElem?_eq_getElem hj] at h5
      simp only [Option.some.injEq] at h5
      rw [h5];exact h6
     ·rw [List.drop_left' MH];exact h2
  ·cases he
 | [],_::_,_,_,_,_,he=>by simp [ungroup] at he
 |none::_,[],_,_,_,_,he=>by simp [ungroup] at he
 |none::_, .agg _::_,_,_,_,_,he=>by simp [ungroup] at he
 |none::_, .Xa _ _ _::_,_,_,_,_,he=>by simp [ungroup] at he
 |none::_, .Ih _::_,_,_,_,_,he=>by simp [ungroup] at he
 |some _::_,[],_,_,_,_,he=>by simp [ungroup] at he
 |some _::_, .at .undef::_,_,_,_,_,he=>by simp [ungroup] at he
 |some _::_, .at .skip::_,_,_,_,_,he=>by simp [ungroup] at he
 |some _::_, .at .Hr::_,_,_,_,_,he=>by simp [ungroup] at he
 |some _::_, .at .Rp::_,_,_,_,_,he=>by simp [ungroup] at he
 |some _::_, .at (.own _ _ _)::_,_,_,_,_,he=>by simp [ungroup] at he
 |some _::_, .at (.Dt _ _)::_,_,_,_,_,he=>by simp [ungroup] at he
 |some _::_, .at (.Fy _ _)::_,_,_,_,_,he=>by simp [ungroup] at he
 |some _::_, .at (.sub _ _ _)::_,_,_,_,_,he=>by simp [ungroup] at he
 |some _::_, .at (.Fu _ _ _)::_,_,_,_,_,he=>by simp [ungroup] at he
 |some _::_, .at (.clo _ _)::_,_,_,_,_,he=>by simp [ungroup] at he
 |some _::_, .at (.Gd _)::_,_,_,_,_,he=>by simp [ungroup] at he
 |some _::_, .Xa _ _ _::_,_,_,_,_,he=>by simp [ungroup] at he
 |some _::_, .Ih _::_,_,_,_,_,he=>by simp [ungroup] at he
theorem aH: ∀(sh:List (Option Nat)) (as:List AC) (us:List Value),Zk sh us->Io X w π H as us->
  (Nu sh as).length=(Gi sh us).length/\(∀(i:Nat) c v,(Nu sh as)[i]?=some c->(Gi sh us)[i]?=some v->Ao X w π H c v)/\
  (Vh sh as).length=(Gi sh us).length/\(∀(i:Nat) p v,(Vh sh as)[i]?=some p->(Gi sh us)[i]?=some v->bn X w π H p v)
 | [],[],[],_,_=>⟨rfl,λi c v hc=>by simp [Nu] at hc,rfl,λi c v hc=>by simp [Vh] at hc⟩
 | [],_::_,[],_,h=>h.elim
 |none::_,_,[],h,_=>h.elim
 | [],_,_::_,h,_=>h.elim
 |none::sh,[],u::us,_,h=>h.elim
 |none::sh,a::as,u::us,hs,h=>by
  obtain ⟨h1,h2,h3,h4⟩:=aH sh as us hs h.2
  refine ⟨by simp [Nu,Gi,h1],λi c v hc hv=>?_,by simp [Vh,Gi,h3],λi p v hp hv=>?_⟩
  ·rcases i with _|i
   ·simp [Nu,Gi] at hc hv;subst hc;subst hv;exact h.1
   ·exact h2 i c v (by simpa [Nu] using hc) (by simpa [Gi] using hv)
  ·rcases i with _|i
   ·simp [Vh,Gi] at hp hv;subst hp;subst hv
    unfold bn
    rw [if_neg (by simp)]
    intro a' ha;simp at ha;subst ha;exact h.1
   ·exact h4 i p v (by simpa [Vh] using hp) (by simpa [Gi] using hv)
 |some n::sh,as,us,hs,h=>by
  obtain ⟨bD,jl,hs3⟩:=hs
  obtain ⟨k1,k2⟩:=Io.take n h
  obtain ⟨h1,h2,h3,h4⟩:=aH sh (as.drop n) (us.drop n) hs3 k2
  have k3:=Io.to k1 jl
  refine ⟨by simp [Nu,Gi,h1],λi c v hc hv=>?_,by simp [Vh,Gi,h3],λi p v hp hv=>?_⟩
  ·rcases i with _|i
   ·simp only [Nu,Gi,List.getElem?_cons_zero,Option.some.injEq] at hc hv;subst hc;subst hv;exact ⟨_,rfl,k3⟩
   ·exact h2 i c v (by simpa [Nu] using hc) (by simpa [Gi] using hv)
  ·rcases i with _|i
   ·simp only [Vh,Gi,List.getElem?_cons_zero,Option.some.injEq] at hp hv;subst hp;subst hv
    unfold bn
    rw [if_pos rfl]
    exact ⟨_,rfl,k3⟩
   ·exact h4 i p v (by simpa [Vh] using hp) (by simpa [Gi] using hv)
def Lk (io:Bool) (k:Nat):CK->AC->List (Nat×Loc)
 | .Dm _, .own l _ _=> [(Bu false k, .view l)]
 | .Dm _, .clo _ Ca=>views k (Ca.map (·.1))
 | .Dm _, .Dt l _=>views k [l]
 | .Dm _, .sub l _ _=> [(Bu false k, .view l)]
 | .Dm _,_=> []
 |_, .own l _ _=> [(Bu io k, .row l)]
 |_, .sub l i c=> [(Bu io k, .sub l i c)]
 |_,_=> []
def Hf:Nat->List (Bool×CK)->List AC->List (Nat×Loc)
 |k,p::r,a::as=>Lk p.1 k p.2 a++Hf (k+1) r as
 |_,_,_=> []
theorem OQ {st:St} {io:Bool} {k:Nat} {c:CK} {a:AC} {x:c.den} {tks:List (Nat×Loc)} (he:Hl st io k c a=some (x,tks)):tks=Lk io k c a:=by
 cases c with
 |Dm τ=>
  cases a with
  |own l off len=>
   simp only [Hl] at he
   cases hv:Bp st τ (.own l off len) with
   |none=>rw [hv] at he;cases he
   |some p=>rw [hv] at he;simp only [Option.map_some,Option.some.injEq,Prod.mk.injEq] at he;exact he.2.symm
  |clo g Ca=>
   simp only [Hl] at he
   split at he
   ·cases hv:Fp st τ (.clo g Ca) with
    |none=>rw [hv] at he;cases he
    |some p=>rw [hv] at he;simp only [Option.map_some,Option.some.injEq,Prod.mk.injEq] at he;exact he.2.symm
   ·cases he
  |Dt l i=>
   simp only [Hl] at he
   split at he
   ·cases hv:Fp st τ (.Dt l i) with
    |none=>rw [hv] at he;cases he
    |some p=>rw [hv] at he;simp only [Option.map_some,Option.some.injEq,Prod.mk.injEq] at he;exact he.2.symm
   ·cases he
  |sub l i c=>
   simp only [Hl] at he
   cases hv:Bp st τ (.sub l i c) with
   |none=>rw [hv] at he;cases he
   |some p=>rw [hv] at he;simp only [Option.map_some,Option.some.injEq,Prod.mk.injEq] at he;exact he.2.symm
  |_=>
   simp only [Hl] at he
   split at he
   ·first
     |(rename_i hc;cases hv:Bp st τ _ with
      |none=>rw [hv] at he;cases he
      |some p=>rw [hv] at he;simp only [Option.map_some,Option.some.injEq,Prod.mk.injEq] at he;exact he.2.symm)
   ·cases he
 |row e te=>
  cases a<;>simp only [Hl] at he<;>try (cases he;done)
  ·simp only [Option.some.injEq,Prod.mk.injEq] at he;exact he.2.symm
  ·split at he
   ·split at he
    ·simp only [Option.some.injEq,Prod.mk.injEq] at he;exact he.2.symm
    ·cases he
   ·cases he
  ·rename_i l i c
   split at he
   ·rename_i e' tid xs hl
    split at he
    ·cases hx:xs[i]? with
     |none=>rw [hx] at he;cases he
     |some y=>rw [hx] at he;simp only [Option.map_some,Option.some.injEq,Prod.mk.injEq] at he;exact he.2.symm
    ·cases he
   ·cases he
 |Du e te=>
  cases a<;>simp only [Hl] at he<;>try (cases he;done)
  ·simp only [Option.some.injEq,Prod.mk.injEq] at he;exact he.2.symm
  ·split at he
   ·split at he
    ·simp only [Option.some.injEq,Prod.mk.injEq] at he;exact he.2.symm
    ·cases he
   ·cases he
  ·rename_i l i c
   split at he
   ·rename_i e' tid xs hl
    split at he
    ·cases hx:xs[i]? with
     |none=>rw [hx] at he;cases he
     |some y=>rw [hx] at he;simp only [Option.map_some,Option.some.injEq,Prod.mk.injEq] at he;exact he.2.symm
    ·cases he
   ·cases he
 |part e te=>
  cases a<;>simp only [Hl] at he<;>try (cases he;done)
  split at he
  ·split at he
   ·simp only [Option.some.injEq,Prod.mk.injEq] at he;exact he.2.symm
   ·cases he
  ·cases he
 |Al e te kp=>
  cases a<;>simp only [Hl] at he<;>try (cases he;done)
  split at he
  ·split at he
   ·simp only [Option.some.injEq,Prod.mk.injEq] at he;exact he.2.symm
   ·cases he
  ·cases he
theorem Vm.En {D D':Nat->Prop} {r:Option Real} {e:Ty} {rows:List (List e.den)} (h:Vm w D r e rows none) (hD: ∀b,D' b->D b):Vm w D' r e rows none:=
 h.Cn (λ_ _ _ _ _=>rfl) λes x hc=>Cells.Cn (Nat.le_refl _) (λ_ _ _=>rfl) (λb _ hb=>hD b hb) e es x hc
def nU (X:Ctx) (w:World) (π:Pi) (V:List Nat) (H:List (Nat×OB)) (πc:Pi):(k:Nat)->(cs:List (Bool×CK))->Ins.den cs->List AC->List Value->Prop
 |_,[],_,[],[]=>True
 |k,p::r,x,a::as,u::us=>(bl w (Jy X π V) (πc (Bu p.1 k)) u p.2 x.1/\Of w π H p.1 a u (πc (Bu p.1 k)) p.2 x.1)/\nU X w π V H πc (k+1) r x.2 as us
 |_,_,_,_,_=>False
theorem KO {b b':Bool} {k j:Nat} (hk:k<100000) (hj:j<100000) (h:k≠j):Bu b k≠Bu b' j:=by
 unfold Bu;cases b<;>cases b'<;>simp<;>omega
theorem nU.congr {V:List Nat} {πc Aje:Pi} : ∀(cs:List (Bool×CK)) (k:Nat) (x:Ins.den cs) (as:List AC) (us:List Value),(∀b j,k<=j->j<k+cs.length->Aje (Bu b j)=πc (Bu b j))->nU X w π V H πc k cs x as us->nU X w π V H Aje k cs x as us
 | [],_,_,[],[],_,h=>h
 | [],_,_,_::_,_,_,h=>h.elim
 | [],_,_,[],_::_,_,h=>h.elim
 |_::_,_,_,[],_,_,h=>h.elim
 |_::_,_,_,_::_,[],_,h=>h.elim
 |p::r,k,x,a::as,u::us,hc,h=>⟨by rw [hc p.1 k (Nat.le_refl _) (by simp)];exact h.1,nU.congr r (k+1) x.2 as us (λb j h1 h2=>hc b j (by omega) (by simp;omega)) h.2⟩
theorem nU.Ai0 {V:List Nat} {πc:Pi} : ∀(cs:List (Bool×CK)) (k:Nat) (x:Ins.den cs) (as:List AC) (us:List Value),nU X w π V H πc k cs x as us->bm w (Jy X π V) πc k cs x us
 | [],_,_,[],[],h=>h
 | [],_,_,_::_,_,h=>h.elim
 | [],_,_,[],_::_,h=>h.elim
 |_p::_r,_k,_x,[],_,h=>h.elim
 |_p::_r,_k,_x,_::_,[],h=>h.elim
 |_p::r,k,x,_a::as,_u::us,h=>⟨h.1.1,nU.Ai0 r (k+1) x.2 as us h.2⟩
theorem Nq.En {D D':Nat->Prop} {r:Option Real} {e:Ty} {xs:List e.den} (h:Nq w D r e xs) (hD: ∀b,D' b->D b):Nq w D' r e xs:=by
 cases r with
 |none=>exact h
 |some r=>
  obtain ⟨k1,cu,ti,k2,k3,k4,k5,k6⟩:=h
  exact ⟨k1,cu,ti,k2,k3,k4,k5,λi y hy=>by
   obtain ⟨es,g1,g2,g3⟩:=k6 i y hy
   exact ⟨es,g1,g2,Cells.Cn (Nat.le_refl _) (λ_ _ _=>rfl) (λb _ hb=>hD b hb) e es y g3⟩⟩
theorem bm.En {D D':Nat->Prop} {πc:Pi} (hD: ∀b,D' b->D b): ∀(cs:List (Bool×CK)) (k:Nat) (x:Ins.den cs) (us:List Value),bm w D πc k cs x us->bm w D' πc k cs x us
 | [],_,_,[],h=>h
 | [],_,_,_::_,h=>h.elim
 |p::r,k,x,[],h=>h.elim
 |(io,c)::r,k,x,u::us,h=>⟨by
   have:=h.1
   cases c with
   |Dm τ=>exact ⟨this.1,this.2.En λb _ hb=>hD b hb⟩
   |row e te=>exact ⟨this.1,this.2.En hD⟩
   |Du e te=>exact this
   |Al e te kp=>exact ⟨this.1,Vm.En this.2 hD⟩
   |part e te=>exact ⟨this.1,this.2.1,this.2.2.En hD⟩,bm.En hD r (k+1) x.2 us h.2⟩
theorem Of.Bg {io:Bool} {a:AC} {u:Value} {r:Option Real} {c:CK} {x:c.den} (k:Nat) (h:Of w π H io a u r c x) {r':Real} (hr:r=some r') {b:Nat} (hb:r'.Bg b):
  ∃t,t∈Lk io k c a/\t.1=Bu io k/\t.2.reads=false/\ ∃q,π t.2.Ro=some q/\q.Bg b/\ ∀l i j,t.2= .sub l i j->b≠q.g:=by
 subst hr
 have YY: ∀l,some r'=(π l).map full-> ∃q,π l=some q/\q.Bg b:=by
  intro l hl
  cases hp:π l with
  |none=>rw [hp] at hl;cases hl
  |some q=>rw [hp] at hl;simp only [Option.map_some,Option.some.injEq] at hl;subst hl;exact ⟨q,rfl,hb⟩
 cases c with
 |Dm τ=>cases h
 |row e te=>
  simp only [Of] at h
  cases a<;>simp only [] at h<;>first|(cases h;done)|skip
  ·obtain ⟨q,h1,h2⟩:=YY _ h.1;exact ⟨_,List.mem_singleton.2 rfl,rfl,rfl,q,h1,h2,λ_ _ _ e=>by cases e⟩
  ·obtain ⟨_,tid,xs,_,_,q,h1,h2,_⟩:=h
   exact ⟨_,List.mem_singleton.2 rfl,rfl,rfl,q,h1,(h2 r' rfl b hb).1,λ_ _ _ _=>(h2 r' rfl b hb).2⟩
 |Du e te=>
  simp only [Of] at h
  cases a<;>simp only [] at h<;>first|(cases h;done)|skip
  ·obtain ⟨q,h1,h2⟩:=YY _ h.1;exact ⟨_,List.mem_singleton.2 rfl,rfl,rfl,q,h1,h2,λ_ _ _ e=>by cases e⟩
  ·obtain ⟨_,tid,xs,_,_,q,h1,h2,_⟩:=h
   exact ⟨_,List.mem_singleton.2 rfl,rfl,rfl,q,h1,(h2 r' rfl b hb).1,λ_ _ _ _=>(h2 r' rfl b hb).2⟩
 |part e te=>
  obtain ⟨_,h⟩:=h
  cases a<;>simp only [] at h<;>first|(cases h;done)|skip
  obtain ⟨q,h1,h2⟩:=YY _ h.1;exact ⟨_,List.mem_singleton.2 rfl,rfl,rfl,q,h1,h2,λ_ _ _ e=>by cases e⟩
 |Al e te kp=>
  obtain ⟨_,h⟩:=h
  cases a<;>simp only [] at h<;>first|(cases h;done)|skip
  obtain ⟨q,h1,h2⟩:=YY _ h.1;exact ⟨_,List.mem_singleton.2 rfl,rfl,rfl,q,h1,h2,λ_ _ _ e=>by cases e⟩
theorem BN {io:Bool} {k:Nat} {c:CK} {a:AC} {t:Nat×Loc} (h:t∈Lk io k c a):(t.1=Bu io k/\t.2.reads=false)\/(t.1=Bu false k/\t.2.reads=true):=by
 cases c<;>cases a<;>simp [Lk,views] at h<;>first|(obtain ⟨_,_,rfl⟩:=h;simp [Loc.reads];done)|(obtain ⟨_,⟨_,_⟩,rfl⟩:=h;simp [Loc.reads];done)|(rw [h];simp [Loc.reads])
theorem rO {st:St} (h:Im X w π st.heap) {V:List Nat} : ∀(cs:List (Bool×CK)) (k:Nat) (as:List AC) (us:List Value) (x:Ins.den cs) (tks:List (Nat×Loc)),k+cs.length<100000->Io X w π st.heap as us->ck st k cs as=some (x,tks)->(∀t∈tks,t.2.reads=true->t.2.Ro∈V)->
  tks=Hf k cs as/\ ∃πc:Pi,nU X w π V st.heap πc k cs x as us/\(∀l,πc l≠none-> ∃b j,k<=j/\j<k+cs.length/\l=Bu b j)/\(∀l,Ad (Ul k cs x) l=none->πc l=none)/\
   (∀c r b,πc c=some r->r.Bg b-> ∃t∈Hf k cs as,t.1=c/\t.2.reads=false/\ ∃q,π t.2.Ro=some q/\q.Bg b/\ ∀l i j,t.2= .sub l i j->b≠q.g)
 | [],k,[],[],x,tks,_,_,he,_=>by
  simp only [ck,Option.some.injEq,Prod.mk.injEq] at he
  exact ⟨he.2.symm,λ_=>none,trivial,λl h=>absurd rfl h,λ_ _=>rfl,λc r b h=>by cases h⟩
 | [],k,[],_::_,_,_,_,h,_,_=>h.elim
 | [],k,_::_,_,_,_,_,_,he,_=>by simp [ck] at he
 |p::r,k,[],_,_,_,_,_,he,_=>by simp [ck] at he
 |p::r,k,a::as,[],_,_,_,h,_,_=>h.elim
 |p::r,k,a::as,u::us,x,tks,hk,hr,he,hV=>by
  simp only [ck] at he
  split at he
  ·rename_i x1 t1 x2 t2 h1 h2
   simp only [Option.some.injEq,Prod.mk.injEq] at he
   obtain ⟨rfl,rfl⟩:=he
   simp only [List.length_cons] at hk
   obtain ⟨e2,πc,g1,g2,g3,g4⟩:=rO h r (k+1) as us x2 t2 (by omega) hr.2 h2 λt ht=>hV t (List.mem_append_right _ ht)
   have e1:=OQ h1
   obtain ⟨rr,r1,r2⟩:=OP h hr.1 h1 λt ht=>hV t (List.mem_append_left _ ht)
   refine ⟨by simp only [Hf];rw [e1,e2],λl=>if l=Bu p.1 k then rr else πc l,⟨by simpa using ⟨r1,r2⟩,g1.congr r (k+1) x2 as us λb j j1 j2=>if_neg (KO (by omega) (by omega) (by omega))⟩,λl hl=>?_,λl hl=>?_,λc q b hc hb=>?_⟩
   ·by_cases e:l=Bu p.1 k
    ·exact ⟨p.1,k,Nat.le_refl _,by simp,e⟩
    ·dsimp only at hl
     rw [if_neg e] at hl
     obtain ⟨b,j,j1,j2,j3⟩:=g2 l hl
     exact ⟨b,j,by omega,by simp;omega,j3⟩
   ·simp only [Ul] at hl
    dsimp only
    by_cases e:l=Bu p.1 k
    ·rw [if_pos e]
     cases hc:p.2 with
     |Dm τ=>
      revert r2
      generalize p.2=c at*
      subst hc
      intro r2;exact r2
     |row e' te=>
      exfalso
      generalize p.2=c at*
      subst hc
      simp only [ga,du,Ad,if_pos e.symm] at hl
      cases hl
     |Du e' te=>
      exfalso
      generalize p.2=c at*
      subst hc
      simp only [ga,du,Ad,if_pos e.symm] at hl
      cases hl
     |part e' te=>
      exfalso
      generalize p.2=c at*
      subst hc
      simp only [ga,du,Ad,if_pos e.symm] at hl
      cases hl
     |Al e' te kp=>
      exfalso
      generalize p.2=c at*
      subst hc
      simp only [ga,du,Ad,if_pos e.symm] at hl
      cases hl
    ·rw [if_neg e]
     refine g3 l ?_
     cases hc:ga (Bu p.1 k) p.2 x1 with
     |none=>rw [hc] at hl;exact hl
     |some b=>rw [hc] at hl;simp only [du,Ad,if_neg (Ne.symm e)] at hl;exact hl
   ·dsimp only at hc
    by_cases e:c=Bu p.1 k
    ·rw [if_pos e] at hc
     obtain ⟨t,t1,t0,t2⟩:=r2.Bg k hc hb
     exact ⟨t,by simp only [Hf];exact List.mem_append_left _ t1,by rw [t0,e],t2⟩
    ·rw [if_neg e] at hc
     obtain ⟨t,t1,t2⟩:=g4 c q b hc hb
     exact ⟨t,by simp only [Hf];exact List.mem_append_right _ t1,t2⟩
  ·cases he
end
end Go.Proofs.YtfolipnappekaaaGreat
