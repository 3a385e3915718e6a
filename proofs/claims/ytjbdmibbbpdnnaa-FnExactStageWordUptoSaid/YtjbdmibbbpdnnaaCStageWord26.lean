/-
  Part 27 of the proof that the statement FnExactStageWord holds.
-/
import Derived.Test.YtjbdmibbbpdnnaaCStageWord25
namespace Go.Proofs.Ytjbdmibbbpdnnaa
open Go.RowKit
section
variable {P:Program} {T:Tab} {Γ:Env} {X:Ctx} {w w':World} {π:Pi} {H:List (Nat×OB)}
theorem mB: ∀(cs:List (Bool×CK)) (k:Nat) (x:Ins.den cs) (l:Nat),Ae (Ry k cs x) l≠none-> ∃b j,k<=j/\j<k+cs.length/\l=Bo b j
 | [],_,_,_,h=>absurd rfl h
 |p::r,k,x,l,h=>by
  simp only [Ry] at h
  by_cases e:l=Bo p.1 k
  ·exact ⟨p.1,k,Nat.le_refl _,by simp,e⟩
  ·have:Ae (Ry (k+1) r x.2) l≠none:=by
    cases hc:dH (Bo p.1 k) p.2 x.1 with
    |none=>rw [hc] at h;exact h
    |some b=>rw [hc] at h;simpa only [bI,Ae,if_neg (Ne.symm e)] using h
   obtain ⟨b,j,h1,h2,h3⟩:=mB r (k+1) x.2 l this
   exact ⟨b,j,by omega,by simp;omega,h3⟩
theorem CJ {p:Bool×CK} {r:List (Bool×CK)} {k:Nat} {x:Ins.den (p::r)} (hk:k+(r.length+1)<100000) {l:Nat} {b:OB} (h:Ae (Ry (k+1) r x.2) l=some b):Ae (Ry k (p::r) x) l=some b:=by
 obtain ⟨b',j,h1,h2,rfl⟩:=mB r (k+1) x.2 l (by rw [h];simp)
 simp only [Ry]
 cases dH (Bo p.1 k) p.2 x.1 with
 |none=>exact h
 |some c=>simp only [bI,Ae];rw [if_neg (AT (by omega) (by omega) (by omega))];exact h
theorem GV {D:Nat->Prop} (hD: ∀b,Bc X.w0.heap.size X.Sc π false b->D b) (UD:X.w0=w) {l:Nat} {r:Option Real} (Ye:X.cw l=r.map full) {u:Value} {c:CK} {x:c.den} (h:Za w D r u c x) {b:OB} (hb:dH l c x=some b):At X w π H (r.map full) b:=by
 have Rv: ∀ {e:Ty} {es:List Value} {y:e.den},Cells w D e es y->Cells w (Bc X.w0.heap.size X.Sc π false) e es y:= λ {e es y} h=>Cells.Cs (Nat.le_refl _) (λ_ _ _=>rfl) (λb _ hb=>hD b hb) e es y h
 cases c with
 |Fc τ=>cases hb
 |row e te=>
  simp only [dH,Option.some.injEq] at hb;subst hb
  obtain ⟨_,h⟩:=h
  simp only [aI] at h
  simp only [At,Fe]
  cases r with
  |none=>exact h
  |some q=>
   obtain ⟨k1,cu,ti,k2,k3,k4,k5,k6⟩:=h
   exact ⟨⟨k1.1,k1.2,λh=>by cases h⟩,cu,ti,k2,k3,k4,k5,λi y hy=>by
    obtain ⟨es,g1,g2,g3⟩:=k6 i y hy
    exact ⟨es,g1,g2,Rv g3⟩,λh=>by cases h⟩
 |Du e te=>
  simp only [dH,Option.some.injEq] at hb;subst hb
  cases r<;>exact h.2
 |part e te=>
  simp only [dH,Option.some.injEq] at hb;subst hb
  obtain ⟨_,hf,h⟩:=h
  simp only [At,Fe]
  cases r with
  |none=>exact h
  |some q=>
   obtain ⟨k1,cu,ti,k2,k3,k4,k5,k6⟩:=h
   exact ⟨⟨k1.1,k1.2,λh=>by cases h⟩,cu,ti,k2,k3,k4,k5,λi y hy=>by
    obtain ⟨es,g1,g2,g3⟩:=k6 i y hy
    exact ⟨es,g1,g2,Rv g3⟩,λh=>by cases h⟩
 |Ak e te kp=>
  simp only [dH,Option.some.injEq] at hb;subst hb
  have h2:Sq w D r e x none:=h.2
  have h3:=Sq.Es h2 hD
  refine ⟨by cases r<;>exact h3,?_⟩
  cases kp with
  |false=>trivial
  |true=>
   simp only [if_true,KeptAt]
   rw [Ye]
   cases r with
   |none=>trivial
   |some q=>exact ⟨rfl,rfl,rfl,λj _ _=>by rw [UD]⟩
theorem fo {D:Nat->Prop} (hD: ∀b,Bc X.w0.heap.size X.Sc π false b->D b) (UD:X.w0=w) {π0:Pi} (Ye: ∀l,X.cw l=(π0 l).map full): ∀(cs:List (Bool×CK)) (k:Nat) (x:Ins.den cs) (us:List Value),Zb w D π0 k cs x us-> ∀l b,Ae (Ry k cs x) l=some b->At X w π H ((π0 l).map full) b
 | [],_,_,_,_,_,_,h=>by cases h
 |_::_,_,_,[],h,_,_,_=>h.elim
 |p::r,k,x,u::us,h,l,b,hb=>by
  simp only [Ry] at hb
  cases hc:dH (Bo p.1 k) p.2 x.1 with
  |none=>rw [hc] at hb;exact fo hD UD Ye r (k+1) x.2 us h.2 l b hb
  |some c=>
   rw [hc] at hb
   simp only [bI,Ae] at hb
   split at hb
   ·rename_i e;subst e
    simp only [Option.some.injEq] at hb;subst hb
    exact GV hD UD (Ye _) h.1 hc
   ·exact fo hD UD Ye r (k+1) x.2 us h.2 l b hb
theorem ve {S:Nat->Prop} {π0:Pi} {gv:Nat->Prop} {cw:Pi} (Yd: ∀l,π l=(π0 l).map full): ∀(cs:List (Bool×CK)) (k:Nat) (x:Ins.den cs) (us:List Value),k+cs.length<100000->Zb w (λb=>Oi π0 b\/S b) π0 k cs x us->(∀l b,Ae (Ry k cs x) l=some b->Ae H l=some b)->
  Hv ⟨w,S,gv,cw⟩ w π H (Us k cs x) us
 | [],_,_,[],_,_,_=>trivial
 | [],_,_,_::_,_,h,_=>h.elim
 |_::_,_,_,[],_,h,_=>h.elim
 |p::r,k,x,u::us,hk,h,hH=>by
  simp only [List.length_cons] at hk
  refine ⟨?_,ve Yd r (k+1) x.2 us (by omega) h.2 λl b hb=>hH l b (CJ hk hb)⟩
  have h1:=h.1
  have hh: ∀b,dH (Bo p.1 k) p.2 x.1=some b->Ae H (Bo p.1 k)=some b:= λb hb=>hH _ b (by simp only [Ry];rw [hb];simp [bI,Ae])
  have dr:=Yd (Bo p.1 k)
  obtain ⟨io,c⟩:=p
  dsimp only at h1 hh dr⊢
  generalize x.1=y at*
  cases c with
  |Fc τ=>
   show Bb w _ τ u y
   cases hf:τ.flat with
   |true=>exact Bb.flat hf h1.2
   |false=>
    refine h1.2.Es λb _ hb=>?_
    rcases hb with ⟨l,q,h3,h4⟩|hb|⟨hb,_⟩
    ·rw [Yd l] at h3
     cases hp:π0 l with
     |none=>rw [hp] at h3;cases h3
     |some q0=>rw [hp] at h3;simp only [Option.map_some,Option.some.injEq] at h3;subst h3;exact .inl ⟨l,q0,hp,h4⟩
    ·exact .inr hb
    ·cases hb
  |row e te=>exact ⟨_,e.size,List.length y,hh _ rfl,rfl,by simp,by rw [dr];exact Sd h1.1⟩
  |Du e te=>exact ⟨_,e.size,List.length y,hh _ rfl,rfl,by simp,by rw [dr];exact Sd h1.1⟩
  |part e te=>exact ⟨_,e.size,List.length y.1,hh _ rfl,rfl,h1.1.2,by rw [dr];exact Sd h1.1.1⟩
  |Ak e te kp=>exact ⟨_,1,List.length y,hh _ rfl,rfl,by simp,by rw [dr];exact Sd h1.1⟩
theorem jl {p:Real} {s off len:Nat} {u:Value} {f:Nat->Prop} (h:Dv (some p) s off len u):Dv (some ⟨p.g,p.o+off,p.cap-off,f,f⟩) s 0 len u:=by
 obtain ⟨ad,h1,h2,h3⟩:=h
 exact ⟨ad,h1,by dsimp only;omega,λh0=>by dsimp only at h0;simpa using h3 (by omega)⟩
theorem mZ {α:Type} {xs:List α} {off len i:Nat} {x:α} (h:((xs.drop off).take len)[i]?=some x):xs[off+i]?=some x:=by
 rw [List.getElem?_take] at h
 split at h
 ·rw [List.getElem?_drop] at h;exact h
 ·cases h
theorem Pv.part {P:Nat->Prop} {g o:Nat} {cur:Array Value} {e:Ty} {xs:List e.den} (off len:Nat) (h:Pv w P g o cur e xs):Pv w P g (o+off) cur e ((xs.drop off).take len):=by
 obtain ⟨Fs,t1,t2,t3,t4⟩:=h
 refine ⟨(Fs.drop off).take len,by simp [t1],List.nodup_cons.2 ⟨λhm=>(List.nodup_cons.1 t2).1 (Lp off len _ hm),fy off len (List.nodup_cons.1 t2).2⟩,λb hb=>t3 b (Lp off len b hb),λi x F hx hF=>?_⟩
 obtain ⟨es,k1,k2,k3⟩:=t4 (off+i) x F (mZ hx) (mZ hF)
 exact ⟨es,k1,λj u hu=>by rw [Nat.add_assoc o off i];exact k2 j u hu,k3⟩
theorem DB {st:St} (h:Ht X w π st.heap) {c:CK} (hg: ∀e te kp,c≠ .Ak e te kp) {a:AC} {u:Value} (hu:Dx X w π st.heap a u) {x:c.den} {ls:List Nat} (he:dK st c a=some (x,ls)):
  ∃r,Za w (λb=>Oi π b\/X.Sc b) r u c x/\ ∀q,r=some q-> ∃l p,ls= [l]/\π l=some p/\(∀b,q.Ax b->p.cl b)/\(c.RT=false-> ∀b,q.Ax b->p.Ax b):=by
 have HK: ∀ {f:Bool} (b:Nat),(Oi π b\/X.Sc b)->Bc X.w0.heap.size X.Sc π f b:= λb h=>h.imp id .inl
 cases c with
 |Fc τ=>
  simp only [dK] at he
  split at he
  ·rename_i hf
   cases hv:Bj st τ a with
   |none=>rw [hv] at he;cases he
   |some p=>
    obtain ⟨fr,y⟩:=p
    rw [hv] at he
    simp only [Option.map_some,Option.some.injEq,Prod.mk.injEq] at he
    obtain ⟨rfl,rfl⟩:=he
    refine ⟨none,⟨rfl,?_⟩,λq hq=>by cases hq⟩
    have Es: ∀f,Bb w (Bc X.w0.heap.size X.Sc π f) τ u y->Bb w (λb=>Oi π b\/X.Sc b) τ u y:= λf hr=>hr.Es λk _ hk=>HK k hk
    cases a with
    |data f Iv z=>
     rw [Il] at hv
     split at hv
     ·rename_i ht;subst ht
      simp only [Option.some.injEq,Prod.mk.injEq] at hv
      obtain ⟨_,rfl⟩:=hv
      exact Es f hu
     ·have Pp:τ.Ab=false:=by unfold bK at hv;split at hv<;>first|rfl|cases hv
      exact Es _ ⟨[u],Wr hv hu,by simp [Ap,Pp]⟩
    |Hm=>
     have hu:u= .slice none 0 0:=hu
     subst hu
     cases τ<;>simp only [Bj,Option.some.injEq,Prod.mk.injEq,reduceCtorEq] at hv
     ·obtain ⟨_,rfl⟩:=hv;exact ⟨[_],⟨none,0,0,rfl,rfl,Nat.le_refl _, .inl rfl⟩,rfl⟩
     ·obtain ⟨_,rfl⟩:=hv;exact ⟨[_], .inl ⟨rfl,0,rfl⟩,rfl⟩
    |Qn=>
     have hu:u= .pointer none:=hu
     subst hu
     cases τ<;>simp only [Bj,Option.some.injEq,Prod.mk.injEq,reduceCtorEq] at hv
     obtain ⟨_,rfl⟩:=hv;exact ⟨[_], .inl ⟨rfl,rfl⟩,rfl⟩
    |_=>cases τ<;>simp [AC.settled,Ty.flat,Bj] at hf hv
  ·cases he
 |row e te=>
  cases a<;>simp only [dK] at he<;>try (cases he;done)
  ·simp only [Option.some.injEq,Prod.mk.injEq] at he
   obtain ⟨rfl,rfl⟩:=he
   have hu:u= .slice none 0 0:=hu
   exact ⟨none,⟨⟨hu,rfl,rfl⟩,rfl⟩,λq hq=>by cases hq⟩
  ·rename_i l off len
   split at he
   ·rename_i fr tr e' Kz xs hl
    split at he
    ·rename_i hc
     obtain ⟨rfl,rfl⟩:=hc
     simp only [Option.some.injEq,Prod.mk.injEq] at he
     obtain ⟨rfl,rfl⟩:=he
     unfold St.at at hl
     obtain ⟨h1,h2⟩:=Ja hu hl
     have hb:=(h.heap l).Ma hl
     simp only [At,Fe] at hb
     have hlen:((xs.drop off).take len).length=len:=by simp;omega
     cases hp:π l with
     |none=>
      rw [hp] at h2 hb
      obtain ⟨rfl,rfl,rfl⟩:=h2
      exact ⟨none,⟨⟨rfl,rfl,by simp⟩,by show (xs.drop 0).take 0= [];simp⟩,λq hq=>by cases hq⟩
     |some p=>
      rw [hp] at h2 hb
      obtain ⟨k1,cur,ti,k2,k3,k4,k5,k6,_⟩:=hb
      have ho:=h2
      obtain ⟨ad,_,mo,_⟩:=h2
      refine ⟨some ⟨p.g,p.o+off,p.cap-off,p.Ax,p.Ax⟩,⟨by rw [hlen];exact jl ho,⟨k1.1,k1.2.1⟩,cur,ti,k2,by rw [k3];congr 1;dsimp only;omega,by dsimp only;omega,by rw [hlen];dsimp only;omega,λi y hy=>?_⟩,
       fun q hq=>by cases hq;exact ⟨l,p,rfl,hp,λb hb=>h.sub l p b hp hb,λ_ b hb=>hb⟩⟩
      obtain ⟨es,g1,g2,g3⟩:=k6 (off+i) y (mZ hy)
      exact ⟨es,g1,λj u hu=>by dsimp only;rw [Nat.add_assoc p.o off i];exact g2 j u hu,Cells.Cs (Nat.le_refl _) (λ_ _ _=>rfl) (λb _ hb=>HK b hb) e' es y g3⟩
    ·cases he
   ·cases he
 |Du e te=>
  cases a<;>simp only [dK] at he<;>try (cases he;done)
  ·simp only [Option.some.injEq,Prod.mk.injEq] at he
   obtain ⟨rfl,rfl⟩:=he
   have hu:u= .slice none 0 0:=hu
   exact ⟨none,⟨⟨hu,rfl,rfl⟩,rfl⟩,λq hq=>by cases hq⟩
  ·rename_i l off len
   split at he
   ·rename_i fr tr e' Kz xs hl
    split at he
    ·rename_i hc
     obtain ⟨rfl,rfl,hf⟩:=hc
     simp only [Option.some.injEq,Prod.mk.injEq] at he
     obtain ⟨rfl,rfl⟩:=he
     unfold St.at at hl
     obtain ⟨h1,h2⟩:=Ja hu hl
     have hb:=(h.heap l).Ma hl
     simp only [At,Fe] at hb
     have hlen:((xs.drop off).take len).length=len:=by simp;omega
     cases hp:π l with
     |none=>
      rw [hp] at h2 hb
      obtain ⟨rfl,rfl,rfl⟩:=h2
      exact ⟨none,⟨⟨rfl,rfl,by simp⟩,by show (xs.drop 0).take 0= [];simp⟩,λq hq=>by cases hq⟩
     |some p=>
      rw [hp] at h2 hb
      obtain ⟨k1,cur,ti,k2,k3,k4,k5,k6,k7⟩:=hb
      have ho:=h2
      obtain ⟨ad,_,mo,_⟩:=h2
      have ht:Pv w p.cl p.g p.o cur e' xs:=by
       simp only [Bool.or_eq_true] at hf
       rcases hf with hf|hf
       ·exact k7 hf
       ·exact gq hf k6
      exact ⟨some ⟨p.g,p.o+off,p.cap-off,p.cl,p.cl⟩,⟨by rw [hlen];exact jl ho,h.sub l p _ hp k1.1,cur,ti,k2,by rw [k3];congr 1;dsimp only;omega,by dsimp only;omega,by rw [hlen];dsimp only;omega,ht.part off len⟩,
       fun q hq=>by cases hq;exact ⟨l,p,rfl,hp,λb hb=>hb,λhx=>by cases hx⟩⟩
    ·cases he
   ·rename_i e' Kz xs hl
    split at he
    ·rename_i hc
     obtain ⟨rfl,rfl⟩:=hc
     simp only [Option.some.injEq,Prod.mk.injEq] at he
     obtain ⟨rfl,rfl⟩:=he
     unfold St.at at hl
     obtain ⟨h1,h2⟩:=Vc hu hl
     have hb:=(h.heap l).Ma hl
     simp only [At,Im] at hb
     have hlen:((xs.drop off).take len).length=len:=by simp;omega
     cases hp:π l with
     |none=>
      rw [hp] at h2 hb
      obtain ⟨rfl,rfl,rfl⟩:=h2
      exact ⟨none,⟨⟨rfl,rfl,by simp⟩,by show (xs.drop 0).take 0= [];simp⟩,λq hq=>by cases hq⟩
     |some p=>
      rw [hp] at h2 hb
      obtain ⟨k1,cur,ti,k2,k3,k4,k5,ht⟩:=hb
      have ho:=h2
      obtain ⟨ad,_,mo,_⟩:=h2
      exact ⟨some ⟨p.g,p.o+off,p.cap-off,p.Ax,p.Ax⟩,⟨by rw [hlen];exact jl ho,k1,cur,ti,k2,by rw [k3];congr 1;dsimp only;omega,by dsimp only;omega,by rw [hlen];dsimp only;omega,ht.part off len⟩,
       fun q hq=>by cases hq;exact ⟨l,p,rfl,hp,λb hb=>h.sub l p b hp hb,λ_ b hb=>hb⟩⟩
    ·cases he
   ·cases he
 |part e te=>cases a<;>simp [dK] at he
 |Ak e te kp=>exact absurd rfl (hg e te kp)
theorem JG {st:St} (h:Ht X w π st.heap) {c:CK} {a:AC} {u:Value} (hu:Dx X w π st.heap a u) {x:c.den} {ls:List Nat} (he:dK st c a=some (x,ls)):
  ∃r,Za w (λb=>Oi π b\/X.Sc b) r u c x/\(∀q,r=some q-> ∃l p,ls= [l]/\π l=some p/\(∀b,q.Ax b->p.cl b)/\(c.RT=false-> ∀b,q.Ax b->p.Ax b))/\
   (∀l off len e te rows out kp,a= .own l off len->Ae st.heap l=some (.Ak e te rows out kp)->r=π l):=by
 have o6:(∀e te kp,c≠ .Ak e te kp)->(∀l off len e te rows out kp,a=AC.own l off len->Ae st.heap l=some (OB.Ak e te rows out kp)->False)->
   ∃r,Za w (λb=>Oi π b\/X.Sc b) r u c x/\(∀q,r=some q-> ∃l p,ls= [l]/\π l=some p/\(∀b,q.Ax b->p.cl b)/\(c.RT=false-> ∀b,q.Ax b->p.Ax b))/\
   (∀l off len e te rows out kp,a= .own l off len->Ae st.heap l=some (.Ak e te rows out kp)->r=π l):= λh1 h2=>by
  obtain ⟨r,g1,g2⟩:=DB h h1 hu he
  exact ⟨r,g1,g2,λl off len e te rows out kp h3 h4=>(h2 l off len e te rows out kp h3 h4).elim⟩
 cases c with
 |Fc τ=>
  refine o6 (λ_ _ _ h=>by cases h) λl off len e te rows out kp h3 h4=>?_
  subst h3
  simp only [dK] at he
  split at he
  ·rename_i hf
   cases τ<;>simp [AC.settled,Ty.flat,Bj] at hf he
  ·cases he
 |row e te=>
  refine o6 (λ_ _ _ h=>by cases h) λl off len e te rows out kp h3 h4=>?_
  subst h3
  simp only [dK,St.at,h4] at he
  cases he
 |Du e te=>
  refine o6 (λ_ _ _ h=>by cases h) λl off len e te rows out kp h3 h4=>?_
  subst h3
  simp only [dK,St.at,h4] at he
  cases he
 |part e te=>cases a<;>simp [dK] at he
 |Ak e te kp=>
  cases a<;>simp only [dK] at he<;>try (cases he;done)
  rename_i l off len
  split at he
  ·rename_i e' Kz rows kp' hl
   split at he
   ·rename_i hc
    obtain ⟨rfl,rfl,rfl,rfl⟩:=hc
    simp only [Option.some.injEq,Prod.mk.injEq] at he
    obtain ⟨rfl,rfl⟩:=he
    unfold St.at at hl
    obtain ⟨b,sz,n,h1,h2,_,h3⟩:=hu
    rw [hl] at h1;cases h1
    simp only [OB.row,Option.some.injEq,Prod.mk.injEq] at h2
    obtain ⟨rfl,rfl⟩:=h2
    have hb:=((h.heap l).Ma hl).1
    refine ⟨π l,⟨h3,Sq.Es hb λb hb=>hb.imp id .inl⟩,λq hq=>⟨l,q,rfl,hq,λb hb=>h.sub l q b hq hb,λ_ b hb=>hb⟩,λl' Al4 Akz _ _ _ _ _ he _=>?_⟩
    simp only [AC.own.injEq] at he
    rw [he.1]
   ·cases he
  ·cases he
theorem Et.congr {D:Nat->Prop} {ρ ρ':Pi} : ∀(cs:List CK) (k:Nat) (x:CKs.den cs) (us:List Value),(∀j,k<=j->ρ' (Fh j)=ρ (Fh j))->Et w D ρ k cs x us->Et w D ρ' k cs x us
 | [],_,_,[],_,h=>h
 | [],_,_,_::_,_,h=>h.elim
 |_::_,_,_,[],_,h=>h.elim
 |c::r,k,x,u::us,he,h=>⟨by rw [he k (Nat.le_refl _)];exact h.1,Et.congr r (k+1) x.2 us (λj hj=>he j (by omega)) h.2⟩
theorem qh {st:St} (h:Ht X w π st.heap): ∀(cs:List CK) (k:Nat) (as:List AC) (us:List Value) (x:CKs.den cs) (ls:List Nat),Hv X w π st.heap as us->Nw st cs as=some (x,ls)->ls.Nodup->
  ∃ρ:Pi,Et w (λb=>Oi π b\/X.Sc b) ρ k cs x us/\(∀l q,ρ l=some q-> ∃j,k<=j/\j<k+cs.length/\l=Fh j)/\(∀l q b,ρ l=some q->q.Ax b-> ∃l0∈ls,∃p,π l0=some p/\p.cl b/\((cs.all λc=>!c.RT)=true->p.Ax b))/\
   (∀l l' q q' b,ρ l=some q->ρ l'=some q'->q.Ax b->q'.Ax b->l=l')/\
   (∀(j l off len:Nat) e te rows out kp,as[j]?=some (.own l off len)->Ae st.heap l=some (.Ak e te rows out kp)->ρ (Fh (k+j))=π l)
 | [],k,[],[],x,ls,_,he,_=>by
  simp only [Nw,Option.some.injEq,Prod.mk.injEq] at he
  exact ⟨λ_=>none,trivial,(λl q h=>by cases h),(λl q b h=>by cases h),(λl l' q q' b h=>by cases h),λj l off len e te rows out kp h=>by simp at h⟩
 | [],_,[],_::_,_,_,h,_,_=>h.elim
 | [],_,_::_,_,_,_,_,he,_=>by simp [Nw] at he
 |_::_,_,[],_,_,_,_,he,_=>by simp [Nw] at he
 |_::_,_,_::_,[],_,_,h,_,_=>h.elim
 |c::r,k,a::as,u::us,x,ls,hr,he,ow=>by
  simp only [Nw] at he
  split at he
  ·rename_i x1 t1 x2 t2 h1 h2
   simp only [Option.some.injEq,Prod.mk.injEq] at he
   obtain ⟨rfl,rfl⟩:=he
   obtain ⟨n1,n2,n3⟩:=List.nodup_append.1 ow
   obtain ⟨ρ,g1,g2,g3,g4,g5⟩:=qh h r (k+1) as us x2 t2 hr.2 h2 n2
   obtain ⟨rr,r1,r2,r3⟩:=JG h hr.1 h1
   have uw: ∀l q q0 b,ρ l=some q->rr=some q0->q.Ax b->q0.Ax b->False:= λl q q0 b h3 h4 h5 h6=>by
    obtain ⟨l0,m0,p,p1,p2,_⟩:=g3 l q b h3 h5
    obtain ⟨l1,p',e1,p1',p2',_⟩:=r2 q0 h4
    have:=h.inj l0 l1 p p' b p1 p1' p2 (p2' b h6)
    exact n3 l1 (by rw [e1];simp) l0 m0 this.symm
   refine ⟨λl=>if l=Fh k then rr else ρ l,⟨by simpa using r1,Et.congr r (k+1) x2 us (λj hj=>if_neg (by unfold Fh;omega)) g1⟩,λl q hq=>?_,λl q b hq hb=>?_,λl l' q q' b h3 h4 h5 h6=>?_,λj l off len e te rows out kp hj hl=>?_⟩
   ·dsimp only at hq
    by_cases e:l=Fh k
    ·exact ⟨k,Nat.le_refl _,by simp,e⟩
    ·rw [if_neg e] at hq
     obtain ⟨j,j1,j2,j3⟩:=g2 l q hq
     exact ⟨j,by omega,by simp;omega,j3⟩
   ·dsimp only at hq
    by_cases e:l=Fh k
    ·rw [if_pos e] at hq
     obtain ⟨l1,p',e1,p1',p2',p3'⟩:=r2 q hq
     exact ⟨l1,by rw [e1];simp,p',p1',p2' b hb,λhx=>p3' (by simp only [List.all_cons,Bool.and_eq_true,Bool.not_eq_true'] at hx;exact hx.1) b hb⟩
    ·rw [if_neg e] at hq
     obtain ⟨l0,m0,p,p1,p2,p3⟩:=g3 l q b hq hb
     exact ⟨l0,List.mem_append_right _ m0,p,p1,p2,λhx=>p3 (by simp only [List.all_cons,Bool.and_eq_true] at hx;exact hx.2)⟩
   ·dsimp only at h3 h4
    by_cases e:l=Fh k<;>by_cases e':l'=Fh k
    ·rw [e,e']
    ·rw [if_pos e] at h3;rw [if_neg e'] at h4
     exact (uw l' q' q b h4 h3 h6 h5).elim
    ·rw [if_neg e] at h3;rw [if_pos e'] at h4
     exact (uw l q q' b h3 h4 h5 h6).elim
    ·rw [if_neg e] at h3;rw [if_neg e'] at h4
     exact g4 l l' q q' b h3 h4 h5 h6
   ·rcases j with _|j
    ·simp only [List.getElem?_cons_zero,Option.some.injEq] at hj
     show (if Fh k=Fh k then rr else ρ (Fh k))=π l
     rw [if_pos rfl]
     exact r3 l off len e te rows out kp hj hl
    ·have:=g5 j l off len e te rows out kp (by simpa using hj) hl
     show (if Fh (k+(j+1))=Fh k then rr else ρ (Fh (k+(j+1))))=π l
     rw [if_neg (by unfold Fh;omega),<-this,show k+(j+1)=k+1+j by omega]
  ·cases he
theorem wv {r r':Option Real} (h:Ue (r.map full) r') {e:Ty} {xs:List e.den} {te:TypeId} {fr tr:Bool} (ha:Fe X w π r' fr tr e te xs):Md w (λb=>Oi π b\/X.Sc b) r e xs:=by
 cases r with
 |none=>cases r' with
  |none=>exact ha
  |some q=>exact h.elim
 |some p=>cases r' with
  |none=>exact h.elim
  |some q=>
   obtain ⟨e1,e2,e3,e4⟩:=h
   obtain ⟨k1,cur,ti,k2,k3,k4,k5,k6,_⟩:=ha
   have e1:p.g=q.g:=e1
   have e2:p.o=q.o:=e2
   have e3:p.cap=q.cap:=e3
   refine ⟨⟨by rw [e1];exact (e4 _).2 k1.1,λb hb=>by rw [e1];exact k1.2.1 b ((e4 b).1 hb)⟩,cur,ti,by rw [e1];exact k2,by rw [e2,e3];exact k3,by rw [e3];exact k4,by rw [e3];exact k5,λi y hy=>?_⟩
   obtain ⟨es,g1,g2,g3⟩:=k6 i y hy
   exact ⟨es,g1,by rw [e2];exact g2,Cells.Cs (Nat.le_refl _) (λ_ _ _=>rfl) (λb _ hb=>hb.imp id .inl) e es y g3⟩
theorem EB {r r':Option Real} (h:Ue (r.map full) r') {e:Ty} {xs:List e.den} {te:TypeId} (ha:Im w r' e te xs):Im w r e te xs:=by
 cases r with
 |none=>cases r' with
  |none=>exact ha
  |some q=>exact h.elim
 |some p=>cases r' with
  |none=>exact h.elim
  |some q=>
   obtain ⟨e1,e2,e3,e4⟩:=h
   obtain ⟨k1,cur,ti,k2,k3,k4,k5,Fs,t1,t2,t3,t4⟩:=ha
   have e1:p.g=q.g:=e1
   have e2:p.o=q.o:=e2
   have e3:p.cap=q.cap:=e3
   exact ⟨by rw [e1];exact (e4 _).2 k1,cur,ti,by rw [e1];exact k2,by rw [e2,e3];exact k3,by rw [e3];exact k4,by rw [e3];exact k5,Fs,t1,by rw [e1];exact t2,λb hb=>(e4 b).2 (t3 b hb),by rw [e2];exact t4⟩
theorem Nf {st:St} {π0:Pi} {D:Nat->Prop} {w0:World} (h:Ht X w π st.heap) (Ye: ∀l,X.cw l=(π0 l).map full): ∀(cs:List (Bool×CK)) (k:Nat) (x:Ins.den cs) (us:List Value) (o:IOs.den cs),Zb w0 D π0 k cs x us->Jd st k cs=some o->
  Hc w (λb=>Oi π b\/X.Sc b) π0 k cs o/\ ∀l∈Jw k cs,Ae st.heap l≠none
 | [],_,_,_,_,_,_=>⟨trivial,λl hl=>by cases hl⟩
 |_::_,_,_,[],_,h,_=>h.elim
 |(false,c)::r,k,x,u::us,o,hi,he=>Nf h Ye r (k+1) x.2 us o hi.2 (by simpa only [Jd] using he)
 |(true, .Fc τ)::r,k,x,u::us,o,hi,he=>Nf h Ye r (k+1) x.2 us o hi.2 (by simpa only [Jd] using he)
 |(true, .Ak e te kp)::r,k,x,u::us,o,hi,he=>Nf h Ye r (k+1) x.2 us o hi.2 (by simpa only [Jd] using he)
 |(true, .row e te)::r,k,x,u::us,o,hi,he=>by
  simp only [Jd] at he
  split at he
  ·rename_i x1 x2 h1 h2
   simp only [Option.some.injEq] at he;subst he
   obtain ⟨g1,g2⟩:=Nf h Ye r (k+1) x.2 us x2 hi.2 h2
   have h0:=hi.1
   simp only [jQ] at h1
   split at h1
   ·rename_i fr tr e' Kz xs hl
    split at h1
    ·rename_i hc
     obtain ⟨rfl,rfl⟩:=hc
     simp only [Option.some.injEq] at h1;subst h1
     unfold St.at at hl
     have hs:=h.cw (Bo true k) (by have:=Tr k;omega) (by rw [hl];simp)
     rw [Ye] at hs
     exact ⟨⟨wv (te:=Kz) hs ((h.heap _).Ma hl),g1⟩,λl Ha=>by
      simp only [Jw] at Ha
      rcases List.mem_cons.1 Ha with rfl|Ha
      ·rw [hl];simp
      ·exact g2 l Ha⟩
    ·cases h1
   ·cases h1
  ·cases he
 |(true, .part e te)::r,k,x,u::us,o,hi,he=>by
  simp only [Jd] at he
  split at he
  ·rename_i x1 x2 h1 h2
   simp only [Option.some.injEq] at he;subst he
   obtain ⟨g1,g2⟩:=Nf h Ye r (k+1) x.2 us x2 hi.2 h2
   have h0:=hi.1
   simp only [jQ] at h1
   split at h1
   ·rename_i fr tr e' Kz xs hl
    split at h1
    ·rename_i hc
     obtain ⟨rfl,rfl⟩:=hc
     simp only [Option.some.injEq] at h1;subst h1
     unfold St.at at hl
     have hs:=h.cw (Bo true k) (by have:=Tr k;omega) (by rw [hl];simp)
     rw [Ye] at hs
     exact ⟨⟨wv (te:=Kz) hs ((h.heap _).Ma hl),g1⟩,λl Ha=>by
      simp only [Jw] at Ha
      rcases List.mem_cons.1 Ha with rfl|Ha
      ·rw [hl];simp
      ·exact g2 l Ha⟩
    ·cases h1
   ·cases h1
  ·cases he
 |(true, .Du e te)::r,k,x,u::us,o,hi,he=>by
  simp only [Jd] at he
  split at he
  ·rename_i x1 x2 h1 h2
   simp only [Option.some.injEq] at he;subst he
   obtain ⟨g1,g2⟩:=Nf h Ye r (k+1) x.2 us x2 hi.2 h2
   simp only [jQ] at h1
   split at h1
   ·rename_i e' Kz xs hl
    split at h1
    ·rename_i hc
     obtain ⟨rfl,rfl⟩:=hc
     simp only [Option.some.injEq] at h1;subst h1
     unfold St.at at hl
     have hs:=h.cw (Bo true k) (by have:=Tr k;omega) (by rw [hl];simp)
     rw [Ye] at hs
     exact ⟨⟨EB (te:=Kz) hs ((h.heap _).Ma hl),g1⟩,λl Ha=>by
      simp only [Jw] at Ha
      rcases List.mem_cons.1 Ha with rfl|Ha
      ·rw [hl];simp
      ·exact g2 l Ha⟩
    ·cases h1
   ·cases h1
  ·cases he
theorem oH {p:Bool×CK} {r:List (Bool×CK)} (h:Sb (p::r)=true):Sb r=true:=by
 rcases p with ⟨_|_,c⟩<;>cases c<;>first|(simp [Sb] at h;done)|simpa [Sb] using h
theorem pW: ∀(cs:List (Bool×CK)) (k:Nat) (x:Ins.den cs) (l:Nat),Sb cs=true->k+cs.length<100000->Ae (Ry k cs x) l≠none-> ¬l<Aj->l∈Jw k cs
 | [],_,_,_,_,_,h,_=>absurd rfl h
 |(io,c)::r,k,x,l,WV,hk,h,hp=>by
  simp only [List.length_cons] at hk
  simp only [Ry] at h
  have tail:Ae (Ry (k+1) r x.2) l≠none->l∈Jw (k+1) r:= λh=>pW r (k+1) x.2 l (oH WV) (by omega) h hp
  have sub: ∀m,m∈Jw (k+1) r->m∈Jw k ((io,c)::r):= λm hm=>by
   cases io<;>cases c<;>simp only [Jw]<;>first|exact hm|exact List.mem_cons_of_mem _ hm
  cases hc:dH (Bo io k) c x.1 with
  |none=>rw [hc] at h;exact sub l (tail h)
  |some b=>
   rw [hc] at h
   simp only [bI,Ae] at h
   split at h
   ·rename_i e;subst e
    cases io with
    |false=>exact absurd (ak (by omega)) hp
    |true=>cases c with
     |Fc τ=>cases hc
     |row e te=>simp [Jw]
     |Du e te=>simp [Jw]
     |part e te=>simp [Jw]
     |Ak e te kp=>simp [Sb] at WV
   ·exact sub l (tail h)
theorem Za.Es {D D':Nat->Prop} (hD: ∀b,D' b->D b) {r:Option Real} {u:Value} {c:CK} {x:c.den} (h:Za w D r u c x):Za w D' r u c x:=by
 cases c with
 |Fc τ=>exact ⟨h.1,h.2.Es λb _ hb=>hD b hb⟩
 |row e te=>exact ⟨h.1,Md.Es h.2 hD⟩
 |Du e te=>exact h
 |part e te=>exact ⟨h.1,h.2.1,Md.Es h.2.2 hD⟩
 |Ak e te kp=>exact ⟨h.1,Sq.Es h.2 hD⟩
theorem Et.Es {D D':Nat->Prop} (hD: ∀b,D' b->D b) {ρ:Pi} : ∀(cs:List CK) (k:Nat) (x:CKs.den cs) (us:List Value),Et w D ρ k cs x us->Et w D' ρ k cs x us
 | [],_,_,[],h=>h
 | [],_,_,_::_,h=>h.elim
 |_::_,_,_,[],h=>h.elim
 |_c::r,k,x,_u::us,h=>⟨h.1.Es hD,Et.Es hD r (k+1) x.2 us h.2⟩
theorem Hc.Es {D D':Nat->Prop} (hD: ∀b,D' b->D b) {π:Pi} : ∀(cs:List (Bool×CK)) (k:Nat) (x:IOs.den cs),Hc w D π k cs x->Hc w D' π k cs x
 | [],_,_,h=>h
 |(false,_)::r,k,x,h=>Hc.Es hD r (k+1) x h
 |(true, .Fc _)::r,k,x,h=>Hc.Es hD r (k+1) x h
 |(true, .Ak _ _ _)::r,k,x,h=>Hc.Es hD r (k+1) x h
 |(true, .row _e _te)::r,k,x,h=>⟨Md.Es h.1 hD,Hc.Es hD r (k+1) x.2 h.2⟩
 |(true, .Du _e _te)::r,k,x,h=>⟨h.1,Hc.Es hD r (k+1) x.2 h.2⟩
 |(true, .part _e _te)::r,k,x,h=>⟨Md.Es h.1 hD,Hc.Es hD r (k+1) x.2 h.2⟩
theorem Zb.congr {D:Nat->Prop} {π0 Vj:Pi} : ∀(cs:List (Bool×CK)) (k:Nat) (x:Ins.den cs) (us:List Value),(∀b j,k<=j->j<k+cs.length->Vj (Bo b j)=π0 (Bo b j))->Zb w D π0 k cs x us->Zb w D Vj k cs x us
 | [],_,_,[],_,h=>h
 | [],_,_,_::_,_,h=>h
 |_::_,_,_,[],_,h=>h
 |p::r,k,x,u::us,hp,h=>⟨by rw [hp p.1 k (Nat.le_refl _) (by simp)];exact h.1,Zb.congr r (k+1) x.2 us (λb j h1 h2=>hp b j (by omega) (by simp;omega)) h.2⟩
theorem Hc.congr {D:Nat->Prop} {π0 Vj:Pi} : ∀(cs:List (Bool×CK)) (k:Nat) (x:IOs.den cs),(∀b j,k<=j->j<k+cs.length->Vj (Bo b j)=π0 (Bo b j))->Hc w D π0 k cs x->Hc w D Vj k cs x
 | [],_,_,_,h=>h
 |(false,c)::r,k,x,hp,h=>by cases c<;>exact Hc.congr r (k+1) x (λb j h1 h2=>hp b j (by omega) (by simp;omega)) h
 |(true, .Fc _)::r,k,x,hp,h=>Hc.congr r (k+1) x (λb j h1 h2=>hp b j (by omega) (by simp;omega)) h
 |(true, .Ak _ _ _)::r,k,x,hp,h=>Hc.congr r (k+1) x (λb j h1 h2=>hp b j (by omega) (by simp;omega)) h
 |(true, .row e te)::r,k,x,hp,h=>⟨by rw [hp true k (Nat.le_refl _) (by simp)];exact h.1,Hc.congr r (k+1) x.2 (λb j h1 h2=>hp b j (by omega) (by simp;omega)) h.2⟩
 |(true, .Du e te)::r,k,x,hp,h=>⟨by rw [hp true k (Nat.le_refl _) (by simp)];exact h.1,Hc.congr r (k+1) x.2 (λb j h1 h2=>hp b j (by omega) (by simp;omega)) h.2⟩
 |(true, .part e te)::r,k,x,hp,h=>⟨by rw [hp true k (Nat.le_refl _) (by simp)];exact h.1,Hc.congr r (k+1) x.2 (λb j h1 h2=>hp b j (by omega) (by simp;omega)) h.2⟩
theorem Cb.congr {π0 Vj:Pi} : ∀(cs:List (Bool×CK)) (k:Nat) (o:IOs.den cs) (n:Nat) (us as:List Value),(∀b j,k<=j->j<k+cs.length->Vj (Bo b j)=π0 (Bo b j))->Cb π0 k cs o n us as->Cb Vj k cs o n us as
 | [],k,o,0,us,as,_,h=>by simpa [Cb] using h
 | [],k,o,n+1,us,as,_,h=>by simp [Cb] at h
 |p::r,k,o,0,us,as,_,h=>by
  rcases p with ⟨_|_,c⟩<;>cases c<;>simpa [Cb] using h
 |(true, .Fc _)::r,k,o,n+1,us,as,_,h=>by simp [Cb] at h
 |(true, .part _ _)::r,k,o,n+1,us,as,_,h=>by simp [Cb] at h
 |(true, .Ak _ _ _)::r,k,o,n+1,us,as,_,h=>by simp [Cb] at h
 |(true, .row e te)::r,k,o,n+1,[],as,_,h=>by simp [Cb] at h
 |(true, .Du e te)::r,k,o,n+1,[],as,_,h=>by simp [Cb] at h
 |(true, .row e te)::r,k,o,n+1,u::us,as,hp,h=>by
  simp only [Cb] at h⊢
  exact ⟨by rw [hp true k (Nat.le_refl _) (by simp)];exact h.1,Cb.congr r (k+1) o.2 n us as (λb j h1 h2=>hp b j (by omega) (by simp;omega)) h.2⟩
 |(true, .Du e te)::r,k,o,n+1,u::us,as,hp,h=>by
  simp only [Cb] at h⊢
  exact ⟨by rw [hp true k (Nat.le_refl _) (by simp)];exact h.1,Cb.congr r (k+1) o.2 n us as (λb j h1 h2=>hp b j (by omega) (by simp;omega)) h.2⟩
 |(false,c)::r,k,o,n+1,[],as,_,h=>by cases c<;>simp [Cb] at h
 |(false,c)::r,k,o,n+1,u::us,[],_,h=>by cases c<;>simp [Cb] at h
 |(false,c)::r,k,o,n+1,u::us,a::as,hp,h=>by
  have h:u=a/\Cb π0 (k+1) r o n us as:=by cases c<;>exact h
  have:=Cb.congr r (k+1) o n us as (λb j h1 h2=>hp b j (by omega) (by simp;omega)) h.2
  cases c<;>exact ⟨h.1,this⟩
theorem ka: ∀(A B:List (Nat×OB)) (l:Nat),Ae (A++B) l=match Ae A l with|some b=>some b|none=>Ae B l
 | [],B,l=>rfl
 |(k,b)::A,B,l=>by
  simp only [List.cons_append,Ae]
  split
  ·rfl
  ·exact ka A B l
theorem mV {st:St} : ∀(cs:List CK) (as:List AC) (x:CKs.den cs) (ls:List Nat),Nw st cs as=some (x,ls)-> ∀l∈ls,∃b,Ae st.heap l=some b/\b.row≠none
 | [],[],x,ls,he=>by
  simp only [Nw,Option.some.injEq,Prod.mk.injEq] at he
  obtain ⟨_,rfl⟩:=he
  intro l hl;cases hl
 | [],_::_,_,_,he=>by simp [Nw] at he
 |_::_,[],_,_,he=>by simp [Nw] at he
 |c::r,a::as,x,ls,he=>by
  simp only [Nw] at he
  split at he
  ·rename_i x1 t1 x2 t2 h1 h2
   simp only [Option.some.injEq,Prod.mk.injEq] at he
   obtain ⟨_,rfl⟩:=he
   intro l hl
   rcases List.mem_append.1 hl with hl|hl
   ·unfold dK at h1
    split at h1
    ·split at h1
     ·cases hv:Bj st _ a with
      |none=>rw [hv] at h1;cases h1
      |some p=>rw [hv] at h1;simp only [Option.map_some,Option.some.injEq,Prod.mk.injEq] at h1;obtain ⟨_,rfl⟩:=h1;cases hl
     ·cases h1
    all_goals (repeat' split at h1)
    all_goals first|(cases h1;done)|skip
    all_goals (simp only [Option.some.injEq,Prod.mk.injEq] at h1;obtain ⟨_,rfl⟩:=h1)
    all_goals first|(cases hl;done)|skip
    all_goals (have hl:=List.mem_singleton.1 hl;subst hl)
    all_goals (rename_i heq _;exact ⟨_,heq,by simp [OB.row]⟩)
   ·exact mV r as x2 t2 h2 l hl
  ·cases he
theorem kr {r r':Option Real} {sz off len:Nat} {v:Value} (h:Ue r r') (hv:Dv r' sz off len v):Dv r sz off len v:=by
 cases r<;>cases r'<;>first|exact h.elim|skip
 ·exact hv
 ·obtain ⟨h1,h2,h3,_⟩:=h
  obtain ⟨ad,g1,g2,g3⟩:=hv
  exact ⟨ad,by rw [h3];exact g1,by rw [h3];exact g2,by rw [h1,h2,h3];exact g3⟩
theorem Re {st:St} {π0:Pi} (hs: ∀k,Ae st.heap (Bo true k)≠none->Ue ((π0 (Bo true k)).map full) (π (Bo true k))):
  ∀(cs:List (Bool×CK)) (k:Nat) (vs:List AC) (us:List Value) (bc:List AC) (o:IOs.den cs),Hv X w π st.heap vs us->Ev k cs vs=some bc->ca st vs cs->Jd st k cs=some o->
   ∃bv,Hv X w π st.heap bc bv/\bv.length=nj cs vs.length/\ ∀tl,Cb π0 k cs o vs.length us (bv++tl)
 |cs,k,[],us,bc,o,hr,he,_,_=>by
  have e1:us= []:=by cases us with|nil=>rfl|cons u us=>exact hr.elim
  have e2:bc= []:=by rcases cs with _|⟨⟨_|_,c⟩,r⟩<;>simpa [Ev] using he.symm
  subst e1;subst e2
  refine ⟨[],trivial,?_,λtl=>?_⟩
  ·rcases cs with _|⟨⟨_|_,c⟩,r⟩<;>rfl
  ·rcases cs with _|⟨⟨_|_,c⟩,r⟩<;>(try cases c)<;>simp [Cb]
 | [],k,a::vs,us,bc,o,hr,he,_,_=>by simp [Ev] at he
 |p::r,k,a::vs,[],bc,o,hr,_,_,_=>hr.elim
 |(false,c)::r,k,a::vs,u::us,bc,o,hr,he,hk,ho=>by
  have he:(Ev (k+1) r vs).map (λl=>a::l)=some bc:=by cases a<;>exact he
  cases hb:Ev (k+1) r vs with
  |none=>rw [hb] at he;cases he
  |some bc'=>
   rw [hb] at he
   simp only [Option.map_some,Option.some.injEq] at he;subst he
   obtain ⟨bv,g1,g2,g3⟩:=Re hs r (k+1) vs us bc' o hr.2 hb (by cases a<;>exact hk) (by cases c<;>simpa only [Jd] using ho)
   refine ⟨u::bv,⟨hr.1,g1⟩,by simp [nj,g2],λtl=>?_⟩
   have:=g3 tl
   cases c<;>exact ⟨rfl,this⟩
 |(true,c)::r,k,a::vs,u::us,bc,o,hr,he,hk,ho=>by
  cases c with
  |Fc τ=>cases a<;>simp [Ev] at he
  |part e te=>cases a<;>simp [Ev] at he
  |Ak e te kp=>cases a<;>simp [Ev] at he
  |row e te=>
   cases a<;>first|(simp [Ev] at he;done)|skip
   rename_i l off len
   simp only [Ev] at he
   split at he
   rotate_left
   ·cases he
   rename_i hl
   have hl:l=Bo true k:=Nat.eq_of_beq_eq_true hl
   subst hl
   obtain ⟨⟨rfl,hlen⟩,hk⟩:=hk
   obtain ⟨b,sz,n,h1,h2,h3,h4⟩:=hr.1
   have IA:=hs k (by rw [h1];simp)
   simp only [Jd] at ho
   split at ho
   ·rename_i x1 x2 q1 q2
    simp only [Option.some.injEq] at ho;subst ho
    obtain ⟨bv,g1,g2,g3⟩:=Re hs r (k+1) vs us bc x2 hr.2 he hk q2
    refine ⟨bv,g1,by simpa [nj] using g2,λtl=>?_⟩
    refine ⟨?_,g3 tl⟩
    simp only [jQ] at q1
    split at q1
    ·rename_i fr tr e' Kz xs Ha
     split at q1
     ·rename_i hc
      obtain ⟨rfl,rfl⟩:=hc
      simp only [Option.some.injEq] at q1;subst q1
      unfold St.at at Ha hlen
      rw [Ha] at hlen
      rw [h1] at Ha;cases Ha
      simp only [OB.row,Option.some.injEq,Prod.mk.injEq] at h2
      obtain ⟨rfl,rfl⟩:=h2
      have hlen:len=List.length xs:=hlen
      have:=kr IA h4
      rw [hlen] at this
      have e0:(π0 (Bo true k)).map full=(π0 (Bo true k)).map full:=rfl
      cases hp:π0 (Bo true k)<;>(rw [hp] at this;exact this)
     ·cases q1
    ·cases q1
   ·cases ho
  |Du e te=>
   cases a<;>first|(simp [Ev] at he;done)|skip
   rename_i l off len
   simp only [Ev] at he
   split at he
   rotate_left
   ·cases he
   rename_i hl
   have hl:l=Bo true k:=Nat.eq_of_beq_eq_true hl
   subst hl
   obtain ⟨⟨rfl,hlen⟩,hk⟩:=hk
   obtain ⟨b,sz,n,h1,h2,h3,h4⟩:=hr.1
   have IA:=hs k (by rw [h1];simp)
   simp only [Jd] at ho
   split at ho
   ·rename_i x1 x2 q1 q2
    simp only [Option.some.injEq] at ho;subst ho
    obtain ⟨bv,g1,g2,g3⟩:=Re hs r (k+1) vs us bc x2 hr.2 he hk q2
    refine ⟨bv,g1,by simpa [nj] using g2,λtl=>?_⟩
    refine ⟨?_,g3 tl⟩
    simp only [jQ] at q1
    split at q1
    ·rename_i e' Kz xs Ha
     split at q1
     ·rename_i hc
      obtain ⟨rfl,rfl⟩:=hc
      simp only [Option.some.injEq] at q1;subst q1
      unfold St.at at Ha hlen
      rw [Ha] at hlen
      rw [h1] at Ha;cases Ha
      simp only [OB.row,Option.some.injEq,Prod.mk.injEq] at h2
      obtain ⟨rfl,rfl⟩:=h2
      have hlen:len=List.length xs:=hlen
      have:=kr IA h4
      rw [hlen] at this
      cases hp:π0 (Bo true k)<;>(rw [hp] at this;exact this)
     ·cases q1
    ·cases q1
   ·cases ho
def Abo (s:MSpec) (g:Nat) (π:Pi):Pi:= λl=>if s.ptr.isSome=true/\l=Lm then some ⟨g,0,0,λb=>b=g,λb=>b=g⟩ else π l
def XM (P:Program) (s:MSpec) (fn:Func) (x:Ins.den s.ins) (w:World) (S:Nat->Prop) (π:Pi) (g:Nat) (r:CKs.den s.outs) (o:IOs.den s.ins) (a':Act) (w':World):Prop:=
 ∃(v:Value) (Sj:List Value) (ρ:Pi),a'.defers= []/\(results fn a'.tmps).run P w'= .ok v w'/\lK s w' ρ (Sj.drop s.Sv) v/\eM s π w' g Sj o/\Gb w.heap.size (λb=>Oi π b\/s.gv g b) w w'/\Hc w' (dG S π ρ) π 0 s.ins o/\Et w' (dG S π ρ) ρ 0 s.outs r Sj/\
  bu ρ (λb=>b<w'.heap.size/\(w.heap.size<=b\/ ∃l q,l<Aj/\π l=some q/\q.Ax b))/\(∀l,(∀k,k<s.Nj->l≠Fh k)->ρ l=none)/\(∀kj∈s.keeps,tY w w' (π (Bo false kj.1)) (ρ (Fh kj.2)) (s.Cs x))
theorem Et.GX {D:Nat->Prop} {ρ ρ':Pi} : ∀(cs:List CK) (k:Nat) (x:CKs.den cs) (us:List Value),(∀j,k<=j->j<k+cs.length->ρ' (Fh j)=ρ (Fh j))->Et w D ρ k cs x us->Et w D ρ' k cs x us
 | [],_,_,[],_,h=>h
 | [],_,_,_::_,_,h=>h.elim
 |_::_,_,_,[],_,h=>h.elim
 |c::r,k,x,u::us,he,h=>⟨by rw [he k (Nat.le_refl _) (by simp)];exact h.1,Et.GX r (k+1) x.2 us (λj hj hl=>he j (by omega) (by simp;omega)) h.2⟩
theorem pZ {st:St} {n:Nat} {as:List AC} : ∀ {ks:List (Nat×Nat)},pY st n as ks-> ∀kj∈ks,∃l off len e te rows out p,as[kj.2]?=some (.own l off len)/\Ae st.heap l=some (.Ak e te rows out (some p))/\p.1=Bo false kj.1/\n<=p.2/\kj.1<1000
 | [],_,kj,hm=>by cases hm
 |(k,j)::r,h,kj,hm=>by
  simp only [pY] at h
  rcases List.mem_cons.1 hm with rfl|hm
  ·obtain ⟨h,_⟩:=h
   split at h
   ·rename_i l off len he
    split at h
    ·rename_i e te rows out p hl
     unfold St.at at hl
     exact ⟨l,off,len,e,te,rows,out,p,he,hl,h.1,h.2.1,by simpa using h.2.2⟩
    ·exact h.elim
   ·exact h.elim
  ·exact pZ h.2 kj hm
theorem qg {st:St} : ∀(cs:List CK) (as:List AC) (x:CKs.den cs) (ls:List Nat),Nw st cs as=some (x,ls)->as.length=cs.length
 | [],[],_,_,_=>rfl
 | [],_::_,_,_,he=>by simp [Nw] at he
 |_::_,[],_,_,he=>by simp [Nw] at he
 |c::r,a::as,x,ls,he=>by
  simp only [Nw] at he
  split at he
  ·rename_i h1 h2
   simp only [List.length_cons,qg r as _ _ h2]
  ·cases he
theorem wq {α β:Type} (f:α->Sem β): ∀(l:List α) (vs:List β),vs.length=l.length->(∀(i:Nat) a v,l[i]?=some a->vs[i]?=some v->(f a).run P w= .ok v w)->(l.mapM f).run P w= .ok vs w
 | [],[],_,_=>by simp
 | [],_::_,h,_=>by simp at h
 |_::_,[],h,_=>by simp at h
 |a::l,v::vs,h,hr=>by
  rw [List.mapM_cons]
  simp only [Sem.run_bind,hr 0 a v rfl rfl,Result.andThen_ok,wq f l vs (by simpa using h) (λi a' v' ha hv=>hr (i+1) a' v' (by simpa using ha) (by simpa using hv)),Sem.run_pure]
theorem oc (hT:Bz P T) (Mb:Gz P Γ) (hm:P.follows .mixedOrders=true) {f:FuncId} {fn:Func} (hf:P.funcs[f]?=some fn) (s:MSpec) (w:World) (S:Nat->Prop) (π:Pi) (us:List Value) (x:Ins.den s.ins)
  (r:CKs.den s.outs) (o:IOs.den s.ins) (g:Nat) (jP:List Value) (Kw:iC s w g us jP) (hSg:s.ptr.isSome=true->S g) (Qg:Zb w (λb=>Oi π b\/S b) π 0 s.ins x us) (dr:bu π (λb=>b<w.heap.size)) (hS: ∀b,S b->b<w.heap.size/\ ¬Oi π b) (HN: ∀l,Ae (Ry 0 s.ins x) l=none->π l=none) (he:PY T Γ s fn x λz=>z=(r,o)):
  Calls P f jP.toArray w λe w'=> ∃v Sj ρ,e= .returned v/\lK s w' ρ (Sj.drop s.Sv) v/\eM s π w' g Sj o/\Gb w.heap.size (λb=>Oi π b\/s.gv g b) w w'/\Hc w' (dG S π ρ) π 0 s.ins o/\Et w' (dG S π ρ) ρ 0 s.outs r Sj/\
   bu ρ (λb=>b<w'.heap.size/\(w.heap.size<=b\/ ∃l q,l<Aj/\π l=some q/\q.Ax b))/\(∀l,(∀k,k<s.Nj->l≠Fh k)->ρ l=none)/\(∀kj∈s.keeps,tY w w' (π (Bo false kj.1)) (ρ (Fh kj.2)) (s.Cs x)):=by
 obtain ⟨hlen,c,hb,he⟩:=he
 simp only [Bool.and_eq_true,Nat.blt_eq] at hlen
 obtain ⟨hlen,HP⟩:=hlen
 unfold sD at HP
 simp only [Bool.and_eq_true] at HP
 have ZC:=HP.1
 let kN:Pi:=Abo s g π
 let Sg:Nat->Prop:= λb=>S b/\ ¬s.gv g b
 have ZZ: ∀b j,j<1000->Bo b j≠Lm:= λb j hj=>by cases b<;>(unfold Bo Lm;simp;omega)
 have rK: ∀b j,0<=j->j<0+s.ins.length->kN (Bo b j)=π (Bo b j):= λb j _ hj=>if_neg λh=>ZZ b j (by omega) h.2
 have RD: ∀b j,0<=j->j<0+s.ins.length->π (Bo b j)=kN (Bo b j):= λb j h1 h2=>(rK b j h1 h2).symm
 have UC:Ae (Ry 0 s.ins x) Lm=none:=Classical.byContradiction λhn=>by
  obtain ⟨b,j,_,h2,h3⟩:=mB s.ins 0 x Lm hn
  exact ZZ b j (by omega) h3.symm
 have FA: ∀l q,kN l=some q->(π l=some q/\(s.ptr.isSome=true->l≠Lm))\/(s.ptr.isSome=true/\l=Lm/\q=⟨g,0,0,λb=>b=g,λb=>b=g⟩):= λl q hq=>by
  have hq:(if s.ptr.isSome=true/\l=Lm then some ⟨g,0,0,λb=>b=g,λb=>b=g⟩ else π l)=some q:=hq
  split at hq
  ·rename_i hc;exact .inr ⟨hc.1,hc.2,(Option.some.inj hq).symm⟩
  ·rename_i hc;exact .inl ⟨hq,λh1 h2=>hc ⟨h1,h2⟩⟩
 have Yd: ∀b,Oi kN b↔Oi π b\/s.gv g b:= λb=>by
  constructor
  ·rintro ⟨l,q,h1,h2⟩
   rcases FA l q h1 with ⟨h3,_⟩|⟨h3,h4,rfl⟩
   ·exact .inl ⟨l,q,h3,h2⟩
   ·exact .inr ⟨h3,h2⟩
  ·rintro (⟨l,q,h1,h2⟩|⟨h1,rfl⟩)
   ·refine ⟨l,q,?_,h2⟩
    show (if s.ptr.isSome=true/\l=Lm then _ else π l)=some q
    rw [if_neg]
    ·exact h1
    ·rintro ⟨_,rfl⟩
     rw [HN Lm UC] at h1;cases h1
   ·exact ⟨Lm,⟨b,0,0,λc=>c=b,λc=>c=b⟩,if_pos ⟨h1,rfl⟩,rfl⟩
 have hgS: ∀b,s.gv g b->S b:= λb ⟨h1,h2⟩=>h2▸hSg h1
 have TG:Zb w (λb=>Oi kN b\/Sg b) kN 0 s.ins x us:=Zb.congr s.ins 0 x us rK (Zb.Es (λb hb=>by
  rcases hb with hb|hb
  ·rcases (Yd b).1 hb with hb|hb
   ·exact .inl hb
   ·exact .inr (hgS b hb)
  ·exact .inr hb.1) s.ins 0 x us Qg)
 have ZH:bu kN (λb=>b<w.heap.size):=⟨λl q b h1 h2=>by
  rcases FA l q h1 with ⟨h3,_⟩|⟨h3,h4,rfl⟩
  ·exact dr.Si l q b h3 h2
  ·exact (hS b (hgS b ⟨h3,h2⟩)).1,λl l' q q' b h1 h2 h3 h4=>by
  rcases FA l q h1 with ⟨h5,_⟩|⟨h5,h6,rfl⟩<;>rcases FA l' q' h2 with ⟨h7,_⟩|⟨h7,h8,rfl⟩
  ·exact dr.inj l l' q q' b h5 h7 h3 h4
  ·exact absurd ⟨l,q,h5,h3⟩ (hS b (hgS b ⟨h7,h4⟩)).2
  ·exact absurd ⟨l',q',h7,h4⟩ (hS b (hgS b ⟨h5,h3⟩)).2
  ·rw [h6,h8]⟩
 have Adt: ∀b,Sg b->b<w.heap.size/\ ¬Oi kN b:= λb hb=>⟨(hS b hb.1).1,λho=>((Yd b).1 ho).elim (hS b hb.1).2 hb.2⟩
 have zZ: ∀l,Ae (kc s x) l=match Ae (Ry 0 s.ins x) l with|some b=>some b|none=>if l=Lm then s.ptr.map λp=> .var p.1 ((Us 0 s.ins x).take p.2) else none:= λl=>by
  unfold kc
  cases hp:s.ptr with
  |none=>cases Ae (Ry 0 s.ins x) l<;>simp
  |some p=>
   simp only
   rw [ka]
   cases Ae (Ry 0 s.ins x) l with
   |some b=>rfl
   |none=>
    simp only [Ae,Option.map_some]
    by_cases e:l=Lm
    ·rw [if_pos e,if_pos e.symm]
    ·rw [if_neg e,if_neg (λh=>e h.symm)]
 let π0:Pi:= λl=>(kN l).map full
 have un: ∀l q,π0 l=some q-> ∃q0,kN l=some q0/\q=full q0:= λl q hq=>by
  have hq:(kN l).map full=some q:=hq
  cases hp:kN l with
  |none=>rw [hp] at hq;cases hq
  |some q0=>rw [hp] at hq;exact ⟨q0,rfl,(Option.some.inj hq).symm⟩
 have HS: ∀l b,Ae (Ry 0 s.ins x) l=some b->Ae (kc s x) l=some b:= λl b hb=>by rw [zZ l,hb]
 have TX:Hv ⟨w,Sg,Oi kN,π0⟩ w π0 (kc s x) (Us 0 s.ins x) us:=ve (λ_=>rfl) s.ins 0 x us (by omega) TG HS
 have ID:s.ptr.isSome=true->π0 Lm=some ⟨g,0,0,λb=>b=g,λb=>b=g⟩:= λhp=>by
  show (if s.ptr.isSome=true/\Lm=Lm then _ else π Lm).map full=_
  rw [if_pos ⟨hp,rfl⟩];rfl
 obtain ⟨g1,g2⟩:(Su s (Us 0 s.ins x)).length=jP.length/\ ∀(i:Nat) c v,(Su s (Us 0 s.ins x))[i]?=some c->jP[i]?=some v->Am ⟨w,Sg,Oi kN,π0⟩ w π0 (kc s x) c v:=by
  unfold iC at Kw
  cases hp:s.ptr with
  |none=>
   rw [hp] at Kw
   obtain ⟨rfl,FZ⟩:=Kw
   obtain ⟨g1,g2,_,_⟩:=Xz s.Gy _ us FZ TX
   rw [show Su s (Us 0 s.ins x)=Mi s.Gy (Us 0 s.ins x) by unfold Su;rw [hp]]
   exact ⟨g1,g2⟩
  |some p=>
   rw [hp] at Kw
   obtain ⟨rfl,FZ,_⟩:=Kw
   obtain ⟨g1,g2,_,_⟩:=Xz s.Gy _ (us.drop p.2) FZ (Hv.take p.2 TX).2
   rw [show Su s (Us 0 s.ins x)= .at (.Dw Lm 0)::Mi s.Gy ((Us 0 s.ins x).drop p.2) by unfold Su;rw [hp]]
   refine ⟨by simp [g1],λi c v h1 h2=>?_⟩
   rcases i with _|i
   ·simp only [List.getElem?_cons_zero,Option.some.injEq] at h1 h2
    subst h1;subst h2
    exact ⟨_,p.1,(Us 0 s.ins x).take p.2,by rw [zZ,UC];simp [hp],ID (by rw [hp];rfl),rfl⟩
   ·exact g2 i c v (by simpa using h1) (by simpa using h2)
 have h0:Rel ⟨w,Sg,Oi kN,π0⟩ {tmps:=Su s (Us 0 s.ins x)++List.replicate (fn.ntmps-(Su s (Us 0 s.ins x)).length) .undef,heap:=kc s x}
   {tmps:=jP.toArray++Array.replicate (fn.ntmps-jP.toArray.size) undef,defers:= []} w:=by
  refine ⟨π0,⟨Gb.refl _ _ _,λb hb=>Adt b hb,λl q b h1 h2=>?_,λl q b h1 h2=>?_,λl l' q q' b h1 h2 h3 h4=>?_,λl _ _=>Ue.rfl' _,λl=>?_⟩,⟨by simp [g1],rfl,λt=>?_⟩⟩
  ·obtain ⟨q0,_,rfl⟩:=un l q h1;exact h2
  ·obtain ⟨q0,h3,rfl⟩:=un l q h1
   exact ⟨.inr ⟨l,q0,h3,h2⟩,ZH.Si l q0 b h3 h2⟩
  ·obtain ⟨q0,h5,rfl⟩:=un l q h1
   obtain ⟨VF,h6,rfl⟩:=un l' q' h2
   exact ZH.inj l l' q0 VF b h5 h6 h3 h4
  ·cases hh:Ae (Ry 0 s.ins x) l with
   |none=>
    by_cases hv:s.ptr.isSome=true/\l=Lm
    ·obtain ⟨XB,rfl⟩:=hv
     obtain ⟨p,hp⟩:=Option.isSome_iff_exists.1 XB
     refine Dg.Ii (b:= .var p.1 ((Us 0 s.ins x).take p.2)) ?_ (by rw [zZ,hh];simp [hp])
     unfold iC at Kw
     rw [hp] at Kw
     obtain ⟨_,_,h1,h2,h3⟩:=Kw
     rw [ID XB]
     exact ⟨_,rfl,rfl,_,h2,Hv.to (Hv.take p.2 TX).1 h3⟩
    ·refine Dg.Ox ?_ ?_
     ·show (if s.ptr.isSome=true/\l=Lm then _ else π l).map full=none
      rw [if_neg hv,HN l hh];rfl
     ·rw [zZ,hh]
      simp only
      split
      ·rename_i e
       cases hp:s.ptr with
       |none=>rfl
       |some p=>exact absurd ⟨by rw [hp];rfl,e⟩ hv
      ·rfl
   |some b=>exact Dg.Ii (fo (π0:=kN) (λb hb=>by
    rcases hb with ⟨l,q,h1,h2⟩|hb|⟨hb,_⟩
    ·obtain ⟨q0,h3,rfl⟩:=un l q h1;exact .inl ⟨l,q0,h3,h2⟩
    ·exact .inr hb
    ·cases hb) rfl (λ_=>rfl) s.ins 0 x us TG l b hh) (HS l b hh)
  ·show Am _ w _ _ ((Su s (Us 0 s.ins x)++List.replicate _ AV.undef).getD t .undef) ((jP.toArray++Array.replicate _ undef).getD t undef)
   by_cases ht:t<jP.length
   ·rw [List.getD_eq_getElem?_getD,List.getElem?_append_left (by omega),<-List.getD_eq_getElem?_getD]
    rw [Array.getD_eq_getD_getElem?,Array.getElem?_append_left (by simpa using ht)]
    have:=g2 t _ _ (List.getElem?_eq_getElem (by omega)) (List.getElem?_eq_getElem ht)
    simpa [List.getD_eq_getElem?_getD,List.getElem?_eq_getElem ht,List.getElem?_eq_getElem (show t<(Su s (Us 0 s.ins x)).length by omega)] using this
   ·have:(Su s (Us 0 s.ins x)++List.replicate (fn.ntmps-(Su s (Us 0 s.ins x)).length) AV.undef).getD t .undef= .undef:=by
     rw [List.getD_eq_getElem?_getD,List.getElem?_append_right (by omega)]
     rw [List.getElem?_replicate]
     split<;>rfl
    rw [this];trivial
 have fin: ∀(st:St) (a':Act) (w':World),GI T s fn x st (λz=>z=(r,o))->Rel ⟨w,Sg,Oi kN,π0⟩ st a' w'->XM P s fn x w S π g r o a' w':=by
  intro st a' w' kW HY
  obtain ⟨Vj,h'⟩:=HY
  have RJ:Aj<=Lm:=by unfold Aj Lm;omega
  obtain ⟨bc,jZ,Afw,hbc⟩: ∃bc,dz T s fn x st bc (λz=>z=(r,o))/\(s.ptr.isSome=true-> ∃b,Ae st.heap Lm=some b/\b.row=none)/\
    (Jd st 0 s.ins=some o-> ∃bv,Hv ⟨w,Sg,Oi kN,π0⟩ w' Vj st.heap bc bv/\bv.length=s.Sv/\ ∀tl,eM s π w' g (bv++tl) o):=by
   unfold GI at kW
   cases hp:s.ptr with
   |none=>
    rw [hp] at kW
    exact ⟨[],kW,λh=>by simp at h,λ_=>⟨[],trivial,by simp [MSpec.Sv,hp],λtl=>by simp [eM,hp]⟩⟩
   |some p=>
    rw [hp] at kW
    obtain ⟨vs,cs,h1,h2,h3,h4,h5⟩:=kW
    unfold St.at at h1
    refine ⟨cs,h5,λ_=>⟨_,h1,rfl⟩,λrH=>?_⟩
    obtain ⟨q,k1,k2,cur,k3,k4⟩:=(h'.1.heap Lm).Ma h1
    have hsv:Ue (π0 Lm) (Vj Lm):=h'.1.cw Lm RJ (by rw [h1];simp)
    rw [ID (by rw [hp];rfl),k1] at hsv
    have ZL:g=q.g:=hsv.1
    obtain ⟨bv,g1,g2,g3⟩:=Re (π0:=kN) (λk hk=>h'.1.cw _ (Nat.le_of_not_lt (Tr k)) hk) s.ins 0 vs cur.toList cs o (Hv.of k4) h3 h4 rH
    refine ⟨bv,g1,by rw [g2,h2];simp [MSpec.Sv,hp],λtl=>?_⟩
    unfold eM
    rw [hp]
    refine ⟨cur.toList,by rw [ZL];simpa using k3,λu hu=>?_,Cb.congr s.ins 0 o p.2 _ _ RD (h2▸g3 tl)⟩
    obtain ⟨i,hi,rfl⟩:=List.mem_iff_getElem.1 hu
    have hl:=k4.1
    obtain ⟨u',h6,h7,_⟩:=k4.2 i (vs[i]'(by omega)) (List.getElem?_eq_getElem _)
    rw [List.getElem?_eq_getElem hi] at h6
    rw [Option.some.inj h6];exact h7
  unfold dz at jZ
  split at jZ
  ·exact jZ.elim
  rename_i l hl
  split at jZ
  ·exact jZ.elim
  rename_i as ml c6
  split at jZ
  rotate_left
  ·exact jZ.elim
  rename_i r' ls o' rO pM
  obtain ⟨Fa,pR,HZ⟩:=jZ
  simp only [Bool.and_eq_true,Nat.blt_eq] at Fa
  obtain ⟨⟨⟨ow,Ajd⟩,Aho⟩,YZ⟩:=Fa
  simp only [Prod.mk.injEq] at HZ
  obtain ⟨rfl,rfl⟩:=HZ
  obtain ⟨bv,hbv,Ae4,Ae2⟩:=hbc pM
  have xT:=Qo ow
  obtain ⟨n1,n2,n3⟩:=List.nodup_append.1 xT
  obtain ⟨m1,m2,m3⟩:=List.nodup_append.1 n1
  obtain ⟨vs,v1,v2,v3,v4⟩:=Qq hT h' _ _ hl
  have NT:fn.results=fn.results.toList.toArray:=Array.toArray_toList.symm
  have Og: ∀v,(if h:vs.toArray.size=1 then vs.toArray[0] else .tuple vs.toArray)=v->(results fn a'.tmps).run P w'= .ok v w':=by
   intro v hv
   rw [aj,NT,List.mapM_toArray]
   simp only [map_eq_pure_bind,bind_assoc,pure_bind]
   simp only [Sem.run_bind,wq (yQ a'.tmps) _ vs v1 v3,Result.andThen_ok,Sem.run_pure]
   rw [hv]
  obtain ⟨ph,v,qm,Afv,hv,RK⟩: ∃ph v qm,Hv ⟨w,Sg,Oi kN,π0⟩ w' Vj st.heap as ph/\(results fn a'.tmps).run P w'= .ok v w'/\
    ((s.rp=none/\ml= []/\qm=none/\JY s.Fv s.Fz ph v/\Wh s.Fz ph)\/
     ∃tid m q,s.rp=some tid/\ml= [m]/\m<Aj/\qm=some q/\Vj m=some q/\q.Ax q.g/\w'.heap[q.g]?=some (.cells ph.toArray tid (0,0))/\(∀u∈ph,u.oneCell'=true)/\v= .pointer (some ⟨q.g,0,none⟩)):=by
   unfold yP at c6
   split at c6
   ·rename_i xf
    split at c6
    rotate_left
    ·cases c6
    rename_i hmul
    cases GB:ungroup s.Fz l with
    |none=>rw [GB] at c6;cases c6
    |some as'=>
     rw [GB] at c6
     simp only [Option.map_some,Option.some.injEq,Prod.mk.injEq] at c6
     obtain ⟨rfl,rfl⟩:=c6
     obtain ⟨ph,e1,e2,e3⟩:=Wl s.Fz l vs as' (by omega) v4 GB
     have hv: ∃v,(results fn a'.tmps).run P w'= .ok v w'/\JY s.Fv s.Fz ph v:=by
      unfold JY
      rw [<-e1,hmul]
      rcases Nat.lt_or_ge 1 l.length with h1|h1
      ·have HL:Nat.blt 1 l.length=true:=by simpa using h1
       simp only [HL,if_true]
       refine ⟨.tuple vs.toArray,Og _ ?_,rfl⟩
       rw [dif_neg (by simp;omega)]
      ·have HL:Nat.blt 1 l.length=false:=by rw [<-Bool.not_eq_true];simpa using h1
       simp only [HL,Bool.false_eq_true,if_false]
       rcases vs with _|⟨v,_|⟨v',vs⟩⟩
       ·exact ⟨_,Og _ (by simp;rfl), .inr rfl⟩
       ·exact ⟨v,Og _ (by simp), .inl rfl⟩
       ·exfalso;simp only [List.length_cons] at v1;omega
     obtain ⟨v,hv1,hv2⟩:=hv
     exact ⟨ph,v,none,e3,hv1, .inl ⟨xf,rfl,rfl,hv2,e2⟩⟩
   ·rename_i tid xf
    split at c6
    rotate_left
    ·cases c6
    rename_i m i
    split at c6
    rotate_left
    ·cases c6
    rename_i No tV hm
    split at c6
    rotate_left
    ·cases c6
    rename_i hc
    obtain ⟨rfl,rfl,MB⟩:=hc
    simp only [Option.some.injEq,Prod.mk.injEq] at c6
    obtain ⟨rfl,rfl⟩:=c6
    unfold St.at at hm
    rcases vs with _|⟨v,_|⟨v',vs⟩⟩
    ·exfalso;simp only [List.length_cons,List.length_nil] at v1 v2;omega
    ·obtain ⟨q,Alh,vs2,q1,q2,q3⟩:=v4 0 _ v rfl rfl
     rw [hm] at q1;cases q1
     obtain ⟨q',k1,k2,cur,k3,k4⟩:=(h'.1.heap m).Ma hm
     rw [q2] at k1;cases k1
     refine ⟨cur.toList,v,some q,Hv.of k4,Og _ (by simp), .inr ⟨_,m,q,xf,rfl,by simpa using MB,rfl,q2,k2,by simpa using k3,λu hu=>?_,q3⟩⟩
     obtain ⟨i,hi,rfl⟩:=List.mem_iff_getElem.1 hu
     have hl:=k4.1
     obtain ⟨u',h6,h7,_⟩:=k4.2 i (tV[i]'(by omega)) (List.getElem?_eq_getElem _)
     rw [List.getElem?_eq_getElem hi] at h6
     rw [Option.some.inj h6];exact h7
    ·exfalso;simp only [List.length_cons,List.length_nil] at v1 v2;omega
  obtain ⟨tW,p1,p2,p3,p4,p5⟩:=qh h'.1 s.outs 0 (bc++as) (bv++ph) r' ls (hbv.append Afv) rO m2
  obtain ⟨io1,io2⟩:=Nf (π0:=kN) h'.1 (λ_=>rfl) s.ins 0 x us o' TG pM
  have YO:(bv++ph).drop s.Sv=ph:=by rw [<-Ae4];simp
  let ρ:Pi:= λl0=>if l0=Fh s.outs.length then qm else tW l0
  have UG:ρ (Fh s.outs.length)=qm:=if_pos rfl
  have Aaa: ∀l0,l0≠Fh s.outs.length->ρ l0=tW l0:= λl0 h=>if_neg h
  have Aa9: ∀j,j<s.outs.length->ρ (Fh j)=tW (Fh j):= λj hj=>Aaa _ (by unfold Fh;omega)
  have o0: ∀l0 q,ρ l0=some q->(l0=Fh s.outs.length/\qm=some q)\/(l0≠Fh s.outs.length/\tW l0=some q):= λl0 q h=>by
   by_cases e:l0=Fh s.outs.length
   ·subst e;rw [UG] at h;exact .inl ⟨rfl,h⟩
   ·rw [Aaa l0 e] at h;exact .inr ⟨e,h⟩
  have ZM: ∀q,qm=some q-> ∃m,ml= [m]/\m<Aj/\Vj m=some q:= λq hq=>by
   rcases RK with ⟨_,_,h1,_⟩|⟨_,m,q',_,h1,h2,h3,h4,_⟩
   ·rw [h1] at hq;cases hq
   ·rw [h3] at hq;cases hq;exact ⟨m,h1,h2,h4⟩
  have p3': ∀l0 q b,ρ l0=some q->q.Ax b-> ∃l1∈ml++ls,∃p,Vj l1=some p/\p.cl b/\((s.outs.all λc=>!c.RT)=true->p.Ax b)/\((l1∈ls)\/l1<Aj):= λl0 q b h1 h2=>by
   rcases o0 l0 q h1 with ⟨_,h3⟩|⟨_,h3⟩
   ·obtain ⟨m,e1,e2,e3⟩:=ZM q h3
    exact ⟨m,by rw [e1];simp,q,e3,h'.1.sub m q b e3 h2,λ_=>h2, .inr e2⟩
   ·obtain ⟨l1,g1,p,g2,g3,g4⟩:=p3 l0 q b h3 h2
    exact ⟨l1,List.mem_append_right _ g1,p,g2,g3,g4, .inl g1⟩
  have p4': ∀l0 l1 q q' b,ρ l0=some q->ρ l1=some q'->q.Ax b->q'.Ax b->l0=l1:= λl0 l1 q q' b h1 h2 h3 h4=>by
   have uw: ∀l0 q q' b,tW l0=some q->qm=some q'->q.Ax b->q'.Ax b->False:= λl0 q q' b h1 h2 h3 h4=>by
    obtain ⟨m,e1,e2,e3⟩:=ZM q' h2
    obtain ⟨l1,g1,p,g2,g3,_⟩:=p3 l0 q b h1 h3
    have:=h'.1.inj m l1 q' p b e3 g2 (h'.1.sub m q' b e3 h4) g3
    exact m3 m (by rw [e1];simp) l1 g1 this
   rcases o0 l0 q h1 with ⟨e1,h5⟩|⟨e1,h5⟩<;>rcases o0 l1 q' h2 with ⟨e2,h6⟩|⟨e2,h6⟩
   ·rw [e1,e2]
   ·exact (uw l1 q' q b h6 h5 h4 h3).elim
   ·exact (uw l0 q q' b h5 h6 h3 h4).elim
   ·exact p4 l0 l1 q q' b h5 h6 h3 h4
  have AF: ∀l0 q,Aj<=l0->kN l0=some q->Ae st.heap l0≠none/\(l0∈Jw 0 s.ins\/ ∃b,Ae st.heap l0=some b/\b.row=none):= λl0 q h1 h2=>by
   rcases FA l0 q h2 with ⟨h3,_⟩|⟨h3,rfl,_⟩
   ·have rH:=pW s.ins 0 x l0 ZC (by omega) (λhnn=>by rw [HN l0 hnn] at h3;cases h3) (by omega)
    exact ⟨io2 l0 rH, .inl rH⟩
   ·obtain ⟨b,h4,h5⟩:=Afw h3
    exact ⟨by rw [h4];simp, .inr ⟨b,h4,h5⟩⟩
  have hDO:(s.outs.all λc=>!c.RT)=true-> ∀b,dG Sg kN ρ b->Oi Vj b\/Sg b:=by
   intro hx b hb
   rcases hb with hb|⟨l0,q,h1,h2,h3⟩|⟨l0,q,h1,h2⟩
   ·exact .inr hb
   ·have hs:=h'.1.cw l0 h1 (AF l0 q h1 h2).1
    have hs:Ue ((kN l0).map full) (Vj l0):=hs
    rw [h2] at hs
    cases tS:Vj l0 with
    |none=>rw [tS] at hs;exact hs.elim
    |some q1=>rw [tS] at hs;exact .inl ⟨l0,q1,tS,(hs.2.2.2 b).1 h3⟩
   ·obtain ⟨m,_,p,hm2,_,TP,_⟩:=p3' l0 q b h1 h2
    exact .inl ⟨m,p,hm2,TP hx⟩
  have hDD: ∀b,dG S π ρ b->dG Sg kN ρ b:= λb hb=>by
   rcases hb with hb|⟨l0,q,h1,h2,h3⟩|hb
   ·by_cases FW:s.gv g b
    ·obtain ⟨XB,rfl⟩:=FW
     exact .inr (.inl ⟨Lm,_,RJ,if_pos ⟨XB,rfl⟩,rfl⟩)
    ·exact .inl ⟨hb,FW⟩
   ·refine .inr (.inl ⟨l0,q,h1,?_,h3⟩)
    show (if s.ptr.isSome=true/\l0=Lm then _ else π l0)=some q
    rw [if_neg]
    ·exact h2
    ·rintro ⟨_,rfl⟩
     rw [HN Lm UC] at h2;cases h2
   ·exact .inr (.inr hb)
  have LV:s.flat=true\/(s.outs.all λc=>!c.RT)=true:=by unfold MSpec.IZ at YZ;simpa only [Bool.or_eq_true] using YZ
  have io1:Hc w' (dG S π ρ) π 0 s.ins o':=by
   refine Hc.congr s.ins 0 o' RD ?_
   rcases LV with hf|hf
   ·unfold MSpec.flat at hf
    simp only [Bool.and_eq_true] at hf
    exact Hc.any s.ins 0 o' hf.2 io1
   ·exact Hc.Es (λb hb=>hDO hf b (hDD b hb)) s.ins 0 o' io1
  have p1:Et w' (dG S π ρ) ρ 0 s.outs r' (bv++ph):=by
   have p1:Et w' (λb=>Oi Vj b\/Sg b) ρ 0 s.outs r' (bv++ph):=Et.GX s.outs 0 r' _ (λj _ hj=>Aa9 j (by omega)) p1
   rcases LV with hf|hf
   ·unfold MSpec.flat at hf
    simp only [Bool.and_eq_true] at hf
    exact Et.any s.outs 0 r' (bv++ph) hf.1 p1
   ·exact Et.Es (λb hb=>hDO hf b (hDD b hb)) s.outs 0 r' (bv++ph) p1
  refine ⟨v,bv++ph,ρ,h'.2.defers,hv,?_,Ae2 ph,⟨h'.1.below.os,h'.1.below.tape,h'.1.below.output,h'.1.below.size,λk hk hn=>h'.1.below.block k hk λho=>hn ((Yd k).1 ho)⟩,io1,p1,⟨λl0 q b h1 h2=>?_,p4'⟩,λl0 TN=>?_,λkj FX=>?_⟩
  ·rw [YO]
   unfold lK
   rcases RK with ⟨h1,_,_,h2⟩|⟨tid,m,q,h1,_,_,h3,_,h4,h5,h6,h7⟩
   ·rw [h1];exact h2
   ·rw [h1];exact ⟨q,by rw [UG,h3],h4,h5,h6,h7⟩
  ·obtain ⟨m,RF,p,hm2,hm3,_,TP⟩:=p3' l0 q b h1 h2
   obtain ⟨k1,k2⟩:=h'.1.place m p b hm2 hm3
   refine ⟨k2,k1.imp id λ⟨c0,q0,h5,h6⟩=>?_⟩
   have Hl:c0<Aj:=Classical.byContradiction λhn=>by
    obtain ⟨Ek,rH⟩:=AF c0 q0 (by omega) h5
    have hs:=h'.1.cw c0 (by omega) Ek
    have hs:Ue ((kN c0).map full) (Vj c0):=hs
    rw [h5] at hs
    cases tS:Vj c0 with
    |none=>rw [tS] at hs;exact hs.elim
    |some q1=>
     rw [tS] at hs
     have hf1:q1.Ax b:=(hs.2.2.2 b).1 h6
     have:=h'.1.inj c0 m q1 p b tS hm2 (h'.1.sub c0 q1 b tS hf1) hm3
     subst this
     rcases TP with TP|TP
     ·rcases rH with rH|⟨b1,HL,YG⟩
      ·exact n3 c0 RF c0 rH rfl
      ·obtain ⟨b2,hb3,hb4⟩:=mV s.outs _ _ _ rO c0 TP
       rw [HL] at hb3;cases hb3
       exact hb4 YG
     ·exact hn TP
   refine ⟨c0,q0,Hl,?_,h6⟩
   rcases FA c0 q0 h5 with ⟨h7,_⟩|⟨_,h7,_⟩
   ·exact h7
   ·omega
  ·cases hp:ρ l0 with
   |none=>rfl
   |some q=>
    rcases o0 l0 q hp with ⟨e,h3⟩|⟨_,h3⟩
    ·refine absurd e (TN _ ?_)
     rcases RK with ⟨_,_,h4,_⟩|⟨tid,m,q',h4,_⟩
     ·rw [h4] at h3;cases h3
     ·unfold MSpec.Nj;rw [h4];simp
    ·obtain ⟨j,_,j2,j3⟩:=p2 l0 q h3
     exact absurd j3 (TN j (by unfold MSpec.Nj;omega))
  ·obtain ⟨l0,off,len,e,te,rows,out,p,q1,q2,q3,q4,q5⟩:=pZ pR kj FX
   have hj:kj.2<s.outs.length:=by
    rw [<-qg s.outs _ _ _ rO]
    exact (List.getElem?_eq_some_iff.1 q1).1
   have e1:=p5 kj.2 l0 off len e te rows out (some p) q1 q2
   rw [Nat.zero_add] at e1
   rw [Aa9 _ hj,e1]
   have hk:=((h'.1.heap l0).Ma q2).2
   obtain ⟨l1,n1⟩:=p
   simp only [KeptAt] at hk
   dsimp only at q3 q4
   subst q3
   have CE:π0 (Bo false kj.1)=(π (Bo false kj.1)).map full:=by
    show (if s.ptr.isSome=true/\Bo false kj.1=Lm then _ else π (Bo false kj.1)).map full=_
    rw [if_neg λh=>ZZ false kj.1 q5 h.2]
   rw [CE] at hk
   unfold tY
   cases hp:π (Bo false kj.1) with
   |none=>
    rw [hp] at hk
    cases tS:Vj l0 with
    |none=>trivial
    |some q=>rw [tS] at hk;exact hk.elim
   |some q0=>
    rw [hp] at hk
    cases tS:Vj l0 with
    |none=>rw [tS] at hk;exact hk.elim
    |some q=>
     rw [tS] at hk
     obtain ⟨k1,k2,k3,k4⟩:=hk
     exact ⟨k1,k2,k3,λj hj hc=>k4 j (by omega) hc⟩
 refine calls_of_wp hf hb ?_
 refine (np hT Mb hm he _ w _ h0 λe st a' w' ⟨Ek,kW⟩ h'=>?_).1
 obtain ⟨v,Sj,ρ,p1,p2,p3⟩:=fin st a' w' kW h'
 cases e with
 |normal=>exact ⟨p1,v,p2,v,Sj,ρ,rfl,p3⟩
 |ret=>exact ⟨p1,v,p2,v,Sj,ρ,rfl,p3⟩
 |exit id=>exact absurd rfl (Ek id)
end
end Go.Proofs.Ytjbdmibbbpdnnaa
