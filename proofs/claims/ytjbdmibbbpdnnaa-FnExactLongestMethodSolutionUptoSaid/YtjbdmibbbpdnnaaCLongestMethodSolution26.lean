/-
  Part 27 of the proof that the statement FnExactLongestMethodSolution holds.
-/
import Derived.Test.YtjbdmibbbpdnnaaCLongestMethodSolution25
namespace Go.Proofs.Ytjbdmibbbpdnnaa
open Go.RowKit
section
variable {P:Program} {T:Tab} {Γ:Env} {X:Ctx} {w w':World} {π:Pi} {H:List (Nat×OB)}
theorem mu: ∀(cs:List (Bool×CK)) (k:Nat) (x:Ins.den cs) (l:Nat),Ae (Rr k cs x) l≠none-> ∃b j,k<=j/\j<k+cs.length/\l=Bt b j
 | [],_,_,_,h=>absurd rfl h
 |p::r,k,x,l,h=>by
  simp only [Rr] at h
  by_cases e:l=Bt p.1 k
  ·exact ⟨p.1,k,Nat.le_refl _,by simp,e⟩
  ·have:Ae (Rr (k+1) r x.2) l≠none:=by
    cases hc:dL (Bt p.1 k) p.2 x.1 with
    |none=>rw [hc] at h;exact h
    |some b=>rw [hc] at h;simpa only [bK,Ae,if_neg (Ne.symm e)] using h
   obtain ⟨b,j,h1,h2,h3⟩:=mu r (k+1) x.2 l this
   exact ⟨b,j,by omega,by simp;omega,h3⟩
theorem CJ {p:Bool×CK} {r:List (Bool×CK)} {k:Nat} {x:Ins.den (p::r)} (hk:k+(r.length+1)<100000) {l:Nat} {b:OB} (h:Ae (Rr (k+1) r x.2) l=some b):Ae (Rr k (p::r) x) l=some b:=by
 obtain ⟨b',j,h1,h2,rfl⟩:=mu r (k+1) x.2 l (by rw [h];simp)
 simp only [Rr]
 cases dL (Bt p.1 k) p.2 x.1 with
 |none=>exact h
 |some c=>simp only [bK,Ae];rw [if_neg (AX (by omega) (by omega) (by omega))];exact h
theorem GX {D:Nat->Prop} (hD: ∀b,Bd X.w0.heap.size X.Sc π false b->D b) (UJ:X.w0=w) {l:Nat} {r:Option Real} (Ya:X.cw l=r.map full) {u:Value} {c:CK} {x:c.den} (h:Yw w D r u c x) {b:OB} (hb:dL l c x=some b):Au X w π H (r.map full) b:=by
 have Ro: ∀ {e:Ty} {es:List Value} {y:e.den},Cells w D e es y->Cells w (Bd X.w0.heap.size X.Sc π false) e es y:= λ {e es y} h=>Cells.Ct (Nat.le_refl _) (λ_ _ _=>rfl) (λb _ hb=>hD b hb) e es y h
 cases c with
 |Hf τ=>cases hb
 |row e te=>
  simp only [dL,Option.some.injEq] at hb;subst hb
  obtain ⟨_,h⟩:=h
  simp only [aF] at h
  simp only [Au,Fk]
  cases r with
  |none=>exact h
  |some q=>
   obtain ⟨k1,cu,ti,k2,k3,k4,k5,k6⟩:=h
   exact ⟨⟨k1.1,k1.2,λh=>by cases h⟩,cu,ti,k2,k3,k4,k5,λi y hy=>by
    obtain ⟨es,g1,g2,g3⟩:=k6 i y hy
    exact ⟨es,g1,g2,Ro g3⟩,λh=>by cases h⟩
 |Dv e te=>
  simp only [dL,Option.some.injEq] at hb;subst hb
  cases r<;>exact h.2
 |part e te=>
  simp only [dL,Option.some.injEq] at hb;subst hb
  obtain ⟨_,hf,h⟩:=h
  simp only [Au,Fk]
  cases r with
  |none=>exact h
  |some q=>
   obtain ⟨k1,cu,ti,k2,k3,k4,k5,k6⟩:=h
   exact ⟨⟨k1.1,k1.2,λh=>by cases h⟩,cu,ti,k2,k3,k4,k5,λi y hy=>by
    obtain ⟨es,g1,g2,g3⟩:=k6 i y hy
    exact ⟨es,g1,g2,Ro g3⟩,λh=>by cases h⟩
 |Al e te kp=>
  simp only [dL,Option.some.injEq] at hb;subst hb
  have h2:Sj w D r e x none:=h.2
  have h3:=Sj.Ev h2 hD
  refine ⟨by cases r<;>exact h3,?_⟩
  cases kp with
  |false=>trivial
  |true=>
   simp only [if_true,KeptAt]
   rw [Ya]
   cases r with
   |none=>trivial
   |some q=>exact ⟨rfl,rfl,rfl,λj _ _=>by rw [UJ]⟩
theorem fu {D:Nat->Prop} (hD: ∀b,Bd X.w0.heap.size X.Sc π false b->D b) (UJ:X.w0=w) {π0:Pi} (Ya: ∀l,X.cw l=(π0 l).map full): ∀(cs:List (Bool×CK)) (k:Nat) (x:Ins.den cs) (us:List Value),Yy w D π0 k cs x us-> ∀l b,Ae (Rr k cs x) l=some b->Au X w π H ((π0 l).map full) b
 | [],_,_,_,_,_,_,h=>by cases h
 |_::_,_,_,[],h,_,_,_=>h.elim
 |p::r,k,x,u::us,h,l,b,hb=>by
  simp only [Rr] at hb
  cases hc:dL (Bt p.1 k) p.2 x.1 with
  |none=>rw [hc] at hb;exact fu hD UJ Ya r (k+1) x.2 us h.2 l b hb
  |some c=>
   rw [hc] at hb
   simp only [bK,Ae] at hb
   split at hb
   ·rename_i e;subst e
    simp only [Option.some.injEq] at hb;subst hb
    exact GX hD UJ (Ya _) h.1 hc
   ·exact fu hD UJ Ya r (k+1) x.2 us h.2 l b hb
theorem vf {S:Nat->Prop} {π0:Pi} {gv:Nat->Prop} {cw:Pi} (Xz: ∀l,π l=(π0 l).map full): ∀(cs:List (Bool×CK)) (k:Nat) (x:Ins.den cs) (us:List Value),k+cs.length<100000->Yy w (λb=>Oi π0 b\/S b) π0 k cs x us->(∀l b,Ae (Rr k cs x) l=some b->Ae H l=some b)->
  Ia ⟨w,S,gv,cw⟩ w π H (Un k cs x) us
 | [],_,_,[],_,_,_=>trivial
 | [],_,_,_::_,_,h,_=>h.elim
 |_::_,_,_,[],_,h,_=>h.elim
 |p::r,k,x,u::us,hk,h,hH=>by
  simp only [List.length_cons] at hk
  refine ⟨?_,vf Xz r (k+1) x.2 us (by omega) h.2 λl b hb=>hH l b (CJ hk hb)⟩
  have h1:=h.1
  have hh: ∀b,dL (Bt p.1 k) p.2 x.1=some b->Ae H (Bt p.1 k)=some b:= λb hb=>hH _ b (by simp only [Rr];rw [hb];simp [bK,Ae])
  have dr:=Xz (Bt p.1 k)
  obtain ⟨io,c⟩:=p
  dsimp only at h1 hh dr⊢
  generalize x.1=y at*
  cases c with
  |Hf τ=>
   show Bc w _ τ u y
   cases hf:τ.flat with
   |true=>exact Bc.flat hf h1.2
   |false=>
    refine h1.2.Ev λb _ hb=>?_
    rcases hb with ⟨l,q,h3,h4⟩|hb|⟨hb,_⟩
    ·rw [Xz l] at h3
     cases hp:π0 l with
     |none=>rw [hp] at h3;cases h3
     |some q0=>rw [hp] at h3;simp only [Option.map_some,Option.some.injEq] at h3;subst h3;exact .inl ⟨l,q0,hp,h4⟩
    ·exact .inr hb
    ·cases hb
  |row e te=>exact ⟨_,e.size,List.length y,hh _ rfl,rfl,by simp,by rw [dr];exact Rw h1.1⟩
  |Dv e te=>exact ⟨_,e.size,List.length y,hh _ rfl,rfl,by simp,by rw [dr];exact Rw h1.1⟩
  |part e te=>exact ⟨_,e.size,List.length y.1,hh _ rfl,rfl,h1.1.2,by rw [dr];exact Rw h1.1.1⟩
  |Al e te kp=>exact ⟨_,1,List.length y,hh _ rfl,rfl,by simp,by rw [dr];exact Rw h1.1⟩
theorem jm {p:Real} {s off len:Nat} {u:Value} {f:Nat->Prop} (h:Dw (some p) s off len u):Dw (some ⟨p.g,p.o+off,p.cap-off,f,f⟩) s 0 len u:=by
 obtain ⟨ad,h1,h2,h3⟩:=h
 exact ⟨ad,h1,by dsimp only;omega,λh0=>by dsimp only at h0;simpa using h3 (by omega)⟩
theorem mW {α:Type} {xs:List α} {off len i:Nat} {x:α} (h:((xs.drop off).take len)[i]?=some x):xs[off+i]?=some x:=by
 rw [List.getElem?_take] at h
 split at h
 ·rw [List.getElem?_drop] at h;exact h
 ·cases h
theorem Pq.part {P:Nat->Prop} {g o:Nat} {cur:Array Value} {e:Ty} {xs:List e.den} (off len:Nat) (h:Pq w P g o cur e xs):Pq w P g (o+off) cur e ((xs.drop off).take len):=by
 obtain ⟨Fs,t1,t2,t3,t4⟩:=h
 refine ⟨(Fs.drop off).take len,by simp [t1],List.nodup_cons.2 ⟨λhm=>(List.nodup_cons.1 t2).1 (Lt off len _ hm),fF off len (List.nodup_cons.1 t2).2⟩,λb hb=>t3 b (Lt off len b hb),λi x F hx hF=>?_⟩
 obtain ⟨es,k1,k2,k3⟩:=t4 (off+i) x F (mW hx) (mW hF)
 exact ⟨es,k1,λj u hu=>by rw [Nat.add_assoc o off i];exact k2 j u hu,k3⟩
theorem DB {st:St} (h:Hx X w π st.heap) {c:CK} (hg: ∀e te kp,c≠ .Al e te kp) {a:AC} {u:Value} (hu:Dy X w π st.heap a u) {x:c.den} {ls:List Nat} (he:dO st c a=some (x,ls)):
  ∃r,Yw w (λb=>Oi π b\/X.Sc b) r u c x/\ ∀q,r=some q-> ∃l p,ls= [l]/\π l=some p/\(∀b,q.Ay b->p.cl b)/\(c.RW=false-> ∀b,q.Ay b->p.Ay b):=by
 have HN: ∀ {f:Bool} (b:Nat),(Oi π b\/X.Sc b)->Bd X.w0.heap.size X.Sc π f b:= λb h=>h.imp id .inl
 cases c with
 |Hf τ=>
  simp only [dO] at he
  split at he
  ·rename_i hf
   cases hv:Bl st τ a with
   |none=>rw [hv] at he;cases he
   |some p=>
    obtain ⟨fr,y⟩:=p
    rw [hv] at he
    simp only [Option.map_some,Option.some.injEq,Prod.mk.injEq] at he
    obtain ⟨rfl,rfl⟩:=he
    refine ⟨none,⟨rfl,?_⟩,λq hq=>by cases hq⟩
    have Ev: ∀f,Bc w (Bd X.w0.heap.size X.Sc π f) τ u y->Bc w (λb=>Oi π b\/X.Sc b) τ u y:= λf hr=>hr.Ev λk _ hk=>HN k hk
    cases a with
    |data f Jb z=>
     rw [Iq] at hv
     split at hv
     ·rename_i ht;subst ht
      simp only [Option.some.injEq,Prod.mk.injEq] at hv
      obtain ⟨_,rfl⟩:=hv
      exact Ev f hu
     ·have Og:τ.Ac=false:=by unfold bM at hv;split at hv<;>first|rfl|cases hv
      exact Ev _ ⟨[u],Wq hv hu,by simp [Ar,Og]⟩
    |Hq=>
     have hu:u= .slice none 0 0:=hu
     subst hu
     cases τ<;>simp only [Bl,Option.some.injEq,Prod.mk.injEq,reduceCtorEq] at hv
     ·obtain ⟨_,rfl⟩:=hv;exact ⟨[_],⟨none,0,0,rfl,rfl,Nat.le_refl _, .inl rfl⟩,rfl⟩
     ·obtain ⟨_,rfl⟩:=hv;exact ⟨[_], .inl ⟨rfl,0,rfl⟩,rfl⟩
    |Qi=>
     have hu:u= .pointer none:=hu
     subst hu
     cases τ<;>simp only [Bl,Option.some.injEq,Prod.mk.injEq,reduceCtorEq] at hv
     obtain ⟨_,rfl⟩:=hv;exact ⟨[_], .inl ⟨rfl,rfl⟩,rfl⟩
    |_=>cases τ<;>simp [AC.settled,Ty.flat,Bl] at hf hv
  ·cases he
 |row e te=>
  cases a<;>simp only [dO] at he<;>try (cases he;done)
  ·simp only [Option.some.injEq,Prod.mk.injEq] at he
   obtain ⟨rfl,rfl⟩:=he
   have hu:u= .slice none 0 0:=hu
   exact ⟨none,⟨⟨hu,rfl,rfl⟩,rfl⟩,λq hq=>by cases hq⟩
  ·rename_i l off len
   split at he
   ·rename_i fr tr e' La xs hl
    split at he
    ·rename_i hc
     obtain ⟨rfl,rfl⟩:=hc
     simp only [Option.some.injEq,Prod.mk.injEq] at he
     obtain ⟨rfl,rfl⟩:=he
     unfold St.at at hl
     obtain ⟨h1,h2⟩:=Jf hu hl
     have hb:=(h.heap l).Mc hl
     simp only [Au,Fk] at hb
     have hlen:((xs.drop off).take len).length=len:=by simp;omega
     cases hp:π l with
     |none=>
      rw [hp] at h2 hb
      obtain ⟨rfl,rfl,rfl⟩:=h2
      exact ⟨none,⟨⟨rfl,rfl,by simp⟩,by show (xs.drop 0).take 0= [];simp⟩,λq hq=>by cases hq⟩
     |some p=>
      rw [hp] at h2 hb
      obtain ⟨k1,cur,ti,k2,k3,k4,k5,k6,_⟩:=hb
      have ho:=h2
      obtain ⟨ad,_,mg,_⟩:=h2
      refine ⟨some ⟨p.g,p.o+off,p.cap-off,p.Ay,p.Ay⟩,⟨by rw [hlen];exact jm ho,⟨k1.1,k1.2.1⟩,cur,ti,k2,by rw [k3];congr 1;dsimp only;omega,by dsimp only;omega,by rw [hlen];dsimp only;omega,λi y hy=>?_⟩,
       fun q hq=>by cases hq;exact ⟨l,p,rfl,hp,λb hb=>h.sub l p b hp hb,λ_ b hb=>hb⟩⟩
      obtain ⟨es,g1,g2,g3⟩:=k6 (off+i) y (mW hy)
      exact ⟨es,g1,λj u hu=>by dsimp only;rw [Nat.add_assoc p.o off i];exact g2 j u hu,Cells.Ct (Nat.le_refl _) (λ_ _ _=>rfl) (λb _ hb=>HN b hb) e' es y g3⟩
    ·cases he
   ·cases he
 |Dv e te=>
  cases a<;>simp only [dO] at he<;>try (cases he;done)
  ·simp only [Option.some.injEq,Prod.mk.injEq] at he
   obtain ⟨rfl,rfl⟩:=he
   have hu:u= .slice none 0 0:=hu
   exact ⟨none,⟨⟨hu,rfl,rfl⟩,rfl⟩,λq hq=>by cases hq⟩
  ·rename_i l off len
   split at he
   ·rename_i fr tr e' La xs hl
    split at he
    ·rename_i hc
     obtain ⟨rfl,rfl,hf⟩:=hc
     simp only [Option.some.injEq,Prod.mk.injEq] at he
     obtain ⟨rfl,rfl⟩:=he
     unfold St.at at hl
     obtain ⟨h1,h2⟩:=Jf hu hl
     have hb:=(h.heap l).Mc hl
     simp only [Au,Fk] at hb
     have hlen:((xs.drop off).take len).length=len:=by simp;omega
     cases hp:π l with
     |none=>
      rw [hp] at h2 hb
      obtain ⟨rfl,rfl,rfl⟩:=h2
      exact ⟨none,⟨⟨rfl,rfl,by simp⟩,by show (xs.drop 0).take 0= [];simp⟩,λq hq=>by cases hq⟩
     |some p=>
      rw [hp] at h2 hb
      obtain ⟨k1,cur,ti,k2,k3,k4,k5,k6,k7⟩:=hb
      have ho:=h2
      obtain ⟨ad,_,mg,_⟩:=h2
      have ht:Pq w p.cl p.g p.o cur e' xs:=by
       simp only [Bool.or_eq_true] at hf
       rcases hf with hf|hf
       ·exact k7 hf
       ·exact gF hf k6
      exact ⟨some ⟨p.g,p.o+off,p.cap-off,p.cl,p.cl⟩,⟨by rw [hlen];exact jm ho,h.sub l p _ hp k1.1,cur,ti,k2,by rw [k3];congr 1;dsimp only;omega,by dsimp only;omega,by rw [hlen];dsimp only;omega,ht.part off len⟩,
       fun q hq=>by cases hq;exact ⟨l,p,rfl,hp,λb hb=>hb,λhx=>by cases hx⟩⟩
    ·cases he
   ·rename_i e' La xs hl
    split at he
    ·rename_i hc
     obtain ⟨rfl,rfl⟩:=hc
     simp only [Option.some.injEq,Prod.mk.injEq] at he
     obtain ⟨rfl,rfl⟩:=he
     unfold St.at at hl
     obtain ⟨h1,h2⟩:=Uy hu hl
     have hb:=(h.heap l).Mc hl
     simp only [Au,Is] at hb
     have hlen:((xs.drop off).take len).length=len:=by simp;omega
     cases hp:π l with
     |none=>
      rw [hp] at h2 hb
      obtain ⟨rfl,rfl,rfl⟩:=h2
      exact ⟨none,⟨⟨rfl,rfl,by simp⟩,by show (xs.drop 0).take 0= [];simp⟩,λq hq=>by cases hq⟩
     |some p=>
      rw [hp] at h2 hb
      obtain ⟨k1,cur,ti,k2,k3,k4,k5,ht⟩:=hb
      have ho:=h2
      obtain ⟨ad,_,mg,_⟩:=h2
      exact ⟨some ⟨p.g,p.o+off,p.cap-off,p.Ay,p.Ay⟩,⟨by rw [hlen];exact jm ho,k1,cur,ti,k2,by rw [k3];congr 1;dsimp only;omega,by dsimp only;omega,by rw [hlen];dsimp only;omega,ht.part off len⟩,
       fun q hq=>by cases hq;exact ⟨l,p,rfl,hp,λb hb=>h.sub l p b hp hb,λ_ b hb=>hb⟩⟩
    ·cases he
   ·cases he
 |part e te=>cases a<;>simp [dO] at he
 |Al e te kp=>exact absurd rfl (hg e te kp)
theorem JN {st:St} (h:Hx X w π st.heap) {c:CK} {a:AC} {u:Value} (hu:Dy X w π st.heap a u) {x:c.den} {ls:List Nat} (he:dO st c a=some (x,ls)):
  ∃r,Yw w (λb=>Oi π b\/X.Sc b) r u c x/\(∀q,r=some q-> ∃l p,ls= [l]/\π l=some p/\(∀b,q.Ay b->p.cl b)/\(c.RW=false-> ∀b,q.Ay b->p.Ay b))/\
   (∀l off len e te rows out kp,a= .own l off len->Ae st.heap l=some (.Al e te rows out kp)->r=π l):=by
 have oo:(∀e te kp,c≠ .Al e te kp)->(∀l off len e te rows out kp,a=AC.own l off len->Ae st.heap l=some (OB.Al e te rows out kp)->False)->
   ∃r,Yw w (λb=>Oi π b\/X.Sc b) r u c x/\(∀q,r=some q-> ∃l p,ls= [l]/\π l=some p/\(∀b,q.Ay b->p.cl b)/\(c.RW=false-> ∀b,q.Ay b->p.Ay b))/\
   (∀l off len e te rows out kp,a= .own l off len->Ae st.heap l=some (.Al e te rows out kp)->r=π l):= λh1 h2=>by
  obtain ⟨r,g1,g2⟩:=DB h h1 hu he
  exact ⟨r,g1,g2,λl off len e te rows out kp h3 h4=>(h2 l off len e te rows out kp h3 h4).elim⟩
 cases c with
 |Hf τ=>
  refine oo (λ_ _ _ h=>by cases h) λl off len e te rows out kp h3 h4=>?_
  subst h3
  simp only [dO] at he
  split at he
  ·rename_i hf
   cases τ<;>simp [AC.settled,Ty.flat,Bl] at hf he
  ·cases he
 |row e te=>
  refine oo (λ_ _ _ h=>by cases h) λl off len e te rows out kp h3 h4=>?_
  subst h3
  simp only [dO,St.at,h4] at he
  cases he
 |Dv e te=>
  refine oo (λ_ _ _ h=>by cases h) λl off len e te rows out kp h3 h4=>?_
  subst h3
  simp only [dO,St.at,h4] at he
  cases he
 |part e te=>cases a<;>simp [dO] at he
 |Al e te kp=>
  cases a<;>simp only [dO] at he<;>try (cases he;done)
  rename_i l off len
  split at he
  ·rename_i e' La rows kp' hl
   split at he
   ·rename_i hc
    obtain ⟨rfl,rfl,rfl,rfl⟩:=hc
    simp only [Option.some.injEq,Prod.mk.injEq] at he
    obtain ⟨rfl,rfl⟩:=he
    unfold St.at at hl
    obtain ⟨b,sz,n,h1,h2,_,h3⟩:=hu
    rw [hl] at h1;cases h1
    simp only [OB.row,Option.some.injEq,Prod.mk.injEq] at h2
    obtain ⟨rfl,rfl⟩:=h2
    have hb:=((h.heap l).Mc hl).1
    refine ⟨π l,⟨h3,Sj.Ev hb λb hb=>hb.imp id .inl⟩,λq hq=>⟨l,q,rfl,hq,λb hb=>h.sub l q b hq hb,λ_ b hb=>hb⟩,λl' Ala Al6 _ _ _ _ _ he _=>?_⟩
    simp only [AC.own.injEq] at he
    rw [he.1]
   ·cases he
  ·cases he
theorem Ew.congr {D:Nat->Prop} {ρ ρ':Pi} : ∀(cs:List CK) (k:Nat) (x:CKs.den cs) (us:List Value),(∀j,k<=j->ρ' (Fq j)=ρ (Fq j))->Ew w D ρ k cs x us->Ew w D ρ' k cs x us
 | [],_,_,[],_,h=>h
 | [],_,_,_::_,_,h=>h.elim
 |_::_,_,_,[],_,h=>h.elim
 |c::r,k,x,u::us,he,h=>⟨by rw [he k (Nat.le_refl _)];exact h.1,Ew.congr r (k+1) x.2 us (λj hj=>he j (by omega)) h.2⟩
theorem ql {st:St} (h:Hx X w π st.heap): ∀(cs:List CK) (k:Nat) (as:List AC) (us:List Value) (x:CKs.den cs) (ls:List Nat),Ia X w π st.heap as us->Nw st cs as=some (x,ls)->ls.Nodup->
  ∃ρ:Pi,Ew w (λb=>Oi π b\/X.Sc b) ρ k cs x us/\(∀l q,ρ l=some q-> ∃j,k<=j/\j<k+cs.length/\l=Fq j)/\(∀l q b,ρ l=some q->q.Ay b-> ∃l0∈ls,∃p,π l0=some p/\p.cl b/\((cs.all λc=>!c.RW)=true->p.Ay b))/\
   (∀l l' q q' b,ρ l=some q->ρ l'=some q'->q.Ay b->q'.Ay b->l=l')/\
   (∀(j l off len:Nat) e te rows out kp,as[j]?=some (.own l off len)->Ae st.heap l=some (.Al e te rows out kp)->ρ (Fq (k+j))=π l)
 | [],k,[],[],x,ls,_,he,_=>by
  simp only [Nw,Option.some.injEq,Prod.mk.injEq] at he
  exact ⟨λ_=>none,trivial,(λl q h=>by cases h),(λl q b h=>by cases h),(λl l' q q' b h=>by cases h),λj l off len e te rows out kp h=>by simp at h⟩
 | [],_,[],_::_,_,_,h,_,_=>h.elim
 | [],_,_::_,_,_,_,_,he,_=>by simp [Nw] at he
 |_::_,_,[],_,_,_,_,he,_=>by simp [Nw] at he
 |_::_,_,_::_,[],_,_,h,_,_=>h.elim
 |c::r,k,a::as,u::us,x,ls,hr,he,oJ=>by
  simp only [Nw] at he
  split at he
  ·rename_i x1 t1 x2 t2 h1 h2
   simp only [Option.some.injEq,Prod.mk.injEq] at he
   obtain ⟨rfl,rfl⟩:=he
   obtain ⟨n1,n2,n3⟩:=List.nodup_append.1 oJ
   obtain ⟨ρ,g1,g2,g3,g4,g5⟩:=ql h r (k+1) as us x2 t2 hr.2 h2 n2
   obtain ⟨rr,r1,r2,r3⟩:=JN h hr.1 h1
   have uy: ∀l q q0 b,ρ l=some q->rr=some q0->q.Ay b->q0.Ay b->False:= λl q q0 b h3 h4 h5 h6=>by
    obtain ⟨l0,m0,p,p1,p2,_⟩:=g3 l q b h3 h5
    obtain ⟨l1,p',e1,p1',p2',_⟩:=r2 q0 h4
    have:=h.inj l0 l1 p p' b p1 p1' p2 (p2' b h6)
    exact n3 l1 (by rw [e1];simp) l0 m0 this.symm
   refine ⟨λl=>if l=Fq k then rr else ρ l,⟨by simpa using r1,Ew.congr r (k+1) x2 us (λj hj=>if_neg (by unfold Fq;omega)) g1⟩,λl q hq=>?_,λl q b hq hb=>?_,λl l' q q' b h3 h4 h5 h6=>?_,λj l off len e te rows out kp hj hl=>?_⟩
   ·dsimp only at hq
    by_cases e:l=Fq k
    ·exact ⟨k,Nat.le_refl _,by simp,e⟩
    ·rw [if_neg e] at hq
     obtain ⟨j,j1,j2,j3⟩:=g2 l q hq
     exact ⟨j,by omega,by simp;omega,j3⟩
   ·dsimp only at hq
    by_cases e:l=Fq k
    ·rw [if_pos e] at hq
     obtain ⟨l1,p',e1,p1',p2',p3'⟩:=r2 q hq
     exact ⟨l1,by rw [e1];simp,p',p1',p2' b hb,λhx=>p3' (by simp only [List.all_cons,Bool.and_eq_true,Bool.not_eq_true'] at hx;exact hx.1) b hb⟩
    ·rw [if_neg e] at hq
     obtain ⟨l0,m0,p,p1,p2,p3⟩:=g3 l q b hq hb
     exact ⟨l0,List.mem_append_right _ m0,p,p1,p2,λhx=>p3 (by simp only [List.all_cons,Bool.and_eq_true] at hx;exact hx.2)⟩
   ·dsimp only at h3 h4
    by_cases e:l=Fq k<;>by_cases e':l'=Fq k
    ·rw [e,e']
    ·rw [if_pos e] at h3;rw [if_neg e'] at h4
     exact (uy l' q' q b h4 h3 h6 h5).elim
    ·rw [if_neg e] at h3;rw [if_pos e'] at h4
     exact (uy l q q' b h3 h4 h5 h6).elim
    ·rw [if_neg e] at h3;rw [if_neg e'] at h4
     exact g4 l l' q q' b h3 h4 h5 h6
   ·rcases j with _|j
    ·simp only [List.getElem?_cons_zero,Option.some.injEq] at hj
     show (if Fq k=Fq k then rr else ρ (Fq k))=π l
     rw [if_pos rfl]
     exact r3 l off len e te rows out kp hj hl
    ·have:=g5 j l off len e te rows out kp (by simpa using hj) hl
     show (if Fq (k+(j+1))=Fq k then rr else ρ (Fq (k+(j+1))))=π l
     rw [if_neg (by unfold Fq;omega),<-this,show k+(j+1)=k+1+j by omega]
  ·cases he
theorem wy {r r':Option Real} (h:Tw (r.map full) r') {e:Ty} {xs:List e.den} {te:TypeId} {fr tr:Bool} (ha:Fk X w π r' fr tr e te xs):Me w (λb=>Oi π b\/X.Sc b) r e xs:=by
 cases r with
 |none=>cases r' with
  |none=>exact ha
  |some q=>exact h.elim
 |some p=>cases r' with
  |none=>exact h.elim
  |some q=>
   obtain ⟨e1,e2,e3,e4⟩:=h
   obtain ⟨k1,cur,ti,k2,k3,k4,k5,k6,_⟩:=ha
   have e1:p.g=q.g:=e1
   have e2:p.o=q.o:=e2
   have e3:p.cap=q.cap:=e3
   refine ⟨⟨by rw [e1];exact (e4 _).2 k1.1,λb hb=>by rw [e1];exact k1.2.1 b ((e4 b).1 hb)⟩,cur,ti,by rw [e1];exact k2,by rw [e2,e3];exact k3,by rw [e3];exact k4,by rw [e3];exact k5,λi y hy=>?_⟩
   obtain ⟨es,g1,g2,g3⟩:=k6 i y hy
   exact ⟨es,g1,by rw [e2];exact g2,Cells.Ct (Nat.le_refl _) (λ_ _ _=>rfl) (λb _ hb=>hb.imp id .inl) e es y g3⟩
theorem EB {r r':Option Real} (h:Tw (r.map full) r') {e:Ty} {xs:List e.den} {te:TypeId} (ha:Is w r' e te xs):Is w r e te xs:=by
 cases r with
 |none=>cases r' with
  |none=>exact ha
  |some q=>exact h.elim
 |some p=>cases r' with
  |none=>exact h.elim
  |some q=>
   obtain ⟨e1,e2,e3,e4⟩:=h
   obtain ⟨k1,cur,ti,k2,k3,k4,k5,Fs,t1,t2,t3,t4⟩:=ha
   have e1:p.g=q.g:=e1
   have e2:p.o=q.o:=e2
   have e3:p.cap=q.cap:=e3
   exact ⟨by rw [e1];exact (e4 _).2 k1,cur,ti,by rw [e1];exact k2,by rw [e2,e3];exact k3,by rw [e3];exact k4,by rw [e3];exact k5,Fs,t1,by rw [e1];exact t2,λb hb=>(e4 b).2 (t3 b hb),by rw [e2];exact t4⟩
theorem Nf {st:St} {π0:Pi} {D:Nat->Prop} {w0:World} (h:Hx X w π st.heap) (Ya: ∀l,X.cw l=(π0 l).map full): ∀(cs:List (Bool×CK)) (k:Nat) (x:Ins.den cs) (us:List Value) (o:IOs.den cs),Yy w0 D π0 k cs x us->Jh st k cs=some o->
  He w (λb=>Oi π b\/X.Sc b) π0 k cs o/\ ∀l∈Jx k cs,Ae st.heap l≠none
 | [],_,_,_,_,_,_=>⟨trivial,λl hl=>by cases hl⟩
 |_::_,_,_,[],_,h,_=>h.elim
 |(false,c)::r,k,x,u::us,o,hi,he=>Nf h Ya r (k+1) x.2 us o hi.2 (by simpa only [Jh] using he)
 |(true, .Hf τ)::r,k,x,u::us,o,hi,he=>Nf h Ya r (k+1) x.2 us o hi.2 (by simpa only [Jh] using he)
 |(true, .Al e te kp)::r,k,x,u::us,o,hi,he=>Nf h Ya r (k+1) x.2 us o hi.2 (by simpa only [Jh] using he)
 |(true, .row e te)::r,k,x,u::us,o,hi,he=>by
  simp only [Jh] at he
  split at he
  ·rename_i x1 x2 h1 h2
   simp only [Option.some.injEq] at he;subst he
   obtain ⟨g1,g2⟩:=Nf h Ya r (k+1) x.2 us x2 hi.2 h2
   have h0:=hi.1
   simp only [jO] at h1
   split at h1
   ·rename_i fr tr e' La xs hl
    split at h1
    ·rename_i hc
     obtain ⟨rfl,rfl⟩:=hc
     simp only [Option.some.injEq] at h1;subst h1
     unfold St.at at hl
     have hs:=h.cw (Bt true k) (by have:=Tn k;omega) (by rw [hl];simp)
     rw [Ya] at hs
     exact ⟨⟨wy (te:=La) hs ((h.heap _).Mc hl),g1⟩,λl Hc=>by
      simp only [Jx] at Hc
      rcases List.mem_cons.1 Hc with rfl|Hc
      ·rw [hl];simp
      ·exact g2 l Hc⟩
    ·cases h1
   ·cases h1
  ·cases he
 |(true, .part e te)::r,k,x,u::us,o,hi,he=>by
  simp only [Jh] at he
  split at he
  ·rename_i x1 x2 h1 h2
   simp only [Option.some.injEq] at he;subst he
   obtain ⟨g1,g2⟩:=Nf h Ya r (k+1) x.2 us x2 hi.2 h2
   have h0:=hi.1
   simp only [jO] at h1
   split at h1
   ·rename_i fr tr e' La xs hl
    split at h1
    ·rename_i hc
     obtain ⟨rfl,rfl⟩:=hc
     simp only [Option.some.injEq] at h1;subst h1
     unfold St.at at hl
     have hs:=h.cw (Bt true k) (by have:=Tn k;omega) (by rw [hl];simp)
     rw [Ya] at hs
     exact ⟨⟨wy (te:=La) hs ((h.heap _).Mc hl),g1⟩,λl Hc=>by
      simp only [Jx] at Hc
      rcases List.mem_cons.1 Hc with rfl|Hc
      ·rw [hl];simp
      ·exact g2 l Hc⟩
    ·cases h1
   ·cases h1
  ·cases he
 |(true, .Dv e te)::r,k,x,u::us,o,hi,he=>by
  simp only [Jh] at he
  split at he
  ·rename_i x1 x2 h1 h2
   simp only [Option.some.injEq] at he;subst he
   obtain ⟨g1,g2⟩:=Nf h Ya r (k+1) x.2 us x2 hi.2 h2
   simp only [jO] at h1
   split at h1
   ·rename_i e' La xs hl
    split at h1
    ·rename_i hc
     obtain ⟨rfl,rfl⟩:=hc
     simp only [Option.some.injEq] at h1;subst h1
     unfold St.at at hl
     have hs:=h.cw (Bt true k) (by have:=Tn k;omega) (by rw [hl];simp)
     rw [Ya] at hs
     exact ⟨⟨EB (te:=La) hs ((h.heap _).Mc hl),g1⟩,λl Hc=>by
      simp only [Jx] at Hc
      rcases List.mem_cons.1 Hc with rfl|Hc
      ·rw [hl];simp
      ·exact g2 l Hc⟩
    ·cases h1
   ·cases h1
  ·cases he
theorem oR {p:Bool×CK} {r:List (Bool×CK)} (h:Rv (p::r)=true):Rv r=true:=by
 rcases p with ⟨_|_,c⟩<;>cases c<;>first|(simp [Rv] at h;done)|simpa [Rv] using h
theorem q6: ∀(cs:List (Bool×CK)) (k:Nat) (x:Ins.den cs) (l:Nat),Rv cs=true->k+cs.length<100000->Ae (Rr k cs x) l≠none-> ¬l<Aj->l∈Jx k cs
 | [],_,_,_,_,_,h,_=>absurd rfl h
 |(io,c)::r,k,x,l,XA,hk,h,hp=>by
  simp only [List.length_cons] at hk
  simp only [Rr] at h
  have tail:Ae (Rr (k+1) r x.2) l≠none->l∈Jx (k+1) r:= λh=>q6 r (k+1) x.2 l (oR XA) (by omega) h hp
  have sub: ∀m,m∈Jx (k+1) r->m∈Jx k ((io,c)::r):= λm hm=>by
   cases io<;>cases c<;>simp only [Jx]<;>first|exact hm|exact List.mem_cons_of_mem _ hm
  cases hc:dL (Bt io k) c x.1 with
  |none=>rw [hc] at h;exact sub l (tail h)
  |some b=>
   rw [hc] at h
   simp only [bK,Ae] at h
   split at h
   ·rename_i e;subst e
    cases io with
    |false=>exact absurd (ag (by omega)) hp
    |true=>cases c with
     |Hf τ=>cases hc
     |row e te=>simp [Jx]
     |Dv e te=>simp [Jx]
     |part e te=>simp [Jx]
     |Al e te kp=>simp [Rv] at XA
   ·exact sub l (tail h)
theorem Yw.Ev {D D':Nat->Prop} (hD: ∀b,D' b->D b) {r:Option Real} {u:Value} {c:CK} {x:c.den} (h:Yw w D r u c x):Yw w D' r u c x:=by
 cases c with
 |Hf τ=>exact ⟨h.1,h.2.Ev λb _ hb=>hD b hb⟩
 |row e te=>exact ⟨h.1,Me.Ev h.2 hD⟩
 |Dv e te=>exact h
 |part e te=>exact ⟨h.1,h.2.1,Me.Ev h.2.2 hD⟩
 |Al e te kp=>exact ⟨h.1,Sj.Ev h.2 hD⟩
theorem Ew.Ev {D D':Nat->Prop} (hD: ∀b,D' b->D b) {ρ:Pi} : ∀(cs:List CK) (k:Nat) (x:CKs.den cs) (us:List Value),Ew w D ρ k cs x us->Ew w D' ρ k cs x us
 | [],_,_,[],h=>h
 | [],_,_,_::_,h=>h.elim
 |_::_,_,_,[],h=>h.elim
 |_c::r,k,x,_u::us,h=>⟨h.1.Ev hD,Ew.Ev hD r (k+1) x.2 us h.2⟩
theorem He.Ev {D D':Nat->Prop} (hD: ∀b,D' b->D b) {π:Pi} : ∀(cs:List (Bool×CK)) (k:Nat) (x:IOs.den cs),He w D π k cs x->He w D' π k cs x
 | [],_,_,h=>h
 |(false,_)::r,k,x,h=>He.Ev hD r (k+1) x h
 |(true, .Hf _)::r,k,x,h=>He.Ev hD r (k+1) x h
 |(true, .Al _ _ _)::r,k,x,h=>He.Ev hD r (k+1) x h
 |(true, .row _e _te)::r,k,x,h=>⟨Me.Ev h.1 hD,He.Ev hD r (k+1) x.2 h.2⟩
 |(true, .Dv _e _te)::r,k,x,h=>⟨h.1,He.Ev hD r (k+1) x.2 h.2⟩
 |(true, .part _e _te)::r,k,x,h=>⟨Me.Ev h.1 hD,He.Ev hD r (k+1) x.2 h.2⟩
theorem Yy.congr {D:Nat->Prop} {π0 Vj:Pi} : ∀(cs:List (Bool×CK)) (k:Nat) (x:Ins.den cs) (us:List Value),(∀b j,k<=j->j<k+cs.length->Vj (Bt b j)=π0 (Bt b j))->Yy w D π0 k cs x us->Yy w D Vj k cs x us
 | [],_,_,[],_,h=>h
 | [],_,_,_::_,_,h=>h
 |_::_,_,_,[],_,h=>h
 |p::r,k,x,u::us,hp,h=>⟨by rw [hp p.1 k (Nat.le_refl _) (by simp)];exact h.1,Yy.congr r (k+1) x.2 us (λb j h1 h2=>hp b j (by omega) (by simp;omega)) h.2⟩
theorem He.congr {D:Nat->Prop} {π0 Vj:Pi} : ∀(cs:List (Bool×CK)) (k:Nat) (x:IOs.den cs),(∀b j,k<=j->j<k+cs.length->Vj (Bt b j)=π0 (Bt b j))->He w D π0 k cs x->He w D Vj k cs x
 | [],_,_,_,h=>h
 |(false,c)::r,k,x,hp,h=>by cases c<;>exact He.congr r (k+1) x (λb j h1 h2=>hp b j (by omega) (by simp;omega)) h
 |(true, .Hf _)::r,k,x,hp,h=>He.congr r (k+1) x (λb j h1 h2=>hp b j (by omega) (by simp;omega)) h
 |(true, .Al _ _ _)::r,k,x,hp,h=>He.congr r (k+1) x (λb j h1 h2=>hp b j (by omega) (by simp;omega)) h
 |(true, .row e te)::r,k,x,hp,h=>⟨by rw [hp true k (Nat.le_refl _) (by simp)];exact h.1,He.congr r (k+1) x.2 (λb j h1 h2=>hp b j (by omega) (by simp;omega)) h.2⟩
 |(true, .Dv e te)::r,k,x,hp,h=>⟨by rw [hp true k (Nat.le_refl _) (by simp)];exact h.1,He.congr r (k+1) x.2 (λb j h1 h2=>hp b j (by omega) (by simp;omega)) h.2⟩
 |(true, .part e te)::r,k,x,hp,h=>⟨by rw [hp true k (Nat.le_refl _) (by simp)];exact h.1,He.congr r (k+1) x.2 (λb j h1 h2=>hp b j (by omega) (by simp;omega)) h.2⟩
theorem Ce.congr {π0 Vj:Pi} : ∀(cs:List (Bool×CK)) (k:Nat) (o:IOs.den cs) (n:Nat) (us as:List Value),(∀b j,k<=j->j<k+cs.length->Vj (Bt b j)=π0 (Bt b j))->Ce π0 k cs o n us as->Ce Vj k cs o n us as
 | [],k,o,0,us,as,_,h=>by simpa [Ce] using h
 | [],k,o,n+1,us,as,_,h=>by simp [Ce] at h
 |p::r,k,o,0,us,as,_,h=>by
  rcases p with ⟨_|_,c⟩<;>cases c<;>simpa [Ce] using h
 |(true, .Hf _)::r,k,o,n+1,us,as,_,h=>by simp [Ce] at h
 |(true, .part _ _)::r,k,o,n+1,us,as,_,h=>by simp [Ce] at h
 |(true, .Al _ _ _)::r,k,o,n+1,us,as,_,h=>by simp [Ce] at h
 |(true, .row e te)::r,k,o,n+1,[],as,_,h=>by simp [Ce] at h
 |(true, .Dv e te)::r,k,o,n+1,[],as,_,h=>by simp [Ce] at h
 |(true, .row e te)::r,k,o,n+1,u::us,as,hp,h=>by
  simp only [Ce] at h⊢
  exact ⟨by rw [hp true k (Nat.le_refl _) (by simp)];exact h.1,Ce.congr r (k+1) o.2 n us as (λb j h1 h2=>hp b j (by omega) (by simp;omega)) h.2⟩
 |(true, .Dv e te)::r,k,o,n+1,u::us,as,hp,h=>by
  simp only [Ce] at h⊢
  exact ⟨by rw [hp true k (Nat.le_refl _) (by simp)];exact h.1,Ce.congr r (k+1) o.2 n us as (λb j h1 h2=>hp b j (by omega) (by simp;omega)) h.2⟩
 |(false,c)::r,k,o,n+1,[],as,_,h=>by cases c<;>simp [Ce] at h
 |(false,c)::r,k,o,n+1,u::us,[],_,h=>by cases c<;>simp [Ce] at h
 |(false,c)::r,k,o,n+1,u::us,a::as,hp,h=>by
  have h:u=a/\Ce π0 (k+1) r o n us as:=by cases c<;>exact h
  have:=Ce.congr r (k+1) o n us as (λb j h1 h2=>hp b j (by omega) (by simp;omega)) h.2
  cases c<;>exact ⟨h.1,this⟩
theorem jY: ∀(A B:List (Nat×OB)) (l:Nat),Ae (A++B) l=match Ae A l with|some b=>some b|none=>Ae B l
 | [],B,l=>rfl
 |(k,b)::A,B,l=>by
  simp only [List.cons_append,Ae]
  split
  ·rfl
  ·exact jY A B l
theorem mR {st:St} : ∀(cs:List CK) (as:List AC) (x:CKs.den cs) (ls:List Nat),Nw st cs as=some (x,ls)-> ∀l∈ls,∃b,Ae st.heap l=some b/\b.row≠none
 | [],[],x,ls,he=>by
  simp only [Nw,Option.some.injEq,Prod.mk.injEq] at he
  obtain ⟨_,rfl⟩:=he
  intro l hl;cases hl
 | [],_::_,_,_,he=>by simp [Nw] at he
 |_::_,[],_,_,he=>by simp [Nw] at he
 |c::r,a::as,x,ls,he=>by
  simp only [Nw] at he
  split at he
  ·rename_i x1 t1 x2 t2 h1 h2
   simp only [Option.some.injEq,Prod.mk.injEq] at he
   obtain ⟨_,rfl⟩:=he
   intro l hl
   rcases List.mem_append.1 hl with hl|hl
   ·unfold dO at h1
    split at h1
    ·split at h1
     ·cases hv:Bl st _ a with
      |none=>rw [hv] at h1;cases h1
      |some p=>rw [hv] at h1;simp only [Option.map_some,Option.some.injEq,Prod.mk.injEq] at h1;obtain ⟨_,rfl⟩:=h1;cases hl
     ·cases h1
    all_goals (repeat' split at h1)
    all_goals first|(cases h1;done)|skip
    all_goals (simp only [Option.some.injEq,Prod.mk.injEq] at h1;obtain ⟨_,rfl⟩:=h1)
    all_goals first|(cases hl;done)|skip
    all_goals (have hl:=List.mem_singleton.1 hl;subst hl)
    all_goals (rename_i heq _;exact ⟨_,heq,by simp [OB.row]⟩)
   ·exact mR r as x2 t2 h2 l hl
  ·cases he
theorem kr {r r':Option Real} {sz off len:Nat} {v:Value} (h:Tw r r') (hv:Dw r' sz off len v):Dw r sz off len v:=by
 cases r<;>cases r'<;>first|exact h.elim|skip
 ·exact hv
 ·obtain ⟨h1,h2,h3,_⟩:=h
  obtain ⟨ad,g1,g2,g3⟩:=hv
  exact ⟨ad,by rw [h3];exact g1,by rw [h3];exact g2,by rw [h1,h2,h3];exact g3⟩
theorem Qv {st:St} {π0:Pi} (hs: ∀k,Ae st.heap (Bt true k)≠none->Tw ((π0 (Bt true k)).map full) (π (Bt true k))):
  ∀(cs:List (Bool×CK)) (k:Nat) (vs:List AC) (us:List Value) (bc:List AC) (o:IOs.den cs),Ia X w π st.heap vs us->Ey k cs vs=some bc->cd st vs cs->Jh st k cs=some o->
   ∃bv,Ia X w π st.heap bc bv/\bv.length=nh cs vs.length/\ ∀tl,Ce π0 k cs o vs.length us (bv++tl)
 |cs,k,[],us,bc,o,hr,he,_,_=>by
  have e1:us= []:=by cases us with|nil=>rfl|cons u us=>exact hr.elim
  have e2:bc= []:=by rcases cs with _|⟨⟨_|_,c⟩,r⟩<;>simpa [Ey] using he.symm
  subst e1;subst e2
  refine ⟨[],trivial,?_,λtl=>?_⟩
  ·rcases cs with _|⟨⟨_|_,c⟩,r⟩<;>rfl
  ·rcases cs with _|⟨⟨_|_,c⟩,r⟩<;>(try cases c)<;>simp [Ce]
 | [],k,a::vs,us,bc,o,hr,he,_,_=>by simp [Ey] at he
 |p::r,k,a::vs,[],bc,o,hr,_,_,_=>hr.elim
 |(false,c)::r,k,a::vs,u::us,bc,o,hr,he,hk,ho=>by
  have he:(Ey (k+1) r vs).map (λl=>a::l)=some bc:=by cases a<;>exact he
  cases hb:Ey (k+1) r vs with
  |none=>rw [hb] at he;cases he
  |some bc'=>
   rw [hb] at he
   simp only [Option.map_some,Option.some.injEq] at he;subst he
   obtain ⟨bv,g1,g2,g3⟩:=Qv hs r (k+1) vs us bc' o hr.2 hb (by cases a<;>exact hk) (by cases c<;>simpa only [Jh] using ho)
   refine ⟨u::bv,⟨hr.1,g1⟩,by simp [nh,g2],λtl=>?_⟩
   have:=g3 tl
   cases c<;>exact ⟨rfl,this⟩
 |(true,c)::r,k,a::vs,u::us,bc,o,hr,he,hk,ho=>by
  cases c with
  |Hf τ=>cases a<;>simp [Ey] at he
  |part e te=>cases a<;>simp [Ey] at he
  |Al e te kp=>cases a<;>simp [Ey] at he
  |row e te=>
   cases a<;>first|(simp [Ey] at he;done)|skip
   rename_i l off len
   simp only [Ey] at he
   split at he
   rotate_left
   ·cases he
   rename_i hl
   have hl:l=Bt true k:=Nat.eq_of_beq_eq_true hl
   subst hl
   obtain ⟨⟨rfl,hlen⟩,hk⟩:=hk
   obtain ⟨b,sz,n,h1,h2,h3,h4⟩:=hr.1
   have IE:=hs k (by rw [h1];simp)
   simp only [Jh] at ho
   split at ho
   ·rename_i x1 x2 q1 q2
    simp only [Option.some.injEq] at ho;subst ho
    obtain ⟨bv,g1,g2,g3⟩:=Qv hs r (k+1) vs us bc x2 hr.2 he hk q2
    refine ⟨bv,g1,by simpa [nh] using g2,λtl=>?_⟩
    refine ⟨?_,g3 tl⟩
    simp only [jO] at q1
    split at q1
    ·rename_i fr tr e' La xs Hc
     split at q1
     ·rename_i hc
      obtain ⟨rfl,rfl⟩:=hc
      simp only [Option.some.injEq] at q1;subst q1
      unfold St.at at Hc hlen
      rw [Hc] at hlen
      rw [h1] at Hc;cases Hc
      simp only [OB.row,Option.some.injEq,Prod.mk.injEq] at h2
      obtain ⟨rfl,rfl⟩:=h2
      have hlen:len=List.length xs:=hlen
      have:=kr IE h4
      rw [hlen] at this
      have e0:(π0 (Bt true k)).map full=(π0 (Bt true k)).map full:=rfl
      cases hp:π0 (Bt true k)<;>(rw [hp] at this;exact this)
     ·cases q1
    ·cases q1
   ·cases ho
  |Dv e te=>
   cases a<;>first|(simp [Ey] at he;done)|skip
   rename_i l off len
   simp only [Ey] at he
   split at he
   rotate_left
   ·cases he
   rename_i hl
   have hl:l=Bt true k:=Nat.eq_of_beq_eq_true hl
   subst hl
   obtain ⟨⟨rfl,hlen⟩,hk⟩:=hk
   obtain ⟨b,sz,n,h1,h2,h3,h4⟩:=hr.1
   have IE:=hs k (by rw [h1];simp)
   simp only [Jh] at ho
   split at ho
   ·rename_i x1 x2 q1 q2
    simp only [Option.some.injEq] at ho;subst ho
    obtain ⟨bv,g1,g2,g3⟩:=Qv hs r (k+1) vs us bc x2 hr.2 he hk q2
    refine ⟨bv,g1,by simpa [nh] using g2,λtl=>?_⟩
    refine ⟨?_,g3 tl⟩
    simp only [jO] at q1
    split at q1
    ·rename_i e' La xs Hc
     split at q1
     ·rename_i hc
      obtain ⟨rfl,rfl⟩:=hc
      simp only [Option.some.injEq] at q1;subst q1
      unfold St.at at Hc hlen
      rw [Hc] at hlen
      rw [h1] at Hc;cases Hc
      simp only [OB.row,Option.some.injEq,Prod.mk.injEq] at h2
      obtain ⟨rfl,rfl⟩:=h2
      have hlen:len=List.length xs:=hlen
      have:=kr IE h4
      rw [hlen] at this
      cases hp:π0 (Bt true k)<;>(rw [hp] at this;exact this)
     ·cases q1
    ·cases q1
   ·cases ho
def Abw (s:MSpec) (g:Nat) (π:Pi):Pi:= λl=>if s.ptr.isSome=true/\l=Lq then some ⟨g,0,0,λb=>b=g,λb=>b=g⟩ else π l
def XT (P:Program) (s:MSpec) (fn:Func) (x:Ins.den s.ins) (w:World) (S:Nat->Prop) (π:Pi) (g:Nat) (r:CKs.den s.outs) (o:IOs.den s.ins) (a':Act) (w':World):Prop:=
 ∃(v:Value) (Sa:List Value) (ρ:Pi),a'.defers= []/\(results fn a'.tmps).run P w'= .ok v w'/\lG s w' ρ (Sa.drop s.So) v/\eQ s π w' g Sa o/\Ge w.heap.size (λb=>Oi π b\/s.gv g b) w w'/\He w' (dK S π ρ) π 0 s.ins o/\Ew w' (dK S π ρ) ρ 0 s.outs r Sa/\
  bx ρ (λb=>b<w'.heap.size/\(w.heap.size<=b\/ ∃l q,l<Aj/\π l=some q/\q.Ay b))/\(∀l,(∀k,k<s.Ni->l≠Fq k)->ρ l=none)/\(∀kj∈s.keeps,tY w w' (π (Bt false kj.1)) (ρ (Fq kj.2)) (s.Ct x))
theorem Ew.GZ {D:Nat->Prop} {ρ ρ':Pi} : ∀(cs:List CK) (k:Nat) (x:CKs.den cs) (us:List Value),(∀j,k<=j->j<k+cs.length->ρ' (Fq j)=ρ (Fq j))->Ew w D ρ k cs x us->Ew w D ρ' k cs x us
 | [],_,_,[],_,h=>h
 | [],_,_,_::_,_,h=>h.elim
 |_::_,_,_,[],_,h=>h.elim
 |c::r,k,x,u::us,he,h=>⟨by rw [he k (Nat.le_refl _) (by simp)];exact h.1,Ew.GZ r (k+1) x.2 us (λj hj hl=>he j (by omega) (by simp;omega)) h.2⟩
theorem q9 {st:St} {n:Nat} {as:List AC} : ∀ {ks:List (Nat×Nat)},q8 st n as ks-> ∀kj∈ks,∃l off len e te rows out p,as[kj.2]?=some (.own l off len)/\Ae st.heap l=some (.Al e te rows out (some p))/\p.1=Bt false kj.1/\n<=p.2/\kj.1<1000
 | [],_,kj,hm=>by cases hm
 |(k,j)::r,h,kj,hm=>by
  simp only [q8] at h
  rcases List.mem_cons.1 hm with rfl|hm
  ·obtain ⟨h,_⟩:=h
   split at h
   ·rename_i l off len he
    split at h
    ·rename_i e te rows out p hl
     unfold St.at at hl
     exact ⟨l,off,len,e,te,rows,out,p,he,hl,h.1,h.2.1,by simpa using h.2.2⟩
    ·exact h.elim
   ·exact h.elim
  ·exact q9 h.2 kj hm
theorem qk {st:St} : ∀(cs:List CK) (as:List AC) (x:CKs.den cs) (ls:List Nat),Nw st cs as=some (x,ls)->as.length=cs.length
 | [],[],_,_,_=>rfl
 | [],_::_,_,_,he=>by simp [Nw] at he
 |_::_,[],_,_,he=>by simp [Nw] at he
 |c::r,a::as,x,ls,he=>by
  simp only [Nw] at he
  split at he
  ·rename_i h1 h2
   simp only [List.length_cons,qk r as _ _ h2]
  ·cases he
theorem wv {α β:Type} (f:α->Sem β): ∀(l:List α) (vs:List β),vs.length=l.length->(∀(i:Nat) a v,l[i]?=some a->vs[i]?=some v->(f a).run P w= .ok v w)->(l.mapM f).run P w= .ok vs w
 | [],[],_,_=>by simp
 | [],_::_,h,_=>by simp at h
 |_::_,[],h,_=>by simp at h
 |a::l,v::vs,h,hr=>by
  rw [List.mapM_cons]
  simp only [Sem.run_bind,hr 0 a v rfl rfl,Result.andThen_ok,wv f l vs (by simpa using h) (λi a' v' ha hv=>hr (i+1) a' v' (by simpa using ha) (by simpa using hv)),Sem.run_pure]
theorem oz (hT:Cd P T) (Md:Hy P Γ) (hm:P.follows .mixedOrders=true) {f:FuncId} {fn:Func} (hf:P.funcs[f]?=some fn) (s:MSpec) (w:World) (S:Nat->Prop) (π:Pi) (us:List Value) (x:Ins.den s.ins)
  (r:CKs.den s.outs) (o:IOs.den s.ins) (g:Nat) (jN:List Value) (Kx:iG s w g us jN) (hSg:s.ptr.isSome=true->S g) (Oj:Yy w (λb=>Oi π b\/S b) π 0 s.ins x us) (dr:bx π (λb=>b<w.heap.size)) (hS: ∀b,S b->b<w.heap.size/\ ¬Oi π b) (HQ: ∀l,Ae (Rr 0 s.ins x) l=none->π l=none) (he:QD T Γ s fn x λz=>z=(r,o)):
  Calls P f jN.toArray w λe w'=> ∃v Sa ρ,e= .returned v/\lG s w' ρ (Sa.drop s.So) v/\eQ s π w' g Sa o/\Ge w.heap.size (λb=>Oi π b\/s.gv g b) w w'/\He w' (dK S π ρ) π 0 s.ins o/\Ew w' (dK S π ρ) ρ 0 s.outs r Sa/\
   bx ρ (λb=>b<w'.heap.size/\(w.heap.size<=b\/ ∃l q,l<Aj/\π l=some q/\q.Ay b))/\(∀l,(∀k,k<s.Ni->l≠Fq k)->ρ l=none)/\(∀kj∈s.keeps,tY w w' (π (Bt false kj.1)) (ρ (Fq kj.2)) (s.Ct x)):=by
 obtain ⟨hlen,c,hb,he⟩:=he
 simp only [Bool.and_eq_true,Nat.blt_eq] at hlen
 obtain ⟨hlen,HS⟩:=hlen
 unfold sB at HS
 simp only [Bool.and_eq_true] at HS
 have ZG:=HS.1
 let kN:Pi:=Abw s g π
 let Sg:Nat->Prop:= λb=>S b/\ ¬s.gv g b
 have hvl: ∀b j,j<1000->Bt b j≠Lq:= λb j hj=>by cases b<;>(unfold Bt Lq;simp;omega)
 have rK: ∀b j,0<=j->j<0+s.ins.length->kN (Bt b j)=π (Bt b j):= λb j _ hj=>if_neg λh=>hvl b j (by omega) h.2
 have RG: ∀b j,0<=j->j<0+s.ins.length->π (Bt b j)=kN (Bt b j):= λb j h1 h2=>(rK b j h1 h2).symm
 have UI:Ae (Rr 0 s.ins x) Lq=none:=Classical.byContradiction λhn=>by
  obtain ⟨b,j,_,h2,h3⟩:=mu s.ins 0 x Lq hn
  exact hvl b j (by omega) h3.symm
 have FF: ∀l q,kN l=some q->(π l=some q/\(s.ptr.isSome=true->l≠Lq))\/(s.ptr.isSome=true/\l=Lq/\q=⟨g,0,0,λb=>b=g,λb=>b=g⟩):= λl q hq=>by
  have hq:(if s.ptr.isSome=true/\l=Lq then some ⟨g,0,0,λb=>b=g,λb=>b=g⟩ else π l)=some q:=hq
  split at hq
  ·rename_i hc;exact .inr ⟨hc.1,hc.2,(Option.some.inj hq).symm⟩
  ·rename_i hc;exact .inl ⟨hq,λh1 h2=>hc ⟨h1,h2⟩⟩
 have Xz: ∀b,Oi kN b↔Oi π b\/s.gv g b:= λb=>by
  constructor
  ·rintro ⟨l,q,h1,h2⟩
   rcases FF l q h1 with ⟨h3,_⟩|⟨h3,h4,rfl⟩
   ·exact .inl ⟨l,q,h3,h2⟩
   ·exact .inr ⟨h3,h2⟩
  ·rintro (⟨l,q,h1,h2⟩|⟨h1,rfl⟩)
   ·refine ⟨l,q,?_,h2⟩
    show (if s.ptr.isSome=true/\l=Lq then _ else π l)=some q
    rw [if_neg]
    ·exact h1
    ·rintro ⟨_,rfl⟩
     rw [HQ Lq UI] at h1;cases h1
   ·exact ⟨Lq,⟨b,0,0,λc=>c=b,λc=>c=b⟩,if_pos ⟨h1,rfl⟩,rfl⟩
 have hgS: ∀b,s.gv g b->S b:= λb ⟨h1,h2⟩=>h2▸hSg h1
 have TM:Yy w (λb=>Oi kN b\/Sg b) kN 0 s.ins x us:=Yy.congr s.ins 0 x us rK (Yy.Ev (λb hb=>by
  rcases hb with hb|hb
  ·rcases (Xz b).1 hb with hb|hb
   ·exact .inl hb
   ·exact .inr (hgS b hb)
  ·exact .inr hb.1) s.ins 0 x us Oj)
 have ZL:bx kN (λb=>b<w.heap.size):=⟨λl q b h1 h2=>by
  rcases FF l q h1 with ⟨h3,_⟩|⟨h3,h4,rfl⟩
  ·exact dr.Qu l q b h3 h2
  ·exact (hS b (hgS b ⟨h3,h2⟩)).1,λl l' q q' b h1 h2 h3 h4=>by
  rcases FF l q h1 with ⟨h5,_⟩|⟨h5,h6,rfl⟩<;>rcases FF l' q' h2 with ⟨h7,_⟩|⟨h7,h8,rfl⟩
  ·exact dr.inj l l' q q' b h5 h7 h3 h4
  ·exact absurd ⟨l,q,h5,h3⟩ (hS b (hgS b ⟨h7,h4⟩)).2
  ·exact absurd ⟨l',q',h7,h4⟩ (hS b (hgS b ⟨h5,h3⟩)).2
  ·rw [h6,h8]⟩
 have Ady: ∀b,Sg b->b<w.heap.size/\ ¬Oi kN b:= λb hb=>⟨(hS b hb.1).1,λho=>((Xz b).1 ho).elim (hS b hb.1).2 hb.2⟩
 have AD: ∀l,Ae (kc s x) l=match Ae (Rr 0 s.ins x) l with|some b=>some b|none=>if l=Lq then s.ptr.map λp=> .var p.1 ((Un 0 s.ins x).take p.2) else none:= λl=>by
  unfold kc
  cases hp:s.ptr with
  |none=>cases Ae (Rr 0 s.ins x) l<;>simp
  |some p=>
   simp only
   rw [jY]
   cases Ae (Rr 0 s.ins x) l with
   |some b=>rfl
   |none=>
    simp only [Ae,Option.map_some]
    by_cases e:l=Lq
    ·rw [if_pos e,if_pos e.symm]
    ·rw [if_neg e,if_neg (λh=>e h.symm)]
 let π0:Pi:= λl=>(kN l).map full
 have un: ∀l q,π0 l=some q-> ∃q0,kN l=some q0/\q=full q0:= λl q hq=>by
  have hq:(kN l).map full=some q:=hq
  cases hp:kN l with
  |none=>rw [hp] at hq;cases hq
  |some q0=>rw [hp] at hq;exact ⟨q0,rfl,(Option.some.inj hq).symm⟩
 have HV: ∀l b,Ae (Rr 0 s.ins x) l=some b->Ae (kc s x) l=some b:= λl b hb=>by rw [AD l,hb]
 have UD:Ia ⟨w,Sg,Oi kN,π0⟩ w π0 (kc s x) (Un 0 s.ins x) us:=vf (λ_=>rfl) s.ins 0 x us (by omega) TM HV
 have IJ:s.ptr.isSome=true->π0 Lq=some ⟨g,0,0,λb=>b=g,λb=>b=g⟩:= λhp=>by
  show (if s.ptr.isSome=true/\Lq=Lq then _ else π Lq).map full=_
  rw [if_pos ⟨hp,rfl⟩];rfl
 obtain ⟨g1,g2⟩:(Sm s (Un 0 s.ins x)).length=jN.length/\ ∀(i:Nat) c v,(Sm s (Un 0 s.ins x))[i]?=some c->jN[i]?=some v->Ao ⟨w,Sg,Oi kN,π0⟩ w π0 (kc s x) c v:=by
  unfold iG at Kx
  cases hp:s.ptr with
  |none=>
   rw [hp] at Kx
   obtain ⟨rfl,GD⟩:=Kx
   obtain ⟨g1,g2,_,_⟩:=Xv s.Hb _ us GD UD
   rw [show Sm s (Un 0 s.ins x)=Mi s.Hb (Un 0 s.ins x) by unfold Sm;rw [hp]]
   exact ⟨g1,g2⟩
  |some p=>
   rw [hp] at Kx
   obtain ⟨rfl,GD,_⟩:=Kx
   obtain ⟨g1,g2,_,_⟩:=Xv s.Hb _ (us.drop p.2) GD (Ia.take p.2 UD).2
   rw [show Sm s (Un 0 s.ins x)= .at (.Dx Lq 0)::Mi s.Hb ((Un 0 s.ins x).drop p.2) by unfold Sm;rw [hp]]
   refine ⟨by simp [g1],λi c v h1 h2=>?_⟩
   rcases i with _|i
   ·simp only [List.getElem?_cons_zero,Option.some.injEq] at h1 h2
    subst h1;subst h2
    exact ⟨_,p.1,(Un 0 s.ins x).take p.2,by rw [AD,UI];simp [hp],IJ (by rw [hp];rfl),rfl⟩
   ·exact g2 i c v (by simpa using h1) (by simpa using h2)
 have h0:Rel ⟨w,Sg,Oi kN,π0⟩ {tmps:=Sm s (Un 0 s.ins x)++List.replicate (fn.ntmps-(Sm s (Un 0 s.ins x)).length) .undef,heap:=kc s x}
   {tmps:=jN.toArray++Array.replicate (fn.ntmps-jN.toArray.size) undef,defers:= []} w:=by
  refine ⟨π0,⟨Ge.refl _ _ _,λb hb=>Ady b hb,λl q b h1 h2=>?_,λl q b h1 h2=>?_,λl l' q q' b h1 h2 h3 h4=>?_,λl _ _=>Tw.rfl' _,λl=>?_⟩,⟨by simp [g1],rfl,λt=>?_⟩⟩
  ·obtain ⟨q0,_,rfl⟩:=un l q h1;exact h2
  ·obtain ⟨q0,h3,rfl⟩:=un l q h1
   exact ⟨.inr ⟨l,q0,h3,h2⟩,ZL.Qu l q0 b h3 h2⟩
  ·obtain ⟨q0,h5,rfl⟩:=un l q h1
   obtain ⟨VN,h6,rfl⟩:=un l' q' h2
   exact ZL.inj l l' q0 VN b h5 h6 h3 h4
  ·cases hh:Ae (Rr 0 s.ins x) l with
   |none=>
    by_cases hv:s.ptr.isSome=true/\l=Lq
    ·obtain ⟨XG,rfl⟩:=hv
     obtain ⟨p,hp⟩:=Option.isSome_iff_exists.1 XG
     refine Di.Io (b:= .var p.1 ((Un 0 s.ins x).take p.2)) ?_ (by rw [AD,hh];simp [hp])
     unfold iG at Kx
     rw [hp] at Kx
     obtain ⟨_,_,h1,h2,h3⟩:=Kx
     rw [IJ XG]
     exact ⟨_,rfl,rfl,_,h2,Ia.to (Ia.take p.2 UD).1 h3⟩
    ·refine Di.Ox ?_ ?_
     ·show (if s.ptr.isSome=true/\l=Lq then _ else π l).map full=none
      rw [if_neg hv,HQ l hh];rfl
     ·rw [AD,hh]
      simp only
      split
      ·rename_i e
       cases hp:s.ptr with
       |none=>rfl
       |some p=>exact absurd ⟨by rw [hp];rfl,e⟩ hv
      ·rfl
   |some b=>exact Di.Io (fu (π0:=kN) (λb hb=>by
    rcases hb with ⟨l,q,h1,h2⟩|hb|⟨hb,_⟩
    ·obtain ⟨q0,h3,rfl⟩:=un l q h1;exact .inl ⟨l,q0,h3,h2⟩
    ·exact .inr hb
    ·cases hb) rfl (λ_=>rfl) s.ins 0 x us TM l b hh) (HV l b hh)
  ·show Ao _ w _ _ ((Sm s (Un 0 s.ins x)++List.replicate _ AV.undef).getD t .undef) ((jN.toArray++Array.replicate _ undef).getD t undef)
   by_cases ht:t<jN.length
   ·rw [List.getD_eq_getElem?_getD,List.getElem?_append_left (by omega),<-List.getD_eq_getElem?_getD]
    rw [Array.getD_eq_getD_getElem?,Array.getElem?_append_left (by simpa using ht)]
    have:=g2 t _ _ (List.getElem?_eq_getElem (by omega)) (List.getElem?_eq_getElem ht)
    simpa [List.getD_eq_getElem?_getD,List.getElem?_eq_getElem ht,List.getElem?_eq_getElem (show t<(Sm s (Un 0 s.ins x)).length by omega)] using this
   ·have:(Sm s (Un 0 s.ins x)++List.replicate (fn.ntmps-(Sm s (Un 0 s.ins x)).length) AV.undef).getD t .undef= .undef:=by
     rw [List.getD_eq_getElem?_getD,List.getElem?_append_right (by omega)]
     rw [List.getElem?_replicate]
     split<;>rfl
    rw [this];trivial
 have fin: ∀(st:St) (a':Act) (w':World),GL T s fn x st (λz=>z=(r,o))->Rel ⟨w,Sg,Oi kN,π0⟩ st a' w'->XT P s fn x w S π g r o a' w':=by
  intro st a' w' kX IC
  obtain ⟨Vj,h'⟩:=IC
  have RM:Aj<=Lq:=by unfold Aj Lq;omega
  obtain ⟨bc,jX,Ag3,hbc⟩: ∃bc,dz T s fn x st bc (λz=>z=(r,o))/\(s.ptr.isSome=true-> ∃b,Ae st.heap Lq=some b/\b.row=none)/\
    (Jh st 0 s.ins=some o-> ∃bv,Ia ⟨w,Sg,Oi kN,π0⟩ w' Vj st.heap bc bv/\bv.length=s.So/\ ∀tl,eQ s π w' g (bv++tl) o):=by
   unfold GL at kX
   cases hp:s.ptr with
   |none=>
    rw [hp] at kX
    exact ⟨[],kX,λh=>by simp at h,λ_=>⟨[],trivial,by simp [MSpec.So,hp],λtl=>by simp [eQ,hp]⟩⟩
   |some p=>
    rw [hp] at kX
    obtain ⟨vs,cs,h1,h2,h3,h4,h5⟩:=kX
    unfold St.at at h1
    refine ⟨cs,h5,λ_=>⟨_,h1,rfl⟩,λrI=>?_⟩
    obtain ⟨q,k1,k2,cur,k3,k4⟩:=(h'.1.heap Lq).Mc h1
    have hsv:Tw (π0 Lq) (Vj Lq):=h'.1.cw Lq RM (by rw [h1];simp)
    rw [IJ (by rw [hp];rfl),k1] at hsv
    have ZP:g=q.g:=hsv.1
    obtain ⟨bv,g1,g2,g3⟩:=Qv (π0:=kN) (λk hk=>h'.1.cw _ (Nat.le_of_not_lt (Tn k)) hk) s.ins 0 vs cur.toList cs o (Ia.of k4) h3 h4 rI
    refine ⟨bv,g1,by rw [g2,h2];simp [MSpec.So,hp],λtl=>?_⟩
    unfold eQ
    rw [hp]
    refine ⟨cur.toList,by rw [ZP];simpa using k3,λu hu=>?_,Ce.congr s.ins 0 o p.2 _ _ RG (h2▸g3 tl)⟩
    obtain ⟨i,hi,rfl⟩:=List.mem_iff_getElem.1 hu
    have hl:=k4.1
    obtain ⟨u',h6,h7,_⟩:=k4.2 i (vs[i]'(by omega)) (List.getElem?_eq_getElem _)
    rw [List.getElem?_eq_getElem hi] at h6
    rw [Option.some.inj h6];exact h7
  unfold dz at jX
  split at jX
  ·exact jX.elim
  rename_i l hl
  split at jX
  ·exact jX.elim
  rename_i as ml c9
  split at jX
  rotate_left
  ·exact jX.elim
  rename_i r' ls o' rP pR
  obtain ⟨Ff,pW,ID⟩:=jX
  simp only [Bool.and_eq_true,Nat.blt_eq] at Ff
  obtain ⟨⟨⟨oJ,Ajl⟩,Ahq⟩,ZD⟩:=Ff
  simp only [Prod.mk.injEq] at ID
  obtain ⟨rfl,rfl⟩:=ID
  obtain ⟨bv,hbv,Aeb,Ae9⟩:=hbc pR
  have xU:=Qj oJ
  obtain ⟨n1,n2,n3⟩:=List.nodup_append.1 xU
  obtain ⟨m1,m2,m3⟩:=List.nodup_append.1 n1
  obtain ⟨vs,v1,v2,v3,v4⟩:=Ql hT h' _ _ hl
  have NZ:fn.results=fn.results.toList.toArray:=Array.toArray_toList.symm
  have Of: ∀v,(if h:vs.toArray.size=1 then vs.toArray[0] else .tuple vs.toArray)=v->(results fn a'.tmps).run P w'= .ok v w':=by
   intro v hv
   rw [ae,NZ,List.mapM_toArray]
   simp only [map_eq_pure_bind,bind_assoc,pure_bind]
   simp only [Sem.run_bind,wv (yT a'.tmps) _ vs v1 v3,Result.andThen_ok,Sem.run_pure]
   rw [hv]
  obtain ⟨px,v,qm,Ag2,hv,RN⟩: ∃px v qm,Ia ⟨w,Sg,Oi kN,π0⟩ w' Vj st.heap as px/\(results fn a'.tmps).run P w'= .ok v w'/\
    ((s.rp=none/\ml= []/\qm=none/\KF s.Gb s.Gd px v/\Wg s.Gd px)\/
     ∃tid m q,s.rp=some tid/\ml= [m]/\m<Aj/\qm=some q/\Vj m=some q/\q.Ay q.g/\w'.heap[q.g]?=some (.cells px.toArray tid (0,0))/\(∀u∈px,u.oneCell'=true)/\v= .pointer (some ⟨q.g,0,none⟩)):=by
   unfold yS at c9
   split at c9
   ·rename_i xe
    split at c9
    rotate_left
    ·cases c9
    rename_i hmul
    cases GF:ungroup s.Gd l with
    |none=>rw [GF] at c9;cases c9
    |some as'=>
     rw [GF] at c9
     simp only [Option.map_some,Option.some.injEq,Prod.mk.injEq] at c9
     obtain ⟨rfl,rfl⟩:=c9
     obtain ⟨px,e1,e2,e3⟩:=Wj s.Gd l vs as' (by omega) v4 GF
     have hv: ∃v,(results fn a'.tmps).run P w'= .ok v w'/\KF s.Gb s.Gd px v:=by
      unfold KF
      rw [<-e1,hmul]
      rcases Nat.lt_or_ge 1 l.length with h1|h1
      ·have HO:Nat.blt 1 l.length=true:=by simpa using h1
       simp only [HO,if_true]
       refine ⟨.tuple vs.toArray,Of _ ?_,rfl⟩
       rw [dif_neg (by simp;omega)]
      ·have HO:Nat.blt 1 l.length=false:=by rw [<-Bool.not_eq_true];simpa using h1
       simp only [HO,Bool.false_eq_true,if_false]
       rcases vs with _|⟨v,_|⟨v',vs⟩⟩
       ·exact ⟨_,Of _ (by simp;rfl), .inr rfl⟩
       ·exact ⟨v,Of _ (by simp), .inl rfl⟩
       ·exfalso;simp only [List.length_cons] at v1;omega
     obtain ⟨v,hv1,hv2⟩:=hv
     exact ⟨px,v,none,e3,hv1, .inl ⟨xe,rfl,rfl,hv2,e2⟩⟩
   ·rename_i tid xe
    split at c9
    rotate_left
    ·cases c9
    rename_i m i
    split at c9
    rotate_left
    ·cases c9
    rename_i Nn tT hm
    split at c9
    rotate_left
    ·cases c9
    rename_i hc
    obtain ⟨rfl,rfl,MG⟩:=hc
    simp only [Option.some.injEq,Prod.mk.injEq] at c9
    obtain ⟨rfl,rfl⟩:=c9
    unfold St.at at hm
    rcases vs with _|⟨v,_|⟨v',vs⟩⟩
    ·exfalso;simp only [List.length_cons,List.length_nil] at v1 v2;omega
    ·obtain ⟨q,Aln,vs2,q1,q2,q3⟩:=v4 0 _ v rfl rfl
     rw [hm] at q1;cases q1
     obtain ⟨q',k1,k2,cur,k3,k4⟩:=(h'.1.heap m).Mc hm
     rw [q2] at k1;cases k1
     refine ⟨cur.toList,v,some q,Ia.of k4,Of _ (by simp), .inr ⟨_,m,q,xe,rfl,by simpa using MG,rfl,q2,k2,by simpa using k3,λu hu=>?_,q3⟩⟩
     obtain ⟨i,hi,rfl⟩:=List.mem_iff_getElem.1 hu
     have hl:=k4.1
     obtain ⟨u',h6,h7,_⟩:=k4.2 i (tT[i]'(by omega)) (List.getElem?_eq_getElem _)
     rw [List.getElem?_eq_getElem hi] at h6
     rw [Option.some.inj h6];exact h7
    ·exfalso;simp only [List.length_cons,List.length_nil] at v1 v2;omega
  obtain ⟨tV,p1,p2,p3,p4,p5⟩:=ql h'.1 s.outs 0 (bc++as) (bv++px) r' ls (hbv.append Ag2) rP m2
  obtain ⟨io1,io2⟩:=Nf (π0:=kN) h'.1 (λ_=>rfl) s.ins 0 x us o' TM pR
  have YR:(bv++px).drop s.So=px:=by rw [<-Aeb];simp
  let ρ:Pi:= λl0=>if l0=Fq s.outs.length then qm else tV l0
  have UN:ρ (Fq s.outs.length)=qm:=if_pos rfl
  have Aac: ∀l0,l0≠Fq s.outs.length->ρ l0=tV l0:= λl0 h=>if_neg h
  have Aab: ∀j,j<s.outs.length->ρ (Fq j)=tV (Fq j):= λj hj=>Aac _ (by unfold Fq;omega)
  have od: ∀l0 q,ρ l0=some q->(l0=Fq s.outs.length/\qm=some q)\/(l0≠Fq s.outs.length/\tV l0=some q):= λl0 q h=>by
   by_cases e:l0=Fq s.outs.length
   ·subst e;rw [UN] at h;exact .inl ⟨rfl,h⟩
   ·rw [Aac l0 e] at h;exact .inr ⟨e,h⟩
  have ZQ: ∀q,qm=some q-> ∃m,ml= [m]/\m<Aj/\Vj m=some q:= λq hq=>by
   rcases RN with ⟨_,_,h1,_⟩|⟨_,m,q',_,h1,h2,h3,h4,_⟩
   ·rw [h1] at hq;cases hq
   ·rw [h3] at hq;cases hq;exact ⟨m,h1,h2,h4⟩
  have p3': ∀l0 q b,ρ l0=some q->q.Ay b-> ∃l1∈ml++ls,∃p,Vj l1=some p/\p.cl b/\((s.outs.all λc=>!c.RW)=true->p.Ay b)/\((l1∈ls)\/l1<Aj):= λl0 q b h1 h2=>by
   rcases od l0 q h1 with ⟨_,h3⟩|⟨_,h3⟩
   ·obtain ⟨m,e1,e2,e3⟩:=ZQ q h3
    exact ⟨m,by rw [e1];simp,q,e3,h'.1.sub m q b e3 h2,λ_=>h2, .inr e2⟩
   ·obtain ⟨l1,g1,p,g2,g3,g4⟩:=p3 l0 q b h3 h2
    exact ⟨l1,List.mem_append_right _ g1,p,g2,g3,g4, .inl g1⟩
  have p4': ∀l0 l1 q q' b,ρ l0=some q->ρ l1=some q'->q.Ay b->q'.Ay b->l0=l1:= λl0 l1 q q' b h1 h2 h3 h4=>by
   have uy: ∀l0 q q' b,tV l0=some q->qm=some q'->q.Ay b->q'.Ay b->False:= λl0 q q' b h1 h2 h3 h4=>by
    obtain ⟨m,e1,e2,e3⟩:=ZQ q' h2
    obtain ⟨l1,g1,p,g2,g3,_⟩:=p3 l0 q b h1 h3
    have:=h'.1.inj m l1 q' p b e3 g2 (h'.1.sub m q' b e3 h4) g3
    exact m3 m (by rw [e1];simp) l1 g1 this
   rcases od l0 q h1 with ⟨e1,h5⟩|⟨e1,h5⟩<;>rcases od l1 q' h2 with ⟨e2,h6⟩|⟨e2,h6⟩
   ·rw [e1,e2]
   ·exact (uy l1 q' q b h6 h5 h4 h3).elim
   ·exact (uy l0 q q' b h5 h6 h3 h4).elim
   ·exact p4 l0 l1 q q' b h5 h6 h3 h4
  have AI: ∀l0 q,Aj<=l0->kN l0=some q->Ae st.heap l0≠none/\(l0∈Jx 0 s.ins\/ ∃b,Ae st.heap l0=some b/\b.row=none):= λl0 q h1 h2=>by
   rcases FF l0 q h2 with ⟨h3,_⟩|⟨h3,rfl,_⟩
   ·have rI:=q6 s.ins 0 x l0 ZG (by omega) (λhnn=>by rw [HQ l0 hnn] at h3;cases h3) (by omega)
    exact ⟨io2 l0 rI, .inl rI⟩
   ·obtain ⟨b,h4,h5⟩:=Ag3 h3
    exact ⟨by rw [h4];simp, .inr ⟨b,h4,h5⟩⟩
  have hDO:(s.outs.all λc=>!c.RW)=true-> ∀b,dK Sg kN ρ b->Oi Vj b\/Sg b:=by
   intro hx b hb
   rcases hb with hb|⟨l0,q,h1,h2,h3⟩|⟨l0,q,h1,h2⟩
   ·exact .inr hb
   ·have hs:=h'.1.cw l0 h1 (AI l0 q h1 h2).1
    have hs:Tw ((kN l0).map full) (Vj l0):=hs
    rw [h2] at hs
    cases tR:Vj l0 with
    |none=>rw [tR] at hs;exact hs.elim
    |some q1=>rw [tR] at hs;exact .inl ⟨l0,q1,tR,(hs.2.2.2 b).1 h3⟩
   ·obtain ⟨m,_,p,hm2,_,TV,_⟩:=p3' l0 q b h1 h2
    exact .inl ⟨m,p,hm2,TV hx⟩
  have hDD: ∀b,dK S π ρ b->dK Sg kN ρ b:= λb hb=>by
   rcases hb with hb|⟨l0,q,h1,h2,h3⟩|hb
   ·by_cases GC:s.gv g b
    ·obtain ⟨XG,rfl⟩:=GC
     exact .inr (.inl ⟨Lq,_,RM,if_pos ⟨XG,rfl⟩,rfl⟩)
    ·exact .inl ⟨hb,GC⟩
   ·refine .inr (.inl ⟨l0,q,h1,?_,h3⟩)
    show (if s.ptr.isSome=true/\l0=Lq then _ else π l0)=some q
    rw [if_neg]
    ·exact h2
    ·rintro ⟨_,rfl⟩
     rw [HQ Lq UI] at h2;cases h2
   ·exact .inr (.inr hb)
  have LZ:s.flat=true\/(s.outs.all λc=>!c.RW)=true:=by unfold MSpec.JG at ZD;simpa only [Bool.or_eq_true] using ZD
  have io1:He w' (dK S π ρ) π 0 s.ins o':=by
   refine He.congr s.ins 0 o' RG ?_
   rcases LZ with hf|hf
   ·unfold MSpec.flat at hf
    simp only [Bool.and_eq_true] at hf
    exact He.any s.ins 0 o' hf.2 io1
   ·exact He.Ev (λb hb=>hDO hf b (hDD b hb)) s.ins 0 o' io1
  have p1:Ew w' (dK S π ρ) ρ 0 s.outs r' (bv++px):=by
   have p1:Ew w' (λb=>Oi Vj b\/Sg b) ρ 0 s.outs r' (bv++px):=Ew.GZ s.outs 0 r' _ (λj _ hj=>Aab j (by omega)) p1
   rcases LZ with hf|hf
   ·unfold MSpec.flat at hf
    simp only [Bool.and_eq_true] at hf
    exact Ew.any s.outs 0 r' (bv++px) hf.1 p1
   ·exact Ew.Ev (λb hb=>hDO hf b (hDD b hb)) s.outs 0 r' (bv++px) p1
  refine ⟨v,bv++px,ρ,h'.2.defers,hv,?_,Ae9 px,⟨h'.1.below.os,h'.1.below.tape,h'.1.below.output,h'.1.below.size,λk hk hn=>h'.1.below.block k hk λho=>hn ((Xz k).1 ho)⟩,io1,p1,⟨λl0 q b h1 h2=>?_,p4'⟩,λl0 TT=>?_,λkj oF=>?_⟩
  ·rw [YR]
   unfold lG
   rcases RN with ⟨h1,_,_,h2⟩|⟨tid,m,q,h1,_,_,h3,_,h4,h5,h6,h7⟩
   ·rw [h1];exact h2
   ·rw [h1];exact ⟨q,by rw [UN,h3],h4,h5,h6,h7⟩
  ·obtain ⟨m,RI,p,hm2,ZA,_,TV⟩:=p3' l0 q b h1 h2
   obtain ⟨k1,k2⟩:=h'.1.place m p b hm2 ZA
   refine ⟨k2,k1.imp id λ⟨c0,q0,h5,h6⟩=>?_⟩
   have Ho:c0<Aj:=Classical.byContradiction λhn=>by
    obtain ⟨Er,rI⟩:=AI c0 q0 (by omega) h5
    have hs:=h'.1.cw c0 (by omega) Er
    have hs:Tw ((kN c0).map full) (Vj c0):=hs
    rw [h5] at hs
    cases tR:Vj c0 with
    |none=>rw [tR] at hs;exact hs.elim
    |some q1=>
     rw [tR] at hs
     have hf1:q1.Ay b:=(hs.2.2.2 b).1 h6
     have:=h'.1.inj c0 m q1 p b tR hm2 (h'.1.sub c0 q1 b tR hf1) ZA
     subst this
     rcases TV with TV|TV
     ·rcases rI with rI|⟨b1,HO,hb2⟩
      ·exact n3 c0 RI c0 rI rfl
      ·obtain ⟨b2,hb3,hb4⟩:=mR s.outs _ _ _ rP c0 TV
       rw [HO] at hb3;cases hb3
       exact hb4 hb2
     ·exact hn TV
   refine ⟨c0,q0,Ho,?_,h6⟩
   rcases FF c0 q0 h5 with ⟨h7,_⟩|⟨_,h7,_⟩
   ·exact h7
   ·omega
  ·cases hp:ρ l0 with
   |none=>rfl
   |some q=>
    rcases od l0 q hp with ⟨e,h3⟩|⟨_,h3⟩
    ·refine absurd e (TT _ ?_)
     rcases RN with ⟨_,_,h4,_⟩|⟨tid,m,q',h4,_⟩
     ·rw [h4] at h3;cases h3
     ·unfold MSpec.Ni;rw [h4];simp
    ·obtain ⟨j,_,j2,j3⟩:=p2 l0 q h3
     exact absurd j3 (TT j (by unfold MSpec.Ni;omega))
  ·obtain ⟨l0,off,len,e,te,rows,out,p,q1,q2,q3,q4,q5⟩:=q9 pW kj oF
   have hj:kj.2<s.outs.length:=by
    rw [<-qk s.outs _ _ _ rP]
    exact (List.getElem?_eq_some_iff.1 q1).1
   have e1:=p5 kj.2 l0 off len e te rows out (some p) q1 q2
   rw [Nat.zero_add] at e1
   rw [Aab _ hj,e1]
   have hk:=((h'.1.heap l0).Mc q2).2
   obtain ⟨l1,n1⟩:=p
   simp only [KeptAt] at hk
   dsimp only at q3 q4
   subst q3
   have CF:π0 (Bt false kj.1)=(π (Bt false kj.1)).map full:=by
    show (if s.ptr.isSome=true/\Bt false kj.1=Lq then _ else π (Bt false kj.1)).map full=_
    rw [if_neg λh=>hvl false kj.1 q5 h.2]
   rw [CF] at hk
   unfold tY
   cases hp:π (Bt false kj.1) with
   |none=>
    rw [hp] at hk
    cases tR:Vj l0 with
    |none=>trivial
    |some q=>rw [tR] at hk;exact hk.elim
   |some q0=>
    rw [hp] at hk
    cases tR:Vj l0 with
    |none=>rw [tR] at hk;exact hk.elim
    |some q=>
     rw [tR] at hk
     obtain ⟨k1,k2,k3,k4⟩:=hk
     exact ⟨k1,k2,k3,λj hj hc=>k4 j (by omega) hc⟩
 refine calls_of_wp hf hb ?_
 refine (nk hT Md hm he _ w _ h0 λe st a' w' ⟨Er,kX⟩ h'=>?_).1
 obtain ⟨v,Sa,ρ,p1,p2,p3⟩:=fin st a' w' kX h'
 cases e with
 |normal=>exact ⟨p1,v,p2,v,Sa,ρ,rfl,p3⟩
 |ret=>exact ⟨p1,v,p2,v,Sa,ρ,rfl,p3⟩
 |exit id=>exact absurd rfl (Er id)
end
end Go.Proofs.Ytjbdmibbbpdnnaa
