/-
  Part 27 of the proof that the statement FnExactSubgroupCosetCount holds.
-/
import Derived.Test.YtjbdmibbbpdnnaaCSubgroupCosetCount25
namespace Go.Proofs.Ytjbdmibbbpdnnaa
open Go.RowKit
section
variable {P:Program} {T:Tab} {Γ:Env} {X:Ctx} {w w':World} {π:Pi} {H:List (Nat×OB)}
theorem kE: ∀(cs:List (Bool×CK)) (k:Nat) (x:Ins.den cs) (l:Nat),Ad (Qf k cs x) l≠none-> ∃b j,k<=j/\j<k+cs.length/\l=Bk b j
 | [],_,_,_,h=>absurd rfl h
 |p::r,k,x,l,h=>by
  simp only [Qf] at h
  by_cases e:l=Bk p.1 k
  ·exact ⟨p.1,k,Nat.le_refl _,by simp,e⟩
  ·have:Ad (Qf (k+1) r x.2) l≠none:=by
    cases hc:cg (Bk p.1 k) p.2 x.1 with
    |none=>rw [hc] at h;exact h
    |some b=>rw [hc] at h;simpa only [ao,Ad,if_neg (Ne.symm e)] using h
   obtain ⟨b,j,h1,h2,h3⟩:=kE r (k+1) x.2 l this
   exact ⟨b,j,by omega,by simp;omega,h3⟩
theorem yd {p:Bool×CK} {r:List (Bool×CK)} {k:Nat} {x:Ins.den (p::r)} (hk:k+(r.length+1)<100000) {l:Nat} {b:OB} (h:Ad (Qf (k+1) r x.2) l=some b):Ad (Qf k (p::r) x) l=some b:=by
 obtain ⟨b',j,h1,h2,rfl⟩:=kE r (k+1) x.2 l (by rw [h];simp)
 simp only [Qf]
 cases cg (Bk p.1 k) p.2 x.1 with
 |none=>exact h
 |some c=>simp only [ao,Ad];rw [if_neg (xr (by omega) (by omega) (by omega))];exact h
theorem zN {D:Nat->Prop} (hD: ∀b,Ax X.w0.heap.size X.Sc π false b->D b) (KN:X.w0=w) {l:Nat} {r:Option Real} (Wc:X.aX l=r.map full) {u:Value} {c:CK} {x:c.den} (h:Wy w D r u c x) {b:OB} (hb:cg l c x=some b):Ao X w π H (r.map full) b:=by
 have Qc: ∀ {e:Ty} {es:List Value} {y:e.den},Cells w D e es y->Cells w (Ax X.w0.heap.size X.Sc π false) e es y:= λ {e es y} h=>Cells.Ch (Nat.le_refl _) (λ_ _ _=>rfl) (λb _ hb=>hD b hb) e es y h
 cases c with
 |Gd τ=>cases hb
 |row e te=>
  simp only [cg,Option.some.injEq] at hb;subst hb
  obtain ⟨_,h⟩:=h
  simp only [Yx] at h
  simp only [Ao,Es]
  cases r with
  |none=>exact h
  |some q=>
   obtain ⟨k1,cu,ti,k2,k3,k4,k5,k6⟩:=h
   exact ⟨⟨k1.1,k1.2,λh=>by cases h⟩,cu,ti,k2,k3,k4,k5,λi y hy=>by
    obtain ⟨es,g1,g2,g3⟩:=k6 i y hy
    exact ⟨es,g1,g2,Qc g3⟩,λh=>by cases h⟩
 |Dc e te=>
  simp only [cg,Option.some.injEq] at hb;subst hb
  cases r<;>exact h.2
 |part e te=>
  simp only [cg,Option.some.injEq] at hb;subst hb
  obtain ⟨_,hf,h⟩:=h
  simp only [Ao,Es]
  cases r with
  |none=>exact h
  |some q=>
   obtain ⟨k1,cu,ti,k2,k3,k4,k5,k6⟩:=h
   exact ⟨⟨k1.1,k1.2,λh=>by cases h⟩,cu,ti,k2,k3,k4,k5,λi y hy=>by
    obtain ⟨es,g1,g2,g3⟩:=k6 i y hy
    exact ⟨es,g1,g2,Qc g3⟩,λh=>by cases h⟩
 |Ah e te kp=>
  simp only [cg,Option.some.injEq] at hb;subst hb
  have h2:Qx w D r e x none:=h.2
  have h3:=Qx.Ef h2 hD
  refine ⟨by cases r<;>exact h3,?_⟩
  cases kp with
  |false=>trivial
  |true=>
   simp only [if_true,KeptAt]
   rw [Wc]
   cases r with
   |none=>trivial
   |some q=>exact ⟨rfl,rfl,rfl,λj _ _=>by rw [KN]⟩
theorem dK {D:Nat->Prop} (hD: ∀b,Ax X.w0.heap.size X.Sc π false b->D b) (KN:X.w0=w) {π0:Pi} (Wc: ∀l,X.aX l=(π0 l).map full): ∀(cs:List (Bool×CK)) (k:Nat) (x:Ins.den cs) (us:List Value),Wz w D π0 k cs x us-> ∀l b,Ad (Qf k cs x) l=some b->Ao X w π H ((π0 l).map full) b
 | [],_,_,_,_,_,_,h=>by cases h
 |_::_,_,_,[],h,_,_,_=>h.elim
 |p::r,k,x,u::us,h,l,b,hb=>by
  simp only [Qf] at hb
  cases hc:cg (Bk p.1 k) p.2 x.1 with
  |none=>rw [hc] at hb;exact dK hD KN Wc r (k+1) x.2 us h.2 l b hb
  |some c=>
   rw [hc] at hb
   simp only [ao,Ad] at hb
   split at hb
   ·rename_i e;subst e
    simp only [Option.some.injEq] at hb;subst hb
    exact zN hD KN (Wc _) h.1 hc
   ·exact dK hD KN Wc r (k+1) x.2 us h.2 l b hb
theorem se {S:Nat->Prop} {π0:Pi} {gv:Nat->Prop} {aX:Pi} (Wb: ∀l,π l=(π0 l).map full): ∀(cs:List (Bool×CK)) (k:Nat) (x:Ins.den cs) (us:List Value),k+cs.length<100000->Wz w (λb=>Na π0 b\/S b) π0 k cs x us->(∀l b,Ad (Qf k cs x) l=some b->Ad H l=some b)->
  Hb ⟨w,S,gv,aX⟩ w π H (Sz k cs x) us
 | [],_,_,[],_,_,_=>trivial
 | [],_,_,_::_,_,h,_=>h.elim
 |_::_,_,_,[],_,h,_=>h.elim
 |p::r,k,x,u::us,hk,h,hH=>by
  simp only [List.length_cons] at hk
  refine ⟨?_,se Wb r (k+1) x.2 us (by omega) h.2 λl b hb=>hH l b (yd hk hb)⟩
  have h1:=h.1
  have hh: ∀b,cg (Bk p.1 k) p.2 x.1=some b->Ad H (Bk p.1 k)=some b:= λb hb=>hH _ b (by simp only [Qf];rw [hb];simp [ao,Ad])
  have cE:=Wb (Bk p.1 k)
  obtain ⟨io,c⟩:=p
  dsimp only at h1 hh cE⊢
  generalize x.1=y at*
  cases c with
  |Gd τ=>
   show Aw w _ τ u y
   cases hf:τ.flat with
   |true=>exact Aw.flat hf h1.2
   |false=>
    refine h1.2.Ef λb _ hb=>?_
    rcases hb with ⟨l,q,h3,h4⟩|hb|⟨hb,_⟩
    ·rw [Wb l] at h3
     cases hp:π0 l with
     |none=>rw [hp] at h3;cases h3
     |some q0=>rw [hp] at h3;simp only [Option.map_some,Option.some.injEq] at h3;subst h3;exact .inl ⟨l,q0,hp,h4⟩
    ·exact .inr hb
    ·cases hb
  |row e te=>exact ⟨_,e.size,List.length y,hh _ rfl,rfl,by simp,by rw [cE];exact Qj h1.1⟩
  |Dc e te=>exact ⟨_,e.size,List.length y,hh _ rfl,rfl,by simp,by rw [cE];exact Qj h1.1⟩
  |part e te=>exact ⟨_,e.size,List.length y.1,hh _ rfl,rfl,h1.1.2,by rw [cE];exact Qj h1.1.1⟩
  |Ah e te kp=>exact ⟨_,1,List.length y,hh _ rfl,rfl,by simp,by rw [cE];exact Qj h1.1⟩
theorem gE {p:Real} {s off len:Nat} {u:Value} {f:Nat->Prop} (h:Dd (some p) s off len u):Dd (some ⟨p.g,p.o+off,p.cap-off,f,f⟩) s 0 len u:=by
 obtain ⟨ad,h1,h2,h3⟩:=h
 exact ⟨ad,h1,by dsimp only;omega,λh0=>by dsimp only at h0;simpa using h3 (by omega)⟩
theorem l4 {α:Type} {xs:List α} {off len i:Nat} {x:α} (h:((xs.drop off).take len)[i]?=some x):xs[off+i]?=some x:=by
 rw [List.getElem?_take] at h
 split at h
 ·rw [List.getElem?_drop] at h;exact h
 ·cases h
theorem Oe.part {P:Nat->Prop} {g o:Nat} {cur:Array Value} {e:Ty} {xs:List e.den} (off len:Nat) (h:Oe w P g o cur e xs):Oe w P g (o+off) cur e ((xs.drop off).take len):=by
 obtain ⟨Fs,t1,t2,t3,t4⟩:=h
 refine ⟨(Fs.drop off).take len,by simp [t1],List.nodup_cons.2 ⟨λhm=>(List.nodup_cons.1 t2).1 (Kr off len _ hm),dQ off len (List.nodup_cons.1 t2).2⟩,λb hb=>t3 b (Kr off len b hb),λi x F hx hF=>?_⟩
 obtain ⟨es,k1,k2,k3⟩:=t4 (off+i) x F (l4 hx) (l4 hF)
 exact ⟨es,k1,λj u hu=>by rw [Nat.add_assoc o off i];exact k2 j u hu,k3⟩
theorem yw {st:St} (h:Gy X w π st.heap) {c:CK} (hg: ∀e te kp,c≠ .Ah e te kp) {a:AC} {u:Value} (hu:Dg X w π st.heap a u) {x:c.den} {ls:List Nat} (he:cm st c a=some (x,ls)):
  ∃r,Wy w (λb=>Na π b\/X.Sc b) r u c x/\ ∀q,r=some q-> ∃l p,ls= [l]/\π l=some p/\(∀b,q.Ar b->p.cl b)/\(c.IC=false-> ∀b,q.Ar b->p.Ar b):=by
 have zS: ∀ {f:Bool} (b:Nat),(Na π b\/X.Sc b)->Ax X.w0.heap.size X.Sc π f b:= λb h=>h.imp id .inl
 cases c with
 |Gd τ=>
  simp only [cm] at he
  split at he
  ·rename_i hf
   cases hv:Bf st τ a with
   |none=>rw [hv] at he;cases he
   |some p=>
    obtain ⟨fr,y⟩:=p
    rw [hv] at he
    simp only [Option.map_some,Option.some.injEq,Prod.mk.injEq] at he
    obtain ⟨rfl,rfl⟩:=he
    refine ⟨none,⟨rfl,?_⟩,λq hq=>by cases hq⟩
    have Ef: ∀f,Aw w (Ax X.w0.heap.size X.Sc π f) τ u y->Aw w (λb=>Na π b\/X.Sc b) τ u y:= λf hr=>hr.Ef λk _ hk=>zS k hk
    cases a with
    |data f Hz z=>
     rw [Hm] at hv
     split at hv
     ·rename_i ht;subst ht
      simp only [Option.some.injEq,Prod.mk.injEq] at hv
      obtain ⟨_,rfl⟩:=hv
      exact Ef f hu
     ·have Ra:τ.Ab=false:=by unfold ar at hv;split at hv<;>first|rfl|cases hv
      exact Ef _ ⟨[u],Uu hv hu,by simp [Am,Ra]⟩
    |Gr=>
     have hu:u= .slice none 0 0:=hu
     subst hu
     cases τ<;>simp only [Bf,Option.some.injEq,Prod.mk.injEq,reduceCtorEq] at hv
     ·obtain ⟨_,rfl⟩:=hv;exact ⟨[_],⟨none,0,0,rfl,rfl,Nat.le_refl _, .inl rfl⟩,rfl⟩
     ·obtain ⟨_,rfl⟩:=hv;exact ⟨[_], .inl ⟨rfl,0,rfl⟩,rfl⟩
    |Ox=>
     have hu:u= .pointer none:=hu
     subst hu
     cases τ<;>simp only [Bf,Option.some.injEq,Prod.mk.injEq,reduceCtorEq] at hv
     obtain ⟨_,rfl⟩:=hv;exact ⟨[_], .inl ⟨rfl,rfl⟩,rfl⟩
    |_=>cases τ<;>simp [AC.settled,Ty.flat,Bf] at hf hv
  ·cases he
 |row e te=>
  cases a<;>simp only [cm] at he<;>try (cases he;done)
  ·simp only [Option.some.injEq,Prod.mk.injEq] at he
   obtain ⟨rfl,rfl⟩:=he
   have hu:u= .slice none 0 0:=hu
   exact ⟨none,⟨⟨hu,rfl,rfl⟩,rfl⟩,λq hq=>by cases hq⟩
  ·rename_i l off len
   split at he
   ·rename_i fr tr e' Kc xs hl
    split at he
    ·rename_i hc
     obtain ⟨rfl,rfl⟩:=hc
     simp only [Option.some.injEq,Prod.mk.injEq] at he
     obtain ⟨rfl,rfl⟩:=he
     unfold St.at at hl
     obtain ⟨h1,h2⟩:=Ie hu hl
     have hb:=(h.heap l).Kz hl
     simp only [Ao,Es] at hb
     have hlen:((xs.drop off).take len).length=len:=by simp;omega
     cases hp:π l with
     |none=>
      rw [hp] at h2 hb
      obtain ⟨rfl,rfl,rfl⟩:=h2
      exact ⟨none,⟨⟨rfl,rfl,by simp⟩,by show (xs.drop 0).take 0= [];simp⟩,λq hq=>by cases hq⟩
     |some p=>
      rw [hp] at h2 hb
      obtain ⟨k1,cur,ti,k2,k3,k4,k5,k6,_⟩:=hb
      have ho:=h2
      obtain ⟨ad,_,kx,_⟩:=h2
      refine ⟨some ⟨p.g,p.o+off,p.cap-off,p.Ar,p.Ar⟩,⟨by rw [hlen];exact gE ho,⟨k1.1,k1.2.1⟩,cur,ti,k2,by rw [k3];congr 1;dsimp only;omega,by dsimp only;omega,by rw [hlen];dsimp only;omega,λi y hy=>?_⟩,
       fun q hq=>by cases hq;exact ⟨l,p,rfl,hp,λb hb=>h.sub l p b hp hb,λ_ b hb=>hb⟩⟩
      obtain ⟨es,g1,g2,g3⟩:=k6 (off+i) y (l4 hy)
      exact ⟨es,g1,λj u hu=>by dsimp only;rw [Nat.add_assoc p.o off i];exact g2 j u hu,Cells.Ch (Nat.le_refl _) (λ_ _ _=>rfl) (λb _ hb=>zS b hb) e' es y g3⟩
    ·cases he
   ·cases he
 |Dc e te=>
  cases a<;>simp only [cm] at he<;>try (cases he;done)
  ·simp only [Option.some.injEq,Prod.mk.injEq] at he
   obtain ⟨rfl,rfl⟩:=he
   have hu:u= .slice none 0 0:=hu
   exact ⟨none,⟨⟨hu,rfl,rfl⟩,rfl⟩,λq hq=>by cases hq⟩
  ·rename_i l off len
   split at he
   ·rename_i fr tr e' Kc xs hl
    split at he
    ·rename_i hc
     obtain ⟨rfl,rfl,hf⟩:=hc
     simp only [Option.some.injEq,Prod.mk.injEq] at he
     obtain ⟨rfl,rfl⟩:=he
     unfold St.at at hl
     obtain ⟨h1,h2⟩:=Ie hu hl
     have hb:=(h.heap l).Kz hl
     simp only [Ao,Es] at hb
     have hlen:((xs.drop off).take len).length=len:=by simp;omega
     cases hp:π l with
     |none=>
      rw [hp] at h2 hb
      obtain ⟨rfl,rfl,rfl⟩:=h2
      exact ⟨none,⟨⟨rfl,rfl,by simp⟩,by show (xs.drop 0).take 0= [];simp⟩,λq hq=>by cases hq⟩
     |some p=>
      rw [hp] at h2 hb
      obtain ⟨k1,cur,ti,k2,k3,k4,k5,k6,k7⟩:=hb
      have ho:=h2
      obtain ⟨ad,_,kx,_⟩:=h2
      have ht:Oe w p.cl p.g p.o cur e' xs:=by
       simp only [Bool.or_eq_true] at hf
       rcases hf with hf|hf
       ·exact k7 hf
       ·exact eK hf k6
      exact ⟨some ⟨p.g,p.o+off,p.cap-off,p.cl,p.cl⟩,⟨by rw [hlen];exact gE ho,h.sub l p _ hp k1.1,cur,ti,k2,by rw [k3];congr 1;dsimp only;omega,by dsimp only;omega,by rw [hlen];dsimp only;omega,ht.part off len⟩,
       fun q hq=>by cases hq;exact ⟨l,p,rfl,hp,λb hb=>hb,λhx=>by cases hx⟩⟩
    ·cases he
   ·rename_i e' Kc xs hl
    split at he
    ·rename_i hc
     obtain ⟨rfl,rfl⟩:=hc
     simp only [Option.some.injEq,Prod.mk.injEq] at he
     obtain ⟨rfl,rfl⟩:=he
     unfold St.at at hl
     obtain ⟨h1,h2⟩:=Tk hu hl
     have hb:=(h.heap l).Kz hl
     simp only [Ao,Ho] at hb
     have hlen:((xs.drop off).take len).length=len:=by simp;omega
     cases hp:π l with
     |none=>
      rw [hp] at h2 hb
      obtain ⟨rfl,rfl,rfl⟩:=h2
      exact ⟨none,⟨⟨rfl,rfl,by simp⟩,by show (xs.drop 0).take 0= [];simp⟩,λq hq=>by cases hq⟩
     |some p=>
      rw [hp] at h2 hb
      obtain ⟨k1,cur,ti,k2,k3,k4,k5,ht⟩:=hb
      have ho:=h2
      obtain ⟨ad,_,kx,_⟩:=h2
      exact ⟨some ⟨p.g,p.o+off,p.cap-off,p.Ar,p.Ar⟩,⟨by rw [hlen];exact gE ho,k1,cur,ti,k2,by rw [k3];congr 1;dsimp only;omega,by dsimp only;omega,by rw [hlen];dsimp only;omega,ht.part off len⟩,
       fun q hq=>by cases hq;exact ⟨l,p,rfl,hp,λb hb=>h.sub l p b hp hb,λ_ b hb=>hb⟩⟩
    ·cases he
   ·cases he
 |part e te=>cases a<;>simp [cm] at he
 |Ah e te kp=>exact absurd rfl (hg e te kp)
theorem BO {st:St} (h:Gy X w π st.heap) {c:CK} {a:AC} {u:Value} (hu:Dg X w π st.heap a u) {x:c.den} {ls:List Nat} (he:cm st c a=some (x,ls)):
  ∃r,Wy w (λb=>Na π b\/X.Sc b) r u c x/\(∀q,r=some q-> ∃l p,ls= [l]/\π l=some p/\(∀b,q.Ar b->p.cl b)/\(c.IC=false-> ∀b,q.Ar b->p.Ar b))/\
   (∀l off len e te rows out kp,a= .own l off len->Ad st.heap l=some (.Ah e te rows out kp)->r=π l):=by
 have m4:(∀e te kp,c≠ .Ah e te kp)->(∀l off len e te rows out kp,a=AC.own l off len->Ad st.heap l=some (OB.Ah e te rows out kp)->False)->
   ∃r,Wy w (λb=>Na π b\/X.Sc b) r u c x/\(∀q,r=some q-> ∃l p,ls= [l]/\π l=some p/\(∀b,q.Ar b->p.cl b)/\(c.IC=false-> ∀b,q.Ar b->p.Ar b))/\
   (∀l off len e te rows out kp,a= .own l off len->Ad st.heap l=some (.Ah e te rows out kp)->r=π l):= λh1 h2=>by
  obtain ⟨r,g1,g2⟩:=yw h h1 hu he
  exact ⟨r,g1,g2,λl off len e te rows out kp h3 h4=>(h2 l off len e te rows out kp h3 h4).elim⟩
 cases c with
 |Gd τ=>
  refine m4 (λ_ _ _ h=>by cases h) λl off len e te rows out kp h3 h4=>?_
  subst h3
  simp only [cm] at he
  split at he
  ·rename_i hf
   cases τ<;>simp [AC.settled,Ty.flat,Bf] at hf he
  ·cases he
 |row e te=>
  refine m4 (λ_ _ _ h=>by cases h) λl off len e te rows out kp h3 h4=>?_
  subst h3
  simp only [cm,St.at,h4] at he
  cases he
 |Dc e te=>
  refine m4 (λ_ _ _ h=>by cases h) λl off len e te rows out kp h3 h4=>?_
  subst h3
  simp only [cm,St.at,h4] at he
  cases he
 |part e te=>cases a<;>simp [cm] at he
 |Ah e te kp=>
  cases a<;>simp only [cm] at he<;>try (cases he;done)
  rename_i l off len
  split at he
  ·rename_i e' Kc rows kp' hl
   split at he
   ·rename_i hc
    obtain ⟨rfl,rfl,rfl,rfl⟩:=hc
    simp only [Option.some.injEq,Prod.mk.injEq] at he
    obtain ⟨rfl,rfl⟩:=he
    unfold St.at at hl
    obtain ⟨b,sz,n,h1,h2,_,h3⟩:=hu
    rw [hl] at h1;cases h1
    simp only [OB.row,Option.some.injEq,Prod.mk.injEq] at h2
    obtain ⟨rfl,rfl⟩:=h2
    have hb:=((h.heap l).Kz hl).1
    refine ⟨π l,⟨h3,Qx.Ef hb λb hb=>hb.imp id .inl⟩,λq hq=>⟨l,q,rfl,hq,λb hb=>h.sub l q b hq hb,λ_ b hb=>hb⟩,λl' Ad5 Ad1 _ _ _ _ _ he _=>?_⟩
    simp only [AC.own.injEq] at he
    rw [he.1]
   ·cases he
  ·cases he
theorem Eg.congr {D:Nat->Prop} {ρ SC:Pi} : ∀(cs:List CK) (k:Nat) (x:CKs.den cs) (us:List Value),(∀j,k<=j->SC (Eu j)=ρ (Eu j))->Eg w D ρ k cs x us->Eg w D SC k cs x us
 | [],_,_,[],_,h=>h
 | [],_,_,_::_,_,h=>h.elim
 |_::_,_,_,[],_,h=>h.elim
 |c::r,k,x,u::us,he,h=>⟨by rw [he k (Nat.le_refl _)];exact h.1,Eg.congr r (k+1) x.2 us (λj hj=>he j (by omega)) h.2⟩
theorem nY {st:St} (h:Gy X w π st.heap): ∀(cs:List CK) (k:Nat) (as:List AC) (us:List Value) (x:CKs.den cs) (ls:List Nat),Hb X w π st.heap as us->Ms st cs as=some (x,ls)->ls.Nodup->
  ∃ρ:Pi,Eg w (λb=>Na π b\/X.Sc b) ρ k cs x us/\(∀l q,ρ l=some q-> ∃j,k<=j/\j<k+cs.length/\l=Eu j)/\(∀l q b,ρ l=some q->q.Ar b-> ∃l0∈ls,∃p,π l0=some p/\p.cl b/\((cs.all λc=>!c.IC)=true->p.Ar b))/\
   (∀l l' q q' b,ρ l=some q->ρ l'=some q'->q.Ar b->q'.Ar b->l=l')/\
   (∀(j l off len:Nat) e te rows out kp,as[j]?=some (.own l off len)->Ad st.heap l=some (.Ah e te rows out kp)->ρ (Eu (k+j))=π l)
 | [],k,[],[],x,ls,_,he,_=>by
  simp only [Ms,Option.some.injEq,Prod.mk.injEq] at he
  exact ⟨λ_=>none,trivial,(λl q h=>by cases h),(λl q b h=>by cases h),(λl l' q q' b h=>by cases h),λj l off len e te rows out kp h=>by simp at h⟩
 | [],_,[],_::_,_,_,h,_,_=>h.elim
 | [],_,_::_,_,_,_,_,he,_=>by simp [Ms] at he
 |_::_,_,[],_,_,_,_,he,_=>by simp [Ms] at he
 |_::_,_,_::_,[],_,_,h,_,_=>h.elim
 |c::r,k,a::as,u::us,x,ls,hr,he,zt=>by
  simp only [Ms] at he
  split at he
  ·rename_i x1 t1 x2 t2 h1 h2
   simp only [Option.some.injEq,Prod.mk.injEq] at he
   obtain ⟨rfl,rfl⟩:=he
   obtain ⟨n1,n2,n3⟩:=List.nodup_append.1 zt
   obtain ⟨ρ,g1,g2,g3,g4,g5⟩:=nY h r (k+1) as us x2 t2 hr.2 h2 n2
   obtain ⟨rr,r1,r2,r3⟩:=BO h hr.1 h1
   have rE: ∀l q q0 b,ρ l=some q->rr=some q0->q.Ar b->q0.Ar b->False:= λl q q0 b h3 h4 h5 h6=>by
    obtain ⟨l0,m0,p,p1,p2,_⟩:=g3 l q b h3 h5
    obtain ⟨l1,p',e1,YC,YD,_⟩:=r2 q0 h4
    have:=h.inj l0 l1 p p' b p1 YC p2 (YD b h6)
    exact n3 l1 (by rw [e1];simp) l0 m0 this.symm
   refine ⟨λl=>if l=Eu k then rr else ρ l,⟨by simpa using r1,Eg.congr r (k+1) x2 us (λj hj=>if_neg (by unfold Eu;omega)) g1⟩,λl q hq=>?_,λl q b hq hb=>?_,λl l' q q' b h3 h4 h5 h6=>?_,λj l off len e te rows out kp hj hl=>?_⟩
   ·dsimp only at hq
    by_cases e:l=Eu k
    ·exact ⟨k,Nat.le_refl _,by simp,e⟩
    ·rw [if_neg e] at hq
     obtain ⟨j,j1,j2,j3⟩:=g2 l q hq
     exact ⟨j,by omega,by simp;omega,j3⟩
   ·dsimp only at hq
    by_cases e:l=Eu k
    ·rw [if_pos e] at hq
     obtain ⟨l1,p',e1,YC,YD,TS⟩:=r2 q hq
     exact ⟨l1,by rw [e1];simp,p',YC,YD b hb,λhx=>TS (by simp only [List.all_cons,Bool.and_eq_true,Bool.not_eq_true'] at hx;exact hx.1) b hb⟩
    ·rw [if_neg e] at hq
     obtain ⟨l0,m0,p,p1,p2,p3⟩:=g3 l q b hq hb
     exact ⟨l0,List.mem_append_right _ m0,p,p1,p2,λhx=>p3 (by simp only [List.all_cons,Bool.and_eq_true] at hx;exact hx.2)⟩
   ·dsimp only at h3 h4
    by_cases e:l=Eu k<;>by_cases e':l'=Eu k
    ·rw [e,e']
    ·rw [if_pos e] at h3;rw [if_neg e'] at h4
     exact (rE l' q' q b h4 h3 h6 h5).elim
    ·rw [if_neg e] at h3;rw [if_pos e'] at h4
     exact (rE l q q' b h3 h4 h5 h6).elim
    ·rw [if_neg e] at h3;rw [if_neg e'] at h4
     exact g4 l l' q q' b h3 h4 h5 h6
   ·rcases j with _|j
    ·simp only [List.getElem?_cons_zero,Option.some.injEq] at hj
     show (if Eu k=Eu k then rr else ρ (Eu k))=π l
     rw [if_pos rfl]
     exact r3 l off len e te rows out kp hj hl
    ·have:=g5 j l off len e te rows out kp (by simpa using hj) hl
     show (if Eu (k+(j+1))=Eu k then rr else ρ (Eu (k+(j+1))))=π l
     rw [if_neg (by unfold Eu;omega),<-this,show k+(j+1)=k+1+j by omega]
  ·cases he
theorem tm {r r':Option Real} (h:Sk (r.map full) r') {e:Ty} {xs:List e.den} {te:TypeId} {fr tr:Bool} (ha:Es X w π r' fr tr e te xs):Lb w (λb=>Na π b\/X.Sc b) r e xs:=by
 cases r with
 |none=>cases r' with
  |none=>exact ha
  |some q=>exact h.elim
 |some p=>cases r' with
  |none=>exact h.elim
  |some q=>
   obtain ⟨e1,e2,e3,e4⟩:=h
   obtain ⟨k1,cur,ti,k2,k3,k4,k5,k6,_⟩:=ha
   have e1:p.g=q.g:=e1
   have e2:p.o=q.o:=e2
   have e3:p.cap=q.cap:=e3
   refine ⟨⟨by rw [e1];exact (e4 _).2 k1.1,λb hb=>by rw [e1];exact k1.2.1 b ((e4 b).1 hb)⟩,cur,ti,by rw [e1];exact k2,by rw [e2,e3];exact k3,by rw [e3];exact k4,by rw [e3];exact k5,λi y hy=>?_⟩
   obtain ⟨es,g1,g2,g3⟩:=k6 i y hy
   exact ⟨es,g1,by rw [e2];exact g2,Cells.Ch (Nat.le_refl _) (λ_ _ _=>rfl) (λb _ hb=>hb.imp id .inl) e es y g3⟩
theorem yN {r r':Option Real} (h:Sk (r.map full) r') {e:Ty} {xs:List e.den} {te:TypeId} (ha:Ho w r' e te xs):Ho w r e te xs:=by
 cases r with
 |none=>cases r' with
  |none=>exact ha
  |some q=>exact h.elim
 |some p=>cases r' with
  |none=>exact h.elim
  |some q=>
   obtain ⟨e1,e2,e3,e4⟩:=h
   obtain ⟨k1,cur,ti,k2,k3,k4,k5,Fs,t1,t2,t3,t4⟩:=ha
   have e1:p.g=q.g:=e1
   have e2:p.o=q.o:=e2
   have e3:p.cap=q.cap:=e3
   exact ⟨by rw [e1];exact (e4 _).2 k1,cur,ti,by rw [e1];exact k2,by rw [e2,e3];exact k3,by rw [e3];exact k4,by rw [e3];exact k5,Fs,t1,by rw [e1];exact t2,λb hb=>(e4 b).2 (t3 b hb),by rw [e2];exact t4⟩
theorem Mc {st:St} {π0:Pi} {D:Nat->Prop} {w0:World} (h:Gy X w π st.heap) (Wc: ∀l,X.aX l=(π0 l).map full): ∀(cs:List (Bool×CK)) (k:Nat) (x:Ins.den cs) (us:List Value) (o:IOs.den cs),Wz w0 D π0 k cs x us->Ih st k cs=some o->
  Gf w (λb=>Na π b\/X.Sc b) π0 k cs o/\ ∀l∈Ix k cs,Ad st.heap l≠none
 | [],_,_,_,_,_,_=>⟨trivial,λl hl=>by cases hl⟩
 |_::_,_,_,[],_,h,_=>h.elim
 |(false,c)::r,k,x,u::us,o,hi,he=>Mc h Wc r (k+1) x.2 us o hi.2 (by simpa only [Ih] using he)
 |(true, .Gd τ)::r,k,x,u::us,o,hi,he=>Mc h Wc r (k+1) x.2 us o hi.2 (by simpa only [Ih] using he)
 |(true, .Ah e te kp)::r,k,x,u::us,o,hi,he=>Mc h Wc r (k+1) x.2 us o hi.2 (by simpa only [Ih] using he)
 |(true, .row e te)::r,k,x,u::us,o,hi,he=>by
  simp only [Ih] at he
  split at he
  ·rename_i x1 x2 h1 h2
   simp only [Option.some.injEq] at he;subst he
   obtain ⟨g1,g2⟩:=Mc h Wc r (k+1) x.2 us x2 hi.2 h2
   have h0:=hi.1
   simp only [ij] at h1
   split at h1
   ·rename_i fr tr e' Kc xs hl
    split at h1
    ·rename_i hc
     obtain ⟨rfl,rfl⟩:=hc
     simp only [Option.some.injEq] at h1;subst h1
     unfold St.at at hl
     have hs:=h.aX (Bk true k) (by have:=Sa k;omega) (by rw [hl];simp)
     rw [Wc] at hs
     exact ⟨⟨tm (te:=Kc) hs ((h.heap _).Kz hl),g1⟩,λl Hy=>by
      simp only [Ix] at Hy
      rcases List.mem_cons.1 Hy with rfl|Hy
      ·rw [hl];simp
      ·exact g2 l Hy⟩
    ·cases h1
   ·cases h1
  ·cases he
 |(true, .part e te)::r,k,x,u::us,o,hi,he=>by
  simp only [Ih] at he
  split at he
  ·rename_i x1 x2 h1 h2
   simp only [Option.some.injEq] at he;subst he
   obtain ⟨g1,g2⟩:=Mc h Wc r (k+1) x.2 us x2 hi.2 h2
   have h0:=hi.1
   simp only [ij] at h1
   split at h1
   ·rename_i fr tr e' Kc xs hl
    split at h1
    ·rename_i hc
     obtain ⟨rfl,rfl⟩:=hc
     simp only [Option.some.injEq] at h1;subst h1
     unfold St.at at hl
     have hs:=h.aX (Bk true k) (by have:=Sa k;omega) (by rw [hl];simp)
     rw [Wc] at hs
     exact ⟨⟨tm (te:=Kc) hs ((h.heap _).Kz hl),g1⟩,λl Hy=>by
      simp only [Ix] at Hy
      rcases List.mem_cons.1 Hy with rfl|Hy
      ·rw [hl];simp
      ·exact g2 l Hy⟩
    ·cases h1
   ·cases h1
  ·cases he
 |(true, .Dc e te)::r,k,x,u::us,o,hi,he=>by
  simp only [Ih] at he
  split at he
  ·rename_i x1 x2 h1 h2
   simp only [Option.some.injEq] at he;subst he
   obtain ⟨g1,g2⟩:=Mc h Wc r (k+1) x.2 us x2 hi.2 h2
   simp only [ij] at h1
   split at h1
   ·rename_i e' Kc xs hl
    split at h1
    ·rename_i hc
     obtain ⟨rfl,rfl⟩:=hc
     simp only [Option.some.injEq] at h1;subst h1
     unfold St.at at hl
     have hs:=h.aX (Bk true k) (by have:=Sa k;omega) (by rw [hl];simp)
     rw [Wc] at hs
     exact ⟨⟨yN (te:=Kc) hs ((h.heap _).Kz hl),g1⟩,λl Hy=>by
      simp only [Ix] at Hy
      rcases List.mem_cons.1 Hy with rfl|Hy
      ·rw [hl];simp
      ·exact g2 l Hy⟩
    ·cases h1
   ·cases h1
  ·cases he
theorem mB {p:Bool×CK} {r:List (Bool×CK)} (h:Qi (p::r)=true):Qi r=true:=by
 rcases p with ⟨_|_,c⟩<;>cases c<;>first|(simp [Qi] at h;done)|simpa [Qi] using h
theorem nL: ∀(cs:List (Bool×CK)) (k:Nat) (x:Ins.den cs) (l:Nat),Qi cs=true->k+cs.length<100000->Ad (Qf k cs x) l≠none-> ¬l<Ag->l∈Ix k cs
 | [],_,_,_,_,_,h,_=>absurd rfl h
 |(io,c)::r,k,x,l,OZ,hk,h,hp=>by
  simp only [List.length_cons] at hk
  simp only [Qf] at h
  have tail:Ad (Qf (k+1) r x.2) l≠none->l∈Ix (k+1) r:= λh=>nL r (k+1) x.2 l (mB OZ) (by omega) h hp
  have sub: ∀m,m∈Ix (k+1) r->m∈Ix k ((io,c)::r):= λm hm=>by
   cases io<;>cases c<;>simp only [Ix]<;>first|exact hm|exact List.mem_cons_of_mem _ hm
  cases hc:cg (Bk io k) c x.1 with
  |none=>rw [hc] at h;exact sub l (tail h)
  |some b=>
   rw [hc] at h
   simp only [ao,Ad] at h
   split at h
   ·rename_i e;subst e
    cases io with
    |false=>exact absurd (Yh (by omega)) hp
    |true=>cases c with
     |Gd τ=>cases hc
     |row e te=>simp [Ix]
     |Dc e te=>simp [Ix]
     |part e te=>simp [Ix]
     |Ah e te kp=>simp [Qi] at OZ
   ·exact sub l (tail h)
theorem Wy.Ef {D D':Nat->Prop} (hD: ∀b,D' b->D b) {r:Option Real} {u:Value} {c:CK} {x:c.den} (h:Wy w D r u c x):Wy w D' r u c x:=by
 cases c with
 |Gd τ=>exact ⟨h.1,h.2.Ef λb _ hb=>hD b hb⟩
 |row e te=>exact ⟨h.1,Lb.Ef h.2 hD⟩
 |Dc e te=>exact h
 |part e te=>exact ⟨h.1,h.2.1,Lb.Ef h.2.2 hD⟩
 |Ah e te kp=>exact ⟨h.1,Qx.Ef h.2 hD⟩
theorem Eg.Ef {D D':Nat->Prop} (hD: ∀b,D' b->D b) {ρ:Pi} : ∀(cs:List CK) (k:Nat) (x:CKs.den cs) (us:List Value),Eg w D ρ k cs x us->Eg w D' ρ k cs x us
 | [],_,_,[],h=>h
 | [],_,_,_::_,h=>h.elim
 |_::_,_,_,[],h=>h.elim
 |_c::r,k,x,_u::us,h=>⟨h.1.Ef hD,Eg.Ef hD r (k+1) x.2 us h.2⟩
theorem Gf.Ef {D D':Nat->Prop} (hD: ∀b,D' b->D b) {π:Pi} : ∀(cs:List (Bool×CK)) (k:Nat) (x:IOs.den cs),Gf w D π k cs x->Gf w D' π k cs x
 | [],_,_,h=>h
 |(false,_)::r,k,x,h=>Gf.Ef hD r (k+1) x h
 |(true, .Gd _)::r,k,x,h=>Gf.Ef hD r (k+1) x h
 |(true, .Ah _ _ _)::r,k,x,h=>Gf.Ef hD r (k+1) x h
 |(true, .row _e _te)::r,k,x,h=>⟨Lb.Ef h.1 hD,Gf.Ef hD r (k+1) x.2 h.2⟩
 |(true, .Dc _e _te)::r,k,x,h=>⟨h.1,Gf.Ef hD r (k+1) x.2 h.2⟩
 |(true, .part _e _te)::r,k,x,h=>⟨Lb.Ef h.1 hD,Gf.Ef hD r (k+1) x.2 h.2⟩
theorem Wz.congr {D:Nat->Prop} {π0 Tq:Pi} : ∀(cs:List (Bool×CK)) (k:Nat) (x:Ins.den cs) (us:List Value),(∀b j,k<=j->j<k+cs.length->Tq (Bk b j)=π0 (Bk b j))->Wz w D π0 k cs x us->Wz w D Tq k cs x us
 | [],_,_,[],_,h=>h
 | [],_,_,_::_,_,h=>h
 |_::_,_,_,[],_,h=>h
 |p::r,k,x,u::us,hp,h=>⟨by rw [hp p.1 k (Nat.le_refl _) (by simp)];exact h.1,Wz.congr r (k+1) x.2 us (λb j h1 h2=>hp b j (by omega) (by simp;omega)) h.2⟩
theorem Gf.congr {D:Nat->Prop} {π0 Tq:Pi} : ∀(cs:List (Bool×CK)) (k:Nat) (x:IOs.den cs),(∀b j,k<=j->j<k+cs.length->Tq (Bk b j)=π0 (Bk b j))->Gf w D π0 k cs x->Gf w D Tq k cs x
 | [],_,_,_,h=>h
 |(false,c)::r,k,x,hp,h=>by cases c<;>exact Gf.congr r (k+1) x (λb j h1 h2=>hp b j (by omega) (by simp;omega)) h
 |(true, .Gd _)::r,k,x,hp,h=>Gf.congr r (k+1) x (λb j h1 h2=>hp b j (by omega) (by simp;omega)) h
 |(true, .Ah _ _ _)::r,k,x,hp,h=>Gf.congr r (k+1) x (λb j h1 h2=>hp b j (by omega) (by simp;omega)) h
 |(true, .row e te)::r,k,x,hp,h=>⟨by rw [hp true k (Nat.le_refl _) (by simp)];exact h.1,Gf.congr r (k+1) x.2 (λb j h1 h2=>hp b j (by omega) (by simp;omega)) h.2⟩
 |(true, .Dc e te)::r,k,x,hp,h=>⟨by rw [hp true k (Nat.le_refl _) (by simp)];exact h.1,Gf.congr r (k+1) x.2 (λb j h1 h2=>hp b j (by omega) (by simp;omega)) h.2⟩
 |(true, .part e te)::r,k,x,hp,h=>⟨by rw [hp true k (Nat.le_refl _) (by simp)];exact h.1,Gf.congr r (k+1) x.2 (λb j h1 h2=>hp b j (by omega) (by simp;omega)) h.2⟩
theorem Bs.congr {π0 Tq:Pi} : ∀(cs:List (Bool×CK)) (k:Nat) (o:IOs.den cs) (n:Nat) (us as:List Value),(∀b j,k<=j->j<k+cs.length->Tq (Bk b j)=π0 (Bk b j))->Bs π0 k cs o n us as->Bs Tq k cs o n us as
 | [],k,o,0,us,as,_,h=>by simpa [Bs] using h
 | [],k,o,n+1,us,as,_,h=>by simp [Bs] at h
 |p::r,k,o,0,us,as,_,h=>by
  rcases p with ⟨_|_,c⟩<;>cases c<;>simpa [Bs] using h
 |(true, .Gd _)::r,k,o,n+1,us,as,_,h=>by simp [Bs] at h
 |(true, .part _ _)::r,k,o,n+1,us,as,_,h=>by simp [Bs] at h
 |(true, .Ah _ _ _)::r,k,o,n+1,us,as,_,h=>by simp [Bs] at h
 |(true, .row e te)::r,k,o,n+1,[],as,_,h=>by simp [Bs] at h
 |(true, .Dc e te)::r,k,o,n+1,[],as,_,h=>by simp [Bs] at h
 |(true, .row e te)::r,k,o,n+1,u::us,as,hp,h=>by
  simp only [Bs] at h⊢
  exact ⟨by rw [hp true k (Nat.le_refl _) (by simp)];exact h.1,Bs.congr r (k+1) o.2 n us as (λb j h1 h2=>hp b j (by omega) (by simp;omega)) h.2⟩
 |(true, .Dc e te)::r,k,o,n+1,u::us,as,hp,h=>by
  simp only [Bs] at h⊢
  exact ⟨by rw [hp true k (Nat.le_refl _) (by simp)];exact h.1,Bs.congr r (k+1) o.2 n us as (λb j h1 h2=>hp b j (by omega) (by simp;omega)) h.2⟩
 |(false,c)::r,k,o,n+1,[],as,_,h=>by cases c<;>simp [Bs] at h
 |(false,c)::r,k,o,n+1,u::us,[],_,h=>by cases c<;>simp [Bs] at h
 |(false,c)::r,k,o,n+1,u::us,a::as,hp,h=>by
  have h:u=a/\Bs π0 (k+1) r o n us as:=by cases c<;>exact h
  have:=Bs.congr r (k+1) o n us as (λb j h1 h2=>hp b j (by omega) (by simp;omega)) h.2
  cases c<;>exact ⟨h.1,this⟩
theorem iy: ∀(A B:List (Nat×OB)) (l:Nat),Ad (A++B) l=match Ad A l with|some b=>some b|none=>Ad B l
 | [],B,l=>rfl
 |(k,b)::A,B,l=>by
  simp only [List.cons_append,Ad]
  split
  ·rfl
  ·exact iy A B l
theorem kX {st:St} : ∀(cs:List CK) (as:List AC) (x:CKs.den cs) (ls:List Nat),Ms st cs as=some (x,ls)-> ∀l∈ls,∃b,Ad st.heap l=some b/\b.row≠none
 | [],[],x,ls,he=>by
  simp only [Ms,Option.some.injEq,Prod.mk.injEq] at he
  obtain ⟨_,rfl⟩:=he
  intro l hl;cases hl
 | [],_::_,_,_,he=>by simp [Ms] at he
 |_::_,[],_,_,he=>by simp [Ms] at he
 |c::r,a::as,x,ls,he=>by
  simp only [Ms] at he
  split at he
  ·rename_i x1 t1 x2 t2 h1 h2
   simp only [Option.some.injEq,Prod.mk.injEq] at he
   obtain ⟨_,rfl⟩:=he
   intro l hl
   rcases List.mem_append.1 hl with hl|hl
   ·unfold cm at h1
    split at h1
    ·split at h1
     ·cases hv:Bf st _ a with
      |none=>rw [hv] at h1;cases h1
      |some p=>rw [hv] at h1;simp only [Option.map_some,Option.some.injEq,Prod.mk.injEq] at h1;obtain ⟨_,rfl⟩:=h1;cases hl
     ·cases h1
    all_goals (repeat' split at h1)
    all_goals first|(cases h1;done)|skip
    all_goals (simp only [Option.some.injEq,Prod.mk.injEq] at h1;obtain ⟨_,rfl⟩:=h1)
    all_goals first|(cases hl;done)|skip
    all_goals (have hl:=List.mem_singleton.1 hl;subst hl)
    all_goals (rename_i heq _;exact ⟨_,heq,by simp [OB.row]⟩)
   ·exact kX r as x2 t2 h2 l hl
  ·cases he
theorem iK {r r':Option Real} {sz off len:Nat} {v:Value} (h:Sk r r') (hv:Dd r' sz off len v):Dd r sz off len v:=by
 cases r<;>cases r'<;>first|exact h.elim|skip
 ·exact hv
 ·obtain ⟨h1,h2,h3,_⟩:=h
  obtain ⟨ad,g1,g2,g3⟩:=hv
  exact ⟨ad,by rw [h3];exact g1,by rw [h3];exact g2,by rw [h1,h2,h3];exact g3⟩
theorem Pn {st:St} {π0:Pi} (hs: ∀k,Ad st.heap (Bk true k)≠none->Sk ((π0 (Bk true k)).map full) (π (Bk true k))):
  ∀(cs:List (Bool×CK)) (k:Nat) (vs:List AC) (us:List Value) (bc:List AC) (o:IOs.den cs),Hb X w π st.heap vs us->Ei k cs vs=some bc->aN st vs cs->Ih st k cs=some o->
   ∃bv,Hb X w π st.heap bc bv/\bv.length=lb cs vs.length/\ ∀tl,Bs π0 k cs o vs.length us (bv++tl)
 |cs,k,[],us,bc,o,hr,he,_,_=>by
  have e1:us= []:=by cases us with|nil=>rfl|cons u us=>exact hr.elim
  have e2:bc= []:=by rcases cs with _|⟨⟨_|_,c⟩,r⟩<;>simpa [Ei] using he.symm
  subst e1;subst e2
  refine ⟨[],trivial,?_,λtl=>?_⟩
  ·rcases cs with _|⟨⟨_|_,c⟩,r⟩<;>rfl
  ·rcases cs with _|⟨⟨_|_,c⟩,r⟩<;>(try cases c)<;>simp [Bs]
 | [],k,a::vs,us,bc,o,hr,he,_,_=>by simp [Ei] at he
 |p::r,k,a::vs,[],bc,o,hr,_,_,_=>hr.elim
 |(false,c)::r,k,a::vs,u::us,bc,o,hr,he,hk,ho=>by
  have he:(Ei (k+1) r vs).map (λl=>a::l)=some bc:=by cases a<;>exact he
  cases hb:Ei (k+1) r vs with
  |none=>rw [hb] at he;cases he
  |some bc'=>
   rw [hb] at he
   simp only [Option.map_some,Option.some.injEq] at he;subst he
   obtain ⟨bv,g1,g2,g3⟩:=Pn hs r (k+1) vs us bc' o hr.2 hb (by cases a<;>exact hk) (by cases c<;>simpa only [Ih] using ho)
   refine ⟨u::bv,⟨hr.1,g1⟩,by simp [lb,g2],λtl=>?_⟩
   have:=g3 tl
   cases c<;>exact ⟨rfl,this⟩
 |(true,c)::r,k,a::vs,u::us,bc,o,hr,he,hk,ho=>by
  cases c with
  |Gd τ=>cases a<;>simp [Ei] at he
  |part e te=>cases a<;>simp [Ei] at he
  |Ah e te kp=>cases a<;>simp [Ei] at he
  |row e te=>
   cases a<;>first|(simp [Ei] at he;done)|skip
   rename_i l off len
   simp only [Ei] at he
   split at he
   rotate_left
   ·cases he
   rename_i hl
   have hl:l=Bk true k:=Nat.eq_of_beq_eq_true hl
   subst hl
   obtain ⟨⟨rfl,hlen⟩,hk⟩:=hk
   obtain ⟨b,sz,n,h1,h2,h3,h4⟩:=hr.1
   have AJ:=hs k (by rw [h1];simp)
   simp only [Ih] at ho
   split at ho
   ·rename_i x1 x2 q1 q2
    simp only [Option.some.injEq] at ho;subst ho
    obtain ⟨bv,g1,g2,g3⟩:=Pn hs r (k+1) vs us bc x2 hr.2 he hk q2
    refine ⟨bv,g1,by simpa [lb] using g2,λtl=>?_⟩
    refine ⟨?_,g3 tl⟩
    simp only [ij] at q1
    split at q1
    ·rename_i fr tr e' Kc xs Hy
     split at q1
     ·rename_i hc
      obtain ⟨rfl,rfl⟩:=hc
      simp only [Option.some.injEq] at q1;subst q1
      unfold St.at at Hy hlen
      rw [Hy] at hlen
      rw [h1] at Hy;cases Hy
      simp only [OB.row,Option.some.injEq,Prod.mk.injEq] at h2
      obtain ⟨rfl,rfl⟩:=h2
      have hlen:len=List.length xs:=hlen
      have:=iK AJ h4
      rw [hlen] at this
      have e0:(π0 (Bk true k)).map full=(π0 (Bk true k)).map full:=rfl
      cases hp:π0 (Bk true k)<;>(rw [hp] at this;exact this)
     ·cases q1
    ·cases q1
   ·cases ho
  |Dc e te=>
   cases a<;>first|(simp [Ei] at he;done)|skip
   rename_i l off len
   simp only [Ei] at he
   split at he
   rotate_left
   ·cases he
   rename_i hl
   have hl:l=Bk true k:=Nat.eq_of_beq_eq_true hl
   subst hl
   obtain ⟨⟨rfl,hlen⟩,hk⟩:=hk
   obtain ⟨b,sz,n,h1,h2,h3,h4⟩:=hr.1
   have AJ:=hs k (by rw [h1];simp)
   simp only [Ih] at ho
   split at ho
   ·rename_i x1 x2 q1 q2
    simp only [Option.some.injEq] at ho;subst ho
    obtain ⟨bv,g1,g2,g3⟩:=Pn hs r (k+1) vs us bc x2 hr.2 he hk q2
    refine ⟨bv,g1,by simpa [lb] using g2,λtl=>?_⟩
    refine ⟨?_,g3 tl⟩
    simp only [ij] at q1
    split at q1
    ·rename_i e' Kc xs Hy
     split at q1
     ·rename_i hc
      obtain ⟨rfl,rfl⟩:=hc
      simp only [Option.some.injEq] at q1;subst q1
      unfold St.at at Hy hlen
      rw [Hy] at hlen
      rw [h1] at Hy;cases Hy
      simp only [OB.row,Option.some.injEq,Prod.mk.injEq] at h2
      obtain ⟨rfl,rfl⟩:=h2
      have hlen:len=List.length xs:=hlen
      have:=iK AJ h4
      rw [hlen] at this
      cases hp:π0 (Bk true k)<;>(rw [hp] at this;exact this)
     ·cases q1
    ·cases q1
   ·cases ho
def RZ (s:MSpec) (g:Nat) (π:Pi):Pi:= λl=>if s.ptr.isSome=true/\l=Kn then some ⟨g,0,0,λb=>b=g,λb=>b=g⟩ else π l
def NL (P:Program) (s:MSpec) (fn:Func) (x:Ins.den s.ins) (w:World) (S:Nat->Prop) (π:Pi) (g:Nat) (r:CKs.den s.outs) (o:IOs.den s.ins) (a':Act) (w':World):Prop:=
 ∃(v:Value) (Qo:List Value) (ρ:Pi),a'.defers= []/\(results fn a'.tmps).run P w'= .ok v w'/\jH s w' ρ (Qo.drop s.Rc) v/\dk s π w' g Qo o/\Fh w.heap.size (λb=>Na π b\/s.gv g b) w w'/\Gf w' (cf S π ρ) π 0 s.ins o/\Eg w' (cf S π ρ) ρ 0 s.outs r Qo/\
  a9 ρ (λb=>b<w'.heap.size/\(w.heap.size<=b\/ ∃l q,l<Ag/\π l=some q/\q.Ar b))/\(∀l,(∀k,k<s.Mg->l≠Eu k)->ρ l=none)/\(∀kj∈s.keeps,qX w w' (π (Bk false kj.1)) (ρ (Eu kj.2)) (s.Ch x))
theorem Eg.zP {D:Nat->Prop} {ρ SC:Pi} : ∀(cs:List CK) (k:Nat) (x:CKs.den cs) (us:List Value),(∀j,k<=j->j<k+cs.length->SC (Eu j)=ρ (Eu j))->Eg w D ρ k cs x us->Eg w D SC k cs x us
 | [],_,_,[],_,h=>h
 | [],_,_,_::_,_,h=>h.elim
 |_::_,_,_,[],_,h=>h.elim
 |c::r,k,x,u::us,he,h=>⟨by rw [he k (Nat.le_refl _) (by simp)];exact h.1,Eg.zP r (k+1) x.2 us (λj hj hl=>he j (by omega) (by simp;omega)) h.2⟩
theorem nO {st:St} {n:Nat} {as:List AC} : ∀ {ks:List (Nat×Nat)},nN st n as ks-> ∀kj∈ks,∃l off len e te rows out p,as[kj.2]?=some (.own l off len)/\Ad st.heap l=some (.Ah e te rows out (some p))/\p.1=Bk false kj.1/\n<=p.2/\kj.1<1000
 | [],_,kj,hm=>by cases hm
 |(k,j)::r,h,kj,hm=>by
  simp only [nN] at h
  rcases List.mem_cons.1 hm with rfl|hm
  ·obtain ⟨h,_⟩:=h
   split at h
   ·rename_i l off len he
    split at h
    ·rename_i e te rows out p hl
     unfold St.at at hl
     exact ⟨l,off,len,e,te,rows,out,p,he,hl,h.1,h.2.1,by simpa using h.2.2⟩
    ·exact h.elim
   ·exact h.elim
  ·exact nO h.2 kj hm
theorem nX {st:St} : ∀(cs:List CK) (as:List AC) (x:CKs.den cs) (ls:List Nat),Ms st cs as=some (x,ls)->as.length=cs.length
 | [],[],_,_,_=>rfl
 | [],_::_,_,_,he=>by simp [Ms] at he
 |_::_,[],_,_,he=>by simp [Ms] at he
 |c::r,a::as,x,ls,he=>by
  simp only [Ms] at he
  split at he
  ·rename_i h1 h2
   simp only [List.length_cons,nX r as _ _ h2]
  ·cases he
theorem th {α β:Type} (f:α->Sem β): ∀(l:List α) (vs:List β),vs.length=l.length->(∀(i:Nat) a v,l[i]?=some a->vs[i]?=some v->(f a).run P w= .ok v w)->(l.mapM f).run P w= .ok vs w
 | [],[],_,_=>by simp
 | [],_::_,h,_=>by simp at h
 |_::_,[],h,_=>by simp at h
 |a::l,v::vs,h,hr=>by
  rw [List.mapM_cons]
  simp only [Sem.run_bind,hr 0 a v rfl rfl,Result.andThen_ok,th f l vs (by simpa using h) (λi a' v' ha hv=>hr (i+1) a' v' (by simpa using ha) (by simpa using hv)),Sem.run_pure]
theorem m9 (hT:Bt P T) (La:Gz P Γ) (hm:P.follows .mixedOrders=true) {f:FuncId} {fn:Func} (hf:P.funcs[f]?=some fn) (s:MSpec) (w:World) (S:Nat->Prop) (π:Pi) (us:List Value) (x:Ins.den s.ins)
  (r:CKs.den s.outs) (o:IOs.den s.ins) (g:Nat) (ig:List Value) (Jz:fP s w g us ig) (US:s.ptr.isSome=true->S g) (a5:Wz w (λb=>Na π b\/S b) π 0 s.ins x us) (cE:a9 π (λb=>b<w.heap.size)) (hS: ∀b,S b->b<w.heap.size/\ ¬Na π b) (zV: ∀l,Ad (Qf 0 s.ins x) l=none->π l=none) (he:GJ T Γ s fn x λz=>z=(r,o)):
  Calls P f ig.toArray w λe w'=> ∃v Qo ρ,e= .returned v/\jH s w' ρ (Qo.drop s.Rc) v/\dk s π w' g Qo o/\Fh w.heap.size (λb=>Na π b\/s.gv g b) w w'/\Gf w' (cf S π ρ) π 0 s.ins o/\Eg w' (cf S π ρ) ρ 0 s.outs r Qo/\
   a9 ρ (λb=>b<w'.heap.size/\(w.heap.size<=b\/ ∃l q,l<Ag/\π l=some q/\q.Ar b))/\(∀l,(∀k,k<s.Mg->l≠Eu k)->ρ l=none)/\(∀kj∈s.keeps,qX w w' (π (Bk false kj.1)) (ρ (Eu kj.2)) (s.Ch x)):=by
 obtain ⟨hlen,c,hb,he⟩:=he
 simp only [Bool.and_eq_true,Nat.blt_eq] at hlen
 obtain ⟨hlen,zX⟩:=hlen
 unfold pR at zX
 simp only [Bool.and_eq_true] at zX
 have PA:=zX.1
 let j0:Pi:=RZ s g π
 let Sg:Nat->Prop:= λb=>S b/\ ¬s.gv g b
 have QB: ∀b j,j<1000->Bk b j≠Kn:= λb j hj=>by cases b<;>(unfold Bk Kn;simp;omega)
 have p8: ∀b j,0<=j->j<0+s.ins.length->j0 (Bk b j)=π (Bk b j):= λb j _ hj=>if_neg λh=>QB b j (by omega) h.2
 have HL: ∀b j,0<=j->j<0+s.ins.length->π (Bk b j)=j0 (Bk b j):= λb j h1 h2=>(p8 b j h1 h2).symm
 have KL:Ad (Qf 0 s.ins x) Kn=none:=Classical.byContradiction λhn=>by
  obtain ⟨b,j,_,h2,h3⟩:=kE s.ins 0 x Kn hn
  exact QB b j (by omega) h3.symm
 have za: ∀l q,j0 l=some q->(π l=some q/\(s.ptr.isSome=true->l≠Kn))\/(s.ptr.isSome=true/\l=Kn/\q=⟨g,0,0,λb=>b=g,λb=>b=g⟩):= λl q hq=>by
  have hq:(if s.ptr.isSome=true/\l=Kn then some ⟨g,0,0,λb=>b=g,λb=>b=g⟩ else π l)=some q:=hq
  split at hq
  ·rename_i hc;exact .inr ⟨hc.1,hc.2,(Option.some.inj hq).symm⟩
  ·rename_i hc;exact .inl ⟨hq,λh1 h2=>hc ⟨h1,h2⟩⟩
 have Wb: ∀b,Na j0 b↔Na π b\/s.gv g b:= λb=>by
  constructor
  ·rintro ⟨l,q,h1,h2⟩
   rcases za l q h1 with ⟨h3,_⟩|⟨h3,h4,rfl⟩
   ·exact .inl ⟨l,q,h3,h2⟩
   ·exact .inr ⟨h3,h2⟩
  ·rintro (⟨l,q,h1,h2⟩|⟨h1,rfl⟩)
   ·refine ⟨l,q,?_,h2⟩
    show (if s.ptr.isSome=true/\l=Kn then _ else π l)=some q
    rw [if_neg]
    ·exact h1
    ·rintro ⟨_,rfl⟩
     rw [zV Kn KL] at h1;cases h1
   ·exact ⟨Kn,⟨b,0,0,λc=>c=b,λc=>c=b⟩,if_pos ⟨h1,rfl⟩,rfl⟩
 have SR: ∀b,s.gv g b->S b:= λb ⟨h1,h2⟩=>h2▸US h1
 have JR:Wz w (λb=>Na j0 b\/Sg b) j0 0 s.ins x us:=Wz.congr s.ins 0 x us p8 (Wz.Ef (λb hb=>by
  rcases hb with hb|hb
  ·rcases (Wb b).1 hb with hb|hb
   ·exact .inl hb
   ·exact .inr (SR b hb)
  ·exact .inr hb.1) s.ins 0 x us a5)
 have PH:a9 j0 (λb=>b<w.heap.size):=⟨λl q b h1 h2=>by
  rcases za l q h1 with ⟨h3,_⟩|⟨h3,h4,rfl⟩
  ·exact cE.Of l q b h3 h2
  ·exact (hS b (SR b ⟨h3,h2⟩)).1,λl l' q q' b h1 h2 h3 h4=>by
  rcases za l q h1 with ⟨h5,_⟩|⟨h5,h6,rfl⟩<;>rcases za l' q' h2 with ⟨h7,_⟩|⟨h7,h8,rfl⟩
  ·exact cE.inj l l' q q' b h5 h7 h3 h4
  ·exact absurd ⟨l,q,h5,h3⟩ (hS b (SR b ⟨h7,h4⟩)).2
  ·exact absurd ⟨l',q',h7,h4⟩ (hS b (SR b ⟨h5,h3⟩)).2
  ·rw [h6,h8]⟩
 have UT: ∀b,Sg b->b<w.heap.size/\ ¬Na j0 b:= λb hb=>⟨(hS b hb.1).1,λho=>((Wb b).1 ho).elim (hS b hb.1).2 hb.2⟩
 have xa: ∀l,Ad (iA s x) l=match Ad (Qf 0 s.ins x) l with|some b=>some b|none=>if l=Kn then s.ptr.map λp=> .var p.1 ((Sz 0 s.ins x).take p.2) else none:= λl=>by
  unfold iA
  cases hp:s.ptr with
  |none=>cases Ad (Qf 0 s.ins x) l<;>simp
  |some p=>
   simp only
   rw [iy]
   cases Ad (Qf 0 s.ins x) l with
   |some b=>rfl
   |none=>
    simp only [Ad,Option.map_some]
    by_cases e:l=Kn
    ·rw [if_pos e,if_pos e.symm]
    ·rw [if_neg e,if_neg (λh=>e h.symm)]
 let π0:Pi:= λl=>(j0 l).map full
 have un: ∀l q,π0 l=some q-> ∃q0,j0 l=some q0/\q=full q0:= λl q hq=>by
  have hq:(j0 l).map full=some q:=hq
  cases hp:j0 l with
  |none=>rw [hp] at hq;cases hq
  |some q0=>rw [hp] at hq;exact ⟨q0,rfl,(Option.some.inj hq).symm⟩
 have AA: ∀l b,Ad (Qf 0 s.ins x) l=some b->Ad (iA s x) l=some b:= λl b hb=>by rw [xa l,hb]
 have KH:Hb ⟨w,Sg,Na j0,π0⟩ w π0 (iA s x) (Sz 0 s.ins x) us:=se (λ_=>rfl) s.ins 0 x us (by omega) JR AA
 have AN:s.ptr.isSome=true->π0 Kn=some ⟨g,0,0,λb=>b=g,λb=>b=g⟩:= λhp=>by
  show (if s.ptr.isSome=true/\Kn=Kn then _ else π Kn).map full=_
  rw [if_pos ⟨hp,rfl⟩];rfl
 obtain ⟨g1,g2⟩:(Rb s (Sz 0 s.ins x)).length=ig.length/\ ∀(i:Nat) c v,(Rb s (Sz 0 s.ins x))[i]?=some c->ig[i]?=some v->Ak ⟨w,Sg,Na j0,π0⟩ w π0 (iA s x) c v:=by
  unfold fP at Jz
  cases hp:s.ptr with
  |none=>
   rw [hp] at Jz
   obtain ⟨rfl,zv⟩:=Jz
   obtain ⟨g1,g2,_,_⟩:=Vy s.Gc _ us zv KH
   rw [show Rb s (Sz 0 s.ins x)=Lf s.Gc (Sz 0 s.ins x) by unfold Rb;rw [hp]]
   exact ⟨g1,g2⟩
  |some p=>
   rw [hp] at Jz
   obtain ⟨rfl,zv,_⟩:=Jz
   obtain ⟨g1,g2,_,_⟩:=Vy s.Gc _ (us.drop p.2) zv (Hb.take p.2 KH).2
   rw [show Rb s (Sz 0 s.ins x)= .at (.Df Kn 0)::Lf s.Gc ((Sz 0 s.ins x).drop p.2) by unfold Rb;rw [hp]]
   refine ⟨by simp [g1],λi c v h1 h2=>?_⟩
   rcases i with _|i
   ·simp only [List.getElem?_cons_zero,Option.some.injEq] at h1 h2
    subst h1;subst h2
    exact ⟨_,p.1,(Sz 0 s.ins x).take p.2,by rw [xa,KL];simp [hp],AN (by rw [hp];rfl),rfl⟩
   ·exact g2 i c v (by simpa using h1) (by simpa using h2)
 have h0:Rel ⟨w,Sg,Na j0,π0⟩ {tmps:=Rb s (Sz 0 s.ins x)++List.replicate (fn.ntmps-(Rb s (Sz 0 s.ins x)).length) .undef,heap:=iA s x}
   {tmps:=ig.toArray++Array.replicate (fn.ntmps-ig.toArray.size) undef,defers:= []} w:=by
  refine ⟨π0,⟨Fh.refl _ _ _,λb hb=>UT b hb,λl q b h1 h2=>?_,λl q b h1 h2=>?_,λl l' q q' b h1 h2 h3 h4=>?_,λl _ _=>Sk.rfl' _,λl=>?_⟩,⟨by simp [g1],rfl,λt=>?_⟩⟩
  ·obtain ⟨q0,_,rfl⟩:=un l q h1;exact h2
  ·obtain ⟨q0,h3,rfl⟩:=un l q h1
   exact ⟨.inr ⟨l,q0,h3,h2⟩,PH.Of l q0 b h3 h2⟩
  ·obtain ⟨q0,h5,rfl⟩:=un l q h1
   obtain ⟨LO,h6,rfl⟩:=un l' q' h2
   exact PH.inj l l' q0 LO b h5 h6 h3 h4
  ·cases hh:Ad (Qf 0 s.ins x) l with
   |none=>
    by_cases hv:s.ptr.isSome=true/\l=Kn
    ·obtain ⟨MZ,rfl⟩:=hv
     obtain ⟨p,hp⟩:=Option.isSome_iff_exists.1 MZ
     refine Cr.Hl (b:= .var p.1 ((Sz 0 s.ins x).take p.2)) ?_ (by rw [xa,hh];simp [hp])
     unfold fP at Jz
     rw [hp] at Jz
     obtain ⟨_,_,h1,h2,h3⟩:=Jz
     rw [AN MZ]
     exact ⟨_,rfl,rfl,_,h2,Hb.to (Hb.take p.2 KH).1 h3⟩
    ·refine Cr.Nm ?_ ?_
     ·show (if s.ptr.isSome=true/\l=Kn then _ else π l).map full=none
      rw [if_neg hv,zV l hh];rfl
     ·rw [xa,hh]
      simp only
      split
      ·rename_i e
       cases hp:s.ptr with
       |none=>rfl
       |some p=>exact absurd ⟨by rw [hp];rfl,e⟩ hv
      ·rfl
   |some b=>exact Cr.Hl (dK (π0:=j0) (λb hb=>by
    rcases hb with ⟨l,q,h1,h2⟩|hb|⟨hb,_⟩
    ·obtain ⟨q0,h3,rfl⟩:=un l q h1;exact .inl ⟨l,q0,h3,h2⟩
    ·exact .inr hb
    ·cases hb) rfl (λ_=>rfl) s.ins 0 x us JR l b hh) (AA l b hh)
  ·show Ak _ w _ _ ((Rb s (Sz 0 s.ins x)++List.replicate _ AV.undef).getD t .undef) ((ig.toArray++Array.replicate _ undef).getD t undef)
   by_cases ht:t<ig.length
   ·rw [List.getD_eq_getElem?_getD,List.getElem?_append_left (by omega),<-List.getD_eq_getElem?_getD]
    rw [Array.getD_eq_getD_getElem?,Array.getElem?_append_left (by simpa using ht)]
    have:=g2 t _ _ (List.getElem?_eq_getElem (by omega)) (List.getElem?_eq_getElem ht)
    simpa [List.getD_eq_getElem?_getD,List.getElem?_eq_getElem ht,List.getElem?_eq_getElem (show t<(Rb s (Sz 0 s.ins x)).length by omega)] using this
   ·have:(Rb s (Sz 0 s.ins x)++List.replicate (fn.ntmps-(Rb s (Sz 0 s.ins x)).length) AV.undef).getD t .undef= .undef:=by
     rw [List.getD_eq_getElem?_getD,List.getElem?_append_right (by omega)]
     rw [List.getElem?_replicate]
     split<;>rfl
    rw [this];trivial
 have fin: ∀(st:St) (a':Act) (w':World),zC T s fn x st (λz=>z=(r,o))->Rel ⟨w,Sg,Na j0,π0⟩ st a' w'->NL P s fn x w S π g r o a' w':=by
  intro st a' w' jd AH
  obtain ⟨Tq,h'⟩:=AH
  have HR:Ag<=Kn:=by unfold Ag Kn;omega
  obtain ⟨bc,ix,XR,hbc⟩: ∃bc,c8 T s fn x st bc (λz=>z=(r,o))/\(s.ptr.isSome=true-> ∃b,Ad st.heap Kn=some b/\b.row=none)/\
    (Ih st 0 s.ins=some o-> ∃bv,Hb ⟨w,Sg,Na j0,π0⟩ w' Tq st.heap bc bv/\bv.length=s.Rc/\ ∀tl,dk s π w' g (bv++tl) o):=by
   unfold zC at jd
   cases hp:s.ptr with
   |none=>
    rw [hp] at jd
    exact ⟨[],jd,λh=>by simp at h,λ_=>⟨[],trivial,by simp [MSpec.Rc,hp],λtl=>by simp [dk,hp]⟩⟩
   |some p=>
    rw [hp] at jd
    obtain ⟨vs,cs,h1,h2,h3,h4,h5⟩:=jd
    unfold St.at at h1
    refine ⟨cs,h5,λ_=>⟨_,h1,rfl⟩,λp6=>?_⟩
    obtain ⟨q,k1,k2,cur,k3,k4⟩:=(h'.1.heap Kn).Kz h1
    have ZW:Sk (π0 Kn) (Tq Kn):=h'.1.aX Kn HR (by rw [h1];simp)
    rw [AN (by rw [hp];rfl),k1] at ZW
    have PK:g=q.g:=ZW.1
    obtain ⟨bv,g1,g2,g3⟩:=Pn (π0:=j0) (λk hk=>h'.1.aX _ (Nat.le_of_not_lt (Sa k)) hk) s.ins 0 vs cur.toList cs o (Hb.of k4) h3 h4 p6
    refine ⟨bv,g1,by rw [g2,h2];simp [MSpec.Rc,hp],λtl=>?_⟩
    unfold dk
    rw [hp]
    refine ⟨cur.toList,by rw [PK];simpa using k3,λu hu=>?_,Bs.congr s.ins 0 o p.2 _ _ HL (h2▸g3 tl)⟩
    obtain ⟨i,hi,rfl⟩:=List.mem_iff_getElem.1 hu
    have hl:=k4.1
    obtain ⟨u',h6,h7,_⟩:=k4.2 i (vs[i]'(by omega)) (List.getElem?_eq_getElem _)
    rw [List.getElem?_eq_getElem hi] at h6
    rw [Option.some.inj h6];exact h7
  unfold c8 at ix
  split at ix
  ·exact ix.elim
  rename_i l hl
  split at ix
  ·exact ix.elim
  rename_i as ml aJ
  split at ix
  rotate_left
  ·exact ix.elim
  rename_i r' ls o' uS nB
  obtain ⟨Eo,nG,AI⟩:=ix
  simp only [Bool.and_eq_true,Nat.blt_eq] at Eo
  obtain ⟨⟨⟨zt,Abh⟩,ZS⟩,OW⟩:=Eo
  simp only [Prod.mk.injEq] at AI
  obtain ⟨rfl,rfl⟩:=AI
  obtain ⟨bv,VF,VG,VE⟩:=hbc nB
  have uQ:=Oy zt
  obtain ⟨n1,n2,n3⟩:=List.nodup_append.1 uQ
  obtain ⟨m1,m2,m3⟩:=List.nodup_append.1 n1
  obtain ⟨vs,v1,v2,v3,v4⟩:=Pb hT h' _ _ hl
  have EY:fn.results=fn.results.toList.toArray:=Array.toArray_toList.symm
  have My: ∀v,(if h:vs.toArray.size=1 then vs.toArray[0] else .tuple vs.toArray)=v->(results fn a'.tmps).run P w'= .ok v w':=by
   intro v hv
   rw [Yg,EY,List.mapM_toArray]
   simp only [map_eq_pure_bind,bind_assoc,pure_bind]
   simp only [Sem.run_bind,th (vZ a'.tmps) _ vs v1 v3,Result.andThen_ok,Sem.run_pure]
   rw [hv]
  obtain ⟨mY,v,qm,XQ,hv,HT⟩: ∃mY v qm,Hb ⟨w,Sg,Na j0,π0⟩ w' Tq st.heap as mY/\(results fn a'.tmps).run P w'= .ok v w'/\
    ((s.rp=none/\ml= []/\qm=none/\BZ s.Dp s.Fg mY v/\Uj s.Fg mY)\/
     ∃tid m q,s.rp=some tid/\ml= [m]/\m<Ag/\qm=some q/\Tq m=some q/\q.Ar q.g/\w'.heap[q.g]?=some (.cells mY.toArray tid (0,0))/\(∀u∈mY,u.oneCell'=true)/\v= .pointer (some ⟨q.g,0,none⟩)):=by
   unfold vY at aJ
   split at aJ
   ·rename_i ua
    split at aJ
    rotate_left
    ·cases aJ
    rename_i hmul
    cases zw:ungroup s.Fg l with
    |none=>rw [zw] at aJ;cases aJ
    |some as'=>
     rw [zw] at aJ
     simp only [Option.map_some,Option.some.injEq,Prod.mk.injEq] at aJ
     obtain ⟨rfl,rfl⟩:=aJ
     obtain ⟨mY,e1,e2,e3⟩:=Un s.Fg l vs as' (by omega) v4 zw
     have hv: ∃v,(results fn a'.tmps).run P w'= .ok v w'/\BZ s.Dp s.Fg mY v:=by
      unfold BZ
      rw [<-e1,hmul]
      rcases Nat.lt_or_ge 1 l.length with h1|h1
      ·have zT:Nat.blt 1 l.length=true:=by simpa using h1
       simp only [zT,if_true]
       refine ⟨.tuple vs.toArray,My _ ?_,rfl⟩
       rw [dif_neg (by simp;omega)]
      ·have zT:Nat.blt 1 l.length=false:=by rw [<-Bool.not_eq_true];simpa using h1
       simp only [zT,Bool.false_eq_true,if_false]
       rcases vs with _|⟨v,_|⟨v',vs⟩⟩
       ·exact ⟨_,My _ (by simp;rfl), .inr rfl⟩
       ·exact ⟨v,My _ (by simp), .inl rfl⟩
       ·exfalso;simp only [List.length_cons] at v1;omega
     obtain ⟨v,hv1,hv2⟩:=hv
     exact ⟨mY,v,none,e3,hv1, .inl ⟨ua,rfl,rfl,hv2,e2⟩⟩
   ·rename_i tid ua
    split at aJ
    rotate_left
    ·cases aJ
    rename_i m i
    split at aJ
    rotate_left
    ·cases aJ
    rename_i Mk qT hm
    split at aJ
    rotate_left
    ·cases aJ
    rename_i hc
    obtain ⟨rfl,rfl,DN⟩:=hc
    simp only [Option.some.injEq,Prod.mk.injEq] at aJ
    obtain ⟨rfl,rfl⟩:=aJ
    unfold St.at at hm
    rcases vs with _|⟨v,_|⟨v',vs⟩⟩
    ·exfalso;simp only [List.length_cons,List.length_nil] at v1 v2;omega
    ·obtain ⟨q,Adh,vs2,q1,q2,q3⟩:=v4 0 _ v rfl rfl
     rw [hm] at q1;cases q1
     obtain ⟨q',k1,k2,cur,k3,k4⟩:=(h'.1.heap m).Kz hm
     rw [q2] at k1;cases k1
     refine ⟨cur.toList,v,some q,Hb.of k4,My _ (by simp), .inr ⟨_,m,q,ua,rfl,by simpa using DN,rfl,q2,k2,by simpa using k3,λu hu=>?_,q3⟩⟩
     obtain ⟨i,hi,rfl⟩:=List.mem_iff_getElem.1 hu
     have hl:=k4.1
     obtain ⟨u',h6,h7,_⟩:=k4.2 i (qT[i]'(by omega)) (List.getElem?_eq_getElem _)
     rw [List.getElem?_eq_getElem hi] at h6
     rw [Option.some.inj h6];exact h7
    ·exfalso;simp only [List.length_cons,List.length_nil] at v1 v2;omega
  obtain ⟨qU,p1,p2,p3,p4,p5⟩:=nY h'.1 s.outs 0 (bc++as) (bv++mY) r' ls (VF.append XQ) uS m2
  obtain ⟨TK,io2⟩:=Mc (π0:=j0) h'.1 (λ_=>rfl) s.ins 0 x us o' JR nB
  have OL:(bv++mY).drop s.Rc=mY:=by rw [<-VG];simp
  let ρ:Pi:= λl0=>if l0=Eu s.outs.length then qm else qU l0
  have KS:ρ (Eu s.outs.length)=qm:=if_pos rfl
  have QM: ∀l0,l0≠Eu s.outs.length->ρ l0=qU l0:= λl0 h=>if_neg h
  have QL: ∀j,j<s.outs.length->ρ (Eu j)=qU (Eu j):= λj hj=>QM _ (by unfold Eu;omega)
  have lW: ∀l0 q,ρ l0=some q->(l0=Eu s.outs.length/\qm=some q)\/(l0≠Eu s.outs.length/\qU l0=some q):= λl0 q h=>by
   by_cases e:l0=Eu s.outs.length
   ·subst e;rw [KS] at h;exact .inl ⟨rfl,h⟩
   ·rw [QM l0 e] at h;exact .inr ⟨e,h⟩
  have PM: ∀q,qm=some q-> ∃m,ml= [m]/\m<Ag/\Tq m=some q:= λq hq=>by
   rcases HT with ⟨_,_,h1,_⟩|⟨_,m,q',_,h1,h2,h3,h4,_⟩
   ·rw [h1] at hq;cases hq
   ·rw [h3] at hq;cases hq;exact ⟨m,h1,h2,h4⟩
  have TS: ∀l0 q b,ρ l0=some q->q.Ar b-> ∃l1∈ml++ls,∃p,Tq l1=some p/\p.cl b/\((s.outs.all λc=>!c.IC)=true->p.Ar b)/\((l1∈ls)\/l1<Ag):= λl0 q b h1 h2=>by
   rcases lW l0 q h1 with ⟨_,h3⟩|⟨_,h3⟩
   ·obtain ⟨m,e1,e2,e3⟩:=PM q h3
    exact ⟨m,by rw [e1];simp,q,e3,h'.1.sub m q b e3 h2,λ_=>h2, .inr e2⟩
   ·obtain ⟨l1,g1,p,g2,g3,g4⟩:=p3 l0 q b h3 h2
    exact ⟨l1,List.mem_append_right _ g1,p,g2,g3,g4, .inl g1⟩
  have p4': ∀l0 l1 q q' b,ρ l0=some q->ρ l1=some q'->q.Ar b->q'.Ar b->l0=l1:= λl0 l1 q q' b h1 h2 h3 h4=>by
   have rE: ∀l0 q q' b,qU l0=some q->qm=some q'->q.Ar b->q'.Ar b->False:= λl0 q q' b h1 h2 h3 h4=>by
    obtain ⟨m,e1,e2,e3⟩:=PM q' h2
    obtain ⟨l1,g1,p,g2,g3,_⟩:=p3 l0 q b h1 h3
    have:=h'.1.inj m l1 q' p b e3 g2 (h'.1.sub m q' b e3 h4) g3
    exact m3 m (by rw [e1];simp) l1 g1 this
   rcases lW l0 q h1 with ⟨e1,h5⟩|⟨e1,h5⟩<;>rcases lW l1 q' h2 with ⟨e2,h6⟩|⟨e2,h6⟩
   ·rw [e1,e2]
   ·exact (rE l1 q' q b h6 h5 h4 h3).elim
   ·exact (rE l0 q q' b h5 h6 h3 h4).elim
   ·exact p4 l0 l1 q q' b h5 h6 h3 h4
  have xf: ∀l0 q,Ag<=l0->j0 l0=some q->Ad st.heap l0≠none/\(l0∈Ix 0 s.ins\/ ∃b,Ad st.heap l0=some b/\b.row=none):= λl0 q h1 h2=>by
   rcases za l0 q h2 with ⟨h3,_⟩|⟨h3,rfl,_⟩
   ·have p6:=nL s.ins 0 x l0 PA (by omega) (λhnn=>by rw [zV l0 hnn] at h3;cases h3) (by omega)
    exact ⟨io2 l0 p6, .inl p6⟩
   ·obtain ⟨b,h4,h5⟩:=XR h3
    exact ⟨by rw [h4];simp, .inr ⟨b,h4,h5⟩⟩
  have YW:(s.outs.all λc=>!c.IC)=true-> ∀b,cf Sg j0 ρ b->Na Tq b\/Sg b:=by
   intro hx b hb
   rcases hb with hb|⟨l0,q,h1,h2,h3⟩|⟨l0,q,h1,h2⟩
   ·exact .inr hb
   ·have hs:=h'.1.aX l0 h1 (xf l0 q h1 h2).1
    have hs:Sk ((j0 l0).map full) (Tq l0):=hs
    rw [h2] at hs
    cases qQ:Tq l0 with
    |none=>rw [qQ] at hs;exact hs.elim
    |some q1=>rw [qQ] at hs;exact .inl ⟨l0,q1,qQ,(hs.2.2.2 b).1 h3⟩
   ·obtain ⟨m,_,p,TC,_,JZ,_⟩:=TS l0 q b h1 h2
    exact .inl ⟨m,p,TC,JZ hx⟩
  have YV: ∀b,cf S π ρ b->cf Sg j0 ρ b:= λb hb=>by
   rcases hb with hb|⟨l0,q,h1,h2,h3⟩|hb
   ·by_cases zq:s.gv g b
    ·obtain ⟨MZ,rfl⟩:=zq
     exact .inr (.inl ⟨Kn,_,HR,if_pos ⟨MZ,rfl⟩,rfl⟩)
    ·exact .inl ⟨hb,zq⟩
   ·refine .inr (.inl ⟨l0,q,h1,?_,h3⟩)
    show (if s.ptr.isSome=true/\l0=Kn then _ else π l0)=some q
    rw [if_neg]
    ·exact h2
    ·rintro ⟨_,rfl⟩
     rw [zV Kn KL] at h2;cases h2
   ·exact .inr (.inr hb)
  have DI:s.flat=true\/(s.outs.all λc=>!c.IC)=true:=by unfold MSpec.BI at OW;simpa only [Bool.or_eq_true] using OW
  have TK:Gf w' (cf S π ρ) π 0 s.ins o':=by
   refine Gf.congr s.ins 0 o' HL ?_
   rcases DI with hf|hf
   ·unfold MSpec.flat at hf
    simp only [Bool.and_eq_true] at hf
    exact Gf.any s.ins 0 o' hf.2 TK
   ·exact Gf.Ef (λb hb=>YW hf b (YV b hb)) s.ins 0 o' TK
  have p1:Eg w' (cf S π ρ) ρ 0 s.outs r' (bv++mY):=by
   have p1:Eg w' (λb=>Na Tq b\/Sg b) ρ 0 s.outs r' (bv++mY):=Eg.zP s.outs 0 r' _ (λj _ hj=>QL j (by omega)) p1
   rcases DI with hf|hf
   ·unfold MSpec.flat at hf
    simp only [Bool.and_eq_true] at hf
    exact Eg.any s.outs 0 r' (bv++mY) hf.1 p1
   ·exact Eg.Ef (λb hb=>YW hf b (YV b hb)) s.outs 0 r' (bv++mY) p1
  refine ⟨v,bv++mY,ρ,h'.2.defers,hv,?_,VE mY,⟨h'.1.below.os,h'.1.below.tape,h'.1.below.output,h'.1.below.size,λk hk hn=>h'.1.below.block k hk λho=>hn ((Wb k).1 ho)⟩,TK,p1,⟨λl0 q b h1 h2=>?_,p4'⟩,λl0 JY=>?_,λkj zr=>?_⟩
  ·rw [OL]
   unfold jH
   rcases HT with ⟨h1,_,_,h2⟩|⟨tid,m,q,h1,_,_,h3,_,h4,h5,h6,h7⟩
   ·rw [h1];exact h2
   ·rw [h1];exact ⟨q,by rw [KS,h3],h4,h5,h6,h7⟩
  ·obtain ⟨m,MU,p,TC,ZO,_,JZ⟩:=TS l0 q b h1 h2
   obtain ⟨k1,k2⟩:=h'.1.place m p b TC ZO
   refine ⟨k2,k1.imp id λ⟨c0,q0,h5,h6⟩=>?_⟩
   have Gp:c0<Ag:=Classical.byContradiction λhn=>by
    obtain ⟨Er,p6⟩:=xf c0 q0 (by omega) h5
    have hs:=h'.1.aX c0 (by omega) Er
    have hs:Sk ((j0 c0).map full) (Tq c0):=hs
    rw [h5] at hs
    cases qQ:Tq c0 with
    |none=>rw [qQ] at hs;exact hs.elim
    |some q1=>
     rw [qQ] at hs
     have SQ:q1.Ar b:=(hs.2.2.2 b).1 h6
     have:=h'.1.inj c0 m q1 p b qQ TC (h'.1.sub c0 q1 b qQ SQ) ZO
     subst this
     rcases JZ with JZ|JZ
     ·rcases p6 with p6|⟨b1,zT,VD⟩
      ·exact n3 c0 MU c0 p6 rfl
      ·obtain ⟨b2,SM,hb4⟩:=kX s.outs _ _ _ uS c0 JZ
       rw [zT] at SM;cases SM
       exact hb4 VD
     ·exact hn JZ
   refine ⟨c0,q0,Gp,?_,h6⟩
   rcases za c0 q0 h5 with ⟨h7,_⟩|⟨_,h7,_⟩
   ·exact h7
   ·omega
  ·cases hp:ρ l0 with
   |none=>rfl
   |some q=>
    rcases lW l0 q hp with ⟨e,h3⟩|⟨_,h3⟩
    ·refine absurd e (JY _ ?_)
     rcases HT with ⟨_,_,h4,_⟩|⟨tid,m,q',h4,_⟩
     ·rw [h4] at h3;cases h3
     ·unfold MSpec.Mg;rw [h4];simp
    ·obtain ⟨j,_,j2,j3⟩:=p2 l0 q h3
     exact absurd j3 (JY j (by unfold MSpec.Mg;omega))
  ·obtain ⟨l0,off,len,e,te,rows,out,p,q1,q2,q3,q4,q5⟩:=nO nG kj zr
   have hj:kj.2<s.outs.length:=by
    rw [<-nX s.outs _ _ _ uS]
    exact (List.getElem?_eq_some_iff.1 q1).1
   have e1:=p5 kj.2 l0 off len e te rows out (some p) q1 q2
   rw [Nat.zero_add] at e1
   rw [QL _ hj,e1]
   have hk:=((h'.1.heap l0).Kz q2).2
   obtain ⟨l1,n1⟩:=p
   simp only [KeptAt] at hk
   dsimp only at q3 q4
   subst q3
   have y0:π0 (Bk false kj.1)=(π (Bk false kj.1)).map full:=by
    show (if s.ptr.isSome=true/\Bk false kj.1=Kn then _ else π (Bk false kj.1)).map full=_
    rw [if_neg λh=>QB false kj.1 q5 h.2]
   rw [y0] at hk
   unfold qX
   cases hp:π (Bk false kj.1) with
   |none=>
    rw [hp] at hk
    cases qQ:Tq l0 with
    |none=>trivial
    |some q=>rw [qQ] at hk;exact hk.elim
   |some q0=>
    rw [hp] at hk
    cases qQ:Tq l0 with
    |none=>rw [qQ] at hk;exact hk.elim
    |some q=>
     rw [qQ] at hk
     obtain ⟨k1,k2,k3,k4⟩:=hk
     exact ⟨k1,k2,k3,λj hj hc=>k4 j (by omega) hc⟩
 refine calls_of_wp hf hb ?_
 refine (lg hT La hm he _ w _ h0 λe st a' w' ⟨Er,jd⟩ h'=>?_).1
 obtain ⟨v,Qo,ρ,p1,p2,p3⟩:=fin st a' w' jd h'
 cases e with
 |normal=>exact ⟨p1,v,p2,v,Qo,ρ,rfl,p3⟩
 |ret=>exact ⟨p1,v,p2,v,Qo,ρ,rfl,p3⟩
 |exit id=>exact absurd rfl (Er id)
end
end Go.Proofs.Ytjbdmibbbpdnnaa
