/-
  Part 27 of the proof that the statement FnExactPhaseOneWord holds.
-/
import Derived.Test.YtjbdmibbbpdnnaaCPhaseOneWord25
namespace Go.Proofs.Ytjbdmibbbpdnnaa
open Go.RowKit
section
variable {P:Program} {T:Tab} {Γ:Env} {X:Ctx} {w w':World} {π:Pi} {H:List (Nat×OB)}
theorem mP: ∀(cs:List (Bool×CK)) (k:Nat) (x:Ins.den cs) (l:Nat),Ae (Sf k cs x) l≠none-> ∃b j,k<=j/\j<k+cs.length/\l=Bq b j
 | [],_,_,_,h=>absurd rfl h
 |p::r,k,x,l,h=>by
  simp only [Sf] at h
  by_cases e:l=Bq p.1 k
  ·exact ⟨p.1,k,Nat.le_refl _,by simp,e⟩
  ·have:Ae (Sf (k+1) r x.2) l≠none:=by
    cases hc:dP (Bq p.1 k) p.2 x.1 with
    |none=>rw [hc] at h;exact h
    |some b=>rw [hc] at h;simpa only [bL,Ae,if_neg (Ne.symm e)] using h
   obtain ⟨b,j,h1,h2,h3⟩:=mP r (k+1) x.2 l this
   exact ⟨b,j,by omega,by simp;omega,h3⟩
theorem DC {p:Bool×CK} {r:List (Bool×CK)} {k:Nat} {x:Ins.den (p::r)} (hk:k+(r.length+1)<100000) {l:Nat} {b:OB} (h:Ae (Sf (k+1) r x.2) l=some b):Ae (Sf k (p::r) x) l=some b:=by
 obtain ⟨b',j,h1,h2,rfl⟩:=mP r (k+1) x.2 l (by rw [h];simp)
 simp only [Sf]
 cases dP (Bq p.1 k) p.2 x.1 with
 |none=>exact h
 |some c=>simp only [bL,Ae];rw [if_neg (BO (by omega) (by omega) (by omega))];exact h
theorem HK {D:Nat->Prop} (hD: ∀b,Be X.w0.heap.size X.Sc π false b->D b) (US:X.w0=w) {l:Nat} {r:Option Real} (Yg:X.cz l=r.map full) {u:Value} {c:CK} {x:c.den} (h:Ze w D r u c x) {b:OB} (hb:dP l c x=some b):Au X w π H (r.map full) b:=by
 have Sa: ∀ {e:Ty} {es:List Value} {y:e.den},Cells w D e es y->Cells w (Be X.w0.heap.size X.Sc π false) e es y:= λ {e es y} h=>Cells.Cr (Nat.le_refl _) (λ_ _ _=>rfl) (λb _ hb=>hD b hb) e es y h
 cases c with
 |Ew τ=>cases hb
 |row e te=>
  simp only [dP,Option.some.injEq] at hb;subst hb
  obtain ⟨_,h⟩:=h
  simp only [aL] at h
  simp only [Au,Fl]
  cases r with
  |none=>exact h
  |some q=>
   obtain ⟨k1,cu,ti,k2,k3,k4,k5,k6⟩:=h
   exact ⟨⟨k1.1,k1.2,λh=>by cases h⟩,cu,ti,k2,k3,k4,k5,λi y hy=>by
    obtain ⟨es,g1,g2,g3⟩:=k6 i y hy
    exact ⟨es,g1,g2,Sa g3⟩,λh=>by cases h⟩
 |Dt e te=>
  simp only [dP,Option.some.injEq] at hb;subst hb
  cases r<;>exact h.2
 |part e te=>
  simp only [dP,Option.some.injEq] at hb;subst hb
  obtain ⟨_,hf,h⟩:=h
  simp only [Au,Fl]
  cases r with
  |none=>exact h
  |some q=>
   obtain ⟨k1,cu,ti,k2,k3,k4,k5,k6⟩:=h
   exact ⟨⟨k1.1,k1.2,λh=>by cases h⟩,cu,ti,k2,k3,k4,k5,λi y hy=>by
    obtain ⟨es,g1,g2,g3⟩:=k6 i y hy
    exact ⟨es,g1,g2,Sa g3⟩,λh=>by cases h⟩
 |Ak e te kp=>
  simp only [dP,Option.some.injEq] at hb;subst hb
  have h2:Sz w D r e x none:=h.2
  have h3:=Sz.Ev h2 hD
  refine ⟨by cases r<;>exact h3,?_⟩
  cases kp with
  |false=>trivial
  |true=>
   simp only [if_true,KeptAt]
   rw [Yg]
   cases r with
   |none=>trivial
   |some q=>exact ⟨rfl,rfl,rfl,λj _ _=>by rw [US]⟩
theorem fE {D:Nat->Prop} (hD: ∀b,Be X.w0.heap.size X.Sc π false b->D b) (US:X.w0=w) {π0:Pi} (Yg: ∀l,X.cz l=(π0 l).map full): ∀(cs:List (Bool×CK)) (k:Nat) (x:Ins.den cs) (us:List Value),Zf w D π0 k cs x us-> ∀l b,Ae (Sf k cs x) l=some b->Au X w π H ((π0 l).map full) b
 | [],_,_,_,_,_,_,h=>by cases h
 |_::_,_,_,[],h,_,_,_=>h.elim
 |p::r,k,x,u::us,h,l,b,hb=>by
  simp only [Sf] at hb
  cases hc:dP (Bq p.1 k) p.2 x.1 with
  |none=>rw [hc] at hb;exact fE hD US Yg r (k+1) x.2 us h.2 l b hb
  |some c=>
   rw [hc] at hb
   simp only [bL,Ae] at hb
   split at hb
   ·rename_i e;subst e
    simp only [Option.some.injEq] at hb;subst hb
    exact HK hD US (Yg _) h.1 hc
   ·exact fE hD US Yg r (k+1) x.2 us h.2 l b hb
theorem vM {S:Nat->Prop} {π0:Pi} {gv:Nat->Prop} {cz:Pi} (Yf: ∀l,π l=(π0 l).map full): ∀(cs:List (Bool×CK)) (k:Nat) (x:Ins.den cs) (us:List Value),k+cs.length<100000->Zf w (λb=>Oi π0 b\/S b) π0 k cs x us->(∀l b,Ae (Sf k cs x) l=some b->Ae H l=some b)->
  Hy ⟨w,S,gv,cz⟩ w π H (Ux k cs x) us
 | [],_,_,[],_,_,_=>trivial
 | [],_,_,_::_,_,h,_=>h.elim
 |_::_,_,_,[],_,h,_=>h.elim
 |p::r,k,x,u::us,hk,h,hH=>by
  simp only [List.length_cons] at hk
  refine ⟨?_,vM Yf r (k+1) x.2 us (by omega) h.2 λl b hb=>hH l b (DC hk hb)⟩
  have h1:=h.1
  have hh: ∀b,dP (Bq p.1 k) p.2 x.1=some b->Ae H (Bq p.1 k)=some b:= λb hb=>hH _ b (by simp only [Sf];rw [hb];simp [bL,Ae])
  have ca:=Yf (Bq p.1 k)
  obtain ⟨io,c⟩:=p
  dsimp only at h1 hh ca⊢
  generalize x.1=y at*
  cases c with
  |Ew τ=>
   show Bd w _ τ u y
   cases hf:τ.flat with
   |true=>exact Bd.flat hf h1.2
   |false=>
    refine h1.2.Ev λb _ hb=>?_
    rcases hb with ⟨l,q,h3,h4⟩|hb|⟨hb,_⟩
    ·rw [Yf l] at h3
     cases hp:π0 l with
     |none=>rw [hp] at h3;cases h3
     |some q0=>rw [hp] at h3;simp only [Option.map_some,Option.some.injEq] at h3;subst h3;exact .inl ⟨l,q0,hp,h4⟩
    ·exact .inr hb
    ·cases hb
  |row e te=>exact ⟨_,e.size,List.length y,hh _ rfl,rfl,by simp,by rw [ca];exact Sl h1.1⟩
  |Dt e te=>exact ⟨_,e.size,List.length y,hh _ rfl,rfl,by simp,by rw [ca];exact Sl h1.1⟩
  |part e te=>exact ⟨_,e.size,List.length y.1,hh _ rfl,rfl,h1.1.2,by rw [ca];exact Sl h1.1.1⟩
  |Ak e te kp=>exact ⟨_,1,List.length y,hh _ rfl,rfl,by simp,by rw [ca];exact Sl h1.1⟩
theorem jy {p:Real} {s off len:Nat} {u:Value} {f:Nat->Prop} (h:Dv (some p) s off len u):Dv (some ⟨p.g,p.o+off,p.cap-off,f,f⟩) s 0 len u:=by
 obtain ⟨ad,h1,h2,h3⟩:=h
 exact ⟨ad,h1,by dsimp only;omega,λh0=>by dsimp only at h0;simpa using h3 (by omega)⟩
theorem nw {α:Type} {xs:List α} {off len i:Nat} {x:α} (h:((xs.drop off).take len)[i]?=some x):xs[off+i]?=some x:=by
 rw [List.getElem?_take] at h
 split at h
 ·rw [List.getElem?_drop] at h;exact h
 ·cases h
theorem Qc.part {P:Nat->Prop} {g o:Nat} {cur:Array Value} {e:Ty} {xs:List e.den} (off len:Nat) (h:Qc w P g o cur e xs):Qc w P g (o+off) cur e ((xs.drop off).take len):=by
 obtain ⟨Fs,t1,t2,t3,t4⟩:=h
 refine ⟨(Fs.drop off).take len,by simp [t1],List.nodup_cons.2 ⟨λhm=>(List.nodup_cons.1 t2).1 (Lr off len _ hm),fN off len (List.nodup_cons.1 t2).2⟩,λb hb=>t3 b (Lr off len b hb),λi x F hx hF=>?_⟩
 obtain ⟨es,k1,k2,k3⟩:=t4 (off+i) x F (nw hx) (nw hF)
 exact ⟨es,k1,λj u hu=>by rw [Nat.add_assoc o off i];exact k2 j u hu,k3⟩
theorem DW {st:St} (h:Hw X w π st.heap) {c:CK} (hg: ∀e te kp,c≠ .Ak e te kp) {a:AC} {u:Value} (hu:Dx X w π st.heap a u) {x:c.den} {ls:List Nat} (he:dS st c a=some (x,ls)):
  ∃r,Ze w (λb=>Oi π b\/X.Sc b) r u c x/\ ∀q,r=some q-> ∃l p,ls= [l]/\π l=some p/\(∀b,q.Ay b->p.cl b)/\(c.SG=false-> ∀b,q.Ay b->p.Ay b):=by
 have HY: ∀ {f:Bool} (b:Nat),(Oi π b\/X.Sc b)->Be X.w0.heap.size X.Sc π f b:= λb h=>h.imp id .inl
 cases c with
 |Ew τ=>
  simp only [dS] at he
  split at he
  ·rename_i hf
   cases hv:Bm st τ a with
   |none=>rw [hv] at he;cases he
   |some p=>
    obtain ⟨fr,y⟩:=p
    rw [hv] at he
    simp only [Option.map_some,Option.some.injEq,Prod.mk.injEq] at he
    obtain ⟨rfl,rfl⟩:=he
    refine ⟨none,⟨rfl,?_⟩,λq hq=>by cases hq⟩
    have Ev: ∀f,Bd w (Be X.w0.heap.size X.Sc π f) τ u y->Bd w (λb=>Oi π b\/X.Sc b) τ u y:= λf hr=>hr.Ev λk _ hk=>HY k hk
    cases a with
    |data f Iy z=>
     rw [Ip] at hv
     split at hv
     ·rename_i ht;subst ht
      simp only [Option.some.injEq,Prod.mk.injEq] at hv
      obtain ⟨_,rfl⟩:=hv
      exact Ev f hu
     ·have Qn:τ.Ac=false:=by unfold bO at hv;split at hv<;>first|rfl|cases hv
      exact Ev _ ⟨[u],Wu hv hu,by simp [Ar,Qn]⟩
    |Hp=>
     have hu:u= .slice none 0 0:=hu
     subst hu
     cases τ<;>simp only [Bm,Option.some.injEq,Prod.mk.injEq,reduceCtorEq] at hv
     ·obtain ⟨_,rfl⟩:=hv;exact ⟨[_],⟨none,0,0,rfl,rfl,Nat.le_refl _, .inl rfl⟩,rfl⟩
     ·obtain ⟨_,rfl⟩:=hv;exact ⟨[_], .inl ⟨rfl,0,rfl⟩,rfl⟩
    |Qs=>
     have hu:u= .pointer none:=hu
     subst hu
     cases τ<;>simp only [Bm,Option.some.injEq,Prod.mk.injEq,reduceCtorEq] at hv
     obtain ⟨_,rfl⟩:=hv;exact ⟨[_], .inl ⟨rfl,rfl⟩,rfl⟩
    |_=>cases τ<;>simp [AC.settled,Ty.flat,Bm] at hf hv
  ·cases he
 |row e te=>
  cases a<;>simp only [dS] at he<;>try (cases he;done)
  ·simp only [Option.some.injEq,Prod.mk.injEq] at he
   obtain ⟨rfl,rfl⟩:=he
   have hu:u= .slice none 0 0:=hu
   exact ⟨none,⟨⟨hu,rfl,rfl⟩,rfl⟩,λq hq=>by cases hq⟩
  ·rename_i l off len
   split at he
   ·rename_i fr tr e' Lc xs hl
    split at he
    ·rename_i hc
     obtain ⟨rfl,rfl⟩:=hc
     simp only [Option.some.injEq,Prod.mk.injEq] at he
     obtain ⟨rfl,rfl⟩:=he
     unfold St.at at hl
     obtain ⟨h1,h2⟩:=Jc hu hl
     have hb:=(h.heap l).Ma hl
     simp only [Au,Fl] at hb
     have hlen:((xs.drop off).take len).length=len:=by simp;omega
     cases hp:π l with
     |none=>
      rw [hp] at h2 hb
      obtain ⟨rfl,rfl,rfl⟩:=h2
      exact ⟨none,⟨⟨rfl,rfl,by simp⟩,by show (xs.drop 0).take 0= [];simp⟩,λq hq=>by cases hq⟩
     |some p=>
      rw [hp] at h2 hb
      obtain ⟨k1,cur,ti,k2,k3,k4,k5,k6,_⟩:=hb
      have ho:=h2
      obtain ⟨ad,_,mF,_⟩:=h2
      refine ⟨some ⟨p.g,p.o+off,p.cap-off,p.Ay,p.Ay⟩,⟨by rw [hlen];exact jy ho,⟨k1.1,k1.2.1⟩,cur,ti,k2,by rw [k3];congr 1;dsimp only;omega,by dsimp only;omega,by rw [hlen];dsimp only;omega,λi y hy=>?_⟩,
       fun q hq=>by cases hq;exact ⟨l,p,rfl,hp,λb hb=>h.sub l p b hp hb,λ_ b hb=>hb⟩⟩
      obtain ⟨es,g1,g2,g3⟩:=k6 (off+i) y (nw hy)
      exact ⟨es,g1,λj u hu=>by dsimp only;rw [Nat.add_assoc p.o off i];exact g2 j u hu,Cells.Cr (Nat.le_refl _) (λ_ _ _=>rfl) (λb _ hb=>HY b hb) e' es y g3⟩
    ·cases he
   ·cases he
 |Dt e te=>
  cases a<;>simp only [dS] at he<;>try (cases he;done)
  ·simp only [Option.some.injEq,Prod.mk.injEq] at he
   obtain ⟨rfl,rfl⟩:=he
   have hu:u= .slice none 0 0:=hu
   exact ⟨none,⟨⟨hu,rfl,rfl⟩,rfl⟩,λq hq=>by cases hq⟩
  ·rename_i l off len
   split at he
   ·rename_i fr tr e' Lc xs hl
    split at he
    ·rename_i hc
     obtain ⟨rfl,rfl,hf⟩:=hc
     simp only [Option.some.injEq,Prod.mk.injEq] at he
     obtain ⟨rfl,rfl⟩:=he
     unfold St.at at hl
     obtain ⟨h1,h2⟩:=Jc hu hl
     have hb:=(h.heap l).Ma hl
     simp only [Au,Fl] at hb
     have hlen:((xs.drop off).take len).length=len:=by simp;omega
     cases hp:π l with
     |none=>
      rw [hp] at h2 hb
      obtain ⟨rfl,rfl,rfl⟩:=h2
      exact ⟨none,⟨⟨rfl,rfl,by simp⟩,by show (xs.drop 0).take 0= [];simp⟩,λq hq=>by cases hq⟩
     |some p=>
      rw [hp] at h2 hb
      obtain ⟨k1,cur,ti,k2,k3,k4,k5,k6,k7⟩:=hb
      have ho:=h2
      obtain ⟨ad,_,mF,_⟩:=h2
      have ht:Qc w p.cl p.g p.o cur e' xs:=by
       simp only [Bool.or_eq_true] at hf
       rcases hf with hf|hf
       ·exact k7 hf
       ·exact gL hf k6
      exact ⟨some ⟨p.g,p.o+off,p.cap-off,p.cl,p.cl⟩,⟨by rw [hlen];exact jy ho,h.sub l p _ hp k1.1,cur,ti,k2,by rw [k3];congr 1;dsimp only;omega,by dsimp only;omega,by rw [hlen];dsimp only;omega,ht.part off len⟩,
       fun q hq=>by cases hq;exact ⟨l,p,rfl,hp,λb hb=>hb,λhx=>by cases hx⟩⟩
    ·cases he
   ·rename_i e' Lc xs hl
    split at he
    ·rename_i hc
     obtain ⟨rfl,rfl⟩:=hc
     simp only [Option.some.injEq,Prod.mk.injEq] at he
     obtain ⟨rfl,rfl⟩:=he
     unfold St.at at hl
     obtain ⟨h1,h2⟩:=Vi hu hl
     have hb:=(h.heap l).Ma hl
     simp only [Au,Iq] at hb
     have hlen:((xs.drop off).take len).length=len:=by simp;omega
     cases hp:π l with
     |none=>
      rw [hp] at h2 hb
      obtain ⟨rfl,rfl,rfl⟩:=h2
      exact ⟨none,⟨⟨rfl,rfl,by simp⟩,by show (xs.drop 0).take 0= [];simp⟩,λq hq=>by cases hq⟩
     |some p=>
      rw [hp] at h2 hb
      obtain ⟨k1,cur,ti,k2,k3,k4,k5,ht⟩:=hb
      have ho:=h2
      obtain ⟨ad,_,mF,_⟩:=h2
      exact ⟨some ⟨p.g,p.o+off,p.cap-off,p.Ay,p.Ay⟩,⟨by rw [hlen];exact jy ho,k1,cur,ti,k2,by rw [k3];congr 1;dsimp only;omega,by dsimp only;omega,by rw [hlen];dsimp only;omega,ht.part off len⟩,
       fun q hq=>by cases hq;exact ⟨l,p,rfl,hp,λb hb=>h.sub l p b hp hb,λ_ b hb=>hb⟩⟩
    ·cases he
   ·cases he
 |part e te=>cases a<;>simp [dS] at he
 |Ak e te kp=>exact absurd rfl (hg e te kp)
theorem JW {st:St} (h:Hw X w π st.heap) {c:CK} {a:AC} {u:Value} (hu:Dx X w π st.heap a u) {x:c.den} {ls:List Nat} (he:dS st c a=some (x,ls)):
  ∃r,Ze w (λb=>Oi π b\/X.Sc b) r u c x/\(∀q,r=some q-> ∃l p,ls= [l]/\π l=some p/\(∀b,q.Ay b->p.cl b)/\(c.SG=false-> ∀b,q.Ay b->p.Ay b))/\
   (∀l off len e te rows out kp,a= .own l off len->Ae st.heap l=some (.Ak e te rows out kp)->r=π l):=by
 have oE:(∀e te kp,c≠ .Ak e te kp)->(∀l off len e te rows out kp,a=AC.own l off len->Ae st.heap l=some (OB.Ak e te rows out kp)->False)->
   ∃r,Ze w (λb=>Oi π b\/X.Sc b) r u c x/\(∀q,r=some q-> ∃l p,ls= [l]/\π l=some p/\(∀b,q.Ay b->p.cl b)/\(c.SG=false-> ∀b,q.Ay b->p.Ay b))/\
   (∀l off len e te rows out kp,a= .own l off len->Ae st.heap l=some (.Ak e te rows out kp)->r=π l):= λh1 h2=>by
  obtain ⟨r,g1,g2⟩:=DW h h1 hu he
  exact ⟨r,g1,g2,λl off len e te rows out kp h3 h4=>(h2 l off len e te rows out kp h3 h4).elim⟩
 cases c with
 |Ew τ=>
  refine oE (λ_ _ _ h=>by cases h) λl off len e te rows out kp h3 h4=>?_
  subst h3
  simp only [dS] at he
  split at he
  ·rename_i hf
   cases τ<;>simp [AC.settled,Ty.flat,Bm] at hf he
  ·cases he
 |row e te=>
  refine oE (λ_ _ _ h=>by cases h) λl off len e te rows out kp h3 h4=>?_
  subst h3
  simp only [dS,St.at,h4] at he
  cases he
 |Dt e te=>
  refine oE (λ_ _ _ h=>by cases h) λl off len e te rows out kp h3 h4=>?_
  subst h3
  simp only [dS,St.at,h4] at he
  cases he
 |part e te=>cases a<;>simp [dS] at he
 |Ak e te kp=>
  cases a<;>simp only [dS] at he<;>try (cases he;done)
  rename_i l off len
  split at he
  ·rename_i e' Lc rows kp' hl
   split at he
   ·rename_i hc
    obtain ⟨rfl,rfl,rfl,rfl⟩:=hc
    simp only [Option.some.injEq,Prod.mk.injEq] at he
    obtain ⟨rfl,rfl⟩:=he
    unfold St.at at hl
    obtain ⟨b,sz,n,h1,h2,_,h3⟩:=hu
    rw [hl] at h1;cases h1
    simp only [OB.row,Option.some.injEq,Prod.mk.injEq] at h2
    obtain ⟨rfl,rfl⟩:=h2
    have hb:=((h.heap l).Ma hl).1
    refine ⟨π l,⟨h3,Sz.Ev hb λb hb=>hb.imp id .inl⟩,λq hq=>⟨l,q,rfl,hq,λb hb=>h.sub l q b hq hb,λ_ b hb=>hb⟩,λl' Am2 Alx _ _ _ _ _ he _=>?_⟩
    simp only [AC.own.injEq] at he
    rw [he.1]
   ·cases he
  ·cases he
theorem Ex.congr {D:Nat->Prop} {ρ ρ':Pi} : ∀(cs:List CK) (k:Nat) (x:CKs.den cs) (us:List Value),(∀j,k<=j->ρ' (Fp j)=ρ (Fp j))->Ex w D ρ k cs x us->Ex w D ρ' k cs x us
 | [],_,_,[],_,h=>h
 | [],_,_,_::_,_,h=>h.elim
 |_::_,_,_,[],_,h=>h.elim
 |c::r,k,x,u::us,he,h=>⟨by rw [he k (Nat.le_refl _)];exact h.1,Ex.congr r (k+1) x.2 us (λj hj=>he j (by omega)) h.2⟩
theorem qI {st:St} (h:Hw X w π st.heap): ∀(cs:List CK) (k:Nat) (as:List AC) (us:List Value) (x:CKs.den cs) (ls:List Nat),Hy X w π st.heap as us->Oa st cs as=some (x,ls)->ls.Nodup->
  ∃ρ:Pi,Ex w (λb=>Oi π b\/X.Sc b) ρ k cs x us/\(∀l q,ρ l=some q-> ∃j,k<=j/\j<k+cs.length/\l=Fp j)/\(∀l q b,ρ l=some q->q.Ay b-> ∃l0∈ls,∃p,π l0=some p/\p.cl b/\((cs.all λc=>!c.SG)=true->p.Ay b))/\
   (∀l l' q q' b,ρ l=some q->ρ l'=some q'->q.Ay b->q'.Ay b->l=l')/\
   (∀(j l off len:Nat) e te rows out kp,as[j]?=some (.own l off len)->Ae st.heap l=some (.Ak e te rows out kp)->ρ (Fp (k+j))=π l)
 | [],k,[],[],x,ls,_,he,_=>by
  simp only [Oa,Option.some.injEq,Prod.mk.injEq] at he
  exact ⟨λ_=>none,trivial,(λl q h=>by cases h),(λl q b h=>by cases h),(λl l' q q' b h=>by cases h),λj l off len e te rows out kp h=>by simp at h⟩
 | [],_,[],_::_,_,_,h,_,_=>h.elim
 | [],_,_::_,_,_,_,_,he,_=>by simp [Oa] at he
 |_::_,_,[],_,_,_,_,he,_=>by simp [Oa] at he
 |_::_,_,_::_,[],_,_,h,_,_=>h.elim
 |c::r,k,a::as,u::us,x,ls,hr,he,oT=>by
  simp only [Oa] at he
  split at he
  ·rename_i x1 t1 x2 t2 h1 h2
   simp only [Option.some.injEq,Prod.mk.injEq] at he
   obtain ⟨rfl,rfl⟩:=he
   obtain ⟨n1,n2,n3⟩:=List.nodup_append.1 oT
   obtain ⟨ρ,g1,g2,g3,g4,g5⟩:=qI h r (k+1) as us x2 t2 hr.2 h2 n2
   obtain ⟨rr,r1,r2,r3⟩:=JW h hr.1 h1
   have uX: ∀l q q0 b,ρ l=some q->rr=some q0->q.Ay b->q0.Ay b->False:= λl q q0 b h3 h4 h5 h6=>by
    obtain ⟨l0,m0,p,p1,p2,_⟩:=g3 l q b h3 h5
    obtain ⟨l1,p',e1,p1',p2',_⟩:=r2 q0 h4
    have:=h.inj l0 l1 p p' b p1 p1' p2 (p2' b h6)
    exact n3 l1 (by rw [e1];simp) l0 m0 this.symm
   refine ⟨λl=>if l=Fp k then rr else ρ l,⟨by simpa using r1,Ex.congr r (k+1) x2 us (λj hj=>if_neg (by unfold Fp;omega)) g1⟩,λl q hq=>?_,λl q b hq hb=>?_,λl l' q q' b h3 h4 h5 h6=>?_,λj l off len e te rows out kp hj hl=>?_⟩
   ·dsimp only at hq
    by_cases e:l=Fp k
    ·exact ⟨k,Nat.le_refl _,by simp,e⟩
    ·rw [if_neg e] at hq
     obtain ⟨j,j1,j2,j3⟩:=g2 l q hq
     exact ⟨j,by omega,by simp;omega,j3⟩
   ·dsimp only at hq
    by_cases e:l=Fp k
    ·rw [if_pos e] at hq
     obtain ⟨l1,p',e1,p1',p2',p3'⟩:=r2 q hq
     exact ⟨l1,by rw [e1];simp,p',p1',p2' b hb,λhx=>p3' (by simp only [List.all_cons,Bool.and_eq_true,Bool.not_eq_true'] at hx;exact hx.1) b hb⟩
    ·rw [if_neg e] at hq
     obtain ⟨l0,m0,p,p1,p2,p3⟩:=g3 l q b hq hb
     exact ⟨l0,List.mem_append_right _ m0,p,p1,p2,λhx=>p3 (by simp only [List.all_cons,Bool.and_eq_true] at hx;exact hx.2)⟩
   ·dsimp only at h3 h4
    by_cases e:l=Fp k<;>by_cases e':l'=Fp k
    ·rw [e,e']
    ·rw [if_pos e] at h3;rw [if_neg e'] at h4
     exact (uX l' q' q b h4 h3 h6 h5).elim
    ·rw [if_neg e] at h3;rw [if_pos e'] at h4
     exact (uX l q q' b h3 h4 h5 h6).elim
    ·rw [if_neg e] at h3;rw [if_neg e'] at h4
     exact g4 l l' q q' b h3 h4 h5 h6
   ·rcases j with _|j
    ·simp only [List.getElem?_cons_zero,Option.some.injEq] at hj
     show (if Fp k=Fp k then rr else ρ (Fp k))=π l
     rw [if_pos rfl]
     exact r3 l off len e te rows out kp hj hl
    ·have:=g5 j l off len e te rows out kp (by simpa using hj) hl
     show (if Fp (k+(j+1))=Fp k then rr else ρ (Fp (k+(j+1))))=π l
     rw [if_neg (by unfold Fp;omega),<-this,show k+(j+1)=k+1+j by omega]
  ·cases he
theorem wQ {r r':Option Real} (h:Ul (r.map full) r') {e:Ty} {xs:List e.den} {te:TypeId} {fr tr:Bool} (ha:Fl X w π r' fr tr e te xs):Md w (λb=>Oi π b\/X.Sc b) r e xs:=by
 cases r with
 |none=>cases r' with
  |none=>exact ha
  |some q=>exact h.elim
 |some p=>cases r' with
  |none=>exact h.elim
  |some q=>
   obtain ⟨e1,e2,e3,e4⟩:=h
   obtain ⟨k1,cur,ti,k2,k3,k4,k5,k6,_⟩:=ha
   have e1:p.g=q.g:=e1
   have e2:p.o=q.o:=e2
   have e3:p.cap=q.cap:=e3
   refine ⟨⟨by rw [e1];exact (e4 _).2 k1.1,λb hb=>by rw [e1];exact k1.2.1 b ((e4 b).1 hb)⟩,cur,ti,by rw [e1];exact k2,by rw [e2,e3];exact k3,by rw [e3];exact k4,by rw [e3];exact k5,λi y hy=>?_⟩
   obtain ⟨es,g1,g2,g3⟩:=k6 i y hy
   exact ⟨es,g1,by rw [e2];exact g2,Cells.Cr (Nat.le_refl _) (λ_ _ _=>rfl) (λb _ hb=>hb.imp id .inl) e es y g3⟩
theorem ET {r r':Option Real} (h:Ul (r.map full) r') {e:Ty} {xs:List e.den} {te:TypeId} (ha:Iq w r' e te xs):Iq w r e te xs:=by
 cases r with
 |none=>cases r' with
  |none=>exact ha
  |some q=>exact h.elim
 |some p=>cases r' with
  |none=>exact h.elim
  |some q=>
   obtain ⟨e1,e2,e3,e4⟩:=h
   obtain ⟨k1,cur,ti,k2,k3,k4,k5,Fs,t1,t2,t3,t4⟩:=ha
   have e1:p.g=q.g:=e1
   have e2:p.o=q.o:=e2
   have e3:p.cap=q.cap:=e3
   exact ⟨by rw [e1];exact (e4 _).2 k1,cur,ti,by rw [e1];exact k2,by rw [e2,e3];exact k3,by rw [e3];exact k4,by rw [e3];exact k5,Fs,t1,by rw [e1];exact t2,λb hb=>(e4 b).2 (t3 b hb),by rw [e2];exact t4⟩
theorem Ni {st:St} {π0:Pi} {D:Nat->Prop} {w0:World} (h:Hw X w π st.heap) (Yg: ∀l,X.cz l=(π0 l).map full): ∀(cs:List (Bool×CK)) (k:Nat) (x:Ins.den cs) (us:List Value) (o:IOs.den cs),Zf w0 D π0 k cs x us->Je st k cs=some o->
  Hd w (λb=>Oi π b\/X.Sc b) π0 k cs o/\ ∀l∈Jx k cs,Ae st.heap l≠none
 | [],_,_,_,_,_,_=>⟨trivial,λl hl=>by cases hl⟩
 |_::_,_,_,[],_,h,_=>h.elim
 |(false,c)::r,k,x,u::us,o,hi,he=>Ni h Yg r (k+1) x.2 us o hi.2 (by simpa only [Je] using he)
 |(true, .Ew τ)::r,k,x,u::us,o,hi,he=>Ni h Yg r (k+1) x.2 us o hi.2 (by simpa only [Je] using he)
 |(true, .Ak e te kp)::r,k,x,u::us,o,hi,he=>Ni h Yg r (k+1) x.2 us o hi.2 (by simpa only [Je] using he)
 |(true, .row e te)::r,k,x,u::us,o,hi,he=>by
  simp only [Je] at he
  split at he
  ·rename_i x1 x2 h1 h2
   simp only [Option.some.injEq] at he;subst he
   obtain ⟨g1,g2⟩:=Ni h Yg r (k+1) x.2 us x2 hi.2 h2
   have h0:=hi.1
   simp only [kf] at h1
   split at h1
   ·rename_i fr tr e' Lc xs hl
    split at h1
    ·rename_i hc
     obtain ⟨rfl,rfl⟩:=hc
     simp only [Option.some.injEq] at h1;subst h1
     unfold St.at at hl
     have hs:=h.cz (Bq true k) (by have:=Ua k;omega) (by rw [hl];simp)
     rw [Yg] at hs
     exact ⟨⟨wQ (te:=Lc) hs ((h.heap _).Ma hl),g1⟩,λl Hg=>by
      simp only [Jx] at Hg
      rcases List.mem_cons.1 Hg with rfl|Hg
      ·rw [hl];simp
      ·exact g2 l Hg⟩
    ·cases h1
   ·cases h1
  ·cases he
 |(true, .part e te)::r,k,x,u::us,o,hi,he=>by
  simp only [Je] at he
  split at he
  ·rename_i x1 x2 h1 h2
   simp only [Option.some.injEq] at he;subst he
   obtain ⟨g1,g2⟩:=Ni h Yg r (k+1) x.2 us x2 hi.2 h2
   have h0:=hi.1
   simp only [kf] at h1
   split at h1
   ·rename_i fr tr e' Lc xs hl
    split at h1
    ·rename_i hc
     obtain ⟨rfl,rfl⟩:=hc
     simp only [Option.some.injEq] at h1;subst h1
     unfold St.at at hl
     have hs:=h.cz (Bq true k) (by have:=Ua k;omega) (by rw [hl];simp)
     rw [Yg] at hs
     exact ⟨⟨wQ (te:=Lc) hs ((h.heap _).Ma hl),g1⟩,λl Hg=>by
      simp only [Jx] at Hg
      rcases List.mem_cons.1 Hg with rfl|Hg
      ·rw [hl];simp
      ·exact g2 l Hg⟩
    ·cases h1
   ·cases h1
  ·cases he
 |(true, .Dt e te)::r,k,x,u::us,o,hi,he=>by
  simp only [Je] at he
  split at he
  ·rename_i x1 x2 h1 h2
   simp only [Option.some.injEq] at he;subst he
   obtain ⟨g1,g2⟩:=Ni h Yg r (k+1) x.2 us x2 hi.2 h2
   simp only [kf] at h1
   split at h1
   ·rename_i e' Lc xs hl
    split at h1
    ·rename_i hc
     obtain ⟨rfl,rfl⟩:=hc
     simp only [Option.some.injEq] at h1;subst h1
     unfold St.at at hl
     have hs:=h.cz (Bq true k) (by have:=Ua k;omega) (by rw [hl];simp)
     rw [Yg] at hs
     exact ⟨⟨ET (te:=Lc) hs ((h.heap _).Ma hl),g1⟩,λl Hg=>by
      simp only [Jx] at Hg
      rcases List.mem_cons.1 Hg with rfl|Hg
      ·rw [hl];simp
      ·exact g2 l Hg⟩
    ·cases h1
   ·cases h1
  ·cases he
theorem p9 {p:Bool×CK} {r:List (Bool×CK)} (h:Sk (p::r)=true):Sk r=true:=by
 rcases p with ⟨_|_,c⟩<;>cases c<;>first|(simp [Sk] at h;done)|simpa [Sk] using h
theorem qo: ∀(cs:List (Bool×CK)) (k:Nat) (x:Ins.den cs) (l:Nat),Sk cs=true->k+cs.length<100000->Ae (Sf k cs x) l≠none-> ¬l<Aj->l∈Jx k cs
 | [],_,_,_,_,_,h,_=>absurd rfl h
 |(io,c)::r,k,x,l,UE,hk,h,hp=>by
  simp only [List.length_cons] at hk
  simp only [Sf] at h
  have tail:Ae (Sf (k+1) r x.2) l≠none->l∈Jx (k+1) r:= λh=>qo r (k+1) x.2 l (p9 UE) (by omega) h hp
  have sub: ∀m,m∈Jx (k+1) r->m∈Jx k ((io,c)::r):= λm hm=>by
   cases io<;>cases c<;>simp only [Jx]<;>first|exact hm|exact List.mem_cons_of_mem _ hm
  cases hc:dP (Bq io k) c x.1 with
  |none=>rw [hc] at h;exact sub l (tail h)
  |some b=>
   rw [hc] at h
   simp only [bL,Ae] at h
   split at h
   ·rename_i e;subst e
    cases io with
    |false=>exact absurd (an (by omega)) hp
    |true=>cases c with
     |Ew τ=>cases hc
     |row e te=>simp [Jx]
     |Dt e te=>simp [Jx]
     |part e te=>simp [Jx]
     |Ak e te kp=>simp [Sk] at UE
   ·exact sub l (tail h)
theorem Ze.Ev {D D':Nat->Prop} (hD: ∀b,D' b->D b) {r:Option Real} {u:Value} {c:CK} {x:c.den} (h:Ze w D r u c x):Ze w D' r u c x:=by
 cases c with
 |Ew τ=>exact ⟨h.1,h.2.Ev λb _ hb=>hD b hb⟩
 |row e te=>exact ⟨h.1,Md.Ev h.2 hD⟩
 |Dt e te=>exact h
 |part e te=>exact ⟨h.1,h.2.1,Md.Ev h.2.2 hD⟩
 |Ak e te kp=>exact ⟨h.1,Sz.Ev h.2 hD⟩
theorem Ex.Ev {D D':Nat->Prop} (hD: ∀b,D' b->D b) {ρ:Pi} : ∀(cs:List CK) (k:Nat) (x:CKs.den cs) (us:List Value),Ex w D ρ k cs x us->Ex w D' ρ k cs x us
 | [],_,_,[],h=>h
 | [],_,_,_::_,h=>h.elim
 |_::_,_,_,[],h=>h.elim
 |_c::r,k,x,_u::us,h=>⟨h.1.Ev hD,Ex.Ev hD r (k+1) x.2 us h.2⟩
theorem Hd.Ev {D D':Nat->Prop} (hD: ∀b,D' b->D b) {π:Pi} : ∀(cs:List (Bool×CK)) (k:Nat) (x:IOs.den cs),Hd w D π k cs x->Hd w D' π k cs x
 | [],_,_,h=>h
 |(false,_)::r,k,x,h=>Hd.Ev hD r (k+1) x h
 |(true, .Ew _)::r,k,x,h=>Hd.Ev hD r (k+1) x h
 |(true, .Ak _ _ _)::r,k,x,h=>Hd.Ev hD r (k+1) x h
 |(true, .row _e _te)::r,k,x,h=>⟨Md.Ev h.1 hD,Hd.Ev hD r (k+1) x.2 h.2⟩
 |(true, .Dt _e _te)::r,k,x,h=>⟨h.1,Hd.Ev hD r (k+1) x.2 h.2⟩
 |(true, .part _e _te)::r,k,x,h=>⟨Md.Ev h.1 hD,Hd.Ev hD r (k+1) x.2 h.2⟩
theorem Zf.congr {D:Nat->Prop} {π0 Vo:Pi} : ∀(cs:List (Bool×CK)) (k:Nat) (x:Ins.den cs) (us:List Value),(∀b j,k<=j->j<k+cs.length->Vo (Bq b j)=π0 (Bq b j))->Zf w D π0 k cs x us->Zf w D Vo k cs x us
 | [],_,_,[],_,h=>h
 | [],_,_,_::_,_,h=>h
 |_::_,_,_,[],_,h=>h
 |p::r,k,x,u::us,hp,h=>⟨by rw [hp p.1 k (Nat.le_refl _) (by simp)];exact h.1,Zf.congr r (k+1) x.2 us (λb j h1 h2=>hp b j (by omega) (by simp;omega)) h.2⟩
theorem Hd.congr {D:Nat->Prop} {π0 Vo:Pi} : ∀(cs:List (Bool×CK)) (k:Nat) (x:IOs.den cs),(∀b j,k<=j->j<k+cs.length->Vo (Bq b j)=π0 (Bq b j))->Hd w D π0 k cs x->Hd w D Vo k cs x
 | [],_,_,_,h=>h
 |(false,c)::r,k,x,hp,h=>by cases c<;>exact Hd.congr r (k+1) x (λb j h1 h2=>hp b j (by omega) (by simp;omega)) h
 |(true, .Ew _)::r,k,x,hp,h=>Hd.congr r (k+1) x (λb j h1 h2=>hp b j (by omega) (by simp;omega)) h
 |(true, .Ak _ _ _)::r,k,x,hp,h=>Hd.congr r (k+1) x (λb j h1 h2=>hp b j (by omega) (by simp;omega)) h
 |(true, .row e te)::r,k,x,hp,h=>⟨by rw [hp true k (Nat.le_refl _) (by simp)];exact h.1,Hd.congr r (k+1) x.2 (λb j h1 h2=>hp b j (by omega) (by simp;omega)) h.2⟩
 |(true, .Dt e te)::r,k,x,hp,h=>⟨by rw [hp true k (Nat.le_refl _) (by simp)];exact h.1,Hd.congr r (k+1) x.2 (λb j h1 h2=>hp b j (by omega) (by simp;omega)) h.2⟩
 |(true, .part e te)::r,k,x,hp,h=>⟨by rw [hp true k (Nat.le_refl _) (by simp)];exact h.1,Hd.congr r (k+1) x.2 (λb j h1 h2=>hp b j (by omega) (by simp;omega)) h.2⟩
theorem Cc.congr {π0 Vo:Pi} : ∀(cs:List (Bool×CK)) (k:Nat) (o:IOs.den cs) (n:Nat) (us as:List Value),(∀b j,k<=j->j<k+cs.length->Vo (Bq b j)=π0 (Bq b j))->Cc π0 k cs o n us as->Cc Vo k cs o n us as
 | [],k,o,0,us,as,_,h=>by simpa [Cc] using h
 | [],k,o,n+1,us,as,_,h=>by simp [Cc] at h
 |p::r,k,o,0,us,as,_,h=>by
  rcases p with ⟨_|_,c⟩<;>cases c<;>simpa [Cc] using h
 |(true, .Ew _)::r,k,o,n+1,us,as,_,h=>by simp [Cc] at h
 |(true, .part _ _)::r,k,o,n+1,us,as,_,h=>by simp [Cc] at h
 |(true, .Ak _ _ _)::r,k,o,n+1,us,as,_,h=>by simp [Cc] at h
 |(true, .row e te)::r,k,o,n+1,[],as,_,h=>by simp [Cc] at h
 |(true, .Dt e te)::r,k,o,n+1,[],as,_,h=>by simp [Cc] at h
 |(true, .row e te)::r,k,o,n+1,u::us,as,hp,h=>by
  simp only [Cc] at h⊢
  exact ⟨by rw [hp true k (Nat.le_refl _) (by simp)];exact h.1,Cc.congr r (k+1) o.2 n us as (λb j h1 h2=>hp b j (by omega) (by simp;omega)) h.2⟩
 |(true, .Dt e te)::r,k,o,n+1,u::us,as,hp,h=>by
  simp only [Cc] at h⊢
  exact ⟨by rw [hp true k (Nat.le_refl _) (by simp)];exact h.1,Cc.congr r (k+1) o.2 n us as (λb j h1 h2=>hp b j (by omega) (by simp;omega)) h.2⟩
 |(false,c)::r,k,o,n+1,[],as,_,h=>by cases c<;>simp [Cc] at h
 |(false,c)::r,k,o,n+1,u::us,[],_,h=>by cases c<;>simp [Cc] at h
 |(false,c)::r,k,o,n+1,u::us,a::as,hp,h=>by
  have h:u=a/\Cc π0 (k+1) r o n us as:=by cases c<;>exact h
  have:=Cc.congr r (k+1) o n us as (λb j h1 h2=>hp b j (by omega) (by simp;omega)) h.2
  cases c<;>exact ⟨h.1,this⟩
theorem ky: ∀(A B:List (Nat×OB)) (l:Nat),Ae (A++B) l=match Ae A l with|some b=>some b|none=>Ae B l
 | [],B,l=>rfl
 |(k,b)::A,B,l=>by
  simp only [List.cons_append,Ae]
  split
  ·rfl
  ·exact ky A B l
theorem nq {st:St} : ∀(cs:List CK) (as:List AC) (x:CKs.den cs) (ls:List Nat),Oa st cs as=some (x,ls)-> ∀l∈ls,∃b,Ae st.heap l=some b/\b.row≠none
 | [],[],x,ls,he=>by
  simp only [Oa,Option.some.injEq,Prod.mk.injEq] at he
  obtain ⟨_,rfl⟩:=he
  intro l hl;cases hl
 | [],_::_,_,_,he=>by simp [Oa] at he
 |_::_,[],_,_,he=>by simp [Oa] at he
 |c::r,a::as,x,ls,he=>by
  simp only [Oa] at he
  split at he
  ·rename_i x1 t1 x2 t2 h1 h2
   simp only [Option.some.injEq,Prod.mk.injEq] at he
   obtain ⟨_,rfl⟩:=he
   intro l hl
   rcases List.mem_append.1 hl with hl|hl
   ·unfold dS at h1
    split at h1
    ·split at h1
     ·cases hv:Bm st _ a with
      |none=>rw [hv] at h1;cases h1
      |some p=>rw [hv] at h1;simp only [Option.map_some,Option.some.injEq,Prod.mk.injEq] at h1;obtain ⟨_,rfl⟩:=h1;cases hl
     ·cases h1
    all_goals (repeat' split at h1)
    all_goals first|(cases h1;done)|skip
    all_goals (simp only [Option.some.injEq,Prod.mk.injEq] at h1;obtain ⟨_,rfl⟩:=h1)
    all_goals first|(cases hl;done)|skip
    all_goals (have hl:=List.mem_singleton.1 hl;subst hl)
    all_goals (rename_i heq _;exact ⟨_,heq,by simp [OB.row]⟩)
   ·exact nq r as x2 t2 h2 l hl
  ·cases he
theorem kH {r r':Option Real} {sz off len:Nat} {v:Value} (h:Ul r r') (hv:Dv r' sz off len v):Dv r sz off len v:=by
 cases r<;>cases r'<;>first|exact h.elim|skip
 ·exact hv
 ·obtain ⟨h1,h2,h3,_⟩:=h
  obtain ⟨ad,g1,g2,g3⟩:=hv
  exact ⟨ad,by rw [h3];exact g1,by rw [h3];exact g2,by rw [h1,h2,h3];exact g3⟩
theorem Rj {st:St} {π0:Pi} (hs: ∀k,Ae st.heap (Bq true k)≠none->Ul ((π0 (Bq true k)).map full) (π (Bq true k))):
  ∀(cs:List (Bool×CK)) (k:Nat) (vs:List AC) (us:List Value) (bc:List AC) (o:IOs.den cs),Hy X w π st.heap vs us->Ez k cs vs=some bc->cg st vs cs->Je st k cs=some o->
   ∃bv,Hy X w π st.heap bc bv/\bv.length=nE cs vs.length/\ ∀tl,Cc π0 k cs o vs.length us (bv++tl)
 |cs,k,[],us,bc,o,hr,he,_,_=>by
  have e1:us= []:=by cases us with|nil=>rfl|cons u us=>exact hr.elim
  have e2:bc= []:=by rcases cs with _|⟨⟨_|_,c⟩,r⟩<;>simpa [Ez] using he.symm
  subst e1;subst e2
  refine ⟨[],trivial,?_,λtl=>?_⟩
  ·rcases cs with _|⟨⟨_|_,c⟩,r⟩<;>rfl
  ·rcases cs with _|⟨⟨_|_,c⟩,r⟩<;>(try cases c)<;>simp [Cc]
 | [],k,a::vs,us,bc,o,hr,he,_,_=>by simp [Ez] at he
 |p::r,k,a::vs,[],bc,o,hr,_,_,_=>hr.elim
 |(false,c)::r,k,a::vs,u::us,bc,o,hr,he,hk,ho=>by
  have he:(Ez (k+1) r vs).map (λl=>a::l)=some bc:=by cases a<;>exact he
  cases hb:Ez (k+1) r vs with
  |none=>rw [hb] at he;cases he
  |some bc'=>
   rw [hb] at he
   simp only [Option.map_some,Option.some.injEq] at he;subst he
   obtain ⟨bv,g1,g2,g3⟩:=Rj hs r (k+1) vs us bc' o hr.2 hb (by cases a<;>exact hk) (by cases c<;>simpa only [Je] using ho)
   refine ⟨u::bv,⟨hr.1,g1⟩,by simp [nE,g2],λtl=>?_⟩
   have:=g3 tl
   cases c<;>exact ⟨rfl,this⟩
 |(true,c)::r,k,a::vs,u::us,bc,o,hr,he,hk,ho=>by
  cases c with
  |Ew τ=>cases a<;>simp [Ez] at he
  |part e te=>cases a<;>simp [Ez] at he
  |Ak e te kp=>cases a<;>simp [Ez] at he
  |row e te=>
   cases a<;>first|(simp [Ez] at he;done)|skip
   rename_i l off len
   simp only [Ez] at he
   split at he
   rotate_left
   ·cases he
   rename_i hl
   have hl:l=Bq true k:=Nat.eq_of_beq_eq_true hl
   subst hl
   obtain ⟨⟨rfl,hlen⟩,hk⟩:=hk
   obtain ⟨b,sz,n,h1,h2,h3,h4⟩:=hr.1
   have IQ:=hs k (by rw [h1];simp)
   simp only [Je] at ho
   split at ho
   ·rename_i x1 x2 q1 q2
    simp only [Option.some.injEq] at ho;subst ho
    obtain ⟨bv,g1,g2,g3⟩:=Rj hs r (k+1) vs us bc x2 hr.2 he hk q2
    refine ⟨bv,g1,by simpa [nE] using g2,λtl=>?_⟩
    refine ⟨?_,g3 tl⟩
    simp only [kf] at q1
    split at q1
    ·rename_i fr tr e' Lc xs Hg
     split at q1
     ·rename_i hc
      obtain ⟨rfl,rfl⟩:=hc
      simp only [Option.some.injEq] at q1;subst q1
      unfold St.at at Hg hlen
      rw [Hg] at hlen
      rw [h1] at Hg;cases Hg
      simp only [OB.row,Option.some.injEq,Prod.mk.injEq] at h2
      obtain ⟨rfl,rfl⟩:=h2
      have hlen:len=List.length xs:=hlen
      have:=kH IQ h4
      rw [hlen] at this
      have e0:(π0 (Bq true k)).map full=(π0 (Bq true k)).map full:=rfl
      cases hp:π0 (Bq true k)<;>(rw [hp] at this;exact this)
     ·cases q1
    ·cases q1
   ·cases ho
  |Dt e te=>
   cases a<;>first|(simp [Ez] at he;done)|skip
   rename_i l off len
   simp only [Ez] at he
   split at he
   rotate_left
   ·cases he
   rename_i hl
   have hl:l=Bq true k:=Nat.eq_of_beq_eq_true hl
   subst hl
   obtain ⟨⟨rfl,hlen⟩,hk⟩:=hk
   obtain ⟨b,sz,n,h1,h2,h3,h4⟩:=hr.1
   have IQ:=hs k (by rw [h1];simp)
   simp only [Je] at ho
   split at ho
   ·rename_i x1 x2 q1 q2
    simp only [Option.some.injEq] at ho;subst ho
    obtain ⟨bv,g1,g2,g3⟩:=Rj hs r (k+1) vs us bc x2 hr.2 he hk q2
    refine ⟨bv,g1,by simpa [nE] using g2,λtl=>?_⟩
    refine ⟨?_,g3 tl⟩
    simp only [kf] at q1
    split at q1
    ·rename_i e' Lc xs Hg
     split at q1
     ·rename_i hc
      obtain ⟨rfl,rfl⟩:=hc
      simp only [Option.some.injEq] at q1;subst q1
      unfold St.at at Hg hlen
      rw [Hg] at hlen
      rw [h1] at Hg;cases Hg
      simp only [OB.row,Option.some.injEq,Prod.mk.injEq] at h2
      obtain ⟨rfl,rfl⟩:=h2
      have hlen:len=List.length xs:=hlen
      have:=kH IQ h4
      rw [hlen] at this
      cases hp:π0 (Bq true k)<;>(rw [hp] at this;exact this)
     ·cases q1
    ·cases q1
   ·cases ho
def Ac6 (s:MSpec) (g:Nat) (π:Pi):Pi:= λl=>if s.ptr.isSome=true/\l=Lo then some ⟨g,0,0,λb=>b=g,λb=>b=g⟩ else π l
def YK (P:Program) (s:MSpec) (fn:Func) (x:Ins.den s.ins) (w:World) (S:Nat->Prop) (π:Pi) (g:Nat) (r:CKs.den s.outs) (o:IOs.den s.ins) (a':Act) (w':World):Prop:=
 ∃(v:Value) (Sq:List Value) (ρ:Pi),a'.defers= []/\(results fn a'.tmps).run P w'= .ok v w'/\lW s w' ρ (Sq.drop s.Td) v/\eY s π w' g Sq o/\Gf w.heap.size (λb=>Oi π b\/s.gv g b) w w'/\Hd w' (dO S π ρ) π 0 s.ins o/\Ex w' (dO S π ρ) ρ 0 s.outs r Sq/\
  bz ρ (λb=>b<w'.heap.size/\(w.heap.size<=b\/ ∃l q,l<Aj/\π l=some q/\q.Ay b))/\(∀l,(∀k,k<s.Nn->l≠Fp k)->ρ l=none)/\(∀kj∈s.keeps,ux w w' (π (Bq false kj.1)) (ρ (Fp kj.2)) (s.Cr x))
theorem Ex.HM {D:Nat->Prop} {ρ ρ':Pi} : ∀(cs:List CK) (k:Nat) (x:CKs.den cs) (us:List Value),(∀j,k<=j->j<k+cs.length->ρ' (Fp j)=ρ (Fp j))->Ex w D ρ k cs x us->Ex w D ρ' k cs x us
 | [],_,_,[],_,h=>h
 | [],_,_,_::_,_,h=>h.elim
 |_::_,_,_,[],_,h=>h.elim
 |c::r,k,x,u::us,he,h=>⟨by rw [he k (Nat.le_refl _) (by simp)];exact h.1,Ex.HM r (k+1) x.2 us (λj hj hl=>he j (by omega) (by simp;omega)) h.2⟩
theorem qv {st:St} {n:Nat} {as:List AC} : ∀ {ks:List (Nat×Nat)},qt st n as ks-> ∀kj∈ks,∃l off len e te rows out p,as[kj.2]?=some (.own l off len)/\Ae st.heap l=some (.Ak e te rows out (some p))/\p.1=Bq false kj.1/\n<=p.2/\kj.1<1000
 | [],_,kj,hm=>by cases hm
 |(k,j)::r,h,kj,hm=>by
  simp only [qt] at h
  rcases List.mem_cons.1 hm with rfl|hm
  ·obtain ⟨h,_⟩:=h
   split at h
   ·rename_i l off len he
    split at h
    ·rename_i e te rows out p hl
     unfold St.at at hl
     exact ⟨l,off,len,e,te,rows,out,p,he,hl,h.1,h.2.1,by simpa using h.2.2⟩
    ·exact h.elim
   ·exact h.elim
  ·exact qv h.2 kj hm
theorem qH {st:St} : ∀(cs:List CK) (as:List AC) (x:CKs.den cs) (ls:List Nat),Oa st cs as=some (x,ls)->as.length=cs.length
 | [],[],_,_,_=>rfl
 | [],_::_,_,_,he=>by simp [Oa] at he
 |_::_,[],_,_,he=>by simp [Oa] at he
 |c::r,a::as,x,ls,he=>by
  simp only [Oa] at he
  split at he
  ·rename_i h1 h2
   simp only [List.length_cons,qH r as _ _ h2]
  ·cases he
theorem wO {α β:Type} (f:α->Sem β): ∀(l:List α) (vs:List β),vs.length=l.length->(∀(i:Nat) a v,l[i]?=some a->vs[i]?=some v->(f a).run P w= .ok v w)->(l.mapM f).run P w= .ok vs w
 | [],[],_,_=>by simp
 | [],_::_,h,_=>by simp at h
 |_::_,[],h,_=>by simp at h
 |a::l,v::vs,h,hr=>by
  rw [List.mapM_cons]
  simp only [Sem.run_bind,hr 0 a v rfl rfl,Result.andThen_ok,wO f l vs (by simpa using h) (λi a' v' ha hv=>hr (i+1) a' v' (by simpa using ha) (by simpa using hv)),Sem.run_pure]
theorem oJ (hT:Ca P T) (Mb:Hb P Γ) (hm:P.follows .mixedOrders=true) {f:FuncId} {fn:Func} (hf:P.funcs[f]?=some fn) (s:MSpec) (w:World) (S:Nat->Prop) (π:Pi) (us:List Value) (x:Ins.den s.ins)
  (r:CKs.den s.outs) (o:IOs.den s.ins) (g:Nat) (ke:List Value) (Kz:iT s w g us ke) (hSg:s.ptr.isSome=true->S g) (Ke:Zf w (λb=>Oi π b\/S b) π 0 s.ins x us) (ca:bz π (λb=>b<w.heap.size)) (hS: ∀b,S b->b<w.heap.size/\ ¬Oi π b) (IB: ∀l,Ae (Sf 0 s.ins x) l=none->π l=none) (he:QK T Γ s fn x λz=>z=(r,o)):
  Calls P f ke.toArray w λe w'=> ∃v Sq ρ,e= .returned v/\lW s w' ρ (Sq.drop s.Td) v/\eY s π w' g Sq o/\Gf w.heap.size (λb=>Oi π b\/s.gv g b) w w'/\Hd w' (dO S π ρ) π 0 s.ins o/\Ex w' (dO S π ρ) ρ 0 s.outs r Sq/\
   bz ρ (λb=>b<w'.heap.size/\(w.heap.size<=b\/ ∃l q,l<Aj/\π l=some q/\q.Ay b))/\(∀l,(∀k,k<s.Nn->l≠Fp k)->ρ l=none)/\(∀kj∈s.keeps,ux w w' (π (Bq false kj.1)) (ρ (Fp kj.2)) (s.Cr x)):=by
 obtain ⟨hlen,c,hb,he⟩:=he
 simp only [Bool.and_eq_true,Nat.blt_eq] at hlen
 obtain ⟨hlen,ID⟩:=hlen
 unfold sU at ID
 simp only [Bool.and_eq_true] at ID
 have Aa1:=ID.1
 let l5:Pi:=Ac6 s g π
 let Sg:Nat->Prop:= λb=>S b/\ ¬s.gv g b
 have hvl: ∀b j,j<1000->Bq b j≠Lo:= λb j hj=>by cases b<;>(unfold Bq Lo;simp;omega)
 have s9: ∀b j,0<=j->j<0+s.ins.length->l5 (Bq b j)=π (Bq b j):= λb j _ hj=>if_neg λh=>hvl b j (by omega) h.2
 have RM: ∀b j,0<=j->j<0+s.ins.length->π (Bq b j)=l5 (Bq b j):= λb j h1 h2=>(s9 b j h1 h2).symm
 have UR:Ae (Sf 0 s.ins x) Lo=none:=Classical.byContradiction λhn=>by
  obtain ⟨b,j,_,h2,h3⟩:=mP s.ins 0 x Lo hn
  exact hvl b j (by omega) h3.symm
 have FQ: ∀l q,l5 l=some q->(π l=some q/\(s.ptr.isSome=true->l≠Lo))\/(s.ptr.isSome=true/\l=Lo/\q=⟨g,0,0,λb=>b=g,λb=>b=g⟩):= λl q hq=>by
  have hq:(if s.ptr.isSome=true/\l=Lo then some ⟨g,0,0,λb=>b=g,λb=>b=g⟩ else π l)=some q:=hq
  split at hq
  ·rename_i hc;exact .inr ⟨hc.1,hc.2,(Option.some.inj hq).symm⟩
  ·rename_i hc;exact .inl ⟨hq,λh1 h2=>hc ⟨h1,h2⟩⟩
 have Yf: ∀b,Oi l5 b↔Oi π b\/s.gv g b:= λb=>by
  constructor
  ·rintro ⟨l,q,h1,h2⟩
   rcases FQ l q h1 with ⟨h3,_⟩|⟨h3,h4,rfl⟩
   ·exact .inl ⟨l,q,h3,h2⟩
   ·exact .inr ⟨h3,h2⟩
  ·rintro (⟨l,q,h1,h2⟩|⟨h1,rfl⟩)
   ·refine ⟨l,q,?_,h2⟩
    show (if s.ptr.isSome=true/\l=Lo then _ else π l)=some q
    rw [if_neg]
    ·exact h1
    ·rintro ⟨_,rfl⟩
     rw [IB Lo UR] at h1;cases h1
   ·exact ⟨Lo,⟨b,0,0,λc=>c=b,λc=>c=b⟩,if_pos ⟨h1,rfl⟩,rfl⟩
 have hgS: ∀b,s.gv g b->S b:= λb ⟨h1,h2⟩=>h2▸hSg h1
 have TS:Zf w (λb=>Oi l5 b\/Sg b) l5 0 s.ins x us:=Zf.congr s.ins 0 x us s9 (Zf.Ev (λb hb=>by
  rcases hb with hb|hb
  ·rcases (Yf b).1 hb with hb|hb
   ·exact .inl hb
   ·exact .inr (hgS b hb)
  ·exact .inr hb.1) s.ins 0 x us Ke)
 have Aa6:bz l5 (λb=>b<w.heap.size):=⟨λl q b h1 h2=>by
  rcases FQ l q h1 with ⟨h3,_⟩|⟨h3,h4,rfl⟩
  ·exact ca.Nh l q b h3 h2
  ·exact (hS b (hgS b ⟨h3,h2⟩)).1,λl l' q q' b h1 h2 h3 h4=>by
  rcases FQ l q h1 with ⟨h5,_⟩|⟨h5,h6,rfl⟩<;>rcases FQ l' q' h2 with ⟨h7,_⟩|⟨h7,h8,rfl⟩
  ·exact ca.inj l l' q q' b h5 h7 h3 h4
  ·exact absurd ⟨l,q,h5,h3⟩ (hS b (hgS b ⟨h7,h4⟩)).2
  ·exact absurd ⟨l',q',h7,h4⟩ (hS b (hgS b ⟨h5,h3⟩)).2
  ·rw [h6,h8]⟩
 have Ae8: ∀b,Sg b->b<w.heap.size/\ ¬Oi l5 b:= λb hb=>⟨(hS b hb.1).1,λho=>((Yf b).1 ho).elim (hS b hb.1).2 hb.2⟩
 have AX: ∀l,Ae (kz s x) l=match Ae (Sf 0 s.ins x) l with|some b=>some b|none=>if l=Lo then s.ptr.map λp=> .var p.1 ((Ux 0 s.ins x).take p.2) else none:= λl=>by
  unfold kz
  cases hp:s.ptr with
  |none=>cases Ae (Sf 0 s.ins x) l<;>simp
  |some p=>
   simp only
   rw [ky]
   cases Ae (Sf 0 s.ins x) l with
   |some b=>rfl
   |none=>
    simp only [Ae,Option.map_some]
    by_cases e:l=Lo
    ·rw [if_pos e,if_pos e.symm]
    ·rw [if_neg e,if_neg (λh=>e h.symm)]
 let π0:Pi:= λl=>(l5 l).map full
 have un: ∀l q,π0 l=some q-> ∃q0,l5 l=some q0/\q=full q0:= λl q hq=>by
  have hq:(l5 l).map full=some q:=hq
  cases hp:l5 l with
  |none=>rw [hp] at hq;cases hq
  |some q0=>rw [hp] at hq;exact ⟨q0,rfl,(Option.some.inj hq).symm⟩
 have IG: ∀l b,Ae (Sf 0 s.ins x) l=some b->Ae (kz s x) l=some b:= λl b hb=>by rw [AX l,hb]
 have UM:Hy ⟨w,Sg,Oi l5,π0⟩ w π0 (kz s x) (Ux 0 s.ins x) us:=vM (λ_=>rfl) s.ins 0 x us (by omega) TS IG
 have IU:s.ptr.isSome=true->π0 Lo=some ⟨g,0,0,λb=>b=g,λb=>b=g⟩:= λhp=>by
  show (if s.ptr.isSome=true/\Lo=Lo then _ else π Lo).map full=_
  rw [if_pos ⟨hp,rfl⟩];rfl
 obtain ⟨g1,g2⟩:(Tc s (Ux 0 s.ins x)).length=ke.length/\ ∀(i:Nat) c v,(Tc s (Ux 0 s.ins x))[i]?=some c->ke[i]?=some v->Am ⟨w,Sg,Oi l5,π0⟩ w π0 (kz s x) c v:=by
  unfold iT at Kz
  cases hp:s.ptr with
  |none=>
   rw [hp] at Kz
   obtain ⟨rfl,GN⟩:=Kz
   obtain ⟨g1,g2,_,_⟩:=Yc s.Ha _ us GN UM
   rw [show Tc s (Ux 0 s.ins x)=Mi s.Ha (Ux 0 s.ins x) by unfold Tc;rw [hp]]
   exact ⟨g1,g2⟩
  |some p=>
   rw [hp] at Kz
   obtain ⟨rfl,GN,_⟩:=Kz
   obtain ⟨g1,g2,_,_⟩:=Yc s.Ha _ (us.drop p.2) GN (Hy.take p.2 UM).2
   rw [show Tc s (Ux 0 s.ins x)= .at (.Dw Lo 0)::Mi s.Ha ((Ux 0 s.ins x).drop p.2) by unfold Tc;rw [hp]]
   refine ⟨by simp [g1],λi c v h1 h2=>?_⟩
   rcases i with _|i
   ·simp only [List.getElem?_cons_zero,Option.some.injEq] at h1 h2
    subst h1;subst h2
    exact ⟨_,p.1,(Ux 0 s.ins x).take p.2,by rw [AX,UR];simp [hp],IU (by rw [hp];rfl),rfl⟩
   ·exact g2 i c v (by simpa using h1) (by simpa using h2)
 have h0:Rel ⟨w,Sg,Oi l5,π0⟩ {tmps:=Tc s (Ux 0 s.ins x)++List.replicate (fn.ntmps-(Tc s (Ux 0 s.ins x)).length) .undef,heap:=kz s x}
   {tmps:=ke.toArray++Array.replicate (fn.ntmps-ke.toArray.size) undef,defers:= []} w:=by
  refine ⟨π0,⟨Gf.refl _ _ _,λb hb=>Ae8 b hb,λl q b h1 h2=>?_,λl q b h1 h2=>?_,λl l' q q' b h1 h2 h3 h4=>?_,λl _ _=>Ul.rfl' _,λl=>?_⟩,⟨by simp [g1],rfl,λt=>?_⟩⟩
  ·obtain ⟨q0,_,rfl⟩:=un l q h1;exact h2
  ·obtain ⟨q0,h3,rfl⟩:=un l q h1
   exact ⟨.inr ⟨l,q0,h3,h2⟩,Aa6.Nh l q0 b h3 h2⟩
  ·obtain ⟨q0,h5,rfl⟩:=un l q h1
   obtain ⟨VX,h6,rfl⟩:=un l' q' h2
   exact Aa6.inj l l' q0 VX b h5 h6 h3 h4
  ·cases hh:Ae (Sf 0 s.ins x) l with
   |none=>
    by_cases hv:s.ptr.isSome=true/\l=Lo
    ·obtain ⟨XV,rfl⟩:=hv
     obtain ⟨p,hp⟩:=Option.isSome_iff_exists.1 XV
     refine Dh.Io (b:= .var p.1 ((Ux 0 s.ins x).take p.2)) ?_ (by rw [AX,hh];simp [hp])
     unfold iT at Kz
     rw [hp] at Kz
     obtain ⟨_,_,h1,h2,h3⟩:=Kz
     rw [IU XV]
     exact ⟨_,rfl,rfl,_,h2,Hy.to (Hy.take p.2 UM).1 h3⟩
    ·refine Dh.Pc ?_ ?_
     ·show (if s.ptr.isSome=true/\l=Lo then _ else π l).map full=none
      rw [if_neg hv,IB l hh];rfl
     ·rw [AX,hh]
      simp only
      split
      ·rename_i e
       cases hp:s.ptr with
       |none=>rfl
       |some p=>exact absurd ⟨by rw [hp];rfl,e⟩ hv
      ·rfl
   |some b=>exact Dh.Io (fE (π0:=l5) (λb hb=>by
    rcases hb with ⟨l,q,h1,h2⟩|hb|⟨hb,_⟩
    ·obtain ⟨q0,h3,rfl⟩:=un l q h1;exact .inl ⟨l,q0,h3,h2⟩
    ·exact .inr hb
    ·cases hb) rfl (λ_=>rfl) s.ins 0 x us TS l b hh) (IG l b hh)
  ·show Am _ w _ _ ((Tc s (Ux 0 s.ins x)++List.replicate _ AV.undef).getD t .undef) ((ke.toArray++Array.replicate _ undef).getD t undef)
   by_cases ht:t<ke.length
   ·rw [List.getD_eq_getElem?_getD,List.getElem?_append_left (by omega),<-List.getD_eq_getElem?_getD]
    rw [Array.getD_eq_getD_getElem?,Array.getElem?_append_left (by simpa using ht)]
    have:=g2 t _ _ (List.getElem?_eq_getElem (by omega)) (List.getElem?_eq_getElem ht)
    simpa [List.getD_eq_getElem?_getD,List.getElem?_eq_getElem ht,List.getElem?_eq_getElem (show t<(Tc s (Ux 0 s.ins x)).length by omega)] using this
   ·have:(Tc s (Ux 0 s.ins x)++List.replicate (fn.ntmps-(Tc s (Ux 0 s.ins x)).length) AV.undef).getD t .undef= .undef:=by
     rw [List.getD_eq_getElem?_getD,List.getElem?_append_right (by omega)]
     rw [List.getElem?_replicate]
     split<;>rfl
    rw [this];trivial
 have fin: ∀(st:St) (a':Act) (w':World),GW T s fn x st (λz=>z=(r,o))->Rel ⟨w,Sg,Oi l5,π0⟩ st a' w'->YK P s fn x w S π g r o a' w':=by
  intro st a' w' lh IN
  obtain ⟨Vo,h'⟩:=IN
  have RT:Aj<=Lo:=by unfold Aj Lo;omega
  obtain ⟨bc,kx,Agg,hbc⟩: ∃bc,dF T s fn x st bc (λz=>z=(r,o))/\(s.ptr.isSome=true-> ∃b,Ae st.heap Lo=some b/\b.row=none)/\
    (Je st 0 s.ins=some o-> ∃bv,Hy ⟨w,Sg,Oi l5,π0⟩ w' Vo st.heap bc bv/\bv.length=s.Td/\ ∀tl,eY s π w' g (bv++tl) o):=by
   unfold GW at lh
   cases hp:s.ptr with
   |none=>
    rw [hp] at lh
    exact ⟨[],lh,λh=>by simp at h,λ_=>⟨[],trivial,by simp [MSpec.Td,hp],λtl=>by simp [eY,hp]⟩⟩
   |some p=>
    rw [hp] at lh
    obtain ⟨vs,cs,h1,h2,h3,h4,h5⟩:=lh
    unfold St.at at h1
    refine ⟨cs,h5,λ_=>⟨_,h1,rfl⟩,λs6=>?_⟩
    obtain ⟨q,k1,k2,cur,k3,k4⟩:=(h'.1.heap Lo).Ma h1
    have hsv:Ul (π0 Lo) (Vo Lo):=h'.1.cz Lo RT (by rw [h1];simp)
    rw [IU (by rw [hp];rfl),k1] at hsv
    have hqg:g=q.g:=hsv.1
    obtain ⟨bv,g1,g2,g3⟩:=Rj (π0:=l5) (λk hk=>h'.1.cz _ (Nat.le_of_not_lt (Ua k)) hk) s.ins 0 vs cur.toList cs o (Hy.of k4) h3 h4 s6
    refine ⟨bv,g1,by rw [g2,h2];simp [MSpec.Td,hp],λtl=>?_⟩
    unfold eY
    rw [hp]
    refine ⟨cur.toList,by rw [hqg];simpa using k3,λu hu=>?_,Cc.congr s.ins 0 o p.2 _ _ RM (h2▸g3 tl)⟩
    obtain ⟨i,hi,rfl⟩:=List.mem_iff_getElem.1 hu
    have hl:=k4.1
    obtain ⟨u',h6,h7,_⟩:=k4.2 i (vs[i]'(by omega)) (List.getElem?_eq_getElem _)
    rw [List.getElem?_eq_getElem hi] at h6
    rw [Option.some.inj h6];exact h7
  unfold dF at kx
  split at kx
  ·exact kx.elim
  rename_i l hl
  split at kx
  ·exact kx.elim
  rename_i as ml cb
  split at kx
  rotate_left
  ·exact kx.elim
  rename_i r' ls o' mN qe
  obtain ⟨Ff,qj,IP⟩:=kx
  simp only [Bool.and_eq_true,Nat.blt_eq] at Ff
  obtain ⟨⟨⟨oT,Ak6⟩,Ai9⟩,ZY⟩:=Ff
  simp only [Prod.mk.injEq] at IP
  obtain ⟨rfl,rfl⟩:=IP
  obtain ⟨bv,hbv,Aek,Aei⟩:=hbc qe
  have yq:=Qt oT
  obtain ⟨n1,n2,n3⟩:=List.nodup_append.1 yq
  obtain ⟨m1,m2,m3⟩:=List.nodup_append.1 n1
  obtain ⟨vs,v1,v2,v3,v4⟩:=Qv hT h' _ _ hl
  have ON:fn.results=fn.results.toList.toArray:=Array.toArray_toList.symm
  have Og: ∀v,(if h:vs.toArray.size=1 then vs.toArray[0] else .tuple vs.toArray)=v->(results fn a'.tmps).run P w'= .ok v w':=by
   intro v hv
   rw [al,ON,List.mapM_toArray]
   simp only [map_eq_pure_bind,bind_assoc,pure_bind]
   simp only [Sem.run_bind,wO (zi a'.tmps) _ vs v1 v3,Result.andThen_ok,Sem.run_pure]
   rw [hv]
  obtain ⟨pM,v,qm,Agf,hv,RU⟩: ∃pM v qm,Hy ⟨w,Sg,Oi l5,π0⟩ w' Vo st.heap as pM/\(results fn a'.tmps).run P w'= .ok v w'/\
    ((s.rp=none/\ml= []/\qm=none/\KQ s.Ee s.Gd pM v/\Wl s.Gd pM)\/
     ∃tid m q,s.rp=some tid/\ml= [m]/\m<Aj/\qm=some q/\Vo m=some q/\q.Ay q.g/\w'.heap[q.g]?=some (.cells pM.toArray tid (0,0))/\(∀u∈pM,u.oneCell'=true)/\v= .pointer (some ⟨q.g,0,none⟩)):=by
   unfold zh at cb
   split at cb
   ·rename_i xD
    split at cb
    rotate_left
    ·cases cb
    rename_i hmul
    cases GP:ungroup s.Gd l with
    |none=>rw [GP] at cb;cases cb
    |some as'=>
     rw [GP] at cb
     simp only [Option.map_some,Option.some.injEq,Prod.mk.injEq] at cb
     obtain ⟨rfl,rfl⟩:=cb
     obtain ⟨pM,e1,e2,e3⟩:=Wn s.Gd l vs as' (by omega) v4 GP
     have hv: ∃v,(results fn a'.tmps).run P w'= .ok v w'/\KQ s.Ee s.Gd pM v:=by
      unfold KQ
      rw [<-e1,hmul]
      rcases Nat.lt_or_ge 1 l.length with h1|h1
      ·have HZ:Nat.blt 1 l.length=true:=by simpa using h1
       simp only [HZ,if_true]
       refine ⟨.tuple vs.toArray,Og _ ?_,rfl⟩
       rw [dif_neg (by simp;omega)]
      ·have HZ:Nat.blt 1 l.length=false:=by rw [<-Bool.not_eq_true];simpa using h1
       simp only [HZ,Bool.false_eq_true,if_false]
       rcases vs with _|⟨v,_|⟨v',vs⟩⟩
       ·exact ⟨_,Og _ (by simp;rfl), .inr rfl⟩
       ·exact ⟨v,Og _ (by simp), .inl rfl⟩
       ·exfalso;simp only [List.length_cons] at v1;omega
     obtain ⟨v,hv1,hv2⟩:=hv
     exact ⟨pM,v,none,e3,hv1, .inl ⟨xD,rfl,rfl,hv2,e2⟩⟩
   ·rename_i tid xD
    split at cb
    rotate_left
    ·cases cb
    rename_i m i
    split at cb
    rotate_left
    ·cases cb
    rename_i Nr ur hm
    split at cb
    rotate_left
    ·cases cb
    rename_i hc
    obtain ⟨rfl,rfl,MS⟩:=hc
    simp only [Option.some.injEq,Prod.mk.injEq] at cb
    obtain ⟨rfl,rfl⟩:=cb
    unfold St.at at hm
    rcases vs with _|⟨v,_|⟨v',vs⟩⟩
    ·exfalso;simp only [List.length_cons,List.length_nil] at v1 v2;omega
    ·obtain ⟨q,Ame,vs2,q1,q2,q3⟩:=v4 0 _ v rfl rfl
     rw [hm] at q1;cases q1
     obtain ⟨q',k1,k2,cur,k3,k4⟩:=(h'.1.heap m).Ma hm
     rw [q2] at k1;cases k1
     refine ⟨cur.toList,v,some q,Hy.of k4,Og _ (by simp), .inr ⟨_,m,q,xD,rfl,by simpa using MS,rfl,q2,k2,by simpa using k3,λu hu=>?_,q3⟩⟩
     obtain ⟨i,hi,rfl⟩:=List.mem_iff_getElem.1 hu
     have hl:=k4.1
     obtain ⟨u',h6,h7,_⟩:=k4.2 i (ur[i]'(by omega)) (List.getElem?_eq_getElem _)
     rw [List.getElem?_eq_getElem hi] at h6
     rw [Option.some.inj h6];exact h7
    ·exfalso;simp only [List.length_cons,List.length_nil] at v1 v2;omega
  obtain ⟨uu,p1,p2,p3,p4,p5⟩:=qI h'.1 s.outs 0 (bc++as) (bv++pM) r' ls (hbv.append Agf) mN m2
  obtain ⟨io1,io2⟩:=Ni (π0:=l5) h'.1 (λ_=>rfl) s.ins 0 x us o' TS qe
  have ZM:(bv++pM).drop s.Td=pM:=by rw [<-Aek];simp
  let ρ:Pi:= λl0=>if l0=Fp s.outs.length then qm else uu l0
  have UW:ρ (Fp s.outs.length)=qm:=if_pos rfl
  have Aax: ∀l0,l0≠Fp s.outs.length->ρ l0=uu l0:= λl0 h=>if_neg h
  have Aaw: ∀j,j<s.outs.length->ρ (Fp j)=uu (Fp j):= λj hj=>Aax _ (by unfold Fp;omega)
  have oB: ∀l0 q,ρ l0=some q->(l0=Fp s.outs.length/\qm=some q)\/(l0≠Fp s.outs.length/\uu l0=some q):= λl0 q h=>by
   by_cases e:l0=Fp s.outs.length
   ·subst e;rw [UW] at h;exact .inl ⟨rfl,h⟩
   ·rw [Aax l0 e] at h;exact .inr ⟨e,h⟩
  have Aaa: ∀q,qm=some q-> ∃m,ml= [m]/\m<Aj/\Vo m=some q:= λq hq=>by
   rcases RU with ⟨_,_,h1,_⟩|⟨_,m,q',_,h1,h2,h3,h4,_⟩
   ·rw [h1] at hq;cases hq
   ·rw [h3] at hq;cases hq;exact ⟨m,h1,h2,h4⟩
  have p3': ∀l0 q b,ρ l0=some q->q.Ay b-> ∃l1∈ml++ls,∃p,Vo l1=some p/\p.cl b/\((s.outs.all λc=>!c.SG)=true->p.Ay b)/\((l1∈ls)\/l1<Aj):= λl0 q b h1 h2=>by
   rcases oB l0 q h1 with ⟨_,h3⟩|⟨_,h3⟩
   ·obtain ⟨m,e1,e2,e3⟩:=Aaa q h3
    exact ⟨m,by rw [e1];simp,q,e3,h'.1.sub m q b e3 h2,λ_=>h2, .inr e2⟩
   ·obtain ⟨l1,g1,p,g2,g3,g4⟩:=p3 l0 q b h3 h2
    exact ⟨l1,List.mem_append_right _ g1,p,g2,g3,g4, .inl g1⟩
  have p4': ∀l0 l1 q q' b,ρ l0=some q->ρ l1=some q'->q.Ay b->q'.Ay b->l0=l1:= λl0 l1 q q' b h1 h2 h3 h4=>by
   have uX: ∀l0 q q' b,uu l0=some q->qm=some q'->q.Ay b->q'.Ay b->False:= λl0 q q' b h1 h2 h3 h4=>by
    obtain ⟨m,e1,e2,e3⟩:=Aaa q' h2
    obtain ⟨l1,g1,p,g2,g3,_⟩:=p3 l0 q b h1 h3
    have:=h'.1.inj m l1 q' p b e3 g2 (h'.1.sub m q' b e3 h4) g3
    exact m3 m (by rw [e1];simp) l1 g1 this
   rcases oB l0 q h1 with ⟨e1,h5⟩|⟨e1,h5⟩<;>rcases oB l1 q' h2 with ⟨e2,h6⟩|⟨e2,h6⟩
   ·rw [e1,e2]
   ·exact (uX l1 q' q b h6 h5 h4 h3).elim
   ·exact (uX l0 q q' b h5 h6 h3 h4).elim
   ·exact p4 l0 l1 q q' b h5 h6 h3 h4
  have BC: ∀l0 q,Aj<=l0->l5 l0=some q->Ae st.heap l0≠none/\(l0∈Jx 0 s.ins\/ ∃b,Ae st.heap l0=some b/\b.row=none):= λl0 q h1 h2=>by
   rcases FQ l0 q h2 with ⟨h3,_⟩|⟨h3,rfl,_⟩
   ·have s6:=qo s.ins 0 x l0 Aa1 (by omega) (λhnn=>by rw [IB l0 hnn] at h3;cases h3) (by omega)
    exact ⟨io2 l0 s6, .inl s6⟩
   ·obtain ⟨b,h4,h5⟩:=Agg h3
    exact ⟨by rw [h4];simp, .inr ⟨b,h4,h5⟩⟩
  have hDO:(s.outs.all λc=>!c.SG)=true-> ∀b,dO Sg l5 ρ b->Oi Vo b\/Sg b:=by
   intro hx b hb
   rcases hb with hb|⟨l0,q,h1,h2,h3⟩|⟨l0,q,h1,h2⟩
   ·exact .inr hb
   ·have hs:=h'.1.cz l0 h1 (BC l0 q h1 h2).1
    have hs:Ul ((l5 l0).map full) (Vo l0):=hs
    rw [h2] at hs
    cases uk:Vo l0 with
    |none=>rw [uk] at hs;exact hs.elim
    |some q1=>rw [uk] at hs;exact .inl ⟨l0,q1,uk,(hs.2.2.2 b).1 h3⟩
   ·obtain ⟨m,_,p,hm2,_,UC,_⟩:=p3' l0 q b h1 h2
    exact .inl ⟨m,p,hm2,UC hx⟩
  have hDD: ∀b,dO S π ρ b->dO Sg l5 ρ b:= λb hb=>by
   rcases hb with hb|⟨l0,q,h1,h2,h3⟩|hb
   ·by_cases GM:s.gv g b
    ·obtain ⟨XV,rfl⟩:=GM
     exact .inr (.inl ⟨Lo,_,RT,if_pos ⟨XV,rfl⟩,rfl⟩)
    ·exact .inl ⟨hb,GM⟩
   ·refine .inr (.inl ⟨l0,q,h1,?_,h3⟩)
    show (if s.ptr.isSome=true/\l0=Lo then _ else π l0)=some q
    rw [if_neg]
    ·exact h2
    ·rintro ⟨_,rfl⟩
     rw [IB Lo UR] at h2;cases h2
   ·exact .inr (.inr hb)
  have MM:s.flat=true\/(s.outs.all λc=>!c.SG)=true:=by unfold MSpec.JP at ZY;simpa only [Bool.or_eq_true] using ZY
  have io1:Hd w' (dO S π ρ) π 0 s.ins o':=by
   refine Hd.congr s.ins 0 o' RM ?_
   rcases MM with hf|hf
   ·unfold MSpec.flat at hf
    simp only [Bool.and_eq_true] at hf
    exact Hd.any s.ins 0 o' hf.2 io1
   ·exact Hd.Ev (λb hb=>hDO hf b (hDD b hb)) s.ins 0 o' io1
  have p1:Ex w' (dO S π ρ) ρ 0 s.outs r' (bv++pM):=by
   have p1:Ex w' (λb=>Oi Vo b\/Sg b) ρ 0 s.outs r' (bv++pM):=Ex.HM s.outs 0 r' _ (λj _ hj=>Aaw j (by omega)) p1
   rcases MM with hf|hf
   ·unfold MSpec.flat at hf
    simp only [Bool.and_eq_true] at hf
    exact Ex.any s.outs 0 r' (bv++pM) hf.1 p1
   ·exact Ex.Ev (λb hb=>hDO hf b (hDD b hb)) s.outs 0 r' (bv++pM) p1
  refine ⟨v,bv++pM,ρ,h'.2.defers,hv,?_,Aei pM,⟨h'.1.below.os,h'.1.below.tape,h'.1.below.output,h'.1.below.size,λk hk hn=>h'.1.below.block k hk λho=>hn ((Yf k).1 ho)⟩,io1,p1,⟨λl0 q b h1 h2=>?_,p4'⟩,λl0 TZ=>?_,λkj mJ=>?_⟩
  ·rw [ZM]
   unfold lW
   rcases RU with ⟨h1,_,_,h2⟩|⟨tid,m,q,h1,_,_,h3,_,h4,h5,h6,h7⟩
   ·rw [h1];exact h2
   ·rw [h1];exact ⟨q,by rw [UW,h3],h4,h5,h6,h7⟩
  ·obtain ⟨m,RO,p,hm2,UB,_,UC⟩:=p3' l0 q b h1 h2
   obtain ⟨k1,k2⟩:=h'.1.place m p b hm2 UB
   refine ⟨k2,k1.imp id λ⟨c0,q0,h5,h6⟩=>?_⟩
   have Ho:c0<Aj:=Classical.byContradiction λhn=>by
    obtain ⟨El,s6⟩:=BC c0 q0 (by omega) h5
    have hs:=h'.1.cz c0 (by omega) El
    have hs:Ul ((l5 c0).map full) (Vo c0):=hs
    rw [h5] at hs
    cases uk:Vo c0 with
    |none=>rw [uk] at hs;exact hs.elim
    |some q1=>
     rw [uk] at hs
     have hf1:q1.Ay b:=(hs.2.2.2 b).1 h6
     have:=h'.1.inj c0 m q1 p b uk hm2 (h'.1.sub c0 q1 b uk hf1) UB
     subst this
     rcases UC with UC|UC
     ·rcases s6 with s6|⟨b1,HZ,ZF⟩
      ·exact n3 c0 RO c0 s6 rfl
      ·obtain ⟨b2,hb3,hb4⟩:=nq s.outs _ _ _ mN c0 UC
       rw [HZ] at hb3;cases hb3
       exact hb4 ZF
     ·exact hn UC
   refine ⟨c0,q0,Ho,?_,h6⟩
   rcases FQ c0 q0 h5 with ⟨h7,_⟩|⟨_,h7,_⟩
   ·exact h7
   ·omega
  ·cases hp:ρ l0 with
   |none=>rfl
   |some q=>
    rcases oB l0 q hp with ⟨e,h3⟩|⟨_,h3⟩
    ·refine absurd e (TZ _ ?_)
     rcases RU with ⟨_,_,h4,_⟩|⟨tid,m,q',h4,_⟩
     ·rw [h4] at h3;cases h3
     ·unfold MSpec.Nn;rw [h4];simp
    ·obtain ⟨j,_,j2,j3⟩:=p2 l0 q h3
     exact absurd j3 (TZ j (by unfold MSpec.Nn;omega))
  ·obtain ⟨l0,off,len,e,te,rows,out,p,q1,q2,q3,q4,q5⟩:=qv qj kj mJ
   have hj:kj.2<s.outs.length:=by
    rw [<-qH s.outs _ _ _ mN]
    exact (List.getElem?_eq_some_iff.1 q1).1
   have e1:=p5 kj.2 l0 off len e te rows out (some p) q1 q2
   rw [Nat.zero_add] at e1
   rw [Aaw _ hj,e1]
   have hk:=((h'.1.heap l0).Ma q2).2
   obtain ⟨l1,n1⟩:=p
   simp only [KeptAt] at hk
   dsimp only at q3 q4
   subst q3
   have CY:π0 (Bq false kj.1)=(π (Bq false kj.1)).map full:=by
    show (if s.ptr.isSome=true/\Bq false kj.1=Lo then _ else π (Bq false kj.1)).map full=_
    rw [if_neg λh=>hvl false kj.1 q5 h.2]
   rw [CY] at hk
   unfold ux
   cases hp:π (Bq false kj.1) with
   |none=>
    rw [hp] at hk
    cases uk:Vo l0 with
    |none=>trivial
    |some q=>rw [uk] at hk;exact hk.elim
   |some q0=>
    rw [hp] at hk
    cases uk:Vo l0 with
    |none=>rw [uk] at hk;exact hk.elim
    |some q=>
     rw [uk] at hk
     obtain ⟨k1,k2,k3,k4⟩:=hk
     exact ⟨k1,k2,k3,λj hj hc=>k4 j (by omega) hc⟩
 refine calls_of_wp hf hb ?_
 refine (nH hT Mb hm he _ w _ h0 λe st a' w' ⟨El,lh⟩ h'=>?_).1
 obtain ⟨v,Sq,ρ,p1,p2,p3⟩:=fin st a' w' lh h'
 cases e with
 |normal=>exact ⟨p1,v,p2,v,Sq,ρ,rfl,p3⟩
 |ret=>exact ⟨p1,v,p2,v,Sq,ρ,rfl,p3⟩
 |exit id=>exact absurd rfl (El id)
end
end Go.Proofs.Ytjbdmibbbpdnnaa
