/-
  Part 27 of the proof that the statement FnExactMethodLength holds.
-/
import Derived.Test.YtjbdmibbbpdnnaaCMethodLength25
namespace Go.Proofs.Ytjbdmibbbpdnnaa
open Go.RowKit
section
variable {P:Program} {T:Tab} {Γ:Env} {X:Ctx} {w w':World} {π:Pi} {H:List (Nat×OB)}
theorem nd: ∀(cs:List (Bool×CK)) (k:Nat) (x:Ins.den cs) (l:Nat),Ae (Sh k cs x) l≠none-> ∃b j,k<=j/\j<k+cs.length/\l=Bq b j
 | [],_,_,_,h=>absurd rfl h
 |p::r,k,x,l,h=>by
  simp only [Sh] at h
  by_cases e:l=Bq p.1 k
  ·exact ⟨p.1,k,Nat.le_refl _,by simp,e⟩
  ·have:Ae (Sh (k+1) r x.2) l≠none:=by
    cases hc:ef (Bq p.1 k) p.2 x.1 with
    |none=>rw [hc] at h;exact h
    |some b=>rw [hc] at h;simpa only [c8,Ae,if_neg (Ne.symm e)] using h
   obtain ⟨b,j,h1,h2,h3⟩:=nd r (k+1) x.2 l this
   exact ⟨b,j,by omega,by simp;omega,h3⟩
theorem EH {p:Bool×CK} {r:List (Bool×CK)} {k:Nat} {x:Ins.den (p::r)} (hk:k+(r.length+1)<100000) {l:Nat} {b:OB} (h:Ae (Sh (k+1) r x.2) l=some b):Ae (Sh k (p::r) x) l=some b:=by
 obtain ⟨b',j,h1,h2,rfl⟩:=nd r (k+1) x.2 l (by rw [h];simp)
 simp only [Sh]
 cases ef (Bq p.1 k) p.2 x.1 with
 |none=>exact h
 |some c=>simp only [c8,Ae];rw [if_neg (CM (by omega) (by omega) (by omega))];exact h
theorem IW {D:Nat->Prop} (hD: ∀b,Be X.w0.heap.size X.Sc π false b->D b) (WM:X.w0=w) {l:Nat} {r:Option Real} (Yp:X.cR l=r.map full) {u:Value} {c:CK} {x:c.den} (h:Zl w D r u c x) {b:OB} (hb:ef l c x=some b):Au X w π H (r.map full) b:=by
 have Sd: ∀ {e:Ty} {es:List Value} {y:e.den},Cells w D e es y->Cells w (Be X.w0.heap.size X.Sc π false) e es y:= λ {e es y} h=>Cells.Cr (Nat.le_refl _) (λ_ _ _=>rfl) (λb _ hb=>hD b hb) e es y h
 cases c with
 |Gt τ=>cases hb
 |row e te=>
  simp only [ef,Option.some.injEq] at hb;subst hb
  obtain ⟨_,h⟩:=h
  simp only [aY] at h
  simp only [Au,Fv]
  cases r with
  |none=>exact h
  |some q=>
   obtain ⟨k1,cu,ti,k2,k3,k4,k5,k6⟩:=h
   exact ⟨⟨k1.1,k1.2,λh=>by cases h⟩,cu,ti,k2,k3,k4,k5,λi y hy=>by
    obtain ⟨es,g1,g2,g3⟩:=k6 i y hy
    exact ⟨es,g1,g2,Sd g3⟩,λh=>by cases h⟩
 |Dx e te=>
  simp only [ef,Option.some.injEq] at hb;subst hb
  cases r<;>exact h.2
 |part e te=>
  simp only [ef,Option.some.injEq] at hb;subst hb
  obtain ⟨_,hf,h⟩:=h
  simp only [Au,Fv]
  cases r with
  |none=>exact h
  |some q=>
   obtain ⟨k1,cu,ti,k2,k3,k4,k5,k6⟩:=h
   exact ⟨⟨k1.1,k1.2,λh=>by cases h⟩,cu,ti,k2,k3,k4,k5,λi y hy=>by
    obtain ⟨es,g1,g2,g3⟩:=k6 i y hy
    exact ⟨es,g1,g2,Sd g3⟩,λh=>by cases h⟩
 |Ak e te kp=>
  simp only [ef,Option.some.injEq] at hb;subst hb
  have h2:Sx w D r e x none:=h.2
  have h3:=Sx.Fb h2 hD
  refine ⟨by cases r<;>exact h3,?_⟩
  cases kp with
  |false=>trivial
  |true=>
   simp only [if_true,KeptAt]
   rw [Yp]
   cases r with
   |none=>trivial
   |some q=>exact ⟨rfl,rfl,rfl,λj _ _=>by rw [WM]⟩
theorem fO {D:Nat->Prop} (hD: ∀b,Be X.w0.heap.size X.Sc π false b->D b) (WM:X.w0=w) {π0:Pi} (Yp: ∀l,X.cR l=(π0 l).map full): ∀(cs:List (Bool×CK)) (k:Nat) (x:Ins.den cs) (us:List Value),Zn w D π0 k cs x us-> ∀l b,Ae (Sh k cs x) l=some b->Au X w π H ((π0 l).map full) b
 | [],_,_,_,_,_,_,h=>by cases h
 |_::_,_,_,[],h,_,_,_=>h.elim
 |p::r,k,x,u::us,h,l,b,hb=>by
  simp only [Sh] at hb
  cases hc:ef (Bq p.1 k) p.2 x.1 with
  |none=>rw [hc] at hb;exact fO hD WM Yp r (k+1) x.2 us h.2 l b hb
  |some c=>
   rw [hc] at hb
   simp only [c8,Ae] at hb
   split at hb
   ·rename_i e;subst e
    simp only [Option.some.injEq] at hb;subst hb
    exact IW hD WM (Yp _) h.1 hc
   ·exact fO hD WM Yp r (k+1) x.2 us h.2 l b hb
theorem w7 {S:Nat->Prop} {π0:Pi} {gv:Nat->Prop} {cR:Pi} (Yo: ∀l,π l=(π0 l).map full): ∀(cs:List (Bool×CK)) (k:Nat) (x:Ins.den cs) (us:List Value),k+cs.length<100000->Zn w (λb=>Nn π0 b\/S b) π0 k cs x us->(∀l b,Ae (Sh k cs x) l=some b->Ae H l=some b)->
  Hx ⟨w,S,gv,cR⟩ w π H (Vc k cs x) us
 | [],_,_,[],_,_,_=>trivial
 | [],_,_,_::_,_,h,_=>h.elim
 |_::_,_,_,[],_,h,_=>h.elim
 |p::r,k,x,u::us,hk,h,hH=>by
  simp only [List.length_cons] at hk
  refine ⟨?_,w7 Yo r (k+1) x.2 us (by omega) h.2 λl b hb=>hH l b (EH hk hb)⟩
  have h1:=h.1
  have hh: ∀b,ef (Bq p.1 k) p.2 x.1=some b->Ae H (Bq p.1 k)=some b:= λb hb=>hH _ b (by simp only [Sh];rw [hb];simp [c8,Ae])
  have bN:=Yo (Bq p.1 k)
  obtain ⟨io,c⟩:=p
  dsimp only at h1 hh bN⊢
  generalize x.1=y at*
  cases c with
  |Gt τ=>
   show Bd w _ τ u y
   cases hf:τ.flat with
   |true=>exact Bd.flat hf h1.2
   |false=>
    refine h1.2.Fb λb _ hb=>?_
    rcases hb with ⟨l,q,h3,h4⟩|hb|⟨hb,_⟩
    ·rw [Yo l] at h3
     cases hp:π0 l with
     |none=>rw [hp] at h3;cases h3
     |some q0=>rw [hp] at h3;simp only [Option.map_some,Option.some.injEq] at h3;subst h3;exact .inl ⟨l,q0,hp,h4⟩
    ·exact .inr hb
    ·cases hb
  |row e te=>exact ⟨_,e.size,List.length y,hh _ rfl,rfl,by simp,by rw [bN];exact Sl h1.1⟩
  |Dx e te=>exact ⟨_,e.size,List.length y,hh _ rfl,rfl,by simp,by rw [bN];exact Sl h1.1⟩
  |part e te=>exact ⟨_,e.size,List.length y.1,hh _ rfl,rfl,h1.1.2,by rw [bN];exact Sl h1.1.1⟩
  |Ak e te kp=>exact ⟨_,1,List.length y,hh _ rfl,rfl,by simp,by rw [bN];exact Sl h1.1⟩
theorem jM {p:Real} {s off len:Nat} {u:Value} {f:Nat->Prop} (h:Dq (some p) s off len u):Dq (some ⟨p.g,p.o+off,p.cap-off,f,f⟩) s 0 len u:=by
 obtain ⟨ad,h1,h2,h3⟩:=h
 exact ⟨ad,h1,by dsimp only;omega,λh0=>by dsimp only at h0;simpa using h3 (by omega)⟩
theorem nK {α:Type} {xs:List α} {off len i:Nat} {x:α} (h:((xs.drop off).take len)[i]?=some x):xs[off+i]?=some x:=by
 rw [List.getElem?_take] at h
 split at h
 ·rw [List.getElem?_drop] at h;exact h
 ·cases h
theorem Qb.part {P:Nat->Prop} {g o:Nat} {cur:Array Value} {e:Ty} {xs:List e.den} (off len:Nat) (h:Qb w P g o cur e xs):Qb w P g (o+off) cur e ((xs.drop off).take len):=by
 obtain ⟨Fs,t1,t2,t3,t4⟩:=h
 refine ⟨(Fs.drop off).take len,by simp [t1],List.nodup_cons.2 ⟨λhm=>(List.nodup_cons.1 t2).1 (Ly off len _ hm),fW off len (List.nodup_cons.1 t2).2⟩,λb hb=>t3 b (Ly off len b hb),λi x F hx hF=>?_⟩
 obtain ⟨es,k1,k2,k3⟩:=t4 (off+i) x F (nK hx) (nK hF)
 exact ⟨es,k1,λj u hu=>by rw [Nat.add_assoc o off i];exact k2 j u hu,k3⟩
theorem FA {st:St} (h:Hw X w π st.heap) {c:CK} (hg: ∀e te kp,c≠ .Ak e te kp) {a:AC} {u:Value} (hu:Ea X w π st.heap a u) {x:c.den} {ls:List Nat} (he:eh st c a=some (x,ls)):
  ∃r,Zl w (λb=>Nn π b\/X.Sc b) r u c x/\ ∀q,r=some q-> ∃l p,ls= [l]/\π l=some p/\(∀b,q.Ax b->p.cl b)/\(c.UB=false-> ∀b,q.Ax b->p.Ax b):=by
 have JI: ∀ {f:Bool} (b:Nat),(Nn π b\/X.Sc b)->Be X.w0.heap.size X.Sc π f b:= λb h=>h.imp id .inl
 cases c with
 |Gt τ=>
  simp only [eh] at he
  split at he
  ·rename_i hf
   cases hv:Bm st τ a with
   |none=>rw [hv] at he;cases he
   |some p=>
    obtain ⟨fr,y⟩:=p
    rw [hv] at he
    simp only [Option.map_some,Option.some.injEq,Prod.mk.injEq] at he
    obtain ⟨rfl,rfl⟩:=he
    refine ⟨none,⟨rfl,?_⟩,λq hq=>by cases hq⟩
    have Fb: ∀f,Bd w (Be X.w0.heap.size X.Sc π f) τ u y->Bd w (λb=>Nn π b\/X.Sc b) τ u y:= λf hr=>hr.Fb λk _ hk=>JI k hk
    cases a with
    |data f Ji z=>
     rw [Iv] at hv
     split at hv
     ·rename_i ht;subst ht
      simp only [Option.some.injEq,Prod.mk.injEq] at hv
      obtain ⟨_,rfl⟩:=hv
      exact Fb f hu
     ·have Pc:τ.Ac=false:=by unfold cb at hv;split at hv<;>first|rfl|cases hv
      exact Fb _ ⟨[u],Xf hv hu,by simp [As,Pc]⟩
    |Hk=>
     have hu:u= .slice none 0 0:=hu
     subst hu
     cases τ<;>simp only [Bm,Option.some.injEq,Prod.mk.injEq,reduceCtorEq] at hv
     ·obtain ⟨_,rfl⟩:=hv;exact ⟨[_],⟨none,0,0,rfl,rfl,Nat.le_refl _, .inl rfl⟩,rfl⟩
     ·obtain ⟨_,rfl⟩:=hv;exact ⟨[_], .inl ⟨rfl,0,rfl⟩,rfl⟩
    |Pw=>
     have hu:u= .pointer none:=hu
     subst hu
     cases τ<;>simp only [Bm,Option.some.injEq,Prod.mk.injEq,reduceCtorEq] at hv
     obtain ⟨_,rfl⟩:=hv;exact ⟨[_], .inl ⟨rfl,rfl⟩,rfl⟩
    |_=>cases τ<;>simp [AC.settled,Ty.flat,Bm] at hf hv
  ·cases he
 |row e te=>
  cases a<;>simp only [eh] at he<;>try (cases he;done)
  ·simp only [Option.some.injEq,Prod.mk.injEq] at he
   obtain ⟨rfl,rfl⟩:=he
   have hu:u= .slice none 0 0:=hu
   exact ⟨none,⟨⟨hu,rfl,rfl⟩,rfl⟩,λq hq=>by cases hq⟩
  ·rename_i l off len
   split at he
   ·rename_i fr tr e' Lf xs hl
    split at he
    ·rename_i hc
     obtain ⟨rfl,rfl⟩:=hc
     simp only [Option.some.injEq,Prod.mk.injEq] at he
     obtain ⟨rfl,rfl⟩:=he
     unfold St.at at hl
     obtain ⟨h1,h2⟩:=Jm hu hl
     have hb:=(h.heap l).Mh hl
     simp only [Au,Fv] at hb
     have hlen:((xs.drop off).take len).length=len:=by simp;omega
     cases hp:π l with
     |none=>
      rw [hp] at h2 hb
      obtain ⟨rfl,rfl,rfl⟩:=h2
      exact ⟨none,⟨⟨rfl,rfl,by simp⟩,by show (xs.drop 0).take 0= [];simp⟩,λq hq=>by cases hq⟩
     |some p=>
      rw [hp] at h2 hb
      obtain ⟨k1,cur,ti,k2,k3,k4,k5,k6,_⟩:=hb
      have ho:=h2
      obtain ⟨ad,_,mS,_⟩:=h2
      refine ⟨some ⟨p.g,p.o+off,p.cap-off,p.Ax,p.Ax⟩,⟨by rw [hlen];exact jM ho,⟨k1.1,k1.2.1⟩,cur,ti,k2,by rw [k3];congr 1;dsimp only;omega,by dsimp only;omega,by rw [hlen];dsimp only;omega,λi y hy=>?_⟩,
       fun q hq=>by cases hq;exact ⟨l,p,rfl,hp,λb hb=>h.sub l p b hp hb,λ_ b hb=>hb⟩⟩
      obtain ⟨es,g1,g2,g3⟩:=k6 (off+i) y (nK hy)
      exact ⟨es,g1,λj u hu=>by dsimp only;rw [Nat.add_assoc p.o off i];exact g2 j u hu,Cells.Cr (Nat.le_refl _) (λ_ _ _=>rfl) (λb _ hb=>JI b hb) e' es y g3⟩
    ·cases he
   ·cases he
 |Dx e te=>
  cases a<;>simp only [eh] at he<;>try (cases he;done)
  ·simp only [Option.some.injEq,Prod.mk.injEq] at he
   obtain ⟨rfl,rfl⟩:=he
   have hu:u= .slice none 0 0:=hu
   exact ⟨none,⟨⟨hu,rfl,rfl⟩,rfl⟩,λq hq=>by cases hq⟩
  ·rename_i l off len
   split at he
   ·rename_i fr tr e' Lf xs hl
    split at he
    ·rename_i hc
     obtain ⟨rfl,rfl,hf⟩:=hc
     simp only [Option.some.injEq,Prod.mk.injEq] at he
     obtain ⟨rfl,rfl⟩:=he
     unfold St.at at hl
     obtain ⟨h1,h2⟩:=Jm hu hl
     have hb:=(h.heap l).Mh hl
     simp only [Au,Fv] at hb
     have hlen:((xs.drop off).take len).length=len:=by simp;omega
     cases hp:π l with
     |none=>
      rw [hp] at h2 hb
      obtain ⟨rfl,rfl,rfl⟩:=h2
      exact ⟨none,⟨⟨rfl,rfl,by simp⟩,by show (xs.drop 0).take 0= [];simp⟩,λq hq=>by cases hq⟩
     |some p=>
      rw [hp] at h2 hb
      obtain ⟨k1,cur,ti,k2,k3,k4,k5,k6,k7⟩:=hb
      have ho:=h2
      obtain ⟨ad,_,mS,_⟩:=h2
      have ht:Qb w p.cl p.g p.o cur e' xs:=by
       simp only [Bool.or_eq_true] at hf
       rcases hf with hf|hf
       ·exact k7 hf
       ·exact gX hf k6
      exact ⟨some ⟨p.g,p.o+off,p.cap-off,p.cl,p.cl⟩,⟨by rw [hlen];exact jM ho,h.sub l p _ hp k1.1,cur,ti,k2,by rw [k3];congr 1;dsimp only;omega,by dsimp only;omega,by rw [hlen];dsimp only;omega,ht.part off len⟩,
       fun q hq=>by cases hq;exact ⟨l,p,rfl,hp,λb hb=>hb,λhx=>by cases hx⟩⟩
    ·cases he
   ·rename_i e' Lf xs hl
    split at he
    ·rename_i hc
     obtain ⟨rfl,rfl⟩:=hc
     simp only [Option.some.injEq,Prod.mk.injEq] at he
     obtain ⟨rfl,rfl⟩:=he
     unfold St.at at hl
     obtain ⟨h1,h2⟩:=Vm hu hl
     have hb:=(h.heap l).Mh hl
     simp only [Au,Ix] at hb
     have hlen:((xs.drop off).take len).length=len:=by simp;omega
     cases hp:π l with
     |none=>
      rw [hp] at h2 hb
      obtain ⟨rfl,rfl,rfl⟩:=h2
      exact ⟨none,⟨⟨rfl,rfl,by simp⟩,by show (xs.drop 0).take 0= [];simp⟩,λq hq=>by cases hq⟩
     |some p=>
      rw [hp] at h2 hb
      obtain ⟨k1,cur,ti,k2,k3,k4,k5,ht⟩:=hb
      have ho:=h2
      obtain ⟨ad,_,mS,_⟩:=h2
      exact ⟨some ⟨p.g,p.o+off,p.cap-off,p.Ax,p.Ax⟩,⟨by rw [hlen];exact jM ho,k1,cur,ti,k2,by rw [k3];congr 1;dsimp only;omega,by dsimp only;omega,by rw [hlen];dsimp only;omega,ht.part off len⟩,
       fun q hq=>by cases hq;exact ⟨l,p,rfl,hp,λb hb=>h.sub l p b hp hb,λ_ b hb=>hb⟩⟩
    ·cases he
   ·cases he
 |part e te=>cases a<;>simp [eh] at he
 |Ak e te kp=>exact absurd rfl (hg e te kp)
theorem LL {st:St} (h:Hw X w π st.heap) {c:CK} {a:AC} {u:Value} (hu:Ea X w π st.heap a u) {x:c.den} {ls:List Nat} (he:eh st c a=some (x,ls)):
  ∃r,Zl w (λb=>Nn π b\/X.Sc b) r u c x/\(∀q,r=some q-> ∃l p,ls= [l]/\π l=some p/\(∀b,q.Ax b->p.cl b)/\(c.UB=false-> ∀b,q.Ax b->p.Ax b))/\
   (∀l off len e te rows out kp,a= .own l off len->Ae st.heap l=some (.Ak e te rows out kp)->r=π l):=by
 have oW:(∀e te kp,c≠ .Ak e te kp)->(∀l off len e te rows out kp,a=AC.own l off len->Ae st.heap l=some (OB.Ak e te rows out kp)->False)->
   ∃r,Zl w (λb=>Nn π b\/X.Sc b) r u c x/\(∀q,r=some q-> ∃l p,ls= [l]/\π l=some p/\(∀b,q.Ax b->p.cl b)/\(c.UB=false-> ∀b,q.Ax b->p.Ax b))/\
   (∀l off len e te rows out kp,a= .own l off len->Ae st.heap l=some (.Ak e te rows out kp)->r=π l):= λh1 h2=>by
  obtain ⟨r,g1,g2⟩:=FA h h1 hu he
  exact ⟨r,g1,g2,λl off len e te rows out kp h3 h4=>(h2 l off len e te rows out kp h3 h4).elim⟩
 cases c with
 |Gt τ=>
  refine oW (λ_ _ _ h=>by cases h) λl off len e te rows out kp h3 h4=>?_
  subst h3
  simp only [eh] at he
  split at he
  ·rename_i hf
   cases τ<;>simp [AC.settled,Ty.flat,Bm] at hf he
  ·cases he
 |row e te=>
  refine oW (λ_ _ _ h=>by cases h) λl off len e te rows out kp h3 h4=>?_
  subst h3
  simp only [eh,St.at,h4] at he
  cases he
 |Dx e te=>
  refine oW (λ_ _ _ h=>by cases h) λl off len e te rows out kp h3 h4=>?_
  subst h3
  simp only [eh,St.at,h4] at he
  cases he
 |part e te=>cases a<;>simp [eh] at he
 |Ak e te kp=>
  cases a<;>simp only [eh] at he<;>try (cases he;done)
  rename_i l off len
  split at he
  ·rename_i e' Lf rows kp' hl
   split at he
   ·rename_i hc
    obtain ⟨rfl,rfl,rfl,rfl⟩:=hc
    simp only [Option.some.injEq,Prod.mk.injEq] at he
    obtain ⟨rfl,rfl⟩:=he
    unfold St.at at hl
    obtain ⟨b,sz,n,h1,h2,_,h3⟩:=hu
    rw [hl] at h1;cases h1
    simp only [OB.row,Option.some.injEq,Prod.mk.injEq] at h2
    obtain ⟨rfl,rfl⟩:=h2
    have hb:=((h.heap l).Mh hl).1
    refine ⟨π l,⟨h3,Sx.Fb hb λb hb=>hb.imp id .inl⟩,λq hq=>⟨l,q,rfl,hq,λb hb=>h.sub l q b hq hb,λ_ b hb=>hb⟩,λl' Amx Ams _ _ _ _ _ he _=>?_⟩
    simp only [AC.own.injEq] at he
    rw [he.1]
   ·cases he
  ·cases he
theorem Ep.congr {D:Nat->Prop} {ρ ρ':Pi} : ∀(cs:List CK) (k:Nat) (x:CKs.den cs) (us:List Value),(∀j,k<=j->ρ' (Ei j)=ρ (Ei j))->Ep w D ρ k cs x us->Ep w D ρ' k cs x us
 | [],_,_,[],_,h=>h
 | [],_,_,_::_,_,h=>h.elim
 |_::_,_,_,[],_,h=>h.elim
 |c::r,k,x,u::us,he,h=>⟨by rw [he k (Nat.le_refl _)];exact h.1,Ep.congr r (k+1) x.2 us (λj hj=>he j (by omega)) h.2⟩
theorem r8 {st:St} (h:Hw X w π st.heap): ∀(cs:List CK) (k:Nat) (as:List AC) (us:List Value) (x:CKs.den cs) (ls:List Nat),Hx X w π st.heap as us->Od st cs as=some (x,ls)->ls.Nodup->
  ∃ρ:Pi,Ep w (λb=>Nn π b\/X.Sc b) ρ k cs x us/\(∀l q,ρ l=some q-> ∃j,k<=j/\j<k+cs.length/\l=Ei j)/\(∀l q b,ρ l=some q->q.Ax b-> ∃l0∈ls,∃p,π l0=some p/\p.cl b/\((cs.all λc=>!c.UB)=true->p.Ax b))/\
   (∀l l' q q' b,ρ l=some q->ρ l'=some q'->q.Ax b->q'.Ax b->l=l')/\
   (∀(j l off len:Nat) e te rows out kp,as[j]?=some (.own l off len)->Ae st.heap l=some (.Ak e te rows out kp)->ρ (Ei (k+j))=π l)
 | [],k,[],[],x,ls,_,he,_=>by
  simp only [Od,Option.some.injEq,Prod.mk.injEq] at he
  exact ⟨λ_=>none,trivial,(λl q h=>by cases h),(λl q b h=>by cases h),(λl l' q q' b h=>by cases h),λj l off len e te rows out kp h=>by simp at h⟩
 | [],_,[],_::_,_,_,h,_,_=>h.elim
 | [],_,_::_,_,_,_,_,he,_=>by simp [Od] at he
 |_::_,_,[],_,_,_,_,he,_=>by simp [Od] at he
 |_::_,_,_::_,[],_,_,h,_,_=>h.elim
 |c::r,k,a::as,u::us,x,ls,hr,he,pj=>by
  simp only [Od] at he
  split at he
  ·rename_i x1 t1 x2 t2 h1 h2
   simp only [Option.some.injEq,Prod.mk.injEq] at he
   obtain ⟨rfl,rfl⟩:=he
   obtain ⟨n1,n2,n3⟩:=List.nodup_append.1 pj
   obtain ⟨ρ,g1,g2,g3,g4,g5⟩:=r8 h r (k+1) as us x2 t2 hr.2 h2 n2
   obtain ⟨rr,r1,r2,r3⟩:=LL h hr.1 h1
   have vB: ∀l q q0 b,ρ l=some q->rr=some q0->q.Ax b->q0.Ax b->False:= λl q q0 b h3 h4 h5 h6=>by
    obtain ⟨l0,m0,p,p1,p2,_⟩:=g3 l q b h3 h5
    obtain ⟨l1,p',e1,p1',p2',_⟩:=r2 q0 h4
    have:=h.inj l0 l1 p p' b p1 p1' p2 (p2' b h6)
    exact n3 l1 (by rw [e1];simp) l0 m0 this.symm
   refine ⟨λl=>if l=Ei k then rr else ρ l,⟨by simpa using r1,Ep.congr r (k+1) x2 us (λj hj=>if_neg (by unfold Ei;omega)) g1⟩,λl q hq=>?_,λl q b hq hb=>?_,λl l' q q' b h3 h4 h5 h6=>?_,λj l off len e te rows out kp hj hl=>?_⟩
   ·dsimp only at hq
    by_cases e:l=Ei k
    ·exact ⟨k,Nat.le_refl _,by simp,e⟩
    ·rw [if_neg e] at hq
     obtain ⟨j,j1,j2,j3⟩:=g2 l q hq
     exact ⟨j,by omega,by simp;omega,j3⟩
   ·dsimp only at hq
    by_cases e:l=Ei k
    ·rw [if_pos e] at hq
     obtain ⟨l1,p',e1,p1',p2',p3'⟩:=r2 q hq
     exact ⟨l1,by rw [e1];simp,p',p1',p2' b hb,λhx=>p3' (by simp only [List.all_cons,Bool.and_eq_true,Bool.not_eq_true'] at hx;exact hx.1) b hb⟩
    ·rw [if_neg e] at hq
     obtain ⟨l0,m0,p,p1,p2,p3⟩:=g3 l q b hq hb
     exact ⟨l0,List.mem_append_right _ m0,p,p1,p2,λhx=>p3 (by simp only [List.all_cons,Bool.and_eq_true] at hx;exact hx.2)⟩
   ·dsimp only at h3 h4
    by_cases e:l=Ei k<;>by_cases e':l'=Ei k
    ·rw [e,e']
    ·rw [if_pos e] at h3;rw [if_neg e'] at h4
     exact (vB l' q' q b h4 h3 h6 h5).elim
    ·rw [if_neg e] at h3;rw [if_pos e'] at h4
     exact (vB l q q' b h3 h4 h5 h6).elim
    ·rw [if_neg e] at h3;rw [if_neg e'] at h4
     exact g4 l l' q q' b h3 h4 h5 h6
   ·rcases j with _|j
    ·simp only [List.getElem?_cons_zero,Option.some.injEq] at hj
     show (if Ei k=Ei k then rr else ρ (Ei k))=π l
     rw [if_pos rfl]
     exact r3 l off len e te rows out kp hj hl
    ·have:=g5 j l off len e te rows out kp (by simpa using hj) hl
     show (if Ei (k+(j+1))=Ei k then rr else ρ (Ei (k+(j+1))))=π l
     rw [if_neg (by unfold Ei;omega),<-this,show k+(j+1)=k+1+j by omega]
  ·cases he
theorem xd {r r':Option Real} (h:Um (r.map full) r') {e:Ty} {xs:List e.den} {te:TypeId} {fr tr:Bool} (ha:Fv X w π r' fr tr e te xs):Lh w (λb=>Nn π b\/X.Sc b) r e xs:=by
 cases r with
 |none=>cases r' with
  |none=>exact ha
  |some q=>exact h.elim
 |some p=>cases r' with
  |none=>exact h.elim
  |some q=>
   obtain ⟨e1,e2,e3,e4⟩:=h
   obtain ⟨k1,cur,ti,k2,k3,k4,k5,k6,_⟩:=ha
   have e1:p.g=q.g:=e1
   have e2:p.o=q.o:=e2
   have e3:p.cap=q.cap:=e3
   refine ⟨⟨by rw [e1];exact (e4 _).2 k1.1,λb hb=>by rw [e1];exact k1.2.1 b ((e4 b).1 hb)⟩,cur,ti,by rw [e1];exact k2,by rw [e2,e3];exact k3,by rw [e3];exact k4,by rw [e3];exact k5,λi y hy=>?_⟩
   obtain ⟨es,g1,g2,g3⟩:=k6 i y hy
   exact ⟨es,g1,by rw [e2];exact g2,Cells.Cr (Nat.le_refl _) (λ_ _ _=>rfl) (λb _ hb=>hb.imp id .inl) e es y g3⟩
theorem FY {r r':Option Real} (h:Um (r.map full) r') {e:Ty} {xs:List e.den} {te:TypeId} (ha:Ix w r' e te xs):Ix w r e te xs:=by
 cases r with
 |none=>cases r' with
  |none=>exact ha
  |some q=>exact h.elim
 |some p=>cases r' with
  |none=>exact h.elim
  |some q=>
   obtain ⟨e1,e2,e3,e4⟩:=h
   obtain ⟨k1,cur,ti,k2,k3,k4,k5,Fs,t1,t2,t3,t4⟩:=ha
   have e1:p.g=q.g:=e1
   have e2:p.o=q.o:=e2
   have e3:p.cap=q.cap:=e3
   exact ⟨by rw [e1];exact (e4 _).2 k1,cur,ti,by rw [e1];exact k2,by rw [e2,e3];exact k3,by rw [e3];exact k4,by rw [e3];exact k5,Fs,t1,by rw [e1];exact t2,λb hb=>(e4 b).2 (t3 b hb),by rw [e2];exact t4⟩
theorem Np {st:St} {π0:Pi} {D:Nat->Prop} {w0:World} (h:Hw X w π st.heap) (Yp: ∀l,X.cR l=(π0 l).map full): ∀(cs:List (Bool×CK)) (k:Nat) (x:Ins.den cs) (us:List Value) (o:IOs.den cs),Zn w0 D π0 k cs x us->Jo st k cs=some o->
  Ha w (λb=>Nn π b\/X.Sc b) π0 k cs o/\ ∀l∈Ke k cs,Ae st.heap l≠none
 | [],_,_,_,_,_,_=>⟨trivial,λl hl=>by cases hl⟩
 |_::_,_,_,[],_,h,_=>h.elim
 |(false,c)::r,k,x,u::us,o,hi,he=>Np h Yp r (k+1) x.2 us o hi.2 (by simpa only [Jo] using he)
 |(true, .Gt τ)::r,k,x,u::us,o,hi,he=>Np h Yp r (k+1) x.2 us o hi.2 (by simpa only [Jo] using he)
 |(true, .Ak e te kp)::r,k,x,u::us,o,hi,he=>Np h Yp r (k+1) x.2 us o hi.2 (by simpa only [Jo] using he)
 |(true, .row e te)::r,k,x,u::us,o,hi,he=>by
  simp only [Jo] at he
  split at he
  ·rename_i x1 x2 h1 h2
   simp only [Option.some.injEq] at he;subst he
   obtain ⟨g1,g2⟩:=Np h Yp r (k+1) x.2 us x2 hi.2 h2
   have h0:=hi.1
   simp only [ky] at h1
   split at h1
   ·rename_i fr tr e' Lf xs hl
    split at h1
    ·rename_i hc
     obtain ⟨rfl,rfl⟩:=hc
     simp only [Option.some.injEq] at h1;subst h1
     unfold St.at at hl
     have hs:=h.cR (Bq true k) (by have:=Tz k;omega) (by rw [hl];simp)
     rw [Yp] at hs
     exact ⟨⟨xd (te:=Lf) hs ((h.heap _).Mh hl),g1⟩,λl Gk=>by
      simp only [Ke] at Gk
      rcases List.mem_cons.1 Gk with rfl|Gk
      ·rw [hl];simp
      ·exact g2 l Gk⟩
    ·cases h1
   ·cases h1
  ·cases he
 |(true, .part e te)::r,k,x,u::us,o,hi,he=>by
  simp only [Jo] at he
  split at he
  ·rename_i x1 x2 h1 h2
   simp only [Option.some.injEq] at he;subst he
   obtain ⟨g1,g2⟩:=Np h Yp r (k+1) x.2 us x2 hi.2 h2
   have h0:=hi.1
   simp only [ky] at h1
   split at h1
   ·rename_i fr tr e' Lf xs hl
    split at h1
    ·rename_i hc
     obtain ⟨rfl,rfl⟩:=hc
     simp only [Option.some.injEq] at h1;subst h1
     unfold St.at at hl
     have hs:=h.cR (Bq true k) (by have:=Tz k;omega) (by rw [hl];simp)
     rw [Yp] at hs
     exact ⟨⟨xd (te:=Lf) hs ((h.heap _).Mh hl),g1⟩,λl Gk=>by
      simp only [Ke] at Gk
      rcases List.mem_cons.1 Gk with rfl|Gk
      ·rw [hl];simp
      ·exact g2 l Gk⟩
    ·cases h1
   ·cases h1
  ·cases he
 |(true, .Dx e te)::r,k,x,u::us,o,hi,he=>by
  simp only [Jo] at he
  split at he
  ·rename_i x1 x2 h1 h2
   simp only [Option.some.injEq] at he;subst he
   obtain ⟨g1,g2⟩:=Np h Yp r (k+1) x.2 us x2 hi.2 h2
   simp only [ky] at h1
   split at h1
   ·rename_i e' Lf xs hl
    split at h1
    ·rename_i hc
     obtain ⟨rfl,rfl⟩:=hc
     simp only [Option.some.injEq] at h1;subst h1
     unfold St.at at hl
     have hs:=h.cR (Bq true k) (by have:=Tz k;omega) (by rw [hl];simp)
     rw [Yp] at hs
     exact ⟨⟨FY (te:=Lf) hs ((h.heap _).Mh hl),g1⟩,λl Gk=>by
      simp only [Ke] at Gk
      rcases List.mem_cons.1 Gk with rfl|Gk
      ·rw [hl];simp
      ·exact g2 l Gk⟩
    ·cases h1
   ·cases h1
  ·cases he
theorem py {p:Bool×CK} {r:List (Bool×CK)} (h:Sk (p::r)=true):Sk r=true:=by
 rcases p with ⟨_|_,c⟩<;>cases c<;>first|(simp [Sk] at h;done)|simpa [Sk] using h
theorem qM: ∀(cs:List (Bool×CK)) (k:Nat) (x:Ins.den cs) (l:Nat),Sk cs=true->k+cs.length<100000->Ae (Sh k cs x) l≠none-> ¬l<Ai->l∈Ke k cs
 | [],_,_,_,_,_,h,_=>absurd rfl h
 |(io,c)::r,k,x,l,ZC,hk,h,hp=>by
  simp only [List.length_cons] at hk
  simp only [Sh] at h
  have tail:Ae (Sh (k+1) r x.2) l≠none->l∈Ke (k+1) r:= λh=>qM r (k+1) x.2 l (py ZC) (by omega) h hp
  have sub: ∀m,m∈Ke (k+1) r->m∈Ke k ((io,c)::r):= λm hm=>by
   cases io<;>cases c<;>simp only [Ke]<;>first|exact hm|exact List.mem_cons_of_mem _ hm
  cases hc:ef (Bq io k) c x.1 with
  |none=>rw [hc] at h;exact sub l (tail h)
  |some b=>
   rw [hc] at h
   simp only [c8,Ae] at h
   split at h
   ·rename_i e;subst e
    cases io with
    |false=>exact absurd (aF (by omega)) hp
    |true=>cases c with
     |Gt τ=>cases hc
     |row e te=>simp [Ke]
     |Dx e te=>simp [Ke]
     |part e te=>simp [Ke]
     |Ak e te kp=>simp [Sk] at ZC
   ·exact sub l (tail h)
theorem Zl.Fb {D D':Nat->Prop} (hD: ∀b,D' b->D b) {r:Option Real} {u:Value} {c:CK} {x:c.den} (h:Zl w D r u c x):Zl w D' r u c x:=by
 cases c with
 |Gt τ=>exact ⟨h.1,h.2.Fb λb _ hb=>hD b hb⟩
 |row e te=>exact ⟨h.1,Lh.Fb h.2 hD⟩
 |Dx e te=>exact h
 |part e te=>exact ⟨h.1,h.2.1,Lh.Fb h.2.2 hD⟩
 |Ak e te kp=>exact ⟨h.1,Sx.Fb h.2 hD⟩
theorem Ep.Fb {D D':Nat->Prop} (hD: ∀b,D' b->D b) {ρ:Pi} : ∀(cs:List CK) (k:Nat) (x:CKs.den cs) (us:List Value),Ep w D ρ k cs x us->Ep w D' ρ k cs x us
 | [],_,_,[],h=>h
 | [],_,_,_::_,h=>h.elim
 |_::_,_,_,[],h=>h.elim
 |_c::r,k,x,_u::us,h=>⟨h.1.Fb hD,Ep.Fb hD r (k+1) x.2 us h.2⟩
theorem Ha.Fb {D D':Nat->Prop} (hD: ∀b,D' b->D b) {π:Pi} : ∀(cs:List (Bool×CK)) (k:Nat) (x:IOs.den cs),Ha w D π k cs x->Ha w D' π k cs x
 | [],_,_,h=>h
 |(false,_)::r,k,x,h=>Ha.Fb hD r (k+1) x h
 |(true, .Gt _)::r,k,x,h=>Ha.Fb hD r (k+1) x h
 |(true, .Ak _ _ _)::r,k,x,h=>Ha.Fb hD r (k+1) x h
 |(true, .row _e _te)::r,k,x,h=>⟨Lh.Fb h.1 hD,Ha.Fb hD r (k+1) x.2 h.2⟩
 |(true, .Dx _e _te)::r,k,x,h=>⟨h.1,Ha.Fb hD r (k+1) x.2 h.2⟩
 |(true, .part _e _te)::r,k,x,h=>⟨Lh.Fb h.1 hD,Ha.Fb hD r (k+1) x.2 h.2⟩
theorem Zn.congr {D:Nat->Prop} {π0 Vw:Pi} : ∀(cs:List (Bool×CK)) (k:Nat) (x:Ins.den cs) (us:List Value),(∀b j,k<=j->j<k+cs.length->Vw (Bq b j)=π0 (Bq b j))->Zn w D π0 k cs x us->Zn w D Vw k cs x us
 | [],_,_,[],_,h=>h
 | [],_,_,_::_,_,h=>h
 |_::_,_,_,[],_,h=>h
 |p::r,k,x,u::us,hp,h=>⟨by rw [hp p.1 k (Nat.le_refl _) (by simp)];exact h.1,Zn.congr r (k+1) x.2 us (λb j h1 h2=>hp b j (by omega) (by simp;omega)) h.2⟩
theorem Ha.congr {D:Nat->Prop} {π0 Vw:Pi} : ∀(cs:List (Bool×CK)) (k:Nat) (x:IOs.den cs),(∀b j,k<=j->j<k+cs.length->Vw (Bq b j)=π0 (Bq b j))->Ha w D π0 k cs x->Ha w D Vw k cs x
 | [],_,_,_,h=>h
 |(false,c)::r,k,x,hp,h=>by cases c<;>exact Ha.congr r (k+1) x (λb j h1 h2=>hp b j (by omega) (by simp;omega)) h
 |(true, .Gt _)::r,k,x,hp,h=>Ha.congr r (k+1) x (λb j h1 h2=>hp b j (by omega) (by simp;omega)) h
 |(true, .Ak _ _ _)::r,k,x,hp,h=>Ha.congr r (k+1) x (λb j h1 h2=>hp b j (by omega) (by simp;omega)) h
 |(true, .row e te)::r,k,x,hp,h=>⟨by rw [hp true k (Nat.le_refl _) (by simp)];exact h.1,Ha.congr r (k+1) x.2 (λb j h1 h2=>hp b j (by omega) (by simp;omega)) h.2⟩
 |(true, .Dx e te)::r,k,x,hp,h=>⟨by rw [hp true k (Nat.le_refl _) (by simp)];exact h.1,Ha.congr r (k+1) x.2 (λb j h1 h2=>hp b j (by omega) (by simp;omega)) h.2⟩
 |(true, .part e te)::r,k,x,hp,h=>⟨by rw [hp true k (Nat.le_refl _) (by simp)];exact h.1,Ha.congr r (k+1) x.2 (λb j h1 h2=>hp b j (by omega) (by simp;omega)) h.2⟩
theorem Ce.congr {π0 Vw:Pi} : ∀(cs:List (Bool×CK)) (k:Nat) (o:IOs.den cs) (n:Nat) (us as:List Value),(∀b j,k<=j->j<k+cs.length->Vw (Bq b j)=π0 (Bq b j))->Ce π0 k cs o n us as->Ce Vw k cs o n us as
 | [],k,o,0,us,as,_,h=>by simpa [Ce] using h
 | [],k,o,n+1,us,as,_,h=>by simp [Ce] at h
 |p::r,k,o,0,us,as,_,h=>by
  rcases p with ⟨_|_,c⟩<;>cases c<;>simpa [Ce] using h
 |(true, .Gt _)::r,k,o,n+1,us,as,_,h=>by simp [Ce] at h
 |(true, .part _ _)::r,k,o,n+1,us,as,_,h=>by simp [Ce] at h
 |(true, .Ak _ _ _)::r,k,o,n+1,us,as,_,h=>by simp [Ce] at h
 |(true, .row e te)::r,k,o,n+1,[],as,_,h=>by simp [Ce] at h
 |(true, .Dx e te)::r,k,o,n+1,[],as,_,h=>by simp [Ce] at h
 |(true, .row e te)::r,k,o,n+1,u::us,as,hp,h=>by
  simp only [Ce] at h⊢
  exact ⟨by rw [hp true k (Nat.le_refl _) (by simp)];exact h.1,Ce.congr r (k+1) o.2 n us as (λb j h1 h2=>hp b j (by omega) (by simp;omega)) h.2⟩
 |(true, .Dx e te)::r,k,o,n+1,u::us,as,hp,h=>by
  simp only [Ce] at h⊢
  exact ⟨by rw [hp true k (Nat.le_refl _) (by simp)];exact h.1,Ce.congr r (k+1) o.2 n us as (λb j h1 h2=>hp b j (by omega) (by simp;omega)) h.2⟩
 |(false,c)::r,k,o,n+1,[],as,_,h=>by cases c<;>simp [Ce] at h
 |(false,c)::r,k,o,n+1,u::us,[],_,h=>by cases c<;>simp [Ce] at h
 |(false,c)::r,k,o,n+1,u::us,a::as,hp,h=>by
  have h:u=a/\Ce π0 (k+1) r o n us as:=by cases c<;>exact h
  have:=Ce.congr r (k+1) o n us as (λb j h1 h2=>hp b j (by omega) (by simp;omega)) h.2
  cases c<;>exact ⟨h.1,this⟩
theorem kK: ∀(A B:List (Nat×OB)) (l:Nat),Ae (A++B) l=match Ae A l with|some b=>some b|none=>Ae B l
 | [],B,l=>rfl
 |(k,b)::A,B,l=>by
  simp only [List.cons_append,Ae]
  split
  ·rfl
  ·exact kK A B l
theorem nE {st:St} : ∀(cs:List CK) (as:List AC) (x:CKs.den cs) (ls:List Nat),Od st cs as=some (x,ls)-> ∀l∈ls,∃b,Ae st.heap l=some b/\b.row≠none
 | [],[],x,ls,he=>by
  simp only [Od,Option.some.injEq,Prod.mk.injEq] at he
  obtain ⟨_,rfl⟩:=he
  intro l hl;cases hl
 | [],_::_,_,_,he=>by simp [Od] at he
 |_::_,[],_,_,he=>by simp [Od] at he
 |c::r,a::as,x,ls,he=>by
  simp only [Od] at he
  split at he
  ·rename_i x1 t1 x2 t2 h1 h2
   simp only [Option.some.injEq,Prod.mk.injEq] at he
   obtain ⟨_,rfl⟩:=he
   intro l hl
   rcases List.mem_append.1 hl with hl|hl
   ·unfold eh at h1
    split at h1
    ·split at h1
     ·cases hv:Bm st _ a with
      |none=>rw [hv] at h1;cases h1
      |some p=>rw [hv] at h1;simp only [Option.map_some,Option.some.injEq,Prod.mk.injEq] at h1;obtain ⟨_,rfl⟩:=h1;cases hl
     ·cases h1
    all_goals (repeat' split at h1)
    all_goals first|(cases h1;done)|skip
    all_goals (simp only [Option.some.injEq,Prod.mk.injEq] at h1;obtain ⟨_,rfl⟩:=h1)
    all_goals first|(cases hl;done)|skip
    all_goals (have hl:=List.mem_singleton.1 hl;subst hl)
    all_goals (rename_i heq _;exact ⟨_,heq,by simp [OB.row]⟩)
   ·exact nE r as x2 t2 h2 l hl
  ·cases he
theorem kW {r r':Option Real} {sz off len:Nat} {v:Value} (h:Um r r') (hv:Dq r' sz off len v):Dq r sz off len v:=by
 cases r<;>cases r'<;>first|exact h.elim|skip
 ·exact hv
 ·obtain ⟨h1,h2,h3,_⟩:=h
  obtain ⟨ad,g1,g2,g3⟩:=hv
  exact ⟨ad,by rw [h3];exact g1,by rw [h3];exact g2,by rw [h1,h2,h3];exact g3⟩
theorem Rj {st:St} {π0:Pi} (hs: ∀k,Ae st.heap (Bq true k)≠none->Um ((π0 (Bq true k)).map full) (π (Bq true k))):
  ∀(cs:List (Bool×CK)) (k:Nat) (vs:List AC) (us:List Value) (bc:List AC) (o:IOs.den cs),Hx X w π st.heap vs us->Fe k cs vs=some bc->cD st vs cs->Jo st k cs=some o->
   ∃bv,Hx X w π st.heap bc bv/\bv.length=nS cs vs.length/\ ∀tl,Ce π0 k cs o vs.length us (bv++tl)
 |cs,k,[],us,bc,o,hr,he,_,_=>by
  have e1:us= []:=by cases us with|nil=>rfl|cons u us=>exact hr.elim
  have e2:bc= []:=by rcases cs with _|⟨⟨_|_,c⟩,r⟩<;>simpa [Fe] using he.symm
  subst e1;subst e2
  refine ⟨[],trivial,?_,λtl=>?_⟩
  ·rcases cs with _|⟨⟨_|_,c⟩,r⟩<;>rfl
  ·rcases cs with _|⟨⟨_|_,c⟩,r⟩<;>(try cases c)<;>simp [Ce]
 | [],k,a::vs,us,bc,o,hr,he,_,_=>by simp [Fe] at he
 |p::r,k,a::vs,[],bc,o,hr,_,_,_=>hr.elim
 |(false,c)::r,k,a::vs,u::us,bc,o,hr,he,hk,ho=>by
  have he:(Fe (k+1) r vs).map (λl=>a::l)=some bc:=by cases a<;>exact he
  cases hb:Fe (k+1) r vs with
  |none=>rw [hb] at he;cases he
  |some bc'=>
   rw [hb] at he
   simp only [Option.map_some,Option.some.injEq] at he;subst he
   obtain ⟨bv,g1,g2,g3⟩:=Rj hs r (k+1) vs us bc' o hr.2 hb (by cases a<;>exact hk) (by cases c<;>simpa only [Jo] using ho)
   refine ⟨u::bv,⟨hr.1,g1⟩,by simp [nS,g2],λtl=>?_⟩
   have:=g3 tl
   cases c<;>exact ⟨rfl,this⟩
 |(true,c)::r,k,a::vs,u::us,bc,o,hr,he,hk,ho=>by
  cases c with
  |Gt τ=>cases a<;>simp [Fe] at he
  |part e te=>cases a<;>simp [Fe] at he
  |Ak e te kp=>cases a<;>simp [Fe] at he
  |row e te=>
   cases a<;>first|(simp [Fe] at he;done)|skip
   rename_i l off len
   simp only [Fe] at he
   split at he
   rotate_left
   ·cases he
   rename_i hl
   have hl:l=Bq true k:=Nat.eq_of_beq_eq_true hl
   subst hl
   obtain ⟨⟨rfl,hlen⟩,hk⟩:=hk
   obtain ⟨b,sz,n,h1,h2,h3,h4⟩:=hr.1
   have JY:=hs k (by rw [h1];simp)
   simp only [Jo] at ho
   split at ho
   ·rename_i x1 x2 q1 q2
    simp only [Option.some.injEq] at ho;subst ho
    obtain ⟨bv,g1,g2,g3⟩:=Rj hs r (k+1) vs us bc x2 hr.2 he hk q2
    refine ⟨bv,g1,by simpa [nS] using g2,λtl=>?_⟩
    refine ⟨?_,g3 tl⟩
    simp only [ky] at q1
    split at q1
    ·rename_i fr tr e' Lf xs Gk
     split at q1
     ·rename_i hc
      obtain ⟨rfl,rfl⟩:=hc
      simp only [Option.some.injEq] at q1;subst q1
      unfold St.at at Gk hlen
      rw [Gk] at hlen
      rw [h1] at Gk;cases Gk
      simp only [OB.row,Option.some.injEq,Prod.mk.injEq] at h2
      obtain ⟨rfl,rfl⟩:=h2
      have hlen:len=List.length xs:=hlen
      have:=kW JY h4
      rw [hlen] at this
      have e0:(π0 (Bq true k)).map full=(π0 (Bq true k)).map full:=rfl
      cases hp:π0 (Bq true k)<;>(rw [hp] at this;exact this)
     ·cases q1
    ·cases q1
   ·cases ho
  |Dx e te=>
   cases a<;>first|(simp [Fe] at he;done)|skip
   rename_i l off len
   simp only [Fe] at he
   split at he
   rotate_left
   ·cases he
   rename_i hl
   have hl:l=Bq true k:=Nat.eq_of_beq_eq_true hl
   subst hl
   obtain ⟨⟨rfl,hlen⟩,hk⟩:=hk
   obtain ⟨b,sz,n,h1,h2,h3,h4⟩:=hr.1
   have JY:=hs k (by rw [h1];simp)
   simp only [Jo] at ho
   split at ho
   ·rename_i x1 x2 q1 q2
    simp only [Option.some.injEq] at ho;subst ho
    obtain ⟨bv,g1,g2,g3⟩:=Rj hs r (k+1) vs us bc x2 hr.2 he hk q2
    refine ⟨bv,g1,by simpa [nS] using g2,λtl=>?_⟩
    refine ⟨?_,g3 tl⟩
    simp only [ky] at q1
    split at q1
    ·rename_i e' Lf xs Gk
     split at q1
     ·rename_i hc
      obtain ⟨rfl,rfl⟩:=hc
      simp only [Option.some.injEq] at q1;subst q1
      unfold St.at at Gk hlen
      rw [Gk] at hlen
      rw [h1] at Gk;cases Gk
      simp only [OB.row,Option.some.injEq,Prod.mk.injEq] at h2
      obtain ⟨rfl,rfl⟩:=h2
      have hlen:len=List.length xs:=hlen
      have:=kW JY h4
      rw [hlen] at this
      cases hp:π0 (Bq true k)<;>(rw [hp] at this;exact this)
     ·cases q1
    ·cases q1
   ·cases ho
def Adc (s:MSpec) (g:Nat) (π:Pi):Pi:= λl=>if s.ptr.isSome=true/\l=Lt then some ⟨g,0,0,λb=>b=g,λb=>b=g⟩ else π l
def ZR (P:Program) (s:MSpec) (fn:Func) (x:Ins.den s.ins) (w:World) (S:Nat->Prop) (π:Pi) (g:Nat) (r:CKs.den s.outs) (o:IOs.den s.ins) (a':Act) (w':World):Prop:=
 ∃(v:Value) (Oq:List Value) (ρ:Pi),a'.defers= []/\(results fn a'.tmps).run P w'= .ok v w'/\gC s w' ρ (Oq.drop s.Qa) v/\Zk s π w' g Oq o/\Ez w.heap.size (λb=>Nn π b\/s.gv g b) w w'/\Ha w' (Xb S π ρ) π 0 s.ins o/\Ep w' (Xb S π ρ) ρ 0 s.outs r Oq/\
  Xd ρ (λb=>b<w'.heap.size/\(w.heap.size<=b\/ ∃l q,l<Ai/\π l=some q/\q.Ax b))/\(∀l,(∀k,k<s.Mp->l≠Ei k)->ρ l=none)/\(∀kj∈s.keeps,m9 w w' (π (Bq false kj.1)) (ρ (Ei kj.2)) (s.Cr x))
theorem Ep.IY {D:Nat->Prop} {ρ ρ':Pi} : ∀(cs:List CK) (k:Nat) (x:CKs.den cs) (us:List Value),(∀j,k<=j->j<k+cs.length->ρ' (Ei j)=ρ (Ei j))->Ep w D ρ k cs x us->Ep w D ρ' k cs x us
 | [],_,_,[],_,h=>h
 | [],_,_,_::_,_,h=>h.elim
 |_::_,_,_,[],_,h=>h.elim
 |c::r,k,x,u::us,he,h=>⟨by rw [he k (Nat.le_refl _) (by simp)];exact h.1,Ep.IY r (k+1) x.2 us (λj hj hl=>he j (by omega) (by simp;omega)) h.2⟩
theorem qP {st:St} {n:Nat} {as:List AC} : ∀ {ks:List (Nat×Nat)},qO st n as ks-> ∀kj∈ks,∃l off len e te rows out p,as[kj.2]?=some (.own l off len)/\Ae st.heap l=some (.Ak e te rows out (some p))/\p.1=Bq false kj.1/\n<=p.2/\kj.1<1000
 | [],_,kj,hm=>by cases hm
 |(k,j)::r,h,kj,hm=>by
  simp only [qO] at h
  rcases List.mem_cons.1 hm with rfl|hm
  ·obtain ⟨h,_⟩:=h
   split at h
   ·rename_i l off len he
    split at h
    ·rename_i e te rows out p hl
     unfold St.at at hl
     exact ⟨l,off,len,e,te,rows,out,p,he,hl,h.1,h.2.1,by simpa using h.2.2⟩
    ·exact h.elim
   ·exact h.elim
  ·exact qP h.2 kj hm
theorem r7 {st:St} : ∀(cs:List CK) (as:List AC) (x:CKs.den cs) (ls:List Nat),Od st cs as=some (x,ls)->as.length=cs.length
 | [],[],_,_,_=>rfl
 | [],_::_,_,_,he=>by simp [Od] at he
 |_::_,[],_,_,he=>by simp [Od] at he
 |c::r,a::as,x,ls,he=>by
  simp only [Od] at he
  split at he
  ·rename_i h1 h2
   simp only [List.length_cons,r7 r as _ _ h2]
  ·cases he
theorem xb {α β:Type} (f:α->Sem β): ∀(l:List α) (vs:List β),vs.length=l.length->(∀(i:Nat) a v,l[i]?=some a->vs[i]?=some v->(f a).run P w= .ok v w)->(l.mapM f).run P w= .ok vs w
 | [],[],_,_=>by simp
 | [],_::_,h,_=>by simp at h
 |_::_,[],h,_=>by simp at h
 |a::l,v::vs,h,hr=>by
  rw [List.mapM_cons]
  simp only [Sem.run_bind,hr 0 a v rfl rfl,Result.andThen_ok,xb f l vs (by simpa using h) (λi a' v' ha hv=>hr (i+1) a' v' (by simpa using ha) (by simpa using hv)),Sem.run_pure]
theorem p7 (hT:Cd P T) (Mi:Hy P Γ) (hm:P.follows .mixedOrders=true) {f:FuncId} {fn:Func} (hf:P.funcs[f]?=some fn) (s:MSpec) (w:World) (S:Nat->Prop) (π:Pi) (us:List Value) (x:Ins.den s.ins)
  (r:CKs.den s.outs) (o:IOs.den s.ins) (g:Nat) (gH:List Value) (Lb:j8 s w g us gH) (hSg:s.ptr.isSome=true->S g) (Nq:Zn w (λb=>Nn π b\/S b) π 0 s.ins x us) (bN:Xd π (λb=>b<w.heap.size)) (hS: ∀b,S b->b<w.heap.size/\ ¬Nn π b) (JL: ∀l,Ae (Sh 0 s.ins x) l=none->π l=none) (he:SH T Γ s fn x λz=>z=(r,o)):
  Calls P f gH.toArray w λe w'=> ∃v Oq ρ,e= .returned v/\gC s w' ρ (Oq.drop s.Qa) v/\Zk s π w' g Oq o/\Ez w.heap.size (λb=>Nn π b\/s.gv g b) w w'/\Ha w' (Xb S π ρ) π 0 s.ins o/\Ep w' (Xb S π ρ) ρ 0 s.outs r Oq/\
   Xd ρ (λb=>b<w'.heap.size/\(w.heap.size<=b\/ ∃l q,l<Ai/\π l=some q/\q.Ax b))/\(∀l,(∀k,k<s.Mp->l≠Ei k)->ρ l=none)/\(∀kj∈s.keeps,m9 w w' (π (Bq false kj.1)) (ρ (Ei kj.2)) (s.Cr x)):=by
 obtain ⟨hlen,c,hb,he⟩:=he
 simp only [Bool.and_eq_true,Nat.blt_eq] at hlen
 obtain ⟨hlen,JN⟩:=hlen
 unfold tD at JN
 simp only [Bool.and_eq_true] at JN
 have Aay:=JN.1
 let ll:Pi:=Adc s g π
 let Sg:Nat->Prop:= λb=>S b/\ ¬s.gv g b
 have hvl: ∀b j,j<1000->Bq b j≠Lt:= λb j hj=>by cases b<;>(unfold Bq Lt;simp;omega)
 have sD: ∀b j,0<=j->j<0+s.ins.length->ll (Bq b j)=π (Bq b j):= λb j _ hj=>if_neg λh=>hvl b j (by omega) h.2
 have TL: ∀b j,0<=j->j<0+s.ins.length->π (Bq b j)=ll (Bq b j):= λb j h1 h2=>(sD b j h1 h2).symm
 have WL:Ae (Sh 0 s.ins x) Lt=none:=Classical.byContradiction λhn=>by
  obtain ⟨b,j,_,h2,h3⟩:=nd s.ins 0 x Lt hn
  exact hvl b j (by omega) h3.symm
 have HB: ∀l q,ll l=some q->(π l=some q/\(s.ptr.isSome=true->l≠Lt))\/(s.ptr.isSome=true/\l=Lt/\q=⟨g,0,0,λb=>b=g,λb=>b=g⟩):= λl q hq=>by
  have hq:(if s.ptr.isSome=true/\l=Lt then some ⟨g,0,0,λb=>b=g,λb=>b=g⟩ else π l)=some q:=hq
  split at hq
  ·rename_i hc;exact .inr ⟨hc.1,hc.2,(Option.some.inj hq).symm⟩
  ·rename_i hc;exact .inl ⟨hq,λh1 h2=>hc ⟨h1,h2⟩⟩
 have Yo: ∀b,Nn ll b↔Nn π b\/s.gv g b:= λb=>by
  constructor
  ·rintro ⟨l,q,h1,h2⟩
   rcases HB l q h1 with ⟨h3,_⟩|⟨h3,h4,rfl⟩
   ·exact .inl ⟨l,q,h3,h2⟩
   ·exact .inr ⟨h3,h2⟩
  ·rintro (⟨l,q,h1,h2⟩|⟨h1,rfl⟩)
   ·refine ⟨l,q,?_,h2⟩
    show (if s.ptr.isSome=true/\l=Lt then _ else π l)=some q
    rw [if_neg]
    ·exact h1
    ·rintro ⟨_,rfl⟩
     rw [JL Lt WL] at h1;cases h1
   ·exact ⟨Lt,⟨b,0,0,λc=>c=b,λc=>c=b⟩,if_pos ⟨h1,rfl⟩,rfl⟩
 have hgS: ∀b,s.gv g b->S b:= λb ⟨h1,h2⟩=>h2▸hSg h1
 have VO:Zn w (λb=>Nn ll b\/Sg b) ll 0 s.ins x us:=Zn.congr s.ins 0 x us sD (Zn.Fb (λb hb=>by
  rcases hb with hb|hb
  ·rcases (Yo b).1 hb with hb|hb
   ·exact .inl hb
   ·exact .inr (hgS b hb)
  ·exact .inr hb.1) s.ins 0 x us Nq)
 have Ab3:Xd ll (λb=>b<w.heap.size):=⟨λl q b h1 h2=>by
  rcases HB l q h1 with ⟨h3,_⟩|⟨h3,h4,rfl⟩
  ·exact bN.Rx l q b h3 h2
  ·exact (hS b (hgS b ⟨h3,h2⟩)).1,λl l' q q' b h1 h2 h3 h4=>by
  rcases HB l q h1 with ⟨h5,_⟩|⟨h5,h6,rfl⟩<;>rcases HB l' q' h2 with ⟨h7,_⟩|⟨h7,h8,rfl⟩
  ·exact bN.inj l l' q q' b h5 h7 h3 h4
  ·exact absurd ⟨l,q,h5,h3⟩ (hS b (hgS b ⟨h7,h4⟩)).2
  ·exact absurd ⟨l',q',h7,h4⟩ (hS b (hgS b ⟨h5,h3⟩)).2
  ·rw [h6,h8]⟩
 have Aff: ∀b,Sg b->b<w.heap.size/\ ¬Nn ll b:= λb hb=>⟨(hS b hb.1).1,λho=>((Yo b).1 ho).elim (hS b hb.1).2 hb.2⟩
 have BS: ∀l,Ae (kM s x) l=match Ae (Sh 0 s.ins x) l with|some b=>some b|none=>if l=Lt then s.ptr.map λp=> .var p.1 ((Vc 0 s.ins x).take p.2) else none:= λl=>by
  unfold kM
  cases hp:s.ptr with
  |none=>cases Ae (Sh 0 s.ins x) l<;>simp
  |some p=>
   simp only
   rw [kK]
   cases Ae (Sh 0 s.ins x) l with
   |some b=>rfl
   |none=>
    simp only [Ae,Option.map_some]
    by_cases e:l=Lt
    ·rw [if_pos e,if_pos e.symm]
    ·rw [if_neg e,if_neg (λh=>e h.symm)]
 let π0:Pi:= λl=>(ll l).map full
 have un: ∀l q,π0 l=some q-> ∃q0,ll l=some q0/\q=full q0:= λl q hq=>by
  have hq:(ll l).map full=some q:=hq
  cases hp:ll l with
  |none=>rw [hp] at hq;cases hq
  |some q0=>rw [hp] at hq;exact ⟨q0,rfl,(Option.some.inj hq).symm⟩
 have JR: ∀l b,Ae (Sh 0 s.ins x) l=some b->Ae (kM s x) l=some b:= λl b hb=>by rw [BS l,hb]
 have WG:Hx ⟨w,Sg,Nn ll,π0⟩ w π0 (kM s x) (Vc 0 s.ins x) us:=w7 (λ_=>rfl) s.ins 0 x us (by omega) VO JR
 have KE:s.ptr.isSome=true->π0 Lt=some ⟨g,0,0,λb=>b=g,λb=>b=g⟩:= λhp=>by
  show (if s.ptr.isSome=true/\Lt=Lt then _ else π Lt).map full=_
  rw [if_pos ⟨hp,rfl⟩];rfl
 obtain ⟨g1,g2⟩:(Ta s (Vc 0 s.ins x)).length=gH.length/\ ∀(i:Nat) c v,(Ta s (Vc 0 s.ins x))[i]?=some c->gH[i]?=some v->Ao ⟨w,Sg,Nn ll,π0⟩ w π0 (kM s x) c v:=by
  unfold j8 at Lb
  cases hp:s.ptr with
  |none=>
   rw [hp] at Lb
   obtain ⟨rfl,IB⟩:=Lb
   obtain ⟨g1,g2,_,_⟩:=Yk s.Hf _ us IB WG
   rw [show Ta s (Vc 0 s.ins x)=Mo s.Hf (Vc 0 s.ins x) by unfold Ta;rw [hp]]
   exact ⟨g1,g2⟩
  |some p=>
   rw [hp] at Lb
   obtain ⟨rfl,IB,_⟩:=Lb
   obtain ⟨g1,g2,_,_⟩:=Yk s.Hf _ (us.drop p.2) IB (Hx.take p.2 WG).2
   rw [show Ta s (Vc 0 s.ins x)= .at (.Dz Lt 0)::Mo s.Hf ((Vc 0 s.ins x).drop p.2) by unfold Ta;rw [hp]]
   refine ⟨by simp [g1],λi c v h1 h2=>?_⟩
   rcases i with _|i
   ·simp only [List.getElem?_cons_zero,Option.some.injEq] at h1 h2
    subst h1;subst h2
    exact ⟨_,p.1,(Vc 0 s.ins x).take p.2,by rw [BS,WL];simp [hp],KE (by rw [hp];rfl),rfl⟩
   ·exact g2 i c v (by simpa using h1) (by simpa using h2)
 have h0:Rel ⟨w,Sg,Nn ll,π0⟩ {tmps:=Ta s (Vc 0 s.ins x)++List.replicate (fn.ntmps-(Ta s (Vc 0 s.ins x)).length) .undef,heap:=kM s x}
   {tmps:=gH.toArray++Array.replicate (fn.ntmps-gH.toArray.size) undef,defers:= []} w:=by
  refine ⟨π0,⟨Ez.refl _ _ _,λb hb=>Aff b hb,λl q b h1 h2=>?_,λl q b h1 h2=>?_,λl l' q q' b h1 h2 h3 h4=>?_,λl _ _=>Um.rfl' _,λl=>?_⟩,⟨by simp [g1],rfl,λt=>?_⟩⟩
  ·obtain ⟨q0,_,rfl⟩:=un l q h1;exact h2
  ·obtain ⟨q0,h3,rfl⟩:=un l q h1
   exact ⟨.inr ⟨l,q0,h3,h2⟩,Ab3.Rx l q0 b h3 h2⟩
  ·obtain ⟨q0,h5,rfl⟩:=un l q h1
   obtain ⟨XS,h6,rfl⟩:=un l' q' h2
   exact Ab3.inj l l' q0 XS b h5 h6 h3 h4
  ·cases hh:Ae (Sh 0 s.ins x) l with
   |none=>
    by_cases hv:s.ptr.isSome=true/\l=Lt
    ·obtain ⟨ZH,rfl⟩:=hv
     obtain ⟨p,hp⟩:=Option.isSome_iff_exists.1 ZH
     refine Dk.It (b:= .var p.1 ((Vc 0 s.ins x).take p.2)) ?_ (by rw [BS,hh];simp [hp])
     unfold j8 at Lb
     rw [hp] at Lb
     obtain ⟨_,_,h1,h2,h3⟩:=Lb
     rw [KE ZH]
     exact ⟨_,rfl,rfl,_,h2,Hx.to (Hx.take p.2 WG).1 h3⟩
    ·refine Dk.Pf ?_ ?_
     ·show (if s.ptr.isSome=true/\l=Lt then _ else π l).map full=none
      rw [if_neg hv,JL l hh];rfl
     ·rw [BS,hh]
      simp only
      split
      ·rename_i e
       cases hp:s.ptr with
       |none=>rfl
       |some p=>exact absurd ⟨by rw [hp];rfl,e⟩ hv
      ·rfl
   |some b=>exact Dk.It (fO (π0:=ll) (λb hb=>by
    rcases hb with ⟨l,q,h1,h2⟩|hb|⟨hb,_⟩
    ·obtain ⟨q0,h3,rfl⟩:=un l q h1;exact .inl ⟨l,q0,h3,h2⟩
    ·exact .inr hb
    ·cases hb) rfl (λ_=>rfl) s.ins 0 x us VO l b hh) (JR l b hh)
  ·show Ao _ w _ _ ((Ta s (Vc 0 s.ins x)++List.replicate _ AV.undef).getD t .undef) ((gH.toArray++Array.replicate _ undef).getD t undef)
   by_cases ht:t<gH.length
   ·rw [List.getD_eq_getElem?_getD,List.getElem?_append_left (by omega),<-List.getD_eq_getElem?_getD]
    rw [Array.getD_eq_getD_getElem?,Array.getElem?_append_left (by simpa using ht)]
    have:=g2 t _ _ (List.getElem?_eq_getElem (by omega)) (List.getElem?_eq_getElem ht)
    simpa [List.getD_eq_getElem?_getD,List.getElem?_eq_getElem ht,List.getElem?_eq_getElem (show t<(Ta s (Vc 0 s.ins x)).length by omega)] using this
   ·have:(Ta s (Vc 0 s.ins x)++List.replicate (fn.ntmps-(Ta s (Vc 0 s.ins x)).length) AV.undef).getD t .undef= .undef:=by
     rw [List.getD_eq_getElem?_getD,List.getElem?_append_right (by omega)]
     rw [List.getElem?_replicate]
     split<;>rfl
    rw [this];trivial
 have fin: ∀(st:St) (a':Act) (w':World),IJ T s fn x st (λz=>z=(r,o))->Rel ⟨w,Sg,Nn ll,π0⟩ st a' w'->ZR P s fn x w S π g r o a' w':=by
  intro st a' w' lA hrel
  obtain ⟨Vw,h'⟩:=hrel
  have TR:Ai<=Lt:=by unfold Ai Lt;omega
  obtain ⟨bc,kJ,Ahg,hbc⟩: ∃bc,dW T s fn x st bc (λz=>z=(r,o))/\(s.ptr.isSome=true-> ∃b,Ae st.heap Lt=some b/\b.row=none)/\
    (Jo st 0 s.ins=some o-> ∃bv,Hx ⟨w,Sg,Nn ll,π0⟩ w' Vw st.heap bc bv/\bv.length=s.Qa/\ ∀tl,Zk s π w' g (bv++tl) o):=by
   unfold IJ at lA
   cases hp:s.ptr with
   |none=>
    rw [hp] at lA
    exact ⟨[],lA,λh=>by simp at h,λ_=>⟨[],trivial,by simp [MSpec.Qa,hp],λtl=>by simp [Zk,hp]⟩⟩
   |some p=>
    rw [hp] at lA
    obtain ⟨vs,cs,h1,h2,h3,h4,h5⟩:=lA
    unfold St.at at h1
    refine ⟨cs,h5,λ_=>⟨_,h1,rfl⟩,λsB=>?_⟩
    obtain ⟨q,k1,k2,cur,k3,k4⟩:=(h'.1.heap Lt).Mh h1
    have hsv:Um (π0 Lt) (Vw Lt):=h'.1.cR Lt TR (by rw [h1];simp)
    rw [KE (by rw [hp];rfl),k1] at hsv
    have hqg:g=q.g:=hsv.1
    obtain ⟨bv,g1,g2,g3⟩:=Rj (π0:=ll) (λk hk=>h'.1.cR _ (Nat.le_of_not_lt (Tz k)) hk) s.ins 0 vs cur.toList cs o (Hx.of k4) h3 h4 sB
    refine ⟨bv,g1,by rw [g2,h2];simp [MSpec.Qa,hp],λtl=>?_⟩
    unfold Zk
    rw [hp]
    refine ⟨cur.toList,by rw [hqg];simpa using k3,λu hu=>?_,Ce.congr s.ins 0 o p.2 _ _ TL (h2▸g3 tl)⟩
    obtain ⟨i,hi,rfl⟩:=List.mem_iff_getElem.1 hu
    have hl:=k4.1
    obtain ⟨u',h6,h7,_⟩:=k4.2 i (vs[i]'(by omega)) (List.getElem?_eq_getElem _)
    rw [List.getElem?_eq_getElem hi] at h6
    rw [Option.some.inj h6];exact h7
  unfold dW at kJ
  split at kJ
  ·exact kJ.elim
  rename_i l hl
  split at kJ
  ·exact kJ.elim
  rename_i as ml cz
  split at kJ
  rotate_left
  ·exact kJ.elim
  rename_i r' ls o' sG qC
  obtain ⟨Fq,qH,JX⟩:=kJ
  simp only [Bool.and_eq_true,Nat.blt_eq] at Fq
  obtain ⟨⟨⟨pj,Al0⟩,Aj6⟩,Aau⟩:=Fq
  simp only [Prod.mk.injEq] at JX
  obtain ⟨rfl,rfl⟩:=JX
  obtain ⟨bv,hbv,Afr,Afo⟩:=hbc qC
  have yJ:=Qr pj
  obtain ⟨n1,n2,n3⟩:=List.nodup_append.1 yJ
  obtain ⟨m1,m2,m3⟩:=List.nodup_append.1 n1
  obtain ⟨vs,v1,v2,v3,v4⟩:=Qt hT h' _ _ hl
  have QG:fn.results=fn.results.toList.toArray:=Array.toArray_toList.symm
  have Om: ∀v,(if h:vs.toArray.size=1 then vs.toArray[0] else .tuple vs.toArray)=v->(results fn a'.tmps).run P w'= .ok v w':=by
   intro v hv
   rw [aE,QG,List.mapM_toArray]
   simp only [map_eq_pure_bind,bind_assoc,pure_bind]
   simp only [Sem.run_bind,xb (zD a'.tmps) _ vs v1 v3,Result.andThen_ok,Sem.run_pure]
   rw [hv]
  obtain ⟨q9,v,qm,Ahf,hv,TS⟩: ∃q9 v qm,Hx ⟨w,Sg,Nn ll,π0⟩ w' Vw st.heap as q9/\(results fn a'.tmps).run P w'= .ok v w'/\
    ((s.rp=none/\ml= []/\qm=none/\MG s.Gg s.Gj q9 v/\Wt s.Gj q9)\/
     ∃tid m q,s.rp=some tid/\ml= [m]/\m<Ai/\qm=some q/\Vw m=some q/\q.Ax q.g/\w'.heap[q.g]?=some (.cells q9.toArray tid (0,0))/\(∀u∈q9,u.oneCell'=true)/\v= .pointer (some ⟨q.g,0,none⟩)):=by
   unfold zC at cz
   split at cz
   ·rename_i xR
    split at cz
    rotate_left
    ·cases cz
    rename_i hmul
    cases IC:ungroup s.Gj l with
    |none=>rw [IC] at cz;cases cz
    |some as'=>
     rw [IC] at cz
     simp only [Option.map_some,Option.some.injEq,Prod.mk.injEq] at cz
     obtain ⟨rfl,rfl⟩:=cz
     obtain ⟨q9,e1,e2,e3⟩:=So s.Gj l vs as' (by omega) v4 IC
     have hv: ∃v,(results fn a'.tmps).run P w'= .ok v w'/\MG s.Gg s.Gj q9 v:=by
      unfold MG
      rw [<-e1,hmul]
      rcases Nat.lt_or_ge 1 l.length with h1|h1
      ·have JJ:Nat.blt 1 l.length=true:=by simpa using h1
       simp only [JJ,if_true]
       refine ⟨.tuple vs.toArray,Om _ ?_,rfl⟩
       rw [dif_neg (by simp;omega)]
      ·have JJ:Nat.blt 1 l.length=false:=by rw [<-Bool.not_eq_true];simpa using h1
       simp only [JJ,Bool.false_eq_true,if_false]
       rcases vs with _|⟨v,_|⟨v',vs⟩⟩
       ·exact ⟨_,Om _ (by simp;rfl), .inr rfl⟩
       ·exact ⟨v,Om _ (by simp), .inl rfl⟩
       ·exfalso;simp only [List.length_cons] at v1;omega
     obtain ⟨v,hv1,hv2⟩:=hv
     exact ⟨q9,v,none,e3,hv1, .inl ⟨xR,rfl,rfl,hv2,e2⟩⟩
   ·rename_i tid xR
    split at cz
    rotate_left
    ·cases cz
    rename_i m i
    split at cz
    rotate_left
    ·cases cz
    rename_i Nw uO hm
    split at cz
    rotate_left
    ·cases cz
    rename_i hc
    obtain ⟨rfl,rfl,OH⟩:=hc
    simp only [Option.some.injEq,Prod.mk.injEq] at cz
    obtain ⟨rfl,rfl⟩:=cz
    unfold St.at at hm
    rcases vs with _|⟨v,_|⟨v',vs⟩⟩
    ·exfalso;simp only [List.length_cons,List.length_nil] at v1 v2;omega
    ·obtain ⟨q,Ana,vs2,q1,q2,q3⟩:=v4 0 _ v rfl rfl
     rw [hm] at q1;cases q1
     obtain ⟨q',k1,k2,cur,k3,k4⟩:=(h'.1.heap m).Mh hm
     rw [q2] at k1;cases k1
     refine ⟨cur.toList,v,some q,Hx.of k4,Om _ (by simp), .inr ⟨_,m,q,xR,rfl,by simpa using OH,rfl,q2,k2,by simpa using k3,λu hu=>?_,q3⟩⟩
     obtain ⟨i,hi,rfl⟩:=List.mem_iff_getElem.1 hu
     have hl:=k4.1
     obtain ⟨u',h6,h7,_⟩:=k4.2 i (uO[i]'(by omega)) (List.getElem?_eq_getElem _)
     rw [List.getElem?_eq_getElem hi] at h6
     rw [Option.some.inj h6];exact h7
    ·exfalso;simp only [List.length_cons,List.length_nil] at v1 v2;omega
  obtain ⟨j5,p1,p2,p3,p4,p5⟩:=r8 h'.1 s.outs 0 (bc++as) (bv++q9) r' ls (hbv.append Ahf) sG m2
  obtain ⟨io1,io2⟩:=Np (π0:=ll) h'.1 (λ_=>rfl) s.ins 0 x us o' VO qC
  have Aai:(bv++q9).drop s.Qa=q9:=by rw [<-Afr];simp
  let ρ:Pi:= λl0=>if l0=Ei s.outs.length then qm else j5 l0
  have WQ:ρ (Ei s.outs.length)=qm:=if_pos rfl
  have Abu: ∀l0,l0≠Ei s.outs.length->ρ l0=j5 l0:= λl0 h=>if_neg h
  have Abt: ∀j,j<s.outs.length->ρ (Ei j)=j5 (Ei j):= λj hj=>Abu _ (by unfold Ei;omega)
  have oT: ∀l0 q,ρ l0=some q->(l0=Ei s.outs.length/\qm=some q)\/(l0≠Ei s.outs.length/\j5 l0=some q):= λl0 q h=>by
   by_cases e:l0=Ei s.outs.length
   ·subst e;rw [WQ] at h;exact .inl ⟨rfl,h⟩
   ·rw [Abu l0 e] at h;exact .inr ⟨e,h⟩
  have Ab8: ∀q,qm=some q-> ∃m,ml= [m]/\m<Ai/\Vw m=some q:= λq hq=>by
   rcases TS with ⟨_,_,h1,_⟩|⟨_,m,q',_,h1,h2,h3,h4,_⟩
   ·rw [h1] at hq;cases hq
   ·rw [h3] at hq;cases hq;exact ⟨m,h1,h2,h4⟩
  have p3': ∀l0 q b,ρ l0=some q->q.Ax b-> ∃l1∈ml++ls,∃p,Vw l1=some p/\p.cl b/\((s.outs.all λc=>!c.UB)=true->p.Ax b)/\((l1∈ls)\/l1<Ai):= λl0 q b h1 h2=>by
   rcases oT l0 q h1 with ⟨_,h3⟩|⟨_,h3⟩
   ·obtain ⟨m,e1,e2,e3⟩:=Ab8 q h3
    exact ⟨m,by rw [e1];simp,q,e3,h'.1.sub m q b e3 h2,λ_=>h2, .inr e2⟩
   ·obtain ⟨l1,g1,p,g2,g3,g4⟩:=p3 l0 q b h3 h2
    exact ⟨l1,List.mem_append_right _ g1,p,g2,g3,g4, .inl g1⟩
  have p4': ∀l0 l1 q q' b,ρ l0=some q->ρ l1=some q'->q.Ax b->q'.Ax b->l0=l1:= λl0 l1 q q' b h1 h2 h3 h4=>by
   have vB: ∀l0 q q' b,j5 l0=some q->qm=some q'->q.Ax b->q'.Ax b->False:= λl0 q q' b h1 h2 h3 h4=>by
    obtain ⟨m,e1,e2,e3⟩:=Ab8 q' h2
    obtain ⟨l1,g1,p,g2,g3,_⟩:=p3 l0 q b h1 h3
    have:=h'.1.inj m l1 q' p b e3 g2 (h'.1.sub m q' b e3 h4) g3
    exact m3 m (by rw [e1];simp) l1 g1 this
   rcases oT l0 q h1 with ⟨e1,h5⟩|⟨e1,h5⟩<;>rcases oT l1 q' h2 with ⟨e2,h6⟩|⟨e2,h6⟩
   ·rw [e1,e2]
   ·exact (vB l1 q' q b h6 h5 h4 h3).elim
   ·exact (vB l0 q q' b h5 h6 h3 h4).elim
   ·exact p4 l0 l1 q q' b h5 h6 h3 h4
  have BX: ∀l0 q,Ai<=l0->ll l0=some q->Ae st.heap l0≠none/\(l0∈Ke 0 s.ins\/ ∃b,Ae st.heap l0=some b/\b.row=none):= λl0 q h1 h2=>by
   rcases HB l0 q h2 with ⟨h3,_⟩|⟨h3,rfl,_⟩
   ·have sB:=qM s.ins 0 x l0 Aay (by omega) (λhnn=>by rw [JL l0 hnn] at h3;cases h3) (by omega)
    exact ⟨io2 l0 sB, .inl sB⟩
   ·obtain ⟨b,h4,h5⟩:=Ahg h3
    exact ⟨by rw [h4];simp, .inr ⟨b,h4,h5⟩⟩
  have hDO:(s.outs.all λc=>!c.UB)=true-> ∀b,Xb Sg ll ρ b->Nn Vw b\/Sg b:=by
   intro hx b hb
   rcases hb with hb|⟨l0,q,h1,h2,h3⟩|⟨l0,q,h1,h2⟩
   ·exact .inr hb
   ·have hs:=h'.1.cR l0 h1 (BX l0 q h1 h2).1
    have hs:Um ((ll l0).map full) (Vw l0):=hs
    rw [h2] at hs
    cases uM:Vw l0 with
    |none=>rw [uM] at hs;exact hs.elim
    |some q1=>rw [uM] at hs;exact .inl ⟨l0,q1,uM,(hs.2.2.2 b).1 h3⟩
   ·obtain ⟨m,_,p,hm2,_,VX,_⟩:=p3' l0 q b h1 h2
    exact .inl ⟨m,p,hm2,VX hx⟩
  have hDD: ∀b,Xb S π ρ b->Xb Sg ll ρ b:= λb hb=>by
   rcases hb with hb|⟨l0,q,h1,h2,h3⟩|hb
   ·by_cases HY:s.gv g b
    ·obtain ⟨ZH,rfl⟩:=HY
     exact .inr (.inl ⟨Lt,_,TR,if_pos ⟨ZH,rfl⟩,rfl⟩)
    ·exact .inl ⟨hb,HY⟩
   ·refine .inr (.inl ⟨l0,q,h1,?_,h3⟩)
    show (if s.ptr.isSome=true/\l0=Lt then _ else π l0)=some q
    rw [if_neg]
    ·exact h2
    ·rintro ⟨_,rfl⟩
     rw [JL Lt WL] at h2;cases h2
   ·exact .inr (.inr hb)
  have NZ:s.flat=true\/(s.outs.all λc=>!c.UB)=true:=by unfold MSpec.LD at Aau;simpa only [Bool.or_eq_true] using Aau
  have io1:Ha w' (Xb S π ρ) π 0 s.ins o':=by
   refine Ha.congr s.ins 0 o' TL ?_
   rcases NZ with hf|hf
   ·unfold MSpec.flat at hf
    simp only [Bool.and_eq_true] at hf
    exact Ha.any s.ins 0 o' hf.2 io1
   ·exact Ha.Fb (λb hb=>hDO hf b (hDD b hb)) s.ins 0 o' io1
  have p1:Ep w' (Xb S π ρ) ρ 0 s.outs r' (bv++q9):=by
   have p1:Ep w' (λb=>Nn Vw b\/Sg b) ρ 0 s.outs r' (bv++q9):=Ep.IY s.outs 0 r' _ (λj _ hj=>Abt j (by omega)) p1
   rcases NZ with hf|hf
   ·unfold MSpec.flat at hf
    simp only [Bool.and_eq_true] at hf
    exact Ep.any s.outs 0 r' (bv++q9) hf.1 p1
   ·exact Ep.Fb (λb hb=>hDO hf b (hDD b hb)) s.outs 0 r' (bv++q9) p1
  refine ⟨v,bv++q9,ρ,h'.2.defers,hv,?_,Afo q9,⟨h'.1.below.os,h'.1.below.tape,h'.1.below.output,h'.1.below.size,λk hk hn=>h'.1.below.block k hk λho=>hn ((Yo k).1 ho)⟩,io1,p1,⟨λl0 q b h1 h2=>?_,p4'⟩,λl0 VV=>?_,λkj HZ=>?_⟩
  ·rw [Aai]
   unfold gC
   rcases TS with ⟨h1,_,_,h2⟩|⟨tid,m,q,h1,_,_,h3,_,h4,h5,h6,h7⟩
   ·rw [h1];exact h2
   ·rw [h1];exact ⟨q,by rw [WQ,h3],h4,h5,h6,h7⟩
  ·obtain ⟨m,TN,p,hm2,hm3,_,VX⟩:=p3' l0 q b h1 h2
   obtain ⟨k1,k2⟩:=h'.1.place m p b hm2 hm3
   refine ⟨k2,k1.imp id λ⟨c0,q0,h5,h6⟩=>?_⟩
   have Hq:c0<Ai:=Classical.byContradiction λhn=>by
    obtain ⟨Ex,sB⟩:=BX c0 q0 (by omega) h5
    have hs:=h'.1.cR c0 (by omega) Ex
    have hs:Um ((ll c0).map full) (Vw c0):=hs
    rw [h5] at hs
    cases uM:Vw c0 with
    |none=>rw [uM] at hs;exact hs.elim
    |some q1=>
     rw [uM] at hs
     have hf1:q1.Ax b:=(hs.2.2.2 b).1 h6
     have:=h'.1.inj c0 m q1 p b uM hm2 (h'.1.sub c0 q1 b uM hf1) hm3
     subst this
     rcases VX with VX|VX
     ·rcases sB with sB|⟨b1,JJ,hb2⟩
      ·exact n3 c0 TN c0 sB rfl
      ·obtain ⟨b2,hb3,hb4⟩:=nE s.outs _ _ _ sG c0 VX
       rw [JJ] at hb3;cases hb3
       exact hb4 hb2
     ·exact hn VX
   refine ⟨c0,q0,Hq,?_,h6⟩
   rcases HB c0 q0 h5 with ⟨h7,_⟩|⟨_,h7,_⟩
   ·exact h7
   ·omega
  ·cases hp:ρ l0 with
   |none=>rfl
   |some q=>
    rcases oT l0 q hp with ⟨e,h3⟩|⟨_,h3⟩
    ·refine absurd e (VV _ ?_)
     rcases TS with ⟨_,_,h4,_⟩|⟨tid,m,q',h4,_⟩
     ·rw [h4] at h3;cases h3
     ·unfold MSpec.Mp;rw [h4];simp
    ·obtain ⟨j,_,j2,j3⟩:=p2 l0 q h3
     exact absurd j3 (VV j (by unfold MSpec.Mp;omega))
  ·obtain ⟨l0,off,len,e,te,rows,out,p,q1,q2,q3,q4,q5⟩:=qP qH kj HZ
   have hj:kj.2<s.outs.length:=by
    rw [<-r7 s.outs _ _ _ sG]
    exact (List.getElem?_eq_some_iff.1 q1).1
   have e1:=p5 kj.2 l0 off len e te rows out (some p) q1 q2
   rw [Nat.zero_add] at e1
   rw [Abt _ hj,e1]
   have hk:=((h'.1.heap l0).Mh q2).2
   obtain ⟨l1,n1⟩:=p
   simp only [KeptAt] at hk
   dsimp only at q3 q4
   subst q3
   have ED:π0 (Bq false kj.1)=(π (Bq false kj.1)).map full:=by
    show (if s.ptr.isSome=true/\Bq false kj.1=Lt then _ else π (Bq false kj.1)).map full=_
    rw [if_neg λh=>hvl false kj.1 q5 h.2]
   rw [ED] at hk
   unfold m9
   cases hp:π (Bq false kj.1) with
   |none=>
    rw [hp] at hk
    cases uM:Vw l0 with
    |none=>trivial
    |some q=>rw [uM] at hk;exact hk.elim
   |some q0=>
    rw [hp] at hk
    cases uM:Vw l0 with
    |none=>rw [uM] at hk;exact hk.elim
    |some q=>
     rw [uM] at hk
     obtain ⟨k1,k2,k3,k4⟩:=hk
     exact ⟨k1,k2,k3,λj hj hc=>k4 j (by omega) hc⟩
 refine calls_of_wp hf hb ?_
 refine (nV hT Mi hm he _ w _ h0 λe st a' w' ⟨Ex,lA⟩ h'=>?_).1
 obtain ⟨v,Oq,ρ,p1,p2,p3⟩:=fin st a' w' lA h'
 cases e with
 |normal=>exact ⟨p1,v,p2,v,Oq,ρ,rfl,p3⟩
 |ret=>exact ⟨p1,v,p2,v,Oq,ρ,rfl,p3⟩
 |exit id=>exact absurd rfl (Ex id)
end
end Go.Proofs.Ytjbdmibbbpdnnaa
