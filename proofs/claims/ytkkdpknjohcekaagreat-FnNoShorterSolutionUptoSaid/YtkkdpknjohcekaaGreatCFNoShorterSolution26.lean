/-
  Part 27 of the proof that the statement FnNoShorterSolution holds.
-/
import Derived.Test.YtkkdpknjohcekaaGreatCFNoShorterSolution25
namespace Go.Proofs.YtkkdpknjohcekaaGreat
open Go.RowKit
section
variable {P:Program} {T:Tab} {Γ:Env} {X:Ctx} {w w':World} {π:Pi} {H:List (Nat×OB)}
theorem tD: ∀(cs:List (Bool×CK)) (k:Nat) (x:Ins.den cs) (l:Nat),Aw (Zy k cs x) l≠none-> ∃b j,k<=j/\j<k+cs.length/\l=Dx b j
 | [],_,_,_,h=>absurd rfl h
 |p::r,k,x,l,h=>by
  simp only [Zy] at h
  by_cases e:l=Dx p.1 k
  ·exact ⟨p.1,k,Ap _,by simp,e⟩
  ·have:Aw (Zy (k+1) r x.2) l≠none:=by
    cases hc:kP (Dx p.1 k) p.2 x.1 with
    |none=>rw [hc] at h;exact h
    |some b=>rw [hc] at h;simpa only [iW,Aw,Ai (Hs e)] using h
   obtain ⟨b,j,h1,h2,h3⟩:=tD r (k+1) x.2 l this
   exact ⟨b,j,by omega,by simp;omega,h3⟩
theorem SZ {p:Bool×CK} {r:List (Bool×CK)} {k:Nat} {x:Ins.den (p::r)} (hk:k+(r.length+1)<100000) {l:Nat} {b:OB} (h:Aw (Zy (k+1) r x.2) l=some b):Aw (Zy k (p::r) x) l=some b:=by
 obtain ⟨b',j,h1,h2,rfl⟩:=tD r (k+1) x.2 l (by rw [h];simp)
 simp only [Zy]
 cases kP (Dx p.1 k) p.2 x.1 with
 |none=>exact h
 |some c=>simp only [iW,Aw];rw [Ai (QW (by omega) (by omega) (by omega))];exact h
theorem XJ {D:Nat->Prop} (hD: ∀b,Cy X.w0.heap.size X.Sc π false b->D b) (hw0:X.w0=w) {l:Nat} {r:Option Real} (dy:X.iB l=r.map full) {u:Value} {c:CK} {x:c.den} (h:fh w D r u c x) {b:OB} (hb:kP l c x=some b):Ch X w π H (r.map full) b:=by
 have Wk: ∀ {e:Ty} {es:List Value} {y:e.den},Cells w D e es y->Cells w (Cy X.w0.heap.size X.Sc π false) e es y:= λ {e es y} h=>Cells.Fp (Ap _) (λ_ _ _=>rfl) (λb _ hb=>hD b hb) e es y h
 cases c with
 |Ec τ=>cases hb
 |row e te=>
  simp only [kP,Aa] at hb;subst hb
  obtain ⟨_,h⟩:=h
  simp only [gJ] at h
  simp only [Ch,Kr]
  cases r with
  |none=>exact h
  |some q=>
   obtain ⟨k1,cu,ti,k2,k3,k4,k5,k6⟩:=h
   exact ⟨⟨k1.1,k1.2,λh=>by cases h⟩,cu,ti,k2,k3,k4,k5,λi y hy=>by
    obtain ⟨es,g1,g2,g3⟩:=k6 i y hy
    exact ⟨es,g1,g2,Wk g3⟩,λh=>by cases h⟩
 |Ij e te=>
  simp only [kP,Aa] at hb;subst hb
  cases r<;>exact h.2
 |part e te=>
  simp only [kP,Aa] at hb;subst hb
  obtain ⟨_,hf,h⟩:=h
  simp only [Ch,Kr]
  cases r with
  |none=>exact h
  |some q=>
   obtain ⟨k1,cu,ti,k2,k3,k4,k5,k6⟩:=h
   exact ⟨⟨k1.1,k1.2,λh=>by cases h⟩,cu,ti,k2,k3,k4,k5,λi y hy=>by
    obtain ⟨es,g1,g2,g3⟩:=k6 i y hy
    exact ⟨es,g1,g2,Wk g3⟩,λh=>by cases h⟩
 |Bo e te kp=>
  simp only [kP,Aa] at hb;subst hb
  have h2:aE w D r e x none:=h.2
  have h3:=aE.Jp h2 hD
  refine ⟨by cases r<;>exact h3,?_⟩
  cases kp with
  |false=>trivial
  |true=>
   simp only [Qa,KeptAt]
   rw [dy]
   cases r with
   |none=>trivial
   |some q=>exact ⟨rfl,rfl,rfl,λj _ _=>by rw [hw0]⟩
theorem mw {D:Nat->Prop} (hD: ∀b,Cy X.w0.heap.size X.Sc π false b->D b) (hw0:X.w0=w) {π0:Pi} (dy: ∀l,X.iB l=(π0 l).map full): ∀(cs:List (Bool×CK)) (k:Nat) (x:Ins.den cs) (us:List Value),fj w D π0 k cs x us-> ∀l b,Aw (Zy k cs x) l=some b->Ch X w π H ((π0 l).map full) b
 | [],_,_,_,_,_,_,h=>by cases h
 |_::_,_,_,[],h,_,_,_=>h.elim
 |p::r,k,x,u::us,h,l,b,hb=>by
  simp only [Zy] at hb
  cases hc:kP (Dx p.1 k) p.2 x.1 with
  |none=>rw [hc] at hb;exact mw hD hw0 dy r (k+1) x.2 us h.2 l b hb
  |some c=>
   rw [hc] at hb
   simp only [iW,Aw] at hb
   split at hb
   ·rename_i e;subst e
    simp only [Aa] at hb;subst hb
    exact XJ hD hw0 (dy _) h.1 hc
   ·exact mw hD hw0 dy r (k+1) x.2 us h.2 l b hb
theorem ER {S:Nat->Prop} {π0:Pi} {gv:Nat->Prop} {iB:Pi} (eB: ∀l,π l=(π0 l).map full): ∀(cs:List (Bool×CK)) (k:Nat) (x:Ins.den cs) (us:List Value),k+cs.length<100000->fj w (λb=>Wa π0 b\/S b) π0 k cs x us->(∀l b,Aw (Zy k cs x) l=some b->Aw H l=some b)->
  Nn ⟨w,S,gv,iB⟩ w π H (c5 k cs x) us
 | [],_,_,[],_,_,_=>trivial
 | [],_,_,_::_,_,h,_=>h.elim
 |_::_,_,_,[],_,h,_=>h.elim
 |p::r,k,x,u::us,hk,h,hH=>by
  simp only [Ay] at hk
  refine ⟨?_,ER eB r (k+1) x.2 us (by omega) h.2 λl b hb=>hH l b (SZ hk hb)⟩
  have h1:=h.1
  have hh: ∀b,kP (Dx p.1 k) p.2 x.1=some b->Aw H (Dx p.1 k)=some b:= λb hb=>hH _ b (by simp only [Zy];rw [hb];simp [iW,Aw])
  have kT:=eB (Dx p.1 k)
  obtain ⟨io,c⟩:=p
  dsimp only at h1 hh kT⊢
  generalize x.1=y at*
  cases c with
  |Ec τ=>
   show Cu w _ τ u y
   cases hf:τ.flat with
   |true=>exact Cu.flat hf h1.2
   |false=>
    refine h1.2.Jp λb _ hb=>?_
    rcases hb with ⟨l,q,h3,h4⟩|hb|⟨hb,_⟩
    ·rw [eB l] at h3
     cases hp:π0 l with
     |none=>rw [hp] at h3;cases h3
     |some q0=>rw [hp] at h3;simp only [Al,Aa] at h3;subst h3;exact .inl ⟨l,q0,hp,h4⟩
    ·exact .inr hb
    ·cases hb
  |row e te=>exact ⟨_,e.size,List.length y,hh _ rfl,rfl,by simp,by rw [kT];exact a8 h1.1⟩
  |Ij e te=>exact ⟨_,e.size,List.length y,hh _ rfl,rfl,by simp,by rw [kT];exact a8 h1.1⟩
  |part e te=>exact ⟨_,e.size,List.length y.1,hh _ rfl,rfl,h1.1.2,by rw [kT];exact a8 h1.1.1⟩
  |Bo e te kp=>exact ⟨_,1,List.length y,hh _ rfl,rfl,by simp,by rw [kT];exact a8 h1.1⟩
theorem pA {p:Real} {s off len:Nat} {u:Value} {f:Nat->Prop} (h:Im (some p) s off len u):Im (some ⟨p.g,p.o+off,p.cap-off,f,f⟩) s 0 len u:=by
 obtain ⟨ad,h1,h2,h3⟩:=h
 exact ⟨ad,h1,by dsimp only;omega,λh0=>by dsimp only at h0;simpa using h3 (by omega)⟩
theorem uf {α:Type} {xs:List α} {off len i:Nat} {x:α} (h:((xs.drop off).take len)[i]?=some x):xs[off+i]?=some x:=by
 rw [Ct] at h
 split at h
 ·rw [Da] at h;exact h
 ·cases h
theorem Xv.part {P:Nat->Prop} {g o:Nat} {cur:Array Value} {e:Ty} {xs:List e.den} (off len:Nat) (h:Xv w P g o cur e xs):Xv w P g (o+off) cur e ((xs.drop off).take len):=by
 obtain ⟨Fs,t1,t2,t3,t4⟩:=h
 refine ⟨(Fs.drop off).take len,by simp [t1],Cd.2 ⟨λhm=>(Cd.1 t2).1 (Ta off len _ hm),mF off len (Cd.1 t2).2⟩,λb hb=>t3 b (Ta off len b hb),λi x F hx hF=>?_⟩
 obtain ⟨es,k1,k2,k3⟩:=t4 (off+i) x F (uf hx) (uf hF)
 exact ⟨es,k1,λj u hu=>by rw [Gy o off i];exact k2 j u hu,k3⟩
theorem TQ {st:St} (h:Nm X w π st.heap) {c:CK} (hg: ∀e te kp,c≠ .Bo e te kp) {a:AC} {u:Value} (hu:Ib X w π st.heap a u) {x:c.den} {ls:List Nat} (he:kV st c a=some (x,ls)):
  ∃r,fh w (λb=>Wa π b\/X.Sc b) r u c x/\ ∀q,r=some q-> ∃l p,ls= [l]/\π l=some p/\(∀b,q.Cr b->p.cl b)/\(c.isX=false-> ∀b,q.Cr b->p.Cr b):=by
 have XY: ∀ {f:Bool} (b:Nat),(Wa π b\/X.Sc b)->Cy X.w0.heap.size X.Sc π f b:= λb h=>h.imp id .inl
 cases c with
 |Ec τ=>
  simp only [kV] at he
  split at he
  ·rename_i hf
   cases hv:Dr st τ a with
   |none=>rw [hv] at he;cases he
   |some p=>
    obtain ⟨fr,y⟩:=p
    rw [hv] at he
    simp only [Al,Aa,Ae] at he
    obtain ⟨rfl,rfl⟩:=he
    refine ⟨none,⟨rfl,?_⟩,λq hq=>by cases hq⟩
    have Jp: ∀f,Cu w (Cy X.w0.heap.size X.Sc π f) τ u y->Cu w (λb=>Wa π b\/X.Sc b) τ u y:= λf hr=>hr.Jp λk _ hk=>XY k hk
    cases a with
    |data f Ox z=>
     rw [Oj] at hv
     split at hv
     ·rename_i ht;subst ht
      simp only [Aa,Ae] at hv
      obtain ⟨_,rfl⟩:=hv
      exact Jp f hu
     ·have Pn:τ.Aq=false:=by unfold iY at hv;split at hv<;>first|rfl|cases hv
      exact Jp _ ⟨[u],dv hv hu,by simp [Bz,Pn]⟩
    |Mp=>
     have hu:u= .slice none 0 0:=hu
     subst hu
     cases τ<;>simp only [Dr,Aa,Ae,reduceCtorEq] at hv
     ·obtain ⟨_,rfl⟩:=hv;exact ⟨[_],⟨none,0,0,rfl,rfl,Ap _, .inl rfl⟩,rfl⟩
     ·obtain ⟨_,rfl⟩:=hv;exact ⟨[_], .inl ⟨rfl,0,rfl⟩,rfl⟩
    |Vx=>
     have hu:u= .pointer none:=hu
     subst hu
     cases τ<;>simp only [Dr,Aa,Ae,reduceCtorEq] at hv
     obtain ⟨_,rfl⟩:=hv;exact ⟨[_], .inl ⟨rfl,rfl⟩,rfl⟩
    |_=>cases τ<;>simp [AC.settled,Ty.flat,Dr] at hf hv
  ·cases he
 |row e te=>
  cases a<;>simp only [kV] at he<;>try (cases he;done)
  ·simp only [Aa,Ae] at he
   obtain ⟨rfl,rfl⟩:=he
   have hu:u= .slice none 0 0:=hu
   exact ⟨none,⟨⟨hu,rfl,rfl⟩,rfl⟩,λq hq=>by cases hq⟩
  ·rename_i l off len
   split at he
   ·rename_i fr tr e' Rv xs hl
    split at he
    ·rename_i hc
     obtain ⟨rfl,rfl⟩:=hc
     simp only [Aa,Ae] at he
     obtain ⟨rfl,rfl⟩:=he
     unfold St.at at hl
     obtain ⟨h1,h2⟩:=Pa hu hl
     have hb:=(h.heap l).Rz hl
     simp only [Ch,Kr] at hb
     have hlen:((xs.drop off).take len).length=len:=by simp;omega
     cases hp:π l with
     |none=>
      rw [hp] at h2 hb
      obtain ⟨rfl,rfl,rfl⟩:=h2
      exact ⟨none,⟨⟨rfl,rfl,by simp⟩,by show (xs.drop 0).take 0= [];simp⟩,λq hq=>by cases hq⟩
     |some p=>
      rw [hp] at h2 hb
      obtain ⟨k1,cur,ti,k2,k3,k4,k5,k6,_⟩:=hb
      have ho:=h2
      obtain ⟨ad,_,tp,_⟩:=h2
      refine ⟨some ⟨p.g,p.o+off,p.cap-off,p.Cr,p.Cr⟩,⟨by rw [hlen];exact pA ho,⟨k1.1,k1.2.1⟩,cur,ti,k2,by rw [k3];congr 1;dsimp only;omega,by dsimp only;omega,by rw [hlen];dsimp only;omega,λi y hy=>?_⟩,
       fun q hq=>by cases hq;exact ⟨l,p,rfl,hp,λb hb=>h.sub l p b hp hb,λ_ b hb=>hb⟩⟩
      obtain ⟨es,g1,g2,g3⟩:=k6 (off+i) y (uf hy)
      exact ⟨es,g1,λj u hu=>by dsimp only;rw [Gy p.o off i];exact g2 j u hu,Cells.Fp (Ap _) (λ_ _ _=>rfl) (λb _ hb=>XY b hb) e' es y g3⟩
    ·cases he
   ·cases he
 |Ij e te=>
  cases a<;>simp only [kV] at he<;>try (cases he;done)
  ·simp only [Aa,Ae] at he
   obtain ⟨rfl,rfl⟩:=he
   have hu:u= .slice none 0 0:=hu
   exact ⟨none,⟨⟨hu,rfl,rfl⟩,rfl⟩,λq hq=>by cases hq⟩
  ·rename_i l off len
   split at he
   ·rename_i fr tr e' Rv xs hl
    split at he
    ·rename_i hc
     obtain ⟨rfl,rfl,hf⟩:=hc
     simp only [Aa,Ae] at he
     obtain ⟨rfl,rfl⟩:=he
     unfold St.at at hl
     obtain ⟨h1,h2⟩:=Pa hu hl
     have hb:=(h.heap l).Rz hl
     simp only [Ch,Kr] at hb
     have hlen:((xs.drop off).take len).length=len:=by simp;omega
     cases hp:π l with
     |none=>
      rw [hp] at h2 hb
      obtain ⟨rfl,rfl,rfl⟩:=h2
      exact ⟨none,⟨⟨rfl,rfl,by simp⟩,by show (xs.drop 0).take 0= [];simp⟩,λq hq=>by cases hq⟩
     |some p=>
      rw [hp] at h2 hb
      obtain ⟨k1,cur,ti,k2,k3,k4,k5,k6,k7⟩:=hb
      have ho:=h2
      obtain ⟨ad,_,tp,_⟩:=h2
      have ht:Xv w p.cl p.g p.o cur e' xs:=by
       simp only [Mi] at hf
       rcases hf with hf|hf
       ·exact k7 hf
       ·exact nG hf k6
      exact ⟨some ⟨p.g,p.o+off,p.cap-off,p.cl,p.cl⟩,⟨by rw [hlen];exact pA ho,h.sub l p _ hp k1.1,cur,ti,k2,by rw [k3];congr 1;dsimp only;omega,by dsimp only;omega,by rw [hlen];dsimp only;omega,ht.part off len⟩,
       fun q hq=>by cases hq;exact ⟨l,p,rfl,hp,λb hb=>hb,λhx=>by cases hx⟩⟩
    ·cases he
   ·rename_i e' Rv xs hl
    split at he
    ·rename_i hc
     obtain ⟨rfl,rfl⟩:=hc
     simp only [Aa,Ae] at he
     obtain ⟨rfl,rfl⟩:=he
     unfold St.at at hl
     obtain ⟨h1,h2⟩:=cj hu hl
     have hb:=(h.heap l).Rz hl
     simp only [Ch,Ol] at hb
     have hlen:((xs.drop off).take len).length=len:=by simp;omega
     cases hp:π l with
     |none=>
      rw [hp] at h2 hb
      obtain ⟨rfl,rfl,rfl⟩:=h2
      exact ⟨none,⟨⟨rfl,rfl,by simp⟩,by show (xs.drop 0).take 0= [];simp⟩,λq hq=>by cases hq⟩
     |some p=>
      rw [hp] at h2 hb
      obtain ⟨k1,cur,ti,k2,k3,k4,k5,ht⟩:=hb
      have ho:=h2
      obtain ⟨ad,_,tp,_⟩:=h2
      exact ⟨some ⟨p.g,p.o+off,p.cap-off,p.Cr,p.Cr⟩,⟨by rw [hlen];exact pA ho,k1,cur,ti,k2,by rw [k3];congr 1;dsimp only;omega,by dsimp only;omega,by rw [hlen];dsimp only;omega,ht.part off len⟩,
       fun q hq=>by cases hq;exact ⟨l,p,rfl,hp,λb hb=>h.sub l p b hp hb,λ_ b hb=>hb⟩⟩
    ·cases he
   ·cases he
 |part e te=>cases a<;>simp [kV] at he
 |Bo e te kp=>exact absurd rfl (hg e te kp)
theorem Aa4 {st:St} (h:Nm X w π st.heap) {c:CK} {a:AC} {u:Value} (hu:Ib X w π st.heap a u) {x:c.den} {ls:List Nat} (he:kV st c a=some (x,ls)):
  ∃r,fh w (λb=>Wa π b\/X.Sc b) r u c x/\(∀q,r=some q-> ∃l p,ls= [l]/\π l=some p/\(∀b,q.Cr b->p.cl b)/\(c.isX=false-> ∀b,q.Cr b->p.Cr b))/\
   (∀l off len e te rows out kp,a= .own l off len->Aw st.heap l=some (.Bo e te rows out kp)->r=π l):=by
 have vB:(∀e te kp,c≠ .Bo e te kp)->(∀l off len e te rows out kp,a=AC.own l off len->Aw st.heap l=some (OB.Bo e te rows out kp)->False)->
   ∃r,fh w (λb=>Wa π b\/X.Sc b) r u c x/\(∀q,r=some q-> ∃l p,ls= [l]/\π l=some p/\(∀b,q.Cr b->p.cl b)/\(c.isX=false-> ∀b,q.Cr b->p.Cr b))/\
   (∀l off len e te rows out kp,a= .own l off len->Aw st.heap l=some (.Bo e te rows out kp)->r=π l):= λh1 h2=>by
  obtain ⟨r,g1,g2⟩:=TQ h h1 hu he
  exact ⟨r,g1,g2,λl off len e te rows out kp h3 h4=>(h2 l off len e te rows out kp h3 h4).elim⟩
 cases c with
 |Ec τ=>
  refine vB (λ_ _ _ h=>by cases h) λl off len e te rows out kp h3 h4=>?_
  subst h3
  simp only [kV] at he
  split at he
  ·rename_i hf
   cases τ<;>simp [AC.settled,Ty.flat,Dr] at hf he
  ·cases he
 |row e te=>
  refine vB (λ_ _ _ h=>by cases h) λl off len e te rows out kp h3 h4=>?_
  subst h3
  simp only [kV,St.at,h4] at he
  cases he
 |Ij e te=>
  refine vB (λ_ _ _ h=>by cases h) λl off len e te rows out kp h3 h4=>?_
  subst h3
  simp only [kV,St.at,h4] at he
  cases he
 |part e te=>cases a<;>simp [kV] at he
 |Bo e te kp=>
  cases a<;>simp only [kV] at he<;>try (cases he;done)
  rename_i l off len
  split at he
  ·rename_i e' Rv rows kp' hl
   split at he
   ·rename_i hc
    obtain ⟨rfl,rfl,rfl,rfl⟩:=hc
    simp only [Aa,Ae] at he
    obtain ⟨rfl,rfl⟩:=he
    unfold St.at at hl
    obtain ⟨b,sz,n,h1,h2,_,h3⟩:=hu
    rw [hl] at h1;cases h1
    simp only [OB.row,Aa,Ae] at h2
    obtain ⟨rfl,rfl⟩:=h2
    have hb:=((h.heap l).Rz hl).1
    refine ⟨π l,⟨h3,aE.Jp hb λb hb=>hb.imp id .inl⟩,λq hq=>⟨l,q,rfl,hq,λb hb=>h.sub l q b hq hb,λ_ b hb=>hb⟩,λl' Aym Atm _ _ _ _ _ he _=>?_⟩
    simp only [AC.own.injEq] at he
    rw [he.1]
   ·cases he
  ·cases he
theorem Jx.congr {D:Nat->Prop} {ρ ρ':Pi} : ∀(cs:List CK) (k:Nat) (x:CKs.den cs) (us:List Value),(∀j,k<=j->ρ' (Kx j)=ρ (Kx j))->Jx w D ρ k cs x us->Jx w D ρ' k cs x us
 | [],_,_,[],_,h=>h
 | [],_,_,_::_,_,h=>h.elim
 |_::_,_,_,[],_,h=>h.elim
 |c::r,k,x,u::us,he,h=>⟨by rw [he k (Ap _)];exact h.1,Jx.congr r (k+1) x.2 us (λj hj=>he j (by omega)) h.2⟩
theorem xQ {st:St} (h:Nm X w π st.heap): ∀(cs:List CK) (k:Nat) (as:List AC) (us:List Value) (x:CKs.den cs) (ls:List Nat),Nn X w π st.heap as us->Vm st cs as=some (x,ls)->ls.Nodup->
  ∃ρ:Pi,Jx w (λb=>Wa π b\/X.Sc b) ρ k cs x us/\(∀l q,ρ l=some q-> ∃j,k<=j/\j<k+cs.length/\l=Kx j)/\(∀l q b,ρ l=some q->q.Cr b-> ∃l0∈ls,∃p,π l0=some p/\p.cl b/\((cs.all λc=>!c.isX)=true->p.Cr b))/\
   (∀l l' q q' b,ρ l=some q->ρ l'=some q'->q.Cr b->q'.Cr b->l=l')/\
   (∀(j l off len:Nat) e te rows out kp,as[j]?=some (.own l off len)->Aw st.heap l=some (.Bo e te rows out kp)->ρ (Kx (k+j))=π l)
 | [],k,[],[],x,ls,_,he,_=>by
  simp only [Vm,Aa,Ae] at he
  exact ⟨λ_=>none,trivial,(λl q h=>by cases h),(λl q b h=>by cases h),(λl l' q q' b h=>by cases h),λj l off len e te rows out kp h=>by simp at h⟩
 | [],_,[],_::_,_,_,h,_,_=>h.elim
 | [],_,_::_,_,_,_,_,he,_=>by simp [Vm] at he
 |_::_,_,[],_,_,_,_,he,_=>by simp [Vm] at he
 |_::_,_,_::_,[],_,_,h,_,_=>h.elim
 |c::r,k,a::as,u::us,x,ls,hr,he,s9=>by
  simp only [Vm] at he
  split at he
  ·rename_i x1 t1 x2 t2 h1 h2
   simp only [Aa,Ae] at he
   obtain ⟨rfl,rfl⟩:=he
   obtain ⟨n1,n2,n3⟩:=Du.1 s9
   obtain ⟨ρ,g1,g2,g3,g4,g5⟩:=xQ h r (k+1) as us x2 t2 hr.2 h2 n2
   obtain ⟨rr,r1,r2,r3⟩:=Aa4 h hr.1 h1
   have DM: ∀l q q0 b,ρ l=some q->rr=some q0->q.Cr b->q0.Cr b->False:= λl q q0 b h3 h4 h5 h6=>by
    obtain ⟨l0,m0,p,p1,p2,_⟩:=g3 l q b h3 h5
    obtain ⟨l1,p',e1,p1',p2',_⟩:=r2 q0 h4
    have:=h.inj l0 l1 p p' b p1 p1' p2 (p2' b h6)
    exact n3 l1 (by rw [e1];simp) l0 m0 this.symm
   refine ⟨λl=>if l=Kx k then rr else ρ l,⟨by simpa using r1,Jx.congr r (k+1) x2 us (λj hj=>Ai (by unfold Kx;omega)) g1⟩,λl q hq=>?_,λl q b hq hb=>?_,λl l' q q' b h3 h4 h5 h6=>?_,λj l off len e te rows out kp hj hl=>?_⟩
   ·dsimp only at hq
    by_cases e:l=Kx k
    ·exact ⟨k,Ap _,by simp,e⟩
    ·rw [Ai e] at hq
     obtain ⟨j,j1,j2,j3⟩:=g2 l q hq
     exact ⟨j,by omega,by simp;omega,j3⟩
   ·dsimp only at hq
    by_cases e:l=Kx k
    ·rw [Ab e] at hq
     obtain ⟨l1,p',e1,p1',p2',p3'⟩:=r2 q hq
     exact ⟨l1,by rw [e1];simp,p',p1',p2' b hb,λhx=>p3' (by simp only [Jf,Af,Es] at hx;exact hx.1) b hb⟩
    ·rw [Ai e] at hq
     obtain ⟨l0,m0,p,p1,p2,p3⟩:=g3 l q b hq hb
     exact ⟨l0,Cg _ m0,p,p1,p2,λhx=>p3 (by simp only [Jf,Af] at hx;exact hx.2)⟩
   ·dsimp only at h3 h4
    by_cases e:l=Kx k<;>by_cases e':l'=Kx k
    ·rw [e,e']
    ·rw [Ab e] at h3;rw [Ai e'] at h4
     exact (DM l' q' q b h4 h3 h6 h5).elim
    ·rw [Ai e] at h3;rw [Ab e'] at h4
     exact (DM l q q' b h3 h4 h5 h6).elim
    ·rw [Ai e] at h3;rw [Ai e'] at h4
     exact g4 l l' q q' b h3 h4 h5 h6
   ·rcases j with _|j
    ·simp only [Bq,Aa] at hj
     show (if Kx k=Kx k then rr else ρ (Kx k))=π l
     rw [Ab rfl]
     exact r3 l off len e te rows out kp hj hl
    ·have:=g5 j l off len e te rows out kp (by simpa using hj) hl
     show (if Kx (k+(j+1))=Kx k then rr else ρ (Kx (k+(j+1))))=π l
     rw [Ai (by unfold Kx;omega),<-this,show k+(j+1)=k+1+j by omega]
  ·cases he
theorem HE {r r':Option Real} (h:bI (r.map full) r') {e:Ty} {xs:List e.den} {te:TypeId} {fr tr:Bool} (ha:Kr X w π r' fr tr e te xs):Th w (λb=>Wa π b\/X.Sc b) r e xs:=by
 cases r with
 |none=>cases r' with
  |none=>exact ha
  |some q=>exact h.elim
 |some p=>cases r' with
  |none=>exact h.elim
  |some q=>
   obtain ⟨e1,e2,e3,e4⟩:=h
   obtain ⟨k1,cur,ti,k2,k3,k4,k5,k6,_⟩:=ha
   have e1:p.g=q.g:=e1
   have e2:p.o=q.o:=e2
   have e3:p.cap=q.cap:=e3
   refine ⟨⟨by rw [e1];exact (e4 _).2 k1.1,λb hb=>by rw [e1];exact k1.2.1 b ((e4 b).1 hb)⟩,cur,ti,by rw [e1];exact k2,by rw [e2,e3];exact k3,by rw [e3];exact k4,by rw [e3];exact k5,λi y hy=>?_⟩
   obtain ⟨es,g1,g2,g3⟩:=k6 i y hy
   exact ⟨es,g1,by rw [e2];exact g2,Cells.Fp (Ap _) (λ_ _ _=>rfl) (λb _ hb=>hb.imp id .inl) e es y g3⟩
theorem UP {r r':Option Real} (h:bI (r.map full) r') {e:Ty} {xs:List e.den} {te:TypeId} (ha:Ol w r' e te xs):Ol w r e te xs:=by
 cases r with
 |none=>cases r' with
  |none=>exact ha
  |some q=>exact h.elim
 |some p=>cases r' with
  |none=>exact h.elim
  |some q=>
   obtain ⟨e1,e2,e3,e4⟩:=h
   obtain ⟨k1,cur,ti,k2,k3,k4,k5,Fs,t1,t2,t3,t4⟩:=ha
   have e1:p.g=q.g:=e1
   have e2:p.o=q.o:=e2
   have e3:p.cap=q.cap:=e3
   exact ⟨by rw [e1];exact (e4 _).2 k1,cur,ti,by rw [e1];exact k2,by rw [e2,e3];exact k3,by rw [e3];exact k4,by rw [e3];exact k5,Fs,t1,by rw [e1];exact t2,λb hb=>(e4 b).2 (t3 b hb),by rw [e2];exact t4⟩
theorem Uy {st:St} {π0:Pi} {D:Nat->Prop} {w0:World} (h:Nm X w π st.heap) (dy: ∀l,X.iB l=(π0 l).map full): ∀(cs:List (Bool×CK)) (k:Nat) (x:Ins.den cs) (us:List Value) (o:IOs.den cs),fj w0 D π0 k cs x us->Pe st k cs=some o->
  Mt w (λb=>Wa π b\/X.Sc b) π0 k cs o/\ ∀l∈Qk k cs,Aw st.heap l≠none
 | [],_,_,_,_,_,_=>⟨trivial,λl hl=>by cases hl⟩
 |_::_,_,_,[],_,h,_=>h.elim
 |(false,c)::r,k,x,u::us,o,hi,he=>Uy h dy r (k+1) x.2 us o hi.2 (by simpa only [Pe] using he)
 |(true, .Ec τ)::r,k,x,u::us,o,hi,he=>Uy h dy r (k+1) x.2 us o hi.2 (by simpa only [Pe] using he)
 |(true, .Bo e te kp)::r,k,x,u::us,o,hi,he=>Uy h dy r (k+1) x.2 us o hi.2 (by simpa only [Pe] using he)
 |(true, .row e te)::r,k,x,u::us,o,hi,he=>by
  simp only [Pe] at he
  split at he
  ·rename_i x1 x2 h1 h2
   simp only [Aa] at he;subst he
   obtain ⟨g1,g2⟩:=Uy h dy r (k+1) x.2 us x2 hi.2 h2
   have h0:=hi.1
   simp only [q8] at h1
   split at h1
   ·rename_i fr tr e' Rv xs hl
    split at h1
    ·rename_i hc
     obtain ⟨rfl,rfl⟩:=hc
     simp only [Aa] at h1;subst h1
     unfold St.at at hl
     have hs:=h.iB (Dx true k) (by have:=bt k;omega) (by rw [hl];simp)
     rw [dy] at hs
     exact ⟨⟨HE (te:=Rv) hs ((h.heap _).Rz hl),g1⟩,λl Mc=>by
      simp only [Qk] at Mc
      rcases Bg.1 Mc with rfl|Mc
      ·rw [hl];simp
      ·exact g2 l Mc⟩
    ·cases h1
   ·cases h1
  ·cases he
 |(true, .part e te)::r,k,x,u::us,o,hi,he=>by
  simp only [Pe] at he
  split at he
  ·rename_i x1 x2 h1 h2
   simp only [Aa] at he;subst he
   obtain ⟨g1,g2⟩:=Uy h dy r (k+1) x.2 us x2 hi.2 h2
   have h0:=hi.1
   simp only [q8] at h1
   split at h1
   ·rename_i fr tr e' Rv xs hl
    split at h1
    ·rename_i hc
     obtain ⟨rfl,rfl⟩:=hc
     simp only [Aa] at h1;subst h1
     unfold St.at at hl
     have hs:=h.iB (Dx true k) (by have:=bt k;omega) (by rw [hl];simp)
     rw [dy] at hs
     exact ⟨⟨HE (te:=Rv) hs ((h.heap _).Rz hl),g1⟩,λl Mc=>by
      simp only [Qk] at Mc
      rcases Bg.1 Mc with rfl|Mc
      ·rw [hl];simp
      ·exact g2 l Mc⟩
    ·cases h1
   ·cases h1
  ·cases he
 |(true, .Ij e te)::r,k,x,u::us,o,hi,he=>by
  simp only [Pe] at he
  split at he
  ·rename_i x1 x2 h1 h2
   simp only [Aa] at he;subst he
   obtain ⟨g1,g2⟩:=Uy h dy r (k+1) x.2 us x2 hi.2 h2
   simp only [q8] at h1
   split at h1
   ·rename_i e' Rv xs hl
    split at h1
    ·rename_i hc
     obtain ⟨rfl,rfl⟩:=hc
     simp only [Aa] at h1;subst h1
     unfold St.at at hl
     have hs:=h.iB (Dx true k) (by have:=bt k;omega) (by rw [hl];simp)
     rw [dy] at hs
     exact ⟨⟨UP (te:=Rv) hs ((h.heap _).Rz hl),g1⟩,λl Mc=>by
      simp only [Qk] at Mc
      rcases Bg.1 Mc with rfl|Mc
      ·rw [hl];simp
      ·exact g2 l Mc⟩
    ·cases h1
   ·cases h1
  ·cases he
theorem w5 {p:Bool×CK} {r:List (Bool×CK)} (h:a7 (p::r)=true):a7 r=true:=by
 rcases p with ⟨_|_,c⟩<;>cases c<;>first|(simp [a7] at h;done)|simpa [a7] using h
theorem xD: ∀(cs:List (Bool×CK)) (k:Nat) (x:Ins.den cs) (l:Nat),a7 cs=true->k+cs.length<100000->Aw (Zy k cs x) l≠none-> ¬l<Bl->l∈Qk k cs
 | [],_,_,_,_,_,h,_=>absurd rfl h
 |(io,c)::r,k,x,l,hng,hk,h,hp=>by
  simp only [Ay] at hk
  simp only [Zy] at h
  have tail:Aw (Zy (k+1) r x.2) l≠none->l∈Qk (k+1) r:= λh=>xD r (k+1) x.2 l (w5 hng) (by omega) h hp
  have sub: ∀m,m∈Qk (k+1) r->m∈Qk k ((io,c)::r):= λm hm=>by
   cases io<;>cases c<;>simp only [Qk]<;>first|exact hm|exact Ao _ hm
  cases hc:kP (Dx io k) c x.1 with
  |none=>rw [hc] at h;exact sub l (tail h)
  |some b=>
   rw [hc] at h
   simp only [iW,Aw] at h
   split at h
   ·rename_i e;subst e
    cases io with
    |false=>exact absurd (gi (by omega)) hp
    |true=>cases c with
     |Ec τ=>cases hc
     |row e te=>simp [Qk]
     |Ij e te=>simp [Qk]
     |part e te=>simp [Qk]
     |Bo e te kp=>simp [a7] at hng
   ·exact sub l (tail h)
theorem fh.Jp {D D':Nat->Prop} (hD: ∀b,D' b->D b) {r:Option Real} {u:Value} {c:CK} {x:c.den} (h:fh w D r u c x):fh w D' r u c x:=by
 cases c with
 |Ec τ=>exact ⟨h.1,h.2.Jp λb _ hb=>hD b hb⟩
 |row e te=>exact ⟨h.1,Th.Jp h.2 hD⟩
 |Ij e te=>exact h
 |part e te=>exact ⟨h.1,h.2.1,Th.Jp h.2.2 hD⟩
 |Bo e te kp=>exact ⟨h.1,aE.Jp h.2 hD⟩
theorem Jx.Jp {D D':Nat->Prop} (hD: ∀b,D' b->D b) {ρ:Pi} : ∀(cs:List CK) (k:Nat) (x:CKs.den cs) (us:List Value),Jx w D ρ k cs x us->Jx w D' ρ k cs x us
 | [],_,_,[],h=>h
 | [],_,_,_::_,h=>h.elim
 |_::_,_,_,[],h=>h.elim
 |_c::r,k,x,_u::us,h=>⟨h.1.Jp hD,Jx.Jp hD r (k+1) x.2 us h.2⟩
theorem Mt.Jp {D D':Nat->Prop} (hD: ∀b,D' b->D b) {π:Pi} : ∀(cs:List (Bool×CK)) (k:Nat) (x:IOs.den cs),Mt w D π k cs x->Mt w D' π k cs x
 | [],_,_,h=>h
 |(false,_)::r,k,x,h=>Mt.Jp hD r (k+1) x h
 |(true, .Ec _)::r,k,x,h=>Mt.Jp hD r (k+1) x h
 |(true, .Bo _ _ _)::r,k,x,h=>Mt.Jp hD r (k+1) x h
 |(true, .row _e _te)::r,k,x,h=>⟨Th.Jp h.1 hD,Mt.Jp hD r (k+1) x.2 h.2⟩
 |(true, .Ij _e _te)::r,k,x,h=>⟨h.1,Mt.Jp hD r (k+1) x.2 h.2⟩
 |(true, .part _e _te)::r,k,x,h=>⟨Th.Jp h.1 hD,Mt.Jp hD r (k+1) x.2 h.2⟩
theorem fj.congr {D:Nat->Prop} {π0 cz:Pi} : ∀(cs:List (Bool×CK)) (k:Nat) (x:Ins.den cs) (us:List Value),(∀b j,k<=j->j<k+cs.length->cz (Dx b j)=π0 (Dx b j))->fj w D π0 k cs x us->fj w D cz k cs x us
 | [],_,_,[],_,h=>h
 | [],_,_,_::_,_,h=>h
 |_::_,_,_,[],_,h=>h
 |p::r,k,x,u::us,hp,h=>⟨by rw [hp p.1 k (Ap _) (by simp)];exact h.1,fj.congr r (k+1) x.2 us (λb j h1 h2=>hp b j (by omega) (by simp;omega)) h.2⟩
theorem Mt.congr {D:Nat->Prop} {π0 cz:Pi} : ∀(cs:List (Bool×CK)) (k:Nat) (x:IOs.den cs),(∀b j,k<=j->j<k+cs.length->cz (Dx b j)=π0 (Dx b j))->Mt w D π0 k cs x->Mt w D cz k cs x
 | [],_,_,_,h=>h
 |(false,c)::r,k,x,hp,h=>by cases c<;>exact Mt.congr r (k+1) x (λb j h1 h2=>hp b j (by omega) (by simp;omega)) h
 |(true, .Ec _)::r,k,x,hp,h=>Mt.congr r (k+1) x (λb j h1 h2=>hp b j (by omega) (by simp;omega)) h
 |(true, .Bo _ _ _)::r,k,x,hp,h=>Mt.congr r (k+1) x (λb j h1 h2=>hp b j (by omega) (by simp;omega)) h
 |(true, .row e te)::r,k,x,hp,h=>⟨by rw [hp true k (Ap _) (by simp)];exact h.1,Mt.congr r (k+1) x.2 (λb j h1 h2=>hp b j (by omega) (by simp;omega)) h.2⟩
 |(true, .Ij e te)::r,k,x,hp,h=>⟨by rw [hp true k (Ap _) (by simp)];exact h.1,Mt.congr r (k+1) x.2 (λb j h1 h2=>hp b j (by omega) (by simp;omega)) h.2⟩
 |(true, .part e te)::r,k,x,hp,h=>⟨by rw [hp true k (Ap _) (by simp)];exact h.1,Mt.congr r (k+1) x.2 (λb j h1 h2=>hp b j (by omega) (by simp;omega)) h.2⟩
theorem Et.congr {π0 cz:Pi} : ∀(cs:List (Bool×CK)) (k:Nat) (o:IOs.den cs) (n:Nat) (us as:List Value),(∀b j,k<=j->j<k+cs.length->cz (Dx b j)=π0 (Dx b j))->Et π0 k cs o n us as->Et cz k cs o n us as
 | [],k,o,0,us,as,_,h=>by simpa [Et] using h
 | [],k,o,n+1,us,as,_,h=>by simp [Et] at h
 |p::r,k,o,0,us,as,_,h=>by
  rcases p with ⟨_|_,c⟩<;>cases c<;>simpa [Et] using h
 |(true, .Ec _)::r,k,o,n+1,us,as,_,h=>by simp [Et] at h
 |(true, .part _ _)::r,k,o,n+1,us,as,_,h=>by simp [Et] at h
 |(true, .Bo _ _ _)::r,k,o,n+1,us,as,_,h=>by simp [Et] at h
 |(true, .row e te)::r,k,o,n+1,[],as,_,h=>by simp [Et] at h
 |(true, .Ij e te)::r,k,o,n+1,[],as,_,h=>by simp [Et] at h
 |(true, .row e te)::r,k,o,n+1,u::us,as,hp,h=>by
  simp only [Et] at h⊢
  exact ⟨by rw [hp true k (Ap _) (by simp)];exact h.1,Et.congr r (k+1) o.2 n us as (λb j h1 h2=>hp b j (by omega) (by simp;omega)) h.2⟩
 |(true, .Ij e te)::r,k,o,n+1,u::us,as,hp,h=>by
  simp only [Et] at h⊢
  exact ⟨by rw [hp true k (Ap _) (by simp)];exact h.1,Et.congr r (k+1) o.2 n us as (λb j h1 h2=>hp b j (by omega) (by simp;omega)) h.2⟩
 |(false,c)::r,k,o,n+1,[],as,_,h=>by cases c<;>simp [Et] at h
 |(false,c)::r,k,o,n+1,u::us,[],_,h=>by cases c<;>simp [Et] at h
 |(false,c)::r,k,o,n+1,u::us,a::as,hp,h=>by
  have h:u=a/\Et π0 (k+1) r o n us as:=by cases c<;>exact h
  have:=Et.congr r (k+1) o n us as (λb j h1 h2=>hp b j (by omega) (by simp;omega)) h.2
  cases c<;>exact ⟨h.1,this⟩
theorem qo: ∀(A B:List (Nat×OB)) (l:Nat),Aw (A++B) l=match Aw A l with|some b=>some b|none=>Aw B l
 | [],B,l=>rfl
 |(k,b)::A,B,l=>by
  simp only [Tf,Aw]
  split
  ·rfl
  ·exact qo A B l
theorem ub {st:St} : ∀(cs:List CK) (as:List AC) (x:CKs.den cs) (ls:List Nat),Vm st cs as=some (x,ls)-> ∀l∈ls,∃b,Aw st.heap l=some b/\b.row≠none
 | [],[],x,ls,he=>by
  simp only [Vm,Aa,Ae] at he
  obtain ⟨_,rfl⟩:=he
  intro l hl;cases hl
 | [],_::_,_,_,he=>by simp [Vm] at he
 |_::_,[],_,_,he=>by simp [Vm] at he
 |c::r,a::as,x,ls,he=>by
  simp only [Vm] at he
  split at he
  ·rename_i x1 t1 x2 t2 h1 h2
   simp only [Aa,Ae] at he
   obtain ⟨_,rfl⟩:=he
   intro l hl
   rcases Bb.1 hl with hl|hl
   ·unfold kV at h1
    split at h1
    ·split at h1
     ·cases hv:Dr st _ a with
      |none=>rw [hv] at h1;cases h1
      |some p=>rw [hv] at h1;simp only [Al,Aa,Ae] at h1;obtain ⟨_,rfl⟩:=h1;cases hl
     ·cases h1
    all_goals (repeat' split at h1)
    all_goals first|(cases h1;done)|skip
    all_goals (simp only [Aa,Ae] at h1;obtain ⟨_,rfl⟩:=h1)
    all_goals first|(cases hl;done)|skip
    all_goals (have hl:=Ad.1 hl;subst hl)
    all_goals (rename_i heq _;exact ⟨_,heq,by simp [OB.row]⟩)
   ·exact ub r as x2 t2 h2 l hl
  ·cases he
theorem qC {r r':Option Real} {sz off len:Nat} {v:Value} (h:bI r r') (hv:Im r' sz off len v):Im r sz off len v:=by
 cases r<;>cases r'<;>first|exact h.elim|skip
 ·exact hv
 ·obtain ⟨h1,h2,h3,_⟩:=h
  obtain ⟨ad,g1,g2,g3⟩:=hv
  exact ⟨ad,by rw [h3];exact g1,by rw [h3];exact g2,by rw [h1,h2,h3];exact g3⟩
theorem Zl {st:St} {π0:Pi} (hs: ∀k,Aw st.heap (Dx true k)≠none->bI ((π0 (Dx true k)).map full) (π (Dx true k))):
  ∀(cs:List (Bool×CK)) (k:Nat) (vs:List AC) (us:List Value) (bc:List AC) (o:IOs.den cs),Nn X w π st.heap vs us->Jz k cs vs=some bc->jr st vs cs->Pe st k cs=some o->
   ∃bv,Nn X w π st.heap bc bv/\bv.length=uv cs vs.length/\ ∀tl,Et π0 k cs o vs.length us (bv++tl)
 |cs,k,[],us,bc,o,hr,he,_,_=>by
  have e1:us= []:=by cases us with|nil=>rfl|cons u us=>exact hr.elim
  have e2:bc= []:=by rcases cs with _|⟨⟨_|_,c⟩,r⟩<;>simpa [Jz] using he.symm
  subst e1;subst e2
  refine ⟨[],trivial,?_,λtl=>?_⟩
  ·rcases cs with _|⟨⟨_|_,c⟩,r⟩<;>rfl
  ·rcases cs with _|⟨⟨_|_,c⟩,r⟩<;>(try cases c)<;>simp [Et]
 | [],k,a::vs,us,bc,o,hr,he,_,_=>by simp [Jz] at he
 |p::r,k,a::vs,[],bc,o,hr,_,_,_=>hr.elim
 |(false,c)::r,k,a::vs,u::us,bc,o,hr,he,hk,ho=>by
  have he:(Jz (k+1) r vs).map (λl=>a::l)=some bc:=by cases a<;>exact he
  cases hb:Jz (k+1) r vs with
  |none=>rw [hb] at he;cases he
  |some bc'=>
   rw [hb] at he
   simp only [Al,Aa] at he;subst he
   obtain ⟨bv,g1,g2,g3⟩:=Zl hs r (k+1) vs us bc' o hr.2 hb (by cases a<;>exact hk) (by cases c<;>simpa only [Pe] using ho)
   refine ⟨u::bv,⟨hr.1,g1⟩,by simp [uv,g2],λtl=>?_⟩
   have:=g3 tl
   cases c<;>exact ⟨rfl,this⟩
 |(true,c)::r,k,a::vs,u::us,bc,o,hr,he,hk,ho=>by
  cases c with
  |Ec τ=>cases a<;>simp [Jz] at he
  |part e te=>cases a<;>simp [Jz] at he
  |Bo e te kp=>cases a<;>simp [Jz] at he
  |row e te=>
   cases a<;>first|(simp [Jz] at he;done)|skip
   rename_i l off len
   simp only [Jz] at he
   split at he
   rotate_left
   ·cases he
   rename_i hl
   have hl:l=Dx true k:=Kg hl
   subst hl
   obtain ⟨⟨rfl,hlen⟩,hk⟩:=hk
   obtain ⟨b,sz,n,h1,h2,h3,h4⟩:=hr.1
   have YV:=hs k (by rw [h1];simp)
   simp only [Pe] at ho
   split at ho
   ·rename_i x1 x2 q1 q2
    simp only [Aa] at ho;subst ho
    obtain ⟨bv,g1,g2,g3⟩:=Zl hs r (k+1) vs us bc x2 hr.2 he hk q2
    refine ⟨bv,g1,by simpa [uv] using g2,λtl=>?_⟩
    refine ⟨?_,g3 tl⟩
    simp only [q8] at q1
    split at q1
    ·rename_i fr tr e' Rv xs Mc
     split at q1
     ·rename_i hc
      obtain ⟨rfl,rfl⟩:=hc
      simp only [Aa] at q1;subst q1
      unfold St.at at Mc hlen
      rw [Mc] at hlen
      rw [h1] at Mc;cases Mc
      simp only [OB.row,Aa,Ae] at h2
      obtain ⟨rfl,rfl⟩:=h2
      have hlen:len=List.length xs:=hlen
      have:=qC YV h4
      rw [hlen] at this
      have e0:(π0 (Dx true k)).map full=(π0 (Dx true k)).map full:=rfl
      cases hp:π0 (Dx true k)<;>(rw [hp] at this;exact this)
     ·cases q1
    ·cases q1
   ·cases ho
  |Ij e te=>
   cases a<;>first|(simp [Jz] at he;done)|skip
   rename_i l off len
   simp only [Jz] at he
   split at he
   rotate_left
   ·cases he
   rename_i hl
   have hl:l=Dx true k:=Kg hl
   subst hl
   obtain ⟨⟨rfl,hlen⟩,hk⟩:=hk
   obtain ⟨b,sz,n,h1,h2,h3,h4⟩:=hr.1
   have YV:=hs k (by rw [h1];simp)
   simp only [Pe] at ho
   split at ho
   ·rename_i x1 x2 q1 q2
    simp only [Aa] at ho;subst ho
    obtain ⟨bv,g1,g2,g3⟩:=Zl hs r (k+1) vs us bc x2 hr.2 he hk q2
    refine ⟨bv,g1,by simpa [uv] using g2,λtl=>?_⟩
    refine ⟨?_,g3 tl⟩
    simp only [q8] at q1
    split at q1
    ·rename_i e' Rv xs Mc
     split at q1
     ·rename_i hc
      obtain ⟨rfl,rfl⟩:=hc
      simp only [Aa] at q1;subst q1
      unfold St.at at Mc hlen
      rw [Mc] at hlen
      rw [h1] at Mc;cases Mc
      simp only [OB.row,Aa,Ae] at h2
      obtain ⟨rfl,rfl⟩:=h2
      have hlen:len=List.length xs:=hlen
      have:=qC YV h4
      rw [hlen] at this
      cases hp:π0 (Dx true k)<;>(rw [hp] at this;exact this)
     ·cases q1
    ·cases q1
   ·cases ho
def Aoy (s:MSpec) (g:Nat) (π:Pi):Pi:= λl=>if s.ptr.isSome=true/\l=Pu then some ⟨g,0,0,λb=>b=g,λb=>b=g⟩ else π l
def Akv (P:Program) (s:MSpec) (fn:Func) (x:Ins.den s.ins) (w:World) (S:Nat->Prop) (π:Pi) (g:Nat) (r:CKs.den s.outs) (o:IOs.den s.ins) (a':Act) (w':World):Prop:=
 ∃(v:Value) (Xi:List Value) (ρ:Pi),a'.defers= []/\(results fn a'.tmps).run P w'= .ok v w'/\sw s w' ρ (Xi.drop s.aM) v/\lZ s π w' g Xi o/\Lk w.heap.size (λb=>Wa π b\/s.gv g b) w w'/\Mt w' (kO S π ρ) π 0 s.ins o/\Jx w' (kO S π ρ) ρ 0 s.outs r Xi/\
  iI ρ (λb=>b<w'.heap.size/\(w.heap.size<=b\/ ∃l q,l<Bl/\π l=some q/\q.Cr b))/\(∀l,(∀k,k<s.Va->l≠Kx k)->ρ l=none)/\(∀kj∈s.keeps,CG w w' (π (Dx false kj.1)) (ρ (Kx kj.2)) (s.Fp x))
theorem Jx.XM {D:Nat->Prop} {ρ ρ':Pi} : ∀(cs:List CK) (k:Nat) (x:CKs.den cs) (us:List Value),(∀j,k<=j->j<k+cs.length->ρ' (Kx j)=ρ (Kx j))->Jx w D ρ k cs x us->Jx w D ρ' k cs x us
 | [],_,_,[],_,h=>h
 | [],_,_,_::_,_,h=>h.elim
 |_::_,_,_,[],_,h=>h.elim
 |c::r,k,x,u::us,he,h=>⟨by rw [he k (Ap _) (by simp)];exact h.1,Jx.XM r (k+1) x.2 us (λj hj hl=>he j (by omega) (by simp;omega)) h.2⟩
theorem xH {st:St} {n:Nat} {as:List AC} : ∀ {ks:List (Nat×Nat)},xG st n as ks-> ∀kj∈ks,∃l off len e te rows out p,as[kj.2]?=some (.own l off len)/\Aw st.heap l=some (.Bo e te rows out (some p))/\p.1=Dx false kj.1/\n<=p.2/\kj.1<1000
 | [],_,kj,hm=>by cases hm
 |(k,j)::r,h,kj,hm=>by
  simp only [xG] at h
  rcases Bg.1 hm with rfl|hm
  ·obtain ⟨h,_⟩:=h
   split at h
   ·rename_i l off len he
    split at h
    ·rename_i e te rows out p hl
     unfold St.at at hl
     exact ⟨l,off,len,e,te,rows,out,p,he,hl,h.1,h.2.1,by simpa using h.2.2⟩
    ·exact h.elim
   ·exact h.elim
  ·exact xH h.2 kj hm
theorem xP {st:St} : ∀(cs:List CK) (as:List AC) (x:CKs.den cs) (ls:List Nat),Vm st cs as=some (x,ls)->as.length=cs.length
 | [],[],_,_,_=>rfl
 | [],_::_,_,_,he=>by simp [Vm] at he
 |_::_,[],_,_,he=>by simp [Vm] at he
 |c::r,a::as,x,ls,he=>by
  simp only [Vm] at he
  split at he
  ·rename_i h1 h2
   simp only [Ay,xP r as _ _ h2]
  ·cases he
theorem HC {α β:Type} (f:α->Sem β): ∀(l:List α) (vs:List β),vs.length=l.length->(∀(i:Nat) a v,l[i]?=some a->vs[i]?=some v->(f a).run P w= .ok v w)->(l.mapM f).run P w= .ok vs w
 | [],[],_,_=>by simp
 | [],_::_,h,_=>by simp at h
 |_::_,[],h,_=>by simp at h
 |a::l,v::vs,h,hr=>by
  rw [List.mapM_cons]
  simp only [Sem.run_bind,hr 0 a v rfl rfl,Result.andThen_ok,HC f l vs (by simpa using h) (λi a' v' ha hv=>hr (i+1) a' v' (by simpa using ha) (by simpa using hv)),Sem.run_pure]
theorem vH (hT:Ed P T) (Po:Ll P Γ) (hm:P.follows .mixedOrders=true) {f:FuncId} {fn:Func} (hf:P.funcs[f]?=some fn) (s:MSpec) (w:World) (S:Nat->Prop) (π:Pi) (us:List Value) (x:Ins.den s.ins)
  (r:CKs.den s.outs) (o:IOs.den s.ins) (g:Nat) (ng:List Value) (Rr:oQ s w g us ng) (hSg:s.ptr.isSome=true->S g) (iu:fj w (λb=>Wa π b\/S b) π 0 s.ins x us) (kT:iI π (λb=>b<w.heap.size)) (hS: ∀b,S b->b<w.heap.size/\ ¬Wa π b) (YB: ∀l,Aw (Zy 0 s.ins x) l=none->π l=none) (he:Af7 T Γ s fn x λz=>z=(r,o)):
  Calls P f ng.toArray w λe w'=> ∃v Xi ρ,e= .returned v/\sw s w' ρ (Xi.drop s.aM) v/\lZ s π w' g Xi o/\Lk w.heap.size (λb=>Wa π b\/s.gv g b) w w'/\Mt w' (kO S π ρ) π 0 s.ins o/\Jx w' (kO S π ρ) ρ 0 s.outs r Xi/\
   iI ρ (λb=>b<w'.heap.size/\(w.heap.size<=b\/ ∃l q,l<Bl/\π l=some q/\q.Cr b))/\(∀l,(∀k,k<s.Va->l≠Kx k)->ρ l=none)/\(∀kj∈s.keeps,CG w w' (π (Dx false kj.1)) (ρ (Kx kj.2)) (s.Fp x)):=by
 obtain ⟨hlen,c,hb,he⟩:=he
 simp only [Af,Nv] at hlen
 obtain ⟨hlen,YE⟩:=hlen
 unfold zP at YE
 simp only [Af] at YE
 have Amd:=YE.1
 let qY:Pi:=Aoy s g π
 let Sg:Nat->Prop:= λb=>S b/\ ¬s.gv g b
 have hvl: ∀b j,j<1000->Dx b j≠Pu:= λb j hj=>by cases b<;>(unfold Dx Pu;simp;omega)
 have z8: ∀b j,0<=j->j<0+s.ins.length->qY (Dx b j)=π (Dx b j):= λb j _ hj=>Ai λh=>hvl b j (by omega) h.2
 have Ag4: ∀b j,0<=j->j<0+s.ins.length->π (Dx b j)=qY (Dx b j):= λb j h1 h2=>(z8 b j h1 h2).symm
 have Aik:Aw (Zy 0 s.ins x) Pu=none:=Bx λhn=>by
  obtain ⟨b,j,_,h2,h3⟩:=tD s.ins 0 x Pu hn
  exact hvl b j (by omega) h3.symm
 have VO: ∀l q,qY l=some q->(π l=some q/\(s.ptr.isSome=true->l≠Pu))\/(s.ptr.isSome=true/\l=Pu/\q=⟨g,0,0,λb=>b=g,λb=>b=g⟩):= λl q hq=>by
  have hq:(if s.ptr.isSome=true/\l=Pu then some ⟨g,0,0,λb=>b=g,λb=>b=g⟩ else π l)=some q:=hq
  split at hq
  ·rename_i hc;exact .inr ⟨hc.1,hc.2,(Bc hq).symm⟩
  ·rename_i hc;exact .inl ⟨hq,λh1 h2=>hc ⟨h1,h2⟩⟩
 have eB: ∀b,Wa qY b↔Wa π b\/s.gv g b:= λb=>by
  constructor
  ·rintro ⟨l,q,h1,h2⟩
   rcases VO l q h1 with ⟨h3,_⟩|⟨h3,h4,rfl⟩
   ·exact .inl ⟨l,q,h3,h2⟩
   ·exact .inr ⟨h3,h2⟩
  ·rintro (⟨l,q,h1,h2⟩|⟨h1,rfl⟩)
   ·refine ⟨l,q,?_,h2⟩
    show (if s.ptr.isSome=true/\l=Pu then _ else π l)=some q
    rw [Ai]
    ·exact h1
    ·rintro ⟨_,rfl⟩
     rw [YB Pu Aik] at h1;cases h1
   ·exact ⟨Pu,⟨b,0,0,λc=>c=b,λc=>c=b⟩,Ab ⟨h1,rfl⟩,rfl⟩
 have hgS: ∀b,s.gv g b->S b:= λb ⟨h1,h2⟩=>h2▸hSg h1
 have Ahx:fj w (λb=>Wa qY b\/Sg b) qY 0 s.ins x us:=fj.congr s.ins 0 x us z8 (fj.Jp (λb hb=>by
  rcases hb with hb|hb
  ·rcases (eB b).1 hb with hb|hb
   ·exact .inl hb
   ·exact .inr (hgS b hb)
  ·exact .inr hb.1) s.ins 0 x us iu)
 have Amk:iI qY (λb=>b<w.heap.size):=⟨λl q b h1 h2=>by
  rcases VO l q h1 with ⟨h3,_⟩|⟨h3,h4,rfl⟩
  ·exact kT.aq l q b h3 h2
  ·exact (hS b (hgS b ⟨h3,h2⟩)).1,λl l' q q' b h1 h2 h3 h4=>by
  rcases VO l q h1 with ⟨h5,_⟩|⟨h5,h6,rfl⟩<;>rcases VO l' q' h2 with ⟨h7,_⟩|⟨h7,h8,rfl⟩
  ·exact kT.inj l l' q q' b h5 h7 h3 h4
  ·exact absurd ⟨l,q,h5,h3⟩ (hS b (hgS b ⟨h7,h4⟩)).2
  ·exact absurd ⟨l',q',h7,h4⟩ (hS b (hgS b ⟨h5,h3⟩)).2
  ·rw [h6,h8]⟩
 have Ar5: ∀b,Sg b->b<w.heap.size/\ ¬Wa qY b:= λb hb=>⟨(hS b hb.1).1,λho=>((eB b).1 ho).elim (hS b hb.1).2 hb.2⟩
 have PW: ∀l,Aw (qp s x) l=match Aw (Zy 0 s.ins x) l with|some b=>some b|none=>if l=Pu then s.ptr.map λp=> .var p.1 ((c5 0 s.ins x).take p.2) else none:= λl=>by
  unfold qp
  cases hp:s.ptr with
  |none=>cases Aw (Zy 0 s.ins x) l<;>simp
  |some p=>
   simp only
   rw [qo]
   cases Aw (Zy 0 s.ins x) l with
   |some b=>rfl
   |none=>
    simp only [Aw,Al]
    by_cases e:l=Pu
    ·rw [Ab e,Ab e.symm]
    ·rw [Ai e,Ai (λh=>e h.symm)]
 let π0:Pi:= λl=>(qY l).map full
 have un: ∀l q,π0 l=some q-> ∃q0,qY l=some q0/\q=full q0:= λl q hq=>by
  have hq:(qY l).map full=some q:=hq
  cases hp:qY l with
  |none=>rw [hp] at hq;cases hq
  |some q0=>rw [hp] at hq;exact ⟨q0,rfl,(Bc hq).symm⟩
 have YI: ∀l b,Aw (Zy 0 s.ins x) l=some b->Aw (qp s x) l=some b:= λl b hb=>by rw [PW l,hb]
 have hrc:Nn ⟨w,Sg,Wa qY,π0⟩ w π0 (qp s x) (c5 0 s.ins x) us:=ER (λ_=>rfl) s.ins 0 x us (by omega) Ahx YI
 have ZA:s.ptr.isSome=true->π0 Pu=some ⟨g,0,0,λb=>b=g,λb=>b=g⟩:= λhp=>by
  show (if s.ptr.isSome=true/\Pu=Pu then _ else π Pu).map full=_
  rw [Ab ⟨hp,rfl⟩];rfl
 obtain ⟨g1,g2⟩:(aI s (c5 0 s.ins x)).length=ng.length/\ ∀(i:Nat) c v,(aI s (c5 0 s.ins x))[i]?=some c->ng[i]?=some v->Bm ⟨w,Sg,Wa qY,π0⟩ w π0 (qp s x) c v:=by
  unfold oQ at Rr
  cases hp:s.ptr with
  |none=>
   rw [hp] at Rr
   obtain ⟨rfl,IY⟩:=Rr
   obtain ⟨g1,g2,_,_⟩:=ey s.Jb _ us IY hrc
   rw [show aI s (c5 0 s.ins x)=Tl s.Jb (c5 0 s.ins x) by unfold aI;rw [hp]]
   exact ⟨g1,g2⟩
  |some p=>
   rw [hp] at Rr
   obtain ⟨rfl,IY,_⟩:=Rr
   obtain ⟨g1,g2,_,_⟩:=ey s.Jb _ (us.drop p.2) IY (Nn.take p.2 hrc).2
   rw [show aI s (c5 0 s.ins x)= .at (.Hu Pu 0)::Tl s.Jb ((c5 0 s.ins x).drop p.2) by unfold aI;rw [hp]]
   refine ⟨by simp [g1],λi c v h1 h2=>?_⟩
   rcases i with _|i
   ·simp only [Bq,Aa] at h1 h2
    subst h1;subst h2
    exact ⟨_,p.1,(c5 0 s.ins x).take p.2,by rw [PW,Aik];simp [hp],ZA (by rw [hp];rfl),rfl⟩
   ·exact g2 i c v (by simpa using h1) (by simpa using h2)
 have h0:Rel ⟨w,Sg,Wa qY,π0⟩ {tmps:=aI s (c5 0 s.ins x)++List.replicate (fn.ntmps-(aI s (c5 0 s.ins x)).length) .undef,heap:=qp s x}
   {tmps:=ng.toArray++Array.replicate (fn.ntmps-ng.toArray.size) undef,defers:= []} w:=by
  refine ⟨π0,⟨Lk.refl _ _ _,λb hb=>Ar5 b hb,λl q b h1 h2=>?_,λl q b h1 h2=>?_,λl l' q q' b h1 h2 h3 h4=>?_,λl _ _=>bI.rfl' _,λl=>?_⟩,⟨by simp [g1],rfl,λt=>?_⟩⟩
  ·obtain ⟨q0,_,rfl⟩:=un l q h1;exact h2
  ·obtain ⟨q0,h3,rfl⟩:=un l q h1
   exact ⟨.inr ⟨l,q0,h3,h2⟩,Amk.aq l q0 b h3 h2⟩
  ·obtain ⟨q0,h5,rfl⟩:=un l q h1
   obtain ⟨q0',h6,rfl⟩:=un l' q' h2
   exact Amk.inj l l' q0 q0' b h5 h6 h3 h4
  ·cases hh:Aw (Zy 0 s.ins x) l with
   |none=>
    by_cases hv:s.ptr.isSome=true/\l=Pu
    ·obtain ⟨hps,rfl⟩:=hv
     obtain ⟨p,hp⟩:=iz.1 hps
     refine Gh.Mf (b:= .var p.1 ((c5 0 s.ins x).take p.2)) ?_ (by rw [PW,hh];simp [hp])
     unfold oQ at Rr
     rw [hp] at Rr
     obtain ⟨_,_,h1,h2,h3⟩:=Rr
     rw [ZA hps]
     exact ⟨_,rfl,rfl,_,h2,Nn.to (Nn.take p.2 hrc).1 h3⟩
    ·refine Gh.Uq ?_ ?_
     ·show (if s.ptr.isSome=true/\l=Pu then _ else π l).map full=none
      rw [Ai hv,YB l hh];rfl
     ·rw [PW,hh]
      simp only
      split
      ·rename_i e
       cases hp:s.ptr with
       |none=>rfl
       |some p=>exact absurd ⟨by rw [hp];rfl,e⟩ hv
      ·rfl
   |some b=>exact Gh.Mf (mw (π0:=qY) (λb hb=>by
    rcases hb with ⟨l,q,h1,h2⟩|hb|⟨hb,_⟩
    ·obtain ⟨q0,h3,rfl⟩:=un l q h1;exact .inl ⟨l,q0,h3,h2⟩
    ·exact .inr hb
    ·cases hb) rfl (λ_=>rfl) s.ins 0 x us Ahx l b hh) (YI l b hh)
  ·show Bm _ w _ _ ((aI s (c5 0 s.ins x)++List.replicate _ AV.undef).getD t .undef) ((ng.toArray++Array.replicate _ undef).getD t undef)
   by_cases ht:t<ng.length
   ·rw [Aj,At (by omega),<-Aj]
    rw [cB,Tu (by simpa using ht)]
    have:=g2 t _ _ (Ac (by omega)) (Ac ht)
    simpa [Aj,Ac ht,Ac (show t<(aI s (c5 0 s.ins x)).length by omega)] using this
   ·have:(aI s (c5 0 s.ins x)++List.replicate (fn.ntmps-(aI s (c5 0 s.ins x)).length) AV.undef).getD t .undef= .undef:=by
     rw [Aj,Ar (by omega)]
     rw [Zi]
     split<;>rfl
    rw [this];trivial
 have fin: ∀(st:St) (a':Act) (w':World),WY T s fn x st (λz=>z=(r,o))->Rel ⟨w,Sg,Wa qY,π0⟩ st a' w'->Akv P s fn x w S π g r o a' w':=by
  intro st a' w' ru hrel
  obtain ⟨cz,h'⟩:=hrel
  have Aga:Bl<=Pu:=by unfold Bl Pu;omega
  obtain ⟨bc,qn,At5,hbc⟩: ∃bc,kJ T s fn x st bc (λz=>z=(r,o))/\(s.ptr.isSome=true-> ∃b,Aw st.heap Pu=some b/\b.row=none)/\
    (Pe st 0 s.ins=some o-> ∃bv,Nn ⟨w,Sg,Wa qY,π0⟩ w' cz st.heap bc bv/\bv.length=s.aM/\ ∀tl,lZ s π w' g (bv++tl) o):=by
   unfold WY at ru
   cases hp:s.ptr with
   |none=>
    rw [hp] at ru
    exact ⟨[],ru,λh=>by simp at h,λ_=>⟨[],trivial,by simp [MSpec.aM,hp],λtl=>by simp [lZ,hp]⟩⟩
   |some p=>
    rw [hp] at ru
    obtain ⟨vs,cs,h1,h2,h3,h4,h5⟩:=ru
    unfold St.at at h1
    refine ⟨cs,h5,λ_=>⟨_,h1,rfl⟩,λz6=>?_⟩
    obtain ⟨q,k1,k2,cur,k3,k4⟩:=(h'.1.heap Pu).Rz h1
    have hsv:bI (π0 Pu) (cz Pu):=h'.1.iB Pu Aga (by rw [h1];simp)
    rw [ZA (by rw [hp];rfl),k1] at hsv
    have hqg:g=q.g:=hsv.1
    obtain ⟨bv,g1,g2,g3⟩:=Zl (π0:=qY) (λk hk=>h'.1.iB _ (Nat.le_of_not_lt (bt k)) hk) s.ins 0 vs cur.toList cs o (Nn.of k4) h3 h4 z6
    refine ⟨bv,g1,by rw [g2,h2];simp [MSpec.aM,hp],λtl=>?_⟩
    unfold lZ
    rw [hp]
    refine ⟨cur.toList,by rw [hqg];simpa using k3,λu hu=>?_,Et.congr s.ins 0 o p.2 _ _ Ag4 (h2▸g3 tl)⟩
    obtain ⟨i,hi,rfl⟩:=Bf.1 hu
    have hl:=k4.1
    obtain ⟨u',h6,h7,_⟩:=k4.2 i (vs[i]'(by omega)) (Ac _)
    rw [Ac hi] at h6
    rw [Bc h6];exact h7
  unfold kJ at qn
  split at qn
  ·exact qn.elim
  rename_i l hl
  split at qn
  ·exact qn.elim
  rename_i as ml iv
  split at qn
  rotate_left
  ·exact qn.elim
  rename_i r' ls o' vS qk
  obtain ⟨Ki,xz,YU⟩:=qn
  simp only [Af,Nv] at Ki
  obtain ⟨⟨⟨s9,Ax0⟩,Av9⟩,Am5⟩:=Ki
  simp only [Ae] at YU
  obtain ⟨rfl,rfl⟩:=YU
  obtain ⟨bv,hbv,Arj,Arf⟩:=hbc qk
  have KI:=Yo s9
  obtain ⟨n1,n2,n3⟩:=Du.1 KI
  obtain ⟨m1,m2,m3⟩:=Du.1 n1
  obtain ⟨vs,v1,v2,v3,v4⟩:=Yq hT h' _ _ hl
  have hrs:fn.results=fn.results.toList.toArray:=Array.toArray_toList.symm
  have Vw: ∀v,(if h:vs.toArray.size=1 then vs.toArray[0] else .tuple vs.toArray)=v->(results fn a'.tmps).run P w'= .ok v w':=by
   intro v hv
   rw [gh,hrs,List.mapM_toArray]
   simp only [map_eq_pure_bind,bind_assoc,pure_bind]
   simp only [Sem.run_bind,HC (MU a'.tmps) _ vs v1 v3,Result.andThen_ok,Sem.run_pure]
   rw [hv]
  obtain ⟨wM,v,qm,At3,hv,hqm⟩: ∃wM v qm,Nn ⟨w,Sg,Wa qY,π0⟩ w' cz st.heap as wM/\(results fn a'.tmps).run P w'= .ok v w'/\
    ((s.rp=none/\ml= []/\qm=none/\Aat s.Ht s.Hp wM v/\dd s.Hp wM)\/
     ∃tid m q,s.rp=some tid/\ml= [m]/\m<Bl/\qm=some q/\cz m=some q/\q.Cr q.g/\w'.heap[q.g]?=some (.cells wM.toArray tid (0,0))/\(∀u∈wM,u.oneCell'=true)/\v= .pointer (some ⟨q.g,0,none⟩)):=by
   unfold MT at iv
   split at iv
   ·rename_i IX
    split at iv
    rotate_left
    ·cases iv
    rename_i hmul
    cases oP:ungroup s.Hp l with
    |none=>rw [oP] at iv;cases iv
    |some as'=>
     rw [oP] at iv
     simp only [Al,Aa,Ae] at iv
     obtain ⟨rfl,rfl⟩:=iv
     obtain ⟨wM,e1,e2,e3⟩:=an s.Hp l vs as' (by omega) v4 oP
     have hv: ∃v,(results fn a'.tmps).run P w'= .ok v w'/\Aat s.Ht s.Hp wM v:=by
      unfold Aat
      rw [<-e1,hmul]
      rcases Nat.lt_or_ge 1 l.length with h1|h1
      ·have WJ:Nat.blt 1 l.length=true:=by simpa using h1
       simp only [WJ,Qa]
       refine ⟨.tuple vs.toArray,Vw _ ?_,rfl⟩
       rw [dif_neg (by simp;omega)]
      ·have WJ:Nat.blt 1 l.length=false:=by rw [<-Hy];simpa using h1
       simp only [WJ,Cz,Ry]
       rcases vs with _|⟨v,_|⟨v',vs⟩⟩
       ·exact ⟨_,Vw _ (by simp;rfl), .inr rfl⟩
       ·exact ⟨v,Vw _ (by simp), .inl rfl⟩
       ·exfalso;simp only [Ay] at v1;omega
     obtain ⟨v,hv1,hv2⟩:=hv
     exact ⟨wM,v,none,e3,hv1, .inl ⟨IX,rfl,rfl,hv2,e2⟩⟩
   ·rename_i tid IX
    split at iv
    rotate_left
    ·cases iv
    rename_i m i
    split at iv
    rotate_left
    ·cases iv
    rename_i Vd vs' hm
    split at iv
    rotate_left
    ·cases iv
    rename_i hc
    obtain ⟨rfl,rfl,hmp⟩:=hc
    simp only [Aa,Ae] at iv
    obtain ⟨rfl,rfl⟩:=iv
    unfold St.at at hm
    rcases vs with _|⟨v,_|⟨v',vs⟩⟩
    ·exfalso;simp only [Ay,Ex] at v1 v2;omega
    ·obtain ⟨q,Ayz,vs2,q1,q2,q3⟩:=v4 0 _ v rfl rfl
     rw [hm] at q1;cases q1
     obtain ⟨q',k1,k2,cur,k3,k4⟩:=(h'.1.heap m).Rz hm
     rw [q2] at k1;cases k1
     refine ⟨cur.toList,v,some q,Nn.of k4,Vw _ (by simp), .inr ⟨_,m,q,IX,rfl,by simpa using hmp,rfl,q2,k2,by simpa using k3,λu hu=>?_,q3⟩⟩
     obtain ⟨i,hi,rfl⟩:=Bf.1 hu
     have hl:=k4.1
     obtain ⟨u',h6,h7,_⟩:=k4.2 i (vs'[i]'(by omega)) (Ac _)
     rw [Ac hi] at h6
     rw [Bc h6];exact h7
    ·exfalso;simp only [Ay,Ex] at v1 v2;omega
  obtain ⟨CE,p1,p2,p3,p4,p5⟩:=xQ h'.1 s.outs 0 (bc++as) (bv++wM) r' ls (hbv.append At3) vS m2
  obtain ⟨io1,io2⟩:=Uy (π0:=qY) h'.1 (λ_=>rfl) s.ins 0 x us o' Ahx qk
  have Aln:(bv++wM).drop s.aM=wM:=by rw [<-Arj];simp
  let ρ:Pi:= λl0=>if l0=Kx s.outs.length then qm else CE l0
  have Ain:ρ (Kx s.outs.length)=qm:=Ab rfl
  have Anc: ∀l0,l0≠Kx s.outs.length->ρ l0=CE l0:= λl0 h=>Ai h
  have Anb: ∀j,j<s.outs.length->ρ (Kx j)=CE (Kx j):= λj hj=>Anc _ (by unfold Kx;omega)
  have vr: ∀l0 q,ρ l0=some q->(l0=Kx s.outs.length/\qm=some q)\/(l0≠Kx s.outs.length/\CE l0=some q):= λl0 q h=>by
   by_cases e:l0=Kx s.outs.length
   ·subst e;rw [Ain] at h;exact .inl ⟨rfl,h⟩
   ·rw [Anc l0 e] at h;exact .inr ⟨e,h⟩
  have Amp: ∀q,qm=some q-> ∃m,ml= [m]/\m<Bl/\cz m=some q:= λq hq=>by
   rcases hqm with ⟨_,_,h1,_⟩|⟨_,m,q',_,h1,h2,h3,h4,_⟩
   ·rw [h1] at hq;cases hq
   ·rw [h3] at hq;cases hq;exact ⟨m,h1,h2,h4⟩
  have p3': ∀l0 q b,ρ l0=some q->q.Cr b-> ∃l1∈ml++ls,∃p,cz l1=some p/\p.cl b/\((s.outs.all λc=>!c.isX)=true->p.Cr b)/\((l1∈ls)\/l1<Bl):= λl0 q b h1 h2=>by
   rcases vr l0 q h1 with ⟨_,h3⟩|⟨_,h3⟩
   ·obtain ⟨m,e1,e2,e3⟩:=Amp q h3
    exact ⟨m,by rw [e1];simp,q,e3,h'.1.sub m q b e3 h2,λ_=>h2, .inr e2⟩
   ·obtain ⟨l1,g1,p,g2,g3,g4⟩:=p3 l0 q b h3 h2
    exact ⟨l1,Cg _ g1,p,g2,g3,g4, .inl g1⟩
  have p4': ∀l0 l1 q q' b,ρ l0=some q->ρ l1=some q'->q.Cr b->q'.Cr b->l0=l1:= λl0 l1 q q' b h1 h2 h3 h4=>by
   have DM: ∀l0 q q' b,CE l0=some q->qm=some q'->q.Cr b->q'.Cr b->False:= λl0 q q' b h1 h2 h3 h4=>by
    obtain ⟨m,e1,e2,e3⟩:=Amp q' h2
    obtain ⟨l1,g1,p,g2,g3,_⟩:=p3 l0 q b h1 h3
    have:=h'.1.inj m l1 q' p b e3 g2 (h'.1.sub m q' b e3 h4) g3
    exact m3 m (by rw [e1];simp) l1 g1 this
   rcases vr l0 q h1 with ⟨e1,h5⟩|⟨e1,h5⟩<;>rcases vr l1 q' h2 with ⟨e2,h6⟩|⟨e2,h6⟩
   ·rw [e1,e2]
   ·exact (DM l1 q' q b h6 h5 h4 h3).elim
   ·exact (DM l0 q q' b h5 h6 h3 h4).elim
   ·exact p4 l0 l1 q q' b h5 h6 h3 h4
  have QE: ∀l0 q,Bl<=l0->qY l0=some q->Aw st.heap l0≠none/\(l0∈Qk 0 s.ins\/ ∃b,Aw st.heap l0=some b/\b.row=none):= λl0 q h1 h2=>by
   rcases VO l0 q h2 with ⟨h3,_⟩|⟨h3,rfl,_⟩
   ·have z6:=xD s.ins 0 x l0 Amd (by omega) (λhnn=>by rw [YB l0 hnn] at h3;cases h3) (by omega)
    exact ⟨io2 l0 z6, .inl z6⟩
   ·obtain ⟨b,h4,h5⟩:=At5 h3
    exact ⟨by rw [h4];simp, .inr ⟨b,h4,h5⟩⟩
  have hDO:(s.outs.all λc=>!c.isX)=true-> ∀b,kO Sg qY ρ b->Wa cz b\/Sg b:=by
   intro hx b hb
   rcases hb with hb|⟨l0,q,h1,h2,h3⟩|⟨l0,q,h1,h2⟩
   ·exact .inr hb
   ·have hs:=h'.1.iB l0 h1 (QE l0 q h1 h2).1
    have hs:bI ((qY l0).map full) (cz l0):=hs
    rw [h2] at hs
    cases xA:cz l0 with
    |none=>rw [xA] at hs;exact hs.elim
    |some q1=>rw [xA] at hs;exact .inl ⟨l0,q1,xA,(hs.2.2.2 b).1 h3⟩
   ·obtain ⟨m,_,p,hm2,_,hm4,_⟩:=p3' l0 q b h1 h2
    exact .inl ⟨m,p,hm2,hm4 hx⟩
  have hDD: ∀b,kO S π ρ b->kO Sg qY ρ b:= λb hb=>by
   rcases hb with hb|⟨l0,q,h1,h2,h3⟩|hb
   ·by_cases WL:s.gv g b
    ·obtain ⟨hps,rfl⟩:=WL
     exact .inr (.inl ⟨Pu,_,Aga,Ab ⟨hps,rfl⟩,rfl⟩)
    ·exact .inl ⟨hb,WL⟩
   ·refine .inr (.inl ⟨l0,q,h1,?_,h3⟩)
    show (if s.ptr.isSome=true/\l0=Pu then _ else π l0)=some q
    rw [Ai]
    ·exact h2
    ·rintro ⟨_,rfl⟩
     rw [YB Pu Aik] at h2;cases h2
   ·exact .inr (.inr hb)
  have hfl:s.flat=true\/(s.outs.all λc=>!c.isX)=true:=by unfold MSpec.ZW at Am5;simpa only [Mi] using Am5
  have io1:Mt w' (kO S π ρ) π 0 s.ins o':=by
   refine Mt.congr s.ins 0 o' Ag4 ?_
   rcases hfl with hf|hf
   ·unfold MSpec.flat at hf
    simp only [Af] at hf
    exact Mt.any s.ins 0 o' hf.2 io1
   ·exact Mt.Jp (λb hb=>hDO hf b (hDD b hb)) s.ins 0 o' io1
  have p1:Jx w' (kO S π ρ) ρ 0 s.outs r' (bv++wM):=by
   have p1:Jx w' (λb=>Wa cz b\/Sg b) ρ 0 s.outs r' (bv++wM):=Jx.XM s.outs 0 r' _ (λj _ hj=>Anb j (by omega)) p1
   rcases hfl with hf|hf
   ·unfold MSpec.flat at hf
    simp only [Af] at hf
    exact Jx.any s.outs 0 r' (bv++wM) hf.1 p1
   ·exact Jx.Jp (λb hb=>hDO hf b (hDD b hb)) s.outs 0 r' (bv++wM) p1
  refine ⟨v,bv++wM,ρ,h'.2.defers,hv,?_,Arf wM,⟨h'.1.below.os,h'.1.below.tape,h'.1.below.output,h'.1.below.size,λk hk hn=>h'.1.below.block k hk λho=>hn ((eB k).1 ho)⟩,io1,p1,⟨λl0 q b h1 h2=>?_,p4'⟩,λl0 hl0=>?_,λkj WN=>?_⟩
  ·rw [Aln]
   unfold sw
   rcases hqm with ⟨h1,_,_,h2⟩|⟨tid,m,q,h1,_,_,h3,_,h4,h5,h6,h7⟩
   ·rw [h1];exact h2
   ·rw [h1];exact ⟨q,by rw [Ain,h3],h4,h5,h6,h7⟩
  ·obtain ⟨m,hm1,p,hm2,hm3,_,hm4⟩:=p3' l0 q b h1 h2
   obtain ⟨k1,k2⟩:=h'.1.place m p b hm2 hm3
   refine ⟨k2,k1.imp id λ⟨c0,q0,h5,h6⟩=>?_⟩
   have Li:c0<Bl:=Bx λhn=>by
    obtain ⟨Jr,z6⟩:=QE c0 q0 (by omega) h5
    have hs:=h'.1.iB c0 (by omega) Jr
    have hs:bI ((qY c0).map full) (cz c0):=hs
    rw [h5] at hs
    cases xA:cz c0 with
    |none=>rw [xA] at hs;exact hs.elim
    |some q1=>
     rw [xA] at hs
     have hf1:q1.Cr b:=(hs.2.2.2 b).1 h6
     have:=h'.1.inj c0 m q1 p b xA hm2 (h'.1.sub c0 q1 b xA hf1) hm3
     subst this
     rcases hm4 with hm4|hm4
     ·rcases z6 with z6|⟨b1,WJ,hb2⟩
      ·exact n3 c0 hm1 c0 z6 rfl
      ·obtain ⟨b2,hb3,hb4⟩:=ub s.outs _ _ _ vS c0 hm4
       rw [WJ] at hb3;cases hb3
       exact hb4 hb2
     ·exact hn hm4
   refine ⟨c0,q0,Li,?_,h6⟩
   rcases VO c0 q0 h5 with ⟨h7,_⟩|⟨_,h7,_⟩
   ·exact h7
   ·omega
  ·cases hp:ρ l0 with
   |none=>rfl
   |some q=>
    rcases vr l0 q hp with ⟨e,h3⟩|⟨_,h3⟩
    ·refine absurd e (hl0 _ ?_)
     rcases hqm with ⟨_,_,h4,_⟩|⟨tid,m,q',h4,_⟩
     ·rw [h4] at h3;cases h3
     ·unfold MSpec.Va;rw [h4];simp
    ·obtain ⟨j,_,j2,j3⟩:=p2 l0 q h3
     exact absurd j3 (hl0 j (by unfold MSpec.Va;omega))
  ·obtain ⟨l0,off,len,e,te,rows,out,p,q1,q2,q3,q4,q5⟩:=xH xz kj WN
   have hj:kj.2<s.outs.length:=by
    rw [<-xP s.outs _ _ _ vS]
    exact (Am.1 q1).1
   have e1:=p5 kj.2 l0 off len e te rows out (some p) q1 q2
   rw [Ce] at e1
   rw [Anb _ hj,e1]
   have hk:=((h'.1.heap l0).Rz q2).2
   obtain ⟨l1,n1⟩:=p
   simp only [KeptAt] at hk
   dsimp only at q3 q4
   subst q3
   have IW:π0 (Dx false kj.1)=(π (Dx false kj.1)).map full:=by
    show (if s.ptr.isSome=true/\Dx false kj.1=Pu then _ else π (Dx false kj.1)).map full=_
    rw [Ai λh=>hvl false kj.1 q5 h.2]
   rw [IW] at hk
   unfold CG
   cases hp:π (Dx false kj.1) with
   |none=>
    rw [hp] at hk
    cases xA:cz l0 with
    |none=>trivial
    |some q=>rw [xA] at hk;exact hk.elim
   |some q0=>
    rw [hp] at hk
    cases xA:cz l0 with
    |none=>rw [xA] at hk;exact hk.elim
    |some q=>
     rw [xA] at hk
     obtain ⟨k1,k2,k3,k4⟩:=hk
     exact ⟨k1,k2,k3,λj hj hc=>k4 j (by omega) hc⟩
 refine calls_of_wp hf hb ?_
 refine (uz hT Po hm he _ w _ h0 λe st a' w' ⟨Jr,ru⟩ h'=>?_).1
 obtain ⟨v,Xi,ρ,p1,p2,p3⟩:=fin st a' w' ru h'
 cases e with
 |normal=>exact ⟨p1,v,p2,v,Xi,ρ,rfl,p3⟩
 |ret=>exact ⟨p1,v,p2,v,Xi,ρ,rfl,p3⟩
 |exit id=>exact absurd rfl (Jr id)
end
end Go.Proofs.YtkkdpknjohcekaaGreat
