/-
  Part 27 of the proof that the statement FnMethods holds.
-/
import Derived.Test.YtkkdpknjohcekaaGreatCFMethods25
namespace Go.Proofs.YtkkdpknjohcekaaGreat
open Go.RowKit
section
variable {P:Program} {T:Tab} {Γ:Env} {X:Ctx} {w w':World} {π:Pi} {H:List (Nat×OB)}
theorem tW: ∀(cs:List (Bool×CK)) (k:Nat) (x:Ins.den cs) (l:Nat),Av (a9 k cs x) l≠none-> ∃b j,k<=j/\j<k+cs.length/\l=Ee b j
 | [],_,_,_,h=>absurd rfl h
 |p::r,k,x,l,h=>by
  simp only [a9] at h
  by_cases e:l=Ee p.1 k
  ·exact ⟨p.1,k,Aq _,by simp,e⟩
  ·have:Av (a9 (k+1) r x.2) l≠none:=by
    cases hc:kU (Ee p.1 k) p.2 x.1 with
    |none=>rw [hc] at h;exact h
    |some b=>rw [hc] at h;simpa only [iU,Av,Ai (Hv e)] using h
   obtain ⟨b,j,h1,h2,h3⟩:=tW r (k+1) x.2 l this
   exact ⟨b,j,by omega,by simp;omega,h3⟩
theorem US {p:Bool×CK} {r:List (Bool×CK)} {k:Nat} {x:Ins.den (p::r)} (hk:k+(r.length+1)<100000) {l:Nat} {b:OB} (h:Av (a9 (k+1) r x.2) l=some b):Av (a9 k (p::r) x) l=some b:=by
 obtain ⟨b',j,h1,h2,rfl⟩:=tW r (k+1) x.2 l (by rw [h];simp)
 simp only [a9]
 cases kU (Ee p.1 k) p.2 x.1 with
 |none=>exact h
 |some c=>simp only [iU,Av];rw [Ai (TB (by omega) (by omega) (by omega))];exact h
theorem ZJ {D:Nat->Prop} (hD: ∀b,Dc X.w0.heap.size X.Sc π false b->D b) (hw0:X.w0=w) {l:Nat} {r:Option Real} (dF:X.iD l=r.map full) {u:Value} {c:CK} {x:c.den} (h:fc w D r u c x) {b:OB} (hb:kU l c x=some b):Cl X w π H (r.map full) b:=by
 have Wv: ∀ {e:Ty} {es:List Value} {y:e.den},Cells w D e es y->Cells w (Dc X.w0.heap.size X.Sc π false) e es y:= λ {e es y} h=>Cells.Gj (Aq _) (λ_ _ _=>rfl) (λb _ hb=>hD b hb) e es y h
 cases c with
 |Hw τ=>cases hb
 |row e te=>
  simp only [kU,Aa] at hb;subst hb
  obtain ⟨_,h⟩:=h
  simp only [gC] at h
  simp only [Cl,Kz]
  cases r with
  |none=>exact h
  |some q=>
   obtain ⟨k1,cu,ti,k2,k3,k4,k5,k6⟩:=h
   exact ⟨⟨k1.1,k1.2,λh=>by cases h⟩,cu,ti,k2,k3,k4,k5,λi y hy=>by
    obtain ⟨es,g1,g2,g3⟩:=k6 i y hy
    exact ⟨es,g1,g2,Wv g3⟩,λh=>by cases h⟩
 |Iu e te=>
  simp only [kU,Aa] at hb;subst hb
  cases r<;>exact h.2
 |part e te=>
  simp only [kU,Aa] at hb;subst hb
  obtain ⟨_,hf,h⟩:=h
  simp only [Cl,Kz]
  cases r with
  |none=>exact h
  |some q=>
   obtain ⟨k1,cu,ti,k2,k3,k4,k5,k6⟩:=h
   exact ⟨⟨k1.1,k1.2,λh=>by cases h⟩,cu,ti,k2,k3,k4,k5,λi y hy=>by
    obtain ⟨es,g1,g2,g3⟩:=k6 i y hy
    exact ⟨es,g1,g2,Wv g3⟩,λh=>by cases h⟩
 |Bu e te kp=>
  simp only [kU,Aa] at hb;subst hb
  have h2:aK w D r e x none:=h.2
  have h3:=aK.Jv h2 hD
  refine ⟨by cases r<;>exact h3,?_⟩
  cases kp with
  |false=>trivial
  |true=>
   simp only [Pl,KeptAt]
   rw [dF]
   cases r with
   |none=>trivial
   |some q=>exact ⟨rfl,rfl,rfl,λj _ _=>by rw [hw0]⟩
theorem mo {D:Nat->Prop} (hD: ∀b,Dc X.w0.heap.size X.Sc π false b->D b) (hw0:X.w0=w) {π0:Pi} (dF: ∀l,X.iD l=(π0 l).map full): ∀(cs:List (Bool×CK)) (k:Nat) (x:Ins.den cs) (us:List Value),fe w D π0 k cs x us-> ∀l b,Av (a9 k cs x) l=some b->Cl X w π H ((π0 l).map full) b
 | [],_,_,_,_,_,_,h=>by cases h
 |_::_,_,_,[],h,_,_,_=>h.elim
 |p::r,k,x,u::us,h,l,b,hb=>by
  simp only [a9] at hb
  cases hc:kU (Ee p.1 k) p.2 x.1 with
  |none=>rw [hc] at hb;exact mo hD hw0 dF r (k+1) x.2 us h.2 l b hb
  |some c=>
   rw [hc] at hb
   simp only [iU,Av] at hb
   split at hb
   ·rename_i e;subst e
    simp only [Aa] at hb;subst hb
    exact ZJ hD hw0 (dF _) h.1 hc
   ·exact mo hD hw0 dF r (k+1) x.2 us h.2 l b hb
theorem GC {S:Nat->Prop} {π0:Pi} {gv:Nat->Prop} {iD:Pi} (eC: ∀l,π l=(π0 l).map full): ∀(cs:List (Bool×CK)) (k:Nat) (x:Ins.den cs) (us:List Value),k+cs.length<100000->fe w (λb=>Vd π0 b\/S b) π0 k cs x us->(∀l b,Av (a9 k cs x) l=some b->Av H l=some b)->
  Nx ⟨w,S,gv,iD⟩ w π H (cc k cs x) us
 | [],_,_,[],_,_,_=>trivial
 | [],_,_,_::_,_,h,_=>h.elim
 |_::_,_,_,[],_,h,_=>h.elim
 |p::r,k,x,u::us,hk,h,hH=>by
  simp only [Ay] at hk
  refine ⟨?_,GC eC r (k+1) x.2 us (by omega) h.2 λl b hb=>hH l b (US hk hb)⟩
  have h1:=h.1
  have hh: ∀b,kU (Ee p.1 k) p.2 x.1=some b->Av H (Ee p.1 k)=some b:= λb hb=>hH _ b (by simp only [a9];rw [hb];simp [iU,Av])
  have kB:=eC (Ee p.1 k)
  obtain ⟨io,c⟩:=p
  dsimp only at h1 hh kB⊢
  generalize x.1=y at*
  cases c with
  |Hw τ=>
   show Dg w _ τ u y
   cases hf:τ.flat with
   |true=>exact Dg.flat hf h1.2
   |false=>
    refine h1.2.Jv λb _ hb=>?_
    rcases hb with ⟨l,q,h3,h4⟩|hb|⟨hb,_⟩
    ·rw [eC l] at h3
     cases hp:π0 l with
     |none=>rw [hp] at h3;cases h3
     |some q0=>rw [hp] at h3;simp only [An,Aa] at h3;subst h3;exact .inl ⟨l,q0,hp,h4⟩
    ·exact .inr hb
    ·cases hb
  |row e te=>exact ⟨_,e.size,List.length y,hh _ rfl,rfl,by simp,by rw [kB];exact ak h1.1⟩
  |Iu e te=>exact ⟨_,e.size,List.length y,hh _ rfl,rfl,by simp,by rw [kB];exact ak h1.1⟩
  |part e te=>exact ⟨_,e.size,List.length y.1,hh _ rfl,rfl,h1.1.2,by rw [kB];exact ak h1.1.1⟩
  |Bu e te kp=>exact ⟨_,1,List.length y,hh _ rfl,rfl,by simp,by rw [kB];exact ak h1.1⟩
theorem pZ {p:Real} {s off len:Nat} {u:Value} {f:Nat->Prop} (h:Ib (some p) s off len u):Ib (some ⟨p.g,p.o+off,p.cap-off,f,f⟩) s 0 len u:=by
 obtain ⟨ad,h1,h2,h3⟩:=h
 exact ⟨ad,h1,by dsimp only;omega,λh0=>by dsimp only at h0;simpa using h3 (by omega)⟩
theorem uF {α:Type} {xs:List α} {off len i:Nat} {x:α} (h:((xs.drop off).take len)[i]?=some x):xs[off+i]?=some x:=by
 rw [Cv] at h
 split at h
 ·rw [Cz] at h;exact h
 ·cases h
theorem Ye.part {P:Nat->Prop} {g o:Nat} {cur:Array Value} {e:Ty} {xs:List e.den} (off len:Nat) (h:Ye w P g o cur e xs):Ye w P g (o+off) cur e ((xs.drop off).take len):=by
 obtain ⟨Fs,t1,t2,t3,t4⟩:=h
 refine ⟨(Fs.drop off).take len,by simp [t1],Cg.2 ⟨λhm=>(Cg.1 t2).1 (Te off len _ hm),mC off len (Cg.1 t2).2⟩,λb hb=>t3 b (Te off len b hb),λi x F hx hF=>?_⟩
 obtain ⟨es,k1,k2,k3⟩:=t4 (off+i) x F (uF hx) (uF hF)
 exact ⟨es,k1,λj u hu=>by rw [Hp o off i];exact k2 j u hu,k3⟩
theorem VH {st:St} (h:Nw X w π st.heap) {c:CK} (hg: ∀e te kp,c≠ .Bu e te kp) {a:AC} {u:Value} (hu:Iq X w π st.heap a u) {x:c.den} {ls:List Nat} (he:kX st c a=some (x,ls)):
  ∃r,fc w (λb=>Vd π b\/X.Sc b) r u c x/\ ∀q,r=some q-> ∃l p,ls= [l]/\π l=some p/\(∀b,q.Cw b->p.cl b)/\(c.isX=false-> ∀b,q.Cw b->p.Cw b):=by
 have ZX: ∀ {f:Bool} (b:Nat),(Vd π b\/X.Sc b)->Dc X.w0.heap.size X.Sc π f b:= λb h=>h.imp id .inl
 cases c with
 |Hw τ=>
  simp only [kX] at he
  split at he
  ·rename_i hf
   cases hv:Ec st τ a with
   |none=>rw [hv] at he;cases he
   |some p=>
    obtain ⟨fr,y⟩:=p
    rw [hv] at he
    simp only [An,Aa,Af] at he
    obtain ⟨rfl,rfl⟩:=he
    refine ⟨none,⟨rfl,?_⟩,λq hq=>by cases hq⟩
    have Jv: ∀f,Dg w (Dc X.w0.heap.size X.Sc π f) τ u y->Dg w (λb=>Vd π b\/X.Sc b) τ u y:= λf hr=>hr.Jv λk _ hk=>ZX k hk
    cases a with
    |data f Pj z=>
     rw [Oy] at hv
     split at hv
     ·rename_i ht;subst ht
      simp only [Aa,Af] at hv
      obtain ⟨_,rfl⟩:=hv
      exact Jv f hu
     ·have Qj:τ.Ar=false:=by unfold iW at hv;split at hv<;>first|rfl|cases hv
      exact Jv _ ⟨[u],dB hv hu,by simp [Ce,Qj]⟩
    |Mx=>
     have hu:u= .slice none 0 0:=hu
     subst hu
     cases τ<;>simp only [Ec,Aa,Af,reduceCtorEq] at hv
     ·obtain ⟨_,rfl⟩:=hv;exact ⟨[_],⟨none,0,0,rfl,rfl,Aq _, .inl rfl⟩,rfl⟩
     ·obtain ⟨_,rfl⟩:=hv;exact ⟨[_], .inl ⟨rfl,0,rfl⟩,rfl⟩
    |Wh=>
     have hu:u= .pointer none:=hu
     subst hu
     cases τ<;>simp only [Ec,Aa,Af,reduceCtorEq] at hv
     obtain ⟨_,rfl⟩:=hv;exact ⟨[_], .inl ⟨rfl,rfl⟩,rfl⟩
    |_=>cases τ<;>simp [AC.settled,Ty.flat,Ec] at hf hv
  ·cases he
 |row e te=>
  cases a<;>simp only [kX] at he<;>try (cases he;done)
  ·simp only [Aa,Af] at he
   obtain ⟨rfl,rfl⟩:=he
   have hu:u= .slice none 0 0:=hu
   exact ⟨none,⟨⟨hu,rfl,rfl⟩,rfl⟩,λq hq=>by cases hq⟩
  ·rename_i l off len
   split at he
   ·rename_i fr tr e' Se xs hl
    split at he
    ·rename_i hc
     obtain ⟨rfl,rfl⟩:=hc
     simp only [Aa,Af] at he
     obtain ⟨rfl,rfl⟩:=he
     unfold St.at at hl
     obtain ⟨h1,h2⟩:=Po hu hl
     have hb:=(h.heap l).Sl hl
     simp only [Cl,Kz] at hb
     have hlen:((xs.drop off).take len).length=len:=by simp;omega
     cases hp:π l with
     |none=>
      rw [hp] at h2 hb
      obtain ⟨rfl,rfl,rfl⟩:=h2
      exact ⟨none,⟨⟨rfl,rfl,by simp⟩,by show (xs.drop 0).take 0= [];simp⟩,λq hq=>by cases hq⟩
     |some p=>
      rw [hp] at h2 hb
      obtain ⟨k1,cur,ti,k2,k3,k4,k5,k6,_⟩:=hb
      have ho:=h2
      obtain ⟨ad,_,tE,_⟩:=h2
      refine ⟨some ⟨p.g,p.o+off,p.cap-off,p.Cw,p.Cw⟩,⟨by rw [hlen];exact pZ ho,⟨k1.1,k1.2.1⟩,cur,ti,k2,by rw [k3];congr 1;dsimp only;omega,by dsimp only;omega,by rw [hlen];dsimp only;omega,λi y hy=>?_⟩,
       fun q hq=>by cases hq;exact ⟨l,p,rfl,hp,λb hb=>h.sub l p b hp hb,λ_ b hb=>hb⟩⟩
      obtain ⟨es,g1,g2,g3⟩:=k6 (off+i) y (uF hy)
      exact ⟨es,g1,λj u hu=>by dsimp only;rw [Hp p.o off i];exact g2 j u hu,Cells.Gj (Aq _) (λ_ _ _=>rfl) (λb _ hb=>ZX b hb) e' es y g3⟩
    ·cases he
   ·cases he
 |Iu e te=>
  cases a<;>simp only [kX] at he<;>try (cases he;done)
  ·simp only [Aa,Af] at he
   obtain ⟨rfl,rfl⟩:=he
   have hu:u= .slice none 0 0:=hu
   exact ⟨none,⟨⟨hu,rfl,rfl⟩,rfl⟩,λq hq=>by cases hq⟩
  ·rename_i l off len
   split at he
   ·rename_i fr tr e' Se xs hl
    split at he
    ·rename_i hc
     obtain ⟨rfl,rfl,hf⟩:=hc
     simp only [Aa,Af] at he
     obtain ⟨rfl,rfl⟩:=he
     unfold St.at at hl
     obtain ⟨h1,h2⟩:=Po hu hl
     have hb:=(h.heap l).Sl hl
     simp only [Cl,Kz] at hb
     have hlen:((xs.drop off).take len).length=len:=by simp;omega
     cases hp:π l with
     |none=>
      rw [hp] at h2 hb
      obtain ⟨rfl,rfl,rfl⟩:=h2
      exact ⟨none,⟨⟨rfl,rfl,by simp⟩,by show (xs.drop 0).take 0= [];simp⟩,λq hq=>by cases hq⟩
     |some p=>
      rw [hp] at h2 hb
      obtain ⟨k1,cur,ti,k2,k3,k4,k5,k6,k7⟩:=hb
      have ho:=h2
      obtain ⟨ad,_,tE,_⟩:=h2
      have ht:Ye w p.cl p.g p.o cur e' xs:=by
       simp only [Lh] at hf
       rcases hf with hf|hf
       ·exact k7 hf
       ·exact nO hf k6
      exact ⟨some ⟨p.g,p.o+off,p.cap-off,p.cl,p.cl⟩,⟨by rw [hlen];exact pZ ho,h.sub l p _ hp k1.1,cur,ti,k2,by rw [k3];congr 1;dsimp only;omega,by dsimp only;omega,by rw [hlen];dsimp only;omega,ht.part off len⟩,
       fun q hq=>by cases hq;exact ⟨l,p,rfl,hp,λb hb=>hb,λhx=>by cases hx⟩⟩
    ·cases he
   ·rename_i e' Se xs hl
    split at he
    ·rename_i hc
     obtain ⟨rfl,rfl⟩:=hc
     simp only [Aa,Af] at he
     obtain ⟨rfl,rfl⟩:=he
     unfold St.at at hl
     obtain ⟨h1,h2⟩:=ct hu hl
     have hb:=(h.heap l).Sl hl
     simp only [Cl,Pb] at hb
     have hlen:((xs.drop off).take len).length=len:=by simp;omega
     cases hp:π l with
     |none=>
      rw [hp] at h2 hb
      obtain ⟨rfl,rfl,rfl⟩:=h2
      exact ⟨none,⟨⟨rfl,rfl,by simp⟩,by show (xs.drop 0).take 0= [];simp⟩,λq hq=>by cases hq⟩
     |some p=>
      rw [hp] at h2 hb
      obtain ⟨k1,cur,ti,k2,k3,k4,k5,ht⟩:=hb
      have ho:=h2
      obtain ⟨ad,_,tE,_⟩:=h2
      exact ⟨some ⟨p.g,p.o+off,p.cap-off,p.Cw,p.Cw⟩,⟨by rw [hlen];exact pZ ho,k1,cur,ti,k2,by rw [k3];congr 1;dsimp only;omega,by dsimp only;omega,by rw [hlen];dsimp only;omega,ht.part off len⟩,
       fun q hq=>by cases hq;exact ⟨l,p,rfl,hp,λb hb=>h.sub l p b hp hb,λ_ b hb=>hb⟩⟩
    ·cases he
   ·cases he
 |part e te=>cases a<;>simp [kX] at he
 |Bu e te kp=>exact absurd rfl (hg e te kp)
theorem Abk {st:St} (h:Nw X w π st.heap) {c:CK} {a:AC} {u:Value} (hu:Iq X w π st.heap a u) {x:c.den} {ls:List Nat} (he:kX st c a=some (x,ls)):
  ∃r,fc w (λb=>Vd π b\/X.Sc b) r u c x/\(∀q,r=some q-> ∃l p,ls= [l]/\π l=some p/\(∀b,q.Cw b->p.cl b)/\(c.isX=false-> ∀b,q.Cw b->p.Cw b))/\
   (∀l off len e te rows out kp,a= .own l off len->Av st.heap l=some (.Bu e te rows out kp)->r=π l):=by
 have vW:(∀e te kp,c≠ .Bu e te kp)->(∀l off len e te rows out kp,a=AC.own l off len->Av st.heap l=some (OB.Bu e te rows out kp)->False)->
   ∃r,fc w (λb=>Vd π b\/X.Sc b) r u c x/\(∀q,r=some q-> ∃l p,ls= [l]/\π l=some p/\(∀b,q.Cw b->p.cl b)/\(c.isX=false-> ∀b,q.Cw b->p.Cw b))/\
   (∀l off len e te rows out kp,a= .own l off len->Av st.heap l=some (.Bu e te rows out kp)->r=π l):= λh1 h2=>by
  obtain ⟨r,g1,g2⟩:=VH h h1 hu he
  exact ⟨r,g1,g2,λl off len e te rows out kp h3 h4=>(h2 l off len e te rows out kp h3 h4).elim⟩
 cases c with
 |Hw τ=>
  refine vW (λ_ _ _ h=>by cases h) λl off len e te rows out kp h3 h4=>?_
  subst h3
  simp only [kX] at he
  split at he
  ·rename_i hf
   cases τ<;>simp [AC.settled,Ty.flat,Ec] at hf he
  ·cases he
 |row e te=>
  refine vW (λ_ _ _ h=>by cases h) λl off len e te rows out kp h3 h4=>?_
  subst h3
  simp only [kX,St.at,h4] at he
  cases he
 |Iu e te=>
  refine vW (λ_ _ _ h=>by cases h) λl off len e te rows out kp h3 h4=>?_
  subst h3
  simp only [kX,St.at,h4] at he
  cases he
 |part e te=>cases a<;>simp [kX] at he
 |Bu e te kp=>
  cases a<;>simp only [kX] at he<;>try (cases he;done)
  rename_i l off len
  split at he
  ·rename_i e' Se rows kp' hl
   split at he
   ·rename_i hc
    obtain ⟨rfl,rfl,rfl,rfl⟩:=hc
    simp only [Aa,Af] at he
    obtain ⟨rfl,rfl⟩:=he
    unfold St.at at hl
    obtain ⟨b,sz,n,h1,h2,_,h3⟩:=hu
    rw [hl] at h1;cases h1
    simp only [OB.row,Aa,Af] at h2
    obtain ⟨rfl,rfl⟩:=h2
    have hb:=((h.heap l).Sl hl).1
    refine ⟨π l,⟨h3,aK.Jv hb λb hb=>hb.imp id .inl⟩,λq hq=>⟨l,q,rfl,hq,λb hb=>h.sub l q b hq hb,λ_ b hb=>hb⟩,λl' Bbo Aw2 _ _ _ _ _ he _=>?_⟩
    simp only [AC.own.injEq] at he
    rw [he.1]
   ·cases he
  ·cases he
theorem Jq.congr {D:Nat->Prop} {ρ ρ':Pi} : ∀(cs:List CK) (k:Nat) (x:CKs.den cs) (us:List Value),(∀j,k<=j->ρ' (Jh j)=ρ (Jh j))->Jq w D ρ k cs x us->Jq w D ρ' k cs x us
 | [],_,_,[],_,h=>h
 | [],_,_,_::_,_,h=>h.elim
 |_::_,_,_,[],_,h=>h.elim
 |c::r,k,x,u::us,he,h=>⟨by rw [he k (Aq _)];exact h.1,Jq.congr r (k+1) x.2 us (λj hj=>he j (by omega)) h.2⟩
theorem yl {st:St} (h:Nw X w π st.heap): ∀(cs:List CK) (k:Nat) (as:List AC) (us:List Value) (x:CKs.den cs) (ls:List Nat),Nx X w π st.heap as us->Vz st cs as=some (x,ls)->ls.Nodup->
  ∃ρ:Pi,Jq w (λb=>Vd π b\/X.Sc b) ρ k cs x us/\(∀l q,ρ l=some q-> ∃j,k<=j/\j<k+cs.length/\l=Jh j)/\(∀l q b,ρ l=some q->q.Cw b-> ∃l0∈ls,∃p,π l0=some p/\p.cl b/\((cs.all λc=>!c.isX)=true->p.Cw b))/\
   (∀l l' q q' b,ρ l=some q->ρ l'=some q'->q.Cw b->q'.Cw b->l=l')/\
   (∀(j l off len:Nat) e te rows out kp,as[j]?=some (.own l off len)->Av st.heap l=some (.Bu e te rows out kp)->ρ (Jh (k+j))=π l)
 | [],k,[],[],x,ls,_,he,_=>by
  simp only [Vz,Aa,Af] at he
  exact ⟨λ_=>none,trivial,(λl q h=>by cases h),(λl q b h=>by cases h),(λl l' q q' b h=>by cases h),λj l off len e te rows out kp h=>by simp at h⟩
 | [],_,[],_::_,_,_,h,_,_=>h.elim
 | [],_,_::_,_,_,_,_,he,_=>by simp [Vz] at he
 |_::_,_,[],_,_,_,_,he,_=>by simp [Vz] at he
 |_::_,_,_::_,[],_,_,h,_,_=>h.elim
 |c::r,k,a::as,u::us,x,ls,hr,he,rS=>by
  simp only [Vz] at he
  split at he
  ·rename_i x1 t1 x2 t2 h1 h2
   simp only [Aa,Af] at he
   obtain ⟨rfl,rfl⟩:=he
   obtain ⟨n1,n2,n3⟩:=Ef.1 rS
   obtain ⟨ρ,g1,g2,g3,g4,g5⟩:=yl h r (k+1) as us x2 t2 hr.2 h2 n2
   obtain ⟨rr,r1,r2,r3⟩:=Abk h hr.1 h1
   have EV: ∀l q q0 b,ρ l=some q->rr=some q0->q.Cw b->q0.Cw b->False:= λl q q0 b h3 h4 h5 h6=>by
    obtain ⟨l0,m0,p,p1,p2,_⟩:=g3 l q b h3 h5
    obtain ⟨l1,p',e1,p1',p2',_⟩:=r2 q0 h4
    have:=h.inj l0 l1 p p' b p1 p1' p2 (p2' b h6)
    exact n3 l1 (by rw [e1];simp) l0 m0 this.symm
   refine ⟨λl=>if l=Jh k then rr else ρ l,⟨by simpa using r1,Jq.congr r (k+1) x2 us (λj hj=>Ai (by unfold Jh;omega)) g1⟩,λl q hq=>?_,λl q b hq hb=>?_,λl l' q q' b h3 h4 h5 h6=>?_,λj l off len e te rows out kp hj hl=>?_⟩
   ·dsimp only at hq
    by_cases e:l=Jh k
    ·exact ⟨k,Aq _,by simp,e⟩
    ·rw [Ai e] at hq
     obtain ⟨j,j1,j2,j3⟩:=g2 l q hq
     exact ⟨j,by omega,by simp;omega,j3⟩
   ·dsimp only at hq
    by_cases e:l=Jh k
    ·rw [Ab e] at hq
     obtain ⟨l1,p',e1,p1',p2',p3'⟩:=r2 q hq
     exact ⟨l1,by rw [e1];simp,p',p1',p2' b hb,λhx=>p3' (by simp only [Jl,Ah,Fm] at hx;exact hx.1) b hb⟩
    ·rw [Ai e] at hq
     obtain ⟨l0,m0,p,p1,p2,p3⟩:=g3 l q b hq hb
     exact ⟨l0,Ck _ m0,p,p1,p2,λhx=>p3 (by simp only [Jl,Ah] at hx;exact hx.2)⟩
   ·dsimp only at h3 h4
    by_cases e:l=Jh k<;>by_cases e':l'=Jh k
    ·rw [e,e']
    ·rw [Ab e] at h3;rw [Ai e'] at h4
     exact (EV l' q' q b h4 h3 h6 h5).elim
    ·rw [Ai e] at h3;rw [Ab e'] at h4
     exact (EV l q q' b h3 h4 h5 h6).elim
    ·rw [Ai e] at h3;rw [Ai e'] at h4
     exact g4 l l' q q' b h3 h4 h5 h6
   ·rcases j with _|j
    ·simp only [Bx,Aa] at hj
     show (if Jh k=Jh k then rr else ρ (Jh k))=π l
     rw [Ab rfl]
     exact r3 l off len e te rows out kp hj hl
    ·have:=g5 j l off len e te rows out kp (by simpa using hj) hl
     show (if Jh (k+(j+1))=Jh k then rr else ρ (Jh (k+(j+1))))=π l
     rw [Ai (by unfold Jh;omega),<-this,show k+(j+1)=k+1+j by omega]
  ·cases he
theorem IM {r r':Option Real} (h:bM (r.map full) r') {e:Ty} {xs:List e.den} {te:TypeId} {fr tr:Bool} (ha:Kz X w π r' fr tr e te xs):Sk w (λb=>Vd π b\/X.Sc b) r e xs:=by
 cases r with
 |none=>cases r' with
  |none=>exact ha
  |some q=>exact h.elim
 |some p=>cases r' with
  |none=>exact h.elim
  |some q=>
   obtain ⟨e1,e2,e3,e4⟩:=h
   obtain ⟨k1,cur,ti,k2,k3,k4,k5,k6,_⟩:=ha
   have e1:p.g=q.g:=e1
   have e2:p.o=q.o:=e2
   have e3:p.cap=q.cap:=e3
   refine ⟨⟨by rw [e1];exact (e4 _).2 k1.1,λb hb=>by rw [e1];exact k1.2.1 b ((e4 b).1 hb)⟩,cur,ti,by rw [e1];exact k2,by rw [e2,e3];exact k3,by rw [e3];exact k4,by rw [e3];exact k5,λi y hy=>?_⟩
   obtain ⟨es,g1,g2,g3⟩:=k6 i y hy
   exact ⟨es,g1,by rw [e2];exact g2,Cells.Gj (Aq _) (λ_ _ _=>rfl) (λb _ hb=>hb.imp id .inl) e es y g3⟩
theorem WH {r r':Option Real} (h:bM (r.map full) r') {e:Ty} {xs:List e.den} {te:TypeId} (ha:Pb w r' e te xs):Pb w r e te xs:=by
 cases r with
 |none=>cases r' with
  |none=>exact ha
  |some q=>exact h.elim
 |some p=>cases r' with
  |none=>exact h.elim
  |some q=>
   obtain ⟨e1,e2,e3,e4⟩:=h
   obtain ⟨k1,cur,ti,k2,k3,k4,k5,Fs,t1,t2,t3,t4⟩:=ha
   have e1:p.g=q.g:=e1
   have e2:p.o=q.o:=e2
   have e3:p.cap=q.cap:=e3
   exact ⟨by rw [e1];exact (e4 _).2 k1,cur,ti,by rw [e1];exact k2,by rw [e2,e3];exact k3,by rw [e3];exact k4,by rw [e3];exact k5,Fs,t1,by rw [e1];exact t2,λb hb=>(e4 b).2 (t3 b hb),by rw [e2];exact t4⟩
theorem Vf {st:St} {π0:Pi} {D:Nat->Prop} {w0:World} (h:Nw X w π st.heap) (dF: ∀l,X.iD l=(π0 l).map full): ∀(cs:List (Bool×CK)) (k:Nat) (x:Ins.den cs) (us:List Value) (o:IOs.den cs),fe w0 D π0 k cs x us->Pr st k cs=some o->
  Mo w (λb=>Vd π b\/X.Sc b) π0 k cs o/\ ∀l∈Qk k cs,Av st.heap l≠none
 | [],_,_,_,_,_,_=>⟨trivial,λl hl=>by cases hl⟩
 |_::_,_,_,[],_,h,_=>h.elim
 |(false,c)::r,k,x,u::us,o,hi,he=>Vf h dF r (k+1) x.2 us o hi.2 (by simpa only [Pr] using he)
 |(true, .Hw τ)::r,k,x,u::us,o,hi,he=>Vf h dF r (k+1) x.2 us o hi.2 (by simpa only [Pr] using he)
 |(true, .Bu e te kp)::r,k,x,u::us,o,hi,he=>Vf h dF r (k+1) x.2 us o hi.2 (by simpa only [Pr] using he)
 |(true, .row e te)::r,k,x,u::us,o,hi,he=>by
  simp only [Pr] at he
  split at he
  ·rename_i x1 x2 h1 h2
   simp only [Aa] at he;subst he
   obtain ⟨g1,g2⟩:=Vf h dF r (k+1) x.2 us x2 hi.2 h2
   have h0:=hi.1
   simp only [qB] at h1
   split at h1
   ·rename_i fr tr e' Se xs hl
    split at h1
    ·rename_i hc
     obtain ⟨rfl,rfl⟩:=hc
     simp only [Aa] at h1;subst h1
     unfold St.at at hl
     have hs:=h.iD (Ee true k) (by have:=bz k;omega) (by rw [hl];simp)
     rw [dF] at hs
     exact ⟨⟨IM (te:=Se) hs ((h.heap _).Sl hl),g1⟩,λl Lq=>by
      simp only [Qk] at Lq
      rcases Bb.1 Lq with rfl|Lq
      ·rw [hl];simp
      ·exact g2 l Lq⟩
    ·cases h1
   ·cases h1
  ·cases he
 |(true, .part e te)::r,k,x,u::us,o,hi,he=>by
  simp only [Pr] at he
  split at he
  ·rename_i x1 x2 h1 h2
   simp only [Aa] at he;subst he
   obtain ⟨g1,g2⟩:=Vf h dF r (k+1) x.2 us x2 hi.2 h2
   have h0:=hi.1
   simp only [qB] at h1
   split at h1
   ·rename_i fr tr e' Se xs hl
    split at h1
    ·rename_i hc
     obtain ⟨rfl,rfl⟩:=hc
     simp only [Aa] at h1;subst h1
     unfold St.at at hl
     have hs:=h.iD (Ee true k) (by have:=bz k;omega) (by rw [hl];simp)
     rw [dF] at hs
     exact ⟨⟨IM (te:=Se) hs ((h.heap _).Sl hl),g1⟩,λl Lq=>by
      simp only [Qk] at Lq
      rcases Bb.1 Lq with rfl|Lq
      ·rw [hl];simp
      ·exact g2 l Lq⟩
    ·cases h1
   ·cases h1
  ·cases he
 |(true, .Iu e te)::r,k,x,u::us,o,hi,he=>by
  simp only [Pr] at he
  split at he
  ·rename_i x1 x2 h1 h2
   simp only [Aa] at he;subst he
   obtain ⟨g1,g2⟩:=Vf h dF r (k+1) x.2 us x2 hi.2 h2
   simp only [qB] at h1
   split at h1
   ·rename_i e' Se xs hl
    split at h1
    ·rename_i hc
     obtain ⟨rfl,rfl⟩:=hc
     simp only [Aa] at h1;subst h1
     unfold St.at at hl
     have hs:=h.iD (Ee true k) (by have:=bz k;omega) (by rw [hl];simp)
     rw [dF] at hs
     exact ⟨⟨WH (te:=Se) hs ((h.heap _).Sl hl),g1⟩,λl Lq=>by
      simp only [Qk] at Lq
      rcases Bb.1 Lq with rfl|Lq
      ·rw [hl];simp
      ·exact g2 l Lq⟩
    ·cases h1
   ·cases h1
  ·cases he
theorem wy {p:Bool×CK} {r:List (Bool×CK)} (h:ai (p::r)=true):ai r=true:=by
 rcases p with ⟨_|_,c⟩<;>cases c<;>first|(simp [ai] at h;done)|simpa [ai] using h
theorem xT: ∀(cs:List (Bool×CK)) (k:Nat) (x:Ins.den cs) (l:Nat),ai cs=true->k+cs.length<100000->Av (a9 k cs x) l≠none-> ¬l<Bk->l∈Qk k cs
 | [],_,_,_,_,_,h,_=>absurd rfl h
 |(io,c)::r,k,x,l,hng,hk,h,hp=>by
  simp only [Ay] at hk
  simp only [a9] at h
  have tail:Av (a9 (k+1) r x.2) l≠none->l∈Qk (k+1) r:= λh=>xT r (k+1) x.2 l (wy hng) (by omega) h hp
  have sub: ∀m,m∈Qk (k+1) r->m∈Qk k ((io,c)::r):= λm hm=>by
   cases io<;>cases c<;>simp only [Qk]<;>first|exact hm|exact Ap _ hm
  cases hc:kU (Ee io k) c x.1 with
  |none=>rw [hc] at h;exact sub l (tail h)
  |some b=>
   rw [hc] at h
   simp only [iU,Av] at h
   split at h
   ·rename_i e;subst e
    cases io with
    |false=>exact absurd (fY (by omega)) hp
    |true=>cases c with
     |Hw τ=>cases hc
     |row e te=>simp [Qk]
     |Iu e te=>simp [Qk]
     |part e te=>simp [Qk]
     |Bu e te kp=>simp [ai] at hng
   ·exact sub l (tail h)
theorem fc.Jv {D D':Nat->Prop} (hD: ∀b,D' b->D b) {r:Option Real} {u:Value} {c:CK} {x:c.den} (h:fc w D r u c x):fc w D' r u c x:=by
 cases c with
 |Hw τ=>exact ⟨h.1,h.2.Jv λb _ hb=>hD b hb⟩
 |row e te=>exact ⟨h.1,Sk.Jv h.2 hD⟩
 |Iu e te=>exact h
 |part e te=>exact ⟨h.1,h.2.1,Sk.Jv h.2.2 hD⟩
 |Bu e te kp=>exact ⟨h.1,aK.Jv h.2 hD⟩
theorem Jq.Jv {D D':Nat->Prop} (hD: ∀b,D' b->D b) {ρ:Pi} : ∀(cs:List CK) (k:Nat) (x:CKs.den cs) (us:List Value),Jq w D ρ k cs x us->Jq w D' ρ k cs x us
 | [],_,_,[],h=>h
 | [],_,_,_::_,h=>h.elim
 |_::_,_,_,[],h=>h.elim
 |_c::r,k,x,_u::us,h=>⟨h.1.Jv hD,Jq.Jv hD r (k+1) x.2 us h.2⟩
theorem Mo.Jv {D D':Nat->Prop} (hD: ∀b,D' b->D b) {π:Pi} : ∀(cs:List (Bool×CK)) (k:Nat) (x:IOs.den cs),Mo w D π k cs x->Mo w D' π k cs x
 | [],_,_,h=>h
 |(false,_)::r,k,x,h=>Mo.Jv hD r (k+1) x h
 |(true, .Hw _)::r,k,x,h=>Mo.Jv hD r (k+1) x h
 |(true, .Bu _ _ _)::r,k,x,h=>Mo.Jv hD r (k+1) x h
 |(true, .row _e _te)::r,k,x,h=>⟨Sk.Jv h.1 hD,Mo.Jv hD r (k+1) x.2 h.2⟩
 |(true, .Iu _e _te)::r,k,x,h=>⟨h.1,Mo.Jv hD r (k+1) x.2 h.2⟩
 |(true, .part _e _te)::r,k,x,h=>⟨Sk.Jv h.1 hD,Mo.Jv hD r (k+1) x.2 h.2⟩
theorem fe.congr {D:Nat->Prop} {π0 cG:Pi} : ∀(cs:List (Bool×CK)) (k:Nat) (x:Ins.den cs) (us:List Value),(∀b j,k<=j->j<k+cs.length->cG (Ee b j)=π0 (Ee b j))->fe w D π0 k cs x us->fe w D cG k cs x us
 | [],_,_,[],_,h=>h
 | [],_,_,_::_,_,h=>h
 |_::_,_,_,[],_,h=>h
 |p::r,k,x,u::us,hp,h=>⟨by rw [hp p.1 k (Aq _) (by simp)];exact h.1,fe.congr r (k+1) x.2 us (λb j h1 h2=>hp b j (by omega) (by simp;omega)) h.2⟩
theorem Mo.congr {D:Nat->Prop} {π0 cG:Pi} : ∀(cs:List (Bool×CK)) (k:Nat) (x:IOs.den cs),(∀b j,k<=j->j<k+cs.length->cG (Ee b j)=π0 (Ee b j))->Mo w D π0 k cs x->Mo w D cG k cs x
 | [],_,_,_,h=>h
 |(false,c)::r,k,x,hp,h=>by cases c<;>exact Mo.congr r (k+1) x (λb j h1 h2=>hp b j (by omega) (by simp;omega)) h
 |(true, .Hw _)::r,k,x,hp,h=>Mo.congr r (k+1) x (λb j h1 h2=>hp b j (by omega) (by simp;omega)) h
 |(true, .Bu _ _ _)::r,k,x,hp,h=>Mo.congr r (k+1) x (λb j h1 h2=>hp b j (by omega) (by simp;omega)) h
 |(true, .row e te)::r,k,x,hp,h=>⟨by rw [hp true k (Aq _) (by simp)];exact h.1,Mo.congr r (k+1) x.2 (λb j h1 h2=>hp b j (by omega) (by simp;omega)) h.2⟩
 |(true, .Iu e te)::r,k,x,hp,h=>⟨by rw [hp true k (Aq _) (by simp)];exact h.1,Mo.congr r (k+1) x.2 (λb j h1 h2=>hp b j (by omega) (by simp;omega)) h.2⟩
 |(true, .part e te)::r,k,x,hp,h=>⟨by rw [hp true k (Aq _) (by simp)];exact h.1,Mo.congr r (k+1) x.2 (λb j h1 h2=>hp b j (by omega) (by simp;omega)) h.2⟩
theorem Fp.congr {π0 cG:Pi} : ∀(cs:List (Bool×CK)) (k:Nat) (o:IOs.den cs) (n:Nat) (us as:List Value),(∀b j,k<=j->j<k+cs.length->cG (Ee b j)=π0 (Ee b j))->Fp π0 k cs o n us as->Fp cG k cs o n us as
 | [],k,o,0,us,as,_,h=>by simpa [Fp] using h
 | [],k,o,n+1,us,as,_,h=>by simp [Fp] at h
 |p::r,k,o,0,us,as,_,h=>by
  rcases p with ⟨_|_,c⟩<;>cases c<;>simpa [Fp] using h
 |(true, .Hw _)::r,k,o,n+1,us,as,_,h=>by simp [Fp] at h
 |(true, .part _ _)::r,k,o,n+1,us,as,_,h=>by simp [Fp] at h
 |(true, .Bu _ _ _)::r,k,o,n+1,us,as,_,h=>by simp [Fp] at h
 |(true, .row e te)::r,k,o,n+1,[],as,_,h=>by simp [Fp] at h
 |(true, .Iu e te)::r,k,o,n+1,[],as,_,h=>by simp [Fp] at h
 |(true, .row e te)::r,k,o,n+1,u::us,as,hp,h=>by
  simp only [Fp] at h⊢
  exact ⟨by rw [hp true k (Aq _) (by simp)];exact h.1,Fp.congr r (k+1) o.2 n us as (λb j h1 h2=>hp b j (by omega) (by simp;omega)) h.2⟩
 |(true, .Iu e te)::r,k,o,n+1,u::us,as,hp,h=>by
  simp only [Fp] at h⊢
  exact ⟨by rw [hp true k (Aq _) (by simp)];exact h.1,Fp.congr r (k+1) o.2 n us as (λb j h1 h2=>hp b j (by omega) (by simp;omega)) h.2⟩
 |(false,c)::r,k,o,n+1,[],as,_,h=>by cases c<;>simp [Fp] at h
 |(false,c)::r,k,o,n+1,u::us,[],_,h=>by cases c<;>simp [Fp] at h
 |(false,c)::r,k,o,n+1,u::us,a::as,hp,h=>by
  have h:u=a/\Fp π0 (k+1) r o n us as:=by cases c<;>exact h
  have:=Fp.congr r (k+1) o n us as (λb j h1 h2=>hp b j (by omega) (by simp;omega)) h.2
  cases c<;>exact ⟨h.1,this⟩
theorem qQ: ∀(A B:List (Nat×OB)) (l:Nat),Av (A++B) l=match Av A l with|some b=>some b|none=>Av B l
 | [],B,l=>rfl
 |(k,b)::A,B,l=>by
  simp only [Kj,Av]
  split
  ·rfl
  ·exact qQ A B l
theorem ux {st:St} : ∀(cs:List CK) (as:List AC) (x:CKs.den cs) (ls:List Nat),Vz st cs as=some (x,ls)-> ∀l∈ls,∃b,Av st.heap l=some b/\b.row≠none
 | [],[],x,ls,he=>by
  simp only [Vz,Aa,Af] at he
  obtain ⟨_,rfl⟩:=he
  intro l hl;cases hl
 | [],_::_,_,_,he=>by simp [Vz] at he
 |_::_,[],_,_,he=>by simp [Vz] at he
 |c::r,a::as,x,ls,he=>by
  simp only [Vz] at he
  split at he
  ·rename_i x1 t1 x2 t2 h1 h2
   simp only [Aa,Af] at he
   obtain ⟨_,rfl⟩:=he
   intro l hl
   rcases Ba.1 hl with hl|hl
   ·unfold kX at h1
    split at h1
    ·split at h1
     ·cases hv:Ec st _ a with
      |none=>rw [hv] at h1;cases h1
      |some p=>rw [hv] at h1;simp only [An,Aa,Af] at h1;obtain ⟨_,rfl⟩:=h1;cases hl
     ·cases h1
    all_goals (repeat' split at h1)
    all_goals first|(cases h1;done)|skip
    all_goals (simp only [Aa,Af] at h1;obtain ⟨_,rfl⟩:=h1)
    all_goals first|(cases hl;done)|skip
    all_goals (have hl:=Ad.1 hl;subst hl)
    all_goals (rename_i heq _;exact ⟨_,heq,by simp [OB.row]⟩)
   ·exact ux r as x2 t2 h2 l hl
  ·cases he
theorem r8 {r r':Option Real} {sz off len:Nat} {v:Value} (h:bM r r') (hv:Ib r' sz off len v):Ib r sz off len v:=by
 cases r<;>cases r'<;>first|exact h.elim|skip
 ·exact hv
 ·obtain ⟨h1,h2,h3,_⟩:=h
  obtain ⟨ad,g1,g2,g3⟩:=hv
  exact ⟨ad,by rw [h3];exact g1,by rw [h3];exact g2,by rw [h1,h2,h3];exact g3⟩
theorem Zo {st:St} {π0:Pi} (hs: ∀k,Av st.heap (Ee true k)≠none->bM ((π0 (Ee true k)).map full) (π (Ee true k))):
  ∀(cs:List (Bool×CK)) (k:Nat) (vs:List AC) (us:List Value) (bc:List AC) (o:IOs.den cs),Nx X w π st.heap vs us->Kd k cs vs=some bc->jo st vs cs->Pr st k cs=some o->
   ∃bv,Nx X w π st.heap bc bv/\bv.length=uQ cs vs.length/\ ∀tl,Fp π0 k cs o vs.length us (bv++tl)
 |cs,k,[],us,bc,o,hr,he,_,_=>by
  have e1:us= []:=by cases us with|nil=>rfl|cons u us=>exact hr.elim
  have e2:bc= []:=by rcases cs with _|⟨⟨_|_,c⟩,r⟩<;>simpa [Kd] using he.symm
  subst e1;subst e2
  refine ⟨[],trivial,?_,λtl=>?_⟩
  ·rcases cs with _|⟨⟨_|_,c⟩,r⟩<;>rfl
  ·rcases cs with _|⟨⟨_|_,c⟩,r⟩<;>(try cases c)<;>simp [Fp]
 | [],k,a::vs,us,bc,o,hr,he,_,_=>by simp [Kd] at he
 |p::r,k,a::vs,[],bc,o,hr,_,_,_=>hr.elim
 |(false,c)::r,k,a::vs,u::us,bc,o,hr,he,hk,ho=>by
  have he:(Kd (k+1) r vs).map (λl=>a::l)=some bc:=by cases a<;>exact he
  cases hb:Kd (k+1) r vs with
  |none=>rw [hb] at he;cases he
  |some bc'=>
   rw [hb] at he
   simp only [An,Aa] at he;subst he
   obtain ⟨bv,g1,g2,g3⟩:=Zo hs r (k+1) vs us bc' o hr.2 hb (by cases a<;>exact hk) (by cases c<;>simpa only [Pr] using ho)
   refine ⟨u::bv,⟨hr.1,g1⟩,by simp [uQ,g2],λtl=>?_⟩
   have:=g3 tl
   cases c<;>exact ⟨rfl,this⟩
 |(true,c)::r,k,a::vs,u::us,bc,o,hr,he,hk,ho=>by
  cases c with
  |Hw τ=>cases a<;>simp [Kd] at he
  |part e te=>cases a<;>simp [Kd] at he
  |Bu e te kp=>cases a<;>simp [Kd] at he
  |row e te=>
   cases a<;>first|(simp [Kd] at he;done)|skip
   rename_i l off len
   simp only [Kd] at he
   split at he
   rotate_left
   ·cases he
   rename_i hl
   have hl:l=Ee true k:=Kp hl
   subst hl
   obtain ⟨⟨rfl,hlen⟩,hk⟩:=hk
   obtain ⟨b,sz,n,h1,h2,h3,h4⟩:=hr.1
   have Aaf:=hs k (by rw [h1];simp)
   simp only [Pr] at ho
   split at ho
   ·rename_i x1 x2 q1 q2
    simp only [Aa] at ho;subst ho
    obtain ⟨bv,g1,g2,g3⟩:=Zo hs r (k+1) vs us bc x2 hr.2 he hk q2
    refine ⟨bv,g1,by simpa [uQ] using g2,λtl=>?_⟩
    refine ⟨?_,g3 tl⟩
    simp only [qB] at q1
    split at q1
    ·rename_i fr tr e' Se xs Lq
     split at q1
     ·rename_i hc
      obtain ⟨rfl,rfl⟩:=hc
      simp only [Aa] at q1;subst q1
      unfold St.at at Lq hlen
      rw [Lq] at hlen
      rw [h1] at Lq;cases Lq
      simp only [OB.row,Aa,Af] at h2
      obtain ⟨rfl,rfl⟩:=h2
      have hlen:len=List.length xs:=hlen
      have:=r8 Aaf h4
      rw [hlen] at this
      have e0:(π0 (Ee true k)).map full=(π0 (Ee true k)).map full:=rfl
      cases hp:π0 (Ee true k)<;>(rw [hp] at this;exact this)
     ·cases q1
    ·cases q1
   ·cases ho
  |Iu e te=>
   cases a<;>first|(simp [Kd] at he;done)|skip
   rename_i l off len
   simp only [Kd] at he
   split at he
   rotate_left
   ·cases he
   rename_i hl
   have hl:l=Ee true k:=Kp hl
   subst hl
   obtain ⟨⟨rfl,hlen⟩,hk⟩:=hk
   obtain ⟨b,sz,n,h1,h2,h3,h4⟩:=hr.1
   have Aaf:=hs k (by rw [h1];simp)
   simp only [Pr] at ho
   split at ho
   ·rename_i x1 x2 q1 q2
    simp only [Aa] at ho;subst ho
    obtain ⟨bv,g1,g2,g3⟩:=Zo hs r (k+1) vs us bc x2 hr.2 he hk q2
    refine ⟨bv,g1,by simpa [uQ] using g2,λtl=>?_⟩
    refine ⟨?_,g3 tl⟩
    simp only [qB] at q1
    split at q1
    ·rename_i e' Se xs Lq
     split at q1
     ·rename_i hc
      obtain ⟨rfl,rfl⟩:=hc
      simp only [Aa] at q1;subst q1
      unfold St.at at Lq hlen
      rw [Lq] at hlen
      rw [h1] at Lq;cases Lq
      simp only [OB.row,Aa,Af] at h2
      obtain ⟨rfl,rfl⟩:=h2
      have hlen:len=List.length xs:=hlen
      have:=r8 Aaf h4
      rw [hlen] at this
      cases hp:π0 (Ee true k)<;>(rw [hp] at this;exact this)
     ·cases q1
    ·cases q1
   ·cases ho
def Ar5 (s:MSpec) (g:Nat) (π:Pi):Pi:= λl=>if s.ptr.isSome=true/\l=Pz then some ⟨g,0,0,λb=>b=g,λb=>b=g⟩ else π l
def Amv (P:Program) (s:MSpec) (fn:Func) (x:Ins.den s.ins) (w:World) (S:Nat->Prop) (π:Pi) (g:Nat) (r:CKs.den s.outs) (o:IOs.den s.ins) (a':Act) (w':World):Prop:=
 ∃(v:Value) (Ug:List Value) (ρ:Pi),a'.defers= []/\(results fn a'.tmps).run P w'= .ok v w'/\ni s w' ρ (Ug.drop s.Yc) v/\fb s π w' g Ug o/\Jz w.heap.size (λb=>Vd π b\/s.gv g b) w w'/\Mo w' (dy S π ρ) π 0 s.ins o/\Jq w' (dy S π ρ) ρ 0 s.outs r Ug/\
  dz ρ (λb=>b<w'.heap.size/\(w.heap.size<=b\/ ∃l q,l<Bk/\π l=some q/\q.Cw b))/\(∀l,(∀k,k<s.Tu->l≠Jh k)->ρ l=none)/\(∀kj∈s.keeps,sE w w' (π (Ee false kj.1)) (ρ (Jh kj.2)) (s.Gj x))
theorem Jq.ZM {D:Nat->Prop} {ρ ρ':Pi} : ∀(cs:List CK) (k:Nat) (x:CKs.den cs) (us:List Value),(∀j,k<=j->j<k+cs.length->ρ' (Jh j)=ρ (Jh j))->Jq w D ρ k cs x us->Jq w D ρ' k cs x us
 | [],_,_,[],_,h=>h
 | [],_,_,_::_,_,h=>h.elim
 |_::_,_,_,[],_,h=>h.elim
 |c::r,k,x,u::us,he,h=>⟨by rw [he k (Aq _) (by simp)];exact h.1,Jq.ZM r (k+1) x.2 us (λj hj hl=>he j (by omega) (by simp;omega)) h.2⟩
theorem xX {st:St} {n:Nat} {as:List AC} : ∀ {ks:List (Nat×Nat)},xW st n as ks-> ∀kj∈ks,∃l off len e te rows out p,as[kj.2]?=some (.own l off len)/\Av st.heap l=some (.Bu e te rows out (some p))/\p.1=Ee false kj.1/\n<=p.2/\kj.1<1000
 | [],_,kj,hm=>by cases hm
 |(k,j)::r,h,kj,hm=>by
  simp only [xW] at h
  rcases Bb.1 hm with rfl|hm
  ·obtain ⟨h,_⟩:=h
   split at h
   ·rename_i l off len he
    split at h
    ·rename_i e te rows out p hl
     unfold St.at at hl
     exact ⟨l,off,len,e,te,rows,out,p,he,hl,h.1,h.2.1,by simpa using h.2.2⟩
    ·exact h.elim
   ·exact h.elim
  ·exact xX h.2 kj hm
theorem yk {st:St} : ∀(cs:List CK) (as:List AC) (x:CKs.den cs) (ls:List Nat),Vz st cs as=some (x,ls)->as.length=cs.length
 | [],[],_,_,_=>rfl
 | [],_::_,_,_,he=>by simp [Vz] at he
 |_::_,[],_,_,he=>by simp [Vz] at he
 |c::r,a::as,x,ls,he=>by
  simp only [Vz] at he
  split at he
  ·rename_i h1 h2
   simp only [Ay,yk r as _ _ h2]
  ·cases he
theorem IK {α β:Type} (f:α->Sem β): ∀(l:List α) (vs:List β),vs.length=l.length->(∀(i:Nat) a v,l[i]?=some a->vs[i]?=some v->(f a).run P w= .ok v w)->(l.mapM f).run P w= .ok vs w
 | [],[],_,_=>by simp
 | [],_::_,h,_=>by simp at h
 |_::_,[],h,_=>by simp at h
 |a::l,v::vs,h,hr=>by
  rw [List.mapM_cons]
  simp only [Sem.run_bind,hr 0 a v rfl rfl,Result.andThen_ok,IK f l vs (by simpa using h) (λi a' v' ha hv=>hr (i+1) a' v' (by simpa using ha) (by simpa using hv)),Sem.run_pure]
theorem w7 (hT:Ep P T) (Pw:Lr P Γ) (hm:P.follows .mixedOrders=true) {f:FuncId} {fn:Func} (hf:P.funcs[f]?=some fn) (s:MSpec) (w:World) (S:Nat->Prop) (π:Pi) (us:List Value) (x:Ins.den s.ins)
  (r:CKs.den s.outs) (o:IOs.den s.ins) (g:Nat) (nt:List Value) (Rz:pd s w g us nt) (hSg:s.ptr.isSome=true->S g) (Vv:fe w (λb=>Vd π b\/S b) π 0 s.ins x us) (kB:dz π (λb=>b<w.heap.size)) (hS: ∀b,S b->b<w.heap.size/\ ¬Vd π b) (ZZ: ∀l,Av (a9 0 s.ins x) l=none->π l=none) (he:Ah4 T Γ s fn x λz=>z=(r,o)):
  Calls P f nt.toArray w λe w'=> ∃v Ug ρ,e= .returned v/\ni s w' ρ (Ug.drop s.Yc) v/\fb s π w' g Ug o/\Jz w.heap.size (λb=>Vd π b\/s.gv g b) w w'/\Mo w' (dy S π ρ) π 0 s.ins o/\Jq w' (dy S π ρ) ρ 0 s.outs r Ug/\
   dz ρ (λb=>b<w'.heap.size/\(w.heap.size<=b\/ ∃l q,l<Bk/\π l=some q/\q.Cw b))/\(∀l,(∀k,k<s.Tu->l≠Jh k)->ρ l=none)/\(∀kj∈s.keeps,sE w w' (π (Ee false kj.1)) (ρ (Jh kj.2)) (s.Gj x)):=by
 obtain ⟨hlen,c,hb,he⟩:=he
 simp only [Ah,Oc] at hlen
 obtain ⟨hlen,FW⟩:=hlen
 unfold BH at FW
 simp only [Ah] at FW
 have Ao9:=FW.1
 let rI:Pi:=Ar5 s g π
 let Sg:Nat->Prop:= λb=>S b/\ ¬s.gv g b
 have hvl: ∀b j,j<1000->Ee b j≠Pz:= λb j hj=>by cases b<;>(unfold Ee Pz;simp;omega)
 have zJ: ∀b j,0<=j->j<0+s.ins.length->rI (Ee b j)=π (Ee b j):= λb j _ hj=>Ai λh=>hvl b j (by omega) h.2
 have Ahz: ∀b j,0<=j->j<0+s.ins.length->π (Ee b j)=rI (Ee b j):= λb j h1 h2=>(zJ b j h1 h2).symm
 have Akd:Av (a9 0 s.ins x) Pz=none:=Bp λhn=>by
  obtain ⟨b,j,_,h2,h3⟩:=tW s.ins 0 x Pz hn
  exact hvl b j (by omega) h3.symm
 have XL: ∀l q,rI l=some q->(π l=some q/\(s.ptr.isSome=true->l≠Pz))\/(s.ptr.isSome=true/\l=Pz/\q=⟨g,0,0,λb=>b=g,λb=>b=g⟩):= λl q hq=>by
  have hq:(if s.ptr.isSome=true/\l=Pz then some ⟨g,0,0,λb=>b=g,λb=>b=g⟩ else π l)=some q:=hq
  split at hq
  ·rename_i hc;exact .inr ⟨hc.1,hc.2,(Bd hq).symm⟩
  ·rename_i hc;exact .inl ⟨hq,λh1 h2=>hc ⟨h1,h2⟩⟩
 have eC: ∀b,Vd rI b↔Vd π b\/s.gv g b:= λb=>by
  constructor
  ·rintro ⟨l,q,h1,h2⟩
   rcases XL l q h1 with ⟨h3,_⟩|⟨h3,h4,rfl⟩
   ·exact .inl ⟨l,q,h3,h2⟩
   ·exact .inr ⟨h3,h2⟩
  ·rintro (⟨l,q,h1,h2⟩|⟨h1,rfl⟩)
   ·refine ⟨l,q,?_,h2⟩
    show (if s.ptr.isSome=true/\l=Pz then _ else π l)=some q
    rw [Ai]
    ·exact h1
    ·rintro ⟨_,rfl⟩
     rw [ZZ Pz Akd] at h1;cases h1
   ·exact ⟨Pz,⟨b,0,0,λc=>c=b,λc=>c=b⟩,Ab ⟨h1,rfl⟩,rfl⟩
 have hgS: ∀b,s.gv g b->S b:= λb ⟨h1,h2⟩=>h2▸hSg h1
 have Ajs:fe w (λb=>Vd rI b\/Sg b) rI 0 s.ins x us:=fe.congr s.ins 0 x us zJ (fe.Jv (λb hb=>by
  rcases hb with hb|hb
  ·rcases (eC b).1 hb with hb|hb
   ·exact .inl hb
   ·exact .inr (hgS b hb)
  ·exact .inr hb.1) s.ins 0 x us Vv)
 have Aof:dz rI (λb=>b<w.heap.size):=⟨λl q b h1 h2=>by
  rcases XL l q h1 with ⟨h3,_⟩|⟨h3,h4,rfl⟩
  ·exact kB.Wl l q b h3 h2
  ·exact (hS b (hgS b ⟨h3,h2⟩)).1,λl l' q q' b h1 h2 h3 h4=>by
  rcases XL l q h1 with ⟨h5,_⟩|⟨h5,h6,rfl⟩<;>rcases XL l' q' h2 with ⟨h7,_⟩|⟨h7,h8,rfl⟩
  ·exact kB.inj l l' q q' b h5 h7 h3 h4
  ·exact absurd ⟨l,q,h5,h3⟩ (hS b (hgS b ⟨h7,h4⟩)).2
  ·exact absurd ⟨l',q',h7,h4⟩ (hS b (hgS b ⟨h5,h3⟩)).2
  ·rw [h6,h8]⟩
 have Atj: ∀b,Sg b->b<w.heap.size/\ ¬Vd rI b:= λb hb=>⟨(hS b hb.1).1,λho=>((eC b).1 ho).elim (hS b hb.1).2 hb.2⟩
 have RX: ∀l,Av (qS s x) l=match Av (a9 0 s.ins x) l with|some b=>some b|none=>if l=Pz then s.ptr.map λp=> .var p.1 ((cc 0 s.ins x).take p.2) else none:= λl=>by
  unfold qS
  cases hp:s.ptr with
  |none=>cases Av (a9 0 s.ins x) l<;>simp
  |some p=>
   simp only
   rw [qQ]
   cases Av (a9 0 s.ins x) l with
   |some b=>rfl
   |none=>
    simp only [Av,An]
    by_cases e:l=Pz
    ·rw [Ab e,Ab e.symm]
    ·rw [Ai e,Ai (λh=>e h.symm)]
 let π0:Pi:= λl=>(rI l).map full
 have un: ∀l q,π0 l=some q-> ∃q0,rI l=some q0/\q=full q0:= λl q hq=>by
  have hq:(rI l).map full=some q:=hq
  cases hp:rI l with
  |none=>rw [hp] at hq;cases hq
  |some q0=>rw [hp] at hq;exact ⟨q0,rfl,(Bd hq).symm⟩
 have Aa5: ∀l b,Av (a9 0 s.ins x) l=some b->Av (qS s x) l=some b:= λl b hb=>by rw [RX l,hb]
 have hrc:Nx ⟨w,Sg,Vd rI,π0⟩ w π0 (qS s x) (cc 0 s.ins x) us:=GC (λ_=>rfl) s.ins 0 x us (by omega) Ajs Aa5
 have Aal:s.ptr.isSome=true->π0 Pz=some ⟨g,0,0,λb=>b=g,λb=>b=g⟩:= λhp=>by
  show (if s.ptr.isSome=true/\Pz=Pz then _ else π Pz).map full=_
  rw [Ab ⟨hp,rfl⟩];rfl
 obtain ⟨g1,g2⟩:(aO s (cc 0 s.ins x)).length=nt.length/\ ∀(i:Nat) c v,(aO s (cc 0 s.ins x))[i]?=some c->nt[i]?=some v->Bs ⟨w,Sg,Vd rI,π0⟩ w π0 (qS s x) c v:=by
  unfold pd at Rz
  cases hp:s.ptr with
  |none=>
   rw [hp] at Rz
   obtain ⟨rfl,YP⟩:=Rz
   obtain ⟨g1,g2,_,_⟩:=ez s.Kn _ us YP hrc
   rw [show aO s (cc 0 s.ins x)=Tt s.Kn (cc 0 s.ins x) by unfold aO;rw [hp]]
   exact ⟨g1,g2⟩
  |some p=>
   rw [hp] at Rz
   obtain ⟨rfl,YP,_⟩:=Rz
   obtain ⟨g1,g2,_,_⟩:=ez s.Kn _ (us.drop p.2) YP (Nx.take p.2 hrc).2
   rw [show aO s (cc 0 s.ins x)= .at (.Ii Pz 0)::Tt s.Kn ((cc 0 s.ins x).drop p.2) by unfold aO;rw [hp]]
   refine ⟨by simp [g1],λi c v h1 h2=>?_⟩
   rcases i with _|i
   ·simp only [Bx,Aa] at h1 h2
    subst h1;subst h2
    exact ⟨_,p.1,(cc 0 s.ins x).take p.2,by rw [RX,Akd];simp [hp],Aal (by rw [hp];rfl),rfl⟩
   ·exact g2 i c v (by simpa using h1) (by simpa using h2)
 have h0:Rel ⟨w,Sg,Vd rI,π0⟩ {tmps:=aO s (cc 0 s.ins x)++List.replicate (fn.ntmps-(aO s (cc 0 s.ins x)).length) .undef,heap:=qS s x}
   {tmps:=nt.toArray++Array.replicate (fn.ntmps-nt.toArray.size) undef,defers:= []} w:=by
  refine ⟨π0,⟨Jz.refl _ _ _,λb hb=>Atj b hb,λl q b h1 h2=>?_,λl q b h1 h2=>?_,λl l' q q' b h1 h2 h3 h4=>?_,λl _ _=>bM.rfl' _,λl=>?_⟩,⟨by simp [g1],rfl,λt=>?_⟩⟩
  ·obtain ⟨q0,_,rfl⟩:=un l q h1;exact h2
  ·obtain ⟨q0,h3,rfl⟩:=un l q h1
   exact ⟨.inr ⟨l,q0,h3,h2⟩,Aof.Wl l q0 b h3 h2⟩
  ·obtain ⟨q0,h5,rfl⟩:=un l q h1
   obtain ⟨q0',h6,rfl⟩:=un l' q' h2
   exact Aof.inj l l' q0 q0' b h5 h6 h3 h4
  ·cases hh:Av (a9 0 s.ins x) l with
   |none=>
    by_cases hv:s.ptr.isSome=true/\l=Pz
    ·obtain ⟨hps,rfl⟩:=hv
     obtain ⟨p,hp⟩:=Xs.1 hps
     refine Hc.Ms (b:= .var p.1 ((cc 0 s.ins x).take p.2)) ?_ (by rw [RX,hh];simp [hp])
     unfold pd at Rz
     rw [hp] at Rz
     obtain ⟨_,_,h1,h2,h3⟩:=Rz
     rw [Aal hps]
     exact ⟨_,rfl,rfl,_,h2,Nx.to (Nx.take p.2 hrc).1 h3⟩
    ·refine Hc.Ux ?_ ?_
     ·show (if s.ptr.isSome=true/\l=Pz then _ else π l).map full=none
      rw [Ai hv,ZZ l hh];rfl
     ·rw [RX,hh]
      simp only
      split
      ·rename_i e
       cases hp:s.ptr with
       |none=>rfl
       |some p=>exact absurd ⟨by rw [hp];rfl,e⟩ hv
      ·rfl
   |some b=>exact Hc.Ms (mo (π0:=rI) (λb hb=>by
    rcases hb with ⟨l,q,h1,h2⟩|hb|⟨hb,_⟩
    ·obtain ⟨q0,h3,rfl⟩:=un l q h1;exact .inl ⟨l,q0,h3,h2⟩
    ·exact .inr hb
    ·cases hb) rfl (λ_=>rfl) s.ins 0 x us Ajs l b hh) (Aa5 l b hh)
  ·show Bs _ w _ _ ((aO s (cc 0 s.ins x)++List.replicate _ AV.undef).getD t .undef) ((nt.toArray++Array.replicate _ undef).getD t undef)
   by_cases ht:t<nt.length
   ·rw [Ak,At (by omega),<-Ak]
    rw [cK,Uc (by simpa using ht)]
    have:=g2 t _ _ (Ac (by omega)) (Ac ht)
    simpa [Ak,Ac ht,Ac (show t<(aO s (cc 0 s.ins x)).length by omega)] using this
   ·have:(aO s (cc 0 s.ins x)++List.replicate (fn.ntmps-(aO s (cc 0 s.ins x)).length) AV.undef).getD t .undef= .undef:=by
     rw [Ak,As (by omega)]
     rw [Zk]
     split<;>rfl
    rw [this];trivial
 have fin: ∀(st:St) (a':Act) (w':World),YW T s fn x st (λz=>z=(r,o))->Rel ⟨w,Sg,Vd rI,π0⟩ st a' w'->Amv P s fn x w S π g r o a' w':=by
  intro st a' w' rW hrel
  obtain ⟨cG,h'⟩:=hrel
  have Ai5:Bk<=Pz:=by unfold Bk Pz;omega
  obtain ⟨bc,qP,Avq,hbc⟩: ∃bc,kK T s fn x st bc (λz=>z=(r,o))/\(s.ptr.isSome=true-> ∃b,Av st.heap Pz=some b/\b.row=none)/\
    (Pr st 0 s.ins=some o-> ∃bv,Nx ⟨w,Sg,Vd rI,π0⟩ w' cG st.heap bc bv/\bv.length=s.Yc/\ ∀tl,fb s π w' g (bv++tl) o):=by
   unfold YW at rW
   cases hp:s.ptr with
   |none=>
    rw [hp] at rW
    exact ⟨[],rW,λh=>by simp at h,λ_=>⟨[],trivial,by simp [MSpec.Yc,hp],λtl=>by simp [fb,hp]⟩⟩
   |some p=>
    rw [hp] at rW
    obtain ⟨vs,cs,h1,h2,h3,h4,h5⟩:=rW
    unfold St.at at h1
    refine ⟨cs,h5,λ_=>⟨_,h1,rfl⟩,λzH=>?_⟩
    obtain ⟨q,k1,k2,cur,k3,k4⟩:=(h'.1.heap Pz).Sl h1
    have hsv:bM (π0 Pz) (cG Pz):=h'.1.iD Pz Ai5 (by rw [h1];simp)
    rw [Aal (by rw [hp];rfl),k1] at hsv
    have hqg:g=q.g:=hsv.1
    obtain ⟨bv,g1,g2,g3⟩:=Zo (π0:=rI) (λk hk=>h'.1.iD _ (Nat.le_of_not_lt (bz k)) hk) s.ins 0 vs cur.toList cs o (Nx.of k4) h3 h4 zH
    refine ⟨bv,g1,by rw [g2,h2];simp [MSpec.Yc,hp],λtl=>?_⟩
    unfold fb
    rw [hp]
    refine ⟨cur.toList,by rw [hqg];simpa using k3,λu hu=>?_,Fp.congr s.ins 0 o p.2 _ _ Ahz (h2▸g3 tl)⟩
    obtain ⟨i,hi,rfl⟩:=Bg.1 hu
    have hl:=k4.1
    obtain ⟨u',h6,h7,_⟩:=k4.2 i (vs[i]'(by omega)) (Ac _)
    rw [Ac hi] at h6
    rw [Bd h6];exact h7
  unfold kK at qP
  split at qP
  ·exact qP.elim
  rename_i l hl
  split at qP
  ·exact qP.elim
  rename_i as ml iu
  split at qP
  rotate_left
  ·exact qP.elim
  rename_i r' ls o' zL qO
  obtain ⟨Kt,xK,hro⟩:=qP
  simp only [Ah,Oc] at Kt
  obtain ⟨⟨⟨rS,Ba4⟩,Axq⟩,Ao2⟩:=Kt
  simp only [Af] at hro
  obtain ⟨rfl,rfl⟩:=hro
  obtain ⟨bv,hbv,Aty,Atu⟩:=hbc qO
  have ME:=Yv rS
  obtain ⟨n1,n2,n3⟩:=Ef.1 ME
  obtain ⟨m1,m2,m3⟩:=Ef.1 n1
  obtain ⟨vs,v1,v2,v3,v4⟩:=Yx hT h' _ _ hl
  have hrs:fn.results=fn.results.toList.toArray:=Array.toArray_toList.symm
  have Wg: ∀v,(if h:vs.toArray.size=1 then vs.toArray[0] else .tuple vs.toArray)=v->(results fn a'.tmps).run P w'= .ok v w':=by
   intro v hv
   rw [fX,hrs,List.mapM_toArray]
   simp only [map_eq_pure_bind,bind_assoc,pure_bind]
   simp only [Sem.run_bind,IK (OJ a'.tmps) _ vs v1 v3,Result.andThen_ok,Sem.run_pure]
   rw [hv]
  obtain ⟨x7,v,qm,Avn,hv,hqm⟩: ∃x7 v qm,Nx ⟨w,Sg,Vd rI,π0⟩ w' cG st.heap as x7/\(results fn a'.tmps).run P w'= .ok v w'/\
    ((s.rp=none/\ml= []/\qm=none/\Aca s.Jy s.Ji x7 v/\dk s.Ji x7)\/
     ∃tid m q,s.rp=some tid/\ml= [m]/\m<Bk/\qm=some q/\cG m=some q/\q.Cw q.g/\w'.heap[q.g]?=some (.cells x7.toArray tid (0,0))/\(∀u∈x7,u.oneCell'=true)/\v= .pointer (some ⟨q.g,0,none⟩)):=by
   unfold OI at iu
   split at iu
   ·rename_i KL
    split at iu
    rotate_left
    ·cases iu
    rename_i hmul
    cases pa:ungroup s.Ji l with
    |none=>rw [pa] at iu;cases iu
    |some as'=>
     rw [pa] at iu
     simp only [An,Aa,Af] at iu
     obtain ⟨rfl,rfl⟩:=iu
     obtain ⟨x7,e1,e2,e3⟩:=aw s.Ji l vs as' (by omega) v4 pa
     have hv: ∃v,(results fn a'.tmps).run P w'= .ok v w'/\Aca s.Jy s.Ji x7 v:=by
      unfold Aca
      rw [<-e1,hmul]
      rcases Nat.lt_or_ge 1 l.length with h1|h1
      ·have hb1:Nat.blt 1 l.length=true:=by simpa using h1
       simp only [hb1,Pl]
       refine ⟨.tuple vs.toArray,Wg _ ?_,rfl⟩
       rw [dif_neg (by simp;omega)]
      ·have hb1:Nat.blt 1 l.length=false:=by rw [<-Fc];simpa using h1
       simp only [hb1,Dh,Si]
       rcases vs with _|⟨v,_|⟨v',vs⟩⟩
       ·exact ⟨_,Wg _ (by simp;rfl), .inr rfl⟩
       ·exact ⟨v,Wg _ (by simp), .inl rfl⟩
       ·exfalso;simp only [Ay] at v1;omega
     obtain ⟨v,hv1,hv2⟩:=hv
     exact ⟨x7,v,none,e3,hv1, .inl ⟨KL,rfl,rfl,hv2,e2⟩⟩
   ·rename_i tid KL
    split at iu
    rotate_left
    ·cases iu
    rename_i m i
    split at iu
    rotate_left
    ·cases iu
    rename_i Vo vs' hm
    split at iu
    rotate_left
    ·cases iu
    rename_i hc
    obtain ⟨rfl,rfl,hmp⟩:=hc
    simp only [Aa,Af] at iu
    obtain ⟨rfl,rfl⟩:=iu
    unfold St.at at hm
    rcases vs with _|⟨v,_|⟨v',vs⟩⟩
    ·exfalso;simp only [Ay,Gp] at v1 v2;omega
    ·obtain ⟨q,Bc3,vs2,q1,q2,q3⟩:=v4 0 _ v rfl rfl
     rw [hm] at q1;cases q1
     obtain ⟨q',k1,k2,cur,k3,k4⟩:=(h'.1.heap m).Sl hm
     rw [q2] at k1;cases k1
     refine ⟨cur.toList,v,some q,Nx.of k4,Wg _ (by simp), .inr ⟨_,m,q,KL,rfl,by simpa using hmp,rfl,q2,k2,by simpa using k3,λu hu=>?_,q3⟩⟩
     obtain ⟨i,hi,rfl⟩:=Bg.1 hu
     have hl:=k4.1
     obtain ⟨u',h6,h7,_⟩:=k4.2 i (vs'[i]'(by omega)) (Ac _)
     rw [Ac hi] at h6
     rw [Bd h6];exact h7
    ·exfalso;simp only [Ay,Gp] at v1 v2;omega
  obtain ⟨p6,p1,p2,p3,p4,p5⟩:=yl h'.1 s.outs 0 (bc++as) (bv++x7) r' ls (hbv.append Avn) zL m2
  obtain ⟨io1,io2⟩:=Vf (π0:=rI) h'.1 (λ_=>rfl) s.ins 0 x us o' Ajs qO
  have Anm:(bv++x7).drop s.Yc=x7:=by rw [<-Aty];simp
  let ρ:Pi:= λl0=>if l0=Jh s.outs.length then qm else p6 l0
  have Akl:ρ (Jh s.outs.length)=qm:=Ab rfl
  have Apf: ∀l0,l0≠Jh s.outs.length->ρ l0=p6 l0:= λl0 h=>Ai h
  have Ape: ∀j,j<s.outs.length->ρ (Jh j)=p6 (Jh j):= λj hj=>Apf _ (by unfold Jh;omega)
  have vS: ∀l0 q,ρ l0=some q->(l0=Jh s.outs.length/\qm=some q)\/(l0≠Jh s.outs.length/\p6 l0=some q):= λl0 q h=>by
   by_cases e:l0=Jh s.outs.length
   ·subst e;rw [Akl] at h;exact .inl ⟨rfl,h⟩
   ·rw [Apf l0 e] at h;exact .inr ⟨e,h⟩
  have Aol: ∀q,qm=some q-> ∃m,ml= [m]/\m<Bk/\cG m=some q:= λq hq=>by
   rcases hqm with ⟨_,_,h1,_⟩|⟨_,m,q',_,h1,h2,h3,h4,_⟩
   ·rw [h1] at hq;cases hq
   ·rw [h3] at hq;cases hq;exact ⟨m,h1,h2,h4⟩
  have p3': ∀l0 q b,ρ l0=some q->q.Cw b-> ∃l1∈ml++ls,∃p,cG l1=some p/\p.cl b/\((s.outs.all λc=>!c.isX)=true->p.Cw b)/\((l1∈ls)\/l1<Bk):= λl0 q b h1 h2=>by
   rcases vS l0 q h1 with ⟨_,h3⟩|⟨_,h3⟩
   ·obtain ⟨m,e1,e2,e3⟩:=Aol q h3
    exact ⟨m,by rw [e1];simp,q,e3,h'.1.sub m q b e3 h2,λ_=>h2, .inr e2⟩
   ·obtain ⟨l1,g1,p,g2,g3,g4⟩:=p3 l0 q b h3 h2
    exact ⟨l1,Ck _ g1,p,g2,g3,g4, .inl g1⟩
  have p4': ∀l0 l1 q q' b,ρ l0=some q->ρ l1=some q'->q.Cw b->q'.Cw b->l0=l1:= λl0 l1 q q' b h1 h2 h3 h4=>by
   have EV: ∀l0 q q' b,p6 l0=some q->qm=some q'->q.Cw b->q'.Cw b->False:= λl0 q q' b h1 h2 h3 h4=>by
    obtain ⟨m,e1,e2,e3⟩:=Aol q' h2
    obtain ⟨l1,g1,p,g2,g3,_⟩:=p3 l0 q b h1 h3
    have:=h'.1.inj m l1 q' p b e3 g2 (h'.1.sub m q' b e3 h4) g3
    exact m3 m (by rw [e1];simp) l1 g1 this
   rcases vS l0 q h1 with ⟨e1,h5⟩|⟨e1,h5⟩<;>rcases vS l1 q' h2 with ⟨e2,h6⟩|⟨e2,h6⟩
   ·rw [e1,e2]
   ·exact (EV l1 q' q b h6 h5 h4 h3).elim
   ·exact (EV l0 q q' b h5 h6 h3 h4).elim
   ·exact p4 l0 l1 q q' b h5 h6 h3 h4
  have SE: ∀l0 q,Bk<=l0->rI l0=some q->Av st.heap l0≠none/\(l0∈Qk 0 s.ins\/ ∃b,Av st.heap l0=some b/\b.row=none):= λl0 q h1 h2=>by
   rcases XL l0 q h2 with ⟨h3,_⟩|⟨h3,rfl,_⟩
   ·have zH:=xT s.ins 0 x l0 Ao9 (by omega) (λhnn=>by rw [ZZ l0 hnn] at h3;cases h3) (by omega)
    exact ⟨io2 l0 zH, .inl zH⟩
   ·obtain ⟨b,h4,h5⟩:=Avq h3
    exact ⟨by rw [h4];simp, .inr ⟨b,h4,h5⟩⟩
  have hDO:(s.outs.all λc=>!c.isX)=true-> ∀b,dy Sg rI ρ b->Vd cG b\/Sg b:=by
   intro hx b hb
   rcases hb with hb|⟨l0,q,h1,h2,h3⟩|⟨l0,q,h1,h2⟩
   ·exact .inr hb
   ·have hs:=h'.1.iD l0 h1 (SE l0 q h1 h2).1
    have hs:bM ((rI l0).map full) (cG l0):=hs
    rw [h2] at hs
    cases xM:cG l0 with
    |none=>rw [xM] at hs;exact hs.elim
    |some q1=>rw [xM] at hs;exact .inl ⟨l0,q1,xM,(hs.2.2.2 b).1 h3⟩
   ·obtain ⟨m,_,p,hm2,_,hm4,_⟩:=p3' l0 q b h1 h2
    exact .inl ⟨m,p,hm2,hm4 hx⟩
  have hDD: ∀b,dy S π ρ b->dy Sg rI ρ b:= λb hb=>by
   rcases hb with hb|⟨l0,q,h1,h2,h3⟩|hb
   ·by_cases YK:s.gv g b
    ·obtain ⟨hps,rfl⟩:=YK
     exact .inr (.inl ⟨Pz,_,Ai5,Ab ⟨hps,rfl⟩,rfl⟩)
    ·exact .inl ⟨hb,YK⟩
   ·refine .inr (.inl ⟨l0,q,h1,?_,h3⟩)
    show (if s.ptr.isSome=true/\l0=Pz then _ else π l0)=some q
    rw [Ai]
    ·exact h2
    ·rintro ⟨_,rfl⟩
     rw [ZZ Pz Akd] at h2;cases h2
   ·exact .inr (.inr hb)
  have hfl:s.flat=true\/(s.outs.all λc=>!c.isX)=true:=by unfold MSpec.Ab9 at Ao2;simpa only [Lh] using Ao2
  have io1:Mo w' (dy S π ρ) π 0 s.ins o':=by
   refine Mo.congr s.ins 0 o' Ahz ?_
   rcases hfl with hf|hf
   ·unfold MSpec.flat at hf
    simp only [Ah] at hf
    exact Mo.any s.ins 0 o' hf.2 io1
   ·exact Mo.Jv (λb hb=>hDO hf b (hDD b hb)) s.ins 0 o' io1
  have p1:Jq w' (dy S π ρ) ρ 0 s.outs r' (bv++x7):=by
   have p1:Jq w' (λb=>Vd cG b\/Sg b) ρ 0 s.outs r' (bv++x7):=Jq.ZM s.outs 0 r' _ (λj _ hj=>Ape j (by omega)) p1
   rcases hfl with hf|hf
   ·unfold MSpec.flat at hf
    simp only [Ah] at hf
    exact Jq.any s.outs 0 r' (bv++x7) hf.1 p1
   ·exact Jq.Jv (λb hb=>hDO hf b (hDD b hb)) s.outs 0 r' (bv++x7) p1
  refine ⟨v,bv++x7,ρ,h'.2.defers,hv,?_,Atu x7,⟨h'.1.below.os,h'.1.below.tape,h'.1.below.output,h'.1.below.size,λk hk hn=>h'.1.below.block k hk λho=>hn ((eC k).1 ho)⟩,io1,p1,⟨λl0 q b h1 h2=>?_,p4'⟩,λl0 hl0=>?_,λkj we=>?_⟩
  ·rw [Anm]
   unfold ni
   rcases hqm with ⟨h1,_,_,h2⟩|⟨tid,m,q,h1,_,_,h3,_,h4,h5,h6,h7⟩
   ·rw [h1];exact h2
   ·rw [h1];exact ⟨q,by rw [Akl,h3],h4,h5,h6,h7⟩
  ·obtain ⟨m,hm1,p,hm2,hm3,_,hm4⟩:=p3' l0 q b h1 h2
   obtain ⟨k1,k2⟩:=h'.1.place m p b hm2 hm3
   refine ⟨k2,k1.imp id λ⟨c0,q0,h5,h6⟩=>?_⟩
   have Me:c0<Bk:=Bp λhn=>by
    obtain ⟨Jd,zH⟩:=SE c0 q0 (by omega) h5
    have hs:=h'.1.iD c0 (by omega) Jd
    have hs:bM ((rI c0).map full) (cG c0):=hs
    rw [h5] at hs
    cases xM:cG c0 with
    |none=>rw [xM] at hs;exact hs.elim
    |some q1=>
     rw [xM] at hs
     have hf1:q1.Cw b:=(hs.2.2.2 b).1 h6
     have:=h'.1.inj c0 m q1 p b xM hm2 (h'.1.sub c0 q1 b xM hf1) hm3
     subst this
     rcases hm4 with hm4|hm4
     ·rcases zH with zH|⟨b1,hb1,hb2⟩
      ·exact n3 c0 hm1 c0 zH rfl
      ·obtain ⟨b2,hb3,hb4⟩:=ux s.outs _ _ _ zL c0 hm4
       rw [hb1] at hb3;cases hb3
       exact hb4 hb2
     ·exact hn hm4
   refine ⟨c0,q0,Me,?_,h6⟩
   rcases XL c0 q0 h5 with ⟨h7,_⟩|⟨_,h7,_⟩
   ·exact h7
   ·omega
  ·cases hp:ρ l0 with
   |none=>rfl
   |some q=>
    rcases vS l0 q hp with ⟨e,h3⟩|⟨_,h3⟩
    ·refine absurd e (hl0 _ ?_)
     rcases hqm with ⟨_,_,h4,_⟩|⟨tid,m,q',h4,_⟩
     ·rw [h4] at h3;cases h3
     ·unfold MSpec.Tu;rw [h4];simp
    ·obtain ⟨j,_,j2,j3⟩:=p2 l0 q h3
     exact absurd j3 (hl0 j (by unfold MSpec.Tu;omega))
  ·obtain ⟨l0,off,len,e,te,rows,out,p,q1,q2,q3,q4,q5⟩:=xX xK kj we
   have hj:kj.2<s.outs.length:=by
    rw [<-yk s.outs _ _ _ zL]
    exact (Ao.1 q1).1
   have e1:=p5 kj.2 l0 off len e te rows out (some p) q1 q2
   rw [Bt] at e1
   rw [Ape _ hj,e1]
   have hk:=((h'.1.heap l0).Sl q2).2
   obtain ⟨l1,n1⟩:=p
   simp only [KeptAt] at hk
   dsimp only at q3 q4
   subst q3
   have UO:π0 (Ee false kj.1)=(π (Ee false kj.1)).map full:=by
    show (if s.ptr.isSome=true/\Ee false kj.1=Pz then _ else π (Ee false kj.1)).map full=_
    rw [Ai λh=>hvl false kj.1 q5 h.2]
   rw [UO] at hk
   unfold sE
   cases hp:π (Ee false kj.1) with
   |none=>
    rw [hp] at hk
    cases xM:cG l0 with
    |none=>trivial
    |some q=>rw [xM] at hk;exact hk.elim
   |some q0=>
    rw [hp] at hk
    cases xM:cG l0 with
    |none=>rw [xM] at hk;exact hk.elim
    |some q=>
     rw [xM] at hk
     obtain ⟨k1,k2,k3,k4⟩:=hk
     exact ⟨k1,k2,k3,λj hj hc=>k4 j (by omega) hc⟩
 refine calls_of_wp hf hb ?_
 refine (uU hT Pw hm he _ w _ h0 λe st a' w' ⟨Jd,rW⟩ h'=>?_).1
 obtain ⟨v,Ug,ρ,p1,p2,p3⟩:=fin st a' w' rW h'
 cases e with
 |normal=>exact ⟨p1,v,p2,v,Ug,ρ,rfl,p3⟩
 |ret=>exact ⟨p1,v,p2,v,Ug,ρ,rfl,p3⟩
 |exit id=>exact absurd rfl (Jd id)
end
end Go.Proofs.YtkkdpknjohcekaaGreat
