/-
  Part 27 of the proof that the statement FnExactSolveTwoPhaseWithin holds.
-/
import Derived.Test.YtfgfigkbgecfnaaCSolveTwoPhaseWithin25
namespace Go.Proofs.Ytfgfigkbgecfnaa
open Go.RowKit
section
variable {P:Program} {T:Tab} {Γ:Env} {X:Ctx} {w w':World} {π:Pi} {H:List (Nat×OB)}
theorem ug: ∀(cs:List (Bool×CK)) (k:Nat) (x:Ins.den cs) (l:Nat),Ay (al k cs x) l≠none-> ∃b j,k<=j/\j<k+cs.length/\l=Eh b j
 | [],_,_,_,h=>absurd rfl h
 |p::r,k,x,l,h=>by
  simp only [al] at h
  by_cases e:l=Eh p.1 k
  ·exact ⟨p.1,k,Ap _,by simp,e⟩
  ·have:Ay (al (k+1) r x.2) l≠none:=by
    cases hc:l6 (Eh p.1 k) p.2 x.1 with
    |none=>rw [hc] at h;exact h
    |some b=>rw [hc] at h;simpa only [j6,Ay,Ai (Ha e)] using h
   obtain ⟨b,j,h1,h2,h3⟩:=ug r (k+1) x.2 l this;exact ⟨b,j,by omega,by simp;omega,h3⟩
theorem VD {p:Bool×CK} {r:List (Bool×CK)} {k:Nat} {x:Ins.den (p::r)} (hk:k+(r.length+1)<100000) {l:Nat} {b:OB} (h:Ay (al (k+1) r x.2) l=some b):Ay (al k (p::r) x) l=some b:=by
 obtain ⟨b',j,h1,h2,rfl⟩:=ug r (k+1) x.2 l (by rw [h];simp);simp only [al]
 cases l6 (Eh p.1 k) p.2 x.1 with
 |none=>exact h
 |some c=>simp only [j6,Ay];rw [Ai (TJ (by omega) (by omega) (by omega))];exact h
theorem ZU {D:Nat->Prop} (hD: ∀b,Dk X.w0.heap.size X.Sc π false b->D b) (hw0:X.w0=w) {l:Nat} {r:Option Real} (dT:X.iM l=r.map full) {u:Value} {c:CK} {x:c.den} (h:fC w D r u c x) {b:OB} (hb:l6 l c x=some b):Cq X w π H (r.map full) b:=by
 have aj: ∀ {e:Ty} {es:List Value} {y:e.den},Cells w D e es y->Cells w (Dk X.w0.heap.size X.Sc π false) e es y:= λ {e es y} h=>Cells.Gd (Ap _) (λ_ _ _=>rfl) (λb _ hb=>hD b hb) e es y h
 cases c with
 |Ia τ=>cases hb
 |row e te=>
  simp only [l6,Aa] at hb;subst hb;obtain ⟨_,h⟩:=h;simp only [gX] at h;simp only [Cq,Km]
  cases r with
  |none=>exact h
  |some q=>
   obtain ⟨k1,cu,ti,k2,k3,k4,k5,k6⟩:=h
   exact ⟨⟨k1.1,k1.2,λh=>by cases h⟩,cu,ti,k2,k3,k4,k5,λi y hy=>by
    obtain ⟨es,g1,g2,g3⟩:=k6 i y hy
    exact ⟨es,g1,g2,aj g3⟩,λh=>by cases h⟩
 |Hz e te=>
  simp only [l6,Aa] at hb;subst hb
  cases r<;>exact h.2
 |part e te=>
  simp only [l6,Aa] at hb;subst hb;obtain ⟨_,hf,h⟩:=h;simp only [Cq,Km]
  cases r with
  |none=>exact h
  |some q=>
   obtain ⟨k1,cu,ti,k2,k3,k4,k5,k6⟩:=h
   exact ⟨⟨k1.1,k1.2,λh=>by cases h⟩,cu,ti,k2,k3,k4,k5,λi y hy=>by
    obtain ⟨es,g1,g2,g3⟩:=k6 i y hy
    exact ⟨es,g1,g2,aj g3⟩,λh=>by cases h⟩
 |Ca e te kp=>
  simp only [l6,Aa] at hb;subst hb;have h2:aP w D r e x none:=h.2;have h3:=aP.Jg h2 hD
  refine ⟨by cases r<;>exact h3,?_⟩
  cases kp with
  |false=>trivial
  |true=>
   simp only [Oz,KeptAt];rw [dT]
   cases r with
   |none=>trivial
   |some q=>exact ⟨rfl,rfl,rfl,λj _ _=>by rw [hw0]⟩
theorem mJ {D:Nat->Prop} (hD: ∀b,Dk X.w0.heap.size X.Sc π false b->D b) (hw0:X.w0=w) {π0:Pi} (dT: ∀l,X.iM l=(π0 l).map full): ∀(cs:List (Bool×CK)) (k:Nat) (x:Ins.den cs) (us:List Value),fD w D π0 k cs x us-> ∀l b,Ay (al k cs x) l=some b->Cq X w π H ((π0 l).map full) b
 | [],_,_,_,_,_,_,h=>by cases h
 |_::_,_,_,[],h,_,_,_=>h.elim
 |p::r,k,x,u::us,h,l,b,hb=>by
  simp only [al] at hb
  cases hc:l6 (Eh p.1 k) p.2 x.1 with
  |none=>rw [hc] at hb;exact mJ hD hw0 dT r (k+1) x.2 us h.2 l b hb
  |some c=>
   rw [hc] at hb;simp only [j6,Ay] at hb;split at hb
   ·rename_i e;subst e;simp only [Aa] at hb;subst hb;exact ZU hD hw0 (dT _) h.1 hc
   ·exact mJ hD hw0 dT r (k+1) x.2 us h.2 l b hb
theorem GK {S:Nat->Prop} {π0:Pi} {gv:Nat->Prop} {iM:Pi} (eR: ∀l,π l=(π0 l).map full): ∀(cs:List (Bool×CK)) (k:Nat) (x:Ins.den cs) (us:List Value),k+cs.length<100000->fD w (λb=>Wn π0 b\/S b) π0 k cs x us->(∀l b,Ay (al k cs x) l=some b->Ay H l=some b)->
  Nn ⟨w,S,gv,iM⟩ w π H (cf k cs x) us
 | [],_,_,[],_,_,_=>trivial
 | [],_,_,_::_,_,h,_=>h.elim
 |_::_,_,_,[],_,h,_=>h.elim
 |p::r,k,x,u::us,hk,h,hH=>by
  simp only [Aw] at hk;refine ⟨?_,GK eR r (k+1) x.2 us (by omega) h.2 λl b hb=>hH l b (VD hk hb)⟩;have h1:=h.1;have hh: ∀b,l6 (Eh p.1 k) p.2 x.1=some b->Ay H (Eh p.1 k)=some b:= λb hb=>hH _ b (by simp only [al];rw [hb];simp [j6,Ay]);have js:=eR (Eh p.1 k);obtain ⟨io,c⟩:=p;dsimp only at h1 hh js⊢;generalize x.1=y at*
  cases c with
  |Ia τ=>
   show Dd w _ τ u y
   cases hf:τ.flat with
   |true=>exact Dd.flat hf h1.2
   |false=>
    refine h1.2.Jg λb _ hb=>?_;rcases hb with ⟨l,q,h3,h4⟩|hb|⟨hb,_⟩
    ·rw [eR l] at h3
     cases hp:π0 l with
     |none=>rw [hp] at h3;cases h3
     |some q0=>rw [hp] at h3;simp only [An,Aa] at h3;subst h3;exact .inl ⟨l,q0,hp,h4⟩
    ·exact .inr hb
    ·cases hb
  |row e te=>exact ⟨_,e.size,List.length y,hh _ rfl,rfl,by simp,by rw [js];exact au h1.1⟩
  |Hz e te=>exact ⟨_,e.size,List.length y,hh _ rfl,rfl,by simp,by rw [js];exact au h1.1⟩
  |part e te=>exact ⟨_,e.size,List.length y.1,hh _ rfl,rfl,h1.1.2,by rw [js];exact au h1.1.1⟩
  |Ca e te kp=>exact ⟨_,1,List.length y,hh _ rfl,rfl,by simp,by rw [js];exact au h1.1⟩
theorem q7 {p:Real} {s off len:Nat} {u:Value} {f:Nat->Prop} (h:Ih (some p) s off len u):Ih (some ⟨p.g,p.o+off,p.cap-off,f,f⟩) s 0 len u:=by
 obtain ⟨ad,h1,h2,h3⟩:=h;exact ⟨ad,h1,by dsimp only;omega,λh0=>by dsimp only at h0;simpa using h3 (by omega)⟩
theorem uN {α:Type} {xs:List α} {off len i:Nat} {x:α} (h:((xs.drop off).take len)[i]?=some x):xs[off+i]?=some x:=by
 rw [Di] at h;split at h
 ·rw [Cp] at h;exact h
 ·cases h
theorem Yh.part {P:Nat->Prop} {g o:Nat} {cur:Array Value} {e:Ty} {xs:List e.den} (off len:Nat) (h:Yh w P g o cur e xs):Yh w P g (o+off) cur e ((xs.drop off).take len):=by
 obtain ⟨Fs,t1,t2,t3,t4⟩:=h;refine ⟨(Fs.drop off).take len,by simp [t1],Cn.2 ⟨λhm=>(Cn.1 t2).1 (Te off len _ hm),mT off len (Cn.1 t2).2⟩,λb hb=>t3 b (Te off len b hb),λi x F hx hF=>?_⟩;obtain ⟨es,k1,k2,k3⟩:=t4 (off+i) x F (uN hx) (uN hF);exact ⟨es,k1,λj u hu=>by rw [He o off i];exact k2 j u hu,k3⟩
theorem VW {st:St} (h:Nm X w π st.heap) {c:CK} (hg: ∀e te kp,c≠ .Ca e te kp) {a:AC} {u:Value} (hu:Hw X w π st.heap a u) {x:c.den} {ls:List Nat} (he:lf st c a=some (x,ls)):
  ∃r,fC w (λb=>Wn π b\/X.Sc b) r u c x/\ ∀q,r=some q-> ∃l p,ls= [l]/\π l=some p/\(∀b,q.Df b->p.cl b)/\(c.isX=false-> ∀b,q.Df b->p.Df b):=by
 have hav: ∀ {f:Bool} (b:Nat),(Wn π b\/X.Sc b)->Dk X.w0.heap.size X.Sc π f b:= λb h=>h.imp id .inl
 cases c with
 |Ia τ=>
  simp only [lf] at he;split at he
  ·rename_i hf
   cases hv:Dy st τ a with
   |none=>rw [hv] at he;cases he
   |some p=>
    obtain ⟨fr,y⟩:=p;rw [hv] at he;simp only [An,Aa,Ag] at he;obtain ⟨rfl,rfl⟩:=he;refine ⟨none,⟨rfl,?_⟩,λq hq=>by cases hq⟩;have Jg: ∀f,Dd w (Dk X.w0.heap.size X.Sc π f) τ u y->Dd w (λb=>Wn π b\/X.Sc b) τ u y:= λf hr=>hr.Jg λk _ hk=>hav k hk
    cases a with
    |data f Ow z=>
     rw [Ol] at hv;split at hv
     ·rename_i ht;subst ht;simp only [Aa,Ag] at hv;obtain ⟨_,rfl⟩:=hv;exact Jg f hu
     ·have Sd:τ.Ar=false:=by unfold j8 at hv;split at hv<;>first|rfl|cases hv
      exact Jg _ ⟨[u],dN hv hu,by simp [Cj,Sd]⟩
    |Mn=>
     have hu:u= .slice none 0 0:=hu;subst hu
     cases τ<;>simp only [Dy,Aa,Ag,reduceCtorEq] at hv
     ·obtain ⟨_,rfl⟩:=hv;exact ⟨[_],⟨none,0,0,rfl,rfl,Ap _, .inl rfl⟩,rfl⟩
     ·obtain ⟨_,rfl⟩:=hv;exact ⟨[_], .inl ⟨rfl,0,rfl⟩,rfl⟩
    |Wk=>
     have hu:u= .pointer none:=hu;subst hu
     cases τ<;>simp only [Dy,Aa,Ag,reduceCtorEq] at hv
     obtain ⟨_,rfl⟩:=hv;exact ⟨[_], .inl ⟨rfl,rfl⟩,rfl⟩
    |_=>cases τ<;>simp [AC.settled,Ty.flat,Dy] at hf hv
  ·cases he
 |row e te=>
  cases a<;>simp only [lf] at he<;>try (cases he;done)
  ·simp only [Aa,Ag] at he;obtain ⟨rfl,rfl⟩:=he;have hu:u= .slice none 0 0:=hu;exact ⟨none,⟨⟨hu,rfl,rfl⟩,rfl⟩,λq hq=>by cases hq⟩
  ·rename_i l off len;split at he
   ·rename_i fr tr e' Rx xs hl;split at he
    ·rename_i hc;obtain ⟨rfl,rfl⟩:=hc;simp only [Aa,Ag] at he;obtain ⟨rfl,rfl⟩:=he;unfold St.at at hl;obtain ⟨h1,h2⟩:=Pe hu hl;have hb:=(h.heap l).Se hl;simp only [Cq,Km] at hb
     have hlen:((xs.drop off).take len).length=len:=by simp;omega
     cases hp:π l with
     |none=>
      rw [hp] at h2 hb;obtain ⟨rfl,rfl,rfl⟩:=h2;exact ⟨none,⟨⟨rfl,rfl,by simp⟩,by show (xs.drop 0).take 0= [];simp⟩,λq hq=>by cases hq⟩
     |some p=>
      rw [hp] at h2 hb;obtain ⟨k1,cur,ti,k2,k3,k4,k5,k6,_⟩:=hb;have ho:=h2;obtain ⟨ad,_,tX,_⟩:=h2
      refine ⟨some ⟨p.g,p.o+off,p.cap-off,p.Df,p.Df⟩,⟨by rw [hlen];exact q7 ho,⟨k1.1,k1.2.1⟩,cur,ti,k2,by rw [k3];congr 1;dsimp only;omega,by dsimp only;omega,by rw [hlen];dsimp only;omega,λi y hy=>?_⟩,
       fun q hq=>by cases hq;exact ⟨l,p,rfl,hp,λb hb=>h.sub l p b hp hb,λ_ b hb=>hb⟩⟩
      obtain ⟨es,g1,g2,g3⟩:=k6 (off+i) y (uN hy);exact ⟨es,g1,λj u hu=>by dsimp only;rw [He p.o off i];exact g2 j u hu,Cells.Gd (Ap _) (λ_ _ _=>rfl) (λb _ hb=>hav b hb) e' es y g3⟩
    ·cases he
   ·cases he
 |Hz e te=>
  cases a<;>simp only [lf] at he<;>try (cases he;done)
  ·simp only [Aa,Ag] at he;obtain ⟨rfl,rfl⟩:=he;have hu:u= .slice none 0 0:=hu;exact ⟨none,⟨⟨hu,rfl,rfl⟩,rfl⟩,λq hq=>by cases hq⟩
  ·rename_i l off len;split at he
   ·rename_i fr tr e' Rx xs hl;split at he
    ·rename_i hc;obtain ⟨rfl,rfl,hf⟩:=hc;simp only [Aa,Ag] at he;obtain ⟨rfl,rfl⟩:=he;unfold St.at at hl;obtain ⟨h1,h2⟩:=Pe hu hl;have hb:=(h.heap l).Se hl;simp only [Cq,Km] at hb
     have hlen:((xs.drop off).take len).length=len:=by simp;omega
     cases hp:π l with
     |none=>
      rw [hp] at h2 hb;obtain ⟨rfl,rfl,rfl⟩:=h2;exact ⟨none,⟨⟨rfl,rfl,by simp⟩,by show (xs.drop 0).take 0= [];simp⟩,λq hq=>by cases hq⟩
     |some p=>
      rw [hp] at h2 hb;obtain ⟨k1,cur,ti,k2,k3,k4,k5,k6,k7⟩:=hb;have ho:=h2;obtain ⟨ad,_,tX,_⟩:=h2
      have ht:Yh w p.cl p.g p.o cur e' xs:=by
       simp only [Kx] at hf;rcases hf with hf|hf
       ·exact k7 hf
       ·exact nY hf k6
      exact ⟨some ⟨p.g,p.o+off,p.cap-off,p.cl,p.cl⟩,⟨by rw [hlen];exact q7 ho,h.sub l p _ hp k1.1,cur,ti,k2,by rw [k3];congr 1;dsimp only;omega,by dsimp only;omega,by rw [hlen];dsimp only;omega,ht.part off len⟩,
       fun q hq=>by cases hq;exact ⟨l,p,rfl,hp,λb hb=>hb,λhx=>by cases hx⟩⟩
    ·cases he
   ·rename_i e' Rx xs hl;split at he
    ·rename_i hc;obtain ⟨rfl,rfl⟩:=hc;simp only [Aa,Ag] at he;obtain ⟨rfl,rfl⟩:=he;unfold St.at at hl;obtain ⟨h1,h2⟩:=cB hu hl;have hb:=(h.heap l).Se hl;simp only [Cq,On] at hb
     have hlen:((xs.drop off).take len).length=len:=by simp;omega
     cases hp:π l with
     |none=>
      rw [hp] at h2 hb;obtain ⟨rfl,rfl,rfl⟩:=h2;exact ⟨none,⟨⟨rfl,rfl,by simp⟩,by show (xs.drop 0).take 0= [];simp⟩,λq hq=>by cases hq⟩
     |some p=>
      rw [hp] at h2 hb;obtain ⟨k1,cur,ti,k2,k3,k4,k5,ht⟩:=hb;have ho:=h2;obtain ⟨ad,_,tX,_⟩:=h2
      exact ⟨some ⟨p.g,p.o+off,p.cap-off,p.Df,p.Df⟩,⟨by rw [hlen];exact q7 ho,k1,cur,ti,k2,by rw [k3];congr 1;dsimp only;omega,by dsimp only;omega,by rw [hlen];dsimp only;omega,ht.part off len⟩,
       fun q hq=>by cases hq;exact ⟨l,p,rfl,hp,λb hb=>h.sub l p b hp hb,λ_ b hb=>hb⟩⟩
    ·cases he
   ·cases he
 |part e te=>cases a<;>simp [lf] at he
 |Ca e te kp=>exact absurd rfl (hg e te kp)
theorem Abz {st:St} (h:Nm X w π st.heap) {c:CK} {a:AC} {u:Value} (hu:Hw X w π st.heap a u) {x:c.den} {ls:List Nat} (he:lf st c a=some (x,ls)):
  ∃r,fC w (λb=>Wn π b\/X.Sc b) r u c x/\(∀q,r=some q-> ∃l p,ls= [l]/\π l=some p/\(∀b,q.Df b->p.cl b)/\(c.isX=false-> ∀b,q.Df b->p.Df b))/\
   (∀l off len e te rows out kp,a= .own l off len->Ay st.heap l=some (.Ca e te rows out kp)->r=π l):=by
 have wu:(∀e te kp,c≠ .Ca e te kp)->(∀l off len e te rows out kp,a=AC.own l off len->Ay st.heap l=some (OB.Ca e te rows out kp)->False)->
   ∃r,fC w (λb=>Wn π b\/X.Sc b) r u c x/\(∀q,r=some q-> ∃l p,ls= [l]/\π l=some p/\(∀b,q.Df b->p.cl b)/\(c.isX=false-> ∀b,q.Df b->p.Df b))/\
   (∀l off len e te rows out kp,a= .own l off len->Ay st.heap l=some (.Ca e te rows out kp)->r=π l):= λh1 h2=>by
  obtain ⟨r,g1,g2⟩:=VW h h1 hu he;exact ⟨r,g1,g2,λl off len e te rows out kp h3 h4=>(h2 l off len e te rows out kp h3 h4).elim⟩
 cases c with
 |Ia τ=>
  refine wu (λ_ _ _ h=>by cases h) λl off len e te rows out kp h3 h4=>?_;subst h3;simp only [lf] at he;split at he
  ·rename_i hf
   cases τ<;>simp [AC.settled,Ty.flat,Dy] at hf he
  ·cases he
 |row e te=>
  refine wu (λ_ _ _ h=>by cases h) λl off len e te rows out kp h3 h4=>?_;subst h3;simp only [lf,St.at,h4] at he;cases he
 |Hz e te=>
  refine wu (λ_ _ _ h=>by cases h) λl off len e te rows out kp h3 h4=>?_;subst h3;simp only [lf,St.at,h4] at he;cases he
 |part e te=>cases a<;>simp [lf] at he
 |Ca e te kp=>
  cases a<;>simp only [lf] at he<;>try (cases he;done)
  rename_i l off len;split at he
  ·rename_i e' Rx rows kp' hl;split at he
   ·rename_i hc;obtain ⟨rfl,rfl,rfl,rfl⟩:=hc;simp only [Aa,Ag] at he;obtain ⟨rfl,rfl⟩:=he;unfold St.at at hl;obtain ⟨b,sz,n,h1,h2,_,h3⟩:=hu;rw [hl] at h1;cases h1;simp only [OB.row,Aa,Ag] at h2;obtain ⟨rfl,rfl⟩:=h2;have hb:=((h.heap l).Se hl).1;refine ⟨π l,⟨h3,aP.Jg hb λb hb=>hb.imp id .inl⟩,λq hq=>⟨l,q,rfl,hq,λb hb=>h.sub l q b hq hb,λ_ b hb=>hb⟩,λl' Bdh Bda _ _ _ _ _ he _=>?_⟩;simp only [AC.own.injEq] at he;rw [he.1]
   ·cases he
  ·cases he
theorem Jr.congr {D:Nat->Prop} {ρ ρ':Pi} : ∀(cs:List CK) (k:Nat) (x:CKs.den cs) (us:List Value),(∀j,k<=j->ρ' (Kt j)=ρ (Kt j))->Jr w D ρ k cs x us->Jr w D ρ' k cs x us
 | [],_,_,[],_,h=>h
 | [],_,_,_::_,_,h=>h.elim
 |_::_,_,_,[],_,h=>h.elim
 |c::r,k,x,u::us,he,h=>⟨by rw [he k (Ap _)];exact h.1,Jr.congr r (k+1) x.2 us (λj hj=>he j (by omega)) h.2⟩
theorem yx {st:St} (h:Nm X w π st.heap): ∀(cs:List CK) (k:Nat) (as:List AC) (us:List Value) (x:CKs.den cs) (ls:List Nat),Nn X w π st.heap as us->Wc st cs as=some (x,ls)->ls.Nodup->
  ∃ρ:Pi,Jr w (λb=>Wn π b\/X.Sc b) ρ k cs x us/\(∀l q,ρ l=some q-> ∃j,k<=j/\j<k+cs.length/\l=Kt j)/\(∀l q b,ρ l=some q->q.Df b-> ∃l0∈ls,∃p,π l0=some p/\p.cl b/\((cs.all λc=>!c.isX)=true->p.Df b))/\
   (∀l l' q q' b,ρ l=some q->ρ l'=some q'->q.Df b->q'.Df b->l=l')/\
   (∀(j l off len:Nat) e te rows out kp,as[j]?=some (.own l off len)->Ay st.heap l=some (.Ca e te rows out kp)->ρ (Kt (k+j))=π l)
 | [],k,[],[],x,ls,_,he,_=>by
  simp only [Wc,Aa,Ag] at he;exact ⟨λ_=>none,trivial,(λl q h=>by cases h),(λl q b h=>by cases h),(λl l' q q' b h=>by cases h),λj l off len e te rows out kp h=>by simp at h⟩
 | [],_,[],_::_,_,_,h,_,_=>h.elim
 | [],_,_::_,_,_,_,_,he,_=>by simp [Wc] at he
 |_::_,_,[],_,_,_,_,he,_=>by simp [Wc] at he
 |_::_,_,_::_,[],_,_,h,_,_=>h.elim
 |c::r,k,a::as,u::us,x,ls,hr,he,sd=>by
  simp only [Wc] at he;split at he
  ·rename_i x1 t1 x2 t2 h1 h2;simp only [Aa,Ag] at he;obtain ⟨rfl,rfl⟩:=he;obtain ⟨n1,n2,n3⟩:=Ee.1 sd;obtain ⟨ρ,g1,g2,g3,g4,g5⟩:=yx h r (k+1) as us x2 t2 hr.2 h2 n2;obtain ⟨rr,r1,r2,r3⟩:=Abz h hr.1 h1
   have FC: ∀l q q0 b,ρ l=some q->rr=some q0->q.Df b->q0.Df b->False:= λl q q0 b h3 h4 h5 h6=>by
    obtain ⟨l0,m0,p,p1,p2,_⟩:=g3 l q b h3 h5;obtain ⟨l1,p',e1,p1',p2',_⟩:=r2 q0 h4;have:=h.inj l0 l1 p p' b p1 p1' p2 (p2' b h6);exact n3 l1 (by rw [e1];simp) l0 m0 this.symm
   refine ⟨λl=>if l=Kt k then rr else ρ l,⟨by simpa using r1,Jr.congr r (k+1) x2 us (λj hj=>Ai (by unfold Kt;omega)) g1⟩,λl q hq=>?_,λl q b hq hb=>?_,λl l' q q' b h3 h4 h5 h6=>?_,λj l off len e te rows out kp hj hl=>?_⟩
   ·dsimp only at hq
    by_cases e:l=Kt k
    ·exact ⟨k,Ap _,by simp,e⟩
    ·rw [Ai e] at hq;obtain ⟨j,j1,j2,j3⟩:=g2 l q hq;exact ⟨j,by omega,by simp;omega,j3⟩
   ·dsimp only at hq
    by_cases e:l=Kt k
    ·rw [Ac e] at hq;obtain ⟨l1,p',e1,p1',p2',p3'⟩:=r2 q hq;exact ⟨l1,by rw [e1];simp,p',p1',p2' b hb,λhx=>p3' (by simp only [Jz,Ak,Fy] at hx;exact hx.1) b hb⟩
    ·rw [Ai e] at hq;obtain ⟨l0,m0,p,p1,p2,p3⟩:=g3 l q b hq hb;exact ⟨l0,Cm _ m0,p,p1,p2,λhx=>p3 (by simp only [Jz,Ak] at hx;exact hx.2)⟩
   ·dsimp only at h3 h4
    by_cases e:l=Kt k<;>by_cases e':l'=Kt k
    ·rw [e,e']
    ·rw [Ac e] at h3;rw [Ai e'] at h4;exact (FC l' q' q b h4 h3 h6 h5).elim
    ·rw [Ai e] at h3;rw [Ac e'] at h4;exact (FC l q q' b h3 h4 h5 h6).elim
    ·rw [Ai e] at h3;rw [Ai e'] at h4;exact g4 l l' q q' b h3 h4 h5 h6
   ·rcases j with _|j
    ·simp only [Cf,Aa] at hj;show (if Kt k=Kt k then rr else ρ (Kt k))=π l;rw [Ac rfl];exact r3 l off len e te rows out kp hj hl
    ·have:=g5 j l off len e te rows out kp (by simpa using hj) hl;show (if Kt (k+(j+1))=Kt k then rr else ρ (Kt (k+(j+1))))=π l;rw [Ai (by unfold Kt;omega),<-this,show k+(j+1)=k+1+j by omega]
  ·cases he
theorem JB {r r':Option Real} (h:bP (r.map full) r') {e:Ty} {xs:List e.den} {te:TypeId} {fr tr:Bool} (ha:Km X w π r' fr tr e te xs):Tr w (λb=>Wn π b\/X.Sc b) r e xs:=by
 cases r with
 |none=>cases r' with
  |none=>exact ha
  |some q=>exact h.elim
 |some p=>cases r' with
  |none=>exact h.elim
  |some q=>
   obtain ⟨e1,e2,e3,e4⟩:=h;obtain ⟨k1,cur,ti,k2,k3,k4,k5,k6,_⟩:=ha;have e1:p.g=q.g:=e1;have e2:p.o=q.o:=e2;have e3:p.cap=q.cap:=e3;refine ⟨⟨by rw [e1];exact (e4 _).2 k1.1,λb hb=>by rw [e1];exact k1.2.1 b ((e4 b).1 hb)⟩,cur,ti,by rw [e1];exact k2,by rw [e2,e3];exact k3,by rw [e3];exact k4,by rw [e3];exact k5,λi y hy=>?_⟩;obtain ⟨es,g1,g2,g3⟩:=k6 i y hy;exact ⟨es,g1,by rw [e2];exact g2,Cells.Gd (Ap _) (λ_ _ _=>rfl) (λb _ hb=>hb.imp id .inl) e es y g3⟩
theorem WV {r r':Option Real} (h:bP (r.map full) r') {e:Ty} {xs:List e.den} {te:TypeId} (ha:On w r' e te xs):On w r e te xs:=by
 cases r with
 |none=>cases r' with
  |none=>exact ha
  |some q=>exact h.elim
 |some p=>cases r' with
  |none=>exact h.elim
  |some q=>
   obtain ⟨e1,e2,e3,e4⟩:=h;obtain ⟨k1,cur,ti,k2,k3,k4,k5,Fs,t1,t2,t3,t4⟩:=ha;have e1:p.g=q.g:=e1;have e2:p.o=q.o:=e2;have e3:p.cap=q.cap:=e3;exact ⟨by rw [e1];exact (e4 _).2 k1,cur,ti,by rw [e1];exact k2,by rw [e2,e3];exact k3,by rw [e3];exact k4,by rw [e3];exact k5,Fs,t1,by rw [e1];exact t2,λb hb=>(e4 b).2 (t3 b hb),by rw [e2];exact t4⟩
theorem Vl {st:St} {π0:Pi} {D:Nat->Prop} {w0:World} (h:Nm X w π st.heap) (dT: ∀l,X.iM l=(π0 l).map full): ∀(cs:List (Bool×CK)) (k:Nat) (x:Ins.den cs) (us:List Value) (o:IOs.den cs),fD w0 D π0 k cs x us->Ph st k cs=some o->
  Mu w (λb=>Wn π b\/X.Sc b) π0 k cs o/\ ∀l∈Qf k cs,Ay st.heap l≠none
 | [],_,_,_,_,_,_=>⟨trivial,λl hl=>by cases hl⟩
 |_::_,_,_,[],_,h,_=>h.elim
 |(false,c)::r,k,x,u::us,o,hi,he=>Vl h dT r (k+1) x.2 us o hi.2 (by simpa only [Ph] using he)
 |(true, .Ia τ)::r,k,x,u::us,o,hi,he=>Vl h dT r (k+1) x.2 us o hi.2 (by simpa only [Ph] using he)
 |(true, .Ca e te kp)::r,k,x,u::us,o,hi,he=>Vl h dT r (k+1) x.2 us o hi.2 (by simpa only [Ph] using he)
 |(true, .row e te)::r,k,x,u::us,o,hi,he=>by
  simp only [Ph] at he;split at he
  ·rename_i x1 x2 h1 h2;simp only [Aa] at he;subst he;obtain ⟨g1,g2⟩:=Vl h dT r (k+1) x.2 us x2 hi.2 h2;have h0:=hi.1;simp only [qI] at h1;split at h1
   ·rename_i fr tr e' Rx xs hl;split at h1
    ·rename_i hc;obtain ⟨rfl,rfl⟩:=hc;simp only [Aa] at h1;subst h1;unfold St.at at hl;have hs:=h.iM (Eh true k) (by have:=bE k;omega) (by rw [hl];simp);rw [dT] at hs
     exact ⟨⟨JB (te:=Rx) hs ((h.heap _).Se hl),g1⟩,λl Mr=>by
      simp only [Qf] at Mr;rcases Bd.1 Mr with rfl|Mr
      ·rw [hl];simp
      ·exact g2 l Mr⟩
    ·cases h1
   ·cases h1
  ·cases he
 |(true, .part e te)::r,k,x,u::us,o,hi,he=>by
  simp only [Ph] at he;split at he
  ·rename_i x1 x2 h1 h2;simp only [Aa] at he;subst he;obtain ⟨g1,g2⟩:=Vl h dT r (k+1) x.2 us x2 hi.2 h2;have h0:=hi.1;simp only [qI] at h1;split at h1
   ·rename_i fr tr e' Rx xs hl;split at h1
    ·rename_i hc;obtain ⟨rfl,rfl⟩:=hc;simp only [Aa] at h1;subst h1;unfold St.at at hl;have hs:=h.iM (Eh true k) (by have:=bE k;omega) (by rw [hl];simp);rw [dT] at hs
     exact ⟨⟨JB (te:=Rx) hs ((h.heap _).Se hl),g1⟩,λl Mr=>by
      simp only [Qf] at Mr;rcases Bd.1 Mr with rfl|Mr
      ·rw [hl];simp
      ·exact g2 l Mr⟩
    ·cases h1
   ·cases h1
  ·cases he
 |(true, .Hz e te)::r,k,x,u::us,o,hi,he=>by
  simp only [Ph] at he;split at he
  ·rename_i x1 x2 h1 h2;simp only [Aa] at he;subst he;obtain ⟨g1,g2⟩:=Vl h dT r (k+1) x.2 us x2 hi.2 h2;simp only [qI] at h1;split at h1
   ·rename_i e' Rx xs hl;split at h1
    ·rename_i hc;obtain ⟨rfl,rfl⟩:=hc;simp only [Aa] at h1;subst h1;unfold St.at at hl;have hs:=h.iM (Eh true k) (by have:=bE k;omega) (by rw [hl];simp);rw [dT] at hs
     exact ⟨⟨WV (te:=Rx) hs ((h.heap _).Se hl),g1⟩,λl Mr=>by
      simp only [Qf] at Mr;rcases Bd.1 Mr with rfl|Mr
      ·rw [hl];simp
      ·exact g2 l Mr⟩
    ·cases h1
   ·cases h1
  ·cases he
theorem wT {p:Bool×CK} {r:List (Bool×CK)} (h:ar (p::r)=true):ar r=true:=by
 rcases p with ⟨_|_,c⟩<;>cases c<;>first|(simp [ar] at h;done)|simpa [ar] using h
theorem yd: ∀(cs:List (Bool×CK)) (k:Nat) (x:Ins.den cs) (l:Nat),ar cs=true->k+cs.length<100000->Ay (al k cs x) l≠none-> ¬l<Bv->l∈Qf k cs
 | [],_,_,_,_,_,h,_=>absurd rfl h
 |(io,c)::r,k,x,l,hng,hk,h,hp=>by
  simp only [Aw] at hk;simp only [al] at h;have tail:Ay (al (k+1) r x.2) l≠none->l∈Qf (k+1) r:= λh=>yd r (k+1) x.2 l (wT hng) (by omega) h hp
  have sub: ∀m,m∈Qf (k+1) r->m∈Qf k ((io,c)::r):= λm hm=>by
   cases io<;>cases c<;>simp only [Qf]<;>first|exact hm|exact At _ hm
  cases hc:l6 (Eh io k) c x.1 with
  |none=>rw [hc] at h;exact sub l (tail h)
  |some b=>
   rw [hc] at h;simp only [j6,Ay] at h;split at h
   ·rename_i e;subst e
    cases io with
    |false=>exact absurd (gy (by omega)) hp
    |true=>cases c with
     |Ia τ=>cases hc
     |row e te=>simp [Qf]
     |Hz e te=>simp [Qf]
     |part e te=>simp [Qf]
     |Ca e te kp=>simp [ar] at hng
   ·exact sub l (tail h)
theorem fC.Jg {D D':Nat->Prop} (hD: ∀b,D' b->D b) {r:Option Real} {u:Value} {c:CK} {x:c.den} (h:fC w D r u c x):fC w D' r u c x:=by
 cases c with
 |Ia τ=>exact ⟨h.1,h.2.Jg λb _ hb=>hD b hb⟩
 |row e te=>exact ⟨h.1,Tr.Jg h.2 hD⟩
 |Hz e te=>exact h
 |part e te=>exact ⟨h.1,h.2.1,Tr.Jg h.2.2 hD⟩
 |Ca e te kp=>exact ⟨h.1,aP.Jg h.2 hD⟩
theorem Jr.Jg {D D':Nat->Prop} (hD: ∀b,D' b->D b) {ρ:Pi} : ∀(cs:List CK) (k:Nat) (x:CKs.den cs) (us:List Value),Jr w D ρ k cs x us->Jr w D' ρ k cs x us
 | [],_,_,[],h=>h
 | [],_,_,_::_,h=>h.elim
 |_::_,_,_,[],h=>h.elim
 |_c::r,k,x,_u::us,h=>⟨h.1.Jg hD,Jr.Jg hD r (k+1) x.2 us h.2⟩
theorem Mu.Jg {D D':Nat->Prop} (hD: ∀b,D' b->D b) {π:Pi} : ∀(cs:List (Bool×CK)) (k:Nat) (x:IOs.den cs),Mu w D π k cs x->Mu w D' π k cs x
 | [],_,_,h=>h
 |(false,_)::r,k,x,h=>Mu.Jg hD r (k+1) x h
 |(true, .Ia _)::r,k,x,h=>Mu.Jg hD r (k+1) x h
 |(true, .Ca _ _ _)::r,k,x,h=>Mu.Jg hD r (k+1) x h
 |(true, .row _e _te)::r,k,x,h=>⟨Tr.Jg h.1 hD,Mu.Jg hD r (k+1) x.2 h.2⟩
 |(true, .Hz _e _te)::r,k,x,h=>⟨h.1,Mu.Jg hD r (k+1) x.2 h.2⟩
 |(true, .part _e _te)::r,k,x,h=>⟨Tr.Jg h.1 hD,Mu.Jg hD r (k+1) x.2 h.2⟩
theorem fD.congr {D:Nat->Prop} {π0 cN:Pi} : ∀(cs:List (Bool×CK)) (k:Nat) (x:Ins.den cs) (us:List Value),(∀b j,k<=j->j<k+cs.length->cN (Eh b j)=π0 (Eh b j))->fD w D π0 k cs x us->fD w D cN k cs x us
 | [],_,_,[],_,h=>h
 | [],_,_,_::_,_,h=>h
 |_::_,_,_,[],_,h=>h
 |p::r,k,x,u::us,hp,h=>⟨by rw [hp p.1 k (Ap _) (by simp)];exact h.1,fD.congr r (k+1) x.2 us (λb j h1 h2=>hp b j (by omega) (by simp;omega)) h.2⟩
theorem Mu.congr {D:Nat->Prop} {π0 cN:Pi} : ∀(cs:List (Bool×CK)) (k:Nat) (x:IOs.den cs),(∀b j,k<=j->j<k+cs.length->cN (Eh b j)=π0 (Eh b j))->Mu w D π0 k cs x->Mu w D cN k cs x
 | [],_,_,_,h=>h
 |(false,c)::r,k,x,hp,h=>by cases c<;>exact Mu.congr r (k+1) x (λb j h1 h2=>hp b j (by omega) (by simp;omega)) h
 |(true, .Ia _)::r,k,x,hp,h=>Mu.congr r (k+1) x (λb j h1 h2=>hp b j (by omega) (by simp;omega)) h
 |(true, .Ca _ _ _)::r,k,x,hp,h=>Mu.congr r (k+1) x (λb j h1 h2=>hp b j (by omega) (by simp;omega)) h
 |(true, .row e te)::r,k,x,hp,h=>⟨by rw [hp true k (Ap _) (by simp)];exact h.1,Mu.congr r (k+1) x.2 (λb j h1 h2=>hp b j (by omega) (by simp;omega)) h.2⟩
 |(true, .Hz e te)::r,k,x,hp,h=>⟨by rw [hp true k (Ap _) (by simp)];exact h.1,Mu.congr r (k+1) x.2 (λb j h1 h2=>hp b j (by omega) (by simp;omega)) h.2⟩
 |(true, .part e te)::r,k,x,hp,h=>⟨by rw [hp true k (Ap _) (by simp)];exact h.1,Mu.congr r (k+1) x.2 (λb j h1 h2=>hp b j (by omega) (by simp;omega)) h.2⟩
theorem Fc.congr {π0 cN:Pi} : ∀(cs:List (Bool×CK)) (k:Nat) (o:IOs.den cs) (n:Nat) (us as:List Value),(∀b j,k<=j->j<k+cs.length->cN (Eh b j)=π0 (Eh b j))->Fc π0 k cs o n us as->Fc cN k cs o n us as
 | [],k,o,0,us,as,_,h=>by simpa [Fc] using h
 | [],k,o,n+1,us,as,_,h=>by simp [Fc] at h
 |p::r,k,o,0,us,as,_,h=>by
  rcases p with ⟨_|_,c⟩<;>cases c<;>simpa [Fc] using h
 |(true, .Ia _)::r,k,o,n+1,us,as,_,h=>by simp [Fc] at h
 |(true, .part _ _)::r,k,o,n+1,us,as,_,h=>by simp [Fc] at h
 |(true, .Ca _ _ _)::r,k,o,n+1,us,as,_,h=>by simp [Fc] at h
 |(true, .row e te)::r,k,o,n+1,[],as,_,h=>by simp [Fc] at h
 |(true, .Hz e te)::r,k,o,n+1,[],as,_,h=>by simp [Fc] at h
 |(true, .row e te)::r,k,o,n+1,u::us,as,hp,h=>by
  simp only [Fc] at h⊢;exact ⟨by rw [hp true k (Ap _) (by simp)];exact h.1,Fc.congr r (k+1) o.2 n us as (λb j h1 h2=>hp b j (by omega) (by simp;omega)) h.2⟩
 |(true, .Hz e te)::r,k,o,n+1,u::us,as,hp,h=>by
  simp only [Fc] at h⊢;exact ⟨by rw [hp true k (Ap _) (by simp)];exact h.1,Fc.congr r (k+1) o.2 n us as (λb j h1 h2=>hp b j (by omega) (by simp;omega)) h.2⟩
 |(false,c)::r,k,o,n+1,[],as,_,h=>by cases c<;>simp [Fc] at h
 |(false,c)::r,k,o,n+1,u::us,[],_,h=>by cases c<;>simp [Fc] at h
 |(false,c)::r,k,o,n+1,u::us,a::as,hp,h=>by
  have h:u=a/\Fc π0 (k+1) r o n us as:=by cases c<;>exact h
  have:=Fc.congr r (k+1) o n us as (λb j h1 h2=>hp b j (by omega) (by simp;omega)) h.2
  cases c<;>exact ⟨h.1,this⟩
theorem qY: ∀(A B:List (Nat×OB)) (l:Nat),Ay (A++B) l=match Ay A l with|some b=>some b|none=>Ay B l
 | [],B,l=>rfl
 |(k,b)::A,B,l=>by
  simp only [Ka,Ay];split
  ·rfl
  ·exact qY A B l
theorem uK {st:St} : ∀(cs:List CK) (as:List AC) (x:CKs.den cs) (ls:List Nat),Wc st cs as=some (x,ls)-> ∀l∈ls,∃b,Ay st.heap l=some b/\b.row≠none
 | [],[],x,ls,he=>by
  simp only [Wc,Aa,Ag] at he;obtain ⟨_,rfl⟩:=he;intro l hl;cases hl
 | [],_::_,_,_,he=>by simp [Wc] at he
 |_::_,[],_,_,he=>by simp [Wc] at he
 |c::r,a::as,x,ls,he=>by
  simp only [Wc] at he;split at he
  ·rename_i x1 t1 x2 t2 h1 h2;simp only [Aa,Ag] at he;obtain ⟨_,rfl⟩:=he;intro l hl;rcases Be.1 hl with hl|hl
   ·unfold lf at h1;split at h1
    ·split at h1
     ·cases hv:Dy st _ a with
      |none=>rw [hv] at h1;cases h1
      |some p=>rw [hv] at h1;simp only [An,Aa,Ag] at h1;obtain ⟨_,rfl⟩:=h1;cases hl
     ·cases h1
    all_goals (repeat' split at h1)
    all_goals first|(cases h1;done)|skip
    all_goals (simp only [Aa,Ag] at h1;obtain ⟨_,rfl⟩:=h1)
    all_goals first|(cases hl;done)|skip
    all_goals (have hl:=Af.1 hl;subst hl)
    all_goals (rename_i heq _;exact ⟨_,heq,by simp [OB.row]⟩)
   ·exact uK r as x2 t2 h2 l hl
  ·cases he
theorem rm {r r':Option Real} {sz off len:Nat} {v:Value} (h:bP r r') (hv:Ih r' sz off len v):Ih r sz off len v:=by
 cases r<;>cases r'<;>first|exact h.elim|skip
 ·exact hv
 ·obtain ⟨h1,h2,h3,_⟩:=h;obtain ⟨ad,g1,g2,g3⟩:=hv;exact ⟨ad,by rw [h3];exact g1,by rw [h3];exact g2,by rw [h1,h2,h3];exact g3⟩
theorem Zw {st:St} {π0:Pi} (hs: ∀k,Ay st.heap (Eh true k)≠none->bP ((π0 (Eh true k)).map full) (π (Eh true k))):
  ∀(cs:List (Bool×CK)) (k:Nat) (vs:List AC) (us:List Value) (bc:List AC) (o:IOs.den cs),Nn X w π st.heap vs us->Jt k cs vs=some bc->jx st vs cs->Ph st k cs=some o->
   ∃bv,Nn X w π st.heap bc bv/\bv.length=uY cs vs.length/\ ∀tl,Fc π0 k cs o vs.length us (bv++tl)
 |cs,k,[],us,bc,o,hr,he,_,_=>by
  have e1:us= []:=by cases us with|nil=>rfl|cons u us=>exact hr.elim
  have e2:bc= []:=by rcases cs with _|⟨⟨_|_,c⟩,r⟩<;>simpa [Jt] using he.symm
  subst e1;subst e2;refine ⟨[],trivial,?_,λtl=>?_⟩
  ·rcases cs with _|⟨⟨_|_,c⟩,r⟩<;>rfl
  ·rcases cs with _|⟨⟨_|_,c⟩,r⟩<;>(try cases c)<;>simp [Fc]
 | [],k,a::vs,us,bc,o,hr,he,_,_=>by simp [Jt] at he
 |p::r,k,a::vs,[],bc,o,hr,_,_,_=>hr.elim
 |(false,c)::r,k,a::vs,u::us,bc,o,hr,he,hk,ho=>by
  have he:(Jt (k+1) r vs).map (λl=>a::l)=some bc:=by cases a<;>exact he
  cases hb:Jt (k+1) r vs with
  |none=>rw [hb] at he;cases he
  |some bc'=>
   rw [hb] at he;simp only [An,Aa] at he;subst he
   obtain ⟨bv,g1,g2,g3⟩:=Zw hs r (k+1) vs us bc' o hr.2 hb (by cases a<;>exact hk) (by cases c<;>simpa only [Ph] using ho)
   refine ⟨u::bv,⟨hr.1,g1⟩,by simp [uY,g2],λtl=>?_⟩;have:=g3 tl
   cases c<;>exact ⟨rfl,this⟩
 |(true,c)::r,k,a::vs,u::us,bc,o,hr,he,hk,ho=>by
  cases c with
  |Ia τ=>cases a<;>simp [Jt] at he
  |part e te=>cases a<;>simp [Jt] at he
  |Ca e te kp=>cases a<;>simp [Jt] at he
  |row e te=>
   cases a<;>first|(simp [Jt] at he;done)|skip
   rename_i l off len;simp only [Jt] at he;split at he
   rotate_left
   ·cases he
   rename_i hl;have hl:l=Eh true k:=Kd hl;subst hl;obtain ⟨⟨rfl,hlen⟩,hk⟩:=hk;obtain ⟨b,sz,n,h1,h2,h3,h4⟩:=hr.1;have Aax:=hs k (by rw [h1];simp);simp only [Ph] at ho;split at ho
   ·rename_i x1 x2 q1 q2;simp only [Aa] at ho;subst ho;obtain ⟨bv,g1,g2,g3⟩:=Zw hs r (k+1) vs us bc x2 hr.2 he hk q2;refine ⟨bv,g1,by simpa [uY] using g2,λtl=>?_⟩;refine ⟨?_,g3 tl⟩;simp only [qI] at q1;split at q1
    ·rename_i fr tr e' Rx xs Mr;split at q1
     ·rename_i hc;obtain ⟨rfl,rfl⟩:=hc;simp only [Aa] at q1;subst q1;unfold St.at at Mr hlen;rw [Mr] at hlen;rw [h1] at Mr;cases Mr;simp only [OB.row,Aa,Ag] at h2;obtain ⟨rfl,rfl⟩:=h2;have hlen:len=List.length xs:=hlen;have:=rm Aax h4;rw [hlen] at this;have e0:(π0 (Eh true k)).map full=(π0 (Eh true k)).map full:=rfl
      cases hp:π0 (Eh true k)<;>(rw [hp] at this;exact this)
     ·cases q1
    ·cases q1
   ·cases ho
  |Hz e te=>
   cases a<;>first|(simp [Jt] at he;done)|skip
   rename_i l off len;simp only [Jt] at he;split at he
   rotate_left
   ·cases he
   rename_i hl;have hl:l=Eh true k:=Kd hl;subst hl;obtain ⟨⟨rfl,hlen⟩,hk⟩:=hk;obtain ⟨b,sz,n,h1,h2,h3,h4⟩:=hr.1;have Aax:=hs k (by rw [h1];simp);simp only [Ph] at ho;split at ho
   ·rename_i x1 x2 q1 q2;simp only [Aa] at ho;subst ho;obtain ⟨bv,g1,g2,g3⟩:=Zw hs r (k+1) vs us bc x2 hr.2 he hk q2;refine ⟨bv,g1,by simpa [uY] using g2,λtl=>?_⟩;refine ⟨?_,g3 tl⟩;simp only [qI] at q1;split at q1
    ·rename_i e' Rx xs Mr;split at q1
     ·rename_i hc;obtain ⟨rfl,rfl⟩:=hc;simp only [Aa] at q1;subst q1;unfold St.at at Mr hlen;rw [Mr] at hlen;rw [h1] at Mr;cases Mr;simp only [OB.row,Aa,Ag] at h2;obtain ⟨rfl,rfl⟩:=h2;have hlen:len=List.length xs:=hlen;have:=rm Aax h4;rw [hlen] at this
      cases hp:π0 (Eh true k)<;>(rw [hp] at this;exact this)
     ·cases q1
    ·cases q1
   ·cases ho
def As0 (s:MSpec) (g:Nat) (π:Pi):Pi:= λl=>if s.ptr.isSome=true/\l=Pq then some ⟨g,0,0,λb=>b=g,λb=>b=g⟩ else π l
def Ao7 (P:Program) (s:MSpec) (fn:Func) (x:Ins.den s.ins) (w:World) (S:Nat->Prop) (π:Pi) (g:Nat) (r:CKs.den s.outs) (o:IOs.den s.ins) (a':Act) (w':World):Prop:=
 ∃(v:Value) (Xt:List Value) (ρ:Pi),a'.defers= []/\(results fn a'.tmps).run P w'= .ok v w'/\sW s w' ρ (Xt.drop s.aV) v/\me s π w' g Xt o/\Lk w.heap.size (λb=>Wn π b\/s.gv g b) w w'/\Mu w' (l5 S π ρ) π 0 s.ins o/\Jr w' (l5 S π ρ) ρ 0 s.outs r Xt/\
  iS ρ (λb=>b<w'.heap.size/\(w.heap.size<=b\/ ∃l q,l<Bv/\π l=some q/\q.Df b))/\(∀l,(∀k,k<s.Vq->l≠Kt k)->ρ l=none)/\(∀kj∈s.keeps,EB w w' (π (Eh false kj.1)) (ρ (Kt kj.2)) (s.Gd x))
theorem Jr.ZW {D:Nat->Prop} {ρ ρ':Pi} : ∀(cs:List CK) (k:Nat) (x:CKs.den cs) (us:List Value),(∀j,k<=j->j<k+cs.length->ρ' (Kt j)=ρ (Kt j))->Jr w D ρ k cs x us->Jr w D ρ' k cs x us
 | [],_,_,[],_,h=>h
 | [],_,_,_::_,_,h=>h.elim
 |_::_,_,_,[],_,h=>h.elim
 |c::r,k,x,u::us,he,h=>⟨by rw [he k (Ap _) (by simp)];exact h.1,Jr.ZW r (k+1) x.2 us (λj hj hl=>he j (by omega) (by simp;omega)) h.2⟩
theorem yg {st:St} {n:Nat} {as:List AC} : ∀ {ks:List (Nat×Nat)},yf st n as ks-> ∀kj∈ks,∃l off len e te rows out p,as[kj.2]?=some (.own l off len)/\Ay st.heap l=some (.Ca e te rows out (some p))/\p.1=Eh false kj.1/\n<=p.2/\kj.1<1000
 | [],_,kj,hm=>by cases hm
 |(k,j)::r,h,kj,hm=>by
  simp only [yf] at h;rcases Bd.1 hm with rfl|hm
  ·obtain ⟨h,_⟩:=h;split at h
   ·rename_i l off len he;split at h
    ·rename_i e te rows out p hl;unfold St.at at hl;exact ⟨l,off,len,e,te,rows,out,p,he,hl,h.1,h.2.1,by simpa using h.2.2⟩
    ·exact h.elim
   ·exact h.elim
  ·exact yg h.2 kj hm
theorem yw {st:St} : ∀(cs:List CK) (as:List AC) (x:CKs.den cs) (ls:List Nat),Wc st cs as=some (x,ls)->as.length=cs.length
 | [],[],_,_,_=>rfl
 | [],_::_,_,_,he=>by simp [Wc] at he
 |_::_,[],_,_,he=>by simp [Wc] at he
 |c::r,a::as,x,ls,he=>by
  simp only [Wc] at he;split at he
  ·rename_i h1 h2;simp only [Aw,yw r as _ _ h2]
  ·cases he
theorem IZ {α β:Type} (f:α->Sem β): ∀(l:List α) (vs:List β),vs.length=l.length->(∀(i:Nat) a v,l[i]?=some a->vs[i]?=some v->(f a).run P w= .ok v w)->(l.mapM f).run P w= .ok vs w
 | [],[],_,_=>by simp
 | [],_::_,h,_=>by simp at h
 |_::_,[],h,_=>by simp at h
 |a::l,v::vs,h,hr=>by
  rw [List.mapM_cons];simp only [Sem.run_bind,hr 0 a v rfl rfl,Result.andThen_ok,IZ f l vs (by simpa using h) (λi a' v' ha hv=>hr (i+1) a' v' (by simpa using ha) (by simpa using hv)),Sem.run_pure]
theorem wC (hT:Ec P T) (Pn:Ky P Γ) (hm:P.follows .mixedOrders=true) {f:FuncId} {fn:Func} (hf:P.funcs[f]?=some fn) (s:MSpec) (w:World) (S:Nat->Prop) (π:Pi) (us:List Value) (x:Ins.den s.ins)
  (r:CKs.den s.outs) (o:IOs.den s.ins) (g:Nat) (nC:List Value) (Rr:pj s w g us nC) (hSg:s.ptr.isSome=true->S g) (Jq:fD w (λb=>Wn π b\/S b) π 0 s.ins x us) (js:iS π (λb=>b<w.heap.size)) (hS: ∀b,S b->b<w.heap.size/\ ¬Wn π b) (Aab: ∀l,Ay (al 0 s.ins x) l=none->π l=none) (he:Ahj T Γ s fn x λz=>z=(r,o)):
  Calls P f nC.toArray w λe w'=> ∃v Xt ρ,e= .returned v/\sW s w' ρ (Xt.drop s.aV) v/\me s π w' g Xt o/\Lk w.heap.size (λb=>Wn π b\/s.gv g b) w w'/\Mu w' (l5 S π ρ) π 0 s.ins o/\Jr w' (l5 S π ρ) ρ 0 s.outs r Xt/\
   iS ρ (λb=>b<w'.heap.size/\(w.heap.size<=b\/ ∃l q,l<Bv/\π l=some q/\q.Df b))/\(∀l,(∀k,k<s.Vq->l≠Kt k)->ρ l=none)/\(∀kj∈s.keeps,EB w w' (π (Eh false kj.1)) (ρ (Kt kj.2)) (s.Gd x)):=by
 obtain ⟨hlen,c,hb,he⟩:=he;simp only [Ak,Nv] at hlen;obtain ⟨hlen,Aad⟩:=hlen;unfold BJ at Aad;simp only [Ak] at Aad;have Apj:=Aad.1
 let rX:Pi:=As0 s g π
 let Sg:Nat->Prop:= λb=>S b/\ ¬s.gv g b
 have hvl: ∀b j,j<1000->Eh b j≠Pq:= λb j hj=>by cases b<;>(unfold Eh Pq;simp;omega)
 have zN: ∀b j,0<=j->j<0+s.ins.length->rX (Eh b j)=π (Eh b j):= λb j _ hj=>Ai λh=>hvl b j (by omega) h.2;have Aii: ∀b j,0<=j->j<0+s.ins.length->π (Eh b j)=rX (Eh b j):= λb j h1 h2=>(zN b j h1 h2).symm
 have Al9:Ay (al 0 s.ins x) Pq=none:=Bz λhn=>by
  obtain ⟨b,j,_,h2,h3⟩:=ug s.ins 0 x Pq hn;exact hvl b j (by omega) h3.symm
 have XO: ∀l q,rX l=some q->(π l=some q/\(s.ptr.isSome=true->l≠Pq))\/(s.ptr.isSome=true/\l=Pq/\q=⟨g,0,0,λb=>b=g,λb=>b=g⟩):= λl q hq=>by
  have hq:(if s.ptr.isSome=true/\l=Pq then some ⟨g,0,0,λb=>b=g,λb=>b=g⟩ else π l)=some q:=hq;split at hq
  ·rename_i hc;exact .inr ⟨hc.1,hc.2,(Bi hq).symm⟩
  ·rename_i hc;exact .inl ⟨hq,λh1 h2=>hc ⟨h1,h2⟩⟩
 have eR: ∀b,Wn rX b↔Wn π b\/s.gv g b:= λb=>by
  constructor
  ·rintro ⟨l,q,h1,h2⟩;rcases XO l q h1 with ⟨h3,_⟩|⟨h3,h4,rfl⟩
   ·exact .inl ⟨l,q,h3,h2⟩
   ·exact .inr ⟨h3,h2⟩
  ·rintro (⟨l,q,h1,h2⟩|⟨h1,rfl⟩)
   ·refine ⟨l,q,?_,h2⟩;show (if s.ptr.isSome=true/\l=Pq then _ else π l)=some q;rw [Ai]
    ·exact h1
    ·rintro ⟨_,rfl⟩;rw [Aab Pq Al9] at h1;cases h1
   ·exact ⟨Pq,⟨b,0,0,λc=>c=b,λc=>c=b⟩,Ac ⟨h1,rfl⟩,rfl⟩
 have hgS: ∀b,s.gv g b->S b:= λb ⟨h1,h2⟩=>h2▸hSg h1
 have Akk:fD w (λb=>Wn rX b\/Sg b) rX 0 s.ins x us:=fD.congr s.ins 0 x us zN (fD.Jg (λb hb=>by
  rcases hb with hb|hb
  ·rcases (eR b).1 hb with hb|hb
   ·exact .inl hb
   ·exact .inr (hgS b hb)
  ·exact .inr hb.1) s.ins 0 x us Jq)
 have Aps:iS rX (λb=>b<w.heap.size):=⟨λl q b h1 h2=>by
  rcases XO l q h1 with ⟨h3,_⟩|⟨h3,h4,rfl⟩
  ·exact js.Sb l q b h3 h2
  ·exact (hS b (hgS b ⟨h3,h2⟩)).1,λl l' q q' b h1 h2 h3 h4=>by
  rcases XO l q h1 with ⟨h5,_⟩|⟨h5,h6,rfl⟩<;>rcases XO l' q' h2 with ⟨h7,_⟩|⟨h7,h8,rfl⟩
  ·exact js.inj l l' q q' b h5 h7 h3 h4
  ·exact absurd ⟨l,q,h5,h3⟩ (hS b (hgS b ⟨h7,h4⟩)).2
  ·exact absurd ⟨l',q',h7,h4⟩ (hS b (hgS b ⟨h5,h3⟩)).2
  ·rw [h6,h8]⟩
 have Aub: ∀b,Sg b->b<w.heap.size/\ ¬Wn rX b:= λb hb=>⟨(hS b hb.1).1,λho=>((eR b).1 ho).elim (hS b hb.1).2 hb.2⟩
 have SC: ∀l,Ay (r7 s x) l=match Ay (al 0 s.ins x) l with|some b=>some b|none=>if l=Pq then s.ptr.map λp=> .var p.1 ((cf 0 s.ins x).take p.2) else none:= λl=>by
  unfold r7
  cases hp:s.ptr with
  |none=>cases Ay (al 0 s.ins x) l<;>simp
  |some p=>
   simp only;rw [qY]
   cases Ay (al 0 s.ins x) l with
   |some b=>rfl
   |none=>
    simp only [Ay,An]
    by_cases e:l=Pq
    ·rw [Ac e,Ac e.symm]
    ·rw [Ai e,Ai (λh=>e h.symm)]
 let π0:Pi:= λl=>(rX l).map full
 have un: ∀l q,π0 l=some q-> ∃q0,rX l=some q0/\q=full q0:= λl q hq=>by
  have hq:(rX l).map full=some q:=hq
  cases hp:rX l with
  |none=>rw [hp] at hq;cases hq
  |some q0=>rw [hp] at hq;exact ⟨q0,rfl,(Bi hq).symm⟩
 have Aah: ∀l b,Ay (al 0 s.ins x) l=some b->Ay (r7 s x) l=some b:= λl b hb=>by rw [SC l,hb]
 have hrc:Nn ⟨w,Sg,Wn rX,π0⟩ w π0 (r7 s x) (cf 0 s.ins x) us:=GK (λ_=>rfl) s.ins 0 x us (by omega) Akk Aah
 have Ab2:s.ptr.isSome=true->π0 Pq=some ⟨g,0,0,λb=>b=g,λb=>b=g⟩:= λhp=>by
  show (if s.ptr.isSome=true/\Pq=Pq then _ else π Pq).map full=_;rw [Ac ⟨hp,rfl⟩];rfl
 obtain ⟨g1,g2⟩:(aU s (cf 0 s.ins x)).length=nC.length/\ ∀(i:Nat) c v,(aU s (cf 0 s.ins x))[i]?=some c->nC[i]?=some v->Bx ⟨w,Sg,Wn rX,π0⟩ w π0 (r7 s x) c v:=by
  unfold pj at Rr
  cases hp:s.ptr with
  |none=>
   rw [hp] at Rr;obtain ⟨rfl,sG⟩:=Rr;obtain ⟨g1,g2,_,_⟩:=eN s.Mq _ us sG hrc;rw [show aU s (cf 0 s.ins x)=Tv s.Mq (cf 0 s.ins x) by unfold aU;rw [hp]];exact ⟨g1,g2⟩
  |some p=>
   rw [hp] at Rr;obtain ⟨rfl,sG,_⟩:=Rr;obtain ⟨g1,g2,_,_⟩:=eN s.Mq _ (us.drop p.2) sG (Nn.take p.2 hrc).2;rw [show aU s (cf 0 s.ins x)= .at (.Hs Pq 0)::Tv s.Mq ((cf 0 s.ins x).drop p.2) by unfold aU;rw [hp]];refine ⟨by simp [g1],λi c v h1 h2=>?_⟩;rcases i with _|i
   ·simp only [Cf,Aa] at h1 h2;subst h1;subst h2;exact ⟨_,p.1,(cf 0 s.ins x).take p.2,by rw [SC,Al9];simp [hp],Ab2 (by rw [hp];rfl),rfl⟩
   ·exact g2 i c v (by simpa using h1) (by simpa using h2)
 have h0:Rel ⟨w,Sg,Wn rX,π0⟩ {tmps:=aU s (cf 0 s.ins x)++List.replicate (fn.ntmps-(aU s (cf 0 s.ins x)).length) .undef,heap:=r7 s x}
   {tmps:=nC.toArray++Array.replicate (fn.ntmps-nC.toArray.size) undef,defers:= []} w:=by
  refine ⟨π0,⟨Lk.refl _ _ _,λb hb=>Aub b hb,λl q b h1 h2=>?_,λl q b h1 h2=>?_,λl l' q q' b h1 h2 h3 h4=>?_,λl _ _=>bP.rfl' _,λl=>?_⟩,⟨by simp [g1],rfl,λt=>?_⟩⟩
  ·obtain ⟨q0,_,rfl⟩:=un l q h1;exact h2
  ·obtain ⟨q0,h3,rfl⟩:=un l q h1;exact ⟨.inr ⟨l,q0,h3,h2⟩,Aps.Sb l q0 b h3 h2⟩
  ·obtain ⟨q0,h5,rfl⟩:=un l q h1;obtain ⟨q0',h6,rfl⟩:=un l' q' h2;exact Aps.inj l l' q0 q0' b h5 h6 h3 h4
  ·cases hh:Ay (al 0 s.ins x) l with
   |none=>
    by_cases hv:s.ptr.isSome=true/\l=Pq
    ·obtain ⟨hps,rfl⟩:=hv;obtain ⟨p,hp⟩:=Xs.1 hps;refine Gu.Mg (b:= .var p.1 ((cf 0 s.ins x).take p.2)) ?_ (by rw [SC,hh];simp [hp]);unfold pj at Rr;rw [hp] at Rr;obtain ⟨_,_,h1,h2,h3⟩:=Rr;rw [Ab2 hps];exact ⟨_,rfl,rfl,_,h2,Nn.to (Nn.take p.2 hrc).1 h3⟩
    ·refine Gu.Vd ?_ ?_
     ·show (if s.ptr.isSome=true/\l=Pq then _ else π l).map full=none;rw [Ai hv,Aab l hh];rfl
     ·rw [SC,hh];simp only;split
      ·rename_i e
       cases hp:s.ptr with
       |none=>rfl
       |some p=>exact absurd ⟨by rw [hp];rfl,e⟩ hv
      ·rfl
   |some b=>exact Gu.Mg (mJ (π0:=rX) (λb hb=>by
    rcases hb with ⟨l,q,h1,h2⟩|hb|⟨hb,_⟩
    ·obtain ⟨q0,h3,rfl⟩:=un l q h1;exact .inl ⟨l,q0,h3,h2⟩
    ·exact .inr hb
    ·cases hb) rfl (λ_=>rfl) s.ins 0 x us Akk l b hh) (Aah l b hh)
  ·show Bx _ w _ _ ((aU s (cf 0 s.ins x)++List.replicate _ AV.undef).getD t .undef) ((nC.toArray++Array.replicate _ undef).getD t undef)
   by_cases ht:t<nC.length
   ·rw [Al,Au (by omega),<-Al];rw [cQ,Uf (by simpa using ht)];have:=g2 t _ _ (Ad (by omega)) (Ad ht);simpa [Al,Ad ht,Ad (show t<(aU s (cf 0 s.ins x)).length by omega)] using this
   ·have:(aU s (cf 0 s.ins x)++List.replicate (fn.ntmps-(aU s (cf 0 s.ins x)).length) AV.undef).getD t .undef= .undef:=by
     rw [Al,As (by omega)];rw [Zs]
     split<;>rfl
    rw [this];trivial
 have fin: ∀(st:St) (a':Act) (w':World),ZF T s fn x st (λz=>z=(r,o))->Rel ⟨w,Sg,Wn rX,π0⟩ st a' w'->Ao7 P s fn x w S π g r o a' w':=by
  intro st a' w' si hrel;obtain ⟨cN,h'⟩:=hrel
  have Aip:Bv<=Pq:=by unfold Bv Pq;omega
  obtain ⟨bc,qX,Aww,hbc⟩: ∃bc,kR T s fn x st bc (λz=>z=(r,o))/\(s.ptr.isSome=true-> ∃b,Ay st.heap Pq=some b/\b.row=none)/\
    (Ph st 0 s.ins=some o-> ∃bv,Nn ⟨w,Sg,Wn rX,π0⟩ w' cN st.heap bc bv/\bv.length=s.aV/\ ∀tl,me s π w' g (bv++tl) o):=by
   unfold ZF at si
   cases hp:s.ptr with
   |none=>
    rw [hp] at si;exact ⟨[],si,λh=>by simp at h,λ_=>⟨[],trivial,by simp [MSpec.aV,hp],λtl=>by simp [me,hp]⟩⟩
   |some p=>
    rw [hp] at si;obtain ⟨vs,cs,h1,h2,h3,h4,h5⟩:=si;unfold St.at at h1;refine ⟨cs,h5,λ_=>⟨_,h1,rfl⟩,λzL=>?_⟩;obtain ⟨q,k1,k2,cur,k3,k4⟩:=(h'.1.heap Pq).Se h1;have hsv:bP (π0 Pq) (cN Pq):=h'.1.iM Pq Aip (by rw [h1];simp);rw [Ab2 (by rw [hp];rfl),k1] at hsv;have hqg:g=q.g:=hsv.1;obtain ⟨bv,g1,g2,g3⟩:=Zw (π0:=rX) (λk hk=>h'.1.iM _ (Nat.le_of_not_lt (bE k)) hk) s.ins 0 vs cur.toList cs o (Nn.of k4) h3 h4 zL;refine ⟨bv,g1,by rw [g2,h2];simp [MSpec.aV,hp],λtl=>?_⟩;unfold me;rw [hp];refine ⟨cur.toList,by rw [hqg];simpa using k3,λu hu=>?_,Fc.congr s.ins 0 o p.2 _ _ Aii (h2▸g3 tl)⟩;obtain ⟨i,hi,rfl⟩:=Bg.1 hu;have hl:=k4.1;obtain ⟨u',h6,h7,_⟩:=k4.2 i (vs[i]'(by omega)) (Ad _);rw [Ad hi] at h6
    rw [Bi h6];exact h7
  unfold kR at qX;split at qX
  ·exact qX.elim
  rename_i l hl;split at qX
  ·exact qX.elim
  rename_i as ml iF;split at qX
  rotate_left
  ·exact qX.elim
  rename_i r' ls o' uf qV;obtain ⟨Kg,xY,SL⟩:=qX;simp only [Ak,Nv] at Kg;obtain ⟨⟨⟨sd,Bbi⟩,Az6⟩,Apf⟩:=Kg;simp only [Ag] at SL;obtain ⟨rfl,rfl⟩:=SL;obtain ⟨bv,hbv,Aur,Aun⟩:=hbc qV;have NC:=Za sd;obtain ⟨n1,n2,n3⟩:=Ee.1 NC;obtain ⟨m1,m2,m3⟩:=Ee.1 n1;obtain ⟨vs,v1,v2,v3,v4⟩:=Zc hT h' _ _ hl;have hrs:fn.results=fn.results.toList.toArray:=Array.toArray_toList.symm
  have Wj: ∀v,(if h:vs.toArray.size=1 then vs.toArray[0] else .tuple vs.toArray)=v->(results fn a'.tmps).run P w'= .ok v w':=by
   intro v hv;rw [gx,hrs,List.mapM_toArray];simp only [map_eq_pure_bind,bind_assoc,pure_bind];simp only [Sem.run_bind,IZ (PI a'.tmps) _ vs v1 v3,Result.andThen_ok,Sem.run_pure];rw [hv]
  obtain ⟨xu,v,qm,Awu,hv,hqm⟩: ∃xu v qm,Nn ⟨w,Sg,Wn rX,π0⟩ w' cN st.heap as xu/\(results fn a'.tmps).run P w'= .ok v w'/\
    ((s.rp=none/\ml= []/\qm=none/\Acm s.Jy s.Li xu v/\dC s.Li xu)\/
     ∃tid m q,s.rp=some tid/\ml= [m]/\m<Bv/\qm=some q/\cN m=some q/\q.Df q.g/\w'.heap[q.g]?=some (.cells xu.toArray tid (0,0))/\(∀u∈xu,u.oneCell'=true)/\v= .pointer (some ⟨q.g,0,none⟩)):=by
   unfold PH at iF;split at iF
   ·rename_i LG;split at iF
    rotate_left
    ·cases iF
    rename_i hmul
    cases pf:ungroup s.Li l with
    |none=>rw [pf] at iF;cases iF
    |some as'=>
     rw [pf] at iF;simp only [An,Aa,Ag] at iF;obtain ⟨rfl,rfl⟩:=iF;obtain ⟨xu,e1,e2,e3⟩:=aE s.Li l vs as' (by omega) v4 pf
     have hv: ∃v,(results fn a'.tmps).run P w'= .ok v w'/\Acm s.Jy s.Li xu v:=by
      unfold Acm;rw [<-e1,hmul];rcases Nat.lt_or_ge 1 l.length with h1|h1
      ·have YN:Nat.blt 1 l.length=true:=by simpa using h1
       simp only [YN,Oz];refine ⟨.tuple vs.toArray,Wj _ ?_,rfl⟩;rw [dif_neg (by simp;omega)]
      ·have YN:Nat.blt 1 l.length=false:=by rw [<-Gb];simpa using h1
       simp only [YN,Dt,Uk];rcases vs with _|⟨v,_|⟨v',vs⟩⟩
       ·exact ⟨_,Wj _ (by simp;rfl), .inr rfl⟩
       ·exact ⟨v,Wj _ (by simp), .inl rfl⟩
       ·exfalso;simp only [Aw] at v1;omega
     obtain ⟨v,hv1,hv2⟩:=hv;exact ⟨xu,v,none,e3,hv1, .inl ⟨LG,rfl,rfl,hv2,e2⟩⟩
   ·rename_i tid LG;split at iF
    rotate_left
    ·cases iF
    rename_i m i;split at iF
    rotate_left
    ·cases iF
    rename_i Vt vs' hm;split at iF
    rotate_left
    ·cases iF
    rename_i hc;obtain ⟨rfl,rfl,hmp⟩:=hc;simp only [Aa,Ag] at iF;obtain ⟨rfl,rfl⟩:=iF;unfold St.at at hm;rcases vs with _|⟨v,_|⟨v',vs⟩⟩
    ·exfalso;simp only [Aw,Ex] at v1 v2;omega
    ·obtain ⟨q,Bdt,vs2,q1,q2,q3⟩:=v4 0 _ v rfl rfl;rw [hm] at q1;cases q1;obtain ⟨q',k1,k2,cur,k3,k4⟩:=(h'.1.heap m).Se hm;rw [q2] at k1;cases k1;refine ⟨cur.toList,v,some q,Nn.of k4,Wj _ (by simp), .inr ⟨_,m,q,LG,rfl,by simpa using hmp,rfl,q2,k2,by simpa using k3,λu hu=>?_,q3⟩⟩;obtain ⟨i,hi,rfl⟩:=Bg.1 hu;have hl:=k4.1;obtain ⟨u',h6,h7,_⟩:=k4.2 i (vs'[i]'(by omega)) (Ad _);rw [Ad hi] at h6;rw [Bi h6];exact h7
    ·exfalso;simp only [Aw,Ex] at v1 v2;omega
  obtain ⟨DZ,p1,p2,p3,p4,p5⟩:=yx h'.1 s.outs 0 (bc++as) (bv++xu) r' ls (hbv.append Awu) uf m2;obtain ⟨io1,io2⟩:=Vl (π0:=rX) h'.1 (λ_=>rfl) s.ins 0 x us o' Akk qV
  have Ap0:(bv++xu).drop s.aV=xu:=by rw [<-Aur];simp
  let ρ:Pi:= λl0=>if l0=Kt s.outs.length then qm else DZ l0
  have Ald:ρ (Kt s.outs.length)=qm:=Ac rfl;have Aqs: ∀l0,l0≠Kt s.outs.length->ρ l0=DZ l0:= λl0 h=>Ai h;have Aqr: ∀j,j<s.outs.length->ρ (Kt j)=DZ (Kt j):= λj hj=>Aqs _ (by unfold Kt;omega)
  have wm: ∀l0 q,ρ l0=some q->(l0=Kt s.outs.length/\qm=some q)\/(l0≠Kt s.outs.length/\DZ l0=some q):= λl0 q h=>by
   by_cases e:l0=Kt s.outs.length
   ·subst e;rw [Ald] at h;exact .inl ⟨rfl,h⟩
   ·rw [Aqs l0 e] at h;exact .inr ⟨e,h⟩
  have Apx: ∀q,qm=some q-> ∃m,ml= [m]/\m<Bv/\cN m=some q:= λq hq=>by
   rcases hqm with ⟨_,_,h1,_⟩|⟨_,m,q',_,h1,h2,h3,h4,_⟩
   ·rw [h1] at hq;cases hq
   ·rw [h3] at hq;cases hq;exact ⟨m,h1,h2,h4⟩
  have p3': ∀l0 q b,ρ l0=some q->q.Df b-> ∃l1∈ml++ls,∃p,cN l1=some p/\p.cl b/\((s.outs.all λc=>!c.isX)=true->p.Df b)/\((l1∈ls)\/l1<Bv):= λl0 q b h1 h2=>by
   rcases wm l0 q h1 with ⟨_,h3⟩|⟨_,h3⟩
   ·obtain ⟨m,e1,e2,e3⟩:=Apx q h3;exact ⟨m,by rw [e1];simp,q,e3,h'.1.sub m q b e3 h2,λ_=>h2, .inr e2⟩
   ·obtain ⟨l1,g1,p,g2,g3,g4⟩:=p3 l0 q b h3 h2;exact ⟨l1,Cm _ g1,p,g2,g3,g4, .inl g1⟩
  have p4': ∀l0 l1 q q' b,ρ l0=some q->ρ l1=some q'->q.Df b->q'.Df b->l0=l1:= λl0 l1 q q' b h1 h2 h3 h4=>by
   have FC: ∀l0 q q' b,DZ l0=some q->qm=some q'->q.Df b->q'.Df b->False:= λl0 q q' b h1 h2 h3 h4=>by
    obtain ⟨m,e1,e2,e3⟩:=Apx q' h2;obtain ⟨l1,g1,p,g2,g3,_⟩:=p3 l0 q b h1 h3;have:=h'.1.inj m l1 q' p b e3 g2 (h'.1.sub m q' b e3 h4) g3;exact m3 m (by rw [e1];simp) l1 g1 this
   rcases wm l0 q h1 with ⟨e1,h5⟩|⟨e1,h5⟩<;>rcases wm l1 q' h2 with ⟨e2,h6⟩|⟨e2,h6⟩
   ·rw [e1,e2]
   ·exact (FC l1 q' q b h6 h5 h4 h3).elim
   ·exact (FC l0 q q' b h5 h6 h3 h4).elim
   ·exact p4 l0 l1 q q' b h5 h6 h3 h4
  have SJ: ∀l0 q,Bv<=l0->rX l0=some q->Ay st.heap l0≠none/\(l0∈Qf 0 s.ins\/ ∃b,Ay st.heap l0=some b/\b.row=none):= λl0 q h1 h2=>by
   rcases XO l0 q h2 with ⟨h3,_⟩|⟨h3,rfl,_⟩
   ·have zL:=yd s.ins 0 x l0 Apj (by omega) (λhnn=>by rw [Aab l0 hnn] at h3;cases h3) (by omega);exact ⟨io2 l0 zL, .inl zL⟩
   ·obtain ⟨b,h4,h5⟩:=Aww h3;exact ⟨by rw [h4];simp, .inr ⟨b,h4,h5⟩⟩
  have hDO:(s.outs.all λc=>!c.isX)=true-> ∀b,l5 Sg rX ρ b->Wn cN b\/Sg b:=by
   intro hx b hb;rcases hb with hb|⟨l0,q,h1,h2,h3⟩|⟨l0,q,h1,h2⟩
   ·exact .inr hb
   ·have hs:=h'.1.iM l0 h1 (SJ l0 q h1 h2).1;have hs:bP ((rX l0).map full) (cN l0):=hs;rw [h2] at hs
    cases xZ:cN l0 with
    |none=>rw [xZ] at hs;exact hs.elim
    |some q1=>rw [xZ] at hs;exact .inl ⟨l0,q1,xZ,(hs.2.2.2 b).1 h3⟩
   ·obtain ⟨m,_,p,hm2,_,hm4,_⟩:=p3' l0 q b h1 h2;exact .inl ⟨m,p,hm2,hm4 hx⟩
  have hDD: ∀b,l5 S π ρ b->l5 Sg rX ρ b:= λb hb=>by
   rcases hb with hb|⟨l0,q,h1,h2,h3⟩|hb
   ·by_cases YQ:s.gv g b
    ·obtain ⟨hps,rfl⟩:=YQ;exact .inr (.inl ⟨Pq,_,Aip,Ac ⟨hps,rfl⟩,rfl⟩)
    ·exact .inl ⟨hb,YQ⟩
   ·refine .inr (.inl ⟨l0,q,h1,?_,h3⟩);show (if s.ptr.isSome=true/\l0=Pq then _ else π l0)=some q;rw [Ai]
    ·exact h2
    ·rintro ⟨_,rfl⟩;rw [Aab Pq Al9] at h2;cases h2
   ·exact .inr (.inr hb)
  have YP:s.flat=true\/(s.outs.all λc=>!c.isX)=true:=by unfold MSpec.Abp at Apf;simpa only [Kx] using Apf
  have io1:Mu w' (l5 S π ρ) π 0 s.ins o':=by
   refine Mu.congr s.ins 0 o' Aii ?_;rcases YP with hf|hf
   ·unfold MSpec.flat at hf;simp only [Ak] at hf;exact Mu.any s.ins 0 o' hf.2 io1
   ·exact Mu.Jg (λb hb=>hDO hf b (hDD b hb)) s.ins 0 o' io1
  have p1:Jr w' (l5 S π ρ) ρ 0 s.outs r' (bv++xu):=by
   have p1:Jr w' (λb=>Wn cN b\/Sg b) ρ 0 s.outs r' (bv++xu):=Jr.ZW s.outs 0 r' _ (λj _ hj=>Aqr j (by omega)) p1;rcases YP with hf|hf
   ·unfold MSpec.flat at hf;simp only [Ak] at hf;exact Jr.any s.outs 0 r' (bv++xu) hf.1 p1
   ·exact Jr.Jg (λb hb=>hDO hf b (hDD b hb)) s.outs 0 r' (bv++xu) p1
  refine ⟨v,bv++xu,ρ,h'.2.defers,hv,?_,Aun xu,⟨h'.1.below.os,h'.1.below.tape,h'.1.below.output,h'.1.below.size,λk hk hn=>h'.1.below.block k hk λho=>hn ((eR k).1 ho)⟩,io1,p1,⟨λl0 q b h1 h2=>?_,p4'⟩,λl0 hl0=>?_,λkj ua=>?_⟩
  ·rw [Ap0];unfold sW;rcases hqm with ⟨h1,_,_,h2⟩|⟨tid,m,q,h1,_,_,h3,_,h4,h5,h6,h7⟩
   ·rw [h1];exact h2
   ·rw [h1];exact ⟨q,by rw [Ald,h3],h4,h5,h6,h7⟩
  ·obtain ⟨m,hm1,p,hm2,YT,_,hm4⟩:=p3' l0 q b h1 h2;obtain ⟨k1,k2⟩:=h'.1.place m p b hm2 YT;refine ⟨k2,k1.imp id λ⟨c0,q0,h5,h6⟩=>?_⟩
   have Kr:c0<Bv:=Bz λhn=>by
    obtain ⟨Ii,zL⟩:=SJ c0 q0 (by omega) h5;have hs:=h'.1.iM c0 (by omega) Ii;have hs:bP ((rX c0).map full) (cN c0):=hs;rw [h5] at hs
    cases xZ:cN c0 with
    |none=>rw [xZ] at hs;exact hs.elim
    |some q1=>
     rw [xZ] at hs;have hf1:q1.Df b:=(hs.2.2.2 b).1 h6;have:=h'.1.inj c0 m q1 p b xZ hm2 (h'.1.sub c0 q1 b xZ hf1) YT;subst this;rcases hm4 with hm4|hm4
     ·rcases zL with zL|⟨b1,YN,hb2⟩
      ·exact n3 c0 hm1 c0 zL rfl
      ·obtain ⟨b2,hb3,hb4⟩:=uK s.outs _ _ _ uf c0 hm4;rw [YN] at hb3;cases hb3;exact hb4 hb2
     ·exact hn hm4
   refine ⟨c0,q0,Kr,?_,h6⟩;rcases XO c0 q0 h5 with ⟨h7,_⟩|⟨_,h7,_⟩
   ·exact h7
   ·omega
  ·cases hp:ρ l0 with
   |none=>rfl
   |some q=>
    rcases wm l0 q hp with ⟨e,h3⟩|⟨_,h3⟩
    ·refine absurd e (hl0 _ ?_);rcases hqm with ⟨_,_,h4,_⟩|⟨tid,m,q',h4,_⟩
     ·rw [h4] at h3;cases h3
     ·unfold MSpec.Vq;rw [h4];simp
    ·obtain ⟨j,_,j2,j3⟩:=p2 l0 q h3;exact absurd j3 (hl0 j (by unfold MSpec.Vq;omega))
  ·obtain ⟨l0,off,len,e,te,rows,out,p,q1,q2,q3,q4,q5⟩:=yg xY kj ua
   have hj:kj.2<s.outs.length:=by
    rw [<-yw s.outs _ _ _ uf];exact (Ao.1 q1).1
   have e1:=p5 kj.2 l0 off len e te rows out (some p) q1 q2;rw [Bl] at e1;rw [Aqr _ hj,e1];have hk:=((h'.1.heap l0).Se q2).2;obtain ⟨l1,n1⟩:=p;simp only [KeptAt] at hk;dsimp only at q3 q4;subst q3
   have NG:π0 (Eh false kj.1)=(π (Eh false kj.1)).map full:=by
    show (if s.ptr.isSome=true/\Eh false kj.1=Pq then _ else π (Eh false kj.1)).map full=_;rw [Ai λh=>hvl false kj.1 q5 h.2]
   rw [NG] at hk;unfold EB
   cases hp:π (Eh false kj.1) with
   |none=>
    rw [hp] at hk
    cases xZ:cN l0 with
    |none=>trivial
    |some q=>rw [xZ] at hk;exact hk.elim
   |some q0=>
    rw [hp] at hk
    cases xZ:cN l0 with
    |none=>rw [xZ] at hk;exact hk.elim
    |some q=>
     rw [xZ] at hk;obtain ⟨k1,k2,k3,k4⟩:=hk;exact ⟨k1,k2,k3,λj hj hc=>k4 j (by omega) hc⟩
 refine calls_of_wp hf hb ?_;refine (ve hT Pn hm he _ w _ h0 λe st a' w' ⟨Ii,si⟩ h'=>?_).1;obtain ⟨v,Xt,ρ,p1,p2,p3⟩:=fin st a' w' si h'
 cases e with
 |normal=>exact ⟨p1,v,p2,v,Xt,ρ,rfl,p3⟩
 |ret=>exact ⟨p1,v,p2,v,Xt,ρ,rfl,p3⟩
 |exit id=>exact absurd rfl (Ii id)
end
end Go.Proofs.Ytfgfigkbgecfnaa
