/-
  Part 27 of the proof that the statement FnExactIterationNodes holds.
-/
import Derived.Test.YtfolipnappekaaaGreatCIterationNodes25
namespace Go.Proofs.YtfolipnappekaaaGreat
open Go.RowKit
section
variable {P:Program} {T:Tab} {Γ:Env} {X:Ctx} {w w':World} {π:Pi} {H:List (Nat×OB)}
theorem uw: ∀(cs:List (Bool×CK)) (k:Nat) (x:Ins.den cs) (l:Nat),Au (a7 k cs x) l≠none-> ∃b j,k<=j/\j<k+cs.length/\l=Ds b j
 | [],_,_,_,h=>absurd rfl h
 |p::r,k,x,l,h=>by
  simp only [a7] at h
  by_cases e:l=Ds p.1 k
  ·exact ⟨p.1,k,Ao _,by simp,e⟩
  ·have:Au (a7 (k+1) r x.2) l≠none:=by
    cases hc:kQ (Ds p.1 k) p.2 x.1 with
    |none=>rw [hc] at h;exact h
    |some b=>rw [hc] at h;simpa only [iA,Au,Ag (Gf e)] using h
   obtain ⟨b,j,h1,h2,h3⟩:=uw r (k+1) x.2 l this
   exact ⟨b,j,by omega,by simp;omega,h3⟩
theorem VF {p:Bool×CK} {r:List (Bool×CK)} {k:Nat} {x:Ins.den (p::r)} (hk:k+(r.length+1)<100000) {l:Nat} {b:OB} (h:Au (a7 (k+1) r x.2) l=some b):Au (a7 k (p::r) x) l=some b:=by
 obtain ⟨b',j,h1,h2,rfl⟩:=uw r (k+1) x.2 l (by rw [h];simp)
 simp only [a7]
 cases kQ (Ds p.1 k) p.2 x.1 with
 |none=>exact h
 |some c=>simp only [iA,Au];rw [Ag (TK (by omega) (by omega) (by omega))];exact h
theorem ZQ {D:Nat->Prop} (hD: ∀b,Dc X.w0.heap.size X.Sc π false b->D b) (hw0:X.w0=w) {l:Nat} {r:Option Real} (a6:X.ia l=r.map full) {u:Value} {c:CK} {x:c.den} (h:eP w D r u c x) {b:OB} (hb:kQ l c x=some b):Cj X w π H (r.map full) b:=by
 have Zx: ∀ {e:Ty} {es:List Value} {y:e.den},Cells w D e es y->Cells w (Dc X.w0.heap.size X.Sc π false) e es y:= λ {e es y} h=>Cells.Ex (Ao _) (λ_ _ _=>rfl) (λb _ hb=>hD b hb) e es y h
 cases c with
 |Fm τ=>cases hb
 |row e te=>
  simp only [kQ,Aa] at hb;subst hb
  obtain ⟨_,h⟩:=h
  simp only [gi] at h
  simp only [Cj,Jw]
  cases r with
  |none=>exact h
  |some q=>
   obtain ⟨k1,cu,ti,k2,k3,k4,k5,k6⟩:=h
   exact ⟨⟨k1.1,k1.2,λh=>by cases h⟩,cu,ti,k2,k3,k4,k5,λi y hy=>by
    obtain ⟨es,g1,g2,g3⟩:=k6 i y hy
    exact ⟨es,g1,g2,Zx g3⟩,λh=>by cases h⟩
 |Hk e te=>
  simp only [kQ,Aa] at hb;subst hb
  cases r<;>exact h.2
 |part e te=>
  simp only [kQ,Aa] at hb;subst hb
  obtain ⟨_,hf,h⟩:=h
  simp only [Cj,Jw]
  cases r with
  |none=>exact h
  |some q=>
   obtain ⟨k1,cu,ti,k2,k3,k4,k5,k6⟩:=h
   exact ⟨⟨k1.1,k1.2,λh=>by cases h⟩,cu,ti,k2,k3,k4,k5,λi y hy=>by
    obtain ⟨es,g1,g2,g3⟩:=k6 i y hy
    exact ⟨es,g1,g2,Zx g3⟩,λh=>by cases h⟩
 |Bm e te kp=>
  simp only [kQ,Aa] at hb;subst hb
  have h2:aI w D r e x none:=h.2
  have h3:=aI.Im h2 hD
  refine ⟨by cases r<;>exact h3,?_⟩
  cases kp with
  |false=>trivial
  |true=>
   simp only [Pn,KeptAt]
   rw [a6]
   cases r with
   |none=>trivial
   |some q=>exact ⟨rfl,rfl,rfl,λj _ _=>by rw [hw0]⟩
theorem mn {D:Nat->Prop} (hD: ∀b,Dc X.w0.heap.size X.Sc π false b->D b) (hw0:X.w0=w) {π0:Pi} (a6: ∀l,X.ia l=(π0 l).map full): ∀(cs:List (Bool×CK)) (k:Nat) (x:Ins.den cs) (us:List Value),eR w D π0 k cs x us-> ∀l b,Au (a7 k cs x) l=some b->Cj X w π H ((π0 l).map full) b
 | [],_,_,_,_,_,_,h=>by cases h
 |_::_,_,_,[],h,_,_,_=>h.elim
 |p::r,k,x,u::us,h,l,b,hb=>by
  simp only [a7] at hb
  cases hc:kQ (Ds p.1 k) p.2 x.1 with
  |none=>rw [hc] at hb;exact mn hD hw0 a6 r (k+1) x.2 us h.2 l b hb
  |some c=>
   rw [hc] at hb
   simp only [iA,Au] at hb
   split at hb
   ·rename_i e;subst e
    simp only [Aa] at hb;subst hb
    exact ZQ hD hw0 (a6 _) h.1 hc
   ·exact mn hD hw0 a6 r (k+1) x.2 us h.2 l b hb
theorem GS {S:Nat->Prop} {π0:Pi} {gv:Nat->Prop} {ia:Pi} (a5: ∀l,π l=(π0 l).map full): ∀(cs:List (Bool×CK)) (k:Nat) (x:Ins.den cs) (us:List Value),k+cs.length<100000->eR w (λb=>Uf π0 b\/S b) π0 k cs x us->(∀l b,Au (a7 k cs x) l=some b->Au H l=some b)->
  My ⟨w,S,gv,ia⟩ w π H (c7 k cs x) us
 | [],_,_,[],_,_,_=>trivial
 | [],_,_,_::_,_,h,_=>h.elim
 |_::_,_,_,[],_,h,_=>h.elim
 |p::r,k,x,u::us,hk,h,hH=>by
  simp only [Az] at hk
  refine ⟨?_,GS a5 r (k+1) x.2 us (by omega) h.2 λl b hb=>hH l b (VF hk hb)⟩
  have h1:=h.1
  have hh: ∀b,kQ (Ds p.1 k) p.2 x.1=some b->Au H (Ds p.1 k)=some b:= λb hb=>hH _ b (by simp only [a7];rw [hb];simp [iA,Au])
  have km:=a5 (Ds p.1 k)
  obtain ⟨io,c⟩:=p
  dsimp only at h1 hh km⊢
  generalize x.1=y at*
  cases c with
  |Fm τ=>
   show Ct w _ τ u y
   cases hf:τ.flat with
   |true=>exact Ct.flat hf h1.2
   |false=>
    refine h1.2.Im λb _ hb=>?_
    rcases hb with ⟨l,q,h3,h4⟩|hb|⟨hb,_⟩
    ·rw [a5 l] at h3
     cases hp:π0 l with
     |none=>rw [hp] at h3;cases h3
     |some q0=>rw [hp] at h3;simp only [Am,Aa] at h3;subst h3;exact .inl ⟨l,q0,hp,h4⟩
    ·exact .inr hb
    ·cases hb
  |row e te=>exact ⟨_,e.size,List.length y,hh _ rfl,rfl,by simp,by rw [km];exact aj h1.1⟩
  |Hk e te=>exact ⟨_,e.size,List.length y,hh _ rfl,rfl,by simp,by rw [km];exact aj h1.1⟩
  |part e te=>exact ⟨_,e.size,List.length y.1,hh _ rfl,rfl,h1.1.2,by rw [km];exact aj h1.1.1⟩
  |Bm e te kp=>exact ⟨_,1,List.length y,hh _ rfl,rfl,by simp,by rw [km];exact aj h1.1⟩
theorem pP {p:Real} {s off len:Nat} {u:Value} {f:Nat->Prop} (h:Hw (some p) s off len u):Hw (some ⟨p.g,p.o+off,p.cap-off,f,f⟩) s 0 len u:=by
 obtain ⟨ad,h1,h2,h3⟩:=h
 exact ⟨ad,h1,by dsimp only;omega,λh0=>by dsimp only at h0;simpa using h3 (by omega)⟩
theorem uY {α:Type} {xs:List α} {off len i:Nat} {x:α} (h:((xs.drop off).take len)[i]?=some x):xs[off+i]?=some x:=by
 rw [Cx] at h
 split at h
 ·rw [Cw] at h;exact h
 ·cases h
theorem Xr.part {P:Nat->Prop} {g o:Nat} {cur:Array Value} {e:Ty} {xs:List e.den} (off len:Nat) (h:Xr w P g o cur e xs):Xr w P g (o+off) cur e ((xs.drop off).take len):=by
 obtain ⟨Fs,t1,t2,t3,t4⟩:=h
 refine ⟨(Fs.drop off).take len,by simp [t1],Cd.2 ⟨λhm=>(Cd.1 t2).1 (Sm off len _ hm),mD off len (Cd.1 t2).2⟩,λb hb=>t3 b (Sm off len b hb),λi x F hx hF=>?_⟩
 obtain ⟨es,k1,k2,k3⟩:=t4 (off+i) x F (uY hx) (uY hF)
 exact ⟨es,k1,λj u hu=>by rw [Gq o off i];exact k2 j u hu,k3⟩
theorem VS {st:St} (h:Mx X w π st.heap) {c:CK} (hg: ∀e te kp,c≠ .Bm e te kp) {a:AC} {u:Value} (hu:Hm X w π st.heap a u) {x:c.den} {ls:List Nat} (he:kV st c a=some (x,ls)):
  ∃r,eP w (λb=>Uf π b\/X.Sc b) r u c x/\ ∀q,r=some q-> ∃l p,ls= [l]/\π l=some p/\(∀b,q.Cu b->p.cl b)/\(c.isX=false-> ∀b,q.Cu b->p.Cu b):=by
 have SH: ∀ {f:Bool} (b:Nat),(Uf π b\/X.Sc b)->Dc X.w0.heap.size X.Sc π f b:= λb h=>h.imp id .inl
 cases c with
 |Fm τ=>
  simp only [kV] at he
  split at he
  ·rename_i hf
   cases hv:Du st τ a with
   |none=>rw [hv] at he;cases he
   |some p=>
    obtain ⟨fr,y⟩:=p
    rw [hv] at he
    simp only [Am,Aa,Ad] at he
    obtain ⟨rfl,rfl⟩:=he
    refine ⟨none,⟨rfl,?_⟩,λq hq=>by cases hq⟩
    have Im: ∀f,Ct w (Dc X.w0.heap.size X.Sc π f) τ u y->Ct w (λb=>Uf π b\/X.Sc b) τ u y:= λf hr=>hr.Im λk _ hk=>SH k hk
    cases a with
    |data f Oh z=>
     rw [Nw] at hv
     split at hv
     ·rename_i ht;subst ht
      simp only [Aa,Ad] at hv
      obtain ⟨_,rfl⟩:=hv
      exact Im f hu
     ·have Ts:τ.Aq=false:=by unfold iC at hv;split at hv<;>first|rfl|cases hv
      exact Im _ ⟨[u],dt hv hu,by simp [Cf,Ts]⟩
    |Lr=>
     have hu:u= .slice none 0 0:=hu
     subst hu
     cases τ<;>simp only [Du,Aa,Ad,reduceCtorEq] at hv
     ·obtain ⟨_,rfl⟩:=hv;exact ⟨[_],⟨none,0,0,rfl,rfl,Ao _, .inl rfl⟩,rfl⟩
     ·obtain ⟨_,rfl⟩:=hv;exact ⟨[_], .inl ⟨rfl,0,rfl⟩,rfl⟩
    |Vu=>
     have hu:u= .pointer none:=hu
     subst hu
     cases τ<;>simp only [Du,Aa,Ad,reduceCtorEq] at hv
     obtain ⟨_,rfl⟩:=hv;exact ⟨[_], .inl ⟨rfl,rfl⟩,rfl⟩
    |_=>cases τ<;>simp [AC.settled,Ty.flat,Du] at hf hv
  ·cases he
 |row e te=>
  cases a<;>simp only [kV] at he<;>try (cases he;done)
  ·simp only [Aa,Ad] at he
   obtain ⟨rfl,rfl⟩:=he
   have hu:u= .slice none 0 0:=hu
   exact ⟨none,⟨⟨hu,rfl,rfl⟩,rfl⟩,λq hq=>by cases hq⟩
  ·rename_i l off len
   split at he
   ·rename_i fr tr e' Rf xs hl
    split at he
    ·rename_i hc
     obtain ⟨rfl,rfl⟩:=hc
     simp only [Aa,Ad] at he
     obtain ⟨rfl,rfl⟩:=he
     unfold St.at at hl
     obtain ⟨h1,h2⟩:=On hu hl
     have hb:=(h.heap l).Qm hl
     simp only [Cj,Jw] at hb
     have hlen:((xs.drop off).take len).length=len:=by simp;omega
     cases hp:π l with
     |none=>
      rw [hp] at h2 hb
      obtain ⟨rfl,rfl,rfl⟩:=h2
      exact ⟨none,⟨⟨rfl,rfl,by simp⟩,by show (xs.drop 0).take 0= [];simp⟩,λq hq=>by cases hq⟩
     |some p=>
      rw [hp] at h2 hb
      obtain ⟨k1,cur,ti,k2,k3,k4,k5,k6,_⟩:=hb
      have ho:=h2
      obtain ⟨ad,_,ug,_⟩:=h2
      refine ⟨some ⟨p.g,p.o+off,p.cap-off,p.Cu,p.Cu⟩,⟨by rw [hlen];exact pP ho,⟨k1.1,k1.2.1⟩,cur,ti,k2,by rw [k3];congr 1;dsimp only;omega,by dsimp only;omega,by rw [hlen];dsimp only;omega,λi y hy=>?_⟩,
       fun q hq=>by cases hq;exact ⟨l,p,rfl,hp,λb hb=>h.sub l p b hp hb,λ_ b hb=>hb⟩⟩
      obtain ⟨es,g1,g2,g3⟩:=k6 (off+i) y (uY hy)
      exact ⟨es,g1,λj u hu=>by dsimp only;rw [Gq p.o off i];exact g2 j u hu,Cells.Ex (Ao _) (λ_ _ _=>rfl) (λb _ hb=>SH b hb) e' es y g3⟩
    ·cases he
   ·cases he
 |Hk e te=>
  cases a<;>simp only [kV] at he<;>try (cases he;done)
  ·simp only [Aa,Ad] at he
   obtain ⟨rfl,rfl⟩:=he
   have hu:u= .slice none 0 0:=hu
   exact ⟨none,⟨⟨hu,rfl,rfl⟩,rfl⟩,λq hq=>by cases hq⟩
  ·rename_i l off len
   split at he
   ·rename_i fr tr e' Rf xs hl
    split at he
    ·rename_i hc
     obtain ⟨rfl,rfl,hf⟩:=hc
     simp only [Aa,Ad] at he
     obtain ⟨rfl,rfl⟩:=he
     unfold St.at at hl
     obtain ⟨h1,h2⟩:=On hu hl
     have hb:=(h.heap l).Qm hl
     simp only [Cj,Jw] at hb
     have hlen:((xs.drop off).take len).length=len:=by simp;omega
     cases hp:π l with
     |none=>
      rw [hp] at h2 hb
      obtain ⟨rfl,rfl,rfl⟩:=h2
      exact ⟨none,⟨⟨rfl,rfl,by simp⟩,by show (xs.drop 0).take 0= [];simp⟩,λq hq=>by cases hq⟩
     |some p=>
      rw [hp] at h2 hb
      obtain ⟨k1,cur,ti,k2,k3,k4,k5,k6,k7⟩:=hb
      have ho:=h2
      obtain ⟨ad,_,ug,_⟩:=h2
      have ht:Xr w p.cl p.g p.o cur e' xs:=by
       simp only [Kb] at hf
       rcases hf with hf|hf
       ·exact k7 hf
       ·exact nC hf k6
      exact ⟨some ⟨p.g,p.o+off,p.cap-off,p.cl,p.cl⟩,⟨by rw [hlen];exact pP ho,h.sub l p _ hp k1.1,cur,ti,k2,by rw [k3];congr 1;dsimp only;omega,by dsimp only;omega,by rw [hlen];dsimp only;omega,ht.part off len⟩,
       fun q hq=>by cases hq;exact ⟨l,p,rfl,hp,λb hb=>hb,λhx=>by cases hx⟩⟩
    ·cases he
   ·rename_i e' Rf xs hl
    split at he
    ·rename_i hc
     obtain ⟨rfl,rfl⟩:=hc
     simp only [Aa,Ad] at he
     obtain ⟨rfl,rfl⟩:=he
     unfold St.at at hl
     obtain ⟨h1,h2⟩:=ck hu hl
     have hb:=(h.heap l).Qm hl
     simp only [Cj,Ny] at hb
     have hlen:((xs.drop off).take len).length=len:=by simp;omega
     cases hp:π l with
     |none=>
      rw [hp] at h2 hb
      obtain ⟨rfl,rfl,rfl⟩:=h2
      exact ⟨none,⟨⟨rfl,rfl,by simp⟩,by show (xs.drop 0).take 0= [];simp⟩,λq hq=>by cases hq⟩
     |some p=>
      rw [hp] at h2 hb
      obtain ⟨k1,cur,ti,k2,k3,k4,k5,ht⟩:=hb
      have ho:=h2
      obtain ⟨ad,_,ug,_⟩:=h2
      exact ⟨some ⟨p.g,p.o+off,p.cap-off,p.Cu,p.Cu⟩,⟨by rw [hlen];exact pP ho,k1,cur,ti,k2,by rw [k3];congr 1;dsimp only;omega,by dsimp only;omega,by rw [hlen];dsimp only;omega,ht.part off len⟩,
       fun q hq=>by cases hq;exact ⟨l,p,rfl,hp,λb hb=>h.sub l p b hp hb,λ_ b hb=>hb⟩⟩
    ·cases he
   ·cases he
 |part e te=>cases a<;>simp [kV] at he
 |Bm e te kp=>exact absurd rfl (hg e te kp)
theorem Abr {st:St} (h:Mx X w π st.heap) {c:CK} {a:AC} {u:Value} (hu:Hm X w π st.heap a u) {x:c.den} {ls:List Nat} (he:kV st c a=some (x,ls)):
  ∃r,eP w (λb=>Uf π b\/X.Sc b) r u c x/\(∀q,r=some q-> ∃l p,ls= [l]/\π l=some p/\(∀b,q.Cu b->p.cl b)/\(c.isX=false-> ∀b,q.Cu b->p.Cu b))/\
   (∀l off len e te rows out kp,a= .own l off len->Au st.heap l=some (.Bm e te rows out kp)->r=π l):=by
 have wF:(∀e te kp,c≠ .Bm e te kp)->(∀l off len e te rows out kp,a=AC.own l off len->Au st.heap l=some (OB.Bm e te rows out kp)->False)->
   ∃r,eP w (λb=>Uf π b\/X.Sc b) r u c x/\(∀q,r=some q-> ∃l p,ls= [l]/\π l=some p/\(∀b,q.Cu b->p.cl b)/\(c.isX=false-> ∀b,q.Cu b->p.Cu b))/\
   (∀l off len e te rows out kp,a= .own l off len->Au st.heap l=some (.Bm e te rows out kp)->r=π l):= λh1 h2=>by
  obtain ⟨r,g1,g2⟩:=VS h h1 hu he
  exact ⟨r,g1,g2,λl off len e te rows out kp h3 h4=>(h2 l off len e te rows out kp h3 h4).elim⟩
 cases c with
 |Fm τ=>
  refine wF (λ_ _ _ h=>by cases h) λl off len e te rows out kp h3 h4=>?_
  subst h3
  simp only [kV] at he
  split at he
  ·rename_i hf
   cases τ<;>simp [AC.settled,Ty.flat,Du] at hf he
  ·cases he
 |row e te=>
  refine wF (λ_ _ _ h=>by cases h) λl off len e te rows out kp h3 h4=>?_
  subst h3
  simp only [kV,St.at,h4] at he
  cases he
 |Hk e te=>
  refine wF (λ_ _ _ h=>by cases h) λl off len e te rows out kp h3 h4=>?_
  subst h3
  simp only [kV,St.at,h4] at he
  cases he
 |part e te=>cases a<;>simp [kV] at he
 |Bm e te kp=>
  cases a<;>simp only [kV] at he<;>try (cases he;done)
  rename_i l off len
  split at he
  ·rename_i e' Rf rows kp' hl
   split at he
   ·rename_i hc
    obtain ⟨rfl,rfl,rfl,rfl⟩:=hc
    simp only [Aa,Ad] at he
    obtain ⟨rfl,rfl⟩:=he
    unfold St.at at hl
    obtain ⟨b,sz,n,h1,h2,_,h3⟩:=hu
    rw [hl] at h1;cases h1
    simp only [OB.row,Aa,Ad] at h2
    obtain ⟨rfl,rfl⟩:=h2
    have hb:=((h.heap l).Qm hl).1
    refine ⟨π l,⟨h3,aI.Im hb λb hb=>hb.imp id .inl⟩,λq hq=>⟨l,q,rfl,hq,λb hb=>h.sub l q b hq hb,λ_ b hb=>hb⟩,λl' Bab Ba4 _ _ _ _ _ he _=>?_⟩
    simp only [AC.own.injEq] at he
    rw [he.1]
   ·cases he
  ·cases he
theorem Jb.congr {D:Nat->Prop} {ρ ρ':Pi} : ∀(cs:List CK) (k:Nat) (x:CKs.den cs) (us:List Value),(∀j,k<=j->ρ' (Jp j)=ρ (Jp j))->Jb w D ρ k cs x us->Jb w D ρ' k cs x us
 | [],_,_,[],_,h=>h
 | [],_,_,_::_,_,h=>h.elim
 |_::_,_,_,[],_,h=>h.elim
 |c::r,k,x,u::us,he,h=>⟨by rw [he k (Ao _)];exact h.1,Jb.congr r (k+1) x.2 us (λj hj=>he j (by omega)) h.2⟩
theorem yW {st:St} (h:Mx X w π st.heap): ∀(cs:List CK) (k:Nat) (as:List AC) (us:List Value) (x:CKs.den cs) (ls:List Nat),My X w π st.heap as us->Vl st cs as=some (x,ls)->ls.Nodup->
  ∃ρ:Pi,Jb w (λb=>Uf π b\/X.Sc b) ρ k cs x us/\(∀l q,ρ l=some q-> ∃j,k<=j/\j<k+cs.length/\l=Jp j)/\(∀l q b,ρ l=some q->q.Cu b-> ∃l0∈ls,∃p,π l0=some p/\p.cl b/\((cs.all λc=>!c.isX)=true->p.Cu b))/\
   (∀l l' q q' b,ρ l=some q->ρ l'=some q'->q.Cu b->q'.Cu b->l=l')/\
   (∀(j l off len:Nat) e te rows out kp,as[j]?=some (.own l off len)->Au st.heap l=some (.Bm e te rows out kp)->ρ (Jp (k+j))=π l)
 | [],k,[],[],x,ls,_,he,_=>by
  simp only [Vl,Aa,Ad] at he
  exact ⟨λ_=>none,trivial,(λl q h=>by cases h),(λl q b h=>by cases h),(λl l' q q' b h=>by cases h),λj l off len e te rows out kp h=>by simp at h⟩
 | [],_,[],_::_,_,_,h,_,_=>h.elim
 | [],_,_::_,_,_,_,_,he,_=>by simp [Vl] at he
 |_::_,_,[],_,_,_,_,he,_=>by simp [Vl] at he
 |_::_,_,_::_,[],_,_,h,_,_=>h.elim
 |c::r,k,a::as,u::us,x,ls,hr,he,SM=>by
  simp only [Vl] at he
  split at he
  ·rename_i x1 t1 x2 t2 h1 h2
   simp only [Aa,Ad] at he
   obtain ⟨rfl,rfl⟩:=he
   obtain ⟨n1,n2,n3⟩:=Cy.1 SM
   obtain ⟨ρ,g1,g2,g3,g4,g5⟩:=yW h r (k+1) as us x2 t2 hr.2 h2 n2
   obtain ⟨rr,r1,r2,r3⟩:=Abr h hr.1 h1
   have FI: ∀l q q0 b,ρ l=some q->rr=some q0->q.Cu b->q0.Cu b->False:= λl q q0 b h3 h4 h5 h6=>by
    obtain ⟨l0,m0,p,p1,p2,_⟩:=g3 l q b h3 h5
    obtain ⟨l1,p',e1,p1',p2',_⟩:=r2 q0 h4
    have:=h.inj l0 l1 p p' b p1 p1' p2 (p2' b h6)
    exact n3 l1 (by rw [e1];simp) l0 m0 this.symm
   refine ⟨λl=>if l=Jp k then rr else ρ l,⟨by simpa using r1,Jb.congr r (k+1) x2 us (λj hj=>Ag (by unfold Jp;omega)) g1⟩,λl q hq=>?_,λl q b hq hb=>?_,λl l' q q' b h3 h4 h5 h6=>?_,λj l off len e te rows out kp hj hl=>?_⟩
   ·dsimp only at hq
    by_cases e:l=Jp k
    ·exact ⟨k,Ao _,by simp,e⟩
    ·rw [Ag e] at hq
     obtain ⟨j,j1,j2,j3⟩:=g2 l q hq
     exact ⟨j,by omega,by simp;omega,j3⟩
   ·dsimp only at hq
    by_cases e:l=Jp k
    ·rw [Ab e] at hq
     obtain ⟨l1,p',e1,p1',p2',p3'⟩:=r2 q hq
     exact ⟨l1,by rw [e1];simp,p',p1',p2' b hb,λhx=>p3' (by simp only [Hx,Af,Eg] at hx;exact hx.1) b hb⟩
    ·rw [Ag e] at hq
     obtain ⟨l0,m0,p,p1,p2,p3⟩:=g3 l q b hq hb
     exact ⟨l0,Bu _ m0,p,p1,p2,λhx=>p3 (by simp only [Hx,Af] at hx;exact hx.2)⟩
   ·dsimp only at h3 h4
    by_cases e:l=Jp k<;>by_cases e':l'=Jp k
    ·rw [e,e']
    ·rw [Ab e] at h3;rw [Ag e'] at h4
     exact (FI l' q' q b h4 h3 h6 h5).elim
    ·rw [Ag e] at h3;rw [Ab e'] at h4
     exact (FI l q q' b h3 h4 h5 h6).elim
    ·rw [Ag e] at h3;rw [Ag e'] at h4
     exact g4 l l' q q' b h3 h4 h5 h6
   ·rcases j with _|j
    ·simp only [Cb,Aa] at hj
     show (if Jp k=Jp k then rr else ρ (Jp k))=π l
     rw [Ab rfl]
     exact r3 l off len e te rows out kp hj hl
    ·have:=g5 j l off len e te rows out kp (by simpa using hj) hl
     show (if Jp (k+(j+1))=Jp k then rr else ρ (Jp (k+(j+1))))=π l
     rw [Ag (by unfold Jp;omega),<-this,show k+(j+1)=k+1+j by omega]
  ·cases he
theorem JE {r r':Option Real} (h:bO (r.map full) r') {e:Ty} {xs:List e.den} {te:TypeId} {fr tr:Bool} (ha:Jw X w π r' fr tr e te xs):Ta w (λb=>Uf π b\/X.Sc b) r e xs:=by
 cases r with
 |none=>cases r' with
  |none=>exact ha
  |some q=>exact h.elim
 |some p=>cases r' with
  |none=>exact h.elim
  |some q=>
   obtain ⟨e1,e2,e3,e4⟩:=h
   obtain ⟨k1,cur,ti,k2,k3,k4,k5,k6,_⟩:=ha
   have e1:p.g=q.g:=e1
   have e2:p.o=q.o:=e2
   have e3:p.cap=q.cap:=e3
   refine ⟨⟨by rw [e1];exact (e4 _).2 k1.1,λb hb=>by rw [e1];exact k1.2.1 b ((e4 b).1 hb)⟩,cur,ti,by rw [e1];exact k2,by rw [e2,e3];exact k3,by rw [e3];exact k4,by rw [e3];exact k5,λi y hy=>?_⟩
   obtain ⟨es,g1,g2,g3⟩:=k6 i y hy
   exact ⟨es,g1,by rw [e2];exact g2,Cells.Ex (Ao _) (λ_ _ _=>rfl) (λb _ hb=>hb.imp id .inl) e es y g3⟩
theorem WW {r r':Option Real} (h:bO (r.map full) r') {e:Ty} {xs:List e.den} {te:TypeId} (ha:Ny w r' e te xs):Ny w r e te xs:=by
 cases r with
 |none=>cases r' with
  |none=>exact ha
  |some q=>exact h.elim
 |some p=>cases r' with
  |none=>exact h.elim
  |some q=>
   obtain ⟨e1,e2,e3,e4⟩:=h
   obtain ⟨k1,cur,ti,k2,k3,k4,k5,Fs,t1,t2,t3,t4⟩:=ha
   have e1:p.g=q.g:=e1
   have e2:p.o=q.o:=e2
   have e3:p.cap=q.cap:=e3
   exact ⟨by rw [e1];exact (e4 _).2 k1,cur,ti,by rw [e1];exact k2,by rw [e2,e3];exact k3,by rw [e3];exact k4,by rw [e3];exact k5,Fs,t1,by rw [e1];exact t2,λb hb=>(e4 b).2 (t3 b hb),by rw [e2];exact t4⟩
theorem Uq {st:St} {π0:Pi} {D:Nat->Prop} {w0:World} (h:Mx X w π st.heap) (a6: ∀l,X.ia l=(π0 l).map full): ∀(cs:List (Bool×CK)) (k:Nat) (x:Ins.den cs) (us:List Value) (o:IOs.den cs),eR w0 D π0 k cs x us->Ot st k cs=some o->
  Lo w (λb=>Uf π b\/X.Sc b) π0 k cs o/\ ∀l∈Qb k cs,Au st.heap l≠none
 | [],_,_,_,_,_,_=>⟨trivial,λl hl=>by cases hl⟩
 |_::_,_,_,[],_,h,_=>h.elim
 |(false,c)::r,k,x,u::us,o,hi,he=>Uq h a6 r (k+1) x.2 us o hi.2 (by simpa only [Ot] using he)
 |(true, .Fm τ)::r,k,x,u::us,o,hi,he=>Uq h a6 r (k+1) x.2 us o hi.2 (by simpa only [Ot] using he)
 |(true, .Bm e te kp)::r,k,x,u::us,o,hi,he=>Uq h a6 r (k+1) x.2 us o hi.2 (by simpa only [Ot] using he)
 |(true, .row e te)::r,k,x,u::us,o,hi,he=>by
  simp only [Ot] at he
  split at he
  ·rename_i x1 x2 h1 h2
   simp only [Aa] at he;subst he
   obtain ⟨g1,g2⟩:=Uq h a6 r (k+1) x.2 us x2 hi.2 h2
   have h0:=hi.1
   simp only [qD] at h1
   split at h1
   ·rename_i fr tr e' Rf xs hl
    split at h1
    ·rename_i hc
     obtain ⟨rfl,rfl⟩:=hc
     simp only [Aa] at h1;subst h1
     unfold St.at at hl
     have hs:=h.ia (Ds true k) (by have:=bz k;omega) (by rw [hl];simp)
     rw [a6] at hs
     exact ⟨⟨JE (te:=Rf) hs ((h.heap _).Qm hl),g1⟩,λl Kn=>by
      simp only [Qb] at Kn
      rcases Be.1 Kn with rfl|Kn
      ·rw [hl];simp
      ·exact g2 l Kn⟩
    ·cases h1
   ·cases h1
  ·cases he
 |(true, .part e te)::r,k,x,u::us,o,hi,he=>by
  simp only [Ot] at he
  split at he
  ·rename_i x1 x2 h1 h2
   simp only [Aa] at he;subst he
   obtain ⟨g1,g2⟩:=Uq h a6 r (k+1) x.2 us x2 hi.2 h2
   have h0:=hi.1
   simp only [qD] at h1
   split at h1
   ·rename_i fr tr e' Rf xs hl
    split at h1
    ·rename_i hc
     obtain ⟨rfl,rfl⟩:=hc
     simp only [Aa] at h1;subst h1
     unfold St.at at hl
     have hs:=h.ia (Ds true k) (by have:=bz k;omega) (by rw [hl];simp)
     rw [a6] at hs
     exact ⟨⟨JE (te:=Rf) hs ((h.heap _).Qm hl),g1⟩,λl Kn=>by
      simp only [Qb] at Kn
      rcases Be.1 Kn with rfl|Kn
      ·rw [hl];simp
      ·exact g2 l Kn⟩
    ·cases h1
   ·cases h1
  ·cases he
 |(true, .Hk e te)::r,k,x,u::us,o,hi,he=>by
  simp only [Ot] at he
  split at he
  ·rename_i x1 x2 h1 h2
   simp only [Aa] at he;subst he
   obtain ⟨g1,g2⟩:=Uq h a6 r (k+1) x.2 us x2 hi.2 h2
   simp only [qD] at h1
   split at h1
   ·rename_i e' Rf xs hl
    split at h1
    ·rename_i hc
     obtain ⟨rfl,rfl⟩:=hc
     simp only [Aa] at h1;subst h1
     unfold St.at at hl
     have hs:=h.ia (Ds true k) (by have:=bz k;omega) (by rw [hl];simp)
     rw [a6] at hs
     exact ⟨⟨WW (te:=Rf) hs ((h.heap _).Qm hl),g1⟩,λl Kn=>by
      simp only [Qb] at Kn
      rcases Be.1 Kn with rfl|Kn
      ·rw [hl];simp
      ·exact g2 l Kn⟩
    ·cases h1
   ·cases h1
  ·cases he
theorem x8 {p:Bool×CK} {r:List (Bool×CK)} (h:ah (p::r)=true):ah r=true:=by
 rcases p with ⟨_|_,c⟩<;>cases c<;>first|(simp [ah] at h;done)|simpa [ah] using h
theorem yK: ∀(cs:List (Bool×CK)) (k:Nat) (x:Ins.den cs) (l:Nat),ah cs=true->k+cs.length<100000->Au (a7 k cs x) l≠none-> ¬l<Bn->l∈Qb k cs
 | [],_,_,_,_,_,h,_=>absurd rfl h
 |(io,c)::r,k,x,l,hng,hk,h,hp=>by
  simp only [Az] at hk
  simp only [a7] at h
  have tail:Au (a7 (k+1) r x.2) l≠none->l∈Qb (k+1) r:= λh=>yK r (k+1) x.2 l (x8 hng) (by omega) h hp
  have sub: ∀m,m∈Qb (k+1) r->m∈Qb k ((io,c)::r):= λm hm=>by
   cases io<;>cases c<;>simp only [Qb]<;>first|exact hm|exact At _ hm
  cases hc:kQ (Ds io k) c x.1 with
  |none=>rw [hc] at h;exact sub l (tail h)
  |some b=>
   rw [hc] at h
   simp only [iA,Au] at h
   split at h
   ·rename_i e;subst e
    cases io with
    |false=>exact absurd (fL (by omega)) hp
    |true=>cases c with
     |Fm τ=>cases hc
     |row e te=>simp [Qb]
     |Hk e te=>simp [Qb]
     |part e te=>simp [Qb]
     |Bm e te kp=>simp [ah] at hng
   ·exact sub l (tail h)
theorem eP.Im {D D':Nat->Prop} (hD: ∀b,D' b->D b) {r:Option Real} {u:Value} {c:CK} {x:c.den} (h:eP w D r u c x):eP w D' r u c x:=by
 cases c with
 |Fm τ=>exact ⟨h.1,h.2.Im λb _ hb=>hD b hb⟩
 |row e te=>exact ⟨h.1,Ta.Im h.2 hD⟩
 |Hk e te=>exact h
 |part e te=>exact ⟨h.1,h.2.1,Ta.Im h.2.2 hD⟩
 |Bm e te kp=>exact ⟨h.1,aI.Im h.2 hD⟩
theorem Jb.Im {D D':Nat->Prop} (hD: ∀b,D' b->D b) {ρ:Pi} : ∀(cs:List CK) (k:Nat) (x:CKs.den cs) (us:List Value),Jb w D ρ k cs x us->Jb w D' ρ k cs x us
 | [],_,_,[],h=>h
 | [],_,_,_::_,h=>h.elim
 |_::_,_,_,[],h=>h.elim
 |_c::r,k,x,_u::us,h=>⟨h.1.Im hD,Jb.Im hD r (k+1) x.2 us h.2⟩
theorem Lo.Im {D D':Nat->Prop} (hD: ∀b,D' b->D b) {π:Pi} : ∀(cs:List (Bool×CK)) (k:Nat) (x:IOs.den cs),Lo w D π k cs x->Lo w D' π k cs x
 | [],_,_,h=>h
 |(false,_)::r,k,x,h=>Lo.Im hD r (k+1) x h
 |(true, .Fm _)::r,k,x,h=>Lo.Im hD r (k+1) x h
 |(true, .Bm _ _ _)::r,k,x,h=>Lo.Im hD r (k+1) x h
 |(true, .row _e _te)::r,k,x,h=>⟨Ta.Im h.1 hD,Lo.Im hD r (k+1) x.2 h.2⟩
 |(true, .Hk _e _te)::r,k,x,h=>⟨h.1,Lo.Im hD r (k+1) x.2 h.2⟩
 |(true, .part _e _te)::r,k,x,h=>⟨Ta.Im h.1 hD,Lo.Im hD r (k+1) x.2 h.2⟩
theorem eR.congr {D:Nat->Prop} {π0 cz:Pi} : ∀(cs:List (Bool×CK)) (k:Nat) (x:Ins.den cs) (us:List Value),(∀b j,k<=j->j<k+cs.length->cz (Ds b j)=π0 (Ds b j))->eR w D π0 k cs x us->eR w D cz k cs x us
 | [],_,_,[],_,h=>h
 | [],_,_,_::_,_,h=>h
 |_::_,_,_,[],_,h=>h
 |p::r,k,x,u::us,hp,h=>⟨by rw [hp p.1 k (Ao _) (by simp)];exact h.1,eR.congr r (k+1) x.2 us (λb j h1 h2=>hp b j (by omega) (by simp;omega)) h.2⟩
theorem Lo.congr {D:Nat->Prop} {π0 cz:Pi} : ∀(cs:List (Bool×CK)) (k:Nat) (x:IOs.den cs),(∀b j,k<=j->j<k+cs.length->cz (Ds b j)=π0 (Ds b j))->Lo w D π0 k cs x->Lo w D cz k cs x
 | [],_,_,_,h=>h
 |(false,c)::r,k,x,hp,h=>by cases c<;>exact Lo.congr r (k+1) x (λb j h1 h2=>hp b j (by omega) (by simp;omega)) h
 |(true, .Fm _)::r,k,x,hp,h=>Lo.congr r (k+1) x (λb j h1 h2=>hp b j (by omega) (by simp;omega)) h
 |(true, .Bm _ _ _)::r,k,x,hp,h=>Lo.congr r (k+1) x (λb j h1 h2=>hp b j (by omega) (by simp;omega)) h
 |(true, .row e te)::r,k,x,hp,h=>⟨by rw [hp true k (Ao _) (by simp)];exact h.1,Lo.congr r (k+1) x.2 (λb j h1 h2=>hp b j (by omega) (by simp;omega)) h.2⟩
 |(true, .Hk e te)::r,k,x,hp,h=>⟨by rw [hp true k (Ao _) (by simp)];exact h.1,Lo.congr r (k+1) x.2 (λb j h1 h2=>hp b j (by omega) (by simp;omega)) h.2⟩
 |(true, .part e te)::r,k,x,hp,h=>⟨by rw [hp true k (Ao _) (by simp)];exact h.1,Lo.congr r (k+1) x.2 (λb j h1 h2=>hp b j (by omega) (by simp;omega)) h.2⟩
theorem Ek.congr {π0 cz:Pi} : ∀(cs:List (Bool×CK)) (k:Nat) (o:IOs.den cs) (n:Nat) (us as:List Value),(∀b j,k<=j->j<k+cs.length->cz (Ds b j)=π0 (Ds b j))->Ek π0 k cs o n us as->Ek cz k cs o n us as
 | [],k,o,0,us,as,_,h=>by simpa [Ek] using h
 | [],k,o,n+1,us,as,_,h=>by simp [Ek] at h
 |p::r,k,o,0,us,as,_,h=>by
  rcases p with ⟨_|_,c⟩<;>cases c<;>simpa [Ek] using h
 |(true, .Fm _)::r,k,o,n+1,us,as,_,h=>by simp [Ek] at h
 |(true, .part _ _)::r,k,o,n+1,us,as,_,h=>by simp [Ek] at h
 |(true, .Bm _ _ _)::r,k,o,n+1,us,as,_,h=>by simp [Ek] at h
 |(true, .row e te)::r,k,o,n+1,[],as,_,h=>by simp [Ek] at h
 |(true, .Hk e te)::r,k,o,n+1,[],as,_,h=>by simp [Ek] at h
 |(true, .row e te)::r,k,o,n+1,u::us,as,hp,h=>by
  simp only [Ek] at h⊢
  exact ⟨by rw [hp true k (Ao _) (by simp)];exact h.1,Ek.congr r (k+1) o.2 n us as (λb j h1 h2=>hp b j (by omega) (by simp;omega)) h.2⟩
 |(true, .Hk e te)::r,k,o,n+1,u::us,as,hp,h=>by
  simp only [Ek] at h⊢
  exact ⟨by rw [hp true k (Ao _) (by simp)];exact h.1,Ek.congr r (k+1) o.2 n us as (λb j h1 h2=>hp b j (by omega) (by simp;omega)) h.2⟩
 |(false,c)::r,k,o,n+1,[],as,_,h=>by cases c<;>simp [Ek] at h
 |(false,c)::r,k,o,n+1,u::us,[],_,h=>by cases c<;>simp [Ek] at h
 |(false,c)::r,k,o,n+1,u::us,a::as,hp,h=>by
  have h:u=a/\Ek π0 (k+1) r o n us as:=by cases c<;>exact h
  have:=Ek.congr r (k+1) o n us as (λb j h1 h2=>hp b j (by omega) (by simp;omega)) h.2
  cases c<;>exact ⟨h.1,this⟩
theorem qS: ∀(A B:List (Nat×OB)) (l:Nat),Au (A++B) l=match Au A l with|some b=>some b|none=>Au B l
 | [],B,l=>rfl
 |(k,b)::A,B,l=>by
  simp only [Md,Au]
  split
  ·rfl
  ·exact qS A B l
theorem uS {st:St} : ∀(cs:List CK) (as:List AC) (x:CKs.den cs) (ls:List Nat),Vl st cs as=some (x,ls)-> ∀l∈ls,∃b,Au st.heap l=some b/\b.row≠none
 | [],[],x,ls,he=>by
  simp only [Vl,Aa,Ad] at he
  obtain ⟨_,rfl⟩:=he
  intro l hl;cases hl
 | [],_::_,_,_,he=>by simp [Vl] at he
 |_::_,[],_,_,he=>by simp [Vl] at he
 |c::r,a::as,x,ls,he=>by
  simp only [Vl] at he
  split at he
  ·rename_i x1 t1 x2 t2 h1 h2
   simp only [Aa,Ad] at he
   obtain ⟨_,rfl⟩:=he
   intro l hl
   rcases Bb.1 hl with hl|hl
   ·unfold kV at h1
    split at h1
    ·split at h1
     ·cases hv:Du st _ a with
      |none=>rw [hv] at h1;cases h1
      |some p=>rw [hv] at h1;simp only [Am,Aa,Ad] at h1;obtain ⟨_,rfl⟩:=h1;cases hl
     ·cases h1
    all_goals (repeat' split at h1)
    all_goals first|(cases h1;done)|skip
    all_goals (simp only [Aa,Ad] at h1;obtain ⟨_,rfl⟩:=h1)
    all_goals first|(cases hl;done)|skip
    all_goals (have hl:=Ae.1 hl;subst hl)
    all_goals (rename_i heq _;exact ⟨_,heq,by simp [OB.row]⟩)
   ·exact uS r as x2 t2 h2 l hl
  ·cases he
theorem rj {r r':Option Real} {sz off len:Nat} {v:Value} (h:bO r r') (hv:Hw r' sz off len v):Hw r sz off len v:=by
 cases r<;>cases r'<;>first|exact h.elim|skip
 ·exact hv
 ·obtain ⟨h1,h2,h3,_⟩:=h
  obtain ⟨ad,g1,g2,g3⟩:=hv
  exact ⟨ad,by rw [h3];exact g1,by rw [h3];exact g2,by rw [h1,h2,h3];exact g3⟩
theorem Zj {st:St} {π0:Pi} (hs: ∀k,Au st.heap (Ds true k)≠none->bO ((π0 (Ds true k)).map full) (π (Ds true k))):
  ∀(cs:List (Bool×CK)) (k:Nat) (vs:List AC) (us:List Value) (bc:List AC) (o:IOs.den cs),My X w π st.heap vs us->Je k cs vs=some bc->j6 st vs cs->Ot st k cs=some o->
   ∃bv,My X w π st.heap bc bv/\bv.length=vr cs vs.length/\ ∀tl,Ek π0 k cs o vs.length us (bv++tl)
 |cs,k,[],us,bc,o,hr,he,_,_=>by
  have e1:us= []:=by cases us with|nil=>rfl|cons u us=>exact hr.elim
  have e2:bc= []:=by rcases cs with _|⟨⟨_|_,c⟩,r⟩<;>simpa [Je] using he.symm
  subst e1;subst e2
  refine ⟨[],trivial,?_,λtl=>?_⟩
  ·rcases cs with _|⟨⟨_|_,c⟩,r⟩<;>rfl
  ·rcases cs with _|⟨⟨_|_,c⟩,r⟩<;>(try cases c)<;>simp [Ek]
 | [],k,a::vs,us,bc,o,hr,he,_,_=>by simp [Je] at he
 |p::r,k,a::vs,[],bc,o,hr,_,_,_=>hr.elim
 |(false,c)::r,k,a::vs,u::us,bc,o,hr,he,hk,ho=>by
  have he:(Je (k+1) r vs).map (λl=>a::l)=some bc:=by cases a<;>exact he
  cases hb:Je (k+1) r vs with
  |none=>rw [hb] at he;cases he
  |some bc'=>
   rw [hb] at he
   simp only [Am,Aa] at he;subst he
   obtain ⟨bv,g1,g2,g3⟩:=Zj hs r (k+1) vs us bc' o hr.2 hb (by cases a<;>exact hk) (by cases c<;>simpa only [Ot] using ho)
   refine ⟨u::bv,⟨hr.1,g1⟩,by simp [vr,g2],λtl=>?_⟩
   have:=g3 tl
   cases c<;>exact ⟨rfl,this⟩
 |(true,c)::r,k,a::vs,u::us,bc,o,hr,he,hk,ho=>by
  cases c with
  |Fm τ=>cases a<;>simp [Je] at he
  |part e te=>cases a<;>simp [Je] at he
  |Bm e te kp=>cases a<;>simp [Je] at he
  |row e te=>
   cases a<;>first|(simp [Je] at he;done)|skip
   rename_i l off len
   simp only [Je] at he
   split at he
   rotate_left
   ·cases he
   rename_i hl
   have hl:l=Ds true k:=Jl hl
   subst hl
   obtain ⟨⟨rfl,hlen⟩,hk⟩:=hk
   obtain ⟨b,sz,n,h1,h2,h3,h4⟩:=hr.1
   have GP:=hs k (by rw [h1];simp)
   simp only [Ot] at ho
   split at ho
   ·rename_i x1 x2 q1 q2
    simp only [Aa] at ho;subst ho
    obtain ⟨bv,g1,g2,g3⟩:=Zj hs r (k+1) vs us bc x2 hr.2 he hk q2
    refine ⟨bv,g1,by simpa [vr] using g2,λtl=>?_⟩
    refine ⟨?_,g3 tl⟩
    simp only [qD] at q1
    split at q1
    ·rename_i fr tr e' Rf xs Kn
     split at q1
     ·rename_i hc
      obtain ⟨rfl,rfl⟩:=hc
      simp only [Aa] at q1;subst q1
      unfold St.at at Kn hlen
      rw [Kn] at hlen
      rw [h1] at Kn;cases Kn
      simp only [OB.row,Aa,Ad] at h2
      obtain ⟨rfl,rfl⟩:=h2
      have hlen:len=List.length xs:=hlen
      have:=rj GP h4
      rw [hlen] at this
      have e0:(π0 (Ds true k)).map full=(π0 (Ds true k)).map full:=rfl
      cases hp:π0 (Ds true k)<;>(rw [hp] at this;exact this)
     ·cases q1
    ·cases q1
   ·cases ho
  |Hk e te=>
   cases a<;>first|(simp [Je] at he;done)|skip
   rename_i l off len
   simp only [Je] at he
   split at he
   rotate_left
   ·cases he
   rename_i hl
   have hl:l=Ds true k:=Jl hl
   subst hl
   obtain ⟨⟨rfl,hlen⟩,hk⟩:=hk
   obtain ⟨b,sz,n,h1,h2,h3,h4⟩:=hr.1
   have GP:=hs k (by rw [h1];simp)
   simp only [Ot] at ho
   split at ho
   ·rename_i x1 x2 q1 q2
    simp only [Aa] at ho;subst ho
    obtain ⟨bv,g1,g2,g3⟩:=Zj hs r (k+1) vs us bc x2 hr.2 he hk q2
    refine ⟨bv,g1,by simpa [vr] using g2,λtl=>?_⟩
    refine ⟨?_,g3 tl⟩
    simp only [qD] at q1
    split at q1
    ·rename_i e' Rf xs Kn
     split at q1
     ·rename_i hc
      obtain ⟨rfl,rfl⟩:=hc
      simp only [Aa] at q1;subst q1
      unfold St.at at Kn hlen
      rw [Kn] at hlen
      rw [h1] at Kn;cases Kn
      simp only [OB.row,Aa,Ad] at h2
      obtain ⟨rfl,rfl⟩:=h2
      have hlen:len=List.length xs:=hlen
      have:=rj GP h4
      rw [hlen] at this
      cases hp:π0 (Ds true k)<;>(rw [hp] at this;exact this)
     ·cases q1
    ·cases q1
   ·cases ho
def Aqb (s:MSpec) (g:Nat) (π:Pi):Pi:= λl=>if s.ptr.isSome=true/\l=Pc then some ⟨g,0,0,λb=>b=g,λb=>b=g⟩ else π l
def Ams (P:Program) (s:MSpec) (fn:Func) (x:Ins.den s.ins) (w:World) (S:Nat->Prop) (π:Pi) (g:Nat) (r:CKs.den s.outs) (o:IOs.den s.ins) (a':Act) (w':World):Prop:=
 ∃(v:Value) (Sf:List Value) (ρ:Pi),a'.defers= []/\(results fn a'.tmps).run P w'= .ok v w'/\qy s w' ρ (Sf.drop s.aa) v/\ib s π w' g Sf o/\Gy w.heap.size (λb=>Uf π b\/s.gv g b) w w'/\Lo w' (gQ S π ρ) π 0 s.ins o/\Jb w' (gQ S π ρ) ρ 0 s.outs r Sf/\
  eS ρ (λb=>b<w'.heap.size/\(w.heap.size<=b\/ ∃l q,l<Bn/\π l=some q/\q.Cu b))/\(∀l,(∀k,k<s.Ua->l≠Jp k)->ρ l=none)/\(∀kj∈s.keeps,yf w w' (π (Ds false kj.1)) (ρ (Jp kj.2)) (s.Ex x))
theorem Jb.ZS {D:Nat->Prop} {ρ ρ':Pi} : ∀(cs:List CK) (k:Nat) (x:CKs.den cs) (us:List Value),(∀j,k<=j->j<k+cs.length->ρ' (Jp j)=ρ (Jp j))->Jb w D ρ k cs x us->Jb w D ρ' k cs x us
 | [],_,_,[],_,h=>h
 | [],_,_,_::_,_,h=>h.elim
 |_::_,_,_,[],_,h=>h.elim
 |c::r,k,x,u::us,he,h=>⟨by rw [he k (Ao _) (by simp)];exact h.1,Jb.ZS r (k+1) x.2 us (λj hj hl=>he j (by omega) (by simp;omega)) h.2⟩
theorem yN {st:St} {n:Nat} {as:List AC} : ∀ {ks:List (Nat×Nat)},yM st n as ks-> ∀kj∈ks,∃l off len e te rows out p,as[kj.2]?=some (.own l off len)/\Au st.heap l=some (.Bm e te rows out (some p))/\p.1=Ds false kj.1/\n<=p.2/\kj.1<1000
 | [],_,kj,hm=>by cases hm
 |(k,j)::r,h,kj,hm=>by
  simp only [yM] at h
  rcases Be.1 hm with rfl|hm
  ·obtain ⟨h,_⟩:=h
   split at h
   ·rename_i l off len he
    split at h
    ·rename_i e te rows out p hl
     unfold St.at at hl
     exact ⟨l,off,len,e,te,rows,out,p,he,hl,h.1,h.2.1,by simpa using h.2.2⟩
    ·exact h.elim
   ·exact h.elim
  ·exact yN h.2 kj hm
theorem yV {st:St} : ∀(cs:List CK) (as:List AC) (x:CKs.den cs) (ls:List Nat),Vl st cs as=some (x,ls)->as.length=cs.length
 | [],[],_,_,_=>rfl
 | [],_::_,_,_,he=>by simp [Vl] at he
 |_::_,[],_,_,he=>by simp [Vl] at he
 |c::r,a::as,x,ls,he=>by
  simp only [Vl] at he
  split at he
  ·rename_i h1 h2
   simp only [Az,yV r as _ _ h2]
  ·cases he
theorem JC {α β:Type} (f:α->Sem β): ∀(l:List α) (vs:List β),vs.length=l.length->(∀(i:Nat) a v,l[i]?=some a->vs[i]?=some v->(f a).run P w= .ok v w)->(l.mapM f).run P w= .ok vs w
 | [],[],_,_=>by simp
 | [],_::_,h,_=>by simp at h
 |_::_,[],h,_=>by simp at h
 |a::l,v::vs,h,hr=>by
  rw [List.mapM_cons]
  simp only [Sem.run_bind,hr 0 a v rfl rfl,Result.andThen_ok,JC f l vs (by simpa using h) (λi a' v' ha hv=>hr (i+1) a' v' (by simpa using ha) (by simpa using hv)),Sem.run_pure]
theorem wN (hT:Eb P T) (Pl:Kj P Γ) (hm:P.follows .mixedOrders=true) {f:FuncId} {fn:Func} (hf:P.funcs[f]?=some fn) (s:MSpec) (w:World) (S:Nat->Prop) (π:Pi) (us:List Value) (x:Ins.den s.ins)
  (r:CKs.den s.outs) (o:IOs.den s.ins) (g:Nat) (nd:List Value) (Rb:p7 s w g us nd) (hSg:s.ptr.isSome=true->S g) (iX:eR w (λb=>Uf π b\/S b) π 0 s.ins x us) (km:eS π (λb=>b<w.heap.size)) (hS: ∀b,S b->b<w.heap.size/\ ¬Uf π b) (Aa3: ∀l,Au (a7 0 s.ins x) l=none->π l=none) (he:Agl T Γ s fn x λz=>z=(r,o)):
  Calls P f nd.toArray w λe w'=> ∃v Sf ρ,e= .returned v/\qy s w' ρ (Sf.drop s.aa) v/\ib s π w' g Sf o/\Gy w.heap.size (λb=>Uf π b\/s.gv g b) w w'/\Lo w' (gQ S π ρ) π 0 s.ins o/\Jb w' (gQ S π ρ) ρ 0 s.outs r Sf/\
   eS ρ (λb=>b<w'.heap.size/\(w.heap.size<=b\/ ∃l q,l<Bn/\π l=some q/\q.Cu b))/\(∀l,(∀k,k<s.Ua->l≠Jp k)->ρ l=none)/\(∀kj∈s.keeps,yf w w' (π (Ds false kj.1)) (ρ (Jp kj.2)) (s.Ex x)):=by
 obtain ⟨hlen,c,hb,he⟩:=he
 simp only [Af,Ni] at hlen
 obtain ⟨hlen,Aa6⟩:=hlen
 unfold BW at Aa6
 simp only [Af] at Aa6
 have Anx:=Aa6.1
 let rU:Pi:=Aqb s g π
 let Sg:Nat->Prop:= λb=>S b/\ ¬s.gv g b
 have hvl: ∀b j,j<1000->Ds b j≠Pc:= λb j hj=>by cases b<;>(unfold Ds Pc;simp;omega)
 have AE: ∀b j,0<=j->j<0+s.ins.length->rU (Ds b j)=π (Ds b j):= λb j _ hj=>Ag λh=>hvl b j (by omega) h.2
 have Ahh: ∀b j,0<=j->j<0+s.ins.length->π (Ds b j)=rU (Ds b j):= λb j h1 h2=>(AE b j h1 h2).symm
 have Ak4:Au (a7 0 s.ins x) Pc=none:=Ce λhn=>by
  obtain ⟨b,j,_,h2,h3⟩:=uw s.ins 0 x Pc hn
  exact hvl b j (by omega) h3.symm
 have XT: ∀l q,rU l=some q->(π l=some q/\(s.ptr.isSome=true->l≠Pc))\/(s.ptr.isSome=true/\l=Pc/\q=⟨g,0,0,λb=>b=g,λb=>b=g⟩):= λl q hq=>by
  have hq:(if s.ptr.isSome=true/\l=Pc then some ⟨g,0,0,λb=>b=g,λb=>b=g⟩ else π l)=some q:=hq
  split at hq
  ·rename_i hc;exact .inr ⟨hc.1,hc.2,(Ba hq).symm⟩
  ·rename_i hc;exact .inl ⟨hq,λh1 h2=>hc ⟨h1,h2⟩⟩
 have a5: ∀b,Uf rU b↔Uf π b\/s.gv g b:= λb=>by
  constructor
  ·rintro ⟨l,q,h1,h2⟩
   rcases XT l q h1 with ⟨h3,_⟩|⟨h3,h4,rfl⟩
   ·exact .inl ⟨l,q,h3,h2⟩
   ·exact .inr ⟨h3,h2⟩
  ·rintro (⟨l,q,h1,h2⟩|⟨h1,rfl⟩)
   ·refine ⟨l,q,?_,h2⟩
    show (if s.ptr.isSome=true/\l=Pc then _ else π l)=some q
    rw [Ag]
    ·exact h1
    ·rintro ⟨_,rfl⟩
     rw [Aa3 Pc Ak4] at h1;cases h1
   ·exact ⟨Pc,⟨b,0,0,λc=>c=b,λc=>c=b⟩,Ab ⟨h1,rfl⟩,rfl⟩
 have hgS: ∀b,s.gv g b->S b:= λb ⟨h1,h2⟩=>h2▸hSg h1
 have Ajb:eR w (λb=>Uf rU b\/Sg b) rU 0 s.ins x us:=eR.congr s.ins 0 x us AE (eR.Im (λb hb=>by
  rcases hb with hb|hb
  ·rcases (a5 b).1 hb with hb|hb
   ·exact .inl hb
   ·exact .inr (hgS b hb)
  ·exact .inr hb.1) s.ins 0 x us iX)
 have Ao3:eS rU (λb=>b<w.heap.size):=⟨λl q b h1 h2=>by
  rcases XT l q h1 with ⟨h3,_⟩|⟨h3,h4,rfl⟩
  ·exact km.aT l q b h3 h2
  ·exact (hS b (hgS b ⟨h3,h2⟩)).1,λl l' q q' b h1 h2 h3 h4=>by
  rcases XT l q h1 with ⟨h5,_⟩|⟨h5,h6,rfl⟩<;>rcases XT l' q' h2 with ⟨h7,_⟩|⟨h7,h8,rfl⟩
  ·exact km.inj l l' q q' b h5 h7 h3 h4
  ·exact absurd ⟨l,q,h5,h3⟩ (hS b (hgS b ⟨h7,h4⟩)).2
  ·exact absurd ⟨l',q',h7,h4⟩ (hS b (hgS b ⟨h5,h3⟩)).2
  ·rw [h6,h8]⟩
 have Asc: ∀b,Sg b->b<w.heap.size/\ ¬Uf rU b:= λb hb=>⟨(hS b hb.1).1,λho=>((a5 b).1 ho).elim (hS b hb.1).2 hb.2⟩
 have SJ: ∀l,Au (qX s x) l=match Au (a7 0 s.ins x) l with|some b=>some b|none=>if l=Pc then s.ptr.map λp=> .var p.1 ((c7 0 s.ins x).take p.2) else none:= λl=>by
  unfold qX
  cases hp:s.ptr with
  |none=>cases Au (a7 0 s.ins x) l<;>simp
  |some p=>
   simp only
   rw [qS]
   cases Au (a7 0 s.ins x) l with
   |some b=>rfl
   |none=>
    simp only [Au,Am]
    by_cases e:l=Pc
    ·rw [Ab e,Ab e.symm]
    ·rw [Ag e,Ag (λh=>e h.symm)]
 let π0:Pi:= λl=>(rU l).map full
 have un: ∀l q,π0 l=some q-> ∃q0,rU l=some q0/\q=full q0:= λl q hq=>by
  have hq:(rU l).map full=some q:=hq
  cases hp:rU l with
  |none=>rw [hp] at hq;cases hq
  |some q0=>rw [hp] at hq;exact ⟨q0,rfl,(Ba hq).symm⟩
 have Aa9: ∀l b,Au (a7 0 s.ins x) l=some b->Au (qX s x) l=some b:= λl b hb=>by rw [SJ l,hb]
 have hrc:My ⟨w,Sg,Uf rU,π0⟩ w π0 (qX s x) (c7 0 s.ins x) us:=GS (λ_=>rfl) s.ins 0 x us (by omega) Ajb Aa9
 have Aau:s.ptr.isSome=true->π0 Pc=some ⟨g,0,0,λb=>b=g,λb=>b=g⟩:= λhp=>by
  show (if s.ptr.isSome=true/\Pc=Pc then _ else π Pc).map full=_
  rw [Ab ⟨hp,rfl⟩];rfl
 obtain ⟨g1,g2⟩:(aP s (c7 0 s.ins x)).length=nd.length/\ ∀(i:Nat) c v,(aP s (c7 0 s.ins x))[i]?=some c->nd[i]?=some v->Bp ⟨w,Sg,Uf rU,π0⟩ w π0 (qX s x) c v:=by
  unfold p7 at Rb
  cases hp:s.ptr with
  |none=>
   rw [hp] at Rb
   obtain ⟨rfl,LM⟩:=Rb
   obtain ⟨g1,g2,_,_⟩:=ed s.Jj _ us LM hrc
   rw [show aP s (c7 0 s.ins x)=Te s.Jj (c7 0 s.ins x) by unfold aP;rw [hp]]
   exact ⟨g1,g2⟩
  |some p=>
   rw [hp] at Rb
   obtain ⟨rfl,LM,_⟩:=Rb
   obtain ⟨g1,g2,_,_⟩:=ed s.Jj _ (us.drop p.2) LM (My.take p.2 hrc).2
   rw [show aP s (c7 0 s.ins x)= .at (.Hj Pc 0)::Te s.Jj ((c7 0 s.ins x).drop p.2) by unfold aP;rw [hp]]
   refine ⟨by simp [g1],λi c v h1 h2=>?_⟩
   rcases i with _|i
   ·simp only [Cb,Aa] at h1 h2
    subst h1;subst h2
    exact ⟨_,p.1,(c7 0 s.ins x).take p.2,by rw [SJ,Ak4];simp [hp],Aau (by rw [hp];rfl),rfl⟩
   ·exact g2 i c v (by simpa using h1) (by simpa using h2)
 have h0:Rel ⟨w,Sg,Uf rU,π0⟩ {tmps:=aP s (c7 0 s.ins x)++List.replicate (fn.ntmps-(aP s (c7 0 s.ins x)).length) .undef,heap:=qX s x}
   {tmps:=nd.toArray++Array.replicate (fn.ntmps-nd.toArray.size) undef,defers:= []} w:=by
  refine ⟨π0,⟨Gy.refl _ _ _,λb hb=>Asc b hb,λl q b h1 h2=>?_,λl q b h1 h2=>?_,λl l' q q' b h1 h2 h3 h4=>?_,λl _ _=>bO.rfl' _,λl=>?_⟩,⟨by simp [g1],rfl,λt=>?_⟩⟩
  ·obtain ⟨q0,_,rfl⟩:=un l q h1;exact h2
  ·obtain ⟨q0,h3,rfl⟩:=un l q h1
   exact ⟨.inr ⟨l,q0,h3,h2⟩,Ao3.aT l q0 b h3 h2⟩
  ·obtain ⟨q0,h5,rfl⟩:=un l q h1
   obtain ⟨q0',h6,rfl⟩:=un l' q' h2
   exact Ao3.inj l l' q0 q0' b h5 h6 h3 h4
  ·cases hh:Au (a7 0 s.ins x) l with
   |none=>
    by_cases hv:s.ptr.isSome=true/\l=Pc
    ·obtain ⟨hps,rfl⟩:=hv
     obtain ⟨p,hp⟩:=hJ.1 hps
     refine Ge.Lj (b:= .var p.1 ((c7 0 s.ins x).take p.2)) ?_ (by rw [SJ,hh];simp [hp])
     unfold p7 at Rb
     rw [hp] at Rb
     obtain ⟨_,_,h1,h2,h3⟩:=Rb
     rw [Aau hps]
     exact ⟨_,rfl,rfl,_,h2,My.to (My.take p.2 hrc).1 h3⟩
    ·refine Ge.Uj ?_ ?_
     ·show (if s.ptr.isSome=true/\l=Pc then _ else π l).map full=none
      rw [Ag hv,Aa3 l hh];rfl
     ·rw [SJ,hh]
      simp only
      split
      ·rename_i e
       cases hp:s.ptr with
       |none=>rfl
       |some p=>exact absurd ⟨by rw [hp];rfl,e⟩ hv
      ·rfl
   |some b=>exact Ge.Lj (mn (π0:=rU) (λb hb=>by
    rcases hb with ⟨l,q,h1,h2⟩|hb|⟨hb,_⟩
    ·obtain ⟨q0,h3,rfl⟩:=un l q h1;exact .inl ⟨l,q0,h3,h2⟩
    ·exact .inr hb
    ·cases hb) rfl (λ_=>rfl) s.ins 0 x us Ajb l b hh) (Aa9 l b hh)
  ·show Bp _ w _ _ ((aP s (c7 0 s.ins x)++List.replicate _ AV.undef).getD t .undef) ((nd.toArray++Array.replicate _ undef).getD t undef)
   by_cases ht:t<nd.length
   ·rw [Ak,As (by omega),<-Ak]
    rw [cB,Tp (by simpa using ht)]
    have:=g2 t _ _ (Ac (by omega)) (Ac ht)
    simpa [Ak,Ac ht,Ac (show t<(aP s (c7 0 s.ins x)).length by omega)] using this
   ·have:(aP s (c7 0 s.ins x)++List.replicate (fn.ntmps-(aP s (c7 0 s.ins x)).length) AV.undef).getD t .undef= .undef:=by
     rw [Ak,Ar (by omega)]
     rw [Zg]
     split<;>rfl
    rw [this];trivial
 have fin: ∀(st:St) (a':Act) (w':World),ZA T s fn x st (λz=>z=(r,o))->Rel ⟨w,Sg,Uf rU,π0⟩ st a' w'->Ams P s fn x w S π g r o a' w':=by
  intro st a' w' sf hrel
  obtain ⟨cz,h'⟩:=hrel
  have Ahn:Bn<=Pc:=by unfold Bn Pc;omega
  obtain ⟨bc,qQ,Auc,hbc⟩: ∃bc,kD T s fn x st bc (λz=>z=(r,o))/\(s.ptr.isSome=true-> ∃b,Au st.heap Pc=some b/\b.row=none)/\
    (Ot st 0 s.ins=some o-> ∃bv,My ⟨w,Sg,Uf rU,π0⟩ w' cz st.heap bc bv/\bv.length=s.aa/\ ∀tl,ib s π w' g (bv++tl) o):=by
   unfold ZA at sf
   cases hp:s.ptr with
   |none=>
    rw [hp] at sf
    exact ⟨[],sf,λh=>by simp at h,λ_=>⟨[],trivial,by simp [MSpec.aa,hp],λtl=>by simp [ib,hp]⟩⟩
   |some p=>
    rw [hp] at sf
    obtain ⟨vs,cs,h1,h2,h3,h4,h5⟩:=sf
    unfold St.at at h1
    refine ⟨cs,h5,λ_=>⟨_,h1,rfl⟩,λAB=>?_⟩
    obtain ⟨q,k1,k2,cur,k3,k4⟩:=(h'.1.heap Pc).Qm h1
    have hsv:bO (π0 Pc) (cz Pc):=h'.1.ia Pc Ahn (by rw [h1];simp)
    rw [Aau (by rw [hp];rfl),k1] at hsv
    have hqg:g=q.g:=hsv.1
    obtain ⟨bv,g1,g2,g3⟩:=Zj (π0:=rU) (λk hk=>h'.1.ia _ (Nat.le_of_not_lt (bz k)) hk) s.ins 0 vs cur.toList cs o (My.of k4) h3 h4 AB
    refine ⟨bv,g1,by rw [g2,h2];simp [MSpec.aa,hp],λtl=>?_⟩
    unfold ib
    rw [hp]
    refine ⟨cur.toList,by rw [hqg];simpa using k3,λu hu=>?_,Ek.congr s.ins 0 o p.2 _ _ Ahh (h2▸g3 tl)⟩
    obtain ⟨i,hi,rfl⟩:=Cl.1 hu
    have hl:=k4.1
    obtain ⟨u',h6,h7,_⟩:=k4.2 i (vs[i]'(by omega)) (Ac _)
    rw [Ac hi] at h6
    rw [Ba h6];exact h7
  unfold kD at qQ
  split at qQ
  ·exact qQ.elim
  rename_i l hl
  split at qQ
  ·exact qQ.elim
  rename_i as ml gV
  split at qQ
  rotate_left
  ·exact qQ.elim
  rename_i r' ls o' NC qP
  obtain ⟨Jn,yD,hro⟩:=qQ
  simp only [Af,Ni] at Jn
  obtain ⟨⟨⟨SM,Ayb⟩,Awg⟩,Ans⟩:=Jn
  simp only [Ad] at hro
  obtain ⟨rfl,rfl⟩:=hro
  obtain ⟨bv,hbv,Asp,Asn⟩:=hbc qP
  have NA:=Yi SM
  obtain ⟨n1,n2,n3⟩:=Cy.1 NA
  obtain ⟨m1,m2,m3⟩:=Cy.1 n1
  obtain ⟨vs,v1,v2,v3,v4⟩:=Yk hT h' _ _ hl
  have hrs:fn.results=fn.results.toList.toArray:=Array.toArray_toList.symm
  have Vt: ∀v,(if h:vs.toArray.size=1 then vs.toArray[0] else .tuple vs.toArray)=v->(results fn a'.tmps).run P w'= .ok v w':=by
   intro v hv
   rw [fK,hrs,List.mapM_toArray]
   simp only [map_eq_pure_bind,bind_assoc,pure_bind]
   simp only [Sem.run_bind,JC (PR a'.tmps) _ vs v1 v3,Result.andThen_ok,Sem.run_pure]
   rw [hv]
  obtain ⟨xO,v,qm,Au8,hv,hqm⟩: ∃xO v qm,My ⟨w,Sg,Uf rU,π0⟩ w' cz st.heap as xO/\(results fn a'.tmps).run P w'= .ok v w'/\
    ((s.rp=none/\ml= []/\qm=none/\Ac7 s.He s.Ih xO v/\dd s.Ih xO)\/
     ∃tid m q,s.rp=some tid/\ml= [m]/\m<Bn/\qm=some q/\cz m=some q/\q.Cu q.g/\w'.heap[q.g]?=some (.cells xO.toArray tid (0,0))/\(∀u∈xO,u.oneCell'=true)/\v= .pointer (some ⟨q.g,0,none⟩)):=by
   unfold PQ at gV
   split at gV
   ·rename_i LL
    split at gV
    rotate_left
    ·cases gV
    rename_i hmul
    cases p6:ungroup s.Ih l with
    |none=>rw [p6] at gV;cases gV
    |some as'=>
     rw [p6] at gV
     simp only [Am,Aa,Ad] at gV
     obtain ⟨rfl,rfl⟩:=gV
     obtain ⟨xO,e1,e2,e3⟩:=ar s.Ih l vs as' (by omega) v4 p6
     have hv: ∃v,(results fn a'.tmps).run P w'= .ok v w'/\Ac7 s.He s.Ih xO v:=by
      unfold Ac7
      rw [<-e1,hmul]
      rcases Nat.lt_or_ge 1 l.length with h1|h1
      ·have AA:Nat.blt 1 l.length=true:=by simpa using h1
       simp only [AA,Pn]
       refine ⟨.tuple vs.toArray,Vt _ ?_,rfl⟩
       rw [dif_neg (by simp;omega)]
      ·have AA:Nat.blt 1 l.length=false:=by rw [<-Ii];simpa using h1
       simp only [AA,Dh,Tt]
       rcases vs with _|⟨v,_|⟨v',vs⟩⟩
       ·exact ⟨_,Vt _ (by simp;rfl), .inr rfl⟩
       ·exact ⟨v,Vt _ (by simp), .inl rfl⟩
       ·exfalso;simp only [Az] at v1;omega
     obtain ⟨v,hv1,hv2⟩:=hv
     exact ⟨xO,v,none,e3,hv1, .inl ⟨LL,rfl,rfl,hv2,e2⟩⟩
   ·rename_i tid LL
    split at gV
    rotate_left
    ·cases gV
    rename_i m i
    split at gV
    rotate_left
    ·cases gV
    rename_i Vb vs' hm
    split at gV
    rotate_left
    ·cases gV
    rename_i hc
    obtain ⟨rfl,rfl,hmp⟩:=hc
    simp only [Aa,Ad] at gV
    obtain ⟨rfl,rfl⟩:=gV
    unfold St.at at hm
    rcases vs with _|⟨v,_|⟨v',vs⟩⟩
    ·exfalso;simp only [Az,Gd] at v1 v2;omega
    ·obtain ⟨q,Bam,vs2,q1,q2,q3⟩:=v4 0 _ v rfl rfl
     rw [hm] at q1;cases q1
     obtain ⟨q',k1,k2,cur,k3,k4⟩:=(h'.1.heap m).Qm hm
     rw [q2] at k1;cases k1
     refine ⟨cur.toList,v,some q,My.of k4,Vt _ (by simp), .inr ⟨_,m,q,LL,rfl,by simpa using hmp,rfl,q2,k2,by simpa using k3,λu hu=>?_,q3⟩⟩
     obtain ⟨i,hi,rfl⟩:=Cl.1 hu
     have hl:=k4.1
     obtain ⟨u',h6,h7,_⟩:=k4.2 i (vs'[i]'(by omega)) (Ac _)
     rw [Ac hi] at h6
     rw [Ba h6];exact h7
    ·exfalso;simp only [Az,Gd] at v1 v2;omega
  obtain ⟨EG,p1,p2,p3,p4,p5⟩:=yW h'.1 s.outs 0 (bc++as) (bv++xO) r' ls (hbv.append Au8) NC m2
  obtain ⟨io1,io2⟩:=Uq (π0:=rU) h'.1 (λ_=>rfl) s.ins 0 x us o' Ajb qP
  have Ang:(bv++xO).drop s.aa=xO:=by rw [<-Asp];simp
  let ρ:Pi:= λl0=>if l0=Jp s.outs.length then qm else EG l0
  have Ak9:ρ (Jp s.outs.length)=qm:=Ab rfl
  have Aoz: ∀l0,l0≠Jp s.outs.length->ρ l0=EG l0:= λl0 h=>Ag h
  have Aoy: ∀j,j<s.outs.length->ρ (Jp j)=EG (Jp j):= λj hj=>Aoz _ (by unfold Jp;omega)
  have wC: ∀l0 q,ρ l0=some q->(l0=Jp s.outs.length/\qm=some q)\/(l0≠Jp s.outs.length/\EG l0=some q):= λl0 q h=>by
   by_cases e:l0=Jp s.outs.length
   ·subst e;rw [Ak9] at h;exact .inl ⟨rfl,h⟩
   ·rw [Aoz l0 e] at h;exact .inr ⟨e,h⟩
  have Ao8: ∀q,qm=some q-> ∃m,ml= [m]/\m<Bn/\cz m=some q:= λq hq=>by
   rcases hqm with ⟨_,_,h1,_⟩|⟨_,m,q',_,h1,h2,h3,h4,_⟩
   ·rw [h1] at hq;cases hq
   ·rw [h3] at hq;cases hq;exact ⟨m,h1,h2,h4⟩
  have p3': ∀l0 q b,ρ l0=some q->q.Cu b-> ∃l1∈ml++ls,∃p,cz l1=some p/\p.cl b/\((s.outs.all λc=>!c.isX)=true->p.Cu b)/\((l1∈ls)\/l1<Bn):= λl0 q b h1 h2=>by
   rcases wC l0 q h1 with ⟨_,h3⟩|⟨_,h3⟩
   ·obtain ⟨m,e1,e2,e3⟩:=Ao8 q h3
    exact ⟨m,by rw [e1];simp,q,e3,h'.1.sub m q b e3 h2,λ_=>h2, .inr e2⟩
   ·obtain ⟨l1,g1,p,g2,g3,g4⟩:=p3 l0 q b h3 h2
    exact ⟨l1,Bu _ g1,p,g2,g3,g4, .inl g1⟩
  have p4': ∀l0 l1 q q' b,ρ l0=some q->ρ l1=some q'->q.Cu b->q'.Cu b->l0=l1:= λl0 l1 q q' b h1 h2 h3 h4=>by
   have FI: ∀l0 q q' b,EG l0=some q->qm=some q'->q.Cu b->q'.Cu b->False:= λl0 q q' b h1 h2 h3 h4=>by
    obtain ⟨m,e1,e2,e3⟩:=Ao8 q' h2
    obtain ⟨l1,g1,p,g2,g3,_⟩:=p3 l0 q b h1 h3
    have:=h'.1.inj m l1 q' p b e3 g2 (h'.1.sub m q' b e3 h4) g3
    exact m3 m (by rw [e1];simp) l1 g1 this
   rcases wC l0 q h1 with ⟨e1,h5⟩|⟨e1,h5⟩<;>rcases wC l1 q' h2 with ⟨e2,h6⟩|⟨e2,h6⟩
   ·rw [e1,e2]
   ·exact (FI l1 q' q b h6 h5 h4 h3).elim
   ·exact (FI l0 q q' b h5 h6 h3 h4).elim
   ·exact p4 l0 l1 q q' b h5 h6 h3 h4
  have SQ: ∀l0 q,Bn<=l0->rU l0=some q->Au st.heap l0≠none/\(l0∈Qb 0 s.ins\/ ∃b,Au st.heap l0=some b/\b.row=none):= λl0 q h1 h2=>by
   rcases XT l0 q h2 with ⟨h3,_⟩|⟨h3,rfl,_⟩
   ·have AB:=yK s.ins 0 x l0 Anx (by omega) (λhnn=>by rw [Aa3 l0 hnn] at h3;cases h3) (by omega)
    exact ⟨io2 l0 AB, .inl AB⟩
   ·obtain ⟨b,h4,h5⟩:=Auc h3
    exact ⟨by rw [h4];simp, .inr ⟨b,h4,h5⟩⟩
  have hDO:(s.outs.all λc=>!c.isX)=true-> ∀b,gQ Sg rU ρ b->Uf cz b\/Sg b:=by
   intro hx b hb
   rcases hb with hb|⟨l0,q,h1,h2,h3⟩|⟨l0,q,h1,h2⟩
   ·exact .inr hb
   ·have hs:=h'.1.ia l0 h1 (SQ l0 q h1 h2).1
    have hs:bO ((rU l0).map full) (cz l0):=hs
    rw [h2] at hs
    cases yE:cz l0 with
    |none=>rw [yE] at hs;exact hs.elim
    |some q1=>rw [yE] at hs;exact .inl ⟨l0,q1,yE,(hs.2.2.2 b).1 h3⟩
   ·obtain ⟨m,_,p,hm2,_,hm4,_⟩:=p3' l0 q b h1 h2
    exact .inl ⟨m,p,hm2,hm4 hx⟩
  have hDD: ∀b,gQ S π ρ b->gQ Sg rU ρ b:= λb hb=>by
   rcases hb with hb|⟨l0,q,h1,h2,h3⟩|hb
   ·by_cases yA:s.gv g b
    ·obtain ⟨hps,rfl⟩:=yA
     exact .inr (.inl ⟨Pc,_,Ahn,Ab ⟨hps,rfl⟩,rfl⟩)
    ·exact .inl ⟨hb,yA⟩
   ·refine .inr (.inl ⟨l0,q,h1,?_,h3⟩)
    show (if s.ptr.isSome=true/\l0=Pc then _ else π l0)=some q
    rw [Ag]
    ·exact h2
    ·rintro ⟨_,rfl⟩
     rw [Aa3 Pc Ak4] at h2;cases h2
   ·exact .inr (.inr hb)
  have YP:s.flat=true\/(s.outs.all λc=>!c.isX)=true:=by unfold MSpec.Abi at Ans;simpa only [Kb] using Ans
  have io1:Lo w' (gQ S π ρ) π 0 s.ins o':=by
   refine Lo.congr s.ins 0 o' Ahh ?_
   rcases YP with hf|hf
   ·unfold MSpec.flat at hf
    simp only [Af] at hf
    exact Lo.any s.ins 0 o' hf.2 io1
   ·exact Lo.Im (λb hb=>hDO hf b (hDD b hb)) s.ins 0 o' io1
  have p1:Jb w' (gQ S π ρ) ρ 0 s.outs r' (bv++xO):=by
   have p1:Jb w' (λb=>Uf cz b\/Sg b) ρ 0 s.outs r' (bv++xO):=Jb.ZS s.outs 0 r' _ (λj _ hj=>Aoy j (by omega)) p1
   rcases YP with hf|hf
   ·unfold MSpec.flat at hf
    simp only [Af] at hf
    exact Jb.any s.outs 0 r' (bv++xO) hf.1 p1
   ·exact Jb.Im (λb hb=>hDO hf b (hDD b hb)) s.outs 0 r' (bv++xO) p1
  refine ⟨v,bv++xO,ρ,h'.2.defers,hv,?_,Asn xO,⟨h'.1.below.os,h'.1.below.tape,h'.1.below.output,h'.1.below.size,λk hk hn=>h'.1.below.block k hk λho=>hn ((a5 k).1 ho)⟩,io1,p1,⟨λl0 q b h1 h2=>?_,p4'⟩,λl0 hl0=>?_,λkj YS=>?_⟩
  ·rw [Ang]
   unfold qy
   rcases hqm with ⟨h1,_,_,h2⟩|⟨tid,m,q,h1,_,_,h3,_,h4,h5,h6,h7⟩
   ·rw [h1];exact h2
   ·rw [h1];exact ⟨q,by rw [Ak9,h3],h4,h5,h6,h7⟩
  ·obtain ⟨m,hm1,p,hm2,hm3,_,hm4⟩:=p3' l0 q b h1 h2
   obtain ⟨k1,k2⟩:=h'.1.place m p b hm2 hm3
   refine ⟨k2,k1.imp id λ⟨c0,q0,h5,h6⟩=>?_⟩
   have It:c0<Bn:=Ce λhn=>by
    obtain ⟨Ik,AB⟩:=SQ c0 q0 (by omega) h5
    have hs:=h'.1.ia c0 (by omega) Ik
    have hs:bO ((rU c0).map full) (cz c0):=hs
    rw [h5] at hs
    cases yE:cz c0 with
    |none=>rw [yE] at hs;exact hs.elim
    |some q1=>
     rw [yE] at hs
     have hf1:q1.Cu b:=(hs.2.2.2 b).1 h6
     have:=h'.1.inj c0 m q1 p b yE hm2 (h'.1.sub c0 q1 b yE hf1) hm3
     subst this
     rcases hm4 with hm4|hm4
     ·rcases AB with AB|⟨b1,AA,hb2⟩
      ·exact n3 c0 hm1 c0 AB rfl
      ·obtain ⟨b2,hb3,hb4⟩:=uS s.outs _ _ _ NC c0 hm4
       rw [AA] at hb3;cases hb3
       exact hb4 hb2
     ·exact hn hm4
   refine ⟨c0,q0,It,?_,h6⟩
   rcases XT c0 q0 h5 with ⟨h7,_⟩|⟨_,h7,_⟩
   ·exact h7
   ·omega
  ·cases hp:ρ l0 with
   |none=>rfl
   |some q=>
    rcases wC l0 q hp with ⟨e,h3⟩|⟨_,h3⟩
    ·refine absurd e (hl0 _ ?_)
     rcases hqm with ⟨_,_,h4,_⟩|⟨tid,m,q',h4,_⟩
     ·rw [h4] at h3;cases h3
     ·unfold MSpec.Ua;rw [h4];simp
    ·obtain ⟨j,_,j2,j3⟩:=p2 l0 q h3
     exact absurd j3 (hl0 j (by unfold MSpec.Ua;omega))
  ·obtain ⟨l0,off,len,e,te,rows,out,p,q1,q2,q3,q4,q5⟩:=yN yD kj YS
   have hj:kj.2<s.outs.length:=by
    rw [<-yV s.outs _ _ _ NC]
    exact (An.1 q1).1
   have e1:=p5 kj.2 l0 off len e te rows out (some p) q1 q2
   rw [Bv] at e1
   rw [Aoy _ hj,e1]
   have hk:=((h'.1.heap l0).Qm q2).2
   obtain ⟨l1,n1⟩:=p
   simp only [KeptAt] at hk
   dsimp only at q3 q4
   subst q3
   have UY:π0 (Ds false kj.1)=(π (Ds false kj.1)).map full:=by
    show (if s.ptr.isSome=true/\Ds false kj.1=Pc then _ else π (Ds false kj.1)).map full=_
    rw [Ag λh=>hvl false kj.1 q5 h.2]
   rw [UY] at hk
   unfold yf
   cases hp:π (Ds false kj.1) with
   |none=>
    rw [hp] at hk
    cases yE:cz l0 with
    |none=>trivial
    |some q=>rw [yE] at hk;exact hk.elim
   |some q0=>
    rw [hp] at hk
    cases yE:cz l0 with
    |none=>rw [yE] at hk;exact hk.elim
    |some q=>
     rw [yE] at hk
     obtain ⟨k1,k2,k3,k4⟩:=hk
     exact ⟨k1,k2,k3,λj hj hc=>k4 j (by omega) hc⟩
 refine calls_of_wp hf hb ?_
 refine (vA hT Pl hm he _ w _ h0 λe st a' w' ⟨Ik,sf⟩ h'=>?_).1
 obtain ⟨v,Sf,ρ,p1,p2,p3⟩:=fin st a' w' sf h'
 cases e with
 |normal=>exact ⟨p1,v,p2,v,Sf,ρ,rfl,p3⟩
 |ret=>exact ⟨p1,v,p2,v,Sf,ρ,rfl,p3⟩
 |exit id=>exact absurd rfl (Ik id)
end
end Go.Proofs.YtfolipnappekaaaGreat
