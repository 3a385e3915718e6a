/-
  Part 27 of the proof that the statement FnSubgroups holds.
-/
import Derived.Test.YtkkdpknjohcekaaCFSubgroups25
namespace Go.Proofs.Ytkkdpknjohcekaa
open Go.RowKit
section
variable {P:Program} {T:Tab} {Γ:Env} {X:Ctx} {w w':World} {π:Pi} {H:List (Nat×OB)}
theorem tM: ∀(cs:List (Bool×CK)) (k:Nat) (x:Ins.den cs) (l:Nat),Aw (Zv k cs x) l≠none-> ∃b j,k<=j/\j<k+cs.length/\l=Ed b j
 | [],_,_,_,h=>absurd rfl h
 |p::r,k,x,l,h=>by
  simp only [Zv] at h
  by_cases e:l=Ed p.1 k
  ·exact ⟨p.1,k,Aq _,by simp,e⟩
  ·have:Aw (Zv (k+1) r x.2) l≠none:=by
    cases hc:kQ (Ed p.1 k) p.2 x.1 with
    |none=>rw [hc] at h;exact h
    |some b=>rw [hc] at h;simpa only [iM,Aw,Ak (Gb e)] using h
   obtain ⟨b,j,h1,h2,h3⟩:=tM r (k+1) x.2 l this
   exact ⟨b,j,by omega,by simp;omega,h3⟩
theorem UD {p:Bool×CK} {r:List (Bool×CK)} {k:Nat} {x:Ins.den (p::r)} (hk:k+(r.length+1)<100000) {l:Nat} {b:OB} (h:Aw (Zv (k+1) r x.2) l=some b):Aw (Zv k (p::r) x) l=some b:=by
 obtain ⟨b',j,h1,h2,rfl⟩:=tM r (k+1) x.2 l (by rw [h];simp)
 simp only [Zv]
 cases kQ (Ed p.1 k) p.2 x.1 with
 |none=>exact h
 |some c=>simp only [iM,Aw];rw [Ak (SK (by omega) (by omega) (by omega))];exact h
theorem YR {D:Nat->Prop} (hD: ∀b,De X.w0.heap.size X.Sc π false b->D b) (hw0:X.w0=w) {l:Nat} {r:Option Real} (Zu:X.iu l=r.map full) {u:Value} {c:CK} {x:c.den} (h:eX w D r u c x) {b:OB} (hb:kQ l c x=some b):Cn X w π H (r.map full) b:=by
 have We: ∀ {e:Ty} {es:List Value} {y:e.den},Cells w D e es y->Cells w (De X.w0.heap.size X.Sc π false) e es y:= λ {e es y} h=>Cells.Fm (Aq _) (λ_ _ _=>rfl) (λb _ hb=>hD b hb) e es y h
 cases c with
 |Fe τ=>cases hb
 |row e te=>
  simp only [kQ,Aa] at hb;subst hb
  obtain ⟨_,h⟩:=h
  simp only [gz] at h
  simp only [Cn,Jt]
  cases r with
  |none=>exact h
  |some q=>
   obtain ⟨k1,cu,ti,k2,k3,k4,k5,k6⟩:=h
   exact ⟨⟨k1.1,k1.2,λh=>by cases h⟩,cu,ti,k2,k3,k4,k5,λi y hy=>by
    obtain ⟨es,g1,g2,g3⟩:=k6 i y hy
    exact ⟨es,g1,g2,We g3⟩,λh=>by cases h⟩
 |Ho e te=>
  simp only [kQ,Aa] at hb;subst hb
  cases r<;>exact h.2
 |part e te=>
  simp only [kQ,Aa] at hb;subst hb
  obtain ⟨_,hf,h⟩:=h
  simp only [Cn,Jt]
  cases r with
  |none=>exact h
  |some q=>
   obtain ⟨k1,cu,ti,k2,k3,k4,k5,k6⟩:=h
   exact ⟨⟨k1.1,k1.2,λh=>by cases h⟩,cu,ti,k2,k3,k4,k5,λi y hy=>by
    obtain ⟨es,g1,g2,g3⟩:=k6 i y hy
    exact ⟨es,g1,g2,We g3⟩,λh=>by cases h⟩
 |Bo e te kp=>
  simp only [kQ,Aa] at hb;subst hb
  have h2:aC w D r e x none:=h.2
  have h3:=aC.Ii h2 hD
  refine ⟨by cases r<;>exact h3,?_⟩
  cases kp with
  |false=>trivial
  |true=>
   simp only [Ny,KeptAt]
   rw [Zu]
   cases r with
   |none=>trivial
   |some q=>exact ⟨rfl,rfl,rfl,λj _ _=>by rw [hw0]⟩
theorem mz {D:Nat->Prop} (hD: ∀b,De X.w0.heap.size X.Sc π false b->D b) (hw0:X.w0=w) {π0:Pi} (Zu: ∀l,X.iu l=(π0 l).map full): ∀(cs:List (Bool×CK)) (k:Nat) (x:Ins.den cs) (us:List Value),eY w D π0 k cs x us-> ∀l b,Aw (Zv k cs x) l=some b->Cn X w π H ((π0 l).map full) b
 | [],_,_,_,_,_,_,h=>by cases h
 |_::_,_,_,[],h,_,_,_=>h.elim
 |p::r,k,x,u::us,h,l,b,hb=>by
  simp only [Zv] at hb
  cases hc:kQ (Ed p.1 k) p.2 x.1 with
  |none=>rw [hc] at hb;exact mz hD hw0 Zu r (k+1) x.2 us h.2 l b hb
  |some c=>
   rw [hc] at hb
   simp only [iM,Aw] at hb
   split at hb
   ·rename_i e;subst e
    simp only [Aa] at hb;subst hb
    exact YR hD hw0 (Zu _) h.1 hc
   ·exact mz hD hw0 Zu r (k+1) x.2 us h.2 l b hb
theorem FV {S:Nat->Prop} {π0:Pi} {gv:Nat->Prop} {iu:Pi} (ez: ∀l,π l=(π0 l).map full): ∀(cs:List (Bool×CK)) (k:Nat) (x:Ins.den cs) (us:List Value),k+cs.length<100000->eY w (λb=>Vu π0 b\/S b) π0 k cs x us->(∀l b,Aw (Zv k cs x) l=some b->Aw H l=some b)->
  Ms ⟨w,S,gv,iu⟩ w π H (bP k cs x) us
 | [],_,_,[],_,_,_=>trivial
 | [],_,_,_::_,_,h,_=>h.elim
 |_::_,_,_,[],_,h,_=>h.elim
 |p::r,k,x,u::us,hk,h,hH=>by
  simp only [Av] at hk
  refine ⟨?_,FV ez r (k+1) x.2 us (by omega) h.2 λl b hb=>hH l b (UD hk hb)⟩
  have h1:=h.1
  have hh: ∀b,kQ (Ed p.1 k) p.2 x.1=some b->Aw H (Ed p.1 k)=some b:= λb hb=>hH _ b (by simp only [Zv];rw [hb];simp [iM,Aw])
  have lq:=ez (Ed p.1 k)
  obtain ⟨io,c⟩:=p
  dsimp only at h1 hh lq⊢
  generalize x.1=y at*
  cases c with
  |Fe τ=>
   show Da w _ τ u y
   cases hf:τ.flat with
   |true=>exact Da.flat hf h1.2
   |false=>
    refine h1.2.Ii λb _ hb=>?_
    rcases hb with ⟨l,q,h3,h4⟩|hb|⟨hb,_⟩
    ·rw [ez l] at h3
     cases hp:π0 l with
     |none=>rw [hp] at h3;cases h3
     |some q0=>rw [hp] at h3;simp only [Am,Aa] at h3;subst h3;exact .inl ⟨l,q0,hp,h4⟩
    ·exact .inr hb
    ·cases hb
  |row e te=>exact ⟨_,e.size,List.length y,hh _ rfl,rfl,by simp,by rw [lq];exact a6 h1.1⟩
  |Ho e te=>exact ⟨_,e.size,List.length y,hh _ rfl,rfl,by simp,by rw [lq];exact a6 h1.1⟩
  |part e te=>exact ⟨_,e.size,List.length y.1,hh _ rfl,rfl,h1.1.2,by rw [lq];exact a6 h1.1.1⟩
  |Bo e te kp=>exact ⟨_,1,List.length y,hh _ rfl,rfl,by simp,by rw [lq];exact a6 h1.1⟩
theorem pS {p:Real} {s off len:Nat} {u:Value} {f:Nat->Prop} (h:Hs (some p) s off len u):Hs (some ⟨p.g,p.o+off,p.cap-off,f,f⟩) s 0 len u:=by
 obtain ⟨ad,h1,h2,h3⟩:=h
 exact ⟨ad,h1,by dsimp only;omega,λh0=>by dsimp only at h0;simpa using h3 (by omega)⟩
theorem um {α:Type} {xs:List α} {off len i:Nat} {x:α} (h:((xs.drop off).take len)[i]?=some x):xs[off+i]?=some x:=by
 rw [Dc] at h
 split at h
 ·rw [Db] at h;exact h
 ·cases h
theorem Xi.part {P:Nat->Prop} {g o:Nat} {cur:Array Value} {e:Ty} {xs:List e.den} (off len:Nat) (h:Xi w P g o cur e xs):Xi w P g (o+off) cur e ((xs.drop off).take len):=by
 obtain ⟨Fs,t1,t2,t3,t4⟩:=h
 refine ⟨(Fs.drop off).take len,by simp [t1],Cg.2 ⟨λhm=>(Cg.1 t2).1 (Sb off len _ hm),mK off len (Cg.1 t2).2⟩,λb hb=>t3 b (Sb off len b hb),λi x F hx hF=>?_⟩
 obtain ⟨es,k1,k2,k3⟩:=t4 (off+i) x F (um hx) (um hF)
 exact ⟨es,k1,λj u hu=>by rw [Gs o off i];exact k2 j u hu,k3⟩
theorem UU {st:St} (h:Mr X w π st.heap) {c:CK} (hg: ∀e te kp,c≠ .Bo e te kp) {a:AC} {u:Value} (hu:Hj X w π st.heap a u) {x:c.den} {ls:List Nat} (he:kV st c a=some (x,ls)):
  ∃r,eX w (λb=>Vu π b\/X.Sc b) r u c x/\ ∀q,r=some q-> ∃l p,ls= [l]/\π l=some p/\(∀b,q.Cz b->p.cl b)/\(c.isX=false-> ∀b,q.Cz b->p.Cz b):=by
 have QX: ∀ {f:Bool} (b:Nat),(Vu π b\/X.Sc b)->De X.w0.heap.size X.Sc π f b:= λb h=>h.imp id .inl
 cases c with
 |Fe τ=>
  simp only [kV] at he
  split at he
  ·rename_i hf
   cases hv:Dx st τ a with
   |none=>rw [hv] at he;cases he
   |some p=>
    obtain ⟨fr,y⟩:=p
    rw [hv] at he
    simp only [Am,Aa,Ah] at he
    obtain ⟨rfl,rfl⟩:=he
    refine ⟨none,⟨rfl,?_⟩,λq hq=>by cases hq⟩
    have Ii: ∀f,Da w (De X.w0.heap.size X.Sc π f) τ u y->Da w (λb=>Vu π b\/X.Sc b) τ u y:= λf hr=>hr.Ii λk _ hk=>QX k hk
    cases a with
    |data f Nv z=>
     rw [Nl] at hv
     split at hv
     ·rename_i ht;subst ht
      simp only [Aa,Ah] at hv
      obtain ⟨_,rfl⟩:=hv
      exact Ii f hu
     ·have Rj:τ.Ap=false:=by unfold iO at hv;split at hv<;>first|rfl|cases hv
      exact Ii _ ⟨[u],dk hv hu,by simp [Ce,Rj]⟩
    |Lp=>
     have hu:u= .slice none 0 0:=hu
     subst hu
     cases τ<;>simp only [Dx,Aa,Ah,reduceCtorEq] at hv
     ·obtain ⟨_,rfl⟩:=hv;exact ⟨[_],⟨none,0,0,rfl,rfl,Aq _, .inl rfl⟩,rfl⟩
     ·obtain ⟨_,rfl⟩:=hv;exact ⟨[_], .inl ⟨rfl,0,rfl⟩,rfl⟩
    |Vp=>
     have hu:u= .pointer none:=hu
     subst hu
     cases τ<;>simp only [Dx,Aa,Ah,reduceCtorEq] at hv
     obtain ⟨_,rfl⟩:=hv;exact ⟨[_], .inl ⟨rfl,rfl⟩,rfl⟩
    |_=>cases τ<;>simp [AC.settled,Ty.flat,Dx] at hf hv
  ·cases he
 |row e te=>
  cases a<;>simp only [kV] at he<;>try (cases he;done)
  ·simp only [Aa,Ah] at he
   obtain ⟨rfl,rfl⟩:=he
   have hu:u= .slice none 0 0:=hu
   exact ⟨none,⟨⟨hu,rfl,rfl⟩,rfl⟩,λq hq=>by cases hq⟩
  ·rename_i l off len
   split at he
   ·rename_i fr tr e' Qx xs hl
    split at he
    ·rename_i hc
     obtain ⟨rfl,rfl⟩:=hc
     simp only [Aa,Ah] at he
     obtain ⟨rfl,rfl⟩:=he
     unfold St.at at hl
     obtain ⟨h1,h2⟩:=Oc hu hl
     have hb:=(h.heap l).Rc hl
     simp only [Cn,Jt] at hb
     have hlen:((xs.drop off).take len).length=len:=by simp;omega
     cases hp:π l with
     |none=>
      rw [hp] at h2 hb
      obtain ⟨rfl,rfl,rfl⟩:=h2
      exact ⟨none,⟨⟨rfl,rfl,by simp⟩,by show (xs.drop 0).take 0= [];simp⟩,λq hq=>by cases hq⟩
     |some p=>
      rw [hp] at h2 hb
      obtain ⟨k1,cur,ti,k2,k3,k4,k5,k6,_⟩:=hb
      have ho:=h2
      obtain ⟨ad,_,tz,_⟩:=h2
      refine ⟨some ⟨p.g,p.o+off,p.cap-off,p.Cz,p.Cz⟩,⟨by rw [hlen];exact pS ho,⟨k1.1,k1.2.1⟩,cur,ti,k2,by rw [k3];congr 1;dsimp only;omega,by dsimp only;omega,by rw [hlen];dsimp only;omega,λi y hy=>?_⟩,
       fun q hq=>by cases hq;exact ⟨l,p,rfl,hp,λb hb=>h.sub l p b hp hb,λ_ b hb=>hb⟩⟩
      obtain ⟨es,g1,g2,g3⟩:=k6 (off+i) y (um hy)
      exact ⟨es,g1,λj u hu=>by dsimp only;rw [Gs p.o off i];exact g2 j u hu,Cells.Fm (Aq _) (λ_ _ _=>rfl) (λb _ hb=>QX b hb) e' es y g3⟩
    ·cases he
   ·cases he
 |Ho e te=>
  cases a<;>simp only [kV] at he<;>try (cases he;done)
  ·simp only [Aa,Ah] at he
   obtain ⟨rfl,rfl⟩:=he
   have hu:u= .slice none 0 0:=hu
   exact ⟨none,⟨⟨hu,rfl,rfl⟩,rfl⟩,λq hq=>by cases hq⟩
  ·rename_i l off len
   split at he
   ·rename_i fr tr e' Qx xs hl
    split at he
    ·rename_i hc
     obtain ⟨rfl,rfl,hf⟩:=hc
     simp only [Aa,Ah] at he
     obtain ⟨rfl,rfl⟩:=he
     unfold St.at at hl
     obtain ⟨h1,h2⟩:=Oc hu hl
     have hb:=(h.heap l).Rc hl
     simp only [Cn,Jt] at hb
     have hlen:((xs.drop off).take len).length=len:=by simp;omega
     cases hp:π l with
     |none=>
      rw [hp] at h2 hb
      obtain ⟨rfl,rfl,rfl⟩:=h2
      exact ⟨none,⟨⟨rfl,rfl,by simp⟩,by show (xs.drop 0).take 0= [];simp⟩,λq hq=>by cases hq⟩
     |some p=>
      rw [hp] at h2 hb
      obtain ⟨k1,cur,ti,k2,k3,k4,k5,k6,k7⟩:=hb
      have ho:=h2
      obtain ⟨ad,_,tz,_⟩:=h2
      have ht:Xi w p.cl p.g p.o cur e' xs:=by
       simp only [Jz] at hf
       rcases hf with hf|hf
       ·exact k7 hf
       ·exact nO hf k6
      exact ⟨some ⟨p.g,p.o+off,p.cap-off,p.cl,p.cl⟩,⟨by rw [hlen];exact pS ho,h.sub l p _ hp k1.1,cur,ti,k2,by rw [k3];congr 1;dsimp only;omega,by dsimp only;omega,by rw [hlen];dsimp only;omega,ht.part off len⟩,
       fun q hq=>by cases hq;exact ⟨l,p,rfl,hp,λb hb=>hb,λhx=>by cases hx⟩⟩
    ·cases he
   ·rename_i e' Qx xs hl
    split at he
    ·rename_i hc
     obtain ⟨rfl,rfl⟩:=hc
     simp only [Aa,Ah] at he
     obtain ⟨rfl,rfl⟩:=he
     unfold St.at at hl
     obtain ⟨h1,h2⟩:=bZ hu hl
     have hb:=(h.heap l).Rc hl
     simp only [Cn,No] at hb
     have hlen:((xs.drop off).take len).length=len:=by simp;omega
     cases hp:π l with
     |none=>
      rw [hp] at h2 hb
      obtain ⟨rfl,rfl,rfl⟩:=h2
      exact ⟨none,⟨⟨rfl,rfl,by simp⟩,by show (xs.drop 0).take 0= [];simp⟩,λq hq=>by cases hq⟩
     |some p=>
      rw [hp] at h2 hb
      obtain ⟨k1,cur,ti,k2,k3,k4,k5,ht⟩:=hb
      have ho:=h2
      obtain ⟨ad,_,tz,_⟩:=h2
      exact ⟨some ⟨p.g,p.o+off,p.cap-off,p.Cz,p.Cz⟩,⟨by rw [hlen];exact pS ho,k1,cur,ti,k2,by rw [k3];congr 1;dsimp only;omega,by dsimp only;omega,by rw [hlen];dsimp only;omega,ht.part off len⟩,
       fun q hq=>by cases hq;exact ⟨l,p,rfl,hp,λb hb=>h.sub l p b hp hb,λ_ b hb=>hb⟩⟩
    ·cases he
   ·cases he
 |part e te=>cases a<;>simp [kV] at he
 |Bo e te kp=>exact absurd rfl (hg e te kp)
theorem Ab4 {st:St} (h:Mr X w π st.heap) {c:CK} {a:AC} {u:Value} (hu:Hj X w π st.heap a u) {x:c.den} {ls:List Nat} (he:kV st c a=some (x,ls)):
  ∃r,eX w (λb=>Vu π b\/X.Sc b) r u c x/\(∀q,r=some q-> ∃l p,ls= [l]/\π l=some p/\(∀b,q.Cz b->p.cl b)/\(c.isX=false-> ∀b,q.Cz b->p.Cz b))/\
   (∀l off len e te rows out kp,a= .own l off len->Aw st.heap l=some (.Bo e te rows out kp)->r=π l):=by
 have vP:(∀e te kp,c≠ .Bo e te kp)->(∀l off len e te rows out kp,a=AC.own l off len->Aw st.heap l=some (OB.Bo e te rows out kp)->False)->
   ∃r,eX w (λb=>Vu π b\/X.Sc b) r u c x/\(∀q,r=some q-> ∃l p,ls= [l]/\π l=some p/\(∀b,q.Cz b->p.cl b)/\(c.isX=false-> ∀b,q.Cz b->p.Cz b))/\
   (∀l off len e te rows out kp,a= .own l off len->Aw st.heap l=some (.Bo e te rows out kp)->r=π l):= λh1 h2=>by
  obtain ⟨r,g1,g2⟩:=UU h h1 hu he
  exact ⟨r,g1,g2,λl off len e te rows out kp h3 h4=>(h2 l off len e te rows out kp h3 h4).elim⟩
 cases c with
 |Fe τ=>
  refine vP (λ_ _ _ h=>by cases h) λl off len e te rows out kp h3 h4=>?_
  subst h3
  simp only [kV] at he
  split at he
  ·rename_i hf
   cases τ<;>simp [AC.settled,Ty.flat,Dx] at hf he
  ·cases he
 |row e te=>
  refine vP (λ_ _ _ h=>by cases h) λl off len e te rows out kp h3 h4=>?_
  subst h3
  simp only [kV,St.at,h4] at he
  cases he
 |Ho e te=>
  refine vP (λ_ _ _ h=>by cases h) λl off len e te rows out kp h3 h4=>?_
  subst h3
  simp only [kV,St.at,h4] at he
  cases he
 |part e te=>cases a<;>simp [kV] at he
 |Bo e te kp=>
  cases a<;>simp only [kV] at he<;>try (cases he;done)
  rename_i l off len
  split at he
  ·rename_i e' Qx rows kp' hl
   split at he
   ·rename_i hc
    obtain ⟨rfl,rfl,rfl,rfl⟩:=hc
    simp only [Aa,Ah] at he
    obtain ⟨rfl,rfl⟩:=he
    unfold St.at at hl
    obtain ⟨b,sz,n,h1,h2,_,h3⟩:=hu
    rw [hl] at h1;cases h1
    simp only [OB.row,Aa,Ah] at h2
    obtain ⟨rfl,rfl⟩:=h2
    have hb:=((h.heap l).Rc hl).1
    refine ⟨π l,⟨h3,aC.Ii hb λb hb=>hb.imp id .inl⟩,λq hq=>⟨l,q,rfl,hq,λb hb=>h.sub l q b hq hb,λ_ b hb=>hb⟩,λl' Bai Av6 _ _ _ _ _ he _=>?_⟩
    simp only [AC.own.injEq] at he
    rw [he.1]
   ·cases he
  ·cases he
theorem Iv.congr {D:Nat->Prop} {ρ ρ':Pi} : ∀(cs:List CK) (k:Nat) (x:CKs.den cs) (us:List Value),(∀j,k<=j->ρ' (Jw j)=ρ (Jw j))->Iv w D ρ k cs x us->Iv w D ρ' k cs x us
 | [],_,_,[],_,h=>h
 | [],_,_,_::_,_,h=>h.elim
 |_::_,_,_,[],_,h=>h.elim
 |c::r,k,x,u::us,he,h=>⟨by rw [he k (Aq _)];exact h.1,Iv.congr r (k+1) x.2 us (λj hj=>he j (by omega)) h.2⟩
theorem xV {st:St} (h:Mr X w π st.heap): ∀(cs:List CK) (k:Nat) (as:List AC) (us:List Value) (x:CKs.den cs) (ls:List Nat),Ms X w π st.heap as us->Vg st cs as=some (x,ls)->ls.Nodup->
  ∃ρ:Pi,Iv w (λb=>Vu π b\/X.Sc b) ρ k cs x us/\(∀l q,ρ l=some q-> ∃j,k<=j/\j<k+cs.length/\l=Jw j)/\(∀l q b,ρ l=some q->q.Cz b-> ∃l0∈ls,∃p,π l0=some p/\p.cl b/\((cs.all λc=>!c.isX)=true->p.Cz b))/\
   (∀l l' q q' b,ρ l=some q->ρ l'=some q'->q.Cz b->q'.Cz b->l=l')/\
   (∀(j l off len:Nat) e te rows out kp,as[j]?=some (.own l off len)->Aw st.heap l=some (.Bo e te rows out kp)->ρ (Jw (k+j))=π l)
 | [],k,[],[],x,ls,_,he,_=>by
  simp only [Vg,Aa,Ah] at he
  exact ⟨λ_=>none,trivial,(λl q h=>by cases h),(λl q b h=>by cases h),(λl l' q q' b h=>by cases h),λj l off len e te rows out kp h=>by simp at h⟩
 | [],_,[],_::_,_,_,h,_,_=>h.elim
 | [],_,_::_,_,_,_,_,he,_=>by simp [Vg] at he
 |_::_,_,[],_,_,_,_,he,_=>by simp [Vg] at he
 |_::_,_,_::_,[],_,_,h,_,_=>h.elim
 |c::r,k,a::as,u::us,x,ls,hr,he,rS=>by
  simp only [Vg] at he
  split at he
  ·rename_i x1 t1 x2 t2 h1 h2
   simp only [Aa,Ah] at he
   obtain ⟨rfl,rfl⟩:=he
   obtain ⟨n1,n2,n3⟩:=Eb.1 rS
   obtain ⟨ρ,g1,g2,g3,g4,g5⟩:=xV h r (k+1) as us x2 t2 hr.2 h2 n2
   obtain ⟨rr,r1,r2,r3⟩:=Ab4 h hr.1 h1
   have EH: ∀l q q0 b,ρ l=some q->rr=some q0->q.Cz b->q0.Cz b->False:= λl q q0 b h3 h4 h5 h6=>by
    obtain ⟨l0,m0,p,p1,p2,_⟩:=g3 l q b h3 h5
    obtain ⟨l1,p',e1,p1',p2',_⟩:=r2 q0 h4
    have:=h.inj l0 l1 p p' b p1 p1' p2 (p2' b h6)
    exact n3 l1 (by rw [e1];simp) l0 m0 this.symm
   refine ⟨λl=>if l=Jw k then rr else ρ l,⟨by simpa using r1,Iv.congr r (k+1) x2 us (λj hj=>Ak (by unfold Jw;omega)) g1⟩,λl q hq=>?_,λl q b hq hb=>?_,λl l' q q' b h3 h4 h5 h6=>?_,λj l off len e te rows out kp hj hl=>?_⟩
   ·dsimp only at hq
    by_cases e:l=Jw k
    ·exact ⟨k,Aq _,by simp,e⟩
    ·rw [Ak e] at hq
     obtain ⟨j,j1,j2,j3⟩:=g2 l q hq
     exact ⟨j,by omega,by simp;omega,j3⟩
   ·dsimp only at hq
    by_cases e:l=Jw k
    ·rw [Ab e] at hq
     obtain ⟨l1,p',e1,p1',p2',p3'⟩:=r2 q hq
     exact ⟨l1,by rw [e1];simp,p',p1',p2' b hb,λhx=>p3' (by simp only [Jb,Ai,Ew] at hx;exact hx.1) b hb⟩
    ·rw [Ak e] at hq
     obtain ⟨l0,m0,p,p1,p2,p3⟩:=g3 l q b hq hb
     exact ⟨l0,Cm _ m0,p,p1,p2,λhx=>p3 (by simp only [Jb,Ai] at hx;exact hx.2)⟩
   ·dsimp only at h3 h4
    by_cases e:l=Jw k<;>by_cases e':l'=Jw k
    ·rw [e,e']
    ·rw [Ab e] at h3;rw [Ak e'] at h4
     exact (EH l' q' q b h4 h3 h6 h5).elim
    ·rw [Ak e] at h3;rw [Ab e'] at h4
     exact (EH l q q' b h3 h4 h5 h6).elim
    ·rw [Ak e] at h3;rw [Ak e'] at h4
     exact g4 l l' q q' b h3 h4 h5 h6
   ·rcases j with _|j
    ·simp only [Bz,Aa] at hj
     show (if Jw k=Jw k then rr else ρ (Jw k))=π l
     rw [Ab rfl]
     exact r3 l off len e te rows out kp hj hl
    ·have:=g5 j l off len e te rows out kp (by simpa using hj) hl
     show (if Jw (k+(j+1))=Jw k then rr else ρ (Jw (k+(j+1))))=π l
     rw [Ak (by unfold Jw;omega),<-this,show k+(j+1)=k+1+j by omega]
  ·cases he
theorem IF {r r':Option Real} (h:bw (r.map full) r') {e:Ty} {xs:List e.den} {te:TypeId} {fr tr:Bool} (ha:Jt X w π r' fr tr e te xs):Sv w (λb=>Vu π b\/X.Sc b) r e xs:=by
 cases r with
 |none=>cases r' with
  |none=>exact ha
  |some q=>exact h.elim
 |some p=>cases r' with
  |none=>exact h.elim
  |some q=>
   obtain ⟨e1,e2,e3,e4⟩:=h
   obtain ⟨k1,cur,ti,k2,k3,k4,k5,k6,_⟩:=ha
   have e1:p.g=q.g:=e1
   have e2:p.o=q.o:=e2
   have e3:p.cap=q.cap:=e3
   refine ⟨⟨by rw [e1];exact (e4 _).2 k1.1,λb hb=>by rw [e1];exact k1.2.1 b ((e4 b).1 hb)⟩,cur,ti,by rw [e1];exact k2,by rw [e2,e3];exact k3,by rw [e3];exact k4,by rw [e3];exact k5,λi y hy=>?_⟩
   obtain ⟨es,g1,g2,g3⟩:=k6 i y hy
   exact ⟨es,g1,by rw [e2];exact g2,Cells.Fm (Aq _) (λ_ _ _=>rfl) (λb _ hb=>hb.imp id .inl) e es y g3⟩
theorem VU {r r':Option Real} (h:bw (r.map full) r') {e:Ty} {xs:List e.den} {te:TypeId} (ha:No w r' e te xs):No w r e te xs:=by
 cases r with
 |none=>cases r' with
  |none=>exact ha
  |some q=>exact h.elim
 |some p=>cases r' with
  |none=>exact h.elim
  |some q=>
   obtain ⟨e1,e2,e3,e4⟩:=h
   obtain ⟨k1,cur,ti,k2,k3,k4,k5,Fs,t1,t2,t3,t4⟩:=ha
   have e1:p.g=q.g:=e1
   have e2:p.o=q.o:=e2
   have e3:p.cap=q.cap:=e3
   exact ⟨by rw [e1];exact (e4 _).2 k1,cur,ti,by rw [e1];exact k2,by rw [e2,e3];exact k3,by rw [e3];exact k4,by rw [e3];exact k5,Fs,t1,by rw [e1];exact t2,λb hb=>(e4 b).2 (t3 b hb),by rw [e2];exact t4⟩
theorem Up {st:St} {π0:Pi} {D:Nat->Prop} {w0:World} (h:Mr X w π st.heap) (Zu: ∀l,X.iu l=(π0 l).map full): ∀(cs:List (Bool×CK)) (k:Nat) (x:Ins.den cs) (us:List Value) (o:IOs.den cs),eY w0 D π0 k cs x us->Oh st k cs=some o->
  Ly w (λb=>Vu π b\/X.Sc b) π0 k cs o/\ ∀l∈Pl k cs,Aw st.heap l≠none
 | [],_,_,_,_,_,_=>⟨trivial,λl hl=>by cases hl⟩
 |_::_,_,_,[],_,h,_=>h.elim
 |(false,c)::r,k,x,u::us,o,hi,he=>Up h Zu r (k+1) x.2 us o hi.2 (by simpa only [Oh] using he)
 |(true, .Fe τ)::r,k,x,u::us,o,hi,he=>Up h Zu r (k+1) x.2 us o hi.2 (by simpa only [Oh] using he)
 |(true, .Bo e te kp)::r,k,x,u::us,o,hi,he=>Up h Zu r (k+1) x.2 us o hi.2 (by simpa only [Oh] using he)
 |(true, .row e te)::r,k,x,u::us,o,hi,he=>by
  simp only [Oh] at he
  split at he
  ·rename_i x1 x2 h1 h2
   simp only [Aa] at he;subst he
   obtain ⟨g1,g2⟩:=Up h Zu r (k+1) x.2 us x2 hi.2 h2
   have h0:=hi.1
   simp only [qz] at h1
   split at h1
   ·rename_i fr tr e' Qx xs hl
    split at h1
    ·rename_i hc
     obtain ⟨rfl,rfl⟩:=hc
     simp only [Aa] at h1;subst h1
     unfold St.at at hl
     have hs:=h.iu (Ed true k) (by have:=bj k;omega) (by rw [hl];simp)
     rw [Zu] at hs
     exact ⟨⟨IF (te:=Qx) hs ((h.heap _).Rc hl),g1⟩,λl Jg=>by
      simp only [Pl] at Jg
      rcases Bc.1 Jg with rfl|Jg
      ·rw [hl];simp
      ·exact g2 l Jg⟩
    ·cases h1
   ·cases h1
  ·cases he
 |(true, .part e te)::r,k,x,u::us,o,hi,he=>by
  simp only [Oh] at he
  split at he
  ·rename_i x1 x2 h1 h2
   simp only [Aa] at he;subst he
   obtain ⟨g1,g2⟩:=Up h Zu r (k+1) x.2 us x2 hi.2 h2
   have h0:=hi.1
   simp only [qz] at h1
   split at h1
   ·rename_i fr tr e' Qx xs hl
    split at h1
    ·rename_i hc
     obtain ⟨rfl,rfl⟩:=hc
     simp only [Aa] at h1;subst h1
     unfold St.at at hl
     have hs:=h.iu (Ed true k) (by have:=bj k;omega) (by rw [hl];simp)
     rw [Zu] at hs
     exact ⟨⟨IF (te:=Qx) hs ((h.heap _).Rc hl),g1⟩,λl Jg=>by
      simp only [Pl] at Jg
      rcases Bc.1 Jg with rfl|Jg
      ·rw [hl];simp
      ·exact g2 l Jg⟩
    ·cases h1
   ·cases h1
  ·cases he
 |(true, .Ho e te)::r,k,x,u::us,o,hi,he=>by
  simp only [Oh] at he
  split at he
  ·rename_i x1 x2 h1 h2
   simp only [Aa] at he;subst he
   obtain ⟨g1,g2⟩:=Up h Zu r (k+1) x.2 us x2 hi.2 h2
   simp only [qz] at h1
   split at h1
   ·rename_i e' Qx xs hl
    split at h1
    ·rename_i hc
     obtain ⟨rfl,rfl⟩:=hc
     simp only [Aa] at h1;subst h1
     unfold St.at at hl
     have hs:=h.iu (Ed true k) (by have:=bj k;omega) (by rw [hl];simp)
     rw [Zu] at hs
     exact ⟨⟨VU (te:=Qx) hs ((h.heap _).Rc hl),g1⟩,λl Jg=>by
      simp only [Pl] at Jg
      rcases Bc.1 Jg with rfl|Jg
      ·rw [hl];simp
      ·exact g2 l Jg⟩
    ·cases h1
   ·cases h1
  ·cases he
theorem wj {p:Bool×CK} {r:List (Bool×CK)} (h:a5 (p::r)=true):a5 r=true:=by
 rcases p with ⟨_|_,c⟩<;>cases c<;>first|(simp [a5] at h;done)|simpa [a5] using h
theorem xC: ∀(cs:List (Bool×CK)) (k:Nat) (x:Ins.den cs) (l:Nat),a5 cs=true->k+cs.length<100000->Aw (Zv k cs x) l≠none-> ¬l<Bp->l∈Pl k cs
 | [],_,_,_,_,_,h,_=>absurd rfl h
 |(io,c)::r,k,x,l,hng,hk,h,hp=>by
  simp only [Av] at hk
  simp only [Zv] at h
  have tail:Aw (Zv (k+1) r x.2) l≠none->l∈Pl (k+1) r:= λh=>xC r (k+1) x.2 l (wj hng) (by omega) h hp
  have sub: ∀m,m∈Pl (k+1) r->m∈Pl k ((io,c)::r):= λm hm=>by
   cases io<;>cases c<;>simp only [Pl]<;>first|exact hm|exact Ar _ hm
  cases hc:kQ (Ed io k) c x.1 with
  |none=>rw [hc] at h;exact sub l (tail h)
  |some b=>
   rw [hc] at h
   simp only [iM,Aw] at h
   split at h
   ·rename_i e;subst e
    cases io with
    |false=>exact absurd (fS (by omega)) hp
    |true=>cases c with
     |Fe τ=>cases hc
     |row e te=>simp [Pl]
     |Ho e te=>simp [Pl]
     |part e te=>simp [Pl]
     |Bo e te kp=>simp [a5] at hng
   ·exact sub l (tail h)
theorem eX.Ii {D D':Nat->Prop} (hD: ∀b,D' b->D b) {r:Option Real} {u:Value} {c:CK} {x:c.den} (h:eX w D r u c x):eX w D' r u c x:=by
 cases c with
 |Fe τ=>exact ⟨h.1,h.2.Ii λb _ hb=>hD b hb⟩
 |row e te=>exact ⟨h.1,Sv.Ii h.2 hD⟩
 |Ho e te=>exact h
 |part e te=>exact ⟨h.1,h.2.1,Sv.Ii h.2.2 hD⟩
 |Bo e te kp=>exact ⟨h.1,aC.Ii h.2 hD⟩
theorem Iv.Ii {D D':Nat->Prop} (hD: ∀b,D' b->D b) {ρ:Pi} : ∀(cs:List CK) (k:Nat) (x:CKs.den cs) (us:List Value),Iv w D ρ k cs x us->Iv w D' ρ k cs x us
 | [],_,_,[],h=>h
 | [],_,_,_::_,h=>h.elim
 |_::_,_,_,[],h=>h.elim
 |_c::r,k,x,_u::us,h=>⟨h.1.Ii hD,Iv.Ii hD r (k+1) x.2 us h.2⟩
theorem Ly.Ii {D D':Nat->Prop} (hD: ∀b,D' b->D b) {π:Pi} : ∀(cs:List (Bool×CK)) (k:Nat) (x:IOs.den cs),Ly w D π k cs x->Ly w D' π k cs x
 | [],_,_,h=>h
 |(false,_)::r,k,x,h=>Ly.Ii hD r (k+1) x h
 |(true, .Fe _)::r,k,x,h=>Ly.Ii hD r (k+1) x h
 |(true, .Bo _ _ _)::r,k,x,h=>Ly.Ii hD r (k+1) x h
 |(true, .row _e _te)::r,k,x,h=>⟨Sv.Ii h.1 hD,Ly.Ii hD r (k+1) x.2 h.2⟩
 |(true, .Ho _e _te)::r,k,x,h=>⟨h.1,Ly.Ii hD r (k+1) x.2 h.2⟩
 |(true, .part _e _te)::r,k,x,h=>⟨Sv.Ii h.1 hD,Ly.Ii hD r (k+1) x.2 h.2⟩
theorem eY.congr {D:Nat->Prop} {π0 cm:Pi} : ∀(cs:List (Bool×CK)) (k:Nat) (x:Ins.den cs) (us:List Value),(∀b j,k<=j->j<k+cs.length->cm (Ed b j)=π0 (Ed b j))->eY w D π0 k cs x us->eY w D cm k cs x us
 | [],_,_,[],_,h=>h
 | [],_,_,_::_,_,h=>h
 |_::_,_,_,[],_,h=>h
 |p::r,k,x,u::us,hp,h=>⟨by rw [hp p.1 k (Aq _) (by simp)];exact h.1,eY.congr r (k+1) x.2 us (λb j h1 h2=>hp b j (by omega) (by simp;omega)) h.2⟩
theorem Ly.congr {D:Nat->Prop} {π0 cm:Pi} : ∀(cs:List (Bool×CK)) (k:Nat) (x:IOs.den cs),(∀b j,k<=j->j<k+cs.length->cm (Ed b j)=π0 (Ed b j))->Ly w D π0 k cs x->Ly w D cm k cs x
 | [],_,_,_,h=>h
 |(false,c)::r,k,x,hp,h=>by cases c<;>exact Ly.congr r (k+1) x (λb j h1 h2=>hp b j (by omega) (by simp;omega)) h
 |(true, .Fe _)::r,k,x,hp,h=>Ly.congr r (k+1) x (λb j h1 h2=>hp b j (by omega) (by simp;omega)) h
 |(true, .Bo _ _ _)::r,k,x,hp,h=>Ly.congr r (k+1) x (λb j h1 h2=>hp b j (by omega) (by simp;omega)) h
 |(true, .row e te)::r,k,x,hp,h=>⟨by rw [hp true k (Aq _) (by simp)];exact h.1,Ly.congr r (k+1) x.2 (λb j h1 h2=>hp b j (by omega) (by simp;omega)) h.2⟩
 |(true, .Ho e te)::r,k,x,hp,h=>⟨by rw [hp true k (Aq _) (by simp)];exact h.1,Ly.congr r (k+1) x.2 (λb j h1 h2=>hp b j (by omega) (by simp;omega)) h.2⟩
 |(true, .part e te)::r,k,x,hp,h=>⟨by rw [hp true k (Aq _) (by simp)];exact h.1,Ly.congr r (k+1) x.2 (λb j h1 h2=>hp b j (by omega) (by simp;omega)) h.2⟩
theorem Ey.congr {π0 cm:Pi} : ∀(cs:List (Bool×CK)) (k:Nat) (o:IOs.den cs) (n:Nat) (us as:List Value),(∀b j,k<=j->j<k+cs.length->cm (Ed b j)=π0 (Ed b j))->Ey π0 k cs o n us as->Ey cm k cs o n us as
 | [],k,o,0,us,as,_,h=>by simpa [Ey] using h
 | [],k,o,n+1,us,as,_,h=>by simp [Ey] at h
 |p::r,k,o,0,us,as,_,h=>by
  rcases p with ⟨_|_,c⟩<;>cases c<;>simpa [Ey] using h
 |(true, .Fe _)::r,k,o,n+1,us,as,_,h=>by simp [Ey] at h
 |(true, .part _ _)::r,k,o,n+1,us,as,_,h=>by simp [Ey] at h
 |(true, .Bo _ _ _)::r,k,o,n+1,us,as,_,h=>by simp [Ey] at h
 |(true, .row e te)::r,k,o,n+1,[],as,_,h=>by simp [Ey] at h
 |(true, .Ho e te)::r,k,o,n+1,[],as,_,h=>by simp [Ey] at h
 |(true, .row e te)::r,k,o,n+1,u::us,as,hp,h=>by
  simp only [Ey] at h⊢
  exact ⟨by rw [hp true k (Aq _) (by simp)];exact h.1,Ey.congr r (k+1) o.2 n us as (λb j h1 h2=>hp b j (by omega) (by simp;omega)) h.2⟩
 |(true, .Ho e te)::r,k,o,n+1,u::us,as,hp,h=>by
  simp only [Ey] at h⊢
  exact ⟨by rw [hp true k (Aq _) (by simp)];exact h.1,Ey.congr r (k+1) o.2 n us as (λb j h1 h2=>hp b j (by omega) (by simp;omega)) h.2⟩
 |(false,c)::r,k,o,n+1,[],as,_,h=>by cases c<;>simp [Ey] at h
 |(false,c)::r,k,o,n+1,u::us,[],_,h=>by cases c<;>simp [Ey] at h
 |(false,c)::r,k,o,n+1,u::us,a::as,hp,h=>by
  have h:u=a/\Ey π0 (k+1) r o n us as:=by cases c<;>exact h
  have:=Ey.congr r (k+1) o n us as (λb j h1 h2=>hp b j (by omega) (by simp;omega)) h.2
  cases c<;>exact ⟨h.1,this⟩
theorem qN: ∀(A B:List (Nat×OB)) (l:Nat),Aw (A++B) l=match Aw A l with|some b=>some b|none=>Aw B l
 | [],B,l=>rfl
 |(k,b)::A,B,l=>by
  simp only [Mb,Aw]
  split
  ·rfl
  ·exact qN A B l
theorem ui {st:St} : ∀(cs:List CK) (as:List AC) (x:CKs.den cs) (ls:List Nat),Vg st cs as=some (x,ls)-> ∀l∈ls,∃b,Aw st.heap l=some b/\b.row≠none
 | [],[],x,ls,he=>by
  simp only [Vg,Aa,Ah] at he
  obtain ⟨_,rfl⟩:=he
  intro l hl;cases hl
 | [],_::_,_,_,he=>by simp [Vg] at he
 |_::_,[],_,_,he=>by simp [Vg] at he
 |c::r,a::as,x,ls,he=>by
  simp only [Vg] at he
  split at he
  ·rename_i x1 t1 x2 t2 h1 h2
   simp only [Aa,Ah] at he
   obtain ⟨_,rfl⟩:=he
   intro l hl
   rcases Az.1 hl with hl|hl
   ·unfold kV at h1
    split at h1
    ·split at h1
     ·cases hv:Dx st _ a with
      |none=>rw [hv] at h1;cases h1
      |some p=>rw [hv] at h1;simp only [Am,Aa,Ah] at h1;obtain ⟨_,rfl⟩:=h1;cases hl
     ·cases h1
    all_goals (repeat' split at h1)
    all_goals first|(cases h1;done)|skip
    all_goals (simp only [Aa,Ah] at h1;obtain ⟨_,rfl⟩:=h1)
    all_goals first|(cases hl;done)|skip
    all_goals (have hl:=Ae.1 hl;subst hl)
    all_goals (rename_i heq _;exact ⟨_,heq,by simp [OB.row]⟩)
   ·exact ui r as x2 t2 h2 l hl
  ·cases he
theorem r7 {r r':Option Real} {sz off len:Nat} {v:Value} (h:bw r r') (hv:Hs r' sz off len v):Hs r sz off len v:=by
 cases r<;>cases r'<;>first|exact h.elim|skip
 ·exact hv
 ·obtain ⟨h1,h2,h3,_⟩:=h
  obtain ⟨ad,g1,g2,g3⟩:=hv
  exact ⟨ad,by rw [h3];exact g1,by rw [h3];exact g2,by rw [h1,h2,h3];exact g3⟩
theorem Zd {st:St} {π0:Pi} (hs: ∀k,Aw st.heap (Ed true k)≠none->bw ((π0 (Ed true k)).map full) (π (Ed true k))):
  ∀(cs:List (Bool×CK)) (k:Nat) (vs:List AC) (us:List Value) (bc:List AC) (o:IOs.den cs),Ms X w π st.heap vs us->Ix k cs vs=some bc->je st vs cs->Oh st k cs=some o->
   ∃bv,Ms X w π st.heap bc bv/\bv.length=uD cs vs.length/\ ∀tl,Ey π0 k cs o vs.length us (bv++tl)
 |cs,k,[],us,bc,o,hr,he,_,_=>by
  have e1:us= []:=by cases us with|nil=>rfl|cons u us=>exact hr.elim
  have e2:bc= []:=by rcases cs with _|⟨⟨_|_,c⟩,r⟩<;>simpa [Ix] using he.symm
  subst e1;subst e2
  refine ⟨[],trivial,?_,λtl=>?_⟩
  ·rcases cs with _|⟨⟨_|_,c⟩,r⟩<;>rfl
  ·rcases cs with _|⟨⟨_|_,c⟩,r⟩<;>(try cases c)<;>simp [Ey]
 | [],k,a::vs,us,bc,o,hr,he,_,_=>by simp [Ix] at he
 |p::r,k,a::vs,[],bc,o,hr,_,_,_=>hr.elim
 |(false,c)::r,k,a::vs,u::us,bc,o,hr,he,hk,ho=>by
  have he:(Ix (k+1) r vs).map (λl=>a::l)=some bc:=by cases a<;>exact he
  cases hb:Ix (k+1) r vs with
  |none=>rw [hb] at he;cases he
  |some bc'=>
   rw [hb] at he
   simp only [Am,Aa] at he;subst he
   obtain ⟨bv,g1,g2,g3⟩:=Zd hs r (k+1) vs us bc' o hr.2 hb (by cases a<;>exact hk) (by cases c<;>simpa only [Oh] using ho)
   refine ⟨u::bv,⟨hr.1,g1⟩,by simp [uD,g2],λtl=>?_⟩
   have:=g3 tl
   cases c<;>exact ⟨rfl,this⟩
 |(true,c)::r,k,a::vs,u::us,bc,o,hr,he,hk,ho=>by
  cases c with
  |Fe τ=>cases a<;>simp [Ix] at he
  |part e te=>cases a<;>simp [Ix] at he
  |Bo e te kp=>cases a<;>simp [Ix] at he
  |row e te=>
   cases a<;>first|(simp [Ix] at he;done)|skip
   rename_i l off len
   simp only [Ix] at he
   split at he
   rotate_left
   ·cases he
   rename_i hl
   have hl:l=Ed true k:=Jf hl
   subst hl
   obtain ⟨⟨rfl,hlen⟩,hk⟩:=hk
   obtain ⟨b,sz,n,h1,h2,h3,h4⟩:=hr.1
   have FQ:=hs k (by rw [h1];simp)
   simp only [Oh] at ho
   split at ho
   ·rename_i x1 x2 q1 q2
    simp only [Aa] at ho;subst ho
    obtain ⟨bv,g1,g2,g3⟩:=Zd hs r (k+1) vs us bc x2 hr.2 he hk q2
    refine ⟨bv,g1,by simpa [uD] using g2,λtl=>?_⟩
    refine ⟨?_,g3 tl⟩
    simp only [qz] at q1
    split at q1
    ·rename_i fr tr e' Qx xs Jg
     split at q1
     ·rename_i hc
      obtain ⟨rfl,rfl⟩:=hc
      simp only [Aa] at q1;subst q1
      unfold St.at at Jg hlen
      rw [Jg] at hlen
      rw [h1] at Jg;cases Jg
      simp only [OB.row,Aa,Ah] at h2
      obtain ⟨rfl,rfl⟩:=h2
      have hlen:len=List.length xs:=hlen
      have:=r7 FQ h4
      rw [hlen] at this
      have e0:(π0 (Ed true k)).map full=(π0 (Ed true k)).map full:=rfl
      cases hp:π0 (Ed true k)<;>(rw [hp] at this;exact this)
     ·cases q1
    ·cases q1
   ·cases ho
  |Ho e te=>
   cases a<;>first|(simp [Ix] at he;done)|skip
   rename_i l off len
   simp only [Ix] at he
   split at he
   rotate_left
   ·cases he
   rename_i hl
   have hl:l=Ed true k:=Jf hl
   subst hl
   obtain ⟨⟨rfl,hlen⟩,hk⟩:=hk
   obtain ⟨b,sz,n,h1,h2,h3,h4⟩:=hr.1
   have FQ:=hs k (by rw [h1];simp)
   simp only [Oh] at ho
   split at ho
   ·rename_i x1 x2 q1 q2
    simp only [Aa] at ho;subst ho
    obtain ⟨bv,g1,g2,g3⟩:=Zd hs r (k+1) vs us bc x2 hr.2 he hk q2
    refine ⟨bv,g1,by simpa [uD] using g2,λtl=>?_⟩
    refine ⟨?_,g3 tl⟩
    simp only [qz] at q1
    split at q1
    ·rename_i e' Qx xs Jg
     split at q1
     ·rename_i hc
      obtain ⟨rfl,rfl⟩:=hc
      simp only [Aa] at q1;subst q1
      unfold St.at at Jg hlen
      rw [Jg] at hlen
      rw [h1] at Jg;cases Jg
      simp only [OB.row,Aa,Ah] at h2
      obtain ⟨rfl,rfl⟩:=h2
      have hlen:len=List.length xs:=hlen
      have:=r7 FQ h4
      rw [hlen] at this
      cases hp:π0 (Ed true k)<;>(rw [hp] at this;exact this)
     ·cases q1
    ·cases q1
   ·cases ho
def Aqm (s:MSpec) (g:Nat) (π:Pi):Pi:= λl=>if s.ptr.isSome=true/\l=Ov then some ⟨g,0,0,λb=>b=g,λb=>b=g⟩ else π l
def Amn (P:Program) (s:MSpec) (fn:Func) (x:Ins.den s.ins) (w:World) (S:Nat->Prop) (π:Pi) (g:Nat) (r:CKs.den s.outs) (o:IOs.den s.ins) (a':Act) (w':World):Prop:=
 ∃(v:Value) (Xa:List Value) (ρ:Pi),a'.defers= []/\(results fn a'.tmps).run P w'= .ok v w'/\sC s w' ρ (Xa.drop s.aJ) v/\lW s π w' g Xa o/\Kp w.heap.size (λb=>Vu π b\/s.gv g b) w w'/\Ly w' (kO S π ρ) π 0 s.ins o/\Iv w' (kO S π ρ) ρ 0 s.outs r Xa/\
  iB ρ (λb=>b<w'.heap.size/\(w.heap.size<=b\/ ∃l q,l<Bp/\π l=some q/\q.Cz b))/\(∀l,(∀k,k<s.Ut->l≠Jw k)->ρ l=none)/\(∀kj∈s.keeps,DG w w' (π (Ed false kj.1)) (ρ (Jw kj.2)) (s.Fm x))
theorem Iv.YU {D:Nat->Prop} {ρ ρ':Pi} : ∀(cs:List CK) (k:Nat) (x:CKs.den cs) (us:List Value),(∀j,k<=j->j<k+cs.length->ρ' (Jw j)=ρ (Jw j))->Iv w D ρ k cs x us->Iv w D ρ' k cs x us
 | [],_,_,[],_,h=>h
 | [],_,_,_::_,_,h=>h.elim
 |_::_,_,_,[],_,h=>h.elim
 |c::r,k,x,u::us,he,h=>⟨by rw [he k (Aq _) (by simp)];exact h.1,Iv.YU r (k+1) x.2 us (λj hj hl=>he j (by omega) (by simp;omega)) h.2⟩
theorem xG {st:St} {n:Nat} {as:List AC} : ∀ {ks:List (Nat×Nat)},xF st n as ks-> ∀kj∈ks,∃l off len e te rows out p,as[kj.2]?=some (.own l off len)/\Aw st.heap l=some (.Bo e te rows out (some p))/\p.1=Ed false kj.1/\n<=p.2/\kj.1<1000
 | [],_,kj,hm=>by cases hm
 |(k,j)::r,h,kj,hm=>by
  simp only [xF] at h
  rcases Bc.1 hm with rfl|hm
  ·obtain ⟨h,_⟩:=h
   split at h
   ·rename_i l off len he
    split at h
    ·rename_i e te rows out p hl
     unfold St.at at hl
     exact ⟨l,off,len,e,te,rows,out,p,he,hl,h.1,h.2.1,by simpa using h.2.2⟩
    ·exact h.elim
   ·exact h.elim
  ·exact xG h.2 kj hm
theorem xU {st:St} : ∀(cs:List CK) (as:List AC) (x:CKs.den cs) (ls:List Nat),Vg st cs as=some (x,ls)->as.length=cs.length
 | [],[],_,_,_=>rfl
 | [],_::_,_,_,he=>by simp [Vg] at he
 |_::_,[],_,_,he=>by simp [Vg] at he
 |c::r,a::as,x,ls,he=>by
  simp only [Vg] at he
  split at he
  ·rename_i h1 h2
   simp only [Av,xU r as _ _ h2]
  ·cases he
theorem ID {α β:Type} (f:α->Sem β): ∀(l:List α) (vs:List β),vs.length=l.length->(∀(i:Nat) a v,l[i]?=some a->vs[i]?=some v->(f a).run P w= .ok v w)->(l.mapM f).run P w= .ok vs w
 | [],[],_,_=>by simp
 | [],_::_,h,_=>by simp at h
 |_::_,[],h,_=>by simp at h
 |a::l,v::vs,h,hr=>by
  rw [List.mapM_cons]
  simp only [Sem.run_bind,hr 0 a v rfl rfl,Result.andThen_ok,ID f l vs (by simpa using h) (λi a' v' ha hv=>hr (i+1) a' v' (by simpa using ha) (by simpa using hv)),Sem.run_pure]
theorem vX (hT:Ef P T) (Om:Kq P Γ) (hm:P.follows .mixedOrders=true) {f:FuncId} {fn:Func} (hf:P.funcs[f]?=some fn) (s:MSpec) (w:World) (S:Nat->Prop) (π:Pi) (us:List Value) (x:Ins.den s.ins)
  (r:CKs.den s.outs) (o:IOs.den s.ins) (g:Nat) (nu:List Value) (Qt:p7 s w g us nu) (hSg:s.ptr.isSome=true->S g) (Rw:eY w (λb=>Vu π b\/S b) π 0 s.ins x us) (lq:iB π (λb=>b<w.heap.size)) (hS: ∀b,S b->b<w.heap.size/\ ¬Vu π b) (ZM: ∀l,Aw (Zv 0 s.ins x) l=none->π l=none) (he:Agr T Γ s fn x λz=>z=(r,o)):
  Calls P f nu.toArray w λe w'=> ∃v Xa ρ,e= .returned v/\sC s w' ρ (Xa.drop s.aJ) v/\lW s π w' g Xa o/\Kp w.heap.size (λb=>Vu π b\/s.gv g b) w w'/\Ly w' (kO S π ρ) π 0 s.ins o/\Iv w' (kO S π ρ) ρ 0 s.outs r Xa/\
   iB ρ (λb=>b<w'.heap.size/\(w.heap.size<=b\/ ∃l q,l<Bp/\π l=some q/\q.Cz b))/\(∀l,(∀k,k<s.Ut->l≠Jw k)->ρ l=none)/\(∀kj∈s.keeps,DG w w' (π (Ed false kj.1)) (ρ (Jw kj.2)) (s.Fm x)):=by
 obtain ⟨hlen,c,hb,he⟩:=he
 simp only [Ai,Mw] at hlen
 obtain ⟨hlen,ZP⟩:=hlen
 unfold AJ at ZP
 simp only [Ai] at ZP
 have Ao9:=ZP.1
 let rI:Pi:=Aqm s g π
 let Sg:Nat->Prop:= λb=>S b/\ ¬s.gv g b
 have hvl: ∀b j,j<1000->Ed b j≠Ov:= λb j hj=>by cases b<;>(unfold Ed Ov;simp;omega)
 have zl: ∀b j,0<=j->j<0+s.ins.length->rI (Ed b j)=π (Ed b j):= λb j _ hj=>Ak λh=>hvl b j (by omega) h.2
 have Ahl: ∀b j,0<=j->j<0+s.ins.length->π (Ed b j)=rI (Ed b j):= λb j h1 h2=>(zl b j h1 h2).symm
 have Ak0:Aw (Zv 0 s.ins x) Ov=none:=Bk λhn=>by
  obtain ⟨b,j,_,h2,h3⟩:=tM s.ins 0 x Ov hn
  exact hvl b j (by omega) h3.symm
 have WR: ∀l q,rI l=some q->(π l=some q/\(s.ptr.isSome=true->l≠Ov))\/(s.ptr.isSome=true/\l=Ov/\q=⟨g,0,0,λb=>b=g,λb=>b=g⟩):= λl q hq=>by
  have hq:(if s.ptr.isSome=true/\l=Ov then some ⟨g,0,0,λb=>b=g,λb=>b=g⟩ else π l)=some q:=hq
  split at hq
  ·rename_i hc;exact .inr ⟨hc.1,hc.2,(Bd hq).symm⟩
  ·rename_i hc;exact .inl ⟨hq,λh1 h2=>hc ⟨h1,h2⟩⟩
 have ez: ∀b,Vu rI b↔Vu π b\/s.gv g b:= λb=>by
  constructor
  ·rintro ⟨l,q,h1,h2⟩
   rcases WR l q h1 with ⟨h3,_⟩|⟨h3,h4,rfl⟩
   ·exact .inl ⟨l,q,h3,h2⟩
   ·exact .inr ⟨h3,h2⟩
  ·rintro (⟨l,q,h1,h2⟩|⟨h1,rfl⟩)
   ·refine ⟨l,q,?_,h2⟩
    show (if s.ptr.isSome=true/\l=Ov then _ else π l)=some q
    rw [Ak]
    ·exact h1
    ·rintro ⟨_,rfl⟩
     rw [ZM Ov Ak0] at h1;cases h1
   ·exact ⟨Ov,⟨b,0,0,λc=>c=b,λc=>c=b⟩,Ab ⟨h1,rfl⟩,rfl⟩
 have hgS: ∀b,s.gv g b->S b:= λb ⟨h1,h2⟩=>h2▸hSg h1
 have Ajc:eY w (λb=>Vu rI b\/Sg b) rI 0 s.ins x us:=eY.congr s.ins 0 x us zl (eY.Ii (λb hb=>by
  rcases hb with hb|hb
  ·rcases (ez b).1 hb with hb|hb
   ·exact .inl hb
   ·exact .inr (hgS b hb)
  ·exact .inr hb.1) s.ins 0 x us Rw)
 have Aof:iB rI (λb=>b<w.heap.size):=⟨λl q b h1 h2=>by
  rcases WR l q h1 with ⟨h3,_⟩|⟨h3,h4,rfl⟩
  ·exact lq.Ss l q b h3 h2
  ·exact (hS b (hgS b ⟨h3,h2⟩)).1,λl l' q q' b h1 h2 h3 h4=>by
  rcases WR l q h1 with ⟨h5,_⟩|⟨h5,h6,rfl⟩<;>rcases WR l' q' h2 with ⟨h7,_⟩|⟨h7,h8,rfl⟩
  ·exact lq.inj l l' q q' b h5 h7 h3 h4
  ·exact absurd ⟨l,q,h5,h3⟩ (hS b (hgS b ⟨h7,h4⟩)).2
  ·exact absurd ⟨l',q',h7,h4⟩ (hS b (hgS b ⟨h5,h3⟩)).2
  ·rw [h6,h8]⟩
 have Asu: ∀b,Sg b->b<w.heap.size/\ ¬Vu rI b:= λb hb=>⟨(hS b hb.1).1,λho=>((ez b).1 ho).elim (hS b hb.1).2 hb.2⟩
 have RE: ∀l,Aw (qQ s x) l=match Aw (Zv 0 s.ins x) l with|some b=>some b|none=>if l=Ov then s.ptr.map λp=> .var p.1 ((bP 0 s.ins x).take p.2) else none:= λl=>by
  unfold qQ
  cases hp:s.ptr with
  |none=>cases Aw (Zv 0 s.ins x) l<;>simp
  |some p=>
   simp only
   rw [qN]
   cases Aw (Zv 0 s.ins x) l with
   |some b=>rfl
   |none=>
    simp only [Aw,Am]
    by_cases e:l=Ov
    ·rw [Ab e,Ab e.symm]
    ·rw [Ak e,Ak (λh=>e h.symm)]
 let π0:Pi:= λl=>(rI l).map full
 have un: ∀l q,π0 l=some q-> ∃q0,rI l=some q0/\q=full q0:= λl q hq=>by
  have hq:(rI l).map full=some q:=hq
  cases hp:rI l with
  |none=>rw [hp] at hq;cases hq
  |some q0=>rw [hp] at hq;exact ⟨q0,rfl,(Bd hq).symm⟩
 have ZS: ∀l b,Aw (Zv 0 s.ins x) l=some b->Aw (qQ s x) l=some b:= λl b hb=>by rw [RE l,hb]
 have hrc:Ms ⟨w,Sg,Vu rI,π0⟩ w π0 (qQ s x) (bP 0 s.ins x) us:=FV (λ_=>rfl) s.ins 0 x us (by omega) Ajc ZS
 have Aa7:s.ptr.isSome=true->π0 Ov=some ⟨g,0,0,λb=>b=g,λb=>b=g⟩:= λhp=>by
  show (if s.ptr.isSome=true/\Ov=Ov then _ else π Ov).map full=_
  rw [Ab ⟨hp,rfl⟩];rfl
 obtain ⟨g1,g2⟩:(aG s (bP 0 s.ins x)).length=nu.length/\ ∀(i:Nat) c v,(aG s (bP 0 s.ins x))[i]?=some c->nu[i]?=some v->Bq ⟨w,Sg,Vu rI,π0⟩ w π0 (qQ s x) c v:=by
  unfold p7 at Qt
  cases hp:s.ptr with
  |none=>
   rw [hp] at Qt
   obtain ⟨rfl,hsh⟩:=Qt
   obtain ⟨g1,g2,_,_⟩:=er s.Hw _ us hsh hrc
   rw [show aG s (bP 0 s.ins x)=Sz s.Hw (bP 0 s.ins x) by unfold aG;rw [hp]]
   exact ⟨g1,g2⟩
  |some p=>
   rw [hp] at Qt
   obtain ⟨rfl,hsh,_⟩:=Qt
   obtain ⟨g1,g2,_,_⟩:=er s.Hw _ (us.drop p.2) hsh (Ms.take p.2 hrc).2
   rw [show aG s (bP 0 s.ins x)= .at (.He Ov 0)::Sz s.Hw ((bP 0 s.ins x).drop p.2) by unfold aG;rw [hp]]
   refine ⟨by simp [g1],λi c v h1 h2=>?_⟩
   rcases i with _|i
   ·simp only [Bz,Aa] at h1 h2
    subst h1;subst h2
    exact ⟨_,p.1,(bP 0 s.ins x).take p.2,by rw [RE,Ak0];simp [hp],Aa7 (by rw [hp];rfl),rfl⟩
   ·exact g2 i c v (by simpa using h1) (by simpa using h2)
 have h0:Rel ⟨w,Sg,Vu rI,π0⟩ {tmps:=aG s (bP 0 s.ins x)++List.replicate (fn.ntmps-(aG s (bP 0 s.ins x)).length) .undef,heap:=qQ s x}
   {tmps:=nu.toArray++Array.replicate (fn.ntmps-nu.toArray.size) undef,defers:= []} w:=by
  refine ⟨π0,⟨Kp.refl _ _ _,λb hb=>Asu b hb,λl q b h1 h2=>?_,λl q b h1 h2=>?_,λl l' q q' b h1 h2 h3 h4=>?_,λl _ _=>bw.rfl' _,λl=>?_⟩,⟨by simp [g1],rfl,λt=>?_⟩⟩
  ·obtain ⟨q0,_,rfl⟩:=un l q h1;exact h2
  ·obtain ⟨q0,h3,rfl⟩:=un l q h1
   exact ⟨.inr ⟨l,q0,h3,h2⟩,Aof.Ss l q0 b h3 h2⟩
  ·obtain ⟨q0,h5,rfl⟩:=un l q h1
   obtain ⟨q0',h6,rfl⟩:=un l' q' h2
   exact Aof.inj l l' q0 q0' b h5 h6 h3 h4
  ·cases hh:Aw (Zv 0 s.ins x) l with
   |none=>
    by_cases hv:s.ptr.isSome=true/\l=Ov
    ·obtain ⟨hps,rfl⟩:=hv
     obtain ⟨p,hp⟩:=Wz.1 hps
     refine Gg.Lk (b:= .var p.1 ((bP 0 s.ins x).take p.2)) ?_ (by rw [RE,hh];simp [hp])
     unfold p7 at Qt
     rw [hp] at Qt
     obtain ⟨_,_,h1,h2,h3⟩:=Qt
     rw [Aa7 hps]
     exact ⟨_,rfl,rfl,_,h2,Ms.to (Ms.take p.2 hrc).1 h3⟩
    ·refine Gg.Uk ?_ ?_
     ·show (if s.ptr.isSome=true/\l=Ov then _ else π l).map full=none
      rw [Ak hv,ZM l hh];rfl
     ·rw [RE,hh]
      simp only
      split
      ·rename_i e
       cases hp:s.ptr with
       |none=>rfl
       |some p=>exact absurd ⟨by rw [hp];rfl,e⟩ hv
      ·rfl
   |some b=>exact Gg.Lk (mz (π0:=rI) (λb hb=>by
    rcases hb with ⟨l,q,h1,h2⟩|hb|⟨hb,_⟩
    ·obtain ⟨q0,h3,rfl⟩:=un l q h1;exact .inl ⟨l,q0,h3,h2⟩
    ·exact .inr hb
    ·cases hb) rfl (λ_=>rfl) s.ins 0 x us Ajc l b hh) (ZS l b hh)
  ·show Bq _ w _ _ ((aG s (bP 0 s.ins x)++List.replicate _ AV.undef).getD t .undef) ((nu.toArray++Array.replicate _ undef).getD t undef)
   by_cases ht:t<nu.length
   ·rw [Al,At (by omega),<-Al]
    rw [cq,Tj (by simpa using ht)]
    have:=g2 t _ _ (Ad (by omega)) (Ad ht)
    simpa [Al,Ad ht,Ad (show t<(aG s (bP 0 s.ins x)).length by omega)] using this
   ·have:(aG s (bP 0 s.ins x)++List.replicate (fn.ntmps-(aG s (bP 0 s.ins x)).length) AV.undef).getD t .undef= .undef:=by
     rw [Al,As (by omega)]
     rw [Yz]
     split<;>rfl
    rw [this];trivial
 have fin: ∀(st:St) (a':Act) (w':World),XZ T s fn x st (λz=>z=(r,o))->Rel ⟨w,Sg,Vu rI,π0⟩ st a' w'->Amn P s fn x w S π g r o a' w':=by
  intro st a' w' rW hrel
  obtain ⟨cm,h'⟩:=hrel
  have Ahr:Bp<=Ov:=by unfold Bp Ov;omega
  obtain ⟨bc,qM,Auu,hbc⟩: ∃bc,kF T s fn x st bc (λz=>z=(r,o))/\(s.ptr.isSome=true-> ∃b,Aw st.heap Ov=some b/\b.row=none)/\
    (Oh st 0 s.ins=some o-> ∃bv,Ms ⟨w,Sg,Vu rI,π0⟩ w' cm st.heap bc bv/\bv.length=s.aJ/\ ∀tl,lW s π w' g (bv++tl) o):=by
   unfold XZ at rW
   cases hp:s.ptr with
   |none=>
    rw [hp] at rW
    exact ⟨[],rW,λh=>by simp at h,λ_=>⟨[],trivial,by simp [MSpec.aJ,hp],λtl=>by simp [lW,hp]⟩⟩
   |some p=>
    rw [hp] at rW
    obtain ⟨vs,cs,h1,h2,h3,h4,h5⟩:=rW
    unfold St.at at h1
    refine ⟨cs,h5,λ_=>⟨_,h1,rfl⟩,λzj=>?_⟩
    obtain ⟨q,k1,k2,cur,k3,k4⟩:=(h'.1.heap Ov).Rc h1
    have hsv:bw (π0 Ov) (cm Ov):=h'.1.iu Ov Ahr (by rw [h1];simp)
    rw [Aa7 (by rw [hp];rfl),k1] at hsv
    have hqg:g=q.g:=hsv.1
    obtain ⟨bv,g1,g2,g3⟩:=Zd (π0:=rI) (λk hk=>h'.1.iu _ (Nat.le_of_not_lt (bj k)) hk) s.ins 0 vs cur.toList cs o (Ms.of k4) h3 h4 zj
    refine ⟨bv,g1,by rw [g2,h2];simp [MSpec.aJ,hp],λtl=>?_⟩
    unfold lW
    rw [hp]
    refine ⟨cur.toList,by rw [hqg];simpa using k3,λu hu=>?_,Ey.congr s.ins 0 o p.2 _ _ Ahl (h2▸g3 tl)⟩
    obtain ⟨i,hi,rfl⟩:=Bj.1 hu
    have hl:=k4.1
    obtain ⟨u',h6,h7,_⟩:=k4.2 i (vs[i]'(by omega)) (Ad _)
    rw [Ad hi] at h6
    rw [Bd h6];exact h7
  unfold kF at qM
  split at qM
  ·exact qM.elim
  rename_i l hl
  split at qM
  ·exact qM.elim
  rename_i as ml ib
  split at qM
  rotate_left
  ·exact qM.elim
  rename_i r' ls o' zp qL
  obtain ⟨Jk,xw,hro⟩:=qM
  simp only [Ai,Mw] at Jk
  obtain ⟨⟨⟨rS,Ayu⟩,Awt⟩,Ao4⟩:=Jk
  simp only [Ah] at hro
  obtain ⟨rfl,rfl⟩:=hro
  obtain ⟨bv,hbv,At6,At3⟩:=hbc qL
  have LU:=Ya rS
  obtain ⟨n1,n2,n3⟩:=Eb.1 LU
  obtain ⟨m1,m2,m3⟩:=Eb.1 n1
  obtain ⟨vs,v1,v2,v3,v4⟩:=Yc hT h' _ _ hl
  have hrs:fn.results=fn.results.toList.toArray:=Array.toArray_toList.symm
  have Vo: ∀v,(if h:vs.toArray.size=1 then vs.toArray[0] else .tuple vs.toArray)=v->(results fn a'.tmps).run P w'= .ok v w':=by
   intro v hv
   rw [fR,hrs,List.mapM_toArray]
   simp only [map_eq_pure_bind,bind_assoc,pure_bind]
   simp only [Sem.run_bind,ID (NX a'.tmps) _ vs v1 v3,Result.andThen_ok,Sem.run_pure]
   rw [hv]
  obtain ⟨wT,v,qm,Aus,hv,hqm⟩: ∃wT v qm,Ms ⟨w,Sg,Vu rI,π0⟩ w' cm st.heap as wT/\(results fn a'.tmps).run P w'= .ok v w'/\
    ((s.rp=none/\ml= []/\qm=none/\Abs s.Gl s.Gz wT v/\cZ s.Gz wT)\/
     ∃tid m q,s.rp=some tid/\ml= [m]/\m<Bp/\qm=some q/\cm m=some q/\q.Cz q.g/\w'.heap[q.g]?=some (.cells wT.toArray tid (0,0))/\(∀u∈wT,u.oneCell'=true)/\v= .pointer (some ⟨q.g,0,none⟩)):=by
   unfold NW at ib
   split at ib
   ·rename_i KB
    split at ib
    rotate_left
    ·cases ib
    rename_i hmul
    cases p6:ungroup s.Gz l with
    |none=>rw [p6] at ib;cases ib
    |some as'=>
     rw [p6] at ib
     simp only [Am,Aa,Ah] at ib
     obtain ⟨rfl,rfl⟩:=ib
     obtain ⟨wT,e1,e2,e3⟩:=aj s.Gz l vs as' (by omega) v4 p6
     have hv: ∃v,(results fn a'.tmps).run P w'= .ok v w'/\Abs s.Gl s.Gz wT v:=by
      unfold Abs
      rw [<-e1,hmul]
      rcases Nat.lt_or_ge 1 l.length with h1|h1
      ·have hb1:Nat.blt 1 l.length=true:=by simpa using h1
       simp only [hb1,Ny]
       refine ⟨.tuple vs.toArray,Vo _ ?_,rfl⟩
       rw [dif_neg (by simp;omega)]
      ·have hb1:Nat.blt 1 l.length=false:=by rw [<-Fa];simpa using h1
       simp only [hb1,Df,Rb]
       rcases vs with _|⟨v,_|⟨v',vs⟩⟩
       ·exact ⟨_,Vo _ (by simp;rfl), .inr rfl⟩
       ·exact ⟨v,Vo _ (by simp), .inl rfl⟩
       ·exfalso;simp only [Av] at v1;omega
     obtain ⟨v,hv1,hv2⟩:=hv
     exact ⟨wT,v,none,e3,hv1, .inl ⟨KB,rfl,rfl,hv2,e2⟩⟩
   ·rename_i tid KB
    split at ib
    rotate_left
    ·cases ib
    rename_i m i
    split at ib
    rotate_left
    ·cases ib
    rename_i Ux vs' hm
    split at ib
    rotate_left
    ·cases ib
    rename_i hc
    obtain ⟨rfl,rfl,hmp⟩:=hc
    simp only [Aa,Ah] at ib
    obtain ⟨rfl,rfl⟩:=ib
    unfold St.at at hm
    rcases vs with _|⟨v,_|⟨v',vs⟩⟩
    ·exfalso;simp only [Av,Di] at v1 v2;omega
    ·obtain ⟨q,Bav,vs2,q1,q2,q3⟩:=v4 0 _ v rfl rfl
     rw [hm] at q1;cases q1
     obtain ⟨q',k1,k2,cur,k3,k4⟩:=(h'.1.heap m).Rc hm
     rw [q2] at k1;cases k1
     refine ⟨cur.toList,v,some q,Ms.of k4,Vo _ (by simp), .inr ⟨_,m,q,KB,rfl,by simpa using hmp,rfl,q2,k2,by simpa using k3,λu hu=>?_,q3⟩⟩
     obtain ⟨i,hi,rfl⟩:=Bj.1 hu
     have hl:=k4.1
     obtain ⟨u',h6,h7,_⟩:=k4.2 i (vs'[i]'(by omega)) (Ad _)
     rw [Ad hi] at h6
     rw [Bd h6];exact h7
    ·exfalso;simp only [Av,Di] at v1 v2;omega
  obtain ⟨DE,p1,p2,p3,p4,p5⟩:=xV h'.1 s.outs 0 (bc++as) (bv++wT) r' ls (hbv.append Aus) zp m2
  obtain ⟨io1,io2⟩:=Up (π0:=rI) h'.1 (λ_=>rfl) s.ins 0 x us o' Ajc qL
  have Anl:(bv++wT).drop s.aJ=wT:=by rw [<-At6];simp
  let ρ:Pi:= λl0=>if l0=Jw s.outs.length then qm else DE l0
  have Ak6:ρ (Jw s.outs.length)=qm:=Ab rfl
  have Apb: ∀l0,l0≠Jw s.outs.length->ρ l0=DE l0:= λl0 h=>Ak h
  have Apa: ∀j,j<s.outs.length->ρ (Jw j)=DE (Jw j):= λj hj=>Apb _ (by unfold Jw;omega)
  have vK: ∀l0 q,ρ l0=some q->(l0=Jw s.outs.length/\qm=some q)\/(l0≠Jw s.outs.length/\DE l0=some q):= λl0 q h=>by
   by_cases e:l0=Jw s.outs.length
   ·subst e;rw [Ak6] at h;exact .inl ⟨rfl,h⟩
   ·rw [Apb l0 e] at h;exact .inr ⟨e,h⟩
  have Aol: ∀q,qm=some q-> ∃m,ml= [m]/\m<Bp/\cm m=some q:= λq hq=>by
   rcases hqm with ⟨_,_,h1,_⟩|⟨_,m,q',_,h1,h2,h3,h4,_⟩
   ·rw [h1] at hq;cases hq
   ·rw [h3] at hq;cases hq;exact ⟨m,h1,h2,h4⟩
  have p3': ∀l0 q b,ρ l0=some q->q.Cz b-> ∃l1∈ml++ls,∃p,cm l1=some p/\p.cl b/\((s.outs.all λc=>!c.isX)=true->p.Cz b)/\((l1∈ls)\/l1<Bp):= λl0 q b h1 h2=>by
   rcases vK l0 q h1 with ⟨_,h3⟩|⟨_,h3⟩
   ·obtain ⟨m,e1,e2,e3⟩:=Aol q h3
    exact ⟨m,by rw [e1];simp,q,e3,h'.1.sub m q b e3 h2,λ_=>h2, .inr e2⟩
   ·obtain ⟨l1,g1,p,g2,g3,g4⟩:=p3 l0 q b h3 h2
    exact ⟨l1,Cm _ g1,p,g2,g3,g4, .inl g1⟩
  have p4': ∀l0 l1 q q' b,ρ l0=some q->ρ l1=some q'->q.Cz b->q'.Cz b->l0=l1:= λl0 l1 q q' b h1 h2 h3 h4=>by
   have EH: ∀l0 q q' b,DE l0=some q->qm=some q'->q.Cz b->q'.Cz b->False:= λl0 q q' b h1 h2 h3 h4=>by
    obtain ⟨m,e1,e2,e3⟩:=Aol q' h2
    obtain ⟨l1,g1,p,g2,g3,_⟩:=p3 l0 q b h1 h3
    have:=h'.1.inj m l1 q' p b e3 g2 (h'.1.sub m q' b e3 h4) g3
    exact m3 m (by rw [e1];simp) l1 g1 this
   rcases vK l0 q h1 with ⟨e1,h5⟩|⟨e1,h5⟩<;>rcases vK l1 q' h2 with ⟨e2,h6⟩|⟨e2,h6⟩
   ·rw [e1,e2]
   ·exact (EH l1 q' q b h6 h5 h4 h3).elim
   ·exact (EH l0 q q' b h5 h6 h3 h4).elim
   ·exact p4 l0 l1 q q' b h5 h6 h3 h4
  have RJ: ∀l0 q,Bp<=l0->rI l0=some q->Aw st.heap l0≠none/\(l0∈Pl 0 s.ins\/ ∃b,Aw st.heap l0=some b/\b.row=none):= λl0 q h1 h2=>by
   rcases WR l0 q h2 with ⟨h3,_⟩|⟨h3,rfl,_⟩
   ·have zj:=xC s.ins 0 x l0 Ao9 (by omega) (λhnn=>by rw [ZM l0 hnn] at h3;cases h3) (by omega)
    exact ⟨io2 l0 zj, .inl zj⟩
   ·obtain ⟨b,h4,h5⟩:=Auu h3
    exact ⟨by rw [h4];simp, .inr ⟨b,h4,h5⟩⟩
  have hDO:(s.outs.all λc=>!c.isX)=true-> ∀b,kO Sg rI ρ b->Vu cm b\/Sg b:=by
   intro hx b hb
   rcases hb with hb|⟨l0,q,h1,h2,h3⟩|⟨l0,q,h1,h2⟩
   ·exact .inr hb
   ·have hs:=h'.1.iu l0 h1 (RJ l0 q h1 h2).1
    have hs:bw ((rI l0).map full) (cm l0):=hs
    rw [h2] at hs
    cases tH:cm l0 with
    |none=>rw [tH] at hs;exact hs.elim
    |some q1=>rw [tH] at hs;exact .inl ⟨l0,q1,tH,(hs.2.2.2 b).1 h3⟩
   ·obtain ⟨m,_,p,hm2,_,hm4,_⟩:=p3' l0 q b h1 h2
    exact .inl ⟨m,p,hm2,hm4 hx⟩
  have hDD: ∀b,kO S π ρ b->kO Sg rI ρ b:= λb hb=>by
   rcases hb with hb|⟨l0,q,h1,h2,h3⟩|hb
   ·by_cases xt:s.gv g b
    ·obtain ⟨hps,rfl⟩:=xt
     exact .inr (.inl ⟨Ov,_,Ahr,Ab ⟨hps,rfl⟩,rfl⟩)
    ·exact .inl ⟨hb,xt⟩
   ·refine .inr (.inl ⟨l0,q,h1,?_,h3⟩)
    show (if s.ptr.isSome=true/\l0=Ov then _ else π l0)=some q
    rw [Ak]
    ·exact h2
    ·rintro ⟨_,rfl⟩
     rw [ZM Ov Ak0] at h2;cases h2
   ·exact .inr (.inr hb)
  have hfl:s.flat=true\/(s.outs.all λc=>!c.isX)=true:=by unfold MSpec.Aar at Ao4;simpa only [Jz] using Ao4
  have io1:Ly w' (kO S π ρ) π 0 s.ins o':=by
   refine Ly.congr s.ins 0 o' Ahl ?_
   rcases hfl with hf|hf
   ·unfold MSpec.flat at hf
    simp only [Ai] at hf
    exact Ly.any s.ins 0 o' hf.2 io1
   ·exact Ly.Ii (λb hb=>hDO hf b (hDD b hb)) s.ins 0 o' io1
  have p1:Iv w' (kO S π ρ) ρ 0 s.outs r' (bv++wT):=by
   have p1:Iv w' (λb=>Vu cm b\/Sg b) ρ 0 s.outs r' (bv++wT):=Iv.YU s.outs 0 r' _ (λj _ hj=>Apa j (by omega)) p1
   rcases hfl with hf|hf
   ·unfold MSpec.flat at hf
    simp only [Ai] at hf
    exact Iv.any s.outs 0 r' (bv++wT) hf.1 p1
   ·exact Iv.Ii (λb hb=>hDO hf b (hDD b hb)) s.outs 0 r' (bv++wT) p1
  refine ⟨v,bv++wT,ρ,h'.2.defers,hv,?_,At3 wT,⟨h'.1.below.os,h'.1.below.tape,h'.1.below.output,h'.1.below.size,λk hk hn=>h'.1.below.block k hk λho=>hn ((ez k).1 ho)⟩,io1,p1,⟨λl0 q b h1 h2=>?_,p4'⟩,λl0 hl0=>?_,λkj XR=>?_⟩
  ·rw [Anl]
   unfold sC
   rcases hqm with ⟨h1,_,_,h2⟩|⟨tid,m,q,h1,_,_,h3,_,h4,h5,h6,h7⟩
   ·rw [h1];exact h2
   ·rw [h1];exact ⟨q,by rw [Ak6,h3],h4,h5,h6,h7⟩
  ·obtain ⟨m,hm1,p,hm2,hm3,_,hm4⟩:=p3' l0 q b h1 h2
   obtain ⟨k1,k2⟩:=h'.1.place m p b hm2 hm3
   refine ⟨k2,k1.imp id λ⟨c0,q0,h5,h6⟩=>?_⟩
   have Jc:c0<Bp:=Bk λhn=>by
    obtain ⟨Ig,zj⟩:=RJ c0 q0 (by omega) h5
    have hs:=h'.1.iu c0 (by omega) Ig
    have hs:bw ((rI c0).map full) (cm c0):=hs
    rw [h5] at hs
    cases tH:cm c0 with
    |none=>rw [tH] at hs;exact hs.elim
    |some q1=>
     rw [tH] at hs
     have hf1:q1.Cz b:=(hs.2.2.2 b).1 h6
     have:=h'.1.inj c0 m q1 p b tH hm2 (h'.1.sub c0 q1 b tH hf1) hm3
     subst this
     rcases hm4 with hm4|hm4
     ·rcases zj with zj|⟨b1,hb1,hb2⟩
      ·exact n3 c0 hm1 c0 zj rfl
      ·obtain ⟨b2,hb3,hb4⟩:=ui s.outs _ _ _ zp c0 hm4
       rw [hb1] at hb3;cases hb3
       exact hb4 hb2
     ·exact hn hm4
   refine ⟨c0,q0,Jc,?_,h6⟩
   rcases WR c0 q0 h5 with ⟨h7,_⟩|⟨_,h7,_⟩
   ·exact h7
   ·omega
  ·cases hp:ρ l0 with
   |none=>rfl
   |some q=>
    rcases vK l0 q hp with ⟨e,h3⟩|⟨_,h3⟩
    ·refine absurd e (hl0 _ ?_)
     rcases hqm with ⟨_,_,h4,_⟩|⟨tid,m,q',h4,_⟩
     ·rw [h4] at h3;cases h3
     ·unfold MSpec.Ut;rw [h4];simp
    ·obtain ⟨j,_,j2,j3⟩:=p2 l0 q h3
     exact absurd j3 (hl0 j (by unfold MSpec.Ut;omega))
  ·obtain ⟨l0,off,len,e,te,rows,out,p,q1,q2,q3,q4,q5⟩:=xG xw kj XR
   have hj:kj.2<s.outs.length:=by
    rw [<-xU s.outs _ _ _ zp]
    exact (Ao.1 q1).1
   have e1:=p5 kj.2 l0 off len e te rows out (some p) q1 q2
   rw [Bn] at e1
   rw [Apa _ hj,e1]
   have hk:=((h'.1.heap l0).Rc q2).2
   obtain ⟨l1,n1⟩:=p
   simp only [KeptAt] at hk
   dsimp only at q3 q4
   subst q3
   have TY:π0 (Ed false kj.1)=(π (Ed false kj.1)).map full:=by
    show (if s.ptr.isSome=true/\Ed false kj.1=Ov then _ else π (Ed false kj.1)).map full=_
    rw [Ak λh=>hvl false kj.1 q5 h.2]
   rw [TY] at hk
   unfold DG
   cases hp:π (Ed false kj.1) with
   |none=>
    rw [hp] at hk
    cases tH:cm l0 with
    |none=>trivial
    |some q=>rw [tH] at hk;exact hk.elim
   |some q0=>
    rw [hp] at hk
    cases tH:cm l0 with
    |none=>rw [tH] at hk;exact hk.elim
    |some q=>
     rw [tH] at hk
     obtain ⟨k1,k2,k3,k4⟩:=hk
     exact ⟨k1,k2,k3,λj hj hc=>k4 j (by omega) hc⟩
 refine calls_of_wp hf hb ?_
 refine (uG hT Om hm he _ w _ h0 λe st a' w' ⟨Ig,rW⟩ h'=>?_).1
 obtain ⟨v,Xa,ρ,p1,p2,p3⟩:=fin st a' w' rW h'
 cases e with
 |normal=>exact ⟨p1,v,p2,v,Xa,ρ,rfl,p3⟩
 |ret=>exact ⟨p1,v,p2,v,Xa,ρ,rfl,p3⟩
 |exit id=>exact absurd rfl (Ig id)
end
end Go.Proofs.Ytkkdpknjohcekaa
