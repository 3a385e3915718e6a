/-
  Part 27 of the proof that the statement FnTables holds.
-/
import Derived.Test.YtkkdpknjohcekaaCFTables25
namespace Go.Proofs.Ytkkdpknjohcekaa
open Go.RowKit
section
variable {P:Program} {T:Tab} {Γ:Env} {X:Ctx} {w w':World} {π:Pi} {H:List (Nat×OB)}
theorem qv: ∀(cs:List (Bool×CK)) (k:Nat) (x:Ins.den cs) (l:Nat),Aq (Xo k cs x) l≠none-> ∃b j,k<=j/\j<k+cs.length/\l=Ds b j
 | [],_,_,_,h=>absurd rfl h
 |p::r,k,x,l,h=>by
  simp only [Xo] at h
  by_cases e:l=Ds p.1 k
  ·exact ⟨p.1,k,Ar _,by simp,e⟩
  ·have:Aq (Xo (k+1) r x.2) l≠none:=by
    cases hc:iI (Ds p.1 k) p.2 x.1 with
    |none=>rw [hc] at h;exact h
    |some b=>rw [hc] at h;simpa only [fz,Aq,Al (Hi e)] using h
   obtain ⟨b,j,h1,h2,h3⟩:=qv r (k+1) x.2 l this
   exact ⟨b,j,by omega,by simp;omega,h3⟩
theorem KE {p:Bool×CK} {r:List (Bool×CK)} {k:Nat} {x:Ins.den (p::r)} (hk:k+(r.length+1)<100000) {l:Nat} {b:OB} (h:Aq (Xo (k+1) r x.2) l=some b):Aq (Xo k (p::r) x) l=some b:=by
 obtain ⟨b',j,h1,h2,rfl⟩:=qv r (k+1) x.2 l (by rw [h];simp)
 simp only [Xo]
 cases iI (Ds p.1 k) p.2 x.1 with
 |none=>exact h
 |some c=>simp only [fz,Aq];rw [Al (IK (by omega) (by omega) (by omega))];exact h
theorem OJ {D:Nat->Prop} (hD: ∀b,Cp X.w0.heap.size X.Sc π false b->D b) (hw0:X.w0=w) {l:Nat} {r:Option Real} (dg:X.fb l=r.map full) {u:Value} {c:CK} {x:c.den} (h:cP w D r u c x) {b:OB} (hb:iI l c x=some b):Bw X w π H (r.map full) b:=by
 have Uo: ∀ {e:Ty} {es:List Value} {y:e.den},Cells w D e es y->Cells w (Cp X.w0.heap.size X.Sc π false) e es y:= λ {e es y} h=>Cells.Gg (Ar _) (λ_ _ _=>rfl) (λb _ hb=>hD b hb) e es y h
 cases c with
 |Fp τ=>cases hb
 |row e te=>
  simp only [iI,Aa] at hb;subst hb
  obtain ⟨_,h⟩:=h
  simp only [ee] at h
  simp only [Bw,Jj]
  cases r with
  |none=>exact h
  |some q=>
   obtain ⟨k1,cu,ti,k2,k3,k4,k5,k6⟩:=h
   exact ⟨⟨k1.1,k1.2,λh=>by cases h⟩,cu,ti,k2,k3,k4,k5,λi y hy=>by
    obtain ⟨es,g1,g2,g3⟩:=k6 i y hy
    exact ⟨es,g1,g2,Uo g3⟩,λh=>by cases h⟩
 |Hb e te=>
  simp only [iI,Aa] at hb;subst hb
  cases r<;>exact h.2
 |part e te=>
  simp only [iI,Aa] at hb;subst hb
  obtain ⟨_,hf,h⟩:=h
  simp only [Bw,Jj]
  cases r with
  |none=>exact h
  |some q=>
   obtain ⟨k1,cu,ti,k2,k3,k4,k5,k6⟩:=h
   exact ⟨⟨k1.1,k1.2,λh=>by cases h⟩,cu,ti,k2,k3,k4,k5,λi y hy=>by
    obtain ⟨es,g1,g2,g3⟩:=k6 i y hy
    exact ⟨es,g1,g2,Uo g3⟩,λh=>by cases h⟩
 |Bm e te kp=>
  simp only [iI,Aa] at hb;subst hb
  have h2:Ym w D r e x none:=h.2
  have h3:=Ym.Io h2 hD
  refine ⟨by cases r<;>exact h3,?_⟩
  cases kp with
  |false=>trivial
  |true=>
   simp only [Pw,KeptAt]
   rw [dg]
   cases r with
   |none=>trivial
   |some q=>exact ⟨rfl,rfl,rfl,λj _ _=>by rw [hw0]⟩
theorem jX {D:Nat->Prop} (hD: ∀b,Cp X.w0.heap.size X.Sc π false b->D b) (hw0:X.w0=w) {π0:Pi} (dg: ∀l,X.fb l=(π0 l).map full): ∀(cs:List (Bool×CK)) (k:Nat) (x:Ins.den cs) (us:List Value),cQ w D π0 k cs x us-> ∀l b,Aq (Xo k cs x) l=some b->Bw X w π H ((π0 l).map full) b
 | [],_,_,_,_,_,_,h=>by cases h
 |_::_,_,_,[],h,_,_,_=>h.elim
 |p::r,k,x,u::us,h,l,b,hb=>by
  simp only [Xo] at hb
  cases hc:iI (Ds p.1 k) p.2 x.1 with
  |none=>rw [hc] at hb;exact jX hD hw0 dg r (k+1) x.2 us h.2 l b hb
  |some c=>
   rw [hc] at hb
   simp only [fz,Aq] at hb
   split at hb
   ·rename_i e;subst e
    simp only [Aa] at hb;subst hb
    exact OJ hD hw0 (dg _) h.1 hc
   ·exact jX hD hw0 dg r (k+1) x.2 us h.2 l b hb
theorem yZ {S:Nat->Prop} {π0:Pi} {gv:Nat->Prop} {fb:Pi} (bI: ∀l,π l=(π0 l).map full): ∀(cs:List (Bool×CK)) (k:Nat) (x:Ins.den cs) (us:List Value),k+cs.length<100000->cQ w (λb=>Ue π0 b\/S b) π0 k cs x us->(∀l b,Aq (Xo k cs x) l=some b->Aq H l=some b)->
  Mi ⟨w,S,gv,fb⟩ w π H (al k cs x) us
 | [],_,_,[],_,_,_=>trivial
 | [],_,_,_::_,_,h,_=>h.elim
 |_::_,_,_,[],_,h,_=>h.elim
 |p::r,k,x,u::us,hk,h,hH=>by
  simp only [Bg] at hk
  refine ⟨?_,yZ bI r (k+1) x.2 us (by omega) h.2 λl b hb=>hH l b (KE hk hb)⟩
  have h1:=h.1
  have hh: ∀b,iI (Ds p.1 k) p.2 x.1=some b->Aq H (Ds p.1 k)=some b:= λb hb=>hH _ b (by simp only [Xo];rw [hb];simp [fz,Aq])
  have dh:=bI (Ds p.1 k)
  obtain ⟨io,c⟩:=p
  dsimp only at h1 hh dh⊢
  generalize x.1=y at*
  cases c with
  |Fp τ=>
   show Df w _ τ u y
   cases hf:τ.flat with
   |true=>exact Df.flat hf h1.2
   |false=>
    refine h1.2.Io λb _ hb=>?_
    rcases hb with ⟨l,q,h3,h4⟩|hb|⟨hb,_⟩
    ·rw [bI l] at h3
     cases hp:π0 l with
     |none=>rw [hp] at h3;cases h3
     |some q0=>rw [hp] at h3;simp only [Ai,Aa] at h3;subst h3;exact .inl ⟨l,q0,hp,h4⟩
    ·exact .inr hb
    ·cases hb
  |row e te=>exact ⟨_,e.size,List.length y,hh _ rfl,rfl,by simp,by rw [dh];exact Xt h1.1⟩
  |Hb e te=>exact ⟨_,e.size,List.length y,hh _ rfl,rfl,by simp,by rw [dh];exact Xt h1.1⟩
  |part e te=>exact ⟨_,e.size,List.length y.1,hh _ rfl,rfl,h1.1.2,by rw [dh];exact Xt h1.1.1⟩
  |Bm e te kp=>exact ⟨_,1,List.length y,hh _ rfl,rfl,by simp,by rw [dh];exact Xt h1.1⟩
theorem mL {p:Real} {s off len:Nat} {u:Value} {f:Nat->Prop} (h:He (some p) s off len u):He (some ⟨p.g,p.o+off,p.cap-off,f,f⟩) s 0 len u:=by
 obtain ⟨ad,h1,h2,h3⟩:=h
 exact ⟨ad,h1,by dsimp only;omega,λh0=>by dsimp only at h0;simpa using h3 (by omega)⟩
theorem r7 {α:Type} {xs:List α} {off len i:Nat} {x:α} (h:((xs.drop off).take len)[i]?=some x):xs[off+i]?=some x:=by
 rw [Ck] at h
 split at h
 ·rw [Ct] at h;exact h
 ·cases h
theorem Vs.part {P:Nat->Prop} {g o:Nat} {cur:Array Value} {e:Ty} {xs:List e.den} (off len:Nat) (h:Vs w P g o cur e xs):Vs w P g (o+off) cur e ((xs.drop off).take len):=by
 obtain ⟨Fs,t1,t2,t3,t4⟩:=h
 refine ⟨(Fs.drop off).take len,by simp [t1],Ca.2 ⟨λhm=>(Ca.1 t2).1 (Qz off len _ hm),kg off len (Ca.1 t2).2⟩,λb hb=>t3 b (Qz off len b hb),λi x F hx hF=>?_⟩
 obtain ⟨es,k1,k2,k3⟩:=t4 (off+i) x F (r7 hx) (r7 hF)
 exact ⟨es,k1,λj u hu=>by rw [Gh o off i];exact k2 j u hu,k3⟩
theorem KT {st:St} (h:Mh X w π st.heap) {c:CK} (hg: ∀e te kp,c≠ .Bm e te kp) {a:AC} {u:Value} (hu:Gx X w π st.heap a u) {x:c.den} {ls:List Nat} (he:iL st c a=some (x,ls)):
  ∃r,cP w (λb=>Ue π b\/X.Sc b) r u c x/\ ∀q,r=some q-> ∃l p,ls= [l]/\π l=some p/\(∀b,q.Ci b->p.cl b)/\(c.YL=false-> ∀b,q.Ci b->p.Ci b):=by
 have OY: ∀ {f:Bool} (b:Nat),(Ue π b\/X.Sc b)->Cp X.w0.heap.size X.Sc π f b:= λb h=>h.imp id .inl
 cases c with
 |Fp τ=>
  simp only [iL] at he
  split at he
  ·rename_i hf
   cases hv:Dj st τ a with
   |none=>rw [hv] at he;cases he
   |some p=>
    obtain ⟨fr,y⟩:=p
    rw [hv] at he
    simp only [Ai,Aa,Ae] at he
    obtain ⟨rfl,rfl⟩:=he
    refine ⟨none,⟨rfl,?_⟩,λq hq=>by cases hq⟩
    have Io: ∀f,Df w (Cp X.w0.heap.size X.Sc π f) τ u y->Df w (λb=>Ue π b\/X.Sc b) τ u y:= λf hr=>hr.Io λk _ hk=>OY k hk
    cases a with
    |data f Nh z=>
     rw [Mx] at hv
     split at hv
     ·rename_i ht;subst ht
      simp only [Aa,Ae] at hv
      obtain ⟨_,rfl⟩:=hv
      exact Io f hu
     ·have Yo:τ.Am=false:=by unfold fD at hv;split at hv<;>first|rfl|cases hv
      exact Io _ ⟨[u],bF hv hu,by simp [Bs,Yo]⟩
    |Le=>
     have hu:u= .slice none 0 0:=hu
     subst hu
     cases τ<;>simp only [Dj,Aa,Ae,reduceCtorEq] at hv
     ·obtain ⟨_,rfl⟩:=hv;exact ⟨[_],⟨none,0,0,rfl,rfl,Ar _, .inl rfl⟩,rfl⟩
     ·obtain ⟨_,rfl⟩:=hv;exact ⟨[_], .inl ⟨rfl,0,rfl⟩,rfl⟩
    |Ua=>
     have hu:u= .pointer none:=hu
     subst hu
     cases τ<;>simp only [Dj,Aa,Ae,reduceCtorEq] at hv
     obtain ⟨_,rfl⟩:=hv;exact ⟨[_], .inl ⟨rfl,rfl⟩,rfl⟩
    |_=>cases τ<;>simp [AC.settled,Ty.flat,Dj] at hf hv
  ·cases he
 |row e te=>
  cases a<;>simp only [iL] at he<;>try (cases he;done)
  ·simp only [Aa,Ae] at he
   obtain ⟨rfl,rfl⟩:=he
   have hu:u= .slice none 0 0:=hu
   exact ⟨none,⟨⟨hu,rfl,rfl⟩,rfl⟩,λq hq=>by cases hq⟩
  ·rename_i l off len
   split at he
   ·rename_i fr tr e' Qg xs hl
    split at he
    ·rename_i hc
     obtain ⟨rfl,rfl⟩:=hc
     simp only [Aa,Ae] at he
     obtain ⟨rfl,rfl⟩:=he
     unfold St.at at hl
     obtain ⟨h1,h2⟩:=Nl hu hl
     have hb:=(h.heap l).Qi hl
     simp only [Bw,Jj] at hb
     have hlen:((xs.drop off).take len).length=len:=by simp;omega
     cases hp:π l with
     |none=>
      rw [hp] at h2 hb
      obtain ⟨rfl,rfl,rfl⟩:=h2
      exact ⟨none,⟨⟨rfl,rfl,by simp⟩,by show (xs.drop 0).take 0= [];simp⟩,λq hq=>by cases hq⟩
     |some p=>
      rw [hp] at h2 hb
      obtain ⟨k1,cur,ti,k2,k3,k4,k5,k6,_⟩:=hb
      have ho:=h2
      obtain ⟨ad,_,qn,_⟩:=h2
      refine ⟨some ⟨p.g,p.o+off,p.cap-off,p.Ci,p.Ci⟩,⟨by rw [hlen];exact mL ho,⟨k1.1,k1.2.1⟩,cur,ti,k2,by rw [k3];congr 1;dsimp only;omega,by dsimp only;omega,by rw [hlen];dsimp only;omega,λi y hy=>?_⟩,
       fun q hq=>by cases hq;exact ⟨l,p,rfl,hp,λb hb=>h.sub l p b hp hb,λ_ b hb=>hb⟩⟩
      obtain ⟨es,g1,g2,g3⟩:=k6 (off+i) y (r7 hy)
      exact ⟨es,g1,λj u hu=>by dsimp only;rw [Gh p.o off i];exact g2 j u hu,Cells.Gg (Ar _) (λ_ _ _=>rfl) (λb _ hb=>OY b hb) e' es y g3⟩
    ·cases he
   ·cases he
 |Hb e te=>
  cases a<;>simp only [iL] at he<;>try (cases he;done)
  ·simp only [Aa,Ae] at he
   obtain ⟨rfl,rfl⟩:=he
   have hu:u= .slice none 0 0:=hu
   exact ⟨none,⟨⟨hu,rfl,rfl⟩,rfl⟩,λq hq=>by cases hq⟩
  ·rename_i l off len
   split at he
   ·rename_i fr tr e' Qg xs hl
    split at he
    ·rename_i hc
     obtain ⟨rfl,rfl,hf⟩:=hc
     simp only [Aa,Ae] at he
     obtain ⟨rfl,rfl⟩:=he
     unfold St.at at hl
     obtain ⟨h1,h2⟩:=Nl hu hl
     have hb:=(h.heap l).Qi hl
     simp only [Bw,Jj] at hb
     have hlen:((xs.drop off).take len).length=len:=by simp;omega
     cases hp:π l with
     |none=>
      rw [hp] at h2 hb
      obtain ⟨rfl,rfl,rfl⟩:=h2
      exact ⟨none,⟨⟨rfl,rfl,by simp⟩,by show (xs.drop 0).take 0= [];simp⟩,λq hq=>by cases hq⟩
     |some p=>
      rw [hp] at h2 hb
      obtain ⟨k1,cur,ti,k2,k3,k4,k5,k6,k7⟩:=hb
      have ho:=h2
      obtain ⟨ad,_,qn,_⟩:=h2
      have ht:Vs w p.cl p.g p.o cur e' xs:=by
       simp only [Jq] at hf
       rcases hf with hf|hf
       ·exact k7 hf
       ·exact l7 hf k6
      exact ⟨some ⟨p.g,p.o+off,p.cap-off,p.cl,p.cl⟩,⟨by rw [hlen];exact mL ho,h.sub l p _ hp k1.1,cur,ti,k2,by rw [k3];congr 1;dsimp only;omega,by dsimp only;omega,by rw [hlen];dsimp only;omega,ht.part off len⟩,
       fun q hq=>by cases hq;exact ⟨l,p,rfl,hp,λb hb=>hb,λhx=>by cases hx⟩⟩
    ·cases he
   ·rename_i e' Qg xs hl
    split at he
    ·rename_i hc
     obtain ⟨rfl,rfl⟩:=hc
     simp only [Aa,Ae] at he
     obtain ⟨rfl,rfl⟩:=he
     unfold St.at at hl
     obtain ⟨h1,h2⟩:=aC hu hl
     have hb:=(h.heap l).Qi hl
     simp only [Bw,Na] at hb
     have hlen:((xs.drop off).take len).length=len:=by simp;omega
     cases hp:π l with
     |none=>
      rw [hp] at h2 hb
      obtain ⟨rfl,rfl,rfl⟩:=h2
      exact ⟨none,⟨⟨rfl,rfl,by simp⟩,by show (xs.drop 0).take 0= [];simp⟩,λq hq=>by cases hq⟩
     |some p=>
      rw [hp] at h2 hb
      obtain ⟨k1,cur,ti,k2,k3,k4,k5,ht⟩:=hb
      have ho:=h2
      obtain ⟨ad,_,qn,_⟩:=h2
      exact ⟨some ⟨p.g,p.o+off,p.cap-off,p.Ci,p.Ci⟩,⟨by rw [hlen];exact mL ho,k1,cur,ti,k2,by rw [k3];congr 1;dsimp only;omega,by dsimp only;omega,by rw [hlen];dsimp only;omega,ht.part off len⟩,
       fun q hq=>by cases hq;exact ⟨l,p,rfl,hp,λb hb=>h.sub l p b hp hb,λ_ b hb=>hb⟩⟩
    ·cases he
   ·cases he
 |part e te=>cases a<;>simp [iL] at he
 |Bm e te kp=>exact absurd rfl (hg e te kp)
theorem RF {st:St} (h:Mh X w π st.heap) {c:CK} {a:AC} {u:Value} (hu:Gx X w π st.heap a u) {x:c.den} {ls:List Nat} (he:iL st c a=some (x,ls)):
  ∃r,cP w (λb=>Ue π b\/X.Sc b) r u c x/\(∀q,r=some q-> ∃l p,ls= [l]/\π l=some p/\(∀b,q.Ci b->p.cl b)/\(c.YL=false-> ∀b,q.Ci b->p.Ci b))/\
   (∀l off len e te rows out kp,a= .own l off len->Aq st.heap l=some (.Bm e te rows out kp)->r=π l):=by
 have sK:(∀e te kp,c≠ .Bm e te kp)->(∀l off len e te rows out kp,a=AC.own l off len->Aq st.heap l=some (OB.Bm e te rows out kp)->False)->
   ∃r,cP w (λb=>Ue π b\/X.Sc b) r u c x/\(∀q,r=some q-> ∃l p,ls= [l]/\π l=some p/\(∀b,q.Ci b->p.cl b)/\(c.YL=false-> ∀b,q.Ci b->p.Ci b))/\
   (∀l off len e te rows out kp,a= .own l off len->Aq st.heap l=some (.Bm e te rows out kp)->r=π l):= λh1 h2=>by
  obtain ⟨r,g1,g2⟩:=KT h h1 hu he
  exact ⟨r,g1,g2,λl off len e te rows out kp h3 h4=>(h2 l off len e te rows out kp h3 h4).elim⟩
 cases c with
 |Fp τ=>
  refine sK (λ_ _ _ h=>by cases h) λl off len e te rows out kp h3 h4=>?_
  subst h3
  simp only [iL] at he
  split at he
  ·rename_i hf
   cases τ<;>simp [AC.settled,Ty.flat,Dj] at hf he
  ·cases he
 |row e te=>
  refine sK (λ_ _ _ h=>by cases h) λl off len e te rows out kp h3 h4=>?_
  subst h3
  simp only [iL,St.at,h4] at he
  cases he
 |Hb e te=>
  refine sK (λ_ _ _ h=>by cases h) λl off len e te rows out kp h3 h4=>?_
  subst h3
  simp only [iL,St.at,h4] at he
  cases he
 |part e te=>cases a<;>simp [iL] at he
 |Bm e te kp=>
  cases a<;>simp only [iL] at he<;>try (cases he;done)
  rename_i l off len
  split at he
  ·rename_i e' Qg rows kp' hl
   split at he
   ·rename_i hc
    obtain ⟨rfl,rfl,rfl,rfl⟩:=hc
    simp only [Aa,Ae] at he
    obtain ⟨rfl,rfl⟩:=he
    unfold St.at at hl
    obtain ⟨b,sz,n,h1,h2,_,h3⟩:=hu
    rw [hl] at h1;cases h1
    simp only [OB.row,Aa,Ae] at h2
    obtain ⟨rfl,rfl⟩:=h2
    have hb:=((h.heap l).Qi hl).1
    refine ⟨π l,⟨h3,Ym.Io hb λb hb=>hb.imp id .inl⟩,λq hq=>⟨l,q,rfl,hq,λb hb=>h.sub l q b hq hb,λ_ b hb=>hb⟩,λl' Aq0 Aka _ _ _ _ _ he _=>?_⟩
    simp only [AC.own.injEq] at he
    rw [he.1]
   ·cases he
  ·cases he
theorem Ir.congr {D:Nat->Prop} {ρ ρ':Pi} : ∀(cs:List CK) (k:Nat) (x:CKs.den cs) (us:List Value),(∀j,k<=j->ρ' (Jm j)=ρ (Jm j))->Ir w D ρ k cs x us->Ir w D ρ' k cs x us
 | [],_,_,[],_,h=>h
 | [],_,_,_::_,_,h=>h.elim
 |_::_,_,_,[],_,h=>h.elim
 |c::r,k,x,u::us,he,h=>⟨by rw [he k (Ar _)];exact h.1,Ir.congr r (k+1) x.2 us (λj hj=>he j (by omega)) h.2⟩
theorem uz {st:St} (h:Mh X w π st.heap): ∀(cs:List CK) (k:Nat) (as:List AC) (us:List Value) (x:CKs.den cs) (ls:List Nat),Mi X w π st.heap as us->To st cs as=some (x,ls)->ls.Nodup->
  ∃ρ:Pi,Ir w (λb=>Ue π b\/X.Sc b) ρ k cs x us/\(∀l q,ρ l=some q-> ∃j,k<=j/\j<k+cs.length/\l=Jm j)/\(∀l q b,ρ l=some q->q.Ci b-> ∃l0∈ls,∃p,π l0=some p/\p.cl b/\((cs.all λc=>!c.YL)=true->p.Ci b))/\
   (∀l l' q q' b,ρ l=some q->ρ l'=some q'->q.Ci b->q'.Ci b->l=l')/\
   (∀(j l off len:Nat) e te rows out kp,as[j]?=some (.own l off len)->Aq st.heap l=some (.Bm e te rows out kp)->ρ (Jm (k+j))=π l)
 | [],k,[],[],x,ls,_,he,_=>by
  simp only [To,Aa,Ae] at he
  exact ⟨λ_=>none,trivial,(λl q h=>by cases h),(λl q b h=>by cases h),(λl l' q q' b h=>by cases h),λj l off len e te rows out kp h=>by simp at h⟩
 | [],_,[],_::_,_,_,h,_,_=>h.elim
 | [],_,_::_,_,_,_,_,he,_=>by simp [To] at he
 |_::_,_,[],_,_,_,_,he,_=>by simp [To] at he
 |_::_,_,_::_,[],_,_,h,_,_=>h.elim
 |c::r,k,a::as,u::us,x,ls,hr,he,sl=>by
  simp only [To] at he
  split at he
  ·rename_i x1 t1 x2 t2 h1 h2
   simp only [Aa,Ae] at he
   obtain ⟨rfl,rfl⟩:=he
   obtain ⟨n1,n2,n3⟩:=Dg.1 sl
   obtain ⟨ρ,g1,g2,g3,g4,g5⟩:=uz h r (k+1) as us x2 t2 hr.2 h2 n2
   obtain ⟨rr,r1,r2,r3⟩:=RF h hr.1 h1
   have yz: ∀l q q0 b,ρ l=some q->rr=some q0->q.Ci b->q0.Ci b->False:= λl q q0 b h3 h4 h5 h6=>by
    obtain ⟨l0,m0,p,p1,p2,_⟩:=g3 l q b h3 h5
    obtain ⟨l1,p',e1,p1',p2',_⟩:=r2 q0 h4
    have:=h.inj l0 l1 p p' b p1 p1' p2 (p2' b h6)
    exact n3 l1 (by rw [e1];simp) l0 m0 this.symm
   refine ⟨λl=>if l=Jm k then rr else ρ l,⟨by simpa using r1,Ir.congr r (k+1) x2 us (λj hj=>Al (by unfold Jm;omega)) g1⟩,λl q hq=>?_,λl q b hq hb=>?_,λl l' q q' b h3 h4 h5 h6=>?_,λj l off len e te rows out kp hj hl=>?_⟩
   ·dsimp only at hq
    by_cases e:l=Jm k
    ·exact ⟨k,Ar _,by simp,e⟩
    ·rw [Al e] at hq
     obtain ⟨j,j1,j2,j3⟩:=g2 l q hq
     exact ⟨j,by omega,by simp;omega,j3⟩
   ·dsimp only at hq
    by_cases e:l=Jm k
    ·rw [Ab e] at hq
     obtain ⟨l1,p',e1,p1',p2',p3'⟩:=r2 q hq
     exact ⟨l1,by rw [e1];simp,p',p1',p2' b hb,λhx=>p3' (by simp only [Iw,Ag,Dn] at hx;exact hx.1) b hb⟩
    ·rw [Al e] at hq
     obtain ⟨l0,m0,p,p1,p2,p3⟩:=g3 l q b hq hb
     exact ⟨l0,Bu _ m0,p,p1,p2,λhx=>p3 (by simp only [Iw,Ag] at hx;exact hx.2)⟩
   ·dsimp only at h3 h4
    by_cases e:l=Jm k<;>by_cases e':l'=Jm k
    ·rw [e,e']
    ·rw [Ab e] at h3;rw [Al e'] at h4
     exact (yz l' q' q b h4 h3 h6 h5).elim
    ·rw [Al e] at h3;rw [Ab e'] at h4
     exact (yz l q q' b h3 h4 h5 h6).elim
    ·rw [Al e] at h3;rw [Al e'] at h4
     exact g4 l l' q q' b h3 h4 h5 h6
   ·rcases j with _|j
    ·simp only [Bn,Aa] at hj
     show (if Jm k=Jm k then rr else ρ (Jm k))=π l
     rw [Ab rfl]
     exact r3 l off len e te rows out kp hj hl
    ·have:=g5 j l off len e te rows out kp (by simpa using hj) hl
     show (if Jm (k+(j+1))=Jm k then rr else ρ (Jm (k+(j+1))))=π l
     rw [Al (by unfold Jm;omega),<-this,show k+(j+1)=k+1+j by omega]
  ·cases he
theorem zX {r r':Option Real} (h:Zz (r.map full) r') {e:Ty} {xs:List e.den} {te:TypeId} {fr tr:Bool} (ha:Jj X w π r' fr tr e te xs):Rl w (λb=>Ue π b\/X.Sc b) r e xs:=by
 cases r with
 |none=>cases r' with
  |none=>exact ha
  |some q=>exact h.elim
 |some p=>cases r' with
  |none=>exact h.elim
  |some q=>
   obtain ⟨e1,e2,e3,e4⟩:=h
   obtain ⟨k1,cur,ti,k2,k3,k4,k5,k6,_⟩:=ha
   have e1:p.g=q.g:=e1
   have e2:p.o=q.o:=e2
   have e3:p.cap=q.cap:=e3
   refine ⟨⟨by rw [e1];exact (e4 _).2 k1.1,λb hb=>by rw [e1];exact k1.2.1 b ((e4 b).1 hb)⟩,cur,ti,by rw [e1];exact k2,by rw [e2,e3];exact k3,by rw [e3];exact k4,by rw [e3];exact k5,λi y hy=>?_⟩
   obtain ⟨es,g1,g2,g3⟩:=k6 i y hy
   exact ⟨es,g1,by rw [e2];exact g2,Cells.Gg (Ar _) (λ_ _ _=>rfl) (λb _ hb=>hb.imp id .inl) e es y g3⟩
theorem LV {r r':Option Real} (h:Zz (r.map full) r') {e:Ty} {xs:List e.den} {te:TypeId} (ha:Na w r' e te xs):Na w r e te xs:=by
 cases r with
 |none=>cases r' with
  |none=>exact ha
  |some q=>exact h.elim
 |some p=>cases r' with
  |none=>exact h.elim
  |some q=>
   obtain ⟨e1,e2,e3,e4⟩:=h
   obtain ⟨k1,cur,ti,k2,k3,k4,k5,Fs,t1,t2,t3,t4⟩:=ha
   have e1:p.g=q.g:=e1
   have e2:p.o=q.o:=e2
   have e3:p.cap=q.cap:=e3
   exact ⟨by rw [e1];exact (e4 _).2 k1,cur,ti,by rw [e1];exact k2,by rw [e2,e3];exact k3,by rw [e3];exact k4,by rw [e3];exact k5,Fs,t1,by rw [e1];exact t2,λb hb=>(e4 b).2 (t3 b hb),by rw [e2];exact t4⟩
theorem Sy {st:St} {π0:Pi} {D:Nat->Prop} {w0:World} (h:Mh X w π st.heap) (dg: ∀l,X.fb l=(π0 l).map full): ∀(cs:List (Bool×CK)) (k:Nat) (x:Ins.den cs) (us:List Value) (o:IOs.den cs),cQ w0 D π0 k cs x us->No st k cs=some o->
  Lk w (λb=>Ue π b\/X.Sc b) π0 k cs o/\ ∀l∈Ot k cs,Aq st.heap l≠none
 | [],_,_,_,_,_,_=>⟨trivial,λl hl=>by cases hl⟩
 |_::_,_,_,[],_,h,_=>h.elim
 |(false,c)::r,k,x,u::us,o,hi,he=>Sy h dg r (k+1) x.2 us o hi.2 (by simpa only [No] using he)
 |(true, .Fp τ)::r,k,x,u::us,o,hi,he=>Sy h dg r (k+1) x.2 us o hi.2 (by simpa only [No] using he)
 |(true, .Bm e te kp)::r,k,x,u::us,o,hi,he=>Sy h dg r (k+1) x.2 us o hi.2 (by simpa only [No] using he)
 |(true, .row e te)::r,k,x,u::us,o,hi,he=>by
  simp only [No] at he
  split at he
  ·rename_i x1 x2 h1 h2
   simp only [Aa] at he;subst he
   obtain ⟨g1,g2⟩:=Sy h dg r (k+1) x.2 us x2 hi.2 h2
   have h0:=hi.1
   simp only [nw] at h1
   split at h1
   ·rename_i fr tr e' Qg xs hl
    split at h1
    ·rename_i hc
     obtain ⟨rfl,rfl⟩:=hc
     simp only [Aa] at h1;subst h1
     unfold St.at at hl
     have hs:=h.fb (Ds true k) (by have:=Zo k;omega) (by rw [hl];simp)
     rw [dg] at hs
     exact ⟨⟨zX (te:=Qg) hs ((h.heap _).Qi hl),g1⟩,λl Ns=>by
      simp only [Ot] at Ns
      rcases Bb.1 Ns with rfl|Ns
      ·rw [hl];simp
      ·exact g2 l Ns⟩
    ·cases h1
   ·cases h1
  ·cases he
 |(true, .part e te)::r,k,x,u::us,o,hi,he=>by
  simp only [No] at he
  split at he
  ·rename_i x1 x2 h1 h2
   simp only [Aa] at he;subst he
   obtain ⟨g1,g2⟩:=Sy h dg r (k+1) x.2 us x2 hi.2 h2
   have h0:=hi.1
   simp only [nw] at h1
   split at h1
   ·rename_i fr tr e' Qg xs hl
    split at h1
    ·rename_i hc
     obtain ⟨rfl,rfl⟩:=hc
     simp only [Aa] at h1;subst h1
     unfold St.at at hl
     have hs:=h.fb (Ds true k) (by have:=Zo k;omega) (by rw [hl];simp)
     rw [dg] at hs
     exact ⟨⟨zX (te:=Qg) hs ((h.heap _).Qi hl),g1⟩,λl Ns=>by
      simp only [Ot] at Ns
      rcases Bb.1 Ns with rfl|Ns
      ·rw [hl];simp
      ·exact g2 l Ns⟩
    ·cases h1
   ·cases h1
  ·cases he
 |(true, .Hb e te)::r,k,x,u::us,o,hi,he=>by
  simp only [No] at he
  split at he
  ·rename_i x1 x2 h1 h2
   simp only [Aa] at he;subst he
   obtain ⟨g1,g2⟩:=Sy h dg r (k+1) x.2 us x2 hi.2 h2
   simp only [nw] at h1
   split at h1
   ·rename_i e' Qg xs hl
    split at h1
    ·rename_i hc
     obtain ⟨rfl,rfl⟩:=hc
     simp only [Aa] at h1;subst h1
     unfold St.at at hl
     have hs:=h.fb (Ds true k) (by have:=Zo k;omega) (by rw [hl];simp)
     rw [dg] at hs
     exact ⟨⟨LV (te:=Qg) hs ((h.heap _).Qi hl),g1⟩,λl Ns=>by
      simp only [Ot] at Ns
      rcases Bb.1 Ns with rfl|Ns
      ·rw [hl];simp
      ·exact g2 l Ns⟩
    ·cases h1
   ·cases h1
  ·cases he
theorem sJ {p:Bool×CK} {r:List (Bool×CK)} (h:Xs (p::r)=true):Xs r=true:=by
 rcases p with ⟨_|_,c⟩<;>cases c<;>first|(simp [Xs] at h;done)|simpa [Xs] using h
theorem uh: ∀(cs:List (Bool×CK)) (k:Nat) (x:Ins.den cs) (l:Nat),Xs cs=true->k+cs.length<100000->Aq (Xo k cs x) l≠none-> ¬l<Bf->l∈Ot k cs
 | [],_,_,_,_,_,h,_=>absurd rfl h
 |(io,c)::r,k,x,l,hng,hk,h,hp=>by
  simp only [Bg] at hk
  simp only [Xo] at h
  have tail:Aq (Xo (k+1) r x.2) l≠none->l∈Ot (k+1) r:= λh=>uh r (k+1) x.2 l (sJ hng) (by omega) h hp
  have sub: ∀m,m∈Ot (k+1) r->m∈Ot k ((io,c)::r):= λm hm=>by
   cases io<;>cases c<;>simp only [Ot]<;>first|exact hm|exact An _ hm
  cases hc:iI (Ds io k) c x.1 with
  |none=>rw [hc] at h;exact sub l (tail h)
  |some b=>
   rw [hc] at h
   simp only [fz,Aq] at h
   split at h
   ·rename_i e;subst e
    cases io with
    |false=>exact absurd (dG (by omega)) hp
    |true=>cases c with
     |Fp τ=>cases hc
     |row e te=>simp [Ot]
     |Hb e te=>simp [Ot]
     |part e te=>simp [Ot]
     |Bm e te kp=>simp [Xs] at hng
   ·exact sub l (tail h)
theorem cP.Io {D D':Nat->Prop} (hD: ∀b,D' b->D b) {r:Option Real} {u:Value} {c:CK} {x:c.den} (h:cP w D r u c x):cP w D' r u c x:=by
 cases c with
 |Fp τ=>exact ⟨h.1,h.2.Io λb _ hb=>hD b hb⟩
 |row e te=>exact ⟨h.1,Rl.Io h.2 hD⟩
 |Hb e te=>exact h
 |part e te=>exact ⟨h.1,h.2.1,Rl.Io h.2.2 hD⟩
 |Bm e te kp=>exact ⟨h.1,Ym.Io h.2 hD⟩
theorem Ir.Io {D D':Nat->Prop} (hD: ∀b,D' b->D b) {ρ:Pi} : ∀(cs:List CK) (k:Nat) (x:CKs.den cs) (us:List Value),Ir w D ρ k cs x us->Ir w D' ρ k cs x us
 | [],_,_,[],h=>h
 | [],_,_,_::_,h=>h.elim
 |_::_,_,_,[],h=>h.elim
 |_c::r,k,x,_u::us,h=>⟨h.1.Io hD,Ir.Io hD r (k+1) x.2 us h.2⟩
theorem Lk.Io {D D':Nat->Prop} (hD: ∀b,D' b->D b) {π:Pi} : ∀(cs:List (Bool×CK)) (k:Nat) (x:IOs.den cs),Lk w D π k cs x->Lk w D' π k cs x
 | [],_,_,h=>h
 |(false,_)::r,k,x,h=>Lk.Io hD r (k+1) x h
 |(true, .Fp _)::r,k,x,h=>Lk.Io hD r (k+1) x h
 |(true, .Bm _ _ _)::r,k,x,h=>Lk.Io hD r (k+1) x h
 |(true, .row _e _te)::r,k,x,h=>⟨Rl.Io h.1 hD,Lk.Io hD r (k+1) x.2 h.2⟩
 |(true, .Hb _e _te)::r,k,x,h=>⟨h.1,Lk.Io hD r (k+1) x.2 h.2⟩
 |(true, .part _e _te)::r,k,x,h=>⟨Rl.Io h.1 hD,Lk.Io hD r (k+1) x.2 h.2⟩
theorem cQ.congr {D:Nat->Prop} {π0 aK:Pi} : ∀(cs:List (Bool×CK)) (k:Nat) (x:Ins.den cs) (us:List Value),(∀b j,k<=j->j<k+cs.length->aK (Ds b j)=π0 (Ds b j))->cQ w D π0 k cs x us->cQ w D aK k cs x us
 | [],_,_,[],_,h=>h
 | [],_,_,_::_,_,h=>h
 |_::_,_,_,[],_,h=>h
 |p::r,k,x,u::us,hp,h=>⟨by rw [hp p.1 k (Ar _) (by simp)];exact h.1,cQ.congr r (k+1) x.2 us (λb j h1 h2=>hp b j (by omega) (by simp;omega)) h.2⟩
theorem Lk.congr {D:Nat->Prop} {π0 aK:Pi} : ∀(cs:List (Bool×CK)) (k:Nat) (x:IOs.den cs),(∀b j,k<=j->j<k+cs.length->aK (Ds b j)=π0 (Ds b j))->Lk w D π0 k cs x->Lk w D aK k cs x
 | [],_,_,_,h=>h
 |(false,c)::r,k,x,hp,h=>by cases c<;>exact Lk.congr r (k+1) x (λb j h1 h2=>hp b j (by omega) (by simp;omega)) h
 |(true, .Fp _)::r,k,x,hp,h=>Lk.congr r (k+1) x (λb j h1 h2=>hp b j (by omega) (by simp;omega)) h
 |(true, .Bm _ _ _)::r,k,x,hp,h=>Lk.congr r (k+1) x (λb j h1 h2=>hp b j (by omega) (by simp;omega)) h
 |(true, .row e te)::r,k,x,hp,h=>⟨by rw [hp true k (Ar _) (by simp)];exact h.1,Lk.congr r (k+1) x.2 (λb j h1 h2=>hp b j (by omega) (by simp;omega)) h.2⟩
 |(true, .Hb e te)::r,k,x,hp,h=>⟨by rw [hp true k (Ar _) (by simp)];exact h.1,Lk.congr r (k+1) x.2 (λb j h1 h2=>hp b j (by omega) (by simp;omega)) h.2⟩
 |(true, .part e te)::r,k,x,hp,h=>⟨by rw [hp true k (Ar _) (by simp)];exact h.1,Lk.congr r (k+1) x.2 (λb j h1 h2=>hp b j (by omega) (by simp;omega)) h.2⟩
theorem Eh.congr {π0 aK:Pi} : ∀(cs:List (Bool×CK)) (k:Nat) (o:IOs.den cs) (n:Nat) (us as:List Value),(∀b j,k<=j->j<k+cs.length->aK (Ds b j)=π0 (Ds b j))->Eh π0 k cs o n us as->Eh aK k cs o n us as
 | [],k,o,0,us,as,_,h=>by simpa [Eh] using h
 | [],k,o,n+1,us,as,_,h=>by simp [Eh] at h
 |p::r,k,o,0,us,as,_,h=>by
  rcases p with ⟨_|_,c⟩<;>cases c<;>simpa [Eh] using h
 |(true, .Fp _)::r,k,o,n+1,us,as,_,h=>by simp [Eh] at h
 |(true, .part _ _)::r,k,o,n+1,us,as,_,h=>by simp [Eh] at h
 |(true, .Bm _ _ _)::r,k,o,n+1,us,as,_,h=>by simp [Eh] at h
 |(true, .row e te)::r,k,o,n+1,[],as,_,h=>by simp [Eh] at h
 |(true, .Hb e te)::r,k,o,n+1,[],as,_,h=>by simp [Eh] at h
 |(true, .row e te)::r,k,o,n+1,u::us,as,hp,h=>by
  simp only [Eh] at h⊢
  exact ⟨by rw [hp true k (Ar _) (by simp)];exact h.1,Eh.congr r (k+1) o.2 n us as (λb j h1 h2=>hp b j (by omega) (by simp;omega)) h.2⟩
 |(true, .Hb e te)::r,k,o,n+1,u::us,as,hp,h=>by
  simp only [Eh] at h⊢
  exact ⟨by rw [hp true k (Ar _) (by simp)];exact h.1,Eh.congr r (k+1) o.2 n us as (λb j h1 h2=>hp b j (by omega) (by simp;omega)) h.2⟩
 |(false,c)::r,k,o,n+1,[],as,_,h=>by cases c<;>simp [Eh] at h
 |(false,c)::r,k,o,n+1,u::us,[],_,h=>by cases c<;>simp [Eh] at h
 |(false,c)::r,k,o,n+1,u::us,a::as,hp,h=>by
  have h:u=a/\Eh π0 (k+1) r o n us as:=by cases c<;>exact h
  have:=Eh.congr r (k+1) o n us as (λb j h1 h2=>hp b j (by omega) (by simp;omega)) h.2
  cases c<;>exact ⟨h.1,this⟩
theorem nJ: ∀(A B:List (Nat×OB)) (l:Nat),Aq (A++B) l=match Aq A l with|some b=>some b|none=>Aq B l
 | [],B,l=>rfl
 |(k,b)::A,B,l=>by
  simp only [Rj,Aq]
  split
  ·rfl
  ·exact nJ A B l
theorem qY {st:St} : ∀(cs:List CK) (as:List AC) (x:CKs.den cs) (ls:List Nat),To st cs as=some (x,ls)-> ∀l∈ls,∃b,Aq st.heap l=some b/\b.row≠none
 | [],[],x,ls,he=>by
  simp only [To,Aa,Ae] at he
  obtain ⟨_,rfl⟩:=he
  intro l hl;cases hl
 | [],_::_,_,_,he=>by simp [To] at he
 |_::_,[],_,_,he=>by simp [To] at he
 |c::r,a::as,x,ls,he=>by
  simp only [To] at he
  split at he
  ·rename_i x1 t1 x2 t2 h1 h2
   simp only [Aa,Ae] at he
   obtain ⟨_,rfl⟩:=he
   intro l hl
   rcases Aw.1 hl with hl|hl
   ·unfold iL at h1
    split at h1
    ·split at h1
     ·cases hv:Dj st _ a with
      |none=>rw [hv] at h1;cases h1
      |some p=>rw [hv] at h1;simp only [Ai,Aa,Ae] at h1;obtain ⟨_,rfl⟩:=h1;cases hl
     ·cases h1
    all_goals (repeat' split at h1)
    all_goals first|(cases h1;done)|skip
    all_goals (simp only [Aa,Ae] at h1;obtain ⟨_,rfl⟩:=h1)
    all_goals first|(cases hl;done)|skip
    all_goals (have hl:=Ad.1 hl;subst hl)
    all_goals (rename_i heq _;exact ⟨_,heq,by simp [OB.row]⟩)
   ·exact qY r as x2 t2 h2 l hl
  ·cases he
theorem nR {r r':Option Real} {sz off len:Nat} {v:Value} (h:Zz r r') (hv:He r' sz off len v):He r sz off len v:=by
 cases r<;>cases r'<;>first|exact h.elim|skip
 ·exact hv
 ·obtain ⟨h1,h2,h3,_⟩:=h
  obtain ⟨ad,g1,g2,g3⟩:=hv
  exact ⟨ad,by rw [h3];exact g1,by rw [h3];exact g2,by rw [h1,h2,h3];exact g3⟩
theorem Wz {st:St} {π0:Pi} (hs: ∀k,Aq st.heap (Ds true k)≠none->Zz ((π0 (Ds true k)).map full) (π (Ds true k))):
  ∀(cs:List (Bool×CK)) (k:Nat) (vs:List AC) (us:List Value) (bc:List AC) (o:IOs.den cs),Mi X w π st.heap vs us->It k cs vs=some bc->gg st vs cs->No st k cs=some o->
   ∃bv,Mi X w π st.heap bc bv/\bv.length=rn cs vs.length/\ ∀tl,Eh π0 k cs o vs.length us (bv++tl)
 |cs,k,[],us,bc,o,hr,he,_,_=>by
  have e1:us= []:=by cases us with|nil=>rfl|cons u us=>exact hr.elim
  have e2:bc= []:=by rcases cs with _|⟨⟨_|_,c⟩,r⟩<;>simpa [It] using he.symm
  subst e1;subst e2
  refine ⟨[],trivial,?_,λtl=>?_⟩
  ·rcases cs with _|⟨⟨_|_,c⟩,r⟩<;>rfl
  ·rcases cs with _|⟨⟨_|_,c⟩,r⟩<;>(try cases c)<;>simp [Eh]
 | [],k,a::vs,us,bc,o,hr,he,_,_=>by simp [It] at he
 |p::r,k,a::vs,[],bc,o,hr,_,_,_=>hr.elim
 |(false,c)::r,k,a::vs,u::us,bc,o,hr,he,hk,ho=>by
  have he:(It (k+1) r vs).map (λl=>a::l)=some bc:=by cases a<;>exact he
  cases hb:It (k+1) r vs with
  |none=>rw [hb] at he;cases he
  |some bc'=>
   rw [hb] at he
   simp only [Ai,Aa] at he;subst he
   obtain ⟨bv,g1,g2,g3⟩:=Wz hs r (k+1) vs us bc' o hr.2 hb (by cases a<;>exact hk) (by cases c<;>simpa only [No] using ho)
   refine ⟨u::bv,⟨hr.1,g1⟩,by simp [rn,g2],λtl=>?_⟩
   have:=g3 tl
   cases c<;>exact ⟨rfl,this⟩
 |(true,c)::r,k,a::vs,u::us,bc,o,hr,he,hk,ho=>by
  cases c with
  |Fp τ=>cases a<;>simp [It] at he
  |part e te=>cases a<;>simp [It] at he
  |Bm e te kp=>cases a<;>simp [It] at he
  |row e te=>
   cases a<;>first|(simp [It] at he;done)|skip
   rename_i l off len
   simp only [It] at he
   split at he
   rotate_left
   ·cases he
   rename_i hl
   have hl:l=Ds true k:=Jc hl
   subst hl
   obtain ⟨⟨rfl,hlen⟩,hk⟩:=hk
   obtain ⟨b,sz,n,h1,h2,h3,h4⟩:=hr.1
   have PU:=hs k (by rw [h1];simp)
   simp only [No] at ho
   split at ho
   ·rename_i x1 x2 q1 q2
    simp only [Aa] at ho;subst ho
    obtain ⟨bv,g1,g2,g3⟩:=Wz hs r (k+1) vs us bc x2 hr.2 he hk q2
    refine ⟨bv,g1,by simpa [rn] using g2,λtl=>?_⟩
    refine ⟨?_,g3 tl⟩
    simp only [nw] at q1
    split at q1
    ·rename_i fr tr e' Qg xs Ns
     split at q1
     ·rename_i hc
      obtain ⟨rfl,rfl⟩:=hc
      simp only [Aa] at q1;subst q1
      unfold St.at at Ns hlen
      rw [Ns] at hlen
      rw [h1] at Ns;cases Ns
      simp only [OB.row,Aa,Ae] at h2
      obtain ⟨rfl,rfl⟩:=h2
      have hlen:len=List.length xs:=hlen
      have:=nR PU h4
      rw [hlen] at this
      have e0:(π0 (Ds true k)).map full=(π0 (Ds true k)).map full:=rfl
      cases hp:π0 (Ds true k)<;>(rw [hp] at this;exact this)
     ·cases q1
    ·cases q1
   ·cases ho
  |Hb e te=>
   cases a<;>first|(simp [It] at he;done)|skip
   rename_i l off len
   simp only [It] at he
   split at he
   rotate_left
   ·cases he
   rename_i hl
   have hl:l=Ds true k:=Jc hl
   subst hl
   obtain ⟨⟨rfl,hlen⟩,hk⟩:=hk
   obtain ⟨b,sz,n,h1,h2,h3,h4⟩:=hr.1
   have PU:=hs k (by rw [h1];simp)
   simp only [No] at ho
   split at ho
   ·rename_i x1 x2 q1 q2
    simp only [Aa] at ho;subst ho
    obtain ⟨bv,g1,g2,g3⟩:=Wz hs r (k+1) vs us bc x2 hr.2 he hk q2
    refine ⟨bv,g1,by simpa [rn] using g2,λtl=>?_⟩
    refine ⟨?_,g3 tl⟩
    simp only [nw] at q1
    split at q1
    ·rename_i e' Qg xs Ns
     split at q1
     ·rename_i hc
      obtain ⟨rfl,rfl⟩:=hc
      simp only [Aa] at q1;subst q1
      unfold St.at at Ns hlen
      rw [Ns] at hlen
      rw [h1] at Ns;cases Ns
      simp only [OB.row,Aa,Ae] at h2
      obtain ⟨rfl,rfl⟩:=h2
      have hlen:len=List.length xs:=hlen
      have:=nR PU h4
      rw [hlen] at this
      cases hp:π0 (Ds true k)<;>(rw [hp] at this;exact this)
     ·cases q1
    ·cases q1
   ·cases ho
def Afo (s:MSpec) (g:Nat) (π:Pi):Pi:= λl=>if s.ptr.isSome=true/\l=Oc then some ⟨g,0,0,λb=>b=g,λb=>b=g⟩ else π l
def Acg (P:Program) (s:MSpec) (fn:Func) (x:Ins.den s.ins) (w:World) (S:Nat->Prop) (π:Pi) (g:Nat) (r:CKs.den s.outs) (o:IOs.den s.ins) (a':Act) (w':World):Prop:=
 ∃(v:Value) (Vl:List Value) (ρ:Pi),a'.defers= []/\(results fn a'.tmps).run P w'= .ok v w'/\pB s w' ρ (Vl.drop s.Yt) v/\jD s π w' g Vl o/\Kc w.heap.size (λb=>Ue π b\/s.gv g b) w w'/\Lk w' (iH S π ρ) π 0 s.ins o/\Ir w' (iH S π ρ) ρ 0 s.outs r Vl/\
  fh ρ (λb=>b<w'.heap.size/\(w.heap.size<=b\/ ∃l q,l<Bf/\π l=some q/\q.Ci b))/\(∀l,(∀k,k<s.Ta->l≠Jm k)->ρ l=none)/\(∀kj∈s.keeps,yc w w' (π (Ds false kj.1)) (ρ (Jm kj.2)) (s.Gg x))
theorem Ir.OQ {D:Nat->Prop} {ρ ρ':Pi} : ∀(cs:List CK) (k:Nat) (x:CKs.den cs) (us:List Value),(∀j,k<=j->j<k+cs.length->ρ' (Jm j)=ρ (Jm j))->Ir w D ρ k cs x us->Ir w D ρ' k cs x us
 | [],_,_,[],_,h=>h
 | [],_,_,_::_,_,h=>h.elim
 |_::_,_,_,[],_,h=>h.elim
 |c::r,k,x,u::us,he,h=>⟨by rw [he k (Ar _) (by simp)];exact h.1,Ir.OQ r (k+1) x.2 us (λj hj hl=>he j (by omega) (by simp;omega)) h.2⟩
theorem um {st:St} {n:Nat} {as:List AC} : ∀ {ks:List (Nat×Nat)},uk st n as ks-> ∀kj∈ks,∃l off len e te rows out p,as[kj.2]?=some (.own l off len)/\Aq st.heap l=some (.Bm e te rows out (some p))/\p.1=Ds false kj.1/\n<=p.2/\kj.1<1000
 | [],_,kj,hm=>by cases hm
 |(k,j)::r,h,kj,hm=>by
  simp only [uk] at h
  rcases Bb.1 hm with rfl|hm
  ·obtain ⟨h,_⟩:=h
   split at h
   ·rename_i l off len he
    split at h
    ·rename_i e te rows out p hl
     unfold St.at at hl
     exact ⟨l,off,len,e,te,rows,out,p,he,hl,h.1,h.2.1,by simpa using h.2.2⟩
    ·exact h.elim
   ·exact h.elim
  ·exact um h.2 kj hm
theorem uy {st:St} : ∀(cs:List CK) (as:List AC) (x:CKs.den cs) (ls:List Nat),To st cs as=some (x,ls)->as.length=cs.length
 | [],[],_,_,_=>rfl
 | [],_::_,_,_,he=>by simp [To] at he
 |_::_,[],_,_,he=>by simp [To] at he
 |c::r,a::as,x,ls,he=>by
  simp only [To] at he
  split at he
  ·rename_i h1 h2
   simp only [Bg,uy r as _ _ h2]
  ·cases he
theorem zV {α β:Type} (f:α->Sem β): ∀(l:List α) (vs:List β),vs.length=l.length->(∀(i:Nat) a v,l[i]?=some a->vs[i]?=some v->(f a).run P w= .ok v w)->(l.mapM f).run P w= .ok vs w
 | [],[],_,_=>by simp
 | [],_::_,h,_=>by simp at h
 |_::_,[],h,_=>by simp at h
 |a::l,v::vs,h,hr=>by
  rw [List.mapM_cons]
  simp only [Sem.run_bind,hr 0 a v rfl rfl,Result.andThen_ok,zV f l vs (by simpa using h) (λi a' v' ha hv=>hr (i+1) a' v' (by simpa using ha) (by simpa using hv)),Sem.run_pure]
theorem ss (hT:Ed P T) (Nt:Kd P Γ) (hm:P.follows .mixedOrders=true) {f:FuncId} {fn:Func} (hf:P.funcs[f]?=some fn) (s:MSpec) (w:World) (S:Nat->Prop) (π:Pi) (us:List Value) (x:Ins.den s.ins)
  (r:CKs.den s.outs) (o:IOs.den s.ins) (g:Nat) (kK:List Value) (Qd:m6 s w g us kK) (hSg:s.ptr.isSome=true->S g) (aL:cQ w (λb=>Ue π b\/S b) π 0 s.ins x us) (dh:fh π (λb=>b<w.heap.size)) (hS: ∀b,S b->b<w.heap.size/\ ¬Ue π b) (PA: ∀l,Aq (Xo 0 s.ins x) l=none->π l=none) (he:WY T Γ s fn x λz=>z=(r,o)):
  Calls P f kK.toArray w λe w'=> ∃v Vl ρ,e= .returned v/\pB s w' ρ (Vl.drop s.Yt) v/\jD s π w' g Vl o/\Kc w.heap.size (λb=>Ue π b\/s.gv g b) w w'/\Lk w' (iH S π ρ) π 0 s.ins o/\Ir w' (iH S π ρ) ρ 0 s.outs r Vl/\
   fh ρ (λb=>b<w'.heap.size/\(w.heap.size<=b\/ ∃l q,l<Bf/\π l=some q/\q.Ci b))/\(∀l,(∀k,k<s.Ta->l≠Jm k)->ρ l=none)/\(∀kj∈s.keeps,yc w w' (π (Ds false kj.1)) (ρ (Jm kj.2)) (s.Gg x)):=by
 obtain ⟨hlen,c,hb,he⟩:=he
 simp only [Ag,Ml] at hlen
 obtain ⟨hlen,PC⟩:=hlen
 unfold wY at PC
 simp only [Ag] at PC
 have Adm:=PC.1
 let oe:Pi:=Afo s g π
 let Sg:Nat->Prop:= λb=>S b/\ ¬s.gv g b
 have hvl: ∀b j,j<1000->Ds b j≠Oc:= λb j hj=>by cases b<;>(unfold Ds Oc;simp;omega)
 have w7: ∀b j,0<=j->j<0+s.ins.length->oe (Ds b j)=π (Ds b j):= λb j _ hj=>Al λh=>hvl b j (by omega) h.2
 have XV: ∀b j,0<=j->j<0+s.ins.length->π (Ds b j)=oe (Ds b j):= λb j h1 h2=>(w7 b j h1 h2).symm
 have Aam:Aq (Xo 0 s.ins x) Oc=none:=Cs λhn=>by
  obtain ⟨b,j,_,h2,h3⟩:=qv s.ins 0 x Oc hn
  exact hvl b j (by omega) h3.symm
 have MS: ∀l q,oe l=some q->(π l=some q/\(s.ptr.isSome=true->l≠Oc))\/(s.ptr.isSome=true/\l=Oc/\q=⟨g,0,0,λb=>b=g,λb=>b=g⟩):= λl q hq=>by
  have hq:(if s.ptr.isSome=true/\l=Oc then some ⟨g,0,0,λb=>b=g,λb=>b=g⟩ else π l)=some q:=hq
  split at hq
  ·rename_i hc;exact .inr ⟨hc.1,hc.2,(Ba hq).symm⟩
  ·rename_i hc;exact .inl ⟨hq,λh1 h2=>hc ⟨h1,h2⟩⟩
 have bI: ∀b,Ue oe b↔Ue π b\/s.gv g b:= λb=>by
  constructor
  ·rintro ⟨l,q,h1,h2⟩
   rcases MS l q h1 with ⟨h3,_⟩|⟨h3,h4,rfl⟩
   ·exact .inl ⟨l,q,h3,h2⟩
   ·exact .inr ⟨h3,h2⟩
  ·rintro (⟨l,q,h1,h2⟩|⟨h1,rfl⟩)
   ·refine ⟨l,q,?_,h2⟩
    show (if s.ptr.isSome=true/\l=Oc then _ else π l)=some q
    rw [Al]
    ·exact h1
    ·rintro ⟨_,rfl⟩
     rw [PA Oc Aam] at h1;cases h1
   ·exact ⟨Oc,⟨b,0,0,λc=>c=b,λc=>c=b⟩,Ab ⟨h1,rfl⟩,rfl⟩
 have hgS: ∀b,s.gv g b->S b:= λb ⟨h1,h2⟩=>h2▸hSg h1
 have Aa2:cQ w (λb=>Ue oe b\/Sg b) oe 0 s.ins x us:=cQ.congr s.ins 0 x us w7 (cQ.Io (λb hb=>by
  rcases hb with hb|hb
  ·rcases (bI b).1 hb with hb|hb
   ·exact .inl hb
   ·exact .inr (hgS b hb)
  ·exact .inr hb.1) s.ins 0 x us aL)
 have Adt:fh oe (λb=>b<w.heap.size):=⟨λl q b h1 h2=>by
  rcases MS l q h1 with ⟨h3,_⟩|⟨h3,h4,rfl⟩
  ·exact dh.Yc l q b h3 h2
  ·exact (hS b (hgS b ⟨h3,h2⟩)).1,λl l' q q' b h1 h2 h3 h4=>by
  rcases MS l q h1 with ⟨h5,_⟩|⟨h5,h6,rfl⟩<;>rcases MS l' q' h2 with ⟨h7,_⟩|⟨h7,h8,rfl⟩
  ·exact dh.inj l l' q q' b h5 h7 h3 h4
  ·exact absurd ⟨l,q,h5,h3⟩ (hS b (hgS b ⟨h7,h4⟩)).2
  ·exact absurd ⟨l',q',h7,h4⟩ (hS b (hgS b ⟨h5,h3⟩)).2
  ·rw [h6,h8]⟩
 have Ai1: ∀b,Sg b->b<w.heap.size/\ ¬Ue oe b:= λb hb=>⟨(hS b hb.1).1,λho=>((bI b).1 ho).elim (hS b hb.1).2 hb.2⟩
 have HL: ∀l,Aq (nK s x) l=match Aq (Xo 0 s.ins x) l with|some b=>some b|none=>if l=Oc then s.ptr.map λp=> .var p.1 ((al 0 s.ins x).take p.2) else none:= λl=>by
  unfold nK
  cases hp:s.ptr with
  |none=>cases Aq (Xo 0 s.ins x) l<;>simp
  |some p=>
   simp only
   rw [nJ]
   cases Aq (Xo 0 s.ins x) l with
   |some b=>rfl
   |none=>
    simp only [Aq,Ai]
    by_cases e:l=Oc
    ·rw [Ab e,Ab e.symm]
    ·rw [Al e,Al (λh=>e h.symm)]
 let π0:Pi:= λl=>(oe l).map full
 have un: ∀l q,π0 l=some q-> ∃q0,oe l=some q0/\q=full q0:= λl q hq=>by
  have hq:(oe l).map full=some q:=hq
  cases hp:oe l with
  |none=>rw [hp] at hq;cases hq
  |some q0=>rw [hp] at hq;exact ⟨q0,rfl,(Ba hq).symm⟩
 have PE: ∀l b,Aq (Xo 0 s.ins x) l=some b->Aq (nK s x) l=some b:= λl b hb=>by rw [HL l,hb]
 have hrc:Mi ⟨w,Sg,Ue oe,π0⟩ w π0 (nK s x) (al 0 s.ins x) us:=yZ (λ_=>rfl) s.ins 0 x us (by omega) Aa2 PE
 have QA:s.ptr.isSome=true->π0 Oc=some ⟨g,0,0,λb=>b=g,λb=>b=g⟩:= λhp=>by
  show (if s.ptr.isSome=true/\Oc=Oc then _ else π Oc).map full=_
  rw [Ab ⟨hp,rfl⟩];rfl
 obtain ⟨g1,g2⟩:(Yq s (al 0 s.ins x)).length=kK.length/\ ∀(i:Nat) c v,(Yq s (al 0 s.ins x))[i]?=some c->kK[i]?=some v->Bi ⟨w,Sg,Ue oe,π0⟩ w π0 (nK s x) c v:=by
  unfold m6 at Qd
  cases hp:s.ptr with
  |none=>
   rw [hp] at Qd
   obtain ⟨rfl,oF⟩:=Qd
   obtain ⟨g1,g2,_,_⟩:=cr s.Jn _ us oF hrc
   rw [show Yq s (al 0 s.ins x)=Rq s.Jn (al 0 s.ins x) by unfold Yq;rw [hp]]
   exact ⟨g1,g2⟩
  |some p=>
   rw [hp] at Qd
   obtain ⟨rfl,oF,_⟩:=Qd
   obtain ⟨g1,g2,_,_⟩:=cr s.Jn _ (us.drop p.2) oF (Mi.take p.2 hrc).2
   rw [show Yq s (al 0 s.ins x)= .at (.Gs Oc 0)::Rq s.Jn ((al 0 s.ins x).drop p.2) by unfold Yq;rw [hp]]
   refine ⟨by simp [g1],λi c v h1 h2=>?_⟩
   rcases i with _|i
   ·simp only [Bn,Aa] at h1 h2
    subst h1;subst h2
    exact ⟨_,p.1,(al 0 s.ins x).take p.2,by rw [HL,Aam];simp [hp],QA (by rw [hp];rfl),rfl⟩
   ·exact g2 i c v (by simpa using h1) (by simpa using h2)
 have h0:Rel ⟨w,Sg,Ue oe,π0⟩ {tmps:=Yq s (al 0 s.ins x)++List.replicate (fn.ntmps-(Yq s (al 0 s.ins x)).length) .undef,heap:=nK s x}
   {tmps:=kK.toArray++Array.replicate (fn.ntmps-kK.toArray.size) undef,defers:= []} w:=by
  refine ⟨π0,⟨Kc.refl _ _ _,λb hb=>Ai1 b hb,λl q b h1 h2=>?_,λl q b h1 h2=>?_,λl l' q q' b h1 h2 h3 h4=>?_,λl _ _=>Zz.rfl' _,λl=>?_⟩,⟨by simp [g1],rfl,λt=>?_⟩⟩
  ·obtain ⟨q0,_,rfl⟩:=un l q h1;exact h2
  ·obtain ⟨q0,h3,rfl⟩:=un l q h1
   exact ⟨.inr ⟨l,q0,h3,h2⟩,Adt.Yc l q0 b h3 h2⟩
  ·obtain ⟨q0,h5,rfl⟩:=un l q h1
   obtain ⟨q0',h6,rfl⟩:=un l' q' h2
   exact Adt.inj l l' q0 q0' b h5 h6 h3 h4
  ·cases hh:Aq (Xo 0 s.ins x) l with
   |none=>
    by_cases hv:s.ptr.isSome=true/\l=Oc
    ·obtain ⟨hps,rfl⟩:=hv
     obtain ⟨p,hp⟩:=Option.isSome_iff_exists.1 hps
     refine Fq.La (b:= .var p.1 ((al 0 s.ins x).take p.2)) ?_ (by rw [HL,hh];simp [hp])
     unfold m6 at Qd
     rw [hp] at Qd
     obtain ⟨_,_,h1,h2,h3⟩:=Qd
     rw [QA hps]
     exact ⟨_,rfl,rfl,_,h2,Mi.to (Mi.take p.2 hrc).1 h3⟩
    ·refine Fq.Sr ?_ ?_
     ·show (if s.ptr.isSome=true/\l=Oc then _ else π l).map full=none
      rw [Al hv,PA l hh];rfl
     ·rw [HL,hh]
      simp only
      split
      ·rename_i e
       cases hp:s.ptr with
       |none=>rfl
       |some p=>exact absurd ⟨by rw [hp];rfl,e⟩ hv
      ·rfl
   |some b=>exact Fq.La (jX (π0:=oe) (λb hb=>by
    rcases hb with ⟨l,q,h1,h2⟩|hb|⟨hb,_⟩
    ·obtain ⟨q0,h3,rfl⟩:=un l q h1;exact .inl ⟨l,q0,h3,h2⟩
    ·exact .inr hb
    ·cases hb) rfl (λ_=>rfl) s.ins 0 x us Aa2 l b hh) (PE l b hh)
  ·show Bi _ w _ _ ((Yq s (al 0 s.ins x)++List.replicate _ AV.undef).getD t .undef) ((kK.toArray++Array.replicate _ undef).getD t undef)
   by_cases ht:t<kK.length
   ·rw [Ah,Ap (by omega),<-Ah]
    rw [aN,Ry (by simpa using ht)]
    have:=g2 t _ _ (Ac (by omega)) (Ac ht)
    simpa [Ah,Ac ht,Ac (show t<(Yq s (al 0 s.ins x)).length by omega)] using this
   ·have:(Yq s (al 0 s.ins x)++List.replicate (fn.ntmps-(Yq s (al 0 s.ins x)).length) AV.undef).getD t .undef= .undef:=by
     rw [Ah,Ao (by omega)]
     rw [List.getElem?_replicate]
     split<;>rfl
    rw [this];trivial
 have fin: ∀(st:St) (a':Act) (w':World),NW T s fn x st (λz=>z=(r,o))->Rel ⟨w,Sg,Ue oe,π0⟩ st a' w'->Acg P s fn x w S π g r o a' w':=by
  intro st a' w' fU hrel
  obtain ⟨aK,h'⟩:=hrel
  have YC:Bf<=Oc:=by unfold Bf Oc;omega
  obtain ⟨bc,nI,Ak0,hbc⟩: ∃bc,iB T s fn x st bc (λz=>z=(r,o))/\(s.ptr.isSome=true-> ∃b,Aq st.heap Oc=some b/\b.row=none)/\
    (No st 0 s.ins=some o-> ∃bv,Mi ⟨w,Sg,Ue oe,π0⟩ w' aK st.heap bc bv/\bv.length=s.Yt/\ ∀tl,jD s π w' g (bv++tl) o):=by
   unfold NW at fU
   cases hp:s.ptr with
   |none=>
    rw [hp] at fU
    exact ⟨[],fU,λh=>by simp at h,λ_=>⟨[],trivial,by simp [MSpec.Yt,hp],λtl=>by simp [jD,hp]⟩⟩
   |some p=>
    rw [hp] at fU
    obtain ⟨vs,cs,h1,h2,h3,h4,h5⟩:=fU
    unfold St.at at h1
    refine ⟨cs,h5,λ_=>⟨_,h1,rfl⟩,λw5=>?_⟩
    obtain ⟨q,k1,k2,cur,k3,k4⟩:=(h'.1.heap Oc).Qi h1
    have hsv:Zz (π0 Oc) (aK Oc):=h'.1.fb Oc YC (by rw [h1];simp)
    rw [QA (by rw [hp];rfl),k1] at hsv
    have hqg:g=q.g:=hsv.1
    obtain ⟨bv,g1,g2,g3⟩:=Wz (π0:=oe) (λk hk=>h'.1.fb _ (Nat.le_of_not_lt (Zo k)) hk) s.ins 0 vs cur.toList cs o (Mi.of k4) h3 h4 w5
    refine ⟨bv,g1,by rw [g2,h2];simp [MSpec.Yt,hp],λtl=>?_⟩
    unfold jD
    rw [hp]
    refine ⟨cur.toList,by rw [hqg];simpa using k3,λu hu=>?_,Eh.congr s.ins 0 o p.2 _ _ XV (h2▸g3 tl)⟩
    obtain ⟨i,hi,rfl⟩:=Az.1 hu
    have hl:=k4.1
    obtain ⟨u',h6,h7,_⟩:=k4.2 i (vs[i]'(by omega)) (Ac _)
    rw [Ac hi] at h6
    rw [Ba h6];exact h7
  unfold iB at nI
  split at nI
  ·exact nI.elim
  rename_i l hl
  split at nI
  ·exact nI.elim
  rename_i as ml eS
  split at nI
  rotate_left
  ·exact nI.elim
  rename_i r' ls o' CY eo
  obtain ⟨Jd,ub,hro⟩:=nI
  simp only [Ag,Ml] at Jd
  obtain ⟨⟨⟨sl,Anz⟩,Alx⟩,Adg⟩:=Jd
  simp only [Ae] at hro
  obtain ⟨rfl,rfl⟩:=hro
  obtain ⟨bv,hbv,Aid,Aia⟩:=hbc eo
  have CV:=Wi sl
  obtain ⟨n1,n2,n3⟩:=Dg.1 CV
  obtain ⟨m1,m2,m3⟩:=Dg.1 n1
  obtain ⟨vs,v1,v2,v3,v4⟩:=Wl hT h' _ _ hl
  have VJ:fn.results=fn.results.toList.toArray:=Array.toArray_toList.symm
  have Tz: ∀v,(if h:vs.toArray.size=1 then vs.toArray[0] else .tuple vs.toArray)=v->(results fn a'.tmps).run P w'= .ok v w':=by
   intro v hv
   rw [dF,VJ,List.mapM_toArray]
   simp only [map_eq_pure_bind,bind_assoc,pure_bind]
   simp only [Sem.run_bind,zV (EW a'.tmps) _ vs v1 v3,Result.andThen_ok,Sem.run_pure]
   rw [hv]
  obtain ⟨tv,v,qm,Ajx,hv,hqm⟩: ∃tv v qm,Mi ⟨w,Sg,Ue oe,π0⟩ w' aK st.heap as tv/\(results fn a'.tmps).run P w'= .ok v w'/\
    ((s.rp=none/\ml= []/\qm=none/\SC s.Hx s.Im tv v/\bp s.Im tv)\/
     ∃tid m q,s.rp=some tid/\ml= [m]/\m<Bf/\qm=some q/\aK m=some q/\q.Ci q.g/\w'.heap[q.g]?=some (.cells tv.toArray tid (0,0))/\(∀u∈tv,u.oneCell'=true)/\v= .pointer (some ⟨q.g,0,none⟩)):=by
   unfold EV at eS
   split at eS
   ·rename_i BO
    split at eS
    rotate_left
    ·cases eS
    rename_i hmul
    cases m5:ungroup s.Im l with
    |none=>rw [m5] at eS;cases eS
    |some as'=>
     rw [m5] at eS
     simp only [Ai,Aa,Ae] at eS
     obtain ⟨rfl,rfl⟩:=eS
     obtain ⟨tv,e1,e2,e3⟩:=Yb s.Im l vs as' (by omega) v4 m5
     have hv: ∃v,(results fn a'.tmps).run P w'= .ok v w'/\SC s.Hx s.Im tv v:=by
      unfold SC
      rw [<-e1,hmul]
      rcases Nat.lt_or_ge 1 l.length with h1|h1
      ·have UU:Nat.blt 1 l.length=true:=by simpa using h1
       simp only [UU,Pw]
       refine ⟨.tuple vs.toArray,Tz _ ?_,rfl⟩
       rw [dif_neg (by simp;omega)]
      ·have UU:Nat.blt 1 l.length=false:=by rw [<-Ht];simpa using h1
       simp only [UU,Cy,Sa]
       rcases vs with _|⟨v,_|⟨v',vs⟩⟩
       ·exact ⟨_,Tz _ (by simp;rfl), .inr rfl⟩
       ·exact ⟨v,Tz _ (by simp), .inl rfl⟩
       ·exfalso;simp only [Bg] at v1;omega
     obtain ⟨v,hv1,hv2⟩:=hv
     exact ⟨tv,v,none,e3,hv1, .inl ⟨BO,rfl,rfl,hv2,e2⟩⟩
   ·rename_i tid BO
    split at eS
    rotate_left
    ·cases eS
    rename_i m i
    split at eS
    rotate_left
    ·cases eS
    rename_i Tf vs' hm
    split at eS
    rotate_left
    ·cases eS
    rename_i hc
    obtain ⟨rfl,rfl,UH⟩:=hc
    simp only [Aa,Ae] at eS
    obtain ⟨rfl,rfl⟩:=eS
    unfold St.at at hm
    rcases vs with _|⟨v,_|⟨v',vs⟩⟩
    ·exfalso;simp only [Bg,Iq] at v1 v2;omega
    ·obtain ⟨q,Aqd,vs2,q1,q2,q3⟩:=v4 0 _ v rfl rfl
     rw [hm] at q1;cases q1
     obtain ⟨q',k1,k2,cur,k3,k4⟩:=(h'.1.heap m).Qi hm
     rw [q2] at k1;cases k1
     refine ⟨cur.toList,v,some q,Mi.of k4,Tz _ (by simp), .inr ⟨_,m,q,BO,rfl,by simpa using UH,rfl,q2,k2,by simpa using k3,λu hu=>?_,q3⟩⟩
     obtain ⟨i,hi,rfl⟩:=Az.1 hu
     have hl:=k4.1
     obtain ⟨u',h6,h7,_⟩:=k4.2 i (vs'[i]'(by omega)) (Ac _)
     rw [Ac hi] at h6
     rw [Ba h6];exact h7
    ·exfalso;simp only [Bg,Iq] at v1 v2;omega
  obtain ⟨ya,p1,p2,p3,p4,p5⟩:=uz h'.1 s.outs 0 (bc++as) (bv++tv) r' ls (hbv.append Ajx) CY m2
  obtain ⟨io1,io2⟩:=Sy (π0:=oe) h'.1 (λ_=>rfl) s.ins 0 x us o' Aa2 eo
  have Ad4:(bv++tv).drop s.Yt=tv:=by rw [<-Aid];simp
  let ρ:Pi:= λl0=>if l0=Jm s.outs.length then qm else ya l0
  have Aas:ρ (Jm s.outs.length)=qm:=Ab rfl
  have Aeh: ∀l0,l0≠Jm s.outs.length->ρ l0=ya l0:= λl0 h=>Al h
  have Aeg: ∀j,j<s.outs.length->ρ (Jm j)=ya (Jm j):= λj hj=>Aeh _ (by unfold Jm;omega)
  have sj: ∀l0 q,ρ l0=some q->(l0=Jm s.outs.length/\qm=some q)\/(l0≠Jm s.outs.length/\ya l0=some q):= λl0 q h=>by
   by_cases e:l0=Jm s.outs.length
   ·subst e;rw [Aas] at h;exact .inl ⟨rfl,h⟩
   ·rw [Aeh l0 e] at h;exact .inr ⟨e,h⟩
  have Adz: ∀q,qm=some q-> ∃m,ml= [m]/\m<Bf/\aK m=some q:= λq hq=>by
   rcases hqm with ⟨_,_,h1,_⟩|⟨_,m,q',_,h1,h2,h3,h4,_⟩
   ·rw [h1] at hq;cases hq
   ·rw [h3] at hq;cases hq;exact ⟨m,h1,h2,h4⟩
  have p3': ∀l0 q b,ρ l0=some q->q.Ci b-> ∃l1∈ml++ls,∃p,aK l1=some p/\p.cl b/\((s.outs.all λc=>!c.YL)=true->p.Ci b)/\((l1∈ls)\/l1<Bf):= λl0 q b h1 h2=>by
   rcases sj l0 q h1 with ⟨_,h3⟩|⟨_,h3⟩
   ·obtain ⟨m,e1,e2,e3⟩:=Adz q h3
    exact ⟨m,by rw [e1];simp,q,e3,h'.1.sub m q b e3 h2,λ_=>h2, .inr e2⟩
   ·obtain ⟨l1,g1,p,g2,g3,g4⟩:=p3 l0 q b h3 h2
    exact ⟨l1,Bu _ g1,p,g2,g3,g4, .inl g1⟩
  have p4': ∀l0 l1 q q' b,ρ l0=some q->ρ l1=some q'->q.Ci b->q'.Ci b->l0=l1:= λl0 l1 q q' b h1 h2 h3 h4=>by
   have yz: ∀l0 q q' b,ya l0=some q->qm=some q'->q.Ci b->q'.Ci b->False:= λl0 q q' b h1 h2 h3 h4=>by
    obtain ⟨m,e1,e2,e3⟩:=Adz q' h2
    obtain ⟨l1,g1,p,g2,g3,_⟩:=p3 l0 q b h1 h3
    have:=h'.1.inj m l1 q' p b e3 g2 (h'.1.sub m q' b e3 h4) g3
    exact m3 m (by rw [e1];simp) l1 g1 this
   rcases sj l0 q h1 with ⟨e1,h5⟩|⟨e1,h5⟩<;>rcases sj l1 q' h2 with ⟨e2,h6⟩|⟨e2,h6⟩
   ·rw [e1,e2]
   ·exact (yz l1 q' q b h6 h5 h4 h3).elim
   ·exact (yz l0 q q' b h5 h6 h3 h4).elim
   ·exact p4 l0 l1 q q' b h5 h6 h3 h4
  have HS: ∀l0 q,Bf<=l0->oe l0=some q->Aq st.heap l0≠none/\(l0∈Ot 0 s.ins\/ ∃b,Aq st.heap l0=some b/\b.row=none):= λl0 q h1 h2=>by
   rcases MS l0 q h2 with ⟨h3,_⟩|⟨h3,rfl,_⟩
   ·have w5:=uh s.ins 0 x l0 Adm (by omega) (λhnn=>by rw [PA l0 hnn] at h3;cases h3) (by omega)
    exact ⟨io2 l0 w5, .inl w5⟩
   ·obtain ⟨b,h4,h5⟩:=Ak0 h3
    exact ⟨by rw [h4];simp, .inr ⟨b,h4,h5⟩⟩
  have hDO:(s.outs.all λc=>!c.YL)=true-> ∀b,iH Sg oe ρ b->Ue aK b\/Sg b:=by
   intro hx b hb
   rcases hb with hb|⟨l0,q,h1,h2,h3⟩|⟨l0,q,h1,h2⟩
   ·exact .inr hb
   ·have hs:=h'.1.fb l0 h1 (HS l0 q h1 h2).1
    have hs:Zz ((oe l0).map full) (aK l0):=hs
    rw [h2] at hs
    cases uc:aK l0 with
    |none=>rw [uc] at hs;exact hs.elim
    |some q1=>rw [uc] at hs;exact .inl ⟨l0,q1,uc,(hs.2.2.2 b).1 h3⟩
   ·obtain ⟨m,_,p,hm2,_,hm4,_⟩:=p3' l0 q b h1 h2
    exact .inl ⟨m,p,hm2,hm4 hx⟩
  have hDD: ∀b,iH S π ρ b->iH Sg oe ρ b:= λb hb=>by
   rcases hb with hb|⟨l0,q,h1,h2,h3⟩|hb
   ·by_cases hgb:s.gv g b
    ·obtain ⟨hps,rfl⟩:=hgb
     exact .inr (.inl ⟨Oc,_,YC,Ab ⟨hps,rfl⟩,rfl⟩)
    ·exact .inl ⟨hb,hgb⟩
   ·refine .inr (.inl ⟨l0,q,h1,?_,h3⟩)
    show (if s.ptr.isSome=true/\l0=Oc then _ else π l0)=some q
    rw [Al]
    ·exact h2
    ·rintro ⟨_,rfl⟩
     rw [PA Oc Aam] at h2;cases h2
   ·exact .inr (.inr hb)
  have UD:s.flat=true\/(s.outs.all λc=>!c.YL)=true:=by unfold MSpec.QU at Adg;simpa only [Jq] using Adg
  have io1:Lk w' (iH S π ρ) π 0 s.ins o':=by
   refine Lk.congr s.ins 0 o' XV ?_
   rcases UD with hf|hf
   ·unfold MSpec.flat at hf
    simp only [Ag] at hf
    exact Lk.any s.ins 0 o' hf.2 io1
   ·exact Lk.Io (λb hb=>hDO hf b (hDD b hb)) s.ins 0 o' io1
  have p1:Ir w' (iH S π ρ) ρ 0 s.outs r' (bv++tv):=by
   have p1:Ir w' (λb=>Ue aK b\/Sg b) ρ 0 s.outs r' (bv++tv):=Ir.OQ s.outs 0 r' _ (λj _ hj=>Aeg j (by omega)) p1
   rcases UD with hf|hf
   ·unfold MSpec.flat at hf
    simp only [Ag] at hf
    exact Ir.any s.outs 0 r' (bv++tv) hf.1 p1
   ·exact Ir.Io (λb hb=>hDO hf b (hDD b hb)) s.outs 0 r' (bv++tv) p1
  refine ⟨v,bv++tv,ρ,h'.2.defers,hv,?_,Aia tv,⟨h'.1.below.os,h'.1.below.tape,h'.1.below.output,h'.1.below.size,λk hk hn=>h'.1.below.block k hk λho=>hn ((bI k).1 ho)⟩,io1,p1,⟨λl0 q b h1 h2=>?_,p4'⟩,λl0 hl0=>?_,λkj NO=>?_⟩
  ·rw [Ad4]
   unfold pB
   rcases hqm with ⟨h1,_,_,h2⟩|⟨tid,m,q,h1,_,_,h3,_,h4,h5,h6,h7⟩
   ·rw [h1];exact h2
   ·rw [h1];exact ⟨q,by rw [Aas,h3],h4,h5,h6,h7⟩
  ·obtain ⟨m,hm1,p,hm2,hm3,_,hm4⟩:=p3' l0 q b h1 h2
   obtain ⟨k1,k2⟩:=h'.1.place m p b hm2 hm3
   refine ⟨k2,k1.imp id λ⟨c0,q0,h5,h6⟩=>?_⟩
   have Js:c0<Bf:=Cs λhn=>by
    obtain ⟨Jg,w5⟩:=HS c0 q0 (by omega) h5
    have hs:=h'.1.fb c0 (by omega) Jg
    have hs:Zz ((oe c0).map full) (aK c0):=hs
    rw [h5] at hs
    cases uc:aK c0 with
    |none=>rw [uc] at hs;exact hs.elim
    |some q1=>
     rw [uc] at hs
     have hf1:q1.Ci b:=(hs.2.2.2 b).1 h6
     have:=h'.1.inj c0 m q1 p b uc hm2 (h'.1.sub c0 q1 b uc hf1) hm3
     subst this
     rcases hm4 with hm4|hm4
     ·rcases w5 with w5|⟨b1,UU,hb2⟩
      ·exact n3 c0 hm1 c0 w5 rfl
      ·obtain ⟨b2,hb3,hb4⟩:=qY s.outs _ _ _ CY c0 hm4
       rw [UU] at hb3;cases hb3
       exact hb4 hb2
     ·exact hn hm4
   refine ⟨c0,q0,Js,?_,h6⟩
   rcases MS c0 q0 h5 with ⟨h7,_⟩|⟨_,h7,_⟩
   ·exact h7
   ·omega
  ·cases hp:ρ l0 with
   |none=>rfl
   |some q=>
    rcases sj l0 q hp with ⟨e,h3⟩|⟨_,h3⟩
    ·refine absurd e (hl0 _ ?_)
     rcases hqm with ⟨_,_,h4,_⟩|⟨tid,m,q',h4,_⟩
     ·rw [h4] at h3;cases h3
     ·unfold MSpec.Ta;rw [h4];simp
    ·obtain ⟨j,_,j2,j3⟩:=p2 l0 q h3
     exact absurd j3 (hl0 j (by unfold MSpec.Ta;omega))
  ·obtain ⟨l0,off,len,e,te,rows,out,p,q1,q2,q3,q4,q5⟩:=um ub kj NO
   have hj:kj.2<s.outs.length:=by
    rw [<-uy s.outs _ _ _ CY]
    exact (Aj.1 q1).1
   have e1:=p5 kj.2 l0 off len e te rows out (some p) q1 q2
   rw [Cf] at e1
   rw [Aeg _ hj,e1]
   have hk:=((h'.1.heap l0).Qi q2).2
   obtain ⟨l1,n1⟩:=p
   simp only [KeptAt] at hk
   dsimp only at q3 q4
   subst q3
   have JZ:π0 (Ds false kj.1)=(π (Ds false kj.1)).map full:=by
    show (if s.ptr.isSome=true/\Ds false kj.1=Oc then _ else π (Ds false kj.1)).map full=_
    rw [Al λh=>hvl false kj.1 q5 h.2]
   rw [JZ] at hk
   unfold yc
   cases hp:π (Ds false kj.1) with
   |none=>
    rw [hp] at hk
    cases uc:aK l0 with
    |none=>trivial
    |some q=>rw [uc] at hk;exact hk.elim
   |some q0=>
    rw [hp] at hk
    cases uc:aK l0 with
    |none=>rw [uc] at hk;exact hk.elim
    |some q=>
     rw [uc] at hk
     obtain ⟨k1,k2,k3,k4⟩:=hk
     exact ⟨k1,k2,k3,λj hj hc=>k4 j (by omega) hc⟩
 refine calls_of_wp hf hb ?_
 refine (rv hT Nt hm he _ w _ h0 λe st a' w' ⟨Jg,fU⟩ h'=>?_).1
 obtain ⟨v,Vl,ρ,p1,p2,p3⟩:=fin st a' w' fU h'
 cases e with
 |normal=>exact ⟨p1,v,p2,v,Vl,ρ,rfl,p3⟩
 |ret=>exact ⟨p1,v,p2,v,Vl,ρ,rfl,p3⟩
 |exit id=>exact absurd rfl (Jg id)
end
end Go.Proofs.Ytkkdpknjohcekaa
