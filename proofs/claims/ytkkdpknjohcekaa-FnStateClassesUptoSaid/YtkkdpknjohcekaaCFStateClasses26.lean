/-
  Part 27 of the proof that the statement FnStateClasses holds.
-/
import Derived.Test.YtkkdpknjohcekaaCFStateClasses25
namespace Go.Proofs.Ytkkdpknjohcekaa
open Go.RowKit
section
variable {P:Program} {T:Tab} {Γ:Env} {X:Ctx} {w w':World} {π:Pi} {H:List (Nat×OB)}
theorem r8: ∀(cs:List (Bool×CK)) (k:Nat) (x:Ins.den cs) (l:Nat),At (Ym k cs x) l≠none-> ∃b j,k<=j/\j<k+cs.length/\l=Dr b j
 | [],_,_,_,h=>absurd rfl h
 |p::r,k,x,l,h=>by
  simp only [Ym] at h
  by_cases e:l=Dr p.1 k
  ·exact ⟨p.1,k,Ao _,by simp,e⟩
  ·have:At (Ym (k+1) r x.2) l≠none:=by
    cases hc:j6 (Dr p.1 k) p.2 x.1 with
    |none=>rw [hc] at h;exact h
    |some b=>rw [hc] at h;simpa only [ga,At,Ai (Fv e)] using h
   obtain ⟨b,j,h1,h2,h3⟩:=r8 r (k+1) x.2 l this
   exact ⟨b,j,by omega,by simp;omega,h3⟩
theorem NM {p:Bool×CK} {r:List (Bool×CK)} {k:Nat} {x:Ins.den (p::r)} (hk:k+(r.length+1)<100000) {l:Nat} {b:OB} (h:At (Ym (k+1) r x.2) l=some b):At (Ym k (p::r) x) l=some b:=by
 obtain ⟨b',j,h1,h2,rfl⟩:=r8 r (k+1) x.2 l (by rw [h];simp)
 simp only [Ym]
 cases j6 (Dr p.1 k) p.2 x.1 with
 |none=>exact h
 |some c=>simp only [ga,At];rw [Ai (LU (by omega) (by omega) (by omega))];exact h
theorem RU {D:Nat->Prop} (hD: ∀b,Cv X.w0.heap.size X.Sc π false b->D b) (hw0:X.w0=w) {l:Nat} {r:Option Real} (cc:X.fI l=r.map full) {u:Value} {c:CK} {x:c.den} (h:dw w D r u c x) {b:OB} (hb:j6 l c x=some b):Cd X w π H (r.map full) b:=by
 have Ve: ∀ {e:Ty} {es:List Value} {y:e.den},Cells w D e es y->Cells w (Cv X.w0.heap.size X.Sc π false) e es y:= λ {e es y} h=>Cells.Fb (Ao _) (λ_ _ _=>rfl) (λb _ hb=>hD b hb) e es y h
 cases c with
 |Hx τ=>cases hb
 |row e te=>
  simp only [j6,Aa] at hb;subst hb
  obtain ⟨_,h⟩:=h
  simp only [eM] at h
  simp only [Cd,Jk]
  cases r with
  |none=>exact h
  |some q=>
   obtain ⟨k1,cu,ti,k2,k3,k4,k5,k6⟩:=h
   exact ⟨⟨k1.1,k1.2,λh=>by cases h⟩,cu,ti,k2,k3,k4,k5,λi y hy=>by
    obtain ⟨es,g1,g2,g3⟩:=k6 i y hy
    exact ⟨es,g1,g2,Ve g3⟩,λh=>by cases h⟩
 |Gz e te=>
  simp only [j6,Aa] at hb;subst hb
  cases r<;>exact h.2
 |part e te=>
  simp only [j6,Aa] at hb;subst hb
  obtain ⟨_,hf,h⟩:=h
  simp only [Cd,Jk]
  cases r with
  |none=>exact h
  |some q=>
   obtain ⟨k1,cu,ti,k2,k3,k4,k5,k6⟩:=h
   exact ⟨⟨k1.1,k1.2,λh=>by cases h⟩,cu,ti,k2,k3,k4,k5,λi y hy=>by
    obtain ⟨es,g1,g2,g3⟩:=k6 i y hy
    exact ⟨es,g1,g2,Ve g3⟩,λh=>by cases h⟩
 |Bo e te kp=>
  simp only [j6,Aa] at hb;subst hb
  have h2:Zg w D r e x none:=h.2
  have h3:=Zg.Ij h2 hD
  refine ⟨by cases r<;>exact h3,?_⟩
  cases kp with
  |false=>trivial
  |true=>
   simp only [Oy,KeptAt]
   rw [cc]
   cases r with
   |none=>trivial
   |some q=>exact ⟨rfl,rfl,rfl,λj _ _=>by rw [hw0]⟩
theorem kB {D:Nat->Prop} (hD: ∀b,Cv X.w0.heap.size X.Sc π false b->D b) (hw0:X.w0=w) {π0:Pi} (cc: ∀l,X.fI l=(π0 l).map full): ∀(cs:List (Bool×CK)) (k:Nat) (x:Ins.den cs) (us:List Value),dy w D π0 k cs x us-> ∀l b,At (Ym k cs x) l=some b->Cd X w π H ((π0 l).map full) b
 | [],_,_,_,_,_,_,h=>by cases h
 |_::_,_,_,[],h,_,_,_=>h.elim
 |p::r,k,x,u::us,h,l,b,hb=>by
  simp only [Ym] at hb
  cases hc:j6 (Dr p.1 k) p.2 x.1 with
  |none=>rw [hc] at hb;exact kB hD hw0 cc r (k+1) x.2 us h.2 l b hb
  |some c=>
   rw [hc] at hb
   simp only [ga,At] at hb
   split at hb
   ·rename_i e;subst e
    simp only [Aa] at hb;subst hb
    exact RU hD hw0 (cc _) h.1 hc
   ·exact kB hD hw0 cc r (k+1) x.2 us h.2 l b hb
theorem AI {S:Nat->Prop} {π0:Pi} {gv:Nat->Prop} {fI:Pi} (cS: ∀l,π l=(π0 l).map full): ∀(cs:List (Bool×CK)) (k:Nat) (x:Ins.den cs) (us:List Value),k+cs.length<100000->dy w (λb=>Ut π0 b\/S b) π0 k cs x us->(∀l b,At (Ym k cs x) l=some b->At H l=some b)->
  Mn ⟨w,S,gv,fI⟩ w π H (aR k cs x) us
 | [],_,_,[],_,_,_=>trivial
 | [],_,_,_::_,_,h,_=>h.elim
 |_::_,_,_,[],_,h,_=>h.elim
 |p::r,k,x,u::us,hk,h,hH=>by
  simp only [Aw] at hk
  refine ⟨?_,AI cS r (k+1) x.2 us (by omega) h.2 λl b hb=>hH l b (NM hk hb)⟩
  have h1:=h.1
  have hh: ∀b,j6 (Dr p.1 k) p.2 x.1=some b->At H (Dr p.1 k)=some b:= λb hb=>hH _ b (by simp only [Ym];rw [hb];simp [ga,At])
  have fC:=cS (Dr p.1 k)
  obtain ⟨io,c⟩:=p
  dsimp only at h1 hh fC⊢
  generalize x.1=y at*
  cases c with
  |Hx τ=>
   show Ct w _ τ u y
   cases hf:τ.flat with
   |true=>exact Ct.flat hf h1.2
   |false=>
    refine h1.2.Ij λb _ hb=>?_
    rcases hb with ⟨l,q,h3,h4⟩|hb|⟨hb,_⟩
    ·rw [cS l] at h3
     cases hp:π0 l with
     |none=>rw [hp] at h3;cases h3
     |some q0=>rw [hp] at h3;simp only [Ak,Aa] at h3;subst h3;exact .inl ⟨l,q0,hp,h4⟩
    ·exact .inr hb
    ·cases hb
  |row e te=>exact ⟨_,e.size,List.length y,hh _ rfl,rfl,by simp,by rw [fC];exact Yr h1.1⟩
  |Gz e te=>exact ⟨_,e.size,List.length y,hh _ rfl,rfl,by simp,by rw [fC];exact Yr h1.1⟩
  |part e te=>exact ⟨_,e.size,List.length y.1,hh _ rfl,rfl,h1.1.2,by rw [fC];exact Yr h1.1.1⟩
  |Bo e te kp=>exact ⟨_,1,List.length y,hh _ rfl,rfl,by simp,by rw [fC];exact Yr h1.1⟩
theorem nB {p:Real} {s off len:Nat} {u:Value} {f:Nat->Prop} (h:He (some p) s off len u):He (some ⟨p.g,p.o+off,p.cap-off,f,f⟩) s 0 len u:=by
 obtain ⟨ad,h1,h2,h3⟩:=h
 exact ⟨ad,h1,by dsimp only;omega,λh0=>by dsimp only at h0;simpa using h3 (by omega)⟩
theorem rR {α:Type} {xs:List α} {off len i:Nat} {x:α} (h:((xs.drop off).take len)[i]?=some x):xs[off+i]?=some x:=by
 rw [Cr] at h
 split at h
 ·rw [Co] at h;exact h
 ·cases h
theorem Wi.part {P:Nat->Prop} {g o:Nat} {cur:Array Value} {e:Ty} {xs:List e.den} (off len:Nat) (h:Wi w P g o cur e xs):Wi w P g (o+off) cur e ((xs.drop off).take len):=by
 obtain ⟨Fs,t1,t2,t3,t4⟩:=h
 refine ⟨(Fs.drop off).take len,by simp [t1],Ca.2 ⟨λhm=>(Ca.1 t2).1 (Rp off len _ hm),kK off len (Ca.1 t2).2⟩,λb hb=>t3 b (Rp off len b hb),λi x F hx hF=>?_⟩
 obtain ⟨es,k1,k2,k3⟩:=t4 (off+i) x F (rR hx) (rR hF)
 exact ⟨es,k1,λj u hu=>by rw [Gd o off i];exact k2 j u hu,k3⟩
theorem OF {st:St} (h:Mm X w π st.heap) {c:CK} (hg: ∀e te kp,c≠ .Bo e te kp) {a:AC} {u:Value} (hu:Gu X w π st.heap a u) {x:c.den} {ls:List Nat} (he:jd st c a=some (x,ls)):
  ∃r,dw w (λb=>Ut π b\/X.Sc b) r u c x/\ ∀q,r=some q-> ∃l p,ls= [l]/\π l=some p/\(∀b,q.Cq b->p.cl b)/\(c.isX=false-> ∀b,q.Cq b->p.Cq b):=by
 have SK: ∀ {f:Bool} (b:Nat),(Ut π b\/X.Sc b)->Cv X.w0.heap.size X.Sc π f b:= λb h=>h.imp id .inl
 cases c with
 |Hx τ=>
  simp only [jd] at he
  split at he
  ·rename_i hf
   cases hv:Dk st τ a with
   |none=>rw [hv] at he;cases he
   |some p=>
    obtain ⟨fr,y⟩:=p
    rw [hv] at he
    simp only [Ak,Aa,Ad] at he
    obtain ⟨rfl,rfl⟩:=he
    refine ⟨none,⟨rfl,?_⟩,λq hq=>by cases hq⟩
    have Ij: ∀f,Ct w (Cv X.w0.heap.size X.Sc π f) τ u y->Ct w (λb=>Ut π b\/X.Sc b) τ u y:= λf hr=>hr.Ij λk _ hk=>SK k hk
    cases a with
    |data f Nx z=>
     rw [Nl] at hv
     split at hv
     ·rename_i ht;subst ht
      simp only [Aa,Ad] at hv
      obtain ⟨_,rfl⟩:=hv
      exact Ij f hu
     ·have Ya:τ.Ap=false:=by unfold gg at hv;split at hv<;>first|rfl|cases hv
      exact Ij _ ⟨[u],c8 hv hu,by simp [Bv,Ya]⟩
    |Ln=>
     have hu:u= .slice none 0 0:=hu
     subst hu
     cases τ<;>simp only [Dk,Aa,Ad,reduceCtorEq] at hv
     ·obtain ⟨_,rfl⟩:=hv;exact ⟨[_],⟨none,0,0,rfl,rfl,Ao _, .inl rfl⟩,rfl⟩
     ·obtain ⟨_,rfl⟩:=hv;exact ⟨[_], .inl ⟨rfl,0,rfl⟩,rfl⟩
    |Up=>
     have hu:u= .pointer none:=hu
     subst hu
     cases τ<;>simp only [Dk,Aa,Ad,reduceCtorEq] at hv
     obtain ⟨_,rfl⟩:=hv;exact ⟨[_], .inl ⟨rfl,rfl⟩,rfl⟩
    |_=>cases τ<;>simp [AC.settled,Ty.flat,Dk] at hf hv
  ·cases he
 |row e te=>
  cases a<;>simp only [jd] at he<;>try (cases he;done)
  ·simp only [Aa,Ad] at he
   obtain ⟨rfl,rfl⟩:=he
   have hu:u= .slice none 0 0:=hu
   exact ⟨none,⟨⟨hu,rfl,rfl⟩,rfl⟩,λq hq=>by cases hq⟩
  ·rename_i l off len
   split at he
   ·rename_i fr tr e' Qr xs hl
    split at he
    ·rename_i hc
     obtain ⟨rfl,rfl⟩:=hc
     simp only [Aa,Ad] at he
     obtain ⟨rfl,rfl⟩:=he
     unfold St.at at hl
     obtain ⟨h1,h2⟩:=Oa hu hl
     have hb:=(h.heap l).Qw hl
     simp only [Cd,Jk] at hb
     have hlen:((xs.drop off).take len).length=len:=by simp;omega
     cases hp:π l with
     |none=>
      rw [hp] at h2 hb
      obtain ⟨rfl,rfl,rfl⟩:=h2
      exact ⟨none,⟨⟨rfl,rfl,by simp⟩,by show (xs.drop 0).take 0= [];simp⟩,λq hq=>by cases hq⟩
     |some p=>
      rw [hp] at h2 hb
      obtain ⟨k1,cur,ti,k2,k3,k4,k5,k6,_⟩:=hb
      have ho:=h2
      obtain ⟨ad,_,qR,_⟩:=h2
      refine ⟨some ⟨p.g,p.o+off,p.cap-off,p.Cq,p.Cq⟩,⟨by rw [hlen];exact nB ho,⟨k1.1,k1.2.1⟩,cur,ti,k2,by rw [k3];congr 1;dsimp only;omega,by dsimp only;omega,by rw [hlen];dsimp only;omega,λi y hy=>?_⟩,
       fun q hq=>by cases hq;exact ⟨l,p,rfl,hp,λb hb=>h.sub l p b hp hb,λ_ b hb=>hb⟩⟩
      obtain ⟨es,g1,g2,g3⟩:=k6 (off+i) y (rR hy)
      exact ⟨es,g1,λj u hu=>by dsimp only;rw [Gd p.o off i];exact g2 j u hu,Cells.Fb (Ao _) (λ_ _ _=>rfl) (λb _ hb=>SK b hb) e' es y g3⟩
    ·cases he
   ·cases he
 |Gz e te=>
  cases a<;>simp only [jd] at he<;>try (cases he;done)
  ·simp only [Aa,Ad] at he
   obtain ⟨rfl,rfl⟩:=he
   have hu:u= .slice none 0 0:=hu
   exact ⟨none,⟨⟨hu,rfl,rfl⟩,rfl⟩,λq hq=>by cases hq⟩
  ·rename_i l off len
   split at he
   ·rename_i fr tr e' Qr xs hl
    split at he
    ·rename_i hc
     obtain ⟨rfl,rfl,hf⟩:=hc
     simp only [Aa,Ad] at he
     obtain ⟨rfl,rfl⟩:=he
     unfold St.at at hl
     obtain ⟨h1,h2⟩:=Oa hu hl
     have hb:=(h.heap l).Qw hl
     simp only [Cd,Jk] at hb
     have hlen:((xs.drop off).take len).length=len:=by simp;omega
     cases hp:π l with
     |none=>
      rw [hp] at h2 hb
      obtain ⟨rfl,rfl,rfl⟩:=h2
      exact ⟨none,⟨⟨rfl,rfl,by simp⟩,by show (xs.drop 0).take 0= [];simp⟩,λq hq=>by cases hq⟩
     |some p=>
      rw [hp] at h2 hb
      obtain ⟨k1,cur,ti,k2,k3,k4,k5,k6,k7⟩:=hb
      have ho:=h2
      obtain ⟨ad,_,qR,_⟩:=h2
      have ht:Wi w p.cl p.g p.o cur e' xs:=by
       simp only [Li] at hf
       rcases hf with hf|hf
       ·exact k7 hf
       ·exact lF hf k6
      exact ⟨some ⟨p.g,p.o+off,p.cap-off,p.cl,p.cl⟩,⟨by rw [hlen];exact nB ho,h.sub l p _ hp k1.1,cur,ti,k2,by rw [k3];congr 1;dsimp only;omega,by dsimp only;omega,by rw [hlen];dsimp only;omega,ht.part off len⟩,
       fun q hq=>by cases hq;exact ⟨l,p,rfl,hp,λb hb=>hb,λhx=>by cases hx⟩⟩
    ·cases he
   ·rename_i e' Qr xs hl
    split at he
    ·rename_i hc
     obtain ⟨rfl,rfl⟩:=hc
     simp only [Aa,Ad] at he
     obtain ⟨rfl,rfl⟩:=he
     unfold St.at at hl
     obtain ⟨h1,h2⟩:=bb hu hl
     have hb:=(h.heap l).Qw hl
     simp only [Cd,Np] at hb
     have hlen:((xs.drop off).take len).length=len:=by simp;omega
     cases hp:π l with
     |none=>
      rw [hp] at h2 hb
      obtain ⟨rfl,rfl,rfl⟩:=h2
      exact ⟨none,⟨⟨rfl,rfl,by simp⟩,by show (xs.drop 0).take 0= [];simp⟩,λq hq=>by cases hq⟩
     |some p=>
      rw [hp] at h2 hb
      obtain ⟨k1,cur,ti,k2,k3,k4,k5,ht⟩:=hb
      have ho:=h2
      obtain ⟨ad,_,qR,_⟩:=h2
      exact ⟨some ⟨p.g,p.o+off,p.cap-off,p.Cq,p.Cq⟩,⟨by rw [hlen];exact nB ho,k1,cur,ti,k2,by rw [k3];congr 1;dsimp only;omega,by dsimp only;omega,by rw [hlen];dsimp only;omega,ht.part off len⟩,
       fun q hq=>by cases hq;exact ⟨l,p,rfl,hp,λb hb=>h.sub l p b hp hb,λ_ b hb=>hb⟩⟩
    ·cases he
   ·cases he
 |part e te=>cases a<;>simp [jd] at he
 |Bo e te kp=>exact absurd rfl (hg e te kp)
theorem UN {st:St} (h:Mm X w π st.heap) {c:CK} {a:AC} {u:Value} (hu:Gu X w π st.heap a u) {x:c.den} {ls:List Nat} (he:jd st c a=some (x,ls)):
  ∃r,dw w (λb=>Ut π b\/X.Sc b) r u c x/\(∀q,r=some q-> ∃l p,ls= [l]/\π l=some p/\(∀b,q.Cq b->p.cl b)/\(c.isX=false-> ∀b,q.Cq b->p.Cq b))/\
   (∀l off len e te rows out kp,a= .own l off len->At st.heap l=some (.Bo e te rows out kp)->r=π l):=by
 have sZ:(∀e te kp,c≠ .Bo e te kp)->(∀l off len e te rows out kp,a=AC.own l off len->At st.heap l=some (OB.Bo e te rows out kp)->False)->
   ∃r,dw w (λb=>Ut π b\/X.Sc b) r u c x/\(∀q,r=some q-> ∃l p,ls= [l]/\π l=some p/\(∀b,q.Cq b->p.cl b)/\(c.isX=false-> ∀b,q.Cq b->p.Cq b))/\
   (∀l off len e te rows out kp,a= .own l off len->At st.heap l=some (.Bo e te rows out kp)->r=π l):= λh1 h2=>by
  obtain ⟨r,g1,g2⟩:=OF h h1 hu he
  exact ⟨r,g1,g2,λl off len e te rows out kp h3 h4=>(h2 l off len e te rows out kp h3 h4).elim⟩
 cases c with
 |Hx τ=>
  refine sZ (λ_ _ _ h=>by cases h) λl off len e te rows out kp h3 h4=>?_
  subst h3
  simp only [jd] at he
  split at he
  ·rename_i hf
   cases τ<;>simp [AC.settled,Ty.flat,Dk] at hf he
  ·cases he
 |row e te=>
  refine sZ (λ_ _ _ h=>by cases h) λl off len e te rows out kp h3 h4=>?_
  subst h3
  simp only [jd,St.at,h4] at he
  cases he
 |Gz e te=>
  refine sZ (λ_ _ _ h=>by cases h) λl off len e te rows out kp h3 h4=>?_
  subst h3
  simp only [jd,St.at,h4] at he
  cases he
 |part e te=>cases a<;>simp [jd] at he
 |Bo e te kp=>
  cases a<;>simp only [jd] at he<;>try (cases he;done)
  rename_i l off len
  split at he
  ·rename_i e' Qr rows kp' hl
   split at he
   ·rename_i hc
    obtain ⟨rfl,rfl,rfl,rfl⟩:=hc
    simp only [Aa,Ad] at he
    obtain ⟨rfl,rfl⟩:=he
    unfold St.at at hl
    obtain ⟨b,sz,n,h1,h2,_,h3⟩:=hu
    rw [hl] at h1;cases h1
    simp only [OB.row,Aa,Ad] at h2
    obtain ⟨rfl,rfl⟩:=h2
    have hb:=((h.heap l).Qw hl).1
    refine ⟨π l,⟨h3,Zg.Ij hb λb hb=>hb.imp id .inl⟩,λq hq=>⟨l,q,rfl,hq,λb hb=>h.sub l q b hq hb,λ_ b hb=>hb⟩,λl' Asq Anl _ _ _ _ _ he _=>?_⟩
    simp only [AC.own.injEq] at he
    rw [he.1]
   ·cases he
  ·cases he
theorem Iq.congr {D:Nat->Prop} {ρ ρ':Pi} : ∀(cs:List CK) (k:Nat) (x:CKs.den cs) (us:List Value),(∀j,k<=j->ρ' (Jn j)=ρ (Jn j))->Iq w D ρ k cs x us->Iq w D ρ' k cs x us
 | [],_,_,[],_,h=>h
 | [],_,_,_::_,_,h=>h.elim
 |_::_,_,_,[],_,h=>h.elim
 |c::r,k,x,u::us,he,h=>⟨by rw [he k (Ao _)];exact h.1,Iq.congr r (k+1) x.2 us (λj hj=>he j (by omega)) h.2⟩
theorem vD {st:St} (h:Mm X w π st.heap): ∀(cs:List CK) (k:Nat) (as:List AC) (us:List Value) (x:CKs.den cs) (ls:List Nat),Mn X w π st.heap as us->Ue st cs as=some (x,ls)->ls.Nodup->
  ∃ρ:Pi,Iq w (λb=>Ut π b\/X.Sc b) ρ k cs x us/\(∀l q,ρ l=some q-> ∃j,k<=j/\j<k+cs.length/\l=Jn j)/\(∀l q b,ρ l=some q->q.Cq b-> ∃l0∈ls,∃p,π l0=some p/\p.cl b/\((cs.all λc=>!c.isX)=true->p.Cq b))/\
   (∀l l' q q' b,ρ l=some q->ρ l'=some q'->q.Cq b->q'.Cq b->l=l')/\
   (∀(j l off len:Nat) e te rows out kp,as[j]?=some (.own l off len)->At st.heap l=some (.Bo e te rows out kp)->ρ (Jn (k+j))=π l)
 | [],k,[],[],x,ls,_,he,_=>by
  simp only [Ue,Aa,Ad] at he
  exact ⟨λ_=>none,trivial,(λl q h=>by cases h),(λl q b h=>by cases h),(λl l' q q' b h=>by cases h),λj l off len e te rows out kp h=>by simp at h⟩
 | [],_,[],_::_,_,_,h,_,_=>h.elim
 | [],_,_::_,_,_,_,_,he,_=>by simp [Ue] at he
 |_::_,_,[],_,_,_,_,he,_=>by simp [Ue] at he
 |_::_,_,_::_,[],_,_,h,_,_=>h.elim
 |c::r,k,a::as,u::us,x,ls,hr,he,lQ=>by
  simp only [Ue] at he
  split at he
  ·rename_i x1 t1 x2 t2 h1 h2
   simp only [Aa,Ad] at he
   obtain ⟨rfl,rfl⟩:=he
   obtain ⟨n1,n2,n3⟩:=Dg.1 lQ
   obtain ⟨ρ,g1,g2,g3,g4,g5⟩:=vD h r (k+1) as us x2 t2 hr.2 h2 n2
   obtain ⟨rr,r1,r2,r3⟩:=UN h hr.1 h1
   have zD: ∀l q q0 b,ρ l=some q->rr=some q0->q.Cq b->q0.Cq b->False:= λl q q0 b h3 h4 h5 h6=>by
    obtain ⟨l0,m0,p,p1,p2,_⟩:=g3 l q b h3 h5
    obtain ⟨l1,p',e1,p1',p2',_⟩:=r2 q0 h4
    have:=h.inj l0 l1 p p' b p1 p1' p2 (p2' b h6)
    exact n3 l1 (by rw [e1];simp) l0 m0 this.symm
   refine ⟨λl=>if l=Jn k then rr else ρ l,⟨by simpa using r1,Iq.congr r (k+1) x2 us (λj hj=>Ai (by unfold Jn;omega)) g1⟩,λl q hq=>?_,λl q b hq hb=>?_,λl l' q q' b h3 h4 h5 h6=>?_,λj l off len e te rows out kp hj hl=>?_⟩
   ·dsimp only at hq
    by_cases e:l=Jn k
    ·exact ⟨k,Ao _,by simp,e⟩
    ·rw [Ai e] at hq
     obtain ⟨j,j1,j2,j3⟩:=g2 l q hq
     exact ⟨j,by omega,by simp;omega,j3⟩
   ·dsimp only at hq
    by_cases e:l=Jn k
    ·rw [Ac e] at hq
     obtain ⟨l1,p',e1,p1',p2',p3'⟩:=r2 q hq
     exact ⟨l1,by rw [e1];simp,p',p1',p2' b hb,λhx=>p3' (by simp only [Iw,Ag,Fk] at hx;exact hx.1) b hb⟩
    ·rw [Ai e] at hq
     obtain ⟨l0,m0,p,p1,p2,p3⟩:=g3 l q b hq hb
     exact ⟨l0,Cc _ m0,p,p1,p2,λhx=>p3 (by simp only [Iw,Ag] at hx;exact hx.2)⟩
   ·dsimp only at h3 h4
    by_cases e:l=Jn k<;>by_cases e':l'=Jn k
    ·rw [e,e']
    ·rw [Ac e] at h3;rw [Ai e'] at h4
     exact (zD l' q' q b h4 h3 h6 h5).elim
    ·rw [Ai e] at h3;rw [Ac e'] at h4
     exact (zD l q q' b h3 h4 h5 h6).elim
    ·rw [Ai e] at h3;rw [Ai e'] at h4
     exact g4 l l' q q' b h3 h4 h5 h6
   ·rcases j with _|j
    ·simp only [Bs,Aa] at hj
     show (if Jn k=Jn k then rr else ρ (Jn k))=π l
     rw [Ac rfl]
     exact r3 l off len e te rows out kp hj hl
    ·have:=g5 j l off len e te rows out kp (by simpa using hj) hl
     show (if Jn (k+(j+1))=Jn k then rr else ρ (Jn (k+(j+1))))=π l
     rw [Ai (by unfold Jn;omega),<-this,show k+(j+1)=k+1+j by omega]
  ·cases he
theorem CQ {r r':Option Real} (h:aC (r.map full) r') {e:Ty} {xs:List e.den} {te:TypeId} {fr tr:Bool} (ha:Jk X w π r' fr tr e te xs):Se w (λb=>Ut π b\/X.Sc b) r e xs:=by
 cases r with
 |none=>cases r' with
  |none=>exact ha
  |some q=>exact h.elim
 |some p=>cases r' with
  |none=>exact h.elim
  |some q=>
   obtain ⟨e1,e2,e3,e4⟩:=h
   obtain ⟨k1,cur,ti,k2,k3,k4,k5,k6,_⟩:=ha
   have e1:p.g=q.g:=e1
   have e2:p.o=q.o:=e2
   have e3:p.cap=q.cap:=e3
   refine ⟨⟨by rw [e1];exact (e4 _).2 k1.1,λb hb=>by rw [e1];exact k1.2.1 b ((e4 b).1 hb)⟩,cur,ti,by rw [e1];exact k2,by rw [e2,e3];exact k3,by rw [e3];exact k4,by rw [e3];exact k5,λi y hy=>?_⟩
   obtain ⟨es,g1,g2,g3⟩:=k6 i y hy
   exact ⟨es,g1,by rw [e2];exact g2,Cells.Fb (Ao _) (λ_ _ _=>rfl) (λb _ hb=>hb.imp id .inl) e es y g3⟩
theorem PB {r r':Option Real} (h:aC (r.map full) r') {e:Ty} {xs:List e.den} {te:TypeId} (ha:Np w r' e te xs):Np w r e te xs:=by
 cases r with
 |none=>cases r' with
  |none=>exact ha
  |some q=>exact h.elim
 |some p=>cases r' with
  |none=>exact h.elim
  |some q=>
   obtain ⟨e1,e2,e3,e4⟩:=h
   obtain ⟨k1,cur,ti,k2,k3,k4,k5,Fs,t1,t2,t3,t4⟩:=ha
   have e1:p.g=q.g:=e1
   have e2:p.o=q.o:=e2
   have e3:p.cap=q.cap:=e3
   exact ⟨by rw [e1];exact (e4 _).2 k1,cur,ti,by rw [e1];exact k2,by rw [e2,e3];exact k3,by rw [e3];exact k4,by rw [e3];exact k5,Fs,t1,by rw [e1];exact t2,λb hb=>(e4 b).2 (t3 b hb),by rw [e2];exact t4⟩
theorem To {st:St} {π0:Pi} {D:Nat->Prop} {w0:World} (h:Mm X w π st.heap) (cc: ∀l,X.fI l=(π0 l).map full): ∀(cs:List (Bool×CK)) (k:Nat) (x:Ins.den cs) (us:List Value) (o:IOs.den cs),dy w0 D π0 k cs x us->Od st k cs=some o->
  Lu w (λb=>Ut π b\/X.Sc b) π0 k cs o/\ ∀l∈Pg k cs,At st.heap l≠none
 | [],_,_,_,_,_,_=>⟨trivial,λl hl=>by cases hl⟩
 |_::_,_,_,[],_,h,_=>h.elim
 |(false,c)::r,k,x,u::us,o,hi,he=>To h cc r (k+1) x.2 us o hi.2 (by simpa only [Od] using he)
 |(true, .Hx τ)::r,k,x,u::us,o,hi,he=>To h cc r (k+1) x.2 us o hi.2 (by simpa only [Od] using he)
 |(true, .Bo e te kp)::r,k,x,u::us,o,hi,he=>To h cc r (k+1) x.2 us o hi.2 (by simpa only [Od] using he)
 |(true, .row e te)::r,k,x,u::us,o,hi,he=>by
  simp only [Od] at he
  split at he
  ·rename_i x1 x2 h1 h2
   simp only [Aa] at he;subst he
   obtain ⟨g1,g2⟩:=To h cc r (k+1) x.2 us x2 hi.2 h2
   have h0:=hi.1
   simp only [o1] at h1
   split at h1
   ·rename_i fr tr e' Qr xs hl
    split at h1
    ·rename_i hc
     obtain ⟨rfl,rfl⟩:=hc
     simp only [Aa] at h1;subst h1
     unfold St.at at hl
     have hs:=h.fI (Dr true k) (by have:=an k;omega) (by rw [hl];simp)
     rw [cc] at hs
     exact ⟨⟨CQ (te:=Qr) hs ((h.heap _).Qw hl),g1⟩,λl Ll=>by
      simp only [Pg] at Ll
      rcases Ay.1 Ll with rfl|Ll
      ·rw [hl];simp
      ·exact g2 l Ll⟩
    ·cases h1
   ·cases h1
  ·cases he
 |(true, .part e te)::r,k,x,u::us,o,hi,he=>by
  simp only [Od] at he
  split at he
  ·rename_i x1 x2 h1 h2
   simp only [Aa] at he;subst he
   obtain ⟨g1,g2⟩:=To h cc r (k+1) x.2 us x2 hi.2 h2
   have h0:=hi.1
   simp only [o1] at h1
   split at h1
   ·rename_i fr tr e' Qr xs hl
    split at h1
    ·rename_i hc
     obtain ⟨rfl,rfl⟩:=hc
     simp only [Aa] at h1;subst h1
     unfold St.at at hl
     have hs:=h.fI (Dr true k) (by have:=an k;omega) (by rw [hl];simp)
     rw [cc] at hs
     exact ⟨⟨CQ (te:=Qr) hs ((h.heap _).Qw hl),g1⟩,λl Ll=>by
      simp only [Pg] at Ll
      rcases Ay.1 Ll with rfl|Ll
      ·rw [hl];simp
      ·exact g2 l Ll⟩
    ·cases h1
   ·cases h1
  ·cases he
 |(true, .Gz e te)::r,k,x,u::us,o,hi,he=>by
  simp only [Od] at he
  split at he
  ·rename_i x1 x2 h1 h2
   simp only [Aa] at he;subst he
   obtain ⟨g1,g2⟩:=To h cc r (k+1) x.2 us x2 hi.2 h2
   simp only [o1] at h1
   split at h1
   ·rename_i e' Qr xs hl
    split at h1
    ·rename_i hc
     obtain ⟨rfl,rfl⟩:=hc
     simp only [Aa] at h1;subst h1
     unfold St.at at hl
     have hs:=h.fI (Dr true k) (by have:=an k;omega) (by rw [hl];simp)
     rw [cc] at hs
     exact ⟨⟨PB (te:=Qr) hs ((h.heap _).Qw hl),g1⟩,λl Ll=>by
      simp only [Pg] at Ll
      rcases Ay.1 Ll with rfl|Ll
      ·rw [hl];simp
      ·exact g2 l Ll⟩
    ·cases h1
   ·cases h1
  ·cases he
theorem tF {p:Bool×CK} {r:List (Bool×CK)} (h:Yp (p::r)=true):Yp r=true:=by
 rcases p with ⟨_|_,c⟩<;>cases c<;>first|(simp [Yp] at h;done)|simpa [Yp] using h
theorem uX: ∀(cs:List (Bool×CK)) (k:Nat) (x:Ins.den cs) (l:Nat),Yp cs=true->k+cs.length<100000->At (Ym k cs x) l≠none-> ¬l<Bl->l∈Pg k cs
 | [],_,_,_,_,_,h,_=>absurd rfl h
 |(io,c)::r,k,x,l,hng,hk,h,hp=>by
  simp only [Aw] at hk
  simp only [Ym] at h
  have tail:At (Ym (k+1) r x.2) l≠none->l∈Pg (k+1) r:= λh=>uX r (k+1) x.2 l (tF hng) (by omega) h hp
  have sub: ∀m,m∈Pg (k+1) r->m∈Pg k ((io,c)::r):= λm hm=>by
   cases io<;>cases c<;>simp only [Pg]<;>first|exact hm|exact An _ hm
  cases hc:j6 (Dr io k) c x.1 with
  |none=>rw [hc] at h;exact sub l (tail h)
  |some b=>
   rw [hc] at h
   simp only [ga,At] at h
   split at h
   ·rename_i e;subst e
    cases io with
    |false=>exact absurd (ej (by omega)) hp
    |true=>cases c with
     |Hx τ=>cases hc
     |row e te=>simp [Pg]
     |Gz e te=>simp [Pg]
     |part e te=>simp [Pg]
     |Bo e te kp=>simp [Yp] at hng
   ·exact sub l (tail h)
theorem dw.Ij {D D':Nat->Prop} (hD: ∀b,D' b->D b) {r:Option Real} {u:Value} {c:CK} {x:c.den} (h:dw w D r u c x):dw w D' r u c x:=by
 cases c with
 |Hx τ=>exact ⟨h.1,h.2.Ij λb _ hb=>hD b hb⟩
 |row e te=>exact ⟨h.1,Se.Ij h.2 hD⟩
 |Gz e te=>exact h
 |part e te=>exact ⟨h.1,h.2.1,Se.Ij h.2.2 hD⟩
 |Bo e te kp=>exact ⟨h.1,Zg.Ij h.2 hD⟩
theorem Iq.Ij {D D':Nat->Prop} (hD: ∀b,D' b->D b) {ρ:Pi} : ∀(cs:List CK) (k:Nat) (x:CKs.den cs) (us:List Value),Iq w D ρ k cs x us->Iq w D' ρ k cs x us
 | [],_,_,[],h=>h
 | [],_,_,_::_,h=>h.elim
 |_::_,_,_,[],h=>h.elim
 |_c::r,k,x,_u::us,h=>⟨h.1.Ij hD,Iq.Ij hD r (k+1) x.2 us h.2⟩
theorem Lu.Ij {D D':Nat->Prop} (hD: ∀b,D' b->D b) {π:Pi} : ∀(cs:List (Bool×CK)) (k:Nat) (x:IOs.den cs),Lu w D π k cs x->Lu w D' π k cs x
 | [],_,_,h=>h
 |(false,_)::r,k,x,h=>Lu.Ij hD r (k+1) x h
 |(true, .Hx _)::r,k,x,h=>Lu.Ij hD r (k+1) x h
 |(true, .Bo _ _ _)::r,k,x,h=>Lu.Ij hD r (k+1) x h
 |(true, .row _e _te)::r,k,x,h=>⟨Se.Ij h.1 hD,Lu.Ij hD r (k+1) x.2 h.2⟩
 |(true, .Gz _e _te)::r,k,x,h=>⟨h.1,Lu.Ij hD r (k+1) x.2 h.2⟩
 |(true, .part _e _te)::r,k,x,h=>⟨Se.Ij h.1 hD,Lu.Ij hD r (k+1) x.2 h.2⟩
theorem dy.congr {D:Nat->Prop} {π0 bl:Pi} : ∀(cs:List (Bool×CK)) (k:Nat) (x:Ins.den cs) (us:List Value),(∀b j,k<=j->j<k+cs.length->bl (Dr b j)=π0 (Dr b j))->dy w D π0 k cs x us->dy w D bl k cs x us
 | [],_,_,[],_,h=>h
 | [],_,_,_::_,_,h=>h
 |_::_,_,_,[],_,h=>h
 |p::r,k,x,u::us,hp,h=>⟨by rw [hp p.1 k (Ao _) (by simp)];exact h.1,dy.congr r (k+1) x.2 us (λb j h1 h2=>hp b j (by omega) (by simp;omega)) h.2⟩
theorem Lu.congr {D:Nat->Prop} {π0 bl:Pi} : ∀(cs:List (Bool×CK)) (k:Nat) (x:IOs.den cs),(∀b j,k<=j->j<k+cs.length->bl (Dr b j)=π0 (Dr b j))->Lu w D π0 k cs x->Lu w D bl k cs x
 | [],_,_,_,h=>h
 |(false,c)::r,k,x,hp,h=>by cases c<;>exact Lu.congr r (k+1) x (λb j h1 h2=>hp b j (by omega) (by simp;omega)) h
 |(true, .Hx _)::r,k,x,hp,h=>Lu.congr r (k+1) x (λb j h1 h2=>hp b j (by omega) (by simp;omega)) h
 |(true, .Bo _ _ _)::r,k,x,hp,h=>Lu.congr r (k+1) x (λb j h1 h2=>hp b j (by omega) (by simp;omega)) h
 |(true, .row e te)::r,k,x,hp,h=>⟨by rw [hp true k (Ao _) (by simp)];exact h.1,Lu.congr r (k+1) x.2 (λb j h1 h2=>hp b j (by omega) (by simp;omega)) h.2⟩
 |(true, .Gz e te)::r,k,x,hp,h=>⟨by rw [hp true k (Ao _) (by simp)];exact h.1,Lu.congr r (k+1) x.2 (λb j h1 h2=>hp b j (by omega) (by simp;omega)) h.2⟩
 |(true, .part e te)::r,k,x,hp,h=>⟨by rw [hp true k (Ao _) (by simp)];exact h.1,Lu.congr r (k+1) x.2 (λb j h1 h2=>hp b j (by omega) (by simp;omega)) h.2⟩
theorem El.congr {π0 bl:Pi} : ∀(cs:List (Bool×CK)) (k:Nat) (o:IOs.den cs) (n:Nat) (us as:List Value),(∀b j,k<=j->j<k+cs.length->bl (Dr b j)=π0 (Dr b j))->El π0 k cs o n us as->El bl k cs o n us as
 | [],k,o,0,us,as,_,h=>by simpa [El] using h
 | [],k,o,n+1,us,as,_,h=>by simp [El] at h
 |p::r,k,o,0,us,as,_,h=>by
  rcases p with ⟨_|_,c⟩<;>cases c<;>simpa [El] using h
 |(true, .Hx _)::r,k,o,n+1,us,as,_,h=>by simp [El] at h
 |(true, .part _ _)::r,k,o,n+1,us,as,_,h=>by simp [El] at h
 |(true, .Bo _ _ _)::r,k,o,n+1,us,as,_,h=>by simp [El] at h
 |(true, .row e te)::r,k,o,n+1,[],as,_,h=>by simp [El] at h
 |(true, .Gz e te)::r,k,o,n+1,[],as,_,h=>by simp [El] at h
 |(true, .row e te)::r,k,o,n+1,u::us,as,hp,h=>by
  simp only [El] at h⊢
  exact ⟨by rw [hp true k (Ao _) (by simp)];exact h.1,El.congr r (k+1) o.2 n us as (λb j h1 h2=>hp b j (by omega) (by simp;omega)) h.2⟩
 |(true, .Gz e te)::r,k,o,n+1,u::us,as,hp,h=>by
  simp only [El] at h⊢
  exact ⟨by rw [hp true k (Ao _) (by simp)];exact h.1,El.congr r (k+1) o.2 n us as (λb j h1 h2=>hp b j (by omega) (by simp;omega)) h.2⟩
 |(false,c)::r,k,o,n+1,[],as,_,h=>by cases c<;>simp [El] at h
 |(false,c)::r,k,o,n+1,u::us,[],_,h=>by cases c<;>simp [El] at h
 |(false,c)::r,k,o,n+1,u::us,a::as,hp,h=>by
  have h:u=a/\El π0 (k+1) r o n us as:=by cases c<;>exact h
  have:=El.congr r (k+1) o n us as (λb j h1 h2=>hp b j (by omega) (by simp;omega)) h.2
  cases c<;>exact ⟨h.1,this⟩
theorem oo: ∀(A B:List (Nat×OB)) (l:Nat),At (A++B) l=match At A l with|some b=>some b|none=>At B l
 | [],B,l=>rfl
 |(k,b)::A,B,l=>by
  simp only [Jy,At]
  split
  ·rfl
  ·exact oo A B l
theorem rP {st:St} : ∀(cs:List CK) (as:List AC) (x:CKs.den cs) (ls:List Nat),Ue st cs as=some (x,ls)-> ∀l∈ls,∃b,At st.heap l=some b/\b.row≠none
 | [],[],x,ls,he=>by
  simp only [Ue,Aa,Ad] at he
  obtain ⟨_,rfl⟩:=he
  intro l hl;cases hl
 | [],_::_,_,_,he=>by simp [Ue] at he
 |_::_,[],_,_,he=>by simp [Ue] at he
 |c::r,a::as,x,ls,he=>by
  simp only [Ue] at he
  split at he
  ·rename_i x1 t1 x2 t2 h1 h2
   simp only [Aa,Ad] at he
   obtain ⟨_,rfl⟩:=he
   intro l hl
   rcases Az.1 hl with hl|hl
   ·unfold jd at h1
    split at h1
    ·split at h1
     ·cases hv:Dk st _ a with
      |none=>rw [hv] at h1;cases h1
      |some p=>rw [hv] at h1;simp only [Ak,Aa,Ad] at h1;obtain ⟨_,rfl⟩:=h1;cases hl
     ·cases h1
    all_goals (repeat' split at h1)
    all_goals first|(cases h1;done)|skip
    all_goals (simp only [Aa,Ad] at h1;obtain ⟨_,rfl⟩:=h1)
    all_goals first|(cases hl;done)|skip
    all_goals (have hl:=Ae.1 hl;subst hl)
    all_goals (rename_i heq _;exact ⟨_,heq,by simp [OB.row]⟩)
   ·exact rP r as x2 t2 h2 l hl
  ·cases he
theorem oD {r r':Option Real} {sz off len:Nat} {v:Value} (h:aC r r') (hv:He r' sz off len v):He r sz off len v:=by
 cases r<;>cases r'<;>first|exact h.elim|skip
 ·exact hv
 ·obtain ⟨h1,h2,h3,_⟩:=h
  obtain ⟨ad,g1,g2,g3⟩:=hv
  exact ⟨ad,by rw [h3];exact g1,by rw [h3];exact g2,by rw [h1,h2,h3];exact g3⟩
theorem Xw {st:St} {π0:Pi} (hs: ∀k,At st.heap (Dr true k)≠none->aC ((π0 (Dr true k)).map full) (π (Dr true k))):
  ∀(cs:List (Bool×CK)) (k:Nat) (vs:List AC) (us:List Value) (bc:List AC) (o:IOs.den cs),Mn X w π st.heap vs us->Is k cs vs=some bc->gI st vs cs->Od st k cs=some o->
   ∃bv,Mn X w π st.heap bc bv/\bv.length=s5 cs vs.length/\ ∀tl,El π0 k cs o vs.length us (bv++tl)
 |cs,k,[],us,bc,o,hr,he,_,_=>by
  have e1:us= []:=by cases us with|nil=>rfl|cons u us=>exact hr.elim
  have e2:bc= []:=by rcases cs with _|⟨⟨_|_,c⟩,r⟩<;>simpa [Is] using he.symm
  subst e1;subst e2
  refine ⟨[],trivial,?_,λtl=>?_⟩
  ·rcases cs with _|⟨⟨_|_,c⟩,r⟩<;>rfl
  ·rcases cs with _|⟨⟨_|_,c⟩,r⟩<;>(try cases c)<;>simp [El]
 | [],k,a::vs,us,bc,o,hr,he,_,_=>by simp [Is] at he
 |p::r,k,a::vs,[],bc,o,hr,_,_,_=>hr.elim
 |(false,c)::r,k,a::vs,u::us,bc,o,hr,he,hk,ho=>by
  have he:(Is (k+1) r vs).map (λl=>a::l)=some bc:=by cases a<;>exact he
  cases hb:Is (k+1) r vs with
  |none=>rw [hb] at he;cases he
  |some bc'=>
   rw [hb] at he
   simp only [Ak,Aa] at he;subst he
   obtain ⟨bv,g1,g2,g3⟩:=Xw hs r (k+1) vs us bc' o hr.2 hb (by cases a<;>exact hk) (by cases c<;>simpa only [Od] using ho)
   refine ⟨u::bv,⟨hr.1,g1⟩,by simp [s5,g2],λtl=>?_⟩
   have:=g3 tl
   cases c<;>exact ⟨rfl,this⟩
 |(true,c)::r,k,a::vs,u::us,bc,o,hr,he,hk,ho=>by
  cases c with
  |Hx τ=>cases a<;>simp [Is] at he
  |part e te=>cases a<;>simp [Is] at he
  |Bo e te kp=>cases a<;>simp [Is] at he
  |row e te=>
   cases a<;>first|(simp [Is] at he;done)|skip
   rename_i l off len
   simp only [Is] at he
   split at he
   rotate_left
   ·cases he
   rename_i hl
   have hl:l=Dr true k:=Ja hl
   subst hl
   obtain ⟨⟨rfl,hlen⟩,hk⟩:=hk
   obtain ⟨b,sz,n,h1,h2,h3,h4⟩:=hr.1
   have TG:=hs k (by rw [h1];simp)
   simp only [Od] at ho
   split at ho
   ·rename_i x1 x2 q1 q2
    simp only [Aa] at ho;subst ho
    obtain ⟨bv,g1,g2,g3⟩:=Xw hs r (k+1) vs us bc x2 hr.2 he hk q2
    refine ⟨bv,g1,by simpa [s5] using g2,λtl=>?_⟩
    refine ⟨?_,g3 tl⟩
    simp only [o1] at q1
    split at q1
    ·rename_i fr tr e' Qr xs Ll
     split at q1
     ·rename_i hc
      obtain ⟨rfl,rfl⟩:=hc
      simp only [Aa] at q1;subst q1
      unfold St.at at Ll hlen
      rw [Ll] at hlen
      rw [h1] at Ll;cases Ll
      simp only [OB.row,Aa,Ad] at h2
      obtain ⟨rfl,rfl⟩:=h2
      have hlen:len=List.length xs:=hlen
      have:=oD TG h4
      rw [hlen] at this
      have e0:(π0 (Dr true k)).map full=(π0 (Dr true k)).map full:=rfl
      cases hp:π0 (Dr true k)<;>(rw [hp] at this;exact this)
     ·cases q1
    ·cases q1
   ·cases ho
  |Gz e te=>
   cases a<;>first|(simp [Is] at he;done)|skip
   rename_i l off len
   simp only [Is] at he
   split at he
   rotate_left
   ·cases he
   rename_i hl
   have hl:l=Dr true k:=Ja hl
   subst hl
   obtain ⟨⟨rfl,hlen⟩,hk⟩:=hk
   obtain ⟨b,sz,n,h1,h2,h3,h4⟩:=hr.1
   have TG:=hs k (by rw [h1];simp)
   simp only [Od] at ho
   split at ho
   ·rename_i x1 x2 q1 q2
    simp only [Aa] at ho;subst ho
    obtain ⟨bv,g1,g2,g3⟩:=Xw hs r (k+1) vs us bc x2 hr.2 he hk q2
    refine ⟨bv,g1,by simpa [s5] using g2,λtl=>?_⟩
    refine ⟨?_,g3 tl⟩
    simp only [o1] at q1
    split at q1
    ·rename_i e' Qr xs Ll
     split at q1
     ·rename_i hc
      obtain ⟨rfl,rfl⟩:=hc
      simp only [Aa] at q1;subst q1
      unfold St.at at Ll hlen
      rw [Ll] at hlen
      rw [h1] at Ll;cases Ll
      simp only [OB.row,Aa,Ad] at h2
      obtain ⟨rfl,rfl⟩:=h2
      have hlen:len=List.length xs:=hlen
      have:=oD TG h4
      rw [hlen] at this
      cases hp:π0 (Dr true k)<;>(rw [hp] at this;exact this)
     ·cases q1
    ·cases q1
   ·cases ho
def Aj1 (s:MSpec) (g:Nat) (π:Pi):Pi:= λl=>if s.ptr.isSome=true/\l=Oo then some ⟨g,0,0,λb=>b=g,λb=>b=g⟩ else π l
def Afs (P:Program) (s:MSpec) (fn:Func) (x:Ins.den s.ins) (w:World) (S:Nat->Prop) (π:Pi) (g:Nat) (r:CKs.den s.outs) (o:IOs.den s.ins) (a':Act) (w':World):Prop:=
 ∃(v:Value) (Vw:List Value) (ρ:Pi),a'.defers= []/\(results fn a'.tmps).run P w'= .ok v w'/\pZ s w' ρ (Vw.drop s.Zp) v/\ka s π w' g Vw o/\Kh w.heap.size (λb=>Ut π b\/s.gv g b) w w'/\Lu w' (j5 S π ρ) π 0 s.ins o/\Iq w' (j5 S π ρ) ρ 0 s.outs r Vw/\
  fQ ρ (λb=>b<w'.heap.size/\(w.heap.size<=b\/ ∃l q,l<Bl/\π l=some q/\q.Cq b))/\(∀l,(∀k,k<s.Tr->l≠Jn k)->ρ l=none)/\(∀kj∈s.keeps,zc w w' (π (Dr false kj.1)) (ρ (Jn kj.2)) (s.Fb x))
theorem Iq.RX {D:Nat->Prop} {ρ ρ':Pi} : ∀(cs:List CK) (k:Nat) (x:CKs.den cs) (us:List Value),(∀j,k<=j->j<k+cs.length->ρ' (Jn j)=ρ (Jn j))->Iq w D ρ k cs x us->Iq w D ρ' k cs x us
 | [],_,_,[],_,h=>h
 | [],_,_,_::_,_,h=>h.elim
 |_::_,_,_,[],_,h=>h.elim
 |c::r,k,x,u::us,he,h=>⟨by rw [he k (Ao _) (by simp)];exact h.1,Iq.RX r (k+1) x.2 us (λj hj hl=>he j (by omega) (by simp;omega)) h.2⟩
theorem vf {st:St} {n:Nat} {as:List AC} : ∀ {ks:List (Nat×Nat)},ve st n as ks-> ∀kj∈ks,∃l off len e te rows out p,as[kj.2]?=some (.own l off len)/\At st.heap l=some (.Bo e te rows out (some p))/\p.1=Dr false kj.1/\n<=p.2/\kj.1<1000
 | [],_,kj,hm=>by cases hm
 |(k,j)::r,h,kj,hm=>by
  simp only [ve] at h
  rcases Ay.1 hm with rfl|hm
  ·obtain ⟨h,_⟩:=h
   split at h
   ·rename_i l off len he
    split at h
    ·rename_i e te rows out p hl
     unfold St.at at hl
     exact ⟨l,off,len,e,te,rows,out,p,he,hl,h.1,h.2.1,by simpa using h.2.2⟩
    ·exact h.elim
   ·exact h.elim
  ·exact vf h.2 kj hm
theorem vC {st:St} : ∀(cs:List CK) (as:List AC) (x:CKs.den cs) (ls:List Nat),Ue st cs as=some (x,ls)->as.length=cs.length
 | [],[],_,_,_=>rfl
 | [],_::_,_,_,he=>by simp [Ue] at he
 |_::_,[],_,_,he=>by simp [Ue] at he
 |c::r,a::as,x,ls,he=>by
  simp only [Ue] at he
  split at he
  ·rename_i h1 h2
   simp only [Aw,vC r as _ _ h2]
  ·cases he
theorem CO {α β:Type} (f:α->Sem β): ∀(l:List α) (vs:List β),vs.length=l.length->(∀(i:Nat) a v,l[i]?=some a->vs[i]?=some v->(f a).run P w= .ok v w)->(l.mapM f).run P w= .ok vs w
 | [],[],_,_=>by simp
 | [],_::_,h,_=>by simp at h
 |_::_,[],h,_=>by simp at h
 |a::l,v::vs,h,hr=>by
  rw [List.mapM_cons]
  simp only [Sem.run_bind,hr 0 a v rfl rfl,Result.andThen_ok,CO f l vs (by simpa using h) (λi a' v' ha hv=>hr (i+1) a' v' (by simpa using ha) (by simpa using hv)),Sem.run_pure]
theorem tj (hT:Dn P T) (Oh:Ki P Γ) (hm:P.follows .mixedOrders=true) {f:FuncId} {fn:Func} (hf:P.funcs[f]?=some fn) (s:MSpec) (w:World) (S:Nat->Prop) (π:Pi) (us:List Value) (x:Ins.den s.ins)
  (r:CKs.den s.outs) (o:IOs.den s.ins) (g:Nat) (ld:List Value) (Qk:mM s w g us ld) (hSg:s.ptr.isSome=true->S g) (dP:dy w (λb=>Ut π b\/S b) π 0 s.ins x us) (fC:fQ π (λb=>b<w.heap.size)) (hS: ∀b,S b->b<w.heap.size/\ ¬Ut π b) (SN: ∀l,At (Ym 0 s.ins x) l=none->π l=none) (he:Aad T Γ s fn x λz=>z=(r,o)):
  Calls P f ld.toArray w λe w'=> ∃v Vw ρ,e= .returned v/\pZ s w' ρ (Vw.drop s.Zp) v/\ka s π w' g Vw o/\Kh w.heap.size (λb=>Ut π b\/s.gv g b) w w'/\Lu w' (j5 S π ρ) π 0 s.ins o/\Iq w' (j5 S π ρ) ρ 0 s.outs r Vw/\
   fQ ρ (λb=>b<w'.heap.size/\(w.heap.size<=b\/ ∃l q,l<Bl/\π l=some q/\q.Cq b))/\(∀l,(∀k,k<s.Tr->l≠Jn k)->ρ l=none)/\(∀kj∈s.keeps,zc w w' (π (Dr false kj.1)) (ρ (Jn kj.2)) (s.Fb x)):=by
 obtain ⟨hlen,c,hb,he⟩:=he
 simp only [Ag,Ms] at hlen
 obtain ⟨hlen,SP⟩:=hlen
 unfold xK at SP
 simp only [Ag] at SP
 have Agz:=SP.1
 let oZ:Pi:=Aj1 s g π
 let Sg:Nat->Prop:= λb=>S b/\ ¬s.gv g b
 have TI: ∀b j,j<1000->Dr b j≠Oo:= λb j hj=>by cases b<;>(unfold Dr Oo;simp;omega)
 have wX: ∀b j,0<=j->j<0+s.ins.length->oZ (Dr b j)=π (Dr b j):= λb j _ hj=>Ai λh=>TI b j (by omega) h.2
 have Ab7: ∀b j,0<=j->j<0+s.ins.length->π (Dr b j)=oZ (Dr b j):= λb j h1 h2=>(wX b j h1 h2).symm
 have Adl:At (Ym 0 s.ins x) Oo=none:=Bf λhn=>by
  obtain ⟨b,j,_,h2,h3⟩:=r8 s.ins 0 x Oo hn
  exact TI b j (by omega) h3.symm
 have QC: ∀l q,oZ l=some q->(π l=some q/\(s.ptr.isSome=true->l≠Oo))\/(s.ptr.isSome=true/\l=Oo/\q=⟨g,0,0,λb=>b=g,λb=>b=g⟩):= λl q hq=>by
  have hq:(if s.ptr.isSome=true/\l=Oo then some ⟨g,0,0,λb=>b=g,λb=>b=g⟩ else π l)=some q:=hq
  split at hq
  ·rename_i hc;exact .inr ⟨hc.1,hc.2,(Ax hq).symm⟩
  ·rename_i hc;exact .inl ⟨hq,λh1 h2=>hc ⟨h1,h2⟩⟩
 have cS: ∀b,Ut oZ b↔Ut π b\/s.gv g b:= λb=>by
  constructor
  ·rintro ⟨l,q,h1,h2⟩
   rcases QC l q h1 with ⟨h3,_⟩|⟨h3,h4,rfl⟩
   ·exact .inl ⟨l,q,h3,h2⟩
   ·exact .inr ⟨h3,h2⟩
  ·rintro (⟨l,q,h1,h2⟩|⟨h1,rfl⟩)
   ·refine ⟨l,q,?_,h2⟩
    show (if s.ptr.isSome=true/\l=Oo then _ else π l)=some q
    rw [Ai]
    ·exact h1
    ·rintro ⟨_,rfl⟩
     rw [SN Oo Adl] at h1;cases h1
   ·exact ⟨Oo,⟨b,0,0,λc=>c=b,λc=>c=b⟩,Ac ⟨h1,rfl⟩,rfl⟩
 have hgS: ∀b,s.gv g b->S b:= λb ⟨h1,h2⟩=>h2▸hSg h1
 have Acx:dy w (λb=>Ut oZ b\/Sg b) oZ 0 s.ins x us:=dy.congr s.ins 0 x us wX (dy.Ij (λb hb=>by
  rcases hb with hb|hb
  ·rcases (cS b).1 hb with hb|hb
   ·exact .inl hb
   ·exact .inr (hgS b hb)
  ·exact .inr hb.1) s.ins 0 x us dP)
 have Ah5:fQ oZ (λb=>b<w.heap.size):=⟨λl q b h1 h2=>by
  rcases QC l q h1 with ⟨h3,_⟩|⟨h3,h4,rfl⟩
  ·exact fC.Yh l q b h3 h2
  ·exact (hS b (hgS b ⟨h3,h2⟩)).1,λl l' q q' b h1 h2 h3 h4=>by
  rcases QC l q h1 with ⟨h5,_⟩|⟨h5,h6,rfl⟩<;>rcases QC l' q' h2 with ⟨h7,_⟩|⟨h7,h8,rfl⟩
  ·exact fC.inj l l' q q' b h5 h7 h3 h4
  ·exact absurd ⟨l,q,h5,h3⟩ (hS b (hgS b ⟨h7,h4⟩)).2
  ·exact absurd ⟨l',q',h7,h4⟩ (hS b (hgS b ⟨h5,h3⟩)).2
  ·rw [h6,h8]⟩
 have Al6: ∀b,Sg b->b<w.heap.size/\ ¬Ut oZ b:= λb hb=>⟨(hS b hb.1).1,λho=>((cS b).1 ho).elim (hS b hb.1).2 hb.2⟩
 have KS: ∀l,At (ou s x) l=match At (Ym 0 s.ins x) l with|some b=>some b|none=>if l=Oo then s.ptr.map λp=> .var p.1 ((aR 0 s.ins x).take p.2) else none:= λl=>by
  unfold ou
  cases hp:s.ptr with
  |none=>cases At (Ym 0 s.ins x) l<;>simp
  |some p=>
   simp only
   rw [oo]
   cases At (Ym 0 s.ins x) l with
   |some b=>rfl
   |none=>
    simp only [At,Ak]
    by_cases e:l=Oo
    ·rw [Ac e,Ac e.symm]
    ·rw [Ai e,Ai (λh=>e h.symm)]
 let π0:Pi:= λl=>(oZ l).map full
 have un: ∀l q,π0 l=some q-> ∃q0,oZ l=some q0/\q=full q0:= λl q hq=>by
  have hq:(oZ l).map full=some q:=hq
  cases hp:oZ l with
  |none=>rw [hp] at hq;cases hq
  |some q0=>rw [hp] at hq;exact ⟨q0,rfl,(Ax hq).symm⟩
 have SU: ∀l b,At (Ym 0 s.ins x) l=some b->At (ou s x) l=some b:= λl b hb=>by rw [KS l,hb]
 have hrc:Mn ⟨w,Sg,Ut oZ,π0⟩ w π0 (ou s x) (aR 0 s.ins x) us:=AI (λ_=>rfl) s.ins 0 x us (by omega) Acx SU
 have TL:s.ptr.isSome=true->π0 Oo=some ⟨g,0,0,λb=>b=g,λb=>b=g⟩:= λhp=>by
  show (if s.ptr.isSome=true/\Oo=Oo then _ else π Oo).map full=_
  rw [Ac ⟨hp,rfl⟩];rfl
 obtain ⟨g1,g2⟩:(Zm s (aR 0 s.ins x)).length=ld.length/\ ∀(i:Nat) c v,(Zm s (aR 0 s.ins x))[i]?=some c->ld[i]?=some v->Bn ⟨w,Sg,Ut oZ,π0⟩ w π0 (ou s x) c v:=by
  unfold mM at Qk
  cases hp:s.ptr with
  |none=>
   rw [hp] at Qk
   obtain ⟨rfl,GJ⟩:=Qk
   obtain ⟨g1,g2,_,_⟩:=cP s.Ih _ us GJ hrc
   rw [show Zm s (aR 0 s.ins x)=Sk s.Ih (aR 0 s.ins x) by unfold Zm;rw [hp]]
   exact ⟨g1,g2⟩
  |some p=>
   rw [hp] at Qk
   obtain ⟨rfl,GJ,_⟩:=Qk
   obtain ⟨g1,g2,_,_⟩:=cP s.Ih _ (us.drop p.2) GJ (Mn.take p.2 hrc).2
   rw [show Zm s (aR 0 s.ins x)= .at (.Gp Oo 0)::Sk s.Ih ((aR 0 s.ins x).drop p.2) by unfold Zm;rw [hp]]
   refine ⟨by simp [g1],λi c v h1 h2=>?_⟩
   rcases i with _|i
   ·simp only [Bs,Aa] at h1 h2
    subst h1;subst h2
    exact ⟨_,p.1,(aR 0 s.ins x).take p.2,by rw [KS,Adl];simp [hp],TL (by rw [hp];rfl),rfl⟩
   ·exact g2 i c v (by simpa using h1) (by simpa using h2)
 have h0:Rel ⟨w,Sg,Ut oZ,π0⟩ {tmps:=Zm s (aR 0 s.ins x)++List.replicate (fn.ntmps-(Zm s (aR 0 s.ins x)).length) .undef,heap:=ou s x}
   {tmps:=ld.toArray++Array.replicate (fn.ntmps-ld.toArray.size) undef,defers:= []} w:=by
  refine ⟨π0,⟨Kh.refl _ _ _,λb hb=>Al6 b hb,λl q b h1 h2=>?_,λl q b h1 h2=>?_,λl l' q q' b h1 h2 h3 h4=>?_,λl _ _=>aC.rfl' _,λl=>?_⟩,⟨by simp [g1],rfl,λt=>?_⟩⟩
  ·obtain ⟨q0,_,rfl⟩:=un l q h1;exact h2
  ·obtain ⟨q0,h3,rfl⟩:=un l q h1
   exact ⟨.inr ⟨l,q0,h3,h2⟩,Ah5.Yh l q0 b h3 h2⟩
  ·obtain ⟨q0,h5,rfl⟩:=un l q h1
   obtain ⟨q0',h6,rfl⟩:=un l' q' h2
   exact Ah5.inj l l' q0 q0' b h5 h6 h3 h4
  ·cases hh:At (Ym 0 s.ins x) l with
   |none=>
    by_cases hv:s.ptr.isSome=true/\l=Oo
    ·obtain ⟨KZ,rfl⟩:=hv
     obtain ⟨p,hp⟩:=Vv.1 KZ
     refine Fu.Lf (b:= .var p.1 ((aR 0 s.ins x).take p.2)) ?_ (by rw [KS,hh];simp [hp])
     unfold mM at Qk
     rw [hp] at Qk
     obtain ⟨_,_,h1,h2,h3⟩:=Qk
     rw [TL KZ]
     exact ⟨_,rfl,rfl,_,h2,Mn.to (Mn.take p.2 hrc).1 h3⟩
    ·refine Fu.Tj ?_ ?_
     ·show (if s.ptr.isSome=true/\l=Oo then _ else π l).map full=none
      rw [Ai hv,SN l hh];rfl
     ·rw [KS,hh]
      simp only
      split
      ·rename_i e
       cases hp:s.ptr with
       |none=>rfl
       |some p=>exact absurd ⟨by rw [hp];rfl,e⟩ hv
      ·rfl
   |some b=>exact Fu.Lf (kB (π0:=oZ) (λb hb=>by
    rcases hb with ⟨l,q,h1,h2⟩|hb|⟨hb,_⟩
    ·obtain ⟨q0,h3,rfl⟩:=un l q h1;exact .inl ⟨l,q0,h3,h2⟩
    ·exact .inr hb
    ·cases hb) rfl (λ_=>rfl) s.ins 0 x us Acx l b hh) (SU l b hh)
  ·show Bn _ w _ _ ((Zm s (aR 0 s.ins x)++List.replicate _ AV.undef).getD t .undef) ((ld.toArray++Array.replicate _ undef).getD t undef)
   by_cases ht:t<ld.length
   ·rw [Ah,Ar (by omega),<-Ah]
    rw [bo,Su (by simpa using ht)]
    have:=g2 t _ _ (Ab (by omega)) (Ab ht)
    simpa [Ah,Ab ht,Ab (show t<(Zm s (aR 0 s.ins x)).length by omega)] using this
   ·have:(Zm s (aR 0 s.ins x)++List.replicate (fn.ntmps-(Zm s (aR 0 s.ins x)).length) AV.undef).getD t .undef= .undef:=by
     rw [Ah,Aq (by omega)]
     rw [Xt]
     split<;>rfl
    rw [this];trivial
 have fin: ∀(st:St) (a':Act) (w':World),RF T s fn x st (λz=>z=(r,o))->Rel ⟨w,Sg,Ut oZ,π0⟩ st a' w'->Afs P s fn x w S π g r o a' w':=by
  intro st a' w' ph hrel
  obtain ⟨bl,h'⟩:=hrel
  have Abe:Bl<=Oo:=by unfold Bl Oo;omega
  obtain ⟨bc,om,An8,hbc⟩: ∃bc,iQ T s fn x st bc (λz=>z=(r,o))/\(s.ptr.isSome=true-> ∃b,At st.heap Oo=some b/\b.row=none)/\
    (Od st 0 s.ins=some o-> ∃bv,Mn ⟨w,Sg,Ut oZ,π0⟩ w' bl st.heap bc bv/\bv.length=s.Zp/\ ∀tl,ka s π w' g (bv++tl) o):=by
   unfold RF at ph
   cases hp:s.ptr with
   |none=>
    rw [hp] at ph
    exact ⟨[],ph,λh=>by simp at h,λ_=>⟨[],trivial,by simp [MSpec.Zp,hp],λtl=>by simp [ka,hp]⟩⟩
   |some p=>
    rw [hp] at ph
    obtain ⟨vs,cs,h1,h2,h3,h4,h5⟩:=ph
    unfold St.at at h1
    refine ⟨cs,h5,λ_=>⟨_,h1,rfl⟩,λwV=>?_⟩
    obtain ⟨q,k1,k2,cur,k3,k4⟩:=(h'.1.heap Oo).Qw h1
    have hsv:aC (π0 Oo) (bl Oo):=h'.1.fI Oo Abe (by rw [h1];simp)
    rw [TL (by rw [hp];rfl),k1] at hsv
    have hqg:g=q.g:=hsv.1
    obtain ⟨bv,g1,g2,g3⟩:=Xw (π0:=oZ) (λk hk=>h'.1.fI _ (Nat.le_of_not_lt (an k)) hk) s.ins 0 vs cur.toList cs o (Mn.of k4) h3 h4 wV
    refine ⟨bv,g1,by rw [g2,h2];simp [MSpec.Zp,hp],λtl=>?_⟩
    unfold ka
    rw [hp]
    refine ⟨cur.toList,by rw [hqg];simpa using k3,λu hu=>?_,El.congr s.ins 0 o p.2 _ _ Ab7 (h2▸g3 tl)⟩
    obtain ⟨i,hi,rfl⟩:=Bx.1 hu
    have hl:=k4.1
    obtain ⟨u',h6,h7,_⟩:=k4.2 i (vs[i]'(by omega)) (Ab _)
    rw [Ab hi] at h6
    rw [Ax h6];exact h7
  unfold iQ at om
  split at om
  ·exact om.elim
  rename_i l hl
  split at om
  ·exact om.elim
  rename_i as ml fD
  split at om
  rotate_left
  ·exact om.elim
  rename_i r' ls o' GD oh
  obtain ⟨Je,uQ,TF⟩:=om
  simp only [Ag,Ms] at Je
  obtain ⟨⟨⟨lQ,Ar0⟩,Ap7⟩,Agt⟩:=Je
  simp only [Ad] at TF
  obtain ⟨rfl,rfl⟩:=TF
  obtain ⟨bv,hbv,Alj,Alf⟩:=hbc oh
  have GB:=Xd lQ
  obtain ⟨n1,n2,n3⟩:=Dg.1 GB
  obtain ⟨m1,m2,m3⟩:=Dg.1 n1
  obtain ⟨vs,v1,v2,v3,v4⟩:=Xf hT h' _ _ hl
  have YV:fn.results=fn.results.toList.toArray:=Array.toArray_toList.symm
  have Rd: ∀v,(if h:vs.toArray.size=1 then vs.toArray[0] else .tuple vs.toArray)=v->(results fn a'.tmps).run P w'= .ok v w':=by
   intro v hv
   rw [ei,YV,List.mapM_toArray]
   simp only [map_eq_pure_bind,bind_assoc,pure_bind]
   simp only [Sem.run_bind,CO (II a'.tmps) _ vs v1 v3,Result.andThen_ok,Sem.run_pure]
   rw [hv]
  obtain ⟨ue,v,qm,An6,hv,hqm⟩: ∃ue v qm,Mn ⟨w,Sg,Ut oZ,π0⟩ w' bl st.heap as ue/\(results fn a'.tmps).run P w'= .ok v w'/\
    ((s.rp=none/\ml= []/\qm=none/\VH s.Gh s.Hb ue v/\bR s.Hb ue)\/
     ∃tid m q,s.rp=some tid/\ml= [m]/\m<Bl/\qm=some q/\bl m=some q/\q.Cq q.g/\w'.heap[q.g]?=some (.cells ue.toArray tid (0,0))/\(∀u∈ue,u.oneCell'=true)/\v= .pointer (some ⟨q.g,0,none⟩)):=by
   unfold IH at fD
   split at fD
   ·rename_i EN
    split at fD
    rotate_left
    ·cases fD
    rename_i hmul
    cases mL:ungroup s.Hb l with
    |none=>rw [mL] at fD;cases fD
    |some as'=>
     rw [mL] at fD
     simp only [Ak,Aa,Ad] at fD
     obtain ⟨rfl,rfl⟩:=fD
     obtain ⟨ue,e1,e2,e3⟩:=Yw s.Hb l vs as' (by omega) v4 mL
     have hv: ∃v,(results fn a'.tmps).run P w'= .ok v w'/\VH s.Gh s.Hb ue v:=by
      unfold VH
      rw [<-e1,hmul]
      rcases Nat.lt_or_ge 1 l.length with h1|h1
      ·have YE:Nat.blt 1 l.length=true:=by simpa using h1
       simp only [YE,Oy]
       refine ⟨.tuple vs.toArray,Rd _ ?_,rfl⟩
       rw [dif_neg (by simp;omega)]
      ·have YE:Nat.blt 1 l.length=false:=by rw [<-Hs];simpa using h1
       simp only [YE,Cx,Qu]
       rcases vs with _|⟨v,_|⟨v',vs⟩⟩
       ·exact ⟨_,Rd _ (by simp;rfl), .inr rfl⟩
       ·exact ⟨v,Rd _ (by simp), .inl rfl⟩
       ·exfalso;simp only [Aw] at v1;omega
     obtain ⟨v,hv1,hv2⟩:=hv
     exact ⟨ue,v,none,e3,hv1, .inl ⟨EN,rfl,rfl,hv2,e2⟩⟩
   ·rename_i tid EN
    split at fD
    rotate_left
    ·cases fD
    rename_i m i
    split at fD
    rotate_left
    ·cases fD
    rename_i Tw vs' hm
    split at fD
    rotate_left
    ·cases fD
    rename_i hc
    obtain ⟨rfl,rfl,XI⟩:=hc
    simp only [Aa,Ad] at fD
    obtain ⟨rfl,rfl⟩:=fD
    unfold St.at at hm
    rcases vs with _|⟨v,_|⟨v',vs⟩⟩
    ·exfalso;simp only [Aw,Ho] at v1 v2;omega
    ·obtain ⟨q,At2,vs2,q1,q2,q3⟩:=v4 0 _ v rfl rfl
     rw [hm] at q1;cases q1
     obtain ⟨q',k1,k2,cur,k3,k4⟩:=(h'.1.heap m).Qw hm
     rw [q2] at k1;cases k1
     refine ⟨cur.toList,v,some q,Mn.of k4,Rd _ (by simp), .inr ⟨_,m,q,EN,rfl,by simpa using XI,rfl,q2,k2,by simpa using k3,λu hu=>?_,q3⟩⟩
     obtain ⟨i,hi,rfl⟩:=Bx.1 hu
     have hl:=k4.1
     obtain ⟨u',h6,h7,_⟩:=k4.2 i (vs'[i]'(by omega)) (Ab _)
     rw [Ab hi] at h6
     rw [Ax h6];exact h7
    ·exfalso;simp only [Aw,Ho] at v1 v2;omega
  obtain ⟨za,p1,p2,p3,p4,p5⟩:=vD h'.1 s.outs 0 (bc++as) (bv++ue) r' ls (hbv.append An6) GD m2
  obtain ⟨io1,io2⟩:=To (π0:=oZ) h'.1 (λ_=>rfl) s.ins 0 x us o' Acx oh
  have Agj:(bv++ue).drop s.Zp=ue:=by rw [<-Alj];simp
  let ρ:Pi:= λl0=>if l0=Jn s.outs.length then qm else za l0
  have Adr:ρ (Jn s.outs.length)=qm:=Ac rfl
  have Ai2: ∀l0,l0≠Jn s.outs.length->ρ l0=za l0:= λl0 h=>Ai h
  have Ai1: ∀j,j<s.outs.length->ρ (Jn j)=za (Jn j):= λj hj=>Ai2 _ (by unfold Jn;omega)
  have sR: ∀l0 q,ρ l0=some q->(l0=Jn s.outs.length/\qm=some q)\/(l0≠Jn s.outs.length/\za l0=some q):= λl0 q h=>by
   by_cases e:l0=Jn s.outs.length
   ·subst e;rw [Adr] at h;exact .inl ⟨rfl,h⟩
   ·rw [Ai2 l0 e] at h;exact .inr ⟨e,h⟩
  have Ahb: ∀q,qm=some q-> ∃m,ml= [m]/\m<Bl/\bl m=some q:= λq hq=>by
   rcases hqm with ⟨_,_,h1,_⟩|⟨_,m,q',_,h1,h2,h3,h4,_⟩
   ·rw [h1] at hq;cases hq
   ·rw [h3] at hq;cases hq;exact ⟨m,h1,h2,h4⟩
  have p3': ∀l0 q b,ρ l0=some q->q.Cq b-> ∃l1∈ml++ls,∃p,bl l1=some p/\p.cl b/\((s.outs.all λc=>!c.isX)=true->p.Cq b)/\((l1∈ls)\/l1<Bl):= λl0 q b h1 h2=>by
   rcases sR l0 q h1 with ⟨_,h3⟩|⟨_,h3⟩
   ·obtain ⟨m,e1,e2,e3⟩:=Ahb q h3
    exact ⟨m,by rw [e1];simp,q,e3,h'.1.sub m q b e3 h2,λ_=>h2, .inr e2⟩
   ·obtain ⟨l1,g1,p,g2,g3,g4⟩:=p3 l0 q b h3 h2
    exact ⟨l1,Cc _ g1,p,g2,g3,g4, .inl g1⟩
  have p4': ∀l0 l1 q q' b,ρ l0=some q->ρ l1=some q'->q.Cq b->q'.Cq b->l0=l1:= λl0 l1 q q' b h1 h2 h3 h4=>by
   have zD: ∀l0 q q' b,za l0=some q->qm=some q'->q.Cq b->q'.Cq b->False:= λl0 q q' b h1 h2 h3 h4=>by
    obtain ⟨m,e1,e2,e3⟩:=Ahb q' h2
    obtain ⟨l1,g1,p,g2,g3,_⟩:=p3 l0 q b h1 h3
    have:=h'.1.inj m l1 q' p b e3 g2 (h'.1.sub m q' b e3 h4) g3
    exact m3 m (by rw [e1];simp) l1 g1 this
   rcases sR l0 q h1 with ⟨e1,h5⟩|⟨e1,h5⟩<;>rcases sR l1 q' h2 with ⟨e2,h6⟩|⟨e2,h6⟩
   ·rw [e1,e2]
   ·exact (zD l1 q' q b h6 h5 h4 h3).elim
   ·exact (zD l0 q q' b h5 h6 h3 h4).elim
   ·exact p4 l0 l1 q q' b h5 h6 h3 h4
  have KY: ∀l0 q,Bl<=l0->oZ l0=some q->At st.heap l0≠none/\(l0∈Pg 0 s.ins\/ ∃b,At st.heap l0=some b/\b.row=none):= λl0 q h1 h2=>by
   rcases QC l0 q h2 with ⟨h3,_⟩|⟨h3,rfl,_⟩
   ·have wV:=uX s.ins 0 x l0 Agz (by omega) (λhnn=>by rw [SN l0 hnn] at h3;cases h3) (by omega)
    exact ⟨io2 l0 wV, .inl wV⟩
   ·obtain ⟨b,h4,h5⟩:=An8 h3
    exact ⟨by rw [h4];simp, .inr ⟨b,h4,h5⟩⟩
  have hDO:(s.outs.all λc=>!c.isX)=true-> ∀b,j5 Sg oZ ρ b->Ut bl b\/Sg b:=by
   intro hx b hb
   rcases hb with hb|⟨l0,q,h1,h2,h3⟩|⟨l0,q,h1,h2⟩
   ·exact .inr hb
   ·have hs:=h'.1.fI l0 h1 (KY l0 q h1 h2).1
    have hs:aC ((oZ l0).map full) (bl l0):=hs
    rw [h2] at hs
    cases uS:bl l0 with
    |none=>rw [uS] at hs;exact hs.elim
    |some q1=>rw [uS] at hs;exact .inl ⟨l0,q1,uS,(hs.2.2.2 b).1 h3⟩
   ·obtain ⟨m,_,p,hm2,_,hm4,_⟩:=p3' l0 q b h1 h2
    exact .inl ⟨m,p,hm2,hm4 hx⟩
  have hDD: ∀b,j5 S π ρ b->j5 Sg oZ ρ b:= λb hb=>by
   rcases hb with hb|⟨l0,q,h1,h2,h3⟩|hb
   ·by_cases QV:s.gv g b
    ·obtain ⟨KZ,rfl⟩:=QV
     exact .inr (.inl ⟨Oo,_,Abe,Ac ⟨KZ,rfl⟩,rfl⟩)
    ·exact .inl ⟨hb,QV⟩
   ·refine .inr (.inl ⟨l0,q,h1,?_,h3⟩)
    show (if s.ptr.isSome=true/\l0=Oo then _ else π l0)=some q
    rw [Ai]
    ·exact h2
    ·rintro ⟨_,rfl⟩
     rw [SN Oo Adl] at h2;cases h2
   ·exact .inr (.inr hb)
  have QU:s.flat=true\/(s.outs.all λc=>!c.isX)=true:=by unfold MSpec.UE at Agt;simpa only [Li] using Agt
  have io1:Lu w' (j5 S π ρ) π 0 s.ins o':=by
   refine Lu.congr s.ins 0 o' Ab7 ?_
   rcases QU with hf|hf
   ·unfold MSpec.flat at hf
    simp only [Ag] at hf
    exact Lu.any s.ins 0 o' hf.2 io1
   ·exact Lu.Ij (λb hb=>hDO hf b (hDD b hb)) s.ins 0 o' io1
  have p1:Iq w' (j5 S π ρ) ρ 0 s.outs r' (bv++ue):=by
   have p1:Iq w' (λb=>Ut bl b\/Sg b) ρ 0 s.outs r' (bv++ue):=Iq.RX s.outs 0 r' _ (λj _ hj=>Ai1 j (by omega)) p1
   rcases QU with hf|hf
   ·unfold MSpec.flat at hf
    simp only [Ag] at hf
    exact Iq.any s.outs 0 r' (bv++ue) hf.1 p1
   ·exact Iq.Ij (λb hb=>hDO hf b (hDD b hb)) s.outs 0 r' (bv++ue) p1
  refine ⟨v,bv++ue,ρ,h'.2.defers,hv,?_,Alf ue,⟨h'.1.below.os,h'.1.below.tape,h'.1.below.output,h'.1.below.size,λk hk hn=>h'.1.below.block k hk λho=>hn ((cS k).1 ho)⟩,io1,p1,⟨λl0 q b h1 h2=>?_,p4'⟩,λl0 hl0=>?_,λkj QX=>?_⟩
  ·rw [Agj]
   unfold pZ
   rcases hqm with ⟨h1,_,_,h2⟩|⟨tid,m,q,h1,_,_,h3,_,h4,h5,h6,h7⟩
   ·rw [h1];exact h2
   ·rw [h1];exact ⟨q,by rw [Adr,h3],h4,h5,h6,h7⟩
  ·obtain ⟨m,hm1,p,hm2,hm3,_,hm4⟩:=p3' l0 q b h1 h2
   obtain ⟨k1,k2⟩:=h'.1.place m p b hm2 hm3
   refine ⟨k2,k1.imp id λ⟨c0,q0,h5,h6⟩=>?_⟩
   have Jl:c0<Bl:=Bf λhn=>by
    obtain ⟨Hq,wV⟩:=KY c0 q0 (by omega) h5
    have hs:=h'.1.fI c0 (by omega) Hq
    have hs:aC ((oZ c0).map full) (bl c0):=hs
    rw [h5] at hs
    cases uS:bl c0 with
    |none=>rw [uS] at hs;exact hs.elim
    |some q1=>
     rw [uS] at hs
     have hf1:q1.Cq b:=(hs.2.2.2 b).1 h6
     have:=h'.1.inj c0 m q1 p b uS hm2 (h'.1.sub c0 q1 b uS hf1) hm3
     subst this
     rcases hm4 with hm4|hm4
     ·rcases wV with wV|⟨b1,YE,hb2⟩
      ·exact n3 c0 hm1 c0 wV rfl
      ·obtain ⟨b2,hb3,hb4⟩:=rP s.outs _ _ _ GD c0 hm4
       rw [YE] at hb3;cases hb3
       exact hb4 hb2
     ·exact hn hm4
   refine ⟨c0,q0,Jl,?_,h6⟩
   rcases QC c0 q0 h5 with ⟨h7,_⟩|⟨_,h7,_⟩
   ·exact h7
   ·omega
  ·cases hp:ρ l0 with
   |none=>rfl
   |some q=>
    rcases sR l0 q hp with ⟨e,h3⟩|⟨_,h3⟩
    ·refine absurd e (hl0 _ ?_)
     rcases hqm with ⟨_,_,h4,_⟩|⟨tid,m,q',h4,_⟩
     ·rw [h4] at h3;cases h3
     ·unfold MSpec.Tr;rw [h4];simp
    ·obtain ⟨j,_,j2,j3⟩:=p2 l0 q h3
     exact absurd j3 (hl0 j (by unfold MSpec.Tr;omega))
  ·obtain ⟨l0,off,len,e,te,rows,out,p,q1,q2,q3,q4,q5⟩:=vf uQ kj QX
   have hj:kj.2<s.outs.length:=by
    rw [<-vC s.outs _ _ _ GD]
    exact (Am.1 q1).1
   have e1:=p5 kj.2 l0 off len e te rows out (some p) q1 q2
   rw [Cj] at e1
   rw [Ai1 _ hj,e1]
   have hk:=((h'.1.heap l0).Qw q2).2
   obtain ⟨l1,n1⟩:=p
   simp only [KeptAt] at hk
   dsimp only at q3 q4
   subst q3
   have NH:π0 (Dr false kj.1)=(π (Dr false kj.1)).map full:=by
    show (if s.ptr.isSome=true/\Dr false kj.1=Oo then _ else π (Dr false kj.1)).map full=_
    rw [Ai λh=>TI false kj.1 q5 h.2]
   rw [NH] at hk
   unfold zc
   cases hp:π (Dr false kj.1) with
   |none=>
    rw [hp] at hk
    cases uS:bl l0 with
    |none=>trivial
    |some q=>rw [uS] at hk;exact hk.elim
   |some q0=>
    rw [hp] at hk
    cases uS:bl l0 with
    |none=>rw [uS] at hk;exact hk.elim
    |some q=>
     rw [uS] at hk
     obtain ⟨k1,k2,k3,k4⟩:=hk
     exact ⟨k1,k2,k3,λj hj hc=>k4 j (by omega) hc⟩
 refine calls_of_wp hf hb ?_
 refine (s8 hT Oh hm he _ w _ h0 λe st a' w' ⟨Hq,ph⟩ h'=>?_).1
 obtain ⟨v,Vw,ρ,p1,p2,p3⟩:=fin st a' w' ph h'
 cases e with
 |normal=>exact ⟨p1,v,p2,v,Vw,ρ,rfl,p3⟩
 |ret=>exact ⟨p1,v,p2,v,Vw,ρ,rfl,p3⟩
 |exit id=>exact absurd rfl (Hq id)
end
end Go.Proofs.Ytkkdpknjohcekaa
