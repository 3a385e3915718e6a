/-
  Part 27 of the proof that the statement FnSymmetries holds.
-/
import Derived.Test.YtkkdpknjohcekaaCFSymmetries25
namespace Go.Proofs.Ytkkdpknjohcekaa
open Go.RowKit
section
variable {P:Program} {T:Tab} {Γ:Env} {X:Ctx} {w w':World} {π:Pi} {H:List (Nat×OB)}
theorem q6: ∀(cs:List (Bool×CK)) (k:Nat) (x:Ins.den cs) (l:Nat),As (Xz k cs x) l≠none-> ∃b j,k<=j/\j<k+cs.length/\l=Dt b j
 | [],_,_,_,h=>absurd rfl h
 |p::r,k,x,l,h=>by
  simp only [Xz] at h
  by_cases e:l=Dt p.1 k
  ·exact ⟨p.1,k,Ar _,by simp,e⟩
  ·have:As (Xz (k+1) r x.2) l≠none:=by
    cases hc:iu (Dt p.1 k) p.2 x.1 with
    |none=>rw [hc] at h;exact h
    |some b=>rw [hc] at h;simpa only [fy,As,Ai (Gl e)] using h
   obtain ⟨b,j,h1,h2,h3⟩:=q6 r (k+1) x.2 l this
   exact ⟨b,j,by omega,by simp;omega,h3⟩
theorem JD {p:Bool×CK} {r:List (Bool×CK)} {k:Nat} {x:Ins.den (p::r)} (hk:k+(r.length+1)<100000) {l:Nat} {b:OB} (h:As (Xz (k+1) r x.2) l=some b):As (Xz k (p::r) x) l=some b:=by
 obtain ⟨b',j,h1,h2,rfl⟩:=q6 r (k+1) x.2 l (by rw [h];simp)
 simp only [Xz]
 cases iu (Dt p.1 k) p.2 x.1 with
 |none=>exact h
 |some c=>simp only [fy,As];rw [Ai (HO (by omega) (by omega) (by omega))];exact h
theorem NJ {D:Nat->Prop} (hD: ∀b,Cr X.w0.heap.size X.Sc π false b->D b) (hw0:X.w0=w) {l:Nat} {r:Option Real} (dp:X.fb l=r.map full) {u:Value} {c:CK} {x:c.den} (h:cU w D r u c x) {b:OB} (hb:iu l c x=some b):By X w π H (r.map full) b:=by
 have Va: ∀ {e:Ty} {es:List Value} {y:e.den},Cells w D e es y->Cells w (Cr X.w0.heap.size X.Sc π false) e es y:= λ {e es y} h=>Cells.Fw (Ar _) (λ_ _ _=>rfl) (λb _ hb=>hD b hb) e es y h
 cases c with
 |Gb τ=>cases hb
 |row e te=>
  simp only [iu,Aa] at hb;subst hb
  obtain ⟨_,h⟩:=h
  simp only [ei] at h
  simp only [By,Jo]
  cases r with
  |none=>exact h
  |some q=>
   obtain ⟨k1,cu,ti,k2,k3,k4,k5,k6⟩:=h
   exact ⟨⟨k1.1,k1.2,λh=>by cases h⟩,cu,ti,k2,k3,k4,k5,λi y hy=>by
    obtain ⟨es,g1,g2,g3⟩:=k6 i y hy
    exact ⟨es,g1,g2,Va g3⟩,λh=>by cases h⟩
 |Ha e te=>
  simp only [iu,Aa] at hb;subst hb
  cases r<;>exact h.2
 |part e te=>
  simp only [iu,Aa] at hb;subst hb
  obtain ⟨_,hf,h⟩:=h
  simp only [By,Jo]
  cases r with
  |none=>exact h
  |some q=>
   obtain ⟨k1,cu,ti,k2,k3,k4,k5,k6⟩:=h
   exact ⟨⟨k1.1,k1.2,λh=>by cases h⟩,cu,ti,k2,k3,k4,k5,λi y hy=>by
    obtain ⟨es,g1,g2,g3⟩:=k6 i y hy
    exact ⟨es,g1,g2,Va g3⟩,λh=>by cases h⟩
 |Bj e te kp=>
  simp only [iu,Aa] at hb;subst hb
  have h2:Yx w D r e x none:=h.2
  have h3:=Yx.Ig h2 hD
  refine ⟨by cases r<;>exact h3,?_⟩
  cases kp with
  |false=>trivial
  |true=>
   simp only [Qf,KeptAt]
   rw [dp]
   cases r with
   |none=>trivial
   |some q=>exact ⟨rfl,rfl,rfl,λj _ _=>by rw [hw0]⟩
theorem jK {D:Nat->Prop} (hD: ∀b,Cr X.w0.heap.size X.Sc π false b->D b) (hw0:X.w0=w) {π0:Pi} (dp: ∀l,X.fb l=(π0 l).map full): ∀(cs:List (Bool×CK)) (k:Nat) (x:Ins.den cs) (us:List Value),cV w D π0 k cs x us-> ∀l b,As (Xz k cs x) l=some b->By X w π H ((π0 l).map full) b
 | [],_,_,_,_,_,_,h=>by cases h
 |_::_,_,_,[],h,_,_,_=>h.elim
 |p::r,k,x,u::us,h,l,b,hb=>by
  simp only [Xz] at hb
  cases hc:iu (Dt p.1 k) p.2 x.1 with
  |none=>rw [hc] at hb;exact jK hD hw0 dp r (k+1) x.2 us h.2 l b hb
  |some c=>
   rw [hc] at hb
   simp only [fy,As] at hb
   split at hb
   ·rename_i e;subst e
    simp only [Aa] at hb;subst hb
    exact NJ hD hw0 (dp _) h.1 hc
   ·exact jK hD hw0 dp r (k+1) x.2 us h.2 l b hb
theorem yH {S:Nat->Prop} {π0:Pi} {gv:Nat->Prop} {fb:Pi} (cw: ∀l,π l=(π0 l).map full): ∀(cs:List (Bool×CK)) (k:Nat) (x:Ins.den cs) (us:List Value),k+cs.length<100000->cV w (λb=>Un π0 b\/S b) π0 k cs x us->(∀l b,As (Xz k cs x) l=some b->As H l=some b)->
  Mn ⟨w,S,gv,fb⟩ w π H (aA k cs x) us
 | [],_,_,[],_,_,_=>trivial
 | [],_,_,_::_,_,h,_=>h.elim
 |_::_,_,_,[],_,h,_=>h.elim
 |p::r,k,x,u::us,hk,h,hH=>by
  simp only [Bg] at hk
  refine ⟨?_,yH cw r (k+1) x.2 us (by omega) h.2 λl b hb=>hH l b (JD hk hb)⟩
  have h1:=h.1
  have hh: ∀b,iu (Dt p.1 k) p.2 x.1=some b->As H (Dt p.1 k)=some b:= λb hb=>hH _ b (by simp only [Xz];rw [hb];simp [fy,As])
  have eS:=cw (Dt p.1 k)
  obtain ⟨io,c⟩:=p
  dsimp only at h1 hh eS⊢
  generalize x.1=y at*
  cases c with
  |Gb τ=>
   show Cz w _ τ u y
   cases hf:τ.flat with
   |true=>exact Cz.flat hf h1.2
   |false=>
    refine h1.2.Ig λb _ hb=>?_
    rcases hb with ⟨l,q,h3,h4⟩|hb|⟨hb,_⟩
    ·rw [cw l] at h3
     cases hp:π0 l with
     |none=>rw [hp] at h3;cases h3
     |some q0=>rw [hp] at h3;simp only [Ah,Aa] at h3;subst h3;exact .inl ⟨l,q0,hp,h4⟩
    ·exact .inr hb
    ·cases hb
  |row e te=>exact ⟨_,e.size,List.length y,hh _ rfl,rfl,by simp,by rw [eS];exact Yf h1.1⟩
  |Ha e te=>exact ⟨_,e.size,List.length y,hh _ rfl,rfl,by simp,by rw [eS];exact Yf h1.1⟩
  |part e te=>exact ⟨_,e.size,List.length y.1,hh _ rfl,rfl,h1.1.2,by rw [eS];exact Yf h1.1.1⟩
  |Bj e te kp=>exact ⟨_,1,List.length y,hh _ rfl,rfl,by simp,by rw [eS];exact Yf h1.1⟩
theorem mO {p:Real} {s off len:Nat} {u:Value} {f:Nat->Prop} (h:Hf (some p) s off len u):Hf (some ⟨p.g,p.o+off,p.cap-off,f,f⟩) s 0 len u:=by
 obtain ⟨ad,h1,h2,h3⟩:=h
 exact ⟨ad,h1,by dsimp only;omega,λh0=>by dsimp only at h0;simpa using h3 (by omega)⟩
theorem qB {α:Type} {xs:List α} {off len i:Nat} {x:α} (h:((xs.drop off).take len)[i]?=some x):xs[off+i]?=some x:=by
 rw [Cn] at h
 split at h
 ·rw [Ci] at h;exact h
 ·cases h
theorem Wd.part {P:Nat->Prop} {g o:Nat} {cur:Array Value} {e:Ty} {xs:List e.den} (off len:Nat) (h:Wd w P g o cur e xs):Wd w P g (o+off) cur e ((xs.drop off).take len):=by
 obtain ⟨Fs,t1,t2,t3,t4⟩:=h
 refine ⟨(Fs.drop off).take len,by simp [t1],Cf.2 ⟨λhm=>(Cf.1 t2).1 (Rk off len _ hm),jS off len (Cf.1 t2).2⟩,λb hb=>t3 b (Rk off len b hb),λi x F hx hF=>?_⟩
 obtain ⟨es,k1,k2,k3⟩:=t4 (off+i) x F (qB hx) (qB hF)
 exact ⟨es,k1,λj u hu=>by rw [Fy o off i];exact k2 j u hu,k3⟩
theorem JU {st:St} (h:Mm X w π st.heap) {c:CK} (hg: ∀e te kp,c≠ .Bj e te kp) {a:AC} {u:Value} (hu:Gy X w π st.heap a u) {x:c.den} {ls:List Nat} (he:iy st c a=some (x,ls)):
  ∃r,cU w (λb=>Un π b\/X.Sc b) r u c x/\ ∀q,r=some q-> ∃l p,ls= [l]/\π l=some p/\(∀b,q.Cm b->p.cl b)/\(c.XQ=false-> ∀b,q.Cm b->p.Cm b):=by
 have OA: ∀ {f:Bool} (b:Nat),(Un π b\/X.Sc b)->Cr X.w0.heap.size X.Sc π f b:= λb h=>h.imp id .inl
 cases c with
 |Gb τ=>
  simp only [iy] at he
  split at he
  ·rename_i hf
   cases hv:Dm st τ a with
   |none=>rw [hv] at he;cases he
   |some p=>
    obtain ⟨fr,y⟩:=p
    rw [hv] at he
    simp only [Ah,Aa,Ad] at he
    obtain ⟨rfl,rfl⟩:=he
    refine ⟨none,⟨rfl,?_⟩,λq hq=>by cases hq⟩
    have Ig: ∀f,Cz w (Cr X.w0.heap.size X.Sc π f) τ u y->Cz w (λb=>Un π b\/X.Sc b) τ u y:= λf hr=>hr.Ig λk _ hk=>OA k hk
    cases a with
    |data f Nr z=>
     rw [Ng] at hv
     split at hv
     ·rename_i ht;subst ht
      simp only [Aa,Ad] at hv
      obtain ⟨_,rfl⟩:=hv
      exact Ig f hu
     ·have Up:τ.Ap=false:=by unfold fC at hv;split at hv<;>first|rfl|cases hv
      exact Ig _ ⟨[u],bK hv hu,by simp [Bs,Up]⟩
    |Lo=>
     have hu:u= .slice none 0 0:=hu
     subst hu
     cases τ<;>simp only [Dm,Aa,Ad,reduceCtorEq] at hv
     ·obtain ⟨_,rfl⟩:=hv;exact ⟨[_],⟨none,0,0,rfl,rfl,Ar _, .inl rfl⟩,rfl⟩
     ·obtain ⟨_,rfl⟩:=hv;exact ⟨[_], .inl ⟨rfl,0,rfl⟩,rfl⟩
    |Uk=>
     have hu:u= .pointer none:=hu
     subst hu
     cases τ<;>simp only [Dm,Aa,Ad,reduceCtorEq] at hv
     obtain ⟨_,rfl⟩:=hv;exact ⟨[_], .inl ⟨rfl,rfl⟩,rfl⟩
    |_=>cases τ<;>simp [AC.settled,Ty.flat,Dm] at hf hv
  ·cases he
 |row e te=>
  cases a<;>simp only [iy] at he<;>try (cases he;done)
  ·simp only [Aa,Ad] at he
   obtain ⟨rfl,rfl⟩:=he
   have hu:u= .slice none 0 0:=hu
   exact ⟨none,⟨⟨hu,rfl,rfl⟩,rfl⟩,λq hq=>by cases hq⟩
  ·rename_i l off len
   split at he
   ·rename_i fr tr e' Qo xs hl
    split at he
    ·rename_i hc
     obtain ⟨rfl,rfl⟩:=hc
     simp only [Aa,Ad] at he
     obtain ⟨rfl,rfl⟩:=he
     unfold St.at at hl
     obtain ⟨h1,h2⟩:=Nx hu hl
     have hb:=(h.heap l).Qq hl
     simp only [By,Jo] at hb
     have hlen:((xs.drop off).take len).length=len:=by simp;omega
     cases hp:π l with
     |none=>
      rw [hp] at h2 hb
      obtain ⟨rfl,rfl,rfl⟩:=h2
      exact ⟨none,⟨⟨rfl,rfl,by simp⟩,by show (xs.drop 0).take 0= [];simp⟩,λq hq=>by cases hq⟩
     |some p=>
      rw [hp] at h2 hb
      obtain ⟨k1,cur,ti,k2,k3,k4,k5,k6,_⟩:=hb
      have ho:=h2
      obtain ⟨ad,_,pT,_⟩:=h2
      refine ⟨some ⟨p.g,p.o+off,p.cap-off,p.Cm,p.Cm⟩,⟨by rw [hlen];exact mO ho,⟨k1.1,k1.2.1⟩,cur,ti,k2,by rw [k3];congr 1;dsimp only;omega,by dsimp only;omega,by rw [hlen];dsimp only;omega,λi y hy=>?_⟩,
       fun q hq=>by cases hq;exact ⟨l,p,rfl,hp,λb hb=>h.sub l p b hp hb,λ_ b hb=>hb⟩⟩
      obtain ⟨es,g1,g2,g3⟩:=k6 (off+i) y (qB hy)
      exact ⟨es,g1,λj u hu=>by dsimp only;rw [Fy p.o off i];exact g2 j u hu,Cells.Fw (Ar _) (λ_ _ _=>rfl) (λb _ hb=>OA b hb) e' es y g3⟩
    ·cases he
   ·cases he
 |Ha e te=>
  cases a<;>simp only [iy] at he<;>try (cases he;done)
  ·simp only [Aa,Ad] at he
   obtain ⟨rfl,rfl⟩:=he
   have hu:u= .slice none 0 0:=hu
   exact ⟨none,⟨⟨hu,rfl,rfl⟩,rfl⟩,λq hq=>by cases hq⟩
  ·rename_i l off len
   split at he
   ·rename_i fr tr e' Qo xs hl
    split at he
    ·rename_i hc
     obtain ⟨rfl,rfl,hf⟩:=hc
     simp only [Aa,Ad] at he
     obtain ⟨rfl,rfl⟩:=he
     unfold St.at at hl
     obtain ⟨h1,h2⟩:=Nx hu hl
     have hb:=(h.heap l).Qq hl
     simp only [By,Jo] at hb
     have hlen:((xs.drop off).take len).length=len:=by simp;omega
     cases hp:π l with
     |none=>
      rw [hp] at h2 hb
      obtain ⟨rfl,rfl,rfl⟩:=h2
      exact ⟨none,⟨⟨rfl,rfl,by simp⟩,by show (xs.drop 0).take 0= [];simp⟩,λq hq=>by cases hq⟩
     |some p=>
      rw [hp] at h2 hb
      obtain ⟨k1,cur,ti,k2,k3,k4,k5,k6,k7⟩:=hb
      have ho:=h2
      obtain ⟨ad,_,pT,_⟩:=h2
      have ht:Wd w p.cl p.g p.o cur e' xs:=by
       simp only [Lk] at hf
       rcases hf with hf|hf
       ·exact k7 hf
       ·exact kT hf k6
      exact ⟨some ⟨p.g,p.o+off,p.cap-off,p.cl,p.cl⟩,⟨by rw [hlen];exact mO ho,h.sub l p _ hp k1.1,cur,ti,k2,by rw [k3];congr 1;dsimp only;omega,by dsimp only;omega,by rw [hlen];dsimp only;omega,ht.part off len⟩,
       fun q hq=>by cases hq;exact ⟨l,p,rfl,hp,λb hb=>hb,λhx=>by cases hx⟩⟩
    ·cases he
   ·rename_i e' Qo xs hl
    split at he
    ·rename_i hc
     obtain ⟨rfl,rfl⟩:=hc
     simp only [Aa,Ad] at he
     obtain ⟨rfl,rfl⟩:=he
     unfold St.at at hl
     obtain ⟨h1,h2⟩:=aM hu hl
     have hb:=(h.heap l).Qq hl
     simp only [By,Nj] at hb
     have hlen:((xs.drop off).take len).length=len:=by simp;omega
     cases hp:π l with
     |none=>
      rw [hp] at h2 hb
      obtain ⟨rfl,rfl,rfl⟩:=h2
      exact ⟨none,⟨⟨rfl,rfl,by simp⟩,by show (xs.drop 0).take 0= [];simp⟩,λq hq=>by cases hq⟩
     |some p=>
      rw [hp] at h2 hb
      obtain ⟨k1,cur,ti,k2,k3,k4,k5,ht⟩:=hb
      have ho:=h2
      obtain ⟨ad,_,pT,_⟩:=h2
      exact ⟨some ⟨p.g,p.o+off,p.cap-off,p.Cm,p.Cm⟩,⟨by rw [hlen];exact mO ho,k1,cur,ti,k2,by rw [k3];congr 1;dsimp only;omega,by dsimp only;omega,by rw [hlen];dsimp only;omega,ht.part off len⟩,
       fun q hq=>by cases hq;exact ⟨l,p,rfl,hp,λb hb=>h.sub l p b hp hb,λ_ b hb=>hb⟩⟩
    ·cases he
   ·cases he
 |part e te=>cases a<;>simp [iy] at he
 |Bj e te kp=>exact absurd rfl (hg e te kp)
theorem QF {st:St} (h:Mm X w π st.heap) {c:CK} {a:AC} {u:Value} (hu:Gy X w π st.heap a u) {x:c.den} {ls:List Nat} (he:iy st c a=some (x,ls)):
  ∃r,cU w (λb=>Un π b\/X.Sc b) r u c x/\(∀q,r=some q-> ∃l p,ls= [l]/\π l=some p/\(∀b,q.Cm b->p.cl b)/\(c.XQ=false-> ∀b,q.Cm b->p.Cm b))/\
   (∀l off len e te rows out kp,a= .own l off len->As st.heap l=some (.Bj e te rows out kp)->r=π l):=by
 have sf:(∀e te kp,c≠ .Bj e te kp)->(∀l off len e te rows out kp,a=AC.own l off len->As st.heap l=some (OB.Bj e te rows out kp)->False)->
   ∃r,cU w (λb=>Un π b\/X.Sc b) r u c x/\(∀q,r=some q-> ∃l p,ls= [l]/\π l=some p/\(∀b,q.Cm b->p.cl b)/\(c.XQ=false-> ∀b,q.Cm b->p.Cm b))/\
   (∀l off len e te rows out kp,a= .own l off len->As st.heap l=some (.Bj e te rows out kp)->r=π l):= λh1 h2=>by
  obtain ⟨r,g1,g2⟩:=JU h h1 hu he
  exact ⟨r,g1,g2,λl off len e te rows out kp h3 h4=>(h2 l off len e te rows out kp h3 h4).elim⟩
 cases c with
 |Gb τ=>
  refine sf (λ_ _ _ h=>by cases h) λl off len e te rows out kp h3 h4=>?_
  subst h3
  simp only [iy] at he
  split at he
  ·rename_i hf
   cases τ<;>simp [AC.settled,Ty.flat,Dm] at hf he
  ·cases he
 |row e te=>
  refine sf (λ_ _ _ h=>by cases h) λl off len e te rows out kp h3 h4=>?_
  subst h3
  simp only [iy,St.at,h4] at he
  cases he
 |Ha e te=>
  refine sf (λ_ _ _ h=>by cases h) λl off len e te rows out kp h3 h4=>?_
  subst h3
  simp only [iy,St.at,h4] at he
  cases he
 |part e te=>cases a<;>simp [iy] at he
 |Bj e te kp=>
  cases a<;>simp only [iy] at he<;>try (cases he;done)
  rename_i l off len
  split at he
  ·rename_i e' Qo rows kp' hl
   split at he
   ·rename_i hc
    obtain ⟨rfl,rfl,rfl,rfl⟩:=hc
    simp only [Aa,Ad] at he
    obtain ⟨rfl,rfl⟩:=he
    unfold St.at at hl
    obtain ⟨b,sz,n,h1,h2,_,h3⟩:=hu
    rw [hl] at h1;cases h1
    simp only [OB.row,Aa,Ad] at h2
    obtain ⟨rfl,rfl⟩:=h2
    have hb:=((h.heap l).Qq hl).1
    refine ⟨π l,⟨h3,Yx.Ig hb λb hb=>hb.imp id .inl⟩,λq hq=>⟨l,q,rfl,hq,λb hb=>h.sub l q b hq hb,λ_ b hb=>hb⟩,λl' Apk Ajt _ _ _ _ _ he _=>?_⟩
    simp only [AC.own.injEq] at he
    rw [he.1]
   ·cases he
  ·cases he
theorem Ip.congr {D:Nat->Prop} {ρ ρ':Pi} : ∀(cs:List CK) (k:Nat) (x:CKs.den cs) (us:List Value),(∀j,k<=j->ρ' (Jq j)=ρ (Jq j))->Ip w D ρ k cs x us->Ip w D ρ' k cs x us
 | [],_,_,[],_,h=>h
 | [],_,_,_::_,_,h=>h.elim
 |_::_,_,_,[],_,h=>h.elim
 |c::r,k,x,u::us,he,h=>⟨by rw [he k (Ar _)];exact h.1,Ip.congr r (k+1) x.2 us (λj hj=>he j (by omega)) h.2⟩
theorem u7 {st:St} (h:Mm X w π st.heap): ∀(cs:List CK) (k:Nat) (as:List AC) (us:List Value) (x:CKs.den cs) (ls:List Nat),Mn X w π st.heap as us->Uc st cs as=some (x,ls)->ls.Nodup->
  ∃ρ:Pi,Ip w (λb=>Un π b\/X.Sc b) ρ k cs x us/\(∀l q,ρ l=some q-> ∃j,k<=j/\j<k+cs.length/\l=Jq j)/\(∀l q b,ρ l=some q->q.Cm b-> ∃l0∈ls,∃p,π l0=some p/\p.cl b/\((cs.all λc=>!c.XQ)=true->p.Cm b))/\
   (∀l l' q q' b,ρ l=some q->ρ l'=some q'->q.Cm b->q'.Cm b->l=l')/\
   (∀(j l off len:Nat) e te rows out kp,as[j]?=some (.own l off len)->As st.heap l=some (.Bj e te rows out kp)->ρ (Jq (k+j))=π l)
 | [],k,[],[],x,ls,_,he,_=>by
  simp only [Uc,Aa,Ad] at he
  exact ⟨λ_=>none,trivial,(λl q h=>by cases h),(λl q b h=>by cases h),(λl l' q q' b h=>by cases h),λj l off len e te rows out kp h=>by simp at h⟩
 | [],_,[],_::_,_,_,h,_,_=>h.elim
 | [],_,_::_,_,_,_,_,he,_=>by simp [Uc] at he
 |_::_,_,[],_,_,_,_,he,_=>by simp [Uc] at he
 |_::_,_,_::_,[],_,_,h,_,_=>h.elim
 |c::r,k,a::as,u::us,x,ls,hr,he,rZ=>by
  simp only [Uc] at he
  split at he
  ·rename_i x1 t1 x2 t2 h1 h2
   simp only [Aa,Ad] at he
   obtain ⟨rfl,rfl⟩:=he
   obtain ⟨n1,n2,n3⟩:=Dp.1 rZ
   obtain ⟨ρ,g1,g2,g3,g4,g5⟩:=u7 h r (k+1) as us x2 t2 hr.2 h2 n2
   obtain ⟨rr,r1,r2,r3⟩:=QF h hr.1 h1
   have yf: ∀l q q0 b,ρ l=some q->rr=some q0->q.Cm b->q0.Cm b->False:= λl q q0 b h3 h4 h5 h6=>by
    obtain ⟨l0,m0,p,p1,p2,_⟩:=g3 l q b h3 h5
    obtain ⟨l1,p',e1,p1',p2',_⟩:=r2 q0 h4
    have:=h.inj l0 l1 p p' b p1 p1' p2 (p2' b h6)
    exact n3 l1 (by rw [e1];simp) l0 m0 this.symm
   refine ⟨λl=>if l=Jq k then rr else ρ l,⟨by simpa using r1,Ip.congr r (k+1) x2 us (λj hj=>Ai (by unfold Jq;omega)) g1⟩,λl q hq=>?_,λl q b hq hb=>?_,λl l' q q' b h3 h4 h5 h6=>?_,λj l off len e te rows out kp hj hl=>?_⟩
   ·dsimp only at hq
    by_cases e:l=Jq k
    ·exact ⟨k,Ar _,by simp,e⟩
    ·rw [Ai e] at hq
     obtain ⟨j,j1,j2,j3⟩:=g2 l q hq
     exact ⟨j,by omega,by simp;omega,j3⟩
   ·dsimp only at hq
    by_cases e:l=Jq k
    ·rw [Ab e] at hq
     obtain ⟨l1,p',e1,p1',p2',p3'⟩:=r2 q hq
     exact ⟨l1,by rw [e1];simp,p',p1',p2' b hb,λhx=>p3' (by simp only [Iv,Ag,Eg] at hx;exact hx.1) b hb⟩
    ·rw [Ai e] at hq
     obtain ⟨l0,m0,p,p1,p2,p3⟩:=g3 l q b hq hb
     exact ⟨l0,Bx _ m0,p,p1,p2,λhx=>p3 (by simp only [Iv,Ag] at hx;exact hx.2)⟩
   ·dsimp only at h3 h4
    by_cases e:l=Jq k<;>by_cases e':l'=Jq k
    ·rw [e,e']
    ·rw [Ab e] at h3;rw [Ai e'] at h4
     exact (yf l' q' q b h4 h3 h6 h5).elim
    ·rw [Ai e] at h3;rw [Ab e'] at h4
     exact (yf l q q' b h3 h4 h5 h6).elim
    ·rw [Ai e] at h3;rw [Ai e'] at h4
     exact g4 l l' q q' b h3 h4 h5 h6
   ·rcases j with _|j
    ·simp only [Bl,Aa] at hj
     show (if Jq k=Jq k then rr else ρ (Jq k))=π l
     rw [Ab rfl]
     exact r3 l off len e te rows out kp hj hl
    ·have:=g5 j l off len e te rows out kp (by simpa using hj) hl
     show (if Jq (k+(j+1))=Jq k then rr else ρ (Jq (k+(j+1))))=π l
     rw [Ai (by unfold Jq;omega),<-this,show k+(j+1)=k+1+j by omega]
  ·cases he
theorem zF {r r':Option Real} (h:ae (r.map full) r') {e:Ty} {xs:List e.den} {te:TypeId} {fr tr:Bool} (ha:Jo X w π r' fr tr e te xs):Rw w (λb=>Un π b\/X.Sc b) r e xs:=by
 cases r with
 |none=>cases r' with
  |none=>exact ha
  |some q=>exact h.elim
 |some p=>cases r' with
  |none=>exact h.elim
  |some q=>
   obtain ⟨e1,e2,e3,e4⟩:=h
   obtain ⟨k1,cur,ti,k2,k3,k4,k5,k6,_⟩:=ha
   have e1:p.g=q.g:=e1
   have e2:p.o=q.o:=e2
   have e3:p.cap=q.cap:=e3
   refine ⟨⟨by rw [e1];exact (e4 _).2 k1.1,λb hb=>by rw [e1];exact k1.2.1 b ((e4 b).1 hb)⟩,cur,ti,by rw [e1];exact k2,by rw [e2,e3];exact k3,by rw [e3];exact k4,by rw [e3];exact k5,λi y hy=>?_⟩
   obtain ⟨es,g1,g2,g3⟩:=k6 i y hy
   exact ⟨es,g1,by rw [e2];exact g2,Cells.Fw (Ar _) (λ_ _ _=>rfl) (λb _ hb=>hb.imp id .inl) e es y g3⟩
theorem KP {r r':Option Real} (h:ae (r.map full) r') {e:Ty} {xs:List e.den} {te:TypeId} (ha:Nj w r' e te xs):Nj w r e te xs:=by
 cases r with
 |none=>cases r' with
  |none=>exact ha
  |some q=>exact h.elim
 |some p=>cases r' with
  |none=>exact h.elim
  |some q=>
   obtain ⟨e1,e2,e3,e4⟩:=h
   obtain ⟨k1,cur,ti,k2,k3,k4,k5,Fs,t1,t2,t3,t4⟩:=ha
   have e1:p.g=q.g:=e1
   have e2:p.o=q.o:=e2
   have e3:p.cap=q.cap:=e3
   exact ⟨by rw [e1];exact (e4 _).2 k1,cur,ti,by rw [e1];exact k2,by rw [e2,e3];exact k3,by rw [e3];exact k4,by rw [e3];exact k5,Fs,t1,by rw [e1];exact t2,λb hb=>(e4 b).2 (t3 b hb),by rw [e2];exact t4⟩
theorem Tm {st:St} {π0:Pi} {D:Nat->Prop} {w0:World} (h:Mm X w π st.heap) (dp: ∀l,X.fb l=(π0 l).map full): ∀(cs:List (Bool×CK)) (k:Nat) (x:Ins.den cs) (us:List Value) (o:IOs.den cs),cV w0 D π0 k cs x us->Oa st k cs=some o->
  Lw w (λb=>Un π b\/X.Sc b) π0 k cs o/\ ∀l∈Pd k cs,As st.heap l≠none
 | [],_,_,_,_,_,_=>⟨trivial,λl hl=>by cases hl⟩
 |_::_,_,_,[],_,h,_=>h.elim
 |(false,c)::r,k,x,u::us,o,hi,he=>Tm h dp r (k+1) x.2 us o hi.2 (by simpa only [Oa] using he)
 |(true, .Gb τ)::r,k,x,u::us,o,hi,he=>Tm h dp r (k+1) x.2 us o hi.2 (by simpa only [Oa] using he)
 |(true, .Bj e te kp)::r,k,x,u::us,o,hi,he=>Tm h dp r (k+1) x.2 us o hi.2 (by simpa only [Oa] using he)
 |(true, .row e te)::r,k,x,u::us,o,hi,he=>by
  simp only [Oa] at he
  split at he
  ·rename_i x1 x2 h1 h2
   simp only [Aa] at he;subst he
   obtain ⟨g1,g2⟩:=Tm h dp r (k+1) x.2 us x2 hi.2 h2
   have h0:=hi.1
   simp only [nv] at h1
   split at h1
   ·rename_i fr tr e' Qo xs hl
    split at h1
    ·rename_i hc
     obtain ⟨rfl,rfl⟩:=hc
     simp only [Aa] at h1;subst h1
     unfold St.at at hl
     have hs:=h.fb (Dt true k) (by have:=Zy k;omega) (by rw [hl];simp)
     rw [dp] at hs
     exact ⟨⟨zF (te:=Qo) hs ((h.heap _).Qq hl),g1⟩,λl Nt=>by
      simp only [Pd] at Nt
      rcases Ba.1 Nt with rfl|Nt
      ·rw [hl];simp
      ·exact g2 l Nt⟩
    ·cases h1
   ·cases h1
  ·cases he
 |(true, .part e te)::r,k,x,u::us,o,hi,he=>by
  simp only [Oa] at he
  split at he
  ·rename_i x1 x2 h1 h2
   simp only [Aa] at he;subst he
   obtain ⟨g1,g2⟩:=Tm h dp r (k+1) x.2 us x2 hi.2 h2
   have h0:=hi.1
   simp only [nv] at h1
   split at h1
   ·rename_i fr tr e' Qo xs hl
    split at h1
    ·rename_i hc
     obtain ⟨rfl,rfl⟩:=hc
     simp only [Aa] at h1;subst h1
     unfold St.at at hl
     have hs:=h.fb (Dt true k) (by have:=Zy k;omega) (by rw [hl];simp)
     rw [dp] at hs
     exact ⟨⟨zF (te:=Qo) hs ((h.heap _).Qq hl),g1⟩,λl Nt=>by
      simp only [Pd] at Nt
      rcases Ba.1 Nt with rfl|Nt
      ·rw [hl];simp
      ·exact g2 l Nt⟩
    ·cases h1
   ·cases h1
  ·cases he
 |(true, .Ha e te)::r,k,x,u::us,o,hi,he=>by
  simp only [Oa] at he
  split at he
  ·rename_i x1 x2 h1 h2
   simp only [Aa] at he;subst he
   obtain ⟨g1,g2⟩:=Tm h dp r (k+1) x.2 us x2 hi.2 h2
   simp only [nv] at h1
   split at h1
   ·rename_i e' Qo xs hl
    split at h1
    ·rename_i hc
     obtain ⟨rfl,rfl⟩:=hc
     simp only [Aa] at h1;subst h1
     unfold St.at at hl
     have hs:=h.fb (Dt true k) (by have:=Zy k;omega) (by rw [hl];simp)
     rw [dp] at hs
     exact ⟨⟨KP (te:=Qo) hs ((h.heap _).Qq hl),g1⟩,λl Nt=>by
      simp only [Pd] at Nt
      rcases Ba.1 Nt with rfl|Nt
      ·rw [hl];simp
      ·exact g2 l Nt⟩
    ·cases h1
   ·cases h1
  ·cases he
theorem se {p:Bool×CK} {r:List (Bool×CK)} (h:Yd (p::r)=true):Yd r=true:=by
 rcases p with ⟨_|_,c⟩<;>cases c<;>first|(simp [Yd] at h;done)|simpa [Yd] using h
theorem tP: ∀(cs:List (Bool×CK)) (k:Nat) (x:Ins.den cs) (l:Nat),Yd cs=true->k+cs.length<100000->As (Xz k cs x) l≠none-> ¬l<Be->l∈Pd k cs
 | [],_,_,_,_,_,h,_=>absurd rfl h
 |(io,c)::r,k,x,l,hng,hk,h,hp=>by
  simp only [Bg] at hk
  simp only [Xz] at h
  have tail:As (Xz (k+1) r x.2) l≠none->l∈Pd (k+1) r:= λh=>tP r (k+1) x.2 l (se hng) (by omega) h hp
  have sub: ∀m,m∈Pd (k+1) r->m∈Pd k ((io,c)::r):= λm hm=>by
   cases io<;>cases c<;>simp only [Pd]<;>first|exact hm|exact Am _ hm
  cases hc:iu (Dt io k) c x.1 with
  |none=>rw [hc] at h;exact sub l (tail h)
  |some b=>
   rw [hc] at h
   simp only [fy,As] at h
   split at h
   ·rename_i e;subst e
    cases io with
    |false=>exact absurd (dH (by omega)) hp
    |true=>cases c with
     |Gb τ=>cases hc
     |row e te=>simp [Pd]
     |Ha e te=>simp [Pd]
     |part e te=>simp [Pd]
     |Bj e te kp=>simp [Yd] at hng
   ·exact sub l (tail h)
theorem cU.Ig {D D':Nat->Prop} (hD: ∀b,D' b->D b) {r:Option Real} {u:Value} {c:CK} {x:c.den} (h:cU w D r u c x):cU w D' r u c x:=by
 cases c with
 |Gb τ=>exact ⟨h.1,h.2.Ig λb _ hb=>hD b hb⟩
 |row e te=>exact ⟨h.1,Rw.Ig h.2 hD⟩
 |Ha e te=>exact h
 |part e te=>exact ⟨h.1,h.2.1,Rw.Ig h.2.2 hD⟩
 |Bj e te kp=>exact ⟨h.1,Yx.Ig h.2 hD⟩
theorem Ip.Ig {D D':Nat->Prop} (hD: ∀b,D' b->D b) {ρ:Pi} : ∀(cs:List CK) (k:Nat) (x:CKs.den cs) (us:List Value),Ip w D ρ k cs x us->Ip w D' ρ k cs x us
 | [],_,_,[],h=>h
 | [],_,_,_::_,h=>h.elim
 |_::_,_,_,[],h=>h.elim
 |_c::r,k,x,_u::us,h=>⟨h.1.Ig hD,Ip.Ig hD r (k+1) x.2 us h.2⟩
theorem Lw.Ig {D D':Nat->Prop} (hD: ∀b,D' b->D b) {π:Pi} : ∀(cs:List (Bool×CK)) (k:Nat) (x:IOs.den cs),Lw w D π k cs x->Lw w D' π k cs x
 | [],_,_,h=>h
 |(false,_)::r,k,x,h=>Lw.Ig hD r (k+1) x h
 |(true, .Gb _)::r,k,x,h=>Lw.Ig hD r (k+1) x h
 |(true, .Bj _ _ _)::r,k,x,h=>Lw.Ig hD r (k+1) x h
 |(true, .row _e _te)::r,k,x,h=>⟨Rw.Ig h.1 hD,Lw.Ig hD r (k+1) x.2 h.2⟩
 |(true, .Ha _e _te)::r,k,x,h=>⟨h.1,Lw.Ig hD r (k+1) x.2 h.2⟩
 |(true, .part _e _te)::r,k,x,h=>⟨Rw.Ig h.1 hD,Lw.Ig hD r (k+1) x.2 h.2⟩
theorem cV.congr {D:Nat->Prop} {π0 aV:Pi} : ∀(cs:List (Bool×CK)) (k:Nat) (x:Ins.den cs) (us:List Value),(∀b j,k<=j->j<k+cs.length->aV (Dt b j)=π0 (Dt b j))->cV w D π0 k cs x us->cV w D aV k cs x us
 | [],_,_,[],_,h=>h
 | [],_,_,_::_,_,h=>h
 |_::_,_,_,[],_,h=>h
 |p::r,k,x,u::us,hp,h=>⟨by rw [hp p.1 k (Ar _) (by simp)];exact h.1,cV.congr r (k+1) x.2 us (λb j h1 h2=>hp b j (by omega) (by simp;omega)) h.2⟩
theorem Lw.congr {D:Nat->Prop} {π0 aV:Pi} : ∀(cs:List (Bool×CK)) (k:Nat) (x:IOs.den cs),(∀b j,k<=j->j<k+cs.length->aV (Dt b j)=π0 (Dt b j))->Lw w D π0 k cs x->Lw w D aV k cs x
 | [],_,_,_,h=>h
 |(false,c)::r,k,x,hp,h=>by cases c<;>exact Lw.congr r (k+1) x (λb j h1 h2=>hp b j (by omega) (by simp;omega)) h
 |(true, .Gb _)::r,k,x,hp,h=>Lw.congr r (k+1) x (λb j h1 h2=>hp b j (by omega) (by simp;omega)) h
 |(true, .Bj _ _ _)::r,k,x,hp,h=>Lw.congr r (k+1) x (λb j h1 h2=>hp b j (by omega) (by simp;omega)) h
 |(true, .row e te)::r,k,x,hp,h=>⟨by rw [hp true k (Ar _) (by simp)];exact h.1,Lw.congr r (k+1) x.2 (λb j h1 h2=>hp b j (by omega) (by simp;omega)) h.2⟩
 |(true, .Ha e te)::r,k,x,hp,h=>⟨by rw [hp true k (Ar _) (by simp)];exact h.1,Lw.congr r (k+1) x.2 (λb j h1 h2=>hp b j (by omega) (by simp;omega)) h.2⟩
 |(true, .part e te)::r,k,x,hp,h=>⟨by rw [hp true k (Ar _) (by simp)];exact h.1,Lw.congr r (k+1) x.2 (λb j h1 h2=>hp b j (by omega) (by simp;omega)) h.2⟩
theorem Ei.congr {π0 aV:Pi} : ∀(cs:List (Bool×CK)) (k:Nat) (o:IOs.den cs) (n:Nat) (us as:List Value),(∀b j,k<=j->j<k+cs.length->aV (Dt b j)=π0 (Dt b j))->Ei π0 k cs o n us as->Ei aV k cs o n us as
 | [],k,o,0,us,as,_,h=>by simpa [Ei] using h
 | [],k,o,n+1,us,as,_,h=>by simp [Ei] at h
 |p::r,k,o,0,us,as,_,h=>by
  rcases p with ⟨_|_,c⟩<;>cases c<;>simpa [Ei] using h
 |(true, .Gb _)::r,k,o,n+1,us,as,_,h=>by simp [Ei] at h
 |(true, .part _ _)::r,k,o,n+1,us,as,_,h=>by simp [Ei] at h
 |(true, .Bj _ _ _)::r,k,o,n+1,us,as,_,h=>by simp [Ei] at h
 |(true, .row e te)::r,k,o,n+1,[],as,_,h=>by simp [Ei] at h
 |(true, .Ha e te)::r,k,o,n+1,[],as,_,h=>by simp [Ei] at h
 |(true, .row e te)::r,k,o,n+1,u::us,as,hp,h=>by
  simp only [Ei] at h⊢
  exact ⟨by rw [hp true k (Ar _) (by simp)];exact h.1,Ei.congr r (k+1) o.2 n us as (λb j h1 h2=>hp b j (by omega) (by simp;omega)) h.2⟩
 |(true, .Ha e te)::r,k,o,n+1,u::us,as,hp,h=>by
  simp only [Ei] at h⊢
  exact ⟨by rw [hp true k (Ar _) (by simp)];exact h.1,Ei.congr r (k+1) o.2 n us as (λb j h1 h2=>hp b j (by omega) (by simp;omega)) h.2⟩
 |(false,c)::r,k,o,n+1,[],as,_,h=>by cases c<;>simp [Ei] at h
 |(false,c)::r,k,o,n+1,u::us,[],_,h=>by cases c<;>simp [Ei] at h
 |(false,c)::r,k,o,n+1,u::us,a::as,hp,h=>by
  have h:u=a/\Ei π0 (k+1) r o n us as:=by cases c<;>exact h
  have:=Ei.congr r (k+1) o n us as (λb j h1 h2=>hp b j (by omega) (by simp;omega)) h.2
  cases c<;>exact ⟨h.1,this⟩
theorem nI: ∀(A B:List (Nat×OB)) (l:Nat),As (A++B) l=match As A l with|some b=>some b|none=>As B l
 | [],B,l=>rfl
 |(k,b)::A,B,l=>by
  simp only [Ly,As]
  split
  ·rfl
  ·exact nI A B l
theorem qy {st:St} : ∀(cs:List CK) (as:List AC) (x:CKs.den cs) (ls:List Nat),Uc st cs as=some (x,ls)-> ∀l∈ls,∃b,As st.heap l=some b/\b.row≠none
 | [],[],x,ls,he=>by
  simp only [Uc,Aa,Ad] at he
  obtain ⟨_,rfl⟩:=he
  intro l hl;cases hl
 | [],_::_,_,_,he=>by simp [Uc] at he
 |_::_,[],_,_,he=>by simp [Uc] at he
 |c::r,a::as,x,ls,he=>by
  simp only [Uc] at he
  split at he
  ·rename_i x1 t1 x2 t2 h1 h2
   simp only [Aa,Ad] at he
   obtain ⟨_,rfl⟩:=he
   intro l hl
   rcases Az.1 hl with hl|hl
   ·unfold iy at h1
    split at h1
    ·split at h1
     ·cases hv:Dm st _ a with
      |none=>rw [hv] at h1;cases h1
      |some p=>rw [hv] at h1;simp only [Ah,Aa,Ad] at h1;obtain ⟨_,rfl⟩:=h1;cases hl
     ·cases h1
    all_goals (repeat' split at h1)
    all_goals first|(cases h1;done)|skip
    all_goals (simp only [Aa,Ad] at h1;obtain ⟨_,rfl⟩:=h1)
    all_goals first|(cases hl;done)|skip
    all_goals (have hl:=Ae.1 hl;subst hl)
    all_goals (rename_i heq _;exact ⟨_,heq,by simp [OB.row]⟩)
   ·exact qy r as x2 t2 h2 l hl
  ·cases he
theorem nP {r r':Option Real} {sz off len:Nat} {v:Value} (h:ae r r') (hv:Hf r' sz off len v):Hf r sz off len v:=by
 cases r<;>cases r'<;>first|exact h.elim|skip
 ·exact hv
 ·obtain ⟨h1,h2,h3,_⟩:=h
  obtain ⟨ad,g1,g2,g3⟩:=hv
  exact ⟨ad,by rw [h3];exact g1,by rw [h3];exact g2,by rw [h1,h2,h3];exact g3⟩
theorem Xk {st:St} {π0:Pi} (hs: ∀k,As st.heap (Dt true k)≠none->ae ((π0 (Dt true k)).map full) (π (Dt true k))):
  ∀(cs:List (Bool×CK)) (k:Nat) (vs:List AC) (us:List Value) (bc:List AC) (o:IOs.den cs),Mn X w π st.heap vs us->Ir k cs vs=some bc->fZ st vs cs->Oa st k cs=some o->
   ∃bv,Mn X w π st.heap bc bv/\bv.length=qK cs vs.length/\ ∀tl,Ei π0 k cs o vs.length us (bv++tl)
 |cs,k,[],us,bc,o,hr,he,_,_=>by
  have e1:us= []:=by cases us with|nil=>rfl|cons u us=>exact hr.elim
  have e2:bc= []:=by rcases cs with _|⟨⟨_|_,c⟩,r⟩<;>simpa [Ir] using he.symm
  subst e1;subst e2
  refine ⟨[],trivial,?_,λtl=>?_⟩
  ·rcases cs with _|⟨⟨_|_,c⟩,r⟩<;>rfl
  ·rcases cs with _|⟨⟨_|_,c⟩,r⟩<;>(try cases c)<;>simp [Ei]
 | [],k,a::vs,us,bc,o,hr,he,_,_=>by simp [Ir] at he
 |p::r,k,a::vs,[],bc,o,hr,_,_,_=>hr.elim
 |(false,c)::r,k,a::vs,u::us,bc,o,hr,he,hk,ho=>by
  have he:(Ir (k+1) r vs).map (λl=>a::l)=some bc:=by cases a<;>exact he
  cases hb:Ir (k+1) r vs with
  |none=>rw [hb] at he;cases he
  |some bc'=>
   rw [hb] at he
   simp only [Ah,Aa] at he;subst he
   obtain ⟨bv,g1,g2,g3⟩:=Xk hs r (k+1) vs us bc' o hr.2 hb (by cases a<;>exact hk) (by cases c<;>simpa only [Oa] using ho)
   refine ⟨u::bv,⟨hr.1,g1⟩,by simp [qK,g2],λtl=>?_⟩
   have:=g3 tl
   cases c<;>exact ⟨rfl,this⟩
 |(true,c)::r,k,a::vs,u::us,bc,o,hr,he,hk,ho=>by
  cases c with
  |Gb τ=>cases a<;>simp [Ir] at he
  |part e te=>cases a<;>simp [Ir] at he
  |Bj e te kp=>cases a<;>simp [Ir] at he
  |row e te=>
   cases a<;>first|(simp [Ir] at he;done)|skip
   rename_i l off len
   simp only [Ir] at he
   split at he
   rotate_left
   ·cases he
   rename_i hl
   have hl:l=Dt true k:=Ja hl
   subst hl
   obtain ⟨⟨rfl,hlen⟩,hk⟩:=hk
   obtain ⟨b,sz,n,h1,h2,h3,h4⟩:=hr.1
   have OX:=hs k (by rw [h1];simp)
   simp only [Oa] at ho
   split at ho
   ·rename_i x1 x2 q1 q2
    simp only [Aa] at ho;subst ho
    obtain ⟨bv,g1,g2,g3⟩:=Xk hs r (k+1) vs us bc x2 hr.2 he hk q2
    refine ⟨bv,g1,by simpa [qK] using g2,λtl=>?_⟩
    refine ⟨?_,g3 tl⟩
    simp only [nv] at q1
    split at q1
    ·rename_i fr tr e' Qo xs Nt
     split at q1
     ·rename_i hc
      obtain ⟨rfl,rfl⟩:=hc
      simp only [Aa] at q1;subst q1
      unfold St.at at Nt hlen
      rw [Nt] at hlen
      rw [h1] at Nt;cases Nt
      simp only [OB.row,Aa,Ad] at h2
      obtain ⟨rfl,rfl⟩:=h2
      have hlen:len=List.length xs:=hlen
      have:=nP OX h4
      rw [hlen] at this
      have e0:(π0 (Dt true k)).map full=(π0 (Dt true k)).map full:=rfl
      cases hp:π0 (Dt true k)<;>(rw [hp] at this;exact this)
     ·cases q1
    ·cases q1
   ·cases ho
  |Ha e te=>
   cases a<;>first|(simp [Ir] at he;done)|skip
   rename_i l off len
   simp only [Ir] at he
   split at he
   rotate_left
   ·cases he
   rename_i hl
   have hl:l=Dt true k:=Ja hl
   subst hl
   obtain ⟨⟨rfl,hlen⟩,hk⟩:=hk
   obtain ⟨b,sz,n,h1,h2,h3,h4⟩:=hr.1
   have OX:=hs k (by rw [h1];simp)
   simp only [Oa] at ho
   split at ho
   ·rename_i x1 x2 q1 q2
    simp only [Aa] at ho;subst ho
    obtain ⟨bv,g1,g2,g3⟩:=Xk hs r (k+1) vs us bc x2 hr.2 he hk q2
    refine ⟨bv,g1,by simpa [qK] using g2,λtl=>?_⟩
    refine ⟨?_,g3 tl⟩
    simp only [nv] at q1
    split at q1
    ·rename_i e' Qo xs Nt
     split at q1
     ·rename_i hc
      obtain ⟨rfl,rfl⟩:=hc
      simp only [Aa] at q1;subst q1
      unfold St.at at Nt hlen
      rw [Nt] at hlen
      rw [h1] at Nt;cases Nt
      simp only [OB.row,Aa,Ad] at h2
      obtain ⟨rfl,rfl⟩:=h2
      have hlen:len=List.length xs:=hlen
      have:=nP OX h4
      rw [hlen] at this
      cases hp:π0 (Dt true k)<;>(rw [hp] at this;exact this)
     ·cases q1
    ·cases q1
   ·cases ho
def Afh (s:MSpec) (g:Nat) (π:Pi):Pi:= λl=>if s.ptr.isSome=true/\l=On then some ⟨g,0,0,λb=>b=g,λb=>b=g⟩ else π l
def Ac5 (P:Program) (s:MSpec) (fn:Func) (x:Ins.den s.ins) (w:World) (S:Nat->Prop) (π:Pi) (g:Nat) (r:CKs.den s.outs) (o:IOs.den s.ins) (a':Act) (w':World):Prop:=
 ∃(v:Value) (Vw:List Value) (ρ:Pi),a'.defers= []/\(results fn a'.tmps).run P w'= .ok v w'/\pb s w' ρ (Vw.drop s.Zd) v/\jo s π w' g Vw o/\Kl w.heap.size (λb=>Un π b\/s.gv g b) w w'/\Lw w' (ir S π ρ) π 0 s.ins o/\Ip w' (ir S π ρ) ρ 0 s.outs r Vw/\
  fi ρ (λb=>b<w'.heap.size/\(w.heap.size<=b\/ ∃l q,l<Be/\π l=some q/\q.Cm b))/\(∀l,(∀k,k<s.Tp->l≠Jq k)->ρ l=none)/\(∀kj∈s.keeps,xM w w' (π (Dt false kj.1)) (ρ (Jq kj.2)) (s.Fw x))
theorem Ip.NM {D:Nat->Prop} {ρ ρ':Pi} : ∀(cs:List CK) (k:Nat) (x:CKs.den cs) (us:List Value),(∀j,k<=j->j<k+cs.length->ρ' (Jq j)=ρ (Jq j))->Ip w D ρ k cs x us->Ip w D ρ' k cs x us
 | [],_,_,[],_,h=>h
 | [],_,_,_::_,_,h=>h.elim
 |_::_,_,_,[],_,h=>h.elim
 |c::r,k,x,u::us,he,h=>⟨by rw [he k (Ar _) (by simp)];exact h.1,Ip.NM r (k+1) x.2 us (λj hj hl=>he j (by omega) (by simp;omega)) h.2⟩
theorem tU {st:St} {n:Nat} {as:List AC} : ∀ {ks:List (Nat×Nat)},tT st n as ks-> ∀kj∈ks,∃l off len e te rows out p,as[kj.2]?=some (.own l off len)/\As st.heap l=some (.Bj e te rows out (some p))/\p.1=Dt false kj.1/\n<=p.2/\kj.1<1000
 | [],_,kj,hm=>by cases hm
 |(k,j)::r,h,kj,hm=>by
  simp only [tT] at h
  rcases Ba.1 hm with rfl|hm
  ·obtain ⟨h,_⟩:=h
   split at h
   ·rename_i l off len he
    split at h
    ·rename_i e te rows out p hl
     unfold St.at at hl
     exact ⟨l,off,len,e,te,rows,out,p,he,hl,h.1,h.2.1,by simpa using h.2.2⟩
    ·exact h.elim
   ·exact h.elim
  ·exact tU h.2 kj hm
theorem u6 {st:St} : ∀(cs:List CK) (as:List AC) (x:CKs.den cs) (ls:List Nat),Uc st cs as=some (x,ls)->as.length=cs.length
 | [],[],_,_,_=>rfl
 | [],_::_,_,_,he=>by simp [Uc] at he
 |_::_,[],_,_,he=>by simp [Uc] at he
 |c::r,a::as,x,ls,he=>by
  simp only [Uc] at he
  split at he
  ·rename_i h1 h2
   simp only [Bg,u6 r as _ _ h2]
  ·cases he
theorem zD {α β:Type} (f:α->Sem β): ∀(l:List α) (vs:List β),vs.length=l.length->(∀(i:Nat) a v,l[i]?=some a->vs[i]?=some v->(f a).run P w= .ok v w)->(l.mapM f).run P w= .ok vs w
 | [],[],_,_=>by simp
 | [],_::_,h,_=>by simp at h
 |_::_,[],h,_=>by simp at h
 |a::l,v::vs,h,hr=>by
  rw [List.mapM_cons]
  simp only [Sem.run_bind,hr 0 a v rfl rfl,Result.andThen_ok,zD f l vs (by simpa using h) (λi a' v' ha hv=>hr (i+1) a' v' (by simpa using ha) (by simpa using hv)),Sem.run_pure]
theorem rS (hT:Du P T) (Of:Ju P Γ) (hm:P.follows .mixedOrders=true) {f:FuncId} {fn:Func} (hf:P.funcs[f]?=some fn) (s:MSpec) (w:World) (S:Nat->Prop) (π:Pi) (us:List Value) (x:Ins.den s.ins)
  (r:CKs.den s.outs) (o:IOs.den s.ins) (g:Nat) (ky:List Value) (Qk:mb s w g us ky) (hSg:s.ptr.isSome=true->S g) (tF:cV w (λb=>Un π b\/S b) π 0 s.ins x us) (eS:fi π (λb=>b<w.heap.size)) (hS: ∀b,S b->b<w.heap.size/\ ¬Un π b) (OD: ∀l,As (Xz 0 s.ins x) l=none->π l=none) (he:WA T Γ s fn x λz=>z=(r,o)):
  Calls P f ky.toArray w λe w'=> ∃v Vw ρ,e= .returned v/\pb s w' ρ (Vw.drop s.Zd) v/\jo s π w' g Vw o/\Kl w.heap.size (λb=>Un π b\/s.gv g b) w w'/\Lw w' (ir S π ρ) π 0 s.ins o/\Ip w' (ir S π ρ) ρ 0 s.outs r Vw/\
   fi ρ (λb=>b<w'.heap.size/\(w.heap.size<=b\/ ∃l q,l<Be/\π l=some q/\q.Cm b))/\(∀l,(∀k,k<s.Tp->l≠Jq k)->ρ l=none)/\(∀kj∈s.keeps,xM w w' (π (Dt false kj.1)) (ρ (Jq kj.2)) (s.Fw x)):=by
 obtain ⟨hlen,c,hb,he⟩:=he
 simp only [Ag,Ms] at hlen
 obtain ⟨hlen,OF⟩:=hlen
 unfold wB at OF
 simp only [Ag] at OF
 have Adi:=OF.1
 let oc:Pi:=Afh s g π
 let Sg:Nat->Prop:= λb=>S b/\ ¬s.gv g b
 have hvl: ∀b j,j<1000->Dt b j≠On:= λb j hj=>by cases b<;>(unfold Dt On;simp;omega)
 have vG: ∀b j,0<=j->j<0+s.ins.length->oc (Dt b j)=π (Dt b j):= λb j _ hj=>Ai λh=>hvl b j (by omega) h.2
 have XD: ∀b j,0<=j->j<0+s.ins.length->π (Dt b j)=oc (Dt b j):= λb j h1 h2=>(vG b j h1 h2).symm
 have Aa1:As (Xz 0 s.ins x) On=none:=Cd λhn=>by
  obtain ⟨b,j,_,h2,h3⟩:=q6 s.ins 0 x On hn
  exact hvl b j (by omega) h3.symm
 have LP: ∀l q,oc l=some q->(π l=some q/\(s.ptr.isSome=true->l≠On))\/(s.ptr.isSome=true/\l=On/\q=⟨g,0,0,λb=>b=g,λb=>b=g⟩):= λl q hq=>by
  have hq:(if s.ptr.isSome=true/\l=On then some ⟨g,0,0,λb=>b=g,λb=>b=g⟩ else π l)=some q:=hq
  split at hq
  ·rename_i hc;exact .inr ⟨hc.1,hc.2,(Aw hq).symm⟩
  ·rename_i hc;exact .inl ⟨hq,λh1 h2=>hc ⟨h1,h2⟩⟩
 have cw: ∀b,Un oc b↔Un π b\/s.gv g b:= λb=>by
  constructor
  ·rintro ⟨l,q,h1,h2⟩
   rcases LP l q h1 with ⟨h3,_⟩|⟨h3,h4,rfl⟩
   ·exact .inl ⟨l,q,h3,h2⟩
   ·exact .inr ⟨h3,h2⟩
  ·rintro (⟨l,q,h1,h2⟩|⟨h1,rfl⟩)
   ·refine ⟨l,q,?_,h2⟩
    show (if s.ptr.isSome=true/\l=On then _ else π l)=some q
    rw [Ai]
    ·exact h1
    ·rintro ⟨_,rfl⟩
     rw [OD On Aa1] at h1;cases h1
   ·exact ⟨On,⟨b,0,0,λc=>c=b,λc=>c=b⟩,Ab ⟨h1,rfl⟩,rfl⟩
 have hgS: ∀b,s.gv g b->S b:= λb ⟨h1,h2⟩=>h2▸hSg h1
 have ZH:cV w (λb=>Un oc b\/Sg b) oc 0 s.ins x us:=cV.congr s.ins 0 x us vG (cV.Ig (λb hb=>by
  rcases hb with hb|hb
  ·rcases (cw b).1 hb with hb|hb
   ·exact .inl hb
   ·exact .inr (hgS b hb)
  ·exact .inr hb.1) s.ins 0 x us tF)
 have Adn:fi oc (λb=>b<w.heap.size):=⟨λl q b h1 h2=>by
  rcases LP l q h1 with ⟨h3,_⟩|⟨h3,h4,rfl⟩
  ·exact eS.Zg l q b h3 h2
  ·exact (hS b (hgS b ⟨h3,h2⟩)).1,λl l' q q' b h1 h2 h3 h4=>by
  rcases LP l q h1 with ⟨h5,_⟩|⟨h5,h6,rfl⟩<;>rcases LP l' q' h2 with ⟨h7,_⟩|⟨h7,h8,rfl⟩
  ·exact eS.inj l l' q q' b h5 h7 h3 h4
  ·exact absurd ⟨l,q,h5,h3⟩ (hS b (hgS b ⟨h7,h4⟩)).2
  ·exact absurd ⟨l',q',h7,h4⟩ (hS b (hgS b ⟨h5,h3⟩)).2
  ·rw [h6,h8]⟩
 have Ahp: ∀b,Sg b->b<w.heap.size/\ ¬Un oc b:= λb hb=>⟨(hS b hb.1).1,λho=>((cw b).1 ho).elim (hS b hb.1).2 hb.2⟩
 have GP: ∀l,As (nJ s x) l=match As (Xz 0 s.ins x) l with|some b=>some b|none=>if l=On then s.ptr.map λp=> .var p.1 ((aA 0 s.ins x).take p.2) else none:= λl=>by
  unfold nJ
  cases hp:s.ptr with
  |none=>cases As (Xz 0 s.ins x) l<;>simp
  |some p=>
   simp only
   rw [nI]
   cases As (Xz 0 s.ins x) l with
   |some b=>rfl
   |none=>
    simp only [As,Ah]
    by_cases e:l=On
    ·rw [Ab e,Ab e.symm]
    ·rw [Ai e,Ai (λh=>e h.symm)]
 let π0:Pi:= λl=>(oc l).map full
 have un: ∀l q,π0 l=some q-> ∃q0,oc l=some q0/\q=full q0:= λl q hq=>by
  have hq:(oc l).map full=some q:=hq
  cases hp:oc l with
  |none=>rw [hp] at hq;cases hq
  |some q0=>rw [hp] at hq;exact ⟨q0,rfl,(Aw hq).symm⟩
 have OI: ∀l b,As (Xz 0 s.ins x) l=some b->As (nJ s x) l=some b:= λl b hb=>by rw [GP l,hb]
 have ZV:Mn ⟨w,Sg,Un oc,π0⟩ w π0 (nJ s x) (aA 0 s.ins x) us:=yH (λ_=>rfl) s.ins 0 x us (by omega) ZH OI
 have PB:s.ptr.isSome=true->π0 On=some ⟨g,0,0,λb=>b=g,λb=>b=g⟩:= λhp=>by
  show (if s.ptr.isSome=true/\On=On then _ else π On).map full=_
  rw [Ab ⟨hp,rfl⟩];rfl
 obtain ⟨g1,g2⟩:(Za s (aA 0 s.ins x)).length=ky.length/\ ∀(i:Nat) c v,(Za s (aA 0 s.ins x))[i]?=some c->ky[i]?=some v->Bf ⟨w,Sg,Un oc,π0⟩ w π0 (nJ s x) c v:=by
  unfold mb at Qk
  cases hp:s.ptr with
  |none=>
   rw [hp] at Qk
   obtain ⟨rfl,MP⟩:=Qk
   obtain ⟨g1,g2,_,_⟩:=cr s.Ke _ us MP ZV
   rw [show Za s (aA 0 s.ins x)=Sa s.Ke (aA 0 s.ins x) by unfold Za;rw [hp]]
   exact ⟨g1,g2⟩
  |some p=>
   rw [hp] at Qk
   obtain ⟨rfl,MP,_⟩:=Qk
   obtain ⟨g1,g2,_,_⟩:=cr s.Ke _ (us.drop p.2) MP (Mn.take p.2 ZV).2
   rw [show Za s (aA 0 s.ins x)= .at (.Gr On 0)::Sa s.Ke ((aA 0 s.ins x).drop p.2) by unfold Za;rw [hp]]
   refine ⟨by simp [g1],λi c v h1 h2=>?_⟩
   rcases i with _|i
   ·simp only [Bl,Aa] at h1 h2
    subst h1;subst h2
    exact ⟨_,p.1,(aA 0 s.ins x).take p.2,by rw [GP,Aa1];simp [hp],PB (by rw [hp];rfl),rfl⟩
   ·exact g2 i c v (by simpa using h1) (by simpa using h2)
 have h0:Rel ⟨w,Sg,Un oc,π0⟩ {tmps:=Za s (aA 0 s.ins x)++List.replicate (fn.ntmps-(Za s (aA 0 s.ins x)).length) .undef,heap:=nJ s x}
   {tmps:=ky.toArray++Array.replicate (fn.ntmps-ky.toArray.size) undef,defers:= []} w:=by
  refine ⟨π0,⟨Kl.refl _ _ _,λb hb=>Ahp b hb,λl q b h1 h2=>?_,λl q b h1 h2=>?_,λl l' q q' b h1 h2 h3 h4=>?_,λl _ _=>ae.rfl' _,λl=>?_⟩,⟨by simp [g1],rfl,λt=>?_⟩⟩
  ·obtain ⟨q0,_,rfl⟩:=un l q h1;exact h2
  ·obtain ⟨q0,h3,rfl⟩:=un l q h1
   exact ⟨.inr ⟨l,q0,h3,h2⟩,Adn.Zg l q0 b h3 h2⟩
  ·obtain ⟨q0,h5,rfl⟩:=un l q h1
   obtain ⟨q0',h6,rfl⟩:=un l' q' h2
   exact Adn.inj l l' q0 q0' b h5 h6 h3 h4
  ·cases hh:As (Xz 0 s.ins x) l with
   |none=>
    by_cases hv:s.ptr.isSome=true/\l=On
    ·obtain ⟨IZ,rfl⟩:=hv
     obtain ⟨p,hp⟩:=Option.isSome_iff_exists.1 IZ
     refine Fl.Lg (b:= .var p.1 ((aA 0 s.ins x).take p.2)) ?_ (by rw [GP,hh];simp [hp])
     unfold mb at Qk
     rw [hp] at Qk
     obtain ⟨_,_,h1,h2,h3⟩:=Qk
     rw [PB IZ]
     exact ⟨_,rfl,rfl,_,h2,Mn.to (Mn.take p.2 ZV).1 h3⟩
    ·refine Fl.Tg ?_ ?_
     ·show (if s.ptr.isSome=true/\l=On then _ else π l).map full=none
      rw [Ai hv,OD l hh];rfl
     ·rw [GP,hh]
      simp only
      split
      ·rename_i e
       cases hp:s.ptr with
       |none=>rfl
       |some p=>exact absurd ⟨by rw [hp];rfl,e⟩ hv
      ·rfl
   |some b=>exact Fl.Lg (jK (π0:=oc) (λb hb=>by
    rcases hb with ⟨l,q,h1,h2⟩|hb|⟨hb,_⟩
    ·obtain ⟨q0,h3,rfl⟩:=un l q h1;exact .inl ⟨l,q0,h3,h2⟩
    ·exact .inr hb
    ·cases hb) rfl (λ_=>rfl) s.ins 0 x us ZH l b hh) (OI l b hh)
  ·show Bf _ w _ _ ((Za s (aA 0 s.ins x)++List.replicate _ AV.undef).getD t .undef) ((ky.toArray++Array.replicate _ undef).getD t undef)
   by_cases ht:t<ky.length
   ·rw [Al,Aq (by omega),<-Al]
    rw [aX,Sj (by simpa using ht)]
    have:=g2 t _ _ (Ac (by omega)) (Ac ht)
    simpa [Al,Ac ht,Ac (show t<(Za s (aA 0 s.ins x)).length by omega)] using this
   ·have:(Za s (aA 0 s.ins x)++List.replicate (fn.ntmps-(Za s (aA 0 s.ins x)).length) AV.undef).getD t .undef= .undef:=by
     rw [Al,Ao (by omega)]
     rw [List.getElem?_replicate]
     split<;>rfl
    rw [this];trivial
 have fin: ∀(st:St) (a':Act) (w':World),MU T s fn x st (λz=>z=(r,o))->Rel ⟨w,Sg,Un oc,π0⟩ st a' w'->Ac5 P s fn x w S π g r o a' w':=by
  intro st a' w' oA hrel
  obtain ⟨aV,h'⟩:=hrel
  have XI:Be<=On:=by unfold Be On;omega
  obtain ⟨bc,nH,Ajj,hbc⟩: ∃bc,ic T s fn x st bc (λz=>z=(r,o))/\(s.ptr.isSome=true-> ∃b,As st.heap On=some b/\b.row=none)/\
    (Oa st 0 s.ins=some o-> ∃bv,Mn ⟨w,Sg,Un oc,π0⟩ w' aV st.heap bc bv/\bv.length=s.Zd/\ ∀tl,jo s π w' g (bv++tl) o):=by
   unfold MU at oA
   cases hp:s.ptr with
   |none=>
    rw [hp] at oA
    exact ⟨[],oA,λh=>by simp at h,λ_=>⟨[],trivial,by simp [MSpec.Zd,hp],λtl=>by simp [jo,hp]⟩⟩
   |some p=>
    rw [hp] at oA
    obtain ⟨vs,cs,h1,h2,h3,h4,h5⟩:=oA
    unfold St.at at h1
    refine ⟨cs,h5,λ_=>⟨_,h1,rfl⟩,λvE=>?_⟩
    obtain ⟨q,k1,k2,cur,k3,k4⟩:=(h'.1.heap On).Qq h1
    have hsv:ae (π0 On) (aV On):=h'.1.fb On XI (by rw [h1];simp)
    rw [PB (by rw [hp];rfl),k1] at hsv
    have hqg:g=q.g:=hsv.1
    obtain ⟨bv,g1,g2,g3⟩:=Xk (π0:=oc) (λk hk=>h'.1.fb _ (Nat.le_of_not_lt (Zy k)) hk) s.ins 0 vs cur.toList cs o (Mn.of k4) h3 h4 vE
    refine ⟨bv,g1,by rw [g2,h2];simp [MSpec.Zd,hp],λtl=>?_⟩
    unfold jo
    rw [hp]
    refine ⟨cur.toList,by rw [hqg];simpa using k3,λu hu=>?_,Ei.congr s.ins 0 o p.2 _ _ XD (h2▸g3 tl)⟩
    obtain ⟨i,hi,rfl⟩:=Bd.1 hu
    have hl:=k4.1
    obtain ⟨u',h6,h7,_⟩:=k4.2 i (vs[i]'(by omega)) (Ac _)
    rw [Ac hi] at h6
    rw [Aw h6];exact h7
  unfold ic at nH
  split at nH
  ·exact nH.elim
  rename_i l hl
  split at nH
  ·exact nH.elim
  rename_i as ml eT
  split at nH
  rotate_left
  ·exact nH.elim
  rename_i r' ls o' CL nG
  obtain ⟨Jg,tG,hro⟩:=nH
  simp only [Ag,Ms] at Jg
  obtain ⟨⟨⟨rZ,Anj⟩,Ale⟩,Adb⟩:=Jg
  simp only [Ad] at hro
  obtain ⟨rfl,rfl⟩:=hro
  obtain ⟨bv,hbv,Ai0,Ahx⟩:=hbc nG
  have CI:=Wt rZ
  obtain ⟨n1,n2,n3⟩:=Dp.1 CI
  obtain ⟨m1,m2,m3⟩:=Dp.1 n1
  obtain ⟨vs,v1,v2,v3,v4⟩:=Wv hT h' _ _ hl
  have UR:fn.results=fn.results.toList.toArray:=Array.toArray_toList.symm
  have Qy: ∀v,(if h:vs.toArray.size=1 then vs.toArray[0] else .tuple vs.toArray)=v->(results fn a'.tmps).run P w'= .ok v w':=by
   intro v hv
   rw [dG,UR,List.mapM_toArray]
   simp only [map_eq_pure_bind,bind_assoc,pure_bind]
   simp only [Sem.run_bind,zD (EH a'.tmps) _ vs v1 v3,Result.andThen_ok,Sem.run_pure]
   rw [hv]
  obtain ⟨sN,v,qm,Ajh,hv,OV⟩: ∃sN v qm,Mn ⟨w,Sg,Un oc,π0⟩ w' aV st.heap as sN/\(results fn a'.tmps).run P w'= .ok v w'/\
    ((s.rp=none/\ml= []/\qm=none/\RC s.Hc s.Iw sN v/\bx s.Iw sN)\/
     ∃tid m q,s.rp=some tid/\ml= [m]/\m<Be/\qm=some q/\aV m=some q/\q.Cm q.g/\w'.heap[q.g]?=some (.cells sN.toArray tid (0,0))/\(∀u∈sN,u.oneCell'=true)/\v= .pointer (some ⟨q.g,0,none⟩)):=by
   unfold EG at eT
   split at eT
   ·rename_i BA
    split at eT
    rotate_left
    ·cases eT
    rename_i hmul
    cases m9:ungroup s.Iw l with
    |none=>rw [m9] at eT;cases eT
    |some as'=>
     rw [m9] at eT
     simp only [Ah,Aa,Ad] at eT
     obtain ⟨rfl,rfl⟩:=eT
     obtain ⟨sN,e1,e2,e3⟩:=Yk s.Iw l vs as' (by omega) v4 m9
     have hv: ∃v,(results fn a'.tmps).run P w'= .ok v w'/\RC s.Hc s.Iw sN v:=by
      unfold RC
      rw [<-e1,hmul]
      rcases Nat.lt_or_ge 1 l.length with h1|h1
      ·have UC:Nat.blt 1 l.length=true:=by simpa using h1
       simp only [UC,Qf]
       refine ⟨.tuple vs.toArray,Qy _ ?_,rfl⟩
       rw [dif_neg (by simp;omega)]
      ·have UC:Nat.blt 1 l.length=false:=by rw [<-Gw];simpa using h1
       simp only [UC,Cy,Sl]
       rcases vs with _|⟨v,_|⟨v',vs⟩⟩
       ·exact ⟨_,Qy _ (by simp;rfl), .inr rfl⟩
       ·exact ⟨v,Qy _ (by simp), .inl rfl⟩
       ·exfalso;simp only [Bg] at v1;omega
     obtain ⟨v,hv1,hv2⟩:=hv
     exact ⟨sN,v,none,e3,hv1, .inl ⟨BA,rfl,rfl,hv2,e2⟩⟩
   ·rename_i tid BA
    split at eT
    rotate_left
    ·cases eT
    rename_i m i
    split at eT
    rotate_left
    ·cases eT
    rename_i Tu vs' hm
    split at eT
    rotate_left
    ·cases eT
    rename_i hc
    obtain ⟨rfl,rfl,TD⟩:=hc
    simp only [Aa,Ad] at eT
    obtain ⟨rfl,rfl⟩:=eT
    unfold St.at at hm
    rcases vs with _|⟨v,_|⟨v',vs⟩⟩
    ·exfalso;simp only [Bg,Hr] at v1 v2;omega
    ·obtain ⟨q,Apx,vs2,q1,q2,q3⟩:=v4 0 _ v rfl rfl
     rw [hm] at q1;cases q1
     obtain ⟨q',k1,k2,cur,k3,k4⟩:=(h'.1.heap m).Qq hm
     rw [q2] at k1;cases k1
     refine ⟨cur.toList,v,some q,Mn.of k4,Qy _ (by simp), .inr ⟨_,m,q,BA,rfl,by simpa using TD,rfl,q2,k2,by simpa using k3,λu hu=>?_,q3⟩⟩
     obtain ⟨i,hi,rfl⟩:=Bd.1 hu
     have hl:=k4.1
     obtain ⟨u',h6,h7,_⟩:=k4.2 i (vs'[i]'(by omega)) (Ac _)
     rw [Ac hi] at h6
     rw [Aw h6];exact h7
    ·exfalso;simp only [Bg,Hr] at v1 v2;omega
  obtain ⟨xK,p1,p2,p3,p4,p5⟩:=u7 h'.1 s.outs 0 (bc++as) (bv++sN) r' ls (hbv.append Ajh) CL m2
  obtain ⟨io1,io2⟩:=Tm (π0:=oc) h'.1 (λ_=>rfl) s.ins 0 x us o' ZH nG
  have Ad0:(bv++sN).drop s.Zd=sN:=by rw [<-Ai0];simp
  let ρ:Pi:= λl0=>if l0=Jq s.outs.length then qm else xK l0
  have Aa6:ρ (Jq s.outs.length)=qm:=Ab rfl
  have Aed: ∀l0,l0≠Jq s.outs.length->ρ l0=xK l0:= λl0 h=>Ai h
  have Aec: ∀j,j<s.outs.length->ρ (Jq j)=xK (Jq j):= λj hj=>Aed _ (by unfold Jq;omega)
  have rG: ∀l0 q,ρ l0=some q->(l0=Jq s.outs.length/\qm=some q)\/(l0≠Jq s.outs.length/\xK l0=some q):= λl0 q h=>by
   by_cases e:l0=Jq s.outs.length
   ·subst e;rw [Aa6] at h;exact .inl ⟨rfl,h⟩
   ·rw [Aed l0 e] at h;exact .inr ⟨e,h⟩
  have Adt: ∀q,qm=some q-> ∃m,ml= [m]/\m<Be/\aV m=some q:= λq hq=>by
   rcases OV with ⟨_,_,h1,_⟩|⟨_,m,q',_,h1,h2,h3,h4,_⟩
   ·rw [h1] at hq;cases hq
   ·rw [h3] at hq;cases hq;exact ⟨m,h1,h2,h4⟩
  have p3': ∀l0 q b,ρ l0=some q->q.Cm b-> ∃l1∈ml++ls,∃p,aV l1=some p/\p.cl b/\((s.outs.all λc=>!c.XQ)=true->p.Cm b)/\((l1∈ls)\/l1<Be):= λl0 q b h1 h2=>by
   rcases rG l0 q h1 with ⟨_,h3⟩|⟨_,h3⟩
   ·obtain ⟨m,e1,e2,e3⟩:=Adt q h3
    exact ⟨m,by rw [e1];simp,q,e3,h'.1.sub m q b e3 h2,λ_=>h2, .inr e2⟩
   ·obtain ⟨l1,g1,p,g2,g3,g4⟩:=p3 l0 q b h3 h2
    exact ⟨l1,Bx _ g1,p,g2,g3,g4, .inl g1⟩
  have p4': ∀l0 l1 q q' b,ρ l0=some q->ρ l1=some q'->q.Cm b->q'.Cm b->l0=l1:= λl0 l1 q q' b h1 h2 h3 h4=>by
   have yf: ∀l0 q q' b,xK l0=some q->qm=some q'->q.Cm b->q'.Cm b->False:= λl0 q q' b h1 h2 h3 h4=>by
    obtain ⟨m,e1,e2,e3⟩:=Adt q' h2
    obtain ⟨l1,g1,p,g2,g3,_⟩:=p3 l0 q b h1 h3
    have:=h'.1.inj m l1 q' p b e3 g2 (h'.1.sub m q' b e3 h4) g3
    exact m3 m (by rw [e1];simp) l1 g1 this
   rcases rG l0 q h1 with ⟨e1,h5⟩|⟨e1,h5⟩<;>rcases rG l1 q' h2 with ⟨e2,h6⟩|⟨e2,h6⟩
   ·rw [e1,e2]
   ·exact (yf l1 q' q b h6 h5 h4 h3).elim
   ·exact (yf l0 q q' b h5 h6 h3 h4).elim
   ·exact p4 l0 l1 q q' b h5 h6 h3 h4
  have GW: ∀l0 q,Be<=l0->oc l0=some q->As st.heap l0≠none/\(l0∈Pd 0 s.ins\/ ∃b,As st.heap l0=some b/\b.row=none):= λl0 q h1 h2=>by
   rcases LP l0 q h2 with ⟨h3,_⟩|⟨h3,rfl,_⟩
   ·have vE:=tP s.ins 0 x l0 Adi (by omega) (λhnn=>by rw [OD l0 hnn] at h3;cases h3) (by omega)
    exact ⟨io2 l0 vE, .inl vE⟩
   ·obtain ⟨b,h4,h5⟩:=Ajj h3
    exact ⟨by rw [h4];simp, .inr ⟨b,h4,h5⟩⟩
  have hDO:(s.outs.all λc=>!c.XQ)=true-> ∀b,ir Sg oc ρ b->Un aV b\/Sg b:=by
   intro hx b hb
   rcases hb with hb|⟨l0,q,h1,h2,h3⟩|⟨l0,q,h1,h2⟩
   ·exact .inr hb
   ·have hs:=h'.1.fb l0 h1 (GW l0 q h1 h2).1
    have hs:ae ((oc l0).map full) (aV l0):=hs
    rw [h2] at hs
    cases tH:aV l0 with
    |none=>rw [tH] at hs;exact hs.elim
    |some q1=>rw [tH] at hs;exact .inl ⟨l0,q1,tH,(hs.2.2.2 b).1 h3⟩
   ·obtain ⟨m,_,p,hm2,_,ZO,_⟩:=p3' l0 q b h1 h2
    exact .inl ⟨m,p,hm2,ZO hx⟩
  have hDD: ∀b,ir S π ρ b->ir Sg oc ρ b:= λb hb=>by
   rcases hb with hb|⟨l0,q,h1,h2,h3⟩|hb
   ·by_cases hgb:s.gv g b
    ·obtain ⟨IZ,rfl⟩:=hgb
     exact .inr (.inl ⟨On,_,XI,Ab ⟨IZ,rfl⟩,rfl⟩)
    ·exact .inl ⟨hb,hgb⟩
   ·refine .inr (.inl ⟨l0,q,h1,?_,h3⟩)
    show (if s.ptr.isSome=true/\l0=On then _ else π l0)=some q
    rw [Ai]
    ·exact h2
    ·rintro ⟨_,rfl⟩
     rw [OD On Aa1] at h2;cases h2
   ·exact .inr (.inr hb)
  have MK:s.flat=true\/(s.outs.all λc=>!c.XQ)=true:=by unfold MSpec.PX at Adb;simpa only [Lk] using Adb
  have io1:Lw w' (ir S π ρ) π 0 s.ins o':=by
   refine Lw.congr s.ins 0 o' XD ?_
   rcases MK with hf|hf
   ·unfold MSpec.flat at hf
    simp only [Ag] at hf
    exact Lw.any s.ins 0 o' hf.2 io1
   ·exact Lw.Ig (λb hb=>hDO hf b (hDD b hb)) s.ins 0 o' io1
  have p1:Ip w' (ir S π ρ) ρ 0 s.outs r' (bv++sN):=by
   have p1:Ip w' (λb=>Un aV b\/Sg b) ρ 0 s.outs r' (bv++sN):=Ip.NM s.outs 0 r' _ (λj _ hj=>Aec j (by omega)) p1
   rcases MK with hf|hf
   ·unfold MSpec.flat at hf
    simp only [Ag] at hf
    exact Ip.any s.outs 0 r' (bv++sN) hf.1 p1
   ·exact Ip.Ig (λb hb=>hDO hf b (hDD b hb)) s.outs 0 r' (bv++sN) p1
  refine ⟨v,bv++sN,ρ,h'.2.defers,hv,?_,Ahx sN,⟨h'.1.below.os,h'.1.below.tape,h'.1.below.output,h'.1.below.size,λk hk hn=>h'.1.below.block k hk λho=>hn ((cw k).1 ho)⟩,io1,p1,⟨λl0 q b h1 h2=>?_,p4'⟩,λl0 ZM=>?_,λkj MM=>?_⟩
  ·rw [Ad0]
   unfold pb
   rcases OV with ⟨h1,_,_,h2⟩|⟨tid,m,q,h1,_,_,h3,_,h4,h5,h6,h7⟩
   ·rw [h1];exact h2
   ·rw [h1];exact ⟨q,by rw [Aa6,h3],h4,h5,h6,h7⟩
  ·obtain ⟨m,hm1,p,hm2,hm3,_,ZO⟩:=p3' l0 q b h1 h2
   obtain ⟨k1,k2⟩:=h'.1.place m p b hm2 hm3
   refine ⟨k2,k1.imp id λ⟨c0,q0,h5,h6⟩=>?_⟩
   have Jx:c0<Be:=Cd λhn=>by
    obtain ⟨Is,vE⟩:=GW c0 q0 (by omega) h5
    have hs:=h'.1.fb c0 (by omega) Is
    have hs:ae ((oc c0).map full) (aV c0):=hs
    rw [h5] at hs
    cases tH:aV c0 with
    |none=>rw [tH] at hs;exact hs.elim
    |some q1=>
     rw [tH] at hs
     have hf1:q1.Cm b:=(hs.2.2.2 b).1 h6
     have:=h'.1.inj c0 m q1 p b tH hm2 (h'.1.sub c0 q1 b tH hf1) hm3
     subst this
     rcases ZO with ZO|ZO
     ·rcases vE with vE|⟨b1,UC,YT⟩
      ·exact n3 c0 hm1 c0 vE rfl
      ·obtain ⟨b2,hb3,hb4⟩:=qy s.outs _ _ _ CL c0 ZO
       rw [UC] at hb3;cases hb3
       exact hb4 YT
     ·exact hn ZO
   refine ⟨c0,q0,Jx,?_,h6⟩
   rcases LP c0 q0 h5 with ⟨h7,_⟩|⟨_,h7,_⟩
   ·exact h7
   ·omega
  ·cases hp:ρ l0 with
   |none=>rfl
   |some q=>
    rcases rG l0 q hp with ⟨e,h3⟩|⟨_,h3⟩
    ·refine absurd e (ZM _ ?_)
     rcases OV with ⟨_,_,h4,_⟩|⟨tid,m,q',h4,_⟩
     ·rw [h4] at h3;cases h3
     ·unfold MSpec.Tp;rw [h4];simp
    ·obtain ⟨j,_,j2,j3⟩:=p2 l0 q h3
     exact absurd j3 (ZM j (by unfold MSpec.Tp;omega))
  ·obtain ⟨l0,off,len,e,te,rows,out,p,q1,q2,q3,q4,q5⟩:=tU tG kj MM
   have hj:kj.2<s.outs.length:=by
    rw [<-u6 s.outs _ _ _ CL]
    exact (Aj.1 q1).1
   have e1:=p5 kj.2 l0 off len e te rows out (some p) q1 q2
   rw [Db] at e1
   rw [Aec _ hj,e1]
   have hk:=((h'.1.heap l0).Qq q2).2
   obtain ⟨l1,n1⟩:=p
   simp only [KeptAt] at hk
   dsimp only at q3 q4
   subst q3
   have IX:π0 (Dt false kj.1)=(π (Dt false kj.1)).map full:=by
    show (if s.ptr.isSome=true/\Dt false kj.1=On then _ else π (Dt false kj.1)).map full=_
    rw [Ai λh=>hvl false kj.1 q5 h.2]
   rw [IX] at hk
   unfold xM
   cases hp:π (Dt false kj.1) with
   |none=>
    rw [hp] at hk
    cases tH:aV l0 with
    |none=>trivial
    |some q=>rw [tH] at hk;exact hk.elim
   |some q0=>
    rw [hp] at hk
    cases tH:aV l0 with
    |none=>rw [tH] at hk;exact hk.elim
    |some q=>
     rw [tH] at hk
     obtain ⟨k1,k2,k3,k4⟩:=hk
     exact ⟨k1,k2,k3,λj hj hc=>k4 j (by omega) hc⟩
 refine calls_of_wp hf hb ?_
 refine (qN hT Of hm he _ w _ h0 λe st a' w' ⟨Is,oA⟩ h'=>?_).1
 obtain ⟨v,Vw,ρ,p1,p2,p3⟩:=fin st a' w' oA h'
 cases e with
 |normal=>exact ⟨p1,v,p2,v,Vw,ρ,rfl,p3⟩
 |ret=>exact ⟨p1,v,p2,v,Vw,ρ,rfl,p3⟩
 |exit id=>exact absurd rfl (Is id)
end
end Go.Proofs.Ytkkdpknjohcekaa
