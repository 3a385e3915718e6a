/-
  Part 27 of the proof that the statement FnCommutatorMacros holds.
-/
import Derived.Test.YtfgfigkbgecfnaaCFCommutatorMacros25
namespace Go.Proofs.Ytfgfigkbgecfnaa
open Go.RowKit
section
variable {P:Program} {T:Tab} {Γ:Env} {X:Ctx} {w w':World} {π:Pi} {H:List (Nat×OB)}
theorem mg: ∀(cs:List (Bool×CK)) (k:Nat) (x:Ins.den cs) (l:Nat),Ap (Ug k cs x) l≠none-> ∃b j,k<=j/\j<k+cs.length/\l=Cp b j
 | [],_,_,_,h=>absurd rfl h
 |p::r,k,x,l,h=>by
  simp only [Ug] at h
  by_cases e:l=Cp p.1 k
  ·exact ⟨p.1,k,Ao _,by simp,e⟩
  ·have:Ap (Ug (k+1) r x.2) l≠none:=by
    cases hc:eF (Cp p.1 k) p.2 x.1 with
    |none=>rw [hc] at h;exact h
    |some b=>rw [hc] at h;simpa only [cU,Ap,Aj (Fo e)] using h
   obtain ⟨b,j,h1,h2,h3⟩:=mg r (k+1) x.2 l this
   exact ⟨b,j,by omega,by simp;omega,h3⟩
theorem yG {p:Bool×CK} {r:List (Bool×CK)} {k:Nat} {x:Ins.den (p::r)} (hk:k+(r.length+1)<100000) {l:Nat} {b:OB} (h:Ap (Ug (k+1) r x.2) l=some b):Ap (Ug k (p::r) x) l=some b:=by
 obtain ⟨b',j,h1,h2,rfl⟩:=mg r (k+1) x.2 l (by rw [h];simp)
 simp only [Ug]
 cases eF (Cp p.1 k) p.2 x.1 with
 |none=>exact h
 |some c=>simp only [cU,Ap];rw [Aj (xW (by omega) (by omega) (by omega))];exact h
theorem AS {D:Nat->Prop} (hD: ∀b,Cb X.w0.heap.size X.Sc π false b->D b) (LP:X.w0=w) {l:Nat} {r:Option Real} (bb:X.cD l=r.map full) {u:Value} {c:CK} {x:c.den} (h:aI w D r u c x) {b:OB} (hb:eF l c x=some b):Bn X w π H (r.map full) b:=by
 have Rk: ∀ {e:Ty} {es:List Value} {y:e.den},Cells w D e es y->Cells w (Cb X.w0.heap.size X.Sc π false) e es y:= λ {e es y} h=>Cells.Ep (Ao _) (λ_ _ _=>rfl) (λb _ hb=>hD b hb) e es y h
 cases c with
 |Ji τ=>cases hb
 |row e te=>
  simp only [eF,Aa] at hb;subst hb
  obtain ⟨_,h⟩:=h
  simp only [bQ] at h
  simp only [Bn,Hg]
  cases r with
  |none=>exact h
  |some q=>
   obtain ⟨k1,cu,ti,k2,k3,k4,k5,k6⟩:=h
   exact ⟨⟨k1.1,k1.2,λh=>by cases h⟩,cu,ti,k2,k3,k4,k5,λi y hy=>by
    obtain ⟨es,g1,g2,g3⟩:=k6 i y hy
    exact ⟨es,g1,g2,Rk g3⟩,λh=>by cases h⟩
 |Fl e te=>
  simp only [eF,Aa] at hb;subst hb
  cases r<;>exact h.2
 |part e te=>
  simp only [eF,Aa] at hb;subst hb
  obtain ⟨_,hf,h⟩:=h
  simp only [Bn,Hg]
  cases r with
  |none=>exact h
  |some q=>
   obtain ⟨k1,cu,ti,k2,k3,k4,k5,k6⟩:=h
   exact ⟨⟨k1.1,k1.2,λh=>by cases h⟩,cu,ti,k2,k3,k4,k5,λi y hy=>by
    obtain ⟨es,g1,g2,g3⟩:=k6 i y hy
    exact ⟨es,g1,g2,Rk g3⟩,λh=>by cases h⟩
 |Bc e te kp=>
  simp only [eF,Aa] at hb;subst hb
  have h2:Uy w D r e x none:=h.2
  have h3:=Uy.Gj h2 hD
  refine ⟨by cases r<;>exact h3,?_⟩
  cases kp with
  |false=>trivial
  |true=>
   simp only [Nh,KeptAt]
   rw [bb]
   cases r with
   |none=>trivial
   |some q=>exact ⟨rfl,rfl,rfl,λj _ _=>by rw [LP]⟩
theorem fY {D:Nat->Prop} (hD: ∀b,Cb X.w0.heap.size X.Sc π false b->D b) (LP:X.w0=w) {π0:Pi} (bb: ∀l,X.cD l=(π0 l).map full): ∀(cs:List (Bool×CK)) (k:Nat) (x:Ins.den cs) (us:List Value),aK w D π0 k cs x us-> ∀l b,Ap (Ug k cs x) l=some b->Bn X w π H ((π0 l).map full) b
 | [],_,_,_,_,_,_,h=>by cases h
 |_::_,_,_,[],h,_,_,_=>h.elim
 |p::r,k,x,u::us,h,l,b,hb=>by
  simp only [Ug] at hb
  cases hc:eF (Cp p.1 k) p.2 x.1 with
  |none=>rw [hc] at hb;exact fY hD LP bb r (k+1) x.2 us h.2 l b hb
  |some c=>
   rw [hc] at hb
   simp only [cU,Ap] at hb
   split at hb
   ·rename_i e;subst e
    simp only [Aa] at hb;subst hb
    exact AS hD LP (bb _) h.1 hc
   ·exact fY hD LP bb r (k+1) x.2 us h.2 l b hb
theorem tu {S:Nat->Prop} {π0:Pi} {gv:Nat->Prop} {cD:Pi} (al: ∀l,π l=(π0 l).map full): ∀(cs:List (Bool×CK)) (k:Nat) (x:Ins.den cs) (us:List Value),k+cs.length<100000->aK w (λb=>Qk π0 b\/S b) π0 k cs x us->(∀l b,Ap (Ug k cs x) l=some b->Ap H l=some b)->
  Kd ⟨w,S,gv,cD⟩ w π H (Xa k cs x) us
 | [],_,_,[],_,_,_=>trivial
 | [],_,_,_::_,_,h,_=>h.elim
 |_::_,_,_,[],_,h,_=>h.elim
 |p::r,k,x,u::us,hk,h,hH=>by
  simp only [Bf] at hk
  refine ⟨?_,tu al r (k+1) x.2 us (by omega) h.2 λl b hb=>hH l b (yG hk hb)⟩
  have h1:=h.1
  have hh: ∀b,eF (Cp p.1 k) p.2 x.1=some b->Ap H (Cp p.1 k)=some b:= λb hb=>hH _ b (by simp only [Ug];rw [hb];simp [cU,Ap])
  have fa:=al (Cp p.1 k)
  obtain ⟨io,c⟩:=p
  dsimp only at h1 hh fa⊢
  generalize x.1=y at*
  cases c with
  |Ji τ=>
   show Ck w _ τ u y
   cases hf:τ.flat with
   |true=>exact Ck.flat hf h1.2
   |false=>
    refine h1.2.Gj λb _ hb=>?_
    rcases hb with ⟨l,q,h3,h4⟩|hb|⟨hb,_⟩
    ·rw [al l] at h3
     cases hp:π0 l with
     |none=>rw [hp] at h3;cases h3
     |some q0=>rw [hp] at h3;simp only [Ah,Aa] at h3;subst h3;exact .inl ⟨l,q0,hp,h4⟩
    ·exact .inr hb
    ·cases hb
  |row e te=>exact ⟨_,e.size,List.length y,hh _ rfl,rfl,by simp,by rw [fa];exact Ul h1.1⟩
  |Fl e te=>exact ⟨_,e.size,List.length y,hh _ rfl,rfl,by simp,by rw [fa];exact Ul h1.1⟩
  |part e te=>exact ⟨_,e.size,List.length y.1,hh _ rfl,rfl,h1.1.2,by rw [fa];exact Ul h1.1.1⟩
  |Bc e te kp=>exact ⟨_,1,List.length y,hh _ rfl,rfl,by simp,by rw [fa];exact Ul h1.1⟩
theorem jo {p:Real} {s off len:Nat} {u:Value} {f:Nat->Prop} (h:Fm (some p) s off len u):Fm (some ⟨p.g,p.o+off,p.cap-off,f,f⟩) s 0 len u:=by
 obtain ⟨ad,h1,h2,h3⟩:=h
 exact ⟨ad,h1,by dsimp only;omega,λh0=>by dsimp only at h0;simpa using h3 (by omega)⟩
theorem mM {α:Type} {xs:List α} {off len i:Nat} {x:α} (h:((xs.drop off).take len)[i]?=some x):xs[off+i]?=some x:=by
 rw [By] at h
 split at h
 ·rw [Ce] at h;exact h
 ·cases h
theorem Sh.part {P:Nat->Prop} {g o:Nat} {cur:Array Value} {e:Ty} {xs:List e.den} (off len:Nat) (h:Sh w P g o cur e xs):Sh w P g (o+off) cur e ((xs.drop off).take len):=by
 obtain ⟨Fs,t1,t2,t3,t4⟩:=h
 refine ⟨(Fs.drop off).take len,by simp [t1],Bw.2 ⟨λhm=>(Bw.1 t2).1 (Oj off len _ hm),gk off len (Bw.1 t2).2⟩,λb hb=>t3 b (Oj off len b hb),λi x F hx hF=>?_⟩
 obtain ⟨es,k1,k2,k3⟩:=t4 (off+i) x F (mM hx) (mM hF)
 exact ⟨es,k1,λj u hu=>by rw [Er o off i];exact k2 j u hu,k3⟩
theorem yX {st:St} (h:Kc X w π st.heap) {c:CK} (hg: ∀e te kp,c≠ .Bc e te kp) {a:AC} {u:Value} (hu:Fe X w π st.heap a u) {x:c.den} {ls:List Nat} (he:eI st c a=some (x,ls)):
  ∃r,aI w (λb=>Qk π b\/X.Sc b) r u c x/\ ∀q,r=some q-> ∃l p,ls= [l]/\π l=some p/\(∀b,q.Bu b->p.cl b)/\(c.JK=false-> ∀b,q.Bu b->p.Bu b):=by
 have BA: ∀ {f:Bool} (b:Nat),(Qk π b\/X.Sc b)->Cb X.w0.heap.size X.Sc π f b:= λb h=>h.imp id .inl
 cases c with
 |Ji τ=>
  simp only [eI] at he
  split at he
  ·rename_i hf
   cases hv:Cn st τ a with
   |none=>rw [hv] at he;cases he
   |some p=>
    obtain ⟨fr,y⟩:=p
    rw [hv] at he
    simp only [Ah,Aa,Ab] at he
    obtain ⟨rfl,rfl⟩:=he
    refine ⟨none,⟨rfl,?_⟩,λq hq=>by cases hq⟩
    have Gj: ∀f,Ck w (Cb X.w0.heap.size X.Sc π f) τ u y->Ck w (λb=>Qk π b\/X.Sc b) τ u y:= λf hr=>hr.Gj λk _ hk=>BA k hk
    cases a with
    |data f Lg z=>
     rw [Kw] at hv
     split at hv
     ·rename_i ht;subst ht
      simp only [Aa,Ab] at hv
      obtain ⟨_,rfl⟩:=hv
      exact Gj f hu
     ·have Yi:τ.Ak=false:=by unfold cW at hv;split at hv<;>first|rfl|cases hv
      exact Gj _ ⟨[u],Za hv hu,by simp [Bi,Yi]⟩
    |Jf=>
     have hu:u= .slice none 0 0:=hu
     subst hu
     cases τ<;>simp only [Cn,Aa,Ab,reduceCtorEq] at hv
     ·obtain ⟨_,rfl⟩:=hv;exact ⟨[_],⟨none,0,0,rfl,rfl,Ao _, .inl rfl⟩,rfl⟩
     ·obtain ⟨_,rfl⟩:=hv;exact ⟨[_], .inl ⟨rfl,0,rfl⟩,rfl⟩
    |Qx=>
     have hu:u= .pointer none:=hu
     subst hu
     cases τ<;>simp only [Cn,Aa,Ab,reduceCtorEq] at hv
     obtain ⟨_,rfl⟩:=hv;exact ⟨[_], .inl ⟨rfl,rfl⟩,rfl⟩
    |_=>cases τ<;>simp [AC.settled,Ty.flat,Cn] at hf hv
  ·cases he
 |row e te=>
  cases a<;>simp only [eI] at he<;>try (cases he;done)
  ·simp only [Aa,Ab] at he
   obtain ⟨rfl,rfl⟩:=he
   have hu:u= .slice none 0 0:=hu
   exact ⟨none,⟨⟨hu,rfl,rfl⟩,rfl⟩,λq hq=>by cases hq⟩
  ·rename_i l off len
   split at he
   ·rename_i fr tr e' Nr xs hl
    split at he
    ·rename_i hc
     obtain ⟨rfl,rfl⟩:=hc
     simp only [Aa,Ab] at he
     obtain ⟨rfl,rfl⟩:=he
     unfold St.at at hl
     obtain ⟨h1,h2⟩:=Lk hu hl
     have hb:=(h.heap l).Ns hl
     simp only [Bn,Hg] at hb
     have hlen:((xs.drop off).take len).length=len:=by simp;omega
     cases hp:π l with
     |none=>
      rw [hp] at h2 hb
      obtain ⟨rfl,rfl,rfl⟩:=h2
      exact ⟨none,⟨⟨rfl,rfl,by simp⟩,by show (xs.drop 0).take 0= [];simp⟩,λq hq=>by cases hq⟩
     |some p=>
      rw [hp] at h2 hb
      obtain ⟨k1,cur,ti,k2,k3,k4,k5,k6,_⟩:=hb
      have ho:=h2
      obtain ⟨ad,_,kO,_⟩:=h2
      refine ⟨some ⟨p.g,p.o+off,p.cap-off,p.Bu,p.Bu⟩,⟨by rw [hlen];exact jo ho,⟨k1.1,k1.2.1⟩,cur,ti,k2,by rw [k3];congr 1;dsimp only;omega,by dsimp only;omega,by rw [hlen];dsimp only;omega,λi y hy=>?_⟩,
       fun q hq=>by cases hq;exact ⟨l,p,rfl,hp,λb hb=>h.sub l p b hp hb,λ_ b hb=>hb⟩⟩
      obtain ⟨es,g1,g2,g3⟩:=k6 (off+i) y (mM hy)
      exact ⟨es,g1,λj u hu=>by dsimp only;rw [Er p.o off i];exact g2 j u hu,Cells.Ep (Ao _) (λ_ _ _=>rfl) (λb _ hb=>BA b hb) e' es y g3⟩
    ·cases he
   ·cases he
 |Fl e te=>
  cases a<;>simp only [eI] at he<;>try (cases he;done)
  ·simp only [Aa,Ab] at he
   obtain ⟨rfl,rfl⟩:=he
   have hu:u= .slice none 0 0:=hu
   exact ⟨none,⟨⟨hu,rfl,rfl⟩,rfl⟩,λq hq=>by cases hq⟩
  ·rename_i l off len
   split at he
   ·rename_i fr tr e' Nr xs hl
    split at he
    ·rename_i hc
     obtain ⟨rfl,rfl,hf⟩:=hc
     simp only [Aa,Ab] at he
     obtain ⟨rfl,rfl⟩:=he
     unfold St.at at hl
     obtain ⟨h1,h2⟩:=Lk hu hl
     have hb:=(h.heap l).Ns hl
     simp only [Bn,Hg] at hb
     have hlen:((xs.drop off).take len).length=len:=by simp;omega
     cases hp:π l with
     |none=>
      rw [hp] at h2 hb
      obtain ⟨rfl,rfl,rfl⟩:=h2
      exact ⟨none,⟨⟨rfl,rfl,by simp⟩,by show (xs.drop 0).take 0= [];simp⟩,λq hq=>by cases hq⟩
     |some p=>
      rw [hp] at h2 hb
      obtain ⟨k1,cur,ti,k2,k3,k4,k5,k6,k7⟩:=hb
      have ho:=h2
      obtain ⟨ad,_,kO,_⟩:=h2
      have ht:Sh w p.cl p.g p.o cur e' xs:=by
       simp only [Ja] at hf
       rcases hf with hf|hf
       ·exact k7 hf
       ·exact gX hf k6
      exact ⟨some ⟨p.g,p.o+off,p.cap-off,p.cl,p.cl⟩,⟨by rw [hlen];exact jo ho,h.sub l p _ hp k1.1,cur,ti,k2,by rw [k3];congr 1;dsimp only;omega,by dsimp only;omega,by rw [hlen];dsimp only;omega,ht.part off len⟩,
       fun q hq=>by cases hq;exact ⟨l,p,rfl,hp,λb hb=>hb,λhx=>by cases hx⟩⟩
    ·cases he
   ·rename_i e' Nr xs hl
    split at he
    ·rename_i hc
     obtain ⟨rfl,rfl⟩:=hc
     simp only [Aa,Ab] at he
     obtain ⟨rfl,rfl⟩:=he
     unfold St.at at hl
     obtain ⟨h1,h2⟩:=Xi hu hl
     have hb:=(h.heap l).Ns hl
     simp only [Bn,Kz] at hb
     have hlen:((xs.drop off).take len).length=len:=by simp;omega
     cases hp:π l with
     |none=>
      rw [hp] at h2 hb
      obtain ⟨rfl,rfl,rfl⟩:=h2
      exact ⟨none,⟨⟨rfl,rfl,by simp⟩,by show (xs.drop 0).take 0= [];simp⟩,λq hq=>by cases hq⟩
     |some p=>
      rw [hp] at h2 hb
      obtain ⟨k1,cur,ti,k2,k3,k4,k5,ht⟩:=hb
      have ho:=h2
      obtain ⟨ad,_,kO,_⟩:=h2
      exact ⟨some ⟨p.g,p.o+off,p.cap-off,p.Bu,p.Bu⟩,⟨by rw [hlen];exact jo ho,k1,cur,ti,k2,by rw [k3];congr 1;dsimp only;omega,by dsimp only;omega,by rw [hlen];dsimp only;omega,ht.part off len⟩,
       fun q hq=>by cases hq;exact ⟨l,p,rfl,hp,λb hb=>h.sub l p b hp hb,λ_ b hb=>hb⟩⟩
    ·cases he
   ·cases he
 |part e te=>cases a<;>simp [eI] at he
 |Bc e te kp=>exact absurd rfl (hg e te kp)
theorem DD {st:St} (h:Kc X w π st.heap) {c:CK} {a:AC} {u:Value} (hu:Fe X w π st.heap a u) {x:c.den} {ls:List Nat} (he:eI st c a=some (x,ls)):
  ∃r,aI w (λb=>Qk π b\/X.Sc b) r u c x/\(∀q,r=some q-> ∃l p,ls= [l]/\π l=some p/\(∀b,q.Bu b->p.cl b)/\(c.JK=false-> ∀b,q.Bu b->p.Bu b))/\
   (∀l off len e te rows out kp,a= .own l off len->Ap st.heap l=some (.Bc e te rows out kp)->r=π l):=by
 have o0:(∀e te kp,c≠ .Bc e te kp)->(∀l off len e te rows out kp,a=AC.own l off len->Ap st.heap l=some (OB.Bc e te rows out kp)->False)->
   ∃r,aI w (λb=>Qk π b\/X.Sc b) r u c x/\(∀q,r=some q-> ∃l p,ls= [l]/\π l=some p/\(∀b,q.Bu b->p.cl b)/\(c.JK=false-> ∀b,q.Bu b->p.Bu b))/\
   (∀l off len e te rows out kp,a= .own l off len->Ap st.heap l=some (.Bc e te rows out kp)->r=π l):= λh1 h2=>by
  obtain ⟨r,g1,g2⟩:=yX h h1 hu he
  exact ⟨r,g1,g2,λl off len e te rows out kp h3 h4=>(h2 l off len e te rows out kp h3 h4).elim⟩
 cases c with
 |Ji τ=>
  refine o0 (λ_ _ _ h=>by cases h) λl off len e te rows out kp h3 h4=>?_
  subst h3
  simp only [eI] at he
  split at he
  ·rename_i hf
   cases τ<;>simp [AC.settled,Ty.flat,Cn] at hf he
  ·cases he
 |row e te=>
  refine o0 (λ_ _ _ h=>by cases h) λl off len e te rows out kp h3 h4=>?_
  subst h3
  simp only [eI,St.at,h4] at he
  cases he
 |Fl e te=>
  refine o0 (λ_ _ _ h=>by cases h) λl off len e te rows out kp h3 h4=>?_
  subst h3
  simp only [eI,St.at,h4] at he
  cases he
 |part e te=>cases a<;>simp [eI] at he
 |Bc e te kp=>
  cases a<;>simp only [eI] at he<;>try (cases he;done)
  rename_i l off len
  split at he
  ·rename_i e' Nr rows kp' hl
   split at he
   ·rename_i hc
    obtain ⟨rfl,rfl,rfl,rfl⟩:=hc
    simp only [Aa,Ab] at he
    obtain ⟨rfl,rfl⟩:=he
    unfold St.at at hl
    obtain ⟨b,sz,n,h1,h2,_,h3⟩:=hu
    rw [hl] at h1;cases h1
    simp only [OB.row,Aa,Ab] at h2
    obtain ⟨rfl,rfl⟩:=h2
    have hb:=((h.heap l).Ns hl).1
    refine ⟨π l,⟨h3,Uy.Gj hb λb hb=>hb.imp id .inl⟩,λq hq=>⟨l,q,rfl,hq,λb hb=>h.sub l q b hq hb,λ_ b hb=>hb⟩,λl' Ad8 XY _ _ _ _ _ he _=>?_⟩
    simp only [AC.own.injEq] at he
    rw [he.1]
   ·cases he
  ·cases he
theorem Gk.congr {D:Nat->Prop} {ρ SF:Pi} : ∀(cs:List CK) (k:Nat) (x:CKs.den cs) (us:List Value),(∀j,k<=j->SF (Hb j)=ρ (Hb j))->Gk w D ρ k cs x us->Gk w D SF k cs x us
 | [],_,_,[],_,h=>h
 | [],_,_,_::_,_,h=>h.elim
 |_::_,_,_,[],_,h=>h.elim
 |c::r,k,x,u::us,he,h=>⟨by rw [he k (Ao _)];exact h.1,Gk.congr r (k+1) x.2 us (λj hj=>he j (by omega)) h.2⟩
theorem py {st:St} (h:Kc X w π st.heap): ∀(cs:List CK) (k:Nat) (as:List AC) (us:List Value) (x:CKs.den cs) (ls:List Nat),Kd X w π st.heap as us->Qq st cs as=some (x,ls)->ls.Nodup->
  ∃ρ:Pi,Gk w (λb=>Qk π b\/X.Sc b) ρ k cs x us/\(∀l q,ρ l=some q-> ∃j,k<=j/\j<k+cs.length/\l=Hb j)/\(∀l q b,ρ l=some q->q.Bu b-> ∃l0∈ls,∃p,π l0=some p/\p.cl b/\((cs.all λc=>!c.JK)=true->p.Bu b))/\
   (∀l l' q q' b,ρ l=some q->ρ l'=some q'->q.Bu b->q'.Bu b->l=l')/\
   (∀(j l off len:Nat) e te rows out kp,as[j]?=some (.own l off len)->Ap st.heap l=some (.Bc e te rows out kp)->ρ (Hb (k+j))=π l)
 | [],k,[],[],x,ls,_,he,_=>by
  simp only [Qq,Aa,Ab] at he
  exact ⟨λ_=>none,trivial,(λl q h=>by cases h),(λl q b h=>by cases h),(λl l' q q' b h=>by cases h),λj l off len e te rows out kp h=>by simp at h⟩
 | [],_,[],_::_,_,_,h,_,_=>h.elim
 | [],_,_::_,_,_,_,_,he,_=>by simp [Qq] at he
 |_::_,_,[],_,_,_,_,he,_=>by simp [Qq] at he
 |_::_,_,_::_,[],_,_,h,_,_=>h.elim
 |c::r,k,a::as,u::us,x,ls,hr,he,tj=>by
  simp only [Qq] at he
  split at he
  ·rename_i x1 t1 x2 t2 h1 h2
   simp only [Aa,Ab] at he
   obtain ⟨rfl,rfl⟩:=he
   obtain ⟨n1,n2,n3⟩:=Cz.1 tj
   obtain ⟨ρ,g1,g2,g3,g4,g5⟩:=py h r (k+1) as us x2 t2 hr.2 h2 n2
   obtain ⟨rr,r1,r2,r3⟩:=DD h hr.1 h1
   have sM: ∀l q q0 b,ρ l=some q->rr=some q0->q.Bu b->q0.Bu b->False:= λl q q0 b h3 h4 h5 h6=>by
    obtain ⟨l0,m0,p,p1,p2,_⟩:=g3 l q b h3 h5
    obtain ⟨l1,p',e1,YA,YB,_⟩:=r2 q0 h4
    have:=h.inj l0 l1 p p' b p1 YA p2 (YB b h6)
    exact n3 l1 (by rw [e1];simp) l0 m0 this.symm
   refine ⟨λl=>if l=Hb k then rr else ρ l,⟨by simpa using r1,Gk.congr r (k+1) x2 us (λj hj=>Aj (by unfold Hb;omega)) g1⟩,λl q hq=>?_,λl q b hq hb=>?_,λl l' q q' b h3 h4 h5 h6=>?_,λj l off len e te rows out kp hj hl=>?_⟩
   ·dsimp only at hq
    by_cases e:l=Hb k
    ·exact ⟨k,Ao _,by simp,e⟩
    ·rw [Aj e] at hq
     obtain ⟨j,j1,j2,j3⟩:=g2 l q hq
     exact ⟨j,by omega,by simp;omega,j3⟩
   ·dsimp only at hq
    by_cases e:l=Hb k
    ·rw [Af e] at hq
     obtain ⟨l1,p',e1,YA,YB,TY⟩:=r2 q hq
     exact ⟨l1,by rw [e1];simp,p',YA,YB b hb,λhx=>TY (by simp only [Gu,Ag,Ds] at hx;exact hx.1) b hb⟩
    ·rw [Aj e] at hq
     obtain ⟨l0,m0,p,p1,p2,p3⟩:=g3 l q b hq hb
     exact ⟨l0,Bp _ m0,p,p1,p2,λhx=>p3 (by simp only [Gu,Ag] at hx;exact hx.2)⟩
   ·dsimp only at h3 h4
    by_cases e:l=Hb k<;>by_cases e':l'=Hb k
    ·rw [e,e']
    ·rw [Af e] at h3;rw [Aj e'] at h4
     exact (sM l' q' q b h4 h3 h6 h5).elim
    ·rw [Aj e] at h3;rw [Af e'] at h4
     exact (sM l q q' b h3 h4 h5 h6).elim
    ·rw [Aj e] at h3;rw [Aj e'] at h4
     exact g4 l l' q q' b h3 h4 h5 h6
   ·rcases j with _|j
    ·simp only [Bd,Aa] at hj
     show (if Hb k=Hb k then rr else ρ (Hb k))=π l
     rw [Af rfl]
     exact r3 l off len e te rows out kp hj hl
    ·have:=g5 j l off len e te rows out kp (by simpa using hj) hl
     show (if Hb (k+(j+1))=Hb k then rr else ρ (Hb (k+(j+1))))=π l
     rw [Aj (by unfold Hb;omega),<-this,show k+(j+1)=k+1+j by omega]
  ·cases he
theorem ui {r r':Option Real} (h:Wl (r.map full) r') {e:Ty} {xs:List e.den} {te:TypeId} {fr tr:Bool} (ha:Hg X w π r' fr tr e te xs):Oe w (λb=>Qk π b\/X.Sc b) r e xs:=by
 cases r with
 |none=>cases r' with
  |none=>exact ha
  |some q=>exact h.elim
 |some p=>cases r' with
  |none=>exact h.elim
  |some q=>
   obtain ⟨e1,e2,e3,e4⟩:=h
   obtain ⟨k1,cur,ti,k2,k3,k4,k5,k6,_⟩:=ha
   have e1:p.g=q.g:=e1
   have e2:p.o=q.o:=e2
   have e3:p.cap=q.cap:=e3
   refine ⟨⟨by rw [e1];exact (e4 _).2 k1.1,λb hb=>by rw [e1];exact k1.2.1 b ((e4 b).1 hb)⟩,cur,ti,by rw [e1];exact k2,by rw [e2,e3];exact k3,by rw [e3];exact k4,by rw [e3];exact k5,λi y hy=>?_⟩
   obtain ⟨es,g1,g2,g3⟩:=k6 i y hy
   exact ⟨es,g1,by rw [e2];exact g2,Cells.Ep (Ao _) (λ_ _ _=>rfl) (λb _ hb=>hb.imp id .inl) e es y g3⟩
theorem zn {r r':Option Real} (h:Wl (r.map full) r') {e:Ty} {xs:List e.den} {te:TypeId} (ha:Kz w r' e te xs):Kz w r e te xs:=by
 cases r with
 |none=>cases r' with
  |none=>exact ha
  |some q=>exact h.elim
 |some p=>cases r' with
  |none=>exact h.elim
  |some q=>
   obtain ⟨e1,e2,e3,e4⟩:=h
   obtain ⟨k1,cur,ti,k2,k3,k4,k5,Fs,t1,t2,t3,t4⟩:=ha
   have e1:p.g=q.g:=e1
   have e2:p.o=q.o:=e2
   have e3:p.cap=q.cap:=e3
   exact ⟨by rw [e1];exact (e4 _).2 k1,cur,ti,by rw [e1];exact k2,by rw [e2,e3];exact k3,by rw [e3];exact k4,by rw [e3];exact k5,Fs,t1,by rw [e1];exact t2,λb hb=>(e4 b).2 (t3 b hb),by rw [e2];exact t4⟩
theorem Qd {st:St} {π0:Pi} {D:Nat->Prop} {w0:World} (h:Kc X w π st.heap) (bb: ∀l,X.cD l=(π0 l).map full): ∀(cs:List (Bool×CK)) (k:Nat) (x:Ins.den cs) (us:List Value) (o:IOs.den cs),aK w0 D π0 k cs x us->Ln st k cs=some o->
  Jc w (λb=>Qk π b\/X.Sc b) π0 k cs o/\ ∀l∈Mj k cs,Ap st.heap l≠none
 | [],_,_,_,_,_,_=>⟨trivial,λl hl=>by cases hl⟩
 |_::_,_,_,[],_,h,_=>h.elim
 |(false,c)::r,k,x,u::us,o,hi,he=>Qd h bb r (k+1) x.2 us o hi.2 (by simpa only [Ln] using he)
 |(true, .Ji τ)::r,k,x,u::us,o,hi,he=>Qd h bb r (k+1) x.2 us o hi.2 (by simpa only [Ln] using he)
 |(true, .Bc e te kp)::r,k,x,u::us,o,hi,he=>Qd h bb r (k+1) x.2 us o hi.2 (by simpa only [Ln] using he)
 |(true, .row e te)::r,k,x,u::us,o,hi,he=>by
  simp only [Ln] at he
  split at he
  ·rename_i x1 x2 h1 h2
   simp only [Aa] at he;subst he
   obtain ⟨g1,g2⟩:=Qd h bb r (k+1) x.2 us x2 hi.2 h2
   have h0:=hi.1
   simp only [jK] at h1
   split at h1
   ·rename_i fr tr e' Nr xs hl
    split at h1
    ·rename_i hc
     obtain ⟨rfl,rfl⟩:=hc
     simp only [Aa] at h1;subst h1
     unfold St.at at hl
     have hs:=h.cD (Cp true k) (by have:=Wb k;omega) (by rw [hl];simp)
     rw [bb] at hs
     exact ⟨⟨ui (te:=Nr) hs ((h.heap _).Ns hl),g1⟩,λl Tu=>by
      simp only [Mj] at Tu
      rcases Ay.1 Tu with rfl|Tu
      ·rw [hl];simp
      ·exact g2 l Tu⟩
    ·cases h1
   ·cases h1
  ·cases he
 |(true, .part e te)::r,k,x,u::us,o,hi,he=>by
  simp only [Ln] at he
  split at he
  ·rename_i x1 x2 h1 h2
   simp only [Aa] at he;subst he
   obtain ⟨g1,g2⟩:=Qd h bb r (k+1) x.2 us x2 hi.2 h2
   have h0:=hi.1
   simp only [jK] at h1
   split at h1
   ·rename_i fr tr e' Nr xs hl
    split at h1
    ·rename_i hc
     obtain ⟨rfl,rfl⟩:=hc
     simp only [Aa] at h1;subst h1
     unfold St.at at hl
     have hs:=h.cD (Cp true k) (by have:=Wb k;omega) (by rw [hl];simp)
     rw [bb] at hs
     exact ⟨⟨ui (te:=Nr) hs ((h.heap _).Ns hl),g1⟩,λl Tu=>by
      simp only [Mj] at Tu
      rcases Ay.1 Tu with rfl|Tu
      ·rw [hl];simp
      ·exact g2 l Tu⟩
    ·cases h1
   ·cases h1
  ·cases he
 |(true, .Fl e te)::r,k,x,u::us,o,hi,he=>by
  simp only [Ln] at he
  split at he
  ·rename_i x1 x2 h1 h2
   simp only [Aa] at he;subst he
   obtain ⟨g1,g2⟩:=Qd h bb r (k+1) x.2 us x2 hi.2 h2
   simp only [jK] at h1
   split at h1
   ·rename_i e' Nr xs hl
    split at h1
    ·rename_i hc
     obtain ⟨rfl,rfl⟩:=hc
     simp only [Aa] at h1;subst h1
     unfold St.at at hl
     have hs:=h.cD (Cp true k) (by have:=Wb k;omega) (by rw [hl];simp)
     rw [bb] at hs
     exact ⟨⟨zn (te:=Nr) hs ((h.heap _).Ns hl),g1⟩,λl Tu=>by
      simp only [Mj] at Tu
      rcases Ay.1 Tu with rfl|Tu
      ·rw [hl];simp
      ·exact g2 l Tu⟩
    ·cases h1
   ·cases h1
  ·cases he
theorem nZ {p:Bool×CK} {r:List (Bool×CK)} (h:Uk (p::r)=true):Uk r=true:=by
 rcases p with ⟨_|_,c⟩<;>cases c<;>first|(simp [Uk] at h;done)|simpa [Uk] using h
theorem pd: ∀(cs:List (Bool×CK)) (k:Nat) (x:Ins.den cs) (l:Nat),Uk cs=true->k+cs.length<100000->Ap (Ug k cs x) l≠none-> ¬l<Az->l∈Mj k cs
 | [],_,_,_,_,_,h,_=>absurd rfl h
 |(io,c)::r,k,x,l,PX,hk,h,hp=>by
  simp only [Bf] at hk
  simp only [Ug] at h
  have tail:Ap (Ug (k+1) r x.2) l≠none->l∈Mj (k+1) r:= λh=>pd r (k+1) x.2 l (nZ PX) (by omega) h hp
  have sub: ∀m,m∈Mj (k+1) r->m∈Mj k ((io,c)::r):= λm hm=>by
   cases io<;>cases c<;>simp only [Mj]<;>first|exact hm|exact Aq _ hm
  cases hc:eF (Cp io k) c x.1 with
  |none=>rw [hc] at h;exact sub l (tail h)
  |some b=>
   rw [hc] at h
   simp only [cU,Ap] at h
   split at h
   ·rename_i e;subst e
    cases io with
    |false=>exact absurd (bz (by omega)) hp
    |true=>cases c with
     |Ji τ=>cases hc
     |row e te=>simp [Mj]
     |Fl e te=>simp [Mj]
     |part e te=>simp [Mj]
     |Bc e te kp=>simp [Uk] at PX
   ·exact sub l (tail h)
theorem aI.Gj {D D':Nat->Prop} (hD: ∀b,D' b->D b) {r:Option Real} {u:Value} {c:CK} {x:c.den} (h:aI w D r u c x):aI w D' r u c x:=by
 cases c with
 |Ji τ=>exact ⟨h.1,h.2.Gj λb _ hb=>hD b hb⟩
 |row e te=>exact ⟨h.1,Oe.Gj h.2 hD⟩
 |Fl e te=>exact h
 |part e te=>exact ⟨h.1,h.2.1,Oe.Gj h.2.2 hD⟩
 |Bc e te kp=>exact ⟨h.1,Uy.Gj h.2 hD⟩
theorem Gk.Gj {D D':Nat->Prop} (hD: ∀b,D' b->D b) {ρ:Pi} : ∀(cs:List CK) (k:Nat) (x:CKs.den cs) (us:List Value),Gk w D ρ k cs x us->Gk w D' ρ k cs x us
 | [],_,_,[],h=>h
 | [],_,_,_::_,h=>h.elim
 |_::_,_,_,[],h=>h.elim
 |_c::r,k,x,_u::us,h=>⟨h.1.Gj hD,Gk.Gj hD r (k+1) x.2 us h.2⟩
theorem Jc.Gj {D D':Nat->Prop} (hD: ∀b,D' b->D b) {π:Pi} : ∀(cs:List (Bool×CK)) (k:Nat) (x:IOs.den cs),Jc w D π k cs x->Jc w D' π k cs x
 | [],_,_,h=>h
 |(false,_)::r,k,x,h=>Jc.Gj hD r (k+1) x h
 |(true, .Ji _)::r,k,x,h=>Jc.Gj hD r (k+1) x h
 |(true, .Bc _ _ _)::r,k,x,h=>Jc.Gj hD r (k+1) x h
 |(true, .row _e _te)::r,k,x,h=>⟨Oe.Gj h.1 hD,Jc.Gj hD r (k+1) x.2 h.2⟩
 |(true, .Fl _e _te)::r,k,x,h=>⟨h.1,Jc.Gj hD r (k+1) x.2 h.2⟩
 |(true, .part _e _te)::r,k,x,h=>⟨Oe.Gj h.1 hD,Jc.Gj hD r (k+1) x.2 h.2⟩
theorem aK.congr {D:Nat->Prop} {π0 Xp:Pi} : ∀(cs:List (Bool×CK)) (k:Nat) (x:Ins.den cs) (us:List Value),(∀b j,k<=j->j<k+cs.length->Xp (Cp b j)=π0 (Cp b j))->aK w D π0 k cs x us->aK w D Xp k cs x us
 | [],_,_,[],_,h=>h
 | [],_,_,_::_,_,h=>h
 |_::_,_,_,[],_,h=>h
 |p::r,k,x,u::us,hp,h=>⟨by rw [hp p.1 k (Ao _) (by simp)];exact h.1,aK.congr r (k+1) x.2 us (λb j h1 h2=>hp b j (by omega) (by simp;omega)) h.2⟩
theorem Jc.congr {D:Nat->Prop} {π0 Xp:Pi} : ∀(cs:List (Bool×CK)) (k:Nat) (x:IOs.den cs),(∀b j,k<=j->j<k+cs.length->Xp (Cp b j)=π0 (Cp b j))->Jc w D π0 k cs x->Jc w D Xp k cs x
 | [],_,_,_,h=>h
 |(false,c)::r,k,x,hp,h=>by cases c<;>exact Jc.congr r (k+1) x (λb j h1 h2=>hp b j (by omega) (by simp;omega)) h
 |(true, .Ji _)::r,k,x,hp,h=>Jc.congr r (k+1) x (λb j h1 h2=>hp b j (by omega) (by simp;omega)) h
 |(true, .Bc _ _ _)::r,k,x,hp,h=>Jc.congr r (k+1) x (λb j h1 h2=>hp b j (by omega) (by simp;omega)) h
 |(true, .row e te)::r,k,x,hp,h=>⟨by rw [hp true k (Ao _) (by simp)];exact h.1,Jc.congr r (k+1) x.2 (λb j h1 h2=>hp b j (by omega) (by simp;omega)) h.2⟩
 |(true, .Fl e te)::r,k,x,hp,h=>⟨by rw [hp true k (Ao _) (by simp)];exact h.1,Jc.congr r (k+1) x.2 (λb j h1 h2=>hp b j (by omega) (by simp;omega)) h.2⟩
 |(true, .part e te)::r,k,x,hp,h=>⟨by rw [hp true k (Ao _) (by simp)];exact h.1,Jc.congr r (k+1) x.2 (λb j h1 h2=>hp b j (by omega) (by simp;omega)) h.2⟩
theorem Di.congr {π0 Xp:Pi} : ∀(cs:List (Bool×CK)) (k:Nat) (o:IOs.den cs) (n:Nat) (us as:List Value),(∀b j,k<=j->j<k+cs.length->Xp (Cp b j)=π0 (Cp b j))->Di π0 k cs o n us as->Di Xp k cs o n us as
 | [],k,o,0,us,as,_,h=>by simpa [Di] using h
 | [],k,o,n+1,us,as,_,h=>by simp [Di] at h
 |p::r,k,o,0,us,as,_,h=>by
  rcases p with ⟨_|_,c⟩<;>cases c<;>simpa [Di] using h
 |(true, .Ji _)::r,k,o,n+1,us,as,_,h=>by simp [Di] at h
 |(true, .part _ _)::r,k,o,n+1,us,as,_,h=>by simp [Di] at h
 |(true, .Bc _ _ _)::r,k,o,n+1,us,as,_,h=>by simp [Di] at h
 |(true, .row e te)::r,k,o,n+1,[],as,_,h=>by simp [Di] at h
 |(true, .Fl e te)::r,k,o,n+1,[],as,_,h=>by simp [Di] at h
 |(true, .row e te)::r,k,o,n+1,u::us,as,hp,h=>by
  simp only [Di] at h⊢
  exact ⟨by rw [hp true k (Ao _) (by simp)];exact h.1,Di.congr r (k+1) o.2 n us as (λb j h1 h2=>hp b j (by omega) (by simp;omega)) h.2⟩
 |(true, .Fl e te)::r,k,o,n+1,u::us,as,hp,h=>by
  simp only [Di] at h⊢
  exact ⟨by rw [hp true k (Ao _) (by simp)];exact h.1,Di.congr r (k+1) o.2 n us as (λb j h1 h2=>hp b j (by omega) (by simp;omega)) h.2⟩
 |(false,c)::r,k,o,n+1,[],as,_,h=>by cases c<;>simp [Di] at h
 |(false,c)::r,k,o,n+1,u::us,[],_,h=>by cases c<;>simp [Di] at h
 |(false,c)::r,k,o,n+1,u::us,a::as,hp,h=>by
  have h:u=a/\Di π0 (k+1) r o n us as:=by cases c<;>exact h
  have:=Di.congr r (k+1) o n us as (λb j h1 h2=>hp b j (by omega) (by simp;omega)) h.2
  cases c<;>exact ⟨h.1,this⟩
theorem jZ: ∀(A B:List (Nat×OB)) (l:Nat),Ap (A++B) l=match Ap A l with|some b=>some b|none=>Ap B l
 | [],B,l=>rfl
 |(k,b)::A,B,l=>by
  simp only [Ov,Ap]
  split
  ·rfl
  ·exact jZ A B l
theorem mK {st:St} : ∀(cs:List CK) (as:List AC) (x:CKs.den cs) (ls:List Nat),Qq st cs as=some (x,ls)-> ∀l∈ls,∃b,Ap st.heap l=some b/\b.row≠none
 | [],[],x,ls,he=>by
  simp only [Qq,Aa,Ab] at he
  obtain ⟨_,rfl⟩:=he
  intro l hl;cases hl
 | [],_::_,_,_,he=>by simp [Qq] at he
 |_::_,[],_,_,he=>by simp [Qq] at he
 |c::r,a::as,x,ls,he=>by
  simp only [Qq] at he
  split at he
  ·rename_i x1 t1 x2 t2 h1 h2
   simp only [Aa,Ab] at he
   obtain ⟨_,rfl⟩:=he
   intro l hl
   rcases Av.1 hl with hl|hl
   ·unfold eI at h1
    split at h1
    ·split at h1
     ·cases hv:Cn st _ a with
      |none=>rw [hv] at h1;cases h1
      |some p=>rw [hv] at h1;simp only [Ah,Aa,Ab] at h1;obtain ⟨_,rfl⟩:=h1;cases hl
     ·cases h1
    all_goals (repeat' split at h1)
    all_goals first|(cases h1;done)|skip
    all_goals (simp only [Aa,Ab] at h1;obtain ⟨_,rfl⟩:=h1)
    all_goals first|(cases hl;done)|skip
    all_goals (have hl:=Ad.1 hl;subst hl)
    all_goals (rename_i heq _;exact ⟨_,heq,by simp [OB.row]⟩)
   ·exact mK r as x2 t2 h2 l hl
  ·cases he
theorem ki {r r':Option Real} {sz off len:Nat} {v:Value} (h:Wl r r') (hv:Fm r' sz off len v):Fm r sz off len v:=by
 cases r<;>cases r'<;>first|exact h.elim|skip
 ·exact hv
 ·obtain ⟨h1,h2,h3,_⟩:=h
  obtain ⟨ad,g1,g2,g3⟩:=hv
  exact ⟨ad,by rw [h3];exact g1,by rw [h3];exact g2,by rw [h1,h2,h3];exact g3⟩
theorem Tr {st:St} {π0:Pi} (hs: ∀k,Ap st.heap (Cp true k)≠none->Wl ((π0 (Cp true k)).map full) (π (Cp true k))):
  ∀(cs:List (Bool×CK)) (k:Nat) (vs:List AC) (us:List Value) (bc:List AC) (o:IOs.den cs),Kd X w π st.heap vs us->Gq k cs vs=some bc->dt st vs cs->Ln st k cs=some o->
   ∃bv,Kd X w π st.heap bc bv/\bv.length=mU cs vs.length/\ ∀tl,Di π0 k cs o vs.length us (bv++tl)
 |cs,k,[],us,bc,o,hr,he,_,_=>by
  have e1:us= []:=by cases us with|nil=>rfl|cons u us=>exact hr.elim
  have e2:bc= []:=by rcases cs with _|⟨⟨_|_,c⟩,r⟩<;>simpa [Gq] using he.symm
  subst e1;subst e2
  refine ⟨[],trivial,?_,λtl=>?_⟩
  ·rcases cs with _|⟨⟨_|_,c⟩,r⟩<;>rfl
  ·rcases cs with _|⟨⟨_|_,c⟩,r⟩<;>(try cases c)<;>simp [Di]
 | [],k,a::vs,us,bc,o,hr,he,_,_=>by simp [Gq] at he
 |p::r,k,a::vs,[],bc,o,hr,_,_,_=>hr.elim
 |(false,c)::r,k,a::vs,u::us,bc,o,hr,he,hk,ho=>by
  have he:(Gq (k+1) r vs).map (λl=>a::l)=some bc:=by cases a<;>exact he
  cases hb:Gq (k+1) r vs with
  |none=>rw [hb] at he;cases he
  |some bc'=>
   rw [hb] at he
   simp only [Ah,Aa] at he;subst he
   obtain ⟨bv,g1,g2,g3⟩:=Tr hs r (k+1) vs us bc' o hr.2 hb (by cases a<;>exact hk) (by cases c<;>simpa only [Ln] using ho)
   refine ⟨u::bv,⟨hr.1,g1⟩,by simp [mU,g2],λtl=>?_⟩
   have:=g3 tl
   cases c<;>exact ⟨rfl,this⟩
 |(true,c)::r,k,a::vs,u::us,bc,o,hr,he,hk,ho=>by
  cases c with
  |Ji τ=>cases a<;>simp [Gq] at he
  |part e te=>cases a<;>simp [Gq] at he
  |Bc e te kp=>cases a<;>simp [Gq] at he
  |row e te=>
   cases a<;>first|(simp [Gq] at he;done)|skip
   rename_i l off len
   simp only [Gq] at he
   split at he
   rotate_left
   ·cases he
   rename_i hl
   have hl:l=Cp true k:=Gy hl
   subst hl
   obtain ⟨⟨rfl,hlen⟩,hk⟩:=hk
   obtain ⟨b,sz,n,h1,h2,h3,h4⟩:=hr.1
   have BU:=hs k (by rw [h1];simp)
   simp only [Ln] at ho
   split at ho
   ·rename_i x1 x2 q1 q2
    simp only [Aa] at ho;subst ho
    obtain ⟨bv,g1,g2,g3⟩:=Tr hs r (k+1) vs us bc x2 hr.2 he hk q2
    refine ⟨bv,g1,by simpa [mU] using g2,λtl=>?_⟩
    refine ⟨?_,g3 tl⟩
    simp only [jK] at q1
    split at q1
    ·rename_i fr tr e' Nr xs Tu
     split at q1
     ·rename_i hc
      obtain ⟨rfl,rfl⟩:=hc
      simp only [Aa] at q1;subst q1
      unfold St.at at Tu hlen
      rw [Tu] at hlen
      rw [h1] at Tu;cases Tu
      simp only [OB.row,Aa,Ab] at h2
      obtain ⟨rfl,rfl⟩:=h2
      have hlen:len=List.length xs:=hlen
      have:=ki BU h4
      rw [hlen] at this
      have e0:(π0 (Cp true k)).map full=(π0 (Cp true k)).map full:=rfl
      cases hp:π0 (Cp true k)<;>(rw [hp] at this;exact this)
     ·cases q1
    ·cases q1
   ·cases ho
  |Fl e te=>
   cases a<;>first|(simp [Gq] at he;done)|skip
   rename_i l off len
   simp only [Gq] at he
   split at he
   rotate_left
   ·cases he
   rename_i hl
   have hl:l=Cp true k:=Gy hl
   subst hl
   obtain ⟨⟨rfl,hlen⟩,hk⟩:=hk
   obtain ⟨b,sz,n,h1,h2,h3,h4⟩:=hr.1
   have BU:=hs k (by rw [h1];simp)
   simp only [Ln] at ho
   split at ho
   ·rename_i x1 x2 q1 q2
    simp only [Aa] at ho;subst ho
    obtain ⟨bv,g1,g2,g3⟩:=Tr hs r (k+1) vs us bc x2 hr.2 he hk q2
    refine ⟨bv,g1,by simpa [mU] using g2,λtl=>?_⟩
    refine ⟨?_,g3 tl⟩
    simp only [jK] at q1
    split at q1
    ·rename_i e' Nr xs Tu
     split at q1
     ·rename_i hc
      obtain ⟨rfl,rfl⟩:=hc
      simp only [Aa] at q1;subst q1
      unfold St.at at Tu hlen
      rw [Tu] at hlen
      rw [h1] at Tu;cases Tu
      simp only [OB.row,Aa,Ab] at h2
      obtain ⟨rfl,rfl⟩:=h2
      have hlen:len=List.length xs:=hlen
      have:=ki BU h4
      rw [hlen] at this
      cases hp:π0 (Cp true k)<;>(rw [hp] at this;exact this)
     ·cases q1
    ·cases q1
   ·cases ho
def SB (s:MSpec) (g:Nat) (π:Pi):Pi:= λl=>if s.ptr.isSome=true/\l=Lz then some ⟨g,0,0,λb=>b=g,λb=>b=g⟩ else π l
def OE (P:Program) (s:MSpec) (fn:Func) (x:Ins.den s.ins) (w:World) (S:Nat->Prop) (π:Pi) (g:Nat) (r:CKs.den s.outs) (o:IOs.den s.ins) (a':Act) (w':World):Prop:=
 ∃(v:Value) (Qu:List Value) (ρ:Pi),a'.defers= []/\(results fn a'.tmps).run P w'= .ok v w'/\jG s w' ρ (Qu.drop s.Ui) v/\cE s π w' g Qu o/\Gw w.heap.size (λb=>Qk π b\/s.gv g b) w w'/\Jc w' (aJ S π ρ) π 0 s.ins o/\Gk w' (aJ S π ρ) ρ 0 s.outs r Qu/\
  aL ρ (λb=>b<w'.heap.size/\(w.heap.size<=b\/ ∃l q,l<Az/\π l=some q/\q.Bu b))/\(∀l,(∀k,k<s.Pr->l≠Hb k)->ρ l=none)/\(∀kj∈s.keeps,oN w w' (π (Cp false kj.1)) (ρ (Hb kj.2)) (s.Ep x))
theorem Gk.AU {D:Nat->Prop} {ρ SF:Pi} : ∀(cs:List CK) (k:Nat) (x:CKs.den cs) (us:List Value),(∀j,k<=j->j<k+cs.length->SF (Hb j)=ρ (Hb j))->Gk w D ρ k cs x us->Gk w D SF k cs x us
 | [],_,_,[],_,h=>h
 | [],_,_,_::_,_,h=>h.elim
 |_::_,_,_,[],_,h=>h.elim
 |c::r,k,x,u::us,he,h=>⟨by rw [he k (Ao _) (by simp)];exact h.1,Gk.AU r (k+1) x.2 us (λj hj hl=>he j (by omega) (by simp;omega)) h.2⟩
theorem pj {st:St} {n:Nat} {as:List AC} : ∀ {ks:List (Nat×Nat)},ph st n as ks-> ∀kj∈ks,∃l off len e te rows out p,as[kj.2]?=some (.own l off len)/\Ap st.heap l=some (.Bc e te rows out (some p))/\p.1=Cp false kj.1/\n<=p.2/\kj.1<1000
 | [],_,kj,hm=>by cases hm
 |(k,j)::r,h,kj,hm=>by
  simp only [ph] at h
  rcases Ay.1 hm with rfl|hm
  ·obtain ⟨h,_⟩:=h
   split at h
   ·rename_i l off len he
    split at h
    ·rename_i e te rows out p hl
     unfold St.at at hl
     exact ⟨l,off,len,e,te,rows,out,p,he,hl,h.1,h.2.1,by simpa using h.2.2⟩
    ·exact h.elim
   ·exact h.elim
  ·exact pj h.2 kj hm
theorem px {st:St} : ∀(cs:List CK) (as:List AC) (x:CKs.den cs) (ls:List Nat),Qq st cs as=some (x,ls)->as.length=cs.length
 | [],[],_,_,_=>rfl
 | [],_::_,_,_,he=>by simp [Qq] at he
 |_::_,[],_,_,he=>by simp [Qq] at he
 |c::r,a::as,x,ls,he=>by
  simp only [Qq] at he
  split at he
  ·rename_i h1 h2
   simp only [Bf,px r as _ _ h2]
  ·cases he
theorem ug {α β:Type} (f:α->Sem β): ∀(l:List α) (vs:List β),vs.length=l.length->(∀(i:Nat) a v,l[i]?=some a->vs[i]?=some v->(f a).run P w= .ok v w)->(l.mapM f).run P w= .ok vs w
 | [],[],_,_=>by simp
 | [],_::_,h,_=>by simp at h
 |_::_,[],h,_=>by simp at h
 |a::l,v::vs,h,hr=>by
  rw [List.mapM_cons]
  simp only [Sem.run_bind,hr 0 a v rfl rfl,Result.andThen_ok,ug f l vs (by simpa using h) (λi a' v' ha hv=>hr (i+1) a' v' (by simpa using ha) (by simpa using hv)),Sem.run_pure]
theorem nM (hT:De P T) (Ls:Ib P Γ) (hm:P.follows .mixedOrders=true) {f:FuncId} {fn:Func} (hf:P.funcs[f]?=some fn) (s:MSpec) (w:World) (S:Nat->Prop) (π:Pi) (us:List Value) (x:Ins.den s.ins)
  (r:CKs.den s.outs) (o:IOs.den s.ins) (g:Nat) (gF:List Value) (No:iT s w g us gF) (VA:s.ptr.isSome=true->S g) (BH:aK w (λb=>Qk π b\/S b) π 0 s.ins x us) (fa:aL π (λb=>b<w.heap.size)) (hS: ∀b,S b->b<w.heap.size/\ ¬Qk π b) (BC: ∀l,Ap (Ug 0 s.ins x) l=none->π l=none) (he:HP T Γ s fn x λz=>z=(r,o)):
  Calls P f gF.toArray w λe w'=> ∃v Qu ρ,e= .returned v/\jG s w' ρ (Qu.drop s.Ui) v/\cE s π w' g Qu o/\Gw w.heap.size (λb=>Qk π b\/s.gv g b) w w'/\Jc w' (aJ S π ρ) π 0 s.ins o/\Gk w' (aJ S π ρ) ρ 0 s.outs r Qu/\
   aL ρ (λb=>b<w'.heap.size/\(w.heap.size<=b\/ ∃l q,l<Az/\π l=some q/\q.Bu b))/\(∀l,(∀k,k<s.Pr->l≠Hb k)->ρ l=none)/\(∀kj∈s.keeps,oN w w' (π (Cp false kj.1)) (ρ (Hb kj.2)) (s.Ep x)):=by
 obtain ⟨hlen,c,hb,he⟩:=he
 simp only [Ag,Ki] at hlen
 obtain ⟨hlen,BE⟩:=hlen
 unfold rn at BE
 simp only [Ag] at BE
 have PY:=BE.1
 let kH:Pi:=SB s g π
 let Sg:Nat->Prop:= λb=>S b/\ ¬s.gv g b
 have XN: ∀b j,j<1000->Cp b j≠Lz:= λb j hj=>by cases b<;>(unfold Cp Lz;simp;omega)
 have qz: ∀b j,0<=j->j<0+s.ins.length->kH (Cp b j)=π (Cp b j):= λb j _ hj=>Aj λh=>XN b j (by omega) h.2
 have IS: ∀b j,0<=j->j<0+s.ins.length->π (Cp b j)=kH (Cp b j):= λb j h1 h2=>(qz b j h1 h2).symm
 have LO:Ap (Ug 0 s.ins x) Lz=none:=Cd λhn=>by
  obtain ⟨b,j,_,h2,h3⟩:=mg s.ins 0 x Lz hn
  exact XN b j (by omega) h3.symm
 have zD: ∀l q,kH l=some q->(π l=some q/\(s.ptr.isSome=true->l≠Lz))\/(s.ptr.isSome=true/\l=Lz/\q=⟨g,0,0,λb=>b=g,λb=>b=g⟩):= λl q hq=>by
  have hq:(if s.ptr.isSome=true/\l=Lz then some ⟨g,0,0,λb=>b=g,λb=>b=g⟩ else π l)=some q:=hq
  split at hq
  ·rename_i hc;exact .inr ⟨hc.1,hc.2,(Aw hq).symm⟩
  ·rename_i hc;exact .inl ⟨hq,λh1 h2=>hc ⟨h1,h2⟩⟩
 have al: ∀b,Qk kH b↔Qk π b\/s.gv g b:= λb=>by
  constructor
  ·rintro ⟨l,q,h1,h2⟩
   rcases zD l q h1 with ⟨h3,_⟩|⟨h3,h4,rfl⟩
   ·exact .inl ⟨l,q,h3,h2⟩
   ·exact .inr ⟨h3,h2⟩
  ·rintro (⟨l,q,h1,h2⟩|⟨h1,rfl⟩)
   ·refine ⟨l,q,?_,h2⟩
    show (if s.ptr.isSome=true/\l=Lz then _ else π l)=some q
    rw [Aj]
    ·exact h1
    ·rintro ⟨_,rfl⟩
     rw [BC Lz LO] at h1;cases h1
   ·exact ⟨Lz,⟨b,0,0,λc=>c=b,λc=>c=b⟩,Af ⟨h1,rfl⟩,rfl⟩
 have SX: ∀b,s.gv g b->S b:= λb ⟨h1,h2⟩=>h2▸VA h1
 have KT:aK w (λb=>Qk kH b\/Sg b) kH 0 s.ins x us:=aK.congr s.ins 0 x us qz (aK.Gj (λb hb=>by
  rcases hb with hb|hb
  ·rcases (al b).1 hb with hb|hb
   ·exact .inl hb
   ·exact .inr (SX b hb)
  ·exact .inr hb.1) s.ins 0 x us BH)
 have QE:aL kH (λb=>b<w.heap.size):=⟨λl q b h1 h2=>by
  rcases zD l q h1 with ⟨h3,_⟩|⟨h3,h4,rfl⟩
  ·exact fa.Vy l q b h3 h2
  ·exact (hS b (SX b ⟨h3,h2⟩)).1,λl l' q q' b h1 h2 h3 h4=>by
  rcases zD l q h1 with ⟨h5,_⟩|⟨h5,h6,rfl⟩<;>rcases zD l' q' h2 with ⟨h7,_⟩|⟨h7,h8,rfl⟩
  ·exact fa.inj l l' q q' b h5 h7 h3 h4
  ·exact absurd ⟨l,q,h5,h3⟩ (hS b (SX b ⟨h7,h4⟩)).2
  ·exact absurd ⟨l',q',h7,h4⟩ (hS b (SX b ⟨h5,h3⟩)).2
  ·rw [h6,h8]⟩
 have VB: ∀b,Sg b->b<w.heap.size/\ ¬Qk kH b:= λb hb=>⟨(hS b hb.1).1,λho=>((al b).1 ho).elim (hS b hb.1).2 hb.2⟩
 have xy: ∀l,Ap (ka s x) l=match Ap (Ug 0 s.ins x) l with|some b=>some b|none=>if l=Lz then s.ptr.map λp=> .var p.1 ((Xa 0 s.ins x).take p.2) else none:= λl=>by
  unfold ka
  cases hp:s.ptr with
  |none=>cases Ap (Ug 0 s.ins x) l<;>simp
  |some p=>
   simp only
   rw [jZ]
   cases Ap (Ug 0 s.ins x) l with
   |some b=>rfl
   |none=>
    simp only [Ap,Ah]
    by_cases e:l=Lz
    ·rw [Af e,Af e.symm]
    ·rw [Aj e,Aj (λh=>e h.symm)]
 let π0:Pi:= λl=>(kH l).map full
 have un: ∀l q,π0 l=some q-> ∃q0,kH l=some q0/\q=full q0:= λl q hq=>by
  have hq:(kH l).map full=some q:=hq
  cases hp:kH l with
  |none=>rw [hp] at hq;cases hq
  |some q0=>rw [hp] at hq;exact ⟨q0,rfl,(Aw hq).symm⟩
 have BI: ∀l b,Ap (Ug 0 s.ins x) l=some b->Ap (ka s x) l=some b:= λl b hb=>by rw [xy l,hb]
 have LK:Kd ⟨w,Sg,Qk kH,π0⟩ w π0 (ka s x) (Xa 0 s.ins x) us:=tu (λ_=>rfl) s.ins 0 x us (by omega) KT BI
 have BZ:s.ptr.isSome=true->π0 Lz=some ⟨g,0,0,λb=>b=g,λb=>b=g⟩:= λhp=>by
  show (if s.ptr.isSome=true/\Lz=Lz then _ else π Lz).map full=_
  rw [Af ⟨hp,rfl⟩];rfl
 obtain ⟨g1,g2⟩:(Vd s (Xa 0 s.ins x)).length=gF.length/\ ∀(i:Nat) c v,(Vd s (Xa 0 s.ins x))[i]?=some c->gF[i]?=some v->Ba ⟨w,Sg,Qk kH,π0⟩ w π0 (ka s x) c v:=by
  unfold iT at No
  cases hp:s.ptr with
  |none=>
   rw [hp] at No
   obtain ⟨rfl,NY⟩:=No
   obtain ⟨g1,g2,_,_⟩:=ah s.Jg _ us NY LK
   rw [show Vd s (Xa 0 s.ins x)=Pb s.Jg (Xa 0 s.ins x) by unfold Vd;rw [hp]]
   exact ⟨g1,g2⟩
  |some p=>
   rw [hp] at No
   obtain ⟨rfl,NY,_⟩:=No
   obtain ⟨g1,g2,_,_⟩:=ah s.Jg _ (us.drop p.2) NY (Kd.take p.2 LK).2
   rw [show Vd s (Xa 0 s.ins x)= .at (.Ez Lz 0)::Pb s.Jg ((Xa 0 s.ins x).drop p.2) by unfold Vd;rw [hp]]
   refine ⟨by simp [g1],λi c v h1 h2=>?_⟩
   rcases i with _|i
   ·simp only [Bd,Aa] at h1 h2
    subst h1;subst h2
    exact ⟨_,p.1,(Xa 0 s.ins x).take p.2,by rw [xy,LO];simp [hp],BZ (by rw [hp];rfl),rfl⟩
   ·exact g2 i c v (by simpa using h1) (by simpa using h2)
 have h0:Rel ⟨w,Sg,Qk kH,π0⟩ {tmps:=Vd s (Xa 0 s.ins x)++List.replicate (fn.ntmps-(Vd s (Xa 0 s.ins x)).length) .undef,heap:=ka s x}
   {tmps:=gF.toArray++Array.replicate (fn.ntmps-gF.toArray.size) undef,defers:= []} w:=by
  refine ⟨π0,⟨Gw.refl _ _ _,λb hb=>VB b hb,λl q b h1 h2=>?_,λl q b h1 h2=>?_,λl l' q q' b h1 h2 h3 h4=>?_,λl _ _=>Wl.rfl' _,λl=>?_⟩,⟨by simp [g1],rfl,λt=>?_⟩⟩
  ·obtain ⟨q0,_,rfl⟩:=un l q h1;exact h2
  ·obtain ⟨q0,h3,rfl⟩:=un l q h1
   exact ⟨.inr ⟨l,q0,h3,h2⟩,QE.Vy l q0 b h3 h2⟩
  ·obtain ⟨q0,h5,rfl⟩:=un l q h1
   obtain ⟨MM,h6,rfl⟩:=un l' q' h2
   exact QE.inj l l' q0 MM b h5 h6 h3 h4
  ·cases hh:Ap (Ug 0 s.ins x) l with
   |none=>
    by_cases hv:s.ptr.isSome=true/\l=Lz
    ·obtain ⟨NU,rfl⟩:=hv
     obtain ⟨p,hp⟩:=Option.isSome_iff_exists.1 NU
     refine Ei.Ix (b:= .var p.1 ((Xa 0 s.ins x).take p.2)) ?_ (by rw [xy,hh];simp [hp])
     unfold iT at No
     rw [hp] at No
     obtain ⟨_,_,h1,h2,h3⟩:=No
     rw [BZ NU]
     exact ⟨_,rfl,rfl,_,h2,Kd.to (Kd.take p.2 LK).1 h3⟩
    ·refine Ei.Pz ?_ ?_
     ·show (if s.ptr.isSome=true/\l=Lz then _ else π l).map full=none
      rw [Aj hv,BC l hh];rfl
     ·rw [xy,hh]
      simp only
      split
      ·rename_i e
       cases hp:s.ptr with
       |none=>rfl
       |some p=>exact absurd ⟨by rw [hp];rfl,e⟩ hv
      ·rfl
   |some b=>exact Ei.Ix (fY (π0:=kH) (λb hb=>by
    rcases hb with ⟨l,q,h1,h2⟩|hb|⟨hb,_⟩
    ·obtain ⟨q0,h3,rfl⟩:=un l q h1;exact .inl ⟨l,q0,h3,h2⟩
    ·exact .inr hb
    ·cases hb) rfl (λ_=>rfl) s.ins 0 x us KT l b hh) (BI l b hh)
  ·show Ba _ w _ _ ((Vd s (Xa 0 s.ins x)++List.replicate _ AV.undef).getD t .undef) ((gF.toArray++Array.replicate _ undef).getD t undef)
   by_cases ht:t<gF.length
   ·rw [An,Am (by omega),<-An]
    rw [Xr,Hk (by simpa using ht)]
    have:=g2 t _ _ (Ac (by omega)) (Ac ht)
    simpa [An,Ac ht,Ac (show t<(Vd s (Xa 0 s.ins x)).length by omega)] using this
   ·have:(Vd s (Xa 0 s.ins x)++List.replicate (fn.ntmps-(Vd s (Xa 0 s.ins x)).length) AV.undef).getD t .undef= .undef:=by
     rw [An,Al (by omega)]
     rw [List.getElem?_replicate]
     split<;>rfl
    rw [this];trivial
 have fin: ∀(st:St) (a':Act) (w':World),AF T s fn x st (λz=>z=(r,o))->Rel ⟨w,Sg,Qk kH,π0⟩ st a' w'->OE P s fn x w S π g r o a' w':=by
  intro st a' w' kT hrel
  obtain ⟨Xp,h'⟩:=hrel
  have IZ:Az<=Lz:=by unfold Az Lz;omega
  obtain ⟨bc,jY,XO,hbc⟩: ∃bc,eA T s fn x st bc (λz=>z=(r,o))/\(s.ptr.isSome=true-> ∃b,Ap st.heap Lz=some b/\b.row=none)/\
    (Ln st 0 s.ins=some o-> ∃bv,Kd ⟨w,Sg,Qk kH,π0⟩ w' Xp st.heap bc bv/\bv.length=s.Ui/\ ∀tl,cE s π w' g (bv++tl) o):=by
   unfold AF at kT
   cases hp:s.ptr with
   |none=>
    rw [hp] at kT
    exact ⟨[],kT,λh=>by simp at h,λ_=>⟨[],trivial,by simp [MSpec.Ui,hp],λtl=>by simp [cE,hp]⟩⟩
   |some p=>
    rw [hp] at kT
    obtain ⟨vs,cs,h1,h2,h3,h4,h5⟩:=kT
    unfold St.at at h1
    refine ⟨cs,h5,λ_=>⟨_,h1,rfl⟩,λqw=>?_⟩
    obtain ⟨q,k1,k2,cur,k3,k4⟩:=(h'.1.heap Lz).Ns h1
    have ZZ:Wl (π0 Lz) (Xp Lz):=h'.1.cD Lz IZ (by rw [h1];simp)
    rw [BZ (by rw [hp];rfl),k1] at ZZ
    have QI:g=q.g:=ZZ.1
    obtain ⟨bv,g1,g2,g3⟩:=Tr (π0:=kH) (λk hk=>h'.1.cD _ (Nat.le_of_not_lt (Wb k)) hk) s.ins 0 vs cur.toList cs o (Kd.of k4) h3 h4 qw
    refine ⟨bv,g1,by rw [g2,h2];simp [MSpec.Ui,hp],λtl=>?_⟩
    unfold cE
    rw [hp]
    refine ⟨cur.toList,by rw [QI];simpa using k3,λu hu=>?_,Di.congr s.ins 0 o p.2 _ _ IS (h2▸g3 tl)⟩
    obtain ⟨i,hi,rfl⟩:=Db.1 hu
    have hl:=k4.1
    obtain ⟨u',h6,h7,_⟩:=k4.2 i (vs[i]'(by omega)) (Ac _)
    rw [Ac hi] at h6
    rw [Aw h6];exact h7
  unfold eA at jY
  split at jY
  ·exact jY.elim
  rename_i l hl
  split at jY
  ·exact jY.elim
  rename_i as ml ct
  split at jY
  rotate_left
  ·exact jY.elim
  rename_i r' ls o' vQ jX
  obtain ⟨Ha,p8,ZX⟩:=jY
  simp only [Ag,Ki] at Ha
  obtain ⟨⟨⟨tj,Abd⟩,ZV⟩,PT⟩:=Ha
  simp only [Ab] at ZX
  obtain ⟨rfl,rfl⟩:=ZX
  obtain ⟨bv,VO,VP,VM⟩:=hbc jX
  have vO:=Sy tj
  obtain ⟨n1,n2,n3⟩:=Cz.1 vO
  obtain ⟨m1,m2,m3⟩:=Cz.1 n1
  obtain ⟨vs,v1,v2,v3,v4⟩:=Ta hT h' _ _ hl
  have GK:fn.results=fn.results.toList.toArray:=Array.toArray_toList.symm
  have Qw: ∀v,(if h:vs.toArray.size=1 then vs.toArray[0] else .tuple vs.toArray)=v->(results fn a'.tmps).run P w'= .ok v w':=by
   intro v hv
   rw [bx,GK,List.mapM_toArray]
   simp only [map_eq_pure_bind,bind_assoc,pure_bind]
   simp only [Sem.run_bind,ug (wE a'.tmps) _ vs v1 v3,Result.andThen_ok,Sem.run_pure]
   rw [hv]
  obtain ⟨oD,v,qm,XL,hv,WX⟩: ∃oD v qm,Kd ⟨w,Sg,Qk kH,π0⟩ w' Xp st.heap as oD/\(results fn a'.tmps).run P w'= .ok v w'/\
    ((s.rp=none/\ml= []/\qm=none/\DR s.Hy s.Ia oD v/\Yt s.Ia oD)\/
     ∃tid m q,s.rp=some tid/\ml= [m]/\m<Az/\qm=some q/\Xp m=some q/\q.Bu q.g/\w'.heap[q.g]?=some (.cells oD.toArray tid (0,0))/\(∀u∈oD,u.oneCell'=true)/\v= .pointer (some ⟨q.g,0,none⟩)):=by
   unfold wD at ct
   split at ct
   ·rename_i uU
    split at ct
    rotate_left
    ·cases ct
    rename_i hmul
    cases iS:ungroup s.Ia l with
    |none=>rw [iS] at ct;cases ct
    |some as'=>
     rw [iS] at ct
     simp only [Ah,Aa,Ab] at ct
     obtain ⟨rfl,rfl⟩:=ct
     obtain ⟨oD,e1,e2,e3⟩:=Uq s.Ia l vs as' (by omega) v4 iS
     have hv: ∃v,(results fn a'.tmps).run P w'= .ok v w'/\DR s.Hy s.Ia oD v:=by
      unfold DR
      rw [<-e1,hmul]
      rcases Nat.lt_or_ge 1 l.length with h1|h1
      ·have FX:Nat.blt 1 l.length=true:=by simpa using h1
       simp only [FX,Nh]
       refine ⟨.tuple vs.toArray,Qw _ ?_,rfl⟩
       rw [dif_neg (by simp;omega)]
      ·have FX:Nat.blt 1 l.length=false:=by rw [<-Gt];simpa using h1
       simp only [FX,Ci,Pk]
       rcases vs with _|⟨v,_|⟨v',vs⟩⟩
       ·exact ⟨_,Qw _ (by simp;rfl), .inr rfl⟩
       ·exact ⟨v,Qw _ (by simp), .inl rfl⟩
       ·exfalso;simp only [Bf] at v1;omega
     obtain ⟨v,hv1,hv2⟩:=hv
     exact ⟨oD,v,none,e3,hv1, .inl ⟨uU,rfl,rfl,hv2,e2⟩⟩
   ·rename_i tid uU
    split at ct
    rotate_left
    ·cases ct
    rename_i m i
    split at ct
    rotate_left
    ·cases ct
    rename_i Qj vs' hm
    split at ct
    rotate_left
    ·cases ct
    rename_i hc
    obtain ⟨rfl,rfl,FE⟩:=hc
    simp only [Aa,Ab] at ct
    obtain ⟨rfl,rfl⟩:=ct
    unfold St.at at hm
    rcases vs with _|⟨v,_|⟨v',vs⟩⟩
    ·exfalso;simp only [Bf,Jb] at v1 v2;omega
    ·obtain ⟨q,Adl,vs2,q1,q2,q3⟩:=v4 0 _ v rfl rfl
     rw [hm] at q1;cases q1
     obtain ⟨q',k1,k2,cur,k3,k4⟩:=(h'.1.heap m).Ns hm
     rw [q2] at k1;cases k1
     refine ⟨cur.toList,v,some q,Kd.of k4,Qw _ (by simp), .inr ⟨_,m,q,uU,rfl,by simpa using FE,rfl,q2,k2,by simpa using k3,λu hu=>?_,q3⟩⟩
     obtain ⟨i,hi,rfl⟩:=Db.1 hu
     have hl:=k4.1
     obtain ⟨u',h6,h7,_⟩:=k4.2 i (vs'[i]'(by omega)) (Ac _)
     rw [Ac hi] at h6
     rw [Aw h6];exact h7
    ·exfalso;simp only [Bf,Jb] at v1 v2;omega
  obtain ⟨sx,p1,p2,p3,p4,p5⟩:=py h'.1 s.outs 0 (bc++as) (bv++oD) r' ls (VO.append XL) vQ m2
  obtain ⟨TP,io2⟩:=Qd (π0:=kH) h'.1 (λ_=>rfl) s.ins 0 x us o' KT jX
  have PD:(bv++oD).drop s.Ui=oD:=by rw [<-VP];simp
  let ρ:Pi:= λl0=>if l0=Hb s.outs.length then qm else sx l0
  have LU:ρ (Hb s.outs.length)=qm:=Af rfl
  have RC: ∀l0,l0≠Hb s.outs.length->ρ l0=sx l0:= λl0 h=>Aj h
  have QZ: ∀j,j<s.outs.length->ρ (Hb j)=sx (Hb j):= λj hj=>RC _ (by unfold Hb;omega)
  have nE: ∀l0 q,ρ l0=some q->(l0=Hb s.outs.length/\qm=some q)\/(l0≠Hb s.outs.length/\sx l0=some q):= λl0 q h=>by
   by_cases e:l0=Hb s.outs.length
   ·subst e;rw [LU] at h;exact .inl ⟨rfl,h⟩
   ·rw [RC l0 e] at h;exact .inr ⟨e,h⟩
  have QJ: ∀q,qm=some q-> ∃m,ml= [m]/\m<Az/\Xp m=some q:= λq hq=>by
   rcases WX with ⟨_,_,h1,_⟩|⟨_,m,q',_,h1,h2,h3,h4,_⟩
   ·rw [h1] at hq;cases hq
   ·rw [h3] at hq;cases hq;exact ⟨m,h1,h2,h4⟩
  have TY: ∀l0 q b,ρ l0=some q->q.Bu b-> ∃l1∈ml++ls,∃p,Xp l1=some p/\p.cl b/\((s.outs.all λc=>!c.JK)=true->p.Bu b)/\((l1∈ls)\/l1<Az):= λl0 q b h1 h2=>by
   rcases nE l0 q h1 with ⟨_,h3⟩|⟨_,h3⟩
   ·obtain ⟨m,e1,e2,e3⟩:=QJ q h3
    exact ⟨m,by rw [e1];simp,q,e3,h'.1.sub m q b e3 h2,λ_=>h2, .inr e2⟩
   ·obtain ⟨l1,g1,p,g2,g3,g4⟩:=p3 l0 q b h3 h2
    exact ⟨l1,Bp _ g1,p,g2,g3,g4, .inl g1⟩
  have p4': ∀l0 l1 q q' b,ρ l0=some q->ρ l1=some q'->q.Bu b->q'.Bu b->l0=l1:= λl0 l1 q q' b h1 h2 h3 h4=>by
   have sM: ∀l0 q q' b,sx l0=some q->qm=some q'->q.Bu b->q'.Bu b->False:= λl0 q q' b h1 h2 h3 h4=>by
    obtain ⟨m,e1,e2,e3⟩:=QJ q' h2
    obtain ⟨l1,g1,p,g2,g3,_⟩:=p3 l0 q b h1 h3
    have:=h'.1.inj m l1 q' p b e3 g2 (h'.1.sub m q' b e3 h4) g3
    exact m3 m (by rw [e1];simp) l1 g1 this
   rcases nE l0 q h1 with ⟨e1,h5⟩|⟨e1,h5⟩<;>rcases nE l1 q' h2 with ⟨e2,h6⟩|⟨e2,h6⟩
   ·rw [e1,e2]
   ·exact (sM l1 q' q b h6 h5 h4 h3).elim
   ·exact (sM l0 q q' b h5 h6 h3 h4).elim
   ·exact p4 l0 l1 q q' b h5 h6 h3 h4
  have xF: ∀l0 q,Az<=l0->kH l0=some q->Ap st.heap l0≠none/\(l0∈Mj 0 s.ins\/ ∃b,Ap st.heap l0=some b/\b.row=none):= λl0 q h1 h2=>by
   rcases zD l0 q h2 with ⟨h3,_⟩|⟨h3,rfl,_⟩
   ·have qw:=pd s.ins 0 x l0 PY (by omega) (λhnn=>by rw [BC l0 hnn] at h3;cases h3) (by omega)
    exact ⟨io2 l0 qw, .inl qw⟩
   ·obtain ⟨b,h4,h5⟩:=XO h3
    exact ⟨by rw [h4];simp, .inr ⟨b,h4,h5⟩⟩
  have YV:(s.outs.all λc=>!c.JK)=true-> ∀b,aJ Sg kH ρ b->Qk Xp b\/Sg b:=by
   intro hx b hb
   rcases hb with hb|⟨l0,q,h1,h2,h3⟩|⟨l0,q,h1,h2⟩
   ·exact .inr hb
   ·have hs:=h'.1.cD l0 h1 (xF l0 q h1 h2).1
    have hs:Wl ((kH l0).map full) (Xp l0):=hs
    rw [h2] at hs
    cases pa:Xp l0 with
    |none=>rw [pa] at hs;exact hs.elim
    |some q1=>rw [pa] at hs;exact .inl ⟨l0,q1,pa,(hs.2.2.2 b).1 h3⟩
   ·obtain ⟨m,_,p,NQ,_,KZ,_⟩:=TY l0 q b h1 h2
    exact .inl ⟨m,p,NQ,KZ hx⟩
  have YU: ∀b,aJ S π ρ b->aJ Sg kH ρ b:= λb hb=>by
   rcases hb with hb|⟨l0,q,h1,h2,h3⟩|hb
   ·by_cases NN:s.gv g b
    ·obtain ⟨NU,rfl⟩:=NN
     exact .inr (.inl ⟨Lz,_,IZ,Af ⟨NU,rfl⟩,rfl⟩)
    ·exact .inl ⟨hb,NN⟩
   ·refine .inr (.inl ⟨l0,q,h1,?_,h3⟩)
    show (if s.ptr.isSome=true/\l0=Lz then _ else π l0)=some q
    rw [Aj]
    ·exact h2
    ·rintro ⟨_,rfl⟩
     rw [BC Lz LO] at h2;cases h2
   ·exact .inr (.inr hb)
  have FB:s.flat=true\/(s.outs.all λc=>!c.JK)=true:=by unfold MSpec.CS at PT;simpa only [Ja] using PT
  have TP:Jc w' (aJ S π ρ) π 0 s.ins o':=by
   refine Jc.congr s.ins 0 o' IS ?_
   rcases FB with hf|hf
   ·unfold MSpec.flat at hf
    simp only [Ag] at hf
    exact Jc.any s.ins 0 o' hf.2 TP
   ·exact Jc.Gj (λb hb=>YV hf b (YU b hb)) s.ins 0 o' TP
  have p1:Gk w' (aJ S π ρ) ρ 0 s.outs r' (bv++oD):=by
   have p1:Gk w' (λb=>Qk Xp b\/Sg b) ρ 0 s.outs r' (bv++oD):=Gk.AU s.outs 0 r' _ (λj _ hj=>QZ j (by omega)) p1
   rcases FB with hf|hf
   ·unfold MSpec.flat at hf
    simp only [Ag] at hf
    exact Gk.any s.outs 0 r' (bv++oD) hf.1 p1
   ·exact Gk.Gj (λb hb=>YV hf b (YU b hb)) s.outs 0 r' (bv++oD) p1
  refine ⟨v,bv++oD,ρ,h'.2.defers,hv,?_,VM oD,⟨h'.1.below.os,h'.1.below.tape,h'.1.below.output,h'.1.below.size,λk hk hn=>h'.1.below.block k hk λho=>hn ((al k).1 ho)⟩,TP,p1,⟨λl0 q b h1 h2=>?_,p4'⟩,λl0 KY=>?_,λkj zX=>?_⟩
  ·rw [PD]
   unfold jG
   rcases WX with ⟨h1,_,_,h2⟩|⟨tid,m,q,h1,_,_,h3,_,h4,h5,h6,h7⟩
   ·rw [h1];exact h2
   ·rw [h1];exact ⟨q,by rw [LU,h3],h4,h5,h6,h7⟩
  ·obtain ⟨m,hm1,p,NQ,ZQ,_,KZ⟩:=TY l0 q b h1 h2
   obtain ⟨k1,k2⟩:=h'.1.place m p b NQ ZQ
   refine ⟨k2,k1.imp id λ⟨c0,q0,h5,h6⟩=>?_⟩
   have Im:c0<Az:=Cd λhn=>by
    obtain ⟨Hs,qw⟩:=xF c0 q0 (by omega) h5
    have hs:=h'.1.cD c0 (by omega) Hs
    have hs:Wl ((kH c0).map full) (Xp c0):=hs
    rw [h5] at hs
    cases pa:Xp c0 with
    |none=>rw [pa] at hs;exact hs.elim
    |some q1=>
     rw [pa] at hs
     have SW:q1.Bu b:=(hs.2.2.2 b).1 h6
     have:=h'.1.inj c0 m q1 p b pa NQ (h'.1.sub c0 q1 b pa SW) ZQ
     subst this
     rcases KZ with KZ|KZ
     ·rcases qw with qw|⟨b1,FX,VL⟩
      ·exact n3 c0 hm1 c0 qw rfl
      ·obtain ⟨b2,SP,hb4⟩:=mK s.outs _ _ _ vQ c0 KZ
       rw [FX] at SP;cases SP
       exact hb4 VL
     ·exact hn KZ
   refine ⟨c0,q0,Im,?_,h6⟩
   rcases zD c0 q0 h5 with ⟨h7,_⟩|⟨_,h7,_⟩
   ·exact h7
   ·omega
  ·cases hp:ρ l0 with
   |none=>rfl
   |some q=>
    rcases nE l0 q hp with ⟨e,h3⟩|⟨_,h3⟩
    ·refine absurd e (KY _ ?_)
     rcases WX with ⟨_,_,h4,_⟩|⟨tid,m,q',h4,_⟩
     ·rw [h4] at h3;cases h3
     ·unfold MSpec.Pr;rw [h4];simp
    ·obtain ⟨j,_,j2,j3⟩:=p2 l0 q h3
     exact absurd j3 (KY j (by unfold MSpec.Pr;omega))
  ·obtain ⟨l0,off,len,e,te,rows,out,p,q1,q2,q3,q4,q5⟩:=pj p8 kj zX
   have hj:kj.2<s.outs.length:=by
    rw [<-px s.outs _ _ _ vQ]
    exact (Ai.1 q1).1
   have e1:=p5 kj.2 l0 off len e te rows out (some p) q1 q2
   rw [Dp] at e1
   rw [QZ _ hj,e1]
   have hk:=((h'.1.heap l0).Ns q2).2
   obtain ⟨l1,n1⟩:=p
   simp only [KeptAt] at hk
   dsimp only at q3 q4
   subst q3
   have yD:π0 (Cp false kj.1)=(π (Cp false kj.1)).map full:=by
    show (if s.ptr.isSome=true/\Cp false kj.1=Lz then _ else π (Cp false kj.1)).map full=_
    rw [Aj λh=>XN false kj.1 q5 h.2]
   rw [yD] at hk
   unfold oN
   cases hp:π (Cp false kj.1) with
   |none=>
    rw [hp] at hk
    cases pa:Xp l0 with
    |none=>trivial
    |some q=>rw [pa] at hk;exact hk.elim
   |some q0=>
    rw [hp] at hk
    cases pa:Xp l0 with
    |none=>rw [pa] at hk;exact hk.elim
    |some q=>
     rw [pa] at hk
     obtain ⟨k1,k2,k3,k4⟩:=hk
     exact ⟨k1,k2,k3,λj hj hc=>k4 j (by omega) hc⟩
 refine calls_of_wp hf hb ?_
 refine (mX hT Ls hm he _ w _ h0 λe st a' w' ⟨Hs,kT⟩ h'=>?_).1
 obtain ⟨v,Qu,ρ,p1,p2,p3⟩:=fin st a' w' kT h'
 cases e with
 |normal=>exact ⟨p1,v,p2,v,Qu,ρ,rfl,p3⟩
 |ret=>exact ⟨p1,v,p2,v,Qu,ρ,rfl,p3⟩
 |exit id=>exact absurd rfl (Hs id)
end
end Go.Proofs.Ytfgfigkbgecfnaa
