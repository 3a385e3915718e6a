/-
  Part 27 of the proof that the statement FnExactSearchDepth holds.
-/
import Derived.Test.YtfolipnappekaaaGreatCSearchDepth25
namespace Go.Proofs.YtfolipnappekaaaGreat
open Go.RowKit
section
variable {P:Program} {T:Tab} {Γ:Env} {X:Ctx} {w w':World} {π:Pi} {H:List (Nat×OB)}
theorem u6: ∀(cs:List (Bool×CK)) (k:Nat) (x:Ins.den cs) (l:Nat),Au (Zs k cs x) l≠none-> ∃b j,k<=j/\j<k+cs.length/\l=Dr b j
 | [],_,_,_,h=>absurd rfl h
 |p::r,k,x,l,h=>by
  simp only [Zs] at h
  by_cases e:l=Dr p.1 k
  ·exact ⟨p.1,k,Ao _,by simp,e⟩
  ·have:Au (Zs (k+1) r x.2) l≠none:=by
    cases hc:kC (Dr p.1 k) p.2 x.1 with
    |none=>rw [hc] at h;exact h
    |some b=>rw [hc] at h;simpa only [il,Au,Ag (Ge e)] using h
   obtain ⟨b,j,h1,h2,h3⟩:=u6 r (k+1) x.2 l this
   exact ⟨b,j,by omega,by simp;omega,h3⟩
theorem UF {p:Bool×CK} {r:List (Bool×CK)} {k:Nat} {x:Ins.den (p::r)} (hk:k+(r.length+1)<100000) {l:Nat} {b:OB} (h:Au (Zs (k+1) r x.2) l=some b):Au (Zs k (p::r) x) l=some b:=by
 obtain ⟨b',j,h1,h2,rfl⟩:=u6 r (k+1) x.2 l (by rw [h];simp)
 simp only [Zs]
 cases kC (Dr p.1 k) p.2 x.1 with
 |none=>exact h
 |some c=>simp only [il,Au];rw [Ag (SL (by omega) (by omega) (by omega))];exact h
theorem YO {D:Nat->Prop} (hD: ∀b,Da X.w0.heap.size X.Sc π false b->D b) (hw0:X.w0=w) {l:Nat} {r:Option Real} (al:X.gT l=r.map full) {u:Value} {c:CK} {x:c.den} (h:eF w D r u c x) {b:OB} (hb:kC l c x=some b):Cj X w π H (r.map full) b:=by
 have Zo: ∀ {e:Ty} {es:List Value} {y:e.den},Cells w D e es y->Cells w (Da X.w0.heap.size X.Sc π false) e es y:= λ {e es y} h=>Cells.Ez (Ao _) (λ_ _ _=>rfl) (λb _ hb=>hD b hb) e es y h
 cases c with
 |Eu τ=>cases hb
 |row e te=>
  simp only [kC,Aa] at hb;subst hb
  obtain ⟨_,h⟩:=h
  simp only [fU] at h
  simp only [Cj,Jw]
  cases r with
  |none=>exact h
  |some q=>
   obtain ⟨k1,cu,ti,k2,k3,k4,k5,k6⟩:=h
   exact ⟨⟨k1.1,k1.2,λh=>by cases h⟩,cu,ti,k2,k3,k4,k5,λi y hy=>by
    obtain ⟨es,g1,g2,g3⟩:=k6 i y hy
    exact ⟨es,g1,g2,Zo g3⟩,λh=>by cases h⟩
 |Hi e te=>
  simp only [kC,Aa] at hb;subst hb
  cases r<;>exact h.2
 |part e te=>
  simp only [kC,Aa] at hb;subst hb
  obtain ⟨_,hf,h⟩:=h
  simp only [Cj,Jw]
  cases r with
  |none=>exact h
  |some q=>
   obtain ⟨k1,cu,ti,k2,k3,k4,k5,k6⟩:=h
   exact ⟨⟨k1.1,k1.2,λh=>by cases h⟩,cu,ti,k2,k3,k4,k5,λi y hy=>by
    obtain ⟨es,g1,g2,g3⟩:=k6 i y hy
    exact ⟨es,g1,g2,Zo g3⟩,λh=>by cases h⟩
 |Bm e te kp=>
  simp only [kC,Aa] at hb;subst hb
  have h2:aA w D r e x none:=h.2
  have h3:=aA.Ip h2 hD
  refine ⟨by cases r<;>exact h3,?_⟩
  cases kp with
  |false=>trivial
  |true=>
   simp only [Ph,KeptAt]
   rw [al]
   cases r with
   |none=>trivial
   |some q=>exact ⟨rfl,rfl,rfl,λj _ _=>by rw [hw0]⟩
theorem m6 {D:Nat->Prop} (hD: ∀b,Da X.w0.heap.size X.Sc π false b->D b) (hw0:X.w0=w) {π0:Pi} (al: ∀l,X.gT l=(π0 l).map full): ∀(cs:List (Bool×CK)) (k:Nat) (x:Ins.den cs) (us:List Value),eH w D π0 k cs x us-> ∀l b,Au (Zs k cs x) l=some b->Cj X w π H ((π0 l).map full) b
 | [],_,_,_,_,_,_,h=>by cases h
 |_::_,_,_,[],h,_,_,_=>h.elim
 |p::r,k,x,u::us,h,l,b,hb=>by
  simp only [Zs] at hb
  cases hc:kC (Dr p.1 k) p.2 x.1 with
  |none=>rw [hc] at hb;exact m6 hD hw0 al r (k+1) x.2 us h.2 l b hb
  |some c=>
   rw [hc] at hb
   simp only [il,Au] at hb
   split at hb
   ·rename_i e;subst e
    simp only [Aa] at hb;subst hb
    exact YO hD hw0 (al _) h.1 hc
   ·exact m6 hD hw0 al r (k+1) x.2 us h.2 l b hb
theorem FV {S:Nat->Prop} {π0:Pi} {gv:Nat->Prop} {gT:Pi} (Zr: ∀l,π l=(π0 l).map full): ∀(cs:List (Bool×CK)) (k:Nat) (x:Ins.den cs) (us:List Value),k+cs.length<100000->eH w (λb=>Ud π0 b\/S b) π0 k cs x us->(∀l b,Au (Zs k cs x) l=some b->Au H l=some b)->
  Mw ⟨w,S,gv,gT⟩ w π H (bP k cs x) us
 | [],_,_,[],_,_,_=>trivial
 | [],_,_,_::_,_,h,_=>h.elim
 |_::_,_,_,[],_,h,_=>h.elim
 |p::r,k,x,u::us,hk,h,hH=>by
  simp only [Az] at hk
  refine ⟨?_,FV Zr r (k+1) x.2 us (by omega) h.2 λl b hb=>hH l b (UF hk hb)⟩
  have h1:=h.1
  have hh: ∀b,kC (Dr p.1 k) p.2 x.1=some b->Au H (Dr p.1 k)=some b:= λb hb=>hH _ b (by simp only [Zs];rw [hb];simp [il,Au])
  have jW:=Zr (Dr p.1 k)
  obtain ⟨io,c⟩:=p
  dsimp only at h1 hh jW⊢
  generalize x.1=y at*
  cases c with
  |Eu τ=>
   show Cs w _ τ u y
   cases hf:τ.flat with
   |true=>exact Cs.flat hf h1.2
   |false=>
    refine h1.2.Ip λb _ hb=>?_
    rcases hb with ⟨l,q,h3,h4⟩|hb|⟨hb,_⟩
    ·rw [Zr l] at h3
     cases hp:π0 l with
     |none=>rw [hp] at h3;cases h3
     |some q0=>rw [hp] at h3;simp only [Am,Aa] at h3;subst h3;exact .inl ⟨l,q0,hp,h4⟩
    ·exact .inr hb
    ·cases hb
  |row e te=>exact ⟨_,e.size,List.length y,hh _ rfl,rfl,by simp,by rw [jW];exact Zy h1.1⟩
  |Hi e te=>exact ⟨_,e.size,List.length y,hh _ rfl,rfl,by simp,by rw [jW];exact Zy h1.1⟩
  |part e te=>exact ⟨_,e.size,List.length y.1,hh _ rfl,rfl,h1.1.2,by rw [jW];exact Zy h1.1.1⟩
  |Bm e te kp=>exact ⟨_,1,List.length y,hh _ rfl,rfl,by simp,by rw [jW];exact Zy h1.1⟩
theorem pH {p:Real} {s off len:Nat} {u:Value} {f:Nat->Prop} (h:Hw (some p) s off len u):Hw (some ⟨p.g,p.o+off,p.cap-off,f,f⟩) s 0 len u:=by
 obtain ⟨ad,h1,h2,h3⟩:=h
 exact ⟨ad,h1,by dsimp only;omega,λh0=>by dsimp only at h0;simpa using h3 (by omega)⟩
theorem uE {α:Type} {xs:List α} {off len i:Nat} {x:α} (h:((xs.drop off).take len)[i]?=some x):xs[off+i]?=some x:=by
 rw [Cx] at h
 split at h
 ·rw [Cw] at h;exact h
 ·cases h
theorem Xm.part {P:Nat->Prop} {g o:Nat} {cur:Array Value} {e:Ty} {xs:List e.den} (off len:Nat) (h:Xm w P g o cur e xs):Xm w P g (o+off) cur e ((xs.drop off).take len):=by
 obtain ⟨Fs,t1,t2,t3,t4⟩:=h
 refine ⟨(Fs.drop off).take len,by simp [t1],Cb.2 ⟨λhm=>(Cb.1 t2).1 (Sk off len _ hm),mg off len (Cb.1 t2).2⟩,λb hb=>t3 b (Sk off len b hb),λi x F hx hF=>?_⟩
 obtain ⟨es,k1,k2,k3⟩:=t4 (off+i) x F (uE hx) (uE hF)
 exact ⟨es,k1,λj u hu=>by rw [Gm o off i];exact k2 j u hu,k3⟩
theorem US {st:St} (h:Mv X w π st.heap) {c:CK} (hg: ∀e te kp,c≠ .Bm e te kp) {a:AC} {u:Value} (hu:Hp X w π st.heap a u) {x:c.den} {ls:List Nat} (he:kJ st c a=some (x,ls)):
  ∃r,eF w (λb=>Ud π b\/X.Sc b) r u c x/\ ∀q,r=some q-> ∃l p,ls= [l]/\π l=some p/\(∀b,q.Ct b->p.cl b)/\(c.isX=false-> ∀b,q.Ct b->p.Ct b):=by
 have RK: ∀ {f:Bool} (b:Nat),(Ud π b\/X.Sc b)->Da X.w0.heap.size X.Sc π f b:= λb h=>h.imp id .inl
 cases c with
 |Eu τ=>
  simp only [kJ] at he
  split at he
  ·rename_i hf
   cases hv:Dt st τ a with
   |none=>rw [hv] at he;cases he
   |some p=>
    obtain ⟨fr,y⟩:=p
    rw [hv] at he
    simp only [Am,Aa,Ad] at he
    obtain ⟨rfl,rfl⟩:=he
    refine ⟨none,⟨rfl,?_⟩,λq hq=>by cases hq⟩
    have Ip: ∀f,Cs w (Da X.w0.heap.size X.Sc π f) τ u y->Cs w (λb=>Ud π b\/X.Sc b) τ u y:= λf hr=>hr.Ip λk _ hk=>RK k hk
    cases a with
    |data f Oe z=>
     rw [Ns] at hv
     split at hv
     ·rename_i ht;subst ht
      simp only [Aa,Ad] at hv
      obtain ⟨_,rfl⟩:=hv
      exact Ip f hu
     ·have Tq:τ.Aq=false:=by unfold iq at hv;split at hv<;>first|rfl|cases hv
      exact Ip _ ⟨[u],dh hv hu,by simp [Ci,Tq]⟩
    |Ly=>
     have hu:u= .slice none 0 0:=hu
     subst hu
     cases τ<;>simp only [Dt,Aa,Ad,reduceCtorEq] at hv
     ·obtain ⟨_,rfl⟩:=hv;exact ⟨[_],⟨none,0,0,rfl,rfl,Ao _, .inl rfl⟩,rfl⟩
     ·obtain ⟨_,rfl⟩:=hv;exact ⟨[_], .inl ⟨rfl,0,rfl⟩,rfl⟩
    |Xa=>
     have hu:u= .pointer none:=hu
     subst hu
     cases τ<;>simp only [Dt,Aa,Ad,reduceCtorEq] at hv
     obtain ⟨_,rfl⟩:=hv;exact ⟨[_], .inl ⟨rfl,rfl⟩,rfl⟩
    |_=>cases τ<;>simp [AC.settled,Ty.flat,Dt] at hf hv
  ·cases he
 |row e te=>
  cases a<;>simp only [kJ] at he<;>try (cases he;done)
  ·simp only [Aa,Ad] at he
   obtain ⟨rfl,rfl⟩:=he
   have hu:u= .slice none 0 0:=hu
   exact ⟨none,⟨⟨hu,rfl,rfl⟩,rfl⟩,λq hq=>by cases hq⟩
  ·rename_i l off len
   split at he
   ·rename_i fr tr e' Rb xs hl
    split at he
    ·rename_i hc
     obtain ⟨rfl,rfl⟩:=hc
     simp only [Aa,Ad] at he
     obtain ⟨rfl,rfl⟩:=he
     unfold St.at at hl
     obtain ⟨h1,h2⟩:=Ok hu hl
     have hb:=(h.heap l).Qi hl
     simp only [Cj,Jw] at hb
     have hlen:((xs.drop off).take len).length=len:=by simp;omega
     cases hp:π l with
     |none=>
      rw [hp] at h2 hb
      obtain ⟨rfl,rfl,rfl⟩:=h2
      exact ⟨none,⟨⟨rfl,rfl,by simp⟩,by show (xs.drop 0).take 0= [];simp⟩,λq hq=>by cases hq⟩
     |some p=>
      rw [hp] at h2 hb
      obtain ⟨k1,cur,ti,k2,k3,k4,k5,k6,_⟩:=hb
      have ho:=h2
      obtain ⟨ad,_,tR,_⟩:=h2
      refine ⟨some ⟨p.g,p.o+off,p.cap-off,p.Ct,p.Ct⟩,⟨by rw [hlen];exact pH ho,⟨k1.1,k1.2.1⟩,cur,ti,k2,by rw [k3];congr 1;dsimp only;omega,by dsimp only;omega,by rw [hlen];dsimp only;omega,λi y hy=>?_⟩,
       fun q hq=>by cases hq;exact ⟨l,p,rfl,hp,λb hb=>h.sub l p b hp hb,λ_ b hb=>hb⟩⟩
      obtain ⟨es,g1,g2,g3⟩:=k6 (off+i) y (uE hy)
      exact ⟨es,g1,λj u hu=>by dsimp only;rw [Gm p.o off i];exact g2 j u hu,Cells.Ez (Ao _) (λ_ _ _=>rfl) (λb _ hb=>RK b hb) e' es y g3⟩
    ·cases he
   ·cases he
 |Hi e te=>
  cases a<;>simp only [kJ] at he<;>try (cases he;done)
  ·simp only [Aa,Ad] at he
   obtain ⟨rfl,rfl⟩:=he
   have hu:u= .slice none 0 0:=hu
   exact ⟨none,⟨⟨hu,rfl,rfl⟩,rfl⟩,λq hq=>by cases hq⟩
  ·rename_i l off len
   split at he
   ·rename_i fr tr e' Rb xs hl
    split at he
    ·rename_i hc
     obtain ⟨rfl,rfl,hf⟩:=hc
     simp only [Aa,Ad] at he
     obtain ⟨rfl,rfl⟩:=he
     unfold St.at at hl
     obtain ⟨h1,h2⟩:=Ok hu hl
     have hb:=(h.heap l).Qi hl
     simp only [Cj,Jw] at hb
     have hlen:((xs.drop off).take len).length=len:=by simp;omega
     cases hp:π l with
     |none=>
      rw [hp] at h2 hb
      obtain ⟨rfl,rfl,rfl⟩:=h2
      exact ⟨none,⟨⟨rfl,rfl,by simp⟩,by show (xs.drop 0).take 0= [];simp⟩,λq hq=>by cases hq⟩
     |some p=>
      rw [hp] at h2 hb
      obtain ⟨k1,cur,ti,k2,k3,k4,k5,k6,k7⟩:=hb
      have ho:=h2
      obtain ⟨ad,_,tR,_⟩:=h2
      have ht:Xm w p.cl p.g p.o cur e' xs:=by
       simp only [Ka] at hf
       rcases hf with hf|hf
       ·exact k7 hf
       ·exact nm hf k6
      exact ⟨some ⟨p.g,p.o+off,p.cap-off,p.cl,p.cl⟩,⟨by rw [hlen];exact pH ho,h.sub l p _ hp k1.1,cur,ti,k2,by rw [k3];congr 1;dsimp only;omega,by dsimp only;omega,by rw [hlen];dsimp only;omega,ht.part off len⟩,
       fun q hq=>by cases hq;exact ⟨l,p,rfl,hp,λb hb=>hb,λhx=>by cases hx⟩⟩
    ·cases he
   ·rename_i e' Rb xs hl
    split at he
    ·rename_i hc
     obtain ⟨rfl,rfl⟩:=hc
     simp only [Aa,Ad] at he
     obtain ⟨rfl,rfl⟩:=he
     unfold St.at at hl
     obtain ⟨h1,h2⟩:=c5 hu hl
     have hb:=(h.heap l).Qi hl
     simp only [Cj,Nu] at hb
     have hlen:((xs.drop off).take len).length=len:=by simp;omega
     cases hp:π l with
     |none=>
      rw [hp] at h2 hb
      obtain ⟨rfl,rfl,rfl⟩:=h2
      exact ⟨none,⟨⟨rfl,rfl,by simp⟩,by show (xs.drop 0).take 0= [];simp⟩,λq hq=>by cases hq⟩
     |some p=>
      rw [hp] at h2 hb
      obtain ⟨k1,cur,ti,k2,k3,k4,k5,ht⟩:=hb
      have ho:=h2
      obtain ⟨ad,_,tR,_⟩:=h2
      exact ⟨some ⟨p.g,p.o+off,p.cap-off,p.Ct,p.Ct⟩,⟨by rw [hlen];exact pH ho,k1,cur,ti,k2,by rw [k3];congr 1;dsimp only;omega,by dsimp only;omega,by rw [hlen];dsimp only;omega,ht.part off len⟩,
       fun q hq=>by cases hq;exact ⟨l,p,rfl,hp,λb hb=>h.sub l p b hp hb,λ_ b hb=>hb⟩⟩
    ·cases he
   ·cases he
 |part e te=>cases a<;>simp [kJ] at he
 |Bm e te kp=>exact absurd rfl (hg e te kp)
theorem Aax {st:St} (h:Mv X w π st.heap) {c:CK} {a:AC} {u:Value} (hu:Hp X w π st.heap a u) {x:c.den} {ls:List Nat} (he:kJ st c a=some (x,ls)):
  ∃r,eF w (λb=>Ud π b\/X.Sc b) r u c x/\(∀q,r=some q-> ∃l p,ls= [l]/\π l=some p/\(∀b,q.Ct b->p.cl b)/\(c.isX=false-> ∀b,q.Ct b->p.Ct b))/\
   (∀l off len e te rows out kp,a= .own l off len->Au st.heap l=some (.Bm e te rows out kp)->r=π l):=by
 have w9:(∀e te kp,c≠ .Bm e te kp)->(∀l off len e te rows out kp,a=AC.own l off len->Au st.heap l=some (OB.Bm e te rows out kp)->False)->
   ∃r,eF w (λb=>Ud π b\/X.Sc b) r u c x/\(∀q,r=some q-> ∃l p,ls= [l]/\π l=some p/\(∀b,q.Ct b->p.cl b)/\(c.isX=false-> ∀b,q.Ct b->p.Ct b))/\
   (∀l off len e te rows out kp,a= .own l off len->Au st.heap l=some (.Bm e te rows out kp)->r=π l):= λh1 h2=>by
  obtain ⟨r,g1,g2⟩:=US h h1 hu he
  exact ⟨r,g1,g2,λl off len e te rows out kp h3 h4=>(h2 l off len e te rows out kp h3 h4).elim⟩
 cases c with
 |Eu τ=>
  refine w9 (λ_ _ _ h=>by cases h) λl off len e te rows out kp h3 h4=>?_
  subst h3
  simp only [kJ] at he
  split at he
  ·rename_i hf
   cases τ<;>simp [AC.settled,Ty.flat,Dt] at hf he
  ·cases he
 |row e te=>
  refine w9 (λ_ _ _ h=>by cases h) λl off len e te rows out kp h3 h4=>?_
  subst h3
  simp only [kJ,St.at,h4] at he
  cases he
 |Hi e te=>
  refine w9 (λ_ _ _ h=>by cases h) λl off len e te rows out kp h3 h4=>?_
  subst h3
  simp only [kJ,St.at,h4] at he
  cases he
 |part e te=>cases a<;>simp [kJ] at he
 |Bm e te kp=>
  cases a<;>simp only [kJ] at he<;>try (cases he;done)
  rename_i l off len
  split at he
  ·rename_i e' Rb rows kp' hl
   split at he
   ·rename_i hc
    obtain ⟨rfl,rfl,rfl,rfl⟩:=hc
    simp only [Aa,Ad] at he
    obtain ⟨rfl,rfl⟩:=he
    unfold St.at at hl
    obtain ⟨b,sz,n,h1,h2,_,h3⟩:=hu
    rw [hl] at h1;cases h1
    simp only [OB.row,Aa,Ad] at h2
    obtain ⟨rfl,rfl⟩:=h2
    have hb:=((h.heap l).Qi hl).1
    refine ⟨π l,⟨h3,aA.Ip hb λb hb=>hb.imp id .inl⟩,λq hq=>⟨l,q,rfl,hq,λb hb=>h.sub l q b hq hb,λ_ b hb=>hb⟩,λl' Azk Azd _ _ _ _ _ he _=>?_⟩
    simp only [AC.own.injEq] at he
    rw [he.1]
   ·cases he
  ·cases he
theorem Jb.congr {D:Nat->Prop} {ρ ρ':Pi} : ∀(cs:List CK) (k:Nat) (x:CKs.den cs) (us:List Value),(∀j,k<=j->ρ' (Jp j)=ρ (Jp j))->Jb w D ρ k cs x us->Jb w D ρ' k cs x us
 | [],_,_,[],_,h=>h
 | [],_,_,_::_,_,h=>h.elim
 |_::_,_,_,[],_,h=>h.elim
 |c::r,k,x,u::us,he,h=>⟨by rw [he k (Ao _)];exact h.1,Jb.congr r (k+1) x.2 us (λj hj=>he j (by omega)) h.2⟩
theorem yx {st:St} (h:Mv X w π st.heap): ∀(cs:List CK) (k:Nat) (as:List AC) (us:List Value) (x:CKs.den cs) (ls:List Nat),Mw X w π st.heap as us->Vi st cs as=some (x,ls)->ls.Nodup->
  ∃ρ:Pi,Jb w (λb=>Ud π b\/X.Sc b) ρ k cs x us/\(∀l q,ρ l=some q-> ∃j,k<=j/\j<k+cs.length/\l=Jp j)/\(∀l q b,ρ l=some q->q.Ct b-> ∃l0∈ls,∃p,π l0=some p/\p.cl b/\((cs.all λc=>!c.isX)=true->p.Ct b))/\
   (∀l l' q q' b,ρ l=some q->ρ l'=some q'->q.Ct b->q'.Ct b->l=l')/\
   (∀(j l off len:Nat) e te rows out kp,as[j]?=some (.own l off len)->Au st.heap l=some (.Bm e te rows out kp)->ρ (Jp (k+j))=π l)
 | [],k,[],[],x,ls,_,he,_=>by
  simp only [Vi,Aa,Ad] at he
  exact ⟨λ_=>none,trivial,(λl q h=>by cases h),(λl q b h=>by cases h),(λl l' q q' b h=>by cases h),λj l off len e te rows out kp h=>by simp at h⟩
 | [],_,[],_::_,_,_,h,_,_=>h.elim
 | [],_,_::_,_,_,_,_,he,_=>by simp [Vi] at he
 |_::_,_,[],_,_,_,_,he,_=>by simp [Vi] at he
 |_::_,_,_::_,[],_,_,h,_,_=>h.elim
 |c::r,k,a::as,u::us,x,ls,hr,he,RP=>by
  simp only [Vi] at he
  split at he
  ·rename_i x1 t1 x2 t2 h1 h2
   simp only [Aa,Ad] at he
   obtain ⟨rfl,rfl⟩:=he
   obtain ⟨n1,n2,n3⟩:=Cy.1 RP
   obtain ⟨ρ,g1,g2,g3,g4,g5⟩:=yx h r (k+1) as us x2 t2 hr.2 h2 n2
   obtain ⟨rr,r1,r2,r3⟩:=Aax h hr.1 h1
   have EK: ∀l q q0 b,ρ l=some q->rr=some q0->q.Ct b->q0.Ct b->False:= λl q q0 b h3 h4 h5 h6=>by
    obtain ⟨l0,m0,p,p1,p2,_⟩:=g3 l q b h3 h5
    obtain ⟨l1,p',e1,p1',p2',_⟩:=r2 q0 h4
    have:=h.inj l0 l1 p p' b p1 p1' p2 (p2' b h6)
    exact n3 l1 (by rw [e1];simp) l0 m0 this.symm
   refine ⟨λl=>if l=Jp k then rr else ρ l,⟨by simpa using r1,Jb.congr r (k+1) x2 us (λj hj=>Ag (by unfold Jp;omega)) g1⟩,λl q hq=>?_,λl q b hq hb=>?_,λl l' q q' b h3 h4 h5 h6=>?_,λj l off len e te rows out kp hj hl=>?_⟩
   ·dsimp only at hq
    by_cases e:l=Jp k
    ·exact ⟨k,Ao _,by simp,e⟩
    ·rw [Ag e] at hq
     obtain ⟨j,j1,j2,j3⟩:=g2 l q hq
     exact ⟨j,by omega,by simp;omega,j3⟩
   ·dsimp only at hq
    by_cases e:l=Jp k
    ·rw [Ab e] at hq
     obtain ⟨l1,p',e1,p1',p2',p3'⟩:=r2 q hq
     exact ⟨l1,by rw [e1];simp,p',p1',p2' b hb,λhx=>p3' (by simp only [Hx,Af,Ef] at hx;exact hx.1) b hb⟩
    ·rw [Ag e] at hq
     obtain ⟨l0,m0,p,p1,p2,p3⟩:=g3 l q b hq hb
     exact ⟨l0,Bt _ m0,p,p1,p2,λhx=>p3 (by simp only [Hx,Af] at hx;exact hx.2)⟩
   ·dsimp only at h3 h4
    by_cases e:l=Jp k<;>by_cases e':l'=Jp k
    ·rw [e,e']
    ·rw [Ab e] at h3;rw [Ag e'] at h4
     exact (EK l' q' q b h4 h3 h6 h5).elim
    ·rw [Ag e] at h3;rw [Ab e'] at h4
     exact (EK l q q' b h3 h4 h5 h6).elim
    ·rw [Ag e] at h3;rw [Ag e'] at h4
     exact g4 l l' q q' b h3 h4 h5 h6
   ·rcases j with _|j
    ·simp only [Bz,Aa] at hj
     show (if Jp k=Jp k then rr else ρ (Jp k))=π l
     rw [Ab rfl]
     exact r3 l off len e te rows out kp hj hl
    ·have:=g5 j l off len e te rows out kp (by simpa using hj) hl
     show (if Jp (k+(j+1))=Jp k then rr else ρ (Jp (k+(j+1))))=π l
     rw [Ag (by unfold Jp;omega),<-this,show k+(j+1)=k+1+j by omega]
  ·cases he
theorem IE {r r':Option Real} (h:bC (r.map full) r') {e:Ty} {xs:List e.den} {te:TypeId} {fr tr:Bool} (ha:Jw X w π r' fr tr e te xs):Sy w (λb=>Ud π b\/X.Sc b) r e xs:=by
 cases r with
 |none=>cases r' with
  |none=>exact ha
  |some q=>exact h.elim
 |some p=>cases r' with
  |none=>exact h.elim
  |some q=>
   obtain ⟨e1,e2,e3,e4⟩:=h
   obtain ⟨k1,cur,ti,k2,k3,k4,k5,k6,_⟩:=ha
   have e1:p.g=q.g:=e1
   have e2:p.o=q.o:=e2
   have e3:p.cap=q.cap:=e3
   refine ⟨⟨by rw [e1];exact (e4 _).2 k1.1,λb hb=>by rw [e1];exact k1.2.1 b ((e4 b).1 hb)⟩,cur,ti,by rw [e1];exact k2,by rw [e2,e3];exact k3,by rw [e3];exact k4,by rw [e3];exact k5,λi y hy=>?_⟩
   obtain ⟨es,g1,g2,g3⟩:=k6 i y hy
   exact ⟨es,g1,by rw [e2];exact g2,Cells.Ez (Ao _) (λ_ _ _=>rfl) (λb _ hb=>hb.imp id .inl) e es y g3⟩
theorem VS {r r':Option Real} (h:bC (r.map full) r') {e:Ty} {xs:List e.den} {te:TypeId} (ha:Nu w r' e te xs):Nu w r e te xs:=by
 cases r with
 |none=>cases r' with
  |none=>exact ha
  |some q=>exact h.elim
 |some p=>cases r' with
  |none=>exact h.elim
  |some q=>
   obtain ⟨e1,e2,e3,e4⟩:=h
   obtain ⟨k1,cur,ti,k2,k3,k4,k5,Fs,t1,t2,t3,t4⟩:=ha
   have e1:p.g=q.g:=e1
   have e2:p.o=q.o:=e2
   have e3:p.cap=q.cap:=e3
   exact ⟨by rw [e1];exact (e4 _).2 k1,cur,ti,by rw [e1];exact k2,by rw [e2,e3];exact k3,by rw [e3];exact k4,by rw [e3];exact k5,Fs,t1,by rw [e1];exact t2,λb hb=>(e4 b).2 (t3 b hb),by rw [e2];exact t4⟩
theorem Un {st:St} {π0:Pi} {D:Nat->Prop} {w0:World} (h:Mv X w π st.heap) (al: ∀l,X.gT l=(π0 l).map full): ∀(cs:List (Bool×CK)) (k:Nat) (x:Ins.den cs) (us:List Value) (o:IOs.den cs),eH w0 D π0 k cs x us->On st k cs=some o->
  Ll w (λb=>Ud π b\/X.Sc b) π0 k cs o/\ ∀l∈Py k cs,Au st.heap l≠none
 | [],_,_,_,_,_,_=>⟨trivial,λl hl=>by cases hl⟩
 |_::_,_,_,[],_,h,_=>h.elim
 |(false,c)::r,k,x,u::us,o,hi,he=>Un h al r (k+1) x.2 us o hi.2 (by simpa only [On] using he)
 |(true, .Eu τ)::r,k,x,u::us,o,hi,he=>Un h al r (k+1) x.2 us o hi.2 (by simpa only [On] using he)
 |(true, .Bm e te kp)::r,k,x,u::us,o,hi,he=>Un h al r (k+1) x.2 us o hi.2 (by simpa only [On] using he)
 |(true, .row e te)::r,k,x,u::us,o,hi,he=>by
  simp only [On] at he
  split at he
  ·rename_i x1 x2 h1 h2
   simp only [Aa] at he;subst he
   obtain ⟨g1,g2⟩:=Un h al r (k+1) x.2 us x2 hi.2 h2
   have h0:=hi.1
   simp only [qn] at h1
   split at h1
   ·rename_i fr tr e' Rb xs hl
    split at h1
    ·rename_i hc
     obtain ⟨rfl,rfl⟩:=hc
     simp only [Aa] at h1;subst h1
     unfold St.at at hl
     have hs:=h.gT (Dr true k) (by have:=bl k;omega) (by rw [hl];simp)
     rw [al] at hs
     exact ⟨⟨IE (te:=Rb) hs ((h.heap _).Qi hl),g1⟩,λl Km=>by
      simp only [Py] at Km
      rcases Be.1 Km with rfl|Km
      ·rw [hl];simp
      ·exact g2 l Km⟩
    ·cases h1
   ·cases h1
  ·cases he
 |(true, .part e te)::r,k,x,u::us,o,hi,he=>by
  simp only [On] at he
  split at he
  ·rename_i x1 x2 h1 h2
   simp only [Aa] at he;subst he
   obtain ⟨g1,g2⟩:=Un h al r (k+1) x.2 us x2 hi.2 h2
   have h0:=hi.1
   simp only [qn] at h1
   split at h1
   ·rename_i fr tr e' Rb xs hl
    split at h1
    ·rename_i hc
     obtain ⟨rfl,rfl⟩:=hc
     simp only [Aa] at h1;subst h1
     unfold St.at at hl
     have hs:=h.gT (Dr true k) (by have:=bl k;omega) (by rw [hl];simp)
     rw [al] at hs
     exact ⟨⟨IE (te:=Rb) hs ((h.heap _).Qi hl),g1⟩,λl Km=>by
      simp only [Py] at Km
      rcases Be.1 Km with rfl|Km
      ·rw [hl];simp
      ·exact g2 l Km⟩
    ·cases h1
   ·cases h1
  ·cases he
 |(true, .Hi e te)::r,k,x,u::us,o,hi,he=>by
  simp only [On] at he
  split at he
  ·rename_i x1 x2 h1 h2
   simp only [Aa] at he;subst he
   obtain ⟨g1,g2⟩:=Un h al r (k+1) x.2 us x2 hi.2 h2
   simp only [qn] at h1
   split at h1
   ·rename_i e' Rb xs hl
    split at h1
    ·rename_i hc
     obtain ⟨rfl,rfl⟩:=hc
     simp only [Aa] at h1;subst h1
     unfold St.at at hl
     have hs:=h.gT (Dr true k) (by have:=bl k;omega) (by rw [hl];simp)
     rw [al] at hs
     exact ⟨⟨VS (te:=Rb) hs ((h.heap _).Qi hl),g1⟩,λl Km=>by
      simp only [Py] at Km
      rcases Be.1 Km with rfl|Km
      ·rw [hl];simp
      ·exact g2 l Km⟩
    ·cases h1
   ·cases h1
  ·cases he
theorem wH {p:Bool×CK} {r:List (Bool×CK)} (h:Zx (p::r)=true):Zx r=true:=by
 rcases p with ⟨_|_,c⟩<;>cases c<;>first|(simp [Zx] at h;done)|simpa [Zx] using h
theorem yi: ∀(cs:List (Bool×CK)) (k:Nat) (x:Ins.den cs) (l:Nat),Zx cs=true->k+cs.length<100000->Au (Zs k cs x) l≠none-> ¬l<Bn->l∈Py k cs
 | [],_,_,_,_,_,h,_=>absurd rfl h
 |(io,c)::r,k,x,l,hng,hk,h,hp=>by
  simp only [Az] at hk
  simp only [Zs] at h
  have tail:Au (Zs (k+1) r x.2) l≠none->l∈Py (k+1) r:= λh=>yi r (k+1) x.2 l (wH hng) (by omega) h hp
  have sub: ∀m,m∈Py (k+1) r->m∈Py k ((io,c)::r):= λm hm=>by
   cases io<;>cases c<;>simp only [Py]<;>first|exact hm|exact As _ hm
  cases hc:kC (Dr io k) c x.1 with
  |none=>rw [hc] at h;exact sub l (tail h)
  |some b=>
   rw [hc] at h
   simp only [il,Au] at h
   split at h
   ·rename_i e;subst e
    cases io with
    |false=>exact absurd (fw (by omega)) hp
    |true=>cases c with
     |Eu τ=>cases hc
     |row e te=>simp [Py]
     |Hi e te=>simp [Py]
     |part e te=>simp [Py]
     |Bm e te kp=>simp [Zx] at hng
   ·exact sub l (tail h)
theorem eF.Ip {D D':Nat->Prop} (hD: ∀b,D' b->D b) {r:Option Real} {u:Value} {c:CK} {x:c.den} (h:eF w D r u c x):eF w D' r u c x:=by
 cases c with
 |Eu τ=>exact ⟨h.1,h.2.Ip λb _ hb=>hD b hb⟩
 |row e te=>exact ⟨h.1,Sy.Ip h.2 hD⟩
 |Hi e te=>exact h
 |part e te=>exact ⟨h.1,h.2.1,Sy.Ip h.2.2 hD⟩
 |Bm e te kp=>exact ⟨h.1,aA.Ip h.2 hD⟩
theorem Jb.Ip {D D':Nat->Prop} (hD: ∀b,D' b->D b) {ρ:Pi} : ∀(cs:List CK) (k:Nat) (x:CKs.den cs) (us:List Value),Jb w D ρ k cs x us->Jb w D' ρ k cs x us
 | [],_,_,[],h=>h
 | [],_,_,_::_,h=>h.elim
 |_::_,_,_,[],h=>h.elim
 |_c::r,k,x,_u::us,h=>⟨h.1.Ip hD,Jb.Ip hD r (k+1) x.2 us h.2⟩
theorem Ll.Ip {D D':Nat->Prop} (hD: ∀b,D' b->D b) {π:Pi} : ∀(cs:List (Bool×CK)) (k:Nat) (x:IOs.den cs),Ll w D π k cs x->Ll w D' π k cs x
 | [],_,_,h=>h
 |(false,_)::r,k,x,h=>Ll.Ip hD r (k+1) x h
 |(true, .Eu _)::r,k,x,h=>Ll.Ip hD r (k+1) x h
 |(true, .Bm _ _ _)::r,k,x,h=>Ll.Ip hD r (k+1) x h
 |(true, .row _e _te)::r,k,x,h=>⟨Sy.Ip h.1 hD,Ll.Ip hD r (k+1) x.2 h.2⟩
 |(true, .Hi _e _te)::r,k,x,h=>⟨h.1,Ll.Ip hD r (k+1) x.2 h.2⟩
 |(true, .part _e _te)::r,k,x,h=>⟨Sy.Ip h.1 hD,Ll.Ip hD r (k+1) x.2 h.2⟩
theorem eH.congr {D:Nat->Prop} {π0 cj:Pi} : ∀(cs:List (Bool×CK)) (k:Nat) (x:Ins.den cs) (us:List Value),(∀b j,k<=j->j<k+cs.length->cj (Dr b j)=π0 (Dr b j))->eH w D π0 k cs x us->eH w D cj k cs x us
 | [],_,_,[],_,h=>h
 | [],_,_,_::_,_,h=>h
 |_::_,_,_,[],_,h=>h
 |p::r,k,x,u::us,hp,h=>⟨by rw [hp p.1 k (Ao _) (by simp)];exact h.1,eH.congr r (k+1) x.2 us (λb j h1 h2=>hp b j (by omega) (by simp;omega)) h.2⟩
theorem Ll.congr {D:Nat->Prop} {π0 cj:Pi} : ∀(cs:List (Bool×CK)) (k:Nat) (x:IOs.den cs),(∀b j,k<=j->j<k+cs.length->cj (Dr b j)=π0 (Dr b j))->Ll w D π0 k cs x->Ll w D cj k cs x
 | [],_,_,_,h=>h
 |(false,c)::r,k,x,hp,h=>by cases c<;>exact Ll.congr r (k+1) x (λb j h1 h2=>hp b j (by omega) (by simp;omega)) h
 |(true, .Eu _)::r,k,x,hp,h=>Ll.congr r (k+1) x (λb j h1 h2=>hp b j (by omega) (by simp;omega)) h
 |(true, .Bm _ _ _)::r,k,x,hp,h=>Ll.congr r (k+1) x (λb j h1 h2=>hp b j (by omega) (by simp;omega)) h
 |(true, .row e te)::r,k,x,hp,h=>⟨by rw [hp true k (Ao _) (by simp)];exact h.1,Ll.congr r (k+1) x.2 (λb j h1 h2=>hp b j (by omega) (by simp;omega)) h.2⟩
 |(true, .Hi e te)::r,k,x,hp,h=>⟨by rw [hp true k (Ao _) (by simp)];exact h.1,Ll.congr r (k+1) x.2 (λb j h1 h2=>hp b j (by omega) (by simp;omega)) h.2⟩
 |(true, .part e te)::r,k,x,hp,h=>⟨by rw [hp true k (Ao _) (by simp)];exact h.1,Ll.congr r (k+1) x.2 (λb j h1 h2=>hp b j (by omega) (by simp;omega)) h.2⟩
theorem Ej.congr {π0 cj:Pi} : ∀(cs:List (Bool×CK)) (k:Nat) (o:IOs.den cs) (n:Nat) (us as:List Value),(∀b j,k<=j->j<k+cs.length->cj (Dr b j)=π0 (Dr b j))->Ej π0 k cs o n us as->Ej cj k cs o n us as
 | [],k,o,0,us,as,_,h=>by simpa [Ej] using h
 | [],k,o,n+1,us,as,_,h=>by simp [Ej] at h
 |p::r,k,o,0,us,as,_,h=>by
  rcases p with ⟨_|_,c⟩<;>cases c<;>simpa [Ej] using h
 |(true, .Eu _)::r,k,o,n+1,us,as,_,h=>by simp [Ej] at h
 |(true, .part _ _)::r,k,o,n+1,us,as,_,h=>by simp [Ej] at h
 |(true, .Bm _ _ _)::r,k,o,n+1,us,as,_,h=>by simp [Ej] at h
 |(true, .row e te)::r,k,o,n+1,[],as,_,h=>by simp [Ej] at h
 |(true, .Hi e te)::r,k,o,n+1,[],as,_,h=>by simp [Ej] at h
 |(true, .row e te)::r,k,o,n+1,u::us,as,hp,h=>by
  simp only [Ej] at h⊢
  exact ⟨by rw [hp true k (Ao _) (by simp)];exact h.1,Ej.congr r (k+1) o.2 n us as (λb j h1 h2=>hp b j (by omega) (by simp;omega)) h.2⟩
 |(true, .Hi e te)::r,k,o,n+1,u::us,as,hp,h=>by
  simp only [Ej] at h⊢
  exact ⟨by rw [hp true k (Ao _) (by simp)];exact h.1,Ej.congr r (k+1) o.2 n us as (λb j h1 h2=>hp b j (by omega) (by simp;omega)) h.2⟩
 |(false,c)::r,k,o,n+1,[],as,_,h=>by cases c<;>simp [Ej] at h
 |(false,c)::r,k,o,n+1,u::us,[],_,h=>by cases c<;>simp [Ej] at h
 |(false,c)::r,k,o,n+1,u::us,a::as,hp,h=>by
  have h:u=a/\Ej π0 (k+1) r o n us as:=by cases c<;>exact h
  have:=Ej.congr r (k+1) o n us as (λb j h1 h2=>hp b j (by omega) (by simp;omega)) h.2
  cases c<;>exact ⟨h.1,this⟩
theorem qF: ∀(A B:List (Nat×OB)) (l:Nat),Au (A++B) l=match Au A l with|some b=>some b|none=>Au B l
 | [],B,l=>rfl
 |(k,b)::A,B,l=>by
  simp only [Ma,Au]
  split
  ·rfl
  ·exact qF A B l
theorem uw {st:St} : ∀(cs:List CK) (as:List AC) (x:CKs.den cs) (ls:List Nat),Vi st cs as=some (x,ls)-> ∀l∈ls,∃b,Au st.heap l=some b/\b.row≠none
 | [],[],x,ls,he=>by
  simp only [Vi,Aa,Ad] at he
  obtain ⟨_,rfl⟩:=he
  intro l hl;cases hl
 | [],_::_,_,_,he=>by simp [Vi] at he
 |_::_,[],_,_,he=>by simp [Vi] at he
 |c::r,a::as,x,ls,he=>by
  simp only [Vi] at he
  split at he
  ·rename_i x1 t1 x2 t2 h1 h2
   simp only [Aa,Ad] at he
   obtain ⟨_,rfl⟩:=he
   intro l hl
   rcases Bb.1 hl with hl|hl
   ·unfold kJ at h1
    split at h1
    ·split at h1
     ·cases hv:Dt st _ a with
      |none=>rw [hv] at h1;cases h1
      |some p=>rw [hv] at h1;simp only [Am,Aa,Ad] at h1;obtain ⟨_,rfl⟩:=h1;cases hl
     ·cases h1
    all_goals (repeat' split at h1)
    all_goals first|(cases h1;done)|skip
    all_goals (simp only [Aa,Ad] at h1;obtain ⟨_,rfl⟩:=h1)
    all_goals first|(cases hl;done)|skip
    all_goals (have hl:=Ae.1 hl;subst hl)
    all_goals (rename_i heq _;exact ⟨_,heq,by simp [OB.row]⟩)
   ·exact uw r as x2 t2 h2 l hl
  ·cases he
theorem qT {r r':Option Real} {sz off len:Nat} {v:Value} (h:bC r r') (hv:Hw r' sz off len v):Hw r sz off len v:=by
 cases r<;>cases r'<;>first|exact h.elim|skip
 ·exact hv
 ·obtain ⟨h1,h2,h3,_⟩:=h
  obtain ⟨ad,g1,g2,g3⟩:=hv
  exact ⟨ad,by rw [h3];exact g1,by rw [h3];exact g2,by rw [h1,h2,h3];exact g3⟩
theorem Za {st:St} {π0:Pi} (hs: ∀k,Au st.heap (Dr true k)≠none->bC ((π0 (Dr true k)).map full) (π (Dr true k))):
  ∀(cs:List (Bool×CK)) (k:Nat) (vs:List AC) (us:List Value) (bc:List AC) (o:IOs.den cs),Mw X w π st.heap vs us->Jg k cs vs=some bc->iS st vs cs->On st k cs=some o->
   ∃bv,Mw X w π st.heap bc bv/\bv.length=uP cs vs.length/\ ∀tl,Ej π0 k cs o vs.length us (bv++tl)
 |cs,k,[],us,bc,o,hr,he,_,_=>by
  have e1:us= []:=by cases us with|nil=>rfl|cons u us=>exact hr.elim
  have e2:bc= []:=by rcases cs with _|⟨⟨_|_,c⟩,r⟩<;>simpa [Jg] using he.symm
  subst e1;subst e2
  refine ⟨[],trivial,?_,λtl=>?_⟩
  ·rcases cs with _|⟨⟨_|_,c⟩,r⟩<;>rfl
  ·rcases cs with _|⟨⟨_|_,c⟩,r⟩<;>(try cases c)<;>simp [Ej]
 | [],k,a::vs,us,bc,o,hr,he,_,_=>by simp [Jg] at he
 |p::r,k,a::vs,[],bc,o,hr,_,_,_=>hr.elim
 |(false,c)::r,k,a::vs,u::us,bc,o,hr,he,hk,ho=>by
  have he:(Jg (k+1) r vs).map (λl=>a::l)=some bc:=by cases a<;>exact he
  cases hb:Jg (k+1) r vs with
  |none=>rw [hb] at he;cases he
  |some bc'=>
   rw [hb] at he
   simp only [Am,Aa] at he;subst he
   obtain ⟨bv,g1,g2,g3⟩:=Za hs r (k+1) vs us bc' o hr.2 hb (by cases a<;>exact hk) (by cases c<;>simpa only [On] using ho)
   refine ⟨u::bv,⟨hr.1,g1⟩,by simp [uP,g2],λtl=>?_⟩
   have:=g3 tl
   cases c<;>exact ⟨rfl,this⟩
 |(true,c)::r,k,a::vs,u::us,bc,o,hr,he,hk,ho=>by
  cases c with
  |Eu τ=>cases a<;>simp [Jg] at he
  |part e te=>cases a<;>simp [Jg] at he
  |Bm e te kp=>cases a<;>simp [Jg] at he
  |row e te=>
   cases a<;>first|(simp [Jg] at he;done)|skip
   rename_i l off len
   simp only [Jg] at he
   split at he
   rotate_left
   ·cases he
   rename_i hl
   have hl:l=Dr true k:=Jl hl
   subst hl
   obtain ⟨⟨rfl,hlen⟩,hk⟩:=hk
   obtain ⟨b,sz,n,h1,h2,h3,h4⟩:=hr.1
   have FQ:=hs k (by rw [h1];simp)
   simp only [On] at ho
   split at ho
   ·rename_i x1 x2 q1 q2
    simp only [Aa] at ho;subst ho
    obtain ⟨bv,g1,g2,g3⟩:=Za hs r (k+1) vs us bc x2 hr.2 he hk q2
    refine ⟨bv,g1,by simpa [uP] using g2,λtl=>?_⟩
    refine ⟨?_,g3 tl⟩
    simp only [qn] at q1
    split at q1
    ·rename_i fr tr e' Rb xs Km
     split at q1
     ·rename_i hc
      obtain ⟨rfl,rfl⟩:=hc
      simp only [Aa] at q1;subst q1
      unfold St.at at Km hlen
      rw [Km] at hlen
      rw [h1] at Km;cases Km
      simp only [OB.row,Aa,Ad] at h2
      obtain ⟨rfl,rfl⟩:=h2
      have hlen:len=List.length xs:=hlen
      have:=qT FQ h4
      rw [hlen] at this
      have e0:(π0 (Dr true k)).map full=(π0 (Dr true k)).map full:=rfl
      cases hp:π0 (Dr true k)<;>(rw [hp] at this;exact this)
     ·cases q1
    ·cases q1
   ·cases ho
  |Hi e te=>
   cases a<;>first|(simp [Jg] at he;done)|skip
   rename_i l off len
   simp only [Jg] at he
   split at he
   rotate_left
   ·cases he
   rename_i hl
   have hl:l=Dr true k:=Jl hl
   subst hl
   obtain ⟨⟨rfl,hlen⟩,hk⟩:=hk
   obtain ⟨b,sz,n,h1,h2,h3,h4⟩:=hr.1
   have FQ:=hs k (by rw [h1];simp)
   simp only [On] at ho
   split at ho
   ·rename_i x1 x2 q1 q2
    simp only [Aa] at ho;subst ho
    obtain ⟨bv,g1,g2,g3⟩:=Za hs r (k+1) vs us bc x2 hr.2 he hk q2
    refine ⟨bv,g1,by simpa [uP] using g2,λtl=>?_⟩
    refine ⟨?_,g3 tl⟩
    simp only [qn] at q1
    split at q1
    ·rename_i e' Rb xs Km
     split at q1
     ·rename_i hc
      obtain ⟨rfl,rfl⟩:=hc
      simp only [Aa] at q1;subst q1
      unfold St.at at Km hlen
      rw [Km] at hlen
      rw [h1] at Km;cases Km
      simp only [OB.row,Aa,Ad] at h2
      obtain ⟨rfl,rfl⟩:=h2
      have hlen:len=List.length xs:=hlen
      have:=qT FQ h4
      rw [hlen] at this
      cases hp:π0 (Dr true k)<;>(rw [hp] at this;exact this)
     ·cases q1
    ·cases q1
   ·cases ho
def Apk (s:MSpec) (g:Nat) (π:Pi):Pi:= λl=>if s.ptr.isSome=true/\l=Oz then some ⟨g,0,0,λb=>b=g,λb=>b=g⟩ else π l
def Am2 (P:Program) (s:MSpec) (fn:Func) (x:Ins.den s.ins) (w:World) (S:Nat->Prop) (π:Pi) (g:Nat) (r:CKs.den s.outs) (o:IOs.den s.ins) (a':Act) (w':World):Prop:=
 ∃(v:Value) (Sb:List Value) (ρ:Pi),a'.defers= []/\(results fn a'.tmps).run P w'= .ok v w'/\qh s w' ρ (Sb.drop s.Zv) v/\gU s π w' g Sb o/\Gw w.heap.size (λb=>Ud π b\/s.gv g b) w w'/\Ll w' (gH S π ρ) π 0 s.ins o/\Jb w' (gH S π ρ) ρ 0 s.outs r Sb/\
  eI ρ (λb=>b<w'.heap.size/\(w.heap.size<=b\/ ∃l q,l<Bn/\π l=some q/\q.Ct b))/\(∀l,(∀k,k<s.Tx->l≠Jp k)->ρ l=none)/\(∀kj∈s.keeps,xG w w' (π (Dr false kj.1)) (ρ (Jp kj.2)) (s.Ez x))
theorem Jb.YQ {D:Nat->Prop} {ρ ρ':Pi} : ∀(cs:List CK) (k:Nat) (x:CKs.den cs) (us:List Value),(∀j,k<=j->j<k+cs.length->ρ' (Jp j)=ρ (Jp j))->Jb w D ρ k cs x us->Jb w D ρ' k cs x us
 | [],_,_,[],_,h=>h
 | [],_,_,_::_,_,h=>h.elim
 |_::_,_,_,[],_,h=>h.elim
 |c::r,k,x,u::us,he,h=>⟨by rw [he k (Ao _) (by simp)];exact h.1,Jb.YQ r (k+1) x.2 us (λj hj hl=>he j (by omega) (by simp;omega)) h.2⟩
theorem yl {st:St} {n:Nat} {as:List AC} : ∀ {ks:List (Nat×Nat)},yk st n as ks-> ∀kj∈ks,∃l off len e te rows out p,as[kj.2]?=some (.own l off len)/\Au st.heap l=some (.Bm e te rows out (some p))/\p.1=Dr false kj.1/\n<=p.2/\kj.1<1000
 | [],_,kj,hm=>by cases hm
 |(k,j)::r,h,kj,hm=>by
  simp only [yk] at h
  rcases Be.1 hm with rfl|hm
  ·obtain ⟨h,_⟩:=h
   split at h
   ·rename_i l off len he
    split at h
    ·rename_i e te rows out p hl
     unfold St.at at hl
     exact ⟨l,off,len,e,te,rows,out,p,he,hl,h.1,h.2.1,by simpa using h.2.2⟩
    ·exact h.elim
   ·exact h.elim
  ·exact yl h.2 kj hm
theorem yw {st:St} : ∀(cs:List CK) (as:List AC) (x:CKs.den cs) (ls:List Nat),Vi st cs as=some (x,ls)->as.length=cs.length
 | [],[],_,_,_=>rfl
 | [],_::_,_,_,he=>by simp [Vi] at he
 |_::_,[],_,_,he=>by simp [Vi] at he
 |c::r,a::as,x,ls,he=>by
  simp only [Vi] at he
  split at he
  ·rename_i h1 h2
   simp only [Az,yw r as _ _ h2]
  ·cases he
theorem IC {α β:Type} (f:α->Sem β): ∀(l:List α) (vs:List β),vs.length=l.length->(∀(i:Nat) a v,l[i]?=some a->vs[i]?=some v->(f a).run P w= .ok v w)->(l.mapM f).run P w= .ok vs w
 | [],[],_,_=>by simp
 | [],_::_,h,_=>by simp at h
 |_::_,[],h,_=>by simp at h
 |a::l,v::vs,h,hr=>by
  rw [List.mapM_cons]
  simp only [Sem.run_bind,hr 0 a v rfl rfl,Result.andThen_ok,IC f l vs (by simpa using h) (λi a' v' ha hv=>hr (i+1) a' v' (by simpa using ha) (by simpa using hv)),Sem.run_pure]
theorem wk (hT:Dz P T) (Pg:Ki P Γ) (hm:P.follows .mixedOrders=true) {f:FuncId} {fn:Func} (hf:P.funcs[f]?=some fn) (s:MSpec) (w:World) (S:Nat->Prop) (π:Pi) (us:List Value) (x:Ins.den s.ins)
  (r:CKs.den s.outs) (o:IOs.den s.ins) (g:Nat) (mQ:List Value) (Qx:oR s w g us mQ) (hSg:s.ptr.isSome=true->S g) (iL:eH w (λb=>Ud π b\/S b) π 0 s.ins x us) (jW:eI π (λb=>b<w.heap.size)) (hS: ∀b,S b->b<w.heap.size/\ ¬Ud π b) (ZA: ∀l,Au (Zs 0 s.ins x) l=none->π l=none) (he:Afu T Γ s fn x λz=>z=(r,o)):
  Calls P f mQ.toArray w λe w'=> ∃v Sb ρ,e= .returned v/\qh s w' ρ (Sb.drop s.Zv) v/\gU s π w' g Sb o/\Gw w.heap.size (λb=>Ud π b\/s.gv g b) w w'/\Ll w' (gH S π ρ) π 0 s.ins o/\Jb w' (gH S π ρ) ρ 0 s.outs r Sb/\
   eI ρ (λb=>b<w'.heap.size/\(w.heap.size<=b\/ ∃l q,l<Bn/\π l=some q/\q.Ct b))/\(∀l,(∀k,k<s.Tx->l≠Jp k)->ρ l=none)/\(∀kj∈s.keeps,xG w w' (π (Dr false kj.1)) (ρ (Jp kj.2)) (s.Ez x)):=by
 obtain ⟨hlen,c,hb,he⟩:=he
 simp only [Af,Nd] at hlen
 obtain ⟨hlen,ZD⟩:=hlen
 unfold AW at ZD
 simp only [Af] at ZD
 have An6:=ZD.1
 let rC:Pi:=Apk s g π
 let Sg:Nat->Prop:= λb=>S b/\ ¬s.gv g b
 have hvl: ∀b j,j<1000->Dr b j≠Oz:= λb j hj=>by cases b<;>(unfold Dr Oz;simp;omega)
 have zF: ∀b j,0<=j->j<0+s.ins.length->rC (Dr b j)=π (Dr b j):= λb j _ hj=>Ag λh=>hvl b j (by omega) h.2
 have Agq: ∀b j,0<=j->j<0+s.ins.length->π (Dr b j)=rC (Dr b j):= λb j h1 h2=>(zF b j h1 h2).symm
 have Aje:Au (Zs 0 s.ins x) Oz=none:=Cc λhn=>by
  obtain ⟨b,j,_,h2,h3⟩:=u6 s.ins 0 x Oz hn
  exact hvl b j (by omega) h3.symm
 have WR: ∀l q,rC l=some q->(π l=some q/\(s.ptr.isSome=true->l≠Oz))\/(s.ptr.isSome=true/\l=Oz/\q=⟨g,0,0,λb=>b=g,λb=>b=g⟩):= λl q hq=>by
  have hq:(if s.ptr.isSome=true/\l=Oz then some ⟨g,0,0,λb=>b=g,λb=>b=g⟩ else π l)=some q:=hq
  split at hq
  ·rename_i hc;exact .inr ⟨hc.1,hc.2,(Ba hq).symm⟩
  ·rename_i hc;exact .inl ⟨hq,λh1 h2=>hc ⟨h1,h2⟩⟩
 have Zr: ∀b,Ud rC b↔Ud π b\/s.gv g b:= λb=>by
  constructor
  ·rintro ⟨l,q,h1,h2⟩
   rcases WR l q h1 with ⟨h3,_⟩|⟨h3,h4,rfl⟩
   ·exact .inl ⟨l,q,h3,h2⟩
   ·exact .inr ⟨h3,h2⟩
  ·rintro (⟨l,q,h1,h2⟩|⟨h1,rfl⟩)
   ·refine ⟨l,q,?_,h2⟩
    show (if s.ptr.isSome=true/\l=Oz then _ else π l)=some q
    rw [Ag]
    ·exact h1
    ·rintro ⟨_,rfl⟩
     rw [ZA Oz Aje] at h1;cases h1
   ·exact ⟨Oz,⟨b,0,0,λc=>c=b,λc=>c=b⟩,Ab ⟨h1,rfl⟩,rfl⟩
 have hgS: ∀b,s.gv g b->S b:= λb ⟨h1,h2⟩=>h2▸hSg h1
 have Aik:eH w (λb=>Ud rC b\/Sg b) rC 0 s.ins x us:=eH.congr s.ins 0 x us zF (eH.Ip (λb hb=>by
  rcases hb with hb|hb
  ·rcases (Zr b).1 hb with hb|hb
   ·exact .inl hb
   ·exact .inr (hgS b hb)
  ·exact .inr hb.1) s.ins 0 x us iL)
 have Anb:eI rC (λb=>b<w.heap.size):=⟨λl q b h1 h2=>by
  rcases WR l q h1 with ⟨h3,_⟩|⟨h3,h4,rfl⟩
  ·exact jW.aL l q b h3 h2
  ·exact (hS b (hgS b ⟨h3,h2⟩)).1,λl l' q q' b h1 h2 h3 h4=>by
  rcases WR l q h1 with ⟨h5,_⟩|⟨h5,h6,rfl⟩<;>rcases WR l' q' h2 with ⟨h7,_⟩|⟨h7,h8,rfl⟩
  ·exact jW.inj l l' q q' b h5 h7 h3 h4
  ·exact absurd ⟨l,q,h5,h3⟩ (hS b (hgS b ⟨h7,h4⟩)).2
  ·exact absurd ⟨l',q',h7,h4⟩ (hS b (hgS b ⟨h5,h3⟩)).2
  ·rw [h6,h8]⟩
 have Arn: ∀b,Sg b->b<w.heap.size/\ ¬Ud rC b:= λb hb=>⟨(hS b hb.1).1,λho=>((Zr b).1 ho).elim (hS b hb.1).2 hb.2⟩
 have RM: ∀l,Au (qJ s x) l=match Au (Zs 0 s.ins x) l with|some b=>some b|none=>if l=Oz then s.ptr.map λp=> .var p.1 ((bP 0 s.ins x).take p.2) else none:= λl=>by
  unfold qJ
  cases hp:s.ptr with
  |none=>cases Au (Zs 0 s.ins x) l<;>simp
  |some p=>
   simp only
   rw [qF]
   cases Au (Zs 0 s.ins x) l with
   |some b=>rfl
   |none=>
    simp only [Au,Am]
    by_cases e:l=Oz
    ·rw [Ab e,Ab e.symm]
    ·rw [Ag e,Ag (λh=>e h.symm)]
 let π0:Pi:= λl=>(rC l).map full
 have un: ∀l q,π0 l=some q-> ∃q0,rC l=some q0/\q=full q0:= λl q hq=>by
  have hq:(rC l).map full=some q:=hq
  cases hp:rC l with
  |none=>rw [hp] at hq;cases hq
  |some q0=>rw [hp] at hq;exact ⟨q0,rfl,(Ba hq).symm⟩
 have ZG: ∀l b,Au (Zs 0 s.ins x) l=some b->Au (qJ s x) l=some b:= λl b hb=>by rw [RM l,hb]
 have hrc:Mw ⟨w,Sg,Ud rC,π0⟩ w π0 (qJ s x) (bP 0 s.ins x) us:=FV (λ_=>rfl) s.ins 0 x us (by omega) Aik ZG
 have Aa1:s.ptr.isSome=true->π0 Oz=some ⟨g,0,0,λb=>b=g,λb=>b=g⟩:= λhp=>by
  show (if s.ptr.isSome=true/\Oz=Oz then _ else π Oz).map full=_
  rw [Ab ⟨hp,rfl⟩];rfl
 obtain ⟨g1,g2⟩:(aH s (bP 0 s.ins x)).length=mQ.length/\ ∀(i:Nat) c v,(aH s (bP 0 s.ins x))[i]?=some c->mQ[i]?=some v->Bu ⟨w,Sg,Ud rC,π0⟩ w π0 (qJ s x) c v:=by
  unfold oR at Qx
  cases hp:s.ptr with
  |none=>
   rw [hp] at Qx
   obtain ⟨rfl,KP⟩:=Qx
   obtain ⟨g1,g2,_,_⟩:=dS s.Je _ us KP hrc
   rw [show aH s (bP 0 s.ins x)=Tc s.Je (bP 0 s.ins x) by unfold aH;rw [hp]]
   exact ⟨g1,g2⟩
  |some p=>
   rw [hp] at Qx
   obtain ⟨rfl,KP,_⟩:=Qx
   obtain ⟨g1,g2,_,_⟩:=dS s.Je _ (us.drop p.2) KP (Mw.take p.2 hrc).2
   rw [show aH s (bP 0 s.ins x)= .at (.Hm Oz 0)::Tc s.Je ((bP 0 s.ins x).drop p.2) by unfold aH;rw [hp]]
   refine ⟨by simp [g1],λi c v h1 h2=>?_⟩
   rcases i with _|i
   ·simp only [Bz,Aa] at h1 h2
    subst h1;subst h2
    exact ⟨_,p.1,(bP 0 s.ins x).take p.2,by rw [RM,Aje];simp [hp],Aa1 (by rw [hp];rfl),rfl⟩
   ·exact g2 i c v (by simpa using h1) (by simpa using h2)
 have h0:Rel ⟨w,Sg,Ud rC,π0⟩ {tmps:=aH s (bP 0 s.ins x)++List.replicate (fn.ntmps-(aH s (bP 0 s.ins x)).length) .undef,heap:=qJ s x}
   {tmps:=mQ.toArray++Array.replicate (fn.ntmps-mQ.toArray.size) undef,defers:= []} w:=by
  refine ⟨π0,⟨Gw.refl _ _ _,λb hb=>Arn b hb,λl q b h1 h2=>?_,λl q b h1 h2=>?_,λl l' q q' b h1 h2 h3 h4=>?_,λl _ _=>bC.rfl' _,λl=>?_⟩,⟨by simp [g1],rfl,λt=>?_⟩⟩
  ·obtain ⟨q0,_,rfl⟩:=un l q h1;exact h2
  ·obtain ⟨q0,h3,rfl⟩:=un l q h1
   exact ⟨.inr ⟨l,q0,h3,h2⟩,Anb.aL l q0 b h3 h2⟩
  ·obtain ⟨q0,h5,rfl⟩:=un l q h1
   obtain ⟨q0',h6,rfl⟩:=un l' q' h2
   exact Anb.inj l l' q0 q0' b h5 h6 h3 h4
  ·cases hh:Au (Zs 0 s.ins x) l with
   |none=>
    by_cases hv:s.ptr.isSome=true/\l=Oz
    ·obtain ⟨hps,rfl⟩:=hv
     obtain ⟨p,hp⟩:=gQ.1 hps
     refine Gd.Lg (b:= .var p.1 ((bP 0 s.ins x).take p.2)) ?_ (by rw [RM,hh];simp [hp])
     unfold oR at Qx
     rw [hp] at Qx
     obtain ⟨_,_,h1,h2,h3⟩:=Qx
     rw [Aa1 hps]
     exact ⟨_,rfl,rfl,_,h2,Mw.to (Mw.take p.2 hrc).1 h3⟩
    ·refine Gd.Ug ?_ ?_
     ·show (if s.ptr.isSome=true/\l=Oz then _ else π l).map full=none
      rw [Ag hv,ZA l hh];rfl
     ·rw [RM,hh]
      simp only
      split
      ·rename_i e
       cases hp:s.ptr with
       |none=>rfl
       |some p=>exact absurd ⟨by rw [hp];rfl,e⟩ hv
      ·rfl
   |some b=>exact Gd.Lg (m6 (π0:=rC) (λb hb=>by
    rcases hb with ⟨l,q,h1,h2⟩|hb|⟨hb,_⟩
    ·obtain ⟨q0,h3,rfl⟩:=un l q h1;exact .inl ⟨l,q0,h3,h2⟩
    ·exact .inr hb
    ·cases hb) rfl (λ_=>rfl) s.ins 0 x us Aik l b hh) (ZG l b hh)
  ·show Bu _ w _ _ ((aH s (bP 0 s.ins x)++List.replicate _ AV.undef).getD t .undef) ((mQ.toArray++Array.replicate _ undef).getD t undef)
   by_cases ht:t<mQ.length
   ·rw [Ak,At (by omega),<-Ak]
    rw [cm,Tn (by simpa using ht)]
    have:=g2 t _ _ (Ac (by omega)) (Ac ht)
    simpa [Ak,Ac ht,Ac (show t<(aH s (bP 0 s.ins x)).length by omega)] using this
   ·have:(aH s (bP 0 s.ins x)++List.replicate (fn.ntmps-(aH s (bP 0 s.ins x)).length) AV.undef).getD t .undef= .undef:=by
     rw [Ak,Ar (by omega)]
     rw [Yx]
     split<;>rfl
    rw [this];trivial
 have fin: ∀(st:St) (a':Act) (w':World),XX T s fn x st (λz=>z=(r,o))->Rel ⟨w,Sg,Ud rC,π0⟩ st a' w'->Am2 P s fn x w S π g r o a' w':=by
  intro st a' w' rP hrel
  obtain ⟨cj,h'⟩:=hrel
  have Agx:Bn<=Oz:=by unfold Bn Oz;omega
  obtain ⟨bc,qD,Atm,hbc⟩: ∃bc,ki T s fn x st bc (λz=>z=(r,o))/\(s.ptr.isSome=true-> ∃b,Au st.heap Oz=some b/\b.row=none)/\
    (On st 0 s.ins=some o-> ∃bv,Mw ⟨w,Sg,Ud rC,π0⟩ w' cj st.heap bc bv/\bv.length=s.Zv/\ ∀tl,gU s π w' g (bv++tl) o):=by
   unfold XX at rP
   cases hp:s.ptr with
   |none=>
    rw [hp] at rP
    exact ⟨[],rP,λh=>by simp at h,λ_=>⟨[],trivial,by simp [MSpec.Zv,hp],λtl=>by simp [gU,hp]⟩⟩
   |some p=>
    rw [hp] at rP
    obtain ⟨vs,cs,h1,h2,h3,h4,h5⟩:=rP
    unfold St.at at h1
    refine ⟨cs,h5,λ_=>⟨_,h1,rfl⟩,λzC=>?_⟩
    obtain ⟨q,k1,k2,cur,k3,k4⟩:=(h'.1.heap Oz).Qi h1
    have hsv:bC (π0 Oz) (cj Oz):=h'.1.gT Oz Agx (by rw [h1];simp)
    rw [Aa1 (by rw [hp];rfl),k1] at hsv
    have hqg:g=q.g:=hsv.1
    obtain ⟨bv,g1,g2,g3⟩:=Za (π0:=rC) (λk hk=>h'.1.gT _ (Nat.le_of_not_lt (bl k)) hk) s.ins 0 vs cur.toList cs o (Mw.of k4) h3 h4 zC
    refine ⟨bv,g1,by rw [g2,h2];simp [MSpec.Zv,hp],λtl=>?_⟩
    unfold gU
    rw [hp]
    refine ⟨cur.toList,by rw [hqg];simpa using k3,λu hu=>?_,Ej.congr s.ins 0 o p.2 _ _ Agq (h2▸g3 tl)⟩
    obtain ⟨i,hi,rfl⟩:=Cl.1 hu
    have hl:=k4.1
    obtain ⟨u',h6,h7,_⟩:=k4.2 i (vs[i]'(by omega)) (Ac _)
    rw [Ac hi] at h6
    rw [Ba h6];exact h7
  unfold ki at qD
  split at qD
  ·exact qD.elim
  rename_i l hl
  split at qD
  ·exact qD.elim
  rename_i as ml gM
  split at qD
  rotate_left
  ·exact qD.elim
  rename_i r' ls o' MG qC
  obtain ⟨Jn,yb,ZU⟩:=qD
  simp only [Af,Nd] at Jn
  obtain ⟨⟨⟨RP,Axl⟩,Avq⟩,An1⟩:=Jn
  simp only [Ad] at ZU
  obtain ⟨rfl,rfl⟩:=ZU
  obtain ⟨bv,hbv,Arz,Arx⟩:=hbc qC
  have ME:=Yc RP
  obtain ⟨n1,n2,n3⟩:=Cy.1 ME
  obtain ⟨m1,m2,m3⟩:=Cy.1 n1
  obtain ⟨vs,v1,v2,v3,v4⟩:=Ye hT h' _ _ hl
  have hrs:fn.results=fn.results.toList.toArray:=Array.toArray_toList.symm
  have Vr: ∀v,(if h:vs.toArray.size=1 then vs.toArray[0] else .tuple vs.toArray)=v->(results fn a'.tmps).run P w'= .ok v w':=by
   intro v hv
   rw [fv,hrs,List.mapM_toArray]
   simp only [map_eq_pure_bind,bind_assoc,pure_bind]
   simp only [Sem.run_bind,IC (OR a'.tmps) _ vs v1 v3,Result.andThen_ok,Sem.run_pure]
   rw [hv]
  obtain ⟨xm,v,qm,Atj,hv,hqm⟩: ∃xm v qm,Mw ⟨w,Sg,Ud rC,π0⟩ w' cj st.heap as xm/\(results fn a'.tmps).run P w'= .ok v w'/\
    ((s.rp=none/\ml= []/\qm=none/\Abe s.Gy s.Hz xm v/\cT s.Hz xm)\/
     ∃tid m q,s.rp=some tid/\ml= [m]/\m<Bn/\qm=some q/\cj m=some q/\q.Ct q.g/\w'.heap[q.g]?=some (.cells xm.toArray tid (0,0))/\(∀u∈xm,u.oneCell'=true)/\v= .pointer (some ⟨q.g,0,none⟩)):=by
   unfold OQ at gM
   split at gM
   ·rename_i KO
    split at gM
    rotate_left
    ·cases gM
    rename_i hmul
    cases oQ:ungroup s.Hz l with
    |none=>rw [oQ] at gM;cases gM
    |some as'=>
     rw [oQ] at gM
     simp only [Am,Aa,Ad] at gM
     obtain ⟨rfl,rfl⟩:=gM
     obtain ⟨xm,e1,e2,e3⟩:=a9 s.Hz l vs as' (by omega) v4 oQ
     have hv: ∃v,(results fn a'.tmps).run P w'= .ok v w'/\Abe s.Gy s.Hz xm v:=by
      unfold Abe
      rw [<-e1,hmul]
      rcases Nat.lt_or_ge 1 l.length with h1|h1
      ·have zB:Nat.blt 1 l.length=true:=by simpa using h1
       simp only [zB,Ph]
       refine ⟨.tuple vs.toArray,Vr _ ?_,rfl⟩
       rw [dif_neg (by simp;omega)]
      ·have zB:Nat.blt 1 l.length=false:=by rw [<-Ii];simpa using h1
       simp only [zB,Dh,Tr]
       rcases vs with _|⟨v,_|⟨v',vs⟩⟩
       ·exact ⟨_,Vr _ (by simp;rfl), .inr rfl⟩
       ·exact ⟨v,Vr _ (by simp), .inl rfl⟩
       ·exfalso;simp only [Az] at v1;omega
     obtain ⟨v,hv1,hv2⟩:=hv
     exact ⟨xm,v,none,e3,hv1, .inl ⟨KO,rfl,rfl,hv2,e2⟩⟩
   ·rename_i tid KO
    split at gM
    rotate_left
    ·cases gM
    rename_i m i
    split at gM
    rotate_left
    ·cases gM
    rename_i Ux vs' hm
    split at gM
    rotate_left
    ·cases gM
    rename_i hc
    obtain ⟨rfl,rfl,hmp⟩:=hc
    simp only [Aa,Ad] at gM
    obtain ⟨rfl,rfl⟩:=gM
    unfold St.at at hm
    rcases vs with _|⟨v,_|⟨v',vs⟩⟩
    ·exfalso;simp only [Az,Gc] at v1 v2;omega
    ·obtain ⟨q,Azv,vs2,q1,q2,q3⟩:=v4 0 _ v rfl rfl
     rw [hm] at q1;cases q1
     obtain ⟨q',k1,k2,cur,k3,k4⟩:=(h'.1.heap m).Qi hm
     rw [q2] at k1;cases k1
     refine ⟨cur.toList,v,some q,Mw.of k4,Vr _ (by simp), .inr ⟨_,m,q,KO,rfl,by simpa using hmp,rfl,q2,k2,by simpa using k3,λu hu=>?_,q3⟩⟩
     obtain ⟨i,hi,rfl⟩:=Cl.1 hu
     have hl:=k4.1
     obtain ⟨u',h6,h7,_⟩:=k4.2 i (vs'[i]'(by omega)) (Ac _)
     rw [Ac hi] at h6
     rw [Ba h6];exact h7
    ·exfalso;simp only [Az,Gc] at v1 v2;omega
  obtain ⟨DI,p1,p2,p3,p4,p5⟩:=yx h'.1 s.outs 0 (bc++as) (bv++xm) r' ls (hbv.append Atj) MG m2
  obtain ⟨io1,io2⟩:=Un (π0:=rC) h'.1 (λ_=>rfl) s.ins 0 x us o' Aik qC
  have Amp:(bv++xm).drop s.Zv=xm:=by rw [<-Arz];simp
  let ρ:Pi:= λl0=>if l0=Jp s.outs.length then qm else DI l0
  have Ajj:ρ (Jp s.outs.length)=qm:=Ab rfl
  have Ao9: ∀l0,l0≠Jp s.outs.length->ρ l0=DI l0:= λl0 h=>Ag h
  have Ao8: ∀j,j<s.outs.length->ρ (Jp j)=DI (Jp j):= λj hj=>Ao9 _ (by unfold Jp;omega)
  have w6: ∀l0 q,ρ l0=some q->(l0=Jp s.outs.length/\qm=some q)\/(l0≠Jp s.outs.length/\DI l0=some q):= λl0 q h=>by
   by_cases e:l0=Jp s.outs.length
   ·subst e;rw [Ajj] at h;exact .inl ⟨rfl,h⟩
   ·rw [Ao9 l0 e] at h;exact .inr ⟨e,h⟩
  have Anh: ∀q,qm=some q-> ∃m,ml= [m]/\m<Bn/\cj m=some q:= λq hq=>by
   rcases hqm with ⟨_,_,h1,_⟩|⟨_,m,q',_,h1,h2,h3,h4,_⟩
   ·rw [h1] at hq;cases hq
   ·rw [h3] at hq;cases hq;exact ⟨m,h1,h2,h4⟩
  have p3': ∀l0 q b,ρ l0=some q->q.Ct b-> ∃l1∈ml++ls,∃p,cj l1=some p/\p.cl b/\((s.outs.all λc=>!c.isX)=true->p.Ct b)/\((l1∈ls)\/l1<Bn):= λl0 q b h1 h2=>by
   rcases w6 l0 q h1 with ⟨_,h3⟩|⟨_,h3⟩
   ·obtain ⟨m,e1,e2,e3⟩:=Anh q h3
    exact ⟨m,by rw [e1];simp,q,e3,h'.1.sub m q b e3 h2,λ_=>h2, .inr e2⟩
   ·obtain ⟨l1,g1,p,g2,g3,g4⟩:=p3 l0 q b h3 h2
    exact ⟨l1,Bt _ g1,p,g2,g3,g4, .inl g1⟩
  have p4': ∀l0 l1 q q' b,ρ l0=some q->ρ l1=some q'->q.Ct b->q'.Ct b->l0=l1:= λl0 l1 q q' b h1 h2 h3 h4=>by
   have EK: ∀l0 q q' b,DI l0=some q->qm=some q'->q.Ct b->q'.Ct b->False:= λl0 q q' b h1 h2 h3 h4=>by
    obtain ⟨m,e1,e2,e3⟩:=Anh q' h2
    obtain ⟨l1,g1,p,g2,g3,_⟩:=p3 l0 q b h1 h3
    have:=h'.1.inj m l1 q' p b e3 g2 (h'.1.sub m q' b e3 h4) g3
    exact m3 m (by rw [e1];simp) l1 g1 this
   rcases w6 l0 q h1 with ⟨e1,h5⟩|⟨e1,h5⟩<;>rcases w6 l1 q' h2 with ⟨e2,h6⟩|⟨e2,h6⟩
   ·rw [e1,e2]
   ·exact (EK l1 q' q b h6 h5 h4 h3).elim
   ·exact (EK l0 q q' b h5 h6 h3 h4).elim
   ·exact p4 l0 l1 q q' b h5 h6 h3 h4
  have RT: ∀l0 q,Bn<=l0->rC l0=some q->Au st.heap l0≠none/\(l0∈Py 0 s.ins\/ ∃b,Au st.heap l0=some b/\b.row=none):= λl0 q h1 h2=>by
   rcases WR l0 q h2 with ⟨h3,_⟩|⟨h3,rfl,_⟩
   ·have zC:=yi s.ins 0 x l0 An6 (by omega) (λhnn=>by rw [ZA l0 hnn] at h3;cases h3) (by omega)
    exact ⟨io2 l0 zC, .inl zC⟩
   ·obtain ⟨b,h4,h5⟩:=Atm h3
    exact ⟨by rw [h4];simp, .inr ⟨b,h4,h5⟩⟩
  have hDO:(s.outs.all λc=>!c.isX)=true-> ∀b,gH Sg rC ρ b->Ud cj b\/Sg b:=by
   intro hx b hb
   rcases hb with hb|⟨l0,q,h1,h2,h3⟩|⟨l0,q,h1,h2⟩
   ·exact .inr hb
   ·have hs:=h'.1.gT l0 h1 (RT l0 q h1 h2).1
    have hs:bC ((rC l0).map full) (cj l0):=hs
    rw [h2] at hs
    cases yc:cj l0 with
    |none=>rw [yc] at hs;exact hs.elim
    |some q1=>rw [yc] at hs;exact .inl ⟨l0,q1,yc,(hs.2.2.2 b).1 h3⟩
   ·obtain ⟨m,_,p,hm2,_,hm4,_⟩:=p3' l0 q b h1 h2
    exact .inl ⟨m,p,hm2,hm4 hx⟩
  have hDD: ∀b,gH S π ρ b->gH Sg rC ρ b:= λb hb=>by
   rcases hb with hb|⟨l0,q,h1,h2,h3⟩|hb
   ·by_cases xY:s.gv g b
    ·obtain ⟨hps,rfl⟩:=xY
     exact .inr (.inl ⟨Oz,_,Agx,Ab ⟨hps,rfl⟩,rfl⟩)
    ·exact .inl ⟨hb,xY⟩
   ·refine .inr (.inl ⟨l0,q,h1,?_,h3⟩)
    show (if s.ptr.isSome=true/\l0=Oz then _ else π l0)=some q
    rw [Ag]
    ·exact h2
    ·rintro ⟨_,rfl⟩
     rw [ZA Oz Aje] at h2;cases h2
   ·exact .inr (.inr hb)
  have XM:s.flat=true\/(s.outs.all λc=>!c.isX)=true:=by unfold MSpec.Aao at An1;simpa only [Ka] using An1
  have io1:Ll w' (gH S π ρ) π 0 s.ins o':=by
   refine Ll.congr s.ins 0 o' Agq ?_
   rcases XM with hf|hf
   ·unfold MSpec.flat at hf
    simp only [Af] at hf
    exact Ll.any s.ins 0 o' hf.2 io1
   ·exact Ll.Ip (λb hb=>hDO hf b (hDD b hb)) s.ins 0 o' io1
  have p1:Jb w' (gH S π ρ) ρ 0 s.outs r' (bv++xm):=by
   have p1:Jb w' (λb=>Ud cj b\/Sg b) ρ 0 s.outs r' (bv++xm):=Jb.YQ s.outs 0 r' _ (λj _ hj=>Ao8 j (by omega)) p1
   rcases XM with hf|hf
   ·unfold MSpec.flat at hf
    simp only [Af] at hf
    exact Jb.any s.outs 0 r' (bv++xm) hf.1 p1
   ·exact Jb.Ip (λb hb=>hDO hf b (hDD b hb)) s.outs 0 r' (bv++xm) p1
  refine ⟨v,bv++xm,ρ,h'.2.defers,hv,?_,Arx xm,⟨h'.1.below.os,h'.1.below.tape,h'.1.below.output,h'.1.below.size,λk hk hn=>h'.1.below.block k hk λho=>hn ((Zr k).1 ho)⟩,io1,p1,⟨λl0 q b h1 h2=>?_,p4'⟩,λl0 hl0=>?_,λkj XP=>?_⟩
  ·rw [Amp]
   unfold qh
   rcases hqm with ⟨h1,_,_,h2⟩|⟨tid,m,q,h1,_,_,h3,_,h4,h5,h6,h7⟩
   ·rw [h1];exact h2
   ·rw [h1];exact ⟨q,by rw [Ajj,h3],h4,h5,h6,h7⟩
  ·obtain ⟨m,hm1,p,hm2,hm3,_,hm4⟩:=p3' l0 q b h1 h2
   obtain ⟨k1,k2⟩:=h'.1.place m p b hm2 hm3
   refine ⟨k2,k1.imp id λ⟨c0,q0,h5,h6⟩=>?_⟩
   have It:c0<Bn:=Cc λhn=>by
    obtain ⟨Ik,zC⟩:=RT c0 q0 (by omega) h5
    have hs:=h'.1.gT c0 (by omega) Ik
    have hs:bC ((rC c0).map full) (cj c0):=hs
    rw [h5] at hs
    cases yc:cj c0 with
    |none=>rw [yc] at hs;exact hs.elim
    |some q1=>
     rw [yc] at hs
     have hf1:q1.Ct b:=(hs.2.2.2 b).1 h6
     have:=h'.1.inj c0 m q1 p b yc hm2 (h'.1.sub c0 q1 b yc hf1) hm3
     subst this
     rcases hm4 with hm4|hm4
     ·rcases zC with zC|⟨b1,zB,hb2⟩
      ·exact n3 c0 hm1 c0 zC rfl
      ·obtain ⟨b2,hb3,hb4⟩:=uw s.outs _ _ _ MG c0 hm4
       rw [zB] at hb3;cases hb3
       exact hb4 hb2
     ·exact hn hm4
   refine ⟨c0,q0,It,?_,h6⟩
   rcases WR c0 q0 h5 with ⟨h7,_⟩|⟨_,h7,_⟩
   ·exact h7
   ·omega
  ·cases hp:ρ l0 with
   |none=>rfl
   |some q=>
    rcases w6 l0 q hp with ⟨e,h3⟩|⟨_,h3⟩
    ·refine absurd e (hl0 _ ?_)
     rcases hqm with ⟨_,_,h4,_⟩|⟨tid,m,q',h4,_⟩
     ·rw [h4] at h3;cases h3
     ·unfold MSpec.Tx;rw [h4];simp
    ·obtain ⟨j,_,j2,j3⟩:=p2 l0 q h3
     exact absurd j3 (hl0 j (by unfold MSpec.Tx;omega))
  ·obtain ⟨l0,off,len,e,te,rows,out,p,q1,q2,q3,q4,q5⟩:=yl yb kj XP
   have hj:kj.2<s.outs.length:=by
    rw [<-yw s.outs _ _ _ MG]
    exact (An.1 q1).1
   have e1:=p5 kj.2 l0 off len e te rows out (some p) q1 q2
   rw [Bv] at e1
   rw [Ao8 _ hj,e1]
   have hk:=((h'.1.heap l0).Qi q2).2
   obtain ⟨l1,n1⟩:=p
   simp only [KeptAt] at hk
   dsimp only at q3 q4
   subst q3
   have TY:π0 (Dr false kj.1)=(π (Dr false kj.1)).map full:=by
    show (if s.ptr.isSome=true/\Dr false kj.1=Oz then _ else π (Dr false kj.1)).map full=_
    rw [Ag λh=>hvl false kj.1 q5 h.2]
   rw [TY] at hk
   unfold xG
   cases hp:π (Dr false kj.1) with
   |none=>
    rw [hp] at hk
    cases yc:cj l0 with
    |none=>trivial
    |some q=>rw [yc] at hk;exact hk.elim
   |some q0=>
    rw [hp] at hk
    cases yc:cj l0 with
    |none=>rw [yc] at hk;exact hk.elim
    |some q=>
     rw [yc] at hk
     obtain ⟨k1,k2,k3,k4⟩:=hk
     exact ⟨k1,k2,k3,λj hj hc=>k4 j (by omega) hc⟩
 refine calls_of_wp hf hb ?_
 refine (uS hT Pg hm he _ w _ h0 λe st a' w' ⟨Ik,rP⟩ h'=>?_).1
 obtain ⟨v,Sb,ρ,p1,p2,p3⟩:=fin st a' w' rP h'
 cases e with
 |normal=>exact ⟨p1,v,p2,v,Sb,ρ,rfl,p3⟩
 |ret=>exact ⟨p1,v,p2,v,Sb,ρ,rfl,p3⟩
 |exit id=>exact absurd rfl (Ik id)
end
end Go.Proofs.YtfolipnappekaaaGreat
