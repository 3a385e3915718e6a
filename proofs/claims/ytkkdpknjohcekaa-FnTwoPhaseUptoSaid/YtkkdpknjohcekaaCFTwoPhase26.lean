/-
  Part 27 of the proof that the statement FnTwoPhase holds.
-/
import Derived.Test.YtkkdpknjohcekaaCFTwoPhase25
namespace Go.Proofs.Ytkkdpknjohcekaa
open Go.RowKit
section
variable {P:Program} {T:Tab} {Γ:Env} {X:Ctx} {w w':World} {π:Pi} {H:List (Nat×OB)}
theorem tE: ∀(cs:List (Bool×CK)) (k:Nat) (x:Ins.den cs) (l:Nat),Ay (Zz k cs x) l≠none-> ∃b j,k<=j/\j<k+cs.length/\l=Em b j
 | [],_,_,_,h=>absurd rfl h
 |p::r,k,x,l,h=>by
  simp only [Zz] at h
  by_cases e:l=Em p.1 k
  ·exact ⟨p.1,k,Aq _,by simp,e⟩
  ·have:Ay (Zz (k+1) r x.2) l≠none:=by
    cases hc:kN (Em p.1 k) p.2 x.1 with
    |none=>rw [hc] at h;exact h
    |some b=>rw [hc] at h;simpa only [iI,Ay,Ai (Gv e)] using h
   obtain ⟨b,j,h1,h2,h3⟩:=tE r (k+1) x.2 l this
   exact ⟨b,j,by omega,by simp;omega,h3⟩
theorem UA {p:Bool×CK} {r:List (Bool×CK)} {k:Nat} {x:Ins.den (p::r)} (hk:k+(r.length+1)<100000) {l:Nat} {b:OB} (h:Ay (Zz (k+1) r x.2) l=some b):Ay (Zz k (p::r) x) l=some b:=by
 obtain ⟨b',j,h1,h2,rfl⟩:=tE r (k+1) x.2 l (by rw [h];simp)
 simp only [Zz]
 cases kN (Em p.1 k) p.2 x.1 with
 |none=>exact h
 |some c=>simp only [iI,Ay];rw [Ai (SD (by omega) (by omega) (by omega))];exact h
theorem YP {D:Nat->Prop} (hD: ∀b,Df X.w0.heap.size X.Sc π false b->D b) (hw0:X.w0=w) {l:Nat} {r:Option Real} (dy:X.im l=r.map full) {u:Value} {c:CK} {x:c.den} (h:eZ w D r u c x) {b:OB} (hb:kN l c x=some b):Co X w π H (r.map full) b:=by
 have Wo: ∀ {e:Ty} {es:List Value} {y:e.den},Cells w D e es y->Cells w (Df X.w0.heap.size X.Sc π false) e es y:= λ {e es y} h=>Cells.Fz (Aq _) (λ_ _ _=>rfl) (λb _ hb=>hD b hb) e es y h
 cases c with
 |Gw τ=>cases hb
 |row e te=>
  simp only [kN,Aa] at hb;subst hb
  obtain ⟨_,h⟩:=h
  simp only [gz] at h
  simp only [Co,Kn]
  cases r with
  |none=>exact h
  |some q=>
   obtain ⟨k1,cu,ti,k2,k3,k4,k5,k6⟩:=h
   exact ⟨⟨k1.1,k1.2,λh=>by cases h⟩,cu,ti,k2,k3,k4,k5,λi y hy=>by
    obtain ⟨es,g1,g2,g3⟩:=k6 i y hy
    exact ⟨es,g1,g2,Wo g3⟩,λh=>by cases h⟩
 |Ie e te=>
  simp only [kN,Aa] at hb;subst hb
  cases r<;>exact h.2
 |part e te=>
  simp only [kN,Aa] at hb;subst hb
  obtain ⟨_,hf,h⟩:=h
  simp only [Co,Kn]
  cases r with
  |none=>exact h
  |some q=>
   obtain ⟨k1,cu,ti,k2,k3,k4,k5,k6⟩:=h
   exact ⟨⟨k1.1,k1.2,λh=>by cases h⟩,cu,ti,k2,k3,k4,k5,λi y hy=>by
    obtain ⟨es,g1,g2,g3⟩:=k6 i y hy
    exact ⟨es,g1,g2,Wo g3⟩,λh=>by cases h⟩
 |Bu e te kp=>
  simp only [kN,Aa] at hb;subst hb
  have h2:aD w D r e x none:=h.2
  have h3:=aD.Jh h2 hD
  refine ⟨by cases r<;>exact h3,?_⟩
  cases kp with
  |false=>trivial
  |true=>
   simp only [Oz,KeptAt]
   rw [dy]
   cases r with
   |none=>trivial
   |some q=>exact ⟨rfl,rfl,rfl,λj _ _=>by rw [hw0]⟩
theorem mn {D:Nat->Prop} (hD: ∀b,Df X.w0.heap.size X.Sc π false b->D b) (hw0:X.w0=w) {π0:Pi} (dy: ∀l,X.im l=(π0 l).map full): ∀(cs:List (Bool×CK)) (k:Nat) (x:Ins.den cs) (us:List Value),fa w D π0 k cs x us-> ∀l b,Ay (Zz k cs x) l=some b->Co X w π H ((π0 l).map full) b
 | [],_,_,_,_,_,_,h=>by cases h
 |_::_,_,_,[],h,_,_,_=>h.elim
 |p::r,k,x,u::us,h,l,b,hb=>by
  simp only [Zz] at hb
  cases hc:kN (Em p.1 k) p.2 x.1 with
  |none=>rw [hc] at hb;exact mn hD hw0 dy r (k+1) x.2 us h.2 l b hb
  |some c=>
   rw [hc] at hb
   simp only [iI,Ay] at hb
   split at hb
   ·rename_i e;subst e
    simp only [Aa] at hb;subst hb
    exact YP hD hw0 (dy _) h.1 hc
   ·exact mn hD hw0 dy r (k+1) x.2 us h.2 l b hb
theorem FL {S:Nat->Prop} {π0:Pi} {gv:Nat->Prop} {im:Pi} (ew: ∀l,π l=(π0 l).map full): ∀(cs:List (Bool×CK)) (k:Nat) (x:Ins.den cs) (us:List Value),k+cs.length<100000->fa w (λb=>Wf π0 b\/S b) π0 k cs x us->(∀l b,Ay (Zz k cs x) l=some b->Ay H l=some b)->
  Nl ⟨w,S,gv,im⟩ w π H (bX k cs x) us
 | [],_,_,[],_,_,_=>trivial
 | [],_,_,_::_,_,h,_=>h.elim
 |_::_,_,_,[],_,h,_=>h.elim
 |p::r,k,x,u::us,hk,h,hH=>by
  simp only [Aw] at hk
  refine ⟨?_,FL ew r (k+1) x.2 us (by omega) h.2 λl b hb=>hH l b (UA hk hb)⟩
  have h1:=h.1
  have hh: ∀b,kN (Em p.1 k) p.2 x.1=some b->Ay H (Em p.1 k)=some b:= λb hb=>hH _ b (by simp only [Zz];rw [hb];simp [iI,Ay])
  have lq:=ew (Em p.1 k)
  obtain ⟨io,c⟩:=p
  dsimp only at h1 hh lq⊢
  generalize x.1=y at*
  cases c with
  |Gw τ=>
   show Dc w _ τ u y
   cases hf:τ.flat with
   |true=>exact Dc.flat hf h1.2
   |false=>
    refine h1.2.Jh λb _ hb=>?_
    rcases hb with ⟨l,q,h3,h4⟩|hb|⟨hb,_⟩
    ·rw [ew l] at h3
     cases hp:π0 l with
     |none=>rw [hp] at h3;cases h3
     |some q0=>rw [hp] at h3;simp only [An,Aa] at h3;subst h3;exact .inl ⟨l,q0,hp,h4⟩
    ·exact .inr hb
    ·cases hb
  |row e te=>exact ⟨_,e.size,List.length y,hh _ rfl,rfl,by simp,by rw [lq];exact aa h1.1⟩
  |Ie e te=>exact ⟨_,e.size,List.length y,hh _ rfl,rfl,by simp,by rw [lq];exact aa h1.1⟩
  |part e te=>exact ⟨_,e.size,List.length y.1,hh _ rfl,rfl,h1.1.2,by rw [lq];exact aa h1.1.1⟩
  |Bu e te kp=>exact ⟨_,1,List.length y,hh _ rfl,rfl,by simp,by rw [lq];exact aa h1.1⟩
theorem pG {p:Real} {s off len:Nat} {u:Value} {f:Nat->Prop} (h:Ig (some p) s off len u):Ig (some ⟨p.g,p.o+off,p.cap-off,f,f⟩) s 0 len u:=by
 obtain ⟨ad,h1,h2,h3⟩:=h
 exact ⟨ad,h1,by dsimp only;omega,λh0=>by dsimp only at h0;simpa using h3 (by omega)⟩
theorem ui {α:Type} {xs:List α} {off len i:Nat} {x:α} (h:((xs.drop off).take len)[i]?=some x):xs[off+i]?=some x:=by
 rw [Db] at h
 split at h
 ·rw [Cs] at h;exact h
 ·cases h
theorem Xy.part {P:Nat->Prop} {g o:Nat} {cur:Array Value} {e:Ty} {xs:List e.den} (off len:Nat) (h:Xy w P g o cur e xs):Xy w P g (o+off) cur e ((xs.drop off).take len):=by
 obtain ⟨Fs,t1,t2,t3,t4⟩:=h
 refine ⟨(Fs.drop off).take len,by simp [t1],Cm.2 ⟨λhm=>(Cm.1 t2).1 (Ss off len _ hm),mC off len (Cm.1 t2).2⟩,λb hb=>t3 b (Ss off len b hb),λi x F hx hF=>?_⟩
 obtain ⟨es,k1,k2,k3⟩:=t4 (off+i) x F (ui hx) (ui hF)
 exact ⟨es,k1,λj u hu=>by rw [Gx o off i];exact k2 j u hu,k3⟩
theorem UQ {st:St} (h:Nk X w π st.heap) {c:CK} (hg: ∀e te kp,c≠ .Bu e te kp) {a:AC} {u:Value} (hu:Hu X w π st.heap a u) {x:c.den} {ls:List Nat} (he:kT st c a=some (x,ls)):
  ∃r,eZ w (λb=>Wf π b\/X.Sc b) r u c x/\ ∀q,r=some q-> ∃l p,ls= [l]/\π l=some p/\(∀b,q.Da b->p.cl b)/\(c.isX=false-> ∀b,q.Da b->p.Da b):=by
 have ZF: ∀ {f:Bool} (b:Nat),(Wf π b\/X.Sc b)->Df X.w0.heap.size X.Sc π f b:= λb h=>h.imp id .inl
 cases c with
 |Gw τ=>
  simp only [kT] at he
  split at he
  ·rename_i hf
   cases hv:Ee st τ a with
   |none=>rw [hv] at he;cases he
   |some p=>
    obtain ⟨fr,y⟩:=p
    rw [hv] at he
    simp only [An,Aa,Ag] at he
    obtain ⟨rfl,rfl⟩:=he
    refine ⟨none,⟨rfl,?_⟩,λq hq=>by cases hq⟩
    have Jh: ∀f,Dc w (Df X.w0.heap.size X.Sc π f) τ u y->Dc w (λb=>Wf π b\/X.Sc b) τ u y:= λf hr=>hr.Jh λk _ hk=>ZF k hk
    cases a with
    |data f Ox z=>
     rw [Oi] at hv
     split at hv
     ·rename_i ht;subst ht
      simp only [Aa,Ag] at hv
      obtain ⟨_,rfl⟩:=hv
      exact Jh f hu
     ·have Pc:τ.Ar=false:=by unfold iK at hv;split at hv<;>first|rfl|cases hv
      exact Jh _ ⟨[u],dt hv hu,by simp [Ci,Pc]⟩
    |Mj=>
     have hu:u= .slice none 0 0:=hu
     subst hu
     cases τ<;>simp only [Ee,Aa,Ag,reduceCtorEq] at hv
     ·obtain ⟨_,rfl⟩:=hv;exact ⟨[_],⟨none,0,0,rfl,rfl,Aq _, .inl rfl⟩,rfl⟩
     ·obtain ⟨_,rfl⟩:=hv;exact ⟨[_], .inl ⟨rfl,0,rfl⟩,rfl⟩
    |Wa=>
     have hu:u= .pointer none:=hu
     subst hu
     cases τ<;>simp only [Ee,Aa,Ag,reduceCtorEq] at hv
     obtain ⟨_,rfl⟩:=hv;exact ⟨[_], .inl ⟨rfl,rfl⟩,rfl⟩
    |_=>cases τ<;>simp [AC.settled,Ty.flat,Ee] at hf hv
  ·cases he
 |row e te=>
  cases a<;>simp only [kT] at he<;>try (cases he;done)
  ·simp only [Aa,Ag] at he
   obtain ⟨rfl,rfl⟩:=he
   have hu:u= .slice none 0 0:=hu
   exact ⟨none,⟨⟨hu,rfl,rfl⟩,rfl⟩,λq hq=>by cases hq⟩
  ·rename_i l off len
   split at he
   ·rename_i fr tr e' Ro xs hl
    split at he
    ·rename_i hc
     obtain ⟨rfl,rfl⟩:=hc
     simp only [Aa,Ag] at he
     obtain ⟨rfl,rfl⟩:=he
     unfold St.at at hl
     obtain ⟨h1,h2⟩:=Pd hu hl
     have hb:=(h.heap l).Ru hl
     simp only [Co,Kn] at hb
     have hlen:((xs.drop off).take len).length=len:=by simp;omega
     cases hp:π l with
     |none=>
      rw [hp] at h2 hb
      obtain ⟨rfl,rfl,rfl⟩:=h2
      exact ⟨none,⟨⟨rfl,rfl,by simp⟩,by show (xs.drop 0).take 0= [];simp⟩,λq hq=>by cases hq⟩
     |some p=>
      rw [hp] at h2 hb
      obtain ⟨k1,cur,ti,k2,k3,k4,k5,k6,_⟩:=hb
      have ho:=h2
      obtain ⟨ad,_,tq,_⟩:=h2
      refine ⟨some ⟨p.g,p.o+off,p.cap-off,p.Da,p.Da⟩,⟨by rw [hlen];exact pG ho,⟨k1.1,k1.2.1⟩,cur,ti,k2,by rw [k3];congr 1;dsimp only;omega,by dsimp only;omega,by rw [hlen];dsimp only;omega,λi y hy=>?_⟩,
       fun q hq=>by cases hq;exact ⟨l,p,rfl,hp,λb hb=>h.sub l p b hp hb,λ_ b hb=>hb⟩⟩
      obtain ⟨es,g1,g2,g3⟩:=k6 (off+i) y (ui hy)
      exact ⟨es,g1,λj u hu=>by dsimp only;rw [Gx p.o off i];exact g2 j u hu,Cells.Fz (Aq _) (λ_ _ _=>rfl) (λb _ hb=>ZF b hb) e' es y g3⟩
    ·cases he
   ·cases he
 |Ie e te=>
  cases a<;>simp only [kT] at he<;>try (cases he;done)
  ·simp only [Aa,Ag] at he
   obtain ⟨rfl,rfl⟩:=he
   have hu:u= .slice none 0 0:=hu
   exact ⟨none,⟨⟨hu,rfl,rfl⟩,rfl⟩,λq hq=>by cases hq⟩
  ·rename_i l off len
   split at he
   ·rename_i fr tr e' Ro xs hl
    split at he
    ·rename_i hc
     obtain ⟨rfl,rfl,hf⟩:=hc
     simp only [Aa,Ag] at he
     obtain ⟨rfl,rfl⟩:=he
     unfold St.at at hl
     obtain ⟨h1,h2⟩:=Pd hu hl
     have hb:=(h.heap l).Ru hl
     simp only [Co,Kn] at hb
     have hlen:((xs.drop off).take len).length=len:=by simp;omega
     cases hp:π l with
     |none=>
      rw [hp] at h2 hb
      obtain ⟨rfl,rfl,rfl⟩:=h2
      exact ⟨none,⟨⟨rfl,rfl,by simp⟩,by show (xs.drop 0).take 0= [];simp⟩,λq hq=>by cases hq⟩
     |some p=>
      rw [hp] at h2 hb
      obtain ⟨k1,cur,ti,k2,k3,k4,k5,k6,k7⟩:=hb
      have ho:=h2
      obtain ⟨ad,_,tq,_⟩:=h2
      have ht:Xy w p.cl p.g p.o cur e' xs:=by
       simp only [Ks] at hf
       rcases hf with hf|hf
       ·exact k7 hf
       ·exact nL hf k6
      exact ⟨some ⟨p.g,p.o+off,p.cap-off,p.cl,p.cl⟩,⟨by rw [hlen];exact pG ho,h.sub l p _ hp k1.1,cur,ti,k2,by rw [k3];congr 1;dsimp only;omega,by dsimp only;omega,by rw [hlen];dsimp only;omega,ht.part off len⟩,
       fun q hq=>by cases hq;exact ⟨l,p,rfl,hp,λb hb=>hb,λhx=>by cases hx⟩⟩
    ·cases he
   ·rename_i e' Ro xs hl
    split at he
    ·rename_i hc
     obtain ⟨rfl,rfl⟩:=hc
     simp only [Aa,Ag] at he
     obtain ⟨rfl,rfl⟩:=he
     unfold St.at at hl
     obtain ⟨h1,h2⟩:=cg hu hl
     have hb:=(h.heap l).Ru hl
     simp only [Co,Om] at hb
     have hlen:((xs.drop off).take len).length=len:=by simp;omega
     cases hp:π l with
     |none=>
      rw [hp] at h2 hb
      obtain ⟨rfl,rfl,rfl⟩:=h2
      exact ⟨none,⟨⟨rfl,rfl,by simp⟩,by show (xs.drop 0).take 0= [];simp⟩,λq hq=>by cases hq⟩
     |some p=>
      rw [hp] at h2 hb
      obtain ⟨k1,cur,ti,k2,k3,k4,k5,ht⟩:=hb
      have ho:=h2
      obtain ⟨ad,_,tq,_⟩:=h2
      exact ⟨some ⟨p.g,p.o+off,p.cap-off,p.Da,p.Da⟩,⟨by rw [hlen];exact pG ho,k1,cur,ti,k2,by rw [k3];congr 1;dsimp only;omega,by dsimp only;omega,by rw [hlen];dsimp only;omega,ht.part off len⟩,
       fun q hq=>by cases hq;exact ⟨l,p,rfl,hp,λb hb=>h.sub l p b hp hb,λ_ b hb=>hb⟩⟩
    ·cases he
   ·cases he
 |part e te=>cases a<;>simp [kT] at he
 |Bu e te kp=>exact absurd rfl (hg e te kp)
theorem Ab3 {st:St} (h:Nk X w π st.heap) {c:CK} {a:AC} {u:Value} (hu:Hu X w π st.heap a u) {x:c.den} {ls:List Nat} (he:kT st c a=some (x,ls)):
  ∃r,eZ w (λb=>Wf π b\/X.Sc b) r u c x/\(∀q,r=some q-> ∃l p,ls= [l]/\π l=some p/\(∀b,q.Da b->p.cl b)/\(c.isX=false-> ∀b,q.Da b->p.Da b))/\
   (∀l off len e te rows out kp,a= .own l off len->Ay st.heap l=some (.Bu e te rows out kp)->r=π l):=by
 have vK:(∀e te kp,c≠ .Bu e te kp)->(∀l off len e te rows out kp,a=AC.own l off len->Ay st.heap l=some (OB.Bu e te rows out kp)->False)->
   ∃r,eZ w (λb=>Wf π b\/X.Sc b) r u c x/\(∀q,r=some q-> ∃l p,ls= [l]/\π l=some p/\(∀b,q.Da b->p.cl b)/\(c.isX=false-> ∀b,q.Da b->p.Da b))/\
   (∀l off len e te rows out kp,a= .own l off len->Ay st.heap l=some (.Bu e te rows out kp)->r=π l):= λh1 h2=>by
  obtain ⟨r,g1,g2⟩:=UQ h h1 hu he
  exact ⟨r,g1,g2,λl off len e te rows out kp h3 h4=>(h2 l off len e te rows out kp h3 h4).elim⟩
 cases c with
 |Gw τ=>
  refine vK (λ_ _ _ h=>by cases h) λl off len e te rows out kp h3 h4=>?_
  subst h3
  simp only [kT] at he
  split at he
  ·rename_i hf
   cases τ<;>simp [AC.settled,Ty.flat,Ee] at hf he
  ·cases he
 |row e te=>
  refine vK (λ_ _ _ h=>by cases h) λl off len e te rows out kp h3 h4=>?_
  subst h3
  simp only [kT,St.at,h4] at he
  cases he
 |Ie e te=>
  refine vK (λ_ _ _ h=>by cases h) λl off len e te rows out kp h3 h4=>?_
  subst h3
  simp only [kT,St.at,h4] at he
  cases he
 |part e te=>cases a<;>simp [kT] at he
 |Bu e te kp=>
  cases a<;>simp only [kT] at he<;>try (cases he;done)
  rename_i l off len
  split at he
  ·rename_i e' Ro rows kp' hl
   split at he
   ·rename_i hc
    obtain ⟨rfl,rfl,rfl,rfl⟩:=hc
    simp only [Aa,Ag] at he
    obtain ⟨rfl,rfl⟩:=he
    unfold St.at at hl
    obtain ⟨b,sz,n,h1,h2,_,h3⟩:=hu
    rw [hl] at h1;cases h1
    simp only [OB.row,Aa,Ag] at h2
    obtain ⟨rfl,rfl⟩:=h2
    have hb:=((h.heap l).Ru hl).1
    refine ⟨π l,⟨h3,aD.Jh hb λb hb=>hb.imp id .inl⟩,λq hq=>⟨l,q,rfl,hq,λb hb=>h.sub l q b hq hb,λ_ b hb=>hb⟩,λl' Bba Ave _ _ _ _ _ he _=>?_⟩
    simp only [AC.own.injEq] at he
    rw [he.1]
   ·cases he
  ·cases he
theorem Jr.congr {D:Nat->Prop} {ρ ρ':Pi} : ∀(cs:List CK) (k:Nat) (x:CKs.den cs) (us:List Value),(∀j,k<=j->ρ' (Kq j)=ρ (Kq j))->Jr w D ρ k cs x us->Jr w D ρ' k cs x us
 | [],_,_,[],_,h=>h
 | [],_,_,_::_,_,h=>h.elim
 |_::_,_,_,[],_,h=>h.elim
 |c::r,k,x,u::us,he,h=>⟨by rw [he k (Aq _)];exact h.1,Jr.congr r (k+1) x.2 us (λj hj=>he j (by omega)) h.2⟩
theorem xU {st:St} (h:Nk X w π st.heap): ∀(cs:List CK) (k:Nat) (as:List AC) (us:List Value) (x:CKs.den cs) (ls:List Nat),Nl X w π st.heap as us->Vr st cs as=some (x,ls)->ls.Nodup->
  ∃ρ:Pi,Jr w (λb=>Wf π b\/X.Sc b) ρ k cs x us/\(∀l q,ρ l=some q-> ∃j,k<=j/\j<k+cs.length/\l=Kq j)/\(∀l q b,ρ l=some q->q.Da b-> ∃l0∈ls,∃p,π l0=some p/\p.cl b/\((cs.all λc=>!c.isX)=true->p.Da b))/\
   (∀l l' q q' b,ρ l=some q->ρ l'=some q'->q.Da b->q'.Da b->l=l')/\
   (∀(j l off len:Nat) e te rows out kp,as[j]?=some (.own l off len)->Ay st.heap l=some (.Bu e te rows out kp)->ρ (Kq (k+j))=π l)
 | [],k,[],[],x,ls,_,he,_=>by
  simp only [Vr,Aa,Ag] at he
  exact ⟨λ_=>none,trivial,(λl q h=>by cases h),(λl q b h=>by cases h),(λl l' q q' b h=>by cases h),λj l off len e te rows out kp h=>by simp at h⟩
 | [],_,[],_::_,_,_,h,_,_=>h.elim
 | [],_,_::_,_,_,_,_,he,_=>by simp [Vr] at he
 |_::_,_,[],_,_,_,_,he,_=>by simp [Vr] at he
 |_::_,_,_::_,[],_,_,h,_,_=>h.elim
 |c::r,k,a::as,u::us,x,ls,hr,he,rH=>by
  simp only [Vr] at he
  split at he
  ·rename_i x1 t1 x2 t2 h1 h2
   simp only [Aa,Ag] at he
   obtain ⟨rfl,rfl⟩:=he
   obtain ⟨n1,n2,n3⟩:=Dz.1 rH
   obtain ⟨ρ,g1,g2,g3,g4,g5⟩:=xU h r (k+1) as us x2 t2 hr.2 h2 n2
   obtain ⟨rr,r1,r2,r3⟩:=Ab3 h hr.1 h1
   have EE: ∀l q q0 b,ρ l=some q->rr=some q0->q.Da b->q0.Da b->False:= λl q q0 b h3 h4 h5 h6=>by
    obtain ⟨l0,m0,p,p1,p2,_⟩:=g3 l q b h3 h5
    obtain ⟨l1,p',e1,p1',p2',_⟩:=r2 q0 h4
    have:=h.inj l0 l1 p p' b p1 p1' p2 (p2' b h6)
    exact n3 l1 (by rw [e1];simp) l0 m0 this.symm
   refine ⟨λl=>if l=Kq k then rr else ρ l,⟨by simpa using r1,Jr.congr r (k+1) x2 us (λj hj=>Ai (by unfold Kq;omega)) g1⟩,λl q hq=>?_,λl q b hq hb=>?_,λl l' q q' b h3 h4 h5 h6=>?_,λj l off len e te rows out kp hj hl=>?_⟩
   ·dsimp only at hq
    by_cases e:l=Kq k
    ·exact ⟨k,Aq _,by simp,e⟩
    ·rw [Ai e] at hq
     obtain ⟨j,j1,j2,j3⟩:=g2 l q hq
     exact ⟨j,by omega,by simp;omega,j3⟩
   ·dsimp only at hq
    by_cases e:l=Kq k
    ·rw [Ab e] at hq
     obtain ⟨l1,p',e1,p1',p2',p3'⟩:=r2 q hq
     exact ⟨l1,by rw [e1];simp,p',p1',p2' b hb,λhx=>p3' (by simp only [Jw,Aj,Fg] at hx;exact hx.1) b hb⟩
    ·rw [Ai e] at hq
     obtain ⟨l0,m0,p,p1,p2,p3⟩:=g3 l q b hq hb
     exact ⟨l0,Cn _ m0,p,p1,p2,λhx=>p3 (by simp only [Jw,Aj] at hx;exact hx.2)⟩
   ·dsimp only at h3 h4
    by_cases e:l=Kq k<;>by_cases e':l'=Kq k
    ·rw [e,e']
    ·rw [Ab e] at h3;rw [Ai e'] at h4
     exact (EE l' q' q b h4 h3 h6 h5).elim
    ·rw [Ai e] at h3;rw [Ab e'] at h4
     exact (EE l q q' b h3 h4 h5 h6).elim
    ·rw [Ai e] at h3;rw [Ai e'] at h4
     exact g4 l l' q q' b h3 h4 h5 h6
   ·rcases j with _|j
    ·simp only [Bz,Aa] at hj
     show (if Kq k=Kq k then rr else ρ (Kq k))=π l
     rw [Ab rfl]
     exact r3 l off len e te rows out kp hj hl
    ·have:=g5 j l off len e te rows out kp (by simpa using hj) hl
     show (if Kq (k+(j+1))=Kq k then rr else ρ (Kq (k+(j+1))))=π l
     rw [Ai (by unfold Kq;omega),<-this,show k+(j+1)=k+1+j by omega]
  ·cases he
theorem IB {r r':Option Real} (h:bG (r.map full) r') {e:Ty} {xs:List e.den} {te:TypeId} {fr tr:Bool} (ha:Kn X w π r' fr tr e te xs):Ti w (λb=>Wf π b\/X.Sc b) r e xs:=by
 cases r with
 |none=>cases r' with
  |none=>exact ha
  |some q=>exact h.elim
 |some p=>cases r' with
  |none=>exact h.elim
  |some q=>
   obtain ⟨e1,e2,e3,e4⟩:=h
   obtain ⟨k1,cur,ti,k2,k3,k4,k5,k6,_⟩:=ha
   have e1:p.g=q.g:=e1
   have e2:p.o=q.o:=e2
   have e3:p.cap=q.cap:=e3
   refine ⟨⟨by rw [e1];exact (e4 _).2 k1.1,λb hb=>by rw [e1];exact k1.2.1 b ((e4 b).1 hb)⟩,cur,ti,by rw [e1];exact k2,by rw [e2,e3];exact k3,by rw [e3];exact k4,by rw [e3];exact k5,λi y hy=>?_⟩
   obtain ⟨es,g1,g2,g3⟩:=k6 i y hy
   exact ⟨es,g1,by rw [e2];exact g2,Cells.Fz (Aq _) (λ_ _ _=>rfl) (λb _ hb=>hb.imp id .inl) e es y g3⟩
theorem VO {r r':Option Real} (h:bG (r.map full) r') {e:Ty} {xs:List e.den} {te:TypeId} (ha:Om w r' e te xs):Om w r e te xs:=by
 cases r with
 |none=>cases r' with
  |none=>exact ha
  |some q=>exact h.elim
 |some p=>cases r' with
  |none=>exact h.elim
  |some q=>
   obtain ⟨e1,e2,e3,e4⟩:=h
   obtain ⟨k1,cur,ti,k2,k3,k4,k5,Fs,t1,t2,t3,t4⟩:=ha
   have e1:p.g=q.g:=e1
   have e2:p.o=q.o:=e2
   have e3:p.cap=q.cap:=e3
   exact ⟨by rw [e1];exact (e4 _).2 k1,cur,ti,by rw [e1];exact k2,by rw [e2,e3];exact k3,by rw [e3];exact k4,by rw [e3];exact k5,Fs,t1,by rw [e1];exact t2,λb hb=>(e4 b).2 (t3 b hb),by rw [e2];exact t4⟩
theorem Vb {st:St} {π0:Pi} {D:Nat->Prop} {w0:World} (h:Nk X w π st.heap) (dy: ∀l,X.im l=(π0 l).map full): ∀(cs:List (Bool×CK)) (k:Nat) (x:Ins.den cs) (us:List Value) (o:IOs.den cs),fa w0 D π0 k cs x us->Pg st k cs=some o->
  Mo w (λb=>Wf π b\/X.Sc b) π0 k cs o/\ ∀l∈Qa k cs,Ay st.heap l≠none
 | [],_,_,_,_,_,_=>⟨trivial,λl hl=>by cases hl⟩
 |_::_,_,_,[],_,h,_=>h.elim
 |(false,c)::r,k,x,u::us,o,hi,he=>Vb h dy r (k+1) x.2 us o hi.2 (by simpa only [Pg] using he)
 |(true, .Gw τ)::r,k,x,u::us,o,hi,he=>Vb h dy r (k+1) x.2 us o hi.2 (by simpa only [Pg] using he)
 |(true, .Bu e te kp)::r,k,x,u::us,o,hi,he=>Vb h dy r (k+1) x.2 us o hi.2 (by simpa only [Pg] using he)
 |(true, .row e te)::r,k,x,u::us,o,hi,he=>by
  simp only [Pg] at he
  split at he
  ·rename_i x1 x2 h1 h2
   simp only [Aa] at he;subst he
   obtain ⟨g1,g2⟩:=Vb h dy r (k+1) x.2 us x2 hi.2 h2
   have h0:=hi.1
   simp only [qf] at h1
   split at h1
   ·rename_i fr tr e' Ro xs hl
    split at h1
    ·rename_i hc
     obtain ⟨rfl,rfl⟩:=hc
     simp only [Aa] at h1;subst h1
     unfold St.at at hl
     have hs:=h.im (Em true k) (by have:=br k;omega) (by rw [hl];simp)
     rw [dy] at hs
     exact ⟨⟨IB (te:=Ro) hs ((h.heap _).Ru hl),g1⟩,λl Ll=>by
      simp only [Qa] at Ll
      rcases Bb.1 Ll with rfl|Ll
      ·rw [hl];simp
      ·exact g2 l Ll⟩
    ·cases h1
   ·cases h1
  ·cases he
 |(true, .part e te)::r,k,x,u::us,o,hi,he=>by
  simp only [Pg] at he
  split at he
  ·rename_i x1 x2 h1 h2
   simp only [Aa] at he;subst he
   obtain ⟨g1,g2⟩:=Vb h dy r (k+1) x.2 us x2 hi.2 h2
   have h0:=hi.1
   simp only [qf] at h1
   split at h1
   ·rename_i fr tr e' Ro xs hl
    split at h1
    ·rename_i hc
     obtain ⟨rfl,rfl⟩:=hc
     simp only [Aa] at h1;subst h1
     unfold St.at at hl
     have hs:=h.im (Em true k) (by have:=br k;omega) (by rw [hl];simp)
     rw [dy] at hs
     exact ⟨⟨IB (te:=Ro) hs ((h.heap _).Ru hl),g1⟩,λl Ll=>by
      simp only [Qa] at Ll
      rcases Bb.1 Ll with rfl|Ll
      ·rw [hl];simp
      ·exact g2 l Ll⟩
    ·cases h1
   ·cases h1
  ·cases he
 |(true, .Ie e te)::r,k,x,u::us,o,hi,he=>by
  simp only [Pg] at he
  split at he
  ·rename_i x1 x2 h1 h2
   simp only [Aa] at he;subst he
   obtain ⟨g1,g2⟩:=Vb h dy r (k+1) x.2 us x2 hi.2 h2
   simp only [qf] at h1
   split at h1
   ·rename_i e' Ro xs hl
    split at h1
    ·rename_i hc
     obtain ⟨rfl,rfl⟩:=hc
     simp only [Aa] at h1;subst h1
     unfold St.at at hl
     have hs:=h.im (Em true k) (by have:=br k;omega) (by rw [hl];simp)
     rw [dy] at hs
     exact ⟨⟨VO (te:=Ro) hs ((h.heap _).Ru hl),g1⟩,λl Ll=>by
      simp only [Qa] at Ll
      rcases Bb.1 Ll with rfl|Ll
      ·rw [hl];simp
      ·exact g2 l Ll⟩
    ·cases h1
   ·cases h1
  ·cases he
theorem wc {p:Bool×CK} {r:List (Bool×CK)} (h:a9 (p::r)=true):a9 r=true:=by
 rcases p with ⟨_|_,c⟩<;>cases c<;>first|(simp [a9] at h;done)|simpa [a9] using h
theorem xB: ∀(cs:List (Bool×CK)) (k:Nat) (x:Ins.den cs) (l:Nat),a9 cs=true->k+cs.length<100000->Ay (Zz k cs x) l≠none-> ¬l<Bq->l∈Qa k cs
 | [],_,_,_,_,_,h,_=>absurd rfl h
 |(io,c)::r,k,x,l,hng,hk,h,hp=>by
  simp only [Aw] at hk
  simp only [Zz] at h
  have tail:Ay (Zz (k+1) r x.2) l≠none->l∈Qa (k+1) r:= λh=>xB r (k+1) x.2 l (wc hng) (by omega) h hp
  have sub: ∀m,m∈Qa (k+1) r->m∈Qa k ((io,c)::r):= λm hm=>by
   cases io<;>cases c<;>simp only [Qa]<;>first|exact hm|exact As _ hm
  cases hc:kN (Em io k) c x.1 with
  |none=>rw [hc] at h;exact sub l (tail h)
  |some b=>
   rw [hc] at h
   simp only [iI,Ay] at h
   split at h
   ·rename_i e;subst e
    cases io with
    |false=>exact absurd (fT (by omega)) hp
    |true=>cases c with
     |Gw τ=>cases hc
     |row e te=>simp [Qa]
     |Ie e te=>simp [Qa]
     |part e te=>simp [Qa]
     |Bu e te kp=>simp [a9] at hng
   ·exact sub l (tail h)
theorem eZ.Jh {D D':Nat->Prop} (hD: ∀b,D' b->D b) {r:Option Real} {u:Value} {c:CK} {x:c.den} (h:eZ w D r u c x):eZ w D' r u c x:=by
 cases c with
 |Gw τ=>exact ⟨h.1,h.2.Jh λb _ hb=>hD b hb⟩
 |row e te=>exact ⟨h.1,Ti.Jh h.2 hD⟩
 |Ie e te=>exact h
 |part e te=>exact ⟨h.1,h.2.1,Ti.Jh h.2.2 hD⟩
 |Bu e te kp=>exact ⟨h.1,aD.Jh h.2 hD⟩
theorem Jr.Jh {D D':Nat->Prop} (hD: ∀b,D' b->D b) {ρ:Pi} : ∀(cs:List CK) (k:Nat) (x:CKs.den cs) (us:List Value),Jr w D ρ k cs x us->Jr w D' ρ k cs x us
 | [],_,_,[],h=>h
 | [],_,_,_::_,h=>h.elim
 |_::_,_,_,[],h=>h.elim
 |_c::r,k,x,_u::us,h=>⟨h.1.Jh hD,Jr.Jh hD r (k+1) x.2 us h.2⟩
theorem Mo.Jh {D D':Nat->Prop} (hD: ∀b,D' b->D b) {π:Pi} : ∀(cs:List (Bool×CK)) (k:Nat) (x:IOs.den cs),Mo w D π k cs x->Mo w D' π k cs x
 | [],_,_,h=>h
 |(false,_)::r,k,x,h=>Mo.Jh hD r (k+1) x h
 |(true, .Gw _)::r,k,x,h=>Mo.Jh hD r (k+1) x h
 |(true, .Bu _ _ _)::r,k,x,h=>Mo.Jh hD r (k+1) x h
 |(true, .row _e _te)::r,k,x,h=>⟨Ti.Jh h.1 hD,Mo.Jh hD r (k+1) x.2 h.2⟩
 |(true, .Ie _e _te)::r,k,x,h=>⟨h.1,Mo.Jh hD r (k+1) x.2 h.2⟩
 |(true, .part _e _te)::r,k,x,h=>⟨Ti.Jh h.1 hD,Mo.Jh hD r (k+1) x.2 h.2⟩
theorem fa.congr {D:Nat->Prop} {π0 cv:Pi} : ∀(cs:List (Bool×CK)) (k:Nat) (x:Ins.den cs) (us:List Value),(∀b j,k<=j->j<k+cs.length->cv (Em b j)=π0 (Em b j))->fa w D π0 k cs x us->fa w D cv k cs x us
 | [],_,_,[],_,h=>h
 | [],_,_,_::_,_,h=>h
 |_::_,_,_,[],_,h=>h
 |p::r,k,x,u::us,hp,h=>⟨by rw [hp p.1 k (Aq _) (by simp)];exact h.1,fa.congr r (k+1) x.2 us (λb j h1 h2=>hp b j (by omega) (by simp;omega)) h.2⟩
theorem Mo.congr {D:Nat->Prop} {π0 cv:Pi} : ∀(cs:List (Bool×CK)) (k:Nat) (x:IOs.den cs),(∀b j,k<=j->j<k+cs.length->cv (Em b j)=π0 (Em b j))->Mo w D π0 k cs x->Mo w D cv k cs x
 | [],_,_,_,h=>h
 |(false,c)::r,k,x,hp,h=>by cases c<;>exact Mo.congr r (k+1) x (λb j h1 h2=>hp b j (by omega) (by simp;omega)) h
 |(true, .Gw _)::r,k,x,hp,h=>Mo.congr r (k+1) x (λb j h1 h2=>hp b j (by omega) (by simp;omega)) h
 |(true, .Bu _ _ _)::r,k,x,hp,h=>Mo.congr r (k+1) x (λb j h1 h2=>hp b j (by omega) (by simp;omega)) h
 |(true, .row e te)::r,k,x,hp,h=>⟨by rw [hp true k (Aq _) (by simp)];exact h.1,Mo.congr r (k+1) x.2 (λb j h1 h2=>hp b j (by omega) (by simp;omega)) h.2⟩
 |(true, .Ie e te)::r,k,x,hp,h=>⟨by rw [hp true k (Aq _) (by simp)];exact h.1,Mo.congr r (k+1) x.2 (λb j h1 h2=>hp b j (by omega) (by simp;omega)) h.2⟩
 |(true, .part e te)::r,k,x,hp,h=>⟨by rw [hp true k (Aq _) (by simp)];exact h.1,Mo.congr r (k+1) x.2 (λb j h1 h2=>hp b j (by omega) (by simp;omega)) h.2⟩
theorem Fh.congr {π0 cv:Pi} : ∀(cs:List (Bool×CK)) (k:Nat) (o:IOs.den cs) (n:Nat) (us as:List Value),(∀b j,k<=j->j<k+cs.length->cv (Em b j)=π0 (Em b j))->Fh π0 k cs o n us as->Fh cv k cs o n us as
 | [],k,o,0,us,as,_,h=>by simpa [Fh] using h
 | [],k,o,n+1,us,as,_,h=>by simp [Fh] at h
 |p::r,k,o,0,us,as,_,h=>by
  rcases p with ⟨_|_,c⟩<;>cases c<;>simpa [Fh] using h
 |(true, .Gw _)::r,k,o,n+1,us,as,_,h=>by simp [Fh] at h
 |(true, .part _ _)::r,k,o,n+1,us,as,_,h=>by simp [Fh] at h
 |(true, .Bu _ _ _)::r,k,o,n+1,us,as,_,h=>by simp [Fh] at h
 |(true, .row e te)::r,k,o,n+1,[],as,_,h=>by simp [Fh] at h
 |(true, .Ie e te)::r,k,o,n+1,[],as,_,h=>by simp [Fh] at h
 |(true, .row e te)::r,k,o,n+1,u::us,as,hp,h=>by
  simp only [Fh] at h⊢
  exact ⟨by rw [hp true k (Aq _) (by simp)];exact h.1,Fh.congr r (k+1) o.2 n us as (λb j h1 h2=>hp b j (by omega) (by simp;omega)) h.2⟩
 |(true, .Ie e te)::r,k,o,n+1,u::us,as,hp,h=>by
  simp only [Fh] at h⊢
  exact ⟨by rw [hp true k (Aq _) (by simp)];exact h.1,Fh.congr r (k+1) o.2 n us as (λb j h1 h2=>hp b j (by omega) (by simp;omega)) h.2⟩
 |(false,c)::r,k,o,n+1,[],as,_,h=>by cases c<;>simp [Fh] at h
 |(false,c)::r,k,o,n+1,u::us,[],_,h=>by cases c<;>simp [Fh] at h
 |(false,c)::r,k,o,n+1,u::us,a::as,hp,h=>by
  have h:u=a/\Fh π0 (k+1) r o n us as:=by cases c<;>exact h
  have:=Fh.congr r (k+1) o n us as (λb j h1 h2=>hp b j (by omega) (by simp;omega)) h.2
  cases c<;>exact ⟨h.1,this⟩
theorem qx: ∀(A B:List (Nat×OB)) (l:Nat),Ay (A++B) l=match Ay A l with|some b=>some b|none=>Ay B l
 | [],B,l=>rfl
 |(k,b)::A,B,l=>by
  simp only [Ms,Ay]
  split
  ·rfl
  ·exact qx A B l
theorem uf {st:St} : ∀(cs:List CK) (as:List AC) (x:CKs.den cs) (ls:List Nat),Vr st cs as=some (x,ls)-> ∀l∈ls,∃b,Ay st.heap l=some b/\b.row≠none
 | [],[],x,ls,he=>by
  simp only [Vr,Aa,Ag] at he
  obtain ⟨_,rfl⟩:=he
  intro l hl;cases hl
 | [],_::_,_,_,he=>by simp [Vr] at he
 |_::_,[],_,_,he=>by simp [Vr] at he
 |c::r,a::as,x,ls,he=>by
  simp only [Vr] at he
  split at he
  ·rename_i x1 t1 x2 t2 h1 h2
   simp only [Aa,Ag] at he
   obtain ⟨_,rfl⟩:=he
   intro l hl
   rcases Az.1 hl with hl|hl
   ·unfold kT at h1
    split at h1
    ·split at h1
     ·cases hv:Ee st _ a with
      |none=>rw [hv] at h1;cases h1
      |some p=>rw [hv] at h1;simp only [An,Aa,Ag] at h1;obtain ⟨_,rfl⟩:=h1;cases hl
     ·cases h1
    all_goals (repeat' split at h1)
    all_goals first|(cases h1;done)|skip
    all_goals (simp only [Aa,Ag] at h1;obtain ⟨_,rfl⟩:=h1)
    all_goals first|(cases hl;done)|skip
    all_goals (have hl:=Af.1 hl;subst hl)
    all_goals (rename_i heq _;exact ⟨_,heq,by simp [OB.row]⟩)
   ·exact uf r as x2 t2 h2 l hl
  ·cases he
theorem qK {r r':Option Real} {sz off len:Nat} {v:Value} (h:bG r r') (hv:Ig r' sz off len v):Ig r sz off len v:=by
 cases r<;>cases r'<;>first|exact h.elim|skip
 ·exact hv
 ·obtain ⟨h1,h2,h3,_⟩:=h
  obtain ⟨ad,g1,g2,g3⟩:=hv
  exact ⟨ad,by rw [h3];exact g1,by rw [h3];exact g2,by rw [h1,h2,h3];exact g3⟩
theorem Zl {st:St} {π0:Pi} (hs: ∀k,Ay st.heap (Em true k)≠none->bG ((π0 (Em true k)).map full) (π (Em true k))):
  ∀(cs:List (Bool×CK)) (k:Nat) (vs:List AC) (us:List Value) (bc:List AC) (o:IOs.den cs),Nl X w π st.heap vs us->Jt k cs vs=some bc->j9 st vs cs->Pg st k cs=some o->
   ∃bv,Nl X w π st.heap bc bv/\bv.length=ux cs vs.length/\ ∀tl,Fh π0 k cs o vs.length us (bv++tl)
 |cs,k,[],us,bc,o,hr,he,_,_=>by
  have e1:us= []:=by cases us with|nil=>rfl|cons u us=>exact hr.elim
  have e2:bc= []:=by rcases cs with _|⟨⟨_|_,c⟩,r⟩<;>simpa [Jt] using he.symm
  subst e1;subst e2
  refine ⟨[],trivial,?_,λtl=>?_⟩
  ·rcases cs with _|⟨⟨_|_,c⟩,r⟩<;>rfl
  ·rcases cs with _|⟨⟨_|_,c⟩,r⟩<;>(try cases c)<;>simp [Fh]
 | [],k,a::vs,us,bc,o,hr,he,_,_=>by simp [Jt] at he
 |p::r,k,a::vs,[],bc,o,hr,_,_,_=>hr.elim
 |(false,c)::r,k,a::vs,u::us,bc,o,hr,he,hk,ho=>by
  have he:(Jt (k+1) r vs).map (λl=>a::l)=some bc:=by cases a<;>exact he
  cases hb:Jt (k+1) r vs with
  |none=>rw [hb] at he;cases he
  |some bc'=>
   rw [hb] at he
   simp only [An,Aa] at he;subst he
   obtain ⟨bv,g1,g2,g3⟩:=Zl hs r (k+1) vs us bc' o hr.2 hb (by cases a<;>exact hk) (by cases c<;>simpa only [Pg] using ho)
   refine ⟨u::bv,⟨hr.1,g1⟩,by simp [ux,g2],λtl=>?_⟩
   have:=g3 tl
   cases c<;>exact ⟨rfl,this⟩
 |(true,c)::r,k,a::vs,u::us,bc,o,hr,he,hk,ho=>by
  cases c with
  |Gw τ=>cases a<;>simp [Jt] at he
  |part e te=>cases a<;>simp [Jt] at he
  |Bu e te kp=>cases a<;>simp [Jt] at he
  |row e te=>
   cases a<;>first|(simp [Jt] at he;done)|skip
   rename_i l off len
   simp only [Jt] at he
   split at he
   rotate_left
   ·cases he
   rename_i hl
   have hl:l=Em true k:=Kb hl
   subst hl
   obtain ⟨⟨rfl,hlen⟩,hk⟩:=hk
   obtain ⟨b,sz,n,h1,h2,h3,h4⟩:=hr.1
   have ZZ:=hs k (by rw [h1];simp)
   simp only [Pg] at ho
   split at ho
   ·rename_i x1 x2 q1 q2
    simp only [Aa] at ho;subst ho
    obtain ⟨bv,g1,g2,g3⟩:=Zl hs r (k+1) vs us bc x2 hr.2 he hk q2
    refine ⟨bv,g1,by simpa [ux] using g2,λtl=>?_⟩
    refine ⟨?_,g3 tl⟩
    simp only [qf] at q1
    split at q1
    ·rename_i fr tr e' Ro xs Ll
     split at q1
     ·rename_i hc
      obtain ⟨rfl,rfl⟩:=hc
      simp only [Aa] at q1;subst q1
      unfold St.at at Ll hlen
      rw [Ll] at hlen
      rw [h1] at Ll;cases Ll
      simp only [OB.row,Aa,Ag] at h2
      obtain ⟨rfl,rfl⟩:=h2
      have hlen:len=List.length xs:=hlen
      have:=qK ZZ h4
      rw [hlen] at this
      have e0:(π0 (Em true k)).map full=(π0 (Em true k)).map full:=rfl
      cases hp:π0 (Em true k)<;>(rw [hp] at this;exact this)
     ·cases q1
    ·cases q1
   ·cases ho
  |Ie e te=>
   cases a<;>first|(simp [Jt] at he;done)|skip
   rename_i l off len
   simp only [Jt] at he
   split at he
   rotate_left
   ·cases he
   rename_i hl
   have hl:l=Em true k:=Kb hl
   subst hl
   obtain ⟨⟨rfl,hlen⟩,hk⟩:=hk
   obtain ⟨b,sz,n,h1,h2,h3,h4⟩:=hr.1
   have ZZ:=hs k (by rw [h1];simp)
   simp only [Pg] at ho
   split at ho
   ·rename_i x1 x2 q1 q2
    simp only [Aa] at ho;subst ho
    obtain ⟨bv,g1,g2,g3⟩:=Zl hs r (k+1) vs us bc x2 hr.2 he hk q2
    refine ⟨bv,g1,by simpa [ux] using g2,λtl=>?_⟩
    refine ⟨?_,g3 tl⟩
    simp only [qf] at q1
    split at q1
    ·rename_i e' Ro xs Ll
     split at q1
     ·rename_i hc
      obtain ⟨rfl,rfl⟩:=hc
      simp only [Aa] at q1;subst q1
      unfold St.at at Ll hlen
      rw [Ll] at hlen
      rw [h1] at Ll;cases Ll
      simp only [OB.row,Aa,Ag] at h2
      obtain ⟨rfl,rfl⟩:=h2
      have hlen:len=List.length xs:=hlen
      have:=qK ZZ h4
      rw [hlen] at this
      cases hp:π0 (Em true k)<;>(rw [hp] at this;exact this)
     ·cases q1
    ·cases q1
   ·cases ho
def Aqd (s:MSpec) (g:Nat) (π:Pi):Pi:= λl=>if s.ptr.isSome=true/\l=Pp then some ⟨g,0,0,λb=>b=g,λb=>b=g⟩ else π l
def Ami (P:Program) (s:MSpec) (fn:Func) (x:Ins.den s.ins) (w:World) (S:Nat->Prop) (π:Pi) (g:Nat) (r:CKs.den s.outs) (o:IOs.den s.ins) (a':Act) (w':World):Prop:=
 ∃(v:Value) (Xm:List Value) (ρ:Pi),a'.defers= []/\(results fn a'.tmps).run P w'= .ok v w'/\sw s w' ρ (Xm.drop s.aK) v/\lT s π w' g Xm o/\Lh w.heap.size (λb=>Wf π b\/s.gv g b) w w'/\Mo w' (kL S π ρ) π 0 s.ins o/\Jr w' (kL S π ρ) ρ 0 s.outs r Xm/\
  iw ρ (λb=>b<w'.heap.size/\(w.heap.size<=b\/ ∃l q,l<Bq/\π l=some q/\q.Da b))/\(∀l,(∀k,k<s.Vd->l≠Kq k)->ρ l=none)/\(∀kj∈s.keeps,DD w w' (π (Em false kj.1)) (ρ (Kq kj.2)) (s.Fz x))
theorem Jr.YS {D:Nat->Prop} {ρ ρ':Pi} : ∀(cs:List CK) (k:Nat) (x:CKs.den cs) (us:List Value),(∀j,k<=j->j<k+cs.length->ρ' (Kq j)=ρ (Kq j))->Jr w D ρ k cs x us->Jr w D ρ' k cs x us
 | [],_,_,[],_,h=>h
 | [],_,_,_::_,_,h=>h.elim
 |_::_,_,_,[],_,h=>h.elim
 |c::r,k,x,u::us,he,h=>⟨by rw [he k (Aq _) (by simp)];exact h.1,Jr.YS r (k+1) x.2 us (λj hj hl=>he j (by omega) (by simp;omega)) h.2⟩
theorem xG {st:St} {n:Nat} {as:List AC} : ∀ {ks:List (Nat×Nat)},xF st n as ks-> ∀kj∈ks,∃l off len e te rows out p,as[kj.2]?=some (.own l off len)/\Ay st.heap l=some (.Bu e te rows out (some p))/\p.1=Em false kj.1/\n<=p.2/\kj.1<1000
 | [],_,kj,hm=>by cases hm
 |(k,j)::r,h,kj,hm=>by
  simp only [xF] at h
  rcases Bb.1 hm with rfl|hm
  ·obtain ⟨h,_⟩:=h
   split at h
   ·rename_i l off len he
    split at h
    ·rename_i e te rows out p hl
     unfold St.at at hl
     exact ⟨l,off,len,e,te,rows,out,p,he,hl,h.1,h.2.1,by simpa using h.2.2⟩
    ·exact h.elim
   ·exact h.elim
  ·exact xG h.2 kj hm
theorem xT {st:St} : ∀(cs:List CK) (as:List AC) (x:CKs.den cs) (ls:List Nat),Vr st cs as=some (x,ls)->as.length=cs.length
 | [],[],_,_,_=>rfl
 | [],_::_,_,_,he=>by simp [Vr] at he
 |_::_,[],_,_,he=>by simp [Vr] at he
 |c::r,a::as,x,ls,he=>by
  simp only [Vr] at he
  split at he
  ·rename_i h1 h2
   simp only [Aw,xT r as _ _ h2]
  ·cases he
theorem HZ {α β:Type} (f:α->Sem β): ∀(l:List α) (vs:List β),vs.length=l.length->(∀(i:Nat) a v,l[i]?=some a->vs[i]?=some v->(f a).run P w= .ok v w)->(l.mapM f).run P w= .ok vs w
 | [],[],_,_=>by simp
 | [],_::_,h,_=>by simp at h
 |_::_,[],h,_=>by simp at h
 |a::l,v::vs,h,hr=>by
  rw [List.mapM_cons]
  simp only [Sem.run_bind,hr 0 a v rfl rfl,Result.andThen_ok,HZ f l vs (by simpa using h) (λi a' v' ha hv=>hr (i+1) a' v' (by simpa using ha) (by simpa using hv)),Sem.run_pure]
theorem vQ (hT:Eh P T) (Pl:Li P Γ) (hm:P.follows .mixedOrders=true) {f:FuncId} {fn:Func} (hf:P.funcs[f]?=some fn) (s:MSpec) (w:World) (S:Nat->Prop) (π:Pi) (us:List Value) (x:Ins.den s.ins)
  (r:CKs.den s.outs) (o:IOs.den s.ins) (g:Nat) (ni:List Value) (Rh:oQ s w g us ni) (hSg:s.ptr.isSome=true->S g) (Oj:fa w (λb=>Wf π b\/S b) π 0 s.ins x us) (lq:iw π (λb=>b<w.heap.size)) (hS: ∀b,S b->b<w.heap.size/\ ¬Wf π b) (ZH: ∀l,Ay (Zz 0 s.ins x) l=none->π l=none) (he:Agc T Γ s fn x λz=>z=(r,o)):
  Calls P f ni.toArray w λe w'=> ∃v Xm ρ,e= .returned v/\sw s w' ρ (Xm.drop s.aK) v/\lT s π w' g Xm o/\Lh w.heap.size (λb=>Wf π b\/s.gv g b) w w'/\Mo w' (kL S π ρ) π 0 s.ins o/\Jr w' (kL S π ρ) ρ 0 s.outs r Xm/\
   iw ρ (λb=>b<w'.heap.size/\(w.heap.size<=b\/ ∃l q,l<Bq/\π l=some q/\q.Da b))/\(∀l,(∀k,k<s.Vd->l≠Kq k)->ρ l=none)/\(∀kj∈s.keeps,DD w w' (π (Em false kj.1)) (ρ (Kq kj.2)) (s.Fz x)):=by
 obtain ⟨hlen,c,hb,he⟩:=he
 simp only [Aj,Nr] at hlen
 obtain ⟨hlen,ZL⟩:=hlen
 unfold AI at ZL
 simp only [Aj] at ZL
 have Anx:=ZL.1
 let rn:Pi:=Aqd s g π
 let Sg:Nat->Prop:= λb=>S b/\ ¬s.gv g b
 have hvl: ∀b j,j<1000->Em b j≠Pp:= λb j hj=>by cases b<;>(unfold Em Pp;simp;omega)
 have zl: ∀b j,0<=j->j<0+s.ins.length->rn (Em b j)=π (Em b j):= λb j _ hj=>Ai λh=>hvl b j (by omega) h.2
 have Ah9: ∀b j,0<=j->j<0+s.ins.length->π (Em b j)=rn (Em b j):= λb j h1 h2=>(zl b j h1 h2).symm
 have Ajr:Ay (Zz 0 s.ins x) Pp=none:=Bs λhn=>by
  obtain ⟨b,j,_,h2,h3⟩:=tE s.ins 0 x Pp hn
  exact hvl b j (by omega) h3.symm
 have WK: ∀l q,rn l=some q->(π l=some q/\(s.ptr.isSome=true->l≠Pp))\/(s.ptr.isSome=true/\l=Pp/\q=⟨g,0,0,λb=>b=g,λb=>b=g⟩):= λl q hq=>by
  have hq:(if s.ptr.isSome=true/\l=Pp then some ⟨g,0,0,λb=>b=g,λb=>b=g⟩ else π l)=some q:=hq
  split at hq
  ·rename_i hc;exact .inr ⟨hc.1,hc.2,(Bd hq).symm⟩
  ·rename_i hc;exact .inl ⟨hq,λh1 h2=>hc ⟨h1,h2⟩⟩
 have ew: ∀b,Wf rn b↔Wf π b\/s.gv g b:= λb=>by
  constructor
  ·rintro ⟨l,q,h1,h2⟩
   rcases WK l q h1 with ⟨h3,_⟩|⟨h3,h4,rfl⟩
   ·exact .inl ⟨l,q,h3,h2⟩
   ·exact .inr ⟨h3,h2⟩
  ·rintro (⟨l,q,h1,h2⟩|⟨h1,rfl⟩)
   ·refine ⟨l,q,?_,h2⟩
    show (if s.ptr.isSome=true/\l=Pp then _ else π l)=some q
    rw [Ai]
    ·exact h1
    ·rintro ⟨_,rfl⟩
     rw [ZH Pp Ajr] at h1;cases h1
   ·exact ⟨Pp,⟨b,0,0,λc=>c=b,λc=>c=b⟩,Ab ⟨h1,rfl⟩,rfl⟩
 have hgS: ∀b,s.gv g b->S b:= λb ⟨h1,h2⟩=>h2▸hSg h1
 have Aj5:fa w (λb=>Wf rn b\/Sg b) rn 0 s.ins x us:=fa.congr s.ins 0 x us zl (fa.Jh (λb hb=>by
  rcases hb with hb|hb
  ·rcases (ew b).1 hb with hb|hb
   ·exact .inl hb
   ·exact .inr (hgS b hb)
  ·exact .inr hb.1) s.ins 0 x us Oj)
 have Ao4:iw rn (λb=>b<w.heap.size):=⟨λl q b h1 h2=>by
  rcases WK l q h1 with ⟨h3,_⟩|⟨h3,h4,rfl⟩
  ·exact lq.Re l q b h3 h2
  ·exact (hS b (hgS b ⟨h3,h2⟩)).1,λl l' q q' b h1 h2 h3 h4=>by
  rcases WK l q h1 with ⟨h5,_⟩|⟨h5,h6,rfl⟩<;>rcases WK l' q' h2 with ⟨h7,_⟩|⟨h7,h8,rfl⟩
  ·exact lq.inj l l' q q' b h5 h7 h3 h4
  ·exact absurd ⟨l,q,h5,h3⟩ (hS b (hgS b ⟨h7,h4⟩)).2
  ·exact absurd ⟨l',q',h7,h4⟩ (hS b (hgS b ⟨h5,h3⟩)).2
  ·rw [h6,h8]⟩
 have Ast: ∀b,Sg b->b<w.heap.size/\ ¬Wf rn b:= λb hb=>⟨(hS b hb.1).1,λho=>((ew b).1 ho).elim (hS b hb.1).2 hb.2⟩
 have QX: ∀l,Ay (qB s x) l=match Ay (Zz 0 s.ins x) l with|some b=>some b|none=>if l=Pp then s.ptr.map λp=> .var p.1 ((bX 0 s.ins x).take p.2) else none:= λl=>by
  unfold qB
  cases hp:s.ptr with
  |none=>cases Ay (Zz 0 s.ins x) l<;>simp
  |some p=>
   simp only
   rw [qx]
   cases Ay (Zz 0 s.ins x) l with
   |some b=>rfl
   |none=>
    simp only [Ay,An]
    by_cases e:l=Pp
    ·rw [Ab e,Ab e.symm]
    ·rw [Ai e,Ai (λh=>e h.symm)]
 let π0:Pi:= λl=>(rn l).map full
 have un: ∀l q,π0 l=some q-> ∃q0,rn l=some q0/\q=full q0:= λl q hq=>by
  have hq:(rn l).map full=some q:=hq
  cases hp:rn l with
  |none=>rw [hp] at hq;cases hq
  |some q0=>rw [hp] at hq;exact ⟨q0,rfl,(Bd hq).symm⟩
 have ZO: ∀l b,Ay (Zz 0 s.ins x) l=some b->Ay (qB s x) l=some b:= λl b hb=>by rw [QX l,hb]
 have hrc:Nl ⟨w,Sg,Wf rn,π0⟩ w π0 (qB s x) (bX 0 s.ins x) us:=FL (λ_=>rfl) s.ins 0 x us (by omega) Aj5 ZO
 have Aa6:s.ptr.isSome=true->π0 Pp=some ⟨g,0,0,λb=>b=g,λb=>b=g⟩:= λhp=>by
  show (if s.ptr.isSome=true/\Pp=Pp then _ else π Pp).map full=_
  rw [Ab ⟨hp,rfl⟩];rfl
 obtain ⟨g1,g2⟩:(aH s (bX 0 s.ins x)).length=ni.length/\ ∀(i:Nat) c v,(aH s (bX 0 s.ins x))[i]?=some c->ni[i]?=some v->Bt ⟨w,Sg,Wf rn,π0⟩ w π0 (qB s x) c v:=by
  unfold oQ at Rh
  cases hp:s.ptr with
  |none=>
   rw [hp] at Rh
   obtain ⟨rfl,qz⟩:=Rh
   obtain ⟨g1,g2,_,_⟩:=ek s.Jy _ us qz hrc
   rw [show aH s (bX 0 s.ins x)=Tm s.Jy (bX 0 s.ins x) by unfold aH;rw [hp]]
   exact ⟨g1,g2⟩
  |some p=>
   rw [hp] at Rh
   obtain ⟨rfl,qz,_⟩:=Rh
   obtain ⟨g1,g2,_,_⟩:=ek s.Jy _ (us.drop p.2) qz (Nl.take p.2 hrc).2
   rw [show aH s (bX 0 s.ins x)= .at (.Ho Pp 0)::Tm s.Jy ((bX 0 s.ins x).drop p.2) by unfold aH;rw [hp]]
   refine ⟨by simp [g1],λi c v h1 h2=>?_⟩
   rcases i with _|i
   ·simp only [Bz,Aa] at h1 h2
    subst h1;subst h2
    exact ⟨_,p.1,(bX 0 s.ins x).take p.2,by rw [QX,Ajr];simp [hp],Aa6 (by rw [hp];rfl),rfl⟩
   ·exact g2 i c v (by simpa using h1) (by simpa using h2)
 have h0:Rel ⟨w,Sg,Wf rn,π0⟩ {tmps:=aH s (bX 0 s.ins x)++List.replicate (fn.ntmps-(aH s (bX 0 s.ins x)).length) .undef,heap:=qB s x}
   {tmps:=ni.toArray++Array.replicate (fn.ntmps-ni.toArray.size) undef,defers:= []} w:=by
  refine ⟨π0,⟨Lh.refl _ _ _,λb hb=>Ast b hb,λl q b h1 h2=>?_,λl q b h1 h2=>?_,λl l' q q' b h1 h2 h3 h4=>?_,λl _ _=>bG.rfl' _,λl=>?_⟩,⟨by simp [g1],rfl,λt=>?_⟩⟩
  ·obtain ⟨q0,_,rfl⟩:=un l q h1;exact h2
  ·obtain ⟨q0,h3,rfl⟩:=un l q h1
   exact ⟨.inr ⟨l,q0,h3,h2⟩,Ao4.Re l q0 b h3 h2⟩
  ·obtain ⟨q0,h5,rfl⟩:=un l q h1
   obtain ⟨q0',h6,rfl⟩:=un l' q' h2
   exact Ao4.inj l l' q0 q0' b h5 h6 h3 h4
  ·cases hh:Ay (Zz 0 s.ins x) l with
   |none=>
    by_cases hv:s.ptr.isSome=true/\l=Pp
    ·obtain ⟨hps,rfl⟩:=hv
     obtain ⟨p,hp⟩:=Xl.1 hps
     refine Gm.Mf (b:= .var p.1 ((bX 0 s.ins x).take p.2)) ?_ (by rw [QX,hh];simp [hp])
     unfold oQ at Rh
     rw [hp] at Rh
     obtain ⟨_,_,h1,h2,h3⟩:=Rh
     rw [Aa6 hps]
     exact ⟨_,rfl,rfl,_,h2,Nl.to (Nl.take p.2 hrc).1 h3⟩
    ·refine Gm.Uu ?_ ?_
     ·show (if s.ptr.isSome=true/\l=Pp then _ else π l).map full=none
      rw [Ai hv,ZH l hh];rfl
     ·rw [QX,hh]
      simp only
      split
      ·rename_i e
       cases hp:s.ptr with
       |none=>rfl
       |some p=>exact absurd ⟨by rw [hp];rfl,e⟩ hv
      ·rfl
   |some b=>exact Gm.Mf (mn (π0:=rn) (λb hb=>by
    rcases hb with ⟨l,q,h1,h2⟩|hb|⟨hb,_⟩
    ·obtain ⟨q0,h3,rfl⟩:=un l q h1;exact .inl ⟨l,q0,h3,h2⟩
    ·exact .inr hb
    ·cases hb) rfl (λ_=>rfl) s.ins 0 x us Aj5 l b hh) (ZO l b hh)
  ·show Bt _ w _ _ ((aH s (bX 0 s.ins x)++List.replicate _ AV.undef).getD t .undef) ((ni.toArray++Array.replicate _ undef).getD t undef)
   by_cases ht:t<ni.length
   ·rw [Al,Au (by omega),<-Al]
    rw [cy,Tv (by simpa using ht)]
    have:=g2 t _ _ (Ad (by omega)) (Ad ht)
    simpa [Al,Ad ht,Ad (show t<(aH s (bX 0 s.ins x)).length by omega)] using this
   ·have:(aH s (bX 0 s.ins x)++List.replicate (fn.ntmps-(aH s (bX 0 s.ins x)).length) AV.undef).getD t .undef= .undef:=by
     rw [Al,At (by omega)]
     rw [Zh]
     split<;>rfl
    rw [this];trivial
 have fin: ∀(st:St) (a':Act) (w':World),XY T s fn x st (λz=>z=(r,o))->Rel ⟨w,Sg,Wf rn,π0⟩ st a' w'->Ami P s fn x w S π g r o a' w':=by
  intro st a' w' rM hrel
  obtain ⟨cv,h'⟩:=hrel
  have Ahh:Bq<=Pp:=by unfold Bq Pp;omega
  obtain ⟨bc,qw,Av0,hbc⟩: ∃bc,kC T s fn x st bc (λz=>z=(r,o))/\(s.ptr.isSome=true-> ∃b,Ay st.heap Pp=some b/\b.row=none)/\
    (Pg st 0 s.ins=some o-> ∃bv,Nl ⟨w,Sg,Wf rn,π0⟩ w' cv st.heap bc bv/\bv.length=s.aK/\ ∀tl,lT s π w' g (bv++tl) o):=by
   unfold XY at rM
   cases hp:s.ptr with
   |none=>
    rw [hp] at rM
    exact ⟨[],rM,λh=>by simp at h,λ_=>⟨[],trivial,by simp [MSpec.aK,hp],λtl=>by simp [lT,hp]⟩⟩
   |some p=>
    rw [hp] at rM
    obtain ⟨vs,cs,h1,h2,h3,h4,h5⟩:=rM
    unfold St.at at h1
    refine ⟨cs,h5,λ_=>⟨_,h1,rfl⟩,λzj=>?_⟩
    obtain ⟨q,k1,k2,cur,k3,k4⟩:=(h'.1.heap Pp).Ru h1
    have hsv:bG (π0 Pp) (cv Pp):=h'.1.im Pp Ahh (by rw [h1];simp)
    rw [Aa6 (by rw [hp];rfl),k1] at hsv
    have hqg:g=q.g:=hsv.1
    obtain ⟨bv,g1,g2,g3⟩:=Zl (π0:=rn) (λk hk=>h'.1.im _ (Nat.le_of_not_lt (br k)) hk) s.ins 0 vs cur.toList cs o (Nl.of k4) h3 h4 zj
    refine ⟨bv,g1,by rw [g2,h2];simp [MSpec.aK,hp],λtl=>?_⟩
    unfold lT
    rw [hp]
    refine ⟨cur.toList,by rw [hqg];simpa using k3,λu hu=>?_,Fh.congr s.ins 0 o p.2 _ _ Ah9 (h2▸g3 tl)⟩
    obtain ⟨i,hi,rfl⟩:=Bf.1 hu
    have hl:=k4.1
    obtain ⟨u',h6,h7,_⟩:=k4.2 i (vs[i]'(by omega)) (Ad _)
    rw [Ad hi] at h6
    rw [Bd h6];exact h7
  unfold kC at qw
  split at qw
  ·exact qw.elim
  rename_i l hl
  split at qw
  ·exact qw.elim
  rename_i as ml ib
  split at qw
  rotate_left
  ·exact qw.elim
  rename_i r' ls o' zp qv
  obtain ⟨Kh,xu,ZY⟩:=qw
  simp only [Aj,Nr] at Kh
  obtain ⟨⟨⟨rH,Azp⟩,Axc⟩,Ant⟩:=Kh
  simp only [Ag] at ZY
  obtain ⟨rfl,rfl⟩:=ZY
  obtain ⟨bv,hbv,At6,At3⟩:=hbc qv
  have LU:=Yq rH
  obtain ⟨n1,n2,n3⟩:=Dz.1 LU
  obtain ⟨m1,m2,m3⟩:=Dz.1 n1
  obtain ⟨vs,v1,v2,v3,v4⟩:=Ys hT h' _ _ hl
  have hrs:fn.results=fn.results.toList.toArray:=Array.toArray_toList.symm
  have Vz: ∀v,(if h:vs.toArray.size=1 then vs.toArray[0] else .tuple vs.toArray)=v->(results fn a'.tmps).run P w'= .ok v w':=by
   intro v hv
   rw [fS,hrs,List.mapM_toArray]
   simp only [map_eq_pure_bind,bind_assoc,pure_bind]
   simp only [Sem.run_bind,HZ (NX a'.tmps) _ vs v1 v3,Result.andThen_ok,Sem.run_pure]
   rw [hv]
  obtain ⟨wP,v,qm,Auy,hv,hqm⟩: ∃wP v qm,Nl ⟨w,Sg,Wf rn,π0⟩ w' cv st.heap as wP/\(results fn a'.tmps).run P w'= .ok v w'/\
    ((s.rp=none/\ml= []/\qm=none/\Abs s.Ij s.Iu wP v/\dc s.Iu wP)\/
     ∃tid m q,s.rp=some tid/\ml= [m]/\m<Bq/\qm=some q/\cv m=some q/\q.Da q.g/\w'.heap[q.g]?=some (.cells wP.toArray tid (0,0))/\(∀u∈wP,u.oneCell'=true)/\v= .pointer (some ⟨q.g,0,none⟩)):=by
   unfold NW at ib
   split at ib
   ·rename_i JX
    split at ib
    rotate_left
    ·cases ib
    rename_i hmul
    cases oO:ungroup s.Iu l with
    |none=>rw [oO] at ib;cases ib
    |some as'=>
     rw [oO] at ib
     simp only [An,Aa,Ag] at ib
     obtain ⟨rfl,rfl⟩:=ib
     obtain ⟨wP,e1,e2,e3⟩:=al s.Iu l vs as' (by omega) v4 oO
     have hv: ∃v,(results fn a'.tmps).run P w'= .ok v w'/\Abs s.Ij s.Iu wP v:=by
      unfold Abs
      rw [<-e1,hmul]
      rcases Nat.lt_or_ge 1 l.length with h1|h1
      ·have hb1:Nat.blt 1 l.length=true:=by simpa using h1
       simp only [hb1,Oz]
       refine ⟨.tuple vs.toArray,Vz _ ?_,rfl⟩
       rw [dif_neg (by simp;omega)]
      ·have hb1:Nat.blt 1 l.length=false:=by rw [<-En];simpa using h1
       simp only [hb1,Di,Rt]
       rcases vs with _|⟨v,_|⟨v',vs⟩⟩
       ·exact ⟨_,Vz _ (by simp;rfl), .inr rfl⟩
       ·exact ⟨v,Vz _ (by simp), .inl rfl⟩
       ·exfalso;simp only [Aw] at v1;omega
     obtain ⟨v,hv1,hv2⟩:=hv
     exact ⟨wP,v,none,e3,hv1, .inl ⟨JX,rfl,rfl,hv2,e2⟩⟩
   ·rename_i tid JX
    split at ib
    rotate_left
    ·cases ib
    rename_i m i
    split at ib
    rotate_left
    ·cases ib
    rename_i Vh vs' hm
    split at ib
    rotate_left
    ·cases ib
    rename_i hc
    obtain ⟨rfl,rfl,hmp⟩:=hc
    simp only [Aa,Ag] at ib
    obtain ⟨rfl,rfl⟩:=ib
    unfold St.at at hm
    rcases vs with _|⟨v,_|⟨v',vs⟩⟩
    ·exfalso;simp only [Aw,Dv] at v1 v2;omega
    ·obtain ⟨q,Bbo,vs2,q1,q2,q3⟩:=v4 0 _ v rfl rfl
     rw [hm] at q1;cases q1
     obtain ⟨q',k1,k2,cur,k3,k4⟩:=(h'.1.heap m).Ru hm
     rw [q2] at k1;cases k1
     refine ⟨cur.toList,v,some q,Nl.of k4,Vz _ (by simp), .inr ⟨_,m,q,JX,rfl,by simpa using hmp,rfl,q2,k2,by simpa using k3,λu hu=>?_,q3⟩⟩
     obtain ⟨i,hi,rfl⟩:=Bf.1 hu
     have hl:=k4.1
     obtain ⟨u',h6,h7,_⟩:=k4.2 i (vs'[i]'(by omega)) (Ad _)
     rw [Ad hi] at h6
     rw [Bd h6];exact h7
    ·exfalso;simp only [Aw,Dv] at v1 v2;omega
  obtain ⟨DB,p1,p2,p3,p4,p5⟩:=xU h'.1 s.outs 0 (bc++as) (bv++wP) r' ls (hbv.append Auy) zp m2
  obtain ⟨io1,io2⟩:=Vb (π0:=rn) h'.1 (λ_=>rfl) s.ins 0 x us o' Aj5 qv
  have Anh:(bv++wP).drop s.aK=wP:=by rw [<-At6];simp
  let ρ:Pi:= λl0=>if l0=Kq s.outs.length then qm else DB l0
  have Ajy:ρ (Kq s.outs.length)=qm:=Ab rfl
  have Ap2: ∀l0,l0≠Kq s.outs.length->ρ l0=DB l0:= λl0 h=>Ai h
  have Ap1: ∀j,j<s.outs.length->ρ (Kq j)=DB (Kq j):= λj hj=>Ap2 _ (by unfold Kq;omega)
  have vH: ∀l0 q,ρ l0=some q->(l0=Kq s.outs.length/\qm=some q)\/(l0≠Kq s.outs.length/\DB l0=some q):= λl0 q h=>by
   by_cases e:l0=Kq s.outs.length
   ·subst e;rw [Ajy] at h;exact .inl ⟨rfl,h⟩
   ·rw [Ap2 l0 e] at h;exact .inr ⟨e,h⟩
  have Aoa: ∀q,qm=some q-> ∃m,ml= [m]/\m<Bq/\cv m=some q:= λq hq=>by
   rcases hqm with ⟨_,_,h1,_⟩|⟨_,m,q',_,h1,h2,h3,h4,_⟩
   ·rw [h1] at hq;cases hq
   ·rw [h3] at hq;cases hq;exact ⟨m,h1,h2,h4⟩
  have p3': ∀l0 q b,ρ l0=some q->q.Da b-> ∃l1∈ml++ls,∃p,cv l1=some p/\p.cl b/\((s.outs.all λc=>!c.isX)=true->p.Da b)/\((l1∈ls)\/l1<Bq):= λl0 q b h1 h2=>by
   rcases vH l0 q h1 with ⟨_,h3⟩|⟨_,h3⟩
   ·obtain ⟨m,e1,e2,e3⟩:=Aoa q h3
    exact ⟨m,by rw [e1];simp,q,e3,h'.1.sub m q b e3 h2,λ_=>h2, .inr e2⟩
   ·obtain ⟨l1,g1,p,g2,g3,g4⟩:=p3 l0 q b h3 h2
    exact ⟨l1,Cn _ g1,p,g2,g3,g4, .inl g1⟩
  have p4': ∀l0 l1 q q' b,ρ l0=some q->ρ l1=some q'->q.Da b->q'.Da b->l0=l1:= λl0 l1 q q' b h1 h2 h3 h4=>by
   have EE: ∀l0 q q' b,DB l0=some q->qm=some q'->q.Da b->q'.Da b->False:= λl0 q q' b h1 h2 h3 h4=>by
    obtain ⟨m,e1,e2,e3⟩:=Aoa q' h2
    obtain ⟨l1,g1,p,g2,g3,_⟩:=p3 l0 q b h1 h3
    have:=h'.1.inj m l1 q' p b e3 g2 (h'.1.sub m q' b e3 h4) g3
    exact m3 m (by rw [e1];simp) l1 g1 this
   rcases vH l0 q h1 with ⟨e1,h5⟩|⟨e1,h5⟩<;>rcases vH l1 q' h2 with ⟨e2,h6⟩|⟨e2,h6⟩
   ·rw [e1,e2]
   ·exact (EE l1 q' q b h6 h5 h4 h3).elim
   ·exact (EE l0 q q' b h5 h6 h3 h4).elim
   ·exact p4 l0 l1 q q' b h5 h6 h3 h4
  have RE: ∀l0 q,Bq<=l0->rn l0=some q->Ay st.heap l0≠none/\(l0∈Qa 0 s.ins\/ ∃b,Ay st.heap l0=some b/\b.row=none):= λl0 q h1 h2=>by
   rcases WK l0 q h2 with ⟨h3,_⟩|⟨h3,rfl,_⟩
   ·have zj:=xB s.ins 0 x l0 Anx (by omega) (λhnn=>by rw [ZH l0 hnn] at h3;cases h3) (by omega)
    exact ⟨io2 l0 zj, .inl zj⟩
   ·obtain ⟨b,h4,h5⟩:=Av0 h3
    exact ⟨by rw [h4];simp, .inr ⟨b,h4,h5⟩⟩
  have hDO:(s.outs.all λc=>!c.isX)=true-> ∀b,kL Sg rn ρ b->Wf cv b\/Sg b:=by
   intro hx b hb
   rcases hb with hb|⟨l0,q,h1,h2,h3⟩|⟨l0,q,h1,h2⟩
   ·exact .inr hb
   ·have hs:=h'.1.im l0 h1 (RE l0 q h1 h2).1
    have hs:bG ((rn l0).map full) (cv l0):=hs
    rw [h2] at hs
    cases xx:cv l0 with
    |none=>rw [xx] at hs;exact hs.elim
    |some q1=>rw [xx] at hs;exact .inl ⟨l0,q1,xx,(hs.2.2.2 b).1 h3⟩
   ·obtain ⟨m,_,p,hm2,_,hm4,_⟩:=p3' l0 q b h1 h2
    exact .inl ⟨m,p,hm2,hm4 hx⟩
  have hDD: ∀b,kL S π ρ b->kL Sg rn ρ b:= λb hb=>by
   rcases hb with hb|⟨l0,q,h1,h2,h3⟩|hb
   ·by_cases XK:s.gv g b
    ·obtain ⟨hps,rfl⟩:=XK
     exact .inr (.inl ⟨Pp,_,Ahh,Ab ⟨hps,rfl⟩,rfl⟩)
    ·exact .inl ⟨hb,XK⟩
   ·refine .inr (.inl ⟨l0,q,h1,?_,h3⟩)
    show (if s.ptr.isSome=true/\l0=Pp then _ else π l0)=some q
    rw [Ai]
    ·exact h2
    ·rintro ⟨_,rfl⟩
     rw [ZH Pp Ajr] at h2;cases h2
   ·exact .inr (.inr hb)
  have hfl:s.flat=true\/(s.outs.all λc=>!c.isX)=true:=by unfold MSpec.Aat at Ant;simpa only [Ks] using Ant
  have io1:Mo w' (kL S π ρ) π 0 s.ins o':=by
   refine Mo.congr s.ins 0 o' Ah9 ?_
   rcases hfl with hf|hf
   ·unfold MSpec.flat at hf
    simp only [Aj] at hf
    exact Mo.any s.ins 0 o' hf.2 io1
   ·exact Mo.Jh (λb hb=>hDO hf b (hDD b hb)) s.ins 0 o' io1
  have p1:Jr w' (kL S π ρ) ρ 0 s.outs r' (bv++wP):=by
   have p1:Jr w' (λb=>Wf cv b\/Sg b) ρ 0 s.outs r' (bv++wP):=Jr.YS s.outs 0 r' _ (λj _ hj=>Ap1 j (by omega)) p1
   rcases hfl with hf|hf
   ·unfold MSpec.flat at hf
    simp only [Aj] at hf
    exact Jr.any s.outs 0 r' (bv++wP) hf.1 p1
   ·exact Jr.Jh (λb hb=>hDO hf b (hDD b hb)) s.outs 0 r' (bv++wP) p1
  refine ⟨v,bv++wP,ρ,h'.2.defers,hv,?_,At3 wP,⟨h'.1.below.os,h'.1.below.tape,h'.1.below.output,h'.1.below.size,λk hk hn=>h'.1.below.block k hk λho=>hn ((ew k).1 ho)⟩,io1,p1,⟨λl0 q b h1 h2=>?_,p4'⟩,λl0 hl0=>?_,λkj XM=>?_⟩
  ·rw [Anh]
   unfold sw
   rcases hqm with ⟨h1,_,_,h2⟩|⟨tid,m,q,h1,_,_,h3,_,h4,h5,h6,h7⟩
   ·rw [h1];exact h2
   ·rw [h1];exact ⟨q,by rw [Ajy,h3],h4,h5,h6,h7⟩
  ·obtain ⟨m,hm1,p,hm2,hm3,_,hm4⟩:=p3' l0 q b h1 h2
   obtain ⟨k1,k2⟩:=h'.1.place m p b hm2 hm3
   refine ⟨k2,k1.imp id λ⟨c0,q0,h5,h6⟩=>?_⟩
   have Lg:c0<Bq:=Bs λhn=>by
    obtain ⟨Ip,zj⟩:=RE c0 q0 (by omega) h5
    have hs:=h'.1.im c0 (by omega) Ip
    have hs:bG ((rn c0).map full) (cv c0):=hs
    rw [h5] at hs
    cases xx:cv c0 with
    |none=>rw [xx] at hs;exact hs.elim
    |some q1=>
     rw [xx] at hs
     have hf1:q1.Da b:=(hs.2.2.2 b).1 h6
     have:=h'.1.inj c0 m q1 p b xx hm2 (h'.1.sub c0 q1 b xx hf1) hm3
     subst this
     rcases hm4 with hm4|hm4
     ·rcases zj with zj|⟨b1,hb1,hb2⟩
      ·exact n3 c0 hm1 c0 zj rfl
      ·obtain ⟨b2,hb3,hb4⟩:=uf s.outs _ _ _ zp c0 hm4
       rw [hb1] at hb3;cases hb3
       exact hb4 hb2
     ·exact hn hm4
   refine ⟨c0,q0,Lg,?_,h6⟩
   rcases WK c0 q0 h5 with ⟨h7,_⟩|⟨_,h7,_⟩
   ·exact h7
   ·omega
  ·cases hp:ρ l0 with
   |none=>rfl
   |some q=>
    rcases vH l0 q hp with ⟨e,h3⟩|⟨_,h3⟩
    ·refine absurd e (hl0 _ ?_)
     rcases hqm with ⟨_,_,h4,_⟩|⟨tid,m,q',h4,_⟩
     ·rw [h4] at h3;cases h3
     ·unfold MSpec.Vd;rw [h4];simp
    ·obtain ⟨j,_,j2,j3⟩:=p2 l0 q h3
     exact absurd j3 (hl0 j (by unfold MSpec.Vd;omega))
  ·obtain ⟨l0,off,len,e,te,rows,out,p,q1,q2,q3,q4,q5⟩:=xG xu kj XM
   have hj:kj.2<s.outs.length:=by
    rw [<-xT s.outs _ _ _ zp]
    exact (Ap.1 q1).1
   have e1:=p5 kj.2 l0 off len e te rows out (some p) q1 q2
   rw [Bk] at e1
   rw [Ap1 _ hj,e1]
   have hk:=((h'.1.heap l0).Ru q2).2
   obtain ⟨l1,n1⟩:=p
   simp only [KeptAt] at hk
   dsimp only at q3 q4
   subst q3
   have TW:π0 (Em false kj.1)=(π (Em false kj.1)).map full:=by
    show (if s.ptr.isSome=true/\Em false kj.1=Pp then _ else π (Em false kj.1)).map full=_
    rw [Ai λh=>hvl false kj.1 q5 h.2]
   rw [TW] at hk
   unfold DD
   cases hp:π (Em false kj.1) with
   |none=>
    rw [hp] at hk
    cases xx:cv l0 with
    |none=>trivial
    |some q=>rw [xx] at hk;exact hk.elim
   |some q0=>
    rw [hp] at hk
    cases xx:cv l0 with
    |none=>rw [xx] at hk;exact hk.elim
    |some q=>
     rw [xx] at hk
     obtain ⟨k1,k2,k3,k4⟩:=hk
     exact ⟨k1,k2,k3,λj hj hc=>k4 j (by omega) hc⟩
 refine calls_of_wp hf hb ?_
 refine (uC hT Pl hm he _ w _ h0 λe st a' w' ⟨Ip,rM⟩ h'=>?_).1
 obtain ⟨v,Xm,ρ,p1,p2,p3⟩:=fin st a' w' rM h'
 cases e with
 |normal=>exact ⟨p1,v,p2,v,Xm,ρ,rfl,p3⟩
 |ret=>exact ⟨p1,v,p2,v,Xm,ρ,rfl,p3⟩
 |exit id=>exact absurd rfl (Ip id)
end
end Go.Proofs.Ytkkdpknjohcekaa
