/-
  Part 27 of the proof that the statement FnBoundStatistics holds.
-/
import Derived.Test.YtkkdpknjohcekaaCFBoundStatistics25
namespace Go.Proofs.Ytkkdpknjohcekaa
open Go.RowKit
section
variable {P:Program} {T:Tab} {Γ:Env} {X:Ctx} {w w':World} {π:Pi} {H:List (Nat×OB)}
theorem tD: ∀(cs:List (Bool×CK)) (k:Nat) (x:Ins.den cs) (l:Nat),At (Zy k cs x) l≠none-> ∃b j,k<=j/\j<k+cs.length/\l=Dx b j
 | [],_,_,_,h=>absurd rfl h
 |p::r,k,x,l,h=>by
  simp only [Zy] at h
  by_cases e:l=Dx p.1 k
  ·exact ⟨p.1,k,Ap _,by simp,e⟩
  ·have:At (Zy (k+1) r x.2) l≠none:=by
    cases hc:kD (Dx p.1 k) p.2 x.1 with
    |none=>rw [hc] at h;exact h
    |some b=>rw [hc] at h;simpa only [iw,At,Ak (Gb e)] using h
   obtain ⟨b,j,h1,h2,h3⟩:=tD r (k+1) x.2 l this
   exact ⟨b,j,by omega,by simp;omega,h3⟩
theorem SY {p:Bool×CK} {r:List (Bool×CK)} {k:Nat} {x:Ins.den (p::r)} (hk:k+(r.length+1)<100000) {l:Nat} {b:OB} (h:At (Zy (k+1) r x.2) l=some b):At (Zy k (p::r) x) l=some b:=by
 obtain ⟨b',j,h1,h2,rfl⟩:=tD r (k+1) x.2 l (by rw [h];simp)
 simp only [Zy]
 cases kD (Dx p.1 k) p.2 x.1 with
 |none=>exact h
 |some c=>simp only [iw,At];rw [Ak (RD (by omega) (by omega) (by omega))];exact h
theorem XF {D:Nat->Prop} (hD: ∀b,Da X.w0.heap.size X.Sc π false b->D b) (hw0:X.w0=w) {l:Nat} {r:Option Real} (Zx:X.gW l=r.map full) {u:Value} {c:CK} {x:c.den} (h:eN w D r u c x) {b:OB} (hb:kD l c x=some b):Cj X w π H (r.map full) b:=by
 have Wi: ∀ {e:Ty} {es:List Value} {y:e.den},Cells w D e es y->Cells w (Da X.w0.heap.size X.Sc π false) e es y:= λ {e es y} h=>Cells.Fb (Ap _) (λ_ _ _=>rfl) (λb _ hb=>hD b hb) e es y h
 cases c with
 |Fy τ=>cases hb
 |row e te=>
  simp only [kD,Aa] at hb;subst hb
  obtain ⟨_,h⟩:=h
  simp only [fX] at h
  simp only [Cj,Ki]
  cases r with
  |none=>exact h
  |some q=>
   obtain ⟨k1,cu,ti,k2,k3,k4,k5,k6⟩:=h
   exact ⟨⟨k1.1,k1.2,λh=>by cases h⟩,cu,ti,k2,k3,k4,k5,λi y hy=>by
    obtain ⟨es,g1,g2,g3⟩:=k6 i y hy
    exact ⟨es,g1,g2,Wi g3⟩,λh=>by cases h⟩
 |Hw e te=>
  simp only [kD,Aa] at hb;subst hb
  cases r<;>exact h.2
 |part e te=>
  simp only [kD,Aa] at hb;subst hb
  obtain ⟨_,hf,h⟩:=h
  simp only [Cj,Ki]
  cases r with
  |none=>exact h
  |some q=>
   obtain ⟨k1,cu,ti,k2,k3,k4,k5,k6⟩:=h
   exact ⟨⟨k1.1,k1.2,λh=>by cases h⟩,cu,ti,k2,k3,k4,k5,λi y hy=>by
    obtain ⟨es,g1,g2,g3⟩:=k6 i y hy
    exact ⟨es,g1,g2,Wi g3⟩,λh=>by cases h⟩
 |Bl e te kp=>
  simp only [kD,Aa] at hb;subst hb
  have h2:ay w D r e x none:=h.2
  have h3:=ay.Iw h2 hD
  refine ⟨by cases r<;>exact h3,?_⟩
  cases kp with
  |false=>trivial
  |true=>
   simp only [Po,KeptAt]
   rw [Zx]
   cases r with
   |none=>trivial
   |some q=>exact ⟨rfl,rfl,rfl,λj _ _=>by rw [hw0]⟩
theorem m7 {D:Nat->Prop} (hD: ∀b,Da X.w0.heap.size X.Sc π false b->D b) (hw0:X.w0=w) {π0:Pi} (Zx: ∀l,X.gW l=(π0 l).map full): ∀(cs:List (Bool×CK)) (k:Nat) (x:Ins.den cs) (us:List Value),eO w D π0 k cs x us-> ∀l b,At (Zy k cs x) l=some b->Cj X w π H ((π0 l).map full) b
 | [],_,_,_,_,_,_,h=>by cases h
 |_::_,_,_,[],h,_,_,_=>h.elim
 |p::r,k,x,u::us,h,l,b,hb=>by
  simp only [Zy] at hb
  cases hc:kD (Dx p.1 k) p.2 x.1 with
  |none=>rw [hc] at hb;exact m7 hD hw0 Zx r (k+1) x.2 us h.2 l b hb
  |some c=>
   rw [hc] at hb
   simp only [iw,At] at hb
   split at hb
   ·rename_i e;subst e
    simp only [Aa] at hb;subst hb
    exact XF hD hw0 (Zx _) h.1 hc
   ·exact m7 hD hw0 Zx r (k+1) x.2 us h.2 l b hb
theorem EO {S:Nat->Prop} {π0:Pi} {gv:Nat->Prop} {gW:Pi} (ef: ∀l,π l=(π0 l).map full): ∀(cs:List (Bool×CK)) (k:Nat) (x:Ins.den cs) (us:List Value),k+cs.length<100000->eO w (λb=>Vy π0 b\/S b) π0 k cs x us->(∀l b,At (Zy k cs x) l=some b->At H l=some b)->
  Nh ⟨w,S,gv,gW⟩ w π H (bQ k cs x) us
 | [],_,_,[],_,_,_=>trivial
 | [],_,_,_::_,_,h,_=>h.elim
 |_::_,_,_,[],_,h,_=>h.elim
 |p::r,k,x,u::us,hk,h,hH=>by
  simp only [Av] at hk
  refine ⟨?_,EO ef r (k+1) x.2 us (by omega) h.2 λl b hb=>hH l b (SY hk hb)⟩
  have h1:=h.1
  have hh: ∀b,kD (Dx p.1 k) p.2 x.1=some b->At H (Dx p.1 k)=some b:= λb hb=>hH _ b (by simp only [Zy];rw [hb];simp [iw,At])
  have kF:=ef (Dx p.1 k)
  obtain ⟨io,c⟩:=p
  dsimp only at h1 hh kF⊢
  generalize x.1=y at*
  cases c with
  |Fy τ=>
   show Cw w _ τ u y
   cases hf:τ.flat with
   |true=>exact Cw.flat hf h1.2
   |false=>
    refine h1.2.Iw λb _ hb=>?_
    rcases hb with ⟨l,q,h3,h4⟩|hb|⟨hb,_⟩
    ·rw [ef l] at h3
     cases hp:π0 l with
     |none=>rw [hp] at h3;cases h3
     |some q0=>rw [hp] at h3;simp only [Am,Aa] at h3;subst h3;exact .inl ⟨l,q0,hp,h4⟩
    ·exact .inr hb
    ·cases hb
  |row e te=>exact ⟨_,e.size,List.length y,hh _ rfl,rfl,by simp,by rw [kF];exact a7 h1.1⟩
  |Hw e te=>exact ⟨_,e.size,List.length y,hh _ rfl,rfl,by simp,by rw [kF];exact a7 h1.1⟩
  |part e te=>exact ⟨_,e.size,List.length y.1,hh _ rfl,rfl,h1.1.2,by rw [kF];exact a7 h1.1.1⟩
  |Bl e te kp=>exact ⟨_,1,List.length y,hh _ rfl,rfl,by simp,by rw [kF];exact a7 h1.1⟩
theorem pv {p:Real} {s off len:Nat} {u:Value} {f:Nat->Prop} (h:Ia (some p) s off len u):Ia (some ⟨p.g,p.o+off,p.cap-off,f,f⟩) s 0 len u:=by
 obtain ⟨ad,h1,h2,h3⟩:=h
 exact ⟨ad,h1,by dsimp only;omega,λh0=>by dsimp only at h0;simpa using h3 (by omega)⟩
theorem ua {α:Type} {xs:List α} {off len i:Nat} {x:α} (h:((xs.drop off).take len)[i]?=some x):xs[off+i]?=some x:=by
 rw [Cx] at h
 split at h
 ·rw [Dd] at h;exact h
 ·cases h
theorem Xx.part {P:Nat->Prop} {g o:Nat} {cur:Array Value} {e:Ty} {xs:List e.den} (off len:Nat) (h:Xx w P g o cur e xs):Xx w P g (o+off) cur e ((xs.drop off).take len):=by
 obtain ⟨Fs,t1,t2,t3,t4⟩:=h
 refine ⟨(Fs.drop off).take len,by simp [t1],Bx.2 ⟨λhm=>(Bx.1 t2).1 (Ss off len _ hm),mh off len (Bx.1 t2).2⟩,λb hb=>t3 b (Ss off len b hb),λi x F hx hF=>?_⟩
 obtain ⟨es,k1,k2,k3⟩:=t4 (off+i) x F (ua hx) (ua hF)
 exact ⟨es,k1,λj u hu=>by rw [Gq o off i];exact k2 j u hu,k3⟩
theorem TP {st:St} (h:Ng X w π st.heap) {c:CK} (hg: ∀e te kp,c≠ .Bl e te kp) {a:AC} {u:Value} (hu:Hq X w π st.heap a u) {x:c.den} {ls:List Nat} (he:kH st c a=some (x,ls)):
  ∃r,eN w (λb=>Vy π b\/X.Sc b) r u c x/\ ∀q,r=some q-> ∃l p,ls= [l]/\π l=some p/\(∀b,q.Cv b->p.cl b)/\(c.isX=false-> ∀b,q.Cv b->p.Cv b):=by
 have PZ: ∀ {f:Bool} (b:Nat),(Vy π b\/X.Sc b)->Da X.w0.heap.size X.Sc π f b:= λb h=>h.imp id .inl
 cases c with
 |Fy τ=>
  simp only [kH] at he
  split at he
  ·rename_i hf
   cases hv:Dm st τ a with
   |none=>rw [hv] at he;cases he
   |some p=>
    obtain ⟨fr,y⟩:=p
    rw [hv] at he
    simp only [Am,Aa,Ae] at he
    obtain ⟨rfl,rfl⟩:=he
    refine ⟨none,⟨rfl,?_⟩,λq hq=>by cases hq⟩
    have Iw: ∀f,Cw w (Da X.w0.heap.size X.Sc π f) τ u y->Cw w (λb=>Vy π b\/X.Sc b) τ u y:= λf hr=>hr.Iw λk _ hk=>PZ k hk
    cases a with
    |data f Ok z=>
     rw [Oc] at hv
     split at hv
     ·rename_i ht;subst ht
      simp only [Aa,Ae] at hv
      obtain ⟨_,rfl⟩:=hv
      exact Iw f hu
     ·have Vz:τ.Ao=false:=by unfold iy at hv;split at hv<;>first|rfl|cases hv
      exact Iw _ ⟨[u],dh hv hu,by simp [Cb,Vz]⟩
    |Ly=>
     have hu:u= .slice none 0 0:=hu
     subst hu
     cases τ<;>simp only [Dm,Aa,Ae,reduceCtorEq] at hv
     ·obtain ⟨_,rfl⟩:=hv;exact ⟨[_],⟨none,0,0,rfl,rfl,Ap _, .inl rfl⟩,rfl⟩
     ·obtain ⟨_,rfl⟩:=hv;exact ⟨[_], .inl ⟨rfl,0,rfl⟩,rfl⟩
    |Vt=>
     have hu:u= .pointer none:=hu
     subst hu
     cases τ<;>simp only [Dm,Aa,Ae,reduceCtorEq] at hv
     obtain ⟨_,rfl⟩:=hv;exact ⟨[_], .inl ⟨rfl,rfl⟩,rfl⟩
    |_=>cases τ<;>simp [AC.settled,Ty.flat,Dm] at hf hv
  ·cases he
 |row e te=>
  cases a<;>simp only [kH] at he<;>try (cases he;done)
  ·simp only [Aa,Ae] at he
   obtain ⟨rfl,rfl⟩:=he
   have hu:u= .slice none 0 0:=hu
   exact ⟨none,⟨⟨hu,rfl,rfl⟩,rfl⟩,λq hq=>by cases hq⟩
  ·rename_i l off len
   split at he
   ·rename_i fr tr e' Rj xs hl
    split at he
    ·rename_i hc
     obtain ⟨rfl,rfl⟩:=hc
     simp only [Aa,Ae] at he
     obtain ⟨rfl,rfl⟩:=he
     unfold St.at at hl
     obtain ⟨h1,h2⟩:=Ot hu hl
     have hb:=(h.heap l).Rp hl
     simp only [Cj,Ki] at hb
     have hlen:((xs.drop off).take len).length=len:=by simp;omega
     cases hp:π l with
     |none=>
      rw [hp] at h2 hb
      obtain ⟨rfl,rfl,rfl⟩:=h2
      exact ⟨none,⟨⟨rfl,rfl,by simp⟩,by show (xs.drop 0).take 0= [];simp⟩,λq hq=>by cases hq⟩
     |some p=>
      rw [hp] at h2 hb
      obtain ⟨k1,cur,ti,k2,k3,k4,k5,k6,_⟩:=hb
      have ho:=h2
      obtain ⟨ad,_,tj,_⟩:=h2
      refine ⟨some ⟨p.g,p.o+off,p.cap-off,p.Cv,p.Cv⟩,⟨by rw [hlen];exact pv ho,⟨k1.1,k1.2.1⟩,cur,ti,k2,by rw [k3];congr 1;dsimp only;omega,by dsimp only;omega,by rw [hlen];dsimp only;omega,λi y hy=>?_⟩,
       fun q hq=>by cases hq;exact ⟨l,p,rfl,hp,λb hb=>h.sub l p b hp hb,λ_ b hb=>hb⟩⟩
      obtain ⟨es,g1,g2,g3⟩:=k6 (off+i) y (ua hy)
      exact ⟨es,g1,λj u hu=>by dsimp only;rw [Gq p.o off i];exact g2 j u hu,Cells.Fb (Ap _) (λ_ _ _=>rfl) (λb _ hb=>PZ b hb) e' es y g3⟩
    ·cases he
   ·cases he
 |Hw e te=>
  cases a<;>simp only [kH] at he<;>try (cases he;done)
  ·simp only [Aa,Ae] at he
   obtain ⟨rfl,rfl⟩:=he
   have hu:u= .slice none 0 0:=hu
   exact ⟨none,⟨⟨hu,rfl,rfl⟩,rfl⟩,λq hq=>by cases hq⟩
  ·rename_i l off len
   split at he
   ·rename_i fr tr e' Rj xs hl
    split at he
    ·rename_i hc
     obtain ⟨rfl,rfl,hf⟩:=hc
     simp only [Aa,Ae] at he
     obtain ⟨rfl,rfl⟩:=he
     unfold St.at at hl
     obtain ⟨h1,h2⟩:=Ot hu hl
     have hb:=(h.heap l).Rp hl
     simp only [Cj,Ki] at hb
     have hlen:((xs.drop off).take len).length=len:=by simp;omega
     cases hp:π l with
     |none=>
      rw [hp] at h2 hb
      obtain ⟨rfl,rfl,rfl⟩:=h2
      exact ⟨none,⟨⟨rfl,rfl,by simp⟩,by show (xs.drop 0).take 0= [];simp⟩,λq hq=>by cases hq⟩
     |some p=>
      rw [hp] at h2 hb
      obtain ⟨k1,cur,ti,k2,k3,k4,k5,k6,k7⟩:=hb
      have ho:=h2
      obtain ⟨ad,_,tj,_⟩:=h2
      have ht:Xx w p.cl p.g p.o cur e' xs:=by
       simp only [Lu] at hf
       rcases hf with hf|hf
       ·exact k7 hf
       ·exact nh hf k6
      exact ⟨some ⟨p.g,p.o+off,p.cap-off,p.cl,p.cl⟩,⟨by rw [hlen];exact pv ho,h.sub l p _ hp k1.1,cur,ti,k2,by rw [k3];congr 1;dsimp only;omega,by dsimp only;omega,by rw [hlen];dsimp only;omega,ht.part off len⟩,
       fun q hq=>by cases hq;exact ⟨l,p,rfl,hp,λb hb=>hb,λhx=>by cases hx⟩⟩
    ·cases he
   ·rename_i e' Rj xs hl
    split at he
    ·rename_i hc
     obtain ⟨rfl,rfl⟩:=hc
     simp only [Aa,Ae] at he
     obtain ⟨rfl,rfl⟩:=he
     unfold St.at at hl
     obtain ⟨h1,h2⟩:=c5 hu hl
     have hb:=(h.heap l).Rp hl
     simp only [Cj,Oe] at hb
     have hlen:((xs.drop off).take len).length=len:=by simp;omega
     cases hp:π l with
     |none=>
      rw [hp] at h2 hb
      obtain ⟨rfl,rfl,rfl⟩:=h2
      exact ⟨none,⟨⟨rfl,rfl,by simp⟩,by show (xs.drop 0).take 0= [];simp⟩,λq hq=>by cases hq⟩
     |some p=>
      rw [hp] at h2 hb
      obtain ⟨k1,cur,ti,k2,k3,k4,k5,ht⟩:=hb
      have ho:=h2
      obtain ⟨ad,_,tj,_⟩:=h2
      exact ⟨some ⟨p.g,p.o+off,p.cap-off,p.Cv,p.Cv⟩,⟨by rw [hlen];exact pv ho,k1,cur,ti,k2,by rw [k3];congr 1;dsimp only;omega,by dsimp only;omega,by rw [hlen];dsimp only;omega,ht.part off len⟩,
       fun q hq=>by cases hq;exact ⟨l,p,rfl,hp,λb hb=>h.sub l p b hp hb,λ_ b hb=>hb⟩⟩
    ·cases he
   ·cases he
 |part e te=>cases a<;>simp [kH] at he
 |Bl e te kp=>exact absurd rfl (hg e te kp)
theorem Aa6 {st:St} (h:Ng X w π st.heap) {c:CK} {a:AC} {u:Value} (hu:Hq X w π st.heap a u) {x:c.den} {ls:List Nat} (he:kH st c a=some (x,ls)):
  ∃r,eN w (λb=>Vy π b\/X.Sc b) r u c x/\(∀q,r=some q-> ∃l p,ls= [l]/\π l=some p/\(∀b,q.Cv b->p.cl b)/\(c.isX=false-> ∀b,q.Cv b->p.Cv b))/\
   (∀l off len e te rows out kp,a= .own l off len->At st.heap l=some (.Bl e te rows out kp)->r=π l):=by
 have vz:(∀e te kp,c≠ .Bl e te kp)->(∀l off len e te rows out kp,a=AC.own l off len->At st.heap l=some (OB.Bl e te rows out kp)->False)->
   ∃r,eN w (λb=>Vy π b\/X.Sc b) r u c x/\(∀q,r=some q-> ∃l p,ls= [l]/\π l=some p/\(∀b,q.Cv b->p.cl b)/\(c.isX=false-> ∀b,q.Cv b->p.Cv b))/\
   (∀l off len e te rows out kp,a= .own l off len->At st.heap l=some (.Bl e te rows out kp)->r=π l):= λh1 h2=>by
  obtain ⟨r,g1,g2⟩:=TP h h1 hu he
  exact ⟨r,g1,g2,λl off len e te rows out kp h3 h4=>(h2 l off len e te rows out kp h3 h4).elim⟩
 cases c with
 |Fy τ=>
  refine vz (λ_ _ _ h=>by cases h) λl off len e te rows out kp h3 h4=>?_
  subst h3
  simp only [kH] at he
  split at he
  ·rename_i hf
   cases τ<;>simp [AC.settled,Ty.flat,Dm] at hf he
  ·cases he
 |row e te=>
  refine vz (λ_ _ _ h=>by cases h) λl off len e te rows out kp h3 h4=>?_
  subst h3
  simp only [kH,St.at,h4] at he
  cases he
 |Hw e te=>
  refine vz (λ_ _ _ h=>by cases h) λl off len e te rows out kp h3 h4=>?_
  subst h3
  simp only [kH,St.at,h4] at he
  cases he
 |part e te=>cases a<;>simp [kH] at he
 |Bl e te kp=>
  cases a<;>simp only [kH] at he<;>try (cases he;done)
  rename_i l off len
  split at he
  ·rename_i e' Rj rows kp' hl
   split at he
   ·rename_i hc
    obtain ⟨rfl,rfl,rfl,rfl⟩:=hc
    simp only [Aa,Ae] at he
    obtain ⟨rfl,rfl⟩:=he
    unfold St.at at hl
    obtain ⟨b,sz,n,h1,h2,_,h3⟩:=hu
    rw [hl] at h1;cases h1
    simp only [OB.row,Aa,Ae] at h2
    obtain ⟨rfl,rfl⟩:=h2
    have hb:=((h.heap l).Rp hl).1
    refine ⟨π l,⟨h3,ay.Iw hb λb hb=>hb.imp id .inl⟩,λq hq=>⟨l,q,rfl,hq,λb hb=>h.sub l q b hq hb,λ_ b hb=>hb⟩,λl' Ay3 At3 _ _ _ _ _ he _=>?_⟩
    simp only [AC.own.injEq] at he
    rw [he.1]
   ·cases he
  ·cases he
theorem Jk.congr {D:Nat->Prop} {ρ ρ':Pi} : ∀(cs:List CK) (k:Nat) (x:CKs.den cs) (us:List Value),(∀j,k<=j->ρ' (Km j)=ρ (Km j))->Jk w D ρ k cs x us->Jk w D ρ' k cs x us
 | [],_,_,[],_,h=>h
 | [],_,_,_::_,_,h=>h.elim
 |_::_,_,_,[],_,h=>h.elim
 |c::r,k,x,u::us,he,h=>⟨by rw [he k (Ap _)];exact h.1,Jk.congr r (k+1) x.2 us (λj hj=>he j (by omega)) h.2⟩
theorem xH {st:St} (h:Ng X w π st.heap): ∀(cs:List CK) (k:Nat) (as:List AC) (us:List Value) (x:CKs.den cs) (ls:List Nat),Nh X w π st.heap as us->Vh st cs as=some (x,ls)->ls.Nodup->
  ∃ρ:Pi,Jk w (λb=>Vy π b\/X.Sc b) ρ k cs x us/\(∀l q,ρ l=some q-> ∃j,k<=j/\j<k+cs.length/\l=Km j)/\(∀l q b,ρ l=some q->q.Cv b-> ∃l0∈ls,∃p,π l0=some p/\p.cl b/\((cs.all λc=>!c.isX)=true->p.Cv b))/\
   (∀l l' q q' b,ρ l=some q->ρ l'=some q'->q.Cv b->q'.Cv b->l=l')/\
   (∀(j l off len:Nat) e te rows out kp,as[j]?=some (.own l off len)->At st.heap l=some (.Bl e te rows out kp)->ρ (Km (k+j))=π l)
 | [],k,[],[],x,ls,_,he,_=>by
  simp only [Vh,Aa,Ae] at he
  exact ⟨λ_=>none,trivial,(λl q h=>by cases h),(λl q b h=>by cases h),(λl l' q q' b h=>by cases h),λj l off len e te rows out kp h=>by simp at h⟩
 | [],_,[],_::_,_,_,h,_,_=>h.elim
 | [],_,_::_,_,_,_,_,he,_=>by simp [Vh] at he
 |_::_,_,[],_,_,_,_,he,_=>by simp [Vh] at he
 |_::_,_,_::_,[],_,_,h,_,_=>h.elim
 |c::r,k,a::as,u::us,x,ls,hr,he,JE=>by
  simp only [Vh] at he
  split at he
  ·rename_i x1 t1 x2 t2 h1 h2
   simp only [Aa,Ae] at he
   obtain ⟨rfl,rfl⟩:=he
   obtain ⟨n1,n2,n3⟩:=Dt.1 JE
   obtain ⟨ρ,g1,g2,g3,g4,g5⟩:=xH h r (k+1) as us x2 t2 hr.2 h2 n2
   obtain ⟨rr,r1,r2,r3⟩:=Aa6 h hr.1 h1
   have DF: ∀l q q0 b,ρ l=some q->rr=some q0->q.Cv b->q0.Cv b->False:= λl q q0 b h3 h4 h5 h6=>by
    obtain ⟨l0,m0,p,p1,p2,_⟩:=g3 l q b h3 h5
    obtain ⟨l1,p',e1,p1',p2',_⟩:=r2 q0 h4
    have:=h.inj l0 l1 p p' b p1 p1' p2 (p2' b h6)
    exact n3 l1 (by rw [e1];simp) l0 m0 this.symm
   refine ⟨λl=>if l=Km k then rr else ρ l,⟨by simpa using r1,Jk.congr r (k+1) x2 us (λj hj=>Ak (by unfold Km;omega)) g1⟩,λl q hq=>?_,λl q b hq hb=>?_,λl l' q q' b h3 h4 h5 h6=>?_,λj l off len e te rows out kp hj hl=>?_⟩
   ·dsimp only at hq
    by_cases e:l=Km k
    ·exact ⟨k,Ap _,by simp,e⟩
    ·rw [Ak e] at hq
     obtain ⟨j,j1,j2,j3⟩:=g2 l q hq
     exact ⟨j,by omega,by simp;omega,j3⟩
   ·dsimp only at hq
    by_cases e:l=Km k
    ·rw [Ac e] at hq
     obtain ⟨l1,p',e1,p1',p2',p3'⟩:=r2 q hq
     exact ⟨l1,by rw [e1];simp,p',p1',p2' b hb,λhx=>p3' (by simp only [Iu,Af,Fz] at hx;exact hx.1) b hb⟩
    ·rw [Ak e] at hq
     obtain ⟨l0,m0,p,p1,p2,p3⟩:=g3 l q b hq hb
     exact ⟨l0,Ci _ m0,p,p1,p2,λhx=>p3 (by simp only [Iu,Af] at hx;exact hx.2)⟩
   ·dsimp only at h3 h4
    by_cases e:l=Km k<;>by_cases e':l'=Km k
    ·rw [e,e']
    ·rw [Ac e] at h3;rw [Ak e'] at h4
     exact (DF l' q' q b h4 h3 h6 h5).elim
    ·rw [Ak e] at h3;rw [Ac e'] at h4
     exact (DF l q q' b h3 h4 h5 h6).elim
    ·rw [Ak e] at h3;rw [Ak e'] at h4
     exact g4 l l' q q' b h3 h4 h5 h6
   ·rcases j with _|j
    ·simp only [Bv,Aa] at hj
     show (if Km k=Km k then rr else ρ (Km k))=π l
     rw [Ac rfl]
     exact r3 l off len e te rows out kp hj hl
    ·have:=g5 j l off len e te rows out kp (by simpa using hj) hl
     show (if Km (k+(j+1))=Km k then rr else ρ (Km (k+(j+1))))=π l
     rw [Ak (by unfold Km;omega),<-this,show k+(j+1)=k+1+j by omega]
  ·cases he
theorem HE {r r':Option Real} (h:bz (r.map full) r') {e:Ty} {xs:List e.den} {te:TypeId} {fr tr:Bool} (ha:Ki X w π r' fr tr e te xs):Td w (λb=>Vy π b\/X.Sc b) r e xs:=by
 cases r with
 |none=>cases r' with
  |none=>exact ha
  |some q=>exact h.elim
 |some p=>cases r' with
  |none=>exact h.elim
  |some q=>
   obtain ⟨e1,e2,e3,e4⟩:=h
   obtain ⟨k1,cur,ti,k2,k3,k4,k5,k6,_⟩:=ha
   have e1:p.g=q.g:=e1
   have e2:p.o=q.o:=e2
   have e3:p.cap=q.cap:=e3
   refine ⟨⟨by rw [e1];exact (e4 _).2 k1.1,λb hb=>by rw [e1];exact k1.2.1 b ((e4 b).1 hb)⟩,cur,ti,by rw [e1];exact k2,by rw [e2,e3];exact k3,by rw [e3];exact k4,by rw [e3];exact k5,λi y hy=>?_⟩
   obtain ⟨es,g1,g2,g3⟩:=k6 i y hy
   exact ⟨es,g1,by rw [e2];exact g2,Cells.Fb (Ap _) (λ_ _ _=>rfl) (λb _ hb=>hb.imp id .inl) e es y g3⟩
theorem UM {r r':Option Real} (h:bz (r.map full) r') {e:Ty} {xs:List e.den} {te:TypeId} (ha:Oe w r' e te xs):Oe w r e te xs:=by
 cases r with
 |none=>cases r' with
  |none=>exact ha
  |some q=>exact h.elim
 |some p=>cases r' with
  |none=>exact h.elim
  |some q=>
   obtain ⟨e1,e2,e3,e4⟩:=h
   obtain ⟨k1,cur,ti,k2,k3,k4,k5,Fs,t1,t2,t3,t4⟩:=ha
   have e1:p.g=q.g:=e1
   have e2:p.o=q.o:=e2
   have e3:p.cap=q.cap:=e3
   exact ⟨by rw [e1];exact (e4 _).2 k1,cur,ti,by rw [e1];exact k2,by rw [e2,e3];exact k3,by rw [e3];exact k4,by rw [e3];exact k5,Fs,t1,by rw [e1];exact t2,λb hb=>(e4 b).2 (t3 b hb),by rw [e2];exact t4⟩
theorem Ur {st:St} {π0:Pi} {D:Nat->Prop} {w0:World} (h:Ng X w π st.heap) (Zx: ∀l,X.gW l=(π0 l).map full): ∀(cs:List (Bool×CK)) (k:Nat) (x:Ins.den cs) (us:List Value) (o:IOs.den cs),eO w0 D π0 k cs x us->Ow st k cs=some o->
  Mh w (λb=>Vy π b\/X.Sc b) π0 k cs o/\ ∀l∈Qb k cs,At st.heap l≠none
 | [],_,_,_,_,_,_=>⟨trivial,λl hl=>by cases hl⟩
 |_::_,_,_,[],_,h,_=>h.elim
 |(false,c)::r,k,x,u::us,o,hi,he=>Ur h Zx r (k+1) x.2 us o hi.2 (by simpa only [Ow] using he)
 |(true, .Fy τ)::r,k,x,u::us,o,hi,he=>Ur h Zx r (k+1) x.2 us o hi.2 (by simpa only [Ow] using he)
 |(true, .Bl e te kp)::r,k,x,u::us,o,hi,he=>Ur h Zx r (k+1) x.2 us o hi.2 (by simpa only [Ow] using he)
 |(true, .row e te)::r,k,x,u::us,o,hi,he=>by
  simp only [Ow] at he
  split at he
  ·rename_i x1 x2 h1 h2
   simp only [Aa] at he;subst he
   obtain ⟨g1,g2⟩:=Ur h Zx r (k+1) x.2 us x2 hi.2 h2
   have h0:=hi.1
   simp only [pZ] at h1
   split at h1
   ·rename_i fr tr e' Rj xs hl
    split at h1
    ·rename_i hc
     obtain ⟨rfl,rfl⟩:=hc
     simp only [Aa] at h1;subst h1
     unfold St.at at hl
     have hs:=h.gW (Dx true k) (by have:=bj k;omega) (by rw [hl];simp)
     rw [Zx] at hs
     exact ⟨⟨HE (te:=Rj) hs ((h.heap _).Rp hl),g1⟩,λl Ke=>by
      simp only [Qb] at Ke
      rcases Bc.1 Ke with rfl|Ke
      ·rw [hl];simp
      ·exact g2 l Ke⟩
    ·cases h1
   ·cases h1
  ·cases he
 |(true, .part e te)::r,k,x,u::us,o,hi,he=>by
  simp only [Ow] at he
  split at he
  ·rename_i x1 x2 h1 h2
   simp only [Aa] at he;subst he
   obtain ⟨g1,g2⟩:=Ur h Zx r (k+1) x.2 us x2 hi.2 h2
   have h0:=hi.1
   simp only [pZ] at h1
   split at h1
   ·rename_i fr tr e' Rj xs hl
    split at h1
    ·rename_i hc
     obtain ⟨rfl,rfl⟩:=hc
     simp only [Aa] at h1;subst h1
     unfold St.at at hl
     have hs:=h.gW (Dx true k) (by have:=bj k;omega) (by rw [hl];simp)
     rw [Zx] at hs
     exact ⟨⟨HE (te:=Rj) hs ((h.heap _).Rp hl),g1⟩,λl Ke=>by
      simp only [Qb] at Ke
      rcases Bc.1 Ke with rfl|Ke
      ·rw [hl];simp
      ·exact g2 l Ke⟩
    ·cases h1
   ·cases h1
  ·cases he
 |(true, .Hw e te)::r,k,x,u::us,o,hi,he=>by
  simp only [Ow] at he
  split at he
  ·rename_i x1 x2 h1 h2
   simp only [Aa] at he;subst he
   obtain ⟨g1,g2⟩:=Ur h Zx r (k+1) x.2 us x2 hi.2 h2
   simp only [pZ] at h1
   split at h1
   ·rename_i e' Rj xs hl
    split at h1
    ·rename_i hc
     obtain ⟨rfl,rfl⟩:=hc
     simp only [Aa] at h1;subst h1
     unfold St.at at hl
     have hs:=h.gW (Dx true k) (by have:=bj k;omega) (by rw [hl];simp)
     rw [Zx] at hs
     exact ⟨⟨UM (te:=Rj) hs ((h.heap _).Rp hl),g1⟩,λl Ke=>by
      simp only [Qb] at Ke
      rcases Bc.1 Ke with rfl|Ke
      ·rw [hl];simp
      ·exact g2 l Ke⟩
    ·cases h1
   ·cases h1
  ·cases he
theorem vW {p:Bool×CK} {r:List (Bool×CK)} (h:a6 (p::r)=true):a6 r=true:=by
 rcases p with ⟨_|_,c⟩<;>cases c<;>first|(simp [a6] at h;done)|simpa [a6] using h
theorem xp: ∀(cs:List (Bool×CK)) (k:Nat) (x:Ins.den cs) (l:Nat),a6 cs=true->k+cs.length<100000->At (Zy k cs x) l≠none-> ¬l<Bn->l∈Qb k cs
 | [],_,_,_,_,_,h,_=>absurd rfl h
 |(io,c)::r,k,x,l,hng,hk,h,hp=>by
  simp only [Av] at hk
  simp only [Zy] at h
  have tail:At (Zy (k+1) r x.2) l≠none->l∈Qb (k+1) r:= λh=>xp r (k+1) x.2 l (vW hng) (by omega) h hp
  have sub: ∀m,m∈Qb (k+1) r->m∈Qb k ((io,c)::r):= λm hm=>by
   cases io<;>cases c<;>simp only [Qb]<;>first|exact hm|exact Aq _ hm
  cases hc:kD (Dx io k) c x.1 with
  |none=>rw [hc] at h;exact sub l (tail h)
  |some b=>
   rw [hc] at h
   simp only [iw,At] at h
   split at h
   ·rename_i e;subst e
    cases io with
    |false=>exact absurd (fH (by omega)) hp
    |true=>cases c with
     |Fy τ=>cases hc
     |row e te=>simp [Qb]
     |Hw e te=>simp [Qb]
     |part e te=>simp [Qb]
     |Bl e te kp=>simp [a6] at hng
   ·exact sub l (tail h)
theorem eN.Iw {D D':Nat->Prop} (hD: ∀b,D' b->D b) {r:Option Real} {u:Value} {c:CK} {x:c.den} (h:eN w D r u c x):eN w D' r u c x:=by
 cases c with
 |Fy τ=>exact ⟨h.1,h.2.Iw λb _ hb=>hD b hb⟩
 |row e te=>exact ⟨h.1,Td.Iw h.2 hD⟩
 |Hw e te=>exact h
 |part e te=>exact ⟨h.1,h.2.1,Td.Iw h.2.2 hD⟩
 |Bl e te kp=>exact ⟨h.1,ay.Iw h.2 hD⟩
theorem Jk.Iw {D D':Nat->Prop} (hD: ∀b,D' b->D b) {ρ:Pi} : ∀(cs:List CK) (k:Nat) (x:CKs.den cs) (us:List Value),Jk w D ρ k cs x us->Jk w D' ρ k cs x us
 | [],_,_,[],h=>h
 | [],_,_,_::_,h=>h.elim
 |_::_,_,_,[],h=>h.elim
 |_c::r,k,x,_u::us,h=>⟨h.1.Iw hD,Jk.Iw hD r (k+1) x.2 us h.2⟩
theorem Mh.Iw {D D':Nat->Prop} (hD: ∀b,D' b->D b) {π:Pi} : ∀(cs:List (Bool×CK)) (k:Nat) (x:IOs.den cs),Mh w D π k cs x->Mh w D' π k cs x
 | [],_,_,h=>h
 |(false,_)::r,k,x,h=>Mh.Iw hD r (k+1) x h
 |(true, .Fy _)::r,k,x,h=>Mh.Iw hD r (k+1) x h
 |(true, .Bl _ _ _)::r,k,x,h=>Mh.Iw hD r (k+1) x h
 |(true, .row _e _te)::r,k,x,h=>⟨Td.Iw h.1 hD,Mh.Iw hD r (k+1) x.2 h.2⟩
 |(true, .Hw _e _te)::r,k,x,h=>⟨h.1,Mh.Iw hD r (k+1) x.2 h.2⟩
 |(true, .part _e _te)::r,k,x,h=>⟨Td.Iw h.1 hD,Mh.Iw hD r (k+1) x.2 h.2⟩
theorem eO.congr {D:Nat->Prop} {π0 cj:Pi} : ∀(cs:List (Bool×CK)) (k:Nat) (x:Ins.den cs) (us:List Value),(∀b j,k<=j->j<k+cs.length->cj (Dx b j)=π0 (Dx b j))->eO w D π0 k cs x us->eO w D cj k cs x us
 | [],_,_,[],_,h=>h
 | [],_,_,_::_,_,h=>h
 |_::_,_,_,[],_,h=>h
 |p::r,k,x,u::us,hp,h=>⟨by rw [hp p.1 k (Ap _) (by simp)];exact h.1,eO.congr r (k+1) x.2 us (λb j h1 h2=>hp b j (by omega) (by simp;omega)) h.2⟩
theorem Mh.congr {D:Nat->Prop} {π0 cj:Pi} : ∀(cs:List (Bool×CK)) (k:Nat) (x:IOs.den cs),(∀b j,k<=j->j<k+cs.length->cj (Dx b j)=π0 (Dx b j))->Mh w D π0 k cs x->Mh w D cj k cs x
 | [],_,_,_,h=>h
 |(false,c)::r,k,x,hp,h=>by cases c<;>exact Mh.congr r (k+1) x (λb j h1 h2=>hp b j (by omega) (by simp;omega)) h
 |(true, .Fy _)::r,k,x,hp,h=>Mh.congr r (k+1) x (λb j h1 h2=>hp b j (by omega) (by simp;omega)) h
 |(true, .Bl _ _ _)::r,k,x,hp,h=>Mh.congr r (k+1) x (λb j h1 h2=>hp b j (by omega) (by simp;omega)) h
 |(true, .row e te)::r,k,x,hp,h=>⟨by rw [hp true k (Ap _) (by simp)];exact h.1,Mh.congr r (k+1) x.2 (λb j h1 h2=>hp b j (by omega) (by simp;omega)) h.2⟩
 |(true, .Hw e te)::r,k,x,hp,h=>⟨by rw [hp true k (Ap _) (by simp)];exact h.1,Mh.congr r (k+1) x.2 (λb j h1 h2=>hp b j (by omega) (by simp;omega)) h.2⟩
 |(true, .part e te)::r,k,x,hp,h=>⟨by rw [hp true k (Ap _) (by simp)];exact h.1,Mh.congr r (k+1) x.2 (λb j h1 h2=>hp b j (by omega) (by simp;omega)) h.2⟩
theorem Ep.congr {π0 cj:Pi} : ∀(cs:List (Bool×CK)) (k:Nat) (o:IOs.den cs) (n:Nat) (us as:List Value),(∀b j,k<=j->j<k+cs.length->cj (Dx b j)=π0 (Dx b j))->Ep π0 k cs o n us as->Ep cj k cs o n us as
 | [],k,o,0,us,as,_,h=>by simpa [Ep] using h
 | [],k,o,n+1,us,as,_,h=>by simp [Ep] at h
 |p::r,k,o,0,us,as,_,h=>by
  rcases p with ⟨_|_,c⟩<;>cases c<;>simpa [Ep] using h
 |(true, .Fy _)::r,k,o,n+1,us,as,_,h=>by simp [Ep] at h
 |(true, .part _ _)::r,k,o,n+1,us,as,_,h=>by simp [Ep] at h
 |(true, .Bl _ _ _)::r,k,o,n+1,us,as,_,h=>by simp [Ep] at h
 |(true, .row e te)::r,k,o,n+1,[],as,_,h=>by simp [Ep] at h
 |(true, .Hw e te)::r,k,o,n+1,[],as,_,h=>by simp [Ep] at h
 |(true, .row e te)::r,k,o,n+1,u::us,as,hp,h=>by
  simp only [Ep] at h⊢
  exact ⟨by rw [hp true k (Ap _) (by simp)];exact h.1,Ep.congr r (k+1) o.2 n us as (λb j h1 h2=>hp b j (by omega) (by simp;omega)) h.2⟩
 |(true, .Hw e te)::r,k,o,n+1,u::us,as,hp,h=>by
  simp only [Ep] at h⊢
  exact ⟨by rw [hp true k (Ap _) (by simp)];exact h.1,Ep.congr r (k+1) o.2 n us as (λb j h1 h2=>hp b j (by omega) (by simp;omega)) h.2⟩
 |(false,c)::r,k,o,n+1,[],as,_,h=>by cases c<;>simp [Ep] at h
 |(false,c)::r,k,o,n+1,u::us,[],_,h=>by cases c<;>simp [Ep] at h
 |(false,c)::r,k,o,n+1,u::us,a::as,hp,h=>by
  have h:u=a/\Ep π0 (k+1) r o n us as:=by cases c<;>exact h
  have:=Ep.congr r (k+1) o n us as (λb j h1 h2=>hp b j (by omega) (by simp;omega)) h.2
  cases c<;>exact ⟨h.1,this⟩
theorem ql: ∀(A B:List (Nat×OB)) (l:Nat),At (A++B) l=match At A l with|some b=>some b|none=>At B l
 | [],B,l=>rfl
 |(k,b)::A,B,l=>by
  simp only [Ph,At]
  split
  ·rfl
  ·exact ql A B l
theorem u6 {st:St} : ∀(cs:List CK) (as:List AC) (x:CKs.den cs) (ls:List Nat),Vh st cs as=some (x,ls)-> ∀l∈ls,∃b,At st.heap l=some b/\b.row≠none
 | [],[],x,ls,he=>by
  simp only [Vh,Aa,Ae] at he
  obtain ⟨_,rfl⟩:=he
  intro l hl;cases hl
 | [],_::_,_,_,he=>by simp [Vh] at he
 |_::_,[],_,_,he=>by simp [Vh] at he
 |c::r,a::as,x,ls,he=>by
  simp only [Vh] at he
  split at he
  ·rename_i x1 t1 x2 t2 h1 h2
   simp only [Aa,Ae] at he
   obtain ⟨_,rfl⟩:=he
   intro l hl
   rcases Ax.1 hl with hl|hl
   ·unfold kH at h1
    split at h1
    ·split at h1
     ·cases hv:Dm st _ a with
      |none=>rw [hv] at h1;cases h1
      |some p=>rw [hv] at h1;simp only [Am,Aa,Ae] at h1;obtain ⟨_,rfl⟩:=h1;cases hl
     ·cases h1
    all_goals (repeat' split at h1)
    all_goals first|(cases h1;done)|skip
    all_goals (simp only [Aa,Ae] at h1;obtain ⟨_,rfl⟩:=h1)
    all_goals first|(cases hl;done)|skip
    all_goals (have hl:=Ad.1 hl;subst hl)
    all_goals (rename_i heq _;exact ⟨_,heq,by simp [OB.row]⟩)
   ·exact u6 r as x2 t2 h2 l hl
  ·cases he
theorem qF {r r':Option Real} {sz off len:Nat} {v:Value} (h:bz r r') (hv:Ia r' sz off len v):Ia r sz off len v:=by
 cases r<;>cases r'<;>first|exact h.elim|skip
 ·exact hv
 ·obtain ⟨h1,h2,h3,_⟩:=h
  obtain ⟨ad,g1,g2,g3⟩:=hv
  exact ⟨ad,by rw [h3];exact g1,by rw [h3];exact g2,by rw [h1,h2,h3];exact g3⟩
theorem Zl {st:St} {π0:Pi} (hs: ∀k,At st.heap (Dx true k)≠none->bz ((π0 (Dx true k)).map full) (π (Dx true k))):
  ∀(cs:List (Bool×CK)) (k:Nat) (vs:List AC) (us:List Value) (bc:List AC) (o:IOs.den cs),Nh X w π st.heap vs us->Jm k cs vs=some bc->iV st vs cs->Ow st k cs=some o->
   ∃bv,Nh X w π st.heap bc bv/\bv.length=um cs vs.length/\ ∀tl,Ep π0 k cs o vs.length us (bv++tl)
 |cs,k,[],us,bc,o,hr,he,_,_=>by
  have e1:us= []:=by cases us with|nil=>rfl|cons u us=>exact hr.elim
  have e2:bc= []:=by rcases cs with _|⟨⟨_|_,c⟩,r⟩<;>simpa [Jm] using he.symm
  subst e1;subst e2
  refine ⟨[],trivial,?_,λtl=>?_⟩
  ·rcases cs with _|⟨⟨_|_,c⟩,r⟩<;>rfl
  ·rcases cs with _|⟨⟨_|_,c⟩,r⟩<;>(try cases c)<;>simp [Ep]
 | [],k,a::vs,us,bc,o,hr,he,_,_=>by simp [Jm] at he
 |p::r,k,a::vs,[],bc,o,hr,_,_,_=>hr.elim
 |(false,c)::r,k,a::vs,u::us,bc,o,hr,he,hk,ho=>by
  have he:(Jm (k+1) r vs).map (λl=>a::l)=some bc:=by cases a<;>exact he
  cases hb:Jm (k+1) r vs with
  |none=>rw [hb] at he;cases he
  |some bc'=>
   rw [hb] at he
   simp only [Am,Aa] at he;subst he
   obtain ⟨bv,g1,g2,g3⟩:=Zl hs r (k+1) vs us bc' o hr.2 hb (by cases a<;>exact hk) (by cases c<;>simpa only [Ow] using ho)
   refine ⟨u::bv,⟨hr.1,g1⟩,by simp [um,g2],λtl=>?_⟩
   have:=g3 tl
   cases c<;>exact ⟨rfl,this⟩
 |(true,c)::r,k,a::vs,u::us,bc,o,hr,he,hk,ho=>by
  cases c with
  |Fy τ=>cases a<;>simp [Jm] at he
  |part e te=>cases a<;>simp [Jm] at he
  |Bl e te kp=>cases a<;>simp [Jm] at he
  |row e te=>
   cases a<;>first|(simp [Jm] at he;done)|skip
   rename_i l off len
   simp only [Jm] at he
   split at he
   rotate_left
   ·cases he
   rename_i hl
   have hl:l=Dx true k:=Jt hl
   subst hl
   obtain ⟨⟨rfl,hlen⟩,hk⟩:=hk
   obtain ⟨b,sz,n,h1,h2,h3,h4⟩:=hr.1
   have EK:=hs k (by rw [h1];simp)
   simp only [Ow] at ho
   split at ho
   ·rename_i x1 x2 q1 q2
    simp only [Aa] at ho;subst ho
    obtain ⟨bv,g1,g2,g3⟩:=Zl hs r (k+1) vs us bc x2 hr.2 he hk q2
    refine ⟨bv,g1,by simpa [um] using g2,λtl=>?_⟩
    refine ⟨?_,g3 tl⟩
    simp only [pZ] at q1
    split at q1
    ·rename_i fr tr e' Rj xs Ke
     split at q1
     ·rename_i hc
      obtain ⟨rfl,rfl⟩:=hc
      simp only [Aa] at q1;subst q1
      unfold St.at at Ke hlen
      rw [Ke] at hlen
      rw [h1] at Ke;cases Ke
      simp only [OB.row,Aa,Ae] at h2
      obtain ⟨rfl,rfl⟩:=h2
      have hlen:len=List.length xs:=hlen
      have:=qF EK h4
      rw [hlen] at this
      have e0:(π0 (Dx true k)).map full=(π0 (Dx true k)).map full:=rfl
      cases hp:π0 (Dx true k)<;>(rw [hp] at this;exact this)
     ·cases q1
    ·cases q1
   ·cases ho
  |Hw e te=>
   cases a<;>first|(simp [Jm] at he;done)|skip
   rename_i l off len
   simp only [Jm] at he
   split at he
   rotate_left
   ·cases he
   rename_i hl
   have hl:l=Dx true k:=Jt hl
   subst hl
   obtain ⟨⟨rfl,hlen⟩,hk⟩:=hk
   obtain ⟨b,sz,n,h1,h2,h3,h4⟩:=hr.1
   have EK:=hs k (by rw [h1];simp)
   simp only [Ow] at ho
   split at ho
   ·rename_i x1 x2 q1 q2
    simp only [Aa] at ho;subst ho
    obtain ⟨bv,g1,g2,g3⟩:=Zl hs r (k+1) vs us bc x2 hr.2 he hk q2
    refine ⟨bv,g1,by simpa [um] using g2,λtl=>?_⟩
    refine ⟨?_,g3 tl⟩
    simp only [pZ] at q1
    split at q1
    ·rename_i e' Rj xs Ke
     split at q1
     ·rename_i hc
      obtain ⟨rfl,rfl⟩:=hc
      simp only [Aa] at q1;subst q1
      unfold St.at at Ke hlen
      rw [Ke] at hlen
      rw [h1] at Ke;cases Ke
      simp only [OB.row,Aa,Ae] at h2
      obtain ⟨rfl,rfl⟩:=h2
      have hlen:len=List.length xs:=hlen
      have:=qF EK h4
      rw [hlen] at this
      cases hp:π0 (Dx true k)<;>(rw [hp] at this;exact this)
     ·cases q1
    ·cases q1
   ·cases ho
def Aoh (s:MSpec) (g:Nat) (π:Pi):Pi:= λl=>if s.ptr.isSome=true/\l=Pe then some ⟨g,0,0,λb=>b=g,λb=>b=g⟩ else π l
def Akp (P:Program) (s:MSpec) (fn:Func) (x:Ins.den s.ins) (w:World) (S:Nat->Prop) (π:Pi) (g:Nat) (r:CKs.den s.outs) (o:IOs.den s.ins) (a':Act) (w':World):Prop:=
 ∃(v:Value) (Xl:List Value) (ρ:Pi),a'.defers= []/\(results fn a'.tmps).run P w'= .ok v w'/\sr s w' ρ (Xl.drop s.aG) v/\lH s π w' g Xl o/\Kw w.heap.size (λb=>Vy π b\/s.gv g b) w w'/\Mh w' (kB S π ρ) π 0 s.ins o/\Jk w' (kB S π ρ) ρ 0 s.outs r Xl/\
  hY ρ (λb=>b<w'.heap.size/\(w.heap.size<=b\/ ∃l q,l<Bn/\π l=some q/\q.Cv b))/\(∀l,(∀k,k<s.Uu->l≠Km k)->ρ l=none)/\(∀kj∈s.keeps,CE w w' (π (Dx false kj.1)) (ρ (Km kj.2)) (s.Fb x))
theorem Jk.XL {D:Nat->Prop} {ρ ρ':Pi} : ∀(cs:List CK) (k:Nat) (x:CKs.den cs) (us:List Value),(∀j,k<=j->j<k+cs.length->ρ' (Km j)=ρ (Km j))->Jk w D ρ k cs x us->Jk w D ρ' k cs x us
 | [],_,_,[],_,h=>h
 | [],_,_,_::_,_,h=>h.elim
 |_::_,_,_,[],_,h=>h.elim
 |c::r,k,x,u::us,he,h=>⟨by rw [he k (Ap _) (by simp)];exact h.1,Jk.XL r (k+1) x.2 us (λj hj hl=>he j (by omega) (by simp;omega)) h.2⟩
theorem xt {st:St} {n:Nat} {as:List AC} : ∀ {ks:List (Nat×Nat)},xr st n as ks-> ∀kj∈ks,∃l off len e te rows out p,as[kj.2]?=some (.own l off len)/\At st.heap l=some (.Bl e te rows out (some p))/\p.1=Dx false kj.1/\n<=p.2/\kj.1<1000
 | [],_,kj,hm=>by cases hm
 |(k,j)::r,h,kj,hm=>by
  simp only [xr] at h
  rcases Bc.1 hm with rfl|hm
  ·obtain ⟨h,_⟩:=h
   split at h
   ·rename_i l off len he
    split at h
    ·rename_i e te rows out p hl
     unfold St.at at hl
     exact ⟨l,off,len,e,te,rows,out,p,he,hl,h.1,h.2.1,by simpa using h.2.2⟩
    ·exact h.elim
   ·exact h.elim
  ·exact xt h.2 kj hm
theorem xG {st:St} : ∀(cs:List CK) (as:List AC) (x:CKs.den cs) (ls:List Nat),Vh st cs as=some (x,ls)->as.length=cs.length
 | [],[],_,_,_=>rfl
 | [],_::_,_,_,he=>by simp [Vh] at he
 |_::_,[],_,_,he=>by simp [Vh] at he
 |c::r,a::as,x,ls,he=>by
  simp only [Vh] at he
  split at he
  ·rename_i h1 h2
   simp only [Av,xG r as _ _ h2]
  ·cases he
theorem HC {α β:Type} (f:α->Sem β): ∀(l:List α) (vs:List β),vs.length=l.length->(∀(i:Nat) a v,l[i]?=some a->vs[i]?=some v->(f a).run P w= .ok v w)->(l.mapM f).run P w= .ok vs w
 | [],[],_,_=>by simp
 | [],_::_,h,_=>by simp at h
 |_::_,[],h,_=>by simp at h
 |a::l,v::vs,h,hr=>by
  rw [List.mapM_cons]
  simp only [Sem.run_bind,hr 0 a v rfl rfl,Result.andThen_ok,HC f l vs (by simpa using h) (λi a' v' ha hv=>hr (i+1) a' v' (by simpa using ha) (by simpa using hv)),Sem.run_pure]
theorem vG (hT:Dz P T) (Pb:Kx P Γ) (hm:P.follows .mixedOrders=true) {f:FuncId} {fn:Func} (hf:P.funcs[f]?=some fn) (s:MSpec) (w:World) (S:Nat->Prop) (π:Pi) (us:List Value) (x:Ins.den s.ins)
  (r:CKs.den s.outs) (o:IOs.den s.ins) (g:Nat) (mM:List Value) (Rg:oF s w g us mM) (hSg:s.ptr.isSome=true->S g) (Xm:eO w (λb=>Vy π b\/S b) π 0 s.ins x us) (kF:hY π (λb=>b<w.heap.size)) (hS: ∀b,S b->b<w.heap.size/\ ¬Vy π b) (YA: ∀l,At (Zy 0 s.ins x) l=none->π l=none) (he:Af4 T Γ s fn x λz=>z=(r,o)):
  Calls P f mM.toArray w λe w'=> ∃v Xl ρ,e= .returned v/\sr s w' ρ (Xl.drop s.aG) v/\lH s π w' g Xl o/\Kw w.heap.size (λb=>Vy π b\/s.gv g b) w w'/\Mh w' (kB S π ρ) π 0 s.ins o/\Jk w' (kB S π ρ) ρ 0 s.outs r Xl/\
   hY ρ (λb=>b<w'.heap.size/\(w.heap.size<=b\/ ∃l q,l<Bn/\π l=some q/\q.Cv b))/\(∀l,(∀k,k<s.Uu->l≠Km k)->ρ l=none)/\(∀kj∈s.keeps,CE w w' (π (Dx false kj.1)) (ρ (Km kj.2)) (s.Fb x)):=by
 obtain ⟨hlen,c,hb,he⟩:=he
 simp only [Af,Nn] at hlen
 obtain ⟨hlen,YD⟩:=hlen
 unfold zM at YD
 simp only [Af] at YD
 have Am2:=YD.1
 let r6:Pi:=Aoh s g π
 let Sg:Nat->Prop:= λb=>S b/\ ¬s.gv g b
 have hvl: ∀b j,j<1000->Dx b j≠Pe:= λb j hj=>by cases b<;>(unfold Dx Pe;simp;omega)
 have yY: ∀b j,0<=j->j<0+s.ins.length->r6 (Dx b j)=π (Dx b j):= λb j _ hj=>Ak λh=>hvl b j (by omega) h.2
 have Afx: ∀b j,0<=j->j<0+s.ins.length->π (Dx b j)=r6 (Dx b j):= λb j h1 h2=>(yY b j h1 h2).symm
 have Aib:At (Zy 0 s.ins x) Pe=none:=Bj λhn=>by
  obtain ⟨b,j,_,h2,h3⟩:=tD s.ins 0 x Pe hn
  exact hvl b j (by omega) h3.symm
 have VN: ∀l q,r6 l=some q->(π l=some q/\(s.ptr.isSome=true->l≠Pe))\/(s.ptr.isSome=true/\l=Pe/\q=⟨g,0,0,λb=>b=g,λb=>b=g⟩):= λl q hq=>by
  have hq:(if s.ptr.isSome=true/\l=Pe then some ⟨g,0,0,λb=>b=g,λb=>b=g⟩ else π l)=some q:=hq
  split at hq
  ·rename_i hc;exact .inr ⟨hc.1,hc.2,(Bb hq).symm⟩
  ·rename_i hc;exact .inl ⟨hq,λh1 h2=>hc ⟨h1,h2⟩⟩
 have ef: ∀b,Vy r6 b↔Vy π b\/s.gv g b:= λb=>by
  constructor
  ·rintro ⟨l,q,h1,h2⟩
   rcases VN l q h1 with ⟨h3,_⟩|⟨h3,h4,rfl⟩
   ·exact .inl ⟨l,q,h3,h2⟩
   ·exact .inr ⟨h3,h2⟩
  ·rintro (⟨l,q,h1,h2⟩|⟨h1,rfl⟩)
   ·refine ⟨l,q,?_,h2⟩
    show (if s.ptr.isSome=true/\l=Pe then _ else π l)=some q
    rw [Ak]
    ·exact h1
    ·rintro ⟨_,rfl⟩
     rw [YA Pe Aib] at h1;cases h1
   ·exact ⟨Pe,⟨b,0,0,λc=>c=b,λc=>c=b⟩,Ac ⟨h1,rfl⟩,rfl⟩
 have hgS: ∀b,s.gv g b->S b:= λb ⟨h1,h2⟩=>h2▸hSg h1
 have Aho:eO w (λb=>Vy r6 b\/Sg b) r6 0 s.ins x us:=eO.congr s.ins 0 x us yY (eO.Iw (λb hb=>by
  rcases hb with hb|hb
  ·rcases (ef b).1 hb with hb|hb
   ·exact .inl hb
   ·exact .inr (hgS b hb)
  ·exact .inr hb.1) s.ins 0 x us Xm)
 have Am8:hY r6 (λb=>b<w.heap.size):=⟨λl q b h1 h2=>by
  rcases VN l q h1 with ⟨h3,_⟩|⟨h3,h4,rfl⟩
  ·exact kF.Zk l q b h3 h2
  ·exact (hS b (hgS b ⟨h3,h2⟩)).1,λl l' q q' b h1 h2 h3 h4=>by
  rcases VN l q h1 with ⟨h5,_⟩|⟨h5,h6,rfl⟩<;>rcases VN l' q' h2 with ⟨h7,_⟩|⟨h7,h8,rfl⟩
  ·exact kF.inj l l' q q' b h5 h7 h3 h4
  ·exact absurd ⟨l,q,h5,h3⟩ (hS b (hgS b ⟨h7,h4⟩)).2
  ·exact absurd ⟨l',q',h7,h4⟩ (hS b (hgS b ⟨h5,h3⟩)).2
  ·rw [h6,h8]⟩
 have Aqm: ∀b,Sg b->b<w.heap.size/\ ¬Vy r6 b:= λb hb=>⟨(hS b hb.1).1,λho=>((ef b).1 ho).elim (hS b hb.1).2 hb.2⟩
 have QB: ∀l,At (qp s x) l=match At (Zy 0 s.ins x) l with|some b=>some b|none=>if l=Pe then s.ptr.map λp=> .var p.1 ((bQ 0 s.ins x).take p.2) else none:= λl=>by
  unfold qp
  cases hp:s.ptr with
  |none=>cases At (Zy 0 s.ins x) l<;>simp
  |some p=>
   simp only
   rw [ql]
   cases At (Zy 0 s.ins x) l with
   |some b=>rfl
   |none=>
    simp only [At,Am]
    by_cases e:l=Pe
    ·rw [Ac e,Ac e.symm]
    ·rw [Ak e,Ak (λh=>e h.symm)]
 let π0:Pi:= λl=>(r6 l).map full
 have un: ∀l q,π0 l=some q-> ∃q0,r6 l=some q0/\q=full q0:= λl q hq=>by
  have hq:(r6 l).map full=some q:=hq
  cases hp:r6 l with
  |none=>rw [hp] at hq;cases hq
  |some q0=>rw [hp] at hq;exact ⟨q0,rfl,(Bb hq).symm⟩
 have YF: ∀l b,At (Zy 0 s.ins x) l=some b->At (qp s x) l=some b:= λl b hb=>by rw [QB l,hb]
 have hrc:Nh ⟨w,Sg,Vy r6,π0⟩ w π0 (qp s x) (bQ 0 s.ins x) us:=EO (λ_=>rfl) s.ins 0 x us (by omega) Aho YF
 have YZ:s.ptr.isSome=true->π0 Pe=some ⟨g,0,0,λb=>b=g,λb=>b=g⟩:= λhp=>by
  show (if s.ptr.isSome=true/\Pe=Pe then _ else π Pe).map full=_
  rw [Ac ⟨hp,rfl⟩];rfl
 obtain ⟨g1,g2⟩:(aC s (bQ 0 s.ins x)).length=mM.length/\ ∀(i:Nat) c v,(aC s (bQ 0 s.ins x))[i]?=some c->mM[i]?=some v->Bq ⟨w,Sg,Vy r6,π0⟩ w π0 (qp s x) c v:=by
  unfold oF at Rg
  cases hp:s.ptr with
  |none=>
   rw [hp] at Rg
   obtain ⟨rfl,JH⟩:=Rg
   obtain ⟨g1,g2,_,_⟩:=eb s.Ip _ us JH hrc
   rw [show aC s (bQ 0 s.ins x)=Th s.Ip (bQ 0 s.ins x) by unfold aC;rw [hp]]
   exact ⟨g1,g2⟩
  |some p=>
   rw [hp] at Rg
   obtain ⟨rfl,JH,_⟩:=Rg
   obtain ⟨g1,g2,_,_⟩:=eb s.Ip _ (us.drop p.2) JH (Nh.take p.2 hrc).2
   rw [show aC s (bQ 0 s.ins x)= .at (.Hj Pe 0)::Th s.Ip ((bQ 0 s.ins x).drop p.2) by unfold aC;rw [hp]]
   refine ⟨by simp [g1],λi c v h1 h2=>?_⟩
   rcases i with _|i
   ·simp only [Bv,Aa] at h1 h2
    subst h1;subst h2
    exact ⟨_,p.1,(bQ 0 s.ins x).take p.2,by rw [QB,Aib];simp [hp],YZ (by rw [hp];rfl),rfl⟩
   ·exact g2 i c v (by simpa using h1) (by simpa using h2)
 have h0:Rel ⟨w,Sg,Vy r6,π0⟩ {tmps:=aC s (bQ 0 s.ins x)++List.replicate (fn.ntmps-(aC s (bQ 0 s.ins x)).length) .undef,heap:=qp s x}
   {tmps:=mM.toArray++Array.replicate (fn.ntmps-mM.toArray.size) undef,defers:= []} w:=by
  refine ⟨π0,⟨Kw.refl _ _ _,λb hb=>Aqm b hb,λl q b h1 h2=>?_,λl q b h1 h2=>?_,λl l' q q' b h1 h2 h3 h4=>?_,λl _ _=>bz.rfl' _,λl=>?_⟩,⟨by simp [g1],rfl,λt=>?_⟩⟩
  ·obtain ⟨q0,_,rfl⟩:=un l q h1;exact h2
  ·obtain ⟨q0,h3,rfl⟩:=un l q h1
   exact ⟨.inr ⟨l,q0,h3,h2⟩,Am8.Zk l q0 b h3 h2⟩
  ·obtain ⟨q0,h5,rfl⟩:=un l q h1
   obtain ⟨q0',h6,rfl⟩:=un l' q' h2
   exact Am8.inj l l' q0 q0' b h5 h6 h3 h4
  ·cases hh:At (Zy 0 s.ins x) l with
   |none=>
    by_cases hv:s.ptr.isSome=true/\l=Pe
    ·obtain ⟨hps,rfl⟩:=hv
     obtain ⟨p,hp⟩:=Xk.1 hps
     refine Gh.Lr (b:= .var p.1 ((bQ 0 s.ins x).take p.2)) ?_ (by rw [QB,hh];simp [hp])
     unfold oF at Rg
     rw [hp] at Rg
     obtain ⟨_,_,h1,h2,h3⟩:=Rg
     rw [YZ hps]
     exact ⟨_,rfl,rfl,_,h2,Nh.to (Nh.take p.2 hrc).1 h3⟩
    ·refine Gh.Um ?_ ?_
     ·show (if s.ptr.isSome=true/\l=Pe then _ else π l).map full=none
      rw [Ak hv,YA l hh];rfl
     ·rw [QB,hh]
      simp only
      split
      ·rename_i e
       cases hp:s.ptr with
       |none=>rfl
       |some p=>exact absurd ⟨by rw [hp];rfl,e⟩ hv
      ·rfl
   |some b=>exact Gh.Lr (m7 (π0:=r6) (λb hb=>by
    rcases hb with ⟨l,q,h1,h2⟩|hb|⟨hb,_⟩
    ·obtain ⟨q0,h3,rfl⟩:=un l q h1;exact .inl ⟨l,q0,h3,h2⟩
    ·exact .inr hb
    ·cases hb) rfl (λ_=>rfl) s.ins 0 x us Aho l b hh) (YF l b hh)
  ·show Bq _ w _ _ ((aC s (bQ 0 s.ins x)++List.replicate _ AV.undef).getD t .undef) ((mM.toArray++Array.replicate _ undef).getD t undef)
   by_cases ht:t<mM.length
   ·rw [Ah,As (by omega),<-Ah]
    rw [cm,Tr (by simpa using ht)]
    have:=g2 t _ _ (Ab (by omega)) (Ab ht)
    simpa [Ah,Ab ht,Ab (show t<(aC s (bQ 0 s.ins x)).length by omega)] using this
   ·have:(aC s (bQ 0 s.ins x)++List.replicate (fn.ntmps-(aC s (bQ 0 s.ins x)).length) AV.undef).getD t .undef= .undef:=by
     rw [Ah,Ar (by omega)]
     rw [Zh]
     split<;>rfl
    rw [this];trivial
 have fin: ∀(st:St) (a':Act) (w':World),WQ T s fn x st (λz=>z=(r,o))->Rel ⟨w,Sg,Vy r6,π0⟩ st a' w'->Akp P s fn x w S π g r o a' w':=by
  intro st a' w' rn hrel
  obtain ⟨cj,h'⟩:=hrel
  have Ag3:Bn<=Pe:=by unfold Bn Pe;omega
  obtain ⟨bc,qk,Asq,hbc⟩: ∃bc,kf T s fn x st bc (λz=>z=(r,o))/\(s.ptr.isSome=true-> ∃b,At st.heap Pe=some b/\b.row=none)/\
    (Ow st 0 s.ins=some o-> ∃bv,Nh ⟨w,Sg,Vy r6,π0⟩ w' cj st.heap bc bv/\bv.length=s.aG/\ ∀tl,lH s π w' g (bv++tl) o):=by
   unfold WQ at rn
   cases hp:s.ptr with
   |none=>
    rw [hp] at rn
    exact ⟨[],rn,λh=>by simp at h,λ_=>⟨[],trivial,by simp [MSpec.aG,hp],λtl=>by simp [lH,hp]⟩⟩
   |some p=>
    rw [hp] at rn
    obtain ⟨vs,cs,h1,h2,h3,h4,h5⟩:=rn
    unfold St.at at h1
    refine ⟨cs,h5,λ_=>⟨_,h1,rfl⟩,λyW=>?_⟩
    obtain ⟨q,k1,k2,cur,k3,k4⟩:=(h'.1.heap Pe).Rp h1
    have hsv:bz (π0 Pe) (cj Pe):=h'.1.gW Pe Ag3 (by rw [h1];simp)
    rw [YZ (by rw [hp];rfl),k1] at hsv
    have hqg:g=q.g:=hsv.1
    obtain ⟨bv,g1,g2,g3⟩:=Zl (π0:=r6) (λk hk=>h'.1.gW _ (Nat.le_of_not_lt (bj k)) hk) s.ins 0 vs cur.toList cs o (Nh.of k4) h3 h4 yW
    refine ⟨bv,g1,by rw [g2,h2];simp [MSpec.aG,hp],λtl=>?_⟩
    unfold lH
    rw [hp]
    refine ⟨cur.toList,by rw [hqg];simpa using k3,λu hu=>?_,Ep.congr s.ins 0 o p.2 _ _ Afx (h2▸g3 tl)⟩
    obtain ⟨i,hi,rfl⟩:=Bf.1 hu
    have hl:=k4.1
    obtain ⟨u',h6,h7,_⟩:=k4.2 i (vs[i]'(by omega)) (Ab _)
    rw [Ab hi] at h6
    rw [Bb h6];exact h7
  unfold kf at qk
  split at qk
  ·exact qk.elim
  rename_i l hl
  split at qk
  ·exact qk.elim
  rename_i as ml gP
  split at qk
  rotate_left
  ·exact qk.elim
  rename_i r' ls o' KW qj
  obtain ⟨Jv,xj,YS⟩:=qk
  simp only [Af,Nn] at Jv
  obtain ⟨⟨⟨JE,Awf⟩,Auu⟩,Alw⟩:=Jv
  simp only [Ae] at YS
  obtain ⟨rfl,rfl⟩:=YS
  obtain ⟨bv,hbv,Aqz,Aqw⟩:=hbc qj
  have KU:=Yp JE
  obtain ⟨n1,n2,n3⟩:=Dt.1 KU
  obtain ⟨m1,m2,m3⟩:=Dt.1 n1
  obtain ⟨vs,v1,v2,v3,v4⟩:=Yr hT h' _ _ hl
  have hrs:fn.results=fn.results.toList.toArray:=Array.toArray_toList.symm
  have Vs: ∀v,(if h:vs.toArray.size=1 then vs.toArray[0] else .tuple vs.toArray)=v->(results fn a'.tmps).run P w'= .ok v w':=by
   intro v hv
   rw [fG,hrs,List.mapM_toArray]
   simp only [map_eq_pure_bind,bind_assoc,pure_bind]
   simp only [Sem.run_bind,HC (NF a'.tmps) _ vs v1 v3,Result.andThen_ok,Sem.run_pure]
   rw [hv]
  obtain ⟨wE,v,qm,Aso,hv,hqm⟩: ∃wE v qm,Nh ⟨w,Sg,Vy r6,π0⟩ w' cj st.heap as wE/\(results fn a'.tmps).run P w'= .ok v w'/\
    ((s.rp=none/\ml= []/\qm=none/\Aaq s.Hi s.Hb wE v/\cU s.Hb wE)\/
     ∃tid m q,s.rp=some tid/\ml= [m]/\m<Bn/\qm=some q/\cj m=some q/\q.Cv q.g/\w'.heap[q.g]?=some (.cells wE.toArray tid (0,0))/\(∀u∈wE,u.oneCell'=true)/\v= .pointer (some ⟨q.g,0,none⟩)):=by
   unfold ND at gP
   split at gP
   ·rename_i JG
    split at gP
    rotate_left
    ·cases gP
    rename_i hmul
    cases oE:ungroup s.Hb l with
    |none=>rw [oE] at gP;cases gP
    |some as'=>
     rw [oE] at gP
     simp only [Am,Aa,Ae] at gP
     obtain ⟨rfl,rfl⟩:=gP
     obtain ⟨wE,e1,e2,e3⟩:=ah s.Hb l vs as' (by omega) v4 oE
     have hv: ∃v,(results fn a'.tmps).run P w'= .ok v w'/\Aaq s.Hi s.Hb wE v:=by
      unfold Aaq
      rw [<-e1,hmul]
      rcases Nat.lt_or_ge 1 l.length with h1|h1
      ·have hb1:Nat.blt 1 l.length=true:=by simpa using h1
       simp only [hb1,Po]
       refine ⟨.tuple vs.toArray,Vs _ ?_,rfl⟩
       rw [dif_neg (by simp;omega)]
      ·have hb1:Nat.blt 1 l.length=false:=by rw [<-Ho];simpa using h1
       simp only [hb1,Dc,Rn]
       rcases vs with _|⟨v,_|⟨v',vs⟩⟩
       ·exact ⟨_,Vs _ (by simp;rfl), .inr rfl⟩
       ·exact ⟨v,Vs _ (by simp), .inl rfl⟩
       ·exfalso;simp only [Av] at v1;omega
     obtain ⟨v,hv1,hv2⟩:=hv
     exact ⟨wE,v,none,e3,hv1, .inl ⟨JG,rfl,rfl,hv2,e2⟩⟩
   ·rename_i tid JG
    split at gP
    rotate_left
    ·cases gP
    rename_i m i
    split at gP
    rotate_left
    ·cases gP
    rename_i Uz vs' hm
    split at gP
    rotate_left
    ·cases gP
    rename_i hc
    obtain ⟨rfl,rfl,hmp⟩:=hc
    simp only [Aa,Ae] at gP
    obtain ⟨rfl,rfl⟩:=gP
    unfold St.at at hm
    rcases vs with _|⟨v,_|⟨v',vs⟩⟩
    ·exfalso;simp only [Av,Fg] at v1 v2;omega
    ·obtain ⟨q,Ayf,vs2,q1,q2,q3⟩:=v4 0 _ v rfl rfl
     rw [hm] at q1;cases q1
     obtain ⟨q',k1,k2,cur,k3,k4⟩:=(h'.1.heap m).Rp hm
     rw [q2] at k1;cases k1
     refine ⟨cur.toList,v,some q,Nh.of k4,Vs _ (by simp), .inr ⟨_,m,q,JG,rfl,by simpa using hmp,rfl,q2,k2,by simpa using k3,λu hu=>?_,q3⟩⟩
     obtain ⟨i,hi,rfl⟩:=Bf.1 hu
     have hl:=k4.1
     obtain ⟨u',h6,h7,_⟩:=k4.2 i (vs'[i]'(by omega)) (Ab _)
     rw [Ab hi] at h6
     rw [Bb h6];exact h7
    ·exfalso;simp only [Av,Fg] at v1 v2;omega
  obtain ⟨CC,p1,p2,p3,p4,p5⟩:=xH h'.1 s.outs 0 (bc++as) (bv++wE) r' ls (hbv.append Aso) KW m2
  obtain ⟨io1,io2⟩:=Ur (π0:=r6) h'.1 (λ_=>rfl) s.ins 0 x us o' Aho qj
  have Alg:(bv++wE).drop s.aG=wE:=by rw [<-Aqz];simp
  let ρ:Pi:= λl0=>if l0=Km s.outs.length then qm else CC l0
  have Aih:ρ (Km s.outs.length)=qm:=Ac rfl
  have An3: ∀l0,l0≠Km s.outs.length->ρ l0=CC l0:= λl0 h=>Ak h
  have An2: ∀j,j<s.outs.length->ρ (Km j)=CC (Km j):= λj hj=>An3 _ (by unfold Km;omega)
  have vo: ∀l0 q,ρ l0=some q->(l0=Km s.outs.length/\qm=some q)\/(l0≠Km s.outs.length/\CC l0=some q):= λl0 q h=>by
   by_cases e:l0=Km s.outs.length
   ·subst e;rw [Aih] at h;exact .inl ⟨rfl,h⟩
   ·rw [An3 l0 e] at h;exact .inr ⟨e,h⟩
  have Amd: ∀q,qm=some q-> ∃m,ml= [m]/\m<Bn/\cj m=some q:= λq hq=>by
   rcases hqm with ⟨_,_,h1,_⟩|⟨_,m,q',_,h1,h2,h3,h4,_⟩
   ·rw [h1] at hq;cases hq
   ·rw [h3] at hq;cases hq;exact ⟨m,h1,h2,h4⟩
  have p3': ∀l0 q b,ρ l0=some q->q.Cv b-> ∃l1∈ml++ls,∃p,cj l1=some p/\p.cl b/\((s.outs.all λc=>!c.isX)=true->p.Cv b)/\((l1∈ls)\/l1<Bn):= λl0 q b h1 h2=>by
   rcases vo l0 q h1 with ⟨_,h3⟩|⟨_,h3⟩
   ·obtain ⟨m,e1,e2,e3⟩:=Amd q h3
    exact ⟨m,by rw [e1];simp,q,e3,h'.1.sub m q b e3 h2,λ_=>h2, .inr e2⟩
   ·obtain ⟨l1,g1,p,g2,g3,g4⟩:=p3 l0 q b h3 h2
    exact ⟨l1,Ci _ g1,p,g2,g3,g4, .inl g1⟩
  have p4': ∀l0 l1 q q' b,ρ l0=some q->ρ l1=some q'->q.Cv b->q'.Cv b->l0=l1:= λl0 l1 q q' b h1 h2 h3 h4=>by
   have DF: ∀l0 q q' b,CC l0=some q->qm=some q'->q.Cv b->q'.Cv b->False:= λl0 q q' b h1 h2 h3 h4=>by
    obtain ⟨m,e1,e2,e3⟩:=Amd q' h2
    obtain ⟨l1,g1,p,g2,g3,_⟩:=p3 l0 q b h1 h3
    have:=h'.1.inj m l1 q' p b e3 g2 (h'.1.sub m q' b e3 h4) g3
    exact m3 m (by rw [e1];simp) l1 g1 this
   rcases vo l0 q h1 with ⟨e1,h5⟩|⟨e1,h5⟩<;>rcases vo l1 q' h2 with ⟨e2,h6⟩|⟨e2,h6⟩
   ·rw [e1,e2]
   ·exact (DF l1 q' q b h6 h5 h4 h3).elim
   ·exact (DF l0 q q' b h5 h6 h3 h4).elim
   ·exact p4 l0 l1 q q' b h5 h6 h3 h4
  have QI: ∀l0 q,Bn<=l0->r6 l0=some q->At st.heap l0≠none/\(l0∈Qb 0 s.ins\/ ∃b,At st.heap l0=some b/\b.row=none):= λl0 q h1 h2=>by
   rcases VN l0 q h2 with ⟨h3,_⟩|⟨h3,rfl,_⟩
   ·have yW:=xp s.ins 0 x l0 Am2 (by omega) (λhnn=>by rw [YA l0 hnn] at h3;cases h3) (by omega)
    exact ⟨io2 l0 yW, .inl yW⟩
   ·obtain ⟨b,h4,h5⟩:=Asq h3
    exact ⟨by rw [h4];simp, .inr ⟨b,h4,h5⟩⟩
  have hDO:(s.outs.all λc=>!c.isX)=true-> ∀b,kB Sg r6 ρ b->Vy cj b\/Sg b:=by
   intro hx b hb
   rcases hb with hb|⟨l0,q,h1,h2,h3⟩|⟨l0,q,h1,h2⟩
   ·exact .inr hb
   ·have hs:=h'.1.gW l0 h1 (QI l0 q h1 h2).1
    have hs:bz ((r6 l0).map full) (cj l0):=hs
    rw [h2] at hs
    cases xk:cj l0 with
    |none=>rw [xk] at hs;exact hs.elim
    |some q1=>rw [xk] at hs;exact .inl ⟨l0,q1,xk,(hs.2.2.2 b).1 h3⟩
   ·obtain ⟨m,_,p,hm2,_,hm4,_⟩:=p3' l0 q b h1 h2
    exact .inl ⟨m,p,hm2,hm4 hx⟩
  have hDD: ∀b,kB S π ρ b->kB Sg r6 ρ b:= λb hb=>by
   rcases hb with hb|⟨l0,q,h1,h2,h3⟩|hb
   ·by_cases xg:s.gv g b
    ·obtain ⟨hps,rfl⟩:=xg
     exact .inr (.inl ⟨Pe,_,Ag3,Ac ⟨hps,rfl⟩,rfl⟩)
    ·exact .inl ⟨hb,xg⟩
   ·refine .inr (.inl ⟨l0,q,h1,?_,h3⟩)
    show (if s.ptr.isSome=true/\l0=Pe then _ else π l0)=some q
    rw [Ak]
    ·exact h2
    ·rintro ⟨_,rfl⟩
     rw [YA Pe Aib] at h2;cases h2
   ·exact .inr (.inr hb)
  have hfl:s.flat=true\/(s.outs.all λc=>!c.isX)=true:=by unfold MSpec.ZU at Alw;simpa only [Lu] using Alw
  have io1:Mh w' (kB S π ρ) π 0 s.ins o':=by
   refine Mh.congr s.ins 0 o' Afx ?_
   rcases hfl with hf|hf
   ·unfold MSpec.flat at hf
    simp only [Af] at hf
    exact Mh.any s.ins 0 o' hf.2 io1
   ·exact Mh.Iw (λb hb=>hDO hf b (hDD b hb)) s.ins 0 o' io1
  have p1:Jk w' (kB S π ρ) ρ 0 s.outs r' (bv++wE):=by
   have p1:Jk w' (λb=>Vy cj b\/Sg b) ρ 0 s.outs r' (bv++wE):=Jk.XL s.outs 0 r' _ (λj _ hj=>An2 j (by omega)) p1
   rcases hfl with hf|hf
   ·unfold MSpec.flat at hf
    simp only [Af] at hf
    exact Jk.any s.outs 0 r' (bv++wE) hf.1 p1
   ·exact Jk.Iw (λb hb=>hDO hf b (hDD b hb)) s.outs 0 r' (bv++wE) p1
  refine ⟨v,bv++wE,ρ,h'.2.defers,hv,?_,Aqw wE,⟨h'.1.below.os,h'.1.below.tape,h'.1.below.output,h'.1.below.size,λk hk hn=>h'.1.below.block k hk λho=>hn ((ef k).1 ho)⟩,io1,p1,⟨λl0 q b h1 h2=>?_,p4'⟩,λl0 hl0=>?_,λkj WH=>?_⟩
  ·rw [Alg]
   unfold sr
   rcases hqm with ⟨h1,_,_,h2⟩|⟨tid,m,q,h1,_,_,h3,_,h4,h5,h6,h7⟩
   ·rw [h1];exact h2
   ·rw [h1];exact ⟨q,by rw [Aih,h3],h4,h5,h6,h7⟩
  ·obtain ⟨m,hm1,p,hm2,hm3,_,hm4⟩:=p3' l0 q b h1 h2
   obtain ⟨k1,k2⟩:=h'.1.place m p b hm2 hm3
   refine ⟨k2,k1.imp id λ⟨c0,q0,h5,h6⟩=>?_⟩
   have Jr:c0<Bn:=Bj λhn=>by
    obtain ⟨Iv,yW⟩:=QI c0 q0 (by omega) h5
    have hs:=h'.1.gW c0 (by omega) Iv
    have hs:bz ((r6 c0).map full) (cj c0):=hs
    rw [h5] at hs
    cases xk:cj c0 with
    |none=>rw [xk] at hs;exact hs.elim
    |some q1=>
     rw [xk] at hs
     have hf1:q1.Cv b:=(hs.2.2.2 b).1 h6
     have:=h'.1.inj c0 m q1 p b xk hm2 (h'.1.sub c0 q1 b xk hf1) hm3
     subst this
     rcases hm4 with hm4|hm4
     ·rcases yW with yW|⟨b1,hb1,hb2⟩
      ·exact n3 c0 hm1 c0 yW rfl
      ·obtain ⟨b2,hb3,hb4⟩:=u6 s.outs _ _ _ KW c0 hm4
       rw [hb1] at hb3;cases hb3
       exact hb4 hb2
     ·exact hn hm4
   refine ⟨c0,q0,Jr,?_,h6⟩
   rcases VN c0 q0 h5 with ⟨h7,_⟩|⟨_,h7,_⟩
   ·exact h7
   ·omega
  ·cases hp:ρ l0 with
   |none=>rfl
   |some q=>
    rcases vo l0 q hp with ⟨e,h3⟩|⟨_,h3⟩
    ·refine absurd e (hl0 _ ?_)
     rcases hqm with ⟨_,_,h4,_⟩|⟨tid,m,q',h4,_⟩
     ·rw [h4] at h3;cases h3
     ·unfold MSpec.Uu;rw [h4];simp
    ·obtain ⟨j,_,j2,j3⟩:=p2 l0 q h3
     exact absurd j3 (hl0 j (by unfold MSpec.Uu;omega))
  ·obtain ⟨l0,off,len,e,te,rows,out,p,q1,q2,q3,q4,q5⟩:=xt xj kj WH
   have hj:kj.2<s.outs.length:=by
    rw [<-xG s.outs _ _ _ KW]
    exact (An.1 q1).1
   have e1:=p5 kj.2 l0 off len e te rows out (some p) q1 q2
   rw [Bo] at e1
   rw [An2 _ hj,e1]
   have hk:=((h'.1.heap l0).Rp q2).2
   obtain ⟨l1,n1⟩:=p
   simp only [KeptAt] at hk
   dsimp only at q3 q4
   subst q3
   have SU:π0 (Dx false kj.1)=(π (Dx false kj.1)).map full:=by
    show (if s.ptr.isSome=true/\Dx false kj.1=Pe then _ else π (Dx false kj.1)).map full=_
    rw [Ak λh=>hvl false kj.1 q5 h.2]
   rw [SU] at hk
   unfold CE
   cases hp:π (Dx false kj.1) with
   |none=>
    rw [hp] at hk
    cases xk:cj l0 with
    |none=>trivial
    |some q=>rw [xk] at hk;exact hk.elim
   |some q0=>
    rw [hp] at hk
    cases xk:cj l0 with
    |none=>rw [xk] at hk;exact hk.elim
    |some q=>
     rw [xk] at hk
     obtain ⟨k1,k2,k3,k4⟩:=hk
     exact ⟨k1,k2,k3,λj hj hc=>k4 j (by omega) hc⟩
 refine calls_of_wp hf hb ?_
 refine (ur hT Pb hm he _ w _ h0 λe st a' w' ⟨Iv,rn⟩ h'=>?_).1
 obtain ⟨v,Xl,ρ,p1,p2,p3⟩:=fin st a' w' rn h'
 cases e with
 |normal=>exact ⟨p1,v,p2,v,Xl,ρ,rfl,p3⟩
 |ret=>exact ⟨p1,v,p2,v,Xl,ρ,rfl,p3⟩
 |exit id=>exact absurd rfl (Iv id)
end
end Go.Proofs.Ytkkdpknjohcekaa
