/-
  Part 27 of the proof that the statement FnLowerBounds holds.
-/
import Derived.Test.YtkkdpknjohcekaaGreatCFLowerBounds25
namespace Go.Proofs.YtkkdpknjohcekaaGreat
open Go.RowKit
section
variable {P:Program} {T:Tab} {Γ:Env} {X:Ctx} {w w':World} {π:Pi} {H:List (Nat×OB)}
theorem tf: ∀(cs:List (Bool×CK)) (k:Nat) (x:Ins.den cs) (l:Nat),At (ab k cs x) l≠none-> ∃b j,k<=j/\j<k+cs.length/\l=Ea b j
 | [],_,_,_,h=>absurd rfl h
 |p::r,k,x,l,h=>by
  simp only [ab] at h
  by_cases e:l=Ea p.1 k
  ·exact ⟨p.1,k,Ap _,by simp,e⟩
  ·have:At (ab (k+1) r x.2) l≠none:=by
    cases hc:kA (Ea p.1 k) p.2 x.1 with
    |none=>rw [hc] at h;exact h
    |some b=>rw [hc] at h;simpa only [iC,At,Aj (Hm e)] using h
   obtain ⟨b,j,h1,h2,h3⟩:=tf r (k+1) x.2 l this
   exact ⟨b,j,by omega,by simp;omega,h3⟩
theorem RY {p:Bool×CK} {r:List (Bool×CK)} {k:Nat} {x:Ins.den (p::r)} (hk:k+(r.length+1)<100000) {l:Nat} {b:OB} (h:At (ab (k+1) r x.2) l=some b):At (ab k (p::r) x) l=some b:=by
 obtain ⟨b',j,h1,h2,rfl⟩:=tf r (k+1) x.2 l (by rw [h];simp)
 simp only [ab]
 cases kA (Ea p.1 k) p.2 x.1 with
 |none=>exact h
 |some c=>simp only [iC,At];rw [Aj (QF (by omega) (by omega) (by omega))];exact h
theorem WE {D:Nat->Prop} (hD: ∀b,Cx X.w0.heap.size X.Sc π false b->D b) (hw0:X.w0=w) {l:Nat} {r:Option Real} (dy:X.ic l=r.map full) {u:Value} {c:CK} {x:c.den} (h:eV w D r u c x) {b:OB} (hb:kA l c x=some b):Cg X w π H (r.map full) b:=by
 have Wx: ∀ {e:Ty} {es:List Value} {y:e.den},Cells w D e es y->Cells w (Cx X.w0.heap.size X.Sc π false) e es y:= λ {e es y} h=>Cells.Fw (Ap _) (λ_ _ _=>rfl) (λb _ hb=>hD b hb) e es y h
 cases c with
 |Ft τ=>cases hb
 |row e te=>
  simp only [kA,Aa] at hb;subst hb
  obtain ⟨_,h⟩:=h
  simp only [gp] at h
  simp only [Cg,Kt]
  cases r with
  |none=>exact h
  |some q=>
   obtain ⟨k1,cu,ti,k2,k3,k4,k5,k6⟩:=h
   exact ⟨⟨k1.1,k1.2,λh=>by cases h⟩,cu,ti,k2,k3,k4,k5,λi y hy=>by
    obtain ⟨es,g1,g2,g3⟩:=k6 i y hy
    exact ⟨es,g1,g2,Wx g3⟩,λh=>by cases h⟩
 |Ii e te=>
  simp only [kA,Aa] at hb;subst hb
  cases r<;>exact h.2
 |part e te=>
  simp only [kA,Aa] at hb;subst hb
  obtain ⟨_,hf,h⟩:=h
  simp only [Cg,Kt]
  cases r with
  |none=>exact h
  |some q=>
   obtain ⟨k1,cu,ti,k2,k3,k4,k5,k6⟩:=h
   exact ⟨⟨k1.1,k1.2,λh=>by cases h⟩,cu,ti,k2,k3,k4,k5,λi y hy=>by
    obtain ⟨es,g1,g2,g3⟩:=k6 i y hy
    exact ⟨es,g1,g2,Wx g3⟩,λh=>by cases h⟩
 |Bp e te kp=>
  simp only [kA,Aa] at hb;subst hb
  have h2:aI w D r e x none:=h.2
  have h3:=aI.Jn h2 hD
  refine ⟨by cases r<;>exact h3,?_⟩
  cases kp with
  |false=>trivial
  |true=>
   simp only [Qi,KeptAt]
   rw [dy]
   cases r with
   |none=>trivial
   |some q=>exact ⟨rfl,rfl,rfl,λj _ _=>by rw [hw0]⟩
theorem m9 {D:Nat->Prop} (hD: ∀b,Cx X.w0.heap.size X.Sc π false b->D b) (hw0:X.w0=w) {π0:Pi} (dy: ∀l,X.ic l=(π0 l).map full): ∀(cs:List (Bool×CK)) (k:Nat) (x:Ins.den cs) (us:List Value),eW w D π0 k cs x us-> ∀l b,At (ab k cs x) l=some b->Cg X w π H ((π0 l).map full) b
 | [],_,_,_,_,_,_,h=>by cases h
 |_::_,_,_,[],h,_,_,_=>h.elim
 |p::r,k,x,u::us,h,l,b,hb=>by
  simp only [ab] at hb
  cases hc:kA (Ea p.1 k) p.2 x.1 with
  |none=>rw [hc] at hb;exact m9 hD hw0 dy r (k+1) x.2 us h.2 l b hb
  |some c=>
   rw [hc] at hb
   simp only [iC,At] at hb
   split at hb
   ·rename_i e;subst e
    simp only [Aa] at hb;subst hb
    exact WE hD hw0 (dy _) h.1 hc
   ·exact m9 hD hw0 dy r (k+1) x.2 us h.2 l b hb
theorem DS {S:Nat->Prop} {π0:Pi} {gv:Nat->Prop} {ic:Pi} (ew: ∀l,π l=(π0 l).map full): ∀(cs:List (Bool×CK)) (k:Nat) (x:Ins.den cs) (us:List Value),k+cs.length<100000->eW w (λb=>Wo π0 b\/S b) π0 k cs x us->(∀l b,At (ab k cs x) l=some b->At H l=some b)->
  Nn ⟨w,S,gv,ic⟩ w π H (c6 k cs x) us
 | [],_,_,[],_,_,_=>trivial
 | [],_,_,_::_,_,h,_=>h.elim
 |_::_,_,_,[],_,h,_=>h.elim
 |p::r,k,x,u::us,hk,h,hH=>by
  simp only [Ay] at hk
  refine ⟨?_,DS ew r (k+1) x.2 us (by omega) h.2 λl b hb=>hH l b (RY hk hb)⟩
  have h1:=h.1
  have hh: ∀b,kA (Ea p.1 k) p.2 x.1=some b->At H (Ea p.1 k)=some b:= λb hb=>hH _ b (by simp only [ab];rw [hb];simp [iC,At])
  have jV:=ew (Ea p.1 k)
  obtain ⟨io,c⟩:=p
  dsimp only at h1 hh jV⊢
  generalize x.1=y at*
  cases c with
  |Ft τ=>
   show Cu w _ τ u y
   cases hf:τ.flat with
   |true=>exact Cu.flat hf h1.2
   |false=>
    refine h1.2.Jn λb _ hb=>?_
    rcases hb with ⟨l,q,h3,h4⟩|hb|⟨hb,_⟩
    ·rw [ew l] at h3
     cases hp:π0 l with
     |none=>rw [hp] at h3;cases h3
     |some q0=>rw [hp] at h3;simp only [Al,Aa] at h3;subst h3;exact .inl ⟨l,q0,hp,h4⟩
    ·exact .inr hb
    ·cases hb
  |row e te=>exact ⟨_,e.size,List.length y,hh _ rfl,rfl,by simp,by rw [jV];exact aj h1.1⟩
  |Ii e te=>exact ⟨_,e.size,List.length y,hh _ rfl,rfl,by simp,by rw [jV];exact aj h1.1⟩
  |part e te=>exact ⟨_,e.size,List.length y.1,hh _ rfl,rfl,h1.1.2,by rw [jV];exact aj h1.1.1⟩
  |Bp e te kp=>exact ⟨_,1,List.length y,hh _ rfl,rfl,by simp,by rw [jV];exact aj h1.1⟩
theorem pv {p:Real} {s off len:Nat} {u:Value} {f:Nat->Prop} (h:Ir (some p) s off len u):Ir (some ⟨p.g,p.o+off,p.cap-off,f,f⟩) s 0 len u:=by
 obtain ⟨ad,h1,h2,h3⟩:=h
 exact ⟨ad,h1,by dsimp only;omega,λh0=>by dsimp only at h0;simpa using h3 (by omega)⟩
theorem tT {α:Type} {xs:List α} {off len i:Nat} {x:α} (h:((xs.drop off).take len)[i]?=some x):xs[off+i]?=some x:=by
 rw [Cs] at h
 split at h
 ·rw [Da] at h;exact h
 ·cases h
theorem Yi.part {P:Nat->Prop} {g o:Nat} {cur:Array Value} {e:Ty} {xs:List e.den} (off len:Nat) (h:Yi w P g o cur e xs):Yi w P g (o+off) cur e ((xs.drop off).take len):=by
 obtain ⟨Fs,t1,t2,t3,t4⟩:=h
 refine ⟨(Fs.drop off).take len,by simp [t1],Cb.2 ⟨λhm=>(Cb.1 t2).1 (Tn off len _ hm),mj off len (Cb.1 t2).2⟩,λb hb=>t3 b (Tn off len b hb),λi x F hx hF=>?_⟩
 obtain ⟨es,k1,k2,k3⟩:=t4 (off+i) x F (tT hx) (tT hF)
 exact ⟨es,k1,λj u hu=>by rw [Ha o off i];exact k2 j u hu,k3⟩
theorem SP {st:St} (h:Nm X w π st.heap) {c:CK} (hg: ∀e te kp,c≠ .Bp e te kp) {a:AC} {u:Value} (hu:Ia X w π st.heap a u) {x:c.den} {ls:List Nat} (he:kG st c a=some (x,ls)):
  ∃r,eV w (λb=>Wo π b\/X.Sc b) r u c x/\ ∀q,r=some q-> ∃l p,ls= [l]/\π l=some p/\(∀b,q.Cq b->p.cl b)/\(c.isX=false-> ∀b,q.Cq b->p.Cq b):=by
 have WU: ∀ {f:Bool} (b:Nat),(Wo π b\/X.Sc b)->Cx X.w0.heap.size X.Sc π f b:= λb h=>h.imp id .inl
 cases c with
 |Ft τ=>
  simp only [kG] at he
  split at he
  ·rename_i hf
   cases hv:Dr st τ a with
   |none=>rw [hv] at he;cases he
   |some p=>
    obtain ⟨fr,y⟩:=p
    rw [hv] at he
    simp only [Al,Aa,Ae] at he
    obtain ⟨rfl,rfl⟩:=he
    refine ⟨none,⟨rfl,?_⟩,λq hq=>by cases hq⟩
    have Jn: ∀f,Cu w (Cx X.w0.heap.size X.Sc π f) τ u y->Cu w (λb=>Wo π b\/X.Sc b) τ u y:= λf hr=>hr.Jn λk _ hk=>WU k hk
    cases a with
    |data f Pb z=>
     rw [Ol] at hv
     split at hv
     ·rename_i ht;subst ht
      simp only [Aa,Ae] at hv
      obtain ⟨_,rfl⟩:=hv
      exact Jn f hu
     ·have Si:τ.Ao=false:=by unfold iF at hv;split at hv<;>first|rfl|cases hv
      exact Jn _ ⟨[u],du hv hu,by simp [Ca,Si]⟩
    |Mm=>
     have hu:u= .slice none 0 0:=hu
     subst hu
     cases τ<;>simp only [Dr,Aa,Ae,reduceCtorEq] at hv
     ·obtain ⟨_,rfl⟩:=hv;exact ⟨[_],⟨none,0,0,rfl,rfl,Ap _, .inl rfl⟩,rfl⟩
     ·obtain ⟨_,rfl⟩:=hv;exact ⟨[_], .inl ⟨rfl,0,rfl⟩,rfl⟩
    |Wl=>
     have hu:u= .pointer none:=hu
     subst hu
     cases τ<;>simp only [Dr,Aa,Ae,reduceCtorEq] at hv
     obtain ⟨_,rfl⟩:=hv;exact ⟨[_], .inl ⟨rfl,rfl⟩,rfl⟩
    |_=>cases τ<;>simp [AC.settled,Ty.flat,Dr] at hf hv
  ·cases he
 |row e te=>
  cases a<;>simp only [kG] at he<;>try (cases he;done)
  ·simp only [Aa,Ae] at he
   obtain ⟨rfl,rfl⟩:=he
   have hu:u= .slice none 0 0:=hu
   exact ⟨none,⟨⟨hu,rfl,rfl⟩,rfl⟩,λq hq=>by cases hq⟩
  ·rename_i l off len
   split at he
   ·rename_i fr tr e' Sj xs hl
    split at he
    ·rename_i hc
     obtain ⟨rfl,rfl⟩:=hc
     simp only [Aa,Ae] at he
     obtain ⟨rfl,rfl⟩:=he
     unfold St.at at hl
     obtain ⟨h1,h2⟩:=Pg hu hl
     have hb:=(h.heap l).Sn hl
     simp only [Cg,Kt] at hb
     have hlen:((xs.drop off).take len).length=len:=by simp;omega
     cases hp:π l with
     |none=>
      rw [hp] at h2 hb
      obtain ⟨rfl,rfl,rfl⟩:=h2
      exact ⟨none,⟨⟨rfl,rfl,by simp⟩,by show (xs.drop 0).take 0= [];simp⟩,λq hq=>by cases hq⟩
     |some p=>
      rw [hp] at h2 hb
      obtain ⟨k1,cur,ti,k2,k3,k4,k5,k6,_⟩:=hb
      have ho:=h2
      obtain ⟨ad,_,sU,_⟩:=h2
      refine ⟨some ⟨p.g,p.o+off,p.cap-off,p.Cq,p.Cq⟩,⟨by rw [hlen];exact pv ho,⟨k1.1,k1.2.1⟩,cur,ti,k2,by rw [k3];congr 1;dsimp only;omega,by dsimp only;omega,by rw [hlen];dsimp only;omega,λi y hy=>?_⟩,
       fun q hq=>by cases hq;exact ⟨l,p,rfl,hp,λb hb=>h.sub l p b hp hb,λ_ b hb=>hb⟩⟩
      obtain ⟨es,g1,g2,g3⟩:=k6 (off+i) y (tT hy)
      exact ⟨es,g1,λj u hu=>by dsimp only;rw [Ha p.o off i];exact g2 j u hu,Cells.Fw (Ap _) (λ_ _ _=>rfl) (λb _ hb=>WU b hb) e' es y g3⟩
    ·cases he
   ·cases he
 |Ii e te=>
  cases a<;>simp only [kG] at he<;>try (cases he;done)
  ·simp only [Aa,Ae] at he
   obtain ⟨rfl,rfl⟩:=he
   have hu:u= .slice none 0 0:=hu
   exact ⟨none,⟨⟨hu,rfl,rfl⟩,rfl⟩,λq hq=>by cases hq⟩
  ·rename_i l off len
   split at he
   ·rename_i fr tr e' Sj xs hl
    split at he
    ·rename_i hc
     obtain ⟨rfl,rfl,hf⟩:=hc
     simp only [Aa,Ae] at he
     obtain ⟨rfl,rfl⟩:=he
     unfold St.at at hl
     obtain ⟨h1,h2⟩:=Pg hu hl
     have hb:=(h.heap l).Sn hl
     simp only [Cg,Kt] at hb
     have hlen:((xs.drop off).take len).length=len:=by simp;omega
     cases hp:π l with
     |none=>
      rw [hp] at h2 hb
      obtain ⟨rfl,rfl,rfl⟩:=h2
      exact ⟨none,⟨⟨rfl,rfl,by simp⟩,by show (xs.drop 0).take 0= [];simp⟩,λq hq=>by cases hq⟩
     |some p=>
      rw [hp] at h2 hb
      obtain ⟨k1,cur,ti,k2,k3,k4,k5,k6,k7⟩:=hb
      have ho:=h2
      obtain ⟨ad,_,sU,_⟩:=h2
      have ht:Yi w p.cl p.g p.o cur e' xs:=by
       simp only [Mh] at hf
       rcases hf with hf|hf
       ·exact k7 hf
       ·exact nq hf k6
      exact ⟨some ⟨p.g,p.o+off,p.cap-off,p.cl,p.cl⟩,⟨by rw [hlen];exact pv ho,h.sub l p _ hp k1.1,cur,ti,k2,by rw [k3];congr 1;dsimp only;omega,by dsimp only;omega,by rw [hlen];dsimp only;omega,ht.part off len⟩,
       fun q hq=>by cases hq;exact ⟨l,p,rfl,hp,λb hb=>hb,λhx=>by cases hx⟩⟩
    ·cases he
   ·rename_i e' Sj xs hl
    split at he
    ·rename_i hc
     obtain ⟨rfl,rfl⟩:=hc
     simp only [Aa,Ae] at he
     obtain ⟨rfl,rfl⟩:=he
     unfold St.at at hl
     obtain ⟨h1,h2⟩:=ck hu hl
     have hb:=(h.heap l).Sn hl
     simp only [Cg,Oo] at hb
     have hlen:((xs.drop off).take len).length=len:=by simp;omega
     cases hp:π l with
     |none=>
      rw [hp] at h2 hb
      obtain ⟨rfl,rfl,rfl⟩:=h2
      exact ⟨none,⟨⟨rfl,rfl,by simp⟩,by show (xs.drop 0).take 0= [];simp⟩,λq hq=>by cases hq⟩
     |some p=>
      rw [hp] at h2 hb
      obtain ⟨k1,cur,ti,k2,k3,k4,k5,ht⟩:=hb
      have ho:=h2
      obtain ⟨ad,_,sU,_⟩:=h2
      exact ⟨some ⟨p.g,p.o+off,p.cap-off,p.Cq,p.Cq⟩,⟨by rw [hlen];exact pv ho,k1,cur,ti,k2,by rw [k3];congr 1;dsimp only;omega,by dsimp only;omega,by rw [hlen];dsimp only;omega,ht.part off len⟩,
       fun q hq=>by cases hq;exact ⟨l,p,rfl,hp,λb hb=>h.sub l p b hp hb,λ_ b hb=>hb⟩⟩
    ·cases he
   ·cases he
 |part e te=>cases a<;>simp [kG] at he
 |Bp e te kp=>exact absurd rfl (hg e te kp)
theorem ZF {st:St} (h:Nm X w π st.heap) {c:CK} {a:AC} {u:Value} (hu:Ia X w π st.heap a u) {x:c.den} {ls:List Nat} (he:kG st c a=some (x,ls)):
  ∃r,eV w (λb=>Wo π b\/X.Sc b) r u c x/\(∀q,r=some q-> ∃l p,ls= [l]/\π l=some p/\(∀b,q.Cq b->p.cl b)/\(c.isX=false-> ∀b,q.Cq b->p.Cq b))/\
   (∀l off len e te rows out kp,a= .own l off len->At st.heap l=some (.Bp e te rows out kp)->r=π l):=by
 have vh:(∀e te kp,c≠ .Bp e te kp)->(∀l off len e te rows out kp,a=AC.own l off len->At st.heap l=some (OB.Bp e te rows out kp)->False)->
   ∃r,eV w (λb=>Wo π b\/X.Sc b) r u c x/\(∀q,r=some q-> ∃l p,ls= [l]/\π l=some p/\(∀b,q.Cq b->p.cl b)/\(c.isX=false-> ∀b,q.Cq b->p.Cq b))/\
   (∀l off len e te rows out kp,a= .own l off len->At st.heap l=some (.Bp e te rows out kp)->r=π l):= λh1 h2=>by
  obtain ⟨r,g1,g2⟩:=SP h h1 hu he
  exact ⟨r,g1,g2,λl off len e te rows out kp h3 h4=>(h2 l off len e te rows out kp h3 h4).elim⟩
 cases c with
 |Ft τ=>
  refine vh (λ_ _ _ h=>by cases h) λl off len e te rows out kp h3 h4=>?_
  subst h3
  simp only [kG] at he
  split at he
  ·rename_i hf
   cases τ<;>simp [AC.settled,Ty.flat,Dr] at hf he
  ·cases he
 |row e te=>
  refine vh (λ_ _ _ h=>by cases h) λl off len e te rows out kp h3 h4=>?_
  subst h3
  simp only [kG,St.at,h4] at he
  cases he
 |Ii e te=>
  refine vh (λ_ _ _ h=>by cases h) λl off len e te rows out kp h3 h4=>?_
  subst h3
  simp only [kG,St.at,h4] at he
  cases he
 |part e te=>cases a<;>simp [kG] at he
 |Bp e te kp=>
  cases a<;>simp only [kG] at he<;>try (cases he;done)
  rename_i l off len
  split at he
  ·rename_i e' Sj rows kp' hl
   split at he
   ·rename_i hc
    obtain ⟨rfl,rfl,rfl,rfl⟩:=hc
    simp only [Aa,Ae] at he
    obtain ⟨rfl,rfl⟩:=he
    unfold St.at at hl
    obtain ⟨b,sz,n,h1,h2,_,h3⟩:=hu
    rw [hl] at h1;cases h1
    simp only [OB.row,Aa,Ae] at h2
    obtain ⟨rfl,rfl⟩:=h2
    have hb:=((h.heap l).Sn hl).1
    refine ⟨π l,⟨h3,aI.Jn hb λb hb=>hb.imp id .inl⟩,λq hq=>⟨l,q,rfl,hq,λb hb=>h.sub l q b hq hb,λ_ b hb=>hb⟩,λl' Axf As9 _ _ _ _ _ he _=>?_⟩
    simp only [AC.own.injEq] at he
    rw [he.1]
   ·cases he
  ·cases he
theorem Jw.congr {D:Nat->Prop} {ρ ρ':Pi} : ∀(cs:List CK) (k:Nat) (x:CKs.den cs) (us:List Value),(∀j,k<=j->ρ' (Kx j)=ρ (Kx j))->Jw w D ρ k cs x us->Jw w D ρ' k cs x us
 | [],_,_,[],_,h=>h
 | [],_,_,_::_,_,h=>h.elim
 |_::_,_,_,[],_,h=>h.elim
 |c::r,k,x,u::us,he,h=>⟨by rw [he k (Ap _)];exact h.1,Jw.congr r (k+1) x.2 us (λj hj=>he j (by omega)) h.2⟩
theorem xA {st:St} (h:Nm X w π st.heap): ∀(cs:List CK) (k:Nat) (as:List AC) (us:List Value) (x:CKs.den cs) (ls:List Nat),Nn X w π st.heap as us->Vy st cs as=some (x,ls)->ls.Nodup->
  ∃ρ:Pi,Jw w (λb=>Wo π b\/X.Sc b) ρ k cs x us/\(∀l q,ρ l=some q-> ∃j,k<=j/\j<k+cs.length/\l=Kx j)/\(∀l q b,ρ l=some q->q.Cq b-> ∃l0∈ls,∃p,π l0=some p/\p.cl b/\((cs.all λc=>!c.isX)=true->p.Cq b))/\
   (∀l l' q q' b,ρ l=some q->ρ l'=some q'->q.Cq b->q'.Cq b->l=l')/\
   (∀(j l off len:Nat) e te rows out kp,as[j]?=some (.own l off len)->At st.heap l=some (.Bp e te rows out kp)->ρ (Kx (k+j))=π l)
 | [],k,[],[],x,ls,_,he,_=>by
  simp only [Vy,Aa,Ae] at he
  exact ⟨λ_=>none,trivial,(λl q h=>by cases h),(λl q b h=>by cases h),(λl l' q q' b h=>by cases h),λj l off len e te rows out kp h=>by simp at h⟩
 | [],_,[],_::_,_,_,h,_,_=>h.elim
 | [],_,_::_,_,_,_,_,he,_=>by simp [Vy] at he
 |_::_,_,[],_,_,_,_,he,_=>by simp [Vy] at he
 |_::_,_,_::_,[],_,_,h,_,_=>h.elim
 |c::r,k,a::as,u::us,x,ls,hr,he,IC=>by
  simp only [Vy] at he
  split at he
  ·rename_i x1 t1 x2 t2 h1 h2
   simp only [Aa,Ae] at he
   obtain ⟨rfl,rfl⟩:=he
   obtain ⟨n1,n2,n3⟩:=Du.1 IC
   obtain ⟨ρ,g1,g2,g3,g4,g5⟩:=xA h r (k+1) as us x2 t2 hr.2 h2 n2
   obtain ⟨rr,r1,r2,r3⟩:=ZF h hr.1 h1
   have CN: ∀l q q0 b,ρ l=some q->rr=some q0->q.Cq b->q0.Cq b->False:= λl q q0 b h3 h4 h5 h6=>by
    obtain ⟨l0,m0,p,p1,p2,_⟩:=g3 l q b h3 h5
    obtain ⟨l1,p',e1,p1',p2',_⟩:=r2 q0 h4
    have:=h.inj l0 l1 p p' b p1 p1' p2 (p2' b h6)
    exact n3 l1 (by rw [e1];simp) l0 m0 this.symm
   refine ⟨λl=>if l=Kx k then rr else ρ l,⟨by simpa using r1,Jw.congr r (k+1) x2 us (λj hj=>Aj (by unfold Kx;omega)) g1⟩,λl q hq=>?_,λl q b hq hb=>?_,λl l' q q' b h3 h4 h5 h6=>?_,λj l off len e te rows out kp hj hl=>?_⟩
   ·dsimp only at hq
    by_cases e:l=Kx k
    ·exact ⟨k,Ap _,by simp,e⟩
    ·rw [Aj e] at hq
     obtain ⟨j,j1,j2,j3⟩:=g2 l q hq
     exact ⟨j,by omega,by simp;omega,j3⟩
   ·dsimp only at hq
    by_cases e:l=Kx k
    ·rw [Ab e] at hq
     obtain ⟨l1,p',e1,p1',p2',p3'⟩:=r2 q hq
     exact ⟨l1,by rw [e1];simp,p',p1',p2' b hb,λhx=>p3' (by simp only [Jc,Af,Es] at hx;exact hx.1) b hb⟩
    ·rw [Aj e] at hq
     obtain ⟨l0,m0,p,p1,p2,p3⟩:=g3 l q b hq hb
     exact ⟨l0,Cf _ m0,p,p1,p2,λhx=>p3 (by simp only [Jc,Af] at hx;exact hx.2)⟩
   ·dsimp only at h3 h4
    by_cases e:l=Kx k<;>by_cases e':l'=Kx k
    ·rw [e,e']
    ·rw [Ab e] at h3;rw [Aj e'] at h4
     exact (CN l' q' q b h4 h3 h6 h5).elim
    ·rw [Aj e] at h3;rw [Ab e'] at h4
     exact (CN l q q' b h3 h4 h5 h6).elim
    ·rw [Aj e] at h3;rw [Aj e'] at h4
     exact g4 l l' q q' b h3 h4 h5 h6
   ·rcases j with _|j
    ·simp only [Bs,Aa] at hj
     show (if Kx k=Kx k then rr else ρ (Kx k))=π l
     rw [Ab rfl]
     exact r3 l off len e te rows out kp hj hl
    ·have:=g5 j l off len e te rows out kp (by simpa using hj) hl
     show (if Kx (k+(j+1))=Kx k then rr else ρ (Kx (k+(j+1))))=π l
     rw [Aj (by unfold Kx;omega),<-this,show k+(j+1)=k+1+j by omega]
  ·cases he
theorem GI {r r':Option Real} (h:bK (r.map full) r') {e:Ty} {xs:List e.den} {te:TypeId} {fr tr:Bool} (ha:Kt X w π r' fr tr e te xs):Ub w (λb=>Wo π b\/X.Sc b) r e xs:=by
 cases r with
 |none=>cases r' with
  |none=>exact ha
  |some q=>exact h.elim
 |some p=>cases r' with
  |none=>exact h.elim
  |some q=>
   obtain ⟨e1,e2,e3,e4⟩:=h
   obtain ⟨k1,cur,ti,k2,k3,k4,k5,k6,_⟩:=ha
   have e1:p.g=q.g:=e1
   have e2:p.o=q.o:=e2
   have e3:p.cap=q.cap:=e3
   refine ⟨⟨by rw [e1];exact (e4 _).2 k1.1,λb hb=>by rw [e1];exact k1.2.1 b ((e4 b).1 hb)⟩,cur,ti,by rw [e1];exact k2,by rw [e2,e3];exact k3,by rw [e3];exact k4,by rw [e3];exact k5,λi y hy=>?_⟩
   obtain ⟨es,g1,g2,g3⟩:=k6 i y hy
   exact ⟨es,g1,by rw [e2];exact g2,Cells.Fw (Ap _) (λ_ _ _=>rfl) (λb _ hb=>hb.imp id .inl) e es y g3⟩
theorem TS {r r':Option Real} (h:bK (r.map full) r') {e:Ty} {xs:List e.den} {te:TypeId} (ha:Oo w r' e te xs):Oo w r e te xs:=by
 cases r with
 |none=>cases r' with
  |none=>exact ha
  |some q=>exact h.elim
 |some p=>cases r' with
  |none=>exact h.elim
  |some q=>
   obtain ⟨e1,e2,e3,e4⟩:=h
   obtain ⟨k1,cur,ti,k2,k3,k4,k5,Fs,t1,t2,t3,t4⟩:=ha
   have e1:p.g=q.g:=e1
   have e2:p.o=q.o:=e2
   have e3:p.cap=q.cap:=e3
   exact ⟨by rw [e1];exact (e4 _).2 k1,cur,ti,by rw [e1];exact k2,by rw [e2,e3];exact k3,by rw [e3];exact k4,by rw [e3];exact k5,Fs,t1,by rw [e1];exact t2,λb hb=>(e4 b).2 (t3 b hb),by rw [e2];exact t4⟩
theorem Vl {st:St} {π0:Pi} {D:Nat->Prop} {w0:World} (h:Nm X w π st.heap) (dy: ∀l,X.ic l=(π0 l).map full): ∀(cs:List (Bool×CK)) (k:Nat) (x:Ins.den cs) (us:List Value) (o:IOs.den cs),eW w0 D π0 k cs x us->Po st k cs=some o->
  Mt w (λb=>Wo π b\/X.Sc b) π0 k cs o/\ ∀l∈Qs k cs,At st.heap l≠none
 | [],_,_,_,_,_,_=>⟨trivial,λl hl=>by cases hl⟩
 |_::_,_,_,[],_,h,_=>h.elim
 |(false,c)::r,k,x,u::us,o,hi,he=>Vl h dy r (k+1) x.2 us o hi.2 (by simpa only [Po] using he)
 |(true, .Ft τ)::r,k,x,u::us,o,hi,he=>Vl h dy r (k+1) x.2 us o hi.2 (by simpa only [Po] using he)
 |(true, .Bp e te kp)::r,k,x,u::us,o,hi,he=>Vl h dy r (k+1) x.2 us o hi.2 (by simpa only [Po] using he)
 |(true, .row e te)::r,k,x,u::us,o,hi,he=>by
  simp only [Po] at he
  split at he
  ·rename_i x1 x2 h1 h2
   simp only [Aa] at he;subst he
   obtain ⟨g1,g2⟩:=Vl h dy r (k+1) x.2 us x2 hi.2 h2
   have h0:=hi.1
   simp only [pW] at h1
   split at h1
   ·rename_i fr tr e' Sj xs hl
    split at h1
    ·rename_i hc
     obtain ⟨rfl,rfl⟩:=hc
     simp only [Aa] at h1;subst h1
     unfold St.at at hl
     have hs:=h.ic (Ea true k) (by have:=bt k;omega) (by rw [hl];simp)
     rw [dy] at hs
     exact ⟨⟨GI (te:=Sj) hs ((h.heap _).Sn hl),g1⟩,λl Mb=>by
      simp only [Qs] at Mb
      rcases Bd.1 Mb with rfl|Mb
      ·rw [hl];simp
      ·exact g2 l Mb⟩
    ·cases h1
   ·cases h1
  ·cases he
 |(true, .part e te)::r,k,x,u::us,o,hi,he=>by
  simp only [Po] at he
  split at he
  ·rename_i x1 x2 h1 h2
   simp only [Aa] at he;subst he
   obtain ⟨g1,g2⟩:=Vl h dy r (k+1) x.2 us x2 hi.2 h2
   have h0:=hi.1
   simp only [pW] at h1
   split at h1
   ·rename_i fr tr e' Sj xs hl
    split at h1
    ·rename_i hc
     obtain ⟨rfl,rfl⟩:=hc
     simp only [Aa] at h1;subst h1
     unfold St.at at hl
     have hs:=h.ic (Ea true k) (by have:=bt k;omega) (by rw [hl];simp)
     rw [dy] at hs
     exact ⟨⟨GI (te:=Sj) hs ((h.heap _).Sn hl),g1⟩,λl Mb=>by
      simp only [Qs] at Mb
      rcases Bd.1 Mb with rfl|Mb
      ·rw [hl];simp
      ·exact g2 l Mb⟩
    ·cases h1
   ·cases h1
  ·cases he
 |(true, .Ii e te)::r,k,x,u::us,o,hi,he=>by
  simp only [Po] at he
  split at he
  ·rename_i x1 x2 h1 h2
   simp only [Aa] at he;subst he
   obtain ⟨g1,g2⟩:=Vl h dy r (k+1) x.2 us x2 hi.2 h2
   simp only [pW] at h1
   split at h1
   ·rename_i e' Sj xs hl
    split at h1
    ·rename_i hc
     obtain ⟨rfl,rfl⟩:=hc
     simp only [Aa] at h1;subst h1
     unfold St.at at hl
     have hs:=h.ic (Ea true k) (by have:=bt k;omega) (by rw [hl];simp)
     rw [dy] at hs
     exact ⟨⟨TS (te:=Sj) hs ((h.heap _).Sn hl),g1⟩,λl Mb=>by
      simp only [Qs] at Mb
      rcases Bd.1 Mb with rfl|Mb
      ·rw [hl];simp
      ·exact g2 l Mb⟩
    ·cases h1
   ·cases h1
  ·cases he
theorem vM {p:Bool×CK} {r:List (Bool×CK)} (h:ai (p::r)=true):ai r=true:=by
 rcases p with ⟨_|_,c⟩<;>cases c<;>first|(simp [ai] at h;done)|simpa [ai] using h
theorem xg: ∀(cs:List (Bool×CK)) (k:Nat) (x:Ins.den cs) (l:Nat),ai cs=true->k+cs.length<100000->At (ab k cs x) l≠none-> ¬l<Bk->l∈Qs k cs
 | [],_,_,_,_,_,h,_=>absurd rfl h
 |(io,c)::r,k,x,l,hng,hk,h,hp=>by
  simp only [Ay] at hk
  simp only [ab] at h
  have tail:At (ab (k+1) r x.2) l≠none->l∈Qs (k+1) r:= λh=>xg r (k+1) x.2 l (vM hng) (by omega) h hp
  have sub: ∀m,m∈Qs (k+1) r->m∈Qs k ((io,c)::r):= λm hm=>by
   cases io<;>cases c<;>simp only [Qs]<;>first|exact hm|exact An _ hm
  cases hc:kA (Ea io k) c x.1 with
  |none=>rw [hc] at h;exact sub l (tail h)
  |some b=>
   rw [hc] at h
   simp only [iC,At] at h
   split at h
   ·rename_i e;subst e
    cases io with
    |false=>exact absurd (fQ (by omega)) hp
    |true=>cases c with
     |Ft τ=>cases hc
     |row e te=>simp [Qs]
     |Ii e te=>simp [Qs]
     |part e te=>simp [Qs]
     |Bp e te kp=>simp [ai] at hng
   ·exact sub l (tail h)
theorem eV.Jn {D D':Nat->Prop} (hD: ∀b,D' b->D b) {r:Option Real} {u:Value} {c:CK} {x:c.den} (h:eV w D r u c x):eV w D' r u c x:=by
 cases c with
 |Ft τ=>exact ⟨h.1,h.2.Jn λb _ hb=>hD b hb⟩
 |row e te=>exact ⟨h.1,Ub.Jn h.2 hD⟩
 |Ii e te=>exact h
 |part e te=>exact ⟨h.1,h.2.1,Ub.Jn h.2.2 hD⟩
 |Bp e te kp=>exact ⟨h.1,aI.Jn h.2 hD⟩
theorem Jw.Jn {D D':Nat->Prop} (hD: ∀b,D' b->D b) {ρ:Pi} : ∀(cs:List CK) (k:Nat) (x:CKs.den cs) (us:List Value),Jw w D ρ k cs x us->Jw w D' ρ k cs x us
 | [],_,_,[],h=>h
 | [],_,_,_::_,h=>h.elim
 |_::_,_,_,[],h=>h.elim
 |_c::r,k,x,_u::us,h=>⟨h.1.Jn hD,Jw.Jn hD r (k+1) x.2 us h.2⟩
theorem Mt.Jn {D D':Nat->Prop} (hD: ∀b,D' b->D b) {π:Pi} : ∀(cs:List (Bool×CK)) (k:Nat) (x:IOs.den cs),Mt w D π k cs x->Mt w D' π k cs x
 | [],_,_,h=>h
 |(false,_)::r,k,x,h=>Mt.Jn hD r (k+1) x h
 |(true, .Ft _)::r,k,x,h=>Mt.Jn hD r (k+1) x h
 |(true, .Bp _ _ _)::r,k,x,h=>Mt.Jn hD r (k+1) x h
 |(true, .row _e _te)::r,k,x,h=>⟨Ub.Jn h.1 hD,Mt.Jn hD r (k+1) x.2 h.2⟩
 |(true, .Ii _e _te)::r,k,x,h=>⟨h.1,Mt.Jn hD r (k+1) x.2 h.2⟩
 |(true, .part _e _te)::r,k,x,h=>⟨Ub.Jn h.1 hD,Mt.Jn hD r (k+1) x.2 h.2⟩
theorem eW.congr {D:Nat->Prop} {π0 cB:Pi} : ∀(cs:List (Bool×CK)) (k:Nat) (x:Ins.den cs) (us:List Value),(∀b j,k<=j->j<k+cs.length->cB (Ea b j)=π0 (Ea b j))->eW w D π0 k cs x us->eW w D cB k cs x us
 | [],_,_,[],_,h=>h
 | [],_,_,_::_,_,h=>h
 |_::_,_,_,[],_,h=>h
 |p::r,k,x,u::us,hp,h=>⟨by rw [hp p.1 k (Ap _) (by simp)];exact h.1,eW.congr r (k+1) x.2 us (λb j h1 h2=>hp b j (by omega) (by simp;omega)) h.2⟩
theorem Mt.congr {D:Nat->Prop} {π0 cB:Pi} : ∀(cs:List (Bool×CK)) (k:Nat) (x:IOs.den cs),(∀b j,k<=j->j<k+cs.length->cB (Ea b j)=π0 (Ea b j))->Mt w D π0 k cs x->Mt w D cB k cs x
 | [],_,_,_,h=>h
 |(false,c)::r,k,x,hp,h=>by cases c<;>exact Mt.congr r (k+1) x (λb j h1 h2=>hp b j (by omega) (by simp;omega)) h
 |(true, .Ft _)::r,k,x,hp,h=>Mt.congr r (k+1) x (λb j h1 h2=>hp b j (by omega) (by simp;omega)) h
 |(true, .Bp _ _ _)::r,k,x,hp,h=>Mt.congr r (k+1) x (λb j h1 h2=>hp b j (by omega) (by simp;omega)) h
 |(true, .row e te)::r,k,x,hp,h=>⟨by rw [hp true k (Ap _) (by simp)];exact h.1,Mt.congr r (k+1) x.2 (λb j h1 h2=>hp b j (by omega) (by simp;omega)) h.2⟩
 |(true, .Ii e te)::r,k,x,hp,h=>⟨by rw [hp true k (Ap _) (by simp)];exact h.1,Mt.congr r (k+1) x.2 (λb j h1 h2=>hp b j (by omega) (by simp;omega)) h.2⟩
 |(true, .part e te)::r,k,x,hp,h=>⟨by rw [hp true k (Ap _) (by simp)];exact h.1,Mt.congr r (k+1) x.2 (λb j h1 h2=>hp b j (by omega) (by simp;omega)) h.2⟩
theorem Eu.congr {π0 cB:Pi} : ∀(cs:List (Bool×CK)) (k:Nat) (o:IOs.den cs) (n:Nat) (us as:List Value),(∀b j,k<=j->j<k+cs.length->cB (Ea b j)=π0 (Ea b j))->Eu π0 k cs o n us as->Eu cB k cs o n us as
 | [],k,o,0,us,as,_,h=>by simpa [Eu] using h
 | [],k,o,n+1,us,as,_,h=>by simp [Eu] at h
 |p::r,k,o,0,us,as,_,h=>by
  rcases p with ⟨_|_,c⟩<;>cases c<;>simpa [Eu] using h
 |(true, .Ft _)::r,k,o,n+1,us,as,_,h=>by simp [Eu] at h
 |(true, .part _ _)::r,k,o,n+1,us,as,_,h=>by simp [Eu] at h
 |(true, .Bp _ _ _)::r,k,o,n+1,us,as,_,h=>by simp [Eu] at h
 |(true, .row e te)::r,k,o,n+1,[],as,_,h=>by simp [Eu] at h
 |(true, .Ii e te)::r,k,o,n+1,[],as,_,h=>by simp [Eu] at h
 |(true, .row e te)::r,k,o,n+1,u::us,as,hp,h=>by
  simp only [Eu] at h⊢
  exact ⟨by rw [hp true k (Ap _) (by simp)];exact h.1,Eu.congr r (k+1) o.2 n us as (λb j h1 h2=>hp b j (by omega) (by simp;omega)) h.2⟩
 |(true, .Ii e te)::r,k,o,n+1,u::us,as,hp,h=>by
  simp only [Eu] at h⊢
  exact ⟨by rw [hp true k (Ap _) (by simp)];exact h.1,Eu.congr r (k+1) o.2 n us as (λb j h1 h2=>hp b j (by omega) (by simp;omega)) h.2⟩
 |(false,c)::r,k,o,n+1,[],as,_,h=>by cases c<;>simp [Eu] at h
 |(false,c)::r,k,o,n+1,u::us,[],_,h=>by cases c<;>simp [Eu] at h
 |(false,c)::r,k,o,n+1,u::us,a::as,hp,h=>by
  have h:u=a/\Eu π0 (k+1) r o n us as:=by cases c<;>exact h
  have:=Eu.congr r (k+1) o n us as (λb j h1 h2=>hp b j (by omega) (by simp;omega)) h.2
  cases c<;>exact ⟨h.1,this⟩
theorem qg: ∀(A B:List (Nat×OB)) (l:Nat),At (A++B) l=match At A l with|some b=>some b|none=>At B l
 | [],B,l=>rfl
 |(k,b)::A,B,l=>by
  simp only [Qc,At]
  split
  ·rfl
  ·exact qg A B l
theorem tP {st:St} : ∀(cs:List CK) (as:List AC) (x:CKs.den cs) (ls:List Nat),Vy st cs as=some (x,ls)-> ∀l∈ls,∃b,At st.heap l=some b/\b.row≠none
 | [],[],x,ls,he=>by
  simp only [Vy,Aa,Ae] at he
  obtain ⟨_,rfl⟩:=he
  intro l hl;cases hl
 | [],_::_,_,_,he=>by simp [Vy] at he
 |_::_,[],_,_,he=>by simp [Vy] at he
 |c::r,a::as,x,ls,he=>by
  simp only [Vy] at he
  split at he
  ·rename_i x1 t1 x2 t2 h1 h2
   simp only [Aa,Ae] at he
   obtain ⟨_,rfl⟩:=he
   intro l hl
   rcases Az.1 hl with hl|hl
   ·unfold kG at h1
    split at h1
    ·split at h1
     ·cases hv:Dr st _ a with
      |none=>rw [hv] at h1;cases h1
      |some p=>rw [hv] at h1;simp only [Al,Aa,Ae] at h1;obtain ⟨_,rfl⟩:=h1;cases hl
     ·cases h1
    all_goals (repeat' split at h1)
    all_goals first|(cases h1;done)|skip
    all_goals (simp only [Aa,Ae] at h1;obtain ⟨_,rfl⟩:=h1)
    all_goals first|(cases hl;done)|skip
    all_goals (have hl:=Ad.1 hl;subst hl)
    all_goals (rename_i heq _;exact ⟨_,heq,by simp [OB.row]⟩)
   ·exact tP r as x2 t2 h2 l hl
  ·cases he
theorem qv {r r':Option Real} {sz off len:Nat} {v:Value} (h:bK r r') (hv:Ir r' sz off len v):Ir r sz off len v:=by
 cases r<;>cases r'<;>first|exact h.elim|skip
 ·exact hv
 ·obtain ⟨h1,h2,h3,_⟩:=h
  obtain ⟨ad,g1,g2,g3⟩:=hv
  exact ⟨ad,by rw [h3];exact g1,by rw [h3];exact g2,by rw [h1,h2,h3];exact g3⟩
theorem Zt {st:St} {π0:Pi} (hs: ∀k,At st.heap (Ea true k)≠none->bK ((π0 (Ea true k)).map full) (π (Ea true k))):
  ∀(cs:List (Bool×CK)) (k:Nat) (vs:List AC) (us:List Value) (bc:List AC) (o:IOs.den cs),Nn X w π st.heap vs us->Jy k cs vs=some bc->j4 st vs cs->Po st k cs=some o->
   ∃bv,Nn X w π st.heap bc bv/\bv.length=ub cs vs.length/\ ∀tl,Eu π0 k cs o vs.length us (bv++tl)
 |cs,k,[],us,bc,o,hr,he,_,_=>by
  have e1:us= []:=by cases us with|nil=>rfl|cons u us=>exact hr.elim
  have e2:bc= []:=by rcases cs with _|⟨⟨_|_,c⟩,r⟩<;>simpa [Jy] using he.symm
  subst e1;subst e2
  refine ⟨[],trivial,?_,λtl=>?_⟩
  ·rcases cs with _|⟨⟨_|_,c⟩,r⟩<;>rfl
  ·rcases cs with _|⟨⟨_|_,c⟩,r⟩<;>(try cases c)<;>simp [Eu]
 | [],k,a::vs,us,bc,o,hr,he,_,_=>by simp [Jy] at he
 |p::r,k,a::vs,[],bc,o,hr,_,_,_=>hr.elim
 |(false,c)::r,k,a::vs,u::us,bc,o,hr,he,hk,ho=>by
  have he:(Jy (k+1) r vs).map (λl=>a::l)=some bc:=by cases a<;>exact he
  cases hb:Jy (k+1) r vs with
  |none=>rw [hb] at he;cases he
  |some bc'=>
   rw [hb] at he
   simp only [Al,Aa] at he;subst he
   obtain ⟨bv,g1,g2,g3⟩:=Zt hs r (k+1) vs us bc' o hr.2 hb (by cases a<;>exact hk) (by cases c<;>simpa only [Po] using ho)
   refine ⟨u::bv,⟨hr.1,g1⟩,by simp [ub,g2],λtl=>?_⟩
   have:=g3 tl
   cases c<;>exact ⟨rfl,this⟩
 |(true,c)::r,k,a::vs,u::us,bc,o,hr,he,hk,ho=>by
  cases c with
  |Ft τ=>cases a<;>simp [Jy] at he
  |part e te=>cases a<;>simp [Jy] at he
  |Bp e te kp=>cases a<;>simp [Jy] at he
  |row e te=>
   cases a<;>first|(simp [Jy] at he;done)|skip
   rename_i l off len
   simp only [Jy] at he
   split at he
   rotate_left
   ·cases he
   rename_i hl
   have hl:l=Ea true k:=Kg hl
   subst hl
   obtain ⟨⟨rfl,hlen⟩,hk⟩:=hk
   obtain ⟨b,sz,n,h1,h2,h3,h4⟩:=hr.1
   have XS:=hs k (by rw [h1];simp)
   simp only [Po] at ho
   split at ho
   ·rename_i x1 x2 q1 q2
    simp only [Aa] at ho;subst ho
    obtain ⟨bv,g1,g2,g3⟩:=Zt hs r (k+1) vs us bc x2 hr.2 he hk q2
    refine ⟨bv,g1,by simpa [ub] using g2,λtl=>?_⟩
    refine ⟨?_,g3 tl⟩
    simp only [pW] at q1
    split at q1
    ·rename_i fr tr e' Sj xs Mb
     split at q1
     ·rename_i hc
      obtain ⟨rfl,rfl⟩:=hc
      simp only [Aa] at q1;subst q1
      unfold St.at at Mb hlen
      rw [Mb] at hlen
      rw [h1] at Mb;cases Mb
      simp only [OB.row,Aa,Ae] at h2
      obtain ⟨rfl,rfl⟩:=h2
      have hlen:len=List.length xs:=hlen
      have:=qv XS h4
      rw [hlen] at this
      have e0:(π0 (Ea true k)).map full=(π0 (Ea true k)).map full:=rfl
      cases hp:π0 (Ea true k)<;>(rw [hp] at this;exact this)
     ·cases q1
    ·cases q1
   ·cases ho
  |Ii e te=>
   cases a<;>first|(simp [Jy] at he;done)|skip
   rename_i l off len
   simp only [Jy] at he
   split at he
   rotate_left
   ·cases he
   rename_i hl
   have hl:l=Ea true k:=Kg hl
   subst hl
   obtain ⟨⟨rfl,hlen⟩,hk⟩:=hk
   obtain ⟨b,sz,n,h1,h2,h3,h4⟩:=hr.1
   have XS:=hs k (by rw [h1];simp)
   simp only [Po] at ho
   split at ho
   ·rename_i x1 x2 q1 q2
    simp only [Aa] at ho;subst ho
    obtain ⟨bv,g1,g2,g3⟩:=Zt hs r (k+1) vs us bc x2 hr.2 he hk q2
    refine ⟨bv,g1,by simpa [ub] using g2,λtl=>?_⟩
    refine ⟨?_,g3 tl⟩
    simp only [pW] at q1
    split at q1
    ·rename_i e' Sj xs Mb
     split at q1
     ·rename_i hc
      obtain ⟨rfl,rfl⟩:=hc
      simp only [Aa] at q1;subst q1
      unfold St.at at Mb hlen
      rw [Mb] at hlen
      rw [h1] at Mb;cases Mb
      simp only [OB.row,Aa,Ae] at h2
      obtain ⟨rfl,rfl⟩:=h2
      have hlen:len=List.length xs:=hlen
      have:=qv XS h4
      rw [hlen] at this
      cases hp:π0 (Ea true k)<;>(rw [hp] at this;exact this)
     ·cases q1
    ·cases q1
   ·cases ho
def Anq (s:MSpec) (g:Nat) (π:Pi):Pi:= λl=>if s.ptr.isSome=true/\l=Pz then some ⟨g,0,0,λb=>b=g,λb=>b=g⟩ else π l
def Ajv (P:Program) (s:MSpec) (fn:Func) (x:Ins.den s.ins) (w:World) (S:Nat->Prop) (π:Pi) (g:Nat) (r:CKs.den s.outs) (o:IOs.den s.ins) (a':Act) (w':World):Prop:=
 ∃(v:Value) (Xx:List Value) (ρ:Pi),a'.defers= []/\(results fn a'.tmps).run P w'= .ok v w'/\si s w' ρ (Xx.drop s.aQ) v/\lH s π w' g Xx o/\Li w.heap.size (λb=>Wo π b\/s.gv g b) w w'/\Mt w' (kz S π ρ) π 0 s.ins o/\Jw w' (kz S π ρ) ρ 0 s.outs r Xx/\
  im ρ (λb=>b<w'.heap.size/\(w.heap.size<=b\/ ∃l q,l<Bk/\π l=some q/\q.Cq b))/\(∀l,(∀k,k<s.Vn->l≠Kx k)->ρ l=none)/\(∀kj∈s.keeps,BM w w' (π (Ea false kj.1)) (ρ (Kx kj.2)) (s.Fw x))
theorem Jw.WI {D:Nat->Prop} {ρ ρ':Pi} : ∀(cs:List CK) (k:Nat) (x:CKs.den cs) (us:List Value),(∀j,k<=j->j<k+cs.length->ρ' (Kx j)=ρ (Kx j))->Jw w D ρ k cs x us->Jw w D ρ' k cs x us
 | [],_,_,[],_,h=>h
 | [],_,_,_::_,_,h=>h.elim
 |_::_,_,_,[],_,h=>h.elim
 |c::r,k,x,u::us,he,h=>⟨by rw [he k (Ap _) (by simp)];exact h.1,Jw.WI r (k+1) x.2 us (λj hj hl=>he j (by omega) (by simp;omega)) h.2⟩
theorem xl {st:St} {n:Nat} {as:List AC} : ∀ {ks:List (Nat×Nat)},xk st n as ks-> ∀kj∈ks,∃l off len e te rows out p,as[kj.2]?=some (.own l off len)/\At st.heap l=some (.Bp e te rows out (some p))/\p.1=Ea false kj.1/\n<=p.2/\kj.1<1000
 | [],_,kj,hm=>by cases hm
 |(k,j)::r,h,kj,hm=>by
  simp only [xk] at h
  rcases Bd.1 hm with rfl|hm
  ·obtain ⟨h,_⟩:=h
   split at h
   ·rename_i l off len he
    split at h
    ·rename_i e te rows out p hl
     unfold St.at at hl
     exact ⟨l,off,len,e,te,rows,out,p,he,hl,h.1,h.2.1,by simpa using h.2.2⟩
    ·exact h.elim
   ·exact h.elim
  ·exact xl h.2 kj hm
theorem xz {st:St} : ∀(cs:List CK) (as:List AC) (x:CKs.den cs) (ls:List Nat),Vy st cs as=some (x,ls)->as.length=cs.length
 | [],[],_,_,_=>rfl
 | [],_::_,_,_,he=>by simp [Vy] at he
 |_::_,[],_,_,he=>by simp [Vy] at he
 |c::r,a::as,x,ls,he=>by
  simp only [Vy] at he
  split at he
  ·rename_i h1 h2
   simp only [Ay,xz r as _ _ h2]
  ·cases he
theorem GG {α β:Type} (f:α->Sem β): ∀(l:List α) (vs:List β),vs.length=l.length->(∀(i:Nat) a v,l[i]?=some a->vs[i]?=some v->(f a).run P w= .ok v w)->(l.mapM f).run P w= .ok vs w
 | [],[],_,_=>by simp
 | [],_::_,h,_=>by simp at h
 |_::_,[],h,_=>by simp at h
 |a::l,v::vs,h,hr=>by
  rw [List.mapM_cons]
  simp only [Sem.run_bind,hr 0 a v rfl rfl,Result.andThen_ok,GG f l vs (by simpa using h) (λi a' v' ha hv=>hr (i+1) a' v' (by simpa using ha) (by simpa using hv)),Sem.run_pure]
theorem vu (hT:Eg P T) (Pu:Lj P Γ) (hm:P.follows .mixedOrders=true) {f:FuncId} {fn:Func} (hf:P.funcs[f]?=some fn) (s:MSpec) (w:World) (S:Nat->Prop) (π:Pi) (us:List Value) (x:Ins.den s.ins)
  (r:CKs.den s.outs) (o:IOs.den s.ins) (g:Nat) (mP:List Value) (Sa:oI s w g us mP) (hSg:s.ptr.isSome=true->S g) (aL:eW w (λb=>Wo π b\/S b) π 0 s.ins x us) (jV:im π (λb=>b<w.heap.size)) (hS: ∀b,S b->b<w.heap.size/\ ¬Wo π b) (WX: ∀l,At (ab 0 s.ins x) l=none->π l=none) (he:Ae9 T Γ s fn x λz=>z=(r,o)):
  Calls P f mP.toArray w λe w'=> ∃v Xx ρ,e= .returned v/\si s w' ρ (Xx.drop s.aQ) v/\lH s π w' g Xx o/\Li w.heap.size (λb=>Wo π b\/s.gv g b) w w'/\Mt w' (kz S π ρ) π 0 s.ins o/\Jw w' (kz S π ρ) ρ 0 s.outs r Xx/\
   im ρ (λb=>b<w'.heap.size/\(w.heap.size<=b\/ ∃l q,l<Bk/\π l=some q/\q.Cq b))/\(∀l,(∀k,k<s.Vn->l≠Kx k)->ρ l=none)/\(∀kj∈s.keeps,BM w w' (π (Ea false kj.1)) (ρ (Kx kj.2)) (s.Fw x)):=by
 obtain ⟨hlen,c,hb,he⟩:=he
 simp only [Af,Nt] at hlen
 obtain ⟨hlen,XB⟩:=hlen
 unfold zD at XB
 simp only [Af] at XB
 have Al7:=XB.1
 let qR:Pi:=Anq s g π
 let Sg:Nat->Prop:= λb=>S b/\ ¬s.gv g b
 have hvl: ∀b j,j<1000->Ea b j≠Pz:= λb j hj=>by cases b<;>(unfold Ea Pz;simp;omega)
 have yQ: ∀b j,0<=j->j<0+s.ins.length->qR (Ea b j)=π (Ea b j):= λb j _ hj=>Aj λh=>hvl b j (by omega) h.2
 have Af2: ∀b j,0<=j->j<0+s.ins.length->π (Ea b j)=qR (Ea b j):= λb j h1 h2=>(yQ b j h1 h2).symm
 have Ahh:At (ab 0 s.ins x) Pz=none:=Bo λhn=>by
  obtain ⟨b,j,_,h2,h3⟩:=tf s.ins 0 x Pz hn
  exact hvl b j (by omega) h3.symm
 have UP: ∀l q,qR l=some q->(π l=some q/\(s.ptr.isSome=true->l≠Pz))\/(s.ptr.isSome=true/\l=Pz/\q=⟨g,0,0,λb=>b=g,λb=>b=g⟩):= λl q hq=>by
  have hq:(if s.ptr.isSome=true/\l=Pz then some ⟨g,0,0,λb=>b=g,λb=>b=g⟩ else π l)=some q:=hq
  split at hq
  ·rename_i hc;exact .inr ⟨hc.1,hc.2,(Bc hq).symm⟩
  ·rename_i hc;exact .inl ⟨hq,λh1 h2=>hc ⟨h1,h2⟩⟩
 have ew: ∀b,Wo qR b↔Wo π b\/s.gv g b:= λb=>by
  constructor
  ·rintro ⟨l,q,h1,h2⟩
   rcases UP l q h1 with ⟨h3,_⟩|⟨h3,h4,rfl⟩
   ·exact .inl ⟨l,q,h3,h2⟩
   ·exact .inr ⟨h3,h2⟩
  ·rintro (⟨l,q,h1,h2⟩|⟨h1,rfl⟩)
   ·refine ⟨l,q,?_,h2⟩
    show (if s.ptr.isSome=true/\l=Pz then _ else π l)=some q
    rw [Aj]
    ·exact h1
    ·rintro ⟨_,rfl⟩
     rw [WX Pz Ahh] at h1;cases h1
   ·exact ⟨Pz,⟨b,0,0,λc=>c=b,λc=>c=b⟩,Ab ⟨h1,rfl⟩,rfl⟩
 have hgS: ∀b,s.gv g b->S b:= λb ⟨h1,h2⟩=>h2▸hSg h1
 have Agu:eW w (λb=>Wo qR b\/Sg b) qR 0 s.ins x us:=eW.congr s.ins 0 x us yQ (eW.Jn (λb hb=>by
  rcases hb with hb|hb
  ·rcases (ew b).1 hb with hb|hb
   ·exact .inl hb
   ·exact .inr (hgS b hb)
  ·exact .inr hb.1) s.ins 0 x us aL)
 have Ald:im qR (λb=>b<w.heap.size):=⟨λl q b h1 h2=>by
  rcases UP l q h1 with ⟨h3,_⟩|⟨h3,h4,rfl⟩
  ·exact jV.aw l q b h3 h2
  ·exact (hS b (hgS b ⟨h3,h2⟩)).1,λl l' q q' b h1 h2 h3 h4=>by
  rcases UP l q h1 with ⟨h5,_⟩|⟨h5,h6,rfl⟩<;>rcases UP l' q' h2 with ⟨h7,_⟩|⟨h7,h8,rfl⟩
  ·exact jV.inj l l' q q' b h5 h7 h3 h4
  ·exact absurd ⟨l,q,h5,h3⟩ (hS b (hgS b ⟨h7,h4⟩)).2
  ·exact absurd ⟨l',q',h7,h4⟩ (hS b (hgS b ⟨h5,h3⟩)).2
  ·rw [h6,h8]⟩
 have Apx: ∀b,Sg b->b<w.heap.size/\ ¬Wo qR b:= λb hb=>⟨(hS b hb.1).1,λho=>((ew b).1 ho).elim (hS b hb.1).2 hb.2⟩
 have OY: ∀l,At (qh s x) l=match At (ab 0 s.ins x) l with|some b=>some b|none=>if l=Pz then s.ptr.map λp=> .var p.1 ((c6 0 s.ins x).take p.2) else none:= λl=>by
  unfold qh
  cases hp:s.ptr with
  |none=>cases At (ab 0 s.ins x) l<;>simp
  |some p=>
   simp only
   rw [qg]
   cases At (ab 0 s.ins x) l with
   |some b=>rfl
   |none=>
    simp only [At,Al]
    by_cases e:l=Pz
    ·rw [Ab e,Ab e.symm]
    ·rw [Aj e,Aj (λh=>e h.symm)]
 let π0:Pi:= λl=>(qR l).map full
 have un: ∀l q,π0 l=some q-> ∃q0,qR l=some q0/\q=full q0:= λl q hq=>by
  have hq:(qR l).map full=some q:=hq
  cases hp:qR l with
  |none=>rw [hp] at hq;cases hq
  |some q0=>rw [hp] at hq;exact ⟨q0,rfl,(Bc hq).symm⟩
 have XF: ∀l b,At (ab 0 s.ins x) l=some b->At (qh s x) l=some b:= λl b hb=>by rw [OY l,hb]
 have hrc:Nn ⟨w,Sg,Wo qR,π0⟩ w π0 (qh s x) (c6 0 s.ins x) us:=DS (λ_=>rfl) s.ins 0 x us (by omega) Agu XF
 have XY:s.ptr.isSome=true->π0 Pz=some ⟨g,0,0,λb=>b=g,λb=>b=g⟩:= λhp=>by
  show (if s.ptr.isSome=true/\Pz=Pz then _ else π Pz).map full=_
  rw [Ab ⟨hp,rfl⟩];rfl
 obtain ⟨g1,g2⟩:(aN s (c6 0 s.ins x)).length=mP.length/\ ∀(i:Nat) c v,(aN s (c6 0 s.ins x))[i]?=some c->mP[i]?=some v->Bl ⟨w,Sg,Wo qR,π0⟩ w π0 (qh s x) c v:=by
  unfold oI at Sa
  cases hp:s.ptr with
  |none=>
   rw [hp] at Sa
   obtain ⟨rfl,IE⟩:=Sa
   obtain ⟨g1,g2,_,_⟩:=ek s.Jl _ us IE hrc
   rw [show aN s (c6 0 s.ins x)=Uf s.Jl (c6 0 s.ins x) by unfold aN;rw [hp]]
   exact ⟨g1,g2⟩
  |some p=>
   rw [hp] at Sa
   obtain ⟨rfl,IE,_⟩:=Sa
   obtain ⟨g1,g2,_,_⟩:=ek s.Jl _ (us.drop p.2) IE (Nn.take p.2 hrc).2
   rw [show aN s (c6 0 s.ins x)= .at (.Hv Pz 0)::Uf s.Jl ((c6 0 s.ins x).drop p.2) by unfold aN;rw [hp]]
   refine ⟨by simp [g1],λi c v h1 h2=>?_⟩
   rcases i with _|i
   ·simp only [Bs,Aa] at h1 h2
    subst h1;subst h2
    exact ⟨_,p.1,(c6 0 s.ins x).take p.2,by rw [OY,Ahh];simp [hp],XY (by rw [hp];rfl),rfl⟩
   ·exact g2 i c v (by simpa using h1) (by simpa using h2)
 have h0:Rel ⟨w,Sg,Wo qR,π0⟩ {tmps:=aN s (c6 0 s.ins x)++List.replicate (fn.ntmps-(aN s (c6 0 s.ins x)).length) .undef,heap:=qh s x}
   {tmps:=mP.toArray++Array.replicate (fn.ntmps-mP.toArray.size) undef,defers:= []} w:=by
  refine ⟨π0,⟨Li.refl _ _ _,λb hb=>Apx b hb,λl q b h1 h2=>?_,λl q b h1 h2=>?_,λl l' q q' b h1 h2 h3 h4=>?_,λl _ _=>bK.rfl' _,λl=>?_⟩,⟨by simp [g1],rfl,λt=>?_⟩⟩
  ·obtain ⟨q0,_,rfl⟩:=un l q h1;exact h2
  ·obtain ⟨q0,h3,rfl⟩:=un l q h1
   exact ⟨.inr ⟨l,q0,h3,h2⟩,Ald.aw l q0 b h3 h2⟩
  ·obtain ⟨q0,h5,rfl⟩:=un l q h1
   obtain ⟨q0',h6,rfl⟩:=un l' q' h2
   exact Ald.inj l l' q0 q0' b h5 h6 h3 h4
  ·cases hh:At (ab 0 s.ins x) l with
   |none=>
    by_cases hv:s.ptr.isSome=true/\l=Pz
    ·obtain ⟨hps,rfl⟩:=hv
     obtain ⟨p,hp⟩:=Xv.1 hps
     refine Gq.Me (b:= .var p.1 ((c6 0 s.ins x).take p.2)) ?_ (by rw [OY,hh];simp [hp])
     unfold oI at Sa
     rw [hp] at Sa
     obtain ⟨_,_,h1,h2,h3⟩:=Sa
     rw [XY hps]
     exact ⟨_,rfl,rfl,_,h2,Nn.to (Nn.take p.2 hrc).1 h3⟩
    ·refine Gq.Vf ?_ ?_
     ·show (if s.ptr.isSome=true/\l=Pz then _ else π l).map full=none
      rw [Aj hv,WX l hh];rfl
     ·rw [OY,hh]
      simp only
      split
      ·rename_i e
       cases hp:s.ptr with
       |none=>rfl
       |some p=>exact absurd ⟨by rw [hp];rfl,e⟩ hv
      ·rfl
   |some b=>exact Gq.Me (m9 (π0:=qR) (λb hb=>by
    rcases hb with ⟨l,q,h1,h2⟩|hb|⟨hb,_⟩
    ·obtain ⟨q0,h3,rfl⟩:=un l q h1;exact .inl ⟨l,q0,h3,h2⟩
    ·exact .inr hb
    ·cases hb) rfl (λ_=>rfl) s.ins 0 x us Agu l b hh) (XF l b hh)
  ·show Bl _ w _ _ ((aN s (c6 0 s.ins x)++List.replicate _ AV.undef).getD t .undef) ((mP.toArray++Array.replicate _ undef).getD t undef)
   by_cases ht:t<mP.length
   ·rw [Ah,As (by omega),<-Ah]
    rw [cD,Uo (by simpa using ht)]
    have:=g2 t _ _ (Ac (by omega)) (Ac ht)
    simpa [Ah,Ac ht,Ac (show t<(aN s (c6 0 s.ins x)).length by omega)] using this
   ·have:(aN s (c6 0 s.ins x)++List.replicate (fn.ntmps-(aN s (c6 0 s.ins x)).length) AV.undef).getD t .undef= .undef:=by
     rw [Ah,Ar (by omega)]
     rw [Zq]
     split<;>rfl
    rw [this];trivial
 have fin: ∀(st:St) (a':Act) (w':World),VT T s fn x st (λz=>z=(r,o))->Rel ⟨w,Sg,Wo qR,π0⟩ st a' w'->Ajv P s fn x w S π g r o a' w':=by
  intro st a' w' ri hrel
  obtain ⟨cB,h'⟩:=hrel
  have Af8:Bk<=Pz:=by unfold Bk Pz;omega
  obtain ⟨bc,qf,Arv,hbc⟩: ∃bc,kl T s fn x st bc (λz=>z=(r,o))/\(s.ptr.isSome=true-> ∃b,At st.heap Pz=some b/\b.row=none)/\
    (Po st 0 s.ins=some o-> ∃bv,Nn ⟨w,Sg,Wo qR,π0⟩ w' cB st.heap bc bv/\bv.length=s.aQ/\ ∀tl,lH s π w' g (bv++tl) o):=by
   unfold VT at ri
   cases hp:s.ptr with
   |none=>
    rw [hp] at ri
    exact ⟨[],ri,λh=>by simp at h,λ_=>⟨[],trivial,by simp [MSpec.aQ,hp],λtl=>by simp [lH,hp]⟩⟩
   |some p=>
    rw [hp] at ri
    obtain ⟨vs,cs,h1,h2,h3,h4,h5⟩:=ri
    unfold St.at at h1
    refine ⟨cs,h5,λ_=>⟨_,h1,rfl⟩,λyO=>?_⟩
    obtain ⟨q,k1,k2,cur,k3,k4⟩:=(h'.1.heap Pz).Sn h1
    have hsv:bK (π0 Pz) (cB Pz):=h'.1.ic Pz Af8 (by rw [h1];simp)
    rw [XY (by rw [hp];rfl),k1] at hsv
    have hqg:g=q.g:=hsv.1
    obtain ⟨bv,g1,g2,g3⟩:=Zt (π0:=qR) (λk hk=>h'.1.ic _ (Nat.le_of_not_lt (bt k)) hk) s.ins 0 vs cur.toList cs o (Nn.of k4) h3 h4 yO
    refine ⟨bv,g1,by rw [g2,h2];simp [MSpec.aQ,hp],λtl=>?_⟩
    unfold lH
    rw [hp]
    refine ⟨cur.toList,by rw [hqg];simpa using k3,λu hu=>?_,Eu.congr s.ins 0 o p.2 _ _ Af2 (h2▸g3 tl)⟩
    obtain ⟨i,hi,rfl⟩:=Bf.1 hu
    have hl:=k4.1
    obtain ⟨u',h6,h7,_⟩:=k4.2 i (vs[i]'(by omega)) (Ac _)
    rw [Ac hi] at h6
    rw [Bc h6];exact h7
  unfold kl at qf
  split at qf
  ·exact qf.elim
  rename_i l hl
  split at qf
  ·exact qf.elim
  rename_i as ml gX
  split at qf
  rotate_left
  ·exact qf.elim
  rename_i r' ls o' JW qe
  obtain ⟨Kk,xd,XR⟩:=qf
  simp only [Af,Nt] at Kk
  obtain ⟨⟨⟨IC,Avq⟩,Atx⟩,Akz⟩:=Kk
  simp only [Ae] at XR
  obtain ⟨rfl,rfl⟩:=XR
  obtain ⟨bv,hbv,Aqb,Aq8⟩:=hbc qe
  have JU:=Zb IC
  obtain ⟨n1,n2,n3⟩:=Du.1 JU
  obtain ⟨m1,m2,m3⟩:=Du.1 n1
  obtain ⟨vs,v1,v2,v3,v4⟩:=Zd hT h' _ _ hl
  have hrs:fn.results=fn.results.toList.toArray:=Array.toArray_toList.symm
  have Wk: ∀v,(if h:vs.toArray.size=1 then vs.toArray[0] else .tuple vs.toArray)=v->(results fn a'.tmps).run P w'= .ok v w':=by
   intro v hv
   rw [fP,hrs,List.mapM_toArray]
   simp only [map_eq_pure_bind,bind_assoc,pure_bind]
   simp only [Sem.run_bind,GG (ME a'.tmps) _ vs v1 v3,Result.andThen_ok,Sem.run_pure]
   rw [hv]
  obtain ⟨wz,v,qm,Art,hv,hqm⟩: ∃wz v qm,Nn ⟨w,Sg,Wo qR,π0⟩ w' cB st.heap as wz/\(results fn a'.tmps).run P w'= .ok v w'/\
    ((s.rp=none/\ml= []/\qm=none/\ZZ s.Im s.Ip wz v/\dd s.Ip wz)\/
     ∃tid m q,s.rp=some tid/\ml= [m]/\m<Bk/\qm=some q/\cB m=some q/\q.Cq q.g/\w'.heap[q.g]?=some (.cells wz.toArray tid (0,0))/\(∀u∈wz,u.oneCell'=true)/\v= .pointer (some ⟨q.g,0,none⟩)):=by
   unfold MD at gX
   split at gX
   ·rename_i ID
    split at gX
    rotate_left
    ·cases gX
    rename_i hmul
    cases oH:ungroup s.Ip l with
    |none=>rw [oH] at gX;cases gX
    |some as'=>
     rw [oH] at gX
     simp only [Al,Aa,Ae] at gX
     obtain ⟨rfl,rfl⟩:=gX
     obtain ⟨wz,e1,e2,e3⟩:=ar s.Ip l vs as' (by omega) v4 oH
     have hv: ∃v,(results fn a'.tmps).run P w'= .ok v w'/\ZZ s.Im s.Ip wz v:=by
      unfold ZZ
      rw [<-e1,hmul]
      rcases Nat.lt_or_ge 1 l.length with h1|h1
      ·have hb1:Nat.blt 1 l.length=true:=by simpa using h1
       simp only [hb1,Qi]
       refine ⟨.tuple vs.toArray,Wk _ ?_,rfl⟩
       rw [dif_neg (by simp;omega)]
      ·have hb1:Nat.blt 1 l.length=false:=by rw [<-Hc];simpa using h1
       simp only [hb1,Cz,Sm]
       rcases vs with _|⟨v,_|⟨v',vs⟩⟩
       ·exact ⟨_,Wk _ (by simp;rfl), .inr rfl⟩
       ·exact ⟨v,Wk _ (by simp), .inl rfl⟩
       ·exfalso;simp only [Ay] at v1;omega
     obtain ⟨v,hv1,hv2⟩:=hv
     exact ⟨wz,v,none,e3,hv1, .inl ⟨ID,rfl,rfl,hv2,e2⟩⟩
   ·rename_i tid ID
    split at gX
    rotate_left
    ·cases gX
    rename_i m i
    split at gX
    rotate_left
    ·cases gX
    rename_i Vq vs' hm
    split at gX
    rotate_left
    ·cases gX
    rename_i hc
    obtain ⟨rfl,rfl,hmp⟩:=hc
    simp only [Aa,Ae] at gX
    obtain ⟨rfl,rfl⟩:=gX
    unfold St.at at hm
    rcases vs with _|⟨v,_|⟨v',vs⟩⟩
    ·exfalso;simp only [Ay,Fq] at v1 v2;omega
    ·obtain ⟨q,Axs,vs2,q1,q2,q3⟩:=v4 0 _ v rfl rfl
     rw [hm] at q1;cases q1
     obtain ⟨q',k1,k2,cur,k3,k4⟩:=(h'.1.heap m).Sn hm
     rw [q2] at k1;cases k1
     refine ⟨cur.toList,v,some q,Nn.of k4,Wk _ (by simp), .inr ⟨_,m,q,ID,rfl,by simpa using hmp,rfl,q2,k2,by simpa using k3,λu hu=>?_,q3⟩⟩
     obtain ⟨i,hi,rfl⟩:=Bf.1 hu
     have hl:=k4.1
     obtain ⟨u',h6,h7,_⟩:=k4.2 i (vs'[i]'(by omega)) (Ac _)
     rw [Ac hi] at h6
     rw [Bc h6];exact h7
    ·exfalso;simp only [Ay,Fq] at v1 v2;omega
  obtain ⟨BK,p1,p2,p3,p4,p5⟩:=xA h'.1 s.outs 0 (bc++as) (bv++wz) r' ls (hbv.append Art) JW m2
  obtain ⟨io1,io2⟩:=Vl (π0:=qR) h'.1 (λ_=>rfl) s.ins 0 x us o' Agu qe
  have Akn:(bv++wz).drop s.aQ=wz:=by rw [<-Aqb];simp
  let ρ:Pi:= λl0=>if l0=Kx s.outs.length then qm else BK l0
  have Ahm:ρ (Kx s.outs.length)=qm:=Ab rfl
  have Am7: ∀l0,l0≠Kx s.outs.length->ρ l0=BK l0:= λl0 h=>Aj h
  have Am6: ∀j,j<s.outs.length->ρ (Kx j)=BK (Kx j):= λj hj=>Am7 _ (by unfold Kx;omega)
  have uZ: ∀l0 q,ρ l0=some q->(l0=Kx s.outs.length/\qm=some q)\/(l0≠Kx s.outs.length/\BK l0=some q):= λl0 q h=>by
   by_cases e:l0=Kx s.outs.length
   ·subst e;rw [Ahm] at h;exact .inl ⟨rfl,h⟩
   ·rw [Am7 l0 e] at h;exact .inr ⟨e,h⟩
  have Ali: ∀q,qm=some q-> ∃m,ml= [m]/\m<Bk/\cB m=some q:= λq hq=>by
   rcases hqm with ⟨_,_,h1,_⟩|⟨_,m,q',_,h1,h2,h3,h4,_⟩
   ·rw [h1] at hq;cases hq
   ·rw [h3] at hq;cases hq;exact ⟨m,h1,h2,h4⟩
  have p3': ∀l0 q b,ρ l0=some q->q.Cq b-> ∃l1∈ml++ls,∃p,cB l1=some p/\p.cl b/\((s.outs.all λc=>!c.isX)=true->p.Cq b)/\((l1∈ls)\/l1<Bk):= λl0 q b h1 h2=>by
   rcases uZ l0 q h1 with ⟨_,h3⟩|⟨_,h3⟩
   ·obtain ⟨m,e1,e2,e3⟩:=Ali q h3
    exact ⟨m,by rw [e1];simp,q,e3,h'.1.sub m q b e3 h2,λ_=>h2, .inr e2⟩
   ·obtain ⟨l1,g1,p,g2,g3,g4⟩:=p3 l0 q b h3 h2
    exact ⟨l1,Cf _ g1,p,g2,g3,g4, .inl g1⟩
  have p4': ∀l0 l1 q q' b,ρ l0=some q->ρ l1=some q'->q.Cq b->q'.Cq b->l0=l1:= λl0 l1 q q' b h1 h2 h3 h4=>by
   have CN: ∀l0 q q' b,BK l0=some q->qm=some q'->q.Cq b->q'.Cq b->False:= λl0 q q' b h1 h2 h3 h4=>by
    obtain ⟨m,e1,e2,e3⟩:=Ali q' h2
    obtain ⟨l1,g1,p,g2,g3,_⟩:=p3 l0 q b h1 h3
    have:=h'.1.inj m l1 q' p b e3 g2 (h'.1.sub m q' b e3 h4) g3
    exact m3 m (by rw [e1];simp) l1 g1 this
   rcases uZ l0 q h1 with ⟨e1,h5⟩|⟨e1,h5⟩<;>rcases uZ l1 q' h2 with ⟨e2,h6⟩|⟨e2,h6⟩
   ·rw [e1,e2]
   ·exact (CN l1 q' q b h6 h5 h4 h3).elim
   ·exact (CN l0 q q' b h5 h6 h3 h4).elim
   ·exact p4 l0 l1 q q' b h5 h6 h3 h4
  have PI: ∀l0 q,Bk<=l0->qR l0=some q->At st.heap l0≠none/\(l0∈Qs 0 s.ins\/ ∃b,At st.heap l0=some b/\b.row=none):= λl0 q h1 h2=>by
   rcases UP l0 q h2 with ⟨h3,_⟩|⟨h3,rfl,_⟩
   ·have yO:=xg s.ins 0 x l0 Al7 (by omega) (λhnn=>by rw [WX l0 hnn] at h3;cases h3) (by omega)
    exact ⟨io2 l0 yO, .inl yO⟩
   ·obtain ⟨b,h4,h5⟩:=Arv h3
    exact ⟨by rw [h4];simp, .inr ⟨b,h4,h5⟩⟩
  have hDO:(s.outs.all λc=>!c.isX)=true-> ∀b,kz Sg qR ρ b->Wo cB b\/Sg b:=by
   intro hx b hb
   rcases hb with hb|⟨l0,q,h1,h2,h3⟩|⟨l0,q,h1,h2⟩
   ·exact .inr hb
   ·have hs:=h'.1.ic l0 h1 (PI l0 q h1 h2).1
    have hs:bK ((qR l0).map full) (cB l0):=hs
    rw [h2] at hs
    cases tb:cB l0 with
    |none=>rw [tb] at hs;exact hs.elim
    |some q1=>rw [tb] at hs;exact .inl ⟨l0,q1,tb,(hs.2.2.2 b).1 h3⟩
   ·obtain ⟨m,_,p,hm2,_,hm4,_⟩:=p3' l0 q b h1 h2
    exact .inl ⟨m,p,hm2,hm4 hx⟩
  have hDD: ∀b,kz S π ρ b->kz Sg qR ρ b:= λb hb=>by
   rcases hb with hb|⟨l0,q,h1,h2,h3⟩|hb
   ·by_cases VK:s.gv g b
    ·obtain ⟨hps,rfl⟩:=VK
     exact .inr (.inl ⟨Pz,_,Af8,Ab ⟨hps,rfl⟩,rfl⟩)
    ·exact .inl ⟨hb,VK⟩
   ·refine .inr (.inl ⟨l0,q,h1,?_,h3⟩)
    show (if s.ptr.isSome=true/\l0=Pz then _ else π l0)=some q
    rw [Aj]
    ·exact h2
    ·rintro ⟨_,rfl⟩
     rw [WX Pz Ahh] at h2;cases h2
   ·exact .inr (.inr hb)
  have hfl:s.flat=true\/(s.outs.all λc=>!c.isX)=true:=by unfold MSpec.YV at Akz;simpa only [Mh] using Akz
  have io1:Mt w' (kz S π ρ) π 0 s.ins o':=by
   refine Mt.congr s.ins 0 o' Af2 ?_
   rcases hfl with hf|hf
   ·unfold MSpec.flat at hf
    simp only [Af] at hf
    exact Mt.any s.ins 0 o' hf.2 io1
   ·exact Mt.Jn (λb hb=>hDO hf b (hDD b hb)) s.ins 0 o' io1
  have p1:Jw w' (kz S π ρ) ρ 0 s.outs r' (bv++wz):=by
   have p1:Jw w' (λb=>Wo cB b\/Sg b) ρ 0 s.outs r' (bv++wz):=Jw.WI s.outs 0 r' _ (λj _ hj=>Am6 j (by omega)) p1
   rcases hfl with hf|hf
   ·unfold MSpec.flat at hf
    simp only [Af] at hf
    exact Jw.any s.outs 0 r' (bv++wz) hf.1 p1
   ·exact Jw.Jn (λb hb=>hDO hf b (hDD b hb)) s.outs 0 r' (bv++wz) p1
  refine ⟨v,bv++wz,ρ,h'.2.defers,hv,?_,Aq8 wz,⟨h'.1.below.os,h'.1.below.tape,h'.1.below.output,h'.1.below.size,λk hk hn=>h'.1.below.block k hk λho=>hn ((ew k).1 ho)⟩,io1,p1,⟨λl0 q b h1 h2=>?_,p4'⟩,λl0 hl0=>?_,λkj VM=>?_⟩
  ·rw [Akn]
   unfold si
   rcases hqm with ⟨h1,_,_,h2⟩|⟨tid,m,q,h1,_,_,h3,_,h4,h5,h6,h7⟩
   ·rw [h1];exact h2
   ·rw [h1];exact ⟨q,by rw [Ahm,h3],h4,h5,h6,h7⟩
  ·obtain ⟨m,hm1,p,hm2,hm3,_,hm4⟩:=p3' l0 q b h1 h2
   obtain ⟨k1,k2⟩:=h'.1.place m p b hm2 hm3
   refine ⟨k2,k1.imp id λ⟨c0,q0,h5,h6⟩=>?_⟩
   have Lq:c0<Bk:=Bo λhn=>by
    obtain ⟨Jd,yO⟩:=PI c0 q0 (by omega) h5
    have hs:=h'.1.ic c0 (by omega) Jd
    have hs:bK ((qR c0).map full) (cB c0):=hs
    rw [h5] at hs
    cases tb:cB c0 with
    |none=>rw [tb] at hs;exact hs.elim
    |some q1=>
     rw [tb] at hs
     have hf1:q1.Cq b:=(hs.2.2.2 b).1 h6
     have:=h'.1.inj c0 m q1 p b tb hm2 (h'.1.sub c0 q1 b tb hf1) hm3
     subst this
     rcases hm4 with hm4|hm4
     ·rcases yO with yO|⟨b1,hb1,hb2⟩
      ·exact n3 c0 hm1 c0 yO rfl
      ·obtain ⟨b2,hb3,hb4⟩:=tP s.outs _ _ _ JW c0 hm4
       rw [hb1] at hb3;cases hb3
       exact hb4 hb2
     ·exact hn hm4
   refine ⟨c0,q0,Lq,?_,h6⟩
   rcases UP c0 q0 h5 with ⟨h7,_⟩|⟨_,h7,_⟩
   ·exact h7
   ·omega
  ·cases hp:ρ l0 with
   |none=>rfl
   |some q=>
    rcases uZ l0 q hp with ⟨e,h3⟩|⟨_,h3⟩
    ·refine absurd e (hl0 _ ?_)
     rcases hqm with ⟨_,_,h4,_⟩|⟨tid,m,q',h4,_⟩
     ·rw [h4] at h3;cases h3
     ·unfold MSpec.Vn;rw [h4];simp
    ·obtain ⟨j,_,j2,j3⟩:=p2 l0 q h3
     exact absurd j3 (hl0 j (by unfold MSpec.Vn;omega))
  ·obtain ⟨l0,off,len,e,te,rows,out,p,q1,q2,q3,q4,q5⟩:=xl xd kj VM
   have hj:kj.2<s.outs.length:=by
    rw [<-xz s.outs _ _ _ JW]
    exact (Am.1 q1).1
   have e1:=p5 kj.2 l0 off len e te rows out (some p) q1 q2
   rw [Bu] at e1
   rw [Am6 _ hj,e1]
   have hk:=((h'.1.heap l0).Sn q2).2
   obtain ⟨l1,n1⟩:=p
   simp only [KeptAt] at hk
   dsimp only at q3 q4
   subst q3
   have RU:π0 (Ea false kj.1)=(π (Ea false kj.1)).map full:=by
    show (if s.ptr.isSome=true/\Ea false kj.1=Pz then _ else π (Ea false kj.1)).map full=_
    rw [Aj λh=>hvl false kj.1 q5 h.2]
   rw [RU] at hk
   unfold BM
   cases hp:π (Ea false kj.1) with
   |none=>
    rw [hp] at hk
    cases tb:cB l0 with
    |none=>trivial
    |some q=>rw [tb] at hk;exact hk.elim
   |some q0=>
    rw [hp] at hk
    cases tb:cB l0 with
    |none=>rw [tb] at hk;exact hk.elim
    |some q=>
     rw [tb] at hk
     obtain ⟨k1,k2,k3,k4⟩:=hk
     exact ⟨k1,k2,k3,λj hj hc=>k4 j (by omega) hc⟩
 refine calls_of_wp hf hb ?_
 refine (uf hT Pu hm he _ w _ h0 λe st a' w' ⟨Jd,ri⟩ h'=>?_).1
 obtain ⟨v,Xx,ρ,p1,p2,p3⟩:=fin st a' w' ri h'
 cases e with
 |normal=>exact ⟨p1,v,p2,v,Xx,ρ,rfl,p3⟩
 |ret=>exact ⟨p1,v,p2,v,Xx,ρ,rfl,p3⟩
 |exit id=>exact absurd rfl (Jd id)
end
end Go.Proofs.YtkkdpknjohcekaaGreat
