/-
  Part 27 of the proof that the statement FnExactSolutionsAtDepth holds.
-/
import Derived.Test.YtfolipnappekaaaGreatCSolutionsAtDepth25
namespace Go.Proofs.YtfolipnappekaaaGreat
open Go.RowKit
section
variable {P:Program} {T:Tab} {Γ:Env} {X:Ctx} {w w':World} {π:Pi} {H:List (Nat×OB)}
theorem pT: ∀(cs:List (Bool×CK)) (k:Nat) (x:Ins.den cs) (l:Nat),Ad (Uh k cs x) l≠none-> ∃b j,k<=j/\j<k+cs.length/\l=Bu b j
 | [],_,_,_,h=>absurd rfl h
 |p::r,k,x,l,h=>by
  simp only [Uh] at h
  by_cases e:l=Bu p.1 k
  ·exact ⟨p.1,k,Nat.le_refl _,by simp,e⟩
  ·have:Ad (Uh (k+1) r x.2) l≠none:=by
    cases hc:fX (Bu p.1 k) p.2 x.1 with
    |none=>rw [hc] at h;exact h
    |some b=>rw [hc] at h;simpa only [dm,Ad,if_neg (Ne.symm e)] using h
   obtain ⟨b,j,h1,h2,h3⟩:=pT r (k+1) x.2 l this
   exact ⟨b,j,by omega,by simp;omega,h3⟩
theorem MA {p:Bool×CK} {r:List (Bool×CK)} {k:Nat} {x:Ins.den (p::r)} (hk:k+(r.length+1)<100000) {l:Nat} {b:OB} (h:Ad (Uh (k+1) r x.2) l=some b):Ad (Uh k (p::r) x) l=some b:=by
 obtain ⟨b',j,h1,h2,rfl⟩:=pT r (k+1) x.2 l (by rw [h];simp)
 simp only [Uh]
 cases fX (Bu p.1 k) p.2 x.1 with
 |none=>exact h
 |some c=>simp only [dm,Ad];rw [if_neg (KF (by omega) (by omega) (by omega))];exact h
theorem QJ {D:Nat->Prop} (hD: ∀b,Bj X.w0.heap.size X.Sc π false b->D b) (hw0:X.w0=w) {l:Nat} {r:Option Real} (Uz:X.cW l=r.map full) {u:Value} {c:CK} {x:c.den} (h:bg w D r u c x) {b:OB} (hb:fX l c x=some b):Av X w π H (r.map full) b:=by
 have Ue: ∀ {e:Ty} {es:List Value} {y:e.den},Cells w D e es y->Cells w (Bj X.w0.heap.size X.Sc π false) e es y:= λ {e es y} h=>Cells.Cn (Nat.le_refl _) (λ_ _ _=>rfl) (λb _ hb=>hD b hb) e es y h
 cases c with
 |Dn τ=>cases hb
 |row e te=>
  simp only [fX,Option.some.injEq] at hb;subst hb
  obtain ⟨_,h⟩:=h
  simp only [ck] at h
  simp only [Av,Fu]
  cases r with
  |none=>exact h
  |some q=>
   obtain ⟨k1,cu,ti,k2,k3,k4,k5,k6⟩:=h
   exact ⟨⟨k1.1,k1.2,λh=>by cases h⟩,cu,ti,k2,k3,k4,k5,λi y hy=>by
    obtain ⟨es,g1,g2,g3⟩:=k6 i y hy
    exact ⟨es,g1,g2,Ue g3⟩,λh=>by cases h⟩
 |Dv e te=>
  simp only [fX,Option.some.injEq] at hb;subst hb
  cases r<;>exact h.2
 |part e te=>
  simp only [fX,Option.some.injEq] at hb;subst hb
  obtain ⟨_,hf,h⟩:=h
  simp only [Av,Fu]
  cases r with
  |none=>exact h
  |some q=>
   obtain ⟨k1,cu,ti,k2,k3,k4,k5,k6⟩:=h
   exact ⟨⟨k1.1,k1.2,λh=>by cases h⟩,cu,ti,k2,k3,k4,k5,λi y hy=>by
    obtain ⟨es,g1,g2,g3⟩:=k6 i y hy
    exact ⟨es,g1,g2,Ue g3⟩,λh=>by cases h⟩
 |Al e te kp=>
  simp only [fX,Option.some.injEq] at hb;subst hb
  have h2:Vi w D r e x none:=h.2
  have h3:=Vi.En h2 hD
  refine ⟨by cases r<;>exact h3,?_⟩
  cases kp with
  |false=>trivial
  |true=>
   simp only [if_true,KeptAt]
   rw [Uz]
   cases r with
   |none=>trivial
   |some q=>exact ⟨rfl,rfl,rfl,λj _ _=>by rw [hw0]⟩
theorem iI {D:Nat->Prop} (hD: ∀b,Bj X.w0.heap.size X.Sc π false b->D b) (hw0:X.w0=w) {π0:Pi} (Uz: ∀l,X.cW l=(π0 l).map full): ∀(cs:List (Bool×CK)) (k:Nat) (x:Ins.den cs) (us:List Value),bh w D π0 k cs x us-> ∀l b,Ad (Uh k cs x) l=some b->Av X w π H ((π0 l).map full) b
 | [],_,_,_,_,_,_,h=>by cases h
 |_::_,_,_,[],h,_,_,_=>h.elim
 |p::r,k,x,u::us,h,l,b,hb=>by
  simp only [Uh] at hb
  cases hc:fX (Bu p.1 k) p.2 x.1 with
  |none=>rw [hc] at hb;exact iI hD hw0 Uz r (k+1) x.2 us h.2 l b hb
  |some c=>
   rw [hc] at hb
   simp only [dm,Ad] at hb
   split at hb
   ·rename_i e;subst e
    simp only [Option.some.injEq] at hb;subst hb
    exact QJ hD hw0 (Uz _) h.1 hc
   ·exact iI hD hw0 Uz r (k+1) x.2 us h.2 l b hb
theorem zd {S:Nat->Prop} {π0:Pi} {gv:Nat->Prop} {cW:Pi} (aG: ∀l,π l=(π0 l).map full): ∀(cs:List (Bool×CK)) (k:Nat) (x:Ins.den cs) (us:List Value),k+cs.length<100000->bh w (λb=>Qi π0 b\/S b) π0 k cs x us->(∀l b,Ad (Uh k cs x) l=some b->Ad H l=some b)->
  Io ⟨w,S,gv,cW⟩ w π H (Xj k cs x) us
 | [],_,_,[],_,_,_=>trivial
 | [],_,_,_::_,_,h,_=>h.elim
 |_::_,_,_,[],_,h,_=>h.elim
 |p::r,k,x,u::us,hk,h,hH=>by
  simp only [List.length_cons] at hk
  refine ⟨?_,zd aG r (k+1) x.2 us (by omega) h.2 λl b hb=>hH l b (MA hk hb)⟩
  have h1:=h.1
  have hh: ∀b,fX (Bu p.1 k) p.2 x.1=some b->Ad H (Bu p.1 k)=some b:= λb hb=>hH _ b (by simp only [Uh];rw [hb];simp [dm,Ad])
  have fo:=aG (Bu p.1 k)
  obtain ⟨io,c⟩:=p
  dsimp only at h1 hh fo⊢
  generalize x.1=y at*
  cases c with
  |Dn τ=>
   show Bc w _ τ u y
   cases hf:τ.flat with
   |true=>exact Bc.flat hf h1.2
   |false=>
    refine h1.2.En λb _ hb=>?_
    rcases hb with ⟨l,q,h3,h4⟩|hb|⟨hb,_⟩
    ·rw [aG l] at h3
     cases hp:π0 l with
     |none=>rw [hp] at h3;cases h3
     |some q0=>rw [hp] at h3;simp only [Option.map_some,Option.some.injEq] at h3;subst h3;exact .inl ⟨l,q0,hp,h4⟩
    ·exact .inr hb
    ·cases hb
  |row e te=>exact ⟨_,e.size,List.length y,hh _ rfl,rfl,by simp,by rw [fo];exact Um h1.1⟩
  |Dv e te=>exact ⟨_,e.size,List.length y,hh _ rfl,rfl,by simp,by rw [fo];exact Um h1.1⟩
  |part e te=>exact ⟨_,e.size,List.length y.1,hh _ rfl,rfl,h1.1.2,by rw [fo];exact Um h1.1.1⟩
  |Al e te kp=>exact ⟨_,1,List.length y,hh _ rfl,rfl,by simp,by rw [fo];exact Um h1.1⟩
theorem lU {p:Real} {s off len:Nat} {u:Value} {f:Nat->Prop} (h:Ed (some p) s off len u):Ed (some ⟨p.g,p.o+off,p.cap-off,f,f⟩) s 0 len u:=by
 obtain ⟨ad,h1,h2,h3⟩:=h
 exact ⟨ad,h1,by dsimp only;omega,λh0=>by dsimp only at h0;simpa using h3 (by omega)⟩
theorem qx {α:Type} {xs:List α} {off len i:Nat} {x:α} (h:((xs.drop off).take len)[i]?=some x):xs[off+i]?=some x:=by
 rw [List.getElem?_take] at h
 split at h
 ·rw [List.getElem?_drop] at h;exact h
 ·cases h
theorem Rz.part {P:Nat->Prop} {g o:Nat} {cur:Array Value} {e:Ty} {xs:List e.den} (off len:Nat) (h:Rz w P g o cur e xs):Rz w P g (o+off) cur e ((xs.drop off).take len):=by
 obtain ⟨Fs,t1,t2,t3,t4⟩:=h
 refine ⟨(Fs.drop off).take len,by simp [t1],List.nodup_cons.2 ⟨λhm=>(List.nodup_cons.1 t2).1 (Nd off len _ hm),iS off len (List.nodup_cons.1 t2).2⟩,λb hb=>t3 b (Nd off len b hb),λi x F hx hF=>?_⟩
 obtain ⟨es,k1,k2,k3⟩:=t4 (off+i) x F (qx hx) (qx hF)
 exact ⟨es,k1,λj u hu=>by rw [Nat.add_assoc o off i];exact k2 j u hu,k3⟩
theorem MN {st:St} (h:Im X w π st.heap) {c:CK} (hg: ∀e te kp,c≠ .Al e te kp) {a:AC} {u:Value} (hu:Dw X w π st.heap a u) {x:c.den} {ls:List Nat} (he:gg st c a=some (x,ls)):
  ∃r,bg w (λb=>Qi π b\/X.Sc b) r u c x/\ ∀q,r=some q-> ∃l p,ls= [l]/\π l=some p/\(∀b,q.Bg b->p.cl b)/\(c.isX=false-> ∀b,q.Bg b->p.Bg b):=by
 have JF: ∀ {f:Bool} (b:Nat),(Qi π b\/X.Sc b)->Bj X.w0.heap.size X.Sc π f b:= λb h=>h.imp id .inl
 cases c with
 |Dn τ=>
  simp only [gg] at he
  split at he
  ·rename_i hf
   cases hv:Bp st τ a with
   |none=>rw [hv] at he;cases he
   |some p=>
    obtain ⟨fr,y⟩:=p
    rw [hv] at he
    simp only [Option.map_some,Option.some.injEq,Prod.mk.injEq] at he
    obtain ⟨rfl,rfl⟩:=he
    refine ⟨none,⟨rfl,?_⟩,λq hq=>by cases hq⟩
    have En: ∀f,Bc w (Bj X.w0.heap.size X.Sc π f) τ u y->Bc w (λb=>Qi π b\/X.Sc b) τ u y:= λf hr=>hr.En λk _ hk=>JF k hk
    cases a with
    |data f Jp z=>
     rw [Je] at hv
     split at hv
     ·rename_i ht;subst ht
      simp only [Option.some.injEq,Prod.mk.injEq] at hv
      obtain ⟨_,rfl⟩:=hv
      exact En f hu
     ·have On:τ.Ac=false:=by unfold dq at hv;split at hv<;>first|rfl|cases hv
      exact En _ ⟨[u],Zt hv hu,by simp [Au,On]⟩
    |Hr=>
     have hu:u= .slice none 0 0:=hu
     subst hu
     cases τ<;>simp only [Bp,Option.some.injEq,Prod.mk.injEq,reduceCtorEq] at hv
     ·obtain ⟨_,rfl⟩:=hv;exact ⟨[_],⟨none,0,0,rfl,rfl,Nat.le_refl _, .inl rfl⟩,rfl⟩
     ·obtain ⟨_,rfl⟩:=hv;exact ⟨[_], .inl ⟨rfl,0,rfl⟩,rfl⟩
    |Ro=>
     have hu:u= .pointer none:=hu
     subst hu
     cases τ<;>simp only [Bp,Option.some.injEq,Prod.mk.injEq,reduceCtorEq] at hv
     obtain ⟨_,rfl⟩:=hv;exact ⟨[_], .inl ⟨rfl,rfl⟩,rfl⟩
    |_=>cases τ<;>simp [AC.settled,Ty.flat,Bp] at hf hv
  ·cases he
 |row e te=>
  cases a<;>simp only [gg] at he<;>try (cases he;done)
  ·simp only [Option.some.injEq,Prod.mk.injEq] at he
   obtain ⟨rfl,rfl⟩:=he
   have hu:u= .slice none 0 0:=hu
   exact ⟨none,⟨⟨hu,rfl,rfl⟩,rfl⟩,λq hq=>by cases hq⟩
  ·rename_i l off len
   split at he
   ·rename_i fr tr e' Mc xs hl
    split at he
    ·rename_i hc
     obtain ⟨rfl,rfl⟩:=hc
     simp only [Option.some.injEq,Prod.mk.injEq] at he
     obtain ⟨rfl,rfl⟩:=he
     unfold St.at at hl
     obtain ⟨h1,h2⟩:=Jt hu hl
     have hb:=(h.heap l).Ma hl
     simp only [Av,Fu] at hb
     have hlen:((xs.drop off).take len).length=len:=by simp;omega
     cases hp:π l with
     |none=>
      rw [hp] at h2 hb
      obtain ⟨rfl,rfl,rfl⟩:=h2
      exact ⟨none,⟨⟨rfl,rfl,by simp⟩,by show (xs.drop 0).take 0= [];simp⟩,λq hq=>by cases hq⟩
     |some p=>
      rw [hp] at h2 hb
      obtain ⟨k1,cur,ti,k2,k3,k4,k5,k6,_⟩:=hb
      have ho:=h2
      obtain ⟨ad,_,pJ,_⟩:=h2
      refine ⟨some ⟨p.g,p.o+off,p.cap-off,p.Bg,p.Bg⟩,⟨by rw [hlen];exact lU ho,⟨k1.1,k1.2.1⟩,cur,ti,k2,by rw [k3];congr 1;dsimp only;omega,by dsimp only;omega,by rw [hlen];dsimp only;omega,λi y hy=>?_⟩,
       fun q hq=>by cases hq;exact ⟨l,p,rfl,hp,λb hb=>h.sub l p b hp hb,λ_ b hb=>hb⟩⟩
      obtain ⟨es,g1,g2,g3⟩:=k6 (off+i) y (qx hy)
      exact ⟨es,g1,λj u hu=>by dsimp only;rw [Nat.add_assoc p.o off i];exact g2 j u hu,Cells.Cn (Nat.le_refl _) (λ_ _ _=>rfl) (λb _ hb=>JF b hb) e' es y g3⟩
    ·cases he
   ·cases he
 |Dv e te=>
  cases a<;>simp only [gg] at he<;>try (cases he;done)
  ·simp only [Option.some.injEq,Prod.mk.injEq] at he
   obtain ⟨rfl,rfl⟩:=he
   have hu:u= .slice none 0 0:=hu
   exact ⟨none,⟨⟨hu,rfl,rfl⟩,rfl⟩,λq hq=>by cases hq⟩
  ·rename_i l off len
   split at he
   ·rename_i fr tr e' Mc xs hl
    split at he
    ·rename_i hc
     obtain ⟨rfl,rfl,hf⟩:=hc
     simp only [Option.some.injEq,Prod.mk.injEq] at he
     obtain ⟨rfl,rfl⟩:=he
     unfold St.at at hl
     obtain ⟨h1,h2⟩:=Jt hu hl
     have hb:=(h.heap l).Ma hl
     simp only [Av,Fu] at hb
     have hlen:((xs.drop off).take len).length=len:=by simp;omega
     cases hp:π l with
     |none=>
      rw [hp] at h2 hb
      obtain ⟨rfl,rfl,rfl⟩:=h2
      exact ⟨none,⟨⟨rfl,rfl,by simp⟩,by show (xs.drop 0).take 0= [];simp⟩,λq hq=>by cases hq⟩
     |some p=>
      rw [hp] at h2 hb
      obtain ⟨k1,cur,ti,k2,k3,k4,k5,k6,k7⟩:=hb
      have ho:=h2
      obtain ⟨ad,_,pJ,_⟩:=h2
      have ht:Rz w p.cl p.g p.o cur e' xs:=by
       simp only [Bool.or_eq_true] at hf
       rcases hf with hf|hf
       ·exact k7 hf
       ·exact jF hf k6
      exact ⟨some ⟨p.g,p.o+off,p.cap-off,p.cl,p.cl⟩,⟨by rw [hlen];exact lU ho,h.sub l p _ hp k1.1,cur,ti,k2,by rw [k3];congr 1;dsimp only;omega,by dsimp only;omega,by rw [hlen];dsimp only;omega,ht.part off len⟩,
       fun q hq=>by cases hq;exact ⟨l,p,rfl,hp,λb hb=>hb,λhx=>by cases hx⟩⟩
    ·cases he
   ·rename_i e' Mc xs hl
    split at he
    ·rename_i hc
     obtain ⟨rfl,rfl⟩:=hc
     simp only [Option.some.injEq,Prod.mk.injEq] at he
     obtain ⟨rfl,rfl⟩:=he
     unfold St.at at hl
     obtain ⟨h1,h2⟩:=Xt hu hl
     have hb:=(h.heap l).Ma hl
     simp only [Av,Jg] at hb
     have hlen:((xs.drop off).take len).length=len:=by simp;omega
     cases hp:π l with
     |none=>
      rw [hp] at h2 hb
      obtain ⟨rfl,rfl,rfl⟩:=h2
      exact ⟨none,⟨⟨rfl,rfl,by simp⟩,by show (xs.drop 0).take 0= [];simp⟩,λq hq=>by cases hq⟩
     |some p=>
      rw [hp] at h2 hb
      obtain ⟨k1,cur,ti,k2,k3,k4,k5,ht⟩:=hb
      have ho:=h2
      obtain ⟨ad,_,pJ,_⟩:=h2
      exact ⟨some ⟨p.g,p.o+off,p.cap-off,p.Bg,p.Bg⟩,⟨by rw [hlen];exact lU ho,k1,cur,ti,k2,by rw [k3];congr 1;dsimp only;omega,by dsimp only;omega,by rw [hlen];dsimp only;omega,ht.part off len⟩,
       fun q hq=>by cases hq;exact ⟨l,p,rfl,hp,λb hb=>h.sub l p b hp hb,λ_ b hb=>hb⟩⟩
    ·cases he
   ·cases he
 |part e te=>cases a<;>simp [gg] at he
 |Al e te kp=>exact absurd rfl (hg e te kp)
theorem TL {st:St} (h:Im X w π st.heap) {c:CK} {a:AC} {u:Value} (hu:Dw X w π st.heap a u) {x:c.den} {ls:List Nat} (he:gg st c a=some (x,ls)):
  ∃r,bg w (λb=>Qi π b\/X.Sc b) r u c x/\(∀q,r=some q-> ∃l p,ls= [l]/\π l=some p/\(∀b,q.Bg b->p.cl b)/\(c.isX=false-> ∀b,q.Bg b->p.Bg b))/\
   (∀l off len e te rows out kp,a= .own l off len->Ad st.heap l=some (.Al e te rows out kp)->r=π l):=by
 have rU:(∀e te kp,c≠ .Al e te kp)->(∀l off len e te rows out kp,a=AC.own l off len->Ad st.heap l=some (OB.Al e te rows out kp)->False)->
   ∃r,bg w (λb=>Qi π b\/X.Sc b) r u c x/\(∀q,r=some q-> ∃l p,ls= [l]/\π l=some p/\(∀b,q.Bg b->p.cl b)/\(c.isX=false-> ∀b,q.Bg b->p.Bg b))/\
   (∀l off len e te rows out kp,a= .own l off len->Ad st.heap l=some (.Al e te rows out kp)->r=π l):= λh1 h2=>by
  obtain ⟨r,g1,g2⟩:=MN h h1 hu he
  exact ⟨r,g1,g2,λl off len e te rows out kp h3 h4=>(h2 l off len e te rows out kp h3 h4).elim⟩
 cases c with
 |Dn τ=>
  refine rU (λ_ _ _ h=>by cases h) λl off len e te rows out kp h3 h4=>?_
  subst h3
  simp only [gg] at he
  split at he
  ·rename_i hf
   cases τ<;>simp [AC.settled,Ty.flat,Bp] at hf he
  ·cases he
 |row e te=>
  refine rU (λ_ _ _ h=>by cases h) λl off len e te rows out kp h3 h4=>?_
  subst h3
  simp only [gg,St.at,h4] at he
  cases he
 |Dv e te=>
  refine rU (λ_ _ _ h=>by cases h) λl off len e te rows out kp h3 h4=>?_
  subst h3
  simp only [gg,St.at,h4] at he
  cases he
 |part e te=>cases a<;>simp [gg] at he
 |Al e te kp=>
  cases a<;>simp only [gg] at he<;>try (cases he;done)
  rename_i l off len
  split at he
  ·rename_i e' Mc rows kp' hl
   split at he
   ·rename_i hc
    obtain ⟨rfl,rfl,rfl,rfl⟩:=hc
    simp only [Option.some.injEq,Prod.mk.injEq] at he
    obtain ⟨rfl,rfl⟩:=he
    unfold St.at at hl
    obtain ⟨b,sz,n,h1,h2,_,h3⟩:=hu
    rw [hl] at h1;cases h1
    simp only [OB.row,Option.some.injEq,Prod.mk.injEq] at h2
    obtain ⟨rfl,rfl⟩:=h2
    have hb:=((h.heap l).Ma hl).1
    refine ⟨π l,⟨h3,Vi.En hb λb hb=>hb.imp id .inl⟩,λq hq=>⟨l,q,rfl,hq,λb hb=>h.sub l q b hq hb,λ_ b hb=>hb⟩,λl' Asl Ase _ _ _ _ _ he _=>?_⟩
    simp only [AC.own.injEq] at he
    rw [he.1]
   ·cases he
  ·cases he
theorem Ez.congr {D:Nat->Prop} {ρ ρ':Pi} : ∀(cs:List CK) (k:Nat) (x:CKs.den cs) (us:List Value),(∀j,k<=j->ρ' (Fy j)=ρ (Fy j))->Ez w D ρ k cs x us->Ez w D ρ' k cs x us
 | [],_,_,[],_,h=>h
 | [],_,_,_::_,_,h=>h.elim
 |_::_,_,_,[],_,h=>h.elim
 |c::r,k,x,u::us,he,h=>⟨by rw [he k (Nat.le_refl _)];exact h.1,Ez.congr r (k+1) x.2 us (λj hj=>he j (by omega)) h.2⟩
theorem uD {st:St} (h:Im X w π st.heap): ∀(cs:List CK) (k:Nat) (as:List AC) (us:List Value) (x:CKs.den cs) (ls:List Nat),Io X w π st.heap as us->Py st cs as=some (x,ls)->ls.Nodup->
  ∃ρ:Pi,Ez w (λb=>Qi π b\/X.Sc b) ρ k cs x us/\(∀l q,ρ l=some q-> ∃j,k<=j/\j<k+cs.length/\l=Fy j)/\(∀l q b,ρ l=some q->q.Bg b-> ∃l0∈ls,∃p,π l0=some p/\p.cl b/\((cs.all λc=>!c.isX)=true->p.Bg b))/\
   (∀l l' q q' b,ρ l=some q->ρ l'=some q'->q.Bg b->q'.Bg b->l=l')/\
   (∀(j l off len:Nat) e te rows out kp,as[j]?=some (.own l off len)->Ad st.heap l=some (.Al e te rows out kp)->ρ (Fy (k+j))=π l)
 | [],k,[],[],x,ls,_,he,_=>by
  simp only [Py,Option.some.injEq,Prod.mk.injEq] at he
  exact ⟨λ_=>none,trivial,(λl q h=>by cases h),(λl q b h=>by cases h),(λl l' q q' b h=>by cases h),λj l off len e te rows out kp h=>by simp at h⟩
 | [],_,[],_::_,_,_,h,_,_=>h.elim
 | [],_,_::_,_,_,_,_,he,_=>by simp [Py] at he
 |_::_,_,[],_,_,_,_,he,_=>by simp [Py] at he
 |_::_,_,_::_,[],_,_,h,_,_=>h.elim
 |c::r,k,a::as,u::us,x,ls,hr,he,JK=>by
  simp only [Py] at he
  split at he
  ·rename_i x1 t1 x2 t2 h1 h2
   simp only [Option.some.injEq,Prod.mk.injEq] at he
   obtain ⟨rfl,rfl⟩:=he
   obtain ⟨n1,n2,n3⟩:=List.nodup_append.1 JK
   obtain ⟨ρ,g1,g2,g3,g4,g5⟩:=uD h r (k+1) as us x2 t2 hr.2 h2 n2
   obtain ⟨rr,r1,r2,r3⟩:=TL h hr.1 h1
   have yy: ∀l q q0 b,ρ l=some q->rr=some q0->q.Bg b->q0.Bg b->False:= λl q q0 b h3 h4 h5 h6=>by
    obtain ⟨l0,m0,p,p1,p2,_⟩:=g3 l q b h3 h5
    obtain ⟨l1,p',e1,p1',p2',_⟩:=r2 q0 h4
    have:=h.inj l0 l1 p p' b p1 p1' p2 (p2' b h6)
    exact n3 l1 (by rw [e1];simp) l0 m0 this.symm
   refine ⟨λl=>if l=Fy k then rr else ρ l,⟨by simpa using r1,Ez.congr r (k+1) x2 us (λj hj=>if_neg (by unfold Fy;omega)) g1⟩,λl q hq=>?_,λl q b hq hb=>?_,λl l' q q' b h3 h4 h5 h6=>?_,λj l off len e te rows out kp hj hl=>?_⟩
   ·dsimp only at hq
    by_cases e:l=Fy k
    ·exact ⟨k,Nat.le_refl _,by simp,e⟩
    ·rw [if_neg e] at hq
     obtain ⟨j,j1,j2,j3⟩:=g2 l q hq
     exact ⟨j,by omega,by simp;omega,j3⟩
   ·dsimp only at hq
    by_cases e:l=Fy k
    ·rw [if_pos e] at hq
     obtain ⟨l1,p',e1,p1',p2',p3'⟩:=r2 q hq
     exact ⟨l1,by rw [e1];simp,p',p1',p2' b hb,λhx=>p3' (by simp only [List.all_cons,Bool.and_eq_true,Bool.not_eq_true'] at hx;exact hx.1) b hb⟩
    ·rw [if_neg e] at hq
     obtain ⟨l0,m0,p,p1,p2,p3⟩:=g3 l q b hq hb
     exact ⟨l0,List.mem_append_right _ m0,p,p1,p2,λhx=>p3 (by simp only [List.all_cons,Bool.and_eq_true] at hx;exact hx.2)⟩
   ·dsimp only at h3 h4
    by_cases e:l=Fy k<;>by_cases e':l'=Fy k
    ·rw [e,e']
    ·rw [if_pos e] at h3;rw [if_neg e'] at h4
     exact (yy l' q' q b h4 h3 h6 h5).elim
    ·rw [if_neg e] at h3;rw [if_pos e'] at h4
     exact (yy l q q' b h3 h4 h5 h6).elim
    ·rw [if_neg e] at h3;rw [if_neg e'] at h4
     exact g4 l l' q q' b h3 h4 h5 h6
   ·rcases j with _|j
    ·simp only [List.getElem?_cons_zero,Option.some.injEq] at hj
     show (if Fy k=Fy k then rr else ρ (Fy k))=π l
     rw [if_pos rfl]
     exact r3 l off len e te rows out kp hj hl
    ·have:=g5 j l off len e te rows out kp (by simpa using hj) hl
     show (if Fy (k+(j+1))=Fy k then rr else ρ (Fy (k+(j+1))))=π l
     rw [if_neg (by unfold Fy;omega),<-this,show k+(j+1)=k+1+j by omega]
  ·cases he
theorem AJ {r r':Option Real} (h:Wx (r.map full) r') {e:Ty} {xs:List e.den} {te:TypeId} {fr tr:Bool} (ha:Fu X w π r' fr tr e te xs):No w (λb=>Qi π b\/X.Sc b) r e xs:=by
 cases r with
 |none=>cases r' with
  |none=>exact ha
  |some q=>exact h.elim
 |some p=>cases r' with
  |none=>exact h.elim
  |some q=>
   obtain ⟨e1,e2,e3,e4⟩:=h
   obtain ⟨k1,cur,ti,k2,k3,k4,k5,k6,_⟩:=ha
   have e1:p.g=q.g:=e1
   have e2:p.o=q.o:=e2
   have e3:p.cap=q.cap:=e3
   refine ⟨⟨by rw [e1];exact (e4 _).2 k1.1,λb hb=>by rw [e1];exact k1.2.1 b ((e4 b).1 hb)⟩,cur,ti,by rw [e1];exact k2,by rw [e2,e3];exact k3,by rw [e3];exact k4,by rw [e3];exact k5,λi y hy=>?_⟩
   obtain ⟨es,g1,g2,g3⟩:=k6 i y hy
   exact ⟨es,g1,by rw [e2];exact g2,Cells.Cn (Nat.le_refl _) (λ_ _ _=>rfl) (λb _ hb=>hb.imp id .inl) e es y g3⟩
theorem NN {r r':Option Real} (h:Wx (r.map full) r') {e:Ty} {xs:List e.den} {te:TypeId} (ha:Jg w r' e te xs):Jg w r e te xs:=by
 cases r with
 |none=>cases r' with
  |none=>exact ha
  |some q=>exact h.elim
 |some p=>cases r' with
  |none=>exact h.elim
  |some q=>
   obtain ⟨e1,e2,e3,e4⟩:=h
   obtain ⟨k1,cur,ti,k2,k3,k4,k5,Fs,t1,t2,t3,t4⟩:=ha
   have e1:p.g=q.g:=e1
   have e2:p.o=q.o:=e2
   have e3:p.cap=q.cap:=e3
   exact ⟨by rw [e1];exact (e4 _).2 k1,cur,ti,by rw [e1];exact k2,by rw [e2,e3];exact k3,by rw [e3];exact k4,by rw [e3];exact k5,Fs,t1,by rw [e1];exact t2,λb hb=>(e4 b).2 (t3 b hb),by rw [e2];exact t4⟩
theorem Pa {st:St} {π0:Pi} {D:Nat->Prop} {w0:World} (h:Im X w π st.heap) (Uz: ∀l,X.cW l=(π0 l).map full): ∀(cs:List (Bool×CK)) (k:Nat) (x:Ins.den cs) (us:List Value) (o:IOs.den cs),bh w0 D π0 k cs x us->Jx st k cs=some o->
  Hm w (λb=>Qi π b\/X.Sc b) π0 k cs o/\ ∀l∈Ky k cs,Ad st.heap l≠none
 | [],_,_,_,_,_,_=>⟨trivial,λl hl=>by cases hl⟩
 |_::_,_,_,[],_,h,_=>h.elim
 |(false,c)::r,k,x,u::us,o,hi,he=>Pa h Uz r (k+1) x.2 us o hi.2 (by simpa only [Jx] using he)
 |(true, .Dn τ)::r,k,x,u::us,o,hi,he=>Pa h Uz r (k+1) x.2 us o hi.2 (by simpa only [Jx] using he)
 |(true, .Al e te kp)::r,k,x,u::us,o,hi,he=>Pa h Uz r (k+1) x.2 us o hi.2 (by simpa only [Jx] using he)
 |(true, .row e te)::r,k,x,u::us,o,hi,he=>by
  simp only [Jx] at he
  split at he
  ·rename_i x1 x2 h1 h2
   simp only [Option.some.injEq] at he;subst he
   obtain ⟨g1,g2⟩:=Pa h Uz r (k+1) x.2 us x2 hi.2 h2
   have h0:=hi.1
   simp only [mF] at h1
   split at h1
   ·rename_i fr tr e' Mc xs hl
    split at h1
    ·rename_i hc
     obtain ⟨rfl,rfl⟩:=hc
     simp only [Option.some.injEq] at h1;subst h1
     unfold St.at at hl
     have hs:=h.cW (Bu true k) (by have:=Wk k;omega) (by rw [hl];simp)
     rw [Uz] at hs
     exact ⟨⟨AJ (te:=Mc) hs ((h.heap _).Ma hl),g1⟩,λl Gt=>by
      simp only [Ky] at Gt
      rcases List.mem_cons.1 Gt with rfl|Gt
      ·rw [hl];simp
      ·exact g2 l Gt⟩
    ·cases h1
   ·cases h1
  ·cases he
 |(true, .part e te)::r,k,x,u::us,o,hi,he=>by
  simp only [Jx] at he
  split at he
  ·rename_i x1 x2 h1 h2
   simp only [Option.some.injEq] at he;subst he
   obtain ⟨g1,g2⟩:=Pa h Uz r (k+1) x.2 us x2 hi.2 h2
   have h0:=hi.1
   simp only [mF] at h1
   split at h1
   ·rename_i fr tr e' Mc xs hl
    split at h1
    ·rename_i hc
     obtain ⟨rfl,rfl⟩:=hc
     simp only [Option.some.injEq] at h1;subst h1
     unfold St.at at hl
     have hs:=h.cW (Bu true k) (by have:=Wk k;omega) (by rw [hl];simp)
     rw [Uz] at hs
     exact ⟨⟨AJ (te:=Mc) hs ((h.heap _).Ma hl),g1⟩,λl Gt=>by
      simp only [Ky] at Gt
      rcases List.mem_cons.1 Gt with rfl|Gt
      ·rw [hl];simp
      ·exact g2 l Gt⟩
    ·cases h1
   ·cases h1
  ·cases he
 |(true, .Dv e te)::r,k,x,u::us,o,hi,he=>by
  simp only [Jx] at he
  split at he
  ·rename_i x1 x2 h1 h2
   simp only [Option.some.injEq] at he;subst he
   obtain ⟨g1,g2⟩:=Pa h Uz r (k+1) x.2 us x2 hi.2 h2
   simp only [mF] at h1
   split at h1
   ·rename_i e' Mc xs hl
    split at h1
    ·rename_i hc
     obtain ⟨rfl,rfl⟩:=hc
     simp only [Option.some.injEq] at h1;subst h1
     unfold St.at at hl
     have hs:=h.cW (Bu true k) (by have:=Wk k;omega) (by rw [hl];simp)
     rw [Uz] at hs
     exact ⟨⟨NN (te:=Mc) hs ((h.heap _).Ma hl),g1⟩,λl Gt=>by
      simp only [Ky] at Gt
      rcases List.mem_cons.1 Gt with rfl|Gt
      ·rw [hl];simp
      ·exact g2 l Gt⟩
    ·cases h1
   ·cases h1
  ·cases he
theorem sv {p:Bool×CK} {r:List (Bool×CK)} (h:Ul (p::r)=true):Ul r=true:=by
 rcases p with ⟨_|_,c⟩<;>cases c<;>first|(simp [Ul] at h;done)|simpa [Ul] using h
theorem ui: ∀(cs:List (Bool×CK)) (k:Nat) (x:Ins.den cs) (l:Nat),Ul cs=true->k+cs.length<100000->Ad (Uh k cs x) l≠none-> ¬l<Am->l∈Ky k cs
 | [],_,_,_,_,_,h,_=>absurd rfl h
 |(io,c)::r,k,x,l,hng,hk,h,hp=>by
  simp only [List.length_cons] at hk
  simp only [Uh] at h
  have tail:Ad (Uh (k+1) r x.2) l≠none->l∈Ky (k+1) r:= λh=>ui r (k+1) x.2 l (sv hng) (by omega) h hp
  have sub: ∀m,m∈Ky (k+1) r->m∈Ky k ((io,c)::r):= λm hm=>by
   cases io<;>cases c<;>simp only [Ky]<;>first|exact hm|exact List.mem_cons_of_mem _ hm
  cases hc:fX (Bu io k) c x.1 with
  |none=>rw [hc] at h;exact sub l (tail h)
  |some b=>
   rw [hc] at h
   simp only [dm,Ad] at h
   split at h
   ·rename_i e;subst e
    cases io with
    |false=>exact absurd (bU (by omega)) hp
    |true=>cases c with
     |Dn τ=>cases hc
     |row e te=>simp [Ky]
     |Dv e te=>simp [Ky]
     |part e te=>simp [Ky]
     |Al e te kp=>simp [Ul] at hng
   ·exact sub l (tail h)
theorem bg.En {D D':Nat->Prop} (hD: ∀b,D' b->D b) {r:Option Real} {u:Value} {c:CK} {x:c.den} (h:bg w D r u c x):bg w D' r u c x:=by
 cases c with
 |Dn τ=>exact ⟨h.1,h.2.En λb _ hb=>hD b hb⟩
 |row e te=>exact ⟨h.1,No.En h.2 hD⟩
 |Dv e te=>exact h
 |part e te=>exact ⟨h.1,h.2.1,No.En h.2.2 hD⟩
 |Al e te kp=>exact ⟨h.1,Vi.En h.2 hD⟩
theorem Ez.En {D D':Nat->Prop} (hD: ∀b,D' b->D b) {ρ:Pi} : ∀(cs:List CK) (k:Nat) (x:CKs.den cs) (us:List Value),Ez w D ρ k cs x us->Ez w D' ρ k cs x us
 | [],_,_,[],h=>h
 | [],_,_,_::_,h=>h.elim
 |_::_,_,_,[],h=>h.elim
 |_c::r,k,x,_u::us,h=>⟨h.1.En hD,Ez.En hD r (k+1) x.2 us h.2⟩
theorem Hm.En {D D':Nat->Prop} (hD: ∀b,D' b->D b) {π:Pi} : ∀(cs:List (Bool×CK)) (k:Nat) (x:IOs.den cs),Hm w D π k cs x->Hm w D' π k cs x
 | [],_,_,h=>h
 |(false,_)::r,k,x,h=>Hm.En hD r (k+1) x h
 |(true, .Dn _)::r,k,x,h=>Hm.En hD r (k+1) x h
 |(true, .Al _ _ _)::r,k,x,h=>Hm.En hD r (k+1) x h
 |(true, .row _e _te)::r,k,x,h=>⟨No.En h.1 hD,Hm.En hD r (k+1) x.2 h.2⟩
 |(true, .Dv _e _te)::r,k,x,h=>⟨h.1,Hm.En hD r (k+1) x.2 h.2⟩
 |(true, .part _e _te)::r,k,x,h=>⟨No.En h.1 hD,Hm.En hD r (k+1) x.2 h.2⟩
theorem bh.congr {D:Nat->Prop} {π0 Yd:Pi} : ∀(cs:List (Bool×CK)) (k:Nat) (x:Ins.den cs) (us:List Value),(∀b j,k<=j->j<k+cs.length->Yd (Bu b j)=π0 (Bu b j))->bh w D π0 k cs x us->bh w D Yd k cs x us
 | [],_,_,[],_,h=>h
 | [],_,_,_::_,_,h=>h
 |_::_,_,_,[],_,h=>h
 |p::r,k,x,u::us,hp,h=>⟨by rw [hp p.1 k (Nat.le_refl _) (by simp)];exact h.1,bh.congr r (k+1) x.2 us (λb j h1 h2=>hp b j (by omega) (by simp;omega)) h.2⟩
theorem Hm.congr {D:Nat->Prop} {π0 Yd:Pi} : ∀(cs:List (Bool×CK)) (k:Nat) (x:IOs.den cs),(∀b j,k<=j->j<k+cs.length->Yd (Bu b j)=π0 (Bu b j))->Hm w D π0 k cs x->Hm w D Yd k cs x
 | [],_,_,_,h=>h
 |(false,c)::r,k,x,hp,h=>by cases c<;>exact Hm.congr r (k+1) x (λb j h1 h2=>hp b j (by omega) (by simp;omega)) h
 |(true, .Dn _)::r,k,x,hp,h=>Hm.congr r (k+1) x (λb j h1 h2=>hp b j (by omega) (by simp;omega)) h
 |(true, .Al _ _ _)::r,k,x,hp,h=>Hm.congr r (k+1) x (λb j h1 h2=>hp b j (by omega) (by simp;omega)) h
 |(true, .row e te)::r,k,x,hp,h=>⟨by rw [hp true k (Nat.le_refl _) (by simp)];exact h.1,Hm.congr r (k+1) x.2 (λb j h1 h2=>hp b j (by omega) (by simp;omega)) h.2⟩
 |(true, .Dv e te)::r,k,x,hp,h=>⟨by rw [hp true k (Nat.le_refl _) (by simp)];exact h.1,Hm.congr r (k+1) x.2 (λb j h1 h2=>hp b j (by omega) (by simp;omega)) h.2⟩
 |(true, .part e te)::r,k,x,hp,h=>⟨by rw [hp true k (Nat.le_refl _) (by simp)];exact h.1,Hm.congr r (k+1) x.2 (λb j h1 h2=>hp b j (by omega) (by simp;omega)) h.2⟩
theorem Ce.congr {π0 Yd:Pi} : ∀(cs:List (Bool×CK)) (k:Nat) (o:IOs.den cs) (n:Nat) (us as:List Value),(∀b j,k<=j->j<k+cs.length->Yd (Bu b j)=π0 (Bu b j))->Ce π0 k cs o n us as->Ce Yd k cs o n us as
 | [],k,o,0,us,as,_,h=>by simpa [Ce] using h
 | [],k,o,n+1,us,as,_,h=>by simp [Ce] at h
 |p::r,k,o,0,us,as,_,h=>by
  rcases p with ⟨_|_,c⟩<;>cases c<;>simpa [Ce] using h
 |(true, .Dn _)::r,k,o,n+1,us,as,_,h=>by simp [Ce] at h
 |(true, .part _ _)::r,k,o,n+1,us,as,_,h=>by simp [Ce] at h
 |(true, .Al _ _ _)::r,k,o,n+1,us,as,_,h=>by simp [Ce] at h
 |(true, .row e te)::r,k,o,n+1,[],as,_,h=>by simp [Ce] at h
 |(true, .Dv e te)::r,k,o,n+1,[],as,_,h=>by simp [Ce] at h
 |(true, .row e te)::r,k,o,n+1,u::us,as,hp,h=>by
  simp only [Ce] at h⊢
  exact ⟨by rw [hp true k (Nat.le_refl _) (by simp)];exact h.1,Ce.congr r (k+1) o.2 n us as (λb j h1 h2=>hp b j (by omega) (by simp;omega)) h.2⟩
 |(true, .Dv e te)::r,k,o,n+1,u::us,as,hp,h=>by
  simp only [Ce] at h⊢
  exact ⟨by rw [hp true k (Nat.le_refl _) (by simp)];exact h.1,Ce.congr r (k+1) o.2 n us as (λb j h1 h2=>hp b j (by omega) (by simp;omega)) h.2⟩
 |(false,c)::r,k,o,n+1,[],as,_,h=>by cases c<;>simp [Ce] at h
 |(false,c)::r,k,o,n+1,u::us,[],_,h=>by cases c<;>simp [Ce] at h
 |(false,c)::r,k,o,n+1,u::us,a::as,hp,h=>by
  have h:u=a/\Ce π0 (k+1) r o n us as:=by cases c<;>exact h
  have:=Ce.congr r (k+1) o n us as (λb j h1 h2=>hp b j (by omega) (by simp;omega)) h.2
  cases c<;>exact ⟨h.1,this⟩
theorem mT: ∀(A B:List (Nat×OB)) (l:Nat),Ad (A++B) l=match Ad A l with|some b=>some b|none=>Ad B l
 | [],B,l=>rfl
 |(k,b)::A,B,l=>by
  simp only [List.cons_append,Ad]
  split
  ·rfl
  ·exact mT A B l
theorem qn {st:St} : ∀(cs:List CK) (as:List AC) (x:CKs.den cs) (ls:List Nat),Py st cs as=some (x,ls)-> ∀l∈ls,∃b,Ad st.heap l=some b/\b.row≠none
 | [],[],x,ls,he=>by
  simp only [Py,Option.some.injEq,Prod.mk.injEq] at he
  obtain ⟨_,rfl⟩:=he
  intro l hl;cases hl
 | [],_::_,_,_,he=>by simp [Py] at he
 |_::_,[],_,_,he=>by simp [Py] at he
 |c::r,a::as,x,ls,he=>by
  simp only [Py] at he
  split at he
  ·rename_i x1 t1 x2 t2 h1 h2
   simp only [Option.some.injEq,Prod.mk.injEq] at he
   obtain ⟨_,rfl⟩:=he
   intro l hl
   rcases List.mem_append.1 hl with hl|hl
   ·unfold gg at h1
    split at h1
    ·split at h1
     ·cases hv:Bp st _ a with
      |none=>rw [hv] at h1;cases h1
      |some p=>rw [hv] at h1;simp only [Option.map_some,Option.some.injEq,Prod.mk.injEq] at h1;obtain ⟨_,rfl⟩:=h1;cases hl
     ·cases h1
    all_goals (repeat' split at h1)
    all_goals first|(cases h1;done)|skip
    all_goals (simp only [Option.some.injEq,Prod.mk.injEq] at h1;obtain ⟨_,rfl⟩:=h1)
    all_goals first|(cases hl;done)|skip
    all_goals (have hl:=List.mem_singleton.1 hl;subst hl)
    all_goals (rename_i heq _;exact ⟨_,heq,by simp [OB.row]⟩)
   ·exact qn r as x2 t2 h2 l hl
  ·cases he
theorem ni {r r':Option Real} {sz off len:Nat} {v:Value} (h:Wx r r') (hv:Ed r' sz off len v):Ed r sz off len v:=by
 cases r<;>cases r'<;>first|exact h.elim|skip
 ·exact hv
 ·obtain ⟨h1,h2,h3,_⟩:=h
  obtain ⟨ad,g1,g2,g3⟩:=hv
  exact ⟨ad,by rw [h3];exact g1,by rw [h3];exact g2,by rw [h1,h2,h3];exact g3⟩
theorem Tp {st:St} {π0:Pi} (hs: ∀k,Ad st.heap (Bu true k)≠none->Wx ((π0 (Bu true k)).map full) (π (Bu true k))):
  ∀(cs:List (Bool×CK)) (k:Nat) (vs:List AC) (us:List Value) (bc:List AC) (o:IOs.den cs),Io X w π st.heap vs us->Fb k cs vs=some bc->dP st vs cs->Jx st k cs=some o->
   ∃bv,Io X w π st.heap bc bv/\bv.length=qH cs vs.length/\ ∀tl,Ce π0 k cs o vs.length us (bv++tl)
 |cs,k,[],us,bc,o,hr,he,_,_=>by
  have e1:us= []:=by cases us with|nil=>rfl|cons u us=>exact hr.elim
  have e2:bc= []:=by rcases cs with _|⟨⟨_|_,c⟩,r⟩<;>simpa [Fb] using he.symm
  subst e1;subst e2
  refine ⟨[],trivial,?_,λtl=>?_⟩
  ·rcases cs with _|⟨⟨_|_,c⟩,r⟩<;>rfl
  ·rcases cs with _|⟨⟨_|_,c⟩,r⟩<;>(try cases c)<;>simp [Ce]
 | [],k,a::vs,us,bc,o,hr,he,_,_=>by simp [Fb] at he
 |p::r,k,a::vs,[],bc,o,hr,_,_,_=>hr.elim
 |(false,c)::r,k,a::vs,u::us,bc,o,hr,he,hk,ho=>by
  have he:(Fb (k+1) r vs).map (λl=>a::l)=some bc:=by cases a<;>exact he
  cases hb:Fb (k+1) r vs with
  |none=>rw [hb] at he;cases he
  |some bc'=>
   rw [hb] at he
   simp only [Option.map_some,Option.some.injEq] at he;subst he
   obtain ⟨bv,g1,g2,g3⟩:=Tp hs r (k+1) vs us bc' o hr.2 hb (by cases a<;>exact hk) (by cases c<;>simpa only [Jx] using ho)
   refine ⟨u::bv,⟨hr.1,g1⟩,by simp [qH,g2],λtl=>?_⟩
   have:=g3 tl
   cases c<;>exact ⟨rfl,this⟩
 |(true,c)::r,k,a::vs,u::us,bc,o,hr,he,hk,ho=>by
  cases c with
  |Dn τ=>cases a<;>simp [Fb] at he
  |part e te=>cases a<;>simp [Fb] at he
  |Al e te kp=>cases a<;>simp [Fb] at he
  |row e te=>
   cases a<;>first|(simp [Fb] at he;done)|skip
   rename_i l off len
   simp only [Fb] at he
   split at he
   rotate_left
   ·cases he
   rename_i hl
   have hl:l=Bu true k:=Nat.eq_of_beq_eq_true hl
   subst hl
   obtain ⟨⟨rfl,hlen⟩,hk⟩:=hk
   obtain ⟨b,sz,n,h1,h2,h3,h4⟩:=hr.1
   have z9:=hs k (by rw [h1];simp)
   simp only [Jx] at ho
   split at ho
   ·rename_i x1 x2 q1 q2
    simp only [Option.some.injEq] at ho;subst ho
    obtain ⟨bv,g1,g2,g3⟩:=Tp hs r (k+1) vs us bc x2 hr.2 he hk q2
    refine ⟨bv,g1,by simpa [qH] using g2,λtl=>?_⟩
    refine ⟨?_,g3 tl⟩
    simp only [mF] at q1
    split at q1
    ·rename_i fr tr e' Mc xs Gt
     split at q1
     ·rename_i hc
      obtain ⟨rfl,rfl⟩:=hc
      simp only [Option.some.injEq] at q1;subst q1
      unfold St.at at Gt hlen
      rw [Gt] at hlen
      rw [h1] at Gt;cases Gt
      simp only [OB.row,Option.some.injEq,Prod.mk.injEq] at h2
      obtain ⟨rfl,rfl⟩:=h2
      have hlen:len=List.length xs:=hlen
      have:=ni z9 h4
      rw [hlen] at this
      have e0:(π0 (Bu true k)).map full=(π0 (Bu true k)).map full:=rfl
      cases hp:π0 (Bu true k)<;>(rw [hp] at this;exact this)
     ·cases q1
    ·cases q1
   ·cases ho
  |Dv e te=>
   cases a<;>first|(simp [Fb] at he;done)|skip
   rename_i l off len
   simp only [Fb] at he
   split at he
   rotate_left
   ·cases he
   rename_i hl
   have hl:l=Bu true k:=Nat.eq_of_beq_eq_true hl
   subst hl
   obtain ⟨⟨rfl,hlen⟩,hk⟩:=hk
   obtain ⟨b,sz,n,h1,h2,h3,h4⟩:=hr.1
   have z9:=hs k (by rw [h1];simp)
   simp only [Jx] at ho
   split at ho
   ·rename_i x1 x2 q1 q2
    simp only [Option.some.injEq] at ho;subst ho
    obtain ⟨bv,g1,g2,g3⟩:=Tp hs r (k+1) vs us bc x2 hr.2 he hk q2
    refine ⟨bv,g1,by simpa [qH] using g2,λtl=>?_⟩
    refine ⟨?_,g3 tl⟩
    simp only [mF] at q1
    split at q1
    ·rename_i e' Mc xs Gt
     split at q1
     ·rename_i hc
      obtain ⟨rfl,rfl⟩:=hc
      simp only [Option.some.injEq] at q1;subst q1
      unfold St.at at Gt hlen
      rw [Gt] at hlen
      rw [h1] at Gt;cases Gt
      simp only [OB.row,Option.some.injEq,Prod.mk.injEq] at h2
      obtain ⟨rfl,rfl⟩:=h2
      have hlen:len=List.length xs:=hlen
      have:=ni z9 h4
      rw [hlen] at this
      cases hp:π0 (Bu true k)<;>(rw [hp] at this;exact this)
     ·cases q1
    ·cases q1
   ·cases ho
def Aj3 (s:MSpec) (g:Nat) (π:Pi):Pi:= λl=>if s.ptr.isSome=true/\l=Kg then some ⟨g,0,0,λb=>b=g,λb=>b=g⟩ else π l
def Afj (P:Program) (s:MSpec) (fn:Func) (x:Ins.den s.ins) (w:World) (S:Nat->Prop) (π:Pi) (g:Nat) (r:CKs.den s.outs) (o:IOs.den s.ins) (a':Act) (w':World):Prop:=
 ∃(v:Value) (Rl:List Value) (ρ:Pi),a'.defers= []/\(results fn a'.tmps).run P w'= .ok v w'/\oT s w' ρ (Rl.drop s.Vn) v/\ij s π w' g Rl o/\Gg w.heap.size (λb=>Qi π b\/s.gv g b) w w'/\Hm w' (fV S π ρ) π 0 s.ins o/\Ez w' (fV S π ρ) ρ 0 s.outs r Rl/\
  da ρ (λb=>b<w'.heap.size/\(w.heap.size<=b\/ ∃l q,l<Am/\π l=some q/\q.Bg b))/\(∀l,(∀k,k<s.Pg->l≠Fy k)->ρ l=none)/\(∀kj∈s.keeps,xW w w' (π (Bu false kj.1)) (ρ (Fy kj.2)) (s.Cn x))
theorem Ez.QL {D:Nat->Prop} {ρ ρ':Pi} : ∀(cs:List CK) (k:Nat) (x:CKs.den cs) (us:List Value),(∀j,k<=j->j<k+cs.length->ρ' (Fy j)=ρ (Fy j))->Ez w D ρ k cs x us->Ez w D ρ' k cs x us
 | [],_,_,[],_,h=>h
 | [],_,_,_::_,_,h=>h.elim
 |_::_,_,_,[],_,h=>h.elim
 |c::r,k,x,u::us,he,h=>⟨by rw [he k (Nat.le_refl _) (by simp)];exact h.1,Ez.QL r (k+1) x.2 us (λj hj hl=>he j (by omega) (by simp;omega)) h.2⟩
theorem um {st:St} {n:Nat} {as:List AC} : ∀ {ks:List (Nat×Nat)},uk st n as ks-> ∀kj∈ks,∃l off len e te rows out p,as[kj.2]?=some (.own l off len)/\Ad st.heap l=some (.Al e te rows out (some p))/\p.1=Bu false kj.1/\n<=p.2/\kj.1<1000
 | [],_,kj,hm=>by cases hm
 |(k,j)::r,h,kj,hm=>by
  simp only [uk] at h
  rcases List.mem_cons.1 hm with rfl|hm
  ·obtain ⟨h,_⟩:=h
   split at h
   ·rename_i l off len he
    split at h
    ·rename_i e te rows out p hl
     unfold St.at at hl
     exact ⟨l,off,len,e,te,rows,out,p,he,hl,h.1,h.2.1,by simpa using h.2.2⟩
    ·exact h.elim
   ·exact h.elim
  ·exact um h.2 kj hm
theorem uC {st:St} : ∀(cs:List CK) (as:List AC) (x:CKs.den cs) (ls:List Nat),Py st cs as=some (x,ls)->as.length=cs.length
 | [],[],_,_,_=>rfl
 | [],_::_,_,_,he=>by simp [Py] at he
 |_::_,[],_,_,he=>by simp [Py] at he
 |c::r,a::as,x,ls,he=>by
  simp only [Py] at he
  split at he
  ·rename_i h1 h2
   simp only [List.length_cons,uC r as _ _ h2]
  ·cases he
theorem AH {α β:Type} (f:α->Sem β): ∀(l:List α) (vs:List β),vs.length=l.length->(∀(i:Nat) a v,l[i]?=some a->vs[i]?=some v->(f a).run P w= .ok v w)->(l.mapM f).run P w= .ok vs w
 | [],[],_,_=>by simp
 | [],_::_,h,_=>by simp at h
 |_::_,[],h,_=>by simp at h
 |a::l,v::vs,h,hr=>by
  rw [List.mapM_cons]
  simp only [Sem.run_bind,hr 0 a v rfl rfl,Result.andThen_ok,AH f l vs (by simpa using h) (λi a' v' ha hv=>hr (i+1) a' v' (by simpa using ha) (by simpa using hv)),Sem.run_pure]
theorem sa (hT:By P T) (Kl:Gq P Γ) (hm:P.follows .mixedOrders=true) {f:FuncId} {fn:Func} (hf:P.funcs[f]?=some fn) (s:MSpec) (w:World) (S:Nat->Prop) (π:Pi) (us:List Value) (x:Ins.den s.ins)
  (r:CKs.den s.outs) (o:IOs.den s.ins) (g:Nat) (jm:List Value) (Lx:l9 s w g us jm) (hSg:s.ptr.isSome=true->S g) (dJ:bh w (λb=>Qi π b\/S b) π 0 s.ins x us) (fo:da π (λb=>b<w.heap.size)) (hS: ∀b,S b->b<w.heap.size/\ ¬Qi π b) (QX: ∀l,Ad (Uh 0 s.ins x) l=none->π l=none) (he:ZJ T Γ s fn x λz=>z=(r,o)):
  Calls P f jm.toArray w λe w'=> ∃v Rl ρ,e= .returned v/\oT s w' ρ (Rl.drop s.Vn) v/\ij s π w' g Rl o/\Gg w.heap.size (λb=>Qi π b\/s.gv g b) w w'/\Hm w' (fV S π ρ) π 0 s.ins o/\Ez w' (fV S π ρ) ρ 0 s.outs r Rl/\
   da ρ (λb=>b<w'.heap.size/\(w.heap.size<=b\/ ∃l q,l<Am/\π l=some q/\q.Bg b))/\(∀l,(∀k,k<s.Pg->l≠Fy k)->ρ l=none)/\(∀kj∈s.keeps,xW w w' (π (Bu false kj.1)) (ρ (Fy kj.2)) (s.Cn x)):=by
 obtain ⟨hlen,c,hb,he⟩:=he
 simp only [Bool.and_eq_true,Nat.blt_eq] at hlen
 obtain ⟨hlen,RC⟩:=hlen
 unfold wT at RC
 simp only [Bool.and_eq_true] at RC
 have Agr:=RC.1
 let nK:Pi:=Aj3 s g π
 let Sg:Nat->Prop:= λb=>S b/\ ¬s.gv g b
 have hvl: ∀b j,j<1000->Bu b j≠Kg:= λb j hj=>by cases b<;>(unfold Bu Kg;simp;omega)
 have w8: ∀b j,0<=j->j<0+s.ins.length->nK (Bu b j)=π (Bu b j):= λb j _ hj=>if_neg λh=>hvl b j (by omega) h.2
 have Aae: ∀b j,0<=j->j<0+s.ins.length->π (Bu b j)=nK (Bu b j):= λb j h1 h2=>(w8 b j h1 h2).symm
 have Acz:Ad (Uh 0 s.ins x) Kg=none:=Classical.byContradiction λhn=>by
  obtain ⟨b,j,_,h2,h3⟩:=pT s.ins 0 x Kg hn
  exact hvl b j (by omega) h3.symm
 have OL: ∀l q,nK l=some q->(π l=some q/\(s.ptr.isSome=true->l≠Kg))\/(s.ptr.isSome=true/\l=Kg/\q=⟨g,0,0,λb=>b=g,λb=>b=g⟩):= λl q hq=>by
  have hq:(if s.ptr.isSome=true/\l=Kg then some ⟨g,0,0,λb=>b=g,λb=>b=g⟩ else π l)=some q:=hq
  split at hq
  ·rename_i hc;exact .inr ⟨hc.1,hc.2,(Option.some.inj hq).symm⟩
  ·rename_i hc;exact .inl ⟨hq,λh1 h2=>hc ⟨h1,h2⟩⟩
 have aG: ∀b,Qi nK b↔Qi π b\/s.gv g b:= λb=>by
  constructor
  ·rintro ⟨l,q,h1,h2⟩
   rcases OL l q h1 with ⟨h3,_⟩|⟨h3,h4,rfl⟩
   ·exact .inl ⟨l,q,h3,h2⟩
   ·exact .inr ⟨h3,h2⟩
  ·rintro (⟨l,q,h1,h2⟩|⟨h1,rfl⟩)
   ·refine ⟨l,q,?_,h2⟩
    show (if s.ptr.isSome=true/\l=Kg then _ else π l)=some q
    rw [if_neg]
    ·exact h1
    ·rintro ⟨_,rfl⟩
     rw [QX Kg Acz] at h1;cases h1
   ·exact ⟨Kg,⟨b,0,0,λc=>c=b,λc=>c=b⟩,if_pos ⟨h1,rfl⟩,rfl⟩
 have hgS: ∀b,s.gv g b->S b:= λb ⟨h1,h2⟩=>h2▸hSg h1
 have Ac4:bh w (λb=>Qi nK b\/Sg b) nK 0 s.ins x us:=bh.congr s.ins 0 x us w8 (bh.En (λb hb=>by
  rcases hb with hb|hb
  ·rcases (aG b).1 hb with hb|hb
   ·exact .inl hb
   ·exact .inr (hgS b hb)
  ·exact .inr hb.1) s.ins 0 x us dJ)
 have Agw:da nK (λb=>b<w.heap.size):=⟨λl q b h1 h2=>by
  rcases OL l q h1 with ⟨h3,_⟩|⟨h3,h4,rfl⟩
  ·exact fo.Vq l q b h3 h2
  ·exact (hS b (hgS b ⟨h3,h2⟩)).1,λl l' q q' b h1 h2 h3 h4=>by
  rcases OL l q h1 with ⟨h5,_⟩|⟨h5,h6,rfl⟩<;>rcases OL l' q' h2 with ⟨h7,_⟩|⟨h7,h8,rfl⟩
  ·exact fo.inj l l' q q' b h5 h7 h3 h4
  ·exact absurd ⟨l,q,h5,h3⟩ (hS b (hgS b ⟨h7,h4⟩)).2
  ·exact absurd ⟨l',q',h7,h4⟩ (hS b (hgS b ⟨h5,h3⟩)).2
  ·rw [h6,h8]⟩
 have Al5: ∀b,Sg b->b<w.heap.size/\ ¬Qi nK b:= λb hb=>⟨(hS b hb.1).1,λho=>((aG b).1 ho).elim (hS b hb.1).2 hb.2⟩
 have JH: ∀l,Ad (mW s x) l=match Ad (Uh 0 s.ins x) l with|some b=>some b|none=>if l=Kg then s.ptr.map λp=> .var p.1 ((Xj 0 s.ins x).take p.2) else none:= λl=>by
  unfold mW
  cases hp:s.ptr with
  |none=>cases Ad (Uh 0 s.ins x) l<;>simp
  |some p=>
   simp only
   rw [mT]
   cases Ad (Uh 0 s.ins x) l with
   |some b=>rfl
   |none=>
    simp only [Ad,Option.map_some]
    by_cases e:l=Kg
    ·rw [if_pos e,if_pos e.symm]
    ·rw [if_neg e,if_neg (λh=>e h.symm)]
 let π0:Pi:= λl=>(nK l).map full
 have un: ∀l q,π0 l=some q-> ∃q0,nK l=some q0/\q=full q0:= λl q hq=>by
  have hq:(nK l).map full=some q:=hq
  cases hp:nK l with
  |none=>rw [hp] at hq;cases hq
  |some q0=>rw [hp] at hq;exact ⟨q0,rfl,(Option.some.inj hq).symm⟩
 have RE: ∀l b,Ad (Uh 0 s.ins x) l=some b->Ad (mW s x) l=some b:= λl b hb=>by rw [JH l,hb]
 have hrc:Io ⟨w,Sg,Qi nK,π0⟩ w π0 (mW s x) (Xj 0 s.ins x) us:=zd (λ_=>rfl) s.ins 0 x us (by omega) Ac4 RE
 have SA:s.ptr.isSome=true->π0 Kg=some ⟨g,0,0,λb=>b=g,λb=>b=g⟩:= λhp=>by
  show (if s.ptr.isSome=true/\Kg=Kg then _ else π Kg).map full=_
  rw [if_pos ⟨hp,rfl⟩];rfl
 obtain ⟨g1,g2⟩:(Vm s (Xj 0 s.ins x)).length=jm.length/\ ∀(i:Nat) c v,(Vm s (Xj 0 s.ins x))[i]?=some c->jm[i]?=some v->Ao ⟨w,Sg,Qi nK,π0⟩ w π0 (mW s x) c v:=by
  unfold l9 at Lx
  cases hp:s.ptr with
  |none=>
   rw [hp] at Lx
   obtain ⟨rfl,CJ⟩:=Lx
   obtain ⟨g1,g2,_,_⟩:=aD s.Eh _ us CJ hrc
   rw [show Vm s (Xj 0 s.ins x)=Ns s.Eh (Xj 0 s.ins x) by unfold Vm;rw [hp]]
   exact ⟨g1,g2⟩
  |some p=>
   rw [hp] at Lx
   obtain ⟨rfl,CJ,_⟩:=Lx
   obtain ⟨g1,g2,_,_⟩:=aD s.Eh _ (us.drop p.2) CJ (Io.take p.2 hrc).2
   rw [show Vm s (Xj 0 s.ins x)= .at (.Du Kg 0)::Ns s.Eh ((Xj 0 s.ins x).drop p.2) by unfold Vm;rw [hp]]
   refine ⟨by simp [g1],λi c v h1 h2=>?_⟩
   rcases i with _|i
   ·simp only [List.getElem?_cons_zero,Option.some.injEq] at h1 h2
    subst h1;subst h2
    exact ⟨_,p.1,(Xj 0 s.ins x).take p.2,by rw [JH,Acz];simp [hp],SA (by rw [hp];rfl),rfl⟩
   ·exact g2 i c v (by simpa using h1) (by simpa using h2)
 have h0:Rel ⟨w,Sg,Qi nK,π0⟩ {tmps:=Vm s (Xj 0 s.ins x)++List.replicate (fn.ntmps-(Vm s (Xj 0 s.ins x)).length) .undef,heap:=mW s x}
   {tmps:=jm.toArray++Array.replicate (fn.ntmps-jm.toArray.size) undef,defers:= []} w:=by
  refine ⟨π0,⟨Gg.refl _ _ _,λb hb=>Al5 b hb,λl q b h1 h2=>?_,λl q b h1 h2=>?_,λl l' q q' b h1 h2 h3 h4=>?_,λl _ _=>Wx.rfl' _,λl=>?_⟩,⟨by simp [g1],rfl,λt=>?_⟩⟩
  ·obtain ⟨q0,_,rfl⟩:=un l q h1;exact h2
  ·obtain ⟨q0,h3,rfl⟩:=un l q h1
   exact ⟨.inr ⟨l,q0,h3,h2⟩,Agw.Vq l q0 b h3 h2⟩
  ·obtain ⟨q0,h5,rfl⟩:=un l q h1
   obtain ⟨q0',h6,rfl⟩:=un l' q' h2
   exact Agw.inj l l' q0 q0' b h5 h6 h3 h4
  ·cases hh:Ad (Uh 0 s.ins x) l with
   |none=>
    by_cases hv:s.ptr.isSome=true/\l=Kg
    ·obtain ⟨hps,rfl⟩:=hv
     obtain ⟨p,hp⟩:=Option.isSome_iff_exists.1 hps
     refine Cx.Hc (b:= .var p.1 ((Xj 0 s.ins x).take p.2)) ?_ (by rw [JH,hh];simp [hp])
     unfold l9 at Lx
     rw [hp] at Lx
     obtain ⟨_,_,h1,h2,h3⟩:=Lx
     rw [SA hps]
     exact ⟨_,rfl,rfl,_,h2,Io.to (Io.take p.2 hrc).1 h3⟩
    ·refine Cx.Oq ?_ ?_
     ·show (if s.ptr.isSome=true/\l=Kg then _ else π l).map full=none
      rw [if_neg hv,QX l hh];rfl
     ·rw [JH,hh]
      simp only
      split
      ·rename_i e
       cases hp:s.ptr with
       |none=>rfl
       |some p=>exact absurd ⟨by rw [hp];rfl,e⟩ hv
      ·rfl
   |some b=>exact Cx.Hc (iI (π0:=nK) (λb hb=>by
    rcases hb with ⟨l,q,h1,h2⟩|hb|⟨hb,_⟩
    ·obtain ⟨q0,h3,rfl⟩:=un l q h1;exact .inl ⟨l,q0,h3,h2⟩
    ·exact .inr hb
    ·cases hb) rfl (λ_=>rfl) s.ins 0 x us Ac4 l b hh) (RE l b hh)
  ·show Ao _ w _ _ ((Vm s (Xj 0 s.ins x)++List.replicate _ AV.undef).getD t .undef) ((jm.toArray++Array.replicate _ undef).getD t undef)
   by_cases ht:t<jm.length
   ·rw [List.getD_eq_getElem?_getD,List.getElem?_append_left (by omega),<-List.getD_eq_getElem?_getD]
    rw [Array.getD_eq_getD_getElem?,Array.getElem?_append_left (by simpa using ht)]
    have:=g2 t _ _ (List.getElem?_eq_getElem (by omega)) (List.getElem?_eq_getElem ht)
    simpa [List.getD_eq_getElem?_getD,List.getElem?_eq_getElem ht,List.getElem?_eq_getElem (show t<(Vm s (Xj 0 s.ins x)).length by omega)] using this
   ·have:(Vm s (Xj 0 s.ins x)++List.replicate (fn.ntmps-(Vm s (Xj 0 s.ins x)).length) AV.undef).getD t .undef= .undef:=by
     rw [List.getD_eq_getElem?_getD,List.getElem?_append_right (by omega)]
     rw [List.getElem?_replicate]
     split<;>rfl
    rw [this];trivial
 have fin: ∀(st:St) (a':Act) (w':World),PS T s fn x st (λz=>z=(r,o))->Rel ⟨w,Sg,Qi nK,π0⟩ st a' w'->Afj P s fn x w S π g r o a' w':=by
  intro st a' w' nT hrel
  obtain ⟨Yd,h'⟩:=hrel
  have Aal:Am<=Kg:=by unfold Am Kg;omega
  obtain ⟨bc,mR,An2,hbc⟩: ∃bc,fI T s fn x st bc (λz=>z=(r,o))/\(s.ptr.isSome=true-> ∃b,Ad st.heap Kg=some b/\b.row=none)/\
    (Jx st 0 s.ins=some o-> ∃bv,Io ⟨w,Sg,Qi nK,π0⟩ w' Yd st.heap bc bv/\bv.length=s.Vn/\ ∀tl,ij s π w' g (bv++tl) o):=by
   unfold PS at nT
   cases hp:s.ptr with
   |none=>
    rw [hp] at nT
    exact ⟨[],nT,λh=>by simp at h,λ_=>⟨[],trivial,by simp [MSpec.Vn,hp],λtl=>by simp [ij,hp]⟩⟩
   |some p=>
    rw [hp] at nT
    obtain ⟨vs,cs,h1,h2,h3,h4,h5⟩:=nT
    unfold St.at at h1
    refine ⟨cs,h5,λ_=>⟨_,h1,rfl⟩,λvZ=>?_⟩
    obtain ⟨q,k1,k2,cur,k3,k4⟩:=(h'.1.heap Kg).Ma h1
    have hsv:Wx (π0 Kg) (Yd Kg):=h'.1.cW Kg Aal (by rw [h1];simp)
    rw [SA (by rw [hp];rfl),k1] at hsv
    have hqg:g=q.g:=hsv.1
    obtain ⟨bv,g1,g2,g3⟩:=Tp (π0:=nK) (λk hk=>h'.1.cW _ (Nat.le_of_not_lt (Wk k)) hk) s.ins 0 vs cur.toList cs o (Io.of k4) h3 h4 vZ
    refine ⟨bv,g1,by rw [g2,h2];simp [MSpec.Vn,hp],λtl=>?_⟩
    unfold ij
    rw [hp]
    refine ⟨cur.toList,by rw [hqg];simpa using k3,λu hu=>?_,Ce.congr s.ins 0 o p.2 _ _ Aae (h2▸g3 tl)⟩
    obtain ⟨i,hi,rfl⟩:=List.mem_iff_getElem.1 hu
    have hl:=k4.1
    obtain ⟨u',h6,h7,_⟩:=k4.2 i (vs[i]'(by omega)) (List.getElem?_eq_getElem _)
    rw [List.getElem?_eq_getElem hi] at h6
    rw [Option.some.inj h6];exact h7
  unfold fI at mR
  split at mR
  ·exact mR.elim
  rename_i l hl
  split at mR
  ·exact mR.elim
  rename_i as ml cS
  split at mR
  rotate_left
  ·exact mR.elim
  rename_i r' ls o' DX mQ
  obtain ⟨Fh,ub,RS⟩:=mR
  simp only [Bool.and_eq_true,Nat.blt_eq] at Fh
  obtain ⟨⟨⟨JK,Aqp⟩,Ap1⟩,Agm⟩:=Fh
  simp only [Prod.mk.injEq] at RS
  obtain ⟨rfl,rfl⟩:=RS
  obtain ⟨bv,hbv,Alh,Alf⟩:=hbc mQ
  have DV:=Sr JK
  obtain ⟨n1,n2,n3⟩:=List.nodup_append.1 DV
  obtain ⟨m1,m2,m3⟩:=List.nodup_append.1 n1
  obtain ⟨vs,v1,v2,v3,v4⟩:=Su hT h' _ _ hl
  have XS:fn.results=fn.results.toList.toArray:=Array.toArray_toList.symm
  have Qg: ∀v,(if h:vs.toArray.size=1 then vs.toArray[0] else .tuple vs.toArray)=v->(results fn a'.tmps).run P w'= .ok v w':=by
   intro v hv
   rw [bT,XS,List.mapM_toArray]
   simp only [map_eq_pure_bind,bind_assoc,pure_bind]
   simp only [Sem.run_bind,AH (GI a'.tmps) _ vs v1 v3,Result.andThen_ok,Sem.run_pure]
   rw [hv]
  obtain ⟨tn,v,qm,Amz,hv,hqm⟩: ∃tn v qm,Io ⟨w,Sg,Qi nK,π0⟩ w' Yd st.heap as tn/\(results fn a'.tmps).run P w'= .ok v w'/\
    ((s.rp=none/\ml= []/\qm=none/\UA s.Cs s.Di tn v/\Zf s.Di tn)\/
     ∃tid m q,s.rp=some tid/\ml= [m]/\m<Am/\qm=some q/\Yd m=some q/\q.Bg q.g/\w'.heap[q.g]?=some (.cells tn.toArray tid (0,0))/\(∀u∈tn,u.oneCell'=true)/\v= .pointer (some ⟨q.g,0,none⟩)):=by
   unfold GH at cS
   split at cS
   ·rename_i CI
    split at cS
    rotate_left
    ·cases cS
    rename_i hmul
    cases l8:ungroup s.Di l with
    |none=>rw [l8] at cS;cases cS
    |some as'=>
     rw [l8] at cS
     simp only [Option.map_some,Option.some.injEq,Prod.mk.injEq] at cS
     obtain ⟨rfl,rfl⟩:=cS
     obtain ⟨tn,e1,e2,e3⟩:=Us s.Di l vs as' (by omega) v4 l8
     have hv: ∃v,(results fn a'.tmps).run P w'= .ok v w'/\UA s.Cs s.Di tn v:=by
      unfold UA
      rw [<-e1,hmul]
      rcases Nat.lt_or_ge 1 l.length with h1|h1
      ·have QT:Nat.blt 1 l.length=true:=by simpa using h1
       simp only [QT,if_true]
       refine ⟨.tuple vs.toArray,Qg _ ?_,rfl⟩
       rw [dif_neg (by simp;omega)]
      ·have QT:Nat.blt 1 l.length=false:=by rw [<-Bool.not_eq_true];simpa using h1
       simp only [QT,Bool.false_eq_true,if_false]
       rcases vs with _|⟨v,_|⟨v',vs⟩⟩
       ·exact ⟨_,Qg _ (by simp;rfl), .inr rfl⟩
       ·exact ⟨v,Qg _ (by simp), .inl rfl⟩
       ·exfalso;simp only [List.length_cons] at v1;omega
     obtain ⟨v,hv1,hv2⟩:=hv
     exact ⟨tn,v,none,e3,hv1, .inl ⟨CI,rfl,rfl,hv2,e2⟩⟩
   ·rename_i tid CI
    split at cS
    rotate_left
    ·cases cS
    rename_i m i
    split at cS
    rotate_left
    ·cases cS
    rename_i Pn vs' hm
    split at cS
    rotate_left
    ·cases cS
    rename_i hc
    obtain ⟨rfl,rfl,WI⟩:=hc
    simp only [Option.some.injEq,Prod.mk.injEq] at cS
    obtain ⟨rfl,rfl⟩:=cS
    unfold St.at at hm
    rcases vs with _|⟨v,_|⟨v',vs⟩⟩
    ·exfalso;simp only [List.length_cons,List.length_nil] at v1 v2;omega
    ·obtain ⟨q,Asw,vs2,q1,q2,q3⟩:=v4 0 _ v rfl rfl
     rw [hm] at q1;cases q1
     obtain ⟨q',k1,k2,cur,k3,k4⟩:=(h'.1.heap m).Ma hm
     rw [q2] at k1;cases k1
     refine ⟨cur.toList,v,some q,Io.of k4,Qg _ (by simp), .inr ⟨_,m,q,CI,rfl,by simpa using WI,rfl,q2,k2,by simpa using k3,λu hu=>?_,q3⟩⟩
     obtain ⟨i,hi,rfl⟩:=List.mem_iff_getElem.1 hu
     have hl:=k4.1
     obtain ⟨u',h6,h7,_⟩:=k4.2 i (vs'[i]'(by omega)) (List.getElem?_eq_getElem _)
     rw [List.getElem?_eq_getElem hi] at h6
     rw [Option.some.inj h6];exact h7
    ·exfalso;simp only [List.length_cons,List.length_nil] at v1 v2;omega
  obtain ⟨xU,p1,p2,p3,p4,p5⟩:=uD h'.1 s.outs 0 (bc++as) (bv++tn) r' ls (hbv.append Amz) DX m2
  obtain ⟨io1,io2⟩:=Pa (π0:=nK) h'.1 (λ_=>rfl) s.ins 0 x us o' Ac4 mQ
  have Ag9:(bv++tn).drop s.Vn=tn:=by rw [<-Alh];simp
  let ρ:Pi:= λl0=>if l0=Fy s.outs.length then qm else xU l0
  have Ad4:ρ (Fy s.outs.length)=qm:=if_pos rfl
  have Ahq: ∀l0,l0≠Fy s.outs.length->ρ l0=xU l0:= λl0 h=>if_neg h
  have Ahp: ∀j,j<s.outs.length->ρ (Fy j)=xU (Fy j):= λj hj=>Ahq _ (by unfold Fy;omega)
  have rQ: ∀l0 q,ρ l0=some q->(l0=Fy s.outs.length/\qm=some q)\/(l0≠Fy s.outs.length/\xU l0=some q):= λl0 q h=>by
   by_cases e:l0=Fy s.outs.length
   ·subst e;rw [Ad4] at h;exact .inl ⟨rfl,h⟩
   ·rw [Ahq l0 e] at h;exact .inr ⟨e,h⟩
  have Ah1: ∀q,qm=some q-> ∃m,ml= [m]/\m<Am/\Yd m=some q:= λq hq=>by
   rcases hqm with ⟨_,_,h1,_⟩|⟨_,m,q',_,h1,h2,h3,h4,_⟩
   ·rw [h1] at hq;cases hq
   ·rw [h3] at hq;cases hq;exact ⟨m,h1,h2,h4⟩
  have p3': ∀l0 q b,ρ l0=some q->q.Bg b-> ∃l1∈ml++ls,∃p,Yd l1=some p/\p.cl b/\((s.outs.all λc=>!c.isX)=true->p.Bg b)/\((l1∈ls)\/l1<Am):= λl0 q b h1 h2=>by
   rcases rQ l0 q h1 with ⟨_,h3⟩|⟨_,h3⟩
   ·obtain ⟨m,e1,e2,e3⟩:=Ah1 q h3
    exact ⟨m,by rw [e1];simp,q,e3,h'.1.sub m q b e3 h2,λ_=>h2, .inr e2⟩
   ·obtain ⟨l1,g1,p,g2,g3,g4⟩:=p3 l0 q b h3 h2
    exact ⟨l1,List.mem_append_right _ g1,p,g2,g3,g4, .inl g1⟩
  have p4': ∀l0 l1 q q' b,ρ l0=some q->ρ l1=some q'->q.Bg b->q'.Bg b->l0=l1:= λl0 l1 q q' b h1 h2 h3 h4=>by
   have yy: ∀l0 q q' b,xU l0=some q->qm=some q'->q.Bg b->q'.Bg b->False:= λl0 q q' b h1 h2 h3 h4=>by
    obtain ⟨m,e1,e2,e3⟩:=Ah1 q' h2
    obtain ⟨l1,g1,p,g2,g3,_⟩:=p3 l0 q b h1 h3
    have:=h'.1.inj m l1 q' p b e3 g2 (h'.1.sub m q' b e3 h4) g3
    exact m3 m (by rw [e1];simp) l1 g1 this
   rcases rQ l0 q h1 with ⟨e1,h5⟩|⟨e1,h5⟩<;>rcases rQ l1 q' h2 with ⟨e2,h6⟩|⟨e2,h6⟩
   ·rw [e1,e2]
   ·exact (yy l1 q' q b h6 h5 h4 h3).elim
   ·exact (yy l0 q q' b h5 h6 h3 h4).elim
   ·exact p4 l0 l1 q q' b h5 h6 h3 h4
  have JO: ∀l0 q,Am<=l0->nK l0=some q->Ad st.heap l0≠none/\(l0∈Ky 0 s.ins\/ ∃b,Ad st.heap l0=some b/\b.row=none):= λl0 q h1 h2=>by
   rcases OL l0 q h2 with ⟨h3,_⟩|⟨h3,rfl,_⟩
   ·have vZ:=ui s.ins 0 x l0 Agr (by omega) (λhnn=>by rw [QX l0 hnn] at h3;cases h3) (by omega)
    exact ⟨io2 l0 vZ, .inl vZ⟩
   ·obtain ⟨b,h4,h5⟩:=An2 h3
    exact ⟨by rw [h4];simp, .inr ⟨b,h4,h5⟩⟩
  have hDO:(s.outs.all λc=>!c.isX)=true-> ∀b,fV Sg nK ρ b->Qi Yd b\/Sg b:=by
   intro hx b hb
   rcases hb with hb|⟨l0,q,h1,h2,h3⟩|⟨l0,q,h1,h2⟩
   ·exact .inr hb
   ·have hs:=h'.1.cW l0 h1 (JO l0 q h1 h2).1
    have hs:Wx ((nK l0).map full) (Yd l0):=hs
    rw [h2] at hs
    cases uc:Yd l0 with
    |none=>rw [uc] at hs;exact hs.elim
    |some q1=>rw [uc] at hs;exact .inl ⟨l0,q1,uc,(hs.2.2.2 b).1 h3⟩
   ·obtain ⟨m,_,p,hm2,_,hm4,_⟩:=p3' l0 q b h1 h2
    exact .inl ⟨m,p,hm2,hm4 hx⟩
  have hDD: ∀b,fV S π ρ b->fV Sg nK ρ b:= λb hb=>by
   rcases hb with hb|⟨l0,q,h1,h2,h3⟩|hb
   ·by_cases u9:s.gv g b
    ·obtain ⟨hps,rfl⟩:=u9
     exact .inr (.inl ⟨Kg,_,Aal,if_pos ⟨hps,rfl⟩,rfl⟩)
    ·exact .inl ⟨hb,u9⟩
   ·refine .inr (.inl ⟨l0,q,h1,?_,h3⟩)
    show (if s.ptr.isSome=true/\l0=Kg then _ else π l0)=some q
    rw [if_neg]
    ·exact h2
    ·rintro ⟨_,rfl⟩
     rw [QX Kg Acz] at h2;cases h2
   ·exact .inr (.inr hb)
  have PF:s.flat=true\/(s.outs.all λc=>!c.isX)=true:=by unfold MSpec.TB at Agm;simpa only [Bool.or_eq_true] using Agm
  have io1:Hm w' (fV S π ρ) π 0 s.ins o':=by
   refine Hm.congr s.ins 0 o' Aae ?_
   rcases PF with hf|hf
   ·unfold MSpec.flat at hf
    simp only [Bool.and_eq_true] at hf
    exact Hm.any s.ins 0 o' hf.2 io1
   ·exact Hm.En (λb hb=>hDO hf b (hDD b hb)) s.ins 0 o' io1
  have p1:Ez w' (fV S π ρ) ρ 0 s.outs r' (bv++tn):=by
   have p1:Ez w' (λb=>Qi Yd b\/Sg b) ρ 0 s.outs r' (bv++tn):=Ez.QL s.outs 0 r' _ (λj _ hj=>Ahp j (by omega)) p1
   rcases PF with hf|hf
   ·unfold MSpec.flat at hf
    simp only [Bool.and_eq_true] at hf
    exact Ez.any s.outs 0 r' (bv++tn) hf.1 p1
   ·exact Ez.En (λb hb=>hDO hf b (hDD b hb)) s.outs 0 r' (bv++tn) p1
  refine ⟨v,bv++tn,ρ,h'.2.defers,hv,?_,Alf tn,⟨h'.1.below.os,h'.1.below.tape,h'.1.below.output,h'.1.below.size,λk hk hn=>h'.1.below.block k hk λho=>hn ((aG k).1 ho)⟩,io1,p1,⟨λl0 q b h1 h2=>?_,p4'⟩,λl0 hl0=>?_,λkj PI=>?_⟩
  ·rw [Ag9]
   unfold oT
   rcases hqm with ⟨h1,_,_,h2⟩|⟨tid,m,q,h1,_,_,h3,_,h4,h5,h6,h7⟩
   ·rw [h1];exact h2
   ·rw [h1];exact ⟨q,by rw [Ad4,h3],h4,h5,h6,h7⟩
  ·obtain ⟨m,hm1,p,hm2,hm3,_,hm4⟩:=p3' l0 q b h1 h2
   obtain ⟨k1,k2⟩:=h'.1.place m p b hm2 hm3
   refine ⟨k2,k1.imp id λ⟨c0,q0,h5,h6⟩=>?_⟩
   have Ey:c0<Am:=Classical.byContradiction λhn=>by
    obtain ⟨Ek,vZ⟩:=JO c0 q0 (by omega) h5
    have hs:=h'.1.cW c0 (by omega) Ek
    have hs:Wx ((nK c0).map full) (Yd c0):=hs
    rw [h5] at hs
    cases uc:Yd c0 with
    |none=>rw [uc] at hs;exact hs.elim
    |some q1=>
     rw [uc] at hs
     have hf1:q1.Bg b:=(hs.2.2.2 b).1 h6
     have:=h'.1.inj c0 m q1 p b uc hm2 (h'.1.sub c0 q1 b uc hf1) hm3
     subst this
     rcases hm4 with hm4|hm4
     ·rcases vZ with vZ|⟨b1,QT,hb2⟩
      ·exact n3 c0 hm1 c0 vZ rfl
      ·obtain ⟨b2,hb3,hb4⟩:=qn s.outs _ _ _ DX c0 hm4
       rw [QT] at hb3;cases hb3
       exact hb4 hb2
     ·exact hn hm4
   refine ⟨c0,q0,Ey,?_,h6⟩
   rcases OL c0 q0 h5 with ⟨h7,_⟩|⟨_,h7,_⟩
   ·exact h7
   ·omega
  ·cases hp:ρ l0 with
   |none=>rfl
   |some q=>
    rcases rQ l0 q hp with ⟨e,h3⟩|⟨_,h3⟩
    ·refine absurd e (hl0 _ ?_)
     rcases hqm with ⟨_,_,h4,_⟩|⟨tid,m,q',h4,_⟩
     ·rw [h4] at h3;cases h3
     ·unfold MSpec.Pg;rw [h4];simp
    ·obtain ⟨j,_,j2,j3⟩:=p2 l0 q h3
     exact absurd j3 (hl0 j (by unfold MSpec.Pg;omega))
  ·obtain ⟨l0,off,len,e,te,rows,out,p,q1,q2,q3,q4,q5⟩:=um ub kj PI
   have hj:kj.2<s.outs.length:=by
    rw [<-uC s.outs _ _ _ DX]
    exact (List.getElem?_eq_some_iff.1 q1).1
   have e1:=p5 kj.2 l0 off len e te rows out (some p) q1 q2
   rw [Nat.zero_add] at e1
   rw [Ahp _ hj,e1]
   have hk:=((h'.1.heap l0).Ma q2).2
   obtain ⟨l1,n1⟩:=p
   simp only [KeptAt] at hk
   dsimp only at q3 q4
   subst q3
   have LS:π0 (Bu false kj.1)=(π (Bu false kj.1)).map full:=by
    show (if s.ptr.isSome=true/\Bu false kj.1=Kg then _ else π (Bu false kj.1)).map full=_
    rw [if_neg λh=>hvl false kj.1 q5 h.2]
   rw [LS] at hk
   unfold xW
   cases hp:π (Bu false kj.1) with
   |none=>
    rw [hp] at hk
    cases uc:Yd l0 with
    |none=>trivial
    |some q=>rw [uc] at hk;exact hk.elim
   |some q0=>
    rw [hp] at hk
    cases uc:Yd l0 with
    |none=>rw [uc] at hk;exact hk.elim
    |some q=>
     rw [uc] at hk
     obtain ⟨k1,k2,k3,k4⟩:=hk
     exact ⟨k1,k2,k3,λj hj hc=>k4 j (by omega) hc⟩
 refine calls_of_wp hf hb ?_
 refine (qK hT Kl hm he _ w _ h0 λe st a' w' ⟨Ek,nT⟩ h'=>?_).1
 obtain ⟨v,Rl,ρ,p1,p2,p3⟩:=fin st a' w' nT h'
 cases e with
 |normal=>exact ⟨p1,v,p2,v,Rl,ρ,rfl,p3⟩
 |ret=>exact ⟨p1,v,p2,v,Rl,ρ,rfl,p3⟩
 |exit id=>exact absurd rfl (Ek id)
end
end Go.Proofs.YtfolipnappekaaaGreat
