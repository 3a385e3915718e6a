/-
  Part 27 of the proof that the statement FnExactBoundHistogram holds.
-/
import Derived.Test.YtjbdmibbbpdnnaaGreatCBoundHistogram25
namespace Go.Proofs.YtjbdmibbbpdnnaaGreat
open Go.RowKit
section
variable {P:Program} {T:Tab} {Γ:Env} {X:Ctx} {w w':World} {π:Pi} {H:List (Nat×OB)}
theorem nf: ∀(cs:List (Bool×CK)) (k:Nat) (x:Ins.den cs) (l:Nat),Ad (Sd k cs x) l≠none-> ∃b j,k<=j/\j<k+cs.length/\l=Bl b j
 | [],_,_,_,h=>absurd rfl h
 |p::r,k,x,l,h=>by
  simp only [Sd] at h
  by_cases e:l=Bl p.1 k
  ·exact ⟨p.1,k,Nat.le_refl _,by simp,e⟩
  ·have:Ad (Sd (k+1) r x.2) l≠none:=by
    cases hc:dY (Bl p.1 k) p.2 x.1 with
    |none=>rw [hc] at h;exact h
    |some b=>rw [hc] at h;simpa only [c6,Ad,if_neg (Ne.symm e)] using h
   obtain ⟨b,j,h1,h2,h3⟩:=nf r (k+1) x.2 l this
   exact ⟨b,j,by omega,by simp;omega,h3⟩
theorem EH {p:Bool×CK} {r:List (Bool×CK)} {k:Nat} {x:Ins.den (p::r)} (hk:k+(r.length+1)<100000) {l:Nat} {b:OB} (h:Ad (Sd (k+1) r x.2) l=some b):Ad (Sd k (p::r) x) l=some b:=by
 obtain ⟨b',j,h1,h2,rfl⟩:=nf r (k+1) x.2 l (by rw [h];simp)
 simp only [Sd]
 cases dY (Bl p.1 k) p.2 x.1 with
 |none=>exact h
 |some c=>simp only [c6,Ad];rw [if_neg (CU (by omega) (by omega) (by omega))];exact h
theorem IL {D:Nat->Prop} (hD: ∀b,Be X.w0.heap.size X.Sc π false b->D b) (VA:X.w0=w) {l:Nat} {r:Option Real} (Yt:X.cO l=r.map full) {u:Value} {c:CK} {x:c.den} (h:Zq w D r u c x) {b:OB} (hb:dY l c x=some b):Av X w π H (r.map full) b:=by
 have Ry: ∀ {e:Ty} {es:List Value} {y:e.den},Cells w D e es y->Cells w (Be X.w0.heap.size X.Sc π false) e es y:= λ {e es y} h=>Cells.Cr (Nat.le_refl _) (λ_ _ _=>rfl) (λb _ hb=>hD b hb) e es y h
 cases c with
 |Ee τ=>cases hb
 |row e te=>
  simp only [dY,Option.some.injEq] at hb;subst hb
  obtain ⟨_,h⟩:=h
  simp only [aZ] at h
  simp only [Av,Fu]
  cases r with
  |none=>exact h
  |some q=>
   obtain ⟨k1,cu,ti,k2,k3,k4,k5,k6⟩:=h
   exact ⟨⟨k1.1,k1.2,λh=>by cases h⟩,cu,ti,k2,k3,k4,k5,λi y hy=>by
    obtain ⟨es,g1,g2,g3⟩:=k6 i y hy
    exact ⟨es,g1,g2,Ry g3⟩,λh=>by cases h⟩
 |Dq e te=>
  simp only [dY,Option.some.injEq] at hb;subst hb
  cases r<;>exact h.2
 |part e te=>
  simp only [dY,Option.some.injEq] at hb;subst hb
  obtain ⟨_,hf,h⟩:=h
  simp only [Av,Fu]
  cases r with
  |none=>exact h
  |some q=>
   obtain ⟨k1,cu,ti,k2,k3,k4,k5,k6⟩:=h
   exact ⟨⟨k1.1,k1.2,λh=>by cases h⟩,cu,ti,k2,k3,k4,k5,λi y hy=>by
    obtain ⟨es,g1,g2,g3⟩:=k6 i y hy
    exact ⟨es,g1,g2,Ry g3⟩,λh=>by cases h⟩
 |Al e te kp=>
  simp only [dY,Option.some.injEq] at hb;subst hb
  have h2:Tc w D r e x none:=h.2
  have h3:=Tc.Ez h2 hD
  refine ⟨by cases r<;>exact h3,?_⟩
  cases kp with
  |false=>trivial
  |true=>
   simp only [if_true,KeptAt]
   rw [Yt]
   cases r with
   |none=>trivial
   |some q=>exact ⟨rfl,rfl,rfl,λj _ _=>by rw [VA]⟩
theorem fI {D:Nat->Prop} (hD: ∀b,Be X.w0.heap.size X.Sc π false b->D b) (VA:X.w0=w) {π0:Pi} (Yt: ∀l,X.cO l=(π0 l).map full): ∀(cs:List (Bool×CK)) (k:Nat) (x:Ins.den cs) (us:List Value),Zr w D π0 k cs x us-> ∀l b,Ad (Sd k cs x) l=some b->Av X w π H ((π0 l).map full) b
 | [],_,_,_,_,_,_,h=>by cases h
 |_::_,_,_,[],h,_,_,_=>h.elim
 |p::r,k,x,u::us,h,l,b,hb=>by
  simp only [Sd] at hb
  cases hc:dY (Bl p.1 k) p.2 x.1 with
  |none=>rw [hc] at hb;exact fI hD VA Yt r (k+1) x.2 us h.2 l b hb
  |some c=>
   rw [hc] at hb
   simp only [c6,Ad] at hb
   split at hb
   ·rename_i e;subst e
    simp only [Option.some.injEq] at hb;subst hb
    exact IL hD VA (Yt _) h.1 hc
   ·exact fI hD VA Yt r (k+1) x.2 us h.2 l b hb
theorem w9 {S:Nat->Prop} {π0:Pi} {gv:Nat->Prop} {cO:Pi} (Sb: ∀l,π l=(π0 l).map full): ∀(cs:List (Bool×CK)) (k:Nat) (x:Ins.den cs) (us:List Value),k+cs.length<100000->Zr w (λb=>Na π0 b\/S b) π0 k cs x us->(∀l b,Ad (Sd k cs x) l=some b->Ad H l=some b)->
  Hx ⟨w,S,gv,cO⟩ w π H (Vf k cs x) us
 | [],_,_,[],_,_,_=>trivial
 | [],_,_,_::_,_,h,_=>h.elim
 |_::_,_,_,[],_,h,_=>h.elim
 |p::r,k,x,u::us,hk,h,hH=>by
  simp only [List.length_cons] at hk
  refine ⟨?_,w9 Sb r (k+1) x.2 us (by omega) h.2 λl b hb=>hH l b (EH hk hb)⟩
  have h1:=h.1
  have hh: ∀b,dY (Bl p.1 k) p.2 x.1=some b->Ad H (Bl p.1 k)=some b:= λb hb=>hH _ b (by simp only [Sd];rw [hb];simp [c6,Ad])
  have dK:=Sb (Bl p.1 k)
  obtain ⟨io,c⟩:=p
  dsimp only at h1 hh dK⊢
  generalize x.1=y at*
  cases c with
  |Ee τ=>
   show Bd w _ τ u y
   cases hf:τ.flat with
   |true=>exact Bd.flat hf h1.2
   |false=>
    refine h1.2.Ez λb _ hb=>?_
    rcases hb with ⟨l,q,h3,h4⟩|hb|⟨hb,_⟩
    ·rw [Sb l] at h3
     cases hp:π0 l with
     |none=>rw [hp] at h3;cases h3
     |some q0=>rw [hp] at h3;simp only [Option.map_some,Option.some.injEq] at h3;subst h3;exact .inl ⟨l,q0,hp,h4⟩
    ·exact .inr hb
    ·cases hb
  |row e te=>exact ⟨_,e.size,List.length y,hh _ rfl,rfl,by simp,by rw [dK];exact Sl h1.1⟩
  |Dq e te=>exact ⟨_,e.size,List.length y,hh _ rfl,rfl,by simp,by rw [dK];exact Sl h1.1⟩
  |part e te=>exact ⟨_,e.size,List.length y.1,hh _ rfl,rfl,h1.1.2,by rw [dK];exact Sl h1.1.1⟩
  |Al e te kp=>exact ⟨_,1,List.length y,hh _ rfl,rfl,by simp,by rw [dK];exact Sl h1.1⟩
theorem jA {p:Real} {s off len:Nat} {u:Value} {f:Nat->Prop} (h:Dz (some p) s off len u):Dz (some ⟨p.g,p.o+off,p.cap-off,f,f⟩) s 0 len u:=by
 obtain ⟨ad,h1,h2,h3⟩:=h
 exact ⟨ad,h1,by dsimp only;omega,λh0=>by dsimp only at h0;simpa using h3 (by omega)⟩
theorem nK {α:Type} {xs:List α} {off len i:Nat} {x:α} (h:((xs.drop off).take len)[i]?=some x):xs[off+i]?=some x:=by
 rw [List.getElem?_take] at h
 split at h
 ·rw [List.getElem?_drop] at h;exact h
 ·cases h
theorem Qe.part {P:Nat->Prop} {g o:Nat} {cur:Array Value} {e:Ty} {xs:List e.den} (off len:Nat) (h:Qe w P g o cur e xs):Qe w P g (o+off) cur e ((xs.drop off).take len):=by
 obtain ⟨Fs,t1,t2,t3,t4⟩:=h
 refine ⟨(Fs.drop off).take len,by simp [t1],List.nodup_cons.2 ⟨λhm=>(List.nodup_cons.1 t2).1 (Lx off len _ hm),fP off len (List.nodup_cons.1 t2).2⟩,λb hb=>t3 b (Lx off len b hb),λi x F hx hF=>?_⟩
 obtain ⟨es,k1,k2,k3⟩:=t4 (off+i) x F (nK hx) (nK hF)
 exact ⟨es,k1,λj u hu=>by rw [Nat.add_assoc o off i];exact k2 j u hu,k3⟩
theorem EW {st:St} (h:Hw X w π st.heap) {c:CK} (hg: ∀e te kp,c≠ .Al e te kp) {a:AC} {u:Value} (hu:Ea X w π st.heap a u) {x:c.den} {ls:List Nat} (he:eb st c a=some (x,ls)):
  ∃r,Zq w (λb=>Na π b\/X.Sc b) r u c x/\ ∀q,r=some q-> ∃l p,ls= [l]/\π l=some p/\(∀b,q.Ay b->p.cl b)/\(c.SN=false-> ∀b,q.Ay b->p.Ay b):=by
 have IW: ∀ {f:Bool} (b:Nat),(Na π b\/X.Sc b)->Be X.w0.heap.size X.Sc π f b:= λb h=>h.imp id .inl
 cases c with
 |Ee τ=>
  simp only [eb] at he
  split at he
  ·rename_i hf
   cases hv:Bn st τ a with
   |none=>rw [hv] at he;cases he
   |some p=>
    obtain ⟨fr,y⟩:=p
    rw [hv] at he
    simp only [Option.map_some,Option.some.injEq,Prod.mk.injEq] at he
    obtain ⟨rfl,rfl⟩:=he
    refine ⟨none,⟨rfl,?_⟩,λq hq=>by cases hq⟩
    have Ez: ∀f,Bd w (Be X.w0.heap.size X.Sc π f) τ u y->Bd w (λb=>Na π b\/X.Sc b) τ u y:= λf hr=>hr.Ez λk _ hk=>IW k hk
    cases a with
    |data f Ja z=>
     rw [Im] at hv
     split at hv
     ·rename_i ht;subst ht
      simp only [Option.some.injEq,Prod.mk.injEq] at hv
      obtain ⟨_,rfl⟩:=hv
      exact Ez f hu
     ·have Ss:τ.Ac=false:=by unfold c8 at hv;split at hv<;>first|rfl|cases hv
      exact Ez _ ⟨[u],Xj hv hu,by simp [Ar,Ss]⟩
    |Hj=>
     have hu:u= .slice none 0 0:=hu
     subst hu
     cases τ<;>simp only [Bn,Option.some.injEq,Prod.mk.injEq,reduceCtorEq] at hv
     ·obtain ⟨_,rfl⟩:=hv;exact ⟨[_],⟨none,0,0,rfl,rfl,Nat.le_refl _, .inl rfl⟩,rfl⟩
     ·obtain ⟨_,rfl⟩:=hv;exact ⟨[_], .inl ⟨rfl,0,rfl⟩,rfl⟩
    |Qa=>
     have hu:u= .pointer none:=hu
     subst hu
     cases τ<;>simp only [Bn,Option.some.injEq,Prod.mk.injEq,reduceCtorEq] at hv
     obtain ⟨_,rfl⟩:=hv;exact ⟨[_], .inl ⟨rfl,rfl⟩,rfl⟩
    |_=>cases τ<;>simp [AC.settled,Ty.flat,Bn] at hf hv
  ·cases he
 |row e te=>
  cases a<;>simp only [eb] at he<;>try (cases he;done)
  ·simp only [Option.some.injEq,Prod.mk.injEq] at he
   obtain ⟨rfl,rfl⟩:=he
   have hu:u= .slice none 0 0:=hu
   exact ⟨none,⟨⟨hu,rfl,rfl⟩,rfl⟩,λq hq=>by cases hq⟩
  ·rename_i l off len
   split at he
   ·rename_i fr tr e' Lb xs hl
    split at he
    ·rename_i hc
     obtain ⟨rfl,rfl⟩:=hc
     simp only [Option.some.injEq,Prod.mk.injEq] at he
     obtain ⟨rfl,rfl⟩:=he
     unfold St.at at hl
     obtain ⟨h1,h2⟩:=Je hu hl
     have hb:=(h.heap l).blk hl
     simp only [Av,Fu] at hb
     have hlen:((xs.drop off).take len).length=len:=by simp;omega
     cases hp:π l with
     |none=>
      rw [hp] at h2 hb
      obtain ⟨rfl,rfl,rfl⟩:=h2
      exact ⟨none,⟨⟨rfl,rfl,by simp⟩,by show (xs.drop 0).take 0= [];simp⟩,λq hq=>by cases hq⟩
     |some p=>
      rw [hp] at h2 hb
      obtain ⟨k1,cur,ti,k2,k3,k4,k5,k6,_⟩:=hb
      have ho:=h2
      obtain ⟨ad,_,mU,_⟩:=h2
      refine ⟨some ⟨p.g,p.o+off,p.cap-off,p.Ay,p.Ay⟩,⟨by rw [hlen];exact jA ho,⟨k1.1,k1.2.1⟩,cur,ti,k2,by rw [k3];congr 1;dsimp only;omega,by dsimp only;omega,by rw [hlen];dsimp only;omega,λi y hy=>?_⟩,
       fun q hq=>by cases hq;exact ⟨l,p,rfl,hp,λb hb=>h.sub l p b hp hb,λ_ b hb=>hb⟩⟩
      obtain ⟨es,g1,g2,g3⟩:=k6 (off+i) y (nK hy)
      exact ⟨es,g1,λj u hu=>by dsimp only;rw [Nat.add_assoc p.o off i];exact g2 j u hu,Cells.Cr (Nat.le_refl _) (λ_ _ _=>rfl) (λb _ hb=>IW b hb) e' es y g3⟩
    ·cases he
   ·cases he
 |Dq e te=>
  cases a<;>simp only [eb] at he<;>try (cases he;done)
  ·simp only [Option.some.injEq,Prod.mk.injEq] at he
   obtain ⟨rfl,rfl⟩:=he
   have hu:u= .slice none 0 0:=hu
   exact ⟨none,⟨⟨hu,rfl,rfl⟩,rfl⟩,λq hq=>by cases hq⟩
  ·rename_i l off len
   split at he
   ·rename_i fr tr e' Lb xs hl
    split at he
    ·rename_i hc
     obtain ⟨rfl,rfl,hf⟩:=hc
     simp only [Option.some.injEq,Prod.mk.injEq] at he
     obtain ⟨rfl,rfl⟩:=he
     unfold St.at at hl
     obtain ⟨h1,h2⟩:=Je hu hl
     have hb:=(h.heap l).blk hl
     simp only [Av,Fu] at hb
     have hlen:((xs.drop off).take len).length=len:=by simp;omega
     cases hp:π l with
     |none=>
      rw [hp] at h2 hb
      obtain ⟨rfl,rfl,rfl⟩:=h2
      exact ⟨none,⟨⟨rfl,rfl,by simp⟩,by show (xs.drop 0).take 0= [];simp⟩,λq hq=>by cases hq⟩
     |some p=>
      rw [hp] at h2 hb
      obtain ⟨k1,cur,ti,k2,k3,k4,k5,k6,k7⟩:=hb
      have ho:=h2
      obtain ⟨ad,_,mU,_⟩:=h2
      have ht:Qe w p.cl p.g p.o cur e' xs:=by
       simp only [Bool.or_eq_true] at hf
       rcases hf with hf|hf
       ·exact k7 hf
       ·exact gI hf k6
      exact ⟨some ⟨p.g,p.o+off,p.cap-off,p.cl,p.cl⟩,⟨by rw [hlen];exact jA ho,h.sub l p _ hp k1.1,cur,ti,k2,by rw [k3];congr 1;dsimp only;omega,by dsimp only;omega,by rw [hlen];dsimp only;omega,ht.part off len⟩,
       fun q hq=>by cases hq;exact ⟨l,p,rfl,hp,λb hb=>hb,λhx=>by cases hx⟩⟩
    ·cases he
   ·rename_i e' Lb xs hl
    split at he
    ·rename_i hc
     obtain ⟨rfl,rfl⟩:=hc
     simp only [Option.some.injEq,Prod.mk.injEq] at he
     obtain ⟨rfl,rfl⟩:=he
     unfold St.at at hl
     obtain ⟨h1,h2⟩:=Vs hu hl
     have hb:=(h.heap l).blk hl
     simp only [Av,Io] at hb
     have hlen:((xs.drop off).take len).length=len:=by simp;omega
     cases hp:π l with
     |none=>
      rw [hp] at h2 hb
      obtain ⟨rfl,rfl,rfl⟩:=h2
      exact ⟨none,⟨⟨rfl,rfl,by simp⟩,by show (xs.drop 0).take 0= [];simp⟩,λq hq=>by cases hq⟩
     |some p=>
      rw [hp] at h2 hb
      obtain ⟨k1,cur,ti,k2,k3,k4,k5,ht⟩:=hb
      have ho:=h2
      obtain ⟨ad,_,mU,_⟩:=h2
      exact ⟨some ⟨p.g,p.o+off,p.cap-off,p.Ay,p.Ay⟩,⟨by rw [hlen];exact jA ho,k1,cur,ti,k2,by rw [k3];congr 1;dsimp only;omega,by dsimp only;omega,by rw [hlen];dsimp only;omega,ht.part off len⟩,
       fun q hq=>by cases hq;exact ⟨l,p,rfl,hp,λb hb=>h.sub l p b hp hb,λ_ b hb=>hb⟩⟩
    ·cases he
   ·cases he
 |part e te=>cases a<;>simp [eb] at he
 |Al e te kp=>exact absurd rfl (hg e te kp)
theorem KW {st:St} (h:Hw X w π st.heap) {c:CK} {a:AC} {u:Value} (hu:Ea X w π st.heap a u) {x:c.den} {ls:List Nat} (he:eb st c a=some (x,ls)):
  ∃r,Zq w (λb=>Na π b\/X.Sc b) r u c x/\(∀q,r=some q-> ∃l p,ls= [l]/\π l=some p/\(∀b,q.Ay b->p.cl b)/\(c.SN=false-> ∀b,q.Ay b->p.Ay b))/\
   (∀l off len e te rows out kp,a= .own l off len->Ad st.heap l=some (.Al e te rows out kp)->r=π l):=by
 have p6:(∀e te kp,c≠ .Al e te kp)->(∀l off len e te rows out kp,a=AC.own l off len->Ad st.heap l=some (OB.Al e te rows out kp)->False)->
   ∃r,Zq w (λb=>Na π b\/X.Sc b) r u c x/\(∀q,r=some q-> ∃l p,ls= [l]/\π l=some p/\(∀b,q.Ay b->p.cl b)/\(c.SN=false-> ∀b,q.Ay b->p.Ay b))/\
   (∀l off len e te rows out kp,a= .own l off len->Ad st.heap l=some (.Al e te rows out kp)->r=π l):= λh1 h2=>by
  obtain ⟨r,g1,g2⟩:=EW h h1 hu he
  exact ⟨r,g1,g2,λl off len e te rows out kp h3 h4=>(h2 l off len e te rows out kp h3 h4).elim⟩
 cases c with
 |Ee τ=>
  refine p6 (λ_ _ _ h=>by cases h) λl off len e te rows out kp h3 h4=>?_
  subst h3
  simp only [eb] at he
  split at he
  ·rename_i hf
   cases τ<;>simp [AC.settled,Ty.flat,Bn] at hf he
  ·cases he
 |row e te=>
  refine p6 (λ_ _ _ h=>by cases h) λl off len e te rows out kp h3 h4=>?_
  subst h3
  simp only [eb,St.at,h4] at he
  cases he
 |Dq e te=>
  refine p6 (λ_ _ _ h=>by cases h) λl off len e te rows out kp h3 h4=>?_
  subst h3
  simp only [eb,St.at,h4] at he
  cases he
 |part e te=>cases a<;>simp [eb] at he
 |Al e te kp=>
  cases a<;>simp only [eb] at he<;>try (cases he;done)
  rename_i l off len
  split at he
  ·rename_i e' Lb rows kp' hl
   split at he
   ·rename_i hc
    obtain ⟨rfl,rfl,rfl,rfl⟩:=hc
    simp only [Option.some.injEq,Prod.mk.injEq] at he
    obtain ⟨rfl,rfl⟩:=he
    unfold St.at at hl
    obtain ⟨b,sz,n,h1,h2,_,h3⟩:=hu
    rw [hl] at h1;cases h1
    simp only [OB.row,Option.some.injEq,Prod.mk.injEq] at h2
    obtain ⟨rfl,rfl⟩:=h2
    have hb:=((h.heap l).blk hl).1
    refine ⟨π l,⟨h3,Tc.Ez hb λb hb=>hb.imp id .inl⟩,λq hq=>⟨l,q,rfl,hq,λb hb=>h.sub l q b hq hb,λ_ b hb=>hb⟩,λl' Al5 Al1 _ _ _ _ _ he _=>?_⟩
    simp only [AC.own.injEq] at he
    rw [he.1]
   ·cases he
  ·cases he
theorem Ew.congr {D:Nat->Prop} {ρ ρ':Pi} : ∀(cs:List CK) (k:Nat) (x:CKs.den cs) (us:List Value),(∀j,k<=j->ρ' (Fo j)=ρ (Fo j))->Ew w D ρ k cs x us->Ew w D ρ' k cs x us
 | [],_,_,[],_,h=>h
 | [],_,_,_::_,_,h=>h.elim
 |_::_,_,_,[],_,h=>h.elim
 |c::r,k,x,u::us,he,h=>⟨by rw [he k (Nat.le_refl _)];exact h.1,Ew.congr r (k+1) x.2 us (λj hj=>he j (by omega)) h.2⟩
theorem r9 {st:St} (h:Hw X w π st.heap): ∀(cs:List CK) (k:Nat) (as:List AC) (us:List Value) (x:CKs.den cs) (ls:List Nat),Hx X w π st.heap as us->Ob st cs as=some (x,ls)->ls.Nodup->
  ∃ρ:Pi,Ew w (λb=>Na π b\/X.Sc b) ρ k cs x us/\(∀l q,ρ l=some q-> ∃j,k<=j/\j<k+cs.length/\l=Fo j)/\(∀l q b,ρ l=some q->q.Ay b-> ∃l0∈ls,∃p,π l0=some p/\p.cl b/\((cs.all λc=>!c.SN)=true->p.Ay b))/\
   (∀l l' q q' b,ρ l=some q->ρ l'=some q'->q.Ay b->q'.Ay b->l=l')/\
   (∀(j l off len:Nat) e te rows out kp,as[j]?=some (.own l off len)->Ad st.heap l=some (.Al e te rows out kp)->ρ (Fo (k+j))=π l)
 | [],k,[],[],x,ls,_,he,_=>by
  simp only [Ob,Option.some.injEq,Prod.mk.injEq] at he
  exact ⟨λ_=>none,trivial,(λl q h=>by cases h),(λl q b h=>by cases h),(λl l' q q' b h=>by cases h),λj l off len e te rows out kp h=>by simp at h⟩
 | [],_,[],_::_,_,_,h,_,_=>h.elim
 | [],_,_::_,_,_,_,_,he,_=>by simp [Ob] at he
 |_::_,_,[],_,_,_,_,he,_=>by simp [Ob] at he
 |_::_,_,_::_,[],_,_,h,_,_=>h.elim
 |c::r,k,a::as,u::us,x,ls,hr,he,HT=>by
  simp only [Ob] at he
  split at he
  ·rename_i x1 t1 x2 t2 h1 h2
   simp only [Option.some.injEq,Prod.mk.injEq] at he
   obtain ⟨rfl,rfl⟩:=he
   obtain ⟨n1,n2,n3⟩:=List.nodup_append.1 HT
   obtain ⟨ρ,g1,g2,g3,g4,g5⟩:=r9 h r (k+1) as us x2 t2 hr.2 h2 n2
   obtain ⟨rr,r1,r2,r3⟩:=KW h hr.1 h1
   have vC: ∀l q q0 b,ρ l=some q->rr=some q0->q.Ay b->q0.Ay b->False:= λl q q0 b h3 h4 h5 h6=>by
    obtain ⟨l0,m0,p,p1,p2,_⟩:=g3 l q b h3 h5
    obtain ⟨l1,p',e1,p1',p2',_⟩:=r2 q0 h4
    have:=h.inj l0 l1 p p' b p1 p1' p2 (p2' b h6)
    exact n3 l1 (by rw [e1];simp) l0 m0 this.symm
   refine ⟨λl=>if l=Fo k then rr else ρ l,⟨by simpa using r1,Ew.congr r (k+1) x2 us (λj hj=>if_neg (by unfold Fo;omega)) g1⟩,λl q hq=>?_,λl q b hq hb=>?_,λl l' q q' b h3 h4 h5 h6=>?_,λj l off len e te rows out kp hj hl=>?_⟩
   ·dsimp only at hq
    by_cases e:l=Fo k
    ·exact ⟨k,Nat.le_refl _,by simp,e⟩
    ·rw [if_neg e] at hq
     obtain ⟨j,j1,j2,j3⟩:=g2 l q hq
     exact ⟨j,by omega,by simp;omega,j3⟩
   ·dsimp only at hq
    by_cases e:l=Fo k
    ·rw [if_pos e] at hq
     obtain ⟨l1,p',e1,p1',p2',p3'⟩:=r2 q hq
     exact ⟨l1,by rw [e1];simp,p',p1',p2' b hb,λhx=>p3' (by simp only [List.all_cons,Bool.and_eq_true,Bool.not_eq_true'] at hx;exact hx.1) b hb⟩
    ·rw [if_neg e] at hq
     obtain ⟨l0,m0,p,p1,p2,p3⟩:=g3 l q b hq hb
     exact ⟨l0,List.mem_append_right _ m0,p,p1,p2,λhx=>p3 (by simp only [List.all_cons,Bool.and_eq_true] at hx;exact hx.2)⟩
   ·dsimp only at h3 h4
    by_cases e:l=Fo k<;>by_cases e':l'=Fo k
    ·rw [e,e']
    ·rw [if_pos e] at h3;rw [if_neg e'] at h4
     exact (vC l' q' q b h4 h3 h6 h5).elim
    ·rw [if_neg e] at h3;rw [if_pos e'] at h4
     exact (vC l q q' b h3 h4 h5 h6).elim
    ·rw [if_neg e] at h3;rw [if_neg e'] at h4
     exact g4 l l' q q' b h3 h4 h5 h6
   ·rcases j with _|j
    ·simp only [List.getElem?_cons_zero,Option.some.injEq] at hj
     show (if Fo k=Fo k then rr else ρ (Fo k))=π l
     rw [if_pos rfl]
     exact r3 l off len e te rows out kp hj hl
    ·have:=g5 j l off len e te rows out kp (by simpa using hj) hl
     show (if Fo (k+(j+1))=Fo k then rr else ρ (Fo (k+(j+1))))=π l
     rw [if_neg (by unfold Fo;omega),<-this,show k+(j+1)=k+1+j by omega]
  ·cases he
theorem xh {r r':Option Real} (h:Us (r.map full) r') {e:Ty} {xs:List e.den} {te:TypeId} {fr tr:Bool} (ha:Fu X w π r' fr tr e te xs):Me w (λb=>Na π b\/X.Sc b) r e xs:=by
 cases r with
 |none=>cases r' with
  |none=>exact ha
  |some q=>exact h.elim
 |some p=>cases r' with
  |none=>exact h.elim
  |some q=>
   obtain ⟨e1,e2,e3,e4⟩:=h
   obtain ⟨k1,cur,ti,k2,k3,k4,k5,k6,_⟩:=ha
   have e1:p.g=q.g:=e1
   have e2:p.o=q.o:=e2
   have e3:p.cap=q.cap:=e3
   refine ⟨⟨by rw [e1];exact (e4 _).2 k1.1,λb hb=>by rw [e1];exact k1.2.1 b ((e4 b).1 hb)⟩,cur,ti,by rw [e1];exact k2,by rw [e2,e3];exact k3,by rw [e3];exact k4,by rw [e3];exact k5,λi y hy=>?_⟩
   obtain ⟨es,g1,g2,g3⟩:=k6 i y hy
   exact ⟨es,g1,by rw [e2];exact g2,Cells.Cr (Nat.le_refl _) (λ_ _ _=>rfl) (λb _ hb=>hb.imp id .inl) e es y g3⟩
theorem FW {r r':Option Real} (h:Us (r.map full) r') {e:Ty} {xs:List e.den} {te:TypeId} (ha:Io w r' e te xs):Io w r e te xs:=by
 cases r with
 |none=>cases r' with
  |none=>exact ha
  |some q=>exact h.elim
 |some p=>cases r' with
  |none=>exact h.elim
  |some q=>
   obtain ⟨e1,e2,e3,e4⟩:=h
   obtain ⟨k1,cur,ti,k2,k3,k4,k5,Fs,t1,t2,t3,t4⟩:=ha
   have e1:p.g=q.g:=e1
   have e2:p.o=q.o:=e2
   have e3:p.cap=q.cap:=e3
   exact ⟨by rw [e1];exact (e4 _).2 k1,cur,ti,by rw [e1];exact k2,by rw [e2,e3];exact k3,by rw [e3];exact k4,by rw [e3];exact k5,Fs,t1,by rw [e1];exact t2,λb hb=>(e4 b).2 (t3 b hb),by rw [e2];exact t4⟩
theorem Nk {st:St} {π0:Pi} {D:Nat->Prop} {w0:World} (h:Hw X w π st.heap) (Yt: ∀l,X.cO l=(π0 l).map full): ∀(cs:List (Bool×CK)) (k:Nat) (x:Ins.den cs) (us:List Value) (o:IOs.den cs),Zr w0 D π0 k cs x us->Jg st k cs=some o->
  Ha w (λb=>Na π b\/X.Sc b) π0 k cs o/\ ∀l∈Jz k cs,Ad st.heap l≠none
 | [],_,_,_,_,_,_=>⟨trivial,λl hl=>by cases hl⟩
 |_::_,_,_,[],_,h,_=>h.elim
 |(false,c)::r,k,x,u::us,o,hi,he=>Nk h Yt r (k+1) x.2 us o hi.2 (by simpa only [Jg] using he)
 |(true, .Ee τ)::r,k,x,u::us,o,hi,he=>Nk h Yt r (k+1) x.2 us o hi.2 (by simpa only [Jg] using he)
 |(true, .Al e te kp)::r,k,x,u::us,o,hi,he=>Nk h Yt r (k+1) x.2 us o hi.2 (by simpa only [Jg] using he)
 |(true, .row e te)::r,k,x,u::us,o,hi,he=>by
  simp only [Jg] at he
  split at he
  ·rename_i x1 x2 h1 h2
   simp only [Option.some.injEq] at he;subst he
   obtain ⟨g1,g2⟩:=Nk h Yt r (k+1) x.2 us x2 hi.2 h2
   have h0:=hi.1
   simp only [kb] at h1
   split at h1
   ·rename_i fr tr e' Lb xs hl
    split at h1
    ·rename_i hc
     obtain ⟨rfl,rfl⟩:=hc
     simp only [Option.some.injEq] at h1;subst h1
     unfold St.at at hl
     have hs:=h.cO (Bl true k) (by have:=Ug k;omega) (by rw [hl];simp)
     rw [Yt] at hs
     exact ⟨⟨xh (te:=Lb) hs ((h.heap _).blk hl),g1⟩,λl Gq=>by
      simp only [Jz] at Gq
      rcases List.mem_cons.1 Gq with rfl|Gq
      ·rw [hl];simp
      ·exact g2 l Gq⟩
    ·cases h1
   ·cases h1
  ·cases he
 |(true, .part e te)::r,k,x,u::us,o,hi,he=>by
  simp only [Jg] at he
  split at he
  ·rename_i x1 x2 h1 h2
   simp only [Option.some.injEq] at he;subst he
   obtain ⟨g1,g2⟩:=Nk h Yt r (k+1) x.2 us x2 hi.2 h2
   have h0:=hi.1
   simp only [kb] at h1
   split at h1
   ·rename_i fr tr e' Lb xs hl
    split at h1
    ·rename_i hc
     obtain ⟨rfl,rfl⟩:=hc
     simp only [Option.some.injEq] at h1;subst h1
     unfold St.at at hl
     have hs:=h.cO (Bl true k) (by have:=Ug k;omega) (by rw [hl];simp)
     rw [Yt] at hs
     exact ⟨⟨xh (te:=Lb) hs ((h.heap _).blk hl),g1⟩,λl Gq=>by
      simp only [Jz] at Gq
      rcases List.mem_cons.1 Gq with rfl|Gq
      ·rw [hl];simp
      ·exact g2 l Gq⟩
    ·cases h1
   ·cases h1
  ·cases he
 |(true, .Dq e te)::r,k,x,u::us,o,hi,he=>by
  simp only [Jg] at he
  split at he
  ·rename_i x1 x2 h1 h2
   simp only [Option.some.injEq] at he;subst he
   obtain ⟨g1,g2⟩:=Nk h Yt r (k+1) x.2 us x2 hi.2 h2
   simp only [kb] at h1
   split at h1
   ·rename_i e' Lb xs hl
    split at h1
    ·rename_i hc
     obtain ⟨rfl,rfl⟩:=hc
     simp only [Option.some.injEq] at h1;subst h1
     unfold St.at at hl
     have hs:=h.cO (Bl true k) (by have:=Ug k;omega) (by rw [hl];simp)
     rw [Yt] at hs
     exact ⟨⟨FW (te:=Lb) hs ((h.heap _).blk hl),g1⟩,λl Gq=>by
      simp only [Jz] at Gq
      rcases List.mem_cons.1 Gq with rfl|Gq
      ·rw [hl];simp
      ·exact g2 l Gq⟩
    ·cases h1
   ·cases h1
  ·cases he
theorem pB {p:Bool×CK} {r:List (Bool×CK)} (h:Sk (p::r)=true):Sk r=true:=by
 rcases p with ⟨_|_,c⟩<;>cases c<;>first|(simp [Sk] at h;done)|simpa [Sk] using h
theorem qO: ∀(cs:List (Bool×CK)) (k:Nat) (x:Ins.den cs) (l:Nat),Sk cs=true->k+cs.length<100000->Ad (Sd k cs x) l≠none-> ¬l<Ai->l∈Jz k cs
 | [],_,_,_,_,_,h,_=>absurd rfl h
 |(io,c)::r,k,x,l,ZT,hk,h,hp=>by
  simp only [List.length_cons] at hk
  simp only [Sd] at h
  have tail:Ad (Sd (k+1) r x.2) l≠none->l∈Jz (k+1) r:= λh=>qO r (k+1) x.2 l (pB ZT) (by omega) h hp
  have sub: ∀m,m∈Jz (k+1) r->m∈Jz k ((io,c)::r):= λm hm=>by
   cases io<;>cases c<;>simp only [Jz]<;>first|exact hm|exact List.mem_cons_of_mem _ hm
  cases hc:dY (Bl io k) c x.1 with
  |none=>rw [hc] at h;exact sub l (tail h)
  |some b=>
   rw [hc] at h
   simp only [c6,Ad] at h
   split at h
   ·rename_i e;subst e
    cases io with
    |false=>exact absurd (aF (by omega)) hp
    |true=>cases c with
     |Ee τ=>cases hc
     |row e te=>simp [Jz]
     |Dq e te=>simp [Jz]
     |part e te=>simp [Jz]
     |Al e te kp=>simp [Sk] at ZT
   ·exact sub l (tail h)
theorem Zq.Ez {D D':Nat->Prop} (hD: ∀b,D' b->D b) {r:Option Real} {u:Value} {c:CK} {x:c.den} (h:Zq w D r u c x):Zq w D' r u c x:=by
 cases c with
 |Ee τ=>exact ⟨h.1,h.2.Ez λb _ hb=>hD b hb⟩
 |row e te=>exact ⟨h.1,Me.Ez h.2 hD⟩
 |Dq e te=>exact h
 |part e te=>exact ⟨h.1,h.2.1,Me.Ez h.2.2 hD⟩
 |Al e te kp=>exact ⟨h.1,Tc.Ez h.2 hD⟩
theorem Ew.Ez {D D':Nat->Prop} (hD: ∀b,D' b->D b) {ρ:Pi} : ∀(cs:List CK) (k:Nat) (x:CKs.den cs) (us:List Value),Ew w D ρ k cs x us->Ew w D' ρ k cs x us
 | [],_,_,[],h=>h
 | [],_,_,_::_,h=>h.elim
 |_::_,_,_,[],h=>h.elim
 |_c::r,k,x,_u::us,h=>⟨h.1.Ez hD,Ew.Ez hD r (k+1) x.2 us h.2⟩
theorem Ha.Ez {D D':Nat->Prop} (hD: ∀b,D' b->D b) {π:Pi} : ∀(cs:List (Bool×CK)) (k:Nat) (x:IOs.den cs),Ha w D π k cs x->Ha w D' π k cs x
 | [],_,_,h=>h
 |(false,_)::r,k,x,h=>Ha.Ez hD r (k+1) x h
 |(true, .Ee _)::r,k,x,h=>Ha.Ez hD r (k+1) x h
 |(true, .Al _ _ _)::r,k,x,h=>Ha.Ez hD r (k+1) x h
 |(true, .row _e _te)::r,k,x,h=>⟨Me.Ez h.1 hD,Ha.Ez hD r (k+1) x.2 h.2⟩
 |(true, .Dq _e _te)::r,k,x,h=>⟨h.1,Ha.Ez hD r (k+1) x.2 h.2⟩
 |(true, .part _e _te)::r,k,x,h=>⟨Me.Ez h.1 hD,Ha.Ez hD r (k+1) x.2 h.2⟩
theorem Zr.congr {D:Nat->Prop} {π0 Wa:Pi} : ∀(cs:List (Bool×CK)) (k:Nat) (x:Ins.den cs) (us:List Value),(∀b j,k<=j->j<k+cs.length->Wa (Bl b j)=π0 (Bl b j))->Zr w D π0 k cs x us->Zr w D Wa k cs x us
 | [],_,_,[],_,h=>h
 | [],_,_,_::_,_,h=>h
 |_::_,_,_,[],_,h=>h
 |p::r,k,x,u::us,hp,h=>⟨by rw [hp p.1 k (Nat.le_refl _) (by simp)];exact h.1,Zr.congr r (k+1) x.2 us (λb j h1 h2=>hp b j (by omega) (by simp;omega)) h.2⟩
theorem Ha.congr {D:Nat->Prop} {π0 Wa:Pi} : ∀(cs:List (Bool×CK)) (k:Nat) (x:IOs.den cs),(∀b j,k<=j->j<k+cs.length->Wa (Bl b j)=π0 (Bl b j))->Ha w D π0 k cs x->Ha w D Wa k cs x
 | [],_,_,_,h=>h
 |(false,c)::r,k,x,hp,h=>by cases c<;>exact Ha.congr r (k+1) x (λb j h1 h2=>hp b j (by omega) (by simp;omega)) h
 |(true, .Ee _)::r,k,x,hp,h=>Ha.congr r (k+1) x (λb j h1 h2=>hp b j (by omega) (by simp;omega)) h
 |(true, .Al _ _ _)::r,k,x,hp,h=>Ha.congr r (k+1) x (λb j h1 h2=>hp b j (by omega) (by simp;omega)) h
 |(true, .row e te)::r,k,x,hp,h=>⟨by rw [hp true k (Nat.le_refl _) (by simp)];exact h.1,Ha.congr r (k+1) x.2 (λb j h1 h2=>hp b j (by omega) (by simp;omega)) h.2⟩
 |(true, .Dq e te)::r,k,x,hp,h=>⟨by rw [hp true k (Nat.le_refl _) (by simp)];exact h.1,Ha.congr r (k+1) x.2 (λb j h1 h2=>hp b j (by omega) (by simp;omega)) h.2⟩
 |(true, .part e te)::r,k,x,hp,h=>⟨by rw [hp true k (Nat.le_refl _) (by simp)];exact h.1,Ha.congr r (k+1) x.2 (λb j h1 h2=>hp b j (by omega) (by simp;omega)) h.2⟩
theorem Cc.congr {π0 Wa:Pi} : ∀(cs:List (Bool×CK)) (k:Nat) (o:IOs.den cs) (n:Nat) (us as:List Value),(∀b j,k<=j->j<k+cs.length->Wa (Bl b j)=π0 (Bl b j))->Cc π0 k cs o n us as->Cc Wa k cs o n us as
 | [],k,o,0,us,as,_,h=>by simpa [Cc] using h
 | [],k,o,n+1,us,as,_,h=>by simp [Cc] at h
 |p::r,k,o,0,us,as,_,h=>by
  rcases p with ⟨_|_,c⟩<;>cases c<;>simpa [Cc] using h
 |(true, .Ee _)::r,k,o,n+1,us,as,_,h=>by simp [Cc] at h
 |(true, .part _ _)::r,k,o,n+1,us,as,_,h=>by simp [Cc] at h
 |(true, .Al _ _ _)::r,k,o,n+1,us,as,_,h=>by simp [Cc] at h
 |(true, .row e te)::r,k,o,n+1,[],as,_,h=>by simp [Cc] at h
 |(true, .Dq e te)::r,k,o,n+1,[],as,_,h=>by simp [Cc] at h
 |(true, .row e te)::r,k,o,n+1,u::us,as,hp,h=>by
  simp only [Cc] at h⊢
  exact ⟨by rw [hp true k (Nat.le_refl _) (by simp)];exact h.1,Cc.congr r (k+1) o.2 n us as (λb j h1 h2=>hp b j (by omega) (by simp;omega)) h.2⟩
 |(true, .Dq e te)::r,k,o,n+1,u::us,as,hp,h=>by
  simp only [Cc] at h⊢
  exact ⟨by rw [hp true k (Nat.le_refl _) (by simp)];exact h.1,Cc.congr r (k+1) o.2 n us as (λb j h1 h2=>hp b j (by omega) (by simp;omega)) h.2⟩
 |(false,c)::r,k,o,n+1,[],as,_,h=>by cases c<;>simp [Cc] at h
 |(false,c)::r,k,o,n+1,u::us,[],_,h=>by cases c<;>simp [Cc] at h
 |(false,c)::r,k,o,n+1,u::us,a::as,hp,h=>by
  have h:u=a/\Cc π0 (k+1) r o n us as:=by cases c<;>exact h
  have:=Cc.congr r (k+1) o n us as (λb j h1 h2=>hp b j (by omega) (by simp;omega)) h.2
  cases c<;>exact ⟨h.1,this⟩
theorem kv: ∀(A B:List (Nat×OB)) (l:Nat),Ad (A++B) l=match Ad A l with|some b=>some b|none=>Ad B l
 | [],B,l=>rfl
 |(k,b)::A,B,l=>by
  simp only [List.cons_append,Ad]
  split
  ·rfl
  ·exact kv A B l
theorem nF {st:St} : ∀(cs:List CK) (as:List AC) (x:CKs.den cs) (ls:List Nat),Ob st cs as=some (x,ls)-> ∀l∈ls,∃b,Ad st.heap l=some b/\b.row≠none
 | [],[],x,ls,he=>by
  simp only [Ob,Option.some.injEq,Prod.mk.injEq] at he
  obtain ⟨_,rfl⟩:=he
  intro l hl;cases hl
 | [],_::_,_,_,he=>by simp [Ob] at he
 |_::_,[],_,_,he=>by simp [Ob] at he
 |c::r,a::as,x,ls,he=>by
  simp only [Ob] at he
  split at he
  ·rename_i x1 t1 x2 t2 h1 h2
   simp only [Option.some.injEq,Prod.mk.injEq] at he
   obtain ⟨_,rfl⟩:=he
   intro l hl
   rcases List.mem_append.1 hl with hl|hl
   ·unfold eb at h1
    split at h1
    ·split at h1
     ·cases hv:Bn st _ a with
      |none=>rw [hv] at h1;cases h1
      |some p=>rw [hv] at h1;simp only [Option.map_some,Option.some.injEq,Prod.mk.injEq] at h1;obtain ⟨_,rfl⟩:=h1;cases hl
     ·cases h1
    all_goals (repeat' split at h1)
    all_goals first|(cases h1;done)|skip
    all_goals (simp only [Option.some.injEq,Prod.mk.injEq] at h1;obtain ⟨_,rfl⟩:=h1)
    all_goals first|(cases hl;done)|skip
    all_goals (have hl:=List.mem_singleton.1 hl;subst hl)
    all_goals (rename_i heq _;exact ⟨_,heq,by simp [OB.row]⟩)
   ·exact nF r as x2 t2 h2 l hl
  ·cases he
theorem kI {r r':Option Real} {sz off len:Nat} {v:Value} (h:Us r r') (hv:Dz r' sz off len v):Dz r sz off len v:=by
 cases r<;>cases r'<;>first|exact h.elim|skip
 ·exact hv
 ·obtain ⟨h1,h2,h3,_⟩:=h
  obtain ⟨ad,g1,g2,g3⟩:=hv
  exact ⟨ad,by rw [h3];exact g1,by rw [h3];exact g2,by rw [h1,h2,h3];exact g3⟩
theorem Rl {st:St} {π0:Pi} (hs: ∀k,Ad st.heap (Bl true k)≠none->Us ((π0 (Bl true k)).map full) (π (Bl true k))):
  ∀(cs:List (Bool×CK)) (k:Nat) (vs:List AC) (us:List Value) (bc:List AC) (o:IOs.den cs),Hx X w π st.heap vs us->Fb k cs vs=some bc->cA st vs cs->Jg st k cs=some o->
   ∃bv,Hx X w π st.heap bc bv/\bv.length=nT cs vs.length/\ ∀tl,Cc π0 k cs o vs.length us (bv++tl)
 |cs,k,[],us,bc,o,hr,he,_,_=>by
  have e1:us= []:=by cases us with|nil=>rfl|cons u us=>exact hr.elim
  have e2:bc= []:=by rcases cs with _|⟨⟨_|_,c⟩,r⟩<;>simpa [Fb] using he.symm
  subst e1;subst e2
  refine ⟨[],trivial,?_,λtl=>?_⟩
  ·rcases cs with _|⟨⟨_|_,c⟩,r⟩<;>rfl
  ·rcases cs with _|⟨⟨_|_,c⟩,r⟩<;>(try cases c)<;>simp [Cc]
 | [],k,a::vs,us,bc,o,hr,he,_,_=>by simp [Fb] at he
 |p::r,k,a::vs,[],bc,o,hr,_,_,_=>hr.elim
 |(false,c)::r,k,a::vs,u::us,bc,o,hr,he,hk,ho=>by
  have he:(Fb (k+1) r vs).map (λl=>a::l)=some bc:=by cases a<;>exact he
  cases hb:Fb (k+1) r vs with
  |none=>rw [hb] at he;cases he
  |some bc'=>
   rw [hb] at he
   simp only [Option.map_some,Option.some.injEq] at he;subst he
   obtain ⟨bv,g1,g2,g3⟩:=Rl hs r (k+1) vs us bc' o hr.2 hb (by cases a<;>exact hk) (by cases c<;>simpa only [Jg] using ho)
   refine ⟨u::bv,⟨hr.1,g1⟩,by simp [nT,g2],λtl=>?_⟩
   have:=g3 tl
   cases c<;>exact ⟨rfl,this⟩
 |(true,c)::r,k,a::vs,u::us,bc,o,hr,he,hk,ho=>by
  cases c with
  |Ee τ=>cases a<;>simp [Fb] at he
  |part e te=>cases a<;>simp [Fb] at he
  |Al e te kp=>cases a<;>simp [Fb] at he
  |row e te=>
   cases a<;>first|(simp [Fb] at he;done)|skip
   rename_i l off len
   simp only [Fb] at he
   split at he
   rotate_left
   ·cases he
   rename_i hl
   have hl:l=Bl true k:=Nat.eq_of_beq_eq_true hl
   subst hl
   obtain ⟨⟨rfl,hlen⟩,hk⟩:=hk
   obtain ⟨b,sz,n,h1,h2,h3,h4⟩:=hr.1
   have JM:=hs k (by rw [h1];simp)
   simp only [Jg] at ho
   split at ho
   ·rename_i x1 x2 q1 q2
    simp only [Option.some.injEq] at ho;subst ho
    obtain ⟨bv,g1,g2,g3⟩:=Rl hs r (k+1) vs us bc x2 hr.2 he hk q2
    refine ⟨bv,g1,by simpa [nT] using g2,λtl=>?_⟩
    refine ⟨?_,g3 tl⟩
    simp only [kb] at q1
    split at q1
    ·rename_i fr tr e' Lb xs Gq
     split at q1
     ·rename_i hc
      obtain ⟨rfl,rfl⟩:=hc
      simp only [Option.some.injEq] at q1;subst q1
      unfold St.at at Gq hlen
      rw [Gq] at hlen
      rw [h1] at Gq;cases Gq
      simp only [OB.row,Option.some.injEq,Prod.mk.injEq] at h2
      obtain ⟨rfl,rfl⟩:=h2
      have hlen:len=List.length xs:=hlen
      have:=kI JM h4
      rw [hlen] at this
      have e0:(π0 (Bl true k)).map full=(π0 (Bl true k)).map full:=rfl
      cases hp:π0 (Bl true k)<;>(rw [hp] at this;exact this)
     ·cases q1
    ·cases q1
   ·cases ho
  |Dq e te=>
   cases a<;>first|(simp [Fb] at he;done)|skip
   rename_i l off len
   simp only [Fb] at he
   split at he
   rotate_left
   ·cases he
   rename_i hl
   have hl:l=Bl true k:=Nat.eq_of_beq_eq_true hl
   subst hl
   obtain ⟨⟨rfl,hlen⟩,hk⟩:=hk
   obtain ⟨b,sz,n,h1,h2,h3,h4⟩:=hr.1
   have JM:=hs k (by rw [h1];simp)
   simp only [Jg] at ho
   split at ho
   ·rename_i x1 x2 q1 q2
    simp only [Option.some.injEq] at ho;subst ho
    obtain ⟨bv,g1,g2,g3⟩:=Rl hs r (k+1) vs us bc x2 hr.2 he hk q2
    refine ⟨bv,g1,by simpa [nT] using g2,λtl=>?_⟩
    refine ⟨?_,g3 tl⟩
    simp only [kb] at q1
    split at q1
    ·rename_i e' Lb xs Gq
     split at q1
     ·rename_i hc
      obtain ⟨rfl,rfl⟩:=hc
      simp only [Option.some.injEq] at q1;subst q1
      unfold St.at at Gq hlen
      rw [Gq] at hlen
      rw [h1] at Gq;cases Gq
      simp only [OB.row,Option.some.injEq,Prod.mk.injEq] at h2
      obtain ⟨rfl,rfl⟩:=h2
      have hlen:len=List.length xs:=hlen
      have:=kI JM h4
      rw [hlen] at this
      cases hp:π0 (Bl true k)<;>(rw [hp] at this;exact this)
     ·cases q1
    ·cases q1
   ·cases ho
def Ac2 (s:MSpec) (g:Nat) (π:Pi):Pi:= λl=>if s.ptr.isSome=true/\l=Ls then some ⟨g,0,0,λb=>b=g,λb=>b=g⟩ else π l
def YG (P:Program) (s:MSpec) (fn:Func) (x:Ins.den s.ins) (w:World) (S:Nat->Prop) (π:Pi) (g:Nat) (r:CKs.den s.outs) (o:IOs.den s.ins) (a':Act) (w':World):Prop:=
 ∃(v:Value) (Nh:List Value) (ρ:Pi),a'.defers= []/\(results fn a'.tmps).run P w'= .ok v w'/\jX s w' ρ (Nh.drop s.Si) v/\bL s π w' g Nh o/\Df w.heap.size (λb=>Na π b\/s.gv g b) w w'/\Ha w' (bD S π ρ) π 0 s.ins o/\Ew w' (bD S π ρ) ρ 0 s.outs r Nh/\
  Zs ρ (λb=>b<w'.heap.size/\(w.heap.size<=b\/ ∃l q,l<Ai/\π l=some q/\q.Ay b))/\(∀l,(∀k,k<s.Mx->l≠Fo k)->ρ l=none)/\(∀kj∈s.keeps,qn w w' (π (Bl false kj.1)) (ρ (Fo kj.2)) (s.Cr x))
theorem Ew.IQ {D:Nat->Prop} {ρ ρ':Pi} : ∀(cs:List CK) (k:Nat) (x:CKs.den cs) (us:List Value),(∀j,k<=j->j<k+cs.length->ρ' (Fo j)=ρ (Fo j))->Ew w D ρ k cs x us->Ew w D ρ' k cs x us
 | [],_,_,[],_,h=>h
 | [],_,_,_::_,_,h=>h.elim
 |_::_,_,_,[],_,h=>h.elim
 |c::r,k,x,u::us,he,h=>⟨by rw [he k (Nat.le_refl _) (by simp)];exact h.1,Ew.IQ r (k+1) x.2 us (λj hj hl=>he j (by omega) (by simp;omega)) h.2⟩
theorem qR {st:St} {n:Nat} {as:List AC} : ∀ {ks:List (Nat×Nat)},qQ st n as ks-> ∀kj∈ks,∃l off len e te rows out p,as[kj.2]?=some (.own l off len)/\Ad st.heap l=some (.Al e te rows out (some p))/\p.1=Bl false kj.1/\n<=p.2/\kj.1<1000
 | [],_,kj,hm=>by cases hm
 |(k,j)::r,h,kj,hm=>by
  simp only [qQ] at h
  rcases List.mem_cons.1 hm with rfl|hm
  ·obtain ⟨h,_⟩:=h
   split at h
   ·rename_i l off len he
    split at h
    ·rename_i e te rows out p hl
     unfold St.at at hl
     exact ⟨l,off,len,e,te,rows,out,p,he,hl,h.1,h.2.1,by simpa using h.2.2⟩
    ·exact h.elim
   ·exact h.elim
  ·exact qR h.2 kj hm
theorem r8 {st:St} : ∀(cs:List CK) (as:List AC) (x:CKs.den cs) (ls:List Nat),Ob st cs as=some (x,ls)->as.length=cs.length
 | [],[],_,_,_=>rfl
 | [],_::_,_,_,he=>by simp [Ob] at he
 |_::_,[],_,_,he=>by simp [Ob] at he
 |c::r,a::as,x,ls,he=>by
  simp only [Ob] at he
  split at he
  ·rename_i h1 h2
   simp only [List.length_cons,r8 r as _ _ h2]
  ·cases he
theorem xf {α β:Type} (f:α->Sem β): ∀(l:List α) (vs:List β),vs.length=l.length->(∀(i:Nat) a v,l[i]?=some a->vs[i]?=some v->(f a).run P w= .ok v w)->(l.mapM f).run P w= .ok vs w
 | [],[],_,_=>by simp
 | [],_::_,h,_=>by simp at h
 |_::_,[],h,_=>by simp at h
 |a::l,v::vs,h,hr=>by
  rw [List.mapM_cons]
  simp only [Sem.run_bind,hr 0 a v rfl rfl,Result.andThen_ok,xf f l vs (by simpa using h) (λi a' v' ha hv=>hr (i+1) a' v' (by simpa using ha) (by simpa using hv)),Sem.run_pure]
theorem pb (hT:Cb P T) (Md:Hc P Γ) (hm:P.follows .mixedOrders=true) {f:FuncId} {fn:Func} (hf:P.funcs[f]?=some fn) (s:MSpec) (w:World) (S:Nat->Prop) (π:Pi) (us:List Value) (x:Ins.den s.ins)
  (r:CKs.den s.outs) (o:IOs.den s.ins) (g:Nat) (gm:List Value) (Ky:iY s w g us gm) (hSg:s.ptr.isSome=true->S g) (Ts:Zr w (λb=>Na π b\/S b) π 0 s.ins x us) (dK:Zs π (λb=>b<w.heap.size)) (hS: ∀b,S b->b<w.heap.size/\ ¬Na π b) (IY: ∀l,Ad (Sd 0 s.ins x) l=none->π l=none) (he:QS T Γ s fn x λz=>z=(r,o)):
  Calls P f gm.toArray w λe w'=> ∃v Nh ρ,e= .returned v/\jX s w' ρ (Nh.drop s.Si) v/\bL s π w' g Nh o/\Df w.heap.size (λb=>Na π b\/s.gv g b) w w'/\Ha w' (bD S π ρ) π 0 s.ins o/\Ew w' (bD S π ρ) ρ 0 s.outs r Nh/\
   Zs ρ (λb=>b<w'.heap.size/\(w.heap.size<=b\/ ∃l q,l<Ai/\π l=some q/\q.Ay b))/\(∀l,(∀k,k<s.Mx->l≠Fo k)->ρ l=none)/\(∀kj∈s.keeps,qn w w' (π (Bl false kj.1)) (ρ (Fo kj.2)) (s.Cr x)):=by
 obtain ⟨hlen,c,hb,he⟩:=he
 simp only [Bool.and_eq_true,Nat.blt_eq] at hlen
 obtain ⟨hlen,JA⟩:=hlen
 unfold tB at JA
 simp only [Bool.and_eq_true] at JA
 have ZU:=JA.1
 let l5:Pi:=Ac2 s g π
 let Sg:Nat->Prop:= λb=>S b/\ ¬s.gv g b
 have hvl: ∀b j,j<1000->Bl b j≠Ls:= λb j hj=>by cases b<;>(unfold Bl Ls;simp;omega)
 have sE: ∀b j,0<=j->j<0+s.ins.length->l5 (Bl b j)=π (Bl b j):= λb j _ hj=>if_neg λh=>hvl b j (by omega) h.2
 have RW: ∀b j,0<=j->j<0+s.ins.length->π (Bl b j)=l5 (Bl b j):= λb j h1 h2=>(sE b j h1 h2).symm
 have UZ:Ad (Sd 0 s.ins x) Ls=none:=Classical.byContradiction λhn=>by
  obtain ⟨b,j,_,h2,h3⟩:=nf s.ins 0 x Ls hn
  exact hvl b j (by omega) h3.symm
 have GV: ∀l q,l5 l=some q->(π l=some q/\(s.ptr.isSome=true->l≠Ls))\/(s.ptr.isSome=true/\l=Ls/\q=⟨g,0,0,λb=>b=g,λb=>b=g⟩):= λl q hq=>by
  have hq:(if s.ptr.isSome=true/\l=Ls then some ⟨g,0,0,λb=>b=g,λb=>b=g⟩ else π l)=some q:=hq
  split at hq
  ·rename_i hc;exact .inr ⟨hc.1,hc.2,(Option.some.inj hq).symm⟩
  ·rename_i hc;exact .inl ⟨hq,λh1 h2=>hc ⟨h1,h2⟩⟩
 have Sb: ∀b,Na l5 b↔Na π b\/s.gv g b:= λb=>by
  constructor
  ·rintro ⟨l,q,h1,h2⟩
   rcases GV l q h1 with ⟨h3,_⟩|⟨h3,h4,rfl⟩
   ·exact .inl ⟨l,q,h3,h2⟩
   ·exact .inr ⟨h3,h2⟩
  ·rintro (⟨l,q,h1,h2⟩|⟨h1,rfl⟩)
   ·refine ⟨l,q,?_,h2⟩
    show (if s.ptr.isSome=true/\l=Ls then _ else π l)=some q
    rw [if_neg]
    ·exact h1
    ·rintro ⟨_,rfl⟩
     rw [IY Ls UZ] at h1;cases h1
   ·exact ⟨Ls,⟨b,0,0,λc=>c=b,λc=>c=b⟩,if_pos ⟨h1,rfl⟩,rfl⟩
 have hgS: ∀b,s.gv g b->S b:= λb ⟨h1,h2⟩=>h2▸hSg h1
 have UB:Zr w (λb=>Na l5 b\/Sg b) l5 0 s.ins x us:=Zr.congr s.ins 0 x us sE (Zr.Ez (λb hb=>by
  rcases hb with hb|hb
  ·rcases (Sb b).1 hb with hb|hb
   ·exact .inl hb
   ·exact .inr (hgS b hb)
  ·exact .inr hb.1) s.ins 0 x us Ts)
 have ZZ:Zs l5 (λb=>b<w.heap.size):=⟨λl q b h1 h2=>by
  rcases GV l q h1 with ⟨h3,_⟩|⟨h3,h4,rfl⟩
  ·exact dK.Ue l q b h3 h2
  ·exact (hS b (hgS b ⟨h3,h2⟩)).1,λl l' q q' b h1 h2 h3 h4=>by
  rcases GV l q h1 with ⟨h5,_⟩|⟨h5,h6,rfl⟩<;>rcases GV l' q' h2 with ⟨h7,_⟩|⟨h7,h8,rfl⟩
  ·exact dK.inj l l' q q' b h5 h7 h3 h4
  ·exact absurd ⟨l,q,h5,h3⟩ (hS b (hgS b ⟨h7,h4⟩)).2
  ·exact absurd ⟨l',q',h7,h4⟩ (hS b (hgS b ⟨h5,h3⟩)).2
  ·rw [h6,h8]⟩
 have Ae2: ∀b,Sg b->b<w.heap.size/\ ¬Na l5 b:= λb hb=>⟨(hS b hb.1).1,λho=>((Sb b).1 ho).elim (hS b hb.1).2 hb.2⟩
 have CC: ∀l,Ad (ky s x) l=match Ad (Sd 0 s.ins x) l with|some b=>some b|none=>if l=Ls then s.ptr.map λp=> .var p.1 ((Vf 0 s.ins x).take p.2) else none:= λl=>by
  unfold ky
  cases hp:s.ptr with
  |none=>cases Ad (Sd 0 s.ins x) l<;>simp
  |some p=>
   simp only
   rw [kv]
   cases Ad (Sd 0 s.ins x) l with
   |some b=>rfl
   |none=>
    simp only [Ad,Option.map_some]
    by_cases e:l=Ls
    ·rw [if_pos e,if_pos e.symm]
    ·rw [if_neg e,if_neg (λh=>e h.symm)]
 let π0:Pi:= λl=>(l5 l).map full
 have un: ∀l q,π0 l=some q-> ∃q0,l5 l=some q0/\q=full q0:= λl q hq=>by
  have hq:(l5 l).map full=some q:=hq
  cases hp:l5 l with
  |none=>rw [hp] at hq;cases hq
  |some q0=>rw [hp] at hq;exact ⟨q0,rfl,(Option.some.inj hq).symm⟩
 have JE: ∀l b,Ad (Sd 0 s.ins x) l=some b->Ad (ky s x) l=some b:= λl b hb=>by rw [CC l,hb]
 have UT:Hx ⟨w,Sg,Na l5,π0⟩ w π0 (ky s x) (Vf 0 s.ins x) us:=w9 (λ_=>rfl) s.ins 0 x us (by omega) UB JE
 have JS:s.ptr.isSome=true->π0 Ls=some ⟨g,0,0,λb=>b=g,λb=>b=g⟩:= λhp=>by
  show (if s.ptr.isSome=true/\Ls=Ls then _ else π Ls).map full=_
  rw [if_pos ⟨hp,rfl⟩];rfl
 obtain ⟨g1,g2⟩:(Tf s (Vf 0 s.ins x)).length=gm.length/\ ∀(i:Nat) c v,(Tf s (Vf 0 s.ins x))[i]?=some c->gm[i]?=some v->Ap ⟨w,Sg,Na l5,π0⟩ w π0 (ky s x) c v:=by
  unfold iY at Ky
  cases hp:s.ptr with
  |none=>
   rw [hp] at Ky
   obtain ⟨rfl,yf⟩:=Ky
   obtain ⟨g1,g2,_,_⟩:=Yq s.Hb _ us yf UT
   rw [show Tf s (Vf 0 s.ins x)=Mi s.Hb (Vf 0 s.ins x) by unfold Tf;rw [hp]]
   exact ⟨g1,g2⟩
  |some p=>
   rw [hp] at Ky
   obtain ⟨rfl,yf,_⟩:=Ky
   obtain ⟨g1,g2,_,_⟩:=Yq s.Hb _ (us.drop p.2) yf (Hx.take p.2 UT).2
   rw [show Tf s (Vf 0 s.ins x)= .at (.Dy Ls 0)::Mi s.Hb ((Vf 0 s.ins x).drop p.2) by unfold Tf;rw [hp]]
   refine ⟨by simp [g1],λi c v h1 h2=>?_⟩
   rcases i with _|i
   ·simp only [List.getElem?_cons_zero,Option.some.injEq] at h1 h2
    subst h1;subst h2
    exact ⟨_,p.1,(Vf 0 s.ins x).take p.2,by rw [CC,UZ];simp [hp],JS (by rw [hp];rfl),rfl⟩
   ·exact g2 i c v (by simpa using h1) (by simpa using h2)
 have h0:Rel ⟨w,Sg,Na l5,π0⟩ {tmps:=Tf s (Vf 0 s.ins x)++List.replicate (fn.ntmps-(Tf s (Vf 0 s.ins x)).length) .undef,heap:=ky s x}
   {tmps:=gm.toArray++Array.replicate (fn.ntmps-gm.toArray.size) undef,defers:= []} w:=by
  refine ⟨π0,⟨Df.refl _ _ _,λb hb=>Ae2 b hb,λl q b h1 h2=>?_,λl q b h1 h2=>?_,λl l' q q' b h1 h2 h3 h4=>?_,λl _ _=>Us.rfl' _,λl=>?_⟩,⟨by simp [g1],rfl,λt=>?_⟩⟩
  ·obtain ⟨q0,_,rfl⟩:=un l q h1;exact h2
  ·obtain ⟨q0,h3,rfl⟩:=un l q h1
   exact ⟨.inr ⟨l,q0,h3,h2⟩,ZZ.Ue l q0 b h3 h2⟩
  ·obtain ⟨q0,h5,rfl⟩:=un l q h1
   obtain ⟨WG,h6,rfl⟩:=un l' q' h2
   exact ZZ.inj l l' q0 WG b h5 h6 h3 h4
  ·cases hh:Ad (Sd 0 s.ins x) l with
   |none=>
    by_cases hv:s.ptr.isSome=true/\l=Ls
    ·obtain ⟨XV,rfl⟩:=hv
     obtain ⟨p,hp⟩:=Option.isSome_iff_exists.1 XV
     refine Dg.Il (b:= .var p.1 ((Vf 0 s.ins x).take p.2)) ?_ (by rw [CC,hh];simp [hp])
     unfold iY at Ky
     rw [hp] at Ky
     obtain ⟨_,_,h1,h2,h3⟩:=Ky
     rw [JS XV]
     exact ⟨_,rfl,rfl,_,h2,Hx.to (Hx.take p.2 UT).1 h3⟩
    ·refine Dg.Ph ?_ ?_
     ·show (if s.ptr.isSome=true/\l=Ls then _ else π l).map full=none
      rw [if_neg hv,IY l hh];rfl
     ·rw [CC,hh]
      simp only
      split
      ·rename_i e
       cases hp:s.ptr with
       |none=>rfl
       |some p=>exact absurd ⟨by rw [hp];rfl,e⟩ hv
      ·rfl
   |some b=>exact Dg.Il (fI (π0:=l5) (λb hb=>by
    rcases hb with ⟨l,q,h1,h2⟩|hb|⟨hb,_⟩
    ·obtain ⟨q0,h3,rfl⟩:=un l q h1;exact .inl ⟨l,q0,h3,h2⟩
    ·exact .inr hb
    ·cases hb) rfl (λ_=>rfl) s.ins 0 x us UB l b hh) (JE l b hh)
  ·show Ap _ w _ _ ((Tf s (Vf 0 s.ins x)++List.replicate _ AV.undef).getD t .undef) ((gm.toArray++Array.replicate _ undef).getD t undef)
   by_cases ht:t<gm.length
   ·rw [List.getD_eq_getElem?_getD,List.getElem?_append_left (by omega),<-List.getD_eq_getElem?_getD]
    rw [Array.getD_eq_getD_getElem?,Array.getElem?_append_left (by simpa using ht)]
    have:=g2 t _ _ (List.getElem?_eq_getElem (by omega)) (List.getElem?_eq_getElem ht)
    simpa [List.getD_eq_getElem?_getD,List.getElem?_eq_getElem ht,List.getElem?_eq_getElem (show t<(Tf s (Vf 0 s.ins x)).length by omega)] using this
   ·have:(Tf s (Vf 0 s.ins x)++List.replicate (fn.ntmps-(Tf s (Vf 0 s.ins x)).length) AV.undef).getD t .undef= .undef:=by
     rw [List.getD_eq_getElem?_getD,List.getElem?_append_right (by omega)]
     rw [List.getElem?_replicate]
     split<;>rfl
    rw [this];trivial
 have fin: ∀(st:St) (a':Act) (w':World),IB T s fn x st (λz=>z=(r,o))->Rel ⟨w,Sg,Na l5,π0⟩ st a' w'->YG P s fn x w S π g r o a' w':=by
  intro st a' w' lq hrel
  obtain ⟨Wa,h'⟩:=hrel
  have SB:Ai<=Ls:=by unfold Ai Ls;omega
  obtain ⟨bc,ku,Ag4,hbc⟩: ∃bc,dR T s fn x st bc (λz=>z=(r,o))/\(s.ptr.isSome=true-> ∃b,Ad st.heap Ls=some b/\b.row=none)/\
    (Jg st 0 s.ins=some o-> ∃bv,Hx ⟨w,Sg,Na l5,π0⟩ w' Wa st.heap bc bv/\bv.length=s.Si/\ ∀tl,bL s π w' g (bv++tl) o):=by
   unfold IB at lq
   cases hp:s.ptr with
   |none=>
    rw [hp] at lq
    exact ⟨[],lq,λh=>by simp at h,λ_=>⟨[],trivial,by simp [MSpec.Si,hp],λtl=>by simp [bL,hp]⟩⟩
   |some p=>
    rw [hp] at lq
    obtain ⟨vs,cs,h1,h2,h3,h4,h5⟩:=lq
    unfold St.at at h1
    refine ⟨cs,h5,λ_=>⟨_,h1,rfl⟩,λsC=>?_⟩
    obtain ⟨q,k1,k2,cur,k3,k4⟩:=(h'.1.heap Ls).blk h1
    have hsv:Us (π0 Ls) (Wa Ls):=h'.1.cO Ls SB (by rw [h1];simp)
    rw [JS (by rw [hp];rfl),k1] at hsv
    have hqg:g=q.g:=hsv.1
    obtain ⟨bv,g1,g2,g3⟩:=Rl (π0:=l5) (λk hk=>h'.1.cO _ (Nat.le_of_not_lt (Ug k)) hk) s.ins 0 vs cur.toList cs o (Hx.of k4) h3 h4 sC
    refine ⟨bv,g1,by rw [g2,h2];simp [MSpec.Si,hp],λtl=>?_⟩
    unfold bL
    rw [hp]
    refine ⟨cur.toList,by rw [hqg];simpa using k3,λu hu=>?_,Cc.congr s.ins 0 o p.2 _ _ RW (h2▸g3 tl)⟩
    obtain ⟨i,hi,rfl⟩:=List.mem_iff_getElem.1 hu
    have hl:=k4.1
    obtain ⟨u',h6,h7,_⟩:=k4.2 i (vs[i]'(by omega)) (List.getElem?_eq_getElem _)
    rw [List.getElem?_eq_getElem hi] at h6
    rw [Option.some.inj h6];exact h7
  unfold dR at ku
  split at ku
  ·exact ku.elim
  rename_i l hl
  split at ku
  ·exact ku.elim
  rename_i as ml cv
  split at ku
  rotate_left
  ·exact ku.elim
  rename_i r' ls o' yS qF
  obtain ⟨Fm,qK,JL⟩:=ku
  simp only [Bool.and_eq_true,Nat.blt_eq] at Fm
  obtain ⟨⟨⟨HT,Ajg⟩,Ahr⟩,ZQ⟩:=Fm
  simp only [Prod.mk.injEq] at JL
  obtain ⟨rfl,rfl⟩:=JL
  obtain ⟨bv,hbv,Aed,Aeb⟩:=hbc qF
  have yQ:=Qv HT
  obtain ⟨n1,n2,n3⟩:=List.nodup_append.1 yQ
  obtain ⟨m1,m2,m3⟩:=List.nodup_append.1 n1
  obtain ⟨vs,v1,v2,v3,v4⟩:=Qx hT h' _ _ hl
  have OS:fn.results=fn.results.toList.toArray:=Array.toArray_toList.symm
  have On: ∀v,(if h:vs.toArray.size=1 then vs.toArray[0] else .tuple vs.toArray)=v->(results fn a'.tmps).run P w'= .ok v w':=by
   intro v hv
   rw [aE,OS,List.mapM_toArray]
   simp only [map_eq_pure_bind,bind_assoc,pure_bind]
   simp only [Sem.run_bind,xf (zQ a'.tmps) _ vs v1 v3,Result.andThen_ok,Sem.run_pure]
   rw [hv]
  obtain ⟨qc,v,qm,Ag3,hv,SD⟩: ∃qc v qm,Hx ⟨w,Sg,Na l5,π0⟩ w' Wa st.heap as qc/\(results fn a'.tmps).run P w'= .ok v w'/\
    ((s.rp=none/\ml= []/\qm=none/\LM s.Ej s.Gf qc v/\Ww s.Gf qc)\/
     ∃tid m q,s.rp=some tid/\ml= [m]/\m<Ai/\qm=some q/\Wa m=some q/\q.Ay q.g/\w'.heap[q.g]?=some (.cells qc.toArray tid (0,0))/\(∀u∈qc,u.oneCell'=true)/\v= .pointer (some ⟨q.g,0,none⟩)):=by
   unfold zP at cv
   split at cv
   ·rename_i ye
    split at cv
    rotate_left
    ·cases cv
    rename_i hmul
    cases HV:ungroup s.Gf l with
    |none=>rw [HV] at cv;cases cv
    |some as'=>
     rw [HV] at cv
     simp only [Option.map_some,Option.some.injEq,Prod.mk.injEq] at cv
     obtain ⟨rfl,rfl⟩:=cv
     obtain ⟨qc,e1,e2,e3⟩:=So s.Gf l vs as' (by omega) v4 HV
     have hv: ∃v,(results fn a'.tmps).run P w'= .ok v w'/\LM s.Ej s.Gf qc v:=by
      unfold LM
      rw [<-e1,hmul]
      rcases Nat.lt_or_ge 1 l.length with h1|h1
      ·have sB:Nat.blt 1 l.length=true:=by simpa using h1
       simp only [sB,if_true]
       refine ⟨.tuple vs.toArray,On _ ?_,rfl⟩
       rw [dif_neg (by simp;omega)]
      ·have sB:Nat.blt 1 l.length=false:=by rw [<-Bool.not_eq_true];simpa using h1
       simp only [sB,Bool.false_eq_true,if_false]
       rcases vs with _|⟨v,_|⟨v',vs⟩⟩
       ·exact ⟨_,On _ (by simp;rfl), .inr rfl⟩
       ·exact ⟨v,On _ (by simp), .inl rfl⟩
       ·exfalso;simp only [List.length_cons] at v1;omega
     obtain ⟨v,hv1,hv2⟩:=hv
     exact ⟨qc,v,none,e3,hv1, .inl ⟨ye,rfl,rfl,hv2,e2⟩⟩
   ·rename_i tid ye
    split at cv
    rotate_left
    ·cases cv
    rename_i m i
    split at cv
    rotate_left
    ·cases cv
    rename_i Nv uM hm
    split at cv
    rotate_left
    ·cases cv
    rename_i hc
    obtain ⟨rfl,rfl,ND⟩:=hc
    simp only [Option.some.injEq,Prod.mk.injEq] at cv
    obtain ⟨rfl,rfl⟩:=cv
    unfold St.at at hm
    rcases vs with _|⟨v,_|⟨v',vs⟩⟩
    ·exfalso;simp only [List.length_cons,List.length_nil] at v1 v2;omega
    ·obtain ⟨q,Alg,vs2,q1,q2,q3⟩:=v4 0 _ v rfl rfl
     rw [hm] at q1;cases q1
     obtain ⟨q',k1,k2,cur,k3,k4⟩:=(h'.1.heap m).blk hm
     rw [q2] at k1;cases k1
     refine ⟨cur.toList,v,some q,Hx.of k4,On _ (by simp), .inr ⟨_,m,q,ye,rfl,by simpa using ND,rfl,q2,k2,by simpa using k3,λu hu=>?_,q3⟩⟩
     obtain ⟨i,hi,rfl⟩:=List.mem_iff_getElem.1 hu
     have hl:=k4.1
     obtain ⟨u',h6,h7,_⟩:=k4.2 i (uM[i]'(by omega)) (List.getElem?_eq_getElem _)
     rw [List.getElem?_eq_getElem hi] at h6
     rw [Option.some.inj h6];exact h7
    ·exfalso;simp only [List.length_cons,List.length_nil] at v1 v2;omega
  obtain ⟨uO,p1,p2,p3,p4,p5⟩:=r9 h'.1 s.outs 0 (bc++as) (bv++qc) r' ls (hbv.append Ag3) yS m2
  obtain ⟨io1,io2⟩:=Nk (π0:=l5) h'.1 (λ_=>rfl) s.ins 0 x us o' UB qF
  have ZF:(bv++qc).drop s.Si=qc:=by rw [<-Aed];simp
  let ρ:Pi:= λl0=>if l0=Fo s.outs.length then qm else uO l0
  have VE:ρ (Fo s.outs.length)=qm:=if_pos rfl
  have Aar: ∀l0,l0≠Fo s.outs.length->ρ l0=uO l0:= λl0 h=>if_neg h
  have Aaq: ∀j,j<s.outs.length->ρ (Fo j)=uO (Fo j):= λj hj=>Aar _ (by unfold Fo;omega)
  have oV: ∀l0 q,ρ l0=some q->(l0=Fo s.outs.length/\qm=some q)\/(l0≠Fo s.outs.length/\uO l0=some q):= λl0 q h=>by
   by_cases e:l0=Fo s.outs.length
   ·subst e;rw [VE] at h;exact .inl ⟨rfl,h⟩
   ·rw [Aar l0 e] at h;exact .inr ⟨e,h⟩
  have Aa3: ∀q,qm=some q-> ∃m,ml= [m]/\m<Ai/\Wa m=some q:= λq hq=>by
   rcases SD with ⟨_,_,h1,_⟩|⟨_,m,q',_,h1,h2,h3,h4,_⟩
   ·rw [h1] at hq;cases hq
   ·rw [h3] at hq;cases hq;exact ⟨m,h1,h2,h4⟩
  have p3': ∀l0 q b,ρ l0=some q->q.Ay b-> ∃l1∈ml++ls,∃p,Wa l1=some p/\p.cl b/\((s.outs.all λc=>!c.SN)=true->p.Ay b)/\((l1∈ls)\/l1<Ai):= λl0 q b h1 h2=>by
   rcases oV l0 q h1 with ⟨_,h3⟩|⟨_,h3⟩
   ·obtain ⟨m,e1,e2,e3⟩:=Aa3 q h3
    exact ⟨m,by rw [e1];simp,q,e3,h'.1.sub m q b e3 h2,λ_=>h2, .inr e2⟩
   ·obtain ⟨l1,g1,p,g2,g3,g4⟩:=p3 l0 q b h3 h2
    exact ⟨l1,List.mem_append_right _ g1,p,g2,g3,g4, .inl g1⟩
  have p4': ∀l0 l1 q q' b,ρ l0=some q->ρ l1=some q'->q.Ay b->q'.Ay b->l0=l1:= λl0 l1 q q' b h1 h2 h3 h4=>by
   have vC: ∀l0 q q' b,uO l0=some q->qm=some q'->q.Ay b->q'.Ay b->False:= λl0 q q' b h1 h2 h3 h4=>by
    obtain ⟨m,e1,e2,e3⟩:=Aa3 q' h2
    obtain ⟨l1,g1,p,g2,g3,_⟩:=p3 l0 q b h1 h3
    have:=h'.1.inj m l1 q' p b e3 g2 (h'.1.sub m q' b e3 h4) g3
    exact m3 m (by rw [e1];simp) l1 g1 this
   rcases oV l0 q h1 with ⟨e1,h5⟩|⟨e1,h5⟩<;>rcases oV l1 q' h2 with ⟨e2,h6⟩|⟨e2,h6⟩
   ·rw [e1,e2]
   ·exact (vC l1 q' q b h6 h5 h4 h3).elim
   ·exact (vC l0 q q' b h5 h6 h3 h4).elim
   ·exact p4 l0 l1 q q' b h5 h6 h3 h4
  have CI: ∀l0 q,Ai<=l0->l5 l0=some q->Ad st.heap l0≠none/\(l0∈Jz 0 s.ins\/ ∃b,Ad st.heap l0=some b/\b.row=none):= λl0 q h1 h2=>by
   rcases GV l0 q h2 with ⟨h3,_⟩|⟨h3,rfl,_⟩
   ·have sC:=qO s.ins 0 x l0 ZU (by omega) (λhnn=>by rw [IY l0 hnn] at h3;cases h3) (by omega)
    exact ⟨io2 l0 sC, .inl sC⟩
   ·obtain ⟨b,h4,h5⟩:=Ag4 h3
    exact ⟨by rw [h4];simp, .inr ⟨b,h4,h5⟩⟩
  have hDO:(s.outs.all λc=>!c.SN)=true-> ∀b,bD Sg l5 ρ b->Na Wa b\/Sg b:=by
   intro hx b hb
   rcases hb with hb|⟨l0,q,h1,h2,h3⟩|⟨l0,q,h1,h2⟩
   ·exact .inr hb
   ·have hs:=h'.1.cO l0 h1 (CI l0 q h1 h2).1
    have hs:Us ((l5 l0).map full) (Wa l0):=hs
    rw [h2] at hs
    cases uJ:Wa l0 with
    |none=>rw [uJ] at hs;exact hs.elim
    |some q1=>rw [uJ] at hs;exact .inl ⟨l0,q1,uJ,(hs.2.2.2 b).1 h3⟩
   ·obtain ⟨m,_,p,hm2,_,UK,_⟩:=p3' l0 q b h1 h2
    exact .inl ⟨m,p,hm2,UK hx⟩
  have hDD: ∀b,bD S π ρ b->bD Sg l5 ρ b:= λb hb=>by
   rcases hb with hb|⟨l0,q,h1,h2,h3⟩|hb
   ·by_cases HQ:s.gv g b
    ·obtain ⟨XV,rfl⟩:=HQ
     exact .inr (.inl ⟨Ls,_,SB,if_pos ⟨XV,rfl⟩,rfl⟩)
    ·exact .inl ⟨hb,HQ⟩
   ·refine .inr (.inl ⟨l0,q,h1,?_,h3⟩)
    show (if s.ptr.isSome=true/\l0=Ls then _ else π l0)=some q
    rw [if_neg]
    ·exact h2
    ·rintro ⟨_,rfl⟩
     rw [IY Ls UZ] at h2;cases h2
   ·exact .inr (.inr hb)
  have NA:s.flat=true\/(s.outs.all λc=>!c.SN)=true:=by unfold MSpec.KO at ZQ;simpa only [Bool.or_eq_true] using ZQ
  have io1:Ha w' (bD S π ρ) π 0 s.ins o':=by
   refine Ha.congr s.ins 0 o' RW ?_
   rcases NA with hf|hf
   ·unfold MSpec.flat at hf
    simp only [Bool.and_eq_true] at hf
    exact Ha.any s.ins 0 o' hf.2 io1
   ·exact Ha.Ez (λb hb=>hDO hf b (hDD b hb)) s.ins 0 o' io1
  have p1:Ew w' (bD S π ρ) ρ 0 s.outs r' (bv++qc):=by
   have p1:Ew w' (λb=>Na Wa b\/Sg b) ρ 0 s.outs r' (bv++qc):=Ew.IQ s.outs 0 r' _ (λj _ hj=>Aaq j (by omega)) p1
   rcases NA with hf|hf
   ·unfold MSpec.flat at hf
    simp only [Bool.and_eq_true] at hf
    exact Ew.any s.outs 0 r' (bv++qc) hf.1 p1
   ·exact Ew.Ez (λb hb=>hDO hf b (hDD b hb)) s.outs 0 r' (bv++qc) p1
  refine ⟨v,bv++qc,ρ,h'.2.defers,hv,?_,Aeb qc,⟨h'.1.below.os,h'.1.below.tape,h'.1.below.output,h'.1.below.size,λk hk hn=>h'.1.below.block k hk λho=>hn ((Sb k).1 ho)⟩,io1,p1,⟨λl0 q b h1 h2=>?_,p4'⟩,λl0 UH=>?_,λkj HR=>?_⟩
  ·rw [ZF]
   unfold jX
   rcases SD with ⟨h1,_,_,h2⟩|⟨tid,m,q,h1,_,_,h3,_,h4,h5,h6,h7⟩
   ·rw [h1];exact h2
   ·rw [h1];exact ⟨q,by rw [VE,h3],h4,h5,h6,h7⟩
  ·obtain ⟨m,XR,p,hm2,hm3,_,UK⟩:=p3' l0 q b h1 h2
   obtain ⟨k1,k2⟩:=h'.1.place m p b hm2 hm3
   refine ⟨k2,k1.imp id λ⟨c0,q0,h5,h6⟩=>?_⟩
   have Gt:c0<Ai:=Classical.byContradiction λhn=>by
    obtain ⟨Fc,sC⟩:=CI c0 q0 (by omega) h5
    have hs:=h'.1.cO c0 (by omega) Fc
    have hs:Us ((l5 c0).map full) (Wa c0):=hs
    rw [h5] at hs
    cases uJ:Wa c0 with
    |none=>rw [uJ] at hs;exact hs.elim
    |some q1=>
     rw [uJ] at hs
     have hf1:q1.Ay b:=(hs.2.2.2 b).1 h6
     have:=h'.1.inj c0 m q1 p b uJ hm2 (h'.1.sub c0 q1 b uJ hf1) hm3
     subst this
     rcases UK with UK|UK
     ·rcases sC with sC|⟨b1,sB,RI⟩
      ·exact n3 c0 XR c0 sC rfl
      ·obtain ⟨b2,TM,hb4⟩:=nF s.outs _ _ _ yS c0 UK
       rw [sB] at TM;cases TM
       exact hb4 RI
     ·exact hn UK
   refine ⟨c0,q0,Gt,?_,h6⟩
   rcases GV c0 q0 h5 with ⟨h7,_⟩|⟨_,h7,_⟩
   ·exact h7
   ·omega
  ·cases hp:ρ l0 with
   |none=>rfl
   |some q=>
    rcases oV l0 q hp with ⟨e,h3⟩|⟨_,h3⟩
    ·refine absurd e (UH _ ?_)
     rcases SD with ⟨_,_,h4,_⟩|⟨tid,m,q',h4,_⟩
     ·rw [h4] at h3;cases h3
     ·unfold MSpec.Mx;rw [h4];simp
    ·obtain ⟨j,_,j2,j3⟩:=p2 l0 q h3
     exact absurd j3 (UH j (by unfold MSpec.Mx;omega))
  ·obtain ⟨l0,off,len,e,te,rows,out,p,q1,q2,q3,q4,q5⟩:=qR qK kj HR
   have hj:kj.2<s.outs.length:=by
    rw [<-r8 s.outs _ _ _ yS]
    exact (List.getElem?_eq_some_iff.1 q1).1
   have e1:=p5 kj.2 l0 off len e te rows out (some p) q1 q2
   rw [Nat.zero_add] at e1
   rw [Aaq _ hj,e1]
   have hk:=((h'.1.heap l0).blk q2).2
   obtain ⟨l1,n1⟩:=p
   simp only [KeptAt] at hk
   dsimp only at q3 q4
   subst q3
   have EB:π0 (Bl false kj.1)=(π (Bl false kj.1)).map full:=by
    show (if s.ptr.isSome=true/\Bl false kj.1=Ls then _ else π (Bl false kj.1)).map full=_
    rw [if_neg λh=>hvl false kj.1 q5 h.2]
   rw [EB] at hk
   unfold qn
   cases hp:π (Bl false kj.1) with
   |none=>
    rw [hp] at hk
    cases uJ:Wa l0 with
    |none=>trivial
    |some q=>rw [uJ] at hk;exact hk.elim
   |some q0=>
    rw [hp] at hk
    cases uJ:Wa l0 with
    |none=>rw [uJ] at hk;exact hk.elim
    |some q=>
     rw [uJ] at hk
     obtain ⟨k1,k2,k3,k4⟩:=hk
     exact ⟨k1,k2,k3,λj hj hc=>k4 j (by omega) hc⟩
 refine calls_of_wp hf hb ?_
 refine (nW hT Md hm he _ w _ h0 λe st a' w' ⟨Fc,lq⟩ h'=>?_).1
 obtain ⟨v,Nh,ρ,p1,p2,p3⟩:=fin st a' w' lq h'
 cases e with
 |normal=>exact ⟨p1,v,p2,v,Nh,ρ,rfl,p3⟩
 |ret=>exact ⟨p1,v,p2,v,Nh,ρ,rfl,p3⟩
 |exit id=>exact absurd rfl (Fc id)
end
end Go.Proofs.YtjbdmibbbpdnnaaGreat
