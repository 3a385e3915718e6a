/-
  Part 27 of the proof that the statement FnExactPhaseTwoWord holds.
-/
import Derived.Test.YtjbdmibbbpdnnaaCPhaseTwoWord25
namespace Go.Proofs.Ytjbdmibbbpdnnaa
open Go.RowKit
section
variable {P:Program} {T:Tab} {Γ:Env} {X:Ctx} {w w':World} {π:Pi} {H:List (Nat×OB)}
theorem mI: ∀(cs:List (Bool×CK)) (k:Nat) (x:Ins.den cs) (l:Nat),Ae (Sh k cs x) l≠none-> ∃b j,k<=j/\j<k+cs.length/\l=Bv b j
 | [],_,_,_,h=>absurd rfl h
 |p::r,k,x,l,h=>by
  simp only [Sh] at h
  by_cases e:l=Bv p.1 k
  ·exact ⟨p.1,k,Nat.le_refl _,by simp,e⟩
  ·have:Ae (Sh (k+1) r x.2) l≠none:=by
    cases hc:dP (Bv p.1 k) p.2 x.1 with
    |none=>rw [hc] at h;exact h
    |some b=>rw [hc] at h;simpa only [bR,Ae,if_neg (Ne.symm e)] using h
   obtain ⟨b,j,h1,h2,h3⟩:=mI r (k+1) x.2 l this
   exact ⟨b,j,by omega,by simp;omega,h3⟩
theorem CL {p:Bool×CK} {r:List (Bool×CK)} {k:Nat} {x:Ins.den (p::r)} (hk:k+(r.length+1)<100000) {l:Nat} {b:OB} (h:Ae (Sh (k+1) r x.2) l=some b):Ae (Sh k (p::r) x) l=some b:=by
 obtain ⟨b',j,h1,h2,rfl⟩:=mI r (k+1) x.2 l (by rw [h];simp)
 simp only [Sh]
 cases dP (Bv p.1 k) p.2 x.1 with
 |none=>exact h
 |some c=>simp only [bR,Ae];rw [if_neg (AS (by omega) (by omega) (by omega))];exact h
theorem GJ {D:Nat->Prop} (hD: ∀b,Be X.w0.heap.size X.Sc π false b->D b) (TD:X.w0=w) {l:Nat} {r:Option Real} (Ym:X.cB l=r.map full) {u:Value} {c:CK} {x:c.den} (h:Zl w D r u c x) {b:OB} (hb:dP l c x=some b):Av X w π H (r.map full) b:=by
 have Sd: ∀ {e:Ty} {es:List Value} {y:e.den},Cells w D e es y->Cells w (Be X.w0.heap.size X.Sc π false) e es y:= λ {e es y} h=>Cells.Cw (Nat.le_refl _) (λ_ _ _=>rfl) (λb _ hb=>hD b hb) e es y h
 cases c with
 |Ee τ=>cases hb
 |row e te=>
  simp only [dP,Option.some.injEq] at hb;subst hb
  obtain ⟨_,h⟩:=h
  simp only [aU] at h
  simp only [Av,Fl]
  cases r with
  |none=>exact h
  |some q=>
   obtain ⟨k1,cu,ti,k2,k3,k4,k5,k6⟩:=h
   exact ⟨⟨k1.1,k1.2,λh=>by cases h⟩,cu,ti,k2,k3,k4,k5,λi y hy=>by
    obtain ⟨es,g1,g2,g3⟩:=k6 i y hy
    exact ⟨es,g1,g2,Sd g3⟩,λh=>by cases h⟩
 |Dt e te=>
  simp only [dP,Option.some.injEq] at hb;subst hb
  cases r<;>exact h.2
 |part e te=>
  simp only [dP,Option.some.injEq] at hb;subst hb
  obtain ⟨_,hf,h⟩:=h
  simp only [Av,Fl]
  cases r with
  |none=>exact h
  |some q=>
   obtain ⟨k1,cu,ti,k2,k3,k4,k5,k6⟩:=h
   exact ⟨⟨k1.1,k1.2,λh=>by cases h⟩,cu,ti,k2,k3,k4,k5,λi y hy=>by
    obtain ⟨es,g1,g2,g3⟩:=k6 i y hy
    exact ⟨es,g1,g2,Sd g3⟩,λh=>by cases h⟩
 |Al e te kp=>
  simp only [dP,Option.some.injEq] at hb;subst hb
  have h2:Td w D r e x none:=h.2
  have h3:=Td.Ev h2 hD
  refine ⟨by cases r<;>exact h3,?_⟩
  cases kp with
  |false=>trivial
  |true=>
   simp only [if_true,KeptAt]
   rw [Ym]
   cases r with
   |none=>trivial
   |some q=>exact ⟨rfl,rfl,rfl,λj _ _=>by rw [TD]⟩
theorem fG {D:Nat->Prop} (hD: ∀b,Be X.w0.heap.size X.Sc π false b->D b) (TD:X.w0=w) {π0:Pi} (Ym: ∀l,X.cB l=(π0 l).map full): ∀(cs:List (Bool×CK)) (k:Nat) (x:Ins.den cs) (us:List Value),Zm w D π0 k cs x us-> ∀l b,Ae (Sh k cs x) l=some b->Av X w π H ((π0 l).map full) b
 | [],_,_,_,_,_,_,h=>by cases h
 |_::_,_,_,[],h,_,_,_=>h.elim
 |p::r,k,x,u::us,h,l,b,hb=>by
  simp only [Sh] at hb
  cases hc:dP (Bv p.1 k) p.2 x.1 with
  |none=>rw [hc] at hb;exact fG hD TD Ym r (k+1) x.2 us h.2 l b hb
  |some c=>
   rw [hc] at hb
   simp only [bR,Ae] at hb
   split at hb
   ·rename_i e;subst e
    simp only [Option.some.injEq] at hb;subst hb
    exact GJ hD TD (Ym _) h.1 hc
   ·exact fG hD TD Ym r (k+1) x.2 us h.2 l b hb
theorem uY {S:Nat->Prop} {π0:Pi} {gv:Nat->Prop} {cB:Pi} (Yl: ∀l,π l=(π0 l).map full): ∀(cs:List (Bool×CK)) (k:Nat) (x:Ins.den cs) (us:List Value),k+cs.length<100000->Zm w (λb=>Om π0 b\/S b) π0 k cs x us->(∀l b,Ae (Sh k cs x) l=some b->Ae H l=some b)->
  Hw ⟨w,S,gv,cB⟩ w π H (Ve k cs x) us
 | [],_,_,[],_,_,_=>trivial
 | [],_,_,_::_,_,h,_=>h.elim
 |_::_,_,_,[],_,h,_=>h.elim
 |p::r,k,x,u::us,hk,h,hH=>by
  simp only [List.length_cons] at hk
  refine ⟨?_,uY Yl r (k+1) x.2 us (by omega) h.2 λl b hb=>hH l b (CL hk hb)⟩
  have h1:=h.1
  have hh: ∀b,dP (Bv p.1 k) p.2 x.1=some b->Ae H (Bv p.1 k)=some b:= λb hb=>hH _ b (by simp only [Sh];rw [hb];simp [bR,Ae])
  have eu:=Yl (Bv p.1 k)
  obtain ⟨io,c⟩:=p
  dsimp only at h1 hh eu⊢
  generalize x.1=y at*
  cases c with
  |Ee τ=>
   show Bd w _ τ u y
   cases hf:τ.flat with
   |true=>exact Bd.flat hf h1.2
   |false=>
    refine h1.2.Ev λb _ hb=>?_
    rcases hb with ⟨l,q,h3,h4⟩|hb|⟨hb,_⟩
    ·rw [Yl l] at h3
     cases hp:π0 l with
     |none=>rw [hp] at h3;cases h3
     |some q0=>rw [hp] at h3;simp only [Option.map_some,Option.some.injEq] at h3;subst h3;exact .inl ⟨l,q0,hp,h4⟩
    ·exact .inr hb
    ·cases hb
  |row e te=>exact ⟨_,e.size,List.length y,hh _ rfl,rfl,by simp,by rw [eu];exact Sm h1.1⟩
  |Dt e te=>exact ⟨_,e.size,List.length y,hh _ rfl,rfl,by simp,by rw [eu];exact Sm h1.1⟩
  |part e te=>exact ⟨_,e.size,List.length y.1,hh _ rfl,rfl,h1.1.2,by rw [eu];exact Sm h1.1.1⟩
  |Al e te kp=>exact ⟨_,1,List.length y,hh _ rfl,rfl,by simp,by rw [eu];exact Sm h1.1⟩
theorem jt {p:Real} {s off len:Nat} {u:Value} {f:Nat->Prop} (h:Dv (some p) s off len u):Dv (some ⟨p.g,p.o+off,p.cap-off,f,f⟩) s 0 len u:=by
 obtain ⟨ad,h1,h2,h3⟩:=h
 exact ⟨ad,h1,by dsimp only;omega,λh0=>by dsimp only at h0;simpa using h3 (by omega)⟩
theorem nj {α:Type} {xs:List α} {off len i:Nat} {x:α} (h:((xs.drop off).take len)[i]?=some x):xs[off+i]?=some x:=by
 rw [List.getElem?_take] at h
 split at h
 ·rw [List.getElem?_drop] at h;exact h
 ·cases h
theorem Qe.part {P:Nat->Prop} {g o:Nat} {cur:Array Value} {e:Ty} {xs:List e.den} (off len:Nat) (h:Qe w P g o cur e xs):Qe w P g (o+off) cur e ((xs.drop off).take len):=by
 obtain ⟨Fs,t1,t2,t3,t4⟩:=h
 refine ⟨(Fs.drop off).take len,by simp [t1],List.nodup_cons.2 ⟨λhm=>(List.nodup_cons.1 t2).1 (Lw off len _ hm),fN off len (List.nodup_cons.1 t2).2⟩,λb hb=>t3 b (Lw off len b hb),λi x F hx hF=>?_⟩
 obtain ⟨es,k1,k2,k3⟩:=t4 (off+i) x F (nj hx) (nj hF)
 exact ⟨es,k1,λj u hu=>by rw [Nat.add_assoc o off i];exact k2 j u hu,k3⟩
theorem DB {st:St} (h:Hu X w π st.heap) {c:CK} (hg: ∀e te kp,c≠ .Al e te kp) {a:AC} {u:Value} (hu:Dx X w π st.heap a u) {x:c.den} {ls:List Nat} (he:dT st c a=some (x,ls)):
  ∃r,Zl w (λb=>Om π b\/X.Sc b) r u c x/\ ∀q,r=some q-> ∃l p,ls= [l]/\π l=some p/\(∀b,q.Az b->p.cl b)/\(c.QO=false-> ∀b,q.Az b->p.Az b):=by
 have GU: ∀ {f:Bool} (b:Nat),(Om π b\/X.Sc b)->Be X.w0.heap.size X.Sc π f b:= λb h=>h.imp id .inl
 cases c with
 |Ee τ=>
  simp only [dT] at he
  split at he
  ·rename_i hf
   cases hv:Bp st τ a with
   |none=>rw [hv] at he;cases he
   |some p=>
    obtain ⟨fr,y⟩:=p
    rw [hv] at he
    simp only [Option.map_some,Option.some.injEq,Prod.mk.injEq] at he
    obtain ⟨rfl,rfl⟩:=he
    refine ⟨none,⟨rfl,?_⟩,λq hq=>by cases hq⟩
    have Ev: ∀f,Bd w (Be X.w0.heap.size X.Sc π f) τ u y->Bd w (λb=>Om π b\/X.Sc b) τ u y:= λf hr=>hr.Ev λk _ hk=>GU k hk
    cases a with
    |data f Iz z=>
     rw [Ip] at hv
     split at hv
     ·rename_i ht;subst ht
      simp only [Option.some.injEq,Prod.mk.injEq] at hv
      obtain ⟨_,rfl⟩:=hv
      exact Ev f hu
     ·have Ss:τ.Ac=false:=by unfold bU at hv;split at hv<;>first|rfl|cases hv
      exact Ev _ ⟨[u],Xb hv hu,by simp [Ar,Ss]⟩
    |Hp=>
     have hu:u= .slice none 0 0:=hu
     subst hu
     cases τ<;>simp only [Bp,Option.some.injEq,Prod.mk.injEq,reduceCtorEq] at hv
     ·obtain ⟨_,rfl⟩:=hv;exact ⟨[_],⟨none,0,0,rfl,rfl,Nat.le_refl _, .inl rfl⟩,rfl⟩
     ·obtain ⟨_,rfl⟩:=hv;exact ⟨[_], .inl ⟨rfl,0,rfl⟩,rfl⟩
    |Qw=>
     have hu:u= .pointer none:=hu
     subst hu
     cases τ<;>simp only [Bp,Option.some.injEq,Prod.mk.injEq,reduceCtorEq] at hv
     obtain ⟨_,rfl⟩:=hv;exact ⟨[_], .inl ⟨rfl,rfl⟩,rfl⟩
    |_=>cases τ<;>simp [AC.settled,Ty.flat,Bp] at hf hv
  ·cases he
 |row e te=>
  cases a<;>simp only [dT] at he<;>try (cases he;done)
  ·simp only [Option.some.injEq,Prod.mk.injEq] at he
   obtain ⟨rfl,rfl⟩:=he
   have hu:u= .slice none 0 0:=hu
   exact ⟨none,⟨⟨hu,rfl,rfl⟩,rfl⟩,λq hq=>by cases hq⟩
  ·rename_i l off len
   split at he
   ·rename_i fr tr e' Ld xs hl
    split at he
    ·rename_i hc
     obtain ⟨rfl,rfl⟩:=hc
     simp only [Option.some.injEq,Prod.mk.injEq] at he
     obtain ⟨rfl,rfl⟩:=he
     unfold St.at at hl
     obtain ⟨h1,h2⟩:=Jd hu hl
     have hb:=(h.heap l).Me hl
     simp only [Av,Fl] at hb
     have hlen:((xs.drop off).take len).length=len:=by simp;omega
     cases hp:π l with
     |none=>
      rw [hp] at h2 hb
      obtain ⟨rfl,rfl,rfl⟩:=h2
      exact ⟨none,⟨⟨rfl,rfl,by simp⟩,by show (xs.drop 0).take 0= [];simp⟩,λq hq=>by cases hq⟩
     |some p=>
      rw [hp] at h2 hb
      obtain ⟨k1,cur,ti,k2,k3,k4,k5,k6,_⟩:=hb
      have ho:=h2
      obtain ⟨ad,_,mC,_⟩:=h2
      refine ⟨some ⟨p.g,p.o+off,p.cap-off,p.Az,p.Az⟩,⟨by rw [hlen];exact jt ho,⟨k1.1,k1.2.1⟩,cur,ti,k2,by rw [k3];congr 1;dsimp only;omega,by dsimp only;omega,by rw [hlen];dsimp only;omega,λi y hy=>?_⟩,
       fun q hq=>by cases hq;exact ⟨l,p,rfl,hp,λb hb=>h.sub l p b hp hb,λ_ b hb=>hb⟩⟩
      obtain ⟨es,g1,g2,g3⟩:=k6 (off+i) y (nj hy)
      exact ⟨es,g1,λj u hu=>by dsimp only;rw [Nat.add_assoc p.o off i];exact g2 j u hu,Cells.Cw (Nat.le_refl _) (λ_ _ _=>rfl) (λb _ hb=>GU b hb) e' es y g3⟩
    ·cases he
   ·cases he
 |Dt e te=>
  cases a<;>simp only [dT] at he<;>try (cases he;done)
  ·simp only [Option.some.injEq,Prod.mk.injEq] at he
   obtain ⟨rfl,rfl⟩:=he
   have hu:u= .slice none 0 0:=hu
   exact ⟨none,⟨⟨hu,rfl,rfl⟩,rfl⟩,λq hq=>by cases hq⟩
  ·rename_i l off len
   split at he
   ·rename_i fr tr e' Ld xs hl
    split at he
    ·rename_i hc
     obtain ⟨rfl,rfl,hf⟩:=hc
     simp only [Option.some.injEq,Prod.mk.injEq] at he
     obtain ⟨rfl,rfl⟩:=he
     unfold St.at at hl
     obtain ⟨h1,h2⟩:=Jd hu hl
     have hb:=(h.heap l).Me hl
     simp only [Av,Fl] at hb
     have hlen:((xs.drop off).take len).length=len:=by simp;omega
     cases hp:π l with
     |none=>
      rw [hp] at h2 hb
      obtain ⟨rfl,rfl,rfl⟩:=h2
      exact ⟨none,⟨⟨rfl,rfl,by simp⟩,by show (xs.drop 0).take 0= [];simp⟩,λq hq=>by cases hq⟩
     |some p=>
      rw [hp] at h2 hb
      obtain ⟨k1,cur,ti,k2,k3,k4,k5,k6,k7⟩:=hb
      have ho:=h2
      obtain ⟨ad,_,mC,_⟩:=h2
      have ht:Qe w p.cl p.g p.o cur e' xs:=by
       simp only [Bool.or_eq_true] at hf
       rcases hf with hf|hf
       ·exact k7 hf
       ·exact gI hf k6
      exact ⟨some ⟨p.g,p.o+off,p.cap-off,p.cl,p.cl⟩,⟨by rw [hlen];exact jt ho,h.sub l p _ hp k1.1,cur,ti,k2,by rw [k3];congr 1;dsimp only;omega,by dsimp only;omega,by rw [hlen];dsimp only;omega,ht.part off len⟩,
       fun q hq=>by cases hq;exact ⟨l,p,rfl,hp,λb hb=>hb,λhx=>by cases hx⟩⟩
    ·cases he
   ·rename_i e' Ld xs hl
    split at he
    ·rename_i hc
     obtain ⟨rfl,rfl⟩:=hc
     simp only [Option.some.injEq,Prod.mk.injEq] at he
     obtain ⟨rfl,rfl⟩:=he
     unfold St.at at hl
     obtain ⟨h1,h2⟩:=Vq hu hl
     have hb:=(h.heap l).Me hl
     simp only [Av,Iq] at hb
     have hlen:((xs.drop off).take len).length=len:=by simp;omega
     cases hp:π l with
     |none=>
      rw [hp] at h2 hb
      obtain ⟨rfl,rfl,rfl⟩:=h2
      exact ⟨none,⟨⟨rfl,rfl,by simp⟩,by show (xs.drop 0).take 0= [];simp⟩,λq hq=>by cases hq⟩
     |some p=>
      rw [hp] at h2 hb
      obtain ⟨k1,cur,ti,k2,k3,k4,k5,ht⟩:=hb
      have ho:=h2
      obtain ⟨ad,_,mC,_⟩:=h2
      exact ⟨some ⟨p.g,p.o+off,p.cap-off,p.Az,p.Az⟩,⟨by rw [hlen];exact jt ho,k1,cur,ti,k2,by rw [k3];congr 1;dsimp only;omega,by dsimp only;omega,by rw [hlen];dsimp only;omega,ht.part off len⟩,
       fun q hq=>by cases hq;exact ⟨l,p,rfl,hp,λb hb=>h.sub l p b hp hb,λ_ b hb=>hb⟩⟩
    ·cases he
   ·cases he
 |part e te=>cases a<;>simp [dT] at he
 |Al e te kp=>exact absurd rfl (hg e te kp)
theorem IU {st:St} (h:Hu X w π st.heap) {c:CK} {a:AC} {u:Value} (hu:Dx X w π st.heap a u) {x:c.den} {ls:List Nat} (he:dT st c a=some (x,ls)):
  ∃r,Zl w (λb=>Om π b\/X.Sc b) r u c x/\(∀q,r=some q-> ∃l p,ls= [l]/\π l=some p/\(∀b,q.Az b->p.cl b)/\(c.QO=false-> ∀b,q.Az b->p.Az b))/\
   (∀l off len e te rows out kp,a= .own l off len->Ae st.heap l=some (.Al e te rows out kp)->r=π l):=by
 have og:(∀e te kp,c≠ .Al e te kp)->(∀l off len e te rows out kp,a=AC.own l off len->Ae st.heap l=some (OB.Al e te rows out kp)->False)->
   ∃r,Zl w (λb=>Om π b\/X.Sc b) r u c x/\(∀q,r=some q-> ∃l p,ls= [l]/\π l=some p/\(∀b,q.Az b->p.cl b)/\(c.QO=false-> ∀b,q.Az b->p.Az b))/\
   (∀l off len e te rows out kp,a= .own l off len->Ae st.heap l=some (.Al e te rows out kp)->r=π l):= λh1 h2=>by
  obtain ⟨r,g1,g2⟩:=DB h h1 hu he
  exact ⟨r,g1,g2,λl off len e te rows out kp h3 h4=>(h2 l off len e te rows out kp h3 h4).elim⟩
 cases c with
 |Ee τ=>
  refine og (λ_ _ _ h=>by cases h) λl off len e te rows out kp h3 h4=>?_
  subst h3
  simp only [dT] at he
  split at he
  ·rename_i hf
   cases τ<;>simp [AC.settled,Ty.flat,Bp] at hf he
  ·cases he
 |row e te=>
  refine og (λ_ _ _ h=>by cases h) λl off len e te rows out kp h3 h4=>?_
  subst h3
  simp only [dT,St.at,h4] at he
  cases he
 |Dt e te=>
  refine og (λ_ _ _ h=>by cases h) λl off len e te rows out kp h3 h4=>?_
  subst h3
  simp only [dT,St.at,h4] at he
  cases he
 |part e te=>cases a<;>simp [dT] at he
 |Al e te kp=>
  cases a<;>simp only [dT] at he<;>try (cases he;done)
  rename_i l off len
  split at he
  ·rename_i e' Ld rows kp' hl
   split at he
   ·rename_i hc
    obtain ⟨rfl,rfl,rfl,rfl⟩:=hc
    simp only [Option.some.injEq,Prod.mk.injEq] at he
    obtain ⟨rfl,rfl⟩:=he
    unfold St.at at hl
    obtain ⟨b,sz,n,h1,h2,_,h3⟩:=hu
    rw [hl] at h1;cases h1
    simp only [OB.row,Option.some.injEq,Prod.mk.injEq] at h2
    obtain ⟨rfl,rfl⟩:=h2
    have hb:=((h.heap l).Me hl).1
    refine ⟨π l,⟨h3,Td.Ev hb λb hb=>hb.imp id .inl⟩,λq hq=>⟨l,q,rfl,hq,λb hb=>h.sub l q b hq hb,λ_ b hb=>hb⟩,λl' Ak2 Ajx _ _ _ _ _ he _=>?_⟩
    simp only [AC.own.injEq] at he
    rw [he.1]
   ·cases he
  ·cases he
theorem Ew.congr {D:Nat->Prop} {ρ ρ':Pi} : ∀(cs:List CK) (k:Nat) (x:CKs.den cs) (us:List Value),(∀j,k<=j->ρ' (Fq j)=ρ (Fq j))->Ew w D ρ k cs x us->Ew w D ρ' k cs x us
 | [],_,_,[],_,h=>h
 | [],_,_,_::_,_,h=>h.elim
 |_::_,_,_,[],_,h=>h.elim
 |c::r,k,x,u::us,he,h=>⟨by rw [he k (Nat.le_refl _)];exact h.1,Ew.congr r (k+1) x.2 us (λj hj=>he j (by omega)) h.2⟩
theorem qo {st:St} (h:Hu X w π st.heap): ∀(cs:List CK) (k:Nat) (as:List AC) (us:List Value) (x:CKs.den cs) (ls:List Nat),Hw X w π st.heap as us->Od st cs as=some (x,ls)->ls.Nodup->
  ∃ρ:Pi,Ew w (λb=>Om π b\/X.Sc b) ρ k cs x us/\(∀l q,ρ l=some q-> ∃j,k<=j/\j<k+cs.length/\l=Fq j)/\(∀l q b,ρ l=some q->q.Az b-> ∃l0∈ls,∃p,π l0=some p/\p.cl b/\((cs.all λc=>!c.QO)=true->p.Az b))/\
   (∀l l' q q' b,ρ l=some q->ρ l'=some q'->q.Az b->q'.Az b->l=l')/\
   (∀(j l off len:Nat) e te rows out kp,as[j]?=some (.own l off len)->Ae st.heap l=some (.Al e te rows out kp)->ρ (Fq (k+j))=π l)
 | [],k,[],[],x,ls,_,he,_=>by
  simp only [Od,Option.some.injEq,Prod.mk.injEq] at he
  exact ⟨λ_=>none,trivial,(λl q h=>by cases h),(λl q b h=>by cases h),(λl l' q q' b h=>by cases h),λj l off len e te rows out kp h=>by simp at h⟩
 | [],_,[],_::_,_,_,h,_,_=>h.elim
 | [],_,_::_,_,_,_,_,he,_=>by simp [Od] at he
 |_::_,_,[],_,_,_,_,he,_=>by simp [Od] at he
 |_::_,_,_::_,[],_,_,h,_,_=>h.elim
 |c::r,k,a::as,u::us,x,ls,hr,he,tN=>by
  simp only [Od] at he
  split at he
  ·rename_i x1 t1 x2 t2 h1 h2
   simp only [Option.some.injEq,Prod.mk.injEq] at he
   obtain ⟨rfl,rfl⟩:=he
   obtain ⟨n1,n2,n3⟩:=List.nodup_append.1 tN
   obtain ⟨ρ,g1,g2,g3,g4,g5⟩:=qo h r (k+1) as us x2 t2 hr.2 h2 n2
   obtain ⟨rr,r1,r2,r3⟩:=IU h hr.1 h1
   have ur: ∀l q q0 b,ρ l=some q->rr=some q0->q.Az b->q0.Az b->False:= λl q q0 b h3 h4 h5 h6=>by
    obtain ⟨l0,m0,p,p1,p2,_⟩:=g3 l q b h3 h5
    obtain ⟨l1,p',e1,p1',p2',_⟩:=r2 q0 h4
    have:=h.inj l0 l1 p p' b p1 p1' p2 (p2' b h6)
    exact n3 l1 (by rw [e1];simp) l0 m0 this.symm
   refine ⟨λl=>if l=Fq k then rr else ρ l,⟨by simpa using r1,Ew.congr r (k+1) x2 us (λj hj=>if_neg (by unfold Fq;omega)) g1⟩,λl q hq=>?_,λl q b hq hb=>?_,λl l' q q' b h3 h4 h5 h6=>?_,λj l off len e te rows out kp hj hl=>?_⟩
   ·dsimp only at hq
    by_cases e:l=Fq k
    ·exact ⟨k,Nat.le_refl _,by simp,e⟩
    ·rw [if_neg e] at hq
     obtain ⟨j,j1,j2,j3⟩:=g2 l q hq
     exact ⟨j,by omega,by simp;omega,j3⟩
   ·dsimp only at hq
    by_cases e:l=Fq k
    ·rw [if_pos e] at hq
     obtain ⟨l1,p',e1,p1',p2',p3'⟩:=r2 q hq
     exact ⟨l1,by rw [e1];simp,p',p1',p2' b hb,λhx=>p3' (by simp only [List.all_cons,Bool.and_eq_true,Bool.not_eq_true'] at hx;exact hx.1) b hb⟩
    ·rw [if_neg e] at hq
     obtain ⟨l0,m0,p,p1,p2,p3⟩:=g3 l q b hq hb
     exact ⟨l0,List.mem_append_right _ m0,p,p1,p2,λhx=>p3 (by simp only [List.all_cons,Bool.and_eq_true] at hx;exact hx.2)⟩
   ·dsimp only at h3 h4
    by_cases e:l=Fq k<;>by_cases e':l'=Fq k
    ·rw [e,e']
    ·rw [if_pos e] at h3;rw [if_neg e'] at h4
     exact (ur l' q' q b h4 h3 h6 h5).elim
    ·rw [if_neg e] at h3;rw [if_pos e'] at h4
     exact (ur l q q' b h3 h4 h5 h6).elim
    ·rw [if_neg e] at h3;rw [if_neg e'] at h4
     exact g4 l l' q q' b h3 h4 h5 h6
   ·rcases j with _|j
    ·simp only [List.getElem?_cons_zero,Option.some.injEq] at hj
     show (if Fq k=Fq k then rr else ρ (Fq k))=π l
     rw [if_pos rfl]
     exact r3 l off len e te rows out kp hj hl
    ·have:=g5 j l off len e te rows out kp (by simpa using hj) hl
     show (if Fq (k+(j+1))=Fq k then rr else ρ (Fq (k+(j+1))))=π l
     rw [if_neg (by unfold Fq;omega),<-this,show k+(j+1)=k+1+j by omega]
  ·cases he
theorem wm {r r':Option Real} (h:Uq (r.map full) r') {e:Ty} {xs:List e.den} {te:TypeId} {fr tr:Bool} (ha:Fl X w π r' fr tr e te xs):Mh w (λb=>Om π b\/X.Sc b) r e xs:=by
 cases r with
 |none=>cases r' with
  |none=>exact ha
  |some q=>exact h.elim
 |some p=>cases r' with
  |none=>exact h.elim
  |some q=>
   obtain ⟨e1,e2,e3,e4⟩:=h
   obtain ⟨k1,cur,ti,k2,k3,k4,k5,k6,_⟩:=ha
   have e1:p.g=q.g:=e1
   have e2:p.o=q.o:=e2
   have e3:p.cap=q.cap:=e3
   refine ⟨⟨by rw [e1];exact (e4 _).2 k1.1,λb hb=>by rw [e1];exact k1.2.1 b ((e4 b).1 hb)⟩,cur,ti,by rw [e1];exact k2,by rw [e2,e3];exact k3,by rw [e3];exact k4,by rw [e3];exact k5,λi y hy=>?_⟩
   obtain ⟨es,g1,g2,g3⟩:=k6 i y hy
   exact ⟨es,g1,by rw [e2];exact g2,Cells.Cw (Nat.le_refl _) (λ_ _ _=>rfl) (λb _ hb=>hb.imp id .inl) e es y g3⟩
theorem DX {r r':Option Real} (h:Uq (r.map full) r') {e:Ty} {xs:List e.den} {te:TypeId} (ha:Iq w r' e te xs):Iq w r e te xs:=by
 cases r with
 |none=>cases r' with
  |none=>exact ha
  |some q=>exact h.elim
 |some p=>cases r' with
  |none=>exact h.elim
  |some q=>
   obtain ⟨e1,e2,e3,e4⟩:=h
   obtain ⟨k1,cur,ti,k2,k3,k4,k5,Fs,t1,t2,t3,t4⟩:=ha
   have e1:p.g=q.g:=e1
   have e2:p.o=q.o:=e2
   have e3:p.cap=q.cap:=e3
   exact ⟨by rw [e1];exact (e4 _).2 k1,cur,ti,by rw [e1];exact k2,by rw [e2,e3];exact k3,by rw [e3];exact k4,by rw [e3];exact k5,Fs,t1,by rw [e1];exact t2,λb hb=>(e4 b).2 (t3 b hb),by rw [e2];exact t4⟩
theorem Nk {st:St} {π0:Pi} {D:Nat->Prop} {w0:World} (h:Hu X w π st.heap) (Ym: ∀l,X.cB l=(π0 l).map full): ∀(cs:List (Bool×CK)) (k:Nat) (x:Ins.den cs) (us:List Value) (o:IOs.den cs),Zm w0 D π0 k cs x us->Jf st k cs=some o->
  Hg w (λb=>Om π b\/X.Sc b) π0 k cs o/\ ∀l∈Jy k cs,Ae st.heap l≠none
 | [],_,_,_,_,_,_=>⟨trivial,λl hl=>by cases hl⟩
 |_::_,_,_,[],_,h,_=>h.elim
 |(false,c)::r,k,x,u::us,o,hi,he=>Nk h Ym r (k+1) x.2 us o hi.2 (by simpa only [Jf] using he)
 |(true, .Ee τ)::r,k,x,u::us,o,hi,he=>Nk h Ym r (k+1) x.2 us o hi.2 (by simpa only [Jf] using he)
 |(true, .Al e te kp)::r,k,x,u::us,o,hi,he=>Nk h Ym r (k+1) x.2 us o hi.2 (by simpa only [Jf] using he)
 |(true, .row e te)::r,k,x,u::us,o,hi,he=>by
  simp only [Jf] at he
  split at he
  ·rename_i x1 x2 h1 h2
   simp only [Option.some.injEq] at he;subst he
   obtain ⟨g1,g2⟩:=Nk h Ym r (k+1) x.2 us x2 hi.2 h2
   have h0:=hi.1
   simp only [jZ] at h1
   split at h1
   ·rename_i fr tr e' Ld xs hl
    split at h1
    ·rename_i hc
     obtain ⟨rfl,rfl⟩:=hc
     simp only [Option.some.injEq] at h1;subst h1
     unfold St.at at hl
     have hs:=h.cB (Bv true k) (by have:=Ud k;omega) (by rw [hl];simp)
     rw [Ym] at hs
     exact ⟨⟨wm (te:=Ld) hs ((h.heap _).Me hl),g1⟩,λl Hd=>by
      simp only [Jy] at Hd
      rcases List.mem_cons.1 Hd with rfl|Hd
      ·rw [hl];simp
      ·exact g2 l Hd⟩
    ·cases h1
   ·cases h1
  ·cases he
 |(true, .part e te)::r,k,x,u::us,o,hi,he=>by
  simp only [Jf] at he
  split at he
  ·rename_i x1 x2 h1 h2
   simp only [Option.some.injEq] at he;subst he
   obtain ⟨g1,g2⟩:=Nk h Ym r (k+1) x.2 us x2 hi.2 h2
   have h0:=hi.1
   simp only [jZ] at h1
   split at h1
   ·rename_i fr tr e' Ld xs hl
    split at h1
    ·rename_i hc
     obtain ⟨rfl,rfl⟩:=hc
     simp only [Option.some.injEq] at h1;subst h1
     unfold St.at at hl
     have hs:=h.cB (Bv true k) (by have:=Ud k;omega) (by rw [hl];simp)
     rw [Ym] at hs
     exact ⟨⟨wm (te:=Ld) hs ((h.heap _).Me hl),g1⟩,λl Hd=>by
      simp only [Jy] at Hd
      rcases List.mem_cons.1 Hd with rfl|Hd
      ·rw [hl];simp
      ·exact g2 l Hd⟩
    ·cases h1
   ·cases h1
  ·cases he
 |(true, .Dt e te)::r,k,x,u::us,o,hi,he=>by
  simp only [Jf] at he
  split at he
  ·rename_i x1 x2 h1 h2
   simp only [Option.some.injEq] at he;subst he
   obtain ⟨g1,g2⟩:=Nk h Ym r (k+1) x.2 us x2 hi.2 h2
   simp only [jZ] at h1
   split at h1
   ·rename_i e' Ld xs hl
    split at h1
    ·rename_i hc
     obtain ⟨rfl,rfl⟩:=hc
     simp only [Option.some.injEq] at h1;subst h1
     unfold St.at at hl
     have hs:=h.cB (Bv true k) (by have:=Ud k;omega) (by rw [hl];simp)
     rw [Ym] at hs
     exact ⟨⟨DX (te:=Ld) hs ((h.heap _).Me hl),g1⟩,λl Hd=>by
      simp only [Jy] at Hd
      rcases List.mem_cons.1 Hd with rfl|Hd
      ·rw [hl];simp
      ·exact g2 l Hd⟩
    ·cases h1
   ·cases h1
  ·cases he
theorem oP {p:Bool×CK} {r:List (Bool×CK)} (h:Sl (p::r)=true):Sl r=true:=by
 rcases p with ⟨_|_,c⟩<;>cases c<;>first|(simp [Sl] at h;done)|simpa [Sl] using h
theorem q7: ∀(cs:List (Bool×CK)) (k:Nat) (x:Ins.den cs) (l:Nat),Sl cs=true->k+cs.length<100000->Ae (Sh k cs x) l≠none-> ¬l<Ak->l∈Jy k cs
 | [],_,_,_,_,_,h,_=>absurd rfl h
 |(io,c)::r,k,x,l,XX,hk,h,hp=>by
  simp only [List.length_cons] at hk
  simp only [Sh] at h
  have tail:Ae (Sh (k+1) r x.2) l≠none->l∈Jy (k+1) r:= λh=>q7 r (k+1) x.2 l (oP XX) (by omega) h hp
  have sub: ∀m,m∈Jy (k+1) r->m∈Jy k ((io,c)::r):= λm hm=>by
   cases io<;>cases c<;>simp only [Jy]<;>first|exact hm|exact List.mem_cons_of_mem _ hm
  cases hc:dP (Bv io k) c x.1 with
  |none=>rw [hc] at h;exact sub l (tail h)
  |some b=>
   rw [hc] at h
   simp only [bR,Ae] at h
   split at h
   ·rename_i e;subst e
    cases io with
    |false=>exact absurd (az (by omega)) hp
    |true=>cases c with
     |Ee τ=>cases hc
     |row e te=>simp [Jy]
     |Dt e te=>simp [Jy]
     |part e te=>simp [Jy]
     |Al e te kp=>simp [Sl] at XX
   ·exact sub l (tail h)
theorem Zl.Ev {D D':Nat->Prop} (hD: ∀b,D' b->D b) {r:Option Real} {u:Value} {c:CK} {x:c.den} (h:Zl w D r u c x):Zl w D' r u c x:=by
 cases c with
 |Ee τ=>exact ⟨h.1,h.2.Ev λb _ hb=>hD b hb⟩
 |row e te=>exact ⟨h.1,Mh.Ev h.2 hD⟩
 |Dt e te=>exact h
 |part e te=>exact ⟨h.1,h.2.1,Mh.Ev h.2.2 hD⟩
 |Al e te kp=>exact ⟨h.1,Td.Ev h.2 hD⟩
theorem Ew.Ev {D D':Nat->Prop} (hD: ∀b,D' b->D b) {ρ:Pi} : ∀(cs:List CK) (k:Nat) (x:CKs.den cs) (us:List Value),Ew w D ρ k cs x us->Ew w D' ρ k cs x us
 | [],_,_,[],h=>h
 | [],_,_,_::_,h=>h.elim
 |_::_,_,_,[],h=>h.elim
 |_c::r,k,x,_u::us,h=>⟨h.1.Ev hD,Ew.Ev hD r (k+1) x.2 us h.2⟩
theorem Hg.Ev {D D':Nat->Prop} (hD: ∀b,D' b->D b) {π:Pi} : ∀(cs:List (Bool×CK)) (k:Nat) (x:IOs.den cs),Hg w D π k cs x->Hg w D' π k cs x
 | [],_,_,h=>h
 |(false,_)::r,k,x,h=>Hg.Ev hD r (k+1) x h
 |(true, .Ee _)::r,k,x,h=>Hg.Ev hD r (k+1) x h
 |(true, .Al _ _ _)::r,k,x,h=>Hg.Ev hD r (k+1) x h
 |(true, .row _e _te)::r,k,x,h=>⟨Mh.Ev h.1 hD,Hg.Ev hD r (k+1) x.2 h.2⟩
 |(true, .Dt _e _te)::r,k,x,h=>⟨h.1,Hg.Ev hD r (k+1) x.2 h.2⟩
 |(true, .part _e _te)::r,k,x,h=>⟨Mh.Ev h.1 hD,Hg.Ev hD r (k+1) x.2 h.2⟩
theorem Zm.congr {D:Nat->Prop} {π0 Vx:Pi} : ∀(cs:List (Bool×CK)) (k:Nat) (x:Ins.den cs) (us:List Value),(∀b j,k<=j->j<k+cs.length->Vx (Bv b j)=π0 (Bv b j))->Zm w D π0 k cs x us->Zm w D Vx k cs x us
 | [],_,_,[],_,h=>h
 | [],_,_,_::_,_,h=>h
 |_::_,_,_,[],_,h=>h
 |p::r,k,x,u::us,hp,h=>⟨by rw [hp p.1 k (Nat.le_refl _) (by simp)];exact h.1,Zm.congr r (k+1) x.2 us (λb j h1 h2=>hp b j (by omega) (by simp;omega)) h.2⟩
theorem Hg.congr {D:Nat->Prop} {π0 Vx:Pi} : ∀(cs:List (Bool×CK)) (k:Nat) (x:IOs.den cs),(∀b j,k<=j->j<k+cs.length->Vx (Bv b j)=π0 (Bv b j))->Hg w D π0 k cs x->Hg w D Vx k cs x
 | [],_,_,_,h=>h
 |(false,c)::r,k,x,hp,h=>by cases c<;>exact Hg.congr r (k+1) x (λb j h1 h2=>hp b j (by omega) (by simp;omega)) h
 |(true, .Ee _)::r,k,x,hp,h=>Hg.congr r (k+1) x (λb j h1 h2=>hp b j (by omega) (by simp;omega)) h
 |(true, .Al _ _ _)::r,k,x,hp,h=>Hg.congr r (k+1) x (λb j h1 h2=>hp b j (by omega) (by simp;omega)) h
 |(true, .row e te)::r,k,x,hp,h=>⟨by rw [hp true k (Nat.le_refl _) (by simp)];exact h.1,Hg.congr r (k+1) x.2 (λb j h1 h2=>hp b j (by omega) (by simp;omega)) h.2⟩
 |(true, .Dt e te)::r,k,x,hp,h=>⟨by rw [hp true k (Nat.le_refl _) (by simp)];exact h.1,Hg.congr r (k+1) x.2 (λb j h1 h2=>hp b j (by omega) (by simp;omega)) h.2⟩
 |(true, .part e te)::r,k,x,hp,h=>⟨by rw [hp true k (Nat.le_refl _) (by simp)];exact h.1,Hg.congr r (k+1) x.2 (λb j h1 h2=>hp b j (by omega) (by simp;omega)) h.2⟩
theorem Cc.congr {π0 Vx:Pi} : ∀(cs:List (Bool×CK)) (k:Nat) (o:IOs.den cs) (n:Nat) (us as:List Value),(∀b j,k<=j->j<k+cs.length->Vx (Bv b j)=π0 (Bv b j))->Cc π0 k cs o n us as->Cc Vx k cs o n us as
 | [],k,o,0,us,as,_,h=>by simpa [Cc] using h
 | [],k,o,n+1,us,as,_,h=>by simp [Cc] at h
 |p::r,k,o,0,us,as,_,h=>by
  rcases p with ⟨_|_,c⟩<;>cases c<;>simpa [Cc] using h
 |(true, .Ee _)::r,k,o,n+1,us,as,_,h=>by simp [Cc] at h
 |(true, .part _ _)::r,k,o,n+1,us,as,_,h=>by simp [Cc] at h
 |(true, .Al _ _ _)::r,k,o,n+1,us,as,_,h=>by simp [Cc] at h
 |(true, .row e te)::r,k,o,n+1,[],as,_,h=>by simp [Cc] at h
 |(true, .Dt e te)::r,k,o,n+1,[],as,_,h=>by simp [Cc] at h
 |(true, .row e te)::r,k,o,n+1,u::us,as,hp,h=>by
  simp only [Cc] at h⊢
  exact ⟨by rw [hp true k (Nat.le_refl _) (by simp)];exact h.1,Cc.congr r (k+1) o.2 n us as (λb j h1 h2=>hp b j (by omega) (by simp;omega)) h.2⟩
 |(true, .Dt e te)::r,k,o,n+1,u::us,as,hp,h=>by
  simp only [Cc] at h⊢
  exact ⟨by rw [hp true k (Nat.le_refl _) (by simp)];exact h.1,Cc.congr r (k+1) o.2 n us as (λb j h1 h2=>hp b j (by omega) (by simp;omega)) h.2⟩
 |(false,c)::r,k,o,n+1,[],as,_,h=>by cases c<;>simp [Cc] at h
 |(false,c)::r,k,o,n+1,u::us,[],_,h=>by cases c<;>simp [Cc] at h
 |(false,c)::r,k,o,n+1,u::us,a::as,hp,h=>by
  have h:u=a/\Cc π0 (k+1) r o n us as:=by cases c<;>exact h
  have:=Cc.congr r (k+1) o n us as (λb j h1 h2=>hp b j (by omega) (by simp;omega)) h.2
  cases c<;>exact ⟨h.1,this⟩
theorem km: ∀(A B:List (Nat×OB)) (l:Nat),Ae (A++B) l=match Ae A l with|some b=>some b|none=>Ae B l
 | [],B,l=>rfl
 |(k,b)::A,B,l=>by
  simp only [List.cons_append,Ae]
  split
  ·rfl
  ·exact km A B l
theorem nf {st:St} : ∀(cs:List CK) (as:List AC) (x:CKs.den cs) (ls:List Nat),Od st cs as=some (x,ls)-> ∀l∈ls,∃b,Ae st.heap l=some b/\b.row≠none
 | [],[],x,ls,he=>by
  simp only [Od,Option.some.injEq,Prod.mk.injEq] at he
  obtain ⟨_,rfl⟩:=he
  intro l hl;cases hl
 | [],_::_,_,_,he=>by simp [Od] at he
 |_::_,[],_,_,he=>by simp [Od] at he
 |c::r,a::as,x,ls,he=>by
  simp only [Od] at he
  split at he
  ·rename_i x1 t1 x2 t2 h1 h2
   simp only [Option.some.injEq,Prod.mk.injEq] at he
   obtain ⟨_,rfl⟩:=he
   intro l hl
   rcases List.mem_append.1 hl with hl|hl
   ·unfold dT at h1
    split at h1
    ·split at h1
     ·cases hv:Bp st _ a with
      |none=>rw [hv] at h1;cases h1
      |some p=>rw [hv] at h1;simp only [Option.map_some,Option.some.injEq,Prod.mk.injEq] at h1;obtain ⟨_,rfl⟩:=h1;cases hl
     ·cases h1
    all_goals (repeat' split at h1)
    all_goals first|(cases h1;done)|skip
    all_goals (simp only [Option.some.injEq,Prod.mk.injEq] at h1;obtain ⟨_,rfl⟩:=h1)
    all_goals first|(cases hl;done)|skip
    all_goals (have hl:=List.mem_singleton.1 hl;subst hl)
    all_goals (rename_i heq _;exact ⟨_,heq,by simp [OB.row]⟩)
   ·exact nf r as x2 t2 h2 l hl
  ·cases he
theorem kC {r r':Option Real} {sz off len:Nat} {v:Value} (h:Uq r r') (hv:Dv r' sz off len v):Dv r sz off len v:=by
 cases r<;>cases r'<;>first|exact h.elim|skip
 ·exact hv
 ·obtain ⟨h1,h2,h3,_⟩:=h
  obtain ⟨ad,g1,g2,g3⟩:=hv
  exact ⟨ad,by rw [h3];exact g1,by rw [h3];exact g2,by rw [h1,h2,h3];exact g3⟩
theorem Rn {st:St} {π0:Pi} (hs: ∀k,Ae st.heap (Bv true k)≠none->Uq ((π0 (Bv true k)).map full) (π (Bv true k))):
  ∀(cs:List (Bool×CK)) (k:Nat) (vs:List AC) (us:List Value) (bc:List AC) (o:IOs.den cs),Hw X w π st.heap vs us->Ey k cs vs=some bc->cn st vs cs->Jf st k cs=some o->
   ∃bv,Hw X w π st.heap bc bv/\bv.length=nu cs vs.length/\ ∀tl,Cc π0 k cs o vs.length us (bv++tl)
 |cs,k,[],us,bc,o,hr,he,_,_=>by
  have e1:us= []:=by cases us with|nil=>rfl|cons u us=>exact hr.elim
  have e2:bc= []:=by rcases cs with _|⟨⟨_|_,c⟩,r⟩<;>simpa [Ey] using he.symm
  subst e1;subst e2
  refine ⟨[],trivial,?_,λtl=>?_⟩
  ·rcases cs with _|⟨⟨_|_,c⟩,r⟩<;>rfl
  ·rcases cs with _|⟨⟨_|_,c⟩,r⟩<;>(try cases c)<;>simp [Cc]
 | [],k,a::vs,us,bc,o,hr,he,_,_=>by simp [Ey] at he
 |p::r,k,a::vs,[],bc,o,hr,_,_,_=>hr.elim
 |(false,c)::r,k,a::vs,u::us,bc,o,hr,he,hk,ho=>by
  have he:(Ey (k+1) r vs).map (λl=>a::l)=some bc:=by cases a<;>exact he
  cases hb:Ey (k+1) r vs with
  |none=>rw [hb] at he;cases he
  |some bc'=>
   rw [hb] at he
   simp only [Option.map_some,Option.some.injEq] at he;subst he
   obtain ⟨bv,g1,g2,g3⟩:=Rn hs r (k+1) vs us bc' o hr.2 hb (by cases a<;>exact hk) (by cases c<;>simpa only [Jf] using ho)
   refine ⟨u::bv,⟨hr.1,g1⟩,by simp [nu,g2],λtl=>?_⟩
   have:=g3 tl
   cases c<;>exact ⟨rfl,this⟩
 |(true,c)::r,k,a::vs,u::us,bc,o,hr,he,hk,ho=>by
  cases c with
  |Ee τ=>cases a<;>simp [Ey] at he
  |part e te=>cases a<;>simp [Ey] at he
  |Al e te kp=>cases a<;>simp [Ey] at he
  |row e te=>
   cases a<;>first|(simp [Ey] at he;done)|skip
   rename_i l off len
   simp only [Ey] at he
   split at he
   rotate_left
   ·cases he
   rename_i hl
   have hl:l=Bv true k:=Nat.eq_of_beq_eq_true hl
   subst hl
   obtain ⟨⟨rfl,hlen⟩,hk⟩:=hk
   obtain ⟨b,sz,n,h1,h2,h3,h4⟩:=hr.1
   have HL:=hs k (by rw [h1];simp)
   simp only [Jf] at ho
   split at ho
   ·rename_i x1 x2 q1 q2
    simp only [Option.some.injEq] at ho;subst ho
    obtain ⟨bv,g1,g2,g3⟩:=Rn hs r (k+1) vs us bc x2 hr.2 he hk q2
    refine ⟨bv,g1,by simpa [nu] using g2,λtl=>?_⟩
    refine ⟨?_,g3 tl⟩
    simp only [jZ] at q1
    split at q1
    ·rename_i fr tr e' Ld xs Hd
     split at q1
     ·rename_i hc
      obtain ⟨rfl,rfl⟩:=hc
      simp only [Option.some.injEq] at q1;subst q1
      unfold St.at at Hd hlen
      rw [Hd] at hlen
      rw [h1] at Hd;cases Hd
      simp only [OB.row,Option.some.injEq,Prod.mk.injEq] at h2
      obtain ⟨rfl,rfl⟩:=h2
      have hlen:len=List.length xs:=hlen
      have:=kC HL h4
      rw [hlen] at this
      have e0:(π0 (Bv true k)).map full=(π0 (Bv true k)).map full:=rfl
      cases hp:π0 (Bv true k)<;>(rw [hp] at this;exact this)
     ·cases q1
    ·cases q1
   ·cases ho
  |Dt e te=>
   cases a<;>first|(simp [Ey] at he;done)|skip
   rename_i l off len
   simp only [Ey] at he
   split at he
   rotate_left
   ·cases he
   rename_i hl
   have hl:l=Bv true k:=Nat.eq_of_beq_eq_true hl
   subst hl
   obtain ⟨⟨rfl,hlen⟩,hk⟩:=hk
   obtain ⟨b,sz,n,h1,h2,h3,h4⟩:=hr.1
   have HL:=hs k (by rw [h1];simp)
   simp only [Jf] at ho
   split at ho
   ·rename_i x1 x2 q1 q2
    simp only [Option.some.injEq] at ho;subst ho
    obtain ⟨bv,g1,g2,g3⟩:=Rn hs r (k+1) vs us bc x2 hr.2 he hk q2
    refine ⟨bv,g1,by simpa [nu] using g2,λtl=>?_⟩
    refine ⟨?_,g3 tl⟩
    simp only [jZ] at q1
    split at q1
    ·rename_i e' Ld xs Hd
     split at q1
     ·rename_i hc
      obtain ⟨rfl,rfl⟩:=hc
      simp only [Option.some.injEq] at q1;subst q1
      unfold St.at at Hd hlen
      rw [Hd] at hlen
      rw [h1] at Hd;cases Hd
      simp only [OB.row,Option.some.injEq,Prod.mk.injEq] at h2
      obtain ⟨rfl,rfl⟩:=h2
      have hlen:len=List.length xs:=hlen
      have:=kC HL h4
      rw [hlen] at this
      cases hp:π0 (Bv true k)<;>(rw [hp] at this;exact this)
     ·cases q1
    ·cases q1
   ·cases ho
def Aaj (s:MSpec) (g:Nat) (π:Pi):Pi:= λl=>if s.ptr.isSome=true/\l=Lr then some ⟨g,0,0,λb=>b=g,λb=>b=g⟩ else π l
def WD (P:Program) (s:MSpec) (fn:Func) (x:Ins.den s.ins) (w:World) (S:Nat->Prop) (π:Pi) (g:Nat) (r:CKs.den s.outs) (o:IOs.den s.ins) (a':Act) (w':World):Prop:=
 ∃(v:Value) (Su:List Value) (ρ:Pi),a'.defers= []/\(results fn a'.tmps).run P w'= .ok v w'/\lS s w' ρ (Su.drop s.Th) v/\eZ s π w' g Su o/\Gf w.heap.size (λb=>Om π b\/s.gv g b) w w'/\Hg w' (dO S π ρ) π 0 s.ins o/\Ew w' (dO S π ρ) ρ 0 s.outs r Su/\
  bF ρ (λb=>b<w'.heap.size/\(w.heap.size<=b\/ ∃l q,l<Ak/\π l=some q/\q.Az b))/\(∀l,(∀k,k<s.Nq->l≠Fq k)->ρ l=none)/\(∀kj∈s.keeps,tV w w' (π (Bv false kj.1)) (ρ (Fq kj.2)) (s.Cw x))
theorem Ew.GL {D:Nat->Prop} {ρ ρ':Pi} : ∀(cs:List CK) (k:Nat) (x:CKs.den cs) (us:List Value),(∀j,k<=j->j<k+cs.length->ρ' (Fq j)=ρ (Fq j))->Ew w D ρ k cs x us->Ew w D ρ' k cs x us
 | [],_,_,[],_,h=>h
 | [],_,_,_::_,_,h=>h.elim
 |_::_,_,_,[],_,h=>h.elim
 |c::r,k,x,u::us,he,h=>⟨by rw [he k (Nat.le_refl _) (by simp)];exact h.1,Ew.GL r (k+1) x.2 us (λj hj hl=>he j (by omega) (by simp;omega)) h.2⟩
theorem qa {st:St} {n:Nat} {as:List AC} : ∀ {ks:List (Nat×Nat)},q9 st n as ks-> ∀kj∈ks,∃l off len e te rows out p,as[kj.2]?=some (.own l off len)/\Ae st.heap l=some (.Al e te rows out (some p))/\p.1=Bv false kj.1/\n<=p.2/\kj.1<1000
 | [],_,kj,hm=>by cases hm
 |(k,j)::r,h,kj,hm=>by
  simp only [q9] at h
  rcases List.mem_cons.1 hm with rfl|hm
  ·obtain ⟨h,_⟩:=h
   split at h
   ·rename_i l off len he
    split at h
    ·rename_i e te rows out p hl
     unfold St.at at hl
     exact ⟨l,off,len,e,te,rows,out,p,he,hl,h.1,h.2.1,by simpa using h.2.2⟩
    ·exact h.elim
   ·exact h.elim
  ·exact qa h.2 kj hm
theorem qn {st:St} : ∀(cs:List CK) (as:List AC) (x:CKs.den cs) (ls:List Nat),Od st cs as=some (x,ls)->as.length=cs.length
 | [],[],_,_,_=>rfl
 | [],_::_,_,_,he=>by simp [Od] at he
 |_::_,[],_,_,he=>by simp [Od] at he
 |c::r,a::as,x,ls,he=>by
  simp only [Od] at he
  split at he
  ·rename_i h1 h2
   simp only [List.length_cons,qn r as _ _ h2]
  ·cases he
theorem wj {α β:Type} (f:α->Sem β): ∀(l:List α) (vs:List β),vs.length=l.length->(∀(i:Nat) a v,l[i]?=some a->vs[i]?=some v->(f a).run P w= .ok v w)->(l.mapM f).run P w= .ok vs w
 | [],[],_,_=>by simp
 | [],_::_,h,_=>by simp at h
 |_::_,[],h,_=>by simp at h
 |a::l,v::vs,h,hr=>by
  rw [List.mapM_cons]
  simp only [Sem.run_bind,hr 0 a v rfl rfl,Result.andThen_ok,wj f l vs (by simpa using h) (λi a' v' ha hv=>hr (i+1) a' v' (by simpa using ha) (by simpa using hv)),Sem.run_pure]
theorem ou (hT:Cd P T) (Mf:Hc P Γ) (hm:P.follows .mixedOrders=true) {f:FuncId} {fn:Func} (hf:P.funcs[f]?=some fn) (s:MSpec) (w:World) (S:Nat->Prop) (π:Pi) (us:List Value) (x:Ins.den s.ins)
  (r:CKs.den s.outs) (o:IOs.den s.ins) (g:Nat) (jY:List Value) (Ky:iO s w g us jY) (hSg:s.ptr.isSome=true->S g) (Oz:Zm w (λb=>Om π b\/S b) π 0 s.ins x us) (eu:bF π (λb=>b<w.heap.size)) (hS: ∀b,S b->b<w.heap.size/\ ¬Om π b) (GX: ∀l,Ae (Sh 0 s.ins x) l=none->π l=none) (he:OV T Γ s fn x λz=>z=(r,o)):
  Calls P f jY.toArray w λe w'=> ∃v Su ρ,e= .returned v/\lS s w' ρ (Su.drop s.Th) v/\eZ s π w' g Su o/\Gf w.heap.size (λb=>Om π b\/s.gv g b) w w'/\Hg w' (dO S π ρ) π 0 s.ins o/\Ew w' (dO S π ρ) ρ 0 s.outs r Su/\
   bF ρ (λb=>b<w'.heap.size/\(w.heap.size<=b\/ ∃l q,l<Ak/\π l=some q/\q.Az b))/\(∀l,(∀k,k<s.Nq->l≠Fq k)->ρ l=none)/\(∀kj∈s.keeps,tV w w' (π (Bv false kj.1)) (ρ (Fq kj.2)) (s.Cw x)):=by
 obtain ⟨hlen,c,hb,he⟩:=he
 simp only [Bool.and_eq_true,Nat.blt_eq] at hlen
 obtain ⟨hlen,GZ⟩:=hlen
 unfold sA at GZ
 simp only [Bool.and_eq_true] at GZ
 have XY:=GZ.1
 let kU:Pi:=Aaj s g π
 let Sg:Nat->Prop:= λb=>S b/\ ¬s.gv g b
 have YX: ∀b j,j<1000->Bv b j≠Lr:= λb j hj=>by cases b<;>(unfold Bv Lr;simp;omega)
 have rK: ∀b j,0<=j->j<0+s.ins.length->kU (Bv b j)=π (Bv b j):= λb j _ hj=>if_neg λh=>YX b j (by omega) h.2
 have PY: ∀b j,0<=j->j<0+s.ins.length->π (Bv b j)=kU (Bv b j):= λb j h1 h2=>(rK b j h1 h2).symm
 have TC:Ae (Sh 0 s.ins x) Lr=none:=Classical.byContradiction λhn=>by
  obtain ⟨b,j,_,h2,h3⟩:=mI s.ins 0 x Lr hn
  exact YX b j (by omega) h3.symm
 have ES: ∀l q,kU l=some q->(π l=some q/\(s.ptr.isSome=true->l≠Lr))\/(s.ptr.isSome=true/\l=Lr/\q=⟨g,0,0,λb=>b=g,λb=>b=g⟩):= λl q hq=>by
  have hq:(if s.ptr.isSome=true/\l=Lr then some ⟨g,0,0,λb=>b=g,λb=>b=g⟩ else π l)=some q:=hq
  split at hq
  ·rename_i hc;exact .inr ⟨hc.1,hc.2,(Option.some.inj hq).symm⟩
  ·rename_i hc;exact .inl ⟨hq,λh1 h2=>hc ⟨h1,h2⟩⟩
 have Yl: ∀b,Om kU b↔Om π b\/s.gv g b:= λb=>by
  constructor
  ·rintro ⟨l,q,h1,h2⟩
   rcases ES l q h1 with ⟨h3,_⟩|⟨h3,h4,rfl⟩
   ·exact .inl ⟨l,q,h3,h2⟩
   ·exact .inr ⟨h3,h2⟩
  ·rintro (⟨l,q,h1,h2⟩|⟨h1,rfl⟩)
   ·refine ⟨l,q,?_,h2⟩
    show (if s.ptr.isSome=true/\l=Lr then _ else π l)=some q
    rw [if_neg]
    ·exact h1
    ·rintro ⟨_,rfl⟩
     rw [GX Lr TC] at h1;cases h1
   ·exact ⟨Lr,⟨b,0,0,λc=>c=b,λc=>c=b⟩,if_pos ⟨h1,rfl⟩,rfl⟩
 have hgS: ∀b,s.gv g b->S b:= λb ⟨h1,h2⟩=>h2▸hSg h1
 have SE:Zm w (λb=>Om kU b\/Sg b) kU 0 s.ins x us:=Zm.congr s.ins 0 x us rK (Zm.Ev (λb hb=>by
  rcases hb with hb|hb
  ·rcases (Yl b).1 hb with hb|hb
   ·exact .inl hb
   ·exact .inr (hgS b hb)
  ·exact .inr hb.1) s.ins 0 x us Oz)
 have YF:bF kU (λb=>b<w.heap.size):=⟨λl q b h1 h2=>by
  rcases ES l q h1 with ⟨h3,_⟩|⟨h3,h4,rfl⟩
  ·exact eu.Oq l q b h3 h2
  ·exact (hS b (hgS b ⟨h3,h2⟩)).1,λl l' q q' b h1 h2 h3 h4=>by
  rcases ES l q h1 with ⟨h5,_⟩|⟨h5,h6,rfl⟩<;>rcases ES l' q' h2 with ⟨h7,_⟩|⟨h7,h8,rfl⟩
  ·exact eu.inj l l' q q' b h5 h7 h3 h4
  ·exact absurd ⟨l,q,h5,h3⟩ (hS b (hgS b ⟨h7,h4⟩)).2
  ·exact absurd ⟨l',q',h7,h4⟩ (hS b (hgS b ⟨h5,h3⟩)).2
  ·rw [h6,h8]⟩
 have Aco: ∀b,Sg b->b<w.heap.size/\ ¬Om kU b:= λb hb=>⟨(hS b hb.1).1,λho=>((Yl b).1 ho).elim (hS b hb.1).2 hb.2⟩
 have zX: ∀l,Ae (ko s x) l=match Ae (Sh 0 s.ins x) l with|some b=>some b|none=>if l=Lr then s.ptr.map λp=> .var p.1 ((Ve 0 s.ins x).take p.2) else none:= λl=>by
  unfold ko
  cases hp:s.ptr with
  |none=>cases Ae (Sh 0 s.ins x) l<;>simp
  |some p=>
   simp only
   rw [km]
   cases Ae (Sh 0 s.ins x) l with
   |some b=>rfl
   |none=>
    simp only [Ae,Option.map_some]
    by_cases e:l=Lr
    ·rw [if_pos e,if_pos e.symm]
    ·rw [if_neg e,if_neg (λh=>e h.symm)]
 let π0:Pi:= λl=>(kU l).map full
 have un: ∀l q,π0 l=some q-> ∃q0,kU l=some q0/\q=full q0:= λl q hq=>by
  have hq:(kU l).map full=some q:=hq
  cases hp:kU l with
  |none=>rw [hp] at hq;cases hq
  |some q0=>rw [hp] at hq;exact ⟨q0,rfl,(Option.some.inj hq).symm⟩
 have HD: ∀l b,Ae (Sh 0 s.ins x) l=some b->Ae (ko s x) l=some b:= λl b hb=>by rw [zX l,hb]
 have SX:Hw ⟨w,Sg,Om kU,π0⟩ w π0 (ko s x) (Ve 0 s.ins x) us:=uY (λ_=>rfl) s.ins 0 x us (by omega) SE HD
 have HO:s.ptr.isSome=true->π0 Lr=some ⟨g,0,0,λb=>b=g,λb=>b=g⟩:= λhp=>by
  show (if s.ptr.isSome=true/\Lr=Lr then _ else π Lr).map full=_
  rw [if_pos ⟨hp,rfl⟩];rfl
 obtain ⟨g1,g2⟩:(Tg s (Ve 0 s.ins x)).length=jY.length/\ ∀(i:Nat) c v,(Tg s (Ve 0 s.ins x))[i]?=some c->jY[i]?=some v->An ⟨w,Sg,Om kU,π0⟩ w π0 (ko s x) c v:=by
  unfold iO at Ky
  cases hp:s.ptr with
  |none=>
   rw [hp] at Ky
   obtain ⟨rfl,AG⟩:=Ky
   obtain ⟨g1,g2,_,_⟩:=Yh s.Hb _ us AG SX
   rw [show Tg s (Ve 0 s.ins x)=Mm s.Hb (Ve 0 s.ins x) by unfold Tg;rw [hp]]
   exact ⟨g1,g2⟩
  |some p=>
   rw [hp] at Ky
   obtain ⟨rfl,AG,_⟩:=Ky
   obtain ⟨g1,g2,_,_⟩:=Yh s.Hb _ (us.drop p.2) AG (Hw.take p.2 SX).2
   rw [show Tg s (Ve 0 s.ins x)= .at (.Dw Lr 0)::Mm s.Hb ((Ve 0 s.ins x).drop p.2) by unfold Tg;rw [hp]]
   refine ⟨by simp [g1],λi c v h1 h2=>?_⟩
   rcases i with _|i
   ·simp only [List.getElem?_cons_zero,Option.some.injEq] at h1 h2
    subst h1;subst h2
    exact ⟨_,p.1,(Ve 0 s.ins x).take p.2,by rw [zX,TC];simp [hp],HO (by rw [hp];rfl),rfl⟩
   ·exact g2 i c v (by simpa using h1) (by simpa using h2)
 have h0:Rel ⟨w,Sg,Om kU,π0⟩ {tmps:=Tg s (Ve 0 s.ins x)++List.replicate (fn.ntmps-(Tg s (Ve 0 s.ins x)).length) .undef,heap:=ko s x}
   {tmps:=jY.toArray++Array.replicate (fn.ntmps-jY.toArray.size) undef,defers:= []} w:=by
  refine ⟨π0,⟨Gf.refl _ _ _,λb hb=>Aco b hb,λl q b h1 h2=>?_,λl q b h1 h2=>?_,λl l' q q' b h1 h2 h3 h4=>?_,λl _ _=>Uq.rfl' _,λl=>?_⟩,⟨by simp [g1],rfl,λt=>?_⟩⟩
  ·obtain ⟨q0,_,rfl⟩:=un l q h1;exact h2
  ·obtain ⟨q0,h3,rfl⟩:=un l q h1
   exact ⟨.inr ⟨l,q0,h3,h2⟩,YF.Oq l q0 b h3 h2⟩
  ·obtain ⟨q0,h5,rfl⟩:=un l q h1
   obtain ⟨UE,h6,rfl⟩:=un l' q' h2
   exact YF.inj l l' q0 UE b h5 h6 h3 h4
  ·cases hh:Ae (Sh 0 s.ins x) l with
   |none=>
    by_cases hv:s.ptr.isSome=true/\l=Lr
    ·obtain ⟨VS,rfl⟩:=hv
     obtain ⟨p,hp⟩:=Option.isSome_iff_exists.1 VS
     refine Dh.Il (b:= .var p.1 ((Ve 0 s.ins x).take p.2)) ?_ (by rw [zX,hh];simp [hp])
     unfold iO at Ky
     rw [hp] at Ky
     obtain ⟨_,_,h1,h2,h3⟩:=Ky
     rw [HO VS]
     exact ⟨_,rfl,rfl,_,h2,Hw.to (Hw.take p.2 SX).1 h3⟩
    ·refine Dh.Pg ?_ ?_
     ·show (if s.ptr.isSome=true/\l=Lr then _ else π l).map full=none
      rw [if_neg hv,GX l hh];rfl
     ·rw [zX,hh]
      simp only
      split
      ·rename_i e
       cases hp:s.ptr with
       |none=>rfl
       |some p=>exact absurd ⟨by rw [hp];rfl,e⟩ hv
      ·rfl
   |some b=>exact Dh.Il (fG (π0:=kU) (λb hb=>by
    rcases hb with ⟨l,q,h1,h2⟩|hb|⟨hb,_⟩
    ·obtain ⟨q0,h3,rfl⟩:=un l q h1;exact .inl ⟨l,q0,h3,h2⟩
    ·exact .inr hb
    ·cases hb) rfl (λ_=>rfl) s.ins 0 x us SE l b hh) (HD l b hh)
  ·show An _ w _ _ ((Tg s (Ve 0 s.ins x)++List.replicate _ AV.undef).getD t .undef) ((jY.toArray++Array.replicate _ undef).getD t undef)
   by_cases ht:t<jY.length
   ·rw [List.getD_eq_getElem?_getD,List.getElem?_append_left (by omega),<-List.getD_eq_getElem?_getD]
    rw [Array.getD_eq_getD_getElem?,Array.getElem?_append_left (by simpa using ht)]
    have:=g2 t _ _ (List.getElem?_eq_getElem (by omega)) (List.getElem?_eq_getElem ht)
    simpa [List.getD_eq_getElem?_getD,List.getElem?_eq_getElem ht,List.getElem?_eq_getElem (show t<(Tg s (Ve 0 s.ins x)).length by omega)] using this
   ·have:(Tg s (Ve 0 s.ins x)++List.replicate (fn.ntmps-(Tg s (Ve 0 s.ins x)).length) AV.undef).getD t .undef= .undef:=by
     rw [List.getD_eq_getElem?_getD,List.getElem?_append_right (by omega)]
     rw [List.getElem?_replicate]
     split<;>rfl
    rw [this];trivial
 have fin: ∀(st:St) (a':Act) (w':World),FW T s fn x st (λz=>z=(r,o))->Rel ⟨w,Sg,Om kU,π0⟩ st a' w'->WD P s fn x w S π g r o a' w':=by
  intro st a' w' l7 HJ
  obtain ⟨Vx,h'⟩:=HJ
  have QE:Ak<=Lr:=by unfold Ak Lr;omega
  obtain ⟨bc,kl,Aes,hbc⟩: ∃bc,dG T s fn x st bc (λz=>z=(r,o))/\(s.ptr.isSome=true-> ∃b,Ae st.heap Lr=some b/\b.row=none)/\
    (Jf st 0 s.ins=some o-> ∃bv,Hw ⟨w,Sg,Om kU,π0⟩ w' Vx st.heap bc bv/\bv.length=s.Th/\ ∀tl,eZ s π w' g (bv++tl) o):=by
   unfold FW at l7
   cases hp:s.ptr with
   |none=>
    rw [hp] at l7
    exact ⟨[],l7,λh=>by simp at h,λ_=>⟨[],trivial,by simp [MSpec.Th,hp],λtl=>by simp [eZ,hp]⟩⟩
   |some p=>
    rw [hp] at l7
    obtain ⟨vs,cs,h1,h2,h3,h4,h5⟩:=l7
    unfold St.at at h1
    refine ⟨cs,h5,λ_=>⟨_,h1,rfl⟩,λrH=>?_⟩
    obtain ⟨q,k1,k2,cur,k3,k4⟩:=(h'.1.heap Lr).Me h1
    have hsv:Uq (π0 Lr) (Vx Lr):=h'.1.cB Lr QE (by rw [h1];simp)
    rw [HO (by rw [hp];rfl),k1] at hsv
    have YI:g=q.g:=hsv.1
    obtain ⟨bv,g1,g2,g3⟩:=Rn (π0:=kU) (λk hk=>h'.1.cB _ (Nat.le_of_not_lt (Ud k)) hk) s.ins 0 vs cur.toList cs o (Hw.of k4) h3 h4 rH
    refine ⟨bv,g1,by rw [g2,h2];simp [MSpec.Th,hp],λtl=>?_⟩
    unfold eZ
    rw [hp]
    refine ⟨cur.toList,by rw [YI];simpa using k3,λu hu=>?_,Cc.congr s.ins 0 o p.2 _ _ PY (h2▸g3 tl)⟩
    obtain ⟨i,hi,rfl⟩:=List.mem_iff_getElem.1 hu
    have hl:=k4.1
    obtain ⟨u',h6,h7,_⟩:=k4.2 i (vs[i]'(by omega)) (List.getElem?_eq_getElem _)
    rw [List.getElem?_eq_getElem hi] at h6
    rw [Option.some.inj h6];exact h7
  unfold dG at kl
  split at kl
  ·exact kl.elim
  rename_i l hl
  split at kl
  ·exact kl.elim
  rename_i as ml cg
  split at kl
  rotate_left
  ·exact kl.elim
  rename_i r' ls o' xY pT
  obtain ⟨Fh,pY,HK⟩:=kl
  simp only [Bool.and_eq_true,Nat.blt_eq] at Fh
  obtain ⟨⟨⟨tN,Aia⟩,Agj⟩,XU⟩:=Fh
  simp only [Prod.mk.injEq] at HK
  obtain ⟨rfl,rfl⟩:=HK
  obtain ⟨bv,hbv,Ad0,Acy⟩:=hbc pT
  have xW:=Qx tN
  obtain ⟨n1,n2,n3⟩:=List.nodup_append.1 xW
  obtain ⟨m1,m2,m3⟩:=List.nodup_append.1 n1
  obtain ⟨vs,v1,v2,v3,v4⟩:=Qz hT h' _ _ hl
  have MZ:fn.results=fn.results.toList.toArray:=Array.toArray_toList.symm
  have Oj: ∀v,(if h:vs.toArray.size=1 then vs.toArray[0] else .tuple vs.toArray)=v->(results fn a'.tmps).run P w'= .ok v w':=by
   intro v hv
   rw [ay,MZ,List.mapM_toArray]
   simp only [map_eq_pure_bind,bind_assoc,pure_bind]
   simp only [Sem.run_bind,wj (yU a'.tmps) _ vs v1 v3,Result.andThen_ok,Sem.run_pure]
   rw [hv]
  obtain ⟨px,v,qm,Aer,hv,QF⟩: ∃px v qm,Hw ⟨w,Sg,Om kU,π0⟩ w' Vx st.heap as px/\(results fn a'.tmps).run P w'= .ok v w'/\
    ((s.rp=none/\ml= []/\qm=none/\JL s.Ef s.Gd px v/\Wt s.Gd px)\/
     ∃tid m q,s.rp=some tid/\ml= [m]/\m<Ak/\qm=some q/\Vx m=some q/\q.Az q.g/\w'.heap[q.g]?=some (.cells px.toArray tid (0,0))/\(∀u∈px,u.oneCell'=true)/\v= .pointer (some ⟨q.g,0,none⟩)):=by
   unfold yT at cg
   split at cg
   ·rename_i xe
    split at cg
    rotate_left
    ·cases cg
    rename_i hmul
    cases FP:ungroup s.Gd l with
    |none=>rw [FP] at cg;cases cg
    |some as'=>
     rw [FP] at cg
     simp only [Option.map_some,Option.some.injEq,Prod.mk.injEq] at cg
     obtain ⟨rfl,rfl⟩:=cg
     obtain ⟨px,e1,e2,e3⟩:=Wv s.Gd l vs as' (by omega) v4 FP
     have hv: ∃v,(results fn a'.tmps).run P w'= .ok v w'/\JL s.Ef s.Gd px v:=by
      unfold JL
      rw [<-e1,hmul]
      rcases Nat.lt_or_ge 1 l.length with h1|h1
      ·have GV:Nat.blt 1 l.length=true:=by simpa using h1
       simp only [GV,if_true]
       refine ⟨.tuple vs.toArray,Oj _ ?_,rfl⟩
       rw [dif_neg (by simp;omega)]
      ·have GV:Nat.blt 1 l.length=false:=by rw [<-Bool.not_eq_true];simpa using h1
       simp only [GV,Bool.false_eq_true,if_false]
       rcases vs with _|⟨v,_|⟨v',vs⟩⟩
       ·exact ⟨_,Oj _ (by simp;rfl), .inr rfl⟩
       ·exact ⟨v,Oj _ (by simp), .inl rfl⟩
       ·exfalso;simp only [List.length_cons] at v1;omega
     obtain ⟨v,hv1,hv2⟩:=hv
     exact ⟨px,v,none,e3,hv1, .inl ⟨xe,rfl,rfl,hv2,e2⟩⟩
   ·rename_i tid xe
    split at cg
    rotate_left
    ·cases cg
    rename_i m i
    split at cg
    rotate_left
    ·cases cg
    rename_i Nv tS hm
    split at cg
    rotate_left
    ·cases cg
    rename_i hc
    obtain ⟨rfl,rfl,LI⟩:=hc
    simp only [Option.some.injEq,Prod.mk.injEq] at cg
    obtain ⟨rfl,rfl⟩:=cg
    unfold St.at at hm
    rcases vs with _|⟨v,_|⟨v',vs⟩⟩
    ·exfalso;simp only [List.length_cons,List.length_nil] at v1 v2;omega
    ·obtain ⟨q,Akd,vs2,q1,q2,q3⟩:=v4 0 _ v rfl rfl
     rw [hm] at q1;cases q1
     obtain ⟨q',k1,k2,cur,k3,k4⟩:=(h'.1.heap m).Me hm
     rw [q2] at k1;cases k1
     refine ⟨cur.toList,v,some q,Hw.of k4,Oj _ (by simp), .inr ⟨_,m,q,xe,rfl,by simpa using LI,rfl,q2,k2,by simpa using k3,λu hu=>?_,q3⟩⟩
     obtain ⟨i,hi,rfl⟩:=List.mem_iff_getElem.1 hu
     have hl:=k4.1
     obtain ⟨u',h6,h7,_⟩:=k4.2 i (tS[i]'(by omega)) (List.getElem?_eq_getElem _)
     rw [List.getElem?_eq_getElem hi] at h6
     rw [Option.some.inj h6];exact h7
    ·exfalso;simp only [List.length_cons,List.length_nil] at v1 v2;omega
  obtain ⟨tT,p1,p2,p3,p4,p5⟩:=qo h'.1 s.outs 0 (bc++as) (bv++px) r' ls (hbv.append Aer) xY m2
  obtain ⟨io1,io2⟩:=Nk (π0:=kU) h'.1 (λ_=>rfl) s.ins 0 x us o' SE pT
  have XG:(bv++px).drop s.Th=px:=by rw [<-Ad0];simp
  let ρ:Pi:= λl0=>if l0=Fq s.outs.length then qm else tT l0
  have TG:ρ (Fq s.outs.length)=qm:=if_pos rfl
  have ZH: ∀l0,l0≠Fq s.outs.length->ρ l0=tT l0:= λl0 h=>if_neg h
  have ZG: ∀j,j<s.outs.length->ρ (Fq j)=tT (Fq j):= λj hj=>ZH _ (by unfold Fq;omega)
  have o9: ∀l0 q,ρ l0=some q->(l0=Fq s.outs.length/\qm=some q)\/(l0≠Fq s.outs.length/\tT l0=some q):= λl0 q h=>by
   by_cases e:l0=Fq s.outs.length
   ·subst e;rw [TG] at h;exact .inl ⟨rfl,h⟩
   ·rw [ZH l0 e] at h;exact .inr ⟨e,h⟩
  have YJ: ∀q,qm=some q-> ∃m,ml= [m]/\m<Ak/\Vx m=some q:= λq hq=>by
   rcases QF with ⟨_,_,h1,_⟩|⟨_,m,q',_,h1,h2,h3,h4,_⟩
   ·rw [h1] at hq;cases hq
   ·rw [h3] at hq;cases hq;exact ⟨m,h1,h2,h4⟩
  have p3': ∀l0 q b,ρ l0=some q->q.Az b-> ∃l1∈ml++ls,∃p,Vx l1=some p/\p.cl b/\((s.outs.all λc=>!c.QO)=true->p.Az b)/\((l1∈ls)\/l1<Ak):= λl0 q b h1 h2=>by
   rcases o9 l0 q h1 with ⟨_,h3⟩|⟨_,h3⟩
   ·obtain ⟨m,e1,e2,e3⟩:=YJ q h3
    exact ⟨m,by rw [e1];simp,q,e3,h'.1.sub m q b e3 h2,λ_=>h2, .inr e2⟩
   ·obtain ⟨l1,g1,p,g2,g3,g4⟩:=p3 l0 q b h3 h2
    exact ⟨l1,List.mem_append_right _ g1,p,g2,g3,g4, .inl g1⟩
  have p4': ∀l0 l1 q q' b,ρ l0=some q->ρ l1=some q'->q.Az b->q'.Az b->l0=l1:= λl0 l1 q q' b h1 h2 h3 h4=>by
   have ur: ∀l0 q q' b,tT l0=some q->qm=some q'->q.Az b->q'.Az b->False:= λl0 q q' b h1 h2 h3 h4=>by
    obtain ⟨m,e1,e2,e3⟩:=YJ q' h2
    obtain ⟨l1,g1,p,g2,g3,_⟩:=p3 l0 q b h1 h3
    have:=h'.1.inj m l1 q' p b e3 g2 (h'.1.sub m q' b e3 h4) g3
    exact m3 m (by rw [e1];simp) l1 g1 this
   rcases o9 l0 q h1 with ⟨e1,h5⟩|⟨e1,h5⟩<;>rcases o9 l1 q' h2 with ⟨e2,h6⟩|⟨e2,h6⟩
   ·rw [e1,e2]
   ·exact (ur l1 q' q b h6 h5 h4 h3).elim
   ·exact (ur l0 q q' b h5 h6 h3 h4).elim
   ·exact p4 l0 l1 q q' b h5 h6 h3 h4
  have AE: ∀l0 q,Ak<=l0->kU l0=some q->Ae st.heap l0≠none/\(l0∈Jy 0 s.ins\/ ∃b,Ae st.heap l0=some b/\b.row=none):= λl0 q h1 h2=>by
   rcases ES l0 q h2 with ⟨h3,_⟩|⟨h3,rfl,_⟩
   ·have rH:=q7 s.ins 0 x l0 XY (by omega) (λYA=>by rw [GX l0 YA] at h3;cases h3) (by omega)
    exact ⟨io2 l0 rH, .inl rH⟩
   ·obtain ⟨b,h4,h5⟩:=Aes h3
    exact ⟨by rw [h4];simp, .inr ⟨b,h4,h5⟩⟩
  have hDO:(s.outs.all λc=>!c.QO)=true-> ∀b,dO Sg kU ρ b->Om Vx b\/Sg b:=by
   intro hx b hb
   rcases hb with hb|⟨l0,q,h1,h2,h3⟩|⟨l0,q,h1,h2⟩
   ·exact .inr hb
   ·have hs:=h'.1.cB l0 h1 (AE l0 q h1 h2).1
    have hs:Uq ((kU l0).map full) (Vx l0):=hs
    rw [h2] at hs
    cases tP:Vx l0 with
    |none=>rw [tP] at hs;exact hs.elim
    |some q1=>rw [tP] at hs;exact .inl ⟨l0,q1,tP,(hs.2.2.2 b).1 h3⟩
   ·obtain ⟨m,_,p,hm2,_,SN,_⟩:=p3' l0 q b h1 h2
    exact .inl ⟨m,p,hm2,SN hx⟩
  have hDD: ∀b,dO S π ρ b->dO Sg kU ρ b:= λb hb=>by
   rcases hb with hb|⟨l0,q,h1,h2,h3⟩|hb
   ·by_cases FM:s.gv g b
    ·obtain ⟨VS,rfl⟩:=FM
     exact .inr (.inl ⟨Lr,_,QE,if_pos ⟨VS,rfl⟩,rfl⟩)
    ·exact .inl ⟨hb,FM⟩
   ·refine .inr (.inl ⟨l0,q,h1,?_,h3⟩)
    show (if s.ptr.isSome=true/\l0=Lr then _ else π l0)=some q
    rw [if_neg]
    ·exact h2
    ·rintro ⟨_,rfl⟩
     rw [GX Lr TC] at h2;cases h2
   ·exact .inr (.inr hb)
  have LC:s.flat=true\/(s.outs.all λc=>!c.QO)=true:=by unfold MSpec.IK at XU;simpa only [Bool.or_eq_true] using XU
  have io1:Hg w' (dO S π ρ) π 0 s.ins o':=by
   refine Hg.congr s.ins 0 o' PY ?_
   rcases LC with hf|hf
   ·unfold MSpec.flat at hf
    simp only [Bool.and_eq_true] at hf
    exact Hg.any s.ins 0 o' hf.2 io1
   ·exact Hg.Ev (λb hb=>hDO hf b (hDD b hb)) s.ins 0 o' io1
  have p1:Ew w' (dO S π ρ) ρ 0 s.outs r' (bv++px):=by
   have p1:Ew w' (λb=>Om Vx b\/Sg b) ρ 0 s.outs r' (bv++px):=Ew.GL s.outs 0 r' _ (λj _ hj=>ZG j (by omega)) p1
   rcases LC with hf|hf
   ·unfold MSpec.flat at hf
    simp only [Bool.and_eq_true] at hf
    exact Ew.any s.outs 0 r' (bv++px) hf.1 p1
   ·exact Ew.Ev (λb hb=>hDO hf b (hDD b hb)) s.outs 0 r' (bv++px) p1
  refine ⟨v,bv++px,ρ,h'.2.defers,hv,?_,Acy px,⟨h'.1.below.os,h'.1.below.tape,h'.1.below.output,h'.1.below.size,λk hk hn=>h'.1.below.block k hk λho=>hn ((Yl k).1 ho)⟩,io1,p1,⟨λl0 q b h1 h2=>?_,p4'⟩,λl0 SL=>?_,λkj FN=>?_⟩
  ·rw [XG]
   unfold lS
   rcases QF with ⟨h1,_,_,h2⟩|⟨tid,m,q,h1,_,_,h3,_,h4,h5,h6,h7⟩
   ·rw [h1];exact h2
   ·rw [h1];exact ⟨q,by rw [TG,h3],h4,h5,h6,h7⟩
  ·obtain ⟨m,VM,p,hm2,hm3,_,SN⟩:=p3' l0 q b h1 h2
   obtain ⟨k1,k2⟩:=h'.1.place m p b hm2 hm3
   refine ⟨k2,k1.imp id λ⟨c0,q0,h5,h6⟩=>?_⟩
   have Gz:c0<Ak:=Classical.byContradiction λhn=>by
    obtain ⟨Ff,rH⟩:=AE c0 q0 (by omega) h5
    have hs:=h'.1.cB c0 (by omega) Ff
    have hs:Uq ((kU c0).map full) (Vx c0):=hs
    rw [h5] at hs
    cases tP:Vx c0 with
    |none=>rw [tP] at hs;exact hs.elim
    |some q1=>
     rw [tP] at hs
     have hf1:q1.Az b:=(hs.2.2.2 b).1 h6
     have:=h'.1.inj c0 m q1 p b tP hm2 (h'.1.sub c0 q1 b tP hf1) hm3
     subst this
     rcases SN with SN|SN
     ·rcases rH with rH|⟨b1,GV,WZ⟩
      ·exact n3 c0 VM c0 rH rfl
      ·obtain ⟨b2,hb3,hb4⟩:=nf s.outs _ _ _ xY c0 SN
       rw [GV] at hb3;cases hb3
       exact hb4 WZ
     ·exact hn SN
   refine ⟨c0,q0,Gz,?_,h6⟩
   rcases ES c0 q0 h5 with ⟨h7,_⟩|⟨_,h7,_⟩
   ·exact h7
   ·omega
  ·cases hp:ρ l0 with
   |none=>rfl
   |some q=>
    rcases o9 l0 q hp with ⟨e,h3⟩|⟨_,h3⟩
    ·refine absurd e (SL _ ?_)
     rcases QF with ⟨_,_,h4,_⟩|⟨tid,m,q',h4,_⟩
     ·rw [h4] at h3;cases h3
     ·unfold MSpec.Nq;rw [h4];simp
    ·obtain ⟨j,_,j2,j3⟩:=p2 l0 q h3
     exact absurd j3 (SL j (by unfold MSpec.Nq;omega))
  ·obtain ⟨l0,off,len,e,te,rows,out,p,q1,q2,q3,q4,q5⟩:=qa pY kj FN
   have hj:kj.2<s.outs.length:=by
    rw [<-qn s.outs _ _ _ xY]
    exact (List.getElem?_eq_some_iff.1 q1).1
   have e1:=p5 kj.2 l0 off len e te rows out (some p) q1 q2
   rw [Nat.zero_add] at e1
   rw [ZG _ hj,e1]
   have hk:=((h'.1.heap l0).Me q2).2
   obtain ⟨l1,n1⟩:=p
   simp only [KeptAt] at hk
   dsimp only at q3 q4
   subst q3
   have CE:π0 (Bv false kj.1)=(π (Bv false kj.1)).map full:=by
    show (if s.ptr.isSome=true/\Bv false kj.1=Lr then _ else π (Bv false kj.1)).map full=_
    rw [if_neg λh=>YX false kj.1 q5 h.2]
   rw [CE] at hk
   unfold tV
   cases hp:π (Bv false kj.1) with
   |none=>
    rw [hp] at hk
    cases tP:Vx l0 with
    |none=>trivial
    |some q=>rw [tP] at hk;exact hk.elim
   |some q0=>
    rw [hp] at hk
    cases tP:Vx l0 with
    |none=>rw [tP] at hk;exact hk.elim
    |some q=>
     rw [tP] at hk
     obtain ⟨k1,k2,k3,k4⟩:=hk
     exact ⟨k1,k2,k3,λj hj hc=>k4 j (by omega) hc⟩
 refine calls_of_wp hf hb ?_
 refine (ny hT Mf hm he _ w _ h0 λe st a' w' ⟨Ff,l7⟩ h'=>?_).1
 obtain ⟨v,Su,ρ,p1,p2,p3⟩:=fin st a' w' l7 h'
 cases e with
 |normal=>exact ⟨p1,v,p2,v,Su,ρ,rfl,p3⟩
 |ret=>exact ⟨p1,v,p2,v,Su,ρ,rfl,p3⟩
 |exit id=>exact absurd rfl (Ff id)
end
end Go.Proofs.Ytjbdmibbbpdnnaa
