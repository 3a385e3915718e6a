/-
  Part 27 of the proof that the statement FnExactProvesNoSolutionWithin holds.
-/
import Derived.Test.YtfolipnappekaaaGreatCProvesNoSolutionWithin25
namespace Go.Proofs.YtfolipnappekaaaGreat
open Go.RowKit
section
variable {P:Program} {T:Tab} {Γ:Env} {X:Ctx} {w w':World} {π:Pi} {H:List (Nat×OB)}
theorem q8: ∀(cs:List (Bool×CK)) (k:Nat) (x:Ins.den cs) (l:Nat),Ad (Ul k cs x) l≠none-> ∃b j,k<=j/\j<k+cs.length/\l=Bu b j
 | [],_,_,_,h=>absurd rfl h
 |p::r,k,x,l,h=>by
  simp only [Ul] at h
  by_cases e:l=Bu p.1 k
  ·exact ⟨p.1,k,Nat.le_refl _,by simp,e⟩
  ·have:Ad (Ul (k+1) r x.2) l≠none:=by
    cases hc:ga (Bu p.1 k) p.2 x.1 with
    |none=>rw [hc] at h;exact h
    |some b=>rw [hc] at h;simpa only [du,Ad,if_neg (Ne.symm e)] using h
   obtain ⟨b,j,h1,h2,h3⟩:=q8 r (k+1) x.2 l this
   exact ⟨b,j,by omega,by simp;omega,h3⟩
theorem MK {p:Bool×CK} {r:List (Bool×CK)} {k:Nat} {x:Ins.den (p::r)} (hk:k+(r.length+1)<100000) {l:Nat} {b:OB} (h:Ad (Ul (k+1) r x.2) l=some b):Ad (Ul k (p::r) x) l=some b:=by
 obtain ⟨b',j,h1,h2,rfl⟩:=q8 r (k+1) x.2 l (by rw [h];simp)
 simp only [Ul]
 cases ga (Bu p.1 k) p.2 x.1 with
 |none=>exact h
 |some c=>simp only [du,Ad];rw [if_neg (KO (by omega) (by omega) (by omega))];exact h
theorem QU {D:Nat->Prop} (hD: ∀b,Bj X.w0.heap.size X.Sc π false b->D b) (hw0:X.w0=w) {l:Nat} {r:Option Real} (Vd:X.db l=r.map full) {u:Value} {c:CK} {x:c.den} (h:bl w D r u c x) {b:OB} (hb:ga l c x=some b):Av X w π H (r.map full) b:=by
 have Ui: ∀ {e:Ty} {es:List Value} {y:e.den},Cells w D e es y->Cells w (Bj X.w0.heap.size X.Sc π false) e es y:= λ {e es y} h=>Cells.Cn (Nat.le_refl _) (λ_ _ _=>rfl) (λb _ hb=>hD b hb) e es y h
 cases c with
 |Dm τ=>cases hb
 |row e te=>
  simp only [ga,Option.some.injEq] at hb;subst hb
  obtain ⟨_,h⟩:=h
  simp only [cr] at h
  simp only [Av,Fv]
  cases r with
  |none=>exact h
  |some q=>
   obtain ⟨k1,cu,ti,k2,k3,k4,k5,k6⟩:=h
   exact ⟨⟨k1.1,k1.2,λh=>by cases h⟩,cu,ti,k2,k3,k4,k5,λi y hy=>by
    obtain ⟨es,g1,g2,g3⟩:=k6 i y hy
    exact ⟨es,g1,g2,Ui g3⟩,λh=>by cases h⟩
 |Du e te=>
  simp only [ga,Option.some.injEq] at hb;subst hb
  cases r<;>exact h.2
 |part e te=>
  simp only [ga,Option.some.injEq] at hb;subst hb
  obtain ⟨_,hf,h⟩:=h
  simp only [Av,Fv]
  cases r with
  |none=>exact h
  |some q=>
   obtain ⟨k1,cu,ti,k2,k3,k4,k5,k6⟩:=h
   exact ⟨⟨k1.1,k1.2,λh=>by cases h⟩,cu,ti,k2,k3,k4,k5,λi y hy=>by
    obtain ⟨es,g1,g2,g3⟩:=k6 i y hy
    exact ⟨es,g1,g2,Ui g3⟩,λh=>by cases h⟩
 |Al e te kp=>
  simp only [ga,Option.some.injEq] at hb;subst hb
  have h2:Vm w D r e x none:=h.2
  have h3:=Vm.En h2 hD
  refine ⟨by cases r<;>exact h3,?_⟩
  cases kp with
  |false=>trivial
  |true=>
   simp only [if_true,KeptAt]
   rw [Vd]
   cases r with
   |none=>trivial
   |some q=>exact ⟨rfl,rfl,rfl,λj _ _=>by rw [hw0]⟩
theorem iQ {D:Nat->Prop} (hD: ∀b,Bj X.w0.heap.size X.Sc π false b->D b) (hw0:X.w0=w) {π0:Pi} (Vd: ∀l,X.db l=(π0 l).map full): ∀(cs:List (Bool×CK)) (k:Nat) (x:Ins.den cs) (us:List Value),bm w D π0 k cs x us-> ∀l b,Ad (Ul k cs x) l=some b->Av X w π H ((π0 l).map full) b
 | [],_,_,_,_,_,_,h=>by cases h
 |_::_,_,_,[],h,_,_,_=>h.elim
 |p::r,k,x,u::us,h,l,b,hb=>by
  simp only [Ul] at hb
  cases hc:ga (Bu p.1 k) p.2 x.1 with
  |none=>rw [hc] at hb;exact iQ hD hw0 Vd r (k+1) x.2 us h.2 l b hb
  |some c=>
   rw [hc] at hb
   simp only [du,Ad] at hb
   split at hb
   ·rename_i e;subst e
    simp only [Option.some.injEq] at hb;subst hb
    exact QU hD hw0 (Vd _) h.1 hc
   ·exact iQ hD hw0 Vd r (k+1) x.2 us h.2 l b hb
theorem zo {S:Nat->Prop} {π0:Pi} {gv:Nat->Prop} {db:Pi} (aK: ∀l,π l=(π0 l).map full): ∀(cs:List (Bool×CK)) (k:Nat) (x:Ins.den cs) (us:List Value),k+cs.length<100000->bm w (λb=>Qj π0 b\/S b) π0 k cs x us->(∀l b,Ad (Ul k cs x) l=some b->Ad H l=some b)->
  Io ⟨w,S,gv,db⟩ w π H (Xo k cs x) us
 | [],_,_,[],_,_,_=>trivial
 | [],_,_,_::_,_,h,_=>h.elim
 |_::_,_,_,[],_,h,_=>h.elim
 |p::r,k,x,u::us,hk,h,hH=>by
  simp only [List.length_cons] at hk
  refine ⟨?_,zo aK r (k+1) x.2 us (by omega) h.2 λl b hb=>hH l b (MK hk hb)⟩
  have h1:=h.1
  have hh: ∀b,ga (Bu p.1 k) p.2 x.1=some b->Ad H (Bu p.1 k)=some b:= λb hb=>hH _ b (by simp only [Ul];rw [hb];simp [du,Ad])
  have fu:=aK (Bu p.1 k)
  obtain ⟨io,c⟩:=p
  dsimp only at h1 hh fu⊢
  generalize x.1=y at*
  cases c with
  |Dm τ=>
   show Bc w _ τ u y
   cases hf:τ.flat with
   |true=>exact Bc.flat hf h1.2
   |false=>
    refine h1.2.En λb _ hb=>?_
    rcases hb with ⟨l,q,h3,h4⟩|hb|⟨hb,_⟩
    ·rw [aK l] at h3
     cases hp:π0 l with
     |none=>rw [hp] at h3;cases h3
     |some q0=>rw [hp] at h3;simp only [Option.map_some,Option.some.injEq] at h3;subst h3;exact .inl ⟨l,q0,hp,h4⟩
    ·exact .inr hb
    ·cases hb
  |row e te=>exact ⟨_,e.size,List.length y,hh _ rfl,rfl,by simp,by rw [fu];exact Uq h1.1⟩
  |Du e te=>exact ⟨_,e.size,List.length y,hh _ rfl,rfl,by simp,by rw [fu];exact Uq h1.1⟩
  |part e te=>exact ⟨_,e.size,List.length y.1,hh _ rfl,rfl,h1.1.2,by rw [fu];exact Uq h1.1.1⟩
  |Al e te kp=>exact ⟨_,1,List.length y,hh _ rfl,rfl,by simp,by rw [fu];exact Uq h1.1⟩
theorem m5 {p:Real} {s off len:Nat} {u:Value} {f:Nat->Prop} (h:Ec (some p) s off len u):Ec (some ⟨p.g,p.o+off,p.cap-off,f,f⟩) s 0 len u:=by
 obtain ⟨ad,h1,h2,h3⟩:=h
 exact ⟨ad,h1,by dsimp only;omega,λh0=>by dsimp only at h0;simpa using h3 (by omega)⟩
theorem qG {α:Type} {xs:List α} {off len i:Nat} {x:α} (h:((xs.drop off).take len)[i]?=some x):xs[off+i]?=some x:=by
 rw [List.getElem?_take] at h
 split at h
 ·rw [List.getElem?_drop] at h;exact h
 ·cases h
theorem Sa.part {P:Nat->Prop} {g o:Nat} {cur:Array Value} {e:Ty} {xs:List e.den} (off len:Nat) (h:Sa w P g o cur e xs):Sa w P g (o+off) cur e ((xs.drop off).take len):=by
 obtain ⟨Fs,t1,t2,t3,t4⟩:=h
 refine ⟨(Fs.drop off).take len,by simp [t1],List.nodup_cons.2 ⟨λhm=>(List.nodup_cons.1 t2).1 (Ng off len _ hm),j0 off len (List.nodup_cons.1 t2).2⟩,λb hb=>t3 b (Ng off len b hb),λi x F hx hF=>?_⟩
 obtain ⟨es,k1,k2,k3⟩:=t4 (off+i) x F (qG hx) (qG hF)
 exact ⟨es,k1,λj u hu=>by rw [Nat.add_assoc o off i];exact k2 j u hu,k3⟩
theorem MX {st:St} (h:Im X w π st.heap) {c:CK} (hg: ∀e te kp,c≠ .Al e te kp) {a:AC} {u:Value} (hu:Dv X w π st.heap a u) {x:c.den} {ls:List Nat} (he:gk st c a=some (x,ls)):
  ∃r,bl w (λb=>Qj π b\/X.Sc b) r u c x/\ ∀q,r=some q-> ∃l p,ls= [l]/\π l=some p/\(∀b,q.Bg b->p.cl b)/\(c.isX=false-> ∀b,q.Bg b->p.Bg b):=by
 have JN: ∀ {f:Bool} (b:Nat),(Qj π b\/X.Sc b)->Bj X.w0.heap.size X.Sc π f b:= λb h=>h.imp id .inl
 cases c with
 |Dm τ=>
  simp only [gk] at he
  split at he
  ·rename_i hf
   cases hv:Bp st τ a with
   |none=>rw [hv] at he;cases he
   |some p=>
    obtain ⟨fr,y⟩:=p
    rw [hv] at he
    simp only [Option.map_some,Option.some.injEq,Prod.mk.injEq] at he
    obtain ⟨rfl,rfl⟩:=he
    refine ⟨none,⟨rfl,?_⟩,λq hq=>by cases hq⟩
    have En: ∀f,Bc w (Bj X.w0.heap.size X.Sc π f) τ u y->Bc w (λb=>Qj π b\/X.Sc b) τ u y:= λf hr=>hr.En λk _ hk=>JN k hk
    cases a with
    |data f Jr z=>
     rw [Jh] at hv
     split at hv
     ·rename_i ht;subst ht
      simp only [Option.some.injEq,Prod.mk.injEq] at hv
      obtain ⟨_,rfl⟩:=hv
      exact En f hu
     ·have Oq:τ.Ac=false:=by unfold dw at hv;split at hv<;>first|rfl|cases hv
      exact En _ ⟨[u],Zx hv hu,by simp [Au,Oq]⟩
    |Hr=>
     have hu:u= .slice none 0 0:=hu
     subst hu
     cases τ<;>simp only [Bp,Option.some.injEq,Prod.mk.injEq,reduceCtorEq] at hv
     ·obtain ⟨_,rfl⟩:=hv;exact ⟨[_],⟨none,0,0,rfl,rfl,Nat.le_refl _, .inl rfl⟩,rfl⟩
     ·obtain ⟨_,rfl⟩:=hv;exact ⟨[_], .inl ⟨rfl,0,rfl⟩,rfl⟩
    |Rp=>
     have hu:u= .pointer none:=hu
     subst hu
     cases τ<;>simp only [Bp,Option.some.injEq,Prod.mk.injEq,reduceCtorEq] at hv
     obtain ⟨_,rfl⟩:=hv;exact ⟨[_], .inl ⟨rfl,rfl⟩,rfl⟩
    |_=>cases τ<;>simp [AC.settled,Ty.flat,Bp] at hf hv
  ·cases he
 |row e te=>
  cases a<;>simp only [gk] at he<;>try (cases he;done)
  ·simp only [Option.some.injEq,Prod.mk.injEq] at he
   obtain ⟨rfl,rfl⟩:=he
   have hu:u= .slice none 0 0:=hu
   exact ⟨none,⟨⟨hu,rfl,rfl⟩,rfl⟩,λq hq=>by cases hq⟩
  ·rename_i l off len
   split at he
   ·rename_i fr tr e' Mf xs hl
    split at he
    ·rename_i hc
     obtain ⟨rfl,rfl⟩:=hc
     simp only [Option.some.injEq,Prod.mk.injEq] at he
     obtain ⟨rfl,rfl⟩:=he
     unfold St.at at hl
     obtain ⟨h1,h2⟩:=Jv hu hl
     have hb:=(h.heap l).Md hl
     simp only [Av,Fv] at hb
     have hlen:((xs.drop off).take len).length=len:=by simp;omega
     cases hp:π l with
     |none=>
      rw [hp] at h2 hb
      obtain ⟨rfl,rfl,rfl⟩:=h2
      exact ⟨none,⟨⟨rfl,rfl,by simp⟩,by show (xs.drop 0).take 0= [];simp⟩,λq hq=>by cases hq⟩
     |some p=>
      rw [hp] at h2 hb
      obtain ⟨k1,cur,ti,k2,k3,k4,k5,k6,_⟩:=hb
      have ho:=h2
      obtain ⟨ad,_,pR,_⟩:=h2
      refine ⟨some ⟨p.g,p.o+off,p.cap-off,p.Bg,p.Bg⟩,⟨by rw [hlen];exact m5 ho,⟨k1.1,k1.2.1⟩,cur,ti,k2,by rw [k3];congr 1;dsimp only;omega,by dsimp only;omega,by rw [hlen];dsimp only;omega,λi y hy=>?_⟩,
       fun q hq=>by cases hq;exact ⟨l,p,rfl,hp,λb hb=>h.sub l p b hp hb,λ_ b hb=>hb⟩⟩
      obtain ⟨es,g1,g2,g3⟩:=k6 (off+i) y (qG hy)
      exact ⟨es,g1,λj u hu=>by dsimp only;rw [Nat.add_assoc p.o off i];exact g2 j u hu,Cells.Cn (Nat.le_refl _) (λ_ _ _=>rfl) (λb _ hb=>JN b hb) e' es y g3⟩
    ·cases he
   ·cases he
 |Du e te=>
  cases a<;>simp only [gk] at he<;>try (cases he;done)
  ·simp only [Option.some.injEq,Prod.mk.injEq] at he
   obtain ⟨rfl,rfl⟩:=he
   have hu:u= .slice none 0 0:=hu
   exact ⟨none,⟨⟨hu,rfl,rfl⟩,rfl⟩,λq hq=>by cases hq⟩
  ·rename_i l off len
   split at he
   ·rename_i fr tr e' Mf xs hl
    split at he
    ·rename_i hc
     obtain ⟨rfl,rfl,hf⟩:=hc
     simp only [Option.some.injEq,Prod.mk.injEq] at he
     obtain ⟨rfl,rfl⟩:=he
     unfold St.at at hl
     obtain ⟨h1,h2⟩:=Jv hu hl
     have hb:=(h.heap l).Md hl
     simp only [Av,Fv] at hb
     have hlen:((xs.drop off).take len).length=len:=by simp;omega
     cases hp:π l with
     |none=>
      rw [hp] at h2 hb
      obtain ⟨rfl,rfl,rfl⟩:=h2
      exact ⟨none,⟨⟨rfl,rfl,by simp⟩,by show (xs.drop 0).take 0= [];simp⟩,λq hq=>by cases hq⟩
     |some p=>
      rw [hp] at h2 hb
      obtain ⟨k1,cur,ti,k2,k3,k4,k5,k6,k7⟩:=hb
      have ho:=h2
      obtain ⟨ad,_,pR,_⟩:=h2
      have ht:Sa w p.cl p.g p.o cur e' xs:=by
       simp only [Bool.or_eq_true] at hf
       rcases hf with hf|hf
       ·exact k7 hf
       ·exact jN hf k6
      exact ⟨some ⟨p.g,p.o+off,p.cap-off,p.cl,p.cl⟩,⟨by rw [hlen];exact m5 ho,h.sub l p _ hp k1.1,cur,ti,k2,by rw [k3];congr 1;dsimp only;omega,by dsimp only;omega,by rw [hlen];dsimp only;omega,ht.part off len⟩,
       fun q hq=>by cases hq;exact ⟨l,p,rfl,hp,λb hb=>hb,λhx=>by cases hx⟩⟩
    ·cases he
   ·rename_i e' Mf xs hl
    split at he
    ·rename_i hc
     obtain ⟨rfl,rfl⟩:=hc
     simp only [Option.some.injEq,Prod.mk.injEq] at he
     obtain ⟨rfl,rfl⟩:=he
     unfold St.at at hl
     obtain ⟨h1,h2⟩:=Xy hu hl
     have hb:=(h.heap l).Md hl
     simp only [Av,Ji] at hb
     have hlen:((xs.drop off).take len).length=len:=by simp;omega
     cases hp:π l with
     |none=>
      rw [hp] at h2 hb
      obtain ⟨rfl,rfl,rfl⟩:=h2
      exact ⟨none,⟨⟨rfl,rfl,by simp⟩,by show (xs.drop 0).take 0= [];simp⟩,λq hq=>by cases hq⟩
     |some p=>
      rw [hp] at h2 hb
      obtain ⟨k1,cur,ti,k2,k3,k4,k5,ht⟩:=hb
      have ho:=h2
      obtain ⟨ad,_,pR,_⟩:=h2
      exact ⟨some ⟨p.g,p.o+off,p.cap-off,p.Bg,p.Bg⟩,⟨by rw [hlen];exact m5 ho,k1,cur,ti,k2,by rw [k3];congr 1;dsimp only;omega,by dsimp only;omega,by rw [hlen];dsimp only;omega,ht.part off len⟩,
       fun q hq=>by cases hq;exact ⟨l,p,rfl,hp,λb hb=>h.sub l p b hp hb,λ_ b hb=>hb⟩⟩
    ·cases he
   ·cases he
 |part e te=>cases a<;>simp [gk] at he
 |Al e te kp=>exact absurd rfl (hg e te kp)
theorem TW {st:St} (h:Im X w π st.heap) {c:CK} {a:AC} {u:Value} (hu:Dv X w π st.heap a u) {x:c.den} {ls:List Nat} (he:gk st c a=some (x,ls)):
  ∃r,bl w (λb=>Qj π b\/X.Sc b) r u c x/\(∀q,r=some q-> ∃l p,ls= [l]/\π l=some p/\(∀b,q.Bg b->p.cl b)/\(c.isX=false-> ∀b,q.Bg b->p.Bg b))/\
   (∀l off len e te rows out kp,a= .own l off len->Ad st.heap l=some (.Al e te rows out kp)->r=π l):=by
 have sa:(∀e te kp,c≠ .Al e te kp)->(∀l off len e te rows out kp,a=AC.own l off len->Ad st.heap l=some (OB.Al e te rows out kp)->False)->
   ∃r,bl w (λb=>Qj π b\/X.Sc b) r u c x/\(∀q,r=some q-> ∃l p,ls= [l]/\π l=some p/\(∀b,q.Bg b->p.cl b)/\(c.isX=false-> ∀b,q.Bg b->p.Bg b))/\
   (∀l off len e te rows out kp,a= .own l off len->Ad st.heap l=some (.Al e te rows out kp)->r=π l):= λh1 h2=>by
  obtain ⟨r,g1,g2⟩:=MX h h1 hu he
  exact ⟨r,g1,g2,λl off len e te rows out kp h3 h4=>(h2 l off len e te rows out kp h3 h4).elim⟩
 cases c with
 |Dm τ=>
  refine sa (λ_ _ _ h=>by cases h) λl off len e te rows out kp h3 h4=>?_
  subst h3
  simp only [gk] at he
  split at he
  ·rename_i hf
   cases τ<;>simp [AC.settled,Ty.flat,Bp] at hf he
  ·cases he
 |row e te=>
  refine sa (λ_ _ _ h=>by cases h) λl off len e te rows out kp h3 h4=>?_
  subst h3
  simp only [gk,St.at,h4] at he
  cases he
 |Du e te=>
  refine sa (λ_ _ _ h=>by cases h) λl off len e te rows out kp h3 h4=>?_
  subst h3
  simp only [gk,St.at,h4] at he
  cases he
 |part e te=>cases a<;>simp [gk] at he
 |Al e te kp=>
  cases a<;>simp only [gk] at he<;>try (cases he;done)
  rename_i l off len
  split at he
  ·rename_i e' Mf rows kp' hl
   split at he
   ·rename_i hc
    obtain ⟨rfl,rfl,rfl,rfl⟩:=hc
    simp only [Option.some.injEq,Prod.mk.injEq] at he
    obtain ⟨rfl,rfl⟩:=he
    unfold St.at at hl
    obtain ⟨b,sz,n,h1,h2,_,h3⟩:=hu
    rw [hl] at h1;cases h1
    simp only [OB.row,Option.some.injEq,Prod.mk.injEq] at h2
    obtain ⟨rfl,rfl⟩:=h2
    have hb:=((h.heap l).Md hl).1
    refine ⟨π l,⟨h3,Vm.En hb λb hb=>hb.imp id .inl⟩,λq hq=>⟨l,q,rfl,hq,λb hb=>h.sub l q b hq hb,λ_ b hb=>hb⟩,λl' Asu Aso _ _ _ _ _ he _=>?_⟩
    simp only [AC.own.injEq] at he
    rw [he.1]
   ·cases he
  ·cases he
theorem Ez.congr {D:Nat->Prop} {ρ ρ':Pi} : ∀(cs:List CK) (k:Nat) (x:CKs.den cs) (us:List Value),(∀j,k<=j->ρ' (Fz j)=ρ (Fz j))->Ez w D ρ k cs x us->Ez w D ρ' k cs x us
 | [],_,_,[],_,h=>h
 | [],_,_,_::_,_,h=>h.elim
 |_::_,_,_,[],_,h=>h.elim
 |c::r,k,x,u::us,he,h=>⟨by rw [he k (Nat.le_refl _)];exact h.1,Ez.congr r (k+1) x.2 us (λj hj=>he j (by omega)) h.2⟩
theorem uJ {st:St} (h:Im X w π st.heap): ∀(cs:List CK) (k:Nat) (as:List AC) (us:List Value) (x:CKs.den cs) (ls:List Nat),Io X w π st.heap as us->Pz st cs as=some (x,ls)->ls.Nodup->
  ∃ρ:Pi,Ez w (λb=>Qj π b\/X.Sc b) ρ k cs x us/\(∀l q,ρ l=some q-> ∃j,k<=j/\j<k+cs.length/\l=Fz j)/\(∀l q b,ρ l=some q->q.Bg b-> ∃l0∈ls,∃p,π l0=some p/\p.cl b/\((cs.all λc=>!c.isX)=true->p.Bg b))/\
   (∀l l' q q' b,ρ l=some q->ρ l'=some q'->q.Bg b->q'.Bg b->l=l')/\
   (∀(j l off len:Nat) e te rows out kp,as[j]?=some (.own l off len)->Ad st.heap l=some (.Al e te rows out kp)->ρ (Fz (k+j))=π l)
 | [],k,[],[],x,ls,_,he,_=>by
  simp only [Pz,Option.some.injEq,Prod.mk.injEq] at he
  exact ⟨λ_=>none,trivial,(λl q h=>by cases h),(λl q b h=>by cases h),(λl l' q q' b h=>by cases h),λj l off len e te rows out kp h=>by simp at h⟩
 | [],_,[],_::_,_,_,h,_,_=>h.elim
 | [],_,_::_,_,_,_,_,he,_=>by simp [Pz] at he
 |_::_,_,[],_,_,_,_,he,_=>by simp [Pz] at he
 |_::_,_,_::_,[],_,_,h,_,_=>h.elim
 |c::r,k,a::as,u::us,x,ls,hr,he,JS=>by
  simp only [Pz] at he
  split at he
  ·rename_i x1 t1 x2 t2 h1 h2
   simp only [Option.some.injEq,Prod.mk.injEq] at he
   obtain ⟨rfl,rfl⟩:=he
   obtain ⟨n1,n2,n3⟩:=List.nodup_append.1 JS
   obtain ⟨ρ,g1,g2,g3,g4,g5⟩:=uJ h r (k+1) as us x2 t2 hr.2 h2 n2
   obtain ⟨rr,r1,r2,r3⟩:=TW h hr.1 h1
   have yJ: ∀l q q0 b,ρ l=some q->rr=some q0->q.Bg b->q0.Bg b->False:= λl q q0 b h3 h4 h5 h6=>by
    obtain ⟨l0,m0,p,p1,p2,_⟩:=g3 l q b h3 h5
    obtain ⟨l1,p',e1,p1',p2',_⟩:=r2 q0 h4
    have:=h.inj l0 l1 p p' b p1 p1' p2 (p2' b h6)
    exact n3 l1 (by rw [e1];simp) l0 m0 this.symm
   refine ⟨λl=>if l=Fz k then rr else ρ l,⟨by simpa using r1,Ez.congr r (k+1) x2 us (λj hj=>if_neg (by unfold Fz;omega)) g1⟩,λl q hq=>?_,λl q b hq hb=>?_,λl l' q q' b h3 h4 h5 h6=>?_,λj l off len e te rows out kp hj hl=>?_⟩
   ·dsimp only at hq
    by_cases e:l=Fz k
    ·exact ⟨k,Nat.le_refl _,by simp,e⟩
    ·rw [if_neg e] at hq
     obtain ⟨j,j1,j2,j3⟩:=g2 l q hq
     exact ⟨j,by omega,by simp;omega,j3⟩
   ·dsimp only at hq
    by_cases e:l=Fz k
    ·rw [if_pos e] at hq
     obtain ⟨l1,p',e1,p1',p2',p3'⟩:=r2 q hq
     exact ⟨l1,by rw [e1];simp,p',p1',p2' b hb,λhx=>p3' (by simp only [List.all_cons,Bool.and_eq_true,Bool.not_eq_true'] at hx;exact hx.1) b hb⟩
    ·rw [if_neg e] at hq
     obtain ⟨l0,m0,p,p1,p2,p3⟩:=g3 l q b hq hb
     exact ⟨l0,List.mem_append_right _ m0,p,p1,p2,λhx=>p3 (by simp only [List.all_cons,Bool.and_eq_true] at hx;exact hx.2)⟩
   ·dsimp only at h3 h4
    by_cases e:l=Fz k<;>by_cases e':l'=Fz k
    ·rw [e,e']
    ·rw [if_pos e] at h3;rw [if_neg e'] at h4
     exact (yJ l' q' q b h4 h3 h6 h5).elim
    ·rw [if_neg e] at h3;rw [if_pos e'] at h4
     exact (yJ l q q' b h3 h4 h5 h6).elim
    ·rw [if_neg e] at h3;rw [if_neg e'] at h4
     exact g4 l l' q q' b h3 h4 h5 h6
   ·rcases j with _|j
    ·simp only [List.getElem?_cons_zero,Option.some.injEq] at hj
     show (if Fz k=Fz k then rr else ρ (Fz k))=π l
     rw [if_pos rfl]
     exact r3 l off len e te rows out kp hj hl
    ·have:=g5 j l off len e te rows out kp (by simpa using hj) hl
     show (if Fz (k+(j+1))=Fz k then rr else ρ (Fz (k+(j+1))))=π l
     rw [if_neg (by unfold Fz;omega),<-this,show k+(j+1)=k+1+j by omega]
  ·cases he
theorem AT {r r':Option Real} (h:Xc (r.map full) r') {e:Ty} {xs:List e.den} {te:TypeId} {fr tr:Bool} (ha:Fv X w π r' fr tr e te xs):Nq w (λb=>Qj π b\/X.Sc b) r e xs:=by
 cases r with
 |none=>cases r' with
  |none=>exact ha
  |some q=>exact h.elim
 |some p=>cases r' with
  |none=>exact h.elim
  |some q=>
   obtain ⟨e1,e2,e3,e4⟩:=h
   obtain ⟨k1,cur,ti,k2,k3,k4,k5,k6,_⟩:=ha
   have e1:p.g=q.g:=e1
   have e2:p.o=q.o:=e2
   have e3:p.cap=q.cap:=e3
   refine ⟨⟨by rw [e1];exact (e4 _).2 k1.1,λb hb=>by rw [e1];exact k1.2.1 b ((e4 b).1 hb)⟩,cur,ti,by rw [e1];exact k2,by rw [e2,e3];exact k3,by rw [e3];exact k4,by rw [e3];exact k5,λi y hy=>?_⟩
   obtain ⟨es,g1,g2,g3⟩:=k6 i y hy
   exact ⟨es,g1,by rw [e2];exact g2,Cells.Cn (Nat.le_refl _) (λ_ _ _=>rfl) (λb _ hb=>hb.imp id .inl) e es y g3⟩
theorem NX {r r':Option Real} (h:Xc (r.map full) r') {e:Ty} {xs:List e.den} {te:TypeId} (ha:Ji w r' e te xs):Ji w r e te xs:=by
 cases r with
 |none=>cases r' with
  |none=>exact ha
  |some q=>exact h.elim
 |some p=>cases r' with
  |none=>exact h.elim
  |some q=>
   obtain ⟨e1,e2,e3,e4⟩:=h
   obtain ⟨k1,cur,ti,k2,k3,k4,k5,Fs,t1,t2,t3,t4⟩:=ha
   have e1:p.g=q.g:=e1
   have e2:p.o=q.o:=e2
   have e3:p.cap=q.cap:=e3
   exact ⟨by rw [e1];exact (e4 _).2 k1,cur,ti,by rw [e1];exact k2,by rw [e2,e3];exact k3,by rw [e3];exact k4,by rw [e3];exact k5,Fs,t1,by rw [e1];exact t2,λb hb=>(e4 b).2 (t3 b hb),by rw [e2];exact t4⟩
theorem Pb {st:St} {π0:Pi} {D:Nat->Prop} {w0:World} (h:Im X w π st.heap) (Vd: ∀l,X.db l=(π0 l).map full): ∀(cs:List (Bool×CK)) (k:Nat) (x:Ins.den cs) (us:List Value) (o:IOs.den cs),bm w0 D π0 k cs x us->Jz st k cs=some o->
  Hm w (λb=>Qj π b\/X.Sc b) π0 k cs o/\ ∀l∈La k cs,Ad st.heap l≠none
 | [],_,_,_,_,_,_=>⟨trivial,λl hl=>by cases hl⟩
 |_::_,_,_,[],_,h,_=>h.elim
 |(false,c)::r,k,x,u::us,o,hi,he=>Pb h Vd r (k+1) x.2 us o hi.2 (by simpa only [Jz] using he)
 |(true, .Dm τ)::r,k,x,u::us,o,hi,he=>Pb h Vd r (k+1) x.2 us o hi.2 (by simpa only [Jz] using he)
 |(true, .Al e te kp)::r,k,x,u::us,o,hi,he=>Pb h Vd r (k+1) x.2 us o hi.2 (by simpa only [Jz] using he)
 |(true, .row e te)::r,k,x,u::us,o,hi,he=>by
  simp only [Jz] at he
  split at he
  ·rename_i x1 x2 h1 h2
   simp only [Option.some.injEq] at he;subst he
   obtain ⟨g1,g2⟩:=Pb h Vd r (k+1) x.2 us x2 hi.2 h2
   have h0:=hi.1
   simp only [mO] at h1
   split at h1
   ·rename_i fr tr e' Mf xs hl
    split at h1
    ·rename_i hc
     obtain ⟨rfl,rfl⟩:=hc
     simp only [Option.some.injEq] at h1;subst h1
     unfold St.at at hl
     have hs:=h.db (Bu true k) (by have:=Wp k;omega) (by rw [hl];simp)
     rw [Vd] at hs
     exact ⟨⟨AT (te:=Mf) hs ((h.heap _).Md hl),g1⟩,λl Gt=>by
      simp only [La] at Gt
      rcases List.mem_cons.1 Gt with rfl|Gt
      ·rw [hl];simp
      ·exact g2 l Gt⟩
    ·cases h1
   ·cases h1
  ·cases he
 |(true, .part e te)::r,k,x,u::us,o,hi,he=>by
  simp only [Jz] at he
  split at he
  ·rename_i x1 x2 h1 h2
   simp only [Option.some.injEq] at he;subst he
   obtain ⟨g1,g2⟩:=Pb h Vd r (k+1) x.2 us x2 hi.2 h2
   have h0:=hi.1
   simp only [mO] at h1
   split at h1
   ·rename_i fr tr e' Mf xs hl
    split at h1
    ·rename_i hc
     obtain ⟨rfl,rfl⟩:=hc
     simp only [Option.some.injEq] at h1;subst h1
     unfold St.at at hl
     have hs:=h.db (Bu true k) (by have:=Wp k;omega) (by rw [hl];simp)
     rw [Vd] at hs
     exact ⟨⟨AT (te:=Mf) hs ((h.heap _).Md hl),g1⟩,λl Gt=>by
      simp only [La] at Gt
      rcases List.mem_cons.1 Gt with rfl|Gt
      ·rw [hl];simp
      ·exact g2 l Gt⟩
    ·cases h1
   ·cases h1
  ·cases he
 |(true, .Du e te)::r,k,x,u::us,o,hi,he=>by
  simp only [Jz] at he
  split at he
  ·rename_i x1 x2 h1 h2
   simp only [Option.some.injEq] at he;subst he
   obtain ⟨g1,g2⟩:=Pb h Vd r (k+1) x.2 us x2 hi.2 h2
   simp only [mO] at h1
   split at h1
   ·rename_i e' Mf xs hl
    split at h1
    ·rename_i hc
     obtain ⟨rfl,rfl⟩:=hc
     simp only [Option.some.injEq] at h1;subst h1
     unfold St.at at hl
     have hs:=h.db (Bu true k) (by have:=Wp k;omega) (by rw [hl];simp)
     rw [Vd] at hs
     exact ⟨⟨NX (te:=Mf) hs ((h.heap _).Md hl),g1⟩,λl Gt=>by
      simp only [La] at Gt
      rcases List.mem_cons.1 Gt with rfl|Gt
      ·rw [hl];simp
      ·exact g2 l Gt⟩
    ·cases h1
   ·cases h1
  ·cases he
theorem sE {p:Bool×CK} {r:List (Bool×CK)} (h:Up (p::r)=true):Up r=true:=by
 rcases p with ⟨_|_,c⟩<;>cases c<;>first|(simp [Up] at h;done)|simpa [Up] using h
theorem uv: ∀(cs:List (Bool×CK)) (k:Nat) (x:Ins.den cs) (l:Nat),Up cs=true->k+cs.length<100000->Ad (Ul k cs x) l≠none-> ¬l<Am->l∈La k cs
 | [],_,_,_,_,_,h,_=>absurd rfl h
 |(io,c)::r,k,x,l,hng,hk,h,hp=>by
  simp only [List.length_cons] at hk
  simp only [Ul] at h
  have tail:Ad (Ul (k+1) r x.2) l≠none->l∈La (k+1) r:= λh=>uv r (k+1) x.2 l (sE hng) (by omega) h hp
  have sub: ∀m,m∈La (k+1) r->m∈La k ((io,c)::r):= λm hm=>by
   cases io<;>cases c<;>simp only [La]<;>first|exact hm|exact List.mem_cons_of_mem _ hm
  cases hc:ga (Bu io k) c x.1 with
  |none=>rw [hc] at h;exact sub l (tail h)
  |some b=>
   rw [hc] at h
   simp only [du,Ad] at h
   split at h
   ·rename_i e;subst e
    cases io with
    |false=>exact absurd (bY (by omega)) hp
    |true=>cases c with
     |Dm τ=>cases hc
     |row e te=>simp [La]
     |Du e te=>simp [La]
     |part e te=>simp [La]
     |Al e te kp=>simp [Up] at hng
   ·exact sub l (tail h)
theorem bl.En {D D':Nat->Prop} (hD: ∀b,D' b->D b) {r:Option Real} {u:Value} {c:CK} {x:c.den} (h:bl w D r u c x):bl w D' r u c x:=by
 cases c with
 |Dm τ=>exact ⟨h.1,h.2.En λb _ hb=>hD b hb⟩
 |row e te=>exact ⟨h.1,Nq.En h.2 hD⟩
 |Du e te=>exact h
 |part e te=>exact ⟨h.1,h.2.1,Nq.En h.2.2 hD⟩
 |Al e te kp=>exact ⟨h.1,Vm.En h.2 hD⟩
theorem Ez.En {D D':Nat->Prop} (hD: ∀b,D' b->D b) {ρ:Pi} : ∀(cs:List CK) (k:Nat) (x:CKs.den cs) (us:List Value),Ez w D ρ k cs x us->Ez w D' ρ k cs x us
 | [],_,_,[],h=>h
 | [],_,_,_::_,h=>h.elim
 |_::_,_,_,[],h=>h.elim
 |_c::r,k,x,_u::us,h=>⟨h.1.En hD,Ez.En hD r (k+1) x.2 us h.2⟩
theorem Hm.En {D D':Nat->Prop} (hD: ∀b,D' b->D b) {π:Pi} : ∀(cs:List (Bool×CK)) (k:Nat) (x:IOs.den cs),Hm w D π k cs x->Hm w D' π k cs x
 | [],_,_,h=>h
 |(false,_)::r,k,x,h=>Hm.En hD r (k+1) x h
 |(true, .Dm _)::r,k,x,h=>Hm.En hD r (k+1) x h
 |(true, .Al _ _ _)::r,k,x,h=>Hm.En hD r (k+1) x h
 |(true, .row _e _te)::r,k,x,h=>⟨Nq.En h.1 hD,Hm.En hD r (k+1) x.2 h.2⟩
 |(true, .Du _e _te)::r,k,x,h=>⟨h.1,Hm.En hD r (k+1) x.2 h.2⟩
 |(true, .part _e _te)::r,k,x,h=>⟨Nq.En h.1 hD,Hm.En hD r (k+1) x.2 h.2⟩
theorem bm.congr {D:Nat->Prop} {π0 Yi:Pi} : ∀(cs:List (Bool×CK)) (k:Nat) (x:Ins.den cs) (us:List Value),(∀b j,k<=j->j<k+cs.length->Yi (Bu b j)=π0 (Bu b j))->bm w D π0 k cs x us->bm w D Yi k cs x us
 | [],_,_,[],_,h=>h
 | [],_,_,_::_,_,h=>h
 |_::_,_,_,[],_,h=>h
 |p::r,k,x,u::us,hp,h=>⟨by rw [hp p.1 k (Nat.le_refl _) (by simp)];exact h.1,bm.congr r (k+1) x.2 us (λb j h1 h2=>hp b j (by omega) (by simp;omega)) h.2⟩
theorem Hm.congr {D:Nat->Prop} {π0 Yi:Pi} : ∀(cs:List (Bool×CK)) (k:Nat) (x:IOs.den cs),(∀b j,k<=j->j<k+cs.length->Yi (Bu b j)=π0 (Bu b j))->Hm w D π0 k cs x->Hm w D Yi k cs x
 | [],_,_,_,h=>h
 |(false,c)::r,k,x,hp,h=>by cases c<;>exact Hm.congr r (k+1) x (λb j h1 h2=>hp b j (by omega) (by simp;omega)) h
 |(true, .Dm _)::r,k,x,hp,h=>Hm.congr r (k+1) x (λb j h1 h2=>hp b j (by omega) (by simp;omega)) h
 |(true, .Al _ _ _)::r,k,x,hp,h=>Hm.congr r (k+1) x (λb j h1 h2=>hp b j (by omega) (by simp;omega)) h
 |(true, .row e te)::r,k,x,hp,h=>⟨by rw [hp true k (Nat.le_refl _) (by simp)];exact h.1,Hm.congr r (k+1) x.2 (λb j h1 h2=>hp b j (by omega) (by simp;omega)) h.2⟩
 |(true, .Du e te)::r,k,x,hp,h=>⟨by rw [hp true k (Nat.le_refl _) (by simp)];exact h.1,Hm.congr r (k+1) x.2 (λb j h1 h2=>hp b j (by omega) (by simp;omega)) h.2⟩
 |(true, .part e te)::r,k,x,hp,h=>⟨by rw [hp true k (Nat.le_refl _) (by simp)];exact h.1,Hm.congr r (k+1) x.2 (λb j h1 h2=>hp b j (by omega) (by simp;omega)) h.2⟩
theorem Ce.congr {π0 Yi:Pi} : ∀(cs:List (Bool×CK)) (k:Nat) (o:IOs.den cs) (n:Nat) (us as:List Value),(∀b j,k<=j->j<k+cs.length->Yi (Bu b j)=π0 (Bu b j))->Ce π0 k cs o n us as->Ce Yi k cs o n us as
 | [],k,o,0,us,as,_,h=>by simpa [Ce] using h
 | [],k,o,n+1,us,as,_,h=>by simp [Ce] at h
 |p::r,k,o,0,us,as,_,h=>by
  rcases p with ⟨_|_,c⟩<;>cases c<;>simpa [Ce] using h
 |(true, .Dm _)::r,k,o,n+1,us,as,_,h=>by simp [Ce] at h
 |(true, .part _ _)::r,k,o,n+1,us,as,_,h=>by simp [Ce] at h
 |(true, .Al _ _ _)::r,k,o,n+1,us,as,_,h=>by simp [Ce] at h
 |(true, .row e te)::r,k,o,n+1,[],as,_,h=>by simp [Ce] at h
 |(true, .Du e te)::r,k,o,n+1,[],as,_,h=>by simp [Ce] at h
 |(true, .row e te)::r,k,o,n+1,u::us,as,hp,h=>by
  simp only [Ce] at h⊢
  exact ⟨by rw [hp true k (Nat.le_refl _) (by simp)];exact h.1,Ce.congr r (k+1) o.2 n us as (λb j h1 h2=>hp b j (by omega) (by simp;omega)) h.2⟩
 |(true, .Du e te)::r,k,o,n+1,u::us,as,hp,h=>by
  simp only [Ce] at h⊢
  exact ⟨by rw [hp true k (Nat.le_refl _) (by simp)];exact h.1,Ce.congr r (k+1) o.2 n us as (λb j h1 h2=>hp b j (by omega) (by simp;omega)) h.2⟩
 |(false,c)::r,k,o,n+1,[],as,_,h=>by cases c<;>simp [Ce] at h
 |(false,c)::r,k,o,n+1,u::us,[],_,h=>by cases c<;>simp [Ce] at h
 |(false,c)::r,k,o,n+1,u::us,a::as,hp,h=>by
  have h:u=a/\Ce π0 (k+1) r o n us as:=by cases c<;>exact h
  have:=Ce.congr r (k+1) o n us as (λb j h1 h2=>hp b j (by omega) (by simp;omega)) h.2
  cases c<;>exact ⟨h.1,this⟩
theorem nd: ∀(A B:List (Nat×OB)) (l:Nat),Ad (A++B) l=match Ad A l with|some b=>some b|none=>Ad B l
 | [],B,l=>rfl
 |(k,b)::A,B,l=>by
  simp only [List.cons_append,Ad]
  split
  ·rfl
  ·exact nd A B l
theorem qA {st:St} : ∀(cs:List CK) (as:List AC) (x:CKs.den cs) (ls:List Nat),Pz st cs as=some (x,ls)-> ∀l∈ls,∃b,Ad st.heap l=some b/\b.row≠none
 | [],[],x,ls,he=>by
  simp only [Pz,Option.some.injEq,Prod.mk.injEq] at he
  obtain ⟨_,rfl⟩:=he
  intro l hl;cases hl
 | [],_::_,_,_,he=>by simp [Pz] at he
 |_::_,[],_,_,he=>by simp [Pz] at he
 |c::r,a::as,x,ls,he=>by
  simp only [Pz] at he
  split at he
  ·rename_i x1 t1 x2 t2 h1 h2
   simp only [Option.some.injEq,Prod.mk.injEq] at he
   obtain ⟨_,rfl⟩:=he
   intro l hl
   rcases List.mem_append.1 hl with hl|hl
   ·unfold gk at h1
    split at h1
    ·split at h1
     ·cases hv:Bp st _ a with
      |none=>rw [hv] at h1;cases h1
      |some p=>rw [hv] at h1;simp only [Option.map_some,Option.some.injEq,Prod.mk.injEq] at h1;obtain ⟨_,rfl⟩:=h1;cases hl
     ·cases h1
    all_goals (repeat' split at h1)
    all_goals first|(cases h1;done)|skip
    all_goals (simp only [Option.some.injEq,Prod.mk.injEq] at h1;obtain ⟨_,rfl⟩:=h1)
    all_goals first|(cases hl;done)|skip
    all_goals (have hl:=List.mem_singleton.1 hl;subst hl)
    all_goals (rename_i heq _;exact ⟨_,heq,by simp [OB.row]⟩)
   ·exact qA r as x2 t2 h2 l hl
  ·cases he
theorem nw {r r':Option Real} {sz off len:Nat} {v:Value} (h:Xc r r') (hv:Ec r' sz off len v):Ec r sz off len v:=by
 cases r<;>cases r'<;>first|exact h.elim|skip
 ·exact hv
 ·obtain ⟨h1,h2,h3,_⟩:=h
  obtain ⟨ad,g1,g2,g3⟩:=hv
  exact ⟨ad,by rw [h3];exact g1,by rw [h3];exact g2,by rw [h1,h2,h3];exact g3⟩
theorem Tt {st:St} {π0:Pi} (hs: ∀k,Ad st.heap (Bu true k)≠none->Xc ((π0 (Bu true k)).map full) (π (Bu true k))):
  ∀(cs:List (Bool×CK)) (k:Nat) (vs:List AC) (us:List Value) (bc:List AC) (o:IOs.den cs),Io X w π st.heap vs us->Fb k cs vs=some bc->dU st vs cs->Jz st k cs=some o->
   ∃bv,Io X w π st.heap bc bv/\bv.length=qQ cs vs.length/\ ∀tl,Ce π0 k cs o vs.length us (bv++tl)
 |cs,k,[],us,bc,o,hr,he,_,_=>by
  have e1:us= []:=by cases us with|nil=>rfl|cons u us=>exact hr.elim
  have e2:bc= []:=by rcases cs with _|⟨⟨_|_,c⟩,r⟩<;>simpa [Fb] using he.symm
  subst e1;subst e2
  refine ⟨[],trivial,?_,λtl=>?_⟩
  ·rcases cs with _|⟨⟨_|_,c⟩,r⟩<;>rfl
  ·rcases cs with _|⟨⟨_|_,c⟩,r⟩<;>(try cases c)<;>simp [Ce]
 | [],k,a::vs,us,bc,o,hr,he,_,_=>by simp [Fb] at he
 |p::r,k,a::vs,[],bc,o,hr,_,_,_=>hr.elim
 |(false,c)::r,k,a::vs,u::us,bc,o,hr,he,hk,ho=>by
  have he:(Fb (k+1) r vs).map (λl=>a::l)=some bc:=by cases a<;>exact he
  cases hb:Fb (k+1) r vs with
  |none=>rw [hb] at he;cases he
  |some bc'=>
   rw [hb] at he
   simp only [Option.map_some,Option.some.injEq] at he;subst he
   obtain ⟨bv,g1,g2,g3⟩:=Tt hs r (k+1) vs us bc' o hr.2 hb (by cases a<;>exact hk) (by cases c<;>simpa only [Jz] using ho)
   refine ⟨u::bv,⟨hr.1,g1⟩,by simp [qQ,g2],λtl=>?_⟩
   have:=g3 tl
   cases c<;>exact ⟨rfl,this⟩
 |(true,c)::r,k,a::vs,u::us,bc,o,hr,he,hk,ho=>by
  cases c with
  |Dm τ=>cases a<;>simp [Fb] at he
  |part e te=>cases a<;>simp [Fb] at he
  |Al e te kp=>cases a<;>simp [Fb] at he
  |row e te=>
   cases a<;>first|(simp [Fb] at he;done)|skip
   rename_i l off len
   simp only [Fb] at he
   split at he
   rotate_left
   ·cases he
   rename_i hl
   have hl:l=Bu true k:=Nat.eq_of_beq_eq_true hl
   subst hl
   obtain ⟨⟨rfl,hlen⟩,hk⟩:=hk
   obtain ⟨b,sz,n,h1,h2,h3,h4⟩:=hr.1
   have zk:=hs k (by rw [h1];simp)
   simp only [Jz] at ho
   split at ho
   ·rename_i x1 x2 q1 q2
    simp only [Option.some.injEq] at ho;subst ho
    obtain ⟨bv,g1,g2,g3⟩:=Tt hs r (k+1) vs us bc x2 hr.2 he hk q2
    refine ⟨bv,g1,by simpa [qQ] using g2,λtl=>?_⟩
    refine ⟨?_,g3 tl⟩
    simp only [mO] at q1
    split at q1
    ·rename_i fr tr e' Mf xs Gt
     split at q1
     ·rename_i hc
      obtain ⟨rfl,rfl⟩:=hc
      simp only [Option.some.injEq] at q1;subst q1
      unfold St.at at Gt hlen
      rw [Gt] at hlen
      rw [h1] at Gt;cases Gt
      simp only [OB.row,Option.some.injEq,Prod.mk.injEq] at h2
      obtain ⟨rfl,rfl⟩:=h2
      have hlen:len=List.length xs:=hlen
      have:=nw zk h4
      rw [hlen] at this
      have e0:(π0 (Bu true k)).map full=(π0 (Bu true k)).map full:=rfl
      cases hp:π0 (Bu true k)<;>(rw [hp] at this;exact this)
     ·cases q1
    ·cases q1
   ·cases ho
  |Du e te=>
   cases a<;>first|(simp [Fb] at he;done)|skip
   rename_i l off len
   simp only [Fb] at he
   split at he
   rotate_left
   ·cases he
   rename_i hl
   have hl:l=Bu true k:=Nat.eq_of_beq_eq_true hl
   subst hl
   obtain ⟨⟨rfl,hlen⟩,hk⟩:=hk
   obtain ⟨b,sz,n,h1,h2,h3,h4⟩:=hr.1
   have zk:=hs k (by rw [h1];simp)
   simp only [Jz] at ho
   split at ho
   ·rename_i x1 x2 q1 q2
    simp only [Option.some.injEq] at ho;subst ho
    obtain ⟨bv,g1,g2,g3⟩:=Tt hs r (k+1) vs us bc x2 hr.2 he hk q2
    refine ⟨bv,g1,by simpa [qQ] using g2,λtl=>?_⟩
    refine ⟨?_,g3 tl⟩
    simp only [mO] at q1
    split at q1
    ·rename_i e' Mf xs Gt
     split at q1
     ·rename_i hc
      obtain ⟨rfl,rfl⟩:=hc
      simp only [Option.some.injEq] at q1;subst q1
      unfold St.at at Gt hlen
      rw [Gt] at hlen
      rw [h1] at Gt;cases Gt
      simp only [OB.row,Option.some.injEq,Prod.mk.injEq] at h2
      obtain ⟨rfl,rfl⟩:=h2
      have hlen:len=List.length xs:=hlen
      have:=nw zk h4
      rw [hlen] at this
      cases hp:π0 (Bu true k)<;>(rw [hp] at this;exact this)
     ·cases q1
    ·cases q1
   ·cases ho
def Ajc (s:MSpec) (g:Nat) (π:Pi):Pi:= λl=>if s.ptr.isSome=true/\l=Ki then some ⟨g,0,0,λb=>b=g,λb=>b=g⟩ else π l
def Afs (P:Program) (s:MSpec) (fn:Func) (x:Ins.den s.ins) (w:World) (S:Nat->Prop) (π:Pi) (g:Nat) (r:CKs.den s.outs) (o:IOs.den s.ins) (a':Act) (w':World):Prop:=
 ∃(v:Value) (Rn:List Value) (ρ:Pi),a'.defers= []/\(results fn a'.tmps).run P w'= .ok v w'/\p7 s w' ρ (Rn.drop s.Vr) v/\iv s π w' g Rn o/\Gg w.heap.size (λb=>Qj π b\/s.gv g b) w w'/\Hm w' (fY S π ρ) π 0 s.ins o/\Ez w' (fY S π ρ) ρ 0 s.outs r Rn/\
  df ρ (λb=>b<w'.heap.size/\(w.heap.size<=b\/ ∃l q,l<Am/\π l=some q/\q.Bg b))/\(∀l,(∀k,k<s.Ph->l≠Fz k)->ρ l=none)/\(∀kj∈s.keeps,yh w w' (π (Bu false kj.1)) (ρ (Fz kj.2)) (s.Cn x))
theorem Ez.QW {D:Nat->Prop} {ρ ρ':Pi} : ∀(cs:List CK) (k:Nat) (x:CKs.den cs) (us:List Value),(∀j,k<=j->j<k+cs.length->ρ' (Fz j)=ρ (Fz j))->Ez w D ρ k cs x us->Ez w D ρ' k cs x us
 | [],_,_,[],_,h=>h
 | [],_,_,_::_,_,h=>h.elim
 |_::_,_,_,[],_,h=>h.elim
 |c::r,k,x,u::us,he,h=>⟨by rw [he k (Nat.le_refl _) (by simp)];exact h.1,Ez.QW r (k+1) x.2 us (λj hj hl=>he j (by omega) (by simp;omega)) h.2⟩
theorem uy {st:St} {n:Nat} {as:List AC} : ∀ {ks:List (Nat×Nat)},ux st n as ks-> ∀kj∈ks,∃l off len e te rows out p,as[kj.2]?=some (.own l off len)/\Ad st.heap l=some (.Al e te rows out (some p))/\p.1=Bu false kj.1/\n<=p.2/\kj.1<1000
 | [],_,kj,hm=>by cases hm
 |(k,j)::r,h,kj,hm=>by
  simp only [ux] at h
  rcases List.mem_cons.1 hm with rfl|hm
  ·obtain ⟨h,_⟩:=h
   split at h
   ·rename_i l off len he
    split at h
    ·rename_i e te rows out p hl
     unfold St.at at hl
     exact ⟨l,off,len,e,te,rows,out,p,he,hl,h.1,h.2.1,by simpa using h.2.2⟩
    ·exact h.elim
   ·exact h.elim
  ·exact uy h.2 kj hm
theorem uI {st:St} : ∀(cs:List CK) (as:List AC) (x:CKs.den cs) (ls:List Nat),Pz st cs as=some (x,ls)->as.length=cs.length
 | [],[],_,_,_=>rfl
 | [],_::_,_,_,he=>by simp [Pz] at he
 |_::_,[],_,_,he=>by simp [Pz] at he
 |c::r,a::as,x,ls,he=>by
  simp only [Pz] at he
  split at he
  ·rename_i h1 h2
   simp only [List.length_cons,uI r as _ _ h2]
  ·cases he
theorem AR {α β:Type} (f:α->Sem β): ∀(l:List α) (vs:List β),vs.length=l.length->(∀(i:Nat) a v,l[i]?=some a->vs[i]?=some v->(f a).run P w= .ok v w)->(l.mapM f).run P w= .ok vs w
 | [],[],_,_=>by simp
 | [],_::_,h,_=>by simp at h
 |_::_,[],h,_=>by simp at h
 |a::l,v::vs,h,hr=>by
  rw [List.mapM_cons]
  simp only [Sem.run_bind,hr 0 a v rfl rfl,Result.andThen_ok,AR f l vs (by simpa using h) (λi a' v' ha hv=>hr (i+1) a' v' (by simpa using ha) (by simpa using hv)),Sem.run_pure]
theorem sm (hT:By P T) (Kn:Gq P Γ) (hm:P.follows .mixedOrders=true) {f:FuncId} {fn:Func} (hf:P.funcs[f]?=some fn) (s:MSpec) (w:World) (S:Nat->Prop) (π:Pi) (us:List Value) (x:Ins.den s.ins)
  (r:CKs.den s.outs) (o:IOs.den s.ins) (g:Nat) (jv:List Value) (Ma:lk s w g us jv) (hSg:s.ptr.isSome=true->S g) (dO:bm w (λb=>Qj π b\/S b) π 0 s.ins x us) (fu:df π (λb=>b<w.heap.size)) (hS: ∀b,S b->b<w.heap.size/\ ¬Qj π b) (RK: ∀l,Ad (Ul 0 s.ins x) l=none->π l=none) (he:ZS T Γ s fn x λz=>z=(r,o)):
  Calls P f jv.toArray w λe w'=> ∃v Rn ρ,e= .returned v/\p7 s w' ρ (Rn.drop s.Vr) v/\iv s π w' g Rn o/\Gg w.heap.size (λb=>Qj π b\/s.gv g b) w w'/\Hm w' (fY S π ρ) π 0 s.ins o/\Ez w' (fY S π ρ) ρ 0 s.outs r Rn/\
   df ρ (λb=>b<w'.heap.size/\(w.heap.size<=b\/ ∃l q,l<Am/\π l=some q/\q.Bg b))/\(∀l,(∀k,k<s.Ph->l≠Fz k)->ρ l=none)/\(∀kj∈s.keeps,yh w w' (π (Bu false kj.1)) (ρ (Fz kj.2)) (s.Cn x)):=by
 obtain ⟨hlen,c,hb,he⟩:=he
 simp only [Bool.and_eq_true,Nat.blt_eq] at hlen
 obtain ⟨hlen,RN⟩:=hlen
 unfold x6 at RN
 simp only [Bool.and_eq_true] at RN
 have Ah0:=RN.1
 let nT:Pi:=Ajc s g π
 let Sg:Nat->Prop:= λb=>S b/\ ¬s.gv g b
 have hvl: ∀b j,j<1000->Bu b j≠Ki:= λb j hj=>by cases b<;>(unfold Bu Ki;simp;omega)
 have wi: ∀b j,0<=j->j<0+s.ins.length->nT (Bu b j)=π (Bu b j):= λb j _ hj=>if_neg λh=>hvl b j (by omega) h.2
 have Aan: ∀b j,0<=j->j<0+s.ins.length->π (Bu b j)=nT (Bu b j):= λb j h1 h2=>(wi b j h1 h2).symm
 have Ad8:Ad (Ul 0 s.ins x) Ki=none:=Classical.byContradiction λhn=>by
  obtain ⟨b,j,_,h2,h3⟩:=q8 s.ins 0 x Ki hn
  exact hvl b j (by omega) h3.symm
 have OV: ∀l q,nT l=some q->(π l=some q/\(s.ptr.isSome=true->l≠Ki))\/(s.ptr.isSome=true/\l=Ki/\q=⟨g,0,0,λb=>b=g,λb=>b=g⟩):= λl q hq=>by
  have hq:(if s.ptr.isSome=true/\l=Ki then some ⟨g,0,0,λb=>b=g,λb=>b=g⟩ else π l)=some q:=hq
  split at hq
  ·rename_i hc;exact .inr ⟨hc.1,hc.2,(Option.some.inj hq).symm⟩
  ·rename_i hc;exact .inl ⟨hq,λh1 h2=>hc ⟨h1,h2⟩⟩
 have aK: ∀b,Qj nT b↔Qj π b\/s.gv g b:= λb=>by
  constructor
  ·rintro ⟨l,q,h1,h2⟩
   rcases OV l q h1 with ⟨h3,_⟩|⟨h3,h4,rfl⟩
   ·exact .inl ⟨l,q,h3,h2⟩
   ·exact .inr ⟨h3,h2⟩
  ·rintro (⟨l,q,h1,h2⟩|⟨h1,rfl⟩)
   ·refine ⟨l,q,?_,h2⟩
    show (if s.ptr.isSome=true/\l=Ki then _ else π l)=some q
    rw [if_neg]
    ·exact h1
    ·rintro ⟨_,rfl⟩
     rw [RK Ki Ad8] at h1;cases h1
   ·exact ⟨Ki,⟨b,0,0,λc=>c=b,λc=>c=b⟩,if_pos ⟨h1,rfl⟩,rfl⟩
 have hgS: ∀b,s.gv g b->S b:= λb ⟨h1,h2⟩=>h2▸hSg h1
 have Ace:bm w (λb=>Qj nT b\/Sg b) nT 0 s.ins x us:=bm.congr s.ins 0 x us wi (bm.En (λb hb=>by
  rcases hb with hb|hb
  ·rcases (aK b).1 hb with hb|hb
   ·exact .inl hb
   ·exact .inr (hgS b hb)
  ·exact .inr hb.1) s.ins 0 x us dO)
 have Ah5:df nT (λb=>b<w.heap.size):=⟨λl q b h1 h2=>by
  rcases OV l q h1 with ⟨h3,_⟩|⟨h3,h4,rfl⟩
  ·exact fu.Vu l q b h3 h2
  ·exact (hS b (hgS b ⟨h3,h2⟩)).1,λl l' q q' b h1 h2 h3 h4=>by
  rcases OV l q h1 with ⟨h5,_⟩|⟨h5,h6,rfl⟩<;>rcases OV l' q' h2 with ⟨h7,_⟩|⟨h7,h8,rfl⟩
  ·exact fu.inj l l' q q' b h5 h7 h3 h4
  ·exact absurd ⟨l,q,h5,h3⟩ (hS b (hgS b ⟨h7,h4⟩)).2
  ·exact absurd ⟨l',q',h7,h4⟩ (hS b (hgS b ⟨h5,h3⟩)).2
  ·rw [h6,h8]⟩
 have Ale: ∀b,Sg b->b<w.heap.size/\ ¬Qj nT b:= λb hb=>⟨(hS b hb.1).1,λho=>((aK b).1 ho).elim (hS b hb.1).2 hb.2⟩
 have JP: ∀l,Ad (nh s x) l=match Ad (Ul 0 s.ins x) l with|some b=>some b|none=>if l=Ki then s.ptr.map λp=> .var p.1 ((Xo 0 s.ins x).take p.2) else none:= λl=>by
  unfold nh
  cases hp:s.ptr with
  |none=>cases Ad (Ul 0 s.ins x) l<;>simp
  |some p=>
   simp only
   rw [nd]
   cases Ad (Ul 0 s.ins x) l with
   |some b=>rfl
   |none=>
    simp only [Ad,Option.map_some]
    by_cases e:l=Ki
    ·rw [if_pos e,if_pos e.symm]
    ·rw [if_neg e,if_neg (λh=>e h.symm)]
 let π0:Pi:= λl=>(nT l).map full
 have un: ∀l q,π0 l=some q-> ∃q0,nT l=some q0/\q=full q0:= λl q hq=>by
  have hq:(nT l).map full=some q:=hq
  cases hp:nT l with
  |none=>rw [hp] at hq;cases hq
  |some q0=>rw [hp] at hq;exact ⟨q0,rfl,(Option.some.inj hq).symm⟩
 have RP: ∀l b,Ad (Ul 0 s.ins x) l=some b->Ad (nh s x) l=some b:= λl b hb=>by rw [JP l,hb]
 have hrc:Io ⟨w,Sg,Qj nT,π0⟩ w π0 (nh s x) (Xo 0 s.ins x) us:=zo (λ_=>rfl) s.ins 0 x us (by omega) Ace RP
 have SL:s.ptr.isSome=true->π0 Ki=some ⟨g,0,0,λb=>b=g,λb=>b=g⟩:= λhp=>by
  show (if s.ptr.isSome=true/\Ki=Ki then _ else π Ki).map full=_
  rw [if_pos ⟨hp,rfl⟩];rfl
 obtain ⟨g1,g2⟩:(Vq s (Xo 0 s.ins x)).length=jv.length/\ ∀(i:Nat) c v,(Vq s (Xo 0 s.ins x))[i]?=some c->jv[i]?=some v->Ao ⟨w,Sg,Qj nT,π0⟩ w π0 (nh s x) c v:=by
  unfold lk at Ma
  cases hp:s.ptr with
  |none=>
   rw [hp] at Ma
   obtain ⟨rfl,CT⟩:=Ma
   obtain ⟨g1,g2,_,_⟩:=aH s.Eh _ us CT hrc
   rw [show Vq s (Xo 0 s.ins x)=Nu s.Eh (Xo 0 s.ins x) by unfold Vq;rw [hp]]
   exact ⟨g1,g2⟩
  |some p=>
   rw [hp] at Ma
   obtain ⟨rfl,CT,_⟩:=Ma
   obtain ⟨g1,g2,_,_⟩:=aH s.Eh _ (us.drop p.2) CT (Io.take p.2 hrc).2
   rw [show Vq s (Xo 0 s.ins x)= .at (.Dt Ki 0)::Nu s.Eh ((Xo 0 s.ins x).drop p.2) by unfold Vq;rw [hp]]
   refine ⟨by simp [g1],λi c v h1 h2=>?_⟩
   rcases i with _|i
   ·simp only [List.getElem?_cons_zero,Option.some.injEq] at h1 h2
    subst h1;subst h2
    exact ⟨_,p.1,(Xo 0 s.ins x).take p.2,by rw [JP,Ad8];simp [hp],SL (by rw [hp];rfl),rfl⟩
   ·exact g2 i c v (by simpa using h1) (by simpa using h2)
 have h0:Rel ⟨w,Sg,Qj nT,π0⟩ {tmps:=Vq s (Xo 0 s.ins x)++List.replicate (fn.ntmps-(Vq s (Xo 0 s.ins x)).length) .undef,heap:=nh s x}
   {tmps:=jv.toArray++Array.replicate (fn.ntmps-jv.toArray.size) undef,defers:= []} w:=by
  refine ⟨π0,⟨Gg.refl _ _ _,λb hb=>Ale b hb,λl q b h1 h2=>?_,λl q b h1 h2=>?_,λl l' q q' b h1 h2 h3 h4=>?_,λl _ _=>Xc.rfl' _,λl=>?_⟩,⟨by simp [g1],rfl,λt=>?_⟩⟩
  ·obtain ⟨q0,_,rfl⟩:=un l q h1;exact h2
  ·obtain ⟨q0,h3,rfl⟩:=un l q h1
   exact ⟨.inr ⟨l,q0,h3,h2⟩,Ah5.Vu l q0 b h3 h2⟩
  ·obtain ⟨q0,h5,rfl⟩:=un l q h1
   obtain ⟨q0',h6,rfl⟩:=un l' q' h2
   exact Ah5.inj l l' q0 q0' b h5 h6 h3 h4
  ·cases hh:Ad (Ul 0 s.ins x) l with
   |none=>
    by_cases hv:s.ptr.isSome=true/\l=Ki
    ·obtain ⟨hps,rfl⟩:=hv
     obtain ⟨p,hp⟩:=Option.isSome_iff_exists.1 hps
     refine Cx.Hc (b:= .var p.1 ((Xo 0 s.ins x).take p.2)) ?_ (by rw [JP,hh];simp [hp])
     unfold lk at Ma
     rw [hp] at Ma
     obtain ⟨_,_,h1,h2,h3⟩:=Ma
     rw [SL hps]
     exact ⟨_,rfl,rfl,_,h2,Io.to (Io.take p.2 hrc).1 h3⟩
    ·refine Cx.Ou ?_ ?_
     ·show (if s.ptr.isSome=true/\l=Ki then _ else π l).map full=none
      rw [if_neg hv,RK l hh];rfl
     ·rw [JP,hh]
      simp only
      split
      ·rename_i e
       cases hp:s.ptr with
       |none=>rfl
       |some p=>exact absurd ⟨by rw [hp];rfl,e⟩ hv
      ·rfl
   |some b=>exact Cx.Hc (iQ (π0:=nT) (λb hb=>by
    rcases hb with ⟨l,q,h1,h2⟩|hb|⟨hb,_⟩
    ·obtain ⟨q0,h3,rfl⟩:=un l q h1;exact .inl ⟨l,q0,h3,h2⟩
    ·exact .inr hb
    ·cases hb) rfl (λ_=>rfl) s.ins 0 x us Ace l b hh) (RP l b hh)
  ·show Ao _ w _ _ ((Vq s (Xo 0 s.ins x)++List.replicate _ AV.undef).getD t .undef) ((jv.toArray++Array.replicate _ undef).getD t undef)
   by_cases ht:t<jv.length
   ·rw [List.getD_eq_getElem?_getD,List.getElem?_append_left (by omega),<-List.getD_eq_getElem?_getD]
    rw [Array.getD_eq_getD_getElem?,Array.getElem?_append_left (by simpa using ht)]
    have:=g2 t _ _ (List.getElem?_eq_getElem (by omega)) (List.getElem?_eq_getElem ht)
    simpa [List.getD_eq_getElem?_getD,List.getElem?_eq_getElem ht,List.getElem?_eq_getElem (show t<(Vq s (Xo 0 s.ins x)).length by omega)] using this
   ·have:(Vq s (Xo 0 s.ins x)++List.replicate (fn.ntmps-(Vq s (Xo 0 s.ins x)).length) AV.undef).getD t .undef= .undef:=by
     rw [List.getD_eq_getElem?_getD,List.getElem?_append_right (by omega)]
     rw [List.getElem?_replicate]
     split<;>rfl
    rw [this];trivial
 have fin: ∀(st:St) (a':Act) (w':World),QC T s fn x st (λz=>z=(r,o))->Rel ⟨w,Sg,Qj nT,π0⟩ st a' w'->Afs P s fn x w S π g r o a' w':=by
  intro st a' w' o3 hrel
  obtain ⟨Yi,h'⟩:=hrel
  have Aau:Am<=Ki:=by unfold Am Ki;omega
  obtain ⟨bc,nb,Anb,hbc⟩: ∃bc,fL T s fn x st bc (λz=>z=(r,o))/\(s.ptr.isSome=true-> ∃b,Ad st.heap Ki=some b/\b.row=none)/\
    (Jz st 0 s.ins=some o-> ∃bv,Io ⟨w,Sg,Qj nT,π0⟩ w' Yi st.heap bc bv/\bv.length=s.Vr/\ ∀tl,iv s π w' g (bv++tl) o):=by
   unfold QC at o3
   cases hp:s.ptr with
   |none=>
    rw [hp] at o3
    exact ⟨[],o3,λh=>by simp at h,λ_=>⟨[],trivial,by simp [MSpec.Vr,hp],λtl=>by simp [iv,hp]⟩⟩
   |some p=>
    rw [hp] at o3
    obtain ⟨vs,cs,h1,h2,h3,h4,h5⟩:=o3
    unfold St.at at h1
    refine ⟨cs,h5,λ_=>⟨_,h1,rfl⟩,λwb=>?_⟩
    obtain ⟨q,k1,k2,cur,k3,k4⟩:=(h'.1.heap Ki).Md h1
    have hsv:Xc (π0 Ki) (Yi Ki):=h'.1.db Ki Aau (by rw [h1];simp)
    rw [SL (by rw [hp];rfl),k1] at hsv
    have hqg:g=q.g:=hsv.1
    obtain ⟨bv,g1,g2,g3⟩:=Tt (π0:=nT) (λk hk=>h'.1.db _ (Nat.le_of_not_lt (Wp k)) hk) s.ins 0 vs cur.toList cs o (Io.of k4) h3 h4 wb
    refine ⟨bv,g1,by rw [g2,h2];simp [MSpec.Vr,hp],λtl=>?_⟩
    unfold iv
    rw [hp]
    refine ⟨cur.toList,by rw [hqg];simpa using k3,λu hu=>?_,Ce.congr s.ins 0 o p.2 _ _ Aan (h2▸g3 tl)⟩
    obtain ⟨i,hi,rfl⟩:=List.mem_iff_getElem.1 hu
    have hl:=k4.1
    obtain ⟨u',h6,h7,_⟩:=k4.2 i (vs[i]'(by omega)) (List.getElem?_eq_getElem _)
    rw [List.getElem?_eq_getElem hi] at h6
    rw [Option.some.inj h6];exact h7
  unfold fL at nb
  split at nb
  ·exact nb.elim
  rename_i l hl
  split at nb
  ·exact nb.elim
  rename_i as ml cX
  split at nb
  rotate_left
  ·exact nb.elim
  rename_i r' ls o' EG mZ
  obtain ⟨Fk,uj,SD⟩:=nb
  simp only [Bool.and_eq_true,Nat.blt_eq] at Fk
  obtain ⟨⟨⟨JS,Aqy⟩,Apa⟩,Agv⟩:=Fk
  simp only [Prod.mk.injEq] at SD
  obtain ⟨rfl,rfl⟩:=SD
  obtain ⟨bv,hbv,Alq,Alo⟩:=hbc mZ
  have EE:=Sw JS
  obtain ⟨n1,n2,n3⟩:=List.nodup_append.1 EE
  obtain ⟨m1,m2,m3⟩:=List.nodup_append.1 n1
  obtain ⟨vs,v1,v2,v3,v4⟩:=Sy hT h' _ _ hl
  have YC:fn.results=fn.results.toList.toArray:=Array.toArray_toList.symm
  have Qh: ∀v,(if h:vs.toArray.size=1 then vs.toArray[0] else .tuple vs.toArray)=v->(results fn a'.tmps).run P w'= .ok v w':=by
   intro v hv
   rw [bX,YC,List.mapM_toArray]
   simp only [map_eq_pure_bind,bind_assoc,pure_bind]
   simp only [Sem.run_bind,AR (GQ a'.tmps) _ vs v1 v3,Result.andThen_ok,Sem.run_pure]
   rw [hv]
  obtain ⟨tA,v,qm,An8,hv,hqm⟩: ∃tA v qm,Io ⟨w,Sg,Qj nT,π0⟩ w' Yi st.heap as tA/\(results fn a'.tmps).run P w'= .ok v w'/\
    ((s.rp=none/\ml= []/\qm=none/\UK s.Ct s.Di tA v/\Zk s.Di tA)\/
     ∃tid m q,s.rp=some tid/\ml= [m]/\m<Am/\qm=some q/\Yi m=some q/\q.Bg q.g/\w'.heap[q.g]?=some (.cells tA.toArray tid (0,0))/\(∀u∈tA,u.oneCell'=true)/\v= .pointer (some ⟨q.g,0,none⟩)):=by
   unfold GP at cX
   split at cX
   ·rename_i CS
    split at cX
    rotate_left
    ·cases cX
    rename_i hmul
    cases lj:ungroup s.Di l with
    |none=>rw [lj] at cX;cases cX
    |some as'=>
     rw [lj] at cX
     simp only [Option.map_some,Option.some.injEq,Prod.mk.injEq] at cX
     obtain ⟨rfl,rfl⟩:=cX
     obtain ⟨tA,e1,e2,e3⟩:=Uw s.Di l vs as' (by omega) v4 lj
     have hv: ∃v,(results fn a'.tmps).run P w'= .ok v w'/\UK s.Ct s.Di tA v:=by
      unfold UK
      rw [<-e1,hmul]
      rcases Nat.lt_or_ge 1 l.length with h1|h1
      ·have RG:Nat.blt 1 l.length=true:=by simpa using h1
       simp only [RG,if_true]
       refine ⟨.tuple vs.toArray,Qh _ ?_,rfl⟩
       rw [dif_neg (by simp;omega)]
      ·have RG:Nat.blt 1 l.length=false:=by rw [<-Bool.not_eq_true];simpa using h1
       simp only [RG,Bool.false_eq_true,if_false]
       rcases vs with _|⟨v,_|⟨v',vs⟩⟩
       ·exact ⟨_,Qh _ (by simp;rfl), .inr rfl⟩
       ·exact ⟨v,Qh _ (by simp), .inl rfl⟩
       ·exfalso;simp only [List.length_cons] at v1;omega
     obtain ⟨v,hv1,hv2⟩:=hv
     exact ⟨tA,v,none,e3,hv1, .inl ⟨CS,rfl,rfl,hv2,e2⟩⟩
   ·rename_i tid CS
    split at cX
    rotate_left
    ·cases cX
    rename_i m i
    split at cX
    rotate_left
    ·cases cX
    rename_i Po vs' hm
    split at cX
    rotate_left
    ·cases cX
    rename_i hc
    obtain ⟨rfl,rfl,WU⟩:=hc
    simp only [Option.some.injEq,Prod.mk.injEq] at cX
    obtain ⟨rfl,rfl⟩:=cX
    unfold St.at at hm
    rcases vs with _|⟨v,_|⟨v',vs⟩⟩
    ·exfalso;simp only [List.length_cons,List.length_nil] at v1 v2;omega
    ·obtain ⟨q,At5,vs2,q1,q2,q3⟩:=v4 0 _ v rfl rfl
     rw [hm] at q1;cases q1
     obtain ⟨q',k1,k2,cur,k3,k4⟩:=(h'.1.heap m).Md hm
     rw [q2] at k1;cases k1
     refine ⟨cur.toList,v,some q,Io.of k4,Qh _ (by simp), .inr ⟨_,m,q,CS,rfl,by simpa using WU,rfl,q2,k2,by simpa using k3,λu hu=>?_,q3⟩⟩
     obtain ⟨i,hi,rfl⟩:=List.mem_iff_getElem.1 hu
     have hl:=k4.1
     obtain ⟨u',h6,h7,_⟩:=k4.2 i (vs'[i]'(by omega)) (List.getElem?_eq_getElem _)
     rw [List.getElem?_eq_getElem hi] at h6
     rw [Option.some.inj h6];exact h7
    ·exfalso;simp only [List.length_cons,List.length_nil] at v1 v2;omega
  obtain ⟨yf,p1,p2,p3,p4,p5⟩:=uJ h'.1 s.outs 0 (bc++as) (bv++tA) r' ls (hbv.append An8) EG m2
  obtain ⟨io1,io2⟩:=Pb (π0:=nT) h'.1 (λ_=>rfl) s.ins 0 x us o' Ace mZ
  have Agi:(bv++tA).drop s.Vr=tA:=by rw [<-Alq];simp
  let ρ:Pi:= λl0=>if l0=Fz s.outs.length then qm else yf l0
  have Ade:ρ (Fz s.outs.length)=qm:=if_pos rfl
  have Ahz: ∀l0,l0≠Fz s.outs.length->ρ l0=yf l0:= λl0 h=>if_neg h
  have Ahy: ∀j,j<s.outs.length->ρ (Fz j)=yf (Fz j):= λj hj=>Ahz _ (by unfold Fz;omega)
  have rY: ∀l0 q,ρ l0=some q->(l0=Fz s.outs.length/\qm=some q)\/(l0≠Fz s.outs.length/\yf l0=some q):= λl0 q h=>by
   by_cases e:l0=Fz s.outs.length
   ·subst e;rw [Ade] at h;exact .inl ⟨rfl,h⟩
   ·rw [Ahz l0 e] at h;exact .inr ⟨e,h⟩
  have Aha: ∀q,qm=some q-> ∃m,ml= [m]/\m<Am/\Yi m=some q:= λq hq=>by
   rcases hqm with ⟨_,_,h1,_⟩|⟨_,m,q',_,h1,h2,h3,h4,_⟩
   ·rw [h1] at hq;cases hq
   ·rw [h3] at hq;cases hq;exact ⟨m,h1,h2,h4⟩
  have p3': ∀l0 q b,ρ l0=some q->q.Bg b-> ∃l1∈ml++ls,∃p,Yi l1=some p/\p.cl b/\((s.outs.all λc=>!c.isX)=true->p.Bg b)/\((l1∈ls)\/l1<Am):= λl0 q b h1 h2=>by
   rcases rY l0 q h1 with ⟨_,h3⟩|⟨_,h3⟩
   ·obtain ⟨m,e1,e2,e3⟩:=Aha q h3
    exact ⟨m,by rw [e1];simp,q,e3,h'.1.sub m q b e3 h2,λ_=>h2, .inr e2⟩
   ·obtain ⟨l1,g1,p,g2,g3,g4⟩:=p3 l0 q b h3 h2
    exact ⟨l1,List.mem_append_right _ g1,p,g2,g3,g4, .inl g1⟩
  have p4': ∀l0 l1 q q' b,ρ l0=some q->ρ l1=some q'->q.Bg b->q'.Bg b->l0=l1:= λl0 l1 q q' b h1 h2 h3 h4=>by
   have yJ: ∀l0 q q' b,yf l0=some q->qm=some q'->q.Bg b->q'.Bg b->False:= λl0 q q' b h1 h2 h3 h4=>by
    obtain ⟨m,e1,e2,e3⟩:=Aha q' h2
    obtain ⟨l1,g1,p,g2,g3,_⟩:=p3 l0 q b h1 h3
    have:=h'.1.inj m l1 q' p b e3 g2 (h'.1.sub m q' b e3 h4) g3
    exact m3 m (by rw [e1];simp) l1 g1 this
   rcases rY l0 q h1 with ⟨e1,h5⟩|⟨e1,h5⟩<;>rcases rY l1 q' h2 with ⟨e2,h6⟩|⟨e2,h6⟩
   ·rw [e1,e2]
   ·exact (yJ l1 q' q b h6 h5 h4 h3).elim
   ·exact (yJ l0 q q' b h5 h6 h3 h4).elim
   ·exact p4 l0 l1 q q' b h5 h6 h3 h4
  have JW: ∀l0 q,Am<=l0->nT l0=some q->Ad st.heap l0≠none/\(l0∈La 0 s.ins\/ ∃b,Ad st.heap l0=some b/\b.row=none):= λl0 q h1 h2=>by
   rcases OV l0 q h2 with ⟨h3,_⟩|⟨h3,rfl,_⟩
   ·have wb:=uv s.ins 0 x l0 Ah0 (by omega) (λhnn=>by rw [RK l0 hnn] at h3;cases h3) (by omega)
    exact ⟨io2 l0 wb, .inl wb⟩
   ·obtain ⟨b,h4,h5⟩:=Anb h3
    exact ⟨by rw [h4];simp, .inr ⟨b,h4,h5⟩⟩
  have hDO:(s.outs.all λc=>!c.isX)=true-> ∀b,fY Sg nT ρ b->Qj Yi b\/Sg b:=by
   intro hx b hb
   rcases hb with hb|⟨l0,q,h1,h2,h3⟩|⟨l0,q,h1,h2⟩
   ·exact .inr hb
   ·have hs:=h'.1.db l0 h1 (JW l0 q h1 h2).1
    have hs:Xc ((nT l0).map full) (Yi l0):=hs
    rw [h2] at hs
    cases uk:Yi l0 with
    |none=>rw [uk] at hs;exact hs.elim
    |some q1=>rw [uk] at hs;exact .inl ⟨l0,q1,uk,(hs.2.2.2 b).1 h3⟩
   ·obtain ⟨m,_,p,hm2,_,hm4,_⟩:=p3' l0 q b h1 h2
    exact .inl ⟨m,p,hm2,hm4 hx⟩
  have hDD: ∀b,fY S π ρ b->fY Sg nT ρ b:= λb hb=>by
   rcases hb with hb|⟨l0,q,h1,h2,h3⟩|hb
   ·by_cases uh:s.gv g b
    ·obtain ⟨hps,rfl⟩:=uh
     exact .inr (.inl ⟨Ki,_,Aau,if_pos ⟨hps,rfl⟩,rfl⟩)
    ·exact .inl ⟨hb,uh⟩
   ·refine .inr (.inl ⟨l0,q,h1,?_,h3⟩)
    show (if s.ptr.isSome=true/\l0=Ki then _ else π l0)=some q
    rw [if_neg]
    ·exact h2
    ·rintro ⟨_,rfl⟩
     rw [RK Ki Ad8] at h2;cases h2
   ·exact .inr (.inr hb)
  have PT:s.flat=true\/(s.outs.all λc=>!c.isX)=true:=by unfold MSpec.TL at Agv;simpa only [Bool.or_eq_true] using Agv
  have io1:Hm w' (fY S π ρ) π 0 s.ins o':=by
   refine Hm.congr s.ins 0 o' Aan ?_
   rcases PT with hf|hf
   ·unfold MSpec.flat at hf
    simp only [Bool.and_eq_true] at hf
    exact Hm.any s.ins 0 o' hf.2 io1
   ·exact Hm.En (λb hb=>hDO hf b (hDD b hb)) s.ins 0 o' io1
  have p1:Ez w' (fY S π ρ) ρ 0 s.outs r' (bv++tA):=by
   have p1:Ez w' (λb=>Qj Yi b\/Sg b) ρ 0 s.outs r' (bv++tA):=Ez.QW s.outs 0 r' _ (λj _ hj=>Ahy j (by omega)) p1
   rcases PT with hf|hf
   ·unfold MSpec.flat at hf
    simp only [Bool.and_eq_true] at hf
    exact Ez.any s.outs 0 r' (bv++tA) hf.1 p1
   ·exact Ez.En (λb hb=>hDO hf b (hDD b hb)) s.outs 0 r' (bv++tA) p1
  refine ⟨v,bv++tA,ρ,h'.2.defers,hv,?_,Alo tA,⟨h'.1.below.os,h'.1.below.tape,h'.1.below.output,h'.1.below.size,λk hk hn=>h'.1.below.block k hk λho=>hn ((aK k).1 ho)⟩,io1,p1,⟨λl0 q b h1 h2=>?_,p4'⟩,λl0 hl0=>?_,λkj PV=>?_⟩
  ·rw [Agi]
   unfold p7
   rcases hqm with ⟨h1,_,_,h2⟩|⟨tid,m,q,h1,_,_,h3,_,h4,h5,h6,h7⟩
   ·rw [h1];exact h2
   ·rw [h1];exact ⟨q,by rw [Ade,h3],h4,h5,h6,h7⟩
  ·obtain ⟨m,hm1,p,hm2,hm3,_,hm4⟩:=p3' l0 q b h1 h2
   obtain ⟨k1,k2⟩:=h'.1.place m p b hm2 hm3
   refine ⟨k2,k1.imp id λ⟨c0,q0,h5,h6⟩=>?_⟩
   have Ey:c0<Am:=Classical.byContradiction λhn=>by
    obtain ⟨Ek,wb⟩:=JW c0 q0 (by omega) h5
    have hs:=h'.1.db c0 (by omega) Ek
    have hs:Xc ((nT c0).map full) (Yi c0):=hs
    rw [h5] at hs
    cases uk:Yi c0 with
    |none=>rw [uk] at hs;exact hs.elim
    |some q1=>
     rw [uk] at hs
     have hf1:q1.Bg b:=(hs.2.2.2 b).1 h6
     have:=h'.1.inj c0 m q1 p b uk hm2 (h'.1.sub c0 q1 b uk hf1) hm3
     subst this
     rcases hm4 with hm4|hm4
     ·rcases wb with wb|⟨b1,RG,hb2⟩
      ·exact n3 c0 hm1 c0 wb rfl
      ·obtain ⟨b2,hb3,hb4⟩:=qA s.outs _ _ _ EG c0 hm4
       rw [RG] at hb3;cases hb3
       exact hb4 hb2
     ·exact hn hm4
   refine ⟨c0,q0,Ey,?_,h6⟩
   rcases OV c0 q0 h5 with ⟨h7,_⟩|⟨_,h7,_⟩
   ·exact h7
   ·omega
  ·cases hp:ρ l0 with
   |none=>rfl
   |some q=>
    rcases rY l0 q hp with ⟨e,h3⟩|⟨_,h3⟩
    ·refine absurd e (hl0 _ ?_)
     rcases hqm with ⟨_,_,h4,_⟩|⟨tid,m,q',h4,_⟩
     ·rw [h4] at h3;cases h3
     ·unfold MSpec.Ph;rw [h4];simp
    ·obtain ⟨j,_,j2,j3⟩:=p2 l0 q h3
     exact absurd j3 (hl0 j (by unfold MSpec.Ph;omega))
  ·obtain ⟨l0,off,len,e,te,rows,out,p,q1,q2,q3,q4,q5⟩:=uy uj kj PV
   have hj:kj.2<s.outs.length:=by
    rw [<-uI s.outs _ _ _ EG]
    exact (List.getElem?_eq_some_iff.1 q1).1
   have e1:=p5 kj.2 l0 off len e te rows out (some p) q1 q2
   rw [Nat.zero_add] at e1
   rw [Ahy _ hj,e1]
   have hk:=((h'.1.heap l0).Md q2).2
   obtain ⟨l1,n1⟩:=p
   simp only [KeptAt] at hk
   dsimp only at q3 q4
   subst q3
   have MD:π0 (Bu false kj.1)=(π (Bu false kj.1)).map full:=by
    show (if s.ptr.isSome=true/\Bu false kj.1=Ki then _ else π (Bu false kj.1)).map full=_
    rw [if_neg λh=>hvl false kj.1 q5 h.2]
   rw [MD] at hk
   unfold yh
   cases hp:π (Bu false kj.1) with
   |none=>
    rw [hp] at hk
    cases uk:Yi l0 with
    |none=>trivial
    |some q=>rw [uk] at hk;exact hk.elim
   |some q0=>
    rw [hp] at hk
    cases uk:Yi l0 with
    |none=>rw [uk] at hk;exact hk.elim
    |some q=>
     rw [uk] at hk
     obtain ⟨k1,k2,k3,k4⟩:=hk
     exact ⟨k1,k2,k3,λj hj hc=>k4 j (by omega) hc⟩
 refine calls_of_wp hf hb ?_
 refine (qT hT Kn hm he _ w _ h0 λe st a' w' ⟨Ek,o3⟩ h'=>?_).1
 obtain ⟨v,Rn,ρ,p1,p2,p3⟩:=fin st a' w' o3 h'
 cases e with
 |normal=>exact ⟨p1,v,p2,v,Rn,ρ,rfl,p3⟩
 |ret=>exact ⟨p1,v,p2,v,Rn,ρ,rfl,p3⟩
 |exit id=>exact absurd rfl (Ek id)
end
end Go.Proofs.YtfolipnappekaaaGreat
