/-
  Part 27 of the proof that the statement FnExactInSubgroup holds.
-/
import Derived.Test.YtjbdmibbbpdnnaaCInSubgroup25
namespace Go.Proofs.Ytjbdmibbbpdnnaa
open Go.RowKit
section
variable {P:Program} {T:Tab} {Γ:Env} {X:Ctx} {w w':World} {π:Pi} {H:List (Nat×OB)}
theorem kR: ∀(cs:List (Bool×CK)) (k:Nat) (x:Ins.den cs) (l:Nat),Ad (Qq k cs x) l≠none-> ∃b j,k<=j/\j<k+cs.length/\l=Bm b j
 | [],_,_,_,h=>absurd rfl h
 |p::r,k,x,l,h=>by
  simp only [Qq] at h
  by_cases e:l=Bm p.1 k
  ·exact ⟨p.1,k,Nat.le_refl _,by simp,e⟩
  ·have:Ad (Qq (k+1) r x.2) l≠none:=by
    cases hc:cz (Bm p.1 k) p.2 x.1 with
    |none=>rw [hc] at h;exact h
    |some b=>rw [hc] at h;simpa only [aE,Ad,if_neg (Ne.symm e)] using h
   obtain ⟨b,j,h1,h2,h3⟩:=kR r (k+1) x.2 l this
   exact ⟨b,j,by omega,by simp;omega,h3⟩
theorem yD {p:Bool×CK} {r:List (Bool×CK)} {k:Nat} {x:Ins.den (p::r)} (hk:k+(r.length+1)<100000) {l:Nat} {b:OB} (h:Ad (Qq (k+1) r x.2) l=some b):Ad (Qq k (p::r) x) l=some b:=by
 obtain ⟨b',j,h1,h2,rfl⟩:=kR r (k+1) x.2 l (by rw [h];simp)
 simp only [Qq]
 cases cz (Bm p.1 k) p.2 x.1 with
 |none=>exact h
 |some c=>simp only [aE,Ad];rw [if_neg (xO (by omega) (by omega) (by omega))];exact h
theorem AO {D:Nat->Prop} (hD: ∀b,Ay X.w0.heap.size X.Sc π false b->D b) (MB:X.w0=w) {l:Nat} {r:Option Real} (Wk:X.bk l=r.map full) {u:Value} {c:CK} {x:c.den} (h:Xh w D r u c x) {b:OB} (hb:cz l c x=some b):Ao X w π H (r.map full) b:=by
 have Qn: ∀ {e:Ty} {es:List Value} {y:e.den},Cells w D e es y->Cells w (Ay X.w0.heap.size X.Sc π false) e es y:= λ {e es y} h=>Cells.Cj (Nat.le_refl _) (λ_ _ _=>rfl) (λb _ hb=>hD b hb) e es y h
 cases c with
 |Gh τ=>cases hb
 |row e te=>
  simp only [cz,Option.some.injEq] at hb;subst hb
  obtain ⟨_,h⟩:=h
  simp only [Zj] at h
  simp only [Ao,Ew]
  cases r with
  |none=>exact h
  |some q=>
   obtain ⟨k1,cu,ti,k2,k3,k4,k5,k6⟩:=h
   exact ⟨⟨k1.1,k1.2,λh=>by cases h⟩,cu,ti,k2,k3,k4,k5,λi y hy=>by
    obtain ⟨es,g1,g2,g3⟩:=k6 i y hy
    exact ⟨es,g1,g2,Qn g3⟩,λh=>by cases h⟩
 |Dh e te=>
  simp only [cz,Option.some.injEq] at hb;subst hb
  cases r<;>exact h.2
 |part e te=>
  simp only [cz,Option.some.injEq] at hb;subst hb
  obtain ⟨_,hf,h⟩:=h
  simp only [Ao,Ew]
  cases r with
  |none=>exact h
  |some q=>
   obtain ⟨k1,cu,ti,k2,k3,k4,k5,k6⟩:=h
   exact ⟨⟨k1.1,k1.2,λh=>by cases h⟩,cu,ti,k2,k3,k4,k5,λi y hy=>by
    obtain ⟨es,g1,g2,g3⟩:=k6 i y hy
    exact ⟨es,g1,g2,Qn g3⟩,λh=>by cases h⟩
 |Ai e te kp=>
  simp only [cz,Option.some.injEq] at hb;subst hb
  have h2:Rh w D r e x none:=h.2
  have h3:=Rh.Ek h2 hD
  refine ⟨by cases r<;>exact h3,?_⟩
  cases kp with
  |false=>trivial
  |true=>
   simp only [if_true,KeptAt]
   rw [Wk]
   cases r with
   |none=>trivial
   |some q=>exact ⟨rfl,rfl,rfl,λj _ _=>by rw [MB]⟩
theorem dU {D:Nat->Prop} (hD: ∀b,Ay X.w0.heap.size X.Sc π false b->D b) (MB:X.w0=w) {π0:Pi} (Wk: ∀l,X.bk l=(π0 l).map full): ∀(cs:List (Bool×CK)) (k:Nat) (x:Ins.den cs) (us:List Value),Xi w D π0 k cs x us-> ∀l b,Ad (Qq k cs x) l=some b->Ao X w π H ((π0 l).map full) b
 | [],_,_,_,_,_,_,h=>by cases h
 |_::_,_,_,[],h,_,_,_=>h.elim
 |p::r,k,x,u::us,h,l,b,hb=>by
  simp only [Qq] at hb
  cases hc:cz (Bm p.1 k) p.2 x.1 with
  |none=>rw [hc] at hb;exact dU hD MB Wk r (k+1) x.2 us h.2 l b hb
  |some c=>
   rw [hc] at hb
   simp only [aE,Ad] at hb
   split at hb
   ·rename_i e;subst e
    simp only [Option.some.injEq] at hb;subst hb
    exact AO hD MB (Wk _) h.1 hc
   ·exact dU hD MB Wk r (k+1) x.2 us h.2 l b hb
theorem sC {S:Nat->Prop} {π0:Pi} {gv:Nat->Prop} {bk:Pi} (Wj: ∀l,π l=(π0 l).map full): ∀(cs:List (Bool×CK)) (k:Nat) (x:Ins.den cs) (us:List Value),k+cs.length<100000->Xi w (λb=>Nf π0 b\/S b) π0 k cs x us->(∀l b,Ad (Qq k cs x) l=some b->Ad H l=some b)->
  He ⟨w,S,gv,bk⟩ w π H (Tk k cs x) us
 | [],_,_,[],_,_,_=>trivial
 | [],_,_,_::_,_,h,_=>h.elim
 |_::_,_,_,[],_,h,_=>h.elim
 |p::r,k,x,u::us,hk,h,hH=>by
  simp only [List.length_cons] at hk
  refine ⟨?_,sC Wj r (k+1) x.2 us (by omega) h.2 λl b hb=>hH l b (yD hk hb)⟩
  have h1:=h.1
  have hh: ∀b,cz (Bm p.1 k) p.2 x.1=some b->Ad H (Bm p.1 k)=some b:= λb hb=>hH _ b (by simp only [Qq];rw [hb];simp [aE,Ad])
  have cQ:=Wj (Bm p.1 k)
  obtain ⟨io,c⟩:=p
  dsimp only at h1 hh cQ⊢
  generalize x.1=y at*
  cases c with
  |Gh τ=>
   show Aw w _ τ u y
   cases hf:τ.flat with
   |true=>exact Aw.flat hf h1.2
   |false=>
    refine h1.2.Ek λb _ hb=>?_
    rcases hb with ⟨l,q,h3,h4⟩|hb|⟨hb,_⟩
    ·rw [Wj l] at h3
     cases hp:π0 l with
     |none=>rw [hp] at h3;cases h3
     |some q0=>rw [hp] at h3;simp only [Option.map_some,Option.some.injEq] at h3;subst h3;exact .inl ⟨l,q0,hp,h4⟩
    ·exact .inr hb
    ·cases hb
  |row e te=>exact ⟨_,e.size,List.length y,hh _ rfl,rfl,by simp,by rw [cQ];exact Qu h1.1⟩
  |Dh e te=>exact ⟨_,e.size,List.length y,hh _ rfl,rfl,by simp,by rw [cQ];exact Qu h1.1⟩
  |part e te=>exact ⟨_,e.size,List.length y.1,hh _ rfl,rfl,h1.1.2,by rw [cQ];exact Qu h1.1.1⟩
  |Ai e te kp=>exact ⟨_,1,List.length y,hh _ rfl,rfl,by simp,by rw [cQ];exact Qu h1.1⟩
theorem gQ {p:Real} {s off len:Nat} {u:Value} {f:Nat->Prop} (h:Di (some p) s off len u):Di (some ⟨p.g,p.o+off,p.cap-off,f,f⟩) s 0 len u:=by
 obtain ⟨ad,h1,h2,h3⟩:=h
 exact ⟨ad,h1,by dsimp only;omega,λh0=>by dsimp only at h0;simpa using h3 (by omega)⟩
theorem lp {α:Type} {xs:List α} {off len i:Nat} {x:α} (h:((xs.drop off).take len)[i]?=some x):xs[off+i]?=some x:=by
 rw [List.getElem?_take] at h
 split at h
 ·rw [List.getElem?_drop] at h;exact h
 ·cases h
theorem Ol.part {P:Nat->Prop} {g o:Nat} {cur:Array Value} {e:Ty} {xs:List e.den} (off len:Nat) (h:Ol w P g o cur e xs):Ol w P g (o+off) cur e ((xs.drop off).take len):=by
 obtain ⟨Fs,t1,t2,t3,t4⟩:=h
 refine ⟨(Fs.drop off).take len,by simp [t1],List.nodup_cons.2 ⟨λhm=>(List.nodup_cons.1 t2).1 (Kt off len _ hm),e8 off len (List.nodup_cons.1 t2).2⟩,λb hb=>t3 b (Kt off len b hb),λi x F hx hF=>?_⟩
 obtain ⟨es,k1,k2,k3⟩:=t4 (off+i) x F (lp hx) (lp hF)
 exact ⟨es,k1,λj u hu=>by rw [Nat.add_assoc o off i];exact k2 j u hu,k3⟩
theorem yT {st:St} (h:Hb X w π st.heap) {c:CK} (hg: ∀e te kp,c≠ .Ai e te kp) {a:AC} {u:Value} (hu:Dk X w π st.heap a u) {x:c.den} {ls:List Nat} (he:cC st c a=some (x,ls)):
  ∃r,Xh w (λb=>Nf π b\/X.Sc b) r u c x/\ ∀q,r=some q-> ∃l p,ls= [l]/\π l=some p/\(∀b,q.Ar b->p.cl b)/\(c.JP=false-> ∀b,q.Ar b->p.Ar b):=by
 have AW: ∀ {f:Bool} (b:Nat),(Nf π b\/X.Sc b)->Ay X.w0.heap.size X.Sc π f b:= λb h=>h.imp id .inl
 cases c with
 |Gh τ=>
  simp only [cC] at he
  split at he
  ·rename_i hf
   cases hv:Bh st τ a with
   |none=>rw [hv] at he;cases he
   |some p=>
    obtain ⟨fr,y⟩:=p
    rw [hv] at he
    simp only [Option.map_some,Option.some.injEq,Prod.mk.injEq] at he
    obtain ⟨rfl,rfl⟩:=he
    refine ⟨none,⟨rfl,?_⟩,λq hq=>by cases hq⟩
    have Ek: ∀f,Aw w (Ay X.w0.heap.size X.Sc π f) τ u y->Aw w (λb=>Nf π b\/X.Sc b) τ u y:= λf hr=>hr.Ek λk _ hk=>AW k hk
    cases a with
    |data f Ie z=>
     rw [Hr] at hv
     split at hv
     ·rename_i ht;subst ht
      simp only [Option.some.injEq,Prod.mk.injEq] at hv
      obtain ⟨_,rfl⟩:=hv
      exact Ek f hu
     ·have Qy:τ.Ab=false:=by unfold aG at hv;split at hv<;>first|rfl|cases hv
      exact Ek _ ⟨[u],Ve hv hu,by simp [Am,Qy]⟩
    |Gw=>
     have hu:u= .slice none 0 0:=hu
     subst hu
     cases τ<;>simp only [Bh,Option.some.injEq,Prod.mk.injEq,reduceCtorEq] at hv
     ·obtain ⟨_,rfl⟩:=hv;exact ⟨[_],⟨none,0,0,rfl,rfl,Nat.le_refl _, .inl rfl⟩,rfl⟩
     ·obtain ⟨_,rfl⟩:=hv;exact ⟨[_], .inl ⟨rfl,0,rfl⟩,rfl⟩
    |Pf=>
     have hu:u= .pointer none:=hu
     subst hu
     cases τ<;>simp only [Bh,Option.some.injEq,Prod.mk.injEq,reduceCtorEq] at hv
     obtain ⟨_,rfl⟩:=hv;exact ⟨[_], .inl ⟨rfl,rfl⟩,rfl⟩
    |_=>cases τ<;>simp [AC.settled,Ty.flat,Bh] at hf hv
  ·cases he
 |row e te=>
  cases a<;>simp only [cC] at he<;>try (cases he;done)
  ·simp only [Option.some.injEq,Prod.mk.injEq] at he
   obtain ⟨rfl,rfl⟩:=he
   have hu:u= .slice none 0 0:=hu
   exact ⟨none,⟨⟨hu,rfl,rfl⟩,rfl⟩,λq hq=>by cases hq⟩
  ·rename_i l off len
   split at he
   ·rename_i fr tr e' Kd xs hl
    split at he
    ·rename_i hc
     obtain ⟨rfl,rfl⟩:=hc
     simp only [Option.some.injEq,Prod.mk.injEq] at he
     obtain ⟨rfl,rfl⟩:=he
     unfold St.at at hl
     obtain ⟨h1,h2⟩:=Ij hu hl
     have hb:=(h.heap l).La hl
     simp only [Ao,Ew] at hb
     have hlen:((xs.drop off).take len).length=len:=by simp;omega
     cases hp:π l with
     |none=>
      rw [hp] at h2 hb
      obtain ⟨rfl,rfl,rfl⟩:=h2
      exact ⟨none,⟨⟨rfl,rfl,by simp⟩,by show (xs.drop 0).take 0= [];simp⟩,λq hq=>by cases hq⟩
     |some p=>
      rw [hp] at h2 hb
      obtain ⟨k1,cur,ti,k2,k3,k4,k5,k6,_⟩:=hb
      have ho:=h2
      obtain ⟨ad,_,kK,_⟩:=h2
      refine ⟨some ⟨p.g,p.o+off,p.cap-off,p.Ar,p.Ar⟩,⟨by rw [hlen];exact gQ ho,⟨k1.1,k1.2.1⟩,cur,ti,k2,by rw [k3];congr 1;dsimp only;omega,by dsimp only;omega,by rw [hlen];dsimp only;omega,λi y hy=>?_⟩,
       fun q hq=>by cases hq;exact ⟨l,p,rfl,hp,λb hb=>h.sub l p b hp hb,λ_ b hb=>hb⟩⟩
      obtain ⟨es,g1,g2,g3⟩:=k6 (off+i) y (lp hy)
      exact ⟨es,g1,λj u hu=>by dsimp only;rw [Nat.add_assoc p.o off i];exact g2 j u hu,Cells.Cj (Nat.le_refl _) (λ_ _ _=>rfl) (λb _ hb=>AW b hb) e' es y g3⟩
    ·cases he
   ·cases he
 |Dh e te=>
  cases a<;>simp only [cC] at he<;>try (cases he;done)
  ·simp only [Option.some.injEq,Prod.mk.injEq] at he
   obtain ⟨rfl,rfl⟩:=he
   have hu:u= .slice none 0 0:=hu
   exact ⟨none,⟨⟨hu,rfl,rfl⟩,rfl⟩,λq hq=>by cases hq⟩
  ·rename_i l off len
   split at he
   ·rename_i fr tr e' Kd xs hl
    split at he
    ·rename_i hc
     obtain ⟨rfl,rfl,hf⟩:=hc
     simp only [Option.some.injEq,Prod.mk.injEq] at he
     obtain ⟨rfl,rfl⟩:=he
     unfold St.at at hl
     obtain ⟨h1,h2⟩:=Ij hu hl
     have hb:=(h.heap l).La hl
     simp only [Ao,Ew] at hb
     have hlen:((xs.drop off).take len).length=len:=by simp;omega
     cases hp:π l with
     |none=>
      rw [hp] at h2 hb
      obtain ⟨rfl,rfl,rfl⟩:=h2
      exact ⟨none,⟨⟨rfl,rfl,by simp⟩,by show (xs.drop 0).take 0= [];simp⟩,λq hq=>by cases hq⟩
     |some p=>
      rw [hp] at h2 hb
      obtain ⟨k1,cur,ti,k2,k3,k4,k5,k6,k7⟩:=hb
      have ho:=h2
      obtain ⟨ad,_,kK,_⟩:=h2
      have ht:Ol w p.cl p.g p.o cur e' xs:=by
       simp only [Bool.or_eq_true] at hf
       rcases hf with hf|hf
       ·exact k7 hf
       ·exact eV hf k6
      exact ⟨some ⟨p.g,p.o+off,p.cap-off,p.cl,p.cl⟩,⟨by rw [hlen];exact gQ ho,h.sub l p _ hp k1.1,cur,ti,k2,by rw [k3];congr 1;dsimp only;omega,by dsimp only;omega,by rw [hlen];dsimp only;omega,ht.part off len⟩,
       fun q hq=>by cases hq;exact ⟨l,p,rfl,hp,λb hb=>hb,λhx=>by cases hx⟩⟩
    ·cases he
   ·rename_i e' Kd xs hl
    split at he
    ·rename_i hc
     obtain ⟨rfl,rfl⟩:=hc
     simp only [Option.some.injEq,Prod.mk.injEq] at he
     obtain ⟨rfl,rfl⟩:=he
     unfold St.at at hl
     obtain ⟨h1,h2⟩:=Tv hu hl
     have hb:=(h.heap l).La hl
     simp only [Ao,Hs] at hb
     have hlen:((xs.drop off).take len).length=len:=by simp;omega
     cases hp:π l with
     |none=>
      rw [hp] at h2 hb
      obtain ⟨rfl,rfl,rfl⟩:=h2
      exact ⟨none,⟨⟨rfl,rfl,by simp⟩,by show (xs.drop 0).take 0= [];simp⟩,λq hq=>by cases hq⟩
     |some p=>
      rw [hp] at h2 hb
      obtain ⟨k1,cur,ti,k2,k3,k4,k5,ht⟩:=hb
      have ho:=h2
      obtain ⟨ad,_,kK,_⟩:=h2
      exact ⟨some ⟨p.g,p.o+off,p.cap-off,p.Ar,p.Ar⟩,⟨by rw [hlen];exact gQ ho,k1,cur,ti,k2,by rw [k3];congr 1;dsimp only;omega,by dsimp only;omega,by rw [hlen];dsimp only;omega,ht.part off len⟩,
       fun q hq=>by cases hq;exact ⟨l,p,rfl,hp,λb hb=>h.sub l p b hp hb,λ_ b hb=>hb⟩⟩
    ·cases he
   ·cases he
 |part e te=>cases a<;>simp [cC] at he
 |Ai e te kp=>exact absurd rfl (hg e te kp)
theorem CS {st:St} (h:Hb X w π st.heap) {c:CK} {a:AC} {u:Value} (hu:Dk X w π st.heap a u) {x:c.den} {ls:List Nat} (he:cC st c a=some (x,ls)):
  ∃r,Xh w (λb=>Nf π b\/X.Sc b) r u c x/\(∀q,r=some q-> ∃l p,ls= [l]/\π l=some p/\(∀b,q.Ar b->p.cl b)/\(c.JP=false-> ∀b,q.Ar b->p.Ar b))/\
   (∀l off len e te rows out kp,a= .own l off len->Ad st.heap l=some (.Ai e te rows out kp)->r=π l):=by
 have mo:(∀e te kp,c≠ .Ai e te kp)->(∀l off len e te rows out kp,a=AC.own l off len->Ad st.heap l=some (OB.Ai e te rows out kp)->False)->
   ∃r,Xh w (λb=>Nf π b\/X.Sc b) r u c x/\(∀q,r=some q-> ∃l p,ls= [l]/\π l=some p/\(∀b,q.Ar b->p.cl b)/\(c.JP=false-> ∀b,q.Ar b->p.Ar b))/\
   (∀l off len e te rows out kp,a= .own l off len->Ad st.heap l=some (.Ai e te rows out kp)->r=π l):= λh1 h2=>by
  obtain ⟨r,g1,g2⟩:=yT h h1 hu he
  exact ⟨r,g1,g2,λl off len e te rows out kp h3 h4=>(h2 l off len e te rows out kp h3 h4).elim⟩
 cases c with
 |Gh τ=>
  refine mo (λ_ _ _ h=>by cases h) λl off len e te rows out kp h3 h4=>?_
  subst h3
  simp only [cC] at he
  split at he
  ·rename_i hf
   cases τ<;>simp [AC.settled,Ty.flat,Bh] at hf he
  ·cases he
 |row e te=>
  refine mo (λ_ _ _ h=>by cases h) λl off len e te rows out kp h3 h4=>?_
  subst h3
  simp only [cC,St.at,h4] at he
  cases he
 |Dh e te=>
  refine mo (λ_ _ _ h=>by cases h) λl off len e te rows out kp h3 h4=>?_
  subst h3
  simp only [cC,St.at,h4] at he
  cases he
 |part e te=>cases a<;>simp [cC] at he
 |Ai e te kp=>
  cases a<;>simp only [cC] at he<;>try (cases he;done)
  rename_i l off len
  split at he
  ·rename_i e' Kd rows kp' hl
   split at he
   ·rename_i hc
    obtain ⟨rfl,rfl,rfl,rfl⟩:=hc
    simp only [Option.some.injEq,Prod.mk.injEq] at he
    obtain ⟨rfl,rfl⟩:=he
    unfold St.at at hl
    obtain ⟨b,sz,n,h1,h2,_,h3⟩:=hu
    rw [hl] at h1;cases h1
    simp only [OB.row,Option.some.injEq,Prod.mk.injEq] at h2
    obtain ⟨rfl,rfl⟩:=h2
    have hb:=((h.heap l).La hl).1
    refine ⟨π l,⟨h3,Rh.Ek hb λb hb=>hb.imp id .inl⟩,λq hq=>⟨l,q,rfl,hq,λb hb=>h.sub l q b hq hb,λ_ b hb=>hb⟩,λl' Aef Aea _ _ _ _ _ he _=>?_⟩
    simp only [AC.own.injEq] at he
    rw [he.1]
   ·cases he
  ·cases he
theorem El.congr {D:Nat->Prop} {ρ TX:Pi} : ∀(cs:List CK) (k:Nat) (x:CKs.den cs) (us:List Value),(∀j,k<=j->TX (Ey j)=ρ (Ey j))->El w D ρ k cs x us->El w D TX k cs x us
 | [],_,_,[],_,h=>h
 | [],_,_,_::_,_,h=>h.elim
 |_::_,_,_,[],_,h=>h.elim
 |c::r,k,x,u::us,he,h=>⟨by rw [he k (Nat.le_refl _)];exact h.1,El.congr r (k+1) x.2 us (λj hj=>he j (by omega)) h.2⟩
theorem ou {st:St} (h:Hb X w π st.heap): ∀(cs:List CK) (k:Nat) (as:List AC) (us:List Value) (x:CKs.den cs) (ls:List Nat),He X w π st.heap as us->Mw st cs as=some (x,ls)->ls.Nodup->
  ∃ρ:Pi,El w (λb=>Nf π b\/X.Sc b) ρ k cs x us/\(∀l q,ρ l=some q-> ∃j,k<=j/\j<k+cs.length/\l=Ey j)/\(∀l q b,ρ l=some q->q.Ar b-> ∃l0∈ls,∃p,π l0=some p/\p.cl b/\((cs.all λc=>!c.JP)=true->p.Ar b))/\
   (∀l l' q q' b,ρ l=some q->ρ l'=some q'->q.Ar b->q'.Ar b->l=l')/\
   (∀(j l off len:Nat) e te rows out kp,as[j]?=some (.own l off len)->Ad st.heap l=some (.Ai e te rows out kp)->ρ (Ey (k+j))=π l)
 | [],k,[],[],x,ls,_,he,_=>by
  simp only [Mw,Option.some.injEq,Prod.mk.injEq] at he
  exact ⟨λ_=>none,trivial,(λl q h=>by cases h),(λl q b h=>by cases h),(λl l' q q' b h=>by cases h),λj l off len e te rows out kp h=>by simp at h⟩
 | [],_,[],_::_,_,_,h,_,_=>h.elim
 | [],_,_::_,_,_,_,_,he,_=>by simp [Mw] at he
 |_::_,_,[],_,_,_,_,he,_=>by simp [Mw] at he
 |_::_,_,_::_,[],_,_,h,_,_=>h.elim
 |c::r,k,a::as,u::us,x,ls,hr,he,zS=>by
  simp only [Mw] at he
  split at he
  ·rename_i x1 t1 x2 t2 h1 h2
   simp only [Option.some.injEq,Prod.mk.injEq] at he
   obtain ⟨rfl,rfl⟩:=he
   obtain ⟨n1,n2,n3⟩:=List.nodup_append.1 zS
   obtain ⟨ρ,g1,g2,g3,g4,g5⟩:=ou h r (k+1) as us x2 t2 hr.2 h2 n2
   obtain ⟨rr,r1,r2,r3⟩:=CS h hr.1 h1
   have rY: ∀l q q0 b,ρ l=some q->rr=some q0->q.Ar b->q0.Ar b->False:= λl q q0 b h3 h4 h5 h6=>by
    obtain ⟨l0,m0,p,p1,p2,_⟩:=g3 l q b h3 h5
    obtain ⟨l1,p',e1,ZS,ZT,_⟩:=r2 q0 h4
    have:=h.inj l0 l1 p p' b p1 ZS p2 (ZT b h6)
    exact n3 l1 (by rw [e1];simp) l0 m0 this.symm
   refine ⟨λl=>if l=Ey k then rr else ρ l,⟨by simpa using r1,El.congr r (k+1) x2 us (λj hj=>if_neg (by unfold Ey;omega)) g1⟩,λl q hq=>?_,λl q b hq hb=>?_,λl l' q q' b h3 h4 h5 h6=>?_,λj l off len e te rows out kp hj hl=>?_⟩
   ·dsimp only at hq
    by_cases e:l=Ey k
    ·exact ⟨k,Nat.le_refl _,by simp,e⟩
    ·rw [if_neg e] at hq
     obtain ⟨j,j1,j2,j3⟩:=g2 l q hq
     exact ⟨j,by omega,by simp;omega,j3⟩
   ·dsimp only at hq
    by_cases e:l=Ey k
    ·rw [if_pos e] at hq
     obtain ⟨l1,p',e1,ZS,ZT,VM⟩:=r2 q hq
     exact ⟨l1,by rw [e1];simp,p',ZS,ZT b hb,λhx=>VM (by simp only [List.all_cons,Bool.and_eq_true,Bool.not_eq_true'] at hx;exact hx.1) b hb⟩
    ·rw [if_neg e] at hq
     obtain ⟨l0,m0,p,p1,p2,p3⟩:=g3 l q b hq hb
     exact ⟨l0,List.mem_append_right _ m0,p,p1,p2,λhx=>p3 (by simp only [List.all_cons,Bool.and_eq_true] at hx;exact hx.2)⟩
   ·dsimp only at h3 h4
    by_cases e:l=Ey k<;>by_cases e':l'=Ey k
    ·rw [e,e']
    ·rw [if_pos e] at h3;rw [if_neg e'] at h4
     exact (rY l' q' q b h4 h3 h6 h5).elim
    ·rw [if_neg e] at h3;rw [if_pos e'] at h4
     exact (rY l q q' b h3 h4 h5 h6).elim
    ·rw [if_neg e] at h3;rw [if_neg e'] at h4
     exact g4 l l' q q' b h3 h4 h5 h6
   ·rcases j with _|j
    ·simp only [List.getElem?_cons_zero,Option.some.injEq] at hj
     show (if Ey k=Ey k then rr else ρ (Ey k))=π l
     rw [if_pos rfl]
     exact r3 l off len e te rows out kp hj hl
    ·have:=g5 j l off len e te rows out kp (by simpa using hj) hl
     show (if Ey (k+(j+1))=Ey k then rr else ρ (Ey (k+(j+1))))=π l
     rw [if_neg (by unfold Ey;omega),<-this,show k+(j+1)=k+1+j by omega]
  ·cases he
theorem tM {r r':Option Real} (h:Sy (r.map full) r') {e:Ty} {xs:List e.den} {te:TypeId} {fr tr:Bool} (ha:Ew X w π r' fr tr e te xs):Ld w (λb=>Nf π b\/X.Sc b) r e xs:=by
 cases r with
 |none=>cases r' with
  |none=>exact ha
  |some q=>exact h.elim
 |some p=>cases r' with
  |none=>exact h.elim
  |some q=>
   obtain ⟨e1,e2,e3,e4⟩:=h
   obtain ⟨k1,cur,ti,k2,k3,k4,k5,k6,_⟩:=ha
   have e1:p.g=q.g:=e1
   have e2:p.o=q.o:=e2
   have e3:p.cap=q.cap:=e3
   refine ⟨⟨by rw [e1];exact (e4 _).2 k1.1,λb hb=>by rw [e1];exact k1.2.1 b ((e4 b).1 hb)⟩,cur,ti,by rw [e1];exact k2,by rw [e2,e3];exact k3,by rw [e3];exact k4,by rw [e3];exact k5,λi y hy=>?_⟩
   obtain ⟨es,g1,g2,g3⟩:=k6 i y hy
   exact ⟨es,g1,by rw [e2];exact g2,Cells.Cj (Nat.le_refl _) (λ_ _ _=>rfl) (λb _ hb=>hb.imp id .inl) e es y g3⟩
theorem zg {r r':Option Real} (h:Sy (r.map full) r') {e:Ty} {xs:List e.den} {te:TypeId} (ha:Hs w r' e te xs):Hs w r e te xs:=by
 cases r with
 |none=>cases r' with
  |none=>exact ha
  |some q=>exact h.elim
 |some p=>cases r' with
  |none=>exact h.elim
  |some q=>
   obtain ⟨e1,e2,e3,e4⟩:=h
   obtain ⟨k1,cur,ti,k2,k3,k4,k5,Fs,t1,t2,t3,t4⟩:=ha
   have e1:p.g=q.g:=e1
   have e2:p.o=q.o:=e2
   have e3:p.cap=q.cap:=e3
   exact ⟨by rw [e1];exact (e4 _).2 k1,cur,ti,by rw [e1];exact k2,by rw [e2,e3];exact k3,by rw [e3];exact k4,by rw [e3];exact k5,Fs,t1,by rw [e1];exact t2,λb hb=>(e4 b).2 (t3 b hb),by rw [e2];exact t4⟩
theorem Mh {st:St} {π0:Pi} {D:Nat->Prop} {w0:World} (h:Hb X w π st.heap) (Wk: ∀l,X.bk l=(π0 l).map full): ∀(cs:List (Bool×CK)) (k:Nat) (x:Ins.den cs) (us:List Value) (o:IOs.den cs),Xi w0 D π0 k cs x us->Il st k cs=some o->
  Gk w (λb=>Nf π b\/X.Sc b) π0 k cs o/\ ∀l∈Ja k cs,Ad st.heap l≠none
 | [],_,_,_,_,_,_=>⟨trivial,λl hl=>by cases hl⟩
 |_::_,_,_,[],_,h,_=>h.elim
 |(false,c)::r,k,x,u::us,o,hi,he=>Mh h Wk r (k+1) x.2 us o hi.2 (by simpa only [Il] using he)
 |(true, .Gh τ)::r,k,x,u::us,o,hi,he=>Mh h Wk r (k+1) x.2 us o hi.2 (by simpa only [Il] using he)
 |(true, .Ai e te kp)::r,k,x,u::us,o,hi,he=>Mh h Wk r (k+1) x.2 us o hi.2 (by simpa only [Il] using he)
 |(true, .row e te)::r,k,x,u::us,o,hi,he=>by
  simp only [Il] at he
  split at he
  ·rename_i x1 x2 h1 h2
   simp only [Option.some.injEq] at he;subst he
   obtain ⟨g1,g2⟩:=Mh h Wk r (k+1) x.2 us x2 hi.2 h2
   have h0:=hi.1
   simp only [iz] at h1
   split at h1
   ·rename_i fr tr e' Kd xs hl
    split at h1
    ·rename_i hc
     obtain ⟨rfl,rfl⟩:=hc
     simp only [Option.some.injEq] at h1;subst h1
     unfold St.at at hl
     have hs:=h.bk (Bm true k) (by have:=Sm k;omega) (by rw [hl];simp)
     rw [Wk] at hs
     exact ⟨⟨tM (te:=Kd) hs ((h.heap _).La hl),g1⟩,λl Ic=>by
      simp only [Ja] at Ic
      rcases List.mem_cons.1 Ic with rfl|Ic
      ·rw [hl];simp
      ·exact g2 l Ic⟩
    ·cases h1
   ·cases h1
  ·cases he
 |(true, .part e te)::r,k,x,u::us,o,hi,he=>by
  simp only [Il] at he
  split at he
  ·rename_i x1 x2 h1 h2
   simp only [Option.some.injEq] at he;subst he
   obtain ⟨g1,g2⟩:=Mh h Wk r (k+1) x.2 us x2 hi.2 h2
   have h0:=hi.1
   simp only [iz] at h1
   split at h1
   ·rename_i fr tr e' Kd xs hl
    split at h1
    ·rename_i hc
     obtain ⟨rfl,rfl⟩:=hc
     simp only [Option.some.injEq] at h1;subst h1
     unfold St.at at hl
     have hs:=h.bk (Bm true k) (by have:=Sm k;omega) (by rw [hl];simp)
     rw [Wk] at hs
     exact ⟨⟨tM (te:=Kd) hs ((h.heap _).La hl),g1⟩,λl Ic=>by
      simp only [Ja] at Ic
      rcases List.mem_cons.1 Ic with rfl|Ic
      ·rw [hl];simp
      ·exact g2 l Ic⟩
    ·cases h1
   ·cases h1
  ·cases he
 |(true, .Dh e te)::r,k,x,u::us,o,hi,he=>by
  simp only [Il] at he
  split at he
  ·rename_i x1 x2 h1 h2
   simp only [Option.some.injEq] at he;subst he
   obtain ⟨g1,g2⟩:=Mh h Wk r (k+1) x.2 us x2 hi.2 h2
   simp only [iz] at h1
   split at h1
   ·rename_i e' Kd xs hl
    split at h1
    ·rename_i hc
     obtain ⟨rfl,rfl⟩:=hc
     simp only [Option.some.injEq] at h1;subst h1
     unfold St.at at hl
     have hs:=h.bk (Bm true k) (by have:=Sm k;omega) (by rw [hl];simp)
     rw [Wk] at hs
     exact ⟨⟨zg (te:=Kd) hs ((h.heap _).La hl),g1⟩,λl Ic=>by
      simp only [Ja] at Ic
      rcases List.mem_cons.1 Ic with rfl|Ic
      ·rw [hl];simp
      ·exact g2 l Ic⟩
    ·cases h1
   ·cases h1
  ·cases he
theorem mR {p:Bool×CK} {r:List (Bool×CK)} (h:Qt (p::r)=true):Qt r=true:=by
 rcases p with ⟨_|_,c⟩<;>cases c<;>first|(simp [Qt] at h;done)|simpa [Qt] using h
theorem o5: ∀(cs:List (Bool×CK)) (k:Nat) (x:Ins.den cs) (l:Nat),Qt cs=true->k+cs.length<100000->Ad (Qq k cs x) l≠none-> ¬l<Ah->l∈Ja k cs
 | [],_,_,_,_,_,h,_=>absurd rfl h
 |(io,c)::r,k,x,l,QT,hk,h,hp=>by
  simp only [List.length_cons] at hk
  simp only [Qq] at h
  have tail:Ad (Qq (k+1) r x.2) l≠none->l∈Ja (k+1) r:= λh=>o5 r (k+1) x.2 l (mR QT) (by omega) h hp
  have sub: ∀m,m∈Ja (k+1) r->m∈Ja k ((io,c)::r):= λm hm=>by
   cases io<;>cases c<;>simp only [Ja]<;>first|exact hm|exact List.mem_cons_of_mem _ hm
  cases hc:cz (Bm io k) c x.1 with
  |none=>rw [hc] at h;exact sub l (tail h)
  |some b=>
   rw [hc] at h
   simp only [aE,Ad] at h
   split at h
   ·rename_i e;subst e
    cases io with
    |false=>exact absurd (Yr (by omega)) hp
    |true=>cases c with
     |Gh τ=>cases hc
     |row e te=>simp [Ja]
     |Dh e te=>simp [Ja]
     |part e te=>simp [Ja]
     |Ai e te kp=>simp [Qt] at QT
   ·exact sub l (tail h)
theorem Xh.Ek {D D':Nat->Prop} (hD: ∀b,D' b->D b) {r:Option Real} {u:Value} {c:CK} {x:c.den} (h:Xh w D r u c x):Xh w D' r u c x:=by
 cases c with
 |Gh τ=>exact ⟨h.1,h.2.Ek λb _ hb=>hD b hb⟩
 |row e te=>exact ⟨h.1,Ld.Ek h.2 hD⟩
 |Dh e te=>exact h
 |part e te=>exact ⟨h.1,h.2.1,Ld.Ek h.2.2 hD⟩
 |Ai e te kp=>exact ⟨h.1,Rh.Ek h.2 hD⟩
theorem El.Ek {D D':Nat->Prop} (hD: ∀b,D' b->D b) {ρ:Pi} : ∀(cs:List CK) (k:Nat) (x:CKs.den cs) (us:List Value),El w D ρ k cs x us->El w D' ρ k cs x us
 | [],_,_,[],h=>h
 | [],_,_,_::_,h=>h.elim
 |_::_,_,_,[],h=>h.elim
 |_c::r,k,x,_u::us,h=>⟨h.1.Ek hD,El.Ek hD r (k+1) x.2 us h.2⟩
theorem Gk.Ek {D D':Nat->Prop} (hD: ∀b,D' b->D b) {π:Pi} : ∀(cs:List (Bool×CK)) (k:Nat) (x:IOs.den cs),Gk w D π k cs x->Gk w D' π k cs x
 | [],_,_,h=>h
 |(false,_)::r,k,x,h=>Gk.Ek hD r (k+1) x h
 |(true, .Gh _)::r,k,x,h=>Gk.Ek hD r (k+1) x h
 |(true, .Ai _ _ _)::r,k,x,h=>Gk.Ek hD r (k+1) x h
 |(true, .row _e _te)::r,k,x,h=>⟨Ld.Ek h.1 hD,Gk.Ek hD r (k+1) x.2 h.2⟩
 |(true, .Dh _e _te)::r,k,x,h=>⟨h.1,Gk.Ek hD r (k+1) x.2 h.2⟩
 |(true, .part _e _te)::r,k,x,h=>⟨Ld.Ek h.1 hD,Gk.Ek hD r (k+1) x.2 h.2⟩
theorem Xi.congr {D:Nat->Prop} {π0 Uc:Pi} : ∀(cs:List (Bool×CK)) (k:Nat) (x:Ins.den cs) (us:List Value),(∀b j,k<=j->j<k+cs.length->Uc (Bm b j)=π0 (Bm b j))->Xi w D π0 k cs x us->Xi w D Uc k cs x us
 | [],_,_,[],_,h=>h
 | [],_,_,_::_,_,h=>h
 |_::_,_,_,[],_,h=>h
 |p::r,k,x,u::us,hp,h=>⟨by rw [hp p.1 k (Nat.le_refl _) (by simp)];exact h.1,Xi.congr r (k+1) x.2 us (λb j h1 h2=>hp b j (by omega) (by simp;omega)) h.2⟩
theorem Gk.congr {D:Nat->Prop} {π0 Uc:Pi} : ∀(cs:List (Bool×CK)) (k:Nat) (x:IOs.den cs),(∀b j,k<=j->j<k+cs.length->Uc (Bm b j)=π0 (Bm b j))->Gk w D π0 k cs x->Gk w D Uc k cs x
 | [],_,_,_,h=>h
 |(false,c)::r,k,x,hp,h=>by cases c<;>exact Gk.congr r (k+1) x (λb j h1 h2=>hp b j (by omega) (by simp;omega)) h
 |(true, .Gh _)::r,k,x,hp,h=>Gk.congr r (k+1) x (λb j h1 h2=>hp b j (by omega) (by simp;omega)) h
 |(true, .Ai _ _ _)::r,k,x,hp,h=>Gk.congr r (k+1) x (λb j h1 h2=>hp b j (by omega) (by simp;omega)) h
 |(true, .row e te)::r,k,x,hp,h=>⟨by rw [hp true k (Nat.le_refl _) (by simp)];exact h.1,Gk.congr r (k+1) x.2 (λb j h1 h2=>hp b j (by omega) (by simp;omega)) h.2⟩
 |(true, .Dh e te)::r,k,x,hp,h=>⟨by rw [hp true k (Nat.le_refl _) (by simp)];exact h.1,Gk.congr r (k+1) x.2 (λb j h1 h2=>hp b j (by omega) (by simp;omega)) h.2⟩
 |(true, .part e te)::r,k,x,hp,h=>⟨by rw [hp true k (Nat.le_refl _) (by simp)];exact h.1,Gk.congr r (k+1) x.2 (λb j h1 h2=>hp b j (by omega) (by simp;omega)) h.2⟩
theorem Bt.congr {π0 Uc:Pi} : ∀(cs:List (Bool×CK)) (k:Nat) (o:IOs.den cs) (n:Nat) (us as:List Value),(∀b j,k<=j->j<k+cs.length->Uc (Bm b j)=π0 (Bm b j))->Bt π0 k cs o n us as->Bt Uc k cs o n us as
 | [],k,o,0,us,as,_,h=>by simpa [Bt] using h
 | [],k,o,n+1,us,as,_,h=>by simp [Bt] at h
 |p::r,k,o,0,us,as,_,h=>by
  rcases p with ⟨_|_,c⟩<;>cases c<;>simpa [Bt] using h
 |(true, .Gh _)::r,k,o,n+1,us,as,_,h=>by simp [Bt] at h
 |(true, .part _ _)::r,k,o,n+1,us,as,_,h=>by simp [Bt] at h
 |(true, .Ai _ _ _)::r,k,o,n+1,us,as,_,h=>by simp [Bt] at h
 |(true, .row e te)::r,k,o,n+1,[],as,_,h=>by simp [Bt] at h
 |(true, .Dh e te)::r,k,o,n+1,[],as,_,h=>by simp [Bt] at h
 |(true, .row e te)::r,k,o,n+1,u::us,as,hp,h=>by
  simp only [Bt] at h⊢
  exact ⟨by rw [hp true k (Nat.le_refl _) (by simp)];exact h.1,Bt.congr r (k+1) o.2 n us as (λb j h1 h2=>hp b j (by omega) (by simp;omega)) h.2⟩
 |(true, .Dh e te)::r,k,o,n+1,u::us,as,hp,h=>by
  simp only [Bt] at h⊢
  exact ⟨by rw [hp true k (Nat.le_refl _) (by simp)];exact h.1,Bt.congr r (k+1) o.2 n us as (λb j h1 h2=>hp b j (by omega) (by simp;omega)) h.2⟩
 |(false,c)::r,k,o,n+1,[],as,_,h=>by cases c<;>simp [Bt] at h
 |(false,c)::r,k,o,n+1,u::us,[],_,h=>by cases c<;>simp [Bt] at h
 |(false,c)::r,k,o,n+1,u::us,a::as,hp,h=>by
  have h:u=a/\Bt π0 (k+1) r o n us as:=by cases c<;>exact h
  have:=Bt.congr r (k+1) o n us as (λb j h1 h2=>hp b j (by omega) (by simp;omega)) h.2
  cases c<;>exact ⟨h.1,this⟩
theorem iJ: ∀(A B:List (Nat×OB)) (l:Nat),Ad (A++B) l=match Ad A l with|some b=>some b|none=>Ad B l
 | [],B,l=>rfl
 |(k,b)::A,B,l=>by
  simp only [List.cons_append,Ad]
  split
  ·rfl
  ·exact iJ A B l
theorem lh {st:St} : ∀(cs:List CK) (as:List AC) (x:CKs.den cs) (ls:List Nat),Mw st cs as=some (x,ls)-> ∀l∈ls,∃b,Ad st.heap l=some b/\b.row≠none
 | [],[],x,ls,he=>by
  simp only [Mw,Option.some.injEq,Prod.mk.injEq] at he
  obtain ⟨_,rfl⟩:=he
  intro l hl;cases hl
 | [],_::_,_,_,he=>by simp [Mw] at he
 |_::_,[],_,_,he=>by simp [Mw] at he
 |c::r,a::as,x,ls,he=>by
  simp only [Mw] at he
  split at he
  ·rename_i x1 t1 x2 t2 h1 h2
   simp only [Option.some.injEq,Prod.mk.injEq] at he
   obtain ⟨_,rfl⟩:=he
   intro l hl
   rcases List.mem_append.1 hl with hl|hl
   ·unfold cC at h1
    split at h1
    ·split at h1
     ·cases hv:Bh st _ a with
      |none=>rw [hv] at h1;cases h1
      |some p=>rw [hv] at h1;simp only [Option.map_some,Option.some.injEq,Prod.mk.injEq] at h1;obtain ⟨_,rfl⟩:=h1;cases hl
     ·cases h1
    all_goals (repeat' split at h1)
    all_goals first|(cases h1;done)|skip
    all_goals (simp only [Option.some.injEq,Prod.mk.injEq] at h1;obtain ⟨_,rfl⟩:=h1)
    all_goals first|(cases hl;done)|skip
    all_goals (have hl:=List.mem_singleton.1 hl;subst hl)
    all_goals (rename_i heq _;exact ⟨_,heq,by simp [OB.row]⟩)
   ·exact lh r as x2 t2 h2 l hl
  ·cases he
theorem iT {r r':Option Real} {sz off len:Nat} {v:Value} (h:Sy r r') (hv:Di r' sz off len v):Di r sz off len v:=by
 cases r<;>cases r'<;>first|exact h.elim|skip
 ·exact hv
 ·obtain ⟨h1,h2,h3,_⟩:=h
  obtain ⟨ad,g1,g2,g3⟩:=hv
  exact ⟨ad,by rw [h3];exact g1,by rw [h3];exact g2,by rw [h1,h2,h3];exact g3⟩
theorem Px {st:St} {π0:Pi} (hs: ∀k,Ad st.heap (Bm true k)≠none->Sy ((π0 (Bm true k)).map full) (π (Bm true k))):
  ∀(cs:List (Bool×CK)) (k:Nat) (vs:List AC) (us:List Value) (bc:List AC) (o:IOs.den cs),He X w π st.heap vs us->En k cs vs=some bc->aY st vs cs->Il st k cs=some o->
   ∃bv,He X w π st.heap bc bv/\bv.length=ly cs vs.length/\ ∀tl,Bt π0 k cs o vs.length us (bv++tl)
 |cs,k,[],us,bc,o,hr,he,_,_=>by
  have e1:us= []:=by cases us with|nil=>rfl|cons u us=>exact hr.elim
  have e2:bc= []:=by rcases cs with _|⟨⟨_|_,c⟩,r⟩<;>simpa [En] using he.symm
  subst e1;subst e2
  refine ⟨[],trivial,?_,λtl=>?_⟩
  ·rcases cs with _|⟨⟨_|_,c⟩,r⟩<;>rfl
  ·rcases cs with _|⟨⟨_|_,c⟩,r⟩<;>(try cases c)<;>simp [Bt]
 | [],k,a::vs,us,bc,o,hr,he,_,_=>by simp [En] at he
 |p::r,k,a::vs,[],bc,o,hr,_,_,_=>hr.elim
 |(false,c)::r,k,a::vs,u::us,bc,o,hr,he,hk,ho=>by
  have he:(En (k+1) r vs).map (λl=>a::l)=some bc:=by cases a<;>exact he
  cases hb:En (k+1) r vs with
  |none=>rw [hb] at he;cases he
  |some bc'=>
   rw [hb] at he
   simp only [Option.map_some,Option.some.injEq] at he;subst he
   obtain ⟨bv,g1,g2,g3⟩:=Px hs r (k+1) vs us bc' o hr.2 hb (by cases a<;>exact hk) (by cases c<;>simpa only [Il] using ho)
   refine ⟨u::bv,⟨hr.1,g1⟩,by simp [ly,g2],λtl=>?_⟩
   have:=g3 tl
   cases c<;>exact ⟨rfl,this⟩
 |(true,c)::r,k,a::vs,u::us,bc,o,hr,he,hk,ho=>by
  cases c with
  |Gh τ=>cases a<;>simp [En] at he
  |part e te=>cases a<;>simp [En] at he
  |Ai e te kp=>cases a<;>simp [En] at he
  |row e te=>
   cases a<;>first|(simp [En] at he;done)|skip
   rename_i l off len
   simp only [En] at he
   split at he
   rotate_left
   ·cases he
   rename_i hl
   have hl:l=Bm true k:=Nat.eq_of_beq_eq_true hl
   subst hl
   obtain ⟨⟨rfl,hlen⟩,hk⟩:=hk
   obtain ⟨b,sz,n,h1,h2,h3,h4⟩:=hr.1
   have BM:=hs k (by rw [h1];simp)
   simp only [Il] at ho
   split at ho
   ·rename_i x1 x2 q1 q2
    simp only [Option.some.injEq] at ho;subst ho
    obtain ⟨bv,g1,g2,g3⟩:=Px hs r (k+1) vs us bc x2 hr.2 he hk q2
    refine ⟨bv,g1,by simpa [ly] using g2,λtl=>?_⟩
    refine ⟨?_,g3 tl⟩
    simp only [iz] at q1
    split at q1
    ·rename_i fr tr e' Kd xs Ic
     split at q1
     ·rename_i hc
      obtain ⟨rfl,rfl⟩:=hc
      simp only [Option.some.injEq] at q1;subst q1
      unfold St.at at Ic hlen
      rw [Ic] at hlen
      rw [h1] at Ic;cases Ic
      simp only [OB.row,Option.some.injEq,Prod.mk.injEq] at h2
      obtain ⟨rfl,rfl⟩:=h2
      have hlen:len=List.length xs:=hlen
      have:=iT BM h4
      rw [hlen] at this
      have e0:(π0 (Bm true k)).map full=(π0 (Bm true k)).map full:=rfl
      cases hp:π0 (Bm true k)<;>(rw [hp] at this;exact this)
     ·cases q1
    ·cases q1
   ·cases ho
  |Dh e te=>
   cases a<;>first|(simp [En] at he;done)|skip
   rename_i l off len
   simp only [En] at he
   split at he
   rotate_left
   ·cases he
   rename_i hl
   have hl:l=Bm true k:=Nat.eq_of_beq_eq_true hl
   subst hl
   obtain ⟨⟨rfl,hlen⟩,hk⟩:=hk
   obtain ⟨b,sz,n,h1,h2,h3,h4⟩:=hr.1
   have BM:=hs k (by rw [h1];simp)
   simp only [Il] at ho
   split at ho
   ·rename_i x1 x2 q1 q2
    simp only [Option.some.injEq] at ho;subst ho
    obtain ⟨bv,g1,g2,g3⟩:=Px hs r (k+1) vs us bc x2 hr.2 he hk q2
    refine ⟨bv,g1,by simpa [ly] using g2,λtl=>?_⟩
    refine ⟨?_,g3 tl⟩
    simp only [iz] at q1
    split at q1
    ·rename_i e' Kd xs Ic
     split at q1
     ·rename_i hc
      obtain ⟨rfl,rfl⟩:=hc
      simp only [Option.some.injEq] at q1;subst q1
      unfold St.at at Ic hlen
      rw [Ic] at hlen
      rw [h1] at Ic;cases Ic
      simp only [OB.row,Option.some.injEq,Prod.mk.injEq] at h2
      obtain ⟨rfl,rfl⟩:=h2
      have hlen:len=List.length xs:=hlen
      have:=iT BM h4
      rw [hlen] at this
      cases hp:π0 (Bm true k)<;>(rw [hp] at this;exact this)
     ·cases q1
    ·cases q1
   ·cases ho
def TU (s:MSpec) (g:Nat) (π:Pi):Pi:= λl=>if s.ptr.isSome=true/\l=Kq then some ⟨g,0,0,λb=>b=g,λb=>b=g⟩ else π l
def PC (P:Program) (s:MSpec) (fn:Func) (x:Ins.den s.ins) (w:World) (S:Nat->Prop) (π:Pi) (g:Nat) (r:CKs.den s.outs) (o:IOs.den s.ins) (a':Act) (w':World):Prop:=
 ∃(v:Value) (Qz:List Value) (ρ:Pi),a'.defers= []/\(results fn a'.tmps).run P w'= .ok v w'/\jW s w' ρ (Qz.drop s.Rl) v/\dx s π w' g Qz o/\Fl w.heap.size (λb=>Nf π b\/s.gv g b) w w'/\Gk w' (cy S π ρ) π 0 s.ins o/\El w' (cy S π ρ) ρ 0 s.outs r Qz/\
  ao ρ (λb=>b<w'.heap.size/\(w.heap.size<=b\/ ∃l q,l<Ah/\π l=some q/\q.Ar b))/\(∀l,(∀k,k<s.Ml->l≠Ey k)->ρ l=none)/\(∀kj∈s.keeps,ry w w' (π (Bm false kj.1)) (ρ (Ey kj.2)) (s.Cj x))
theorem El.AQ {D:Nat->Prop} {ρ TX:Pi} : ∀(cs:List CK) (k:Nat) (x:CKs.den cs) (us:List Value),(∀j,k<=j->j<k+cs.length->TX (Ey j)=ρ (Ey j))->El w D ρ k cs x us->El w D TX k cs x us
 | [],_,_,[],_,h=>h
 | [],_,_,_::_,_,h=>h.elim
 |_::_,_,_,[],_,h=>h.elim
 |c::r,k,x,u::us,he,h=>⟨by rw [he k (Nat.le_refl _) (by simp)];exact h.1,El.AQ r (k+1) x.2 us (λj hj hl=>he j (by omega) (by simp;omega)) h.2⟩
theorem o8 {st:St} {n:Nat} {as:List AC} : ∀ {ks:List (Nat×Nat)},o7 st n as ks-> ∀kj∈ks,∃l off len e te rows out p,as[kj.2]?=some (.own l off len)/\Ad st.heap l=some (.Ai e te rows out (some p))/\p.1=Bm false kj.1/\n<=p.2/\kj.1<1000
 | [],_,kj,hm=>by cases hm
 |(k,j)::r,h,kj,hm=>by
  simp only [o7] at h
  rcases List.mem_cons.1 hm with rfl|hm
  ·obtain ⟨h,_⟩:=h
   split at h
   ·rename_i l off len he
    split at h
    ·rename_i e te rows out p hl
     unfold St.at at hl
     exact ⟨l,off,len,e,te,rows,out,p,he,hl,h.1,h.2.1,by simpa using h.2.2⟩
    ·exact h.elim
   ·exact h.elim
  ·exact o8 h.2 kj hm
theorem oq {st:St} : ∀(cs:List CK) (as:List AC) (x:CKs.den cs) (ls:List Nat),Mw st cs as=some (x,ls)->as.length=cs.length
 | [],[],_,_,_=>rfl
 | [],_::_,_,_,he=>by simp [Mw] at he
 |_::_,[],_,_,he=>by simp [Mw] at he
 |c::r,a::as,x,ls,he=>by
  simp only [Mw] at he
  split at he
  ·rename_i h1 h2
   simp only [List.length_cons,oq r as _ _ h2]
  ·cases he
theorem tJ {α β:Type} (f:α->Sem β): ∀(l:List α) (vs:List β),vs.length=l.length->(∀(i:Nat) a v,l[i]?=some a->vs[i]?=some v->(f a).run P w= .ok v w)->(l.mapM f).run P w= .ok vs w
 | [],[],_,_=>by simp
 | [],_::_,h,_=>by simp at h
 |_::_,[],h,_=>by simp at h
 |a::l,v::vs,h,hr=>by
  rw [List.mapM_cons]
  simp only [Sem.run_bind,hr 0 a v rfl rfl,Result.andThen_ok,tJ f l vs (by simpa using h) (λi a' v' ha hv=>hr (i+1) a' v' (by simpa using ha) (by simpa using hv)),Sem.run_pure]
theorem my (hT:Bu P T) (Lb:Hc P Γ) (hm:P.follows .mixedOrders=true) {f:FuncId} {fn:Func} (hf:P.funcs[f]?=some fn) (s:MSpec) (w:World) (S:Nat->Prop) (π:Pi) (us:List Value) (x:Ins.den s.ins)
  (r:CKs.den s.outs) (o:IOs.den s.ins) (g:Nat) (iy:List Value) (Ka:gb s w g us iy) (WL:s.ptr.isSome=true->S g) (Ud:Xi w (λb=>Nf π b\/S b) π 0 s.ins x us) (cQ:ao π (λb=>b<w.heap.size)) (hS: ∀b,S b->b<w.heap.size/\ ¬Nf π b) (AZ: ∀l,Ad (Qq 0 s.ins x) l=none->π l=none) (he:HY T Γ s fn x λz=>z=(r,o)):
  Calls P f iy.toArray w λe w'=> ∃v Qz ρ,e= .returned v/\jW s w' ρ (Qz.drop s.Rl) v/\dx s π w' g Qz o/\Fl w.heap.size (λb=>Nf π b\/s.gv g b) w w'/\Gk w' (cy S π ρ) π 0 s.ins o/\El w' (cy S π ρ) ρ 0 s.outs r Qz/\
   ao ρ (λb=>b<w'.heap.size/\(w.heap.size<=b\/ ∃l q,l<Ah/\π l=some q/\q.Ar b))/\(∀l,(∀k,k<s.Ml->l≠Ey k)->ρ l=none)/\(∀kj∈s.keeps,ry w w' (π (Bm false kj.1)) (ρ (Ey kj.2)) (s.Cj x)):=by
 obtain ⟨hlen,c,hb,he⟩:=he
 simp only [Bool.and_eq_true,Nat.blt_eq] at hlen
 obtain ⟨hlen,BB⟩:=hlen
 unfold qg at BB
 simp only [Bool.and_eq_true] at BB
 have QU:=BB.1
 let jh:Pi:=TU s g π
 let Sg:Nat->Prop:= λb=>S b/\ ¬s.gv g b
 have RT: ∀b j,j<1000->Bm b j≠Kq:= λb j hj=>by cases b<;>(unfold Bm Kq;simp;omega)
 have pC: ∀b j,0<=j->j<0+s.ins.length->jh (Bm b j)=π (Bm b j):= λb j _ hj=>if_neg λh=>RT b j (by omega) h.2
 have JA: ∀b j,0<=j->j<0+s.ins.length->π (Bm b j)=jh (Bm b j):= λb j h1 h2=>(pC b j h1 h2).symm
 have MA:Ad (Qq 0 s.ins x) Kq=none:=Classical.byContradiction λhn=>by
  obtain ⟨b,j,_,h2,h3⟩:=kR s.ins 0 x Kq hn
  exact RT b j (by omega) h3.symm
 have zz: ∀l q,jh l=some q->(π l=some q/\(s.ptr.isSome=true->l≠Kq))\/(s.ptr.isSome=true/\l=Kq/\q=⟨g,0,0,λb=>b=g,λb=>b=g⟩):= λl q hq=>by
  have hq:(if s.ptr.isSome=true/\l=Kq then some ⟨g,0,0,λb=>b=g,λb=>b=g⟩ else π l)=some q:=hq
  split at hq
  ·rename_i hc;exact .inr ⟨hc.1,hc.2,(Option.some.inj hq).symm⟩
  ·rename_i hc;exact .inl ⟨hq,λh1 h2=>hc ⟨h1,h2⟩⟩
 have Wj: ∀b,Nf jh b↔Nf π b\/s.gv g b:= λb=>by
  constructor
  ·rintro ⟨l,q,h1,h2⟩
   rcases zz l q h1 with ⟨h3,_⟩|⟨h3,h4,rfl⟩
   ·exact .inl ⟨l,q,h3,h2⟩
   ·exact .inr ⟨h3,h2⟩
  ·rintro (⟨l,q,h1,h2⟩|⟨h1,rfl⟩)
   ·refine ⟨l,q,?_,h2⟩
    show (if s.ptr.isSome=true/\l=Kq then _ else π l)=some q
    rw [if_neg]
    ·exact h1
    ·rintro ⟨_,rfl⟩
     rw [AZ Kq MA] at h1;cases h1
   ·exact ⟨Kq,⟨b,0,0,λc=>c=b,λc=>c=b⟩,if_pos ⟨h1,rfl⟩,rfl⟩
 have UN: ∀b,s.gv g b->S b:= λb ⟨h1,h2⟩=>h2▸WL h1
 have LF:Xi w (λb=>Nf jh b\/Sg b) jh 0 s.ins x us:=Xi.congr s.ins 0 x us pC (Xi.Ek (λb hb=>by
  rcases hb with hb|hb
  ·rcases (Wj b).1 hb with hb|hb
   ·exact .inl hb
   ·exact .inr (UN b hb)
  ·exact .inr hb.1) s.ins 0 x us Ud)
 have RC:ao jh (λb=>b<w.heap.size):=⟨λl q b h1 h2=>by
  rcases zz l q h1 with ⟨h3,_⟩|⟨h3,h4,rfl⟩
  ·exact cQ.Om l q b h3 h2
  ·exact (hS b (UN b ⟨h3,h2⟩)).1,λl l' q q' b h1 h2 h3 h4=>by
  rcases zz l q h1 with ⟨h5,_⟩|⟨h5,h6,rfl⟩<;>rcases zz l' q' h2 with ⟨h7,_⟩|⟨h7,h8,rfl⟩
  ·exact cQ.inj l l' q q' b h5 h7 h3 h4
  ·exact absurd ⟨l,q,h5,h3⟩ (hS b (UN b ⟨h7,h4⟩)).2
  ·exact absurd ⟨l',q',h7,h4⟩ (hS b (UN b ⟨h5,h3⟩)).2
  ·rw [h6,h8]⟩
 have WM: ∀b,Sg b->b<w.heap.size/\ ¬Nf jh b:= λb hb=>⟨(hS b hb.1).1,λho=>((Wj b).1 ho).elim (hS b hb.1).2 hb.2⟩
 have xy: ∀l,Ad (iK s x) l=match Ad (Qq 0 s.ins x) l with|some b=>some b|none=>if l=Kq then s.ptr.map λp=> .var p.1 ((Tk 0 s.ins x).take p.2) else none:= λl=>by
  unfold iK
  cases hp:s.ptr with
  |none=>cases Ad (Qq 0 s.ins x) l<;>simp
  |some p=>
   simp only
   rw [iJ]
   cases Ad (Qq 0 s.ins x) l with
   |some b=>rfl
   |none=>
    simp only [Ad,Option.map_some]
    by_cases e:l=Kq
    ·rw [if_pos e,if_pos e.symm]
    ·rw [if_neg e,if_neg (λh=>e h.symm)]
 let π0:Pi:= λl=>(jh l).map full
 have un: ∀l q,π0 l=some q-> ∃q0,jh l=some q0/\q=full q0:= λl q hq=>by
  have hq:(jh l).map full=some q:=hq
  cases hp:jh l with
  |none=>rw [hp] at hq;cases hq
  |some q0=>rw [hp] at hq;exact ⟨q0,rfl,(Option.some.inj hq).symm⟩
 have BE: ∀l b,Ad (Qq 0 s.ins x) l=some b->Ad (iK s x) l=some b:= λl b hb=>by rw [xy l,hb]
 have LW:He ⟨w,Sg,Nf jh,π0⟩ w π0 (iK s x) (Tk 0 s.ins x) us:=sC (λ_=>rfl) s.ins 0 x us (by omega) LF BE
 have BQ:s.ptr.isSome=true->π0 Kq=some ⟨g,0,0,λb=>b=g,λb=>b=g⟩:= λhp=>by
  show (if s.ptr.isSome=true/\Kq=Kq then _ else π Kq).map full=_
  rw [if_pos ⟨hp,rfl⟩];rfl
 obtain ⟨g1,g2⟩:(Rk s (Tk 0 s.ins x)).length=iy.length/\ ∀(i:Nat) c v,(Rk s (Tk 0 s.ins x))[i]?=some c->iy[i]?=some v->Ak ⟨w,Sg,Nf jh,π0⟩ w π0 (iK s x) c v:=by
  unfold gb at Ka
  cases hp:s.ptr with
  |none=>
   rw [hp] at Ka
   obtain ⟨rfl,zU⟩:=Ka
   obtain ⟨g1,g2,_,_⟩:=Wg s.Gg _ us zU LW
   rw [show Rk s (Tk 0 s.ins x)=Li s.Gg (Tk 0 s.ins x) by unfold Rk;rw [hp]]
   exact ⟨g1,g2⟩
  |some p=>
   rw [hp] at Ka
   obtain ⟨rfl,zU,_⟩:=Ka
   obtain ⟨g1,g2,_,_⟩:=Wg s.Gg _ (us.drop p.2) zU (He.take p.2 LW).2
   rw [show Rk s (Tk 0 s.ins x)= .at (.Dj Kq 0)::Li s.Gg ((Tk 0 s.ins x).drop p.2) by unfold Rk;rw [hp]]
   refine ⟨by simp [g1],λi c v h1 h2=>?_⟩
   rcases i with _|i
   ·simp only [List.getElem?_cons_zero,Option.some.injEq] at h1 h2
    subst h1;subst h2
    exact ⟨_,p.1,(Tk 0 s.ins x).take p.2,by rw [xy,MA];simp [hp],BQ (by rw [hp];rfl),rfl⟩
   ·exact g2 i c v (by simpa using h1) (by simpa using h2)
 have h0:Rel ⟨w,Sg,Nf jh,π0⟩ {tmps:=Rk s (Tk 0 s.ins x)++List.replicate (fn.ntmps-(Rk s (Tk 0 s.ins x)).length) .undef,heap:=iK s x}
   {tmps:=iy.toArray++Array.replicate (fn.ntmps-iy.toArray.size) undef,defers:= []} w:=by
  refine ⟨π0,⟨Fl.refl _ _ _,λb hb=>WM b hb,λl q b h1 h2=>?_,λl q b h1 h2=>?_,λl l' q q' b h1 h2 h3 h4=>?_,λl _ _=>Sy.rfl' _,λl=>?_⟩,⟨by simp [g1],rfl,λt=>?_⟩⟩
  ·obtain ⟨q0,_,rfl⟩:=un l q h1;exact h2
  ·obtain ⟨q0,h3,rfl⟩:=un l q h1
   exact ⟨.inr ⟨l,q0,h3,h2⟩,RC.Om l q0 b h3 h2⟩
  ·obtain ⟨q0,h5,rfl⟩:=un l q h1
   obtain ⟨NC,h6,rfl⟩:=un l' q' h2
   exact RC.inj l l' q0 NC b h5 h6 h3 h4
  ·cases hh:Ad (Qq 0 s.ins x) l with
   |none=>
    by_cases hv:s.ptr.isSome=true/\l=Kq
    ·obtain ⟨OQ,rfl⟩:=hv
     obtain ⟨p,hp⟩:=Option.isSome_iff_exists.1 OQ
     refine Cv.Hq (b:= .var p.1 ((Tk 0 s.ins x).take p.2)) ?_ (by rw [xy,hh];simp [hp])
     unfold gb at Ka
     rw [hp] at Ka
     obtain ⟨_,_,h1,h2,h3⟩:=Ka
     rw [BQ OQ]
     exact ⟨_,rfl,rfl,_,h2,He.to (He.take p.2 LW).1 h3⟩
    ·refine Cv.Nr ?_ ?_
     ·show (if s.ptr.isSome=true/\l=Kq then _ else π l).map full=none
      rw [if_neg hv,AZ l hh];rfl
     ·rw [xy,hh]
      simp only
      split
      ·rename_i e
       cases hp:s.ptr with
       |none=>rfl
       |some p=>exact absurd ⟨by rw [hp];rfl,e⟩ hv
      ·rfl
   |some b=>exact Cv.Hq (dU (π0:=jh) (λb hb=>by
    rcases hb with ⟨l,q,h1,h2⟩|hb|⟨hb,_⟩
    ·obtain ⟨q0,h3,rfl⟩:=un l q h1;exact .inl ⟨l,q0,h3,h2⟩
    ·exact .inr hb
    ·cases hb) rfl (λ_=>rfl) s.ins 0 x us LF l b hh) (BE l b hh)
  ·show Ak _ w _ _ ((Rk s (Tk 0 s.ins x)++List.replicate _ AV.undef).getD t .undef) ((iy.toArray++Array.replicate _ undef).getD t undef)
   by_cases ht:t<iy.length
   ·rw [List.getD_eq_getElem?_getD,List.getElem?_append_left (by omega),<-List.getD_eq_getElem?_getD]
    rw [Array.getD_eq_getD_getElem?,Array.getElem?_append_left (by simpa using ht)]
    have:=g2 t _ _ (List.getElem?_eq_getElem (by omega)) (List.getElem?_eq_getElem ht)
    simpa [List.getD_eq_getElem?_getD,List.getElem?_eq_getElem ht,List.getElem?_eq_getElem (show t<(Rk s (Tk 0 s.ins x)).length by omega)] using this
   ·have:(Rk s (Tk 0 s.ins x)++List.replicate (fn.ntmps-(Rk s (Tk 0 s.ins x)).length) AV.undef).getD t .undef= .undef:=by
     rw [List.getD_eq_getElem?_getD,List.getElem?_append_right (by omega)]
     rw [List.getElem?_replicate]
     split<;>rfl
    rw [this];trivial
 have fin: ∀(st:St) (a':Act) (w':World),AD T s fn x st (λz=>z=(r,o))->Rel ⟨w,Sg,Nf jh,π0⟩ st a' w'->PC P s fn x w S π g r o a' w':=by
  intro st a' w' js BK
  obtain ⟨Uc,h'⟩:=BK
  have JF:Ah<=Kq:=by unfold Ah Kq;omega
  obtain ⟨bc,iI,ZH,hbc⟩: ∃bc,cp T s fn x st bc (λz=>z=(r,o))/\(s.ptr.isSome=true-> ∃b,Ad st.heap Kq=some b/\b.row=none)/\
    (Il st 0 s.ins=some o-> ∃bv,He ⟨w,Sg,Nf jh,π0⟩ w' Uc st.heap bc bv/\bv.length=s.Rl/\ ∀tl,dx s π w' g (bv++tl) o):=by
   unfold AD at js
   cases hp:s.ptr with
   |none=>
    rw [hp] at js
    exact ⟨[],js,λh=>by simp at h,λ_=>⟨[],trivial,by simp [MSpec.Rl,hp],λtl=>by simp [dx,hp]⟩⟩
   |some p=>
    rw [hp] at js
    obtain ⟨vs,cs,h1,h2,h3,h4,h5⟩:=js
    unfold St.at at h1
    refine ⟨cs,h5,λ_=>⟨_,h1,rfl⟩,λpA=>?_⟩
    obtain ⟨q,k1,k2,cur,k3,k4⟩:=(h'.1.heap Kq).La h1
    have hsv:Sy (π0 Kq) (Uc Kq):=h'.1.bk Kq JF (by rw [h1];simp)
    rw [BQ (by rw [hp];rfl),k1] at hsv
    have RF:g=q.g:=hsv.1
    obtain ⟨bv,g1,g2,g3⟩:=Px (π0:=jh) (λk hk=>h'.1.bk _ (Nat.le_of_not_lt (Sm k)) hk) s.ins 0 vs cur.toList cs o (He.of k4) h3 h4 pA
    refine ⟨bv,g1,by rw [g2,h2];simp [MSpec.Rl,hp],λtl=>?_⟩
    unfold dx
    rw [hp]
    refine ⟨cur.toList,by rw [RF];simpa using k3,λu hu=>?_,Bt.congr s.ins 0 o p.2 _ _ JA (h2▸g3 tl)⟩
    obtain ⟨i,hi,rfl⟩:=List.mem_iff_getElem.1 hu
    have hl:=k4.1
    obtain ⟨u',h6,h7,_⟩:=k4.2 i (vs[i]'(by omega)) (List.getElem?_eq_getElem _)
    rw [List.getElem?_eq_getElem hi] at h6
    rw [Option.some.inj h6];exact h7
  unfold cp at iI
  split at iI
  ·exact iI.elim
  rename_i l hl
  split at iI
  ·exact iI.elim
  rename_i as ml aU
  split at iI
  rotate_left
  ·exact iI.elim
  rename_i r' ls o' vr nU
  obtain ⟨Et,nZ,BL⟩:=iI
  simp only [Bool.and_eq_true,Nat.blt_eq] at Et
  obtain ⟨⟨⟨zS,Aco⟩,Aay⟩,QQ⟩:=Et
  simp only [Prod.mk.injEq] at BL
  obtain ⟨rfl,rfl⟩:=BL
  obtain ⟨bv,WY,WZ,WX⟩:=hbc nU
  have vo:=Pg zS
  obtain ⟨n1,n2,n3⟩:=List.nodup_append.1 vo
  obtain ⟨m1,m2,m3⟩:=List.nodup_append.1 n1
  obtain ⟨vs,v1,v2,v3,v4⟩:=Pj hT h' _ _ hl
  have GL:fn.results=fn.results.toList.toArray:=Array.toArray_toList.symm
  have Nc: ∀v,(if h:vs.toArray.size=1 then vs.toArray[0] else .tuple vs.toArray)=v->(results fn a'.tmps).run P w'= .ok v w':=by
   intro v hv
   rw [Yq,GL,List.mapM_toArray]
   simp only [map_eq_pure_bind,bind_assoc,pure_bind]
   simp only [Sem.run_bind,tJ (wv a'.tmps) _ vs v1 v3,Result.andThen_ok,Sem.run_pure]
   rw [hv]
  obtain ⟨nz,v,qm,ZG,hv,JG⟩: ∃nz v qm,He ⟨w,Sg,Nf jh,π0⟩ w' Uc st.heap as nz/\(results fn a'.tmps).run P w'= .ok v w'/\
    ((s.rp=none/\ml= []/\qm=none/\DF s.Dt s.Fk nz v/\Uw s.Fk nz)\/
     ∃tid m q,s.rp=some tid/\ml= [m]/\m<Ah/\qm=some q/\Uc m=some q/\q.Ar q.g/\w'.heap[q.g]?=some (.cells nz.toArray tid (0,0))/\(∀u∈nz,u.oneCell'=true)/\v= .pointer (some ⟨q.g,0,none⟩)):=by
   unfold wu at aU
   split at aU
   ·rename_i uw
    split at aU
    rotate_left
    ·cases aU
    rename_i hmul
    cases zV:ungroup s.Fk l with
    |none=>rw [zV] at aU;cases aU
    |some as'=>
     rw [zV] at aU
     simp only [Option.map_some,Option.some.injEq,Prod.mk.injEq] at aU
     obtain ⟨rfl,rfl⟩:=aU
     obtain ⟨nz,e1,e2,e3⟩:=Uy s.Fk l vs as' (by omega) v4 zV
     have hv: ∃v,(results fn a'.tmps).run P w'= .ok v w'/\DF s.Dt s.Fk nz v:=by
      unfold DF
      rw [<-e1,hmul]
      rcases Nat.lt_or_ge 1 l.length with h1|h1
      ·have AX:Nat.blt 1 l.length=true:=by simpa using h1
       simp only [AX,if_true]
       refine ⟨.tuple vs.toArray,Nc _ ?_,rfl⟩
       rw [dif_neg (by simp;omega)]
      ·have AX:Nat.blt 1 l.length=false:=by rw [<-Bool.not_eq_true];simpa using h1
       simp only [AX,Bool.false_eq_true,if_false]
       rcases vs with _|⟨v,_|⟨v',vs⟩⟩
       ·exact ⟨_,Nc _ (by simp;rfl), .inr rfl⟩
       ·exact ⟨v,Nc _ (by simp), .inl rfl⟩
       ·exfalso;simp only [List.length_cons] at v1;omega
     obtain ⟨v,hv1,hv2⟩:=hv
     exact ⟨nz,v,none,e3,hv1, .inl ⟨uw,rfl,rfl,hv2,e2⟩⟩
   ·rename_i tid uw
    split at aU
    rotate_left
    ·cases aU
    rename_i m i
    split at aU
    rotate_left
    ·cases aU
    rename_i Mp rq hm
    split at aU
    rotate_left
    ·cases aU
    rename_i hc
    obtain ⟨rfl,rfl,EY⟩:=hc
    simp only [Option.some.injEq,Prod.mk.injEq] at aU
    obtain ⟨rfl,rfl⟩:=aU
    unfold St.at at hm
    rcases vs with _|⟨v,_|⟨v',vs⟩⟩
    ·exfalso;simp only [List.length_cons,List.length_nil] at v1 v2;omega
    ·obtain ⟨q,Aeq,vs2,q1,q2,q3⟩:=v4 0 _ v rfl rfl
     rw [hm] at q1;cases q1
     obtain ⟨q',k1,k2,cur,k3,k4⟩:=(h'.1.heap m).La hm
     rw [q2] at k1;cases k1
     refine ⟨cur.toList,v,some q,He.of k4,Nc _ (by simp), .inr ⟨_,m,q,uw,rfl,by simpa using EY,rfl,q2,k2,by simpa using k3,λu hu=>?_,q3⟩⟩
     obtain ⟨i,hi,rfl⟩:=List.mem_iff_getElem.1 hu
     have hl:=k4.1
     obtain ⟨u',h6,h7,_⟩:=k4.2 i (rq[i]'(by omega)) (List.getElem?_eq_getElem _)
     rw [List.getElem?_eq_getElem hi] at h6
     rw [Option.some.inj h6];exact h7
    ·exfalso;simp only [List.length_cons,List.length_nil] at v1 v2;omega
  obtain ⟨ru,p1,p2,p3,p4,p5⟩:=ou h'.1 s.outs 0 (bc++as) (bv++nz) r' ls (WY.append ZG) vr m2
  obtain ⟨VE,io2⟩:=Mh (π0:=jh) h'.1 (λ_=>rfl) s.ins 0 x us o' LF nU
  have QF:(bv++nz).drop s.Rl=nz:=by rw [<-WZ];simp
  let ρ:Pi:= λl0=>if l0=Ey s.outs.length then qm else ru l0
  have MG:ρ (Ey s.outs.length)=qm:=if_pos rfl
  have SF: ∀l0,l0≠Ey s.outs.length->ρ l0=ru l0:= λl0 h=>if_neg h
  have SE: ∀j,j<s.outs.length->ρ (Ey j)=ru (Ey j):= λj hj=>SF _ (by unfold Ey;omega)
  have mh: ∀l0 q,ρ l0=some q->(l0=Ey s.outs.length/\qm=some q)\/(l0≠Ey s.outs.length/\ru l0=some q):= λl0 q h=>by
   by_cases e:l0=Ey s.outs.length
   ·subst e;rw [MG] at h;exact .inl ⟨rfl,h⟩
   ·rw [SF l0 e] at h;exact .inr ⟨e,h⟩
  have RG: ∀q,qm=some q-> ∃m,ml= [m]/\m<Ah/\Uc m=some q:= λq hq=>by
   rcases JG with ⟨_,_,h1,_⟩|⟨_,m,q',_,h1,h2,h3,h4,_⟩
   ·rw [h1] at hq;cases hq
   ·rw [h3] at hq;cases hq;exact ⟨m,h1,h2,h4⟩
  have VM: ∀l0 q b,ρ l0=some q->q.Ar b-> ∃l1∈ml++ls,∃p,Uc l1=some p/\p.cl b/\((s.outs.all λc=>!c.JP)=true->p.Ar b)/\((l1∈ls)\/l1<Ah):= λl0 q b h1 h2=>by
   rcases mh l0 q h1 with ⟨_,h3⟩|⟨_,h3⟩
   ·obtain ⟨m,e1,e2,e3⟩:=RG q h3
    exact ⟨m,by rw [e1];simp,q,e3,h'.1.sub m q b e3 h2,λ_=>h2, .inr e2⟩
   ·obtain ⟨l1,g1,p,g2,g3,g4⟩:=p3 l0 q b h3 h2
    exact ⟨l1,List.mem_append_right _ g1,p,g2,g3,g4, .inl g1⟩
  have p4': ∀l0 l1 q q' b,ρ l0=some q->ρ l1=some q'->q.Ar b->q'.Ar b->l0=l1:= λl0 l1 q q' b h1 h2 h3 h4=>by
   have rY: ∀l0 q q' b,ru l0=some q->qm=some q'->q.Ar b->q'.Ar b->False:= λl0 q q' b h1 h2 h3 h4=>by
    obtain ⟨m,e1,e2,e3⟩:=RG q' h2
    obtain ⟨l1,g1,p,g2,g3,_⟩:=p3 l0 q b h1 h3
    have:=h'.1.inj m l1 q' p b e3 g2 (h'.1.sub m q' b e3 h4) g3
    exact m3 m (by rw [e1];simp) l1 g1 this
   rcases mh l0 q h1 with ⟨e1,h5⟩|⟨e1,h5⟩<;>rcases mh l1 q' h2 with ⟨e2,h6⟩|⟨e2,h6⟩
   ·rw [e1,e2]
   ·exact (rY l1 q' q b h6 h5 h4 h3).elim
   ·exact (rY l0 q q' b h5 h6 h3 h4).elim
   ·exact p4 l0 l1 q q' b h5 h6 h3 h4
  have xD: ∀l0 q,Ah<=l0->jh l0=some q->Ad st.heap l0≠none/\(l0∈Ja 0 s.ins\/ ∃b,Ad st.heap l0=some b/\b.row=none):= λl0 q h1 h2=>by
   rcases zz l0 q h2 with ⟨h3,_⟩|⟨h3,rfl,_⟩
   ·have pA:=o5 s.ins 0 x l0 QU (by omega) (λhnn=>by rw [AZ l0 hnn] at h3;cases h3) (by omega)
    exact ⟨io2 l0 pA, .inl pA⟩
   ·obtain ⟨b,h4,h5⟩:=ZH h3
    exact ⟨by rw [h4];simp, .inr ⟨b,h4,h5⟩⟩
  have hDO:(s.outs.all λc=>!c.JP)=true-> ∀b,cy Sg jh ρ b->Nf Uc b\/Sg b:=by
   intro hx b hb
   rcases hb with hb|⟨l0,q,h1,h2,h3⟩|⟨l0,q,h1,h2⟩
   ·exact .inr hb
   ·have hs:=h'.1.bk l0 h1 (xD l0 q h1 h2).1
    have hs:Sy ((jh l0).map full) (Uc l0):=hs
    rw [h2] at hs
    cases rk:Uc l0 with
    |none=>rw [rk] at hs;exact hs.elim
    |some q1=>rw [rk] at hs;exact .inl ⟨l0,q1,rk,(hs.2.2.2 b).1 h3⟩
   ·obtain ⟨m,_,p,UX,_,LN,_⟩:=VM l0 q b h1 h2
    exact .inl ⟨m,p,UX,LN hx⟩
  have hDD: ∀b,cy S π ρ b->cy Sg jh ρ b:= λb hb=>by
   rcases hb with hb|⟨l0,q,h1,h2,h3⟩|hb
   ·by_cases zQ:s.gv g b
    ·obtain ⟨OQ,rfl⟩:=zQ
     exact .inr (.inl ⟨Kq,_,JF,if_pos ⟨OQ,rfl⟩,rfl⟩)
    ·exact .inl ⟨hb,zQ⟩
   ·refine .inr (.inl ⟨l0,q,h1,?_,h3⟩)
    show (if s.ptr.isSome=true/\l0=Kq then _ else π l0)=some q
    rw [if_neg]
    ·exact h2
    ·rintro ⟨_,rfl⟩
     rw [AZ Kq MA] at h2;cases h2
   ·exact .inr (.inr hb)
  have ET:s.flat=true\/(s.outs.all λc=>!c.JP)=true:=by unfold MSpec.CM at QQ;simpa only [Bool.or_eq_true] using QQ
  have VE:Gk w' (cy S π ρ) π 0 s.ins o':=by
   refine Gk.congr s.ins 0 o' JA ?_
   rcases ET with hf|hf
   ·unfold MSpec.flat at hf
    simp only [Bool.and_eq_true] at hf
    exact Gk.any s.ins 0 o' hf.2 VE
   ·exact Gk.Ek (λb hb=>hDO hf b (hDD b hb)) s.ins 0 o' VE
  have p1:El w' (cy S π ρ) ρ 0 s.outs r' (bv++nz):=by
   have p1:El w' (λb=>Nf Uc b\/Sg b) ρ 0 s.outs r' (bv++nz):=El.AQ s.outs 0 r' _ (λj _ hj=>SE j (by omega)) p1
   rcases ET with hf|hf
   ·unfold MSpec.flat at hf
    simp only [Bool.and_eq_true] at hf
    exact El.any s.outs 0 r' (bv++nz) hf.1 p1
   ·exact El.Ek (λb hb=>hDO hf b (hDD b hb)) s.outs 0 r' (bv++nz) p1
  refine ⟨v,bv++nz,ρ,h'.2.defers,hv,?_,WX nz,⟨h'.1.below.os,h'.1.below.tape,h'.1.below.output,h'.1.below.size,λk hk hn=>h'.1.below.block k hk λho=>hn ((Wj k).1 ho)⟩,VE,p1,⟨λl0 q b h1 h2=>?_,p4'⟩,λl0 LM=>?_,λkj zR=>?_⟩
  ·rw [QF]
   unfold jW
   rcases JG with ⟨h1,_,_,h2⟩|⟨tid,m,q,h1,_,_,h3,_,h4,h5,h6,h7⟩
   ·rw [h1];exact h2
   ·rw [h1];exact ⟨q,by rw [MG,h3],h4,h5,h6,h7⟩
  ·obtain ⟨m,OL,p,UX,hm3,_,LN⟩:=VM l0 q b h1 h2
   obtain ⟨k1,k2⟩:=h'.1.place m p b UX hm3
   refine ⟨k2,k1.imp id λ⟨c0,q0,h5,h6⟩=>?_⟩
   have Gu:c0<Ah:=Classical.byContradiction λhn=>by
    obtain ⟨Ev,pA⟩:=xD c0 q0 (by omega) h5
    have hs:=h'.1.bk c0 (by omega) Ev
    have hs:Sy ((jh c0).map full) (Uc c0):=hs
    rw [h5] at hs
    cases rk:Uc c0 with
    |none=>rw [rk] at hs;exact hs.elim
    |some q1=>
     rw [rk] at hs
     have UM:q1.Ar b:=(hs.2.2.2 b).1 h6
     have:=h'.1.inj c0 m q1 p b rk UX (h'.1.sub c0 q1 b rk UM) hm3
     subst this
     rcases LN with LN|LN
     ·rcases pA with pA|⟨b1,AX,PY⟩
      ·exact n3 c0 OL c0 pA rfl
      ·obtain ⟨b2,UI,hb4⟩:=lh s.outs _ _ _ vr c0 LN
       rw [AX] at UI;cases UI
       exact hb4 PY
     ·exact hn LN
   refine ⟨c0,q0,Gu,?_,h6⟩
   rcases zz c0 q0 h5 with ⟨h7,_⟩|⟨_,h7,_⟩
   ·exact h7
   ·omega
  ·cases hp:ρ l0 with
   |none=>rfl
   |some q=>
    rcases mh l0 q hp with ⟨e,h3⟩|⟨_,h3⟩
    ·refine absurd e (LM _ ?_)
     rcases JG with ⟨_,_,h4,_⟩|⟨tid,m,q',h4,_⟩
     ·rw [h4] at h3;cases h3
     ·unfold MSpec.Ml;rw [h4];simp
    ·obtain ⟨j,_,j2,j3⟩:=p2 l0 q h3
     exact absurd j3 (LM j (by unfold MSpec.Ml;omega))
  ·obtain ⟨l0,off,len,e,te,rows,out,p,q1,q2,q3,q4,q5⟩:=o8 nZ kj zR
   have hj:kj.2<s.outs.length:=by
    rw [<-oq s.outs _ _ _ vr]
    exact (List.getElem?_eq_some_iff.1 q1).1
   have e1:=p5 kj.2 l0 off len e te rows out (some p) q1 q2
   rw [Nat.zero_add] at e1
   rw [SE _ hj,e1]
   have hk:=((h'.1.heap l0).La q2).2
   obtain ⟨l1,n1⟩:=p
   simp only [KeptAt] at hk
   dsimp only at q3 q4
   subst q3
   have yz:π0 (Bm false kj.1)=(π (Bm false kj.1)).map full:=by
    show (if s.ptr.isSome=true/\Bm false kj.1=Kq then _ else π (Bm false kj.1)).map full=_
    rw [if_neg λh=>RT false kj.1 q5 h.2]
   rw [yz] at hk
   unfold ry
   cases hp:π (Bm false kj.1) with
   |none=>
    rw [hp] at hk
    cases rk:Uc l0 with
    |none=>trivial
    |some q=>rw [rk] at hk;exact hk.elim
   |some q0=>
    rw [hp] at hk
    cases rk:Uc l0 with
    |none=>rw [rk] at hk;exact hk.elim
    |some q=>
     rw [rk] at hk
     obtain ⟨k1,k2,k3,k4⟩:=hk
     exact ⟨k1,k2,k3,λj hj hc=>k4 j (by omega) hc⟩
 refine calls_of_wp hf hb ?_
 refine (lB hT Lb hm he _ w _ h0 λe st a' w' ⟨Ev,js⟩ h'=>?_).1
 obtain ⟨v,Qz,ρ,p1,p2,p3⟩:=fin st a' w' js h'
 cases e with
 |normal=>exact ⟨p1,v,p2,v,Qz,ρ,rfl,p3⟩
 |ret=>exact ⟨p1,v,p2,v,Qz,ρ,rfl,p3⟩
 |exit id=>exact absurd rfl (Ev id)
end
end Go.Proofs.Ytjbdmibbbpdnnaa
