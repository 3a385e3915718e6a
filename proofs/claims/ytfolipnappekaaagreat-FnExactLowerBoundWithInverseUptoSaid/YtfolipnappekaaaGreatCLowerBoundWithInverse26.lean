/-
  Part 27 of the proof that the statement FnExactLowerBoundWithInverse holds.
-/
import Derived.Test.YtfolipnappekaaaGreatCLowerBoundWithInverse25
namespace Go.Proofs.YtfolipnappekaaaGreat
open Go.RowKit
section
variable {P:Program} {T:Tab} {Γ:Env} {X:Ctx} {w w':World} {π:Pi} {H:List (Nat×OB)}
theorem nv: ∀(cs:List (Bool×CK)) (k:Nat) (x:Ins.den cs) (l:Nat),Ad (Sb k cs x) l≠none-> ∃b j,k<=j/\j<k+cs.length/\l=Bq b j
 | [],_,_,_,h=>absurd rfl h
 |p::r,k,x,l,h=>by
  simp only [Sb] at h
  by_cases e:l=Bq p.1 k
  ·exact ⟨p.1,k,Nat.le_refl _,by simp,e⟩
  ·have:Ad (Sb (k+1) r x.2) l≠none:=by
    cases hc:ef (Bq p.1 k) p.2 x.1 with
    |none=>rw [hc] at h;exact h
    |some b=>rw [hc] at h;simpa only [c8,Ad,if_neg (Ne.symm e)] using h
   obtain ⟨b,j,h1,h2,h3⟩:=nv r (k+1) x.2 l this
   exact ⟨b,j,by omega,by simp;omega,h3⟩
theorem FO {p:Bool×CK} {r:List (Bool×CK)} {k:Nat} {x:Ins.den (p::r)} (hk:k+(r.length+1)<100000) {l:Nat} {b:OB} (h:Ad (Sb (k+1) r x.2) l=some b):Ad (Sb k (p::r) x) l=some b:=by
 obtain ⟨b',j,h1,h2,rfl⟩:=nv r (k+1) x.2 l (by rw [h];simp)
 simp only [Sb]
 cases ef (Bq p.1 k) p.2 x.1 with
 |none=>exact h
 |some c=>simp only [c8,Ad];rw [if_neg (EB (by omega) (by omega) (by omega))];exact h
theorem JR {D:Nat->Prop} (hD: ∀b,Bd X.w0.heap.size X.Sc π false b->D b) (WQ:X.w0=w) {l:Nat} {r:Option Real} (Sr:X.bM l=r.map full) {u:Value} {c:CK} {x:c.den} (h:Zq w D r u c x) {b:OB} (hb:ef l c x=some b):Au X w π H (r.map full) b:=by
 have Ry: ∀ {e:Ty} {es:List Value} {y:e.den},Cells w D e es y->Cells w (Bd X.w0.heap.size X.Sc π false) e es y:= λ {e es y} h=>Cells.Cj (Nat.le_refl _) (λ_ _ _=>rfl) (λb _ hb=>hD b hb) e es y h
 cases c with
 |Ee τ=>cases hb
 |row e te=>
  simp only [ef,Option.some.injEq] at hb;subst hb
  obtain ⟨_,h⟩:=h
  simp only [aY] at h
  simp only [Au,Fm]
  cases r with
  |none=>exact h
  |some q=>
   obtain ⟨k1,cu,ti,k2,k3,k4,k5,k6⟩:=h
   exact ⟨⟨k1.1,k1.2,λh=>by cases h⟩,cu,ti,k2,k3,k4,k5,λi y hy=>by
    obtain ⟨es,g1,g2,g3⟩:=k6 i y hy
    exact ⟨es,g1,g2,Ry g3⟩,λh=>by cases h⟩
 |Dq e te=>
  simp only [ef,Option.some.injEq] at hb;subst hb
  cases r<;>exact h.2
 |part e te=>
  simp only [ef,Option.some.injEq] at hb;subst hb
  obtain ⟨_,hf,h⟩:=h
  simp only [Au,Fm]
  cases r with
  |none=>exact h
  |some q=>
   obtain ⟨k1,cu,ti,k2,k3,k4,k5,k6⟩:=h
   exact ⟨⟨k1.1,k1.2,λh=>by cases h⟩,cu,ti,k2,k3,k4,k5,λi y hy=>by
    obtain ⟨es,g1,g2,g3⟩:=k6 i y hy
    exact ⟨es,g1,g2,Ry g3⟩,λh=>by cases h⟩
 |Ah e te kp=>
  simp only [ef,Option.some.injEq] at hb;subst hb
  have h2:Ta w D r e x none:=h.2
  have h3:=Ta.El h2 hD
  refine ⟨by cases r<;>exact h3,?_⟩
  cases kp with
  |false=>trivial
  |true=>
   simp only [if_true,KeptAt]
   rw [Sr]
   cases r with
   |none=>trivial
   |some q=>exact ⟨rfl,rfl,rfl,λj _ _=>by rw [WQ]⟩
theorem fP {D:Nat->Prop} (hD: ∀b,Bd X.w0.heap.size X.Sc π false b->D b) (WQ:X.w0=w) {π0:Pi} (Sr: ∀l,X.bM l=(π0 l).map full): ∀(cs:List (Bool×CK)) (k:Nat) (x:Ins.den cs) (us:List Value),Zr w D π0 k cs x us-> ∀l b,Ad (Sb k cs x) l=some b->Au X w π H ((π0 l).map full) b
 | [],_,_,_,_,_,_,h=>by cases h
 |_::_,_,_,[],h,_,_,_=>h.elim
 |p::r,k,x,u::us,h,l,b,hb=>by
  simp only [Sb] at hb
  cases hc:ef (Bq p.1 k) p.2 x.1 with
  |none=>rw [hc] at hb;exact fP hD WQ Sr r (k+1) x.2 us h.2 l b hb
  |some c=>
   rw [hc] at hb
   simp only [c8,Ad] at hb
   split at hb
   ·rename_i e;subst e
    simp only [Option.some.injEq] at hb;subst hb
    exact JR hD WQ (Sr _) h.1 hc
   ·exact fP hD WQ Sr r (k+1) x.2 us h.2 l b hb
theorem wP {S:Nat->Prop} {π0:Pi} {gv:Nat->Prop} {bM:Pi} (Yt: ∀l,π l=(π0 l).map full): ∀(cs:List (Bool×CK)) (k:Nat) (x:Ins.den cs) (us:List Value),k+cs.length<100000->Zr w (λb=>Ol π0 b\/S b) π0 k cs x us->(∀l b,Ad (Sb k cs x) l=some b->Ad H l=some b)->
  Ia ⟨w,S,gv,bM⟩ w π H (Vf k cs x) us
 | [],_,_,[],_,_,_=>trivial
 | [],_,_,_::_,_,h,_=>h.elim
 |_::_,_,_,[],_,h,_=>h.elim
 |p::r,k,x,u::us,hk,h,hH=>by
  simp only [List.length_cons] at hk
  refine ⟨?_,wP Yt r (k+1) x.2 us (by omega) h.2 λl b hb=>hH l b (FO hk hb)⟩
  have h1:=h.1
  have hh: ∀b,ef (Bq p.1 k) p.2 x.1=some b->Ad H (Bq p.1 k)=some b:= λb hb=>hH _ b (by simp only [Sb];rw [hb];simp [c8,Ad])
  have dK:=Yt (Bq p.1 k)
  obtain ⟨io,c⟩:=p
  dsimp only at h1 hh dK⊢
  generalize x.1=y at*
  cases c with
  |Ee τ=>
   show Bb w _ τ u y
   cases hf:τ.flat with
   |true=>exact Bb.flat hf h1.2
   |false=>
    refine h1.2.El λb _ hb=>?_
    rcases hb with ⟨l,q,h3,h4⟩|hb|⟨hb,_⟩
    ·rw [Yt l] at h3
     cases hp:π0 l with
     |none=>rw [hp] at h3;cases h3
     |some q0=>rw [hp] at h3;simp only [Option.map_some,Option.some.injEq] at h3;subst h3;exact .inl ⟨l,q0,hp,h4⟩
    ·exact .inr hb
    ·cases hb
  |row e te=>exact ⟨_,e.size,List.length y,hh _ rfl,rfl,by simp,by rw [dK];exact Si h1.1⟩
  |Dq e te=>exact ⟨_,e.size,List.length y,hh _ rfl,rfl,by simp,by rw [dK];exact Si h1.1⟩
  |part e te=>exact ⟨_,e.size,List.length y.1,hh _ rfl,rfl,h1.1.2,by rw [dK];exact Si h1.1.1⟩
  |Ah e te kp=>exact ⟨_,1,List.length y,hh _ rfl,rfl,by simp,by rw [dK];exact Si h1.1⟩
theorem jQ {p:Real} {s off len:Nat} {u:Value} {f:Nat->Prop} (h:Dw (some p) s off len u):Dw (some ⟨p.g,p.o+off,p.cap-off,f,f⟩) s 0 len u:=by
 obtain ⟨ad,h1,h2,h3⟩:=h
 exact ⟨ad,h1,by dsimp only;omega,λh0=>by dsimp only at h0;simpa using h3 (by omega)⟩
theorem nY {α:Type} {xs:List α} {off len i:Nat} {x:α} (h:((xs.drop off).take len)[i]?=some x):xs[off+i]?=some x:=by
 rw [List.getElem?_take] at h
 split at h
 ·rw [List.getElem?_drop] at h;exact h
 ·cases h
theorem Pw.part {P:Nat->Prop} {g o:Nat} {cur:Array Value} {e:Ty} {xs:List e.den} (off len:Nat) (h:Pw w P g o cur e xs):Pw w P g (o+off) cur e ((xs.drop off).take len):=by
 obtain ⟨Fs,t1,t2,t3,t4⟩:=h
 refine ⟨(Fs.drop off).take len,by simp [t1],List.nodup_cons.2 ⟨λhm=>(List.nodup_cons.1 t2).1 (Lx off len _ hm),fX off len (List.nodup_cons.1 t2).2⟩,λb hb=>t3 b (Lx off len b hb),λi x F hx hF=>?_⟩
 obtain ⟨es,k1,k2,k3⟩:=t4 (off+i) x F (nY hx) (nY hF)
 exact ⟨es,k1,λj u hu=>by rw [Nat.add_assoc o off i];exact k2 j u hu,k3⟩
theorem GB {st:St} (h:Hz X w π st.heap) {c:CK} (hg: ∀e te kp,c≠ .Ah e te kp) {a:AC} {u:Value} (hu:Dr X w π st.heap a u) {x:c.den} {ls:List Nat} (he:ej st c a=some (x,ls)):
  ∃r,Zq w (λb=>Ol π b\/X.Sc b) r u c x/\ ∀q,r=some q-> ∃l p,ls= [l]/\π l=some p/\(∀b,q.Ba b->p.cl b)/\(c.TS=false-> ∀b,q.Ba b->p.Ba b):=by
 have DH: ∀ {f:Bool} (b:Nat),(Ol π b\/X.Sc b)->Bd X.w0.heap.size X.Sc π f b:= λb h=>h.imp id .inl
 cases c with
 |Ee τ=>
  simp only [ej] at he
  split at he
  ·rename_i hf
   cases hv:Bl st τ a with
   |none=>rw [hv] at he;cases he
   |some p=>
    obtain ⟨fr,y⟩:=p
    rw [hv] at he
    simp only [Option.map_some,Option.some.injEq,Prod.mk.injEq] at he
    obtain ⟨rfl,rfl⟩:=he
    refine ⟨none,⟨rfl,?_⟩,λq hq=>by cases hq⟩
    have El: ∀f,Bb w (Bd X.w0.heap.size X.Sc π f) τ u y->Bb w (λb=>Ol π b\/X.Sc b) τ u y:= λf hr=>hr.El λk _ hk=>DH k hk
    cases a with
    |data f Iw z=>
     rw [Io] at hv
     split at hv
     ·rename_i ht;subst ht
      simp only [Option.some.injEq,Prod.mk.injEq] at hv
      obtain ⟨_,rfl⟩:=hv
      exact El f hu
     ·have Td:τ.Ab=false:=by unfold ca at hv;split at hv<;>first|rfl|cases hv
      exact El _ ⟨[u],Xn hv hu,by simp [Ar,Td]⟩
    |Hi=>
     have hu:u= .slice none 0 0:=hu
     subst hu
     cases τ<;>simp only [Bl,Option.some.injEq,Prod.mk.injEq,reduceCtorEq] at hv
     ·obtain ⟨_,rfl⟩:=hv;exact ⟨[_],⟨none,0,0,rfl,rfl,Nat.le_refl _, .inl rfl⟩,rfl⟩
     ·obtain ⟨_,rfl⟩:=hv;exact ⟨[_], .inl ⟨rfl,0,rfl⟩,rfl⟩
    |Pq=>
     have hu:u= .pointer none:=hu
     subst hu
     cases τ<;>simp only [Bl,Option.some.injEq,Prod.mk.injEq,reduceCtorEq] at hv
     obtain ⟨_,rfl⟩:=hv;exact ⟨[_], .inl ⟨rfl,rfl⟩,rfl⟩
    |_=>cases τ<;>simp [AC.settled,Ty.flat,Bl] at hf hv
  ·cases he
 |row e te=>
  cases a<;>simp only [ej] at he<;>try (cases he;done)
  ·simp only [Option.some.injEq,Prod.mk.injEq] at he
   obtain ⟨rfl,rfl⟩:=he
   have hu:u= .slice none 0 0:=hu
   exact ⟨none,⟨⟨hu,rfl,rfl⟩,rfl⟩,λq hq=>by cases hq⟩
  ·rename_i l off len
   split at he
   ·rename_i fr tr e' La xs hl
    split at he
    ·rename_i hc
     obtain ⟨rfl,rfl⟩:=hc
     simp only [Option.some.injEq,Prod.mk.injEq] at he
     obtain ⟨rfl,rfl⟩:=he
     unfold St.at at hl
     obtain ⟨h1,h2⟩:=Jb hu hl
     have hb:=(h.heap l).Ld hl
     simp only [Au,Fm] at hb
     have hlen:((xs.drop off).take len).length=len:=by simp;omega
     cases hp:π l with
     |none=>
      rw [hp] at h2 hb
      obtain ⟨rfl,rfl,rfl⟩:=h2
      exact ⟨none,⟨⟨rfl,rfl,by simp⟩,by show (xs.drop 0).take 0= [];simp⟩,λq hq=>by cases hq⟩
     |some p=>
      rw [hp] at h2 hb
      obtain ⟨k1,cur,ti,k2,k3,k4,k5,k6,_⟩:=hb
      have ho:=h2
      obtain ⟨ad,_,nf,_⟩:=h2
      refine ⟨some ⟨p.g,p.o+off,p.cap-off,p.Ba,p.Ba⟩,⟨by rw [hlen];exact jQ ho,⟨k1.1,k1.2.1⟩,cur,ti,k2,by rw [k3];congr 1;dsimp only;omega,by dsimp only;omega,by rw [hlen];dsimp only;omega,λi y hy=>?_⟩,
       fun q hq=>by cases hq;exact ⟨l,p,rfl,hp,λb hb=>h.sub l p b hp hb,λ_ b hb=>hb⟩⟩
      obtain ⟨es,g1,g2,g3⟩:=k6 (off+i) y (nY hy)
      exact ⟨es,g1,λj u hu=>by dsimp only;rw [Nat.add_assoc p.o off i];exact g2 j u hu,Cells.Cj (Nat.le_refl _) (λ_ _ _=>rfl) (λb _ hb=>DH b hb) e' es y g3⟩
    ·cases he
   ·cases he
 |Dq e te=>
  cases a<;>simp only [ej] at he<;>try (cases he;done)
  ·simp only [Option.some.injEq,Prod.mk.injEq] at he
   obtain ⟨rfl,rfl⟩:=he
   have hu:u= .slice none 0 0:=hu
   exact ⟨none,⟨⟨hu,rfl,rfl⟩,rfl⟩,λq hq=>by cases hq⟩
  ·rename_i l off len
   split at he
   ·rename_i fr tr e' La xs hl
    split at he
    ·rename_i hc
     obtain ⟨rfl,rfl,hf⟩:=hc
     simp only [Option.some.injEq,Prod.mk.injEq] at he
     obtain ⟨rfl,rfl⟩:=he
     unfold St.at at hl
     obtain ⟨h1,h2⟩:=Jb hu hl
     have hb:=(h.heap l).Ld hl
     simp only [Au,Fm] at hb
     have hlen:((xs.drop off).take len).length=len:=by simp;omega
     cases hp:π l with
     |none=>
      rw [hp] at h2 hb
      obtain ⟨rfl,rfl,rfl⟩:=h2
      exact ⟨none,⟨⟨rfl,rfl,by simp⟩,by show (xs.drop 0).take 0= [];simp⟩,λq hq=>by cases hq⟩
     |some p=>
      rw [hp] at h2 hb
      obtain ⟨k1,cur,ti,k2,k3,k4,k5,k6,k7⟩:=hb
      have ho:=h2
      obtain ⟨ad,_,nf,_⟩:=h2
      have ht:Pw w p.cl p.g p.o cur e' xs:=by
       simp only [Bool.or_eq_true] at hf
       rcases hf with hf|hf
       ·exact k7 hf
       ·exact gZ hf k6
      exact ⟨some ⟨p.g,p.o+off,p.cap-off,p.cl,p.cl⟩,⟨by rw [hlen];exact jQ ho,h.sub l p _ hp k1.1,cur,ti,k2,by rw [k3];congr 1;dsimp only;omega,by dsimp only;omega,by rw [hlen];dsimp only;omega,ht.part off len⟩,
       fun q hq=>by cases hq;exact ⟨l,p,rfl,hp,λb hb=>hb,λhx=>by cases hx⟩⟩
    ·cases he
   ·rename_i e' La xs hl
    split at he
    ·rename_i hc
     obtain ⟨rfl,rfl⟩:=hc
     simp only [Option.some.injEq,Prod.mk.injEq] at he
     obtain ⟨rfl,rfl⟩:=he
     unfold St.at at hl
     obtain ⟨h1,h2⟩:=Vp hu hl
     have hb:=(h.heap l).Ld hl
     simp only [Au,Ip] at hb
     have hlen:((xs.drop off).take len).length=len:=by simp;omega
     cases hp:π l with
     |none=>
      rw [hp] at h2 hb
      obtain ⟨rfl,rfl,rfl⟩:=h2
      exact ⟨none,⟨⟨rfl,rfl,by simp⟩,by show (xs.drop 0).take 0= [];simp⟩,λq hq=>by cases hq⟩
     |some p=>
      rw [hp] at h2 hb
      obtain ⟨k1,cur,ti,k2,k3,k4,k5,ht⟩:=hb
      have ho:=h2
      obtain ⟨ad,_,nf,_⟩:=h2
      exact ⟨some ⟨p.g,p.o+off,p.cap-off,p.Ba,p.Ba⟩,⟨by rw [hlen];exact jQ ho,k1,cur,ti,k2,by rw [k3];congr 1;dsimp only;omega,by dsimp only;omega,by rw [hlen];dsimp only;omega,ht.part off len⟩,
       fun q hq=>by cases hq;exact ⟨l,p,rfl,hp,λb hb=>h.sub l p b hp hb,λ_ b hb=>hb⟩⟩
    ·cases he
   ·cases he
 |part e te=>cases a<;>simp [ej] at he
 |Ah e te kp=>exact absurd rfl (hg e te kp)
theorem MG {st:St} (h:Hz X w π st.heap) {c:CK} {a:AC} {u:Value} (hu:Dr X w π st.heap a u) {x:c.den} {ls:List Nat} (he:ej st c a=some (x,ls)):
  ∃r,Zq w (λb=>Ol π b\/X.Sc b) r u c x/\(∀q,r=some q-> ∃l p,ls= [l]/\π l=some p/\(∀b,q.Ba b->p.cl b)/\(c.TS=false-> ∀b,q.Ba b->p.Ba b))/\
   (∀l off len e te rows out kp,a= .own l off len->Ad st.heap l=some (.Ah e te rows out kp)->r=π l):=by
 have pv:(∀e te kp,c≠ .Ah e te kp)->(∀l off len e te rows out kp,a=AC.own l off len->Ad st.heap l=some (OB.Ah e te rows out kp)->False)->
   ∃r,Zq w (λb=>Ol π b\/X.Sc b) r u c x/\(∀q,r=some q-> ∃l p,ls= [l]/\π l=some p/\(∀b,q.Ba b->p.cl b)/\(c.TS=false-> ∀b,q.Ba b->p.Ba b))/\
   (∀l off len e te rows out kp,a= .own l off len->Ad st.heap l=some (.Ah e te rows out kp)->r=π l):= λh1 h2=>by
  obtain ⟨r,g1,g2⟩:=GB h h1 hu he
  exact ⟨r,g1,g2,λl off len e te rows out kp h3 h4=>(h2 l off len e te rows out kp h3 h4).elim⟩
 cases c with
 |Ee τ=>
  refine pv (λ_ _ _ h=>by cases h) λl off len e te rows out kp h3 h4=>?_
  subst h3
  simp only [ej] at he
  split at he
  ·rename_i hf
   cases τ<;>simp [AC.settled,Ty.flat,Bl] at hf he
  ·cases he
 |row e te=>
  refine pv (λ_ _ _ h=>by cases h) λl off len e te rows out kp h3 h4=>?_
  subst h3
  simp only [ej,St.at,h4] at he
  cases he
 |Dq e te=>
  refine pv (λ_ _ _ h=>by cases h) λl off len e te rows out kp h3 h4=>?_
  subst h3
  simp only [ej,St.at,h4] at he
  cases he
 |part e te=>cases a<;>simp [ej] at he
 |Ah e te kp=>
  cases a<;>simp only [ej] at he<;>try (cases he;done)
  rename_i l off len
  split at he
  ·rename_i e' La rows kp' hl
   split at he
   ·rename_i hc
    obtain ⟨rfl,rfl,rfl,rfl⟩:=hc
    simp only [Option.some.injEq,Prod.mk.injEq] at he
    obtain ⟨rfl,rfl⟩:=he
    unfold St.at at hl
    obtain ⟨b,sz,n,h1,h2,_,h3⟩:=hu
    rw [hl] at h1;cases h1
    simp only [OB.row,Option.some.injEq,Prod.mk.injEq] at h2
    obtain ⟨rfl,rfl⟩:=h2
    have hb:=((h.heap l).Ld hl).1
    refine ⟨π l,⟨h3,Ta.El hb λb hb=>hb.imp id .inl⟩,λq hq=>⟨l,q,rfl,hq,λb hb=>h.sub l q b hq hb,λ_ b hb=>hb⟩,λl' Alz Alu _ _ _ _ _ he _=>?_⟩
    simp only [AC.own.injEq] at he
    rw [he.1]
   ·cases he
  ·cases he
theorem Ep.congr {D:Nat->Prop} {ρ ρ':Pi} : ∀(cs:List CK) (k:Nat) (x:CKs.den cs) (us:List Value),(∀j,k<=j->ρ' (Fq j)=ρ (Fq j))->Ep w D ρ k cs x us->Ep w D ρ' k cs x us
 | [],_,_,[],_,h=>h
 | [],_,_,_::_,_,h=>h.elim
 |_::_,_,_,[],_,h=>h.elim
 |c::r,k,x,u::us,he,h=>⟨by rw [he k (Nat.le_refl _)];exact h.1,Ep.congr r (k+1) x.2 us (λj hj=>he j (by omega)) h.2⟩
theorem rW {st:St} (h:Hz X w π st.heap): ∀(cs:List CK) (k:Nat) (as:List AC) (us:List Value) (x:CKs.den cs) (ls:List Nat),Ia X w π st.heap as us->Oa st cs as=some (x,ls)->ls.Nodup->
  ∃ρ:Pi,Ep w (λb=>Ol π b\/X.Sc b) ρ k cs x us/\(∀l q,ρ l=some q-> ∃j,k<=j/\j<k+cs.length/\l=Fq j)/\(∀l q b,ρ l=some q->q.Ba b-> ∃l0∈ls,∃p,π l0=some p/\p.cl b/\((cs.all λc=>!c.TS)=true->p.Ba b))/\
   (∀l l' q q' b,ρ l=some q->ρ l'=some q'->q.Ba b->q'.Ba b->l=l')/\
   (∀(j l off len:Nat) e te rows out kp,as[j]?=some (.own l off len)->Ad st.heap l=some (.Ah e te rows out kp)->ρ (Fq (k+j))=π l)
 | [],k,[],[],x,ls,_,he,_=>by
  simp only [Oa,Option.some.injEq,Prod.mk.injEq] at he
  exact ⟨λ_=>none,trivial,(λl q h=>by cases h),(λl q b h=>by cases h),(λl l' q q' b h=>by cases h),λj l off len e te rows out kp h=>by simp at h⟩
 | [],_,[],_::_,_,_,h,_,_=>h.elim
 | [],_,_::_,_,_,_,_,he,_=>by simp [Oa] at he
 |_::_,_,[],_,_,_,_,he,_=>by simp [Oa] at he
 |_::_,_,_::_,[],_,_,h,_,_=>h.elim
 |c::r,k,a::as,u::us,x,ls,hr,he,PA=>by
  simp only [Oa] at he
  split at he
  ·rename_i x1 t1 x2 t2 h1 h2
   simp only [Option.some.injEq,Prod.mk.injEq] at he
   obtain ⟨rfl,rfl⟩:=he
   obtain ⟨n1,n2,n3⟩:=List.nodup_append.1 PA
   obtain ⟨ρ,g1,g2,g3,g4,g5⟩:=rW h r (k+1) as us x2 t2 hr.2 h2 n2
   obtain ⟨rr,r1,r2,r3⟩:=MG h hr.1 h1
   have w7: ∀l q q0 b,ρ l=some q->rr=some q0->q.Ba b->q0.Ba b->False:= λl q q0 b h3 h4 h5 h6=>by
    obtain ⟨l0,m0,p,p1,p2,_⟩:=g3 l q b h3 h5
    obtain ⟨l1,p',e1,p1',p2',_⟩:=r2 q0 h4
    have:=h.inj l0 l1 p p' b p1 p1' p2 (p2' b h6)
    exact n3 l1 (by rw [e1];simp) l0 m0 this.symm
   refine ⟨λl=>if l=Fq k then rr else ρ l,⟨by simpa using r1,Ep.congr r (k+1) x2 us (λj hj=>if_neg (by unfold Fq;omega)) g1⟩,λl q hq=>?_,λl q b hq hb=>?_,λl l' q q' b h3 h4 h5 h6=>?_,λj l off len e te rows out kp hj hl=>?_⟩
   ·dsimp only at hq
    by_cases e:l=Fq k
    ·exact ⟨k,Nat.le_refl _,by simp,e⟩
    ·rw [if_neg e] at hq
     obtain ⟨j,j1,j2,j3⟩:=g2 l q hq
     exact ⟨j,by omega,by simp;omega,j3⟩
   ·dsimp only at hq
    by_cases e:l=Fq k
    ·rw [if_pos e] at hq
     obtain ⟨l1,p',e1,p1',p2',p3'⟩:=r2 q hq
     exact ⟨l1,by rw [e1];simp,p',p1',p2' b hb,λhx=>p3' (by simp only [List.all_cons,Bool.and_eq_true,Bool.not_eq_true'] at hx;exact hx.1) b hb⟩
    ·rw [if_neg e] at hq
     obtain ⟨l0,m0,p,p1,p2,p3⟩:=g3 l q b hq hb
     exact ⟨l0,List.mem_append_right _ m0,p,p1,p2,λhx=>p3 (by simp only [List.all_cons,Bool.and_eq_true] at hx;exact hx.2)⟩
   ·dsimp only at h3 h4
    by_cases e:l=Fq k<;>by_cases e':l'=Fq k
    ·rw [e,e']
    ·rw [if_pos e] at h3;rw [if_neg e'] at h4
     exact (w7 l' q' q b h4 h3 h6 h5).elim
    ·rw [if_neg e] at h3;rw [if_pos e'] at h4
     exact (w7 l q q' b h3 h4 h5 h6).elim
    ·rw [if_neg e] at h3;rw [if_neg e'] at h4
     exact g4 l l' q q' b h3 h4 h5 h6
   ·rcases j with _|j
    ·simp only [List.getElem?_cons_zero,Option.some.injEq] at hj
     show (if Fq k=Fq k then rr else ρ (Fq k))=π l
     rw [if_pos rfl]
     exact r3 l off len e te rows out kp hj hl
    ·have:=g5 j l off len e te rows out kp (by simpa using hj) hl
     show (if Fq (k+(j+1))=Fq k then rr else ρ (Fq (k+(j+1))))=π l
     rw [if_neg (by unfold Fq;omega),<-this,show k+(j+1)=k+1+j by omega]
  ·cases he
theorem xM {r r':Option Real} (h:Ur (r.map full) r') {e:Ty} {xs:List e.den} {te:TypeId} {fr tr:Bool} (ha:Fm X w π r' fr tr e te xs):Mh w (λb=>Ol π b\/X.Sc b) r e xs:=by
 cases r with
 |none=>cases r' with
  |none=>exact ha
  |some q=>exact h.elim
 |some p=>cases r' with
  |none=>exact h.elim
  |some q=>
   obtain ⟨e1,e2,e3,e4⟩:=h
   obtain ⟨k1,cur,ti,k2,k3,k4,k5,k6,_⟩:=ha
   have e1:p.g=q.g:=e1
   have e2:p.o=q.o:=e2
   have e3:p.cap=q.cap:=e3
   refine ⟨⟨by rw [e1];exact (e4 _).2 k1.1,λb hb=>by rw [e1];exact k1.2.1 b ((e4 b).1 hb)⟩,cur,ti,by rw [e1];exact k2,by rw [e2,e3];exact k3,by rw [e3];exact k4,by rw [e3];exact k5,λi y hy=>?_⟩
   obtain ⟨es,g1,g2,g3⟩:=k6 i y hy
   exact ⟨es,g1,by rw [e2];exact g2,Cells.Cj (Nat.le_refl _) (λ_ _ _=>rfl) (λb _ hb=>hb.imp id .inl) e es y g3⟩
theorem HD {r r':Option Real} (h:Ur (r.map full) r') {e:Ty} {xs:List e.den} {te:TypeId} (ha:Ip w r' e te xs):Ip w r e te xs:=by
 cases r with
 |none=>cases r' with
  |none=>exact ha
  |some q=>exact h.elim
 |some p=>cases r' with
  |none=>exact h.elim
  |some q=>
   obtain ⟨e1,e2,e3,e4⟩:=h
   obtain ⟨k1,cur,ti,k2,k3,k4,k5,Fs,t1,t2,t3,t4⟩:=ha
   have e1:p.g=q.g:=e1
   have e2:p.o=q.o:=e2
   have e3:p.cap=q.cap:=e3
   exact ⟨by rw [e1];exact (e4 _).2 k1,cur,ti,by rw [e1];exact k2,by rw [e2,e3];exact k3,by rw [e3];exact k4,by rw [e3];exact k5,Fs,t1,by rw [e1];exact t2,λb hb=>(e4 b).2 (t3 b hb),by rw [e2];exact t4⟩
theorem Nj {st:St} {π0:Pi} {D:Nat->Prop} {w0:World} (h:Hz X w π st.heap) (Sr: ∀l,X.bM l=(π0 l).map full): ∀(cs:List (Bool×CK)) (k:Nat) (x:Ins.den cs) (us:List Value) (o:IOs.den cs),Zr w0 D π0 k cs x us->Jd st k cs=some o->
  He w (λb=>Ol π b\/X.Sc b) π0 k cs o/\ ∀l∈Kb k cs,Ad st.heap l≠none
 | [],_,_,_,_,_,_=>⟨trivial,λl hl=>by cases hl⟩
 |_::_,_,_,[],_,h,_=>h.elim
 |(false,c)::r,k,x,u::us,o,hi,he=>Nj h Sr r (k+1) x.2 us o hi.2 (by simpa only [Jd] using he)
 |(true, .Ee τ)::r,k,x,u::us,o,hi,he=>Nj h Sr r (k+1) x.2 us o hi.2 (by simpa only [Jd] using he)
 |(true, .Ah e te kp)::r,k,x,u::us,o,hi,he=>Nj h Sr r (k+1) x.2 us o hi.2 (by simpa only [Jd] using he)
 |(true, .row e te)::r,k,x,u::us,o,hi,he=>by
  simp only [Jd] at he
  split at he
  ·rename_i x1 x2 h1 h2
   simp only [Option.some.injEq] at he;subst he
   obtain ⟨g1,g2⟩:=Nj h Sr r (k+1) x.2 us x2 hi.2 h2
   have h0:=hi.1
   simp only [kB] at h1
   split at h1
   ·rename_i fr tr e' La xs hl
    split at h1
    ·rename_i hc
     obtain ⟨rfl,rfl⟩:=hc
     simp only [Option.some.injEq] at h1;subst h1
     unfold St.at at hl
     have hs:=h.bM (Bq true k) (by have:=Uc k;omega) (by rw [hl];simp)
     rw [Sr] at hs
     exact ⟨⟨xM (te:=La) hs ((h.heap _).Ld hl),g1⟩,λl Gm=>by
      simp only [Kb] at Gm
      rcases List.mem_cons.1 Gm with rfl|Gm
      ·rw [hl];simp
      ·exact g2 l Gm⟩
    ·cases h1
   ·cases h1
  ·cases he
 |(true, .part e te)::r,k,x,u::us,o,hi,he=>by
  simp only [Jd] at he
  split at he
  ·rename_i x1 x2 h1 h2
   simp only [Option.some.injEq] at he;subst he
   obtain ⟨g1,g2⟩:=Nj h Sr r (k+1) x.2 us x2 hi.2 h2
   have h0:=hi.1
   simp only [kB] at h1
   split at h1
   ·rename_i fr tr e' La xs hl
    split at h1
    ·rename_i hc
     obtain ⟨rfl,rfl⟩:=hc
     simp only [Option.some.injEq] at h1;subst h1
     unfold St.at at hl
     have hs:=h.bM (Bq true k) (by have:=Uc k;omega) (by rw [hl];simp)
     rw [Sr] at hs
     exact ⟨⟨xM (te:=La) hs ((h.heap _).Ld hl),g1⟩,λl Gm=>by
      simp only [Kb] at Gm
      rcases List.mem_cons.1 Gm with rfl|Gm
      ·rw [hl];simp
      ·exact g2 l Gm⟩
    ·cases h1
   ·cases h1
  ·cases he
 |(true, .Dq e te)::r,k,x,u::us,o,hi,he=>by
  simp only [Jd] at he
  split at he
  ·rename_i x1 x2 h1 h2
   simp only [Option.some.injEq] at he;subst he
   obtain ⟨g1,g2⟩:=Nj h Sr r (k+1) x.2 us x2 hi.2 h2
   simp only [kB] at h1
   split at h1
   ·rename_i e' La xs hl
    split at h1
    ·rename_i hc
     obtain ⟨rfl,rfl⟩:=hc
     simp only [Option.some.injEq] at h1;subst h1
     unfold St.at at hl
     have hs:=h.bM (Bq true k) (by have:=Uc k;omega) (by rw [hl];simp)
     rw [Sr] at hs
     exact ⟨⟨HD (te:=La) hs ((h.heap _).Ld hl),g1⟩,λl Gm=>by
      simp only [Kb] at Gm
      rcases List.mem_cons.1 Gm with rfl|Gm
      ·rw [hl];simp
      ·exact g2 l Gm⟩
    ·cases h1
   ·cases h1
  ·cases he
theorem pS {p:Bool×CK} {r:List (Bool×CK)} (h:Sh (p::r)=true):Sh r=true:=by
 rcases p with ⟨_|_,c⟩<;>cases c<;>first|(simp [Sh] at h;done)|simpa [Sh] using h
theorem rH: ∀(cs:List (Bool×CK)) (k:Nat) (x:Ins.den cs) (l:Nat),Sh cs=true->k+cs.length<100000->Ad (Sb k cs x) l≠none-> ¬l<Ak->l∈Kb k cs
 | [],_,_,_,_,_,h,_=>absurd rfl h
 |(io,c)::r,k,x,l,hng,hk,h,hp=>by
  simp only [List.length_cons] at hk
  simp only [Sb] at h
  have tail:Ad (Sb (k+1) r x.2) l≠none->l∈Kb (k+1) r:= λh=>rH r (k+1) x.2 l (pS hng) (by omega) h hp
  have sub: ∀m,m∈Kb (k+1) r->m∈Kb k ((io,c)::r):= λm hm=>by
   cases io<;>cases c<;>simp only [Kb]<;>first|exact hm|exact List.mem_cons_of_mem _ hm
  cases hc:ef (Bq io k) c x.1 with
  |none=>rw [hc] at h;exact sub l (tail h)
  |some b=>
   rw [hc] at h
   simp only [c8,Ad] at h
   split at h
   ·rename_i e;subst e
    cases io with
    |false=>exact absurd (aF (by omega)) hp
    |true=>cases c with
     |Ee τ=>cases hc
     |row e te=>simp [Kb]
     |Dq e te=>simp [Kb]
     |part e te=>simp [Kb]
     |Ah e te kp=>simp [Sh] at hng
   ·exact sub l (tail h)
theorem Zq.El {D D':Nat->Prop} (hD: ∀b,D' b->D b) {r:Option Real} {u:Value} {c:CK} {x:c.den} (h:Zq w D r u c x):Zq w D' r u c x:=by
 cases c with
 |Ee τ=>exact ⟨h.1,h.2.El λb _ hb=>hD b hb⟩
 |row e te=>exact ⟨h.1,Mh.El h.2 hD⟩
 |Dq e te=>exact h
 |part e te=>exact ⟨h.1,h.2.1,Mh.El h.2.2 hD⟩
 |Ah e te kp=>exact ⟨h.1,Ta.El h.2 hD⟩
theorem Ep.El {D D':Nat->Prop} (hD: ∀b,D' b->D b) {ρ:Pi} : ∀(cs:List CK) (k:Nat) (x:CKs.den cs) (us:List Value),Ep w D ρ k cs x us->Ep w D' ρ k cs x us
 | [],_,_,[],h=>h
 | [],_,_,_::_,h=>h.elim
 |_::_,_,_,[],h=>h.elim
 |_c::r,k,x,_u::us,h=>⟨h.1.El hD,Ep.El hD r (k+1) x.2 us h.2⟩
theorem He.El {D D':Nat->Prop} (hD: ∀b,D' b->D b) {π:Pi} : ∀(cs:List (Bool×CK)) (k:Nat) (x:IOs.den cs),He w D π k cs x->He w D' π k cs x
 | [],_,_,h=>h
 |(false,_)::r,k,x,h=>He.El hD r (k+1) x h
 |(true, .Ee _)::r,k,x,h=>He.El hD r (k+1) x h
 |(true, .Ah _ _ _)::r,k,x,h=>He.El hD r (k+1) x h
 |(true, .row _e _te)::r,k,x,h=>⟨Mh.El h.1 hD,He.El hD r (k+1) x.2 h.2⟩
 |(true, .Dq _e _te)::r,k,x,h=>⟨h.1,He.El hD r (k+1) x.2 h.2⟩
 |(true, .part _e _te)::r,k,x,h=>⟨Mh.El h.1 hD,He.El hD r (k+1) x.2 h.2⟩
theorem Zr.congr {D:Nat->Prop} {π0 Vz:Pi} : ∀(cs:List (Bool×CK)) (k:Nat) (x:Ins.den cs) (us:List Value),(∀b j,k<=j->j<k+cs.length->Vz (Bq b j)=π0 (Bq b j))->Zr w D π0 k cs x us->Zr w D Vz k cs x us
 | [],_,_,[],_,h=>h
 | [],_,_,_::_,_,h=>h
 |_::_,_,_,[],_,h=>h
 |p::r,k,x,u::us,hp,h=>⟨by rw [hp p.1 k (Nat.le_refl _) (by simp)];exact h.1,Zr.congr r (k+1) x.2 us (λb j h1 h2=>hp b j (by omega) (by simp;omega)) h.2⟩
theorem He.congr {D:Nat->Prop} {π0 Vz:Pi} : ∀(cs:List (Bool×CK)) (k:Nat) (x:IOs.den cs),(∀b j,k<=j->j<k+cs.length->Vz (Bq b j)=π0 (Bq b j))->He w D π0 k cs x->He w D Vz k cs x
 | [],_,_,_,h=>h
 |(false,c)::r,k,x,hp,h=>by cases c<;>exact He.congr r (k+1) x (λb j h1 h2=>hp b j (by omega) (by simp;omega)) h
 |(true, .Ee _)::r,k,x,hp,h=>He.congr r (k+1) x (λb j h1 h2=>hp b j (by omega) (by simp;omega)) h
 |(true, .Ah _ _ _)::r,k,x,hp,h=>He.congr r (k+1) x (λb j h1 h2=>hp b j (by omega) (by simp;omega)) h
 |(true, .row e te)::r,k,x,hp,h=>⟨by rw [hp true k (Nat.le_refl _) (by simp)];exact h.1,He.congr r (k+1) x.2 (λb j h1 h2=>hp b j (by omega) (by simp;omega)) h.2⟩
 |(true, .Dq e te)::r,k,x,hp,h=>⟨by rw [hp true k (Nat.le_refl _) (by simp)];exact h.1,He.congr r (k+1) x.2 (λb j h1 h2=>hp b j (by omega) (by simp;omega)) h.2⟩
 |(true, .part e te)::r,k,x,hp,h=>⟨by rw [hp true k (Nat.le_refl _) (by simp)];exact h.1,He.congr r (k+1) x.2 (λb j h1 h2=>hp b j (by omega) (by simp;omega)) h.2⟩
theorem Cb.congr {π0 Vz:Pi} : ∀(cs:List (Bool×CK)) (k:Nat) (o:IOs.den cs) (n:Nat) (us as:List Value),(∀b j,k<=j->j<k+cs.length->Vz (Bq b j)=π0 (Bq b j))->Cb π0 k cs o n us as->Cb Vz k cs o n us as
 | [],k,o,0,us,as,_,h=>by simpa [Cb] using h
 | [],k,o,n+1,us,as,_,h=>by simp [Cb] at h
 |p::r,k,o,0,us,as,_,h=>by
  rcases p with ⟨_|_,c⟩<;>cases c<;>simpa [Cb] using h
 |(true, .Ee _)::r,k,o,n+1,us,as,_,h=>by simp [Cb] at h
 |(true, .part _ _)::r,k,o,n+1,us,as,_,h=>by simp [Cb] at h
 |(true, .Ah _ _ _)::r,k,o,n+1,us,as,_,h=>by simp [Cb] at h
 |(true, .row e te)::r,k,o,n+1,[],as,_,h=>by simp [Cb] at h
 |(true, .Dq e te)::r,k,o,n+1,[],as,_,h=>by simp [Cb] at h
 |(true, .row e te)::r,k,o,n+1,u::us,as,hp,h=>by
  simp only [Cb] at h⊢
  exact ⟨by rw [hp true k (Nat.le_refl _) (by simp)];exact h.1,Cb.congr r (k+1) o.2 n us as (λb j h1 h2=>hp b j (by omega) (by simp;omega)) h.2⟩
 |(true, .Dq e te)::r,k,o,n+1,u::us,as,hp,h=>by
  simp only [Cb] at h⊢
  exact ⟨by rw [hp true k (Nat.le_refl _) (by simp)];exact h.1,Cb.congr r (k+1) o.2 n us as (λb j h1 h2=>hp b j (by omega) (by simp;omega)) h.2⟩
 |(false,c)::r,k,o,n+1,[],as,_,h=>by cases c<;>simp [Cb] at h
 |(false,c)::r,k,o,n+1,u::us,[],_,h=>by cases c<;>simp [Cb] at h
 |(false,c)::r,k,o,n+1,u::us,a::as,hp,h=>by
  have h:u=a/\Cb π0 (k+1) r o n us as:=by cases c<;>exact h
  have:=Cb.congr r (k+1) o n us as (λb j h1 h2=>hp b j (by omega) (by simp;omega)) h.2
  cases c<;>exact ⟨h.1,this⟩
theorem kM: ∀(A B:List (Nat×OB)) (l:Nat),Ad (A++B) l=match Ad A l with|some b=>some b|none=>Ad B l
 | [],B,l=>rfl
 |(k,b)::A,B,l=>by
  simp only [List.cons_append,Ad]
  split
  ·rfl
  ·exact kM A B l
theorem nS {st:St} : ∀(cs:List CK) (as:List AC) (x:CKs.den cs) (ls:List Nat),Oa st cs as=some (x,ls)-> ∀l∈ls,∃b,Ad st.heap l=some b/\b.row≠none
 | [],[],x,ls,he=>by
  simp only [Oa,Option.some.injEq,Prod.mk.injEq] at he
  obtain ⟨_,rfl⟩:=he
  intro l hl;cases hl
 | [],_::_,_,_,he=>by simp [Oa] at he
 |_::_,[],_,_,he=>by simp [Oa] at he
 |c::r,a::as,x,ls,he=>by
  simp only [Oa] at he
  split at he
  ·rename_i x1 t1 x2 t2 h1 h2
   simp only [Option.some.injEq,Prod.mk.injEq] at he
   obtain ⟨_,rfl⟩:=he
   intro l hl
   rcases List.mem_append.1 hl with hl|hl
   ·unfold ej at h1
    split at h1
    ·split at h1
     ·cases hv:Bl st _ a with
      |none=>rw [hv] at h1;cases h1
      |some p=>rw [hv] at h1;simp only [Option.map_some,Option.some.injEq,Prod.mk.injEq] at h1;obtain ⟨_,rfl⟩:=h1;cases hl
     ·cases h1
    all_goals (repeat' split at h1)
    all_goals first|(cases h1;done)|skip
    all_goals (simp only [Option.some.injEq,Prod.mk.injEq] at h1;obtain ⟨_,rfl⟩:=h1)
    all_goals first|(cases hl;done)|skip
    all_goals (have hl:=List.mem_singleton.1 hl;subst hl)
    all_goals (rename_i heq _;exact ⟨_,heq,by simp [OB.row]⟩)
   ·exact nS r as x2 t2 h2 l hl
  ·cases he
theorem kZ {r r':Option Real} {sz off len:Nat} {v:Value} (h:Ur r r') (hv:Dw r' sz off len v):Dw r sz off len v:=by
 cases r<;>cases r'<;>first|exact h.elim|skip
 ·exact hv
 ·obtain ⟨h1,h2,h3,_⟩:=h
  obtain ⟨ad,g1,g2,g3⟩:=hv
  exact ⟨ad,by rw [h3];exact g1,by rw [h3];exact g2,by rw [h1,h2,h3];exact g3⟩
theorem Rj {st:St} {π0:Pi} (hs: ∀k,Ad st.heap (Bq true k)≠none->Ur ((π0 (Bq true k)).map full) (π (Bq true k))):
  ∀(cs:List (Bool×CK)) (k:Nat) (vs:List AC) (us:List Value) (bc:List AC) (o:IOs.den cs),Ia X w π st.heap vs us->Es k cs vs=some bc->cC st vs cs->Jd st k cs=some o->
   ∃bv,Ia X w π st.heap bc bv/\bv.length=oa cs vs.length/\ ∀tl,Cb π0 k cs o vs.length us (bv++tl)
 |cs,k,[],us,bc,o,hr,he,_,_=>by
  have e1:us= []:=by cases us with|nil=>rfl|cons u us=>exact hr.elim
  have e2:bc= []:=by rcases cs with _|⟨⟨_|_,c⟩,r⟩<;>simpa [Es] using he.symm
  subst e1;subst e2
  refine ⟨[],trivial,?_,λtl=>?_⟩
  ·rcases cs with _|⟨⟨_|_,c⟩,r⟩<;>rfl
  ·rcases cs with _|⟨⟨_|_,c⟩,r⟩<;>(try cases c)<;>simp [Cb]
 | [],k,a::vs,us,bc,o,hr,he,_,_=>by simp [Es] at he
 |p::r,k,a::vs,[],bc,o,hr,_,_,_=>hr.elim
 |(false,c)::r,k,a::vs,u::us,bc,o,hr,he,hk,ho=>by
  have he:(Es (k+1) r vs).map (λl=>a::l)=some bc:=by cases a<;>exact he
  cases hb:Es (k+1) r vs with
  |none=>rw [hb] at he;cases he
  |some bc'=>
   rw [hb] at he
   simp only [Option.map_some,Option.some.injEq] at he;subst he
   obtain ⟨bv,g1,g2,g3⟩:=Rj hs r (k+1) vs us bc' o hr.2 hb (by cases a<;>exact hk) (by cases c<;>simpa only [Jd] using ho)
   refine ⟨u::bv,⟨hr.1,g1⟩,by simp [oa,g2],λtl=>?_⟩
   have:=g3 tl
   cases c<;>exact ⟨rfl,this⟩
 |(true,c)::r,k,a::vs,u::us,bc,o,hr,he,hk,ho=>by
  cases c with
  |Ee τ=>cases a<;>simp [Es] at he
  |part e te=>cases a<;>simp [Es] at he
  |Ah e te kp=>cases a<;>simp [Es] at he
  |row e te=>
   cases a<;>first|(simp [Es] at he;done)|skip
   rename_i l off len
   simp only [Es] at he
   split at he
   rotate_left
   ·cases he
   rename_i hl
   have hl:l=Bq true k:=Nat.eq_of_beq_eq_true hl
   subst hl
   obtain ⟨⟨rfl,hlen⟩,hk⟩:=hk
   obtain ⟨b,sz,n,h1,h2,h3,h4⟩:=hr.1
   have wL:=hs k (by rw [h1];simp)
   simp only [Jd] at ho
   split at ho
   ·rename_i x1 x2 q1 q2
    simp only [Option.some.injEq] at ho;subst ho
    obtain ⟨bv,g1,g2,g3⟩:=Rj hs r (k+1) vs us bc x2 hr.2 he hk q2
    refine ⟨bv,g1,by simpa [oa] using g2,λtl=>?_⟩
    refine ⟨?_,g3 tl⟩
    simp only [kB] at q1
    split at q1
    ·rename_i fr tr e' La xs Gm
     split at q1
     ·rename_i hc
      obtain ⟨rfl,rfl⟩:=hc
      simp only [Option.some.injEq] at q1;subst q1
      unfold St.at at Gm hlen
      rw [Gm] at hlen
      rw [h1] at Gm;cases Gm
      simp only [OB.row,Option.some.injEq,Prod.mk.injEq] at h2
      obtain ⟨rfl,rfl⟩:=h2
      have hlen:len=List.length xs:=hlen
      have:=kZ wL h4
      rw [hlen] at this
      have e0:(π0 (Bq true k)).map full=(π0 (Bq true k)).map full:=rfl
      cases hp:π0 (Bq true k)<;>(rw [hp] at this;exact this)
     ·cases q1
    ·cases q1
   ·cases ho
  |Dq e te=>
   cases a<;>first|(simp [Es] at he;done)|skip
   rename_i l off len
   simp only [Es] at he
   split at he
   rotate_left
   ·cases he
   rename_i hl
   have hl:l=Bq true k:=Nat.eq_of_beq_eq_true hl
   subst hl
   obtain ⟨⟨rfl,hlen⟩,hk⟩:=hk
   obtain ⟨b,sz,n,h1,h2,h3,h4⟩:=hr.1
   have wL:=hs k (by rw [h1];simp)
   simp only [Jd] at ho
   split at ho
   ·rename_i x1 x2 q1 q2
    simp only [Option.some.injEq] at ho;subst ho
    obtain ⟨bv,g1,g2,g3⟩:=Rj hs r (k+1) vs us bc x2 hr.2 he hk q2
    refine ⟨bv,g1,by simpa [oa] using g2,λtl=>?_⟩
    refine ⟨?_,g3 tl⟩
    simp only [kB] at q1
    split at q1
    ·rename_i e' La xs Gm
     split at q1
     ·rename_i hc
      obtain ⟨rfl,rfl⟩:=hc
      simp only [Option.some.injEq] at q1;subst q1
      unfold St.at at Gm hlen
      rw [Gm] at hlen
      rw [h1] at Gm;cases Gm
      simp only [OB.row,Option.some.injEq,Prod.mk.injEq] at h2
      obtain ⟨rfl,rfl⟩:=h2
      have hlen:len=List.length xs:=hlen
      have:=kZ wL h4
      rw [hlen] at this
      cases hp:π0 (Bq true k)<;>(rw [hp] at this;exact this)
     ·cases q1
    ·cases q1
   ·cases ho
def Ad2 (s:MSpec) (g:Nat) (π:Pi):Pi:= λl=>if s.ptr.isSome=true/\l=Jm then some ⟨g,0,0,λb=>b=g,λb=>b=g⟩ else π l
def ZV (P:Program) (s:MSpec) (fn:Func) (x:Ins.den s.ins) (w:World) (S:Nat->Prop) (π:Pi) (g:Nat) (r:CKs.den s.outs) (o:IOs.den s.ins) (a':Act) (w':World):Prop:=
 ∃(v:Value) (Po:List Value) (ρ:Pi),a'.defers= []/\(results fn a'.tmps).run P w'= .ok v w'/\mr s w' ρ (Po.drop s.Tf) v/\fp s π w' g Po o/\Gc w.heap.size (λb=>Ol π b\/s.gv g b) w w'/\He w' (ed S π ρ) π 0 s.ins o/\Ep w' (ed S π ρ) ρ 0 s.outs r Po/\
  bQ ρ (λb=>b<w'.heap.size/\(w.heap.size<=b\/ ∃l q,l<Ak/\π l=some q/\q.Ba b))/\(∀l,(∀k,k<s.Nm->l≠Fq k)->ρ l=none)/\(∀kj∈s.keeps,vD w w' (π (Bq false kj.1)) (ρ (Fq kj.2)) (s.Cj x))
theorem Ep.JT {D:Nat->Prop} {ρ ρ':Pi} : ∀(cs:List CK) (k:Nat) (x:CKs.den cs) (us:List Value),(∀j,k<=j->j<k+cs.length->ρ' (Fq j)=ρ (Fq j))->Ep w D ρ k cs x us->Ep w D ρ' k cs x us
 | [],_,_,[],_,h=>h
 | [],_,_,_::_,_,h=>h.elim
 |_::_,_,_,[],_,h=>h.elim
 |c::r,k,x,u::us,he,h=>⟨by rw [he k (Nat.le_refl _) (by simp)];exact h.1,Ep.JT r (k+1) x.2 us (λj hj hl=>he j (by omega) (by simp;omega)) h.2⟩
theorem rK {st:St} {n:Nat} {as:List AC} : ∀ {ks:List (Nat×Nat)},rJ st n as ks-> ∀kj∈ks,∃l off len e te rows out p,as[kj.2]?=some (.own l off len)/\Ad st.heap l=some (.Ah e te rows out (some p))/\p.1=Bq false kj.1/\n<=p.2/\kj.1<1000
 | [],_,kj,hm=>by cases hm
 |(k,j)::r,h,kj,hm=>by
  simp only [rJ] at h
  rcases List.mem_cons.1 hm with rfl|hm
  ·obtain ⟨h,_⟩:=h
   split at h
   ·rename_i l off len he
    split at h
    ·rename_i e te rows out p hl
     unfold St.at at hl
     exact ⟨l,off,len,e,te,rows,out,p,he,hl,h.1,h.2.1,by simpa using h.2.2⟩
    ·exact h.elim
   ·exact h.elim
  ·exact rK h.2 kj hm
theorem rV {st:St} : ∀(cs:List CK) (as:List AC) (x:CKs.den cs) (ls:List Nat),Oa st cs as=some (x,ls)->as.length=cs.length
 | [],[],_,_,_=>rfl
 | [],_::_,_,_,he=>by simp [Oa] at he
 |_::_,[],_,_,he=>by simp [Oa] at he
 |c::r,a::as,x,ls,he=>by
  simp only [Oa] at he
  split at he
  ·rename_i h1 h2
   simp only [List.length_cons,rV r as _ _ h2]
  ·cases he
theorem xK {α β:Type} (f:α->Sem β): ∀(l:List α) (vs:List β),vs.length=l.length->(∀(i:Nat) a v,l[i]?=some a->vs[i]?=some v->(f a).run P w= .ok v w)->(l.mapM f).run P w= .ok vs w
 | [],[],_,_=>by simp
 | [],_::_,h,_=>by simp at h
 |_::_,[],h,_=>by simp at h
 |a::l,v::vs,h,hr=>by
  rw [List.mapM_cons]
  simp only [Sem.run_bind,hr 0 a v rfl rfl,Result.andThen_ok,xK f l vs (by simpa using h) (λi a' v' ha hv=>hr (i+1) a' v' (by simpa using ha) (by simpa using hv)),Sem.run_pure]
theorem pD (hT:Bz P T) (Mg:Ic P Γ) (hm:P.follows .mixedOrders=true) {f:FuncId} {fn:Func} (hf:P.funcs[f]?=some fn) (s:MSpec) (w:World) (S:Nat->Prop) (π:Pi) (us:List Value) (x:Ins.den s.ins)
  (r:CKs.den s.outs) (o:IOs.den s.ins) (g:Nat) (gJ:List Value) (Kw:je s w g us gJ) (hSg:s.ptr.isSome=true->S g) (cv:Zr w (λb=>Ol π b\/S b) π 0 s.ins x us) (dK:bQ π (λb=>b<w.heap.size)) (hS: ∀b,S b->b<w.heap.size/\ ¬Ol π b) (KC: ∀l,Ad (Sb 0 s.ins x) l=none->π l=none) (he:RY T Γ s fn x λz=>z=(r,o)):
  Calls P f gJ.toArray w λe w'=> ∃v Po ρ,e= .returned v/\mr s w' ρ (Po.drop s.Tf) v/\fp s π w' g Po o/\Gc w.heap.size (λb=>Ol π b\/s.gv g b) w w'/\He w' (ed S π ρ) π 0 s.ins o/\Ep w' (ed S π ρ) ρ 0 s.outs r Po/\
   bQ ρ (λb=>b<w'.heap.size/\(w.heap.size<=b\/ ∃l q,l<Ak/\π l=some q/\q.Ba b))/\(∀l,(∀k,k<s.Nm->l≠Fq k)->ρ l=none)/\(∀kj∈s.keeps,vD w w' (π (Bq false kj.1)) (ρ (Fq kj.2)) (s.Cj x)):=by
 obtain ⟨hlen,c,hb,he⟩:=he
 simp only [Bool.and_eq_true,Nat.blt_eq] at hlen
 obtain ⟨hlen,KF⟩:=hlen
 unfold ub at KF
 simp only [Bool.and_eq_true] at KF
 have Aaw:=KF.1
 let lr:Pi:=Ad2 s g π
 let Sg:Nat->Prop:= λb=>S b/\ ¬s.gv g b
 have hvl: ∀b j,j<1000->Bq b j≠Jm:= λb j hj=>by cases b<;>(unfold Bq Jm;simp;omega)
 have tm: ∀b j,0<=j->j<0+s.ins.length->lr (Bq b j)=π (Bq b j):= λb j _ hj=>if_neg λh=>hvl b j (by omega) h.2
 have TC: ∀b j,0<=j->j<0+s.ins.length->π (Bq b j)=lr (Bq b j):= λb j h1 h2=>(tm b j h1 h2).symm
 have WO:Ad (Sb 0 s.ins x) Jm=none:=Classical.byContradiction λhn=>by
  obtain ⟨b,j,_,h2,h3⟩:=nv s.ins 0 x Jm hn
  exact hvl b j (by omega) h3.symm
 have HY: ∀l q,lr l=some q->(π l=some q/\(s.ptr.isSome=true->l≠Jm))\/(s.ptr.isSome=true/\l=Jm/\q=⟨g,0,0,λb=>b=g,λb=>b=g⟩):= λl q hq=>by
  have hq:(if s.ptr.isSome=true/\l=Jm then some ⟨g,0,0,λb=>b=g,λb=>b=g⟩ else π l)=some q:=hq
  split at hq
  ·rename_i hc;exact .inr ⟨hc.1,hc.2,(Option.some.inj hq).symm⟩
  ·rename_i hc;exact .inl ⟨hq,λh1 h2=>hc ⟨h1,h2⟩⟩
 have Yt: ∀b,Ol lr b↔Ol π b\/s.gv g b:= λb=>by
  constructor
  ·rintro ⟨l,q,h1,h2⟩
   rcases HY l q h1 with ⟨h3,_⟩|⟨h3,h4,rfl⟩
   ·exact .inl ⟨l,q,h3,h2⟩
   ·exact .inr ⟨h3,h2⟩
  ·rintro (⟨l,q,h1,h2⟩|⟨h1,rfl⟩)
   ·refine ⟨l,q,?_,h2⟩
    show (if s.ptr.isSome=true/\l=Jm then _ else π l)=some q
    rw [if_neg]
    ·exact h1
    ·rintro ⟨_,rfl⟩
     rw [KC Jm WO] at h1;cases h1
   ·exact ⟨Jm,⟨b,0,0,λc=>c=b,λc=>c=b⟩,if_pos ⟨h1,rfl⟩,rfl⟩
 have hgS: ∀b,s.gv g b->S b:= λb ⟨h1,h2⟩=>h2▸hSg h1
 have VM:Zr w (λb=>Ol lr b\/Sg b) lr 0 s.ins x us:=Zr.congr s.ins 0 x us tm (Zr.El (λb hb=>by
  rcases hb with hb|hb
  ·rcases (Yt b).1 hb with hb|hb
   ·exact .inl hb
   ·exact .inr (hgS b hb)
  ·exact .inr hb.1) s.ins 0 x us cv)
 have Ab1:bQ lr (λb=>b<w.heap.size):=⟨λl q b h1 h2=>by
  rcases HY l q h1 with ⟨h3,_⟩|⟨h3,h4,rfl⟩
  ·exact dK.Tj l q b h3 h2
  ·exact (hS b (hgS b ⟨h3,h2⟩)).1,λl l' q q' b h1 h2 h3 h4=>by
  rcases HY l q h1 with ⟨h5,_⟩|⟨h5,h6,rfl⟩<;>rcases HY l' q' h2 with ⟨h7,_⟩|⟨h7,h8,rfl⟩
  ·exact dK.inj l l' q q' b h5 h7 h3 h4
  ·exact absurd ⟨l,q,h5,h3⟩ (hS b (hgS b ⟨h7,h4⟩)).2
  ·exact absurd ⟨l',q',h7,h4⟩ (hS b (hgS b ⟨h5,h3⟩)).2
  ·rw [h6,h8]⟩
 have Af2: ∀b,Sg b->b<w.heap.size/\ ¬Ol lr b:= λb hb=>⟨(hS b hb.1).1,λho=>((Yt b).1 ho).elim (hS b hb.1).2 hb.2⟩
 have DJ: ∀l,Ad (kP s x) l=match Ad (Sb 0 s.ins x) l with|some b=>some b|none=>if l=Jm then s.ptr.map λp=> .var p.1 ((Vf 0 s.ins x).take p.2) else none:= λl=>by
  unfold kP
  cases hp:s.ptr with
  |none=>cases Ad (Sb 0 s.ins x) l<;>simp
  |some p=>
   simp only
   rw [kM]
   cases Ad (Sb 0 s.ins x) l with
   |some b=>rfl
   |none=>
    simp only [Ad,Option.map_some]
    by_cases e:l=Jm
    ·rw [if_pos e,if_pos e.symm]
    ·rw [if_neg e,if_neg (λh=>e h.symm)]
 let π0:Pi:= λl=>(lr l).map full
 have un: ∀l q,π0 l=some q-> ∃q0,lr l=some q0/\q=full q0:= λl q hq=>by
  have hq:(lr l).map full=some q:=hq
  cases hp:lr l with
  |none=>rw [hp] at hq;cases hq
  |some q0=>rw [hp] at hq;exact ⟨q0,rfl,(Option.some.inj hq).symm⟩
 have KH: ∀l b,Ad (Sb 0 s.ins x) l=some b->Ad (kP s x) l=some b:= λl b hb=>by rw [DJ l,hb]
 have WH:Ia ⟨w,Sg,Ol lr,π0⟩ w π0 (kP s x) (Vf 0 s.ins x) us:=wP (λ_=>rfl) s.ins 0 x us (by omega) VM KH
 have KX:s.ptr.isSome=true->π0 Jm=some ⟨g,0,0,λb=>b=g,λb=>b=g⟩:= λhp=>by
  show (if s.ptr.isSome=true/\Jm=Jm then _ else π Jm).map full=_
  rw [if_pos ⟨hp,rfl⟩];rfl
 obtain ⟨g1,g2⟩:(Te s (Vf 0 s.ins x)).length=gJ.length/\ ∀(i:Nat) c v,(Te s (Vf 0 s.ins x))[i]?=some c->gJ[i]?=some v->Am ⟨w,Sg,Ol lr,π0⟩ w π0 (kP s x) c v:=by
  unfold je at Kw
  cases hp:s.ptr with
  |none=>
   rw [hp] at Kw
   obtain ⟨rfl,yH⟩:=Kw
   obtain ⟨g1,g2,_,_⟩:=Yq s.Fc _ us yH WH
   rw [show Te s (Vf 0 s.ins x)=Ml s.Fc (Vf 0 s.ins x) by unfold Te;rw [hp]]
   exact ⟨g1,g2⟩
  |some p=>
   rw [hp] at Kw
   obtain ⟨rfl,yH,_⟩:=Kw
   obtain ⟨g1,g2,_,_⟩:=Yq s.Fc _ (us.drop p.2) yH (Ia.take p.2 WH).2
   rw [show Te s (Vf 0 s.ins x)= .at (.Dp Jm 0)::Ml s.Fc ((Vf 0 s.ins x).drop p.2) by unfold Te;rw [hp]]
   refine ⟨by simp [g1],λi c v h1 h2=>?_⟩
   rcases i with _|i
   ·simp only [List.getElem?_cons_zero,Option.some.injEq] at h1 h2
    subst h1;subst h2
    exact ⟨_,p.1,(Vf 0 s.ins x).take p.2,by rw [DJ,WO];simp [hp],KX (by rw [hp];rfl),rfl⟩
   ·exact g2 i c v (by simpa using h1) (by simpa using h2)
 have h0:Rel ⟨w,Sg,Ol lr,π0⟩ {tmps:=Te s (Vf 0 s.ins x)++List.replicate (fn.ntmps-(Te s (Vf 0 s.ins x)).length) .undef,heap:=kP s x}
   {tmps:=gJ.toArray++Array.replicate (fn.ntmps-gJ.toArray.size) undef,defers:= []} w:=by
  refine ⟨π0,⟨Gc.refl _ _ _,λb hb=>Af2 b hb,λl q b h1 h2=>?_,λl q b h1 h2=>?_,λl l' q q' b h1 h2 h3 h4=>?_,λl _ _=>Ur.rfl' _,λl=>?_⟩,⟨by simp [g1],rfl,λt=>?_⟩⟩
  ·obtain ⟨q0,_,rfl⟩:=un l q h1;exact h2
  ·obtain ⟨q0,h3,rfl⟩:=un l q h1
   exact ⟨.inr ⟨l,q0,h3,h2⟩,Ab1.Tj l q0 b h3 h2⟩
  ·obtain ⟨q0,h5,rfl⟩:=un l q h1
   obtain ⟨XZ,h6,rfl⟩:=un l' q' h2
   exact Ab1.inj l l' q0 XZ b h5 h6 h3 h4
  ·cases hh:Ad (Sb 0 s.ins x) l with
   |none=>
    by_cases hv:s.ptr.isSome=true/\l=Jm
    ·obtain ⟨ZQ,rfl⟩:=hv
     obtain ⟨p,hp⟩:=Option.isSome_iff_exists.1 ZQ
     refine Cr.Gu (b:= .var p.1 ((Vf 0 s.ins x).take p.2)) ?_ (by rw [DJ,hh];simp [hp])
     unfold je at Kw
     rw [hp] at Kw
     obtain ⟨_,_,h1,h2,h3⟩:=Kw
     rw [KX ZQ]
     exact ⟨_,rfl,rfl,_,h2,Ia.to (Ia.take p.2 WH).1 h3⟩
    ·refine Cr.Nd ?_ ?_
     ·show (if s.ptr.isSome=true/\l=Jm then _ else π l).map full=none
      rw [if_neg hv,KC l hh];rfl
     ·rw [DJ,hh]
      simp only
      split
      ·rename_i e
       cases hp:s.ptr with
       |none=>rfl
       |some p=>exact absurd ⟨by rw [hp];rfl,e⟩ hv
      ·rfl
   |some b=>exact Cr.Gu (fP (π0:=lr) (λb hb=>by
    rcases hb with ⟨l,q,h1,h2⟩|hb|⟨hb,_⟩
    ·obtain ⟨q0,h3,rfl⟩:=un l q h1;exact .inl ⟨l,q0,h3,h2⟩
    ·exact .inr hb
    ·cases hb) rfl (λ_=>rfl) s.ins 0 x us VM l b hh) (KH l b hh)
  ·show Am _ w _ _ ((Te s (Vf 0 s.ins x)++List.replicate _ AV.undef).getD t .undef) ((gJ.toArray++Array.replicate _ undef).getD t undef)
   by_cases ht:t<gJ.length
   ·rw [List.getD_eq_getElem?_getD,List.getElem?_append_left (by omega),<-List.getD_eq_getElem?_getD]
    rw [Array.getD_eq_getD_getElem?,Array.getElem?_append_left (by simpa using ht)]
    have:=g2 t _ _ (List.getElem?_eq_getElem (by omega)) (List.getElem?_eq_getElem ht)
    simpa [List.getD_eq_getElem?_getD,List.getElem?_eq_getElem ht,List.getElem?_eq_getElem (show t<(Te s (Vf 0 s.ins x)).length by omega)] using this
   ·have:(Te s (Vf 0 s.ins x)++List.replicate (fn.ntmps-(Te s (Vf 0 s.ins x)).length) AV.undef).getD t .undef= .undef:=by
     rw [List.getD_eq_getElem?_getD,List.getElem?_append_right (by omega)]
     rw [List.getElem?_replicate]
     split<;>rfl
    rw [this];trivial
 have fin: ∀(st:St) (a':Act) (w':World),JD T s fn x st (λz=>z=(r,o))->Rel ⟨w,Sg,Ol lr,π0⟩ st a' w'->ZV P s fn x w S π g r o a' w':=by
  intro st a' w' lE hrel
  obtain ⟨Vz,h'⟩:=hrel
  have TI:Ak<=Jm:=by unfold Ak Jm;omega
  obtain ⟨bc,kL,Agx,hbc⟩: ∃bc,dS T s fn x st bc (λz=>z=(r,o))/\(s.ptr.isSome=true-> ∃b,Ad st.heap Jm=some b/\b.row=none)/\
    (Jd st 0 s.ins=some o-> ∃bv,Ia ⟨w,Sg,Ol lr,π0⟩ w' Vz st.heap bc bv/\bv.length=s.Tf/\ ∀tl,fp s π w' g (bv++tl) o):=by
   unfold JD at lE
   cases hp:s.ptr with
   |none=>
    rw [hp] at lE
    exact ⟨[],lE,λh=>by simp at h,λ_=>⟨[],trivial,by simp [MSpec.Tf,hp],λtl=>by simp [fp,hp]⟩⟩
   |some p=>
    rw [hp] at lE
    obtain ⟨vs,cs,h1,h2,h3,h4,h5⟩:=lE
    unfold St.at at h1
    refine ⟨cs,h5,λ_=>⟨_,h1,rfl⟩,λtd=>?_⟩
    obtain ⟨q,k1,k2,cur,k3,k4⟩:=(h'.1.heap Jm).Ld h1
    have hsv:Ur (π0 Jm) (Vz Jm):=h'.1.bM Jm TI (by rw [h1];simp)
    rw [KX (by rw [hp];rfl),k1] at hsv
    have hqg:g=q.g:=hsv.1
    obtain ⟨bv,g1,g2,g3⟩:=Rj (π0:=lr) (λk hk=>h'.1.bM _ (Nat.le_of_not_lt (Uc k)) hk) s.ins 0 vs cur.toList cs o (Ia.of k4) h3 h4 td
    refine ⟨bv,g1,by rw [g2,h2];simp [MSpec.Tf,hp],λtl=>?_⟩
    unfold fp
    rw [hp]
    refine ⟨cur.toList,by rw [hqg];simpa using k3,λu hu=>?_,Cb.congr s.ins 0 o p.2 _ _ TC (h2▸g3 tl)⟩
    obtain ⟨i,hi,rfl⟩:=List.mem_iff_getElem.1 hu
    have hl:=k4.1
    obtain ⟨u',h6,h7,_⟩:=k4.2 i (vs[i]'(by omega)) (List.getElem?_eq_getElem _)
    rw [List.getElem?_eq_getElem hi] at h6
    rw [Option.some.inj h6];exact h7
  unfold dS at kL
  split at kL
  ·exact kL.elim
  rename_i l hl
  split at kL
  ·exact kL.elim
  rename_i as ml cw
  split at kL
  rotate_left
  ·exact kL.elim
  rename_i r' ls o' zm rk
  obtain ⟨Ez,rz,KR⟩:=kL
  simp only [Bool.and_eq_true,Nat.blt_eq] at Ez
  obtain ⟨⟨⟨PA,Akb⟩,Ail⟩,Aas⟩:=Ez
  simp only [Prod.mk.injEq] at KR
  obtain ⟨rfl,rfl⟩:=KR
  obtain ⟨bv,hbv,Afe,Afc⟩:=hbc rk
  have zk:=Qn PA
  obtain ⟨n1,n2,n3⟩:=List.nodup_append.1 zk
  obtain ⟨m1,m2,m3⟩:=List.nodup_append.1 n1
  obtain ⟨vs,v1,v2,v3,v4⟩:=Qp hT h' _ _ hl
  have QL:fn.results=fn.results.toList.toArray:=Array.toArray_toList.symm
  have Oj: ∀v,(if h:vs.toArray.size=1 then vs.toArray[0] else .tuple vs.toArray)=v->(results fn a'.tmps).run P w'= .ok v w':=by
   intro v hv
   rw [aE,QL,List.mapM_toArray]
   simp only [map_eq_pure_bind,bind_assoc,pure_bind]
   simp only [Sem.run_bind,xK (AT a'.tmps) _ vs v1 v3,Result.andThen_ok,Sem.run_pure]
   rw [hv]
  obtain ⟨qE,v,qm,Agw,hv,TJ⟩: ∃qE v qm,Ia ⟨w,Sg,Ol lr,π0⟩ w' Vz st.heap as qE/\(results fn a'.tmps).run P w'= .ok v w'/\
    ((s.rp=none/\ml= []/\qm=none/\MU s.Dh s.Ef qE v/\Xb s.Ef qE)\/
     ∃tid m q,s.rp=some tid/\ml= [m]/\m<Ak/\qm=some q/\Vz m=some q/\q.Ba q.g/\w'.heap[q.g]?=some (.cells qE.toArray tid (0,0))/\(∀u∈qE,u.oneCell'=true)/\v= .pointer (some ⟨q.g,0,none⟩)):=by
   unfold AS at cw
   split at cw
   ·rename_i yG
    split at cw
    rotate_left
    ·cases cw
    rename_i hmul
    cases IW:ungroup s.Ef l with
    |none=>rw [IW] at cw;cases cw
    |some as'=>
     rw [IW] at cw
     simp only [Option.map_some,Option.some.injEq,Prod.mk.injEq] at cw
     obtain ⟨rfl,rfl⟩:=cw
     obtain ⟨qE,e1,e2,e3⟩:=Sl s.Ef l vs as' (by omega) v4 IW
     have hv: ∃v,(results fn a'.tmps).run P w'= .ok v w'/\MU s.Dh s.Ef qE v:=by
      unfold MU
      rw [<-e1,hmul]
      rcases Nat.lt_or_ge 1 l.length with h1|h1
      ·have JZ:Nat.blt 1 l.length=true:=by simpa using h1
       simp only [JZ,if_true]
       refine ⟨.tuple vs.toArray,Oj _ ?_,rfl⟩
       rw [dif_neg (by simp;omega)]
      ·have JZ:Nat.blt 1 l.length=false:=by rw [<-Bool.not_eq_true];simpa using h1
       simp only [JZ,Bool.false_eq_true,if_false]
       rcases vs with _|⟨v,_|⟨v',vs⟩⟩
       ·exact ⟨_,Oj _ (by simp;rfl), .inr rfl⟩
       ·exact ⟨v,Oj _ (by simp), .inl rfl⟩
       ·exfalso;simp only [List.length_cons] at v1;omega
     obtain ⟨v,hv1,hv2⟩:=hv
     exact ⟨qE,v,none,e3,hv1, .inl ⟨yG,rfl,rfl,hv2,e2⟩⟩
   ·rename_i tid yG
    split at cw
    rotate_left
    ·cases cw
    rename_i m i
    split at cw
    rotate_left
    ·cases cw
    rename_i Ns vs' hm
    split at cw
    rotate_left
    ·cases cw
    rename_i hc
    obtain ⟨rfl,rfl,OY⟩:=hc
    simp only [Option.some.injEq,Prod.mk.injEq] at cw
    obtain ⟨rfl,rfl⟩:=cw
    unfold St.at at hm
    rcases vs with _|⟨v,_|⟨v',vs⟩⟩
    ·exfalso;simp only [List.length_cons,List.length_nil] at v1 v2;omega
    ·obtain ⟨q,Ama,vs2,q1,q2,q3⟩:=v4 0 _ v rfl rfl
     rw [hm] at q1;cases q1
     obtain ⟨q',k1,k2,cur,k3,k4⟩:=(h'.1.heap m).Ld hm
     rw [q2] at k1;cases k1
     refine ⟨cur.toList,v,some q,Ia.of k4,Oj _ (by simp), .inr ⟨_,m,q,yG,rfl,by simpa using OY,rfl,q2,k2,by simpa using k3,λu hu=>?_,q3⟩⟩
     obtain ⟨i,hi,rfl⟩:=List.mem_iff_getElem.1 hu
     have hl:=k4.1
     obtain ⟨u',h6,h7,_⟩:=k4.2 i (vs'[i]'(by omega)) (List.getElem?_eq_getElem _)
     rw [List.getElem?_eq_getElem hi] at h6
     rw [Option.some.inj h6];exact h7
    ·exfalso;simp only [List.length_cons,List.length_nil] at v1 v2;omega
  obtain ⟨vB,p1,p2,p3,p4,p5⟩:=rW h'.1 s.outs 0 (bc++as) (bv++qE) r' ls (hbv.append Agw) zm m2
  obtain ⟨io1,io2⟩:=Nj (π0:=lr) h'.1 (λ_=>rfl) s.ins 0 x us o' VM rk
  have Aag:(bv++qE).drop s.Tf=qE:=by rw [<-Afe];simp
  let ρ:Pi:= λl0=>if l0=Fq s.outs.length then qm else vB l0
  have WW:ρ (Fq s.outs.length)=qm:=if_pos rfl
  have Abr: ∀l0,l0≠Fq s.outs.length->ρ l0=vB l0:= λl0 h=>if_neg h
  have Abq: ∀j,j<s.outs.length->ρ (Fq j)=vB (Fq j):= λj hj=>Abr _ (by unfold Fq;omega)
  have pk: ∀l0 q,ρ l0=some q->(l0=Fq s.outs.length/\qm=some q)\/(l0≠Fq s.outs.length/\vB l0=some q):= λl0 q h=>by
   by_cases e:l0=Fq s.outs.length
   ·subst e;rw [WW] at h;exact .inl ⟨rfl,h⟩
   ·rw [Abr l0 e] at h;exact .inr ⟨e,h⟩
  have Ab6: ∀q,qm=some q-> ∃m,ml= [m]/\m<Ak/\Vz m=some q:= λq hq=>by
   rcases TJ with ⟨_,_,h1,_⟩|⟨_,m,q',_,h1,h2,h3,h4,_⟩
   ·rw [h1] at hq;cases hq
   ·rw [h3] at hq;cases hq;exact ⟨m,h1,h2,h4⟩
  have p3': ∀l0 q b,ρ l0=some q->q.Ba b-> ∃l1∈ml++ls,∃p,Vz l1=some p/\p.cl b/\((s.outs.all λc=>!c.TS)=true->p.Ba b)/\((l1∈ls)\/l1<Ak):= λl0 q b h1 h2=>by
   rcases pk l0 q h1 with ⟨_,h3⟩|⟨_,h3⟩
   ·obtain ⟨m,e1,e2,e3⟩:=Ab6 q h3
    exact ⟨m,by rw [e1];simp,q,e3,h'.1.sub m q b e3 h2,λ_=>h2, .inr e2⟩
   ·obtain ⟨l1,g1,p,g2,g3,g4⟩:=p3 l0 q b h3 h2
    exact ⟨l1,List.mem_append_right _ g1,p,g2,g3,g4, .inl g1⟩
  have p4': ∀l0 l1 q q' b,ρ l0=some q->ρ l1=some q'->q.Ba b->q'.Ba b->l0=l1:= λl0 l1 q q' b h1 h2 h3 h4=>by
   have w7: ∀l0 q q' b,vB l0=some q->qm=some q'->q.Ba b->q'.Ba b->False:= λl0 q q' b h1 h2 h3 h4=>by
    obtain ⟨m,e1,e2,e3⟩:=Ab6 q' h2
    obtain ⟨l1,g1,p,g2,g3,_⟩:=p3 l0 q b h1 h3
    have:=h'.1.inj m l1 q' p b e3 g2 (h'.1.sub m q' b e3 h4) g3
    exact m3 m (by rw [e1];simp) l1 g1 this
   rcases pk l0 q h1 with ⟨e1,h5⟩|⟨e1,h5⟩<;>rcases pk l1 q' h2 with ⟨e2,h6⟩|⟨e2,h6⟩
   ·rw [e1,e2]
   ·exact (w7 l1 q' q b h6 h5 h4 h3).elim
   ·exact (w7 l0 q q' b h5 h6 h3 h4).elim
   ·exact p4 l0 l1 q q' b h5 h6 h3 h4
  have DP: ∀l0 q,Ak<=l0->lr l0=some q->Ad st.heap l0≠none/\(l0∈Kb 0 s.ins\/ ∃b,Ad st.heap l0=some b/\b.row=none):= λl0 q h1 h2=>by
   rcases HY l0 q h2 with ⟨h3,_⟩|⟨h3,rfl,_⟩
   ·have td:=rH s.ins 0 x l0 Aaw (by omega) (λhnn=>by rw [KC l0 hnn] at h3;cases h3) (by omega)
    exact ⟨io2 l0 td, .inl td⟩
   ·obtain ⟨b,h4,h5⟩:=Agx h3
    exact ⟨by rw [h4];simp, .inr ⟨b,h4,h5⟩⟩
  have hDO:(s.outs.all λc=>!c.TS)=true-> ∀b,ed Sg lr ρ b->Ol Vz b\/Sg b:=by
   intro hx b hb
   rcases hb with hb|⟨l0,q,h1,h2,h3⟩|⟨l0,q,h1,h2⟩
   ·exact .inr hb
   ·have hs:=h'.1.bM l0 h1 (DP l0 q h1 h2).1
    have hs:Ur ((lr l0).map full) (Vz l0):=hs
    rw [h2] at hs
    cases vu:Vz l0 with
    |none=>rw [vu] at hs;exact hs.elim
    |some q1=>rw [vu] at hs;exact .inl ⟨l0,q1,vu,(hs.2.2.2 b).1 h3⟩
   ·obtain ⟨m,_,p,hm2,_,VW,_⟩:=p3' l0 q b h1 h2
    exact .inl ⟨m,p,hm2,VW hx⟩
  have hDD: ∀b,ed S π ρ b->ed Sg lr ρ b:= λb hb=>by
   rcases hb with hb|⟨l0,q,h1,h2,h3⟩|hb
   ·by_cases rv:s.gv g b
    ·obtain ⟨ZQ,rfl⟩:=rv
     exact .inr (.inl ⟨Jm,_,TI,if_pos ⟨ZQ,rfl⟩,rfl⟩)
    ·exact .inl ⟨hb,rv⟩
   ·refine .inr (.inl ⟨l0,q,h1,?_,h3⟩)
    show (if s.ptr.isSome=true/\l0=Jm then _ else π l0)=some q
    rw [if_neg]
    ·exact h2
    ·rintro ⟨_,rfl⟩
     rw [KC Jm WO] at h2;cases h2
   ·exact .inr (.inr hb)
  have OS:s.flat=true\/(s.outs.all λc=>!c.TS)=true:=by unfold MSpec.LY at Aas;simpa only [Bool.or_eq_true] using Aas
  have io1:He w' (ed S π ρ) π 0 s.ins o':=by
   refine He.congr s.ins 0 o' TC ?_
   rcases OS with hf|hf
   ·unfold MSpec.flat at hf
    simp only [Bool.and_eq_true] at hf
    exact He.any s.ins 0 o' hf.2 io1
   ·exact He.El (λb hb=>hDO hf b (hDD b hb)) s.ins 0 o' io1
  have p1:Ep w' (ed S π ρ) ρ 0 s.outs r' (bv++qE):=by
   have p1:Ep w' (λb=>Ol Vz b\/Sg b) ρ 0 s.outs r' (bv++qE):=Ep.JT s.outs 0 r' _ (λj _ hj=>Abq j (by omega)) p1
   rcases OS with hf|hf
   ·unfold MSpec.flat at hf
    simp only [Bool.and_eq_true] at hf
    exact Ep.any s.outs 0 r' (bv++qE) hf.1 p1
   ·exact Ep.El (λb hb=>hDO hf b (hDD b hb)) s.outs 0 r' (bv++qE) p1
  refine ⟨v,bv++qE,ρ,h'.2.defers,hv,?_,Afc qE,⟨h'.1.below.os,h'.1.below.tape,h'.1.below.output,h'.1.below.size,λk hk hn=>h'.1.below.block k hk λho=>hn ((Yt k).1 ho)⟩,io1,p1,⟨λl0 q b h1 h2=>?_,p4'⟩,λl0 VU=>?_,λkj IV=>?_⟩
  ·rw [Aag]
   unfold mr
   rcases TJ with ⟨h1,_,_,h2⟩|⟨tid,m,q,h1,_,_,h3,_,h4,h5,h6,h7⟩
   ·rw [h1];exact h2
   ·rw [h1];exact ⟨q,by rw [WW,h3],h4,h5,h6,h7⟩
  ·obtain ⟨m,ZM,p,hm2,hm3,_,VW⟩:=p3' l0 q b h1 h2
   obtain ⟨k1,k2⟩:=h'.1.place m p b hm2 hm3
   refine ⟨k2,k1.imp id λ⟨c0,q0,h5,h6⟩=>?_⟩
   have Fh:c0<Ak:=Classical.byContradiction λhn=>by
    obtain ⟨Ey,td⟩:=DP c0 q0 (by omega) h5
    have hs:=h'.1.bM c0 (by omega) Ey
    have hs:Ur ((lr c0).map full) (Vz c0):=hs
    rw [h5] at hs
    cases vu:Vz c0 with
    |none=>rw [vu] at hs;exact hs.elim
    |some q1=>
     rw [vu] at hs
     have hf1:q1.Ba b:=(hs.2.2.2 b).1 h6
     have:=h'.1.inj c0 m q1 p b vu hm2 (h'.1.sub c0 q1 b vu hf1) hm3
     subst this
     rcases VW with VW|VW
     ·rcases td with td|⟨b1,JZ,hb2⟩
      ·exact n3 c0 ZM c0 td rfl
      ·obtain ⟨b2,hb3,hb4⟩:=nS s.outs _ _ _ zm c0 VW
       rw [JZ] at hb3;cases hb3
       exact hb4 hb2
     ·exact hn VW
   refine ⟨c0,q0,Fh,?_,h6⟩
   rcases HY c0 q0 h5 with ⟨h7,_⟩|⟨_,h7,_⟩
   ·exact h7
   ·omega
  ·cases hp:ρ l0 with
   |none=>rfl
   |some q=>
    rcases pk l0 q hp with ⟨e,h3⟩|⟨_,h3⟩
    ·refine absurd e (VU _ ?_)
     rcases TJ with ⟨_,_,h4,_⟩|⟨tid,m,q',h4,_⟩
     ·rw [h4] at h3;cases h3
     ·unfold MSpec.Nm;rw [h4];simp
    ·obtain ⟨j,_,j2,j3⟩:=p2 l0 q h3
     exact absurd j3 (VU j (by unfold MSpec.Nm;omega))
  ·obtain ⟨l0,off,len,e,te,rows,out,p,q1,q2,q3,q4,q5⟩:=rK rz kj IV
   have hj:kj.2<s.outs.length:=by
    rw [<-rV s.outs _ _ _ zm]
    exact (List.getElem?_eq_some_iff.1 q1).1
   have e1:=p5 kj.2 l0 off len e te rows out (some p) q1 q2
   rw [Nat.zero_add] at e1
   rw [Abq _ hj,e1]
   have hk:=((h'.1.heap l0).Ld q2).2
   obtain ⟨l1,n1⟩:=p
   simp only [KeptAt] at hk
   dsimp only at q3 q4
   subst q3
   have FI:π0 (Bq false kj.1)=(π (Bq false kj.1)).map full:=by
    show (if s.ptr.isSome=true/\Bq false kj.1=Jm then _ else π (Bq false kj.1)).map full=_
    rw [if_neg λh=>hvl false kj.1 q5 h.2]
   rw [FI] at hk
   unfold vD
   cases hp:π (Bq false kj.1) with
   |none=>
    rw [hp] at hk
    cases vu:Vz l0 with
    |none=>trivial
    |some q=>rw [vu] at hk;exact hk.elim
   |some q0=>
    rw [hp] at hk
    cases vu:Vz l0 with
    |none=>rw [vu] at hk;exact hk.elim
    |some q=>
     rw [vu] at hk
     obtain ⟨k1,k2,k3,k4⟩:=hk
     exact ⟨k1,k2,k3,λj hj hc=>k4 j (by omega) hc⟩
 refine calls_of_wp hf hb ?_
 refine (oe hT Mg hm he _ w _ h0 λe st a' w' ⟨Ey,lE⟩ h'=>?_).1
 obtain ⟨v,Po,ρ,p1,p2,p3⟩:=fin st a' w' lE h'
 cases e with
 |normal=>exact ⟨p1,v,p2,v,Po,ρ,rfl,p3⟩
 |ret=>exact ⟨p1,v,p2,v,Po,ρ,rfl,p3⟩
 |exit id=>exact absurd rfl (Ey id)
end
end Go.Proofs.YtfolipnappekaaaGreat
