/-
  Part 27 of the proof that the statement FnExactBestTableIndex holds.
-/
import Derived.Test.YtfolipnappekaaaGreatCBestTableIndex25
namespace Go.Proofs.YtfolipnappekaaaGreat
open Go.RowKit
section
variable {P:Program} {T:Tab} {Γ:Env} {X:Ctx} {w w':World} {π:Pi} {H:List (Nat×OB)}
theorem nD: ∀(cs:List (Bool×CK)) (k:Nat) (x:Ins.den cs) (l:Nat),Ad (Sd k cs x) l≠none-> ∃b j,k<=j/\j<k+cs.length/\l=Bq b j
 | [],_,_,_,h=>absurd rfl h
 |p::r,k,x,l,h=>by
  simp only [Sd] at h
  by_cases e:l=Bq p.1 k
  ·exact ⟨p.1,k,Nat.le_refl _,by simp,e⟩
  ·have:Ad (Sd (k+1) r x.2) l≠none:=by
    cases hc:ei (Bq p.1 k) p.2 x.1 with
    |none=>rw [hc] at h;exact h
    |some b=>rw [hc] at h;simpa only [bZ,Ad,if_neg (Ne.symm e)] using h
   obtain ⟨b,j,h1,h2,h3⟩:=nD r (k+1) x.2 l this
   exact ⟨b,j,by omega,by simp;omega,h3⟩
theorem FQ {p:Bool×CK} {r:List (Bool×CK)} {k:Nat} {x:Ins.den (p::r)} (hk:k+(r.length+1)<100000) {l:Nat} {b:OB} (h:Ad (Sd (k+1) r x.2) l=some b):Ad (Sd k (p::r) x) l=some b:=by
 obtain ⟨b',j,h1,h2,rfl⟩:=nD r (k+1) x.2 l (by rw [h];simp)
 simp only [Sd]
 cases ei (Bq p.1 k) p.2 x.1 with
 |none=>exact h
 |some c=>simp only [bZ,Ad];rw [if_neg (ED (by omega) (by omega) (by omega))];exact h
theorem JO {D:Nat->Prop} (hD: ∀b,Bd X.w0.heap.size X.Sc π false b->D b) (WR:X.w0=w) {l:Nat} {r:Option Real} (Ss:X.bI l=r.map full) {u:Value} {c:CK} {x:c.den} (h:Zm w D r u c x) {b:OB} (hb:ei l c x=some b):Au X w π H (r.map full) b:=by
 have Rz: ∀ {e:Ty} {es:List Value} {y:e.den},Cells w D e es y->Cells w (Bd X.w0.heap.size X.Sc π false) e es y:= λ {e es y} h=>Cells.Ci (Nat.le_refl _) (λ_ _ _=>rfl) (λb _ hb=>hD b hb) e es y h
 cases c with
 |Ee τ=>cases hb
 |row e te=>
  simp only [ei,Option.some.injEq] at hb;subst hb
  obtain ⟨_,h⟩:=h
  simp only [aU] at h
  simp only [Au,Fl]
  cases r with
  |none=>exact h
  |some q=>
   obtain ⟨k1,cu,ti,k2,k3,k4,k5,k6⟩:=h
   exact ⟨⟨k1.1,k1.2,λh=>by cases h⟩,cu,ti,k2,k3,k4,k5,λi y hy=>by
    obtain ⟨es,g1,g2,g3⟩:=k6 i y hy
    exact ⟨es,g1,g2,Rz g3⟩,λh=>by cases h⟩
 |Dp e te=>
  simp only [ei,Option.some.injEq] at hb;subst hb
  cases r<;>exact h.2
 |part e te=>
  simp only [ei,Option.some.injEq] at hb;subst hb
  obtain ⟨_,hf,h⟩:=h
  simp only [Au,Fl]
  cases r with
  |none=>exact h
  |some q=>
   obtain ⟨k1,cu,ti,k2,k3,k4,k5,k6⟩:=h
   exact ⟨⟨k1.1,k1.2,λh=>by cases h⟩,cu,ti,k2,k3,k4,k5,λi y hy=>by
    obtain ⟨es,g1,g2,g3⟩:=k6 i y hy
    exact ⟨es,g1,g2,Rz g3⟩,λh=>by cases h⟩
 |Ai e te kp=>
  simp only [ei,Option.some.injEq] at hb;subst hb
  have h2:Tb w D r e x none:=h.2
  have h3:=Tb.Ek h2 hD
  refine ⟨by cases r<;>exact h3,?_⟩
  cases kp with
  |false=>trivial
  |true=>
   simp only [if_true,KeptAt]
   rw [Ss]
   cases r with
   |none=>trivial
   |some q=>exact ⟨rfl,rfl,rfl,λj _ _=>by rw [WR]⟩
theorem fT {D:Nat->Prop} (hD: ∀b,Bd X.w0.heap.size X.Sc π false b->D b) (WR:X.w0=w) {π0:Pi} (Ss: ∀l,X.bI l=(π0 l).map full): ∀(cs:List (Bool×CK)) (k:Nat) (x:Ins.den cs) (us:List Value),Zn w D π0 k cs x us-> ∀l b,Ad (Sd k cs x) l=some b->Au X w π H ((π0 l).map full) b
 | [],_,_,_,_,_,_,h=>by cases h
 |_::_,_,_,[],h,_,_,_=>h.elim
 |p::r,k,x,u::us,h,l,b,hb=>by
  simp only [Sd] at hb
  cases hc:ei (Bq p.1 k) p.2 x.1 with
  |none=>rw [hc] at hb;exact fT hD WR Ss r (k+1) x.2 us h.2 l b hb
  |some c=>
   rw [hc] at hb
   simp only [bZ,Ad] at hb
   split at hb
   ·rename_i e;subst e
    simp only [Option.some.injEq] at hb;subst hb
    exact JO hD WR (Ss _) h.1 hc
   ·exact fT hD WR Ss r (k+1) x.2 us h.2 l b hb
theorem wO {S:Nat->Prop} {π0:Pi} {gv:Nat->Prop} {bI:Pi} (Yr: ∀l,π l=(π0 l).map full): ∀(cs:List (Bool×CK)) (k:Nat) (x:Ins.den cs) (us:List Value),k+cs.length<100000->Zn w (λb=>Om π0 b\/S b) π0 k cs x us->(∀l b,Ad (Sd k cs x) l=some b->Ad H l=some b)->
  Hy ⟨w,S,gv,bI⟩ w π H (Ve k cs x) us
 | [],_,_,[],_,_,_=>trivial
 | [],_,_,_::_,_,h,_=>h.elim
 |_::_,_,_,[],_,h,_=>h.elim
 |p::r,k,x,u::us,hk,h,hH=>by
  simp only [List.length_cons] at hk
  refine ⟨?_,wO Yr r (k+1) x.2 us (by omega) h.2 λl b hb=>hH l b (FQ hk hb)⟩
  have h1:=h.1
  have hh: ∀b,ei (Bq p.1 k) p.2 x.1=some b->Ad H (Bq p.1 k)=some b:= λb hb=>hH _ b (by simp only [Sd];rw [hb];simp [bZ,Ad])
  have dK:=Yr (Bq p.1 k)
  obtain ⟨io,c⟩:=p
  dsimp only at h1 hh dK⊢
  generalize x.1=y at*
  cases c with
  |Ee τ=>
   show Bb w _ τ u y
   cases hf:τ.flat with
   |true=>exact Bb.flat hf h1.2
   |false=>
    refine h1.2.Ek λb _ hb=>?_
    rcases hb with ⟨l,q,h3,h4⟩|hb|⟨hb,_⟩
    ·rw [Yr l] at h3
     cases hp:π0 l with
     |none=>rw [hp] at h3;cases h3
     |some q0=>rw [hp] at h3;simp only [Option.map_some,Option.some.injEq] at h3;subst h3;exact .inl ⟨l,q0,hp,h4⟩
    ·exact .inr hb
    ·cases hb
  |row e te=>exact ⟨_,e.size,List.length y,hh _ rfl,rfl,by simp,by rw [dK];exact Sj h1.1⟩
  |Dp e te=>exact ⟨_,e.size,List.length y,hh _ rfl,rfl,by simp,by rw [dK];exact Sj h1.1⟩
  |part e te=>exact ⟨_,e.size,List.length y.1,hh _ rfl,rfl,h1.1.2,by rw [dK];exact Sj h1.1.1⟩
  |Ai e te kp=>exact ⟨_,1,List.length y,hh _ rfl,rfl,by simp,by rw [dK];exact Sj h1.1⟩
theorem jT {p:Real} {s off len:Nat} {u:Value} {f:Nat->Prop} (h:Dv (some p) s off len u):Dv (some ⟨p.g,p.o+off,p.cap-off,f,f⟩) s 0 len u:=by
 obtain ⟨ad,h1,h2,h3⟩:=h
 exact ⟨ad,h1,by dsimp only;omega,λh0=>by dsimp only at h0;simpa using h3 (by omega)⟩
theorem o5 {α:Type} {xs:List α} {off len i:Nat} {x:α} (h:((xs.drop off).take len)[i]?=some x):xs[off+i]?=some x:=by
 rw [List.getElem?_take] at h
 split at h
 ·rw [List.getElem?_drop] at h;exact h
 ·cases h
theorem Px.part {P:Nat->Prop} {g o:Nat} {cur:Array Value} {e:Ty} {xs:List e.den} (off len:Nat) (h:Px w P g o cur e xs):Px w P g (o+off) cur e ((xs.drop off).take len):=by
 obtain ⟨Fs,t1,t2,t3,t4⟩:=h
 refine ⟨(Fs.drop off).take len,by simp [t1],List.nodup_cons.2 ⟨λhm=>(List.nodup_cons.1 t2).1 (Lx off len _ hm),gf off len (List.nodup_cons.1 t2).2⟩,λb hb=>t3 b (Lx off len b hb),λi x F hx hF=>?_⟩
 obtain ⟨es,k1,k2,k3⟩:=t4 (off+i) x F (o5 hx) (o5 hF)
 exact ⟨es,k1,λj u hu=>by rw [Nat.add_assoc o off i];exact k2 j u hu,k3⟩
theorem GC {st:St} (h:Hx X w π st.heap) {c:CK} (hg: ∀e te kp,c≠ .Ai e te kp) {a:AC} {u:Value} (hu:Dq X w π st.heap a u) {x:c.den} {ls:List Nat} (he:er st c a=some (x,ls)):
  ∃r,Zm w (λb=>Om π b\/X.Sc b) r u c x/\ ∀q,r=some q-> ∃l p,ls= [l]/\π l=some p/\(∀b,q.Ba b->p.cl b)/\(c.TU=false-> ∀b,q.Ba b->p.Ba b):=by
 have DJ: ∀ {f:Bool} (b:Nat),(Om π b\/X.Sc b)->Bd X.w0.heap.size X.Sc π f b:= λb h=>h.imp id .inl
 cases c with
 |Ee τ=>
  simp only [er] at he
  split at he
  ·rename_i hf
   cases hv:Bm st τ a with
   |none=>rw [hv] at he;cases he
   |some p=>
    obtain ⟨fr,y⟩:=p
    rw [hv] at he
    simp only [Option.map_some,Option.some.injEq,Prod.mk.injEq] at he
    obtain ⟨rfl,rfl⟩:=he
    refine ⟨none,⟨rfl,?_⟩,λq hq=>by cases hq⟩
    have Ek: ∀f,Bb w (Bd X.w0.heap.size X.Sc π f) τ u y->Bb w (λb=>Om π b\/X.Sc b) τ u y:= λf hr=>hr.Ek λk _ hk=>DJ k hk
    cases a with
    |data f Iu z=>
     rw [Il] at hv
     split at hv
     ·rename_i ht;subst ht
      simp only [Option.some.injEq,Prod.mk.injEq] at hv
      obtain ⟨_,rfl⟩:=hv
      exact Ek f hu
     ·have Te:τ.Ab=false:=by unfold c6 at hv;split at hv<;>first|rfl|cases hv
      exact Ek _ ⟨[u],Xl hv hu,by simp [Ar,Te]⟩
    |Hf=>
     have hu:u= .slice none 0 0:=hu
     subst hu
     cases τ<;>simp only [Bm,Option.some.injEq,Prod.mk.injEq,reduceCtorEq] at hv
     ·obtain ⟨_,rfl⟩:=hv;exact ⟨[_],⟨none,0,0,rfl,rfl,Nat.le_refl _, .inl rfl⟩,rfl⟩
     ·obtain ⟨_,rfl⟩:=hv;exact ⟨[_], .inl ⟨rfl,0,rfl⟩,rfl⟩
    |Pr=>
     have hu:u= .pointer none:=hu
     subst hu
     cases τ<;>simp only [Bm,Option.some.injEq,Prod.mk.injEq,reduceCtorEq] at hv
     obtain ⟨_,rfl⟩:=hv;exact ⟨[_], .inl ⟨rfl,rfl⟩,rfl⟩
    |_=>cases τ<;>simp [AC.settled,Ty.flat,Bm] at hf hv
  ·cases he
 |row e te=>
  cases a<;>simp only [er] at he<;>try (cases he;done)
  ·simp only [Option.some.injEq,Prod.mk.injEq] at he
   obtain ⟨rfl,rfl⟩:=he
   have hu:u= .slice none 0 0:=hu
   exact ⟨none,⟨⟨hu,rfl,rfl⟩,rfl⟩,λq hq=>by cases hq⟩
  ·rename_i l off len
   split at he
   ·rename_i fr tr e' Kz xs hl
    split at he
    ·rename_i hc
     obtain ⟨rfl,rfl⟩:=hc
     simp only [Option.some.injEq,Prod.mk.injEq] at he
     obtain ⟨rfl,rfl⟩:=he
     unfold St.at at hl
     obtain ⟨h1,h2⟩:=Iz hu hl
     have hb:=(h.heap l).Lc hl
     simp only [Au,Fl] at hb
     have hlen:((xs.drop off).take len).length=len:=by simp;omega
     cases hp:π l with
     |none=>
      rw [hp] at h2 hb
      obtain ⟨rfl,rfl,rfl⟩:=h2
      exact ⟨none,⟨⟨rfl,rfl,by simp⟩,by show (xs.drop 0).take 0= [];simp⟩,λq hq=>by cases hq⟩
     |some p=>
      rw [hp] at h2 hb
      obtain ⟨k1,cur,ti,k2,k3,k4,k5,k6,_⟩:=hb
      have ho:=h2
      obtain ⟨ad,_,np,_⟩:=h2
      refine ⟨some ⟨p.g,p.o+off,p.cap-off,p.Ba,p.Ba⟩,⟨by rw [hlen];exact jT ho,⟨k1.1,k1.2.1⟩,cur,ti,k2,by rw [k3];congr 1;dsimp only;omega,by dsimp only;omega,by rw [hlen];dsimp only;omega,λi y hy=>?_⟩,
       fun q hq=>by cases hq;exact ⟨l,p,rfl,hp,λb hb=>h.sub l p b hp hb,λ_ b hb=>hb⟩⟩
      obtain ⟨es,g1,g2,g3⟩:=k6 (off+i) y (o5 hy)
      exact ⟨es,g1,λj u hu=>by dsimp only;rw [Nat.add_assoc p.o off i];exact g2 j u hu,Cells.Ci (Nat.le_refl _) (λ_ _ _=>rfl) (λb _ hb=>DJ b hb) e' es y g3⟩
    ·cases he
   ·cases he
 |Dp e te=>
  cases a<;>simp only [er] at he<;>try (cases he;done)
  ·simp only [Option.some.injEq,Prod.mk.injEq] at he
   obtain ⟨rfl,rfl⟩:=he
   have hu:u= .slice none 0 0:=hu
   exact ⟨none,⟨⟨hu,rfl,rfl⟩,rfl⟩,λq hq=>by cases hq⟩
  ·rename_i l off len
   split at he
   ·rename_i fr tr e' Kz xs hl
    split at he
    ·rename_i hc
     obtain ⟨rfl,rfl,hf⟩:=hc
     simp only [Option.some.injEq,Prod.mk.injEq] at he
     obtain ⟨rfl,rfl⟩:=he
     unfold St.at at hl
     obtain ⟨h1,h2⟩:=Iz hu hl
     have hb:=(h.heap l).Lc hl
     simp only [Au,Fl] at hb
     have hlen:((xs.drop off).take len).length=len:=by simp;omega
     cases hp:π l with
     |none=>
      rw [hp] at h2 hb
      obtain ⟨rfl,rfl,rfl⟩:=h2
      exact ⟨none,⟨⟨rfl,rfl,by simp⟩,by show (xs.drop 0).take 0= [];simp⟩,λq hq=>by cases hq⟩
     |some p=>
      rw [hp] at h2 hb
      obtain ⟨k1,cur,ti,k2,k3,k4,k5,k6,k7⟩:=hb
      have ho:=h2
      obtain ⟨ad,_,np,_⟩:=h2
      have ht:Px w p.cl p.g p.o cur e' xs:=by
       simp only [Bool.or_eq_true] at hf
       rcases hf with hf|hf
       ·exact k7 hf
       ·exact hI hf k6
      exact ⟨some ⟨p.g,p.o+off,p.cap-off,p.cl,p.cl⟩,⟨by rw [hlen];exact jT ho,h.sub l p _ hp k1.1,cur,ti,k2,by rw [k3];congr 1;dsimp only;omega,by dsimp only;omega,by rw [hlen];dsimp only;omega,ht.part off len⟩,
       fun q hq=>by cases hq;exact ⟨l,p,rfl,hp,λb hb=>hb,λhx=>by cases hx⟩⟩
    ·cases he
   ·rename_i e' Kz xs hl
    split at he
    ·rename_i hc
     obtain ⟨rfl,rfl⟩:=hc
     simp only [Option.some.injEq,Prod.mk.injEq] at he
     obtain ⟨rfl,rfl⟩:=he
     unfold St.at at hl
     obtain ⟨h1,h2⟩:=Vo hu hl
     have hb:=(h.heap l).Lc hl
     simp only [Au,Im] at hb
     have hlen:((xs.drop off).take len).length=len:=by simp;omega
     cases hp:π l with
     |none=>
      rw [hp] at h2 hb
      obtain ⟨rfl,rfl,rfl⟩:=h2
      exact ⟨none,⟨⟨rfl,rfl,by simp⟩,by show (xs.drop 0).take 0= [];simp⟩,λq hq=>by cases hq⟩
     |some p=>
      rw [hp] at h2 hb
      obtain ⟨k1,cur,ti,k2,k3,k4,k5,ht⟩:=hb
      have ho:=h2
      obtain ⟨ad,_,np,_⟩:=h2
      exact ⟨some ⟨p.g,p.o+off,p.cap-off,p.Ba,p.Ba⟩,⟨by rw [hlen];exact jT ho,k1,cur,ti,k2,by rw [k3];congr 1;dsimp only;omega,by dsimp only;omega,by rw [hlen];dsimp only;omega,ht.part off len⟩,
       fun q hq=>by cases hq;exact ⟨l,p,rfl,hp,λb hb=>h.sub l p b hp hb,λ_ b hb=>hb⟩⟩
    ·cases he
   ·cases he
 |part e te=>cases a<;>simp [er] at he
 |Ai e te kp=>exact absurd rfl (hg e te kp)
theorem MD {st:St} (h:Hx X w π st.heap) {c:CK} {a:AC} {u:Value} (hu:Dq X w π st.heap a u) {x:c.den} {ls:List Nat} (he:er st c a=some (x,ls)):
  ∃r,Zm w (λb=>Om π b\/X.Sc b) r u c x/\(∀q,r=some q-> ∃l p,ls= [l]/\π l=some p/\(∀b,q.Ba b->p.cl b)/\(c.TU=false-> ∀b,q.Ba b->p.Ba b))/\
   (∀l off len e te rows out kp,a= .own l off len->Ad st.heap l=some (.Ai e te rows out kp)->r=π l):=by
 have py:(∀e te kp,c≠ .Ai e te kp)->(∀l off len e te rows out kp,a=AC.own l off len->Ad st.heap l=some (OB.Ai e te rows out kp)->False)->
   ∃r,Zm w (λb=>Om π b\/X.Sc b) r u c x/\(∀q,r=some q-> ∃l p,ls= [l]/\π l=some p/\(∀b,q.Ba b->p.cl b)/\(c.TU=false-> ∀b,q.Ba b->p.Ba b))/\
   (∀l off len e te rows out kp,a= .own l off len->Ad st.heap l=some (.Ai e te rows out kp)->r=π l):= λh1 h2=>by
  obtain ⟨r,g1,g2⟩:=GC h h1 hu he
  exact ⟨r,g1,g2,λl off len e te rows out kp h3 h4=>(h2 l off len e te rows out kp h3 h4).elim⟩
 cases c with
 |Ee τ=>
  refine py (λ_ _ _ h=>by cases h) λl off len e te rows out kp h3 h4=>?_
  subst h3
  simp only [er] at he
  split at he
  ·rename_i hf
   cases τ<;>simp [AC.settled,Ty.flat,Bm] at hf he
  ·cases he
 |row e te=>
  refine py (λ_ _ _ h=>by cases h) λl off len e te rows out kp h3 h4=>?_
  subst h3
  simp only [er,St.at,h4] at he
  cases he
 |Dp e te=>
  refine py (λ_ _ _ h=>by cases h) λl off len e te rows out kp h3 h4=>?_
  subst h3
  simp only [er,St.at,h4] at he
  cases he
 |part e te=>cases a<;>simp [er] at he
 |Ai e te kp=>
  cases a<;>simp only [er] at he<;>try (cases he;done)
  rename_i l off len
  split at he
  ·rename_i e' Kz rows kp' hl
   split at he
   ·rename_i hc
    obtain ⟨rfl,rfl,rfl,rfl⟩:=hc
    simp only [Option.some.injEq,Prod.mk.injEq] at he
    obtain ⟨rfl,rfl⟩:=he
    unfold St.at at hl
    obtain ⟨b,sz,n,h1,h2,_,h3⟩:=hu
    rw [hl] at h1;cases h1
    simp only [OB.row,Option.some.injEq,Prod.mk.injEq] at h2
    obtain ⟨rfl,rfl⟩:=h2
    have hb:=((h.heap l).Lc hl).1
    refine ⟨π l,⟨h3,Tb.Ek hb λb hb=>hb.imp id .inl⟩,λq hq=>⟨l,q,rfl,hq,λb hb=>h.sub l q b hq hb,λ_ b hb=>hb⟩,λl' Aly Als _ _ _ _ _ he _=>?_⟩
    simp only [AC.own.injEq] at he
    rw [he.1]
   ·cases he
  ·cases he
theorem Eo.congr {D:Nat->Prop} {ρ ρ':Pi} : ∀(cs:List CK) (k:Nat) (x:CKs.den cs) (us:List Value),(∀j,k<=j->ρ' (Fp j)=ρ (Fp j))->Eo w D ρ k cs x us->Eo w D ρ' k cs x us
 | [],_,_,[],_,h=>h
 | [],_,_,_::_,_,h=>h.elim
 |_::_,_,_,[],_,h=>h.elim
 |c::r,k,x,u::us,he,h=>⟨by rw [he k (Nat.le_refl _)];exact h.1,Eo.congr r (k+1) x.2 us (λj hj=>he j (by omega)) h.2⟩
theorem rX {st:St} (h:Hx X w π st.heap): ∀(cs:List CK) (k:Nat) (as:List AC) (us:List Value) (x:CKs.den cs) (ls:List Nat),Hy X w π st.heap as us->Ob st cs as=some (x,ls)->ls.Nodup->
  ∃ρ:Pi,Eo w (λb=>Om π b\/X.Sc b) ρ k cs x us/\(∀l q,ρ l=some q-> ∃j,k<=j/\j<k+cs.length/\l=Fp j)/\(∀l q b,ρ l=some q->q.Ba b-> ∃l0∈ls,∃p,π l0=some p/\p.cl b/\((cs.all λc=>!c.TU)=true->p.Ba b))/\
   (∀l l' q q' b,ρ l=some q->ρ l'=some q'->q.Ba b->q'.Ba b->l=l')/\
   (∀(j l off len:Nat) e te rows out kp,as[j]?=some (.own l off len)->Ad st.heap l=some (.Ai e te rows out kp)->ρ (Fp (k+j))=π l)
 | [],k,[],[],x,ls,_,he,_=>by
  simp only [Ob,Option.some.injEq,Prod.mk.injEq] at he
  exact ⟨λ_=>none,trivial,(λl q h=>by cases h),(λl q b h=>by cases h),(λl l' q q' b h=>by cases h),λj l off len e te rows out kp h=>by simp at h⟩
 | [],_,[],_::_,_,_,h,_,_=>h.elim
 | [],_,_::_,_,_,_,_,he,_=>by simp [Ob] at he
 |_::_,_,[],_,_,_,_,he,_=>by simp [Ob] at he
 |_::_,_,_::_,[],_,_,h,_,_=>h.elim
 |c::r,k,a::as,u::us,x,ls,hr,he,OY=>by
  simp only [Ob] at he
  split at he
  ·rename_i x1 t1 x2 t2 h1 h2
   simp only [Option.some.injEq,Prod.mk.injEq] at he
   obtain ⟨rfl,rfl⟩:=he
   obtain ⟨n1,n2,n3⟩:=List.nodup_append.1 OY
   obtain ⟨ρ,g1,g2,g3,g4,g5⟩:=rX h r (k+1) as us x2 t2 hr.2 h2 n2
   obtain ⟨rr,r1,r2,r3⟩:=MD h hr.1 h1
   have w6: ∀l q q0 b,ρ l=some q->rr=some q0->q.Ba b->q0.Ba b->False:= λl q q0 b h3 h4 h5 h6=>by
    obtain ⟨l0,m0,p,p1,p2,_⟩:=g3 l q b h3 h5
    obtain ⟨l1,p',e1,p1',p2',_⟩:=r2 q0 h4
    have:=h.inj l0 l1 p p' b p1 p1' p2 (p2' b h6)
    exact n3 l1 (by rw [e1];simp) l0 m0 this.symm
   refine ⟨λl=>if l=Fp k then rr else ρ l,⟨by simpa using r1,Eo.congr r (k+1) x2 us (λj hj=>if_neg (by unfold Fp;omega)) g1⟩,λl q hq=>?_,λl q b hq hb=>?_,λl l' q q' b h3 h4 h5 h6=>?_,λj l off len e te rows out kp hj hl=>?_⟩
   ·dsimp only at hq
    by_cases e:l=Fp k
    ·exact ⟨k,Nat.le_refl _,by simp,e⟩
    ·rw [if_neg e] at hq
     obtain ⟨j,j1,j2,j3⟩:=g2 l q hq
     exact ⟨j,by omega,by simp;omega,j3⟩
   ·dsimp only at hq
    by_cases e:l=Fp k
    ·rw [if_pos e] at hq
     obtain ⟨l1,p',e1,p1',p2',p3'⟩:=r2 q hq
     exact ⟨l1,by rw [e1];simp,p',p1',p2' b hb,λhx=>p3' (by simp only [List.all_cons,Bool.and_eq_true,Bool.not_eq_true'] at hx;exact hx.1) b hb⟩
    ·rw [if_neg e] at hq
     obtain ⟨l0,m0,p,p1,p2,p3⟩:=g3 l q b hq hb
     exact ⟨l0,List.mem_append_right _ m0,p,p1,p2,λhx=>p3 (by simp only [List.all_cons,Bool.and_eq_true] at hx;exact hx.2)⟩
   ·dsimp only at h3 h4
    by_cases e:l=Fp k<;>by_cases e':l'=Fp k
    ·rw [e,e']
    ·rw [if_pos e] at h3;rw [if_neg e'] at h4
     exact (w6 l' q' q b h4 h3 h6 h5).elim
    ·rw [if_neg e] at h3;rw [if_pos e'] at h4
     exact (w6 l q q' b h3 h4 h5 h6).elim
    ·rw [if_neg e] at h3;rw [if_neg e'] at h4
     exact g4 l l' q q' b h3 h4 h5 h6
   ·rcases j with _|j
    ·simp only [List.getElem?_cons_zero,Option.some.injEq] at hj
     show (if Fp k=Fp k then rr else ρ (Fp k))=π l
     rw [if_pos rfl]
     exact r3 l off len e te rows out kp hj hl
    ·have:=g5 j l off len e te rows out kp (by simpa using hj) hl
     show (if Fp (k+(j+1))=Fp k then rr else ρ (Fp (k+(j+1))))=π l
     rw [if_neg (by unfold Fp;omega),<-this,show k+(j+1)=k+1+j by omega]
  ·cases he
theorem xN {r r':Option Real} (h:Uq (r.map full) r') {e:Ty} {xs:List e.den} {te:TypeId} {fr tr:Bool} (ha:Fl X w π r' fr tr e te xs):Mh w (λb=>Om π b\/X.Sc b) r e xs:=by
 cases r with
 |none=>cases r' with
  |none=>exact ha
  |some q=>exact h.elim
 |some p=>cases r' with
  |none=>exact h.elim
  |some q=>
   obtain ⟨e1,e2,e3,e4⟩:=h
   obtain ⟨k1,cur,ti,k2,k3,k4,k5,k6,_⟩:=ha
   have e1:p.g=q.g:=e1
   have e2:p.o=q.o:=e2
   have e3:p.cap=q.cap:=e3
   refine ⟨⟨by rw [e1];exact (e4 _).2 k1.1,λb hb=>by rw [e1];exact k1.2.1 b ((e4 b).1 hb)⟩,cur,ti,by rw [e1];exact k2,by rw [e2,e3];exact k3,by rw [e3];exact k4,by rw [e3];exact k5,λi y hy=>?_⟩
   obtain ⟨es,g1,g2,g3⟩:=k6 i y hy
   exact ⟨es,g1,by rw [e2];exact g2,Cells.Ci (Nat.le_refl _) (λ_ _ _=>rfl) (λb _ hb=>hb.imp id .inl) e es y g3⟩
theorem HC {r r':Option Real} (h:Uq (r.map full) r') {e:Ty} {xs:List e.den} {te:TypeId} (ha:Im w r' e te xs):Im w r e te xs:=by
 cases r with
 |none=>cases r' with
  |none=>exact ha
  |some q=>exact h.elim
 |some p=>cases r' with
  |none=>exact h.elim
  |some q=>
   obtain ⟨e1,e2,e3,e4⟩:=h
   obtain ⟨k1,cur,ti,k2,k3,k4,k5,Fs,t1,t2,t3,t4⟩:=ha
   have e1:p.g=q.g:=e1
   have e2:p.o=q.o:=e2
   have e3:p.cap=q.cap:=e3
   exact ⟨by rw [e1];exact (e4 _).2 k1,cur,ti,by rw [e1];exact k2,by rw [e2,e3];exact k3,by rw [e3];exact k4,by rw [e3];exact k5,Fs,t1,by rw [e1];exact t2,λb hb=>(e4 b).2 (t3 b hb),by rw [e2];exact t4⟩
theorem Nk {st:St} {π0:Pi} {D:Nat->Prop} {w0:World} (h:Hx X w π st.heap) (Ss: ∀l,X.bI l=(π0 l).map full): ∀(cs:List (Bool×CK)) (k:Nat) (x:Ins.den cs) (us:List Value) (o:IOs.den cs),Zn w0 D π0 k cs x us->Jb st k cs=some o->
  Hb w (λb=>Om π b\/X.Sc b) π0 k cs o/\ ∀l∈Jz k cs,Ad st.heap l≠none
 | [],_,_,_,_,_,_=>⟨trivial,λl hl=>by cases hl⟩
 |_::_,_,_,[],_,h,_=>h.elim
 |(false,c)::r,k,x,u::us,o,hi,he=>Nk h Ss r (k+1) x.2 us o hi.2 (by simpa only [Jb] using he)
 |(true, .Ee τ)::r,k,x,u::us,o,hi,he=>Nk h Ss r (k+1) x.2 us o hi.2 (by simpa only [Jb] using he)
 |(true, .Ai e te kp)::r,k,x,u::us,o,hi,he=>Nk h Ss r (k+1) x.2 us o hi.2 (by simpa only [Jb] using he)
 |(true, .row e te)::r,k,x,u::us,o,hi,he=>by
  simp only [Jb] at he
  split at he
  ·rename_i x1 x2 h1 h2
   simp only [Option.some.injEq] at he;subst he
   obtain ⟨g1,g2⟩:=Nk h Ss r (k+1) x.2 us x2 hi.2 h2
   have h0:=hi.1
   simp only [kE] at h1
   split at h1
   ·rename_i fr tr e' Kz xs hl
    split at h1
    ·rename_i hc
     obtain ⟨rfl,rfl⟩:=hc
     simp only [Option.some.injEq] at h1;subst h1
     unfold St.at at hl
     have hs:=h.bI (Bq true k) (by have:=Uc k;omega) (by rw [hl];simp)
     rw [Ss] at hs
     exact ⟨⟨xN (te:=Kz) hs ((h.heap _).Lc hl),g1⟩,λl Fz=>by
      simp only [Jz] at Fz
      rcases List.mem_cons.1 Fz with rfl|Fz
      ·rw [hl];simp
      ·exact g2 l Fz⟩
    ·cases h1
   ·cases h1
  ·cases he
 |(true, .part e te)::r,k,x,u::us,o,hi,he=>by
  simp only [Jb] at he
  split at he
  ·rename_i x1 x2 h1 h2
   simp only [Option.some.injEq] at he;subst he
   obtain ⟨g1,g2⟩:=Nk h Ss r (k+1) x.2 us x2 hi.2 h2
   have h0:=hi.1
   simp only [kE] at h1
   split at h1
   ·rename_i fr tr e' Kz xs hl
    split at h1
    ·rename_i hc
     obtain ⟨rfl,rfl⟩:=hc
     simp only [Option.some.injEq] at h1;subst h1
     unfold St.at at hl
     have hs:=h.bI (Bq true k) (by have:=Uc k;omega) (by rw [hl];simp)
     rw [Ss] at hs
     exact ⟨⟨xN (te:=Kz) hs ((h.heap _).Lc hl),g1⟩,λl Fz=>by
      simp only [Jz] at Fz
      rcases List.mem_cons.1 Fz with rfl|Fz
      ·rw [hl];simp
      ·exact g2 l Fz⟩
    ·cases h1
   ·cases h1
  ·cases he
 |(true, .Dp e te)::r,k,x,u::us,o,hi,he=>by
  simp only [Jb] at he
  split at he
  ·rename_i x1 x2 h1 h2
   simp only [Option.some.injEq] at he;subst he
   obtain ⟨g1,g2⟩:=Nk h Ss r (k+1) x.2 us x2 hi.2 h2
   simp only [kE] at h1
   split at h1
   ·rename_i e' Kz xs hl
    split at h1
    ·rename_i hc
     obtain ⟨rfl,rfl⟩:=hc
     simp only [Option.some.injEq] at h1;subst h1
     unfold St.at at hl
     have hs:=h.bI (Bq true k) (by have:=Uc k;omega) (by rw [hl];simp)
     rw [Ss] at hs
     exact ⟨⟨HC (te:=Kz) hs ((h.heap _).Lc hl),g1⟩,λl Fz=>by
      simp only [Jz] at Fz
      rcases List.mem_cons.1 Fz with rfl|Fz
      ·rw [hl];simp
      ·exact g2 l Fz⟩
    ·cases h1
   ·cases h1
  ·cases he
theorem pV {p:Bool×CK} {r:List (Bool×CK)} (h:Si (p::r)=true):Si r=true:=by
 rcases p with ⟨_|_,c⟩<;>cases c<;>first|(simp [Si] at h;done)|simpa [Si] using h
theorem rJ: ∀(cs:List (Bool×CK)) (k:Nat) (x:Ins.den cs) (l:Nat),Si cs=true->k+cs.length<100000->Ad (Sd k cs x) l≠none-> ¬l<Ak->l∈Jz k cs
 | [],_,_,_,_,_,h,_=>absurd rfl h
 |(io,c)::r,k,x,l,hng,hk,h,hp=>by
  simp only [List.length_cons] at hk
  simp only [Sd] at h
  have tail:Ad (Sd (k+1) r x.2) l≠none->l∈Jz (k+1) r:= λh=>rJ r (k+1) x.2 l (pV hng) (by omega) h hp
  have sub: ∀m,m∈Jz (k+1) r->m∈Jz k ((io,c)::r):= λm hm=>by
   cases io<;>cases c<;>simp only [Jz]<;>first|exact hm|exact List.mem_cons_of_mem _ hm
  cases hc:ei (Bq io k) c x.1 with
  |none=>rw [hc] at h;exact sub l (tail h)
  |some b=>
   rw [hc] at h
   simp only [bZ,Ad] at h
   split at h
   ·rename_i e;subst e
    cases io with
    |false=>exact absurd (aD (by omega)) hp
    |true=>cases c with
     |Ee τ=>cases hc
     |row e te=>simp [Jz]
     |Dp e te=>simp [Jz]
     |part e te=>simp [Jz]
     |Ai e te kp=>simp [Si] at hng
   ·exact sub l (tail h)
theorem Zm.Ek {D D':Nat->Prop} (hD: ∀b,D' b->D b) {r:Option Real} {u:Value} {c:CK} {x:c.den} (h:Zm w D r u c x):Zm w D' r u c x:=by
 cases c with
 |Ee τ=>exact ⟨h.1,h.2.Ek λb _ hb=>hD b hb⟩
 |row e te=>exact ⟨h.1,Mh.Ek h.2 hD⟩
 |Dp e te=>exact h
 |part e te=>exact ⟨h.1,h.2.1,Mh.Ek h.2.2 hD⟩
 |Ai e te kp=>exact ⟨h.1,Tb.Ek h.2 hD⟩
theorem Eo.Ek {D D':Nat->Prop} (hD: ∀b,D' b->D b) {ρ:Pi} : ∀(cs:List CK) (k:Nat) (x:CKs.den cs) (us:List Value),Eo w D ρ k cs x us->Eo w D' ρ k cs x us
 | [],_,_,[],h=>h
 | [],_,_,_::_,h=>h.elim
 |_::_,_,_,[],h=>h.elim
 |_c::r,k,x,_u::us,h=>⟨h.1.Ek hD,Eo.Ek hD r (k+1) x.2 us h.2⟩
theorem Hb.Ek {D D':Nat->Prop} (hD: ∀b,D' b->D b) {π:Pi} : ∀(cs:List (Bool×CK)) (k:Nat) (x:IOs.den cs),Hb w D π k cs x->Hb w D' π k cs x
 | [],_,_,h=>h
 |(false,_)::r,k,x,h=>Hb.Ek hD r (k+1) x h
 |(true, .Ee _)::r,k,x,h=>Hb.Ek hD r (k+1) x h
 |(true, .Ai _ _ _)::r,k,x,h=>Hb.Ek hD r (k+1) x h
 |(true, .row _e _te)::r,k,x,h=>⟨Mh.Ek h.1 hD,Hb.Ek hD r (k+1) x.2 h.2⟩
 |(true, .Dp _e _te)::r,k,x,h=>⟨h.1,Hb.Ek hD r (k+1) x.2 h.2⟩
 |(true, .part _e _te)::r,k,x,h=>⟨Mh.Ek h.1 hD,Hb.Ek hD r (k+1) x.2 h.2⟩
theorem Zn.congr {D:Nat->Prop} {π0 Vy:Pi} : ∀(cs:List (Bool×CK)) (k:Nat) (x:Ins.den cs) (us:List Value),(∀b j,k<=j->j<k+cs.length->Vy (Bq b j)=π0 (Bq b j))->Zn w D π0 k cs x us->Zn w D Vy k cs x us
 | [],_,_,[],_,h=>h
 | [],_,_,_::_,_,h=>h
 |_::_,_,_,[],_,h=>h
 |p::r,k,x,u::us,hp,h=>⟨by rw [hp p.1 k (Nat.le_refl _) (by simp)];exact h.1,Zn.congr r (k+1) x.2 us (λb j h1 h2=>hp b j (by omega) (by simp;omega)) h.2⟩
theorem Hb.congr {D:Nat->Prop} {π0 Vy:Pi} : ∀(cs:List (Bool×CK)) (k:Nat) (x:IOs.den cs),(∀b j,k<=j->j<k+cs.length->Vy (Bq b j)=π0 (Bq b j))->Hb w D π0 k cs x->Hb w D Vy k cs x
 | [],_,_,_,h=>h
 |(false,c)::r,k,x,hp,h=>by cases c<;>exact Hb.congr r (k+1) x (λb j h1 h2=>hp b j (by omega) (by simp;omega)) h
 |(true, .Ee _)::r,k,x,hp,h=>Hb.congr r (k+1) x (λb j h1 h2=>hp b j (by omega) (by simp;omega)) h
 |(true, .Ai _ _ _)::r,k,x,hp,h=>Hb.congr r (k+1) x (λb j h1 h2=>hp b j (by omega) (by simp;omega)) h
 |(true, .row e te)::r,k,x,hp,h=>⟨by rw [hp true k (Nat.le_refl _) (by simp)];exact h.1,Hb.congr r (k+1) x.2 (λb j h1 h2=>hp b j (by omega) (by simp;omega)) h.2⟩
 |(true, .Dp e te)::r,k,x,hp,h=>⟨by rw [hp true k (Nat.le_refl _) (by simp)];exact h.1,Hb.congr r (k+1) x.2 (λb j h1 h2=>hp b j (by omega) (by simp;omega)) h.2⟩
 |(true, .part e te)::r,k,x,hp,h=>⟨by rw [hp true k (Nat.le_refl _) (by simp)];exact h.1,Hb.congr r (k+1) x.2 (λb j h1 h2=>hp b j (by omega) (by simp;omega)) h.2⟩
theorem Ca.congr {π0 Vy:Pi} : ∀(cs:List (Bool×CK)) (k:Nat) (o:IOs.den cs) (n:Nat) (us as:List Value),(∀b j,k<=j->j<k+cs.length->Vy (Bq b j)=π0 (Bq b j))->Ca π0 k cs o n us as->Ca Vy k cs o n us as
 | [],k,o,0,us,as,_,h=>by simpa [Ca] using h
 | [],k,o,n+1,us,as,_,h=>by simp [Ca] at h
 |p::r,k,o,0,us,as,_,h=>by
  rcases p with ⟨_|_,c⟩<;>cases c<;>simpa [Ca] using h
 |(true, .Ee _)::r,k,o,n+1,us,as,_,h=>by simp [Ca] at h
 |(true, .part _ _)::r,k,o,n+1,us,as,_,h=>by simp [Ca] at h
 |(true, .Ai _ _ _)::r,k,o,n+1,us,as,_,h=>by simp [Ca] at h
 |(true, .row e te)::r,k,o,n+1,[],as,_,h=>by simp [Ca] at h
 |(true, .Dp e te)::r,k,o,n+1,[],as,_,h=>by simp [Ca] at h
 |(true, .row e te)::r,k,o,n+1,u::us,as,hp,h=>by
  simp only [Ca] at h⊢
  exact ⟨by rw [hp true k (Nat.le_refl _) (by simp)];exact h.1,Ca.congr r (k+1) o.2 n us as (λb j h1 h2=>hp b j (by omega) (by simp;omega)) h.2⟩
 |(true, .Dp e te)::r,k,o,n+1,u::us,as,hp,h=>by
  simp only [Ca] at h⊢
  exact ⟨by rw [hp true k (Nat.le_refl _) (by simp)];exact h.1,Ca.congr r (k+1) o.2 n us as (λb j h1 h2=>hp b j (by omega) (by simp;omega)) h.2⟩
 |(false,c)::r,k,o,n+1,[],as,_,h=>by cases c<;>simp [Ca] at h
 |(false,c)::r,k,o,n+1,u::us,[],_,h=>by cases c<;>simp [Ca] at h
 |(false,c)::r,k,o,n+1,u::us,a::as,hp,h=>by
  have h:u=a/\Ca π0 (k+1) r o n us as:=by cases c<;>exact h
  have:=Ca.congr r (k+1) o n us as (λb j h1 h2=>hp b j (by omega) (by simp;omega)) h.2
  cases c<;>exact ⟨h.1,this⟩
theorem kP: ∀(A B:List (Nat×OB)) (l:Nat),Ad (A++B) l=match Ad A l with|some b=>some b|none=>Ad B l
 | [],B,l=>rfl
 |(k,b)::A,B,l=>by
  simp only [List.cons_append,Ad]
  split
  ·rfl
  ·exact kP A B l
theorem nY {st:St} : ∀(cs:List CK) (as:List AC) (x:CKs.den cs) (ls:List Nat),Ob st cs as=some (x,ls)-> ∀l∈ls,∃b,Ad st.heap l=some b/\b.row≠none
 | [],[],x,ls,he=>by
  simp only [Ob,Option.some.injEq,Prod.mk.injEq] at he
  obtain ⟨_,rfl⟩:=he
  intro l hl;cases hl
 | [],_::_,_,_,he=>by simp [Ob] at he
 |_::_,[],_,_,he=>by simp [Ob] at he
 |c::r,a::as,x,ls,he=>by
  simp only [Ob] at he
  split at he
  ·rename_i x1 t1 x2 t2 h1 h2
   simp only [Option.some.injEq,Prod.mk.injEq] at he
   obtain ⟨_,rfl⟩:=he
   intro l hl
   rcases List.mem_append.1 hl with hl|hl
   ·unfold er at h1
    split at h1
    ·split at h1
     ·cases hv:Bm st _ a with
      |none=>rw [hv] at h1;cases h1
      |some p=>rw [hv] at h1;simp only [Option.map_some,Option.some.injEq,Prod.mk.injEq] at h1;obtain ⟨_,rfl⟩:=h1;cases hl
     ·cases h1
    all_goals (repeat' split at h1)
    all_goals first|(cases h1;done)|skip
    all_goals (simp only [Option.some.injEq,Prod.mk.injEq] at h1;obtain ⟨_,rfl⟩:=h1)
    all_goals first|(cases hl;done)|skip
    all_goals (have hl:=List.mem_singleton.1 hl;subst hl)
    all_goals (rename_i heq _;exact ⟨_,heq,by simp [OB.row]⟩)
   ·exact nY r as x2 t2 h2 l hl
  ·cases he
theorem l5 {r r':Option Real} {sz off len:Nat} {v:Value} (h:Uq r r') (hv:Dv r' sz off len v):Dv r sz off len v:=by
 cases r<;>cases r'<;>first|exact h.elim|skip
 ·exact hv
 ·obtain ⟨h1,h2,h3,_⟩:=h
  obtain ⟨ad,g1,g2,g3⟩:=hv
  exact ⟨ad,by rw [h3];exact g1,by rw [h3];exact g2,by rw [h1,h2,h3];exact g3⟩
theorem Rk {st:St} {π0:Pi} (hs: ∀k,Ad st.heap (Bq true k)≠none->Uq ((π0 (Bq true k)).map full) (π (Bq true k))):
  ∀(cs:List (Bool×CK)) (k:Nat) (vs:List AC) (us:List Value) (bc:List AC) (o:IOs.den cs),Hy X w π st.heap vs us->Er k cs vs=some bc->cy st vs cs->Jb st k cs=some o->
   ∃bv,Hy X w π st.heap bc bv/\bv.length=og cs vs.length/\ ∀tl,Ca π0 k cs o vs.length us (bv++tl)
 |cs,k,[],us,bc,o,hr,he,_,_=>by
  have e1:us= []:=by cases us with|nil=>rfl|cons u us=>exact hr.elim
  have e2:bc= []:=by rcases cs with _|⟨⟨_|_,c⟩,r⟩<;>simpa [Er] using he.symm
  subst e1;subst e2
  refine ⟨[],trivial,?_,λtl=>?_⟩
  ·rcases cs with _|⟨⟨_|_,c⟩,r⟩<;>rfl
  ·rcases cs with _|⟨⟨_|_,c⟩,r⟩<;>(try cases c)<;>simp [Ca]
 | [],k,a::vs,us,bc,o,hr,he,_,_=>by simp [Er] at he
 |p::r,k,a::vs,[],bc,o,hr,_,_,_=>hr.elim
 |(false,c)::r,k,a::vs,u::us,bc,o,hr,he,hk,ho=>by
  have he:(Er (k+1) r vs).map (λl=>a::l)=some bc:=by cases a<;>exact he
  cases hb:Er (k+1) r vs with
  |none=>rw [hb] at he;cases he
  |some bc'=>
   rw [hb] at he
   simp only [Option.map_some,Option.some.injEq] at he;subst he
   obtain ⟨bv,g1,g2,g3⟩:=Rk hs r (k+1) vs us bc' o hr.2 hb (by cases a<;>exact hk) (by cases c<;>simpa only [Jb] using ho)
   refine ⟨u::bv,⟨hr.1,g1⟩,by simp [og,g2],λtl=>?_⟩
   have:=g3 tl
   cases c<;>exact ⟨rfl,this⟩
 |(true,c)::r,k,a::vs,u::us,bc,o,hr,he,hk,ho=>by
  cases c with
  |Ee τ=>cases a<;>simp [Er] at he
  |part e te=>cases a<;>simp [Er] at he
  |Ai e te kp=>cases a<;>simp [Er] at he
  |row e te=>
   cases a<;>first|(simp [Er] at he;done)|skip
   rename_i l off len
   simp only [Er] at he
   split at he
   rotate_left
   ·cases he
   rename_i hl
   have hl:l=Bq true k:=Nat.eq_of_beq_eq_true hl
   subst hl
   obtain ⟨⟨rfl,hlen⟩,hk⟩:=hk
   obtain ⟨b,sz,n,h1,h2,h3,h4⟩:=hr.1
   have wK:=hs k (by rw [h1];simp)
   simp only [Jb] at ho
   split at ho
   ·rename_i x1 x2 q1 q2
    simp only [Option.some.injEq] at ho;subst ho
    obtain ⟨bv,g1,g2,g3⟩:=Rk hs r (k+1) vs us bc x2 hr.2 he hk q2
    refine ⟨bv,g1,by simpa [og] using g2,λtl=>?_⟩
    refine ⟨?_,g3 tl⟩
    simp only [kE] at q1
    split at q1
    ·rename_i fr tr e' Kz xs Fz
     split at q1
     ·rename_i hc
      obtain ⟨rfl,rfl⟩:=hc
      simp only [Option.some.injEq] at q1;subst q1
      unfold St.at at Fz hlen
      rw [Fz] at hlen
      rw [h1] at Fz;cases Fz
      simp only [OB.row,Option.some.injEq,Prod.mk.injEq] at h2
      obtain ⟨rfl,rfl⟩:=h2
      have hlen:len=List.length xs:=hlen
      have:=l5 wK h4
      rw [hlen] at this
      have e0:(π0 (Bq true k)).map full=(π0 (Bq true k)).map full:=rfl
      cases hp:π0 (Bq true k)<;>(rw [hp] at this;exact this)
     ·cases q1
    ·cases q1
   ·cases ho
  |Dp e te=>
   cases a<;>first|(simp [Er] at he;done)|skip
   rename_i l off len
   simp only [Er] at he
   split at he
   rotate_left
   ·cases he
   rename_i hl
   have hl:l=Bq true k:=Nat.eq_of_beq_eq_true hl
   subst hl
   obtain ⟨⟨rfl,hlen⟩,hk⟩:=hk
   obtain ⟨b,sz,n,h1,h2,h3,h4⟩:=hr.1
   have wK:=hs k (by rw [h1];simp)
   simp only [Jb] at ho
   split at ho
   ·rename_i x1 x2 q1 q2
    simp only [Option.some.injEq] at ho;subst ho
    obtain ⟨bv,g1,g2,g3⟩:=Rk hs r (k+1) vs us bc x2 hr.2 he hk q2
    refine ⟨bv,g1,by simpa [og] using g2,λtl=>?_⟩
    refine ⟨?_,g3 tl⟩
    simp only [kE] at q1
    split at q1
    ·rename_i e' Kz xs Fz
     split at q1
     ·rename_i hc
      obtain ⟨rfl,rfl⟩:=hc
      simp only [Option.some.injEq] at q1;subst q1
      unfold St.at at Fz hlen
      rw [Fz] at hlen
      rw [h1] at Fz;cases Fz
      simp only [OB.row,Option.some.injEq,Prod.mk.injEq] at h2
      obtain ⟨rfl,rfl⟩:=h2
      have hlen:len=List.length xs:=hlen
      have:=l5 wK h4
      rw [hlen] at this
      cases hp:π0 (Bq true k)<;>(rw [hp] at this;exact this)
     ·cases q1
    ·cases q1
   ·cases ho
def Ad1 (s:MSpec) (g:Nat) (π:Pi):Pi:= λl=>if s.ptr.isSome=true/\l=Jk then some ⟨g,0,0,λb=>b=g,λb=>b=g⟩ else π l
def ZU (P:Program) (s:MSpec) (fn:Func) (x:Ins.den s.ins) (w:World) (S:Nat->Prop) (π:Pi) (g:Nat) (r:CKs.den s.outs) (o:IOs.den s.ins) (a':Act) (w':World):Prop:=
 ∃(v:Value) (Pp:List Value) (ρ:Pi),a'.defers= []/\(results fn a'.tmps).run P w'= .ok v w'/\mC s w' ρ (Pp.drop s.Tg) v/\fw s π w' g Pp o/\Gb w.heap.size (λb=>Om π b\/s.gv g b) w w'/\Hb w' (eg S π ρ) π 0 s.ins o/\Eo w' (eg S π ρ) ρ 0 s.outs r Pp/\
  bM ρ (λb=>b<w'.heap.size/\(w.heap.size<=b\/ ∃l q,l<Ak/\π l=some q/\q.Ba b))/\(∀l,(∀k,k<s.Nn->l≠Fp k)->ρ l=none)/\(∀kj∈s.keeps,vC w w' (π (Bq false kj.1)) (ρ (Fp kj.2)) (s.Ci x))
theorem Eo.JQ {D:Nat->Prop} {ρ ρ':Pi} : ∀(cs:List CK) (k:Nat) (x:CKs.den cs) (us:List Value),(∀j,k<=j->j<k+cs.length->ρ' (Fp j)=ρ (Fp j))->Eo w D ρ k cs x us->Eo w D ρ' k cs x us
 | [],_,_,[],_,h=>h
 | [],_,_,_::_,_,h=>h.elim
 |_::_,_,_,[],_,h=>h.elim
 |c::r,k,x,u::us,he,h=>⟨by rw [he k (Nat.le_refl _) (by simp)];exact h.1,Eo.JQ r (k+1) x.2 us (λj hj hl=>he j (by omega) (by simp;omega)) h.2⟩
theorem rO {st:St} {n:Nat} {as:List AC} : ∀ {ks:List (Nat×Nat)},rM st n as ks-> ∀kj∈ks,∃l off len e te rows out p,as[kj.2]?=some (.own l off len)/\Ad st.heap l=some (.Ai e te rows out (some p))/\p.1=Bq false kj.1/\n<=p.2/\kj.1<1000
 | [],_,kj,hm=>by cases hm
 |(k,j)::r,h,kj,hm=>by
  simp only [rM] at h
  rcases List.mem_cons.1 hm with rfl|hm
  ·obtain ⟨h,_⟩:=h
   split at h
   ·rename_i l off len he
    split at h
    ·rename_i e te rows out p hl
     unfold St.at at hl
     exact ⟨l,off,len,e,te,rows,out,p,he,hl,h.1,h.2.1,by simpa using h.2.2⟩
    ·exact h.elim
   ·exact h.elim
  ·exact rO h.2 kj hm
theorem rW {st:St} : ∀(cs:List CK) (as:List AC) (x:CKs.den cs) (ls:List Nat),Ob st cs as=some (x,ls)->as.length=cs.length
 | [],[],_,_,_=>rfl
 | [],_::_,_,_,he=>by simp [Ob] at he
 |_::_,[],_,_,he=>by simp [Ob] at he
 |c::r,a::as,x,ls,he=>by
  simp only [Ob] at he
  split at he
  ·rename_i h1 h2
   simp only [List.length_cons,rW r as _ _ h2]
  ·cases he
theorem xL {α β:Type} (f:α->Sem β): ∀(l:List α) (vs:List β),vs.length=l.length->(∀(i:Nat) a v,l[i]?=some a->vs[i]?=some v->(f a).run P w= .ok v w)->(l.mapM f).run P w= .ok vs w
 | [],[],_,_=>by simp
 | [],_::_,h,_=>by simp at h
 |_::_,[],h,_=>by simp at h
 |a::l,v::vs,h,hr=>by
  rw [List.mapM_cons]
  simp only [Sem.run_bind,hr 0 a v rfl rfl,Result.andThen_ok,xL f l vs (by simpa using h) (λi a' v' ha hv=>hr (i+1) a' v' (by simpa using ha) (by simpa using hv)),Sem.run_pure]
theorem pG (hT:Bz P T) (Mg:Ia P Γ) (hm:P.follows .mixedOrders=true) {f:FuncId} {fn:Func} (hf:P.funcs[f]?=some fn) (s:MSpec) (w:World) (S:Nat->Prop) (π:Pi) (us:List Value) (x:Ins.den s.ins)
  (r:CKs.den s.outs) (o:IOs.den s.ins) (g:Nat) (gL:List Value) (Kw:jh s w g us gL) (hSg:s.ptr.isSome=true->S g) (cp:Zn w (λb=>Om π b\/S b) π 0 s.ins x us) (dK:bM π (λb=>b<w.heap.size)) (hS: ∀b,S b->b<w.heap.size/\ ¬Om π b) (JY: ∀l,Ad (Sd 0 s.ins x) l=none->π l=none) (he:RZ T Γ s fn x λz=>z=(r,o)):
  Calls P f gL.toArray w λe w'=> ∃v Pp ρ,e= .returned v/\mC s w' ρ (Pp.drop s.Tg) v/\fw s π w' g Pp o/\Gb w.heap.size (λb=>Om π b\/s.gv g b) w w'/\Hb w' (eg S π ρ) π 0 s.ins o/\Eo w' (eg S π ρ) ρ 0 s.outs r Pp/\
   bM ρ (λb=>b<w'.heap.size/\(w.heap.size<=b\/ ∃l q,l<Ak/\π l=some q/\q.Ba b))/\(∀l,(∀k,k<s.Nn->l≠Fp k)->ρ l=none)/\(∀kj∈s.keeps,vC w w' (π (Bq false kj.1)) (ρ (Fp kj.2)) (s.Ci x)):=by
 obtain ⟨hlen,c,hb,he⟩:=he
 simp only [Bool.and_eq_true,Nat.blt_eq] at hlen
 obtain ⟨hlen,KB⟩:=hlen
 unfold ub at KB
 simp only [Bool.and_eq_true] at KB
 have Aav:=KB.1
 let lv:Pi:=Ad1 s g π
 let Sg:Nat->Prop:= λb=>S b/\ ¬s.gv g b
 have hvl: ∀b j,j<1000->Bq b j≠Jk:= λb j hj=>by cases b<;>(unfold Bq Jk;simp;omega)
 have tn: ∀b j,0<=j->j<0+s.ins.length->lv (Bq b j)=π (Bq b j):= λb j _ hj=>if_neg λh=>hvl b j (by omega) h.2
 have TD: ∀b j,0<=j->j<0+s.ins.length->π (Bq b j)=lv (Bq b j):= λb j h1 h2=>(tn b j h1 h2).symm
 have WQ:Ad (Sd 0 s.ins x) Jk=none:=Classical.byContradiction λhn=>by
  obtain ⟨b,j,_,h2,h3⟩:=nD s.ins 0 x Jk hn
  exact hvl b j (by omega) h3.symm
 have HW: ∀l q,lv l=some q->(π l=some q/\(s.ptr.isSome=true->l≠Jk))\/(s.ptr.isSome=true/\l=Jk/\q=⟨g,0,0,λb=>b=g,λb=>b=g⟩):= λl q hq=>by
  have hq:(if s.ptr.isSome=true/\l=Jk then some ⟨g,0,0,λb=>b=g,λb=>b=g⟩ else π l)=some q:=hq
  split at hq
  ·rename_i hc;exact .inr ⟨hc.1,hc.2,(Option.some.inj hq).symm⟩
  ·rename_i hc;exact .inl ⟨hq,λh1 h2=>hc ⟨h1,h2⟩⟩
 have Yr: ∀b,Om lv b↔Om π b\/s.gv g b:= λb=>by
  constructor
  ·rintro ⟨l,q,h1,h2⟩
   rcases HW l q h1 with ⟨h3,_⟩|⟨h3,h4,rfl⟩
   ·exact .inl ⟨l,q,h3,h2⟩
   ·exact .inr ⟨h3,h2⟩
  ·rintro (⟨l,q,h1,h2⟩|⟨h1,rfl⟩)
   ·refine ⟨l,q,?_,h2⟩
    show (if s.ptr.isSome=true/\l=Jk then _ else π l)=some q
    rw [if_neg]
    ·exact h1
    ·rintro ⟨_,rfl⟩
     rw [JY Jk WQ] at h1;cases h1
   ·exact ⟨Jk,⟨b,0,0,λc=>c=b,λc=>c=b⟩,if_pos ⟨h1,rfl⟩,rfl⟩
 have hgS: ∀b,s.gv g b->S b:= λb ⟨h1,h2⟩=>h2▸hSg h1
 have VN:Zn w (λb=>Om lv b\/Sg b) lv 0 s.ins x us:=Zn.congr s.ins 0 x us tn (Zn.Ek (λb hb=>by
  rcases hb with hb|hb
  ·rcases (Yr b).1 hb with hb|hb
   ·exact .inl hb
   ·exact .inr (hgS b hb)
  ·exact .inr hb.1) s.ins 0 x us cp)
 have Ab0:bM lv (λb=>b<w.heap.size):=⟨λl q b h1 h2=>by
  rcases HW l q h1 with ⟨h3,_⟩|⟨h3,h4,rfl⟩
  ·exact dK.Tk l q b h3 h2
  ·exact (hS b (hgS b ⟨h3,h2⟩)).1,λl l' q q' b h1 h2 h3 h4=>by
  rcases HW l q h1 with ⟨h5,_⟩|⟨h5,h6,rfl⟩<;>rcases HW l' q' h2 with ⟨h7,_⟩|⟨h7,h8,rfl⟩
  ·exact dK.inj l l' q q' b h5 h7 h3 h4
  ·exact absurd ⟨l,q,h5,h3⟩ (hS b (hgS b ⟨h7,h4⟩)).2
  ·exact absurd ⟨l',q',h7,h4⟩ (hS b (hgS b ⟨h5,h3⟩)).2
  ·rw [h6,h8]⟩
 have Af1: ∀b,Sg b->b<w.heap.size/\ ¬Om lv b:= λb hb=>⟨(hS b hb.1).1,λho=>((Yr b).1 ho).elim (hS b hb.1).2 hb.2⟩
 have DM: ∀l,Ad (kR s x) l=match Ad (Sd 0 s.ins x) l with|some b=>some b|none=>if l=Jk then s.ptr.map λp=> .var p.1 ((Ve 0 s.ins x).take p.2) else none:= λl=>by
  unfold kR
  cases hp:s.ptr with
  |none=>cases Ad (Sd 0 s.ins x) l<;>simp
  |some p=>
   simp only
   rw [kP]
   cases Ad (Sd 0 s.ins x) l with
   |some b=>rfl
   |none=>
    simp only [Ad,Option.map_some]
    by_cases e:l=Jk
    ·rw [if_pos e,if_pos e.symm]
    ·rw [if_neg e,if_neg (λh=>e h.symm)]
 let π0:Pi:= λl=>(lv l).map full
 have un: ∀l q,π0 l=some q-> ∃q0,lv l=some q0/\q=full q0:= λl q hq=>by
  have hq:(lv l).map full=some q:=hq
  cases hp:lv l with
  |none=>rw [hp] at hq;cases hq
  |some q0=>rw [hp] at hq;exact ⟨q0,rfl,(Option.some.inj hq).symm⟩
 have KD: ∀l b,Ad (Sd 0 s.ins x) l=some b->Ad (kR s x) l=some b:= λl b hb=>by rw [DM l,hb]
 have WI:Hy ⟨w,Sg,Om lv,π0⟩ w π0 (kR s x) (Ve 0 s.ins x) us:=wO (λ_=>rfl) s.ins 0 x us (by omega) VN KD
 have KT:s.ptr.isSome=true->π0 Jk=some ⟨g,0,0,λb=>b=g,λb=>b=g⟩:= λhp=>by
  show (if s.ptr.isSome=true/\Jk=Jk then _ else π Jk).map full=_
  rw [if_pos ⟨hp,rfl⟩];rfl
 obtain ⟨g1,g2⟩:(Tf s (Ve 0 s.ins x)).length=gL.length/\ ∀(i:Nat) c v,(Tf s (Ve 0 s.ins x))[i]?=some c->gL[i]?=some v->Am ⟨w,Sg,Om lv,π0⟩ w π0 (kR s x) c v:=by
  unfold jh at Kw
  cases hp:s.ptr with
  |none=>
   rw [hp] at Kw
   obtain ⟨rfl,yL⟩:=Kw
   obtain ⟨g1,g2,_,_⟩:=Yo s.Fb _ us yL WI
   rw [show Tf s (Ve 0 s.ins x)=Ml s.Fb (Ve 0 s.ins x) by unfold Tf;rw [hp]]
   exact ⟨g1,g2⟩
  |some p=>
   rw [hp] at Kw
   obtain ⟨rfl,yL,_⟩:=Kw
   obtain ⟨g1,g2,_,_⟩:=Yo s.Fb _ (us.drop p.2) yL (Hy.take p.2 WI).2
   rw [show Tf s (Ve 0 s.ins x)= .at (.Dn Jk 0)::Ml s.Fb ((Ve 0 s.ins x).drop p.2) by unfold Tf;rw [hp]]
   refine ⟨by simp [g1],λi c v h1 h2=>?_⟩
   rcases i with _|i
   ·simp only [List.getElem?_cons_zero,Option.some.injEq] at h1 h2
    subst h1;subst h2
    exact ⟨_,p.1,(Ve 0 s.ins x).take p.2,by rw [DM,WQ];simp [hp],KT (by rw [hp];rfl),rfl⟩
   ·exact g2 i c v (by simpa using h1) (by simpa using h2)
 have h0:Rel ⟨w,Sg,Om lv,π0⟩ {tmps:=Tf s (Ve 0 s.ins x)++List.replicate (fn.ntmps-(Tf s (Ve 0 s.ins x)).length) .undef,heap:=kR s x}
   {tmps:=gL.toArray++Array.replicate (fn.ntmps-gL.toArray.size) undef,defers:= []} w:=by
  refine ⟨π0,⟨Gb.refl _ _ _,λb hb=>Af1 b hb,λl q b h1 h2=>?_,λl q b h1 h2=>?_,λl l' q q' b h1 h2 h3 h4=>?_,λl _ _=>Uq.rfl' _,λl=>?_⟩,⟨by simp [g1],rfl,λt=>?_⟩⟩
  ·obtain ⟨q0,_,rfl⟩:=un l q h1;exact h2
  ·obtain ⟨q0,h3,rfl⟩:=un l q h1
   exact ⟨.inr ⟨l,q0,h3,h2⟩,Ab0.Tk l q0 b h3 h2⟩
  ·obtain ⟨q0,h5,rfl⟩:=un l q h1
   obtain ⟨XY,h6,rfl⟩:=un l' q' h2
   exact Ab0.inj l l' q0 XY b h5 h6 h3 h4
  ·cases hh:Ad (Sd 0 s.ins x) l with
   |none=>
    by_cases hv:s.ptr.isSome=true/\l=Jk
    ·obtain ⟨ZP,rfl⟩:=hv
     obtain ⟨p,hp⟩:=Option.isSome_iff_exists.1 ZP
     refine Cr.Gs (b:= .var p.1 ((Ve 0 s.ins x).take p.2)) ?_ (by rw [DM,hh];simp [hp])
     unfold jh at Kw
     rw [hp] at Kw
     obtain ⟨_,_,h1,h2,h3⟩:=Kw
     rw [KT ZP]
     exact ⟨_,rfl,rfl,_,h2,Hy.to (Hy.take p.2 WI).1 h3⟩
    ·refine Cr.Nd ?_ ?_
     ·show (if s.ptr.isSome=true/\l=Jk then _ else π l).map full=none
      rw [if_neg hv,JY l hh];rfl
     ·rw [DM,hh]
      simp only
      split
      ·rename_i e
       cases hp:s.ptr with
       |none=>rfl
       |some p=>exact absurd ⟨by rw [hp];rfl,e⟩ hv
      ·rfl
   |some b=>exact Cr.Gs (fT (π0:=lv) (λb hb=>by
    rcases hb with ⟨l,q,h1,h2⟩|hb|⟨hb,_⟩
    ·obtain ⟨q0,h3,rfl⟩:=un l q h1;exact .inl ⟨l,q0,h3,h2⟩
    ·exact .inr hb
    ·cases hb) rfl (λ_=>rfl) s.ins 0 x us VN l b hh) (KD l b hh)
  ·show Am _ w _ _ ((Tf s (Ve 0 s.ins x)++List.replicate _ AV.undef).getD t .undef) ((gL.toArray++Array.replicate _ undef).getD t undef)
   by_cases ht:t<gL.length
   ·rw [List.getD_eq_getElem?_getD,List.getElem?_append_left (by omega),<-List.getD_eq_getElem?_getD]
    rw [Array.getD_eq_getD_getElem?,Array.getElem?_append_left (by simpa using ht)]
    have:=g2 t _ _ (List.getElem?_eq_getElem (by omega)) (List.getElem?_eq_getElem ht)
    simpa [List.getD_eq_getElem?_getD,List.getElem?_eq_getElem ht,List.getElem?_eq_getElem (show t<(Tf s (Ve 0 s.ins x)).length by omega)] using this
   ·have:(Tf s (Ve 0 s.ins x)++List.replicate (fn.ntmps-(Tf s (Ve 0 s.ins x)).length) AV.undef).getD t .undef= .undef:=by
     rw [List.getD_eq_getElem?_getD,List.getElem?_append_right (by omega)]
     rw [List.getElem?_replicate]
     split<;>rfl
    rw [this];trivial
 have fin: ∀(st:St) (a':Act) (w':World),JA T s fn x st (λz=>z=(r,o))->Rel ⟨w,Sg,Om lv,π0⟩ st a' w'->ZU P s fn x w S π g r o a' w':=by
  intro st a' w' lG hrel
  obtain ⟨Vy,h'⟩:=hrel
  have TJ:Ak<=Jk:=by unfold Ak Jk;omega
  obtain ⟨bc,kO,Agw,hbc⟩: ∃bc,dS T s fn x st bc (λz=>z=(r,o))/\(s.ptr.isSome=true-> ∃b,Ad st.heap Jk=some b/\b.row=none)/\
    (Jb st 0 s.ins=some o-> ∃bv,Hy ⟨w,Sg,Om lv,π0⟩ w' Vy st.heap bc bv/\bv.length=s.Tg/\ ∀tl,fw s π w' g (bv++tl) o):=by
   unfold JA at lG
   cases hp:s.ptr with
   |none=>
    rw [hp] at lG
    exact ⟨[],lG,λh=>by simp at h,λ_=>⟨[],trivial,by simp [MSpec.Tg,hp],λtl=>by simp [fw,hp]⟩⟩
   |some p=>
    rw [hp] at lG
    obtain ⟨vs,cs,h1,h2,h3,h4,h5⟩:=lG
    unfold St.at at h1
    refine ⟨cs,h5,λ_=>⟨_,h1,rfl⟩,λtf=>?_⟩
    obtain ⟨q,k1,k2,cur,k3,k4⟩:=(h'.1.heap Jk).Lc h1
    have hsv:Uq (π0 Jk) (Vy Jk):=h'.1.bI Jk TJ (by rw [h1];simp)
    rw [KT (by rw [hp];rfl),k1] at hsv
    have hqg:g=q.g:=hsv.1
    obtain ⟨bv,g1,g2,g3⟩:=Rk (π0:=lv) (λk hk=>h'.1.bI _ (Nat.le_of_not_lt (Uc k)) hk) s.ins 0 vs cur.toList cs o (Hy.of k4) h3 h4 tf
    refine ⟨bv,g1,by rw [g2,h2];simp [MSpec.Tg,hp],λtl=>?_⟩
    unfold fw
    rw [hp]
    refine ⟨cur.toList,by rw [hqg];simpa using k3,λu hu=>?_,Ca.congr s.ins 0 o p.2 _ _ TD (h2▸g3 tl)⟩
    obtain ⟨i,hi,rfl⟩:=List.mem_iff_getElem.1 hu
    have hl:=k4.1
    obtain ⟨u',h6,h7,_⟩:=k4.2 i (vs[i]'(by omega)) (List.getElem?_eq_getElem _)
    rw [List.getElem?_eq_getElem hi] at h6
    rw [Option.some.inj h6];exact h7
  unfold dS at kO
  split at kO
  ·exact kO.elim
  rename_i l hl
  split at kO
  ·exact kO.elim
  rename_i as ml cq
  split at kO
  rotate_left
  ·exact kO.elim
  rename_i r' ls o' zq rn
  obtain ⟨Ey,rD,KN⟩:=kO
  simp only [Bool.and_eq_true,Nat.blt_eq] at Ey
  obtain ⟨⟨⟨OY,Aka⟩,Aik⟩,Aar⟩:=Ey
  simp only [Prod.mk.injEq] at KN
  obtain ⟨rfl,rfl⟩:=KN
  obtain ⟨bv,hbv,Afd,Afb⟩:=hbc rn
  have zo:=Qo OY
  obtain ⟨n1,n2,n3⟩:=List.nodup_append.1 zo
  obtain ⟨m1,m2,m3⟩:=List.nodup_append.1 n1
  obtain ⟨vs,v1,v2,v3,v4⟩:=Qq hT h' _ _ hl
  have QK:fn.results=fn.results.toList.toArray:=Array.toArray_toList.symm
  have Ok: ∀v,(if h:vs.toArray.size=1 then vs.toArray[0] else .tuple vs.toArray)=v->(results fn a'.tmps).run P w'= .ok v w':=by
   intro v hv
   rw [aC,QK,List.mapM_toArray]
   simp only [map_eq_pure_bind,bind_assoc,pure_bind]
   simp only [Sem.run_bind,xL (AX a'.tmps) _ vs v1 v3,Result.andThen_ok,Sem.run_pure]
   rw [hv]
  obtain ⟨qG,v,qm,Agv,hv,TK⟩: ∃qG v qm,Hy ⟨w,Sg,Om lv,π0⟩ w' Vy st.heap as qG/\(results fn a'.tmps).run P w'= .ok v w'/\
    ((s.rp=none/\ml= []/\qm=none/\MS s.Dh s.Ef qG v/\Wz s.Ef qG)\/
     ∃tid m q,s.rp=some tid/\ml= [m]/\m<Ak/\qm=some q/\Vy m=some q/\q.Ba q.g/\w'.heap[q.g]?=some (.cells qG.toArray tid (0,0))/\(∀u∈qG,u.oneCell'=true)/\v= .pointer (some ⟨q.g,0,none⟩)):=by
   unfold AW at cq
   split at cq
   ·rename_i yK
    split at cq
    rotate_left
    ·cases cq
    rename_i hmul
    cases IT:ungroup s.Ef l with
    |none=>rw [IT] at cq;cases cq
    |some as'=>
     rw [IT] at cq
     simp only [Option.map_some,Option.some.injEq,Prod.mk.injEq] at cq
     obtain ⟨rfl,rfl⟩:=cq
     obtain ⟨qG,e1,e2,e3⟩:=Sm s.Ef l vs as' (by omega) v4 IT
     have hv: ∃v,(results fn a'.tmps).run P w'= .ok v w'/\MS s.Dh s.Ef qG v:=by
      unfold MS
      rw [<-e1,hmul]
      rcases Nat.lt_or_ge 1 l.length with h1|h1
      ·have JV:Nat.blt 1 l.length=true:=by simpa using h1
       simp only [JV,if_true]
       refine ⟨.tuple vs.toArray,Ok _ ?_,rfl⟩
       rw [dif_neg (by simp;omega)]
      ·have JV:Nat.blt 1 l.length=false:=by rw [<-Bool.not_eq_true];simpa using h1
       simp only [JV,Bool.false_eq_true,if_false]
       rcases vs with _|⟨v,_|⟨v',vs⟩⟩
       ·exact ⟨_,Ok _ (by simp;rfl), .inr rfl⟩
       ·exact ⟨v,Ok _ (by simp), .inl rfl⟩
       ·exfalso;simp only [List.length_cons] at v1;omega
     obtain ⟨v,hv1,hv2⟩:=hv
     exact ⟨qG,v,none,e3,hv1, .inl ⟨yK,rfl,rfl,hv2,e2⟩⟩
   ·rename_i tid yK
    split at cq
    rotate_left
    ·cases cq
    rename_i m i
    split at cq
    rotate_left
    ·cases cq
    rename_i Nt vs' hm
    split at cq
    rotate_left
    ·cases cq
    rename_i hc
    obtain ⟨rfl,rfl,OW⟩:=hc
    simp only [Option.some.injEq,Prod.mk.injEq] at cq
    obtain ⟨rfl,rfl⟩:=cq
    unfold St.at at hm
    rcases vs with _|⟨v,_|⟨v',vs⟩⟩
    ·exfalso;simp only [List.length_cons,List.length_nil] at v1 v2;omega
    ·obtain ⟨q,Am9,vs2,q1,q2,q3⟩:=v4 0 _ v rfl rfl
     rw [hm] at q1;cases q1
     obtain ⟨q',k1,k2,cur,k3,k4⟩:=(h'.1.heap m).Lc hm
     rw [q2] at k1;cases k1
     refine ⟨cur.toList,v,some q,Hy.of k4,Ok _ (by simp), .inr ⟨_,m,q,yK,rfl,by simpa using OW,rfl,q2,k2,by simpa using k3,λu hu=>?_,q3⟩⟩
     obtain ⟨i,hi,rfl⟩:=List.mem_iff_getElem.1 hu
     have hl:=k4.1
     obtain ⟨u',h6,h7,_⟩:=k4.2 i (vs'[i]'(by omega)) (List.getElem?_eq_getElem _)
     rw [List.getElem?_eq_getElem hi] at h6
     rw [Option.some.inj h6];exact h7
    ·exfalso;simp only [List.length_cons,List.length_nil] at v1 v2;omega
  obtain ⟨vA,p1,p2,p3,p4,p5⟩:=rX h'.1 s.outs 0 (bc++as) (bv++qG) r' ls (hbv.append Agv) zq m2
  obtain ⟨io1,io2⟩:=Nk (π0:=lv) h'.1 (λ_=>rfl) s.ins 0 x us o' VN rn
  have Aaf:(bv++qG).drop s.Tg=qG:=by rw [<-Afd];simp
  let ρ:Pi:= λl0=>if l0=Fp s.outs.length then qm else vA l0
  have WW:ρ (Fp s.outs.length)=qm:=if_pos rfl
  have Abq: ∀l0,l0≠Fp s.outs.length->ρ l0=vA l0:= λl0 h=>if_neg h
  have Abp: ∀j,j<s.outs.length->ρ (Fp j)=vA (Fp j):= λj hj=>Abq _ (by unfold Fp;omega)
  have pq: ∀l0 q,ρ l0=some q->(l0=Fp s.outs.length/\qm=some q)\/(l0≠Fp s.outs.length/\vA l0=some q):= λl0 q h=>by
   by_cases e:l0=Fp s.outs.length
   ·subst e;rw [WW] at h;exact .inl ⟨rfl,h⟩
   ·rw [Abq l0 e] at h;exact .inr ⟨e,h⟩
  have Ab5: ∀q,qm=some q-> ∃m,ml= [m]/\m<Ak/\Vy m=some q:= λq hq=>by
   rcases TK with ⟨_,_,h1,_⟩|⟨_,m,q',_,h1,h2,h3,h4,_⟩
   ·rw [h1] at hq;cases hq
   ·rw [h3] at hq;cases hq;exact ⟨m,h1,h2,h4⟩
  have p3': ∀l0 q b,ρ l0=some q->q.Ba b-> ∃l1∈ml++ls,∃p,Vy l1=some p/\p.cl b/\((s.outs.all λc=>!c.TU)=true->p.Ba b)/\((l1∈ls)\/l1<Ak):= λl0 q b h1 h2=>by
   rcases pq l0 q h1 with ⟨_,h3⟩|⟨_,h3⟩
   ·obtain ⟨m,e1,e2,e3⟩:=Ab5 q h3
    exact ⟨m,by rw [e1];simp,q,e3,h'.1.sub m q b e3 h2,λ_=>h2, .inr e2⟩
   ·obtain ⟨l1,g1,p,g2,g3,g4⟩:=p3 l0 q b h3 h2
    exact ⟨l1,List.mem_append_right _ g1,p,g2,g3,g4, .inl g1⟩
  have p4': ∀l0 l1 q q' b,ρ l0=some q->ρ l1=some q'->q.Ba b->q'.Ba b->l0=l1:= λl0 l1 q q' b h1 h2 h3 h4=>by
   have w6: ∀l0 q q' b,vA l0=some q->qm=some q'->q.Ba b->q'.Ba b->False:= λl0 q q' b h1 h2 h3 h4=>by
    obtain ⟨m,e1,e2,e3⟩:=Ab5 q' h2
    obtain ⟨l1,g1,p,g2,g3,_⟩:=p3 l0 q b h1 h3
    have:=h'.1.inj m l1 q' p b e3 g2 (h'.1.sub m q' b e3 h4) g3
    exact m3 m (by rw [e1];simp) l1 g1 this
   rcases pq l0 q h1 with ⟨e1,h5⟩|⟨e1,h5⟩<;>rcases pq l1 q' h2 with ⟨e2,h6⟩|⟨e2,h6⟩
   ·rw [e1,e2]
   ·exact (w6 l1 q' q b h6 h5 h4 h3).elim
   ·exact (w6 l0 q q' b h5 h6 h3 h4).elim
   ·exact p4 l0 l1 q q' b h5 h6 h3 h4
  have DR: ∀l0 q,Ak<=l0->lv l0=some q->Ad st.heap l0≠none/\(l0∈Jz 0 s.ins\/ ∃b,Ad st.heap l0=some b/\b.row=none):= λl0 q h1 h2=>by
   rcases HW l0 q h2 with ⟨h3,_⟩|⟨h3,rfl,_⟩
   ·have tf:=rJ s.ins 0 x l0 Aav (by omega) (λhnn=>by rw [JY l0 hnn] at h3;cases h3) (by omega)
    exact ⟨io2 l0 tf, .inl tf⟩
   ·obtain ⟨b,h4,h5⟩:=Agw h3
    exact ⟨by rw [h4];simp, .inr ⟨b,h4,h5⟩⟩
  have hDO:(s.outs.all λc=>!c.TU)=true-> ∀b,eg Sg lv ρ b->Om Vy b\/Sg b:=by
   intro hx b hb
   rcases hb with hb|⟨l0,q,h1,h2,h3⟩|⟨l0,q,h1,h2⟩
   ·exact .inr hb
   ·have hs:=h'.1.bI l0 h1 (DR l0 q h1 h2).1
    have hs:Uq ((lv l0).map full) (Vy l0):=hs
    rw [h2] at hs
    cases vr:Vy l0 with
    |none=>rw [vr] at hs;exact hs.elim
    |some q1=>rw [vr] at hs;exact .inl ⟨l0,q1,vr,(hs.2.2.2 b).1 h3⟩
   ·obtain ⟨m,_,p,hm2,_,VX,_⟩:=p3' l0 q b h1 h2
    exact .inl ⟨m,p,hm2,VX hx⟩
  have hDD: ∀b,eg S π ρ b->eg Sg lv ρ b:= λb hb=>by
   rcases hb with hb|⟨l0,q,h1,h2,h3⟩|hb
   ·by_cases rz:s.gv g b
    ·obtain ⟨ZP,rfl⟩:=rz
     exact .inr (.inl ⟨Jk,_,TJ,if_pos ⟨ZP,rfl⟩,rfl⟩)
    ·exact .inl ⟨hb,rz⟩
   ·refine .inr (.inl ⟨l0,q,h1,?_,h3⟩)
    show (if s.ptr.isSome=true/\l0=Jk then _ else π l0)=some q
    rw [if_neg]
    ·exact h2
    ·rintro ⟨_,rfl⟩
     rw [JY Jk WQ] at h2;cases h2
   ·exact .inr (.inr hb)
  have OQ:s.flat=true\/(s.outs.all λc=>!c.TU)=true:=by unfold MSpec.LU at Aar;simpa only [Bool.or_eq_true] using Aar
  have io1:Hb w' (eg S π ρ) π 0 s.ins o':=by
   refine Hb.congr s.ins 0 o' TD ?_
   rcases OQ with hf|hf
   ·unfold MSpec.flat at hf
    simp only [Bool.and_eq_true] at hf
    exact Hb.any s.ins 0 o' hf.2 io1
   ·exact Hb.Ek (λb hb=>hDO hf b (hDD b hb)) s.ins 0 o' io1
  have p1:Eo w' (eg S π ρ) ρ 0 s.outs r' (bv++qG):=by
   have p1:Eo w' (λb=>Om Vy b\/Sg b) ρ 0 s.outs r' (bv++qG):=Eo.JQ s.outs 0 r' _ (λj _ hj=>Abp j (by omega)) p1
   rcases OQ with hf|hf
   ·unfold MSpec.flat at hf
    simp only [Bool.and_eq_true] at hf
    exact Eo.any s.outs 0 r' (bv++qG) hf.1 p1
   ·exact Eo.Ek (λb hb=>hDO hf b (hDD b hb)) s.outs 0 r' (bv++qG) p1
  refine ⟨v,bv++qG,ρ,h'.2.defers,hv,?_,Afb qG,⟨h'.1.below.os,h'.1.below.tape,h'.1.below.output,h'.1.below.size,λk hk hn=>h'.1.below.block k hk λho=>hn ((Yr k).1 ho)⟩,io1,p1,⟨λl0 q b h1 h2=>?_,p4'⟩,λl0 VV=>?_,λkj IS=>?_⟩
  ·rw [Aaf]
   unfold mC
   rcases TK with ⟨h1,_,_,h2⟩|⟨tid,m,q,h1,_,_,h3,_,h4,h5,h6,h7⟩
   ·rw [h1];exact h2
   ·rw [h1];exact ⟨q,by rw [WW,h3],h4,h5,h6,h7⟩
  ·obtain ⟨m,ZL,p,hm2,hm3,_,VX⟩:=p3' l0 q b h1 h2
   obtain ⟨k1,k2⟩:=h'.1.place m p b hm2 hm3
   refine ⟨k2,k1.imp id λ⟨c0,q0,h5,h6⟩=>?_⟩
   have Fg:c0<Ak:=Classical.byContradiction λhn=>by
    obtain ⟨Ex,tf⟩:=DR c0 q0 (by omega) h5
    have hs:=h'.1.bI c0 (by omega) Ex
    have hs:Uq ((lv c0).map full) (Vy c0):=hs
    rw [h5] at hs
    cases vr:Vy c0 with
    |none=>rw [vr] at hs;exact hs.elim
    |some q1=>
     rw [vr] at hs
     have hf1:q1.Ba b:=(hs.2.2.2 b).1 h6
     have:=h'.1.inj c0 m q1 p b vr hm2 (h'.1.sub c0 q1 b vr hf1) hm3
     subst this
     rcases VX with VX|VX
     ·rcases tf with tf|⟨b1,JV,hb2⟩
      ·exact n3 c0 ZL c0 tf rfl
      ·obtain ⟨b2,hb3,hb4⟩:=nY s.outs _ _ _ zq c0 VX
       rw [JV] at hb3;cases hb3
       exact hb4 hb2
     ·exact hn VX
   refine ⟨c0,q0,Fg,?_,h6⟩
   rcases HW c0 q0 h5 with ⟨h7,_⟩|⟨_,h7,_⟩
   ·exact h7
   ·omega
  ·cases hp:ρ l0 with
   |none=>rfl
   |some q=>
    rcases pq l0 q hp with ⟨e,h3⟩|⟨_,h3⟩
    ·refine absurd e (VV _ ?_)
     rcases TK with ⟨_,_,h4,_⟩|⟨tid,m,q',h4,_⟩
     ·rw [h4] at h3;cases h3
     ·unfold MSpec.Nn;rw [h4];simp
    ·obtain ⟨j,_,j2,j3⟩:=p2 l0 q h3
     exact absurd j3 (VV j (by unfold MSpec.Nn;omega))
  ·obtain ⟨l0,off,len,e,te,rows,out,p,q1,q2,q3,q4,q5⟩:=rO rD kj IS
   have hj:kj.2<s.outs.length:=by
    rw [<-rW s.outs _ _ _ zq]
    exact (List.getElem?_eq_some_iff.1 q1).1
   have e1:=p5 kj.2 l0 off len e te rows out (some p) q1 q2
   rw [Nat.zero_add] at e1
   rw [Abp _ hj,e1]
   have hk:=((h'.1.heap l0).Lc q2).2
   obtain ⟨l1,n1⟩:=p
   simp only [KeptAt] at hk
   dsimp only at q3 q4
   subst q3
   have FK:π0 (Bq false kj.1)=(π (Bq false kj.1)).map full:=by
    show (if s.ptr.isSome=true/\Bq false kj.1=Jk then _ else π (Bq false kj.1)).map full=_
    rw [if_neg λh=>hvl false kj.1 q5 h.2]
   rw [FK] at hk
   unfold vC
   cases hp:π (Bq false kj.1) with
   |none=>
    rw [hp] at hk
    cases vr:Vy l0 with
    |none=>trivial
    |some q=>rw [vr] at hk;exact hk.elim
   |some q0=>
    rw [hp] at hk
    cases vr:Vy l0 with
    |none=>rw [vr] at hk;exact hk.elim
    |some q=>
     rw [vr] at hk
     obtain ⟨k1,k2,k3,k4⟩:=hk
     exact ⟨k1,k2,k3,λj hj hc=>k4 j (by omega) hc⟩
 refine calls_of_wp hf hb ?_
 refine (oo hT Mg hm he _ w _ h0 λe st a' w' ⟨Ex,lG⟩ h'=>?_).1
 obtain ⟨v,Pp,ρ,p1,p2,p3⟩:=fin st a' w' lG h'
 cases e with
 |normal=>exact ⟨p1,v,p2,v,Pp,ρ,rfl,p3⟩
 |ret=>exact ⟨p1,v,p2,v,Pp,ρ,rfl,p3⟩
 |exit id=>exact absurd rfl (Ex id)
end
end Go.Proofs.YtfolipnappekaaaGreat
