/-
  Part 27 of the proof that the statement FnExactExactStateCount holds.
-/
import Derived.Test.YtjbdmibbbpdnnaaCExactStateCount25
namespace Go.Proofs.Ytjbdmibbbpdnnaa
open Go.RowKit
section
variable {P:Program} {T:Tab} {Γ:Env} {X:Ctx} {w w':World} {π:Pi} {H:List (Nat×OB)}
theorem mw: ∀(cs:List (Bool×CK)) (k:Nat) (x:Ins.den cs) (l:Nat),Ad (Rt k cs x) l≠none-> ∃b j,k<=j/\j<k+cs.length/\l=Bu b j
 | [],_,_,_,h=>absurd rfl h
 |p::r,k,x,l,h=>by
  simp only [Rt] at h
  by_cases e:l=Bu p.1 k
  ·exact ⟨p.1,k,Nat.le_refl _,by simp,e⟩
  ·have:Ad (Rt (k+1) r x.2) l≠none:=by
    cases hc:dw (Bu p.1 k) p.2 x.1 with
    |none=>rw [hc] at h;exact h
    |some b=>rw [hc] at h;simpa only [bx,Ad,if_neg (Ne.symm e)] using h
   obtain ⟨b,j,h1,h2,h3⟩:=mw r (k+1) x.2 l this
   exact ⟨b,j,by omega,by simp;omega,h3⟩
theorem CH {p:Bool×CK} {r:List (Bool×CK)} {k:Nat} {x:Ins.den (p::r)} (hk:k+(r.length+1)<100000) {l:Nat} {b:OB} (h:Ad (Rt (k+1) r x.2) l=some b):Ad (Rt k (p::r) x) l=some b:=by
 obtain ⟨b',j,h1,h2,rfl⟩:=mw r (k+1) x.2 l (by rw [h];simp)
 simp only [Rt]
 cases dw (Bu p.1 k) p.2 x.1 with
 |none=>exact h
 |some c=>simp only [bx,Ad];rw [if_neg (AU (by omega) (by omega) (by omega))];exact h
theorem GI {D:Nat->Prop} (hD: ∀b,Be X.w0.heap.size X.Sc π false b->D b) (SG:X.w0=w) {l:Nat} {r:Option Real} (Xx:X.ca l=r.map full) {u:Value} {c:CK} {x:c.den} (h:Yr w D r u c x) {b:OB} (hb:dw l c x=some b):At X w π H (r.map full) b:=by
 have Rp: ∀ {e:Ty} {es:List Value} {y:e.den},Cells w D e es y->Cells w (Be X.w0.heap.size X.Sc π false) e es y:= λ {e es y} h=>Cells.Cs (Nat.le_refl _) (λ_ _ _=>rfl) (λb _ hb=>hD b hb) e es y h
 cases c with
 |Fm τ=>cases hb
 |row e te=>
  simp only [dw,Option.some.injEq] at hb;subst hb
  obtain ⟨_,h⟩:=h
  simp only [ar] at h
  simp only [At,Fo]
  cases r with
  |none=>exact h
  |some q=>
   obtain ⟨k1,cu,ti,k2,k3,k4,k5,k6⟩:=h
   exact ⟨⟨k1.1,k1.2,λh=>by cases h⟩,cu,ti,k2,k3,k4,k5,λi y hy=>by
    obtain ⟨es,g1,g2,g3⟩:=k6 i y hy
    exact ⟨es,g1,g2,Rp g3⟩,λh=>by cases h⟩
 |Ds e te=>
  simp only [dw,Option.some.injEq] at hb;subst hb
  cases r<;>exact h.2
 |part e te=>
  simp only [dw,Option.some.injEq] at hb;subst hb
  obtain ⟨_,hf,h⟩:=h
  simp only [At,Fo]
  cases r with
  |none=>exact h
  |some q=>
   obtain ⟨k1,cu,ti,k2,k3,k4,k5,k6⟩:=h
   exact ⟨⟨k1.1,k1.2,λh=>by cases h⟩,cu,ti,k2,k3,k4,k5,λi y hy=>by
    obtain ⟨es,g1,g2,g3⟩:=k6 i y hy
    exact ⟨es,g1,g2,Rp g3⟩,λh=>by cases h⟩
 |Ak e te kp=>
  simp only [dw,Option.some.injEq] at hb;subst hb
  have h2:Sq w D r e x none:=h.2
  have h3:=Sq.Eu h2 hD
  refine ⟨by cases r<;>exact h3,?_⟩
  cases kp with
  |false=>trivial
  |true=>
   simp only [if_true,KeptAt]
   rw [Xx]
   cases r with
   |none=>trivial
   |some q=>exact ⟨rfl,rfl,rfl,λj _ _=>by rw [SG]⟩
theorem eY {D:Nat->Prop} (hD: ∀b,Be X.w0.heap.size X.Sc π false b->D b) (SG:X.w0=w) {π0:Pi} (Xx: ∀l,X.ca l=(π0 l).map full): ∀(cs:List (Bool×CK)) (k:Nat) (x:Ins.den cs) (us:List Value),Ys w D π0 k cs x us-> ∀l b,Ad (Rt k cs x) l=some b->At X w π H ((π0 l).map full) b
 | [],_,_,_,_,_,_,h=>by cases h
 |_::_,_,_,[],h,_,_,_=>h.elim
 |p::r,k,x,u::us,h,l,b,hb=>by
  simp only [Rt] at hb
  cases hc:dw (Bu p.1 k) p.2 x.1 with
  |none=>rw [hc] at hb;exact eY hD SG Xx r (k+1) x.2 us h.2 l b hb
  |some c=>
   rw [hc] at hb
   simp only [bx,Ad] at hb
   split at hb
   ·rename_i e;subst e
    simp only [Option.some.injEq] at hb;subst hb
    exact GI hD SG (Xx _) h.1 hc
   ·exact eY hD SG Xx r (k+1) x.2 us h.2 l b hb
theorem vd {S:Nat->Prop} {π0:Pi} {gv:Nat->Prop} {ca:Pi} (Xw: ∀l,π l=(π0 l).map full): ∀(cs:List (Bool×CK)) (k:Nat) (x:Ins.den cs) (us:List Value),k+cs.length<100000->Ys w (λb=>Oi π0 b\/S b) π0 k cs x us->(∀l b,Ad (Rt k cs x) l=some b->Ad H l=some b)->
  Hu ⟨w,S,gv,ca⟩ w π H (Us k cs x) us
 | [],_,_,[],_,_,_=>trivial
 | [],_,_,_::_,_,h,_=>h.elim
 |_::_,_,_,[],_,h,_=>h.elim
 |p::r,k,x,u::us,hk,h,hH=>by
  simp only [List.length_cons] at hk
  refine ⟨?_,vd Xw r (k+1) x.2 us (by omega) h.2 λl b hb=>hH l b (CH hk hb)⟩
  have h1:=h.1
  have hh: ∀b,dw (Bu p.1 k) p.2 x.1=some b->Ad H (Bu p.1 k)=some b:= λb hb=>hH _ b (by simp only [Rt];rw [hb];simp [bx,Ad])
  have da:=Xw (Bu p.1 k)
  obtain ⟨io,c⟩:=p
  dsimp only at h1 hh da⊢
  generalize x.1=y at*
  cases c with
  |Fm τ=>
   show Bd w _ τ u y
   cases hf:τ.flat with
   |true=>exact Bd.flat hf h1.2
   |false=>
    refine h1.2.Eu λb _ hb=>?_
    rcases hb with ⟨l,q,h3,h4⟩|hb|⟨hb,_⟩
    ·rw [Xw l] at h3
     cases hp:π0 l with
     |none=>rw [hp] at h3;cases h3
     |some q0=>rw [hp] at h3;simp only [Option.map_some,Option.some.injEq] at h3;subst h3;exact .inl ⟨l,q0,hp,h4⟩
    ·exact .inr hb
    ·cases hb
  |row e te=>exact ⟨_,e.size,List.length y,hh _ rfl,rfl,by simp,by rw [da];exact Ry h1.1⟩
  |Ds e te=>exact ⟨_,e.size,List.length y,hh _ rfl,rfl,by simp,by rw [da];exact Ry h1.1⟩
  |part e te=>exact ⟨_,e.size,List.length y.1,hh _ rfl,rfl,h1.1.2,by rw [da];exact Ry h1.1.1⟩
  |Ak e te kp=>exact ⟨_,1,List.length y,hh _ rfl,rfl,by simp,by rw [da];exact Ry h1.1⟩
theorem j0 {p:Real} {s off len:Nat} {u:Value} {f:Nat->Prop} (h:Dw (some p) s off len u):Dw (some ⟨p.g,p.o+off,p.cap-off,f,f⟩) s 0 len u:=by
 obtain ⟨ad,h1,h2,h3⟩:=h
 exact ⟨ad,h1,by dsimp only;omega,λh0=>by dsimp only at h0;simpa using h3 (by omega)⟩
theorem mY {α:Type} {xs:List α} {off len i:Nat} {x:α} (h:((xs.drop off).take len)[i]?=some x):xs[off+i]?=some x:=by
 rw [List.getElem?_take] at h
 split at h
 ·rw [List.getElem?_drop] at h;exact h
 ·cases h
theorem Pv.part {P:Nat->Prop} {g o:Nat} {cur:Array Value} {e:Ty} {xs:List e.den} (off len:Nat) (h:Pv w P g o cur e xs):Pv w P g (o+off) cur e ((xs.drop off).take len):=by
 obtain ⟨Fs,t1,t2,t3,t4⟩:=h
 refine ⟨(Fs.drop off).take len,by simp [t1],List.nodup_cons.2 ⟨λhm=>(List.nodup_cons.1 t2).1 (Ls off len _ hm),fg off len (List.nodup_cons.1 t2).2⟩,λb hb=>t3 b (Ls off len b hb),λi x F hx hF=>?_⟩
 obtain ⟨es,k1,k2,k3⟩:=t4 (off+i) x F (mY hx) (mY hF)
 exact ⟨es,k1,λj u hu=>by rw [Nat.add_assoc o off i];exact k2 j u hu,k3⟩
theorem CW {st:St} (h:Hr X w π st.heap) {c:CK} (hg: ∀e te kp,c≠ .Ak e te kp) {a:AC} {u:Value} (hu:Dy X w π st.heap a u) {x:c.den} {ls:List Nat} (he:dz st c a=some (x,ls)):
  ∃r,Yr w (λb=>Oi π b\/X.Sc b) r u c x/\ ∀q,r=some q-> ∃l p,ls= [l]/\π l=some p/\(∀b,q.Ay b->p.cl b)/\(c.PY=false-> ∀b,q.Ay b->p.Ay b):=by
 have GP: ∀ {f:Bool} (b:Nat),(Oi π b\/X.Sc b)->Be X.w0.heap.size X.Sc π f b:= λb h=>h.imp id .inl
 cases c with
 |Fm τ=>
  simp only [dz] at he
  split at he
  ·rename_i hf
   cases hv:Bk st τ a with
   |none=>rw [hv] at he;cases he
   |some p=>
    obtain ⟨fr,y⟩:=p
    rw [hv] at he
    simp only [Option.map_some,Option.some.injEq,Prod.mk.injEq] at he
    obtain ⟨rfl,rfl⟩:=he
    refine ⟨none,⟨rfl,?_⟩,λq hq=>by cases hq⟩
    have Eu: ∀f,Bd w (Be X.w0.heap.size X.Sc π f) τ u y->Bd w (λb=>Oi π b\/X.Sc b) τ u y:= λf hr=>hr.Eu λk _ hk=>GP k hk
    cases a with
    |data f Iv z=>
     rw [Ii] at hv
     split at hv
     ·rename_i ht;subst ht
      simp only [Option.some.injEq,Prod.mk.injEq] at hv
      obtain ⟨_,rfl⟩:=hv
      exact Eu f hu
     ·have Sf:τ.Ac=false:=by unfold bA at hv;split at hv<;>first|rfl|cases hv
      exact Eu _ ⟨[u],Wp hv hu,by simp [Ar,Sf]⟩
    |Hj=>
     have hu:u= .slice none 0 0:=hu
     subst hu
     cases τ<;>simp only [Bk,Option.some.injEq,Prod.mk.injEq,reduceCtorEq] at hv
     ·obtain ⟨_,rfl⟩:=hv;exact ⟨[_],⟨none,0,0,rfl,rfl,Nat.le_refl _, .inl rfl⟩,rfl⟩
     ·obtain ⟨_,rfl⟩:=hv;exact ⟨[_], .inl ⟨rfl,0,rfl⟩,rfl⟩
    |Ql=>
     have hu:u= .pointer none:=hu
     subst hu
     cases τ<;>simp only [Bk,Option.some.injEq,Prod.mk.injEq,reduceCtorEq] at hv
     obtain ⟨_,rfl⟩:=hv;exact ⟨[_], .inl ⟨rfl,rfl⟩,rfl⟩
    |_=>cases τ<;>simp [AC.settled,Ty.flat,Bk] at hf hv
  ·cases he
 |row e te=>
  cases a<;>simp only [dz] at he<;>try (cases he;done)
  ·simp only [Option.some.injEq,Prod.mk.injEq] at he
   obtain ⟨rfl,rfl⟩:=he
   have hu:u= .slice none 0 0:=hu
   exact ⟨none,⟨⟨hu,rfl,rfl⟩,rfl⟩,λq hq=>by cases hq⟩
  ·rename_i l off len
   split at he
   ·rename_i fr tr e' Ky xs hl
    split at he
    ·rename_i hc
     obtain ⟨rfl,rfl⟩:=hc
     simp only [Option.some.injEq,Prod.mk.injEq] at he
     obtain ⟨rfl,rfl⟩:=he
     unfold St.at at hl
     obtain ⟨h1,h2⟩:=Iz hu hl
     have hb:=(h.heap l).Ma hl
     simp only [At,Fo] at hb
     have hlen:((xs.drop off).take len).length=len:=by simp;omega
     cases hp:π l with
     |none=>
      rw [hp] at h2 hb
      obtain ⟨rfl,rfl,rfl⟩:=h2
      exact ⟨none,⟨⟨rfl,rfl,by simp⟩,by show (xs.drop 0).take 0= [];simp⟩,λq hq=>by cases hq⟩
     |some p=>
      rw [hp] at h2 hb
      obtain ⟨k1,cur,ti,k2,k3,k4,k5,k6,_⟩:=hb
      have ho:=h2
      obtain ⟨ad,_,mh,_⟩:=h2
      refine ⟨some ⟨p.g,p.o+off,p.cap-off,p.Ay,p.Ay⟩,⟨by rw [hlen];exact j0 ho,⟨k1.1,k1.2.1⟩,cur,ti,k2,by rw [k3];congr 1;dsimp only;omega,by dsimp only;omega,by rw [hlen];dsimp only;omega,λi y hy=>?_⟩,
       fun q hq=>by cases hq;exact ⟨l,p,rfl,hp,λb hb=>h.sub l p b hp hb,λ_ b hb=>hb⟩⟩
      obtain ⟨es,g1,g2,g3⟩:=k6 (off+i) y (mY hy)
      exact ⟨es,g1,λj u hu=>by dsimp only;rw [Nat.add_assoc p.o off i];exact g2 j u hu,Cells.Cs (Nat.le_refl _) (λ_ _ _=>rfl) (λb _ hb=>GP b hb) e' es y g3⟩
    ·cases he
   ·cases he
 |Ds e te=>
  cases a<;>simp only [dz] at he<;>try (cases he;done)
  ·simp only [Option.some.injEq,Prod.mk.injEq] at he
   obtain ⟨rfl,rfl⟩:=he
   have hu:u= .slice none 0 0:=hu
   exact ⟨none,⟨⟨hu,rfl,rfl⟩,rfl⟩,λq hq=>by cases hq⟩
  ·rename_i l off len
   split at he
   ·rename_i fr tr e' Ky xs hl
    split at he
    ·rename_i hc
     obtain ⟨rfl,rfl,hf⟩:=hc
     simp only [Option.some.injEq,Prod.mk.injEq] at he
     obtain ⟨rfl,rfl⟩:=he
     unfold St.at at hl
     obtain ⟨h1,h2⟩:=Iz hu hl
     have hb:=(h.heap l).Ma hl
     simp only [At,Fo] at hb
     have hlen:((xs.drop off).take len).length=len:=by simp;omega
     cases hp:π l with
     |none=>
      rw [hp] at h2 hb
      obtain ⟨rfl,rfl,rfl⟩:=h2
      exact ⟨none,⟨⟨rfl,rfl,by simp⟩,by show (xs.drop 0).take 0= [];simp⟩,λq hq=>by cases hq⟩
     |some p=>
      rw [hp] at h2 hb
      obtain ⟨k1,cur,ti,k2,k3,k4,k5,k6,k7⟩:=hb
      have ho:=h2
      obtain ⟨ad,_,mh,_⟩:=h2
      have ht:Pv w p.cl p.g p.o cur e' xs:=by
       simp only [Bool.or_eq_true] at hf
       rcases hf with hf|hf
       ·exact k7 hf
       ·exact ga hf k6
      exact ⟨some ⟨p.g,p.o+off,p.cap-off,p.cl,p.cl⟩,⟨by rw [hlen];exact j0 ho,h.sub l p _ hp k1.1,cur,ti,k2,by rw [k3];congr 1;dsimp only;omega,by dsimp only;omega,by rw [hlen];dsimp only;omega,ht.part off len⟩,
       fun q hq=>by cases hq;exact ⟨l,p,rfl,hp,λb hb=>hb,λhx=>by cases hx⟩⟩
    ·cases he
   ·rename_i e' Ky xs hl
    split at he
    ·rename_i hc
     obtain ⟨rfl,rfl⟩:=hc
     simp only [Option.some.injEq,Prod.mk.injEq] at he
     obtain ⟨rfl,rfl⟩:=he
     unfold St.at at hl
     obtain ⟨h1,h2⟩:=Vd hu hl
     have hb:=(h.heap l).Ma hl
     simp only [At,Ij] at hb
     have hlen:((xs.drop off).take len).length=len:=by simp;omega
     cases hp:π l with
     |none=>
      rw [hp] at h2 hb
      obtain ⟨rfl,rfl,rfl⟩:=h2
      exact ⟨none,⟨⟨rfl,rfl,by simp⟩,by show (xs.drop 0).take 0= [];simp⟩,λq hq=>by cases hq⟩
     |some p=>
      rw [hp] at h2 hb
      obtain ⟨k1,cur,ti,k2,k3,k4,k5,ht⟩:=hb
      have ho:=h2
      obtain ⟨ad,_,mh,_⟩:=h2
      exact ⟨some ⟨p.g,p.o+off,p.cap-off,p.Ay,p.Ay⟩,⟨by rw [hlen];exact j0 ho,k1,cur,ti,k2,by rw [k3];congr 1;dsimp only;omega,by dsimp only;omega,by rw [hlen];dsimp only;omega,ht.part off len⟩,
       fun q hq=>by cases hq;exact ⟨l,p,rfl,hp,λb hb=>h.sub l p b hp hb,λ_ b hb=>hb⟩⟩
    ·cases he
   ·cases he
 |part e te=>cases a<;>simp [dz] at he
 |Ak e te kp=>exact absurd rfl (hg e te kp)
theorem IW {st:St} (h:Hr X w π st.heap) {c:CK} {a:AC} {u:Value} (hu:Dy X w π st.heap a u) {x:c.den} {ls:List Nat} (he:dz st c a=some (x,ls)):
  ∃r,Yr w (λb=>Oi π b\/X.Sc b) r u c x/\(∀q,r=some q-> ∃l p,ls= [l]/\π l=some p/\(∀b,q.Ay b->p.cl b)/\(c.PY=false-> ∀b,q.Ay b->p.Ay b))/\
   (∀l off len e te rows out kp,a= .own l off len->Ad st.heap l=some (.Ak e te rows out kp)->r=π l):=by
 have ou:(∀e te kp,c≠ .Ak e te kp)->(∀l off len e te rows out kp,a=AC.own l off len->Ad st.heap l=some (OB.Ak e te rows out kp)->False)->
   ∃r,Yr w (λb=>Oi π b\/X.Sc b) r u c x/\(∀q,r=some q-> ∃l p,ls= [l]/\π l=some p/\(∀b,q.Ay b->p.cl b)/\(c.PY=false-> ∀b,q.Ay b->p.Ay b))/\
   (∀l off len e te rows out kp,a= .own l off len->Ad st.heap l=some (.Ak e te rows out kp)->r=π l):= λh1 h2=>by
  obtain ⟨r,g1,g2⟩:=CW h h1 hu he
  exact ⟨r,g1,g2,λl off len e te rows out kp h3 h4=>(h2 l off len e te rows out kp h3 h4).elim⟩
 cases c with
 |Fm τ=>
  refine ou (λ_ _ _ h=>by cases h) λl off len e te rows out kp h3 h4=>?_
  subst h3
  simp only [dz] at he
  split at he
  ·rename_i hf
   cases τ<;>simp [AC.settled,Ty.flat,Bk] at hf he
  ·cases he
 |row e te=>
  refine ou (λ_ _ _ h=>by cases h) λl off len e te rows out kp h3 h4=>?_
  subst h3
  simp only [dz,St.at,h4] at he
  cases he
 |Ds e te=>
  refine ou (λ_ _ _ h=>by cases h) λl off len e te rows out kp h3 h4=>?_
  subst h3
  simp only [dz,St.at,h4] at he
  cases he
 |part e te=>cases a<;>simp [dz] at he
 |Ak e te kp=>
  cases a<;>simp only [dz] at he<;>try (cases he;done)
  rename_i l off len
  split at he
  ·rename_i e' Ky rows kp' hl
   split at he
   ·rename_i hc
    obtain ⟨rfl,rfl,rfl,rfl⟩:=hc
    simp only [Option.some.injEq,Prod.mk.injEq] at he
    obtain ⟨rfl,rfl⟩:=he
    unfold St.at at hl
    obtain ⟨b,sz,n,h1,h2,_,h3⟩:=hu
    rw [hl] at h1;cases h1
    simp only [OB.row,Option.some.injEq,Prod.mk.injEq] at h2
    obtain ⟨rfl,rfl⟩:=h2
    have hb:=((h.heap l).Ma hl).1
    refine ⟨π l,⟨h3,Sq.Eu hb λb hb=>hb.imp id .inl⟩,λq hq=>⟨l,q,rfl,hq,λb hb=>h.sub l q b hq hb,λ_ b hb=>hb⟩,λl' Ais Aio _ _ _ _ _ he _=>?_⟩
    simp only [AC.own.injEq] at he
    rw [he.1]
   ·cases he
  ·cases he
theorem Ev.congr {D:Nat->Prop} {ρ ρ':Pi} : ∀(cs:List CK) (k:Nat) (x:CKs.den cs) (us:List Value),(∀j,k<=j->ρ' (Fq j)=ρ (Fq j))->Ev w D ρ k cs x us->Ev w D ρ' k cs x us
 | [],_,_,[],_,h=>h
 | [],_,_,_::_,_,h=>h.elim
 |_::_,_,_,[],_,h=>h.elim
 |c::r,k,x,u::us,he,h=>⟨by rw [he k (Nat.le_refl _)];exact h.1,Ev.congr r (k+1) x.2 us (λj hj=>he j (by omega)) h.2⟩
theorem qw {st:St} (h:Hr X w π st.heap): ∀(cs:List CK) (k:Nat) (as:List AC) (us:List Value) (x:CKs.den cs) (ls:List Nat),Hu X w π st.heap as us->Nv st cs as=some (x,ls)->ls.Nodup->
  ∃ρ:Pi,Ev w (λb=>Oi π b\/X.Sc b) ρ k cs x us/\(∀l q,ρ l=some q-> ∃j,k<=j/\j<k+cs.length/\l=Fq j)/\(∀l q b,ρ l=some q->q.Ay b-> ∃l0∈ls,∃p,π l0=some p/\p.cl b/\((cs.all λc=>!c.PY)=true->p.Ay b))/\
   (∀l l' q q' b,ρ l=some q->ρ l'=some q'->q.Ay b->q'.Ay b->l=l')/\
   (∀(j l off len:Nat) e te rows out kp,as[j]?=some (.own l off len)->Ad st.heap l=some (.Ak e te rows out kp)->ρ (Fq (k+j))=π l)
 | [],k,[],[],x,ls,_,he,_=>by
  simp only [Nv,Option.some.injEq,Prod.mk.injEq] at he
  exact ⟨λ_=>none,trivial,(λl q h=>by cases h),(λl q b h=>by cases h),(λl l' q q' b h=>by cases h),λj l off len e te rows out kp h=>by simp at h⟩
 | [],_,[],_::_,_,_,h,_,_=>h.elim
 | [],_,_::_,_,_,_,_,he,_=>by simp [Nv] at he
 |_::_,_,[],_,_,_,_,he,_=>by simp [Nv] at he
 |_::_,_,_::_,[],_,_,h,_,_=>h.elim
 |c::r,k,a::as,u::us,x,ls,hr,he,FO=>by
  simp only [Nv] at he
  split at he
  ·rename_i x1 t1 x2 t2 h1 h2
   simp only [Option.some.injEq,Prod.mk.injEq] at he
   obtain ⟨rfl,rfl⟩:=he
   obtain ⟨n1,n2,n3⟩:=List.nodup_append.1 FO
   obtain ⟨ρ,g1,g2,g3,g4,g5⟩:=qw h r (k+1) as us x2 t2 hr.2 h2 n2
   obtain ⟨rr,r1,r2,r3⟩:=IW h hr.1 h1
   have uy: ∀l q q0 b,ρ l=some q->rr=some q0->q.Ay b->q0.Ay b->False:= λl q q0 b h3 h4 h5 h6=>by
    obtain ⟨l0,m0,p,p1,p2,_⟩:=g3 l q b h3 h5
    obtain ⟨l1,p',e1,p1',p2',_⟩:=r2 q0 h4
    have:=h.inj l0 l1 p p' b p1 p1' p2 (p2' b h6)
    exact n3 l1 (by rw [e1];simp) l0 m0 this.symm
   refine ⟨λl=>if l=Fq k then rr else ρ l,⟨by simpa using r1,Ev.congr r (k+1) x2 us (λj hj=>if_neg (by unfold Fq;omega)) g1⟩,λl q hq=>?_,λl q b hq hb=>?_,λl l' q q' b h3 h4 h5 h6=>?_,λj l off len e te rows out kp hj hl=>?_⟩
   ·dsimp only at hq
    by_cases e:l=Fq k
    ·exact ⟨k,Nat.le_refl _,by simp,e⟩
    ·rw [if_neg e] at hq
     obtain ⟨j,j1,j2,j3⟩:=g2 l q hq
     exact ⟨j,by omega,by simp;omega,j3⟩
   ·dsimp only at hq
    by_cases e:l=Fq k
    ·rw [if_pos e] at hq
     obtain ⟨l1,p',e1,p1',p2',p3'⟩:=r2 q hq
     exact ⟨l1,by rw [e1];simp,p',p1',p2' b hb,λhx=>p3' (by simp only [List.all_cons,Bool.and_eq_true,Bool.not_eq_true'] at hx;exact hx.1) b hb⟩
    ·rw [if_neg e] at hq
     obtain ⟨l0,m0,p,p1,p2,p3⟩:=g3 l q b hq hb
     exact ⟨l0,List.mem_append_right _ m0,p,p1,p2,λhx=>p3 (by simp only [List.all_cons,Bool.and_eq_true] at hx;exact hx.2)⟩
   ·dsimp only at h3 h4
    by_cases e:l=Fq k<;>by_cases e':l'=Fq k
    ·rw [e,e']
    ·rw [if_pos e] at h3;rw [if_neg e'] at h4
     exact (uy l' q' q b h4 h3 h6 h5).elim
    ·rw [if_neg e] at h3;rw [if_pos e'] at h4
     exact (uy l q q' b h3 h4 h5 h6).elim
    ·rw [if_neg e] at h3;rw [if_neg e'] at h4
     exact g4 l l' q q' b h3 h4 h5 h6
   ·rcases j with _|j
    ·simp only [List.getElem?_cons_zero,Option.some.injEq] at hj
     show (if Fq k=Fq k then rr else ρ (Fq k))=π l
     rw [if_pos rfl]
     exact r3 l off len e te rows out kp hj hl
    ·have:=g5 j l off len e te rows out kp (by simpa using hj) hl
     show (if Fq (k+(j+1))=Fq k then rr else ρ (Fq (k+(j+1))))=π l
     rw [if_neg (by unfold Fq;omega),<-this,show k+(j+1)=k+1+j by omega]
  ·cases he
theorem wy {r r':Option Real} (h:Ug (r.map full) r') {e:Ty} {xs:List e.den} {te:TypeId} {fr tr:Bool} (ha:Fo X w π r' fr tr e te xs):Mc w (λb=>Oi π b\/X.Sc b) r e xs:=by
 cases r with
 |none=>cases r' with
  |none=>exact ha
  |some q=>exact h.elim
 |some p=>cases r' with
  |none=>exact h.elim
  |some q=>
   obtain ⟨e1,e2,e3,e4⟩:=h
   obtain ⟨k1,cur,ti,k2,k3,k4,k5,k6,_⟩:=ha
   have e1:p.g=q.g:=e1
   have e2:p.o=q.o:=e2
   have e3:p.cap=q.cap:=e3
   refine ⟨⟨by rw [e1];exact (e4 _).2 k1.1,λb hb=>by rw [e1];exact k1.2.1 b ((e4 b).1 hb)⟩,cur,ti,by rw [e1];exact k2,by rw [e2,e3];exact k3,by rw [e3];exact k4,by rw [e3];exact k5,λi y hy=>?_⟩
   obtain ⟨es,g1,g2,g3⟩:=k6 i y hy
   exact ⟨es,g1,by rw [e2];exact g2,Cells.Cs (Nat.le_refl _) (λ_ _ _=>rfl) (λb _ hb=>hb.imp id .inl) e es y g3⟩
theorem DV {r r':Option Real} (h:Ug (r.map full) r') {e:Ty} {xs:List e.den} {te:TypeId} (ha:Ij w r' e te xs):Ij w r e te xs:=by
 cases r with
 |none=>cases r' with
  |none=>exact ha
  |some q=>exact h.elim
 |some p=>cases r' with
  |none=>exact h.elim
  |some q=>
   obtain ⟨e1,e2,e3,e4⟩:=h
   obtain ⟨k1,cur,ti,k2,k3,k4,k5,Fs,t1,t2,t3,t4⟩:=ha
   have e1:p.g=q.g:=e1
   have e2:p.o=q.o:=e2
   have e3:p.cap=q.cap:=e3
   exact ⟨by rw [e1];exact (e4 _).2 k1,cur,ti,by rw [e1];exact k2,by rw [e2,e3];exact k3,by rw [e3];exact k4,by rw [e3];exact k5,Fs,t1,by rw [e1];exact t2,λb hb=>(e4 b).2 (t3 b hb),by rw [e2];exact t4⟩
theorem Nf {st:St} {π0:Pi} {D:Nat->Prop} {w0:World} (h:Hr X w π st.heap) (Xx: ∀l,X.ca l=(π0 l).map full): ∀(cs:List (Bool×CK)) (k:Nat) (x:Ins.den cs) (us:List Value) (o:IOs.den cs),Ys w0 D π0 k cs x us->Jb st k cs=some o->
  Ha w (λb=>Oi π b\/X.Sc b) π0 k cs o/\ ∀l∈Ju k cs,Ad st.heap l≠none
 | [],_,_,_,_,_,_=>⟨trivial,λl hl=>by cases hl⟩
 |_::_,_,_,[],_,h,_=>h.elim
 |(false,c)::r,k,x,u::us,o,hi,he=>Nf h Xx r (k+1) x.2 us o hi.2 (by simpa only [Jb] using he)
 |(true, .Fm τ)::r,k,x,u::us,o,hi,he=>Nf h Xx r (k+1) x.2 us o hi.2 (by simpa only [Jb] using he)
 |(true, .Ak e te kp)::r,k,x,u::us,o,hi,he=>Nf h Xx r (k+1) x.2 us o hi.2 (by simpa only [Jb] using he)
 |(true, .row e te)::r,k,x,u::us,o,hi,he=>by
  simp only [Jb] at he
  split at he
  ·rename_i x1 x2 h1 h2
   simp only [Option.some.injEq] at he;subst he
   obtain ⟨g1,g2⟩:=Nf h Xx r (k+1) x.2 us x2 hi.2 h2
   have h0:=hi.1
   simp only [jw] at h1
   split at h1
   ·rename_i fr tr e' Ky xs hl
    split at h1
    ·rename_i hc
     obtain ⟨rfl,rfl⟩:=hc
     simp only [Option.some.injEq] at h1;subst h1
     unfold St.at at hl
     have hs:=h.ca (Bu true k) (by have:=Tt k;omega) (by rw [hl];simp)
     rw [Xx] at hs
     exact ⟨⟨wy (te:=Ky) hs ((h.heap _).Ma hl),g1⟩,λl Gt=>by
      simp only [Ju] at Gt
      rcases List.mem_cons.1 Gt with rfl|Gt
      ·rw [hl];simp
      ·exact g2 l Gt⟩
    ·cases h1
   ·cases h1
  ·cases he
 |(true, .part e te)::r,k,x,u::us,o,hi,he=>by
  simp only [Jb] at he
  split at he
  ·rename_i x1 x2 h1 h2
   simp only [Option.some.injEq] at he;subst he
   obtain ⟨g1,g2⟩:=Nf h Xx r (k+1) x.2 us x2 hi.2 h2
   have h0:=hi.1
   simp only [jw] at h1
   split at h1
   ·rename_i fr tr e' Ky xs hl
    split at h1
    ·rename_i hc
     obtain ⟨rfl,rfl⟩:=hc
     simp only [Option.some.injEq] at h1;subst h1
     unfold St.at at hl
     have hs:=h.ca (Bu true k) (by have:=Tt k;omega) (by rw [hl];simp)
     rw [Xx] at hs
     exact ⟨⟨wy (te:=Ky) hs ((h.heap _).Ma hl),g1⟩,λl Gt=>by
      simp only [Ju] at Gt
      rcases List.mem_cons.1 Gt with rfl|Gt
      ·rw [hl];simp
      ·exact g2 l Gt⟩
    ·cases h1
   ·cases h1
  ·cases he
 |(true, .Ds e te)::r,k,x,u::us,o,hi,he=>by
  simp only [Jb] at he
  split at he
  ·rename_i x1 x2 h1 h2
   simp only [Option.some.injEq] at he;subst he
   obtain ⟨g1,g2⟩:=Nf h Xx r (k+1) x.2 us x2 hi.2 h2
   simp only [jw] at h1
   split at h1
   ·rename_i e' Ky xs hl
    split at h1
    ·rename_i hc
     obtain ⟨rfl,rfl⟩:=hc
     simp only [Option.some.injEq] at h1;subst h1
     unfold St.at at hl
     have hs:=h.ca (Bu true k) (by have:=Tt k;omega) (by rw [hl];simp)
     rw [Xx] at hs
     exact ⟨⟨DV (te:=Ky) hs ((h.heap _).Ma hl),g1⟩,λl Gt=>by
      simp only [Ju] at Gt
      rcases List.mem_cons.1 Gt with rfl|Gt
      ·rw [hl];simp
      ·exact g2 l Gt⟩
    ·cases h1
   ·cases h1
  ·cases he
theorem oR {p:Bool×CK} {r:List (Bool×CK)} (h:Rx (p::r)=true):Rx r=true:=by
 rcases p with ⟨_|_,c⟩<;>cases c<;>first|(simp [Rx] at h;done)|simpa [Rx] using h
theorem qe: ∀(cs:List (Bool×CK)) (k:Nat) (x:Ins.den cs) (l:Nat),Rx cs=true->k+cs.length<100000->Ad (Rt k cs x) l≠none-> ¬l<Aj->l∈Ju k cs
 | [],_,_,_,_,_,h,_=>absurd rfl h
 |(io,c)::r,k,x,l,WY,hk,h,hp=>by
  simp only [List.length_cons] at hk
  simp only [Rt] at h
  have tail:Ad (Rt (k+1) r x.2) l≠none->l∈Ju (k+1) r:= λh=>qe r (k+1) x.2 l (oR WY) (by omega) h hp
  have sub: ∀m,m∈Ju (k+1) r->m∈Ju k ((io,c)::r):= λm hm=>by
   cases io<;>cases c<;>simp only [Ju]<;>first|exact hm|exact List.mem_cons_of_mem _ hm
  cases hc:dw (Bu io k) c x.1 with
  |none=>rw [hc] at h;exact sub l (tail h)
  |some b=>
   rw [hc] at h
   simp only [bx,Ad] at h
   split at h
   ·rename_i e;subst e
    cases io with
    |false=>exact absurd (a5 (by omega)) hp
    |true=>cases c with
     |Fm τ=>cases hc
     |row e te=>simp [Ju]
     |Ds e te=>simp [Ju]
     |part e te=>simp [Ju]
     |Ak e te kp=>simp [Rx] at WY
   ·exact sub l (tail h)
theorem Yr.Eu {D D':Nat->Prop} (hD: ∀b,D' b->D b) {r:Option Real} {u:Value} {c:CK} {x:c.den} (h:Yr w D r u c x):Yr w D' r u c x:=by
 cases c with
 |Fm τ=>exact ⟨h.1,h.2.Eu λb _ hb=>hD b hb⟩
 |row e te=>exact ⟨h.1,Mc.Eu h.2 hD⟩
 |Ds e te=>exact h
 |part e te=>exact ⟨h.1,h.2.1,Mc.Eu h.2.2 hD⟩
 |Ak e te kp=>exact ⟨h.1,Sq.Eu h.2 hD⟩
theorem Ev.Eu {D D':Nat->Prop} (hD: ∀b,D' b->D b) {ρ:Pi} : ∀(cs:List CK) (k:Nat) (x:CKs.den cs) (us:List Value),Ev w D ρ k cs x us->Ev w D' ρ k cs x us
 | [],_,_,[],h=>h
 | [],_,_,_::_,h=>h.elim
 |_::_,_,_,[],h=>h.elim
 |_c::r,k,x,_u::us,h=>⟨h.1.Eu hD,Ev.Eu hD r (k+1) x.2 us h.2⟩
theorem Ha.Eu {D D':Nat->Prop} (hD: ∀b,D' b->D b) {π:Pi} : ∀(cs:List (Bool×CK)) (k:Nat) (x:IOs.den cs),Ha w D π k cs x->Ha w D' π k cs x
 | [],_,_,h=>h
 |(false,_)::r,k,x,h=>Ha.Eu hD r (k+1) x h
 |(true, .Fm _)::r,k,x,h=>Ha.Eu hD r (k+1) x h
 |(true, .Ak _ _ _)::r,k,x,h=>Ha.Eu hD r (k+1) x h
 |(true, .row _e _te)::r,k,x,h=>⟨Mc.Eu h.1 hD,Ha.Eu hD r (k+1) x.2 h.2⟩
 |(true, .Ds _e _te)::r,k,x,h=>⟨h.1,Ha.Eu hD r (k+1) x.2 h.2⟩
 |(true, .part _e _te)::r,k,x,h=>⟨Mc.Eu h.1 hD,Ha.Eu hD r (k+1) x.2 h.2⟩
theorem Ys.congr {D:Nat->Prop} {π0 Vk:Pi} : ∀(cs:List (Bool×CK)) (k:Nat) (x:Ins.den cs) (us:List Value),(∀b j,k<=j->j<k+cs.length->Vk (Bu b j)=π0 (Bu b j))->Ys w D π0 k cs x us->Ys w D Vk k cs x us
 | [],_,_,[],_,h=>h
 | [],_,_,_::_,_,h=>h
 |_::_,_,_,[],_,h=>h
 |p::r,k,x,u::us,hp,h=>⟨by rw [hp p.1 k (Nat.le_refl _) (by simp)];exact h.1,Ys.congr r (k+1) x.2 us (λb j h1 h2=>hp b j (by omega) (by simp;omega)) h.2⟩
theorem Ha.congr {D:Nat->Prop} {π0 Vk:Pi} : ∀(cs:List (Bool×CK)) (k:Nat) (x:IOs.den cs),(∀b j,k<=j->j<k+cs.length->Vk (Bu b j)=π0 (Bu b j))->Ha w D π0 k cs x->Ha w D Vk k cs x
 | [],_,_,_,h=>h
 |(false,c)::r,k,x,hp,h=>by cases c<;>exact Ha.congr r (k+1) x (λb j h1 h2=>hp b j (by omega) (by simp;omega)) h
 |(true, .Fm _)::r,k,x,hp,h=>Ha.congr r (k+1) x (λb j h1 h2=>hp b j (by omega) (by simp;omega)) h
 |(true, .Ak _ _ _)::r,k,x,hp,h=>Ha.congr r (k+1) x (λb j h1 h2=>hp b j (by omega) (by simp;omega)) h
 |(true, .row e te)::r,k,x,hp,h=>⟨by rw [hp true k (Nat.le_refl _) (by simp)];exact h.1,Ha.congr r (k+1) x.2 (λb j h1 h2=>hp b j (by omega) (by simp;omega)) h.2⟩
 |(true, .Ds e te)::r,k,x,hp,h=>⟨by rw [hp true k (Nat.le_refl _) (by simp)];exact h.1,Ha.congr r (k+1) x.2 (λb j h1 h2=>hp b j (by omega) (by simp;omega)) h.2⟩
 |(true, .part e te)::r,k,x,hp,h=>⟨by rw [hp true k (Nat.le_refl _) (by simp)];exact h.1,Ha.congr r (k+1) x.2 (λb j h1 h2=>hp b j (by omega) (by simp;omega)) h.2⟩
theorem Ca.congr {π0 Vk:Pi} : ∀(cs:List (Bool×CK)) (k:Nat) (o:IOs.den cs) (n:Nat) (us as:List Value),(∀b j,k<=j->j<k+cs.length->Vk (Bu b j)=π0 (Bu b j))->Ca π0 k cs o n us as->Ca Vk k cs o n us as
 | [],k,o,0,us,as,_,h=>by simpa [Ca] using h
 | [],k,o,n+1,us,as,_,h=>by simp [Ca] at h
 |p::r,k,o,0,us,as,_,h=>by
  rcases p with ⟨_|_,c⟩<;>cases c<;>simpa [Ca] using h
 |(true, .Fm _)::r,k,o,n+1,us,as,_,h=>by simp [Ca] at h
 |(true, .part _ _)::r,k,o,n+1,us,as,_,h=>by simp [Ca] at h
 |(true, .Ak _ _ _)::r,k,o,n+1,us,as,_,h=>by simp [Ca] at h
 |(true, .row e te)::r,k,o,n+1,[],as,_,h=>by simp [Ca] at h
 |(true, .Ds e te)::r,k,o,n+1,[],as,_,h=>by simp [Ca] at h
 |(true, .row e te)::r,k,o,n+1,u::us,as,hp,h=>by
  simp only [Ca] at h⊢
  exact ⟨by rw [hp true k (Nat.le_refl _) (by simp)];exact h.1,Ca.congr r (k+1) o.2 n us as (λb j h1 h2=>hp b j (by omega) (by simp;omega)) h.2⟩
 |(true, .Ds e te)::r,k,o,n+1,u::us,as,hp,h=>by
  simp only [Ca] at h⊢
  exact ⟨by rw [hp true k (Nat.le_refl _) (by simp)];exact h.1,Ca.congr r (k+1) o.2 n us as (λb j h1 h2=>hp b j (by omega) (by simp;omega)) h.2⟩
 |(false,c)::r,k,o,n+1,[],as,_,h=>by cases c<;>simp [Ca] at h
 |(false,c)::r,k,o,n+1,u::us,[],_,h=>by cases c<;>simp [Ca] at h
 |(false,c)::r,k,o,n+1,u::us,a::as,hp,h=>by
  have h:u=a/\Ca π0 (k+1) r o n us as:=by cases c<;>exact h
  have:=Ca.congr r (k+1) o n us as (λb j h1 h2=>hp b j (by omega) (by simp;omega)) h.2
  cases c<;>exact ⟨h.1,this⟩
theorem jI: ∀(A B:List (Nat×OB)) (l:Nat),Ad (A++B) l=match Ad A l with|some b=>some b|none=>Ad B l
 | [],B,l=>rfl
 |(k,b)::A,B,l=>by
  simp only [List.cons_append,Ad]
  split
  ·rfl
  ·exact jI A B l
theorem mT {st:St} : ∀(cs:List CK) (as:List AC) (x:CKs.den cs) (ls:List Nat),Nv st cs as=some (x,ls)-> ∀l∈ls,∃b,Ad st.heap l=some b/\b.row≠none
 | [],[],x,ls,he=>by
  simp only [Nv,Option.some.injEq,Prod.mk.injEq] at he
  obtain ⟨_,rfl⟩:=he
  intro l hl;cases hl
 | [],_::_,_,_,he=>by simp [Nv] at he
 |_::_,[],_,_,he=>by simp [Nv] at he
 |c::r,a::as,x,ls,he=>by
  simp only [Nv] at he
  split at he
  ·rename_i x1 t1 x2 t2 h1 h2
   simp only [Option.some.injEq,Prod.mk.injEq] at he
   obtain ⟨_,rfl⟩:=he
   intro l hl
   rcases List.mem_append.1 hl with hl|hl
   ·unfold dz at h1
    split at h1
    ·split at h1
     ·cases hv:Bk st _ a with
      |none=>rw [hv] at h1;cases h1
      |some p=>rw [hv] at h1;simp only [Option.map_some,Option.some.injEq,Prod.mk.injEq] at h1;obtain ⟨_,rfl⟩:=h1;cases hl
     ·cases h1
    all_goals (repeat' split at h1)
    all_goals first|(cases h1;done)|skip
    all_goals (simp only [Option.some.injEq,Prod.mk.injEq] at h1;obtain ⟨_,rfl⟩:=h1)
    all_goals first|(cases hl;done)|skip
    all_goals (have hl:=List.mem_singleton.1 hl;subst hl)
    all_goals (rename_i heq _;exact ⟨_,heq,by simp [OB.row]⟩)
   ·exact mT r as x2 t2 h2 l hl
  ·cases he
theorem jT {r r':Option Real} {sz off len:Nat} {v:Value} (h:Ug r r') (hv:Dw r' sz off len v):Dw r sz off len v:=by
 cases r<;>cases r'<;>first|exact h.elim|skip
 ·exact hv
 ·obtain ⟨h1,h2,h3,_⟩:=h
  obtain ⟨ad,g1,g2,g3⟩:=hv
  exact ⟨ad,by rw [h3];exact g1,by rw [h3];exact g2,by rw [h1,h2,h3];exact g3⟩
theorem Rb {st:St} {π0:Pi} (hs: ∀k,Ad st.heap (Bu true k)≠none->Ug ((π0 (Bu true k)).map full) (π (Bu true k))):
  ∀(cs:List (Bool×CK)) (k:Nat) (vs:List AC) (us:List Value) (bc:List AC) (o:IOs.den cs),Hu X w π st.heap vs us->Ex k cs vs=some bc->bT st vs cs->Jb st k cs=some o->
   ∃bv,Hu X w π st.heap bc bv/\bv.length=nk cs vs.length/\ ∀tl,Ca π0 k cs o vs.length us (bv++tl)
 |cs,k,[],us,bc,o,hr,he,_,_=>by
  have e1:us= []:=by cases us with|nil=>rfl|cons u us=>exact hr.elim
  have e2:bc= []:=by rcases cs with _|⟨⟨_|_,c⟩,r⟩<;>simpa [Ex] using he.symm
  subst e1;subst e2
  refine ⟨[],trivial,?_,λtl=>?_⟩
  ·rcases cs with _|⟨⟨_|_,c⟩,r⟩<;>rfl
  ·rcases cs with _|⟨⟨_|_,c⟩,r⟩<;>(try cases c)<;>simp [Ca]
 | [],k,a::vs,us,bc,o,hr,he,_,_=>by simp [Ex] at he
 |p::r,k,a::vs,[],bc,o,hr,_,_,_=>hr.elim
 |(false,c)::r,k,a::vs,u::us,bc,o,hr,he,hk,ho=>by
  have he:(Ex (k+1) r vs).map (λl=>a::l)=some bc:=by cases a<;>exact he
  cases hb:Ex (k+1) r vs with
  |none=>rw [hb] at he;cases he
  |some bc'=>
   rw [hb] at he
   simp only [Option.map_some,Option.some.injEq] at he;subst he
   obtain ⟨bv,g1,g2,g3⟩:=Rb hs r (k+1) vs us bc' o hr.2 hb (by cases a<;>exact hk) (by cases c<;>simpa only [Jb] using ho)
   refine ⟨u::bv,⟨hr.1,g1⟩,by simp [nk,g2],λtl=>?_⟩
   have:=g3 tl
   cases c<;>exact ⟨rfl,this⟩
 |(true,c)::r,k,a::vs,u::us,bc,o,hr,he,hk,ho=>by
  cases c with
  |Fm τ=>cases a<;>simp [Ex] at he
  |part e te=>cases a<;>simp [Ex] at he
  |Ak e te kp=>cases a<;>simp [Ex] at he
  |row e te=>
   cases a<;>first|(simp [Ex] at he;done)|skip
   rename_i l off len
   simp only [Ex] at he
   split at he
   rotate_left
   ·cases he
   rename_i hl
   have hl:l=Bu true k:=Nat.eq_of_beq_eq_true hl
   subst hl
   obtain ⟨⟨rfl,hlen⟩,hk⟩:=hk
   obtain ⟨b,sz,n,h1,h2,h3,h4⟩:=hr.1
   have HK:=hs k (by rw [h1];simp)
   simp only [Jb] at ho
   split at ho
   ·rename_i x1 x2 q1 q2
    simp only [Option.some.injEq] at ho;subst ho
    obtain ⟨bv,g1,g2,g3⟩:=Rb hs r (k+1) vs us bc x2 hr.2 he hk q2
    refine ⟨bv,g1,by simpa [nk] using g2,λtl=>?_⟩
    refine ⟨?_,g3 tl⟩
    simp only [jw] at q1
    split at q1
    ·rename_i fr tr e' Ky xs Gt
     split at q1
     ·rename_i hc
      obtain ⟨rfl,rfl⟩:=hc
      simp only [Option.some.injEq] at q1;subst q1
      unfold St.at at Gt hlen
      rw [Gt] at hlen
      rw [h1] at Gt;cases Gt
      simp only [OB.row,Option.some.injEq,Prod.mk.injEq] at h2
      obtain ⟨rfl,rfl⟩:=h2
      have hlen:len=List.length xs:=hlen
      have:=jT HK h4
      rw [hlen] at this
      have e0:(π0 (Bu true k)).map full=(π0 (Bu true k)).map full:=rfl
      cases hp:π0 (Bu true k)<;>(rw [hp] at this;exact this)
     ·cases q1
    ·cases q1
   ·cases ho
  |Ds e te=>
   cases a<;>first|(simp [Ex] at he;done)|skip
   rename_i l off len
   simp only [Ex] at he
   split at he
   rotate_left
   ·cases he
   rename_i hl
   have hl:l=Bu true k:=Nat.eq_of_beq_eq_true hl
   subst hl
   obtain ⟨⟨rfl,hlen⟩,hk⟩:=hk
   obtain ⟨b,sz,n,h1,h2,h3,h4⟩:=hr.1
   have HK:=hs k (by rw [h1];simp)
   simp only [Jb] at ho
   split at ho
   ·rename_i x1 x2 q1 q2
    simp only [Option.some.injEq] at ho;subst ho
    obtain ⟨bv,g1,g2,g3⟩:=Rb hs r (k+1) vs us bc x2 hr.2 he hk q2
    refine ⟨bv,g1,by simpa [nk] using g2,λtl=>?_⟩
    refine ⟨?_,g3 tl⟩
    simp only [jw] at q1
    split at q1
    ·rename_i e' Ky xs Gt
     split at q1
     ·rename_i hc
      obtain ⟨rfl,rfl⟩:=hc
      simp only [Option.some.injEq] at q1;subst q1
      unfold St.at at Gt hlen
      rw [Gt] at hlen
      rw [h1] at Gt;cases Gt
      simp only [OB.row,Option.some.injEq,Prod.mk.injEq] at h2
      obtain ⟨rfl,rfl⟩:=h2
      have hlen:len=List.length xs:=hlen
      have:=jT HK h4
      rw [hlen] at this
      cases hp:π0 (Bu true k)<;>(rw [hp] at this;exact this)
     ·cases q1
    ·cases q1
   ·cases ho
def ZZ (s:MSpec) (g:Nat) (π:Pi):Pi:= λl=>if s.ptr.isSome=true/\l=Lp then some ⟨g,0,0,λb=>b=g,λb=>b=g⟩ else π l
def VI (P:Program) (s:MSpec) (fn:Func) (x:Ins.den s.ins) (w:World) (S:Nat->Prop) (π:Pi) (g:Nat) (r:CKs.den s.outs) (o:IOs.den s.ins) (a':Act) (w':World):Prop:=
 ∃(v:Value) (Sh:List Value) (ρ:Pi),a'.defers= []/\(results fn a'.tmps).run P w'= .ok v w'/\lE s w' ρ (Sh.drop s.Sw) v/\eB s π w' g Sh o/\Gc w.heap.size (λb=>Oi π b\/s.gv g b) w w'/\Ha w' (dv S π ρ) π 0 s.ins o/\Ev w' (dv S π ρ) ρ 0 s.outs r Sh/\
  bh ρ (λb=>b<w'.heap.size/\(w.heap.size<=b\/ ∃l q,l<Aj/\π l=some q/\q.Ay b))/\(∀l,(∀k,k<s.Nj->l≠Fq k)->ρ l=none)/\(∀kj∈s.keeps,tZ w w' (π (Bu false kj.1)) (ρ (Fq kj.2)) (s.Cs x))
theorem Ev.GK {D:Nat->Prop} {ρ ρ':Pi} : ∀(cs:List CK) (k:Nat) (x:CKs.den cs) (us:List Value),(∀j,k<=j->j<k+cs.length->ρ' (Fq j)=ρ (Fq j))->Ev w D ρ k cs x us->Ev w D ρ' k cs x us
 | [],_,_,[],_,h=>h
 | [],_,_,_::_,_,h=>h.elim
 |_::_,_,_,[],_,h=>h.elim
 |c::r,k,x,u::us,he,h=>⟨by rw [he k (Nat.le_refl _) (by simp)];exact h.1,Ev.GK r (k+1) x.2 us (λj hj hl=>he j (by omega) (by simp;omega)) h.2⟩
theorem qh {st:St} {n:Nat} {as:List AC} : ∀ {ks:List (Nat×Nat)},qg st n as ks-> ∀kj∈ks,∃l off len e te rows out p,as[kj.2]?=some (.own l off len)/\Ad st.heap l=some (.Ak e te rows out (some p))/\p.1=Bu false kj.1/\n<=p.2/\kj.1<1000
 | [],_,kj,hm=>by cases hm
 |(k,j)::r,h,kj,hm=>by
  simp only [qg] at h
  rcases List.mem_cons.1 hm with rfl|hm
  ·obtain ⟨h,_⟩:=h
   split at h
   ·rename_i l off len he
    split at h
    ·rename_i e te rows out p hl
     unfold St.at at hl
     exact ⟨l,off,len,e,te,rows,out,p,he,hl,h.1,h.2.1,by simpa using h.2.2⟩
    ·exact h.elim
   ·exact h.elim
  ·exact qh h.2 kj hm
theorem qv {st:St} : ∀(cs:List CK) (as:List AC) (x:CKs.den cs) (ls:List Nat),Nv st cs as=some (x,ls)->as.length=cs.length
 | [],[],_,_,_=>rfl
 | [],_::_,_,_,he=>by simp [Nv] at he
 |_::_,[],_,_,he=>by simp [Nv] at he
 |c::r,a::as,x,ls,he=>by
  simp only [Nv] at he
  split at he
  ·rename_i h1 h2
   simp only [List.length_cons,qv r as _ _ h2]
  ·cases he
theorem wv {α β:Type} (f:α->Sem β): ∀(l:List α) (vs:List β),vs.length=l.length->(∀(i:Nat) a v,l[i]?=some a->vs[i]?=some v->(f a).run P w= .ok v w)->(l.mapM f).run P w= .ok vs w
 | [],[],_,_=>by simp
 | [],_::_,h,_=>by simp at h
 |_::_,[],h,_=>by simp at h
 |a::l,v::vs,h,hr=>by
  rw [List.mapM_cons]
  simp only [Sem.run_bind,hr 0 a v rfl rfl,Result.andThen_ok,wv f l vs (by simpa using h) (λi a' v' ha hv=>hr (i+1) a' v' (by simpa using ha) (by simpa using hv)),Sem.run_pure]
theorem oB (hT:Bz P T) (Mb:Hs P Γ) (hm:P.follows .mixedOrders=true) {f:FuncId} {fn:Func} (hf:P.funcs[f]?=some fn) (s:MSpec) (w:World) (S:Nat->Prop) (π:Pi) (us:List Value) (x:Ins.den s.ins)
  (r:CKs.den s.outs) (o:IOs.den s.ins) (g:Nat) (jv:List Value) (Kv:im s w g us jv) (hSg:s.ptr.isSome=true->S g) (Ti:Ys w (λb=>Oi π b\/S b) π 0 s.ins x us) (da:bh π (λb=>b<w.heap.size)) (hS: ∀b,S b->b<w.heap.size/\ ¬Oi π b) (GU: ∀l,Ad (Rt 0 s.ins x) l=none->π l=none) (he:OC T Γ s fn x λz=>z=(r,o)):
  Calls P f jv.toArray w λe w'=> ∃v Sh ρ,e= .returned v/\lE s w' ρ (Sh.drop s.Sw) v/\eB s π w' g Sh o/\Gc w.heap.size (λb=>Oi π b\/s.gv g b) w w'/\Ha w' (dv S π ρ) π 0 s.ins o/\Ev w' (dv S π ρ) ρ 0 s.outs r Sh/\
   bh ρ (λb=>b<w'.heap.size/\(w.heap.size<=b\/ ∃l q,l<Aj/\π l=some q/\q.Ay b))/\(∀l,(∀k,k<s.Nj->l≠Fq k)->ρ l=none)/\(∀kj∈s.keeps,tZ w w' (π (Bu false kj.1)) (ρ (Fq kj.2)) (s.Cs x)):=by
 obtain ⟨hlen,c,hb,he⟩:=he
 simp only [Bool.and_eq_true,Nat.blt_eq] at hlen
 obtain ⟨hlen,GW⟩:=hlen
 unfold sF at GW
 simp only [Bool.and_eq_true] at GW
 have WZ:=GW.1
 let kx:Pi:=ZZ s g π
 let Sg:Nat->Prop:= λb=>S b/\ ¬s.gv g b
 have XW: ∀b j,j<1000->Bu b j≠Lp:= λb j hj=>by cases b<;>(unfold Bu Lp;simp;omega)
 have rT: ∀b j,0<=j->j<0+s.ins.length->kx (Bu b j)=π (Bu b j):= λb j _ hj=>if_neg λh=>XW b j (by omega) h.2
 have PE: ∀b j,0<=j->j<0+s.ins.length->π (Bu b j)=kx (Bu b j):= λb j h1 h2=>(rT b j h1 h2).symm
 have SF:Ad (Rt 0 s.ins x) Lp=none:=Classical.byContradiction λhn=>by
  obtain ⟨b,j,_,h2,h3⟩:=mw s.ins 0 x Lp hn
  exact XW b j (by omega) h3.symm
 have ES: ∀l q,kx l=some q->(π l=some q/\(s.ptr.isSome=true->l≠Lp))\/(s.ptr.isSome=true/\l=Lp/\q=⟨g,0,0,λb=>b=g,λb=>b=g⟩):= λl q hq=>by
  have hq:(if s.ptr.isSome=true/\l=Lp then some ⟨g,0,0,λb=>b=g,λb=>b=g⟩ else π l)=some q:=hq
  split at hq
  ·rename_i hc;exact .inr ⟨hc.1,hc.2,(Option.some.inj hq).symm⟩
  ·rename_i hc;exact .inl ⟨hq,λh1 h2=>hc ⟨h1,h2⟩⟩
 have Xw: ∀b,Oi kx b↔Oi π b\/s.gv g b:= λb=>by
  constructor
  ·rintro ⟨l,q,h1,h2⟩
   rcases ES l q h1 with ⟨h3,_⟩|⟨h3,h4,rfl⟩
   ·exact .inl ⟨l,q,h3,h2⟩
   ·exact .inr ⟨h3,h2⟩
  ·rintro (⟨l,q,h1,h2⟩|⟨h1,rfl⟩)
   ·refine ⟨l,q,?_,h2⟩
    show (if s.ptr.isSome=true/\l=Lp then _ else π l)=some q
    rw [if_neg]
    ·exact h1
    ·rintro ⟨_,rfl⟩
     rw [GU Lp SF] at h1;cases h1
   ·exact ⟨Lp,⟨b,0,0,λc=>c=b,λc=>c=b⟩,if_pos ⟨h1,rfl⟩,rfl⟩
 have hgS: ∀b,s.gv g b->S b:= λb ⟨h1,h2⟩=>h2▸hSg h1
 have RL:Ys w (λb=>Oi kx b\/Sg b) kx 0 s.ins x us:=Ys.congr s.ins 0 x us rT (Ys.Eu (λb hb=>by
  rcases hb with hb|hb
  ·rcases (Xw b).1 hb with hb|hb
   ·exact .inl hb
   ·exact .inr (hgS b hb)
  ·exact .inr hb.1) s.ins 0 x us Ti)
 have XE:bh kx (λb=>b<w.heap.size):=⟨λl q b h1 h2=>by
  rcases ES l q h1 with ⟨h3,_⟩|⟨h3,h4,rfl⟩
  ·exact da.Tr l q b h3 h2
  ·exact (hS b (hgS b ⟨h3,h2⟩)).1,λl l' q q' b h1 h2 h3 h4=>by
  rcases ES l q h1 with ⟨h5,_⟩|⟨h5,h6,rfl⟩<;>rcases ES l' q' h2 with ⟨h7,_⟩|⟨h7,h8,rfl⟩
  ·exact da.inj l l' q q' b h5 h7 h3 h4
  ·exact absurd ⟨l,q,h5,h3⟩ (hS b (hgS b ⟨h7,h4⟩)).2
  ·exact absurd ⟨l',q',h7,h4⟩ (hS b (hgS b ⟨h5,h3⟩)).2
  ·rw [h6,h8]⟩
 have Ac0: ∀b,Sg b->b<w.heap.size/\ ¬Oi kx b:= λb hb=>⟨(hS b hb.1).1,λho=>((Xw b).1 ho).elim (hS b hb.1).2 hb.2⟩
 have AD: ∀l,Ad (jJ s x) l=match Ad (Rt 0 s.ins x) l with|some b=>some b|none=>if l=Lp then s.ptr.map λp=> .var p.1 ((Us 0 s.ins x).take p.2) else none:= λl=>by
  unfold jJ
  cases hp:s.ptr with
  |none=>cases Ad (Rt 0 s.ins x) l<;>simp
  |some p=>
   simp only
   rw [jI]
   cases Ad (Rt 0 s.ins x) l with
   |some b=>rfl
   |none=>
    simp only [Ad,Option.map_some]
    by_cases e:l=Lp
    ·rw [if_pos e,if_pos e.symm]
    ·rw [if_neg e,if_neg (λh=>e h.symm)]
 let π0:Pi:= λl=>(kx l).map full
 have un: ∀l q,π0 l=some q-> ∃q0,kx l=some q0/\q=full q0:= λl q hq=>by
  have hq:(kx l).map full=some q:=hq
  cases hp:kx l with
  |none=>rw [hp] at hq;cases hq
  |some q0=>rw [hp] at hq;exact ⟨q0,rfl,(Option.some.inj hq).symm⟩
 have GZ: ∀l b,Ad (Rt 0 s.ins x) l=some b->Ad (jJ s x) l=some b:= λl b hb=>by rw [AD l,hb]
 have SA:Hu ⟨w,Sg,Oi kx,π0⟩ w π0 (jJ s x) (Us 0 s.ins x) us:=vd (λ_=>rfl) s.ins 0 x us (by omega) RL GZ
 have HQ:s.ptr.isSome=true->π0 Lp=some ⟨g,0,0,λb=>b=g,λb=>b=g⟩:= λhp=>by
  show (if s.ptr.isSome=true/\Lp=Lp then _ else π Lp).map full=_
  rw [if_pos ⟨hp,rfl⟩];rfl
 obtain ⟨g1,g2⟩:(Su s (Us 0 s.ins x)).length=jv.length/\ ∀(i:Nat) c v,(Su s (Us 0 s.ins x))[i]?=some c->jv[i]?=some v->Am ⟨w,Sg,Oi kx,π0⟩ w π0 (jJ s x) c v:=by
  unfold im at Kv
  cases hp:s.ptr with
  |none=>
   rw [hp] at Kv
   obtain ⟨rfl,xf⟩:=Kv
   obtain ⟨g1,g2,_,_⟩:=Xt s.Gv _ us xf SA
   rw [show Su s (Us 0 s.ins x)=Mg s.Gv (Us 0 s.ins x) by unfold Su;rw [hp]]
   exact ⟨g1,g2⟩
  |some p=>
   rw [hp] at Kv
   obtain ⟨rfl,xf,_⟩:=Kv
   obtain ⟨g1,g2,_,_⟩:=Xt s.Gv _ (us.drop p.2) xf (Hu.take p.2 SA).2
   rw [show Su s (Us 0 s.ins x)= .at (.Dx Lp 0)::Mg s.Gv ((Us 0 s.ins x).drop p.2) by unfold Su;rw [hp]]
   refine ⟨by simp [g1],λi c v h1 h2=>?_⟩
   rcases i with _|i
   ·simp only [List.getElem?_cons_zero,Option.some.injEq] at h1 h2
    subst h1;subst h2
    exact ⟨_,p.1,(Us 0 s.ins x).take p.2,by rw [AD,SF];simp [hp],HQ (by rw [hp];rfl),rfl⟩
   ·exact g2 i c v (by simpa using h1) (by simpa using h2)
 have h0:Rel ⟨w,Sg,Oi kx,π0⟩ {tmps:=Su s (Us 0 s.ins x)++List.replicate (fn.ntmps-(Su s (Us 0 s.ins x)).length) .undef,heap:=jJ s x}
   {tmps:=jv.toArray++Array.replicate (fn.ntmps-jv.toArray.size) undef,defers:= []} w:=by
  refine ⟨π0,⟨Gc.refl _ _ _,λb hb=>Ac0 b hb,λl q b h1 h2=>?_,λl q b h1 h2=>?_,λl l' q q' b h1 h2 h3 h4=>?_,λl _ _=>Ug.rfl' _,λl=>?_⟩,⟨by simp [g1],rfl,λt=>?_⟩⟩
  ·obtain ⟨q0,_,rfl⟩:=un l q h1;exact h2
  ·obtain ⟨q0,h3,rfl⟩:=un l q h1
   exact ⟨.inr ⟨l,q0,h3,h2⟩,XE.Tr l q0 b h3 h2⟩
  ·obtain ⟨q0,h5,rfl⟩:=un l q h1
   obtain ⟨TL,h6,rfl⟩:=un l' q' h2
   exact XE.inj l l' q0 TL b h5 h6 h3 h4
  ·cases hh:Ad (Rt 0 s.ins x) l with
   |none=>
    by_cases hv:s.ptr.isSome=true/\l=Lp
    ·obtain ⟨UZ,rfl⟩:=hv
     obtain ⟨p,hp⟩:=Option.isSome_iff_exists.1 UZ
     refine De.Ih (b:= .var p.1 ((Us 0 s.ins x).take p.2)) ?_ (by rw [AD,hh];simp [hp])
     unfold im at Kv
     rw [hp] at Kv
     obtain ⟨_,_,h1,h2,h3⟩:=Kv
     rw [HQ UZ]
     exact ⟨_,rfl,rfl,_,h2,Hu.to (Hu.take p.2 SA).1 h3⟩
    ·refine De.Oz ?_ ?_
     ·show (if s.ptr.isSome=true/\l=Lp then _ else π l).map full=none
      rw [if_neg hv,GU l hh];rfl
     ·rw [AD,hh]
      simp only
      split
      ·rename_i e
       cases hp:s.ptr with
       |none=>rfl
       |some p=>exact absurd ⟨by rw [hp];rfl,e⟩ hv
      ·rfl
   |some b=>exact De.Ih (eY (π0:=kx) (λb hb=>by
    rcases hb with ⟨l,q,h1,h2⟩|hb|⟨hb,_⟩
    ·obtain ⟨q0,h3,rfl⟩:=un l q h1;exact .inl ⟨l,q0,h3,h2⟩
    ·exact .inr hb
    ·cases hb) rfl (λ_=>rfl) s.ins 0 x us RL l b hh) (GZ l b hh)
  ·show Am _ w _ _ ((Su s (Us 0 s.ins x)++List.replicate _ AV.undef).getD t .undef) ((jv.toArray++Array.replicate _ undef).getD t undef)
   by_cases ht:t<jv.length
   ·rw [List.getD_eq_getElem?_getD,List.getElem?_append_left (by omega),<-List.getD_eq_getElem?_getD]
    rw [Array.getD_eq_getD_getElem?,Array.getElem?_append_left (by simpa using ht)]
    have:=g2 t _ _ (List.getElem?_eq_getElem (by omega)) (List.getElem?_eq_getElem ht)
    simpa [List.getD_eq_getElem?_getD,List.getElem?_eq_getElem ht,List.getElem?_eq_getElem (show t<(Su s (Us 0 s.ins x)).length by omega)] using this
   ·have:(Su s (Us 0 s.ins x)++List.replicate (fn.ntmps-(Su s (Us 0 s.ins x)).length) AV.undef).getD t .undef= .undef:=by
     rw [List.getD_eq_getElem?_getD,List.getElem?_append_right (by omega)]
     rw [List.getElem?_replicate]
     split<;>rfl
    rw [this];trivial
 have fin: ∀(st:St) (a':Act) (w':World),FX T s fn x st (λz=>z=(r,o))->Rel ⟨w,Sg,Oi kx,π0⟩ st a' w'->VI P s fn x w S π g r o a' w':=by
  intro st a' w' kK HI
  obtain ⟨Vk,h'⟩:=HI
  have PK:Aj<=Lp:=by unfold Aj Lp;omega
  obtain ⟨bc,jH,Ae1,hbc⟩: ∃bc,di T s fn x st bc (λz=>z=(r,o))/\(s.ptr.isSome=true-> ∃b,Ad st.heap Lp=some b/\b.row=none)/\
    (Jb st 0 s.ins=some o-> ∃bv,Hu ⟨w,Sg,Oi kx,π0⟩ w' Vk st.heap bc bv/\bv.length=s.Sw/\ ∀tl,eB s π w' g (bv++tl) o):=by
   unfold FX at kK
   cases hp:s.ptr with
   |none=>
    rw [hp] at kK
    exact ⟨[],kK,λh=>by simp at h,λ_=>⟨[],trivial,by simp [MSpec.Sw,hp],λtl=>by simp [eB,hp]⟩⟩
   |some p=>
    rw [hp] at kK
    obtain ⟨vs,cs,h1,h2,h3,h4,h5⟩:=kK
    unfold St.at at h1
    refine ⟨cs,h5,λ_=>⟨_,h1,rfl⟩,λrR=>?_⟩
    obtain ⟨q,k1,k2,cur,k3,k4⟩:=(h'.1.heap Lp).Ma h1
    have hsv:Ug (π0 Lp) (Vk Lp):=h'.1.ca Lp PK (by rw [h1];simp)
    rw [HQ (by rw [hp];rfl),k1] at hsv
    have XH:g=q.g:=hsv.1
    obtain ⟨bv,g1,g2,g3⟩:=Rb (π0:=kx) (λk hk=>h'.1.ca _ (Nat.le_of_not_lt (Tt k)) hk) s.ins 0 vs cur.toList cs o (Hu.of k4) h3 h4 rR
    refine ⟨bv,g1,by rw [g2,h2];simp [MSpec.Sw,hp],λtl=>?_⟩
    unfold eB
    rw [hp]
    refine ⟨cur.toList,by rw [XH];simpa using k3,λu hu=>?_,Ca.congr s.ins 0 o p.2 _ _ PE (h2▸g3 tl)⟩
    obtain ⟨i,hi,rfl⟩:=List.mem_iff_getElem.1 hu
    have hl:=k4.1
    obtain ⟨u',h6,h7,_⟩:=k4.2 i (vs[i]'(by omega)) (List.getElem?_eq_getElem _)
    rw [List.getElem?_eq_getElem hi] at h6
    rw [Option.some.inj h6];exact h7
  unfold di at jH
  split at jH
  ·exact jH.elim
  rename_i l hl
  split at jH
  ·exact jH.elim
  rename_i as ml bP
  split at jH
  rotate_left
  ·exact jH.elim
  rename_i r' ls o' xR pZ
  obtain ⟨Fg,qa,HJ⟩:=jH
  simp only [Bool.and_eq_true,Nat.blt_eq] at Fg
  obtain ⟨⟨⟨FO,Ah6⟩,Afk⟩,WV⟩:=Fg
  simp only [Prod.mk.injEq] at HJ
  obtain ⟨rfl,rfl⟩:=HJ
  obtain ⟨bv,hbv,Ace,Acb⟩:=hbc pZ
  have xP:=Qm FO
  obtain ⟨n1,n2,n3⟩:=List.nodup_append.1 xP
  obtain ⟨m1,m2,m3⟩:=List.nodup_append.1 n1
  obtain ⟨vs,v1,v2,v3,v4⟩:=Qo hT h' _ _ hl
  have MM:fn.results=fn.results.toList.toArray:=Array.toArray_toList.symm
  have Og: ∀v,(if h:vs.toArray.size=1 then vs.toArray[0] else .tuple vs.toArray)=v->(results fn a'.tmps).run P w'= .ok v w':=by
   intro v hv
   rw [Zz,MM,List.mapM_toArray]
   simp only [map_eq_pure_bind,bind_assoc,pure_bind]
   simp only [Sem.run_bind,wv (yV a'.tmps) _ vs v1 v3,Result.andThen_ok,Sem.run_pure]
   rw [hv]
  obtain ⟨pB,v,qm,Ae0,hv,PN⟩: ∃pB v qm,Hu ⟨w,Sg,Oi kx,π0⟩ w' Vk st.heap as pB/\(results fn a'.tmps).run P w'= .ok v w'/\
    ((s.rp=none/\ml= []/\qm=none/\JI s.Ef s.Gb pB v/\Wd s.Gb pB)\/
     ∃tid m q,s.rp=some tid/\ml= [m]/\m<Aj/\qm=some q/\Vk m=some q/\q.Ay q.g/\w'.heap[q.g]?=some (.cells pB.toArray tid (0,0))/\(∀u∈pB,u.oneCell'=true)/\v= .pointer (some ⟨q.g,0,none⟩)):=by
   unfold yU at bP
   split at bP
   ·rename_i xe
    split at bP
    rotate_left
    ·cases bP
    rename_i hmul
    cases FP:ungroup s.Gb l with
    |none=>rw [FP] at bP;cases bP
    |some as'=>
     rw [FP] at bP
     simp only [Option.map_some,Option.some.injEq,Prod.mk.injEq] at bP
     obtain ⟨rfl,rfl⟩:=bP
     obtain ⟨pB,e1,e2,e3⟩:=Wi s.Gb l vs as' (by omega) v4 FP
     have hv: ∃v,(results fn a'.tmps).run P w'= .ok v w'/\JI s.Ef s.Gb pB v:=by
      unfold JI
      rw [<-e1,hmul]
      rcases Nat.lt_or_ge 1 l.length with h1|h1
      ·have GQ:Nat.blt 1 l.length=true:=by simpa using h1
       simp only [GQ,if_true]
       refine ⟨.tuple vs.toArray,Og _ ?_,rfl⟩
       rw [dif_neg (by simp;omega)]
      ·have GQ:Nat.blt 1 l.length=false:=by rw [<-Bool.not_eq_true];simpa using h1
       simp only [GQ,Bool.false_eq_true,if_false]
       rcases vs with _|⟨v,_|⟨v',vs⟩⟩
       ·exact ⟨_,Og _ (by simp;rfl), .inr rfl⟩
       ·exact ⟨v,Og _ (by simp), .inl rfl⟩
       ·exfalso;simp only [List.length_cons] at v1;omega
     obtain ⟨v,hv1,hv2⟩:=hv
     exact ⟨pB,v,none,e3,hv1, .inl ⟨xe,rfl,rfl,hv2,e2⟩⟩
   ·rename_i tid xe
    split at bP
    rotate_left
    ·cases bP
    rename_i m i
    split at bP
    rotate_left
    ·cases bP
    rename_i Np tW hm
    split at bP
    rotate_left
    ·cases bP
    rename_i hc
    obtain ⟨rfl,rfl,KZ⟩:=hc
    simp only [Option.some.injEq,Prod.mk.injEq] at bP
    obtain ⟨rfl,rfl⟩:=bP
    unfold St.at at hm
    rcases vs with _|⟨v,_|⟨v',vs⟩⟩
    ·exfalso;simp only [List.length_cons,List.length_nil] at v1 v2;omega
    ·obtain ⟨q,Aj3,vs2,q1,q2,q3⟩:=v4 0 _ v rfl rfl
     rw [hm] at q1;cases q1
     obtain ⟨q',k1,k2,cur,k3,k4⟩:=(h'.1.heap m).Ma hm
     rw [q2] at k1;cases k1
     refine ⟨cur.toList,v,some q,Hu.of k4,Og _ (by simp), .inr ⟨_,m,q,xe,rfl,by simpa using KZ,rfl,q2,k2,by simpa using k3,λu hu=>?_,q3⟩⟩
     obtain ⟨i,hi,rfl⟩:=List.mem_iff_getElem.1 hu
     have hl:=k4.1
     obtain ⟨u',h6,h7,_⟩:=k4.2 i (tW[i]'(by omega)) (List.getElem?_eq_getElem _)
     rw [List.getElem?_eq_getElem hi] at h6
     rw [Option.some.inj h6];exact h7
    ·exfalso;simp only [List.length_cons,List.length_nil] at v1 v2;omega
  obtain ⟨tX,p1,p2,p3,p4,p5⟩:=qw h'.1 s.outs 0 (bc++as) (bv++pB) r' ls (hbv.append Ae0) xR m2
  obtain ⟨io1,io2⟩:=Nf (π0:=kx) h'.1 (λ_=>rfl) s.ins 0 x us o' RL pZ
  have WI:(bv++pB).drop s.Sw=pB:=by rw [<-Ace];simp
  let ρ:Pi:= λl0=>if l0=Fq s.outs.length then qm else tX l0
  have SL:ρ (Fq s.outs.length)=qm:=if_pos rfl
  have YG: ∀l0,l0≠Fq s.outs.length->ρ l0=tX l0:= λl0 h=>if_neg h
  have YF: ∀j,j<s.outs.length->ρ (Fq j)=tX (Fq j):= λj hj=>YG _ (by unfold Fq;omega)
  have oe: ∀l0 q,ρ l0=some q->(l0=Fq s.outs.length/\qm=some q)\/(l0≠Fq s.outs.length/\tX l0=some q):= λl0 q h=>by
   by_cases e:l0=Fq s.outs.length
   ·subst e;rw [SL] at h;exact .inl ⟨rfl,h⟩
   ·rw [YG l0 e] at h;exact .inr ⟨e,h⟩
  have XI: ∀q,qm=some q-> ∃m,ml= [m]/\m<Aj/\Vk m=some q:= λq hq=>by
   rcases PN with ⟨_,_,h1,_⟩|⟨_,m,q',_,h1,h2,h3,h4,_⟩
   ·rw [h1] at hq;cases hq
   ·rw [h3] at hq;cases hq;exact ⟨m,h1,h2,h4⟩
  have p3': ∀l0 q b,ρ l0=some q->q.Ay b-> ∃l1∈ml++ls,∃p,Vk l1=some p/\p.cl b/\((s.outs.all λc=>!c.PY)=true->p.Ay b)/\((l1∈ls)\/l1<Aj):= λl0 q b h1 h2=>by
   rcases oe l0 q h1 with ⟨_,h3⟩|⟨_,h3⟩
   ·obtain ⟨m,e1,e2,e3⟩:=XI q h3
    exact ⟨m,by rw [e1];simp,q,e3,h'.1.sub m q b e3 h2,λ_=>h2, .inr e2⟩
   ·obtain ⟨l1,g1,p,g2,g3,g4⟩:=p3 l0 q b h3 h2
    exact ⟨l1,List.mem_append_right _ g1,p,g2,g3,g4, .inl g1⟩
  have p4': ∀l0 l1 q q' b,ρ l0=some q->ρ l1=some q'->q.Ay b->q'.Ay b->l0=l1:= λl0 l1 q q' b h1 h2 h3 h4=>by
   have uy: ∀l0 q q' b,tX l0=some q->qm=some q'->q.Ay b->q'.Ay b->False:= λl0 q q' b h1 h2 h3 h4=>by
    obtain ⟨m,e1,e2,e3⟩:=XI q' h2
    obtain ⟨l1,g1,p,g2,g3,_⟩:=p3 l0 q b h1 h3
    have:=h'.1.inj m l1 q' p b e3 g2 (h'.1.sub m q' b e3 h4) g3
    exact m3 m (by rw [e1];simp) l1 g1 this
   rcases oe l0 q h1 with ⟨e1,h5⟩|⟨e1,h5⟩<;>rcases oe l1 q' h2 with ⟨e2,h6⟩|⟨e2,h6⟩
   ·rw [e1,e2]
   ·exact (uy l1 q' q b h6 h5 h4 h3).elim
   ·exact (uy l0 q q' b h5 h6 h3 h4).elim
   ·exact p4 l0 l1 q q' b h5 h6 h3 h4
  have AJ: ∀l0 q,Aj<=l0->kx l0=some q->Ad st.heap l0≠none/\(l0∈Ju 0 s.ins\/ ∃b,Ad st.heap l0=some b/\b.row=none):= λl0 q h1 h2=>by
   rcases ES l0 q h2 with ⟨h3,_⟩|⟨h3,rfl,_⟩
   ·have rR:=qe s.ins 0 x l0 WZ (by omega) (λhnn=>by rw [GU l0 hnn] at h3;cases h3) (by omega)
    exact ⟨io2 l0 rR, .inl rR⟩
   ·obtain ⟨b,h4,h5⟩:=Ae1 h3
    exact ⟨by rw [h4];simp, .inr ⟨b,h4,h5⟩⟩
  have hDO:(s.outs.all λc=>!c.PY)=true-> ∀b,dv Sg kx ρ b->Oi Vk b\/Sg b:=by
   intro hx b hb
   rcases hb with hb|⟨l0,q,h1,h2,h3⟩|⟨l0,q,h1,h2⟩
   ·exact .inr hb
   ·have hs:=h'.1.ca l0 h1 (AJ l0 q h1 h2).1
    have hs:Ug ((kx l0).map full) (Vk l0):=hs
    rw [h2] at hs
    cases tT:Vk l0 with
    |none=>rw [tT] at hs;exact hs.elim
    |some q1=>rw [tT] at hs;exact .inl ⟨l0,q1,tT,(hs.2.2.2 b).1 h3⟩
   ·obtain ⟨m,_,p,hm2,_,RS,_⟩:=p3' l0 q b h1 h2
    exact .inl ⟨m,p,hm2,RS hx⟩
  have hDD: ∀b,dv S π ρ b->dv Sg kx ρ b:= λb hb=>by
   rcases hb with hb|⟨l0,q,h1,h2,h3⟩|hb
   ·by_cases FM:s.gv g b
    ·obtain ⟨UZ,rfl⟩:=FM
     exact .inr (.inl ⟨Lp,_,PK,if_pos ⟨UZ,rfl⟩,rfl⟩)
    ·exact .inl ⟨hb,FM⟩
   ·refine .inr (.inl ⟨l0,q,h1,?_,h3⟩)
    show (if s.ptr.isSome=true/\l0=Lp then _ else π l0)=some q
    rw [if_neg]
    ·exact h2
    ·rintro ⟨_,rfl⟩
     rw [GU Lp SF] at h2;cases h2
   ·exact .inr (.inr hb)
  have KW:s.flat=true\/(s.outs.all λc=>!c.PY)=true:=by unfold MSpec.IM at WV;simpa only [Bool.or_eq_true] using WV
  have io1:Ha w' (dv S π ρ) π 0 s.ins o':=by
   refine Ha.congr s.ins 0 o' PE ?_
   rcases KW with hf|hf
   ·unfold MSpec.flat at hf
    simp only [Bool.and_eq_true] at hf
    exact Ha.any s.ins 0 o' hf.2 io1
   ·exact Ha.Eu (λb hb=>hDO hf b (hDD b hb)) s.ins 0 o' io1
  have p1:Ev w' (dv S π ρ) ρ 0 s.outs r' (bv++pB):=by
   have p1:Ev w' (λb=>Oi Vk b\/Sg b) ρ 0 s.outs r' (bv++pB):=Ev.GK s.outs 0 r' _ (λj _ hj=>YF j (by omega)) p1
   rcases KW with hf|hf
   ·unfold MSpec.flat at hf
    simp only [Bool.and_eq_true] at hf
    exact Ev.any s.outs 0 r' (bv++pB) hf.1 p1
   ·exact Ev.Eu (λb hb=>hDO hf b (hDD b hb)) s.outs 0 r' (bv++pB) p1
  refine ⟨v,bv++pB,ρ,h'.2.defers,hv,?_,Acb pB,⟨h'.1.below.os,h'.1.below.tape,h'.1.below.output,h'.1.below.size,λk hk hn=>h'.1.below.block k hk λho=>hn ((Xw k).1 ho)⟩,io1,p1,⟨λl0 q b h1 h2=>?_,p4'⟩,λl0 RR=>?_,λkj FN=>?_⟩
  ·rw [WI]
   unfold lE
   rcases PN with ⟨h1,_,_,h2⟩|⟨tid,m,q,h1,_,_,h3,_,h4,h5,h6,h7⟩
   ·rw [h1];exact h2
   ·rw [h1];exact ⟨q,by rw [SL,h3],h4,h5,h6,h7⟩
  ·obtain ⟨m,UT,p,hm2,hm3,_,RS⟩:=p3' l0 q b h1 h2
   obtain ⟨k1,k2⟩:=h'.1.place m p b hm2 hm3
   refine ⟨k2,k1.imp id λ⟨c0,q0,h5,h6⟩=>?_⟩
   have Gu:c0<Aj:=Classical.byContradiction λhn=>by
    obtain ⟨Fe,rR⟩:=AJ c0 q0 (by omega) h5
    have hs:=h'.1.ca c0 (by omega) Fe
    have hs:Ug ((kx c0).map full) (Vk c0):=hs
    rw [h5] at hs
    cases tT:Vk c0 with
    |none=>rw [tT] at hs;exact hs.elim
    |some q1=>
     rw [tT] at hs
     have hf1:q1.Ay b:=(hs.2.2.2 b).1 h6
     have:=h'.1.inj c0 m q1 p b tT hm2 (h'.1.sub c0 q1 b tT hf1) hm3
     subst this
     rcases RS with RS|RS
     ·rcases rR with rR|⟨b1,GQ,hb2⟩
      ·exact n3 c0 UT c0 rR rfl
      ·obtain ⟨b2,hb3,hb4⟩:=mT s.outs _ _ _ xR c0 RS
       rw [GQ] at hb3;cases hb3
       exact hb4 hb2
     ·exact hn RS
   refine ⟨c0,q0,Gu,?_,h6⟩
   rcases ES c0 q0 h5 with ⟨h7,_⟩|⟨_,h7,_⟩
   ·exact h7
   ·omega
  ·cases hp:ρ l0 with
   |none=>rfl
   |some q=>
    rcases oe l0 q hp with ⟨e,h3⟩|⟨_,h3⟩
    ·refine absurd e (RR _ ?_)
     rcases PN with ⟨_,_,h4,_⟩|⟨tid,m,q',h4,_⟩
     ·rw [h4] at h3;cases h3
     ·unfold MSpec.Nj;rw [h4];simp
    ·obtain ⟨j,_,j2,j3⟩:=p2 l0 q h3
     exact absurd j3 (RR j (by unfold MSpec.Nj;omega))
  ·obtain ⟨l0,off,len,e,te,rows,out,p,q1,q2,q3,q4,q5⟩:=qh qa kj FN
   have hj:kj.2<s.outs.length:=by
    rw [<-qv s.outs _ _ _ xR]
    exact (List.getElem?_eq_some_iff.1 q1).1
   have e1:=p5 kj.2 l0 off len e te rows out (some p) q1 q2
   rw [Nat.zero_add] at e1
   rw [YF _ hj,e1]
   have hk:=((h'.1.heap l0).Ma q2).2
   obtain ⟨l1,n1⟩:=p
   simp only [KeptAt] at hk
   dsimp only at q3 q4
   subst q3
   have CC:π0 (Bu false kj.1)=(π (Bu false kj.1)).map full:=by
    show (if s.ptr.isSome=true/\Bu false kj.1=Lp then _ else π (Bu false kj.1)).map full=_
    rw [if_neg λh=>XW false kj.1 q5 h.2]
   rw [CC] at hk
   unfold tZ
   cases hp:π (Bu false kj.1) with
   |none=>
    rw [hp] at hk
    cases tT:Vk l0 with
    |none=>trivial
    |some q=>rw [tT] at hk;exact hk.elim
   |some q0=>
    rw [hp] at hk
    cases tT:Vk l0 with
    |none=>rw [tT] at hk;exact hk.elim
    |some q=>
     rw [tT] at hk
     obtain ⟨k1,k2,k3,k4⟩:=hk
     exact ⟨k1,k2,k3,λj hj hc=>k4 j (by omega) hc⟩
 refine calls_of_wp hf hb ?_
 refine (nq hT Mb hm he _ w _ h0 λe st a' w' ⟨Fe,kK⟩ h'=>?_).1
 obtain ⟨v,Sh,ρ,p1,p2,p3⟩:=fin st a' w' kK h'
 cases e with
 |normal=>exact ⟨p1,v,p2,v,Sh,ρ,rfl,p3⟩
 |ret=>exact ⟨p1,v,p2,v,Sh,ρ,rfl,p3⟩
 |exit id=>exact absurd rfl (Fe id)
end
end Go.Proofs.Ytjbdmibbbpdnnaa
