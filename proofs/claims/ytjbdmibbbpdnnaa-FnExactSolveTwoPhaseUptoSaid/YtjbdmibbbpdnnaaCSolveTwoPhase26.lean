/-
  Part 27 of the proof that the statement FnExactSolveTwoPhase holds.
-/
import Derived.Test.YtjbdmibbbpdnnaaCSolveTwoPhase25
namespace Go.Proofs.Ytjbdmibbbpdnnaa
open Go.RowKit
section
variable {P:Program} {T:Tab} {Γ:Env} {X:Ctx} {w w':World} {π:Pi} {H:List (Nat×OB)}
theorem o5: ∀(cs:List (Bool×CK)) (k:Nat) (x:Ins.den cs) (l:Nat),Ag (Tj k cs x) l≠none-> ∃b j,k<=j/\j<k+cs.length/\l=Cb b j
 | [],_,_,_,h=>absurd rfl h
 |p::r,k,x,l,h=>by
  simp only [Tj] at h
  by_cases e:l=Cb p.1 k
  ·exact ⟨p.1,k,Nat.le_refl _,by simp,e⟩
  ·have:Ag (Tj (k+1) r x.2) l≠none:=by
    cases hc:eT (Cb p.1 k) p.2 x.1 with
    |none=>rw [hc] at h;exact h
    |some b=>rw [hc] at h;simpa only [cH,Ag,if_neg (Ne.symm e)] using h
   obtain ⟨b,j,h1,h2,h3⟩:=o5 r (k+1) x.2 l this
   exact ⟨b,j,by omega,by simp;omega,h3⟩
theorem GU {p:Bool×CK} {r:List (Bool×CK)} {k:Nat} {x:Ins.den (p::r)} (hk:k+(r.length+1)<100000) {l:Nat} {b:OB} (h:Ag (Tj (k+1) r x.2) l=some b):Ag (Tj k (p::r) x) l=some b:=by
 obtain ⟨b',j,h1,h2,rfl⟩:=o5 r (k+1) x.2 l (by rw [h];simp)
 simp only [Tj]
 cases eT (Cb p.1 k) p.2 x.1 with
 |none=>exact h
 |some c=>simp only [cH,Ag];rw [if_neg (FB (by omega) (by omega) (by omega))];exact h
theorem KU {D:Nat->Prop} (hD: ∀b,Bi X.w0.heap.size X.Sc π false b->D b) (YV:X.w0=w) {l:Nat} {r:Option Real} (Zs:X.dv l=r.map full) {u:Value} {c:CK} {x:c.den} (h:ar w D r u c x) {b:OB} (hb:eT l c x=some b):Ay X w π H (r.map full) b:=by
 have Tg: ∀ {e:Ty} {es:List Value} {y:e.den},Cells w D e es y->Cells w (Bi X.w0.heap.size X.Sc π false) e es y:= λ {e es y} h=>Cells.Cz (Nat.le_refl _) (λ_ _ _=>rfl) (λb _ hb=>hD b hb) e es y h
 cases c with
 |Dy τ=>cases hb
 |row e te=>
  simp only [eT,Option.some.injEq] at hb;subst hb
  obtain ⟨_,h⟩:=h
  simp only [bF] at h
  simp only [Ay,Fz]
  cases r with
  |none=>exact h
  |some q=>
   obtain ⟨k1,cu,ti,k2,k3,k4,k5,k6⟩:=h
   exact ⟨⟨k1.1,k1.2,λh=>by cases h⟩,cu,ti,k2,k3,k4,k5,λi y hy=>by
    obtain ⟨es,g1,g2,g3⟩:=k6 i y hy
    exact ⟨es,g1,g2,Tg g3⟩,λh=>by cases h⟩
 |Dx e te=>
  simp only [eT,Option.some.injEq] at hb;subst hb
  cases r<;>exact h.2
 |part e te=>
  simp only [eT,Option.some.injEq] at hb;subst hb
  obtain ⟨_,hf,h⟩:=h
  simp only [Ay,Fz]
  cases r with
  |none=>exact h
  |some q=>
   obtain ⟨k1,cu,ti,k2,k3,k4,k5,k6⟩:=h
   exact ⟨⟨k1.1,k1.2,λh=>by cases h⟩,cu,ti,k2,k3,k4,k5,λi y hy=>by
    obtain ⟨es,g1,g2,g3⟩:=k6 i y hy
    exact ⟨es,g1,g2,Tg g3⟩,λh=>by cases h⟩
 |Ao e te kp=>
  simp only [eT,Option.some.injEq] at hb;subst hb
  have h2:Ue w D r e x none:=h.2
  have h3:=Ue.Fe h2 hD
  refine ⟨by cases r<;>exact h3,?_⟩
  cases kp with
  |false=>trivial
  |true=>
   simp only [if_true,KeptAt]
   rw [Zs]
   cases r with
   |none=>trivial
   |some q=>exact ⟨rfl,rfl,rfl,λj _ _=>by rw [YV]⟩
theorem gG {D:Nat->Prop} (hD: ∀b,Bi X.w0.heap.size X.Sc π false b->D b) (YV:X.w0=w) {π0:Pi} (Zs: ∀l,X.dv l=(π0 l).map full): ∀(cs:List (Bool×CK)) (k:Nat) (x:Ins.den cs) (us:List Value),au w D π0 k cs x us-> ∀l b,Ag (Tj k cs x) l=some b->Ay X w π H ((π0 l).map full) b
 | [],_,_,_,_,_,_,h=>by cases h
 |_::_,_,_,[],h,_,_,_=>h.elim
 |p::r,k,x,u::us,h,l,b,hb=>by
  simp only [Tj] at hb
  cases hc:eT (Cb p.1 k) p.2 x.1 with
  |none=>rw [hc] at hb;exact gG hD YV Zs r (k+1) x.2 us h.2 l b hb
  |some c=>
   rw [hc] at hb
   simp only [cH,Ag] at hb
   split at hb
   ·rename_i e;subst e
    simp only [Option.some.injEq] at hb;subst hb
    exact KU hD YV (Zs _) h.1 hc
   ·exact gG hD YV Zs r (k+1) x.2 us h.2 l b hb
theorem x5 {S:Nat->Prop} {π0:Pi} {gv:Nat->Prop} {dv:Pi} (Zr: ∀l,π l=(π0 l).map full): ∀(cs:List (Bool×CK)) (k:Nat) (x:Ins.den cs) (us:List Value),k+cs.length<100000->au w (λb=>Pq π0 b\/S b) π0 k cs x us->(∀l b,Ag (Tj k cs x) l=some b->Ag H l=some b)->
  Iq ⟨w,S,gv,dv⟩ w π H (Wc k cs x) us
 | [],_,_,[],_,_,_=>trivial
 | [],_,_,_::_,_,h,_=>h.elim
 |_::_,_,_,[],_,h,_=>h.elim
 |p::r,k,x,u::us,hk,h,hH=>by
  simp only [List.length_cons] at hk
  refine ⟨?_,x5 Zr r (k+1) x.2 us (by omega) h.2 λl b hb=>hH l b (GU hk hb)⟩
  have h1:=h.1
  have hh: ∀b,eT (Cb p.1 k) p.2 x.1=some b->Ag H (Cb p.1 k)=some b:= λb hb=>hH _ b (by simp only [Tj];rw [hb];simp [cH,Ag])
  have cZ:=Zr (Cb p.1 k)
  obtain ⟨io,c⟩:=p
  dsimp only at h1 hh cZ⊢
  generalize x.1=y at*
  cases c with
  |Dy τ=>
   show Bh w _ τ u y
   cases hf:τ.flat with
   |true=>exact Bh.flat hf h1.2
   |false=>
    refine h1.2.Fe λb _ hb=>?_
    rcases hb with ⟨l,q,h3,h4⟩|hb|⟨hb,_⟩
    ·rw [Zr l] at h3
     cases hp:π0 l with
     |none=>rw [hp] at h3;cases h3
     |some q0=>rw [hp] at h3;simp only [Option.map_some,Option.some.injEq] at h3;subst h3;exact .inl ⟨l,q0,hp,h4⟩
    ·exact .inr hb
    ·cases hb
  |row e te=>exact ⟨_,e.size,List.length y,hh _ rfl,rfl,by simp,by rw [cZ];exact Tn h1.1⟩
  |Dx e te=>exact ⟨_,e.size,List.length y,hh _ rfl,rfl,by simp,by rw [cZ];exact Tn h1.1⟩
  |part e te=>exact ⟨_,e.size,List.length y.1,hh _ rfl,rfl,h1.1.2,by rw [cZ];exact Tn h1.1.1⟩
  |Ao e te kp=>exact ⟨_,1,List.length y,hh _ rfl,rfl,by simp,by rw [cZ];exact Tn h1.1⟩
theorem kC {p:Real} {s off len:Nat} {u:Value} {f:Nat->Prop} (h:Ea (some p) s off len u):Ea (some ⟨p.g,p.o+off,p.cap-off,f,f⟩) s 0 len u:=by
 obtain ⟨ad,h1,h2,h3⟩:=h
 exact ⟨ad,h1,by dsimp only;omega,λh0=>by dsimp only at h0;simpa using h3 (by omega)⟩
theorem oH {α:Type} {xs:List α} {off len i:Nat} {x:α} (h:((xs.drop off).take len)[i]?=some x):xs[off+i]?=some x:=by
 rw [List.getElem?_take] at h
 split at h
 ·rw [List.getElem?_drop] at h;exact h
 ·cases h
theorem Rc.part {P:Nat->Prop} {g o:Nat} {cur:Array Value} {e:Ty} {xs:List e.den} (off len:Nat) (h:Rc w P g o cur e xs):Rc w P g (o+off) cur e ((xs.drop off).take len):=by
 obtain ⟨Fs,t1,t2,t3,t4⟩:=h
 refine ⟨(Fs.drop off).take len,by simp [t1],List.nodup_cons.2 ⟨λhm=>(List.nodup_cons.1 t2).1 (Mp off len _ hm),gN off len (List.nodup_cons.1 t2).2⟩,λb hb=>t3 b (Mp off len b hb),λi x F hx hF=>?_⟩
 obtain ⟨es,k1,k2,k3⟩:=t4 (off+i) x F (oH hx) (oH hF)
 exact ⟨es,k1,λj u hu=>by rw [Nat.add_assoc o off i];exact k2 j u hu,k3⟩
theorem HN {st:St} (h:Il X w π st.heap) {c:CK} (hg: ∀e te kp,c≠ .Ao e te kp) {a:AC} {u:Value} (hu:Ec X w π st.heap a u) {x:c.den} {ls:List Nat} (he:eY st c a=some (x,ls)):
  ∃r,ar w (λb=>Pq π b\/X.Sc b) r u c x/\ ∀q,r=some q-> ∃l p,ls= [l]/\π l=some p/\(∀b,q.Bc b->p.cl b)/\(c.WD=false-> ∀b,q.Bc b->p.Bc b):=by
 have LK: ∀ {f:Bool} (b:Nat),(Pq π b\/X.Sc b)->Bi X.w0.heap.size X.Sc π f b:= λb h=>h.imp id .inl
 cases c with
 |Dy τ=>
  simp only [eY] at he
  split at he
  ·rename_i hf
   cases hv:Bv st τ a with
   |none=>rw [hv] at he;cases he
   |some p=>
    obtain ⟨fr,y⟩:=p
    rw [hv] at he
    simp only [Option.map_some,Option.some.injEq,Prod.mk.injEq] at he
    obtain ⟨rfl,rfl⟩:=he
    refine ⟨none,⟨rfl,?_⟩,λq hq=>by cases hq⟩
    have Fe: ∀f,Bh w (Bi X.w0.heap.size X.Sc π f) τ u y->Bh w (λb=>Pq π b\/X.Sc b) τ u y:= λf hr=>hr.Fe λk _ hk=>LK k hk
    cases a with
    |data f Js z=>
     rw [Ji] at hv
     split at hv
     ·rename_i ht;subst ht
      simp only [Option.some.injEq,Prod.mk.injEq] at hv
      obtain ⟨_,rfl⟩:=hv
      exact Fe f hu
     ·have Qv:τ.Ac=false:=by unfold cJ at hv;split at hv<;>first|rfl|cases hv
      exact Fe _ ⟨[u],Yf hv hu,by simp [Av,Qv]⟩
    |Ie=>
     have hu:u= .slice none 0 0:=hu
     subst hu
     cases τ<;>simp only [Bv,Option.some.injEq,Prod.mk.injEq,reduceCtorEq] at hv
     ·obtain ⟨_,rfl⟩:=hv;exact ⟨[_],⟨none,0,0,rfl,rfl,Nat.le_refl _, .inl rfl⟩,rfl⟩
     ·obtain ⟨_,rfl⟩:=hv;exact ⟨[_], .inl ⟨rfl,0,rfl⟩,rfl⟩
    |Rr=>
     have hu:u= .pointer none:=hu
     subst hu
     cases τ<;>simp only [Bv,Option.some.injEq,Prod.mk.injEq,reduceCtorEq] at hv
     obtain ⟨_,rfl⟩:=hv;exact ⟨[_], .inl ⟨rfl,rfl⟩,rfl⟩
    |_=>cases τ<;>simp [AC.settled,Ty.flat,Bv] at hf hv
  ·cases he
 |row e te=>
  cases a<;>simp only [eY] at he<;>try (cases he;done)
  ·simp only [Option.some.injEq,Prod.mk.injEq] at he
   obtain ⟨rfl,rfl⟩:=he
   have hu:u= .slice none 0 0:=hu
   exact ⟨none,⟨⟨hu,rfl,rfl⟩,rfl⟩,λq hq=>by cases hq⟩
  ·rename_i l off len
   split at he
   ·rename_i fr tr e' Lw xs hl
    split at he
    ·rename_i hc
     obtain ⟨rfl,rfl⟩:=hc
     simp only [Option.some.injEq,Prod.mk.injEq] at he
     obtain ⟨rfl,rfl⟩:=he
     unfold St.at at hl
     obtain ⟨h1,h2⟩:=Jx hu hl
     have hb:=(h.heap l).Na hl
     simp only [Ay,Fz] at hb
     have hlen:((xs.drop off).take len).length=len:=by simp;omega
     cases hp:π l with
     |none=>
      rw [hp] at h2 hb
      obtain ⟨rfl,rfl,rfl⟩:=h2
      exact ⟨none,⟨⟨rfl,rfl,by simp⟩,by show (xs.drop 0).take 0= [];simp⟩,λq hq=>by cases hq⟩
     |some p=>
      rw [hp] at h2 hb
      obtain ⟨k1,cur,ti,k2,k3,k4,k5,k6,_⟩:=hb
      have ho:=h2
      obtain ⟨ad,_,nT,_⟩:=h2
      refine ⟨some ⟨p.g,p.o+off,p.cap-off,p.Bc,p.Bc⟩,⟨by rw [hlen];exact kC ho,⟨k1.1,k1.2.1⟩,cur,ti,k2,by rw [k3];congr 1;dsimp only;omega,by dsimp only;omega,by rw [hlen];dsimp only;omega,λi y hy=>?_⟩,
       fun q hq=>by cases hq;exact ⟨l,p,rfl,hp,λb hb=>h.sub l p b hp hb,λ_ b hb=>hb⟩⟩
      obtain ⟨es,g1,g2,g3⟩:=k6 (off+i) y (oH hy)
      exact ⟨es,g1,λj u hu=>by dsimp only;rw [Nat.add_assoc p.o off i];exact g2 j u hu,Cells.Cz (Nat.le_refl _) (λ_ _ _=>rfl) (λb _ hb=>LK b hb) e' es y g3⟩
    ·cases he
   ·cases he
 |Dx e te=>
  cases a<;>simp only [eY] at he<;>try (cases he;done)
  ·simp only [Option.some.injEq,Prod.mk.injEq] at he
   obtain ⟨rfl,rfl⟩:=he
   have hu:u= .slice none 0 0:=hu
   exact ⟨none,⟨⟨hu,rfl,rfl⟩,rfl⟩,λq hq=>by cases hq⟩
  ·rename_i l off len
   split at he
   ·rename_i fr tr e' Lw xs hl
    split at he
    ·rename_i hc
     obtain ⟨rfl,rfl,hf⟩:=hc
     simp only [Option.some.injEq,Prod.mk.injEq] at he
     obtain ⟨rfl,rfl⟩:=he
     unfold St.at at hl
     obtain ⟨h1,h2⟩:=Jx hu hl
     have hb:=(h.heap l).Na hl
     simp only [Ay,Fz] at hb
     have hlen:((xs.drop off).take len).length=len:=by simp;omega
     cases hp:π l with
     |none=>
      rw [hp] at h2 hb
      obtain ⟨rfl,rfl,rfl⟩:=h2
      exact ⟨none,⟨⟨rfl,rfl,by simp⟩,by show (xs.drop 0).take 0= [];simp⟩,λq hq=>by cases hq⟩
     |some p=>
      rw [hp] at h2 hb
      obtain ⟨k1,cur,ti,k2,k3,k4,k5,k6,k7⟩:=hb
      have ho:=h2
      obtain ⟨ad,_,nT,_⟩:=h2
      have ht:Rc w p.cl p.g p.o cur e' xs:=by
       simp only [Bool.or_eq_true] at hf
       rcases hf with hf|hf
       ·exact k7 hf
       ·exact iM hf k6
      exact ⟨some ⟨p.g,p.o+off,p.cap-off,p.cl,p.cl⟩,⟨by rw [hlen];exact kC ho,h.sub l p _ hp k1.1,cur,ti,k2,by rw [k3];congr 1;dsimp only;omega,by dsimp only;omega,by rw [hlen];dsimp only;omega,ht.part off len⟩,
       fun q hq=>by cases hq;exact ⟨l,p,rfl,hp,λb hb=>hb,λhx=>by cases hx⟩⟩
    ·cases he
   ·rename_i e' Lw xs hl
    split at he
    ·rename_i hc
     obtain ⟨rfl,rfl⟩:=hc
     simp only [Option.some.injEq,Prod.mk.injEq] at he
     obtain ⟨rfl,rfl⟩:=he
     unfold St.at at hl
     obtain ⟨h1,h2⟩:=Wp hu hl
     have hb:=(h.heap l).Na hl
     simp only [Ay,Jj] at hb
     have hlen:((xs.drop off).take len).length=len:=by simp;omega
     cases hp:π l with
     |none=>
      rw [hp] at h2 hb
      obtain ⟨rfl,rfl,rfl⟩:=h2
      exact ⟨none,⟨⟨rfl,rfl,by simp⟩,by show (xs.drop 0).take 0= [];simp⟩,λq hq=>by cases hq⟩
     |some p=>
      rw [hp] at h2 hb
      obtain ⟨k1,cur,ti,k2,k3,k4,k5,ht⟩:=hb
      have ho:=h2
      obtain ⟨ad,_,nT,_⟩:=h2
      exact ⟨some ⟨p.g,p.o+off,p.cap-off,p.Bc,p.Bc⟩,⟨by rw [hlen];exact kC ho,k1,cur,ti,k2,by rw [k3];congr 1;dsimp only;omega,by dsimp only;omega,by rw [hlen];dsimp only;omega,ht.part off len⟩,
       fun q hq=>by cases hq;exact ⟨l,p,rfl,hp,λb hb=>h.sub l p b hp hb,λ_ b hb=>hb⟩⟩
    ·cases he
   ·cases he
 |part e te=>cases a<;>simp [eY] at he
 |Ao e te kp=>exact absurd rfl (hg e te kp)
theorem NO {st:St} (h:Il X w π st.heap) {c:CK} {a:AC} {u:Value} (hu:Ec X w π st.heap a u) {x:c.den} {ls:List Nat} (he:eY st c a=some (x,ls)):
  ∃r,ar w (λb=>Pq π b\/X.Sc b) r u c x/\(∀q,r=some q-> ∃l p,ls= [l]/\π l=some p/\(∀b,q.Bc b->p.cl b)/\(c.WD=false-> ∀b,q.Bc b->p.Bc b))/\
   (∀l off len e te rows out kp,a= .own l off len->Ag st.heap l=some (.Ao e te rows out kp)->r=π l):=by
 have pO:(∀e te kp,c≠ .Ao e te kp)->(∀l off len e te rows out kp,a=AC.own l off len->Ag st.heap l=some (OB.Ao e te rows out kp)->False)->
   ∃r,ar w (λb=>Pq π b\/X.Sc b) r u c x/\(∀q,r=some q-> ∃l p,ls= [l]/\π l=some p/\(∀b,q.Bc b->p.cl b)/\(c.WD=false-> ∀b,q.Bc b->p.Bc b))/\
   (∀l off len e te rows out kp,a= .own l off len->Ag st.heap l=some (.Ao e te rows out kp)->r=π l):= λh1 h2=>by
  obtain ⟨r,g1,g2⟩:=HN h h1 hu he
  exact ⟨r,g1,g2,λl off len e te rows out kp h3 h4=>(h2 l off len e te rows out kp h3 h4).elim⟩
 cases c with
 |Dy τ=>
  refine pO (λ_ _ _ h=>by cases h) λl off len e te rows out kp h3 h4=>?_
  subst h3
  simp only [eY] at he
  split at he
  ·rename_i hf
   cases τ<;>simp [AC.settled,Ty.flat,Bv] at hf he
  ·cases he
 |row e te=>
  refine pO (λ_ _ _ h=>by cases h) λl off len e te rows out kp h3 h4=>?_
  subst h3
  simp only [eY,St.at,h4] at he
  cases he
 |Dx e te=>
  refine pO (λ_ _ _ h=>by cases h) λl off len e te rows out kp h3 h4=>?_
  subst h3
  simp only [eY,St.at,h4] at he
  cases he
 |part e te=>cases a<;>simp [eY] at he
 |Ao e te kp=>
  cases a<;>simp only [eY] at he<;>try (cases he;done)
  rename_i l off len
  split at he
  ·rename_i e' Lw rows kp' hl
   split at he
   ·rename_i hc
    obtain ⟨rfl,rfl,rfl,rfl⟩:=hc
    simp only [Option.some.injEq,Prod.mk.injEq] at he
    obtain ⟨rfl,rfl⟩:=he
    unfold St.at at hl
    obtain ⟨b,sz,n,h1,h2,_,h3⟩:=hu
    rw [hl] at h1;cases h1
    simp only [OB.row,Option.some.injEq,Prod.mk.injEq] at h2
    obtain ⟨rfl,rfl⟩:=h2
    have hb:=((h.heap l).Na hl).1
    refine ⟨π l,⟨h3,Ue.Fe hb λb hb=>hb.imp id .inl⟩,λq hq=>⟨l,q,rfl,hq,λb hb=>h.sub l q b hq hb,λ_ b hb=>hb⟩,λl' Ap8 Ap3 _ _ _ _ _ he _=>?_⟩
    simp only [AC.own.injEq] at he
    rw [he.1]
   ·cases he
  ·cases he
theorem Ff.congr {D:Nat->Prop} {ρ ρ':Pi} : ∀(cs:List CK) (k:Nat) (x:CKs.den cs) (us:List Value),(∀j,k<=j->ρ' (Gc j)=ρ (Gc j))->Ff w D ρ k cs x us->Ff w D ρ' k cs x us
 | [],_,_,[],_,h=>h
 | [],_,_,_::_,_,h=>h.elim
 |_::_,_,_,[],_,h=>h.elim
 |c::r,k,x,u::us,he,h=>⟨by rw [he k (Nat.le_refl _)];exact h.1,Ff.congr r (k+1) x.2 us (λj hj=>he j (by omega)) h.2⟩
theorem rY {st:St} (h:Il X w π st.heap): ∀(cs:List CK) (k:Nat) (as:List AC) (us:List Value) (x:CKs.den cs) (ls:List Nat),Iq X w π st.heap as us->Pf st cs as=some (x,ls)->ls.Nodup->
  ∃ρ:Pi,Ff w (λb=>Pq π b\/X.Sc b) ρ k cs x us/\(∀l q,ρ l=some q-> ∃j,k<=j/\j<k+cs.length/\l=Gc j)/\(∀l q b,ρ l=some q->q.Bc b-> ∃l0∈ls,∃p,π l0=some p/\p.cl b/\((cs.all λc=>!c.WD)=true->p.Bc b))/\
   (∀l l' q q' b,ρ l=some q->ρ l'=some q'->q.Bc b->q'.Bc b->l=l')/\
   (∀(j l off len:Nat) e te rows out kp,as[j]?=some (.own l off len)->Ag st.heap l=some (.Ao e te rows out kp)->ρ (Gc (k+j))=π l)
 | [],k,[],[],x,ls,_,he,_=>by
  simp only [Pf,Option.some.injEq,Prod.mk.injEq] at he
  exact ⟨λ_=>none,trivial,(λl q h=>by cases h),(λl q b h=>by cases h),(λl l' q q' b h=>by cases h),λj l off len e te rows out kp h=>by simp at h⟩
 | [],_,[],_::_,_,_,h,_,_=>h.elim
 | [],_,_::_,_,_,_,_,he,_=>by simp [Pf] at he
 |_::_,_,[],_,_,_,_,he,_=>by simp [Pf] at he
 |_::_,_,_::_,[],_,_,h,_,_=>h.elim
 |c::r,k,a::as,u::us,x,ls,hr,he,q9=>by
  simp only [Pf] at he
  split at he
  ·rename_i x1 t1 x2 t2 h1 h2
   simp only [Option.some.injEq,Prod.mk.injEq] at he
   obtain ⟨rfl,rfl⟩:=he
   obtain ⟨n1,n2,n3⟩:=List.nodup_append.1 q9
   obtain ⟨ρ,g1,g2,g3,g4,g5⟩:=rY h r (k+1) as us x2 t2 hr.2 h2 n2
   obtain ⟨rr,r1,r2,r3⟩:=NO h hr.1 h1
   have wy: ∀l q q0 b,ρ l=some q->rr=some q0->q.Bc b->q0.Bc b->False:= λl q q0 b h3 h4 h5 h6=>by
    obtain ⟨l0,m0,p,p1,p2,_⟩:=g3 l q b h3 h5
    obtain ⟨l1,p',e1,p1',p2',_⟩:=r2 q0 h4
    have:=h.inj l0 l1 p p' b p1 p1' p2 (p2' b h6)
    exact n3 l1 (by rw [e1];simp) l0 m0 this.symm
   refine ⟨λl=>if l=Gc k then rr else ρ l,⟨by simpa using r1,Ff.congr r (k+1) x2 us (λj hj=>if_neg (by unfold Gc;omega)) g1⟩,λl q hq=>?_,λl q b hq hb=>?_,λl l' q q' b h3 h4 h5 h6=>?_,λj l off len e te rows out kp hj hl=>?_⟩
   ·dsimp only at hq
    by_cases e:l=Gc k
    ·exact ⟨k,Nat.le_refl _,by simp,e⟩
    ·rw [if_neg e] at hq
     obtain ⟨j,j1,j2,j3⟩:=g2 l q hq
     exact ⟨j,by omega,by simp;omega,j3⟩
   ·dsimp only at hq
    by_cases e:l=Gc k
    ·rw [if_pos e] at hq
     obtain ⟨l1,p',e1,p1',p2',p3'⟩:=r2 q hq
     exact ⟨l1,by rw [e1];simp,p',p1',p2' b hb,λhx=>p3' (by simp only [List.all_cons,Bool.and_eq_true,Bool.not_eq_true'] at hx;exact hx.1) b hb⟩
    ·rw [if_neg e] at hq
     obtain ⟨l0,m0,p,p1,p2,p3⟩:=g3 l q b hq hb
     exact ⟨l0,List.mem_append_right _ m0,p,p1,p2,λhx=>p3 (by simp only [List.all_cons,Bool.and_eq_true] at hx;exact hx.2)⟩
   ·dsimp only at h3 h4
    by_cases e:l=Gc k<;>by_cases e':l'=Gc k
    ·rw [e,e']
    ·rw [if_pos e] at h3;rw [if_neg e'] at h4
     exact (wy l' q' q b h4 h3 h6 h5).elim
    ·rw [if_neg e] at h3;rw [if_pos e'] at h4
     exact (wy l q q' b h3 h4 h5 h6).elim
    ·rw [if_neg e] at h3;rw [if_neg e'] at h4
     exact g4 l l' q q' b h3 h4 h5 h6
   ·rcases j with _|j
    ·simp only [List.getElem?_cons_zero,Option.some.injEq] at hj
     show (if Gc k=Gc k then rr else ρ (Gc k))=π l
     rw [if_pos rfl]
     exact r3 l off len e te rows out kp hj hl
    ·have:=g5 j l off len e te rows out kp (by simpa using hj) hl
     show (if Gc (k+(j+1))=Gc k then rr else ρ (Gc (k+(j+1))))=π l
     rw [if_neg (by unfold Gc;omega),<-this,show k+(j+1)=k+1+j by omega]
  ·cases he
theorem yd {r r':Option Real} (h:Vp (r.map full) r') {e:Ty} {xs:List e.den} {te:TypeId} {fr tr:Bool} (ha:Fz X w π r' fr tr e te xs):Nd w (λb=>Pq π b\/X.Sc b) r e xs:=by
 cases r with
 |none=>cases r' with
  |none=>exact ha
  |some q=>exact h.elim
 |some p=>cases r' with
  |none=>exact h.elim
  |some q=>
   obtain ⟨e1,e2,e3,e4⟩:=h
   obtain ⟨k1,cur,ti,k2,k3,k4,k5,k6,_⟩:=ha
   have e1:p.g=q.g:=e1
   have e2:p.o=q.o:=e2
   have e3:p.cap=q.cap:=e3
   refine ⟨⟨by rw [e1];exact (e4 _).2 k1.1,λb hb=>by rw [e1];exact k1.2.1 b ((e4 b).1 hb)⟩,cur,ti,by rw [e1];exact k2,by rw [e2,e3];exact k3,by rw [e3];exact k4,by rw [e3];exact k5,λi y hy=>?_⟩
   obtain ⟨es,g1,g2,g3⟩:=k6 i y hy
   exact ⟨es,g1,by rw [e2];exact g2,Cells.Cz (Nat.le_refl _) (λ_ _ _=>rfl) (λb _ hb=>hb.imp id .inl) e es y g3⟩
theorem IJ {r r':Option Real} (h:Vp (r.map full) r') {e:Ty} {xs:List e.den} {te:TypeId} (ha:Jj w r' e te xs):Jj w r e te xs:=by
 cases r with
 |none=>cases r' with
  |none=>exact ha
  |some q=>exact h.elim
 |some p=>cases r' with
  |none=>exact h.elim
  |some q=>
   obtain ⟨e1,e2,e3,e4⟩:=h
   obtain ⟨k1,cur,ti,k2,k3,k4,k5,Fs,t1,t2,t3,t4⟩:=ha
   have e1:p.g=q.g:=e1
   have e2:p.o=q.o:=e2
   have e3:p.cap=q.cap:=e3
   exact ⟨by rw [e1];exact (e4 _).2 k1,cur,ti,by rw [e1];exact k2,by rw [e2,e3];exact k3,by rw [e3];exact k4,by rw [e3];exact k5,Fs,t1,by rw [e1];exact t2,λb hb=>(e4 b).2 (t3 b hb),by rw [e2];exact t4⟩
theorem Ol {st:St} {π0:Pi} {D:Nat->Prop} {w0:World} (h:Il X w π st.heap) (Zs: ∀l,X.dv l=(π0 l).map full): ∀(cs:List (Bool×CK)) (k:Nat) (x:Ins.den cs) (us:List Value) (o:IOs.den cs),au w0 D π0 k cs x us->Jz st k cs=some o->
  Ht w (λb=>Pq π b\/X.Sc b) π0 k cs o/\ ∀l∈Ko k cs,Ag st.heap l≠none
 | [],_,_,_,_,_,_=>⟨trivial,λl hl=>by cases hl⟩
 |_::_,_,_,[],_,h,_=>h.elim
 |(false,c)::r,k,x,u::us,o,hi,he=>Ol h Zs r (k+1) x.2 us o hi.2 (by simpa only [Jz] using he)
 |(true, .Dy τ)::r,k,x,u::us,o,hi,he=>Ol h Zs r (k+1) x.2 us o hi.2 (by simpa only [Jz] using he)
 |(true, .Ao e te kp)::r,k,x,u::us,o,hi,he=>Ol h Zs r (k+1) x.2 us o hi.2 (by simpa only [Jz] using he)
 |(true, .row e te)::r,k,x,u::us,o,hi,he=>by
  simp only [Jz] at he
  split at he
  ·rename_i x1 x2 h1 h2
   simp only [Option.some.injEq] at he;subst he
   obtain ⟨g1,g2⟩:=Ol h Zs r (k+1) x.2 us x2 hi.2 h2
   have h0:=hi.1
   simp only [lg] at h1
   split at h1
   ·rename_i fr tr e' Lw xs hl
    split at h1
    ·rename_i hc
     obtain ⟨rfl,rfl⟩:=hc
     simp only [Option.some.injEq] at h1;subst h1
     unfold St.at at hl
     have hs:=h.dv (Cb true k) (by have:=Vf k;omega) (by rw [hl];simp)
     rw [Zs] at hs
     exact ⟨⟨yd (te:=Lw) hs ((h.heap _).Na hl),g1⟩,λl Hl=>by
      simp only [Ko] at Hl
      rcases List.mem_cons.1 Hl with rfl|Hl
      ·rw [hl];simp
      ·exact g2 l Hl⟩
    ·cases h1
   ·cases h1
  ·cases he
 |(true, .part e te)::r,k,x,u::us,o,hi,he=>by
  simp only [Jz] at he
  split at he
  ·rename_i x1 x2 h1 h2
   simp only [Option.some.injEq] at he;subst he
   obtain ⟨g1,g2⟩:=Ol h Zs r (k+1) x.2 us x2 hi.2 h2
   have h0:=hi.1
   simp only [lg] at h1
   split at h1
   ·rename_i fr tr e' Lw xs hl
    split at h1
    ·rename_i hc
     obtain ⟨rfl,rfl⟩:=hc
     simp only [Option.some.injEq] at h1;subst h1
     unfold St.at at hl
     have hs:=h.dv (Cb true k) (by have:=Vf k;omega) (by rw [hl];simp)
     rw [Zs] at hs
     exact ⟨⟨yd (te:=Lw) hs ((h.heap _).Na hl),g1⟩,λl Hl=>by
      simp only [Ko] at Hl
      rcases List.mem_cons.1 Hl with rfl|Hl
      ·rw [hl];simp
      ·exact g2 l Hl⟩
    ·cases h1
   ·cases h1
  ·cases he
 |(true, .Dx e te)::r,k,x,u::us,o,hi,he=>by
  simp only [Jz] at he
  split at he
  ·rename_i x1 x2 h1 h2
   simp only [Option.some.injEq] at he;subst he
   obtain ⟨g1,g2⟩:=Ol h Zs r (k+1) x.2 us x2 hi.2 h2
   simp only [lg] at h1
   split at h1
   ·rename_i e' Lw xs hl
    split at h1
    ·rename_i hc
     obtain ⟨rfl,rfl⟩:=hc
     simp only [Option.some.injEq] at h1;subst h1
     unfold St.at at hl
     have hs:=h.dv (Cb true k) (by have:=Vf k;omega) (by rw [hl];simp)
     rw [Zs] at hs
     exact ⟨⟨IJ (te:=Lw) hs ((h.heap _).Na hl),g1⟩,λl Hl=>by
      simp only [Ko] at Hl
      rcases List.mem_cons.1 Hl with rfl|Hl
      ·rw [hl];simp
      ·exact g2 l Hl⟩
    ·cases h1
   ·cases h1
  ·cases he
theorem qj {p:Bool×CK} {r:List (Bool×CK)} (h:Tm (p::r)=true):Tm r=true:=by
 rcases p with ⟨_|_,c⟩<;>cases c<;>first|(simp [Tm] at h;done)|simpa [Tm] using h
theorem rG: ∀(cs:List (Bool×CK)) (k:Nat) (x:Ins.den cs) (l:Nat),Tm cs=true->k+cs.length<100000->Ag (Tj k cs x) l≠none-> ¬l<Am->l∈Ko k cs
 | [],_,_,_,_,_,h,_=>absurd rfl h
 |(io,c)::r,k,x,l,YG,hk,h,hp=>by
  simp only [List.length_cons] at hk
  simp only [Tj] at h
  have tail:Ag (Tj (k+1) r x.2) l≠none->l∈Ko (k+1) r:= λh=>rG r (k+1) x.2 l (qj YG) (by omega) h hp
  have sub: ∀m,m∈Ko (k+1) r->m∈Ko k ((io,c)::r):= λm hm=>by
   cases io<;>cases c<;>simp only [Ko]<;>first|exact hm|exact List.mem_cons_of_mem _ hm
  cases hc:eT (Cb io k) c x.1 with
  |none=>rw [hc] at h;exact sub l (tail h)
  |some b=>
   rw [hc] at h
   simp only [cH,Ag] at h
   split at h
   ·rename_i e;subst e
    cases io with
    |false=>exact absurd (bh (by omega)) hp
    |true=>cases c with
     |Dy τ=>cases hc
     |row e te=>simp [Ko]
     |Dx e te=>simp [Ko]
     |part e te=>simp [Ko]
     |Ao e te kp=>simp [Tm] at YG
   ·exact sub l (tail h)
theorem ar.Fe {D D':Nat->Prop} (hD: ∀b,D' b->D b) {r:Option Real} {u:Value} {c:CK} {x:c.den} (h:ar w D r u c x):ar w D' r u c x:=by
 cases c with
 |Dy τ=>exact ⟨h.1,h.2.Fe λb _ hb=>hD b hb⟩
 |row e te=>exact ⟨h.1,Nd.Fe h.2 hD⟩
 |Dx e te=>exact h
 |part e te=>exact ⟨h.1,h.2.1,Nd.Fe h.2.2 hD⟩
 |Ao e te kp=>exact ⟨h.1,Ue.Fe h.2 hD⟩
theorem Ff.Fe {D D':Nat->Prop} (hD: ∀b,D' b->D b) {ρ:Pi} : ∀(cs:List CK) (k:Nat) (x:CKs.den cs) (us:List Value),Ff w D ρ k cs x us->Ff w D' ρ k cs x us
 | [],_,_,[],h=>h
 | [],_,_,_::_,h=>h.elim
 |_::_,_,_,[],h=>h.elim
 |_c::r,k,x,_u::us,h=>⟨h.1.Fe hD,Ff.Fe hD r (k+1) x.2 us h.2⟩
theorem Ht.Fe {D D':Nat->Prop} (hD: ∀b,D' b->D b) {π:Pi} : ∀(cs:List (Bool×CK)) (k:Nat) (x:IOs.den cs),Ht w D π k cs x->Ht w D' π k cs x
 | [],_,_,h=>h
 |(false,_)::r,k,x,h=>Ht.Fe hD r (k+1) x h
 |(true, .Dy _)::r,k,x,h=>Ht.Fe hD r (k+1) x h
 |(true, .Ao _ _ _)::r,k,x,h=>Ht.Fe hD r (k+1) x h
 |(true, .row _e _te)::r,k,x,h=>⟨Nd.Fe h.1 hD,Ht.Fe hD r (k+1) x.2 h.2⟩
 |(true, .Dx _e _te)::r,k,x,h=>⟨h.1,Ht.Fe hD r (k+1) x.2 h.2⟩
 |(true, .part _e _te)::r,k,x,h=>⟨Nd.Fe h.1 hD,Ht.Fe hD r (k+1) x.2 h.2⟩
theorem au.congr {D:Nat->Prop} {π0 Wy:Pi} : ∀(cs:List (Bool×CK)) (k:Nat) (x:Ins.den cs) (us:List Value),(∀b j,k<=j->j<k+cs.length->Wy (Cb b j)=π0 (Cb b j))->au w D π0 k cs x us->au w D Wy k cs x us
 | [],_,_,[],_,h=>h
 | [],_,_,_::_,_,h=>h
 |_::_,_,_,[],_,h=>h
 |p::r,k,x,u::us,hp,h=>⟨by rw [hp p.1 k (Nat.le_refl _) (by simp)];exact h.1,au.congr r (k+1) x.2 us (λb j h1 h2=>hp b j (by omega) (by simp;omega)) h.2⟩
theorem Ht.congr {D:Nat->Prop} {π0 Wy:Pi} : ∀(cs:List (Bool×CK)) (k:Nat) (x:IOs.den cs),(∀b j,k<=j->j<k+cs.length->Wy (Cb b j)=π0 (Cb b j))->Ht w D π0 k cs x->Ht w D Wy k cs x
 | [],_,_,_,h=>h
 |(false,c)::r,k,x,hp,h=>by cases c<;>exact Ht.congr r (k+1) x (λb j h1 h2=>hp b j (by omega) (by simp;omega)) h
 |(true, .Dy _)::r,k,x,hp,h=>Ht.congr r (k+1) x (λb j h1 h2=>hp b j (by omega) (by simp;omega)) h
 |(true, .Ao _ _ _)::r,k,x,hp,h=>Ht.congr r (k+1) x (λb j h1 h2=>hp b j (by omega) (by simp;omega)) h
 |(true, .row e te)::r,k,x,hp,h=>⟨by rw [hp true k (Nat.le_refl _) (by simp)];exact h.1,Ht.congr r (k+1) x.2 (λb j h1 h2=>hp b j (by omega) (by simp;omega)) h.2⟩
 |(true, .Dx e te)::r,k,x,hp,h=>⟨by rw [hp true k (Nat.le_refl _) (by simp)];exact h.1,Ht.congr r (k+1) x.2 (λb j h1 h2=>hp b j (by omega) (by simp;omega)) h.2⟩
 |(true, .part e te)::r,k,x,hp,h=>⟨by rw [hp true k (Nat.le_refl _) (by simp)];exact h.1,Ht.congr r (k+1) x.2 (λb j h1 h2=>hp b j (by omega) (by simp;omega)) h.2⟩
theorem Ci.congr {π0 Wy:Pi} : ∀(cs:List (Bool×CK)) (k:Nat) (o:IOs.den cs) (n:Nat) (us as:List Value),(∀b j,k<=j->j<k+cs.length->Wy (Cb b j)=π0 (Cb b j))->Ci π0 k cs o n us as->Ci Wy k cs o n us as
 | [],k,o,0,us,as,_,h=>by simpa [Ci] using h
 | [],k,o,n+1,us,as,_,h=>by simp [Ci] at h
 |p::r,k,o,0,us,as,_,h=>by
  rcases p with ⟨_|_,c⟩<;>cases c<;>simpa [Ci] using h
 |(true, .Dy _)::r,k,o,n+1,us,as,_,h=>by simp [Ci] at h
 |(true, .part _ _)::r,k,o,n+1,us,as,_,h=>by simp [Ci] at h
 |(true, .Ao _ _ _)::r,k,o,n+1,us,as,_,h=>by simp [Ci] at h
 |(true, .row e te)::r,k,o,n+1,[],as,_,h=>by simp [Ci] at h
 |(true, .Dx e te)::r,k,o,n+1,[],as,_,h=>by simp [Ci] at h
 |(true, .row e te)::r,k,o,n+1,u::us,as,hp,h=>by
  simp only [Ci] at h⊢
  exact ⟨by rw [hp true k (Nat.le_refl _) (by simp)];exact h.1,Ci.congr r (k+1) o.2 n us as (λb j h1 h2=>hp b j (by omega) (by simp;omega)) h.2⟩
 |(true, .Dx e te)::r,k,o,n+1,u::us,as,hp,h=>by
  simp only [Ci] at h⊢
  exact ⟨by rw [hp true k (Nat.le_refl _) (by simp)];exact h.1,Ci.congr r (k+1) o.2 n us as (λb j h1 h2=>hp b j (by omega) (by simp;omega)) h.2⟩
 |(false,c)::r,k,o,n+1,[],as,_,h=>by cases c<;>simp [Ci] at h
 |(false,c)::r,k,o,n+1,u::us,[],_,h=>by cases c<;>simp [Ci] at h
 |(false,c)::r,k,o,n+1,u::us,a::as,hp,h=>by
  have h:u=a/\Ci π0 (k+1) r o n us as:=by cases c<;>exact h
  have:=Ci.congr r (k+1) o n us as (λb j h1 h2=>hp b j (by omega) (by simp;omega)) h.2
  cases c<;>exact ⟨h.1,this⟩
theorem ly: ∀(A B:List (Nat×OB)) (l:Nat),Ag (A++B) l=match Ag A l with|some b=>some b|none=>Ag B l
 | [],B,l=>rfl
 |(k,b)::A,B,l=>by
  simp only [List.cons_append,Ag]
  split
  ·rfl
  ·exact ly A B l
theorem oD {st:St} : ∀(cs:List CK) (as:List AC) (x:CKs.den cs) (ls:List Nat),Pf st cs as=some (x,ls)-> ∀l∈ls,∃b,Ag st.heap l=some b/\b.row≠none
 | [],[],x,ls,he=>by
  simp only [Pf,Option.some.injEq,Prod.mk.injEq] at he
  obtain ⟨_,rfl⟩:=he
  intro l hl;cases hl
 | [],_::_,_,_,he=>by simp [Pf] at he
 |_::_,[],_,_,he=>by simp [Pf] at he
 |c::r,a::as,x,ls,he=>by
  simp only [Pf] at he
  split at he
  ·rename_i x1 t1 x2 t2 h1 h2
   simp only [Option.some.injEq,Prod.mk.injEq] at he
   obtain ⟨_,rfl⟩:=he
   intro l hl
   rcases List.mem_append.1 hl with hl|hl
   ·unfold eY at h1
    split at h1
    ·split at h1
     ·cases hv:Bv st _ a with
      |none=>rw [hv] at h1;cases h1
      |some p=>rw [hv] at h1;simp only [Option.map_some,Option.some.injEq,Prod.mk.injEq] at h1;obtain ⟨_,rfl⟩:=h1;cases hl
     ·cases h1
    all_goals (repeat' split at h1)
    all_goals first|(cases h1;done)|skip
    all_goals (simp only [Option.some.injEq,Prod.mk.injEq] at h1;obtain ⟨_,rfl⟩:=h1)
    all_goals first|(cases hl;done)|skip
    all_goals (have hl:=List.mem_singleton.1 hl;subst hl)
    all_goals (rename_i heq _;exact ⟨_,heq,by simp [OB.row]⟩)
   ·exact oD r as x2 t2 h2 l hl
  ·cases he
theorem lJ {r r':Option Real} {sz off len:Nat} {v:Value} (h:Vp r r') (hv:Ea r' sz off len v):Ea r sz off len v:=by
 cases r<;>cases r'<;>first|exact h.elim|skip
 ·exact hv
 ·obtain ⟨h1,h2,h3,_⟩:=h
  obtain ⟨ad,g1,g2,g3⟩:=hv
  exact ⟨ad,by rw [h3];exact g1,by rw [h3];exact g2,by rw [h1,h2,h3];exact g3⟩
theorem Sp {st:St} {π0:Pi} (hs: ∀k,Ag st.heap (Cb true k)≠none->Vp ((π0 (Cb true k)).map full) (π (Cb true k))):
  ∀(cs:List (Bool×CK)) (k:Nat) (vs:List AC) (us:List Value) (bc:List AC) (o:IOs.den cs),Iq X w π st.heap vs us->Fh k cs vs=some bc->de st vs cs->Jz st k cs=some o->
   ∃bv,Iq X w π st.heap bc bv/\bv.length=oP cs vs.length/\ ∀tl,Ci π0 k cs o vs.length us (bv++tl)
 |cs,k,[],us,bc,o,hr,he,_,_=>by
  have e1:us= []:=by cases us with|nil=>rfl|cons u us=>exact hr.elim
  have e2:bc= []:=by rcases cs with _|⟨⟨_|_,c⟩,r⟩<;>simpa [Fh] using he.symm
  subst e1;subst e2
  refine ⟨[],trivial,?_,λtl=>?_⟩
  ·rcases cs with _|⟨⟨_|_,c⟩,r⟩<;>rfl
  ·rcases cs with _|⟨⟨_|_,c⟩,r⟩<;>(try cases c)<;>simp [Ci]
 | [],k,a::vs,us,bc,o,hr,he,_,_=>by simp [Fh] at he
 |p::r,k,a::vs,[],bc,o,hr,_,_,_=>hr.elim
 |(false,c)::r,k,a::vs,u::us,bc,o,hr,he,hk,ho=>by
  have he:(Fh (k+1) r vs).map (λl=>a::l)=some bc:=by cases a<;>exact he
  cases hb:Fh (k+1) r vs with
  |none=>rw [hb] at he;cases he
  |some bc'=>
   rw [hb] at he
   simp only [Option.map_some,Option.some.injEq] at he;subst he
   obtain ⟨bv,g1,g2,g3⟩:=Sp hs r (k+1) vs us bc' o hr.2 hb (by cases a<;>exact hk) (by cases c<;>simpa only [Jz] using ho)
   refine ⟨u::bv,⟨hr.1,g1⟩,by simp [oP,g2],λtl=>?_⟩
   have:=g3 tl
   cases c<;>exact ⟨rfl,this⟩
 |(true,c)::r,k,a::vs,u::us,bc,o,hr,he,hk,ho=>by
  cases c with
  |Dy τ=>cases a<;>simp [Fh] at he
  |part e te=>cases a<;>simp [Fh] at he
  |Ao e te kp=>cases a<;>simp [Fh] at he
  |row e te=>
   cases a<;>first|(simp [Fh] at he;done)|skip
   rename_i l off len
   simp only [Fh] at he
   split at he
   rotate_left
   ·cases he
   rename_i hl
   have hl:l=Cb true k:=Nat.eq_of_beq_eq_true hl
   subst hl
   obtain ⟨⟨rfl,hlen⟩,hk⟩:=hk
   obtain ⟨b,sz,n,h1,h2,h3,h4⟩:=hr.1
   have MF:=hs k (by rw [h1];simp)
   simp only [Jz] at ho
   split at ho
   ·rename_i x1 x2 q1 q2
    simp only [Option.some.injEq] at ho;subst ho
    obtain ⟨bv,g1,g2,g3⟩:=Sp hs r (k+1) vs us bc x2 hr.2 he hk q2
    refine ⟨bv,g1,by simpa [oP] using g2,λtl=>?_⟩
    refine ⟨?_,g3 tl⟩
    simp only [lg] at q1
    split at q1
    ·rename_i fr tr e' Lw xs Hl
     split at q1
     ·rename_i hc
      obtain ⟨rfl,rfl⟩:=hc
      simp only [Option.some.injEq] at q1;subst q1
      unfold St.at at Hl hlen
      rw [Hl] at hlen
      rw [h1] at Hl;cases Hl
      simp only [OB.row,Option.some.injEq,Prod.mk.injEq] at h2
      obtain ⟨rfl,rfl⟩:=h2
      have hlen:len=List.length xs:=hlen
      have:=lJ MF h4
      rw [hlen] at this
      have e0:(π0 (Cb true k)).map full=(π0 (Cb true k)).map full:=rfl
      cases hp:π0 (Cb true k)<;>(rw [hp] at this;exact this)
     ·cases q1
    ·cases q1
   ·cases ho
  |Dx e te=>
   cases a<;>first|(simp [Fh] at he;done)|skip
   rename_i l off len
   simp only [Fh] at he
   split at he
   rotate_left
   ·cases he
   rename_i hl
   have hl:l=Cb true k:=Nat.eq_of_beq_eq_true hl
   subst hl
   obtain ⟨⟨rfl,hlen⟩,hk⟩:=hk
   obtain ⟨b,sz,n,h1,h2,h3,h4⟩:=hr.1
   have MF:=hs k (by rw [h1];simp)
   simp only [Jz] at ho
   split at ho
   ·rename_i x1 x2 q1 q2
    simp only [Option.some.injEq] at ho;subst ho
    obtain ⟨bv,g1,g2,g3⟩:=Sp hs r (k+1) vs us bc x2 hr.2 he hk q2
    refine ⟨bv,g1,by simpa [oP] using g2,λtl=>?_⟩
    refine ⟨?_,g3 tl⟩
    simp only [lg] at q1
    split at q1
    ·rename_i e' Lw xs Hl
     split at q1
     ·rename_i hc
      obtain ⟨rfl,rfl⟩:=hc
      simp only [Option.some.injEq] at q1;subst q1
      unfold St.at at Hl hlen
      rw [Hl] at hlen
      rw [h1] at Hl;cases Hl
      simp only [OB.row,Option.some.injEq,Prod.mk.injEq] at h2
      obtain ⟨rfl,rfl⟩:=h2
      have hlen:len=List.length xs:=hlen
      have:=lJ MF h4
      rw [hlen] at this
      cases hp:π0 (Cb true k)<;>(rw [hp] at this;exact this)
     ·cases q1
    ·cases q1
   ·cases ho
def Af5 (s:MSpec) (g:Nat) (π:Pi):Pi:= λl=>if s.ptr.isSome=true/\l=Mm then some ⟨g,0,0,λb=>b=g,λb=>b=g⟩ else π l
def Abs (P:Program) (s:MSpec) (fn:Func) (x:Ins.den s.ins) (w:World) (S:Nat->Prop) (π:Pi) (g:Nat) (r:CKs.den s.outs) (o:IOs.den s.ins) (a':Act) (w':World):Prop:=
 ∃(v:Value) (Tu:List Value) (ρ:Pi),a'.defers= []/\(results fn a'.tmps).run P w'= .ok v w'/\ng s w' ρ (Tu.drop s.Ui) v/\ga s π w' g Tu o/\Gq w.heap.size (λb=>Pq π b\/s.gv g b) w w'/\Ht w' (eS S π ρ) π 0 s.ins o/\Ff w' (eS S π ρ) ρ 0 s.outs r Tu/\
  ct ρ (λb=>b<w'.heap.size/\(w.heap.size<=b\/ ∃l q,l<Am/\π l=some q/\q.Bc b))/\(∀l,(∀k,k<s.Oo->l≠Gc k)->ρ l=none)/\(∀kj∈s.keeps,vU w w' (π (Cb false kj.1)) (ρ (Gc kj.2)) (s.Cz x))
theorem Ff.KW {D:Nat->Prop} {ρ ρ':Pi} : ∀(cs:List CK) (k:Nat) (x:CKs.den cs) (us:List Value),(∀j,k<=j->j<k+cs.length->ρ' (Gc j)=ρ (Gc j))->Ff w D ρ k cs x us->Ff w D ρ' k cs x us
 | [],_,_,[],_,h=>h
 | [],_,_,_::_,_,h=>h.elim
 |_::_,_,_,[],_,h=>h.elim
 |c::r,k,x,u::us,he,h=>⟨by rw [he k (Nat.le_refl _) (by simp)];exact h.1,Ff.KW r (k+1) x.2 us (λj hj hl=>he j (by omega) (by simp;omega)) h.2⟩
theorem rJ {st:St} {n:Nat} {as:List AC} : ∀ {ks:List (Nat×Nat)},rI st n as ks-> ∀kj∈ks,∃l off len e te rows out p,as[kj.2]?=some (.own l off len)/\Ag st.heap l=some (.Ao e te rows out (some p))/\p.1=Cb false kj.1/\n<=p.2/\kj.1<1000
 | [],_,kj,hm=>by cases hm
 |(k,j)::r,h,kj,hm=>by
  simp only [rI] at h
  rcases List.mem_cons.1 hm with rfl|hm
  ·obtain ⟨h,_⟩:=h
   split at h
   ·rename_i l off len he
    split at h
    ·rename_i e te rows out p hl
     unfold St.at at hl
     exact ⟨l,off,len,e,te,rows,out,p,he,hl,h.1,h.2.1,by simpa using h.2.2⟩
    ·exact h.elim
   ·exact h.elim
  ·exact rJ h.2 kj hm
theorem rX {st:St} : ∀(cs:List CK) (as:List AC) (x:CKs.den cs) (ls:List Nat),Pf st cs as=some (x,ls)->as.length=cs.length
 | [],[],_,_,_=>rfl
 | [],_::_,_,_,he=>by simp [Pf] at he
 |_::_,[],_,_,he=>by simp [Pf] at he
 |c::r,a::as,x,ls,he=>by
  simp only [Pf] at he
  split at he
  ·rename_i h1 h2
   simp only [List.length_cons,rX r as _ _ h2]
  ·cases he
theorem yb {α β:Type} (f:α->Sem β): ∀(l:List α) (vs:List β),vs.length=l.length->(∀(i:Nat) a v,l[i]?=some a->vs[i]?=some v->(f a).run P w= .ok v w)->(l.mapM f).run P w= .ok vs w
 | [],[],_,_=>by simp
 | [],_::_,h,_=>by simp at h
 |_::_,[],h,_=>by simp at h
 |a::l,v::vs,h,hr=>by
  rw [List.mapM_cons]
  simp only [Sem.run_bind,hr 0 a v rfl rfl,Result.andThen_ok,yb f l vs (by simpa using h) (λi a' v' ha hv=>hr (i+1) a' v' (by simpa using ha) (by simpa using hv)),Sem.run_pure]
theorem pU (hT:Ch P T) (Nb:Hr P Γ) (hm:P.follows .mixedOrders=true) {f:FuncId} {fn:Func} (hf:P.funcs[f]?=some fn) (s:MSpec) (w:World) (S:Nat->Prop) (π:Pi) (us:List Value) (x:Ins.den s.ins)
  (r:CKs.den s.outs) (o:IOs.den s.ins) (g:Nat) (lf:List Value) (Lq:jJ s w g us lf) (hSg:s.ptr.isSome=true->S g) (Iv:au w (λb=>Pq π b\/S b) π 0 s.ins x us) (cZ:ct π (λb=>b<w.heap.size)) (hS: ∀b,S b->b<w.heap.size/\ ¬Pq π b) (LN: ∀l,Ag (Tj 0 s.ins x) l=none->π l=none) (he:UG T Γ s fn x λz=>z=(r,o)):
  Calls P f lf.toArray w λe w'=> ∃v Tu ρ,e= .returned v/\ng s w' ρ (Tu.drop s.Ui) v/\ga s π w' g Tu o/\Gq w.heap.size (λb=>Pq π b\/s.gv g b) w w'/\Ht w' (eS S π ρ) π 0 s.ins o/\Ff w' (eS S π ρ) ρ 0 s.outs r Tu/\
   ct ρ (λb=>b<w'.heap.size/\(w.heap.size<=b\/ ∃l q,l<Am/\π l=some q/\q.Bc b))/\(∀l,(∀k,k<s.Oo->l≠Gc k)->ρ l=none)/\(∀kj∈s.keeps,vU w w' (π (Cb false kj.1)) (ρ (Gc kj.2)) (s.Cz x)):=by
 obtain ⟨hlen,c,hb,he⟩:=he
 simp only [Bool.and_eq_true,Nat.blt_eq] at hlen
 obtain ⟨hlen,LP⟩:=hlen
 unfold uo at LP
 simp only [Bool.and_eq_true] at LP
 have Ad4:=LP.1
 let ma:Pi:=Af5 s g π
 let Sg:Nat->Prop:= λb=>S b/\ ¬s.gv g b
 have hvl: ∀b j,j<1000->Cb b j≠Mm:= λb j hj=>by cases b<;>(unfold Cb Mm;simp;omega)
 have tw: ∀b j,0<=j->j<0+s.ins.length->ma (Cb b j)=π (Cb b j):= λb j _ hj=>if_neg λh=>hvl b j (by omega) h.2
 have VJ: ∀b j,0<=j->j<0+s.ins.length->π (Cb b j)=ma (Cb b j):= λb j h1 h2=>(tw b j h1 h2).symm
 have YU:Ag (Tj 0 s.ins x) Mm=none:=Classical.byContradiction λhn=>by
  obtain ⟨b,j,_,h2,h3⟩:=o5 s.ins 0 x Mm hn
  exact hvl b j (by omega) h3.symm
 have JF: ∀l q,ma l=some q->(π l=some q/\(s.ptr.isSome=true->l≠Mm))\/(s.ptr.isSome=true/\l=Mm/\q=⟨g,0,0,λb=>b=g,λb=>b=g⟩):= λl q hq=>by
  have hq:(if s.ptr.isSome=true/\l=Mm then some ⟨g,0,0,λb=>b=g,λb=>b=g⟩ else π l)=some q:=hq
  split at hq
  ·rename_i hc;exact .inr ⟨hc.1,hc.2,(Option.some.inj hq).symm⟩
  ·rename_i hc;exact .inl ⟨hq,λh1 h2=>hc ⟨h1,h2⟩⟩
 have Zr: ∀b,Pq ma b↔Pq π b\/s.gv g b:= λb=>by
  constructor
  ·rintro ⟨l,q,h1,h2⟩
   rcases JF l q h1 with ⟨h3,_⟩|⟨h3,h4,rfl⟩
   ·exact .inl ⟨l,q,h3,h2⟩
   ·exact .inr ⟨h3,h2⟩
  ·rintro (⟨l,q,h1,h2⟩|⟨h1,rfl⟩)
   ·refine ⟨l,q,?_,h2⟩
    show (if s.ptr.isSome=true/\l=Mm then _ else π l)=some q
    rw [if_neg]
    ·exact h1
    ·rintro ⟨_,rfl⟩
     rw [LN Mm YU] at h1;cases h1
   ·exact ⟨Mm,⟨b,0,0,λc=>c=b,λc=>c=b⟩,if_pos ⟨h1,rfl⟩,rfl⟩
 have hgS: ∀b,s.gv g b->S b:= λb ⟨h1,h2⟩=>h2▸hSg h1
 have XT:au w (λb=>Pq ma b\/Sg b) ma 0 s.ins x us:=au.congr s.ins 0 x us tw (au.Fe (λb hb=>by
  rcases hb with hb|hb
  ·rcases (Zr b).1 hb with hb|hb
   ·exact .inl hb
   ·exact .inr (hgS b hb)
  ·exact .inr hb.1) s.ins 0 x us Iv)
 have Ad9:ct ma (λb=>b<w.heap.size):=⟨λl q b h1 h2=>by
  rcases JF l q h1 with ⟨h3,_⟩|⟨h3,h4,rfl⟩
  ·exact cZ.Nv l q b h3 h2
  ·exact (hS b (hgS b ⟨h3,h2⟩)).1,λl l' q q' b h1 h2 h3 h4=>by
  rcases JF l q h1 with ⟨h5,_⟩|⟨h5,h6,rfl⟩<;>rcases JF l' q' h2 with ⟨h7,_⟩|⟨h7,h8,rfl⟩
  ·exact cZ.inj l l' q q' b h5 h7 h3 h4
  ·exact absurd ⟨l,q,h5,h3⟩ (hS b (hgS b ⟨h7,h4⟩)).2
  ·exact absurd ⟨l',q',h7,h4⟩ (hS b (hgS b ⟨h5,h3⟩)).2
  ·rw [h6,h8]⟩
 have Ah5: ∀b,Sg b->b<w.heap.size/\ ¬Pq ma b:= λb hb=>⟨(hS b hb.1).1,λho=>((Zr b).1 ho).elim (hS b hb.1).2 hb.2⟩
 have EF: ∀l,Ag (lA s x) l=match Ag (Tj 0 s.ins x) l with|some b=>some b|none=>if l=Mm then s.ptr.map λp=> .var p.1 ((Wc 0 s.ins x).take p.2) else none:= λl=>by
  unfold lA
  cases hp:s.ptr with
  |none=>cases Ag (Tj 0 s.ins x) l<;>simp
  |some p=>
   simp only
   rw [ly]
   cases Ag (Tj 0 s.ins x) l with
   |some b=>rfl
   |none=>
    simp only [Ag,Option.map_some]
    by_cases e:l=Mm
    ·rw [if_pos e,if_pos e.symm]
    ·rw [if_neg e,if_neg (λh=>e h.symm)]
 let π0:Pi:= λl=>(ma l).map full
 have un: ∀l q,π0 l=some q-> ∃q0,ma l=some q0/\q=full q0:= λl q hq=>by
  have hq:(ma l).map full=some q:=hq
  cases hp:ma l with
  |none=>rw [hp] at hq;cases hq
  |some q0=>rw [hp] at hq;exact ⟨q0,rfl,(Option.some.inj hq).symm⟩
 have LS: ∀l b,Ag (Tj 0 s.ins x) l=some b->Ag (lA s x) l=some b:= λl b hb=>by rw [EF l,hb]
 have YO:Iq ⟨w,Sg,Pq ma,π0⟩ w π0 (lA s x) (Wc 0 s.ins x) us:=x5 (λ_=>rfl) s.ins 0 x us (by omega) XT LS
 have MJ:s.ptr.isSome=true->π0 Mm=some ⟨g,0,0,λb=>b=g,λb=>b=g⟩:= λhp=>by
  show (if s.ptr.isSome=true/\Mm=Mm then _ else π Mm).map full=_
  rw [if_pos ⟨hp,rfl⟩];rfl
 obtain ⟨g1,g2⟩:(Uh s (Wc 0 s.ins x)).length=lf.length/\ ∀(i:Nat) c v,(Uh s (Wc 0 s.ins x))[i]?=some c->lf[i]?=some v->Ar ⟨w,Sg,Pq ma,π0⟩ w π0 (lA s x) c v:=by
  unfold jJ at Lq
  cases hp:s.ptr with
  |none=>
   rw [hp] at Lq
   obtain ⟨rfl,EM⟩:=Lq
   obtain ⟨g1,g2,_,_⟩:=Zn s.Hq _ us EM YO
   rw [show Uh s (Wc 0 s.ins x)=Nj s.Hq (Wc 0 s.ins x) by unfold Uh;rw [hp]]
   exact ⟨g1,g2⟩
  |some p=>
   rw [hp] at Lq
   obtain ⟨rfl,EM,_⟩:=Lq
   obtain ⟨g1,g2,_,_⟩:=Zn s.Hq _ (us.drop p.2) EM (Iq.take p.2 YO).2
   rw [show Uh s (Wc 0 s.ins x)= .at (.Eb Mm 0)::Nj s.Hq ((Wc 0 s.ins x).drop p.2) by unfold Uh;rw [hp]]
   refine ⟨by simp [g1],λi c v h1 h2=>?_⟩
   rcases i with _|i
   ·simp only [List.getElem?_cons_zero,Option.some.injEq] at h1 h2
    subst h1;subst h2
    exact ⟨_,p.1,(Wc 0 s.ins x).take p.2,by rw [EF,YU];simp [hp],MJ (by rw [hp];rfl),rfl⟩
   ·exact g2 i c v (by simpa using h1) (by simpa using h2)
 have h0:Rel ⟨w,Sg,Pq ma,π0⟩ {tmps:=Uh s (Wc 0 s.ins x)++List.replicate (fn.ntmps-(Uh s (Wc 0 s.ins x)).length) .undef,heap:=lA s x}
   {tmps:=lf.toArray++Array.replicate (fn.ntmps-lf.toArray.size) undef,defers:= []} w:=by
  refine ⟨π0,⟨Gq.refl _ _ _,λb hb=>Ah5 b hb,λl q b h1 h2=>?_,λl q b h1 h2=>?_,λl l' q q' b h1 h2 h3 h4=>?_,λl _ _=>Vp.rfl' _,λl=>?_⟩,⟨by simp [g1],rfl,λt=>?_⟩⟩
  ·obtain ⟨q0,_,rfl⟩:=un l q h1;exact h2
  ·obtain ⟨q0,h3,rfl⟩:=un l q h1
   exact ⟨.inr ⟨l,q0,h3,h2⟩,Ad9.Nv l q0 b h3 h2⟩
  ·obtain ⟨q0,h5,rfl⟩:=un l q h1
   obtain ⟨q0',h6,rfl⟩:=un l' q' h2
   exact Ad9.inj l l' q0 q0' b h5 h6 h3 h4
  ·cases hh:Ag (Tj 0 s.ins x) l with
   |none=>
    by_cases hv:s.ptr.isSome=true/\l=Mm
    ·obtain ⟨hps,rfl⟩:=hv
     obtain ⟨p,hp⟩:=Option.isSome_iff_exists.1 hps
     refine Dm.Jg (b:= .var p.1 ((Wc 0 s.ins x).take p.2)) ?_ (by rw [EF,hh];simp [hp])
     unfold jJ at Lq
     rw [hp] at Lq
     obtain ⟨_,_,h1,h2,h3⟩:=Lq
     rw [MJ hps]
     exact ⟨_,rfl,rfl,_,h2,Iq.to (Iq.take p.2 YO).1 h3⟩
    ·refine Dm.Qg ?_ ?_
     ·show (if s.ptr.isSome=true/\l=Mm then _ else π l).map full=none
      rw [if_neg hv,LN l hh];rfl
     ·rw [EF,hh]
      simp only
      split
      ·rename_i e
       cases hp:s.ptr with
       |none=>rfl
       |some p=>exact absurd ⟨by rw [hp];rfl,e⟩ hv
      ·rfl
   |some b=>exact Dm.Jg (gG (π0:=ma) (λb hb=>by
    rcases hb with ⟨l,q,h1,h2⟩|hb|⟨hb,_⟩
    ·obtain ⟨q0,h3,rfl⟩:=un l q h1;exact .inl ⟨l,q0,h3,h2⟩
    ·exact .inr hb
    ·cases hb) rfl (λ_=>rfl) s.ins 0 x us XT l b hh) (LS l b hh)
  ·show Ar _ w _ _ ((Uh s (Wc 0 s.ins x)++List.replicate _ AV.undef).getD t .undef) ((lf.toArray++Array.replicate _ undef).getD t undef)
   by_cases ht:t<lf.length
   ·rw [List.getD_eq_getElem?_getD,List.getElem?_append_left (by omega),<-List.getD_eq_getElem?_getD]
    rw [Array.getD_eq_getD_getElem?,Array.getElem?_append_left (by simpa using ht)]
    have:=g2 t _ _ (List.getElem?_eq_getElem (by omega)) (List.getElem?_eq_getElem ht)
    simpa [List.getD_eq_getElem?_getD,List.getElem?_eq_getElem ht,List.getElem?_eq_getElem (show t<(Uh s (Wc 0 s.ins x)).length by omega)] using this
   ·have:(Uh s (Wc 0 s.ins x)++List.replicate (fn.ntmps-(Uh s (Wc 0 s.ins x)).length) AV.undef).getD t .undef= .undef:=by
     rw [List.getD_eq_getElem?_getD,List.getElem?_append_right (by omega)]
     rw [List.getElem?_replicate]
     split<;>rfl
    rw [this];trivial
 have fin: ∀(st:St) (a':Act) (w':World),KG T s fn x st (λz=>z=(r,o))->Rel ⟨w,Sg,Pq ma,π0⟩ st a' w'->Abs P s fn x w S π g r o a' w':=by
  intro st a' w' mn MD
  obtain ⟨Wy,h'⟩:=MD
  have VR:Am<=Mm:=by unfold Am Mm;omega
  obtain ⟨bc,lx,Ajh,hbc⟩: ∃bc,eL T s fn x st bc (λz=>z=(r,o))/\(s.ptr.isSome=true-> ∃b,Ag st.heap Mm=some b/\b.row=none)/\
    (Jz st 0 s.ins=some o-> ∃bv,Iq ⟨w,Sg,Pq ma,π0⟩ w' Wy st.heap bc bv/\bv.length=s.Ui/\ ∀tl,ga s π w' g (bv++tl) o):=by
   unfold KG at mn
   cases hp:s.ptr with
   |none=>
    rw [hp] at mn
    exact ⟨[],mn,λh=>by simp at h,λ_=>⟨[],trivial,by simp [MSpec.Ui,hp],λtl=>by simp [ga,hp]⟩⟩
   |some p=>
    rw [hp] at mn
    obtain ⟨vs,cs,h1,h2,h3,h4,h5⟩:=mn
    unfold St.at at h1
    refine ⟨cs,h5,λ_=>⟨_,h1,rfl⟩,λtt=>?_⟩
    obtain ⟨q,k1,k2,cur,k3,k4⟩:=(h'.1.heap Mm).Na h1
    have hsv:Vp (π0 Mm) (Wy Mm):=h'.1.dv Mm VR (by rw [h1];simp)
    rw [MJ (by rw [hp];rfl),k1] at hsv
    have hqg:g=q.g:=hsv.1
    obtain ⟨bv,g1,g2,g3⟩:=Sp (π0:=ma) (λk hk=>h'.1.dv _ (Nat.le_of_not_lt (Vf k)) hk) s.ins 0 vs cur.toList cs o (Iq.of k4) h3 h4 tt
    refine ⟨bv,g1,by rw [g2,h2];simp [MSpec.Ui,hp],λtl=>?_⟩
    unfold ga
    rw [hp]
    refine ⟨cur.toList,by rw [hqg];simpa using k3,λu hu=>?_,Ci.congr s.ins 0 o p.2 _ _ VJ (h2▸g3 tl)⟩
    obtain ⟨i,hi,rfl⟩:=List.mem_iff_getElem.1 hu
    have hl:=k4.1
    obtain ⟨u',h6,h7,_⟩:=k4.2 i (vs[i]'(by omega)) (List.getElem?_eq_getElem _)
    rw [List.getElem?_eq_getElem hi] at h6
    rw [Option.some.inj h6];exact h7
  unfold eL at lx
  split at lx
  ·exact lx.elim
  rename_i l hl
  split at lx
  ·exact lx.elim
  rename_i as ml da
  split at lx
  rotate_left
  ·exact lx.elim
  rename_i r' ls o' o3 ru
  obtain ⟨Fv,rD,ME⟩:=lx
  simp only [Bool.and_eq_true,Nat.blt_eq] at Fv
  obtain ⟨⟨⟨q9,Ang⟩,Ale⟩,Ad1⟩:=Fv
  simp only [Prod.mk.injEq] at ME
  obtain ⟨rfl,rfl⟩:=ME
  obtain ⟨bv,hbv,Ahi,Ahg⟩:=hbc ru
  have zL:=Rt q9
  obtain ⟨n1,n2,n3⟩:=List.nodup_append.1 zL
  obtain ⟨m1,m2,m3⟩:=List.nodup_append.1 n1
  obtain ⟨vs,v1,v2,v3,v4⟩:=Rv hT h' _ _ hl
  have SK:fn.results=fn.results.toList.toArray:=Array.toArray_toList.symm
  have Po: ∀v,(if h:vs.toArray.size=1 then vs.toArray[0] else .tuple vs.toArray)=v->(results fn a'.tmps).run P w'= .ok v w':=by
   intro v hv
   rw [bg,SK,List.mapM_toArray]
   simp only [map_eq_pure_bind,bind_assoc,pure_bind]
   simp only [Sem.run_bind,yb (BJ a'.tmps) _ vs v1 v3,Result.andThen_ok,Sem.run_pure]
   rw [hv]
  obtain ⟨qQ,v,qm,Ajg,hv,VS⟩: ∃qQ v qm,Iq ⟨w,Sg,Pq ma,π0⟩ w' Wy st.heap as qQ/\(results fn a'.tmps).run P w'= .ok v w'/\
    ((s.rp=none/\ml= []/\qm=none/\OI s.Ej s.Gm qQ v/\Xx s.Gm qQ)\/
     ∃tid m q,s.rp=some tid/\ml= [m]/\m<Am/\qm=some q/\Wy m=some q/\q.Bc q.g/\w'.heap[q.g]?=some (.cells qQ.toArray tid (0,0))/\(∀u∈qQ,u.oneCell'=true)/\v= .pointer (some ⟨q.g,0,none⟩)):=by
   unfold BI at da
   split at da
   ·rename_i yY
    split at da
    rotate_left
    ·cases da
    rename_i hmul
    cases KC:ungroup s.Gm l with
    |none=>rw [KC] at da;cases da
    |some as'=>
     rw [KC] at da
     simp only [Option.map_some,Option.some.injEq,Prod.mk.injEq] at da
     obtain ⟨rfl,rfl⟩:=da
     obtain ⟨qQ,e1,e2,e3⟩:=Xz s.Gm l vs as' (by omega) v4 KC
     have hv: ∃v,(results fn a'.tmps).run P w'= .ok v w'/\OI s.Ej s.Gm qQ v:=by
      unfold OI
      rw [<-e1,hmul]
      rcases Nat.lt_or_ge 1 l.length with h1|h1
      ·have LL:Nat.blt 1 l.length=true:=by simpa using h1
       simp only [LL,if_true]
       refine ⟨.tuple vs.toArray,Po _ ?_,rfl⟩
       rw [dif_neg (by simp;omega)]
      ·have LL:Nat.blt 1 l.length=false:=by rw [<-Bool.not_eq_true];simpa using h1
       simp only [LL,Bool.false_eq_true,if_false]
       rcases vs with _|⟨v,_|⟨v',vs⟩⟩
       ·exact ⟨_,Po _ (by simp;rfl), .inr rfl⟩
       ·exact ⟨v,Po _ (by simp), .inl rfl⟩
       ·exfalso;simp only [List.length_cons] at v1;omega
     obtain ⟨v,hv1,hv2⟩:=hv
     exact ⟨qQ,v,none,e3,hv1, .inl ⟨yY,rfl,rfl,hv2,e2⟩⟩
   ·rename_i tid yY
    split at da
    rotate_left
    ·cases da
    rename_i m i
    split at da
    rotate_left
    ·cases da
    rename_i Ov vR hm
    split at da
    rotate_left
    ·cases da
    rename_i hc
    obtain ⟨rfl,rfl,QO⟩:=hc
    simp only [Option.some.injEq,Prod.mk.injEq] at da
    obtain ⟨rfl,rfl⟩:=da
    unfold St.at at hm
    rcases vs with _|⟨v,_|⟨v',vs⟩⟩
    ·exfalso;simp only [List.length_cons,List.length_nil] at v1 v2;omega
    ·obtain ⟨q,Apk,vs2,q1,q2,q3⟩:=v4 0 _ v rfl rfl
     rw [hm] at q1;cases q1
     obtain ⟨q',k1,k2,cur,k3,k4⟩:=(h'.1.heap m).Na hm
     rw [q2] at k1;cases k1
     refine ⟨cur.toList,v,some q,Iq.of k4,Po _ (by simp), .inr ⟨_,m,q,yY,rfl,by simpa using QO,rfl,q2,k2,by simpa using k3,λu hu=>?_,q3⟩⟩
     obtain ⟨i,hi,rfl⟩:=List.mem_iff_getElem.1 hu
     have hl:=k4.1
     obtain ⟨u',h6,h7,_⟩:=k4.2 i (vR[i]'(by omega)) (List.getElem?_eq_getElem _)
     rw [List.getElem?_eq_getElem hi] at h6
     rw [Option.some.inj h6];exact h7
    ·exfalso;simp only [List.length_cons,List.length_nil] at v1 v2;omega
  obtain ⟨vS,p1,p2,p3,p4,p5⟩:=rY h'.1 s.outs 0 (bc++as) (bv++qQ) r' ls (hbv.append Ajg) o3 m2
  obtain ⟨io1,io2⟩:=Ol (π0:=ma) h'.1 (λ_=>rfl) s.ins 0 x us o' XT ru
  have Acn:(bv++qQ).drop s.Ui=qQ:=by rw [<-Ahi];simp
  let ρ:Pi:= λl0=>if l0=Gc s.outs.length then qm else vS l0
  have YY:ρ (Gc s.outs.length)=qm:=if_pos rfl
  have Ae1: ∀l0,l0≠Gc s.outs.length->ρ l0=vS l0:= λl0 h=>if_neg h
  have Ae0: ∀j,j<s.outs.length->ρ (Gc j)=vS (Gc j):= λj hj=>Ae1 _ (by unfold Gc;omega)
  have pL: ∀l0 q,ρ l0=some q->(l0=Gc s.outs.length/\qm=some q)\/(l0≠Gc s.outs.length/\vS l0=some q):= λl0 q h=>by
   by_cases e:l0=Gc s.outs.length
   ·subst e;rw [YY] at h;exact .inl ⟨rfl,h⟩
   ·rw [Ae1 l0 e] at h;exact .inr ⟨e,h⟩
  have Ade: ∀q,qm=some q-> ∃m,ml= [m]/\m<Am/\Wy m=some q:= λq hq=>by
   rcases VS with ⟨_,_,h1,_⟩|⟨_,m,q',_,h1,h2,h3,h4,_⟩
   ·rw [h1] at hq;cases hq
   ·rw [h3] at hq;cases hq;exact ⟨m,h1,h2,h4⟩
  have p3': ∀l0 q b,ρ l0=some q->q.Bc b-> ∃l1∈ml++ls,∃p,Wy l1=some p/\p.cl b/\((s.outs.all λc=>!c.WD)=true->p.Bc b)/\((l1∈ls)\/l1<Am):= λl0 q b h1 h2=>by
   rcases pL l0 q h1 with ⟨_,h3⟩|⟨_,h3⟩
   ·obtain ⟨m,e1,e2,e3⟩:=Ade q h3
    exact ⟨m,by rw [e1];simp,q,e3,h'.1.sub m q b e3 h2,λ_=>h2, .inr e2⟩
   ·obtain ⟨l1,g1,p,g2,g3,g4⟩:=p3 l0 q b h3 h2
    exact ⟨l1,List.mem_append_right _ g1,p,g2,g3,g4, .inl g1⟩
  have p4': ∀l0 l1 q q' b,ρ l0=some q->ρ l1=some q'->q.Bc b->q'.Bc b->l0=l1:= λl0 l1 q q' b h1 h2 h3 h4=>by
   have wy: ∀l0 q q' b,vS l0=some q->qm=some q'->q.Bc b->q'.Bc b->False:= λl0 q q' b h1 h2 h3 h4=>by
    obtain ⟨m,e1,e2,e3⟩:=Ade q' h2
    obtain ⟨l1,g1,p,g2,g3,_⟩:=p3 l0 q b h1 h3
    have:=h'.1.inj m l1 q' p b e3 g2 (h'.1.sub m q' b e3 h4) g3
    exact m3 m (by rw [e1];simp) l1 g1 this
   rcases pL l0 q h1 with ⟨e1,h5⟩|⟨e1,h5⟩<;>rcases pL l1 q' h2 with ⟨e2,h6⟩|⟨e2,h6⟩
   ·rw [e1,e2]
   ·exact (wy l1 q' q b h6 h5 h4 h3).elim
   ·exact (wy l0 q q' b h5 h6 h3 h4).elim
   ·exact p4 l0 l1 q q' b h5 h6 h3 h4
  have EK: ∀l0 q,Am<=l0->ma l0=some q->Ag st.heap l0≠none/\(l0∈Ko 0 s.ins\/ ∃b,Ag st.heap l0=some b/\b.row=none):= λl0 q h1 h2=>by
   rcases JF l0 q h2 with ⟨h3,_⟩|⟨h3,rfl,_⟩
   ·have tt:=rG s.ins 0 x l0 Ad4 (by omega) (λVN=>by rw [LN l0 VN] at h3;cases h3) (by omega)
    exact ⟨io2 l0 tt, .inl tt⟩
   ·obtain ⟨b,h4,h5⟩:=Ajh h3
    exact ⟨by rw [h4];simp, .inr ⟨b,h4,h5⟩⟩
  have hDO:(s.outs.all λc=>!c.WD)=true-> ∀b,eS Sg ma ρ b->Pq Wy b\/Sg b:=by
   intro hx b hb
   rcases hb with hb|⟨l0,q,h1,h2,h3⟩|⟨l0,q,h1,h2⟩
   ·exact .inr hb
   ·have hs:=h'.1.dv l0 h1 (EK l0 q h1 h2).1
    have hs:Vp ((ma l0).map full) (Wy l0):=hs
    rw [h2] at hs
    cases vN:Wy l0 with
    |none=>rw [vN] at hs;exact hs.elim
    |some q1=>rw [vN] at hs;exact .inl ⟨l0,q1,vN,(hs.2.2.2 b).1 h3⟩
   ·obtain ⟨m,_,p,hm2,_,YD,_⟩:=p3' l0 q b h1 h2
    exact .inl ⟨m,p,hm2,YD hx⟩
  have hDD: ∀b,eS S π ρ b->eS Sg ma ρ b:= λb hb=>by
   rcases hb with hb|⟨l0,q,h1,h2,h3⟩|hb
   ·by_cases KA:s.gv g b
    ·obtain ⟨hps,rfl⟩:=KA
     exact .inr (.inl ⟨Mm,_,VR,if_pos ⟨hps,rfl⟩,rfl⟩)
    ·exact .inl ⟨hb,KA⟩
   ·refine .inr (.inl ⟨l0,q,h1,?_,h3⟩)
    show (if s.ptr.isSome=true/\l0=Mm then _ else π l0)=some q
    rw [if_neg]
    ·exact h2
    ·rintro ⟨_,rfl⟩
     rw [LN Mm YU] at h2;cases h2
   ·exact .inr (.inr hb)
  have QJ:s.flat=true\/(s.outs.all λc=>!c.WD)=true:=by unfold MSpec.NG at Ad1;simpa only [Bool.or_eq_true] using Ad1
  have io1:Ht w' (eS S π ρ) π 0 s.ins o':=by
   refine Ht.congr s.ins 0 o' VJ ?_
   rcases QJ with hf|hf
   ·unfold MSpec.flat at hf
    simp only [Bool.and_eq_true] at hf
    exact Ht.any s.ins 0 o' hf.2 io1
   ·exact Ht.Fe (λb hb=>hDO hf b (hDD b hb)) s.ins 0 o' io1
  have p1:Ff w' (eS S π ρ) ρ 0 s.outs r' (bv++qQ):=by
   have p1:Ff w' (λb=>Pq Wy b\/Sg b) ρ 0 s.outs r' (bv++qQ):=Ff.KW s.outs 0 r' _ (λj _ hj=>Ae0 j (by omega)) p1
   rcases QJ with hf|hf
   ·unfold MSpec.flat at hf
    simp only [Bool.and_eq_true] at hf
    exact Ff.any s.outs 0 r' (bv++qQ) hf.1 p1
   ·exact Ff.Fe (λb hb=>hDO hf b (hDD b hb)) s.outs 0 r' (bv++qQ) p1
  refine ⟨v,bv++qQ,ρ,h'.2.defers,hv,?_,Ahg qQ,⟨h'.1.below.os,h'.1.below.tape,h'.1.below.output,h'.1.below.size,λk hk hn=>h'.1.below.block k hk λho=>hn ((Zr k).1 ho)⟩,io1,p1,⟨λl0 q b h1 h2=>?_,p4'⟩,λl0 YA=>?_,λkj nX=>?_⟩
  ·rw [Acn]
   unfold ng
   rcases VS with ⟨h1,_,_,h2⟩|⟨tid,m,q,h1,_,_,h3,_,h4,h5,h6,h7⟩
   ·rw [h1];exact h2
   ·rw [h1];exact ⟨q,by rw [YY,h3],h4,h5,h6,h7⟩
  ·obtain ⟨m,LY,p,hm2,YC,_,YD⟩:=p3' l0 q b h1 h2
   obtain ⟨k1,k2⟩:=h'.1.place m p b hm2 YC
   refine ⟨k2,k1.imp id λ⟨c0,q0,h5,h6⟩=>?_⟩
   have Hm:c0<Am:=Classical.byContradiction λhn=>by
    obtain ⟨Et,tt⟩:=EK c0 q0 (by omega) h5
    have hs:=h'.1.dv c0 (by omega) Et
    have hs:Vp ((ma c0).map full) (Wy c0):=hs
    rw [h5] at hs
    cases vN:Wy c0 with
    |none=>rw [vN] at hs;exact hs.elim
    |some q1=>
     rw [vN] at hs
     have hf1:q1.Bc b:=(hs.2.2.2 b).1 h6
     have:=h'.1.inj c0 m q1 p b vN hm2 (h'.1.sub c0 q1 b vN hf1) YC
     subst this
     rcases YD with YD|YD
     ·rcases tt with tt|⟨b1,LL,hb2⟩
      ·exact n3 c0 LY c0 tt rfl
      ·obtain ⟨b2,hb3,hb4⟩:=oD s.outs _ _ _ o3 c0 YD
       rw [LL] at hb3;cases hb3
       exact hb4 hb2
     ·exact hn YD
   refine ⟨c0,q0,Hm,?_,h6⟩
   rcases JF c0 q0 h5 with ⟨h7,_⟩|⟨_,h7,_⟩
   ·exact h7
   ·omega
  ·cases hp:ρ l0 with
   |none=>rfl
   |some q=>
    rcases pL l0 q hp with ⟨e,h3⟩|⟨_,h3⟩
    ·refine absurd e (YA _ ?_)
     rcases VS with ⟨_,_,h4,_⟩|⟨tid,m,q',h4,_⟩
     ·rw [h4] at h3;cases h3
     ·unfold MSpec.Oo;rw [h4];simp
    ·obtain ⟨j,_,j2,j3⟩:=p2 l0 q h3
     exact absurd j3 (YA j (by unfold MSpec.Oo;omega))
  ·obtain ⟨l0,off,len,e,te,rows,out,p,q1,q2,q3,q4,q5⟩:=rJ rD kj nX
   have hj:kj.2<s.outs.length:=by
    rw [<-rX s.outs _ _ _ o3]
    exact (List.getElem?_eq_some_iff.1 q1).1
   have e1:=p5 kj.2 l0 off len e te rows out (some p) q1 q2
   rw [Nat.zero_add] at e1
   rw [Ae0 _ hj,e1]
   have hk:=((h'.1.heap l0).Na q2).2
   obtain ⟨l1,n1⟩:=p
   simp only [KeptAt] at hk
   dsimp only at q3 q4
   subst q3
   have GO:π0 (Cb false kj.1)=(π (Cb false kj.1)).map full:=by
    show (if s.ptr.isSome=true/\Cb false kj.1=Mm then _ else π (Cb false kj.1)).map full=_
    rw [if_neg λh=>hvl false kj.1 q5 h.2]
   rw [GO] at hk
   unfold vU
   cases hp:π (Cb false kj.1) with
   |none=>
    rw [hp] at hk
    cases vN:Wy l0 with
    |none=>trivial
    |some q=>rw [vN] at hk;exact hk.elim
   |some q0=>
    rw [hp] at hk
    cases vN:Wy l0 with
    |none=>rw [vN] at hk;exact hk.elim
    |some q=>
     rw [vN] at hk
     obtain ⟨k1,k2,k3,k4⟩:=hk
     exact ⟨k1,k2,k3,λj hj hc=>k4 j (by omega) hc⟩
 refine calls_of_wp hf hb ?_
 refine (oS hT Nb hm he _ w _ h0 λe st a' w' ⟨Et,mn⟩ h'=>?_).1
 obtain ⟨v,Tu,ρ,p1,p2,p3⟩:=fin st a' w' mn h'
 cases e with
 |normal=>exact ⟨p1,v,p2,v,Tu,ρ,rfl,p3⟩
 |ret=>exact ⟨p1,v,p2,v,Tu,ρ,rfl,p3⟩
 |exit id=>exact absurd rfl (Et id)
end
end Go.Proofs.Ytjbdmibbbpdnnaa
