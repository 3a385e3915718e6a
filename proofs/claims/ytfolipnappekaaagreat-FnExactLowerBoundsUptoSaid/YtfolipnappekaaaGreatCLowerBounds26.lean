/-
  Part 27 of the proof that the statement FnExactLowerBounds holds.
-/
import Derived.Test.YtfolipnappekaaaGreatCLowerBounds25
namespace Go.Proofs.YtfolipnappekaaaGreat
open Go.RowKit
section
variable {P:Program} {T:Tab} {Γ:Env} {X:Ctx} {w w':World} {π:Pi} {H:List (Nat×OB)}
theorem oh: ∀(cs:List (Bool×CK)) (k:Nat) (x:Ins.den cs) (l:Nat),Ad (Sv k cs x) l≠none-> ∃b j,k<=j/\j<k+cs.length/\l=Bl b j
 | [],_,_,_,h=>absurd rfl h
 |p::r,k,x,l,h=>by
  simp only [Sv] at h
  by_cases e:l=Bl p.1 k
  ·exact ⟨p.1,k,Nat.le_refl _,by simp,e⟩
  ·have:Ad (Sv (k+1) r x.2) l≠none:=by
    cases hc:eO (Bl p.1 k) p.2 x.1 with
    |none=>rw [hc] at h;exact h
    |some b=>rw [hc] at h;simpa only [cC,Ad,if_neg (Ne.symm e)] using h
   obtain ⟨b,j,h1,h2,h3⟩:=oh r (k+1) x.2 l this
   exact ⟨b,j,by omega,by simp;omega,h3⟩
theorem HV {p:Bool×CK} {r:List (Bool×CK)} {k:Nat} {x:Ins.den (p::r)} (hk:k+(r.length+1)<100000) {l:Nat} {b:OB} (h:Ad (Sv (k+1) r x.2) l=some b):Ad (Sv k (p::r) x) l=some b:=by
 obtain ⟨b',j,h1,h2,rfl⟩:=oh r (k+1) x.2 l (by rw [h];simp)
 simp only [Sv]
 cases eO (Bl p.1 k) p.2 x.1 with
 |none=>exact h
 |some c=>simp only [cC,Ad];rw [if_neg (GH (by omega) (by omega) (by omega))];exact h
theorem MC {D:Nat->Prop} (hD: ∀b,Bg X.w0.heap.size X.Sc π false b->D b) (ZF:X.w0=w) {l:Nat} {r:Option Real} (Tl:X.cg l=r.map full) {u:Value} {c:CK} {x:c.den} (h:ao w D r u c x) {b:OB} (hb:eO l c x=some b):Aw X w π H (r.map full) b:=by
 have Sq: ∀ {e:Ty} {es:List Value} {y:e.den},Cells w D e es y->Cells w (Bg X.w0.heap.size X.Sc π false) e es y:= λ {e es y} h=>Cells.Ch (Nat.le_refl _) (λ_ _ _=>rfl) (λb _ hb=>hD b hb) e es y h
 cases c with
 |Dh τ=>cases hb
 |row e te=>
  simp only [eO,Option.some.injEq] at hb;subst hb
  obtain ⟨_,h⟩:=h
  simp only [bA] at h
  simp only [Aw,Fq]
  cases r with
  |none=>exact h
  |some q=>
   obtain ⟨k1,cu,ti,k2,k3,k4,k5,k6⟩:=h
   exact ⟨⟨k1.1,k1.2,λh=>by cases h⟩,cu,ti,k2,k3,k4,k5,λi y hy=>by
    obtain ⟨es,g1,g2,g3⟩:=k6 i y hy
    exact ⟨es,g1,g2,Sq g3⟩,λh=>by cases h⟩
 |Ds e te=>
  simp only [eO,Option.some.injEq] at hb;subst hb
  cases r<;>exact h.2
 |part e te=>
  simp only [eO,Option.some.injEq] at hb;subst hb
  obtain ⟨_,hf,h⟩:=h
  simp only [Aw,Fq]
  cases r with
  |none=>exact h
  |some q=>
   obtain ⟨k1,cu,ti,k2,k3,k4,k5,k6⟩:=h
   exact ⟨⟨k1.1,k1.2,λh=>by cases h⟩,cu,ti,k2,k3,k4,k5,λi y hy=>by
    obtain ⟨es,g1,g2,g3⟩:=k6 i y hy
    exact ⟨es,g1,g2,Sq g3⟩,λh=>by cases h⟩
 |Aj e te kp=>
  simp only [eO,Option.some.injEq] at hb;subst hb
  have h2:Tu w D r e x none:=h.2
  have h3:=Tu.Ep h2 hD
  refine ⟨by cases r<;>exact h3,?_⟩
  cases kp with
  |false=>trivial
  |true=>
   simp only [if_true,KeptAt]
   rw [Tl]
   cases r with
   |none=>trivial
   |some q=>exact ⟨rfl,rfl,rfl,λj _ _=>by rw [ZF]⟩
theorem gA {D:Nat->Prop} (hD: ∀b,Bg X.w0.heap.size X.Sc π false b->D b) (ZF:X.w0=w) {π0:Pi} (Tl: ∀l,X.cg l=(π0 l).map full): ∀(cs:List (Bool×CK)) (k:Nat) (x:Ins.den cs) (us:List Value),aq w D π0 k cs x us-> ∀l b,Ad (Sv k cs x) l=some b->Aw X w π H ((π0 l).map full) b
 | [],_,_,_,_,_,_,h=>by cases h
 |_::_,_,_,[],h,_,_,_=>h.elim
 |p::r,k,x,u::us,h,l,b,hb=>by
  simp only [Sv] at hb
  cases hc:eO (Bl p.1 k) p.2 x.1 with
  |none=>rw [hc] at hb;exact gA hD ZF Tl r (k+1) x.2 us h.2 l b hb
  |some c=>
   rw [hc] at hb
   simp only [cC,Ad] at hb
   split at hb
   ·rename_i e;subst e
    simp only [Option.some.injEq] at hb;subst hb
    exact MC hD ZF (Tl _) h.1 hc
   ·exact gA hD ZF Tl r (k+1) x.2 us h.2 l b hb
theorem xG {S:Nat->Prop} {π0:Pi} {gv:Nat->Prop} {cg:Pi} (Su: ∀l,π l=(π0 l).map full): ∀(cs:List (Bool×CK)) (k:Nat) (x:Ins.den cs) (us:List Value),k+cs.length<100000->aq w (λb=>No π0 b\/S b) π0 k cs x us->(∀l b,Ad (Sv k cs x) l=some b->Ad H l=some b)->
  Ii ⟨w,S,gv,cg⟩ w π H (Wb k cs x) us
 | [],_,_,[],_,_,_=>trivial
 | [],_,_,_::_,_,h,_=>h.elim
 |_::_,_,_,[],_,h,_=>h.elim
 |p::r,k,x,u::us,hk,h,hH=>by
  simp only [List.length_cons] at hk
  refine ⟨?_,xG Su r (k+1) x.2 us (by omega) h.2 λl b hb=>hH l b (HV hk hb)⟩
  have h1:=h.1
  have hh: ∀b,eO (Bl p.1 k) p.2 x.1=some b->Ad H (Bl p.1 k)=some b:= λb hb=>hH _ b (by simp only [Sv];rw [hb];simp [cC,Ad])
  have eo:=Su (Bl p.1 k)
  obtain ⟨io,c⟩:=p
  dsimp only at h1 hh eo⊢
  generalize x.1=y at*
  cases c with
  |Dh τ=>
   show Be w _ τ u y
   cases hf:τ.flat with
   |true=>exact Be.flat hf h1.2
   |false=>
    refine h1.2.Ep λb _ hb=>?_
    rcases hb with ⟨l,q,h3,h4⟩|hb|⟨hb,_⟩
    ·rw [Su l] at h3
     cases hp:π0 l with
     |none=>rw [hp] at h3;cases h3
     |some q0=>rw [hp] at h3;simp only [Option.map_some,Option.some.injEq] at h3;subst h3;exact .inl ⟨l,q0,hp,h4⟩
    ·exact .inr hb
    ·cases hb
  |row e te=>exact ⟨_,e.size,List.length y,hh _ rfl,rfl,by simp,by rw [eo];exact Tb h1.1⟩
  |Ds e te=>exact ⟨_,e.size,List.length y,hh _ rfl,rfl,by simp,by rw [eo];exact Tb h1.1⟩
  |part e te=>exact ⟨_,e.size,List.length y.1,hh _ rfl,rfl,h1.1.2,by rw [eo];exact Tb h1.1.1⟩
  |Aj e te kp=>exact ⟨_,1,List.length y,hh _ rfl,rfl,by simp,by rw [eo];exact Tb h1.1⟩
theorem kB {p:Real} {s off len:Nat} {u:Value} {f:Nat->Prop} (h:Eb (some p) s off len u):Eb (some ⟨p.g,p.o+off,p.cap-off,f,f⟩) s 0 len u:=by
 obtain ⟨ad,h1,h2,h3⟩:=h
 exact ⟨ad,h1,by dsimp only;omega,λh0=>by dsimp only at h0;simpa using h3 (by omega)⟩
theorem oQ {α:Type} {xs:List α} {off len i:Nat} {x:α} (h:((xs.drop off).take len)[i]?=some x):xs[off+i]?=some x:=by
 rw [List.getElem?_take] at h
 split at h
 ·rw [List.getElem?_drop] at h;exact h
 ·cases h
theorem Qi.part {P:Nat->Prop} {g o:Nat} {cur:Array Value} {e:Ty} {xs:List e.den} (off len:Nat) (h:Qi w P g o cur e xs):Qi w P g (o+off) cur e ((xs.drop off).take len):=by
 obtain ⟨Fs,t1,t2,t3,t4⟩:=h
 refine ⟨(Fs.drop off).take len,by simp [t1],List.nodup_cons.2 ⟨λhm=>(List.nodup_cons.1 t2).1 (Mf off len _ hm),gI off len (List.nodup_cons.1 t2).2⟩,λb hb=>t3 b (Mf off len b hb),λi x F hx hF=>?_⟩
 obtain ⟨es,k1,k2,k3⟩:=t4 (off+i) x F (oQ hx) (oQ hF)
 exact ⟨es,k1,λj u hu=>by rw [Nat.add_assoc o off i];exact k2 j u hu,k3⟩
theorem II {st:St} (h:Ih X w π st.heap) {c:CK} (hg: ∀e te kp,c≠ .Aj e te kp) {a:AC} {u:Value} (hu:Dw X w π st.heap a u) {x:c.den} {ls:List Nat} (he:eT st c a=some (x,ls)):
  ∃r,ao w (λb=>No π b\/X.Sc b) r u c x/\ ∀q,r=some q-> ∃l p,ls= [l]/\π l=some p/\(∀b,q.Bb b->p.cl b)/\(c.WE=false-> ∀b,q.Bb b->p.Bb b):=by
 have FL: ∀ {f:Bool} (b:Nat),(No π b\/X.Sc b)->Bg X.w0.heap.size X.Sc π f b:= λb h=>h.imp id .inl
 cases c with
 |Dh τ=>
  simp only [eT] at he
  split at he
  ·rename_i hf
   cases hv:Bn st τ a with
   |none=>rw [hv] at he;cases he
   |some p=>
    obtain ⟨fr,y⟩:=p
    rw [hv] at he
    simp only [Option.map_some,Option.some.injEq,Prod.mk.injEq] at he
    obtain ⟨rfl,rfl⟩:=he
    refine ⟨none,⟨rfl,?_⟩,λq hq=>by cases hq⟩
    have Ep: ∀f,Be w (Bg X.w0.heap.size X.Sc π f) τ u y->Be w (λb=>No π b\/X.Sc b) τ u y:= λf hr=>hr.Ep λk _ hk=>FL k hk
    cases a with
    |data f Jc z=>
     rw [It] at hv
     split at hv
     ·rename_i ht;subst ht
      simp only [Option.some.injEq,Prod.mk.injEq] at hv
      obtain ⟨_,rfl⟩:=hv
      exact Ep f hu
     ·have Tx:τ.Ab=false:=by unfold cE at hv;split at hv<;>first|rfl|cases hv
      exact Ep _ ⟨[u],Yj hv hu,by simp [As,Tx]⟩
    |Hp=>
     have hu:u= .slice none 0 0:=hu
     subst hu
     cases τ<;>simp only [Bn,Option.some.injEq,Prod.mk.injEq,reduceCtorEq] at hv
     ·obtain ⟨_,rfl⟩:=hv;exact ⟨[_],⟨none,0,0,rfl,rfl,Nat.le_refl _, .inl rfl⟩,rfl⟩
     ·obtain ⟨_,rfl⟩:=hv;exact ⟨[_], .inl ⟨rfl,0,rfl⟩,rfl⟩
    |Qd=>
     have hu:u= .pointer none:=hu
     subst hu
     cases τ<;>simp only [Bn,Option.some.injEq,Prod.mk.injEq,reduceCtorEq] at hv
     obtain ⟨_,rfl⟩:=hv;exact ⟨[_], .inl ⟨rfl,rfl⟩,rfl⟩
    |_=>cases τ<;>simp [AC.settled,Ty.flat,Bn] at hf hv
  ·cases he
 |row e te=>
  cases a<;>simp only [eT] at he<;>try (cases he;done)
  ·simp only [Option.some.injEq,Prod.mk.injEq] at he
   obtain ⟨rfl,rfl⟩:=he
   have hu:u= .slice none 0 0:=hu
   exact ⟨none,⟨⟨hu,rfl,rfl⟩,rfl⟩,λq hq=>by cases hq⟩
  ·rename_i l off len
   split at he
   ·rename_i fr tr e' Li xs hl
    split at he
    ·rename_i hc
     obtain ⟨rfl,rfl⟩:=hc
     simp only [Option.some.injEq,Prod.mk.injEq] at he
     obtain ⟨rfl,rfl⟩:=he
     unfold St.at at hl
     obtain ⟨h1,h2⟩:=Jh hu hl
     have hb:=(h.heap l).Ku hl
     simp only [Aw,Fq] at hb
     have hlen:((xs.drop off).take len).length=len:=by simp;omega
     cases hp:π l with
     |none=>
      rw [hp] at h2 hb
      obtain ⟨rfl,rfl,rfl⟩:=h2
      exact ⟨none,⟨⟨rfl,rfl,by simp⟩,by show (xs.drop 0).take 0= [];simp⟩,λq hq=>by cases hq⟩
     |some p=>
      rw [hp] at h2 hb
      obtain ⟨k1,cur,ti,k2,k3,k4,k5,k6,_⟩:=hb
      have ho:=h2
      obtain ⟨ad,_,o4,_⟩:=h2
      refine ⟨some ⟨p.g,p.o+off,p.cap-off,p.Bb,p.Bb⟩,⟨by rw [hlen];exact kB ho,⟨k1.1,k1.2.1⟩,cur,ti,k2,by rw [k3];congr 1;dsimp only;omega,by dsimp only;omega,by rw [hlen];dsimp only;omega,λi y hy=>?_⟩,
       fun q hq=>by cases hq;exact ⟨l,p,rfl,hp,λb hb=>h.sub l p b hp hb,λ_ b hb=>hb⟩⟩
      obtain ⟨es,g1,g2,g3⟩:=k6 (off+i) y (oQ hy)
      exact ⟨es,g1,λj u hu=>by dsimp only;rw [Nat.add_assoc p.o off i];exact g2 j u hu,Cells.Ch (Nat.le_refl _) (λ_ _ _=>rfl) (λb _ hb=>FL b hb) e' es y g3⟩
    ·cases he
   ·cases he
 |Ds e te=>
  cases a<;>simp only [eT] at he<;>try (cases he;done)
  ·simp only [Option.some.injEq,Prod.mk.injEq] at he
   obtain ⟨rfl,rfl⟩:=he
   have hu:u= .slice none 0 0:=hu
   exact ⟨none,⟨⟨hu,rfl,rfl⟩,rfl⟩,λq hq=>by cases hq⟩
  ·rename_i l off len
   split at he
   ·rename_i fr tr e' Li xs hl
    split at he
    ·rename_i hc
     obtain ⟨rfl,rfl,hf⟩:=hc
     simp only [Option.some.injEq,Prod.mk.injEq] at he
     obtain ⟨rfl,rfl⟩:=he
     unfold St.at at hl
     obtain ⟨h1,h2⟩:=Jh hu hl
     have hb:=(h.heap l).Ku hl
     simp only [Aw,Fq] at hb
     have hlen:((xs.drop off).take len).length=len:=by simp;omega
     cases hp:π l with
     |none=>
      rw [hp] at h2 hb
      obtain ⟨rfl,rfl,rfl⟩:=h2
      exact ⟨none,⟨⟨rfl,rfl,by simp⟩,by show (xs.drop 0).take 0= [];simp⟩,λq hq=>by cases hq⟩
     |some p=>
      rw [hp] at h2 hb
      obtain ⟨k1,cur,ti,k2,k3,k4,k5,k6,k7⟩:=hb
      have ho:=h2
      obtain ⟨ad,_,o4,_⟩:=h2
      have ht:Qi w p.cl p.g p.o cur e' xs:=by
       simp only [Bool.or_eq_true] at hf
       rcases hf with hf|hf
       ·exact k7 hf
       ·exact iD hf k6
      exact ⟨some ⟨p.g,p.o+off,p.cap-off,p.cl,p.cl⟩,⟨by rw [hlen];exact kB ho,h.sub l p _ hp k1.1,cur,ti,k2,by rw [k3];congr 1;dsimp only;omega,by dsimp only;omega,by rw [hlen];dsimp only;omega,ht.part off len⟩,
       fun q hq=>by cases hq;exact ⟨l,p,rfl,hp,λb hb=>hb,λhx=>by cases hx⟩⟩
    ·cases he
   ·rename_i e' Li xs hl
    split at he
    ·rename_i hc
     obtain ⟨rfl,rfl⟩:=hc
     simp only [Option.some.injEq,Prod.mk.injEq] at he
     obtain ⟨rfl,rfl⟩:=he
     unfold St.at at hl
     obtain ⟨h1,h2⟩:=Wl hu hl
     have hb:=(h.heap l).Ku hl
     simp only [Aw,Iu] at hb
     have hlen:((xs.drop off).take len).length=len:=by simp;omega
     cases hp:π l with
     |none=>
      rw [hp] at h2 hb
      obtain ⟨rfl,rfl,rfl⟩:=h2
      exact ⟨none,⟨⟨rfl,rfl,by simp⟩,by show (xs.drop 0).take 0= [];simp⟩,λq hq=>by cases hq⟩
     |some p=>
      rw [hp] at h2 hb
      obtain ⟨k1,cur,ti,k2,k3,k4,k5,ht⟩:=hb
      have ho:=h2
      obtain ⟨ad,_,o4,_⟩:=h2
      exact ⟨some ⟨p.g,p.o+off,p.cap-off,p.Bb,p.Bb⟩,⟨by rw [hlen];exact kB ho,k1,cur,ti,k2,by rw [k3];congr 1;dsimp only;omega,by dsimp only;omega,by rw [hlen];dsimp only;omega,ht.part off len⟩,
       fun q hq=>by cases hq;exact ⟨l,p,rfl,hp,λb hb=>h.sub l p b hp hb,λ_ b hb=>hb⟩⟩
    ·cases he
   ·cases he
 |part e te=>cases a<;>simp [eT] at he
 |Aj e te kp=>exact absurd rfl (hg e te kp)
theorem OJ {st:St} (h:Ih X w π st.heap) {c:CK} {a:AC} {u:Value} (hu:Dw X w π st.heap a u) {x:c.den} {ls:List Nat} (he:eT st c a=some (x,ls)):
  ∃r,ao w (λb=>No π b\/X.Sc b) r u c x/\(∀q,r=some q-> ∃l p,ls= [l]/\π l=some p/\(∀b,q.Bb b->p.cl b)/\(c.WE=false-> ∀b,q.Bb b->p.Bb b))/\
   (∀l off len e te rows out kp,a= .own l off len->Ad st.heap l=some (.Aj e te rows out kp)->r=π l):=by
 have qe:(∀e te kp,c≠ .Aj e te kp)->(∀l off len e te rows out kp,a=AC.own l off len->Ad st.heap l=some (OB.Aj e te rows out kp)->False)->
   ∃r,ao w (λb=>No π b\/X.Sc b) r u c x/\(∀q,r=some q-> ∃l p,ls= [l]/\π l=some p/\(∀b,q.Bb b->p.cl b)/\(c.WE=false-> ∀b,q.Bb b->p.Bb b))/\
   (∀l off len e te rows out kp,a= .own l off len->Ad st.heap l=some (.Aj e te rows out kp)->r=π l):= λh1 h2=>by
  obtain ⟨r,g1,g2⟩:=II h h1 hu he
  exact ⟨r,g1,g2,λl off len e te rows out kp h3 h4=>(h2 l off len e te rows out kp h3 h4).elim⟩
 cases c with
 |Dh τ=>
  refine qe (λ_ _ _ h=>by cases h) λl off len e te rows out kp h3 h4=>?_
  subst h3
  simp only [eT] at he
  split at he
  ·rename_i hf
   cases τ<;>simp [AC.settled,Ty.flat,Bn] at hf he
  ·cases he
 |row e te=>
  refine qe (λ_ _ _ h=>by cases h) λl off len e te rows out kp h3 h4=>?_
  subst h3
  simp only [eT,St.at,h4] at he
  cases he
 |Ds e te=>
  refine qe (λ_ _ _ h=>by cases h) λl off len e te rows out kp h3 h4=>?_
  subst h3
  simp only [eT,St.at,h4] at he
  cases he
 |part e te=>cases a<;>simp [eT] at he
 |Aj e te kp=>
  cases a<;>simp only [eT] at he<;>try (cases he;done)
  rename_i l off len
  split at he
  ·rename_i e' Li rows kp' hl
   split at he
   ·rename_i hc
    obtain ⟨rfl,rfl,rfl,rfl⟩:=hc
    simp only [Option.some.injEq,Prod.mk.injEq] at he
    obtain ⟨rfl,rfl⟩:=he
    unfold St.at at hl
    obtain ⟨b,sz,n,h1,h2,_,h3⟩:=hu
    rw [hl] at h1;cases h1
    simp only [OB.row,Option.some.injEq,Prod.mk.injEq] at h2
    obtain ⟨rfl,rfl⟩:=h2
    have hb:=((h.heap l).Ku hl).1
    refine ⟨π l,⟨h3,Tu.Ep hb λb hb=>hb.imp id .inl⟩,λq hq=>⟨l,q,rfl,hq,λb hb=>h.sub l q b hq hb,λ_ b hb=>hb⟩,λl' Aom Aoh _ _ _ _ _ he _=>?_⟩
    simp only [AC.own.injEq] at he
    rw [he.1]
   ·cases he
  ·cases he
theorem Et.congr {D:Nat->Prop} {ρ ρ':Pi} : ∀(cs:List CK) (k:Nat) (x:CKs.den cs) (us:List Value),(∀j,k<=j->ρ' (Ff j)=ρ (Ff j))->Et w D ρ k cs x us->Et w D ρ' k cs x us
 | [],_,_,[],_,h=>h
 | [],_,_,_::_,_,h=>h.elim
 |_::_,_,_,[],_,h=>h.elim
 |c::r,k,x,u::us,he,h=>⟨by rw [he k (Nat.le_refl _)];exact h.1,Et.congr r (k+1) x.2 us (λj hj=>he j (by omega)) h.2⟩
theorem sQ {st:St} (h:Ih X w π st.heap): ∀(cs:List CK) (k:Nat) (as:List AC) (us:List Value) (x:CKs.den cs) (ls:List Nat),Ii X w π st.heap as us->Oo st cs as=some (x,ls)->ls.Nodup->
  ∃ρ:Pi,Et w (λb=>No π b\/X.Sc b) ρ k cs x us/\(∀l q,ρ l=some q-> ∃j,k<=j/\j<k+cs.length/\l=Ff j)/\(∀l q b,ρ l=some q->q.Bb b-> ∃l0∈ls,∃p,π l0=some p/\p.cl b/\((cs.all λc=>!c.WE)=true->p.Bb b))/\
   (∀l l' q q' b,ρ l=some q->ρ l'=some q'->q.Bb b->q'.Bb b->l=l')/\
   (∀(j l off len:Nat) e te rows out kp,as[j]?=some (.own l off len)->Ad st.heap l=some (.Aj e te rows out kp)->ρ (Ff (k+j))=π l)
 | [],k,[],[],x,ls,_,he,_=>by
  simp only [Oo,Option.some.injEq,Prod.mk.injEq] at he
  exact ⟨λ_=>none,trivial,(λl q h=>by cases h),(λl q b h=>by cases h),(λl l' q q' b h=>by cases h),λj l off len e te rows out kp h=>by simp at h⟩
 | [],_,[],_::_,_,_,h,_,_=>h.elim
 | [],_,_::_,_,_,_,_,he,_=>by simp [Oo] at he
 |_::_,_,[],_,_,_,_,he,_=>by simp [Oo] at he
 |_::_,_,_::_,[],_,_,h,_,_=>h.elim
 |c::r,k,a::as,u::us,x,ls,hr,he,RL=>by
  simp only [Oo] at he
  split at he
  ·rename_i x1 t1 x2 t2 h1 h2
   simp only [Option.some.injEq,Prod.mk.injEq] at he
   obtain ⟨rfl,rfl⟩:=he
   obtain ⟨n1,n2,n3⟩:=List.nodup_append.1 RL
   obtain ⟨ρ,g1,g2,g3,g4,g5⟩:=sQ h r (k+1) as us x2 t2 hr.2 h2 n2
   obtain ⟨rr,r1,r2,r3⟩:=OJ h hr.1 h1
   have x5: ∀l q q0 b,ρ l=some q->rr=some q0->q.Bb b->q0.Bb b->False:= λl q q0 b h3 h4 h5 h6=>by
    obtain ⟨l0,m0,p,p1,p2,_⟩:=g3 l q b h3 h5
    obtain ⟨l1,p',e1,p1',p2',_⟩:=r2 q0 h4
    have:=h.inj l0 l1 p p' b p1 p1' p2 (p2' b h6)
    exact n3 l1 (by rw [e1];simp) l0 m0 this.symm
   refine ⟨λl=>if l=Ff k then rr else ρ l,⟨by simpa using r1,Et.congr r (k+1) x2 us (λj hj=>if_neg (by unfold Ff;omega)) g1⟩,λl q hq=>?_,λl q b hq hb=>?_,λl l' q q' b h3 h4 h5 h6=>?_,λj l off len e te rows out kp hj hl=>?_⟩
   ·dsimp only at hq
    by_cases e:l=Ff k
    ·exact ⟨k,Nat.le_refl _,by simp,e⟩
    ·rw [if_neg e] at hq
     obtain ⟨j,j1,j2,j3⟩:=g2 l q hq
     exact ⟨j,by omega,by simp;omega,j3⟩
   ·dsimp only at hq
    by_cases e:l=Ff k
    ·rw [if_pos e] at hq
     obtain ⟨l1,p',e1,p1',p2',p3'⟩:=r2 q hq
     exact ⟨l1,by rw [e1];simp,p',p1',p2' b hb,λhx=>p3' (by simp only [List.all_cons,Bool.and_eq_true,Bool.not_eq_true'] at hx;exact hx.1) b hb⟩
    ·rw [if_neg e] at hq
     obtain ⟨l0,m0,p,p1,p2,p3⟩:=g3 l q b hq hb
     exact ⟨l0,List.mem_append_right _ m0,p,p1,p2,λhx=>p3 (by simp only [List.all_cons,Bool.and_eq_true] at hx;exact hx.2)⟩
   ·dsimp only at h3 h4
    by_cases e:l=Ff k<;>by_cases e':l'=Ff k
    ·rw [e,e']
    ·rw [if_pos e] at h3;rw [if_neg e'] at h4
     exact (x5 l' q' q b h4 h3 h6 h5).elim
    ·rw [if_neg e] at h3;rw [if_pos e'] at h4
     exact (x5 l q q' b h3 h4 h5 h6).elim
    ·rw [if_neg e] at h3;rw [if_neg e'] at h4
     exact g4 l l' q q' b h3 h4 h5 h6
   ·rcases j with _|j
    ·simp only [List.getElem?_cons_zero,Option.some.injEq] at hj
     show (if Ff k=Ff k then rr else ρ (Ff k))=π l
     rw [if_pos rfl]
     exact r3 l off len e te rows out kp hj hl
    ·have:=g5 j l off len e te rows out kp (by simpa using hj) hl
     show (if Ff (k+(j+1))=Ff k then rr else ρ (Ff (k+(j+1))))=π l
     rw [if_neg (by unfold Ff;omega),<-this,show k+(j+1)=k+1+j by omega]
  ·cases he
theorem yL {r r':Option Real} (h:Vm (r.map full) r') {e:Ty} {xs:List e.den} {te:TypeId} {fr tr:Bool} (ha:Fq X w π r' fr tr e te xs):Mr w (λb=>No π b\/X.Sc b) r e xs:=by
 cases r with
 |none=>cases r' with
  |none=>exact ha
  |some q=>exact h.elim
 |some p=>cases r' with
  |none=>exact h.elim
  |some q=>
   obtain ⟨e1,e2,e3,e4⟩:=h
   obtain ⟨k1,cur,ti,k2,k3,k4,k5,k6,_⟩:=ha
   have e1:p.g=q.g:=e1
   have e2:p.o=q.o:=e2
   have e3:p.cap=q.cap:=e3
   refine ⟨⟨by rw [e1];exact (e4 _).2 k1.1,λb hb=>by rw [e1];exact k1.2.1 b ((e4 b).1 hb)⟩,cur,ti,by rw [e1];exact k2,by rw [e2,e3];exact k3,by rw [e3];exact k4,by rw [e3];exact k5,λi y hy=>?_⟩
   obtain ⟨es,g1,g2,g3⟩:=k6 i y hy
   exact ⟨es,g1,by rw [e2];exact g2,Cells.Ch (Nat.le_refl _) (λ_ _ _=>rfl) (λb _ hb=>hb.imp id .inl) e es y g3⟩
theorem JJ {r r':Option Real} (h:Vm (r.map full) r') {e:Ty} {xs:List e.den} {te:TypeId} (ha:Iu w r' e te xs):Iu w r e te xs:=by
 cases r with
 |none=>cases r' with
  |none=>exact ha
  |some q=>exact h.elim
 |some p=>cases r' with
  |none=>exact h.elim
  |some q=>
   obtain ⟨e1,e2,e3,e4⟩:=h
   obtain ⟨k1,cur,ti,k2,k3,k4,k5,Fs,t1,t2,t3,t4⟩:=ha
   have e1:p.g=q.g:=e1
   have e2:p.o=q.o:=e2
   have e3:p.cap=q.cap:=e3
   exact ⟨by rw [e1];exact (e4 _).2 k1,cur,ti,by rw [e1];exact k2,by rw [e2,e3];exact k3,by rw [e3];exact k4,by rw [e3];exact k5,Fs,t1,by rw [e1];exact t2,λb hb=>(e4 b).2 (t3 b hb),by rw [e2];exact t4⟩
theorem Nw {st:St} {π0:Pi} {D:Nat->Prop} {w0:World} (h:Ih X w π st.heap) (Tl: ∀l,X.cg l=(π0 l).map full): ∀(cs:List (Bool×CK)) (k:Nat) (x:Ins.den cs) (us:List Value) (o:IOs.den cs),aq w0 D π0 k cs x us->Jj st k cs=some o->
  Hc w (λb=>No π b\/X.Sc b) π0 k cs o/\ ∀l∈Ki k cs,Ad st.heap l≠none
 | [],_,_,_,_,_,_=>⟨trivial,λl hl=>by cases hl⟩
 |_::_,_,_,[],_,h,_=>h.elim
 |(false,c)::r,k,x,u::us,o,hi,he=>Nw h Tl r (k+1) x.2 us o hi.2 (by simpa only [Jj] using he)
 |(true, .Dh τ)::r,k,x,u::us,o,hi,he=>Nw h Tl r (k+1) x.2 us o hi.2 (by simpa only [Jj] using he)
 |(true, .Aj e te kp)::r,k,x,u::us,o,hi,he=>Nw h Tl r (k+1) x.2 us o hi.2 (by simpa only [Jj] using he)
 |(true, .row e te)::r,k,x,u::us,o,hi,he=>by
  simp only [Jj] at he
  split at he
  ·rename_i x1 x2 h1 h2
   simp only [Option.some.injEq] at he;subst he
   obtain ⟨g1,g2⟩:=Nw h Tl r (k+1) x.2 us x2 hi.2 h2
   have h0:=hi.1
   simp only [ld] at h1
   split at h1
   ·rename_i fr tr e' Li xs hl
    split at h1
    ·rename_i hc
     obtain ⟨rfl,rfl⟩:=hc
     simp only [Option.some.injEq] at h1;subst h1
     unfold St.at at hl
     have hs:=h.cg (Bl true k) (by have:=Uy k;omega) (by rw [hl];simp)
     rw [Tl] at hs
     exact ⟨⟨yL (te:=Li) hs ((h.heap _).Ku hl),g1⟩,λl Ge=>by
      simp only [Ki] at Ge
      rcases List.mem_cons.1 Ge with rfl|Ge
      ·rw [hl];simp
      ·exact g2 l Ge⟩
    ·cases h1
   ·cases h1
  ·cases he
 |(true, .part e te)::r,k,x,u::us,o,hi,he=>by
  simp only [Jj] at he
  split at he
  ·rename_i x1 x2 h1 h2
   simp only [Option.some.injEq] at he;subst he
   obtain ⟨g1,g2⟩:=Nw h Tl r (k+1) x.2 us x2 hi.2 h2
   have h0:=hi.1
   simp only [ld] at h1
   split at h1
   ·rename_i fr tr e' Li xs hl
    split at h1
    ·rename_i hc
     obtain ⟨rfl,rfl⟩:=hc
     simp only [Option.some.injEq] at h1;subst h1
     unfold St.at at hl
     have hs:=h.cg (Bl true k) (by have:=Uy k;omega) (by rw [hl];simp)
     rw [Tl] at hs
     exact ⟨⟨yL (te:=Li) hs ((h.heap _).Ku hl),g1⟩,λl Ge=>by
      simp only [Ki] at Ge
      rcases List.mem_cons.1 Ge with rfl|Ge
      ·rw [hl];simp
      ·exact g2 l Ge⟩
    ·cases h1
   ·cases h1
  ·cases he
 |(true, .Ds e te)::r,k,x,u::us,o,hi,he=>by
  simp only [Jj] at he
  split at he
  ·rename_i x1 x2 h1 h2
   simp only [Option.some.injEq] at he;subst he
   obtain ⟨g1,g2⟩:=Nw h Tl r (k+1) x.2 us x2 hi.2 h2
   simp only [ld] at h1
   split at h1
   ·rename_i e' Li xs hl
    split at h1
    ·rename_i hc
     obtain ⟨rfl,rfl⟩:=hc
     simp only [Option.some.injEq] at h1;subst h1
     unfold St.at at hl
     have hs:=h.cg (Bl true k) (by have:=Uy k;omega) (by rw [hl];simp)
     rw [Tl] at hs
     exact ⟨⟨JJ (te:=Li) hs ((h.heap _).Ku hl),g1⟩,λl Ge=>by
      simp only [Ki] at Ge
      rcases List.mem_cons.1 Ge with rfl|Ge
      ·rw [hl];simp
      ·exact g2 l Ge⟩
    ·cases h1
   ·cases h1
  ·cases he
theorem qJ {p:Bool×CK} {r:List (Bool×CK)} (h:Ta (p::r)=true):Ta r=true:=by
 rcases p with ⟨_|_,c⟩<;>cases c<;>first|(simp [Ta] at h;done)|simpa [Ta] using h
theorem sE: ∀(cs:List (Bool×CK)) (k:Nat) (x:Ins.den cs) (l:Nat),Ta cs=true->k+cs.length<100000->Ad (Sv k cs x) l≠none-> ¬l<Ak->l∈Ki k cs
 | [],_,_,_,_,_,h,_=>absurd rfl h
 |(io,c)::r,k,x,l,hng,hk,h,hp=>by
  simp only [List.length_cons] at hk
  simp only [Sv] at h
  have tail:Ad (Sv (k+1) r x.2) l≠none->l∈Ki (k+1) r:= λh=>sE r (k+1) x.2 l (qJ hng) (by omega) h hp
  have sub: ∀m,m∈Ki (k+1) r->m∈Ki k ((io,c)::r):= λm hm=>by
   cases io<;>cases c<;>simp only [Ki]<;>first|exact hm|exact List.mem_cons_of_mem _ hm
  cases hc:eO (Bl io k) c x.1 with
  |none=>rw [hc] at h;exact sub l (tail h)
  |some b=>
   rw [hc] at h
   simp only [cC,Ad] at h
   split at h
   ·rename_i e;subst e
    cases io with
    |false=>exact absurd (bf (by omega)) hp
    |true=>cases c with
     |Dh τ=>cases hc
     |row e te=>simp [Ki]
     |Ds e te=>simp [Ki]
     |part e te=>simp [Ki]
     |Aj e te kp=>simp [Ta] at hng
   ·exact sub l (tail h)
theorem ao.Ep {D D':Nat->Prop} (hD: ∀b,D' b->D b) {r:Option Real} {u:Value} {c:CK} {x:c.den} (h:ao w D r u c x):ao w D' r u c x:=by
 cases c with
 |Dh τ=>exact ⟨h.1,h.2.Ep λb _ hb=>hD b hb⟩
 |row e te=>exact ⟨h.1,Mr.Ep h.2 hD⟩
 |Ds e te=>exact h
 |part e te=>exact ⟨h.1,h.2.1,Mr.Ep h.2.2 hD⟩
 |Aj e te kp=>exact ⟨h.1,Tu.Ep h.2 hD⟩
theorem Et.Ep {D D':Nat->Prop} (hD: ∀b,D' b->D b) {ρ:Pi} : ∀(cs:List CK) (k:Nat) (x:CKs.den cs) (us:List Value),Et w D ρ k cs x us->Et w D' ρ k cs x us
 | [],_,_,[],h=>h
 | [],_,_,_::_,h=>h.elim
 |_::_,_,_,[],h=>h.elim
 |_c::r,k,x,_u::us,h=>⟨h.1.Ep hD,Et.Ep hD r (k+1) x.2 us h.2⟩
theorem Hc.Ep {D D':Nat->Prop} (hD: ∀b,D' b->D b) {π:Pi} : ∀(cs:List (Bool×CK)) (k:Nat) (x:IOs.den cs),Hc w D π k cs x->Hc w D' π k cs x
 | [],_,_,h=>h
 |(false,_)::r,k,x,h=>Hc.Ep hD r (k+1) x h
 |(true, .Dh _)::r,k,x,h=>Hc.Ep hD r (k+1) x h
 |(true, .Aj _ _ _)::r,k,x,h=>Hc.Ep hD r (k+1) x h
 |(true, .row _e _te)::r,k,x,h=>⟨Mr.Ep h.1 hD,Hc.Ep hD r (k+1) x.2 h.2⟩
 |(true, .Ds _e _te)::r,k,x,h=>⟨h.1,Hc.Ep hD r (k+1) x.2 h.2⟩
 |(true, .part _e _te)::r,k,x,h=>⟨Mr.Ep h.1 hD,Hc.Ep hD r (k+1) x.2 h.2⟩
theorem aq.congr {D:Nat->Prop} {π0 Wv:Pi} : ∀(cs:List (Bool×CK)) (k:Nat) (x:Ins.den cs) (us:List Value),(∀b j,k<=j->j<k+cs.length->Wv (Bl b j)=π0 (Bl b j))->aq w D π0 k cs x us->aq w D Wv k cs x us
 | [],_,_,[],_,h=>h
 | [],_,_,_::_,_,h=>h
 |_::_,_,_,[],_,h=>h
 |p::r,k,x,u::us,hp,h=>⟨by rw [hp p.1 k (Nat.le_refl _) (by simp)];exact h.1,aq.congr r (k+1) x.2 us (λb j h1 h2=>hp b j (by omega) (by simp;omega)) h.2⟩
theorem Hc.congr {D:Nat->Prop} {π0 Wv:Pi} : ∀(cs:List (Bool×CK)) (k:Nat) (x:IOs.den cs),(∀b j,k<=j->j<k+cs.length->Wv (Bl b j)=π0 (Bl b j))->Hc w D π0 k cs x->Hc w D Wv k cs x
 | [],_,_,_,h=>h
 |(false,c)::r,k,x,hp,h=>by cases c<;>exact Hc.congr r (k+1) x (λb j h1 h2=>hp b j (by omega) (by simp;omega)) h
 |(true, .Dh _)::r,k,x,hp,h=>Hc.congr r (k+1) x (λb j h1 h2=>hp b j (by omega) (by simp;omega)) h
 |(true, .Aj _ _ _)::r,k,x,hp,h=>Hc.congr r (k+1) x (λb j h1 h2=>hp b j (by omega) (by simp;omega)) h
 |(true, .row e te)::r,k,x,hp,h=>⟨by rw [hp true k (Nat.le_refl _) (by simp)];exact h.1,Hc.congr r (k+1) x.2 (λb j h1 h2=>hp b j (by omega) (by simp;omega)) h.2⟩
 |(true, .Ds e te)::r,k,x,hp,h=>⟨by rw [hp true k (Nat.le_refl _) (by simp)];exact h.1,Hc.congr r (k+1) x.2 (λb j h1 h2=>hp b j (by omega) (by simp;omega)) h.2⟩
 |(true, .part e te)::r,k,x,hp,h=>⟨by rw [hp true k (Nat.le_refl _) (by simp)];exact h.1,Hc.congr r (k+1) x.2 (λb j h1 h2=>hp b j (by omega) (by simp;omega)) h.2⟩
theorem Cc.congr {π0 Wv:Pi} : ∀(cs:List (Bool×CK)) (k:Nat) (o:IOs.den cs) (n:Nat) (us as:List Value),(∀b j,k<=j->j<k+cs.length->Wv (Bl b j)=π0 (Bl b j))->Cc π0 k cs o n us as->Cc Wv k cs o n us as
 | [],k,o,0,us,as,_,h=>by simpa [Cc] using h
 | [],k,o,n+1,us,as,_,h=>by simp [Cc] at h
 |p::r,k,o,0,us,as,_,h=>by
  rcases p with ⟨_|_,c⟩<;>cases c<;>simpa [Cc] using h
 |(true, .Dh _)::r,k,o,n+1,us,as,_,h=>by simp [Cc] at h
 |(true, .part _ _)::r,k,o,n+1,us,as,_,h=>by simp [Cc] at h
 |(true, .Aj _ _ _)::r,k,o,n+1,us,as,_,h=>by simp [Cc] at h
 |(true, .row e te)::r,k,o,n+1,[],as,_,h=>by simp [Cc] at h
 |(true, .Ds e te)::r,k,o,n+1,[],as,_,h=>by simp [Cc] at h
 |(true, .row e te)::r,k,o,n+1,u::us,as,hp,h=>by
  simp only [Cc] at h⊢
  exact ⟨by rw [hp true k (Nat.le_refl _) (by simp)];exact h.1,Cc.congr r (k+1) o.2 n us as (λb j h1 h2=>hp b j (by omega) (by simp;omega)) h.2⟩
 |(true, .Ds e te)::r,k,o,n+1,u::us,as,hp,h=>by
  simp only [Cc] at h⊢
  exact ⟨by rw [hp true k (Nat.le_refl _) (by simp)];exact h.1,Cc.congr r (k+1) o.2 n us as (λb j h1 h2=>hp b j (by omega) (by simp;omega)) h.2⟩
 |(false,c)::r,k,o,n+1,[],as,_,h=>by cases c<;>simp [Cc] at h
 |(false,c)::r,k,o,n+1,u::us,[],_,h=>by cases c<;>simp [Cc] at h
 |(false,c)::r,k,o,n+1,u::us,a::as,hp,h=>by
  have h:u=a/\Cc π0 (k+1) r o n us as:=by cases c<;>exact h
  have:=Cc.congr r (k+1) o n us as (λb j h1 h2=>hp b j (by omega) (by simp;omega)) h.2
  cases c<;>exact ⟨h.1,this⟩
theorem lv: ∀(A B:List (Nat×OB)) (l:Nat),Ad (A++B) l=match Ad A l with|some b=>some b|none=>Ad B l
 | [],B,l=>rfl
 |(k,b)::A,B,l=>by
  simp only [List.cons_append,Ad]
  split
  ·rfl
  ·exact lv A B l
theorem oK {st:St} : ∀(cs:List CK) (as:List AC) (x:CKs.den cs) (ls:List Nat),Oo st cs as=some (x,ls)-> ∀l∈ls,∃b,Ad st.heap l=some b/\b.row≠none
 | [],[],x,ls,he=>by
  simp only [Oo,Option.some.injEq,Prod.mk.injEq] at he
  obtain ⟨_,rfl⟩:=he
  intro l hl;cases hl
 | [],_::_,_,_,he=>by simp [Oo] at he
 |_::_,[],_,_,he=>by simp [Oo] at he
 |c::r,a::as,x,ls,he=>by
  simp only [Oo] at he
  split at he
  ·rename_i x1 t1 x2 t2 h1 h2
   simp only [Option.some.injEq,Prod.mk.injEq] at he
   obtain ⟨_,rfl⟩:=he
   intro l hl
   rcases List.mem_append.1 hl with hl|hl
   ·unfold eT at h1
    split at h1
    ·split at h1
     ·cases hv:Bn st _ a with
      |none=>rw [hv] at h1;cases h1
      |some p=>rw [hv] at h1;simp only [Option.map_some,Option.some.injEq,Prod.mk.injEq] at h1;obtain ⟨_,rfl⟩:=h1;cases hl
     ·cases h1
    all_goals (repeat' split at h1)
    all_goals first|(cases h1;done)|skip
    all_goals (simp only [Option.some.injEq,Prod.mk.injEq] at h1;obtain ⟨_,rfl⟩:=h1)
    all_goals first|(cases hl;done)|skip
    all_goals (have hl:=List.mem_singleton.1 hl;subst hl)
    all_goals (rename_i heq _;exact ⟨_,heq,by simp [OB.row]⟩)
   ·exact oK r as x2 t2 h2 l hl
  ·cases he
theorem lJ {r r':Option Real} {sz off len:Nat} {v:Value} (h:Vm r r') (hv:Eb r' sz off len v):Eb r sz off len v:=by
 cases r<;>cases r'<;>first|exact h.elim|skip
 ·exact hv
 ·obtain ⟨h1,h2,h3,_⟩:=h
  obtain ⟨ad,g1,g2,g3⟩:=hv
  exact ⟨ad,by rw [h3];exact g1,by rw [h3];exact g2,by rw [h1,h2,h3];exact g3⟩
theorem Sa {st:St} {π0:Pi} (hs: ∀k,Ad st.heap (Bl true k)≠none->Vm ((π0 (Bl true k)).map full) (π (Bl true k))):
  ∀(cs:List (Bool×CK)) (k:Nat) (vs:List AC) (us:List Value) (bc:List AC) (o:IOs.den cs),Ii X w π st.heap vs us->Ew k cs vs=some bc->cZ st vs cs->Jj st k cs=some o->
   ∃bv,Ii X w π st.heap bc bv/\bv.length=oZ cs vs.length/\ ∀tl,Cc π0 k cs o vs.length us (bv++tl)
 |cs,k,[],us,bc,o,hr,he,_,_=>by
  have e1:us= []:=by cases us with|nil=>rfl|cons u us=>exact hr.elim
  have e2:bc= []:=by rcases cs with _|⟨⟨_|_,c⟩,r⟩<;>simpa [Ew] using he.symm
  subst e1;subst e2
  refine ⟨[],trivial,?_,λtl=>?_⟩
  ·rcases cs with _|⟨⟨_|_,c⟩,r⟩<;>rfl
  ·rcases cs with _|⟨⟨_|_,c⟩,r⟩<;>(try cases c)<;>simp [Cc]
 | [],k,a::vs,us,bc,o,hr,he,_,_=>by simp [Ew] at he
 |p::r,k,a::vs,[],bc,o,hr,_,_,_=>hr.elim
 |(false,c)::r,k,a::vs,u::us,bc,o,hr,he,hk,ho=>by
  have he:(Ew (k+1) r vs).map (λl=>a::l)=some bc:=by cases a<;>exact he
  cases hb:Ew (k+1) r vs with
  |none=>rw [hb] at he;cases he
  |some bc'=>
   rw [hb] at he
   simp only [Option.map_some,Option.some.injEq] at he;subst he
   obtain ⟨bv,g1,g2,g3⟩:=Sa hs r (k+1) vs us bc' o hr.2 hb (by cases a<;>exact hk) (by cases c<;>simpa only [Jj] using ho)
   refine ⟨u::bv,⟨hr.1,g1⟩,by simp [oZ,g2],λtl=>?_⟩
   have:=g3 tl
   cases c<;>exact ⟨rfl,this⟩
 |(true,c)::r,k,a::vs,u::us,bc,o,hr,he,hk,ho=>by
  cases c with
  |Dh τ=>cases a<;>simp [Ew] at he
  |part e te=>cases a<;>simp [Ew] at he
  |Aj e te kp=>cases a<;>simp [Ew] at he
  |row e te=>
   cases a<;>first|(simp [Ew] at he;done)|skip
   rename_i l off len
   simp only [Ew] at he
   split at he
   rotate_left
   ·cases he
   rename_i hl
   have hl:l=Bl true k:=Nat.eq_of_beq_eq_true hl
   subst hl
   obtain ⟨⟨rfl,hlen⟩,hk⟩:=hk
   obtain ⟨b,sz,n,h1,h2,h3,h4⟩:=hr.1
   have xC:=hs k (by rw [h1];simp)
   simp only [Jj] at ho
   split at ho
   ·rename_i x1 x2 q1 q2
    simp only [Option.some.injEq] at ho;subst ho
    obtain ⟨bv,g1,g2,g3⟩:=Sa hs r (k+1) vs us bc x2 hr.2 he hk q2
    refine ⟨bv,g1,by simpa [oZ] using g2,λtl=>?_⟩
    refine ⟨?_,g3 tl⟩
    simp only [ld] at q1
    split at q1
    ·rename_i fr tr e' Li xs Ge
     split at q1
     ·rename_i hc
      obtain ⟨rfl,rfl⟩:=hc
      simp only [Option.some.injEq] at q1;subst q1
      unfold St.at at Ge hlen
      rw [Ge] at hlen
      rw [h1] at Ge;cases Ge
      simp only [OB.row,Option.some.injEq,Prod.mk.injEq] at h2
      obtain ⟨rfl,rfl⟩:=h2
      have hlen:len=List.length xs:=hlen
      have:=lJ xC h4
      rw [hlen] at this
      have e0:(π0 (Bl true k)).map full=(π0 (Bl true k)).map full:=rfl
      cases hp:π0 (Bl true k)<;>(rw [hp] at this;exact this)
     ·cases q1
    ·cases q1
   ·cases ho
  |Ds e te=>
   cases a<;>first|(simp [Ew] at he;done)|skip
   rename_i l off len
   simp only [Ew] at he
   split at he
   rotate_left
   ·cases he
   rename_i hl
   have hl:l=Bl true k:=Nat.eq_of_beq_eq_true hl
   subst hl
   obtain ⟨⟨rfl,hlen⟩,hk⟩:=hk
   obtain ⟨b,sz,n,h1,h2,h3,h4⟩:=hr.1
   have xC:=hs k (by rw [h1];simp)
   simp only [Jj] at ho
   split at ho
   ·rename_i x1 x2 q1 q2
    simp only [Option.some.injEq] at ho;subst ho
    obtain ⟨bv,g1,g2,g3⟩:=Sa hs r (k+1) vs us bc x2 hr.2 he hk q2
    refine ⟨bv,g1,by simpa [oZ] using g2,λtl=>?_⟩
    refine ⟨?_,g3 tl⟩
    simp only [ld] at q1
    split at q1
    ·rename_i e' Li xs Ge
     split at q1
     ·rename_i hc
      obtain ⟨rfl,rfl⟩:=hc
      simp only [Option.some.injEq] at q1;subst q1
      unfold St.at at Ge hlen
      rw [Ge] at hlen
      rw [h1] at Ge;cases Ge
      simp only [OB.row,Option.some.injEq,Prod.mk.injEq] at h2
      obtain ⟨rfl,rfl⟩:=h2
      have hlen:len=List.length xs:=hlen
      have:=lJ xC h4
      rw [hlen] at this
      cases hp:π0 (Bl true k)<;>(rw [hp] at this;exact this)
     ·cases q1
    ·cases q1
   ·cases ho
def Af1 (s:MSpec) (g:Nat) (π:Pi):Pi:= λl=>if s.ptr.isSome=true/\l=Js then some ⟨g,0,0,λb=>b=g,λb=>b=g⟩ else π l
def Abw (P:Program) (s:MSpec) (fn:Func) (x:Ins.den s.ins) (w:World) (S:Nat->Prop) (π:Pi) (g:Nat) (r:CKs.den s.outs) (o:IOs.den s.ins) (a':Act) (w':World):Prop:=
 ∃(v:Value) (Mb:List Value) (ρ:Pi),a'.defers= []/\(results fn a'.tmps).run P w'= .ok v w'/\l7 s w' ρ (Mb.drop s.Sy) v/\cj s π w' g Mb o/\Dg w.heap.size (λb=>No π b\/s.gv g b) w w'/\Hc w' (c6 S π ρ) π 0 s.ins o/\Et w' (c6 S π ρ) ρ 0 s.outs r Mb/\
  ar ρ (λb=>b<w'.heap.size/\(w.heap.size<=b\/ ∃l q,l<Ak/\π l=some q/\q.Bb b))/\(∀l,(∀k,k<s.Nl->l≠Ff k)->ρ l=none)/\(∀kj∈s.keeps,rW w w' (π (Bl false kj.1)) (ρ (Ff kj.2)) (s.Ch x))
theorem Et.ME {D:Nat->Prop} {ρ ρ':Pi} : ∀(cs:List CK) (k:Nat) (x:CKs.den cs) (us:List Value),(∀j,k<=j->j<k+cs.length->ρ' (Ff j)=ρ (Ff j))->Et w D ρ k cs x us->Et w D ρ' k cs x us
 | [],_,_,[],_,h=>h
 | [],_,_,_::_,_,h=>h.elim
 |_::_,_,_,[],_,h=>h.elim
 |c::r,k,x,u::us,he,h=>⟨by rw [he k (Nat.le_refl _) (by simp)];exact h.1,Et.ME r (k+1) x.2 us (λj hj hl=>he j (by omega) (by simp;omega)) h.2⟩
theorem sH {st:St} {n:Nat} {as:List AC} : ∀ {ks:List (Nat×Nat)},sG st n as ks-> ∀kj∈ks,∃l off len e te rows out p,as[kj.2]?=some (.own l off len)/\Ad st.heap l=some (.Aj e te rows out (some p))/\p.1=Bl false kj.1/\n<=p.2/\kj.1<1000
 | [],_,kj,hm=>by cases hm
 |(k,j)::r,h,kj,hm=>by
  simp only [sG] at h
  rcases List.mem_cons.1 hm with rfl|hm
  ·obtain ⟨h,_⟩:=h
   split at h
   ·rename_i l off len he
    split at h
    ·rename_i e te rows out p hl
     unfold St.at at hl
     exact ⟨l,off,len,e,te,rows,out,p,he,hl,h.1,h.2.1,by simpa using h.2.2⟩
    ·exact h.elim
   ·exact h.elim
  ·exact sH h.2 kj hm
theorem sP {st:St} : ∀(cs:List CK) (as:List AC) (x:CKs.den cs) (ls:List Nat),Oo st cs as=some (x,ls)->as.length=cs.length
 | [],[],_,_,_=>rfl
 | [],_::_,_,_,he=>by simp [Oo] at he
 |_::_,[],_,_,he=>by simp [Oo] at he
 |c::r,a::as,x,ls,he=>by
  simp only [Oo] at he
  split at he
  ·rename_i h1 h2
   simp only [List.length_cons,sP r as _ _ h2]
  ·cases he
theorem yJ {α β:Type} (f:α->Sem β): ∀(l:List α) (vs:List β),vs.length=l.length->(∀(i:Nat) a v,l[i]?=some a->vs[i]?=some v->(f a).run P w= .ok v w)->(l.mapM f).run P w= .ok vs w
 | [],[],_,_=>by simp
 | [],_::_,h,_=>by simp at h
 |_::_,[],h,_=>by simp at h
 |a::l,v::vs,h,hr=>by
  rw [List.mapM_cons]
  simp only [Sem.run_bind,hr 0 a v rfl rfl,Result.andThen_ok,yJ f l vs (by simpa using h) (λi a' v' ha hv=>hr (i+1) a' v' (by simpa using ha) (by simpa using hv)),Sem.run_pure]
theorem qo (hT:Ca P T) (Mq:Hi P Γ) (hm:P.follows .mixedOrders=true) {f:FuncId} {fn:Func} (hf:P.funcs[f]?=some fn) (s:MSpec) (w:World) (S:Nat->Prop) (π:Pi) (us:List Value) (x:Ins.den s.ins)
  (r:CKs.den s.outs) (o:IOs.den s.ins) (g:Nat) (ij:List Value) (Lf:jJ s w g us ij) (hSg:s.ptr.isSome=true->S g) (cT:aq w (λb=>No π b\/S b) π 0 s.ins x us) (eo:ar π (λb=>b<w.heap.size)) (hS: ∀b,S b->b<w.heap.size/\ ¬No π b) (MK: ∀l,Ad (Sv 0 s.ins x) l=none->π l=none) (he:UM T Γ s fn x λz=>z=(r,o)):
  Calls P f ij.toArray w λe w'=> ∃v Mb ρ,e= .returned v/\l7 s w' ρ (Mb.drop s.Sy) v/\cj s π w' g Mb o/\Dg w.heap.size (λb=>No π b\/s.gv g b) w w'/\Hc w' (c6 S π ρ) π 0 s.ins o/\Et w' (c6 S π ρ) ρ 0 s.outs r Mb/\
   ar ρ (λb=>b<w'.heap.size/\(w.heap.size<=b\/ ∃l q,l<Ak/\π l=some q/\q.Bb b))/\(∀l,(∀k,k<s.Nl->l≠Ff k)->ρ l=none)/\(∀kj∈s.keeps,rW w w' (π (Bl false kj.1)) (ρ (Ff kj.2)) (s.Ch x)):=by
 obtain ⟨hlen,c,hb,he⟩:=he
 simp only [Bool.and_eq_true,Nat.blt_eq] at hlen
 obtain ⟨hlen,MN⟩:=hlen
 unfold uZ at MN
 simp only [Bool.and_eq_true] at MN
 have Acw:=MN.1
 let m6:Pi:=Af1 s g π
 let Sg:Nat->Prop:= λb=>S b/\ ¬s.gv g b
 have hvl: ∀b j,j<1000->Bl b j≠Js:= λb j hj=>by cases b<;>(unfold Bl Js;simp;omega)
 have uf: ∀b j,0<=j->j<0+s.ins.length->m6 (Bl b j)=π (Bl b j):= λb j _ hj=>if_neg λh=>hvl b j (by omega) h.2
 have VP: ∀b j,0<=j->j<0+s.ins.length->π (Bl b j)=m6 (Bl b j):= λb j h1 h2=>(uf b j h1 h2).symm
 have ZE:Ad (Sv 0 s.ins x) Js=none:=Classical.byContradiction λhn=>by
  obtain ⟨b,j,_,h2,h3⟩:=oh s.ins 0 x Js hn
  exact hvl b j (by omega) h3.symm
 have KF: ∀l q,m6 l=some q->(π l=some q/\(s.ptr.isSome=true->l≠Js))\/(s.ptr.isSome=true/\l=Js/\q=⟨g,0,0,λb=>b=g,λb=>b=g⟩):= λl q hq=>by
  have hq:(if s.ptr.isSome=true/\l=Js then some ⟨g,0,0,λb=>b=g,λb=>b=g⟩ else π l)=some q:=hq
  split at hq
  ·rename_i hc;exact .inr ⟨hc.1,hc.2,(Option.some.inj hq).symm⟩
  ·rename_i hc;exact .inl ⟨hq,λh1 h2=>hc ⟨h1,h2⟩⟩
 have Su: ∀b,No m6 b↔No π b\/s.gv g b:= λb=>by
  constructor
  ·rintro ⟨l,q,h1,h2⟩
   rcases KF l q h1 with ⟨h3,_⟩|⟨h3,h4,rfl⟩
   ·exact .inl ⟨l,q,h3,h2⟩
   ·exact .inr ⟨h3,h2⟩
  ·rintro (⟨l,q,h1,h2⟩|⟨h1,rfl⟩)
   ·refine ⟨l,q,?_,h2⟩
    show (if s.ptr.isSome=true/\l=Js then _ else π l)=some q
    rw [if_neg]
    ·exact h1
    ·rintro ⟨_,rfl⟩
     rw [MK Js ZE] at h1;cases h1
   ·exact ⟨Js,⟨b,0,0,λc=>c=b,λc=>c=b⟩,if_pos ⟨h1,rfl⟩,rfl⟩
 have hgS: ∀b,s.gv g b->S b:= λb ⟨h1,h2⟩=>h2▸hSg h1
 have YC:aq w (λb=>No m6 b\/Sg b) m6 0 s.ins x us:=aq.congr s.ins 0 x us uf (aq.Ep (λb hb=>by
  rcases hb with hb|hb
  ·rcases (Su b).1 hb with hb|hb
   ·exact .inl hb
   ·exact .inr (hgS b hb)
  ·exact .inr hb.1) s.ins 0 x us cT)
 have Ad1:ar m6 (λb=>b<w.heap.size):=⟨λl q b h1 h2=>by
  rcases KF l q h1 with ⟨h3,_⟩|⟨h3,h4,rfl⟩
  ·exact eo.Ue l q b h3 h2
  ·exact (hS b (hgS b ⟨h3,h2⟩)).1,λl l' q q' b h1 h2 h3 h4=>by
  rcases KF l q h1 with ⟨h5,_⟩|⟨h5,h6,rfl⟩<;>rcases KF l' q' h2 with ⟨h7,_⟩|⟨h7,h8,rfl⟩
  ·exact eo.inj l l' q q' b h5 h7 h3 h4
  ·exact absurd ⟨l,q,h5,h3⟩ (hS b (hgS b ⟨h7,h4⟩)).2
  ·exact absurd ⟨l',q',h7,h4⟩ (hS b (hgS b ⟨h5,h3⟩)).2
  ·rw [h6,h8]⟩
 have Agy: ∀b,Sg b->b<w.heap.size/\ ¬No m6 b:= λb hb=>⟨(hS b hb.1).1,λho=>((Su b).1 ho).elim (hS b hb.1).2 hb.2⟩
 have FN: ∀l,Ad (lz s x) l=match Ad (Sv 0 s.ins x) l with|some b=>some b|none=>if l=Js then s.ptr.map λp=> .var p.1 ((Wb 0 s.ins x).take p.2) else none:= λl=>by
  unfold lz
  cases hp:s.ptr with
  |none=>cases Ad (Sv 0 s.ins x) l<;>simp
  |some p=>
   simp only
   rw [lv]
   cases Ad (Sv 0 s.ins x) l with
   |some b=>rfl
   |none=>
    simp only [Ad,Option.map_some]
    by_cases e:l=Js
    ·rw [if_pos e,if_pos e.symm]
    ·rw [if_neg e,if_neg (λh=>e h.symm)]
 let π0:Pi:= λl=>(m6 l).map full
 have un: ∀l q,π0 l=some q-> ∃q0,m6 l=some q0/\q=full q0:= λl q hq=>by
  have hq:(m6 l).map full=some q:=hq
  cases hp:m6 l with
  |none=>rw [hp] at hq;cases hq
  |some q0=>rw [hp] at hq;exact ⟨q0,rfl,(Option.some.inj hq).symm⟩
 have MQ: ∀l b,Ad (Sv 0 s.ins x) l=some b->Ad (lz s x) l=some b:= λl b hb=>by rw [FN l,hb]
 have YX:Ii ⟨w,Sg,No m6,π0⟩ w π0 (lz s x) (Wb 0 s.ins x) us:=xG (λ_=>rfl) s.ins 0 x us (by omega) YC MQ
 have NF:s.ptr.isSome=true->π0 Js=some ⟨g,0,0,λb=>b=g,λb=>b=g⟩:= λhp=>by
  show (if s.ptr.isSome=true/\Js=Js then _ else π Js).map full=_
  rw [if_pos ⟨hp,rfl⟩];rfl
 obtain ⟨g1,g2⟩:(Tz s (Wb 0 s.ins x)).length=ij.length/\ ∀(i:Nat) c v,(Tz s (Wb 0 s.ins x))[i]?=some c->ij[i]?=some v->An ⟨w,Sg,No m6,π0⟩ w π0 (lz s x) c v:=by
  unfold jJ at Lf
  cases hp:s.ptr with
  |none=>
   rw [hp] at Lf
   obtain ⟨rfl,zF⟩:=Lf
   obtain ⟨g1,g2,_,_⟩:=Zm s.Fk _ us zF YX
   rw [show Tz s (Wb 0 s.ins x)=Mv s.Fk (Wb 0 s.ins x) by unfold Tz;rw [hp]]
   exact ⟨g1,g2⟩
  |some p=>
   rw [hp] at Lf
   obtain ⟨rfl,zF,_⟩:=Lf
   obtain ⟨g1,g2,_,_⟩:=Zm s.Fk _ (us.drop p.2) zF (Ii.take p.2 YX).2
   rw [show Tz s (Wb 0 s.ins x)= .at (.Dv Js 0)::Mv s.Fk ((Wb 0 s.ins x).drop p.2) by unfold Tz;rw [hp]]
   refine ⟨by simp [g1],λi c v h1 h2=>?_⟩
   rcases i with _|i
   ·simp only [List.getElem?_cons_zero,Option.some.injEq] at h1 h2
    subst h1;subst h2
    exact ⟨_,p.1,(Wb 0 s.ins x).take p.2,by rw [FN,ZE];simp [hp],NF (by rw [hp];rfl),rfl⟩
   ·exact g2 i c v (by simpa using h1) (by simpa using h2)
 have h0:Rel ⟨w,Sg,No m6,π0⟩ {tmps:=Tz s (Wb 0 s.ins x)++List.replicate (fn.ntmps-(Tz s (Wb 0 s.ins x)).length) .undef,heap:=lz s x}
   {tmps:=ij.toArray++Array.replicate (fn.ntmps-ij.toArray.size) undef,defers:= []} w:=by
  refine ⟨π0,⟨Dg.refl _ _ _,λb hb=>Agy b hb,λl q b h1 h2=>?_,λl q b h1 h2=>?_,λl l' q q' b h1 h2 h3 h4=>?_,λl _ _=>Vm.rfl' _,λl=>?_⟩,⟨by simp [g1],rfl,λt=>?_⟩⟩
  ·obtain ⟨q0,_,rfl⟩:=un l q h1;exact h2
  ·obtain ⟨q0,h3,rfl⟩:=un l q h1
   exact ⟨.inr ⟨l,q0,h3,h2⟩,Ad1.Ue l q0 b h3 h2⟩
  ·obtain ⟨q0,h5,rfl⟩:=un l q h1
   obtain ⟨q0',h6,rfl⟩:=un l' q' h2
   exact Ad1.inj l l' q0 q0' b h5 h6 h3 h4
  ·cases hh:Ad (Sv 0 s.ins x) l with
   |none=>
    by_cases hv:s.ptr.isSome=true/\l=Js
    ·obtain ⟨hps,rfl⟩:=hv
     obtain ⟨p,hp⟩:=Option.isSome_iff_exists.1 hps
     refine Cv.Gx (b:= .var p.1 ((Wb 0 s.ins x).take p.2)) ?_ (by rw [FN,hh];simp [hp])
     unfold jJ at Lf
     rw [hp] at Lf
     obtain ⟨_,_,h1,h2,h3⟩:=Lf
     rw [NF hps]
     exact ⟨_,rfl,rfl,_,h2,Ii.to (Ii.take p.2 YX).1 h3⟩
    ·refine Cv.Nr ?_ ?_
     ·show (if s.ptr.isSome=true/\l=Js then _ else π l).map full=none
      rw [if_neg hv,MK l hh];rfl
     ·rw [FN,hh]
      simp only
      split
      ·rename_i e
       cases hp:s.ptr with
       |none=>rfl
       |some p=>exact absurd ⟨by rw [hp];rfl,e⟩ hv
      ·rfl
   |some b=>exact Cv.Gx (gA (π0:=m6) (λb hb=>by
    rcases hb with ⟨l,q,h1,h2⟩|hb|⟨hb,_⟩
    ·obtain ⟨q0,h3,rfl⟩:=un l q h1;exact .inl ⟨l,q0,h3,h2⟩
    ·exact .inr hb
    ·cases hb) rfl (λ_=>rfl) s.ins 0 x us YC l b hh) (MQ l b hh)
  ·show An _ w _ _ ((Tz s (Wb 0 s.ins x)++List.replicate _ AV.undef).getD t .undef) ((ij.toArray++Array.replicate _ undef).getD t undef)
   by_cases ht:t<ij.length
   ·rw [List.getD_eq_getElem?_getD,List.getElem?_append_left (by omega),<-List.getD_eq_getElem?_getD]
    rw [Array.getD_eq_getD_getElem?,Array.getElem?_append_left (by simpa using ht)]
    have:=g2 t _ _ (List.getElem?_eq_getElem (by omega)) (List.getElem?_eq_getElem ht)
    simpa [List.getD_eq_getElem?_getD,List.getElem?_eq_getElem ht,List.getElem?_eq_getElem (show t<(Tz s (Wb 0 s.ins x)).length by omega)] using this
   ·have:(Tz s (Wb 0 s.ins x)++List.replicate (fn.ntmps-(Tz s (Wb 0 s.ins x)).length) AV.undef).getD t .undef= .undef:=by
     rw [List.getD_eq_getElem?_getD,List.getElem?_append_right (by omega)]
     rw [List.getElem?_replicate]
     split<;>rfl
    rw [this];trivial
 have fin: ∀(st:St) (a':Act) (w':World),LN T s fn x st (λz=>z=(r,o))->Rel ⟨w,Sg,No m6,π0⟩ st a' w'->Abw P s fn x w S π g r o a' w':=by
  intro st a' w' mj hrel
  obtain ⟨Wv,h'⟩:=hrel
  have VU:Ak<=Js:=by unfold Ak Js;omega
  obtain ⟨bc,lu,Aiy,hbc⟩: ∃bc,eB T s fn x st bc (λz=>z=(r,o))/\(s.ptr.isSome=true-> ∃b,Ad st.heap Js=some b/\b.row=none)/\
    (Jj st 0 s.ins=some o-> ∃bv,Ii ⟨w,Sg,No m6,π0⟩ w' Wv st.heap bc bv/\bv.length=s.Sy/\ ∀tl,cj s π w' g (bv++tl) o):=by
   unfold LN at mj
   cases hp:s.ptr with
   |none=>
    rw [hp] at mj
    exact ⟨[],mj,λh=>by simp at h,λ_=>⟨[],trivial,by simp [MSpec.Sy,hp],λtl=>by simp [cj,hp]⟩⟩
   |some p=>
    rw [hp] at mj
    obtain ⟨vs,cs,h1,h2,h3,h4,h5⟩:=mj
    unfold St.at at h1
    refine ⟨cs,h5,λ_=>⟨_,h1,rfl⟩,λuc=>?_⟩
    obtain ⟨q,k1,k2,cur,k3,k4⟩:=(h'.1.heap Js).Ku h1
    have hsv:Vm (π0 Js) (Wv Js):=h'.1.cg Js VU (by rw [h1];simp)
    rw [NF (by rw [hp];rfl),k1] at hsv
    have hqg:g=q.g:=hsv.1
    obtain ⟨bv,g1,g2,g3⟩:=Sa (π0:=m6) (λk hk=>h'.1.cg _ (Nat.le_of_not_lt (Uy k)) hk) s.ins 0 vs cur.toList cs o (Ii.of k4) h3 h4 uc
    refine ⟨bv,g1,by rw [g2,h2];simp [MSpec.Sy,hp],λtl=>?_⟩
    unfold cj
    rw [hp]
    refine ⟨cur.toList,by rw [hqg];simpa using k3,λu hu=>?_,Cc.congr s.ins 0 o p.2 _ _ VP (h2▸g3 tl)⟩
    obtain ⟨i,hi,rfl⟩:=List.mem_iff_getElem.1 hu
    have hl:=k4.1
    obtain ⟨u',h6,h7,_⟩:=k4.2 i (vs[i]'(by omega)) (List.getElem?_eq_getElem _)
    rw [List.getElem?_eq_getElem hi] at h6
    rw [Option.some.inj h6];exact h7
  unfold eB at lu
  split at lu
  ·exact lu.elim
  rename_i l hl
  split at lu
  ·exact lu.elim
  rename_i as ml cU
  split at lu
  rotate_left
  ·exact lu.elim
  rename_i r' ls o' AS so
  obtain ⟨Fe,sx,MZ⟩:=lu
  simp only [Bool.and_eq_true,Nat.blt_eq] at Fe
  obtain ⟨⟨⟨RL,Amv⟩,Aku⟩,Acr⟩:=Fe
  simp only [Prod.mk.injEq] at MZ
  obtain ⟨rfl,rfl⟩:=MZ
  obtain ⟨bv,hbv,Aha,Ah8⟩:=hbc so
  have AQ:=Ra RL
  obtain ⟨n1,n2,n3⟩:=List.nodup_append.1 AQ
  obtain ⟨m1,m2,m3⟩:=List.nodup_append.1 n1
  obtain ⟨vs,v1,v2,v3,v4⟩:=Rc hT h' _ _ hl
  have SV:fn.results=fn.results.toList.toArray:=Array.toArray_toList.symm
  have Pa: ∀v,(if h:vs.toArray.size=1 then vs.toArray[0] else .tuple vs.toArray)=v->(results fn a'.tmps).run P w'= .ok v w':=by
   intro v hv
   rw [bd,SV,List.mapM_toArray]
   simp only [map_eq_pure_bind,bind_assoc,pure_bind]
   simp only [Sem.run_bind,yJ (CX a'.tmps) _ vs v1 v3,Result.andThen_ok,Sem.run_pure]
   rw [hv]
  obtain ⟨rG,v,qm,Aix,hv,VV⟩: ∃rG v qm,Ii ⟨w,Sg,No m6,π0⟩ w' Wv st.heap as rG/\(results fn a'.tmps).run P w'= .ok v w'/\
    ((s.rp=none/\ml= []/\qm=none/\PB s.Dn s.Ek rG v/\Xx s.Ek rG)\/
     ∃tid m q,s.rp=some tid/\ml= [m]/\m<Ak/\qm=some q/\Wv m=some q/\q.Bb q.g/\w'.heap[q.g]?=some (.cells rG.toArray tid (0,0))/\(∀u∈rG,u.oneCell'=true)/\v= .pointer (some ⟨q.g,0,none⟩)):=by
   unfold CW at cU
   split at cU
   ·rename_i zE
    split at cU
    rotate_left
    ·cases cU
    rename_i hmul
    cases LH:ungroup s.Ek l with
    |none=>rw [LH] at cU;cases cU
    |some as'=>
     rw [LH] at cU
     simp only [Option.map_some,Option.some.injEq,Prod.mk.injEq] at cU
     obtain ⟨rfl,rfl⟩:=cU
     obtain ⟨rG,e1,e2,e3⟩:=Te s.Ek l vs as' (by omega) v4 LH
     have hv: ∃v,(results fn a'.tmps).run P w'= .ok v w'/\PB s.Dn s.Ek rG v:=by
      unfold PB
      rw [<-e1,hmul]
      rcases Nat.lt_or_ge 1 l.length with h1|h1
      ·have ub:Nat.blt 1 l.length=true:=by simpa using h1
       simp only [ub,if_true]
       refine ⟨.tuple vs.toArray,Pa _ ?_,rfl⟩
       rw [dif_neg (by simp;omega)]
      ·have ub:Nat.blt 1 l.length=false:=by rw [<-Bool.not_eq_true];simpa using h1
       simp only [ub,Bool.false_eq_true,if_false]
       rcases vs with _|⟨v,_|⟨v',vs⟩⟩
       ·exact ⟨_,Pa _ (by simp;rfl), .inr rfl⟩
       ·exact ⟨v,Pa _ (by simp), .inl rfl⟩
       ·exfalso;simp only [List.length_cons] at v1;omega
     obtain ⟨v,hv1,hv2⟩:=hv
     exact ⟨rG,v,none,e3,hv1, .inl ⟨zE,rfl,rfl,hv2,e2⟩⟩
   ·rename_i tid zE
    split at cU
    rotate_left
    ·cases cU
    rename_i m i
    split at cU
    rotate_left
    ·cases cU
    rename_i Of vs' hm
    split at cU
    rotate_left
    ·cases cU
    rename_i hc
    obtain ⟨rfl,rfl,RJ⟩:=hc
    simp only [Option.some.injEq,Prod.mk.injEq] at cU
    obtain ⟨rfl,rfl⟩:=cU
    unfold St.at at hm
    rcases vs with _|⟨v,_|⟨v',vs⟩⟩
    ·exfalso;simp only [List.length_cons,List.length_nil] at v1 v2;omega
    ·obtain ⟨q,Aox,vs2,q1,q2,q3⟩:=v4 0 _ v rfl rfl
     rw [hm] at q1;cases q1
     obtain ⟨q',k1,k2,cur,k3,k4⟩:=(h'.1.heap m).Ku hm
     rw [q2] at k1;cases k1
     refine ⟨cur.toList,v,some q,Ii.of k4,Pa _ (by simp), .inr ⟨_,m,q,zE,rfl,by simpa using RJ,rfl,q2,k2,by simpa using k3,λu hu=>?_,q3⟩⟩
     obtain ⟨i,hi,rfl⟩:=List.mem_iff_getElem.1 hu
     have hl:=k4.1
     obtain ⟨u',h6,h7,_⟩:=k4.2 i (vs'[i]'(by omega)) (List.getElem?_eq_getElem _)
     rw [List.getElem?_eq_getElem hi] at h6
     rw [Option.some.inj h6];exact h7
    ·exfalso;simp only [List.length_cons,List.length_nil] at v1 v2;omega
  obtain ⟨wB,p1,p2,p3,p4,p5⟩:=sQ h'.1 s.outs 0 (bc++as) (bv++rG) r' ls (hbv.append Aix) AS m2
  obtain ⟨io1,io2⟩:=Nw (π0:=m6) h'.1 (λ_=>rfl) s.ins 0 x us o' YC so
  have Acg:(bv++rG).drop s.Sy=rG:=by rw [<-Aha];simp
  let ρ:Pi:= λl0=>if l0=Ff s.outs.length then qm else wB l0
  have ZK:ρ (Ff s.outs.length)=qm:=if_pos rfl
  have Adt: ∀l0,l0≠Ff s.outs.length->ρ l0=wB l0:= λl0 h=>if_neg h
  have Ads: ∀j,j<s.outs.length->ρ (Ff j)=wB (Ff j):= λj hj=>Adt _ (by unfold Ff;omega)
  have qa: ∀l0 q,ρ l0=some q->(l0=Ff s.outs.length/\qm=some q)\/(l0≠Ff s.outs.length/\wB l0=some q):= λl0 q h=>by
   by_cases e:l0=Ff s.outs.length
   ·subst e;rw [ZK] at h;exact .inl ⟨rfl,h⟩
   ·rw [Adt l0 e] at h;exact .inr ⟨e,h⟩
  have Ad6: ∀q,qm=some q-> ∃m,ml= [m]/\m<Ak/\Wv m=some q:= λq hq=>by
   rcases VV with ⟨_,_,h1,_⟩|⟨_,m,q',_,h1,h2,h3,h4,_⟩
   ·rw [h1] at hq;cases hq
   ·rw [h3] at hq;cases hq;exact ⟨m,h1,h2,h4⟩
  have p3': ∀l0 q b,ρ l0=some q->q.Bb b-> ∃l1∈ml++ls,∃p,Wv l1=some p/\p.cl b/\((s.outs.all λc=>!c.WE)=true->p.Bb b)/\((l1∈ls)\/l1<Ak):= λl0 q b h1 h2=>by
   rcases qa l0 q h1 with ⟨_,h3⟩|⟨_,h3⟩
   ·obtain ⟨m,e1,e2,e3⟩:=Ad6 q h3
    exact ⟨m,by rw [e1];simp,q,e3,h'.1.sub m q b e3 h2,λ_=>h2, .inr e2⟩
   ·obtain ⟨l1,g1,p,g2,g3,g4⟩:=p3 l0 q b h3 h2
    exact ⟨l1,List.mem_append_right _ g1,p,g2,g3,g4, .inl g1⟩
  have p4': ∀l0 l1 q q' b,ρ l0=some q->ρ l1=some q'->q.Bb b->q'.Bb b->l0=l1:= λl0 l1 q q' b h1 h2 h3 h4=>by
   have x5: ∀l0 q q' b,wB l0=some q->qm=some q'->q.Bb b->q'.Bb b->False:= λl0 q q' b h1 h2 h3 h4=>by
    obtain ⟨m,e1,e2,e3⟩:=Ad6 q' h2
    obtain ⟨l1,g1,p,g2,g3,_⟩:=p3 l0 q b h1 h3
    have:=h'.1.inj m l1 q' p b e3 g2 (h'.1.sub m q' b e3 h4) g3
    exact m3 m (by rw [e1];simp) l1 g1 this
   rcases qa l0 q h1 with ⟨e1,h5⟩|⟨e1,h5⟩<;>rcases qa l1 q' h2 with ⟨e2,h6⟩|⟨e2,h6⟩
   ·rw [e1,e2]
   ·exact (x5 l1 q' q b h6 h5 h4 h3).elim
   ·exact (x5 l0 q q' b h5 h6 h3 h4).elim
   ·exact p4 l0 l1 q q' b h5 h6 h3 h4
  have FT: ∀l0 q,Ak<=l0->m6 l0=some q->Ad st.heap l0≠none/\(l0∈Ki 0 s.ins\/ ∃b,Ad st.heap l0=some b/\b.row=none):= λl0 q h1 h2=>by
   rcases KF l0 q h2 with ⟨h3,_⟩|⟨h3,rfl,_⟩
   ·have uc:=sE s.ins 0 x l0 Acw (by omega) (λhnn=>by rw [MK l0 hnn] at h3;cases h3) (by omega)
    exact ⟨io2 l0 uc, .inl uc⟩
   ·obtain ⟨b,h4,h5⟩:=Aiy h3
    exact ⟨by rw [h4];simp, .inr ⟨b,h4,h5⟩⟩
  have hDO:(s.outs.all λc=>!c.WE)=true-> ∀b,c6 Sg m6 ρ b->No Wv b\/Sg b:=by
   intro hx b hb
   rcases hb with hb|⟨l0,q,h1,h2,h3⟩|⟨l0,q,h1,h2⟩
   ·exact .inr hb
   ·have hs:=h'.1.cg l0 h1 (FT l0 q h1 h2).1
    have hs:Vm ((m6 l0).map full) (Wv l0):=hs
    rw [h2] at hs
    cases wx:Wv l0 with
    |none=>rw [wx] at hs;exact hs.elim
    |some q1=>rw [wx] at hs;exact .inl ⟨l0,q1,wx,(hs.2.2.2 b).1 h3⟩
   ·obtain ⟨m,_,p,hm2,_,YN,_⟩:=p3' l0 q b h1 h2
    exact .inl ⟨m,p,hm2,YN hx⟩
  have hDD: ∀b,c6 S π ρ b->c6 Sg m6 ρ b:= λb hb=>by
   rcases hb with hb|⟨l0,q,h1,h2,h3⟩|hb
   ·by_cases su:s.gv g b
    ·obtain ⟨hps,rfl⟩:=su
     exact .inr (.inl ⟨Js,_,VU,if_pos ⟨hps,rfl⟩,rfl⟩)
    ·exact .inl ⟨hb,su⟩
   ·refine .inr (.inl ⟨l0,q,h1,?_,h3⟩)
    show (if s.ptr.isSome=true/\l0=Js then _ else π l0)=some q
    rw [if_neg]
    ·exact h2
    ·rintro ⟨_,rfl⟩
     rw [MK Js ZE] at h2;cases h2
   ·exact .inr (.inr hb)
  have RD:s.flat=true\/(s.outs.all λc=>!c.WE)=true:=by unfold MSpec.OA at Acr;simpa only [Bool.or_eq_true] using Acr
  have io1:Hc w' (c6 S π ρ) π 0 s.ins o':=by
   refine Hc.congr s.ins 0 o' VP ?_
   rcases RD with hf|hf
   ·unfold MSpec.flat at hf
    simp only [Bool.and_eq_true] at hf
    exact Hc.any s.ins 0 o' hf.2 io1
   ·exact Hc.Ep (λb hb=>hDO hf b (hDD b hb)) s.ins 0 o' io1
  have p1:Et w' (c6 S π ρ) ρ 0 s.outs r' (bv++rG):=by
   have p1:Et w' (λb=>No Wv b\/Sg b) ρ 0 s.outs r' (bv++rG):=Et.ME s.outs 0 r' _ (λj _ hj=>Ads j (by omega)) p1
   rcases RD with hf|hf
   ·unfold MSpec.flat at hf
    simp only [Bool.and_eq_true] at hf
    exact Et.any s.outs 0 r' (bv++rG) hf.1 p1
   ·exact Et.Ep (λb hb=>hDO hf b (hDD b hb)) s.outs 0 r' (bv++rG) p1
  refine ⟨v,bv++rG,ρ,h'.2.defers,hv,?_,Ah8 rG,⟨h'.1.below.os,h'.1.below.tape,h'.1.below.output,h'.1.below.size,λk hk hn=>h'.1.below.block k hk λho=>hn ((Su k).1 ho)⟩,io1,p1,⟨λl0 q b h1 h2=>?_,p4'⟩,λl0 YK=>?_,λkj LF=>?_⟩
  ·rw [Acg]
   unfold l7
   rcases VV with ⟨h1,_,_,h2⟩|⟨tid,m,q,h1,_,_,h3,_,h4,h5,h6,h7⟩
   ·rw [h1];exact h2
   ·rw [h1];exact ⟨q,by rw [ZK,h3],h4,h5,h6,h7⟩
  ·obtain ⟨m,hm1,p,hm2,hm3,_,YN⟩:=p3' l0 q b h1 h2
   obtain ⟨k1,k2⟩:=h'.1.place m p b hm2 hm3
   refine ⟨k2,k1.imp id λ⟨c0,q0,h5,h6⟩=>?_⟩
   have Fc:c0<Ak:=Classical.byContradiction λhn=>by
    obtain ⟨Fa,uc⟩:=FT c0 q0 (by omega) h5
    have hs:=h'.1.cg c0 (by omega) Fa
    have hs:Vm ((m6 c0).map full) (Wv c0):=hs
    rw [h5] at hs
    cases wx:Wv c0 with
    |none=>rw [wx] at hs;exact hs.elim
    |some q1=>
     rw [wx] at hs
     have hf1:q1.Bb b:=(hs.2.2.2 b).1 h6
     have:=h'.1.inj c0 m q1 p b wx hm2 (h'.1.sub c0 q1 b wx hf1) hm3
     subst this
     rcases YN with YN|YN
     ·rcases uc with uc|⟨b1,ub,QZ⟩
      ·exact n3 c0 hm1 c0 uc rfl
      ·obtain ⟨b2,XS,hb4⟩:=oK s.outs _ _ _ AS c0 YN
       rw [ub] at XS;cases XS
       exact hb4 QZ
     ·exact hn YN
   refine ⟨c0,q0,Fc,?_,h6⟩
   rcases KF c0 q0 h5 with ⟨h7,_⟩|⟨_,h7,_⟩
   ·exact h7
   ·omega
  ·cases hp:ρ l0 with
   |none=>rfl
   |some q=>
    rcases qa l0 q hp with ⟨e,h3⟩|⟨_,h3⟩
    ·refine absurd e (YK _ ?_)
     rcases VV with ⟨_,_,h4,_⟩|⟨tid,m,q',h4,_⟩
     ·rw [h4] at h3;cases h3
     ·unfold MSpec.Nl;rw [h4];simp
    ·obtain ⟨j,_,j2,j3⟩:=p2 l0 q h3
     exact absurd j3 (YK j (by unfold MSpec.Nl;omega))
  ·obtain ⟨l0,off,len,e,te,rows,out,p,q1,q2,q3,q4,q5⟩:=sH sx kj LF
   have hj:kj.2<s.outs.length:=by
    rw [<-sP s.outs _ _ _ AS]
    exact (List.getElem?_eq_some_iff.1 q1).1
   have e1:=p5 kj.2 l0 off len e te rows out (some p) q1 q2
   rw [Nat.zero_add] at e1
   rw [Ads _ hj,e1]
   have hk:=((h'.1.heap l0).Ku q2).2
   obtain ⟨l1,n1⟩:=p
   simp only [KeptAt] at hk
   dsimp only at q3 q4
   subst q3
   have HP:π0 (Bl false kj.1)=(π (Bl false kj.1)).map full:=by
    show (if s.ptr.isSome=true/\Bl false kj.1=Js then _ else π (Bl false kj.1)).map full=_
    rw [if_neg λh=>hvl false kj.1 q5 h.2]
   rw [HP] at hk
   unfold rW
   cases hp:π (Bl false kj.1) with
   |none=>
    rw [hp] at hk
    cases wx:Wv l0 with
    |none=>trivial
    |some q=>rw [wx] at hk;exact hk.elim
   |some q0=>
    rw [hp] at hk
    cases wx:Wv l0 with
    |none=>rw [wx] at hk;exact hk.elim
    |some q=>
     rw [wx] at hk
     obtain ⟨k1,k2,k3,k4⟩:=hk
     exact ⟨k1,k2,k3,λj hj hc=>k4 j (by omega) hc⟩
 refine calls_of_wp hf hb ?_
 refine (p8 hT Mq hm he _ w _ h0 λe st a' w' ⟨Fa,mj⟩ h'=>?_).1
 obtain ⟨v,Mb,ρ,p1,p2,p3⟩:=fin st a' w' mj h'
 cases e with
 |normal=>exact ⟨p1,v,p2,v,Mb,ρ,rfl,p3⟩
 |ret=>exact ⟨p1,v,p2,v,Mb,ρ,rfl,p3⟩
 |exit id=>exact absurd rfl (Fa id)
end
end Go.Proofs.YtfolipnappekaaaGreat
