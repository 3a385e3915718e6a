/-
  Part 27 of the proof that the statement FnExactIsMethodSolution holds.
-/
import Derived.Test.YtebabhocakedaaaCIsMethodSolution25
namespace Go.Proofs.Ytebabhocakedaaa
open Go.RowKit
section
variable {P:Program} {T:Tab} {Γ:Env} {X:Ctx} {w w':World} {π:Pi} {H:List (Nat×OB)}
theorem Aj5: ∀(cs:List (Bool×CK)) (k:Nat) (x:Ins.den cs) (l:Nat),Ac (On k cs x) l≠none→ ∃b j,k≤j∧j<k+cs.length∧l=Bn b j
 | [],_,_,_,h=>absurd rfl h
 |p::r,k,x,l,h=>by
  simp only [On] at h
  by_cases e:l=Bn p.1 k
  ·exact ⟨p.1,k,Nat.le_refl _,by simp,e⟩
  ·have:Ac (On (k+1) r x.2) l≠none:=by
    cases hc:Aay (Bn p.1 k) p.2 x.1 with
    |none=>rw [hc] at h;exact h
    |some b=>rw [hc] at h;simpa only [Yf,Ac,if_neg (Ne.symm e)] using h
   obtain ⟨b,j,h1,h2,h3⟩:=Aj5 r (k+1) x.2 l this
   exact ⟨b,j,by omega,by simp;omega,h3⟩
theorem Ayu {p:Bool×CK} {r:List (Bool×CK)} {k:Nat} {x:Ins.den (p::r)} (hk:k+(r.length+1)<100000) {l:Nat} {b:OB} (h:Ac (On (k+1) r x.2) l=some b):Ac (On k (p::r) x) l=some b:=by
 obtain ⟨b',j,h1,h2,rfl⟩:=Aj5 r (k+1) x.2 l (by rw [h];simp)
 simp only [On]
 cases Aay (Bn p.1 k) p.2 x.1 with
 |none=>exact h
 |some c=>simp only [Yf,Ac];rw [if_neg (Aya (by omega) (by omega) (by omega))];exact h
theorem Bb2 {D:Nat→Prop} (hD: ∀b,Bb X.w0.heap.size X.Sc π false b→D b) (hw0:X.w0=w) {l:Nat} {r:Option Real} (hpin:X.pin l=r.map full) {u:Value} {c:CK} {x:c.den} (h:Uw w D r u c x) {b:OB} (hb:Aay l c x=some b):Aq X w π H (r.map full) b:=by
 have hcell: ∀ {e:Ty} {es:List Value} {y:e.den},Cells w D e es y→Cells w (Bb X.w0.heap.size X.Sc π false) e es y:=fun {e es y} h=>Cells.Ch (Nat.le_refl _) (fun _ _ _=>rfl) (fun b _ hb=>hD b hb) e es y h
 cases c with
 |dat τ=>cases hb
 |row e te=>
  simp only [Aay,Option.some.injEq] at hb;subst hb
  obtain ⟨_,h⟩:=h
  simp only [Ww] at h
  simp only [Aq,El]
  cases r with
  |none=>exact h
  |some q=>
   obtain ⟨k1,cu,ti,k2,k3,k4,k5,k6⟩:=h
   exact ⟨⟨k1.1,k1.2,fun h=>by cases h⟩,cu,ti,k2,k3,k4,k5,fun i y hy=>by
    obtain ⟨es,g1,g2,g3⟩:=k6 i y hy
    exact ⟨es,g1,g2,hcell g3⟩,fun h=>by cases h⟩
 |xrow e te=>
  simp only [Aay,Option.some.injEq] at hb;subst hb
  cases r<;>exact h.2
 |part e te=>
  simp only [Aay,Option.some.injEq] at hb;subst hb
  obtain ⟨_,hf,h⟩:=h
  simp only [Aq,El]
  cases r with
  |none=>exact h
  |some q=>
   obtain ⟨k1,cu,ti,k2,k3,k4,k5,k6⟩:=h
   exact ⟨⟨k1.1,k1.2,fun h=>by cases h⟩,cu,ti,k2,k3,k4,k5,fun i y hy=>by
    obtain ⟨es,g1,g2,g3⟩:=k6 i y hy
    exact ⟨es,g1,g2,hcell g3⟩,fun h=>by cases h⟩
 |grid e te kp=>
  simp only [Aay,Option.some.injEq] at hb;subst hb
  have h2:Pk w D r e x none:=h.2
  have h3:=Pk.Eb h2 hD
  refine ⟨by cases r<;>exact h3,?_⟩
  cases kp with
  |false=>trivial
  |true=>
   simp only [if_true,KeptAt]
   rw [hpin]
   cases r with
   |none=>trivial
   |some q=>exact ⟨rfl,rfl,rfl,fun j _ _=>by rw [hw0]⟩
theorem Acg {D:Nat→Prop} (hD: ∀b,Bb X.w0.heap.size X.Sc π false b→D b) (hw0:X.w0=w) {π0:Pi} (hpin: ∀l,X.pin l=(π0 l).map full): ∀(cs:List (Bool×CK)) (k:Nat) (x:Ins.den cs) (us:List Value),Ux w D π0 k cs x us→ ∀l b,Ac (On k cs x) l=some b→Aq X w π H ((π0 l).map full) b
 | [],_,_,_,_,_,_,h=>by cases h
 |_::_,_,_,[],h,_,_,_=>h.elim
 |p::r,k,x,u::us,h,l,b,hb=>by
  simp only [On] at hb
  cases hc:Aay (Bn p.1 k) p.2 x.1 with
  |none=>rw [hc] at hb;exact Acg hD hw0 hpin r (k+1) x.2 us h.2 l b hb
  |some c=>
   rw [hc] at hb
   simp only [Yf,Ac] at hb
   split at hb
   ·rename_i e;subst e
    simp only [Option.some.injEq] at hb;subst hb
    exact Bb2 hD hw0 (hpin _) h.1 hc
   ·exact Acg hD hw0 hpin r (k+1) x.2 us h.2 l b hb
theorem Ase {S:Nat→Prop} {π0:Pi} {gv:Nat→Prop} {pin:Pi} (hown: ∀l,π l=(π0 l).map full): ∀(cs:List (Bool×CK)) (k:Nat) (x:Ins.den cs) (us:List Value),k+cs.length<100000→Ux w (fun b=>Own π0 b∨S b) π0 k cs x us→(∀l b,Ac (On k cs x) l=some b→Ac H l=some b)→
  Gp ⟨w,S,gv,pin⟩ w π H (Re k cs x) us
 | [],_,_,[],_,_,_=>trivial
 | [],_,_,_::_,_,h,_=>h.elim
 |_::_,_,_,[],_,h,_=>h.elim
 |p::r,k,x,u::us,hk,h,hH=>by
  simp only [List.length_cons] at hk
  refine ⟨?_,Ase hown r (k+1) x.2 us (by omega) h.2 fun l b hb=>hH l b (Ayu hk hb)⟩
  have h1:=h.1
  have hh: ∀b,Aay (Bn p.1 k) p.2 x.1=some b→Ac H (Bn p.1 k)=some b:=fun b hb=>hH _ b (by simp only [On];rw [hb];simp [Yf,Ac])
  have hpl:=hown (Bn p.1 k)
  obtain ⟨io,c⟩:=p
  dsimp only at h1 hh hpl⊢
  generalize x.1=y at*
  cases c with
  |dat τ=>
   show Bc w _ τ u y
   cases hf:τ.flat with
   |true=>exact Bc.flat hf h1.2
   |false=>
    refine h1.2.Eb fun b _ hb=>?_
    rcases hb with ⟨l,q,h3,h4⟩|hb|⟨hb,_⟩
    ·rw [hown l] at h3
     cases hp:π0 l with
     |none=>rw [hp] at h3;cases h3
     |some q0=>rw [hp] at h3;simp only [Option.map_some,Option.some.injEq] at h3;subst h3;exact .inl ⟨l,q0,hp,h4⟩
    ·exact .inr hb
    ·cases hb
  |row e te=>exact ⟨_,e.size,List.length y,hh _ rfl,rfl,by simp,by rw [hpl];exact Ov h1.1⟩
  |xrow e te=>exact ⟨_,e.size,List.length y,hh _ rfl,rfl,by simp,by rw [hpl];exact Ov h1.1⟩
  |part e te=>exact ⟨_,e.size,List.length y.1,hh _ rfl,rfl,h1.1.2,by rw [hpl];exact Ov h1.1.1⟩
  |grid e te kp=>exact ⟨_,1,List.length y,hh _ rfl,rfl,by simp,by rw [hpl];exact Ov h1.1⟩
theorem Afv {p:Real} {s off len:Nat} {u:Value} {f:Nat→Prop} (h:De (some p) s off len u):De (some ⟨p.g,p.o+off,p.cap-off,f,f⟩) s 0 len u:=by
 obtain ⟨ad,h1,h2,h3⟩:=h
 exact ⟨ad,h1,by dsimp only;omega,fun h0=>by dsimp only at h0;simpa using h3 (by omega)⟩
theorem Ajv {α:Type} {xs:List α} {off len i:Nat} {x:α} (h:((xs.drop off).take len)[i]?=some x):xs[off+i]?=some x:=by
 rw [List.getElem?_take] at h
 split at h
 ·rw [List.getElem?_drop] at h;exact h
 ·cases h
theorem Mu.part {P:Nat→Prop} {g o:Nat} {cur:Array Value} {e:Ty} {xs:List e.den} (off len:Nat) (h:Mu w P g o cur e xs):Mu w P g (o+off) cur e ((xs.drop off).take len):=by
 obtain ⟨Fs,t1,t2,t3,t4⟩:=h
 refine ⟨(Fs.drop off).take len,by simp [t1],List.nodup_cons.2 ⟨fun hm=>(List.nodup_cons.1 t2).1 (Jy off len _ hm),Acn off len (List.nodup_cons.1 t2).2⟩,fun b hb=>t3 b (Jy off len b hb),fun i x F hx hF=>?_⟩
 obtain ⟨es,k1,k2,k3⟩:=t4 (off+i) x F (Ajv hx) (Ajv hF)
 exact ⟨es,k1,fun j u hu=>by rw [Nat.add_assoc o off i];exact k2 j u hu,k3⟩
theorem Az8 {st:St} (h:Gj X w π st.heap) {c:CK} (hg: ∀e te kp,c≠ .grid e te kp) {a:AC} {u:Value} (hu:Df X w π st.heap a u) {x:c.den} {ls:List Nat} (he:Aaz st c a=some (x,ls)):
  ∃r,Uw w (fun b=>Own π b∨X.Sc b) r u c x∧ ∀q,r=some q→ ∃l p,ls= [l]∧π l=some p∧(∀b,q.Av b→p.cl b)∧(c.isX=false→ ∀b,q.Av b→p.Av b):=by
 have hav: ∀ {f:Bool} (b:Nat),(Own π b∨X.Sc b)→Bb X.w0.heap.size X.Sc π f b:=fun b h=>h.imp id .inl
 cases c with
 |dat τ=>
  simp only [Aaz] at he
  split at he
  ·rename_i hf
   cases hv:Bj st τ a with
   |none=>rw [hv] at he;cases he
   |some p=>
    obtain ⟨fr,y⟩:=p
    rw [hv] at he
    simp only [Option.map_some,Option.some.injEq,Prod.mk.injEq] at he
    obtain ⟨rfl,rfl⟩:=he
    refine ⟨none,⟨rfl,?_⟩,fun q hq=>by cases hq⟩
    have Eb: ∀f,Bc w (Bb X.w0.heap.size X.Sc π f) τ u y→Bc w (fun b=>Own π b∨X.Sc b) τ u y:=fun f hr=>hr.Eb fun k _ hk=>hav k hk
    cases a with
    |data f τ' z=>
     rw [He] at hv
     split at hv
     ·rename_i ht;subst ht
      simp only [Option.some.injEq,Prod.mk.injEq] at hv
      obtain ⟨_,rfl⟩:=hv
      exact Eb f hu
     ·have hst:τ.Ab=false:=by unfold Yh at hv;split at hv<;>first|rfl|cases hv
      exact Eb _ ⟨[u],Ta hv hu,by simp [Ap,hst]⟩
    |nilv=>
     have hu:u= .slice none 0 0:=hu
     subst hu
     cases τ<;>simp only [Bj,Option.some.injEq,Prod.mk.injEq,reduceCtorEq] at hv
     ·obtain ⟨_,rfl⟩:=hv;exact ⟨[_],⟨none,0,0,rfl,rfl,Nat.le_refl _, .inl rfl⟩,rfl⟩
     ·obtain ⟨_,rfl⟩:=hv;exact ⟨[_], .inl ⟨rfl,0,rfl⟩,rfl⟩
    |nilp=>
     have hu:u= .pointer none:=hu
     subst hu
     cases τ<;>simp only [Bj,Option.some.injEq,Prod.mk.injEq,reduceCtorEq] at hv
     obtain ⟨_,rfl⟩:=hv;exact ⟨[_], .inl ⟨rfl,rfl⟩,rfl⟩
    |_=>cases τ<;>simp [AC.settled,Ty.flat,Bj] at hf hv
  ·cases he
 |row e te=>
  cases a<;>simp only [Aaz] at he<;>try (cases he;done)
  ·simp only [Option.some.injEq,Prod.mk.injEq] at he
   obtain ⟨rfl,rfl⟩:=he
   have hu:u= .slice none 0 0:=hu
   exact ⟨none,⟨⟨hu,rfl,rfl⟩,rfl⟩,fun q hq=>by cases hq⟩
  ·rename_i l off len
   split at he
   ·rename_i fr tr e' te' xs hl
    split at he
    ·rename_i hc
     obtain ⟨rfl,rfl⟩:=hc
     simp only [Option.some.injEq,Prod.mk.injEq] at he
     obtain ⟨rfl,rfl⟩:=he
     unfold St.at at hl
     obtain ⟨h1,h2⟩:=Ht hu hl
     have hb:=(h.heap l).blk hl
     simp only [Aq,El] at hb
     have hlen:((xs.drop off).take len).length=len:=by simp;omega
     cases hp:π l with
     |none=>
      rw [hp] at h2 hb
      obtain ⟨rfl,rfl,rfl⟩:=h2
      exact ⟨none,⟨⟨rfl,rfl,by simp⟩,by show (xs.drop 0).take 0= [];simp⟩,fun q hq=>by cases hq⟩
     |some p=>
      rw [hp] at h2 hb
      obtain ⟨k1,cur,ti,k2,k3,k4,k5,k6,_⟩:=hb
      have ho:=h2
      obtain ⟨ad,_,hcap,_⟩:=h2
      refine ⟨some ⟨p.g,p.o+off,p.cap-off,p.Av,p.Av⟩,⟨by rw [hlen];exact Afv ho,⟨k1.1,k1.2.1⟩,cur,ti,k2,by rw [k3];congr 1;dsimp only;omega,by dsimp only;omega,by rw [hlen];dsimp only;omega,fun i y hy=>?_⟩,
       fun q hq=>by cases hq;exact ⟨l,p,rfl,hp,fun b hb=>h.sub l p b hp hb,fun _ b hb=>hb⟩⟩
      obtain ⟨es,g1,g2,g3⟩:=k6 (off+i) y (Ajv hy)
      exact ⟨es,g1,fun j u hu=>by dsimp only;rw [Nat.add_assoc p.o off i];exact g2 j u hu,Cells.Ch (Nat.le_refl _) (fun _ _ _=>rfl) (fun b _ hb=>hav b hb) e' es y g3⟩
    ·cases he
   ·cases he
 |xrow e te=>
  cases a<;>simp only [Aaz] at he<;>try (cases he;done)
  ·simp only [Option.some.injEq,Prod.mk.injEq] at he
   obtain ⟨rfl,rfl⟩:=he
   have hu:u= .slice none 0 0:=hu
   exact ⟨none,⟨⟨hu,rfl,rfl⟩,rfl⟩,fun q hq=>by cases hq⟩
  ·rename_i l off len
   split at he
   ·rename_i fr tr e' te' xs hl
    split at he
    ·rename_i hc
     obtain ⟨rfl,rfl,hf⟩:=hc
     simp only [Option.some.injEq,Prod.mk.injEq] at he
     obtain ⟨rfl,rfl⟩:=he
     unfold St.at at hl
     obtain ⟨h1,h2⟩:=Ht hu hl
     have hb:=(h.heap l).blk hl
     simp only [Aq,El] at hb
     have hlen:((xs.drop off).take len).length=len:=by simp;omega
     cases hp:π l with
     |none=>
      rw [hp] at h2 hb
      obtain ⟨rfl,rfl,rfl⟩:=h2
      exact ⟨none,⟨⟨rfl,rfl,by simp⟩,by show (xs.drop 0).take 0= [];simp⟩,fun q hq=>by cases hq⟩
     |some p=>
      rw [hp] at h2 hb
      obtain ⟨k1,cur,ti,k2,k3,k4,k5,k6,k7⟩:=hb
      have ho:=h2
      obtain ⟨ad,_,hcap,_⟩:=h2
      have ht:Mu w p.cl p.g p.o cur e' xs:=by
       simp only [Bool.or_eq_true] at hf
       rcases hf with hf|hf
       ·exact k7 hf
       ·exact Ads hf k6
      exact ⟨some ⟨p.g,p.o+off,p.cap-off,p.cl,p.cl⟩,⟨by rw [hlen];exact Afv ho,h.sub l p _ hp k1.1,cur,ti,k2,by rw [k3];congr 1;dsimp only;omega,by dsimp only;omega,by rw [hlen];dsimp only;omega,ht.part off len⟩,
       fun q hq=>by cases hq;exact ⟨l,p,rfl,hp,fun b hb=>hb,fun hx=>by cases hx⟩⟩
    ·cases he
   ·rename_i e' te' xs hl
    split at he
    ·rename_i hc
     obtain ⟨rfl,rfl⟩:=hc
     simp only [Option.some.injEq,Prod.mk.injEq] at he
     obtain ⟨rfl,rfl⟩:=he
     unfold St.at at hl
     obtain ⟨h1,h2⟩:=Ro hu hl
     have hb:=(h.heap l).blk hl
     simp only [Aq,Hf] at hb
     have hlen:((xs.drop off).take len).length=len:=by simp;omega
     cases hp:π l with
     |none=>
      rw [hp] at h2 hb
      obtain ⟨rfl,rfl,rfl⟩:=h2
      exact ⟨none,⟨⟨rfl,rfl,by simp⟩,by show (xs.drop 0).take 0= [];simp⟩,fun q hq=>by cases hq⟩
     |some p=>
      rw [hp] at h2 hb
      obtain ⟨k1,cur,ti,k2,k3,k4,k5,ht⟩:=hb
      have ho:=h2
      obtain ⟨ad,_,hcap,_⟩:=h2
      exact ⟨some ⟨p.g,p.o+off,p.cap-off,p.Av,p.Av⟩,⟨by rw [hlen];exact Afv ho,k1,cur,ti,k2,by rw [k3];congr 1;dsimp only;omega,by dsimp only;omega,by rw [hlen];dsimp only;omega,ht.part off len⟩,
       fun q hq=>by cases hq;exact ⟨l,p,rfl,hp,fun b hb=>h.sub l p b hp hb,fun _ b hb=>hb⟩⟩
    ·cases he
   ·cases he
 |part e te=>cases a<;>simp [Aaz] at he
 |grid e te kp=>exact absurd rfl (hg e te kp)
theorem Bbu {st:St} (h:Gj X w π st.heap) {c:CK} {a:AC} {u:Value} (hu:Df X w π st.heap a u) {x:c.den} {ls:List Nat} (he:Aaz st c a=some (x,ls)):
  ∃r,Uw w (fun b=>Own π b∨X.Sc b) r u c x∧(∀q,r=some q→ ∃l p,ls= [l]∧π l=some p∧(∀b,q.Av b→p.cl b)∧(c.isX=false→ ∀b,q.Av b→p.Av b))∧
   (∀l off len e te rows out kp,a= .own l off len→Ac st.heap l=some (.grid e te rows out kp)→r=π l):=by
 have old:(∀e te kp,c≠ .grid e te kp)→(∀l off len e te rows out kp,a=AC.own l off len→Ac st.heap l=some (OB.grid e te rows out kp)→False)→
   ∃r,Uw w (fun b=>Own π b∨X.Sc b) r u c x∧(∀q,r=some q→ ∃l p,ls= [l]∧π l=some p∧(∀b,q.Av b→p.cl b)∧(c.isX=false→ ∀b,q.Av b→p.Av b))∧
   (∀l off len e te rows out kp,a= .own l off len→Ac st.heap l=some (.grid e te rows out kp)→r=π l):=fun h1 h2=>by
  obtain ⟨r,g1,g2⟩:=Az8 h h1 hu he
  exact ⟨r,g1,g2,fun l off len e te rows out kp h3 h4=>(h2 l off len e te rows out kp h3 h4).elim⟩
 cases c with
 |dat τ=>
  refine old (fun _ _ _ h=>by cases h) fun l off len e te rows out kp h3 h4=>?_
  subst h3
  simp only [Aaz] at he
  split at he
  ·rename_i hf
   cases τ<;>simp [AC.settled,Ty.flat,Bj] at hf he
  ·cases he
 |row e te=>
  refine old (fun _ _ _ h=>by cases h) fun l off len e te rows out kp h3 h4=>?_
  subst h3
  simp only [Aaz,St.at,h4] at he
  cases he
 |xrow e te=>
  refine old (fun _ _ _ h=>by cases h) fun l off len e te rows out kp h3 h4=>?_
  subst h3
  simp only [Aaz,St.at,h4] at he
  cases he
 |part e te=>cases a<;>simp [Aaz] at he
 |grid e te kp=>
  cases a<;>simp only [Aaz] at he<;>try (cases he;done)
  rename_i l off len
  split at he
  ·rename_i e' te' rows kp' hl
   split at he
   ·rename_i hc
    obtain ⟨rfl,rfl,rfl,rfl⟩:=hc
    simp only [Option.some.injEq,Prod.mk.injEq] at he
    obtain ⟨rfl,rfl⟩:=he
    unfold St.at at hl
    obtain ⟨b,sz,n,h1,h2,_,h3⟩:=hu
    rw [hl] at h1;cases h1
    simp only [OB.row,Option.some.injEq,Prod.mk.injEq] at h2
    obtain ⟨rfl,rfl⟩:=h2
    have hb:=((h.heap l).blk hl).1
    refine ⟨π l,⟨h3,Pk.Eb hb fun b hb=>hb.imp id .inl⟩,fun q hq=>⟨l,q,rfl,hq,fun b hb=>h.sub l q b hq hb,fun _ b hb=>hb⟩,fun l' off' len' _ _ _ _ _ he _=>?_⟩
    simp only [AC.own.injEq] at he
    rw [he.1]
   ·cases he
  ·cases he
theorem Ec.congr {D:Nat→Prop} {ρ ρ':Pi} : ∀(cs:List CK) (k:Nat) (x:CKs.den cs) (us:List Value),(∀j,k≤j→ρ' (Ep j)=ρ (Ep j))→Ec w D ρ k cs x us→Ec w D ρ' k cs x us
 | [],_,_,[],_,h=>h
 | [],_,_,_::_,_,h=>h.elim
 |_::_,_,_,[],_,h=>h.elim
 |c::r,k,x,u::us,he,h=>⟨by rw [he k (Nat.le_refl _)];exact h.1,Ec.congr r (k+1) x.2 us (fun j hj=>he j (by omega)) h.2⟩
theorem Anh {st:St} (h:Gj X w π st.heap): ∀(cs:List CK) (k:Nat) (as:List AC) (us:List Value) (x:CKs.den cs) (ls:List Nat),Gp X w π st.heap as us→Lt st cs as=some (x,ls)→ls.Nodup→
  ∃ρ:Pi,Ec w (fun b=>Own π b∨X.Sc b) ρ k cs x us∧(∀l q,ρ l=some q→ ∃j,k≤j∧j<k+cs.length∧l=Ep j)∧(∀l q b,ρ l=some q→q.Av b→ ∃l0∈ls,∃p,π l0=some p∧p.cl b∧((cs.all fun c=>!c.isX)=true→p.Av b))∧
   (∀l l' q q' b,ρ l=some q→ρ l'=some q'→q.Av b→q'.Av b→l=l')∧
   (∀(j l off len:Nat) e te rows out kp,as[j]?=some (.own l off len)→Ac st.heap l=some (.grid e te rows out kp)→ρ (Ep (k+j))=π l)
 | [],k,[],[],x,ls,_,he,_=>by
  simp only [Lt,Option.some.injEq,Prod.mk.injEq] at he
  exact ⟨fun _=>none,trivial,(fun l q h=>by cases h),(fun l q b h=>by cases h),(fun l l' q q' b h=>by cases h),fun j l off len e te rows out kp h=>by simp at h⟩
 | [],_,[],_::_,_,_,h,_,_=>h.elim
 | [],_,_::_,_,_,_,_,he,_=>by simp [Lt] at he
 |_::_,_,[],_,_,_,_,he,_=>by simp [Lt] at he
 |_::_,_,_::_,[],_,_,h,_,_=>h.elim
 |c::r,k,a::as,u::us,x,ls,hr,he,hnd=>by
  simp only [Lt] at he
  split at he
  ·rename_i x1 t1 x2 t2 h1 h2
   simp only [Option.some.injEq,Prod.mk.injEq] at he
   obtain ⟨rfl,rfl⟩:=he
   obtain ⟨n1,n2,n3⟩:=List.nodup_append.1 hnd
   obtain ⟨ρ,g1,g2,g3,g4,g5⟩:=Anh h r (k+1) as us x2 t2 hr.2 h2 n2
   obtain ⟨rr,r1,r2,r3⟩:=Bbu h hr.1 h1
   have cross: ∀l q q0 b,ρ l=some q→rr=some q0→q.Av b→q0.Av b→False:=fun l q q0 b h3 h4 h5 h6=>by
    obtain ⟨l0,m0,p,p1,p2,_⟩:=g3 l q b h3 h5
    obtain ⟨l1,p',e1,p1',p2',_⟩:=r2 q0 h4
    have:=h.inj l0 l1 p p' b p1 p1' p2 (p2' b h6)
    exact n3 l1 (by rw [e1];simp) l0 m0 this.symm
   refine ⟨fun l=>if l=Ep k then rr else ρ l,⟨by simpa using r1,Ec.congr r (k+1) x2 us (fun j hj=>if_neg (by unfold Ep;omega)) g1⟩,fun l q hq=>?_,fun l q b hq hb=>?_,fun l l' q q' b h3 h4 h5 h6=>?_,fun j l off len e te rows out kp hj hl=>?_⟩
   ·dsimp only at hq
    by_cases e:l=Ep k
    ·exact ⟨k,Nat.le_refl _,by simp,e⟩
    ·rw [if_neg e] at hq
     obtain ⟨j,j1,j2,j3⟩:=g2 l q hq
     exact ⟨j,by omega,by simp;omega,j3⟩
   ·dsimp only at hq
    by_cases e:l=Ep k
    ·rw [if_pos e] at hq
     obtain ⟨l1,p',e1,p1',p2',p3'⟩:=r2 q hq
     exact ⟨l1,by rw [e1];simp,p',p1',p2' b hb,fun hx=>p3' (by simp only [List.all_cons,Bool.and_eq_true,Bool.not_eq_true'] at hx;exact hx.1) b hb⟩
    ·rw [if_neg e] at hq
     obtain ⟨l0,m0,p,p1,p2,p3⟩:=g3 l q b hq hb
     exact ⟨l0,List.mem_append_right _ m0,p,p1,p2,fun hx=>p3 (by simp only [List.all_cons,Bool.and_eq_true] at hx;exact hx.2)⟩
   ·dsimp only at h3 h4
    by_cases e:l=Ep k<;>by_cases e':l'=Ep k
    ·rw [e,e']
    ·rw [if_pos e] at h3;rw [if_neg e'] at h4
     exact (cross l' q' q b h4 h3 h6 h5).elim
    ·rw [if_neg e] at h3;rw [if_pos e'] at h4
     exact (cross l q q' b h3 h4 h5 h6).elim
    ·rw [if_neg e] at h3;rw [if_neg e'] at h4
     exact g4 l l' q q' b h3 h4 h5 h6
   ·rcases j with _|j
    ·simp only [List.getElem?_cons_zero,Option.some.injEq] at hj
     show (if Ep k=Ep k then rr else ρ (Ep k))=π l
     rw [if_pos rfl]
     exact r3 l off len e te rows out kp hj hl
    ·have:=g5 j l off len e te rows out kp (by simpa using hj) hl
     show (if Ep (k+(j+1))=Ep k then rr else ρ (Ep (k+(j+1))))=π l
     rw [if_neg (by unfold Ep;omega),←this,show k+(j+1)=k+1+j by omega]
  ·cases he
theorem Atu {r r':Option Real} (h:Qu (r.map full) r') {e:Ty} {xs:List e.den} {te:TypeId} {fr tr:Bool} (ha:El X w π r' fr tr e te xs):Kf w (fun b=>Own π b∨X.Sc b) r e xs:=by
 cases r with
 |none=>cases r' with
  |none=>exact ha
  |some q=>exact h.elim
 |some p=>cases r' with
  |none=>exact h.elim
  |some q=>
   obtain ⟨e1,e2,e3,e4⟩:=h
   obtain ⟨k1,cur,ti,k2,k3,k4,k5,k6,_⟩:=ha
   have e1:p.g=q.g:=e1
   have e2:p.o=q.o:=e2
   have e3:p.cap=q.cap:=e3
   refine ⟨⟨by rw [e1];exact (e4 _).2 k1.1,fun b hb=>by rw [e1];exact k1.2.1 b ((e4 b).1 hb)⟩,cur,ti,by rw [e1];exact k2,by rw [e2,e3];exact k3,by rw [e3];exact k4,by rw [e3];exact k5,fun i y hy=>?_⟩
   obtain ⟨es,g1,g2,g3⟩:=k6 i y hy
   exact ⟨es,g1,by rw [e2];exact g2,Cells.Ch (Nat.le_refl _) (fun _ _ _=>rfl) (fun b _ hb=>hb.imp id .inl) e es y g3⟩
theorem Azr {r r':Option Real} (h:Qu (r.map full) r') {e:Ty} {xs:List e.den} {te:TypeId} (ha:Hf w r' e te xs):Hf w r e te xs:=by
 cases r with
 |none=>cases r' with
  |none=>exact ha
  |some q=>exact h.elim
 |some p=>cases r' with
  |none=>exact h.elim
  |some q=>
   obtain ⟨e1,e2,e3,e4⟩:=h
   obtain ⟨k1,cur,ti,k2,k3,k4,k5,Fs,t1,t2,t3,t4⟩:=ha
   have e1:p.g=q.g:=e1
   have e2:p.o=q.o:=e2
   have e3:p.cap=q.cap:=e3
   exact ⟨by rw [e1];exact (e4 _).2 k1,cur,ti,by rw [e1];exact k2,by rw [e2,e3];exact k3,by rw [e3];exact k4,by rw [e3];exact k5,Fs,t1,by rw [e1];exact t2,fun b hb=>(e4 b).2 (t3 b hb),by rw [e2];exact t4⟩
theorem Li {st:St} {π0:Pi} {D:Nat→Prop} {w0:World} (h:Gj X w π st.heap) (hpin: ∀l,X.pin l=(π0 l).map full): ∀(cs:List (Bool×CK)) (k:Nat) (x:Ins.den cs) (us:List Value) (o:IOs.den cs),Ux w0 D π0 k cs x us→Hv st k cs=some o→
  Fw w (fun b=>Own π b∨X.Sc b) π0 k cs o∧ ∀l∈Ij k cs,Ac st.heap l≠none
 | [],_,_,_,_,_,_=>⟨trivial,fun l hl=>by cases hl⟩
 |_::_,_,_,[],_,h,_=>h.elim
 |(false,c)::r,k,x,u::us,o,hi,he=>Li h hpin r (k+1) x.2 us o hi.2 (by simpa only [Hv] using he)
 |(true, .dat τ)::r,k,x,u::us,o,hi,he=>Li h hpin r (k+1) x.2 us o hi.2 (by simpa only [Hv] using he)
 |(true, .grid e te kp)::r,k,x,u::us,o,hi,he=>Li h hpin r (k+1) x.2 us o hi.2 (by simpa only [Hv] using he)
 |(true, .row e te)::r,k,x,u::us,o,hi,he=>by
  simp only [Hv] at he
  split at he
  ·rename_i x1 x2 h1 h2
   simp only [Option.some.injEq] at he;subst he
   obtain ⟨g1,g2⟩:=Li h hpin r (k+1) x.2 us x2 hi.2 h2
   have h0:=hi.1
   simp only [Agh] at h1
   split at h1
   ·rename_i fr tr e' te' xs hl
    split at h1
    ·rename_i hc
     obtain ⟨rfl,rfl⟩:=hc
     simp only [Option.some.injEq] at h1;subst h1
     unfold St.at at hl
     have hs:=h.pin (Bn true k) (by have:=Qj k;omega) (by rw [hl];simp)
     rw [hpin] at hs
     exact ⟨⟨Atu (te:=te') hs ((h.heap _).blk hl),g1⟩,fun l hl'=>by
      simp only [Ij] at hl'
      rcases List.mem_cons.1 hl' with rfl|hl'
      ·rw [hl];simp
      ·exact g2 l hl'⟩
    ·cases h1
   ·cases h1
  ·cases he
 |(true, .part e te)::r,k,x,u::us,o,hi,he=>by
  simp only [Hv] at he
  split at he
  ·rename_i x1 x2 h1 h2
   simp only [Option.some.injEq] at he;subst he
   obtain ⟨g1,g2⟩:=Li h hpin r (k+1) x.2 us x2 hi.2 h2
   have h0:=hi.1
   simp only [Agh] at h1
   split at h1
   ·rename_i fr tr e' te' xs hl
    split at h1
    ·rename_i hc
     obtain ⟨rfl,rfl⟩:=hc
     simp only [Option.some.injEq] at h1;subst h1
     unfold St.at at hl
     have hs:=h.pin (Bn true k) (by have:=Qj k;omega) (by rw [hl];simp)
     rw [hpin] at hs
     exact ⟨⟨Atu (te:=te') hs ((h.heap _).blk hl),g1⟩,fun l hl'=>by
      simp only [Ij] at hl'
      rcases List.mem_cons.1 hl' with rfl|hl'
      ·rw [hl];simp
      ·exact g2 l hl'⟩
    ·cases h1
   ·cases h1
  ·cases he
 |(true, .xrow e te)::r,k,x,u::us,o,hi,he=>by
  simp only [Hv] at he
  split at he
  ·rename_i x1 x2 h1 h2
   simp only [Option.some.injEq] at he;subst he
   obtain ⟨g1,g2⟩:=Li h hpin r (k+1) x.2 us x2 hi.2 h2
   simp only [Agh] at h1
   split at h1
   ·rename_i e' te' xs hl
    split at h1
    ·rename_i hc
     obtain ⟨rfl,rfl⟩:=hc
     simp only [Option.some.injEq] at h1;subst h1
     unfold St.at at hl
     have hs:=h.pin (Bn true k) (by have:=Qj k;omega) (by rw [hl];simp)
     rw [hpin] at hs
     exact ⟨⟨Azr (te:=te') hs ((h.heap _).blk hl),g1⟩,fun l hl'=>by
      simp only [Ij] at hl'
      rcases List.mem_cons.1 hl' with rfl|hl'
      ·rw [hl];simp
      ·exact g2 l hl'⟩
    ·cases h1
   ·cases h1
  ·cases he
theorem Alf {p:Bool×CK} {r:List (Bool×CK)} (h:Ou (p::r)=true):Ou r=true:=by
 rcases p with ⟨_|_,c⟩<;>cases c<;>first|(simp [Ou] at h;done)|simpa [Ou] using h
theorem An1: ∀(cs:List (Bool×CK)) (k:Nat) (x:Ins.den cs) (l:Nat),Ou cs=true→k+cs.length<100000→Ac (On k cs x) l≠none→ ¬l<Ag→l∈Ij k cs
 | [],_,_,_,_,_,h,_=>absurd rfl h
 |(io,c)::r,k,x,l,hng,hk,h,hp=>by
  simp only [List.length_cons] at hk
  simp only [On] at h
  have tail:Ac (On (k+1) r x.2) l≠none→l∈Ij (k+1) r:=fun h=>An1 r (k+1) x.2 l (Alf hng) (by omega) h hp
  have sub: ∀m,m∈Ij (k+1) r→m∈Ij k ((io,c)::r):=fun m hm=>by
   cases io<;>cases c<;>simp only [Ij]<;>first|exact hm|exact List.mem_cons_of_mem _ hm
  cases hc:Aay (Bn io k) c x.1 with
  |none=>rw [hc] at h;exact sub l (tail h)
  |some b=>
   rw [hc] at h
   simp only [Yf,Ac] at h
   split at h
   ·rename_i e;subst e
    cases io with
    |false=>exact absurd (Wg (by omega)) hp
    |true=>cases c with
     |dat τ=>cases hc
     |row e te=>simp [Ij]
     |xrow e te=>simp [Ij]
     |part e te=>simp [Ij]
     |grid e te kp=>simp [Ou] at hng
   ·exact sub l (tail h)
theorem Uw.Eb {D D':Nat→Prop} (hD: ∀b,D' b→D b) {r:Option Real} {u:Value} {c:CK} {x:c.den} (h:Uw w D r u c x):Uw w D' r u c x:=by
 cases c with
 |dat τ=>exact ⟨h.1,h.2.Eb fun b _ hb=>hD b hb⟩
 |row e te=>exact ⟨h.1,Kf.Eb h.2 hD⟩
 |xrow e te=>exact h
 |part e te=>exact ⟨h.1,h.2.1,Kf.Eb h.2.2 hD⟩
 |grid e te kp=>exact ⟨h.1,Pk.Eb h.2 hD⟩
theorem Ec.Eb {D D':Nat→Prop} (hD: ∀b,D' b→D b) {ρ:Pi} : ∀(cs:List CK) (k:Nat) (x:CKs.den cs) (us:List Value),Ec w D ρ k cs x us→Ec w D' ρ k cs x us
 | [],_,_,[],h=>h
 | [],_,_,_::_,h=>h.elim
 |_::_,_,_,[],h=>h.elim
 |_c::r,k,x,_u::us,h=>⟨h.1.Eb hD,Ec.Eb hD r (k+1) x.2 us h.2⟩
theorem Fw.Eb {D D':Nat→Prop} (hD: ∀b,D' b→D b) {π:Pi} : ∀(cs:List (Bool×CK)) (k:Nat) (x:IOs.den cs),Fw w D π k cs x→Fw w D' π k cs x
 | [],_,_,h=>h
 |(false,_)::r,k,x,h=>Fw.Eb hD r (k+1) x h
 |(true, .dat _)::r,k,x,h=>Fw.Eb hD r (k+1) x h
 |(true, .grid _ _ _)::r,k,x,h=>Fw.Eb hD r (k+1) x h
 |(true, .row _e _te)::r,k,x,h=>⟨Kf.Eb h.1 hD,Fw.Eb hD r (k+1) x.2 h.2⟩
 |(true, .xrow _e _te)::r,k,x,h=>⟨h.1,Fw.Eb hD r (k+1) x.2 h.2⟩
 |(true, .part _e _te)::r,k,x,h=>⟨Kf.Eb h.1 hD,Fw.Eb hD r (k+1) x.2 h.2⟩
theorem Ux.congr {D:Nat→Prop} {π0 π1:Pi} : ∀(cs:List (Bool×CK)) (k:Nat) (x:Ins.den cs) (us:List Value),(∀b j,k≤j→j<k+cs.length→π1 (Bn b j)=π0 (Bn b j))→Ux w D π0 k cs x us→Ux w D π1 k cs x us
 | [],_,_,[],_,h=>h
 | [],_,_,_::_,_,h=>h
 |_::_,_,_,[],_,h=>h
 |p::r,k,x,u::us,hp,h=>⟨by rw [hp p.1 k (Nat.le_refl _) (by simp)];exact h.1,Ux.congr r (k+1) x.2 us (fun b j h1 h2=>hp b j (by omega) (by simp;omega)) h.2⟩
theorem Fw.congr {D:Nat→Prop} {π0 π1:Pi} : ∀(cs:List (Bool×CK)) (k:Nat) (x:IOs.den cs),(∀b j,k≤j→j<k+cs.length→π1 (Bn b j)=π0 (Bn b j))→Fw w D π0 k cs x→Fw w D π1 k cs x
 | [],_,_,_,h=>h
 |(false,c)::r,k,x,hp,h=>by cases c<;>exact Fw.congr r (k+1) x (fun b j h1 h2=>hp b j (by omega) (by simp;omega)) h
 |(true, .dat _)::r,k,x,hp,h=>Fw.congr r (k+1) x (fun b j h1 h2=>hp b j (by omega) (by simp;omega)) h
 |(true, .grid _ _ _)::r,k,x,hp,h=>Fw.congr r (k+1) x (fun b j h1 h2=>hp b j (by omega) (by simp;omega)) h
 |(true, .row e te)::r,k,x,hp,h=>⟨by rw [hp true k (Nat.le_refl _) (by simp)];exact h.1,Fw.congr r (k+1) x.2 (fun b j h1 h2=>hp b j (by omega) (by simp;omega)) h.2⟩
 |(true, .xrow e te)::r,k,x,hp,h=>⟨by rw [hp true k (Nat.le_refl _) (by simp)];exact h.1,Fw.congr r (k+1) x.2 (fun b j h1 h2=>hp b j (by omega) (by simp;omega)) h.2⟩
 |(true, .part e te)::r,k,x,hp,h=>⟨by rw [hp true k (Nat.le_refl _) (by simp)];exact h.1,Fw.congr r (k+1) x.2 (fun b j h1 h2=>hp b j (by omega) (by simp;omega)) h.2⟩
theorem Bs.congr {π0 π1:Pi} : ∀(cs:List (Bool×CK)) (k:Nat) (o:IOs.den cs) (n:Nat) (us as:List Value),(∀b j,k≤j→j<k+cs.length→π1 (Bn b j)=π0 (Bn b j))→Bs π0 k cs o n us as→Bs π1 k cs o n us as
 | [],k,o,0,us,as,_,h=>by simpa [Bs] using h
 | [],k,o,n+1,us,as,_,h=>by simp [Bs] at h
 |p::r,k,o,0,us,as,_,h=>by
  rcases p with ⟨_|_,c⟩<;>cases c<;>simpa [Bs] using h
 |(true, .dat _)::r,k,o,n+1,us,as,_,h=>by simp [Bs] at h
 |(true, .part _ _)::r,k,o,n+1,us,as,_,h=>by simp [Bs] at h
 |(true, .grid _ _ _)::r,k,o,n+1,us,as,_,h=>by simp [Bs] at h
 |(true, .row e te)::r,k,o,n+1,[],as,_,h=>by simp [Bs] at h
 |(true, .xrow e te)::r,k,o,n+1,[],as,_,h=>by simp [Bs] at h
 |(true, .row e te)::r,k,o,n+1,u::us,as,hp,h=>by
  simp only [Bs] at h⊢
  exact ⟨by rw [hp true k (Nat.le_refl _) (by simp)];exact h.1,Bs.congr r (k+1) o.2 n us as (fun b j h1 h2=>hp b j (by omega) (by simp;omega)) h.2⟩
 |(true, .xrow e te)::r,k,o,n+1,u::us,as,hp,h=>by
  simp only [Bs] at h⊢
  exact ⟨by rw [hp true k (Nat.le_refl _) (by simp)];exact h.1,Bs.congr r (k+1) o.2 n us as (fun b j h1 h2=>hp b j (by omega) (by simp;omega)) h.2⟩
 |(false,c)::r,k,o,n+1,[],as,_,h=>by cases c<;>simp [Bs] at h
 |(false,c)::r,k,o,n+1,u::us,[],_,h=>by cases c<;>simp [Bs] at h
 |(false,c)::r,k,o,n+1,u::us,a::as,hp,h=>by
  have h:u=a∧Bs π0 (k+1) r o n us as:=by cases c<;>exact h
  have:=Bs.congr r (k+1) o n us as (fun b j h1 h2=>hp b j (by omega) (by simp;omega)) h.2
  cases c<;>exact ⟨h.1,this⟩
theorem Agp: ∀(A B:List (Nat×OB)) (l:Nat),Ac (A++B) l=match Ac A l with|some b=>some b|none=>Ac B l
 | [],B,l=>rfl
 |(k,b)::A,B,l=>by
  simp only [List.cons_append,Ac]
  split
  ·rfl
  ·exact Agp A B l
theorem Ajp {st:St} : ∀(cs:List CK) (as:List AC) (x:CKs.den cs) (ls:List Nat),Lt st cs as=some (x,ls)→ ∀l∈ls,∃b,Ac st.heap l=some b∧b.row≠none
 | [],[],x,ls,he=>by
  simp only [Lt,Option.some.injEq,Prod.mk.injEq] at he
  obtain ⟨_,rfl⟩:=he
  intro l hl;cases hl
 | [],_::_,_,_,he=>by simp [Lt] at he
 |_::_,[],_,_,he=>by simp [Lt] at he
 |c::r,a::as,x,ls,he=>by
  simp only [Lt] at he
  split at he
  ·rename_i x1 t1 x2 t2 h1 h2
   simp only [Option.some.injEq,Prod.mk.injEq] at he
   obtain ⟨_,rfl⟩:=he
   intro l hl
   rcases List.mem_append.1 hl with hl|hl
   ·unfold Aaz at h1
    split at h1
    ·split at h1
     ·cases hv:Bj st _ a with
      |none=>rw [hv] at h1;cases h1
      |some p=>rw [hv] at h1;simp only [Option.map_some,Option.some.injEq,Prod.mk.injEq] at h1;obtain ⟨_,rfl⟩:=h1;cases hl
     ·cases h1
    all_goals (repeat' split at h1)
    all_goals first|(cases h1;done)|skip
    all_goals (simp only [Option.some.injEq,Prod.mk.injEq] at h1;obtain ⟨_,rfl⟩:=h1)
    all_goals first|(cases hl;done)|skip
    all_goals (have hl:=List.mem_singleton.1 hl;subst hl)
    all_goals (rename_i heq _;exact ⟨_,heq,by simp [OB.row]⟩)
   ·exact Ajp r as x2 t2 h2 l hl
  ·cases he
theorem Ah1 {r r':Option Real} {sz off len:Nat} {v:Value} (h:Qu r r') (hv:De r' sz off len v):De r sz off len v:=by
 cases r<;>cases r'<;>first|exact h.elim|skip
 ·exact hv
 ·obtain ⟨h1,h2,h3,_⟩:=h
  obtain ⟨ad,g1,g2,g3⟩:=hv
  exact ⟨ad,by rw [h3];exact g1,by rw [h3];exact g2,by rw [h1,h2,h3];exact g3⟩
theorem Nx {st:St} {π0:Pi} (hs: ∀k,Ac st.heap (Bn true k)≠none→Qu ((π0 (Bn true k)).map full) (π (Bn true k))):
  ∀(cs:List (Bool×CK)) (k:Nat) (vs:List AC) (us:List Value) (bc:List AC) (o:IOs.den cs),Gp X w π st.heap vs us→Ee k cs vs=some bc→Yv st vs cs→Hv st k cs=some o→
   ∃bv,Gp X w π st.heap bc bv∧bv.length=Ak3 cs vs.length∧ ∀tl,Bs π0 k cs o vs.length us (bv++tl)
 |cs,k,[],us,bc,o,hr,he,_,_=>by
  have e1:us= []:=by cases us with|nil=>rfl|cons u us=>exact hr.elim
  have e2:bc= []:=by rcases cs with _|⟨⟨_|_,c⟩,r⟩<;>simpa [Ee] using he.symm
  subst e1;subst e2
  refine ⟨[],trivial,?_,fun tl=>?_⟩
  ·rcases cs with _|⟨⟨_|_,c⟩,r⟩<;>rfl
  ·rcases cs with _|⟨⟨_|_,c⟩,r⟩<;>(try cases c)<;>simp [Bs]
 | [],k,a::vs,us,bc,o,hr,he,_,_=>by simp [Ee] at he
 |p::r,k,a::vs,[],bc,o,hr,_,_,_=>hr.elim
 |(false,c)::r,k,a::vs,u::us,bc,o,hr,he,hk,ho=>by
  have he:(Ee (k+1) r vs).map (fun l=>a::l)=some bc:=by cases a<;>exact he
  cases hb:Ee (k+1) r vs with
  |none=>rw [hb] at he;cases he
  |some bc'=>
   rw [hb] at he
   simp only [Option.map_some,Option.some.injEq] at he;subst he
   obtain ⟨bv,g1,g2,g3⟩:=Nx hs r (k+1) vs us bc' o hr.2 hb (by cases a<;>exact hk) (by cases c<;>simpa only [Hv] using ho)
   refine ⟨u::bv,⟨hr.1,g1⟩,by simp [Ak3,g2],fun tl=>?_⟩
   have:=g3 tl
   cases c<;>exact ⟨rfl,this⟩
 |(true,c)::r,k,a::vs,u::us,bc,o,hr,he,hk,ho=>by
  cases c with
  |dat τ=>cases a<;>simp [Ee] at he
  |part e te=>cases a<;>simp [Ee] at he
  |grid e te kp=>cases a<;>simp [Ee] at he
  |row e te=>
   cases a<;>first|(simp [Ee] at he;done)|skip
   rename_i l off len
   simp only [Ee] at he
   split at he
   rotate_left
   ·cases he
   rename_i hl
   have hl:l=Bn true k:=Nat.eq_of_beq_eq_true hl
   subst hl
   obtain ⟨⟨rfl,hlen⟩,hk⟩:=hk
   obtain ⟨b,sz,n,h1,h2,h3,h4⟩:=hr.1
   have hsame:=hs k (by rw [h1];simp)
   simp only [Hv] at ho
   split at ho
   ·rename_i x1 x2 q1 q2
    simp only [Option.some.injEq] at ho;subst ho
    obtain ⟨bv,g1,g2,g3⟩:=Nx hs r (k+1) vs us bc x2 hr.2 he hk q2
    refine ⟨bv,g1,by simpa [Ak3] using g2,fun tl=>?_⟩
    refine ⟨?_,g3 tl⟩
    simp only [Agh] at q1
    split at q1
    ·rename_i fr tr e' te' xs hl'
     split at q1
     ·rename_i hc
      obtain ⟨rfl,rfl⟩:=hc
      simp only [Option.some.injEq] at q1;subst q1
      unfold St.at at hl' hlen
      rw [hl'] at hlen
      rw [h1] at hl';cases hl'
      simp only [OB.row,Option.some.injEq,Prod.mk.injEq] at h2
      obtain ⟨rfl,rfl⟩:=h2
      have hlen:len=List.length xs:=hlen
      have:=Ah1 hsame h4
      rw [hlen] at this
      have e0:(π0 (Bn true k)).map full=(π0 (Bn true k)).map full:=rfl
      cases hp:π0 (Bn true k)<;>(rw [hp] at this;exact this)
     ·cases q1
    ·cases q1
   ·cases ho
  |xrow e te=>
   cases a<;>first|(simp [Ee] at he;done)|skip
   rename_i l off len
   simp only [Ee] at he
   split at he
   rotate_left
   ·cases he
   rename_i hl
   have hl:l=Bn true k:=Nat.eq_of_beq_eq_true hl
   subst hl
   obtain ⟨⟨rfl,hlen⟩,hk⟩:=hk
   obtain ⟨b,sz,n,h1,h2,h3,h4⟩:=hr.1
   have hsame:=hs k (by rw [h1];simp)
   simp only [Hv] at ho
   split at ho
   ·rename_i x1 x2 q1 q2
    simp only [Option.some.injEq] at ho;subst ho
    obtain ⟨bv,g1,g2,g3⟩:=Nx hs r (k+1) vs us bc x2 hr.2 he hk q2
    refine ⟨bv,g1,by simpa [Ak3] using g2,fun tl=>?_⟩
    refine ⟨?_,g3 tl⟩
    simp only [Agh] at q1
    split at q1
    ·rename_i e' te' xs hl'
     split at q1
     ·rename_i hc
      obtain ⟨rfl,rfl⟩:=hc
      simp only [Option.some.injEq] at q1;subst q1
      unfold St.at at hl' hlen
      rw [hl'] at hlen
      rw [h1] at hl';cases hl'
      simp only [OB.row,Option.some.injEq,Prod.mk.injEq] at h2
      obtain ⟨rfl,rfl⟩:=h2
      have hlen:len=List.length xs:=hlen
      have:=Ah1 hsame h4
      rw [hlen] at this
      cases hp:π0 (Bn true k)<;>(rw [hp] at this;exact this)
     ·cases q1
    ·cases q1
   ·cases ho
def Bgv (s:Bp) (g:Nat) (π:Pi):Pi:=fun l=>if s.ptr.isSome=true∧l=Ju then some ⟨g,0,0,fun b=>b=g,fun b=>b=g⟩ else π l
def Bfq (P:Program) (s:Bp) (fn:Func) (x:Ins.den s.ins) (w:World) (S:Nat→Prop) (π:Pi) (g:Nat) (r:CKs.den s.outs) (o:IOs.den s.ins) (a':Act) (w':World):Prop:=
 ∃(v:Value) (us':List Value) (ρ:Pi),a'.defers= []∧(results fn a'.tmps).run P w'= .ok v w'∧Aia s w' ρ (us'.drop s.Pp) v∧Aby s π w' g us' o∧Fa w.heap.size (fun b=>Own π b∨s.gv g b) w w'∧Fw w' (Aaw S π ρ) π 0 s.ins o∧Ec w' (Aaw S π ρ) ρ 0 s.outs r us'∧
  Xu ρ (fun b=>b<w'.heap.size∧(w.heap.size≤b∨ ∃l q,l<Ag∧π l=some q∧q.Av b))∧(∀l,(∀k,k<s.Lk→l≠Ep k)→ρ l=none)∧(∀kj∈s.keeps,Ar9 w w' (π (Bn false kj.1)) (ρ (Ep kj.2)) (s.Ch x))
theorem Ec.Bb3 {D:Nat→Prop} {ρ ρ':Pi} : ∀(cs:List CK) (k:Nat) (x:CKs.den cs) (us:List Value),(∀j,k≤j→j<k+cs.length→ρ' (Ep j)=ρ (Ep j))→Ec w D ρ k cs x us→Ec w D ρ' k cs x us
 | [],_,_,[],_,h=>h
 | [],_,_,_::_,_,h=>h.elim
 |_::_,_,_,[],_,h=>h.elim
 |c::r,k,x,u::us,he,h=>⟨by rw [he k (Nat.le_refl _) (by simp)];exact h.1,Ec.Bb3 r (k+1) x.2 us (fun j hj hl=>he j (by omega) (by simp;omega)) h.2⟩
theorem An4 {st:St} {n:Nat} {as:List AC} : ∀ {ks:List (Nat×Nat)},An3 st n as ks→ ∀kj∈ks,∃l off len e te rows out p,as[kj.2]?=some (.own l off len)∧Ac st.heap l=some (.grid e te rows out (some p))∧p.1=Bn false kj.1∧n≤p.2∧kj.1<1000
 | [],_,kj,hm=>by cases hm
 |(k,j)::r,h,kj,hm=>by
  simp only [An3] at h
  rcases List.mem_cons.1 hm with rfl|hm
  ·obtain ⟨h,_⟩:=h
   split at h
   ·rename_i l off len he
    split at h
    ·rename_i e te rows out p hl
     unfold St.at at hl
     exact ⟨l,off,len,e,te,rows,out,p,he,hl,h.1,h.2.1,by simpa using h.2.2⟩
    ·exact h.elim
   ·exact h.elim
  ·exact An4 h.2 kj hm
theorem Ang {st:St} : ∀(cs:List CK) (as:List AC) (x:CKs.den cs) (ls:List Nat),Lt st cs as=some (x,ls)→as.length=cs.length
 | [],[],_,_,_=>rfl
 | [],_::_,_,_,he=>by simp [Lt] at he
 |_::_,[],_,_,he=>by simp [Lt] at he
 |c::r,a::as,x,ls,he=>by
  simp only [Lt] at he
  split at he
  ·rename_i h1 h2
   simp only [List.length_cons,Ang r as _ _ h2]
  ·cases he
theorem Ats {α β:Type} (f:α→Sem β): ∀(l:List α) (vs:List β),vs.length=l.length→(∀(i:Nat) a v,l[i]?=some a→vs[i]?=some v→(f a).run P w= .ok v w)→(l.mapM f).run P w= .ok vs w
 | [],[],_,_=>by simp
 | [],_::_,h,_=>by simp at h
 |_::_,[],h,_=>by simp at h
 |a::l,v::vs,h,hr=>by
  rw [List.mapM_cons]
  simp only [Sem.run_bind,hr 0 a v rfl rfl,Result.andThen_ok,Ats f l vs (by simpa using h) (fun i a' v' ha hv=>hr (i+1) a' v' (by simpa using ha) (by simpa using hv)),Sem.run_pure]
theorem Al6 (hT:Bt P T) (hΓ:Gl P Γ) (hm:P.follows .mixedOrders=true) {f:FuncId} {fn:Func} (hf:P.funcs[f]?=some fn) (s:Bp) (w:World) (S:Nat→Prop) (π:Pi) (us:List Value) (x:Ins.den s.ins)
  (r:CKs.den s.outs) (o:IOs.den s.ins) (g:Nat) (avs:List Value) (hargs:Aey s w g us avs) (hSg:s.ptr.isSome=true→S g) (hin:Ux w (fun b=>Own π b∨S b) π 0 s.ins x us) (hpl:Xu π (fun b=>b<w.heap.size)) (hS: ∀b,S b→b<w.heap.size∧ ¬Own π b) (hdom: ∀l,Ac (On 0 s.ins x) l=none→π l=none) (he:Bee T Γ s fn x fun z=>z=(r,o)):
  Calls P f avs.toArray w fun e w'=> ∃v us' ρ,e= .returned v∧Aia s w' ρ (us'.drop s.Pp) v∧Aby s π w' g us' o∧Fa w.heap.size (fun b=>Own π b∨s.gv g b) w w'∧Fw w' (Aaw S π ρ) π 0 s.ins o∧Ec w' (Aaw S π ρ) ρ 0 s.outs r us'∧
   Xu ρ (fun b=>b<w'.heap.size∧(w.heap.size≤b∨ ∃l q,l<Ag∧π l=some q∧q.Av b))∧(∀l,(∀k,k<s.Lk→l≠Ep k)→ρ l=none)∧(∀kj∈s.keeps,Ar9 w w' (π (Bn false kj.1)) (ρ (Ep kj.2)) (s.Ch x)):=by
 obtain ⟨hlen,c,hb,he⟩:=he
 simp only [Bool.and_eq_true,Nat.blt_eq] at hlen
 obtain ⟨hlen,hfits⟩:=hlen
 unfold Apy at hfits
 simp only [Bool.and_eq_true] at hfits
 have hngio:=hfits.1
 let πg:Pi:=Bgv s g π
 let Sg:Nat→Prop:=fun b=>S b∧ ¬s.gv g b
 have hvl: ∀b j,j<1000→Bn b j≠Ju:=fun b j hj=>by cases b<;>(unfold Bn Ju;simp;omega)
 have hlab: ∀b j,0≤j→j<0+s.ins.length→πg (Bn b j)=π (Bn b j):=fun b j _ hj=>if_neg fun h=>hvl b j (by omega) h.2
 have hlab': ∀b j,0≤j→j<0+s.ins.length→π (Bn b j)=πg (Bn b j):=fun b j h1 h2=>(hlab b j h1 h2).symm
 have hvar:Ac (On 0 s.ins x) Ju=none:=Classical.byContradiction fun hn=>by
  obtain ⟨b,j,_,h2,h3⟩:=Aj5 s.ins 0 x Ju hn
  exact hvl b j (by omega) h3.symm
 have ungv: ∀l q,πg l=some q→(π l=some q∧(s.ptr.isSome=true→l≠Ju))∨(s.ptr.isSome=true∧l=Ju∧q=⟨g,0,0,fun b=>b=g,fun b=>b=g⟩):=fun l q hq=>by
  have hq:(if s.ptr.isSome=true∧l=Ju then some ⟨g,0,0,fun b=>b=g,fun b=>b=g⟩ else π l)=some q:=hq
  split at hq
  ·rename_i hc;exact .inr ⟨hc.1,hc.2,(Option.some.inj hq).symm⟩
  ·rename_i hc;exact .inl ⟨hq,fun h1 h2=>hc ⟨h1,h2⟩⟩
 have hown: ∀b,Own πg b↔Own π b∨s.gv g b:=fun b=>by
  constructor
  ·rintro ⟨l,q,h1,h2⟩
   rcases ungv l q h1 with ⟨h3,_⟩|⟨h3,h4,rfl⟩
   ·exact .inl ⟨l,q,h3,h2⟩
   ·exact .inr ⟨h3,h2⟩
  ·rintro (⟨l,q,h1,h2⟩|⟨h1,rfl⟩)
   ·refine ⟨l,q,?_,h2⟩
    show (if s.ptr.isSome=true∧l=Ju then _ else π l)=some q
    rw [if_neg]
    ·exact h1
    ·rintro ⟨_,rfl⟩
     rw [hdom Ju hvar] at h1;cases h1
   ·exact ⟨Ju,⟨b,0,0,fun c=>c=b,fun c=>c=b⟩,if_pos ⟨h1,rfl⟩,rfl⟩
 have hgS: ∀b,s.gv g b→S b:=fun b ⟨h1,h2⟩=>h2▸hSg h1
 have hing:Ux w (fun b=>Own πg b∨Sg b) πg 0 s.ins x us:=Ux.congr s.ins 0 x us hlab (Ux.Eb (fun b hb=>by
  rcases hb with hb|hb
  ·rcases (hown b).1 hb with hb|hb
   ·exact .inl hb
   ·exact .inr (hgS b hb)
  ·exact .inr hb.1) s.ins 0 x us hin)
 have hplg:Xu πg (fun b=>b<w.heap.size):=⟨fun l q b h1 h2=>by
  rcases ungv l q h1 with ⟨h3,_⟩|⟨h3,h4,rfl⟩
  ·exact hpl.at' l q b h3 h2
  ·exact (hS b (hgS b ⟨h3,h2⟩)).1,fun l l' q q' b h1 h2 h3 h4=>by
  rcases ungv l q h1 with ⟨h5,_⟩|⟨h5,h6,rfl⟩<;>rcases ungv l' q' h2 with ⟨h7,_⟩|⟨h7,h8,rfl⟩
  ·exact hpl.inj l l' q q' b h5 h7 h3 h4
  ·exact absurd ⟨l,q,h5,h3⟩ (hS b (hgS b ⟨h7,h4⟩)).2
  ·exact absurd ⟨l',q',h7,h4⟩ (hS b (hgS b ⟨h5,h3⟩)).2
  ·rw [h6,h8]⟩
 have hSgd: ∀b,Sg b→b<w.heap.size∧ ¬Own πg b:=fun b hb=>⟨(hS b hb.1).1,fun ho=>((hown b).1 ho).elim (hS b hb.1).2 hb.2⟩
 have hinit: ∀l,Ac (Agq s x) l=match Ac (On 0 s.ins x) l with|some b=>some b|none=>if l=Ju then s.ptr.map fun p=> .var p.1 ((Re 0 s.ins x).take p.2) else none:=fun l=>by
  unfold Agq
  cases hp:s.ptr with
  |none=>cases Ac (On 0 s.ins x) l<;>simp
  |some p=>
   simp only
   rw [Agp]
   cases Ac (On 0 s.ins x) l with
   |some b=>rfl
   |none=>
    simp only [Ac,Option.map_some]
    by_cases e:l=Ju
    ·rw [if_pos e,if_pos e.symm]
    ·rw [if_neg e,if_neg (fun h=>e h.symm)]
 let π0:Pi:=fun l=>(πg l).map full
 have un: ∀l q,π0 l=some q→ ∃q0,πg l=some q0∧q=full q0:=fun l q hq=>by
  have hq:(πg l).map full=some q:=hq
  cases hp:πg l with
  |none=>rw [hp] at hq;cases hq
  |some q0=>rw [hp] at hq;exact ⟨q0,rfl,(Option.some.inj hq).symm⟩
 have hinitE: ∀l b,Ac (On 0 s.ins x) l=some b→Ac (Agq s x) l=some b:=fun l b hb=>by rw [hinit l,hb]
 have hrc:Gp ⟨w,Sg,Own πg,π0⟩ w π0 (Agq s x) (Re 0 s.ins x) us:=Ase (fun _=>rfl) s.ins 0 x us (by omega) hing hinitE
 have hπ0v:s.ptr.isSome=true→π0 Ju=some ⟨g,0,0,fun b=>b=g,fun b=>b=g⟩:=fun hp=>by
  show (if s.ptr.isSome=true∧Ju=Ju then _ else π Ju).map full=_
  rw [if_pos ⟨hp,rfl⟩];rfl
 obtain ⟨g1,g2⟩:(Po s (Re 0 s.ins x)).length=avs.length∧ ∀(i:Nat) c v,(Po s (Re 0 s.ins x))[i]?=some c→avs[i]?=some v→Ai ⟨w,Sg,Own πg,π0⟩ w π0 (Agq s x) c v:=by
  unfold Aey at hargs
  cases hp:s.ptr with
  |none=>
   rw [hp] at hargs
   obtain ⟨rfl,hsh⟩:=hargs
   obtain ⟨g1,g2,_,_⟩:=Ud s.shapes _ us hsh hrc
   rw [show Po s (Re 0 s.ins x)=Kj s.shapes (Re 0 s.ins x) by unfold Po;rw [hp]]
   exact ⟨g1,g2⟩
  |some p=>
   rw [hp] at hargs
   obtain ⟨rfl,hsh,_⟩:=hargs
   obtain ⟨g1,g2,_,_⟩:=Ud s.shapes _ (us.drop p.2) hsh (Gp.take p.2 hrc).2
   rw [show Po s (Re 0 s.ins x)= .at (.vptr Ju 0)::Kj s.shapes ((Re 0 s.ins x).drop p.2) by unfold Po;rw [hp]]
   refine ⟨by simp [g1],fun i c v h1 h2=>?_⟩
   rcases i with _|i
   ·simp only [List.getElem?_cons_zero,Option.some.injEq] at h1 h2
    subst h1;subst h2
    exact ⟨_,p.1,(Re 0 s.ins x).take p.2,by rw [hinit,hvar];simp [hp],hπ0v (by rw [hp];rfl),rfl⟩
   ·exact g2 i c v (by simpa using h1) (by simpa using h2)
 have h0:Rel ⟨w,Sg,Own πg,π0⟩ {tmps:=Po s (Re 0 s.ins x)++List.replicate (fn.ntmps-(Po s (Re 0 s.ins x)).length) .undef,heap:=Agq s x}
   {tmps:=avs.toArray++Array.replicate (fn.ntmps-avs.toArray.size) undef,defers:= []} w:=by
  refine ⟨π0,⟨Fa.refl _ _ _,fun b hb=>hSgd b hb,fun l q b h1 h2=>?_,fun l q b h1 h2=>?_,fun l l' q q' b h1 h2 h3 h4=>?_,fun l _ _=>Qu.Hl _,fun l=>?_⟩,⟨by simp [g1],rfl,fun t=>?_⟩⟩
  ·obtain ⟨q0,_,rfl⟩:=un l q h1;exact h2
  ·obtain ⟨q0,h3,rfl⟩:=un l q h1
   exact ⟨.inr ⟨l,q0,h3,h2⟩,hplg.at' l q0 b h3 h2⟩
  ·obtain ⟨q0,h5,rfl⟩:=un l q h1
   obtain ⟨q0',h6,rfl⟩:=un l' q' h2
   exact hplg.inj l l' q0 q0' b h5 h6 h3 h4
  ·cases hh:Ac (On 0 s.ins x) l with
   |none=>
    by_cases hv:s.ptr.isSome=true∧l=Ju
    ·obtain ⟨hps,rfl⟩:=hv
     obtain ⟨p,hp⟩:=Option.isSome_iff_exists.1 hps
     refine Cq.Hb (b:= .var p.1 ((Re 0 s.ins x).take p.2)) ?_ (by rw [hinit,hh];simp [hp])
     unfold Aey at hargs
     rw [hp] at hargs
     obtain ⟨_,_,h1,h2,h3⟩:=hargs
     rw [hπ0v hps]
     exact ⟨_,rfl,rfl,_,h2,Gp.to (Gp.take p.2 hrc).1 h3⟩
    ·refine Cq.Mh ?_ ?_
     ·show (if s.ptr.isSome=true∧l=Ju then _ else π l).map full=none
      rw [if_neg hv,hdom l hh];rfl
     ·rw [hinit,hh]
      simp only
      split
      ·rename_i e
       cases hp:s.ptr with
       |none=>rfl
       |some p=>exact absurd ⟨by rw [hp];rfl,e⟩ hv
      ·rfl
   |some b=>exact Cq.Hb (Acg (π0:=πg) (fun b hb=>by
    rcases hb with ⟨l,q,h1,h2⟩|hb|⟨hb,_⟩
    ·obtain ⟨q0,h3,rfl⟩:=un l q h1;exact .inl ⟨l,q0,h3,h2⟩
    ·exact .inr hb
    ·cases hb) rfl (fun _=>rfl) s.ins 0 x us hing l b hh) (hinitE l b hh)
  ·show Ai _ w _ _ ((Po s (Re 0 s.ins x)++List.replicate _ AV.undef).getD t .undef) ((avs.toArray++Array.replicate _ undef).getD t undef)
   by_cases ht:t<avs.length
   ·rw [List.getD_eq_getElem?_getD,List.getElem?_append_left (by omega),←List.getD_eq_getElem?_getD]
    rw [Array.getD_eq_getD_getElem?,Array.getElem?_append_left (by simpa using ht)]
    have:=g2 t _ _ (List.getElem?_eq_getElem (by omega)) (List.getElem?_eq_getElem ht)
    simpa [List.getD_eq_getElem?_getD,List.getElem?_eq_getElem ht,List.getElem?_eq_getElem (show t<(Po s (Re 0 s.ins x)).length by omega)] using this
   ·have:(Po s (Re 0 s.ins x)++List.replicate (fn.ntmps-(Po s (Re 0 s.ins x)).length) AV.undef).getD t .undef= .undef:=by
     rw [List.getD_eq_getElem?_getD,List.getElem?_append_right (by omega)]
     rw [List.getElem?_replicate]
     split<;>rfl
    rw [this];trivial
 have fin: ∀(st:St) (a':Act) (w':World),Bat T s fn x st (fun z=>z=(r,o))→Rel ⟨w,Sg,Own πg,π0⟩ st a' w'→Bfq P s fn x w S π g r o a' w':=by
  intro st a' w' hres hrel
  obtain ⟨π1,h'⟩:=hrel
  have hpinv:Ag≤Ju:=by unfold Ag Ju;omega
  obtain ⟨bc,hcore,hvst,hbc⟩: ∃bc,Aan T s fn x st bc (fun z=>z=(r,o))∧(s.ptr.isSome=true→ ∃b,Ac st.heap Ju=some b∧b.row=none)∧
    (Hv st 0 s.ins=some o→ ∃bv,Gp ⟨w,Sg,Own πg,π0⟩ w' π1 st.heap bc bv∧bv.length=s.Pp∧ ∀tl,Aby s π w' g (bv++tl) o):=by
   unfold Bat at hres
   cases hp:s.ptr with
   |none=>
    rw [hp] at hres
    exact ⟨[],hres,fun h=>by simp at h,fun _=>⟨[],trivial,by simp [Bp.Pp,hp],fun tl=>by simp [Aby,hp]⟩⟩
   |some p=>
    rw [hp] at hres
    obtain ⟨vs,cs,h1,h2,h3,h4,h5⟩:=hres
    unfold St.at at h1
    refine ⟨cs,h5,fun _=>⟨_,h1,rfl⟩,fun hio=>?_⟩
    obtain ⟨q,k1,k2,cur,k3,k4⟩:=(h'.1.heap Ju).blk h1
    have hsv:Qu (π0 Ju) (π1 Ju):=h'.1.pin Ju hpinv (by rw [h1];simp)
    rw [hπ0v (by rw [hp];rfl),k1] at hsv
    have hqg:g=q.g:=hsv.1
    obtain ⟨bv,g1,g2,g3⟩:=Nx (π0:=πg) (fun k hk=>h'.1.pin _ (Nat.le_of_not_lt (Qj k)) hk) s.ins 0 vs cur.toList cs o (Gp.of k4) h3 h4 hio
    refine ⟨bv,g1,by rw [g2,h2];simp [Bp.Pp,hp],fun tl=>?_⟩
    unfold Aby
    rw [hp]
    refine ⟨cur.toList,by rw [hqg];simpa using k3,fun u hu=>?_,Bs.congr s.ins 0 o p.2 _ _ hlab' (h2▸g3 tl)⟩
    obtain ⟨i,hi,rfl⟩:=List.mem_iff_getElem.1 hu
    have hl:=k4.1
    obtain ⟨u',h6,h7,_⟩:=k4.2 i (vs[i]'(by omega)) (List.getElem?_eq_getElem _)
    rw [List.getElem?_eq_getElem hi] at h6
    rw [Option.some.inj h6];exact h7
  unfold Aan at hcore
  split at hcore
  ·exact hcore.elim
  rename_i l hl
  split at hcore
  ·exact hcore.elim
  rename_i as ml hra
  split at hcore
  rotate_left
  ·exact hcore.elim
  rename_i r' ls o' hout hback
  obtain ⟨hcond,hkeep,hro⟩:=hcore
  simp only [Bool.and_eq_true,Nat.blt_eq] at hcond
  obtain ⟨⟨⟨hnd,hins⟩,houts⟩,hmix⟩:=hcond
  simp only [Prod.mk.injEq] at hro
  obtain ⟨rfl,rfl⟩:=hro
  obtain ⟨bv,hbv,hbvl,hbat⟩:=hbc hback
  have hnd':=Nj hnd
  obtain ⟨n1,n2,n3⟩:=List.nodup_append.1 hnd'
  obtain ⟨m1,m2,m3⟩:=List.nodup_append.1 n1
  obtain ⟨vs,v1,v2,v3,v4⟩:=Nl hT h' _ _ hl
  have hrs:fn.results=fn.results.toList.toArray:=Array.toArray_toList.symm
  have hrun: ∀v,(if h:vs.toArray.size=1 then vs.toArray[0] else .tuple vs.toArray)=v→(results fn a'.tmps).run P w'= .ok v w':=by
   intro v hv
   rw [Wf,hrs,List.mapM_toArray]
   simp only [map_eq_pure_bind,bind_assoc,pure_bind]
   simp only [Sem.run_bind,Ats (Awr a'.tmps) _ vs v1 v3,Result.andThen_ok,Sem.run_pure]
   rw [hv]
  obtain ⟨us0,v,qm,hus0,hv,hqm⟩: ∃us0 v qm,Gp ⟨w,Sg,Own πg,π0⟩ w' π1 st.heap as us0∧(results fn a'.tmps).run P w'= .ok v w'∧
    ((s.rp=none∧ml= []∧qm=none∧Bc7 s.multi s.rshapes us0 v∧Sp s.rshapes us0)∨
     ∃tid m q,s.rp=some tid∧ml= [m]∧m<Ag∧qm=some q∧π1 m=some q∧q.Av q.g∧w'.heap[q.g]?=some (.cells us0.toArray tid (0,0))∧(∀u∈us0,u.oneCell'=true)∧v= .pointer (some ⟨q.g,0,none⟩)):=by
   unfold Awq at hra
   split at hra
   ·rename_i hrp
    split at hra
    rotate_left
    ·cases hra
    rename_i hmul
    cases hun:ungroup s.rshapes l with
    |none=>rw [hun] at hra;cases hra
    |some as'=>
     rw [hun] at hra
     simp only [Option.map_some,Option.some.injEq,Prod.mk.injEq] at hra
     obtain ⟨rfl,rfl⟩:=hra
     obtain ⟨us0,e1,e2,e3⟩:=Ss s.rshapes l vs as' (by omega) v4 hun
     have hv: ∃v,(results fn a'.tmps).run P w'= .ok v w'∧Bc7 s.multi s.rshapes us0 v:=by
      unfold Bc7
      rw [←e1,hmul]
      rcases Nat.lt_or_ge 1 l.length with h1|h1
      ·have hb1:Nat.blt 1 l.length=true:=by simpa using h1
       simp only [hb1,if_true]
       refine ⟨.tuple vs.toArray,hrun _ ?_,rfl⟩
       rw [dif_neg (by simp;omega)]
      ·have hb1:Nat.blt 1 l.length=false:=by rw [←Bool.not_eq_true];simpa using h1
       simp only [hb1,Bool.false_eq_true,if_false]
       rcases vs with _|⟨v,_|⟨v',vs⟩⟩
       ·exact ⟨_,hrun _ (by simp;rfl), .inr rfl⟩
       ·exact ⟨v,hrun _ (by simp), .inl rfl⟩
       ·exfalso;simp only [List.length_cons] at v1;omega
     obtain ⟨v,hv1,hv2⟩:=hv
     exact ⟨us0,v,none,e3,hv1, .inl ⟨hrp,rfl,rfl,hv2,e2⟩⟩
   ·rename_i tid hrp
    split at hra
    rotate_left
    ·cases hra
    rename_i m i
    split at hra
    rotate_left
    ·cases hra
    rename_i tid' vs' hm
    split at hra
    rotate_left
    ·cases hra
    rename_i hc
    obtain ⟨rfl,rfl,hmp⟩:=hc
    simp only [Option.some.injEq,Prod.mk.injEq] at hra
    obtain ⟨rfl,rfl⟩:=hra
    unfold St.at at hm
    rcases vs with _|⟨v,_|⟨v',vs⟩⟩
    ·exfalso;simp only [List.length_cons,List.length_nil] at v1 v2;omega
    ·obtain ⟨q,tid2,vs2,q1,q2,q3⟩:=v4 0 _ v rfl rfl
     rw [hm] at q1;cases q1
     obtain ⟨q',k1,k2,cur,k3,k4⟩:=(h'.1.heap m).blk hm
     rw [q2] at k1;cases k1
     refine ⟨cur.toList,v,some q,Gp.of k4,hrun _ (by simp), .inr ⟨_,m,q,hrp,rfl,by simpa using hmp,rfl,q2,k2,by simpa using k3,fun u hu=>?_,q3⟩⟩
     obtain ⟨i,hi,rfl⟩:=List.mem_iff_getElem.1 hu
     have hl:=k4.1
     obtain ⟨u',h6,h7,_⟩:=k4.2 i (vs'[i]'(by omega)) (List.getElem?_eq_getElem _)
     rw [List.getElem?_eq_getElem hi] at h6
     rw [Option.some.inj h6];exact h7
    ·exfalso;simp only [List.length_cons,List.length_nil] at v1 v2;omega
  obtain ⟨ρ0,p1,p2,p3,p4,p5⟩:=Anh h'.1 s.outs 0 (bc++as) (bv++us0) r' ls (hbv.append hus0) hout m2
  obtain ⟨io1,io2⟩:=Li (π0:=πg) h'.1 (fun _=>rfl) s.ins 0 x us o' hing hback
  have hdrop:(bv++us0).drop s.Pp=us0:=by rw [←hbvl];simp
  let ρ:Pi:=fun l0=>if l0=Ep s.outs.length then qm else ρ0 l0
  have hρn:ρ (Ep s.outs.length)=qm:=if_pos rfl
  have hρo: ∀l0,l0≠Ep s.outs.length→ρ l0=ρ0 l0:=fun l0 h=>if_neg h
  have hρj: ∀j,j<s.outs.length→ρ (Ep j)=ρ0 (Ep j):=fun j hj=>hρo _ (by unfold Ep;omega)
  have cas: ∀l0 q,ρ l0=some q→(l0=Ep s.outs.length∧qm=some q)∨(l0≠Ep s.outs.length∧ρ0 l0=some q):=fun l0 q h=>by
   by_cases e:l0=Ep s.outs.length
   ·subst e;rw [hρn] at h;exact .inl ⟨rfl,h⟩
   ·rw [hρo l0 e] at h;exact .inr ⟨e,h⟩
  have hqm2: ∀q,qm=some q→ ∃m,ml= [m]∧m<Ag∧π1 m=some q:=fun q hq=>by
   rcases hqm with ⟨_,_,h1,_⟩|⟨_,m,q',_,h1,h2,h3,h4,_⟩
   ·rw [h1] at hq;cases hq
   ·rw [h3] at hq;cases hq;exact ⟨m,h1,h2,h4⟩
  have p3': ∀l0 q b,ρ l0=some q→q.Av b→ ∃l1∈ml++ls,∃p,π1 l1=some p∧p.cl b∧((s.outs.all fun c=>!c.isX)=true→p.Av b)∧((l1∈ls)∨l1<Ag):=fun l0 q b h1 h2=>by
   rcases cas l0 q h1 with ⟨_,h3⟩|⟨_,h3⟩
   ·obtain ⟨m,e1,e2,e3⟩:=hqm2 q h3
    exact ⟨m,by rw [e1];simp,q,e3,h'.1.sub m q b e3 h2,fun _=>h2, .inr e2⟩
   ·obtain ⟨l1,g1,p,g2,g3,g4⟩:=p3 l0 q b h3 h2
    exact ⟨l1,List.mem_append_right _ g1,p,g2,g3,g4, .inl g1⟩
  have p4': ∀l0 l1 q q' b,ρ l0=some q→ρ l1=some q'→q.Av b→q'.Av b→l0=l1:=fun l0 l1 q q' b h1 h2 h3 h4=>by
   have cross: ∀l0 q q' b,ρ0 l0=some q→qm=some q'→q.Av b→q'.Av b→False:=fun l0 q q' b h1 h2 h3 h4=>by
    obtain ⟨m,e1,e2,e3⟩:=hqm2 q' h2
    obtain ⟨l1,g1,p,g2,g3,_⟩:=p3 l0 q b h1 h3
    have:=h'.1.inj m l1 q' p b e3 g2 (h'.1.sub m q' b e3 h4) g3
    exact m3 m (by rw [e1];simp) l1 g1 this
   rcases cas l0 q h1 with ⟨e1,h5⟩|⟨e1,h5⟩<;>rcases cas l1 q' h2 with ⟨e2,h6⟩|⟨e2,h6⟩
   ·rw [e1,e2]
   ·exact (cross l1 q' q b h6 h5 h4 h3).elim
   ·exact (cross l0 q q' b h5 h6 h3 h4).elim
   ·exact p4 l0 l1 q q' b h5 h6 h3 h4
  have hpinned: ∀l0 q,Ag≤l0→πg l0=some q→Ac st.heap l0≠none∧(l0∈Ij 0 s.ins∨ ∃b,Ac st.heap l0=some b∧b.row=none):=fun l0 q h1 h2=>by
   rcases ungv l0 q h2 with ⟨h3,_⟩|⟨h3,rfl,_⟩
   ·have hio:=An1 s.ins 0 x l0 hngio (by omega) (fun hnn=>by rw [hdom l0 hnn] at h3;cases h3) (by omega)
    exact ⟨io2 l0 hio, .inl hio⟩
   ·obtain ⟨b,h4,h5⟩:=hvst h3
    exact ⟨by rw [h4];simp, .inr ⟨b,h4,h5⟩⟩
  have hDO:(s.outs.all fun c=>!c.isX)=true→ ∀b,Aaw Sg πg ρ b→Own π1 b∨Sg b:=by
   intro hx b hb
   rcases hb with hb|⟨l0,q,h1,h2,h3⟩|⟨l0,q,h1,h2⟩
   ·exact .inr hb
   ·have hs:=h'.1.pin l0 h1 (hpinned l0 q h1 h2).1
    have hs:Qu ((πg l0).map full) (π1 l0):=hs
    rw [h2] at hs
    cases hp1:π1 l0 with
    |none=>rw [hp1] at hs;exact hs.elim
    |some q1=>rw [hp1] at hs;exact .inl ⟨l0,q1,hp1,(hs.2.2.2 b).1 h3⟩
   ·obtain ⟨m,_,p,hm2,_,hm4,_⟩:=p3' l0 q b h1 h2
    exact .inl ⟨m,p,hm2,hm4 hx⟩
  have hDD: ∀b,Aaw S π ρ b→Aaw Sg πg ρ b:=fun b hb=>by
   rcases hb with hb|⟨l0,q,h1,h2,h3⟩|hb
   ·by_cases hgb:s.gv g b
    ·obtain ⟨hps,rfl⟩:=hgb
     exact .inr (.inl ⟨Ju,_,hpinv,if_pos ⟨hps,rfl⟩,rfl⟩)
    ·exact .inl ⟨hb,hgb⟩
   ·refine .inr (.inl ⟨l0,q,h1,?_,h3⟩)
    show (if s.ptr.isSome=true∧l0=Ju then _ else π l0)=some q
    rw [if_neg]
    ·exact h2
    ·rintro ⟨_,rfl⟩
     rw [hdom Ju hvar] at h2;cases h2
   ·exact .inr (.inr hb)
  have hfl:s.flat=true∨(s.outs.all fun c=>!c.isX)=true:=by unfold Bp.Bbp at hmix;simpa only [Bool.or_eq_true] using hmix
  have io1:Fw w' (Aaw S π ρ) π 0 s.ins o':=by
   refine Fw.congr s.ins 0 o' hlab' ?_
   rcases hfl with hf|hf
   ·unfold Bp.flat at hf
    simp only [Bool.and_eq_true] at hf
    exact Fw.any s.ins 0 o' hf.2 io1
   ·exact Fw.Eb (fun b hb=>hDO hf b (hDD b hb)) s.ins 0 o' io1
  have p1:Ec w' (Aaw S π ρ) ρ 0 s.outs r' (bv++us0):=by
   have p1:Ec w' (fun b=>Own π1 b∨Sg b) ρ 0 s.outs r' (bv++us0):=Ec.Bb3 s.outs 0 r' _ (fun j _ hj=>hρj j (by omega)) p1
   rcases hfl with hf|hf
   ·unfold Bp.flat at hf
    simp only [Bool.and_eq_true] at hf
    exact Ec.any s.outs 0 r' (bv++us0) hf.1 p1
   ·exact Ec.Eb (fun b hb=>hDO hf b (hDD b hb)) s.outs 0 r' (bv++us0) p1
  refine ⟨v,bv++us0,ρ,h'.2.defers,hv,?_,hbat us0,⟨h'.1.below.os,h'.1.below.tape,h'.1.below.output,h'.1.below.size,fun k hk hn=>h'.1.below.block k hk fun ho=>hn ((hown k).1 ho)⟩,io1,p1,⟨fun l0 q b h1 h2=>?_,p4'⟩,fun l0 hl0=>?_,fun kj hkj=>?_⟩
  ·rw [hdrop]
   unfold Aia
   rcases hqm with ⟨h1,_,_,h2⟩|⟨tid,m,q,h1,_,_,h3,_,h4,h5,h6,h7⟩
   ·rw [h1];exact h2
   ·rw [h1];exact ⟨q,by rw [hρn,h3],h4,h5,h6,h7⟩
  ·obtain ⟨m,hm1,p,hm2,hm3,_,hm4⟩:=p3' l0 q b h1 h2
   obtain ⟨k1,k2⟩:=h'.1.place m p b hm2 hm3
   refine ⟨k2,k1.imp id fun ⟨c0,q0,h5,h6⟩=>?_⟩
   have hlt:c0<Ag:=Classical.byContradiction fun hn=>by
    obtain ⟨hne,hio⟩:=hpinned c0 q0 (by omega) h5
    have hs:=h'.1.pin c0 (by omega) hne
    have hs:Qu ((πg c0).map full) (π1 c0):=hs
    rw [h5] at hs
    cases hp1:π1 c0 with
    |none=>rw [hp1] at hs;exact hs.elim
    |some q1=>
     rw [hp1] at hs
     have hf1:q1.Av b:=(hs.2.2.2 b).1 h6
     have:=h'.1.inj c0 m q1 p b hp1 hm2 (h'.1.sub c0 q1 b hp1 hf1) hm3
     subst this
     rcases hm4 with hm4|hm4
     ·rcases hio with hio|⟨b1,hb1,hb2⟩
      ·exact n3 c0 hm1 c0 hio rfl
      ·obtain ⟨b2,hb3,hb4⟩:=Ajp s.outs _ _ _ hout c0 hm4
       rw [hb1] at hb3;cases hb3
       exact hb4 hb2
     ·exact hn hm4
   refine ⟨c0,q0,hlt,?_,h6⟩
   rcases ungv c0 q0 h5 with ⟨h7,_⟩|⟨_,h7,_⟩
   ·exact h7
   ·omega
  ·cases hp:ρ l0 with
   |none=>rfl
   |some q=>
    rcases cas l0 q hp with ⟨e,h3⟩|⟨_,h3⟩
    ·refine absurd e (hl0 _ ?_)
     rcases hqm with ⟨_,_,h4,_⟩|⟨tid,m,q',h4,_⟩
     ·rw [h4] at h3;cases h3
     ·unfold Bp.Lk;rw [h4];simp
    ·obtain ⟨j,_,j2,j3⟩:=p2 l0 q h3
     exact absurd j3 (hl0 j (by unfold Bp.Lk;omega))
  ·obtain ⟨l0,off,len,e,te,rows,out,p,q1,q2,q3,q4,q5⟩:=An4 hkeep kj hkj
   have hj:kj.2<s.outs.length:=by
    rw [←Ang s.outs _ _ _ hout]
    exact (List.getElem?_eq_some_iff.1 q1).1
   have e1:=p5 kj.2 l0 off len e te rows out (some p) q1 q2
   rw [Nat.zero_add] at e1
   rw [hρj _ hj,e1]
   have hk:=((h'.1.heap l0).blk q2).2
   obtain ⟨l1,n1⟩:=p
   simp only [KeptAt] at hk
   dsimp only at q3 q4
   subst q3
   have hpn:π0 (Bn false kj.1)=(π (Bn false kj.1)).map full:=by
    show (if s.ptr.isSome=true∧Bn false kj.1=Ju then _ else π (Bn false kj.1)).map full=_
    rw [if_neg fun h=>hvl false kj.1 q5 h.2]
   rw [hpn] at hk
   unfold Ar9
   cases hp:π (Bn false kj.1) with
   |none=>
    rw [hp] at hk
    cases hp1:π1 l0 with
    |none=>trivial
    |some q=>rw [hp1] at hk;exact hk.elim
   |some q0=>
    rw [hp] at hk
    cases hp1:π1 l0 with
    |none=>rw [hp1] at hk;exact hk.elim
    |some q=>
     rw [hp1] at hk
     obtain ⟨k1,k2,k3,k4⟩:=hk
     exact ⟨k1,k2,k3,fun j hj hc=>k4 j (by omega) hc⟩
 refine calls_of_wp hf hb ?_
 refine (Ak6 hT hΓ hm he _ w _ h0 fun e st a' w' ⟨hne,hres⟩ h'=>?_).1
 obtain ⟨v,us',ρ,p1,p2,p3⟩:=fin st a' w' hres h'
 cases e with
 |normal=>exact ⟨p1,v,p2,v,us',ρ,rfl,p3⟩
 |ret=>exact ⟨p1,v,p2,v,us',ρ,rfl,p3⟩
 |exit id=>exact absurd rfl (hne id)
end
end Go.Proofs.Ytebabhocakedaaa
