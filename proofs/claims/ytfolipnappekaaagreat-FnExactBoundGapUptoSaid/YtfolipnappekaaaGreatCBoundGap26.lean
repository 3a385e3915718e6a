/-
  Part 27 of the proof that the statement FnExactBoundGap holds.
-/
import Derived.Test.YtfolipnappekaaaGreatCBoundGap25
namespace Go.Proofs.YtfolipnappekaaaGreat
open Go.RowKit
section
variable {P:Program} {T:Tab} {Γ:Env} {X:Ctx} {w w':World} {π:Pi} {H:List (Nat×OB)}
theorem oP: ∀(cs:List (Bool×CK)) (k:Nat) (x:Ins.den cs) (l:Nat),Ad (Tl k cs x) l≠none-> ∃b j,k<=j/\j<k+cs.length/\l=Bv b j
 | [],_,_,_,h=>absurd rfl h
 |p::r,k,x,l,h=>by
  simp only [Tl] at h
  by_cases e:l=Bv p.1 k
  ·exact ⟨p.1,k,Nat.le_refl _,by simp,e⟩
  ·have:Ad (Tl (k+1) r x.2) l≠none:=by
    cases hc:fi (Bv p.1 k) p.2 x.1 with
    |none=>rw [hc] at h;exact h
    |some b=>rw [hc] at h;simpa only [cW,Ad,if_neg (Ne.symm e)] using h
   obtain ⟨b,j,h1,h2,h3⟩:=oP r (k+1) x.2 l this
   exact ⟨b,j,by omega,by simp;omega,h3⟩
theorem JJ {p:Bool×CK} {r:List (Bool×CK)} {k:Nat} {x:Ins.den (p::r)} (hk:k+(r.length+1)<100000) {l:Nat} {b:OB} (h:Ad (Tl (k+1) r x.2) l=some b):Ad (Tl k (p::r) x) l=some b:=by
 obtain ⟨b',j,h1,h2,rfl⟩:=oP r (k+1) x.2 l (by rw [h];simp)
 simp only [Tl]
 cases fi (Bv p.1 k) p.2 x.1 with
 |none=>exact h
 |some c=>simp only [cW,Ad];rw [if_neg (HQ (by omega) (by omega) (by omega))];exact h
theorem NU {D:Nat->Prop} (hD: ∀b,Bf X.w0.heap.size X.Sc π false b->D b) (hw0:X.w0=w) {l:Nat} {r:Option Real} (Ub:X.cE l=r.map full) {u:Value} {c:CK} {x:c.den} (h:aG w D r u c x) {b:OB} (hb:fi l c x=some b):Aw X w π H (r.map full) b:=by
 have Ti: ∀ {e:Ty} {es:List Value} {y:e.den},Cells w D e es y->Cells w (Bf X.w0.heap.size X.Sc π false) e es y:= λ {e es y} h=>Cells.Cs (Nat.le_refl _) (λ_ _ _=>rfl) (λb _ hb=>hD b hb) e es y h
 cases c with
 |Er τ=>cases hb
 |row e te=>
  simp only [fi,Option.some.injEq] at hb;subst hb
  obtain ⟨_,h⟩:=h
  simp only [bO] at h
  simp only [Aw,Gg]
  cases r with
  |none=>exact h
  |some q=>
   obtain ⟨k1,cu,ti,k2,k3,k4,k5,k6⟩:=h
   exact ⟨⟨k1.1,k1.2,λh=>by cases h⟩,cu,ti,k2,k3,k4,k5,λi y hy=>by
    obtain ⟨es,g1,g2,g3⟩:=k6 i y hy
    exact ⟨es,g1,g2,Ti g3⟩,λh=>by cases h⟩
 |Eb e te=>
  simp only [fi,Option.some.injEq] at hb;subst hb
  cases r<;>exact h.2
 |part e te=>
  simp only [fi,Option.some.injEq] at hb;subst hb
  obtain ⟨_,hf,h⟩:=h
  simp only [Aw,Gg]
  cases r with
  |none=>exact h
  |some q=>
   obtain ⟨k1,cu,ti,k2,k3,k4,k5,k6⟩:=h
   exact ⟨⟨k1.1,k1.2,λh=>by cases h⟩,cu,ti,k2,k3,k4,k5,λi y hy=>by
    obtain ⟨es,g1,g2,g3⟩:=k6 i y hy
    exact ⟨es,g1,g2,Ti g3⟩,λh=>by cases h⟩
 |Ak e te kp=>
  simp only [fi,Option.some.injEq] at hb;subst hb
  have h2:Ui w D r e x none:=h.2
  have h3:=Ui.Ex h2 hD
  refine ⟨by cases r<;>exact h3,?_⟩
  cases kp with
  |false=>trivial
  |true=>
   simp only [if_true,KeptAt]
   rw [Ub]
   cases r with
   |none=>trivial
   |some q=>exact ⟨rfl,rfl,rfl,λj _ _=>by rw [hw0]⟩
theorem gS {D:Nat->Prop} (hD: ∀b,Bf X.w0.heap.size X.Sc π false b->D b) (hw0:X.w0=w) {π0:Pi} (Ub: ∀l,X.cE l=(π0 l).map full): ∀(cs:List (Bool×CK)) (k:Nat) (x:Ins.den cs) (us:List Value),aH w D π0 k cs x us-> ∀l b,Ad (Tl k cs x) l=some b->Aw X w π H ((π0 l).map full) b
 | [],_,_,_,_,_,_,h=>by cases h
 |_::_,_,_,[],h,_,_,_=>h.elim
 |p::r,k,x,u::us,h,l,b,hb=>by
  simp only [Tl] at hb
  cases hc:fi (Bv p.1 k) p.2 x.1 with
  |none=>rw [hc] at hb;exact gS hD hw0 Ub r (k+1) x.2 us h.2 l b hb
  |some c=>
   rw [hc] at hb
   simp only [cW,Ad] at hb
   split at hb
   ·rename_i e;subst e
    simp only [Option.some.injEq] at hb;subst hb
    exact NU hD hw0 (Ub _) h.1 hc
   ·exact gS hD hw0 Ub r (k+1) x.2 us h.2 l b hb
theorem yp {S:Nat->Prop} {π0:Pi} {gv:Nat->Prop} {cE:Pi} (a8: ∀l,π l=(π0 l).map full): ∀(cs:List (Bool×CK)) (k:Nat) (x:Ins.den cs) (us:List Value),k+cs.length<100000->aH w (λb=>Qd π0 b\/S b) π0 k cs x us->(∀l b,Ad (Tl k cs x) l=some b->Ad H l=some b)->
  Ir ⟨w,S,gv,cE⟩ w π H (Wo k cs x) us
 | [],_,_,[],_,_,_=>trivial
 | [],_,_,_::_,_,h,_=>h.elim
 |_::_,_,_,[],_,h,_=>h.elim
 |p::r,k,x,u::us,hk,h,hH=>by
  simp only [List.length_cons] at hk
  refine ⟨?_,yp a8 r (k+1) x.2 us (by omega) h.2 λl b hb=>hH l b (JJ hk hb)⟩
  have h1:=h.1
  have hh: ∀b,fi (Bv p.1 k) p.2 x.1=some b->Ad H (Bv p.1 k)=some b:= λb hb=>hH _ b (by simp only [Tl];rw [hb];simp [cW,Ad])
  have eJ:=a8 (Bv p.1 k)
  obtain ⟨io,c⟩:=p
  dsimp only at h1 hh eJ⊢
  generalize x.1=y at*
  cases c with
  |Er τ=>
   show Bd w _ τ u y
   cases hf:τ.flat with
   |true=>exact Bd.flat hf h1.2
   |false=>
    refine h1.2.Ex λb _ hb=>?_
    rcases hb with ⟨l,q,h3,h4⟩|hb|⟨hb,_⟩
    ·rw [a8 l] at h3
     cases hp:π0 l with
     |none=>rw [hp] at h3;cases h3
     |some q0=>rw [hp] at h3;simp only [Option.map_some,Option.some.injEq] at h3;subst h3;exact .inl ⟨l,q0,hp,h4⟩
    ·exact .inr hb
    ·cases hb
  |row e te=>exact ⟨_,e.size,List.length y,hh _ rfl,rfl,by simp,by rw [eJ];exact Tp h1.1⟩
  |Eb e te=>exact ⟨_,e.size,List.length y,hh _ rfl,rfl,by simp,by rw [eJ];exact Tp h1.1⟩
  |part e te=>exact ⟨_,e.size,List.length y.1,hh _ rfl,rfl,h1.1.2,by rw [eJ];exact Tp h1.1.1⟩
  |Ak e te kp=>exact ⟨_,1,List.length y,hh _ rfl,rfl,by simp,by rw [eJ];exact Tp h1.1⟩
theorem kU {p:Real} {s off len:Nat} {u:Value} {f:Nat->Prop} (h:Eh (some p) s off len u):Eh (some ⟨p.g,p.o+off,p.cap-off,f,f⟩) s 0 len u:=by
 obtain ⟨ad,h1,h2,h3⟩:=h
 exact ⟨ad,h1,by dsimp only;omega,λh0=>by dsimp only at h0;simpa using h3 (by omega)⟩
theorem py {α:Type} {xs:List α} {off len i:Nat} {x:α} (h:((xs.drop off).take len)[i]?=some x):xs[off+i]?=some x:=by
 rw [List.getElem?_take] at h
 split at h
 ·rw [List.getElem?_drop] at h;exact h
 ·cases h
theorem Rl.part {P:Nat->Prop} {g o:Nat} {cur:Array Value} {e:Ty} {xs:List e.den} (off len:Nat) (h:Rl w P g o cur e xs):Rl w P g (o+off) cur e ((xs.drop off).take len):=by
 obtain ⟨Fs,t1,t2,t3,t4⟩:=h
 refine ⟨(Fs.drop off).take len,by simp [t1],List.nodup_cons.2 ⟨λhm=>(List.nodup_cons.1 t2).1 (Mt off len _ hm),hJ off len (List.nodup_cons.1 t2).2⟩,λb hb=>t3 b (Mt off len b hb),λi x F hx hF=>?_⟩
 obtain ⟨es,k1,k2,k3⟩:=t4 (off+i) x F (py hx) (py hF)
 exact ⟨es,k1,λj u hu=>by rw [Nat.add_assoc o off i];exact k2 j u hu,k3⟩
theorem JW {st:St} (h:Iq X w π st.heap) {c:CK} (hg: ∀e te kp,c≠ .Ak e te kp) {a:AC} {u:Value} (hu:Ec X w π st.heap a u) {x:c.den} {ls:List Nat} (he:fm st c a=some (x,ls)):
  ∃r,aG w (λb=>Qd π b\/X.Sc b) r u c x/\ ∀q,r=some q-> ∃l p,ls= [l]/\π l=some p/\(∀b,q.Bc b->p.cl b)/\(c.YO=false-> ∀b,q.Bc b->p.Bc b):=by
 have GV: ∀ {f:Bool} (b:Nat),(Qd π b\/X.Sc b)->Bf X.w0.heap.size X.Sc π f b:= λb h=>h.imp id .inl
 cases c with
 |Er τ=>
  simp only [fm] at he
  split at he
  ·rename_i hf
   cases hv:Bo st τ a with
   |none=>rw [hv] at he;cases he
   |some p=>
    obtain ⟨fr,y⟩:=p
    rw [hv] at he
    simp only [Option.map_some,Option.some.injEq,Prod.mk.injEq] at he
    obtain ⟨rfl,rfl⟩:=he
    refine ⟨none,⟨rfl,?_⟩,λq hq=>by cases hq⟩
    have Ex: ∀f,Bd w (Bf X.w0.heap.size X.Sc π f) τ u y->Bd w (λb=>Qd π b\/X.Sc b) τ u y:= λf hr=>hr.Ex λk _ hk=>GV k hk
    cases a with
    |data f Jj z=>
     rw [Jb] at hv
     split at hv
     ·rename_i ht;subst ht
      simp only [Option.some.injEq,Prod.mk.injEq] at hv
      obtain ⟨_,rfl⟩:=hv
      exact Ex f hu
     ·have Ul:τ.Ab=false:=by unfold cY at hv;split at hv<;>first|rfl|cases hv
      exact Ex _ ⟨[u],Yu hv hu,by simp [Ar,Ul]⟩
    |Hx=>
     have hu:u= .slice none 0 0:=hu
     subst hu
     cases τ<;>simp only [Bo,Option.some.injEq,Prod.mk.injEq,reduceCtorEq] at hv
     ·obtain ⟨_,rfl⟩:=hv;exact ⟨[_],⟨none,0,0,rfl,rfl,Nat.le_refl _, .inl rfl⟩,rfl⟩
     ·obtain ⟨_,rfl⟩:=hv;exact ⟨[_], .inl ⟨rfl,0,rfl⟩,rfl⟩
    |Rg=>
     have hu:u= .pointer none:=hu
     subst hu
     cases τ<;>simp only [Bo,Option.some.injEq,Prod.mk.injEq,reduceCtorEq] at hv
     obtain ⟨_,rfl⟩:=hv;exact ⟨[_], .inl ⟨rfl,rfl⟩,rfl⟩
    |_=>cases τ<;>simp [AC.settled,Ty.flat,Bo] at hf hv
  ·cases he
 |row e te=>
  cases a<;>simp only [fm] at he<;>try (cases he;done)
  ·simp only [Option.some.injEq,Prod.mk.injEq] at he
   obtain ⟨rfl,rfl⟩:=he
   have hu:u= .slice none 0 0:=hu
   exact ⟨none,⟨⟨hu,rfl,rfl⟩,rfl⟩,λq hq=>by cases hq⟩
  ·rename_i l off len
   split at he
   ·rename_i fr tr e' Lu xs hl
    split at he
    ·rename_i hc
     obtain ⟨rfl,rfl⟩:=hc
     simp only [Option.some.injEq,Prod.mk.injEq] at he
     obtain ⟨rfl,rfl⟩:=he
     unfold St.at at hl
     obtain ⟨h1,h2⟩:=Jp hu hl
     have hb:=(h.heap l).Lx hl
     simp only [Aw,Gg] at hb
     have hlen:((xs.drop off).take len).length=len:=by simp;omega
     cases hp:π l with
     |none=>
      rw [hp] at h2 hb
      obtain ⟨rfl,rfl,rfl⟩:=h2
      exact ⟨none,⟨⟨rfl,rfl,by simp⟩,by show (xs.drop 0).take 0= [];simp⟩,λq hq=>by cases hq⟩
     |some p=>
      rw [hp] at h2 hb
      obtain ⟨k1,cur,ti,k2,k3,k4,k5,k6,_⟩:=hb
      have ho:=h2
      obtain ⟨ad,_,oD,_⟩:=h2
      refine ⟨some ⟨p.g,p.o+off,p.cap-off,p.Bc,p.Bc⟩,⟨by rw [hlen];exact kU ho,⟨k1.1,k1.2.1⟩,cur,ti,k2,by rw [k3];congr 1;dsimp only;omega,by dsimp only;omega,by rw [hlen];dsimp only;omega,λi y hy=>?_⟩,
       fun q hq=>by cases hq;exact ⟨l,p,rfl,hp,λb hb=>h.sub l p b hp hb,λ_ b hb=>hb⟩⟩
      obtain ⟨es,g1,g2,g3⟩:=k6 (off+i) y (py hy)
      exact ⟨es,g1,λj u hu=>by dsimp only;rw [Nat.add_assoc p.o off i];exact g2 j u hu,Cells.Cs (Nat.le_refl _) (λ_ _ _=>rfl) (λb _ hb=>GV b hb) e' es y g3⟩
    ·cases he
   ·cases he
 |Eb e te=>
  cases a<;>simp only [fm] at he<;>try (cases he;done)
  ·simp only [Option.some.injEq,Prod.mk.injEq] at he
   obtain ⟨rfl,rfl⟩:=he
   have hu:u= .slice none 0 0:=hu
   exact ⟨none,⟨⟨hu,rfl,rfl⟩,rfl⟩,λq hq=>by cases hq⟩
  ·rename_i l off len
   split at he
   ·rename_i fr tr e' Lu xs hl
    split at he
    ·rename_i hc
     obtain ⟨rfl,rfl,hf⟩:=hc
     simp only [Option.some.injEq,Prod.mk.injEq] at he
     obtain ⟨rfl,rfl⟩:=he
     unfold St.at at hl
     obtain ⟨h1,h2⟩:=Jp hu hl
     have hb:=(h.heap l).Lx hl
     simp only [Aw,Gg] at hb
     have hlen:((xs.drop off).take len).length=len:=by simp;omega
     cases hp:π l with
     |none=>
      rw [hp] at h2 hb
      obtain ⟨rfl,rfl,rfl⟩:=h2
      exact ⟨none,⟨⟨rfl,rfl,by simp⟩,by show (xs.drop 0).take 0= [];simp⟩,λq hq=>by cases hq⟩
     |some p=>
      rw [hp] at h2 hb
      obtain ⟨k1,cur,ti,k2,k3,k4,k5,k6,k7⟩:=hb
      have ho:=h2
      obtain ⟨ad,_,oD,_⟩:=h2
      have ht:Rl w p.cl p.g p.o cur e' xs:=by
       simp only [Bool.or_eq_true] at hf
       rcases hf with hf|hf
       ·exact k7 hf
       ·exact iT hf k6
      exact ⟨some ⟨p.g,p.o+off,p.cap-off,p.cl,p.cl⟩,⟨by rw [hlen];exact kU ho,h.sub l p _ hp k1.1,cur,ti,k2,by rw [k3];congr 1;dsimp only;omega,by dsimp only;omega,by rw [hlen];dsimp only;omega,ht.part off len⟩,
       fun q hq=>by cases hq;exact ⟨l,p,rfl,hp,λb hb=>hb,λhx=>by cases hx⟩⟩
    ·cases he
   ·rename_i e' Lu xs hl
    split at he
    ·rename_i hc
     obtain ⟨rfl,rfl⟩:=hc
     simp only [Option.some.injEq,Prod.mk.injEq] at he
     obtain ⟨rfl,rfl⟩:=he
     unfold St.at at hl
     obtain ⟨h1,h2⟩:=Xa hu hl
     have hb:=(h.heap l).Lx hl
     simp only [Aw,Jc] at hb
     have hlen:((xs.drop off).take len).length=len:=by simp;omega
     cases hp:π l with
     |none=>
      rw [hp] at h2 hb
      obtain ⟨rfl,rfl,rfl⟩:=h2
      exact ⟨none,⟨⟨rfl,rfl,by simp⟩,by show (xs.drop 0).take 0= [];simp⟩,λq hq=>by cases hq⟩
     |some p=>
      rw [hp] at h2 hb
      obtain ⟨k1,cur,ti,k2,k3,k4,k5,ht⟩:=hb
      have ho:=h2
      obtain ⟨ad,_,oD,_⟩:=h2
      exact ⟨some ⟨p.g,p.o+off,p.cap-off,p.Bc,p.Bc⟩,⟨by rw [hlen];exact kU ho,k1,cur,ti,k2,by rw [k3];congr 1;dsimp only;omega,by dsimp only;omega,by rw [hlen];dsimp only;omega,ht.part off len⟩,
       fun q hq=>by cases hq;exact ⟨l,p,rfl,hp,λb hb=>h.sub l p b hp hb,λ_ b hb=>hb⟩⟩
    ·cases he
   ·cases he
 |part e te=>cases a<;>simp [fm] at he
 |Ak e te kp=>exact absurd rfl (hg e te kp)
theorem QU {st:St} (h:Iq X w π st.heap) {c:CK} {a:AC} {u:Value} (hu:Ec X w π st.heap a u) {x:c.den} {ls:List Nat} (he:fm st c a=some (x,ls)):
  ∃r,aG w (λb=>Qd π b\/X.Sc b) r u c x/\(∀q,r=some q-> ∃l p,ls= [l]/\π l=some p/\(∀b,q.Bc b->p.cl b)/\(c.YO=false-> ∀b,q.Bc b->p.Bc b))/\
   (∀l off len e te rows out kp,a= .own l off len->Ad st.heap l=some (.Ak e te rows out kp)->r=π l):=by
 have qM:(∀e te kp,c≠ .Ak e te kp)->(∀l off len e te rows out kp,a=AC.own l off len->Ad st.heap l=some (OB.Ak e te rows out kp)->False)->
   ∃r,aG w (λb=>Qd π b\/X.Sc b) r u c x/\(∀q,r=some q-> ∃l p,ls= [l]/\π l=some p/\(∀b,q.Bc b->p.cl b)/\(c.YO=false-> ∀b,q.Bc b->p.Bc b))/\
   (∀l off len e te rows out kp,a= .own l off len->Ad st.heap l=some (.Ak e te rows out kp)->r=π l):= λh1 h2=>by
  obtain ⟨r,g1,g2⟩:=JW h h1 hu he
  exact ⟨r,g1,g2,λl off len e te rows out kp h3 h4=>(h2 l off len e te rows out kp h3 h4).elim⟩
 cases c with
 |Er τ=>
  refine qM (λ_ _ _ h=>by cases h) λl off len e te rows out kp h3 h4=>?_
  subst h3
  simp only [fm] at he
  split at he
  ·rename_i hf
   cases τ<;>simp [AC.settled,Ty.flat,Bo] at hf he
  ·cases he
 |row e te=>
  refine qM (λ_ _ _ h=>by cases h) λl off len e te rows out kp h3 h4=>?_
  subst h3
  simp only [fm,St.at,h4] at he
  cases he
 |Eb e te=>
  refine qM (λ_ _ _ h=>by cases h) λl off len e te rows out kp h3 h4=>?_
  subst h3
  simp only [fm,St.at,h4] at he
  cases he
 |part e te=>cases a<;>simp [fm] at he
 |Ak e te kp=>
  cases a<;>simp only [fm] at he<;>try (cases he;done)
  rename_i l off len
  split at he
  ·rename_i e' Lu rows kp' hl
   split at he
   ·rename_i hc
    obtain ⟨rfl,rfl,rfl,rfl⟩:=hc
    simp only [Option.some.injEq,Prod.mk.injEq] at he
    obtain ⟨rfl,rfl⟩:=he
    unfold St.at at hl
    obtain ⟨b,sz,n,h1,h2,_,h3⟩:=hu
    rw [hl] at h1;cases h1
    simp only [OB.row,Option.some.injEq,Prod.mk.injEq] at h2
    obtain ⟨rfl,rfl⟩:=h2
    have hb:=((h.heap l).Lx hl).1
    refine ⟨π l,⟨h3,Ui.Ex hb λb hb=>hb.imp id .inl⟩,λq hq=>⟨l,q,rfl,hq,λb hb=>h.sub l q b hq hb,λ_ b hb=>hb⟩,λl' Apt Apn _ _ _ _ _ he _=>?_⟩
    simp only [AC.own.injEq] at he
    rw [he.1]
   ·cases he
  ·cases he
theorem Fb.congr {D:Nat->Prop} {ρ ρ':Pi} : ∀(cs:List CK) (k:Nat) (x:CKs.den cs) (us:List Value),(∀j,k<=j->ρ' (Gj j)=ρ (Gj j))->Fb w D ρ k cs x us->Fb w D ρ' k cs x us
 | [],_,_,[],_,h=>h
 | [],_,_,_::_,_,h=>h.elim
 |_::_,_,_,[],_,h=>h.elim
 |c::r,k,x,u::us,he,h=>⟨by rw [he k (Nat.le_refl _)];exact h.1,Fb.congr r (k+1) x.2 us (λj hj=>he j (by omega)) h.2⟩
theorem tG {st:St} (h:Iq X w π st.heap): ∀(cs:List CK) (k:Nat) (as:List AC) (us:List Value) (x:CKs.den cs) (ls:List Nat),Ir X w π st.heap as us->Pp st cs as=some (x,ls)->ls.Nodup->
  ∃ρ:Pi,Fb w (λb=>Qd π b\/X.Sc b) ρ k cs x us/\(∀l q,ρ l=some q-> ∃j,k<=j/\j<k+cs.length/\l=Gj j)/\(∀l q b,ρ l=some q->q.Bc b-> ∃l0∈ls,∃p,π l0=some p/\p.cl b/\((cs.all λc=>!c.YO)=true->p.Bc b))/\
   (∀l l' q q' b,ρ l=some q->ρ l'=some q'->q.Bc b->q'.Bc b->l=l')/\
   (∀(j l off len:Nat) e te rows out kp,as[j]?=some (.own l off len)->Ad st.heap l=some (.Ak e te rows out kp)->ρ (Gj (k+j))=π l)
 | [],k,[],[],x,ls,_,he,_=>by
  simp only [Pp,Option.some.injEq,Prod.mk.injEq] at he
  exact ⟨λ_=>none,trivial,(λl q h=>by cases h),(λl q b h=>by cases h),(λl l' q q' b h=>by cases h),λj l off len e te rows out kp h=>by simp at h⟩
 | [],_,[],_::_,_,_,h,_,_=>h.elim
 | [],_,_::_,_,_,_,_,he,_=>by simp [Pp] at he
 |_::_,_,[],_,_,_,_,he,_=>by simp [Pp] at he
 |_::_,_,_::_,[],_,_,h,_,_=>h.elim
 |c::r,k,a::as,u::us,x,ls,hr,he,MY=>by
  simp only [Pp] at he
  split at he
  ·rename_i x1 t1 x2 t2 h1 h2
   simp only [Option.some.injEq,Prod.mk.injEq] at he
   obtain ⟨rfl,rfl⟩:=he
   obtain ⟨n1,n2,n3⟩:=List.nodup_append.1 MY
   obtain ⟨ρ,g1,g2,g3,g4,g5⟩:=tG h r (k+1) as us x2 t2 hr.2 h2 n2
   obtain ⟨rr,r1,r2,r3⟩:=QU h hr.1 h1
   have xF: ∀l q q0 b,ρ l=some q->rr=some q0->q.Bc b->q0.Bc b->False:= λl q q0 b h3 h4 h5 h6=>by
    obtain ⟨l0,m0,p,p1,p2,_⟩:=g3 l q b h3 h5
    obtain ⟨l1,p',e1,p1',p2',_⟩:=r2 q0 h4
    have:=h.inj l0 l1 p p' b p1 p1' p2 (p2' b h6)
    exact n3 l1 (by rw [e1];simp) l0 m0 this.symm
   refine ⟨λl=>if l=Gj k then rr else ρ l,⟨by simpa using r1,Fb.congr r (k+1) x2 us (λj hj=>if_neg (by unfold Gj;omega)) g1⟩,λl q hq=>?_,λl q b hq hb=>?_,λl l' q q' b h3 h4 h5 h6=>?_,λj l off len e te rows out kp hj hl=>?_⟩
   ·dsimp only at hq
    by_cases e:l=Gj k
    ·exact ⟨k,Nat.le_refl _,by simp,e⟩
    ·rw [if_neg e] at hq
     obtain ⟨j,j1,j2,j3⟩:=g2 l q hq
     exact ⟨j,by omega,by simp;omega,j3⟩
   ·dsimp only at hq
    by_cases e:l=Gj k
    ·rw [if_pos e] at hq
     obtain ⟨l1,p',e1,p1',p2',p3'⟩:=r2 q hq
     exact ⟨l1,by rw [e1];simp,p',p1',p2' b hb,λhx=>p3' (by simp only [List.all_cons,Bool.and_eq_true,Bool.not_eq_true'] at hx;exact hx.1) b hb⟩
    ·rw [if_neg e] at hq
     obtain ⟨l0,m0,p,p1,p2,p3⟩:=g3 l q b hq hb
     exact ⟨l0,List.mem_append_right _ m0,p,p1,p2,λhx=>p3 (by simp only [List.all_cons,Bool.and_eq_true] at hx;exact hx.2)⟩
   ·dsimp only at h3 h4
    by_cases e:l=Gj k<;>by_cases e':l'=Gj k
    ·rw [e,e']
    ·rw [if_pos e] at h3;rw [if_neg e'] at h4
     exact (xF l' q' q b h4 h3 h6 h5).elim
    ·rw [if_neg e] at h3;rw [if_pos e'] at h4
     exact (xF l q q' b h3 h4 h5 h6).elim
    ·rw [if_neg e] at h3;rw [if_neg e'] at h4
     exact g4 l l' q q' b h3 h4 h5 h6
   ·rcases j with _|j
    ·simp only [List.getElem?_cons_zero,Option.some.injEq] at hj
     show (if Gj k=Gj k then rr else ρ (Gj k))=π l
     rw [if_pos rfl]
     exact r3 l off len e te rows out kp hj hl
    ·have:=g5 j l off len e te rows out kp (by simpa using hj) hl
     show (if Gj (k+(j+1))=Gj k then rr else ρ (Gj (k+(j+1))))=π l
     rw [if_neg (by unfold Gj;omega),<-this,show k+(j+1)=k+1+j by omega]
  ·cases he
theorem zo {r r':Option Real} (h:Vy (r.map full) r') {e:Ty} {xs:List e.den} {te:TypeId} {fr tr:Bool} (ha:Gg X w π r' fr tr e te xs):Nk w (λb=>Qd π b\/X.Sc b) r e xs:=by
 cases r with
 |none=>cases r' with
  |none=>exact ha
  |some q=>exact h.elim
 |some p=>cases r' with
  |none=>exact h.elim
  |some q=>
   obtain ⟨e1,e2,e3,e4⟩:=h
   obtain ⟨k1,cur,ti,k2,k3,k4,k5,k6,_⟩:=ha
   have e1:p.g=q.g:=e1
   have e2:p.o=q.o:=e2
   have e3:p.cap=q.cap:=e3
   refine ⟨⟨by rw [e1];exact (e4 _).2 k1.1,λb hb=>by rw [e1];exact k1.2.1 b ((e4 b).1 hb)⟩,cur,ti,by rw [e1];exact k2,by rw [e2,e3];exact k3,by rw [e3];exact k4,by rw [e3];exact k5,λi y hy=>?_⟩
   obtain ⟨es,g1,g2,g3⟩:=k6 i y hy
   exact ⟨es,g1,by rw [e2];exact g2,Cells.Cs (Nat.le_refl _) (λ_ _ _=>rfl) (λb _ hb=>hb.imp id .inl) e es y g3⟩
theorem KZ {r r':Option Real} (h:Vy (r.map full) r') {e:Ty} {xs:List e.den} {te:TypeId} (ha:Jc w r' e te xs):Jc w r e te xs:=by
 cases r with
 |none=>cases r' with
  |none=>exact ha
  |some q=>exact h.elim
 |some p=>cases r' with
  |none=>exact h.elim
  |some q=>
   obtain ⟨e1,e2,e3,e4⟩:=h
   obtain ⟨k1,cur,ti,k2,k3,k4,k5,Fs,t1,t2,t3,t4⟩:=ha
   have e1:p.g=q.g:=e1
   have e2:p.o=q.o:=e2
   have e3:p.cap=q.cap:=e3
   exact ⟨by rw [e1];exact (e4 _).2 k1,cur,ti,by rw [e1];exact k2,by rw [e2,e3];exact k3,by rw [e3];exact k4,by rw [e3];exact k5,Fs,t1,by rw [e1];exact t2,λb hb=>(e4 b).2 (t3 b hb),by rw [e2];exact t4⟩
theorem Ot {st:St} {π0:Pi} {D:Nat->Prop} {w0:World} (h:Iq X w π st.heap) (Ub: ∀l,X.cE l=(π0 l).map full): ∀(cs:List (Bool×CK)) (k:Nat) (x:Ins.den cs) (us:List Value) (o:IOs.den cs),aH w0 D π0 k cs x us->Jr st k cs=some o->
  Ht w (λb=>Qd π b\/X.Sc b) π0 k cs o/\ ∀l∈Kr k cs,Ad st.heap l≠none
 | [],_,_,_,_,_,_=>⟨trivial,λl hl=>by cases hl⟩
 |_::_,_,_,[],_,h,_=>h.elim
 |(false,c)::r,k,x,u::us,o,hi,he=>Ot h Ub r (k+1) x.2 us o hi.2 (by simpa only [Jr] using he)
 |(true, .Er τ)::r,k,x,u::us,o,hi,he=>Ot h Ub r (k+1) x.2 us o hi.2 (by simpa only [Jr] using he)
 |(true, .Ak e te kp)::r,k,x,u::us,o,hi,he=>Ot h Ub r (k+1) x.2 us o hi.2 (by simpa only [Jr] using he)
 |(true, .row e te)::r,k,x,u::us,o,hi,he=>by
  simp only [Jr] at he
  split at he
  ·rename_i x1 x2 h1 h2
   simp only [Option.some.injEq] at he;subst he
   obtain ⟨g1,g2⟩:=Ot h Ub r (k+1) x.2 us x2 hi.2 h2
   have h0:=hi.1
   simp only [lJ] at h1
   split at h1
   ·rename_i fr tr e' Lu xs hl
    split at h1
    ·rename_i hc
     obtain ⟨rfl,rfl⟩:=hc
     simp only [Option.some.injEq] at h1;subst h1
     unfold St.at at hl
     have hs:=h.cE (Bv true k) (by have:=Vh k;omega) (by rw [hl];simp)
     rw [Ub] at hs
     exact ⟨⟨zo (te:=Lu) hs ((h.heap _).Lx hl),g1⟩,λl Gd=>by
      simp only [Kr] at Gd
      rcases List.mem_cons.1 Gd with rfl|Gd
      ·rw [hl];simp
      ·exact g2 l Gd⟩
    ·cases h1
   ·cases h1
  ·cases he
 |(true, .part e te)::r,k,x,u::us,o,hi,he=>by
  simp only [Jr] at he
  split at he
  ·rename_i x1 x2 h1 h2
   simp only [Option.some.injEq] at he;subst he
   obtain ⟨g1,g2⟩:=Ot h Ub r (k+1) x.2 us x2 hi.2 h2
   have h0:=hi.1
   simp only [lJ] at h1
   split at h1
   ·rename_i fr tr e' Lu xs hl
    split at h1
    ·rename_i hc
     obtain ⟨rfl,rfl⟩:=hc
     simp only [Option.some.injEq] at h1;subst h1
     unfold St.at at hl
     have hs:=h.cE (Bv true k) (by have:=Vh k;omega) (by rw [hl];simp)
     rw [Ub] at hs
     exact ⟨⟨zo (te:=Lu) hs ((h.heap _).Lx hl),g1⟩,λl Gd=>by
      simp only [Kr] at Gd
      rcases List.mem_cons.1 Gd with rfl|Gd
      ·rw [hl];simp
      ·exact g2 l Gd⟩
    ·cases h1
   ·cases h1
  ·cases he
 |(true, .Eb e te)::r,k,x,u::us,o,hi,he=>by
  simp only [Jr] at he
  split at he
  ·rename_i x1 x2 h1 h2
   simp only [Option.some.injEq] at he;subst he
   obtain ⟨g1,g2⟩:=Ot h Ub r (k+1) x.2 us x2 hi.2 h2
   simp only [lJ] at h1
   split at h1
   ·rename_i e' Lu xs hl
    split at h1
    ·rename_i hc
     obtain ⟨rfl,rfl⟩:=hc
     simp only [Option.some.injEq] at h1;subst h1
     unfold St.at at hl
     have hs:=h.cE (Bv true k) (by have:=Vh k;omega) (by rw [hl];simp)
     rw [Ub] at hs
     exact ⟨⟨KZ (te:=Lu) hs ((h.heap _).Lx hl),g1⟩,λl Gd=>by
      simp only [Kr] at Gd
      rcases List.mem_cons.1 Gd with rfl|Gd
      ·rw [hl];simp
      ·exact g2 l Gd⟩
    ·cases h1
   ·cases h1
  ·cases he
theorem rn {p:Bool×CK} {r:List (Bool×CK)} (h:To (p::r)=true):To r=true:=by
 rcases p with ⟨_|_,c⟩<;>cases c<;>first|(simp [To] at h;done)|simpa [To] using h
theorem tm: ∀(cs:List (Bool×CK)) (k:Nat) (x:Ins.den cs) (l:Nat),To cs=true->k+cs.length<100000->Ad (Tl k cs x) l≠none-> ¬l<Am->l∈Kr k cs
 | [],_,_,_,_,_,h,_=>absurd rfl h
 |(io,c)::r,k,x,l,hng,hk,h,hp=>by
  simp only [List.length_cons] at hk
  simp only [Tl] at h
  have tail:Ad (Tl (k+1) r x.2) l≠none->l∈Kr (k+1) r:= λh=>tm r (k+1) x.2 l (rn hng) (by omega) h hp
  have sub: ∀m,m∈Kr (k+1) r->m∈Kr k ((io,c)::r):= λm hm=>by
   cases io<;>cases c<;>simp only [Kr]<;>first|exact hm|exact List.mem_cons_of_mem _ hm
  cases hc:fi (Bv io k) c x.1 with
  |none=>rw [hc] at h;exact sub l (tail h)
  |some b=>
   rw [hc] at h
   simp only [cW,Ad] at h
   split at h
   ·rename_i e;subst e
    cases io with
    |false=>exact absurd (bx (by omega)) hp
    |true=>cases c with
     |Er τ=>cases hc
     |row e te=>simp [Kr]
     |Eb e te=>simp [Kr]
     |part e te=>simp [Kr]
     |Ak e te kp=>simp [To] at hng
   ·exact sub l (tail h)
theorem aG.Ex {D D':Nat->Prop} (hD: ∀b,D' b->D b) {r:Option Real} {u:Value} {c:CK} {x:c.den} (h:aG w D r u c x):aG w D' r u c x:=by
 cases c with
 |Er τ=>exact ⟨h.1,h.2.Ex λb _ hb=>hD b hb⟩
 |row e te=>exact ⟨h.1,Nk.Ex h.2 hD⟩
 |Eb e te=>exact h
 |part e te=>exact ⟨h.1,h.2.1,Nk.Ex h.2.2 hD⟩
 |Ak e te kp=>exact ⟨h.1,Ui.Ex h.2 hD⟩
theorem Fb.Ex {D D':Nat->Prop} (hD: ∀b,D' b->D b) {ρ:Pi} : ∀(cs:List CK) (k:Nat) (x:CKs.den cs) (us:List Value),Fb w D ρ k cs x us->Fb w D' ρ k cs x us
 | [],_,_,[],h=>h
 | [],_,_,_::_,h=>h.elim
 |_::_,_,_,[],h=>h.elim
 |_c::r,k,x,_u::us,h=>⟨h.1.Ex hD,Fb.Ex hD r (k+1) x.2 us h.2⟩
theorem Ht.Ex {D D':Nat->Prop} (hD: ∀b,D' b->D b) {π:Pi} : ∀(cs:List (Bool×CK)) (k:Nat) (x:IOs.den cs),Ht w D π k cs x->Ht w D' π k cs x
 | [],_,_,h=>h
 |(false,_)::r,k,x,h=>Ht.Ex hD r (k+1) x h
 |(true, .Er _)::r,k,x,h=>Ht.Ex hD r (k+1) x h
 |(true, .Ak _ _ _)::r,k,x,h=>Ht.Ex hD r (k+1) x h
 |(true, .row _e _te)::r,k,x,h=>⟨Nk.Ex h.1 hD,Ht.Ex hD r (k+1) x.2 h.2⟩
 |(true, .Eb _e _te)::r,k,x,h=>⟨h.1,Ht.Ex hD r (k+1) x.2 h.2⟩
 |(true, .part _e _te)::r,k,x,h=>⟨Nk.Ex h.1 hD,Ht.Ex hD r (k+1) x.2 h.2⟩
theorem aH.congr {D:Nat->Prop} {π0 Xl:Pi} : ∀(cs:List (Bool×CK)) (k:Nat) (x:Ins.den cs) (us:List Value),(∀b j,k<=j->j<k+cs.length->Xl (Bv b j)=π0 (Bv b j))->aH w D π0 k cs x us->aH w D Xl k cs x us
 | [],_,_,[],_,h=>h
 | [],_,_,_::_,_,h=>h
 |_::_,_,_,[],_,h=>h
 |p::r,k,x,u::us,hp,h=>⟨by rw [hp p.1 k (Nat.le_refl _) (by simp)];exact h.1,aH.congr r (k+1) x.2 us (λb j h1 h2=>hp b j (by omega) (by simp;omega)) h.2⟩
theorem Ht.congr {D:Nat->Prop} {π0 Xl:Pi} : ∀(cs:List (Bool×CK)) (k:Nat) (x:IOs.den cs),(∀b j,k<=j->j<k+cs.length->Xl (Bv b j)=π0 (Bv b j))->Ht w D π0 k cs x->Ht w D Xl k cs x
 | [],_,_,_,h=>h
 |(false,c)::r,k,x,hp,h=>by cases c<;>exact Ht.congr r (k+1) x (λb j h1 h2=>hp b j (by omega) (by simp;omega)) h
 |(true, .Er _)::r,k,x,hp,h=>Ht.congr r (k+1) x (λb j h1 h2=>hp b j (by omega) (by simp;omega)) h
 |(true, .Ak _ _ _)::r,k,x,hp,h=>Ht.congr r (k+1) x (λb j h1 h2=>hp b j (by omega) (by simp;omega)) h
 |(true, .row e te)::r,k,x,hp,h=>⟨by rw [hp true k (Nat.le_refl _) (by simp)];exact h.1,Ht.congr r (k+1) x.2 (λb j h1 h2=>hp b j (by omega) (by simp;omega)) h.2⟩
 |(true, .Eb e te)::r,k,x,hp,h=>⟨by rw [hp true k (Nat.le_refl _) (by simp)];exact h.1,Ht.congr r (k+1) x.2 (λb j h1 h2=>hp b j (by omega) (by simp;omega)) h.2⟩
 |(true, .part e te)::r,k,x,hp,h=>⟨by rw [hp true k (Nat.le_refl _) (by simp)];exact h.1,Ht.congr r (k+1) x.2 (λb j h1 h2=>hp b j (by omega) (by simp;omega)) h.2⟩
theorem Ch.congr {π0 Xl:Pi} : ∀(cs:List (Bool×CK)) (k:Nat) (o:IOs.den cs) (n:Nat) (us as:List Value),(∀b j,k<=j->j<k+cs.length->Xl (Bv b j)=π0 (Bv b j))->Ch π0 k cs o n us as->Ch Xl k cs o n us as
 | [],k,o,0,us,as,_,h=>by simpa [Ch] using h
 | [],k,o,n+1,us,as,_,h=>by simp [Ch] at h
 |p::r,k,o,0,us,as,_,h=>by
  rcases p with ⟨_|_,c⟩<;>cases c<;>simpa [Ch] using h
 |(true, .Er _)::r,k,o,n+1,us,as,_,h=>by simp [Ch] at h
 |(true, .part _ _)::r,k,o,n+1,us,as,_,h=>by simp [Ch] at h
 |(true, .Ak _ _ _)::r,k,o,n+1,us,as,_,h=>by simp [Ch] at h
 |(true, .row e te)::r,k,o,n+1,[],as,_,h=>by simp [Ch] at h
 |(true, .Eb e te)::r,k,o,n+1,[],as,_,h=>by simp [Ch] at h
 |(true, .row e te)::r,k,o,n+1,u::us,as,hp,h=>by
  simp only [Ch] at h⊢
  exact ⟨by rw [hp true k (Nat.le_refl _) (by simp)];exact h.1,Ch.congr r (k+1) o.2 n us as (λb j h1 h2=>hp b j (by omega) (by simp;omega)) h.2⟩
 |(true, .Eb e te)::r,k,o,n+1,u::us,as,hp,h=>by
  simp only [Ch] at h⊢
  exact ⟨by rw [hp true k (Nat.le_refl _) (by simp)];exact h.1,Ch.congr r (k+1) o.2 n us as (λb j h1 h2=>hp b j (by omega) (by simp;omega)) h.2⟩
 |(false,c)::r,k,o,n+1,[],as,_,h=>by cases c<;>simp [Ch] at h
 |(false,c)::r,k,o,n+1,u::us,[],_,h=>by cases c<;>simp [Ch] at h
 |(false,c)::r,k,o,n+1,u::us,a::as,hp,h=>by
  have h:u=a/\Ch π0 (k+1) r o n us as:=by cases c<;>exact h
  have:=Ch.congr r (k+1) o n us as (λb j h1 h2=>hp b j (by omega) (by simp;omega)) h.2
  cases c<;>exact ⟨h.1,this⟩
theorem lW: ∀(A B:List (Nat×OB)) (l:Nat),Ad (A++B) l=match Ad A l with|some b=>some b|none=>Ad B l
 | [],B,l=>rfl
 |(k,b)::A,B,l=>by
  simp only [List.cons_append,Ad]
  split
  ·rfl
  ·exact lW A B l
theorem po {st:St} : ∀(cs:List CK) (as:List AC) (x:CKs.den cs) (ls:List Nat),Pp st cs as=some (x,ls)-> ∀l∈ls,∃b,Ad st.heap l=some b/\b.row≠none
 | [],[],x,ls,he=>by
  simp only [Pp,Option.some.injEq,Prod.mk.injEq] at he
  obtain ⟨_,rfl⟩:=he
  intro l hl;cases hl
 | [],_::_,_,_,he=>by simp [Pp] at he
 |_::_,[],_,_,he=>by simp [Pp] at he
 |c::r,a::as,x,ls,he=>by
  simp only [Pp] at he
  split at he
  ·rename_i x1 t1 x2 t2 h1 h2
   simp only [Option.some.injEq,Prod.mk.injEq] at he
   obtain ⟨_,rfl⟩:=he
   intro l hl
   rcases List.mem_append.1 hl with hl|hl
   ·unfold fm at h1
    split at h1
    ·split at h1
     ·cases hv:Bo st _ a with
      |none=>rw [hv] at h1;cases h1
      |some p=>rw [hv] at h1;simp only [Option.map_some,Option.some.injEq,Prod.mk.injEq] at h1;obtain ⟨_,rfl⟩:=h1;cases hl
     ·cases h1
    all_goals (repeat' split at h1)
    all_goals first|(cases h1;done)|skip
    all_goals (simp only [Option.some.injEq,Prod.mk.injEq] at h1;obtain ⟨_,rfl⟩:=h1)
    all_goals first|(cases hl;done)|skip
    all_goals (have hl:=List.mem_singleton.1 hl;subst hl)
    all_goals (rename_i heq _;exact ⟨_,heq,by simp [OB.row]⟩)
   ·exact po r as x2 t2 h2 l hl
  ·cases he
theorem me {r r':Option Real} {sz off len:Nat} {v:Value} (h:Vy r r') (hv:Eh r' sz off len v):Eh r sz off len v:=by
 cases r<;>cases r'<;>first|exact h.elim|skip
 ·exact hv
 ·obtain ⟨h1,h2,h3,_⟩:=h
  obtain ⟨ad,g1,g2,g3⟩:=hv
  exact ⟨ad,by rw [h3];exact g1,by rw [h3];exact g2,by rw [h1,h2,h3];exact g3⟩
theorem Sx {st:St} {π0:Pi} (hs: ∀k,Ad st.heap (Bv true k)≠none->Vy ((π0 (Bv true k)).map full) (π (Bv true k))):
  ∀(cs:List (Bool×CK)) (k:Nat) (vs:List AC) (us:List Value) (bc:List AC) (o:IOs.den cs),Ir X w π st.heap vs us->Fe k cs vs=some bc->dv st vs cs->Jr st k cs=some o->
   ∃bv,Ir X w π st.heap bc bv/\bv.length=pH cs vs.length/\ ∀tl,Ch π0 k cs o vs.length us (bv++tl)
 |cs,k,[],us,bc,o,hr,he,_,_=>by
  have e1:us= []:=by cases us with|nil=>rfl|cons u us=>exact hr.elim
  have e2:bc= []:=by rcases cs with _|⟨⟨_|_,c⟩,r⟩<;>simpa [Fe] using he.symm
  subst e1;subst e2
  refine ⟨[],trivial,?_,λtl=>?_⟩
  ·rcases cs with _|⟨⟨_|_,c⟩,r⟩<;>rfl
  ·rcases cs with _|⟨⟨_|_,c⟩,r⟩<;>(try cases c)<;>simp [Ch]
 | [],k,a::vs,us,bc,o,hr,he,_,_=>by simp [Fe] at he
 |p::r,k,a::vs,[],bc,o,hr,_,_,_=>hr.elim
 |(false,c)::r,k,a::vs,u::us,bc,o,hr,he,hk,ho=>by
  have he:(Fe (k+1) r vs).map (λl=>a::l)=some bc:=by cases a<;>exact he
  cases hb:Fe (k+1) r vs with
  |none=>rw [hb] at he;cases he
  |some bc'=>
   rw [hb] at he
   simp only [Option.map_some,Option.some.injEq] at he;subst he
   obtain ⟨bv,g1,g2,g3⟩:=Sx hs r (k+1) vs us bc' o hr.2 hb (by cases a<;>exact hk) (by cases c<;>simpa only [Jr] using ho)
   refine ⟨u::bv,⟨hr.1,g1⟩,by simp [pH,g2],λtl=>?_⟩
   have:=g3 tl
   cases c<;>exact ⟨rfl,this⟩
 |(true,c)::r,k,a::vs,u::us,bc,o,hr,he,hk,ho=>by
  cases c with
  |Er τ=>cases a<;>simp [Fe] at he
  |part e te=>cases a<;>simp [Fe] at he
  |Ak e te kp=>cases a<;>simp [Fe] at he
  |row e te=>
   cases a<;>first|(simp [Fe] at he;done)|skip
   rename_i l off len
   simp only [Fe] at he
   split at he
   rotate_left
   ·cases he
   rename_i hl
   have hl:l=Bv true k:=Nat.eq_of_beq_eq_true hl
   subst hl
   obtain ⟨⟨rfl,hlen⟩,hk⟩:=hk
   obtain ⟨b,sz,n,h1,h2,h3,h4⟩:=hr.1
   have yk:=hs k (by rw [h1];simp)
   simp only [Jr] at ho
   split at ho
   ·rename_i x1 x2 q1 q2
    simp only [Option.some.injEq] at ho;subst ho
    obtain ⟨bv,g1,g2,g3⟩:=Sx hs r (k+1) vs us bc x2 hr.2 he hk q2
    refine ⟨bv,g1,by simpa [pH] using g2,λtl=>?_⟩
    refine ⟨?_,g3 tl⟩
    simp only [lJ] at q1
    split at q1
    ·rename_i fr tr e' Lu xs Gd
     split at q1
     ·rename_i hc
      obtain ⟨rfl,rfl⟩:=hc
      simp only [Option.some.injEq] at q1;subst q1
      unfold St.at at Gd hlen
      rw [Gd] at hlen
      rw [h1] at Gd;cases Gd
      simp only [OB.row,Option.some.injEq,Prod.mk.injEq] at h2
      obtain ⟨rfl,rfl⟩:=h2
      have hlen:len=List.length xs:=hlen
      have:=me yk h4
      rw [hlen] at this
      have e0:(π0 (Bv true k)).map full=(π0 (Bv true k)).map full:=rfl
      cases hp:π0 (Bv true k)<;>(rw [hp] at this;exact this)
     ·cases q1
    ·cases q1
   ·cases ho
  |Eb e te=>
   cases a<;>first|(simp [Fe] at he;done)|skip
   rename_i l off len
   simp only [Fe] at he
   split at he
   rotate_left
   ·cases he
   rename_i hl
   have hl:l=Bv true k:=Nat.eq_of_beq_eq_true hl
   subst hl
   obtain ⟨⟨rfl,hlen⟩,hk⟩:=hk
   obtain ⟨b,sz,n,h1,h2,h3,h4⟩:=hr.1
   have yk:=hs k (by rw [h1];simp)
   simp only [Jr] at ho
   split at ho
   ·rename_i x1 x2 q1 q2
    simp only [Option.some.injEq] at ho;subst ho
    obtain ⟨bv,g1,g2,g3⟩:=Sx hs r (k+1) vs us bc x2 hr.2 he hk q2
    refine ⟨bv,g1,by simpa [pH] using g2,λtl=>?_⟩
    refine ⟨?_,g3 tl⟩
    simp only [lJ] at q1
    split at q1
    ·rename_i e' Lu xs Gd
     split at q1
     ·rename_i hc
      obtain ⟨rfl,rfl⟩:=hc
      simp only [Option.some.injEq] at q1;subst q1
      unfold St.at at Gd hlen
      rw [Gd] at hlen
      rw [h1] at Gd;cases Gd
      simp only [OB.row,Option.some.injEq,Prod.mk.injEq] at h2
      obtain ⟨rfl,rfl⟩:=h2
      have hlen:len=List.length xs:=hlen
      have:=me yk h4
      rw [hlen] at this
      cases hp:π0 (Bv true k)<;>(rw [hp] at this;exact this)
     ·cases q1
    ·cases q1
   ·cases ho
def Agp (s:MSpec) (g:Nat) (π:Pi):Pi:= λl=>if s.ptr.isSome=true/\l=Kb then some ⟨g,0,0,λb=>b=g,λb=>b=g⟩ else π l
def Adc (P:Program) (s:MSpec) (fn:Func) (x:Ins.den s.ins) (w:World) (S:Nat->Prop) (π:Pi) (g:Nat) (r:CKs.den s.outs) (o:IOs.den s.ins) (a':Act) (w':World):Prop:=
 ∃(v:Value) (Re:List Value) (ρ:Pi),a'.defers= []/\(results fn a'.tmps).run P w'= .ok v w'/\nP s w' ρ (Re.drop s.Un) v/\gz s π w' g Re o/\Gs w.heap.size (λb=>Qd π b\/s.gv g b) w w'/\Ht w' (fg S π ρ) π 0 s.ins o/\Fb w' (fg S π ρ) ρ 0 s.outs r Re/\
  cJ ρ (λb=>b<w'.heap.size/\(w.heap.size<=b\/ ∃l q,l<Am/\π l=some q/\q.Bc b))/\(∀l,(∀k,k<s.Ox->l≠Gj k)->ρ l=none)/\(∀kj∈s.keeps,xc w w' (π (Bv false kj.1)) (ρ (Gj kj.2)) (s.Cs x))
theorem Fb.NW {D:Nat->Prop} {ρ ρ':Pi} : ∀(cs:List CK) (k:Nat) (x:CKs.den cs) (us:List Value),(∀j,k<=j->j<k+cs.length->ρ' (Gj j)=ρ (Gj j))->Fb w D ρ k cs x us->Fb w D ρ' k cs x us
 | [],_,_,[],_,h=>h
 | [],_,_,_::_,_,h=>h.elim
 |_::_,_,_,[],_,h=>h.elim
 |c::r,k,x,u::us,he,h=>⟨by rw [he k (Nat.le_refl _) (by simp)];exact h.1,Fb.NW r (k+1) x.2 us (λj hj hl=>he j (by omega) (by simp;omega)) h.2⟩
theorem tq {st:St} {n:Nat} {as:List AC} : ∀ {ks:List (Nat×Nat)},tp st n as ks-> ∀kj∈ks,∃l off len e te rows out p,as[kj.2]?=some (.own l off len)/\Ad st.heap l=some (.Ak e te rows out (some p))/\p.1=Bv false kj.1/\n<=p.2/\kj.1<1000
 | [],_,kj,hm=>by cases hm
 |(k,j)::r,h,kj,hm=>by
  simp only [tp] at h
  rcases List.mem_cons.1 hm with rfl|hm
  ·obtain ⟨h,_⟩:=h
   split at h
   ·rename_i l off len he
    split at h
    ·rename_i e te rows out p hl
     unfold St.at at hl
     exact ⟨l,off,len,e,te,rows,out,p,he,hl,h.1,h.2.1,by simpa using h.2.2⟩
    ·exact h.elim
   ·exact h.elim
  ·exact tq h.2 kj hm
theorem tF {st:St} : ∀(cs:List CK) (as:List AC) (x:CKs.den cs) (ls:List Nat),Pp st cs as=some (x,ls)->as.length=cs.length
 | [],[],_,_,_=>rfl
 | [],_::_,_,_,he=>by simp [Pp] at he
 |_::_,[],_,_,he=>by simp [Pp] at he
 |c::r,a::as,x,ls,he=>by
  simp only [Pp] at he
  split at he
  ·rename_i h1 h2
   simp only [List.length_cons,tF r as _ _ h2]
  ·cases he
theorem zl {α β:Type} (f:α->Sem β): ∀(l:List α) (vs:List β),vs.length=l.length->(∀(i:Nat) a v,l[i]?=some a->vs[i]?=some v->(f a).run P w= .ok v w)->(l.mapM f).run P w= .ok vs w
 | [],[],_,_=>by simp
 | [],_::_,h,_=>by simp at h
 |_::_,[],h,_=>by simp at h
 |a::l,v::vs,h,hr=>by
  rw [List.mapM_cons]
  simp only [Sem.run_bind,hr 0 a v rfl rfl,Result.andThen_ok,zl f l vs (by simpa using h) (λi a' v' ha hv=>hr (i+1) a' v' (by simpa using ha) (by simpa using hv)),Sem.run_pure]
theorem qT (hT:Ce P T) (Ni:Iu P Γ) (hm:P.follows .mixedOrders=true) {f:FuncId} {fn:Func} (hf:P.funcs[f]?=some fn) (s:MSpec) (w:World) (S:Nat->Prop) (π:Pi) (us:List Value) (x:Ins.den s.ins)
  (r:CKs.den s.outs) (o:IOs.den s.ins) (g:Nat) (iD:List Value) (Lr:jW s w g us iD) (hSg:s.ptr.isSome=true->S g) (Vf:aH w (λb=>Qd π b\/S b) π 0 s.ins x us) (eJ:cJ π (λb=>b<w.heap.size)) (hS: ∀b,S b->b<w.heap.size/\ ¬Qd π b) (OH: ∀l,Ad (Tl 0 s.ins x) l=none->π l=none) (he:XB T Γ s fn x λz=>z=(r,o)):
  Calls P f iD.toArray w λe w'=> ∃v Re ρ,e= .returned v/\nP s w' ρ (Re.drop s.Un) v/\gz s π w' g Re o/\Gs w.heap.size (λb=>Qd π b\/s.gv g b) w w'/\Ht w' (fg S π ρ) π 0 s.ins o/\Fb w' (fg S π ρ) ρ 0 s.outs r Re/\
   cJ ρ (λb=>b<w'.heap.size/\(w.heap.size<=b\/ ∃l q,l<Am/\π l=some q/\q.Bc b))/\(∀l,(∀k,k<s.Ox->l≠Gj k)->ρ l=none)/\(∀kj∈s.keeps,xc w w' (π (Bv false kj.1)) (ρ (Gj kj.2)) (s.Cs x)):=by
 obtain ⟨hlen,c,hb,he⟩:=he
 simp only [Bool.and_eq_true,Nat.blt_eq] at hlen
 obtain ⟨hlen,OM⟩:=hlen
 unfold vU at OM
 simp only [Bool.and_eq_true] at OM
 have Aei:=OM.1
 let mG:Pi:=Agp s g π
 let Sg:Nat->Prop:= λb=>S b/\ ¬s.gv g b
 have hvl: ∀b j,j<1000->Bv b j≠Kb:= λb j hj=>by cases b<;>(unfold Bv Kb;simp;omega)
 have uT: ∀b j,0<=j->j<0+s.ins.length->mG (Bv b j)=π (Bv b j):= λb j _ hj=>if_neg λh=>hvl b j (by omega) h.2
 have XZ: ∀b j,0<=j->j<0+s.ins.length->π (Bv b j)=mG (Bv b j):= λb j h1 h2=>(uT b j h1 h2).symm
 have Aaw:Ad (Tl 0 s.ins x) Kb=none:=Classical.byContradiction λhn=>by
  obtain ⟨b,j,_,h2,h3⟩:=oP s.ins 0 x Kb hn
  exact hvl b j (by omega) h3.symm
 have MA: ∀l q,mG l=some q->(π l=some q/\(s.ptr.isSome=true->l≠Kb))\/(s.ptr.isSome=true/\l=Kb/\q=⟨g,0,0,λb=>b=g,λb=>b=g⟩):= λl q hq=>by
  have hq:(if s.ptr.isSome=true/\l=Kb then some ⟨g,0,0,λb=>b=g,λb=>b=g⟩ else π l)=some q:=hq
  split at hq
  ·rename_i hc;exact .inr ⟨hc.1,hc.2,(Option.some.inj hq).symm⟩
  ·rename_i hc;exact .inl ⟨hq,λh1 h2=>hc ⟨h1,h2⟩⟩
 have a8: ∀b,Qd mG b↔Qd π b\/s.gv g b:= λb=>by
  constructor
  ·rintro ⟨l,q,h1,h2⟩
   rcases MA l q h1 with ⟨h3,_⟩|⟨h3,h4,rfl⟩
   ·exact .inl ⟨l,q,h3,h2⟩
   ·exact .inr ⟨h3,h2⟩
  ·rintro (⟨l,q,h1,h2⟩|⟨h1,rfl⟩)
   ·refine ⟨l,q,?_,h2⟩
    show (if s.ptr.isSome=true/\l=Kb then _ else π l)=some q
    rw [if_neg]
    ·exact h1
    ·rintro ⟨_,rfl⟩
     rw [OH Kb Aaw] at h1;cases h1
   ·exact ⟨Kb,⟨b,0,0,λc=>c=b,λc=>c=b⟩,if_pos ⟨h1,rfl⟩,rfl⟩
 have hgS: ∀b,s.gv g b->S b:= λb ⟨h1,h2⟩=>h2▸hSg h1
 have Aa7:aH w (λb=>Qd mG b\/Sg b) mG 0 s.ins x us:=aH.congr s.ins 0 x us uT (aH.Ex (λb hb=>by
  rcases hb with hb|hb
  ·rcases (a8 b).1 hb with hb|hb
   ·exact .inl hb
   ·exact .inr (hgS b hb)
  ·exact .inr hb.1) s.ins 0 x us Vf)
 have Aen:cJ mG (λb=>b<w.heap.size):=⟨λl q b h1 h2=>by
  rcases MA l q h1 with ⟨h3,_⟩|⟨h3,h4,rfl⟩
  ·exact eJ.Ur l q b h3 h2
  ·exact (hS b (hgS b ⟨h3,h2⟩)).1,λl l' q q' b h1 h2 h3 h4=>by
  rcases MA l q h1 with ⟨h5,_⟩|⟨h5,h6,rfl⟩<;>rcases MA l' q' h2 with ⟨h7,_⟩|⟨h7,h8,rfl⟩
  ·exact eJ.inj l l' q q' b h5 h7 h3 h4
  ·exact absurd ⟨l,q,h5,h3⟩ (hS b (hgS b ⟨h7,h4⟩)).2
  ·exact absurd ⟨l',q',h7,h4⟩ (hS b (hgS b ⟨h5,h3⟩)).2
  ·rw [h6,h8]⟩
 have Aio: ∀b,Sg b->b<w.heap.size/\ ¬Qd mG b:= λb hb=>⟨(hS b hb.1).1,λho=>((a8 b).1 ho).elim (hS b hb.1).2 hb.2⟩
 have GX: ∀l,Ad (lZ s x) l=match Ad (Tl 0 s.ins x) l with|some b=>some b|none=>if l=Kb then s.ptr.map λp=> .var p.1 ((Wo 0 s.ins x).take p.2) else none:= λl=>by
  unfold lZ
  cases hp:s.ptr with
  |none=>cases Ad (Tl 0 s.ins x) l<;>simp
  |some p=>
   simp only
   rw [lW]
   cases Ad (Tl 0 s.ins x) l with
   |some b=>rfl
   |none=>
    simp only [Ad,Option.map_some]
    by_cases e:l=Kb
    ·rw [if_pos e,if_pos e.symm]
    ·rw [if_neg e,if_neg (λh=>e h.symm)]
 let π0:Pi:= λl=>(mG l).map full
 have un: ∀l q,π0 l=some q-> ∃q0,mG l=some q0/\q=full q0:= λl q hq=>by
  have hq:(mG l).map full=some q:=hq
  cases hp:mG l with
  |none=>rw [hp] at hq;cases hq
  |some q0=>rw [hp] at hq;exact ⟨q0,rfl,(Option.some.inj hq).symm⟩
 have OP: ∀l b,Ad (Tl 0 s.ins x) l=some b->Ad (lZ s x) l=some b:= λl b hb=>by rw [GX l,hb]
 have hrc:Ir ⟨w,Sg,Qd mG,π0⟩ w π0 (lZ s x) (Wo 0 s.ins x) us:=yp (λ_=>rfl) s.ins 0 x us (by omega) Aa7 OP
 have PJ:s.ptr.isSome=true->π0 Kb=some ⟨g,0,0,λb=>b=g,λb=>b=g⟩:= λhp=>by
  show (if s.ptr.isSome=true/\Kb=Kb then _ else π Kb).map full=_
  rw [if_pos ⟨hp,rfl⟩];rfl
 obtain ⟨g1,g2⟩:(Um s (Wo 0 s.ins x)).length=iD.length/\ ∀(i:Nat) c v,(Um s (Wo 0 s.ins x))[i]?=some c->iD[i]?=some v->Ao ⟨w,Sg,Qd mG,π0⟩ w π0 (lZ s x) c v:=by
  unfold jW at Lr
  cases hp:s.ptr with
  |none=>
   rw [hp] at Lr
   obtain ⟨rfl,AK⟩:=Lr
   obtain ⟨g1,g2,_,_⟩:=a5 s.Fz _ us AK hrc
   rw [show Um s (Wo 0 s.ins x)=No s.Fz (Wo 0 s.ins x) by unfold Um;rw [hp]]
   exact ⟨g1,g2⟩
  |some p=>
   rw [hp] at Lr
   obtain ⟨rfl,AK,_⟩:=Lr
   obtain ⟨g1,g2,_,_⟩:=a5 s.Fz _ (us.drop p.2) AK (Ir.take p.2 hrc).2
   rw [show Um s (Wo 0 s.ins x)= .at (.Ea Kb 0)::No s.Fz ((Wo 0 s.ins x).drop p.2) by unfold Um;rw [hp]]
   refine ⟨by simp [g1],λi c v h1 h2=>?_⟩
   rcases i with _|i
   ·simp only [List.getElem?_cons_zero,Option.some.injEq] at h1 h2
    subst h1;subst h2
    exact ⟨_,p.1,(Wo 0 s.ins x).take p.2,by rw [GX,Aaw];simp [hp],PJ (by rw [hp];rfl),rfl⟩
   ·exact g2 i c v (by simpa using h1) (by simpa using h2)
 have h0:Rel ⟨w,Sg,Qd mG,π0⟩ {tmps:=Um s (Wo 0 s.ins x)++List.replicate (fn.ntmps-(Um s (Wo 0 s.ins x)).length) .undef,heap:=lZ s x}
   {tmps:=iD.toArray++Array.replicate (fn.ntmps-iD.toArray.size) undef,defers:= []} w:=by
  refine ⟨π0,⟨Gs.refl _ _ _,λb hb=>Aio b hb,λl q b h1 h2=>?_,λl q b h1 h2=>?_,λl l' q q' b h1 h2 h3 h4=>?_,λl _ _=>Vy.rfl' _,λl=>?_⟩,⟨by simp [g1],rfl,λt=>?_⟩⟩
  ·obtain ⟨q0,_,rfl⟩:=un l q h1;exact h2
  ·obtain ⟨q0,h3,rfl⟩:=un l q h1
   exact ⟨.inr ⟨l,q0,h3,h2⟩,Aen.Ur l q0 b h3 h2⟩
  ·obtain ⟨q0,h5,rfl⟩:=un l q h1
   obtain ⟨q0',h6,rfl⟩:=un l' q' h2
   exact Aen.inj l l' q0 q0' b h5 h6 h3 h4
  ·cases hh:Ad (Tl 0 s.ins x) l with
   |none=>
    by_cases hv:s.ptr.isSome=true/\l=Kb
    ·obtain ⟨hps,rfl⟩:=hv
     obtain ⟨p,hp⟩:=Option.isSome_iff_exists.1 hps
     refine Cz.Hi (b:= .var p.1 ((Wo 0 s.ins x).take p.2)) ?_ (by rw [GX,hh];simp [hp])
     unfold jW at Lr
     rw [hp] at Lr
     obtain ⟨_,_,h1,h2,h3⟩:=Lr
     rw [PJ hps]
     exact ⟨_,rfl,rfl,_,h2,Ir.to (Ir.take p.2 hrc).1 h3⟩
    ·refine Cz.Ol ?_ ?_
     ·show (if s.ptr.isSome=true/\l=Kb then _ else π l).map full=none
      rw [if_neg hv,OH l hh];rfl
     ·rw [GX,hh]
      simp only
      split
      ·rename_i e
       cases hp:s.ptr with
       |none=>rfl
       |some p=>exact absurd ⟨by rw [hp];rfl,e⟩ hv
      ·rfl
   |some b=>exact Cz.Hi (gS (π0:=mG) (λb hb=>by
    rcases hb with ⟨l,q,h1,h2⟩|hb|⟨hb,_⟩
    ·obtain ⟨q0,h3,rfl⟩:=un l q h1;exact .inl ⟨l,q0,h3,h2⟩
    ·exact .inr hb
    ·cases hb) rfl (λ_=>rfl) s.ins 0 x us Aa7 l b hh) (OP l b hh)
  ·show Ao _ w _ _ ((Um s (Wo 0 s.ins x)++List.replicate _ AV.undef).getD t .undef) ((iD.toArray++Array.replicate _ undef).getD t undef)
   by_cases ht:t<iD.length
   ·rw [List.getD_eq_getElem?_getD,List.getElem?_append_left (by omega),<-List.getD_eq_getElem?_getD]
    rw [Array.getD_eq_getD_getElem?,Array.getElem?_append_left (by simpa using ht)]
    have:=g2 t _ _ (List.getElem?_eq_getElem (by omega)) (List.getElem?_eq_getElem ht)
    simpa [List.getD_eq_getElem?_getD,List.getElem?_eq_getElem ht,List.getElem?_eq_getElem (show t<(Um s (Wo 0 s.ins x)).length by omega)] using this
   ·have:(Um s (Wo 0 s.ins x)++List.replicate (fn.ntmps-(Um s (Wo 0 s.ins x)).length) AV.undef).getD t .undef= .undef:=by
     rw [List.getD_eq_getElem?_getD,List.getElem?_append_right (by omega)]
     rw [List.getElem?_replicate]
     split<;>rfl
    rw [this];trivial
 have fin: ∀(st:St) (a':Act) (w':World),NG T s fn x st (λz=>z=(r,o))->Rel ⟨w,Sg,Qd mG,π0⟩ st a' w'->Adc P s fn x w S π g r o a' w':=by
  intro st a' w' mR hrel
  obtain ⟨Xl,h'⟩:=hrel
  have YF:Am<=Kb:=by unfold Am Kb;omega
  obtain ⟨bc,lV,Akm,hbc⟩: ∃bc,eS T s fn x st bc (λz=>z=(r,o))/\(s.ptr.isSome=true-> ∃b,Ad st.heap Kb=some b/\b.row=none)/\
    (Jr st 0 s.ins=some o-> ∃bv,Ir ⟨w,Sg,Qd mG,π0⟩ w' Xl st.heap bc bv/\bv.length=s.Un/\ ∀tl,gz s π w' g (bv++tl) o):=by
   unfold NG at mR
   cases hp:s.ptr with
   |none=>
    rw [hp] at mR
    exact ⟨[],mR,λh=>by simp at h,λ_=>⟨[],trivial,by simp [MSpec.Un,hp],λtl=>by simp [gz,hp]⟩⟩
   |some p=>
    rw [hp] at mR
    obtain ⟨vs,cs,h1,h2,h3,h4,h5⟩:=mR
    unfold St.at at h1
    refine ⟨cs,h5,λ_=>⟨_,h1,rfl⟩,λuQ=>?_⟩
    obtain ⟨q,k1,k2,cur,k3,k4⟩:=(h'.1.heap Kb).Lx h1
    have hsv:Vy (π0 Kb) (Xl Kb):=h'.1.cE Kb YF (by rw [h1];simp)
    rw [PJ (by rw [hp];rfl),k1] at hsv
    have hqg:g=q.g:=hsv.1
    obtain ⟨bv,g1,g2,g3⟩:=Sx (π0:=mG) (λk hk=>h'.1.cE _ (Nat.le_of_not_lt (Vh k)) hk) s.ins 0 vs cur.toList cs o (Ir.of k4) h3 h4 uQ
    refine ⟨bv,g1,by rw [g2,h2];simp [MSpec.Un,hp],λtl=>?_⟩
    unfold gz
    rw [hp]
    refine ⟨cur.toList,by rw [hqg];simpa using k3,λu hu=>?_,Ch.congr s.ins 0 o p.2 _ _ XZ (h2▸g3 tl)⟩
    obtain ⟨i,hi,rfl⟩:=List.mem_iff_getElem.1 hu
    have hl:=k4.1
    obtain ⟨u',h6,h7,_⟩:=k4.2 i (vs[i]'(by omega)) (List.getElem?_eq_getElem _)
    rw [List.getElem?_eq_getElem hi] at h6
    rw [Option.some.inj h6];exact h7
  unfold eS at lV
  split at lV
  ·exact lV.elim
  rename_i l hl
  split at lV
  ·exact lV.elim
  rename_i as ml dp
  split at lV
  rotate_left
  ·exact lV.elim
  rename_i r' ls o' BZ sU
  obtain ⟨Fu,tb,PA⟩:=lV
  simp only [Bool.and_eq_true,Nat.blt_eq] at Fu
  obtain ⟨⟨⟨MY,Ao4⟩,Amf⟩,Aee⟩:=Fu
  simp only [Prod.mk.injEq] at PA
  obtain ⟨rfl,rfl⟩:=PA
  obtain ⟨bv,hbv,Aj0,Aiy⟩:=hbc sU
  have BX:=Sd MY
  obtain ⟨n1,n2,n3⟩:=List.nodup_append.1 BX
  obtain ⟨m1,m2,m3⟩:=List.nodup_append.1 n1
  obtain ⟨vs,v1,v2,v3,v4⟩:=Sf hT h' _ _ hl
  have VF:fn.results=fn.results.toList.toArray:=Array.toArray_toList.symm
  have Qb: ∀v,(if h:vs.toArray.size=1 then vs.toArray[0] else .tuple vs.toArray)=v->(results fn a'.tmps).run P w'= .ok v w':=by
   intro v hv
   rw [bw,VF,List.mapM_toArray]
   simp only [map_eq_pure_bind,bind_assoc,pure_bind]
   simp only [Sem.run_bind,zl (EE a'.tmps) _ vs v1 v3,Result.andThen_ok,Sem.run_pure]
   rw [hv]
  obtain ⟨sl,v,qm,Akl,hv,YG⟩: ∃sl v qm,Ir ⟨w,Sg,Qd mG,π0⟩ w' Xl st.heap as sl/\(results fn a'.tmps).run P w'= .ok v w'/\
    ((s.rp=none/\ml= []/\qm=none/\RO s.Dv s.Es sl v/\Yj s.Es sl)\/
     ∃tid m q,s.rp=some tid/\ml= [m]/\m<Am/\qm=some q/\Xl m=some q/\q.Bc q.g/\w'.heap[q.g]?=some (.cells sl.toArray tid (0,0))/\(∀u∈sl,u.oneCell'=true)/\v= .pointer (some ⟨q.g,0,none⟩)):=by
   unfold ED at dp
   split at dp
   ·rename_i AJ
    split at dp
    rotate_left
    ·cases dp
    rename_i hmul
    cases MZ:ungroup s.Es l with
    |none=>rw [MZ] at dp;cases dp
    |some as'=>
     rw [MZ] at dp
     simp only [Option.map_some,Option.some.injEq,Prod.mk.injEq] at dp
     obtain ⟨rfl,rfl⟩:=dp
     obtain ⟨sl,e1,e2,e3⟩:=Ts s.Es l vs as' (by omega) v4 MZ
     have hv: ∃v,(results fn a'.tmps).run P w'= .ok v w'/\RO s.Dv s.Es sl v:=by
      unfold RO
      rw [<-e1,hmul]
      rcases Nat.lt_or_ge 1 l.length with h1|h1
      ·have OF:Nat.blt 1 l.length=true:=by simpa using h1
       simp only [OF,if_true]
       refine ⟨.tuple vs.toArray,Qb _ ?_,rfl⟩
       rw [dif_neg (by simp;omega)]
      ·have OF:Nat.blt 1 l.length=false:=by rw [<-Bool.not_eq_true];simpa using h1
       simp only [OF,Bool.false_eq_true,if_false]
       rcases vs with _|⟨v,_|⟨v',vs⟩⟩
       ·exact ⟨_,Qb _ (by simp;rfl), .inr rfl⟩
       ·exact ⟨v,Qb _ (by simp), .inl rfl⟩
       ·exfalso;simp only [List.length_cons] at v1;omega
     obtain ⟨v,hv1,hv2⟩:=hv
     exact ⟨sl,v,none,e3,hv1, .inl ⟨AJ,rfl,rfl,hv2,e2⟩⟩
   ·rename_i tid AJ
    split at dp
    rotate_left
    ·cases dp
    rename_i m i
    split at dp
    rotate_left
    ·cases dp
    rename_i Pe vs' hm
    split at dp
    rotate_left
    ·cases dp
    rename_i hc
    obtain ⟨rfl,rfl,TU⟩:=hc
    simp only [Option.some.injEq,Prod.mk.injEq] at dp
    obtain ⟨rfl,rfl⟩:=dp
    unfold St.at at hm
    rcases vs with _|⟨v,_|⟨v',vs⟩⟩
    ·exfalso;simp only [List.length_cons,List.length_nil] at v1 v2;omega
    ·obtain ⟨q,Aq4,vs2,q1,q2,q3⟩:=v4 0 _ v rfl rfl
     rw [hm] at q1;cases q1
     obtain ⟨q',k1,k2,cur,k3,k4⟩:=(h'.1.heap m).Lx hm
     rw [q2] at k1;cases k1
     refine ⟨cur.toList,v,some q,Ir.of k4,Qb _ (by simp), .inr ⟨_,m,q,AJ,rfl,by simpa using TU,rfl,q2,k2,by simpa using k3,λu hu=>?_,q3⟩⟩
     obtain ⟨i,hi,rfl⟩:=List.mem_iff_getElem.1 hu
     have hl:=k4.1
     obtain ⟨u',h6,h7,_⟩:=k4.2 i (vs'[i]'(by omega)) (List.getElem?_eq_getElem _)
     rw [List.getElem?_eq_getElem hi] at h6
     rw [Option.some.inj h6];exact h7
    ·exfalso;simp only [List.length_cons,List.length_nil] at v1 v2;omega
  obtain ⟨xa,p1,p2,p3,p4,p5⟩:=tG h'.1 s.outs 0 (bc++as) (bv++sl) r' ls (hbv.append Akl) BZ m2
  obtain ⟨io1,io2⟩:=Ot (π0:=mG) h'.1 (λ_=>rfl) s.ins 0 x us o' Aa7 sU
  have Ae0:(bv++sl).drop s.Un=sl:=by rw [<-Aj0];simp
  let ρ:Pi:= λl0=>if l0=Gj s.outs.length then qm else xa l0
  have Ab2:ρ (Gj s.outs.length)=qm:=if_pos rfl
  have Afe: ∀l0,l0≠Gj s.outs.length->ρ l0=xa l0:= λl0 h=>if_neg h
  have Afd: ∀j,j<s.outs.length->ρ (Gj j)=xa (Gj j):= λj hj=>Afe _ (by unfold Gj;omega)
  have qH: ∀l0 q,ρ l0=some q->(l0=Gj s.outs.length/\qm=some q)\/(l0≠Gj s.outs.length/\xa l0=some q):= λl0 q h=>by
   by_cases e:l0=Gj s.outs.length
   ·subst e;rw [Ab2] at h;exact .inl ⟨rfl,h⟩
   ·rw [Afe l0 e] at h;exact .inr ⟨e,h⟩
  have Aes: ∀q,qm=some q-> ∃m,ml= [m]/\m<Am/\Xl m=some q:= λq hq=>by
   rcases YG with ⟨_,_,h1,_⟩|⟨_,m,q',_,h1,h2,h3,h4,_⟩
   ·rw [h1] at hq;cases hq
   ·rw [h3] at hq;cases hq;exact ⟨m,h1,h2,h4⟩
  have p3': ∀l0 q b,ρ l0=some q->q.Bc b-> ∃l1∈ml++ls,∃p,Xl l1=some p/\p.cl b/\((s.outs.all λc=>!c.YO)=true->p.Bc b)/\((l1∈ls)\/l1<Am):= λl0 q b h1 h2=>by
   rcases qH l0 q h1 with ⟨_,h3⟩|⟨_,h3⟩
   ·obtain ⟨m,e1,e2,e3⟩:=Aes q h3
    exact ⟨m,by rw [e1];simp,q,e3,h'.1.sub m q b e3 h2,λ_=>h2, .inr e2⟩
   ·obtain ⟨l1,g1,p,g2,g3,g4⟩:=p3 l0 q b h3 h2
    exact ⟨l1,List.mem_append_right _ g1,p,g2,g3,g4, .inl g1⟩
  have p4': ∀l0 l1 q q' b,ρ l0=some q->ρ l1=some q'->q.Bc b->q'.Bc b->l0=l1:= λl0 l1 q q' b h1 h2 h3 h4=>by
   have xF: ∀l0 q q' b,xa l0=some q->qm=some q'->q.Bc b->q'.Bc b->False:= λl0 q q' b h1 h2 h3 h4=>by
    obtain ⟨m,e1,e2,e3⟩:=Aes q' h2
    obtain ⟨l1,g1,p,g2,g3,_⟩:=p3 l0 q b h1 h3
    have:=h'.1.inj m l1 q' p b e3 g2 (h'.1.sub m q' b e3 h4) g3
    exact m3 m (by rw [e1];simp) l1 g1 this
   rcases qH l0 q h1 with ⟨e1,h5⟩|⟨e1,h5⟩<;>rcases qH l1 q' h2 with ⟨e2,h6⟩|⟨e2,h6⟩
   ·rw [e1,e2]
   ·exact (xF l1 q' q b h6 h5 h4 h3).elim
   ·exact (xF l0 q q' b h5 h6 h3 h4).elim
   ·exact p4 l0 l1 q q' b h5 h6 h3 h4
  have HD: ∀l0 q,Am<=l0->mG l0=some q->Ad st.heap l0≠none/\(l0∈Kr 0 s.ins\/ ∃b,Ad st.heap l0=some b/\b.row=none):= λl0 q h1 h2=>by
   rcases MA l0 q h2 with ⟨h3,_⟩|⟨h3,rfl,_⟩
   ·have uQ:=tm s.ins 0 x l0 Aei (by omega) (λhnn=>by rw [OH l0 hnn] at h3;cases h3) (by omega)
    exact ⟨io2 l0 uQ, .inl uQ⟩
   ·obtain ⟨b,h4,h5⟩:=Akm h3
    exact ⟨by rw [h4];simp, .inr ⟨b,h4,h5⟩⟩
  have hDO:(s.outs.all λc=>!c.YO)=true-> ∀b,fg Sg mG ρ b->Qd Xl b\/Sg b:=by
   intro hx b hb
   rcases hb with hb|⟨l0,q,h1,h2,h3⟩|⟨l0,q,h1,h2⟩
   ·exact .inr hb
   ·have hs:=h'.1.cE l0 h1 (HD l0 q h1 h2).1
    have hs:Vy ((mG l0).map full) (Xl l0):=hs
    rw [h2] at hs
    cases x7:Xl l0 with
    |none=>rw [x7] at hs;exact hs.elim
    |some q1=>rw [x7] at hs;exact .inl ⟨l0,q1,x7,(hs.2.2.2 b).1 h3⟩
   ·obtain ⟨m,_,p,hm2,_,hm4,_⟩:=p3' l0 q b h1 h2
    exact .inl ⟨m,p,hm2,hm4 hx⟩
  have hDD: ∀b,fg S π ρ b->fg Sg mG ρ b:= λb hb=>by
   rcases hb with hb|⟨l0,q,h1,h2,h3⟩|hb
   ·by_cases sZ:s.gv g b
    ·obtain ⟨hps,rfl⟩:=sZ
     exact .inr (.inl ⟨Kb,_,YF,if_pos ⟨hps,rfl⟩,rfl⟩)
    ·exact .inl ⟨hb,sZ⟩
   ·refine .inr (.inl ⟨l0,q,h1,?_,h3⟩)
    show (if s.ptr.isSome=true/\l0=Kb then _ else π l0)=some q
    rw [if_neg]
    ·exact h2
    ·rintro ⟨_,rfl⟩
     rw [OH Kb Aaw] at h2;cases h2
   ·exact .inr (.inr hb)
  have TP:s.flat=true\/(s.outs.all λc=>!c.YO)=true:=by unfold MSpec.QK at Aee;simpa only [Bool.or_eq_true] using Aee
  have io1:Ht w' (fg S π ρ) π 0 s.ins o':=by
   refine Ht.congr s.ins 0 o' XZ ?_
   rcases TP with hf|hf
   ·unfold MSpec.flat at hf
    simp only [Bool.and_eq_true] at hf
    exact Ht.any s.ins 0 o' hf.2 io1
   ·exact Ht.Ex (λb hb=>hDO hf b (hDD b hb)) s.ins 0 o' io1
  have p1:Fb w' (fg S π ρ) ρ 0 s.outs r' (bv++sl):=by
   have p1:Fb w' (λb=>Qd Xl b\/Sg b) ρ 0 s.outs r' (bv++sl):=Fb.NW s.outs 0 r' _ (λj _ hj=>Afd j (by omega)) p1
   rcases TP with hf|hf
   ·unfold MSpec.flat at hf
    simp only [Bool.and_eq_true] at hf
    exact Fb.any s.outs 0 r' (bv++sl) hf.1 p1
   ·exact Fb.Ex (λb hb=>hDO hf b (hDD b hb)) s.outs 0 r' (bv++sl) p1
  refine ⟨v,bv++sl,ρ,h'.2.defers,hv,?_,Aiy sl,⟨h'.1.below.os,h'.1.below.tape,h'.1.below.output,h'.1.below.size,λk hk hn=>h'.1.below.block k hk λho=>hn ((a8 k).1 ho)⟩,io1,p1,⟨λl0 q b h1 h2=>?_,p4'⟩,λl0 hl0=>?_,λkj MX=>?_⟩
  ·rw [Ae0]
   unfold nP
   rcases YG with ⟨h1,_,_,h2⟩|⟨tid,m,q,h1,_,_,h3,_,h4,h5,h6,h7⟩
   ·rw [h1];exact h2
   ·rw [h1];exact ⟨q,by rw [Ab2,h3],h4,h5,h6,h7⟩
  ·obtain ⟨m,hm1,p,hm2,hm3,_,hm4⟩:=p3' l0 q b h1 h2
   obtain ⟨k1,k2⟩:=h'.1.place m p b hm2 hm3
   refine ⟨k2,k1.imp id λ⟨c0,q0,h5,h6⟩=>?_⟩
   have Gc:c0<Am:=Classical.byContradiction λhn=>by
    obtain ⟨Ff,uQ⟩:=HD c0 q0 (by omega) h5
    have hs:=h'.1.cE c0 (by omega) Ff
    have hs:Vy ((mG c0).map full) (Xl c0):=hs
    rw [h5] at hs
    cases x7:Xl c0 with
    |none=>rw [x7] at hs;exact hs.elim
    |some q1=>
     rw [x7] at hs
     have hf1:q1.Bc b:=(hs.2.2.2 b).1 h6
     have:=h'.1.inj c0 m q1 p b x7 hm2 (h'.1.sub c0 q1 b x7 hf1) hm3
     subst this
     rcases hm4 with hm4|hm4
     ·rcases uQ with uQ|⟨b1,OF,hb2⟩
      ·exact n3 c0 hm1 c0 uQ rfl
      ·obtain ⟨b2,hb3,hb4⟩:=po s.outs _ _ _ BZ c0 hm4
       rw [OF] at hb3;cases hb3
       exact hb4 hb2
     ·exact hn hm4
   refine ⟨c0,q0,Gc,?_,h6⟩
   rcases MA c0 q0 h5 with ⟨h7,_⟩|⟨_,h7,_⟩
   ·exact h7
   ·omega
  ·cases hp:ρ l0 with
   |none=>rfl
   |some q=>
    rcases qH l0 q hp with ⟨e,h3⟩|⟨_,h3⟩
    ·refine absurd e (hl0 _ ?_)
     rcases YG with ⟨_,_,h4,_⟩|⟨tid,m,q',h4,_⟩
     ·rw [h4] at h3;cases h3
     ·unfold MSpec.Ox;rw [h4];simp
    ·obtain ⟨j,_,j2,j3⟩:=p2 l0 q h3
     exact absurd j3 (hl0 j (by unfold MSpec.Ox;omega))
  ·obtain ⟨l0,off,len,e,te,rows,out,p,q1,q2,q3,q4,q5⟩:=tq tb kj MX
   have hj:kj.2<s.outs.length:=by
    rw [<-tF s.outs _ _ _ BZ]
    exact (List.getElem?_eq_some_iff.1 q1).1
   have e1:=p5 kj.2 l0 off len e te rows out (some p) q1 q2
   rw [Nat.zero_add] at e1
   rw [Afd _ hj,e1]
   have hk:=((h'.1.heap l0).Lx q2).2
   obtain ⟨l1,n1⟩:=p
   simp only [KeptAt] at hk
   dsimp only at q3 q4
   subst q3
   have JE:π0 (Bv false kj.1)=(π (Bv false kj.1)).map full:=by
    show (if s.ptr.isSome=true/\Bv false kj.1=Kb then _ else π (Bv false kj.1)).map full=_
    rw [if_neg λh=>hvl false kj.1 q5 h.2]
   rw [JE] at hk
   unfold xc
   cases hp:π (Bv false kj.1) with
   |none=>
    rw [hp] at hk
    cases x7:Xl l0 with
    |none=>trivial
    |some q=>rw [x7] at hk;exact hk.elim
   |some q0=>
    rw [hp] at hk
    cases x7:Xl l0 with
    |none=>rw [x7] at hk;exact hk.elim
    |some q=>
     rw [x7] at hk
     obtain ⟨k1,k2,k3,k4⟩:=hk
     exact ⟨k1,k2,k3,λj hj hc=>k4 j (by omega) hc⟩
 refine calls_of_wp hf hb ?_
 refine (pK hT Ni hm he _ w _ h0 λe st a' w' ⟨Ff,mR⟩ h'=>?_).1
 obtain ⟨v,Re,ρ,p1,p2,p3⟩:=fin st a' w' mR h'
 cases e with
 |normal=>exact ⟨p1,v,p2,v,Re,ρ,rfl,p3⟩
 |ret=>exact ⟨p1,v,p2,v,Re,ρ,rfl,p3⟩
 |exit id=>exact absurd rfl (Ff id)
end
end Go.Proofs.YtfolipnappekaaaGreat
