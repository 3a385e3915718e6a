/-
  Part 27 of the proof that the statement FnExactSolveByMethod holds.
-/
import Derived.Test.YtjbdmibbbpdnnaaCSolveByMethod25
namespace Go.Proofs.Ytjbdmibbbpdnnaa
open Go.RowKit
section
variable {P:Program} {T:Tab} {Γ:Env} {X:Ctx} {w w':World} {π:Pi} {H:List (Nat×OB)}
theorem nt: ∀(cs:List (Bool×CK)) (k:Nat) (x:Ins.den cs) (l:Nat),Ae (Sj k cs x) l≠none-> ∃b j,k<=j/\j<k+cs.length/\l=Bv b j
 | [],_,_,_,h=>absurd rfl h
 |p::r,k,x,l,h=>by
  simp only [Sj] at h
  by_cases e:l=Bv p.1 k
  ·exact ⟨p.1,k,Nat.le_refl _,by simp,e⟩
  ·have:Ae (Sj (k+1) r x.2) l≠none:=by
    cases hc:eD (Bv p.1 k) p.2 x.1 with
    |none=>rw [hc] at h;exact h
    |some b=>rw [hc] at h;simpa only [cn,Ae,if_neg (Ne.symm e)] using h
   obtain ⟨b,j,h1,h2,h3⟩:=nt r (k+1) x.2 l this
   exact ⟨b,j,by omega,by simp;omega,h3⟩
theorem EZ {p:Bool×CK} {r:List (Bool×CK)} {k:Nat} {x:Ins.den (p::r)} (hk:k+(r.length+1)<100000) {l:Nat} {b:OB} (h:Ae (Sj (k+1) r x.2) l=some b):Ae (Sj k (p::r) x) l=some b:=by
 obtain ⟨b',j,h1,h2,rfl⟩:=nt r (k+1) x.2 l (by rw [h];simp)
 simp only [Sj]
 cases eD (Bv p.1 k) p.2 x.1 with
 |none=>exact h
 |some c=>simp only [cn,Ae];rw [if_neg (DF (by omega) (by omega) (by omega))];exact h
theorem JK {D:Nat->Prop} (hD: ∀b,Be X.w0.heap.size X.Sc π false b->D b) (XH:X.w0=w) {l:Nat} {r:Option Real} (Zb:X.dc l=r.map full) {u:Value} {c:CK} {x:c.den} (h:Zw w D r u c x) {b:OB} (hb:eD l c x=some b):Au X w π H (r.map full) b:=by
 have Sf: ∀ {e:Ty} {es:List Value} {y:e.den},Cells w D e es y->Cells w (Be X.w0.heap.size X.Sc π false) e es y:= λ {e es y} h=>Cells.Cv (Nat.le_refl _) (λ_ _ _=>rfl) (λb _ hb=>hD b hb) e es y h
 cases c with
 |Ft τ=>cases hb
 |row e te=>
  simp only [eD,Option.some.injEq] at hb;subst hb
  obtain ⟨_,h⟩:=h
  simp only [bk] at h
  simp only [Au,Fu]
  cases r with
  |none=>exact h
  |some q=>
   obtain ⟨k1,cu,ti,k2,k3,k4,k5,k6⟩:=h
   exact ⟨⟨k1.1,k1.2,λh=>by cases h⟩,cu,ti,k2,k3,k4,k5,λi y hy=>by
    obtain ⟨es,g1,g2,g3⟩:=k6 i y hy
    exact ⟨es,g1,g2,Sf g3⟩,λh=>by cases h⟩
 |Dv e te=>
  simp only [eD,Option.some.injEq] at hb;subst hb
  cases r<;>exact h.2
 |part e te=>
  simp only [eD,Option.some.injEq] at hb;subst hb
  obtain ⟨_,hf,h⟩:=h
  simp only [Au,Fu]
  cases r with
  |none=>exact h
  |some q=>
   obtain ⟨k1,cu,ti,k2,k3,k4,k5,k6⟩:=h
   exact ⟨⟨k1.1,k1.2,λh=>by cases h⟩,cu,ti,k2,k3,k4,k5,λi y hy=>by
    obtain ⟨es,g1,g2,g3⟩:=k6 i y hy
    exact ⟨es,g1,g2,Sf g3⟩,λh=>by cases h⟩
 |Am e te kp=>
  simp only [eD,Option.some.injEq] at hb;subst hb
  have h2:Te w D r e x none:=h.2
  have h3:=Te.Fa h2 hD
  refine ⟨by cases r<;>exact h3,?_⟩
  cases kp with
  |false=>trivial
  |true=>
   simp only [if_true,KeptAt]
   rw [Zb]
   cases r with
   |none=>trivial
   |some q=>exact ⟨rfl,rfl,rfl,λj _ _=>by rw [XH]⟩
theorem gh {D:Nat->Prop} (hD: ∀b,Be X.w0.heap.size X.Sc π false b->D b) (XH:X.w0=w) {π0:Pi} (Zb: ∀l,X.dc l=(π0 l).map full): ∀(cs:List (Bool×CK)) (k:Nat) (x:Ins.den cs) (us:List Value),Zy w D π0 k cs x us-> ∀l b,Ae (Sj k cs x) l=some b->Au X w π H ((π0 l).map full) b
 | [],_,_,_,_,_,_,h=>by cases h
 |_::_,_,_,[],h,_,_,_=>h.elim
 |p::r,k,x,u::us,h,l,b,hb=>by
  simp only [Sj] at hb
  cases hc:eD (Bv p.1 k) p.2 x.1 with
  |none=>rw [hc] at hb;exact gh hD XH Zb r (k+1) x.2 us h.2 l b hb
  |some c=>
   rw [hc] at hb
   simp only [cn,Ae] at hb
   split at hb
   ·rename_i e;subst e
    simp only [Option.some.injEq] at hb;subst hb
    exact JK hD XH (Zb _) h.1 hc
   ·exact gh hD XH Zb r (k+1) x.2 us h.2 l b hb
theorem wx {S:Nat->Prop} {π0:Pi} {gv:Nat->Prop} {dc:Pi} (Za: ∀l,π l=(π0 l).map full): ∀(cs:List (Bool×CK)) (k:Nat) (x:Ins.den cs) (us:List Value),k+cs.length<100000->Zy w (λb=>Ow π0 b\/S b) π0 k cs x us->(∀l b,Ae (Sj k cs x) l=some b->Ae H l=some b)->
  Ia ⟨w,S,gv,dc⟩ w π H (Vj k cs x) us
 | [],_,_,[],_,_,_=>trivial
 | [],_,_,_::_,_,h,_=>h.elim
 |_::_,_,_,[],_,h,_=>h.elim
 |p::r,k,x,u::us,hk,h,hH=>by
  simp only [List.length_cons] at hk
  refine ⟨?_,wx Za r (k+1) x.2 us (by omega) h.2 λl b hb=>hH l b (EZ hk hb)⟩
  have h1:=h.1
  have hh: ∀b,eD (Bv p.1 k) p.2 x.1=some b->Ae H (Bv p.1 k)=some b:= λb hb=>hH _ b (by simp only [Sj];rw [hb];simp [cn,Ae])
  have e8:=Za (Bv p.1 k)
  obtain ⟨io,c⟩:=p
  dsimp only at h1 hh e8⊢
  generalize x.1=y at*
  cases c with
  |Ft τ=>
   show Bd w _ τ u y
   cases hf:τ.flat with
   |true=>exact Bd.flat hf h1.2
   |false=>
    refine h1.2.Fa λb _ hb=>?_
    rcases hb with ⟨l,q,h3,h4⟩|hb|⟨hb,_⟩
    ·rw [Za l] at h3
     cases hp:π0 l with
     |none=>rw [hp] at h3;cases h3
     |some q0=>rw [hp] at h3;simp only [Option.map_some,Option.some.injEq] at h3;subst h3;exact .inl ⟨l,q0,hp,h4⟩
    ·exact .inr hb
    ·cases hb
  |row e te=>exact ⟨_,e.size,List.length y,hh _ rfl,rfl,by simp,by rw [e8];exact So h1.1⟩
  |Dv e te=>exact ⟨_,e.size,List.length y,hh _ rfl,rfl,by simp,by rw [e8];exact So h1.1⟩
  |part e te=>exact ⟨_,e.size,List.length y.1,hh _ rfl,rfl,h1.1.2,by rw [e8];exact So h1.1.1⟩
  |Am e te kp=>exact ⟨_,1,List.length y,hh _ rfl,rfl,by simp,by rw [e8];exact So h1.1⟩
theorem jX {p:Real} {s off len:Nat} {u:Value} {f:Nat->Prop} (h:Ea (some p) s off len u):Ea (some ⟨p.g,p.o+off,p.cap-off,f,f⟩) s 0 len u:=by
 obtain ⟨ad,h1,h2,h3⟩:=h
 exact ⟨ad,h1,by dsimp only;omega,λh0=>by dsimp only at h0;simpa using h3 (by omega)⟩
theorem nV {α:Type} {xs:List α} {off len i:Nat} {x:α} (h:((xs.drop off).take len)[i]?=some x):xs[off+i]?=some x:=by
 rw [List.getElem?_take] at h
 split at h
 ·rw [List.getElem?_drop] at h;exact h
 ·cases h
theorem Qf.part {P:Nat->Prop} {g o:Nat} {cur:Array Value} {e:Ty} {xs:List e.den} (off len:Nat) (h:Qf w P g o cur e xs):Qf w P g (o+off) cur e ((xs.drop off).take len):=by
 obtain ⟨Fs,t1,t2,t3,t4⟩:=h
 refine ⟨(Fs.drop off).take len,by simp [t1],List.nodup_cons.2 ⟨λhm=>(List.nodup_cons.1 t2).1 (Lz off len _ hm),gq off len (List.nodup_cons.1 t2).2⟩,λb hb=>t3 b (Lz off len b hb),λi x F hx hF=>?_⟩
 obtain ⟨es,k1,k2,k3⟩:=t4 (off+i) x F (nV hx) (nV hF)
 exact ⟨es,k1,λj u hu=>by rw [Nat.add_assoc o off i];exact k2 j u hu,k3⟩
theorem FQ {st:St} (h:Hy X w π st.heap) {c:CK} (hg: ∀e te kp,c≠ .Am e te kp) {a:AC} {u:Value} (hu:Ec X w π st.heap a u) {x:c.den} {ls:List Nat} (he:eH st c a=some (x,ls)):
  ∃r,Zw w (λb=>Ow π b\/X.Sc b) r u c x/\ ∀q,r=some q-> ∃l p,ls= [l]/\π l=some p/\(∀b,q.Az b->p.cl b)/\(c.UU=false-> ∀b,q.Az b->p.Az b):=by
 have JY: ∀ {f:Bool} (b:Nat),(Ow π b\/X.Sc b)->Be X.w0.heap.size X.Sc π f b:= λb h=>h.imp id .inl
 cases c with
 |Ft τ=>
  simp only [eH] at he
  split at he
  ·rename_i hf
   cases hv:Bq st τ a with
   |none=>rw [hv] at he;cases he
   |some p=>
    obtain ⟨fr,y⟩:=p
    rw [hv] at he
    simp only [Option.map_some,Option.some.injEq,Prod.mk.injEq] at he
    obtain ⟨rfl,rfl⟩:=he
    refine ⟨none,⟨rfl,?_⟩,λq hq=>by cases hq⟩
    have Fa: ∀f,Bd w (Be X.w0.heap.size X.Sc π f) τ u y->Bd w (λb=>Ow π b\/X.Sc b) τ u y:= λf hr=>hr.Fa λk _ hk=>JY k hk
    cases a with
    |data f Ji z=>
     rw [Iu] at hv
     split at hv
     ·rename_i ht;subst ht
      simp only [Option.some.injEq,Prod.mk.injEq] at hv
      obtain ⟨_,rfl⟩:=hv
      exact Fa f hu
     ·have Ph:τ.Ac=false:=by unfold cq at hv;split at hv<;>first|rfl|cases hv
      exact Fa _ ⟨[u],Xp hv hu,by simp [As,Ph]⟩
    |Hs=>
     have hu:u= .slice none 0 0:=hu
     subst hu
     cases τ<;>simp only [Bq,Option.some.injEq,Prod.mk.injEq,reduceCtorEq] at hv
     ·obtain ⟨_,rfl⟩:=hv;exact ⟨[_],⟨none,0,0,rfl,rfl,Nat.le_refl _, .inl rfl⟩,rfl⟩
     ·obtain ⟨_,rfl⟩:=hv;exact ⟨[_], .inl ⟨rfl,0,rfl⟩,rfl⟩
    |Qv=>
     have hu:u= .pointer none:=hu
     subst hu
     cases τ<;>simp only [Bq,Option.some.injEq,Prod.mk.injEq,reduceCtorEq] at hv
     obtain ⟨_,rfl⟩:=hv;exact ⟨[_], .inl ⟨rfl,rfl⟩,rfl⟩
    |_=>cases τ<;>simp [AC.settled,Ty.flat,Bq] at hf hv
  ·cases he
 |row e te=>
  cases a<;>simp only [eH] at he<;>try (cases he;done)
  ·simp only [Option.some.injEq,Prod.mk.injEq] at he
   obtain ⟨rfl,rfl⟩:=he
   have hu:u= .slice none 0 0:=hu
   exact ⟨none,⟨⟨hu,rfl,rfl⟩,rfl⟩,λq hq=>by cases hq⟩
  ·rename_i l off len
   split at he
   ·rename_i fr tr e' Li xs hl
    split at he
    ·rename_i hc
     obtain ⟨rfl,rfl⟩:=hc
     simp only [Option.some.injEq,Prod.mk.injEq] at he
     obtain ⟨rfl,rfl⟩:=he
     unfold St.at at hl
     obtain ⟨h1,h2⟩:=Jn hu hl
     have hb:=(h.heap l).Mj hl
     simp only [Au,Fu] at hb
     have hlen:((xs.drop off).take len).length=len:=by simp;omega
     cases hp:π l with
     |none=>
      rw [hp] at h2 hb
      obtain ⟨rfl,rfl,rfl⟩:=h2
      exact ⟨none,⟨⟨rfl,rfl,by simp⟩,by show (xs.drop 0).take 0= [];simp⟩,λq hq=>by cases hq⟩
     |some p=>
      rw [hp] at h2 hb
      obtain ⟨k1,cur,ti,k2,k3,k4,k5,k6,_⟩:=hb
      have ho:=h2
      obtain ⟨ad,_,ng,_⟩:=h2
      refine ⟨some ⟨p.g,p.o+off,p.cap-off,p.Az,p.Az⟩,⟨by rw [hlen];exact jX ho,⟨k1.1,k1.2.1⟩,cur,ti,k2,by rw [k3];congr 1;dsimp only;omega,by dsimp only;omega,by rw [hlen];dsimp only;omega,λi y hy=>?_⟩,
       fun q hq=>by cases hq;exact ⟨l,p,rfl,hp,λb hb=>h.sub l p b hp hb,λ_ b hb=>hb⟩⟩
      obtain ⟨es,g1,g2,g3⟩:=k6 (off+i) y (nV hy)
      exact ⟨es,g1,λj u hu=>by dsimp only;rw [Nat.add_assoc p.o off i];exact g2 j u hu,Cells.Cv (Nat.le_refl _) (λ_ _ _=>rfl) (λb _ hb=>JY b hb) e' es y g3⟩
    ·cases he
   ·cases he
 |Dv e te=>
  cases a<;>simp only [eH] at he<;>try (cases he;done)
  ·simp only [Option.some.injEq,Prod.mk.injEq] at he
   obtain ⟨rfl,rfl⟩:=he
   have hu:u= .slice none 0 0:=hu
   exact ⟨none,⟨⟨hu,rfl,rfl⟩,rfl⟩,λq hq=>by cases hq⟩
  ·rename_i l off len
   split at he
   ·rename_i fr tr e' Li xs hl
    split at he
    ·rename_i hc
     obtain ⟨rfl,rfl,hf⟩:=hc
     simp only [Option.some.injEq,Prod.mk.injEq] at he
     obtain ⟨rfl,rfl⟩:=he
     unfold St.at at hl
     obtain ⟨h1,h2⟩:=Jn hu hl
     have hb:=(h.heap l).Mj hl
     simp only [Au,Fu] at hb
     have hlen:((xs.drop off).take len).length=len:=by simp;omega
     cases hp:π l with
     |none=>
      rw [hp] at h2 hb
      obtain ⟨rfl,rfl,rfl⟩:=h2
      exact ⟨none,⟨⟨rfl,rfl,by simp⟩,by show (xs.drop 0).take 0= [];simp⟩,λq hq=>by cases hq⟩
     |some p=>
      rw [hp] at h2 hb
      obtain ⟨k1,cur,ti,k2,k3,k4,k5,k6,k7⟩:=hb
      have ho:=h2
      obtain ⟨ad,_,ng,_⟩:=h2
      have ht:Qf w p.cl p.g p.o cur e' xs:=by
       simp only [Bool.or_eq_true] at hf
       rcases hf with hf|hf
       ·exact k7 hf
       ·exact ig hf k6
      exact ⟨some ⟨p.g,p.o+off,p.cap-off,p.cl,p.cl⟩,⟨by rw [hlen];exact jX ho,h.sub l p _ hp k1.1,cur,ti,k2,by rw [k3];congr 1;dsimp only;omega,by dsimp only;omega,by rw [hlen];dsimp only;omega,ht.part off len⟩,
       fun q hq=>by cases hq;exact ⟨l,p,rfl,hp,λb hb=>hb,λhx=>by cases hx⟩⟩
    ·cases he
   ·rename_i e' Li xs hl
    split at he
    ·rename_i hc
     obtain ⟨rfl,rfl⟩:=hc
     simp only [Option.some.injEq,Prod.mk.injEq] at he
     obtain ⟨rfl,rfl⟩:=he
     unfold St.at at hl
     obtain ⟨h1,h2⟩:=Vu hu hl
     have hb:=(h.heap l).Mj hl
     simp only [Au,Iw] at hb
     have hlen:((xs.drop off).take len).length=len:=by simp;omega
     cases hp:π l with
     |none=>
      rw [hp] at h2 hb
      obtain ⟨rfl,rfl,rfl⟩:=h2
      exact ⟨none,⟨⟨rfl,rfl,by simp⟩,by show (xs.drop 0).take 0= [];simp⟩,λq hq=>by cases hq⟩
     |some p=>
      rw [hp] at h2 hb
      obtain ⟨k1,cur,ti,k2,k3,k4,k5,ht⟩:=hb
      have ho:=h2
      obtain ⟨ad,_,ng,_⟩:=h2
      exact ⟨some ⟨p.g,p.o+off,p.cap-off,p.Az,p.Az⟩,⟨by rw [hlen];exact jX ho,k1,cur,ti,k2,by rw [k3];congr 1;dsimp only;omega,by dsimp only;omega,by rw [hlen];dsimp only;omega,ht.part off len⟩,
       fun q hq=>by cases hq;exact ⟨l,p,rfl,hp,λb hb=>h.sub l p b hp hb,λ_ b hb=>hb⟩⟩
    ·cases he
   ·cases he
 |part e te=>cases a<;>simp [eH] at he
 |Am e te kp=>exact absurd rfl (hg e te kp)
theorem LZ {st:St} (h:Hy X w π st.heap) {c:CK} {a:AC} {u:Value} (hu:Ec X w π st.heap a u) {x:c.den} {ls:List Nat} (he:eH st c a=some (x,ls)):
  ∃r,Zw w (λb=>Ow π b\/X.Sc b) r u c x/\(∀q,r=some q-> ∃l p,ls= [l]/\π l=some p/\(∀b,q.Az b->p.cl b)/\(c.UU=false-> ∀b,q.Az b->p.Az b))/\
   (∀l off len e te rows out kp,a= .own l off len->Ae st.heap l=some (.Am e te rows out kp)->r=π l):=by
 have pe:(∀e te kp,c≠ .Am e te kp)->(∀l off len e te rows out kp,a=AC.own l off len->Ae st.heap l=some (OB.Am e te rows out kp)->False)->
   ∃r,Zw w (λb=>Ow π b\/X.Sc b) r u c x/\(∀q,r=some q-> ∃l p,ls= [l]/\π l=some p/\(∀b,q.Az b->p.cl b)/\(c.UU=false-> ∀b,q.Az b->p.Az b))/\
   (∀l off len e te rows out kp,a= .own l off len->Ae st.heap l=some (.Am e te rows out kp)->r=π l):= λh1 h2=>by
  obtain ⟨r,g1,g2⟩:=FQ h h1 hu he
  exact ⟨r,g1,g2,λl off len e te rows out kp h3 h4=>(h2 l off len e te rows out kp h3 h4).elim⟩
 cases c with
 |Ft τ=>
  refine pe (λ_ _ _ h=>by cases h) λl off len e te rows out kp h3 h4=>?_
  subst h3
  simp only [eH] at he
  split at he
  ·rename_i hf
   cases τ<;>simp [AC.settled,Ty.flat,Bq] at hf he
  ·cases he
 |row e te=>
  refine pe (λ_ _ _ h=>by cases h) λl off len e te rows out kp h3 h4=>?_
  subst h3
  simp only [eH,St.at,h4] at he
  cases he
 |Dv e te=>
  refine pe (λ_ _ _ h=>by cases h) λl off len e te rows out kp h3 h4=>?_
  subst h3
  simp only [eH,St.at,h4] at he
  cases he
 |part e te=>cases a<;>simp [eH] at he
 |Am e te kp=>
  cases a<;>simp only [eH] at he<;>try (cases he;done)
  rename_i l off len
  split at he
  ·rename_i e' Li rows kp' hl
   split at he
   ·rename_i hc
    obtain ⟨rfl,rfl,rfl,rfl⟩:=hc
    simp only [Option.some.injEq,Prod.mk.injEq] at he
    obtain ⟨rfl,rfl⟩:=he
    unfold St.at at hl
    obtain ⟨b,sz,n,h1,h2,_,h3⟩:=hu
    rw [hl] at h1;cases h1
    simp only [OB.row,Option.some.injEq,Prod.mk.injEq] at h2
    obtain ⟨rfl,rfl⟩:=h2
    have hb:=((h.heap l).Mj hl).1
    refine ⟨π l,⟨h3,Te.Fa hb λb hb=>hb.imp id .inl⟩,λq hq=>⟨l,q,rfl,hq,λb hb=>h.sub l q b hq hb,λ_ b hb=>hb⟩,λl' Anl Ang _ _ _ _ _ he _=>?_⟩
    simp only [AC.own.injEq] at he
    rw [he.1]
   ·cases he
  ·cases he
theorem Fb.congr {D:Nat->Prop} {ρ ρ':Pi} : ∀(cs:List CK) (k:Nat) (x:CKs.den cs) (us:List Value),(∀j,k<=j->ρ' (Fz j)=ρ (Fz j))->Fb w D ρ k cs x us->Fb w D ρ' k cs x us
 | [],_,_,[],_,h=>h
 | [],_,_,_::_,_,h=>h.elim
 |_::_,_,_,[],_,h=>h.elim
 |c::r,k,x,u::us,he,h=>⟨by rw [he k (Nat.le_refl _)];exact h.1,Fb.congr r (k+1) x.2 us (λj hj=>he j (by omega)) h.2⟩
theorem rv {st:St} (h:Hy X w π st.heap): ∀(cs:List CK) (k:Nat) (as:List AC) (us:List Value) (x:CKs.den cs) (ls:List Nat),Ia X w π st.heap as us->Oi st cs as=some (x,ls)->ls.Nodup->
  ∃ρ:Pi,Fb w (λb=>Ow π b\/X.Sc b) ρ k cs x us/\(∀l q,ρ l=some q-> ∃j,k<=j/\j<k+cs.length/\l=Fz j)/\(∀l q b,ρ l=some q->q.Az b-> ∃l0∈ls,∃p,π l0=some p/\p.cl b/\((cs.all λc=>!c.UU)=true->p.Az b))/\
   (∀l l' q q' b,ρ l=some q->ρ l'=some q'->q.Az b->q'.Az b->l=l')/\
   (∀(j l off len:Nat) e te rows out kp,as[j]?=some (.own l off len)->Ae st.heap l=some (.Am e te rows out kp)->ρ (Fz (k+j))=π l)
 | [],k,[],[],x,ls,_,he,_=>by
  simp only [Oi,Option.some.injEq,Prod.mk.injEq] at he
  exact ⟨λ_=>none,trivial,(λl q h=>by cases h),(λl q b h=>by cases h),(λl l' q q' b h=>by cases h),λj l off len e te rows out kp h=>by simp at h⟩
 | [],_,[],_::_,_,_,h,_,_=>h.elim
 | [],_,_::_,_,_,_,_,he,_=>by simp [Oi] at he
 |_::_,_,[],_,_,_,_,he,_=>by simp [Oi] at he
 |_::_,_,_::_,[],_,_,h,_,_=>h.elim
 |c::r,k,a::as,u::us,x,ls,hr,he,pD=>by
  simp only [Oi] at he
  split at he
  ·rename_i x1 t1 x2 t2 h1 h2
   simp only [Option.some.injEq,Prod.mk.injEq] at he
   obtain ⟨rfl,rfl⟩:=he
   obtain ⟨n1,n2,n3⟩:=List.nodup_append.1 pD
   obtain ⟨ρ,g1,g2,g3,g4,g5⟩:=rv h r (k+1) as us x2 t2 hr.2 h2 n2
   obtain ⟨rr,r1,r2,r3⟩:=LZ h hr.1 h1
   have vP: ∀l q q0 b,ρ l=some q->rr=some q0->q.Az b->q0.Az b->False:= λl q q0 b h3 h4 h5 h6=>by
    obtain ⟨l0,m0,p,p1,p2,_⟩:=g3 l q b h3 h5
    obtain ⟨l1,p',e1,p1',p2',_⟩:=r2 q0 h4
    have:=h.inj l0 l1 p p' b p1 p1' p2 (p2' b h6)
    exact n3 l1 (by rw [e1];simp) l0 m0 this.symm
   refine ⟨λl=>if l=Fz k then rr else ρ l,⟨by simpa using r1,Fb.congr r (k+1) x2 us (λj hj=>if_neg (by unfold Fz;omega)) g1⟩,λl q hq=>?_,λl q b hq hb=>?_,λl l' q q' b h3 h4 h5 h6=>?_,λj l off len e te rows out kp hj hl=>?_⟩
   ·dsimp only at hq
    by_cases e:l=Fz k
    ·exact ⟨k,Nat.le_refl _,by simp,e⟩
    ·rw [if_neg e] at hq
     obtain ⟨j,j1,j2,j3⟩:=g2 l q hq
     exact ⟨j,by omega,by simp;omega,j3⟩
   ·dsimp only at hq
    by_cases e:l=Fz k
    ·rw [if_pos e] at hq
     obtain ⟨l1,p',e1,p1',p2',p3'⟩:=r2 q hq
     exact ⟨l1,by rw [e1];simp,p',p1',p2' b hb,λhx=>p3' (by simp only [List.all_cons,Bool.and_eq_true,Bool.not_eq_true'] at hx;exact hx.1) b hb⟩
    ·rw [if_neg e] at hq
     obtain ⟨l0,m0,p,p1,p2,p3⟩:=g3 l q b hq hb
     exact ⟨l0,List.mem_append_right _ m0,p,p1,p2,λhx=>p3 (by simp only [List.all_cons,Bool.and_eq_true] at hx;exact hx.2)⟩
   ·dsimp only at h3 h4
    by_cases e:l=Fz k<;>by_cases e':l'=Fz k
    ·rw [e,e']
    ·rw [if_pos e] at h3;rw [if_neg e'] at h4
     exact (vP l' q' q b h4 h3 h6 h5).elim
    ·rw [if_neg e] at h3;rw [if_pos e'] at h4
     exact (vP l q q' b h3 h4 h5 h6).elim
    ·rw [if_neg e] at h3;rw [if_neg e'] at h4
     exact g4 l l' q q' b h3 h4 h5 h6
   ·rcases j with _|j
    ·simp only [List.getElem?_cons_zero,Option.some.injEq] at hj
     show (if Fz k=Fz k then rr else ρ (Fz k))=π l
     rw [if_pos rfl]
     exact r3 l off len e te rows out kp hj hl
    ·have:=g5 j l off len e te rows out kp (by simpa using hj) hl
     show (if Fz (k+(j+1))=Fz k then rr else ρ (Fz (k+(j+1))))=π l
     rw [if_neg (by unfold Fz;omega),<-this,show k+(j+1)=k+1+j by omega]
  ·cases he
theorem xz {r r':Option Real} (h:Uu (r.map full) r') {e:Ty} {xs:List e.den} {te:TypeId} {fr tr:Bool} (ha:Fu X w π r' fr tr e te xs):Mm w (λb=>Ow π b\/X.Sc b) r e xs:=by
 cases r with
 |none=>cases r' with
  |none=>exact ha
  |some q=>exact h.elim
 |some p=>cases r' with
  |none=>exact h.elim
  |some q=>
   obtain ⟨e1,e2,e3,e4⟩:=h
   obtain ⟨k1,cur,ti,k2,k3,k4,k5,k6,_⟩:=ha
   have e1:p.g=q.g:=e1
   have e2:p.o=q.o:=e2
   have e3:p.cap=q.cap:=e3
   refine ⟨⟨by rw [e1];exact (e4 _).2 k1.1,λb hb=>by rw [e1];exact k1.2.1 b ((e4 b).1 hb)⟩,cur,ti,by rw [e1];exact k2,by rw [e2,e3];exact k3,by rw [e3];exact k4,by rw [e3];exact k5,λi y hy=>?_⟩
   obtain ⟨es,g1,g2,g3⟩:=k6 i y hy
   exact ⟨es,g1,by rw [e2];exact g2,Cells.Cv (Nat.le_refl _) (λ_ _ _=>rfl) (λb _ hb=>hb.imp id .inl) e es y g3⟩
theorem GP {r r':Option Real} (h:Uu (r.map full) r') {e:Ty} {xs:List e.den} {te:TypeId} (ha:Iw w r' e te xs):Iw w r e te xs:=by
 cases r with
 |none=>cases r' with
  |none=>exact ha
  |some q=>exact h.elim
 |some p=>cases r' with
  |none=>exact h.elim
  |some q=>
   obtain ⟨e1,e2,e3,e4⟩:=h
   obtain ⟨k1,cur,ti,k2,k3,k4,k5,Fs,t1,t2,t3,t4⟩:=ha
   have e1:p.g=q.g:=e1
   have e2:p.o=q.o:=e2
   have e3:p.cap=q.cap:=e3
   exact ⟨by rw [e1];exact (e4 _).2 k1,cur,ti,by rw [e1];exact k2,by rw [e2,e3];exact k3,by rw [e3];exact k4,by rw [e3];exact k5,Fs,t1,by rw [e1];exact t2,λb hb=>(e4 b).2 (t3 b hb),by rw [e2];exact t4⟩
theorem Nr {st:St} {π0:Pi} {D:Nat->Prop} {w0:World} (h:Hy X w π st.heap) (Zb: ∀l,X.dc l=(π0 l).map full): ∀(cs:List (Bool×CK)) (k:Nat) (x:Ins.den cs) (us:List Value) (o:IOs.den cs),Zy w0 D π0 k cs x us->Jp st k cs=some o->
  Hj w (λb=>Ow π b\/X.Sc b) π0 k cs o/\ ∀l∈Kg k cs,Ae st.heap l≠none
 | [],_,_,_,_,_,_=>⟨trivial,λl hl=>by cases hl⟩
 |_::_,_,_,[],_,h,_=>h.elim
 |(false,c)::r,k,x,u::us,o,hi,he=>Nr h Zb r (k+1) x.2 us o hi.2 (by simpa only [Jp] using he)
 |(true, .Ft τ)::r,k,x,u::us,o,hi,he=>Nr h Zb r (k+1) x.2 us o hi.2 (by simpa only [Jp] using he)
 |(true, .Am e te kp)::r,k,x,u::us,o,hi,he=>Nr h Zb r (k+1) x.2 us o hi.2 (by simpa only [Jp] using he)
 |(true, .row e te)::r,k,x,u::us,o,hi,he=>by
  simp only [Jp] at he
  split at he
  ·rename_i x1 x2 h1 h2
   simp only [Option.some.injEq] at he;subst he
   obtain ⟨g1,g2⟩:=Nr h Zb r (k+1) x.2 us x2 hi.2 h2
   have h0:=hi.1
   simp only [kI] at h1
   split at h1
   ·rename_i fr tr e' Li xs hl
    split at h1
    ·rename_i hc
     obtain ⟨rfl,rfl⟩:=hc
     simp only [Option.some.injEq] at h1;subst h1
     unfold St.at at hl
     have hs:=h.dc (Bv true k) (by have:=Uh k;omega) (by rw [hl];simp)
     rw [Zb] at hs
     exact ⟨⟨xz (te:=Li) hs ((h.heap _).Mj hl),g1⟩,λl Hg=>by
      simp only [Kg] at Hg
      rcases List.mem_cons.1 Hg with rfl|Hg
      ·rw [hl];simp
      ·exact g2 l Hg⟩
    ·cases h1
   ·cases h1
  ·cases he
 |(true, .part e te)::r,k,x,u::us,o,hi,he=>by
  simp only [Jp] at he
  split at he
  ·rename_i x1 x2 h1 h2
   simp only [Option.some.injEq] at he;subst he
   obtain ⟨g1,g2⟩:=Nr h Zb r (k+1) x.2 us x2 hi.2 h2
   have h0:=hi.1
   simp only [kI] at h1
   split at h1
   ·rename_i fr tr e' Li xs hl
    split at h1
    ·rename_i hc
     obtain ⟨rfl,rfl⟩:=hc
     simp only [Option.some.injEq] at h1;subst h1
     unfold St.at at hl
     have hs:=h.dc (Bv true k) (by have:=Uh k;omega) (by rw [hl];simp)
     rw [Zb] at hs
     exact ⟨⟨xz (te:=Li) hs ((h.heap _).Mj hl),g1⟩,λl Hg=>by
      simp only [Kg] at Hg
      rcases List.mem_cons.1 Hg with rfl|Hg
      ·rw [hl];simp
      ·exact g2 l Hg⟩
    ·cases h1
   ·cases h1
  ·cases he
 |(true, .Dv e te)::r,k,x,u::us,o,hi,he=>by
  simp only [Jp] at he
  split at he
  ·rename_i x1 x2 h1 h2
   simp only [Option.some.injEq] at he;subst he
   obtain ⟨g1,g2⟩:=Nr h Zb r (k+1) x.2 us x2 hi.2 h2
   simp only [kI] at h1
   split at h1
   ·rename_i e' Li xs hl
    split at h1
    ·rename_i hc
     obtain ⟨rfl,rfl⟩:=hc
     simp only [Option.some.injEq] at h1;subst h1
     unfold St.at at hl
     have hs:=h.dc (Bv true k) (by have:=Uh k;omega) (by rw [hl];simp)
     rw [Zb] at hs
     exact ⟨⟨GP (te:=Li) hs ((h.heap _).Mj hl),g1⟩,λl Hg=>by
      simp only [Kg] at Hg
      rcases List.mem_cons.1 Hg with rfl|Hg
      ·rw [hl];simp
      ·exact g2 l Hg⟩
    ·cases h1
   ·cases h1
  ·cases he
theorem pN {p:Bool×CK} {r:List (Bool×CK)} (h:Sn (p::r)=true):Sn r=true:=by
 rcases p with ⟨_|_,c⟩<;>cases c<;>first|(simp [Sn] at h;done)|simpa [Sn] using h
theorem qZ: ∀(cs:List (Bool×CK)) (k:Nat) (x:Ins.den cs) (l:Nat),Sn cs=true->k+cs.length<100000->Ae (Sj k cs x) l≠none-> ¬l<Ak->l∈Kg k cs
 | [],_,_,_,_,_,h,_=>absurd rfl h
 |(io,c)::r,k,x,l,ZZ,hk,h,hp=>by
  simp only [List.length_cons] at hk
  simp only [Sj] at h
  have tail:Ae (Sj (k+1) r x.2) l≠none->l∈Kg (k+1) r:= λh=>qZ r (k+1) x.2 l (pN ZZ) (by omega) h hp
  have sub: ∀m,m∈Kg (k+1) r->m∈Kg k ((io,c)::r):= λm hm=>by
   cases io<;>cases c<;>simp only [Kg]<;>first|exact hm|exact List.mem_cons_of_mem _ hm
  cases hc:eD (Bv io k) c x.1 with
  |none=>rw [hc] at h;exact sub l (tail h)
  |some b=>
   rw [hc] at h
   simp only [cn,Ae] at h
   split at h
   ·rename_i e;subst e
    cases io with
    |false=>exact absurd (aN (by omega)) hp
    |true=>cases c with
     |Ft τ=>cases hc
     |row e te=>simp [Kg]
     |Dv e te=>simp [Kg]
     |part e te=>simp [Kg]
     |Am e te kp=>simp [Sn] at ZZ
   ·exact sub l (tail h)
theorem Zw.Fa {D D':Nat->Prop} (hD: ∀b,D' b->D b) {r:Option Real} {u:Value} {c:CK} {x:c.den} (h:Zw w D r u c x):Zw w D' r u c x:=by
 cases c with
 |Ft τ=>exact ⟨h.1,h.2.Fa λb _ hb=>hD b hb⟩
 |row e te=>exact ⟨h.1,Mm.Fa h.2 hD⟩
 |Dv e te=>exact h
 |part e te=>exact ⟨h.1,h.2.1,Mm.Fa h.2.2 hD⟩
 |Am e te kp=>exact ⟨h.1,Te.Fa h.2 hD⟩
theorem Fb.Fa {D D':Nat->Prop} (hD: ∀b,D' b->D b) {ρ:Pi} : ∀(cs:List CK) (k:Nat) (x:CKs.den cs) (us:List Value),Fb w D ρ k cs x us->Fb w D' ρ k cs x us
 | [],_,_,[],h=>h
 | [],_,_,_::_,h=>h.elim
 |_::_,_,_,[],h=>h.elim
 |_c::r,k,x,_u::us,h=>⟨h.1.Fa hD,Fb.Fa hD r (k+1) x.2 us h.2⟩
theorem Hj.Fa {D D':Nat->Prop} (hD: ∀b,D' b->D b) {π:Pi} : ∀(cs:List (Bool×CK)) (k:Nat) (x:IOs.den cs),Hj w D π k cs x->Hj w D' π k cs x
 | [],_,_,h=>h
 |(false,_)::r,k,x,h=>Hj.Fa hD r (k+1) x h
 |(true, .Ft _)::r,k,x,h=>Hj.Fa hD r (k+1) x h
 |(true, .Am _ _ _)::r,k,x,h=>Hj.Fa hD r (k+1) x h
 |(true, .row _e _te)::r,k,x,h=>⟨Mm.Fa h.1 hD,Hj.Fa hD r (k+1) x.2 h.2⟩
 |(true, .Dv _e _te)::r,k,x,h=>⟨h.1,Hj.Fa hD r (k+1) x.2 h.2⟩
 |(true, .part _e _te)::r,k,x,h=>⟨Mm.Fa h.1 hD,Hj.Fa hD r (k+1) x.2 h.2⟩
theorem Zy.congr {D:Nat->Prop} {π0 Wf:Pi} : ∀(cs:List (Bool×CK)) (k:Nat) (x:Ins.den cs) (us:List Value),(∀b j,k<=j->j<k+cs.length->Wf (Bv b j)=π0 (Bv b j))->Zy w D π0 k cs x us->Zy w D Wf k cs x us
 | [],_,_,[],_,h=>h
 | [],_,_,_::_,_,h=>h
 |_::_,_,_,[],_,h=>h
 |p::r,k,x,u::us,hp,h=>⟨by rw [hp p.1 k (Nat.le_refl _) (by simp)];exact h.1,Zy.congr r (k+1) x.2 us (λb j h1 h2=>hp b j (by omega) (by simp;omega)) h.2⟩
theorem Hj.congr {D:Nat->Prop} {π0 Wf:Pi} : ∀(cs:List (Bool×CK)) (k:Nat) (x:IOs.den cs),(∀b j,k<=j->j<k+cs.length->Wf (Bv b j)=π0 (Bv b j))->Hj w D π0 k cs x->Hj w D Wf k cs x
 | [],_,_,_,h=>h
 |(false,c)::r,k,x,hp,h=>by cases c<;>exact Hj.congr r (k+1) x (λb j h1 h2=>hp b j (by omega) (by simp;omega)) h
 |(true, .Ft _)::r,k,x,hp,h=>Hj.congr r (k+1) x (λb j h1 h2=>hp b j (by omega) (by simp;omega)) h
 |(true, .Am _ _ _)::r,k,x,hp,h=>Hj.congr r (k+1) x (λb j h1 h2=>hp b j (by omega) (by simp;omega)) h
 |(true, .row e te)::r,k,x,hp,h=>⟨by rw [hp true k (Nat.le_refl _) (by simp)];exact h.1,Hj.congr r (k+1) x.2 (λb j h1 h2=>hp b j (by omega) (by simp;omega)) h.2⟩
 |(true, .Dv e te)::r,k,x,hp,h=>⟨by rw [hp true k (Nat.le_refl _) (by simp)];exact h.1,Hj.congr r (k+1) x.2 (λb j h1 h2=>hp b j (by omega) (by simp;omega)) h.2⟩
 |(true, .part e te)::r,k,x,hp,h=>⟨by rw [hp true k (Nat.le_refl _) (by simp)];exact h.1,Hj.congr r (k+1) x.2 (λb j h1 h2=>hp b j (by omega) (by simp;omega)) h.2⟩
theorem Cg.congr {π0 Wf:Pi} : ∀(cs:List (Bool×CK)) (k:Nat) (o:IOs.den cs) (n:Nat) (us as:List Value),(∀b j,k<=j->j<k+cs.length->Wf (Bv b j)=π0 (Bv b j))->Cg π0 k cs o n us as->Cg Wf k cs o n us as
 | [],k,o,0,us,as,_,h=>by simpa [Cg] using h
 | [],k,o,n+1,us,as,_,h=>by simp [Cg] at h
 |p::r,k,o,0,us,as,_,h=>by
  rcases p with ⟨_|_,c⟩<;>cases c<;>simpa [Cg] using h
 |(true, .Ft _)::r,k,o,n+1,us,as,_,h=>by simp [Cg] at h
 |(true, .part _ _)::r,k,o,n+1,us,as,_,h=>by simp [Cg] at h
 |(true, .Am _ _ _)::r,k,o,n+1,us,as,_,h=>by simp [Cg] at h
 |(true, .row e te)::r,k,o,n+1,[],as,_,h=>by simp [Cg] at h
 |(true, .Dv e te)::r,k,o,n+1,[],as,_,h=>by simp [Cg] at h
 |(true, .row e te)::r,k,o,n+1,u::us,as,hp,h=>by
  simp only [Cg] at h⊢
  exact ⟨by rw [hp true k (Nat.le_refl _) (by simp)];exact h.1,Cg.congr r (k+1) o.2 n us as (λb j h1 h2=>hp b j (by omega) (by simp;omega)) h.2⟩
 |(true, .Dv e te)::r,k,o,n+1,u::us,as,hp,h=>by
  simp only [Cg] at h⊢
  exact ⟨by rw [hp true k (Nat.le_refl _) (by simp)];exact h.1,Cg.congr r (k+1) o.2 n us as (λb j h1 h2=>hp b j (by omega) (by simp;omega)) h.2⟩
 |(false,c)::r,k,o,n+1,[],as,_,h=>by cases c<;>simp [Cg] at h
 |(false,c)::r,k,o,n+1,u::us,[],_,h=>by cases c<;>simp [Cg] at h
 |(false,c)::r,k,o,n+1,u::us,a::as,hp,h=>by
  have h:u=a/\Cg π0 (k+1) r o n us as:=by cases c<;>exact h
  have:=Cg.congr r (k+1) o n us as (λb j h1 h2=>hp b j (by omega) (by simp;omega)) h.2
  cases c<;>exact ⟨h.1,this⟩
theorem kS: ∀(A B:List (Nat×OB)) (l:Nat),Ae (A++B) l=match Ae A l with|some b=>some b|none=>Ae B l
 | [],B,l=>rfl
 |(k,b)::A,B,l=>by
  simp only [List.cons_append,Ae]
  split
  ·rfl
  ·exact kS A B l
theorem nP {st:St} : ∀(cs:List CK) (as:List AC) (x:CKs.den cs) (ls:List Nat),Oi st cs as=some (x,ls)-> ∀l∈ls,∃b,Ae st.heap l=some b/\b.row≠none
 | [],[],x,ls,he=>by
  simp only [Oi,Option.some.injEq,Prod.mk.injEq] at he
  obtain ⟨_,rfl⟩:=he
  intro l hl;cases hl
 | [],_::_,_,_,he=>by simp [Oi] at he
 |_::_,[],_,_,he=>by simp [Oi] at he
 |c::r,a::as,x,ls,he=>by
  simp only [Oi] at he
  split at he
  ·rename_i x1 t1 x2 t2 h1 h2
   simp only [Option.some.injEq,Prod.mk.injEq] at he
   obtain ⟨_,rfl⟩:=he
   intro l hl
   rcases List.mem_append.1 hl with hl|hl
   ·unfold eH at h1
    split at h1
    ·split at h1
     ·cases hv:Bq st _ a with
      |none=>rw [hv] at h1;cases h1
      |some p=>rw [hv] at h1;simp only [Option.map_some,Option.some.injEq,Prod.mk.injEq] at h1;obtain ⟨_,rfl⟩:=h1;cases hl
     ·cases h1
    all_goals (repeat' split at h1)
    all_goals first|(cases h1;done)|skip
    all_goals (simp only [Option.some.injEq,Prod.mk.injEq] at h1;obtain ⟨_,rfl⟩:=h1)
    all_goals first|(cases hl;done)|skip
    all_goals (have hl:=List.mem_singleton.1 hl;subst hl)
    all_goals (rename_i heq _;exact ⟨_,heq,by simp [OB.row]⟩)
   ·exact nP r as x2 t2 h2 l hl
  ·cases he
theorem l8 {r r':Option Real} {sz off len:Nat} {v:Value} (h:Uu r r') (hv:Ea r' sz off len v):Ea r sz off len v:=by
 cases r<;>cases r'<;>first|exact h.elim|skip
 ·exact hv
 ·obtain ⟨h1,h2,h3,_⟩:=h
  obtain ⟨ad,g1,g2,g3⟩:=hv
  exact ⟨ad,by rw [h3];exact g1,by rw [h3];exact g2,by rw [h1,h2,h3];exact g3⟩
theorem Rn {st:St} {π0:Pi} (hs: ∀k,Ae st.heap (Bv true k)≠none->Uu ((π0 (Bv true k)).map full) (π (Bv true k))):
  ∀(cs:List (Bool×CK)) (k:Nat) (vs:List AC) (us:List Value) (bc:List AC) (o:IOs.den cs),Ia X w π st.heap vs us->Fe k cs vs=some bc->cN st vs cs->Jp st k cs=some o->
   ∃bv,Ia X w π st.heap bc bv/\bv.length=o5 cs vs.length/\ ∀tl,Cg π0 k cs o vs.length us (bv++tl)
 |cs,k,[],us,bc,o,hr,he,_,_=>by
  have e1:us= []:=by cases us with|nil=>rfl|cons u us=>exact hr.elim
  have e2:bc= []:=by rcases cs with _|⟨⟨_|_,c⟩,r⟩<;>simpa [Fe] using he.symm
  subst e1;subst e2
  refine ⟨[],trivial,?_,λtl=>?_⟩
  ·rcases cs with _|⟨⟨_|_,c⟩,r⟩<;>rfl
  ·rcases cs with _|⟨⟨_|_,c⟩,r⟩<;>(try cases c)<;>simp [Cg]
 | [],k,a::vs,us,bc,o,hr,he,_,_=>by simp [Fe] at he
 |p::r,k,a::vs,[],bc,o,hr,_,_,_=>hr.elim
 |(false,c)::r,k,a::vs,u::us,bc,o,hr,he,hk,ho=>by
  have he:(Fe (k+1) r vs).map (λl=>a::l)=some bc:=by cases a<;>exact he
  cases hb:Fe (k+1) r vs with
  |none=>rw [hb] at he;cases he
  |some bc'=>
   rw [hb] at he
   simp only [Option.map_some,Option.some.injEq] at he;subst he
   obtain ⟨bv,g1,g2,g3⟩:=Rn hs r (k+1) vs us bc' o hr.2 hb (by cases a<;>exact hk) (by cases c<;>simpa only [Jp] using ho)
   refine ⟨u::bv,⟨hr.1,g1⟩,by simp [o5,g2],λtl=>?_⟩
   have:=g3 tl
   cases c<;>exact ⟨rfl,this⟩
 |(true,c)::r,k,a::vs,u::us,bc,o,hr,he,hk,ho=>by
  cases c with
  |Ft τ=>cases a<;>simp [Fe] at he
  |part e te=>cases a<;>simp [Fe] at he
  |Am e te kp=>cases a<;>simp [Fe] at he
  |row e te=>
   cases a<;>first|(simp [Fe] at he;done)|skip
   rename_i l off len
   simp only [Fe] at he
   split at he
   rotate_left
   ·cases he
   rename_i hl
   have hl:l=Bv true k:=Nat.eq_of_beq_eq_true hl
   subst hl
   obtain ⟨⟨rfl,hlen⟩,hk⟩:=hk
   obtain ⟨b,sz,n,h1,h2,h3,h4⟩:=hr.1
   have KP:=hs k (by rw [h1];simp)
   simp only [Jp] at ho
   split at ho
   ·rename_i x1 x2 q1 q2
    simp only [Option.some.injEq] at ho;subst ho
    obtain ⟨bv,g1,g2,g3⟩:=Rn hs r (k+1) vs us bc x2 hr.2 he hk q2
    refine ⟨bv,g1,by simpa [o5] using g2,λtl=>?_⟩
    refine ⟨?_,g3 tl⟩
    simp only [kI] at q1
    split at q1
    ·rename_i fr tr e' Li xs Hg
     split at q1
     ·rename_i hc
      obtain ⟨rfl,rfl⟩:=hc
      simp only [Option.some.injEq] at q1;subst q1
      unfold St.at at Hg hlen
      rw [Hg] at hlen
      rw [h1] at Hg;cases Hg
      simp only [OB.row,Option.some.injEq,Prod.mk.injEq] at h2
      obtain ⟨rfl,rfl⟩:=h2
      have hlen:len=List.length xs:=hlen
      have:=l8 KP h4
      rw [hlen] at this
      have e0:(π0 (Bv true k)).map full=(π0 (Bv true k)).map full:=rfl
      cases hp:π0 (Bv true k)<;>(rw [hp] at this;exact this)
     ·cases q1
    ·cases q1
   ·cases ho
  |Dv e te=>
   cases a<;>first|(simp [Fe] at he;done)|skip
   rename_i l off len
   simp only [Fe] at he
   split at he
   rotate_left
   ·cases he
   rename_i hl
   have hl:l=Bv true k:=Nat.eq_of_beq_eq_true hl
   subst hl
   obtain ⟨⟨rfl,hlen⟩,hk⟩:=hk
   obtain ⟨b,sz,n,h1,h2,h3,h4⟩:=hr.1
   have KP:=hs k (by rw [h1];simp)
   simp only [Jp] at ho
   split at ho
   ·rename_i x1 x2 q1 q2
    simp only [Option.some.injEq] at ho;subst ho
    obtain ⟨bv,g1,g2,g3⟩:=Rn hs r (k+1) vs us bc x2 hr.2 he hk q2
    refine ⟨bv,g1,by simpa [o5] using g2,λtl=>?_⟩
    refine ⟨?_,g3 tl⟩
    simp only [kI] at q1
    split at q1
    ·rename_i e' Li xs Hg
     split at q1
     ·rename_i hc
      obtain ⟨rfl,rfl⟩:=hc
      simp only [Option.some.injEq] at q1;subst q1
      unfold St.at at Hg hlen
      rw [Hg] at hlen
      rw [h1] at Hg;cases Hg
      simp only [OB.row,Option.some.injEq,Prod.mk.injEq] at h2
      obtain ⟨rfl,rfl⟩:=h2
      have hlen:len=List.length xs:=hlen
      have:=l8 KP h4
      rw [hlen] at this
      cases hp:π0 (Bv true k)<;>(rw [hp] at this;exact this)
     ·cases q1
    ·cases q1
   ·cases ho
def Ae0 (s:MSpec) (g:Nat) (π:Pi):Pi:= λl=>if s.ptr.isSome=true/\l=Lw then some ⟨g,0,0,λb=>b=g,λb=>b=g⟩ else π l
def Aag (P:Program) (s:MSpec) (fn:Func) (x:Ins.den s.ins) (w:World) (S:Nat->Prop) (π:Pi) (g:Nat) (r:CKs.den s.outs) (o:IOs.den s.ins) (a':Act) (w':World):Prop:=
 ∃(v:Value) (Su:List Value) (ρ:Pi),a'.defers= []/\(results fn a'.tmps).run P w'= .ok v w'/\mr s w' ρ (Su.drop s.Tj) v/\fF s π w' g Su o/\Gk w.heap.size (λb=>Ow π b\/s.gv g b) w w'/\Hj w' (eC S π ρ) π 0 s.ins o/\Fb w' (eC S π ρ) ρ 0 s.outs r Su/\
  c7 ρ (λb=>b<w'.heap.size/\(w.heap.size<=b\/ ∃l q,l<Ak/\π l=some q/\q.Az b))/\(∀l,(∀k,k<s.Nu->l≠Fz k)->ρ l=none)/\(∀kj∈s.keeps,vf w w' (π (Bv false kj.1)) (ρ (Fz kj.2)) (s.Cv x))
theorem Fb.JM {D:Nat->Prop} {ρ ρ':Pi} : ∀(cs:List CK) (k:Nat) (x:CKs.den cs) (us:List Value),(∀j,k<=j->j<k+cs.length->ρ' (Fz j)=ρ (Fz j))->Fb w D ρ k cs x us->Fb w D ρ' k cs x us
 | [],_,_,[],_,h=>h
 | [],_,_,_::_,_,h=>h.elim
 |_::_,_,_,[],_,h=>h.elim
 |c::r,k,x,u::us,he,h=>⟨by rw [he k (Nat.le_refl _) (by simp)];exact h.1,Fb.JM r (k+1) x.2 us (λj hj hl=>he j (by omega) (by simp;omega)) h.2⟩
theorem r8 {st:St} {n:Nat} {as:List AC} : ∀ {ks:List (Nat×Nat)},r7 st n as ks-> ∀kj∈ks,∃l off len e te rows out p,as[kj.2]?=some (.own l off len)/\Ae st.heap l=some (.Am e te rows out (some p))/\p.1=Bv false kj.1/\n<=p.2/\kj.1<1000
 | [],_,kj,hm=>by cases hm
 |(k,j)::r,h,kj,hm=>by
  simp only [r7] at h
  rcases List.mem_cons.1 hm with rfl|hm
  ·obtain ⟨h,_⟩:=h
   split at h
   ·rename_i l off len he
    split at h
    ·rename_i e te rows out p hl
     unfold St.at at hl
     exact ⟨l,off,len,e,te,rows,out,p,he,hl,h.1,h.2.1,by simpa using h.2.2⟩
    ·exact h.elim
   ·exact h.elim
  ·exact r8 h.2 kj hm
theorem ru {st:St} : ∀(cs:List CK) (as:List AC) (x:CKs.den cs) (ls:List Nat),Oi st cs as=some (x,ls)->as.length=cs.length
 | [],[],_,_,_=>rfl
 | [],_::_,_,_,he=>by simp [Oi] at he
 |_::_,[],_,_,he=>by simp [Oi] at he
 |c::r,a::as,x,ls,he=>by
  simp only [Oi] at he
  split at he
  ·rename_i h1 h2
   simp only [List.length_cons,ru r as _ _ h2]
  ·cases he
theorem xx {α β:Type} (f:α->Sem β): ∀(l:List α) (vs:List β),vs.length=l.length->(∀(i:Nat) a v,l[i]?=some a->vs[i]?=some v->(f a).run P w= .ok v w)->(l.mapM f).run P w= .ok vs w
 | [],[],_,_=>by simp
 | [],_::_,h,_=>by simp at h
 |_::_,[],h,_=>by simp at h
 |a::l,v::vs,h,hr=>by
  rw [List.mapM_cons]
  simp only [Sem.run_bind,hr 0 a v rfl rfl,Result.andThen_ok,xx f l vs (by simpa using h) (λi a' v' ha hv=>hr (i+1) a' v' (by simpa using ha) (by simpa using hv)),Sem.run_pure]
theorem po (hT:Cf P T) (Mk:Hf P Γ) (hm:P.follows .mixedOrders=true) {f:FuncId} {fn:Func} (hf:P.funcs[f]?=some fn) (s:MSpec) (w:World) (S:Nat->Prop) (π:Pi) (us:List Value) (x:Ins.den s.ins)
  (r:CKs.den s.outs) (o:IOs.den s.ins) (g:Nat) (kH:List Value) (Lf:jh s w g us kH) (hSg:s.ptr.isSome=true->S g) (Ns:Zy w (λb=>Ow π b\/S b) π 0 s.ins x us) (e8:c7 π (λb=>b<w.heap.size)) (hS: ∀b,S b->b<w.heap.size/\ ¬Ow π b) (KB: ∀l,Ae (Sj 0 s.ins x) l=none->π l=none) (he:TB T Γ s fn x λz=>z=(r,o)):
  Calls P f kH.toArray w λe w'=> ∃v Su ρ,e= .returned v/\mr s w' ρ (Su.drop s.Tj) v/\fF s π w' g Su o/\Gk w.heap.size (λb=>Ow π b\/s.gv g b) w w'/\Hj w' (eC S π ρ) π 0 s.ins o/\Fb w' (eC S π ρ) ρ 0 s.outs r Su/\
   c7 ρ (λb=>b<w'.heap.size/\(w.heap.size<=b\/ ∃l q,l<Ak/\π l=some q/\q.Az b))/\(∀l,(∀k,k<s.Nu->l≠Fz k)->ρ l=none)/\(∀kj∈s.keeps,vf w w' (π (Bv false kj.1)) (ρ (Fz kj.2)) (s.Cv x)):=by
 obtain ⟨hlen,c,hb,he⟩:=he
 simp only [Bool.and_eq_true,Nat.blt_eq] at hlen
 obtain ⟨hlen,KD⟩:=hlen
 unfold tV at KD
 simp only [Bool.and_eq_true] at KD
 have Abk:=KD.1
 let lB:Pi:=Ae0 s g π
 let Sg:Nat->Prop:= λb=>S b/\ ¬s.gv g b
 have hvl: ∀b j,j<1000->Bv b j≠Lw:= λb j hj=>by cases b<;>(unfold Bv Lw;simp;omega)
 have sQ: ∀b j,0<=j->j<0+s.ins.length->lB (Bv b j)=π (Bv b j):= λb j _ hj=>if_neg λh=>hvl b j (by omega) h.2
 have UD: ∀b j,0<=j->j<0+s.ins.length->π (Bv b j)=lB (Bv b j):= λb j h1 h2=>(sQ b j h1 h2).symm
 have XG:Ae (Sj 0 s.ins x) Lw=none:=Classical.byContradiction λhn=>by
  obtain ⟨b,j,_,h2,h3⟩:=nt s.ins 0 x Lw hn
  exact hvl b j (by omega) h3.symm
 have HR: ∀l q,lB l=some q->(π l=some q/\(s.ptr.isSome=true->l≠Lw))\/(s.ptr.isSome=true/\l=Lw/\q=⟨g,0,0,λb=>b=g,λb=>b=g⟩):= λl q hq=>by
  have hq:(if s.ptr.isSome=true/\l=Lw then some ⟨g,0,0,λb=>b=g,λb=>b=g⟩ else π l)=some q:=hq
  split at hq
  ·rename_i hc;exact .inr ⟨hc.1,hc.2,(Option.some.inj hq).symm⟩
  ·rename_i hc;exact .inl ⟨hq,λh1 h2=>hc ⟨h1,h2⟩⟩
 have Za: ∀b,Ow lB b↔Ow π b\/s.gv g b:= λb=>by
  constructor
  ·rintro ⟨l,q,h1,h2⟩
   rcases HR l q h1 with ⟨h3,_⟩|⟨h3,h4,rfl⟩
   ·exact .inl ⟨l,q,h3,h2⟩
   ·exact .inr ⟨h3,h2⟩
  ·rintro (⟨l,q,h1,h2⟩|⟨h1,rfl⟩)
   ·refine ⟨l,q,?_,h2⟩
    show (if s.ptr.isSome=true/\l=Lw then _ else π l)=some q
    rw [if_neg]
    ·exact h1
    ·rintro ⟨_,rfl⟩
     rw [KB Lw XG] at h1;cases h1
   ·exact ⟨Lw,⟨b,0,0,λc=>c=b,λc=>c=b⟩,if_pos ⟨h1,rfl⟩,rfl⟩
 have hgS: ∀b,s.gv g b->S b:= λb ⟨h1,h2⟩=>h2▸hSg h1
 have WG:Zy w (λb=>Ow lB b\/Sg b) lB 0 s.ins x us:=Zy.congr s.ins 0 x us sQ (Zy.Fa (λb hb=>by
  rcases hb with hb|hb
  ·rcases (Za b).1 hb with hb|hb
   ·exact .inl hb
   ·exact .inr (hgS b hb)
  ·exact .inr hb.1) s.ins 0 x us Ns)
 have Abp:c7 lB (λb=>b<w.heap.size):=⟨λl q b h1 h2=>by
  rcases HR l q h1 with ⟨h3,_⟩|⟨h3,h4,rfl⟩
  ·exact e8.Ss l q b h3 h2
  ·exact (hS b (hgS b ⟨h3,h2⟩)).1,λl l' q q' b h1 h2 h3 h4=>by
  rcases HR l q h1 with ⟨h5,_⟩|⟨h5,h6,rfl⟩<;>rcases HR l' q' h2 with ⟨h7,_⟩|⟨h7,h8,rfl⟩
  ·exact e8.inj l l' q q' b h5 h7 h3 h4
  ·exact absurd ⟨l,q,h5,h3⟩ (hS b (hgS b ⟨h7,h4⟩)).2
  ·exact absurd ⟨l',q',h7,h4⟩ (hS b (hgS b ⟨h5,h3⟩)).2
  ·rw [h6,h8]⟩
 have Ag2: ∀b,Sg b->b<w.heap.size/\ ¬Ow lB b:= λb hb=>⟨(hS b hb.1).1,λho=>((Za b).1 ho).elim (hS b hb.1).2 hb.2⟩
 have CM: ∀l,Ae (kU s x) l=match Ae (Sj 0 s.ins x) l with|some b=>some b|none=>if l=Lw then s.ptr.map λp=> .var p.1 ((Vj 0 s.ins x).take p.2) else none:= λl=>by
  unfold kU
  cases hp:s.ptr with
  |none=>cases Ae (Sj 0 s.ins x) l<;>simp
  |some p=>
   simp only
   rw [kS]
   cases Ae (Sj 0 s.ins x) l with
   |some b=>rfl
   |none=>
    simp only [Ae,Option.map_some]
    by_cases e:l=Lw
    ·rw [if_pos e,if_pos e.symm]
    ·rw [if_neg e,if_neg (λh=>e h.symm)]
 let π0:Pi:= λl=>(lB l).map full
 have un: ∀l q,π0 l=some q-> ∃q0,lB l=some q0/\q=full q0:= λl q hq=>by
  have hq:(lB l).map full=some q:=hq
  cases hp:lB l with
  |none=>rw [hp] at hq;cases hq
  |some q0=>rw [hp] at hq;exact ⟨q0,rfl,(Option.some.inj hq).symm⟩
 have KG: ∀l b,Ae (Sj 0 s.ins x) l=some b->Ae (kU s x) l=some b:= λl b hb=>by rw [CM l,hb]
 have XB:Ia ⟨w,Sg,Ow lB,π0⟩ w π0 (kU s x) (Vj 0 s.ins x) us:=wx (λ_=>rfl) s.ins 0 x us (by omega) WG KG
 have KT:s.ptr.isSome=true->π0 Lw=some ⟨g,0,0,λb=>b=g,λb=>b=g⟩:= λhp=>by
  show (if s.ptr.isSome=true/\Lw=Lw then _ else π Lw).map full=_
  rw [if_pos ⟨hp,rfl⟩];rfl
 obtain ⟨g1,g2⟩:(Th s (Vj 0 s.ins x)).length=kH.length/\ ∀(i:Nat) c v,(Th s (Vj 0 s.ins x))[i]?=some c->kH[i]?=some v->Ao ⟨w,Sg,Ow lB,π0⟩ w π0 (kU s x) c v:=by
  unfold jh at Lf
  cases hp:s.ptr with
  |none=>
   rw [hp] at Lf
   obtain ⟨rfl,IQ⟩:=Lf
   obtain ⟨g1,g2,_,_⟩:=Yw s.He _ us IQ XB
   rw [show Th s (Vj 0 s.ins x)=Mr s.He (Vj 0 s.ins x) by unfold Th;rw [hp]]
   exact ⟨g1,g2⟩
  |some p=>
   rw [hp] at Lf
   obtain ⟨rfl,IQ,_⟩:=Lf
   obtain ⟨g1,g2,_,_⟩:=Yw s.He _ (us.drop p.2) IQ (Ia.take p.2 XB).2
   rw [show Th s (Vj 0 s.ins x)= .at (.Eb Lw 0)::Mr s.He ((Vj 0 s.ins x).drop p.2) by unfold Th;rw [hp]]
   refine ⟨by simp [g1],λi c v h1 h2=>?_⟩
   rcases i with _|i
   ·simp only [List.getElem?_cons_zero,Option.some.injEq] at h1 h2
    subst h1;subst h2
    exact ⟨_,p.1,(Vj 0 s.ins x).take p.2,by rw [CM,XG];simp [hp],KT (by rw [hp];rfl),rfl⟩
   ·exact g2 i c v (by simpa using h1) (by simpa using h2)
 have h0:Rel ⟨w,Sg,Ow lB,π0⟩ {tmps:=Th s (Vj 0 s.ins x)++List.replicate (fn.ntmps-(Th s (Vj 0 s.ins x)).length) .undef,heap:=kU s x}
   {tmps:=kH.toArray++Array.replicate (fn.ntmps-kH.toArray.size) undef,defers:= []} w:=by
  refine ⟨π0,⟨Gk.refl _ _ _,λb hb=>Ag2 b hb,λl q b h1 h2=>?_,λl q b h1 h2=>?_,λl l' q q' b h1 h2 h3 h4=>?_,λl _ _=>Uu.rfl' _,λl=>?_⟩,⟨by simp [g1],rfl,λt=>?_⟩⟩
  ·obtain ⟨q0,_,rfl⟩:=un l q h1;exact h2
  ·obtain ⟨q0,h3,rfl⟩:=un l q h1
   exact ⟨.inr ⟨l,q0,h3,h2⟩,Abp.Ss l q0 b h3 h2⟩
  ·obtain ⟨q0,h5,rfl⟩:=un l q h1
   obtain ⟨YM,h6,rfl⟩:=un l' q' h2
   exact Abp.inj l l' q0 YM b h5 h6 h3 h4
  ·cases hh:Ae (Sj 0 s.ins x) l with
   |none=>
    by_cases hv:s.ptr.isSome=true/\l=Lw
    ·obtain ⟨hps,rfl⟩:=hv
     obtain ⟨p,hp⟩:=Option.isSome_iff_exists.1 hps
     refine Dm.Is (b:= .var p.1 ((Vj 0 s.ins x).take p.2)) ?_ (by rw [CM,hh];simp [hp])
     unfold jh at Lf
     rw [hp] at Lf
     obtain ⟨_,_,h1,h2,h3⟩:=Lf
     rw [KT hps]
     exact ⟨_,rfl,rfl,_,h2,Ia.to (Ia.take p.2 XB).1 h3⟩
    ·refine Dm.Pn ?_ ?_
     ·show (if s.ptr.isSome=true/\l=Lw then _ else π l).map full=none
      rw [if_neg hv,KB l hh];rfl
     ·rw [CM,hh]
      simp only
      split
      ·rename_i e
       cases hp:s.ptr with
       |none=>rfl
       |some p=>exact absurd ⟨by rw [hp];rfl,e⟩ hv
      ·rfl
   |some b=>exact Dm.Is (gh (π0:=lB) (λb hb=>by
    rcases hb with ⟨l,q,h1,h2⟩|hb|⟨hb,_⟩
    ·obtain ⟨q0,h3,rfl⟩:=un l q h1;exact .inl ⟨l,q0,h3,h2⟩
    ·exact .inr hb
    ·cases hb) rfl (λ_=>rfl) s.ins 0 x us WG l b hh) (KG l b hh)
  ·show Ao _ w _ _ ((Th s (Vj 0 s.ins x)++List.replicate _ AV.undef).getD t .undef) ((kH.toArray++Array.replicate _ undef).getD t undef)
   by_cases ht:t<kH.length
   ·rw [List.getD_eq_getElem?_getD,List.getElem?_append_left (by omega),<-List.getD_eq_getElem?_getD]
    rw [Array.getD_eq_getD_getElem?,Array.getElem?_append_left (by simpa using ht)]
    have:=g2 t _ _ (List.getElem?_eq_getElem (by omega)) (List.getElem?_eq_getElem ht)
    simpa [List.getD_eq_getElem?_getD,List.getElem?_eq_getElem ht,List.getElem?_eq_getElem (show t<(Th s (Vj 0 s.ins x)).length by omega)] using this
   ·have:(Th s (Vj 0 s.ins x)++List.replicate (fn.ntmps-(Th s (Vj 0 s.ins x)).length) AV.undef).getD t .undef= .undef:=by
     rw [List.getD_eq_getElem?_getD,List.getElem?_append_right (by omega)]
     rw [List.getElem?_replicate]
     split<;>rfl
    rw [this];trivial
 have fin: ∀(st:St) (a':Act) (w':World),IZ T s fn x st (λz=>z=(r,o))->Rel ⟨w,Sg,Ow lB,π0⟩ st a' w'->Aag P s fn x w S π g r o a' w':=by
  intro st a' w' lK KN
  obtain ⟨Wf,h'⟩:=KN
  have UK:Ak<=Lw:=by unfold Ak Lw;omega
  obtain ⟨bc,kR,Ai4,hbc⟩: ∃bc,ei T s fn x st bc (λz=>z=(r,o))/\(s.ptr.isSome=true-> ∃b,Ae st.heap Lw=some b/\b.row=none)/\
    (Jp st 0 s.ins=some o-> ∃bv,Ia ⟨w,Sg,Ow lB,π0⟩ w' Wf st.heap bc bv/\bv.length=s.Tj/\ ∀tl,fF s π w' g (bv++tl) o):=by
   unfold IZ at lK
   cases hp:s.ptr with
   |none=>
    rw [hp] at lK
    exact ⟨[],lK,λh=>by simp at h,λ_=>⟨[],trivial,by simp [MSpec.Tj,hp],λtl=>by simp [fF,hp]⟩⟩
   |some p=>
    rw [hp] at lK
    obtain ⟨vs,cs,h1,h2,h3,h4,h5⟩:=lK
    unfold St.at at h1
    refine ⟨cs,h5,λ_=>⟨_,h1,rfl⟩,λsO=>?_⟩
    obtain ⟨q,k1,k2,cur,k3,k4⟩:=(h'.1.heap Lw).Mj h1
    have hsv:Uu (π0 Lw) (Wf Lw):=h'.1.dc Lw UK (by rw [h1];simp)
    rw [KT (by rw [hp];rfl),k1] at hsv
    have hqg:g=q.g:=hsv.1
    obtain ⟨bv,g1,g2,g3⟩:=Rn (π0:=lB) (λk hk=>h'.1.dc _ (Nat.le_of_not_lt (Uh k)) hk) s.ins 0 vs cur.toList cs o (Ia.of k4) h3 h4 sO
    refine ⟨bv,g1,by rw [g2,h2];simp [MSpec.Tj,hp],λtl=>?_⟩
    unfold fF
    rw [hp]
    refine ⟨cur.toList,by rw [hqg];simpa using k3,λu hu=>?_,Cg.congr s.ins 0 o p.2 _ _ UD (h2▸g3 tl)⟩
    obtain ⟨i,hi,rfl⟩:=List.mem_iff_getElem.1 hu
    have hl:=k4.1
    obtain ⟨u',h6,h7,_⟩:=k4.2 i (vs[i]'(by omega)) (List.getElem?_eq_getElem _)
    rw [List.getElem?_eq_getElem hi] at h6
    rw [Option.some.inj h6];exact h7
  unfold ei at kR
  split at kR
  ·exact kR.elim
  rename_i l hl
  split at kR
  ·exact kR.elim
  rename_i as ml cJ
  split at kR
  rotate_left
  ·exact kR.elim
  rename_i r' ls o' sT qP
  obtain ⟨Fo,qU,KO⟩:=kR
  simp only [Bool.and_eq_true,Nat.blt_eq] at Fo
  obtain ⟨⟨⟨pD,Alr⟩,Ajz⟩,Abh⟩:=Fo
  simp only [Prod.mk.injEq] at KO
  obtain ⟨rfl,rfl⟩:=KO
  obtain ⟨bv,hbv,Agd,Agb⟩:=hbc qP
  have z9:=Qw pD
  obtain ⟨n1,n2,n3⟩:=List.nodup_append.1 z9
  obtain ⟨m1,m2,m3⟩:=List.nodup_append.1 n1
  obtain ⟨vs,v1,v2,v3,v4⟩:=Qy hT h' _ _ hl
  have QT:fn.results=fn.results.toList.toArray:=Array.toArray_toList.symm
  have Ou: ∀v,(if h:vs.toArray.size=1 then vs.toArray[0] else .tuple vs.toArray)=v->(results fn a'.tmps).run P w'= .ok v w':=by
   intro v hv
   rw [aM,QT,List.mapM_toArray]
   simp only [map_eq_pure_bind,bind_assoc,pure_bind]
   simp only [Sem.run_bind,xx (zY a'.tmps) _ vs v1 v3,Result.andThen_ok,Sem.run_pure]
   rw [hv]
  obtain ⟨qo,v,qm,Ai3,hv,UL⟩: ∃qo v qm,Ia ⟨w,Sg,Ow lB,π0⟩ w' Wf st.heap as qo/\(results fn a'.tmps).run P w'= .ok v w'/\
    ((s.rp=none/\ml= []/\qm=none/\MT s.Gh s.Gj qo v/\Xe s.Gj qo)\/
     ∃tid m q,s.rp=some tid/\ml= [m]/\m<Ak/\qm=some q/\Wf m=some q/\q.Az q.g/\w'.heap[q.g]?=some (.cells qo.toArray tid (0,0))/\(∀u∈qo,u.oneCell'=true)/\v= .pointer (some ⟨q.g,0,none⟩)):=by
   unfold zX at cJ
   split at cJ
   ·rename_i yl
    split at cJ
    rotate_left
    ·cases cJ
    rename_i hmul
    cases IT:ungroup s.Gj l with
    |none=>rw [IT] at cJ;cases cJ
    |some as'=>
     rw [IT] at cJ
     simp only [Option.map_some,Option.some.injEq,Prod.mk.injEq] at cJ
     obtain ⟨rfl,rfl⟩:=cJ
     obtain ⟨qo,e1,e2,e3⟩:=Xj s.Gj l vs as' (by omega) v4 IT
     have hv: ∃v,(results fn a'.tmps).run P w'= .ok v w'/\MT s.Gh s.Gj qo v:=by
      unfold MT
      rw [<-e1,hmul]
      rcases Nat.lt_or_ge 1 l.length with h1|h1
      ·have JZ:Nat.blt 1 l.length=true:=by simpa using h1
       simp only [JZ,if_true]
       refine ⟨.tuple vs.toArray,Ou _ ?_,rfl⟩
       rw [dif_neg (by simp;omega)]
      ·have JZ:Nat.blt 1 l.length=false:=by rw [<-Bool.not_eq_true];simpa using h1
       simp only [JZ,Bool.false_eq_true,if_false]
       rcases vs with _|⟨v,_|⟨v',vs⟩⟩
       ·exact ⟨_,Ou _ (by simp;rfl), .inr rfl⟩
       ·exact ⟨v,Ou _ (by simp), .inl rfl⟩
       ·exfalso;simp only [List.length_cons] at v1;omega
     obtain ⟨v,hv1,hv2⟩:=hv
     exact ⟨qo,v,none,e3,hv1, .inl ⟨yl,rfl,rfl,hv2,e2⟩⟩
   ·rename_i tid yl
    split at cJ
    rotate_left
    ·cases cJ
    rename_i m i
    split at cJ
    rotate_left
    ·cases cJ
    rename_i Oa va hm
    split at cJ
    rotate_left
    ·cases cJ
    rename_i hc
    obtain ⟨rfl,rfl,OU⟩:=hc
    simp only [Option.some.injEq,Prod.mk.injEq] at cJ
    obtain ⟨rfl,rfl⟩:=cJ
    unfold St.at at hm
    rcases vs with _|⟨v,_|⟨v',vs⟩⟩
    ·exfalso;simp only [List.length_cons,List.length_nil] at v1 v2;omega
    ·obtain ⟨q,Anz,vs2,q1,q2,q3⟩:=v4 0 _ v rfl rfl
     rw [hm] at q1;cases q1
     obtain ⟨q',k1,k2,cur,k3,k4⟩:=(h'.1.heap m).Mj hm
     rw [q2] at k1;cases k1
     refine ⟨cur.toList,v,some q,Ia.of k4,Ou _ (by simp), .inr ⟨_,m,q,yl,rfl,by simpa using OU,rfl,q2,k2,by simpa using k3,λu hu=>?_,q3⟩⟩
     obtain ⟨i,hi,rfl⟩:=List.mem_iff_getElem.1 hu
     have hl:=k4.1
     obtain ⟨u',h6,h7,_⟩:=k4.2 i (va[i]'(by omega)) (List.getElem?_eq_getElem _)
     rw [List.getElem?_eq_getElem hi] at h6
     rw [Option.some.inj h6];exact h7
    ·exfalso;simp only [List.length_cons,List.length_nil] at v1 v2;omega
  obtain ⟨vd,p1,p2,p3,p4,p5⟩:=rv h'.1 s.outs 0 (bc++as) (bv++qo) r' ls (hbv.append Ai3) sT m2
  obtain ⟨io1,io2⟩:=Nr (π0:=lB) h'.1 (λ_=>rfl) s.ins 0 x us o' WG qP
  have Ab7:(bv++qo).drop s.Tj=qo:=by rw [<-Agd];simp
  let ρ:Pi:= λl0=>if l0=Fz s.outs.length then qm else vd l0
  have XK:ρ (Fz s.outs.length)=qm:=if_pos rfl
  have Aci: ∀l0,l0≠Fz s.outs.length->ρ l0=vd l0:= λl0 h=>if_neg h
  have Ach: ∀j,j<s.outs.length->ρ (Fz j)=vd (Fz j):= λj hj=>Aci _ (by unfold Fz;omega)
  have pa: ∀l0 q,ρ l0=some q->(l0=Fz s.outs.length/\qm=some q)\/(l0≠Fz s.outs.length/\vd l0=some q):= λl0 q h=>by
   by_cases e:l0=Fz s.outs.length
   ·subst e;rw [XK] at h;exact .inl ⟨rfl,h⟩
   ·rw [Aci l0 e] at h;exact .inr ⟨e,h⟩
  have Abu: ∀q,qm=some q-> ∃m,ml= [m]/\m<Ak/\Wf m=some q:= λq hq=>by
   rcases UL with ⟨_,_,h1,_⟩|⟨_,m,q',_,h1,h2,h3,h4,_⟩
   ·rw [h1] at hq;cases hq
   ·rw [h3] at hq;cases hq;exact ⟨m,h1,h2,h4⟩
  have p3': ∀l0 q b,ρ l0=some q->q.Az b-> ∃l1∈ml++ls,∃p,Wf l1=some p/\p.cl b/\((s.outs.all λc=>!c.UU)=true->p.Az b)/\((l1∈ls)\/l1<Ak):= λl0 q b h1 h2=>by
   rcases pa l0 q h1 with ⟨_,h3⟩|⟨_,h3⟩
   ·obtain ⟨m,e1,e2,e3⟩:=Abu q h3
    exact ⟨m,by rw [e1];simp,q,e3,h'.1.sub m q b e3 h2,λ_=>h2, .inr e2⟩
   ·obtain ⟨l1,g1,p,g2,g3,g4⟩:=p3 l0 q b h3 h2
    exact ⟨l1,List.mem_append_right _ g1,p,g2,g3,g4, .inl g1⟩
  have p4': ∀l0 l1 q q' b,ρ l0=some q->ρ l1=some q'->q.Az b->q'.Az b->l0=l1:= λl0 l1 q q' b h1 h2 h3 h4=>by
   have vP: ∀l0 q q' b,vd l0=some q->qm=some q'->q.Az b->q'.Az b->False:= λl0 q q' b h1 h2 h3 h4=>by
    obtain ⟨m,e1,e2,e3⟩:=Abu q' h2
    obtain ⟨l1,g1,p,g2,g3,_⟩:=p3 l0 q b h1 h3
    have:=h'.1.inj m l1 q' p b e3 g2 (h'.1.sub m q' b e3 h4) g3
    exact m3 m (by rw [e1];simp) l1 g1 this
   rcases pa l0 q h1 with ⟨e1,h5⟩|⟨e1,h5⟩<;>rcases pa l1 q' h2 with ⟨e2,h6⟩|⟨e2,h6⟩
   ·rw [e1,e2]
   ·exact (vP l1 q' q b h6 h5 h4 h3).elim
   ·exact (vP l0 q q' b h5 h6 h3 h4).elim
   ·exact p4 l0 l1 q q' b h5 h6 h3 h4
  have CR: ∀l0 q,Ak<=l0->lB l0=some q->Ae st.heap l0≠none/\(l0∈Kg 0 s.ins\/ ∃b,Ae st.heap l0=some b/\b.row=none):= λl0 q h1 h2=>by
   rcases HR l0 q h2 with ⟨h3,_⟩|⟨h3,rfl,_⟩
   ·have sO:=qZ s.ins 0 x l0 Abk (by omega) (λhnn=>by rw [KB l0 hnn] at h3;cases h3) (by omega)
    exact ⟨io2 l0 sO, .inl sO⟩
   ·obtain ⟨b,h4,h5⟩:=Ai4 h3
    exact ⟨by rw [h4];simp, .inr ⟨b,h4,h5⟩⟩
  have hDO:(s.outs.all λc=>!c.UU)=true-> ∀b,eC Sg lB ρ b->Ow Wf b\/Sg b:=by
   intro hx b hb
   rcases hb with hb|⟨l0,q,h1,h2,h3⟩|⟨l0,q,h1,h2⟩
   ·exact .inr hb
   ·have hs:=h'.1.dc l0 h1 (CR l0 q h1 h2).1
    have hs:Uu ((lB l0).map full) (Wf l0):=hs
    rw [h2] at hs
    cases uY:Wf l0 with
    |none=>rw [uY] at hs;exact hs.elim
    |some q1=>rw [uY] at hs;exact .inl ⟨l0,q1,uY,(hs.2.2.2 b).1 h3⟩
   ·obtain ⟨m,_,p,hm2,_,WT,_⟩:=p3' l0 q b h1 h2
    exact .inl ⟨m,p,hm2,WT hx⟩
  have hDD: ∀b,eC S π ρ b->eC Sg lB ρ b:= λb hb=>by
   rcases hb with hb|⟨l0,q,h1,h2,h3⟩|hb
   ·by_cases IM:s.gv g b
    ·obtain ⟨hps,rfl⟩:=IM
     exact .inr (.inl ⟨Lw,_,UK,if_pos ⟨hps,rfl⟩,rfl⟩)
    ·exact .inl ⟨hb,IM⟩
   ·refine .inr (.inl ⟨l0,q,h1,?_,h3⟩)
    show (if s.ptr.isSome=true/\l0=Lw then _ else π l0)=some q
    rw [if_neg]
    ·exact h2
    ·rintro ⟨_,rfl⟩
     rw [KB Lw XG] at h2;cases h2
   ·exact .inr (.inr hb)
  have OO:s.flat=true\/(s.outs.all λc=>!c.UU)=true:=by unfold MSpec.LR at Abh;simpa only [Bool.or_eq_true] using Abh
  have io1:Hj w' (eC S π ρ) π 0 s.ins o':=by
   refine Hj.congr s.ins 0 o' UD ?_
   rcases OO with hf|hf
   ·unfold MSpec.flat at hf
    simp only [Bool.and_eq_true] at hf
    exact Hj.any s.ins 0 o' hf.2 io1
   ·exact Hj.Fa (λb hb=>hDO hf b (hDD b hb)) s.ins 0 o' io1
  have p1:Fb w' (eC S π ρ) ρ 0 s.outs r' (bv++qo):=by
   have p1:Fb w' (λb=>Ow Wf b\/Sg b) ρ 0 s.outs r' (bv++qo):=Fb.JM s.outs 0 r' _ (λj _ hj=>Ach j (by omega)) p1
   rcases OO with hf|hf
   ·unfold MSpec.flat at hf
    simp only [Bool.and_eq_true] at hf
    exact Fb.any s.outs 0 r' (bv++qo) hf.1 p1
   ·exact Fb.Fa (λb hb=>hDO hf b (hDD b hb)) s.outs 0 r' (bv++qo) p1
  refine ⟨v,bv++qo,ρ,h'.2.defers,hv,?_,Agb qo,⟨h'.1.below.os,h'.1.below.tape,h'.1.below.output,h'.1.below.size,λk hk hn=>h'.1.below.block k hk λho=>hn ((Za k).1 ho)⟩,io1,p1,⟨λl0 q b h1 h2=>?_,p4'⟩,λl0 WN=>?_,λkj IN=>?_⟩
  ·rw [Ab7]
   unfold mr
   rcases UL with ⟨h1,_,_,h2⟩|⟨tid,m,q,h1,_,_,h3,_,h4,h5,h6,h7⟩
   ·rw [h1];exact h2
   ·rw [h1];exact ⟨q,by rw [XK,h3],h4,h5,h6,h7⟩
  ·obtain ⟨m,UG,p,hm2,hm3,_,WT⟩:=p3' l0 q b h1 h2
   obtain ⟨k1,k2⟩:=h'.1.place m p b hm2 hm3
   refine ⟨k2,k1.imp id λ⟨c0,q0,h5,h6⟩=>?_⟩
   have Hr:c0<Ak:=Classical.byContradiction λhn=>by
    obtain ⟨Ep,sO⟩:=CR c0 q0 (by omega) h5
    have hs:=h'.1.dc c0 (by omega) Ep
    have hs:Uu ((lB c0).map full) (Wf c0):=hs
    rw [h5] at hs
    cases uY:Wf c0 with
    |none=>rw [uY] at hs;exact hs.elim
    |some q1=>
     rw [uY] at hs
     have hf1:q1.Az b:=(hs.2.2.2 b).1 h6
     have:=h'.1.inj c0 m q1 p b uY hm2 (h'.1.sub c0 q1 b uY hf1) hm3
     subst this
     rcases WT with WT|WT
     ·rcases sO with sO|⟨b1,JZ,hb2⟩
      ·exact n3 c0 UG c0 sO rfl
      ·obtain ⟨b2,hb3,hb4⟩:=nP s.outs _ _ _ sT c0 WT
       rw [JZ] at hb3;cases hb3
       exact hb4 hb2
     ·exact hn WT
   refine ⟨c0,q0,Hr,?_,h6⟩
   rcases HR c0 q0 h5 with ⟨h7,_⟩|⟨_,h7,_⟩
   ·exact h7
   ·omega
  ·cases hp:ρ l0 with
   |none=>rfl
   |some q=>
    rcases pa l0 q hp with ⟨e,h3⟩|⟨_,h3⟩
    ·refine absurd e (WN _ ?_)
     rcases UL with ⟨_,_,h4,_⟩|⟨tid,m,q',h4,_⟩
     ·rw [h4] at h3;cases h3
     ·unfold MSpec.Nu;rw [h4];simp
    ·obtain ⟨j,_,j2,j3⟩:=p2 l0 q h3
     exact absurd j3 (WN j (by unfold MSpec.Nu;omega))
  ·obtain ⟨l0,off,len,e,te,rows,out,p,q1,q2,q3,q4,q5⟩:=r8 qU kj IN
   have hj:kj.2<s.outs.length:=by
    rw [<-ru s.outs _ _ _ sT]
    exact (List.getElem?_eq_some_iff.1 q1).1
   have e1:=p5 kj.2 l0 off len e te rows out (some p) q1 q2
   rw [Nat.zero_add] at e1
   rw [Ach _ hj,e1]
   have hk:=((h'.1.heap l0).Mj q2).2
   obtain ⟨l1,n1⟩:=p
   simp only [KeptAt] at hk
   dsimp only at q3 q4
   subst q3
   have EU:π0 (Bv false kj.1)=(π (Bv false kj.1)).map full:=by
    show (if s.ptr.isSome=true/\Bv false kj.1=Lw then _ else π (Bv false kj.1)).map full=_
    rw [if_neg λh=>hvl false kj.1 q5 h.2]
   rw [EU] at hk
   unfold vf
   cases hp:π (Bv false kj.1) with
   |none=>
    rw [hp] at hk
    cases uY:Wf l0 with
    |none=>trivial
    |some q=>rw [uY] at hk;exact hk.elim
   |some q0=>
    rw [hp] at hk
    cases uY:Wf l0 with
    |none=>rw [uY] at hk;exact hk.elim
    |some q=>
     rw [uY] at hk
     obtain ⟨k1,k2,k3,k4⟩:=hk
     exact ⟨k1,k2,k3,λj hj hc=>k4 j (by omega) hc⟩
 refine calls_of_wp hf hb ?_
 refine (o8 hT Mk hm he _ w _ h0 λe st a' w' ⟨Ep,lK⟩ h'=>?_).1
 obtain ⟨v,Su,ρ,p1,p2,p3⟩:=fin st a' w' lK h'
 cases e with
 |normal=>exact ⟨p1,v,p2,v,Su,ρ,rfl,p3⟩
 |ret=>exact ⟨p1,v,p2,v,Su,ρ,rfl,p3⟩
 |exit id=>exact absurd rfl (Ep id)
end
end Go.Proofs.Ytjbdmibbbpdnnaa
