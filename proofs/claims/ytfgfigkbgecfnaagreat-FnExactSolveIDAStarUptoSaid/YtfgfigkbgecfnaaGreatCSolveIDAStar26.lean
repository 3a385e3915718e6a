/-
  Part 27 of the proof that the statement FnExactSolveIDAStar holds.
-/
import Derived.Test.YtfgfigkbgecfnaaGreatCSolveIDAStar25
namespace Go.Proofs.YtfgfigkbgecfnaaGreat
open Go.RowKit
section
variable {P:Program} {T:Tab} {Γ:Env} {X:Ctx} {w w':World} {π:Pi} {H:List (Nat×OB)}
theorem vJ: ∀(cs:List (Bool×CK)) (k:Nat) (x:Ins.den cs) (l:Nat),Au (aE k cs x) l≠none-> ∃b j,k<=j/\j<k+cs.length/\l=Dt b j
 | [],_,_,_,h=>absurd rfl h
 |p::r,k,x,l,h=>by
  simp only [aE] at h
  by_cases e:l=Dt p.1 k
  ·exact ⟨p.1,k,Ao _,by simp,e⟩
  ·have:Au (aE (k+1) r x.2) l≠none:=by
    cases hc:lE (Dt p.1 k) p.2 x.1 with
    |none=>rw [hc] at h;exact h
    |some b=>rw [hc] at h;simpa only [jh,Au,Ag (Gl e)] using h
   obtain ⟨b,j,h1,h2,h3⟩:=vJ r (k+1) x.2 l this
   exact ⟨b,j,by omega,by simp;omega,h3⟩
theorem YC {p:Bool×CK} {r:List (Bool×CK)} {k:Nat} {x:Ins.den (p::r)} (hk:k+(r.length+1)<100000) {l:Nat} {b:OB} (h:Au (aE (k+1) r x.2) l=some b):Au (aE k (p::r) x) l=some b:=by
 obtain ⟨b',j,h1,h2,rfl⟩:=vJ r (k+1) x.2 l (by rw [h];simp)
 simp only [aE]
 cases lE (Dt p.1 k) p.2 x.1 with
 |none=>exact h
 |some c=>simp only [jh,Au];rw [Ag (WC (by omega) (by omega) (by omega))];exact h
theorem Abx {D:Nat->Prop} (hD: ∀b,Dd X.w0.heap.size X.Sc π false b->D b) (hw0:X.w0=w) {l:Nat} {r:Option Real} (aC:X.iY l=r.map full) {u:Value} {c:CK} {x:c.den} (h:fI w D r u c x) {b:OB} (hb:lE l c x=some b):Cm X w π H (r.map full) b:=by
 have ay: ∀ {e:Ty} {es:List Value} {y:e.den},Cells w D e es y->Cells w (Dd X.w0.heap.size X.Sc π false) e es y:= λ {e es y} h=>Cells.Fg (Ao _) (λ_ _ _=>rfl) (λb _ hb=>hD b hb) e es y h
 cases c with
 |Em τ=>cases hb
 |row e te=>
  simp only [lE,Aa] at hb;subst hb
  obtain ⟨_,h⟩:=h
  simp only [ia] at h
  simp only [Cm,Ke]
  cases r with
  |none=>exact h
  |some q=>
   obtain ⟨k1,cu,ti,k2,k3,k4,k5,k6⟩:=h
   exact ⟨⟨k1.1,k1.2,λh=>by cases h⟩,cu,ti,k2,k3,k4,k5,λi y hy=>by
    obtain ⟨es,g1,g2,g3⟩:=k6 i y hy
    exact ⟨es,g1,g2,ay g3⟩,λh=>by cases h⟩
 |Hp e te=>
  simp only [lE,Aa] at hb;subst hb
  cases r<;>exact h.2
 |part e te=>
  simp only [lE,Aa] at hb;subst hb
  obtain ⟨_,hf,h⟩:=h
  simp only [Cm,Ke]
  cases r with
  |none=>exact h
  |some q=>
   obtain ⟨k1,cu,ti,k2,k3,k4,k5,k6⟩:=h
   exact ⟨⟨k1.1,k1.2,λh=>by cases h⟩,cu,ti,k2,k3,k4,k5,λi y hy=>by
    obtain ⟨es,g1,g2,g3⟩:=k6 i y hy
    exact ⟨es,g1,g2,ay g3⟩,λh=>by cases h⟩
 |Bp e te kp=>
  simp only [lE,Aa] at hb;subst hb
  have h2:bd w D r e x none:=h.2
  have h3:=bd.Iv h2 hD
  refine ⟨by cases r<;>exact h3,?_⟩
  cases kp with
  |false=>trivial
  |true=>
   simp only [Pv,KeptAt]
   rw [aC]
   cases r with
   |none=>trivial
   |some q=>exact ⟨rfl,rfl,rfl,λj _ _=>by rw [hw0]⟩
theorem nf {D:Nat->Prop} (hD: ∀b,Dd X.w0.heap.size X.Sc π false b->D b) (hw0:X.w0=w) {π0:Pi} (aC: ∀l,X.iY l=(π0 l).map full): ∀(cs:List (Bool×CK)) (k:Nat) (x:Ins.den cs) (us:List Value),fK w D π0 k cs x us-> ∀l b,Au (aE k cs x) l=some b->Cm X w π H ((π0 l).map full) b
 | [],_,_,_,_,_,_,h=>by cases h
 |_::_,_,_,[],h,_,_,_=>h.elim
 |p::r,k,x,u::us,h,l,b,hb=>by
  simp only [aE] at hb
  cases hc:lE (Dt p.1 k) p.2 x.1 with
  |none=>rw [hc] at hb;exact nf hD hw0 aC r (k+1) x.2 us h.2 l b hb
  |some c=>
   rw [hc] at hb
   simp only [jh,Au] at hb
   split at hb
   ·rename_i e;subst e
    simp only [Aa] at hb;subst hb
    exact Abx hD hw0 (aC _) h.1 hc
   ·exact nf hD hw0 aC r (k+1) x.2 us h.2 l b hb
theorem JB {S:Nat->Prop} {π0:Pi} {gv:Nat->Prop} {iY:Pi} (aB: ∀l,π l=(π0 l).map full): ∀(cs:List (Bool×CK)) (k:Nat) (x:Ins.den cs) (us:List Value),k+cs.length<100000->fK w (λb=>Ux π0 b\/S b) π0 k cs x us->(∀l b,Au (aE k cs x) l=some b->Au H l=some b)->
  Km ⟨w,S,gv,iY⟩ w π H (cF k cs x) us
 | [],_,_,[],_,_,_=>trivial
 | [],_,_,_::_,_,h,_=>h.elim
 |_::_,_,_,[],_,h,_=>h.elim
 |p::r,k,x,u::us,hk,h,hH=>by
  simp only [Aw] at hk
  refine ⟨?_,JB aB r (k+1) x.2 us (by omega) h.2 λl b hb=>hH l b (YC hk hb)⟩
  have h1:=h.1
  have hh: ∀b,lE (Dt p.1 k) p.2 x.1=some b->Au H (Dt p.1 k)=some b:= λb hb=>hH _ b (by simp only [aE];rw [hb];simp [jh,Au])
  have l7:=aB (Dt p.1 k)
  obtain ⟨io,c⟩:=p
  dsimp only at h1 hh l7⊢
  generalize x.1=y at*
  cases c with
  |Em τ=>
   show Cw w _ τ u y
   cases hf:τ.flat with
   |true=>exact Cw.flat hf h1.2
   |false=>
    refine h1.2.Iv λb _ hb=>?_
    rcases hb with ⟨l,q,h3,h4⟩|hb|⟨hb,_⟩
    ·rw [aB l] at h3
     cases hp:π0 l with
     |none=>rw [hp] at h3;cases h3
     |some q0=>rw [hp] at h3;simp only [Am,Aa] at h3;subst h3;exact .inl ⟨l,q0,hp,h4⟩
    ·exact .inr hb
    ·cases hb
  |row e te=>exact ⟨_,e.size,List.length y,hh _ rfl,rfl,by simp,by rw [l7];exact aK h1.1⟩
  |Hp e te=>exact ⟨_,e.size,List.length y,hh _ rfl,rfl,by simp,by rw [l7];exact aK h1.1⟩
  |part e te=>exact ⟨_,e.size,List.length y.1,hh _ rfl,rfl,h1.1.2,by rw [l7];exact aK h1.1.1⟩
  |Bp e te kp=>exact ⟨_,1,List.length y,hh _ rfl,rfl,by simp,by rw [l7];exact aK h1.1⟩
theorem qM {p:Real} {s off len:Nat} {u:Value} {f:Nat->Prop} (h:Ib (some p) s off len u):Ib (some ⟨p.g,p.o+off,p.cap-off,f,f⟩) s 0 len u:=by
 obtain ⟨ad,h1,h2,h3⟩:=h
 exact ⟨ad,h1,by dsimp only;omega,λh0=>by dsimp only at h0;simpa using h3 (by omega)⟩
theorem wk {α:Type} {xs:List α} {off len i:Nat} {x:α} (h:((xs.drop off).take len)[i]?=some x):xs[off+i]?=some x:=by
 rw [Da] at h
 split at h
 ·rw [Cz] at h;exact h
 ·cases h
theorem Yk.part {P:Nat->Prop} {g o:Nat} {cur:Array Value} {e:Ty} {xs:List e.den} (off len:Nat) (h:Yk w P g o cur e xs):Yk w P g (o+off) cur e ((xs.drop off).take len):=by
 obtain ⟨Fs,t1,t2,t3,t4⟩:=h
 refine ⟨(Fs.drop off).take len,by simp [t1],Cd.2 ⟨λhm=>(Cd.1 t2).1 (Td off len _ hm),nv off len (Cd.1 t2).2⟩,λb hb=>t3 b (Td off len b hb),λi x F hx hF=>?_⟩
 obtain ⟨es,k1,k2,k3⟩:=t4 (off+i) x F (wk hx) (wk hF)
 exact ⟨es,k1,λj u hu=>by rw [Gv o off i];exact k2 j u hu,k3⟩
theorem YR {st:St} (h:Nf X w π st.heap) {c:CK} (hg: ∀e te kp,c≠ .Bp e te kp) {a:AC} {u:Value} (hu:Hk X w π st.heap a u) {x:c.den} {ls:List Nat} (he:lK st c a=some (x,ls)):
  ∃r,fI w (λb=>Ux π b\/X.Sc b) r u c x/\ ∀q,r=some q-> ∃l p,ls= [l]/\π l=some p/\(∀b,q.Cx b->p.cl b)/\(c.isX=false-> ∀b,q.Cx b->p.Cx b):=by
 have VB: ∀ {f:Bool} (b:Nat),(Ux π b\/X.Sc b)->Dd X.w0.heap.size X.Sc π f b:= λb h=>h.imp id .inl
 cases c with
 |Em τ=>
  simp only [lK] at he
  split at he
  ·rename_i hf
   cases hv:Dv st τ a with
   |none=>rw [hv] at he;cases he
   |some p=>
    obtain ⟨fr,y⟩:=p
    rw [hv] at he
    simp only [Am,Aa,Ae] at he
    obtain ⟨rfl,rfl⟩:=he
    refine ⟨none,⟨rfl,?_⟩,λq hq=>by cases hq⟩
    have Iv: ∀f,Cw w (Dd X.w0.heap.size X.Sc π f) τ u y->Cw w (λb=>Ux π b\/X.Sc b) τ u y:= λf hr=>hr.Iv λk _ hk=>VB k hk
    cases a with
    |data f Oq z=>
     rw [Od] at hv
     split at hv
     ·rename_i ht;subst ht
      simp only [Aa,Ae] at hv
      obtain ⟨_,rfl⟩:=hv
      exact Iv f hu
     ·have Uk:τ.Aq=false:=by unfold jk at hv;split at hv<;>first|rfl|cases hv
      exact Iv _ ⟨[u],dY hv hu,by simp [Cf,Uk]⟩
    |Lm=>
     have hu:u= .slice none 0 0:=hu
     subst hu
     cases τ<;>simp only [Dv,Aa,Ae,reduceCtorEq] at hv
     ·obtain ⟨_,rfl⟩:=hv;exact ⟨[_],⟨none,0,0,rfl,rfl,Ao _, .inl rfl⟩,rfl⟩
     ·obtain ⟨_,rfl⟩:=hv;exact ⟨[_], .inl ⟨rfl,0,rfl⟩,rfl⟩
    |Vo=>
     have hu:u= .pointer none:=hu
     subst hu
     cases τ<;>simp only [Dv,Aa,Ae,reduceCtorEq] at hv
     obtain ⟨_,rfl⟩:=hv;exact ⟨[_], .inl ⟨rfl,rfl⟩,rfl⟩
    |_=>cases τ<;>simp [AC.settled,Ty.flat,Dv] at hf hv
  ·cases he
 |row e te=>
  cases a<;>simp only [lK] at he<;>try (cases he;done)
  ·simp only [Aa,Ae] at he
   obtain ⟨rfl,rfl⟩:=he
   have hu:u= .slice none 0 0:=hu
   exact ⟨none,⟨⟨hu,rfl,rfl⟩,rfl⟩,λq hq=>by cases hq⟩
  ·rename_i l off len
   split at he
   ·rename_i fr tr e' Rv xs hl
    split at he
    ·rename_i hc
     obtain ⟨rfl,rfl⟩:=hc
     simp only [Aa,Ae] at he
     obtain ⟨rfl,rfl⟩:=he
     unfold St.at at hl
     obtain ⟨h1,h2⟩:=Oy hu hl
     have hb:=(h.heap l).Qs hl
     simp only [Cm,Ke] at hb
     have hlen:((xs.drop off).take len).length=len:=by simp;omega
     cases hp:π l with
     |none=>
      rw [hp] at h2 hb
      obtain ⟨rfl,rfl,rfl⟩:=h2
      exact ⟨none,⟨⟨rfl,rfl,by simp⟩,by show (xs.drop 0).take 0= [];simp⟩,λq hq=>by cases hq⟩
     |some p=>
      rw [hp] at h2 hb
      obtain ⟨k1,cur,ti,k2,k3,k4,k5,k6,_⟩:=hb
      have ho:=h2
      obtain ⟨ad,_,vz,_⟩:=h2
      refine ⟨some ⟨p.g,p.o+off,p.cap-off,p.Cx,p.Cx⟩,⟨by rw [hlen];exact qM ho,⟨k1.1,k1.2.1⟩,cur,ti,k2,by rw [k3];congr 1;dsimp only;omega,by dsimp only;omega,by rw [hlen];dsimp only;omega,λi y hy=>?_⟩,
       fun q hq=>by cases hq;exact ⟨l,p,rfl,hp,λb hb=>h.sub l p b hp hb,λ_ b hb=>hb⟩⟩
      obtain ⟨es,g1,g2,g3⟩:=k6 (off+i) y (wk hy)
      exact ⟨es,g1,λj u hu=>by dsimp only;rw [Gv p.o off i];exact g2 j u hu,Cells.Fg (Ao _) (λ_ _ _=>rfl) (λb _ hb=>VB b hb) e' es y g3⟩
    ·cases he
   ·cases he
 |Hp e te=>
  cases a<;>simp only [lK] at he<;>try (cases he;done)
  ·simp only [Aa,Ae] at he
   obtain ⟨rfl,rfl⟩:=he
   have hu:u= .slice none 0 0:=hu
   exact ⟨none,⟨⟨hu,rfl,rfl⟩,rfl⟩,λq hq=>by cases hq⟩
  ·rename_i l off len
   split at he
   ·rename_i fr tr e' Rv xs hl
    split at he
    ·rename_i hc
     obtain ⟨rfl,rfl,hf⟩:=hc
     simp only [Aa,Ae] at he
     obtain ⟨rfl,rfl⟩:=he
     unfold St.at at hl
     obtain ⟨h1,h2⟩:=Oy hu hl
     have hb:=(h.heap l).Qs hl
     simp only [Cm,Ke] at hb
     have hlen:((xs.drop off).take len).length=len:=by simp;omega
     cases hp:π l with
     |none=>
      rw [hp] at h2 hb
      obtain ⟨rfl,rfl,rfl⟩:=h2
      exact ⟨none,⟨⟨rfl,rfl,by simp⟩,by show (xs.drop 0).take 0= [];simp⟩,λq hq=>by cases hq⟩
     |some p=>
      rw [hp] at h2 hb
      obtain ⟨k1,cur,ti,k2,k3,k4,k5,k6,k7⟩:=hb
      have ho:=h2
      obtain ⟨ad,_,vz,_⟩:=h2
      have ht:Yk w p.cl p.g p.o cur e' xs:=by
       simp only [Kj] at hf
       rcases hf with hf|hf
       ·exact k7 hf
       ·exact oq hf k6
      exact ⟨some ⟨p.g,p.o+off,p.cap-off,p.cl,p.cl⟩,⟨by rw [hlen];exact qM ho,h.sub l p _ hp k1.1,cur,ti,k2,by rw [k3];congr 1;dsimp only;omega,by dsimp only;omega,by rw [hlen];dsimp only;omega,ht.part off len⟩,
       fun q hq=>by cases hq;exact ⟨l,p,rfl,hp,λb hb=>hb,λhx=>by cases hx⟩⟩
    ·cases he
   ·rename_i e' Rv xs hl
    split at he
    ·rename_i hc
     obtain ⟨rfl,rfl⟩:=hc
     simp only [Aa,Ae] at he
     obtain ⟨rfl,rfl⟩:=he
     unfold St.at at hl
     obtain ⟨h1,h2⟩:=cN hu hl
     have hb:=(h.heap l).Qs hl
     simp only [Cm,Of] at hb
     have hlen:((xs.drop off).take len).length=len:=by simp;omega
     cases hp:π l with
     |none=>
      rw [hp] at h2 hb
      obtain ⟨rfl,rfl,rfl⟩:=h2
      exact ⟨none,⟨⟨rfl,rfl,by simp⟩,by show (xs.drop 0).take 0= [];simp⟩,λq hq=>by cases hq⟩
     |some p=>
      rw [hp] at h2 hb
      obtain ⟨k1,cur,ti,k2,k3,k4,k5,ht⟩:=hb
      have ho:=h2
      obtain ⟨ad,_,vz,_⟩:=h2
      exact ⟨some ⟨p.g,p.o+off,p.cap-off,p.Cx,p.Cx⟩,⟨by rw [hlen];exact qM ho,k1,cur,ti,k2,by rw [k3];congr 1;dsimp only;omega,by dsimp only;omega,by rw [hlen];dsimp only;omega,ht.part off len⟩,
       fun q hq=>by cases hq;exact ⟨l,p,rfl,hp,λb hb=>h.sub l p b hp hb,λ_ b hb=>hb⟩⟩
    ·cases he
   ·cases he
 |part e te=>cases a<;>simp [lK] at he
 |Bp e te kp=>exact absurd rfl (hg e te kp)
theorem Ae7 {st:St} (h:Nf X w π st.heap) {c:CK} {a:AC} {u:Value} (hu:Hk X w π st.heap a u) {x:c.den} {ls:List Nat} (he:lK st c a=some (x,ls)):
  ∃r,fI w (λb=>Ux π b\/X.Sc b) r u c x/\(∀q,r=some q-> ∃l p,ls= [l]/\π l=some p/\(∀b,q.Cx b->p.cl b)/\(c.isX=false-> ∀b,q.Cx b->p.Cx b))/\
   (∀l off len e te rows out kp,a= .own l off len->Au st.heap l=some (.Bp e te rows out kp)->r=π l):=by
 have xE:(∀e te kp,c≠ .Bp e te kp)->(∀l off len e te rows out kp,a=AC.own l off len->Au st.heap l=some (OB.Bp e te rows out kp)->False)->
   ∃r,fI w (λb=>Ux π b\/X.Sc b) r u c x/\(∀q,r=some q-> ∃l p,ls= [l]/\π l=some p/\(∀b,q.Cx b->p.cl b)/\(c.isX=false-> ∀b,q.Cx b->p.Cx b))/\
   (∀l off len e te rows out kp,a= .own l off len->Au st.heap l=some (.Bp e te rows out kp)->r=π l):= λh1 h2=>by
  obtain ⟨r,g1,g2⟩:=YR h h1 hu he
  exact ⟨r,g1,g2,λl off len e te rows out kp h3 h4=>(h2 l off len e te rows out kp h3 h4).elim⟩
 cases c with
 |Em τ=>
  refine xE (λ_ _ _ h=>by cases h) λl off len e te rows out kp h3 h4=>?_
  subst h3
  simp only [lK] at he
  split at he
  ·rename_i hf
   cases τ<;>simp [AC.settled,Ty.flat,Dv] at hf he
  ·cases he
 |row e te=>
  refine xE (λ_ _ _ h=>by cases h) λl off len e te rows out kp h3 h4=>?_
  subst h3
  simp only [lK,St.at,h4] at he
  cases he
 |Hp e te=>
  refine xE (λ_ _ _ h=>by cases h) λl off len e te rows out kp h3 h4=>?_
  subst h3
  simp only [lK,St.at,h4] at he
  cases he
 |part e te=>cases a<;>simp [lK] at he
 |Bp e te kp=>
  cases a<;>simp only [lK] at he<;>try (cases he;done)
  rename_i l off len
  split at he
  ·rename_i e' Rv rows kp' hl
   split at he
   ·rename_i hc
    obtain ⟨rfl,rfl,rfl,rfl⟩:=hc
    simp only [Aa,Ae] at he
    obtain ⟨rfl,rfl⟩:=he
    unfold St.at at hl
    obtain ⟨b,sz,n,h1,h2,_,h3⟩:=hu
    rw [hl] at h1;cases h1
    simp only [OB.row,Aa,Ae] at h2
    obtain ⟨rfl,rfl⟩:=h2
    have hb:=((h.heap l).Qs hl).1
    refine ⟨π l,⟨h3,bd.Iv hb λb hb=>hb.imp id .inl⟩,λq hq=>⟨l,q,rfl,hq,λb hb=>h.sub l q b hq hb,λ_ b hb=>hb⟩,λl' Bd3 Bcw _ _ _ _ _ he _=>?_⟩
    simp only [AC.own.injEq] at he
    rw [he.1]
   ·cases he
  ·cases he
theorem Ji.congr {D:Nat->Prop} {ρ ρ':Pi} : ∀(cs:List CK) (k:Nat) (x:CKs.den cs) (us:List Value),(∀j,k<=j->ρ' (Jw j)=ρ (Jw j))->Ji w D ρ k cs x us->Ji w D ρ' k cs x us
 | [],_,_,[],_,h=>h
 | [],_,_,_::_,_,h=>h.elim
 |_::_,_,_,[],_,h=>h.elim
 |c::r,k,x,u::us,he,h=>⟨by rw [he k (Ao _)];exact h.1,Ji.congr r (k+1) x.2 us (λj hj=>he j (by omega)) h.2⟩
theorem zR {st:St} (h:Nf X w π st.heap): ∀(cs:List CK) (k:Nat) (as:List AC) (us:List Value) (x:CKs.den cs) (ls:List Nat),Km X w π st.heap as us->Wc st cs as=some (x,ls)->ls.Nodup->
  ∃ρ:Pi,Ji w (λb=>Ux π b\/X.Sc b) ρ k cs x us/\(∀l q,ρ l=some q-> ∃j,k<=j/\j<k+cs.length/\l=Jw j)/\(∀l q b,ρ l=some q->q.Cx b-> ∃l0∈ls,∃p,π l0=some p/\p.cl b/\((cs.all λc=>!c.isX)=true->p.Cx b))/\
   (∀l l' q q' b,ρ l=some q->ρ l'=some q'->q.Cx b->q'.Cx b->l=l')/\
   (∀(j l off len:Nat) e te rows out kp,as[j]?=some (.own l off len)->Au st.heap l=some (.Bp e te rows out kp)->ρ (Jw (k+j))=π l)
 | [],k,[],[],x,ls,_,he,_=>by
  simp only [Wc,Aa,Ae] at he
  exact ⟨λ_=>none,trivial,(λl q h=>by cases h),(λl q b h=>by cases h),(λl l' q q' b h=>by cases h),λj l off len e te rows out kp h=>by simp at h⟩
 | [],_,[],_::_,_,_,h,_,_=>h.elim
 | [],_,_::_,_,_,_,_,he,_=>by simp [Wc] at he
 |_::_,_,[],_,_,_,_,he,_=>by simp [Wc] at he
 |_::_,_,_::_,[],_,_,h,_,_=>h.elim
 |c::r,k,a::as,u::us,x,ls,hr,he,VG=>by
  simp only [Wc] at he
  split at he
  ·rename_i x1 t1 x2 t2 h1 h2
   simp only [Aa,Ae] at he
   obtain ⟨rfl,rfl⟩:=he
   obtain ⟨n1,n2,n3⟩:=Cv.1 VG
   obtain ⟨ρ,g1,g2,g3,g4,g5⟩:=zR h r (k+1) as us x2 t2 hr.2 h2 n2
   obtain ⟨rr,r1,r2,r3⟩:=Ae7 h hr.1 h1
   have HN: ∀l q q0 b,ρ l=some q->rr=some q0->q.Cx b->q0.Cx b->False:= λl q q0 b h3 h4 h5 h6=>by
    obtain ⟨l0,m0,p,p1,p2,_⟩:=g3 l q b h3 h5
    obtain ⟨l1,p',e1,p1',p2',_⟩:=r2 q0 h4
    have:=h.inj l0 l1 p p' b p1 p1' p2 (p2' b h6)
    exact n3 l1 (by rw [e1];simp) l0 m0 this.symm
   refine ⟨λl=>if l=Jw k then rr else ρ l,⟨by simpa using r1,Ji.congr r (k+1) x2 us (λj hj=>Ag (by unfold Jw;omega)) g1⟩,λl q hq=>?_,λl q b hq hb=>?_,λl l' q q' b h3 h4 h5 h6=>?_,λj l off len e te rows out kp hj hl=>?_⟩
   ·dsimp only at hq
    by_cases e:l=Jw k
    ·exact ⟨k,Ao _,by simp,e⟩
    ·rw [Ag e] at hq
     obtain ⟨j,j1,j2,j3⟩:=g2 l q hq
     exact ⟨j,by omega,by simp;omega,j3⟩
   ·dsimp only at hq
    by_cases e:l=Jw k
    ·rw [Ab e] at hq
     obtain ⟨l1,p',e1,p1',p2',p3'⟩:=r2 q hq
     exact ⟨l1,by rw [e1];simp,p',p1',p2' b hb,λhx=>p3' (by simp only [Ie,Af,Ei] at hx;exact hx.1) b hb⟩
    ·rw [Ag e] at hq
     obtain ⟨l0,m0,p,p1,p2,p3⟩:=g3 l q b hq hb
     exact ⟨l0,Bx _ m0,p,p1,p2,λhx=>p3 (by simp only [Ie,Af] at hx;exact hx.2)⟩
   ·dsimp only at h3 h4
    by_cases e:l=Jw k<;>by_cases e':l'=Jw k
    ·rw [e,e']
    ·rw [Ab e] at h3;rw [Ag e'] at h4
     exact (HN l' q' q b h4 h3 h6 h5).elim
    ·rw [Ag e] at h3;rw [Ab e'] at h4
     exact (HN l q q' b h3 h4 h5 h6).elim
    ·rw [Ag e] at h3;rw [Ag e'] at h4
     exact g4 l l' q q' b h3 h4 h5 h6
   ·rcases j with _|j
    ·simp only [Ca,Aa] at hj
     show (if Jw k=Jw k then rr else ρ (Jw k))=π l
     rw [Ab rfl]
     exact r3 l off len e te rows out kp hj hl
    ·have:=g5 j l off len e te rows out kp (by simpa using hj) hl
     show (if Jw (k+(j+1))=Jw k then rr else ρ (Jw (k+(j+1))))=π l
     rw [Ag (by unfold Jw;omega),<-this,show k+(j+1)=k+1+j by omega]
  ·cases he
theorem LR {r r':Option Real} (h:ck (r.map full) r') {e:Ty} {xs:List e.den} {te:TypeId} {fr tr:Bool} (ha:Ke X w π r' fr tr e te xs):Ts w (λb=>Ux π b\/X.Sc b) r e xs:=by
 cases r with
 |none=>cases r' with
  |none=>exact ha
  |some q=>exact h.elim
 |some p=>cases r' with
  |none=>exact h.elim
  |some q=>
   obtain ⟨e1,e2,e3,e4⟩:=h
   obtain ⟨k1,cur,ti,k2,k3,k4,k5,k6,_⟩:=ha
   have e1:p.g=q.g:=e1
   have e2:p.o=q.o:=e2
   have e3:p.cap=q.cap:=e3
   refine ⟨⟨by rw [e1];exact (e4 _).2 k1.1,λb hb=>by rw [e1];exact k1.2.1 b ((e4 b).1 hb)⟩,cur,ti,by rw [e1];exact k2,by rw [e2,e3];exact k3,by rw [e3];exact k4,by rw [e3];exact k5,λi y hy=>?_⟩
   obtain ⟨es,g1,g2,g3⟩:=k6 i y hy
   exact ⟨es,g1,by rw [e2];exact g2,Cells.Fg (Ao _) (λ_ _ _=>rfl) (λb _ hb=>hb.imp id .inl) e es y g3⟩
theorem ZS {r r':Option Real} (h:ck (r.map full) r') {e:Ty} {xs:List e.den} {te:TypeId} (ha:Of w r' e te xs):Of w r e te xs:=by
 cases r with
 |none=>cases r' with
  |none=>exact ha
  |some q=>exact h.elim
 |some p=>cases r' with
  |none=>exact h.elim
  |some q=>
   obtain ⟨e1,e2,e3,e4⟩:=h
   obtain ⟨k1,cur,ti,k2,k3,k4,k5,Fs,t1,t2,t3,t4⟩:=ha
   have e1:p.g=q.g:=e1
   have e2:p.o=q.o:=e2
   have e3:p.cap=q.cap:=e3
   exact ⟨by rw [e1];exact (e4 _).2 k1,cur,ti,by rw [e1];exact k2,by rw [e2,e3];exact k3,by rw [e3];exact k4,by rw [e3];exact k5,Fs,t1,by rw [e1];exact t2,λb hb=>(e4 b).2 (t3 b hb),by rw [e2];exact t4⟩
theorem Vj {st:St} {π0:Pi} {D:Nat->Prop} {w0:World} (h:Nf X w π st.heap) (aC: ∀l,X.iY l=(π0 l).map full): ∀(cs:List (Bool×CK)) (k:Nat) (x:Ins.den cs) (us:List Value) (o:IOs.den cs),fK w0 D π0 k cs x us->Pc st k cs=some o->
  Ma w (λb=>Ux π b\/X.Sc b) π0 k cs o/\ ∀l∈Qi k cs,Au st.heap l≠none
 | [],_,_,_,_,_,_=>⟨trivial,λl hl=>by cases hl⟩
 |_::_,_,_,[],_,h,_=>h.elim
 |(false,c)::r,k,x,u::us,o,hi,he=>Vj h aC r (k+1) x.2 us o hi.2 (by simpa only [Pc] using he)
 |(true, .Em τ)::r,k,x,u::us,o,hi,he=>Vj h aC r (k+1) x.2 us o hi.2 (by simpa only [Pc] using he)
 |(true, .Bp e te kp)::r,k,x,u::us,o,hi,he=>Vj h aC r (k+1) x.2 us o hi.2 (by simpa only [Pc] using he)
 |(true, .row e te)::r,k,x,u::us,o,hi,he=>by
  simp only [Pc] at he
  split at he
  ·rename_i x1 x2 h1 h2
   simp only [Aa] at he;subst he
   obtain ⟨g1,g2⟩:=Vj h aC r (k+1) x.2 us x2 hi.2 h2
   have h0:=hi.1
   simp only [rH] at h1
   split at h1
   ·rename_i fr tr e' Rv xs hl
    split at h1
    ·rename_i hc
     obtain ⟨rfl,rfl⟩:=hc
     simp only [Aa] at h1;subst h1
     unfold St.at at hl
     have hs:=h.iY (Dt true k) (by have:=bY k;omega) (by rw [hl];simp)
     rw [aC] at hs
     exact ⟨⟨LR (te:=Rv) hs ((h.heap _).Qs hl),g1⟩,λl Kp=>by
      simp only [Qi] at Kp
      rcases Be.1 Kp with rfl|Kp
      ·rw [hl];simp
      ·exact g2 l Kp⟩
    ·cases h1
   ·cases h1
  ·cases he
 |(true, .part e te)::r,k,x,u::us,o,hi,he=>by
  simp only [Pc] at he
  split at he
  ·rename_i x1 x2 h1 h2
   simp only [Aa] at he;subst he
   obtain ⟨g1,g2⟩:=Vj h aC r (k+1) x.2 us x2 hi.2 h2
   have h0:=hi.1
   simp only [rH] at h1
   split at h1
   ·rename_i fr tr e' Rv xs hl
    split at h1
    ·rename_i hc
     obtain ⟨rfl,rfl⟩:=hc
     simp only [Aa] at h1;subst h1
     unfold St.at at hl
     have hs:=h.iY (Dt true k) (by have:=bY k;omega) (by rw [hl];simp)
     rw [aC] at hs
     exact ⟨⟨LR (te:=Rv) hs ((h.heap _).Qs hl),g1⟩,λl Kp=>by
      simp only [Qi] at Kp
      rcases Be.1 Kp with rfl|Kp
      ·rw [hl];simp
      ·exact g2 l Kp⟩
    ·cases h1
   ·cases h1
  ·cases he
 |(true, .Hp e te)::r,k,x,u::us,o,hi,he=>by
  simp only [Pc] at he
  split at he
  ·rename_i x1 x2 h1 h2
   simp only [Aa] at he;subst he
   obtain ⟨g1,g2⟩:=Vj h aC r (k+1) x.2 us x2 hi.2 h2
   simp only [rH] at h1
   split at h1
   ·rename_i e' Rv xs hl
    split at h1
    ·rename_i hc
     obtain ⟨rfl,rfl⟩:=hc
     simp only [Aa] at h1;subst h1
     unfold St.at at hl
     have hs:=h.iY (Dt true k) (by have:=bY k;omega) (by rw [hl];simp)
     rw [aC] at hs
     exact ⟨⟨ZS (te:=Rv) hs ((h.heap _).Qs hl),g1⟩,λl Kp=>by
      simp only [Qi] at Kp
      rcases Be.1 Kp with rfl|Kp
      ·rw [hl];simp
      ·exact g2 l Kp⟩
    ·cases h1
   ·cases h1
  ·cases he
theorem yc {p:Bool×CK} {r:List (Bool×CK)} (h:aJ (p::r)=true):aJ r=true:=by
 rcases p with ⟨_|_,c⟩<;>cases c<;>first|(simp [aJ] at h;done)|simpa [aJ] using h
theorem zF: ∀(cs:List (Bool×CK)) (k:Nat) (x:Ins.den cs) (l:Nat),aJ cs=true->k+cs.length<100000->Au (aE k cs x) l≠none-> ¬l<Bn->l∈Qi k cs
 | [],_,_,_,_,_,h,_=>absurd rfl h
 |(io,c)::r,k,x,l,hng,hk,h,hp=>by
  simp only [Aw] at hk
  simp only [aE] at h
  have tail:Au (aE (k+1) r x.2) l≠none->l∈Qi (k+1) r:= λh=>zF r (k+1) x.2 l (yc hng) (by omega) h hp
  have sub: ∀m,m∈Qi (k+1) r->m∈Qi k ((io,c)::r):= λm hm=>by
   cases io<;>cases c<;>simp only [Qi]<;>first|exact hm|exact Ar _ hm
  cases hc:lE (Dt io k) c x.1 with
  |none=>rw [hc] at h;exact sub l (tail h)
  |some b=>
   rw [hc] at h
   simp only [jh,Au] at h
   split at h
   ·rename_i e;subst e
    cases io with
    |false=>exact absurd (gF (by omega)) hp
    |true=>cases c with
     |Em τ=>cases hc
     |row e te=>simp [Qi]
     |Hp e te=>simp [Qi]
     |part e te=>simp [Qi]
     |Bp e te kp=>simp [aJ] at hng
   ·exact sub l (tail h)
theorem fI.Iv {D D':Nat->Prop} (hD: ∀b,D' b->D b) {r:Option Real} {u:Value} {c:CK} {x:c.den} (h:fI w D r u c x):fI w D' r u c x:=by
 cases c with
 |Em τ=>exact ⟨h.1,h.2.Iv λb _ hb=>hD b hb⟩
 |row e te=>exact ⟨h.1,Ts.Iv h.2 hD⟩
 |Hp e te=>exact h
 |part e te=>exact ⟨h.1,h.2.1,Ts.Iv h.2.2 hD⟩
 |Bp e te kp=>exact ⟨h.1,bd.Iv h.2 hD⟩
theorem Ji.Iv {D D':Nat->Prop} (hD: ∀b,D' b->D b) {ρ:Pi} : ∀(cs:List CK) (k:Nat) (x:CKs.den cs) (us:List Value),Ji w D ρ k cs x us->Ji w D' ρ k cs x us
 | [],_,_,[],h=>h
 | [],_,_,_::_,h=>h.elim
 |_::_,_,_,[],h=>h.elim
 |_c::r,k,x,_u::us,h=>⟨h.1.Iv hD,Ji.Iv hD r (k+1) x.2 us h.2⟩
theorem Ma.Iv {D D':Nat->Prop} (hD: ∀b,D' b->D b) {π:Pi} : ∀(cs:List (Bool×CK)) (k:Nat) (x:IOs.den cs),Ma w D π k cs x->Ma w D' π k cs x
 | [],_,_,h=>h
 |(false,_)::r,k,x,h=>Ma.Iv hD r (k+1) x h
 |(true, .Em _)::r,k,x,h=>Ma.Iv hD r (k+1) x h
 |(true, .Bp _ _ _)::r,k,x,h=>Ma.Iv hD r (k+1) x h
 |(true, .row _e _te)::r,k,x,h=>⟨Ts.Iv h.1 hD,Ma.Iv hD r (k+1) x.2 h.2⟩
 |(true, .Hp _e _te)::r,k,x,h=>⟨h.1,Ma.Iv hD r (k+1) x.2 h.2⟩
 |(true, .part _e _te)::r,k,x,h=>⟨Ts.Iv h.1 hD,Ma.Iv hD r (k+1) x.2 h.2⟩
theorem fK.congr {D:Nat->Prop} {π0 cY:Pi} : ∀(cs:List (Bool×CK)) (k:Nat) (x:Ins.den cs) (us:List Value),(∀b j,k<=j->j<k+cs.length->cY (Dt b j)=π0 (Dt b j))->fK w D π0 k cs x us->fK w D cY k cs x us
 | [],_,_,[],_,h=>h
 | [],_,_,_::_,_,h=>h
 |_::_,_,_,[],_,h=>h
 |p::r,k,x,u::us,hp,h=>⟨by rw [hp p.1 k (Ao _) (by simp)];exact h.1,fK.congr r (k+1) x.2 us (λb j h1 h2=>hp b j (by omega) (by simp;omega)) h.2⟩
theorem Ma.congr {D:Nat->Prop} {π0 cY:Pi} : ∀(cs:List (Bool×CK)) (k:Nat) (x:IOs.den cs),(∀b j,k<=j->j<k+cs.length->cY (Dt b j)=π0 (Dt b j))->Ma w D π0 k cs x->Ma w D cY k cs x
 | [],_,_,_,h=>h
 |(false,c)::r,k,x,hp,h=>by cases c<;>exact Ma.congr r (k+1) x (λb j h1 h2=>hp b j (by omega) (by simp;omega)) h
 |(true, .Em _)::r,k,x,hp,h=>Ma.congr r (k+1) x (λb j h1 h2=>hp b j (by omega) (by simp;omega)) h
 |(true, .Bp _ _ _)::r,k,x,hp,h=>Ma.congr r (k+1) x (λb j h1 h2=>hp b j (by omega) (by simp;omega)) h
 |(true, .row e te)::r,k,x,hp,h=>⟨by rw [hp true k (Ao _) (by simp)];exact h.1,Ma.congr r (k+1) x.2 (λb j h1 h2=>hp b j (by omega) (by simp;omega)) h.2⟩
 |(true, .Hp e te)::r,k,x,hp,h=>⟨by rw [hp true k (Ao _) (by simp)];exact h.1,Ma.congr r (k+1) x.2 (λb j h1 h2=>hp b j (by omega) (by simp;omega)) h.2⟩
 |(true, .part e te)::r,k,x,hp,h=>⟨by rw [hp true k (Ao _) (by simp)];exact h.1,Ma.congr r (k+1) x.2 (λb j h1 h2=>hp b j (by omega) (by simp;omega)) h.2⟩
theorem Es.congr {π0 cY:Pi} : ∀(cs:List (Bool×CK)) (k:Nat) (o:IOs.den cs) (n:Nat) (us as:List Value),(∀b j,k<=j->j<k+cs.length->cY (Dt b j)=π0 (Dt b j))->Es π0 k cs o n us as->Es cY k cs o n us as
 | [],k,o,0,us,as,_,h=>by simpa [Es] using h
 | [],k,o,n+1,us,as,_,h=>by simp [Es] at h
 |p::r,k,o,0,us,as,_,h=>by
  rcases p with ⟨_|_,c⟩<;>cases c<;>simpa [Es] using h
 |(true, .Em _)::r,k,o,n+1,us,as,_,h=>by simp [Es] at h
 |(true, .part _ _)::r,k,o,n+1,us,as,_,h=>by simp [Es] at h
 |(true, .Bp _ _ _)::r,k,o,n+1,us,as,_,h=>by simp [Es] at h
 |(true, .row e te)::r,k,o,n+1,[],as,_,h=>by simp [Es] at h
 |(true, .Hp e te)::r,k,o,n+1,[],as,_,h=>by simp [Es] at h
 |(true, .row e te)::r,k,o,n+1,u::us,as,hp,h=>by
  simp only [Es] at h⊢
  exact ⟨by rw [hp true k (Ao _) (by simp)];exact h.1,Es.congr r (k+1) o.2 n us as (λb j h1 h2=>hp b j (by omega) (by simp;omega)) h.2⟩
 |(true, .Hp e te)::r,k,o,n+1,u::us,as,hp,h=>by
  simp only [Es] at h⊢
  exact ⟨by rw [hp true k (Ao _) (by simp)];exact h.1,Es.congr r (k+1) o.2 n us as (λb j h1 h2=>hp b j (by omega) (by simp;omega)) h.2⟩
 |(false,c)::r,k,o,n+1,[],as,_,h=>by cases c<;>simp [Es] at h
 |(false,c)::r,k,o,n+1,u::us,[],_,h=>by cases c<;>simp [Es] at h
 |(false,c)::r,k,o,n+1,u::us,a::as,hp,h=>by
  have h:u=a/\Es π0 (k+1) r o n us as:=by cases c<;>exact h
  have:=Es.congr r (k+1) o n us as (λb j h1 h2=>hp b j (by omega) (by simp;omega)) h.2
  cases c<;>exact ⟨h.1,this⟩
theorem rW: ∀(A B:List (Nat×OB)) (l:Nat),Au (A++B) l=match Au A l with|some b=>some b|none=>Au B l
 | [],B,l=>rfl
 |(k,b)::A,B,l=>by
  simp only [Mo,Au]
  split
  ·rfl
  ·exact rW A B l
theorem wc {st:St} : ∀(cs:List CK) (as:List AC) (x:CKs.den cs) (ls:List Nat),Wc st cs as=some (x,ls)-> ∀l∈ls,∃b,Au st.heap l=some b/\b.row≠none
 | [],[],x,ls,he=>by
  simp only [Wc,Aa,Ae] at he
  obtain ⟨_,rfl⟩:=he
  intro l hl;cases hl
 | [],_::_,_,_,he=>by simp [Wc] at he
 |_::_,[],_,_,he=>by simp [Wc] at he
 |c::r,a::as,x,ls,he=>by
  simp only [Wc] at he
  split at he
  ·rename_i x1 t1 x2 t2 h1 h2
   simp only [Aa,Ae] at he
   obtain ⟨_,rfl⟩:=he
   intro l hl
   rcases Az.1 hl with hl|hl
   ·unfold lK at h1
    split at h1
    ·split at h1
     ·cases hv:Dv st _ a with
      |none=>rw [hv] at h1;cases h1
      |some p=>rw [hv] at h1;simp only [Am,Aa,Ae] at h1;obtain ⟨_,rfl⟩:=h1;cases hl
     ·cases h1
    all_goals (repeat' split at h1)
    all_goals first|(cases h1;done)|skip
    all_goals (simp only [Aa,Ae] at h1;obtain ⟨_,rfl⟩:=h1)
    all_goals first|(cases hl;done)|skip
    all_goals (have hl:=Ad.1 hl;subst hl)
    all_goals (rename_i heq _;exact ⟨_,heq,by simp [OB.row]⟩)
   ·exact wc r as x2 t2 h2 l hl
  ·cases he
theorem sl {r r':Option Real} {sz off len:Nat} {v:Value} (h:ck r r') (hv:Ib r' sz off len v):Ib r sz off len v:=by
 cases r<;>cases r'<;>first|exact h.elim|skip
 ·exact hv
 ·obtain ⟨h1,h2,h3,_⟩:=h
  obtain ⟨ad,g1,g2,g3⟩:=hv
  exact ⟨ad,by rw [h3];exact g1,by rw [h3];exact g2,by rw [h1,h2,h3];exact g3⟩
theorem a6 {st:St} {π0:Pi} (hs: ∀k,Au st.heap (Dt true k)≠none->ck ((π0 (Dt true k)).map full) (π (Dt true k))):
  ∀(cs:List (Bool×CK)) (k:Nat) (vs:List AC) (us:List Value) (bc:List AC) (o:IOs.den cs),Km X w π st.heap vs us->Jm k cs vs=some bc->jL st vs cs->Pc st k cs=some o->
   ∃bv,Km X w π st.heap bc bv/\bv.length=wC cs vs.length/\ ∀tl,Es π0 k cs o vs.length us (bv++tl)
 |cs,k,[],us,bc,o,hr,he,_,_=>by
  have e1:us= []:=by cases us with|nil=>rfl|cons u us=>exact hr.elim
  have e2:bc= []:=by rcases cs with _|⟨⟨_|_,c⟩,r⟩<;>simpa [Jm] using he.symm
  subst e1;subst e2
  refine ⟨[],trivial,?_,λtl=>?_⟩
  ·rcases cs with _|⟨⟨_|_,c⟩,r⟩<;>rfl
  ·rcases cs with _|⟨⟨_|_,c⟩,r⟩<;>(try cases c)<;>simp [Es]
 | [],k,a::vs,us,bc,o,hr,he,_,_=>by simp [Jm] at he
 |p::r,k,a::vs,[],bc,o,hr,_,_,_=>hr.elim
 |(false,c)::r,k,a::vs,u::us,bc,o,hr,he,hk,ho=>by
  have he:(Jm (k+1) r vs).map (λl=>a::l)=some bc:=by cases a<;>exact he
  cases hb:Jm (k+1) r vs with
  |none=>rw [hb] at he;cases he
  |some bc'=>
   rw [hb] at he
   simp only [Am,Aa] at he;subst he
   obtain ⟨bv,g1,g2,g3⟩:=a6 hs r (k+1) vs us bc' o hr.2 hb (by cases a<;>exact hk) (by cases c<;>simpa only [Pc] using ho)
   refine ⟨u::bv,⟨hr.1,g1⟩,by simp [wC,g2],λtl=>?_⟩
   have:=g3 tl
   cases c<;>exact ⟨rfl,this⟩
 |(true,c)::r,k,a::vs,u::us,bc,o,hr,he,hk,ho=>by
  cases c with
  |Em τ=>cases a<;>simp [Jm] at he
  |part e te=>cases a<;>simp [Jm] at he
  |Bp e te kp=>cases a<;>simp [Jm] at he
  |row e te=>
   cases a<;>first|(simp [Jm] at he;done)|skip
   rename_i l off len
   simp only [Jm] at he
   split at he
   rotate_left
   ·cases he
   rename_i hl
   have hl:l=Dt true k:=Jr hl
   subst hl
   obtain ⟨⟨rfl,hlen⟩,hk⟩:=hk
   obtain ⟨b,sz,n,h1,h2,h3,h4⟩:=hr.1
   have IY:=hs k (by rw [h1];simp)
   simp only [Pc] at ho
   split at ho
   ·rename_i x1 x2 q1 q2
    simp only [Aa] at ho;subst ho
    obtain ⟨bv,g1,g2,g3⟩:=a6 hs r (k+1) vs us bc x2 hr.2 he hk q2
    refine ⟨bv,g1,by simpa [wC] using g2,λtl=>?_⟩
    refine ⟨?_,g3 tl⟩
    simp only [rH] at q1
    split at q1
    ·rename_i fr tr e' Rv xs Kp
     split at q1
     ·rename_i hc
      obtain ⟨rfl,rfl⟩:=hc
      simp only [Aa] at q1;subst q1
      unfold St.at at Kp hlen
      rw [Kp] at hlen
      rw [h1] at Kp;cases Kp
      simp only [OB.row,Aa,Ae] at h2
      obtain ⟨rfl,rfl⟩:=h2
      have hlen:len=List.length xs:=hlen
      have:=sl IY h4
      rw [hlen] at this
      have e0:(π0 (Dt true k)).map full=(π0 (Dt true k)).map full:=rfl
      cases hp:π0 (Dt true k)<;>(rw [hp] at this;exact this)
     ·cases q1
    ·cases q1
   ·cases ho
  |Hp e te=>
   cases a<;>first|(simp [Jm] at he;done)|skip
   rename_i l off len
   simp only [Jm] at he
   split at he
   rotate_left
   ·cases he
   rename_i hl
   have hl:l=Dt true k:=Jr hl
   subst hl
   obtain ⟨⟨rfl,hlen⟩,hk⟩:=hk
   obtain ⟨b,sz,n,h1,h2,h3,h4⟩:=hr.1
   have IY:=hs k (by rw [h1];simp)
   simp only [Pc] at ho
   split at ho
   ·rename_i x1 x2 q1 q2
    simp only [Aa] at ho;subst ho
    obtain ⟨bv,g1,g2,g3⟩:=a6 hs r (k+1) vs us bc x2 hr.2 he hk q2
    refine ⟨bv,g1,by simpa [wC] using g2,λtl=>?_⟩
    refine ⟨?_,g3 tl⟩
    simp only [rH] at q1
    split at q1
    ·rename_i e' Rv xs Kp
     split at q1
     ·rename_i hc
      obtain ⟨rfl,rfl⟩:=hc
      simp only [Aa] at q1;subst q1
      unfold St.at at Kp hlen
      rw [Kp] at hlen
      rw [h1] at Kp;cases Kp
      simp only [OB.row,Aa,Ae] at h2
      obtain ⟨rfl,rfl⟩:=h2
      have hlen:len=List.length xs:=hlen
      have:=sl IY h4
      rw [hlen] at this
      cases hp:π0 (Dt true k)<;>(rw [hp] at this;exact this)
     ·cases q1
    ·cases q1
   ·cases ho
def Asw (s:MSpec) (g:Nat) (π:Pi):Pi:= λl=>if s.ptr.isSome=true/\l=Pn then some ⟨g,0,0,λb=>b=g,λb=>b=g⟩ else π l
def Apf (P:Program) (s:MSpec) (fn:Func) (x:Ins.den s.ins) (w:World) (S:Nat->Prop) (π:Pi) (g:Nat) (r:CKs.den s.outs) (o:IOs.den s.ins) (a':Act) (w':World):Prop:=
 ∃(v:Value) (Rw:List Value) (ρ:Pi),a'.defers= []/\(results fn a'.tmps).run P w'= .ok v w'/\rD s w' ρ (Rw.drop s.Rt) v/\iZ s π w' g Rw o/\He w.heap.size (λb=>Ux π b\/s.gv g b) w w'/\Ma w' (iL S π ρ) π 0 s.ins o/\Ji w' (iL S π ρ) ρ 0 s.outs r Rw/\
  fL ρ (λb=>b<w'.heap.size/\(w.heap.size<=b\/ ∃l q,l<Bn/\π l=some q/\q.Cx b))/\(∀l,(∀k,k<s.Us->l≠Jw k)->ρ l=none)/\(∀kj∈s.keeps,zc w w' (π (Dt false kj.1)) (ρ (Jw kj.2)) (s.Fg x))
theorem Ji.Ac0 {D:Nat->Prop} {ρ ρ':Pi} : ∀(cs:List CK) (k:Nat) (x:CKs.den cs) (us:List Value),(∀j,k<=j->j<k+cs.length->ρ' (Jw j)=ρ (Jw j))->Ji w D ρ k cs x us->Ji w D ρ' k cs x us
 | [],_,_,[],_,h=>h
 | [],_,_,_::_,_,h=>h.elim
 |_::_,_,_,[],_,h=>h.elim
 |c::r,k,x,u::us,he,h=>⟨by rw [he k (Ao _) (by simp)];exact h.1,Ji.Ac0 r (k+1) x.2 us (λj hj hl=>he j (by omega) (by simp;omega)) h.2⟩
theorem zI {st:St} {n:Nat} {as:List AC} : ∀ {ks:List (Nat×Nat)},zH st n as ks-> ∀kj∈ks,∃l off len e te rows out p,as[kj.2]?=some (.own l off len)/\Au st.heap l=some (.Bp e te rows out (some p))/\p.1=Dt false kj.1/\n<=p.2/\kj.1<1000
 | [],_,kj,hm=>by cases hm
 |(k,j)::r,h,kj,hm=>by
  simp only [zH] at h
  rcases Be.1 hm with rfl|hm
  ·obtain ⟨h,_⟩:=h
   split at h
   ·rename_i l off len he
    split at h
    ·rename_i e te rows out p hl
     unfold St.at at hl
     exact ⟨l,off,len,e,te,rows,out,p,he,hl,h.1,h.2.1,by simpa using h.2.2⟩
    ·exact h.elim
   ·exact h.elim
  ·exact zI h.2 kj hm
theorem zQ {st:St} : ∀(cs:List CK) (as:List AC) (x:CKs.den cs) (ls:List Nat),Wc st cs as=some (x,ls)->as.length=cs.length
 | [],[],_,_,_=>rfl
 | [],_::_,_,_,he=>by simp [Wc] at he
 |_::_,[],_,_,he=>by simp [Wc] at he
 |c::r,a::as,x,ls,he=>by
  simp only [Wc] at he
  split at he
  ·rename_i h1 h2
   simp only [Aw,zQ r as _ _ h2]
  ·cases he
theorem LP {α β:Type} (f:α->Sem β): ∀(l:List α) (vs:List β),vs.length=l.length->(∀(i:Nat) a v,l[i]?=some a->vs[i]?=some v->(f a).run P w= .ok v w)->(l.mapM f).run P w= .ok vs w
 | [],[],_,_=>by simp
 | [],_::_,h,_=>by simp at h
 |_::_,[],h,_=>by simp at h
 |a::l,v::vs,h,hr=>by
  rw [List.mapM_cons]
  simp only [Sem.run_bind,hr 0 a v rfl rfl,Result.andThen_ok,LP f l vs (by simpa using h) (λi a' v' ha hv=>hr (i+1) a' v' (by simpa using ha) (by simpa using hv)),Sem.run_pure]
theorem xM (hT:Ed P T) (Ph:Kk P Γ) (hm:P.follows .mixedOrders=true) {f:FuncId} {fn:Func} (hf:P.funcs[f]?=some fn) (s:MSpec) (w:World) (S:Nat->Prop) (π:Pi) (us:List Value) (x:Ins.den s.ins)
  (r:CKs.den s.outs) (o:IOs.den s.ins) (g:Nat) (nW:List Value) (Rp:pY s w g us nW) (hSg:s.ptr.isSome=true->S g) (jD:fK w (λb=>Ux π b\/S b) π 0 s.ins x us) (l7:fL π (λb=>b<w.heap.size)) (hS: ∀b,S b->b<w.heap.size/\ ¬Ux π b) (Ace: ∀l,Au (aE 0 s.ins x) l=none->π l=none) (he:Aj6 T Γ s fn x λz=>z=(r,o)):
  Calls P f nW.toArray w λe w'=> ∃v Rw ρ,e= .returned v/\rD s w' ρ (Rw.drop s.Rt) v/\iZ s π w' g Rw o/\He w.heap.size (λb=>Ux π b\/s.gv g b) w w'/\Ma w' (iL S π ρ) π 0 s.ins o/\Ji w' (iL S π ρ) ρ 0 s.outs r Rw/\
   fL ρ (λb=>b<w'.heap.size/\(w.heap.size<=b\/ ∃l q,l<Bn/\π l=some q/\q.Cx b))/\(∀l,(∀k,k<s.Us->l≠Jw k)->ρ l=none)/\(∀kj∈s.keeps,zc w w' (π (Dt false kj.1)) (ρ (Jw kj.2)) (s.Fg x)):=by
 obtain ⟨hlen,c,hb,he⟩:=he
 simp only [Af,Nm] at hlen
 obtain ⟨hlen,Ach⟩:=hlen
 unfold EA at Ach
 simp only [Af] at Ach
 have Aqi:=Ach.1
 let sO:Pi:=Asw s g π
 let Sg:Nat->Prop:= λb=>S b/\ ¬s.gv g b
 have hvl: ∀b j,j<1000->Dt b j≠Pn:= λb j hj=>by cases b<;>(unfold Dt Pn;simp;omega)
 have CH: ∀b j,0<=j->j<0+s.ins.length->sO (Dt b j)=π (Dt b j):= λb j _ hj=>Ag λh=>hvl b j (by omega) h.2
 have Ak2: ∀b j,0<=j->j<0+s.ins.length->π (Dt b j)=sO (Dt b j):= λb j h1 h2=>(CH b j h1 h2).symm
 have Amo:Au (aE 0 s.ins x) Pn=none:=Bw λhn=>by
  obtain ⟨b,j,_,h2,h3⟩:=vJ s.ins 0 x Pn hn
  exact hvl b j (by omega) h3.symm
 have Aag: ∀l q,sO l=some q->(π l=some q/\(s.ptr.isSome=true->l≠Pn))\/(s.ptr.isSome=true/\l=Pn/\q=⟨g,0,0,λb=>b=g,λb=>b=g⟩):= λl q hq=>by
  have hq:(if s.ptr.isSome=true/\l=Pn then some ⟨g,0,0,λb=>b=g,λb=>b=g⟩ else π l)=some q:=hq
  split at hq
  ·rename_i hc;exact .inr ⟨hc.1,hc.2,(Ba hq).symm⟩
  ·rename_i hc;exact .inl ⟨hq,λh1 h2=>hc ⟨h1,h2⟩⟩
 have aB: ∀b,Ux sO b↔Ux π b\/s.gv g b:= λb=>by
  constructor
  ·rintro ⟨l,q,h1,h2⟩
   rcases Aag l q h1 with ⟨h3,_⟩|⟨h3,h4,rfl⟩
   ·exact .inl ⟨l,q,h3,h2⟩
   ·exact .inr ⟨h3,h2⟩
  ·rintro (⟨l,q,h1,h2⟩|⟨h1,rfl⟩)
   ·refine ⟨l,q,?_,h2⟩
    show (if s.ptr.isSome=true/\l=Pn then _ else π l)=some q
    rw [Ag]
    ·exact h1
    ·rintro ⟨_,rfl⟩
     rw [Ace Pn Amo] at h1;cases h1
   ·exact ⟨Pn,⟨b,0,0,λc=>c=b,λc=>c=b⟩,Ab ⟨h1,rfl⟩,rfl⟩
 have hgS: ∀b,s.gv g b->S b:= λb ⟨h1,h2⟩=>h2▸hSg h1
 have Alv:fK w (λb=>Ux sO b\/Sg b) sO 0 s.ins x us:=fK.congr s.ins 0 x us CH (fK.Iv (λb hb=>by
  rcases hb with hb|hb
  ·rcases (aB b).1 hb with hb|hb
   ·exact .inl hb
   ·exact .inr (hgS b hb)
  ·exact .inr hb.1) s.ins 0 x us jD)
 have Aqn:fL sO (λb=>b<w.heap.size):=⟨λl q b h1 h2=>by
  rcases Aag l q h1 with ⟨h3,_⟩|⟨h3,h4,rfl⟩
  ·exact l7.bj l q b h3 h2
  ·exact (hS b (hgS b ⟨h3,h2⟩)).1,λl l' q q' b h1 h2 h3 h4=>by
  rcases Aag l q h1 with ⟨h5,_⟩|⟨h5,h6,rfl⟩<;>rcases Aag l' q' h2 with ⟨h7,_⟩|⟨h7,h8,rfl⟩
  ·exact l7.inj l l' q q' b h5 h7 h3 h4
  ·exact absurd ⟨l,q,h5,h3⟩ (hS b (hgS b ⟨h7,h4⟩)).2
  ·exact absurd ⟨l',q',h7,h4⟩ (hS b (hgS b ⟨h5,h3⟩)).2
  ·rw [h6,h8]⟩
 have Av2: ∀b,Sg b->b<w.heap.size/\ ¬Ux sO b:= λb hb=>⟨(hS b hb.1).1,λho=>((aB b).1 ho).elim (hS b hb.1).2 hb.2⟩
 have VD: ∀l,Au (s8 s x) l=match Au (aE 0 s.ins x) l with|some b=>some b|none=>if l=Pn then s.ptr.map λp=> .var p.1 ((cF 0 s.ins x).take p.2) else none:= λl=>by
  unfold s8
  cases hp:s.ptr with
  |none=>cases Au (aE 0 s.ins x) l<;>simp
  |some p=>
   simp only
   rw [rW]
   cases Au (aE 0 s.ins x) l with
   |some b=>rfl
   |none=>
    simp only [Au,Am]
    by_cases e:l=Pn
    ·rw [Ab e,Ab e.symm]
    ·rw [Ag e,Ag (λh=>e h.symm)]
 let π0:Pi:= λl=>(sO l).map full
 have un: ∀l q,π0 l=some q-> ∃q0,sO l=some q0/\q=full q0:= λl q hq=>by
  have hq:(sO l).map full=some q:=hq
  cases hp:sO l with
  |none=>rw [hp] at hq;cases hq
  |some q0=>rw [hp] at hq;exact ⟨q0,rfl,(Ba hq).symm⟩
 have Ack: ∀l b,Au (aE 0 s.ins x) l=some b->Au (s8 s x) l=some b:= λl b hb=>by rw [VD l,hb]
 have hrc:Km ⟨w,Sg,Ux sO,π0⟩ w π0 (s8 s x) (cF 0 s.ins x) us:=JB (λ_=>rfl) s.ins 0 x us (by omega) Alv Ack
 have Ad8:s.ptr.isSome=true->π0 Pn=some ⟨g,0,0,λb=>b=g,λb=>b=g⟩:= λhp=>by
  show (if s.ptr.isSome=true/\Pn=Pn then _ else π Pn).map full=_
  rw [Ab ⟨hp,rfl⟩];rfl
 obtain ⟨g1,g2⟩:(bn s (cF 0 s.ins x)).length=nW.length/\ ∀(i:Nat) c v,(bn s (cF 0 s.ins x))[i]?=some c->nW[i]?=some v->Bs ⟨w,Sg,Ux sO,π0⟩ w π0 (s8 s x) c v:=by
  unfold pY at Rp
  cases hp:s.ptr with
  |none=>
   rw [hp] at Rp
   obtain ⟨rfl,OE⟩:=Rp
   obtain ⟨g1,g2,_,_⟩:=bU s.Ja _ us OE hrc
   rw [show bn s (cF 0 s.ins x)=Tw s.Ja (cF 0 s.ins x) by unfold bn;rw [hp]]
   exact ⟨g1,g2⟩
  |some p=>
   rw [hp] at Rp
   obtain ⟨rfl,OE,_⟩:=Rp
   obtain ⟨g1,g2,_,_⟩:=bU s.Ja _ (us.drop p.2) OE (Km.take p.2 hrc).2
   rw [show bn s (cF 0 s.ins x)= .at (.Gy Pn 0)::Tw s.Ja ((cF 0 s.ins x).drop p.2) by unfold bn;rw [hp]]
   refine ⟨by simp [g1],λi c v h1 h2=>?_⟩
   rcases i with _|i
   ·simp only [Ca,Aa] at h1 h2
    subst h1;subst h2
    exact ⟨_,p.1,(cF 0 s.ins x).take p.2,by rw [VD,Amo];simp [hp],Ad8 (by rw [hp];rfl),rfl⟩
   ·exact g2 i c v (by simpa using h1) (by simpa using h2)
 have h0:Rel ⟨w,Sg,Ux sO,π0⟩ {tmps:=bn s (cF 0 s.ins x)++List.replicate (fn.ntmps-(bn s (cF 0 s.ins x)).length) .undef,heap:=s8 s x}
   {tmps:=nW.toArray++Array.replicate (fn.ntmps-nW.toArray.size) undef,defers:= []} w:=by
  refine ⟨π0,⟨He.refl _ _ _,λb hb=>Av2 b hb,λl q b h1 h2=>?_,λl q b h1 h2=>?_,λl l' q q' b h1 h2 h3 h4=>?_,λl _ _=>ck.rfl' _,λl=>?_⟩,⟨by simp [g1],rfl,λt=>?_⟩⟩
  ·obtain ⟨q0,_,rfl⟩:=un l q h1;exact h2
  ·obtain ⟨q0,h3,rfl⟩:=un l q h1
   exact ⟨.inr ⟨l,q0,h3,h2⟩,Aqn.bj l q0 b h3 h2⟩
  ·obtain ⟨q0,h5,rfl⟩:=un l q h1
   obtain ⟨q0',h6,rfl⟩:=un l' q' h2
   exact Aqn.inj l l' q0 q0' b h5 h6 h3 h4
  ·cases hh:Au (aE 0 s.ins x) l with
   |none=>
    by_cases hv:s.ptr.isSome=true/\l=Pn
    ·obtain ⟨hps,rfl⟩:=hv
     obtain ⟨p,hp⟩:=iV.1 hps
     refine Gk.Lu (b:= .var p.1 ((cF 0 s.ins x).take p.2)) ?_ (by rw [VD,hh];simp [hp])
     unfold pY at Rp
     rw [hp] at Rp
     obtain ⟨_,_,h1,h2,h3⟩:=Rp
     rw [Ad8 hps]
     exact ⟨_,rfl,rfl,_,h2,Km.to (Km.take p.2 hrc).1 h3⟩
    ·refine Gk.Vc ?_ ?_
     ·show (if s.ptr.isSome=true/\l=Pn then _ else π l).map full=none
      rw [Ag hv,Ace l hh];rfl
     ·rw [VD,hh]
      simp only
      split
      ·rename_i e
       cases hp:s.ptr with
       |none=>rfl
       |some p=>exact absurd ⟨by rw [hp];rfl,e⟩ hv
      ·rfl
   |some b=>exact Gk.Lu (nf (π0:=sO) (λb hb=>by
    rcases hb with ⟨l,q,h1,h2⟩|hb|⟨hb,_⟩
    ·obtain ⟨q0,h3,rfl⟩:=un l q h1;exact .inl ⟨l,q0,h3,h2⟩
    ·exact .inr hb
    ·cases hb) rfl (λ_=>rfl) s.ins 0 x us Alv l b hh) (Ack l b hh)
  ·show Bs _ w _ _ ((bn s (cF 0 s.ins x)++List.replicate _ AV.undef).getD t .undef) ((nW.toArray++Array.replicate _ undef).getD t undef)
   by_cases ht:t<nW.length
   ·rw [Aj,At (by omega),<-Aj]
    rw [da,Uh (by simpa using ht)]
    have:=g2 t _ _ (Ac (by omega)) (Ac ht)
    simpa [Aj,Ac ht,Ac (show t<(bn s (cF 0 s.ins x)).length by omega)] using this
   ·have:(bn s (cF 0 s.ins x)++List.replicate (fn.ntmps-(bn s (cF 0 s.ins x)).length) AV.undef).getD t .undef= .undef:=by
     rw [Aj,As (by omega)]
     rw [Zy]
     split<;>rfl
    rw [this];trivial
 have fin: ∀(st:St) (a':Act) (w':World),Abg T s fn x st (λz=>z=(r,o))->Rel ⟨w,Sg,Ux sO,π0⟩ st a' w'->Apf P s fn x w S π g r o a' w':=by
  intro st a' w' ta hrel
  obtain ⟨cY,h'⟩:=hrel
  have Ak7:Bn<=Pn:=by unfold Bn Pn;omega
  obtain ⟨bc,rV,Ax2,hbc⟩: ∃bc,lp T s fn x st bc (λz=>z=(r,o))/\(s.ptr.isSome=true-> ∃b,Au st.heap Pn=some b/\b.row=none)/\
    (Pc st 0 s.ins=some o-> ∃bv,Km ⟨w,Sg,Ux sO,π0⟩ w' cY st.heap bc bv/\bv.length=s.Rt/\ ∀tl,iZ s π w' g (bv++tl) o):=by
   unfold Abg at ta
   cases hp:s.ptr with
   |none=>
    rw [hp] at ta
    exact ⟨[],ta,λh=>by simp at h,λ_=>⟨[],trivial,by simp [MSpec.Rt,hp],λtl=>by simp [iZ,hp]⟩⟩
   |some p=>
    rw [hp] at ta
    obtain ⟨vs,cs,h1,h2,h3,h4,h5⟩:=ta
    unfold St.at at h1
    refine ⟨cs,h5,λ_=>⟨_,h1,rfl⟩,λCF=>?_⟩
    obtain ⟨q,k1,k2,cur,k3,k4⟩:=(h'.1.heap Pn).Qs h1
    have hsv:ck (π0 Pn) (cY Pn):=h'.1.iY Pn Ak7 (by rw [h1];simp)
    rw [Ad8 (by rw [hp];rfl),k1] at hsv
    have hqg:g=q.g:=hsv.1
    obtain ⟨bv,g1,g2,g3⟩:=a6 (π0:=sO) (λk hk=>h'.1.iY _ (Nat.le_of_not_lt (bY k)) hk) s.ins 0 vs cur.toList cs o (Km.of k4) h3 h4 CF
    refine ⟨bv,g1,by rw [g2,h2];simp [MSpec.Rt,hp],λtl=>?_⟩
    unfold iZ
    rw [hp]
    refine ⟨cur.toList,by rw [hqg];simpa using k3,λu hu=>?_,Es.congr s.ins 0 o p.2 _ _ Ak2 (h2▸g3 tl)⟩
    obtain ⟨i,hi,rfl⟩:=Cl.1 hu
    have hl:=k4.1
    obtain ⟨u',h6,h7,_⟩:=k4.2 i (vs[i]'(by omega)) (Ac _)
    rw [Ac hi] at h6
    rw [Ba h6];exact h7
  unfold lp at rV
  split at rV
  ·exact rV.elim
  rename_i l hl
  split at rV
  ·exact rV.elim
  rename_i as ml aD
  split at rV
  rotate_left
  ·exact rV.elim
  rename_i r' ls o' PZ rU
  obtain ⟨Ju,zz,hro⟩:=rV
  simp only [Af,Nm] at Ju
  obtain ⟨⟨⟨VG,Bb5⟩,Az8⟩,Aqd⟩:=Ju
  simp only [Ae] at hro
  obtain ⟨rfl,rfl⟩:=hro
  obtain ⟨bv,hbv,Avf,Avc⟩:=hbc rU
  have PX:=Za VG
  obtain ⟨n1,n2,n3⟩:=Cv.1 PX
  obtain ⟨m1,m2,m3⟩:=Cv.1 n1
  obtain ⟨vs,v1,v2,v3,v4⟩:=Zc hT h' _ _ hl
  have hrs:fn.results=fn.results.toList.toArray:=Array.toArray_toList.symm
  have Vl: ∀v,(if h:vs.toArray.size=1 then vs.toArray[0] else .tuple vs.toArray)=v->(results fn a'.tmps).run P w'= .ok v w':=by
   intro v hv
   rw [gE,hrs,List.mapM_toArray]
   simp only [map_eq_pure_bind,bind_assoc,pure_bind]
   simp only [Sem.run_bind,LP (SJ a'.tmps) _ vs v1 v3,Result.andThen_ok,Sem.run_pure]
   rw [hv]
  obtain ⟨xG,v,qm,Awy,hv,hqm⟩: ∃xG v qm,Km ⟨w,Sg,Ux sO,π0⟩ w' cY st.heap as xG/\(results fn a'.tmps).run P w'= .ok v w'/\
    ((s.rp=none/\ml= []/\qm=none/\Aen s.Hb s.Fu xG v/\bO s.Fu xG)\/
     ∃tid m q,s.rp=some tid/\ml= [m]/\m<Bn/\qm=some q/\cY m=some q/\q.Cx q.g/\w'.heap[q.g]?=some (.cells (s.hd xG).toArray tid (0,0))/\(∀u∈s.hd xG,u.oneCell'=true)/\uo s (.pointer (some ⟨q.g,0,none⟩)) xG v):=by
   unfold SI at aD
   split at aD
   ·rename_i IU
    split at aD
    rotate_left
    ·cases aD
    rename_i hmul
    cases mc:ungroup s.Fu l with
    |none=>rw [mc] at aD;cases aD
    |some as'=>
     rw [mc] at aD
     simp only [Am,Aa,Ae] at aD
     obtain ⟨rfl,rfl⟩:=aD
     obtain ⟨xG,e1,e2,e3⟩:=Wm s.Fu l vs as' (by omega) v4 mc
     have hv: ∃v,(results fn a'.tmps).run P w'= .ok v w'/\Aen s.Hb s.Fu xG v:=by
      unfold Aen
      rw [<-e1,hmul]
      rcases Nat.lt_or_ge 1 l.length with h1|h1
      ·have CE:Nat.blt 1 l.length=true:=by simpa using h1
       simp only [CE,Pv]
       refine ⟨.tuple vs.toArray,Vl _ ?_,rfl⟩
       rw [dif_neg (by simp;omega)]
      ·have CE:Nat.blt 1 l.length=false:=by rw [<-Ir];simpa using h1
       simp only [CE,Dj,Ul]
       rcases vs with _|⟨v,_|⟨v',vs⟩⟩
       ·exact ⟨_,Vl _ (by simp;rfl), .inr rfl⟩
       ·exact ⟨v,Vl _ (by simp), .inl rfl⟩
       ·exfalso;simp only [Aw] at v1;omega
     obtain ⟨v,hv1,hv2⟩:=hv
     exact ⟨xG,v,none,e3,hv1, .inl ⟨IU,rfl,rfl,hv2,e2⟩⟩
   ·rename_i tid IU
    split at aD
    ·rename_i IV
     have hd: ∀us:List Value,s.hd us=us:= λus=>by unfold MSpec.hd;rw [IV]
     split at aD
     rotate_left
     ·cases aD
     rename_i m i
     split at aD
     rotate_left
     ·cases aD
     rename_i Tm vs' hm
     split at aD
     rotate_left
     ·cases aD
     rename_i hc
     obtain ⟨rfl,rfl,hmp⟩:=hc
     simp only [Aa,Ae] at aD
     obtain ⟨rfl,rfl⟩:=aD
     unfold St.at at hm
     rcases vs with _|⟨v,_|⟨v',vs⟩⟩
     ·exfalso;simp only [Aw,Ex] at v1 v2;omega
     ·obtain ⟨q,Axr,vs2,q1,q2,q3⟩:=v4 0 _ v rfl rfl
      rw [hm] at q1;cases q1
      obtain ⟨q',k1,k2,cur,k3,k4⟩:=(h'.1.heap m).Qs hm
      rw [q2] at k1;cases k1
      refine ⟨cur.toList,v,some q,Km.of k4,Vl _ (by simp), .inr ⟨_,m,q,IU,rfl,by simpa using hmp,rfl,q2,k2,by rw [hd];simpa using k3,λu hu=>?_,by unfold uo;rw [IV];exact q3⟩⟩
      rw [hd] at hu
      obtain ⟨i,hi,rfl⟩:=Cl.1 hu
      have hl:=k4.1
      obtain ⟨u',h6,h7,_⟩:=k4.2 i (vs'[i]'(by omega)) (Ac _)
      rw [Ac hi] at h6
      rw [Ba h6];exact h7
     ·exfalso;simp only [Aw,Ex] at v1 v2;omega
    ·rename_i n IV
     split at aD
     rotate_left
     ·cases aD
     rename_i m i x rr
     split at aD
     rotate_left
     ·cases aD
     rename_i Tm vs' hm
     split at aD
     rotate_left
     ·cases aD
     rename_i hc
     obtain ⟨rfl,rfl,hmp,hvn⟩:=hc
     cases mc:ungroup s.Fu (x::rr) with
     |none=>rw [mc] at aD;cases aD
     |some as'=>
     rw [mc] at aD
     simp only [Am,Aa,Ae] at aD
     obtain ⟨rfl,rfl⟩:=aD
     unfold St.at at hm
     rcases vs with _|⟨v,_|⟨v',vs⟩⟩
     ·exfalso;simp only [Aw,Ex] at v1 v2;omega
     ·exfalso;simp only [Aw,Ex] at v1 v2;omega
     ·obtain ⟨q,Axr,vs2,q1,q2,q3⟩:=v4 0 _ v rfl rfl
      rw [hm] at q1;cases q1
      obtain ⟨q',k1,k2,cur,k3,k4⟩:=(h'.1.heap m).Qs hm
      rw [q2] at k1;cases k1
      obtain ⟨us1,e1,e2,e3⟩:=Wm s.Fu (x::rr) (v'::vs) as' (by simp only [Aw] at v1 v2⊢;omega) (λi c u hc hu=>v4 (i+1) c u (by rw [Hf];exact hc) (by rw [Hf];exact hu)) mc
      have Ox:cur.toList.length=n:=by have:=k4.1;have h8:cur.toList.length=cur.size:=Nt;omega
      have hd:s.hd (cur.toList++us1)=cur.toList:=by unfold MSpec.hd;rw [IV];exact List.take_left' Ox
      have htl:s.tl (cur.toList++us1)=us1:=by unfold MSpec.tl;rw [IV];exact List.drop_left' Ox
      refine ⟨cur.toList++us1, .tuple (v::v'::vs).toArray,some q,Km.append (Km.of k4) e3,Vl _ (by rw [dif_neg (by simp)]), .inr ⟨_,m,q,IU,rfl,by simpa using hmp,rfl,q2,k2,by rw [hd];simpa using k3,λu hu=>?_,?_⟩⟩
      ·rw [hd] at hu
       obtain ⟨i,hi,rfl⟩:=Cl.1 hu
       have hl:=k4.1
       have h8:cur.toList.length=cur.size:=Nt
       obtain ⟨u',h6,h7,_⟩:=k4.2 i (vs'[i]'(by omega)) (Ac _)
       rw [Ac hi] at h6
       rw [Ba h6];exact h7
      ·unfold uo
       rw [IV]
       dsimp only
       rw [htl]
       exact ⟨by rw [<-e1,<-q3],e2⟩
  obtain ⟨GK,p1,p2,p3,p4,p5⟩:=zR h'.1 s.outs 0 (bc++as) (bv++xG) r' ls (hbv.append Awy) PZ m2
  obtain ⟨io1,io2⟩:=Vj (π0:=sO) h'.1 (λ_=>rfl) s.ins 0 x us o' Alv rU
  have Aq1:(bv++xG).drop s.Rt=xG:=by rw [<-Avf];simp
  let ρ:Pi:= λl0=>if l0=Jw s.outs.length then qm else GK l0
  have Amt:ρ (Jw s.outs.length)=qm:=Ab rfl
  have Arj: ∀l0,l0≠Jw s.outs.length->ρ l0=GK l0:= λl0 h=>Ag h
  have Ari: ∀j,j<s.outs.length->ρ (Jw j)=GK (Jw j):= λj hj=>Arj _ (by unfold Jw;omega)
  have xA: ∀l0 q,ρ l0=some q->(l0=Jw s.outs.length/\qm=some q)\/(l0≠Jw s.outs.length/\GK l0=some q):= λl0 q h=>by
   by_cases e:l0=Jw s.outs.length
   ·subst e;rw [Amt] at h;exact .inl ⟨rfl,h⟩
   ·rw [Arj l0 e] at h;exact .inr ⟨e,h⟩
  have Aqs: ∀q,qm=some q-> ∃m,ml= [m]/\m<Bn/\cY m=some q:= λq hq=>by
   rcases hqm with ⟨_,_,h1,_⟩|⟨_,m,q',_,h1,h2,h3,h4,_⟩
   ·rw [h1] at hq;cases hq
   ·rw [h3] at hq;cases hq;exact ⟨m,h1,h2,h4⟩
  have p3': ∀l0 q b,ρ l0=some q->q.Cx b-> ∃l1∈ml++ls,∃p,cY l1=some p/\p.cl b/\((s.outs.all λc=>!c.isX)=true->p.Cx b)/\((l1∈ls)\/l1<Bn):= λl0 q b h1 h2=>by
   rcases xA l0 q h1 with ⟨_,h3⟩|⟨_,h3⟩
   ·obtain ⟨m,e1,e2,e3⟩:=Aqs q h3
    exact ⟨m,by rw [e1];simp,q,e3,h'.1.sub m q b e3 h2,λ_=>h2, .inr e2⟩
   ·obtain ⟨l1,g1,p,g2,g3,g4⟩:=p3 l0 q b h3 h2
    exact ⟨l1,Bx _ g1,p,g2,g3,g4, .inl g1⟩
  have p4': ∀l0 l1 q q' b,ρ l0=some q->ρ l1=some q'->q.Cx b->q'.Cx b->l0=l1:= λl0 l1 q q' b h1 h2 h3 h4=>by
   have HN: ∀l0 q q' b,GK l0=some q->qm=some q'->q.Cx b->q'.Cx b->False:= λl0 q q' b h1 h2 h3 h4=>by
    obtain ⟨m,e1,e2,e3⟩:=Aqs q' h2
    obtain ⟨l1,g1,p,g2,g3,_⟩:=p3 l0 q b h1 h3
    have:=h'.1.inj m l1 q' p b e3 g2 (h'.1.sub m q' b e3 h4) g3
    exact m3 m (by rw [e1];simp) l1 g1 this
   rcases xA l0 q h1 with ⟨e1,h5⟩|⟨e1,h5⟩<;>rcases xA l1 q' h2 with ⟨e2,h6⟩|⟨e2,h6⟩
   ·rw [e1,e2]
   ·exact (HN l1 q' q b h6 h5 h4 h3).elim
   ·exact (HN l0 q q' b h5 h6 h3 h4).elim
   ·exact p4 l0 l1 q q' b h5 h6 h3 h4
  have VK: ∀l0 q,Bn<=l0->sO l0=some q->Au st.heap l0≠none/\(l0∈Qi 0 s.ins\/ ∃b,Au st.heap l0=some b/\b.row=none):= λl0 q h1 h2=>by
   rcases Aag l0 q h2 with ⟨h3,_⟩|⟨h3,rfl,_⟩
   ·have CF:=zF s.ins 0 x l0 Aqi (by omega) (λhnn=>by rw [Ace l0 hnn] at h3;cases h3) (by omega)
    exact ⟨io2 l0 CF, .inl CF⟩
   ·obtain ⟨b,h4,h5⟩:=Ax2 h3
    exact ⟨by rw [h4];simp, .inr ⟨b,h4,h5⟩⟩
  have hDO:(s.outs.all λc=>!c.isX)=true-> ∀b,iL Sg sO ρ b->Ux cY b\/Sg b:=by
   intro hx b hb
   rcases hb with hb|⟨l0,q,h1,h2,h3⟩|⟨l0,q,h1,h2⟩
   ·exact .inr hb
   ·have hs:=h'.1.iY l0 h1 (VK l0 q h1 h2).1
    have hs:ck ((sO l0).map full) (cY l0):=hs
    rw [h2] at hs
    cases zA:cY l0 with
    |none=>rw [zA] at hs;exact hs.elim
    |some q1=>rw [zA] at hs;exact .inl ⟨l0,q1,zA,(hs.2.2.2 b).1 h3⟩
   ·obtain ⟨m,_,p,hm2,_,hm4,_⟩:=p3' l0 q b h1 h2
    exact .inl ⟨m,p,hm2,hm4 hx⟩
  have hDD: ∀b,iL S π ρ b->iL Sg sO ρ b:= λb hb=>by
   rcases hb with hb|⟨l0,q,h1,h2,h3⟩|hb
   ·by_cases zw:s.gv g b
    ·obtain ⟨hps,rfl⟩:=zw
     exact .inr (.inl ⟨Pn,_,Ak7,Ab ⟨hps,rfl⟩,rfl⟩)
    ·exact .inl ⟨hb,zw⟩
   ·refine .inr (.inl ⟨l0,q,h1,?_,h3⟩)
    show (if s.ptr.isSome=true/\l0=Pn then _ else π l0)=some q
    rw [Ag]
    ·exact h2
    ·rintro ⟨_,rfl⟩
     rw [Ace Pn Amo] at h2;cases h2
   ·exact .inr (.inr hb)
  have hfl:s.flat=true\/(s.outs.all λc=>!c.isX)=true:=by unfold MSpec.Adx at Aqd;simpa only [Kj] using Aqd
  have io1:Ma w' (iL S π ρ) π 0 s.ins o':=by
   refine Ma.congr s.ins 0 o' Ak2 ?_
   rcases hfl with hf|hf
   ·unfold MSpec.flat at hf
    simp only [Af] at hf
    exact Ma.any s.ins 0 o' hf.2 io1
   ·exact Ma.Iv (λb hb=>hDO hf b (hDD b hb)) s.ins 0 o' io1
  have p1:Ji w' (iL S π ρ) ρ 0 s.outs r' (bv++xG):=by
   have p1:Ji w' (λb=>Ux cY b\/Sg b) ρ 0 s.outs r' (bv++xG):=Ji.Ac0 s.outs 0 r' _ (λj _ hj=>Ari j (by omega)) p1
   rcases hfl with hf|hf
   ·unfold MSpec.flat at hf
    simp only [Af] at hf
    exact Ji.any s.outs 0 r' (bv++xG) hf.1 p1
   ·exact Ji.Iv (λb hb=>hDO hf b (hDD b hb)) s.outs 0 r' (bv++xG) p1
  refine ⟨v,bv++xG,ρ,h'.2.defers,hv,?_,Avc xG,⟨h'.1.below.os,h'.1.below.tape,h'.1.below.output,h'.1.below.size,λk hk hn=>h'.1.below.block k hk λho=>hn ((aB k).1 ho)⟩,io1,p1,⟨λl0 q b h1 h2=>?_,p4'⟩,λl0 hl0=>?_,λkj hkj=>?_⟩
  ·rw [Aq1]
   unfold rD
   rcases hqm with ⟨h1,_,_,h2⟩|⟨tid,m,q,h1,_,_,h3,_,h4,h5,h6,h7⟩
   ·rw [h1];exact h2
   ·rw [h1];exact ⟨q,by rw [Amt,h3],h4,h5,h6,h7⟩
  ·obtain ⟨m,hm1,p,hm2,hm3,_,hm4⟩:=p3' l0 q b h1 h2
   obtain ⟨k1,k2⟩:=h'.1.place m p b hm2 hm3
   refine ⟨k2,k1.imp id λ⟨c0,q0,h5,h6⟩=>?_⟩
   have Iz:c0<Bn:=Bw λhn=>by
    obtain ⟨Ih,CF⟩:=VK c0 q0 (by omega) h5
    have hs:=h'.1.iY c0 (by omega) Ih
    have hs:ck ((sO c0).map full) (cY c0):=hs
    rw [h5] at hs
    cases zA:cY c0 with
    |none=>rw [zA] at hs;exact hs.elim
    |some q1=>
     rw [zA] at hs
     have hf1:q1.Cx b:=(hs.2.2.2 b).1 h6
     have:=h'.1.inj c0 m q1 p b zA hm2 (h'.1.sub c0 q1 b zA hf1) hm3
     subst this
     rcases hm4 with hm4|hm4
     ·rcases CF with CF|⟨b1,CE,hb2⟩
      ·exact n3 c0 hm1 c0 CF rfl
      ·obtain ⟨b2,hb3,hb4⟩:=wc s.outs _ _ _ PZ c0 hm4
       rw [CE] at hb3;cases hb3
       exact hb4 hb2
     ·exact hn hm4
   refine ⟨c0,q0,Iz,?_,h6⟩
   rcases Aag c0 q0 h5 with ⟨h7,_⟩|⟨_,h7,_⟩
   ·exact h7
   ·omega
  ·cases hp:ρ l0 with
   |none=>rfl
   |some q=>
    rcases xA l0 q hp with ⟨e,h3⟩|⟨_,h3⟩
    ·refine absurd e (hl0 _ ?_)
     rcases hqm with ⟨_,_,h4,_⟩|⟨tid,m,q',h4,_⟩
     ·rw [h4] at h3;cases h3
     ·unfold MSpec.Us;rw [h4];simp
    ·obtain ⟨j,_,j2,j3⟩:=p2 l0 q h3
     exact absurd j3 (hl0 j (by unfold MSpec.Us;omega))
  ·obtain ⟨l0,off,len,e,te,rows,out,p,q1,q2,q3,q4,q5⟩:=zI zz kj hkj
   have hj:kj.2<s.outs.length:=by
    rw [<-zQ s.outs _ _ _ PZ]
    exact (An.1 q1).1
   have e1:=p5 kj.2 l0 off len e te rows out (some p) q1 q2
   rw [Bo] at e1
   rw [Ari _ hj,e1]
   have hk:=((h'.1.heap l0).Qs q2).2
   obtain ⟨l1,n1⟩:=p
   simp only [KeptAt] at hk
   dsimp only at q3 q4
   subst q3
   have XV:π0 (Dt false kj.1)=(π (Dt false kj.1)).map full:=by
    show (if s.ptr.isSome=true/\Dt false kj.1=Pn then _ else π (Dt false kj.1)).map full=_
    rw [Ag λh=>hvl false kj.1 q5 h.2]
   rw [XV] at hk
   unfold zc
   cases hp:π (Dt false kj.1) with
   |none=>
    rw [hp] at hk
    cases zA:cY l0 with
    |none=>trivial
    |some q=>rw [zA] at hk;exact hk.elim
   |some q0=>
    rw [hp] at hk
    cases zA:cY l0 with
    |none=>rw [zA] at hk;exact hk.elim
    |some q=>
     rw [zA] at hk
     obtain ⟨k1,k2,k3,k4⟩:=hk
     exact ⟨k1,k2,k3,λj hj hc=>k4 j (by omega) hc⟩
 refine calls_of_wp hf hb ?_
 refine (wF hT Ph hm he _ w _ h0 λe st a' w' ⟨Ih,ta⟩ h'=>?_).1
 obtain ⟨v,Rw,ρ,p1,p2,p3⟩:=fin st a' w' ta h'
 cases e with
 |normal=>exact ⟨p1,v,p2,v,Rw,ρ,rfl,p3⟩
 |ret=>exact ⟨p1,v,p2,v,Rw,ρ,rfl,p3⟩
 |exit id=>exact absurd rfl (Ih id)
end
end Go.Proofs.YtfgfigkbgecfnaaGreat
