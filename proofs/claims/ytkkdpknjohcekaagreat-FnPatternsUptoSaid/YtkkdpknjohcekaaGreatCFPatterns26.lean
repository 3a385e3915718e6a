/-
  Part 27 of the proof that the statement FnPatterns holds.
-/
import Derived.Test.YtkkdpknjohcekaaGreatCFPatterns25
namespace Go.Proofs.YtkkdpknjohcekaaGreat
open Go.RowKit
section
variable {P:Program} {T:Tab} {Γ:Env} {X:Ctx} {w w':World} {π:Pi} {H:List (Nat×OB)}
theorem tw: ∀(cs:List (Bool×CK)) (k:Nat) (x:Ins.den cs) (l:Nat),At (Zy k cs x) l≠none-> ∃b j,k<=j/\j<k+cs.length/\l=Dy b j
 | [],_,_,_,h=>absurd rfl h
 |p::r,k,x,l,h=>by
  simp only [Zy] at h
  by_cases e:l=Dy p.1 k
  ·exact ⟨p.1,k,Ao _,by simp,e⟩
  ·have:At (Zy (k+1) r x.2) l≠none:=by
    cases hc:kE (Dy p.1 k) p.2 x.1 with
    |none=>rw [hc] at h;exact h
    |some b=>rw [hc] at h;simpa only [iE,At,Ak (Gg e)] using h
   obtain ⟨b,j,h1,h2,h3⟩:=tw r (k+1) x.2 l this
   exact ⟨b,j,by omega,by simp;omega,h3⟩
theorem UI {p:Bool×CK} {r:List (Bool×CK)} {k:Nat} {x:Ins.den (p::r)} (hk:k+(r.length+1)<100000) {l:Nat} {b:OB} (h:At (Zy (k+1) r x.2) l=some b):At (Zy k (p::r) x) l=some b:=by
 obtain ⟨b',j,h1,h2,rfl⟩:=tw r (k+1) x.2 l (by rw [h];simp)
 simp only [Zy]
 cases kE (Dy p.1 k) p.2 x.1 with
 |none=>exact h
 |some c=>simp only [iE,At];rw [Ak (SO (by omega) (by omega) (by omega))];exact h
theorem YZ {D:Nat->Prop} (hD: ∀b,Da X.w0.heap.size X.Sc π false b->D b) (hw0:X.w0=w) {l:Nat} {r:Option Real} (Zx:X.ic l=r.map full) {u:Value} {c:CK} {x:c.den} (h:eV w D r u c x) {b:OB} (hb:kE l c x=some b):Cj X w π H (r.map full) b:=by
 have Wi: ∀ {e:Ty} {es:List Value} {y:e.den},Cells w D e es y->Cells w (Da X.w0.heap.size X.Sc π false) e es y:= λ {e es y} h=>Cells.Fk (Ao _) (λ_ _ _=>rfl) (λb _ hb=>hD b hb) e es y h
 cases c with
 |Fz τ=>cases hb
 |row e te=>
  simp only [kE,Aa] at hb;subst hb
  obtain ⟨_,h⟩:=h
  simp only [gm] at h
  simp only [Cj,Kg]
  cases r with
  |none=>exact h
  |some q=>
   obtain ⟨k1,cu,ti,k2,k3,k4,k5,k6⟩:=h
   exact ⟨⟨k1.1,k1.2,λh=>by cases h⟩,cu,ti,k2,k3,k4,k5,λi y hy=>by
    obtain ⟨es,g1,g2,g3⟩:=k6 i y hy
    exact ⟨es,g1,g2,Wi g3⟩,λh=>by cases h⟩
 |Hz e te=>
  simp only [kE,Aa] at hb;subst hb
  cases r<;>exact h.2
 |part e te=>
  simp only [kE,Aa] at hb;subst hb
  obtain ⟨_,hf,h⟩:=h
  simp only [Cj,Kg]
  cases r with
  |none=>exact h
  |some q=>
   obtain ⟨k1,cu,ti,k2,k3,k4,k5,k6⟩:=h
   exact ⟨⟨k1.1,k1.2,λh=>by cases h⟩,cu,ti,k2,k3,k4,k5,λi y hy=>by
    obtain ⟨es,g1,g2,g3⟩:=k6 i y hy
    exact ⟨es,g1,g2,Wi g3⟩,λh=>by cases h⟩
 |Bl e te kp=>
  simp only [kE,Aa] at hb;subst hb
  have h2:ay w D r e x none:=h.2
  have h3:=ay.It h2 hD
  refine ⟨by cases r<;>exact h3,?_⟩
  cases kp with
  |false=>trivial
  |true=>
   simp only [Ph,KeptAt]
   rw [Zx]
   cases r with
   |none=>trivial
   |some q=>exact ⟨rfl,rfl,rfl,λj _ _=>by rw [hw0]⟩
theorem m6 {D:Nat->Prop} (hD: ∀b,Da X.w0.heap.size X.Sc π false b->D b) (hw0:X.w0=w) {π0:Pi} (Zx: ∀l,X.ic l=(π0 l).map full): ∀(cs:List (Bool×CK)) (k:Nat) (x:Ins.den cs) (us:List Value),eW w D π0 k cs x us-> ∀l b,At (Zy k cs x) l=some b->Cj X w π H ((π0 l).map full) b
 | [],_,_,_,_,_,_,h=>by cases h
 |_::_,_,_,[],h,_,_,_=>h.elim
 |p::r,k,x,u::us,h,l,b,hb=>by
  simp only [Zy] at hb
  cases hc:kE (Dy p.1 k) p.2 x.1 with
  |none=>rw [hc] at hb;exact m6 hD hw0 Zx r (k+1) x.2 us h.2 l b hb
  |some c=>
   rw [hc] at hb
   simp only [iE,At] at hb
   split at hb
   ·rename_i e;subst e
    simp only [Aa] at hb;subst hb
    exact YZ hD hw0 (Zx _) h.1 hc
   ·exact m6 hD hw0 Zx r (k+1) x.2 us h.2 l b hb
theorem FV {S:Nat->Prop} {π0:Pi} {gv:Nat->Prop} {ic:Pi} (ey: ∀l,π l=(π0 l).map full): ∀(cs:List (Bool×CK)) (k:Nat) (x:Ins.den cs) (us:List Value),k+cs.length<100000->eW w (λb=>Vy π0 b\/S b) π0 k cs x us->(∀l b,At (Zy k cs x) l=some b->At H l=some b)->
  Na ⟨w,S,gv,ic⟩ w π H (bR k cs x) us
 | [],_,_,[],_,_,_=>trivial
 | [],_,_,_::_,_,h,_=>h.elim
 |_::_,_,_,[],_,h,_=>h.elim
 |p::r,k,x,u::us,hk,h,hH=>by
  simp only [Aw] at hk
  refine ⟨?_,FV ey r (k+1) x.2 us (by omega) h.2 λl b hb=>hH l b (UI hk hb)⟩
  have h1:=h.1
  have hh: ∀b,kE (Dy p.1 k) p.2 x.1=some b->At H (Dy p.1 k)=some b:= λb hb=>hH _ b (by simp only [Zy];rw [hb];simp [iE,At])
  have ia:=ey (Dy p.1 k)
  obtain ⟨io,c⟩:=p
  dsimp only at h1 hh ia⊢
  generalize x.1=y at*
  cases c with
  |Fz τ=>
   show Cw w _ τ u y
   cases hf:τ.flat with
   |true=>exact Cw.flat hf h1.2
   |false=>
    refine h1.2.It λb _ hb=>?_
    rcases hb with ⟨l,q,h3,h4⟩|hb|⟨hb,_⟩
    ·rw [ey l] at h3
     cases hp:π0 l with
     |none=>rw [hp] at h3;cases h3
     |some q0=>rw [hp] at h3;simp only [Am,Aa] at h3;subst h3;exact .inl ⟨l,q0,hp,h4⟩
    ·exact .inr hb
    ·cases hb
  |row e te=>exact ⟨_,e.size,List.length y,hh _ rfl,rfl,by simp,by rw [ia];exact a7 h1.1⟩
  |Hz e te=>exact ⟨_,e.size,List.length y,hh _ rfl,rfl,by simp,by rw [ia];exact a7 h1.1⟩
  |part e te=>exact ⟨_,e.size,List.length y.1,hh _ rfl,rfl,h1.1.2,by rw [ia];exact a7 h1.1.1⟩
  |Bl e te kp=>exact ⟨_,1,List.length y,hh _ rfl,rfl,by simp,by rw [ia];exact a7 h1.1⟩
theorem pw {p:Real} {s off len:Nat} {u:Value} {f:Nat->Prop} (h:Ih (some p) s off len u):Ih (some ⟨p.g,p.o+off,p.cap-off,f,f⟩) s 0 len u:=by
 obtain ⟨ad,h1,h2,h3⟩:=h
 exact ⟨ad,h1,by dsimp only;omega,λh0=>by dsimp only at h0;simpa using h3 (by omega)⟩
theorem ub {α:Type} {xs:List α} {off len i:Nat} {x:α} (h:((xs.drop off).take len)[i]?=some x):xs[off+i]?=some x:=by
 rw [Cx] at h
 split at h
 ·rw [De] at h;exact h
 ·cases h
theorem Xt.part {P:Nat->Prop} {g o:Nat} {cur:Array Value} {e:Ty} {xs:List e.den} (off len:Nat) (h:Xt w P g o cur e xs):Xt w P g (o+off) cur e ((xs.drop off).take len):=by
 obtain ⟨Fs,t1,t2,t3,t4⟩:=h
 refine ⟨(Fs.drop off).take len,by simp [t1],Ce.2 ⟨λhm=>(Ce.1 t2).1 (Sl off len _ hm),mj off len (Ce.1 t2).2⟩,λb hb=>t3 b (Sl off len b hb),λi x F hx hF=>?_⟩
 obtain ⟨es,k1,k2,k3⟩:=t4 (off+i) x F (ub hx) (ub hF)
 exact ⟨es,k1,λj u hu=>by rw [Ha o off i];exact k2 j u hu,k3⟩
theorem UZ {st:St} (h:Mz X w π st.heap) {c:CK} (hg: ∀e te kp,c≠ .Bl e te kp) {a:AC} {u:Value} (hu:Hv X w π st.heap a u) {x:c.den} {ls:List Nat} (he:kI st c a=some (x,ls)):
  ∃r,eV w (λb=>Vy π b\/X.Sc b) r u c x/\ ∀q,r=some q-> ∃l p,ls= [l]/\π l=some p/\(∀b,q.Cv b->p.cl b)/\(c.isX=false-> ∀b,q.Cv b->p.Cv b):=by
 have RJ: ∀ {f:Bool} (b:Nat),(Vy π b\/X.Sc b)->Da X.w0.heap.size X.Sc π f b:= λb h=>h.imp id .inl
 cases c with
 |Fz τ=>
  simp only [kI] at he
  split at he
  ·rename_i hf
   cases hv:Dr st τ a with
   |none=>rw [hv] at he;cases he
   |some p=>
    obtain ⟨fr,y⟩:=p
    rw [hv] at he
    simp only [Am,Aa,Ae] at he
    obtain ⟨rfl,rfl⟩:=he
    refine ⟨none,⟨rfl,?_⟩,λq hq=>by cases hq⟩
    have It: ∀f,Cw w (Da X.w0.heap.size X.Sc π f) τ u y->Cw w (λb=>Vy π b\/X.Sc b) τ u y:= λf hr=>hr.It λk _ hk=>RJ k hk
    cases a with
    |data f Oe z=>
     rw [Nw] at hv
     split at hv
     ·rename_i ht;subst ht
      simp only [Aa,Ae] at hv
      obtain ⟨_,rfl⟩:=hv
      exact It f hu
     ·have Uh:τ.Ap=false:=by unfold iG at hv;split at hv<;>first|rfl|cases hv
      exact It _ ⟨[u],dq hv hu,by simp [Cd,Uh]⟩
    |Ma=>
     have hu:u= .slice none 0 0:=hu
     subst hu
     cases τ<;>simp only [Dr,Aa,Ae,reduceCtorEq] at hv
     ·obtain ⟨_,rfl⟩:=hv;exact ⟨[_],⟨none,0,0,rfl,rfl,Ao _, .inl rfl⟩,rfl⟩
     ·obtain ⟨_,rfl⟩:=hv;exact ⟨[_], .inl ⟨rfl,0,rfl⟩,rfl⟩
    |Vv=>
     have hu:u= .pointer none:=hu
     subst hu
     cases τ<;>simp only [Dr,Aa,Ae,reduceCtorEq] at hv
     obtain ⟨_,rfl⟩:=hv;exact ⟨[_], .inl ⟨rfl,rfl⟩,rfl⟩
    |_=>cases τ<;>simp [AC.settled,Ty.flat,Dr] at hf hv
  ·cases he
 |row e te=>
  cases a<;>simp only [kI] at he<;>try (cases he;done)
  ·simp only [Aa,Ae] at he
   obtain ⟨rfl,rfl⟩:=he
   have hu:u= .slice none 0 0:=hu
   exact ⟨none,⟨⟨hu,rfl,rfl⟩,rfl⟩,λq hq=>by cases hq⟩
  ·rename_i l off len
   split at he
   ·rename_i fr tr e' Ri xs hl
    split at he
    ·rename_i hc
     obtain ⟨rfl,rfl⟩:=hc
     simp only [Aa,Ae] at he
     obtain ⟨rfl,rfl⟩:=he
     unfold St.at at hl
     obtain ⟨h1,h2⟩:=Oi hu hl
     have hb:=(h.heap l).Ro hl
     simp only [Cj,Kg] at hb
     have hlen:((xs.drop off).take len).length=len:=by simp;omega
     cases hp:π l with
     |none=>
      rw [hp] at h2 hb
      obtain ⟨rfl,rfl,rfl⟩:=h2
      exact ⟨none,⟨⟨rfl,rfl,by simp⟩,by show (xs.drop 0).take 0= [];simp⟩,λq hq=>by cases hq⟩
     |some p=>
      rw [hp] at h2 hb
      obtain ⟨k1,cur,ti,k2,k3,k4,k5,k6,_⟩:=hb
      have ho:=h2
      obtain ⟨ad,_,tb,_⟩:=h2
      refine ⟨some ⟨p.g,p.o+off,p.cap-off,p.Cv,p.Cv⟩,⟨by rw [hlen];exact pw ho,⟨k1.1,k1.2.1⟩,cur,ti,k2,by rw [k3];congr 1;dsimp only;omega,by dsimp only;omega,by rw [hlen];dsimp only;omega,λi y hy=>?_⟩,
       fun q hq=>by cases hq;exact ⟨l,p,rfl,hp,λb hb=>h.sub l p b hp hb,λ_ b hb=>hb⟩⟩
      obtain ⟨es,g1,g2,g3⟩:=k6 (off+i) y (ub hy)
      exact ⟨es,g1,λj u hu=>by dsimp only;rw [Ha p.o off i];exact g2 j u hu,Cells.Fk (Ao _) (λ_ _ _=>rfl) (λb _ hb=>RJ b hb) e' es y g3⟩
    ·cases he
   ·cases he
 |Hz e te=>
  cases a<;>simp only [kI] at he<;>try (cases he;done)
  ·simp only [Aa,Ae] at he
   obtain ⟨rfl,rfl⟩:=he
   have hu:u= .slice none 0 0:=hu
   exact ⟨none,⟨⟨hu,rfl,rfl⟩,rfl⟩,λq hq=>by cases hq⟩
  ·rename_i l off len
   split at he
   ·rename_i fr tr e' Ri xs hl
    split at he
    ·rename_i hc
     obtain ⟨rfl,rfl,hf⟩:=hc
     simp only [Aa,Ae] at he
     obtain ⟨rfl,rfl⟩:=he
     unfold St.at at hl
     obtain ⟨h1,h2⟩:=Oi hu hl
     have hb:=(h.heap l).Ro hl
     simp only [Cj,Kg] at hb
     have hlen:((xs.drop off).take len).length=len:=by simp;omega
     cases hp:π l with
     |none=>
      rw [hp] at h2 hb
      obtain ⟨rfl,rfl,rfl⟩:=h2
      exact ⟨none,⟨⟨rfl,rfl,by simp⟩,by show (xs.drop 0).take 0= [];simp⟩,λq hq=>by cases hq⟩
     |some p=>
      rw [hp] at h2 hb
      obtain ⟨k1,cur,ti,k2,k3,k4,k5,k6,k7⟩:=hb
      have ho:=h2
      obtain ⟨ad,_,tb,_⟩:=h2
      have ht:Xt w p.cl p.g p.o cur e' xs:=by
       simp only [Kn] at hf
       rcases hf with hf|hf
       ·exact k7 hf
       ·exact nm hf k6
      exact ⟨some ⟨p.g,p.o+off,p.cap-off,p.cl,p.cl⟩,⟨by rw [hlen];exact pw ho,h.sub l p _ hp k1.1,cur,ti,k2,by rw [k3];congr 1;dsimp only;omega,by dsimp only;omega,by rw [hlen];dsimp only;omega,ht.part off len⟩,
       fun q hq=>by cases hq;exact ⟨l,p,rfl,hp,λb hb=>hb,λhx=>by cases hx⟩⟩
    ·cases he
   ·rename_i e' Ri xs hl
    split at he
    ·rename_i hc
     obtain ⟨rfl,rfl⟩:=hc
     simp only [Aa,Ae] at he
     obtain ⟨rfl,rfl⟩:=he
     unfold St.at at hl
     obtain ⟨h1,h2⟩:=c7 hu hl
     have hb:=(h.heap l).Ro hl
     simp only [Cj,Nx] at hb
     have hlen:((xs.drop off).take len).length=len:=by simp;omega
     cases hp:π l with
     |none=>
      rw [hp] at h2 hb
      obtain ⟨rfl,rfl,rfl⟩:=h2
      exact ⟨none,⟨⟨rfl,rfl,by simp⟩,by show (xs.drop 0).take 0= [];simp⟩,λq hq=>by cases hq⟩
     |some p=>
      rw [hp] at h2 hb
      obtain ⟨k1,cur,ti,k2,k3,k4,k5,ht⟩:=hb
      have ho:=h2
      obtain ⟨ad,_,tb,_⟩:=h2
      exact ⟨some ⟨p.g,p.o+off,p.cap-off,p.Cv,p.Cv⟩,⟨by rw [hlen];exact pw ho,k1,cur,ti,k2,by rw [k3];congr 1;dsimp only;omega,by dsimp only;omega,by rw [hlen];dsimp only;omega,ht.part off len⟩,
       fun q hq=>by cases hq;exact ⟨l,p,rfl,hp,λb hb=>h.sub l p b hp hb,λ_ b hb=>hb⟩⟩
    ·cases he
   ·cases he
 |part e te=>cases a<;>simp [kI] at he
 |Bl e te kp=>exact absurd rfl (hg e te kp)
theorem Ab8 {st:St} (h:Mz X w π st.heap) {c:CK} {a:AC} {u:Value} (hu:Hv X w π st.heap a u) {x:c.den} {ls:List Nat} (he:kI st c a=some (x,ls)):
  ∃r,eV w (λb=>Vy π b\/X.Sc b) r u c x/\(∀q,r=some q-> ∃l p,ls= [l]/\π l=some p/\(∀b,q.Cv b->p.cl b)/\(c.isX=false-> ∀b,q.Cv b->p.Cv b))/\
   (∀l off len e te rows out kp,a= .own l off len->At st.heap l=some (.Bl e te rows out kp)->r=π l):=by
 have vM:(∀e te kp,c≠ .Bl e te kp)->(∀l off len e te rows out kp,a=AC.own l off len->At st.heap l=some (OB.Bl e te rows out kp)->False)->
   ∃r,eV w (λb=>Vy π b\/X.Sc b) r u c x/\(∀q,r=some q-> ∃l p,ls= [l]/\π l=some p/\(∀b,q.Cv b->p.cl b)/\(c.isX=false-> ∀b,q.Cv b->p.Cv b))/\
   (∀l off len e te rows out kp,a= .own l off len->At st.heap l=some (.Bl e te rows out kp)->r=π l):= λh1 h2=>by
  obtain ⟨r,g1,g2⟩:=UZ h h1 hu he
  exact ⟨r,g1,g2,λl off len e te rows out kp h3 h4=>(h2 l off len e te rows out kp h3 h4).elim⟩
 cases c with
 |Fz τ=>
  refine vM (λ_ _ _ h=>by cases h) λl off len e te rows out kp h3 h4=>?_
  subst h3
  simp only [kI] at he
  split at he
  ·rename_i hf
   cases τ<;>simp [AC.settled,Ty.flat,Dr] at hf he
  ·cases he
 |row e te=>
  refine vM (λ_ _ _ h=>by cases h) λl off len e te rows out kp h3 h4=>?_
  subst h3
  simp only [kI,St.at,h4] at he
  cases he
 |Hz e te=>
  refine vM (λ_ _ _ h=>by cases h) λl off len e te rows out kp h3 h4=>?_
  subst h3
  simp only [kI,St.at,h4] at he
  cases he
 |part e te=>cases a<;>simp [kI] at he
 |Bl e te kp=>
  cases a<;>simp only [kI] at he<;>try (cases he;done)
  rename_i l off len
  split at he
  ·rename_i e' Ri rows kp' hl
   split at he
   ·rename_i hc
    obtain ⟨rfl,rfl,rfl,rfl⟩:=hc
    simp only [Aa,Ae] at he
    obtain ⟨rfl,rfl⟩:=he
    unfold St.at at hl
    obtain ⟨b,sz,n,h1,h2,_,h3⟩:=hu
    rw [hl] at h1;cases h1
    simp only [OB.row,Aa,Ae] at h2
    obtain ⟨rfl,rfl⟩:=h2
    have hb:=((h.heap l).Ro hl).1
    refine ⟨π l,⟨h3,ay.It hb λb hb=>hb.imp id .inl⟩,λq hq=>⟨l,q,rfl,hq,λb hb=>h.sub l q b hq hb,λ_ b hb=>hb⟩,λl' Azj Au6 _ _ _ _ _ he _=>?_⟩
    simp only [AC.own.injEq] at he
    rw [he.1]
   ·cases he
  ·cases he
theorem Jk.congr {D:Nat->Prop} {ρ ρ':Pi} : ∀(cs:List CK) (k:Nat) (x:CKs.den cs) (us:List Value),(∀j,k<=j->ρ' (Kj j)=ρ (Kj j))->Jk w D ρ k cs x us->Jk w D ρ' k cs x us
 | [],_,_,[],_,h=>h
 | [],_,_,_::_,_,h=>h.elim
 |_::_,_,_,[],_,h=>h.elim
 |c::r,k,x,u::us,he,h=>⟨by rw [he k (Ao _)];exact h.1,Jk.congr r (k+1) x.2 us (λj hj=>he j (by omega)) h.2⟩
theorem xZ {st:St} (h:Mz X w π st.heap): ∀(cs:List CK) (k:Nat) (as:List AC) (us:List Value) (x:CKs.den cs) (ls:List Nat),Na X w π st.heap as us->Vl st cs as=some (x,ls)->ls.Nodup->
  ∃ρ:Pi,Jk w (λb=>Vy π b\/X.Sc b) ρ k cs x us/\(∀l q,ρ l=some q-> ∃j,k<=j/\j<k+cs.length/\l=Kj j)/\(∀l q b,ρ l=some q->q.Cv b-> ∃l0∈ls,∃p,π l0=some p/\p.cl b/\((cs.all λc=>!c.isX)=true->p.Cv b))/\
   (∀l l' q q' b,ρ l=some q->ρ l'=some q'->q.Cv b->q'.Cv b->l=l')/\
   (∀(j l off len:Nat) e te rows out kp,as[j]?=some (.own l off len)->At st.heap l=some (.Bl e te rows out kp)->ρ (Kj (k+j))=π l)
 | [],k,[],[],x,ls,_,he,_=>by
  simp only [Vl,Aa,Ae] at he
  exact ⟨λ_=>none,trivial,(λl q h=>by cases h),(λl q b h=>by cases h),(λl l' q q' b h=>by cases h),λj l off len e te rows out kp h=>by simp at h⟩
 | [],_,[],_::_,_,_,h,_,_=>h.elim
 | [],_,_::_,_,_,_,_,he,_=>by simp [Vl] at he
 |_::_,_,[],_,_,_,_,he,_=>by simp [Vl] at he
 |_::_,_,_::_,[],_,_,h,_,_=>h.elim
 |c::r,k,a::as,u::us,x,ls,hr,he,KD=>by
  simp only [Vl] at he
  split at he
  ·rename_i x1 t1 x2 t2 h1 h2
   simp only [Aa,Ae] at he
   obtain ⟨rfl,rfl⟩:=he
   obtain ⟨n1,n2,n3⟩:=Dv.1 KD
   obtain ⟨ρ,g1,g2,g3,g4,g5⟩:=xZ h r (k+1) as us x2 t2 hr.2 h2 n2
   obtain ⟨rr,r1,r2,r3⟩:=Ab8 h hr.1 h1
   have EJ: ∀l q q0 b,ρ l=some q->rr=some q0->q.Cv b->q0.Cv b->False:= λl q q0 b h3 h4 h5 h6=>by
    obtain ⟨l0,m0,p,p1,p2,_⟩:=g3 l q b h3 h5
    obtain ⟨l1,p',e1,p1',p2',_⟩:=r2 q0 h4
    have:=h.inj l0 l1 p p' b p1 p1' p2 (p2' b h6)
    exact n3 l1 (by rw [e1];simp) l0 m0 this.symm
   refine ⟨λl=>if l=Kj k then rr else ρ l,⟨by simpa using r1,Jk.congr r (k+1) x2 us (λj hj=>Ak (by unfold Kj;omega)) g1⟩,λl q hq=>?_,λl q b hq hb=>?_,λl l' q q' b h3 h4 h5 h6=>?_,λj l off len e te rows out kp hj hl=>?_⟩
   ·dsimp only at hq
    by_cases e:l=Kj k
    ·exact ⟨k,Ao _,by simp,e⟩
    ·rw [Ak e] at hq
     obtain ⟨j,j1,j2,j3⟩:=g2 l q hq
     exact ⟨j,by omega,by simp;omega,j3⟩
   ·dsimp only at hq
    by_cases e:l=Kj k
    ·rw [Ab e] at hq
     obtain ⟨l1,p',e1,p1',p2',p3'⟩:=r2 q hq
     exact ⟨l1,by rw [e1];simp,p',p1',p2' b hb,λhx=>p3' (by simp only [Jp,Ag,Es] at hx;exact hx.1) b hb⟩
    ·rw [Ak e] at hq
     obtain ⟨l0,m0,p,p1,p2,p3⟩:=g3 l q b hq hb
     exact ⟨l0,Ci _ m0,p,p1,p2,λhx=>p3 (by simp only [Jp,Ag] at hx;exact hx.2)⟩
   ·dsimp only at h3 h4
    by_cases e:l=Kj k<;>by_cases e':l'=Kj k
    ·rw [e,e']
    ·rw [Ab e] at h3;rw [Ak e'] at h4
     exact (EJ l' q' q b h4 h3 h6 h5).elim
    ·rw [Ak e] at h3;rw [Ab e'] at h4
     exact (EJ l q q' b h3 h4 h5 h6).elim
    ·rw [Ak e] at h3;rw [Ak e'] at h4
     exact g4 l l' q q' b h3 h4 h5 h6
   ·rcases j with _|j
    ·simp only [Bz,Aa] at hj
     show (if Kj k=Kj k then rr else ρ (Kj k))=π l
     rw [Ab rfl]
     exact r3 l off len e te rows out kp hj hl
    ·have:=g5 j l off len e te rows out kp (by simpa using hj) hl
     show (if Kj (k+(j+1))=Kj k then rr else ρ (Kj (k+(j+1))))=π l
     rw [Ak (by unfold Kj;omega),<-this,show k+(j+1)=k+1+j by omega]
  ·cases he
theorem ID {r r':Option Real} (h:bB (r.map full) r') {e:Ty} {xs:List e.den} {te:TypeId} {fr tr:Bool} (ha:Kg X w π r' fr tr e te xs):Ta w (λb=>Vy π b\/X.Sc b) r e xs:=by
 cases r with
 |none=>cases r' with
  |none=>exact ha
  |some q=>exact h.elim
 |some p=>cases r' with
  |none=>exact h.elim
  |some q=>
   obtain ⟨e1,e2,e3,e4⟩:=h
   obtain ⟨k1,cur,ti,k2,k3,k4,k5,k6,_⟩:=ha
   have e1:p.g=q.g:=e1
   have e2:p.o=q.o:=e2
   have e3:p.cap=q.cap:=e3
   refine ⟨⟨by rw [e1];exact (e4 _).2 k1.1,λb hb=>by rw [e1];exact k1.2.1 b ((e4 b).1 hb)⟩,cur,ti,by rw [e1];exact k2,by rw [e2,e3];exact k3,by rw [e3];exact k4,by rw [e3];exact k5,λi y hy=>?_⟩
   obtain ⟨es,g1,g2,g3⟩:=k6 i y hy
   exact ⟨es,g1,by rw [e2];exact g2,Cells.Fk (Ao _) (λ_ _ _=>rfl) (λb _ hb=>hb.imp id .inl) e es y g3⟩
theorem WA {r r':Option Real} (h:bB (r.map full) r') {e:Ty} {xs:List e.den} {te:TypeId} (ha:Nx w r' e te xs):Nx w r e te xs:=by
 cases r with
 |none=>cases r' with
  |none=>exact ha
  |some q=>exact h.elim
 |some p=>cases r' with
  |none=>exact h.elim
  |some q=>
   obtain ⟨e1,e2,e3,e4⟩:=h
   obtain ⟨k1,cur,ti,k2,k3,k4,k5,Fs,t1,t2,t3,t4⟩:=ha
   have e1:p.g=q.g:=e1
   have e2:p.o=q.o:=e2
   have e3:p.cap=q.cap:=e3
   exact ⟨by rw [e1];exact (e4 _).2 k1,cur,ti,by rw [e1];exact k2,by rw [e2,e3];exact k3,by rw [e3];exact k4,by rw [e3];exact k5,Fs,t1,by rw [e1];exact t2,λb hb=>(e4 b).2 (t3 b hb),by rw [e2];exact t4⟩
theorem Ut {st:St} {π0:Pi} {D:Nat->Prop} {w0:World} (h:Mz X w π st.heap) (Zx: ∀l,X.ic l=(π0 l).map full): ∀(cs:List (Bool×CK)) (k:Nat) (x:Ins.den cs) (us:List Value) (o:IOs.den cs),eW w0 D π0 k cs x us->Om st k cs=some o->
  Mj w (λb=>Vy π b\/X.Sc b) π0 k cs o/\ ∀l∈Pu k cs,At st.heap l≠none
 | [],_,_,_,_,_,_=>⟨trivial,λl hl=>by cases hl⟩
 |_::_,_,_,[],_,h,_=>h.elim
 |(false,c)::r,k,x,u::us,o,hi,he=>Ut h Zx r (k+1) x.2 us o hi.2 (by simpa only [Om] using he)
 |(true, .Fz τ)::r,k,x,u::us,o,hi,he=>Ut h Zx r (k+1) x.2 us o hi.2 (by simpa only [Om] using he)
 |(true, .Bl e te kp)::r,k,x,u::us,o,hi,he=>Ut h Zx r (k+1) x.2 us o hi.2 (by simpa only [Om] using he)
 |(true, .row e te)::r,k,x,u::us,o,hi,he=>by
  simp only [Om] at he
  split at he
  ·rename_i x1 x2 h1 h2
   simp only [Aa] at he;subst he
   obtain ⟨g1,g2⟩:=Ut h Zx r (k+1) x.2 us x2 hi.2 h2
   have h0:=hi.1
   simp only [pZ] at h1
   split at h1
   ·rename_i fr tr e' Ri xs hl
    split at h1
    ·rename_i hc
     obtain ⟨rfl,rfl⟩:=hc
     simp only [Aa] at h1;subst h1
     unfold St.at at hl
     have hs:=h.ic (Dy true k) (by have:=bj k;omega) (by rw [hl];simp)
     rw [Zx] at hs
     exact ⟨⟨ID (te:=Ri) hs ((h.heap _).Ro hl),g1⟩,λl Jv=>by
      simp only [Pu] at Jv
      rcases Be.1 Jv with rfl|Jv
      ·rw [hl];simp
      ·exact g2 l Jv⟩
    ·cases h1
   ·cases h1
  ·cases he
 |(true, .part e te)::r,k,x,u::us,o,hi,he=>by
  simp only [Om] at he
  split at he
  ·rename_i x1 x2 h1 h2
   simp only [Aa] at he;subst he
   obtain ⟨g1,g2⟩:=Ut h Zx r (k+1) x.2 us x2 hi.2 h2
   have h0:=hi.1
   simp only [pZ] at h1
   split at h1
   ·rename_i fr tr e' Ri xs hl
    split at h1
    ·rename_i hc
     obtain ⟨rfl,rfl⟩:=hc
     simp only [Aa] at h1;subst h1
     unfold St.at at hl
     have hs:=h.ic (Dy true k) (by have:=bj k;omega) (by rw [hl];simp)
     rw [Zx] at hs
     exact ⟨⟨ID (te:=Ri) hs ((h.heap _).Ro hl),g1⟩,λl Jv=>by
      simp only [Pu] at Jv
      rcases Be.1 Jv with rfl|Jv
      ·rw [hl];simp
      ·exact g2 l Jv⟩
    ·cases h1
   ·cases h1
  ·cases he
 |(true, .Hz e te)::r,k,x,u::us,o,hi,he=>by
  simp only [Om] at he
  split at he
  ·rename_i x1 x2 h1 h2
   simp only [Aa] at he;subst he
   obtain ⟨g1,g2⟩:=Ut h Zx r (k+1) x.2 us x2 hi.2 h2
   simp only [pZ] at h1
   split at h1
   ·rename_i e' Ri xs hl
    split at h1
    ·rename_i hc
     obtain ⟨rfl,rfl⟩:=hc
     simp only [Aa] at h1;subst h1
     unfold St.at at hl
     have hs:=h.ic (Dy true k) (by have:=bj k;omega) (by rw [hl];simp)
     rw [Zx] at hs
     exact ⟨⟨WA (te:=Ri) hs ((h.heap _).Ro hl),g1⟩,λl Jv=>by
      simp only [Pu] at Jv
      rcases Be.1 Jv with rfl|Jv
      ·rw [hl];simp
      ·exact g2 l Jv⟩
    ·cases h1
   ·cases h1
  ·cases he
theorem wg {p:Bool×CK} {r:List (Bool×CK)} (h:a6 (p::r)=true):a6 r=true:=by
 rcases p with ⟨_|_,c⟩<;>cases c<;>first|(simp [a6] at h;done)|simpa [a6] using h
theorem xI: ∀(cs:List (Bool×CK)) (k:Nat) (x:Ins.den cs) (l:Nat),a6 cs=true->k+cs.length<100000->At (Zy k cs x) l≠none-> ¬l<Bn->l∈Pu k cs
 | [],_,_,_,_,_,h,_=>absurd rfl h
 |(io,c)::r,k,x,l,hng,hk,h,hp=>by
  simp only [Aw] at hk
  simp only [Zy] at h
  have tail:At (Zy (k+1) r x.2) l≠none->l∈Pu (k+1) r:= λh=>xI r (k+1) x.2 l (wg hng) (by omega) h hp
  have sub: ∀m,m∈Pu (k+1) r->m∈Pu k ((io,c)::r):= λm hm=>by
   cases io<;>cases c<;>simp only [Pu]<;>first|exact hm|exact Aq _ hm
  cases hc:kE (Dy io k) c x.1 with
  |none=>rw [hc] at h;exact sub l (tail h)
  |some b=>
   rw [hc] at h
   simp only [iE,At] at h
   split at h
   ·rename_i e;subst e
    cases io with
    |false=>exact absurd (fP (by omega)) hp
    |true=>cases c with
     |Fz τ=>cases hc
     |row e te=>simp [Pu]
     |Hz e te=>simp [Pu]
     |part e te=>simp [Pu]
     |Bl e te kp=>simp [a6] at hng
   ·exact sub l (tail h)
theorem eV.It {D D':Nat->Prop} (hD: ∀b,D' b->D b) {r:Option Real} {u:Value} {c:CK} {x:c.den} (h:eV w D r u c x):eV w D' r u c x:=by
 cases c with
 |Fz τ=>exact ⟨h.1,h.2.It λb _ hb=>hD b hb⟩
 |row e te=>exact ⟨h.1,Ta.It h.2 hD⟩
 |Hz e te=>exact h
 |part e te=>exact ⟨h.1,h.2.1,Ta.It h.2.2 hD⟩
 |Bl e te kp=>exact ⟨h.1,ay.It h.2 hD⟩
theorem Jk.It {D D':Nat->Prop} (hD: ∀b,D' b->D b) {ρ:Pi} : ∀(cs:List CK) (k:Nat) (x:CKs.den cs) (us:List Value),Jk w D ρ k cs x us->Jk w D' ρ k cs x us
 | [],_,_,[],h=>h
 | [],_,_,_::_,h=>h.elim
 |_::_,_,_,[],h=>h.elim
 |_c::r,k,x,_u::us,h=>⟨h.1.It hD,Jk.It hD r (k+1) x.2 us h.2⟩
theorem Mj.It {D D':Nat->Prop} (hD: ∀b,D' b->D b) {π:Pi} : ∀(cs:List (Bool×CK)) (k:Nat) (x:IOs.den cs),Mj w D π k cs x->Mj w D' π k cs x
 | [],_,_,h=>h
 |(false,_)::r,k,x,h=>Mj.It hD r (k+1) x h
 |(true, .Fz _)::r,k,x,h=>Mj.It hD r (k+1) x h
 |(true, .Bl _ _ _)::r,k,x,h=>Mj.It hD r (k+1) x h
 |(true, .row _e _te)::r,k,x,h=>⟨Ta.It h.1 hD,Mj.It hD r (k+1) x.2 h.2⟩
 |(true, .Hz _e _te)::r,k,x,h=>⟨h.1,Mj.It hD r (k+1) x.2 h.2⟩
 |(true, .part _e _te)::r,k,x,h=>⟨Ta.It h.1 hD,Mj.It hD r (k+1) x.2 h.2⟩
theorem eW.congr {D:Nat->Prop} {π0 cn:Pi} : ∀(cs:List (Bool×CK)) (k:Nat) (x:Ins.den cs) (us:List Value),(∀b j,k<=j->j<k+cs.length->cn (Dy b j)=π0 (Dy b j))->eW w D π0 k cs x us->eW w D cn k cs x us
 | [],_,_,[],_,h=>h
 | [],_,_,_::_,_,h=>h
 |_::_,_,_,[],_,h=>h
 |p::r,k,x,u::us,hp,h=>⟨by rw [hp p.1 k (Ao _) (by simp)];exact h.1,eW.congr r (k+1) x.2 us (λb j h1 h2=>hp b j (by omega) (by simp;omega)) h.2⟩
theorem Mj.congr {D:Nat->Prop} {π0 cn:Pi} : ∀(cs:List (Bool×CK)) (k:Nat) (x:IOs.den cs),(∀b j,k<=j->j<k+cs.length->cn (Dy b j)=π0 (Dy b j))->Mj w D π0 k cs x->Mj w D cn k cs x
 | [],_,_,_,h=>h
 |(false,c)::r,k,x,hp,h=>by cases c<;>exact Mj.congr r (k+1) x (λb j h1 h2=>hp b j (by omega) (by simp;omega)) h
 |(true, .Fz _)::r,k,x,hp,h=>Mj.congr r (k+1) x (λb j h1 h2=>hp b j (by omega) (by simp;omega)) h
 |(true, .Bl _ _ _)::r,k,x,hp,h=>Mj.congr r (k+1) x (λb j h1 h2=>hp b j (by omega) (by simp;omega)) h
 |(true, .row e te)::r,k,x,hp,h=>⟨by rw [hp true k (Ao _) (by simp)];exact h.1,Mj.congr r (k+1) x.2 (λb j h1 h2=>hp b j (by omega) (by simp;omega)) h.2⟩
 |(true, .Hz e te)::r,k,x,hp,h=>⟨by rw [hp true k (Ao _) (by simp)];exact h.1,Mj.congr r (k+1) x.2 (λb j h1 h2=>hp b j (by omega) (by simp;omega)) h.2⟩
 |(true, .part e te)::r,k,x,hp,h=>⟨by rw [hp true k (Ao _) (by simp)];exact h.1,Mj.congr r (k+1) x.2 (λb j h1 h2=>hp b j (by omega) (by simp;omega)) h.2⟩
theorem Ev.congr {π0 cn:Pi} : ∀(cs:List (Bool×CK)) (k:Nat) (o:IOs.den cs) (n:Nat) (us as:List Value),(∀b j,k<=j->j<k+cs.length->cn (Dy b j)=π0 (Dy b j))->Ev π0 k cs o n us as->Ev cn k cs o n us as
 | [],k,o,0,us,as,_,h=>by simpa [Ev] using h
 | [],k,o,n+1,us,as,_,h=>by simp [Ev] at h
 |p::r,k,o,0,us,as,_,h=>by
  rcases p with ⟨_|_,c⟩<;>cases c<;>simpa [Ev] using h
 |(true, .Fz _)::r,k,o,n+1,us,as,_,h=>by simp [Ev] at h
 |(true, .part _ _)::r,k,o,n+1,us,as,_,h=>by simp [Ev] at h
 |(true, .Bl _ _ _)::r,k,o,n+1,us,as,_,h=>by simp [Ev] at h
 |(true, .row e te)::r,k,o,n+1,[],as,_,h=>by simp [Ev] at h
 |(true, .Hz e te)::r,k,o,n+1,[],as,_,h=>by simp [Ev] at h
 |(true, .row e te)::r,k,o,n+1,u::us,as,hp,h=>by
  simp only [Ev] at h⊢
  exact ⟨by rw [hp true k (Ao _) (by simp)];exact h.1,Ev.congr r (k+1) o.2 n us as (λb j h1 h2=>hp b j (by omega) (by simp;omega)) h.2⟩
 |(true, .Hz e te)::r,k,o,n+1,u::us,as,hp,h=>by
  simp only [Ev] at h⊢
  exact ⟨by rw [hp true k (Ao _) (by simp)];exact h.1,Ev.congr r (k+1) o.2 n us as (λb j h1 h2=>hp b j (by omega) (by simp;omega)) h.2⟩
 |(false,c)::r,k,o,n+1,[],as,_,h=>by cases c<;>simp [Ev] at h
 |(false,c)::r,k,o,n+1,u::us,[],_,h=>by cases c<;>simp [Ev] at h
 |(false,c)::r,k,o,n+1,u::us,a::as,hp,h=>by
  have h:u=a/\Ev π0 (k+1) r o n us as:=by cases c<;>exact h
  have:=Ev.congr r (k+1) o n us as (λb j h1 h2=>hp b j (by omega) (by simp;omega)) h.2
  cases c<;>exact ⟨h.1,this⟩
theorem qn: ∀(A B:List (Nat×OB)) (l:Nat),At (A++B) l=match At A l with|some b=>some b|none=>At B l
 | [],B,l=>rfl
 |(k,b)::A,B,l=>by
  simp only [Oz,At]
  split
  ·rfl
  ·exact qn A B l
theorem u7 {st:St} : ∀(cs:List CK) (as:List AC) (x:CKs.den cs) (ls:List Nat),Vl st cs as=some (x,ls)-> ∀l∈ls,∃b,At st.heap l=some b/\b.row≠none
 | [],[],x,ls,he=>by
  simp only [Vl,Aa,Ae] at he
  obtain ⟨_,rfl⟩:=he
  intro l hl;cases hl
 | [],_::_,_,_,he=>by simp [Vl] at he
 |_::_,[],_,_,he=>by simp [Vl] at he
 |c::r,a::as,x,ls,he=>by
  simp only [Vl] at he
  split at he
  ·rename_i x1 t1 x2 t2 h1 h2
   simp only [Aa,Ae] at he
   obtain ⟨_,rfl⟩:=he
   intro l hl
   rcases Az.1 hl with hl|hl
   ·unfold kI at h1
    split at h1
    ·split at h1
     ·cases hv:Dr st _ a with
      |none=>rw [hv] at h1;cases h1
      |some p=>rw [hv] at h1;simp only [Am,Aa,Ae] at h1;obtain ⟨_,rfl⟩:=h1;cases hl
     ·cases h1
    all_goals (repeat' split at h1)
    all_goals first|(cases h1;done)|skip
    all_goals (simp only [Aa,Ae] at h1;obtain ⟨_,rfl⟩:=h1)
    all_goals first|(cases hl;done)|skip
    all_goals (have hl:=Ad.1 hl;subst hl)
    all_goals (rename_i heq _;exact ⟨_,heq,by simp [OB.row]⟩)
   ·exact u7 r as x2 t2 h2 l hl
  ·cases he
theorem qF {r r':Option Real} {sz off len:Nat} {v:Value} (h:bB r r') (hv:Ih r' sz off len v):Ih r sz off len v:=by
 cases r<;>cases r'<;>first|exact h.elim|skip
 ·exact hv
 ·obtain ⟨h1,h2,h3,_⟩:=h
  obtain ⟨ad,g1,g2,g3⟩:=hv
  exact ⟨ad,by rw [h3];exact g1,by rw [h3];exact g2,by rw [h1,h2,h3];exact g3⟩
theorem Zh {st:St} {π0:Pi} (hs: ∀k,At st.heap (Dy true k)≠none->bB ((π0 (Dy true k)).map full) (π (Dy true k))):
  ∀(cs:List (Bool×CK)) (k:Nat) (vs:List AC) (us:List Value) (bc:List AC) (o:IOs.den cs),Na X w π st.heap vs us->Jm k cs vs=some bc->j0 st vs cs->Om st k cs=some o->
   ∃bv,Na X w π st.heap bc bv/\bv.length=uu cs vs.length/\ ∀tl,Ev π0 k cs o vs.length us (bv++tl)
 |cs,k,[],us,bc,o,hr,he,_,_=>by
  have e1:us= []:=by cases us with|nil=>rfl|cons u us=>exact hr.elim
  have e2:bc= []:=by rcases cs with _|⟨⟨_|_,c⟩,r⟩<;>simpa [Jm] using he.symm
  subst e1;subst e2
  refine ⟨[],trivial,?_,λtl=>?_⟩
  ·rcases cs with _|⟨⟨_|_,c⟩,r⟩<;>rfl
  ·rcases cs with _|⟨⟨_|_,c⟩,r⟩<;>(try cases c)<;>simp [Ev]
 | [],k,a::vs,us,bc,o,hr,he,_,_=>by simp [Jm] at he
 |p::r,k,a::vs,[],bc,o,hr,_,_,_=>hr.elim
 |(false,c)::r,k,a::vs,u::us,bc,o,hr,he,hk,ho=>by
  have he:(Jm (k+1) r vs).map (λl=>a::l)=some bc:=by cases a<;>exact he
  cases hb:Jm (k+1) r vs with
  |none=>rw [hb] at he;cases he
  |some bc'=>
   rw [hb] at he
   simp only [Am,Aa] at he;subst he
   obtain ⟨bv,g1,g2,g3⟩:=Zh hs r (k+1) vs us bc' o hr.2 hb (by cases a<;>exact hk) (by cases c<;>simpa only [Om] using ho)
   refine ⟨u::bv,⟨hr.1,g1⟩,by simp [uu,g2],λtl=>?_⟩
   have:=g3 tl
   cases c<;>exact ⟨rfl,this⟩
 |(true,c)::r,k,a::vs,u::us,bc,o,hr,he,hk,ho=>by
  cases c with
  |Fz τ=>cases a<;>simp [Jm] at he
  |part e te=>cases a<;>simp [Jm] at he
  |Bl e te kp=>cases a<;>simp [Jm] at he
  |row e te=>
   cases a<;>first|(simp [Jm] at he;done)|skip
   rename_i l off len
   simp only [Jm] at he
   split at he
   rotate_left
   ·cases he
   rename_i hl
   have hl:l=Dy true k:=Ju hl
   subst hl
   obtain ⟨⟨rfl,hlen⟩,hk⟩:=hk
   obtain ⟨b,sz,n,h1,h2,h3,h4⟩:=hr.1
   have FP:=hs k (by rw [h1];simp)
   simp only [Om] at ho
   split at ho
   ·rename_i x1 x2 q1 q2
    simp only [Aa] at ho;subst ho
    obtain ⟨bv,g1,g2,g3⟩:=Zh hs r (k+1) vs us bc x2 hr.2 he hk q2
    refine ⟨bv,g1,by simpa [uu] using g2,λtl=>?_⟩
    refine ⟨?_,g3 tl⟩
    simp only [pZ] at q1
    split at q1
    ·rename_i fr tr e' Ri xs Jv
     split at q1
     ·rename_i hc
      obtain ⟨rfl,rfl⟩:=hc
      simp only [Aa] at q1;subst q1
      unfold St.at at Jv hlen
      rw [Jv] at hlen
      rw [h1] at Jv;cases Jv
      simp only [OB.row,Aa,Ae] at h2
      obtain ⟨rfl,rfl⟩:=h2
      have hlen:len=List.length xs:=hlen
      have:=qF FP h4
      rw [hlen] at this
      have e0:(π0 (Dy true k)).map full=(π0 (Dy true k)).map full:=rfl
      cases hp:π0 (Dy true k)<;>(rw [hp] at this;exact this)
     ·cases q1
    ·cases q1
   ·cases ho
  |Hz e te=>
   cases a<;>first|(simp [Jm] at he;done)|skip
   rename_i l off len
   simp only [Jm] at he
   split at he
   rotate_left
   ·cases he
   rename_i hl
   have hl:l=Dy true k:=Ju hl
   subst hl
   obtain ⟨⟨rfl,hlen⟩,hk⟩:=hk
   obtain ⟨b,sz,n,h1,h2,h3,h4⟩:=hr.1
   have FP:=hs k (by rw [h1];simp)
   simp only [Om] at ho
   split at ho
   ·rename_i x1 x2 q1 q2
    simp only [Aa] at ho;subst ho
    obtain ⟨bv,g1,g2,g3⟩:=Zh hs r (k+1) vs us bc x2 hr.2 he hk q2
    refine ⟨bv,g1,by simpa [uu] using g2,λtl=>?_⟩
    refine ⟨?_,g3 tl⟩
    simp only [pZ] at q1
    split at q1
    ·rename_i e' Ri xs Jv
     split at q1
     ·rename_i hc
      obtain ⟨rfl,rfl⟩:=hc
      simp only [Aa] at q1;subst q1
      unfold St.at at Jv hlen
      rw [Jv] at hlen
      rw [h1] at Jv;cases Jv
      simp only [OB.row,Aa,Ae] at h2
      obtain ⟨rfl,rfl⟩:=h2
      have hlen:len=List.length xs:=hlen
      have:=qF FP h4
      rw [hlen] at this
      cases hp:π0 (Dy true k)<;>(rw [hp] at this;exact this)
     ·cases q1
    ·cases q1
   ·cases ho
def Apl (s:MSpec) (g:Nat) (π:Pi):Pi:= λl=>if s.ptr.isSome=true/\l=Ox then some ⟨g,0,0,λb=>b=g,λb=>b=g⟩ else π l
def Alm (P:Program) (s:MSpec) (fn:Func) (x:Ins.den s.ins) (w:World) (S:Nat->Prop) (π:Pi) (g:Nat) (r:CKs.den s.outs) (o:IOs.den s.ins) (a':Act) (w':World):Prop:=
 ∃(v:Value) (Xh:List Value) (ρ:Pi),a'.defers= []/\(results fn a'.tmps).run P w'= .ok v w'/\si s w' ρ (Xh.drop s.aF) v/\lG s π w' g Xh o/\Ku w.heap.size (λb=>Vy π b\/s.gv g b) w w'/\Mj w' (kC S π ρ) π 0 s.ins o/\Jk w' (kC S π ρ) ρ 0 s.outs r Xh/\
  im ρ (λb=>b<w'.heap.size/\(w.heap.size<=b\/ ∃l q,l<Bn/\π l=some q/\q.Cv b))/\(∀l,(∀k,k<s.Uw->l≠Kj k)->ρ l=none)/\(∀kj∈s.keeps,DI w w' (π (Dy false kj.1)) (ρ (Kj kj.2)) (s.Fk x))
theorem Jk.ZC {D:Nat->Prop} {ρ ρ':Pi} : ∀(cs:List CK) (k:Nat) (x:CKs.den cs) (us:List Value),(∀j,k<=j->j<k+cs.length->ρ' (Kj j)=ρ (Kj j))->Jk w D ρ k cs x us->Jk w D ρ' k cs x us
 | [],_,_,[],_,h=>h
 | [],_,_,_::_,_,h=>h.elim
 |_::_,_,_,[],_,h=>h.elim
 |c::r,k,x,u::us,he,h=>⟨by rw [he k (Ao _) (by simp)];exact h.1,Jk.ZC r (k+1) x.2 us (λj hj hl=>he j (by omega) (by simp;omega)) h.2⟩
theorem xM {st:St} {n:Nat} {as:List AC} : ∀ {ks:List (Nat×Nat)},xL st n as ks-> ∀kj∈ks,∃l off len e te rows out p,as[kj.2]?=some (.own l off len)/\At st.heap l=some (.Bl e te rows out (some p))/\p.1=Dy false kj.1/\n<=p.2/\kj.1<1000
 | [],_,kj,hm=>by cases hm
 |(k,j)::r,h,kj,hm=>by
  simp only [xL] at h
  rcases Be.1 hm with rfl|hm
  ·obtain ⟨h,_⟩:=h
   split at h
   ·rename_i l off len he
    split at h
    ·rename_i e te rows out p hl
     unfold St.at at hl
     exact ⟨l,off,len,e,te,rows,out,p,he,hl,h.1,h.2.1,by simpa using h.2.2⟩
    ·exact h.elim
   ·exact h.elim
  ·exact xM h.2 kj hm
theorem xY {st:St} : ∀(cs:List CK) (as:List AC) (x:CKs.den cs) (ls:List Nat),Vl st cs as=some (x,ls)->as.length=cs.length
 | [],[],_,_,_=>rfl
 | [],_::_,_,_,he=>by simp [Vl] at he
 |_::_,[],_,_,he=>by simp [Vl] at he
 |c::r,a::as,x,ls,he=>by
  simp only [Vl] at he
  split at he
  ·rename_i h1 h2
   simp only [Aw,xY r as _ _ h2]
  ·cases he
theorem IB {α β:Type} (f:α->Sem β): ∀(l:List α) (vs:List β),vs.length=l.length->(∀(i:Nat) a v,l[i]?=some a->vs[i]?=some v->(f a).run P w= .ok v w)->(l.mapM f).run P w= .ok vs w
 | [],[],_,_=>by simp
 | [],_::_,h,_=>by simp at h
 |_::_,[],h,_=>by simp at h
 |a::l,v::vs,h,hr=>by
  rw [List.mapM_cons]
  simp only [Sem.run_bind,hr 0 a v rfl rfl,Result.andThen_ok,IB f l vs (by simpa using h) (λi a' v' ha hv=>hr (i+1) a' v' (by simpa using ha) (by simpa using hv)),Sem.run_pure]
theorem vU (hT:Eb P T) (Ot:Kv P Γ) (hm:P.follows .mixedOrders=true) {f:FuncId} {fn:Func} (hf:P.funcs[f]?=some fn) (s:MSpec) (w:World) (S:Nat->Prop) (π:Pi) (us:List Value) (x:Ins.den s.ins)
  (r:CKs.den s.outs) (o:IOs.den s.ins) (g:Nat) (mO:List Value) (Ra:oF s w g us mO) (hSg:s.ptr.isSome=true->S g) (Zw:eW w (λb=>Vy π b\/S b) π 0 s.ins x us) (ia:im π (λb=>b<w.heap.size)) (hS: ∀b,S b->b<w.heap.size/\ ¬Vy π b) (ZN: ∀l,At (Zy 0 s.ins x) l=none->π l=none) (he:Ag5 T Γ s fn x λz=>z=(r,o)):
  Calls P f mO.toArray w λe w'=> ∃v Xh ρ,e= .returned v/\si s w' ρ (Xh.drop s.aF) v/\lG s π w' g Xh o/\Ku w.heap.size (λb=>Vy π b\/s.gv g b) w w'/\Mj w' (kC S π ρ) π 0 s.ins o/\Jk w' (kC S π ρ) ρ 0 s.outs r Xh/\
   im ρ (λb=>b<w'.heap.size/\(w.heap.size<=b\/ ∃l q,l<Bn/\π l=some q/\q.Cv b))/\(∀l,(∀k,k<s.Uw->l≠Kj k)->ρ l=none)/\(∀kj∈s.keeps,DI w w' (π (Dy false kj.1)) (ρ (Kj kj.2)) (s.Fk x)):=by
 obtain ⟨hlen,c,hb,he⟩:=he
 simp only [Ag,Nf] at hlen
 obtain ⟨hlen,ZR⟩:=hlen
 unfold AP at ZR
 simp only [Ag] at ZR
 have An0:=ZR.1
 let qZ:Pi:=Apl s g π
 let Sg:Nat->Prop:= λb=>S b/\ ¬s.gv g b
 have hvl: ∀b j,j<1000->Dy b j≠Ox:= λb j hj=>by cases b<;>(unfold Dy Ox;simp;omega)
 have zt: ∀b j,0<=j->j<0+s.ins.length->qZ (Dy b j)=π (Dy b j):= λb j _ hj=>Ak λh=>hvl b j (by omega) h.2
 have Agw: ∀b j,0<=j->j<0+s.ins.length->π (Dy b j)=qZ (Dy b j):= λb j h1 h2=>(zt b j h1 h2).symm
 have Ajc:At (Zy 0 s.ins x) Ox=none:=Bk λhn=>by
  obtain ⟨b,j,_,h2,h3⟩:=tw s.ins 0 x Ox hn
  exact hvl b j (by omega) h3.symm
 have XD: ∀l q,qZ l=some q->(π l=some q/\(s.ptr.isSome=true->l≠Ox))\/(s.ptr.isSome=true/\l=Ox/\q=⟨g,0,0,λb=>b=g,λb=>b=g⟩):= λl q hq=>by
  have hq:(if s.ptr.isSome=true/\l=Ox then some ⟨g,0,0,λb=>b=g,λb=>b=g⟩ else π l)=some q:=hq
  split at hq
  ·rename_i hc;exact .inr ⟨hc.1,hc.2,(Bd hq).symm⟩
  ·rename_i hc;exact .inl ⟨hq,λh1 h2=>hc ⟨h1,h2⟩⟩
 have ey: ∀b,Vy qZ b↔Vy π b\/s.gv g b:= λb=>by
  constructor
  ·rintro ⟨l,q,h1,h2⟩
   rcases XD l q h1 with ⟨h3,_⟩|⟨h3,h4,rfl⟩
   ·exact .inl ⟨l,q,h3,h2⟩
   ·exact .inr ⟨h3,h2⟩
  ·rintro (⟨l,q,h1,h2⟩|⟨h1,rfl⟩)
   ·refine ⟨l,q,?_,h2⟩
    show (if s.ptr.isSome=true/\l=Ox then _ else π l)=some q
    rw [Ak]
    ·exact h1
    ·rintro ⟨_,rfl⟩
     rw [ZN Ox Ajc] at h1;cases h1
   ·exact ⟨Ox,⟨b,0,0,λc=>c=b,λc=>c=b⟩,Ab ⟨h1,rfl⟩,rfl⟩
 have hgS: ∀b,s.gv g b->S b:= λb ⟨h1,h2⟩=>h2▸hSg h1
 have Aio:eW w (λb=>Vy qZ b\/Sg b) qZ 0 s.ins x us:=eW.congr s.ins 0 x us zt (eW.It (λb hb=>by
  rcases hb with hb|hb
  ·rcases (ey b).1 hb with hb|hb
   ·exact .inl hb
   ·exact .inr (hgS b hb)
  ·exact .inr hb.1) s.ins 0 x us Zw)
 have An7:im qZ (λb=>b<w.heap.size):=⟨λl q b h1 h2=>by
  rcases XD l q h1 with ⟨h3,_⟩|⟨h3,h4,rfl⟩
  ·exact ia.Xm l q b h3 h2
  ·exact (hS b (hgS b ⟨h3,h2⟩)).1,λl l' q q' b h1 h2 h3 h4=>by
  rcases XD l q h1 with ⟨h5,_⟩|⟨h5,h6,rfl⟩<;>rcases XD l' q' h2 with ⟨h7,_⟩|⟨h7,h8,rfl⟩
  ·exact ia.inj l l' q q' b h5 h7 h3 h4
  ·exact absurd ⟨l,q,h5,h3⟩ (hS b (hgS b ⟨h7,h4⟩)).2
  ·exact absurd ⟨l',q',h7,h4⟩ (hS b (hgS b ⟨h5,h3⟩)).2
  ·rw [h6,h8]⟩
 have Ars: ∀b,Sg b->b<w.heap.size/\ ¬Vy qZ b:= λb hb=>⟨(hS b hb.1).1,λho=>((ey b).1 ho).elim (hS b hb.1).2 hb.2⟩
 have RM: ∀l,At (qp s x) l=match At (Zy 0 s.ins x) l with|some b=>some b|none=>if l=Ox then s.ptr.map λp=> .var p.1 ((bR 0 s.ins x).take p.2) else none:= λl=>by
  unfold qp
  cases hp:s.ptr with
  |none=>cases At (Zy 0 s.ins x) l<;>simp
  |some p=>
   simp only
   rw [qn]
   cases At (Zy 0 s.ins x) l with
   |some b=>rfl
   |none=>
    simp only [At,Am]
    by_cases e:l=Ox
    ·rw [Ab e,Ab e.symm]
    ·rw [Ak e,Ak (λh=>e h.symm)]
 let π0:Pi:= λl=>(qZ l).map full
 have un: ∀l q,π0 l=some q-> ∃q0,qZ l=some q0/\q=full q0:= λl q hq=>by
  have hq:(qZ l).map full=some q:=hq
  cases hp:qZ l with
  |none=>rw [hp] at hq;cases hq
  |some q0=>rw [hp] at hq;exact ⟨q0,rfl,(Bd hq).symm⟩
 have ZU: ∀l b,At (Zy 0 s.ins x) l=some b->At (qp s x) l=some b:= λl b hb=>by rw [RM l,hb]
 have hrc:Na ⟨w,Sg,Vy qZ,π0⟩ w π0 (qp s x) (bR 0 s.ins x) us:=FV (λ_=>rfl) s.ins 0 x us (by omega) Aio ZU
 have Aab:s.ptr.isSome=true->π0 Ox=some ⟨g,0,0,λb=>b=g,λb=>b=g⟩:= λhp=>by
  show (if s.ptr.isSome=true/\Ox=Ox then _ else π Ox).map full=_
  rw [Ab ⟨hp,rfl⟩];rfl
 obtain ⟨g1,g2⟩:(aC s (bR 0 s.ins x)).length=mO.length/\ ∀(i:Nat) c v,(aC s (bR 0 s.ins x))[i]?=some c->mO[i]?=some v->Bs ⟨w,Sg,Vy qZ,π0⟩ w π0 (qp s x) c v:=by
  unfold oF at Ra
  cases hp:s.ptr with
  |none=>
   rw [hp] at Ra
   obtain ⟨rfl,FQ⟩:=Ra
   obtain ⟨g1,g2,_,_⟩:=er s.Ii _ us FQ hrc
   rw [show aC s (bR 0 s.ins x)=Te s.Ii (bR 0 s.ins x) by unfold aC;rw [hp]]
   exact ⟨g1,g2⟩
  |some p=>
   rw [hp] at Ra
   obtain ⟨rfl,FQ,_⟩:=Ra
   obtain ⟨g1,g2,_,_⟩:=er s.Ii _ (us.drop p.2) FQ (Na.take p.2 hrc).2
   rw [show aC s (bR 0 s.ins x)= .at (.Hr Ox 0)::Te s.Ii ((bR 0 s.ins x).drop p.2) by unfold aC;rw [hp]]
   refine ⟨by simp [g1],λi c v h1 h2=>?_⟩
   rcases i with _|i
   ·simp only [Bz,Aa] at h1 h2
    subst h1;subst h2
    exact ⟨_,p.1,(bR 0 s.ins x).take p.2,by rw [RM,Ajc];simp [hp],Aab (by rw [hp];rfl),rfl⟩
   ·exact g2 i c v (by simpa using h1) (by simpa using h2)
 have h0:Rel ⟨w,Sg,Vy qZ,π0⟩ {tmps:=aC s (bR 0 s.ins x)++List.replicate (fn.ntmps-(aC s (bR 0 s.ins x)).length) .undef,heap:=qp s x}
   {tmps:=mO.toArray++Array.replicate (fn.ntmps-mO.toArray.size) undef,defers:= []} w:=by
  refine ⟨π0,⟨Ku.refl _ _ _,λb hb=>Ars b hb,λl q b h1 h2=>?_,λl q b h1 h2=>?_,λl l' q q' b h1 h2 h3 h4=>?_,λl _ _=>bB.rfl' _,λl=>?_⟩,⟨by simp [g1],rfl,λt=>?_⟩⟩
  ·obtain ⟨q0,_,rfl⟩:=un l q h1;exact h2
  ·obtain ⟨q0,h3,rfl⟩:=un l q h1
   exact ⟨.inr ⟨l,q0,h3,h2⟩,An7.Xm l q0 b h3 h2⟩
  ·obtain ⟨q0,h5,rfl⟩:=un l q h1
   obtain ⟨q0',h6,rfl⟩:=un l' q' h2
   exact An7.inj l l' q0 q0' b h5 h6 h3 h4
  ·cases hh:At (Zy 0 s.ins x) l with
   |none=>
    by_cases hv:s.ptr.isSome=true/\l=Ox
    ·obtain ⟨hps,rfl⟩:=hv
     obtain ⟨p,hp⟩:=Xf.1 hps
     refine Gp.Lu (b:= .var p.1 ((bR 0 s.ins x).take p.2)) ?_ (by rw [RM,hh];simp [hp])
     unfold oF at Ra
     rw [hp] at Ra
     obtain ⟨_,_,h1,h2,h3⟩:=Ra
     rw [Aab hps]
     exact ⟨_,rfl,rfl,_,h2,Na.to (Na.take p.2 hrc).1 h3⟩
    ·refine Gp.Um ?_ ?_
     ·show (if s.ptr.isSome=true/\l=Ox then _ else π l).map full=none
      rw [Ak hv,ZN l hh];rfl
     ·rw [RM,hh]
      simp only
      split
      ·rename_i e
       cases hp:s.ptr with
       |none=>rfl
       |some p=>exact absurd ⟨by rw [hp];rfl,e⟩ hv
      ·rfl
   |some b=>exact Gp.Lu (m6 (π0:=qZ) (λb hb=>by
    rcases hb with ⟨l,q,h1,h2⟩|hb|⟨hb,_⟩
    ·obtain ⟨q0,h3,rfl⟩:=un l q h1;exact .inl ⟨l,q0,h3,h2⟩
    ·exact .inr hb
    ·cases hb) rfl (λ_=>rfl) s.ins 0 x us Aio l b hh) (ZU l b hh)
  ·show Bs _ w _ _ ((aC s (bR 0 s.ins x)++List.replicate _ AV.undef).getD t .undef) ((mO.toArray++Array.replicate _ undef).getD t undef)
   by_cases ht:t<mO.length
   ·rw [Ai,As (by omega),<-Ai]
    rw [cr,Tp (by simpa using ht)]
    have:=g2 t _ _ (Ac (by omega)) (Ac ht)
    simpa [Ai,Ac ht,Ac (show t<(aC s (bR 0 s.ins x)).length by omega)] using this
   ·have:(aC s (bR 0 s.ins x)++List.replicate (fn.ntmps-(aC s (bR 0 s.ins x)).length) AV.undef).getD t .undef= .undef:=by
     rw [Ai,Ar (by omega)]
     rw [Ze]
     split<;>rfl
    rw [this];trivial
 have fin: ∀(st:St) (a':Act) (w':World),YL T s fn x st (λz=>z=(r,o))->Rel ⟨w,Sg,Vy qZ,π0⟩ st a' w'->Alm P s fn x w S π g r o a' w':=by
  intro st a' w' rm hrel
  obtain ⟨cn,h'⟩:=hrel
  have Ah3:Bn<=Ox:=by unfold Bn Ox;omega
  obtain ⟨bc,ql,Att,hbc⟩: ∃bc,km T s fn x st bc (λz=>z=(r,o))/\(s.ptr.isSome=true-> ∃b,At st.heap Ox=some b/\b.row=none)/\
    (Om st 0 s.ins=some o-> ∃bv,Na ⟨w,Sg,Vy qZ,π0⟩ w' cn st.heap bc bv/\bv.length=s.aF/\ ∀tl,lG s π w' g (bv++tl) o):=by
   unfold YL at rm
   cases hp:s.ptr with
   |none=>
    rw [hp] at rm
    exact ⟨[],rm,λh=>by simp at h,λ_=>⟨[],trivial,by simp [MSpec.aF,hp],λtl=>by simp [lG,hp]⟩⟩
   |some p=>
    rw [hp] at rm
    obtain ⟨vs,cs,h1,h2,h3,h4,h5⟩:=rm
    unfold St.at at h1
    refine ⟨cs,h5,λ_=>⟨_,h1,rfl⟩,λzq=>?_⟩
    obtain ⟨q,k1,k2,cur,k3,k4⟩:=(h'.1.heap Ox).Ro h1
    have hsv:bB (π0 Ox) (cn Ox):=h'.1.ic Ox Ah3 (by rw [h1];simp)
    rw [Aab (by rw [hp];rfl),k1] at hsv
    have hqg:g=q.g:=hsv.1
    obtain ⟨bv,g1,g2,g3⟩:=Zh (π0:=qZ) (λk hk=>h'.1.ic _ (Nat.le_of_not_lt (bj k)) hk) s.ins 0 vs cur.toList cs o (Na.of k4) h3 h4 zq
    refine ⟨bv,g1,by rw [g2,h2];simp [MSpec.aF,hp],λtl=>?_⟩
    unfold lG
    rw [hp]
    refine ⟨cur.toList,by rw [hqg];simpa using k3,λu hu=>?_,Ev.congr s.ins 0 o p.2 _ _ Agw (h2▸g3 tl)⟩
    obtain ⟨i,hi,rfl⟩:=Bh.1 hu
    have hl:=k4.1
    obtain ⟨u',h6,h7,_⟩:=k4.2 i (vs[i]'(by omega)) (Ac _)
    rw [Ac hi] at h6
    rw [Bd h6];exact h7
  unfold km at ql
  split at ql
  ·exact ql.elim
  rename_i l hl
  split at ql
  ·exact ql.elim
  rename_i as ml gX
  split at ql
  rotate_left
  ·exact ql.elim
  rename_i r' ls o' LY qk
  obtain ⟨Jx,xE,hro⟩:=ql
  simp only [Ag,Nf] at Jx
  obtain ⟨⟨⟨KD,Axt⟩,Avv⟩,Amu⟩:=Jx
  simp only [Ae] at hro
  obtain ⟨rfl,rfl⟩:=hro
  obtain ⟨bv,hbv,As4,As1⟩:=hbc qk
  have LW:=Yl KD
  obtain ⟨n1,n2,n3⟩:=Dv.1 LW
  obtain ⟨m1,m2,m3⟩:=Dv.1 n1
  obtain ⟨vs,v1,v2,v3,v4⟩:=Yn hT h' _ _ hl
  have hrs:fn.results=fn.results.toList.toArray:=Array.toArray_toList.symm
  have Vu: ∀v,(if h:vs.toArray.size=1 then vs.toArray[0] else .tuple vs.toArray)=v->(results fn a'.tmps).run P w'= .ok v w':=by
   intro v hv
   rw [fO,hrs,List.mapM_toArray]
   simp only [map_eq_pure_bind,bind_assoc,pure_bind]
   simp only [Sem.run_bind,IB (OJ a'.tmps) _ vs v1 v3,Result.andThen_ok,Sem.run_pure]
   rw [hv]
  obtain ⟨wX,v,qm,Atr,hv,hqm⟩: ∃wX v qm,Na ⟨w,Sg,Vy qZ,π0⟩ w' cn st.heap as wX/\(results fn a'.tmps).run P w'= .ok v w'/\
    ((s.rp=none/\ml= []/\qm=none/\Abt s.Hk s.Gz wX v/\da s.Gz wX)\/
     ∃tid m q,s.rp=some tid/\ml= [m]/\m<Bn/\qm=some q/\cn m=some q/\q.Cv q.g/\w'.heap[q.g]?=some (.cells wX.toArray tid (0,0))/\(∀u∈wX,u.oneCell'=true)/\v= .pointer (some ⟨q.g,0,none⟩)):=by
   unfold OI at gX
   split at gX
   ·rename_i KF
    split at gX
    rotate_left
    ·cases gX
    rename_i hmul
    cases oE:ungroup s.Gz l with
    |none=>rw [oE] at gX;cases gX
    |some as'=>
     rw [oE] at gX
     simp only [Am,Aa,Ae] at gX
     obtain ⟨rfl,rfl⟩:=gX
     obtain ⟨wX,e1,e2,e3⟩:=ae s.Gz l vs as' (by omega) v4 oE
     have hv: ∃v,(results fn a'.tmps).run P w'= .ok v w'/\Abt s.Hk s.Gz wX v:=by
      unfold Abt
      rw [<-e1,hmul]
      rcases Nat.lt_or_ge 1 l.length with h1|h1
      ·have hb1:Nat.blt 1 l.length=true:=by simpa using h1
       simp only [hb1,Ph]
       refine ⟨.tuple vs.toArray,Vu _ ?_,rfl⟩
       rw [dif_neg (by simp;omega)]
      ·have hb1:Nat.blt 1 l.length=false:=by rw [<-Ge];simpa using h1
       simp only [hb1,Dd,Rl]
       rcases vs with _|⟨v,_|⟨v',vs⟩⟩
       ·exact ⟨_,Vu _ (by simp;rfl), .inr rfl⟩
       ·exact ⟨v,Vu _ (by simp), .inl rfl⟩
       ·exfalso;simp only [Aw] at v1;omega
     obtain ⟨v,hv1,hv2⟩:=hv
     exact ⟨wX,v,none,e3,hv1, .inl ⟨KF,rfl,rfl,hv2,e2⟩⟩
   ·rename_i tid KF
    split at gX
    rotate_left
    ·cases gX
    rename_i m i
    split at gX
    rotate_left
    ·cases gX
    rename_i Vc vs' hm
    split at gX
    rotate_left
    ·cases gX
    rename_i hc
    obtain ⟨rfl,rfl,hmp⟩:=hc
    simp only [Aa,Ae] at gX
    obtain ⟨rfl,rfl⟩:=gX
    unfold St.at at hm
    rcases vs with _|⟨v,_|⟨v',vs⟩⟩
    ·exfalso;simp only [Aw,Fb] at v1 v2;omega
    ·obtain ⟨q,Azw,vs2,q1,q2,q3⟩:=v4 0 _ v rfl rfl
     rw [hm] at q1;cases q1
     obtain ⟨q',k1,k2,cur,k3,k4⟩:=(h'.1.heap m).Ro hm
     rw [q2] at k1;cases k1
     refine ⟨cur.toList,v,some q,Na.of k4,Vu _ (by simp), .inr ⟨_,m,q,KF,rfl,by simpa using hmp,rfl,q2,k2,by simpa using k3,λu hu=>?_,q3⟩⟩
     obtain ⟨i,hi,rfl⟩:=Bh.1 hu
     have hl:=k4.1
     obtain ⟨u',h6,h7,_⟩:=k4.2 i (vs'[i]'(by omega)) (Ac _)
     rw [Ac hi] at h6
     rw [Bd h6];exact h7
    ·exfalso;simp only [Aw,Fb] at v1 v2;omega
  obtain ⟨DG,p1,p2,p3,p4,p5⟩:=xZ h'.1 s.outs 0 (bc++as) (bv++wX) r' ls (hbv.append Atr) LY m2
  obtain ⟨io1,io2⟩:=Ut (π0:=qZ) h'.1 (λ_=>rfl) s.ins 0 x us o' Aio qk
  have Amg:(bv++wX).drop s.aF=wX:=by rw [<-As4];simp
  let ρ:Pi:= λl0=>if l0=Kj s.outs.length then qm else DG l0
  have Ajj:ρ (Kj s.outs.length)=qm:=Ab rfl
  have Ao3: ∀l0,l0≠Kj s.outs.length->ρ l0=DG l0:= λl0 h=>Ak h
  have Ao2: ∀j,j<s.outs.length->ρ (Kj j)=DG (Kj j):= λj hj=>Ao3 _ (by unfold Kj;omega)
  have vF: ∀l0 q,ρ l0=some q->(l0=Kj s.outs.length/\qm=some q)\/(l0≠Kj s.outs.length/\DG l0=some q):= λl0 q h=>by
   by_cases e:l0=Kj s.outs.length
   ·subst e;rw [Ajj] at h;exact .inl ⟨rfl,h⟩
   ·rw [Ao3 l0 e] at h;exact .inr ⟨e,h⟩
  have Anc: ∀q,qm=some q-> ∃m,ml= [m]/\m<Bn/\cn m=some q:= λq hq=>by
   rcases hqm with ⟨_,_,h1,_⟩|⟨_,m,q',_,h1,h2,h3,h4,_⟩
   ·rw [h1] at hq;cases hq
   ·rw [h3] at hq;cases hq;exact ⟨m,h1,h2,h4⟩
  have p3': ∀l0 q b,ρ l0=some q->q.Cv b-> ∃l1∈ml++ls,∃p,cn l1=some p/\p.cl b/\((s.outs.all λc=>!c.isX)=true->p.Cv b)/\((l1∈ls)\/l1<Bn):= λl0 q b h1 h2=>by
   rcases vF l0 q h1 with ⟨_,h3⟩|⟨_,h3⟩
   ·obtain ⟨m,e1,e2,e3⟩:=Anc q h3
    exact ⟨m,by rw [e1];simp,q,e3,h'.1.sub m q b e3 h2,λ_=>h2, .inr e2⟩
   ·obtain ⟨l1,g1,p,g2,g3,g4⟩:=p3 l0 q b h3 h2
    exact ⟨l1,Ci _ g1,p,g2,g3,g4, .inl g1⟩
  have p4': ∀l0 l1 q q' b,ρ l0=some q->ρ l1=some q'->q.Cv b->q'.Cv b->l0=l1:= λl0 l1 q q' b h1 h2 h3 h4=>by
   have EJ: ∀l0 q q' b,DG l0=some q->qm=some q'->q.Cv b->q'.Cv b->False:= λl0 q q' b h1 h2 h3 h4=>by
    obtain ⟨m,e1,e2,e3⟩:=Anc q' h2
    obtain ⟨l1,g1,p,g2,g3,_⟩:=p3 l0 q b h1 h3
    have:=h'.1.inj m l1 q' p b e3 g2 (h'.1.sub m q' b e3 h4) g3
    exact m3 m (by rw [e1];simp) l1 g1 this
   rcases vF l0 q h1 with ⟨e1,h5⟩|⟨e1,h5⟩<;>rcases vF l1 q' h2 with ⟨e2,h6⟩|⟨e2,h6⟩
   ·rw [e1,e2]
   ·exact (EJ l1 q' q b h6 h5 h4 h3).elim
   ·exact (EJ l0 q q' b h5 h6 h3 h4).elim
   ·exact p4 l0 l1 q q' b h5 h6 h3 h4
  have RU: ∀l0 q,Bn<=l0->qZ l0=some q->At st.heap l0≠none/\(l0∈Pu 0 s.ins\/ ∃b,At st.heap l0=some b/\b.row=none):= λl0 q h1 h2=>by
   rcases XD l0 q h2 with ⟨h3,_⟩|⟨h3,rfl,_⟩
   ·have zq:=xI s.ins 0 x l0 An0 (by omega) (λhnn=>by rw [ZN l0 hnn] at h3;cases h3) (by omega)
    exact ⟨io2 l0 zq, .inl zq⟩
   ·obtain ⟨b,h4,h5⟩:=Att h3
    exact ⟨by rw [h4];simp, .inr ⟨b,h4,h5⟩⟩
  have hDO:(s.outs.all λc=>!c.isX)=true-> ∀b,kC Sg qZ ρ b->Vy cn b\/Sg b:=by
   intro hx b hb
   rcases hb with hb|⟨l0,q,h1,h2,h3⟩|⟨l0,q,h1,h2⟩
   ·exact .inr hb
   ·have hs:=h'.1.ic l0 h1 (RU l0 q h1 h2).1
    have hs:bB ((qZ l0).map full) (cn l0):=hs
    rw [h2] at hs
    cases tt:cn l0 with
    |none=>rw [tt] at hs;exact hs.elim
    |some q1=>rw [tt] at hs;exact .inl ⟨l0,q1,tt,(hs.2.2.2 b).1 h3⟩
   ·obtain ⟨m,_,p,hm2,_,hm4,_⟩:=p3' l0 q b h1 h2
    exact .inl ⟨m,p,hm2,hm4 hx⟩
  have hDD: ∀b,kC S π ρ b->kC Sg qZ ρ b:= λb hb=>by
   rcases hb with hb|⟨l0,q,h1,h2,h3⟩|hb
   ·by_cases xC:s.gv g b
    ·obtain ⟨hps,rfl⟩:=xC
     exact .inr (.inl ⟨Ox,_,Ah3,Ab ⟨hps,rfl⟩,rfl⟩)
    ·exact .inl ⟨hb,xC⟩
   ·refine .inr (.inl ⟨l0,q,h1,?_,h3⟩)
    show (if s.ptr.isSome=true/\l0=Ox then _ else π l0)=some q
    rw [Ak]
    ·exact h2
    ·rintro ⟨_,rfl⟩
     rw [ZN Ox Ajc] at h2;cases h2
   ·exact .inr (.inr hb)
  have hfl:s.flat=true\/(s.outs.all λc=>!c.isX)=true:=by unfold MSpec.Aav at Amu;simpa only [Kn] using Amu
  have io1:Mj w' (kC S π ρ) π 0 s.ins o':=by
   refine Mj.congr s.ins 0 o' Agw ?_
   rcases hfl with hf|hf
   ·unfold MSpec.flat at hf
    simp only [Ag] at hf
    exact Mj.any s.ins 0 o' hf.2 io1
   ·exact Mj.It (λb hb=>hDO hf b (hDD b hb)) s.ins 0 o' io1
  have p1:Jk w' (kC S π ρ) ρ 0 s.outs r' (bv++wX):=by
   have p1:Jk w' (λb=>Vy cn b\/Sg b) ρ 0 s.outs r' (bv++wX):=Jk.ZC s.outs 0 r' _ (λj _ hj=>Ao2 j (by omega)) p1
   rcases hfl with hf|hf
   ·unfold MSpec.flat at hf
    simp only [Ag] at hf
    exact Jk.any s.outs 0 r' (bv++wX) hf.1 p1
   ·exact Jk.It (λb hb=>hDO hf b (hDD b hb)) s.outs 0 r' (bv++wX) p1
  refine ⟨v,bv++wX,ρ,h'.2.defers,hv,?_,As1 wX,⟨h'.1.below.os,h'.1.below.tape,h'.1.below.output,h'.1.below.size,λk hk hn=>h'.1.below.block k hk λho=>hn ((ey k).1 ho)⟩,io1,p1,⟨λl0 q b h1 h2=>?_,p4'⟩,λl0 hl0=>?_,λkj YC=>?_⟩
  ·rw [Amg]
   unfold si
   rcases hqm with ⟨h1,_,_,h2⟩|⟨tid,m,q,h1,_,_,h3,_,h4,h5,h6,h7⟩
   ·rw [h1];exact h2
   ·rw [h1];exact ⟨q,by rw [Ajj,h3],h4,h5,h6,h7⟩
  ·obtain ⟨m,hm1,p,hm2,hm3,_,hm4⟩:=p3' l0 q b h1 h2
   obtain ⟨k1,k2⟩:=h'.1.place m p b hm2 hm3
   refine ⟨k2,k1.imp id λ⟨c0,q0,h5,h6⟩=>?_⟩
   have Jj:c0<Bn:=Bk λhn=>by
    obtain ⟨Iz,zq⟩:=RU c0 q0 (by omega) h5
    have hs:=h'.1.ic c0 (by omega) Iz
    have hs:bB ((qZ c0).map full) (cn c0):=hs
    rw [h5] at hs
    cases tt:cn c0 with
    |none=>rw [tt] at hs;exact hs.elim
    |some q1=>
     rw [tt] at hs
     have hf1:q1.Cv b:=(hs.2.2.2 b).1 h6
     have:=h'.1.inj c0 m q1 p b tt hm2 (h'.1.sub c0 q1 b tt hf1) hm3
     subst this
     rcases hm4 with hm4|hm4
     ·rcases zq with zq|⟨b1,hb1,hb2⟩
      ·exact n3 c0 hm1 c0 zq rfl
      ·obtain ⟨b2,hb3,hb4⟩:=u7 s.outs _ _ _ LY c0 hm4
       rw [hb1] at hb3;cases hb3
       exact hb4 hb2
     ·exact hn hm4
   refine ⟨c0,q0,Jj,?_,h6⟩
   rcases XD c0 q0 h5 with ⟨h7,_⟩|⟨_,h7,_⟩
   ·exact h7
   ·omega
  ·cases hp:ρ l0 with
   |none=>rfl
   |some q=>
    rcases vF l0 q hp with ⟨e,h3⟩|⟨_,h3⟩
    ·refine absurd e (hl0 _ ?_)
     rcases hqm with ⟨_,_,h4,_⟩|⟨tid,m,q',h4,_⟩
     ·rw [h4] at h3;cases h3
     ·unfold MSpec.Uw;rw [h4];simp
    ·obtain ⟨j,_,j2,j3⟩:=p2 l0 q h3
     exact absurd j3 (hl0 j (by unfold MSpec.Uw;omega))
  ·obtain ⟨l0,off,len,e,te,rows,out,p,q1,q2,q3,q4,q5⟩:=xM xE kj YC
   have hj:kj.2<s.outs.length:=by
    rw [<-xY s.outs _ _ _ LY]
    exact (An.1 q1).1
   have e1:=p5 kj.2 l0 off len e te rows out (some p) q1 q2
   rw [Bo] at e1
   rw [Ao2 _ hj,e1]
   have hk:=((h'.1.heap l0).Ro q2).2
   obtain ⟨l1,n1⟩:=p
   simp only [KeptAt] at hk
   dsimp only at q3 q4
   subst q3
   have UE:π0 (Dy false kj.1)=(π (Dy false kj.1)).map full:=by
    show (if s.ptr.isSome=true/\Dy false kj.1=Ox then _ else π (Dy false kj.1)).map full=_
    rw [Ak λh=>hvl false kj.1 q5 h.2]
   rw [UE] at hk
   unfold DI
   cases hp:π (Dy false kj.1) with
   |none=>
    rw [hp] at hk
    cases tt:cn l0 with
    |none=>trivial
    |some q=>rw [tt] at hk;exact hk.elim
   |some q0=>
    rw [hp] at hk
    cases tt:cn l0 with
    |none=>rw [tt] at hk;exact hk.elim
    |some q=>
     rw [tt] at hk
     obtain ⟨k1,k2,k3,k4⟩:=hk
     exact ⟨k1,k2,k3,λj hj hc=>k4 j (by omega) hc⟩
 refine calls_of_wp hf hb ?_
 refine (uy hT Ot hm he _ w _ h0 λe st a' w' ⟨Iz,rm⟩ h'=>?_).1
 obtain ⟨v,Xh,ρ,p1,p2,p3⟩:=fin st a' w' rm h'
 cases e with
 |normal=>exact ⟨p1,v,p2,v,Xh,ρ,rfl,p3⟩
 |ret=>exact ⟨p1,v,p2,v,Xh,ρ,rfl,p3⟩
 |exit id=>exact absurd rfl (Iz id)
end
end Go.Proofs.YtkkdpknjohcekaaGreat
