/-
  Part 27 of the proof that the statement FnIterativeDeepening holds.
-/
import Derived.Test.YtkkdpknjohcekaaGreatCFIterativeDeepening25
namespace Go.Proofs.YtkkdpknjohcekaaGreat
open Go.RowKit
section
variable {P:Program} {T:Tab} {Γ:Env} {X:Ctx} {w w':World} {π:Pi} {H:List (Nat×OB)}
theorem tn: ∀(cs:List (Bool×CK)) (k:Nat) (x:Ins.den cs) (l:Nat),Av (Zv k cs x) l≠none-> ∃b j,k<=j/\j<k+cs.length/\l=Dv b j
 | [],_,_,_,h=>absurd rfl h
 |p::r,k,x,l,h=>by
  simp only [Zv] at h
  by_cases e:l=Dv p.1 k
  ·exact ⟨p.1,k,Ap _,by simp,e⟩
  ·have:Av (Zv (k+1) r x.2) l≠none:=by
    cases hc:ko (Dv p.1 k) p.2 x.1 with
    |none=>rw [hc] at h;exact h
    |some b=>rw [hc] at h;simpa only [iy,Av,Ai (Hr e)] using h
   obtain ⟨b,j,h1,h2,h3⟩:=tn r (k+1) x.2 l this
   exact ⟨b,j,by omega,by simp;omega,h3⟩
theorem SL {p:Bool×CK} {r:List (Bool×CK)} {k:Nat} {x:Ins.den (p::r)} (hk:k+(r.length+1)<100000) {l:Nat} {b:OB} (h:Av (Zv (k+1) r x.2) l=some b):Av (Zv k (p::r) x) l=some b:=by
 obtain ⟨b',j,h1,h2,rfl⟩:=tn r (k+1) x.2 l (by rw [h];simp)
 simp only [Zv]
 cases ko (Dv p.1 k) p.2 x.1 with
 |none=>exact h
 |some c=>simp only [iy,Av];rw [Ai (QH (by omega) (by omega) (by omega))];exact h
theorem WZ {D:Nat->Prop} (hD: ∀b,Cx X.w0.heap.size X.Sc π false b->D b) (hw0:X.w0=w) {l:Nat} {r:Option Real} (dq:X.gZ l=r.map full) {u:Value} {c:CK} {x:c.den} (h:eP w D r u c x) {b:OB} (hb:ko l c x=some b):Cg X w π H (r.map full) b:=by
 have Wj: ∀ {e:Ty} {es:List Value} {y:e.den},Cells w D e es y->Cells w (Cx X.w0.heap.size X.Sc π false) e es y:= λ {e es y} h=>Cells.Ft (Ap _) (λ_ _ _=>rfl) (λb _ hb=>hD b hb) e es y h
 cases c with
 |Eh τ=>cases hb
 |row e te=>
  simp only [ko,Aa] at hb;subst hb
  obtain ⟨_,h⟩:=h
  simp only [gk] at h
  simp only [Cg,Ks]
  cases r with
  |none=>exact h
  |some q=>
   obtain ⟨k1,cu,ti,k2,k3,k4,k5,k6⟩:=h
   exact ⟨⟨k1.1,k1.2,λh=>by cases h⟩,cu,ti,k2,k3,k4,k5,λi y hy=>by
    obtain ⟨es,g1,g2,g3⟩:=k6 i y hy
    exact ⟨es,g1,g2,Wj g3⟩,λh=>by cases h⟩
 |Ij e te=>
  simp only [ko,Aa] at hb;subst hb
  cases r<;>exact h.2
 |part e te=>
  simp only [ko,Aa] at hb;subst hb
  obtain ⟨_,hf,h⟩:=h
  simp only [Cg,Ks]
  cases r with
  |none=>exact h
  |some q=>
   obtain ⟨k1,cu,ti,k2,k3,k4,k5,k6⟩:=h
   exact ⟨⟨k1.1,k1.2,λh=>by cases h⟩,cu,ti,k2,k3,k4,k5,λi y hy=>by
    obtain ⟨es,g1,g2,g3⟩:=k6 i y hy
    exact ⟨es,g1,g2,Wj g3⟩,λh=>by cases h⟩
 |Bn e te kp=>
  simp only [ko,Aa] at hb;subst hb
  have h2:aB w D r e x none:=h.2
  have h3:=aB.Jr h2 hD
  refine ⟨by cases r<;>exact h3,?_⟩
  cases kp with
  |false=>trivial
  |true=>
   simp only [Py,KeptAt]
   rw [dq]
   cases r with
   |none=>trivial
   |some q=>exact ⟨rfl,rfl,rfl,λj _ _=>by rw [hw0]⟩
theorem m4 {D:Nat->Prop} (hD: ∀b,Cx X.w0.heap.size X.Sc π false b->D b) (hw0:X.w0=w) {π0:Pi} (dq: ∀l,X.gZ l=(π0 l).map full): ∀(cs:List (Bool×CK)) (k:Nat) (x:Ins.den cs) (us:List Value),eR w D π0 k cs x us-> ∀l b,Av (Zv k cs x) l=some b->Cg X w π H ((π0 l).map full) b
 | [],_,_,_,_,_,_,h=>by cases h
 |_::_,_,_,[],h,_,_,_=>h.elim
 |p::r,k,x,u::us,h,l,b,hb=>by
  simp only [Zv] at hb
  cases hc:ko (Dv p.1 k) p.2 x.1 with
  |none=>rw [hc] at hb;exact m4 hD hw0 dq r (k+1) x.2 us h.2 l b hb
  |some c=>
   rw [hc] at hb
   simp only [iy,Av] at hb
   split at hb
   ·rename_i e;subst e
    simp only [Aa] at hb;subst hb
    exact WZ hD hw0 (dq _) h.1 hc
   ·exact m4 hD hw0 dq r (k+1) x.2 us h.2 l b hb
theorem DX {S:Nat->Prop} {π0:Pi} {gv:Nat->Prop} {gZ:Pi} (eg: ∀l,π l=(π0 l).map full): ∀(cs:List (Bool×CK)) (k:Nat) (x:Ins.den cs) (us:List Value),k+cs.length<100000->eR w (λb=>Wa π0 b\/S b) π0 k cs x us->(∀l b,Av (Zv k cs x) l=some b->Av H l=some b)->
  Nk ⟨w,S,gv,gZ⟩ w π H (bP k cs x) us
 | [],_,_,[],_,_,_=>trivial
 | [],_,_,_::_,_,h,_=>h.elim
 |_::_,_,_,[],_,h,_=>h.elim
 |p::r,k,x,u::us,hk,h,hH=>by
  simp only [Aw] at hk
  refine ⟨?_,DX eg r (k+1) x.2 us (by omega) h.2 λl b hb=>hH l b (SL hk hb)⟩
  have h1:=h.1
  have hh: ∀b,ko (Dv p.1 k) p.2 x.1=some b->Av H (Dv p.1 k)=some b:= λb hb=>hH _ b (by simp only [Zv];rw [hb];simp [iy,Av])
  have kv:=eg (Dv p.1 k)
  obtain ⟨io,c⟩:=p
  dsimp only at h1 hh kv⊢
  generalize x.1=y at*
  cases c with
  |Eh τ=>
   show Ct w _ τ u y
   cases hf:τ.flat with
   |true=>exact Ct.flat hf h1.2
   |false=>
    refine h1.2.Jr λb _ hb=>?_
    rcases hb with ⟨l,q,h3,h4⟩|hb|⟨hb,_⟩
    ·rw [eg l] at h3
     cases hp:π0 l with
     |none=>rw [hp] at h3;cases h3
     |some q0=>rw [hp] at h3;simp only [Ak,Aa] at h3;subst h3;exact .inl ⟨l,q0,hp,h4⟩
    ·exact .inr hb
    ·cases hb
  |row e te=>exact ⟨_,e.size,List.length y,hh _ rfl,rfl,by simp,by rw [kv];exact a5 h1.1⟩
  |Ij e te=>exact ⟨_,e.size,List.length y,hh _ rfl,rfl,by simp,by rw [kv];exact a5 h1.1⟩
  |part e te=>exact ⟨_,e.size,List.length y.1,hh _ rfl,rfl,h1.1.2,by rw [kv];exact a5 h1.1.1⟩
  |Bn e te kp=>exact ⟨_,1,List.length y,hh _ rfl,rfl,by simp,by rw [kv];exact a5 h1.1⟩
theorem pv {p:Real} {s off len:Nat} {u:Value} {f:Nat->Prop} (h:Ip (some p) s off len u):Ip (some ⟨p.g,p.o+off,p.cap-off,f,f⟩) s 0 len u:=by
 obtain ⟨ad,h1,h2,h3⟩:=h
 exact ⟨ad,h1,by dsimp only;omega,λh0=>by dsimp only at h0;simpa using h3 (by omega)⟩
theorem u6 {α:Type} {xs:List α} {off len i:Nat} {x:α} (h:((xs.drop off).take len)[i]?=some x):xs[off+i]?=some x:=by
 rw [Cs] at h
 split at h
 ·rw [Da] at h;exact h
 ·cases h
theorem Xs.part {P:Nat->Prop} {g o:Nat} {cur:Array Value} {e:Ty} {xs:List e.den} (off len:Nat) (h:Xs w P g o cur e xs):Xs w P g (o+off) cur e ((xs.drop off).take len):=by
 obtain ⟨Fs,t1,t2,t3,t4⟩:=h
 refine ⟨(Fs.drop off).take len,by simp [t1],Ce.2 ⟨λhm=>(Ce.1 t2).1 (Tb off len _ hm),mc off len (Ce.1 t2).2⟩,λb hb=>t3 b (Tb off len b hb),λi x F hx hF=>?_⟩
 obtain ⟨es,k1,k2,k3⟩:=t4 (off+i) x F (u6 hx) (u6 hF)
 exact ⟨es,k1,λj u hu=>by rw [Gy o off i];exact k2 j u hu,k3⟩
theorem TE {st:St} (h:Nj X w π st.heap) {c:CK} (hg: ∀e te kp,c≠ .Bn e te kp) {a:AC} {u:Value} (hu:Ia X w π st.heap a u) {x:c.den} {ls:List Nat} (he:ky st c a=some (x,ls)):
  ∃r,eP w (λb=>Wa π b\/X.Sc b) r u c x/\ ∀q,r=some q-> ∃l p,ls= [l]/\π l=some p/\(∀b,q.Cq b->p.cl b)/\(c.isX=false-> ∀b,q.Cq b->p.Cq b):=by
 have XO: ∀ {f:Bool} (b:Nat),(Wa π b\/X.Sc b)->Cx X.w0.heap.size X.Sc π f b:= λb h=>h.imp id .inl
 cases c with
 |Eh τ=>
  simp only [ky] at he
  split at he
  ·rename_i hf
   cases hv:Dn st τ a with
   |none=>rw [hv] at he;cases he
   |some p=>
    obtain ⟨fr,y⟩:=p
    rw [hv] at he
    simp only [Ak,Aa,Ae] at he
    obtain ⟨rfl,rfl⟩:=he
    refine ⟨none,⟨rfl,?_⟩,λq hq=>by cases hq⟩
    have Jr: ∀f,Ct w (Cx X.w0.heap.size X.Sc π f) τ u y->Ct w (λb=>Wa π b\/X.Sc b) τ u y:= λf hr=>hr.Jr λk _ hk=>XO k hk
    cases a with
    |data f Ov z=>
     rw [Of] at hv
     split at hv
     ·rename_i ht;subst ht
      simp only [Aa,Ae] at hv
      obtain ⟨_,rfl⟩:=hv
      exact Jr f hu
     ·have Pj:τ.Aq=false:=by unfold iA at hv;split at hv<;>first|rfl|cases hv
      exact Jr _ ⟨[u],di hv hu,by simp [By,Pj]⟩
    |Mo=>
     have hu:u= .slice none 0 0:=hu
     subst hu
     cases τ<;>simp only [Dn,Aa,Ae,reduceCtorEq] at hv
     ·obtain ⟨_,rfl⟩:=hv;exact ⟨[_],⟨none,0,0,rfl,rfl,Ap _, .inl rfl⟩,rfl⟩
     ·obtain ⟨_,rfl⟩:=hv;exact ⟨[_], .inl ⟨rfl,0,rfl⟩,rfl⟩
    |Vw=>
     have hu:u= .pointer none:=hu
     subst hu
     cases τ<;>simp only [Dn,Aa,Ae,reduceCtorEq] at hv
     obtain ⟨_,rfl⟩:=hv;exact ⟨[_], .inl ⟨rfl,rfl⟩,rfl⟩
    |_=>cases τ<;>simp [AC.settled,Ty.flat,Dn] at hf hv
  ·cases he
 |row e te=>
  cases a<;>simp only [ky] at he<;>try (cases he;done)
  ·simp only [Aa,Ae] at he
   obtain ⟨rfl,rfl⟩:=he
   have hu:u= .slice none 0 0:=hu
   exact ⟨none,⟨⟨hu,rfl,rfl⟩,rfl⟩,λq hq=>by cases hq⟩
  ·rename_i l off len
   split at he
   ·rename_i fr tr e' Ru xs hl
    split at he
    ·rename_i hc
     obtain ⟨rfl,rfl⟩:=hc
     simp only [Aa,Ae] at he
     obtain ⟨rfl,rfl⟩:=he
     unfold St.at at hl
     obtain ⟨h1,h2⟩:=Oy hu hl
     have hb:=(h.heap l).Rz hl
     simp only [Cg,Ks] at hb
     have hlen:((xs.drop off).take len).length=len:=by simp;omega
     cases hp:π l with
     |none=>
      rw [hp] at h2 hb
      obtain ⟨rfl,rfl,rfl⟩:=h2
      exact ⟨none,⟨⟨rfl,rfl,by simp⟩,by show (xs.drop 0).take 0= [];simp⟩,λq hq=>by cases hq⟩
     |some p=>
      rw [hp] at h2 hb
      obtain ⟨k1,cur,ti,k2,k3,k4,k5,k6,_⟩:=hb
      have ho:=h2
      obtain ⟨ad,_,sZ,_⟩:=h2
      refine ⟨some ⟨p.g,p.o+off,p.cap-off,p.Cq,p.Cq⟩,⟨by rw [hlen];exact pv ho,⟨k1.1,k1.2.1⟩,cur,ti,k2,by rw [k3];congr 1;dsimp only;omega,by dsimp only;omega,by rw [hlen];dsimp only;omega,λi y hy=>?_⟩,
       fun q hq=>by cases hq;exact ⟨l,p,rfl,hp,λb hb=>h.sub l p b hp hb,λ_ b hb=>hb⟩⟩
      obtain ⟨es,g1,g2,g3⟩:=k6 (off+i) y (u6 hy)
      exact ⟨es,g1,λj u hu=>by dsimp only;rw [Gy p.o off i];exact g2 j u hu,Cells.Ft (Ap _) (λ_ _ _=>rfl) (λb _ hb=>XO b hb) e' es y g3⟩
    ·cases he
   ·cases he
 |Ij e te=>
  cases a<;>simp only [ky] at he<;>try (cases he;done)
  ·simp only [Aa,Ae] at he
   obtain ⟨rfl,rfl⟩:=he
   have hu:u= .slice none 0 0:=hu
   exact ⟨none,⟨⟨hu,rfl,rfl⟩,rfl⟩,λq hq=>by cases hq⟩
  ·rename_i l off len
   split at he
   ·rename_i fr tr e' Ru xs hl
    split at he
    ·rename_i hc
     obtain ⟨rfl,rfl,hf⟩:=hc
     simp only [Aa,Ae] at he
     obtain ⟨rfl,rfl⟩:=he
     unfold St.at at hl
     obtain ⟨h1,h2⟩:=Oy hu hl
     have hb:=(h.heap l).Rz hl
     simp only [Cg,Ks] at hb
     have hlen:((xs.drop off).take len).length=len:=by simp;omega
     cases hp:π l with
     |none=>
      rw [hp] at h2 hb
      obtain ⟨rfl,rfl,rfl⟩:=h2
      exact ⟨none,⟨⟨rfl,rfl,by simp⟩,by show (xs.drop 0).take 0= [];simp⟩,λq hq=>by cases hq⟩
     |some p=>
      rw [hp] at h2 hb
      obtain ⟨k1,cur,ti,k2,k3,k4,k5,k6,k7⟩:=hb
      have ho:=h2
      obtain ⟨ad,_,sZ,_⟩:=h2
      have ht:Xs w p.cl p.g p.o cur e' xs:=by
       simp only [Mi] at hf
       rcases hf with hf|hf
       ·exact k7 hf
       ·exact nj hf k6
      exact ⟨some ⟨p.g,p.o+off,p.cap-off,p.cl,p.cl⟩,⟨by rw [hlen];exact pv ho,h.sub l p _ hp k1.1,cur,ti,k2,by rw [k3];congr 1;dsimp only;omega,by dsimp only;omega,by rw [hlen];dsimp only;omega,ht.part off len⟩,
       fun q hq=>by cases hq;exact ⟨l,p,rfl,hp,λb hb=>hb,λhx=>by cases hx⟩⟩
    ·cases he
   ·rename_i e' Ru xs hl
    split at he
    ·rename_i hc
     obtain ⟨rfl,rfl⟩:=hc
     simp only [Aa,Ae] at he
     obtain ⟨rfl,rfl⟩:=he
     unfold St.at at hl
     obtain ⟨h1,h2⟩:=c5 hu hl
     have hb:=(h.heap l).Rz hl
     simp only [Cg,Oh] at hb
     have hlen:((xs.drop off).take len).length=len:=by simp;omega
     cases hp:π l with
     |none=>
      rw [hp] at h2 hb
      obtain ⟨rfl,rfl,rfl⟩:=h2
      exact ⟨none,⟨⟨rfl,rfl,by simp⟩,by show (xs.drop 0).take 0= [];simp⟩,λq hq=>by cases hq⟩
     |some p=>
      rw [hp] at h2 hb
      obtain ⟨k1,cur,ti,k2,k3,k4,k5,ht⟩:=hb
      have ho:=h2
      obtain ⟨ad,_,sZ,_⟩:=h2
      exact ⟨some ⟨p.g,p.o+off,p.cap-off,p.Cq,p.Cq⟩,⟨by rw [hlen];exact pv ho,k1,cur,ti,k2,by rw [k3];congr 1;dsimp only;omega,by dsimp only;omega,by rw [hlen];dsimp only;omega,ht.part off len⟩,
       fun q hq=>by cases hq;exact ⟨l,p,rfl,hp,λb hb=>h.sub l p b hp hb,λ_ b hb=>hb⟩⟩
    ·cases he
   ·cases he
 |part e te=>cases a<;>simp [ky] at he
 |Bn e te kp=>exact absurd rfl (hg e te kp)
theorem ZZ {st:St} (h:Nj X w π st.heap) {c:CK} {a:AC} {u:Value} (hu:Ia X w π st.heap a u) {x:c.den} {ls:List Nat} (he:ky st c a=some (x,ls)):
  ∃r,eP w (λb=>Wa π b\/X.Sc b) r u c x/\(∀q,r=some q-> ∃l p,ls= [l]/\π l=some p/\(∀b,q.Cq b->p.cl b)/\(c.isX=false-> ∀b,q.Cq b->p.Cq b))/\
   (∀l off len e te rows out kp,a= .own l off len->Av st.heap l=some (.Bn e te rows out kp)->r=π l):=by
 have vz:(∀e te kp,c≠ .Bn e te kp)->(∀l off len e te rows out kp,a=AC.own l off len->Av st.heap l=some (OB.Bn e te rows out kp)->False)->
   ∃r,eP w (λb=>Wa π b\/X.Sc b) r u c x/\(∀q,r=some q-> ∃l p,ls= [l]/\π l=some p/\(∀b,q.Cq b->p.cl b)/\(c.isX=false-> ∀b,q.Cq b->p.Cq b))/\
   (∀l off len e te rows out kp,a= .own l off len->Av st.heap l=some (.Bn e te rows out kp)->r=π l):= λh1 h2=>by
  obtain ⟨r,g1,g2⟩:=TE h h1 hu he
  exact ⟨r,g1,g2,λl off len e te rows out kp h3 h4=>(h2 l off len e te rows out kp h3 h4).elim⟩
 cases c with
 |Eh τ=>
  refine vz (λ_ _ _ h=>by cases h) λl off len e te rows out kp h3 h4=>?_
  subst h3
  simp only [ky] at he
  split at he
  ·rename_i hf
   cases τ<;>simp [AC.settled,Ty.flat,Dn] at hf he
  ·cases he
 |row e te=>
  refine vz (λ_ _ _ h=>by cases h) λl off len e te rows out kp h3 h4=>?_
  subst h3
  simp only [ky,St.at,h4] at he
  cases he
 |Ij e te=>
  refine vz (λ_ _ _ h=>by cases h) λl off len e te rows out kp h3 h4=>?_
  subst h3
  simp only [ky,St.at,h4] at he
  cases he
 |part e te=>cases a<;>simp [ky] at he
 |Bn e te kp=>
  cases a<;>simp only [ky] at he<;>try (cases he;done)
  rename_i l off len
  split at he
  ·rename_i e' Ru rows kp' hl
   split at he
   ·rename_i hc
    obtain ⟨rfl,rfl,rfl,rfl⟩:=hc
    simp only [Aa,Ae] at he
    obtain ⟨rfl,rfl⟩:=he
    unfold St.at at hl
    obtain ⟨b,sz,n,h1,h2,_,h3⟩:=hu
    rw [hl] at h1;cases h1
    simp only [OB.row,Aa,Ae] at h2
    obtain ⟨rfl,rfl⟩:=h2
    have hb:=((h.heap l).Rz hl).1
    refine ⟨π l,⟨h3,aB.Jr hb λb hb=>hb.imp id .inl⟩,λq hq=>⟨l,q,rfl,hq,λb hb=>h.sub l q b hq hb,λ_ b hb=>hb⟩,λl' Ay5 At6 _ _ _ _ _ he _=>?_⟩
    simp only [AC.own.injEq] at he
    rw [he.1]
   ·cases he
  ·cases he
theorem Jz.congr {D:Nat->Prop} {ρ ρ':Pi} : ∀(cs:List CK) (k:Nat) (x:CKs.den cs) (us:List Value),(∀j,k<=j->ρ' (Kv j)=ρ (Kv j))->Jz w D ρ k cs x us->Jz w D ρ' k cs x us
 | [],_,_,[],_,h=>h
 | [],_,_,_::_,_,h=>h.elim
 |_::_,_,_,[],_,h=>h.elim
 |c::r,k,x,u::us,he,h=>⟨by rw [he k (Ap _)];exact h.1,Jz.congr r (k+1) x.2 us (λj hj=>he j (by omega)) h.2⟩
theorem xA {st:St} (h:Nj X w π st.heap): ∀(cs:List CK) (k:Nat) (as:List AC) (us:List Value) (x:CKs.den cs) (ls:List Nat),Nk X w π st.heap as us->Vn st cs as=some (x,ls)->ls.Nodup->
  ∃ρ:Pi,Jz w (λb=>Wa π b\/X.Sc b) ρ k cs x us/\(∀l q,ρ l=some q-> ∃j,k<=j/\j<k+cs.length/\l=Kv j)/\(∀l q b,ρ l=some q->q.Cq b-> ∃l0∈ls,∃p,π l0=some p/\p.cl b/\((cs.all λc=>!c.isX)=true->p.Cq b))/\
   (∀l l' q q' b,ρ l=some q->ρ l'=some q'->q.Cq b->q'.Cq b->l=l')/\
   (∀(j l off len:Nat) e te rows out kp,as[j]?=some (.own l off len)->Av st.heap l=some (.Bn e te rows out kp)->ρ (Kv (k+j))=π l)
 | [],k,[],[],x,ls,_,he,_=>by
  simp only [Vn,Aa,Ae] at he
  exact ⟨λ_=>none,trivial,(λl q h=>by cases h),(λl q b h=>by cases h),(λl l' q q' b h=>by cases h),λj l off len e te rows out kp h=>by simp at h⟩
 | [],_,[],_::_,_,_,h,_,_=>h.elim
 | [],_,_::_,_,_,_,_,he,_=>by simp [Vn] at he
 |_::_,_,[],_,_,_,_,he,_=>by simp [Vn] at he
 |_::_,_,_::_,[],_,_,h,_,_=>h.elim
 |c::r,k,a::as,u::us,x,ls,hr,he,BI=>by
  simp only [Vn] at he
  split at he
  ·rename_i x1 t1 x2 t2 h1 h2
   simp only [Aa,Ae] at he
   obtain ⟨rfl,rfl⟩:=he
   obtain ⟨n1,n2,n3⟩:=Dr.1 BI
   obtain ⟨ρ,g1,g2,g3,g4,g5⟩:=xA h r (k+1) as us x2 t2 hr.2 h2 n2
   obtain ⟨rr,r1,r2,r3⟩:=ZZ h hr.1 h1
   have CS: ∀l q q0 b,ρ l=some q->rr=some q0->q.Cq b->q0.Cq b->False:= λl q q0 b h3 h4 h5 h6=>by
    obtain ⟨l0,m0,p,p1,p2,_⟩:=g3 l q b h3 h5
    obtain ⟨l1,p',e1,p1',p2',_⟩:=r2 q0 h4
    have:=h.inj l0 l1 p p' b p1 p1' p2 (p2' b h6)
    exact n3 l1 (by rw [e1];simp) l0 m0 this.symm
   refine ⟨λl=>if l=Kv k then rr else ρ l,⟨by simpa using r1,Jz.congr r (k+1) x2 us (λj hj=>Ai (by unfold Kv;omega)) g1⟩,λl q hq=>?_,λl q b hq hb=>?_,λl l' q q' b h3 h4 h5 h6=>?_,λj l off len e te rows out kp hj hl=>?_⟩
   ·dsimp only at hq
    by_cases e:l=Kv k
    ·exact ⟨k,Ap _,by simp,e⟩
    ·rw [Ai e] at hq
     obtain ⟨j,j1,j2,j3⟩:=g2 l q hq
     exact ⟨j,by omega,by simp;omega,j3⟩
   ·dsimp only at hq
    by_cases e:l=Kv k
    ·rw [Ab e] at hq
     obtain ⟨l1,p',e1,p1',p2',p3'⟩:=r2 q hq
     exact ⟨l1,by rw [e1];simp,p',p1',p2' b hb,λhx=>p3' (by simp only [Jg,Ag,Er] at hx;exact hx.1) b hb⟩
    ·rw [Ai e] at hq
     obtain ⟨l0,m0,p,p1,p2,p3⟩:=g3 l q b hq hb
     exact ⟨l0,Cf _ m0,p,p1,p2,λhx=>p3 (by simp only [Jg,Ag] at hx;exact hx.2)⟩
   ·dsimp only at h3 h4
    by_cases e:l=Kv k<;>by_cases e':l'=Kv k
    ·rw [e,e']
    ·rw [Ab e] at h3;rw [Ai e'] at h4
     exact (CS l' q' q b h4 h3 h6 h5).elim
    ·rw [Ai e] at h3;rw [Ab e'] at h4
     exact (CS l q q' b h3 h4 h5 h6).elim
    ·rw [Ai e] at h3;rw [Ai e'] at h4
     exact g4 l l' q q' b h3 h4 h5 h6
   ·rcases j with _|j
    ·simp only [Bq,Aa] at hj
     show (if Kv k=Kv k then rr else ρ (Kv k))=π l
     rw [Ab rfl]
     exact r3 l off len e te rows out kp hj hl
    ·have:=g5 j l off len e te rows out kp (by simpa using hj) hl
     show (if Kv (k+(j+1))=Kv k then rr else ρ (Kv (k+(j+1))))=π l
     rw [Ai (by unfold Kv;omega),<-this,show k+(j+1)=k+1+j by omega]
  ·cases he
theorem GK {r r':Option Real} (h:bA (r.map full) r') {e:Ty} {xs:List e.den} {te:TypeId} {fr tr:Bool} (ha:Ks X w π r' fr tr e te xs):Tl w (λb=>Wa π b\/X.Sc b) r e xs:=by
 cases r with
 |none=>cases r' with
  |none=>exact ha
  |some q=>exact h.elim
 |some p=>cases r' with
  |none=>exact h.elim
  |some q=>
   obtain ⟨e1,e2,e3,e4⟩:=h
   obtain ⟨k1,cur,ti,k2,k3,k4,k5,k6,_⟩:=ha
   have e1:p.g=q.g:=e1
   have e2:p.o=q.o:=e2
   have e3:p.cap=q.cap:=e3
   refine ⟨⟨by rw [e1];exact (e4 _).2 k1.1,λb hb=>by rw [e1];exact k1.2.1 b ((e4 b).1 hb)⟩,cur,ti,by rw [e1];exact k2,by rw [e2,e3];exact k3,by rw [e3];exact k4,by rw [e3];exact k5,λi y hy=>?_⟩
   obtain ⟨es,g1,g2,g3⟩:=k6 i y hy
   exact ⟨es,g1,by rw [e2];exact g2,Cells.Ft (Ap _) (λ_ _ _=>rfl) (λb _ hb=>hb.imp id .inl) e es y g3⟩
theorem UD {r r':Option Real} (h:bA (r.map full) r') {e:Ty} {xs:List e.den} {te:TypeId} (ha:Oh w r' e te xs):Oh w r e te xs:=by
 cases r with
 |none=>cases r' with
  |none=>exact ha
  |some q=>exact h.elim
 |some p=>cases r' with
  |none=>exact h.elim
  |some q=>
   obtain ⟨e1,e2,e3,e4⟩:=h
   obtain ⟨k1,cur,ti,k2,k3,k4,k5,Fs,t1,t2,t3,t4⟩:=ha
   have e1:p.g=q.g:=e1
   have e2:p.o=q.o:=e2
   have e3:p.cap=q.cap:=e3
   exact ⟨by rw [e1];exact (e4 _).2 k1,cur,ti,by rw [e1];exact k2,by rw [e2,e3];exact k3,by rw [e3];exact k4,by rw [e3];exact k5,Fs,t1,by rw [e1];exact t2,λb hb=>(e4 b).2 (t3 b hb),by rw [e2];exact t4⟩
theorem Ux {st:St} {π0:Pi} {D:Nat->Prop} {w0:World} (h:Nj X w π st.heap) (dq: ∀l,X.gZ l=(π0 l).map full): ∀(cs:List (Bool×CK)) (k:Nat) (x:Ins.den cs) (us:List Value) (o:IOs.den cs),eR w0 D π0 k cs x us->Pc st k cs=some o->
  Ms w (λb=>Wa π b\/X.Sc b) π0 k cs o/\ ∀l∈Qg k cs,Av st.heap l≠none
 | [],_,_,_,_,_,_=>⟨trivial,λl hl=>by cases hl⟩
 |_::_,_,_,[],_,h,_=>h.elim
 |(false,c)::r,k,x,u::us,o,hi,he=>Ux h dq r (k+1) x.2 us o hi.2 (by simpa only [Pc] using he)
 |(true, .Eh τ)::r,k,x,u::us,o,hi,he=>Ux h dq r (k+1) x.2 us o hi.2 (by simpa only [Pc] using he)
 |(true, .Bn e te kp)::r,k,x,u::us,o,hi,he=>Ux h dq r (k+1) x.2 us o hi.2 (by simpa only [Pc] using he)
 |(true, .row e te)::r,k,x,u::us,o,hi,he=>by
  simp only [Pc] at he
  split at he
  ·rename_i x1 x2 h1 h2
   simp only [Aa] at he;subst he
   obtain ⟨g1,g2⟩:=Ux h dq r (k+1) x.2 us x2 hi.2 h2
   have h0:=hi.1
   simp only [pT] at h1
   split at h1
   ·rename_i fr tr e' Ru xs hl
    split at h1
    ·rename_i hc
     obtain ⟨rfl,rfl⟩:=hc
     simp only [Aa] at h1;subst h1
     unfold St.at at hl
     have hs:=h.gZ (Dv true k) (by have:=bl k;omega) (by rw [hl];simp)
     rw [dq] at hs
     exact ⟨⟨GK (te:=Ru) hs ((h.heap _).Rz hl),g1⟩,λl Mb=>by
      simp only [Qg] at Mb
      rcases Bg.1 Mb with rfl|Mb
      ·rw [hl];simp
      ·exact g2 l Mb⟩
    ·cases h1
   ·cases h1
  ·cases he
 |(true, .part e te)::r,k,x,u::us,o,hi,he=>by
  simp only [Pc] at he
  split at he
  ·rename_i x1 x2 h1 h2
   simp only [Aa] at he;subst he
   obtain ⟨g1,g2⟩:=Ux h dq r (k+1) x.2 us x2 hi.2 h2
   have h0:=hi.1
   simp only [pT] at h1
   split at h1
   ·rename_i fr tr e' Ru xs hl
    split at h1
    ·rename_i hc
     obtain ⟨rfl,rfl⟩:=hc
     simp only [Aa] at h1;subst h1
     unfold St.at at hl
     have hs:=h.gZ (Dv true k) (by have:=bl k;omega) (by rw [hl];simp)
     rw [dq] at hs
     exact ⟨⟨GK (te:=Ru) hs ((h.heap _).Rz hl),g1⟩,λl Mb=>by
      simp only [Qg] at Mb
      rcases Bg.1 Mb with rfl|Mb
      ·rw [hl];simp
      ·exact g2 l Mb⟩
    ·cases h1
   ·cases h1
  ·cases he
 |(true, .Ij e te)::r,k,x,u::us,o,hi,he=>by
  simp only [Pc] at he
  split at he
  ·rename_i x1 x2 h1 h2
   simp only [Aa] at he;subst he
   obtain ⟨g1,g2⟩:=Ux h dq r (k+1) x.2 us x2 hi.2 h2
   simp only [pT] at h1
   split at h1
   ·rename_i e' Ru xs hl
    split at h1
    ·rename_i hc
     obtain ⟨rfl,rfl⟩:=hc
     simp only [Aa] at h1;subst h1
     unfold St.at at hl
     have hs:=h.gZ (Dv true k) (by have:=bl k;omega) (by rw [hl];simp)
     rw [dq] at hs
     exact ⟨⟨UD (te:=Ru) hs ((h.heap _).Rz hl),g1⟩,λl Mb=>by
      simp only [Qg] at Mb
      rcases Bg.1 Mb with rfl|Mb
      ·rw [hl];simp
      ·exact g2 l Mb⟩
    ·cases h1
   ·cases h1
  ·cases he
theorem vR {p:Bool×CK} {r:List (Bool×CK)} (h:Zz (p::r)=true):Zz r=true:=by
 rcases p with ⟨_|_,c⟩<;>cases c<;>first|(simp [Zz] at h;done)|simpa [Zz] using h
theorem xk: ∀(cs:List (Bool×CK)) (k:Nat) (x:Ins.den cs) (l:Nat),Zz cs=true->k+cs.length<100000->Av (Zv k cs x) l≠none-> ¬l<Bl->l∈Qg k cs
 | [],_,_,_,_,_,h,_=>absurd rfl h
 |(io,c)::r,k,x,l,hng,hk,h,hp=>by
  simp only [Aw] at hk
  simp only [Zv] at h
  have tail:Av (Zv (k+1) r x.2) l≠none->l∈Qg (k+1) r:= λh=>xk r (k+1) x.2 l (vR hng) (by omega) h hp
  have sub: ∀m,m∈Qg (k+1) r->m∈Qg k ((io,c)::r):= λm hm=>by
   cases io<;>cases c<;>simp only [Qg]<;>first|exact hm|exact Ao _ hm
  cases hc:ko (Dv io k) c x.1 with
  |none=>rw [hc] at h;exact sub l (tail h)
  |some b=>
   rw [hc] at h
   simp only [iy,Av] at h
   split at h
   ·rename_i e;subst e
    cases io with
    |false=>exact absurd (fL (by omega)) hp
    |true=>cases c with
     |Eh τ=>cases hc
     |row e te=>simp [Qg]
     |Ij e te=>simp [Qg]
     |part e te=>simp [Qg]
     |Bn e te kp=>simp [Zz] at hng
   ·exact sub l (tail h)
theorem eP.Jr {D D':Nat->Prop} (hD: ∀b,D' b->D b) {r:Option Real} {u:Value} {c:CK} {x:c.den} (h:eP w D r u c x):eP w D' r u c x:=by
 cases c with
 |Eh τ=>exact ⟨h.1,h.2.Jr λb _ hb=>hD b hb⟩
 |row e te=>exact ⟨h.1,Tl.Jr h.2 hD⟩
 |Ij e te=>exact h
 |part e te=>exact ⟨h.1,h.2.1,Tl.Jr h.2.2 hD⟩
 |Bn e te kp=>exact ⟨h.1,aB.Jr h.2 hD⟩
theorem Jz.Jr {D D':Nat->Prop} (hD: ∀b,D' b->D b) {ρ:Pi} : ∀(cs:List CK) (k:Nat) (x:CKs.den cs) (us:List Value),Jz w D ρ k cs x us->Jz w D' ρ k cs x us
 | [],_,_,[],h=>h
 | [],_,_,_::_,h=>h.elim
 |_::_,_,_,[],h=>h.elim
 |_c::r,k,x,_u::us,h=>⟨h.1.Jr hD,Jz.Jr hD r (k+1) x.2 us h.2⟩
theorem Ms.Jr {D D':Nat->Prop} (hD: ∀b,D' b->D b) {π:Pi} : ∀(cs:List (Bool×CK)) (k:Nat) (x:IOs.den cs),Ms w D π k cs x->Ms w D' π k cs x
 | [],_,_,h=>h
 |(false,_)::r,k,x,h=>Ms.Jr hD r (k+1) x h
 |(true, .Eh _)::r,k,x,h=>Ms.Jr hD r (k+1) x h
 |(true, .Bn _ _ _)::r,k,x,h=>Ms.Jr hD r (k+1) x h
 |(true, .row _e _te)::r,k,x,h=>⟨Tl.Jr h.1 hD,Ms.Jr hD r (k+1) x.2 h.2⟩
 |(true, .Ij _e _te)::r,k,x,h=>⟨h.1,Ms.Jr hD r (k+1) x.2 h.2⟩
 |(true, .part _e _te)::r,k,x,h=>⟨Tl.Jr h.1 hD,Ms.Jr hD r (k+1) x.2 h.2⟩
theorem eR.congr {D:Nat->Prop} {π0 cn:Pi} : ∀(cs:List (Bool×CK)) (k:Nat) (x:Ins.den cs) (us:List Value),(∀b j,k<=j->j<k+cs.length->cn (Dv b j)=π0 (Dv b j))->eR w D π0 k cs x us->eR w D cn k cs x us
 | [],_,_,[],_,h=>h
 | [],_,_,_::_,_,h=>h
 |_::_,_,_,[],_,h=>h
 |p::r,k,x,u::us,hp,h=>⟨by rw [hp p.1 k (Ap _) (by simp)];exact h.1,eR.congr r (k+1) x.2 us (λb j h1 h2=>hp b j (by omega) (by simp;omega)) h.2⟩
theorem Ms.congr {D:Nat->Prop} {π0 cn:Pi} : ∀(cs:List (Bool×CK)) (k:Nat) (x:IOs.den cs),(∀b j,k<=j->j<k+cs.length->cn (Dv b j)=π0 (Dv b j))->Ms w D π0 k cs x->Ms w D cn k cs x
 | [],_,_,_,h=>h
 |(false,c)::r,k,x,hp,h=>by cases c<;>exact Ms.congr r (k+1) x (λb j h1 h2=>hp b j (by omega) (by simp;omega)) h
 |(true, .Eh _)::r,k,x,hp,h=>Ms.congr r (k+1) x (λb j h1 h2=>hp b j (by omega) (by simp;omega)) h
 |(true, .Bn _ _ _)::r,k,x,hp,h=>Ms.congr r (k+1) x (λb j h1 h2=>hp b j (by omega) (by simp;omega)) h
 |(true, .row e te)::r,k,x,hp,h=>⟨by rw [hp true k (Ap _) (by simp)];exact h.1,Ms.congr r (k+1) x.2 (λb j h1 h2=>hp b j (by omega) (by simp;omega)) h.2⟩
 |(true, .Ij e te)::r,k,x,hp,h=>⟨by rw [hp true k (Ap _) (by simp)];exact h.1,Ms.congr r (k+1) x.2 (λb j h1 h2=>hp b j (by omega) (by simp;omega)) h.2⟩
 |(true, .part e te)::r,k,x,hp,h=>⟨by rw [hp true k (Ap _) (by simp)];exact h.1,Ms.congr r (k+1) x.2 (λb j h1 h2=>hp b j (by omega) (by simp;omega)) h.2⟩
theorem Et.congr {π0 cn:Pi} : ∀(cs:List (Bool×CK)) (k:Nat) (o:IOs.den cs) (n:Nat) (us as:List Value),(∀b j,k<=j->j<k+cs.length->cn (Dv b j)=π0 (Dv b j))->Et π0 k cs o n us as->Et cn k cs o n us as
 | [],k,o,0,us,as,_,h=>by simpa [Et] using h
 | [],k,o,n+1,us,as,_,h=>by simp [Et] at h
 |p::r,k,o,0,us,as,_,h=>by
  rcases p with ⟨_|_,c⟩<;>cases c<;>simpa [Et] using h
 |(true, .Eh _)::r,k,o,n+1,us,as,_,h=>by simp [Et] at h
 |(true, .part _ _)::r,k,o,n+1,us,as,_,h=>by simp [Et] at h
 |(true, .Bn _ _ _)::r,k,o,n+1,us,as,_,h=>by simp [Et] at h
 |(true, .row e te)::r,k,o,n+1,[],as,_,h=>by simp [Et] at h
 |(true, .Ij e te)::r,k,o,n+1,[],as,_,h=>by simp [Et] at h
 |(true, .row e te)::r,k,o,n+1,u::us,as,hp,h=>by
  simp only [Et] at h⊢
  exact ⟨by rw [hp true k (Ap _) (by simp)];exact h.1,Et.congr r (k+1) o.2 n us as (λb j h1 h2=>hp b j (by omega) (by simp;omega)) h.2⟩
 |(true, .Ij e te)::r,k,o,n+1,u::us,as,hp,h=>by
  simp only [Et] at h⊢
  exact ⟨by rw [hp true k (Ap _) (by simp)];exact h.1,Et.congr r (k+1) o.2 n us as (λb j h1 h2=>hp b j (by omega) (by simp;omega)) h.2⟩
 |(false,c)::r,k,o,n+1,[],as,_,h=>by cases c<;>simp [Et] at h
 |(false,c)::r,k,o,n+1,u::us,[],_,h=>by cases c<;>simp [Et] at h
 |(false,c)::r,k,o,n+1,u::us,a::as,hp,h=>by
  have h:u=a/\Et π0 (k+1) r o n us as:=by cases c<;>exact h
  have:=Et.congr r (k+1) o n us as (λb j h1 h2=>hp b j (by omega) (by simp;omega)) h.2
  cases c<;>exact ⟨h.1,this⟩
theorem qf: ∀(A B:List (Nat×OB)) (l:Nat),Av (A++B) l=match Av A l with|some b=>some b|none=>Av B l
 | [],B,l=>rfl
 |(k,b)::A,B,l=>by
  simp only [Ti,Av]
  split
  ·rfl
  ·exact qf A B l
theorem tX {st:St} : ∀(cs:List CK) (as:List AC) (x:CKs.den cs) (ls:List Nat),Vn st cs as=some (x,ls)-> ∀l∈ls,∃b,Av st.heap l=some b/\b.row≠none
 | [],[],x,ls,he=>by
  simp only [Vn,Aa,Ae] at he
  obtain ⟨_,rfl⟩:=he
  intro l hl;cases hl
 | [],_::_,_,_,he=>by simp [Vn] at he
 |_::_,[],_,_,he=>by simp [Vn] at he
 |c::r,a::as,x,ls,he=>by
  simp only [Vn] at he
  split at he
  ·rename_i x1 t1 x2 t2 h1 h2
   simp only [Aa,Ae] at he
   obtain ⟨_,rfl⟩:=he
   intro l hl
   rcases Ay.1 hl with hl|hl
   ·unfold ky at h1
    split at h1
    ·split at h1
     ·cases hv:Dn st _ a with
      |none=>rw [hv] at h1;cases h1
      |some p=>rw [hv] at h1;simp only [Ak,Aa,Ae] at h1;obtain ⟨_,rfl⟩:=h1;cases hl
     ·cases h1
    all_goals (repeat' split at h1)
    all_goals first|(cases h1;done)|skip
    all_goals (simp only [Aa,Ae] at h1;obtain ⟨_,rfl⟩:=h1)
    all_goals first|(cases hl;done)|skip
    all_goals (have hl:=Ad.1 hl;subst hl)
    all_goals (rename_i heq _;exact ⟨_,heq,by simp [OB.row]⟩)
   ·exact tX r as x2 t2 h2 l hl
  ·cases he
theorem qv {r r':Option Real} {sz off len:Nat} {v:Value} (h:bA r r') (hv:Ip r' sz off len v):Ip r sz off len v:=by
 cases r<;>cases r'<;>first|exact h.elim|skip
 ·exact hv
 ·obtain ⟨h1,h2,h3,_⟩:=h
  obtain ⟨ad,g1,g2,g3⟩:=hv
  exact ⟨ad,by rw [h3];exact g1,by rw [h3];exact g2,by rw [h1,h2,h3];exact g3⟩
theorem Zj {st:St} {π0:Pi} (hs: ∀k,Av st.heap (Dv true k)≠none->bA ((π0 (Dv true k)).map full) (π (Dv true k))):
  ∀(cs:List (Bool×CK)) (k:Nat) (vs:List AC) (us:List Value) (bc:List AC) (o:IOs.den cs),Nk X w π st.heap vs us->Kb k cs vs=some bc->iX st vs cs->Pc st k cs=some o->
   ∃bv,Nk X w π st.heap bc bv/\bv.length=uj cs vs.length/\ ∀tl,Et π0 k cs o vs.length us (bv++tl)
 |cs,k,[],us,bc,o,hr,he,_,_=>by
  have e1:us= []:=by cases us with|nil=>rfl|cons u us=>exact hr.elim
  have e2:bc= []:=by rcases cs with _|⟨⟨_|_,c⟩,r⟩<;>simpa [Kb] using he.symm
  subst e1;subst e2
  refine ⟨[],trivial,?_,λtl=>?_⟩
  ·rcases cs with _|⟨⟨_|_,c⟩,r⟩<;>rfl
  ·rcases cs with _|⟨⟨_|_,c⟩,r⟩<;>(try cases c)<;>simp [Et]
 | [],k,a::vs,us,bc,o,hr,he,_,_=>by simp [Kb] at he
 |p::r,k,a::vs,[],bc,o,hr,_,_,_=>hr.elim
 |(false,c)::r,k,a::vs,u::us,bc,o,hr,he,hk,ho=>by
  have he:(Kb (k+1) r vs).map (λl=>a::l)=some bc:=by cases a<;>exact he
  cases hb:Kb (k+1) r vs with
  |none=>rw [hb] at he;cases he
  |some bc'=>
   rw [hb] at he
   simp only [Ak,Aa] at he;subst he
   obtain ⟨bv,g1,g2,g3⟩:=Zj hs r (k+1) vs us bc' o hr.2 hb (by cases a<;>exact hk) (by cases c<;>simpa only [Pc] using ho)
   refine ⟨u::bv,⟨hr.1,g1⟩,by simp [uj,g2],λtl=>?_⟩
   have:=g3 tl
   cases c<;>exact ⟨rfl,this⟩
 |(true,c)::r,k,a::vs,u::us,bc,o,hr,he,hk,ho=>by
  cases c with
  |Eh τ=>cases a<;>simp [Kb] at he
  |part e te=>cases a<;>simp [Kb] at he
  |Bn e te kp=>cases a<;>simp [Kb] at he
  |row e te=>
   cases a<;>first|(simp [Kb] at he;done)|skip
   rename_i l off len
   simp only [Kb] at he
   split at he
   rotate_left
   ·cases he
   rename_i hl
   have hl:l=Dv true k:=Kg hl
   subst hl
   obtain ⟨⟨rfl,hlen⟩,hk⟩:=hk
   obtain ⟨b,sz,n,h1,h2,h3,h4⟩:=hr.1
   have YO:=hs k (by rw [h1];simp)
   simp only [Pc] at ho
   split at ho
   ·rename_i x1 x2 q1 q2
    simp only [Aa] at ho;subst ho
    obtain ⟨bv,g1,g2,g3⟩:=Zj hs r (k+1) vs us bc x2 hr.2 he hk q2
    refine ⟨bv,g1,by simpa [uj] using g2,λtl=>?_⟩
    refine ⟨?_,g3 tl⟩
    simp only [pT] at q1
    split at q1
    ·rename_i fr tr e' Ru xs Mb
     split at q1
     ·rename_i hc
      obtain ⟨rfl,rfl⟩:=hc
      simp only [Aa] at q1;subst q1
      unfold St.at at Mb hlen
      rw [Mb] at hlen
      rw [h1] at Mb;cases Mb
      simp only [OB.row,Aa,Ae] at h2
      obtain ⟨rfl,rfl⟩:=h2
      have hlen:len=List.length xs:=hlen
      have:=qv YO h4
      rw [hlen] at this
      have e0:(π0 (Dv true k)).map full=(π0 (Dv true k)).map full:=rfl
      cases hp:π0 (Dv true k)<;>(rw [hp] at this;exact this)
     ·cases q1
    ·cases q1
   ·cases ho
  |Ij e te=>
   cases a<;>first|(simp [Kb] at he;done)|skip
   rename_i l off len
   simp only [Kb] at he
   split at he
   rotate_left
   ·cases he
   rename_i hl
   have hl:l=Dv true k:=Kg hl
   subst hl
   obtain ⟨⟨rfl,hlen⟩,hk⟩:=hk
   obtain ⟨b,sz,n,h1,h2,h3,h4⟩:=hr.1
   have YO:=hs k (by rw [h1];simp)
   simp only [Pc] at ho
   split at ho
   ·rename_i x1 x2 q1 q2
    simp only [Aa] at ho;subst ho
    obtain ⟨bv,g1,g2,g3⟩:=Zj hs r (k+1) vs us bc x2 hr.2 he hk q2
    refine ⟨bv,g1,by simpa [uj] using g2,λtl=>?_⟩
    refine ⟨?_,g3 tl⟩
    simp only [pT] at q1
    split at q1
    ·rename_i e' Ru xs Mb
     split at q1
     ·rename_i hc
      obtain ⟨rfl,rfl⟩:=hc
      simp only [Aa] at q1;subst q1
      unfold St.at at Mb hlen
      rw [Mb] at hlen
      rw [h1] at Mb;cases Mb
      simp only [OB.row,Aa,Ae] at h2
      obtain ⟨rfl,rfl⟩:=h2
      have hlen:len=List.length xs:=hlen
      have:=qv YO h4
      rw [hlen] at this
      cases hp:π0 (Dv true k)<;>(rw [hp] at this;exact this)
     ·cases q1
    ·cases q1
   ·cases ho
def Aof (s:MSpec) (g:Nat) (π:Pi):Pi:= λl=>if s.ptr.isSome=true/\l=Pr then some ⟨g,0,0,λb=>b=g,λb=>b=g⟩ else π l
def Akl (P:Program) (s:MSpec) (fn:Func) (x:Ins.den s.ins) (w:World) (S:Nat->Prop) (π:Pi) (g:Nat) (r:CKs.den s.outs) (o:IOs.den s.ins) (a':Act) (w':World):Prop:=
 ∃(v:Value) (Xf:List Value) (ρ:Pi),a'.defers= []/\(results fn a'.tmps).run P w'= .ok v w'/\sm s w' ρ (Xf.drop s.aI) v/\lC s π w' g Xf o/\Li w.heap.size (λb=>Wa π b\/s.gv g b) w w'/\Ms w' (km S π ρ) π 0 s.ins o/\Jz w' (km S π ρ) ρ 0 s.outs r Xf/\
  ie ρ (λb=>b<w'.heap.size/\(w.heap.size<=b\/ ∃l q,l<Bl/\π l=some q/\q.Cq b))/\(∀l,(∀k,k<s.Va->l≠Kv k)->ρ l=none)/\(∀kj∈s.keeps,BP w w' (π (Dv false kj.1)) (ρ (Kv kj.2)) (s.Ft x))
theorem Jz.XC {D:Nat->Prop} {ρ ρ':Pi} : ∀(cs:List CK) (k:Nat) (x:CKs.den cs) (us:List Value),(∀j,k<=j->j<k+cs.length->ρ' (Kv j)=ρ (Kv j))->Jz w D ρ k cs x us->Jz w D ρ' k cs x us
 | [],_,_,[],_,h=>h
 | [],_,_,_::_,_,h=>h.elim
 |_::_,_,_,[],_,h=>h.elim
 |c::r,k,x,u::us,he,h=>⟨by rw [he k (Ap _) (by simp)];exact h.1,Jz.XC r (k+1) x.2 us (λj hj hl=>he j (by omega) (by simp;omega)) h.2⟩
theorem xp {st:St} {n:Nat} {as:List AC} : ∀ {ks:List (Nat×Nat)},xo st n as ks-> ∀kj∈ks,∃l off len e te rows out p,as[kj.2]?=some (.own l off len)/\Av st.heap l=some (.Bn e te rows out (some p))/\p.1=Dv false kj.1/\n<=p.2/\kj.1<1000
 | [],_,kj,hm=>by cases hm
 |(k,j)::r,h,kj,hm=>by
  simp only [xo] at h
  rcases Bg.1 hm with rfl|hm
  ·obtain ⟨h,_⟩:=h
   split at h
   ·rename_i l off len he
    split at h
    ·rename_i e te rows out p hl
     unfold St.at at hl
     exact ⟨l,off,len,e,te,rows,out,p,he,hl,h.1,h.2.1,by simpa using h.2.2⟩
    ·exact h.elim
   ·exact h.elim
  ·exact xp h.2 kj hm
theorem xz {st:St} : ∀(cs:List CK) (as:List AC) (x:CKs.den cs) (ls:List Nat),Vn st cs as=some (x,ls)->as.length=cs.length
 | [],[],_,_,_=>rfl
 | [],_::_,_,_,he=>by simp [Vn] at he
 |_::_,[],_,_,he=>by simp [Vn] at he
 |c::r,a::as,x,ls,he=>by
  simp only [Vn] at he
  split at he
  ·rename_i h1 h2
   simp only [Aw,xz r as _ _ h2]
  ·cases he
theorem GI {α β:Type} (f:α->Sem β): ∀(l:List α) (vs:List β),vs.length=l.length->(∀(i:Nat) a v,l[i]?=some a->vs[i]?=some v->(f a).run P w= .ok v w)->(l.mapM f).run P w= .ok vs w
 | [],[],_,_=>by simp
 | [],_::_,h,_=>by simp at h
 |_::_,[],h,_=>by simp at h
 |a::l,v::vs,h,hr=>by
  rw [List.mapM_cons]
  simp only [Sem.run_bind,hr 0 a v rfl rfl,Result.andThen_ok,GI f l vs (by simpa using h) (λi a' v' ha hv=>hr (i+1) a' v' (by simpa using ha) (by simpa using hv)),Sem.run_pure]
theorem vE (hT:Eb P T) (Pk:Lj P Γ) (hm:P.follows .mixedOrders=true) {f:FuncId} {fn:Func} (hf:P.funcs[f]?=some fn) (s:MSpec) (w:World) (S:Nat->Prop) (π:Pi) (us:List Value) (x:Ins.den s.ins)
  (r:CKs.den s.outs) (o:IOs.den s.ins) (g:Nat) (mO:List Value) (Ro:oG s w g us mO) (hSg:s.ptr.isSome=true->S g) (gR:eR w (λb=>Wa π b\/S b) π 0 s.ins x us) (kv:ie π (λb=>b<w.heap.size)) (hS: ∀b,S b->b<w.heap.size/\ ¬Wa π b) (XU: ∀l,Av (Zv 0 s.ins x) l=none->π l=none) (he:Aeu T Γ s fn x λz=>z=(r,o)):
  Calls P f mO.toArray w λe w'=> ∃v Xf ρ,e= .returned v/\sm s w' ρ (Xf.drop s.aI) v/\lC s π w' g Xf o/\Li w.heap.size (λb=>Wa π b\/s.gv g b) w w'/\Ms w' (km S π ρ) π 0 s.ins o/\Jz w' (km S π ρ) ρ 0 s.outs r Xf/\
   ie ρ (λb=>b<w'.heap.size/\(w.heap.size<=b\/ ∃l q,l<Bl/\π l=some q/\q.Cq b))/\(∀l,(∀k,k<s.Va->l≠Kv k)->ρ l=none)/\(∀kj∈s.keeps,BP w w' (π (Dv false kj.1)) (ρ (Kv kj.2)) (s.Ft x)):=by
 obtain ⟨hlen,c,hb,he⟩:=he
 simp only [Ag,Ns] at hlen
 obtain ⟨hlen,XX⟩:=hlen
 unfold zC at XX
 simp only [Ag] at XX
 have Alv:=XX.1
 let qS:Pi:=Aof s g π
 let Sg:Nat->Prop:= λb=>S b/\ ¬s.gv g b
 have hvl: ∀b j,j<1000->Dv b j≠Pr:= λb j hj=>by cases b<;>(unfold Dv Pr;simp;omega)
 have yP: ∀b j,0<=j->j<0+s.ins.length->qS (Dv b j)=π (Dv b j):= λb j _ hj=>Ai λh=>hvl b j (by omega) h.2
 have Afp: ∀b j,0<=j->j<0+s.ins.length->π (Dv b j)=qS (Dv b j):= λb j h1 h2=>(yP b j h1 h2).symm
 have Ai6:Av (Zv 0 s.ins x) Pr=none:=Bu λhn=>by
  obtain ⟨b,j,_,h2,h3⟩:=tn s.ins 0 x Pr hn
  exact hvl b j (by omega) h3.symm
 have VD: ∀l q,qS l=some q->(π l=some q/\(s.ptr.isSome=true->l≠Pr))\/(s.ptr.isSome=true/\l=Pr/\q=⟨g,0,0,λb=>b=g,λb=>b=g⟩):= λl q hq=>by
  have hq:(if s.ptr.isSome=true/\l=Pr then some ⟨g,0,0,λb=>b=g,λb=>b=g⟩ else π l)=some q:=hq
  split at hq
  ·rename_i hc;exact .inr ⟨hc.1,hc.2,(Az hq).symm⟩
  ·rename_i hc;exact .inl ⟨hq,λh1 h2=>hc ⟨h1,h2⟩⟩
 have eg: ∀b,Wa qS b↔Wa π b\/s.gv g b:= λb=>by
  constructor
  ·rintro ⟨l,q,h1,h2⟩
   rcases VD l q h1 with ⟨h3,_⟩|⟨h3,h4,rfl⟩
   ·exact .inl ⟨l,q,h3,h2⟩
   ·exact .inr ⟨h3,h2⟩
  ·rintro (⟨l,q,h1,h2⟩|⟨h1,rfl⟩)
   ·refine ⟨l,q,?_,h2⟩
    show (if s.ptr.isSome=true/\l=Pr then _ else π l)=some q
    rw [Ai]
    ·exact h1
    ·rintro ⟨_,rfl⟩
     rw [XU Pr Ai6] at h1;cases h1
   ·exact ⟨Pr,⟨b,0,0,λc=>c=b,λc=>c=b⟩,Ab ⟨h1,rfl⟩,rfl⟩
 have hgS: ∀b,s.gv g b->S b:= λb ⟨h1,h2⟩=>h2▸hSg h1
 have Ahk:eR w (λb=>Wa qS b\/Sg b) qS 0 s.ins x us:=eR.congr s.ins 0 x us yP (eR.Jr (λb hb=>by
  rcases hb with hb|hb
  ·rcases (eg b).1 hb with hb|hb
   ·exact .inl hb
   ·exact .inr (hgS b hb)
  ·exact .inr hb.1) s.ins 0 x us gR)
 have Am1:ie qS (λb=>b<w.heap.size):=⟨λl q b h1 h2=>by
  rcases VD l q h1 with ⟨h3,_⟩|⟨h3,h4,rfl⟩
  ·exact kv.aj l q b h3 h2
  ·exact (hS b (hgS b ⟨h3,h2⟩)).1,λl l' q q' b h1 h2 h3 h4=>by
  rcases VD l q h1 with ⟨h5,_⟩|⟨h5,h6,rfl⟩<;>rcases VD l' q' h2 with ⟨h7,_⟩|⟨h7,h8,rfl⟩
  ·exact kv.inj l l' q q' b h5 h7 h3 h4
  ·exact absurd ⟨l,q,h5,h3⟩ (hS b (hgS b ⟨h7,h4⟩)).2
  ·exact absurd ⟨l',q',h7,h4⟩ (hS b (hgS b ⟨h5,h3⟩)).2
  ·rw [h6,h8]⟩
 have Aqn: ∀b,Sg b->b<w.heap.size/\ ¬Wa qS b:= λb hb=>⟨(hS b hb.1).1,λho=>((eg b).1 ho).elim (hS b hb.1).2 hb.2⟩
 have OZ: ∀l,Av (qh s x) l=match Av (Zv 0 s.ins x) l with|some b=>some b|none=>if l=Pr then s.ptr.map λp=> .var p.1 ((bP 0 s.ins x).take p.2) else none:= λl=>by
  unfold qh
  cases hp:s.ptr with
  |none=>cases Av (Zv 0 s.ins x) l<;>simp
  |some p=>
   simp only
   rw [qf]
   cases Av (Zv 0 s.ins x) l with
   |some b=>rfl
   |none=>
    simp only [Av,Ak]
    by_cases e:l=Pr
    ·rw [Ab e,Ab e.symm]
    ·rw [Ai e,Ai (λh=>e h.symm)]
 let π0:Pi:= λl=>(qS l).map full
 have un: ∀l q,π0 l=some q-> ∃q0,qS l=some q0/\q=full q0:= λl q hq=>by
  have hq:(qS l).map full=some q:=hq
  cases hp:qS l with
  |none=>rw [hp] at hq;cases hq
  |some q0=>rw [hp] at hq;exact ⟨q0,rfl,(Az hq).symm⟩
 have YB: ∀l b,Av (Zv 0 s.ins x) l=some b->Av (qh s x) l=some b:= λl b hb=>by rw [OZ l,hb]
 have hrc:Nk ⟨w,Sg,Wa qS,π0⟩ w π0 (qh s x) (bP 0 s.ins x) us:=DX (λ_=>rfl) s.ins 0 x us (by omega) Ahk YB
 have YU:s.ptr.isSome=true->π0 Pr=some ⟨g,0,0,λb=>b=g,λb=>b=g⟩:= λhp=>by
  show (if s.ptr.isSome=true/\Pr=Pr then _ else π Pr).map full=_
  rw [Ab ⟨hp,rfl⟩];rfl
 obtain ⟨g1,g2⟩:(aF s (bP 0 s.ins x)).length=mO.length/\ ∀(i:Nat) c v,(aF s (bP 0 s.ins x))[i]?=some c->mO[i]?=some v->Bm ⟨w,Sg,Wa qS,π0⟩ w π0 (qh s x) c v:=by
  unfold oG at Ro
  cases hp:s.ptr with
  |none=>
   rw [hp] at Ro
   obtain ⟨rfl,IA⟩:=Ro
   obtain ⟨g1,g2,_,_⟩:=ec s.Jj _ us IA hrc
   rw [show aF s (bP 0 s.ins x)=Tp s.Jj (bP 0 s.ins x) by unfold aF;rw [hp]]
   exact ⟨g1,g2⟩
  |some p=>
   rw [hp] at Ro
   obtain ⟨rfl,IA,_⟩:=Ro
   obtain ⟨g1,g2,_,_⟩:=ec s.Jj _ (us.drop p.2) IA (Nk.take p.2 hrc).2
   rw [show aF s (bP 0 s.ins x)= .at (.Hs Pr 0)::Tp s.Jj ((bP 0 s.ins x).drop p.2) by unfold aF;rw [hp]]
   refine ⟨by simp [g1],λi c v h1 h2=>?_⟩
   rcases i with _|i
   ·simp only [Bq,Aa] at h1 h2
    subst h1;subst h2
    exact ⟨_,p.1,(bP 0 s.ins x).take p.2,by rw [OZ,Ai6];simp [hp],YU (by rw [hp];rfl),rfl⟩
   ·exact g2 i c v (by simpa using h1) (by simpa using h2)
 have h0:Rel ⟨w,Sg,Wa qS,π0⟩ {tmps:=aF s (bP 0 s.ins x)++List.replicate (fn.ntmps-(aF s (bP 0 s.ins x)).length) .undef,heap:=qh s x}
   {tmps:=mO.toArray++Array.replicate (fn.ntmps-mO.toArray.size) undef,defers:= []} w:=by
  refine ⟨π0,⟨Li.refl _ _ _,λb hb=>Aqn b hb,λl q b h1 h2=>?_,λl q b h1 h2=>?_,λl l' q q' b h1 h2 h3 h4=>?_,λl _ _=>bA.rfl' _,λl=>?_⟩,⟨by simp [g1],rfl,λt=>?_⟩⟩
  ·obtain ⟨q0,_,rfl⟩:=un l q h1;exact h2
  ·obtain ⟨q0,h3,rfl⟩:=un l q h1
   exact ⟨.inr ⟨l,q0,h3,h2⟩,Am1.aj l q0 b h3 h2⟩
  ·obtain ⟨q0,h5,rfl⟩:=un l q h1
   obtain ⟨q0',h6,rfl⟩:=un l' q' h2
   exact Am1.inj l l' q0 q0' b h5 h6 h3 h4
  ·cases hh:Av (Zv 0 s.ins x) l with
   |none=>
    by_cases hv:s.ptr.isSome=true/\l=Pr
    ·obtain ⟨hps,rfl⟩:=hv
     obtain ⟨p,hp⟩:=gW.1 hps
     refine Gj.Mf (b:= .var p.1 ((bP 0 s.ins x).take p.2)) ?_ (by rw [OZ,hh];simp [hp])
     unfold oG at Ro
     rw [hp] at Ro
     obtain ⟨_,_,h1,h2,h3⟩:=Ro
     rw [YU hps]
     exact ⟨_,rfl,rfl,_,h2,Nk.to (Nk.take p.2 hrc).1 h3⟩
    ·refine Gj.Uq ?_ ?_
     ·show (if s.ptr.isSome=true/\l=Pr then _ else π l).map full=none
      rw [Ai hv,XU l hh];rfl
     ·rw [OZ,hh]
      simp only
      split
      ·rename_i e
       cases hp:s.ptr with
       |none=>rfl
       |some p=>exact absurd ⟨by rw [hp];rfl,e⟩ hv
      ·rfl
   |some b=>exact Gj.Mf (m4 (π0:=qS) (λb hb=>by
    rcases hb with ⟨l,q,h1,h2⟩|hb|⟨hb,_⟩
    ·obtain ⟨q0,h3,rfl⟩:=un l q h1;exact .inl ⟨l,q0,h3,h2⟩
    ·exact .inr hb
    ·cases hb) rfl (λ_=>rfl) s.ins 0 x us Ahk l b hh) (YB l b hh)
  ·show Bm _ w _ _ ((aF s (bP 0 s.ins x)++List.replicate _ AV.undef).getD t .undef) ((mO.toArray++Array.replicate _ undef).getD t undef)
   by_cases ht:t<mO.length
   ·rw [Aj,At (by omega),<-Aj]
    rw [cq,Tz (by simpa using ht)]
    have:=g2 t _ _ (Ac (by omega)) (Ac ht)
    simpa [Aj,Ac ht,Ac (show t<(aF s (bP 0 s.ins x)).length by omega)] using this
   ·have:(aF s (bP 0 s.ins x)++List.replicate (fn.ntmps-(aF s (bP 0 s.ins x)).length) AV.undef).getD t .undef= .undef:=by
     rw [Aj,As (by omega)]
     rw [Zg]
     split<;>rfl
    rw [this];trivial
 have fin: ∀(st:St) (a':Act) (w':World),WM T s fn x st (λz=>z=(r,o))->Rel ⟨w,Sg,Wa qS,π0⟩ st a' w'->Akl P s fn x w S π g r o a' w':=by
  intro st a' w' ri hrel
  obtain ⟨cn,h'⟩:=hrel
  have Afv:Bl<=Pr:=by unfold Bl Pr;omega
  obtain ⟨bc,qe,Asn,hbc⟩: ∃bc,ke T s fn x st bc (λz=>z=(r,o))/\(s.ptr.isSome=true-> ∃b,Av st.heap Pr=some b/\b.row=none)/\
    (Pc st 0 s.ins=some o-> ∃bv,Nk ⟨w,Sg,Wa qS,π0⟩ w' cn st.heap bc bv/\bv.length=s.aI/\ ∀tl,lC s π w' g (bv++tl) o):=by
   unfold WM at ri
   cases hp:s.ptr with
   |none=>
    rw [hp] at ri
    exact ⟨[],ri,λh=>by simp at h,λ_=>⟨[],trivial,by simp [MSpec.aI,hp],λtl=>by simp [lC,hp]⟩⟩
   |some p=>
    rw [hp] at ri
    obtain ⟨vs,cs,h1,h2,h3,h4,h5⟩:=ri
    unfold St.at at h1
    refine ⟨cs,h5,λ_=>⟨_,h1,rfl⟩,λyN=>?_⟩
    obtain ⟨q,k1,k2,cur,k3,k4⟩:=(h'.1.heap Pr).Rz h1
    have hsv:bA (π0 Pr) (cn Pr):=h'.1.gZ Pr Afv (by rw [h1];simp)
    rw [YU (by rw [hp];rfl),k1] at hsv
    have hqg:g=q.g:=hsv.1
    obtain ⟨bv,g1,g2,g3⟩:=Zj (π0:=qS) (λk hk=>h'.1.gZ _ (Nat.le_of_not_lt (bl k)) hk) s.ins 0 vs cur.toList cs o (Nk.of k4) h3 h4 yN
    refine ⟨bv,g1,by rw [g2,h2];simp [MSpec.aI,hp],λtl=>?_⟩
    unfold lC
    rw [hp]
    refine ⟨cur.toList,by rw [hqg];simpa using k3,λu hu=>?_,Et.congr s.ins 0 o p.2 _ _ Afp (h2▸g3 tl)⟩
    obtain ⟨i,hi,rfl⟩:=Bf.1 hu
    have hl:=k4.1
    obtain ⟨u',h6,h7,_⟩:=k4.2 i (vs[i]'(by omega)) (Ac _)
    rw [Ac hi] at h6
    rw [Az h6];exact h7
  unfold ke at qe
  split at qe
  ·exact qe.elim
  rename_i l hl
  split at qe
  ·exact qe.elim
  rename_i as ml gS
  split at qe
  rotate_left
  ·exact qe.elim
  rename_i r' ls o' JR qc
  obtain ⟨Ki,xg,YN⟩:=qe
  simp only [Ag,Ns] at Ki
  obtain ⟨⟨⟨BI,Awg⟩,Aup⟩,Alm⟩:=Ki
  simp only [Ae] at YN
  obtain ⟨rfl,rfl⟩:=YN
  obtain ⟨bv,hbv,Ar1,Aqy⟩:=hbc qc
  have yQ:=Yk BI
  obtain ⟨n1,n2,n3⟩:=Dr.1 yQ
  obtain ⟨m1,m2,m3⟩:=Dr.1 n1
  obtain ⟨vs,v1,v2,v3,v4⟩:=Ym hT h' _ _ hl
  have hrs:fn.results=fn.results.toList.toArray:=Array.toArray_toList.symm
  have Vv: ∀v,(if h:vs.toArray.size=1 then vs.toArray[0] else .tuple vs.toArray)=v->(results fn a'.tmps).run P w'= .ok v w':=by
   intro v hv
   rw [fK,hrs,List.mapM_toArray]
   simp only [map_eq_pure_bind,bind_assoc,pure_bind]
   simp only [Sem.run_bind,GI (MC a'.tmps) _ vs v1 v3,Result.andThen_ok,Sem.run_pure]
   rw [hv]
  obtain ⟨wD,v,qm,Asl,hv,hqm⟩: ∃wD v qm,Nk ⟨w,Sg,Wa qS,π0⟩ w' cn st.heap as wD/\(results fn a'.tmps).run P w'= .ok v w'/\
    ((s.rp=none/\ml= []/\qm=none/\Aal s.Ib s.Hv wD v/\cV s.Hv wD)\/
     ∃tid m q,s.rp=some tid/\ml= [m]/\m<Bl/\qm=some q/\cn m=some q/\q.Cq q.g/\w'.heap[q.g]?=some (.cells wD.toArray tid (0,0))/\(∀u∈wD,u.oneCell'=true)/\v= .pointer (some ⟨q.g,0,none⟩)):=by
   unfold MB at gS
   split at gS
   ·rename_i HZ
    split at gS
    rotate_left
    ·cases gS
    rename_i hmul
    cases oF:ungroup s.Hv l with
    |none=>rw [oF] at gS;cases gS
    |some as'=>
     rw [oF] at gS
     simp only [Ak,Aa,Ae] at gS
     obtain ⟨rfl,rfl⟩:=gS
     obtain ⟨wD,e1,e2,e3⟩:=ah s.Hv l vs as' (by omega) v4 oF
     have hv: ∃v,(results fn a'.tmps).run P w'= .ok v w'/\Aal s.Ib s.Hv wD v:=by
      unfold Aal
      rw [<-e1,hmul]
      rcases Nat.lt_or_ge 1 l.length with h1|h1
      ·have hb1:Nat.blt 1 l.length=true:=by simpa using h1
       simp only [hb1,Py]
       refine ⟨.tuple vs.toArray,Vv _ ?_,rfl⟩
       rw [dif_neg (by simp;omega)]
      ·have hb1:Nat.blt 1 l.length=false:=by rw [<-Hx];simpa using h1
       simp only [hb1,Cz,Ry]
       rcases vs with _|⟨v,_|⟨v',vs⟩⟩
       ·exact ⟨_,Vv _ (by simp;rfl), .inr rfl⟩
       ·exact ⟨v,Vv _ (by simp), .inl rfl⟩
       ·exfalso;simp only [Aw] at v1;omega
     obtain ⟨v,hv1,hv2⟩:=hv
     exact ⟨wD,v,none,e3,hv1, .inl ⟨HZ,rfl,rfl,hv2,e2⟩⟩
   ·rename_i tid HZ
    split at gS
    rotate_left
    ·cases gS
    rename_i m i
    split at gS
    rotate_left
    ·cases gS
    rename_i Vd vs' hm
    split at gS
    rotate_left
    ·cases gS
    rename_i hc
    obtain ⟨rfl,rfl,hmp⟩:=hc
    simp only [Aa,Ae] at gS
    obtain ⟨rfl,rfl⟩:=gS
    unfold St.at at hm
    rcases vs with _|⟨v,_|⟨v',vs⟩⟩
    ·exfalso;simp only [Aw,Eo] at v1 v2;omega
    ·obtain ⟨q,Ayi,vs2,q1,q2,q3⟩:=v4 0 _ v rfl rfl
     rw [hm] at q1;cases q1
     obtain ⟨q',k1,k2,cur,k3,k4⟩:=(h'.1.heap m).Rz hm
     rw [q2] at k1;cases k1
     refine ⟨cur.toList,v,some q,Nk.of k4,Vv _ (by simp), .inr ⟨_,m,q,HZ,rfl,by simpa using hmp,rfl,q2,k2,by simpa using k3,λu hu=>?_,q3⟩⟩
     obtain ⟨i,hi,rfl⟩:=Bf.1 hu
     have hl:=k4.1
     obtain ⟨u',h6,h7,_⟩:=k4.2 i (vs'[i]'(by omega)) (Ac _)
     rw [Ac hi] at h6
     rw [Az h6];exact h7
    ·exfalso;simp only [Aw,Eo] at v1 v2;omega
  obtain ⟨BN,p1,p2,p3,p4,p5⟩:=xA h'.1 s.outs 0 (bc++as) (bv++wD) r' ls (hbv.append Asl) JR m2
  obtain ⟨io1,io2⟩:=Ux (π0:=qS) h'.1 (λ_=>rfl) s.ins 0 x us o' Ahk qc
  have Ala:(bv++wD).drop s.aI=wD:=by rw [<-Ar1];simp
  let ρ:Pi:= λl0=>if l0=Kv s.outs.length then qm else BN l0
  have Aia:ρ (Kv s.outs.length)=qm:=Ab rfl
  have Amu: ∀l0,l0≠Kv s.outs.length->ρ l0=BN l0:= λl0 h=>Ai h
  have Amt: ∀j,j<s.outs.length->ρ (Kv j)=BN (Kv j):= λj hj=>Amu _ (by unfold Kv;omega)
  have vh: ∀l0 q,ρ l0=some q->(l0=Kv s.outs.length/\qm=some q)\/(l0≠Kv s.outs.length/\BN l0=some q):= λl0 q h=>by
   by_cases e:l0=Kv s.outs.length
   ·subst e;rw [Aia] at h;exact .inl ⟨rfl,h⟩
   ·rw [Amu l0 e] at h;exact .inr ⟨e,h⟩
  have Am5: ∀q,qm=some q-> ∃m,ml= [m]/\m<Bl/\cn m=some q:= λq hq=>by
   rcases hqm with ⟨_,_,h1,_⟩|⟨_,m,q',_,h1,h2,h3,h4,_⟩
   ·rw [h1] at hq;cases hq
   ·rw [h3] at hq;cases hq;exact ⟨m,h1,h2,h4⟩
  have p3': ∀l0 q b,ρ l0=some q->q.Cq b-> ∃l1∈ml++ls,∃p,cn l1=some p/\p.cl b/\((s.outs.all λc=>!c.isX)=true->p.Cq b)/\((l1∈ls)\/l1<Bl):= λl0 q b h1 h2=>by
   rcases vh l0 q h1 with ⟨_,h3⟩|⟨_,h3⟩
   ·obtain ⟨m,e1,e2,e3⟩:=Am5 q h3
    exact ⟨m,by rw [e1];simp,q,e3,h'.1.sub m q b e3 h2,λ_=>h2, .inr e2⟩
   ·obtain ⟨l1,g1,p,g2,g3,g4⟩:=p3 l0 q b h3 h2
    exact ⟨l1,Cf _ g1,p,g2,g3,g4, .inl g1⟩
  have p4': ∀l0 l1 q q' b,ρ l0=some q->ρ l1=some q'->q.Cq b->q'.Cq b->l0=l1:= λl0 l1 q q' b h1 h2 h3 h4=>by
   have CS: ∀l0 q q' b,BN l0=some q->qm=some q'->q.Cq b->q'.Cq b->False:= λl0 q q' b h1 h2 h3 h4=>by
    obtain ⟨m,e1,e2,e3⟩:=Am5 q' h2
    obtain ⟨l1,g1,p,g2,g3,_⟩:=p3 l0 q b h1 h3
    have:=h'.1.inj m l1 q' p b e3 g2 (h'.1.sub m q' b e3 h4) g3
    exact m3 m (by rw [e1];simp) l1 g1 this
   rcases vh l0 q h1 with ⟨e1,h5⟩|⟨e1,h5⟩<;>rcases vh l1 q' h2 with ⟨e2,h6⟩|⟨e2,h6⟩
   ·rw [e1,e2]
   ·exact (CS l1 q' q b h6 h5 h4 h3).elim
   ·exact (CS l0 q q' b h5 h6 h3 h4).elim
   ·exact p4 l0 l1 q q' b h5 h6 h3 h4
  have PI: ∀l0 q,Bl<=l0->qS l0=some q->Av st.heap l0≠none/\(l0∈Qg 0 s.ins\/ ∃b,Av st.heap l0=some b/\b.row=none):= λl0 q h1 h2=>by
   rcases VD l0 q h2 with ⟨h3,_⟩|⟨h3,rfl,_⟩
   ·have yN:=xk s.ins 0 x l0 Alv (by omega) (λhnn=>by rw [XU l0 hnn] at h3;cases h3) (by omega)
    exact ⟨io2 l0 yN, .inl yN⟩
   ·obtain ⟨b,h4,h5⟩:=Asn h3
    exact ⟨by rw [h4];simp, .inr ⟨b,h4,h5⟩⟩
  have hDO:(s.outs.all λc=>!c.isX)=true-> ∀b,km Sg qS ρ b->Wa cn b\/Sg b:=by
   intro hx b hb
   rcases hb with hb|⟨l0,q,h1,h2,h3⟩|⟨l0,q,h1,h2⟩
   ·exact .inr hb
   ·have hs:=h'.1.gZ l0 h1 (PI l0 q h1 h2).1
    have hs:bA ((qS l0).map full) (cn l0):=hs
    rw [h2] at hs
    cases tj:cn l0 with
    |none=>rw [tj] at hs;exact hs.elim
    |some q1=>rw [tj] at hs;exact .inl ⟨l0,q1,tj,(hs.2.2.2 b).1 h3⟩
   ·obtain ⟨m,_,p,hm2,_,hm4,_⟩:=p3' l0 q b h1 h2
    exact .inl ⟨m,p,hm2,hm4 hx⟩
  have hDD: ∀b,km S π ρ b->km Sg qS ρ b:= λb hb=>by
   rcases hb with hb|⟨l0,q,h1,h2,h3⟩|hb
   ·by_cases VZ:s.gv g b
    ·obtain ⟨hps,rfl⟩:=VZ
     exact .inr (.inl ⟨Pr,_,Afv,Ab ⟨hps,rfl⟩,rfl⟩)
    ·exact .inl ⟨hb,VZ⟩
   ·refine .inr (.inl ⟨l0,q,h1,?_,h3⟩)
    show (if s.ptr.isSome=true/\l0=Pr then _ else π l0)=some q
    rw [Ai]
    ·exact h2
    ·rintro ⟨_,rfl⟩
     rw [XU Pr Ai6] at h2;cases h2
   ·exact .inr (.inr hb)
  have hfl:s.flat=true\/(s.outs.all λc=>!c.isX)=true:=by unfold MSpec.ZR at Alm;simpa only [Mi] using Alm
  have io1:Ms w' (km S π ρ) π 0 s.ins o':=by
   refine Ms.congr s.ins 0 o' Afp ?_
   rcases hfl with hf|hf
   ·unfold MSpec.flat at hf
    simp only [Ag] at hf
    exact Ms.any s.ins 0 o' hf.2 io1
   ·exact Ms.Jr (λb hb=>hDO hf b (hDD b hb)) s.ins 0 o' io1
  have p1:Jz w' (km S π ρ) ρ 0 s.outs r' (bv++wD):=by
   have p1:Jz w' (λb=>Wa cn b\/Sg b) ρ 0 s.outs r' (bv++wD):=Jz.XC s.outs 0 r' _ (λj _ hj=>Amt j (by omega)) p1
   rcases hfl with hf|hf
   ·unfold MSpec.flat at hf
    simp only [Ag] at hf
    exact Jz.any s.outs 0 r' (bv++wD) hf.1 p1
   ·exact Jz.Jr (λb hb=>hDO hf b (hDD b hb)) s.outs 0 r' (bv++wD) p1
  refine ⟨v,bv++wD,ρ,h'.2.defers,hv,?_,Aqy wD,⟨h'.1.below.os,h'.1.below.tape,h'.1.below.output,h'.1.below.size,λk hk hn=>h'.1.below.block k hk λho=>hn ((eg k).1 ho)⟩,io1,p1,⟨λl0 q b h1 h2=>?_,p4'⟩,λl0 hl0=>?_,λkj WC=>?_⟩
  ·rw [Ala]
   unfold sm
   rcases hqm with ⟨h1,_,_,h2⟩|⟨tid,m,q,h1,_,_,h3,_,h4,h5,h6,h7⟩
   ·rw [h1];exact h2
   ·rw [h1];exact ⟨q,by rw [Aia,h3],h4,h5,h6,h7⟩
  ·obtain ⟨m,hm1,p,hm2,hm3,_,hm4⟩:=p3' l0 q b h1 h2
   obtain ⟨k1,k2⟩:=h'.1.place m p b hm2 hm3
   refine ⟨k2,k1.imp id λ⟨c0,q0,h5,h6⟩=>?_⟩
   have Lr:c0<Bl:=Bu λhn=>by
    obtain ⟨Jl,yN⟩:=PI c0 q0 (by omega) h5
    have hs:=h'.1.gZ c0 (by omega) Jl
    have hs:bA ((qS c0).map full) (cn c0):=hs
    rw [h5] at hs
    cases tj:cn c0 with
    |none=>rw [tj] at hs;exact hs.elim
    |some q1=>
     rw [tj] at hs
     have hf1:q1.Cq b:=(hs.2.2.2 b).1 h6
     have:=h'.1.inj c0 m q1 p b tj hm2 (h'.1.sub c0 q1 b tj hf1) hm3
     subst this
     rcases hm4 with hm4|hm4
     ·rcases yN with yN|⟨b1,hb1,hb2⟩
      ·exact n3 c0 hm1 c0 yN rfl
      ·obtain ⟨b2,hb3,hb4⟩:=tX s.outs _ _ _ JR c0 hm4
       rw [hb1] at hb3;cases hb3
       exact hb4 hb2
     ·exact hn hm4
   refine ⟨c0,q0,Lr,?_,h6⟩
   rcases VD c0 q0 h5 with ⟨h7,_⟩|⟨_,h7,_⟩
   ·exact h7
   ·omega
  ·cases hp:ρ l0 with
   |none=>rfl
   |some q=>
    rcases vh l0 q hp with ⟨e,h3⟩|⟨_,h3⟩
    ·refine absurd e (hl0 _ ?_)
     rcases hqm with ⟨_,_,h4,_⟩|⟨tid,m,q',h4,_⟩
     ·rw [h4] at h3;cases h3
     ·unfold MSpec.Va;rw [h4];simp
    ·obtain ⟨j,_,j2,j3⟩:=p2 l0 q h3
     exact absurd j3 (hl0 j (by unfold MSpec.Va;omega))
  ·obtain ⟨l0,off,len,e,te,rows,out,p,q1,q2,q3,q4,q5⟩:=xp xg kj WC
   have hj:kj.2<s.outs.length:=by
    rw [<-xz s.outs _ _ _ JR]
    exact (An.1 q1).1
   have e1:=p5 kj.2 l0 off len e te rows out (some p) q1 q2
   rw [Cb] at e1
   rw [Amt _ hj,e1]
   have hk:=((h'.1.heap l0).Rz q2).2
   obtain ⟨l1,n1⟩:=p
   simp only [KeptAt] at hk
   dsimp only at q3 q4
   subst q3
   have SG:π0 (Dv false kj.1)=(π (Dv false kj.1)).map full:=by
    show (if s.ptr.isSome=true/\Dv false kj.1=Pr then _ else π (Dv false kj.1)).map full=_
    rw [Ai λh=>hvl false kj.1 q5 h.2]
   rw [SG] at hk
   unfold BP
   cases hp:π (Dv false kj.1) with
   |none=>
    rw [hp] at hk
    cases tj:cn l0 with
    |none=>trivial
    |some q=>rw [tj] at hk;exact hk.elim
   |some q0=>
    rw [hp] at hk
    cases tj:cn l0 with
    |none=>rw [tj] at hk;exact hk.elim
    |some q=>
     rw [tj] at hk
     obtain ⟨k1,k2,k3,k4⟩:=hk
     exact ⟨k1,k2,k3,λj hj hc=>k4 j (by omega) hc⟩
 refine calls_of_wp hf hb ?_
 refine (uq hT Pk hm he _ w _ h0 λe st a' w' ⟨Jl,ri⟩ h'=>?_).1
 obtain ⟨v,Xf,ρ,p1,p2,p3⟩:=fin st a' w' ri h'
 cases e with
 |normal=>exact ⟨p1,v,p2,v,Xf,ρ,rfl,p3⟩
 |ret=>exact ⟨p1,v,p2,v,Xf,ρ,rfl,p3⟩
 |exit id=>exact absurd rfl (Jl id)
end
end Go.Proofs.YtkkdpknjohcekaaGreat
