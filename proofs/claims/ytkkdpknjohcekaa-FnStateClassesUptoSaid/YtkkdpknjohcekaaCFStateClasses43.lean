/-
  Part 44 of the proof that the statement FnStateClasses holds.
-/
import Derived.Test.YtkkdpknjohcekaaCFStateClasses42
namespace Go.Proofs.Ytkkdpknjohcekaa
open Go.RowKit
section
variable {Q:List Int->Prop} {code:List Int->Nat} {B:Nat}
theorem RW (inj: ∀x y,Q x->Q y->code x=code y->x=y) (lt: ∀x,Q x->code x<B) {L:List (List Int)} (hQ: ∀y∈L,Q y) (hn:L.Nodup):L.length<=B:=by
 have h1:(L.map code).Nodup:=by
  unfold List.Nodup
  rw [bp]
  exact List.Pairwise.imp_of_mem (λha hb Hq he=>Hq (inj _ _ (hQ _ ha) (hQ _ hb) he)) hn
 have h2:=Yq h1 (l2:=List.range B) λx hx=>by
  obtain ⟨y,hy,rfl⟩:=Be.1 hx
  exact Ej.2 (lt y (hQ y hy))
 simpa using h2
theorem kl (hB:B<3000) (inj: ∀x y,Q x->Q y->code x=code y->x=y) (lt: ∀x,Q x->code x<B) {g:List (List Int)} {x:List Int} {d:Int} :
  ∀(ls:List Int) (L:List (List Int)) (D:List Int),(∀l∈ls,Q (Aj x (Av g l)))->(∀y∈L,Q y)->L.Nodup->
   (Hg g x d ls L D).2.2=true/\(∀y∈(Hg g x d ls L D).1,Q y)/\(Hg g x d ls L D).1.Nodup
 | [],L,D,_,hQ,hn=>⟨rfl,hQ,hn⟩
 |l::ls,L,D,hl,hQ,hn=>by
  have Ll: ∀l∈ls,Q (Aj x (Av g l)):= λl h=>hl l (An _ h)
  rw [Hg]
  split
  ·exact kl hB inj lt ls L D Ll hQ hn
  ·rename_i hni
   have:=RW inj lt hQ hn
   rw [Ai (by omega)]
   refine kl hB inj lt ls _ _ Ll (λy hy=>?_) ?_
   ·rcases Az.1 hy with h|h
    ·exact hQ y h
    ·rw [Ae.1 h];exact hl l (by simp)
   ·rw [Dg]
    exact ⟨hn,by simp,λa ha b hb e=>hni (by rw [Ae.1 hb] at e;rw [<-e];exact ha)⟩
theorem qh (hB:B<3000) (inj: ∀x y,Q x->Q y->code x=code y->x=y) (lt: ∀x,Q x->code x<B) {g:List (List Int)} {ls:List Int} (step: ∀x,Q x-> ∀l∈ls,Q (Aj x (Av g l))):
  ∀(f k:Nat) (L:List (List Int)) (D:List Int),(∀y∈L,Q y)->L.Nodup->(Ka g ls f k L D).2.2=true
 |0,_,_,_,_,_=>rfl
 |f+1,k,L,D,hQ,hn=>by
  rw [Ka]
  split
  ·rename_i hk
   have hx:Q (L.getD k []):=by
    rw [Ah,Ab hk]
    exact hQ _ (Al hk)
   obtain ⟨h1,h2,h3⟩:=kl hB inj lt (d:=D.getD k 0) ls L D (step _ hx) hQ hn
   generalize Hg g (L.getD k []) (D.getD k 0) ls L D=r at h1 h2 h3
   obtain ⟨L',D',b⟩:=r
   have h1:b=true:=h1
   subst h1
   exact qh hB inj lt step f (k+1) L' D' h2 h3
  ·rfl
theorem RO (hB:B<3000) (inj: ∀x y,Q x->Q y->code x=code y->x=y) (lt: ∀x,Q x->code x<B) {g:List (List Int)} {s:List Int} (hs:Q s)
  (step: ∀x,Q x-> ∀l∈Bm g.length,Q (Aj x (Av g l))):(Jb g s).2.2=true:=
 qh hB inj lt step _ _ _ _ (λy hy=>by rw [Ae.1 hy];exact hs) (by simp)
end
def uG (x:List Int):Nat:=(Hz x 0+5*Hz x 1+25*Hz x 2+125*Hz x 3).toNat
theorem SH {x:List Int} {k:Nat} (h:x.length<=k):Hz x (k:Int)=0:=by
 unfold Hz
 rw [As,Ah,Ds h]
 rfl
theorem Ps {n:Nat} {x:List Int} (hn:n<=5) (h:Pm n x) (k:Nat):0<=Hz x (k:Int)/\Hz x (k:Int)<5:=by
 by_cases hk:k<n
 ·have:=h.Yh hk
  omega
 ·rw [SH (by rw [h.1];omega)]
  decide
theorem HY {n:Nat} {x:List Int} (hn:n<=5) (h:Pm n x):uG x<625:=by
 have h0:=Ps hn h 0
 have h1:=Ps hn h 1
 have h2:=Ps hn h 2
 have h3:=Ps hn h 3
 simp only [Int.natCast_zero] at h0
 unfold uG
 have e1:((1:Nat):Int)=1:=rfl
 have e2:((2:Nat):Int)=2:=rfl
 have e3:((3:Nat):Int)=3:=rfl
 rw [e1] at h1;rw [e2] at h2;rw [e3] at h3
 omega
theorem CG {n:Nat} (hn:n<=5) (x y:List Int) (hx:Pm n x) (hy:Pm n y) (e:uG x=uG y):x=y:=by
 have e1:((1:Nat):Int)=1:=rfl
 have e2:((2:Nat):Int)=2:=rfl
 have e3:((3:Nat):Int)=3:=rfl
 have a0:=Ps hn hx 0
 have a1:=Ps hn hx 1
 have a2:=Ps hn hx 2
 have a3:=Ps hn hx 3
 have b0:=Ps hn hy 0
 have b1:=Ps hn hy 1
 have b2:=Ps hn hy 2
 have b3:=Ps hn hy 3
 simp only [Int.natCast_zero] at a0 b0
 rw [e1] at a1 b1;rw [e2] at a2 b2;rw [e3] at a3 b3
 unfold uG at e
 have low: ∀i:Nat,i<4->Hz x (i:Int)=Hz y (i:Int):=by
  intro i hi
  match i,hi with
  |0,_=>simp only [Int.natCast_zero];omega
  |1,_=>rw [e1];omega
  |2,_=>rw [e2];omega
  |3,_=>rw [e3];omega
 have Ai9: ∀i,i<4->ap x i=ap y i:= λi hi=>by unfold ap;rw [low i hi]
 refine hx.ext hy λi hi=>?_
 by_cases h4:i<4
 ·exact Ai9 i h4
 ·obtain ⟨j,hj,hjx⟩:=hy.HL (hx.lt hi)
  by_cases hj4:j<4
  ·rw [<-Ai9 j hj4] at hjx
   have:=hx.inj hj hi hjx
   omega
  ·have:j=i:=by omega
   rw [this] at hjx
   exact hjx.symm
theorem EK {p:PP} (hv:Bi p=true) (h5:p.1<=5):Ix p=true:=by
 have hV:=valid hv
 have hn:=hV.n
 refine Db.2 ⟨hv,RO (Q:=Pm p.1.toNat) (code:=uG) (B:=625) (by decide) (CG (by omega)) (λx hx=>HY (by omega) hx) (Pm.id (by omega) (by omega)) λx hx l hl=>?_⟩
 exact hx.comp (cX hV (Gw hl))
theorem ZY {n a c:Nat} {mv:List Int} (h:Pm n mv) (ha:a<n) (hc:c<n):Pm n ((mv.set a (Hz mv (c:Int))).set c (Hz mv (a:Int))):=by
 have hA:=(h.Yh ha).1
 have hC:=(h.Yh hc).1
 refine Pm.of (by simp only [Bt];exact h.1) h.n1 h.n2 (λk=>if k=c then ap mv a else if k=a then ap mv c else ap mv k) (λi hi=>?_) λi j hi hj e=>?_
 ·rw [Eb,Eb,Bt,h.1]
  by_cases h1:c=i
  ·rw [Ac h1,Ac hc,Ac (show i=c from h1.symm)]
   exact ⟨by rw [hA],h.lt ha⟩
  ·rw [Ai h1,Ai (show ¬i=c from λe=>h1 e.symm)]
   by_cases h2:a=i
   ·rw [Ac h2,Ac ha,Ac (show i=a from h2.symm)]
    exact ⟨by rw [hC],h.lt hc⟩
   ·rw [Ai h2,Ai (show ¬i=a from λe=>h2 e.symm)]
    have j8:i<mv.length:=by rw [h.1];exact hi
    have:=(h.Yh hi).1
    rw [Ig j8] at this
    rw [Ab j8,this]
    exact ⟨rfl,h.lt hi⟩
 ·by_cases i1:i=c
  ·rw [Ac i1] at e
   by_cases j1:j=c
   ·rw [i1,j1]
   ·rw [Ai j1] at e
    by_cases j2:j=a
    ·rw [Ac j2] at e
     have:=h.inj ha hc e
     rw [i1,j2,this]
    ·rw [Ai j2] at e
     exact absurd (h.inj ha hj e).symm j2
  ·rw [Ai i1] at e
   by_cases i2:i=a
   ·rw [Ac i2] at e
    by_cases j1:j=c
    ·rw [Ac j1] at e
     have:=h.inj hc ha e
     rw [i2,j1,this]
    ·rw [Ai j1] at e
     by_cases j2:j=a
     ·rw [i2,j2]
     ·rw [Ai j2] at e
      exact absurd (h.inj hc hj e).symm j1
   ·rw [Ai i2] at e
    by_cases j1:j=c
    ·rw [Ac j1] at e
     exact absurd (h.inj hi ha e) i2
    ·rw [Ai j1] at e
     by_cases j2:j=a
     ·rw [Ac j2] at e
      exact absurd (h.inj hi hc e) i1
     ·rw [Ai j2] at e
      exact h.inj hi hj e
theorem w5 {b:List Int} {n:Int} (hn:1<=n): ∀(k:Nat) (i h:Int) (mv:List Int),pB b i->Pm n.toNat mv->Pm n.toNat (eE b n k i h mv).2.2
 |0,_,_,_,_,hm=>hm
 |k+1,i,h,mv,hd,hm=>by
  have r1:=qw hd hn h
  have r2:=qw hd.next hn (hN h)
  rw [eE]
  refine w5 hn k _ _ _ hd.next.next ?_
  have:=ZY hm (a:=(dR b i h n).toNat) (c:=(dR b (dI b i) (hN h) n).toNat) (by omega) (by omega)
  rw [Int.toNat_of_nonneg r1.1,Int.toNat_of_nonneg r2.1] at this
  exact this
theorem BJ {b:List Int} {n:Int} (hn:1<=n) (hn2:n<=20): ∀(k:Nat) (i h:Int) (ms:List (List Int)),pB b i->(∀m∈ms,Pm n.toNat m)-> ∀m∈(Zo b n k i h ms).2.2,Pm n.toNat m
 |0,_,_,_,_,hm=>hm
 |k+1,i,h,ms,hd,hm=>by
  rw [Zo]
  refine BJ hn hn2 k _ _ _ (rG hd h) λm hmm=>?_
  rcases Az.1 hmm with h1|h1
  ·exact hm m h1
  ·rw [Ae.1 h1]
   exact w5 hn _ _ _ _ hd.next (Pm.id (by omega) (by omega))
theorem UG:al UI=true:=by
 refine Fp.2 ⟨by decide,λj hj=>?_⟩
 have hj:j<2:=hj
 match j,hj with
 |0,_=>exact ⟨65,rfl,by decide,by decide,λk hk=>by omega⟩
 |1,_=>exact ⟨66,rfl,by decide,by decide,λk hk=>(by have e:k=0:=(by omega);rw [e];decide)⟩
structure mN (p:PP):Prop where
 valid:Bi p=true
 two:p.2.2.1.length=2
 lo:3<=p.1
 hi:p.1<=5
 short:Lp p
theorem JJ {b:List Int} {i:Int} (hd:pB b i) (h:Int):mN (Zn b i h).2.2/\pB b (Zn b i h).1:=by
 have hr:=qw hd (show (1:Int)<=3 by decide) h
 obtain ⟨n,hn⟩: ∃n,3+dR b i h 3=n:=⟨_,rfl⟩
 have h2:=LO b n 2 (dI b i) (hN h) []
 have h3:=BJ (b:=b) (n:=n) (by omega) (by omega) 2 (dI b i) (hN h) [] hd.next (λm hm=>by cases hm)
 have h4:=LN n 2 (dI b i) (hN h) [] hd.next
 unfold Zn
 rw [hn]
 generalize Zo b n 2 (dI b i) (hN h) []=R at h2 h3 h4
 obtain ⟨i',h',ms⟩:=R
 dsimp only at h2 h3 h4⊢
 simp only [Ho,Dx] at h2
 refine ⟨⟨Fp.2 ⟨Fp.2 ⟨⟨by show 1<=n;omega,by show n<=20;omega⟩,by show ms.length<=8;omega,λm hm=>?_⟩,UG,by show 2=ms.length;omega⟩,h2,by show 3<=n;omega,by show n<=5;omega,⟨by show 2<=4294967296;decide,by show ms.length<=4294967296;omega,λm hm=>?_⟩⟩,h4⟩
 ·have:=h3 m hm
  have h5:=this.1
  exact Fp.2 ⟨by omega,uY this.2⟩
 ·exact gO (h3 m hm)
structure Asc (n:Int) (o:List Int):Prop where
 asc:o.Pairwise (· < ·)
 row: ∀y∈o,0<=y/\y<n
theorem Asc.add {j:Int} {o:List Int} (h:Asc j o) (h0:0<=j):Asc (j+1) (o++ [j]):=by
 refine ⟨Ic.2 ⟨h.asc,by simp,λa ha b hb=>?_⟩,λy hy=>?_⟩
 ·rw [Ae.1 hb];exact (h.row a ha).2
 ·rcases Az.1 hy with h1|h1
  ·have:=h.row y h1;omega
  ·rw [Ae.1 h1];omega
theorem Asc.le {j n:Int} {o:List Int} (h:Asc j o) (hj:j<=n):Asc n o:=⟨h.asc,λy hy=>by have:=h.row y hy;omega⟩
theorem mN.whole {p:PP} (hp:mN p):Ix p=true:=EK hp.valid hp.hi
structure q6 (p:PP) (ts:List TT):Prop where
 set:ru p ts=true
 pF:ts.length<=2
 short:ZT ts
 valid: ∀t∈ts,rv p t=true
theorem q6.add {p:PP} (hp:mN p) {ts:List TT} (h:q6 p ts) {t:TT} (ht:rv p t=true):ru p (ts++ [t])=true:=by
 have:=h.pF
 refine Db.2 ⟨Db.2 ⟨hp.valid,Hu (by rw [Au,Bw];omega)⟩,Ba.2 λt' GL=>?_⟩
 rcases Az.1 GL with h4|h4
 ·exact h.valid t' h4
 ·rw [Ae.1 h4];exact ht
section
variable {p:PP} {ts:List TT} {s:List Int}
end
section
variable {α β:Type}
theorem sum_add (f g:α->Nat): ∀L:List α,(L.map λx=>f x+g x).sum=(L.map f).sum+(L.map g).sum
 | []=>rfl
 |x::L=>by
  simp only [Bk,Ov]
  rw [sum_add f g L]
  omega
theorem sE: ∀L:List α,(L.map λ_=>(0:Nat)).sum=0
 | []=>rfl
 |_::L=>by
  simp only [Bk,Ov]
  rw [sE L]
theorem nT {f:α->Nat} {c:Nat} : ∀L:List α,(∀x∈L,f x=c)->(L.map f).sum=L.length*c
 | [],_=>by simp
 |x::L,h=>by
  simp only [Bk,Ov,Aw]
  rw [h x (by simp),nT L λy hy=>h y (An _ hy),Nat.succ_mul]
  omega
theorem iX {f g:α->Nat} {L:List α} (h: ∀x∈L,f x=g x):(L.map f).sum=(L.map g).sum:=by
 rw [Fz h]
theorem qv (P:α->Bool) (x:α) (L:List α):(x::L).countP P=(if P x=true then 1 else 0)+L.countP P:=by
 rw [List.countP_cons]
 omega
theorem Yi (R:α->β->Bool): ∀(L:List α) (M:List β),(L.map λx=>M.countP (R x)).sum=(M.map λy=>L.countP λx=>R x y).sum
 | [],M=>by
  simp only [List.map_nil,List.sum_nil,List.countP_nil]
  exact (sE M).symm
 |x::L,M=>by
  simp only [Bk,Ov]
  rw [Yi R L M,show (λy=>(x::L).countP λz=>R z y)= λy=>(if R x y=true then 1 else 0)+L.countP λz=>R z y from funext λy=>qv _ _ _,
   sum_add,yA (R:=R x) M]
where yA {R:β->Bool} : ∀M:List β,(M.map λy=>if R y=true then 1 else 0).sum=M.countP R
 | []=>rfl
 |y::M=>by
  rw [Bk,Ov,yA M,qv]
theorem qt [DecidableEq β] {L:List α} {M:List β} {P:α->Bool} {Q:β->Bool} (hn:L.Nodup) (f:α->β) (h: ∀x∈L,P x=true->f x∈M/\Q (f x)=true)
  (inj: ∀x∈L,P x=true-> ∀y∈L,P y=true->f x=f y->x=y):L.countP P<=M.countP Q:=by
 rw [List.countP_eq_length_filter,List.countP_eq_length_filter]
 have:=Yq (l1:=(L.filter P).map f) (l2:=M.filter Q) (bp.2 ((hn.filter P).imp_of_mem λhx hy Hq e=>Hq
  (inj _ (Bd.1 hx).1 (Bd.1 hx).2 _ (Bd.1 hy).1 (Bd.1 hy).2 e))) λy hy=>by
   obtain ⟨x,hx,rfl⟩:=Be.1 hy
   obtain ⟨h1,h2⟩:=Bd.1 hx
   exact Bd.2 (h x h1 h2)
 rwa [Hm] at this
theorem uH {L:List α} {P:α->Bool} (hn:L.Nodup) {a:α} (ha:a∈L) (h: ∀x∈L,P x=true↔x=a):L.countP P=1:=by
 classical
 rw [List.countP_congr (q:= λx=>decide (x=a)) λx hx=>by rw [h x hx];simp]
 have h1:L.countP (λx=>decide (x=a))=L.count a:=List.countP_congr λx _=>by simp
 rw [h1]
 have h2:=(List.nodup_iff_count.1 hn) a
 have h3:=List.count_pos_iff.2 ha
 omega
end
section
variable {p:PP}
theorem sy (hv:Bi p=true):(Cb p).Nodup:=(gV hv).nodup
theorem vI {n:Nat} {x y z:List Int} (hx:Pm n x) (hy:Pm n y) (hz:Pm n z) (e:Aj x z=Aj y z):x=y:=by
 have:Aj (Aj x z) (Bc z)=Aj (Aj y z) (Bc z):=Ma (λa=>Aj a (Bc z)) e
 rwa [Ed hx hz hz.inv,Ed hy hz hz.inv,Ux hz,comp_id hx,comp_id hy] at this
end
theorem sub_eq {α:Type} [DecidableEq α] {l1 l2:List α} (hn:l1.Nodup) (hs: ∀x∈l1,x∈l2) (hl:l2.length<=l1.length): ∀x∈l2,x∈l1:= λx hx=>by
 refine Bf λh=>?_
 have:=Yq (l1:=x::l1) (l2:=l2) (Ca.2 ⟨h,hn⟩) λy hy=>by
  rcases Ay.1 hy with rfl|hy
  ·exact hx
  ·exact hs y hy
 rw [Aw] at this
 omega
theorem LM: ∀(k:Nat) (R x:List Int),R.length=k->x.Perm R->x∈lex k R
 |0,R,x,hl,h=>by
  have h1:=h.length_eq
  have:x= []:=List.length_eq_zero_iff.1 (by omega)
  rw [this,lex]
  simp
 |k+1,R,[],hl,h=>by have:=h.length_eq;simp at this;omega
 |k+1,R,v::y,hl,h=>by
  have hv:v∈R:=h.mem_iff.1 (by simp)
  have h1:y.Perm (R.erase v):=(List.perm_cons v).1 (h.trans (List.perm_cons_erase hv))
  rw [lex]
  exact Ey.2 ⟨v,hv,Be.2 ⟨y,LM k _ _ (by rw [Ou hv];omega) h1,rfl⟩⟩
theorem CH {n:Nat} {x:List Int} (h:Pm n x):x.Nodup:=by
 refine De.2 λi j hi hj dO e=>?_
 have h1:=h.1
 have:=h.inj (i:=i) (j:=j) (by omega) (by omega) (by unfold ap;rw [Ig hi,Ig hj,e])
 omega
theorem VA {n:Nat} {x:List Int} (h:Pm n x) {v:Int} (hv:v∈x):0<=v/\v<n:=by
 obtain ⟨i,hi,rfl⟩:=Bx.1 hv
 have h1:=h.Yh (i:=i) (by have:=h.1;omega)
 rw [Ig hi] at h1
 omega
theorem ZP {n:Nat} {x:List Int} (h:Pm n x):x.Perm (upto n):=by
 refine (List.perm_ext_iff_of_nodup (CH h) (Xq n)).2 λv=>⟨λhv=>?_,λhv=>?_⟩
 ·exact Kn.2 (VA h hv)
 ·exact sub_eq (CH h) (λy hy=>Kn.2 (VA h hy)) (by rw [Iv,h.1];exact Ao _) v hv
theorem IA {n:Nat} {x:List Int} (h:Pm n x):x∈lex n (upto n):=LM _ _ _ (Iv n) (ZP h)
theorem vo (n:Nat):(lex n (upto n)).Nodup:=De.2 λ_ _ hi hj dO=>(DQ n).distinct (nk n) _ _ _ hi hj rfl dO
theorem Aeg {p:PP} (hv:Bi p=true) (h5:p.1<=5):(Cb p).length<=120:=by
 have h1:=Yq (l2:=lex p.1.toNat (upto p.1.toNat)) (sy hv) λx hx=>IA (mB hv hx)
 rw [xh _ _ (Iv _)] at h1
 have h2: ∀k,k<=5->zP k<=120:=by decide
 have:=h2 p.1.toNat (by omega)
 omega
section
variable {n:Nat} {x y q r:List Int}
theorem Pm.XU (hx:Pm n x) (hq:Pm n q):Pm n (Bq x q):=(hq.inv.comp hx).comp hq
theorem zA (hx:Pm n x) (hy:Pm n y) (hq:Pm n q):Bq (Aj x y) q=Aj (Bq x q) (Bq y q):=by
 unfold Bq
 rw [Ed (hq.inv.comp hx) hq ((hq.inv.comp hy).comp hq),<-Ed hq (hq.inv.comp hy) hq,<-Ed hq hq.inv hy,Ux hq,id_comp hy,
  ←Ed hq.inv hx hy,Ed (hq.inv.comp hx) hy hq]
theorem zB (hq:Pm n q):Bq (upto n) q=upto n:=by
 unfold Bq
 rw [comp_id hq.inv,Vh hq]
theorem pD (hx:Pm n x):Bq x (upto n)=x:=by
 unfold Bq
 rw [GR hx.n1 hx.n2,comp_id ((Pm.id hx.n1 hx.n2).comp hx),id_comp hx]
theorem Wn (hx:Pm n x) (hq:Pm n q) (hr:Pm n r):Bq (Bq x q) r=Bq x (Aj q r):=by
 unfold Bq
 rw [inv_mul hq hr,<-Ed hr.inv (hq.inv.comp hx) hq,<-Ed hr.inv hq.inv hx,Ed ((hr.inv.comp hq.inv).comp hx) hq hr]
theorem RZ (hx:Pm n x) (hq:Pm n q):Bc (Bq x q)=Bq (Bc x) q:=by
 refine lW (hx.XU hq) (hx.inv.XU hq) ?_
 rw [<-zA hx hx.inv hq,Ux hx,zB hq]
theorem aj (hx:Pm n x) (hq:Pm n q):Bq (Bq x q) (Bc q)=x:=by rw [Wn hx hq hq.inv,Ux hq,pD hx]
theorem FK (hx:Pm n x) (hq:Pm n q):Bq (Bq x (Bc q)) q=x:=by rw [Wn hx hq.inv hq,Vh hq,pD hx]
theorem RY (hx:Pm n x) (hy:Pm n y) (hq:Pm n q) (e:Bq x q=Bq y q):x=y:=by rw [<-aj hx hq,e,aj hy hq]
end
theorem uJ {g:List (List Int)} {x:List Int} : ∀(ls:List Int),(∀l∈ls,l≠0)->((∃l∈ls,Av g l=x)↔Oi g x ls≠0)/\(Oi g x ls≠0->Oi g x ls∈ls/\Av g (Oi g x ls)=x)
 | [],_=>by simp [Oi]
 |l::r,h=>by
  have ih:=uJ (g:=g) (x:=x) r λl' Ll=>h l' (An _ Ll)
  rw [Oi]
  by_cases e:Av g l=x
  ·rw [Ac e]
   exact ⟨⟨λ_=>h l (by simp),λ_=>⟨l,by simp,e⟩⟩,λ_=>⟨by simp,e⟩⟩
  ·rw [Ai e]
   refine ⟨⟨λ⟨l',h1,h2⟩=>?_,λhh=>?_⟩,λhh=>⟨An _ (ih.2 hh).1,(ih.2 hh).2⟩⟩
   ·rcases Ay.1 h1 with rfl|h1
    ·exact absurd h2 e
    ·exact ih.1.1 ⟨l',h1,h2⟩
   ·obtain ⟨l',h1,h2⟩:=ih.1.2 hh
    exact ⟨l',An _ h1,h2⟩
theorem yZ (g:List (List Int)) (x:List Int):((∃l∈Bm g.length,Av g l=x)↔Hr g x≠0)/\(Hr g x≠0->Hr g x∈Bm g.length/\Av g (Hr g x)=x):=by
 rw [<-jr]
 exact uJ _ λl hl=>(Gw hl).1
def fN (p:PP) (x:List Int):Prop:= ∃l∈Bm p.2.2.1.length,Av p.2.2.1 l=x
section
variable {p:PP}
theorem mS (hv:Bi p=true) {x:List Int} (h:fN p x):Pm p.1.toNat x:=by
 obtain ⟨l,hl,rfl⟩:=h
 exact cX (valid hv) (Gw hl)
theorem XX (hv:Bi p=true) {x:List Int} (h:fN p x):fN p (Bc x):=by
 obtain ⟨l,hl,rfl⟩:=h
 obtain ⟨k,hk,rfl|rfl⟩:=Nh (Gw hl)
 ·exact ⟨_,(Ni hk).2,by rw [Kw hk,Jf hk]⟩
 ·refine ⟨_,(Ni hk).1,?_⟩
  rw [Kw hk,Jf hk,inv_inv]
  have:=cX (valid hv) (Gw (Ni hk).1)
  rwa [Jf hk] at this
theorem uZ (hv:Bi p=true) {q:List Int} (hq:Pm p.1.toNat q):Jo p q=true↔ ∀x,fN p x->fN p (Bq x q):=by
 have key: ∀k,k<p.2.2.1.length->(Nj p q ((k:Int)+1)≠0↔fN p (Bq (Av p.2.2.1 ((k:Int)+1)) q)):= λk hk=>(yZ _ _).1.symm
 refine Fp.trans ⟨λh x hx=>?_,λh k hk=>(key k hk).2 (h _ ⟨_,(Ni hk).1,rfl⟩)⟩
 obtain ⟨l,hl,rfl⟩:=hx
 obtain ⟨k,hk,rfl|rfl⟩:=Nh (Gw hl)
 ·exact (key k hk).1 (h k hk)
 ·have h1:=XX hv ((key k hk).1 (h k hk))
  have hp:=cX (valid hv) (Gw (Ni hk).1)
  rw [RZ hp hq] at h1
  rw [Kw hk]
  rwa [Jf hk] at h1
theorem UD {q:List Int} :q∈Cz p↔Pm p.1.toNat q/\Jo p q=true\/(q∈Cz p/\ ¬(1<=p.1.toNat/\p.1.toNat<=20)):=by
 constructor
 ·intro h
  by_cases hn:1<=p.1.toNat/\p.1.toNat<=20
  ·refine .inl ⟨?_,(Bd.1 h).2⟩
   have hh:q.Perm (upto (p.1.toNat:Int).toNat):=by rw [As];exact w6 h
   have h1:=SE (kO (n:=(p.1.toNat:Int)) (by omega) (by omega) hh)
   rwa [As] at h1
  ·exact .inr ⟨h,hn⟩
 ·rintro (⟨h1,h2⟩|h)
  ·exact Bd.2 ⟨IA h1,h2⟩
  ·exact h.1
theorem Om (hv:Bi p=true) {q:List Int} :q∈Cz p↔Pm p.1.toNat q/\ ∀x,fN p x->fN p (Bq x q):=by
 have hn:=(valid hv).n
 refine UD.trans ⟨λh=>?_,λh=> .inl ⟨h.1,(uZ hv h.1).2 h.2⟩⟩
 rcases h with h|h
 ·exact ⟨h.1,(uZ hv h.1).1 h.2⟩
 ·exact absurd ⟨by omega,by omega⟩ h.2
theorem sG:(Cz p).Nodup:=(vo _).filter _
theorem VT (hv:Bi p=true):upto p.1.toNat∈Cz p:=by
 have hn:=(valid hv).n
 refine (Om hv).2 ⟨Pm.id (by omega) (by omega),λx hx=>?_⟩
 rw [pD (mS hv hx)]
 exact hx
theorem mD (hv:Bi p=true) {q r:List Int} (hq:q∈Cz p) (hr:r∈Cz p):Aj q r∈Cz p:=by
 obtain ⟨q1,q2⟩:=(Om hv).1 hq
 obtain ⟨r1,r2⟩:=(Om hv).1 hr
 refine (Om hv).2 ⟨q1.comp r1,λx hx=>?_⟩
 rw [<-Wn (mS hv hx) q1 r1]
 exact r2 _ (q2 x hx)
theorem sF (hv:Bi p=true) {q:List Int} (hq:q∈Cz p):Bc q∈Cz p:=by
 classical
 obtain ⟨q1,q2⟩:=(Om hv).1 hq
 have hE: ∀x,x∈(lex p.1.toNat (upto p.1.toNat)).filter (λx=>decide (fN p x))↔fN p x:= λx=>
  ⟨λh=>Ex (Bd.1 h).2,λh=>Bd.2 ⟨IA (mS hv h),Hu h⟩⟩
 obtain ⟨E,hEe⟩: ∃E,(lex p.1.toNat (upto p.1.toNat)).filter (λx=>decide (fN p x))=E:=⟨_,rfl⟩
 have hnE:E.Nodup:=hEe▸(vo _).filter _
 rw [hEe] at hE
 have Kl:=sub_eq (l1:=E.map λx=>Bq x q) (l2:=E) (bp.2 (hnE.imp_of_mem λha hb Hq e=>Hq (RY (mS hv ((hE _).1 ha)) (mS hv ((hE _).1 hb)) q1 e)))
  (λy hy=>by obtain ⟨x,hx,rfl⟩:=Be.1 hy;exact (hE _).2 (q2 x ((hE x).1 hx))) (by rw [Hm];exact Ao _)
 refine (Om hv).2 ⟨q1.inv,λx hx=>?_⟩
 obtain ⟨y,hy,e⟩:=Be.1 (Kl x ((hE x).2 hx))
 have hy:=(hE y).1 hy
 rw [<-e,aj (mS hv hy) q1]
 exact hy
theorem AH (hv:Bi p=true) {q:List Int} (hq:q∈Cz p) {l:Int} (hl:l∈Bm p.2.2.1.length):Nj p q l∈Bm p.2.2.1.length/\Av p.2.2.1 (Nj p q l)=Bq (Av p.2.2.1 l) q:=by
 have h:=((Om hv).1 hq).2 _ ⟨l,hl,rfl⟩
 exact (yZ _ _).2 ((yZ _ _).1.1 h)
theorem yp (hw:Ix p=true) {q:List Int} (hq:q∈Cz p) {s:List Int} (hs:s∈Cb p):Bq s q∈Cb p:=by
 have hv:=(Pd hw).1
 obtain ⟨q1,q2⟩:=(Om hv).1 hq
 refine yq hw (λs=>Bq s q∈Cb p) (λx hx h l hl=>?_) (oa hv).2 ?_ s hs
 ·show Bq (Aj x (Av p.2.2.1 l)) q∈Cb p
  rw [zA (mB hv hx) (cX (valid hv) (Gw hl)) q1,<-(AH hv hq hl).2]
  exact (vY hw).next _ h _ (AH hv hq hl).1
 ·show Bq (upto p.1.toNat) q∈Cb p
  rw [zB q1]
  exact (oa hv).2
theorem Abr {a b c:List Int} (h1:Nu b a=false) (h2:Nu c b=false):Nu c a=false:=by
 cases e:Nu c a with
 |false=>rfl
 |true=>
  by_cases pd:a=b
  ·subst pd;rw [e] at h2;cases h2
  ·rw [nm e (rq h1 (Fv pd))] at h2;cases h2
theorem NU {a b:List Int} (h:Nu a b=true):Nu b a=false:=by
 cases e:Nu b a with
 |false=>rfl
 |true=>have:=nm h e;rw [Tq] at this;cases this
theorem ko (s:List Int): ∀(list:List (List Int)) (a:List Int),
  (list.foldl (λleast q=>if Nu (Bq s q) least=true then Bq s q else least) a=a\/ ∃q∈list,list.foldl (λleast q=>if Nu (Bq s q) least=true then Bq s q else least) a=Bq s q)/\
  Nu a (list.foldl (λleast q=>if Nu (Bq s q) least=true then Bq s q else least) a)=false/\
  ∀q∈list,Nu (Bq s q) (list.foldl (λleast q=>if Nu (Bq s q) least=true then Bq s q else least) a)=false
 | [],a=>⟨.inl rfl,Tq a,λ_ h=>by cases h⟩
 |q::r,a=>by
  rw [Nm]
  obtain ⟨b,hb⟩: ∃b,(if Nu (Bq s q) a=true then Bq s q else a)=b:=⟨_,rfl⟩
  have hb2:(b=a\/b=Bq s q)/\Nu a b=false/\Nu (Bq s q) b=false:=by
   rw [<-hb]
   split
   ·rename_i h
    exact ⟨.inr rfl,NU h,Tq _⟩
   ·rename_i h
    exact ⟨.inl rfl,Tq _,by simpa using h⟩
  rw [hb]
  obtain ⟨h1,h2,h3⟩:=ko s r b
  refine ⟨?_,Abr h2 hb2.2.1,λq' cA=>?_⟩
  ·rcases h1 with h1|⟨q',h4,h5⟩
   ·rcases hb2.1 with h|h
    ·exact .inl (h1.trans h)
    ·exact .inr ⟨q,by simp,h1.trans h⟩
   ·exact .inr ⟨q',An _ h4,h5⟩
  ·rcases Ay.1 cA with rfl|h
   ·exact Abr h2 hb2.2.2
   ·exact h3 q' h
theorem bu (hw:Ix p=true) {s:List Int} (hs:s∈Cb p): ∃q∈Cz p,Ga (Cz p) s=Bq s q:=by
 have hv:=(Pd hw).1
 rcases (ko s (Cz p) s).1 with h|⟨q,h1,h2⟩
 ·exact ⟨_,VT hv,by rw [pD (mB hv hs)];exact h⟩
 ·exact ⟨q,h1,h2⟩
theorem zw {s q:List Int} (hq:q∈Cz p):Nu (Bq s q) (Ga (Cz p) s)=false:=(ko s (Cz p) s).2.2 q hq
theorem qk (hw:Ix p=true) {s q:List Int} (hs:s∈Cb p) (hq:q∈Cz p):Ga (Cz p) (Bq s q)=Ga (Cz p) s:=by
 have hv:=(Pd hw).1
 have KZ:=mB hv hs
 have TC:=((Om hv).1 hq).1
 obtain ⟨a,ha,ea⟩:=bu hw hs
 obtain ⟨b,hb,eb⟩:=bu hw (yp hw hq hs)
 have h1:Nu (Ga (Cz p) (Bq s q)) (Ga (Cz p) s)=false:=by
  rw [eb,Wn KZ TC ((Om hv).1 hb).1]
  exact zw (mD hv hq hb)
 have h2:Nu (Ga (Cz p) s) (Ga (Cz p) (Bq s q))=false:=by
  have e:Bq s a=Bq (Bq s q) (Aj (Bc q) a):=by
   rw [<-Wn (KZ.XU TC) TC.inv ((Om hv).1 ha).1,aj KZ TC]
  rw [ea,e]
  exact zw (mD hv (sF hv hq) ha)
 refine Bf λHq=>?_
 rw [rq h1 Hq] at h2
 cases h2
theorem FE (hw:Ix p=true) {s:List Int} (hs:s∈Cb p):Ga (Cz p) (Ga (Cz p) s)=Ga (Cz p) s:=by
 obtain ⟨q,hq,e⟩:=bu hw hs
 have h:=qk hw hs hq
 rw [<-e] at h
 exact h
theorem RQ (hw:Ix p=true):
  (Cb p).countP (λs=>decide (Ga (Cz p) s=s))*(Cz p).length=((Cz p).map λq=>(Cb p).countP λs=>decide (Bq s q=s)).sum:=by
 have hv:=(Pd hw).1
 have sW: ∀ {q},q∈Cz p->Pm p.1.toNat q:= λhq=>((Om hv).1 hq).1
 have Anu: ∀s∈Cb p,(Cz p).countP (λq=>decide (Bq s q=s))=(Cz p).countP λq=>decide (Bq s q=Ga (Cz p) s):= λs hs=>by
  obtain ⟨a,ha,ea⟩:=bu hw hs
  have KZ:=mB hv hs
  refine Nat.le_antisymm (qt sG (λq=>Aj q a) (λq hq h=>⟨mD hv hq ha,Hu ?_⟩) λx hx _ y hy _ e=>vI (sW hx) (sW hy) (sW ha) e)
   (qt sG (λq=>Aj q (Bc a)) (λq hq h=>⟨mD hv hq (sF hv ha),Hu ?_⟩) λx hx _ y hy _ e=>vI (sW hx) (sW hy) (sW ha).inv e)
  ·rw [<-Wn KZ (sW hq) (sW ha),Ex h]
   exact ea.symm
  ·rw [<-Wn KZ (sW hq) (sW ha).inv,Ex h,ea,aj KZ (sW ha)]
 have h1:=Yi (λ(q s:List Int)=>decide (Bq s q=s)) (Cz p) (Cb p)
 rw [h1,iX Anu]
 obtain ⟨C,hC⟩: ∃C,(Cb p).filter (λs=>decide (Ga (Cz p) s=s))=C:=⟨_,rfl⟩
 have hCm: ∀c,c∈C↔c∈Cb p/\Ga (Cz p) c=c:= λc=>by
  rw [<-hC,Bd,Il]
 have hCn:C.Nodup:=hC▸(sy hv).filter _
 have hlen:(Cb p).countP (λs=>decide (Ga (Cz p) s=s))=C.length:=by rw [<-hC,List.countP_eq_length_filter]
 rw [hlen]
 have h2: ∀s∈Cb p,(Cz p).countP (λq=>decide (Bq s q=Ga (Cz p) s))=((Cz p).map λq=>C.countP λc=>decide (Bq s q=c)).sum:= λs hs=>by
  rw [<-ZX]
  refine iX λq hq=>?_
  have dP:Bq s q=Ga (Cz p) s↔Bq s q∈C:=by
   rw [hCm]
   constructor
   ·intro e
    exact ⟨yp hw hq hs,by rw [e];exact FE hw hs⟩
   ·intro ⟨_,e⟩
    rw [qk hw hs hq] at e
    exact e.symm
  by_cases e:Bq s q∈C
  ·rw [Ac (Hu (dP.2 e)),uH hCn e λx _=>by rw [Il];exact eq_comm]
  ·rw [Ai (by rw [Il];exact λh=>e (dP.1 h)),List.countP_eq_zero.2]
   intro c hc h
   exact e (by rw [Ex h];exact hc)
 rw [iX h2]
 have h3: ∀s:List Int,((Cz p).map λq=>C.countP λc=>decide (Bq s q=c)).sum=(C.map λc=>(Cz p).countP λq=>decide (Bq s q=c)).sum:= λs=>Yi (λ(q c:List Int)=>decide (Bq s q=c)) _ _
 rw [iX λs _=>h3 s,DF,nT (c:=(Cz p).length) C λc hc=>?_]
 have h4:=Yi (λ(s q:List Int)=>decide (Bq s q=c)) (Cb p) (Cz p)
 rw [h4,nT (c:=1) (Cz p) λq hq=>?_]
 ·omega
 ·have pK:=((hCm c).1 hc).1
  refine uH (sy hv) (yp hw (sF hv hq) pK) λx hx=>?_
  rw [Il]
  constructor
  ·intro e
   rw [<-e,aj (mB hv hx) (sW hq)]
  ·intro e
   rw [e,FK (mB hv pK) (sW hq)]
where
 ZX {α:Type} {P:α->Bool} : ∀ {L:List α},(L.map λq=>if P q=true then 1 else 0).sum=L.countP P:=by
  intro L
  exact Yi.yA L
 DF {α β:Type} {f:α->β->Nat} : ∀ {L:List α} {M:List β},(L.map λx=>(M.map λy=>f x y).sum).sum=(M.map λy=>(L.map λx=>f x y).sum).sum
  | [],M=>by
   simp only [List.map_nil,List.sum_nil]
   exact (sE M).symm
  |x::L,M=>by
   simp only [Bk,Ov]
   rw [DF,sum_add]
end
noncomputable def HC (p:PP):List (List Int)×List Int×Bool×Unit:=if Ix p=true then (Cb p,cY p,true,()) else ([],[],false,())
noncomputable abbrev kT:Spec:=Hv (.pair Kg .unit) (.pair pR (.pair tL (.pair .bool .unit))) true true (λx=>Lp x.1) (λx=>HC x.1)
theorem Aeu (p:Int×ByteArray×List (List Int)×Unit) (P:(List (List Int)×List Int×Bool×Unit)->Prop):(∃(y2:(List (List Int)×List Int×List Int×Bool×PUnit)×Bool×PUnit),Xn.fn ((p.1,p.2.1,p.2.2.1,()),())=some y2/\Br (!y2.2.1) (P (List.take 0 (List.drop 0 []),List.take 0 (List.drop 0 []),false,())) (∃(y3:List (List Int)),Uh.fn (y2.1.1,())=some y3/\ ∃(y4:List Int),La.fn (y2.1.2.1,())=some y4/\P (y3,y4,true,())))=fnW Hf (look [(84,Xn),(85,Uh),(86,La)]) kT Try.f29 (p,()) P:=by kernel_rfl
theorem Ae5 (p:PP) (h:Lp p):fnW Hf (look [(84,Xn),(85,Uh),(86,La)]) kT Try.f29 (p,()) (λ(z:List (List Int)×List Int×Bool×Unit)=>z=HC p):=by
 refine Eq.mp (Aeu p _) ⟨_,Ac h,?_⟩
 show Br (!(Ky p).2.1) _ _
 unfold HC
 by_cases hw:Ix p=true
 ·have hv:=(Pd hw).1
  have e1:Ky p=(Oj p.2.2.1 (upto p.1.toNat),true,()):=by unfold Ky;rw [Ac hv,hw]
  have GJ:=MK (JA hv)
  rw [Ac hw]
  refine ⟨λhb=>by rw [e1] at hb;simp at hb,λ_=>⟨(Ky p).1.1,Ac ?_,(Ky p).1.2.1,Ac ?_,?_⟩⟩
  ·show Ry (Ky p).1.1
   rw [e1];exact GJ.1
  ·show short (Ky p).1.2.1
   rw [e1];exact GJ.2
  ·rw [e1];rfl
 ·have e1:(Ky p).2.1=false:=by
   unfold Ky
   by_cases hv:Bi p=true
   ·rw [Ac hv];exact Hs _|>.mp hw
   ·rw [Ai hv]
  rw [e1,Ai hw]
  exact ⟨λ_=>rfl,λhb=>by simp at hb⟩
theorem IV:Sound Try.prog 29 kT:=
 Sound.Hv Fh (Bh su (Bh po (Bh bf Cm))) mixed Try.func29 (by kernel_rfl) (by kernel_rfl) λx h=>Ae5 x.1 h
def wH (b:List Int):Prop:=b.length<=1048576/\ ∀y∈b,0<=y/\y<256
noncomputable abbrev IM:Spec:=Hv (.pair tB .unit) .bool false true (λx=>wH x.1) (λ_=>true)
theorem Akq {code:List Int} (h:wH code) (hb: ¬(code.length:Int)>4096):pB code 0:=⟨by omega,h.2,cy _,by omega⟩
abbrev iY:Type:=Int×Int×Int×ByteArray×List (List Int)×PUnit
theorem WQ (code:List Int) (P:Bool->Prop):(∃(y2:Bool),vQ.fn (code,())=some y2/\Br y2 (P true) (∃(y3:(List Int×Int×Int×PUnit)×PUnit),nJ.fn (code,(1119:Int),())=some y3/\ ∃(y4:(List Int×Int×Int×Int×ByteArray×List (List Int)×PUnit)×PUnit),vV.fn (y3.1.1,y3.1.2.1,y3.1.2.2.1,())=some y4/\ ∃(y5:List (List Int)),Tv.fn ((y4.1.2.2.2.1,y4.1.2.2.2.2.1,List.take y4.1.2.2.2.2.2.1.length (List.drop 0 y4.1.2.2.2.2.2.1),()),())=some y5/\ ∃(y6:List (List Int)×List Int×Bool×PUnit),kT.fn ((y4.1.2.2.2.1,y4.1.2.2.2.2.1,List.take y4.1.2.2.2.2.2.1.length (List.drop 0 y4.1.2.2.2.2.2.1),()),())=some y6/\Dt (λ(v7:iY) (k8:iY->Prop)=>Br (decide (v7.2.1<(↑y5.length:Int))) (Dt (λ(v9:iY) (k10:iY->Prop)=>Br (decide (v9.2.1<(↑y6.1.length:Int))) (∃(Qv:List Int),idx y5 v7.2.1=some Qv/\ ∃(sP:List Int),idx y6.1 v9.2.1=some sP/\ ∃(we:List Int×Bool×PUnit),Jv.fn ((v9.2.2.1,v9.2.2.2.1,v9.2.2.2.2.1,()),Qv,sP,())=some we/\Br we.2.1 (∃(dv:List Int),idx y6.1 v9.2.1=some dv/\ ∃(oY:Bool),Xj.fn (we.1,dv,())=some oY/\Br oY (k10 (IntKind.i64.wrap (v9.1+(1:Int)),IntKind.i64.wrap (v9.2.1+(1:Int)),v9.2.2.1,v9.2.2.2.1,v9.2.2.2.2.1,())) (k10 (v9.1,IntKind.i64.wrap (v9.2.1+(1:Int)),v9.2.2.1,v9.2.2.2.1,v9.2.2.2.2.1,()))) (k10 (v9.1,IntKind.i64.wrap (v9.2.1+(1:Int)),v9.2.2.1,v9.2.2.2.1,v9.2.2.2.2.1,()))) (k8 (v9.1,IntKind.i64.wrap (v7.2.1+(1:Int)),v9.2.2.1,v9.2.2.2.1,v9.2.2.2.2.1,()))) (v7.1,(0:Int),v7.2.2.1,v7.2.2.2.1,v7.2.2.2.2.1,PUnit.unit)) (∃(y9:Int),Xg.fn ((v7.2.2.1,v7.2.2.2.1,v7.2.2.2.2.1,()),())=some y9/\P (IntKind.i64.wrap (y9*(↑y5.length:Int))==v7.1))) ((0:Int),(0:Int),y4.1.2.2.2.1,y4.1.2.2.2.2.1,List.take y4.1.2.2.2.2.2.1.length (List.drop 0 y4.1.2.2.2.2.2.1),PUnit.unit)))=fnW (Aej [eA+4,gN]) (look [(10,vQ),(11,nJ),(12,vV),(28,Tv),(29,kT),(30,Jv),(15,Xj),(31,Xg)]) IM Try.f4 (code,()) P:=by kernel_rfl
theorem VS {α:Type} {f:α->Nat} {c:Nat} : ∀L:List α,(∀x∈L,f x<=c)->(L.map f).sum<=L.length*c
 | [],_=>by simp
 |x::L,h=>by
  simp only [Bk,Ov,Aw]
  have h1:=h x (by simp)
  have h2:=VS L λy hy=>h y (An _ hy)
  rw [Nat.succ_mul]
  omega
theorem w8 {α:Type} {xs:List α} {j:Nat} (h:j<xs.length):xs.take (j+1)=xs.take j++ [xs[j]]:=by
 rw [Hy,Ab h]
 rfl
theorem mN.small {p:PP} (hp:mN p):Rt p=true:=au.2 ⟨hp.valid,by have:=hp.hi;omega⟩
theorem UT (code:List Int) (h:wH code):fnW (Aej [eA+4,gN]) (look [(10,vQ),(11,nJ),(12,vV),(28,Tv),(29,kT),(30,Jv),(15,Xj),(31,Xg)]) IM Try.f4 (code,()) (λ(z:Bool)=>z=true):=by
 refine Eq.mp (WQ code _) ⟨_,Ac trivial,Br.dec (λ_=>rfl) λhb=>?_⟩
 have hb: ¬(code.length:Int)>4096:=hb
 have hd0:=Akq h hb
 refine ⟨_,Ac (show code.length<=4096 by omega),_,Ac hd0,?_⟩
 obtain ⟨hp,hd1⟩:=JJ hd0 (np code 1119)
 obtain ⟨W,hW⟩: ∃W,Zn code 0 (np code 1119)=W:=⟨_,rfl⟩
 rw [hW] at hp hd1
 simp only [hW,Dl]
 obtain ⟨i1,h1,n,str,g,u⟩:=W
 obtain rfl:u=():=rfl
 dsimp only at hp hd1⊢
 clear hW
 have hs:=hp.short
 have hw:=hp.whole
 have e5:Tv.fn ((n,str,g,()),())=some (Cz (n,str,g,())):=(Ac hs).trans (Ma some (Ac hp.small))
 have e6:kT.fn ((n,str,g,()),())=some (Cb (n,str,g,()),cY (n,str,g,()),true,()):=(Ac hs).trans (Ma some (Ac hw))
 refine ⟨_,e5,_,e6,?_⟩
 have SM:=RQ hw
 have qS:=Aeg hp.valid hp.hi
 have hsl:=DH (p:=(n,str,g,())) (by have:=hp.hi;show n<=7;omega)
 have Aho: ∀x∈Cb (n,str,g,()),Pm n.toNat x:= λx hx=>mB hp.valid hx
 have Ahr: ∀q∈Cz (n,str,g,()),Pm n.toNat q/\Jo (n,str,g,()) q=true:= λq hq=>⟨((Om hp.valid).1 hq).1,(Bd.1 hq).2⟩
 have Py:Xc (n,str,g,())=((Cb (n,str,g,())).countP λs=>decide (Ga (Cz (n,str,g,())) s=s):Nat):=Ac (Db.2 ⟨hp.small,hw⟩)
 have e9:Xg.fn ((n,str,g,()),())=some (Xc (n,str,g,())):=Ac hs
 obtain ⟨S,hS⟩: ∃S,Cz (n,str,g,())=S:=⟨_,rfl⟩
 obtain ⟨L,hL⟩: ∃L,Cb (n,str,g,())=L:=⟨_,rfl⟩
 rw [hS] at SM hsl Ahr Py
 rw [hL] at SM qS Aho Py
 dsimp only
 simp only [hS,hL]
 refine Ci S.length (λv=>v.2.1) (λi v=>v.1=(((S.take i).map λq=>L.countP λs=>decide (Bq s q=s)).sum:Nat)/\v.2.2=(n,str,g,())) rfl ⟨rfl,rfl⟩ ?_
 rintro i ⟨a,i',P'⟩ K hi j8 ⟨ha,hP⟩ hK
 dsimp only at j8 ha hP
 subst hP j8 ha
 dsimp only
 have An1:=VS (f:= λq=>L.countP λs=>decide (Bq s q=s)) (c:=120) (S.take i) λq _=>Ek bm qS
 have htl:(S.take i).length<=5040:=Ek (List.length_take_le' ..) hsl
 have Ahq:((S.take i).map λq=>L.countP λs=>decide (Bq s q=s)).sum<=5040*120:=Ek An1 (Eg _ htl)
 obtain ⟨A,hA⟩: ∃A,((S.take i).map λq=>L.countP λs=>decide (Bq s q=s)).sum=A:=⟨_,rfl⟩
 rw [hA] at Ahq
 simp only [hA]
 refine Br.dec (λhl=>?_) λhl=>?_
 ·have hl:i<S.length:=by omega
  have hq:=Ahr _ (Al hl)
  refine Ci L.length (λv=>v.2.1) (λk v=>v.1=((A+(L.take k).countP λs=>decide (Bq s S[i]=s):Nat):Int)/\v.2.2=(n,str,g,())) rfl ⟨rfl,rfl⟩ ?_
  rintro k ⟨b,k',P'⟩ K2 hk oq ⟨hb,hP⟩ hK2
  dsimp only at oq hb hP
  subst hP oq hb
  dsimp only
  have hc:(L.take k).countP (λs=>decide (Bq s S[i]=s))<=120:=Ek (Ek bm (List.length_take_le' ..)) qS
  refine Br.dec (λz7=>?_) λz7=>?_
  ·have z7:k<L.length:=by omega
   have hx:=Aho _ (Al z7)
   have hso:Ok (n,str,g,()) S[i] L[k]=true:=Db.2 ⟨Db.2 ⟨Db.2 ⟨hp.valid,HZ (valid hp.valid) hq.1⟩,hq.2⟩,HZ (valid hp.valid) hx⟩
   have e13:Jv.fn ((n,str,g,()),S[i],L[k],())=some (Bq L[k] S[i],true,()):=(Ac ⟨hs,gO hq.1,gO hx⟩).trans (Ma some (by
    show (Ph (n,str,g,()) S[i] L[k],Ok (n,str,g,()) S[i] L[k],())=_
    rw [hso]
    unfold Ph
    rw [Ac hso]))
   refine ⟨_,Df hl,_,Df z7,_,e13,?_⟩
   have gE:(L.take (k+1)).countP (λs=>decide (Bq s S[i]=s))=(L.take k).countP (λs=>decide (Bq s S[i]=s))+if Bq L[k] S[i]=L[k] then 1 else 0:=by
    rw [w8 z7,List.countP_append,List.countP_singleton]
    simp only [Mu]
   refine ⟨λ_=>⟨_,Df z7,_,Ac ⟨gO (hx.XU hq.1),gO hx⟩,?_⟩,λhf=>by cases hf⟩
   show Br (decide (Bq L[k] S[i]=L[k])) _ _
   have ek:IntKind.i64.wrap ((k:Int)+1)=((k+1:Nat):Int):=Cg (by omega)
   rw [ek]
   refine Br.dec (λhe=>?_) λhe=>?_
   ·rw [Ac he] at gE
    rw [Dh (by omega) (by omega)]
    exact hK2 z7 _ rfl ⟨by rw [gE];show ((A+(L.take k).countP (λs=>decide (Bq s S[i]=s)):Nat):Int)+1=_;omega,rfl⟩
   ·rw [Ai he] at gE
    exact hK2 z7 _ rfl ⟨by rw [gE];rfl,rfl⟩
  ·have:k=L.length:=by omega
   subst this
   rw [Cg (by omega)]
   refine hK hl _ rfl ⟨?_,rfl⟩
   rw [w8 hl,Nn,List.sum_append,hA,Bb]
   simp
 ·have:i=S.length:=by omega
  subst this
  rw [Bb] at hA
  refine ⟨_,e9,?_⟩
  have hc:L.countP (λs=>decide (Ga S s=s))<=120:=Ek bm qS
  have Alh:L.countP (λs=>decide (Ga S s=s))*S.length=A:=SM.trans hA
  have e:Xc (n,str,g,())*(S.length:Int)=(A:Int):=by
   rw [Py,<-Alh]
   push_cast
   rfl
  show (IntKind.i64.wrap (Xc (n,str,g,())*(S.length:Int))==(A:Int))=true
  rw [e,Dh (by omega) (by omega)]
  exact beq_self_eq_true _
theorem yj:Sound Try.prog 4 IM:=
 Sound.Hv (Aek [eA+4,gN]) (Bh PD (Jd IW (Jd PK (Bh ss (Bh IV (Bh ig (Bh sm (Bh mA Cm)))))))) mixed Try.func4 (by kernel_rfl) (by kernel_rfl) λx h=>UT x.1 h
end Go.Proofs.Ytkkdpknjohcekaa
