/-
  Part 43 of the proof that the statement FnTables holds.
-/
import Derived.Test.YtkkdpknjohcekaaCFTables41
namespace Go.Proofs.Ytkkdpknjohcekaa
open Go.RowKit
section
variable {Q:List Int->Prop} {code:List Int->Nat} {B:Nat}
theorem OP (inj: ∀x y,Q x->Q y->code x=code y->x=y) (lt: ∀x,Q x->code x<B) {L:List (List Int)} (hQ: ∀y∈L,Q y) (hn:L.Nodup):L.length<=B:=by
 have h1:(L.map code).Nodup:=by
  unfold List.Nodup
  rw [List.pairwise_map]
  exact List.Pairwise.imp_of_mem (λha hb Jg he=>Jg (inj _ _ (hQ _ ha) (hQ _ hb) he)) hn
 have h2:=gr h1 (l2:=List.range B) λx hx=>by
  obtain ⟨y,hy,rfl⟩:=Bo.1 hx
  exact Hu.2 (lt y (hQ y hy))
 simpa using h2
theorem jM (hB:B<3000) (inj: ∀x y,Q x->Q y->code x=code y->x=y) (lt: ∀x,Q x->code x<B) {g:List (List Int)} {x:List Int} {d:Int} :
  ∀(ls:List Int) (L:List (List Int)) (D:List Int),(∀l∈ls,Q (As x (Av g l)))->(∀y∈L,Q y)->L.Nodup->
   (Hz g x d ls L D).2.2=true/\(∀y∈(Hz g x d ls L D).1,Q y)/\(Hz g x d ls L D).1.Nodup
 | [],L,D,_,hQ,hn=>⟨rfl,hQ,hn⟩
 |l::ls,L,D,hl,hQ,hn=>by
  have Ns: ∀l∈ls,Q (As x (Av g l)):= λl h=>hl l (An _ h)
  rw [Hz]
  split
  ·exact jM hB inj lt ls L D Ns hQ hn
  ·rename_i hni
   have:=OP inj lt hQ hn
   rw [Al (by omega)]
   refine jM hB inj lt ls _ _ Ns (λy hy=>?_) ?_
   ·rcases Aw.1 hy with h|h
    ·exact hQ y h
    ·rw [Ad.1 h];exact hl l (by simp)
   ·rw [Dg]
    exact ⟨hn,by simp,λa ha b hb e=>hni (by rw [Ad.1 hb] at e;rw [<-e];exact ha)⟩
theorem pP (hB:B<3000) (inj: ∀x y,Q x->Q y->code x=code y->x=y) (lt: ∀x,Q x->code x<B) {g:List (List Int)} {ls:List Int} (step: ∀x,Q x-> ∀l∈ls,Q (As x (Av g l))):
  ∀(f k:Nat) (L:List (List Int)) (D:List Int),(∀y∈L,Q y)->L.Nodup->(Ky g ls f k L D).2.2=true
 |0,_,_,_,_,_=>rfl
 |f+1,k,L,D,hQ,hn=>by
  rw [Ky]
  split
  ·rename_i hk
   have hx:Q (L.getD k []):=by
    rw [Ah,Ac hk]
    exact hQ _ (Ak hk)
   obtain ⟨h1,h2,h3⟩:=jM hB inj lt (d:=D.getD k 0) ls L D (step _ hx) hQ hn
   generalize Hz g (L.getD k []) (D.getD k 0) ls L D=r at h1 h2 h3
   obtain ⟨L',D',b⟩:=r
   have h1:b=true:=h1
   subst h1
   exact pP hB inj lt step f (k+1) L' D' h2 h3
  ·rfl
theorem yp (hB:B<3000) (inj: ∀x y,Q x->Q y->code x=code y->x=y) (lt: ∀x,Q x->code x<B) {g:List (List Int)} {s:List Int} (hs:Q s)
  (step: ∀x,Q x-> ∀l∈Cu g.length,Q (As x (Av g l))):(Gp g s).2.2=true:=
 pP hB inj lt step _ _ _ _ (λy hy=>by rw [Ad.1 hy];exact hs) (by simp)
end
def tX (x:List Int):Nat:=(Hs x 0+5*Hs x 1+25*Hs x 2+125*Hs x 3).toNat
theorem yN {x:List Int} {k:Nat} (h:x.length<=k):Hs x (k:Int)=0:=by
 unfold Hs
 rw [Ay,Ah,Ev h]
 rfl
theorem Ph {n:Nat} {x:List Int} (hn:n<=5) (h:Pm n x) (k:Nat):0<=Hs x (k:Int)/\Hs x (k:Int)<5:=by
 by_cases hk:k<n
 ·have:=h.Yc hk
  omega
 ·rw [yN (by rw [h.1];omega)]
  decide
theorem EO {n:Nat} {x:List Int} (hn:n<=5) (h:Pm n x):tX x<625:=by
 have h0:=Ph hn h 0
 have h1:=Ph hn h 1
 have h2:=Ph hn h 2
 have h3:=Ph hn h 3
 simp only [Int.natCast_zero] at h0
 unfold tX
 have e1:((1:Nat):Int)=1:=rfl
 have e2:((2:Nat):Int)=2:=rfl
 have e3:((3:Nat):Int)=3:=rfl
 rw [e1] at h1;rw [e2] at h2;rw [e3] at h3
 omega
theorem zO {n:Nat} (hn:n<=5) (x y:List Int) (hx:Pm n x) (hy:Pm n y) (e:tX x=tX y):x=y:=by
 have e1:((1:Nat):Int)=1:=rfl
 have e2:((2:Nat):Int)=2:=rfl
 have e3:((3:Nat):Int)=3:=rfl
 have a0:=Ph hn hx 0
 have a1:=Ph hn hx 1
 have a2:=Ph hn hx 2
 have a3:=Ph hn hx 3
 have b0:=Ph hn hy 0
 have b1:=Ph hn hy 1
 have b2:=Ph hn hy 2
 have b3:=Ph hn hy 3
 simp only [Int.natCast_zero] at a0 b0
 rw [e1] at a1 b1;rw [e2] at a2 b2;rw [e3] at a3 b3
 unfold tX at e
 have low: ∀i:Nat,i<4->Hs x (i:Int)=Hs y (i:Int):=by
  intro i hi
  match i,hi with
  |0,_=>simp only [Int.natCast_zero];omega
  |1,_=>rw [e1];omega
  |2,_=>rw [e2];omega
  |3,_=>rw [e3];omega
 have Aep: ∀i,i<4->ap x i=ap y i:= λi hi=>by unfold ap;rw [low i hi]
 refine hx.ext hy λi hi=>?_
 by_cases h4:i<4
 ·exact Aep i h4
 ·obtain ⟨j,hj,hjx⟩:=hy.KR (hx.lt hi)
  by_cases hj4:j<4
  ·rw [<-Aep j hj4] at hjx
   have:=hx.inj hj hi hjx
   omega
  ·have:j=i:=by omega
   rw [this] at hjx
   exact hjx.symm
theorem BK {p:PP} (hv:Dh p=true) (h5:p.1<=5):Kq p=true:=by
 have hV:=valid hv
 have hn:=hV.n
 refine Bj.2 ⟨hv,yp (Q:=Pm p.1.toNat) (code:=tX) (B:=625) (by decide) (zO (by omega)) (λx hx=>EO (by omega) hx) (Pm.id (by omega) (by omega)) λx hx l hl=>?_⟩
 exact hx.comp (ir hV (Ol hl))
def NU (n:Int) (m:Nat) (x:List Int):Prop:=x.length=m/\ ∀y∈x,0<=y/\y<n
theorem dy {n:Int} {m:Nat} {x:List Int} (hn:n<=5) (h:NU n m x) (k:Nat):0<=Hs x (k:Int)/\Hs x (k:Int)<5:=by
 by_cases hk:k<x.length
 ·have:=h.2 _ (Ak hk)
  rw [Jr hk]
  omega
 ·rw [yN (by omega)]
  decide
def tW (x:List Int):Nat:=(Hs x 0+5*Hs x 1+25*Hs x 2).toNat
theorem zM {n:Int} {m:Nat} {x:List Int} (hn:n<=5) (h:NU n m x):tW x<125:=by
 have h0:=dy hn h 0
 have h1:=dy hn h 1
 have h2:=dy hn h 2
 simp only [Int.natCast_zero] at h0
 have e1:((1:Nat):Int)=1:=rfl
 have e2:((2:Nat):Int)=2:=rfl
 rw [e1] at h1;rw [e2] at h2
 unfold tW
 omega
theorem wU {n:Int} {m:Nat} (hn:n<=5) (hm:m<=3) (x y:List Int) (hx:NU n m x) (hy:NU n m y) (e:tW x=tW y):x=y:=by
 have e1:((1:Nat):Int)=1:=rfl
 have e2:((2:Nat):Int)=2:=rfl
 have a0:=dy hn hx 0
 have a1:=dy hn hx 1
 have a2:=dy hn hx 2
 have b0:=dy hn hy 0
 have b1:=dy hn hy 1
 have b2:=dy hn hy 2
 simp only [Int.natCast_zero] at a0 b0
 rw [e1] at a1 b1;rw [e2] at a2 b2
 unfold tW at e
 have low: ∀i:Nat,i<3->Hs x (i:Int)=Hs y (i:Int):=by
  intro i hi
  match i,hi with
  |0,_=>simp only [Int.natCast_zero];omega
  |1,_=>rw [e1];omega
  |2,_=>rw [e2];omega
 refine List.ext_getElem (by rw [hx.1,hy.1]) λi h1 h2=>?_
 have:=low i (by rw [hx.1] at h1;omega)
 rwa [Jr h1,Jr h2] at this
theorem uE {p:PP} {t:List Int} (hv:Dh p=true) (h5:p.1<=5) (ht:Gd p.1 t=true) (h3:t.length<=3):Ea p t=true:=by
 have hV:=valid hv
 have hn:=hV.n
 obtain ⟨_,hp⟩:=Db.1 ht
 refine Bj.2 ⟨Bj.2 ⟨hv,ht⟩,yp (Q:=NU p.1 t.length) (code:=tW) (B:=125) (by decide) (wU (by omega) h3) (λx hx=>zM (by omega) hx) ⟨rfl,λy hy=>?_⟩ λx hx l hl=>?_⟩
 ·obtain ⟨j,hj,rfl⟩:=Az.1 hy
  have:=hp j hj hj
  omega
 ·obtain ⟨n1,n2⟩:=pj hV hx.2 (Ol hl)
  exact ⟨by rw [n1,hx.1],n2⟩
theorem yu {p:PP} {t:List Int} (h:Ea p t=true):Nw p (Fg p t)=true:=by
 have e:(Fg p t).1=t:=by unfold Fg;rw [Ab h]
 unfold Nw
 rw [e,h,DO]
 rfl
theorem WL {n a c:Nat} {mv:List Int} (h:Pm n mv) (ha:a<n) (hc:c<n):Pm n ((mv.set a (Hs mv (c:Int))).set c (Hs mv (a:Int))):=by
 have hA:=(h.Yc ha).1
 have hC:=(h.Yc hc).1
 refine Pm.of (by simp only [Ez];exact h.1) h.n1 h.n2 (λk=>if k=c then ap mv a else if k=a then ap mv c else ap mv k) (λi hi=>?_) λi j hi hj e=>?_
 ·rw [Dp,Dp,Ez,h.1]
  by_cases h1:c=i
  ·rw [Ab h1,Ab hc,Ab (show i=c from h1.symm)]
   exact ⟨by rw [hA],h.lt ha⟩
  ·rw [Al h1,Al (show ¬i=c from λe=>h1 e.symm)]
   by_cases h2:a=i
   ·rw [Ab h2,Ab ha,Ab (show i=a from h2.symm)]
    exact ⟨by rw [hC],h.lt hc⟩
   ·rw [Al h2,Al (show ¬i=a from λe=>h2 e.symm)]
    have pb:i<mv.length:=by rw [h.1];exact hi
    have:=(h.Yc hi).1
    rw [Jr pb] at this
    rw [Ac pb,this]
    exact ⟨rfl,h.lt hi⟩
 ·by_cases i1:i=c
  ·rw [Ab i1] at e
   by_cases j1:j=c
   ·rw [i1,j1]
   ·rw [Al j1] at e
    by_cases j2:j=a
    ·rw [Ab j2] at e
     have:=h.inj ha hc e
     rw [i1,j2,this]
    ·rw [Al j2] at e
     exact absurd (h.inj ha hj e).symm j2
  ·rw [Al i1] at e
   by_cases i2:i=a
   ·rw [Ab i2] at e
    by_cases j1:j=c
    ·rw [Ab j1] at e
     have:=h.inj hc ha e
     rw [i2,j1,this]
    ·rw [Al j1] at e
     by_cases j2:j=a
     ·rw [i2,j2]
     ·rw [Al j2] at e
      exact absurd (h.inj hc hj e).symm j1
   ·rw [Al i2] at e
    by_cases j1:j=c
    ·rw [Ab j1] at e
     exact absurd (h.inj hi ha e) i2
    ·rw [Al j1] at e
     by_cases j2:j=a
     ·rw [Ab j2] at e
      exact absurd (h.inj hi hc e) i1
     ·rw [Al j2] at e
      exact h.inj hi hj e
theorem vd {b:List Int} {n:Int} (hn:1<=n): ∀(k:Nat) (i h:Int) (mv:List Int),Yv b i->Pm n.toNat mv->Pm n.toNat (dQ b n k i h mv).2.2
 |0,_,_,_,_,hm=>hm
 |k+1,i,h,mv,hd,hm=>by
  have r1:=ca hd hn h
  have r2:=ca hd.next hn (hN h)
  rw [dQ]
  refine vd hn k _ _ _ hd.next.next ?_
  have:=WL hm (a:=(dR b i h n).toNat) (c:=(dR b (dI b i) (hN h) n).toNat) (by omega) (by omega)
  rw [Int.toNat_of_nonneg r1.1,Int.toNat_of_nonneg r2.1] at this
  exact this
theorem zr {b:List Int} {n:Int} (hn:1<=n) (hn2:n<=20): ∀(k:Nat) (i h:Int) (ms:List (List Int)),Yv b i->(∀m∈ms,Pm n.toNat m)-> ∀m∈(Ys b n k i h ms).2.2,Pm n.toNat m
 |0,_,_,_,_,hm=>hm
 |k+1,i,h,ms,hd,hm=>by
  rw [Ys]
  refine zr hn hn2 k _ _ _ (qQ hd h) λm hmm=>?_
  rcases Aw.1 hmm with h1|h1
  ·exact hm m h1
  ·rw [Ad.1 h1]
   exact vd hn _ _ _ _ hd.next (Pm.id (by omega) (by omega))
theorem QX:Zn QZ=true:=by
 refine Db.2 ⟨by decide,λj hj=>?_⟩
 have hj:j<2:=hj
 match j,hj with
 |0,_=>exact ⟨65,rfl,by decide,by decide,λk hk=>by omega⟩
 |1,_=>exact ⟨66,rfl,by decide,by decide,λk hk=>(by have e:k=0:=(by omega);rw [e];decide)⟩
structure m9 (p:PP):Prop where
 valid:Dh p=true
 two:p.2.2.1.length=2
 lo:3<=p.1
 hi:p.1<=5
 short:Ii p
theorem FY {b:List Int} {i:Int} (hd:Yv b i) (h:Int):m9 (Yr b i h).2.2/\Yv b (Yr b i h).1:=by
 have hr:=ca hd (show (1:Int)<=3 by decide) h
 obtain ⟨n,hn⟩: ∃n,3+dR b i h 3=n:=⟨_,rfl⟩
 have h2:=IE b n 2 (dI b i) (hN h) []
 have h3:=zr (b:=b) (n:=n) (by omega) (by omega) 2 (dI b i) (hN h) [] hd.next (λm hm=>by cases hm)
 have h4:=ID n 2 (dI b i) (hN h) [] hd.next
 unfold Yr
 rw [hn]
 generalize Ys b n 2 (dI b i) (hN h) []=R at h2 h3 h4
 obtain ⟨i',h',ms⟩:=R
 dsimp only at h2 h3 h4⊢
 simp only [Iq,Ef] at h2
 refine ⟨⟨Db.2 ⟨Db.2 ⟨⟨by show 1<=n;omega,by show n<=20;omega⟩,by show ms.length<=8;omega,λm hm=>?_⟩,QX,by show 2=ms.length;omega⟩,h2,by show 3<=n;omega,by show n<=5;omega,⟨by show 2<=4294967296;decide,by show ms.length<=4294967296;omega,λm hm=>?_⟩⟩,h4⟩
 ·have:=h3 m hm
  have h5:=this.1
  exact Db.2 ⟨by omega,ui this.2⟩
 ·exact r9 (h3 m hm)
noncomputable def qG (p:PP) (s w:List Int):List Int×Bool×Unit:=(Mv p.2.2.1 s w,true,())
noncomputable abbrev Xw:Spec:=Hq (.pair Mw (.pair tL (.pair tL .unit))) (.pair tL (.pair .bool .unit)) true true (λx=>Ii x.1/\Dh x.1=true/\Pm x.1.1.toNat x.2.1/\Lu (List.length x.1.2.2.1:Nat) x.2.2.1=true) (λx=>qG x.1 x.2.1 x.2.2.1)
noncomputable def eB (b:List Int) (i h:Int) (p:PP):Int×Int×List Int:=((Tn b i h 2 8).1,(Tn b i h 2 8).2.1,(qG p (upto p.1.toNat) (Tn b i h 2 8).2.2).1)
noncomputable abbrev Aem:MSpec:= {ptr:=some (75,3),Jn:= [some 3],ins:= [(false, .Fp tB),(false, .Fp tI),(false, .Fp IV),(false, .Fp tI),(false, .Fp .str),(false, .Fp ky)],Hx:=false,Im:= [none],outs:= [.Fp tB, .Fp tI, .Fp IV, .Fp tL],fn:= λ_=>none}
noncomputable abbrev rz:MSpec:=wF Aem (λx=>Yv x.1 x.2.1/\Ii (x.2.2.2.1,x.2.2.2.2.1,x.2.2.2.2.2.1,())/\Dh (x.2.2.2.1,x.2.2.2.2.1,x.2.2.2.2.2.1,())=true/\List.length x.2.2.2.2.2.1=2) (λx=>((x.1,(eB x.1 x.2.1 x.2.2.1 (x.2.2.2.1,x.2.2.2.2.1,x.2.2.2.2.2.1,())).1,(eB x.1 x.2.1 x.2.2.1 (x.2.2.2.1,x.2.2.2.2.1,x.2.2.2.2.2.1,())).2.1,(eB x.1 x.2.1 x.2.2.1 (x.2.2.2.1,x.2.2.2.2.1,x.2.2.2.2.2.1,())).2.2,()),()))
theorem NF (g:List (List Int)) (l:Int) (P:List Int->Prop):(Br (decide (l<(0:Int))) (∃(y3:List Int),idx g (IntKind.i64.wrap (IntKind.i64.wrap ((0:Int)-l)-(1:Int)))=some y3/\ ∃(y4:List Int),Jy.fn (y3,())=some y4/\P y4) (∃(y3:List Int),idx g (IntKind.i64.wrap (l-(1:Int)))=some y3/\P y3))=fnW Gb (look [(190,Jy)]) Ku Try.f149 (g,l,()) P:=by kernel_rfl
theorem GM (n:Int) (g:List (List Int)) (w:List Int) (P:List Int->Prop):(∃(y4:List Int),Pa.fn (n,())=some y4/\Em (λ(v5:List Int×Int×PUnit) (k6:List Int×Int×PUnit->Prop)=>Br (decide (v5.2.1<(↑w.length:Int))) (∃(y7:Int),idx w v5.2.1=some y7/\ ∃(y8:List Int),Ku.fn (g,y7,())=some y8/\ ∃(y9:List Int),Rc.fn (v5.1,y8,())=some y9/\k6 (y9,IntKind.i64.wrap (v5.2.1+(1:Int)),())) (P v5.1)) (y4,(0:Int),PUnit.unit))=fnW Gb (look [(66,Pa),(75,Rc),(149,Ku)]) Wo Try.f76 (n,g,w,()) P:=by kernel_rfl
theorem TH (p:Int×ByteArray×List (List Int)×Unit) (s w:List Int) (P:(List Int×Bool×Unit)->Prop):(∃(y4:Bool),Re.fn ((p.1,p.2.1,p.2.2.1,()),s,())=some y4/\Br (!y4) (P (List.take 0 (List.drop 0 []),false,())) (∃(y5:Bool),cK.fn ((↑p.2.2.1.length:Int),w,())=some y5/\Br (!y5) (P (List.take 0 (List.drop 0 []),false,())) (∃(y6:List Int),Wo.fn (p.1,p.2.2.1,w,())=some y6/\ ∃(y7:List Int),Rc.fn (s,y6,())=some y7/\P (y7,true,()))))=fnW Gb (look [(73,Re),(74,cK),(75,Rc),(76,Wo)]) Xw Try.f21 (p,s,w,()) P:=by kernel_rfl
abbrev FM:Type:=(List Int×Int×Int×List Int×PUnit)×PUnit
abbrev wH (b:List Int) (i:Int) (h:Int) (n:Int) (str:ByteArray) (g:List (List Int)) (dY:List Int) (y8:FM) (y9:List Int×Bool×PUnit) (y7:List Int):Prop:= ∃(bD:FM),o3.fn (b,i,h,(2:Int),(8:Int),())=some bD/\ ∃(c5:List Int×Bool×PUnit),Xw.fn ((n,str,g,()),dY,List.take bD.1.2.2.2.1.length (List.drop 0 bD.1.2.2.2.1),())=some c5/\(([(0,0),(0,bD.1.2.2.2.1.length)]= [(0,0),(0,y8.1.2.2.2.1.length)]/\(n,str,g,c5.1,c5.2.1,c5,n,str,g,n,dY,c5,c5.1,c5.2.1,n,str,g,([]:List Int),bD.1.2.2.2.1,bD.1.1,bD.1.2.1,bD.1.2.2.1,())=(n,str,g,y9.1,y9.2.1,y9,n,str,g,n,y7,y9,y9.1,y9.2.1,n,str,g,([]:List Int),y8.1.2.2.2.1,y8.1.1,y8.1.2.1,y8.1.2.2.1,PUnit.unit))/\ [(0,0),(0,bD.1.2.2.2.1.length)]= [(0,0),(0,y8.1.2.2.2.1.length)]/\(n,str,g,c5.1,c5.2.1,c5,n,str,g,n,dY,c5,c5.1,c5.2.1,n,str,g,([]:List Int),bD.1.2.2.2.1,bD.1.1,bD.1.2.1,bD.1.2.2.1,())=(n,str,g,y9.1,y9.2.1,y9,n,str,g,n,y7,y9,y9.1,y9.2.1,n,str,g,([]:List Int),y8.1.2.2.2.1,y8.1.1,y8.1.2.1,y8.1.2.2.1,PUnit.unit))/\ [(0,0),(0,bD.1.2.2.2.1.length)]= [(0,0),(0,y8.1.2.2.2.1.length)]/\(n,str,g,c5.1,c5.2.1,c5,n,str,g,n,dY,c5,c5.1,c5.2.1,n,str,g,([]:List Int),bD.1.2.2.2.1,bD.1.1,bD.1.2.1,bD.1.2.2.1,())=(n,str,g,y9.1,y9.2.1,y9,n,str,g,n,y7,y9,y9.1,y9.2.1,n,str,g,([]:List Int),y8.1.2.2.2.1,y8.1.1,y8.1.2.1,y8.1.2.2.1,PUnit.unit)
theorem Afl (b:List Int) (i h n:Int) (str:ByteArray) (g:List (List Int)) (P:((List Int×Int×Int×List Int×Unit)×Unit)->Prop):(∃(y7:List Int),Sk.fn (n,())=some y7/\ ∃(y8:FM),o3.fn (b,i,h,(2:Int),(8:Int),())=some y8/\ ∃(y9:List Int×Bool×PUnit),Xw.fn ((n,str,g,()),y7,List.take y8.1.2.2.2.1.length (List.drop 0 y8.1.2.2.2.1),())=some y9/\P ((y8.1.1,y8.1.2.1,y8.1.2.2.1,y9.1,()),())/\(∃(dY:List Int),Sk.fn (n,())=some dY/\(wH b i h n str g dY y8 y9 y7))/\(∃(dY:List Int),Sk.fn (n,())=some dY/\(wH b i h n str g dY y8 y9 y7))/\ ∃(dY:List Int),Sk.fn (n,())=some dY/\((wH b i h n str g dY y8 y9 y7))/\(wH b i h n str g dY y8 y9 y7))=fnMW (FP [cb+4]) (look [(62,o3),(16,Sk),(21,Xw)]) rz Try.f13 (b,i,h,n,str,g,()) P:=by kernel_rfl
theorem LH (g:List (List Int)) (l:Int) (h:Hj (List.length g) l/\List.length g<=8/\ ∀p∈g,Kg p=true):fnW Gb (look [(190,Jy)]) Ku Try.f149 (g,l,()) (λ(z:List Int)=>z=Av g l):=by
 obtain ⟨hl,h8,hp⟩:=h
 refine Eq.mp (NF g l _) ?_
 obtain ⟨k,hk,rfl|rfl⟩:=Ou hl
 ·refine Br.dec (λhn=>by omega) λ_=>?_
  rw [Cq (by omega) (by omega),show (k:Int)+1-1=(k:Int) by omega]
  exact ⟨_,Cc hk,(Ow hk).symm⟩
 ·refine Br.dec (λ_=>?_) λhn=>by omega
  rw [Cq (n:=0- -((k:Int)+1)) (by omega) (by omega),Cq (by omega) (by omega),show (0:Int)- -((k:Int)+1)-1=(k:Int) by omega]
  have:=gy (hp _ (Ak hk))
  exact ⟨_,Cc hk,_,Ab ⟨this.len,this.row⟩,(Ov hk).symm⟩
theorem tm:Sound Try.prog 149 Ku:=
 Sound.Hq Ee (Ax jn Bt) mixed Try.func149 (by kernel_rfl) (by kernel_rfl) λx h=>LH x.1 x.2.1 h
theorem EL (n:Int) (g:List (List Int)) (w:List Int) (h: ∃p:PP,Dh p=true/\p.1=n/\p.2.2.1=g/\Lu (List.length g:Nat) w=true):fnW Gb (look [(66,Pa),(75,Rc),(149,Ku)]) Wo Try.f76 (n,g,w,()) (λ(z:List Int)=>z=Mv g (upto n.toNat) w):=by
 obtain ⟨p,hv,rfl,rfl,hw⟩:=h
 have hV:=valid hv
 have hn:=hV.n
 have hf:=hV.oz
 obtain ⟨w1,w2⟩:=bV hw
 refine Eq.mp (GM p.1 p.2.2.1 w _) ⟨upto p.1.toNat,Ab ⟨by show 0<=p.1;omega,by show p.1<=20;omega⟩,?_⟩
 refine Cg w.length (λv=>v.2.1) (λj v=>v.1=Mv p.2.2.1 (upto p.1.toNat) (w.take j)) rfl rfl ?_
 rintro j ⟨q,i,⟨⟩⟩ K hj hi hR hK
 dsimp only at hi hR⊢
 subst hi hR
 have hq:=pL hV (w.take j) _ (λl hl=>w2 l (Ic hl)) (Pm.id (n:=p.1.toNat) (by omega) (by omega))
 refine Br.dec (λhl=>?_) λhl=>?_
 ·have hl:j<w.length:=by omega
  have sB:=w2 _ (Ak hl)
  have oD:=ir hV sB
  refine ⟨_,Cc hl,_,Ab ⟨sB,hf.2,hV.perm⟩,_,Ab ⟨RU hq,zP hq oD⟩,?_⟩
  rw [Cm (by omega)]
  exact hK hl _ rfl (BU hl).symm
 ·have:j=w.length:=by omega
  subst this
  rw [Bp]
theorem rV:Sound Try.prog 76 Wo:=
 Sound.Hq Ee (Ax gN (Ax br (Ax tm Bt))) mixed Try.func76 (by kernel_rfl) (by kernel_rfl) λx h=>EL x.1 x.2.1 x.2.2.1 h
theorem RH (p:PP) (s w:List Int) (h:Ii p/\Dh p=true/\Pm p.1.toNat s/\Lu (List.length p.2.2.1:Nat) w=true):fnW Gb (look [(73,Re),(74,cK),(75,Rc),(76,Wo)]) Xw Try.f21 (p,s,w,()) (λ(z:List Int×Bool×Unit)=>z=qG p s w):=by
 obtain ⟨hp,hv,hs,hw⟩:=h
 have hV:=valid hv
 have hn:=hV.n
 have hf:=hV.oz
 obtain ⟨w1,w2⟩:=bV hw
 have hid:=Pm.id (n:=p.1.toNat) (by omega) (by omega)
 have hq:=pL hV w _ w2 hid
 refine Eq.mp (TH p s w _) ⟨true,(Ab ⟨hp,r9 hs⟩).trans (Hv some (Bj.2 ⟨hv,RT hV hs⟩)),λhc=>(by cases hc),λ_=>⟨true,(Ab ⟨by show w.length<=4294967296;omega,by show (0:Int)<=((p.2.2.1.length:Nat):Int);omega,by show ((p.2.2.1.length:Nat):Int)<=4294967296;omega⟩).trans (Hv some hw),λhc=>(by cases hc),λ_=>⟨_,Ab ⟨p,hv,rfl,rfl,hw⟩,_,Ab ⟨RU hs,zP hs hq⟩,?_⟩⟩⟩
 show (As s (Mv p.2.2.1 (upto p.1.toNat) w),true,())=qG p s w
 rw [nv hV hs w _ w2 hid,comp_id hs]
 rfl
theorem xk:Sound Try.prog 21 Xw:=
 Sound.Hq Ee (Ax bt (Ax rO (Ax br (Ax rV Bt)))) mixed Try.func21 (by kernel_rfl) (by kernel_rfl) λx h=>RH x.1 x.2.1 x.2.2.1 h
theorem Abk {b:List Int} {i m:Int} (hd:Yv b i) (h:Int) (hm:1<=m/\m<=8):IF (jP m) (Xq b i h m).2.2=true:=by
 have hr:=ca hd hm.1 h
 have hc:jP m=m:=Al (by omega)
 rw [hc]
 refine Ew ?_
 unfold Xq
 dsimp only
 split<;>omega
theorem TF {b:List Int} {m:Int} (hm:1<=m/\m<=8): ∀(k:Nat) (i h:Int) (w:List Int),Yv b i->(∀y∈w,IF (jP m) y=true)->
  Yv b (TE b m k i h w).1/\(TE b m k i h w).2.2.length=k+w.length/\ ∀y∈(TE b m k i h w).2.2,IF (jP m) y=true
 |0,i,h,w,hd,hw=>⟨hd,by rw [TE];exact (Cf _).symm,hw⟩
 |k+1,i,h,w,hd,hw=>by
  obtain ⟨h1,h2,h3⟩:=TF hm k (Xq b i h m).1 (Xq b i h m).2.1 (w++ [(Xq b i h m).2.2]) (IW hd h m) (λy hy=>by
   rcases Aw.1 hy with h4|h4
   ·exact hw y h4
   ·rw [Ad.1 h4];exact Abk hd h hm)
  rw [Au,Cr] at h2
  rw [TE]
  exact ⟨h1,by omega,h3⟩
theorem TD {b:List Int} {i m k:Int} (hd:Yv b i) (h:Int) (hm:1<=m/\m<=8) (hk:0<=k/\k<=20):Lu m (Tn b i h m k).2.2=true/\Yv b (Tn b i h m k).1:=by
 have hr:=ca hd (show 1<=k+1 by omega) h
 obtain ⟨h1,h2,h3⟩:=TF hm (dR b i h (k+1)).toNat (dI b i) (hN h) [] hd.next (λy hy=>by cases hy)
 refine ⟨Bj.2 ⟨Ew ?_,?_⟩,h1⟩
 ·show (TE b m (dR b i h (k+1)).toNat (dI b i) (hN h) []).2.2.length<=200
  rw [h2,Iq]
  omega
 ·rw [Dn]
  refine List.any_eq_false.2 λy hy=>?_
  rw [h3 y hy]
  decide
theorem Af0 (b:List Int) (i h n:Int) (str:ByteArray) (g:List (List Int)) (hd:Yv b i/\Ii (n,str,g,())/\Dh (n,str,g,())=true/\g.length=2):fnMW (FP [cb+4]) (look [(62,o3),(16,Sk),(21,Xw)]) rz Try.f13 (b,i,h,n,str,g,()) (λ(z:(List Int×Int×Int×List Int×Unit)×Unit)=>z=((b,(eB b i h (n,str,g,())).1,(eB b i h (n,str,g,())).2.1,(eB b i h (n,str,g,())).2.2,()),())):=by
 obtain ⟨hd,hp,hv,h2⟩:=hd
 have hV:=valid hv
 have hn:1<=n/\n<=20:=hV.n
 obtain ⟨hw,BN⟩:=TD hd h (m:=2) (k:=8) (by decide) (by decide)
 have hS:Sk.fn (n,())=some (upto n.toNat):=Ab hn
 have hid:Pm n.toNat (upto n.toNat):=Pm.id (by omega) (by omega)
 have hW:o3.fn (b,i,h,2,8,())=some ((b,(Tn b i h 2 8).1,(Tn b i h 2 8).2.1,(Tn b i h 2 8).2.2,()),()):=Ab ⟨hd,by show (1:Int)<=2/\(2:Int)<=8;decide,by show (0:Int)<=8;decide,by show (8:Int)<=20;decide⟩
 have hA:Xw.fn ((n,str,g,()),upto n.toNat,List.take (Tn b i h 2 8).2.2.length (List.drop 0 (Tn b i h 2 8).2.2),())=some (qG (n,str,g,()) (upto n.toNat) (Tn b i h 2 8).2.2):=by
  rw [Cj]
  exact Ab ⟨hp,hv,hid,by show Lu (g.length:Nat) _=true;rw [h2];exact hw⟩
 refine Eq.mp (Afl b i h n str g _) ⟨_,hS,_,hW,_,hA,?_⟩
 repeat' (first|exact ⟨rfl,rfl⟩|exact rfl|refine ⟨_,hS,?_⟩|refine ⟨_,hW,?_⟩|refine ⟨_,hA,?_⟩|refine ⟨?_,?_⟩)
theorem MF:Dx Try.prog 13 rz:=
 Dx.wF (FQ [cb+4]) (Fz MH (Ax xq (Ax xk Bt))) mixed Try.func13 (by kernel_rfl) (by kernel_rfl) λx h=>Af0 x.1 x.2.1 x.2.2.1 x.2.2.2.1 x.2.2.2.2.1 x.2.2.2.2.2.1 h
structure IX (n:Int) (o:List Int):Prop where
 asc:o.Pairwise (· < ·)
 row: ∀y∈o,0<=y/\y<n
theorem IX.more {j:Int} {o:List Int} (h:IX j o):IX (j+1) o:=⟨h.asc,λy hy=>by have:=h.row y hy;omega⟩
theorem IX.add {j:Int} {o:List Int} (h:IX j o) (h0:0<=j):IX (j+1) (o++ [j]):=by
 refine ⟨List.pairwise_append.2 ⟨h.asc,by simp,λa ha b hb=>?_⟩,λy hy=>?_⟩
 ·rw [Ad.1 hb];exact (h.row a ha).2
 ·rcases Aw.1 hy with h1|h1
  ·have:=h.row y h1;omega
  ·rw [Ad.1 h1];omega
theorem IX.le {j n:Int} {o:List Int} (h:IX j o) (hj:j<=n):IX n o:=⟨h.asc,λy hy=>by have:=h.row y hy;omega⟩
theorem SR {b:List Int} {n:Int} : ∀(f:Nat) (j i h:Int) (o:List Int),Yv b i->0<=j->j<=n->o.length<=3->IX j o->
  Yv b (NQ b n f j i h o).1/\(NQ b n f j i h o).2.2.length<=3/\IX n (NQ b n f j i h o).2.2
 |0,j,i,h,o,hd,_,hj,ho,ha=>⟨hd,ho,ha.le hj⟩
 |f+1,j,i,h,o,hd,h0,hj,ho,ha=>by
  rw [NQ]
  split
  ·rename_i hc
   refine SR f (j+1) _ _ _ hd.next (by omega) (by omega) ?_ ?_
   ·split
    ·rw [Au,Cr];omega
    ·exact ho
   ·split
    ·exact ha.add h0
    ·exact ha.more
  ·exact ⟨hd,ho,ha.le hj⟩
theorem TC {b:List Int} {i n:Int} (hd:Yv b i) (h:Int) (hn:1<=n):Yv b (Vq b i h n).1/\(Vq b i h n).2.2.length<=3/\Gd n (Vq b i h n).2.2=true:=by
 have Aac:IX 0 ([]:List Int):=⟨List.Pairwise.nil,λy hy=>by cases hy⟩
 obtain ⟨h1,h2,h3⟩:=SR (b:=b) (n:=n) n.toNat 0 i h [] hd (by omega) (by omega) (by simp) Aac
 unfold Vq
 generalize NQ b n n.toNat 0 i h []=r at h1 h2 h3
 have fin: ∀o:List Int,IX n o->0<o.length->Gd n o=true:= λo ho hl=>Db.2 ⟨hl,λj hj _=>by
  have:=ho.row _ (Ak hj)
  exact ⟨this.1,by omega,λh0=>Eb.1 ho.asc (j-1) j (by omega) hj (by omega)⟩⟩
 unfold OT
 split
 ·rename_i hz
  have hr:=ca h1 hn r.2.1
  have Adn:r.2.2= []:=List.length_eq_zero_iff.1 hz
  dsimp only
  rw [Adn]
  refine ⟨h1.next,by show 1<=3;decide,fin _ ⟨by simp,λy hy=>?_⟩ (by simp)⟩
  rw [Ad.1 hy]
  exact hr
 ·rename_i hz
  exact ⟨h1,h2,fin _ h3 (by omega)⟩
theorem KL {n:Nat} {l:Int} (h:Hj n l):l∈Cu n:=by
 obtain ⟨h0,h1,h2⟩:=h
 by_cases hp:0<l
 ·have:=(Tl (n:=n) (k:=(l-1).toNat) (by omega)).1
  rwa [show ((l-1).toNat:Int)+1=l by omega] at this
 ·have:=(Tl (n:=n) (k:=(-l-1).toNat) (by omega)).2
  rwa [show-(((-l-1).toNat:Int)+1)=l by omega] at this
theorem yh {p:PP} (hw:Kq p=true): ∀(w s:List Int),(∀l∈w,Hj (List.length p.2.2.1) l)->s∈Dd p->Mv p.2.2.1 s w∈Dd p
 | [],s,_,hs=>hs
 |l::w,s,hl,hs=>yh hw w _ (λl' h=>hl l' (An _ h)) ((Rh hw).next s hs l (KL (hl l (by simp))))
theorem m9.whole {p:PP} (hp:m9 p):Kq p=true:=BK hp.valid hp.hi
theorem Abl {p:PP} (hp:m9 p) {b:List Int} {i:Int} (hd:Yv b i) (h:Int):Yv b (eB b i h p).1/\(eB b i h p).2.2∈Dd p:=by
 obtain ⟨hw,BN⟩:=TD hd h (m:=2) (k:=8) (by decide) (by decide)
 have hw:Lu ((2:Nat):Int) (Tn b i h 2 8).2.2=true:=hw
 have h2:=(bV hw).2
 rw [<-hp.two] at h2
 exact ⟨BN,yh hp.whole _ _ h2 (Lg hp.valid).2⟩
theorem MT {p:PP} (hp:m9 p) {b:List Int} {i:Int} (hd:Yv b i) (h:Int):Yv b (Vq b i h p.1).1/\short (Vq b i h p.1).2.2/\Ea p (Vq b i h p.1).2.2=true/\Nw p (Fg p (Vq b i h p.1).2.2)=true:=by
 have CU:=hp.lo
 obtain ⟨h1,h2,h3⟩:=TC hd h (n:=p.1) (by omega)
 have h4:=uE hp.valid hp.hi h3 h2
 exact ⟨h1,by unfold short;omega,h4,yu h4⟩
structure pC (p:PP) (ts:List TT):Prop where
 set:qL p ts=true
 oz:ts.length<=2
 short:WJ ts
 valid: ∀t∈ts,Nw p t=true
theorem pC.add {p:PP} (hp:m9 p) {ts:List TT} (h:pC p ts) {t:TT} (ht:Nw p t=true):qL p (ts++ [t])=true:=by
 have:=h.oz
 refine Bj.2 ⟨Bj.2 ⟨hp.valid,Ew (by rw [Au,Cr];omega)⟩,At.2 λt' YH=>?_⟩
 rcases Aw.1 YH with h4|h4
 ·exact h.valid t' h4
 ·rw [Ad.1 h4];exact ht
section
variable {p:PP} {ts:List TT} {s:List Int}
end
section
variable {α β:Type}
theorem sum_add (f g:α->Nat): ∀L:List α,(L.map λx=>f x+g x).sum=(L.map f).sum+(L.map g).sum
 | []=>rfl
 |x::L=>by
  simp only [Bh,Vk]
  rw [sum_add f g L]
  omega
theorem AI: ∀L:List α,(L.map λ_=>(0:Nat)).sum=0
 | []=>rfl
 |_::L=>by
  simp only [Bh,Vk]
  rw [AI L]
theorem uZ {f:α->Nat} {c:Nat} : ∀L:List α,(∀x∈L,f x=c)->(L.map f).sum=L.length*c
 | [],_=>by simp
 |x::L,h=>by
  simp only [Bh,Vk,Bg]
  rw [h x (by simp),uZ L λy hy=>h y (An _ hy),Nat.succ_mul]
  omega
theorem pW (P:α->Bool) (x:α) (L:List α):(x::L).countP P=(if P x=true then 1 else 0)+L.countP P:=by
 rw [List.countP_cons]
 omega
theorem nB (R:α->β->Bool): ∀(L:List α) (M:List β),(L.map λx=>M.countP (R x)).sum=(M.map λy=>L.countP λx=>R x y).sum
 | [],M=>by
  simp only [List.map_nil,List.sum_nil,List.countP_nil]
  exact (AI M).symm
 |x::L,M=>by
  simp only [Bh,Vk]
  rw [nB R L M,show (λy=>(x::L).countP λz=>R z y)= λy=>(if R x y=true then 1 else 0)+L.countP λz=>R z y from funext λy=>pW _ _ _,
   sum_add,IP (R:=R x) M]
where IP {R:β->Bool} : ∀M:List β,(M.map λy=>if R y=true then 1 else 0).sum=M.countP R
 | []=>rfl
 |y::M=>by
  rw [Bh,Vk,IP M,pW]
theorem JI {L:List α} {P:α->Bool} (hn:L.Nodup) {a:α} (ha:a∈L) (h: ∀x∈L,P x=true↔x=a):L.countP P=1:=by
 classical
 rw [List.countP_congr (q:= λx=>decide (x=a)) λx hx=>by rw [h x hx];simp]
 have h1:L.countP (λx=>decide (x=a))=L.count a:=List.countP_congr λx _=>by simp
 rw [h1]
 have h2:=(List.nodup_iff_count.1 hn) a
 have h3:=List.count_pos_iff.2 ha
 omega
end
section
variable {p:PP}
theorem wV (hw:Kq p=true) {t:List Int} (ht:Bv p t=true): ∀x∈Hf p t,∃s∈Dd p,x=Bc s t:=by
 have hv:=(Gz hw).1
 obtain ⟨t1,t2⟩:=Hm ht
 exact (vE hv t1 t2 (λx=> ∃s∈Dd p,x=Bc s t) ⟨_,(Lg hv).2,(ix (Xz ht)).symm⟩ λx ⟨s,hs,hx⟩ l hl=>by
  refine ⟨_,(Rh hw).next s hs l hl,?_⟩
  rw [hx,Lw (dz hv hs ht)]).1
theorem dA {t:List Int} (ht:Bv p t=true):(Hf p t).Nodup:=(bP ht).ok.nodup
end
def vM (b:List Int):Prop:=b.length<=1048576/\ ∀y∈b,0<=y/\y<256
noncomputable abbrev FB:Spec:=Hq (.pair tB .unit) .bool false true (λx=>vM x.1) (λ_=>true)
theorem Ahf {code:List Int} (h:vM code) (hb: ¬(code.length:Int)>4096):Yv code 0:=⟨by omega,h.2,Iz _,by omega⟩
noncomputable def ph (p:PP) (t s:List Int):List Int:=if (Bv p t&&Ix p.1 s)=true then Bc s t else []
noncomputable def qI (p:PP) (t:List Int):Int:=if Ea p t=true then ((Hf p t).length:Int) else-1
noncomputable def qJ (p:PP) (t q:List Int):Int:=if (Ea p t&&iu p t q)=true then Ei p t q else-1
noncomputable abbrev Va:Spec:=Hq (.pair Mw (.pair tL (.pair tL .unit))) tL false true (λx=>Ii x.1/\short x.2.1/\short x.2.2.1) (λx=>ph x.1 x.2.1 x.2.2.1)
noncomputable abbrev aD:Spec:=Hq (.pair Mw (.pair tL .unit)) tI false true (λx=>Ii x.1/\short x.2.1) (λx=>qI x.1 x.2.1)
noncomputable abbrev Uz:Spec:=Hq (.pair Mw (.pair tL (.pair tL .unit))) tI false true (λx=>Ii x.1/\short x.2.1/\short x.2.2.1) (λx=>qJ x.1 x.2.1 x.2.2.1)
theorem BG (p:Int×ByteArray×List (List Int)×Unit) (t s:List Int) (P:List Int->Prop):(∃(y4:Bool),Fc.fn ((p.1,p.2.1,p.2.2.1,()),t,())=some y4/\Br (!y4) (P (List.take 0 (List.drop 0 []))) (∃(y5:Bool),Re.fn ((p.1,p.2.1,p.2.2.1,()),s,())=some y5/\Br (!y5) (P (List.take 0 (List.drop 0 []))) (∃(y6:List Int),Zt.fn (t,s,())=some y6/\P y6)))=fnW Gb (look [(98,Fc),(73,Re),(99,Zt)]) Va Try.f38 (p,t,s,()) P:=by kernel_rfl
theorem tt {p:PP} {t s:List Int} (ht:Bv p t=true) (hs:Ix p.1 s=true):Oj s.length t:= λy hy=>by
 have h1:=(Hm ht).2 y hy
 have h2:=(Db.1 hs).1
 omega
theorem zL (p:PP) (t s:List Int) (h:Ii p/\short t/\short s):fnW Gb (look [(98,Fc),(73,Re),(99,Zt)]) Va Try.f38 (p,t,s,()) (λ(z:List Int)=>z=ph p t s):=by
 refine Eq.mp (BG p t s _) ⟨_,Ab ⟨h.1,h.2.1⟩,?_⟩
 unfold ph
 show Br (!Bv p t) _ _
 refine Br.of (λhb=>?_) λhb=>?_
 ·rw [Al (λhh=>Dk hb (Bj.1 hh).1)]
  rfl
 ·have hb:=Cv hb
  have hv:=(Iv.1 hb).1
  refine ⟨_,Ab ⟨h.1,h.2.2⟩,?_⟩
  show Br (!(Dh p&&Ix p.1 s)) _ _
  rw [hv,Bool.true_and]
  refine Br.of (λhc=>?_) λhc=>?_
  ·rw [Al (λhh=>Dk hc (Bj.1 hh).2)]
   rfl
  ·have hc:=Cv hc
   rw [Ab (Bj.2 ⟨hb,hc⟩)]
   exact ⟨_,Ab ⟨h.2.1,tt hb hc⟩,rfl⟩
theorem oQ:Sound Try.prog 38 Va:=
 Sound.Hq Ee (Ax Ve (Ax bt (Ax th Bt))) mixed Try.func38 (by kernel_rfl) (by kernel_rfl) λx h=>zL x.1 x.2.1 x.2.2.1 h
theorem xS (p:Int×ByteArray×List (List Int)×Unit) (t:List Int) (P:Int->Prop):(∃(y3:(List (List Int)×List Int×List Int×Bool×PUnit)×Bool×PUnit),Jk.fn ((p.1,p.2.1,p.2.2.1,()),t,())=some y3/\Br (!y3.2.1) (P (-1:Int)) (P (↑y3.1.1.length:Int)))=fnW Gb (look [(100,Jk)]) aD Try.f43 (p,t,()) P:=by kernel_rfl
theorem xT (p:Int×ByteArray×List (List Int)×Unit) (t q:List Int) (P:Int->Prop):(∃(y4:(List (List Int)×List Int×List Int×Bool×PUnit)×Bool×PUnit),Jk.fn ((p.1,p.2.1,p.2.2.1,()),t,())=some y4/\Br (!y4.2.1) (P (-1:Int)) (∃(y5:Bool),iD.fn ((p.1,p.2.1,p.2.2.1,()),t,q,())=some y5/\Br (!y5) (P (-1:Int)) (∃(y6:Int),Zp.fn ((y4.1.1,y4.1.2.1,y4.1.2.2.1,y4.1.2.2.2.1,()),q,())=some y6/\P y6)))=fnW Gb (look [(100,Jk),(101,iD),(102,Zp)]) Uz Try.f39 (p,t,q,()) P:=by kernel_rfl
theorem jk {p:PP} {t:List Int} (h:Ea p t=true):Ge p t=Pg p.2.2.1 t:=Ab (Wj.1 h).1
theorem wP (p:PP) (t:List Int) (h:Ii p/\short t):fnW Gb (look [(100,Jk)]) aD Try.f43 (p,t,()) (λ(z:Int)=>z=qI p t):=by
 refine Eq.mp (xS p t _) ⟨(Ge p t,Ea p t,()),Ab h,?_⟩
 show Br (!Ea p t) _ _
 unfold qI
 refine Br.of (λhb=>?_) λhb=>?_
 ·rw [Al (Dk hb)]
 ·have hb:=Cv hb
  rw [Ab hb]
  show ((Ge p t).1.length:Int)=_
  rw [jk hb]
  rfl
theorem nd:Sound Try.prog 43 aD:=
 Sound.Hq Ee (Ax Yl Bt) mixed Try.func43 (by kernel_rfl) (by kernel_rfl) λx h=>wP x.1 x.2.1 h
theorem KF {p:PP} {t q:List Int} (h:iu p t q=true):q.length=t.length:=by
 have:=(Db.1 (Bj.1 h).2).1
 omega
theorem wQ (p:PP) (t q:List Int) (h:Ii p/\short t/\short q):fnW Gb (look [(100,Jk),(101,iD),(102,Zp)]) Uz Try.f39 (p,t,q,()) (λ(z:Int)=>z=qJ p t q):=by
 refine Eq.mp (xT p t q _) ⟨(Ge p t,Ea p t,()),Ab ⟨h.1,h.2.1⟩,?_⟩
 show Br (!Ea p t) _ _
 unfold qJ
 refine Br.of (λhb=>?_) λhb=>?_
 ·rw [Al (λhh=>Dk hb (Bj.1 hh).1)]
 ·have hb:=Cv hb
  refine ⟨_,Ab h,Br.of (λhc=>?_) λhc=>?_⟩
  ·rw [Al (λhh=>Dk hc (Bj.1 hh).2)]
  ·have hc:=Cv hc
   have hk:=bP (Wj.1 hb).1
   have e:=jk hb
   rw [Ab (Bj.2 ⟨hb,hc⟩)]
   refine ⟨_,Ab ⟨by show Fy q.length (Ge p t).1 (Ge p t).2.2.1;rw [e,KF hc];exact hk.ok,by show (Ge p t).2.1.length=(Ge p t).1.length;rw [e];exact hk.len⟩,?_⟩
   show cA (Ge p t).1 (Ge p t).2.1 q=_
   rw [e]
   rfl
theorem nf:Sound Try.prog 39 Uz:=
 Sound.Hq Ee (Ax Yl (Ax oP (Ax ta Bt))) mixed Try.func39 (by kernel_rfl) (by kernel_rfl) λx h=>wQ x.1 x.2.1 x.2.2.1 h
theorem OR {x:Int} (h0:0<=x): ∀(M:Nat),x<M->(List.range M).countP (λ(d:Nat)=>decide (x=(d:Int)))=1
 |M,h=>JI List.nodup_range (a:=x.toNat) (Hu.2 (by omega)) λd _=>by rw [Jp];omega
theorem PF {xs:List Int} (h0: ∀x∈xs,0<=x):((gl xs).foldl (· + ·) 0)=(xs.length:Int):=by
 have key: ∀(l:List Nat) (a:Int),(l.map λ(d:Nat)=>((xs.count (d:Int):Nat):Int)).foldl (· + ·) a=a+((l.map λ(d:Nat)=>xs.count (d:Int)).sum:Nat):=by
  intro l
  induction l with
  |nil=>intro a;simp
  |cons d l ih=>
   intro a
   rw [Bh,My,ih,Bh,Vk]
   push_cast
   omega
 unfold gl
 rw [key]
 have h1:=nB (λ(x:Int) (d:Nat)=>decide (x=(d:Int))) xs (List.range (Nv xs+1).toNat)
 have h2:(xs.map λx=>(List.range (Nv xs+1).toNat).countP λ(d:Nat)=>decide (x=(d:Int))).sum=xs.length*1:=uZ xs λx hx=>OR (h0 x hx) _ (by have:=zj hx;have:=h0 x hx;omega)
 have h3: ∀d:Nat,xs.count (d:Int)=xs.countP λx=>decide (x=(d:Int)):= λd=>List.countP_congr λx _=>by simp
 rw [show (λ(d:Nat)=>xs.count (d:Int))= λ(d:Nat)=>xs.countP λx=>decide (x=(d:Int)) from funext h3,<-h1,h2]
 simp
theorem gz {p:PP} {t s:List Int} (ht:Bv p t=true) (hs:Pm p.1.toNat s):iu p t (Bc s t)=true:=by
 obtain ⟨hv,dh⟩:=Iv.1 ht
 have hn:=(valid hv).n
 obtain ⟨_,dh⟩:=Db.1 dh
 have hlen:(Bc s t).length=t.length:=by unfold Bc;rw [Fm]
 have Aq: ∀j (h:j<t.length),(Bc s t)[j]'(by omega)=Hs s t[j]:= λj h=>by unfold Bc;simp
 have JQ: ∀j (h:j<t.length),∃k:Nat,t[j]=(k:Int)/\k<p.1.toNat:= λj h=>by
  have:=Xz ht t[j] (Ak h)
  exact ⟨t[j].toNat,by omega,by omega⟩
 refine Bj.2 ⟨ht,Db.2 ⟨by rw [hlen],λj hj _=>?_⟩⟩
 have u9:j<t.length:=by omega
 obtain ⟨k,hk,hkn⟩:=JQ j u9
 obtain ⟨g1,g2⟩:=hs.Yc hkn
 rw [Aq j u9,hk,g1]
 refine ⟨by omega,by omega,λhm=>?_⟩
 obtain ⟨i,hi,he⟩:=Az.1 hm
 have JS:=hi
 rw [Cl] at JS
 rw [List.getElem_take,Aq i (by omega)] at he
 obtain ⟨m,hm,hmn⟩:=JQ i (by omega)
 obtain ⟨g3,_⟩:=hs.Yc hmn
 rw [hm,g3] at he
 have:=hs.inj hmn hkn (by omega)
 rw [Cl] at hi
 have e:i+(j-i-1)+1=j:=by omega
 have Js:=YO dh (j-i-1) i (by omega)
 simp only [e] at Js
 rw [hm,hk] at Js
 omega
theorem HV {A:List (List Int)} {x q:List Int} (h:x∈A):(A++ [q]).idxOf x=A.idxOf x:=by
 rw [List.idxOf_append,Ab h]
theorem HW {A:List (List Int)} {q:List Int} (h:q∉A):(A++ [q]).idxOf q=A.length:=by
 rw [List.idxOf_append,Al h]
 simp
structure GS (f:Nat->List Int) (d:Nat->Int) (k:Nat) (s:RS):Prop where
 len:s.1.length=s.2.length
 nodup:s.1.Nodup
 le: ∀i,i<k->f i∈s.1/\s.2.getD (s.1.idxOf (f i)) 0<=d i
 Yc: ∀x∈s.1,∃i,i<k/\f i=x/\s.2.getD (s.1.idxOf x) 0=d i
theorem GS.step {f:Nat->List Int} {d:Nat->Int} {k:Nat} {s:RS} (h:GS f d k s):GS f d (k+1) (nP s (f k) (d k)):=by
 obtain ⟨A,B⟩:=s
 obtain ⟨hlen,hn,hle,JQ⟩:=h
 dsimp only at hlen hn hle JQ
 unfold nP Sj
 dsimp only
 by_cases hm:f k∈A
 ·have PH:=Lo hm
  rw [qw hn hm,Al (by omega),Ay]
  have KB: ∀(j:Nat) (v:Int),(B.set (A.idxOf (f k)) v).getD j 0=if j=A.idxOf (f k) then v else B.getD j 0:= λj v=>by
   rw [Ah,Dp]
   by_cases e:A.idxOf (f k)=j
   ·rw [Ab e,Ab (by omega),Ab e.symm]
    rfl
   ·rw [Al e,Al (λh=>e h.symm),Ah]
  have Aa3: ∀x∈A,A.idxOf x=A.idxOf (f k)->x=f k:= λx hx e=>by
   have h1:=List.getElem_idxOf (Lo hx)
   have h2:=List.getElem_idxOf PH
   simp only [e] at h1
   exact h1.symm.trans h2
  refine ⟨by rw [Ez];exact hlen,hn,λi hi=>?_,λx hx=>?_⟩
  ·dsimp only
   rw [KB]
   by_cases ei:i=k
   ·subst ei
    refine ⟨hm,?_⟩
    rw [Ab rfl]
    split<;>omega
   ·obtain ⟨h1,h2⟩:=hle i (by omega)
    refine ⟨h1,?_⟩
    split
    ·rename_i e
     rw [e] at h2
     split<;>omega
    ·exact h2
  ·dsimp only at hx⊢
   rw [KB]
   obtain ⟨i,hi,e1,e2⟩:=JQ x hx
   by_cases e:A.idxOf x=A.idxOf (f k)
   ·rw [Ab e]
    have hxk:=Aa3 x hx e
    rw [e] at e2
    split
    ·exact ⟨k,by omega,hxk.symm,rfl⟩
    ·exact ⟨i,by omega,e1,e2⟩
   ·rw [Al e]
    exact ⟨i,by omega,e1,e2⟩
 ·have CW:Eg (λq=>decide (q=f k)) A 0<0:=Int.not_le.1 λhc=>by
   obtain ⟨q,hq,e⟩:=Ej.1 ((gm _ A 0 (Iz _)).1 hc)
   exact hm (Hy e▸hq)
  rw [Ab CW]
  refine ⟨by rw [Au,Au,hlen];rfl,?_,λi hi=>?_,λx hx=>?_⟩
  ·refine Dg.2 ⟨hn,by simp,λa ha b hb e=>?_⟩
   rw [Ad.1 hb] at e
   exact hm (e▸ha)
  ·dsimp only
   by_cases ei:i=k
   ·subst ei
    refine ⟨Bu _ (Ad.2 rfl),?_⟩
    rw [HW hm,hlen,Zm]
    exact Iz _
   ·obtain ⟨h1,h2⟩:=hle i (by omega)
    have PH:=Lo h1
    refine ⟨Bk _ h1,?_⟩
    rw [HV h1,Ig (by omega)]
    exact h2
  ·dsimp only at hx⊢
   rcases Aw.1 hx with hx|hx
   ·obtain ⟨i,hi,e1,e2⟩:=JQ x hx
    have PH:=Lo hx
    rw [HV hx,Ig (by omega)]
    exact ⟨i,by omega,e1,e2⟩
   ·rw [Ad.1 hx,HW hm,hlen,Zm]
    exact ⟨k,by omega,rfl,rfl⟩
theorem SE (is:List Int) (t:TT): ∀k,GS (λi=>Bc (t.2.1.getD i []) is) (λi=>t.2.2.1.getD i 0) k (gq is t k)
 |0=>⟨rfl,Kw,λi hi=>absurd hi (Gk _),λx hx=>by cases hx⟩
 |k+1=>by
  rw [mE]
  exact (SE is t k).step
theorem ur {t:TT} (hn:t.2.1.Nodup) {x:List Int} (hx:x∈t.2.1):Uu t x=t.2.2.1.getD (t.2.1.idxOf x) 0:=by
 unfold Uu
 rw [qw hn hx,Al (by omega),Ay]
theorem RQ {n:Int} {xs:List Int} (hn:n<=20) (h:Gd n xs=true):Gd 20 xs=true:=by
 obtain ⟨h1,h2⟩:=Db.1 h
 exact Db.2 ⟨h1,λj hj hk=>by
  obtain ⟨a,b,c⟩:=h2 j hj hk
  exact ⟨a,by omega,c⟩⟩
theorem UP {n m:Int} {xs:List Int} (hn:n<=20) (h:Jv n xs m=true):Jv 20 xs m=true:=by
 obtain ⟨h1,h2⟩:=Db.1 h
 exact Db.2 ⟨h1,λj hj hk=>by
  obtain ⟨a,b,c⟩:=h2 j hj hk
  exact ⟨a,by omega,c⟩⟩
section
variable {p:PP}
theorem uF (hw:Kq p=true) {t:List Int} (ht:Bv p t=true) {x:List Int} (hx:x∈Hf p t):Jv 20 x (t.length:Int)=true:=by
 obtain ⟨s,hs,rfl⟩:=wV hw ht x hx
 have hv:=(Gz hw).1
 have:=gz ht (SI hv hs)
 exact UP (by have:=(valid hv).n;omega) (Bj.1 this).2
theorem yt (hw:Kq p=true) {t:List Int} (ht:Bv p t=true):Gr (t,Hf p t,Px p t,())=true:=by
 have hv:=(Gz hw).1
 have hn:=(valid hv).n
 have df:=bP ht
 have qo:(Hf p t).length<=3000:=df.ok.oz
 have hlen:(Px p t).length=(Hf p t).length:=df.len
 have h1:=List.length_pos_of_mem (km hw ht _ (Lg hv).2)
 refine Db.2 ⟨RQ (by omega) (Iv.1 ht).2,⟨h1,qo⟩,hlen,λj h1 h2=>⟨uF hw ht (Ak h1),?_⟩⟩
 have h1:j<(Hf p t).length:=h1
 have:=df.dep j h2
 have h3:(Px p t)[j]'h2=(Gp p.2.2.1 t).2.1[j]'h2:=rfl
 show 0<=(Px p t)[j]'h2/\(Px p t)[j]'h2<=3000
 rw [h3]
 omega
theorem vH {t:List Int} (ht:Bv p t=true) {x:List Int} (hx:x∈Hf p t):Uu (t,Hf p t,Px p t,()) x=Ei p t x:=by
 rw [ur (dA ht) hx]
 exact (Ab hx).symm
theorem nU {s T U:List Int} (hU: ∀y∈U,y∈T):Bc (Bc s T) (Yg T U)=Bc s U:=by
 unfold Bc Yg
 rw [List.map_map]
 refine Ek λy hy=>?_
 obtain ⟨j,h1,h2,_⟩:=Zf T y 0 (hU y hy)
 obtain ⟨hj,h3⟩:=Aj.1 h2
 show Hs (T.map (Hs s)) (Mf T y 0)=Hs s y
 rw [h1,show (0:Int)+j=((j:Nat):Int) by omega,Jr (by rw [Fm];exact hj),List.getElem_map,h3]
theorem qR (hw:Kq p=true) {t:List Int} (ht:Bv p t=true): ∀(m:Nat) (s:List Int),s∈Dd p->Ei p t (Bc s t)=m-> ∃x∈Dd p,Bc x t=Bc s t/\cA (Dd p) (ar p) x<=m
 |0,s,hs,h=>by
  have hv:=(Gz hw).1
  have h1:=sat_iff.1 (((ay hw ht).zero s hs).1 h)
  refine ⟨upto p.1.toNat,(Lg hv).2,by rw [h1];exact sat_iff.1 (QC ht),?_⟩
  have:=((kP hw).zero _ (Lg hv).2).2 (Lg hv).1.symm
  rw [this]
  exact Iz _
 |m+1,s,hs,h=>by
  have hv:=(Gz hw).1
  obtain ⟨l,hl,h1⟩:=(ay hw ht).down s hs (by show 0<Ei p t (Bc s t);omega)
  have h1:Ei p t (Bc (As s (Av p.2.2.1 l)) t)=Ei p t (Bc s t)-1:=h1
  have hn:=(Rh hw).next s hs l hl
  obtain ⟨b1,b2⟩:=(Rh hw).back s hs l hl
  obtain ⟨y,hy,e1,e2⟩:=qR hw ht m _ hn (by omega)
  have h3:=(kP hw).step y hy _ b1
  refine ⟨As y (Av p.2.2.1 (-l)),(Rh hw).next y hy _ b1,?_,by omega⟩
  rw [Lw (dz hv hy ht),e1,<-Lw (dz hv hn ht),b2]
theorem LI (hw:Kq p=true) {t:List Int} (ht:Bv p t=true) {s:List Int} (hs:s∈Dd p):Ei p t (Bc s t)<=cA (Dd p) (ar p) s:=by
 have hv:=(Gz hw).1
 have h0:=(kP hw).nn s hs
 have:=Pv.sub (Rh hw) (ay hw ht) (kP hw) (λx _ e=>by rw [e,(Lg hv).1];exact QC ht) (cA (Dd p) (ar p) s).toNat s hs (by omega)
 have this:Ei p t (Bc s t)<=((cA (Dd p) (ar p) s).toNat:Int):=this
 omega
theorem EN (hw:Kq p=true) {t u:List Int} (ht:Bv p t=true) (hu:Bv p u=true) (hU: ∀y∈u,y∈t) {s:List Int} (hs:s∈Dd p):Ei p u (Bc s u)<=Ei p t (Bc s t):=by
 have h0:0<=Ei p t (Bc s t):=(ay hw ht).nn s hs
 have:=Pv.sub (Rh hw) (ay hw hu) (ay hw ht) (λx _ e=>by
  have e:=At.1 e
  exact At.2 λy hy=>e y (hU y hy)) (Ei p t (Bc s t)).toNat s hs (by show Ei p t (Bc s t)=_;omega)
 have this:Ei p u (Bc s u)<=((Ei p t (Bc s t)).toNat:Int):=this
 omega
theorem zS (hw:Kq p=true) {t u:List Int} (ht:Bv p t=true) (hu:Bv p u=true) (hU: ∀y∈u,y∈t): ∃A B,Ha (t,Hf p t,Px p t,()) u=((u,A,B,()),true,())/\
  A.length=(Hf p u).length/\Gr (u,A,B,())=true/\ ∀s∈Dd p,Uu (u,A,B,()) (Bc s u)=Ei p u (Bc s u):=by
 have hv:=(Gz hw).1
 have hn:=(valid hv).n
 have NP:=yt hw ht
 have Ajk:QS (t,Hf p t,Px p t,()) u=true:=Db.2 ⟨NP,RQ (by omega) (Iv.1 hu).2,hU⟩
 have hinv:=SE (Yg t u) (t,Hf p t,Px p t,()) (Hf p t).length
 obtain ⟨R,hR⟩: ∃R,gq (Yg t u) (t,Hf p t,Px p t,()) (Hf p t).length=R:=⟨_,rfl⟩
 rw [hR] at hinv
 obtain ⟨A,B⟩:=R
 obtain ⟨hlen,sl,hle,JQ⟩:=hinv
 dsimp only at hlen sl hle JQ
 have fS: ∀s∈Dd p,Bc s u∈A/\B.getD (A.idxOf (Bc s u)) 0<=Ei p t (Bc s t):= λs hs=>by
  have aL:=km hw ht s hs
  have PH:=Lo aL
  obtain ⟨h1,h2⟩:=hle ((Hf p t).idxOf (Bc s t)) PH
  rw [Kb PH,List.getElem_idxOf PH,nU hU] at h1 h2
  exact ⟨h1,by rw [show Ei p t (Bc s t)=(Px p t).getD ((Hf p t).idxOf (Bc s t)) 0 from Ab aL];exact h2⟩
 have eo: ∀x∈A,∃s∈Dd p,x=Bc s u/\B.getD (A.idxOf x) 0=Ei p t (Bc s t):= λx hx=>by
  obtain ⟨i,hi,e1,e2⟩:=JQ x hx
  have hi:i<(Hf p t).length:=hi
  rw [Kb hi] at e1
  obtain ⟨s,hs,e3⟩:=wV hw ht _ (Ak hi)
  refine ⟨s,hs,by rw [<-e1,e3,nU hU],e2.trans ?_⟩
  rw [<-e3,show Ei p t ((Hf p t)[i])=(Px p t).getD ((Hf p t).idxOf ((Hf p t)[i])) 0 from Ab (Ak hi),(dA ht).idxOf_getElem i hi]
 have yU: ∀s∈Dd p,B.getD (A.idxOf (Bc s u)) 0=Ei p u (Bc s u):= λs hs=>by
  have h0:0<=Ei p u (Bc s u):=(ay hw hu).nn s hs
  obtain ⟨x,hx,e1,e2⟩:=qR hw hu (Ei p u (Bc s u)).toNat s hs (by omega)
  have h1:=(fS x hx).2
  rw [e1] at h1
  have h2:=LI hw ht hx
  obtain ⟨y,hy,e3,e4⟩:=eo _ (fS s hs).1
  have h3:=EN hw ht hu hU hy
  rw [<-e3] at h3
  omega
 have hAl:A.length=(Hf p u).length:=Nat.le_antisymm (gr sl λx hx=>by
  obtain ⟨s,hs,e,_⟩:=eo x hx
  rw [e]
  exact km hw hu s hs) (gr (dA hu) λx hx=>by
  obtain ⟨s,hs,e⟩:=wV hw hu x hx
  rw [e]
  exact (fS s hs).1)
 refine ⟨A,B,?_,hAl,?_,λs hs=>?_⟩
 ·unfold Ha
  rw [Ab Ajk]
  dsimp only
  rw [hR]
 ·have qo:(Hf p u).length<=3000:=(bP hu).ok.oz
  have h1:=List.length_pos_of_mem (km hw hu _ (Lg hv).2)
  refine Db.2 ⟨RQ (by omega) (Iv.1 hu).2,⟨by show 1<=A.length;omega,by show A.length<=3000;omega⟩,hlen.symm,λj h1 h2=>?_⟩
  have h1:j<A.length:=h1
  have h2:j<B.length:=h2
  show Jv 20 A[j] (u.length:Int)=true/\0<=B[j]/\B[j]<=3000
  obtain ⟨s,hs,e1,e2⟩:=eo _ (Ak h1)
  have e3:=yU s hs
  rw [<-e1,sl.idxOf_getElem j h1,Kb h2] at e3
  have aL:=km hw hu s hs
  rw [<-e1] at aL
  have:=LJ hw hu aL
  exact ⟨uF hw hu aL,by omega,by omega⟩
 ·rw [ur (t:=(u,A,B,())) sl (fS s hs).1]
  exact yU s hs
end
abbrev s5:Type:=Int×Int×Int×ByteArray×List (List Int)×List Int×Int×Int×List Int×List Int×List (List Int)×List Int×List Int×PUnit
abbrev AK:Type:=(List Int×List (List Int)×List Int×Bool×PUnit)×PUnit
abbrev AM:Type:=(List Int×Int×Int×List Int×PUnit)×PUnit
abbrev lB (Ob:s5):Prop:=([(0,Ob.2.2.2.2.2.2.2.2.2.1.length),(0,Ob.2.2.2.2.2.2.2.2.2.2.1.length),(0,Ob.2.2.2.2.2.2.2.2.2.2.2.1.length)]= [(0,Ob.2.2.2.2.2.2.2.2.2.1.length),(0,Ob.2.2.2.2.2.2.2.2.2.2.1.length),(0,Ob.2.2.2.2.2.2.2.2.2.2.2.1.length)]/\()=PUnit.unit)
theorem WT (code:List Int) (P:Bool->Prop):(∃(y2:Bool),uO.fn (code,())=some y2/\Br y2 (P true) (∃(y3:(List Int×Int×Int×PUnit)×PUnit),mU.fn (code,(1110:Int),())=some y3/\ ∃(y4:(List Int×Int×Int×Int×ByteArray×List (List Int)×PUnit)×PUnit),uT.fn (y3.1.1,y3.1.2.1,y3.1.2.2.1,())=some y4/\ ∃(y5:AM),rC.fn (y4.1.1,y4.1.2.1,y4.1.2.2.1,y4.1.2.2.2.1,y4.1.2.2.2.2.1,List.take y4.1.2.2.2.2.2.1.length (List.drop 0 y4.1.2.2.2.2.2.1),())=some y5/\ ∃(y6:AK),Li.fn (y4.1.2.2.2.1,y4.1.2.2.2.2.1,List.take y4.1.2.2.2.2.2.1.length (List.drop 0 y4.1.2.2.2.2.2.1),List.take y5.1.2.2.2.1.length (List.drop 0 y5.1.2.2.2.1),())=some y6/\Br (!y6.1.2.2.2.1) (P false) (∃(y7:Bool),Nz.fn ((y4.1.2.2.2.1,y4.1.2.2.2.2.1,List.take y4.1.2.2.2.2.2.1.length (List.drop 0 y4.1.2.2.2.2.2.1),()),(List.take y6.1.1.length (List.drop 0 y6.1.1),List.take y6.1.2.1.length (List.drop 0 y6.1.2.1),List.take y6.1.2.2.1.length (List.drop 0 y6.1.2.2.1),()),())=some y7/\Br (!y7) (P false) (∃(y8:Bool),Nz.fn ((y4.1.2.2.2.1,y4.1.2.2.2.2.1,List.take y4.1.2.2.2.2.2.1.length (List.drop 0 y4.1.2.2.2.2.2.1),()),(List.take y6.1.1.length (List.drop 0 y6.1.1),List.take y6.1.2.1.length (List.drop 0 y6.1.2.1),List.take y6.1.2.2.1.length (List.drop 0 y6.1.2.2.1),()),())=some y8/\Br (!y8) (P false) (∃(y9:Bool),Eu.fn ((List.take y6.1.1.length (List.drop 0 y6.1.1),List.take y6.1.2.1.length (List.drop 0 y6.1.2.1),List.take y6.1.2.2.1.length (List.drop 0 y6.1.2.2.1),()),())=some y9/\Br (!y9) (P false) (∃(dY:AM),rz.fn (y5.1.1,y5.1.2.1,y5.1.2.2.1,y4.1.2.2.2.1,y4.1.2.2.2.2.1,List.take y4.1.2.2.2.2.2.1.length (List.drop 0 y4.1.2.2.2.2.2.1),())=some dY/\ ∃(bD:List Int),Va.fn ((y4.1.2.2.2.1,y4.1.2.2.2.2.1,List.take y4.1.2.2.2.2.2.1.length (List.drop 0 y4.1.2.2.2.2.2.1),()),List.take y5.1.2.2.2.1.length (List.drop 0 y5.1.2.2.2.1),dY.1.2.2.2.1,())=some bD/\ ∃(c5:Int),Ih.fn ((List.take y6.1.1.length (List.drop 0 y6.1.1),List.take y6.1.2.1.length (List.drop 0 y6.1.2.1),List.take y6.1.2.2.1.length (List.drop 0 y6.1.2.2.1),()),bD,())=some c5/\ ∃(sf:List Int),Va.fn ((y4.1.2.2.2.1,y4.1.2.2.2.2.1,List.take y4.1.2.2.2.2.2.1.length (List.drop 0 y4.1.2.2.2.2.2.1),()),List.take y5.1.2.2.2.1.length (List.drop 0 y5.1.2.2.2.1),dY.1.2.2.2.1,())=some sf/\ ∃(pt:Int),Uz.fn ((y4.1.2.2.2.1,y4.1.2.2.2.2.1,List.take y4.1.2.2.2.2.2.1.length (List.drop 0 y4.1.2.2.2.2.2.1),()),List.take y5.1.2.2.2.1.length (List.drop 0 y5.1.2.2.2.1),sf,())=some pt/\Br (c5 !=pt) (P false) (∃(jB:(List Int×PUnit)×PUnit),Te.fn (List.take y6.1.1.length (List.drop 0 y6.1.1),List.take y6.1.2.1.length (List.drop 0 y6.1.2.1),List.take y6.1.2.2.1.length (List.drop 0 y6.1.2.2.1),())=some jB/\0=0/\y5.1.2.2.2.1.length=y5.1.2.2.2.1.length/\0=0/\jB.1.1.length=jB.1.1.length/\0=0/\y6.1.1.length=y6.1.1.length/\0=0/\y6.1.2.1.length=y6.1.2.1.length/\0=0/\y6.1.2.2.1.length=y6.1.2.2.1.length/\Em (λ(Ob:s5) (k17:s5->Prop)=>Br (decide (Ob.2.1<(↑Ob.2.2.2.2.2.2.2.2.2.2.2.2.1.length:Int))) (((0:Int)<=Ob.2.1/\Ob.2.1<(↑Ob.2.2.2.2.2.2.2.2.2.2.2.2.1.length:Int))/\ ∃(NR:Int),Ob.2.2.2.2.2.2.2.2.2.2.2.2.1[0+Ob.2.1.toNat]?=some NR/\0=0/\Ob.2.2.2.2.2.2.2.2.1.length=Ob.2.2.2.2.2.2.2.2.1.length/\0=0/\Ob.2.2.2.2.2.2.2.2.2.2.2.2.1.length=Ob.2.2.2.2.2.2.2.2.2.2.2.2.1.length/\0=0/\Ob.2.2.2.2.2.2.2.2.2.1.length=Ob.2.2.2.2.2.2.2.2.2.1.length/\0=0/\Ob.2.2.2.2.2.2.2.2.2.2.1.length=Ob.2.2.2.2.2.2.2.2.2.2.1.length/\0=0/\Ob.2.2.2.2.2.2.2.2.2.2.2.1.length=Ob.2.2.2.2.2.2.2.2.2.2.2.1.length/\k17 (IntKind.i64.wrap (Ob.1+NR),IntKind.i64.wrap (Ob.2.1+(1:Int)),Ob.2.2.1,Ob.2.2.2.1,Ob.2.2.2.2.1,Ob.2.2.2.2.2.1,Ob.2.2.2.2.2.2.1,Ob.2.2.2.2.2.2.2.1,Ob.2.2.2.2.2.2.2.2.1,Ob.2.2.2.2.2.2.2.2.2.1,Ob.2.2.2.2.2.2.2.2.2.2.1,Ob.2.2.2.2.2.2.2.2.2.2.2.1,Ob.2.2.2.2.2.2.2.2.2.2.2.2.1,())) ((lB Ob)/\(lB Ob)/\ ∃(NR:(List Int×PUnit)×PUnit),Td.fn (List.take Ob.2.2.2.2.2.2.2.2.2.1.length (List.drop 0 Ob.2.2.2.2.2.2.2.2.2.1),List.take Ob.2.2.2.2.2.2.2.2.2.2.1.length (List.drop 0 Ob.2.2.2.2.2.2.2.2.2.2.1),List.take Ob.2.2.2.2.2.2.2.2.2.2.2.1.length (List.drop 0 Ob.2.2.2.2.2.2.2.2.2.2.2.1),())=some NR/\(lB Ob)/\ ∃(y19:Int),Ih.fn ((List.take Ob.2.2.2.2.2.2.2.2.2.1.length (List.drop 0 Ob.2.2.2.2.2.2.2.2.2.1),List.take Ob.2.2.2.2.2.2.2.2.2.2.1.length (List.drop 0 Ob.2.2.2.2.2.2.2.2.2.2.1),List.take Ob.2.2.2.2.2.2.2.2.2.2.2.1.length (List.drop 0 Ob.2.2.2.2.2.2.2.2.2.2.2.1),()),List.take NR.1.1.length (List.drop 0 NR.1.1),())=some y19/\Br (Ob.1 !=(↑Ob.2.2.2.2.2.2.2.2.2.2.1.length:Int)) (P false) (Br (y19 !=IntKind.i64.wrap ((↑Ob.2.2.2.2.2.2.2.2.2.2.2.2.1.length:Int)-(1:Int))) (P false) (∃(YW:(List Int×Int×Int×Int×PUnit)×PUnit),Ib.fn (Ob.2.2.2.2.2.1,Ob.2.2.2.2.2.2.1,Ob.2.2.2.2.2.2.2.1,(↑Ob.2.2.2.2.2.2.2.2.1.length:Int),())=some YW/\((0:Int)<=(0:Int)/\(0:Int)<=IntKind.i64.wrap ((1:Int)+YW.1.2.2.2.1)/\IntKind.i64.wrap ((1:Int)+YW.1.2.2.2.1)<=(↑Ob.2.2.2.2.2.2.2.2.1.length:Int))/\ ∃(WX:AK),Ly.fn (List.take Ob.2.2.2.2.2.2.2.2.2.1.length (List.drop 0 Ob.2.2.2.2.2.2.2.2.2.1),List.take Ob.2.2.2.2.2.2.2.2.2.2.1.length (List.drop 0 Ob.2.2.2.2.2.2.2.2.2.2.1),List.take Ob.2.2.2.2.2.2.2.2.2.2.2.1.length (List.drop 0 Ob.2.2.2.2.2.2.2.2.2.2.2.1),List.take ((IntKind.i64.wrap ((1:Int)+YW.1.2.2.2.1)).toNat-Int.toNat (0:Int)) (List.drop (0+Int.toNat (0:Int)) Ob.2.2.2.2.2.2.2.2.1),())=some WX/\Br WX.1.2.2.2.1 (∃(y22:Int),aD.fn ((Ob.2.2.1,Ob.2.2.2.1,Ob.2.2.2.2.1,()),List.take ((IntKind.i64.wrap ((1:Int)+YW.1.2.2.2.1)).toNat-Int.toNat (0:Int)) (List.drop (0+Int.toNat (0:Int)) Ob.2.2.2.2.2.2.2.2.1),())=some y22/\Br ((↑WX.1.2.1.length:Int)==y22) (∃(y23:List Int),Va.fn ((Ob.2.2.1,Ob.2.2.2.1,Ob.2.2.2.2.1,()),List.take ((IntKind.i64.wrap ((1:Int)+YW.1.2.2.2.1)).toNat-Int.toNat (0:Int)) (List.drop (0+Int.toNat (0:Int)) Ob.2.2.2.2.2.2.2.2.1),dY.1.2.2.2.1,())=some y23/\ ∃(y24:Int),Ih.fn ((List.take WX.1.1.length (List.drop 0 WX.1.1),List.take WX.1.2.1.length (List.drop 0 WX.1.2.1),List.take WX.1.2.2.1.length (List.drop 0 WX.1.2.2.1),()),y23,())=some y24/\ ∃(y25:List Int),Va.fn ((Ob.2.2.1,Ob.2.2.2.1,Ob.2.2.2.2.1,()),List.take ((IntKind.i64.wrap ((1:Int)+YW.1.2.2.2.1)).toNat-Int.toNat (0:Int)) (List.drop (0+Int.toNat (0:Int)) Ob.2.2.2.2.2.2.2.2.1),dY.1.2.2.2.1,())=some y25/\ ∃(y26:Int),Uz.fn ((Ob.2.2.1,Ob.2.2.2.1,Ob.2.2.2.2.1,()),List.take ((IntKind.i64.wrap ((1:Int)+YW.1.2.2.2.1)).toNat-Int.toNat (0:Int)) (List.drop (0+Int.toNat (0:Int)) Ob.2.2.2.2.2.2.2.2.1),y25,())=some y26/\P (y24==y26)) (P false)) (P false))))) ((0:Int),(0:Int),y4.1.2.2.2.1,y4.1.2.2.2.2.1,List.take y4.1.2.2.2.2.2.1.length (List.drop 0 y4.1.2.2.2.2.2.1),dY.1.1,dY.1.2.1,dY.1.2.2.1,y5.1.2.2.2.1,y6.1.1,y6.1.2.1,y6.1.2.2.1,jB.1.1,PUnit.unit))))))))=fnW (FP [dM+4,gx]) (look [(10,uO),(11,mU),(12,uT),(32,rC),(33,Li),(34,Nz),(35,Nz),(36,Eu),(13,rz),(38,Va),(37,Ih),(39,Uz),(40,Te),(41,Td),(17,Ib),(42,Ly),(43,aD)]) FB Try.f5 (code,()) P:=by kernel_rfl
theorem qf: ∀(l:List Int) (a:Int),(∀x∈l,0<=x)->a<=l.foldl (· + ·) a
 | [],_,_=>Iz _
 |x::l,a,h=>by
  rw [My]
  have h1:=qf l (a+x) λy hy=>h y (An _ hy)
  have h2:=h x (by simp)
  omega
theorem Ab9 {n:Int} {xs:List Int} {k:Nat} (h:Gd n xs=true) (h1:1<=k) (h2:k<=xs.length):Gd n (xs.take k)=true:=by
 obtain ⟨_,h3⟩:=Db.1 h
 have hl:(xs.take k).length=k:=by rw [Cl];omega
 refine Db.2 ⟨by omega,λj hj _=>?_⟩
 obtain ⟨a,b,c⟩:=h3 j (by omega) (by omega)
 rw [List.getElem_take]
 refine ⟨a,b,λh0=>?_⟩
 rw [List.getElem_take]
 exact c h0
theorem WC (code:List Int) (h:vM code):fnW (FP [dM+4,gx]) (look [(10,uO),(11,mU),(12,uT),(32,rC),(33,Li),(34,Nz),(35,Nz),(36,Eu),(13,rz),(38,Va),(37,Ih),(39,Uz),(40,Te),(41,Td),(17,Ib),(42,Ly),(43,aD)]) FB Try.f5 (code,()) (λ(z:Bool)=>z=true):=by
 refine Eq.mp (WT code _) ⟨_,Ab trivial,Br.dec (λ_=>rfl) λhb=>?_⟩
 simp only [lB]
 have hb: ¬(code.length:Int)>4096:=hb
 have hd0:=Ahf h hb
 refine ⟨_,Ab (show code.length<=4096 by omega),_,Ab hd0,?_⟩
 obtain ⟨hp,UZ⟩:=FY hd0 (mD code 1110)
 obtain ⟨W,hW⟩: ∃W,Yr code 0 (mD code 1110)=W:=⟨_,rfl⟩
 rw [hW] at hp UZ
 simp only [hW,Cj,and_self,true_and]
 obtain ⟨i1,h1,n,str,g,u⟩:=W
 obtain rfl:u=():=rfl
 dsimp only at hp UZ⊢
 clear hW
 have hs:=hp.short
 have hw:=hp.whole
 have hv:=hp.valid
 have CU:3<=n:=hp.lo
 have ZZ:n<=5:=hp.hi
 obtain ⟨_,t2,t3,t4⟩:=MT hp UZ h1
 obtain ⟨UB,t5,t6⟩:=TC UZ h1 (n:=n) (by omega)
 obtain ⟨W,hW⟩: ∃W,Vq code i1 h1 n=W:=⟨_,rfl⟩
 have hW':Vq code i1 h1 ((n,str,g,()):PP).1=W:=hW
 have e5:rC.fn (code,i1,h1,n,str,g,())=some ((code,W.1,W.2.1,W.2.2,()),()):=by
  rw [<-hW]
  exact Ab ⟨UZ,by show 1<=n;omega,by show n<=20;omega⟩
 rw [hW'] at t2 t3 t4
 rw [hW] at UB t5 t6
 clear hW hW'
 obtain ⟨i2,h2,T⟩:=W
 dsimp only at t2 t3 t4 UB t5 t6 e5
 have eT:=(Wj.1 t3).1
 obtain ⟨Q,hQ⟩: ∃Q,Hf (n,str,g,()) T=Q:=⟨_,rfl⟩
 obtain ⟨E,hE⟩: ∃E,Px (n,str,g,()) T=E:=⟨_,rfl⟩
 have hB:Fg (n,str,g,()) T=(T,Q,E,()):=by
  rw [<-hQ,<-hE]
  exact Ab t3
 have oF:Kv (T,Q,E,()):=hB▸fo
 rw [hB] at t4
 have NP:=yt hw eT
 rw [hQ,hE] at NP
 have e6:Li.fn (n,str,g,T,())=some ((T,Q,E,true,()),()):=(Ab ⟨hs,t2⟩).trans (Hv some (by
  show (((Fg (n,str,g,()) T).1,(Fg (n,str,g,()) T).2.1,(Fg (n,str,g,()) T).2.2.1,Ea (n,str,g,()) T,()),())=_
  rw [hB,t3]))
 have e7:Nz.fn ((n,str,g,()),(T,Q,E,()),())=some true:=(Ab ⟨hs,oF⟩).trans (Hv some t4)
 have e9:Eu.fn ((T,Q,E,()),())=some true:=(Ab oF).trans (Hv some NP)
 obtain ⟨hd3,Yo⟩:=Abl hp UB h2
 have e10:rz.fn (code,i2,h2,n,str,g,())=some ((code,(eB code i2 h2 (n,str,g,())).1,(eB code i2 h2 (n,str,g,())).2.1,(eB code i2 h2 (n,str,g,())).2.2,()),()):=Ab ⟨UB,hs,hv,hp.two⟩
 obtain ⟨W,hW⟩: ∃W,eB code i2 h2 (n,str,g,())=W:=⟨_,rfl⟩
 rw [hW] at hd3 Yo e10
 clear hW
 obtain ⟨i3,h3,s⟩:=W
 dsimp only at hd3 Yo e10
 have JY:=SI hv Yo
 have hss:short s:=r9 JY
 have Aio:Ix n s=true:=RT (valid hv) JY
 have aL:=km hw eT s Yo
 have PK: ∀U:List Int,Bv (n,str,g,()) U=true->ph (n,str,g,()) U s=Bc s U:= λU hU=>Ab (Bj.2 ⟨hU,Aio⟩)
 have wa: ∀U:List Int,short U->short (Bc s U):= λU hU=>by
  unfold short Bc
  rw [Fm]
  exact hU
 have e11:Va.fn ((n,str,g,()),T,s,())=some (Bc s T):=(Ab ⟨hs,t2,hss⟩).trans (Hv some (PK T eT))
 have yU: ∀x∈Q,Xd (T,Q,E,()) x=Ei (n,str,g,()) T x:= λx hx=>by
  unfold Xd
  rw [Ab NP,<-hQ,<-hE]
  exact vH eT (by rw [hQ];exact hx)
 rw [hQ] at aL
 have e12:Ih.fn ((T,Q,E,()),Bc s T,())=some (Ei (n,str,g,()) T (Bc s T)):=(Ab ⟨oF,wa T t2⟩).trans (Hv some (yU _ aL))
 have e14:Uz.fn ((n,str,g,()),T,Bc s T,())=some (Ei (n,str,g,()) T (Bc s T)):=(Ab ⟨hs,t2,wa T t2⟩).trans (Hv some (Ab (Bj.2 ⟨t3,gz eT JY⟩)))
 obtain ⟨C,hC⟩: ∃C,gl E=C:=⟨_,rfl⟩
 have e15:Te.fn (T,Q,E,())=some ((C,()),()):=(Ab oF).trans (Hv some (by
  show ((Tm (T,Q,E,()),()),())=_
  unfold Tm
  rw [Ab NP,hC]))
 obtain ⟨_,⟨q1,q2⟩,q3,q4⟩:=Db.1 NP
 have q1:1<=Q.length:=q1
 have q2:Q.length<=3000:=q2
 have q3:E.length=Q.length:=q3
 have hE0: ∀x∈E,0<=x/\x<=3000:= λx hx=>by
  obtain ⟨j,hj,rfl⟩:=Az.1 hx
  exact (q4 j (by show j<Q.length;omega) hj).2
 have Aog:=hE0 _ (mB (xs:=E) (by omega))
 have Aal:=PF λx hx=>(hE0 x hx).1
 rw [hC,q3] at Aal
 have Akz:(C.length:Int)=Nv E+1:=by
  rw [<-hC]
  unfold gl
  rw [Fm,List.length_range]
  omega
 have hC0: ∀x∈C,0<=x:= λx hx=>by
  rw [<-hC] at hx
  obtain ⟨d,_,rfl⟩:=Bo.1 hx
  omega
 obtain ⟨j0,f1,f2,f3,f4,_⟩:=pY oF NP
 have f2:j0<E.length:=f2
 have f3:j0<Q.length:=f3
 have f4:E[j0]?=some (Nv E):=f4
 have Ad0:kd (T,Q,E,())=Q[j0]:=by
  unfold kd
  rw [Ab NP]
  exact pX f1 f3
 have hQ0:=Ak f3
 have hdl:Ei (n,str,g,()) T Q[j0]=Nv E:=by
  have h5:Ei (n,str,g,()) T Q[j0]=(Px (n,str,g,()) T).getD ((Hf (n,str,g,()) T).idxOf Q[j0]) 0:=Ab (by rw [hQ];exact hQ0)
  have sl:=dA eT
  rw [hQ] at sl
  rw [h5,hE,hQ,sl.idxOf_getElem j0 f3,Ah,f4]
  rfl
 have e18:Td.fn (T,Q,E,())=some ((Q[j0],()),()):=(Ab oF).trans (Hv some (by
  show ((kd (T,Q,E,()),()),())=_
  rw [Ad0]))
 have hQs:short Q[j0]:=oF.2.1.2 _ hQ0
 have e19:Ih.fn ((T,Q,E,()),Q[j0],())=some (Nv E):=(Ab ⟨oF,hQs⟩).trans (Hv some ((yU _ hQ0).trans hdl))
 obtain ⟨hT0,_⟩:=Db.1 t6
 have e20:Ib.fn (code,i3,h3,(T.length:Int),())=some ((code,dI code i3,hN h3,dR code i3 h3 (T.length:Int),()),()):=Ab ⟨hd3,by show (1:Int)<=(T.length:Int);omega⟩
 obtain ⟨r1,r2⟩:=ca hd3 (show (1:Int)<=(T.length:Int) by omega) h3
 obtain ⟨c,hc⟩: ∃c:Nat,1+dR code i3 h3 (T.length:Int)=(c:Int):=Lm (by omega)
 have ec:IntKind.i64.wrap (1+dR code i3 h3 (T.length:Int))=(c:Int):=by rw [Cq (by omega) (by omega),hc]
 obtain ⟨U,hU⟩: ∃U,T.take c=U:=⟨_,rfl⟩
 have hUl:U.length=c:=by rw [<-hU,Cl];omega
 have Ads:Gd n U=true:=by rw [<-hU];exact Ab9 t6 (by omega) (by omega)
 have htU:Bv (n,str,g,()) U=true:=Iv.2 ⟨hv,Ads⟩
 have hoU:Ea (n,str,g,()) U=true:=uE hv hp.hi Ads (by omega)
 have ZO:short U:=by show U.length<=4294967296;omega
 obtain ⟨A,B,fU,hAl,Aeb,hlk⟩:=zS hw eT htU λy hy=>Ic (by rw [hU];exact hy)
 rw [hQ,hE] at fU
 have hlk:=hlk s Yo
 have Aik:Kv (U,A,B,()):=by
  obtain ⟨_,⟨_,k2⟩,k3,k4⟩:=Db.1 Aeb
  have k2:A.length<=3000:=k2
  have k3:B.length=A.length:=k3
  refine ⟨ZO,⟨by show A.length<=4294967296;omega,λr hr=>?_⟩,by show B.length<=4294967296;omega⟩
  obtain ⟨j,hj,rfl⟩:=Az.1 hr
  have hj:j<A.length:=hj
  have h6:=(Db.1 (k4 j hj (by show j<B.length;omega)).1).1
  have h6:((A[j]).length:Int)=(U.length:Int):=h6
  show (A[j]).length<=4294967296
  omega
 have e21:Ly.fn (T,Q,E,U,())=some ((U,A,B,true,()),()):=(Ab ⟨oF,ZO⟩).trans (Hv some (by
  show (((Ha (T,Q,E,()) U).1.1,(Ha (T,Q,E,()) U).1.2.1,(Ha (T,Q,E,()) U).1.2.2.1,(Ha (T,Q,E,()) U).2.1,()),())=_
  rw [fU]))
 have e22:aD.fn ((n,str,g,()),U,())=some (A.length:Int):=(Ab ⟨hs,ZO⟩).trans (Hv some ((Ab hoU).trans (by rw [hAl])))
 have e23:Va.fn ((n,str,g,()),U,s,())=some (Bc s U):=(Ab ⟨hs,ZO,hss⟩).trans (Hv some (PK U htU))
 have e24:Ih.fn ((U,A,B,()),Bc s U,())=some (Ei (n,str,g,()) U (Bc s U)):=(Ab ⟨Aik,wa U ZO⟩).trans (Hv some ((Ab Aeb).trans hlk))
 have e26:Uz.fn ((n,str,g,()),U,Bc s U,())=some (Ei (n,str,g,()) U (Bc s U)):=(Ab ⟨hs,ZO,wa U ZO⟩).trans (Hv some (Ab (Bj.2 ⟨hoU,gz htU JY⟩)))
 refine ⟨_,e5,_,e6,Br.of (λhh=>by cases hh) λ_=>⟨_,e7,Br.of (λhh=>by cases hh) λ_=>⟨_,e7,Br.of (λhh=>by cases hh) λ_=>⟨_,e9,Br.of (λhh=>by cases hh) λ_=>⟨_,e10,_,e11,_,e12,_,e11,_,e14,Br.of (λhh=>by simp at hh) λ_=>⟨_,e15,?_⟩⟩⟩⟩⟩⟩
 dsimp only
 refine Cg C.length (λv=>v.2.1) (λj v=>v.1=(C.take j).foldl (· + ·) 0/\v.2.2=(n,str,g,code,i3,h3,T,T,Q,E,C,())) rfl ⟨rfl,rfl⟩ ?_
 rintro j ⟨a,j',V⟩ K hj u9 ⟨ha,hV⟩ hK
 dsimp only at u9 ha hV
 subst hV u9 ha
 dsimp only
 refine Br.dec (λhl=>?_) λhl=>?_
 ·have hl:j<C.length:=by omega
  refine ⟨⟨by omega,by omega⟩,C[j],by rw [Cf,Ay];exact Ac hl,?_⟩
  have e:(C.take (j+1)).foldl (· + ·) 0=(C.take j).foldl (· + ·) 0+C[j]:=by
   rw [List.take_add_one,Ac hl,List.foldl_append]
   rfl
  have h5:=qf (C.take (j+1)) 0 λx hx=>hC0 x (Ic hx)
  have h6:=qf (C.drop (j+1)) ((C.take (j+1)).foldl (· + ·) 0) λx hx=>hC0 x (Uc hx)
  rw [<-List.foldl_append,Hp,Aal] at h6
  rw [e] at h5 h6
  rw [Cq (by omega) (by omega),Cm (by omega)]
  exact hK hl _ rfl ⟨e.symm,rfl⟩
 ·have:j=C.length:=by omega
  subst this
  rw [Bp,Aal]
  have ew:IntKind.i64.wrap ((C.length:Int)-1)=Nv E:=by rw [Cq (by omega) (by omega)];omega
  refine ⟨_,e18,_,e19,Br.of (λhh=>by simp at hh) λ_=>Br.of (λhh=>?_) λ_=>⟨_,e20,?_⟩⟩
  ·rw [ew] at hh
   simp at hh
  simp only [ec,Ay,Int.toNat_zero,Nat.sub_zero,Cf,Jo,hU]
  exact ⟨⟨by omega,by omega,by omega⟩,_,e21,Br.of (λ_=>⟨_,e22,Br.of (λ_=>⟨_,e23,_,e24,_,e23,_,e26,beq_self_eq_true _⟩) λhh=>by simp at hh⟩) λhh=>by cases hh⟩
theorem AD:Sound Try.prog 5 FB:=
 Sound.Hq (FQ [dM+4,gx]) (Ax LY (Fz FF (Fz ME (Fz MG (Fz eI (Ax ng (Ax nb (Ax Kj (Fz MF (Ax oQ (Ax eX (Ax nf (Fz rK (Fz rJ (Fz Xy (Fz kx (Ax nd Bt))))))))))))))))) mixed Try.func5 (by kernel_rfl) (by kernel_rfl) λx h=>WC x.1 h
end Go.Proofs.Ytkkdpknjohcekaa
