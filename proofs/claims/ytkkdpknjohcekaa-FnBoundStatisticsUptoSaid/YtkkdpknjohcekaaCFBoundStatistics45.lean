/-
  Part 46 of the proof that the statement FnBoundStatistics holds.
-/
import Derived.Test.YtkkdpknjohcekaaCFBoundStatistics44
namespace Go.Proofs.Ytkkdpknjohcekaa
open Go.RowKit
section
variable {Q:List Int->Prop} {code:List Int->Nat} {B:Nat}
theorem XK (inj: ∀x y,Q x->Q y->code x=code y->x=y) (lt: ∀x,Q x->code x<B) {L:List (List Int)} (hQ: ∀y∈L,Q y) (hn:L.Nodup):L.length<=B:=by
 have h1:(L.map code).Nodup:=by
  unfold List.Nodup
  rw [List.pairwise_map]
  exact List.Pairwise.imp_of_mem (λha hb Iv he=>Iv (inj _ _ (hQ _ ha) (hQ _ hb) he)) hn
 have h2:=Uc h1 (l2:=List.range B) λx hx=>by
  obtain ⟨y,hy,rfl⟩:=Ay.1 hx
  exact Dn.2 (lt y (hQ y hy))
 simpa using h2
theorem lR (hB:B<3000) (inj: ∀x y,Q x->Q y->code x=code y->x=y) (lt: ∀x,Q x->code x<B) {g:List (List Int)} {x:List Int} {d:Int} :
  ∀(ls:List Int) (L:List (List Int)) (D:List Int),(∀l∈ls,Q (Ai x (Az g l)))->(∀y∈L,Q y)->L.Nodup->
   (Hc g x d ls L D).2.2=true/\(∀y∈(Hc g x d ls L D).1,Q y)/\(Hc g x d ls L D).1.Nodup
 | [],L,D,_,hQ,hn=>⟨rfl,hQ,hn⟩
 |l::ls,L,D,hl,hQ,hn=>by
  have Ke: ∀l∈ls,Q (Ai x (Az g l)):= λl h=>hl l (Aq _ h)
  rw [Hc]
  split
  ·exact lR hB inj lt ls L D Ke hQ hn
  ·rename_i hni
   have:=XK inj lt hQ hn
   rw [Ak (by omega)]
   refine lR hB inj lt ls _ _ Ke (λy hy=>?_) ?_
   ·rcases Ax.1 hy with h|h
    ·exact hQ y h
    ·rw [Ad.1 h];exact hl l (by simp)
   ·rw [Dt]
    exact ⟨hn,by simp,λa ha b hb e=>hni (by rw [Ad.1 hb] at e;rw [<-e];exact ha)⟩
theorem sE (hB:B<3000) (inj: ∀x y,Q x->Q y->code x=code y->x=y) (lt: ∀x,Q x->code x<B) {g:List (List Int)} {ls:List Int} (step: ∀x,Q x-> ∀l∈ls,Q (Ai x (Az g l))):
  ∀(f k:Nat) (L:List (List Int)) (D:List Int),(∀y∈L,Q y)->L.Nodup->(Jn g ls f k L D).2.2=true
 |0,_,_,_,_,_=>rfl
 |f+1,k,L,D,hQ,hn=>by
  rw [Jn]
  split
  ·rename_i hk
   have hx:Q (L.getD k []):=by
    rw [Ah,Ab hk]
    exact hQ _ (Al hk)
   obtain ⟨h1,h2,h3⟩:=lR hB inj lt (d:=D.getD k 0) ls L D (step _ hx) hQ hn
   generalize Hc g (L.getD k []) (D.getD k 0) ls L D=r at h1 h2 h3
   obtain ⟨L',D',b⟩:=r
   have h1:b=true:=h1
   subst h1
   exact sE hB inj lt step f (k+1) L' D' h2 h3
  ·rfl
theorem CW (hB:B<3000) (inj: ∀x y,Q x->Q y->code x=code y->x=y) (lt: ∀x,Q x->code x<B) {g:List (List Int)} {s:List Int} (hs:Q s)
  (step: ∀x,Q x-> ∀l∈Bz g.length,Q (Ai x (Az g l))):(Fu g s).2.2=true:=
 sE hB inj lt step _ _ _ _ (λy hy=>by rw [Ad.1 hy];exact hs) (by simp)
end
def x7 (x:List Int):Nat:=(Gw x 0+5*Gw x 1+25*Gw x 2+125*Gw x 3).toNat
theorem DY {x:List Int} {k:Nat} (h:x.length<=k):Gw x (k:Int)=0:=by
 unfold Gw
 rw [Aj,Ah,Dy h]
 rfl
theorem Qp {n:Nat} {x:List Int} (hn:n<=5) (h:Pm n x) (k:Nat):0<=Gw x (k:Int)/\Gw x (k:Int)<5:=by
 by_cases hk:k<n
 ·have:=h.Zk hk
  omega
 ·rw [DY (by rw [h.1];omega)]
  decide
theorem MW {n:Nat} {x:List Int} (hn:n<=5) (h:Pm n x):x7 x<625:=by
 have h0:=Qp hn h 0
 have h1:=Qp hn h 1
 have h2:=Qp hn h 2
 have h3:=Qp hn h 3
 simp only [Int.natCast_zero] at h0
 unfold x7
 have e1:((1:Nat):Int)=1:=rfl
 have e2:((2:Nat):Int)=2:=rfl
 have e3:((3:Nat):Int)=3:=rfl
 rw [e1] at h1;rw [e2] at h2;rw [e3] at h3
 omega
theorem GV {n:Nat} (hn:n<=5) (x y:List Int) (hx:Pm n x) (hy:Pm n y) (e:x7 x=x7 y):x=y:=by
 have e1:((1:Nat):Int)=1:=rfl
 have e2:((2:Nat):Int)=2:=rfl
 have e3:((3:Nat):Int)=3:=rfl
 have a0:=Qp hn hx 0
 have a1:=Qp hn hx 1
 have a2:=Qp hn hx 2
 have a3:=Qp hn hx 3
 have b0:=Qp hn hy 0
 have b1:=Qp hn hy 1
 have b2:=Qp hn hy 2
 have b3:=Qp hn hy 3
 simp only [Int.natCast_zero] at a0 b0
 rw [e1] at a1 b1;rw [e2] at a2 b2;rw [e3] at a3 b3
 unfold x7 at e
 have low: ∀i:Nat,i<4->Gw x (i:Int)=Gw y (i:Int):=by
  intro i hi
  match i,hi with
  |0,_=>simp only [Int.natCast_zero];omega
  |1,_=>rw [e1];omega
  |2,_=>rw [e2];omega
  |3,_=>rw [e3];omega
 have Ana: ∀i,i<4->ap x i=ap y i:= λi hi=>by unfold ap;rw [low i hi]
 refine hx.ext hy λi hi=>?_
 by_cases h4:i<4
 ·exact Ana i h4
 ·obtain ⟨j,hj,hjx⟩:=hy.TM (hx.lt hi)
  by_cases hj4:j<4
  ·rw [<-Ana j hj4] at hjx
   have:=hx.inj hj hi hjx
   omega
  ·have:j=i:=by omega
   rw [this] at hjx
   exact hjx.symm
theorem IY {p:PP} (hv:Cy p=true) (h5:p.1<=5):Gz p=true:=by
 have hV:=valid hv
 have hn:=hV.n
 refine Ce.2 ⟨hv,CW (Q:=Pm p.1.toNat) (code:=x7) (B:=625) (by decide) (GV (by omega)) (λx hx=>MW (by omega) hx) (Pm.id (by omega) (by omega)) λx hx l hl=>?_⟩
 exact hx.comp (TG hV (Md hl))
def WN (n:Int) (m:Nat) (x:List Int):Prop:=x.length=m/\ ∀y∈x,0<=y/\y<n
theorem fz {n:Int} {m:Nat} {x:List Int} (hn:n<=5) (h:WN n m x) (k:Nat):0<=Gw x (k:Int)/\Gw x (k:Int)<5:=by
 by_cases hk:k<x.length
 ·have:=h.2 _ (Al hk)
  rw [Ig hk]
  omega
 ·rw [DY (by omega)]
  decide
def x6 (x:List Int):Nat:=(Gw x 0+5*Gw x 1+25*Gw x 2).toNat
theorem GR {n:Int} {m:Nat} {x:List Int} (hn:n<=5) (h:WN n m x):x6 x<125:=by
 have h0:=fz hn h 0
 have h1:=fz hn h 1
 have h2:=fz hn h 2
 simp only [Int.natCast_zero] at h0
 have e1:((1:Nat):Int)=1:=rfl
 have e2:((2:Nat):Int)=2:=rfl
 rw [e1] at h1;rw [e2] at h2
 unfold x6
 omega
theorem zK {n:Int} {m:Nat} (hn:n<=5) (hm:m<=3) (x y:List Int) (hx:WN n m x) (hy:WN n m y) (e:x6 x=x6 y):x=y:=by
 have e1:((1:Nat):Int)=1:=rfl
 have e2:((2:Nat):Int)=2:=rfl
 have a0:=fz hn hx 0
 have a1:=fz hn hx 1
 have a2:=fz hn hx 2
 have b0:=fz hn hy 0
 have b1:=fz hn hy 1
 have b2:=fz hn hy 2
 simp only [Int.natCast_zero] at a0 b0
 rw [e1] at a1 b1;rw [e2] at a2 b2
 unfold x6 at e
 have low: ∀i:Nat,i<3->Gw x (i:Int)=Gw y (i:Int):=by
  intro i hi
  match i,hi with
  |0,_=>simp only [Int.natCast_zero];omega
  |1,_=>rw [e1];omega
  |2,_=>rw [e2];omega
 refine eL (by rw [hx.1,hy.1]) λi h1 h2=>?_
 have:=low i (by rw [hx.1] at h1;omega)
 rwa [Ig h1,Ig h2] at this
theorem UC {p:PP} {t:List Int} (hv:Cy p=true) (h5:p.1<=5) (ht:Pq p.1 t=true) (h3:t.length<=3):Fm p t=true:=by
 have hV:=valid hv
 have hn:=hV.n
 obtain ⟨_,hp⟩:=Hy.1 ht
 refine Ce.2 ⟨Ce.2 ⟨hv,ht⟩,CW (Q:=WN p.1 t.length) (code:=x6) (B:=125) (by decide) (zK (by omega) h3) (λx hx=>GR (by omega) hx) ⟨rfl,λy hy=>?_⟩ λx hx l hl=>?_⟩
 ·obtain ⟨j,hj,rfl⟩:=Bf.1 hy
  have:=hp j hj hj
  omega
 ·obtain ⟨n1,n2⟩:=nP hV hx.2 (Md hl)
  exact ⟨by rw [n1,hx.1],n2⟩
theorem ik {p:PP} {t:List Int} (h:Fm p t=true):Gf p (Em p t)=true:=by
 have e:(Em p t).1=t:=by unfold Em;rw [Ac h]
 unfold Gf
 rw [e,h,LU]
 rfl
theorem Ael {n a c:Nat} {mv:List Int} (h:Pm n mv) (ha:a<n) (hc:c<n):Pm n ((mv.set a (Gw mv (c:Int))).set c (Gw mv (a:Int))):=by
 have hA:=(h.Zk ha).1
 have hC:=(h.Zk hc).1
 refine Pm.of (by simp only [Cf];exact h.1) h.n1 h.n2 (λk=>if k=c then ap mv a else if k=a then ap mv c else ap mv k) (λi hi=>?_) λi j hi hj e=>?_
 ·rw [Ds,Ds,Cf,h.1]
  by_cases h1:c=i
  ·rw [Ac h1,Ac hc,Ac (show i=c from h1.symm)]
   exact ⟨by rw [hA],h.lt ha⟩
  ·rw [Ak h1,Ak (show ¬i=c from λe=>h1 e.symm)]
   by_cases h2:a=i
   ·rw [Ac h2,Ac ha,Ac (show i=a from h2.symm)]
    exact ⟨by rw [hC],h.lt hc⟩
   ·rw [Ak h2,Ak (show ¬i=a from λe=>h2 e.symm)]
    have l5:i<mv.length:=by rw [h.1];exact hi
    have:=(h.Zk hi).1
    rw [Ig l5] at this
    rw [Ab l5,this]
    exact ⟨rfl,h.lt hi⟩
 ·by_cases i1:i=c
  ·rw [Ac i1] at e
   by_cases j1:j=c
   ·rw [i1,j1]
   ·rw [Ak j1] at e
    by_cases j2:j=a
    ·rw [Ac j2] at e
     have:=h.inj ha hc e
     rw [i1,j2,this]
    ·rw [Ak j2] at e
     exact absurd (h.inj ha hj e).symm j2
  ·rw [Ak i1] at e
   by_cases i2:i=a
   ·rw [Ac i2] at e
    by_cases j1:j=c
    ·rw [Ac j1] at e
     have:=h.inj hc ha e
     rw [i2,j1,this]
    ·rw [Ak j1] at e
     by_cases j2:j=a
     ·rw [i2,j2]
     ·rw [Ak j2] at e
      exact absurd (h.inj hc hj e).symm j1
   ·rw [Ak i2] at e
    by_cases j1:j=c
    ·rw [Ac j1] at e
     exact absurd (h.inj hi ha e) i2
    ·rw [Ak j1] at e
     by_cases j2:j=a
     ·rw [Ac j2] at e
      exact absurd (h.inj hi hc e) i1
     ·rw [Ak j2] at e
      exact h.inj hi hj e
theorem yi {b:List Int} {n:Int} (hn:1<=n): ∀(k:Nat) (i h:Int) (mv:List Int),eJ b i->Pm n.toNat mv->Pm n.toNat (fQ b n k i h mv).2.2
 |0,_,_,_,_,hm=>hm
 |k+1,i,h,mv,hd,hm=>by
  have r1:=kN hd hn h
  have r2:=kN hd.next hn (hN h)
  rw [fQ]
  refine yi hn k _ _ _ hd.next.next ?_
  have:=Ael hm (a:=(dR b i h n).toNat) (c:=(dR b (dI b i) (hN h) n).toNat) (by omega) (by omega)
  rw [Int.toNat_of_nonneg r1.1,Int.toNat_of_nonneg r2.1] at this
  exact this
theorem FR {b:List Int} {n:Int} (hn:1<=n) (hn2:n<=20): ∀(k:Nat) (i h:Int) (ms:List (List Int)),eJ b i->(∀m∈ms,Pm n.toNat m)-> ∀m∈(aF b n k i h ms).2.2,Pm n.toNat m
 |0,_,_,_,_,hm=>hm
 |k+1,i,h,ms,hd,hm=>by
  rw [aF]
  refine FR hn hn2 k _ _ _ (tV hd h) λm hmm=>?_
  rcases Ax.1 hmm with h1|h1
  ·exact hm m h1
  ·rw [Ad.1 h1]
   exact yi hn _ _ _ _ hd.next (Pm.id (by omega) (by omega))
theorem ZY:bg Aa0=true:=by
 refine Hy.2 ⟨by decide,λj hj=>?_⟩
 have hj:j<2:=hj
 match j,hj with
 |0,_=>exact ⟨65,rfl,by decide,by decide,λk hk=>by omega⟩
 |1,_=>exact ⟨66,rfl,by decide,by decide,λk hk=>(by have e:k=0:=(by omega);rw [e];decide)⟩
structure hZ (p:PP):Prop where
 valid:Cy p=true
 two:p.2.2.1.length=2
 lo:3<=p.1
 hi:p.1<=5
 short:Hv p
theorem OI {b:List Int} {i:Int} (hd:eJ b i) (h:Int):hZ (aE b i h).2.2/\eJ b (aE b i h).1:=by
 have hr:=kN hd (show (1:Int)<=3 by decide) h
 obtain ⟨n,hn⟩: ∃n,3+dR b i h 3=n:=⟨_,rfl⟩
 have h2:=QX b n 2 (dI b i) (hN h) []
 have h3:=FR (b:=b) (n:=n) (by omega) (by omega) 2 (dI b i) (hN h) [] hd.next (λm hm=>by cases hm)
 have h4:=QW n 2 (dI b i) (hN h) [] hd.next
 unfold aE
 rw [hn]
 generalize aF b n 2 (dI b i) (hN h) []=R at h2 h3 h4
 obtain ⟨i',h',ms⟩:=R
 dsimp only at h2 h3 h4⊢
 simp only [Fg,Ek] at h2
 refine ⟨⟨Hy.2 ⟨Hy.2 ⟨⟨by show 1<=n;omega,by show n<=20;omega⟩,by show ms.length<=8;omega,λm hm=>?_⟩,ZY,by show 2=ms.length;omega⟩,h2,by show 3<=n;omega,by show n<=5;omega,⟨by show 2<=4294967296;decide,by show ms.length<=4294967296;omega,λm hm=>?_⟩⟩,h4⟩
 ·have:=h3 m hm
  have h5:=this.1
  exact Hy.2 ⟨by omega,SZ this.2⟩
 ·exact Aaj (h3 m hm)
noncomputable def wD (b:List Int) (p:PP):Nat->Int->Int->List TT->Int×Int×List TT
 |0,i,h,o=>(i,h,o)
 |k+1,i,h,o=>wD b p k (Ni b i h p.1).1 (Ni b i h p.1).2.1 (o++ [Em p (Ni b i h p.1).2.2])
noncomputable def Yo (b:List Int) (i h:Int) (p:PP):Int×Int×List TT:=wD b p (dR b i h 3).toNat (dI b i) (hN h) []
noncomputable abbrev Aip:MSpec:= {ptr:=some (75,3),Ip:= [some 3],ins:= [(false, .Fy tB),(false, .Fy tI),(false, .Fy tU6),(false, .Fy tI),(false, .Fy .str),(false, .Fy mG)],Hi:=false,Hb:= [none],outs:= [.Fy tB, .Fy tI, .Fy tU6, .row cd 48],fn:= λ_=>none}
noncomputable abbrev pJ:MSpec:=eM Aip (λx=>eJ x.1 x.2.1/\Hv (x.2.2.2.1,x.2.2.2.2.1,x.2.2.2.2.2.1,())/\Cy (x.2.2.2.1,x.2.2.2.2.1,x.2.2.2.2.2.1,())=true) (λx=>((x.1,(Yo x.1 x.2.1 x.2.2.1 (x.2.2.2.1,x.2.2.2.2.1,x.2.2.2.2.2.1,())).1,(Yo x.1 x.2.1 x.2.2.1 (x.2.2.2.1,x.2.2.2.2.1,x.2.2.2.2.2.1,())).2.1,(Yo x.1 x.2.1 x.2.2.1 (x.2.2.2.1,x.2.2.2.2.1,x.2.2.2.2.2.1,())).2.2,()),()))
abbrev Kp:Type:=(List Int×List (List Int)×List Int×PUnit)×Bool×PUnit
abbrev Ic:Type:=Int×ByteArray×List (List Int)×PUnit
abbrev Nf:Type:=(List Int×Int×Int×List Int×PUnit)×PUnit
abbrev oo:Type:=Int×List (List Int×List (List Int)×List Int×PUnit)×List Int×Int×Int×PUnit
abbrev Jw (v8:oo) (Hx:Nf) (He:Nf) (n:Int) (str:ByteArray) (g:List (List Int)) (Is:Kp) (Hm:Ic) (Fq:Ic) (Iq:Kp) (Kq:Ic) (Jq:Ic):Prop:= [(0,v8.2.1.length),(0,Hx.1.2.2.2.1.length)]= [(0,v8.2.1.length),(0,He.1.2.2.2.1.length)]/\(some (n,str,g,()),v8.1,Is.2.1,v8.1,decide (v8.1>(0:Int)),Is,Hm,Fq,Is,Is.1,Is.2.1,Is.1.1,Is.1.2.1,Is.1.2.2.1,v8.2.1,([]:List Int),([]:List (List Int)),([]:List Int),Hx.1.2.2.2.1,Hx.1.1,Hx.1.2.1,Hx.1.2.2.1,())=(some (n,str,g,()),v8.1,Iq.2.1,v8.1,decide (v8.1>(0:Int)),Iq,Kq,Jq,Iq,Iq.1,Iq.2.1,Iq.1.1,Iq.1.2.1,Iq.1.2.2.1,v8.2.1,([]:List Int),([]:List (List Int)),([]:List Int),He.1.2.2.2.1,He.1.1,He.1.2.1,He.1.2.2.1,PUnit.unit)
abbrev Jx (v8:oo) (Hm:Nf) (He:Nf) (n:Int) (str:ByteArray) (g:List (List Int)) (Is:Kp) (Fq:Ic) (Hx:Ic) (Iq:Kp) (Kq:Ic) (Jq:Ic):Prop:= [(0,v8.2.1.length),(0,Hm.1.2.2.2.1.length)]= [(0,v8.2.1.length),(0,He.1.2.2.2.1.length)]/\(some (n,str,g,()),v8.1,Is.2.1,v8.1,decide (v8.1>(0:Int)),Is,Fq,Hx,Is,Is.1,Is.2.1,Is.1.1,Is.1.2.1,Is.1.2.2.1,v8.2.1,([]:List Int),([]:List (List Int)),([]:List Int),Hm.1.2.2.2.1,Hm.1.1,Hm.1.2.1,Hm.1.2.2.1,())=(some (n,str,g,()),v8.1,Iq.2.1,v8.1,decide (v8.1>(0:Int)),Iq,Kq,Jq,Iq,Iq.1,Iq.2.1,Iq.1.1,Iq.1.2.1,Iq.1.2.2.1,v8.2.1,([]:List Int),([]:List (List Int)),([]:List Int),He.1.2.2.2.1,He.1.1,He.1.2.1,He.1.2.2.1,PUnit.unit)
abbrev Jy (v8:oo) (Hm:Nf) (He:Nf) (n:Int) (str:ByteArray) (g:List (List Int)) (Is:Kp) (Hx:Ic) (Fq:Ic) (Iq:Kp) (Kq:Ic) (Jq:Ic):Prop:= [(0,v8.2.1.length),(0,Hm.1.2.2.2.1.length)]= [(0,v8.2.1.length),(0,He.1.2.2.2.1.length)]/\(some (n,str,g,()),v8.1,Is.2.1,v8.1,decide (v8.1>(0:Int)),Is,Hx,Fq,Is,Is.1,Is.2.1,Is.1.1,Is.1.2.1,Is.1.2.2.1,v8.2.1,([]:List Int),([]:List (List Int)),([]:List Int),Hm.1.2.2.2.1,Hm.1.1,Hm.1.2.1,Hm.1.2.2.1,())=(some (n,str,g,()),v8.1,Iq.2.1,v8.1,decide (v8.1>(0:Int)),Iq,Kq,Jq,Iq,Iq.1,Iq.2.1,Iq.1.1,Iq.1.2.1,Iq.1.2.2.1,v8.2.1,([]:List Int),([]:List (List Int)),([]:List Int),He.1.2.2.2.1,He.1.1,He.1.2.1,He.1.2.2.1,PUnit.unit)
theorem Ajy (b:List Int) (i h n:Int) (str:ByteArray) (g:List (List Int)) (P:((List Int×Int×Int×List (List Int×List (List Int)×List Int×Unit)×Unit)×Unit)->Prop):(∃(y7:(List Int×Int×Int×Int×PUnit)×PUnit),Nb.fn (b,i,h,(3:Int),())=some y7/\0=0/\0=([]:List Int).length/\Dh (λ(v8:oo) (k9:oo->Prop)=>Br (decide (v8.1>(0:Int))) (∃(Kq:Ic),some (n,str,g,())=some Kq/\ ∃(Jq:Ic),some (n,str,g,())=some Jq/\ ∃(He:Nf),Xt.fn (v8.2.2.1,v8.2.2.2.1,v8.2.2.2.2.1,Jq.1,Jq.2.1,Jq.2.2.1,())=some He/\ ∃(Iq:Kp),Di.fn (Kq,List.take He.1.2.2.2.1.length (List.drop 0 He.1.2.2.2.1),())=some Iq/\(0=0/\v8.2.1.length=v8.2.1.length/\v8.2.1.length+(List.take 1 (List.drop 0 [(Iq.1.1,Iq.1.2.1,Iq.1.2.2.1,())])).length<=Ct/\0=0/\(v8.2.1++List.take 1 (List.drop 0 [(Iq.1.1,Iq.1.2.1,Iq.1.2.2.1,())])).length=(v8.2.1++List.take 1 (List.drop 0 [(Iq.1.1,Iq.1.2.1,Iq.1.2.2.1,())])).length/\k9 (IntKind.i64.wrap (v8.1-(1:Int)),v8.2.1++List.take 1 (List.drop 0 [(Iq.1.1,Iq.1.2.1,Iq.1.2.2.1,())]),He.1.1,He.1.2.1,He.1.2.2.1,()))/\(∃(Fq:Ic),some (n,str,g,())=some Fq/\(∃(Hx:Ic),some (n,str,g,())=some Hx/\(∃(Hm:Nf),Xt.fn (v8.2.2.1,v8.2.2.2.1,v8.2.2.2.2.1,Hx.1,Hx.2.1,Hx.2.2.1,())=some Hm/\(∃(Is:Kp),Di.fn (Fq,List.take Hm.1.2.2.2.1.length (List.drop 0 Hm.1.2.2.2.1),())=some Is/\((((Jx v8 Hm He n str g Is Fq Hx Iq Kq Jq))/\((Jx v8 Hm He n str g Is Fq Hx Iq Kq Jq))/\(Jx v8 Hm He n str g Is Fq Hx Iq Kq Jq))/\(((Jx v8 Hm He n str g Is Fq Hx Iq Kq Jq))/\(Jx v8 Hm He n str g Is Fq Hx Iq Kq Jq))/\(((Jx v8 Hm He n str g Is Fq Hx Iq Kq Jq))/\(Jx v8 Hm He n str g Is Fq Hx Iq Kq Jq))/\(Jx v8 Hm He n str g Is Fq Hx Iq Kq Jq))/\(((Jx v8 Hm He n str g Is Fq Hx Iq Kq Jq))/\(Jx v8 Hm He n str g Is Fq Hx Iq Kq Jq))/\(Jx v8 Hm He n str g Is Fq Hx Iq Kq Jq))/\ ∃(Is:Kp),Di.fn (Fq,List.take Hm.1.2.2.2.1.length (List.drop 0 Hm.1.2.2.2.1),())=some Is/\(((Jx v8 Hm He n str g Is Fq Hx Iq Kq Jq))/\(Jx v8 Hm He n str g Is Fq Hx Iq Kq Jq))/\(Jx v8 Hm He n str g Is Fq Hx Iq Kq Jq))/\ ∃(Hm:Nf),Xt.fn (v8.2.2.1,v8.2.2.2.1,v8.2.2.2.2.1,Hx.1,Hx.2.1,Hx.2.2.1,())=some Hm/\ ∃(Is:Kp),Di.fn (Fq,List.take Hm.1.2.2.2.1.length (List.drop 0 Hm.1.2.2.2.1),())=some Is/\(((Jx v8 Hm He n str g Is Fq Hx Iq Kq Jq))/\(Jx v8 Hm He n str g Is Fq Hx Iq Kq Jq))/\(Jx v8 Hm He n str g Is Fq Hx Iq Kq Jq))/\ ∃(Hx:Ic),some (n,str,g,())=some Hx/\ ∃(Hm:Nf),Xt.fn (v8.2.2.1,v8.2.2.2.1,v8.2.2.2.2.1,Hx.1,Hx.2.1,Hx.2.2.1,())=some Hm/\ ∃(Is:Kp),Di.fn (Fq,List.take Hm.1.2.2.2.1.length (List.drop 0 Hm.1.2.2.2.1),())=some Is/\(((Jx v8 Hm He n str g Is Fq Hx Iq Kq Jq))/\(Jx v8 Hm He n str g Is Fq Hx Iq Kq Jq))/\(Jx v8 Hm He n str g Is Fq Hx Iq Kq Jq))/\(∃(Fq:Ic),some (n,str,g,())=some Fq/\(∃(Hx:Ic),some (n,str,g,())=some Hx/\(∃(Hm:Nf),Xt.fn (v8.2.2.1,v8.2.2.2.1,v8.2.2.2.2.1,Fq.1,Fq.2.1,Fq.2.2.1,())=some Hm/\(∃(Is:Kp),Di.fn (Hx,List.take Hm.1.2.2.2.1.length (List.drop 0 Hm.1.2.2.2.1),())=some Is/\((((Jy v8 Hm He n str g Is Hx Fq Iq Kq Jq))/\((Jy v8 Hm He n str g Is Hx Fq Iq Kq Jq))/\(Jy v8 Hm He n str g Is Hx Fq Iq Kq Jq))/\(((Jy v8 Hm He n str g Is Hx Fq Iq Kq Jq))/\(Jy v8 Hm He n str g Is Hx Fq Iq Kq Jq))/\(((Jy v8 Hm He n str g Is Hx Fq Iq Kq Jq))/\(Jy v8 Hm He n str g Is Hx Fq Iq Kq Jq))/\(Jy v8 Hm He n str g Is Hx Fq Iq Kq Jq))/\(((Jy v8 Hm He n str g Is Hx Fq Iq Kq Jq))/\(Jy v8 Hm He n str g Is Hx Fq Iq Kq Jq))/\(Jy v8 Hm He n str g Is Hx Fq Iq Kq Jq))/\ ∃(Is:Kp),Di.fn (Hx,List.take Hm.1.2.2.2.1.length (List.drop 0 Hm.1.2.2.2.1),())=some Is/\(((Jy v8 Hm He n str g Is Hx Fq Iq Kq Jq))/\(Jy v8 Hm He n str g Is Hx Fq Iq Kq Jq))/\(Jy v8 Hm He n str g Is Hx Fq Iq Kq Jq))/\ ∃(Hm:Nf),Xt.fn (v8.2.2.1,v8.2.2.2.1,v8.2.2.2.2.1,Fq.1,Fq.2.1,Fq.2.2.1,())=some Hm/\ ∃(Is:Kp),Di.fn (Hx,List.take Hm.1.2.2.2.1.length (List.drop 0 Hm.1.2.2.2.1),())=some Is/\(((Jy v8 Hm He n str g Is Hx Fq Iq Kq Jq))/\(Jy v8 Hm He n str g Is Hx Fq Iq Kq Jq))/\(Jy v8 Hm He n str g Is Hx Fq Iq Kq Jq))/\(∃(Hx:Nf),Xt.fn (v8.2.2.1,v8.2.2.2.1,v8.2.2.2.2.1,Fq.1,Fq.2.1,Fq.2.2.1,())=some Hx/\(∃(Hm:Ic),some (n,str,g,())=some Hm/\(∃(Is:Kp),Di.fn (Hm,List.take Hx.1.2.2.2.1.length (List.drop 0 Hx.1.2.2.2.1),())=some Is/\((((Jw v8 Hx He n str g Is Hm Fq Iq Kq Jq))/\((Jw v8 Hx He n str g Is Hm Fq Iq Kq Jq))/\(Jw v8 Hx He n str g Is Hm Fq Iq Kq Jq))/\(((Jw v8 Hx He n str g Is Hm Fq Iq Kq Jq))/\(Jw v8 Hx He n str g Is Hm Fq Iq Kq Jq))/\(((Jw v8 Hx He n str g Is Hm Fq Iq Kq Jq))/\(Jw v8 Hx He n str g Is Hm Fq Iq Kq Jq))/\(Jw v8 Hx He n str g Is Hm Fq Iq Kq Jq))/\(((Jw v8 Hx He n str g Is Hm Fq Iq Kq Jq))/\(Jw v8 Hx He n str g Is Hm Fq Iq Kq Jq))/\(Jw v8 Hx He n str g Is Hm Fq Iq Kq Jq))/\ ∃(Is:Kp),Di.fn (Hm,List.take Hx.1.2.2.2.1.length (List.drop 0 Hx.1.2.2.2.1),())=some Is/\(((Jw v8 Hx He n str g Is Hm Fq Iq Kq Jq))/\(Jw v8 Hx He n str g Is Hm Fq Iq Kq Jq))/\(Jw v8 Hx He n str g Is Hm Fq Iq Kq Jq))/\ ∃(Hm:Ic),some (n,str,g,())=some Hm/\ ∃(Is:Kp),Di.fn (Hm,List.take Hx.1.2.2.2.1.length (List.drop 0 Hx.1.2.2.2.1),())=some Is/\(((Jw v8 Hx He n str g Is Hm Fq Iq Kq Jq))/\(Jw v8 Hx He n str g Is Hm Fq Iq Kq Jq))/\(Jw v8 Hx He n str g Is Hm Fq Iq Kq Jq))/\(∃(Hx:Ic),some (n,str,g,())=some Hx/\ ∃(Hm:Nf),Xt.fn (v8.2.2.1,v8.2.2.2.1,v8.2.2.2.2.1,Fq.1,Fq.2.1,Fq.2.2.1,())=some Hm/\ ∃(Is:Kp),Di.fn (Hx,List.take Hm.1.2.2.2.1.length (List.drop 0 Hm.1.2.2.2.1),())=some Is/\(((Jy v8 Hm He n str g Is Hx Fq Iq Kq Jq))/\(Jy v8 Hm He n str g Is Hx Fq Iq Kq Jq))/\(Jy v8 Hm He n str g Is Hx Fq Iq Kq Jq))/\ ∃(Hx:Nf),Xt.fn (v8.2.2.1,v8.2.2.2.1,v8.2.2.2.2.1,Fq.1,Fq.2.1,Fq.2.2.1,())=some Hx/\ ∃(Hm:Ic),some (n,str,g,())=some Hm/\ ∃(Is:Kp),Di.fn (Hm,List.take Hx.1.2.2.2.1.length (List.drop 0 Hx.1.2.2.2.1),())=some Is/\(((Jw v8 Hx He n str g Is Hm Fq Iq Kq Jq))/\(Jw v8 Hx He n str g Is Hm Fq Iq Kq Jq))/\(Jw v8 Hx He n str g Is Hm Fq Iq Kq Jq))/\(∃(Fq:Ic),some (n,str,g,())=some Fq/\ ∃(Hx:Ic),some (n,str,g,())=some Hx/\ ∃(Hm:Nf),Xt.fn (v8.2.2.1,v8.2.2.2.1,v8.2.2.2.2.1,Hx.1,Hx.2.1,Hx.2.2.1,())=some Hm/\ ∃(Is:Kp),Di.fn (Fq,List.take Hm.1.2.2.2.1.length (List.drop 0 Hm.1.2.2.2.1),())=some Is/\(((Jx v8 Hm He n str g Is Fq Hx Iq Kq Jq))/\(Jx v8 Hm He n str g Is Fq Hx Iq Kq Jq))/\(Jx v8 Hm He n str g Is Fq Hx Iq Kq Jq))/\ ∃(Fq:Ic),some (n,str,g,())=some Fq/\(∃(Hx:Ic),some (n,str,g,())=some Hx/\ ∃(Hm:Nf),Xt.fn (v8.2.2.1,v8.2.2.2.1,v8.2.2.2.2.1,Fq.1,Fq.2.1,Fq.2.2.1,())=some Hm/\ ∃(Is:Kp),Di.fn (Hx,List.take Hm.1.2.2.2.1.length (List.drop 0 Hm.1.2.2.2.1),())=some Is/\(((Jy v8 Hm He n str g Is Hx Fq Iq Kq Jq))/\(Jy v8 Hm He n str g Is Hx Fq Iq Kq Jq))/\(Jy v8 Hm He n str g Is Hx Fq Iq Kq Jq))/\ ∃(Hx:Nf),Xt.fn (v8.2.2.1,v8.2.2.2.1,v8.2.2.2.2.1,Fq.1,Fq.2.1,Fq.2.2.1,())=some Hx/\ ∃(Hm:Ic),some (n,str,g,())=some Hm/\ ∃(Is:Kp),Di.fn (Hm,List.take Hx.1.2.2.2.1.length (List.drop 0 Hx.1.2.2.2.1),())=some Is/\(((Jw v8 Hx He n str g Is Hm Fq Iq Kq Jq))/\(Jw v8 Hx He n str g Is Hm Fq Iq Kq Jq))/\(Jw v8 Hx He n str g Is Hm Fq Iq Kq Jq)) (P ((v8.2.2.1,v8.2.2.2.1,v8.2.2.2.2.1,List.take v8.2.1.length (List.drop 0 v8.2.1),()),()))) (y7.1.2.2.2.1,[],y7.1.1,y7.1.2.1,y7.1.2.2.1,PUnit.unit))=fnMW (BD [dQ+3,Pf,Od+9,Od+27]) (look [(17,Nb),(32,Xt),(58,Di)]) pJ Try.f55 (b,i,h,n,str,g,()) P:=by kernel_rfl
structure RM (n:Int) (o:List Int):Prop where
 asc:o.Pairwise (· < ·)
 row: ∀y∈o,0<=y/\y<n
theorem RM.more {j:Int} {o:List Int} (h:RM j o):RM (j+1) o:=⟨h.asc,λy hy=>by have:=h.row y hy;omega⟩
theorem RM.add {j:Int} {o:List Int} (h:RM j o) (h0:0<=j):RM (j+1) (o++ [j]):=by
 refine ⟨List.pairwise_append.2 ⟨h.asc,by simp,λa ha b hb=>?_⟩,λy hy=>?_⟩
 ·rw [Ad.1 hb];exact (h.row a ha).2
 ·rcases Ax.1 hy with h1|h1
  ·have:=h.row y h1;omega
  ·rw [Ad.1 h1];omega
theorem RM.le {j n:Int} {o:List Int} (h:RM j o) (hj:j<=n):RM n o:=⟨h.asc,λy hy=>by have:=h.row y hy;omega⟩
theorem Aba {b:List Int} {n:Int} : ∀(f:Nat) (j i h:Int) (o:List Int),eJ b i->0<=j->j<=n->o.length<=3->RM j o->
  eJ b (WI b n f j i h o).1/\(WI b n f j i h o).2.2.length<=3/\RM n (WI b n f j i h o).2.2
 |0,j,i,h,o,hd,_,hj,ho,ha=>⟨hd,ho,ha.le hj⟩
 |f+1,j,i,h,o,hd,h0,hj,ho,ha=>by
  rw [WI]
  split
  ·rename_i hc
   refine Aba f (j+1) _ _ _ hd.next (by omega) (by omega) ?_ ?_
   ·split
    ·rw [Au,Cd];omega
    ·exact ho
   ·split
    ·exact ha.add h0
    ·exact ha.more
  ·exact ⟨hd,ho,ha.le hj⟩
theorem Abq {b:List Int} {i n:Int} (hd:eJ b i) (h:Int) (hn:1<=n):eJ b (Ni b i h n).1/\(Ni b i h n).2.2.length<=3/\Pq n (Ni b i h n).2.2=true:=by
 have Ahy:RM 0 ([]:List Int):=⟨List.Pairwise.nil,λy hy=>by cases hy⟩
 obtain ⟨h1,h2,h3⟩:=Aba (b:=b) (n:=n) n.toNat 0 i h [] hd (by omega) (by omega) (by simp) Ahy
 unfold Ni
 generalize WI b n n.toNat 0 i h []=r at h1 h2 h3
 have fin: ∀o:List Int,RM n o->0<o.length->Pq n o=true:= λo ho hl=>Hy.2 ⟨hl,λj hj _=>by
  have:=ho.row _ (Al hj)
  exact ⟨this.1,by omega,λh0=>Dp.1 ho.asc (j-1) j (by omega) hj (by omega)⟩⟩
 unfold XO
 split
 ·rename_i hz
  have hr:=kN h1 hn r.2.1
  have Am3:r.2.2= []:=List.length_eq_zero_iff.1 hz
  dsimp only
  rw [Am3]
  refine ⟨h1.next,by show 1<=3;decide,fin _ ⟨by simp,λy hy=>?_⟩ (by simp)⟩
  rw [Ad.1 hy]
  exact hr
 ·rename_i hz
  exact ⟨h1,h2,fin _ h3 (by omega)⟩
theorem Aj9 (b:List Int) (i h n:Int) (str:ByteArray) (g:List (List Int)) (hd:eJ b i/\Hv (n,str,g,())/\Cy (n,str,g,())=true):fnMW (BD [dQ+3,Pf,Od+9,Od+27]) (look [(17,Nb),(32,Xt),(58,Di)]) pJ Try.f55 (b,i,h,n,str,g,()) (λ(z:(List Int×Int×Int×List (List Int×List (List Int)×List Int×Unit)×Unit)×Unit)=>z=((b,(Yo b i h (n,str,g,())).1,(Yo b i h (n,str,g,())).2.1,(Yo b i h (n,str,g,())).2.2,()),())):=by
 obtain ⟨hd,hp,hv⟩:=hd
 have hV:=valid hv
 have hn:1<=n/\n<=20:=hV.n
 have hr:=kN hd (show (1:Int)<=3 by decide) h
 obtain ⟨R,hR⟩: ∃R,Yo b i h (n,str,g,())=R:=⟨_,rfl⟩
 rw [hR]
 unfold Yo at hR
 refine Eq.mp (Ajy b i h n str g _) ⟨_,Ac ⟨hd,by show (1:Int)<=3;decide⟩,rfl,rfl,?_⟩
 refine Dh.mk (λy=> ∃(f:Nat) (i h:Int) (o:List TT),y=((f:Int),o,b,i,h,())/\eJ b i/\f+o.length<=2/\wD b (n,str,g,()) f i h o=R) (λy=>y.1.toNat)
  ⟨(dR b i h 3).toNat,dI b i,hN h,[],by rw [Int.toNat_of_nonneg hr.1],hd.next,by simp only [Fg];omega,hR⟩ ?_
 rintro y ⟨f,i,h,o,rfl,hd,hl,hv⟩
 dsimp only
 refine Br.dec (λhf=>?_) λhf=>?_
 ·obtain ⟨f,rfl⟩: ∃f',f=f'+1:=⟨f-1,by omega⟩
  obtain ⟨t1,t2,t3⟩:=Abq hd h hn.1
  have hT:Xt.fn (b,i,h,n,str,g,())=some ((b,(Ni b i h n).1,(Ni b i h n).2.1,(Ni b i h n).2.2,()),()):=Ac ⟨hd,hn⟩
  have hB:Di.fn ((n,str,g,()),List.take (Ni b i h n).2.2.length (List.drop 0 (Ni b i h n).2.2),())=some (Em (n,str,g,()) (Ni b i h n).2.2,Fm (n,str,g,()) (Ni b i h n).2.2,()):=by
   rw [Cq]
   exact Ac ⟨hp,by show (Ni b i h n).2.2.length<=4294967296;omega⟩
  rw [wD] at hv
  refine ⟨_,rfl,_,rfl,_,hT,_,hB,⟨rfl,rfl,by show o.length+1<=4294967296;omega,rfl,rfl,?_⟩,?_⟩
  ·rw [Dl (by omega) (by omega)]
   exact ⟨⟨f,_,_,_,by rw [show ((f+1:Nat):Int)-1=(f:Int) by omega];rfl,t1,by rw [Au];show f+(o.length+1)<=2;omega,hv⟩,by show ((((f+1:Nat):Int)-1).toNat)<(((f+1:Nat):Int)).toNat;omega⟩
  ·repeat' (first|exact ⟨rfl,rfl⟩|exact rfl|refine ⟨_,hT,?_⟩|refine ⟨_,hB,?_⟩|refine ⟨_,rfl,?_⟩|refine ⟨?_,?_⟩)
 ·obtain rfl:f=0:=by omega
  rw [wD] at hv
  rw [<-hv]
  simp only [Cq]
theorem NV:Cn Try.prog 55 pJ:=
 Cn.eM (BE [dQ+3,Pf,Od+9,Od+27]) (Ft js (Ft VC (Bd gF Bw))) mixed Try.func55 (by kernel_rfl) (by kernel_rfl) λx h=>Aj9 x.1 x.2.1 x.2.2.1 x.2.2.2.1 x.2.2.2.2.1 x.2.2.2.2.2.1 h
theorem hZ.whole {p:PP} (hp:hZ p):Gz p=true:=IY hp.valid hp.hi
theorem VO {p:PP} (hp:hZ p) {b:List Int} {i:Int} (hd:eJ b i) (h:Int):eJ b (Ni b i h p.1).1/\short (Ni b i h p.1).2.2/\Fm p (Ni b i h p.1).2.2=true/\Gf p (Em p (Ni b i h p.1).2.2)=true:=by
 have QD:=hp.lo
 obtain ⟨h1,h2,h3⟩:=Abq hd h (n:=p.1) (by omega)
 have h4:=UC hp.valid hp.hi h3 h2
 exact ⟨h1,by unfold short;omega,h4,ik h4⟩
theorem RK {p:PP} (hp:hZ p) {b:List Int} : ∀(k:Nat) (i h:Int) (o:List TT),eJ b i->(∀t∈o,Gf p t=true/\aw t)->
  eJ b (wD b p k i h o).1/\(wD b p k i h o).2.2.length=k+o.length/\ ∀t∈(wD b p k i h o).2.2,Gf p t=true/\aw t
 |0,i,h,o,hd,ho=>⟨hd,by rw [wD];exact (Bo _).symm,ho⟩
 |k+1,i,h,o,hd,ho=>by
  obtain ⟨t1,_,_,t3⟩:=VO hp hd h
  obtain ⟨h1,h2,h3⟩:=RK hp k (Ni b i h p.1).1 (Ni b i h p.1).2.1 (o++ [Em p (Ni b i h p.1).2.2]) t1 (λt ht=>by
   rcases Ax.1 ht with h4|h4
   ·exact ho t h4
   ·rw [Ad.1 h4];exact ⟨t3,ij⟩)
  rw [Au,Cd] at h2
  rw [wD]
  exact ⟨h1,by omega,h3⟩
structure lJ (p:PP) (ts:List TT):Prop where
 set:Gr p ts=true
 oV:ts.length<=2
 short:Wx ts
 valid: ∀t∈ts,Gf p t=true
theorem Aeu {p:PP} (hp:hZ p) {b:List Int} {i:Int} (hd:eJ b i) (h:Int):eJ b (Yo b i h p).1/\lJ p (Yo b i h p).2.2:=by
 have hr:=kN hd (show (1:Int)<=3 by decide) h
 obtain ⟨h1,h2,h3⟩:=RK hp (dR b i h 3).toNat (dI b i) (hN h) [] hd.next (λt ht=>by cases ht)
 have h2:(Yo b i h p).2.2.length=(dR b i h 3).toNat+0:=h2
 have h3: ∀t∈(Yo b i h p).2.2,Gf p t=true/\aw t:=h3
 refine ⟨h1,?_,by omega,⟨by omega,λt ht=>(h3 t ht).2⟩,λt ht=>(h3 t ht).1⟩
 exact Ce.2 ⟨Ce.2 ⟨hp.valid,Eo (by omega)⟩,Ba.2 λt ht=>(h3 t ht).1⟩
theorem lJ.add {p:PP} (hp:hZ p) {ts:List TT} (h:lJ p ts) {t:TT} (ht:Gf p t=true):Gr p (ts++ [t])=true:=by
 have:=h.oV
 refine Ce.2 ⟨Ce.2 ⟨hp.valid,Eo (by rw [Au,Cd];omega)⟩,Ba.2 λt' vu=>?_⟩
 rcases Ax.1 vu with h4|h4
 ·exact h.valid t' h4
 ·rw [Ad.1 h4];exact ht
section
variable {p:PP} {ts:List TT} {s:List Int}
theorem LR (hp:hZ p) (ht:Gr p ts=true) (hs:s∈Be p):0<=Sb ts s/\Sb ts s<=3000:=QQ (Vq ht).2.1 (cZ hp.whole ht hs)
end
section
variable {α β:Type}
theorem sum_add (f g:α->Nat): ∀L:List α,(L.map λx=>f x+g x).sum=(L.map f).sum+(L.map g).sum
 | []=>rfl
 |x::L=>by
  simp only [Bm,Sn]
  rw [sum_add f g L]
  omega
theorem HS: ∀L:List α,(L.map λ_=>(0:Nat)).sum=0
 | []=>rfl
 |_::L=>by
  simp only [Bm,Sn]
  rw [HS L]
theorem yh {f:α->Nat} {c:Nat} : ∀L:List α,(∀x∈L,f x=c)->(L.map f).sum=L.length*c
 | [],_=>by simp
 |x::L,h=>by
  simp only [Bm,Sn,Av]
  rw [h x (by simp),yh L λy hy=>h y (Aq _ hy),Nat.succ_mul]
  omega
theorem sK (P:α->Bool) (x:α) (L:List α):(x::L).countP P=(if P x=true then 1 else 0)+L.countP P:=by
 rw [eK]
 omega
theorem qa (R:α->β->Bool): ∀(L:List α) (M:List β),(L.map λx=>M.countP (R x)).sum=(M.map λy=>L.countP λx=>R x y).sum
 | [],M=>by
  simp only [List.map_nil,List.sum_nil,List.countP_nil]
  exact (HS M).symm
 |x::L,M=>by
  simp only [Bm,Sn]
  rw [qa R L M,show (λy=>(x::L).countP λz=>R z y)= λy=>(if R x y=true then 1 else 0)+L.countP λz=>R z y from funext λy=>sK _ _ _,
   sum_add,RH (R:=R x) M]
where RH {R:β->Bool} : ∀M:List β,(M.map λy=>if R y=true then 1 else 0).sum=M.countP R
 | []=>rfl
 |y::M=>by
  rw [Bm,Sn,RH M,sK]
theorem SC {L:List α} {P:α->Bool} (hn:L.Nodup) {a:α} (ha:a∈L) (h: ∀x∈L,P x=true↔x=a):L.countP P=1:=by
 classical
 rw [List.countP_congr (q:= λx=>decide (x=a)) λx hx=>by rw [h x hx];simp]
 have h1:L.countP (λx=>decide (x=a))=L.count a:=List.countP_congr λx _=>by simp
 rw [h1]
 have h2:=(List.nodup_iff_count.1 hn) a
 have h3:=List.count_pos_iff.2 ha
 omega
end
section
variable {p:PP}
theorem uP (hv:Cy p=true):(Be p).Nodup:=(a8 hv).nodup
end
theorem sub_eq {α:Type} [DecidableEq α] {l1 l2:List α} (hn:l1.Nodup) (hs: ∀x∈l1,x∈l2) (hl:l2.length<=l1.length): ∀x∈l2,x∈l1:= λx hx=>by
 refine Bj λh=>?_
 have:=Uc (l1:=x::l1) (l2:=l2) (Bx.2 ⟨h,hn⟩) λy hy=>by
  rcases Bc.1 hy with rfl|hy
  ·exact hx
  ·exact hs y hy
 rw [Av] at this
 omega
theorem QU: ∀(k:Nat) (R x:List Int),R.length=k->x.Perm R->x∈lex k R
 |0,R,x,hl,h=>by
  have h1:=h.length_eq
  have:x= []:=List.length_eq_zero_iff.1 (by omega)
  rw [this,lex]
  simp
 |k+1,R,[],hl,h=>by have:=h.length_eq;simp at this;omega
 |k+1,R,v::y,hl,h=>by
  have hv:v∈R:=h.mem_iff.1 (by simp)
  have h1:y.Perm (R.erase v):=(List.perm_cons v).1 (h.trans (List.perm_cons_erase hv))
  rw [lex]
  exact Ga.2 ⟨v,hv,Ay.2 ⟨y,QU k _ _ (by rw [Xj hv];omega) h1,rfl⟩⟩
theorem GW {n:Nat} {x:List Int} (h:Pm n x):x.Nodup:=by
 refine Dp.2 λi j hi hj jV e=>?_
 have h1:=h.1
 have:=h.inj (i:=i) (j:=j) (by omega) (by omega) (by unfold ap;rw [Ig hi,Ig hj,e])
 omega
theorem Aai {n:Nat} {x:List Int} (h:Pm n x) {v:Int} (hv:v∈x):0<=v/\v<n:=by
 obtain ⟨i,hi,rfl⟩:=Bf.1 hv
 have h1:=h.Zk (i:=i) (by have:=h.1;omega)
 rw [Ig hi] at h1
 omega
theorem Aee {n:Nat} {x:List Int} (h:Pm n x):x.Perm (upto n):=by
 refine (List.perm_ext_iff_of_nodup (GW h) (mB n)).2 λv=>⟨λhv=>?_,λhv=>?_⟩
 ·exact Ms.2 (Aai h hv)
 ·exact sub_eq (GW h) (λy hy=>Ms.2 (Aai h hy)) (by rw [Kb,h.1];exact Ap _) v hv
theorem Ajb {n:Nat} {x:List Int} (h:Pm n x):x∈lex n (upto n):=QU _ _ _ (Kb n) (Aee h)
theorem Ajh {p:PP} (hv:Cy p=true) (h5:p.1<=5):(Be p).length<=120:=by
 have h1:=Uc (l2:=lex p.1.toNat (upto p.1.toNat)) (uP hv) λx hx=>Ajb (yf hv hx)
 rw [QP _ _ (Kb _)] at h1
 have h2: ∀k,k<=5->PN k<=120:=by decide
 have:=h2 p.1.toNat (by omega)
 omega
section
variable {n:Nat} {x y q r:List Int}
end
section
variable {p:PP}
end
def yK (b:List Int):Prop:=b.length<=1048576/\ ∀y∈b,0<=y/\y<256
noncomputable abbrev NI:Spec:=Ib (.pair tB .unit) .bool false true (λx=>yK x.1) (λ_=>true)
theorem Aq5 {code:List Int} (h:yK code) (hb: ¬(code.length:Int)>4096):eJ code 0:=⟨by omega,h.2,Qj _,by omega⟩
noncomputable abbrev bk:Spec:=Ib (.pair .bool .unit) tI false true (λ_=>True) (λx=>if x.1=true then 1 else 0)
def gS (T:Cc) (n:Nat):List Int:=(List.range n).map λi=>((Lb (T.getD i [])).length:Int)
noncomputable abbrev Yx:Spec:=Ib (.pair (.ptr kv) .unit) tL false true (λx=> ∃N:Nat,(1<=N/\N<=20)/\x.1.1=N/\V N N 0 (x.1.2.2.1,x.1.2.1)) (λx=>gS x.1.2.1 x.1.1.toNat)
noncomputable abbrev Ys:Spec:=Ib (.pair (.ptr kv) .unit) tI false true (λx=> ∃N:Nat,(1<=N/\N<=20)/\x.1.1=N/\V N N 0 (x.1.2.2.1,x.1.2.1)) (λx=>(Uv x.1.2.1 x.1.1.toNat:Int))
noncomputable def tQ (n:Int) (g:List (List Int)):Int:=if Qo n g=true then (Uv (bE n g).2 n.toNat:Int) else 0
noncomputable abbrev pG:Spec:=Ib (.pair tI (.pair mG .unit)) tI false true (λx=>Nc x.2.1) (λx=>tQ x.1 x.2.1)
noncomputable def FG (p:PP):Int:=if Cy p=true then tQ p.1 p.2.2.1 else 0
noncomputable abbrev uw:Spec:=Ib (.pair Ma .unit) tI false true (λx=>Hv x.1) (λx=>FG x.1)
theorem VP (b:Bool) (P:Int->Prop):(Br b (P (1:Int)) (P (0:Int)))=fnW Hf (look []) bk Try.f217 (b,()) P:=by kernel_rfl
theorem OP (c:Int×List (List (Option (List Int)))×List (List (Option (List Int)))×Unit) (P:List Int->Prop):(0=0/\0=([]:List Int).length/\Dh (λ(v2:Int×List Int×PUnit) (k3:Int×List Int×PUnit->Prop)=>Br (decide (v2.1<c.1)) (0=0/\v2.2.1.length=v2.2.1.length/\Dh (λ(v4:Int×Int×List Int×PUnit) (k5:Int×Int×List Int×PUnit->Prop)=>Br (decide (v4.2.1<c.1)) (∃(y6:List (Option (List Int))),idx c.2.1 v2.1=some y6/\ ∃(y7:Option (List Int)),idx y6 v4.2.1=some y7/\ ∃(y8:Int),bk.fn (decide ((↑(y7.getD []).length:Int)>(0:Int)),())=some y8/\0=0/\v4.2.2.1.length=v4.2.2.1.length/\k5 (IntKind.i64.wrap (v4.1+y8),IntKind.i64.wrap (v4.2.1+(1:Int)),v4.2.2.1,())) (0=0/\v4.2.2.1.length=v4.2.2.1.length/\v4.2.2.1.length+(List.take 1 (List.drop 0 [v4.1])).length<=Ct/\0=0/\(v4.2.2.1++List.take 1 (List.drop 0 [v4.1])).length=(v4.2.2.1++List.take 1 (List.drop 0 [v4.1])).length/\k3 (IntKind.i64.wrap (v2.1+(1:Int)),v4.2.2.1++List.take 1 (List.drop 0 [v4.1]),()))) ((0:Int),(0:Int),v2.2.1,PUnit.unit)) (P (List.take v2.2.1.length (List.drop 0 v2.2.1)))) ((0:Int),[],PUnit.unit))=fnW Xp (look [(217,bk)]) Yx Try.f204 (c,()) P:=by kernel_rfl
theorem OJ (c:Int×List (List (Option (List Int)))×List (List (Option (List Int)))×Unit) (P:Int->Prop):(∃(y2:List Int),Yx.fn (c,())=some y2/\Dh (λ(v3:Int×Int×PUnit) (k4:Int×Int×PUnit->Prop)=>Br (decide (v3.2.1<(↑y2.length:Int))) (∃(y5:Int),idx y2 v3.2.1=some y5/\k4 (IntKind.i64.wrap (v3.1*y5),IntKind.i64.wrap (v3.2.1+(1:Int)),())) (P v3.1)) ((1:Int),(0:Int),PUnit.unit))=fnW Xp (look [(204,Yx)]) Ys Try.f172 (c,()) P:=by kernel_rfl
theorem Ajs (n:Int) (g:List (List Int)) (P:Int->Prop):(∃(y3:Bool),Mu.fn (n,g,())=some y3/\Br (!y3) (P (0:Int)) (∃(y4:(Int×List (List (Option (List Int)))×List (List (Option (List Int)))×PUnit)×PUnit),Qf.fn (n,g,())=some y4/\ ∃(y5:Int),Ys.fn ((y4.1.1,List.take y4.1.2.1.length (List.drop 0 y4.1.2.1),List.take y4.1.2.2.1.length (List.drop 0 y4.1.2.2.1),()),())=some y5/\P y5))=fnW Hf (look [(115,Mu),(171,Qf),(172,Ys)]) pG Try.f118 (n,g,()) P:=by kernel_rfl
theorem Ao8 (p:Int×ByteArray×List (List Int)×Unit) (P:Int->Prop):(∃(y2:Bool),Jd.fn ((p.1,p.2.1,p.2.2.1,()),())=some y2/\Br (!y2) (P (0:Int)) (∃(y3:Int),pG.fn (p.1,p.2.2.1,())=some y3/\P y3))=fnW Hf (look [(47,Jd),(118,pG)]) uw Try.f51 (p,()) P:=by kernel_rfl
theorem TQ (b:Bool) (_:True):fnW Hf (look []) bk Try.f217 (b,()) (λ(z:Int)=>z=if b=true then 1 else 0):=by
 refine Eq.mp (VP b _) (Br.of (λh=>?_) λh=>?_)
 ·rw [Ac h]
 ·rw [Ak (by rw [h];decide)]
theorem wo:Sound Try.prog 217 bk:=
 Sound.Ib Ew Bw mixed Try.func217 (by kernel_rfl) (by kernel_rfl) λx h=>TQ x.1 h
def qD (row:Row) (j:Nat):List Int:=(upto j).filter λy=>(row.getD y.toNat none).isSome
theorem MH (row:Row) (j:Nat):((qD row (j+1)).length:Int)=(qD row j).length+if (row.getD j none).isSome=true then 1 else 0:=by
 unfold qD
 rw [Ze,List.filter_append,Au]
 by_cases h:(row.getD j none).isSome=true
 ·rw [Ac h,List.filter_cons_of_pos (by rw [Aj];exact h)]
  simp
 ·rw [Ak h,List.filter_cons_of_neg (by rw [Aj];exact h)]
  simp
theorem GB (row:Row) (j:Nat):(qD row j).length<=j:=by
 have:=List.length_filter_le (λy:Int=>(row.getD y.toNat none).isSome) (upto j)
 rw [Kb] at this
 exact this
theorem TO (T:Cc) (j:Nat):gS T (j+1)=gS T j++ [((Lb (T.getD j [])).length:Int)]:=by
 unfold gS
 rw [bb,Il]
 rfl
theorem MO (c:Int×List (List (Option (List Int)))×List (List (Option (List Int)))×Unit) (h: ∃N:Nat,(1<=N/\N<=20)/\c.1=N/\V N N 0 (c.2.2.1,c.2.1)):
  fnW Xp (look [(217,bk)]) Yx Try.f204 (c,()) (λ(z:List Int)=>z=gS c.2.1 c.1.toNat):=by
 obtain ⟨N,⟨h1,h2⟩,hN,v⟩:=h
 obtain ⟨n,T,G,⟨⟩⟩:=c
 dsimp only at hN v⊢
 subst hN
 refine Eq.mp (OP ((N:Int),T,G,()) _) ⟨rfl,rfl,?_⟩
 obtain ⟨v1,v2,v3,v4⟩:=v
 dsimp only at v1 v2⊢
 rw [Aj]
 refine Bs N (λv=>v.1) (λj v=>v.2.1=gS T j) rfl rfl ?_
 rintro j ⟨i,out,⟨⟩⟩ K hj hi ho hK
 dsimp only at hi ho⊢
 subst hi ho
 have hlen: ∀j,(gS T j).length=j:= λj=>by unfold gS;rw [Bt,Nl]
 refine Br.dec (λhl=>?_) λhl=>?_
 ·have hl:j<N:=by omega
  have hT:j<T.length:=by omega
  have Kf:=dP N 0 v3 j (by omega) (by omega)
  have JF:=Kf.rl
  dsimp only at JF
  rw [qh hT] at JF
  refine ⟨rfl,rfl,?_⟩
  refine Bs N (λv=>v.2.1) (λy v=>v.1=((qD T[j] y).length:Int)/\v.2.2.1=gS T j) rfl ⟨rfl,rfl⟩ ?_
  rintro y ⟨size,y',out,⟨⟩⟩ K2 hy hy' ⟨hs,ho⟩ hK2
  dsimp only at hy' hs ho⊢
  subst hy' hs ho
  have hle:=GB T[j] y
  refine Br.dec (λCA=>?_) λCA=>?_
  ·have hyl:y<T[j].length:=by omega
   have hb:decide ((((T[j])[y].getD []).length:Int)>0)=(T[j].getD y none).isSome:=by
    have eg:T[j].getD y none=T[j][y]:=by rw [Ah,Ab hyl];rfl
    rw [eg]
    cases e:(T[j])[y] with
    |none=>rfl
    |some t=>
     obtain ⟨t1,_⟩:=Kf.rt y t (by show (T.getD j []).getD y none=some t;rw [qh hT,eg,e])
     exact Eo (by show (((some t).getD []).length:Int)>0;rw [Bp,t1.1];omega)
   refine ⟨_,Ck hT,_,Ck hyl,_,Ac trivial,rfl,rfl,?_⟩
   have e2:=MH T[j] y
   have Awp:=GB T[j] (y+1)
   show K2 (IntKind.i64.wrap (((qD T[j] y).length:Int)+if decide ((((T[j])[y].getD []).length:Int)>0)=true then 1 else 0),_,_,())
   rw [hb,<-e2,Dl (by omega) (by omega),Bk (by omega)]
   exact hK2 (by omega) _ rfl ⟨rfl,rfl⟩
  ·have:y=N:=by omega
   subst this
   refine ⟨rfl,rfl,by rw [hlen];show j+1<=4294967296;omega,rfl,rfl,?_⟩
   rw [Bk (by omega)]
   refine hK (by omega) _ rfl ?_
   rw [TO,qh hT]
   show gS T j++ [((qD T[j] y).length:Int)]=_
   unfold qD Lb
   rw [JF]
 ·have:j=N:=by omega
  subst this
  rw [Dj,Aw]
theorem uJ:Sound Try.prog 204 Yx:=
 Sound.Ib mA (Bd wo Bw) mixed Try.func204 (by kernel_rfl) (by kernel_rfl) λx h=>MO x.1 h
theorem Aa4 (T:Cc) {n j:Nat} (h:j<n):idx (gS T n) (j:Int)=some ((Lb (T.getD j [])).length:Int):=by
 have hl:j<(gS T n).length:=by unfold gS;rw [Bt,Nl];exact h
 rw [Ck hl]
 unfold gS
 simp
theorem MJ (c:Int×List (List (Option (List Int)))×List (List (Option (List Int)))×Unit) (h: ∃N:Nat,(1<=N/\N<=20)/\c.1=N/\V N N 0 (c.2.2.1,c.2.1)):
  fnW Xp (look [(204,Yx)]) Ys Try.f172 (c,()) (λ(z:Int)=>z=(Uv c.2.1 c.1.toNat:Int)):=by
 have h':=h
 obtain ⟨N,⟨h1,h2⟩,hN,v⟩:=h
 obtain ⟨n,T,G,⟨⟩⟩:=c
 dsimp only at hN v⊢
 subst hN
 rw [Aj]
 refine Eq.mp (OJ ((N:Int),T,G,()) _) ⟨gS T N,(Ac h').trans (Gc some (Gc (gS T) (Aj N))),?_⟩
 obtain ⟨v1,v2,v3,v4⟩:=v
 dsimp only at v1 v2⊢
 have hlen:(gS T N).length=N:=by unfold gS;rw [Bt,Nl]
 refine Bs N (λv=>v.2.1) (λj v=>v.1=(Uv T j:Int)) rfl rfl ?_
 rintro j ⟨o,i,⟨⟩⟩ K hj hi ho hK
 dsimp only at hi ho⊢
 subst hi ho
 rw [hlen]
 refine Br.dec (λhl=>?_) λhl=>?_
 ·have hl:j<N:=by omega
  refine ⟨_,Aa4 T hl,?_⟩
  have hb:=xF h2 v3 (j:=j+1) (by omega)
  have e:(Uv T j:Int)*((Lb (T.getD j [])).length:Int)=(Uv T (j+1):Int):=by rw [Uv];push_cast;rfl
  dsimp only at hb
  rw [Bk (by omega),e,Dl (by omega) (by omega)]
  exact hK hl _ rfl rfl
 ·have:j=N:=by omega
  subst this
  rfl
theorem uE:Sound Try.prog 172 Ys:=
 Sound.Ib mA (Bd uJ Bw) mixed Try.func172 (by kernel_rfl) (by kernel_rfl) λx h=>MJ x.1 h
theorem Aj3 (n:Int) (g:List (List Int)) (h:Nc g):fnW Hf (look [(115,Mu),(171,Qf),(172,Ys)]) pG Try.f118 (n,g,()) (λ(z:Int)=>z=tQ n g):=by
 refine Eq.mp (Ajs n g _) ⟨_,Ac h,?_⟩
 unfold tQ
 show Br (!Qo n g) _ _
 refine Br.of (λhb=>by rw [Ak (Hl hb)]) λhb=>?_
 have hb:Qo n g=true:=Hu hb
 rw [Ac hb]
 obtain ⟨⟨n1,n2⟩,h8,Kl⟩:=Hy.1 hb
 have nv: ∀x∈g,Pm n.toNat x:= λx hx=>XS (Kl x hx)
 have hV:=oL (n:=n.toNat) (by omega) (by omega) (j9 nv)
 have hb2:Qf.fn (n,g,())=some ((n,(bE n g).2,(bE n g).1,()),()):=Ac ⟨⟨n1,n2⟩,h.1,nv⟩
 refine ⟨_,hb2,?_⟩
 simp only [Cq]
 exact ⟨_,Ac ⟨n.toNat,⟨by omega,by omega⟩,by show n=(n.toNat:Int);omega,hV⟩,rfl⟩
theorem NR:Sound Try.prog 118 pG:=
 Sound.Ib Ew (Bd eF (Ft pM (Bd uE Bw))) mixed Try.func118 (by kernel_rfl) (by kernel_rfl) λx h=>Aj3 x.1 x.2.1 h
theorem Anj (p:PP) (h:Hv p):fnW Hf (look [(47,Jd),(118,pG)]) uw Try.f51 (p,()) (λ(z:Int)=>z=FG p):=by
 refine Eq.mp (Ao8 p _) ⟨_,Ac h,?_⟩
 unfold FG
 show Br (!Cy p) _ _
 refine Br.of (λhb=>by rw [Ak (Hl hb)]) λhb=>?_
 rw [Ac (Hu hb)]
 exact ⟨_,Ac ⟨h.2.1,h.2.2⟩,rfl⟩
theorem UT:Sound Try.prog 51 uw:=
 Sound.Ib Ew (Bd eH (Bd NR Bw)) mixed Try.func51 (by kernel_rfl) (by kernel_rfl) λx h=>Anj x.1 h
theorem KB {p:PP} (hw:Gz p=true):FG p=((Be p).length:Int):=by
 have hv:=(Gg hw).1
 have hV:=valid hv
 have hn:=hV.n
 have hg:=j9 (ir hV).2.2
 have All:Qo p.1 p.2.2.1=true:=(Hy.1 hv).1
 have hc:=oL (n:=p.1.toNat) (by omega) (by omega) hg
 unfold FG tQ
 rw [Ac hv,Ac All]
 have e:Uv (bE p.1 p.2.2.1).2 p.1.toNat=(kG p.1.toNat (bE p.1 p.2.2.1).2 p.1.toNat 0).length:=(qE _ _).symm
 rw [e]
 have hm: ∀x,x∈kG p.1.toNat (bE p.1 p.2.2.1).2 p.1.toNat 0↔x∈Be p:= λx=>by
  refine (nN (by omega) (by omega) _ 0 (by omega) hc.2.2.1 x).trans ⟨λh=>?_,λh=>?_⟩
  ·exact (a8 hv).all (Gg hw).2 x ((qi (by omega) (by omega) hg h.1).1 h.2.2)
  ·exact ⟨yf hv h,λi hi=>absurd hi (Ec _),(qi (by omega) (by omega) hg (yf hv h)).2 ((a8 hv).gen x h)⟩
 have h1:=Uc (mf (n:=p.1.toNat) (by omega) (by omega) _ 0 (by omega) hc.2.2.1) λx hx=>(hm x).1 hx
 have h2:=Uc (uP hv) λx hx=>(hm x).2 hx
 have e3:(kG p.1.toNat (bE p.1 p.2.2.1).2 p.1.toNat 0).length=(Be p).length:=Nat.le_antisymm h1 h2
 rw [e3]
abbrev ku:Type:=Int×Int×Int×ByteArray×List (List Int)×List (List Int×List (List Int)×List Int×PUnit)×List Int×PUnit
abbrev br:Type:=(List Int×List (List Int)×List Int×PUnit)×Bool×PUnit
abbrev Jc (v7:ku) (Fq:br) (He:br):Prop:= [(0,v7.2.2.2.2.2.1.length),(0,v7.2.2.2.2.2.2.1.length)]= [(0,v7.2.2.2.2.2.1.length),(0,v7.2.2.2.2.2.2.1.length)]/\(Fq.2.1,v7.2.2.1,v7.2.2.2.1,v7.2.2.2.2.1,Fq.1.1,Fq.1.2.1,Fq.1.2.2.1,v7.2.2.2.2.2.1,v7.2.2.2.2.2.2.1,())=(He.2.1,v7.2.2.1,v7.2.2.2.1,v7.2.2.2.2.1,He.1.1,He.1.2.1,He.1.2.2.1,v7.2.2.2.2.2.1,v7.2.2.2.2.2.2.1,PUnit.unit)
abbrev bh (v7:ku):Prop:=(([]:List (Nat×Nat))= []/\(v7.2.2.1,v7.2.2.2.1,v7.2.2.2.2.1,())=(v7.2.2.1,v7.2.2.2.1,v7.2.2.2.2.1,PUnit.unit))
theorem Abv (code:List Int) (P:Bool->Prop):(∃(y2:Bool),xW.fn (code,())=some y2/\Br y2 (P true) (∃(y3:(List Int×Int×Int×PUnit)×PUnit),pI.fn (code,(1112:Int),())=some y3/\ ∃(y4:(List Int×Int×Int×Int×ByteArray×List (List Int)×PUnit)×PUnit),yb.fn (y3.1.1,y3.1.2.1,y3.1.2.2.1,())=some y4/\ ∃(y5:(List Int×Int×Int×List (List Int×List (List Int)×List Int×PUnit)×PUnit)×PUnit),pJ.fn (y4.1.1,y4.1.2.1,y4.1.2.2.1,y4.1.2.2.2.1,y4.1.2.2.2.2.1,List.take y4.1.2.2.2.2.2.1.length (List.drop 0 y4.1.2.2.2.2.2.1),())=some y5/\ ∃(y6:(List Int×PUnit)×PUnit),c7.fn (y4.1.2.2.2.1,y4.1.2.2.2.2.1,List.take y4.1.2.2.2.2.2.1.length (List.drop 0 y4.1.2.2.2.2.2.1),List.take y5.1.2.2.2.1.length (List.drop 0 y5.1.2.2.2.1),())=some y6/\0=0/\y5.1.2.2.2.1.length=y5.1.2.2.2.1.length/\0=0/\y6.1.1.length=y6.1.1.length/\Dh (λ(v7:ku) (k8:ku->Prop)=>Br (decide (v7.2.1<(↑v7.2.2.2.2.2.2.1.length:Int))) (((0:Int)<=v7.2.1/\v7.2.1<(↑v7.2.2.2.2.2.2.1.length:Int))/\ ∃(y9:Int),v7.2.2.2.2.2.2.1[0+v7.2.1.toNat]?=some y9/\0=0/\v7.2.2.2.2.2.1.length=v7.2.2.2.2.2.1.length/\0=0/\v7.2.2.2.2.2.2.1.length=v7.2.2.2.2.2.2.1.length/\k8 (IntKind.i64.wrap (v7.1+y9),IntKind.i64.wrap (v7.2.1+(1:Int)),v7.2.2.1,v7.2.2.2.1,v7.2.2.2.2.1,v7.2.2.2.2.2.1,v7.2.2.2.2.2.2.1,())) (∃(y9:Int),aV.fn ((v7.2.2.1,v7.2.2.2.1,v7.2.2.2.2.1,()),List.take v7.2.2.2.2.2.1.length (List.drop 0 v7.2.2.2.2.2.1),())=some y9/\ ∃(Kq:Int),uw.fn ((v7.2.2.1,v7.2.2.2.1,v7.2.2.2.2.1,()),())=some Kq/\Br (v7.1 !=Kq) (P false) (Br (decide (y9<(1:Int))) (P false) (Br (decide (y9>v7.1)) (P false) (∃(Jq:List Int),Ww.fn (v7.2.2.1,())=some Jq/\ ∃(He:br),Di.fn ((v7.2.2.1,v7.2.2.2.1,v7.2.2.2.2.1,()),Jq,())=some He/\(∃(Iq:Int),aV.fn ((v7.2.2.1,v7.2.2.2.1,v7.2.2.2.2.1,()),List.take 1 (List.drop 0 [(He.1.1,He.1.2.1,He.1.2.2.1,())]),())=some Iq/\P (Iq==v7.1))/\(bh v7)/\(([]:List (Nat×Nat))= []/\(v7.2.2.1,())=(v7.2.2.1,PUnit.unit))/\(∃(Iq:List Int),Ww.fn (v7.2.2.1,())=some Iq/\(bh v7)/\(∃(Fq:br),Di.fn ((v7.2.2.1,v7.2.2.2.1,v7.2.2.2.2.1,()),Iq,())=some Fq/\((((Jc v7 Fq He))/\((Jc v7 Fq He))/\(Jc v7 Fq He))/\(((Jc v7 Fq He))/\(Jc v7 Fq He))/\(((Jc v7 Fq He))/\(Jc v7 Fq He))/\(Jc v7 Fq He))/\(((Jc v7 Fq He))/\(Jc v7 Fq He))/\(Jc v7 Fq He))/\(bh v7)/\ ∃(Fq:br),Di.fn ((v7.2.2.1,v7.2.2.2.1,v7.2.2.2.2.1,()),Iq,())=some Fq/\(((Jc v7 Fq He))/\(Jc v7 Fq He))/\(Jc v7 Fq He))/\(bh v7)/\(([]:List (Nat×Nat))= []/\(v7.2.2.1,())=(v7.2.2.1,PUnit.unit))/\ ∃(Iq:List Int),Ww.fn (v7.2.2.1,())=some Iq/\(bh v7)/\ ∃(Fq:br),Di.fn ((v7.2.2.1,v7.2.2.2.1,v7.2.2.2.2.1,()),Iq,())=some Fq/\(((Jc v7 Fq He))/\(Jc v7 Fq He))/\(Jc v7 Fq He)))))) ((0:Int),(0:Int),y4.1.2.2.2.1,y4.1.2.2.2.2.1,List.take y4.1.2.2.2.2.2.1.length (List.drop 0 y4.1.2.2.2.2.2.1),y5.1.2.2.2.1,y6.1.1,PUnit.unit)))=fnW (BD [fM+4,j7]) (look [(10,xW),(11,pI),(12,yb),(55,pJ),(56,c7),(57,aV),(51,uw),(58,Di),(16,Ww)]) NI Try.f8 (code,()) P:=by kernel_rfl
theorem XM {x:Int} (h0:0<=x): ∀(M:Nat),x<M->(List.range M).countP (λ(d:Nat)=>decide (x=(d:Int)))=1
 |M,h=>SC List.nodup_range (a:=x.toNat) (Dn.2 (by omega)) λd _=>by rw [Mc];omega
theorem YG {xs:List Int} (h0: ∀x∈xs,0<=x):((j0 xs).foldl (· + ·) 0)=(xs.length:Int):=by
 have key: ∀(l:List Nat) (a:Int),(l.map λ(d:Nat)=>((xs.count (d:Int):Nat):Int)).foldl (· + ·) a=a+((l.map λ(d:Nat)=>xs.count (d:Int)).sum:Nat):=by
  intro l
  induction l with
  |nil=>intro a;simp
  |cons d l ih=>
   intro a
   rw [Bm,Jj,ih,Bm,Sn]
   push_cast
   omega
 unfold j0
 rw [key]
 have h1:=qa (λ(x:Int) (d:Nat)=>decide (x=(d:Int))) xs (List.range (aD xs+1).toNat)
 have h2:(xs.map λx=>(List.range (aD xs+1).toNat).countP λ(d:Nat)=>decide (x=(d:Int))).sum=xs.length*1:=yh xs λx hx=>XM (h0 x hx) _ (by have:=FH hx;have:=h0 x hx;omega)
 have h3: ∀d:Nat,xs.count (d:Int)=xs.countP λx=>decide (x=(d:Int)):= λd=>List.countP_congr λx _=>by simp
 rw [show (λ(d:Nat)=>xs.count (d:Int))= λ(d:Nat)=>xs.countP λx=>decide (x=(d:Int)) from funext h3,<-h1,h2]
 simp
theorem MU {n:Nat} {s:List Int} (h:s.length=n):Ef s (upto n)=s:=by
 have:(upto n).map (Gw s)=s:=eL (by rw [Bt,Kb,h]) λi h1 h2=>by
  rw [Mn]
  have:(upto n)[i]'(by rw [Kb];omega)=(i:Int):=by simp [upto]
  rw [this,Ig h2]
 exact this
theorem ow {p:PP} (hv:Cy p=true):El p (upto p.1.toNat)=true:=by
 have hn:=(valid hv).n
 refine Pw.2 ⟨hv,Hy.2 ⟨by rw [Kb];omega,λj hj _=>?_⟩⟩
 have hl:=hj
 rw [Kb] at hl
 have e: ∀i (h:i<(upto p.1.toNat).length),(upto p.1.toNat)[i]=(i:Int):= λi h=>by simp [upto]
 rw [e j hj]
 exact ⟨by omega,by omega,λh0=>by rw [e];omega⟩
theorem Adv {p:PP} (hw:Gz p=true) {s:List Int} (hs:s∈Be p):Sb [Em p (upto p.1.toNat)] s=cL (Be p) (Fv p) s:=by
 have hv:=(Gg hw).1
 have ht:=ow hv
 have ee:Fm p (upto p.1.toNat)=true:=Ce.2 ⟨ht,(Gg hw).2⟩
 have hb:=wW hw (ik ee) hs
 have e1:(Em p (upto p.1.toNat)).1=upto p.1.toNat:=by unfold Em;rw [Ac ee]
 rw [e1,MU (yf hv hs).1] at hb
 have h0:=(iA hw).nn s hs
 show max 0 (Zo (Em p (upto p.1.toNat)) s)=_
 rw [hb]
 show max 0 (cL (Be p) (Fv p) s)=_
 omega
theorem Aab (code:List Int) (h:yK code):fnW (BD [fM+4,j7]) (look [(10,xW),(11,pI),(12,yb),(55,pJ),(56,c7),(57,aV),(51,uw),(58,Di),(16,Ww)]) NI Try.f8 (code,()) (λ(z:Bool)=>z=true):=by
 refine Eq.mp (Abv code _) ⟨_,Ac trivial,Br.dec (λ_=>rfl) λhb=>?_⟩
 simp only [Jc,bh]
 have hb: ¬(code.length:Int)>4096:=hb
 have hd0:=Aq5 h hb
 refine ⟨_,Ac (show code.length<=4096 by omega),_,Ac hd0,?_⟩
 obtain ⟨hp,hd1⟩:=OI hd0 (pd code 1112)
 obtain ⟨W,hW⟩: ∃W,aE code 0 (pd code 1112)=W:=⟨_,rfl⟩
 rw [hW] at hp hd1
 simp only [hW,Cq,true_and]
 obtain ⟨i1,h1,n,str,g,u⟩:=W
 obtain rfl:u=():=rfl
 dsimp only at hp hd1⊢
 clear hW
 have hs:=hp.short
 have hw:=hp.whole
 refine ⟨_,Ac ⟨hd1,hs,hp.valid⟩,?_⟩
 obtain ⟨hd2,ht⟩:=Aeu hp hd1 h1
 obtain ⟨W,hW⟩: ∃W,Yo code i1 h1 (n,str,g,())=W:=⟨_,rfl⟩
 rw [hW] at hd2 ht
 simp only [hW]
 obtain ⟨i2,h2,ts⟩:=W
 dsimp only at hd2 ht⊢
 clear hW
 have hwt:(Gz (n,str,g,())&&Gr (n,str,g,()) ts)=true:=Ce.2 ⟨hw,ht.set⟩
 obtain ⟨C,hC⟩: ∃C,j0 (Wo (n,str,g,()) ts)=C:=⟨_,rfl⟩
 have e6:c7.fn (n,str,g,ts,())=some ((C,()),()):=(Ac ⟨hs,ht.short⟩).trans (Gc some (by
  show ((Zz (n,str,g,()) ts,()),())=_
  unfold Zz
  rw [Ac hwt,hC]))
 refine ⟨_,e6,?_⟩
 have nt:=Ajh hp.valid hp.hi
 have tz:0<(Be (n,str,g,())).length:=List.length_pos_of_mem (Nt hp.valid).2
 have Alu:(Wo (n,str,g,()) ts).length=(Be (n,str,g,())).length:=by unfold Wo;rw [Bt]
 have hl0: ∀x∈Wo (n,str,g,()) ts,0<=x:= λx hx=>by
  obtain ⟨s,hs,rfl⟩:=Ay.1 hx
  exact (LR hp ht.set hs).1
 have Ado:=YG hl0
 rw [hC,Alu] at Ado
 have hC0: ∀x∈C,0<=x:= λx hx=>by
  rw [<-hC] at hx
  obtain ⟨d,_,rfl⟩:=Ay.1 hx
  omega
 have Atw:C.length<=3001:=by
  rw [<-hC]
  unfold j0
  rw [Bt,Nl]
  obtain ⟨s,hs,e⟩:=Ay.1 (xz (xs:=Wo (n,str,g,()) ts) (by omega))
  have:=(LR hp ht.set hs).2
  omega
 obtain ⟨E,hE⟩: ∃E,jZ (n,str,g,()) ts=E:=⟨_,rfl⟩
 have e9:aV.fn ((n,str,g,()),ts,())=some E:=(Ac ⟨hs,ht.short⟩).trans (Gc some hE)
 have e10:uw.fn ((n,str,g,()),())=some ((Be (n,str,g,())).length:Int):=(Ac hs).trans (Gc some (KB hw))
 have hex: ∀ts':List TT,Gr (n,str,g,()) ts'=true->jZ (n,str,g,()) ts'=(((List.range (Be (n,str,g,())).length).countP λi=>decide (Sb ts' ((Be (n,str,g,())).getD i [])=(Fv (n,str,g,())).getD i 0):Nat):Int):= λts' h'=>Ac (Ce.2 ⟨hw,h'⟩)
 have Alb: ∀i,i<(Be (n,str,g,())).length->(Fv (n,str,g,())).getD i 0=cL (Be (n,str,g,())) (Fv (n,str,g,())) ((Be (n,str,g,())).getD i []):= λi hi=>(lV (uP hp.valid) hi).symm
 have hE1:1<=E/\E<=((Be (n,str,g,())).length:Int):=by
  rw [<-hE,hex ts ht.set]
  constructor
  ·have:0<(List.range (Be (n,str,g,())).length).countP λi=>decide (Sb ts ((Be (n,str,g,())).getD i [])=(Fv (n,str,g,())).getD i 0):=by
    refine List.countP_pos_iff.2 ⟨0,Dn.2 tz,Eo ?_⟩
    rw [Alb 0 tz,(Nt hp.valid).1]
    have a:=LR hp ht.set (Nt hp.valid).2
    have b:=Adw hw ht.set (Nt hp.valid).2
    have c:=((iA hw).zero _ (Nt hp.valid).2).2 (Nt hp.valid).1.symm
    have a1:0<=Sb ts (upto (Int.toNat n)):=a.1
    have b1:Sb ts (upto (Int.toNat n))<=cL (Be (n,str,g,())) (Fv (n,str,g,())) (upto (Int.toNat n)):=b
    have c1:cL (Be (n,str,g,())) (Fv (n,str,g,())) (upto (Int.toNat n))=0:=c
    show Sb ts (upto (Int.toNat n))=cL (Be (n,str,g,())) (Fv (n,str,g,())) (upto (Int.toNat n))
    omega
   omega
  ·have:=List.countP_le_length (l:=List.range (Be (n,str,g,())).length) (p:= λi=>decide (Sb ts ((Be (n,str,g,())).getD i [])=(Fv (n,str,g,())).getD i 0))
   rw [Nl] at this
   omega
 have hn:=(valid hp.valid).n
 have hn:1<=n/\n<=20:=⟨by have:=hp.lo;have:3<=n:=this;omega,by have:=hp.hi;have:n<=5:=this;omega⟩
 have hut:=ow hp.valid
 have ee:Fm (n,str,g,()) (upto (Int.toNat n))=true:=Ce.2 ⟨hut,(Gg hw).2⟩
 have e11:Ww.fn (n,())=some (upto (Int.toNat n)):=Ac hn
 obtain ⟨B,hB⟩: ∃B,Em (n,str,g,()) (upto (Int.toNat n))=B:=⟨_,rfl⟩
 have hBv:Gf (n,str,g,()) B=true:=hB▸ik ee
 have e12:Di.fn ((n,str,g,()),upto (Int.toNat n),())=some (B,true,()):=(Ac ⟨hs,by show (upto (Int.toNat n)).length<=4294967296;rw [Kb];omega⟩).trans (Gc some (by
  show (Em (n,str,g,()) (upto (Int.toNat n)),Fm (n,str,g,()) (upto (Int.toNat n)),())=_
  rw [hB,ee]))
 have YU:Gr (n,str,g,()) [B]=true:=Ce.2 ⟨Ce.2 ⟨hp.valid,Eo (by simp)⟩,by simp [hBv]⟩
 have Kl:jZ (n,str,g,()) [B]=((Be (n,str,g,())).length:Int):=by
  rw [hex [B] YU]
  have:(List.range (Be (n,str,g,())).length).countP (λi=>decide (Sb [B] ((Be (n,str,g,())).getD i [])=(Fv (n,str,g,())).getD i 0))=(List.range (Be (n,str,g,())).length).length:=by
   refine List.countP_eq_length.2 λi hi=>Eo ?_
   have hi:=Dn.1 hi
   rw [Alb i hi,<-hB]
   exact Adv hw (bM hi)
  rw [this,Nl]
 have e13:aV.fn ((n,str,g,()),[B],())=some ((Be (n,str,g,())).length:Int):=(Ac ⟨hs,by show ([B]:List TT).length<=4294967296;simp,λt ht=>by rw [Ad.1 ht,<-hB];exact ij⟩).trans (Gc some Kl)
 obtain ⟨N,hN⟩: ∃N,(Be (n,str,g,())).length=N:=⟨_,rfl⟩
 rw [hN] at nt tz Ado e10 hE1 e13
 dsimp only
 refine Bs C.length (λv=>v.2.1) (λk v=>v.1=(C.take k).foldl (· + ·) 0/\v.2.2=(n,str,g,ts,C,())) rfl ⟨rfl,rfl⟩ ?_
 rintro k ⟨a,k',V⟩ K hk qn ⟨ha,hV⟩ hK
 dsimp only at qn ha hV
 subst hV qn ha
 dsimp only
 have tw: ∀k,0<=(C.take k).foldl (· + ·) 0/\(C.take k).foldl (· + ·) 0<=(N:Int):= λk=>by
  have key: ∀(l:List Int) (a:Int),(∀x∈l,0<=x)->a<=l.foldl (· + ·) a:=by
   intro l
   induction l with
   |nil=>intro a _;exact Qj _
   |cons x l ih=>
    intro a hx
    rw [Jj]
    have h1:=hx x (by simp)
    have h2:=ih (a+x) λy hy=>hx y (Aq _ hy)
    omega
  have h1:=key (C.take k) 0 λx hx=>hC0 x (Et hx)
  have h2:=key (C.drop k) ((C.take k).foldl (· + ·) 0) λx hx=>hC0 x (Vx hx)
  rw [<-Rc,Ik,Ado] at h2
  exact ⟨h1,h2⟩
 refine Br.dec (λhl=>?_) λhl=>?_
 ·have hl:k<C.length:=by omega
  refine ⟨⟨by omega,by omega⟩,C[k],by rw [Bo,Aj];exact Ab hl,?_⟩
  have Vz:=tw (k+1)
  have e:(C.take (k+1)).foldl (· + ·) 0=(C.take k).foldl (· + ·) 0+C[k]:=by
   rw [Fc,Ab hl,Rc]
   rfl
  rw [e] at Vz
  rw [Dl (by omega) (by omega),Bk (by omega)]
  exact hK hl _ rfl ⟨e.symm,rfl⟩
 ·have:k=C.length:=by omega
  subst this
  rw [Aw,Ado]
  refine ⟨_,e9,_,e10,Br.of (λhh=>by simp at hh) λ_=>Br.dec (λhh=>by omega) λ_=>Br.dec (λhh=>by omega) λ_=>⟨_,e11,_,e12,?_⟩⟩
  simp only [Dj,List.take_succ_cons,List.take_zero,and_self]
  exact ⟨⟨_,e13,beq_self_eq_true _⟩,_,e11,_,e12,rfl⟩
theorem AJ:Sound Try.prog 8 NI:=
 Sound.Ib (BE [fM+4,j7]) (Bd US (Ft NT (Ft VB (Ft NV (Ft AI (Bd rH (Bd UT (Bd gF (Bd AM Bw))))))))) mixed Try.func8 (by kernel_rfl) (by kernel_rfl) λx h=>Aab x.1 h
end Go.Proofs.Ytkkdpknjohcekaa
