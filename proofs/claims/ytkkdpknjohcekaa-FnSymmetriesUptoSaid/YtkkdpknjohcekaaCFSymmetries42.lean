/-
  Part 43 of the proof that the statement FnSymmetries holds.
-/
import Derived.Test.YtkkdpknjohcekaaCFSymmetries41
namespace Go.Proofs.Ytkkdpknjohcekaa
open Go.RowKit
section
variable {Q:List Int->Prop} {code:List Int->Nat} {B:Nat}
theorem NL (inj: ∀x y,Q x->Q y->code x=code y->x=y) (lt: ∀x,Q x->code x<B) {L:List (List Int)} (hQ: ∀y∈L,Q y) (hn:L.Nodup):L.length<=B:=by
 have h1:(L.map code).Nodup:=by
  unfold List.Nodup
  rw [List.pairwise_map]
  exact List.Pairwise.imp_of_mem (λha hb Is he=>Is (inj _ _ (hQ _ ha) (hQ _ hb) he)) hn
 have h2:=lz h1 (l2:=List.range B) λx hx=>by
  obtain ⟨y,hy,rfl⟩:=Bo.1 hx
  exact Io.2 (lt y (hQ y hy))
 simpa using h2
theorem jy (hB:B<3000) (inj: ∀x y,Q x->Q y->code x=code y->x=y) (lt: ∀x,Q x->code x<B) {g:List (List Int)} {x:List Int} {d:Int} :
  ∀(ls:List Int) (L:List (List Int)) (D:List Int),(∀l∈ls,Q (An x (At g l)))->(∀y∈L,Q y)->L.Nodup->
   (Jd g x d ls L D).2.2=true/\(∀y∈(Jd g x d ls L D).1,Q y)/\(Jd g x d ls L D).1.Nodup
 | [],L,D,_,hQ,hn=>⟨rfl,hQ,hn⟩
 |l::ls,L,D,hl,hQ,hn=>by
  have Nt: ∀l∈ls,Q (An x (At g l)):= λl h=>hl l (Am _ h)
  rw [Jd]
  split
  ·exact jy hB inj lt ls L D Nt hQ hn
  ·rename_i hni
   have:=NL inj lt hQ hn
   rw [Ai (by omega)]
   refine jy hB inj lt ls _ _ Nt (λy hy=>?_) ?_
   ·rcases Az.1 hy with h|h
    ·exact hQ y h
    ·rw [Ae.1 h];exact hl l (by simp)
   ·rw [Dp]
    exact ⟨hn,by simp,λa ha b hb e=>hni (by rw [Ae.1 hb] at e;rw [<-e];exact ha)⟩
theorem py (hB:B<3000) (inj: ∀x y,Q x->Q y->code x=code y->x=y) (lt: ∀x,Q x->code x<B) {g:List (List Int)} {ls:List Int} (step: ∀x,Q x-> ∀l∈ls,Q (An x (At g l))):
  ∀(f k:Nat) (L:List (List Int)) (D:List Int),(∀y∈L,Q y)->L.Nodup->(Nq g ls f k L D).2.2=true
 |0,_,_,_,_,_=>rfl
 |f+1,k,L,D,hQ,hn=>by
  rw [Nq]
  split
  ·rename_i hk
   have hx:Q (L.getD k []):=by
    rw [Al,Ac hk]
    exact hQ _ (Ak hk)
   obtain ⟨h1,h2,h3⟩:=jy hB inj lt (d:=D.getD k 0) ls L D (step _ hx) hQ hn
   generalize Jd g (L.getD k []) (D.getD k 0) ls L D=r at h1 h2 h3
   obtain ⟨L',D',b⟩:=r
   have h1:b=true:=h1
   subst h1
   exact py hB inj lt step f (k+1) L' D' h2 h3
  ·rfl
theorem ND (hB:B<3000) (inj: ∀x y,Q x->Q y->code x=code y->x=y) (lt: ∀x,Q x->code x<B) {g:List (List Int)} {s:List Int} (hs:Q s)
  (step: ∀x,Q x-> ∀l∈Bk g.length,Q (An x (At g l))):(Ls g s).2.2=true:=
 py hB inj lt step _ _ _ _ (λy hy=>by rw [Ae.1 hy];exact hs) (by simp)
end
def tp (x:List Int):Nat:=(Jb x 0+5*Jb x 1+25*Jb x 2+125*Jb x 3).toNat
theorem NY {x:List Int} {k:Nat} (h:x.length<=k):Jb x (k:Int)=0:=by
 unfold Jb
 rw [Bh,Al,Er h]
 rfl
theorem Pq {n:Nat} {x:List Int} (hn:n<=5) (h:Pm n x) (k:Nat):0<=Jb x (k:Int)/\Jb x (k:Int)<5:=by
 by_cases hk:k<n
 ·have:=h.Zg hk
  omega
 ·rw [NY (by rw [h.1];omega)]
  decide
theorem DZ {n:Nat} {x:List Int} (hn:n<=5) (h:Pm n x):tp x<625:=by
 have h0:=Pq hn h 0
 have h1:=Pq hn h 1
 have h2:=Pq hn h 2
 have h3:=Pq hn h 3
 simp only [Int.natCast_zero] at h0
 unfold tp
 have e1:((1:Nat):Int)=1:=rfl
 have e2:((2:Nat):Int)=2:=rfl
 have e3:((3:Nat):Int)=3:=rfl
 rw [e1] at h1;rw [e2] at h2;rw [e3] at h3
 omega
theorem zw {n:Nat} (hn:n<=5) (x y:List Int) (hx:Pm n x) (hy:Pm n y) (e:tp x=tp y):x=y:=by
 have e1:((1:Nat):Int)=1:=rfl
 have e2:((2:Nat):Int)=2:=rfl
 have e3:((3:Nat):Int)=3:=rfl
 have a0:=Pq hn hx 0
 have a1:=Pq hn hx 1
 have a2:=Pq hn hx 2
 have a3:=Pq hn hx 3
 have b0:=Pq hn hy 0
 have b1:=Pq hn hy 1
 have b2:=Pq hn hy 2
 have b3:=Pq hn hy 3
 simp only [Int.natCast_zero] at a0 b0
 rw [e1] at a1 b1;rw [e2] at a2 b2;rw [e3] at a3 b3
 unfold tp at e
 have low: ∀i:Nat,i<4->Jb x (i:Int)=Jb y (i:Int):=by
  intro i hi
  match i,hi with
  |0,_=>simp only [Int.natCast_zero];omega
  |1,_=>rw [e1];omega
  |2,_=>rw [e2];omega
  |3,_=>rw [e3];omega
 have Aek: ∀i,i<4->ap x i=ap y i:= λi hi=>by unfold ap;rw [low i hi]
 refine hx.ext hy λi hi=>?_
 by_cases h4:i<4
 ·exact Aek i h4
 ·obtain ⟨j,hj,hjx⟩:=hy.DK (hx.lt hi)
  by_cases hj4:j<4
  ·rw [<-Aek j hj4] at hjx
   have:=hx.inj hj hi hjx
   omega
  ·have:j=i:=by omega
   rw [this] at hjx
   exact hjx.symm
theorem AW {p:PP} (hv:Bc p=true) (h5:p.1<=5):Hk p=true:=by
 have hV:=valid hv
 have hn:=hV.n
 refine Bm.2 ⟨hv,ND (Q:=Pm p.1.toNat) (code:=tp) (B:=625) (by decide) (zw (by omega)) (λx hx=>DZ (by omega) hx) (Pm.id (by omega) (by omega)) λx hx l hl=>?_⟩
 exact hx.comp (Qa hV (Fk hl))
theorem VQ {n a c:Nat} {mv:List Int} (h:Pm n mv) (ha:a<n) (hc:c<n):Pm n ((mv.set a (Jb mv (c:Int))).set c (Jb mv (a:Int))):=by
 have hA:=(h.Zg ha).1
 have hC:=(h.Zg hc).1
 refine Pm.of (by simp only [Ce];exact h.1) h.n1 h.n2 (λk=>if k=c then ap mv a else if k=a then ap mv c else ap mv k) (λi hi=>?_) λi j hi hj e=>?_
 ·rw [Eh,Eh,Ce,h.1]
  by_cases h1:c=i
  ·rw [Ab h1,Ab hc,Ab (show i=c from h1.symm)]
   exact ⟨by rw [hA],h.lt ha⟩
  ·rw [Ai h1,Ai (show ¬i=c from λe=>h1 e.symm)]
   by_cases h2:a=i
   ·rw [Ab h2,Ab ha,Ab (show i=a from h2.symm)]
    exact ⟨by rw [hC],h.lt hc⟩
   ·rw [Ai h2,Ai (show ¬i=a from λe=>h2 e.symm)]
    have oS:i<mv.length:=by rw [h.1];exact hi
    have:=(h.Zg hi).1
    rw [Jf oS] at this
    rw [Ac oS,this]
    exact ⟨rfl,h.lt hi⟩
 ·by_cases i1:i=c
  ·rw [Ab i1] at e
   by_cases j1:j=c
   ·rw [i1,j1]
   ·rw [Ai j1] at e
    by_cases j2:j=a
    ·rw [Ab j2] at e
     have:=h.inj ha hc e
     rw [i1,j2,this]
    ·rw [Ai j2] at e
     exact absurd (h.inj ha hj e).symm j2
  ·rw [Ai i1] at e
   by_cases i2:i=a
   ·rw [Ab i2] at e
    by_cases j1:j=c
    ·rw [Ab j1] at e
     have:=h.inj hc ha e
     rw [i2,j1,this]
    ·rw [Ai j1] at e
     by_cases j2:j=a
     ·rw [i2,j2]
     ·rw [Ai j2] at e
      exact absurd (h.inj hc hj e).symm j1
   ·rw [Ai i2] at e
    by_cases j1:j=c
    ·rw [Ab j1] at e
     exact absurd (h.inj hi ha e) i2
    ·rw [Ai j1] at e
     by_cases j2:j=a
     ·rw [Ab j2] at e
      exact absurd (h.inj hi hc e) i1
     ·rw [Ai j2] at e
      exact h.inj hi hj e
theorem uC {b:List Int} {n:Int} (hn:1<=n): ∀(k:Nat) (i h:Int) (mv:List Int),cT b i->Pm n.toNat mv->Pm n.toNat (dW b n k i h mv).2.2
 |0,_,_,_,_,hm=>hm
 |k+1,i,h,mv,hd,hm=>by
  have r1:=en hd hn h
  have r2:=en hd.next hn (hN h)
  rw [dW]
  refine uC hn k _ _ _ hd.next.next ?_
  have:=VQ hm (a:=(dR b i h n).toNat) (c:=(dR b (dI b i) (hN h) n).toNat) (by omega) (by omega)
  rw [Int.toNat_of_nonneg r1.1,Int.toNat_of_nonneg r2.1] at this
  exact this
theorem zd {b:List Int} {n:Int} (hn:1<=n) (hn2:n<=20): ∀(k:Nat) (i h:Int) (ms:List (List Int)),cT b i->(∀m∈ms,Pm n.toNat m)-> ∀m∈(Zc b n k i h ms).2.2,Pm n.toNat m
 |0,_,_,_,_,hm=>hm
 |k+1,i,h,ms,hd,hm=>by
  rw [Zc]
  refine zd hn hn2 k _ _ _ (qq hd h) λm hmm=>?_
  rcases Az.1 hmm with h1|h1
  ·exact hm m h1
  ·rw [Ae.1 h1]
   exact uC hn _ _ _ _ hd.next (Pm.id (by omega) (by omega))
theorem PZ:Zx QB=true:=by
 refine Fp.2 ⟨by decide,λj hj=>?_⟩
 have hj:j<2:=hj
 match j,hj with
 |0,_=>exact ⟨65,rfl,by decide,by decide,λk hk=>by omega⟩
 |1,_=>exact ⟨66,rfl,by decide,by decide,λk hk=>(by have e:k=0:=(by omega);rw [e];decide)⟩
structure cX (p:PP):Prop where
 valid:Bc p=true
 two:p.2.2.1.length=2
 lo:3<=p.1
 hi:p.1<=5
 short:Gq p
theorem FF {b:List Int} {i:Int} (hd:cT b i) (h:Int):cX (Zb b i h).2.2/\cT b (Zb b i h).1:=by
 have hr:=en hd (show (1:Int)<=3 by decide) h
 obtain ⟨n,hn⟩: ∃n,3+dR b i h 3=n:=⟨_,rfl⟩
 have h2:=HI b n 2 (dI b i) (hN h) []
 have h3:=zd (b:=b) (n:=n) (by omega) (by omega) 2 (dI b i) (hN h) [] hd.next (λm hm=>by cases hm)
 have h4:=HH n 2 (dI b i) (hN h) [] hd.next
 unfold Zb
 rw [hn]
 generalize Zc b n 2 (dI b i) (hN h) []=R at h2 h3 h4
 obtain ⟨i',h',ms⟩:=R
 dsimp only at h2 h3 h4⊢
 simp only [Hr,Dz] at h2
 refine ⟨⟨Fp.2 ⟨Fp.2 ⟨⟨by show 1<=n;omega,by show n<=20;omega⟩,by show ms.length<=8;omega,λm hm=>?_⟩,PZ,by show 2=ms.length;omega⟩,h2,by show 3<=n;omega,by show n<=5;omega,⟨by show 2<=4294967296;decide,by show ms.length<=4294967296;omega,λm hm=>?_⟩⟩,h4⟩
 ·have:=h3 m hm
  have h5:=this.1
  exact Fp.2 ⟨by omega,tQ this.2⟩
 ·exact Sw (h3 m hm)
noncomputable def qg (p:PP) (s w:List Int):List Int×Bool×Unit:=(It p.2.2.1 s w,true,())
noncomputable abbrev Pr:Spec:=Hg (.pair Ij (.pair tL (.pair tL .unit))) (.pair tL (.pair .bool .unit)) true true (λx=>Gq x.1/\Bc x.1=true/\Pm x.1.1.toNat x.2.1/\Gc (List.length x.1.2.2.1:Nat) x.2.2.1=true) (λx=>qg x.1 x.2.1 x.2.2.1)
noncomputable def lv (b:List Int) (i h:Int) (p:PP):Int×Int×List Int:=((Ub b i h 2 8).1,(Ub b i h 2 8).2.1,(qg p (upto p.1.toNat) (Ub b i h 2 8).2.2).1)
noncomputable abbrev Aei:MSpec:= {ptr:=some (75,3),Ke:= [some 3],ins:= [(false, .Gb tB),(false, .Gb tI),(false, .Gb MQ),(false, .Gb tI),(false, .Gb .str),(false, .Gb rm)],Hc:=false,Iw:= [none],outs:= [.Gb tB, .Gb tI, .Gb MQ, .Gb tL],fn:= λ_=>none}
noncomputable abbrev uv:MSpec:=zb Aei (λx=>cT x.1 x.2.1/\Gq (x.2.2.2.1,x.2.2.2.2.1,x.2.2.2.2.2.1,())/\Bc (x.2.2.2.1,x.2.2.2.2.1,x.2.2.2.2.2.1,())=true/\List.length x.2.2.2.2.2.1=2) (λx=>((x.1,(lv x.1 x.2.1 x.2.2.1 (x.2.2.2.1,x.2.2.2.2.1,x.2.2.2.2.2.1,())).1,(lv x.1 x.2.1 x.2.2.1 (x.2.2.2.1,x.2.2.2.2.1,x.2.2.2.2.2.1,())).2.1,(lv x.1 x.2.1 x.2.2.1 (x.2.2.2.1,x.2.2.2.2.1,x.2.2.2.2.2.1,())).2.2,()),()))
theorem MB (g:List (List Int)) (l:Int) (P:List Int->Prop):(Br (decide (l<(0:Int))) (∃(y3:List Int),idx g (IntKind.i64.wrap (IntKind.i64.wrap ((0:Int)-l)-(1:Int)))=some y3/\ ∃(y4:List Int),Gu.fn (y3,())=some y4/\P y4) (∃(y3:List Int),idx g (IntKind.i64.wrap (l-(1:Int)))=some y3/\P y3))=fnW Fz (look [(190,Gu)]) Kd Try.f149 (g,l,()) P:=by kernel_rfl
theorem FP (n:Int) (g:List (List Int)) (w:List Int) (P:List Int->Prop):(∃(y4:List Int),Cv.fn (n,())=some y4/\Ek (λ(v5:List Int×Int×PUnit) (k6:List Int×Int×PUnit->Prop)=>Br (decide (v5.2.1<(↑w.length:Int))) (∃(y7:Int),idx w v5.2.1=some y7/\ ∃(y8:List Int),Kd.fn (g,y7,())=some y8/\ ∃(y9:List Int),Hz.fn (v5.1,y8,())=some y9/\k6 (y9,IntKind.i64.wrap (v5.2.1+(1:Int)),())) (P v5.1)) (y4,(0:Int),PUnit.unit))=fnW Fz (look [(66,Cv),(75,Hz),(149,Kd)]) Wx Try.f76 (n,g,w,()) P:=by kernel_rfl
theorem SE (p:Int×ByteArray×List (List Int)×Unit) (s w:List Int) (P:(List Int×Bool×Unit)->Prop):(∃(y4:Bool),Gv.fn ((p.1,p.2.1,p.2.2.1,()),s,())=some y4/\Br (!y4) (P (List.take 0 (List.drop 0 []),false,())) (∃(y5:Bool),Pu.fn ((↑p.2.2.1.length:Int),w,())=some y5/\Br (!y5) (P (List.take 0 (List.drop 0 []),false,())) (∃(y6:List Int),Wx.fn (p.1,p.2.2.1,w,())=some y6/\ ∃(y7:List Int),Hz.fn (s,y6,())=some y7/\P (y7,true,()))))=fnW Fz (look [(73,Gv),(74,Pu),(75,Hz),(76,Wx)]) Pr Try.f21 (p,s,w,()) P:=by kernel_rfl
abbrev EZ:Type:=(List Int×Int×Int×List Int×PUnit)×PUnit
abbrev wa (b:List Int) (i:Int) (h:Int) (n:Int) (str:ByteArray) (g:List (List Int)) (cS:List Int) (y8:EZ) (y9:List Int×Bool×PUnit) (y7:List Int):Prop:= ∃(Xr:EZ),o0.fn (b,i,h,(2:Int),(8:Int),())=some Xr/\ ∃(Yv:List Int×Bool×PUnit),Pr.fn ((n,str,g,()),cS,List.take Xr.1.2.2.2.1.length (List.drop 0 Xr.1.2.2.2.1),())=some Yv/\(([(0,0),(0,Xr.1.2.2.2.1.length)]= [(0,0),(0,y8.1.2.2.2.1.length)]/\(n,str,g,Yv.1,Yv.2.1,Yv,n,str,g,n,cS,Yv,Yv.1,Yv.2.1,n,str,g,([]:List Int),Xr.1.2.2.2.1,Xr.1.1,Xr.1.2.1,Xr.1.2.2.1,())=(n,str,g,y9.1,y9.2.1,y9,n,str,g,n,y7,y9,y9.1,y9.2.1,n,str,g,([]:List Int),y8.1.2.2.2.1,y8.1.1,y8.1.2.1,y8.1.2.2.1,PUnit.unit))/\ [(0,0),(0,Xr.1.2.2.2.1.length)]= [(0,0),(0,y8.1.2.2.2.1.length)]/\(n,str,g,Yv.1,Yv.2.1,Yv,n,str,g,n,cS,Yv,Yv.1,Yv.2.1,n,str,g,([]:List Int),Xr.1.2.2.2.1,Xr.1.1,Xr.1.2.1,Xr.1.2.2.1,())=(n,str,g,y9.1,y9.2.1,y9,n,str,g,n,y7,y9,y9.1,y9.2.1,n,str,g,([]:List Int),y8.1.2.2.2.1,y8.1.1,y8.1.2.1,y8.1.2.2.1,PUnit.unit))/\ [(0,0),(0,Xr.1.2.2.2.1.length)]= [(0,0),(0,y8.1.2.2.2.1.length)]/\(n,str,g,Yv.1,Yv.2.1,Yv,n,str,g,n,cS,Yv,Yv.1,Yv.2.1,n,str,g,([]:List Int),Xr.1.2.2.2.1,Xr.1.1,Xr.1.2.1,Xr.1.2.2.1,())=(n,str,g,y9.1,y9.2.1,y9,n,str,g,n,y7,y9,y9.1,y9.2.1,n,str,g,([]:List Int),y8.1.2.2.2.1,y8.1.1,y8.1.2.1,y8.1.2.2.1,PUnit.unit)
theorem Aff (b:List Int) (i h n:Int) (str:ByteArray) (g:List (List Int)) (P:((List Int×Int×Int×List Int×Unit)×Unit)->Prop):(∃(y7:List Int),Ol.fn (n,())=some y7/\ ∃(y8:EZ),o0.fn (b,i,h,(2:Int),(8:Int),())=some y8/\ ∃(y9:List Int×Bool×PUnit),Pr.fn ((n,str,g,()),y7,List.take y8.1.2.2.2.1.length (List.drop 0 y8.1.2.2.2.1),())=some y9/\P ((y8.1.1,y8.1.2.1,y8.1.2.2.1,y9.1,()),())/\(∃(cS:List Int),Ol.fn (n,())=some cS/\(wa b i h n str g cS y8 y9 y7))/\(∃(cS:List Int),Ol.fn (n,())=some cS/\(wa b i h n str g cS y8 y9 y7))/\ ∃(cS:List Int),Ol.fn (n,())=some cS/\((wa b i h n str g cS y8 y9 y7))/\(wa b i h n str g cS y8 y9 y7))=fnMW (RR [cb+4]) (look [(62,o0),(16,Ol),(21,Pr)]) uv Try.f13 (b,i,h,n,str,g,()) P:=by kernel_rfl
theorem KF (g:List (List Int)) (l:Int) (h:Fb (List.length g) l/\List.length g<=8/\ ∀p∈g,Gp p=true):fnW Fz (look [(190,Gu)]) Kd Try.f149 (g,l,()) (λ(z:List Int)=>z=At g l):=by
 obtain ⟨hl,h8,hp⟩:=h
 refine Eq.mp (MB g l _) ?_
 obtain ⟨k,hk,rfl|rfl⟩:=Lm hl
 ·refine Br.dec (λhn=>by omega) λ_=>?_
  rw [Cs (by omega) (by omega),show (k:Int)+1-1=(k:Int) by omega]
  exact ⟨_,Df hk,(Il hk).symm⟩
 ·refine Br.dec (λ_=>?_) λhn=>by omega
  rw [Cs (n:=0- -((k:Int)+1)) (by omega) (by omega),Cs (by omega) (by omega),show (0:Int)- -((k:Int)+1)-1=(k:Int) by omega]
  have:=Rd (hp _ (Ak hk))
  exact ⟨_,Df hk,_,Ab ⟨this.len,this.row⟩,(Jz hk).symm⟩
theorem sH:Sound Try.prog 149 Kd:=
 Sound.Hg Ef (Au j6 Bt) mixed Try.func149 (by kernel_rfl) (by kernel_rfl) λx h=>KF x.1 x.2.1 h
theorem DW (n:Int) (g:List (List Int)) (w:List Int) (h: ∃p:PP,Bc p=true/\p.1=n/\p.2.2.1=g/\Gc (List.length g:Nat) w=true):fnW Fz (look [(66,Cv),(75,Hz),(149,Kd)]) Wx Try.f76 (n,g,w,()) (λ(z:List Int)=>z=It g (upto n.toNat) w):=by
 obtain ⟨p,hv,rfl,rfl,hw⟩:=h
 have hV:=valid hv
 have hn:=hV.n
 have hf:=hV.oM
 obtain ⟨w1,w2⟩:=Xq hw
 refine Eq.mp (FP p.1 p.2.2.1 w _) ⟨upto p.1.toNat,Ab ⟨by show 0<=p.1;omega,by show p.1<=20;omega⟩,?_⟩
 refine Cu w.length (λv=>v.2.1) (λj v=>v.1=It p.2.2.1 (upto p.1.toNat) (w.take j)) rfl rfl ?_
 rintro j ⟨q,i,⟨⟩⟩ K hj hi hR hK
 dsimp only at hi hR⊢
 subst hi hR
 have hq:=pt hV (w.take j) _ (λl hl=>w2 l (Ma hl)) (Pm.id (n:=p.1.toNat) (by omega) (by omega))
 refine Br.dec (λhl=>?_) λhl=>?_
 ·have hl:j<w.length:=by omega
  have yD:=w2 _ (Ak hl)
  have ow:=Qa hV yD
  refine ⟨_,Df hl,_,Ab ⟨yD,hf.2,hV.perm⟩,_,Ab ⟨QT hq,zx hq ow⟩,?_⟩
  rw [Dw (by omega)]
  exact hK hl _ rfl (BG hl).symm
 ·have:j=w.length:=by omega
  subst this
  rw [Ca]
theorem r9:Sound Try.prog 76 Wx:=
 Sound.Hg Ef (Au Vo (Au bC (Au sH Bt))) mixed Try.func76 (by kernel_rfl) (by kernel_rfl) λx h=>DW x.1 x.2.1 x.2.2.1 h
theorem QH (p:PP) (s w:List Int) (h:Gq p/\Bc p=true/\Pm p.1.toNat s/\Gc (List.length p.2.2.1:Nat) w=true):fnW Fz (look [(73,Gv),(74,Pu),(75,Hz),(76,Wx)]) Pr Try.f21 (p,s,w,()) (λ(z:List Int×Bool×Unit)=>z=qg p s w):=by
 obtain ⟨hp,hv,hs,hw⟩:=h
 have hV:=valid hv
 have hn:=hV.n
 have hf:=hV.oM
 obtain ⟨w1,w2⟩:=Xq hw
 have OH:=Pm.id (n:=p.1.toNat) (by omega) (by omega)
 have hq:=pt hV w _ w2 OH
 refine Eq.mp (SE p s w _) ⟨true,(Ab ⟨hp,Sw hs⟩).trans (Jt some (Bm.2 ⟨hv,jX hV hs⟩)),λhc=>(by cases hc),λ_=>⟨true,(Ab ⟨by show w.length<=4294967296;omega,by show (0:Int)<=((p.2.2.1.length:Nat):Int);omega,by show ((p.2.2.1.length:Nat):Int)<=4294967296;omega⟩).trans (Jt some hw),λhc=>(by cases hc),λ_=>⟨_,Ab ⟨p,hv,rfl,rfl,hw⟩,_,Ab ⟨QT hs,zx hs hq⟩,?_⟩⟩⟩
 show (An s (It p.2.2.1 (upto p.1.toNat) w),true,())=qg p s w
 rw [nu hV hs w _ w2 OH,comp_id hs]
 rfl
theorem lO:Sound Try.prog 21 Pr:=
 Sound.Hg Ef (Au Qn (Au qX (Au bC (Au r9 Bt)))) mixed Try.func21 (by kernel_rfl) (by kernel_rfl) λx h=>QH x.1 x.2.1 x.2.2.1 h
theorem Ab2 {b:List Int} {i m:Int} (hd:cT b i) (h:Int) (hm:1<=m/\m<=8):ma (aj m) (Yb b i h m).2.2=true:=by
 have hr:=en hd hm.1 h
 have hc:aj m=m:=Ai (by omega)
 rw [hc]
 refine Dg ?_
 unfold Yb
 dsimp only
 split<;>omega
theorem SC {b:List Int} {m:Int} (hm:1<=m/\m<=8): ∀(k:Nat) (i h:Int) (w:List Int),cT b i->(∀y∈w,ma (aj m) y=true)->
  cT b (SB b m k i h w).1/\(SB b m k i h w).2.2.length=k+w.length/\ ∀y∈(SB b m k i h w).2.2,ma (aj m) y=true
 |0,i,h,w,hd,hw=>⟨hd,by rw [SB];exact (Db _).symm,hw⟩
 |k+1,i,h,w,hd,hw=>by
  obtain ⟨h1,h2,h3⟩:=SC hm k (Yb b i h m).1 (Yb b i h m).2.1 (w++ [(Yb b i h m).2.2]) (HX hd h m) (λy hy=>by
   rcases Az.1 hy with h4|h4
   ·exact hw y h4
   ·rw [Ae.1 h4];exact Ab2 hd h hm)
  rw [Ay,Ck] at h2
  rw [SB]
  exact ⟨h1,by omega,h3⟩
theorem SA {b:List Int} {i m k:Int} (hd:cT b i) (h:Int) (hm:1<=m/\m<=8) (hk:0<=k/\k<=20):Gc m (Ub b i h m k).2.2=true/\cT b (Ub b i h m k).1:=by
 have hr:=en hd (show 1<=k+1 by omega) h
 obtain ⟨h1,h2,h3⟩:=SC hm (dR b i h (k+1)).toNat (dI b i) (hN h) [] hd.next (λy hy=>by cases hy)
 refine ⟨Bm.2 ⟨Dg ?_,?_⟩,h1⟩
 ·show (SB b m (dR b i h (k+1)).toNat (dI b i) (hN h) []).2.2.length<=200
  rw [h2,Hr]
  omega
 ·rw [Eg]
  refine List.any_eq_false.2 λy hy=>?_
  rw [h3 y hy]
  decide
theorem Aew (b:List Int) (i h n:Int) (str:ByteArray) (g:List (List Int)) (hd:cT b i/\Gq (n,str,g,())/\Bc (n,str,g,())=true/\g.length=2):fnMW (RR [cb+4]) (look [(62,o0),(16,Ol),(21,Pr)]) uv Try.f13 (b,i,h,n,str,g,()) (λ(z:(List Int×Int×Int×List Int×Unit)×Unit)=>z=((b,(lv b i h (n,str,g,())).1,(lv b i h (n,str,g,())).2.1,(lv b i h (n,str,g,())).2.2,()),())):=by
 obtain ⟨hd,hp,hv,h2⟩:=hd
 have hV:=valid hv
 have hn:1<=n/\n<=20:=hV.n
 obtain ⟨hw,AZ⟩:=SA hd h (m:=2) (k:=8) (by decide) (by decide)
 have hS:Ol.fn (n,())=some (upto n.toNat):=Ab hn
 have OH:Pm n.toNat (upto n.toNat):=Pm.id (by omega) (by omega)
 have hW:o0.fn (b,i,h,2,8,())=some ((b,(Ub b i h 2 8).1,(Ub b i h 2 8).2.1,(Ub b i h 2 8).2.2,()),()):=Ab ⟨hd,by show (1:Int)<=2/\(2:Int)<=8;decide,by show (0:Int)<=8;decide,by show (8:Int)<=20;decide⟩
 have hA:Pr.fn ((n,str,g,()),upto n.toNat,List.take (Ub b i h 2 8).2.2.length (List.drop 0 (Ub b i h 2 8).2.2),())=some (qg (n,str,g,()) (upto n.toNat) (Ub b i h 2 8).2.2):=by
  rw [Di]
  exact Ab ⟨hp,hv,OH,by show Gc (g.length:Nat) _=true;rw [h2];exact hw⟩
 refine Eq.mp (Aff b i h n str g _) ⟨_,hS,_,hW,_,hA,?_⟩
 repeat' (first|exact ⟨rfl,rfl⟩|exact rfl|refine ⟨_,hS,?_⟩|refine ⟨_,hW,?_⟩|refine ⟨_,hA,?_⟩|refine ⟨?_,?_⟩)
theorem KZ:Dx Try.prog 13 uv:=
 Dx.zb (RS [cb+4]) (Hl LC (Au lU (Au lO Bt))) mixed Try.func13 (by kernel_rfl) (by kernel_rfl) λx h=>Aew x.1 x.2.1 x.2.2.1 x.2.2.2.1 x.2.2.2.2.1 x.2.2.2.2.2.1 h
structure Asc (n:Int) (o:List Int):Prop where
 asc:o.Pairwise (· < ·)
 row: ∀y∈o,0<=y/\y<n
theorem Asc.add {j:Int} {o:List Int} (h:Asc j o) (h0:0<=j):Asc (j+1) (o++ [j]):=by
 refine ⟨Js.2 ⟨h.asc,by simp,λa ha b hb=>?_⟩,λy hy=>?_⟩
 ·rw [Ae.1 hb];exact (h.row a ha).2
 ·rcases Az.1 hy with h1|h1
  ·have:=h.row y h1;omega
  ·rw [Ae.1 h1];omega
theorem Asc.le {j n:Int} {o:List Int} (h:Asc j o) (hj:j<=n):Asc n o:=⟨h.asc,λy hy=>by have:=h.row y hy;omega⟩
theorem JK {n:Nat} {l:Int} (h:Fb n l):l∈Bk n:=by
 obtain ⟨h0,h1,h2⟩:=h
 by_cases hp:0<l
 ·have:=(Kq (n:=n) (k:=(l-1).toNat) (by omega)).1
  rwa [show ((l-1).toNat:Int)+1=l by omega] at this
 ·have:=(Kq (n:=n) (k:=(-l-1).toNat) (by omega)).2
  rwa [show-(((-l-1).toNat:Int)+1)=l by omega] at this
theorem xS {p:PP} (hw:Hk p=true): ∀(w s:List Int),(∀l∈w,Fb (List.length p.2.2.1) l)->s∈Av p->It p.2.2.1 s w∈Av p
 | [],s,_,hs=>hs
 |l::w,s,hl,hs=>xS hw w _ (λl' h=>hl l' (Am _ h)) ((Uh hw).next s hs l (JK (hl l (by simp))))
theorem cX.whole {p:PP} (hp:cX p):Hk p=true:=AW hp.valid hp.hi
theorem Ab3 {p:PP} (hp:cX p) {b:List Int} {i:Int} (hd:cT b i) (h:Int):cT b (lv b i h p).1/\(lv b i h p).2.2∈Av p:=by
 obtain ⟨hw,AZ⟩:=SA hd h (m:=2) (k:=8) (by decide) (by decide)
 have hw:Gc ((2:Nat):Int) (Ub b i h 2 8).2.2=true:=hw
 have h2:=(Xq hw).2
 rw [<-hp.two] at h2
 exact ⟨AZ,xS hp.whole _ _ h2 (Qw hp.valid).2⟩
structure pc (p:PP) (ts:List TT):Prop where
 set:qj p ts=true
 oM:ts.length<=2
 short:VO ts
 valid: ∀t∈ts,qk p t=true
theorem pc.add {p:PP} (hp:cX p) {ts:List TT} (h:pc p ts) {t:TT} (ht:qk p t=true):qj p (ts++ [t])=true:=by
 have:=h.oM
 refine Bm.2 ⟨Bm.2 ⟨hp.valid,Dg (by rw [Ay,Ck];omega)⟩,Ax.2 λt' XM=>?_⟩
 rcases Az.1 XM with h4|h4
 ·exact h.valid t' h4
 ·rw [Ae.1 h4];exact ht
section
variable {p:PP} {ts:List TT} {s:List Int}
theorem cX.found (hp:cX p) (hs:s∈Av p):Tf p s=true:=tw.2 ⟨hp.whole,hs⟩
theorem cX.Ac7 (hp:cX p) (hs:s∈Av p):aF p s=Hj (Av p) (De p) s:=Ab (hp.found hs)
end
section
variable {α β:Type}
end
section
variable {p:PP}
theorem RJ (hv:Bc p=true):(Av p).Nodup:=(lE hv).nodup
end
theorem sub_eq {α:Type} [DecidableEq α] {l1 l2:List α} (hn:l1.Nodup) (hs: ∀x∈l1,x∈l2) (hl:l2.length<=l1.length): ∀x∈l2,x∈l1:= λx hx=>by
 refine Cd λh=>?_
 have:=lz (l1:=x::l1) (l2:=l2) (Cf.2 ⟨h,hn⟩) λy hy=>by
  rcases Ba.1 hy with rfl|hy
  ·exact hx
  ·exact hs y hy
 rw [Bg] at this
 omega
theorem HG: ∀(k:Nat) (R x:List Int),R.length=k->x.Perm R->x∈lex k R
 |0,R,x,hl,h=>by
  have h1:=h.length_eq
  have:x= []:=List.length_eq_zero_iff.1 (by omega)
  rw [this,lex]
  simp
 |k+1,R,[],hl,h=>by have:=h.length_eq;simp at this;omega
 |k+1,R,v::y,hl,h=>by
  have hv:v∈R:=h.mem_iff.1 (by simp)
  have h1:y.Perm (R.erase v):=(List.perm_cons v).1 (h.trans (List.perm_cons_erase hv))
  rw [lex]
  exact Kh.2 ⟨v,hv,Bo.2 ⟨y,HG k _ _ (by rw [Vu hv];omega) h1,rfl⟩⟩
theorem zy {n:Nat} {x:List Int} (h:Pm n x):x.Nodup:=by
 refine Dc.2 λi j hi hj dm e=>?_
 have h1:=h.1
 have:=h.inj (i:=i) (j:=j) (by omega) (by omega) (by unfold ap;rw [Jf hi,Jf hj,e])
 omega
theorem QU {n:Nat} {x:List Int} (h:Pm n x) {v:Int} (hv:v∈x):0<=v/\v<n:=by
 obtain ⟨i,hi,rfl⟩:=Bd.1 hv
 have h1:=h.Zg (i:=i) (by have:=h.1;omega)
 rw [Jf hi] at h1
 omega
theorem VL {n:Nat} {x:List Int} (h:Pm n x):x.Perm (upto n):=by
 refine (List.perm_ext_iff_of_nodup (zy h) (ec n)).2 λv=>⟨λhv=>?_,λhv=>?_⟩
 ·exact Nb.2 (QU h hv)
 ·exact sub_eq (zy h) (λy hy=>Nb.2 (QU h hy)) (by rw [Jj,h.1];exact Ar _) v hv
theorem EA {n:Nat} {x:List Int} (h:Pm n x):x∈lex n (upto n):=HG _ _ _ (Jj n) (VL h)
theorem JL (n:Nat):(lex n (upto n)).Nodup:=Dc.2 λ_ _ hi hj dm=>(ru n).distinct (mF n) _ _ _ hi hj rfl dm
theorem Aat {p:PP} (hv:Bc p=true) (h5:p.1<=5):(Av p).length<=120:=by
 have h1:=lz (l2:=lex p.1.toNat (upto p.1.toNat)) (RJ hv) λx hx=>EA (Wb hv hx)
 rw [vW _ _ (Jj _)] at h1
 have h2: ∀k,k<=5->yo k<=120:=by decide
 have:=h2 p.1.toNat (by omega)
 omega
section
variable {n:Nat} {x y q r:List Int}
theorem Pm.YK (hx:Pm n x) (hq:Pm n q):Pm n (Cc x q):=(hq.inv.comp hx).comp hq
theorem kD (hx:Pm n x) (hy:Pm n y) (hq:Pm n q):Cc (An x y) q=An (Cc x q) (Cc y q):=by
 unfold Cc
 rw [Je (hq.inv.comp hx) hq ((hq.inv.comp hy).comp hq),<-Je hq (hq.inv.comp hy) hq,<-Je hq hq.inv hy,c9 hq,id_comp hy,
  ←Je hq.inv hx hy,Je (hq.inv.comp hx) hy hq]
theorem kE (hq:Pm n q):Cc (upto n) q=upto n:=by
 unfold Cc
 rw [comp_id hq.inv,l8 hq]
theorem vg (hx:Pm n x):Cc x (upto n)=x:=by
 unfold Cc
 rw [PI hx.n1 hx.n2,comp_id ((Pm.id hx.n1 hx.n2).comp hx),id_comp hx]
theorem gQ (hx:Pm n x) (hq:Pm n q) (hr:Pm n r):Cc (Cc x q) r=Cc x (An q r):=by
 unfold Cc
 rw [inv_mul hq hr,<-Je hr.inv (hq.inv.comp hx) hq,<-Je hr.inv hq.inv hx,Je ((hr.inv.comp hq.inv).comp hx) hq hr]
theorem NO (hx:Pm n x) (hq:Pm n q):Bq (Cc x q)=Cc (Bq x) q:=by
 refine l9 (hx.YK hq) (hx.inv.YK hq) ?_
 rw [<-kD hx hx.inv hq,c9 hx,kE hq]
theorem ca (hx:Pm n x) (hq:Pm n q):Cc (Cc x q) (Bq q)=x:=by rw [gQ hx hq hq.inv,c9 hq,vg hx]
theorem NN (hx:Pm n x) (hy:Pm n y) (hq:Pm n q) (e:Cc x q=Cc y q):x=y:=by rw [<-ca hx hq,e,ca hy hq]
end
theorem tu {g:List (List Int)} {x:List Int} : ∀(ls:List Int),(∀l∈ls,l≠0)->((∃l∈ls,At g l=x)↔Og g x ls≠0)/\(Og g x ls≠0->Og g x ls∈ls/\At g (Og g x ls)=x)
 | [],_=>by simp [Og]
 |l::r,h=>by
  have ih:=tu (g:=g) (x:=x) r λl' Nt=>h l' (Am _ Nt)
  rw [Og]
  by_cases e:At g l=x
  ·rw [Ab e]
   exact ⟨⟨λ_=>h l (by simp),λ_=>⟨l,by simp,e⟩⟩,λ_=>⟨by simp,e⟩⟩
  ·rw [Ai e]
   refine ⟨⟨λ⟨l',h1,h2⟩=>?_,λhh=>?_⟩,λhh=>⟨Am _ (ih.2 hh).1,(ih.2 hh).2⟩⟩
   ·rcases Ba.1 h1 with rfl|h1
    ·exact absurd h2 e
    ·exact ih.1.1 ⟨l',h1,h2⟩
   ·obtain ⟨l',h1,h2⟩:=ih.1.2 hh
    exact ⟨l',Am _ h1,h2⟩
theorem xE (g:List (List Int)) (x:List Int):((∃l∈Bk g.length,At g l=x)↔Hu g x≠0)/\(Hu g x≠0->Hu g x∈Bk g.length/\At g (Hu g x)=x):=by
 rw [<-iM]
 exact tu _ λl hl=>(Fk hl).1
def fg (p:PP) (x:List Int):Prop:= ∃l∈Bk p.2.2.1.length,At p.2.2.1 l=x
section
variable {p:PP}
theorem mi (hv:Bc p=true) {x:List Int} (h:fg p x):Pm p.1.toNat x:=by
 obtain ⟨l,hl,rfl⟩:=h
 exact Qa (valid hv) (Fk hl)
theorem TW (hv:Bc p=true) {x:List Int} (h:fg p x):fg p (Bq x):=by
 obtain ⟨l,hl,rfl⟩:=h
 obtain ⟨k,hk,rfl|rfl⟩:=Lm (Fk hl)
 ·exact ⟨_,(Kq hk).2,by rw [Jz hk,Il hk]⟩
 ·refine ⟨_,(Kq hk).1,?_⟩
  rw [Jz hk,Il hk,inv_inv]
  have:=Qa (valid hv) (Fk (Kq hk).1)
  rwa [Il hk] at this
theorem tR (hv:Bc p=true) {q:List Int} (hq:Pm p.1.toNat q):Ml p q=true↔ ∀x,fg p x->fg p (Cc x q):=by
 have key: ∀k,k<p.2.2.1.length->(Jh p q ((k:Int)+1)≠0↔fg p (Cc (At p.2.2.1 ((k:Int)+1)) q)):= λk hk=>(xE _ _).1.symm
 refine Fp.trans ⟨λh x hx=>?_,λh k hk=>(key k hk).2 (h _ ⟨_,(Kq hk).1,rfl⟩)⟩
 obtain ⟨l,hl,rfl⟩:=hx
 obtain ⟨k,hk,rfl|rfl⟩:=Lm (Fk hl)
 ·exact (key k hk).1 (h k hk)
 ·have h1:=TW hv ((key k hk).1 (h k hk))
  have hp:=Qa (valid hv) (Fk (Kq hk).1)
  rw [NO hp hq] at h1
  rw [Jz hk]
  rwa [Il hk] at h1
theorem PW {q:List Int} :q∈Cx p↔Pm p.1.toNat q/\Ml p q=true\/(q∈Cx p/\ ¬(1<=p.1.toNat/\p.1.toNat<=20)):=by
 constructor
 ·intro h
  by_cases hn:1<=p.1.toNat/\p.1.toNat<=20
  ·refine .inl ⟨?_,(Bv.1 h).2⟩
   have hh:q.Perm (upto (p.1.toNat:Int).toNat):=by rw [Bh];exact uE h
   have h1:=NW (jW (n:=(p.1.toNat:Int)) (by omega) (by omega) hh)
   rwa [Bh] at h1
  ·exact .inr ⟨h,hn⟩
 ·rintro (⟨h1,h2⟩|h)
  ·exact Bv.2 ⟨EA h1,h2⟩
  ·exact h.1
theorem Li (hv:Bc p=true) {q:List Int} :q∈Cx p↔Pm p.1.toNat q/\ ∀x,fg p x->fg p (Cc x q):=by
 have hn:=(valid hv).n
 refine PW.trans ⟨λh=>?_,λh=> .inl ⟨h.1,(tR hv h.1).2 h.2⟩⟩
 rcases h with h|h
 ·exact ⟨h.1,(tR hv h.1).1 h.2⟩
 ·exact absurd ⟨by omega,by omega⟩ h.2
theorem zV (hv:Bc p=true):upto p.1.toNat∈Cx p:=by
 have hn:=(valid hv).n
 refine (Li hv).2 ⟨Pm.id (by omega) (by omega),λx hx=>?_⟩
 rw [vg (mi hv hx)]
 exact hx
theorem zU (hv:Bc p=true) {q r:List Int} (hq:q∈Cx p) (hr:r∈Cx p):An q r∈Cx p:=by
 obtain ⟨q1,q2⟩:=(Li hv).1 hq
 obtain ⟨r1,r2⟩:=(Li hv).1 hr
 refine (Li hv).2 ⟨q1.comp r1,λx hx=>?_⟩
 rw [<-gQ (mi hv hx) q1 r1]
 exact r2 _ (q2 x hx)
theorem zT (hv:Bc p=true) {q:List Int} (hq:q∈Cx p):Bq q∈Cx p:=by
 classical
 obtain ⟨q1,q2⟩:=(Li hv).1 hq
 have hE: ∀x,x∈(lex p.1.toNat (upto p.1.toNat)).filter (λx=>decide (fg p x))↔fg p x:= λx=>
  ⟨λh=>Ff (Bv.1 h).2,λh=>Bv.2 ⟨EA (mi hv h),Dg h⟩⟩
 obtain ⟨E,hEe⟩: ∃E,(lex p.1.toNat (upto p.1.toNat)).filter (λx=>decide (fg p x))=E:=⟨_,rfl⟩
 have hnE:E.Nodup:=hEe▸(JL _).filter _
 rw [hEe] at hE
 have Kp:=sub_eq (l1:=E.map λx=>Cc x q) (l2:=E) (List.pairwise_map.2 (hnE.imp_of_mem λha hb Is e=>Is (NN (mi hv ((hE _).1 ha)) (mi hv ((hE _).1 hb)) q1 e)))
  (λy hy=>by obtain ⟨x,hx,rfl⟩:=Bo.1 hy;exact (hE _).2 (q2 x ((hE x).1 hx))) (by rw [Jv];exact Ar _)
 refine (Li hv).2 ⟨q1.inv,λx hx=>?_⟩
 obtain ⟨y,hy,e⟩:=Bo.1 (Kp x ((hE x).2 hx))
 have hy:=(hE y).1 hy
 rw [<-e,ca (mi hv hy) q1]
 exact hy
theorem cz (hv:Bc p=true) {q:List Int} (hq:q∈Cx p) {l:Int} (hl:l∈Bk p.2.2.1.length):Jh p q l∈Bk p.2.2.1.length/\At p.2.2.1 (Jh p q l)=Cc (At p.2.2.1 l) q:=by
 have h:=((Li hv).1 hq).2 _ ⟨l,hl,rfl⟩
 exact (xE _ _).2 ((xE _ _).1.1 h)
theorem il (hw:Hk p=true) {q:List Int} (hq:q∈Cx p) {s:List Int} (hs:s∈Av p):Cc s q∈Av p:=by
 have hv:=(Gi hw).1
 obtain ⟨q1,q2⟩:=(Li hv).1 hq
 refine x5 hw (λs=>Cc s q∈Av p) (λx hx h l hl=>?_) (Qw hv).2 ?_ s hs
 ·show Cc (An x (At p.2.2.1 l)) q∈Av p
  rw [kD (Wb hv hx) (Qa (valid hv) (Fk hl)) q1,<-(cz hv hq hl).2]
  exact (Uh hw).next _ h _ (cz hv hq hl).1
 ·show Cc (upto p.1.toNat) q∈Av p
  rw [kE q1]
  exact (Qw hv).2
theorem fE (hw:Hk p=true) {q:List Int} (hq:q∈Cx p): ∀(n:Nat) (s:List Int),s∈Av p->Hj (Av p) (De p) s=n->Hj (Av p) (De p) (Cc s q)<=n
 |0,s,hs,e=>by
  have hv:=(Gi hw).1
  have h0:=((So hw).zero s hs).1 e
  have OH:s=upto p.1.toNat:=by rw [h0];exact (Qw hv).1
  rw [OH,kE ((Li hv).1 hq).1]
  have:=((So hw).zero _ (Qw hv).2).2 (Qw hv).1.symm
  omega
 |n+1,s,hs,e=>by
  have hv:=(Gi hw).1
  obtain ⟨l,hl,hd⟩:=(So hw).down s hs (by omega)
  have h1:=fE hw hq n _ ((Uh hw).next s hs l hl) (by omega)
  rw [kD (Wb hv hs) (Qa (valid hv) (Fk hl)) ((Li hv).1 hq).1,<-(cz hv hq hl).2] at h1
  have h2:=(So hw).JQ (Uh hw) (il hw hq hs) (cz hv hq hl).1
  omega
theorem NR (hw:Hk p=true) {q:List Int} (hq:q∈Cx p) {s:List Int} (hs:s∈Av p):Hj (Av p) (De p) (Cc s q)=Hj (Av p) (De p) s:=by
 have hv:=(Gi hw).1
 have h0:=(So hw).nn s hs
 have h1:=(So hw).nn _ (il hw hq hs)
 have a:=fE hw hq (Hj (Av p) (De p) s).toNat s hs (by omega)
 have b:=fE hw (zT hv hq) (Hj (Av p) (De p) (Cc s q)).toNat _ (il hw hq hs) (by omega)
 rw [ca (Wb hv hs) ((Li hv).1 hq).1] at b
 omega
theorem pq (hw:Hk p=true) {q:List Int} (hq:q∈Cx p): ∀(w s:List Int),(∀l∈w,l∈Bk p.2.2.1.length)->s∈Av p->
  It p.2.2.1 (Cc s q) (w.map (Jh p q))=Cc (It p.2.2.1 s w) q
 | [],s,_,_=>rfl
 |l::w,s,hl,hs=>by
  have hv:=(Gi hw).1
  have h1:=hl l (by simp)
  have ih:=pq hw hq w _ (λl' h=>hl l' (Am _ h)) ((Uh hw).next s hs l h1)
  rw [kD (Wb hv hs) (Qa (valid hv) (Fk h1)) ((Li hv).1 hq).1,<-(cz hv hq h1).2] at ih
  exact ih
theorem XR {a b c:List Int} (h1:No b a=false) (h2:No c b=false):No c a=false:=by
 cases e:No c a with
 |false=>rfl
 |true=>
  by_cases ou:a=b
  ·subst ou;rw [e] at h2;cases h2
  ·rw [mG e (qf h1 (Gl ou))] at h2;cases h2
theorem JM {a b:List Int} (h:No a b=true):No b a=false:=by
 cases e:No b a with
 |false=>rfl
 |true=>have:=mG h e;rw [To] at this;cases this
theorem jA (s:List Int): ∀(list:List (List Int)) (a:List Int),
  (list.foldl (λleast q=>if No (Cc s q) least=true then Cc s q else least) a=a\/ ∃q∈list,list.foldl (λleast q=>if No (Cc s q) least=true then Cc s q else least) a=Cc s q)/\
  No a (list.foldl (λleast q=>if No (Cc s q) least=true then Cc s q else least) a)=false/\
  ∀q∈list,No (Cc s q) (list.foldl (λleast q=>if No (Cc s q) least=true then Cc s q else least) a)=false
 | [],a=>⟨.inl rfl,To a,λ_ h=>by cases h⟩
 |q::r,a=>by
  rw [Ui]
  obtain ⟨b,hb⟩: ∃b,(if No (Cc s q) a=true then Cc s q else a)=b:=⟨_,rfl⟩
  have YT:(b=a\/b=Cc s q)/\No a b=false/\No (Cc s q) b=false:=by
   rw [<-hb]
   split
   ·rename_i h
    exact ⟨.inr rfl,JM h,To _⟩
   ·rename_i h
    exact ⟨.inl rfl,To _,by simpa using h⟩
  rw [hb]
  obtain ⟨h1,h2,h3⟩:=jA s r b
  refine ⟨?_,XR h2 YT.2.1,λq' m8=>?_⟩
  ·rcases h1 with h1|⟨q',h4,h5⟩
   ·rcases YT.1 with h|h
    ·exact .inl (h1.trans h)
    ·exact .inr ⟨q,by simp,h1.trans h⟩
   ·exact .inr ⟨q',Am _ h4,h5⟩
  ·rcases Ba.1 m8 with rfl|h
   ·exact XR h2 YT.2.2
   ·exact h3 q' h
theorem bb (hw:Hk p=true) {s:List Int} (hs:s∈Av p): ∃q∈Cx p,Hb (Cx p) s=Cc s q:=by
 have hv:=(Gi hw).1
 rcases (jA s (Cx p) s).1 with h|⟨q,h1,h2⟩
 ·exact ⟨_,zV hv,by rw [vg (Wb hv hs)];exact h⟩
 ·exact ⟨q,h1,h2⟩
theorem yb {s q:List Int} (hq:q∈Cx p):No (Cc s q) (Hb (Cx p) s)=false:=(jA s (Cx p) s).2.2 q hq
theorem pB (hw:Hk p=true) {s q:List Int} (hs:s∈Av p) (hq:q∈Cx p):Hb (Cx p) (Cc s q)=Hb (Cx p) s:=by
 have hv:=(Gi hw).1
 have IZ:=Wb hv hs
 have IY:=((Li hv).1 hq).1
 obtain ⟨a,ha,ea⟩:=bb hw hs
 obtain ⟨b,hb,eb⟩:=bb hw (il hw hq hs)
 have h1:No (Hb (Cx p) (Cc s q)) (Hb (Cx p) s)=false:=by
  rw [eb,gQ IZ IY ((Li hv).1 hb).1]
  exact yb (zU hv hq hb)
 have h2:No (Hb (Cx p) s) (Hb (Cx p) (Cc s q))=false:=by
  have e:Cc s a=Cc (Cc s q) (An (Bq q) a):=by
   rw [<-gQ (IZ.YK IY) IY.inv ((Li hv).1 ha).1,ca IZ IY]
  rw [ea,e]
  exact yb (zU hv (zT hv hq) ha)
 refine Cd λIs=>?_
 rw [qf h1 Is] at h2
 cases h2
theorem yd (hw:Hk p=true) {s:List Int} (hs:s∈Av p):Hb (Cx p) s∈Av p:=by
 obtain ⟨q,hq,e⟩:=bb hw hs
 rw [e]
 exact il hw hq hs
theorem BN (hw:Hk p=true) {s:List Int} (hs:s∈Av p):Hb (Cx p) (Hb (Cx p) s)=Hb (Cx p) s:=by
 obtain ⟨q,hq,e⟩:=bb hw hs
 have h:=pB hw hs hq
 rw [<-e] at h
 exact h
end
def vf (b:List Int):Prop:=b.length<=1048576/\ ∀y∈b,0<=y/\y<256
noncomputable abbrev EK:Spec:=Hg (.pair tB .unit) .bool false true (λx=>vf x.1) (λ_=>true)
theorem Ah9 {code:List Int} (h:vf code) (hb: ¬(code.length:Int)>4096):cT code 0:=⟨by omega,h.2,bY _,by omega⟩
noncomputable def gg (p:PP) (s:List Int):Bool:=(Bc p&&Cj p.1 s)&&decide (s=upto p.1.toNat)
noncomputable abbrev aN:Spec:=Hg (.pair Ij (.pair tL .unit)) .bool false true (λx=>Gq x.1/\short x.2.1) (λx=>gg x.1 x.2.1)
noncomputable def lr (p:PP) (s:List Int):List Int×Bool×Unit:=if (Tf p s&&decide (aF p s<=200))=true then (aG p s,true,()) else ([],false,())
noncomputable abbrev dP:Spec:=Hg (.pair Ij (.pair tL .unit)) (.pair tL (.pair .bool .unit)) true true (λx=>Gq x.1/\short x.2.1) (λx=>lr x.1 x.2.1)
theorem VX (p:Int×ByteArray×List (List Int)×Unit) (s:List Int) (P:(List Int×Bool×Unit)->Prop):(∃(y3:(List (List Int)×List Int×List Int×Bool×PUnit)×Int×Bool×PUnit),Vm.fn ((p.1,p.2.1,p.2.2.1,()),s,())=some y3/\Br (!y3.2.2.1) (P (List.take 0 (List.drop 0 []),false,())) (Br (decide (y3.2.1>(200:Int))) (P (List.take 0 (List.drop 0 []),false,())) (∃(y4:(List Int×PUnit)×PUnit),kc.fn (p.1,p.2.1,p.2.2.1,y3.1.1,y3.1.2.1,y3.1.2.2.1,y3.1.2.2.2.1,s,())=some y4/\P (List.take y4.1.1.length (List.drop 0 y4.1.1),true,()))))=fnW Ot (look [(69,Vm),(70,kc)]) dP Try.f19 (p,s,()) P:=by kernel_rfl
theorem wZ {p:PP} (hw:Hk p=true):Dj p=(Es p.2.2.1 (upto p.1.toNat),true,()):=by
 unfold Dj
 rw [Ab (Gi hw).1,hw]
theorem VI (p:PP) (s:List Int) (h:Gq p/\short s):fnW Ot (look [(69,Vm),(70,kc)]) dP Try.f19 (p,s,()) (λ(z:List Int×Bool×Unit)=>z=lr p s):=by
 refine Eq.mp (VX p s _) ⟨_,Ab h,?_⟩
 unfold lr
 show Br (!Tf p s) _ _
 refine Br.of (λhb=>by rw [Ai (λhh=>Ga hb (Bm.1 hh).1)];rfl) λhb=>?_
 have hf:=Fe hb
 obtain ⟨hw,hs⟩:=tw.1 hf
 show Br (decide (aF p s>200)) _ _
 refine Br.dec (λhd=>?_) λhd=>?_
 ·rw [Ai (λhh=>by have:=Ff (Bm.1 hh).2;omega)]
  rfl
 ·rw [Ab (Bm.2 ⟨hf,Dg (by omega)⟩)]
  have hd:kc.fn (p.1,p.2.1,p.2.2.1,(Dj p).1.1,(Dj p).1.2.1,(Dj p).1.2.2.1,(Dj p).1.2.2.2.1,s,())=some ((aG p s,()),()):=Ab ⟨hw,by rw [wZ hw],hs⟩
  refine ⟨_,hd,?_⟩
  rw [Di]
theorem zM:Sound Try.prog 19 dP:=
 Sound.Hg Np (Au lV (Hl ER Bt)) mixed Try.func19 (by kernel_rfl) (by kernel_rfl) λx h=>VI x.1 x.2.1 h
theorem FJ (p:Int×ByteArray×List (List Int)×Unit) (s:List Int) (P:Bool->Prop):(∃(y3:Bool),Gv.fn ((p.1,p.2.1,p.2.2.1,()),s,())=some y3/\Br y3 (∃(y4:List Int),Cv.fn (p.1,())=some y4/\ ∃(y5:Bool),El.fn (s,y4,())=some y5/\P y5) (P false))=fnW Fz (look [(73,Gv),(66,Cv),(80,El)]) aN Try.f24 (p,s,()) P:=by kernel_rfl
theorem DQ (p:PP) (s:List Int) (h:Gq p/\short s):fnW Fz (look [(73,Gv),(66,Cv),(80,El)]) aN Try.f24 (p,s,()) (λ(z:Bool)=>z=gg p s):=by
 refine Eq.mp (FJ p s _) ⟨_,Ab h,?_⟩
 show Br (Bc p&&Cj p.1 s) _ _
 unfold gg
 refine Br.of (λhb=>?_) λhb=>?_
 ·have hv:=(Bm.1 hb).1
  have hn:=(valid hv).n
  rw [hb]
  exact ⟨_,Ab ⟨by show 0<=p.1;omega,by show p.1<=20;omega⟩,_,Ab h.2,rfl⟩
 ·rw [hb]
  rfl
theorem qV:Sound Try.prog 24 aN:=
 Sound.Hg Ef (Au Qn (Au Vo (Au Ys Bt))) mixed Try.func24 (by kernel_rfl) (by kernel_rfl) λx h=>DQ x.1 x.2.1 h
theorem HR {g:List (List Int)} {ls:List Int} {L:List (List Int)} {S:List Int->Prop} {dep:List Int->Int} (hc:mc g ls L) (hd:Ur g ls L S dep): ∀(n:Nat) (x w:List Int),x∈L->dep x=n->
  (iA g dep ls n x w).1.length=w.length+n/\(iA g dep ls n x w).2∈L/\S (iA g dep ls n x w).2
 |0,x,w,hx,e=>⟨rfl,hx,(hd.zero x hx).1 e⟩
 |n+1,x,w,hx,e=>by
  obtain ⟨l,hl,h1⟩:=hd.down x hx (by omega)
  rw [iA]
  split
  ·rename_i l' hf
   have h2:dep (An x (At g l'))=n:=Ff (List.find?_some (p:= λl=>decide (dep (An x (At g l))=n)) hf)
   have h3:=List.mem_of_find?_eq_some hf
   obtain ⟨a,b⟩:=HR hc hd n _ (w++ [l']) (hc.next x hx l' h3) h2
   rw [Ay,Ck] at a
   exact ⟨by omega,b⟩
  ·rename_i hf
   have:=List.find?_eq_none.1 hf l hl
   exact absurd (Dg (show dep (An x (At g l))=n by omega)) this
section
variable {p:PP}
theorem TS (hw:Hk p=true) {s:List Int} (hs:s∈Av p):Hj (Av p) (De p) s<(Av p).length:=by
 have hb:=kg (Gi hw).1
 have hi:=List.idxOf_lt_length_of_mem hs
 have hl:(De p).length=(Av p).length:=hb.len
 have h1:=hb.dep ((Av p).idxOf s) (by show _<(De p).length;omega)
 unfold Hj
 rw [Ab hs,Nv (by omega)]
 have h2:(De p)[(Av p).idxOf s]'(by omega)<=((Av p).idxOf s:Nat):=h1.2
 omega
theorem TV (hw:Hk p=true) {s:List Int} (hs:s∈Av p):((aG p s).length:Int)=Hj (Av p) (De p) s/\(∀l∈aG p s,l∈Bk p.2.2.1.length)/\It p.2.2.1 s (aG p s)=upto p.1.toNat:=by
 have h0:=(So hw).nn s hs
 obtain ⟨a,b,c⟩:=HR (Uh hw) (So hw) (Hj (Av p) (De p) s).toNat s [] hs (by omega)
 obtain ⟨u,u1,u2⟩:=rh (g:=p.2.2.1) (dep:=Hj (Av p) (De p)) (ls:=Bk p.2.2.1.length) (Hj (Av p) (De p) s).toNat s []
 refine ⟨?_,kf _ _ _ λl hl=>(by cases hl),?_⟩
 ·unfold aG
  rw [a]
  simp only [Hr]
  omega
 ·unfold aG
  rw [u1,Nh,<-u2,c]
  exact (Qw (Gi hw).1).1
variable {t:List Int}
end
theorem AO (p:Int×ByteArray×List (List Int)×Unit) (P:List (List Int)->Prop):(∃(y2:Bool),Ti.fn ((p.1,p.2.1,p.2.2.1,()),())=some y2/\Br (!y2) (P (List.take 0 (List.drop 0 []))) (∃(y3:(List (List Int)×PUnit)×PUnit),Ji.fn (p.1,p.2.1,p.2.2.1,())=some y3/\P (List.take y3.1.1.length (List.drop 0 y3.1.1))))=fnW Fz (look [(63,Ti),(64,Ji)]) Tt Try.f14 (p,()) P:=by kernel_rfl
theorem xr (p:Int×ByteArray×List (List Int)×Unit) (s:List Int) (P:List Int->Prop):(∃(y3:Bool),Ti.fn ((p.1,p.2.1,p.2.2.1,()),())=some y3/\Br (!y3) (P (List.take 0 (List.drop 0 []))) (∃(y4:Bool),Hw.fn ((p.1,p.2.1,p.2.2.1,()),s,())=some y4/\Br (!y4) (P (List.take 0 (List.drop 0 []))) (∃(y5:(List (List Int)×PUnit)×PUnit),Ji.fn (p.1,p.2.1,p.2.2.1,())=some y5/\ ∃(y6:List Int),Sx.fn (List.take y5.1.1.length (List.drop 0 y5.1.1),s,())=some y6/\P y6)))=fnW Fz (look [(63,Ti),(67,Hw),(64,Ji),(81,Sx)]) Nf Try.f25 (p,s,()) P:=by kernel_rfl
theorem SJ (code:List Int) (P:Bool->Prop):(∃(y2:Bool),ui.fn (code,())=some y2/\Br y2 (P true) (∃(y3:(List Int×Int×Int×PUnit)×PUnit),mW.fn (code,(1118:Int),())=some y3/\ ∃(y4:(List Int×Int×Int×Int×ByteArray×List (List Int)×PUnit)×PUnit),uu.fn (y3.1.1,y3.1.2.1,y3.1.2.2.1,())=some y4/\ ∃(y5:(List Int×Int×Int×List Int×PUnit)×PUnit),uv.fn (y4.1.1,y4.1.2.1,y4.1.2.2.1,y4.1.2.2.2.1,y4.1.2.2.2.2.1,List.take y4.1.2.2.2.2.2.1.length (List.drop 0 y4.1.2.2.2.2.2.1),())=some y5/\ ∃(y6:List (List Int)),Tt.fn ((y4.1.2.2.2.1,y4.1.2.2.2.2.1,List.take y4.1.2.2.2.2.2.1.length (List.drop 0 y4.1.2.2.2.2.2.1),()),())=some y6/\Br ((↑y6.length:Int)==(0:Int)) (P false) (∃(y7:List Int),idx y6 (0:Int)=some y7/\ ∃(y8:List Int),Ol.fn (y4.1.2.2.2.1,())=some y8/\ ∃(y9:Bool),Pj.fn (y7,y8,())=some y9/\Br (!y9) (P false) (∃(cS:(List Int×Int×Int×Int×PUnit)×PUnit),Ky.fn (y5.1.1,y5.1.2.1,y5.1.2.2.1,(↑y6.length:Int),())=some cS/\ ∃(Xr:List Int),idx y6 cS.1.2.2.2.1=some Xr/\ ∃(Yv:(List Int×Bool×PUnit)×PUnit),Kc.fn (y4.1.2.2.2.1,y4.1.2.2.2.2.1,List.take y4.1.2.2.2.2.2.1.length (List.drop 0 y4.1.2.2.2.2.2.1),Xr,y5.1.2.2.2.1,())=some Yv/\ ∃(TJ:List Int×Bool×PUnit),dP.fn ((y4.1.2.2.2.1,y4.1.2.2.2.2.1,List.take y4.1.2.2.2.2.2.1.length (List.drop 0 y4.1.2.2.2.2.2.1),()),y5.1.2.2.2.1,())=some TJ/\ ∃(MF:(List Int×Bool×PUnit)×PUnit),Lb.fn (y4.1.2.2.2.1,y4.1.2.2.2.2.1,List.take y4.1.2.2.2.2.2.1.length (List.drop 0 y4.1.2.2.2.2.2.1),Xr,TJ.1,())=some MF/\ ∃(xJ:List Int×Bool×PUnit),Pr.fn ((y4.1.2.2.2.1,y4.1.2.2.2.2.1,List.take y4.1.2.2.2.2.2.1.length (List.drop 0 y4.1.2.2.2.2.2.1),()),List.take Yv.1.1.length (List.drop 0 Yv.1.1),List.take MF.1.1.length (List.drop 0 MF.1.1),())=some xJ/\ ∃(y16:Bool),Lp.fn ((y4.1.2.2.2.1,y4.1.2.2.2.2.1,List.take y4.1.2.2.2.2.2.1.length (List.drop 0 y4.1.2.2.2.2.2.1),()),Xr,())=some y16/\Br (!y16) (P false) (∃(y17:Bool),Lp.fn ((y4.1.2.2.2.1,y4.1.2.2.2.2.1,List.take y4.1.2.2.2.2.2.1.length (List.drop 0 y4.1.2.2.2.2.2.1),()),Xr,())=some y17/\Br (!y17) (P false) (Br (!Yv.1.2.1) (P false) (Br (!MF.1.2.1) (P false) (Br (!xJ.2.1) (P false) (∃(YB:Bool),aN.fn ((y4.1.2.2.2.1,y4.1.2.2.2.2.1,List.take y4.1.2.2.2.2.2.1.length (List.drop 0 y4.1.2.2.2.2.2.1),()),xJ.1,())=some YB/\Br (!YB) (P false) (Br ((↑MF.1.1.length:Int) !=(↑TJ.1.length:Int)) (P false) (∃(y19:List Int),Nf.fn ((y4.1.2.2.2.1,y4.1.2.2.2.2.1,List.take y4.1.2.2.2.2.2.1.length (List.drop 0 y4.1.2.2.2.2.2.1),()),y5.1.2.2.2.1,())=some y19/\ ∃(y20:List Int),Nf.fn ((y4.1.2.2.2.1,y4.1.2.2.2.2.1,List.take y4.1.2.2.2.2.2.1.length (List.drop 0 y4.1.2.2.2.2.2.1),()),List.take Yv.1.1.length (List.drop 0 Yv.1.1),())=some y20/\ ∃(y21:Bool),Pj.fn (y19,y20,())=some y21/\Br y21 (∃(y22:List Int),Nf.fn ((y4.1.2.2.2.1,y4.1.2.2.2.2.1,List.take y4.1.2.2.2.2.2.1.length (List.drop 0 y4.1.2.2.2.2.2.1),()),y19,())=some y22/\ ∃(y23:Bool),Pj.fn (y19,y22,())=some y23/\Br y23 (∃(y24:Bool),dN.fn ((y4.1.2.2.2.1,y4.1.2.2.2.2.1,List.take y4.1.2.2.2.2.2.1.length (List.drop 0 y4.1.2.2.2.2.2.1),()),y5.1.2.2.2.1,List.take Yv.1.1.length (List.drop 0 Yv.1.1),())=some y24/\Br y24 (∃(y25:Int),dM.fn ((y4.1.2.2.2.1,y4.1.2.2.2.2.1,List.take y4.1.2.2.2.2.2.1.length (List.drop 0 y4.1.2.2.2.2.2.1),()),List.take Yv.1.1.length (List.drop 0 Yv.1.1),())=some y25/\ ∃(y26:Int),dM.fn ((y4.1.2.2.2.1,y4.1.2.2.2.2.1,List.take y4.1.2.2.2.2.2.1.length (List.drop 0 y4.1.2.2.2.2.2.1),()),y5.1.2.2.2.1,())=some y26/\P (y25==y26)) (P false)) (P false)) (P false))))))))))))=fnW (RR [dS+4,gk]) (look [(10,ui),(11,mW),(12,uu),(13,uv),(14,Tt),(16,Ol),(15,Pj),(17,Ky),(18,Kc),(19,dP),(20,Lb),(21,Pr),(22,Lp),(23,Lp),(24,aN),(25,Nf),(26,dN),(27,dM)]) EK Try.f3 (code,()) P:=by kernel_rfl
theorem zr (p:PP) (h:Gq p):fnW Fz (look [(63,Ti),(64,Ji)]) Tt Try.f14 (p,()) (λ(z:List (List Int))=>z=w5 p):=by
 refine Eq.mp (AO p _) ⟨_,Ab h,?_⟩
 unfold w5
 show Br (!Nw p) _ _
 refine Br.of (λhb=>by rw [Ai (Ga hb)];rfl) λhb=>?_
 have hb:=Fe hb
 rw [Ab hb]
 have e:Ji.fn (p.1,p.2.1,p.2.2.1,())=some ((Cx p,()),()):=Ab (cM.1 hb)
 refine ⟨_,e,?_⟩
 rw [Di]
theorem oF:Sound Try.prog 14 Tt:=
 Sound.Hg Ef (Au Yu (Hl aP Bt)) mixed Try.func14 (by kernel_rfl) (by kernel_rfl) λx h=>zr x.1 h
theorem wg (p:PP) (s:List Int) (h:Gq p/\short s):fnW Fz (look [(63,Ti),(67,Hw),(64,Ji),(81,Sx)]) Nf Try.f25 (p,s,()) (λ(z:List Int)=>z=qh p s):=by
 refine Eq.mp (xr p s _) ⟨_,Ab h.1,?_⟩
 unfold qh
 show Br (!Nw p) _ _
 refine Br.of (λhb=>by rw [Ai (λhh=>Ga hb hh.1)];rfl) λhb=>?_
 have hb:=Fe hb
 refine ⟨_,Ab h.2,?_⟩
 show Br (!Cj p.1 s) _ _
 refine Br.of (λhc=>by rw [Ai (λhh=>Ga hc hh.2)];rfl) λhc=>?_
 have hc:=Fe hc
 rw [Ab ⟨hb,hc⟩]
 have e:Ji.fn (p.1,p.2.1,p.2.2.1,())=some ((Cx p,()),()):=Ab (cM.1 hb)
 refine ⟨_,e,?_⟩
 rw [Di]
 exact ⟨_,Ab (kh hb hc),rfl⟩
theorem nc:Sound Try.prog 25 Nf:=
 Sound.Hg Ef (Au Yu (Au Pk (Hl aP (Au lP Bt)))) mixed Try.func25 (by kernel_rfl) (by kernel_rfl) λx h=>wg x.1 x.2.1 h
theorem uI {n:Nat} {w:List Int} (h8:n<=8) (hl:w.length<=200) (h: ∀y∈w,Fb n y):Gc (n:Int) w=true:=by
 refine Bm.2 ⟨Dg hl,?_⟩
 cases e:List.any w λy=>!ma (aj (n:Int)) y with
 |false=>rfl
 |true=>
  obtain ⟨y,hy,h1⟩:=Eu.1 e
  have h2:=h y hy
  have:ma (aj (n:Int)) y=true:=by
   unfold Fb at h2
   have e8:aj (n:Int)=n:=Ai (by omega)
   rw [e8]
   exact Dg h2
  rw [this] at h1
  cases h1
theorem EY {p:PP} (hv:Bc p=true): ∃M,Cx p=upto p.1.toNat::M:=by
 obtain ⟨M,hM⟩:=(ru p.1.toNat).head
 have h1:=(Bv.1 (zV hv)).2
 refine ⟨M.filter (Ml p),?_⟩
 unfold Cx
 rw [hM,List.filter_cons_of_pos h1]
theorem QM (code:List Int) (h:vf code):fnW (RR [dS+4,gk]) (look [(10,ui),(11,mW),(12,uu),(13,uv),(14,Tt),(16,Ol),(15,Pj),(17,Ky),(18,Kc),(19,dP),(20,Lb),(21,Pr),(22,Lp),(23,Lp),(24,aN),(25,Nf),(26,dN),(27,dM)]) EK Try.f3 (code,()) (λ(z:Bool)=>z=true):=by
 refine Eq.mp (SJ code _) ⟨_,Ab trivial,Br.dec (λ_=>rfl) λhb=>?_⟩
 have hb: ¬(code.length:Int)>4096:=hb
 have ZA:=Ah9 h hb
 refine ⟨_,Ab (show code.length<=4096 by omega),_,Ab ZA,?_⟩
 obtain ⟨hp,WW⟩:=FF ZA (mH code 1118)
 obtain ⟨W,hW⟩: ∃W,Zb code 0 (mH code 1118)=W:=⟨_,rfl⟩
 rw [hW] at hp WW
 simp only [hW,Di]
 obtain ⟨i1,h1,n,str,g,u⟩:=W
 obtain rfl:u=():=rfl
 dsimp only at hp WW⊢
 clear hW
 have hs:=hp.short
 have hw:=hp.whole
 refine ⟨_,Ab ⟨WW,hs,hp.valid,hp.two⟩,?_⟩
 obtain ⟨hd3,Up⟩:=Ab3 hp WW h1
 obtain ⟨W,hW⟩: ∃W,lv code i1 h1 (n,str,g,())=W:=⟨_,rfl⟩
 rw [hW] at hd3 Up
 simp only [hW]
 obtain ⟨i3,h3,s⟩:=W
 dsimp only at hd3 Up⊢
 clear hW
 have hv:=hp.valid
 have hV:=valid hv
 have hsm:Nw (n,str,g,())=true:=cM.2 ⟨hv,by have:=hp.hi;show n<=7;have:n<=5:=this;omega⟩
 have hn:1<=n/\n<=20:=hV.n
 obtain ⟨M,hM⟩:=EY hv
 have hM:Cx (n,str,g,())=upto (Int.toNat n)::M:=hM
 have e6:Tt.fn ((n,str,g,()),())=some (Cx (n,str,g,())):=(Ab hs).trans (Jt some (Ab hsm))
 have UI:Pm (Int.toNat n) (upto (Int.toNat n)):=Pm.id (by omega) (by omega)
 refine ⟨_,e6,Br.of (λhh=>by rw [hM] at hh;simp at hh;omega) λ_=>?_⟩
 have e7:idx (Cx (n,str,g,())) 0=some (upto (Int.toNat n)):=by rw [hM];rfl
 refine ⟨_,e7,_,Ab hn,_,Ab ⟨Sw UI,Sw UI⟩,Br.of (λhh=>?_) λ_=>?_⟩
 ·have:(!decide (upto (Int.toNat n)=upto (Int.toNat n)))=true:=hh
  simp at this
 have hlen:0<(Cx (n,str,g,())).length:=by rw [hM];simp
 obtain ⟨r1,r2⟩:=en hd3 (n:=((Cx (n,str,g,())).length:Int)) (by omega) h3
 have e10:Ky.fn (code,i3,h3,((Cx (n,str,g,())).length:Int),())=some ((code,dI code i3,hN h3,dR code i3 h3 ((Cx (n,str,g,())).length:Int),()),()):=Ab ⟨hd3,by show (1:Int)<=((Cx (n,str,g,())).length:Int);omega⟩
 refine ⟨_,e10,?_⟩
 obtain ⟨k,hk⟩: ∃k,dR code i3 h3 ((Cx (n,str,g,())).length:Int)=k:=⟨_,rfl⟩
 rw [hk] at r1 r2
 simp only [hk]
 have e11:idx (Cx (n,str,g,())) k=some ((Cx (n,str,g,()))[k.toNat]'(by omega)):=by
  have:=Df (xs:=Cx (n,str,g,())) (j:=k.toNat) (by omega)
  rwa [Int.toNat_of_nonneg r1] at this
 obtain ⟨q,hq⟩: ∃q,(Cx (n,str,g,()))[k.toNat]'(by omega)=q:=⟨_,rfl⟩
 rw [hq] at e11
 have OV:q∈Cx (n,str,g,()):=by rw [<-hq];exact Ak _
 clear hq
 obtain ⟨q1,_⟩:=(Li hv).1 OV
 have hqs:=(Bv.1 OV).2
 have IY:=jX hV q1
 have IZ:=jX hV (Wb hv Up)
 have hsq:Ss (n,str,g,()) q=true:=Bm.2 ⟨Bm.2 ⟨hv,IY⟩,hqs⟩
 have hso:Oi (n,str,g,()) q s=true:=Bm.2 ⟨hsq,IZ⟩
 have hss:short s:=Sw (Wb hv Up)
 have ZU:short q:=Sw q1
 obtain ⟨T,hT⟩: ∃T,Cc s q=T:=⟨_,rfl⟩
 have hTs:T∈Av (n,str,g,()):=hT▸il hw OV Up
 have Acl:short T:=Sw (Wb hv hTs)
 have hpT:=jX hV (Wb hv hTs)
 have e12:Kc.fn (n,str,g,q,s,())=some ((T,true,()),()):=(Ab ⟨hs,ZU,hss⟩).trans (Jt some (by
  show ((Pe (n,str,g,()) q s,Oi (n,str,g,()) q s,()),())=_
  rw [hso]
  unfold Pe
  rw [Ab hso,hT]))
 obtain ⟨d1,d2,d3⟩:=TV hw Up
 have hdf:=TS hw Up
 have CH:=Aat hv hp.hi
 obtain ⟨D,hD⟩: ∃D,aG (n,str,g,()) s=D:=⟨_,rfl⟩
 rw [hD] at d1 d2 d3
 have WY:=hp.Ac7 Up
 have e13:dP.fn ((n,str,g,()),s,())=some (D,true,()):=(Ab ⟨hs,hss⟩).trans (Jt some (by
  show lr (n,str,g,()) s=_
  unfold lr
  rw [Ab (Bm.2 ⟨hp.found Up,Dg (by rw [WY];omega)⟩),hD]))
 have WL: ∀l∈D,Fb (List.length g) l:= λl hl=>Fk (d2 l hl)
 have hg8:g.length<=8:=hV.oM.2
 have hDv:Gc ((List.length g:Nat):Int) D=true:=uI hg8 (by omega) WL
 obtain ⟨w1,w2⟩:=m6 (p:=(n,str,g,())) hsq hDv
 have Ahg:short D:=by show D.length<=4294967296;omega
 obtain ⟨V,hVd⟩: ∃V,D.map (Jh (n,str,g,()) q)=V:=⟨_,rfl⟩
 rw [hVd] at w1
 have hVl: ∀l∈V,Fb (List.length g) l:= λl hl=>by
  rw [<-hVd] at hl
  obtain ⟨l',Nt,rfl⟩:=Bo.1 hl
  exact Fk (cz hv OV (d2 l' Nt)).1
 have Acm:V.length=D.length:=by rw [<-hVd,Jv]
 have hVv:Gc ((List.length g:Nat):Int) V=true:=uI hg8 (by omega) hVl
 have e14:Lb.fn (n,str,g,q,D,())=some ((V,true,()),()):=(Ab ⟨hs,ZU,Ahg⟩).trans (Jt some (by
  show ((Qz (n,str,g,()) q D,Su (n,str,g,()) q D,()),())=_
  rw [w1,w2]))
 have Ai7:It g T V=upto (Int.toNat n):=by
  have:=pq hw OV D s d2 Up
  rw [hT,hVd,d3,kE q1] at this
  exact this
 have e15:Pr.fn ((n,str,g,()),T,V,())=some (upto (Int.toNat n),true,()):=(Ab ⟨hs,hv,Wb hv hTs,hVv⟩).trans (Jt some (by
  show (It g T V,true,())=_
  rw [Ai7]))
 have e16:Lp.fn ((n,str,g,()),q,())=some true:=(Ab ⟨hs,ZU⟩).trans (Jt some hsq)
 have e18:aN.fn ((n,str,g,()),upto (Int.toNat n),())=some true:=(Ab ⟨hs,Sw UI⟩).trans (Jt some (by
  show gg (n,str,g,()) (upto (Int.toNat n))=true
  unfold gg
  rw [hv,jX hV UI]
  exact Dg rfl))
 obtain ⟨c,hc⟩: ∃c,Hb (Cx (n,str,g,())) s=c:=⟨_,rfl⟩
 have rI:c∈Av (n,str,g,()):=hc▸yd hw Up
 have Acv:short c:=Sw (Wb hv rI)
 have hcT:Hb (Cx (n,str,g,())) T=c:=by rw [<-hT,pB hw Up OV,hc]
 have YW:Hb (Cx (n,str,g,())) c=c:=by
  have:=BN hw Up
  rwa [hc] at this
 have YV: ∀x,x∈Av (n,str,g,())->Nf.fn ((n,str,g,()),x,())=some (Hb (Cx (n,str,g,())) x):= λx hx=>(Ab ⟨hs,Sw (Wb hv hx)⟩).trans (Jt some (Ab ⟨hsm,jX hV (Wb hv hx)⟩))
 have e19:=YV s Up
 have e20:=YV T hTs
 have e22:=YV c rI
 rw [hc] at e19
 rw [hcT] at e20
 rw [YW] at e22
 have elk:Pj.fn (c,c,())=some true:=(Ab ⟨Acv,Acv⟩).trans (Jt some (Dg rfl))
 have e24:dN.fn ((n,str,g,()),s,T,())=some true:=(Ab ⟨hs,hss,Acl⟩).trans (Jt some (by
  show Zo (n,str,g,()) s T=true
  unfold Zo
  rw [hsm,hc,hcT]
  show ((true&&Cj (n,str,g,()).1 s)&&Cj (n,str,g,()).1 T&&decide (c=c))=true
  rw [IZ,hpT,Dg rfl]
  rfl))
 have e25:dM.fn ((n,str,g,()),T,())=some (Hj (Av (n,str,g,())) (De (n,str,g,())) s):=(Ab ⟨hs,Acl⟩).trans (Jt some (by
  show aF (n,str,g,()) T=_
  rw [hp.Ac7 hTs,<-hT,NR hw OV Up]))
 have e26:dM.fn ((n,str,g,()),s,())=some (Hj (Av (n,str,g,())) (De (n,str,g,())) s):=(Ab ⟨hs,hss⟩).trans (Jt some WY)
 refine ⟨_,e11,_,e12,_,e13,_,e14,?_⟩
 refine ⟨_,e15,_,e16,Br.of (λhh=>by cases hh) λ_=>⟨_,e16,Br.of (λhh=>by cases hh) λ_=>Br.of (λhh=>by cases hh) λ_=>Br.of (λhh=>by cases hh) λ_=>Br.of (λhh=>by cases hh) λ_=>⟨_,e18,Br.of (λhh=>by cases hh) λ_=>?_⟩⟩⟩
 refine Br.of (λhh=>by rw [Acm] at hh;simp at hh) λ_=>⟨_,e19,_,e20,_,elk,Br.of (λ_=>⟨_,e22,_,elk,Br.of (λ_=>⟨_,e24,Br.of (λ_=>⟨_,e25,_,e26,beq_self_eq_true _⟩) λhh=>by cases hh⟩) λhh=>by cases hh⟩) λhh=>by cases hh⟩
theorem wW:Sound Try.prog 3 EK:=
 Sound.Hg (RS [dS+4,gk]) (Au KR (Hl ES (Hl KY (Hl KZ (Au oF (Au lU (Au qZ (Hl bz (Hl gC (Au zM (Hl iz (Au lO (Au oG (Au Yt (Au qV (Au nc (Au oE (Au EP Bt)))))))))))))))))) mixed Try.func3 (by kernel_rfl) (by kernel_rfl) λx h=>QM x.1 h
end Go.Proofs.Ytkkdpknjohcekaa
