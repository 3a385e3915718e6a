/-
  Part 46 of the proof that the statement FnTwoPhase holds.
-/
import Derived.Test.YtkkdpknjohcekaaCFTwoPhase44
namespace Go.Proofs.Ytkkdpknjohcekaa
open Go.RowKit
section
variable {Q:List Int->Prop} {code:List Int->Nat} {B:Nat}
theorem YR (inj: ∀x y,Q x->Q y->code x=code y->x=y) (lt: ∀x,Q x->code x<B) {L:List (List Int)} (hQ: ∀y∈L,Q y) (hn:L.Nodup):L.length<=B:=by
 have h1:(L.map code).Nodup:=by
  unfold List.Nodup
  rw [List.pairwise_map]
  exact ik (λha hb Ip he=>Ip (inj _ _ (hQ _ ha) (hQ _ hb) he)) hn
 have h2:=Ug h1 (l2:=List.range B) λx hx=>by
  obtain ⟨y,hy,rfl⟩:=Be.1 hx
  exact Fb.2 (lt y (hQ y hy))
 simpa using h2
theorem m6 (hB:B<3000) (inj: ∀x y,Q x->Q y->code x=code y->x=y) (lt: ∀x,Q x->code x<B) {g:List (List Int)} {x:List Int} {d:Int} :
  ∀(ls:List Int) (L:List (List Int)) (D:List Int),(∀l∈ls,Q (Ak x (Av g l)))->(∀y∈L,Q y)->L.Nodup->
   (Ih g x d ls L D).2.2=true/\(∀y∈(Ih g x d ls L D).1,Q y)/\(Ih g x d ls L D).1.Nodup
 | [],L,D,_,hQ,hn=>⟨rfl,hQ,hn⟩
 |l::ls,L,D,hl,hQ,hn=>by
  have Ll: ∀l∈ls,Q (Ak x (Av g l)):= λl h=>hl l (As _ h)
  rw [Ih]
  split
  ·exact m6 hB inj lt ls L D Ll hQ hn
  ·rename_i hni
   have:=YR inj lt hQ hn
   rw [Ai (by omega)]
   refine m6 hB inj lt ls _ _ Ll (λy hy=>?_) ?_
   ·rcases Az.1 hy with h|h
    ·exact hQ y h
    ·rw [Af.1 h];exact hl l (by simp)
   ·rw [Dz]
    exact ⟨hn,by simp,λa ha b hb e=>hni (by rw [Af.1 hb] at e;rw [<-e];exact ha)⟩
theorem sL (hB:B<3000) (inj: ∀x y,Q x->Q y->code x=code y->x=y) (lt: ∀x,Q x->code x<B) {g:List (List Int)} {ls:List Int} (step: ∀x,Q x-> ∀l∈ls,Q (Ak x (Av g l))):
  ∀(f k:Nat) (L:List (List Int)) (D:List Int),(∀y∈L,Q y)->L.Nodup->(Le g ls f k L D).2.2=true
 |0,_,_,_,_,_=>rfl
 |f+1,k,L,D,hQ,hn=>by
  rw [Le]
  split
  ·rename_i hk
   have hx:Q (L.getD k []):=by
    rw [Al,Ad hk]
    exact hQ _ (Am hk)
   obtain ⟨h1,h2,h3⟩:=m6 hB inj lt (d:=D.getD k 0) ls L D (step _ hx) hQ hn
   generalize Ih g (L.getD k []) (D.getD k 0) ls L D=r at h1 h2 h3
   obtain ⟨L',D',b⟩:=r
   have h1:b=true:=h1
   subst h1
   exact sL hB inj lt step f (k+1) L' D' h2 h3
  ·rfl
theorem YK (hB:B<3000) (inj: ∀x y,Q x->Q y->code x=code y->x=y) (lt: ∀x,Q x->code x<B) {g:List (List Int)} {s:List Int} (hs:Q s)
  (step: ∀x,Q x-> ∀l∈Ao g.length,Q (Ak x (Av g l))):(Jc g s).2.2=true:=
 sL hB inj lt step _ _ _ _ (λy hy=>by rw [Af.1 hy];exact hs) (by simp)
end
def xf (x:List Int):Nat:=(Cu x 0+5*Cu x 1+25*Cu x 2+125*Cu x 3).toNat
theorem ZC {x:List Int} {k:Nat} (h:x.length<=k):Cu x (k:Int)=0:=by
 unfold Cu
 rw [Ac,Al,Ds h]
 rfl
theorem Ql {n:Nat} {x:List Int} (hn:n<=5) (h:Pm n x) (k:Nat):0<=Cu x (k:Int)/\Cu x (k:Int)<5:=by
 by_cases hk:k<n
 ·have:=h.Re hk
  omega
 ·rw [ZC (by rw [h.1];omega)]
  decide
theorem NO {n:Nat} {x:List Int} (hn:n<=5) (h:Pm n x):xf x<625:=by
 have h0:=Ql hn h 0
 have h1:=Ql hn h 1
 have h2:=Ql hn h 2
 have h3:=Ql hn h 3
 simp only [Int.natCast_zero] at h0
 unfold xf
 have e1:((1:Nat):Int)=1:=rfl
 have e2:((2:Nat):Int)=2:=rfl
 have e3:((3:Nat):Int)=3:=rfl
 rw [e1] at h1;rw [e2] at h2;rw [e3] at h3
 omega
theorem HR {n:Nat} (hn:n<=5) (x y:List Int) (hx:Pm n x) (hy:Pm n y) (e:xf x=xf y):x=y:=by
 have e1:((1:Nat):Int)=1:=rfl
 have e2:((2:Nat):Int)=2:=rfl
 have e3:((3:Nat):Int)=3:=rfl
 have a0:=Ql hn hx 0
 have a1:=Ql hn hx 1
 have a2:=Ql hn hx 2
 have a3:=Ql hn hx 3
 have b0:=Ql hn hy 0
 have b1:=Ql hn hy 1
 have b2:=Ql hn hy 2
 have b3:=Ql hn hy 3
 simp only [Int.natCast_zero] at a0 b0
 rw [e1] at a1 b1;rw [e2] at a2 b2;rw [e3] at a3 b3
 unfold xf at e
 have low: ∀i:Nat,i<4->Cu x (i:Int)=Cu y (i:Int):=by
  intro i hi
  match i,hi with
  |0,_=>simp only [Int.natCast_zero];omega
  |1,_=>rw [e1];omega
  |2,_=>rw [e2];omega
  |3,_=>rw [e3];omega
 have Apf: ∀i,i<4->ap x i=ap y i:= λi hi=>by unfold ap;rw [low i hi]
 refine hx.ext hy λi hi=>?_
 by_cases h4:i<4
 ·exact Apf i h4
 ·obtain ⟨j,hj,hjx⟩:=hy.UN (hx.lt hi)
  by_cases hj4:j<4
  ·rw [<-Apf j hj4] at hjx
   have:=hx.inj hj hi hjx
   omega
  ·have:j=i:=by omega
   rw [this] at hjx
   exact hjx.symm
theorem JO {p:PP} (hv:Cd p=true) (h5:p.1<=5):Cy p=true:=by
 have hV:=valid hv
 have hn:=hV.n
 refine Dp.2 ⟨hv,YK (Q:=Pm p.1.toNat) (code:=xf) (B:=625) (by decide) (HR (by omega)) (λx hx=>NO (by omega) hx) (Pm.id (by omega) (by omega)) λx hx l hl=>?_⟩
 exact hx.comp (ku hV (Iz hl))
theorem Afv {n a c:Nat} {mv:List Int} (h:Pm n mv) (ha:a<n) (hc:c<n):Pm n ((mv.set a (Cu mv (c:Int))).set c (Cu mv (a:Int))):=by
 have hA:=(h.Re ha).1
 have hC:=(h.Re hc).1
 refine Pm.of (by simp only [Bv];exact h.1) h.n1 h.n2 (λk=>if k=c then ap mv a else if k=a then ap mv c else ap mv k) (λi hi=>?_) λi j hi hj e=>?_
 ·rw [Ei,Ei,Bv,h.1]
  by_cases h1:c=i
  ·rw [Ab h1,Ab hc,Ab (show i=c from h1.symm)]
   exact ⟨by rw [hA],h.lt ha⟩
  ·rw [Ai h1,Ai (show ¬i=c from λe=>h1 e.symm)]
   by_cases h2:a=i
   ·rw [Ab h2,Ab ha,Ab (show i=a from h2.symm)]
    exact ⟨by rw [hC],h.lt hc⟩
   ·rw [Ai h2,Ai (show ¬i=a from λe=>h2 e.symm)]
    have cM:i<mv.length:=by rw [h.1];exact hi
    have:=(h.Re hi).1
    rw [Ku cM] at this
    rw [Ad cM,this]
    exact ⟨rfl,h.lt hi⟩
 ·by_cases i1:i=c
  ·rw [Ab i1] at e
   by_cases j1:j=c
   ·rw [i1,j1]
   ·rw [Ai j1] at e
    by_cases j2:j=a
    ·rw [Ab j2] at e
     have:=h.inj ha hc e
     rw [i1,j2,this]
    ·rw [Ai j2] at e
     exact absurd (h.inj ha hj e).symm j2
  ·rw [Ai i1] at e
   by_cases i2:i=a
   ·rw [Ab i2] at e
    by_cases j1:j=c
    ·rw [Ab j1] at e
     have:=h.inj hc ha e
     rw [i2,j1,this]
    ·rw [Ai j1] at e
     by_cases j2:j=a
     ·rw [i2,j2]
     ·rw [Ai j2] at e
      exact absurd (h.inj hc hj e).symm j1
   ·rw [Ai i2] at e
    by_cases j1:j=c
    ·rw [Ab j1] at e
     exact absurd (h.inj hi ha e) i2
    ·rw [Ai j1] at e
     by_cases j2:j=a
     ·rw [Ab j2] at e
      exact absurd (h.inj hi hc e) i1
     ·rw [Ai j2] at e
      exact h.inj hi hj e
theorem yw {b:List Int} {n:Int} (hn:1<=n): ∀(k:Nat) (i h:Int) (mv:List Int),eV b i->Pm n.toNat mv->Pm n.toNat (gm b n k i h mv).2.2
 |0,_,_,_,_,hm=>hm
 |k+1,i,h,mv,hd,hm=>by
  have r1:=gC hd hn h
  have r2:=gC hd.next hn (hN h)
  rw [gm]
  refine yw hn k _ _ _ hd.next.next ?_
  have:=Afv hm (a:=(dR b i h n).toNat) (c:=(dR b (dI b i) (hN h) n).toNat) (by omega) (by omega)
  rw [Rp r1.1,Rp r2.1] at this
  exact this
theorem GQ {b:List Int} {n:Int} (hn:1<=n) (hn2:n<=20): ∀(k:Nat) (i h:Int) (ms:List (List Int)),eV b i->(∀m∈ms,Pm n.toNat m)-> ∀m∈(aJ b n k i h ms).2.2,Pm n.toNat m
 |0,_,_,_,_,hm=>hm
 |k+1,i,h,ms,hd,hm=>by
  rw [aJ]
  refine GQ hn hn2 k _ _ _ (u9 hd h) λm hmm=>?_
  rcases Az.1 hmm with h1|h1
  ·exact hm m h1
  ·rw [Af.1 h1]
   exact yw hn _ _ _ _ hd.next (Pm.id (by omega) (by omega))
theorem Aav:bq Aax=true:=by
 refine Gk.2 ⟨by decide,λj hj=>?_⟩
 have hj:j<2:=hj
 match j,hj with
 |0,_=>exact ⟨65,rfl,by decide,by decide,λk hk=>by omega⟩
 |1,_=>exact ⟨66,rfl,by decide,by decide,λk hk=>(by have e:k=0:=(by omega);rw [e];decide)⟩
structure dq (p:PP):Prop where
 valid:Cd p=true
 two:p.2.2.1.length=2
 lo:3<=p.1
 hi:p.1<=5
 short:Gb p
theorem PE {b:List Int} {i:Int} (hd:eV b i) (h:Int):dq (aI b i h).2.2/\eV b (aI b i h).1:=by
 have hr:=gC hd (show (1:Int)<=3 by decide) h
 obtain ⟨n,hn⟩: ∃n,3+dR b i h 3=n:=⟨_,rfl⟩
 have h2:=RW b n 2 (dI b i) (hN h) []
 have h3:=GQ (b:=b) (n:=n) (by omega) (by omega) 2 (dI b i) (hN h) [] hd.next (λm hm=>by cases hm)
 have h4:=RV n 2 (dI b i) (hN h) [] hd.next
 unfold aI
 rw [hn]
 generalize aJ b n 2 (dI b i) (hN h) []=R at h2 h3 h4
 obtain ⟨i',h',ms⟩:=R
 dsimp only at h2 h3 h4⊢
 simp only [Dv,Ed] at h2
 refine ⟨⟨Gk.2 ⟨Gk.2 ⟨⟨by show 1<=n;omega,by show n<=20;omega⟩,by show ms.length<=8;omega,λm hm=>?_⟩,Aav,by show 2=ms.length;omega⟩,h2,by show 3<=n;omega,by show n<=5;omega,⟨by show 2<=4294967296;decide,by show ms.length<=4294967296;omega,λm hm=>?_⟩⟩,h4⟩
 ·have:=h3 m hm
  have h5:=this.1
  exact Gk.2 ⟨by omega,xC this.2⟩
 ·exact ab (h3 m hm)
noncomputable def tS (p:PP) (s w:List Int):List Int×Bool×Unit:=(Dr p.2.2.1 s w,true,())
noncomputable abbrev Nb:Spec:=Hg (.pair Iw (.pair tL (.pair tL .unit))) (.pair tL (.pair .bool .unit)) true true (λx=>Gb x.1/\Cd x.1=true/\Pm x.1.1.toNat x.2.1/\Jd (List.length x.1.2.2.1:Nat) x.2.2.1=true) (λx=>tS x.1 x.2.1 x.2.2.1)
noncomputable def o7 (b:List Int) (i h:Int) (p:PP):Int×Int×List Int:=((Vq b i h 2 8).1,(Vq b i h 2 8).2.1,(tS p (upto p.1.toNat) (Vq b i h 2 8).2.2).1)
noncomputable abbrev Apb:MSpec:= {ptr:=some (75,3),Jy:= [some 3],ins:= [(false, .Gw tB),(false, .Gw tI),(false, .Gw XS),(false, .Gw tI),(false, .Gw .str),(false, .Gw yz)],Ij:=false,Iu:= [none],outs:= [.Gw tB, .Gw tI, .Gw XS, .Gw tL],fn:= λ_=>none}
noncomputable abbrev ym:MSpec:=oP Apb (λx=>eV x.1 x.2.1/\Gb (x.2.2.2.1,x.2.2.2.2.1,x.2.2.2.2.2.1,())/\Cd (x.2.2.2.1,x.2.2.2.2.1,x.2.2.2.2.2.1,())=true/\List.length x.2.2.2.2.2.1=2) (λx=>((x.1,(o7 x.1 x.2.1 x.2.2.1 (x.2.2.2.1,x.2.2.2.2.1,x.2.2.2.2.2.1,())).1,(o7 x.1 x.2.1 x.2.2.1 (x.2.2.2.1,x.2.2.2.2.1,x.2.2.2.2.2.1,())).2.1,(o7 x.1 x.2.1 x.2.2.1 (x.2.2.2.1,x.2.2.2.2.1,x.2.2.2.2.2.1,())).2.2,()),()))
theorem XA (g:List (List Int)) (l:Int) (P:List Int->Prop):(Br (decide (l<(0:Int))) (∃(y3:List Int),idx g (IntKind.i64.wrap (IntKind.i64.wrap ((0:Int)-l)-(1:Int)))=some y3/\ ∃(y4:List Int),Hs.fn (y3,())=some y4/\P y4) (∃(y3:List Int),idx g (IntKind.i64.wrap (l-(1:Int)))=some y3/\P y3))=fnW Gz (look [(190,Hs)]) Ma Try.f149 (g,l,()) P:=by kernel_rfl
theorem PR (n:Int) (g:List (List Int)) (w:List Int) (P:List Int->Prop):(∃(y4:List Int),Dn.fn (n,())=some y4/\Ea (λ(v5:List Int×Int×PUnit) (k6:List Int×Int×PUnit->Prop)=>Br (decide (v5.2.1<(↑w.length:Int))) (∃(y7:Int),idx w v5.2.1=some y7/\ ∃(y8:List Int),Ma.fn (g,y7,())=some y8/\ ∃(y9:List Int),La.fn (v5.1,y8,())=some y9/\k6 (y9,IntKind.i64.wrap (v5.2.1+(1:Int)),())) (P v5.1)) (y4,(0:Int),PUnit.unit))=fnW Gz (look [(66,Dn),(75,La),(149,Ma)]) Yv Try.f76 (n,g,w,()) P:=by kernel_rfl
theorem Acs (p:Int×ByteArray×List (List Int)×Unit) (s w:List Int) (P:(List Int×Bool×Unit)->Prop):(∃(y4:Bool),Lb.fn ((p.1,p.2.1,p.2.2.1,()),s,())=some y4/\Br (!y4) (P (List.take 0 (List.drop 0 []),false,())) (∃(y5:Bool),eN.fn ((↑p.2.2.1.length:Int),w,())=some y5/\Br (!y5) (P (List.take 0 (List.drop 0 []),false,())) (∃(y6:List Int),Yv.fn (p.1,p.2.2.1,w,())=some y6/\ ∃(y7:List Int),La.fn (s,y6,())=some y7/\P (y7,true,()))))=fnW Gz (look [(73,Lb),(74,eN),(75,La),(76,Yv)]) Nb Try.f21 (p,s,w,()) P:=by kernel_rfl
abbrev OW:Type:=(List Int×Int×Int×List Int×PUnit)×PUnit
abbrev zS (b:List Int) (i:Int) (h:Int) (n:Int) (str:ByteArray) (g:List (List Int)) (aC:List Int) (y8:OW) (y9:List Int×Bool×PUnit) (y7:List Int):Prop:= ∃(Th:OW),qV.fn (b,i,h,(2:Int),(8:Int),())=some Th/\ ∃(Xp:List Int×Bool×PUnit),Nb.fn ((n,str,g,()),aC,List.take Th.1.2.2.2.1.length (List.drop 0 Th.1.2.2.2.1),())=some Xp/\(([(0,0),(0,Th.1.2.2.2.1.length)]= [(0,0),(0,y8.1.2.2.2.1.length)]/\(n,str,g,Xp.1,Xp.2.1,Xp,n,str,g,n,aC,Xp,Xp.1,Xp.2.1,n,str,g,([]:List Int),Th.1.2.2.2.1,Th.1.1,Th.1.2.1,Th.1.2.2.1,())=(n,str,g,y9.1,y9.2.1,y9,n,str,g,n,y7,y9,y9.1,y9.2.1,n,str,g,([]:List Int),y8.1.2.2.2.1,y8.1.1,y8.1.2.1,y8.1.2.2.1,PUnit.unit))/\ [(0,0),(0,Th.1.2.2.2.1.length)]= [(0,0),(0,y8.1.2.2.2.1.length)]/\(n,str,g,Xp.1,Xp.2.1,Xp,n,str,g,n,aC,Xp,Xp.1,Xp.2.1,n,str,g,([]:List Int),Th.1.2.2.2.1,Th.1.1,Th.1.2.1,Th.1.2.2.1,())=(n,str,g,y9.1,y9.2.1,y9,n,str,g,n,y7,y9,y9.1,y9.2.1,n,str,g,([]:List Int),y8.1.2.2.2.1,y8.1.1,y8.1.2.1,y8.1.2.2.1,PUnit.unit))/\ [(0,0),(0,Th.1.2.2.2.1.length)]= [(0,0),(0,y8.1.2.2.2.1.length)]/\(n,str,g,Xp.1,Xp.2.1,Xp,n,str,g,n,aC,Xp,Xp.1,Xp.2.1,n,str,g,([]:List Int),Th.1.2.2.2.1,Th.1.1,Th.1.2.1,Th.1.2.2.1,())=(n,str,g,y9.1,y9.2.1,y9,n,str,g,n,y7,y9,y9.1,y9.2.1,n,str,g,([]:List Int),y8.1.2.2.2.1,y8.1.1,y8.1.2.1,y8.1.2.2.1,PUnit.unit)
theorem Aqb (b:List Int) (i h n:Int) (str:ByteArray) (g:List (List Int)) (P:((List Int×Int×Int×List Int×Unit)×Unit)->Prop):(∃(y7:List Int),Uh.fn (n,())=some y7/\ ∃(y8:OW),qV.fn (b,i,h,(2:Int),(8:Int),())=some y8/\ ∃(y9:List Int×Bool×PUnit),Nb.fn ((n,str,g,()),y7,List.take y8.1.2.2.2.1.length (List.drop 0 y8.1.2.2.2.1),())=some y9/\P ((y8.1.1,y8.1.2.1,y8.1.2.2.1,y9.1,()),())/\(∃(aC:List Int),Uh.fn (n,())=some aC/\(zS b i h n str g aC y8 y9 y7))/\(∃(aC:List Int),Uh.fn (n,())=some aC/\(zS b i h n str g aC y8 y9 y7))/\ ∃(aC:List Int),Uh.fn (n,())=some aC/\((zS b i h n str g aC y8 y9 y7))/\(zS b i h n str g aC y8 y9 y7))=fnMW (CB [dY+4]) (look [(62,qV),(16,Uh),(21,Nb)]) ym Try.f13 (b,i,h,n,str,g,()) P:=by kernel_rfl
theorem VF (g:List (List Int)) (l:Int) (h:Fy (List.length g) l/\List.length g<=8/\ ∀p∈g,Ki p=true):fnW Gz (look [(190,Hs)]) Ma Try.f149 (g,l,()) (λ(z:List Int)=>z=Av g l):=by
 obtain ⟨hl,h8,hp⟩:=h
 refine Eq.mp (XA g l _) ?_
 obtain ⟨k,hk,rfl|rfl⟩:=Og hl
 ·refine Br.dec (λhn=>by omega) λ_=>?_
  rw [Cj (by omega) (by omega),show (k:Int)+1-1=(k:Int) by omega]
  exact ⟨_,Cf hk,(My hk).symm⟩
 ·refine Br.dec (λ_=>?_) λhn=>by omega
  rw [Cj (n:=0- -((k:Int)+1)) (by omega) (by omega),Cj (by omega) (by omega),show (0:Int)- -((k:Int)+1)-1=(k:Int) by omega]
  have:=fN (hp _ (Am hk))
  exact ⟨_,Cf hk,_,Ab ⟨this.len,this.row⟩,(Mx hk).symm⟩
theorem wK:Sound Try.prog 149 Ma:=
 Sound.Hg Ff (Ba lE Cc) mixed Try.func149 (by kernel_rfl) (by kernel_rfl) λx h=>VF x.1 x.2.1 h
theorem NK (n:Int) (g:List (List Int)) (w:List Int) (h: ∃p:PP,Cd p=true/\p.1=n/\p.2.2.1=g/\Jd (List.length g:Nat) w=true):fnW Gz (look [(66,Dn),(75,La),(149,Ma)]) Yv Try.f76 (n,g,w,()) (λ(z:List Int)=>z=Dr g (upto n.toNat) w):=by
 obtain ⟨p,hv,rfl,rfl,hw⟩:=h
 have hV:=valid hv
 have hn:=hV.n
 have hf:=hV.gG
 obtain ⟨w1,w2⟩:=dL hw
 refine Eq.mp (PR p.1 p.2.2.1 w _) ⟨upto p.1.toNat,Ab ⟨by show 0<=p.1;omega,by show p.1<=20;omega⟩,?_⟩
 refine Cg w.length (λv=>v.2.1) (λj v=>v.1=Dr p.2.2.1 (upto p.1.toNat) (w.take j)) rfl rfl ?_
 rintro j ⟨q,i,⟨⟩⟩ K hj hi hR hK
 dsimp only at hi hR⊢
 subst hi hR
 have hq:=sG hV (w.take j) _ (λl hl=>w2 l (Gf hl)) (Pm.id (n:=p.1.toNat) (by omega) (by omega))
 refine Br.dec (λhl=>?_) λhl=>?_
 ·have hl:j<w.length:=by omega
  have zm:=w2 _ (Am hl)
  have rF:=ku hV zm
  refine ⟨_,Cf hl,_,Ab ⟨zm,hf.2,hV.perm⟩,_,Ab ⟨Abk hq,HS hq rF⟩,?_⟩
  rw [Cb (by omega)]
  exact hK hl _ rfl (sH hl).symm
 ·have:j=w.length:=by omega
  subst this
  rw [Bh]
theorem uT:Sound Try.prog 76 Yv:=
 Sound.Hg Ff (Ba Xc (Ba de (Ba wK Cc))) mixed Try.func76 (by kernel_rfl) (by kernel_rfl) λx h=>NK x.1 x.2.1 x.2.2.1 h
theorem Ab5 (p:PP) (s w:List Int) (h:Gb p/\Cd p=true/\Pm p.1.toNat s/\Jd (List.length p.2.2.1:Nat) w=true):fnW Gz (look [(73,Lb),(74,eN),(75,La),(76,Yv)]) Nb Try.f21 (p,s,w,()) (λ(z:List Int×Bool×Unit)=>z=tS p s w):=by
 obtain ⟨hp,hv,hs,hw⟩:=h
 have hV:=valid hv
 have hn:=hV.n
 have hf:=hV.gG
 obtain ⟨w1,w2⟩:=dL hw
 have JT:=Pm.id (n:=p.1.toNat) (by omega) (by omega)
 have hq:=sG hV w _ w2 JT
 refine Eq.mp (Acs p s w _) ⟨true,(Ab ⟨hp,ab hs⟩).trans (Dm some (Dp.2 ⟨hv,NP hV hs⟩)),λhc=>(by cases hc),λ_=>⟨true,(Ab ⟨by show w.length<=4294967296;omega,by show (0:Int)<=((p.2.2.1.length:Nat):Int);omega,by show ((p.2.2.1.length:Nat):Int)<=4294967296;omega⟩).trans (Dm some hw),λhc=>(by cases hc),λ_=>⟨_,Ab ⟨p,hv,rfl,rfl,hw⟩,_,Ab ⟨Abk hs,HS hs hq⟩,?_⟩⟩⟩
 show (Ak s (Dr p.2.2.1 (upto p.1.toNat) w),true,())=tS p s w
 rw [qe hV hs w _ w2 JT,comp_id hs]
 rfl
theorem ow:Sound Try.prog 21 Nb:=
 Sound.Hg Ff (Ba Rl (Ba uN (Ba de (Ba uT Cc)))) mixed Try.func21 (by kernel_rfl) (by kernel_rfl) λx h=>Ab5 x.1 x.2.1 x.2.2.1 h
theorem Al4 {b:List Int} {i m:Int} (hd:eV b i) (h:Int) (hm:1<=m/\m<=8):JY (hJ m) (a6 b i h m).2.2=true:=by
 have hr:=gC hd hm.1 h
 have hc:hJ m=m:=Ai (by omega)
 rw [hc]
 refine Bp ?_
 unfold a6
 dsimp only
 split<;>omega
theorem Acq {b:List Int} {m:Int} (hm:1<=m/\m<=8): ∀(k:Nat) (i h:Int) (w:List Int),eV b i->(∀y∈w,JY (hJ m) y=true)->
  eV b (wGo b m k i h w).1/\(wGo b m k i h w).2.2.length=k+w.length/\ ∀y∈(wGo b m k i h w).2.2,JY (hJ m) y=true
 |0,i,h,w,hd,hw=>⟨hd,by rw [wGo];exact (Bk _).symm,hw⟩
 |k+1,i,h,w,hd,hw=>by
  obtain ⟨h1,h2,h3⟩:=Acq hm k (a6 b i h m).1 (a6 b i h m).2.1 (w++ [(a6 b i h m).2.2]) (SP hd h m) (λy hy=>by
   rcases Az.1 hy with h4|h4
   ·exact hw y h4
   ·rw [Af.1 h4];exact Al4 hd h hm)
  rw [Ax,Bn] at h2
  rw [wGo]
  exact ⟨h1,by omega,h3⟩
theorem Aco {b:List Int} {i m k:Int} (hd:eV b i) (h:Int) (hm:1<=m/\m<=8) (hk:0<=k/\k<=20):Jd m (Vq b i h m k).2.2=true/\eV b (Vq b i h m k).1:=by
 have hr:=gC hd (show 1<=k+1 by omega) h
 obtain ⟨h1,h2,h3⟩:=Acq hm (dR b i h (k+1)).toNat (dI b i) (hN h) [] hd.next (λy hy=>by cases hy)
 refine ⟨Dp.2 ⟨Bp ?_,?_⟩,h1⟩
 ·show (wGo b m (dR b i h (k+1)).toNat (dI b i) (hN h) []).2.2.length<=200
  rw [h2,Dv]
  omega
 ·rw [Fg]
  refine List.any_eq_false.2 λy hy=>?_
  rw [h3 y hy]
  decide
theorem Apt (b:List Int) (i h n:Int) (str:ByteArray) (g:List (List Int)) (hd:eV b i/\Gb (n,str,g,())/\Cd (n,str,g,())=true/\g.length=2):fnMW (CB [dY+4]) (look [(62,qV),(16,Uh),(21,Nb)]) ym Try.f13 (b,i,h,n,str,g,()) (λ(z:(List Int×Int×Int×List Int×Unit)×Unit)=>z=((b,(o7 b i h (n,str,g,())).1,(o7 b i h (n,str,g,())).2.1,(o7 b i h (n,str,g,())).2.2,()),())):=by
 obtain ⟨hd,hp,hv,h2⟩:=hd
 have hV:=valid hv
 have hn:1<=n/\n<=20:=hV.n
 obtain ⟨hw,JS⟩:=Aco hd h (m:=2) (k:=8) (by decide) (by decide)
 have hS:Uh.fn (n,())=some (upto n.toNat):=Ab hn
 have JT:Pm n.toNat (upto n.toNat):=Pm.id (by omega) (by omega)
 have hW:qV.fn (b,i,h,2,8,())=some ((b,(Vq b i h 2 8).1,(Vq b i h 2 8).2.1,(Vq b i h 2 8).2.2,()),()):=Ab ⟨hd,by show (1:Int)<=2/\(2:Int)<=8;decide,by show (0:Int)<=8;decide,by show (8:Int)<=20;decide⟩
 have hA:Nb.fn ((n,str,g,()),upto n.toNat,List.take (Vq b i h 2 8).2.2.length (List.drop 0 (Vq b i h 2 8).2.2),())=some (tS (n,str,g,()) (upto n.toNat) (Vq b i h 2 8).2.2):=by
  rw [Dd]
  exact Ab ⟨hp,hv,JT,by show Jd (g.length:Nat) _=true;rw [h2];exact hw⟩
 refine Eq.mp (Aqb b i h n str g _) ⟨_,hS,_,hW,_,hA,?_⟩
 repeat' (first|exact ⟨rfl,rfl⟩|exact rfl|refine ⟨_,hS,?_⟩|refine ⟨_,hW,?_⟩|refine ⟨_,hA,?_⟩|refine ⟨?_,?_⟩)
theorem VY:Dx Try.prog 13 ym:=
 Dx.oP (CC [dY+4]) (Gy VZ (Ba BI (Ba ow Cc))) mixed Try.func13 (by kernel_rfl) (by kernel_rfl) λx h=>Apt x.1 x.2.1 x.2.2.1 x.2.2.2.1 x.2.2.2.2.1 x.2.2.2.2.2.1 h
structure Asc (n:Int) (o:List Int):Prop where
 asc:o.Pairwise (· < ·)
 row: ∀y∈o,0<=y/\y<n
theorem Asc.more {j:Int} {o:List Int} (h:Asc j o):Asc (j+1) o:=⟨h.asc,λy hy=>by have:=h.row y hy;omega⟩
theorem Asc.add {j:Int} {o:List Int} (h:Asc j o) (h0:0<=j):Asc (j+1) (o++ [j]):=by
 refine ⟨dS.2 ⟨h.asc,by simp,λa ha b hb=>?_⟩,λy hy=>?_⟩
 ·rw [Af.1 hb];exact (h.row a ha).2
 ·rcases Az.1 hy with h1|h1
  ·have:=h.row y h1;omega
  ·rw [Af.1 h1];omega
theorem Asc.le {j n:Int} {o:List Int} (h:Asc j o) (hj:j<=n):Asc n o:=⟨h.asc,λy hy=>by have:=h.row y hy;omega⟩
theorem pq {n:Nat} {l:Int} (h:Fy n l):l∈Ao n:=by
 obtain ⟨h0,h1,h2⟩:=h
 by_cases hp:0<l
 ·have:=(Vp (n:=n) (k:=(l-1).toNat) (by omega)).1
  rwa [show ((l-1).toNat:Int)+1=l by omega] at this
 ·have:=(Vp (n:=n) (k:=(-l-1).toNat) (by omega)).2
  rwa [show-(((-l-1).toNat:Int)+1)=l by omega] at this
theorem DN {p:PP} (hw:Cy p=true): ∀(w s:List Int),(∀l∈w,Fy (List.length p.2.2.1) l)->s∈Ae p->Dr p.2.2.1 s w∈Ae p
 | [],s,_,hs=>hs
 |l::w,s,hl,hs=>DN hw w _ (λl' h=>hl l' (As _ h)) ((Lc hw).next s hs l (pq (hl l (by simp))))
theorem dq.whole {p:PP} (hp:dq p):Cy p=true:=JO hp.valid hp.hi
theorem Al5 {p:PP} (hp:dq p) {b:List Int} {i:Int} (hd:eV b i) (h:Int):eV b (o7 b i h p).1/\(o7 b i h p).2.2∈Ae p:=by
 obtain ⟨hw,JS⟩:=Aco hd h (m:=2) (k:=8) (by decide) (by decide)
 have hw:Jd ((2:Nat):Int) (Vq b i h 2 8).2.2=true:=hw
 have h2:=(dL hw).2
 rw [<-hp.two] at h2
 exact ⟨JS,DN hp.whole _ _ h2 (Zw hp.valid).2⟩
structure sx (p:PP) (ts:List TT):Prop where
 set:tV p ts=true
 gG:ts.length<=2
 short:Afo ts
 valid: ∀t∈ts,tW p t=true
theorem sx.add {p:PP} (hp:dq p) {ts:List TT} (h:sx p ts) {t:TT} (ht:tW p t=true):tV p (ts++ [t])=true:=by
 have:=h.gG
 refine Dp.2 ⟨Dp.2 ⟨hp.valid,Bp (by rw [Ax,Bn];omega)⟩,Bg.2 λt' qA=>?_⟩
 rcases Az.1 qA with h4|h4
 ·exact h.valid t' h4
 ·rw [Af.1 h4];exact ht
section
variable {p:PP} {ts:List TT} {s:List Int}
theorem dq.found (hp:dq p) (hs:s∈Ae p):Zo p s=true:=TN.2 ⟨hp.whole,hs⟩
theorem dq.As6 (hp:dq p) (hs:s∈Ae p):je p s=Hm (Ae p) (Bc p) s:=Ab (hp.found hs)
end
section
variable {α β:Type}
end
section
variable {p:PP}
theorem IL (hv:Cd p=true):(Ae p).Nodup:=(Wy hv).nodup
end
theorem sub_eq {α:Type} [DecidableEq α] {l1 l2:List α} (hn:l1.Nodup) (hs: ∀x∈l1,x∈l2) (hl:l2.length<=l1.length): ∀x∈l2,x∈l1:= λx hx=>by
 refine Bs λh=>?_
 have:=Ug (l1:=x::l1) (l2:=l2) (Cm.2 ⟨h,hn⟩) λy hy=>by
  rcases Bb.1 hy with rfl|hy
  ·exact hx
  ·exact hs y hy
 rw [Aw] at this
 omega
theorem RU: ∀(k:Nat) (R x:List Int),R.length=k->x.Perm R->x∈lex k R
 |0,R,x,hl,h=>by
  have h1:=h.length_eq
  have:x= []:=List.length_eq_zero_iff.1 (by omega)
  rw [this,lex]
  simp
 |k+1,R,[],hl,h=>by have:=h.length_eq;simp at this;omega
 |k+1,R,v::y,hl,h=>by
  have hv:v∈R:=h.mem_iff.1 (by simp)
  have h1:y.Perm (R.erase v):=(List.perm_cons v).1 (h.trans (List.perm_cons_erase hv))
  rw [lex]
  exact Gj.2 ⟨v,hv,Be.2 ⟨y,RU k _ _ (by rw [Xk hv];omega) h1,rfl⟩⟩
theorem HT {n:Nat} {x:List Int} (h:Pm n x):x.Nodup:=by
 refine Ez.2 λi j hi hj eX e=>?_
 have h1:=h.1
 have:=h.inj (i:=i) (j:=j) (by omega) (by omega) (by unfold ap;rw [Ku hi,Ku hj,e])
 omega
theorem Abl {n:Nat} {x:List Int} (h:Pm n x) {v:Int} (hv:v∈x):0<=v/\v<n:=by
 obtain ⟨i,hi,rfl⟩:=Bf.1 hv
 have h1:=h.Re (i:=i) (by have:=h.1;omega)
 rw [Ku hi] at h1
 omega
theorem Afi {n:Nat} {x:List Int} (h:Pm n x):x.Perm (upto n):=by
 refine (List.perm_ext_iff_of_nodup (HT h) (mO n)).2 λv=>⟨λhv=>?_,λhv=>?_⟩
 ·exact Lo.2 (Abl h hv)
 ·exact sub_eq (HT h) (λy hy=>Lo.2 (Abl h hy)) (by rw [Nf,h.1];exact Aq _) v hv
theorem Akm {n:Nat} {x:List Int} (h:Pm n x):x∈lex n (upto n):=RU _ _ _ (Nf n) (Afi h)
theorem Aku {p:PP} (hv:Cd p=true) (h5:p.1<=5):(Ae p).length<=120:=by
 have h1:=Ug (l2:=lex p.1.toNat (upto p.1.toNat)) (IL hv) λx hx=>Akm (jM hv hx)
 rw [RO _ _ (Nf _)] at h1
 have h2: ∀k,k<=5->QJ k<=120:=by decide
 have:=h2 p.1.toNat (by omega)
 omega
section
variable {n:Nat} {x y q r:List Int}
end
section
variable {p:PP}
end
theorem BN {g:List (List Int)} {ls:List Int} {L:List (List Int)} {S:List Int->Prop} {dep:List Int->Int} (hc:lU g ls L) (hd:Ke g ls L S dep): ∀(n:Nat) (x w:List Int),x∈L->dep x=n->
  (gh g dep ls n x w).1.length=w.length+n/\(gh g dep ls n x w).2∈L/\S (gh g dep ls n x w).2
 |0,x,w,hx,e=>⟨rfl,hx,(hd.zero x hx).1 e⟩
 |n+1,x,w,hx,e=>by
  obtain ⟨l,hl,h1⟩:=hd.down x hx (by omega)
  rw [gh]
  split
  ·rename_i l' hf
   have h2:dep (Ak x (Av g l'))=n:=Ia (List.find?_some (p:= λl=>decide (dep (Ak x (Av g l))=n)) hf)
   have h3:=List.mem_of_find?_eq_some hf
   obtain ⟨a,b⟩:=BN hc hd n _ (w++ [l']) (hc.next x hx l' h3) h2
   rw [Ax,Bn] at a
   exact ⟨by omega,b⟩
  ·rename_i hf
   have:=List.find?_eq_none.1 hf l hl
   exact absurd (Bp (show dep (Ak x (Av g l))=n by omega)) this
section
variable {p:PP}
theorem s6 (hw:Cy p=true) {s:List Int} (hs:s∈Ae p):Hm (Ae p) (Bc p) s<(Ae p).length:=by
 have hb:=aA (Dg hw).1
 have hi:=Ef hs
 have hl:(Bc p).length=(Ae p).length:=hb.len
 have h1:=hb.dep ((Ae p).idxOf s) (by show _<(Bc p).length;omega)
 unfold Hm
 rw [Ab hs,Ce (by omega)]
 have h2:(Bc p)[(Ae p).idxOf s]'(by omega)<=((Ae p).idxOf s:Nat):=h1.2
 omega
theorem QG (hw:Cy p=true) {s:List Int} (hs:s∈Ae p):((jf p s).length:Int)=Hm (Ae p) (Bc p) s/\(∀l∈jf p s,l∈Ao p.2.2.1.length)/\Dr p.2.2.1 s (jf p s)=upto p.1.toNat:=by
 have h0:=(Uc hw).nn s hs
 obtain ⟨a,b,c⟩:=BN (Lc hw) (Uc hw) (Hm (Ae p) (Bc p) s).toNat s [] hs (by omega)
 obtain ⟨u,u1,u2⟩:=jL (g:=p.2.2.1) (dep:=Hm (Ae p) (Bc p)) (ls:=Ao p.2.2.1.length) (Hm (Ae p) (Bc p) s).toNat s []
 refine ⟨?_,cn _ _ _ λl hl=>(by cases hl),?_⟩
 ·unfold jf
  rw [a]
  simp only [Dv]
  omega
 ·unfold jf
  rw [u1,Ol,<-u2,c]
  exact (Zw (Dg hw).1).1
variable {t:List Int}
theorem zU (hw:Cy p=true) (hm:Cw p t=true) {s:List Int} (hs:s∈Ae p):0<=Ii p (Hy p t) s/\Ii p (Hy p t) s<=Hm (Ae p) (Bc p) s/\(Ii p (Hy p t) s=0↔s∈Ae (Bl p t)):=by
 obtain ⟨_,h2⟩:=pJ hw hm
 exact ⟨h2.nn s hs,by
  have h3:=(Uc hw).nn s hs
  have h4:=Ke.sub (Lc hw) h2 (Uc hw) (λx _ e=>by rw [e];exact yu hw hm) (Hm (Ae p) (Bc p) s).toNat s hs (by omega)
  show (Hy p t).getD ((Ae p).idxOf s) 0<=_
  omega,h2.zero s hs⟩
theorem RZ (hw:Cy p=true) (hm:Cw p t=true) {s:List Int} (hs:s∈Ae p):((Kw p (Hy p t) s).length:Int)=Ii p (Hy p t) s/\(∀l∈Kw p (Hy p t) s,l∈Ao p.2.2.1.length)/\
  Dr p.2.2.1 s (Kw p (Hy p t) s)∈Ae p/\Dr p.2.2.1 s (Kw p (Hy p t) s)∈Ae (Bl p t):=by
 obtain ⟨_,h2⟩:=pJ hw hm
 have h0:=h2.nn s hs
 have h0:0<=Ii p (Hy p t) s:=h0
 obtain ⟨a,b,c⟩:=BN (dep:=Ii p (Hy p t)) (Lc hw) h2 (Ii p (Hy p t) s).toNat s [] hs (by omega)
 obtain ⟨u,u1,u2⟩:=jL (g:=p.2.2.1) (dep:=Ii p (Hy p t)) (ls:=Ao p.2.2.1.length) (Ii p (Hy p t) s).toNat s []
 have e:Dr p.2.2.1 s (Kw p (Hy p t) s)=(gh p.2.2.1 (Ii p (Hy p t)) (Ao p.2.2.1.length) (Ii p (Hy p t) s).toNat s []).2:=by
  unfold Kw
  rw [u1,Ol]
  exact u2.symm
 refine ⟨?_,cn _ _ _ λl hl=>(by cases hl),by rw [e];exact b,by rw [e];exact c⟩
 unfold Kw
 rw [a]
 simp only [Dv]
 omega
theorem Aii {w:List Int} (h:w.length<=200):xL w=(w,true,()):=by
 unfold xL
 rw [Ai (by omega)]
end
def yW (b:List Int):Prop:=b.length<=1048576/\ ∀y∈b,0<=y/\y<256
noncomputable abbrev OC:Spec:=Hg (.pair tB .unit) .bool false true (λx=>yW x.1) (λ_=>true)
theorem As7 {code:List Int} (h:yW code) (hb: ¬(code.length:Int)>4096):eV code 0:=⟨by omega,h.2,Ok _,by omega⟩
noncomputable def tT (p:PP) (s:List Int):Bool:=(Cd p&&He p.1 s)&&decide (s=upto p.1.toNat)
noncomputable abbrev ai:Spec:=Hg (.pair Iw (.pair tL .unit)) .bool false true (λx=>Gb x.1/\short x.2.1) (λx=>tT x.1 x.2.1)
theorem PJ (p:Int×ByteArray×List (List Int)×Unit) (s:List Int) (P:Bool->Prop):(∃(y3:Bool),Lb.fn ((p.1,p.2.1,p.2.2.1,()),s,())=some y3/\Br y3 (∃(y4:List Int),Dn.fn (p.1,())=some y4/\ ∃(y5:Bool),Oh.fn (s,y4,())=some y5/\P y5) (P false))=fnW Gz (look [(73,Lb),(66,Dn),(80,Oh)]) ai Try.f24 (p,s,()) P:=by kernel_rfl
theorem ND (p:PP) (s:List Int) (h:Gb p/\short s):fnW Gz (look [(73,Lb),(66,Dn),(80,Oh)]) ai Try.f24 (p,s,()) (λ(z:Bool)=>z=tT p s):=by
 refine Eq.mp (PJ p s _) ⟨_,Ab h,?_⟩
 show Br (Cd p&&He p.1 s) _ _
 unfold tT
 refine Br.of (λhb=>?_) λhb=>?_
 ·have hv:=(Dp.1 hb).1
  have hn:=(valid hv).n
  rw [hb]
  exact ⟨_,Ab ⟨by show 0<=p.1;omega,by show p.1<=20;omega⟩,_,Ab h.2,rfl⟩
 ·rw [hb]
  rfl
theorem uM:Sound Try.prog 24 ai:=
 Sound.Hg Ff (Ba Rl (Ba Xc (Ba gT Cc))) mixed Try.func24 (by kernel_rfl) (by kernel_rfl) λx h=>ND x.1 x.2.1 h
abbrev tLE:Ty:= .slice vr
abbrev Avn:Ty:= .slice tLE
abbrev EN:Type:=Int×Int×Int×Unit
abbrev z0:EN:=(0,0,0,())
def jd (ls row:List Int) (n:Nat) (v:List EN×List Bool) (j:Nat):List EN×List Bool:=
 if v.2.getD (row.getD j 0).toNat false=true then v else (v.1++ [(row.getD j 0,(n:Int),ls.getD j 0,())],v.2.set (row.getD j 0).toNat true)
def cQ (ls row:List Int) (n:Nat) (k:Nat) (v:List EN×List Bool):List EN×List Bool:=(List.range k).foldl (jd ls row n) v
def tR (nx:Nat->List Int) (ls:List Int) (last:List EN) (k:Nat) (v:List EN×List Bool):List EN×List Bool:=
 (List.range k).foldl (λv n=>cQ ls (nx (last.getD n z0).1.toNat) n (nx (last.getD n z0).1.toNat).length v) v
def ky (nx:Nat->List Int) (m:Nat) (ls:List Int) (last:List EN):List EN:=(tR nx ls last last.length ([],List.replicate m false)).1
noncomputable def RR (h:Option HP) (last:List EN):List EN:=match h with|some (some e,_,_,_)=>ky (Gi e.1) (Ae e.1).length (Ao e.1.2.2.1.length) last|_=> []
def yF (m:Nat) (last:List EN):Prop:=last.length<=3000/\ ∀x∈last,0<=x.1/\x.1<m
noncomputable abbrev db:Spec:=Hg (.pair (.optr di) (.pair tLE .unit)) tLE false true (λx=> ∃p t,Kx p t=true/\x.1=some (Dy p t)/\yF (Ae p).length x.2.1) (λx=>RR x.1 x.2.1)
def nz (ls:List (List EN)) (k:Nat) (n:Int):EN:=(ls.getD k []).getD n.toNat z0
def wY (ls:List (List EN)):Nat->Int->List Int->List Int
 |0,_,out=>out
 |k+1,n,out=>wY ls k (nz ls (k+1) n).2.1 (out++ [(nz ls (k+1) n).2.2.1])
def KD (ls:List (List EN)):Nat->Int->Prop
 |0,_=>True
 |k+1,n=>0<=n/\n<((ls.getD (k+1) []).length:Int)/\KD ls k (nz ls (k+1) n).2.1
def a7 (ls:List (List EN)) (n:Int):List Int:=(wY ls (ls.length-1) n []).reverse
noncomputable abbrev cj:MSpec:=mA [none,none] [(false, .Gw Avn),(false, .Gw tI)] false [none] [rL] (λx=>(1<=List.length x.1/\List.length x.1<=4000)/\KD x.1 (List.length x.1-1) x.2.1) (λx=>((a7 x.1 x.2.1,()),()))
noncomputable def Jm (p:PP) (i:Int):Nat->List EN
 |0=> [(i,0,0,())]
 |k+1=>ky (Gi p) (Ae p).length (Ao p.2.2.1.length) (Jm p i k)
noncomputable def Jp (p:PP) (i:Int) (k:Nat):List (List EN):=(List.range k).map (Jm p i)
noncomputable def oW (p:PP) (t:List Int) (sh Re:Int) (lev:List EN) (v:Int×Int×Int) (n:Nat):Int×Int×Int:=
 if (sh<=Re/\(Ae p).getD (lev.getD n z0).1.toNat []∈Ae (Bl p t))/\(v.1<0\/Re+Hm (Ae (Bl p t)) (Bc (Bl p t)) ((Ae p).getD (lev.getD n z0).1.toNat [])<v.1)
 then (Re+Hm (Ae (Bl p t)) (Bc (Bl p t)) ((Ae p).getD (lev.getD n z0).1.toNat []),Re,(n:Int)) else v
noncomputable def dU (p:PP) (t:List Int) (sh Re:Int) (lev:List EN) (k:Nat) (v:Int×Int×Int):Int×Int×Int:=(List.range k).foldl (oW p t sh Re lev) v
noncomputable def m7 (p:PP) (t:List Int) (i sh:Int) (k:Nat):Int×Int×Int:=(List.range k).foldl (λ(v:Int×Int×Int) (a:Nat)=>dU p t sh (a:Int) (Jm p i a) (Jm p i a).length v) (-1,0,0)
noncomputable def Qk (p:PP) (t s:List Int) (k:Int):List Int×List Int×Bool×Unit:=
 (a7 (Jp p (Gs p s).1 ((m7 p t (Gs p s).1 (Ii p (Hy p t) s) (Ii p (Hy p t) s+k+1).toNat).2.1.toNat+1)) (m7 p t (Gs p s).1 (Ii p (Hy p t) s) (Ii p (Hy p t) s+k+1).toNat).2.2,
  Lm p t ((Ae p).getD (nz (Jp p (Gs p s).1 ((m7 p t (Gs p s).1 (Ii p (Hy p t) s) (Ii p (Hy p t) s+k+1).toNat).2.1.toNat+1)) (m7 p t (Gs p s).1 (Ii p (Hy p t) s) (Ii p (Hy p t) s+k+1).toNat).2.1.toNat (m7 p t (Gs p s).1 (Ii p (Hy p t) s) (Ii p (Hy p t) s+k+1).toNat).2.2).1.toNat []),true,())
noncomputable abbrev Vg:MSpec:=mA [some 3,none,none,none] [(false, .Gw tI),(false, .Gw .str),(false, .Gw yz),(false, .Gw tL),(false, .Gw tL),(false, .Gw tI)] true [none,none,none] [rL,rL, .Gw .bool]
 (λx=>Gb (x.1,x.2.1,x.2.2.1,())/\short x.2.2.2.1/\short x.2.2.2.2.1/\Kx (x.1,x.2.1,x.2.2.1,()) x.2.2.2.1=true/\x.2.2.2.2.1∈Ae (x.1,x.2.1,x.2.2.1,())/\(Ae (x.1,x.2.1,x.2.2.1,())).length<=120/\x.2.2.2.2.2.1=1)
 (λx=>(((Qk (x.1,x.2.1,x.2.2.1,()) x.2.2.2.1 x.2.2.2.2.1 x.2.2.2.2.2.1).1,(Qk (x.1,x.2.1,x.2.2.1,()) x.2.2.2.1 x.2.2.2.2.1 x.2.2.2.2.2.1).2.1,(Qk (x.1,x.2.1,x.2.2.1,()) x.2.2.2.1 x.2.2.2.2.1 x.2.2.2.2.2.1).2.2.1,()),()))
abbrev vn:Type:=Option ((Int×ByteArray×List (List Int)×PUnit)×List (List Int)×List Int×(ByteArray->Option Int)×List Int×List Int×List (List Int)×PUnit)×List Int×Option ((Int×ByteArray×List (List Int)×PUnit)×List (List Int)×List Int×(ByteArray->Option Int)×List Int×List Int×List (List Int)×PUnit)×PUnit
abbrev vq:Type:=(Int×ByteArray×List (List Int)×PUnit)×List (List Int)×List Int×(ByteArray->Option Int)×List Int×List Int×List (List Int)×PUnit
abbrev oI:Type:=Int×List (Int×Int×Int×PUnit)×List Bool×PUnit
theorem Ag5 (h:Option (Option ((Int×ByteArray×List (List Int)×PUnit)×List (List Int)×List Int×(ByteArray->Option Int)×List Int×List Int×List (List Int)×PUnit)×List Int×Option ((Int×ByteArray×List (List Int)×PUnit)×List (List Int)×List Int×(ByteArray->Option Int)×List Int×List Int×List (List Int)×PUnit)×Unit)) (last:List (Int×Int×Int×Unit)) (P:List (Int×Int×Int×Unit)->Prop):(∃(y3:vn),h=some y3/\ ∃(y4:vq),y3.1=some y4/\((0:Int)<=(↑y4.2.1.length:Int)/\(↑y4.2.1.length:Int)<(↑Dt:Int)+(1:Int))/\(↑y4.2.1.length:Int)=(↑y4.2.1.length:Int)/\ ∃(y5:vn),h=some y5/\ ∃(y6:vq),y5.1=some y6/\ ∃(y7:List Int),Iv.fn ((↑y6.1.2.2.1.length:Int),())=some y7/\0=0/\0=([]:List Int).length/\0=0/\(List.replicate (↑y4.2.1.length:Int).toNat false).length=(List.replicate (↑y4.2.1.length:Int).toNat false).length/\Ea (λ(v8:oI) (k9:oI->Prop)=>Br (decide (v8.1<(↑last.length:Int))) (∃(aC:Int×Int×Int×PUnit),idx last v8.1=some aC/\ ∃(Th:vn),h=some Th/\ ∃(Xp:vq),Th.1=some Xp/\ ∃(gx:List Int),idx Xp.2.2.2.2.2.2.1 aC.1=some gx/\0=0/\v8.2.1.length=v8.2.1.length/\0=0/\v8.2.2.1.length=v8.2.2.1.length/\Ea (λ(Rb:oI) (k15:oI->Prop)=>Br (decide (Rb.1<(↑gx.length:Int))) (∃(Zf:Int),idx gx Rb.1=some Zf/\((0:Int)<=Zf/\Zf<(↑Rb.2.2.1.length:Int))/\ ∃(mR:Bool),Rb.2.2.1[0+Zf.toNat]?=some mR/\Br (!mR) (((0:Int)<=Zf/\Zf<(↑Rb.2.2.1.length:Int))/\0+Zf.toNat<Rb.2.2.1.length/\ ∃(mX:Int),idx y7 Rb.1=some mX/\0=0/\Rb.2.1.length=Rb.2.1.length/\Rb.2.1.length+(List.take 1 (List.drop 0 [(Zf,v8.1,mX,())])).length<=Dt/\0=0/\(Rb.2.1++List.take 1 (List.drop 0 [(Zf,v8.1,mX,())])).length=(Rb.2.1++List.take 1 (List.drop 0 [(Zf,v8.1,mX,())])).length/\0=0/\Rb.2.2.1.length=(Rb.2.2.1.set (0+Zf.toNat) true).length/\k15 (IntKind.i64.wrap (Rb.1+(1:Int)),Rb.2.1++List.take 1 (List.drop 0 [(Zf,v8.1,mX,())]),Rb.2.2.1.set (0+Zf.toNat) true,())) (0=0/\Rb.2.1.length=Rb.2.1.length/\0=0/\Rb.2.2.1.length=Rb.2.2.1.length/\k15 (IntKind.i64.wrap (Rb.1+(1:Int)),Rb.2.1,Rb.2.2.1,()))) (0=0/\Rb.2.1.length=Rb.2.1.length/\0=0/\Rb.2.2.1.length=Rb.2.2.1.length/\k9 (IntKind.i64.wrap (v8.1+(1:Int)),Rb.2.1,Rb.2.2.1,()))) ((0:Int),v8.2.1,v8.2.2.1,PUnit.unit)) (P (List.take v8.2.1.length (List.drop 0 v8.2.1)))) ((0:Int),[],List.replicate (↑y4.2.1.length:Int).toNat false,PUnit.unit))=fnW Gz (look [(121,Iv)]) db Try.f136 (h,last,()) P:=by kernel_rfl
theorem Ad5 (ls:List (List (Int×Int×Int×Unit))) (n:Int) (P:((List Int×Unit)×Unit)->Prop):(0=0/\0=([]:List Int).length/\Ea (λ(v3:Int×Int×List Int×PUnit) (k4:Int×Int×List Int×PUnit->Prop)=>Br (decide (v3.2.1>(0:Int))) (∃(y5:List (Int×Int×Int×PUnit)),idx ls v3.2.1=some y5/\ ∃(y6:Int×Int×Int×PUnit),idx y5 v3.1=some y6/\0=0/\v3.2.2.1.length=v3.2.2.1.length/\v3.2.2.1.length+(List.take 1 (List.drop 0 [y6.2.2.1])).length<=Dt/\ ∃(y7:List (Int×Int×Int×PUnit)),idx ls v3.2.1=some y7/\ ∃(y8:Int×Int×Int×PUnit),idx y7 v3.1=some y8/\0=0/\(v3.2.2.1++List.take 1 (List.drop 0 [y6.2.2.1])).length=(v3.2.2.1++List.take 1 (List.drop 0 [y6.2.2.1])).length/\k4 (y8.2.1,IntKind.i64.wrap (v3.2.1-(1:Int)),v3.2.2.1++List.take 1 (List.drop 0 [y6.2.2.1]),())) (∃(y5:PUnit×List Int×PUnit),Za.fn ((v3.2.2.1,0,v3.2.2.1.length),())=some y5/\y5.2.1.length=v3.2.2.1.length/\P ((List.take v3.2.2.1.length (List.drop 0 y5.2.1),()),()))) (n,IntKind.i64.wrap ((↑ls.length:Int)-(1:Int)),[],PUnit.unit))=fnMW Uk (look [(186,Za)]) cj Try.f137 (ls,n,()) P:=by kernel_rfl
abbrev Vx:Type:=Option ((Int×ByteArray×List (List Int)×PUnit)×List (List Int)×List Int×(ByteArray->Option Int)×List Int×List Int×List (List Int)×PUnit)×List Int×Option ((Int×ByteArray×List (List Int)×PUnit)×List (List Int)×List Int×(ByteArray->Option Int)×List Int×List Int×List (List Int)×PUnit)×PUnit
abbrev dg:Type:=(Int×ByteArray×List (List Int)×PUnit)×List (List Int)×List Int×(ByteArray->Option Int)×List Int×List Int×List (List Int)×PUnit
abbrev dh:Type:=Int×Int×Int×Int×List (List (Int×Int×Int×PUnit))×PUnit
theorem PI (n:Int) (str:ByteArray) (g:List (List Int)) (t s:List Int) (k:Int) (P:((List Int×List Int×Bool×Unit)×Unit)->Prop):(∃(y7:Option (Option ((Int×ByteArray×List (List Int)×PUnit)×List (List Int)×List Int×(ByteArray->Option Int)×List Int×List Int×List (List Int)×PUnit)×List Int×Option ((Int×ByteArray×List (List Int)×PUnit)×List (List Int)×List Int×(ByteArray->Option Int)×List Int×List Int×List (List Int)×PUnit)×PUnit)×Int×Bool×PUnit),Il.fn ((n,str,g,()),t,s,())=some y7/\Br (!y7.2.2.1) (P ((List.take 0 (List.drop 0 []),List.take 0 (List.drop 0 []),false,()),())) (∃(y8:Bool),Ct.fn (k,(0:Int),(2:Int),())=some y8/\Br (!y8) (P ((List.take 0 (List.drop 0 []),List.take 0 (List.drop 0 []),false,()),())) (∃(y9:Vx),y7.1=some y9/\ ∃(aC:List Int),Sk.fn (y9.1,(y7.1,()),())=some aC/\ ∃(Th:Int),idx aC y7.2.1=some Th/\0=0/\1= [List.take 1 (List.drop 0 [(y7.2.1,Int.ofNat (nat_lit 0),Int.ofNat (nat_lit 0),())])].length/\Ea (λ(Tt:dh) (k13:dh->Prop)=>Br (decide (Tt.2.2.2.1<=IntKind.i64.wrap (Th+k))) (((0:Int)<=Tt.2.2.2.1/\Tt.2.2.2.1<(↑Tt.2.2.2.2.1.length:Int))/\ ∃(Vi:List (Int×Int×Int×PUnit)),Tt.2.2.2.2.1[0+Tt.2.2.2.1.toNat]?=some Vi/\0=0/\Tt.2.2.2.2.1.length=Tt.2.2.2.2.1.length/\Ea (λ(Kd:dh) (k16:dh->Prop)=>Br (decide (Kd.2.2.2.1<(↑Vi.length:Int))) (∃(mR:Int×Int×Int×PUnit),idx Vi Kd.2.2.2.1=some mR/\ ∃(mX:Vx),y7.1=some mX/\ ∃(XT:Vx),y7.1=some XT/\ ∃(y20:dg),XT.1=some y20/\ ∃(PU:List Int),idx y20.2.1 mR.1=some PU/\ ∃(y22:Int×Bool×PUnit),Sl.fn (mX.2.2.1,PU,())=some y22/\Br (decide (Tt.2.2.2.1>=Th)) (Br y22.2.1 (Br (decide (Kd.1<(0:Int))) (∃(y23:Vx),y7.1=some y23/\ ∃(y24:dg),y23.2.2.1=some y24/\ ∃(y25:Int),idx y24.2.2.1 y22.1=some y25/\0=0/\Kd.2.2.2.2.1.length=Kd.2.2.2.2.1.length/\k16 (IntKind.i64.wrap (Tt.2.2.2.1+y25),Tt.2.2.2.1,Kd.2.2.2.1,IntKind.i64.wrap (Kd.2.2.2.1+(1:Int)),Kd.2.2.2.2.1,())) (∃(y23:Vx),y7.1=some y23/\ ∃(y24:dg),y23.2.2.1=some y24/\ ∃(y25:Int),idx y24.2.2.1 y22.1=some y25/\Br (decide (IntKind.i64.wrap (Tt.2.2.2.1+y25)<Kd.1)) (∃(y26:Vx),y7.1=some y26/\ ∃(y27:dg),y26.2.2.1=some y27/\ ∃(y28:Int),idx y27.2.2.1 y22.1=some y28/\0=0/\Kd.2.2.2.2.1.length=Kd.2.2.2.2.1.length/\k16 (IntKind.i64.wrap (Tt.2.2.2.1+y28),Tt.2.2.2.1,Kd.2.2.2.1,IntKind.i64.wrap (Kd.2.2.2.1+(1:Int)),Kd.2.2.2.2.1,())) (0=0/\Kd.2.2.2.2.1.length=Kd.2.2.2.2.1.length/\k16 (Kd.1,Kd.2.1,Kd.2.2.1,IntKind.i64.wrap (Kd.2.2.2.1+(1:Int)),Kd.2.2.2.2.1,())))) (0=0/\Kd.2.2.2.2.1.length=Kd.2.2.2.2.1.length/\k16 (Kd.1,Kd.2.1,Kd.2.2.1,IntKind.i64.wrap (Kd.2.2.2.1+(1:Int)),Kd.2.2.2.2.1,()))) (0=0/\Kd.2.2.2.2.1.length=Kd.2.2.2.2.1.length/\k16 (Kd.1,Kd.2.1,Kd.2.2.1,IntKind.i64.wrap (Kd.2.2.2.1+(1:Int)),Kd.2.2.2.2.1,()))) (((0:Int)<=Tt.2.2.2.1/\Tt.2.2.2.1<(↑Kd.2.2.2.2.1.length:Int))/\ ∃(mR:List (Int×Int×Int×PUnit)),Kd.2.2.2.2.1[0+Tt.2.2.2.1.toNat]?=some mR/\ ∃(mX:List (Int×Int×Int×PUnit)),db.fn (y7.1,mR,())=some mX/\0=0/\Kd.2.2.2.2.1.length=Kd.2.2.2.2.1.length/\Kd.2.2.2.2.1.length+(List.take 1 (List.drop 0 [mX])).length<=Dt/\0=0/\(Kd.2.2.2.2.1++List.take 1 (List.drop 0 [mX])).length=(Kd.2.2.2.2.1++List.take 1 (List.drop 0 [mX])).length/\k13 (Kd.1,Kd.2.1,Kd.2.2.1,IntKind.i64.wrap (Tt.2.2.2.1+(1:Int)),Kd.2.2.2.2.1++List.take 1 (List.drop 0 [mX]),()))) (Tt.1,Tt.2.1,Tt.2.2.1,(0:Int),Tt.2.2.2.2.1,PUnit.unit)) (((0:Int)<=Tt.2.1/\Tt.2.1<(↑Tt.2.2.2.2.1.length:Int))/\ ∃(Vi:List (Int×Int×Int×PUnit)),Tt.2.2.2.2.1[0+Tt.2.1.toNat]?=some Vi/\ ∃(dO:Int×Int×Int×PUnit),idx Vi Tt.2.2.1=some dO/\ ∃(Zf:(List Int×Bool×PUnit)×PUnit),Uw.fn (y7.1,dO.1,())=some Zf/\Br (!Zf.1.2.1) (P ((List.take 0 (List.drop 0 []),List.take 0 (List.drop 0 []),false,()),())) (Br (decide (Tt.2.1>(200:Int))) (P ((List.take 0 (List.drop 0 []),List.take 0 (List.drop 0 []),false,()),())) (((0:Int)<=(0:Int)/\(0:Int)<=IntKind.i64.wrap (Tt.2.1+(1:Int))/\IntKind.i64.wrap (Tt.2.1+(1:Int))<=(↑Tt.2.2.2.2.1.length:Int))/\ ∃(mR:(List Int×PUnit)×PUnit),cj.fn (List.take ((IntKind.i64.wrap (Tt.2.1+(1:Int))).toNat-Int.toNat (0:Int)) (List.drop (0+Int.toNat (0:Int)) Tt.2.2.2.2.1),Tt.2.2.1,())=some mR/\P ((List.take mR.1.1.length (List.drop 0 mR.1.1),List.take Zf.1.1.length (List.drop 0 Zf.1.1),true,()),()))))) ((-1:Int),(0:Int),(0:Int),(0:Int),[List.take 1 (List.drop 0 [(y7.2.1,Int.ofNat (nat_lit 0),Int.ofNat (nat_lit 0),())])],PUnit.unit))))=fnMW (CB [jY+53]) (look [(110,Il),(94,Ct),(112,Sk),(135,Sl),(136,db),(114,Uw),(137,cj)]) Vg Try.f61 (n,str,g,t,s,k,()) P:=by kernel_rfl
structure XW (nx:Nat->List Int) (ls:List Int) (m:Nat) (last:List EN) (k:Nat) (v:List EN×List Bool):Prop where
 len:v.2.length=m
 nd:(v.1.map (·.1)).Nodup
 seen: ∀i,i<m->(v.2.getD i false=true↔(i:Int)∈v.1.map (·.1))
 ok: ∀e∈v.1,(0<=e.1/\e.1<m)/\ ∃n j:Nat,n<last.length/\j<ls.length/\e.2.1=n/\e.2.2.1=ls.getD j 0/\e.1=(nx (last.getD n z0).1.toNat).getD j 0
 all: ∀n,n<k-> ∀j,j<ls.length->(nx (last.getD n z0).1.toNat).getD j 0∈v.1.map (·.1)
theorem XW.gG {nx:Nat->List Int} {ls:List Int} {m:Nat} {last:List EN} {k:Nat} {v:List EN×List Bool} (h:XW nx ls m last k v):v.1.length<=m:=by
 have:=Ug (l2:=upto m) h.nd λx hx=>by
  obtain ⟨e,he,rfl⟩:=Be.1 hx
  have:=(h.ok e he).1
  exact Lo.2 this
 rw [Ck,Nf] at this
 exact this
theorem XW.step {nx:Nat->List Int} {ls:List Int} {m:Nat} {last:List EN} {k:Nat} {v:List EN×List Bool} (h:XW nx ls m last k v) {n j:Nat} (hn:n<last.length) (hj:j<ls.length)
  (hb:0<=(nx (last.getD n z0).1.toNat).getD j 0/\(nx (last.getD n z0).1.toNat).getD j 0<m):
  XW nx ls m last k (jd ls (nx (last.getD n z0).1.toNat) n v j)/\(nx (last.getD n z0).1.toNat).getD j 0∈(jd ls (nx (last.getD n z0).1.toNat) n v j).1.map (·.1)/\ ∀x∈v.1.map (·.1),x∈(jd ls (nx (last.getD n z0).1.toNat) n v j).1.map (·.1):=by
 obtain ⟨t,ht⟩: ∃t,(nx (last.getD n z0).1.toNat).getD j 0=t:=⟨_,rfl⟩
 unfold jd
 rw [ht] at hb⊢
 obtain ⟨i,rfl⟩:=Bi hb.1
 have hi:i<m:=by omega
 have hs:=h.seen i hi
 rw [Ac]
 by_cases hc:v.2.getD i false=true
 ·rw [Ab hc]
  exact ⟨h,hs.1 hc,λx hx=>hx⟩
 ·rw [Ai hc]
  have hni:(i:Int)∉v.1.map (·.1):= λhm=>hc (hs.2 hm)
  have ZS:(v.1++ [((i:Int),(n:Int),ls.getD j 0,())]).map (·.1)=v.1.map (·.1)++ [(i:Int)]:=by rw [Ir];rfl
  refine ⟨⟨by rw [Bv];exact h.len,?_,λx hx=>?_,λe he=>?_,λa ha b se=>?_⟩,?_,λx hx=>?_⟩
  ·show ((v.1++ [((i:Int),(n:Int),ls.getD j 0,())]).map (·.1)).Nodup
   rw [ZS]
   refine Dz.2 ⟨h.nd,by simp,λa ha b hb e=>?_⟩
   rw [Af.1 hb] at e
   exact hni (e▸ha)
  ·show ((v.2.set i true).getD x false=true↔(x:Int)∈(v.1++ [((i:Int),(n:Int),ls.getD j 0,())]).map (·.1))
   rw [ZS,Az,Af,Al,Ei]
   have hl:=h.len
   by_cases e:i=x
   ·subst e
    rw [Ab rfl,Ab (by omega)]
    exact ⟨λ_=>Or.inr rfl,λ_=>rfl⟩
   ·rw [Ai e,<-Al,h.seen x hx]
    exact ⟨Or.inl,λh1=>h1.resolve_right λh2=>e (by omega)⟩
  ·have he:e∈v.1++ [((i:Int),(n:Int),ls.getD j 0,())]:=he
   rcases Az.1 he with he|he
   ·exact h.ok e he
   ·rw [Af.1 he]
    exact ⟨hb,n,j,hn,hj,rfl,rfl,ht.symm⟩
  ·show _∈(v.1++ [((i:Int),(n:Int),ls.getD j 0,())]).map (·.1)
   rw [ZS]
   exact Bj _ (h.all a ha b se)
  ·show (i:Int)∈(v.1++ [((i:Int),(n:Int),ls.getD j 0,())]).map (·.1)
   rw [ZS]
   exact Cn _ (Af.2 rfl)
  ·show x∈(v.1++ [((i:Int),(n:Int),ls.getD j 0,())]).map (·.1)
   rw [ZS]
   exact Bj _ hx
theorem XW.row {nx:Nat->List Int} {ls:List Int} {m:Nat} {last:List EN} {k:Nat} {v:List EN×List Bool} (h:XW nx ls m last k v) {n:Nat} (hn:n<last.length)
  (hb: ∀j,j<ls.length->0<=(nx (last.getD n z0).1.toNat).getD j 0/\(nx (last.getD n z0).1.toNat).getD j 0<m): ∀(j:Nat),j<=ls.length->
  XW nx ls m last k (cQ ls (nx (last.getD n z0).1.toNat) n j v)/\(∀i,i<j->(nx (last.getD n z0).1.toNat).getD i 0∈(cQ ls (nx (last.getD n z0).1.toNat) n j v).1.map (·.1))/\ ∀x∈v.1.map (·.1),x∈(cQ ls (nx (last.getD n z0).1.toNat) n j v).1.map (·.1)
 |0,_=>⟨h,λi hi=>absurd hi (Et _),λx hx=>hx⟩
 |j+1,hj=>by
  obtain ⟨a,b,c⟩:=XW.row h hn hb j (by omega)
  have e:cQ ls (nx (last.getD n z0).1.toNat) n (j+1) v=jd ls (nx (last.getD n z0).1.toNat) n (cQ ls (nx (last.getD n z0).1.toNat) n j v) j:=by
   unfold cQ
   rw [Jq,Hz]
   rfl
  rw [e]
  obtain ⟨d,f,g⟩:=a.step hn (by omega) (hb j (by omega))
  refine ⟨d,λi hi=>?_,λx hx=>g x (c x hx)⟩
  by_cases ei:i=j
  ·rw [ei];exact f
  ·exact g _ (b i (by omega))
theorem Aap {nx:Nat->List Int} {ls:List Int} {m:Nat} {last:List EN} (hr:dp nx m) (hl: ∀i,i<m->(nx i).length=ls.length) (ho: ∀x∈last,0<=x.1/\x.1<m): ∀k,k<=last.length->XW nx ls m last k (tR nx ls last k ([],List.replicate m false))
 |0,_=>⟨Ep,Mc,λi hi=>by
   show (List.replicate m false).getD i false=true↔(i:Int)∈ []
   rw [Ce (by simpa using hi),List.getElem_replicate]
   simp,λe he=>(by cases he),λn hn=>absurd hn (Et _)⟩
 |k+1,hk=>by
  have ih:=Aap hr hl ho k (by omega)
  have hx:=ho _ (Am (show k<last.length by omega))
  have hg:last.getD k z0=last[k]'(by omega):=Ce (by omega)
  have XR:(last.getD k z0).1.toNat<m:=by rw [hg];omega
  have e:tR nx ls last (k+1) ([],List.replicate m false)=cQ ls (nx (last.getD k z0).1.toNat) k (nx (last.getD k z0).1.toNat).length (tR nx ls last k ([],List.replicate m false)):=by
   unfold tR
   rw [Jq,Hz]
   rfl
  rw [e,hl _ XR]
  obtain ⟨a,b,c⟩:=ih.row (n:=k) (by omega) (λj hj=>by
   have hj2:j<(nx (last.getD k z0).1.toNat).length:=by rw [hl _ XR];exact hj
   rw [Ce hj2]
   exact hr _ XR _ (Am hj2)) ls.length (Aq _)
  refine ⟨a.len,a.nd,a.seen,a.ok,λn hn j hj=>?_⟩
  by_cases en:n=k
  ·rw [en];exact b j hj
  ·exact c _ (ih.all n (by omega) j hj)
theorem Afb (h:Option HP) (last:List EN) (hh: ∃p t,Kx p t=true/\h=some (Dy p t)/\yF (Ae p).length last):fnW Gz (look [(121,Iv)]) db Try.f136 (h,last,()) (λ(z:List EN)=>z=RR h last):=by
 obtain ⟨p,t,hw,rfl,hl3,ho⟩:=hh
 obtain ⟨Tf,mV⟩:=Lq.1 hw
 have hx:kM (Ga p):=⟨Tf,rfl⟩
 have Pc:(Ga p).2.1=Ae p:=(aV Tf).1
 have RI:=Dg Tf
 have hm3:=eS RI.1
 have hV:=valid RI.1
 have hf:=hV.gG
 have hR:=ba Tf
 have hL: ∀i,i<(Ae p).length->(Gi p i).length=(Ao p.2.2.1.length).length:= λi _=>dD p i
 have hgo:=Aap hR hL ho
 have zm:Iv.fn ((p.2.2.1.length:Int),())=some (Ao p.2.2.1.length):=(Ab ⟨by show (0:Int)<=(p.2.2.1.length:Nat);omega,by show ((p.2.2.1.length:Nat):Int)<=8;omega⟩).trans (Dm some (by show Ao ((p.2.2.1.length:Nat):Int).toNat=_;rw [Ac]))
 have JV:(Ao p.2.2.1.length).length=2*p.2.2.1.length:=Ov _
 show fnW _ _ db _ _ (λz=>z=ky (Gi p) (Ae p).length (Ao p.2.2.1.length) last)
 refine Eq.mp (Ag5 _ _ _) ⟨Dy p t,rfl,Ga p,rfl,?_⟩
 rw [Pc]
 refine ⟨⟨by omega,by show ((Ae p).length:Int)<(4294967296:Int)+1;omega⟩,rfl,Dy p t,rfl,Ga p,rfl,Ao p.2.2.1.length,zm,rfl,rfl,rfl,rfl,?_⟩
 rw [Ac]
 refine Cg last.length (λv=>v.1) (λj v=>v.2=((tR (Gi p) (Ao p.2.2.1.length) last j ([],List.replicate (Ae p).length false)).1,(tR (Gi p) (Ao p.2.2.1.length) last j ([],List.replicate (Ae p).length false)).2,())) rfl rfl ?_
 rintro j ⟨j',V⟩ K hj CX hV2 hK
 dsimp only at CX hV2
 subst hV2 CX
 dsimp only
 have hI:=hgo j hj
 refine Br.dec (λhl=>?_) λhl=>?_
 ·have hl:j<last.length:=by omega
  have hxo:=ho _ (Am hl)
  have hg:last.getD j z0=last[j]:=Ce hl
  have XR:(last[j]).1.toNat<(Ae p).length:=by omega
  have hnx:=EO hx (i:=(last[j]).1.toNat) XR
  rw [Rp hxo.1] at hnx
  refine ⟨_,Cf hl,Dy p t,rfl,Ga p,rfl,_,hnx,rfl,rfl,rfl,rfl,?_⟩
  obtain ⟨row,Su⟩: ∃row,Gi p (last.getD j z0).1.toNat=row:=⟨_,rfl⟩
  have Aof:Gi (Ga p).1 (last[j]).1.toNat=row:=by rw [<-Su,hg];rfl
  rw [Aof]
  have hrl:row.length=(Ao p.2.2.1.length).length:=by rw [<-Su];exact dD p _
  have hrb: ∀b,b<(Ao p.2.2.1.length).length->0<=row.getD b 0/\row.getD b 0<(Ae p).length:= λb hb=>by
   rw [Ce (show b<row.length by omega)]
   exact hR (last.getD j z0).1.toNat (by rw [hg];exact XR) _ (by rw [Su];exact Am (by omega))
  have Ain:=hI.row (n:=j) hl (by rw [Su];exact hrb)
  rw [Su] at Ain
  obtain ⟨V,hVe⟩: ∃V,tR (Gi p) (Ao p.2.2.1.length) last j ([],List.replicate (Ae p).length false)=V:=⟨_,rfl⟩
  have xw:tR (Gi p) (Ao p.2.2.1.length) last (j+1) ([],List.replicate (Ae p).length false)=cQ (Ao p.2.2.1.length) row j row.length V:=by
   rw [<-hVe,<-Su]
   unfold tR
   rw [Jq,Hz]
   rfl
  rw [hVe] at Ain⊢
  refine Cg row.length (λv=>v.1) (λi v=>v.2=((cQ (Ao p.2.2.1.length) row j i V).1,(cQ (Ao p.2.2.1.length) row j i V).2,())) rfl rfl ?_
  rintro i ⟨i',W⟩ K2 hi cM hW2 QT
  dsimp only at cM hW2
  subst hW2 cM
  dsimp only
  have hIi:=(Ain i (by omega)).1
  have rD:=hIi.gG
  have Aom:=hIi.len
  obtain ⟨X,hX⟩: ∃X,cQ (Ao p.2.2.1.length) row j i V=X:=⟨_,rfl⟩
  have Ow:cQ (Ao p.2.2.1.length) row j (i+1) V=jd (Ao p.2.2.1.length) row j X i:=by
   rw [<-hX]
   unfold cQ
   rw [Jq,Hz]
   rfl
  rw [hX] at rD Aom⊢
  refine Br.dec (λnS=>?_) λnS=>?_
  ·have nS:i<row.length:=by omega
   have hb:=hrb i (by omega)
   have hri:row.getD i 0=row[i]:=Ce nS
   rw [hri] at hb
   have hsl:(row[i]).toNat<X.2.length:=by omega
   refine ⟨_,Cf nS,⟨hb.1,by omega⟩,X.2[(row[i]).toNat],by rw [Bk];exact Ad hsl,?_⟩
   unfold jd at Ow
   rw [hri,Ce hsl] at Ow
   refine Br.of (λhc=>?_) λhc=>?_
   ·rw [Ai (by simpa using hc),Ce (by omega)] at Ow
    refine ⟨⟨hb.1,by omega⟩,by rw [Bk];exact hsl,_,Cf (show i<(Ao p.2.2.1.length).length by omega),rfl,rfl,by show X.1.length+1<=4294967296;omega,rfl,rfl,rfl,by rw [Bv],?_⟩
    rw [Cb (by omega),Bk]
    exact QT nS _ rfl (by rw [Ow];rfl)
   ·rw [Ab (by simpa using hc)] at Ow
    refine ⟨rfl,rfl,rfl,rfl,?_⟩
    rw [Cb (by omega)]
    exact QT nS _ rfl (by rw [Ow])
  ·have:i=row.length:=by omega
   subst this
   refine ⟨rfl,rfl,rfl,rfl,?_⟩
   rw [Cb (by omega)]
   exact hK hl _ rfl (by rw [xw,hX])
 ·have:j=last.length:=by omega
  subst this
  rw [Dd]
  rfl
theorem IG:Sound Try.prog 136 db:=
 Sound.Hg Ff (Ba Uj Cc) mixed Try.func136 (by kernel_rfl) (by kernel_rfl) λx h=>Afb x.1 x.2.1 h
theorem SC (xs:List Int):o6 xs 0 xs.length=xs.reverse:=by
 refine List.ext_getElem? λk=>?_
 rw [xO (by omega)]
 by_cases h:k<xs.length
 ·rw [Ab ⟨Kr _,by omega⟩,List.getElem?_reverse h]
  congr 1
  omega
 ·rw [Ai (by omega),Ds (by omega),Ds (by rw [List.length_reverse];omega)]
theorem Abh (ls:List (List EN)) (n:Int) (h:(1<=ls.length/\ls.length<=4000)/\KD ls (ls.length-1) n):fnMW Uk (look [(186,Za)]) cj Try.f137 (ls,n,()) (λ(z:(List Int×Unit)×Unit)=>z=((a7 ls n,()),())):=by
 obtain ⟨⟨h1,h2⟩,hw⟩:=h
 refine Eq.mp (Ad5 ls n _) ⟨rfl,rfl,?_⟩
 refine Cg (ls.length-1) (λv=>((ls.length-1:Nat):Int)-v.2.1) (λj v=>wY ls (ls.length-1-j) v.1 v.2.2.1=wY ls (ls.length-1) n []/\KD ls (ls.length-1-j) v.1/\v.2.2.1.length=j) (by
  show ((ls.length-1:Nat):Int)-IntKind.i64.wrap ((ls.length:Int)-1)=0
  rw [Cj (by omega) (by omega)]
  omega) ⟨rfl,hw,rfl⟩ ?_
 rintro j ⟨m,k',out,⟨⟩⟩ K hj hk ⟨e1,e2,e3⟩ hK
 dsimp only at hk e1 e2 e3
 obtain ⟨k,LR⟩: ∃k:Nat,ls.length-1-j=k:=⟨_,rfl⟩
 obtain rfl:k'=(k:Int):=by omega
 rw [LR] at e1 e2
 dsimp only
 refine Br.dec (λhl=>?_) λhl=>?_
 ·match k,LR,e1,e2,hl with
  |k+1,LR,e1,e2,hl=>
   obtain ⟨f1,f2,f3⟩:=e2
   rw [wY] at e1
   have Nn:k+1<ls.length:=by omega
   have hgl:ls.getD (k+1) []=ls[k+1]:=Ce Nn
   rw [hgl] at f2
   obtain ⟨i,rfl⟩:=Bi f1
   have hi:i<(ls[k+1]).length:=by omega
   have ZK:nz ls (k+1) (i:Int)=(ls[k+1])[i]:=by
    unfold nz
    rw [hgl,Ac,Ce hi]
   rw [ZK] at e1 f3
   refine ⟨_,Cf Nn,_,Cf hi,rfl,rfl,by show out.length+1<=4294967296;omega,_,Cf Nn,_,Cf hi,rfl,rfl,?_⟩
   refine hK (by omega) _ ?_ ⟨?_,?_,?_⟩
   ·show ((ls.length-1:Nat):Int)-IntKind.i64.wrap (((k+1:Nat):Int)-1)=_
    rw [Cj (by omega) (by omega)]
    omega
   ·show wY ls (ls.length-1-(j+1)) _ (out++ [_])=_
    rw [show ls.length-1-(j+1)=k by omega]
    exact e1
   ·show KD ls (ls.length-1-(j+1)) _
    rw [show ls.length-1-(j+1)=k by omega]
    exact f3
   ·show (out++ [_]).length=_
    rw [Ax,Bn,e3]
  |0,LR,e1,e2,hl=>exact absurd hl (by decide)
 ·have si:k=0:=by
   have: ¬(k:Int)>0:=hl
   omega
  subst si
  rw [wY] at e1
  have hr:Za.fn ((out,(0:Nat),out.length),())=some ((),(o6 out 0 out.length,())):=Ab ⟨by show out.length<=4294967296;omega,by show 0+out.length<=out.length;omega⟩
  refine ⟨_,hr,?_,?_⟩
  ·show (o6 out 0 out.length).length=out.length
   rw [SC,List.length_reverse]
  ·show ((List.take out.length (List.drop 0 (o6 out 0 out.length)),()),())=((a7 ls n,()),())
   unfold a7
   rw [SC,<-e1,Du,Nq (by rw [List.length_reverse];exact Aq _)]
theorem BK:Dx Try.prog 137 cj:=
 Dx.mA Sn (Gy wI Cc) mixed Try.func137 (by kernel_rfl) (by kernel_rfl) λx h=>Abh x.1 x.2.1 h
section
variable {p:PP} {t:List Int}
theorem zL (Tf:Cy p=true) {last:List EN} (hl:yF (Ae p).length last):XW (Gi p) (Ao p.2.2.1.length) (Ae p).length last last.length (tR (Gi p) (Ao p.2.2.1.length) last last.length ([],List.replicate (Ae p).length false)):=
 Aap (ba Tf) (λi _=>dD p i) hl.2 last.length (Aq _)
theorem kv (Tf:Cy p=true) {i:Int} (hi:0<=i/\i<(Ae p).length): ∀k,yF (Ae p).length (Jm p i k)
 |0=>⟨by show 1<=3000;decide,λx hx=>by
   rw [Af.1 (show x∈ [(i,(0:Int),(0:Int),())] from hx)]
   exact hi⟩
 |k+1=>by
  have h:=zL Tf (kv Tf hi k)
  have hm3:=eS (Dg Tf).1
  exact ⟨Iq h.gG (by omega),λx hx=>(h.ok x hx).1⟩
theorem GF (Tf:Cy p=true) {s:List Int} (hs:s∈Ae p) (w:List Int) (hw: ∀l∈w,Fy (List.length p.2.2.1) l): ∀k,k<=w.length->
  ((((Ae p).idxOf (Dr p.2.2.1 s (w.take k)):Nat):Int)∈(Jm p (Gs p s).1 k).map (·.1))/\Dr p.2.2.1 s (w.take k)∈Ae p
 |0,_=>by
  have e:(Gs p s).1=(((Ae p).idxOf s:Nat):Int):=by unfold Gs;rw [Ab hs]
  refine ⟨?_,hs⟩
  show (((Ae p).idxOf s:Nat):Int)∈ [(Gs p s).1]
  rw [e]
  exact Af.2 rfl
 |k+1,hk=>by
  obtain ⟨h1,h2⟩:=GF Tf hs w hw k (by omega)
  have hl:=hw _ (Am (show k<w.length by omega))
  have JW:=pq hl
  have e:=sH (g:=p.2.2.1) (s:=s) (w:=w) (j:=k) (by omega)
  obtain ⟨y,hy⟩: ∃y,Dr p.2.2.1 s (w.take k)=y:=⟨_,rfl⟩
  rw [hy] at h1 h2 e
  rw [e]
  refine ⟨?_,(Lc Tf).next y h2 _ JW⟩
  obtain ⟨i1,i2,_⟩:=tJ hs
  have hI:=zL Tf (kv Tf ⟨i1,i2⟩ k)
  obtain ⟨en,ZK,e1⟩:=Be.1 h1
  obtain ⟨n,hn,Atg⟩:=Bf.1 ZK
  obtain ⟨j,hj,XN⟩:=Bf.1 JW
  have h3:=hI.all n hn j hj
  rw [Ce hn,Atg,e1,Ac] at h3
  have JU:=Ef h2
  have h4:(Gi p ((Ae p).idxOf y)).getD j 0=(((Ae p).idxOf (Ak y (Av p.2.2.1 w[k])):Nat):Int):=by
   have h5:Gi p ((Ae p).idxOf y)=(Ao p.2.2.1.length).map λl=>(((Ae p).idxOf (Ak y (Av p.2.2.1 l)):Nat):Int):=by
    unfold Gi qI
    rw [Ce JU,Ml JU]
   rw [h5,Ce (by rw [Ck];exact hj),Td,XN]
  rw [h4] at h3
  exact h3
noncomputable def uV (p:PP) (i:Int) (a n:Nat):List Int:=(Ae p).getD ((Jm p i a).getD n z0).1.toNat []
noncomputable def LC (p:PP) (t x:List Int):Int:=Hm (Ae (Bl p t)) (Bc (Bl p t)) x
structure BsI (p:PP) (t:List Int) (i sh:Int) (K N:Nat) (v:Int×Int×Int):Prop where
 got:v.1<0\/ ∃a n:Nat,v.2.1=a/\v.2.2=n/\a<=K/\(a<K\/n<N)/\n<(Jm p i a).length/\uV p i a n∈Ae (Bl p t)/\v.1=a+LC p t (uV p i a n)
 YJ: ∀a n:Nat,(a<K\/a=K/\n<N)->n<(Jm p i a).length->sh<=a->uV p i a n∈Ae (Bl p t)->0<=v.1/\v.1<=a+LC p t (uV p i a n)
theorem BsI.step (j5:Cy (Bl p t)=true) {i sh:Int} {K N:Nat} {v:Int×Int×Int} (h:BsI p t i sh K N v) (hN:N<(Jm p i K).length):BsI p t i sh K (N+1) (oW p t sh (K:Int) (Jm p i K) v N):=by
 unfold oW
 by_cases hc:(sh<=(K:Int)/\(Ae p).getD ((Jm p i K).getD N z0).1.toNat []∈Ae (Bl p t))/\(v.1<0\/(K:Int)+Hm (Ae (Bl p t)) (Bc (Bl p t)) ((Ae p).getD ((Jm p i K).getD N z0).1.toNat [])<v.1)
 ·rw [Ab hc]
  obtain ⟨⟨c1,c2⟩,c3⟩:=hc
  have hd:0<=LC p t (uV p i K N):=(Uc j5).nn _ c2
  refine ⟨Or.inr ⟨K,N,rfl,rfl,Aq _,Or.inr (Nat.lt_succ_self _),hN,c2,rfl⟩,λa n ha hn qz Oj=>?_⟩
  show 0<=(K:Int)+LC p t (uV p i K N)/\(K:Int)+LC p t (uV p i K N)<=a+LC p t (uV p i a n)
  refine ⟨by omega,?_⟩
  by_cases e:a=K/\n=N
  ·rw [e.1,e.2]
   exact Ok _
  ·obtain ⟨b1,b2⟩:=h.YJ a n (by omega) hn qz Oj
   have c3:v.1<0\/(K:Int)+LC p t (uV p i K N)<v.1:=c3
   omega
 ·rw [Ai hc]
  refine ⟨?_,λa n ha hn qz Oj=>?_⟩
  ·rcases h.got with g|⟨a,n,g1,g2,g3,g4,g5⟩
   ·exact Or.inl g
   ·exact Or.inr ⟨a,n,g1,g2,g3,by omega,g5⟩
  ·by_cases e:a=K/\n=N
   ·obtain ⟨rfl,rfl⟩:=e
    have: ¬(v.1<0\/(a:Int)+LC p t (uV p i a n)<v.1):= λhh=>hc ⟨⟨qz,Oj⟩,hh⟩
    omega
   ·exact h.YJ a n (by omega) hn qz Oj
theorem BsI.row (j5:Cy (Bl p t)=true) {i sh:Int} {K:Nat} {v:Int×Int×Int} (h:BsI p t i sh K 0 v): ∀n,n<=(Jm p i K).length->BsI p t i sh K n (dU p t sh (K:Int) (Jm p i K) n v)
 |0,_=>h
 |n+1,hn=>by
  have e:dU p t sh (K:Int) (Jm p i K) (n+1) v=oW p t sh (K:Int) (Jm p i K) (dU p t sh (K:Int) (Jm p i K) n v) n:=by
   unfold dU
   rw [Jq,Hz]
   rfl
  rw [e]
  exact (BsI.row j5 h n (by omega)).step j5 (by omega)
theorem xb (p:PP) (t:List Int) (i sh:Int) (K:Nat):m7 p t i sh (K+1)=dU p t sh (K:Int) (Jm p i K) (Jm p i K).length (m7 p t i sh K):=by
 unfold m7
 rw [Jq,Hz]
 rfl
theorem YM (j5:Cy (Bl p t)=true) (i sh:Int): ∀K,BsI p t i sh K 0 (m7 p t i sh K)
 |0=>⟨Or.inl (by show (-1:Int)<0;decide),λa n ha=>by omega⟩
 |K+1=>by
  have h:=(YM j5 i sh K).row j5 (Jm p i K).length (Aq _)
  rw [xb]
  refine ⟨?_,λa n ha hn qz Oj=>?_⟩
  ·rcases h.got with g|⟨a,n,g1,g2,g3,g4,g5⟩
   ·exact Or.inl g
   ·exact Or.inr ⟨a,n,g1,g2,by omega,Or.inl (by omega),g5⟩
  ·by_cases e:a=K
   ·subst e
    exact h.YJ a n (Or.inr ⟨rfl,hn⟩) hn qz Oj
   ·exact h.YJ a n (Or.inl (by omega)) hn qz Oj
end
theorem Yn (p:PP) (i:Int) {K a:Nat} (h:a<K):(Jp p i K).getD a []=Jm p i a:=by
 unfold Jp
 rw [Ce (by rw [Ck,List.length_range];exact h),Td,List.getElem_range]
theorem c8 (p:PP) (i:Int) (K:Nat):(Jp p i K).length=K:=by unfold Jp;rw [Ck,List.length_range]
theorem GD (p:PP) (i:Int) {a K:Nat} (h:a<=K):(Jp p i K).take a=Jp p i a:=by
 unfold Jp
 rw [<-List.map_take,List.take_range,Nat.min_eq_left h]
theorem Ai4 {p:PP} (Tf:Cy p=true) {i:Int} (hi:0<=i/\i<(Ae p).length) {K:Nat} : ∀(a n:Nat),a<K->n<(Jm p i a).length->KD (Jp p i K) a (n:Int)
 |0,_,_,_=>trivial
 |a+1,n,ha,hn=>by
  have h:=zL Tf (kv Tf hi a)
  have lp:n<(Jm p i (a+1)).length:=hn
  obtain ⟨_,n',j,h1,_,h3,_⟩:=h.ok _ (Am lp)
  refine ⟨by omega,by rw [Yn p i ha];omega,?_⟩
  have e:nz (Jp p i K) (a+1) (n:Int)=(Jm p i (a+1))[n]:=by
   unfold nz
   rw [Yn p i ha,Ac,Ce lp]
  rw [e]
  have h3:((Jm p i (a+1))[n]).2.1=(n':Int):=h3
  rw [h3]
  exact Ai4 Tf hi a n' (by omega) h1
theorem SI {p:PP} {t:List Int} (Tf:Cy p=true) (mV:Cw p t=true):(Ae (Bl p t)).length<=(Ae p).length:=
 Ug (IL (Dg (Ra Tf mV)).1) λ_ hx=>vd Tf mV hx
theorem yD {p:PP} {t s:List Int} (hw:Kx p t=true) (hs:s∈Ae p) {T:Nat} (hT:Ii p (Hy p t) s+1+1=(T:Int)): ∃(a n:Nat) (B1:Int),m7 p t (Gs p s).1 (Ii p (Hy p t) s) T=(B1,(a:Int),(n:Int))/\a<T/\n<(Jm p (Gs p s).1 a).length/\
  uV p (Gs p s).1 a n∈Ae (Bl p t)/\B1=a+LC p t (uV p (Gs p s).1 a n)/\B1<=Ii p (Hy p t) s+LC p t (Dr p.2.2.1 s (Kw p (Hy p t) s)):=by
 obtain ⟨Tf,mV⟩:=Lq.1 hw
 have j5:=Ra Tf mV
 obtain ⟨w1,w2,w3,w4⟩:=RZ Tf mV hs
 obtain ⟨o1,_,_⟩:=zU Tf mV hs
 have hb:=YM (t:=t) j5 (Gs p s).1 (Ii p (Hy p t) s) T
 obtain ⟨w,hwe⟩: ∃w,Kw p (Hy p t) s=w:=⟨_,rfl⟩
 rw [hwe] at w1 w2 w3 w4
 obtain ⟨h1,_⟩:=GF Tf hs w (λl hl=>Iz (w2 l hl)) w.length (Aq _)
 rw [Bh] at h1
 obtain ⟨en,ZK,e1⟩:=Be.1 h1
 obtain ⟨n0,hn0,e2⟩:=Bf.1 ZK
 have JU:=Ef w3
 have Pc:uV p (Gs p s).1 w.length n0=Dr p.2.2.1 s w:=by
  unfold uV
  rw [Ce hn0,e2,e1,Ac,Ce JU,Ml JU]
 obtain ⟨b1,b2⟩:=hb.YJ w.length n0 (Or.inl (by omega)) hn0 (by omega) (by rw [Pc];exact w4)
 rw [Pc] at b2
 obtain ⟨B,hB⟩: ∃B,m7 p t (Gs p s).1 (Ii p (Hy p t) s) T=B:=⟨_,rfl⟩
 rw [hB] at hb b1 b2⊢
 obtain ⟨B1,B2,B3⟩:=B
 rcases hb.got with g|⟨a,n,g1,g2,g3,g4,g5,g6,g7⟩
 ·have g:B1<0:=g
  have b1:0<=B1:=b1
  omega
 ·have g1:B2=a:=g1
  have g2:B3=n:=g2
  have g7:B1=a+LC p t (uV p (Gs p s).1 a n):=g7
  have b2:B1<=(w.length:Int)+LC p t (Dr p.2.2.1 s w):=b2
  rw [hwe]
  exact ⟨a,n,B1,by rw [g1,g2],by omega,g5,g6,g7,by omega⟩
theorem NC (n:Int) (str:ByteArray) (g:List (List Int)) (t s:List Int) (k:Int) (h:Gb (n,str,g,())/\short t/\short s/\Kx (n,str,g,()) t=true/\s∈Ae (n,str,g,())/\(Ae (n,str,g,())).length<=120/\k=1):
  fnMW (CB [jY+53]) (look [(110,Il),(94,Ct),(112,Sk),(135,Sl),(136,db),(114,Uw),(137,cj)]) Vg Try.f61 (n,str,g,t,s,k,()) (λ(z:(List Int×List Int×Bool×Unit)×Unit)=>z=(((Qk (n,str,g,()) t s k).1,(Qk (n,str,g,()) t s k).2.1,(Qk (n,str,g,()) t s k).2.2.1,()),())):=by
 obtain ⟨p,XO⟩: ∃p:PP,p=(n,str,g,()):=⟨_,rfl⟩
 refine Eq.mp (PI n str g t s k _) ?_
 rw [<-XO] at h⊢
 obtain ⟨hp,tD,hss,hw,Oj,rD,rfl⟩:=h
 obtain ⟨Tf,mV⟩:=Lq.1 hw
 have hv:=(Dg Tf).1
 have j5:=Ra Tf mV
 have he:Il.fn (p,t,s,())=some (some (Dy p t),(Gs p s).1,(Gs p s).2.1,()):=(Ab ⟨hp,tD,hss⟩).trans (Dm some (Ab hw))
 have hr:Ct.fn ((1:Int),(0:Int),(2:Int),())=some true:=Ab trivial
 have hdi:=xg hw
 obtain ⟨i1,i2,i3⟩:=tJ Oj
 have hdl:=(pJ Tf mV).1.1
 obtain ⟨o1,o2,_⟩:=zU Tf mV Oj
 have Atd:=s6 Tf Oj
 obtain ⟨sh,qz⟩: ∃sh,Ii p (Hy p t) s=sh:=⟨_,rfl⟩
 rw [qz] at o1 o2
 obtain ⟨i,hie⟩: ∃i,(Gs p s).1=i:=⟨_,rfl⟩
 rw [hie] at i1 i2 i3
 have JU:(Ae p).idxOf s=i.toNat:=by
  rw [<-hie]
  unfold Gs
  rw [Ab Oj,Ac]
 have JT:idx (Hy p t) i=some sh:=by
  have h1:=Cf (xs:=Hy p t) (j:=i.toNat) (by omega)
  rw [Rp i1] at h1
  refine h1.trans (Dm some (Eq.trans ?_ qz))
  show (Hy p t)[i.toNat]'(by omega)=(Hy p t).getD ((Ae p).idxOf s) 0
  rw [JU,Ce (by omega)]
 have hlv:=kv Tf ⟨i1,i2⟩
 unfold Qk
 rw [qz,hie]
 obtain ⟨T,hT⟩: ∃T:Nat,sh+1+1=(T:Int):=Bi (by omega)
 rw [hT,Ac]
 refine ⟨_,he,Br.of (λhh=>by rw [xD,Bp Oj] at hh;cases hh) λ_=>⟨_,hr,Br.of (λhh=>by cases hh) λ_=>⟨Dy p t,rfl,Hy p t,hdi,sh,by rw [hie];exact JT,rfl,rfl,?_⟩⟩⟩
 dsimp only
 rw [hie]
 have Ani:kM (Ga p):=⟨Tf,rfl⟩
 have Ath:kM (Ga (Bl p t)):=⟨j5,rfl⟩
 have Pc:(Ga p).2.1=Ae p:=(aV Tf).1
 have hsd:(Ga (Bl p t)).2.2.1=Bc (Bl p t):=(aV j5).2
 have ewr:IntKind.i64.wrap (sh+1)=sh+1:=Cj (by omega) (by omega)
 rw [ewr]
 refine Cg T (λv=>v.2.2.2.1) (λj v=>v=((m7 p t i sh j).1,(m7 p t i sh j).2.1,(m7 p t i sh j).2.2,(j:Int),Jp p i (j+1),())) rfl rfl ?_
 rintro j v K hj CX rfl hK
 dsimp only
 have hbs:=YM j5 i sh j
 have JV:=c8 p i (j+1)
 refine Br.dec (λhl=>?_) λhl=>?_
 ·have hl:j<T:=by omega
  have Ay:(Jp p i (j+1))[0+((j:Nat):Int).toNat]?=some (Jm p i j):=by
   rw [Bk,Ac,Ad (by omega),<-Ce (d:= []) (by omega),Yn p i (by omega)]
  refine ⟨⟨by omega,by rw [JV];omega⟩,Jm p i j,Ay,rfl,rfl,?_⟩
  have XN:=hlv j
  have xw:=xb p t i sh j
  obtain ⟨V,hV⟩: ∃V,m7 p t i sh j=V:=⟨_,rfl⟩
  rw [hV] at hbs xw⊢
  refine Cg (Jm p i j).length (λv=>v.2.2.2.1) (λn v=>v=((dU p t sh (j:Int) (Jm p i j) n V).1,(dU p t sh (j:Int) (Jm p i j) n V).2.1,(dU p t sh (j:Int) (Jm p i j) n V).2.2,(n:Int),Jp p i (j+1),())) rfl rfl ?_
  rintro n v K2 hn lp rfl QT
  dsimp only
  have hR:=hbs.row j5 n hn
  have Ow:dU p t sh (j:Int) (Jm p i j) (n+1) V=oW p t sh (j:Int) (Jm p i j) (dU p t sh (j:Int) (Jm p i j) n V) n:=by
   unfold dU
   rw [Jq,Hz]
   rfl
  obtain ⟨U,hU⟩: ∃U,dU p t sh (j:Int) (Jm p i j) n V=U:=⟨_,rfl⟩
  rw [hU] at hR Ow⊢
  refine Br.dec (λnS=>?_) λnS=>?_
  ·have nS:n<(Jm p i j).length:=by omega
   have hx:=XN.2 _ (Am nS)
   obtain ⟨x,hxe⟩: ∃x,(Jm p i j)[n]=x:=⟨_,rfl⟩
   have hg:(Jm p i j).getD n z0=x:=by rw [Ce nS,hxe]
   rw [hxe] at hx
   have XR:x.1.toNat<(Ae p).length:=by omega
   obtain ⟨y,hy⟩: ∃y,(Ae p)[x.1.toNat]=y:=⟨_,rfl⟩
   have hgy:(Ae p).getD x.1.toNat []=y:=by rw [Ce XR,hy]
   have hys:y∈Ae p:=by rw [<-hy];exact Am XR
   have Atq:idx (Ga p).2.1 x.1=some y:=by
    have h1:=Cf (xs:=Ae p) (j:=x.1.toNat) XR
    rw [Rp hx.1,hy] at h1
    rw [Pc]
    exact h1
   have xr:Sl.fn ((Dy p t).2.2.1,y,())=some (Gs (Bl p t) y):=(Ab ⟨⟨Ga (Bl p t),rfl,Ath⟩,ab (jM hv hys)⟩).trans rfl
   unfold oW at Ow
   rw [hg,hgy] at Ow
   refine ⟨x,by rw [<-hxe];exact Cf nS,Dy p t,rfl,Dy p t,rfl,Ga p,rfl,y,Atq,Gs (Bl p t) y,xr,?_⟩
   have ewn:IntKind.i64.wrap ((n:Int)+1)=((n+1:Nat):Int):=Cb (by have:=XN.1;omega)
   rw [ewn]
   by_cases c1:sh<=(j:Int)
   ·refine Br.dec (λ_=>?_) λhh=>absurd c1 hh
    by_cases c2:y∈Ae (Bl p t)
    ·have hye:(Gs (Bl p t) y).2.1=true:=by rw [xD,Bp c2]
     have hyi:(Gs (Bl p t) y).1=(((Ae (Bl p t)).idxOf y:Nat):Int):=by unfold Gs;rw [Ab c2]
     have hyl:=Ef c2
     have Awq:(Bc (Bl p t)).length=(Ae (Bl p t)).length:=(aA (Dg j5).1).len
     have hdd:Hm (Ae (Bl p t)) (Bc (Bl p t)) y=(Bc (Bl p t)).getD ((Ae (Bl p t)).idxOf y) 0:=Ab c2
     obtain ⟨d,hd⟩: ∃d,Hm (Ae (Bl p t)) (Bc (Bl p t)) y=d:=⟨_,rfl⟩
     have hdb:=oX j5 c2
     rw [hd] at Ow hdd hdb
     have Ait:idx (Ga (Bl p t)).2.2.1 (Gs (Bl p t) y).1=some d:=by
      rw [hsd,hyi,Cf (by omega),hdd,Ce (by omega)]
     have ewd:IntKind.i64.wrap ((j:Int)+d)=(j:Int)+d:=Cj (by omega) (by omega)
     refine Br.of (λ_=>?_) λhh=>by rw [hye] at hh;cases hh
     refine Br.dec (λc3=>?_) λc3=>?_
     ·rw [Ab ⟨⟨c1,c2⟩,Or.inl c3⟩] at Ow
      refine ⟨Dy p t,rfl,Ga (Bl p t),rfl,d,Ait,rfl,rfl,?_⟩
      rw [ewd]
      exact QT nS _ rfl (by rw [Ow])
     ·refine ⟨Dy p t,rfl,Ga (Bl p t),rfl,d,Ait,?_⟩
      rw [ewd]
      refine Br.dec (λc4=>?_) λc4=>?_
      ·rw [Ab ⟨⟨c1,c2⟩,Or.inr c4⟩] at Ow
       refine ⟨Dy p t,rfl,Ga (Bl p t),rfl,d,Ait,rfl,rfl,?_⟩
       rw [ewd]
       exact QT nS _ rfl (by rw [Ow])
      ·rw [Ai (λhh=>hh.2.elim c3 c4)] at Ow
       exact ⟨rfl,rfl,QT nS _ rfl (by rw [Ow])⟩
    ·have hye:(Gs (Bl p t) y).2.1=false:=by rw [xD,Eu c2]
     refine Br.of (λhh=>by rw [hye] at hh;cases hh) λ_=>?_
     rw [Ai (λhh=>c2 hh.1.2)] at Ow
     exact ⟨rfl,rfl,QT nS _ rfl (by rw [Ow])⟩
   ·refine Br.dec (λhh=>absurd hh c1) λ_=>?_
    rw [Ai (λhh=>c1 hh.1.1)] at Ow
    exact ⟨rfl,rfl,QT nS _ rfl (by rw [Ow])⟩
  ·have:n=(Jm p i j).length:=by omega
   subst this
   have Au8:db.fn (some (Dy p t),Jm p i j,())=some (Jm p i (j+1)):=Ab ⟨p,t,hw,rfl,XN⟩
   refine ⟨⟨by omega,by rw [JV];omega⟩,Jm p i j,Ay,Jm p i (j+1),Au8,rfl,rfl,by rw [JV];show j+1+1<=4294967296;omega,rfl,rfl,?_⟩
   have hl3:Jp p i (j+1)++ [Jm p i (j+1)]=Jp p i (j+1+1):=by
    unfold Jp
    rw [Jq (n:=j+1),Ir]
    rfl
   rw [Cb (by omega)]
   refine hK hl _ rfl ?_
   rw [xw,hU]
   show (_,_,_,_,Jp p i (j+1)++ [Jm p i (j+1)],())=_
   rw [hl3]
 ·have:j=T:=by omega
  subst this
  obtain ⟨a,m,B1,hB,ha,hm,Oe,_,_⟩:=yD hw Oj (T:=j) (by rw [qz];exact hT)
  rw [hie,qz] at hB
  rw [hie] at hm Oe
  rw [hB]
  dsimp only
  have Ay:(Jp p i (j+1))[0+((a:Nat):Int).toNat]?=some (Jm p i a):=by
   rw [Bk,Ac,Ad (by omega),<-Ce (d:= []) (by omega),Yn p i (by omega)]
  have hx:=(hlv a).2 _ (Am hm)
  have ZK:nz (Jp p i (((a:Nat):Int).toNat+1)) ((a:Nat):Int).toNat (m:Int)=(Jm p i a)[m]:=by
   unfold nz
   rw [Ac,Ac,Yn p i (Nat.lt_succ_self a),Ce hm]
  have Aop:(Ae p).getD ((Jm p i a)[m]).1.toNat []=uV p i a m:=by unfold uV;rw [Ce hm]
  rw [ZK,Aop]
  have FD:(Lm p t (uV p i a m)).length<=200:=by
   unfold Lm
   rw [Ck]
   have b1:=(QG j5 Oe).1
   have b2:=s6 j5 Oe
   have b3:=SI Tf mV
   omega
  have Ajq:Uw.fn (some (Dy p t),((Jm p i a)[m]).1,())=some (((Lm p t (uV p i a m),true,()),())):=by
   refine (Ab ⟨p,t,hw,rfl,hx.1,hx.2⟩).trans (Dm some ?_)
   show (fG p t ((Ae p).getD ((Jm p i a)[m]).1.toNat []),())=_
   rw [Aop,Acl Tf mV Oe,Aii FD]
  refine ⟨⟨by omega,by omega⟩,Jm p i a,Ay,_,Cf hm,_,Ajq,Br.of (λhh=>by cases hh) λ_=>Br.dec (λhh=>?_) λ_=>?_⟩
  ·have hh:(a:Int)>200:=hh
   omega
  have ewa:IntKind.i64.wrap ((a:Int)+1)=((a+1:Nat):Int):=Cb (by omega)
  rw [ewa]
  have Lg:List.take (((a+1:Nat):Int).toNat-Int.toNat 0) (List.drop (0+Int.toNat 0) (Jp p i (j+1)))=Jp p i (a+1):=by
   show List.take (((a+1:Nat):Int).toNat-0) (List.drop 0 (Jp p i (j+1)))=_
   rw [Ac,Du,Nat.sub_zero,GD p i (by omega)]
  rw [Lg]
  have hwo:cj.fn (Jp p i (a+1),(m:Int),())=some ((a7 (Jp p i (a+1)) (m:Int),()),()):=Ab ⟨⟨by rw [c8];omega,by rw [c8];omega⟩,by
   show KD (Jp p i (a+1)) ((Jp p i (a+1)).length-1) (m:Int)
   rw [c8]
   exact Ai4 Tf ⟨i1,i2⟩ a m (Nat.lt_succ_self a) hm⟩
  refine ⟨⟨by omega,by omega,by rw [JV];omega⟩,_,hwo,?_⟩
  rw [Dd,Dd,Ac]
theorem uK:Dx Try.prog 61 Vg:=
 Dx.mA (CC [jY+53]) (Ba cm (Ba Tb (Ba oA (Ba ga (Ba IG (Gy qY (Gy BK Cc))))))) mixed Try.func61 (by kernel_rfl) (by kernel_rfl) λx h=>NC x.1 x.2.1 x.2.2.1 x.2.2.2.1 x.2.2.2.2.1 x.2.2.2.2.2.1 h
abbrev yx:Type:=Int×Int×ByteArray×List (List Int)×List Int×List Int×List Int×PUnit
abbrev yy:Type:=(List Int×List Int×Bool×PUnit)×PUnit
theorem Acx (code:List Int) (P:Bool->Prop):(∃(y2:Bool),yf.fn (code,())=some y2/\Br y2 (P true) (∃(y3:(List Int×Int×Int×PUnit)×PUnit),pR.fn (code,(1115:Int),())=some y3/\ ∃(y4:(List Int×Int×Int×Int×ByteArray×List (List Int)×PUnit)×PUnit),yl.fn (y3.1.1,y3.1.2.1,y3.1.2.2.1,())=some y4/\ ∃(y5:(List Int×Int×Int×List Int×PUnit)×PUnit),ym.fn (y4.1.1,y4.1.2.1,y4.1.2.2.1,y4.1.2.2.2.1,y4.1.2.2.2.2.1,List.take y4.1.2.2.2.2.2.1.length (List.drop 0 y4.1.2.2.2.2.2.1),())=some y5/\ ∃(y6:(List Int×Int×Int×Int×PUnit)×PUnit),Lw.fn (y5.1.1,y5.1.2.1,y5.1.2.2.1,(2:Int),())=some y6/\ ∃(y7:yy),Sm.fn (y4.1.2.2.2.1,y4.1.2.2.2.2.1,List.take y4.1.2.2.2.2.2.1.length (List.drop 0 y4.1.2.2.2.2.2.1),List.take 1 (List.drop 0 [y6.1.2.2.2.1]),y5.1.2.2.2.1,())=some y7/\ ∃(y8:List Int×Bool×PUnit),Nb.fn ((y4.1.2.2.2.1,y4.1.2.2.2.2.1,List.take y4.1.2.2.2.2.2.1.length (List.drop 0 y4.1.2.2.2.2.2.1),()),y5.1.2.2.2.1,List.take y7.1.1.length (List.drop 0 y7.1.1),())=some y8/\ ∃(y9:List Int×Bool×PUnit),Nb.fn ((y4.1.2.2.2.1,y4.1.2.2.2.2.1,List.take y4.1.2.2.2.2.2.1.length (List.drop 0 y4.1.2.2.2.2.2.1),()),y8.1,List.take y7.1.2.1.length (List.drop 0 y7.1.2.1),())=some y9/\Br (!y7.1.2.2.1) (P false) (Br (!y8.2.1) (P false) (Br (!y9.2.1) (P false) (∃(aC:Bool),Sw.fn ((y4.1.2.2.2.1,y4.1.2.2.2.2.1,List.take y4.1.2.2.2.2.2.1.length (List.drop 0 y4.1.2.2.2.2.2.1),()),List.take 1 (List.drop 0 [y6.1.2.2.2.1]),y8.1,())=some aC/\Br (!aC) (P false) (∃(Th:Bool),Sw.fn ((y4.1.2.2.2.1,y4.1.2.2.2.2.1,List.take y4.1.2.2.2.2.2.1.length (List.drop 0 y4.1.2.2.2.2.2.1),()),List.take 1 (List.drop 0 [y6.1.2.2.2.1]),y8.1,())=some Th/\Br (!Th) (P false) (∃(Xp:Bool),ai.fn ((y4.1.2.2.2.1,y4.1.2.2.2.2.1,List.take y4.1.2.2.2.2.2.1.length (List.drop 0 y4.1.2.2.2.2.2.1),()),y9.1,())=some Xp/\Br (!Xp) (P false) (0=0/\1= [y6.1.2.2.2.1].length/\0=0/\y7.1.1.length=y7.1.1.length/\0=0/\y7.1.2.1.length=y7.1.2.1.length/\Ea (λ(Wc:yx) (k14:yx->Prop)=>Br (decide (Wc.1<(↑Wc.2.2.2.2.2.2.1.length:Int))) (((0:Int)<=Wc.1/\Wc.1<(↑Wc.2.2.2.2.2.2.1.length:Int))/\ ∃(dO:Int),Wc.2.2.2.2.2.2.1[0+Wc.1.toNat]?=some dO/\((0:Int)<=(0:Int)/\(0:Int)<(↑Wc.2.2.2.2.1.length:Int))/\ ∃(Zf:Int),Wc.2.2.2.2.1[0+Int.toNat (0:Int)]?=some Zf/\Br (dO !=IntKind.i64.wrap (Zf+(1:Int))) (((0:Int)<=Wc.1/\Wc.1<(↑Wc.2.2.2.2.2.2.1.length:Int))/\ ∃(mR:Int),Wc.2.2.2.2.2.2.1[0+Wc.1.toNat]?=some mR/\((0:Int)<=(0:Int)/\(0:Int)<(↑Wc.2.2.2.2.1.length:Int))/\ ∃(mX:Int),Wc.2.2.2.2.1[0+Int.toNat (0:Int)]?=some mX/\Br (mR !=IntKind.i64.wrap (IntKind.i64.wrap ((0:Int)-mX)-(1:Int))) (P false) (0=0/\Wc.2.2.2.2.1.length=Wc.2.2.2.2.1.length/\0=0/\Wc.2.2.2.2.2.1.length=Wc.2.2.2.2.2.1.length/\0=0/\Wc.2.2.2.2.2.2.1.length=Wc.2.2.2.2.2.2.1.length/\k14 (IntKind.i64.wrap (Wc.1+(1:Int)),Wc.2.1,Wc.2.2.1,Wc.2.2.2.1,Wc.2.2.2.2.1,Wc.2.2.2.2.2.1,Wc.2.2.2.2.2.2.1,()))) (0=0/\Wc.2.2.2.2.1.length=Wc.2.2.2.2.1.length/\0=0/\Wc.2.2.2.2.2.1.length=Wc.2.2.2.2.2.1.length/\0=0/\Wc.2.2.2.2.2.2.1.length=Wc.2.2.2.2.2.2.1.length/\k14 (IntKind.i64.wrap (Wc.1+(1:Int)),Wc.2.1,Wc.2.2.1,Wc.2.2.2.1,Wc.2.2.2.2.1,Wc.2.2.2.2.2.1,Wc.2.2.2.2.2.2.1,()))) (∃(dO:yy),Vg.fn (Wc.2.1,Wc.2.2.1,Wc.2.2.2.1,List.take Wc.2.2.2.2.1.length (List.drop 0 Wc.2.2.2.2.1),y5.1.2.2.2.1,(1:Int),())=some dO/\ ∃(Zf:List Int×Bool×PUnit),Nb.fn ((Wc.2.1,Wc.2.2.1,Wc.2.2.2.1,()),y5.1.2.2.2.1,List.take dO.1.1.length (List.drop 0 dO.1.1),())=some Zf/\ ∃(mR:List Int×Bool×PUnit),Nb.fn ((Wc.2.1,Wc.2.2.1,Wc.2.2.2.1,()),Zf.1,List.take dO.1.2.1.length (List.drop 0 dO.1.2.1),())=some mR/\Br dO.1.2.2.1 (Br Zf.2.1 (Br mR.2.1 (∃(mX:Bool),ai.fn ((Wc.2.1,Wc.2.2.1,Wc.2.2.2.1,()),mR.1,())=some mX/\Br mX (Br (decide (IntKind.i64.wrap ((↑dO.1.1.length:Int)+(↑dO.1.2.1.length:Int))<=IntKind.i64.wrap ((↑Wc.2.2.2.2.2.1.length:Int)+(↑Wc.2.2.2.2.2.2.1.length:Int)))) (∃(XT:Int),mJ.fn ((Wc.2.1,Wc.2.2.1,Wc.2.2.2.1,()),y5.1.2.2.2.1,())=some XT/\P (decide (IntKind.i64.wrap ((↑dO.1.1.length:Int)+(↑dO.1.2.1.length:Int))>=XT))) (P false)) (P false)) (P false)) (P false)) (P false))) ((0:Int),y4.1.2.2.2.1,y4.1.2.2.2.2.1,List.take y4.1.2.2.2.2.2.1.length (List.drop 0 y4.1.2.2.2.2.2.1),[y6.1.2.2.2.1],y7.1.1,y7.1.2.1,PUnit.unit)))))))))=fnW (CB [fZ+4,ji]) (look [(10,yf),(11,pR),(12,yl),(13,ym),(17,Lw),(59,Sm),(21,Nb),(60,Sw),(48,Sw),(24,ai),(61,Vg),(27,mJ)]) OC Try.f9 (code,()) P:=by kernel_rfl
section
variable {p:PP}
theorem KY (hw:Cy p=true): ∀(w s:List Int),(∀l∈w,l∈Ao p.2.2.1.length)->s∈Ae p->Hm (Ae p) (Bc p) s<=w.length+Hm (Ae p) (Bc p) (Dr p.2.2.1 s w)
 | [],s,_,_=>by
  show _<=((0:Nat):Int)+Hm (Ae p) (Bc p) s
  omega
 |l::w,s,hl,hs=>by
  have LS:=hl l (Ji ..)
  have h1:=Ke.MR (Lc hw) (Uc hw) hs LS
  have h2:=KY hw w (Ak s (Av p.2.2.1 l)) (λy hy=>hl y (As _ hy)) ((Lc hw).next s hs l LS)
  show Hm (Ae p) (Bc p) s<=((w.length+1:Nat):Int)+Hm (Ae p) (Bc p) (Dr p.2.2.1 (Ak s (Av p.2.2.1 l)) w)
  omega
theorem SY {g:List (List Int)} (s u v:List Int):Dr g s (u++v)=Dr g (Dr g s u) v:=Hz
theorem kJ {n:Nat} {w:List Int} (h8:n<=8) (hl:w.length<=200) (h: ∀y∈w,Fy n y):Jd (n:Int) w=true:=by
 refine Dp.2 ⟨Bp hl,?_⟩
 cases e:List.any w λy=>!JY (hJ (n:Int)) y with
 |false=>rfl
 |true=>
  obtain ⟨y,hy,h1⟩:=Eo.1 e
  have h2:=h y hy
  have:JY (hJ (n:Int)) y=true:=by
   unfold Fy at h2
   have e8:hJ (n:Int)=n:=Ai (by omega)
   rw [e8]
   exact Bp h2
  rw [this] at h1
  cases h1
theorem SQ (Tf:Cy p=true) {s:List Int} (hs:s∈Ae p) {K:Nat} : ∀(a n:Nat) (out:List Int),a<K->n<(Jm p (Gs p s).1 a).length->
  ∃u,wY (Jp p (Gs p s).1 K) a (n:Int) out=out++u/\u.length=a/\(∀l∈u,l∈Ao p.2.2.1.length)/\Dr p.2.2.1 s u.reverse=uV p (Gs p s).1 a n
 |0,n,out,_,hn=>by
  obtain ⟨i1,i2,i3⟩:=tJ hs
  have hn:n<1:=hn
  obtain rfl:n=0:=by omega
  refine ⟨[],by rw [wY,List.append_nil],rfl,λl hl=>(by cases hl),?_⟩
  exact i3.symm
 |a+1,n,out,ha,hn=>by
  obtain ⟨i1,i2,i3⟩:=tJ hs
  have h:=zL Tf (kv Tf ⟨i1,i2⟩ a)
  obtain ⟨hb,n',j,h1,h2,h3,h4,h5⟩:=h.ok _ (Am (show n<(Jm p (Gs p s).1 (a+1)).length from hn))
  have ZK:nz (Jp p (Gs p s).1 K) (a+1) (n:Int)=(Jm p (Gs p s).1 (a+1))[n]:=by
   unfold nz
   rw [Yn p _ ha,Ac,Ce hn]
  obtain ⟨e,he⟩: ∃e,(Jm p (Gs p s).1 (a+1))[n]=e:=⟨_,rfl⟩
  have FF:(ky (Gi p) (Ae p).length (Ao p.2.2.1.length) (Jm p (Gs p s).1 a))[n]'hn=e:=he
  have h3:e.2.1=(n':Int):=by rw [<-FF];exact h3
  have h4:e.2.2.1=(Ao p.2.2.1.length).getD j 0:=by rw [<-FF];exact h4
  have h5:e.1=(Gi p ((Jm p (Gs p s).1 a).getD n' z0).1.toNat).getD j 0:=by rw [<-FF];exact h5
  obtain ⟨u,u1,u2,u3,u4⟩:=SQ Tf hs (K:=K) a n' (out++ [e.2.2.1]) (by omega) h1
  have JW:(Ao p.2.2.1.length)[j]∈Ao p.2.2.1.length:=Am h2
  rw [Ce h2] at h4
  refine ⟨e.2.2.1::u,?_,by rw [Aw,u2],λl hl=>?_,?_⟩
  ·rw [wY,ZK,he,h3,u1,Bo]
   rfl
  ·rcases Bb.1 hl with rfl|hl
   ·rw [h4];exact JW
   ·exact u3 l hl
  ·rw [List.reverse_cons,SY,u4]
   have hx:=(kv Tf ⟨i1,i2⟩ a).2 _ (Am h1)
   have XR:((Jm p (Gs p s).1 a).getD n' z0).1.toNat<(Ae p).length:=by rw [Ce h1];omega
   obtain ⟨y,hy⟩: ∃y,uV p (Gs p s).1 a n'=y:=⟨_,rfl⟩
   have hy2:(Ae p).getD ((Jm p (Gs p s).1 a).getD n' z0).1.toNat []=y:=hy
   have hym:y∈Ae p:=by rw [<-hy2];exact Ny XR
   have h6:Gi p ((Jm p (Gs p s).1 a).getD n' z0).1.toNat=(Ao p.2.2.1.length).map λl=>(((Ae p).idxOf (Ak y (Av p.2.2.1 l)):Nat):Int):=by
    unfold Gi qI
    rw [hy2]
   rw [h6,Ce (by rw [Ck];exact h2),Td,<-h4] at h5
   have hny:=(Lc Tf).next y hym _ JW
   rw [<-h4] at hny
   have hni:=Ef hny
   rw [hy]
   show Ak y (Av p.2.2.1 e.2.2.1)=(Ae p).getD ((Jm p (Gs p s).1 (a+1)).getD n z0).1.toNat []
   rw [Ce hn,he,h5,Ac,Ce hni,Ml hni]
theorem IY (hw:Cy p=true) {K:Nat} (hK:K<p.2.2.1.length) (hm:Cw p [(K:Int)]=true) {y:List Int} (hy:y∈Ae (Bl p [(K:Int)])):
  ((Lm p [(K:Int)] y).length:Int)=LC p [(K:Int)] y/\(∀l∈Lm p [(K:Int)] y,l=(K:Int)+1\/l= -((K:Int)+1))/\Dr p.2.2.1 y (Lm p [(K:Int)] y)=upto p.1.toNat:=by
 have j5:=Ra hw hm
 obtain ⟨a,b,c⟩:=QG j5 hy
 have hg:(Bl p [(K:Int)]).2.2.1= [p.2.2.1.getD K []]:=rfl
 obtain ⟨w,hwe⟩: ∃w,jf (Bl p [(K:Int)]) y=w:=⟨_,rfl⟩
 rw [hwe] at a b c
 have Agw: ∀l∈w,(l=1/\Yp [(K:Int)] l=(K:Int)+1)\/(l= -1/\Yp [(K:Int)] l= -((K:Int)+1)):= λl hl=>by
  have h1:=Iz (b l hl)
  obtain ⟨j,hj,h2⟩:=Og h1
  have hj:j<1:=hj
  obtain rfl:j=0:=by omega
  rcases h2 with h2|h2
  ·left
   have h2:l=1:=by omega
   subst h2
   exact ⟨rfl,rfl⟩
  ·right
   have h2:l= -1:=by omega
   subst h2
   exact ⟨rfl,rfl⟩
 have key: ∀(v:List Int) (x:List Int),(∀l∈v,l∈w)->Dr p.2.2.1 x (v.map (Yp [(K:Int)]))=Dr [p.2.2.1.getD K []] x v:= λv=>by
  induction v with
  |nil=>intro x _;rfl
  |cons l v ih=>
   intro x hx
   have h1:=ih (Ak x (Av [p.2.2.1.getD K []] l)) λl' Ll=>hx l' (As _ Ll)
   have h2:Av p.2.2.1 (Yp [(K:Int)] l)=Av [p.2.2.1.getD K []] l:=by
    rcases Agw l (hx l (Ji ..)) with ⟨rfl,e⟩|⟨rfl,e⟩
    ·rw [e,My hK,Ce hK]
     exact (My (g:= [p.2.2.1[K]]) (k:=0) Nat.zero_lt_one).symm
    ·rw [e,Mx hK,Ce hK]
     exact (Mx (g:= [p.2.2.1[K]]) (k:=0) Nat.zero_lt_one).symm
   show Dr p.2.2.1 (Ak x (Av p.2.2.1 (Yp [(K:Int)] l))) (v.map (Yp [(K:Int)]))=_
   rw [h2]
   exact h1
 unfold Lm
 rw [hwe]
 refine ⟨by rw [Ck];exact a,λl hl=>?_,(key w y λ_ h=>h).trans (by rw [<-hg];exact c)⟩
 obtain ⟨l',Ll,rfl⟩:=Be.1 hl
 rcases Agw l' Ll with ⟨_,e⟩|⟨_,e⟩
 ·exact Or.inl e
 ·exact Or.inr e
end
set_option maxHeartbeats 1000000 in
theorem Ab9 (code:List Int) (h:yW code):fnW (CB [fZ+4,ji]) (look [(10,yf),(11,pR),(12,yl),(13,ym),(17,Lw),(59,Sm),(21,Nb),(60,Sw),(48,Sw),(24,ai),(61,Vg),(27,mJ)]) OC Try.f9 (code,()) (λ(z:Bool)=>z=true):=by
 refine Eq.mp (Acx code _) ⟨_,Ab trivial,Br.dec (λ_=>rfl) λhb=>?_⟩
 have hb: ¬(code.length:Int)>4096:=hb
 have hd0:=As7 h hb
 refine ⟨_,Ab (show code.length<=4096 by omega),_,Ab hd0,?_⟩
 obtain ⟨hp,hd1⟩:=PE hd0 (px code 1115)
 obtain ⟨W,hW⟩: ∃W,aI code 0 (px code 1115)=W:=⟨_,rfl⟩
 rw [hW] at hp hd1
 simp only [hW,Dd,true_and]
 obtain ⟨i1,h1,n,str,g,u⟩:=W
 obtain rfl:u=():=rfl
 dsimp only at hp hd1⊢
 have hs:=hp.short
 refine ⟨_,Ab ⟨hd1,hs,hp.valid,hp.two⟩,?_⟩
 obtain ⟨hd3,Pc⟩:=Al5 hp hd1 h1
 obtain ⟨W,hW⟩: ∃W,o7 code i1 h1 (n,str,g,())=W:=⟨_,rfl⟩
 rw [hW] at hd3 Pc
 simp only [hW]
 obtain ⟨i3,h3,s⟩:=W
 dsimp only at hd3 Pc⊢
 clear hW
 have hw:=hp.whole
 have hv:=hp.valid
 have hV:=valid hv
 have hg2:g.length=2:=hp.two
 have hss:short s:=ab (jM hv Pc)
 obtain ⟨r1,r2⟩:=gC hd3 (show (1:Int)<=2 by decide) h3
 obtain ⟨K,hK⟩: ∃K:Nat,dR code i3 h3 2=(K:Int):=Bi r1
 rw [hK] at r1 r2
 have e6:Lw.fn (code,i3,h3,(2:Int),())=some ((code,dI code i3,hN h3,(K:Int),()),()):=by
  rw [<-hK]
  exact Ab ⟨hd3,by show (1:Int)<=2;decide⟩
 obtain ⟨P,hP⟩: ∃P:PP,P=(n,str,g,()):=⟨_,rfl⟩
 have hPg:P.2.2.1=g:=by rw [hP]
 have hPn:P.1=n:=by rw [hP]
 have mV:Cw P [(K:Int)]=true:=by
  rw [hP]
  refine Gk.2 ⟨hv,Gk.2 ⟨Nat.zero_lt_one,λj hj _=>?_⟩⟩
  have hj:j<1:=hj
  obtain rfl:j=0:=by omega
  exact ⟨r1,by show (K:Int)<=((g.length:Nat):Int)-1;omega,λh=>absurd h (by decide)⟩
 have LY:short [(K:Int)]:=by show 1<=4294967296;decide
 rw [<-hP] at hw hv Pc hs
 have FH:dq P:=by rw [hP];exact hp
 have hph:Kx P [(K:Int)]=true:=Lq.2 ⟨hw,mV⟩
 have rD:=Aku hv FH.hi
 have hg8:P.2.2.1.length<=8:=(valid hv).gG.2
 have j5:=Ra hw mV
 obtain ⟨a1,a2,a3,a4⟩:=RZ hw mV Pc
 obtain ⟨o1,o2,_⟩:=zU hw mV Pc
 have Atd:=s6 hw Pc
 obtain ⟨t1,t2,t3⟩:=IY (K:=K) hw (by rw [hPg];omega) mV a4
 have Aho: ∀y∈Ae (Bl P [(K:Int)]),0<=LC P [(K:Int)] y/\LC P [(K:Int)] y<120:= λy hy=>by
  have h1:=(Uc j5).nn y hy
  have h2:=s6 j5 hy
  have h3:=SI hw mV
  exact ⟨h1,by show Hm (Ae (Bl P [(K:Int)])) (Bc (Bl P [(K:Int)])) y<120;omega⟩
 have hsl:=Aho _ a4
 obtain ⟨T,hT⟩: ∃T:Nat,Ii P (Hy P [(K:Int)]) s+1+1=(T:Int):=Bi (by omega)
 obtain ⟨a,m,B1,hB,ha,hm,Oe,hB1,Ams⟩:=yD hph Pc hT
 obtain ⟨u,u1,u2,u3,u4⟩:=SQ hw Pc (K:=a+1) a m [] (Nat.lt_succ_self a) hm
 obtain ⟨v1,v2,v3⟩:=IY (K:=K) hw (by rw [hPg];omega) mV Oe
 have hvl:=Aho _ Oe
 have Aov:a7 (Jp P (Gs P s).1 (a+1)) (m:Int)=u.reverse:=by
  unfold a7
  rw [c8,show a+1-1=a from rfl,u1,Ol]
 have RH:Qk P [(K:Int)] s 1=(u.reverse,Lm P [(K:Int)] (uV P (Gs P s).1 a m),true,()):=by
  unfold Qk
  rw [hT,Ac,hB]
  dsimp only
  have ZK:nz (Jp P (Gs P s).1 (((a:Nat):Int).toNat+1)) ((a:Nat):Int).toNat (m:Int)=(Jm P (Gs P s).1 a).getD m z0:=by
   unfold nz
   rw [Ac,Ac,Yn P _ (Nat.lt_succ_self a)]
  rw [ZK,Ac,Aov]
  rfl
 have zr:Us P [(K:Int)] s=(Kw P (Hy P [(K:Int)]) s,Lm P [(K:Int)] (Dr P.2.2.1 s (Kw P (Hy P [(K:Int)]) s)),true,()):=by
  unfold Us MN
  rw [Ab (Dp.2 ⟨hph,Bp Pc⟩),Ai (by omega)]
 obtain ⟨A,hA⟩: ∃A,Kw P (Hy P [(K:Int)]) s=A:=⟨_,rfl⟩
 rw [hA] at a1 a2 a3 a4 t1 t2 t3 hsl Ams zr
 obtain ⟨y,hy⟩: ∃y,Dr P.2.2.1 s A=y:=⟨_,rfl⟩
 rw [hy] at a3 a4 t1 t2 t3 hsl Ams zr
 obtain ⟨B,hBe⟩: ∃B,Lm P [(K:Int)] y=B:=⟨_,rfl⟩
 rw [hBe] at t1 t2 t3 zr
 obtain ⟨x,hx⟩: ∃x,uV P (Gs P s).1 a m=x:=⟨_,rfl⟩
 rw [hx] at Oe hB1 u4 v1 v2 v3 hvl RH
 obtain ⟨X,hX⟩: ∃X,u.reverse=X:=⟨_,rfl⟩
 have hXl:X.length=a:=by rw [<-hX,List.length_reverse,u2]
 have hXm: ∀l∈X,l∈Ao P.2.2.1.length:= λl hl=>u3 l (by rw [<-hX] at hl;exact List.mem_reverse.1 hl)
 rw [hX] at u4 RH
 obtain ⟨Y,hY⟩: ∃Y,Lm P [(K:Int)] x=Y:=⟨_,rfl⟩
 rw [hY] at v1 v2 v3 RH
 have hKl: ∀l:Int,l=(K:Int)+1\/l= -((K:Int)+1)->Fy (List.length P.2.2.1) l:= λl hl=>by
  rw [hPg]
  unfold Fy
  omega
 have hxs:x∈Ae P:=vd hw mV Oe
 have vA:Jd (List.length P.2.2.1:Nat) A=true:=kJ hg8 (by omega) λl hl=>Iz (a2 l hl)
 have vB:Jd (List.length P.2.2.1:Nat) B=true:=kJ hg8 (by omega) λl hl=>hKl l (t2 l hl)
 have vX:Jd (List.length P.2.2.1:Nat) X=true:=kJ hg8 (by omega) λl hl=>Iz (hXm l hl)
 have vY:Jd (List.length P.2.2.1:Nat) Y=true:=kJ hg8 (by omega) λl hl=>hKl l (v2 l hl)
 have JT:=Zw hv
 have Atp:short (upto P.1.toNat):=ab (jM hv JT.2)
 have e7:Sm.fn (n,str,g,[(K:Int)],s,())=some ((A,B,true,()),()):=(Ab ⟨by rw [<-hP];exact hs,LY,hss⟩).trans (Dm some (by
  show (((Us (n,str,g,()) [(K:Int)] s).1,(Us (n,str,g,()) [(K:Int)] s).2.1,(Us (n,str,g,()) [(K:Int)] s).2.2.1,()),())=_
  rw [<-hP,zr]))
 have Aed: ∀(q w z:List Int),q∈Ae P->Jd (List.length P.2.2.1:Nat) w=true->Dr P.2.2.1 q w=z->Nb.fn ((n,str,g,()),q,w,())=some (z,true,()):= λq w z hq RI hz=>by
  rw [<-hP]
  exact (Ab ⟨hs,hv,jM hv hq,RI⟩).trans (Dm some (by
   show (Dr P.2.2.1 q w,true,())=_
   rw [hz]))
 have e8:=Aed s A y Pc vA hy
 have e9:=Aed y B (upto P.1.toNat) a3 vB t3
 have e10:Sw.fn ((n,str,g,()),[(K:Int)],y,())=some true:=by
  rw [<-hP]
  exact (Ab ⟨hs,LY,ab (jM hv a3)⟩).trans (Dm some (by
   show fE P [(K:Int)] y=true
   unfold fE
   rw [hph,Bp a3,Bp a4]
   rfl))
 have Atm:He P.1 (upto P.1.toNat)=true:=NP (valid hv) (jM hv JT.2)
 have e12:ai.fn ((n,str,g,()),upto P.1.toNat,())=some true:=by
  rw [<-hP]
  exact (Ab ⟨hs,Atp⟩).trans (Dm some (by
   show ((Cd P&&He P.1 (upto P.1.toNat))&&decide (upto P.1.toNat=upto P.1.toNat))=true
   rw [hv,Atm,Bp rfl]
   rfl))
 have e15:Vg.fn (n,str,g,[(K:Int)],s,(1:Int),())=some ((X,Y,true,()),()):=(Ab ⟨by rw [<-hP];exact hs,LY,hss,by rw [<-hP];exact hph,by rw [<-hP];exact Pc,by rw [<-hP];exact rD,rfl⟩).trans (Dm some (by
  show (((Qk (n,str,g,()) [(K:Int)] s 1).1,(Qk (n,str,g,()) [(K:Int)] s 1).2.1,(Qk (n,str,g,()) [(K:Int)] s 1).2.2.1,()),())=_
  rw [<-hP,RH]))
 have e16:=Aed s X x Pc vX u4
 have e17:=Aed x Y (upto P.1.toNat) hxs vY v3
 have e19:mJ.fn ((n,str,g,()),s,())=some (Hm (Ae P) (Bc P) s):=by
  rw [<-hP]
  exact (Ab ⟨hs,hss⟩).trans (Dm some (FH.As6 Pc))
 have Atb:=KY hw X s hXm Pc
 rw [u4] at Atb
 have Anc:=KY hw Y x (λl hl=>pq (hKl l (v2 l hl))) hxs
 rw [v3] at Anc
 have Atc:Hm (Ae P) (Bc P) (upto P.1.toNat)=0:=((Uc hw).zero _ JT.2).2 JT.1.symm
 rw [Atc] at Anc
 refine ⟨_,e6,?_⟩
 simp only [Du,List.take_succ_cons,List.take_zero,Aw,Dv,Bk,true_and]
 refine ⟨_,e7,_,e8,_,e9,Br.of (λhh=>by cases hh) λ_=>Br.of (λhh=>by cases hh) λ_=>Br.of (λhh=>by cases hh) λ_=>⟨_,e10,Br.of (λhh=>by cases hh) λ_=>⟨_,e10,Br.of (λhh=>by cases hh) λ_=>⟨_,e12,Br.of (λhh=>by cases hh) λ_=>?_⟩⟩⟩⟩
 refine Cg B.length (λv=>v.1) (λj v=>v.2=(n,str,g,[(K:Int)],A,B,())) rfl rfl ?_
 rintro j ⟨j',V⟩ KK hj CX hV2 QT
 dsimp only at CX hV2
 subst hV2 CX
 dsimp only
 refine Br.dec (λhl=>?_) λhl=>?_
 ·have hl:j<B.length:=by omega
  have hBj:=t2 _ (Am hl)
  have Ay:B[((j:Nat):Int).toNat]?=some B[j]:=by rw [Ac];exact Ad hl
  have ew1:IntKind.i64.wrap ((K:Int)+1)=(K:Int)+1:=Cj (by omega) (by omega)
  have ew2:IntKind.i64.wrap (IntKind.i64.wrap (0-(K:Int))-1)= -((K:Int)+1):=by
   rw [Cj (n:=0-(K:Int)) (by omega) (by omega),Cj (by omega) (by omega)]
   omega
  have ewj:IntKind.i64.wrap ((j:Int)+1)=((j+1:Nat):Int):=Cb (by omega)
  refine ⟨⟨by omega,by omega⟩,B[j],Ay,⟨by decide,by show (0:Int)<((1:Nat):Int);decide⟩,(K:Int),rfl,?_⟩
  rw [ew1]
  refine Br.of (λhh=>⟨⟨by omega,by omega⟩,B[j],Ay,⟨by decide,by show (0:Int)<((1:Nat):Int);decide⟩,(K:Int),rfl,?_⟩) λ_=>?_
  ·rw [ew2,ewj]
   refine Br.of (λhh2=>?_) λ_=>QT hl _ rfl rfl
   rcases hBj with e|e
   ·rw [e] at hh;simp at hh
   ·rw [e] at hh2;simp at hh2
  ·rw [ewj]
   exact QT hl _ rfl rfl
 ·have hXY:IntKind.i64.wrap ((X.length:Int)+(Y.length:Int))=(X.length:Int)+(Y.length:Int):=Cj (by omega) (by omega)
  have hAB:IntKind.i64.wrap ((A.length:Int)+(B.length:Int))=(A.length:Int)+(B.length:Int):=Cj (by omega) (by omega)
  refine ⟨_,e15,_,e16,_,e17,Br.of (λ_=>Br.of (λ_=>Br.of (λ_=>⟨_,e12,Br.of (λ_=>?_) λhh=>by cases hh⟩) λhh=>by cases hh) λhh=>by cases hh) λhh=>by cases hh⟩
  rw [hXY,hAB]
  refine Br.dec (λ_=>⟨_,e19,Bp ?_⟩) λhh=>absurd ?_ hh
  ·show Hm (Ae P) (Bc P) s<=(X.length:Int)+(Y.length:Int)
   omega
  ·show (X.length:Int)+(Y.length:Int)<=(A.length:Int)+(B.length:Int)
   omega
theorem BE:Sound Try.prog 9 OC:=
 Sound.Hg (CC [fZ+4,ji]) (Ba VR (Gy OP (Gy VX (Gy VY (Gy dd (Gy rS (Ba ow (Ba rX (Ba rR (Ba uM (Gy uK (Ba OL Cc)))))))))))) mixed Try.func9 (by kernel_rfl) (by kernel_rfl) λx h=>Ab9 x.1 h
end Go.Proofs.Ytkkdpknjohcekaa
