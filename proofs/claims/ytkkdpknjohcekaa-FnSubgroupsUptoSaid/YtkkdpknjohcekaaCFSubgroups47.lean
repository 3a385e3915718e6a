/-
  Part 48 of the proof that the statement FnSubgroups holds.
-/
import Derived.Test.YtkkdpknjohcekaaCFSubgroups46
namespace Go.Proofs.Ytkkdpknjohcekaa
open Go.RowKit
section
variable {Q:List Int->Prop} {code:List Int->Nat} {B:Nat}
theorem YT (inj: ∀x y,Q x->Q y->code x=code y->x=y) (lt: ∀x,Q x->code x<B) {L:List (List Int)} (hQ: ∀y∈L,Q y) (hn:L.Nodup):L.length<=B:=by
 have h1:(L.map code).Nodup:=by
  unfold List.Nodup
  rw [List.pairwise_map]
  exact im (λha hb Ig he=>Ig (inj _ _ (hQ _ ha) (hQ _ hb) he)) hn
 have h2:=Rq h1 (l2:=List.range B) λx hx=>by
  obtain ⟨y,hy,rfl⟩:=Ba.1 hx
  exact Es.2 (lt y (hQ y hy))
 simpa using h2
theorem mb (hB:B<3000) (inj: ∀x y,Q x->Q y->code x=code y->x=y) (lt: ∀x,Q x->code x<B) {g:List (List Int)} {x:List Int} {d:Int} :
  ∀(ls:List Int) (L:List (List Int)) (D:List Int),(∀l∈ls,Q (Af x (Ax g l)))->(∀y∈L,Q y)->L.Nodup->
   (Ir g x d ls L D).2.2=true/\(∀y∈(Ir g x d ls L D).1,Q y)/\(Ir g x d ls L D).1.Nodup
 | [],L,D,_,hQ,hn=>⟨rfl,hQ,hn⟩
 |l::ls,L,D,hl,hQ,hn=>by
  have Jg: ∀l∈ls,Q (Af x (Ax g l)):= λl h=>hl l (Ar _ h)
  rw [Ir]
  split
  ·exact mb hB inj lt ls L D Jg hQ hn
  ·rename_i hni
   have:=YT inj lt hQ hn
   rw [Ak (by omega)]
   refine mb hB inj lt ls _ _ Jg (λy hy=>?_) ?_
   ·rcases Az.1 hy with h|h
    ·exact hQ y h
    ·rw [Ae.1 h];exact hl l (by simp)
   ·rw [Eb]
    exact ⟨hn,by simp,λa ha b hb e=>hni (by rw [Ae.1 hb] at e;rw [<-e];exact ha)⟩
theorem sP (hB:B<3000) (inj: ∀x y,Q x->Q y->code x=code y->x=y) (lt: ∀x,Q x->code x<B) {g:List (List Int)} {ls:List Int} (step: ∀x,Q x-> ∀l∈ls,Q (Af x (Ax g l))):
  ∀(f k:Nat) (L:List (List Int)) (D:List Int),(∀y∈L,Q y)->L.Nodup->(Md g ls f k L D).2.2=true
 |0,_,_,_,_,_=>rfl
 |f+1,k,L,D,hQ,hn=>by
  rw [Md]
  split
  ·rename_i hk
   have hx:Q (L.getD k []):=by
    rw [Al,Ad hk]
    exact hQ _ (An hk)
   obtain ⟨h1,h2,h3⟩:=mb hB inj lt (d:=D.getD k 0) ls L D (step _ hx) hQ hn
   generalize Ir g (L.getD k []) (D.getD k 0) ls L D=r at h1 h2 h3
   obtain ⟨L',D',b⟩:=r
   have h1:b=true:=h1
   subst h1
   exact sP hB inj lt step f (k+1) L' D' h2 h3
  ·rfl
theorem YN (hB:B<3000) (inj: ∀x y,Q x->Q y->code x=code y->x=y) (lt: ∀x,Q x->code x<B) {g:List (List Int)} {s:List Int} (hs:Q s)
  (step: ∀x,Q x-> ∀l∈Au g.length,Q (Af x (Ax g l))):(Kt g s).2.2=true:=
 sP hB inj lt step _ _ _ _ (λy hy=>by rw [Ae.1 hy];exact hs) (by simp)
end
def xf (x:List Int):Nat:=(Cr x 0+5*Cr x 1+25*Cr x 2+125*Cr x 3).toNat
theorem ZE {x:List Int} {k:Nat} (h:x.length<=k):Cr x (k:Int)=0:=by
 unfold Cr
 rw [Ac,Al,Ee h]
 rfl
theorem Qb {n:Nat} {x:List Int} (hn:n<=5) (h:Pm n x) (k:Nat):0<=Cr x (k:Int)/\Cr x (k:Int)<5:=by
 by_cases hk:k<n
 ·have:=h.Ss hk
  omega
 ·rw [ZE (by rw [h.1];omega)]
  decide
theorem NN {n:Nat} {x:List Int} (hn:n<=5) (h:Pm n x):xf x<625:=by
 have h0:=Qb hn h 0
 have h1:=Qb hn h 1
 have h2:=Qb hn h 2
 have h3:=Qb hn h 3
 simp only [Int.natCast_zero] at h0
 unfold xf
 have e1:((1:Nat):Int)=1:=rfl
 have e2:((2:Nat):Int)=2:=rfl
 have e3:((3:Nat):Int)=3:=rfl
 rw [e1] at h1;rw [e2] at h2;rw [e3] at h3
 omega
theorem HW {n:Nat} (hn:n<=5) (x y:List Int) (hx:Pm n x) (hy:Pm n y) (e:xf x=xf y):x=y:=by
 have e1:((1:Nat):Int)=1:=rfl
 have e2:((2:Nat):Int)=2:=rfl
 have e3:((3:Nat):Int)=3:=rfl
 have a0:=Qb hn hx 0
 have a1:=Qb hn hx 1
 have a2:=Qb hn hx 2
 have a3:=Qb hn hx 3
 have b0:=Qb hn hy 0
 have b1:=Qb hn hy 1
 have b2:=Qb hn hy 2
 have b3:=Qb hn hy 3
 simp only [Int.natCast_zero] at a0 b0
 rw [e1] at a1 b1;rw [e2] at a2 b2;rw [e3] at a3 b3
 unfold xf at e
 have low: ∀i:Nat,i<4->Cr x (i:Int)=Cr y (i:Int):=by
  intro i hi
  match i,hi with
  |0,_=>simp only [Int.natCast_zero];omega
  |1,_=>rw [e1];omega
  |2,_=>rw [e2];omega
  |3,_=>rw [e3];omega
 have Apk: ∀i,i<4->ap x i=ap y i:= λi hi=>by unfold ap;rw [low i hi]
 refine hx.ext hy λi hi=>?_
 by_cases h4:i<4
 ·exact Apk i h4
 ·obtain ⟨j,hj,hjx⟩:=hy.UR (hx.lt hi)
  by_cases hj4:j<4
  ·rw [<-Apk j hj4] at hjx
   have:=hx.inj hj hi hjx
   omega
  ·have:j=i:=by omega
   rw [this] at hjx
   exact hjx.symm
theorem JR {p:PP} (hv:Cs p=true) (h5:p.1<=5):Ds p=true:=by
 have hV:=valid hv
 have hn:=hV.n
 refine Ct.2 ⟨hv,YN (Q:=Pm p.1.toNat) (code:=xf) (B:=625) (by decide) (HW (by omega)) (λx hx=>NN (by omega) hx) (Pm.id (by omega) (by omega)) λx hx l hl=>?_⟩
 exact hx.comp (eD hV (Nj hl))
theorem Ag8 {n a c:Nat} {mv:List Int} (h:Pm n mv) (ha:a<n) (hc:c<n):Pm n ((mv.set a (Cr mv (c:Int))).set c (Cr mv (a:Int))):=by
 have hA:=(h.Ss ha).1
 have hC:=(h.Ss hc).1
 refine Pm.of (by simp only [Bv];exact h.1) h.n1 h.n2 (λk=>if k=c then ap mv a else if k=a then ap mv c else ap mv k) (λi hi=>?_) λi j hi hj e=>?_
 ·rw [Em,Em,Bv,h.1]
  by_cases h1:c=i
  ·rw [Ab h1,Ab hc,Ab (show i=c from h1.symm)]
   exact ⟨by rw [hA],h.lt ha⟩
  ·rw [Ak h1,Ak (show ¬i=c from λe=>h1 e.symm)]
   by_cases h2:a=i
   ·rw [Ab h2,Ab ha,Ab (show i=a from h2.symm)]
    exact ⟨by rw [hC],h.lt hc⟩
   ·rw [Ak h2,Ak (show ¬i=a from λe=>h2 e.symm)]
    have dP:i<mv.length:=by rw [h.1];exact hi
    have:=(h.Ss hi).1
    rw [Jj dP] at this
    rw [Ad dP,this]
    exact ⟨rfl,h.lt hi⟩
 ·by_cases i1:i=c
  ·rw [Ab i1] at e
   by_cases j1:j=c
   ·rw [i1,j1]
   ·rw [Ak j1] at e
    by_cases j2:j=a
    ·rw [Ab j2] at e
     have:=h.inj ha hc e
     rw [i1,j2,this]
    ·rw [Ak j2] at e
     exact absurd (h.inj ha hj e).symm j2
  ·rw [Ak i1] at e
   by_cases i2:i=a
   ·rw [Ab i2] at e
    by_cases j1:j=c
    ·rw [Ab j1] at e
     have:=h.inj hc ha e
     rw [i2,j1,this]
    ·rw [Ak j1] at e
     by_cases j2:j=a
     ·rw [i2,j2]
     ·rw [Ak j2] at e
      exact absurd (h.inj hc hj e).symm j1
   ·rw [Ak i2] at e
    by_cases j1:j=c
    ·rw [Ab j1] at e
     exact absurd (h.inj hi ha e) i2
    ·rw [Ak j1] at e
     by_cases j2:j=a
     ·rw [Ab j2] at e
      exact absurd (h.inj hi hc e) i1
     ·rw [Ak j2] at e
      exact h.inj hi hj e
theorem yB {b:List Int} {n:Int} (hn:1<=n): ∀(k:Nat) (i h:Int) (mv:List Int),eU b i->Pm n.toNat mv->Pm n.toNat (gi b n k i h mv).2.2
 |0,_,_,_,_,hm=>hm
 |k+1,i,h,mv,hd,hm=>by
  have r1:=gD hd hn h
  have r2:=gD hd.next hn (hN h)
  rw [gi]
  refine yB hn k _ _ _ hd.next.next ?_
  have:=Ag8 hm (a:=(dR b i h n).toNat) (c:=(dR b (dI b i) (hN h) n).toNat) (by omega) (by omega)
  rw [gy r1.1,gy r2.1] at this
  exact this
theorem HB {b:List Int} {n:Int} (hn:1<=n) (hn2:n<=20): ∀(k:Nat) (i h:Int) (ms:List (List Int)),eU b i->(∀m∈ms,Pm n.toNat m)-> ∀m∈(aI b n k i h ms).2.2,Pm n.toNat m
 |0,_,_,_,_,hm=>hm
 |k+1,i,h,ms,hd,hm=>by
  rw [aI]
  refine HB hn hn2 k _ _ _ (uc hd h) λm hmm=>?_
  rcases Az.1 hmm with h1|h1
  ·exact hm m h1
  ·rw [Ae.1 h1]
   exact yB hn _ _ _ _ hd.next (Pm.id (by omega) (by omega))
theorem Aav:bh Aax=true:=by
 refine Ej.2 ⟨by decide,λj hj=>?_⟩
 have hj:j<2:=hj
 match j,hj with
 |0,_=>exact ⟨65,rfl,by decide,by decide,λk hk=>by omega⟩
 |1,_=>exact ⟨66,rfl,by decide,by decide,λk hk=>(by have e:k=0:=(by omega);rw [e];decide)⟩
structure lZ (p:PP):Prop where
 valid:Cs p=true
 two:p.2.2.1.length=2
 lo:3<=p.1
 hi:p.1<=5
 short:Gt p
theorem PF {b:List Int} {i:Int} (hd:eU b i) (h:Int):lZ (aH b i h).2.2/\eU b (aH b i h).1:=by
 have hr:=gD hd (show (1:Int)<=3 by decide) h
 obtain ⟨n,hn⟩: ∃n,3+dR b i h 3=n:=⟨_,rfl⟩
 have h2:=SC b n 2 (dI b i) (hN h) []
 have h3:=HB (b:=b) (n:=n) (by omega) (by omega) 2 (dI b i) (hN h) [] hd.next (λm hm=>by cases hm)
 have h4:=SB n 2 (dI b i) (hN h) [] hd.next
 unfold aH
 rw [hn]
 generalize aI b n 2 (dI b i) (hN h) []=R at h2 h3 h4
 obtain ⟨i',h',ms⟩:=R
 dsimp only at h2 h3 h4⊢
 simp only [Di,Dv] at h2
 refine ⟨⟨Ej.2 ⟨Ej.2 ⟨⟨by show 1<=n;omega,by show n<=20;omega⟩,by show ms.length<=8;omega,λm hm=>?_⟩,Aav,by show 2=ms.length;omega⟩,h2,by show 3<=n;omega,by show n<=5;omega,⟨by show 2<=4294967296;decide,by show ms.length<=4294967296;omega,λm hm=>?_⟩⟩,h4⟩
 ·have:=h3 m hm
  have h5:=this.1
  exact Ej.2 ⟨by omega,xD this.2⟩
 ·exact jr (h3 m hm)
noncomputable def tX (p:PP) (s w:List Int):List Int×Bool×Unit:=(Jm p.2.2.1 s w,true,())
noncomputable abbrev a9:Spec:=Ht (.pair Lq (.pair tL (.pair tL .unit))) (.pair tL (.pair .bool .unit)) true true (λx=>Gt x.1/\Cs x.1=true/\Pm x.1.1.toNat x.2.1/\Mj (List.length x.1.2.2.1:Nat) x.2.2.1=true) (λx=>tX x.1 x.2.1 x.2.2.1)
noncomputable def om (b:List Int) (i h:Int) (p:PP):Int×Int×List Int:=((Vf b i h 2 8).1,(Vf b i h 2 8).2.1,(tX p (upto p.1.toNat) (Vf b i h 2 8).2.2).1)
noncomputable abbrev Aph:MSpec:= {ptr:=some (75,3),Hw:= [some 3],ins:= [(false, .Fe tB),(false, .Fe tI),(false, .Fe XT),(false, .Fe tI),(false, .Fe .str),(false, .Fe se)],Gl:=false,Gz:= [none],outs:= [.Fe tB, .Fe tI, .Fe XT, .Fe tL],fn:= λ_=>none}
noncomputable abbrev yp:MSpec:=dS Aph (λx=>eU x.1 x.2.1/\Gt (x.2.2.2.1,x.2.2.2.2.1,x.2.2.2.2.2.1,())/\Cs (x.2.2.2.1,x.2.2.2.2.1,x.2.2.2.2.2.1,())=true/\List.length x.2.2.2.2.2.1=2) (λx=>((x.1,(om x.1 x.2.1 x.2.2.1 (x.2.2.2.1,x.2.2.2.2.1,x.2.2.2.2.2.1,())).1,(om x.1 x.2.1 x.2.2.1 (x.2.2.2.1,x.2.2.2.2.1,x.2.2.2.2.2.1,())).2.1,(om x.1 x.2.1 x.2.2.1 (x.2.2.2.1,x.2.2.2.2.1,x.2.2.2.2.2.1,())).2.2,()),()))
theorem XG (g:List (List Int)) (l:Int) (P:List Int->Prop):(Br (decide (l<(0:Int))) (∃(y3:List Int),idx g (IntKind.i64.wrap (IntKind.i64.wrap ((0:Int)-l)-(1:Int)))=some y3/\ ∃(y4:List Int),Fp.fn (y3,())=some y4/\P y4) (∃(y3:List Int),idx g (IntKind.i64.wrap (l-(1:Int)))=some y3/\P y3))=fnW Hz (look [(190,Fp)]) Lg Try.f149 (g,l,()) P:=by kernel_rfl
theorem PS (n:Int) (g:List (List Int)) (w:List Int) (P:List Int->Prop):(∃(y4:List Int),Pr.fn (n,())=some y4/\Ev (λ(v5:List Int×Int×PUnit) (k6:List Int×Int×PUnit->Prop)=>Br (decide (v5.2.1<(↑w.length:Int))) (∃(y7:Int),idx w v5.2.1=some y7/\ ∃(y8:List Int),Lg.fn (g,y7,())=some y8/\ ∃(y9:List Int),Kk.fn (v5.1,y8,())=some y9/\k6 (y9,IntKind.i64.wrap (v5.2.1+(1:Int)),())) (P v5.1)) (y4,(0:Int),PUnit.unit))=fnW Hz (look [(66,Pr),(75,Kk),(149,Lg)]) Yg Try.f76 (n,g,w,()) P:=by kernel_rfl
theorem Ad0 (p:Int×ByteArray×List (List Int)×Unit) (s w:List Int) (P:(List Int×Bool×Unit)->Prop):(∃(y4:Bool),Sh.fn ((p.1,p.2.1,p.2.2.1,()),s,())=some y4/\Br (!y4) (P (List.take 0 (List.drop 0 []),false,())) (∃(y5:Bool),eO.fn ((↑p.2.2.1.length:Int),w,())=some y5/\Br (!y5) (P (List.take 0 (List.drop 0 []),false,())) (∃(y6:List Int),Yg.fn (p.1,p.2.2.1,w,())=some y6/\ ∃(y7:List Int),Kk.fn (s,y6,())=some y7/\P (y7,true,()))))=fnW Hz (look [(73,Sh),(74,eO),(75,Kk),(76,Yg)]) a9 Try.f21 (p,s,w,()) P:=by kernel_rfl
abbrev OV:Type:=(List Int×Int×Int×List Int×PUnit)×PUnit
abbrev zR (b:List Int) (i:Int) (h:Int) (n:Int) (str:ByteArray) (g:List (List Int)) (Qp:List Int) (y8:OV) (y9:List Int×Bool×PUnit) (y7:List Int):Prop:= ∃(Nu:OV),rn.fn (b,i,h,(2:Int),(8:Int),())=some Nu/\ ∃(Vm:List Int×Bool×PUnit),a9.fn ((n,str,g,()),Qp,List.take Nu.1.2.2.2.1.length (List.drop 0 Nu.1.2.2.2.1),())=some Vm/\(([(0,0),(0,Nu.1.2.2.2.1.length)]= [(0,0),(0,y8.1.2.2.2.1.length)]/\(n,str,g,Vm.1,Vm.2.1,Vm,n,str,g,n,Qp,Vm,Vm.1,Vm.2.1,n,str,g,([]:List Int),Nu.1.2.2.2.1,Nu.1.1,Nu.1.2.1,Nu.1.2.2.1,())=(n,str,g,y9.1,y9.2.1,y9,n,str,g,n,y7,y9,y9.1,y9.2.1,n,str,g,([]:List Int),y8.1.2.2.2.1,y8.1.1,y8.1.2.1,y8.1.2.2.1,PUnit.unit))/\ [(0,0),(0,Nu.1.2.2.2.1.length)]= [(0,0),(0,y8.1.2.2.2.1.length)]/\(n,str,g,Vm.1,Vm.2.1,Vm,n,str,g,n,Qp,Vm,Vm.1,Vm.2.1,n,str,g,([]:List Int),Nu.1.2.2.2.1,Nu.1.1,Nu.1.2.1,Nu.1.2.2.1,())=(n,str,g,y9.1,y9.2.1,y9,n,str,g,n,y7,y9,y9.1,y9.2.1,n,str,g,([]:List Int),y8.1.2.2.2.1,y8.1.1,y8.1.2.1,y8.1.2.2.1,PUnit.unit))/\ [(0,0),(0,Nu.1.2.2.2.1.length)]= [(0,0),(0,y8.1.2.2.2.1.length)]/\(n,str,g,Vm.1,Vm.2.1,Vm,n,str,g,n,Qp,Vm,Vm.1,Vm.2.1,n,str,g,([]:List Int),Nu.1.2.2.2.1,Nu.1.1,Nu.1.2.1,Nu.1.2.2.1,())=(n,str,g,y9.1,y9.2.1,y9,n,str,g,n,y7,y9,y9.1,y9.2.1,n,str,g,([]:List Int),y8.1.2.2.2.1,y8.1.1,y8.1.2.1,y8.1.2.2.1,PUnit.unit)
theorem Aqk (b:List Int) (i h n:Int) (str:ByteArray) (g:List (List Int)) (P:((List Int×Int×Int×List Int×Unit)×Unit)->Prop):(∃(y7:List Int),Tv.fn (n,())=some y7/\ ∃(y8:OV),rn.fn (b,i,h,(2:Int),(8:Int),())=some y8/\ ∃(y9:List Int×Bool×PUnit),a9.fn ((n,str,g,()),y7,List.take y8.1.2.2.2.1.length (List.drop 0 y8.1.2.2.2.1),())=some y9/\P ((y8.1.1,y8.1.2.1,y8.1.2.2.1,y9.1,()),())/\(∃(Qp:List Int),Tv.fn (n,())=some Qp/\(zR b i h n str g Qp y8 y9 y7))/\(∃(Qp:List Int),Tv.fn (n,())=some Qp/\(zR b i h n str g Qp y8 y9 y7))/\ ∃(Qp:List Int),Tv.fn (n,())=some Qp/\((zR b i h n str g Qp y8 y9 y7))/\(zR b i h n str g Qp y8 y9 y7))=fnMW (OX [dZ+4]) (look [(62,rn),(16,Tv),(21,a9)]) yp Try.f13 (b,i,h,n,str,g,()) P:=by kernel_rfl
theorem VK (g:List (List Int)) (l:Int) (h:Ic (List.length g) l/\List.length g<=8/\ ∀p∈g,Kb p=true):fnW Hz (look [(190,Fp)]) Lg Try.f149 (g,l,()) (λ(z:List Int)=>z=Ax g l):=by
 obtain ⟨hl,h8,hp⟩:=h
 refine Eq.mp (XG g l _) ?_
 obtain ⟨k,hk,rfl|rfl⟩:=Se hl
 ·refine Br.dec (λhn=>by omega) λ_=>?_
  rw [Dq (by omega) (by omega),show (k:Int)+1-1=(k:Int) by omega]
  exact ⟨_,Dk hk,(Rn hk).symm⟩
 ·refine Br.dec (λ_=>?_) λhn=>by omega
  rw [Dq (n:=0- -((k:Int)+1)) (by omega) (by omega),Dq (by omega) (by omega),show (0:Int)- -((k:Int)+1)-1=(k:Int) by omega]
  have:=dz (hp _ (An hk))
  exact ⟨_,Dk hk,_,Ab ⟨this.len,this.row⟩,(Rl hk).symm⟩
theorem wO:Sound Try.prog 149 Lg:=
 Sound.Ht Ge (Be Zn Cb) mixed Try.func149 (by kernel_rfl) (by kernel_rfl) λx h=>VK x.1 x.2.1 h
theorem NL (n:Int) (g:List (List Int)) (w:List Int) (h: ∃p:PP,Cs p=true/\p.1=n/\p.2.2.1=g/\Mj (List.length g:Nat) w=true):fnW Hz (look [(66,Pr),(75,Kk),(149,Lg)]) Yg Try.f76 (n,g,w,()) (λ(z:List Int)=>z=Jm g (upto n.toNat) w):=by
 obtain ⟨p,hv,rfl,rfl,hw⟩:=h
 have hV:=valid hv
 have hn:=hV.n
 have hf:=hV.oW
 obtain ⟨w1,w2⟩:=dJ hw
 refine Eq.mp (PS p.1 p.2.2.1 w _) ⟨upto p.1.toNat,Ab ⟨by show 0<=p.1;omega,by show p.1<=20;omega⟩,?_⟩
 refine Cj w.length (λv=>v.2.1) (λj v=>v.1=Jm p.2.2.1 (upto p.1.toNat) (w.take j)) rfl rfl ?_
 rintro j ⟨q,i,⟨⟩⟩ K hj hi hR hK
 dsimp only at hi hR⊢
 subst hi hR
 have hq:=sL hV (w.take j) _ (λl hl=>w2 l (Er hl)) (Pm.id (n:=p.1.toNat) (by omega) (by omega))
 refine Br.dec (λhl=>?_) λhl=>?_
 ·have hl:j<w.length:=by omega
  have Aeu:=w2 _ (An hl)
  have rR:=eD hV Aeu
  refine ⟨_,Dk hl,_,Ab ⟨Aeu,hf.2,hV.perm⟩,_,Ab ⟨Abj hq,HX hq rR⟩,?_⟩
  rw [Cd (by omega)]
  exact hK hl _ rfl (KJ hl).symm
 ·have:j=w.length:=by omega
  subst this
  rw [Bg]
theorem vd:Sound Try.prog 76 Yg:=
 Sound.Ht Ge (Be c8 (Be Qw (Be wO Cb))) mixed Try.func76 (by kernel_rfl) (by kernel_rfl) λx h=>NL x.1 x.2.1 x.2.2.1 h
theorem Ab5 (p:PP) (s w:List Int) (h:Gt p/\Cs p=true/\Pm p.1.toNat s/\Mj (List.length p.2.2.1:Nat) w=true):fnW Hz (look [(73,Sh),(74,eO),(75,Kk),(76,Yg)]) a9 Try.f21 (p,s,w,()) (λ(z:List Int×Bool×Unit)=>z=tX p s w):=by
 obtain ⟨hp,hv,hs,hw⟩:=h
 have hV:=valid hv
 have hn:=hV.n
 have hf:=hV.oW
 obtain ⟨w1,w2⟩:=dJ hw
 have hid:=Pm.id (n:=p.1.toNat) (by omega) (by omega)
 have hq:=sL hV w _ w2 hid
 refine Eq.mp (Ad0 p s w _) ⟨true,(Ab ⟨hp,jr hs⟩).trans (Cx some (Ct.2 ⟨hv,NP hV hs⟩)),λhc=>(by cases hc),λ_=>⟨true,(Ab ⟨by show w.length<=4294967296;omega,by show (0:Int)<=((p.2.2.1.length:Nat):Int);omega,by show ((p.2.2.1.length:Nat):Int)<=4294967296;omega⟩).trans (Cx some hw),λhc=>(by cases hc),λ_=>⟨_,Ab ⟨p,hv,rfl,rfl,hw⟩,_,Ab ⟨Abj hs,HX hs hq⟩,?_⟩⟩⟩
 show (Af s (Jm p.2.2.1 (upto p.1.toNat) w),true,())=tX p s w
 rw [qy hV hs w _ w2 hid,comp_id hs]
 rfl
theorem BD:Sound Try.prog 21 a9:=
 Sound.Ht Ge (Be dc (Be uW (Be Qw (Be vd Cb)))) mixed Try.func21 (by kernel_rfl) (by kernel_rfl) λx h=>Ab5 x.1 x.2.1 x.2.2.1 h
theorem Alc {b:List Int} {i m:Int} (hd:eU b i) (h:Int) (hm:1<=m/\m<=8):SF (me m) (Zy b i h m).2.2=true:=by
 have hr:=gD hd hm.1 h
 have hc:me m=m:=Ak (by omega)
 rw [hc]
 refine Cl ?_
 unfold Zy
 dsimp only
 split<;>omega
theorem Acz {b:List Int} {m:Int} (hm:1<=m/\m<=8): ∀(k:Nat) (i h:Int) (w:List Int),eU b i->(∀y∈w,SF (me m) y=true)->
  eU b (wGo b m k i h w).1/\(wGo b m k i h w).2.2.length=k+w.length/\ ∀y∈(wGo b m k i h w).2.2,SF (me m) y=true
 |0,i,h,w,hd,hw=>⟨hd,by rw [wGo];exact (Bn _).symm,hw⟩
 |k+1,i,h,w,hd,hw=>by
  obtain ⟨h1,h2,h3⟩:=Acz hm k (Zy b i h m).1 (Zy b i h m).2.1 (w++ [(Zy b i h m).2.2]) (SU hd h m) (λy hy=>by
   rcases Az.1 hy with h4|h4
   ·exact hw y h4
   ·rw [Ae.1 h4];exact Alc hd h hm)
  rw [Ay,Bu] at h2
  rw [wGo]
  exact ⟨h1,by omega,h3⟩
theorem Acx {b:List Int} {i m k:Int} (hd:eU b i) (h:Int) (hm:1<=m/\m<=8) (hk:0<=k/\k<=20):Mj m (Vf b i h m k).2.2=true/\eU b (Vf b i h m k).1:=by
 have hr:=gD hd (show 1<=k+1 by omega) h
 obtain ⟨h1,h2,h3⟩:=Acz hm (dR b i h (k+1)).toNat (dI b i) (hN h) [] hd.next (λy hy=>by cases hy)
 refine ⟨Ct.2 ⟨Cl ?_,?_⟩,h1⟩
 ·show (wGo b m (dR b i h (k+1)).toNat (dI b i) (hN h) []).2.2.length<=200
  rw [h2,Di]
  omega
 ·rw [Ew]
  refine List.any_eq_false.2 λy hy=>?_
  rw [h3 y hy]
  decide
theorem Aq0 (b:List Int) (i h n:Int) (str:ByteArray) (g:List (List Int)) (hd:eU b i/\Gt (n,str,g,())/\Cs (n,str,g,())=true/\g.length=2):fnMW (OX [dZ+4]) (look [(62,rn),(16,Tv),(21,a9)]) yp Try.f13 (b,i,h,n,str,g,()) (λ(z:(List Int×Int×Int×List Int×Unit)×Unit)=>z=((b,(om b i h (n,str,g,())).1,(om b i h (n,str,g,())).2.1,(om b i h (n,str,g,())).2.2,()),())):=by
 obtain ⟨hd,hp,hv,h2⟩:=hd
 have hV:=valid hv
 have hn:1<=n/\n<=20:=hV.n
 obtain ⟨hw,JX⟩:=Acx hd h (m:=2) (k:=8) (by decide) (by decide)
 have hS:Tv.fn (n,())=some (upto n.toNat):=Ab hn
 have hid:Pm n.toNat (upto n.toNat):=Pm.id (by omega) (by omega)
 have hW:rn.fn (b,i,h,2,8,())=some ((b,(Vf b i h 2 8).1,(Vf b i h 2 8).2.1,(Vf b i h 2 8).2.2,()),()):=Ab ⟨hd,by show (1:Int)<=2/\(2:Int)<=8;decide,by show (0:Int)<=8;decide,by show (8:Int)<=20;decide⟩
 have hA:a9.fn ((n,str,g,()),upto n.toNat,List.take (Vf b i h 2 8).2.2.length (List.drop 0 (Vf b i h 2 8).2.2),())=some (tX (n,str,g,()) (upto n.toNat) (Vf b i h 2 8).2.2):=by
  rw [Dz]
  exact Ab ⟨hp,hv,hid,by show Mj (g.length:Nat) _=true;rw [h2];exact hw⟩
 refine Eq.mp (Aqk b i h n str g _) ⟨_,hS,_,hW,_,hA,?_⟩
 repeat' (first|exact ⟨rfl,rfl⟩|exact rfl|refine ⟨_,hS,?_⟩|refine ⟨_,hW,?_⟩|refine ⟨_,hA,?_⟩|refine ⟨?_,?_⟩)
theorem WG:Ci Try.prog 13 yp:=
 Ci.dS (OY [dZ+4]) (Ez WH (Be BO (Be BD Cb))) mixed Try.func13 (by kernel_rfl) (by kernel_rfl) λx h=>Aq0 x.1 x.2.1 x.2.2.1 x.2.2.2.1 x.2.2.2.2.1 x.2.2.2.2.2.1 h
structure Asc (n:Int) (o:List Int):Prop where
 asc:o.Pairwise (· < ·)
 row: ∀y∈o,0<=y/\y<n
theorem Asc.more {j:Int} {o:List Int} (h:Asc j o):Asc (j+1) o:=⟨h.asc,λy hy=>by have:=h.row y hy;omega⟩
theorem Asc.add {j:Int} {o:List Int} (h:Asc j o) (h0:0<=j):Asc (j+1) (o++ [j]):=by
 refine ⟨dN.2 ⟨h.asc,by simp,λa ha b hb=>?_⟩,λy hy=>?_⟩
 ·rw [Ae.1 hb];exact (h.row a ha).2
 ·rcases Az.1 hy with h1|h1
  ·have:=h.row y h1;omega
  ·rw [Ae.1 h1];omega
theorem Asc.le {j n:Int} {o:List Int} (h:Asc j o) (hj:j<=n):Asc n o:=⟨h.asc,λy hy=>by have:=h.row y hy;omega⟩
theorem UJ {n:Nat} {l:Int} (h:Ic n l):l∈Au n:=by
 obtain ⟨h0,h1,h2⟩:=h
 by_cases hp:0<l
 ·have:=(Ve (n:=n) (k:=(l-1).toNat) (by omega)).1
  rwa [show ((l-1).toNat:Int)+1=l by omega] at this
 ·have:=(Ve (n:=n) (k:=(-l-1).toNat) (by omega)).2
  rwa [show-(((-l-1).toNat:Int)+1)=l by omega] at this
theorem DS {p:PP} (hw:Ds p=true): ∀(w s:List Int),(∀l∈w,Ic (List.length p.2.2.1) l)->s∈Ag p->Jm p.2.2.1 s w∈Ag p
 | [],s,_,hs=>hs
 |l::w,s,hl,hs=>DS hw w _ (λl' h=>hl l' (Ar _ h)) ((Na hw).next s hs l (UJ (hl l (by simp))))
theorem lZ.whole {p:PP} (hp:lZ p):Ds p=true:=JR hp.valid hp.hi
theorem Ald {p:PP} (hp:lZ p) {b:List Int} {i:Int} (hd:eU b i) (h:Int):eU b (om b i h p).1/\(om b i h p).2.2∈Ag p:=by
 obtain ⟨hw,JX⟩:=Acx hd h (m:=2) (k:=8) (by decide) (by decide)
 have hw:Mj ((2:Nat):Int) (Vf b i h 2 8).2.2=true:=hw
 have h2:=(dJ hw).2
 rw [<-hp.two] at h2
 exact ⟨JX,DS hp.whole _ _ h2 (Lt hp.valid).2⟩
structure sD (p:PP) (ts:List TT):Prop where
 set:u5 p ts=true
 oW:ts.length<=2
 short:Ag0 ts
 valid: ∀t∈ts,u6 p t=true
theorem sD.add {p:PP} (hp:lZ p) {ts:List TT} (h:sD p ts) {t:TT} (ht:u6 p t=true):u5 p (ts++ [t])=true:=by
 have:=h.oW
 refine Ct.2 ⟨Ct.2 ⟨hp.valid,Cl (by rw [Ay,Bu];omega)⟩,Bf.2 λt' kT=>?_⟩
 rcases Az.1 kT with h4|h4
 ·exact h.valid t' h4
 ·rw [Ae.1 h4];exact ht
section
variable {p:PP} {ts:List TT} {s:List Int}
end
section
variable {α β:Type}
theorem sW [DecidableEq β] {L:List α} {M:List β} {P:α->Bool} {Q:β->Bool} (hn:L.Nodup) (f:α->β) (h: ∀x∈L,P x=true->f x∈M/\Q (f x)=true)
  (inj: ∀x∈L,P x=true-> ∀y∈L,P y=true->f x=f y->x=y):L.countP P<=M.countP Q:=by
 rw [Ln,Ln]
 have:=Rq (l1:=(L.filter P).map f) (l2:=M.filter Q) (List.pairwise_map.2 ((hn.filter P).imp_of_mem λhx hy Ig e=>Ig
  (inj _ (Bm.1 hx).1 (Bm.1 hx).2 _ (Bm.1 hy).1 (Bm.1 hy).2 e))) λy hy=>by
   obtain ⟨x,hx,rfl⟩:=Ba.1 hy
   obtain ⟨h1,h2⟩:=Bm.1 hx
   exact Bm.2 (h x h1 h2)
 rwa [Bs] at this
theorem qB {R:α->α->Bool} {h:Nat} : ∀(n:Nat) (L:List α),L.length<=n->(∀x∈L,R x x=true)->(∀x∈L,∀y∈L,∀z∈L,R x y=true->(R y z=true↔R x z=true))->
  (∀x∈L,L.countP (R x)=h)-> ∃k,L.length=k*h
 |_,[],_,_,_,_=>⟨0,by simp⟩
 |0,_::_,hl,_,_,_=>by cases hl
 |n+1,x::L,hl,h1,h2,h3=>by
  obtain ⟨M,hM⟩: ∃M,(x::L).filter (λy=>!R x y)=M:=⟨_,rfl⟩
  have Jl: ∀y∈M,y∈x::L/\R x y=false:= λy hy=>by
   rw [<-hM] at hy
   obtain ⟨a,b⟩:=Bm.1 hy
   exact ⟨a,by simpa using b⟩
  have hlen:(x::L).countP (R x)+M.length=(x::L).length:=by
   rw [<-hM,Ln]
   have:=List.length_eq_countP_add_countP (R x) (l:=x::L)
   rw [Ln,Ln] at this
   rw [this]
   congr 2
   exact List.filter_congr λy _=>by cases R x y<;>simp
  have hx:=h3 x (by simp)
  have rV:0<(x::L).countP (R x):=List.countP_pos_iff.2 ⟨x,by simp,h1 x (by simp)⟩
  obtain ⟨k,hk⟩:=qB n M (by rw [Av] at hlen hl;omega) (λy hy=>h1 y (Jl y hy).1)
   (λa ha b hb c hc=>h2 a (Jl a ha).1 b (Jl b hb).1 c (Jl c hc).1) λy hy=>by
    rw [<-hM,List.countP_filter]
    refine Eq.trans ?_ (h3 y (Jl y hy).1)
    refine List.countP_congr λz hz=>?_
    constructor
    ·intro h
     exact (Ct.1 h).1
    ·intro h
     refine Ct.2 ⟨h,?_⟩
     cases e:R x z with
     |false=>rfl
     |true=>
      have ha:=(h2 x (by simp) z hz y (Jl y hy).1 e)
      have hb:=h2 y (Jl y hy).1 z hz y (Jl y hy).1 h
      have hc:=(ha.1 (hb.2 (h1 y (Jl y hy).1)))
      rw [(Jl y hy).2] at hc
      cases hc
  refine ⟨k+1,?_⟩
  rw [Nat.succ_mul,<-hk,<-hx]
  omega
end
section
variable {p:PP}
theorem Abz (hw:Ds p=true) {x y:List Int} (hx:x∈Ag p) (hy:y∈Ag p):Af y (Bb x)∈Ag p:=
 (fk hw (Li (Ag p) (Bh p) x).toNat x y hx hy (by have:=(Pv hw).nn x hx;omega)).1
theorem Ac1 (hw:Ds p=true) {x y:List Int} (hx:x∈Ag p) (hy:y∈Ag p):Af y x∈Ag p:=by
 have:=Abz hw (Ae7 hw hx).1 hy
 rwa [inv_inv (cc (Cw hw).1 hx)] at this
theorem oM (hv:Cs p=true):(Ag p).Nodup:=(Oo hv).nodup
theorem y0 {n:Nat} {x y z:List Int} (hx:Pm n x) (hy:Pm n y) (hz:Pm n z) (e:Af x z=Af y z):x=y:=by
 have:Af (Af x z) (Bb z)=Af (Af y z) (Bb z):=Cx (λa=>Af a (Bb z)) e
 rwa [Fc hx hz hz.inv,Fc hy hz hz.inv,Tq hz,comp_id hx,comp_id hy] at this
theorem NO {n:Nat} {x z:List Int} (hx:Pm n x) (hz:Pm n z):Af (Af x (Bb z)) z=x:=by
 rw [Fc hx hz.inv hz,Zw hz,comp_id hx]
theorem ur {n:Nat} {x z:List Int} (hx:Pm n x) (hz:Pm n z):Af (Af x z) (Bb z)=x:=by
 rw [Fc hx hz hz.inv,Tq hz,comp_id hx]
theorem Ag7 {t:List Int} (hw:Ds p=true) (hm:Dp p t=true): ∃k,(Ag p).length=k*(Ag (Cf p t)).length:=by
 have hv:=(Cw hw).1
 have hw':=Yv hw hm
 have tJ:=(Cw hw').1
 have my: ∀ {x},x∈Ag p->Pm p.1.toNat x:= λhx=>cc hv hx
 refine qB (R:= λx y=>decide (Af y (Bb x)∈Ag (Cf p t))) _ _ (Aq _) (λx hx=>?_) (λx hx y hy z hz hxy=>?_) λx hx=>?_
 ·refine Cl ?_
  rw [Tq (my hx)]
  exact (Lt tJ).2
 ·have hxy:=Gw hxy
  have e:Af z (Bb x)=Af (Af z (Bb y)) (Af y (Bb x)):=by
   rw [<-Fc ((my hz).comp (my hy).inv) (my hy) (my hx).inv,NO (my hz) (my hy)]
  rw [Gf,Gf,e]
  refine ⟨λh=>Ac1 hw' hxy h,λh=>?_⟩
  have:=Abz hw' hxy h
  rwa [ur ((my hz).comp (my hy).inv) ((my hy).comp (my hx).inv)] at this
 ·have e:(Ag (Cf p t)).length=(Ag (Cf p t)).countP λ_=>true:=by simp
  rw [e]
  refine Nat.le_antisymm (sW (oM hv) (λy=>Af y (Bb x)) (λy hy h=>⟨Gw h,rfl⟩) λa ha _ b hb _ e=>y0 (my ha) (my hb) (my hx).inv e)
   (sW (oM tJ) (λy=>Af y x) (λy hy _=>?_) λa ha _ b hb _ e=>y0 (my (gg hw hm ha)) (my (gg hw hm hb)) (my hx) e)
  refine ⟨Ac1 hw hx (gg hw hm hy),Cl ?_⟩
  rw [ur (my (gg hw hm hy)) (my hx)]
  exact hy
end
theorem sub_eq {α:Type} [DecidableEq α] {l1 l2:List α} (hn:l1.Nodup) (hs: ∀x∈l1,x∈l2) (hl:l2.length<=l1.length): ∀x∈l2,x∈l1:= λx hx=>by
 refine Bk λh=>?_
 have:=Rq (l1:=x::l1) (l2:=l2) (Cg.2 ⟨h,hn⟩) λy hy=>by
  rcases Bc.1 hy with rfl|hy
  ·exact hx
  ·exact hs y hy
 rw [Av] at this
 omega
theorem RZ: ∀(k:Nat) (R x:List Int),R.length=k->x.Perm R->x∈lex k R
 |0,R,x,hl,h=>by
  have h1:=h.length_eq
  have:x= []:=List.length_eq_zero_iff.1 (by omega)
  rw [this,lex]
  simp
 |k+1,R,[],hl,h=>by have:=h.length_eq;simp at this;omega
 |k+1,R,v::y,hl,h=>by
  have hv:v∈R:=h.mem_iff.1 (by simp)
  have h1:y.Perm (R.erase v):=(List.perm_cons v).1 (h.trans (List.perm_cons_erase hv))
  rw [lex]
  exact Fz.2 ⟨v,hv,Ba.2 ⟨y,RZ k _ _ (by rw [Wy hv];omega) h1,rfl⟩⟩
theorem HY {n:Nat} {x:List Int} (h:Pm n x):x.Nodup:=by
 refine Fk.2 λi j hi hj fw e=>?_
 have h1:=h.1
 have:=h.inj (i:=i) (j:=j) (by omega) (by omega) (by unfold ap;rw [Jj hi,Jj hj,e])
 omega
theorem Abk {n:Nat} {x:List Int} (h:Pm n x) {v:Int} (hv:v∈x):0<=v/\v<n:=by
 obtain ⟨i,hi,rfl⟩:=Bj.1 hv
 have h1:=h.Ss (i:=i) (by have:=h.1;omega)
 rw [Jj hi] at h1
 omega
theorem Afw {n:Nat} {x:List Int} (h:Pm n x):x.Perm (upto n):=by
 refine (List.perm_ext_iff_of_nodup (HY h) (mX n)).2 λv=>⟨λhv=>?_,λhv=>?_⟩
 ·exact Nk.2 (Abk h hv)
 ·exact sub_eq (HY h) (λy hy=>Nk.2 (Abk h hy)) (by rw [Ou,h.1];exact Aq _) v hv
theorem Akw {n:Nat} {x:List Int} (h:Pm n x):x∈lex n (upto n):=RZ _ _ _ (Ou n) (Afw h)
theorem Ac0 {p:PP} (hv:Cs p=true) (h5:p.1<=5):(Ag p).length<=120:=by
 have h1:=Rq (l2:=lex p.1.toNat (upto p.1.toNat)) (oM hv) λx hx=>Akw (cc hv hx)
 rw [RU _ _ (Ou _)] at h1
 have h2: ∀k,k<=5->QN k<=120:=by decide
 have:=h2 p.1.toNat (by omega)
 omega
section
variable {n:Nat} {x y q r:List Int}
end
section
variable {p:PP}
end
noncomputable abbrev bk:Spec:=Ht (.pair .bool .unit) tI false true (λ_=>True) (λx=>if x.1=true then 1 else 0)
def ig (T:Ch) (n:Nat):List Int:=(List.range n).map λi=>((Ku (T.getD i [])).length:Int)
noncomputable abbrev Yp:Spec:=Ht (.pair (.ptr df) .unit) tL false true (λx=> ∃N:Nat,(1<=N/\N<=20)/\x.1.1=N/\V N N 0 (x.1.2.2.1,x.1.2.1)) (λx=>ig x.1.2.1 x.1.1.toNat)
noncomputable abbrev Ye:Spec:=Ht (.pair (.ptr df) .unit) tI false true (λx=> ∃N:Nat,(1<=N/\N<=20)/\x.1.1=N/\V N N 0 (x.1.2.2.1,x.1.2.1)) (λx=>(Uu x.1.2.1 x.1.1.toNat:Int))
noncomputable def tY (n:Int) (g:List (List Int)):Int:=if Mi n g=true then (Uu (Xl n g).2 n.toNat:Int) else 0
noncomputable abbrev q8:Spec:=Ht (.pair tI (.pair se .unit)) tI false true (λx=>So x.2.1) (λx=>tY x.1 x.2.1)
noncomputable def GO (p:PP):Int:=if Cs p=true then tY p.1 p.2.2.1 else 0
noncomputable abbrev oH:Spec:=Ht (.pair Lq .unit) tI false true (λx=>Gt x.1) (λx=>GO x.1)
theorem WT (b:Bool) (P:Int->Prop):(Br b (P (1:Int)) (P (0:Int)))=fnW Hz (look []) bk Try.f217 (b,()) P:=by kernel_rfl
theorem PR (c:Int×List (List (Option (List Int)))×List (List (Option (List Int)))×Unit) (P:List Int->Prop):(0=0/\0=([]:List Int).length/\Ev (λ(v2:Int×List Int×PUnit) (k3:Int×List Int×PUnit->Prop)=>Br (decide (v2.1<c.1)) (0=0/\v2.2.1.length=v2.2.1.length/\Ev (λ(v4:Int×Int×List Int×PUnit) (k5:Int×Int×List Int×PUnit->Prop)=>Br (decide (v4.2.1<c.1)) (∃(y6:List (Option (List Int))),idx c.2.1 v2.1=some y6/\ ∃(y7:Option (List Int)),idx y6 v4.2.1=some y7/\ ∃(y8:Int),bk.fn (decide ((↑(y7.getD []).length:Int)>(0:Int)),())=some y8/\0=0/\v4.2.2.1.length=v4.2.2.1.length/\k5 (IntKind.i64.wrap (v4.1+y8),IntKind.i64.wrap (v4.2.1+(1:Int)),v4.2.2.1,())) (0=0/\v4.2.2.1.length=v4.2.2.1.length/\v4.2.2.1.length+(List.take 1 (List.drop 0 [v4.1])).length<=Dn/\0=0/\(v4.2.2.1++List.take 1 (List.drop 0 [v4.1])).length=(v4.2.2.1++List.take 1 (List.drop 0 [v4.1])).length/\k3 (IntKind.i64.wrap (v2.1+(1:Int)),v4.2.2.1++List.take 1 (List.drop 0 [v4.1]),()))) ((0:Int),(0:Int),v2.2.1,PUnit.unit)) (P (List.take v2.2.1.length (List.drop 0 v2.2.1)))) ((0:Int),[],PUnit.unit))=fnW Tz (look [(217,bk)]) Yp Try.f204 (c,()) P:=by kernel_rfl
theorem PI (c:Int×List (List (Option (List Int)))×List (List (Option (List Int)))×Unit) (P:Int->Prop):(∃(y2:List Int),Yp.fn (c,())=some y2/\Ev (λ(v3:Int×Int×PUnit) (k4:Int×Int×PUnit->Prop)=>Br (decide (v3.2.1<(↑y2.length:Int))) (∃(y5:Int),idx y2 v3.2.1=some y5/\k4 (IntKind.i64.wrap (v3.1*y5),IntKind.i64.wrap (v3.2.1+(1:Int)),())) (P v3.1)) ((1:Int),(0:Int),PUnit.unit))=fnW Tz (look [(204,Yp)]) Ye Try.f172 (c,()) P:=by kernel_rfl
theorem Alf (n:Int) (g:List (List Int)) (P:Int->Prop):(∃(y3:Bool),Kc.fn (n,g,())=some y3/\Br (!y3) (P (0:Int)) (∃(y4:(Int×List (List (Option (List Int)))×List (List (Option (List Int)))×PUnit)×PUnit),Ko.fn (n,g,())=some y4/\ ∃(y5:Int),Ye.fn ((y4.1.1,List.take y4.1.2.1.length (List.drop 0 y4.1.2.1),List.take y4.1.2.2.1.length (List.drop 0 y4.1.2.2.1),()),())=some y5/\P y5))=fnW Hz (look [(115,Kc),(171,Ko),(172,Ye)]) q8 Try.f118 (n,g,()) P:=by kernel_rfl
theorem Aqd (p:Int×ByteArray×List (List Int)×Unit) (P:Int->Prop):(∃(y2:Bool),Ie.fn ((p.1,p.2.1,p.2.2.1,()),())=some y2/\Br (!y2) (P (0:Int)) (∃(y3:Int),q8.fn (p.1,p.2.2.1,())=some y3/\P y3))=fnW Hz (look [(47,Ie),(118,q8)]) oH Try.f51 (p,()) P:=by kernel_rfl
theorem UW (b:Bool) (_:True):fnW Hz (look []) bk Try.f217 (b,()) (λ(z:Int)=>z=if b=true then 1 else 0):=by
 refine Eq.mp (WT b _) (Br.of (λh=>?_) λh=>?_)
 ·rw [Ab h]
 ·rw [Ak (by rw [h];decide)]
theorem wE:Sound Try.prog 217 bk:=
 Sound.Ht Ge Cb mixed Try.func217 (by kernel_rfl) (by kernel_rfl) λx h=>UW x.1 h
def qZ (row:Row) (j:Nat):List Int:=(upto j).filter λy=>(row.getD y.toNat none).isSome
theorem MZ (row:Row) (j:Nat):((qZ row (j+1)).length:Int)=(qZ row j).length+if (row.getD j none).isSome=true then 1 else 0:=by
 unfold qZ
 rw [Yw,List.filter_append,Ay]
 by_cases h:(row.getD j none).isSome=true
 ·rw [Ab h,List.filter_cons_of_pos (by rw [Ac];exact h)]
  simp
 ·rw [Ak h,List.filter_cons_of_neg (by rw [Ac];exact h)]
  simp
theorem HL (row:Row) (j:Nat):(qZ row j).length<=j:=by
 have:=List.length_filter_le (λy:Int=>(row.getD y.toNat none).isSome) (upto j)
 rw [Ou] at this
 exact this
theorem UT (T:Ch) (j:Nat):ig T (j+1)=ig T j++ [((Ku (T.getD j [])).length:Int)]:=by
 unfold ig
 rw [bb,It]
 rfl
theorem NJ (c:Int×List (List (Option (List Int)))×List (List (Option (List Int)))×Unit) (h: ∃N:Nat,(1<=N/\N<=20)/\c.1=N/\V N N 0 (c.2.2.1,c.2.1)):
  fnW Tz (look [(217,bk)]) Yp Try.f204 (c,()) (λ(z:List Int)=>z=ig c.2.1 c.1.toNat):=by
 obtain ⟨N,⟨h1,h2⟩,hN,v⟩:=h
 obtain ⟨n,T,G,⟨⟩⟩:=c
 dsimp only at hN v⊢
 subst hN
 refine Eq.mp (PR ((N:Int),T,G,()) _) ⟨rfl,rfl,?_⟩
 obtain ⟨v1,v2,v3,v4⟩:=v
 dsimp only at v1 v2⊢
 rw [Ac]
 refine Cj N (λv=>v.1) (λj v=>v.2.1=ig T j) rfl rfl ?_
 rintro j ⟨i,out,⟨⟩⟩ K hj hi ho hK
 dsimp only at hi ho⊢
 subst hi ho
 have hlen: ∀j,(ig T j).length=j:= λj=>by unfold ig;rw [Bs,Vt]
 refine Br.dec (λhl=>?_) λhl=>?_
 ·have hl:j<N:=by omega
  have hT:j<T.length:=by omega
  have Ka:=dY N 0 v3 j (by omega) (by omega)
  have KA:=Ka.rl
  dsimp only at KA
  rw [qK hT] at KA
  refine ⟨rfl,rfl,?_⟩
  refine Cj N (λv=>v.2.1) (λy v=>v.1=((qZ T[j] y).length:Int)/\v.2.2.1=ig T j) rfl ⟨rfl,rfl⟩ ?_
  rintro y ⟨size,y',out,⟨⟩⟩ K2 hy hy' ⟨hs,ho⟩ hK2
  dsimp only at hy' hs ho⊢
  subst hy' hs ho
  have hle:=HL T[j] y
  refine Br.dec (λhl2=>?_) λhl2=>?_
  ·have hyl:y<T[j].length:=by omega
   have hb:decide ((((T[j])[y].getD []).length:Int)>0)=(T[j].getD y none).isSome:=by
    have eg:T[j].getD y none=T[j][y]:=by rw [Al,Ad hyl];rfl
    rw [eg]
    cases e:(T[j])[y] with
    |none=>rfl
    |some t=>
     obtain ⟨t1,_⟩:=Ka.rt y t (by show (T.getD j []).getD y none=some t;rw [qK hT,eg,e])
     exact Cl (by show (((some t).getD []).length:Int)>0;rw [Bx,t1.1];omega)
   refine ⟨_,Dk hT,_,Dk hyl,_,Ab trivial,rfl,rfl,?_⟩
   have e2:=MZ T[j] y
   have Az3:=HL T[j] (y+1)
   show K2 (IntKind.i64.wrap (((qZ T[j] y).length:Int)+if decide ((((T[j])[y].getD []).length:Int)>0)=true then 1 else 0),_,_,())
   rw [hb,<-e2,Dq (by omega) (by omega),Cd (by omega)]
   exact hK2 (by omega) _ rfl ⟨rfl,rfl⟩
  ·have:y=N:=by omega
   subst this
   refine ⟨rfl,rfl,by rw [hlen];show j+1<=4294967296;omega,rfl,rfl,?_⟩
   rw [Cd (by omega)]
   refine hK (by omega) _ rfl ?_
   rw [UT,qK hT]
   show ig T j++ [((qZ T[j] y).length:Int)]=_
   unfold qZ Ku
   rw [KA]
 ·have:j=N:=by omega
  subst this
  rw [Dy,Bg]
theorem uZ:Sound Try.prog 204 Yp:=
 Sound.Ht gk (Be wE Cb) mixed Try.func204 (by kernel_rfl) (by kernel_rfl) λx h=>NJ x.1 h
theorem Ab2 (T:Ch) {n j:Nat} (h:j<n):idx (ig T n) (j:Int)=some ((Ku (T.getD j [])).length:Int):=by
 have hl:j<(ig T n).length:=by unfold ig;rw [Bs,Vt];exact h
 rw [Dk hl]
 unfold ig
 simp
theorem NC (c:Int×List (List (Option (List Int)))×List (List (Option (List Int)))×Unit) (h: ∃N:Nat,(1<=N/\N<=20)/\c.1=N/\V N N 0 (c.2.2.1,c.2.1)):
  fnW Tz (look [(204,Yp)]) Ye Try.f172 (c,()) (λ(z:Int)=>z=(Uu c.2.1 c.1.toNat:Int)):=by
 have h':=h
 obtain ⟨N,⟨h1,h2⟩,hN,v⟩:=h
 obtain ⟨n,T,G,⟨⟩⟩:=c
 dsimp only at hN v⊢
 subst hN
 rw [Ac]
 refine Eq.mp (PI ((N:Int),T,G,()) _) ⟨ig T N,(Ab h').trans (Cx some (Cx (ig T) (Ac N))),?_⟩
 obtain ⟨v1,v2,v3,v4⟩:=v
 dsimp only at v1 v2⊢
 have hlen:(ig T N).length=N:=by unfold ig;rw [Bs,Vt]
 refine Cj N (λv=>v.2.1) (λj v=>v.1=(Uu T j:Int)) rfl rfl ?_
 rintro j ⟨o,i,⟨⟩⟩ K hj hi ho hK
 dsimp only at hi ho⊢
 subst hi ho
 rw [hlen]
 refine Br.dec (λhl=>?_) λhl=>?_
 ·have hl:j<N:=by omega
  refine ⟨_,Ab2 T hl,?_⟩
  have hb:=xT h2 v3 (j:=j+1) (by omega)
  have e:(Uu T j:Int)*((Ku (T.getD j [])).length:Int)=(Uu T (j+1):Int):=by rw [Uu];push_cast;rfl
  dsimp only at hb
  rw [Cd (by omega),e,Dq (by omega) (by omega)]
  exact hK hl _ rfl rfl
 ·have:j=N:=by omega
  subst this
  rfl
theorem uQ:Sound Try.prog 172 Ye:=
 Sound.Ht gk (Be uZ Cb) mixed Try.func172 (by kernel_rfl) (by kernel_rfl) λx h=>NC x.1 h
theorem Ako (n:Int) (g:List (List Int)) (h:So g):fnW Hz (look [(115,Kc),(171,Ko),(172,Ye)]) q8 Try.f118 (n,g,()) (λ(z:Int)=>z=tY n g):=by
 refine Eq.mp (Alf n g _) ⟨_,Ab h,?_⟩
 unfold tY
 show Br (!Mi n g) _ _
 refine Br.of (λhb=>by rw [Ak (Iy hb)]) λhb=>?_
 have hb:Mi n g=true:=Ji hb
 rw [Ab hb]
 obtain ⟨⟨n1,n2⟩,h8,Kf⟩:=Ej.1 hb
 have lp: ∀x∈g,Pm n.toNat x:= λx hx=>FA (Kf x hx)
 have hV:=kd (n:=n.toNat) (by omega) (by omega) (Wo lp)
 have hb2:Ko.fn (n,g,())=some ((n,(Xl n g).2,(Xl n g).1,()),()):=Ab ⟨⟨n1,n2⟩,h.1,lp⟩
 refine ⟨_,hb2,?_⟩
 simp only [Dz]
 exact ⟨_,Ab ⟨n.toNat,⟨by omega,by omega⟩,by show n=(n.toNat:Int);omega,hV⟩,rfl⟩
theorem OJ:Sound Try.prog 118 q8:=
 Sound.Ht Ge (Be Yq (Ez eQ (Be uQ Cb))) mixed Try.func118 (by kernel_rfl) (by kernel_rfl) λx h=>Ako x.1 x.2.1 h
theorem Apt (p:PP) (h:Gt p):fnW Hz (look [(47,Ie),(118,q8)]) oH Try.f51 (p,()) (λ(z:Int)=>z=GO p):=by
 refine Eq.mp (Aqd p _) ⟨_,Ab h,?_⟩
 unfold GO
 show Br (!Cs p) _ _
 refine Br.of (λhb=>by rw [Ak (Iy hb)]) λhb=>?_
 rw [Ab (Ji hb)]
 exact ⟨_,Ab ⟨h.2.1,h.2.2⟩,rfl⟩
theorem VY:Sound Try.prog 51 oH:=
 Sound.Ht Ge (Be Ys (Be OJ Cb)) mixed Try.func51 (by kernel_rfl) (by kernel_rfl) λx h=>Apt x.1 h
theorem sV {p:PP} (hw:Ds p=true):GO p=((Ag p).length:Int):=by
 have hv:=(Cw hw).1
 have hV:=valid hv
 have hn:=hV.n
 have hg:=Wo (Zq hV).2.2
 have ZQ:Mi p.1 p.2.2.1=true:=(Ej.1 hv).1
 have hc:=kd (n:=p.1.toNat) (by omega) (by omega) hg
 unfold GO tY
 rw [Ab hv,Ab ZQ]
 have e:Uu (Xl p.1 p.2.2.1).2 p.1.toNat=(kU p.1.toNat (Xl p.1 p.2.2.1).2 p.1.toNat 0).length:=(r6 _ _).symm
 rw [e]
 have hm: ∀x,x∈kU p.1.toNat (Xl p.1 p.2.2.1).2 p.1.toNat 0↔x∈Ag p:= λx=>by
  refine (oq (by omega) (by omega) _ 0 (by omega) hc.2.2.1 x).trans ⟨λh=>?_,λh=>?_⟩
  ·exact (Oo hv).all (Cw hw).2 x ((j7 (by omega) (by omega) hg h.1).1 h.2.2)
  ·exact ⟨cc hv h,λi hi=>absurd hi (Dj _),(j7 (by omega) (by omega) hg (cc hv h)).2 ((Oo hv).gen x h)⟩
 have h1:=Rq (mI (n:=p.1.toNat) (by omega) (by omega) _ 0 (by omega) hc.2.2.1) λx hx=>(hm x).1 hx
 have h2:=Rq (oM hv) λx hx=>(hm x).2 hx
 have e3:(kU p.1.toNat (Xl p.1 p.2.2.1).2 p.1.toNat 0).length=(Ag p).length:=Nat.le_antisymm h1 h2
 rw [e3]
def yY (b:List Int):Prop:=b.length<=1048576/\ ∀y∈b,0<=y/\y<256
noncomputable abbrev OA:Spec:=Ht (.pair tB .unit) .bool false true (λx=>yY x.1) (λ_=>true)
theorem Ase {code:List Int} (h:yY code) (hb: ¬(code.length:Int)>4096):eU code 0:=⟨by omega,h.2,Pu _,by omega⟩
theorem BR {g:List (List Int)} {ls:List Int} {L:List (List Int)} {S:List Int->Prop} {dep:List Int->Int} (hc:lX g ls L) (hd:Ju g ls L S dep): ∀(n:Nat) (x w:List Int),x∈L->dep x=n->
  (ik g dep ls n x w).1.length=w.length+n/\(ik g dep ls n x w).2∈L/\S (ik g dep ls n x w).2
 |0,x,w,hx,e=>⟨rfl,hx,(hd.zero x hx).1 e⟩
 |n+1,x,w,hx,e=>by
  obtain ⟨l,hl,h1⟩:=hd.down x hx (by omega)
  rw [ik]
  split
  ·rename_i l' hf
   have h2:dep (Af x (Ax g l'))=n:=Gw (List.find?_some (p:= λl=>decide (dep (Af x (Ax g l))=n)) hf)
   have h3:=List.mem_of_find?_eq_some hf
   obtain ⟨a,b⟩:=BR hc hd n _ (w++ [l']) (hc.next x hx l' h3) h2
   rw [Ay,Bu] at a
   exact ⟨by omega,b⟩
  ·rename_i hf
   have:=List.find?_eq_none.1 hf l hl
   exact absurd (Cl (show dep (Af x (Ax g l))=n by omega)) this
section
variable {p:PP}
theorem QI (hw:Ds p=true) {s:List Int} (hs:s∈Ag p):Li (Ag p) (Bh p) s<(Ag p).length:=by
 have hb:=mU (Cw hw).1
 have hi:=Mc hs
 have hl:(Bh p).length=(Ag p).length:=hb.len
 have h1:=hb.dep ((Ag p).idxOf s) (by show _<(Bh p).length;omega)
 unfold Li
 rw [Ab hs,En (by omega)]
 have h2:(Bh p)[(Ag p).idxOf s]'(by omega)<=((Ag p).idxOf s:Nat):=h1.2
 omega
theorem Aeb (hw:Ds p=true) {s:List Int} (hs:s∈Ag p):((mE p s).length:Int)=Li (Ag p) (Bh p) s/\(∀l∈mE p s,l∈Au p.2.2.1.length)/\Jm p.2.2.1 s (mE p s)=upto p.1.toNat:=by
 have h0:=(Pv hw).nn s hs
 obtain ⟨a,b,c⟩:=BR (Na hw) (Pv hw) (Li (Ag p) (Bh p) s).toNat s [] hs (by omega)
 obtain ⟨u,u1,u2⟩:=oL (g:=p.2.2.1) (dep:=Li (Ag p) (Bh p)) (ls:=Au p.2.2.1.length) (Li (Ag p) (Bh p) s).toNat s []
 refine ⟨?_,ga _ _ _ λl hl=>(by cases hl),?_⟩
 ·unfold mE
  rw [a]
  simp only [Di]
  omega
 ·unfold mE
  rw [u1,Nn,<-u2,c]
  exact (Lt (Cw hw).1).1
variable {t:List Int}
theorem Afi (hw:Ds p=true) (hm:Dp p t=true) {s:List Int} (hs:s∈Ag p):0<=Us p (Ox p t) s/\Us p (Ox p t) s<=Li (Ag p) (Bh p) s/\(Us p (Ox p t) s=0↔s∈Ag (Cf p t)):=by
 obtain ⟨_,h2⟩:=uo hw hm
 exact ⟨h2.nn s hs,by
  have h3:=(Pv hw).nn s hs
  have h4:=Ju.sub (Na hw) h2 (Pv hw) (λx _ e=>by rw [e];exact yA hw hm) (Li (Ag p) (Bh p) s).toNat s hs (by omega)
  show (Ox p t).getD ((Ag p).idxOf s) 0<=_
  omega,h2.zero s hs⟩
theorem Afj (hw:Ds p=true) (hm:Dp p t=true) {s:List Int} (hs:s∈Ag p):((Ta p (Ox p t) s).length:Int)=Us p (Ox p t) s/\(∀l∈Ta p (Ox p t) s,l∈Au p.2.2.1.length)/\
  Jm p.2.2.1 s (Ta p (Ox p t) s)∈Ag p/\Jm p.2.2.1 s (Ta p (Ox p t) s)∈Ag (Cf p t):=by
 obtain ⟨_,h2⟩:=uo hw hm
 have h0:=h2.nn s hs
 have h0:0<=Us p (Ox p t) s:=h0
 obtain ⟨a,b,c⟩:=BR (dep:=Us p (Ox p t)) (Na hw) h2 (Us p (Ox p t) s).toNat s [] hs (by omega)
 obtain ⟨u,u1,u2⟩:=oL (g:=p.2.2.1) (dep:=Us p (Ox p t)) (ls:=Au p.2.2.1.length) (Us p (Ox p t) s).toNat s []
 have e:Jm p.2.2.1 s (Ta p (Ox p t) s)=(ik p.2.2.1 (Us p (Ox p t)) (Au p.2.2.1.length) (Us p (Ox p t) s).toNat s []).2:=by
  unfold Ta
  rw [u1,Nn]
  exact u2.symm
 refine ⟨?_,ga _ _ _ λl hl=>(by cases hl),by rw [e];exact b,by rw [e];exact c⟩
 unfold Ta
 rw [a]
 simp only [Di]
 omega
theorem ZC {w:List Int} (h:w.length<=200):oc w=(w,true,()):=by
 unfold oc
 rw [Ak (by omega)]
theorem VQ (hw:Ds p=true) {s:List Int} :cQ p s=true↔s∈Ag p:=by
 have hv:=(Cw hw).1
 exact ⟨λh=>(Oo hv).all (Cw hw).2 s (Abo h).2.2,λh=>ZF hv ((Oo hv).gen s h)⟩
end
theorem Ad5 (code:List Int) (P:Bool->Prop):(∃(y2:Bool),yh.fn (code,())=some y2/\Br y2 (P true) (∃(y3:(List Int×Int×Int×PUnit)×PUnit),qa.fn (code,(1116:Int),())=some y3/\ ∃(y4:(List Int×Int×Int×Int×ByteArray×List (List Int)×PUnit)×PUnit),yo.fn (y3.1.1,y3.1.2.1,y3.1.2.2.1,())=some y4/\ ∃(y5:(List Int×Int×Int×List Int×PUnit)×PUnit),yp.fn (y4.1.1,y4.1.2.1,y4.1.2.2.1,y4.1.2.2.2.1,y4.1.2.2.2.2.1,List.take y4.1.2.2.2.2.2.1.length (List.drop 0 y4.1.2.2.2.2.2.1),())=some y5/\ ∃(y6:(List Int×Int×Int×Int×PUnit)×PUnit),Lb.fn (y5.1.1,y5.1.2.1,y5.1.2.2.1,(2:Int),())=some y6/\ ∃(y7:(Int×ByteArray×List (List Int)×Bool×PUnit)×PUnit),Yj.fn (y4.1.2.2.2.1,y4.1.2.2.2.2.1,List.take y4.1.2.2.2.2.2.1.length (List.drop 0 y4.1.2.2.2.2.2.1),List.take 1 (List.drop 0 [y6.1.2.2.2.1]),())=some y7/\ ∃(y8:(List Int×Bool×PUnit)×PUnit),Yi.fn (y4.1.2.2.2.1,y4.1.2.2.2.2.1,List.take y4.1.2.2.2.2.2.1.length (List.drop 0 y4.1.2.2.2.2.2.1),List.take 1 (List.drop 0 [y6.1.2.2.2.1]),y5.1.2.2.2.1,())=some y8/\ ∃(y9:(List Int×Bool×PUnit)×PUnit),Yk.fn (y4.1.2.2.2.1,y4.1.2.2.2.2.1,List.take y4.1.2.2.2.2.2.1.length (List.drop 0 y4.1.2.2.2.2.2.1),List.take 1 (List.drop 0 [y6.1.2.2.2.1]),y5.1.2.2.2.1,())=some y9/\Br (!y7.1.2.2.2.1) (P false) (Br (!y8.1.2.1) (P false) (∃(Qp:Bool),Ie.fn ((y7.1.1,y7.1.2.1,List.take y7.1.2.2.1.length (List.drop 0 y7.1.2.2.1),()),())=some Qp/\Br (!Qp) (P false) (∃(Nu:Bool),fW.fn ((y4.1.2.2.2.1,y4.1.2.2.2.2.1,List.take y4.1.2.2.2.2.2.1.length (List.drop 0 y4.1.2.2.2.2.2.1),()),List.take 1 (List.drop 0 [y6.1.2.2.2.1]),y5.1.2.2.2.1,())=some Nu/\Br (Nu==((↑y8.1.1.length:Int)==(0:Int))) (Br (Nu==y9.1.2.1) (∃(Vm:Bool),Ym.fn ((y7.1.1,y7.1.2.1,List.take y7.1.2.2.1.length (List.drop 0 y7.1.2.2.1),()),y5.1.2.2.2.1,())=some Vm/\Br (Nu==Vm) (∃(hJ:Int),c6.fn ((y4.1.2.2.2.1,y4.1.2.2.2.2.1,List.take y4.1.2.2.2.2.2.1.length (List.drop 0 y4.1.2.2.2.2.2.1),()),List.take 1 (List.drop 0 [y6.1.2.2.2.1]),())=some hJ/\ ∃(Ub:Int),oH.fn ((y7.1.1,y7.1.2.1,List.take y7.1.2.2.1.length (List.drop 0 y7.1.2.2.1),()),())=some Ub/\ ∃(JT:Int),oH.fn ((y4.1.2.2.2.1,y4.1.2.2.2.2.1,List.take y4.1.2.2.2.2.2.1.length (List.drop 0 y4.1.2.2.2.2.2.1),()),())=some JT/\P (IntKind.i64.wrap (hJ*Ub)==JT)) (P false)) (P false)) (P false))))))=fnW (OX [fY+4,jq]) (look [(10,yh),(11,qa),(12,yo),(13,yp),(17,Lb),(44,Yj),(45,Yi),(46,Yk),(47,Ie),(48,fW),(49,Ym),(50,c6),(51,oH)]) OA Try.f6 (code,()) P:=by kernel_rfl
theorem lZ.sub {p:PP} (hp:lZ p) {k:Int} (h0:0<=k) (h1:k<2):Dp p [k]=true:=by
 refine Ej.2 ⟨hp.valid,Ej.2 ⟨Nat.zero_lt_one,λj hj _=>?_⟩⟩
 have hj:j<1:=hj
 obtain rfl:j=0:=by omega
 have h2:=hp.two
 exact ⟨h0,by show k<=((p.2.2.1.length:Nat):Int)-1;omega,λh=>absurd h (by decide)⟩
theorem Aba (code:List Int) (h:yY code):fnW (OX [fY+4,jq]) (look [(10,yh),(11,qa),(12,yo),(13,yp),(17,Lb),(44,Yj),(45,Yi),(46,Yk),(47,Ie),(48,fW),(49,Ym),(50,c6),(51,oH)]) OA Try.f6 (code,()) (λ(z:Bool)=>z=true):=by
 refine Eq.mp (Ad5 code _) ⟨_,Ab trivial,Br.dec (λ_=>rfl) λhb=>?_⟩
 have hb: ¬(code.length:Int)>4096:=hb
 have hd0:=Ase h hb
 refine ⟨_,Ab (show code.length<=4096 by omega),_,Ab hd0,?_⟩
 obtain ⟨hp,hd1⟩:=PF hd0 (pJ code 1116)
 obtain ⟨W,hW⟩: ∃W,aH code 0 (pJ code 1116)=W:=⟨_,rfl⟩
 rw [hW] at hp hd1
 simp only [hW,Dz]
 obtain ⟨i1,h1,n,str,g,u⟩:=W
 obtain rfl:u=():=rfl
 dsimp only at hp hd1⊢
 clear hW
 have hs:=hp.short
 have hw:=hp.whole
 refine ⟨_,Ab ⟨hd1,hs,hp.valid,hp.two⟩,?_⟩
 obtain ⟨hd3,Rj⟩:=Ald hp hd1 h1
 obtain ⟨W,hW⟩: ∃W,om code i1 h1 (n,str,g,())=W:=⟨_,rfl⟩
 rw [hW] at hd3 Rj
 simp only [hW]
 obtain ⟨i3,h3,s⟩:=W
 dsimp only at hd3 Rj⊢
 clear hW
 obtain ⟨r1,r2⟩:=gD hd3 (show (1:Int)<=2 by decide) h3
 have e6:Lb.fn (code,i3,h3,2,())=some ((code,dI code i3,hN h3,dR code i3 h3 2,()),()):=Ab ⟨hd3,by show (1:Int)<=2;decide⟩
 refine ⟨_,e6,?_⟩
 obtain ⟨k,hk⟩: ∃k,dR code i3 h3 2=k:=⟨_,rfl⟩
 rw [hk] at r1 r2
 dsimp only
 simp only [hk,Dy,List.take_succ_cons,List.take_zero]
 have hm:=hp.sub r1 r2
 have hph:Jn (n,str,g,()) [k]=true:=Ct.2 ⟨hw,hm⟩
 have hss:short s:=jr (cc hp.valid Rj)
 have zr:short [k]:=by show [k].length<=4294967296;simp
 have hvs:=cg hm
 have FT:=Yv hw hm
 have Jl:bU (n,str,g,()) [k]=Cf (n,str,g,()) [k]:=Ab hph
 have RK:Gt (Cf (n,str,g,()) [k]):=vh hs hm
 have e7:Yj.fn (n,str,g,[k],())=some (((Cf (n,str,g,()) [k]).1,(Cf (n,str,g,()) [k]).2.1,(Cf (n,str,g,()) [k]).2.2.1,true,()),()):=(Ab ⟨hs,zr⟩).trans (Cx some (by
  show (((bU (n,str,g,()) [k]).1,(bU (n,str,g,()) [k]).2.1,(bU (n,str,g,()) [k]).2.2.1,Jn (n,str,g,()) [k],()),())=_
  rw [Jl,hph]))
 obtain ⟨a1,a2,_⟩:=Afj hw hm Rj
 obtain ⟨o1,o2,o3⟩:=Afi hw hm Rj
 have Ayk:=QI hw Rj
 have Aep:=Ac0 hp.valid hp.hi
 have FM:oh (n,str,g,()) [k] s=(Ta (n,str,g,()) (Ox (n,str,g,()) [k]) s,true,()):=by
  unfold oh
  rw [Ab (Ct.2 ⟨hph,Cl Rj⟩)]
  exact ZC (by omega)
 have e8:Yi.fn (n,str,g,[k],s,())=some ((Ta (n,str,g,()) (Ox (n,str,g,()) [k]) s,true,()),()):=(Ab ⟨hs,zr,hss⟩).trans (Cx some (by
  show (((oh (n,str,g,()) [k] s).1,(oh (n,str,g,()) [k] s).2.1,()),())=_
  rw [FM]))
 have Aoz:(Pn (n,str,g,()) [k] s).2.1=decide (s∈Ag (Cf (n,str,g,()) [k])):=by
  unfold Pn
  rw [Ab (Ct.2 ⟨hph,Cl Rj⟩)]
  by_cases Rw:s∈Ag (Cf (n,str,g,()) [k])
  ·rw [Alb hw hm Rw,Cl Rw,ZC]
   unfold tZ
   rw [Bs]
   have b1:=(Aeb FT Rw).1
   have b2:=QI FT Rw
   have b3:=Ac0 hvs hp.hi
   omega
  ·unfold Zj
   rw [Ak Rw,Iu Rw]
 have e9:Yk.fn (n,str,g,[k],s,())=some (((Pn (n,str,g,()) [k] s).1,(Pn (n,str,g,()) [k] s).2.1,()),()):=Ab ⟨hs,zr,hss⟩
 obtain ⟨Q,hQ⟩: ∃Q,Cf (n,str,g,()) [k]=Q:=⟨_,rfl⟩
 have Rw:od (n,str,g,()) [k] s=decide (s∈Ag Q):=by
  unfold od
  rw [hph,Cl Rj,hQ]
  rfl
 have hdiv:=Ag7 hw hm
 rw [hQ] at e7 Aoz hvs FT RK o3 hdiv
 have hQe:(Q.1,Q.2.1,Q.2.2.1,())=Q:=rfl
 have e10:Ie.fn ((Q.1,Q.2.1,Q.2.2.1,()),())=some true:=(Ab RK).trans (Cx some hvs)
 have e11:fW.fn ((n,str,g,()),[k],s,())=some (decide (s∈Ag Q)):=(Ab ⟨hs,zr,hss⟩).trans (Cx some Rw)
 have e12:Ym.fn ((Q.1,Q.2.1,Q.2.2.1,()),s,())=some (decide (s∈Ag Q)):=(Ab ⟨RK,hss⟩).trans (Cx some (iv.2 ((VQ FT).trans Gf.symm)))
 have e13:c6.fn ((n,str,g,()),[k],())=some (((Ag (n,str,g,())).length:Int).tdiv ((Ag Q).length:Int)):=(Ab ⟨hs,zr⟩).trans (Cx some (by
  show ji (n,str,g,()) [k]=_
  unfold ji
  rw [Ab hph,hQ]))
 have e14:oH.fn ((Q.1,Q.2.1,Q.2.2.1,()),())=some ((Ag Q).length:Int):=(Ab RK).trans (Cx some (sV FT))
 have e15:oH.fn ((n,str,g,()),())=some ((Ag (n,str,g,())).length:Int):=(Ab hs).trans (Cx some (sV hw))
 obtain ⟨c,hc⟩:=hdiv
 have rV:0<(Ag Q).length:=List.length_pos_of_mem (Lt hvs).2
 refine ⟨_,e7,_,e8,_,e9,?_⟩
 refine Br.of (λhh=>by cases hh) λ_=>Br.of (λhh=>by cases hh) λ_=>⟨_,e10,Br.of (λhh=>by cases hh) λ_=>⟨_,e11,?_⟩⟩
 have Anx:decide (s∈Ag Q)=(((Ta (n,str,g,()) (Ox (n,str,g,()) [k]) s).length:Int)==0):=iv.2 (Gf.trans (o3.symm.trans (by rw [aD,a1])))
 rw [<-Anx,Aoz,beq_self_eq_true]
 refine ⟨λ_=>⟨λ_=>⟨_,e12,?_⟩,λhh=>by cases hh⟩,λhh=>by cases hh⟩
 rw [beq_self_eq_true]
 refine ⟨λ_=>⟨_,e13,_,e14,_,e15,?_⟩,λhh=>by cases hh⟩
 have e:((Ag (n,str,g,())).length:Int).tdiv ((Ag Q).length:Int)=(c:Int):=by
  rw [hc]
  push_cast
  exact Int.mul_tdiv_cancel _ (by omega)
 have ZL:(c:Int)*((Ag Q).length:Int)=((Ag (n,str,g,())).length:Int):=by rw [hc];push_cast;rfl
 show (IntKind.i64.wrap (((Ag (n,str,g,())).length:Int).tdiv ((Ag Q).length:Int)*((Ag Q).length:Int))==((Ag (n,str,g,())).length:Int))=true
 rw [e,ZL,Dq (by omega) (by omega)]
 exact beq_self_eq_true _
theorem BK:Sound Try.prog 6 OA:=
 Sound.Ht (OY [fY+4,jq]) (Be VX (Ez OO (Ez WE (Ez WG (Ez da (Ez wJ (Ez wI (Ez wK (Be Ys (Be s8 (Be sd (Be qf (Be VY Cb))))))))))))) mixed Try.func6 (by kernel_rfl) (by kernel_rfl) λx h=>Aba x.1 h
end Go.Proofs.Ytkkdpknjohcekaa
