/-
  Part 46 of the proof that the statement FnMethods holds.
-/
import Derived.Test.YtkkdpknjohcekaaGreatCFMethods44
namespace Go.Proofs.YtkkdpknjohcekaaGreat
open Go.RowKit
section
variable {Q:List Int->Prop} {code:List Int->Nat} {B:Nat}
theorem ZL (inj: ∀x y,Q x->Q y->code x=code y->x=y) (lt: ∀x,Q x->code x<B) {L:List (List Int)} (hQ: ∀y∈L,Q y) (hn:L.Nodup):L.length<=B:=by
 have h1:(L.map code).Nodup:=by
  unfold List.Nodup
  rw [List.pairwise_map]
  exact iA (λha hb Jd he=>Jd (inj _ _ (hQ _ ha) (hQ _ hb) he)) hn
 have h2:=aj h1 (l2:=List.range B) λx hx=>by
  obtain ⟨y,hy,rfl⟩:=Bf.1 hx
  exact Ff.2 (lt y (hQ y hy))
 simpa using h2
theorem m7 (hB:B<3000) (inj: ∀x y,Q x->Q y->code x=code y->x=y) (lt: ∀x,Q x->code x<B) {g:List (List Int)} {x:List Int} {d:Int} :
  ∀(ls:List Int) (L:List (List Int)) (D:List Int),(∀l∈ls,Q (Aj x (Ax g l)))->(∀y∈L,Q y)->L.Nodup->
   (Iy g x d ls L D).2.2=true/\(∀y∈(Iy g x d ls L D).1,Q y)/\(Iy g x d ls L D).1.Nodup
 | [],L,D,_,hQ,hn=>⟨rfl,hQ,hn⟩
 |l::ls,L,D,hl,hQ,hn=>by
  have Lq: ∀l∈ls,Q (Aj x (Ax g l)):= λl h=>hl l (Ap _ h)
  rw [Iy]
  split
  ·exact m7 hB inj lt ls L D Lq hQ hn
  ·rename_i hni
   have:=ZL inj lt hQ hn
   rw [Ai (by omega)]
   refine m7 hB inj lt ls _ _ Lq (λy hy=>?_) ?_
   ·rcases Ba.1 hy with h|h
    ·exact hQ y h
    ·rw [Ad.1 h];exact hl l (by simp)
   ·rw [Ef]
    exact ⟨hn,by simp,λa ha b hb e=>hni (by rw [Ad.1 hb] at e;rw [<-e];exact ha)⟩
theorem sT (hB:B<3000) (inj: ∀x y,Q x->Q y->code x=code y->x=y) (lt: ∀x,Q x->code x<B) {g:List (List Int)} {ls:List Int} (step: ∀x,Q x-> ∀l∈ls,Q (Aj x (Ax g l))):
  ∀(f k:Nat) (L:List (List Int)) (D:List Int),(∀y∈L,Q y)->L.Nodup->(Lo g ls f k L D).2.2=true
 |0,_,_,_,_,_=>rfl
 |f+1,k,L,D,hQ,hn=>by
  rw [Lo]
  split
  ·rename_i hk
   have hx:Q (L.getD k []):=by
    rw [Ak,Ac hk]
    exact hQ _ (Am hk)
   obtain ⟨h1,h2,h3⟩:=m7 hB inj lt (d:=D.getD k 0) ls L D (step _ hx) hQ hn
   generalize Iy g (L.getD k []) (D.getD k 0) ls L D=r at h1 h2 h3
   obtain ⟨L',D',b⟩:=r
   have h1:b=true:=h1
   subst h1
   exact sT hB inj lt step f (k+1) L' D' h2 h3
  ·rfl
theorem ZG (hB:B<3000) (inj: ∀x y,Q x->Q y->code x=code y->x=y) (lt: ∀x,Q x->code x<B) {g:List (List Int)} {s:List Int} (hs:Q s)
  (step: ∀x,Q x-> ∀l∈Az g.length,Q (Aj x (Ax g l))):(Ie g s).2.2=true:=
 sT hB inj lt step _ _ _ _ (λy hy=>by rw [Ad.1 hy];exact hs) (by simp)
end
def xA (x:List Int):Nat:=(Dp x 0+5*Dp x 1+25*Dp x 2+125*Dp x 3).toNat
theorem ZW {x:List Int} {k:Nat} (h:x.length<=k):Dp x (k:Int)=0:=by
 unfold Dp
 rw [Ae,Ak,Ei h]
 rfl
theorem Qz {n:Nat} {x:List Int} (hn:n<=5) (h:Pm n x) (k:Nat):0<=Dp x (k:Int)/\Dp x (k:Int)<5:=by
 by_cases hk:k<n
 ·have:=h.Wl hk
  omega
 ·rw [ZW (by rw [h.1];omega)]
  decide
theorem OA {n:Nat} {x:List Int} (hn:n<=5) (h:Pm n x):xA x<625:=by
 have h0:=Qz hn h 0
 have h1:=Qz hn h 1
 have h2:=Qz hn h 2
 have h3:=Qz hn h 3
 simp only [Int.natCast_zero] at h0
 unfold xA
 have e1:((1:Nat):Int)=1:=rfl
 have e2:((2:Nat):Int)=2:=rfl
 have e3:((3:Nat):Int)=3:=rfl
 rw [e1] at h1;rw [e2] at h2;rw [e3] at h3
 omega
theorem ID {n:Nat} (hn:n<=5) (x y:List Int) (hx:Pm n x) (hy:Pm n y) (e:xA x=xA y):x=y:=by
 have e1:((1:Nat):Int)=1:=rfl
 have e2:((2:Nat):Int)=2:=rfl
 have e3:((3:Nat):Int)=3:=rfl
 have a0:=Qz hn hx 0
 have a1:=Qz hn hx 1
 have a2:=Qz hn hx 2
 have a3:=Qz hn hx 3
 have b0:=Qz hn hy 0
 have b1:=Qz hn hy 1
 have b2:=Qz hn hy 2
 have b3:=Qz hn hy 3
 simp only [Int.natCast_zero] at a0 b0
 rw [e1] at a1 b1;rw [e2] at a2 b2;rw [e3] at a3 b3
 unfold xA at e
 have low: ∀i:Nat,i<4->Dp x (i:Int)=Dp y (i:Int):=by
  intro i hi
  match i,hi with
  |0,_=>simp only [Int.natCast_zero];omega
  |1,_=>rw [e1];omega
  |2,_=>rw [e2];omega
  |3,_=>rw [e3];omega
 have Apr: ∀i,i<4->ap x i=ap y i:= λi hi=>by unfold ap;rw [low i hi]
 refine hx.ext hy λi hi=>?_
 by_cases h4:i<4
 ·exact Apr i h4
 ·obtain ⟨j,hj,hjx⟩:=hy.VE (hx.lt hi)
  by_cases hj4:j<4
  ·rw [<-Apr j hj4] at hjx
   have:=hx.inj hj hi hjx
   omega
  ·have:j=i:=by omega
   rw [this] at hjx
   exact hjx.symm
theorem KF {p:PP} (hv:Ca p=true) (h5:p.1<=5):Db p=true:=by
 have hV:=valid hv
 have hn:=hV.n
 refine Cx.2 ⟨hv,ZG (Q:=Pm p.1.toNat) (code:=xA) (B:=625) (by decide) (ID (by omega)) (λx hx=>OA (by omega) hx) (Pm.id (by omega) (by omega)) λx hx l hl=>?_⟩
 exact hx.comp (bw hV (Ou hl))
theorem Agm {n a c:Nat} {mv:List Int} (h:Pm n mv) (ha:a<n) (hc:c<n):Pm n ((mv.set a (Dp mv (c:Int))).set c (Dp mv (a:Int))):=by
 have hA:=(h.Wl ha).1
 have hC:=(h.Wl hc).1
 refine Pm.of (by simp only [Co];exact h.1) h.n1 h.n2 (λk=>if k=c then ap mv a else if k=a then ap mv c else ap mv k) (λi hi=>?_) λi j hi hj e=>?_
 ·rw [Ex,Ex,Co,h.1]
  by_cases h1:c=i
  ·rw [Ab h1,Ab hc,Ab (show i=c from h1.symm)]
   exact ⟨by rw [hA],h.lt ha⟩
  ·rw [Ai h1,Ai (show ¬i=c from λe=>h1 e.symm)]
   by_cases h2:a=i
   ·rw [Ab h2,Ab ha,Ab (show i=a from h2.symm)]
    exact ⟨by rw [hC],h.lt hc⟩
   ·rw [Ai h2,Ai (show ¬i=a from λe=>h2 e.symm)]
    have gM:i<mv.length:=by rw [h.1];exact hi
    have:=(h.Wl hi).1
    rw [Ks gM] at this
    rw [Ac gM,this]
    exact ⟨rfl,h.lt hi⟩
 ·by_cases i1:i=c
  ·rw [Ab i1] at e
   by_cases j1:j=c
   ·rw [i1,j1]
   ·rw [Ai j1] at e
    by_cases j2:j=a
    ·rw [Ab j2] at e
     have:=h.inj ha hc e
     rw [i1,j2,this]
    ·rw [Ai j2] at e
     exact absurd (h.inj ha hj e).symm j2
  ·rw [Ai i1] at e
   by_cases i2:i=a
   ·rw [Ab i2] at e
    by_cases j1:j=c
    ·rw [Ab j1] at e
     have:=h.inj hc ha e
     rw [i2,j1,this]
    ·rw [Ai j1] at e
     by_cases j2:j=a
     ·rw [i2,j2]
     ·rw [Ai j2] at e
      exact absurd (h.inj hc hj e).symm j1
   ·rw [Ai i2] at e
    by_cases j1:j=c
    ·rw [Ab j1] at e
     exact absurd (h.inj hi ha e) i2
    ·rw [Ai j1] at e
     by_cases j2:j=a
     ·rw [Ab j2] at e
      exact absurd (h.inj hi hc e) i1
     ·rw [Ai j2] at e
      exact h.inj hi hj e
theorem yW {b:List Int} {n:Int} (hn:1<=n): ∀(k:Nat) (i h:Int) (mv:List Int),eY b i->Pm n.toNat mv->Pm n.toNat (gq b n k i h mv).2.2
 |0,_,_,_,_,hm=>hm
 |k+1,i,h,mv,hd,hm=>by
  have r1:=gG hd hn h
  have r2:=gG hd.next hn (hN h)
  rw [gq]
  refine yW hn k _ _ _ hd.next.next ?_
  have:=Agm hm (a:=(dR b i h n).toNat) (c:=(dR b (dI b i) (hN h) n).toNat) (by omega) (by omega)
  rw [Int.toNat_of_nonneg r1.1,Int.toNat_of_nonneg r2.1] at this
  exact this
theorem HE {b:List Int} {n:Int} (hn:1<=n) (hn2:n<=20): ∀(k:Nat) (i h:Int) (ms:List (List Int)),eY b i->(∀m∈ms,Pm n.toNat m)-> ∀m∈(aQ b n k i h ms).2.2,Pm n.toNat m
 |0,_,_,_,_,hm=>hm
 |k+1,i,h,ms,hd,hm=>by
  rw [aQ]
  refine HE hn hn2 k _ _ _ (um hd h) λm hmm=>?_
  rcases Ba.1 hmm with h1|h1
  ·exact hm m h1
  ·rw [Ad.1 h1]
   exact yW hn _ _ _ _ hd.next (Pm.id (by omega) (by omega))
theorem Abc:bx Abf=true:=by
 refine Jg.2 ⟨by decide,λj hj=>?_⟩
 have hj:j<2:=hj
 match j,hj with
 |0,_=>exact ⟨65,rfl,by decide,by decide,λk hk=>by omega⟩
 |1,_=>exact ⟨66,rfl,by decide,by decide,λk hk=>(by have e:k=0:=(by omega);rw [e];decide)⟩
structure fg (p:PP):Prop where
 valid:Ca p=true
 two:p.2.2.1.length=2
 lo:3<=p.1
 hi:p.1<=5
 short:Gl p
theorem PX {b:List Int} {i:Int} (hd:eY b i) (h:Int):fg (aP b i h).2.2/\eY b (aP b i h).1:=by
 have hr:=gG hd (show (1:Int)<=3 by decide) h
 obtain ⟨n,hn⟩: ∃n,3+dR b i h 3=n:=⟨_,rfl⟩
 have h2:=SV b n 2 (dI b i) (hN h) []
 have h3:=HE (b:=b) (n:=n) (by omega) (by omega) 2 (dI b i) (hN h) [] hd.next (λm hm=>by cases hm)
 have h4:=SU n 2 (dI b i) (hN h) [] hd.next
 unfold aP
 rw [hn]
 generalize aQ b n 2 (dI b i) (hN h) []=R at h2 h3 h4
 obtain ⟨i',h',ms⟩:=R
 dsimp only at h2 h3 h4⊢
 simp only [Gp,Eo] at h2
 refine ⟨⟨Jg.2 ⟨Jg.2 ⟨⟨by show 1<=n;omega,by show n<=20;omega⟩,by show ms.length<=8;omega,λm hm=>?_⟩,Abc,by show 2=ms.length;omega⟩,h2,by show 3<=n;omega,by show n<=5;omega,⟨by show 2<=4294967296;decide,by show ms.length<=4294967296;omega,λm hm=>?_⟩⟩,h4⟩
 ·have:=h3 m hm
  have h5:=this.1
  exact Jg.2 ⟨by omega,xU this.2⟩
 ·exact al (h3 m hm)
noncomputable def uc (p:PP) (s w:List Int):List Int×Bool×Unit:=(Cj p.2.2.1 s w,true,())
noncomputable abbrev Rb:Spec:=Gk (.pair Iw (.pair tL (.pair tL .unit))) (.pair tL (.pair .bool .unit)) true true (λx=>Gl x.1/\Ca x.1=true/\Pm x.1.1.toNat x.2.1/\Fg (List.length x.1.2.2.1:Nat) x.2.2.1=true) (λx=>uc x.1 x.2.1 x.2.2.1)
noncomputable def oe (b:List Int) (i h:Int) (p:PP):Int×Int×List Int:=((Vy b i h 2 8).1,(Vy b i h 2 8).2.1,(uc p (upto p.1.toNat) (Vy b i h 2 8).2.2).1)
noncomputable abbrev Apn:MSpec:= {ptr:=some (69,3),Kn:= [some 3],ins:= [(false, .Hw tB),(false, .Hw tI),(false, .Hw YR),(false, .Hw tI),(false, .Hw .str),(false, .Hw nf)],Jy:=false,Ji:= [none],outs:= [.Hw tB, .Hw tI, .Hw YR, .Hw tL],fn:= λ_=>none}
noncomputable abbrev yP:MSpec:=pb Apn (λx=>eY x.1 x.2.1/\Gl (x.2.2.2.1,x.2.2.2.2.1,x.2.2.2.2.2.1,())/\Ca (x.2.2.2.1,x.2.2.2.2.1,x.2.2.2.2.2.1,())=true/\List.length x.2.2.2.2.2.1=2) (λx=>((x.1,(oe x.1 x.2.1 x.2.2.1 (x.2.2.2.1,x.2.2.2.2.1,x.2.2.2.2.2.1,())).1,(oe x.1 x.2.1 x.2.2.1 (x.2.2.2.1,x.2.2.2.2.1,x.2.2.2.2.2.1,())).2.1,(oe x.1 x.2.1 x.2.2.1 (x.2.2.2.1,x.2.2.2.2.1,x.2.2.2.2.2.1,())).2.2,()),()))
theorem YA (g:List (List Int)) (l:Int) (P:List Int->Prop):(Br (decide (l<(0:Int))) (∃(y3:List Int),idx g (IntKind.i64.wrap (IntKind.i64.wrap ((0:Int)-l)-(1:Int)))=some y3/\ ∃(y4:List Int),Io.fn (y3,())=some y4/\P y4) (∃(y3:List Int),idx g (IntKind.i64.wrap (l-(1:Int)))=some y3/\P y3))=fnW Fl (look [(163,Io)]) Kb Tryz.f131 (g,l,()) P:=by kernel_rfl
theorem QJ (n:Int) (g:List (List Int)) (w:List Int) (P:List Int->Prop):(∃(y4:List Int),Dy.fn (n,())=some y4/\Dn (λ(v5:List Int×Int×PUnit) (k6:List Int×Int×PUnit->Prop)=>Br (decide (v5.2.1<(↑w.length:Int))) (∃(y7:Int),idx w v5.2.1=some y7/\ ∃(y8:List Int),Kb.fn (g,y7,())=some y8/\ ∃(y9:List Int),Il.fn (v5.1,y8,())=some y9/\k6 (y9,IntKind.i64.wrap (v5.2.1+(1:Int)),())) (P v5.1)) (y4,(0:Int),PUnit.unit))=fnW Fl (look [(96,Dy),(81,Il),(131,Kb)]) Mk Tryz.f82 (n,g,w,()) P:=by kernel_rfl
theorem Ad9 (p:Int×ByteArray×List (List Int)×Unit) (s w:List Int) (P:(List Int×Bool×Unit)->Prop):(∃(y4:Bool),Og.fn ((p.1,p.2.1,p.2.2.1,()),s,())=some y4/\Br (!y4) (P (List.take 0 (List.drop 0 []),false,())) (∃(y5:Bool),Jt.fn ((↑p.2.2.1.length:Int),w,())=some y5/\Br (!y5) (P (List.take 0 (List.drop 0 []),false,())) (∃(y6:List Int),Mk.fn (p.1,p.2.2.1,w,())=some y6/\ ∃(y7:List Int),Il.fn (s,y6,())=some y7/\P (y7,true,()))))=fnW Fl (look [(64,Og),(80,Jt),(81,Il),(82,Mk)]) Rb Tryz.f34 (p,s,w,()) P:=by kernel_rfl
abbrev PN:Type:=(List Int×Int×Int×List Int×PUnit)×PUnit
abbrev AP (b:List Int) (i:Int) (h:Int) (n:Int) (str:ByteArray) (g:List (List Int)) (Xw:List Int) (y8:PN) (y9:List Int×Bool×PUnit) (y7:List Int):Prop:= ∃(Sj:PN),rq.fn (b,i,h,(2:Int),(8:Int),())=some Sj/\ ∃(Rr:List Int×Bool×PUnit),Rb.fn ((n,str,g,()),Xw,List.take Sj.1.2.2.2.1.length (List.drop 0 Sj.1.2.2.2.1),())=some Rr/\(([(0,0),(0,Sj.1.2.2.2.1.length)]= [(0,0),(0,y8.1.2.2.2.1.length)]/\(n,str,g,Rr.1,Rr.2.1,Rr,n,str,g,n,Xw,Rr,Rr.1,Rr.2.1,n,str,g,([]:List Int),Sj.1.2.2.2.1,Sj.1.1,Sj.1.2.1,Sj.1.2.2.1,())=(n,str,g,y9.1,y9.2.1,y9,n,str,g,n,y7,y9,y9.1,y9.2.1,n,str,g,([]:List Int),y8.1.2.2.2.1,y8.1.1,y8.1.2.1,y8.1.2.2.1,PUnit.unit))/\ [(0,0),(0,Sj.1.2.2.2.1.length)]= [(0,0),(0,y8.1.2.2.2.1.length)]/\(n,str,g,Rr.1,Rr.2.1,Rr,n,str,g,n,Xw,Rr,Rr.1,Rr.2.1,n,str,g,([]:List Int),Sj.1.2.2.2.1,Sj.1.1,Sj.1.2.1,Sj.1.2.2.1,())=(n,str,g,y9.1,y9.2.1,y9,n,str,g,n,y7,y9,y9.1,y9.2.1,n,str,g,([]:List Int),y8.1.2.2.2.1,y8.1.1,y8.1.2.1,y8.1.2.2.1,PUnit.unit))/\ [(0,0),(0,Sj.1.2.2.2.1.length)]= [(0,0),(0,y8.1.2.2.2.1.length)]/\(n,str,g,Rr.1,Rr.2.1,Rr,n,str,g,n,Xw,Rr,Rr.1,Rr.2.1,n,str,g,([]:List Int),Sj.1.2.2.2.1,Sj.1.1,Sj.1.2.1,Sj.1.2.2.1,())=(n,str,g,y9.1,y9.2.1,y9,n,str,g,n,y7,y9,y9.1,y9.2.1,n,str,g,([]:List Int),y8.1.2.2.2.1,y8.1.1,y8.1.2.1,y8.1.2.2.1,PUnit.unit)
theorem Ar3 (b:List Int) (i h n:Int) (str:ByteArray) (g:List (List Int)) (P:((List Int×Int×Int×List Int×Unit)×Unit)->Prop):(∃(y7:List Int),Ow.fn (n,())=some y7/\ ∃(y8:PN),rq.fn (b,i,h,(2:Int),(8:Int),())=some y8/\ ∃(y9:List Int×Bool×PUnit),Rb.fn ((n,str,g,()),y7,List.take y8.1.2.2.2.1.length (List.drop 0 y8.1.2.2.2.1),())=some y9/\P ((y8.1.1,y8.1.2.1,y8.1.2.2.1,y9.1,()),())/\(∃(Xw:List Int),Ow.fn (n,())=some Xw/\(AP b i h n str g Xw y8 y9 y7))/\(∃(Xw:List Int),Ow.fn (n,())=some Xw/\(AP b i h n str g Xw y8 y9 y7))/\ ∃(Xw:List Int),Ow.fn (n,())=some Xw/\((AP b i h n str g Xw y8 y9 y7))/\(AP b i h n str g Xw y8 y9 y7))=fnMW (PQ [ed+4]) (look [(32,rq),(42,Ow),(34,Rb)]) yP Tryz.f12 (b,i,h,n,str,g,()) P:=by kernel_rfl
theorem VW (g:List (List Int)) (l:Int) (h:Hj (List.length g) l/\List.length g<=8/\ ∀p∈g,Kv p=true):fnW Fl (look [(163,Io)]) Kb Tryz.f131 (g,l,()) (λ(z:List Int)=>z=Ax g l):=by
 obtain ⟨hl,h8,hp⟩:=h
 refine Eq.mp (YA g l _) ?_
 obtain ⟨k,hk,rfl|rfl⟩:=Ql hl
 ·refine Br.dec (λhn=>by omega) λ_=>?_
  rw [Ct (by omega) (by omega),show (k:Int)+1-1=(k:Int) by omega]
  exact ⟨_,Bn hk,(Qn hk).symm⟩
 ·refine Br.dec (λ_=>?_) λhn=>by omega
  rw [Ct (n:=0- -((k:Int)+1)) (by omega) (by omega),Ct (by omega) (by omega),show (0:Int)- -((k:Int)+1)-1=(k:Int) by omega]
  have:=fS (hp _ (Am hk))
  exact ⟨_,Bn hk,_,Ab ⟨this.len,this.row⟩,(Qm hk).symm⟩
theorem wY:Sound Tryz.prog 131 Kb:=
 Sound.Gk Dl (Au lF Bl) mixed Tryz.func131 (by kernel_rfl) (by kernel_rfl) λx h=>VW x.1 x.2.1 h
theorem NW (n:Int) (g:List (List Int)) (w:List Int) (h: ∃p:PP,Ca p=true/\p.1=n/\p.2.2.1=g/\Fg (List.length g:Nat) w=true):fnW Fl (look [(96,Dy),(81,Il),(131,Kb)]) Mk Tryz.f82 (n,g,w,()) (λ(z:List Int)=>z=Cj g (upto n.toNat) w):=by
 obtain ⟨p,hv,rfl,rfl,hw⟩:=h
 have hV:=valid hv
 have hn:=hV.n
 have hf:=hV.p8
 obtain ⟨w1,w2⟩:=Nb hw
 refine Eq.mp (QJ p.1 p.2.2.1 w _) ⟨upto p.1.toNat,Ab ⟨by show 0<=p.1;omega,by show p.1<=20;omega⟩,?_⟩
 refine Bo w.length (λv=>v.2.1) (λj v=>v.1=Cj p.2.2.1 (upto p.1.toNat) (w.take j)) rfl rfl ?_
 rintro j ⟨q,i,⟨⟩⟩ K hj hi hR hK
 dsimp only at hi hR⊢
 subst hi hR
 have hq:=Zz hV (w.take j) _ (λl hl=>w2 l (De hl)) (Pm.id (n:=p.1.toNat) (by omega) (by omega))
 refine Br.dec (λhl=>?_) λhl=>?_
 ·have hl:j<w.length:=by omega
  have nY:=w2 _ (Am hl)
  have pH:=bw hV nY
  refine ⟨_,Bn hl,_,Ab ⟨nY,hf.2,hV.perm⟩,_,Ab ⟨uI hq,ov hq pH⟩,?_⟩
  rw [Bj (by omega)]
  exact hK hl _ rfl (m5 hl).symm
 ·have:j=w.length:=by omega
  subst this
  rw [Be]
theorem vA:Sound Tryz.prog 82 Mk:=
 Sound.Gk Dl (Au cz (Au dr (Au wY Bl))) mixed Tryz.func82 (by kernel_rfl) (by kernel_rfl) λx h=>NW x.1 x.2.1 x.2.2.1 h
theorem Abn (p:PP) (s w:List Int) (h:Gl p/\Ca p=true/\Pm p.1.toNat s/\Fg (List.length p.2.2.1:Nat) w=true):fnW Fl (look [(64,Og),(80,Jt),(81,Il),(82,Mk)]) Rb Tryz.f34 (p,s,w,()) (λ(z:List Int×Bool×Unit)=>z=uc p s w):=by
 obtain ⟨hp,hv,hs,hw⟩:=h
 have hV:=valid hv
 have hn:=hV.n
 have hf:=hV.p8
 obtain ⟨w1,w2⟩:=Nb hw
 have YL:=Pm.id (n:=p.1.toNat) (by omega) (by omega)
 have hq:=Zz hV w _ w2 YL
 refine Eq.mp (Ad9 p s w _) ⟨true,(Ab ⟨hp,al hs⟩).trans (Et some (Cx.2 ⟨hv,Ac0 hV hs⟩)),λhc=>(by cases hc),λ_=>⟨true,(Ab ⟨by show w.length<=4294967296;omega,by show (0:Int)<=((p.2.2.1.length:Nat):Int);omega,by show ((p.2.2.1.length:Nat):Int)<=4294967296;omega⟩).trans (Et some hw),λhc=>(by cases hc),λ_=>⟨_,Ab ⟨p,hv,rfl,rfl,hw⟩,_,Ab ⟨uI hs,ov hs hq⟩,?_⟩⟩⟩
 show (Aj s (Cj p.2.2.1 (upto p.1.toNat) w),true,())=uc p s w
 rw [iL hV hs w _ w2 YL,comp_id hs]
 rfl
theorem oH:Sound Tryz.prog 34 Rb:=
 Sound.Gk Dl (Au Xm (Au jP (Au dr (Au vA Bl)))) mixed Tryz.func34 (by kernel_rfl) (by kernel_rfl) λx h=>Abn x.1 x.2.1 x.2.2.1 h
theorem Aln {b:List Int} {i m:Int} (hd:eY b i) (h:Int) (hm:1<=m/\m<=8):pc (bR m) (ag b i h m).2.2=true:=by
 have hr:=gG hd hm.1 h
 have hc:bR m=m:=Ai (by omega)
 rw [hc]
 refine Cb ?_
 unfold ag
 dsimp only
 split<;>omega
theorem Ad6 {b:List Int} {m:Int} (hm:1<=m/\m<=8): ∀(k:Nat) (i h:Int) (w:List Int),eY b i->(∀y∈w,pc (bR m) y=true)->
  eY b (wGo b m k i h w).1/\(wGo b m k i h w).2.2.length=k+w.length/\ ∀y∈(wGo b m k i h w).2.2,pc (bR m) y=true
 |0,i,h,w,hd,hw=>⟨hd,by rw [wGo];exact (Bt _).symm,hw⟩
 |k+1,i,h,w,hd,hw=>by
  obtain ⟨h1,h2,h3⟩:=Ad6 hm k (ag b i h m).1 (ag b i h m).2.1 (w++ [(ag b i h m).2.2]) (TI hd h m) (λy hy=>by
   rcases Ba.1 hy with h4|h4
   ·exact hw y h4
   ·rw [Ad.1 h4];exact Aln hd h hm)
  rw [Aw,Bq] at h2
  rw [wGo]
  exact ⟨h1,by omega,h3⟩
theorem Ad4 {b:List Int} {i m k:Int} (hd:eY b i) (h:Int) (hm:1<=m/\m<=8) (hk:0<=k/\k<=20):Fg m (Vy b i h m k).2.2=true/\eY b (Vy b i h m k).1:=by
 have hr:=gG hd (show 1<=k+1 by omega) h
 obtain ⟨h1,h2,h3⟩:=Ad6 hm (dR b i h (k+1)).toNat (dI b i) (hN h) [] hd.next (λy hy=>by cases hy)
 refine ⟨Cx.2 ⟨Cb ?_,?_⟩,h1⟩
 ·show (wGo b m (dR b i h (k+1)).toNat (dI b i) (hN h) []).2.2.length<=200
  rw [h2,Gp]
  omega
 ·rw [Fm]
  refine List.any_eq_false.2 λy hy=>?_
  rw [h3 y hy]
  decide
theorem Aqc (b:List Int) (i h n:Int) (str:ByteArray) (g:List (List Int)) (hd:eY b i/\Gl (n,str,g,())/\Ca (n,str,g,())=true/\g.length=2):fnMW (PQ [ed+4]) (look [(32,rq),(42,Ow),(34,Rb)]) yP Tryz.f12 (b,i,h,n,str,g,()) (λ(z:(List Int×Int×Int×List Int×Unit)×Unit)=>z=((b,(oe b i h (n,str,g,())).1,(oe b i h (n,str,g,())).2.1,(oe b i h (n,str,g,())).2.2,()),())):=by
 obtain ⟨hd,hp,hv,h2⟩:=hd
 have hV:=valid hv
 have hn:1<=n/\n<=20:=hV.n
 obtain ⟨hw,KK⟩:=Ad4 hd h (m:=2) (k:=8) (by decide) (by decide)
 have hS:Ow.fn (n,())=some (upto n.toNat):=Ab hn
 have YL:Pm n.toNat (upto n.toNat):=Pm.id (by omega) (by omega)
 have hW:rq.fn (b,i,h,2,8,())=some ((b,(Vy b i h 2 8).1,(Vy b i h 2 8).2.1,(Vy b i h 2 8).2.2,()),()):=Ab ⟨hd,by show (1:Int)<=2/\(2:Int)<=8;decide,by show (0:Int)<=8;decide,by show (8:Int)<=20;decide⟩
 have hA:Rb.fn ((n,str,g,()),upto n.toNat,List.take (Vy b i h 2 8).2.2.length (List.drop 0 (Vy b i h 2 8).2.2),())=some (uc (n,str,g,()) (upto n.toNat) (Vy b i h 2 8).2.2):=by
  rw [Dj]
  exact Ab ⟨hp,hv,YL,by show Fg (g.length:Nat) _=true;rw [h2];exact hw⟩
 refine Eq.mp (Ar3 b i h n str g _) ⟨_,hS,_,hW,_,hA,?_⟩
 repeat' (first|exact ⟨rfl,rfl⟩|exact rfl|refine ⟨_,hS,?_⟩|refine ⟨_,hW,?_⟩|refine ⟨_,hA,?_⟩|refine ⟨?_,?_⟩)
theorem XA:Eu Tryz.prog 12 yP:=
 Eu.pb (PR [ed+4]) (Ic XB (Au oM (Au oH Bl))) mixed Tryz.func12 (by kernel_rfl) (by kernel_rfl) λx h=>Aqc x.1 x.2.1 x.2.2.1 x.2.2.2.1 x.2.2.2.2.1 x.2.2.2.2.2.1 h
structure Asc (n:Int) (o:List Int):Prop where
 asc:o.Pairwise (· < ·)
 row: ∀y∈o,0<=y/\y<n
theorem Asc.more {j:Int} {o:List Int} (h:Asc j o):Asc (j+1) o:=⟨h.asc,λy hy=>by have:=h.row y hy;omega⟩
theorem Asc.add {j:Int} {o:List Int} (h:Asc j o) (h0:0<=j):Asc (j+1) (o++ [j]):=by
 refine ⟨dV.2 ⟨h.asc,by simp,λa ha b hb=>?_⟩,λy hy=>?_⟩
 ·rw [Ad.1 hb];exact (h.row a ha).2
 ·rcases Ba.1 hy with h1|h1
  ·have:=h.row y h1;omega
  ·rw [Ad.1 h1];omega
theorem pM {n:Nat} {l:Int} (h:Hj n l):l∈Az n:=by
 obtain ⟨h0,h1,h2⟩:=h
 by_cases hp:0<l
 ·have:=(Vw (n:=n) (k:=(l-1).toNat) (by omega)).1
  rwa [show ((l-1).toNat:Int)+1=l by omega] at this
 ·have:=(Vw (n:=n) (k:=(-l-1).toNat) (by omega)).2
  rwa [show-(((-l-1).toNat:Int)+1)=l by omega] at this
theorem EF {p:PP} (hw:Db p=true): ∀(w s:List Int),(∀l∈w,Hj (List.length p.2.2.1) l)->s∈Al p->Cj p.2.2.1 s w∈Al p
 | [],s,_,hs=>hs
 |l::w,s,hl,hs=>EF hw w _ (λl' h=>hl l' (Ap _ h)) ((Oj hw).next s hs l (pM (hl l (by simp))))
theorem fg.whole {p:PP} (hp:fg p):Db p=true:=KF hp.valid hp.hi
theorem Alo {p:PP} (hp:fg p) {b:List Int} {i:Int} (hd:eY b i) (h:Int):eY b (oe b i h p).1/\(oe b i h p).2.2∈Al p:=by
 obtain ⟨hw,KK⟩:=Ad4 hd h (m:=2) (k:=8) (by decide) (by decide)
 have hw:Fg ((2:Nat):Int) (Vy b i h 2 8).2.2=true:=hw
 have h2:=(Nb hw).2
 rw [<-hp.two] at h2
 exact ⟨KK,EF hp.whole _ _ h2 (Vr hp.valid).2⟩
structure sI (p:PP) (ts:List TT):Prop where
 set:ud p ts=true
 p8:ts.length<=2
 short:Agg ts
 valid: ∀t∈ts,ue p t=true
theorem sI.add {p:PP} (hp:fg p) {ts:List TT} (h:sI p ts) {t:TT} (ht:ue p t=true):ud p (ts++ [t])=true:=by
 have:=h.p8
 refine Cx.2 ⟨Cx.2 ⟨hp.valid,Cb (by rw [Aw,Bq];omega)⟩,Bc.2 λt' qR=>?_⟩
 rcases Ba.1 qR with h4|h4
 ·exact h.valid t' h4
 ·rw [Ad.1 h4];exact ht
section
variable {p:PP} {ts:List TT} {s:List Int}
theorem fg.found (hp:fg p) (hs:s∈Al p):Gu p s=true:=Tf.2 ⟨hp.whole,hs⟩
theorem fg.Asz (hp:fg p) (hs:s∈Al p):jt p s=Lw (Al p) (Gh p) s:=Ab (hp.found hs)
end
section
variable {α β:Type}
end
section
variable {p:PP}
theorem JB (hv:Ca p=true):(Al p).Nodup:=(cp hv).nodup
end
theorem sub_eq {α:Type} [DecidableEq α] {l1 l2:List α} (hn:l1.Nodup) (hs: ∀x∈l1,x∈l2) (hl:l2.length<=l1.length): ∀x∈l2,x∈l1:= λx hx=>by
 refine Bp λh=>?_
 have:=aj (l1:=x::l1) (l2:=l2) (Cg.2 ⟨h,hn⟩) λy hy=>by
  rcases Bb.1 hy with rfl|hy
  ·exact hx
  ·exact hs y hy
 rw [Ay] at this
 omega
theorem SR: ∀(k:Nat) (R x:List Int),R.length=k->x.Perm R->x∈lex k R
 |0,R,x,hl,h=>by
  have h1:=h.length_eq
  have:x= []:=List.length_eq_zero_iff.1 (by omega)
  rw [this,lex]
  simp
 |k+1,R,[],hl,h=>by have:=h.length_eq;simp at this;omega
 |k+1,R,v::y,hl,h=>by
  have hv:v∈R:=h.mem_iff.1 (by simp)
  have h1:y.Perm (R.erase v):=(List.perm_cons v).1 (h.trans (List.perm_cons_erase hv))
  rw [lex]
  exact Gy.2 ⟨v,hv,Bf.2 ⟨y,SR k _ _ (by rw [Xr hv];omega) h1,rfl⟩⟩
theorem IE {n:Nat} {x:List Int} (h:Pm n x):x.Nodup:=by
 refine Fa.2 λi j hi hj kA e=>?_
 have h1:=h.1
 have:=h.inj (i:=i) (j:=j) (by omega) (by omega) (by unfold ap;rw [Ks hi,Ks hj,e])
 omega
theorem Ac1 {n:Nat} {x:List Int} (h:Pm n x) {v:Int} (hv:v∈x):0<=v/\v<n:=by
 obtain ⟨i,hi,rfl⟩:=Bg.1 hv
 have h1:=h.Wl (i:=i) (by have:=h.1;omega)
 rw [Ks hi] at h1
 omega
theorem Aga {n:Nat} {x:List Int} (h:Pm n x):x.Perm (upto n):=by
 refine (List.perm_ext_iff_of_nodup (IE h) (mV n)).2 λv=>⟨λhv=>?_,λhv=>?_⟩
 ·exact Mr.2 (Ac1 h hv)
 ·exact sub_eq (IE h) (λy hy=>Mr.2 (Ac1 h hy)) (by rw [Li,h.1];exact Aq _) v hv
theorem Al7 {n:Nat} {x:List Int} (h:Pm n x):x∈lex n (upto n):=SR _ _ _ (Li n) (Aga h)
theorem Alf {p:PP} (hv:Ca p=true) (h5:p.1<=5):(Al p).length<=120:=by
 have h1:=aj (l2:=lex p.1.toNat (upto p.1.toNat)) (JB hv) λx hx=>Al7 (hY hv hx)
 rw [SN _ _ (Li _)] at h1
 have h2: ∀k,k<=5->RH k<=120:=by decide
 have:=h2 p.1.toNat (by omega)
 omega
section
variable {n:Nat} {x y q r:List Int}
end
section
variable {p:PP}
end
section
variable {p:PP}
theorem Aej (hw:Db p=true) {s:List Int} (hs:s∈Al p):Lw (Al p) (Gh p) s<(Al p).length:=by
 have hb:=gm (Dd hw).1
 have hi:=Hm hs
 have hl:(Gh p).length=(Al p).length:=hb.len
 have h1:=hb.dep ((Al p).idxOf s) (by show _<(Gh p).length;omega)
 unfold Lw
 rw [Ab hs,Es (by omega)]
 have h2:(Gh p)[(Al p).idxOf s]'(by omega)<=((Al p).idxOf s:Nat):=h1.2
 omega
variable {t:List Int}
end
def zq (b:List Int):Prop:=b.length<=1048576/\ ∀y∈b,0<=y/\y<256
noncomputable abbrev OO:Spec:=Gk (.pair tB .unit) .bool false true (λx=>zq x.1) (λ_=>true)
theorem At0 {code:List Int} (h:zq code) (hb: ¬(code.length:Int)>4096):eY code 0:=⟨by omega,h.2,Kl _,by omega⟩
theorem xr {p:PP} (hv:Ca p=true): ∀(w s q:List Int),(∀l∈w,Hj (List.length p.2.2.1) l)->Pm p.1.toNat s->(∀y∈q,0<=y/\y<p.1)->Gq (Cj p.2.2.1 s w) q=Cj p.2.2.1 (Gq s q) w
 | [],_,_,_,_,_=>rfl
 |l::w,s,q,hl,hs,hq=>by
  have hn:=(valid hv).n
  have h1:=xr hv w (Aj s (Ax p.2.2.1 l)) q (λl' h=>hl l' (Ap _ h)) (hs.comp (bw (valid hv) (hl l (by simp)))) hq
  rw [No (λy hy=>by have:=hq y hy;have:=hs.1;omega)] at h1
  exact h1
theorem KG {n:Nat} {w:List Int} (h8:n<=8) (hl:w.length<=200) (h: ∀y∈w,Hj n y):Fg (n:Int) w=true:=by
 refine Cx.2 ⟨Cb hl,?_⟩
 cases e:List.any w λy=>!pc (bR (n:Int)) y with
 |false=>rfl
 |true=>
  obtain ⟨y,hy,h1⟩:=Eh.1 e
  have h2:=h y hy
  have:pc (bR (n:Int)) y=true:=by
   unfold Hj at h2
   have e8:bR (n:Int)=n:=Ai (by omega)
   rw [e8]
   exact Cb h2
  rw [this] at h1
  cases h1
variable {p:PP} {ts:List TT} {s:List Int}
theorem JT (p:Int×ByteArray×List (List Int)×Unit) (gs:List (List Int)) (s:List Int) (P:(List (List Int)×Bool×Unit)->Prop):(∃(y4:Option ((Int×ByteArray×List (List Int)×PUnit)×List (List Int)×List Int×(ByteArray->Option Int)×List Int×List Int×List (List Int)×PUnit)×Int×Bool×PUnit),Im.fn ((p.1,p.2.1,p.2.2.1,()),s,())=some y4/\Br (!y4.2.2.1) (P (List.take 0 (List.drop 0 []),false,())) (∃(y5:Bool),Em.fn ((p.1,p.2.1,p.2.2.1,()),gs,())=some y5/\Br (!y5) (P (List.take 0 (List.drop 0 []),false,())) (0=0/\0=([]:List Int).length/\Dn (λ(v6:Int×Int×List (List Int)×PUnit) (k7:Int×Int×List (List Int)×PUnit->Prop)=>Br (decide (v6.2.1<(↑gs.length:Int))) (∃(y8:List Int),idx gs v6.2.1=some y8/\ ∃(y9:List Int),Ia.fn (y4.1,y8,())=some y9/\ ∃(Xw:(List Int×Int×Bool×PUnit)×PUnit),Jj.fn (y4.1,y9,v6.1,())=some Xw/\Br (!Xw.1.2.2.1) (P (List.take 0 (List.drop 0 []),false,())) (0=0/\v6.2.2.1.length=v6.2.2.1.length/\v6.2.2.1.length+(List.take 1 (List.drop 0 [List.take Xw.1.1.length (List.drop 0 Xw.1.1)])).length<=Ea/\0=0/\(v6.2.2.1++List.take 1 (List.drop 0 [List.take Xw.1.1.length (List.drop 0 Xw.1.1)])).length=(v6.2.2.1++List.take 1 (List.drop 0 [List.take Xw.1.1.length (List.drop 0 Xw.1.1)])).length/\k7 (Xw.1.2.1,IntKind.i64.wrap (v6.2.1+(1:Int)),v6.2.2.1++List.take 1 (List.drop 0 [List.take Xw.1.1.length (List.drop 0 Xw.1.1)]),()))) (P (List.take v6.2.2.1.length (List.drop 0 v6.2.2.1),true,()))) (y4.2.1,(0:Int),[],PUnit.unit))))=fnW Fl (look [(59,Im),(44,Em),(98,Ia),(97,Jj)]) Vm Tryz.f43 (p,gs,s,()) P:=by kernel_rfl
theorem HU (p:PP) (gs:List (List Int)) (s:List Int) (h:Gl p/\Hi gs/\short s):fnW Fl (look [(59,Im),(44,Em),(98,Ia),(97,Jj)]) Vm Tryz.f43 (p,gs,s,()) (λ(z:List (List Int)×Bool×Unit)=>z=Kf p gs s):=by
 refine Eq.mp (JT p gs s _) ?_
 obtain ⟨hp,hg,hs⟩:=h
 refine ⟨_,Ab ⟨hp,hs⟩,?_⟩
 show Br (!(Kg p s).2.2.1) _ _
 rw [Yo]
 unfold Kf
 refine Br.of (λhf=>?_) λhf=>?_
 ·have hf:Gu p s=false:=Wo hf
  rw [hf,Cq,Ai (by decide)];rfl
 have hf:Gu p s=true:=by simpa using hf
 refine ⟨_,Ab ⟨hp,hg⟩,Br.of (λhm=>?_) λhm=>?_⟩
 ·have hm:Gx p gs=false:=Wo hm
  rw [hm,Bool.and_false,Ai (by decide)];rfl
 have hm:Gx p gs=true:=by simpa using hm
 obtain ⟨hw,Vv⟩:=Tf.1 hf
 rw [hf,hm,Bool.and_self,Ab rfl]
 have tG:=nT hm
 have hl5:=tG.1
 have hv:=(Dd hw).1
 have hex:Kg p s=(some (Ig p),(Mv p s).1,(Mv p s).2.1,()):=Ab hw
 dsimp only
 rw [hex]
 obtain ⟨R,hR⟩: ∃R,Dw p gs s=R:=⟨_,rfl⟩
 rw [hR]
 refine ⟨rfl,rfl,?_⟩
 dsimp only
 refine Bo gs.length (λv=>v.2.1) (λj v=> ∃x out,v=((Mv p x).1,(j:Int),out,())/\x∈Al p/\out.length=j/\out++Dw p (gs.drop j) x=R/\ ∀w∈out,w.length<=200) rfl ⟨s,[],rfl,Vv,rfl,by rw [Dr];exact hR,by simp⟩ ?_
 rintro j v K hj hi ⟨x,out,rfl,hx,ho,he,hfo⟩ hK
 dsimp only
 refine Br.dec (λhl=>?_) λhl=>?_
 ·have hl:j<gs.length:=by omega
  have ht:=tG.2 _ (Am hl)
  obtain ⟨e1,e2,e3⟩:=Tl hw ht hx
  obtain ⟨i1,i2,i3⟩:=SK hx
  rw [Cc hl] at he
  simp only [Dw] at he
  have wb:Ia.fn (some (Ig p),gs[j],())=some (Xc p gs[j]):=(Ab ⟨Ig p,rfl,⟨hw,rfl⟩,(Jo.1 ht).2⟩).trans (Et some (RO hw gs[j]))
  have hds:Jj.fn (some (Ig p),Xc p gs[j],(Mv p x).1,())=some (Of p (Xc p gs[j]) (Mv p x).1,()):=
   Ab ⟨Ig p,rfl,⟨hw,rfl⟩,tv hw ht,i1,by show (Mv p x).1<((Xc p gs[j]).length:Int);rw [tw hw];exact i2⟩
  rw [e3] at hds
  generalize Fq p gs[j] x=w at*
  generalize Xc p gs[j]=gd at*
  refine ⟨_,Bn hl,gd,wb,_,hds,?_⟩
  by_cases hc:w.length>200
  ·rw [Ab hc]
   have hnf: ¬aC R=true:= λhf=>by
    have:=Ul.1 hf w (by rw [<-he];simp)
    omega
   rw [Ai hnf]
   exact ⟨λ_=>rfl,λhb=>by simp at hb⟩
  ·rw [Ai hc]
   refine ⟨λhb=>by simp at hb,λ_=>⟨rfl,rfl,by show out.length+1<=4294967296;omega,rfl,rfl,?_⟩⟩
   rw [Bj (by omega)]
   dsimp only
   rw [Dj]
   refine hK hl _ rfl ⟨_,_,rfl,e1,by show (out++ [w]).length=_;rw [Aw,Bq,ho],by show (out++ [w])++_=_;rw [Bm];exact he,λw' jk=>?_⟩
   have jk:w'∈out++ [w]:=jk
   rw [Ba,Ad] at jk
   rcases jk with jk|rfl
   ·exact hfo w' jk
   ·omega
 ·have:j=gs.length:=by omega
  subst this
  rw [Fe] at he
  simp only [Dw,iH] at he
  subst he
  rw [Dj,Ab (Ul.2 hfo)]
theorem s6:Sound Tryz.prog 43 Vm:=
 Sound.Gk Dl (Au Rq (Au Lm (Au Xk (Ic Zw Bl)))) mixed Tryz.func43 (by kernel_rfl) (by kernel_rfl) λx h=>HU x.1 x.2.1 x.2.2.1 h
theorem Ade (code:List Int) (P:Bool->Prop):(∃(y2:Bool),yB.fn (code,())=some y2/\Br y2 (P true) (∃(y3:(List Int×Int×Int×PUnit)×PUnit),qd.fn (code,(1117:Int),())=some y3/\ ∃(y4:(List Int×Int×Int×Int×ByteArray×List (List Int)×PUnit)×PUnit),yO.fn (y3.1.1,y3.1.2.1,y3.1.2.2.1,())=some y4/\ ∃(y5:(List Int×Int×Int×List Int×PUnit)×PUnit),yP.fn (y4.1.1,y4.1.2.1,y4.1.2.2.1,y4.1.2.2.2.1,y4.1.2.2.2.2.1,List.take y4.1.2.2.2.2.2.1.length (List.drop 0 y4.1.2.2.2.2.2.1),())=some y5/\ ∃(y6:List Int),Ow.fn (y4.1.2.2.2.1,())=some y6/\ ∃(y7:(List Int×Int×Int×Int×PUnit)×PUnit),Mg.fn (y5.1.1,y5.1.2.1,y5.1.2.2.1,IntKind.i64.wrap (y4.1.2.2.2.1-(1:Int)),())=some y7/\((0:Int)<=(0:Int)/\(0:Int)<=IntKind.i64.wrap ((1:Int)+y7.1.2.2.2.1)/\IntKind.i64.wrap ((1:Int)+y7.1.2.2.2.1)<=(↑y6.length:Int))/\ ∃(y8:List (List Int)×Bool×PUnit),Vm.fn ((y4.1.2.2.2.1,y4.1.2.2.2.2.1,List.take y4.1.2.2.2.2.2.1.length (List.drop 0 y4.1.2.2.2.2.2.1),()),List.take 2 (List.drop 0 [List.drop (Int.toNat (0:Int)) (List.take (IntKind.i64.wrap ((1:Int)+y7.1.2.2.2.1)).toNat y6),y6]),y5.1.2.2.2.1,())=some y8/\Br (!y8.2.1) (P false) (∃(y9:Bool),Em.fn ((y4.1.2.2.2.1,y4.1.2.2.2.2.1,List.take y4.1.2.2.2.2.2.1.length (List.drop 0 y4.1.2.2.2.2.2.1),()),List.take 2 (List.drop 0 [List.drop (Int.toNat (0:Int)) (List.take (IntKind.i64.wrap ((1:Int)+y7.1.2.2.2.1)).toNat y6),y6]),())=some y9/\Br (!y9) (P false) (∃(Xw:Bool),Ng.fn ((y4.1.2.2.2.1,y4.1.2.2.2.2.1,List.take y4.1.2.2.2.2.2.1.length (List.drop 0 y4.1.2.2.2.2.2.1),()),List.take 2 (List.drop 0 [List.drop (Int.toNat (0:Int)) (List.take (IntKind.i64.wrap ((1:Int)+y7.1.2.2.2.1)).toNat y6),y6]),y5.1.2.2.2.1,y8.1,())=some Xw/\Br (!Xw) (P false) (∃(Sj:Bool),Ng.fn ((y4.1.2.2.2.1,y4.1.2.2.2.2.1,List.take y4.1.2.2.2.2.2.1.length (List.drop 0 y4.1.2.2.2.2.2.1),()),List.take 2 (List.drop 0 [List.drop (Int.toNat (0:Int)) (List.take (IntKind.i64.wrap ((1:Int)+y7.1.2.2.2.1)).toNat y6),y6]),y5.1.2.2.2.1,y8.1,())=some Sj/\Br (!Sj) (P false) (∃(Rr:Int),Zb.fn ((y4.1.2.2.2.1,y4.1.2.2.2.2.1,List.take y4.1.2.2.2.2.2.1.length (List.drop 0 y4.1.2.2.2.2.2.1),()),List.take 2 (List.drop 0 [List.drop (Int.toNat (0:Int)) (List.take (IntKind.i64.wrap ((1:Int)+y7.1.2.2.2.1)).toNat y6),y6]),y5.1.2.2.2.1,())=some Rr/\ ∃(il:List Int),idx y8.1 (0:Int)=some il/\ ∃(cJ:List Int),idx y8.1 (1:Int)=some cJ/\Br (Rr !=IntKind.i64.wrap ((↑il.length:Int)+(↑cJ.length:Int))) (P false) (∃(lS:Int),mK.fn ((y4.1.2.2.2.1,y4.1.2.2.2.2.1,List.take y4.1.2.2.2.2.2.1.length (List.drop 0 y4.1.2.2.2.2.2.1),()),y5.1.2.2.2.1,())=some lS/\Br (decide (Rr<lS)) (P false) (∃(gA:Int),Vk.fn ((y4.1.2.2.2.1,y4.1.2.2.2.2.1,List.take y4.1.2.2.2.2.2.1.length (List.drop 0 y4.1.2.2.2.2.2.1),()),List.take 2 (List.drop 0 [List.drop (Int.toNat (0:Int)) (List.take (IntKind.i64.wrap ((1:Int)+y7.1.2.2.2.1)).toNat y6),y6]),())=some gA/\Br (decide (Rr>gA)) (P false) (∃(DU:List Int),idx (List.take 2 (List.drop 0 [List.drop (Int.toNat (0:Int)) (List.take (IntKind.i64.wrap ((1:Int)+y7.1.2.2.2.1)).toNat y6),y6])) (0:Int)=some DU/\ ∃(z7:(List Int×Bool×PUnit)×PUnit),Sy.fn (y4.1.2.2.2.1,y4.1.2.2.2.2.1,List.take y4.1.2.2.2.2.2.1.length (List.drop 0 y4.1.2.2.2.2.2.1),DU,y5.1.2.2.2.1,())=some z7/\ ∃(y19:List Int×Bool×PUnit),Rb.fn ((y4.1.2.2.2.1,y4.1.2.2.2.2.1,List.take y4.1.2.2.2.2.2.1.length (List.drop 0 y4.1.2.2.2.2.2.1),()),y5.1.2.2.2.1,List.take z7.1.1.length (List.drop 0 z7.1.1),())=some y19/\Br z7.1.2.1 (Br y19.2.1 (∃(y20:List Int),idx y8.1 (0:Int)=some y20/\ ∃(QO:Bool),Vj.fn (List.take z7.1.1.length (List.drop 0 z7.1.1),y20,())=some QO/\Br QO (∃(y22:List Int),idx (List.take 2 (List.drop 0 [List.drop (Int.toNat (0:Int)) (List.take (IntKind.i64.wrap ((1:Int)+y7.1.2.2.2.1)).toNat y6),y6])) (0:Int)=some y22/\ ∃(y23:Bool),Ze.fn ((y4.1.2.2.2.1,y4.1.2.2.2.2.1,List.take y4.1.2.2.2.2.2.1.length (List.drop 0 y4.1.2.2.2.2.2.1),()),y22,y19.1,())=some y23/\Br y23 (∃(y24:Int),Vl.fn ((y4.1.2.2.2.1,y4.1.2.2.2.2.1,List.take y4.1.2.2.2.2.2.1.length (List.drop 0 y4.1.2.2.2.2.2.1),()),List.take 2 (List.drop 0 [List.drop (Int.toNat (0:Int)) (List.take (IntKind.i64.wrap ((1:Int)+y7.1.2.2.2.1)).toNat y6),y6]),y19.1,())=some y24/\P (decide (y24>=(1:Int)))) (P false)) (P false)) (P false)) (P false))))))))))=fnW (PQ [gi+4,jy]) (look [(8,yB),(9,qd),(10,yO),(12,yP),(42,Ow),(23,Mg),(43,Vm),(44,Em),(45,Ng),(46,Ng),(47,Zb),(13,mK),(48,Vk),(49,Sy),(34,Rb),(16,Vj),(50,Ze),(51,Vl)]) OO Tryz.f7 (code,()) P:=by kernel_rfl
section
variable {p:PP}
theorem yU (hw:Db p=true) {goal s:List Int} (ht:Gd p goal=true) (hs:s∈Al p):La goal (Cj p.2.2.1 s (Fq p goal s))=true:=by
 have hv:=(Dd hw).1
 have hb:=kF hw ht (uG hw ht s hs)
 have he:=RN hw ht hs
 have hi:=Hm hs
 have hsi:(Al p).getD ((Al p).idxOf s) []=s:=by rw [Es hi];exact Ud hi
 obtain ⟨_,_,j,_,e4,e5,e6⟩:=zt hw (tv hw ht) (ku hw ht) (see:= λx=>Gq x goal) (dep:=Kh p goal) (λx hx l _=>No (kG hv hx ht)) (λx hx=>RN hw ht hx)
  (Kh p goal (Gq s goal)).toNat ((Al p).idxOf s) [] hi (by rw [he];omega)
 rw [hsi] at e6
 obtain ⟨u,u1,u2⟩:=oP (g:=p.2.2.1) (dep:=Kh p goal) (ls:=Az p.2.2.1.length) (Kh p goal (Gq s goal)).toNat (Gq s goal) []
 have Av8:=(ku hw ht).zero _ (Nk e4)|>.1 (by rw [Mi (JB hv) e4];exact e5)
 have hg:Fq p goal s=u:=u1
 have nY: ∀l∈u,Hj (List.length p.2.2.1) l:= λl hl=>(Tl hw ht hs).2.1 l (by rw [hg];exact hl)
 have ha:=xr hv u s goal nY (hY hv hs) (λy hy=>by
  have:=du ht y hy
  have hn:=(valid hv).n
  omega)
 rw [hg]
 refine sat_iff.2 (ha.trans (u2.symm.trans (e6.symm.trans (sat_iff.1 Av8))))
theorem sY (hw:Db p=true): ∀(w s:List Int),(∀l∈w,l∈Az p.2.2.1.length)->s∈Al p->Lw (Al p) (Gh p) s<=w.length+Lw (Al p) (Gh p) (Cj p.2.2.1 s w)
 | [],s,_,_=>by
  show _<=((0:Nat):Int)+Lw (Al p) (Gh p) s
  omega
 |l::w,s,hl,hs=>by
  have p9:=hl l (Lg ..)
  have h1:=Lc.NB (Oj hw) (iZ hw) hs p9
  have h2:=sY hw w (Aj s (Ax p.2.2.1 l)) (λy hy=>hl y (Ap _ hy)) ((Oj hw).next s hs l p9)
  show Lw (Al p) (Gh p) s<=((w.length+1:Nat):Int)+Lw (Al p) (Gh p) (Cj p.2.2.1 (Aj s (Ax p.2.2.1 l)) w)
  omega
theorem BF {n:Nat} {s:List Int} (h:s.length=n):Gq s (upto n)=s:=by
 have:(upto n).map (Dp s)=s:=eZ (by rw [Dk,Li,h]) λi h1 h2=>by
  rw [Tn]
  have:(upto n)[i]'(by rw [Li];omega)=(i:Int):=by simp [upto]
  rw [this,Ks h2]
 exact this
theorem SY {n:Nat} {c:Nat} (h1:1<=c) (hc:c<=n):Ey (n:Int) ((upto n).take c)=true:=by
 have hl:((upto n).take c).length=c:=by rw [Dm,Li];omega
 refine (Mp ⟨by omega,λj hj _=>?_⟩).symm
 have e: ∀i (hi:i<((upto n).take c).length),((upto n).take c)[i]=(i:Int):= λi hi=>by
  have h2:=oX (n:=n) (i:=i) (by omega)
  have h3:((upto n).take c)[i]?=some (i:Int):=by rw [Cv,Ab (by omega),h2]
  rw [Ac hi] at h3
  exact Bd h3
 rw [e j hj]
 refine ⟨by omega,by omega,λh0=>?_⟩
 rw [e (j-1) (by omega)]
 omega
end
theorem Abr (code:List Int) (h:zq code):fnW (PQ [gi+4,jy]) (look [(8,yB),(9,qd),(10,yO),(12,yP),(42,Ow),(23,Mg),(43,Vm),(44,Em),(45,Ng),(46,Ng),(47,Zb),(13,mK),(48,Vk),(49,Sy),(34,Rb),(16,Vj),(50,Ze),(51,Vl)]) OO Tryz.f7 (code,()) (λ(z:Bool)=>z=true):=by
 refine Eq.mp (Ade code _) ⟨_,Ab trivial,Br.dec (λ_=>rfl) λhb=>?_⟩
 have hb: ¬(code.length:Int)>4096:=hb
 have hd0:=At0 h hb
 refine ⟨_,Ab (show code.length<=4096 by omega),_,Ab hd0,?_⟩
 obtain ⟨hp,hd1⟩:=PX hd0 (pP code 1117)
 obtain ⟨W,hW⟩: ∃W,aP code 0 (pP code 1117)=W:=⟨_,rfl⟩
 rw [hW] at hp hd1
 simp only [hW,Dj]
 obtain ⟨i1,h1,n,str,g,u⟩:=W
 obtain rfl:u=():=rfl
 dsimp only at hp hd1⊢
 have hs:=hp.short
 refine ⟨_,Ab ⟨hd1,hs,hp.valid,hp.two⟩,?_⟩
 obtain ⟨hd3,Qj⟩:=Alo hp hd1 h1
 obtain ⟨W,hW⟩: ∃W,oe code i1 h1 (n,str,g,())=W:=⟨_,rfl⟩
 rw [hW] at hd3 Qj
 simp only [hW]
 obtain ⟨i3,h3,s⟩:=W
 dsimp only at hd3 Qj⊢
 clear hW
 have hw:=hp.whole
 have hv:=hp.valid
 have hV:=valid hv
 have hss:short s:=al (hY hv Qj)
 have YN:3<=n:=hp.lo
 have hhi:n<=5:=hp.hi
 have hg8:g.length<=8:=hV.p8.2
 have en:IntKind.i64.wrap (n-1)=n-1:=Ct (by omega) (by omega)
 obtain ⟨r1,r2⟩:=gG hd3 (show (1:Int)<=n-1 by omega) h3
 obtain ⟨c,hc⟩: ∃c:Nat,1+dR code i3 h3 (n-1)=(c:Int):=Ci (by omega)
 have ec:IntKind.i64.wrap (1+dR code i3 h3 (n-1))=(c:Int):=by rw [Ct (by omega) (by omega),hc]
 have e6:Ow.fn (n,())=some (upto n.toNat):=Ab ⟨by show 1<=n;omega,by show n<=20;omega⟩
 have e7:Mg.fn (code,i3,h3,IntKind.i64.wrap (n-1),())=some ((code,dI code i3,hN h3,dR code i3 h3 (n-1),()),()):=by
  rw [en]
  exact Ab ⟨hd3,by show (1:Int)<=n-1;omega⟩
 obtain ⟨N,rfl⟩: ∃N:Nat,n=N:=Ci (by omega)
 rw [Ae] at e6
 have hAl:(upto N).length=N:=Li N
 obtain ⟨A,hA⟩: ∃A,upto N=A:=⟨_,rfl⟩
 obtain ⟨G,hG⟩: ∃G,(upto N).take c=G:=⟨_,rfl⟩
 have Aff:Ey (N:Int) G=true:=by rw [<-hG];exact SY (by omega) (by omega)
 have Aoe:Ey (N:Int) A=true:=by
  have:=SY (n:=N) (c:=N) (by omega) (Aq _)
  rw [Ta (by omega)] at this
  rwa [<-hA]
 have htG:Gd ((N:Int),str,g,()) G=true:=Jo.2 ⟨hv,Aff⟩
 have htA:Gd ((N:Int),str,g,()) A=true:=Jo.2 ⟨hv,Aoe⟩
 have hGl:G.length=c:=by rw [<-hG,Dm,hAl];omega
 have An2:A.length=N:=by rw [<-hA];exact hAl
 have FY:Gx ((N:Int),str,g,()) [G,A]=true:=by
  refine (Mp ⟨hv,⟨by show 1<=2;decide,by show 2<=5;decide⟩,λj hj=>?_,A,rfl,by rw [An2]⟩).symm
  match j,hj with
  |0,_=>exact λ_=>⟨Aff,λh1=>absurd h1 (by decide)⟩
  |1,_=>exact λ_=>⟨Aoe,λ_=>⟨by show G.length<A.length;omega,λx hx=>by
    have hx:x∈G:=hx
    show x∈A
    rw [<-hG] at hx
    rw [<-hA]
    exact De hx⟩⟩
  |k+2,hk=>exact absurd hk (by simp)
 have MC:=hp.found Qj
 have wa:=Alf hv hp.hi
 have zO: ∀(t x:List Int),Gd ((N:Int),str,g,()) t=true->x∈Al ((N:Int),str,g,())->(Fq ((N:Int),str,g,()) t x).length<=200:= λt x ht hx=>by
  have h1:=(eV hw ht hx).1
  have hdn:=(iZ hw).nn x hx
  have h2:=Aej hw hx
  have hle:Kh ((N:Int),str,g,()) t (Gq x t)<=((Lw (Al ((N:Int),str,g,())) (Gh ((N:Int),str,g,())) x).toNat:Int):=Lc.sub (Oj hw) (IB hw ht) (iZ hw) (λx _ e=>by rw [e,(Vr hv).1];exact Aan ht) (Lw (Al ((N:Int),str,g,())) (Gh ((N:Int),str,g,())) x).toNat x hx (by omega)
  omega
 obtain ⟨hx1,p9,_⟩:=Tl hw htG Qj
 have tT:=yU hw htG Qj
 have Aa8:=zO G s htG Qj
 have nZ:Dw ((N:Int),str,g,()) [G,A] s= [Fq ((N:Int),str,g,()) G s,Fq ((N:Int),str,g,()) A (Cj g s (Fq ((N:Int),str,g,()) G s))]:=rfl
 obtain ⟨w1,hw1⟩: ∃w1,Fq ((N:Int),str,g,()) G s=w1:=⟨_,rfl⟩
 have Ajf:=sY hw w1 s (λl hl=>pM (p9 l (by rw [hw1];exact hl))) Qj
 rw [hw1] at hx1 p9 tT Aa8 nZ
 have hx1:Cj g s w1∈Al ((N:Int),str,g,()):=hx1
 have tT:La G (Cj g s w1)=true:=tT
 have Ajf:Lw (Al ((N:Int),str,g,())) (Gh ((N:Int),str,g,())) s<=(w1.length:Int)+Lw (Al ((N:Int),str,g,())) (Gh ((N:Int),str,g,())) (Cj g s w1):=Ajf
 obtain ⟨s1,ca⟩: ∃s1,Cj g s w1=s1:=⟨_,rfl⟩
 rw [ca] at hx1 tT Ajf nZ
 obtain ⟨hx2,nd,_⟩:=Tl hw htA hx1
 have GA:=yU hw htA hx1
 have tQ:=zO A s1 htA hx1
 obtain ⟨w2,hw2⟩: ∃w2,Fq ((N:Int),str,g,()) A s1=w2:=⟨_,rfl⟩
 have Ajg:=sY hw w2 s1 (λl hl=>pM (nd l (by rw [hw2];exact hl))) hx1
 rw [hw2] at hx2 nd GA tQ nZ
 have hx2:Cj g s1 w2∈Al ((N:Int),str,g,()):=hx2
 have GA:La A (Cj g s1 w2)=true:=GA
 have Au5:Cj g s1 w2=upto N:=by
  have h1:=sat_iff.1 GA
  have h2:=BF (n:=N) (s:=Cj g s1 w2) (hY hv hx2).1
  rw [<-hA,h2] at h1
  exact h1
 have hd2:Lw (Al ((N:Int),str,g,())) (Gh ((N:Int),str,g,())) (Cj g s1 w2)=0:=((iZ hw).zero _ hx2).2 (by
  rw [(Vr hv).1]
  exact Au5)
 have Ajg:Lw (Al ((N:Int),str,g,())) (Gh ((N:Int),str,g,())) s1<=(w2.length:Int)+Lw (Al ((N:Int),str,g,())) (Gh ((N:Int),str,g,())) (Cj g s1 w2):=Ajg
 rw [hd2] at Ajg
 have hGs:short G:=by show G.length<=4294967296;omega
 have hAs:short A:=by show A.length<=4294967296;omega
 have hGA:Hi [G,A]:=⟨by show 2<=4294967296;decide,λr hr=>by
  rcases Bb.1 hr with rfl|hr
  ·exact hGs
  ·rw [Ad.1 hr];exact hAs⟩
 have Akg:short w1:=by show w1.length<=4294967296;omega
 have Avr:short w2:=by show w2.length<=4294967296;omega
 have hWW:Hi [w1,w2]:=⟨by show 2<=4294967296;decide,λr hr=>by
  rcases Bb.1 hr with rfl|hr
  ·exact Akg
  ·rw [Ad.1 hr];exact Avr⟩
 have FW:aC [w1,w2]=true:=Ul.2 λw jk=>by
  rcases Bb.1 jk with rfl|jk
  ·exact Aa8
  ·rw [Ad.1 jk];exact tQ
 have hfm:(Gu ((N:Int),str,g,()) s&&Gx ((N:Int),str,g,()) [G,A])=true:=Cx.2 ⟨MC,FY⟩
 have hby:Kf ((N:Int),str,g,()) [G,A] s=([w1,w2],true,()):=by
  unfold Kf
  rw [Ab hfm,nZ,Ab FW]
 have hv1:Fg (g.length:Nat) w1=true:=KG hg8 Aa8 p9
 have hv2:Fg (g.length:Nat) w2=true:=KG hg8 tQ nd
 have e8:Vm.fn (((N:Int),str,g,()),[G,A],s,())=some ([w1,w2],true,()):=(Ab ⟨hs,hGA,hss⟩).trans (Et some hby)
 have e9:Em.fn (((N:Int),str,g,()),[G,A],())=some true:=(Ab ⟨hs,hGA⟩).trans (Et some FY)
 have e10:Ng.fn (((N:Int),str,g,()),[G,A],s,[w1,w2],())=some true:=(Ab ⟨hs,hGA,hss,hWW⟩).trans (Et some (by
  show (Gu ((N:Int),str,g,()) s&&Gx ((N:Int),str,g,()) [G,A]&&decide (2=2)&&(Fg (List.length g:Nat) w1&&(La G (Cj g s w1)&&(Fg (List.length g:Nat) w2&&(La A (Cj g (Cj g s w1) w2)&&true)))))=true
  rw [ca,MC,FY,hv1,tT,hv2,GA]
  rfl))
 have Aoz:Ih [w1,w2]=(w1.length:Int)+w2.length:=by
  show ((w1.length+(w2.length+0):Nat):Int)=_
  omega
 have e12:Zb.fn (((N:Int),str,g,()),[G,A],s,())=some ((w1.length:Int)+w2.length):=(Ab ⟨hs,hGA,hss⟩).trans (Et some (by
  show eH ((N:Int),str,g,()) [G,A] s=_
  unfold eH
  rw [hby,Ab rfl,Aoz]))
 have e15:mK.fn (((N:Int),str,g,()),s,())=some (Lw (Al ((N:Int),str,g,())) (Gh ((N:Int),str,g,())) s):=(Ab ⟨hs,hss⟩).trans (Et some (hp.Asz Qj))
 obtain ⟨M,hM⟩: ∃M,eG ((N:Int),str,g,()) [G,A]=M:=⟨_,rfl⟩
 have e16:Vk.fn (((N:Int),str,g,()),[G,A],())=some M:=(Ab ⟨hs,hGA⟩).trans (Et some hM)
 have Atf:(w1.length:Int)+w2.length<=M:=by
  have Le:(List.all (Al ((N:Int),str,g,())) λs=>aC (Dw ((N:Int),str,g,()) [G,A] s))=true:=Bc.2 λx hx=>Ul.2 λw jk=>by
   have jk:w∈ [Fq ((N:Int),str,g,()) G x,Fq ((N:Int),str,g,()) A (Cj g x (Fq ((N:Int),str,g,()) G x))]:=jk
   rcases Bb.1 jk with rfl|jk
   ·exact zO G x htG hx
   ·rw [Ad.1 jk]
    exact zO A _ htA (Tl hw htG hx).1
  rw [<-hM]
  unfold eG
  rw [Ab (Cx.2 ⟨hw,FY⟩),Ab Le,<-Aoz,<-nZ]
  exact Ab7 (Bf.2 ⟨s,Qj,rfl⟩)
 have Avg:bh ((N:Int),str,g,()) G s=(w1,true,()):=by
  unfold bh GU
  rw [Ab (Cx.2 ⟨MC,Aff⟩),hw1,Ai (by omega)]
 have e18:Sy.fn ((N:Int),str,g,G,s,())=some ((w1,true,()),()):=(Ab ⟨hs,hGs,hss⟩).trans (Et some (by
  show (((bh ((N:Int),str,g,()) G s).1,(bh ((N:Int),str,g,()) G s).2.1,()),())=_
  rw [Avg]))
 have e19:Rb.fn (((N:Int),str,g,()),s,w1,())=some (s1,true,()):=(Ab ⟨hs,hv,hY hv Qj,hv1⟩).trans (Et some (by
  show (Cj g s w1,true,())=_
  rw [ca]))
 have e21:Vj.fn (w1,w1,())=some true:=(Ab ⟨Akg,Akg⟩).trans (Et some (Cb rfl))
 have Aos:short s1:=al (hY hv hx1)
 have e23:Ze.fn (((N:Int),str,g,()),G,s1,())=some true:=(Ab ⟨hs,hGs,Aos⟩).trans (Et some (by
  show (Gu ((N:Int),str,g,()) s1&&Ey (N:Int) G&&La G s1)=true
  rw [hp.found hx1,Aff,tT]
  rfl))
 have e24:Vl.fn (((N:Int),str,g,()),[G,A],s1,())=some ((([G,A].countP λg=>La g s1):Nat):Int):=(Ab ⟨hs,hGA,Aos⟩).trans (Et some (Ab (Cx.2 ⟨hp.found hx1,FY⟩)))
 have Azv:1<=([G,A].countP λg=>La g s1):=List.countP_pos_iff.2 ⟨G,by simp,tT⟩
 have hAG:A.take c=G:=by rw [<-hA];exact hG
 refine ⟨_,e6,_,e7,?_⟩
 simp only [ec,Ae,Int.toNat_zero,Dr,List.take_succ_cons,List.take_zero,hA,hAG,An2]
 refine ⟨⟨by omega,by omega,by omega⟩,?_⟩
 refine ⟨_,e8,Br.of (λhh=>by cases hh) λ_=>⟨_,e9,Br.of (λhh=>by cases hh) λ_=>⟨_,e10,Br.of (λhh=>by cases hh) λ_=>⟨_,e10,Br.of (λhh=>by cases hh) λ_=>⟨_,e12,w1,rfl,w2,rfl,Br.of (λhh=>?_) λ_=>⟨_,e15,Br.dec (λhh=>absurd hh (Int.not_lt.2 (by omega))) λ_=>⟨_,e16,Br.dec (λhh=>absurd hh (Int.not_lt.2 Atf)) λ_=>⟨G,rfl,_,e18,?_⟩⟩⟩⟩⟩⟩⟩⟩
 ·have ew:IntKind.i64.wrap ((w1.length:Int)+(w2.length:Int))=(w1.length:Int)+(w2.length:Int):=Ct (by omega) (by omega)
  rw [ew] at hh
  simp at hh
 refine ⟨_,e19,Br.of (λ_=>Br.of (λ_=>⟨w1,rfl,_,e21,Br.of (λ_=>⟨G,rfl,_,e23,Br.of (λ_=>⟨_,e24,Cb ?_⟩) λhh=>by cases hh⟩) λhh=>by cases hh⟩) λhh=>by cases hh) λhh=>by cases hh⟩
 show (1:Int)<=_
 omega
theorem CC:Sound Tryz.prog 7 OO:=
 Sound.Gk (PR [gi+4,jy]) (Au WJ (Ic PB (Ic WZ (Ic XA (Au oM (Ic dm (Au s6 (Au Lm (Au oO (Au oJ (Au oI (Au OW (Au vn (Ic s7 (Au oH (Au vq (Au oK (Au mN Bl)))))))))))))))))) mixed Tryz.func7 (by kernel_rfl) (by kernel_rfl) λx h=>Abr x.1 h
end Go.Proofs.YtkkdpknjohcekaaGreat
