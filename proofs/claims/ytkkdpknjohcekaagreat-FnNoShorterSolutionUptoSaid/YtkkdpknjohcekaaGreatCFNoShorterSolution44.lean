/-
  Part 45 of the proof that the statement FnNoShorterSolution holds.
-/
import Derived.Test.YtkkdpknjohcekaaGreatCFNoShorterSolution43
namespace Go.Proofs.YtkkdpknjohcekaaGreat
open Go.RowKit
section
variable {Q:List Int->Prop} {code:List Int->Nat} {B:Nat}
theorem XL (inj: ∀x y,Q x->Q y->code x=code y->x=y) (lt: ∀x,Q x->code x<B) {L:List (List Int)} (hQ: ∀y∈L,Q y) (hn:L.Nodup):L.length<=B:=by
 have h1:(L.map code).Nodup:=by
  unfold List.Nodup
  rw [List.pairwise_map]
  exact List.Pairwise.imp_of_mem (λha hb Jr he=>Jr (inj _ _ (hQ _ ha) (hQ _ hb) he)) hn
 have h2:=u6 h1 (l2:=List.range B) λx hx=>by
  obtain ⟨y,hy,rfl⟩:=Bi.1 hx
  exact Dl.2 (lt y (hQ y hy))
 simpa using h2
theorem mc (hB:B<3000) (inj: ∀x y,Q x->Q y->code x=code y->x=y) (lt: ∀x,Q x->code x<B) {g:List (List Int)} {x:List Int} {d:Int} :
  ∀(ls:List Int) (L:List (List Int)) (D:List Int),(∀l∈ls,Q (Ag x (An g l)))->(∀y∈L,Q y)->L.Nodup->
   (Jh g x d ls L D).2.2=true/\(∀y∈(Jh g x d ls L D).1,Q y)/\(Jh g x d ls L D).1.Nodup
 | [],L,D,_,hQ,hn=>⟨rfl,hQ,hn⟩
 |l::ls,L,D,hl,hQ,hn=>by
  have Mc: ∀l∈ls,Q (Ag x (An g l)):= λl h=>hl l (Ao _ h)
  rw [Jh]
  split
  ·exact mc hB inj lt ls L D Mc hQ hn
  ·rename_i hni
   have:=XL inj lt hQ hn
   rw [Ai (by omega)]
   refine mc hB inj lt ls _ _ Mc (λy hy=>?_) ?_
   ·rcases Bb.1 hy with h|h
    ·exact hQ y h
    ·rw [Ad.1 h];exact hl l (by simp)
   ·rw [Du]
    exact ⟨hn,by simp,λa ha b hb e=>hni (by rw [Ad.1 hb] at e;rw [<-e];exact ha)⟩
theorem sJ (hB:B<3000) (inj: ∀x y,Q x->Q y->code x=code y->x=y) (lt: ∀x,Q x->code x<B) {g:List (List Int)} {ls:List Int} (step: ∀x,Q x-> ∀l∈ls,Q (Ag x (An g l))):
  ∀(f k:Nat) (L:List (List Int)) (D:List Int),(∀y∈L,Q y)->L.Nodup->(Ks g ls f k L D).2.2=true
 |0,_,_,_,_,_=>rfl
 |f+1,k,L,D,hQ,hn=>by
  rw [Ks]
  split
  ·rename_i hk
   have hx:Q (L.getD k []):=by
    rw [Aj,Ac hk]
    exact hQ _ (Ak hk)
   obtain ⟨h1,h2,h3⟩:=mc hB inj lt (d:=D.getD k 0) ls L D (step _ hx) hQ hn
   generalize Jh g (L.getD k []) (D.getD k 0) ls L D=r at h1 h2 h3
   obtain ⟨L',D',b⟩:=r
   have h1:b=true:=h1
   subst h1
   exact sJ hB inj lt step f (k+1) L' D' h2 h3
  ·rfl
theorem CY (hB:B<3000) (inj: ∀x y,Q x->Q y->code x=code y->x=y) (lt: ∀x,Q x->code x<B) {g:List (List Int)} {s:List Int} (hs:Q s)
  (step: ∀x,Q x-> ∀l∈Av g.length,Q (Ag x (An g l))):(Gq g s).2.2=true:=
 sJ hB inj lt step _ _ _ _ (λy hy=>by rw [Ad.1 hy];exact hs) (by simp)
end
def xh (x:List Int):Nat:=(Ih x 0+5*Ih x 1+25*Ih x 2+125*Ih x 3).toNat
theorem ED {x:List Int} {k:Nat} (h:x.length<=k):Ih x (k:Int)=0:=by
 unfold Ih
 rw [Au,Aj,Dm h]
 rfl
theorem Qx {n:Nat} {x:List Int} (hn:n<=5) (h:Pm n x) (k:Nat):0<=Ih x (k:Int)/\Ih x (k:Int)<5:=by
 by_cases hk:k<n
 ·have:=h.aq hk
  omega
 ·rw [ED (by rw [h.1];omega)]
  decide
theorem MJ {n:Nat} {x:List Int} (hn:n<=5) (h:Pm n x):xh x<625:=by
 have h0:=Qx hn h 0
 have h1:=Qx hn h 1
 have h2:=Qx hn h 2
 have h3:=Qx hn h 3
 simp only [Int.natCast_zero] at h0
 unfold xh
 have e1:((1:Nat):Int)=1:=rfl
 have e2:((2:Nat):Int)=2:=rfl
 have e3:((3:Nat):Int)=3:=rfl
 rw [e1] at h1;rw [e2] at h2;rw [e3] at h3
 omega
theorem GU {n:Nat} (hn:n<=5) (x y:List Int) (hx:Pm n x) (hy:Pm n y) (e:xh x=xh y):x=y:=by
 have e1:((1:Nat):Int)=1:=rfl
 have e2:((2:Nat):Int)=2:=rfl
 have e3:((3:Nat):Int)=3:=rfl
 have a0:=Qx hn hx 0
 have a1:=Qx hn hx 1
 have a2:=Qx hn hx 2
 have a3:=Qx hn hx 3
 have b0:=Qx hn hy 0
 have b1:=Qx hn hy 1
 have b2:=Qx hn hy 2
 have b3:=Qx hn hy 3
 simp only [Int.natCast_zero] at a0 b0
 rw [e1] at a1 b1;rw [e2] at a2 b2;rw [e3] at a3 b3
 unfold xh at e
 have low: ∀i:Nat,i<4->Ih x (i:Int)=Ih y (i:Int):=by
  intro i hi
  match i,hi with
  |0,_=>simp only [Int.natCast_zero];omega
  |1,_=>rw [e1];omega
  |2,_=>rw [e2];omega
  |3,_=>rw [e3];omega
 have Anp: ∀i,i<4->ap x i=ap y i:= λi hi=>by unfold ap;rw [low i hi]
 refine hx.ext hy λi hi=>?_
 by_cases h4:i<4
 ·exact Anp i h4
 ·obtain ⟨j,hj,hjx⟩:=hy.TN (hx.lt hi)
  by_cases hj4:j<4
  ·rw [<-Anp j hj4] at hjx
   have:=hx.inj hj hi hjx
   omega
  ·have:j=i:=by omega
   rw [this] at hjx
   exact hjx.symm
theorem IT {p:PP} (hv:Bt p=true) (h5:p.1<=5):Gp p=true:=by
 have hV:=valid hv
 have hn:=hV.n
 refine Bj.2 ⟨hv,CY (Q:=Pm p.1.toNat) (code:=xh) (B:=625) (by decide) (GU (by omega)) (λx hx=>MJ (by omega) hx) (Pm.id (by omega) (by omega)) λx hx l hl=>?_⟩
 exact hx.comp (kD hV (Kt hl))
def WW (n:Int) (m:Nat) (x:List Int):Prop:=x.length=m/\ ∀y∈x,0<=y/\y<n
theorem fY {n:Int} {m:Nat} {x:List Int} (hn:n<=5) (h:WW n m x) (k:Nat):0<=Ih x (k:Int)/\Ih x (k:Int)<5:=by
 by_cases hk:k<x.length
 ·have:=h.2 _ (Ak hk)
  rw [La hk]
  omega
 ·rw [ED (by omega)]
  decide
def xg (x:List Int):Nat:=(Ih x 0+5*Ih x 1+25*Ih x 2).toNat
theorem GQ {n:Int} {m:Nat} {x:List Int} (hn:n<=5) (h:WW n m x):xg x<125:=by
 have h0:=fY hn h 0
 have h1:=fY hn h 1
 have h2:=fY hn h 2
 simp only [Int.natCast_zero] at h0
 have e1:((1:Nat):Int)=1:=rfl
 have e2:((2:Nat):Int)=2:=rfl
 rw [e1] at h1;rw [e2] at h2
 unfold xg
 omega
theorem zN {n:Int} {m:Nat} (hn:n<=5) (hm:m<=3) (x y:List Int) (hx:WW n m x) (hy:WW n m y) (e:xg x=xg y):x=y:=by
 have e1:((1:Nat):Int)=1:=rfl
 have e2:((2:Nat):Int)=2:=rfl
 have a0:=fY hn hx 0
 have a1:=fY hn hx 1
 have a2:=fY hn hx 2
 have b0:=fY hn hy 0
 have b1:=fY hn hy 1
 have b2:=fY hn hy 2
 simp only [Int.natCast_zero] at a0 b0
 rw [e1] at a1 b1;rw [e2] at a2 b2
 unfold xg at e
 have low: ∀i:Nat,i<3->Ih x (i:Int)=Ih y (i:Int):=by
  intro i hi
  match i,hi with
  |0,_=>simp only [Int.natCast_zero];omega
  |1,_=>rw [e1];omega
  |2,_=>rw [e2];omega
 refine fe (by rw [hx.1,hy.1]) λi h1 h2=>?_
 have:=low i (by rw [hx.1] at h1;omega)
 rwa [La h1,La h2] at this
theorem UF {p:PP} {t:List Int} (hv:Bt p=true) (h5:p.1<=5) (ht:Qc p.1 t=true) (h3:t.length<=3):Gm p t=true:=by
 have hV:=valid hv
 have hn:=hV.n
 obtain ⟨_,hp⟩:=Iq.1 ht
 refine Bj.2 ⟨Bj.2 ⟨hv,ht⟩,CY (Q:=WW p.1 t.length) (code:=xg) (B:=125) (by decide) (zN (by omega) h3) (λx hx=>GQ (by omega) hx) ⟨rfl,λy hy=>?_⟩ λx hx l hl=>?_⟩
 ·obtain ⟨j,hj,rfl⟩:=Bf.1 hy
  have:=hp j hj hj
  omega
 ·obtain ⟨n1,n2⟩:=sf hV hx.2 (Kt hl)
  exact ⟨by rw [n1,hx.1],n2⟩
theorem DE {p:PP} {t:List Int} (h:Gm p t=true):Gs p (Gc p t)=true:=by
 have e:(Gc p t).1=t:=by unfold Gc;rw [Ab h]
 unfold Gs
 rw [e,h,LI]
 rfl
theorem Aet {n a c:Nat} {mv:List Int} (h:Pm n mv) (ha:a<n) (hc:c<n):Pm n ((mv.set a (Ih mv (c:Int))).set c (Ih mv (a:Int))):=by
 have hA:=(h.aq ha).1
 have hC:=(h.aq hc).1
 refine Pm.of (by simp only [Df];exact h.1) h.n1 h.n2 (λk=>if k=c then ap mv a else if k=a then ap mv c else ap mv k) (λi hi=>?_) λi j hi hj e=>?_
 ·rw [Ei,Ei,Df,h.1]
  by_cases h1:c=i
  ·rw [Ab h1,Ab hc,Ab (show i=c from h1.symm)]
   exact ⟨by rw [hA],h.lt ha⟩
  ·rw [Ai h1,Ai (show ¬i=c from λe=>h1 e.symm)]
   by_cases h2:a=i
   ·rw [Ab h2,Ab ha,Ab (show i=a from h2.symm)]
    exact ⟨by rw [hC],h.lt hc⟩
   ·rw [Ai h2,Ai (show ¬i=a from λe=>h2 e.symm)]
    have kR:i<mv.length:=by rw [h.1];exact hi
    have:=(h.aq hi).1
    rw [La kR] at this
    rw [Ac kR,this]
    exact ⟨rfl,h.lt hi⟩
 ·by_cases i1:i=c
  ·rw [Ab i1] at e
   by_cases j1:j=c
   ·rw [i1,j1]
   ·rw [Ai j1] at e
    by_cases j2:j=a
    ·rw [Ab j2] at e
     have:=h.inj ha hc e
     rw [i1,j2,this]
    ·rw [Ai j2] at e
     exact absurd (h.inj ha hj e).symm j2
  ·rw [Ai i1] at e
   by_cases i2:i=a
   ·rw [Ab i2] at e
    by_cases j1:j=c
    ·rw [Ab j1] at e
     have:=h.inj hc ha e
     rw [i2,j1,this]
    ·rw [Ai j1] at e
     by_cases j2:j=a
     ·rw [i2,j2]
     ·rw [Ai j2] at e
      exact absurd (h.inj hc hj e).symm j1
   ·rw [Ai i2] at e
    by_cases j1:j=c
    ·rw [Ab j1] at e
     exact absurd (h.inj hi ha e) i2
    ·rw [Ai j1] at e
     by_cases j2:j=a
     ·rw [Ab j2] at e
      exact absurd (h.inj hi hc e) i1
     ·rw [Ai j2] at e
      exact h.inj hi hj e
theorem yp {b:List Int} {n:Int} (hn:1<=n): ∀(k:Nat) (i h:Int) (mv:List Int),Xl b i->Pm n.toNat mv->Pm n.toNat (gB b n k i h mv).2.2
 |0,_,_,_,_,hm=>hm
 |k+1,i,h,mv,hd,hm=>by
  have r1:=cJ hd hn h
  have r2:=cJ hd.next hn (hN h)
  rw [gB]
  refine yp hn k _ _ _ hd.next.next ?_
  have:=Aet hm (a:=(dR b i h n).toNat) (c:=(dR b (dI b i) (hN h) n).toNat) (by omega) (by omega)
  rw [gI r1.1,gI r2.1] at this
  exact this
theorem FP {b:List Int} {n:Int} (hn:1<=n) (hn2:n<=20): ∀(k:Nat) (i h:Int) (ms:List (List Int)),Xl b i->(∀m∈ms,Pm n.toNat m)-> ∀m∈(aL b n k i h ms).2.2,Pm n.toNat m
 |0,_,_,_,_,hm=>hm
 |k+1,i,h,ms,hd,hm=>by
  rw [aL]
  refine FP hn hn2 k _ _ _ (tY hd h) λm hmm=>?_
  rcases Bb.1 hmm with h1|h1
  ·exact hm m h1
  ·rw [Ad.1 h1]
   exact yp hn _ _ _ _ hd.next (Pm.id (by omega) (by omega))
theorem ZY:br Aa0=true:=by
 refine Iq.2 ⟨by decide,λj hj=>?_⟩
 have hj:j<2:=hj
 match j,hj with
 |0,_=>exact ⟨65,rfl,by decide,by decide,λk hk=>by omega⟩
 |1,_=>exact ⟨66,rfl,by decide,by decide,λk hk=>(by have e:k=0:=(by omega);rw [e];decide)⟩
structure Wb (p:PP):Prop where
 valid:Bt p=true
 two:p.2.2.1.length=2
 lo:3<=p.1
 hi:p.1<=5
 short:Eo p
theorem OC {b:List Int} {i:Int} (hd:Xl b i) (h:Int):Wb (aK b i h).2.2/\Xl b (aK b i h).1:=by
 have hr:=cJ hd (show (1:Int)<=3 by decide) h
 obtain ⟨n,hn⟩: ∃n,3+dR b i h 3=n:=⟨_,rfl⟩
 have h2:=QS b n 2 (dI b i) (hN h) []
 have h3:=FP (b:=b) (n:=n) (by omega) (by omega) 2 (dI b i) (hN h) [] hd.next (λm hm=>by cases hm)
 have h4:=QR n 2 (dI b i) (hN h) [] hd.next
 unfold aK
 rw [hn]
 generalize aL b n 2 (dI b i) (hN h) []=R at h2 h3 h4
 obtain ⟨i',h',ms⟩:=R
 dsimp only at h2 h3 h4⊢
 simp only [Ex,En] at h2
 refine ⟨⟨Iq.2 ⟨Iq.2 ⟨⟨by show 1<=n;omega,by show n<=20;omega⟩,by show ms.length<=8;omega,λm hm=>?_⟩,ZY,by show 2=ms.length;omega⟩,h2,by show 3<=n;omega,by show n<=5;omega,⟨by show 2<=4294967296;decide,by show ms.length<=4294967296;omega,λm hm=>?_⟩⟩,h4⟩
 ·have:=h3 m hm
  have h5:=this.1
  exact Iq.2 ⟨by omega,xE this.2⟩
 ·exact jz (h3 m hm)
noncomputable def tT (p:PP) (s w:List Int):List Int×Bool×Unit:=(Je p.2.2.1 s w,true,())
noncomputable abbrev ae:Spec:=Gw (.pair Hq (.pair tL (.pair tL .unit))) (.pair tL (.pair .bool .unit)) true true (λx=>Eo x.1/\Bt x.1=true/\Pm x.1.1.toNat x.2.1/\Is (List.length x.1.2.2.1:Nat) x.2.2.1=true) (λx=>tT x.1 x.2.1 x.2.2.1)
noncomputable def o0 (b:List Int) (i h:Int) (p:PP):Int×Int×List Int:=((Vl b i h 2 8).1,(Vl b i h 2 8).2.1,(tT p (upto p.1.toNat) (Vl b i h 2 8).2.2).1)
noncomputable def wL (b:List Int) (p:PP):Nat->Int->Int->List TT->Int×Int×List TT
 |0,i,h,o=>(i,h,o)
 |k+1,i,h,o=>wL b p k (Nq b i h p.1).1 (Nq b i h p.1).2.1 (o++ [Gc p (Nq b i h p.1).2.2])
noncomputable def Yn (b:List Int) (i h:Int) (p:PP):Int×Int×List TT:=wL b p (dR b i h 3).toNat (dI b i) (hN h) []
noncomputable abbrev Anl:MSpec:= {ptr:=some (69,3),Jb:= [some 3],ins:= [(false, .Ec tB),(false, .Ec tI),(false, .Ec JA),(false, .Ec tI),(false, .Ec .str),(false, .Ec lO)],Ht:=false,Hp:= [none],outs:= [.Ec tB, .Ec tI, .Ec JA, .Ec tL],fn:= λ_=>none}
noncomputable abbrev yh:MSpec:=gX Anl (λx=>Xl x.1 x.2.1/\Eo (x.2.2.2.1,x.2.2.2.2.1,x.2.2.2.2.2.1,())/\Bt (x.2.2.2.1,x.2.2.2.2.1,x.2.2.2.2.2.1,())=true/\List.length x.2.2.2.2.2.1=2) (λx=>((x.1,(o0 x.1 x.2.1 x.2.2.1 (x.2.2.2.1,x.2.2.2.2.1,x.2.2.2.2.2.1,())).1,(o0 x.1 x.2.1 x.2.2.1 (x.2.2.2.1,x.2.2.2.2.1,x.2.2.2.2.2.1,())).2.1,(o0 x.1 x.2.1 x.2.2.1 (x.2.2.2.1,x.2.2.2.2.1,x.2.2.2.2.2.1,())).2.2,()),()))
noncomputable abbrev Air:MSpec:= {ptr:=some (69,3),Jb:= [some 3],ins:= [(false, .Ec tB),(false, .Ec tI),(false, .Ec JA),(false, .Ec tI),(false, .Ec .str),(false, .Ec lO)],Ht:=false,Hp:= [none],outs:= [.Ec tB, .Ec tI, .Ec JA, .row cv 47],fn:= λ_=>none}
noncomputable abbrev pL:MSpec:=gX Air (λx=>Xl x.1 x.2.1/\Eo (x.2.2.2.1,x.2.2.2.2.1,x.2.2.2.2.2.1,())/\Bt (x.2.2.2.1,x.2.2.2.2.1,x.2.2.2.2.2.1,())=true) (λx=>((x.1,(Yn x.1 x.2.1 x.2.2.1 (x.2.2.2.1,x.2.2.2.2.1,x.2.2.2.2.2.1,())).1,(Yn x.1 x.2.1 x.2.2.1 (x.2.2.2.1,x.2.2.2.2.1,x.2.2.2.2.2.1,())).2.1,(Yn x.1 x.2.1 x.2.2.1 (x.2.2.2.1,x.2.2.2.2.1,x.2.2.2.2.2.1,())).2.2,()),()))
theorem WC (g:List (List Int)) (l:Int) (P:List Int->Prop):(Br (decide (l<(0:Int))) (∃(y3:List Int),idx g (IntKind.i64.wrap (IntKind.i64.wrap ((0:Int)-l)-(1:Int)))=some y3/\ ∃(y4:List Int),Hx.fn (y3,())=some y4/\P y4) (∃(y3:List Int),idx g (IntKind.i64.wrap (l-(1:Int)))=some y3/\P y3))=fnW Fu (look [(163,Hx)]) Ii Tryz.f131 (g,l,()) P:=by kernel_rfl
theorem OO (n:Int) (g:List (List Int)) (w:List Int) (P:List Int->Prop):(∃(y4:List Int),Dc.fn (n,())=some y4/\Dn (λ(v5:List Int×Int×PUnit) (k6:List Int×Int×PUnit->Prop)=>Br (decide (v5.2.1<(↑w.length:Int))) (∃(y7:Int),idx w v5.2.1=some y7/\ ∃(y8:List Int),Ii.fn (g,y7,())=some y8/\ ∃(y9:List Int),Jl.fn (v5.1,y8,())=some y9/\k6 (y9,IntKind.i64.wrap (v5.2.1+(1:Int)),())) (P v5.1)) (y4,(0:Int),PUnit.unit))=fnW Fu (look [(96,Dc),(81,Jl),(131,Ii)]) Yt Tryz.f82 (n,g,w,()) P:=by kernel_rfl
theorem Ac0 (p:Int×ByteArray×List (List Int)×Unit) (s w:List Int) (P:(List Int×Bool×Unit)->Prop):(∃(y4:Bool),Le.fn ((p.1,p.2.1,p.2.2.1,()),s,())=some y4/\Br (!y4) (P (List.take 0 (List.drop 0 []),false,())) (∃(y5:Bool),Nf.fn ((↑p.2.2.1.length:Int),w,())=some y5/\Br (!y5) (P (List.take 0 (List.drop 0 []),false,())) (∃(y6:List Int),Yt.fn (p.1,p.2.2.1,w,())=some y6/\ ∃(y7:List Int),Jl.fn (s,y6,())=some y7/\P (y7,true,()))))=fnW Fu (look [(64,Le),(80,Nf),(81,Jl),(82,Yt)]) ae Tryz.f34 (p,s,w,()) P:=by kernel_rfl
abbrev NT:Type:=(List Int×Int×Int×List Int×PUnit)×PUnit
abbrev zA (b:List Int) (i:Int) (h:Int) (n:Int) (str:ByteArray) (g:List (List Int)) (Ko:List Int) (y8:NT) (y9:List Int×Bool×PUnit) (y7:List Int):Prop:= ∃(Iw:NT),qM.fn (b,i,h,(2:Int),(8:Int),())=some Iw/\ ∃(Jc:List Int×Bool×PUnit),ae.fn ((n,str,g,()),Ko,List.take Iw.1.2.2.2.1.length (List.drop 0 Iw.1.2.2.2.1),())=some Jc/\(([(0,0),(0,Iw.1.2.2.2.1.length)]= [(0,0),(0,y8.1.2.2.2.1.length)]/\(n,str,g,Jc.1,Jc.2.1,Jc,n,str,g,n,Ko,Jc,Jc.1,Jc.2.1,n,str,g,([]:List Int),Iw.1.2.2.2.1,Iw.1.1,Iw.1.2.1,Iw.1.2.2.1,())=(n,str,g,y9.1,y9.2.1,y9,n,str,g,n,y7,y9,y9.1,y9.2.1,n,str,g,([]:List Int),y8.1.2.2.2.1,y8.1.1,y8.1.2.1,y8.1.2.2.1,PUnit.unit))/\ [(0,0),(0,Iw.1.2.2.2.1.length)]= [(0,0),(0,y8.1.2.2.2.1.length)]/\(n,str,g,Jc.1,Jc.2.1,Jc,n,str,g,n,Ko,Jc,Jc.1,Jc.2.1,n,str,g,([]:List Int),Iw.1.2.2.2.1,Iw.1.1,Iw.1.2.1,Iw.1.2.2.1,())=(n,str,g,y9.1,y9.2.1,y9,n,str,g,n,y7,y9,y9.1,y9.2.1,n,str,g,([]:List Int),y8.1.2.2.2.1,y8.1.1,y8.1.2.1,y8.1.2.2.1,PUnit.unit))/\ [(0,0),(0,Iw.1.2.2.2.1.length)]= [(0,0),(0,y8.1.2.2.2.1.length)]/\(n,str,g,Jc.1,Jc.2.1,Jc,n,str,g,n,Ko,Jc,Jc.1,Jc.2.1,n,str,g,([]:List Int),Iw.1.2.2.2.1,Iw.1.1,Iw.1.2.1,Iw.1.2.2.1,())=(n,str,g,y9.1,y9.2.1,y9,n,str,g,n,y7,y9,y9.1,y9.2.1,n,str,g,([]:List Int),y8.1.2.2.2.1,y8.1.1,y8.1.2.1,y8.1.2.2.1,PUnit.unit)
theorem Aov (b:List Int) (i h n:Int) (str:ByteArray) (g:List (List Int)) (P:((List Int×Int×Int×List Int×Unit)×Unit)->Prop):(∃(y7:List Int),Uh.fn (n,())=some y7/\ ∃(y8:NT),qM.fn (b,i,h,(2:Int),(8:Int),())=some y8/\ ∃(y9:List Int×Bool×PUnit),ae.fn ((n,str,g,()),y7,List.take y8.1.2.2.2.1.length (List.drop 0 y8.1.2.2.2.1),())=some y9/\P ((y8.1.1,y8.1.2.1,y8.1.2.2.1,y9.1,()),())/\(∃(Ko:List Int),Uh.fn (n,())=some Ko/\(zA b i h n str g Ko y8 y9 y7))/\(∃(Ko:List Int),Uh.fn (n,())=some Ko/\(zA b i h n str g Ko y8 y9 y7))/\ ∃(Ko:List Int),Uh.fn (n,())=some Ko/\((zA b i h n str g Ko y8 y9 y7))/\(zA b i h n str g Ko y8 y9 y7))=fnMW (pU [We+4]) (look [(32,qM),(42,Uh),(34,ae)]) yh Tryz.f12 (b,i,h,n,str,g,()) P:=by kernel_rfl
abbrev Kz:Type:=(List Int×List (List Int)×List Int×PUnit)×Bool×PUnit
abbrev Ir:Type:=Int×ByteArray×List (List Int)×PUnit
abbrev Nl:Type:=(List Int×Int×Int×List Int×PUnit)×PUnit
abbrev oJ:Type:=Int×List (List Int×List (List Int)×List Int×PUnit)×List Int×Int×Int×PUnit
abbrev Kk (v8:oJ) (Ip:Nl) (Jc:Nl) (n:Int) (str:ByteArray) (g:List (List Int)) (Iz:Kz) (Hi:Ir) (Io:Ir) (Hr:Kz) (Ko:Ir) (Iw:Ir):Prop:= [(0,v8.2.1.length),(0,Ip.1.2.2.2.1.length)]= [(0,v8.2.1.length),(0,Jc.1.2.2.2.1.length)]/\(some (n,str,g,()),v8.1,Iz.2.1,v8.1,decide (v8.1>(0:Int)),Iz,Hi,Io,Iz,Iz.1,Iz.2.1,Iz.1.1,Iz.1.2.1,Iz.1.2.2.1,v8.2.1,([]:List Int),([]:List (List Int)),([]:List Int),Ip.1.2.2.2.1,Ip.1.1,Ip.1.2.1,Ip.1.2.2.1,())=(some (n,str,g,()),v8.1,Hr.2.1,v8.1,decide (v8.1>(0:Int)),Hr,Ko,Iw,Hr,Hr.1,Hr.2.1,Hr.1.1,Hr.1.2.1,Hr.1.2.2.1,v8.2.1,([]:List Int),([]:List (List Int)),([]:List Int),Jc.1.2.2.2.1,Jc.1.1,Jc.1.2.1,Jc.1.2.2.1,PUnit.unit)
abbrev Kl (v8:oJ) (Hi:Nl) (Jc:Nl) (n:Int) (str:ByteArray) (g:List (List Int)) (Iz:Kz) (Io:Ir) (Ip:Ir) (Hr:Kz) (Ko:Ir) (Iw:Ir):Prop:= [(0,v8.2.1.length),(0,Hi.1.2.2.2.1.length)]= [(0,v8.2.1.length),(0,Jc.1.2.2.2.1.length)]/\(some (n,str,g,()),v8.1,Iz.2.1,v8.1,decide (v8.1>(0:Int)),Iz,Io,Ip,Iz,Iz.1,Iz.2.1,Iz.1.1,Iz.1.2.1,Iz.1.2.2.1,v8.2.1,([]:List Int),([]:List (List Int)),([]:List Int),Hi.1.2.2.2.1,Hi.1.1,Hi.1.2.1,Hi.1.2.2.1,())=(some (n,str,g,()),v8.1,Hr.2.1,v8.1,decide (v8.1>(0:Int)),Hr,Ko,Iw,Hr,Hr.1,Hr.2.1,Hr.1.1,Hr.1.2.1,Hr.1.2.2.1,v8.2.1,([]:List Int),([]:List (List Int)),([]:List Int),Jc.1.2.2.2.1,Jc.1.1,Jc.1.2.1,Jc.1.2.2.1,PUnit.unit)
abbrev Km (v8:oJ) (Hi:Nl) (Jc:Nl) (n:Int) (str:ByteArray) (g:List (List Int)) (Iz:Kz) (Ip:Ir) (Io:Ir) (Hr:Kz) (Ko:Ir) (Iw:Ir):Prop:= [(0,v8.2.1.length),(0,Hi.1.2.2.2.1.length)]= [(0,v8.2.1.length),(0,Jc.1.2.2.2.1.length)]/\(some (n,str,g,()),v8.1,Iz.2.1,v8.1,decide (v8.1>(0:Int)),Iz,Ip,Io,Iz,Iz.1,Iz.2.1,Iz.1.1,Iz.1.2.1,Iz.1.2.2.1,v8.2.1,([]:List Int),([]:List (List Int)),([]:List Int),Hi.1.2.2.2.1,Hi.1.1,Hi.1.2.1,Hi.1.2.2.1,())=(some (n,str,g,()),v8.1,Hr.2.1,v8.1,decide (v8.1>(0:Int)),Hr,Ko,Iw,Hr,Hr.1,Hr.2.1,Hr.1.1,Hr.1.2.1,Hr.1.2.2.1,v8.2.1,([]:List Int),([]:List (List Int)),([]:List Int),Jc.1.2.2.2.1,Jc.1.1,Jc.1.2.1,Jc.1.2.2.1,PUnit.unit)
theorem Ajy (b:List Int) (i h n:Int) (str:ByteArray) (g:List (List Int)) (P:((List Int×Int×Int×List (List Int×List (List Int)×List Int×Unit)×Unit)×Unit)->Prop):(∃(y7:(List Int×Int×Int×Int×PUnit)×PUnit),Ju.fn (b,i,h,(3:Int),())=some y7/\0=0/\0=([]:List Int).length/\Dn (λ(v8:oJ) (k9:oJ->Prop)=>Br (decide (v8.1>(0:Int))) (∃(Ko:Ir),some (n,str,g,())=some Ko/\ ∃(Iw:Ir),some (n,str,g,())=some Iw/\ ∃(Jc:Nl),Xr.fn (v8.2.2.1,v8.2.2.2.1,v8.2.2.2.2.1,Iw.1,Iw.2.1,Iw.2.2.1,())=some Jc/\ ∃(Hr:Kz),Ew.fn (Ko,List.take Jc.1.2.2.2.1.length (List.drop 0 Jc.1.2.2.2.1),())=some Hr/\(0=0/\v8.2.1.length=v8.2.1.length/\v8.2.1.length+(List.take 1 (List.drop 0 [(Hr.1.1,Hr.1.2.1,Hr.1.2.2.1,())])).length<=Dk/\0=0/\(v8.2.1++List.take 1 (List.drop 0 [(Hr.1.1,Hr.1.2.1,Hr.1.2.2.1,())])).length=(v8.2.1++List.take 1 (List.drop 0 [(Hr.1.1,Hr.1.2.1,Hr.1.2.2.1,())])).length/\k9 (IntKind.i64.wrap (v8.1-(1:Int)),v8.2.1++List.take 1 (List.drop 0 [(Hr.1.1,Hr.1.2.1,Hr.1.2.2.1,())]),Jc.1.1,Jc.1.2.1,Jc.1.2.2.1,()))/\(∃(Io:Ir),some (n,str,g,())=some Io/\(∃(Ip:Ir),some (n,str,g,())=some Ip/\(∃(Hi:Nl),Xr.fn (v8.2.2.1,v8.2.2.2.1,v8.2.2.2.2.1,Ip.1,Ip.2.1,Ip.2.2.1,())=some Hi/\(∃(Iz:Kz),Ew.fn (Io,List.take Hi.1.2.2.2.1.length (List.drop 0 Hi.1.2.2.2.1),())=some Iz/\((((Kl v8 Hi Jc n str g Iz Io Ip Hr Ko Iw))/\((Kl v8 Hi Jc n str g Iz Io Ip Hr Ko Iw))/\(Kl v8 Hi Jc n str g Iz Io Ip Hr Ko Iw))/\(((Kl v8 Hi Jc n str g Iz Io Ip Hr Ko Iw))/\(Kl v8 Hi Jc n str g Iz Io Ip Hr Ko Iw))/\(((Kl v8 Hi Jc n str g Iz Io Ip Hr Ko Iw))/\(Kl v8 Hi Jc n str g Iz Io Ip Hr Ko Iw))/\(Kl v8 Hi Jc n str g Iz Io Ip Hr Ko Iw))/\(((Kl v8 Hi Jc n str g Iz Io Ip Hr Ko Iw))/\(Kl v8 Hi Jc n str g Iz Io Ip Hr Ko Iw))/\(Kl v8 Hi Jc n str g Iz Io Ip Hr Ko Iw))/\ ∃(Iz:Kz),Ew.fn (Io,List.take Hi.1.2.2.2.1.length (List.drop 0 Hi.1.2.2.2.1),())=some Iz/\(((Kl v8 Hi Jc n str g Iz Io Ip Hr Ko Iw))/\(Kl v8 Hi Jc n str g Iz Io Ip Hr Ko Iw))/\(Kl v8 Hi Jc n str g Iz Io Ip Hr Ko Iw))/\ ∃(Hi:Nl),Xr.fn (v8.2.2.1,v8.2.2.2.1,v8.2.2.2.2.1,Ip.1,Ip.2.1,Ip.2.2.1,())=some Hi/\ ∃(Iz:Kz),Ew.fn (Io,List.take Hi.1.2.2.2.1.length (List.drop 0 Hi.1.2.2.2.1),())=some Iz/\(((Kl v8 Hi Jc n str g Iz Io Ip Hr Ko Iw))/\(Kl v8 Hi Jc n str g Iz Io Ip Hr Ko Iw))/\(Kl v8 Hi Jc n str g Iz Io Ip Hr Ko Iw))/\ ∃(Ip:Ir),some (n,str,g,())=some Ip/\ ∃(Hi:Nl),Xr.fn (v8.2.2.1,v8.2.2.2.1,v8.2.2.2.2.1,Ip.1,Ip.2.1,Ip.2.2.1,())=some Hi/\ ∃(Iz:Kz),Ew.fn (Io,List.take Hi.1.2.2.2.1.length (List.drop 0 Hi.1.2.2.2.1),())=some Iz/\(((Kl v8 Hi Jc n str g Iz Io Ip Hr Ko Iw))/\(Kl v8 Hi Jc n str g Iz Io Ip Hr Ko Iw))/\(Kl v8 Hi Jc n str g Iz Io Ip Hr Ko Iw))/\(∃(Io:Ir),some (n,str,g,())=some Io/\(∃(Ip:Ir),some (n,str,g,())=some Ip/\(∃(Hi:Nl),Xr.fn (v8.2.2.1,v8.2.2.2.1,v8.2.2.2.2.1,Io.1,Io.2.1,Io.2.2.1,())=some Hi/\(∃(Iz:Kz),Ew.fn (Ip,List.take Hi.1.2.2.2.1.length (List.drop 0 Hi.1.2.2.2.1),())=some Iz/\((((Km v8 Hi Jc n str g Iz Ip Io Hr Ko Iw))/\((Km v8 Hi Jc n str g Iz Ip Io Hr Ko Iw))/\(Km v8 Hi Jc n str g Iz Ip Io Hr Ko Iw))/\(((Km v8 Hi Jc n str g Iz Ip Io Hr Ko Iw))/\(Km v8 Hi Jc n str g Iz Ip Io Hr Ko Iw))/\(((Km v8 Hi Jc n str g Iz Ip Io Hr Ko Iw))/\(Km v8 Hi Jc n str g Iz Ip Io Hr Ko Iw))/\(Km v8 Hi Jc n str g Iz Ip Io Hr Ko Iw))/\(((Km v8 Hi Jc n str g Iz Ip Io Hr Ko Iw))/\(Km v8 Hi Jc n str g Iz Ip Io Hr Ko Iw))/\(Km v8 Hi Jc n str g Iz Ip Io Hr Ko Iw))/\ ∃(Iz:Kz),Ew.fn (Ip,List.take Hi.1.2.2.2.1.length (List.drop 0 Hi.1.2.2.2.1),())=some Iz/\(((Km v8 Hi Jc n str g Iz Ip Io Hr Ko Iw))/\(Km v8 Hi Jc n str g Iz Ip Io Hr Ko Iw))/\(Km v8 Hi Jc n str g Iz Ip Io Hr Ko Iw))/\ ∃(Hi:Nl),Xr.fn (v8.2.2.1,v8.2.2.2.1,v8.2.2.2.2.1,Io.1,Io.2.1,Io.2.2.1,())=some Hi/\ ∃(Iz:Kz),Ew.fn (Ip,List.take Hi.1.2.2.2.1.length (List.drop 0 Hi.1.2.2.2.1),())=some Iz/\(((Km v8 Hi Jc n str g Iz Ip Io Hr Ko Iw))/\(Km v8 Hi Jc n str g Iz Ip Io Hr Ko Iw))/\(Km v8 Hi Jc n str g Iz Ip Io Hr Ko Iw))/\(∃(Ip:Nl),Xr.fn (v8.2.2.1,v8.2.2.2.1,v8.2.2.2.2.1,Io.1,Io.2.1,Io.2.2.1,())=some Ip/\(∃(Hi:Ir),some (n,str,g,())=some Hi/\(∃(Iz:Kz),Ew.fn (Hi,List.take Ip.1.2.2.2.1.length (List.drop 0 Ip.1.2.2.2.1),())=some Iz/\((((Kk v8 Ip Jc n str g Iz Hi Io Hr Ko Iw))/\((Kk v8 Ip Jc n str g Iz Hi Io Hr Ko Iw))/\(Kk v8 Ip Jc n str g Iz Hi Io Hr Ko Iw))/\(((Kk v8 Ip Jc n str g Iz Hi Io Hr Ko Iw))/\(Kk v8 Ip Jc n str g Iz Hi Io Hr Ko Iw))/\(((Kk v8 Ip Jc n str g Iz Hi Io Hr Ko Iw))/\(Kk v8 Ip Jc n str g Iz Hi Io Hr Ko Iw))/\(Kk v8 Ip Jc n str g Iz Hi Io Hr Ko Iw))/\(((Kk v8 Ip Jc n str g Iz Hi Io Hr Ko Iw))/\(Kk v8 Ip Jc n str g Iz Hi Io Hr Ko Iw))/\(Kk v8 Ip Jc n str g Iz Hi Io Hr Ko Iw))/\ ∃(Iz:Kz),Ew.fn (Hi,List.take Ip.1.2.2.2.1.length (List.drop 0 Ip.1.2.2.2.1),())=some Iz/\(((Kk v8 Ip Jc n str g Iz Hi Io Hr Ko Iw))/\(Kk v8 Ip Jc n str g Iz Hi Io Hr Ko Iw))/\(Kk v8 Ip Jc n str g Iz Hi Io Hr Ko Iw))/\ ∃(Hi:Ir),some (n,str,g,())=some Hi/\ ∃(Iz:Kz),Ew.fn (Hi,List.take Ip.1.2.2.2.1.length (List.drop 0 Ip.1.2.2.2.1),())=some Iz/\(((Kk v8 Ip Jc n str g Iz Hi Io Hr Ko Iw))/\(Kk v8 Ip Jc n str g Iz Hi Io Hr Ko Iw))/\(Kk v8 Ip Jc n str g Iz Hi Io Hr Ko Iw))/\(∃(Ip:Ir),some (n,str,g,())=some Ip/\ ∃(Hi:Nl),Xr.fn (v8.2.2.1,v8.2.2.2.1,v8.2.2.2.2.1,Io.1,Io.2.1,Io.2.2.1,())=some Hi/\ ∃(Iz:Kz),Ew.fn (Ip,List.take Hi.1.2.2.2.1.length (List.drop 0 Hi.1.2.2.2.1),())=some Iz/\(((Km v8 Hi Jc n str g Iz Ip Io Hr Ko Iw))/\(Km v8 Hi Jc n str g Iz Ip Io Hr Ko Iw))/\(Km v8 Hi Jc n str g Iz Ip Io Hr Ko Iw))/\ ∃(Ip:Nl),Xr.fn (v8.2.2.1,v8.2.2.2.1,v8.2.2.2.2.1,Io.1,Io.2.1,Io.2.2.1,())=some Ip/\ ∃(Hi:Ir),some (n,str,g,())=some Hi/\ ∃(Iz:Kz),Ew.fn (Hi,List.take Ip.1.2.2.2.1.length (List.drop 0 Ip.1.2.2.2.1),())=some Iz/\(((Kk v8 Ip Jc n str g Iz Hi Io Hr Ko Iw))/\(Kk v8 Ip Jc n str g Iz Hi Io Hr Ko Iw))/\(Kk v8 Ip Jc n str g Iz Hi Io Hr Ko Iw))/\(∃(Io:Ir),some (n,str,g,())=some Io/\ ∃(Ip:Ir),some (n,str,g,())=some Ip/\ ∃(Hi:Nl),Xr.fn (v8.2.2.1,v8.2.2.2.1,v8.2.2.2.2.1,Ip.1,Ip.2.1,Ip.2.2.1,())=some Hi/\ ∃(Iz:Kz),Ew.fn (Io,List.take Hi.1.2.2.2.1.length (List.drop 0 Hi.1.2.2.2.1),())=some Iz/\(((Kl v8 Hi Jc n str g Iz Io Ip Hr Ko Iw))/\(Kl v8 Hi Jc n str g Iz Io Ip Hr Ko Iw))/\(Kl v8 Hi Jc n str g Iz Io Ip Hr Ko Iw))/\ ∃(Io:Ir),some (n,str,g,())=some Io/\(∃(Ip:Ir),some (n,str,g,())=some Ip/\ ∃(Hi:Nl),Xr.fn (v8.2.2.1,v8.2.2.2.1,v8.2.2.2.2.1,Io.1,Io.2.1,Io.2.2.1,())=some Hi/\ ∃(Iz:Kz),Ew.fn (Ip,List.take Hi.1.2.2.2.1.length (List.drop 0 Hi.1.2.2.2.1),())=some Iz/\(((Km v8 Hi Jc n str g Iz Ip Io Hr Ko Iw))/\(Km v8 Hi Jc n str g Iz Ip Io Hr Ko Iw))/\(Km v8 Hi Jc n str g Iz Ip Io Hr Ko Iw))/\ ∃(Ip:Nl),Xr.fn (v8.2.2.1,v8.2.2.2.1,v8.2.2.2.2.1,Io.1,Io.2.1,Io.2.2.1,())=some Ip/\ ∃(Hi:Ir),some (n,str,g,())=some Hi/\ ∃(Iz:Kz),Ew.fn (Hi,List.take Ip.1.2.2.2.1.length (List.drop 0 Ip.1.2.2.2.1),())=some Iz/\(((Kk v8 Ip Jc n str g Iz Hi Io Hr Ko Iw))/\(Kk v8 Ip Jc n str g Iz Hi Io Hr Ko Iw))/\(Kk v8 Ip Jc n str g Iz Hi Io Hr Ko Iw)) (P ((v8.2.2.1,v8.2.2.2.1,v8.2.2.2.2.1,List.take v8.2.1.length (List.drop 0 v8.2.1),()),()))) (y7.1.2.2.2.1,[],y7.1.1,y7.1.2.1,y7.1.2.2.1,PUnit.unit))=fnMW (pU [We+3,Pv,Ok+9,Ok+27]) (look [(23,Ju),(25,Xr),(24,Ew)]) pL Tryz.f11 (b,i,h,n,str,g,()) P:=by kernel_rfl
theorem UE (g:List (List Int)) (l:Int) (h:Fo (List.length g) l/\List.length g<=8/\ ∀p∈g,Kj p=true):fnW Fu (look [(163,Hx)]) Ii Tryz.f131 (g,l,()) (λ(z:List Int)=>z=An g l):=by
 obtain ⟨hl,h8,hp⟩:=h
 refine Eq.mp (WC g l _) ?_
 obtain ⟨k,hk,rfl|rfl⟩:=Og hl
 ·refine Br.dec (λhn=>by omega) λ_=>?_
  rw [Cn (by omega) (by omega),show (k:Int)+1-1=(k:Int) by omega]
  exact ⟨_,Cf hk,(Ou hk).symm⟩
 ·refine Br.dec (λ_=>?_) λhn=>by omega
  rw [Cn (n:=0- -((k:Int)+1)) (by omega) (by omega),Cn (by omega) (by omega),show (0:Int)- -((k:Int)+1)-1=(k:Int) by omega]
  have:=dK (hp _ (Ak hk))
  exact ⟨_,Cf hk,_,Ab ⟨this.len,this.row⟩,(Ot hk).symm⟩
theorem wG:Sound Tryz.prog 131 Ii:=
 Sound.Gw Dq (Ax lJ Bn) mixed Tryz.func131 (by kernel_rfl) (by kernel_rfl) λx h=>UE x.1 x.2.1 h
theorem MF (n:Int) (g:List (List Int)) (w:List Int) (h: ∃p:PP,Bt p=true/\p.1=n/\p.2.2.1=g/\Is (List.length g:Nat) w=true):fnW Fu (look [(96,Dc),(81,Jl),(131,Ii)]) Yt Tryz.f82 (n,g,w,()) (λ(z:List Int)=>z=Je g (upto n.toNat) w):=by
 obtain ⟨p,hv,rfl,rfl,hw⟩:=h
 have hV:=valid hv
 have hn:=hV.n
 have hf:=hV.fG
 obtain ⟨w1,w2⟩:=Uj hw
 refine Eq.mp (OO p.1 p.2.2.1 w _) ⟨upto p.1.toNat,Ab ⟨by show 0<=p.1;omega,by show p.1<=20;omega⟩,?_⟩
 refine Bu w.length (λv=>v.2.1) (λj v=>v.1=Je p.2.2.1 (upto p.1.toNat) (w.take j)) rfl rfl ?_
 rintro j ⟨q,i,⟨⟩⟩ K hj hi hR hK
 dsimp only at hi hR⊢
 subst hi hR
 have hq:=iL hV (w.take j) _ (λl hl=>w2 l (Fy hl)) (Pm.id (n:=p.1.toNat) (by omega) (by omega))
 refine Br.dec (λhl=>?_) λhl=>?_
 ·have hl:j<w.length:=by omega
  have mu:=w2 _ (Ak hl)
  have rk:=kD hV mu
  refine ⟨_,Cf hl,_,Ab ⟨mu,hf.2,hV.perm⟩,_,Ab ⟨ML hq,GV hq rk⟩,?_⟩
  rw [Bv (by omega)]
  exact hK hl _ rfl (sF hl).symm
 ·have:j=w.length:=by omega
  subst this
  rw [Bd]
theorem uR:Sound Tryz.prog 82 Yt:=
 Sound.Gw Dq (Ax Wz (Ax df (Ax wG Bn))) mixed Tryz.func82 (by kernel_rfl) (by kernel_rfl) λx h=>MF x.1 x.2.1 x.2.2.1 h
theorem Aa6 (p:PP) (s w:List Int) (h:Eo p/\Bt p=true/\Pm p.1.toNat s/\Is (List.length p.2.2.1:Nat) w=true):fnW Fu (look [(64,Le),(80,Nf),(81,Jl),(82,Yt)]) ae Tryz.f34 (p,s,w,()) (λ(z:List Int×Bool×Unit)=>z=tT p s w):=by
 obtain ⟨hp,hv,hs,hw⟩:=h
 have hV:=valid hv
 have hn:=hV.n
 have hf:=hV.fG
 obtain ⟨w1,w2⟩:=Uj hw
 have YH:=Pm.id (n:=p.1.toNat) (by omega) (by omega)
 have hq:=iL hV w _ w2 YH
 refine Eq.mp (Ac0 p s w _) ⟨true,(Ab ⟨hp,jz hs⟩).trans (Ga some (Bj.2 ⟨hv,MK hV hs⟩)),λhc=>(by cases hc),λ_=>⟨true,(Ab ⟨by show w.length<=4294967296;omega,by show (0:Int)<=((p.2.2.1.length:Nat):Int);omega,by show ((p.2.2.1.length:Nat):Int)<=4294967296;omega⟩).trans (Ga some hw),λhc=>(by cases hc),λ_=>⟨_,Ab ⟨p,hv,rfl,rfl,hw⟩,_,Ab ⟨ML hs,GV hs hq⟩,?_⟩⟩⟩
 show (Ag s (Je p.2.2.1 (upto p.1.toNat) w),true,())=tT p s w
 rw [q7 hV hs w _ w2 YH,comp_id hs]
 rfl
theorem AI:Sound Tryz.prog 34 ae:=
 Sound.Gw Dq (Ax dg (Ax jR (Ax df (Ax uR Bn)))) mixed Tryz.func34 (by kernel_rfl) (by kernel_rfl) λx h=>Aa6 x.1 x.2.1 x.2.2.1 h
theorem Ajo {b:List Int} {i m:Int} (hd:Xl b i) (h:Int) (hm:1<=m/\m<=8):IZ (ik m) (a5 b i h m).2.2=true:=by
 have hr:=cJ hd hm.1 h
 have hc:ik m=m:=Ai (by omega)
 rw [hc]
 refine Co ?_
 unfold a5
 dsimp only
 split<;>omega
theorem Aby {b:List Int} {m:Int} (hm:1<=m/\m<=8): ∀(k:Nat) (i h:Int) (w:List Int),Xl b i->(∀y∈w,IZ (ik m) y=true)->
  Xl b (wGo b m k i h w).1/\(wGo b m k i h w).2.2.length=k+w.length/\ ∀y∈(wGo b m k i h w).2.2,IZ (ik m) y=true
 |0,i,h,w,hd,hw=>⟨hd,by rw [wGo];exact (Ce _).symm,hw⟩
 |k+1,i,h,w,hd,hw=>by
  obtain ⟨h1,h2,h3⟩:=Aby hm k (a5 b i h m).1 (a5 b i h m).2.1 (w++ [(a5 b i h m).2.2]) (RL hd h m) (λy hy=>by
   rcases Bb.1 hy with h4|h4
   ·exact hw y h4
   ·rw [Ad.1 h4];exact Ajo hd h hm)
  rw [As,Be] at h2
  rw [wGo]
  exact ⟨h1,by omega,h3⟩
theorem Abw {b:List Int} {i m k:Int} (hd:Xl b i) (h:Int) (hm:1<=m/\m<=8) (hk:0<=k/\k<=20):Is m (Vl b i h m k).2.2=true/\Xl b (Vl b i h m k).1:=by
 have hr:=cJ hd (show 1<=k+1 by omega) h
 obtain ⟨h1,h2,h3⟩:=Aby hm (dR b i h (k+1)).toNat (dI b i) (hN h) [] hd.next (λy hy=>by cases hy)
 refine ⟨Bj.2 ⟨Co ?_,?_⟩,h1⟩
 ·show (wGo b m (dR b i h (k+1)).toNat (dI b i) (hN h) []).2.2.length<=200
  rw [h2,Ex]
  omega
 ·rw [Es]
  refine List.any_eq_false.2 λy hy=>?_
  rw [h3 y hy]
  decide
theorem Ao6 (b:List Int) (i h n:Int) (str:ByteArray) (g:List (List Int)) (hd:Xl b i/\Eo (n,str,g,())/\Bt (n,str,g,())=true/\g.length=2):fnMW (pU [We+4]) (look [(32,qM),(42,Uh),(34,ae)]) yh Tryz.f12 (b,i,h,n,str,g,()) (λ(z:(List Int×Int×Int×List Int×Unit)×Unit)=>z=((b,(o0 b i h (n,str,g,())).1,(o0 b i h (n,str,g,())).2.1,(o0 b i h (n,str,g,())).2.2,()),())):=by
 obtain ⟨hd,hp,hv,h2⟩:=hd
 have hV:=valid hv
 have hn:1<=n/\n<=20:=hV.n
 obtain ⟨hw,xr⟩:=Abw hd h (m:=2) (k:=8) (by decide) (by decide)
 have hS:Uh.fn (n,())=some (upto n.toNat):=Ab hn
 have YH:Pm n.toNat (upto n.toNat):=Pm.id (by omega) (by omega)
 have hW:qM.fn (b,i,h,2,8,())=some ((b,(Vl b i h 2 8).1,(Vl b i h 2 8).2.1,(Vl b i h 2 8).2.2,()),()):=Ab ⟨hd,by show (1:Int)<=2/\(2:Int)<=8;decide,by show (0:Int)<=8;decide,by show (8:Int)<=20;decide⟩
 have hA:ae.fn ((n,str,g,()),upto n.toNat,List.take (Vl b i h 2 8).2.2.length (List.drop 0 (Vl b i h 2 8).2.2),())=some (tT (n,str,g,()) (upto n.toNat) (Vl b i h 2 8).2.2):=by
  rw [Cc]
  exact Ab ⟨hp,hv,YH,by show Is (g.length:Nat) _=true;rw [h2];exact hw⟩
 refine Eq.mp (Aov b i h n str g _) ⟨_,hS,_,hW,_,hA,?_⟩
 repeat' (first|exact ⟨rfl,rfl⟩|exact rfl|refine ⟨_,hS,?_⟩|refine ⟨_,hW,?_⟩|refine ⟨_,hA,?_⟩|refine ⟨?_,?_⟩)
theorem VB:Cp Tryz.prog 12 yh:=
 Cp.gX (pV [We+4]) (Gb VD (Ax AR (Ax AI Bn))) mixed Tryz.func12 (by kernel_rfl) (by kernel_rfl) λx h=>Ao6 x.1 x.2.1 x.2.2.1 x.2.2.2.1 x.2.2.2.2.1 x.2.2.2.2.2.1 h
structure RM (n:Int) (o:List Int):Prop where
 asc:o.Pairwise (· < ·)
 row: ∀y∈o,0<=y/\y<n
theorem RM.more {j:Int} {o:List Int} (h:RM j o):RM (j+1) o:=⟨h.asc,λy hy=>by have:=h.row y hy;omega⟩
theorem RM.add {j:Int} {o:List Int} (h:RM j o) (h0:0<=j):RM (j+1) (o++ [j]):=by
 refine ⟨List.pairwise_append.2 ⟨h.asc,by simp,λa ha b hb=>?_⟩,λy hy=>?_⟩
 ·rw [Ad.1 hb];exact (h.row a ha).2
 ·rcases Bb.1 hy with h1|h1
  ·have:=h.row y h1;omega
  ·rw [Ad.1 h1];omega
theorem RM.le {j n:Int} {o:List Int} (h:RM j o) (hj:j<=n):RM n o:=⟨h.asc,λy hy=>by have:=h.row y hy;omega⟩
theorem Abe {b:List Int} {n:Int} : ∀(f:Nat) (j i h:Int) (o:List Int),Xl b i->0<=j->j<=n->o.length<=3->RM j o->
  Xl b (WR b n f j i h o).1/\(WR b n f j i h o).2.2.length<=3/\RM n (WR b n f j i h o).2.2
 |0,j,i,h,o,hd,_,hj,ho,ha=>⟨hd,ho,ha.le hj⟩
 |f+1,j,i,h,o,hd,h0,hj,ho,ha=>by
  rw [WR]
  split
  ·rename_i hc
   refine Abe f (j+1) _ _ _ hd.next (by omega) (by omega) ?_ ?_
   ·split
    ·rw [As,Be];omega
    ·exact ho
   ·split
    ·exact ha.add h0
    ·exact ha.more
  ·exact ⟨hd,ho,ha.le hj⟩
theorem Abv {b:List Int} {i n:Int} (hd:Xl b i) (h:Int) (hn:1<=n):Xl b (Nq b i h n).1/\(Nq b i h n).2.2.length<=3/\Qc n (Nq b i h n).2.2=true:=by
 have Ai9:RM 0 ([]:List Int):=⟨List.Pairwise.nil,λy hy=>by cases hy⟩
 obtain ⟨h1,h2,h3⟩:=Abe (b:=b) (n:=n) n.toNat 0 i h [] hd (by omega) (by omega) (by simp) Ai9
 unfold Nq
 generalize WR b n n.toNat 0 i h []=r at h1 h2 h3
 have fin: ∀o:List Int,RM n o->0<o.length->Qc n o=true:= λo ho hl=>Iq.2 ⟨hl,λj hj _=>by
  have:=ho.row _ (Ak hj)
  exact ⟨this.1,by omega,λh0=>Ek.1 ho.asc (j-1) j (by omega) hj (by omega)⟩⟩
 unfold XQ
 split
 ·rename_i hz
  have hr:=cJ h1 hn r.2.1
  have Ame:r.2.2= []:=List.length_eq_zero_iff.1 hz
  dsimp only
  rw [Ame]
  refine ⟨h1.next,by show 1<=3;decide,fin _ ⟨by simp,λy hy=>?_⟩ (by simp)⟩
  rw [Ad.1 hy]
  exact hr
 ·rename_i hz
  exact ⟨h1,h2,fin _ h3 (by omega)⟩
theorem Aja (b:List Int) (i h n:Int) (str:ByteArray) (g:List (List Int)) (hd:Xl b i/\Eo (n,str,g,())/\Bt (n,str,g,())=true):fnMW (pU [We+3,Pv,Ok+9,Ok+27]) (look [(23,Ju),(25,Xr),(24,Ew)]) pL Tryz.f11 (b,i,h,n,str,g,()) (λ(z:(List Int×Int×Int×List (List Int×List (List Int)×List Int×Unit)×Unit)×Unit)=>z=((b,(Yn b i h (n,str,g,())).1,(Yn b i h (n,str,g,())).2.1,(Yn b i h (n,str,g,())).2.2,()),())):=by
 obtain ⟨hd,hp,hv⟩:=hd
 have hV:=valid hv
 have hn:1<=n/\n<=20:=hV.n
 have hr:=cJ hd (show (1:Int)<=3 by decide) h
 obtain ⟨R,hR⟩: ∃R,Yn b i h (n,str,g,())=R:=⟨_,rfl⟩
 rw [hR]
 unfold Yn at hR
 refine Eq.mp (Ajy b i h n str g _) ⟨_,Ab ⟨hd,by show (1:Int)<=3;decide⟩,rfl,rfl,?_⟩
 refine Dn.mk (λy=> ∃(f:Nat) (i h:Int) (o:List TT),y=((f:Int),o,b,i,h,())/\Xl b i/\f+o.length<=2/\wL b (n,str,g,()) f i h o=R) (λy=>y.1.toNat)
  ⟨(dR b i h 3).toNat,dI b i,hN h,[],by rw [gI hr.1],hd.next,by simp only [Ex];omega,hR⟩ ?_
 rintro y ⟨f,i,h,o,rfl,hd,hl,hv⟩
 dsimp only
 refine Br.dec (λhf=>?_) λhf=>?_
 ·obtain ⟨f,rfl⟩: ∃f',f=f'+1:=⟨f-1,by omega⟩
  obtain ⟨t1,t2,t3⟩:=Abv hd h hn.1
  have hT:Xr.fn (b,i,h,n,str,g,())=some ((b,(Nq b i h n).1,(Nq b i h n).2.1,(Nq b i h n).2.2,()),()):=Ab ⟨hd,hn⟩
  have hB:Ew.fn ((n,str,g,()),List.take (Nq b i h n).2.2.length (List.drop 0 (Nq b i h n).2.2),())=some (Gc (n,str,g,()) (Nq b i h n).2.2,Gm (n,str,g,()) (Nq b i h n).2.2,()):=by
   rw [Cc]
   exact Ab ⟨hp,by show (Nq b i h n).2.2.length<=4294967296;omega⟩
  rw [wL] at hv
  refine ⟨_,rfl,_,rfl,_,hT,_,hB,⟨rfl,rfl,by show o.length+1<=4294967296;omega,rfl,rfl,?_⟩,?_⟩
  ·rw [Cn (by omega) (by omega)]
   exact ⟨⟨f,_,_,_,by rw [show ((f+1:Nat):Int)-1=(f:Int) by omega];rfl,t1,by rw [As];show f+(o.length+1)<=2;omega,hv⟩,by show ((((f+1:Nat):Int)-1).toNat)<(((f+1:Nat):Int)).toNat;omega⟩
  ·repeat' (first|exact ⟨rfl,rfl⟩|exact rfl|refine ⟨_,hT,?_⟩|refine ⟨_,hB,?_⟩|refine ⟨_,rfl,?_⟩|refine ⟨?_,?_⟩)
 ·obtain rfl:f=0:=by omega
  rw [wL] at hv
  rw [<-hv]
  simp only [Cc]
theorem NM:Cp Tryz.prog 11 pL:=
 Cp.gX (pV [We+3,Pv,Ok+9,Ok+27]) (Gb aj (Gb VC (Ax rR Bn))) mixed Tryz.func11 (by kernel_rfl) (by kernel_rfl) λx h=>Aja x.1 x.2.1 x.2.2.1 x.2.2.2.1 x.2.2.2.2.1 x.2.2.2.2.2.1 h
theorem TG {n:Nat} {l:Int} (h:Fo n l):l∈Av n:=by
 obtain ⟨h0,h1,h2⟩:=h
 by_cases hp:0<l
 ·have:=(Mq (n:=n) (k:=(l-1).toNat) (by omega)).1
  rwa [show ((l-1).toNat:Int)+1=l by omega] at this
 ·have:=(Mq (n:=n) (k:=(-l-1).toNat) (by omega)).2
  rwa [show-(((-l-1).toNat:Int)+1)=l by omega] at this
theorem CR {p:PP} (hw:Gp p=true): ∀(w s:List Int),(∀l∈w,Fo (List.length p.2.2.1) l)->s∈Ba p->Je p.2.2.1 s w∈Ba p
 | [],s,_,hs=>hs
 |l::w,s,hl,hs=>CR hw w _ (λl' h=>hl l' (Ao _ h)) ((Vu hw).next s hs l (TG (hl l (by simp))))
theorem Wb.whole {p:PP} (hp:Wb p):Gp p=true:=IT hp.valid hp.hi
theorem Ajp {p:PP} (hp:Wb p) {b:List Int} {i:Int} (hd:Xl b i) (h:Int):Xl b (o0 b i h p).1/\(o0 b i h p).2.2∈Ba p:=by
 obtain ⟨hw,xr⟩:=Abw hd h (m:=2) (k:=8) (by decide) (by decide)
 have hw:Is ((2:Nat):Int) (Vl b i h 2 8).2.2=true:=hw
 have h2:=(Uj hw).2
 rw [<-hp.two] at h2
 exact ⟨xr,CR hp.whole _ _ h2 (Si hp.valid).2⟩
theorem VP {p:PP} (hp:Wb p) {b:List Int} {i:Int} (hd:Xl b i) (h:Int):Xl b (Nq b i h p.1).1/\short (Nq b i h p.1).2.2/\Gm p (Nq b i h p.1).2.2=true/\Gs p (Gc p (Nq b i h p.1).2.2)=true:=by
 have EK:=hp.lo
 obtain ⟨h1,h2,h3⟩:=Abv hd h (n:=p.1) (by omega)
 have h4:=UF hp.valid hp.hi h3 h2
 exact ⟨h1,by unfold short;omega,h4,DE h4⟩
theorem RH {p:PP} (hp:Wb p) {b:List Int} : ∀(k:Nat) (i h:Int) (o:List TT),Xl b i->(∀t∈o,Gs p t=true/\aC t)->
  Xl b (wL b p k i h o).1/\(wL b p k i h o).2.2.length=k+o.length/\ ∀t∈(wL b p k i h o).2.2,Gs p t=true/\aC t
 |0,i,h,o,hd,ho=>⟨hd,by rw [wL];exact (Ce _).symm,ho⟩
 |k+1,i,h,o,hd,ho=>by
  obtain ⟨t1,_,_,t3⟩:=VP hp hd h
  obtain ⟨h1,h2,h3⟩:=RH hp k (Nq b i h p.1).1 (Nq b i h p.1).2.1 (o++ [Gc p (Nq b i h p.1).2.2]) t1 (λt ht=>by
   rcases Bb.1 ht with h4|h4
   ·exact ho t h4
   ·rw [Ad.1 h4];exact ⟨t3,qa⟩)
  rw [As,Be] at h2
  rw [wL]
  exact ⟨h1,by omega,h3⟩
structure m5 (p:PP) (ts:List TT):Prop where
 set:Gj p ts=true
 fG:ts.length<=2
 short:Qr ts
 valid: ∀t∈ts,Gs p t=true
theorem Aez {p:PP} (hp:Wb p) {b:List Int} {i:Int} (hd:Xl b i) (h:Int):Xl b (Yn b i h p).1/\m5 p (Yn b i h p).2.2:=by
 have hr:=cJ hd (show (1:Int)<=3 by decide) h
 obtain ⟨h1,h2,h3⟩:=RH hp (dR b i h 3).toNat (dI b i) (hN h) [] hd.next (λt ht=>by cases ht)
 have h2:(Yn b i h p).2.2.length=(dR b i h 3).toNat+0:=h2
 have h3: ∀t∈(Yn b i h p).2.2,Gs p t=true/\aC t:=h3
 refine ⟨h1,?_,by omega,⟨by omega,λt ht=>(h3 t ht).2⟩,λt ht=>(h3 t ht).1⟩
 exact Bj.2 ⟨Bj.2 ⟨hp.valid,Co (by omega)⟩,Az.2 λt ht=>(h3 t ht).1⟩
theorem m5.add {p:PP} (hp:Wb p) {ts:List TT} (h:m5 p ts) {t:TT} (ht:Gs p t=true):Gj p (ts++ [t])=true:=by
 have:=h.fG
 refine Bj.2 ⟨Bj.2 ⟨hp.valid,Co (by rw [As,Be];omega)⟩,Az.2 λt' KQ=>?_⟩
 rcases Bb.1 KQ with h4|h4
 ·exact h.valid t' h4
 ·rw [Ad.1 h4];exact ht
section
variable {p:PP} {ts:List TT} {s:List Int}
theorem Wb.found (hp:Wb p) (hs:s∈Ba p):Ql p s=true:=bp.2 ⟨hp.whole,hs⟩
theorem Wb.Aro (hp:Wb p) (ht:Gj p ts=true) (hs:s∈Ba p):Sk p ts s=true:=Bj.2 ⟨EB (hp.found hs),ht⟩
theorem Wb.Ah8 (hp:Wb p) (hs:s∈Ba p):dF p s=Lo (Ba p) (Dh p) s:=Ab (hp.found hs)
end
section
variable {α β:Type}
end
section
variable {p:PP}
theorem HL (hv:Bt p=true):(Ba p).Nodup:=(jF hv).nodup
end
theorem QZ {g:List (List Int)} {ls:List Int} {L:List (List Int)} {S:List Int->Prop} {dep:List Int->Int} (hc:fi g ls L) (hd:Mm g ls L S dep): ∀(n:Nat) (x w:List Int),x∈L->dep x=n->
  (eY g dep ls n x w).1.length=w.length+n/\(eY g dep ls n x w).2∈L/\S (eY g dep ls n x w).2
 |0,x,w,hx,e=>⟨rfl,hx,(hd.zero x hx).1 e⟩
 |n+1,x,w,hx,e=>by
  obtain ⟨l,hl,h1⟩:=hd.down x hx (by omega)
  rw [eY]
  split
  ·rename_i l' hf
   have h2:dep (Ag x (An g l'))=n:=Jg (List.find?_some (p:= λl=>decide (dep (Ag x (An g l))=n)) hf)
   have h3:=List.mem_of_find?_eq_some hf
   obtain ⟨a,b⟩:=QZ hc hd n _ (w++ [l']) (hc.next x hx l' h3) h2
   rw [As,Be] at a
   exact ⟨by omega,b⟩
  ·rename_i hf
   have:=List.find?_eq_none.1 hf l hl
   exact absurd (Co (show dep (Ag x (An g l))=n by omega)) this
section
variable {p:PP}
theorem Adf (hw:Gp p=true) {s:List Int} (hs:s∈Ba p):((Wp p s).length:Int)=Lo (Ba p) (Dh p) s/\(∀l∈Wp p s,l∈Av p.2.2.1.length)/\Je p.2.2.1 s (Wp p s)=upto p.1.toNat:=by
 have h0:=(Ub hw).nn s hs
 obtain ⟨a,b,c⟩:=QZ (Vu hw) (Ub hw) (Lo (Ba p) (Dh p) s).toNat s [] hs (by omega)
 obtain ⟨u,u1,u2⟩:=uU (g:=p.2.2.1) (dep:=Lo (Ba p) (Dh p)) (ls:=Av p.2.2.1.length) (Lo (Ba p) (Dh p) s).toNat s []
 refine ⟨?_,mR _ _ _ λl hl=>(by cases hl),?_⟩
 ·unfold Wp
  rw [a]
  simp only [Ex]
  omega
 ·unfold Wp
  rw [u1,iH,<-u2,c]
  exact (Si (Fe hw).1).1
variable {t:List Int}
end
theorem sK {g:List (List Int)} {ls:List Int} : ∀(f k:Nat) (L:List (List Int)) (D:List Int),Lv g ls k L D->k<=L.length->
  ∀i j,i<=j->j<(Ks g ls f k L D).1.length->(Ks g ls f k L D).2.1.getD i 0<=(Ks g ls f k L D).2.1.getD j 0
 |0,_,_,_,h,_=>by
  simp only [Ks]
  exact h.mono
 |f+1,k,L,D,h,hkL=>by
  simp only [Ks]
  split
  ·rename_i hk
   obtain ⟨a1,⟨A,a2⟩,⟨A',a3⟩,a4⟩:=ni (x:=L.getD k []) (d:=D.getD k 0) ls L D (λ_ h=>h) h hk rfl rfl
   split
   ·rename_i L' D' he
    rw [he] at a1 a2
    have a2:L'=L++A:=a2
    have hLl:L.length<=L'.length:=by rw [a2,As];omega
    refine sK f (k+1) L' D' ⟨a1.len,a1.pos,a1.mono,λhk1 j hj=>?_,a1.par,a1.zero⟩ (by omega)
    have h1:D'.getD j 0<=D'.getD k 0+1:=a1.zz (show k<L'.length by omega) j hj
    have h2:D'.getD k 0<=D'.getD (k+1) 0:=a1.mono k (k+1) (by omega) hk1
    omega
   ·rename_i L' D' he
    rw [he] at a1
    exact a1.mono
  ·exact h.mono
theorem DA (g:List (List Int)) (s:List Int): ∀i j,i<=j->j<(Gq g s).1.length->(Gq g s).2.1.getD i 0<=(Gq g s).2.1.getD j 0:=by
 refine sK 3001 0 [s] [0] ⟨rfl,by simp,λi j jh hj=>?_,λ_ j hj=>?_,λj h0 hj=>?_,rfl⟩ (Kd _)
 ·have:j=0:=by simpa using hj
  subst this
  have:i=0:=by omega
  subst this
  exact Kc _
 ·have:j=0:=by simpa using hj
  subst this
  simp
 ·have:j=0:=by simpa using hj
  omega
def yO (b:List Int):Prop:=b.length<=1048576/\ ∀y∈b,0<=y/\y<256
noncomputable abbrev MY:Spec:=Gw (.pair tB .unit) .bool false true (λx=>yO x.1) (λ_=>true)
theorem Aqo {code:List Int} (h:yO code) (hb: ¬(code.length:Int)>4096):Xl code 0:=⟨by omega,h.2,Kc _,by omega⟩
noncomputable abbrev eT:Spec:=Gw (.pair Hq (.pair tL (.pair tL .unit))) .bool false true (λx=>Bt x.1=true/\Pm x.1.1.toNat x.2.1/\Is (List.length x.1.2.2.1:Nat) x.2.2.1=true) (λx=>decide (Je x.1.2.2.1 x.2.1 x.2.2.1=upto x.1.1.toNat))
noncomputable def se (p:PP) (s w:List Int):Bool:=Ql p s&&(Is (List.length p.2.2.1:Nat) w&&(decide ((w.length:Int)=dF p s)&&decide (Je p.2.2.1 s w=upto p.1.toNat)))
noncomputable abbrev db:Spec:=Gw (.pair Hq (.pair tL (.pair tL .unit))) .bool false true (λx=>Eo x.1/\short x.2.1/\short x.2.2.1) (λx=>se x.1 x.2.1 x.2.2.1)
def Qg (g:List (List Int)) (L:List (List Int)) (D out:List Int) (k:Nat) (a l:Int):Int:=
 if D.getD (L.idxOf (Ag (L.getD k []) (An g l))) 0=D.getD k 0-1 then a+out.getD (L.idxOf (Ag (L.getD k []) (An g l))) 0 else a
def Pf (g:List (List Int)) (L:List (List Int)) (D:List Int):Nat->List Int
 |0=> [1]
 |k+1=>Pf g L D k++ [min ((Av g.length).foldl (Qg g L D (Pf g L D k) (k+1)) 0) 1000000000001]
noncomputable def lC (p:PP):List Int:=Pf p.2.2.1 (Ba p) (Dh p) ((Ba p).length-1)
noncomputable abbrev uD:Spec:=Gw (.pair Hq (.pair Zr .unit)) tL false true (λx=>Gp x.1=true/\x.2.1=Gr x.1.2.2.1 (upto x.1.1.toNat)) (λx=>lC x.1)
noncomputable def ju (p:PP) (s:List Int):Int:=if Ql p s=true then (if (lC p).getD ((Ba p).idxOf s) 0>1000000000000 then-1 else (lC p).getD ((Ba p).idxOf s) 0) else-1
noncomputable abbrev ah:Spec:=Gw (.pair Hq (.pair tL .unit)) tI false true (λx=>Eo x.1/\short x.2.1) (λx=>ju x.1 x.2.1)
theorem Ac9 (p:Int×ByteArray×List (List Int)×Unit) (s w:List Int) (P:Bool->Prop):(∃(y4:List Int),eO.fn ((p.1,p.2.1,p.2.2.1,()),s,w,())=some y4/\ ∃(y5:List Int),Dc.fn (p.1,())=some y5/\ ∃(y6:Bool),Dz.fn (y4,y5,())=some y6/\P y6)=fnW Fu (look [(108,eO),(96,Dc),(128,Dz)]) eT Tryz.f73 (p,s,w,()) P:=by kernel_rfl
theorem Af2 (p:Int×ByteArray×List (List Int)×Unit) (s w:List Int) (P:Bool->Prop):(∃(y4:(List (List Int)×List Int×List Int×Bool×PUnit)×Int×Bool×PUnit),Ra.fn ((p.1,p.2.1,p.2.2.1,()),s,())=some y4/\Br y4.2.2.1 (∃(y5:Bool),Nf.fn ((↑p.2.2.1.length:Int),w,())=some y5/\Br y5 (Br ((↑w.length:Int)==y4.2.1) (∃(y6:Bool),eT.fn ((p.1,p.2.1,p.2.2.1,()),s,w,())=some y6/\P y6) (P false)) (P false)) (P false))=fnW Fu (look [(52,Ra),(72,Nf),(73,eT)]) db Tryz.f29 (p,s,w,()) P:=by kernel_rfl
abbrev Ab4:Type:=Int×Int×Int×ByteArray×List (List Int)×List (List Int)×List Int×List Int×Bool×List Int×PUnit
abbrev Aba:Type:=Int×Int×ByteArray×List (List Int)×List (List Int)×List Int×List Int×Bool×List Int×PUnit
theorem Aon (p:Int×ByteArray×List (List Int)×Unit) (f:List (List Int)×List Int×List Int×Bool×Unit) (P:List Int->Prop):(∃(y3:List Int),Oi.fn ((p.1,p.2.1,p.2.2.1,()),())=some y3/\0=0/\1= [(1:Int)].length/\Dn (λ(v4:Aba) (k5:Aba->Prop)=>Br (decide (v4.1<(↑v4.2.2.2.2.1.length:Int))) (0=0/\v4.2.2.2.2.2.2.2.2.1.length=v4.2.2.2.2.2.2.2.2.1.length/\Dn (λ(v6:Ab4) (k7:Ab4->Prop)=>Br (decide (v6.2.1<(↑y3.length:Int))) (∃(y8:List Int),idx v6.2.2.2.2.2.1 v4.1=some y8/\ ∃(y9:Int),idx y3 v6.2.1=some y9/\ ∃(Ko:List Int),Qy.fn ((v6.2.2.1,v6.2.2.2.1,v6.2.2.2.2.1,()),y8,y9,())=some Ko/\ ∃(Iw:Int),Lr.fn ((v6.2.2.2.2.2.1,v6.2.2.2.2.2.2.1,v6.2.2.2.2.2.2.2.1,v6.2.2.2.2.2.2.2.2.1,()),Ko,())=some Iw/\ ∃(Jc:Int),idx v6.2.2.2.2.2.2.1 Iw=some Jc/\ ∃(Hr:Int),idx v6.2.2.2.2.2.2.1 v4.1=some Hr/\Br (Jc==IntKind.i64.wrap (Hr-(1:Int))) (((0:Int)<=Iw/\Iw<(↑v6.2.2.2.2.2.2.2.2.2.1.length:Int))/\ ∃(Io:Int),v6.2.2.2.2.2.2.2.2.2.1[0+Iw.toNat]?=some Io/\0=0/\v6.2.2.2.2.2.2.2.2.2.1.length=v6.2.2.2.2.2.2.2.2.2.1.length/\k7 (IntKind.i64.wrap (v6.1+Io),IntKind.i64.wrap (v6.2.1+(1:Int)),v6.2.2.1,v6.2.2.2.1,v6.2.2.2.2.1,v6.2.2.2.2.2.1,v6.2.2.2.2.2.2.1,v6.2.2.2.2.2.2.2.1,v6.2.2.2.2.2.2.2.2.1,v6.2.2.2.2.2.2.2.2.2.1,())) (0=0/\v6.2.2.2.2.2.2.2.2.2.1.length=v6.2.2.2.2.2.2.2.2.2.1.length/\k7 (v6.1,IntKind.i64.wrap (v6.2.1+(1:Int)),v6.2.2.1,v6.2.2.2.1,v6.2.2.2.2.1,v6.2.2.2.2.2.1,v6.2.2.2.2.2.2.1,v6.2.2.2.2.2.2.2.1,v6.2.2.2.2.2.2.2.2.1,v6.2.2.2.2.2.2.2.2.2.1,()))) (0=0/\v6.2.2.2.2.2.2.2.2.2.1.length=v6.2.2.2.2.2.2.2.2.2.1.length/\v6.2.2.2.2.2.2.2.2.2.1.length+(List.take 1 (List.drop 0 [if false=true then if (1000000000001:Int)>v6.1 then (1000000000001:Int) else v6.1 else if (1000000000001:Int)<v6.1 then (1000000000001:Int) else v6.1])).length<=Dk/\0=0/\(v6.2.2.2.2.2.2.2.2.2.1++List.take 1 (List.drop 0 [if false=true then if (1000000000001:Int)>v6.1 then (1000000000001:Int) else v6.1 else if (1000000000001:Int)<v6.1 then (1000000000001:Int) else v6.1])).length=(v6.2.2.2.2.2.2.2.2.2.1++List.take 1 (List.drop 0 [if false=true then if (1000000000001:Int)>v6.1 then (1000000000001:Int) else v6.1 else if (1000000000001:Int)<v6.1 then (1000000000001:Int) else v6.1])).length/\k5 (IntKind.i64.wrap (v4.1+(1:Int)),v6.2.2.1,v6.2.2.2.1,v6.2.2.2.2.1,v6.2.2.2.2.2.1,v6.2.2.2.2.2.2.1,v6.2.2.2.2.2.2.2.1,v6.2.2.2.2.2.2.2.2.1,v6.2.2.2.2.2.2.2.2.2.1++List.take 1 (List.drop 0 [if false=true then if (1000000000001:Int)>v6.1 then (1000000000001:Int) else v6.1 else if (1000000000001:Int)<v6.1 then (1000000000001:Int) else v6.1]),()))) ((0:Int),(0:Int),v4.2.1,v4.2.2.1,v4.2.2.2.1,v4.2.2.2.2.1,v4.2.2.2.2.2.1,v4.2.2.2.2.2.2.1,v4.2.2.2.2.2.2.2.1,v4.2.2.2.2.2.2.2.2.1,PUnit.unit)) (P (List.take v4.2.2.2.2.2.2.2.2.1.length (List.drop 0 v4.2.2.2.2.2.2.2.2.1)))) ((1:Int),p.1,p.2.1,p.2.2.1,f.1,f.2.1,f.2.2.1,f.2.2.2.1,[(1:Int)],PUnit.unit))=fnW Fu (look [(65,Oi),(66,Qy),(75,Lr)]) uD Tryz.f74 (p,f,()) P:=by kernel_rfl
theorem Ac6 (p:Int×ByteArray×List (List Int)×Unit) (s:List Int) (P:Int->Prop):(∃(y3:(List (List Int)×List Int×List Int×Bool×PUnit)×Int×Bool×PUnit),Ra.fn ((p.1,p.2.1,p.2.2.1,()),s,())=some y3/\Br (!y3.2.2.1) (P (-1:Int)) (∃(y4:List Int),uD.fn ((p.1,p.2.1,p.2.2.1,()),(y3.1.1,y3.1.2.1,y3.1.2.2.1,y3.1.2.2.2.1,()),())=some y4/\ ∃(y5:Int),Lr.fn ((y3.1.1,y3.1.2.1,y3.1.2.2.1,y3.1.2.2.2.1,()),s,())=some y5/\ ∃(y6:Int),idx y4 y5=some y6/\Br (decide (y6>(1000000000000:Int))) (P (-1:Int)) (P y6)))=fnW Fu (look [(52,Ra),(74,uD),(75,Lr)]) ah Tryz.f31 (p,s,()) P:=by kernel_rfl
theorem Aaf (p:PP) (s w:List Int) (h:Bt p=true/\Pm p.1.toNat s/\Is (List.length p.2.2.1:Nat) w=true):fnW Fu (look [(108,eO),(96,Dc),(128,Dz)]) eT Tryz.f73 (p,s,w,()) (λ(z:Bool)=>z=decide (Je p.2.2.1 s w=upto p.1.toNat)):=by
 have hn:=(valid h.1).n
 exact Eq.mp (Ac9 p s w _) ⟨_,Ab h,_,Ab ⟨by show 0<=p.1;omega,by show p.1<=20;omega⟩,_,Ab (jz (iL (valid h.1) w s (Uj h.2.2).2 h.2.1)),rfl⟩
theorem AQ:Sound Tryz.prog 73 eT:=
 Sound.Gw Dq (Ax wy (Ax Wz (Ax ia Bn))) mixed Tryz.func73 (by kernel_rfl) (by kernel_rfl) λx h=>Aaf x.1 x.2.1 x.2.2.1 h
theorem Aei (p:PP) (s w:List Int) (h:Eo p/\short s/\short w):fnW Fu (look [(52,Ra),(72,Nf),(73,eT)]) db Tryz.f29 (p,s,w,()) (λ(z:Bool)=>z=se p s w):=by
 refine Eq.mp (Af2 p s w _) ⟨_,Ab ⟨h.1,h.2.1⟩,?_⟩
 unfold se
 show Br (Ql p s) _ _
 refine Br.of (λhf=>?_) λhf=>by rw [hf];rfl
 obtain ⟨hw,hs⟩:=bp.1 hf
 have hv:=(Fe hw).1
 have hf2:=(valid hv).fG
 refine ⟨_,Ab ⟨h.2.2,by show (0:Int)<=(p.2.2.1.length:Int);omega,by show (p.2.2.1.length:Int)<=4294967296;omega⟩,?_⟩
 show Br (Is (List.length p.2.2.1:Nat) w) _ _
 refine Br.of (λhc=>?_) λhc=>by rw [hf,hc];rfl
 show Br ((w.length:Int)==dF p s) _ _
 refine Br.of (λhe=>?_) λhe=>?_
 ·refine ⟨_,Ab ⟨hv,ym hv hs,hc⟩,?_⟩
  rw [hf,hc,Co (eq_of_beq he)]
  rfl
 ·rw [hf,hc,Ep (λe=>by rw [e] at he;simp at he)]
  rfl
theorem HJ:Sound Tryz.prog 29 db:=
 Sound.Gw Dq (Ax gw (Ax pS (Ax AQ Bn))) mixed Tryz.func29 (by kernel_rfl) (by kernel_rfl) λx h=>Aei x.1 x.2.1 x.2.2.1 h
theorem AT {p:PP} (hw:Gp p=true):Cm p=(Gr p.2.2.1 (upto p.1.toNat),true,()):=by
 unfold Cm
 rw [Ab (Fe hw).1,hw]
theorem ee (g:List (List Int)) (L:List (List Int)) (D:List Int): ∀k,(Pf g L D k).length=k+1
 |0=>rfl
 |k+1=>by rw [Pf,As,ee g L D k];rfl
theorem DK {g:List (List Int)} {L:List (List Int)} {D out:List Int} {k:Nat} (ho: ∀j,0<=out.getD j 0/\out.getD j 0<=1000000000001) (a l:Int):a<=Qg g L D out k a l/\Qg g L D out k a l<=a+1000000000001:=by
 unfold Qg
 split
 ·have:=ho (L.idxOf (Ag (L.getD k []) (An g l)))
  omega
 ·omega
theorem iZ {g:List (List Int)} {L:List (List Int)} {D out:List Int} {k:Nat} (ho: ∀j,0<=out.getD j 0/\out.getD j 0<=1000000000001): ∀(ls:List Int) (a:Int),a<=ls.foldl (Qg g L D out k) a/\ls.foldl (Qg g L D out k) a<=a+ls.length*1000000000001
 | [],a=>by simp
 |l::ls,a=>by
  rw [Ds]
  have h1:=DK (g:=g) (L:=L) (D:=D) (k:=k) ho a l
  have h2:=iZ (g:=g) (L:=L) (D:=D) (k:=k) ho ls (Qg g L D out k a l)
  rw [Ay]
  push_cast
  omega
theorem xj (g:List (List Int)) (L:List (List Int)) (D:List Int): ∀k j,0<=(Pf g L D k).getD j 0/\(Pf g L D k).getD j 0<=1000000000001
 |0,j=>by
  rw [Pf]
  match j with
  |0=>exact ⟨by decide,by decide⟩
  |j+1=>exact ⟨by simp,by simp⟩
 |k+1,j=>by
  rw [Pf]
  have ih:=xj g L D k
  by_cases h:j<(Pf g L D k).length
  ·rw [Jk h]
   exact ih j
  ·by_cases e:j=(Pf g L D k).length
   ·rw [e,bq]
    have:=(iZ (g:=g) (L:=L) (D:=D) (k:=k+1) ih (Av g.length) 0).1
    omega
   ·rw [Aj,Dm (by rw [As,Be];omega)]
    exact ⟨by decide,by decide⟩
theorem Atn (v:Int):(if false=true then if (1000000000001:Int)>v then (1000000000001:Int) else v else if (1000000000001:Int)<v then (1000000000001:Int) else v)=min v 1000000000001:=by
 rw [Ai (by decide)]
 split<;>omega
theorem Anx (p:PP) (f:SS) (h:Gp p=true/\f=Gr p.2.2.1 (upto p.1.toNat)):fnW Fu (look [(65,Oi),(66,Qy),(75,Lr)]) uD Tryz.f74 (p,f,()) (λ(z:List Int)=>z=lC p):=by
 obtain ⟨hw,rfl⟩:=h
 have hv:=(Fe hw).1
 have hV:=valid hv
 have hn:=hV.n
 have hf8:=hV.fG.2
 have hb:=gy hv
 have PS:=Vu hw
 have Ai7:=DA p.2.2.1 (upto p.1.toNat)
 refine Eq.mp (Aon p _ _) ⟨_,Ab hf8,rfl,rfl,?_⟩
 obtain ⟨L,hL⟩: ∃L,Ba p=L:=⟨_,rfl⟩
 obtain ⟨D,hD⟩: ∃D,Dh p=D:=⟨_,rfl⟩
 have eL:(Gr p.2.2.1 (upto p.1.toNat)).1=L:=hL
 have eD:(Gr p.2.2.1 (upto p.1.toNat)).2.1=D:=hD
 obtain ⟨R,hR⟩: ∃R,(Gr p.2.2.1 (upto p.1.toNat)).2.2.1=R:=⟨_,rfl⟩
 have eR:R=aO L:=by rw [<-hR,<-hL];rfl
 obtain ⟨w,hwh⟩: ∃w,(Gr p.2.2.1 (upto p.1.toNat)).2.2.2.1=w:=⟨_,rfl⟩
 rw [eL,eD,hR,hwh]
 unfold lC
 rw [hL,hD]
 have WJ:Fm p.1.toNat L (aO L):=hL▸hb.ok
 have hbl:D.length=L.length:=by rw [<-hL,<-hD];exact hb.len
 have aZ: ∀x∈L,∀y∈x,0<=y/\y<p.1:=by rw [<-hL];exact hb.row
 have hbd: ∀j,j<L.length->0<=D.getD j 0/\D.getD j 0<=j:= λj hj=>by
  have:=hb.dep j (by show j<(Dh p).length;rw [hD];omega)
  rw [Hm (by omega)]
  have e:D[j]'(by omega)=(Gq p.2.2.1 (upto p.1.toNat)).2.1[j]'(by show j<(Dh p).length;rw [hD];omega):=by
   have:Dh p=D:=hD
   subst this
   rfl
  rw [e]
  exact this
 have SU: ∀x∈L,Pm p.1.toNat x:= λx hx=>ym hv (by rw [hL];exact hx)
 rw [hL] at PS
 have Am6: ∀i j,i<=j->j<L.length->D.getD i 0<=D.getD j 0:=by rw [<-hL,<-hD];exact Ai7
 have mq:=WJ.fG
 have KL:0<L.length:=by rw [<-hL];exact List.length_pos_of_mem (Si hv).2
 obtain ⟨n,str,g,u⟩:=p
 obtain rfl:u=():=rfl
 dsimp only at*
 have YM:(Av g.length).length=2*g.length:=Lj _
 refine Bu (L.length-1) (λv=>v.1-1) (λj v=>v.2=(n,str,g,L,D,R,w,Pf g L D j,())) rfl rfl ?_
 rintro j ⟨k',V⟩ K hj hk hV2 hK
 dsimp only at hk hV2
 obtain rfl:k'=((j+1:Nat):Int):=by omega
 subst hV2
 dsimp only
 have vS:=xj g L D j
 have Ami:=ee g L D j
 refine Br.dec (λhl=>?_) λhl=>?_
 ·have hl:j+1<L.length:=by omega
  refine ⟨rfl,rfl,?_⟩
  refine Bu (Av g.length).length (λv=>v.2.1) (λi v=>v.1=((Av g.length).take i).foldl (Qg g L D (Pf g L D j) (j+1)) 0/\v.2.2=(n,str,g,L,D,R,w,Pf g L D j,())) rfl ⟨rfl,rfl⟩ ?_
  rintro i ⟨a,i',V⟩ K2 hi kR ⟨ha,hV2⟩ hK2
  dsimp only at kR ha hV2
  subst hV2 kR ha
  dsimp only
  have hb2:=iZ (g:=g) (L:=L) (D:=D) (k:=j+1) vS ((Av g.length).take i) 0
  have htl:((Av g.length).take i).length<=16:=by rw [Dj];omega
  refine Br.dec (λtz=>?_) λtz=>?_
  ·have tz:i<(Av g.length).length:=by omega
   have hlm:=Ak tz
   have hx:=Ak hl
   have hnx:=PS.next _ hx _ hlm
   have vT:=SU _ hx
   have IW:=SU _ hnx
   obtain ⟨y,hy⟩: ∃y,Ag L[j+1] (An g (Av g.length)[i])=y:=⟨_,rfl⟩
   rw [hy] at hnx IW
   have IV:=My hnx
   have hD1:(j+1)<D.length:=by omega
   have hD2:L.idxOf y<D.length:=by omega
   have hgL:L.getD (j+1) []=L[j+1]:=Hm hl
   refine ⟨_,Cf hl,_,Cf tz,_,Ab ⟨hv,by show (L[j+1]).length<=20;have:=vT.1;omega,aZ _ hx,Kt hlm⟩,?_⟩
   have Aml:eH L y=((L.idxOf y:Nat):Int):=Ab hnx
   have e11:Lr.fn ((L,D,R,w,()),Ag L[j+1] (An g (Av g.length)[i]),())=some ((L.idxOf y:Nat):Int):=(Ab (show Fm (Ag L[j+1] (An g (Av g.length)[i])).length L R by rw [hy,IW.1,eR];exact WJ)).trans (Ga some (by show eH L (Ag L[j+1] (An g (Av g.length)[i]))=_;rw [hy,Aml]))
   refine ⟨_,e11,_,Cf hD2,_,Cf hD1,?_⟩
   have hd1:=hbd (j+1) hl
   have WK:=hbd (L.idxOf y) IV
   rw [Hm hD1] at hd1
   rw [Hm hD2] at WK
   have lv:((Av g.length).take (i+1)).foldl (Qg g L D (Pf g L D j) (j+1)) 0=Qg g L D (Pf g L D j) (j+1) (((Av g.length).take i).foldl (Qg g L D (Pf g L D j) (j+1)) 0) (Av g.length)[i]:=by
    rw [Hb,Ac tz,cD]
    rfl
   have vL: ∀a,Qg g L D (Pf g L D j) (j+1) a (Av g.length)[i]=if D[L.idxOf y]=D[j+1]-1 then a+(Pf g L D j).getD (L.idxOf y) 0 else a:= λa=>by
    unfold Qg
    rw [hgL,hy,Hm hD1,Hm hD2]
   rw [vL] at lv
   have ew:IntKind.i64.wrap (D[j+1]-1)=D[j+1]-1:=Cn (by omega) (by omega)
   rw [ew]
   refine Br.of (λhe=>?_) λhe=>?_
   ·have he:D[L.idxOf y]=D[j+1]-1:=eq_of_beq he
    rw [Ab he] at lv
    have Li:L.idxOf y<j+1:=by
     refine Nat.lt_of_not_le λhc=>?_
     have:=Am6 (j+1) (L.idxOf y) hc IV
     rw [Hm hD1,Hm hD2] at this
     omega
    have ho:=vS (L.idxOf y)
    have EK:L.idxOf y<(Pf g L D j).length:=by omega
    refine ⟨⟨by omega,by omega⟩,(Pf g L D j)[L.idxOf y],by rw [Ce,Au];exact Ac EK,rfl,rfl,?_⟩
    rw [Hm EK] at ho lv
    rw [Cn (by omega) (by omega),Bv (by omega)]
    exact hK2 tz _ rfl ⟨lv.symm,rfl⟩
   ·have he: ¬D[L.idxOf y]=D[j+1]-1:= λe=>by rw [e] at he;simp at he
    rw [Ai he] at lv
    rw [Bv (by omega)]
    exact ⟨rfl,rfl,hK2 tz _ rfl ⟨lv.symm,rfl⟩⟩
  ·have:i=(Av g.length).length:=by omega
   subst this
   refine ⟨rfl,rfl,by rw [Ami];show j+1+1<=4294967296;omega,rfl,rfl,?_⟩
   rw [Bv (by omega),Bd]
   refine hK (by omega) _ (by show (((j+1:Nat):Int)+1:Int)-1=_;omega) ?_
   simp only [Fw,List.take_succ_cons,List.take_zero]
   rw [Atn]
   rfl
 ·have:j=L.length-1:=by omega
  subst this
  rw [Cc]
theorem UT:Sound Tryz.prog 74 uD:=
 Sound.Gw Dq (Ax ib (Ax gr (Ax bg Bn))) mixed Tryz.func74 (by kernel_rfl) (by kernel_rfl) λx h=>Anx x.1 x.2.1 h
theorem Aac (p:PP) (s:List Int) (h:Eo p/\short s):fnW Fu (look [(52,Ra),(74,uD),(75,Lr)]) ah Tryz.f31 (p,s,()) (λ(z:Int)=>z=ju p s):=by
 refine Eq.mp (Ac6 p s _) ⟨_,Ab h,?_⟩
 unfold ju
 show Br (!Ql p s) _ _
 refine Br.of (λhb=>by rw [Ai (Hj hb)]) λhb=>?_
 have hf:=Hk hb
 obtain ⟨hw,hs⟩:=bp.1 hf
 have hv:=(Fe hw).1
 rw [Ab hf]
 have es:(Cm p).1=Gr p.2.2.1 (upto p.1.toNat):=by rw [AT hw]
 have e4:uD.fn ((p.1,p.2.1,p.2.2.1,()),((Cm p).1.1,(Cm p).1.2.1,(Cm p).1.2.2.1,(Cm p).1.2.2.2.1,()),())=some (lC p):=Ab ⟨hw,by rw [es]⟩
 have e5:Lr.fn (((Cm p).1.1,(Cm p).1.2.1,(Cm p).1.2.2.1,(Cm p).1.2.2.2.1,()),s,())=some (((Ba p).idxOf s:Nat):Int):=(Ab (show Fm s.length (Cm p).1.1 (Cm p).1.2.2.1 by rw [es,(ym hv hs).1];exact (gy hv).ok)).trans (Ga some (by
  show eH (Cm p).1.1 s=_
  rw [es]
  exact Ab hs))
 have IV:=My hs
 have Qj:(lC p).length=(Ba p).length:=by
  unfold lC
  rw [ee]
  omega
 refine ⟨_,e4,_,e5,_,Cf (by omega),?_⟩
 rw [Hm (by omega)]
 refine Br.dec (λhd=>by rw [Ab hd]) λhd=>by rw [Ai hd]
theorem AO:Sound Tryz.prog 31 ah:=
 Sound.Gw Dq (Ax gw (Ax UT (Ax bg Bn))) mixed Tryz.func31 (by kernel_rfl) (by kernel_rfl) λx h=>Aac x.1 x.2.1 h
theorem Acg {n:Nat} {w:List Int} (h8:n<=8) (hl:w.length<=200) (h: ∀y∈w,Fo n y):Is (n:Int) w=true:=by
 refine Bj.2 ⟨Co hl,?_⟩
 cases e:List.any w λy=>!IZ (ik (n:Int)) y with
 |false=>rfl
 |true=>
  obtain ⟨y,hy,h1⟩:=Fh.1 e
  have h2:=h y hy
  have:IZ (ik (n:Int)) y=true:=by
   unfold Fo at h2
   have e8:ik (n:Int)=n:=Ai (by omega)
   rw [e8]
   exact Co h2
  rw [this] at h1
  cases h1
variable {p:PP} {ts:List TT} {s:List Int}
noncomputable abbrev dp (p:PP):List Int->Int:=Lo (Ba p) (Dh p)
theorem yP (p:PP) (ts:List TT) (s:List Int) (k:Nat) (all:Bool):Ue p ts s (k:Int) all=vG p.2.2.1 (aJ ts) (upto p.1.toNat) (Av p.2.2.1.length) (k:Int) (k+1) s [] (0,0,[],false,all,()):=by
 unfold Ue Anr
 rw [show ((k:Int)-(([]:List Int).length:Int)).toNat=k by simp]
 rfl
theorem Abf: ∀ {f:Nat},f<=7->tN f<=20000:= λ {f} h=>by
 match f,h with
 |0,_=>decide
 |1,_=>decide
 |2,_=>decide
 |3,_=>decide
 |4,_=>decide
 |5,_=>decide
 |6,_=>decide
 |7,_=>decide
theorem HV (_:kl p.2.2.1 (Av p.2.2.1.length) (upto p.1.toNat) (Ba p) (dp p) (aJ ts)):Up p.2.2.1 (Av p.2.2.1.length) (dp p) s []:= λh=>by
 have:=Kt h
 unfold Fo Jm at this
 simp at this
theorem Adc (hw:Gp p=true) (ht:Gj p ts=true) (h2:p.2.2.1.length=2) (hs:s∈Ba p) {k:Nat} (hk:k<=6) (hd:(k:Int)<dp p s) (all:Bool):
  (Ue p ts s (k:Int) all).2.2.2.1=false/\(Ue p ts s (k:Int) all).2.1=0/\Kv (Ue p ts s (k:Int) all)=false:=by
 have S:=AD hw ht h2
 rw [yP]
 obtain ⟨a1,_⟩:=fb (g:=p.2.2.1) (low:=aJ ts) (one:=upto p.1.toNat) (depth:=(k:Int)) S.fG (k+1) s [] (0,0,[],false,all,()) rfl (by have:=Abf (f:=k+1) (by omega);show (0:Int)+tN (k+1)<=20000;omega)
 obtain ⟨b1,_⟩:=BK (depth:=(k:Int)) S (k+1) s [] (0,0,[],false,all,()) hs (by simpa using hd)
 refine ⟨a1,b1,?_⟩
 unfold Kv
 rw [a1,b1]
 rfl
theorem XO (hw:Gp p=true) (ht:Gj p ts=true) (h2:p.2.2.1.length=2) (hs:s∈Ba p) {k:Nat} (hk:k<=6) (hd:dp p s=k):
  (Ue p ts s (k:Int) false).2.2.2.1=false/\(Ue p ts s (k:Int) false).2.1=1/\(Ue p ts s (k:Int) false).2.2.1=Wp p s/\Kv (Ue p ts s (k:Int) false)=true:=by
 have S:=AD hw ht h2
 have hn:(0:Int)+tN (k+1)<=20000:=by have:=Abf (f:=k+1) (by omega);omega
 have Jt:(Ue p ts s (k:Int) false).2.2.2.2.1=false:=by
  rw [yP]
  exact Ga Prod.fst (BJ (k+1) s [] _)
 rw [yP] at Jt⊢
 obtain ⟨a1,_⟩:=fb (g:=p.2.2.1) (low:=aJ ts) (one:=upto p.1.toNat) (depth:=(k:Int)) S.fG (k+1) s [] (0,0,[],false,false,()) rfl hn
 obtain ⟨b1,b2⟩:=RJ (depth:=(k:Int)) S k s [] (0,0,[],false,false,()) hs hd (by simp) rfl rfl rfl hn (HV S)
 refine ⟨a1,b1,?_,?_⟩
 ·rw [b2]
  unfold Wp
  rw [show (Lo (Ba p) (Dh p) s).toNat=k by rw [show Lo (Ba p) (Dh p) s=dp p s from rfl,hd,Au]]
 ·unfold Kv
  rw [a1,b1,Jt]
  rfl
theorem Adb (hw:Gp p=true) (ht:Gj p ts=true) (h2:p.2.2.1.length=2) (hs:s∈Ba p) {k:Nat} (hk:k<=6) (hd:dp p s=k):
  (Ue p ts s (k:Int) true).2.2.2.1=false/\(Ue p ts s (k:Int) true).2.1=il p.2.2.1 (dp p) (Av p.2.2.1.length) k s:=by
 have S:=AD hw ht h2
 have hn:(0:Int)+tN (k+1)<=20000:=by have:=Abf (f:=k+1) (by omega);omega
 rw [yP]
 obtain ⟨a1,_⟩:=fb (g:=p.2.2.1) (low:=aJ ts) (one:=upto p.1.toNat) (depth:=(k:Int)) S.fG (k+1) s [] (0,0,[],false,true,()) rfl hn
 refine ⟨a1,?_⟩
 have:=Abt (depth:=(k:Int)) S k s [] (0,0,[],false,true,()) hs hd (by simp) rfl rfl hn (HV S)
 rw [this]
 exact Int.zero_add _
theorem DV {h:Int->Int} {c:Int} : ∀(xs:List Int) (a:Int),(∀x∈xs,0<=h x/\h x<=c)->a<=xs.foldl (λa l=>a+h l) a/\xs.foldl (λa l=>a+h l) a<=a+xs.length*c
 | [],a,_=>by simp
 |x::xs,a,hx=>by
  rw [Ds]
  have h1:=hx x (by simp)
  have h2:=DV xs (a+h x) λy hy=>hx y (Ao _ hy)
  rw [Ay]
  push_cast
  rw [Int.add_mul]
  omega
theorem sP {g:List (List Int)} {D:List Int->Int} {ls:List Int} (h4:ls.length<=4): ∀(n:Nat) (s:List Int),0<=il g D ls n s/\il g D ls n s<=4^n
 |0,s=>⟨by rw [il];decide,by rw [il];decide⟩
 |n+1,s=>by
  rw [il]
  have hp:(0:Int)<=4^n:=Int.pow_nonneg (by decide)
  have:=DV (h:= λl=>if D (Ag s (An g l))=n then il g D ls n (Ag s (An g l)) else 0) (c:=4^n) ls 0 λx _=>by
   split
   ·exact sP h4 n _
   ·exact ⟨Kc _,hp⟩
  have h5:(ls.length:Int)*4^n<=4*4^n:=Int.mul_le_mul_of_nonneg_right (by omega) hp
  have h6:(4:Int)^(n+1)=4*4^n:=by rw [Int.pow_succ,Int.mul_comm]
  omega
theorem oY (g:List (List Int)) (L:List (List Int)) (D:List Int): ∀(K j:Nat),j<=K->(Pf g L D K).getD j 0=(Pf g L D j).getD j 0
 |0,j,h=>by
  obtain rfl:j=0:=by omega
  rfl
 |K+1,j,h=>by
  by_cases e:j=K+1
  ·rw [e]
  ·have hl:=ee g L D K
   rw [Pf,Jk (by omega)]
   exact oY g L D K j (by omega)
theorem sZ {f h:Int->Int->Int} : ∀(xs:List Int) (a:Int),(∀b,∀x∈xs,f b x=h b x)->xs.foldl f a=xs.foldl h a
 | [],_,_=>rfl
 |x::xs,a,hx=>by
  rw [Ds,Ds,hx a x (by simp)]
  exact sZ xs _ λb y hy=>hx b y (Ao _ hy)
theorem Ao9 {a b:Nat} (h:a<=b):(4:Int)^a<=4^b:=by
 have:=Nat.pow_le_pow_right (n:=4) (by decide) h
 exact_mod_cast this
theorem PB (hw:Gp p=true) (h2:p.2.2.1.length=2): ∀(n:Nat),n<=15-> ∀j,j<(Ba p).length->(Dh p).getD j 0=n->
  (Pf p.2.2.1 (Ba p) (Dh p) j).getD j 0=il p.2.2.1 (dp p) (Av p.2.2.1.length) n ((Ba p).getD j [])
 |0,_,j,hj,hd=>by
  have s9:=HL (Fe hw).1
  have h0:0<(Ba p).length:=by omega
  have e:=fD (D:=Dh p) s9 hj
  have hz:=((Ub hw).zero _ (Wi hj)).1 (by rw [e,hd];rfl)
  have e0:j=0:=by
   have:=bZ s9 hj
   rw [hz,bZ s9 h0] at this
   exact this.symm
  subst e0
  rfl
 |n+1,hn,j,hj,hd=>by
  have hv:=(Fe hw).1
  have s9:=HL hv
  have hb:=gy hv
  have Art:(Dh p).getD 0 0=0:=by
   have h0:0<(Ba p).length:=by omega
   have e:=fD (D:=Dh p) s9 h0
   have:=((Ub hw).zero _ (Wi h0)).2 rfl
   rw [e] at this
   exact this
  match j,hj,hd with
  |0,hj,hd=>exact absurd (Art.symm.trans hd) (by simp;omega)
  |j+1,hj,hd=>
   have hl:=ee p.2.2.1 (Ba p) (Dh p) j
   have hx:=Wi (L:=Ba p) hj
   have h4:(Av p.2.2.1.length).length<=4:=by rw [Lj,h2];exact Ap _
   rw [Pf,<-hl,bq,hl]
   have e:(Av p.2.2.1.length).foldl (Qg p.2.2.1 (Ba p) (Dh p) (Pf p.2.2.1 (Ba p) (Dh p) j) (j+1)) 0=il p.2.2.1 (dp p) (Av p.2.2.1.length) (n+1) ((Ba p).getD (j+1) []):=by
    rw [il]
    refine sZ _ _ λb l hlm=>?_
    have hy:=(Vu hw).next _ hx l hlm
    obtain ⟨y,hye⟩: ∃y,Ag ((Ba p).getD (j+1) []) (An p.2.2.1 l)=y:=⟨_,rfl⟩
    unfold Qg
    rw [hye] at hy⊢
    have IV:=My hy
    have hdy:dp p y=(Dh p).getD ((Ba p).idxOf y) 0:=Ab hy
    have hgy:(Ba p).getD ((Ba p).idxOf y) []=y:=by rw [Hm IV];exact List.getElem_idxOf IV
    rw [hd,<-hdy,show ((n+1:Nat):Int)-1=n by omega]
    by_cases hc:dp p y=n
    ·rw [Ab hc,Ab hc]
     have Li:(Ba p).idxOf y<=j:=by
      refine Nat.le_of_not_lt λhgt=>?_
      have:=DA p.2.2.1 (upto p.1.toNat) (j+1) ((Ba p).idxOf y) hgt IV
      have this:(Dh p).getD (j+1) 0<=(Dh p).getD ((Ba p).idxOf y) 0:=this
      rw [hd,<-hdy,hc] at this
      omega
     rw [oY _ _ _ j _ Li,PB hw h2 n (by omega) _ IV (by rw [<-hdy,hc]),hgy]
    ·rw [Ai hc,Ai hc,Int.add_zero]
   rw [e]
   have Arh:=(sP (g:=p.2.2.1) (D:=dp p) h4 (n+1) ((Ba p).getD (j+1) [])).2
   have hp:(4:Int)^(n+1)<=4^16:=Ao9 (by omega)
   have:(4:Int)^16<=1000000000001:=by decide
   omega
theorem TP (hw:Gp p=true) (h2:p.2.2.1.length=2) (hs:s∈Ba p) {k:Nat} (hk:k<=15) (hd:dp p s=k):ju p s=il p.2.2.1 (dp p) (Av p.2.2.1.length) k s:=by
 have IV:=My hs
 have hdy:dp p s=(Dh p).getD ((Ba p).idxOf s) 0:=Ab hs
 have hgy:(Ba p).getD ((Ba p).idxOf s) []=s:=by rw [Hm IV];exact List.getElem_idxOf IV
 have h4:(Av p.2.2.1.length).length<=4:=by rw [Lj,h2];exact Ap _
 have Arh:=(sP (g:=p.2.2.1) (D:=dp p) h4 k s).2
 have hp:(4:Int)^k<=4^15:=Ao9 (by omega)
 have:(4:Int)^15<=1000000000000:=by decide
 have e:(lC p).getD ((Ba p).idxOf s) 0=il p.2.2.1 (dp p) (Av p.2.2.1.length) k s:=by
  unfold lC
  rw [oY _ _ _ _ _ (by omega),PB hw h2 k hk _ IV (by rw [<-hdy,hd]),hgy]
 unfold ju
 rw [Ab (bp.2 ⟨hw,hs⟩),e,Ai (by omega)]
theorem TA (hw:Gp p=true) (hs:s∈Ba p) (hd:dp p s<=200):se p s (Wp p s)=true:=by
 obtain ⟨a,b,c⟩:=Adf hw hs
 have hf:=bp.2 ⟨hw,hs⟩
 have hV:=valid (Fe hw).1
 have a:((Wp p s).length:Int)=dp p s:=a
 refine Bj.2 ⟨hf,Bj.2 ⟨Acg hV.fG.2 (by omega) λy hy=>Kt (b y hy),Bj.2 ⟨Co ?_,Co c⟩⟩⟩
 rw [a]
 exact (Ab hf).symm
theorem Ac4 (code:List Int) (P:Bool->Prop):(∃(y2:Bool),yb.fn (code,())=some y2/\Br y2 (P true) (∃(y3:(List Int×Int×Int×PUnit)×PUnit),pK.fn (code,(1114:Int),())=some y3/\ ∃(y4:(List Int×Int×Int×Int×ByteArray×List (List Int)×PUnit)×PUnit),yg.fn (y3.1.1,y3.1.2.1,y3.1.2.2.1,())=some y4/\ ∃(y5:(List Int×Int×Int×List (List Int×List (List Int)×List Int×PUnit)×PUnit)×PUnit),pL.fn (y4.1.1,y4.1.2.1,y4.1.2.2.1,y4.1.2.2.2.1,y4.1.2.2.2.2.1,List.take y4.1.2.2.2.2.2.1.length (List.drop 0 y4.1.2.2.2.2.2.1),())=some y5/\ ∃(y6:(List Int×Int×Int×List Int×PUnit)×PUnit),yh.fn (y5.1.1,y5.1.2.1,y5.1.2.2.1,y4.1.2.2.2.1,y4.1.2.2.2.2.1,List.take y4.1.2.2.2.2.2.1.length (List.drop 0 y4.1.2.2.2.2.2.1),())=some y6/\ ∃(y7:Int),mN.fn ((y4.1.2.2.2.1,y4.1.2.2.2.2.1,List.take y4.1.2.2.2.2.2.1.length (List.drop 0 y4.1.2.2.2.2.2.1),()),y6.1.2.2.2.1,())=some y7/\Br (decide (y7>(5:Int))) (P true) (Br (decide (y7>(0:Int))) (∃(y8:Bool),Ug.fn ((y4.1.2.2.2.1,y4.1.2.2.2.2.1,List.take y4.1.2.2.2.2.2.1.length (List.drop 0 y4.1.2.2.2.2.2.1),()),List.take y5.1.2.2.2.1.length (List.drop 0 y5.1.2.2.2.1),y6.1.2.2.2.1,IntKind.i64.wrap (y7-(1:Int)),())=some y8/\Br (!y8) (P false) (∃(y9:(List Int×Int×Int×PUnit)×PUnit),ag.fn (y4.1.2.2.2.1,y4.1.2.2.2.2.1,List.take y4.1.2.2.2.2.2.1.length (List.drop 0 y4.1.2.2.2.2.2.1),List.take y5.1.2.2.2.1.length (List.drop 0 y5.1.2.2.2.1),y6.1.2.2.2.1,y7,())=some y9/\Br (y9.1.2.2.1==(1:Int)) (∃(Ko:Bool),db.fn ((y4.1.2.2.2.1,y4.1.2.2.2.2.1,List.take y4.1.2.2.2.2.2.1.length (List.drop 0 y4.1.2.2.2.2.2.1),()),y6.1.2.2.2.1,List.take y9.1.1.length (List.drop 0 y9.1.1),())=some Ko/\Br Ko (∃(Iw:Bool),Ug.fn ((y4.1.2.2.2.1,y4.1.2.2.2.2.1,List.take y4.1.2.2.2.2.2.1.length (List.drop 0 y4.1.2.2.2.2.2.1),()),List.take y5.1.2.2.2.1.length (List.drop 0 y5.1.2.2.2.1),y6.1.2.2.2.1,y7,())=some Iw/\Br (!Iw) (∃(Jc:Int),dc.fn ((y4.1.2.2.2.1,y4.1.2.2.2.2.1,List.take y4.1.2.2.2.2.2.1.length (List.drop 0 y4.1.2.2.2.2.2.1),()),List.take y5.1.2.2.2.1.length (List.drop 0 y5.1.2.2.2.1),y6.1.2.2.2.1,y7,())=some Jc/\ ∃(Hr:Int),ah.fn ((y4.1.2.2.2.1,y4.1.2.2.2.2.1,List.take y4.1.2.2.2.2.2.1.length (List.drop 0 y4.1.2.2.2.2.2.1),()),y6.1.2.2.2.1,())=some Hr/\P (Jc==Hr)) (P false)) (P false)) (P false))) (∃(y8:(List Int×Int×Int×PUnit)×PUnit),ag.fn (y4.1.2.2.2.1,y4.1.2.2.2.2.1,List.take y4.1.2.2.2.2.2.1.length (List.drop 0 y4.1.2.2.2.2.2.1),List.take y5.1.2.2.2.1.length (List.drop 0 y5.1.2.2.2.1),y6.1.2.2.2.1,y7,())=some y8/\Br (y8.1.2.2.1==(1:Int)) (∃(y9:Bool),db.fn ((y4.1.2.2.2.1,y4.1.2.2.2.2.1,List.take y4.1.2.2.2.2.2.1.length (List.drop 0 y4.1.2.2.2.2.2.1),()),y6.1.2.2.2.1,List.take y8.1.1.length (List.drop 0 y8.1.1),())=some y9/\Br y9 (∃(Ko:Bool),Ug.fn ((y4.1.2.2.2.1,y4.1.2.2.2.2.1,List.take y4.1.2.2.2.2.2.1.length (List.drop 0 y4.1.2.2.2.2.2.1),()),List.take y5.1.2.2.2.1.length (List.drop 0 y5.1.2.2.2.1),y6.1.2.2.2.1,y7,())=some Ko/\Br (!Ko) (∃(Iw:Int),dc.fn ((y4.1.2.2.2.1,y4.1.2.2.2.2.1,List.take y4.1.2.2.2.2.2.1.length (List.drop 0 y4.1.2.2.2.2.2.1),()),List.take y5.1.2.2.2.1.length (List.drop 0 y5.1.2.2.2.1),y6.1.2.2.2.1,y7,())=some Iw/\ ∃(Jc:Int),ah.fn ((y4.1.2.2.2.1,y4.1.2.2.2.2.1,List.take y4.1.2.2.2.2.2.1.length (List.drop 0 y4.1.2.2.2.2.2.1),()),y6.1.2.2.2.1,())=some Jc/\P (Iw==Jc)) (P false)) (P false)) (P false)))))=fnW (pU [gq+4,jy]) (look [(8,yb),(9,pK),(10,yg),(11,pL),(12,yh),(13,mN),(27,Ug),(28,ag),(29,db),(30,dc),(31,ah)]) MY Tryz.f5 (code,()) P:=by kernel_rfl
theorem Aaa (code:List Int) (h:yO code):fnW (pU [gq+4,jy]) (look [(8,yb),(9,pK),(10,yg),(11,pL),(12,yh),(13,mN),(27,Ug),(28,ag),(29,db),(30,dc),(31,ah)]) MY Tryz.f5 (code,()) (λ(z:Bool)=>z=true):=by
 refine Eq.mp (Ac4 code _) ⟨_,Ab trivial,Br.dec (λ_=>rfl) λhb=>?_⟩
 have hb: ¬(code.length:Int)>4096:=hb
 have hd0:=Aqo h hb
 refine ⟨_,Ab (show code.length<=4096 by omega),_,Ab hd0,?_⟩
 obtain ⟨hp,hd1⟩:=OC hd0 (po code 1114)
 obtain ⟨W,hW⟩: ∃W,aK code 0 (po code 1114)=W:=⟨_,rfl⟩
 rw [hW] at hp hd1
 simp only [hW,Cc]
 obtain ⟨i1,h1,n,str,g,u⟩:=W
 obtain rfl:u=():=rfl
 dsimp only at hp hd1⊢
 have hs:=hp.short
 refine ⟨_,Ab ⟨hd1,hs,hp.valid⟩,?_⟩
 obtain ⟨WK,ht⟩:=Aez hp hd1 h1
 obtain ⟨W,hW⟩: ∃W,Yn code i1 h1 (n,str,g,())=W:=⟨_,rfl⟩
 rw [hW] at WK ht
 simp only [hW]
 obtain ⟨i2,h2,ts⟩:=W
 dsimp only at WK ht⊢
 refine ⟨_,Ab ⟨WK,hs,hp.valid,hp.two⟩,?_⟩
 obtain ⟨hd3,Pn⟩:=Ajp hp WK h2
 obtain ⟨W,hW⟩: ∃W,o0 code i2 h2 (n,str,g,())=W:=⟨_,rfl⟩
 rw [hW] at hd3 Pn
 simp only [hW]
 obtain ⟨i3,h3,s⟩:=W
 dsimp only at hd3 Pn⊢
 clear hW
 have hw:=hp.whole
 have hss:short s:=jz (ym hp.valid Pn)
 obtain ⟨d,hd⟩: ∃d,dp (n,str,g,()) s=d:=⟨_,rfl⟩
 have e7:mN.fn ((n,str,g,()),s,())=some d:=(Ab ⟨hs,hss⟩).trans (Ga some ((hp.Ah8 Pn).trans hd))
 have hdn:0<=d:=by rw [<-hd];exact (Ub hw).nn s Pn
 refine ⟨_,e7,Br.dec (λ_=>by trivial) λh5=>?_⟩
 have h5:d<=5:=by omega
 obtain ⟨k,rfl⟩:=Mw hdn
 have Alx:=hp.Aro ht.set Pn
 have Afu: ∀j:Int,0<=j->j<=30->Ro (n,str,g,()) ts s j=true:= λj h0 h30=>bN.2 ⟨Alx,h0,h30⟩
 obtain ⟨n1,n2,n3,n4⟩:=XO hw ht.set hp.two Pn (k:=k) (by omega) hd
 obtain ⟨a1,a2⟩:=Adb hw ht.set hp.two Pn (k:=k) (by omega) hd
 have ec:=Afu (k:Int) (by omega) (by omega)
 obtain ⟨v,hv⟩: ∃v,(Ue (n,str,g,()) ts s (k:Int) false).1=v:=⟨_,rfl⟩
 have e9:ag.fn (n,str,g,ts,s,(k:Int),())=some ((Wp (n,str,g,()) s,v,1,()),()):=(Ab ⟨hs,ht.short,hss⟩).trans (Ga some (by
  show (zu (n,str,g,()) ts s (k:Int),())=_
  unfold zu LJ
  rw [Ab ec,n1,Ai (by decide),n2,Ai (by decide),n3,hv]))
 have hlen:=XP hw Pn
 have ho:=TA hw Pn (by rw [hd];omega)
 have e10:db.fn ((n,str,g,()),s,Wp (n,str,g,()) s,())=some true:=(Ab ⟨hs,hss,by show (Wp (n,str,g,()) s).length<=4294967296;omega⟩).trans (Ga some ho)
 have e11:Ug.fn ((n,str,g,()),ts,s,(k:Int),())=some false:=(Ab ⟨hs,ht.short,hss⟩).trans (Ga some (by
  show Oh (n,str,g,()) ts s (k:Int)=false
  unfold Oh
  rw [Bool.and_eq_false_iff]
  refine Or.inr (List.all_eq_false.2 ⟨k,Dl.2 (by omega),?_⟩)
  rw [n4]
  decide))
 have e12:dc.fn ((n,str,g,()),ts,s,(k:Int),())=some (il g (dp (n,str,g,())) (Av g.length) k s):=(Ab ⟨hs,ht.short,hss⟩).trans (Ga some (by
  show nZ (n,str,g,()) ts s (k:Int)=_
  unfold nZ
  rw [Ab ec,a1,Ai (by decide),a2]))
 have e13:ah.fn ((n,str,g,()),s,())=some (il g (dp (n,str,g,())) (Av g.length) k s):=(Ab ⟨hs,hss⟩).trans (Ga some (TP hw hp.two Pn (by omega) hd))
 refine Br.dec (λh0=>?_) λ_=>?_
 ·have e8:Ug.fn ((n,str,g,()),ts,s,IntKind.i64.wrap ((k:Int)-1),())=some true:=(Ab ⟨hs,ht.short,hss⟩).trans (Ga some (by
   show Oh (n,str,g,()) ts s (IntKind.i64.wrap ((k:Int)-1))=true
   rw [Cn (by omega) (by omega)]
   unfold Oh
   refine Bj.2 ⟨Afu _ (by omega) (by omega),Az.2 λj hj=>?_⟩
   have hj:=Dl.1 hj
   rw [(Adc hw ht.set hp.two Pn (k:=j) (by omega) (by rw [hd];omega) false).2.2]
   rfl))
  refine ⟨_,e8,Br.of (λhc=>by simp at hc) λ_=>⟨_,e9,Br.of (λ_=>⟨_,e10,Br.of (λ_=>⟨_,e11,Br.of (λ_=>⟨_,e12,_,e13,beq_self_eq_true _⟩) λhc=>by simp at hc⟩) λhc=>by simp at hc⟩) λhc=>by simp at hc⟩⟩
 ·refine ⟨_,e9,Br.of (λ_=>⟨_,e10,Br.of (λ_=>⟨_,e11,Br.of (λ_=>⟨_,e12,_,e13,beq_self_eq_true _⟩) λhc=>by simp at hc⟩) λhc=>by simp at hc⟩) λhc=>by simp at hc⟩
theorem AM:Sound Tryz.prog 5 MY:=
 Sound.Gw (pV [gq+4,jy]) (Ax US (Gb NK (Gb VA (Gb NM (Gb VB (Ax NH (Ax pP (Gb AL (Ax HJ (Ax rJ (Ax AO Bn))))))))))) mixed Tryz.func5 (by kernel_rfl) (by kernel_rfl) λx h=>Aaa x.1 h
end Go.Proofs.YtkkdpknjohcekaaGreat
