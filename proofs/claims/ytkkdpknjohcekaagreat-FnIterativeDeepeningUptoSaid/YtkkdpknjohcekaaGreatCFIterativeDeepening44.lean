/-
  Part 45 of the proof that the statement FnIterativeDeepening holds.
-/
import Derived.Test.YtkkdpknjohcekaaGreatCFIterativeDeepening43
namespace Go.Proofs.YtkkdpknjohcekaaGreat
open Go.RowKit
section
variable {Q:List Int->Prop} {code:List Int->Nat} {B:Nat}
theorem XB (inj: ∀x y,Q x->Q y->code x=code y->x=y) (lt: ∀x,Q x->code x<B) {L:List (List Int)} (hQ: ∀y∈L,Q y) (hn:L.Nodup):L.length<=B:=by
 have h1:(L.map code).Nodup:=by
  unfold List.Nodup
  rw [List.pairwise_map]
  exact List.Pairwise.imp_of_mem (λha hb Jl he=>Jl (inj _ _ (hQ _ ha) (hQ _ hb) he)) hn
 have h2:=tS h1 (l2:=List.range B) λx hx=>by
  obtain ⟨y,hy,rfl⟩:=Bj.1 hx
  exact Es.2 (lt y (hQ y hy))
 simpa using h2
theorem lL (hB:B<3000) (inj: ∀x y,Q x->Q y->code x=code y->x=y) (lt: ∀x,Q x->code x<B) {g:List (List Int)} {x:List Int} {d:Int} :
  ∀(ls:List Int) (L:List (List Int)) (D:List Int),(∀l∈ls,Q (Af x (Am g l)))->(∀y∈L,Q y)->L.Nodup->
   (Jk g x d ls L D).2.2=true/\(∀y∈(Jk g x d ls L D).1,Q y)/\(Jk g x d ls L D).1.Nodup
 | [],L,D,_,hQ,hn=>⟨rfl,hQ,hn⟩
 |l::ls,L,D,hl,hQ,hn=>by
  have Mb: ∀l∈ls,Q (Af x (Am g l)):= λl h=>hl l (Ao _ h)
  rw [Jk]
  split
  ·exact lL hB inj lt ls L D Mb hQ hn
  ·rename_i hni
   have:=XB inj lt hQ hn
   rw [Ai (by omega)]
   refine lL hB inj lt ls _ _ Mb (λy hy=>?_) ?_
   ·rcases Ay.1 hy with h|h
    ·exact hQ y h
    ·rw [Ad.1 h];exact hl l (by simp)
   ·rw [Dr]
    exact ⟨hn,by simp,λa ha b hb e=>hni (by rw [Ad.1 hb] at e;rw [<-e];exact ha)⟩
theorem sB (hB:B<3000) (inj: ∀x y,Q x->Q y->code x=code y->x=y) (lt: ∀x,Q x->code x<B) {g:List (List Int)} {ls:List Int} (step: ∀x,Q x-> ∀l∈ls,Q (Af x (Am g l))):
  ∀(f k:Nat) (L:List (List Int)) (D:List Int),(∀y∈L,Q y)->L.Nodup->(Ma g ls f k L D).2.2=true
 |0,_,_,_,_,_=>rfl
 |f+1,k,L,D,hQ,hn=>by
  rw [Ma]
  split
  ·rename_i hk
   have hx:Q (L.getD k []):=by
    rw [Aj,Ac hk]
    exact hQ _ (Al hk)
   obtain ⟨h1,h2,h3⟩:=lL hB inj lt (d:=D.getD k 0) ls L D (step _ hx) hQ hn
   generalize Jk g (L.getD k []) (D.getD k 0) ls L D=r at h1 h2 h3
   obtain ⟨L',D',b⟩:=r
   have h1:b=true:=h1
   subst h1
   exact sB hB inj lt step f (k+1) L' D' h2 h3
  ·rfl
theorem CG (hB:B<3000) (inj: ∀x y,Q x->Q y->code x=code y->x=y) (lt: ∀x,Q x->code x<B) {g:List (List Int)} {s:List Int} (hs:Q s)
  (step: ∀x,Q x-> ∀l∈Ax g.length,Q (Af x (Am g l))):(Hi g s).2.2=true:=
 sB hB inj lt step _ _ _ _ (λy hy=>by rw [Ad.1 hy];exact hs) (by simp)
end
def x7 (x:List Int):Nat:=(Ih x 0+5*Ih x 1+25*Ih x 2+125*Ih x 3).toNat
theorem DI {x:List Int} {k:Nat} (h:x.length<=k):Ih x (k:Int)=0:=by
 unfold Ih
 rw [Ar,Aj,Dw h]
 rfl
theorem Qu {n:Nat} {x:List Int} (hn:n<=5) (h:Pm n x) (k:Nat):0<=Ih x (k:Int)/\Ih x (k:Int)<5:=by
 by_cases hk:k<n
 ·have:=h.aj hk
  omega
 ·rw [DI (by rw [h.1];omega)]
  decide
theorem LR {n:Nat} {x:List Int} (hn:n<=5) (h:Pm n x):x7 x<625:=by
 have h0:=Qu hn h 0
 have h1:=Qu hn h 1
 have h2:=Qu hn h 2
 have h3:=Qu hn h 3
 simp only [Int.natCast_zero] at h0
 unfold x7
 have e1:((1:Nat):Int)=1:=rfl
 have e2:((2:Nat):Int)=2:=rfl
 have e3:((3:Nat):Int)=3:=rfl
 rw [e1] at h1;rw [e2] at h2;rw [e3] at h3
 omega
theorem GA {n:Nat} (hn:n<=5) (x y:List Int) (hx:Pm n x) (hy:Pm n y) (e:x7 x=x7 y):x=y:=by
 have e1:((1:Nat):Int)=1:=rfl
 have e2:((2:Nat):Int)=2:=rfl
 have e3:((3:Nat):Int)=3:=rfl
 have a0:=Qu hn hx 0
 have a1:=Qu hn hx 1
 have a2:=Qu hn hx 2
 have a3:=Qu hn hx 3
 have b0:=Qu hn hy 0
 have b1:=Qu hn hy 1
 have b2:=Qu hn hy 2
 have b3:=Qu hn hy 3
 simp only [Int.natCast_zero] at a0 b0
 rw [e1] at a1 b1;rw [e2] at a2 b2;rw [e3] at a3 b3
 unfold x7 at e
 have low: ∀i:Nat,i<4->Ih x (i:Int)=Ih y (i:Int):=by
  intro i hi
  match i,hi with
  |0,_=>simp only [Int.natCast_zero];omega
  |1,_=>rw [e1];omega
  |2,_=>rw [e2];omega
  |3,_=>rw [e3];omega
 have An7: ∀i,i<4->ap x i=ap y i:= λi hi=>by unfold ap;rw [low i hi]
 refine hx.ext hy λi hi=>?_
 by_cases h4:i<4
 ·exact An7 i h4
 ·obtain ⟨j,hj,hjx⟩:=hy.TC (hx.lt hi)
  by_cases hj4:j<4
  ·rw [<-An7 j hj4] at hjx
   have:=hx.inj hj hi hjx
   omega
  ·have:j=i:=by omega
   rw [this] at hjx
   exact hjx.symm
theorem HW {p:PP} (hv:Ca p=true) (h5:p.1<=5):Gq p=true:=by
 have hV:=valid hv
 have hn:=hV.n
 refine Bi.2 ⟨hv,CG (Q:=Pm p.1.toNat) (code:=x7) (B:=625) (by decide) (GA (by omega)) (λx hx=>LR (by omega) hx) (Pm.id (by omega) (by omega)) λx hx l hl=>?_⟩
 exact hx.comp (jX hV (Lo hl))
def WK (n:Int) (m:Nat) (x:List Int):Prop:=x.length=m/\ ∀y∈x,0<=y/\y<n
theorem fF {n:Int} {m:Nat} {x:List Int} (hn:n<=5) (h:WK n m x) (k:Nat):0<=Ih x (k:Int)/\Ih x (k:Int)<5:=by
 by_cases hk:k<x.length
 ·have:=h.2 _ (Al hk)
  rw [Kz hk]
  omega
 ·rw [DI (by omega)]
  decide
def x6 (x:List Int):Nat:=(Ih x 0+5*Ih x 1+25*Ih x 2).toNat
theorem FX {n:Int} {m:Nat} {x:List Int} (hn:n<=5) (h:WK n m x):x6 x<125:=by
 have h0:=fF hn h 0
 have h1:=fF hn h 1
 have h2:=fF hn h 2
 simp only [Int.natCast_zero] at h0
 have e1:((1:Nat):Int)=1:=rfl
 have e2:((2:Nat):Int)=2:=rfl
 rw [e1] at h1;rw [e2] at h2
 unfold x6
 omega
theorem zA {n:Int} {m:Nat} (hn:n<=5) (hm:m<=3) (x y:List Int) (hx:WK n m x) (hy:WK n m y) (e:x6 x=x6 y):x=y:=by
 have e1:((1:Nat):Int)=1:=rfl
 have e2:((2:Nat):Int)=2:=rfl
 have a0:=fF hn hx 0
 have a1:=fF hn hx 1
 have a2:=fF hn hx 2
 have b0:=fF hn hy 0
 have b1:=fF hn hy 1
 have b2:=fF hn hy 2
 simp only [Int.natCast_zero] at a0 b0
 rw [e1] at a1 b1;rw [e2] at a2 b2
 unfold x6 at e
 have low: ∀i:Nat,i<3->Ih x (i:Int)=Ih y (i:Int):=by
  intro i hi
  match i,hi with
  |0,_=>simp only [Int.natCast_zero];omega
  |1,_=>rw [e1];omega
  |2,_=>rw [e2];omega
 refine eN (by rw [hx.1,hy.1]) λi h1 h2=>?_
 have:=low i (by rw [hx.1] at h1;omega)
 rwa [Kz h1,Kz h2] at this
theorem TS {p:PP} {t:List Int} (hv:Ca p=true) (h5:p.1<=5) (ht:Qa p.1 t=true) (h3:t.length<=3):Gp p t=true:=by
 have hV:=valid hv
 have hn:=hV.n
 obtain ⟨_,hp⟩:=Is.1 ht
 refine Bi.2 ⟨Bi.2 ⟨hv,ht⟩,CG (Q:=WK p.1 t.length) (code:=x6) (B:=125) (by decide) (zA (by omega) h3) (λx hx=>FX (by omega) hx) ⟨rfl,λy hy=>?_⟩ λx hx l hl=>?_⟩
 ·obtain ⟨j,hj,rfl⟩:=Bf.1 hy
  have:=hp j hj hj
  omega
 ·obtain ⟨n1,n2⟩:=nM hV hx.2 (Lo hl)
  exact ⟨by rw [n1,hx.1],n2⟩
theorem CM {p:PP} {t:List Int} (h:Gp p t=true):Gs p (Ga p t)=true:=by
 have e:(Ga p t).1=t:=by unfold Ga;rw [Ab h]
 unfold Gs
 rw [e,h,KN]
 rfl
theorem Aeg {n a c:Nat} {mv:List Int} (h:Pm n mv) (ha:a<n) (hc:c<n):Pm n ((mv.set a (Ih mv (c:Int))).set c (Ih mv (a:Int))):=by
 have hA:=(h.aj ha).1
 have hC:=(h.aj hc).1
 refine Pm.of (by simp only [Dg];exact h.1) h.n1 h.n2 (λk=>if k=c then ap mv a else if k=a then ap mv c else ap mv k) (λi hi=>?_) λi j hi hj e=>?_
 ·rw [Eg,Eg,Dg,h.1]
  by_cases h1:c=i
  ·rw [Ab h1,Ab hc,Ab (show i=c from h1.symm)]
   exact ⟨by rw [hA],h.lt ha⟩
  ·rw [Ai h1,Ai (show ¬i=c from λe=>h1 e.symm)]
   by_cases h2:a=i
   ·rw [Ab h2,Ab ha,Ab (show i=a from h2.symm)]
    exact ⟨by rw [hC],h.lt hc⟩
   ·rw [Ai h2,Ai (show ¬i=a from λe=>h2 e.symm)]
    have mG:i<mv.length:=by rw [h.1];exact hi
    have:=(h.aj hi).1
    rw [Kz mG] at this
    rw [Ac mG,this]
    exact ⟨rfl,h.lt hi⟩
 ·by_cases i1:i=c
  ·rw [Ab i1] at e
   by_cases j1:j=c
   ·rw [i1,j1]
   ·rw [Ai j1] at e
    by_cases j2:j=a
    ·rw [Ab j2] at e
     have:=h.inj ha hc e
     rw [i1,j2,this]
    ·rw [Ai j2] at e
     exact absurd (h.inj ha hj e).symm j2
  ·rw [Ai i1] at e
   by_cases i2:i=a
   ·rw [Ab i2] at e
    by_cases j1:j=c
    ·rw [Ab j1] at e
     have:=h.inj hc ha e
     rw [i2,j1,this]
    ·rw [Ai j1] at e
     by_cases j2:j=a
     ·rw [i2,j2]
     ·rw [Ai j2] at e
      exact absurd (h.inj hc hj e).symm j1
   ·rw [Ai i2] at e
    by_cases j1:j=c
    ·rw [Ab j1] at e
     exact absurd (h.inj hi ha e) i2
    ·rw [Ai j1] at e
     by_cases j2:j=a
     ·rw [Ab j2] at e
      exact absurd (h.inj hi hc e) i1
     ·rw [Ai j2] at e
      exact h.inj hi hj e
theorem xZ {b:List Int} {n:Int} (hn:1<=n): ∀(k:Nat) (i h:Int) (mv:List Int),Xi b i->Pm n.toNat mv->Pm n.toNat (fX b n k i h mv).2.2
 |0,_,_,_,_,hm=>hm
 |k+1,i,h,mv,hd,hm=>by
  have r1:=cD hd hn h
  have r2:=cD hd.next hn (hN h)
  rw [fX]
  refine xZ hn k _ _ _ hd.next.next ?_
  have:=Aeg hm (a:=(dR b i h n).toNat) (c:=(dR b (dI b i) (hN h) n).toNat) (by omega) (by omega)
  rw [gi r1.1,gi r2.1] at this
  exact this
theorem EY {b:List Int} {n:Int} (hn:1<=n) (hn2:n<=20): ∀(k:Nat) (i h:Int) (ms:List (List Int)),Xi b i->(∀m∈ms,Pm n.toNat m)-> ∀m∈(aH b n k i h ms).2.2,Pm n.toNat m
 |0,_,_,_,_,hm=>hm
 |k+1,i,h,ms,hd,hm=>by
  rw [aH]
  refine EY hn hn2 k _ _ _ (tP hd h) λm hmm=>?_
  rcases Ay.1 hmm with h1|h1
  ·exact hm m h1
  ·rw [Ad.1 h1]
   exact xZ hn _ _ _ _ hd.next (Pm.id (by omega) (by omega))
theorem ZT:bk ZV=true:=by
 refine Is.2 ⟨by decide,λj hj=>?_⟩
 have hj:j<2:=hj
 match j,hj with
 |0,_=>exact ⟨65,rfl,by decide,by decide,λk hk=>by omega⟩
 |1,_=>exact ⟨66,rfl,by decide,by decide,λk hk=>(by have e:k=0:=(by omega);rw [e];decide)⟩
structure Wb (p:PP):Prop where
 valid:Ca p=true
 two:p.2.2.1.length=2
 lo:3<=p.1
 hi:p.1<=5
 short:Fc p
theorem NK {b:List Int} {i:Int} (hd:Xi b i) (h:Int):Wb (aG b i h).2.2/\Xi b (aG b i h).1:=by
 have hr:=cD hd (show (1:Int)<=3 by decide) h
 obtain ⟨n,hn⟩: ∃n,3+dR b i h 3=n:=⟨_,rfl⟩
 have h2:=QB b n 2 (dI b i) (hN h) []
 have h3:=EY (b:=b) (n:=n) (by omega) (by omega) 2 (dI b i) (hN h) [] hd.next (λm hm=>by cases hm)
 have h4:=QA n 2 (dI b i) (hN h) [] hd.next
 unfold aG
 rw [hn]
 generalize aH b n 2 (dI b i) (hN h) []=R at h2 h3 h4
 obtain ⟨i',h',ms⟩:=R
 dsimp only at h2 h3 h4⊢
 simp only [Eo,En] at h2
 refine ⟨⟨Is.2 ⟨Is.2 ⟨⟨by show 1<=n;omega,by show n<=20;omega⟩,by show ms.length<=8;omega,λm hm=>?_⟩,ZT,by show 2=ms.length;omega⟩,h2,by show 3<=n;omega,by show n<=5;omega,⟨by show 2<=4294967296;decide,by show ms.length<=4294967296;omega,λm hm=>?_⟩⟩,h4⟩
 ·have:=h3 m hm
  have h5:=this.1
  exact Is.2 ⟨by omega,xl this.2⟩
 ·exact ua (h3 m hm)
noncomputable def tG (p:PP) (s w:List Int):List Int×Bool×Unit:=(Mc p.2.2.1 s w,true,())
noncomputable abbrev a8:Spec:=Hj (.pair Jc (.pair tL (.pair tL .unit))) (.pair tL (.pair .bool .unit)) true true (λx=>Fc x.1/\Ca x.1=true/\Pm x.1.1.toNat x.2.1/\Nb (List.length x.1.2.2.1:Nat) x.2.2.1=true) (λx=>tG x.1 x.2.1 x.2.2.1)
noncomputable def nJ (b:List Int) (i h:Int) (p:PP):Int×Int×List Int:=((Vm b i h 2 8).1,(Vm b i h 2 8).2.1,(tG p (upto p.1.toNat) (Vm b i h 2 8).2.2).1)
noncomputable def wC (b:List Int) (p:PP):Nat->Int->Int->List TT->Int×Int×List TT
 |0,i,h,o=>(i,h,o)
 |k+1,i,h,o=>wC b p k (Nn b i h p.1).1 (Nn b i h p.1).2.1 (o++ [Ga p (Nn b i h p.1).2.2])
noncomputable def Yj (b:List Int) (i h:Int) (p:PP):Int×Int×List TT:=wC b p (dR b i h 3).toNat (dI b i) (hN h) []
noncomputable abbrev An3:MSpec:= {ptr:=some (69,3),Jj:= [some 3],ins:= [(false, .Eh tB),(false, .Eh tI),(false, .Eh IB),(false, .Eh tI),(false, .Eh .str),(false, .Eh kB)],Ib:=false,Hv:= [none],outs:= [.Eh tB, .Eh tI, .Eh IB, .Eh tL],fn:= λ_=>none}
noncomputable abbrev xT:MSpec:=gY An3 (λx=>Xi x.1 x.2.1/\Fc (x.2.2.2.1,x.2.2.2.2.1,x.2.2.2.2.2.1,())/\Ca (x.2.2.2.1,x.2.2.2.2.1,x.2.2.2.2.2.1,())=true/\List.length x.2.2.2.2.2.1=2) (λx=>((x.1,(nJ x.1 x.2.1 x.2.2.1 (x.2.2.2.1,x.2.2.2.2.1,x.2.2.2.2.2.1,())).1,(nJ x.1 x.2.1 x.2.2.1 (x.2.2.2.1,x.2.2.2.2.1,x.2.2.2.2.2.1,())).2.1,(nJ x.1 x.2.1 x.2.2.1 (x.2.2.2.1,x.2.2.2.2.1,x.2.2.2.2.2.1,())).2.2,()),()))
noncomputable abbrev Aie:MSpec:= {ptr:=some (69,3),Jj:= [some 3],ins:= [(false, .Eh tB),(false, .Eh tI),(false, .Eh IB),(false, .Eh tI),(false, .Eh .str),(false, .Eh kB)],Ib:=false,Hv:= [none],outs:= [.Eh tB, .Eh tI, .Eh IB, .row cg 47],fn:= λ_=>none}
noncomputable abbrev pG:MSpec:=gY Aie (λx=>Xi x.1 x.2.1/\Fc (x.2.2.2.1,x.2.2.2.2.1,x.2.2.2.2.2.1,())/\Ca (x.2.2.2.1,x.2.2.2.2.1,x.2.2.2.2.2.1,())=true) (λx=>((x.1,(Yj x.1 x.2.1 x.2.2.1 (x.2.2.2.1,x.2.2.2.2.1,x.2.2.2.2.2.1,())).1,(Yj x.1 x.2.1 x.2.2.1 (x.2.2.2.1,x.2.2.2.2.1,x.2.2.2.2.2.1,())).2.1,(Yj x.1 x.2.1 x.2.2.1 (x.2.2.2.1,x.2.2.2.2.1,x.2.2.2.2.2.1,())).2.2,()),()))
theorem VS (g:List (List Int)) (l:Int) (P:List Int->Prop):(Br (decide (l<(0:Int))) (∃(y3:List Int),idx g (IntKind.i64.wrap (IntKind.i64.wrap ((0:Int)-l)-(1:Int)))=some y3/\ ∃(y4:List Int),Hw.fn (y3,())=some y4/\P y4) (∃(y3:List Int),idx g (IntKind.i64.wrap (l-(1:Int)))=some y3/\P y3))=fnW Gr (look [(163,Hw)]) Ii Tryz.f131 (g,l,()) P:=by kernel_rfl
theorem NX (n:Int) (g:List (List Int)) (w:List Int) (P:List Int->Prop):(∃(y4:List Int),Dl.fn (n,())=some y4/\Di (λ(v5:List Int×Int×PUnit) (k6:List Int×Int×PUnit->Prop)=>Br (decide (v5.2.1<(↑w.length:Int))) (∃(y7:Int),idx w v5.2.1=some y7/\ ∃(y8:List Int),Ii.fn (g,y7,())=some y8/\ ∃(y9:List Int),Jo.fn (v5.1,y8,())=some y9/\k6 (y9,IntKind.i64.wrap (v5.2.1+(1:Int)),())) (P v5.1)) (y4,(0:Int),PUnit.unit))=fnW Gr (look [(96,Dl),(81,Jo),(131,Ii)]) Yp Tryz.f82 (n,g,w,()) P:=by kernel_rfl
theorem Abs (p:Int×ByteArray×List (List Int)×Unit) (s w:List Int) (P:(List Int×Bool×Unit)->Prop):(∃(y4:Bool),Ld.fn ((p.1,p.2.1,p.2.2.1,()),s,())=some y4/\Br (!y4) (P (List.take 0 (List.drop 0 []),false,())) (∃(y5:Bool),eF.fn ((↑p.2.2.1.length:Int),w,())=some y5/\Br (!y5) (P (List.take 0 (List.drop 0 []),false,())) (∃(y6:List Int),Yp.fn (p.1,p.2.2.1,w,())=some y6/\ ∃(y7:List Int),Jo.fn (s,y6,())=some y7/\P (y7,true,()))))=fnW Gr (look [(64,Ld),(80,eF),(81,Jo),(82,Yp)]) a8 Tryz.f34 (p,s,w,()) P:=by kernel_rfl
abbrev NB:Type:=(List Int×Int×Int×List Int×PUnit)×PUnit
abbrev zo (b:List Int) (i:Int) (h:Int) (n:Int) (str:ByteArray) (g:List (List Int)) (Jw:List Int) (y8:NB) (y9:List Int×Bool×PUnit) (y7:List Int):Prop:= ∃(Ix:NB),qF.fn (b,i,h,(2:Int),(8:Int),())=some Ix/\ ∃(Jf:List Int×Bool×PUnit),a8.fn ((n,str,g,()),Jw,List.take Ix.1.2.2.2.1.length (List.drop 0 Ix.1.2.2.2.1),())=some Jf/\(([(0,0),(0,Ix.1.2.2.2.1.length)]= [(0,0),(0,y8.1.2.2.2.1.length)]/\(n,str,g,Jf.1,Jf.2.1,Jf,n,str,g,n,Jw,Jf,Jf.1,Jf.2.1,n,str,g,([]:List Int),Ix.1.2.2.2.1,Ix.1.1,Ix.1.2.1,Ix.1.2.2.1,())=(n,str,g,y9.1,y9.2.1,y9,n,str,g,n,y7,y9,y9.1,y9.2.1,n,str,g,([]:List Int),y8.1.2.2.2.1,y8.1.1,y8.1.2.1,y8.1.2.2.1,PUnit.unit))/\ [(0,0),(0,Ix.1.2.2.2.1.length)]= [(0,0),(0,y8.1.2.2.2.1.length)]/\(n,str,g,Jf.1,Jf.2.1,Jf,n,str,g,n,Jw,Jf,Jf.1,Jf.2.1,n,str,g,([]:List Int),Ix.1.2.2.2.1,Ix.1.1,Ix.1.2.1,Ix.1.2.2.1,())=(n,str,g,y9.1,y9.2.1,y9,n,str,g,n,y7,y9,y9.1,y9.2.1,n,str,g,([]:List Int),y8.1.2.2.2.1,y8.1.1,y8.1.2.1,y8.1.2.2.1,PUnit.unit))/\ [(0,0),(0,Ix.1.2.2.2.1.length)]= [(0,0),(0,y8.1.2.2.2.1.length)]/\(n,str,g,Jf.1,Jf.2.1,Jf,n,str,g,n,Jw,Jf,Jf.1,Jf.2.1,n,str,g,([]:List Int),Ix.1.2.2.2.1,Ix.1.1,Ix.1.2.1,Ix.1.2.2.1,())=(n,str,g,y9.1,y9.2.1,y9,n,str,g,n,y7,y9,y9.1,y9.2.1,n,str,g,([]:List Int),y8.1.2.2.2.1,y8.1.1,y8.1.2.1,y8.1.2.2.1,PUnit.unit)
theorem Aoc (b:List Int) (i h n:Int) (str:ByteArray) (g:List (List Int)) (P:((List Int×Int×Int×List Int×Unit)×Unit)->Prop):(∃(y7:List Int),Ui.fn (n,())=some y7/\ ∃(y8:NB),qF.fn (b,i,h,(2:Int),(8:Int),())=some y8/\ ∃(y9:List Int×Bool×PUnit),a8.fn ((n,str,g,()),y7,List.take y8.1.2.2.2.1.length (List.drop 0 y8.1.2.2.2.1),())=some y9/\P ((y8.1.1,y8.1.2.1,y8.1.2.2.1,y9.1,()),())/\(∃(Jw:List Int),Ui.fn (n,())=some Jw/\(zo b i h n str g Jw y8 y9 y7))/\(∃(Jw:List Int),Ui.fn (n,())=some Jw/\(zo b i h n str g Jw y8 y9 y7))/\ ∃(Jw:List Int),Ui.fn (n,())=some Jw/\((zo b i h n str g Jw y8 y9 y7))/\(zo b i h n str g Jw y8 y9 y7))=fnMW (mB [Qp+4]) (look [(32,qF),(42,Ui),(34,a8)]) xT Tryz.f12 (b,i,h,n,str,g,()) P:=by kernel_rfl
abbrev Ky:Type:=(List Int×List (List Int)×List Int×PUnit)×Bool×PUnit
abbrev It:Type:=Int×ByteArray×List (List Int)×PUnit
abbrev Ni:Type:=(List Int×Int×Int×List Int×PUnit)×PUnit
abbrev ov:Type:=Int×List (List Int×List (List Int)×List Int×PUnit)×List Int×Int×Int×PUnit
abbrev Kk (v8:ov) (Io:Ni) (Jf:Ni) (n:Int) (str:ByteArray) (g:List (List Int)) (Iy:Ky) (Ha:It) (Iu:It) (Hl:Ky) (Jw:It) (Ix:It):Prop:= [(0,v8.2.1.length),(0,Io.1.2.2.2.1.length)]= [(0,v8.2.1.length),(0,Jf.1.2.2.2.1.length)]/\(some (n,str,g,()),v8.1,Iy.2.1,v8.1,decide (v8.1>(0:Int)),Iy,Ha,Iu,Iy,Iy.1,Iy.2.1,Iy.1.1,Iy.1.2.1,Iy.1.2.2.1,v8.2.1,([]:List Int),([]:List (List Int)),([]:List Int),Io.1.2.2.2.1,Io.1.1,Io.1.2.1,Io.1.2.2.1,())=(some (n,str,g,()),v8.1,Hl.2.1,v8.1,decide (v8.1>(0:Int)),Hl,Jw,Ix,Hl,Hl.1,Hl.2.1,Hl.1.1,Hl.1.2.1,Hl.1.2.2.1,v8.2.1,([]:List Int),([]:List (List Int)),([]:List Int),Jf.1.2.2.2.1,Jf.1.1,Jf.1.2.1,Jf.1.2.2.1,PUnit.unit)
abbrev Kl (v8:ov) (Ha:Ni) (Jf:Ni) (n:Int) (str:ByteArray) (g:List (List Int)) (Iy:Ky) (Iu:It) (Io:It) (Hl:Ky) (Jw:It) (Ix:It):Prop:= [(0,v8.2.1.length),(0,Ha.1.2.2.2.1.length)]= [(0,v8.2.1.length),(0,Jf.1.2.2.2.1.length)]/\(some (n,str,g,()),v8.1,Iy.2.1,v8.1,decide (v8.1>(0:Int)),Iy,Iu,Io,Iy,Iy.1,Iy.2.1,Iy.1.1,Iy.1.2.1,Iy.1.2.2.1,v8.2.1,([]:List Int),([]:List (List Int)),([]:List Int),Ha.1.2.2.2.1,Ha.1.1,Ha.1.2.1,Ha.1.2.2.1,())=(some (n,str,g,()),v8.1,Hl.2.1,v8.1,decide (v8.1>(0:Int)),Hl,Jw,Ix,Hl,Hl.1,Hl.2.1,Hl.1.1,Hl.1.2.1,Hl.1.2.2.1,v8.2.1,([]:List Int),([]:List (List Int)),([]:List Int),Jf.1.2.2.2.1,Jf.1.1,Jf.1.2.1,Jf.1.2.2.1,PUnit.unit)
abbrev Km (v8:ov) (Ha:Ni) (Jf:Ni) (n:Int) (str:ByteArray) (g:List (List Int)) (Iy:Ky) (Io:It) (Iu:It) (Hl:Ky) (Jw:It) (Ix:It):Prop:= [(0,v8.2.1.length),(0,Ha.1.2.2.2.1.length)]= [(0,v8.2.1.length),(0,Jf.1.2.2.2.1.length)]/\(some (n,str,g,()),v8.1,Iy.2.1,v8.1,decide (v8.1>(0:Int)),Iy,Io,Iu,Iy,Iy.1,Iy.2.1,Iy.1.1,Iy.1.2.1,Iy.1.2.2.1,v8.2.1,([]:List Int),([]:List (List Int)),([]:List Int),Ha.1.2.2.2.1,Ha.1.1,Ha.1.2.1,Ha.1.2.2.1,())=(some (n,str,g,()),v8.1,Hl.2.1,v8.1,decide (v8.1>(0:Int)),Hl,Jw,Ix,Hl,Hl.1,Hl.2.1,Hl.1.1,Hl.1.2.1,Hl.1.2.2.1,v8.2.1,([]:List Int),([]:List (List Int)),([]:List Int),Jf.1.2.2.2.1,Jf.1.1,Jf.1.2.1,Jf.1.2.2.1,PUnit.unit)
theorem Ajp (b:List Int) (i h n:Int) (str:ByteArray) (g:List (List Int)) (P:((List Int×Int×Int×List (List Int×List (List Int)×List Int×Unit)×Unit)×Unit)->Prop):(∃(y7:(List Int×Int×Int×Int×PUnit)×PUnit),Ju.fn (b,i,h,(3:Int),())=some y7/\0=0/\0=([]:List Int).length/\Di (λ(v8:ov) (k9:ov->Prop)=>Br (decide (v8.1>(0:Int))) (∃(Jw:It),some (n,str,g,())=some Jw/\ ∃(Ix:It),some (n,str,g,())=some Ix/\ ∃(Jf:Ni),Xo.fn (v8.2.2.1,v8.2.2.2.1,v8.2.2.2.2.1,Ix.1,Ix.2.1,Ix.2.2.1,())=some Jf/\ ∃(Hl:Ky),Ex.fn (Jw,List.take Jf.1.2.2.2.1.length (List.drop 0 Jf.1.2.2.2.1),())=some Hl/\(0=0/\v8.2.1.length=v8.2.1.length/\v8.2.1.length+(List.take 1 (List.drop 0 [(Hl.1.1,Hl.1.2.1,Hl.1.2.2.1,())])).length<=Dj/\0=0/\(v8.2.1++List.take 1 (List.drop 0 [(Hl.1.1,Hl.1.2.1,Hl.1.2.2.1,())])).length=(v8.2.1++List.take 1 (List.drop 0 [(Hl.1.1,Hl.1.2.1,Hl.1.2.2.1,())])).length/\k9 (IntKind.i64.wrap (v8.1-(1:Int)),v8.2.1++List.take 1 (List.drop 0 [(Hl.1.1,Hl.1.2.1,Hl.1.2.2.1,())]),Jf.1.1,Jf.1.2.1,Jf.1.2.2.1,()))/\(∃(Iu:It),some (n,str,g,())=some Iu/\(∃(Io:It),some (n,str,g,())=some Io/\(∃(Ha:Ni),Xo.fn (v8.2.2.1,v8.2.2.2.1,v8.2.2.2.2.1,Io.1,Io.2.1,Io.2.2.1,())=some Ha/\(∃(Iy:Ky),Ex.fn (Iu,List.take Ha.1.2.2.2.1.length (List.drop 0 Ha.1.2.2.2.1),())=some Iy/\((((Kl v8 Ha Jf n str g Iy Iu Io Hl Jw Ix))/\((Kl v8 Ha Jf n str g Iy Iu Io Hl Jw Ix))/\(Kl v8 Ha Jf n str g Iy Iu Io Hl Jw Ix))/\(((Kl v8 Ha Jf n str g Iy Iu Io Hl Jw Ix))/\(Kl v8 Ha Jf n str g Iy Iu Io Hl Jw Ix))/\(((Kl v8 Ha Jf n str g Iy Iu Io Hl Jw Ix))/\(Kl v8 Ha Jf n str g Iy Iu Io Hl Jw Ix))/\(Kl v8 Ha Jf n str g Iy Iu Io Hl Jw Ix))/\(((Kl v8 Ha Jf n str g Iy Iu Io Hl Jw Ix))/\(Kl v8 Ha Jf n str g Iy Iu Io Hl Jw Ix))/\(Kl v8 Ha Jf n str g Iy Iu Io Hl Jw Ix))/\ ∃(Iy:Ky),Ex.fn (Iu,List.take Ha.1.2.2.2.1.length (List.drop 0 Ha.1.2.2.2.1),())=some Iy/\(((Kl v8 Ha Jf n str g Iy Iu Io Hl Jw Ix))/\(Kl v8 Ha Jf n str g Iy Iu Io Hl Jw Ix))/\(Kl v8 Ha Jf n str g Iy Iu Io Hl Jw Ix))/\ ∃(Ha:Ni),Xo.fn (v8.2.2.1,v8.2.2.2.1,v8.2.2.2.2.1,Io.1,Io.2.1,Io.2.2.1,())=some Ha/\ ∃(Iy:Ky),Ex.fn (Iu,List.take Ha.1.2.2.2.1.length (List.drop 0 Ha.1.2.2.2.1),())=some Iy/\(((Kl v8 Ha Jf n str g Iy Iu Io Hl Jw Ix))/\(Kl v8 Ha Jf n str g Iy Iu Io Hl Jw Ix))/\(Kl v8 Ha Jf n str g Iy Iu Io Hl Jw Ix))/\ ∃(Io:It),some (n,str,g,())=some Io/\ ∃(Ha:Ni),Xo.fn (v8.2.2.1,v8.2.2.2.1,v8.2.2.2.2.1,Io.1,Io.2.1,Io.2.2.1,())=some Ha/\ ∃(Iy:Ky),Ex.fn (Iu,List.take Ha.1.2.2.2.1.length (List.drop 0 Ha.1.2.2.2.1),())=some Iy/\(((Kl v8 Ha Jf n str g Iy Iu Io Hl Jw Ix))/\(Kl v8 Ha Jf n str g Iy Iu Io Hl Jw Ix))/\(Kl v8 Ha Jf n str g Iy Iu Io Hl Jw Ix))/\(∃(Iu:It),some (n,str,g,())=some Iu/\(∃(Io:It),some (n,str,g,())=some Io/\(∃(Ha:Ni),Xo.fn (v8.2.2.1,v8.2.2.2.1,v8.2.2.2.2.1,Iu.1,Iu.2.1,Iu.2.2.1,())=some Ha/\(∃(Iy:Ky),Ex.fn (Io,List.take Ha.1.2.2.2.1.length (List.drop 0 Ha.1.2.2.2.1),())=some Iy/\((((Km v8 Ha Jf n str g Iy Io Iu Hl Jw Ix))/\((Km v8 Ha Jf n str g Iy Io Iu Hl Jw Ix))/\(Km v8 Ha Jf n str g Iy Io Iu Hl Jw Ix))/\(((Km v8 Ha Jf n str g Iy Io Iu Hl Jw Ix))/\(Km v8 Ha Jf n str g Iy Io Iu Hl Jw Ix))/\(((Km v8 Ha Jf n str g Iy Io Iu Hl Jw Ix))/\(Km v8 Ha Jf n str g Iy Io Iu Hl Jw Ix))/\(Km v8 Ha Jf n str g Iy Io Iu Hl Jw Ix))/\(((Km v8 Ha Jf n str g Iy Io Iu Hl Jw Ix))/\(Km v8 Ha Jf n str g Iy Io Iu Hl Jw Ix))/\(Km v8 Ha Jf n str g Iy Io Iu Hl Jw Ix))/\ ∃(Iy:Ky),Ex.fn (Io,List.take Ha.1.2.2.2.1.length (List.drop 0 Ha.1.2.2.2.1),())=some Iy/\(((Km v8 Ha Jf n str g Iy Io Iu Hl Jw Ix))/\(Km v8 Ha Jf n str g Iy Io Iu Hl Jw Ix))/\(Km v8 Ha Jf n str g Iy Io Iu Hl Jw Ix))/\ ∃(Ha:Ni),Xo.fn (v8.2.2.1,v8.2.2.2.1,v8.2.2.2.2.1,Iu.1,Iu.2.1,Iu.2.2.1,())=some Ha/\ ∃(Iy:Ky),Ex.fn (Io,List.take Ha.1.2.2.2.1.length (List.drop 0 Ha.1.2.2.2.1),())=some Iy/\(((Km v8 Ha Jf n str g Iy Io Iu Hl Jw Ix))/\(Km v8 Ha Jf n str g Iy Io Iu Hl Jw Ix))/\(Km v8 Ha Jf n str g Iy Io Iu Hl Jw Ix))/\(∃(Io:Ni),Xo.fn (v8.2.2.1,v8.2.2.2.1,v8.2.2.2.2.1,Iu.1,Iu.2.1,Iu.2.2.1,())=some Io/\(∃(Ha:It),some (n,str,g,())=some Ha/\(∃(Iy:Ky),Ex.fn (Ha,List.take Io.1.2.2.2.1.length (List.drop 0 Io.1.2.2.2.1),())=some Iy/\((((Kk v8 Io Jf n str g Iy Ha Iu Hl Jw Ix))/\((Kk v8 Io Jf n str g Iy Ha Iu Hl Jw Ix))/\(Kk v8 Io Jf n str g Iy Ha Iu Hl Jw Ix))/\(((Kk v8 Io Jf n str g Iy Ha Iu Hl Jw Ix))/\(Kk v8 Io Jf n str g Iy Ha Iu Hl Jw Ix))/\(((Kk v8 Io Jf n str g Iy Ha Iu Hl Jw Ix))/\(Kk v8 Io Jf n str g Iy Ha Iu Hl Jw Ix))/\(Kk v8 Io Jf n str g Iy Ha Iu Hl Jw Ix))/\(((Kk v8 Io Jf n str g Iy Ha Iu Hl Jw Ix))/\(Kk v8 Io Jf n str g Iy Ha Iu Hl Jw Ix))/\(Kk v8 Io Jf n str g Iy Ha Iu Hl Jw Ix))/\ ∃(Iy:Ky),Ex.fn (Ha,List.take Io.1.2.2.2.1.length (List.drop 0 Io.1.2.2.2.1),())=some Iy/\(((Kk v8 Io Jf n str g Iy Ha Iu Hl Jw Ix))/\(Kk v8 Io Jf n str g Iy Ha Iu Hl Jw Ix))/\(Kk v8 Io Jf n str g Iy Ha Iu Hl Jw Ix))/\ ∃(Ha:It),some (n,str,g,())=some Ha/\ ∃(Iy:Ky),Ex.fn (Ha,List.take Io.1.2.2.2.1.length (List.drop 0 Io.1.2.2.2.1),())=some Iy/\(((Kk v8 Io Jf n str g Iy Ha Iu Hl Jw Ix))/\(Kk v8 Io Jf n str g Iy Ha Iu Hl Jw Ix))/\(Kk v8 Io Jf n str g Iy Ha Iu Hl Jw Ix))/\(∃(Io:It),some (n,str,g,())=some Io/\ ∃(Ha:Ni),Xo.fn (v8.2.2.1,v8.2.2.2.1,v8.2.2.2.2.1,Iu.1,Iu.2.1,Iu.2.2.1,())=some Ha/\ ∃(Iy:Ky),Ex.fn (Io,List.take Ha.1.2.2.2.1.length (List.drop 0 Ha.1.2.2.2.1),())=some Iy/\(((Km v8 Ha Jf n str g Iy Io Iu Hl Jw Ix))/\(Km v8 Ha Jf n str g Iy Io Iu Hl Jw Ix))/\(Km v8 Ha Jf n str g Iy Io Iu Hl Jw Ix))/\ ∃(Io:Ni),Xo.fn (v8.2.2.1,v8.2.2.2.1,v8.2.2.2.2.1,Iu.1,Iu.2.1,Iu.2.2.1,())=some Io/\ ∃(Ha:It),some (n,str,g,())=some Ha/\ ∃(Iy:Ky),Ex.fn (Ha,List.take Io.1.2.2.2.1.length (List.drop 0 Io.1.2.2.2.1),())=some Iy/\(((Kk v8 Io Jf n str g Iy Ha Iu Hl Jw Ix))/\(Kk v8 Io Jf n str g Iy Ha Iu Hl Jw Ix))/\(Kk v8 Io Jf n str g Iy Ha Iu Hl Jw Ix))/\(∃(Iu:It),some (n,str,g,())=some Iu/\ ∃(Io:It),some (n,str,g,())=some Io/\ ∃(Ha:Ni),Xo.fn (v8.2.2.1,v8.2.2.2.1,v8.2.2.2.2.1,Io.1,Io.2.1,Io.2.2.1,())=some Ha/\ ∃(Iy:Ky),Ex.fn (Iu,List.take Ha.1.2.2.2.1.length (List.drop 0 Ha.1.2.2.2.1),())=some Iy/\(((Kl v8 Ha Jf n str g Iy Iu Io Hl Jw Ix))/\(Kl v8 Ha Jf n str g Iy Iu Io Hl Jw Ix))/\(Kl v8 Ha Jf n str g Iy Iu Io Hl Jw Ix))/\ ∃(Iu:It),some (n,str,g,())=some Iu/\(∃(Io:It),some (n,str,g,())=some Io/\ ∃(Ha:Ni),Xo.fn (v8.2.2.1,v8.2.2.2.1,v8.2.2.2.2.1,Iu.1,Iu.2.1,Iu.2.2.1,())=some Ha/\ ∃(Iy:Ky),Ex.fn (Io,List.take Ha.1.2.2.2.1.length (List.drop 0 Ha.1.2.2.2.1),())=some Iy/\(((Km v8 Ha Jf n str g Iy Io Iu Hl Jw Ix))/\(Km v8 Ha Jf n str g Iy Io Iu Hl Jw Ix))/\(Km v8 Ha Jf n str g Iy Io Iu Hl Jw Ix))/\ ∃(Io:Ni),Xo.fn (v8.2.2.1,v8.2.2.2.1,v8.2.2.2.2.1,Iu.1,Iu.2.1,Iu.2.2.1,())=some Io/\ ∃(Ha:It),some (n,str,g,())=some Ha/\ ∃(Iy:Ky),Ex.fn (Ha,List.take Io.1.2.2.2.1.length (List.drop 0 Io.1.2.2.2.1),())=some Iy/\(((Kk v8 Io Jf n str g Iy Ha Iu Hl Jw Ix))/\(Kk v8 Io Jf n str g Iy Ha Iu Hl Jw Ix))/\(Kk v8 Io Jf n str g Iy Ha Iu Hl Jw Ix)) (P ((v8.2.2.1,v8.2.2.2.1,v8.2.2.2.2.1,List.take v8.2.1.length (List.drop 0 v8.2.1),()),()))) (y7.1.2.2.2.1,[],y7.1.1,y7.1.2.1,y7.1.2.2.1,PUnit.unit))=fnMW (mB [Qp+3,Ps,Og+9,Og+27]) (look [(23,Ju),(25,Xo),(24,Ex)]) pG Tryz.f11 (b,i,h,n,str,g,()) P:=by kernel_rfl
theorem TR (g:List (List Int)) (l:Int) (h:Fq (List.length g) l/\List.length g<=8/\ ∀p∈g,Kj p=true):fnW Gr (look [(163,Hw)]) Ii Tryz.f131 (g,l,()) (λ(z:List Int)=>z=Am g l):=by
 obtain ⟨hl,h8,hp⟩:=h
 refine Eq.mp (VS g l _) ?_
 obtain ⟨k,hk,rfl|rfl⟩:=Oc hl
 ·refine Br.dec (λhn=>by omega) λ_=>?_
  rw [Cn (by omega) (by omega),show (k:Int)+1-1=(k:Int) by omega]
  exact ⟨_,Cj hk,(On hk).symm⟩
 ·refine Br.dec (λ_=>?_) λhn=>by omega
  rw [Cn (n:=0- -((k:Int)+1)) (by omega) (by omega),Cn (by omega) (by omega),show (0:Int)- -((k:Int)+1)-1=(k:Int) by omega]
  have:=dy (hp _ (Al hk))
  exact ⟨_,Cj hk,_,Ab ⟨this.len,this.row⟩,(Om hk).symm⟩
theorem wx:Sound Tryz.prog 131 Ii:=
 Sound.Hj Ee (Ba lj Bo) mixed Tryz.func131 (by kernel_rfl) (by kernel_rfl) λx h=>TR x.1 x.2.1 h
theorem LN (n:Int) (g:List (List Int)) (w:List Int) (h: ∃p:PP,Ca p=true/\p.1=n/\p.2.2.1=g/\Nb (List.length g:Nat) w=true):fnW Gr (look [(96,Dl),(81,Jo),(131,Ii)]) Yp Tryz.f82 (n,g,w,()) (λ(z:List Int)=>z=Mc g (upto n.toNat) w):=by
 obtain ⟨p,hv,rfl,rfl,hw⟩:=h
 have hV:=valid hv
 have hn:=hV.n
 have hf:=hV.gu
 obtain ⟨w1,w2⟩:=dF hw
 refine Eq.mp (NX p.1 p.2.2.1 w _) ⟨upto p.1.toNat,Ab ⟨by show 0<=p.1;omega,by show p.1<=20;omega⟩,?_⟩
 refine Bw w.length (λv=>v.2.1) (λj v=>v.1=Mc p.2.2.1 (upto p.1.toNat) (w.take j)) rfl rfl ?_
 rintro j ⟨q,i,⟨⟩⟩ K hj hi hR hK
 dsimp only at hi hR⊢
 subst hi hR
 have hq:=sw hV (w.take j) _ (λl hl=>w2 l (Ey hl)) (Pm.id (n:=p.1.toNat) (by omega) (by omega))
 refine Br.dec (λhl=>?_) λhl=>?_
 ·have hl:j<w.length:=by omega
  have kr:=w2 _ (Al hl)
  have re:=jX hV kr
  refine ⟨_,Cj hl,_,Ab ⟨kr,hf.2,hV.perm⟩,_,Ab ⟨Aae hq,GB hq re⟩,?_⟩
  rw [Bz (by omega)]
  exact hK hl _ rfl (IK hl).symm
 ·have:j=w.length:=by omega
  subst this
  rw [Bc]
theorem uM:Sound Tryz.prog 82 Yp:=
 Sound.Hj Ee (Ba c9 (Ba cX (Ba wx Bo))) mixed Tryz.func82 (by kernel_rfl) (by kernel_rfl) λx h=>LN x.1 x.2.1 x.2.2.1 h
theorem Aa1 (p:PP) (s w:List Int) (h:Fc p/\Ca p=true/\Pm p.1.toNat s/\Nb (List.length p.2.2.1:Nat) w=true):fnW Gr (look [(64,Ld),(80,eF),(81,Jo),(82,Yp)]) a8 Tryz.f34 (p,s,w,()) (λ(z:List Int×Bool×Unit)=>z=tG p s w):=by
 obtain ⟨hp,hv,hs,hw⟩:=h
 have hV:=valid hv
 have hn:=hV.n
 have hf:=hV.gu
 obtain ⟨w1,w2⟩:=dF hw
 have YA:=Pm.id (n:=p.1.toNat) (by omega) (by omega)
 have hq:=sw hV w _ w2 YA
 refine Eq.mp (Abs p s w _) ⟨true,(Ab ⟨hp,ua hs⟩).trans (Gz some (Bi.2 ⟨hv,LS hV hs⟩)),λhc=>(by cases hc),λ_=>⟨true,(Ab ⟨by show w.length<=4294967296;omega,by show (0:Int)<=((p.2.2.1.length:Nat):Int);omega,by show ((p.2.2.1.length:Nat):Int)<=4294967296;omega⟩).trans (Gz some hw),λhc=>(by cases hc),λ_=>⟨_,Ab ⟨p,hv,rfl,rfl,hw⟩,_,Ab ⟨Aae hs,GB hs hq⟩,?_⟩⟩⟩
 show (Af s (Mc p.2.2.1 (upto p.1.toNat) w),true,())=tG p s w
 rw [pS hV hs w _ w2 YA,comp_id hs]
 rfl
theorem zT:Sound Tryz.prog 34 a8:=
 Sound.Hj Ee (Ba cY (Ba uE (Ba cX (Ba uM Bo)))) mixed Tryz.func34 (by kernel_rfl) (by kernel_rfl) λx h=>Aa1 x.1 x.2.1 x.2.2.1 h
theorem Aje {b:List Int} {i m:Int} (hd:Xi b i) (h:Int) (hm:1<=m/\m<=8):QD (lN m) (Zx b i h m).2.2=true:=by
 have hr:=cD hd hm.1 h
 have hc:lN m=m:=Ai (by omega)
 rw [hc]
 refine Cy ?_
 unfold Zx
 dsimp only
 split<;>omega
theorem Abq {b:List Int} {m:Int} (hm:1<=m/\m<=8): ∀(k:Nat) (i h:Int) (w:List Int),Xi b i->(∀y∈w,QD (lN m) y=true)->
  Xi b (wGo b m k i h w).1/\(wGo b m k i h w).2.2.length=k+w.length/\ ∀y∈(wGo b m k i h w).2.2,QD (lN m) y=true
 |0,i,h,w,hd,hw=>⟨hd,by rw [wGo];exact (Cb _).symm,hw⟩
 |k+1,i,h,w,hd,hw=>by
  obtain ⟨h1,h2,h3⟩:=Abq hm k (Zx b i h m).1 (Zx b i h m).2.1 (w++ [(Zx b i h m).2.2]) (QX hd h m) (λy hy=>by
   rcases Ay.1 hy with h4|h4
   ·exact hw y h4
   ·rw [Ad.1 h4];exact Aje hd h hm)
  rw [Au,Be] at h2
  rw [wGo]
  exact ⟨h1,by omega,h3⟩
theorem Abo {b:List Int} {i m k:Int} (hd:Xi b i) (h:Int) (hm:1<=m/\m<=8) (hk:0<=k/\k<=20):Nb m (Vm b i h m k).2.2=true/\Xi b (Vm b i h m k).1:=by
 have hr:=cD hd (show 1<=k+1 by omega) h
 obtain ⟨h1,h2,h3⟩:=Abq hm (dR b i h (k+1)).toNat (dI b i) (hN h) [] hd.next (λy hy=>by cases hy)
 refine ⟨Bi.2 ⟨Cy ?_,?_⟩,h1⟩
 ·show (wGo b m (dR b i h (k+1)).toNat (dI b i) (hN h) []).2.2.length<=200
  rw [h2,Eo]
  omega
 ·rw [Er]
  refine List.any_eq_false.2 λy hy=>?_
  rw [h3 y hy]
  decide
theorem Ann (b:List Int) (i h n:Int) (str:ByteArray) (g:List (List Int)) (hd:Xi b i/\Fc (n,str,g,())/\Ca (n,str,g,())=true/\g.length=2):fnMW (mB [Qp+4]) (look [(32,qF),(42,Ui),(34,a8)]) xT Tryz.f12 (b,i,h,n,str,g,()) (λ(z:(List Int×Int×Int×List Int×Unit)×Unit)=>z=((b,(nJ b i h (n,str,g,())).1,(nJ b i h (n,str,g,())).2.1,(nJ b i h (n,str,g,())).2.2,()),())):=by
 obtain ⟨hd,hp,hv,h2⟩:=hd
 have hV:=valid hv
 have hn:1<=n/\n<=20:=hV.n
 obtain ⟨hw,xc⟩:=Abo hd h (m:=2) (k:=8) (by decide) (by decide)
 have hS:Ui.fn (n,())=some (upto n.toNat):=Ab hn
 have YA:Pm n.toNat (upto n.toNat):=Pm.id (by omega) (by omega)
 have hW:qF.fn (b,i,h,2,8,())=some ((b,(Vm b i h 2 8).1,(Vm b i h 2 8).2.1,(Vm b i h 2 8).2.2,()),()):=Ab ⟨hd,by show (1:Int)<=2/\(2:Int)<=8;decide,by show (0:Int)<=8;decide,by show (8:Int)<=20;decide⟩
 have hA:a8.fn ((n,str,g,()),upto n.toNat,List.take (Vm b i h 2 8).2.2.length (List.drop 0 (Vm b i h 2 8).2.2),())=some (tG (n,str,g,()) (upto n.toNat) (Vm b i h 2 8).2.2):=by
  rw [Bv]
  exact Ab ⟨hp,hv,YA,by show Nb (g.length:Nat) _=true;rw [h2];exact hw⟩
 refine Eq.mp (Aoc b i h n str g _) ⟨_,hS,_,hW,_,hA,?_⟩
 repeat' (first|exact ⟨rfl,rfl⟩|exact rfl|refine ⟨_,hS,?_⟩|refine ⟨_,hW,?_⟩|refine ⟨_,hA,?_⟩|refine ⟨?_,?_⟩)
theorem UO:Cl Tryz.prog 12 xT:=
 Cl.gY (mC [Qp+4]) (Fp UQ (Ba zZ (Ba zT Bo))) mixed Tryz.func12 (by kernel_rfl) (by kernel_rfl) λx h=>Ann x.1 x.2.1 x.2.2.1 x.2.2.2.1 x.2.2.2.2.1 x.2.2.2.2.2.1 h
structure QY (n:Int) (o:List Int):Prop where
 asc:o.Pairwise (· < ·)
 row: ∀y∈o,0<=y/\y<n
theorem QY.more {j:Int} {o:List Int} (h:QY j o):QY (j+1) o:=⟨h.asc,λy hy=>by have:=h.row y hy;omega⟩
theorem QY.add {j:Int} {o:List Int} (h:QY j o) (h0:0<=j):QY (j+1) (o++ [j]):=by
 refine ⟨List.pairwise_append.2 ⟨h.asc,by simp,λa ha b hb=>?_⟩,λy hy=>?_⟩
 ·rw [Ad.1 hb];exact (h.row a ha).2
 ·rcases Ay.1 hy with h1|h1
  ·have:=h.row y h1;omega
  ·rw [Ad.1 h1];omega
theorem QY.le {j n:Int} {o:List Int} (h:QY j o) (hj:j<=n):QY n o:=⟨h.asc,λy hy=>by have:=h.row y hy;omega⟩
theorem Ab5 {b:List Int} {n:Int} : ∀(f:Nat) (j i h:Int) (o:List Int),Xi b i->0<=j->j<=n->o.length<=3->QY j o->
  Xi b (WG b n f j i h o).1/\(WG b n f j i h o).2.2.length<=3/\QY n (WG b n f j i h o).2.2
 |0,j,i,h,o,hd,_,hj,ho,ha=>⟨hd,ho,ha.le hj⟩
 |f+1,j,i,h,o,hd,h0,hj,ho,ha=>by
  rw [WG]
  split
  ·rename_i hc
   refine Ab5 f (j+1) _ _ _ hd.next (by omega) (by omega) ?_ ?_
   ·split
    ·rw [Au,Be];omega
    ·exact ho
   ·split
    ·exact ha.add h0
    ·exact ha.more
  ·exact ⟨hd,ho,ha.le hj⟩
theorem Abn {b:List Int} {i n:Int} (hd:Xi b i) (h:Int) (hn:1<=n):Xi b (Nn b i h n).1/\(Nn b i h n).2.2.length<=3/\Qa n (Nn b i h n).2.2=true:=by
 have Ahw:QY 0 ([]:List Int):=⟨List.Pairwise.nil,λy hy=>by cases hy⟩
 obtain ⟨h1,h2,h3⟩:=Ab5 (b:=b) (n:=n) n.toNat 0 i h [] hd (by omega) (by omega) (by simp) Ahw
 unfold Nn
 generalize WG b n n.toNat 0 i h []=r at h1 h2 h3
 have fin: ∀o:List Int,QY n o->0<o.length->Qa n o=true:= λo ho hl=>Is.2 ⟨hl,λj hj _=>by
  have:=ho.row _ (Al hj)
  exact ⟨this.1,by omega,λh0=>Ej.1 ho.asc (j-1) j (by omega) hj (by omega)⟩⟩
 unfold XG
 split
 ·rename_i hz
  have hr:=cD h1 hn r.2.1
  have Alw:r.2.2= []:=List.length_eq_zero_iff.1 hz
  dsimp only
  rw [Alw]
  refine ⟨h1.next,by show 1<=3;decide,fin _ ⟨by simp,λy hy=>?_⟩ (by simp)⟩
  rw [Ad.1 hy]
  exact hr
 ·rename_i hz
  exact ⟨h1,h2,fin _ h3 (by omega)⟩
theorem Aiy (b:List Int) (i h n:Int) (str:ByteArray) (g:List (List Int)) (hd:Xi b i/\Fc (n,str,g,())/\Ca (n,str,g,())=true):fnMW (mB [Qp+3,Ps,Og+9,Og+27]) (look [(23,Ju),(25,Xo),(24,Ex)]) pG Tryz.f11 (b,i,h,n,str,g,()) (λ(z:(List Int×Int×Int×List (List Int×List (List Int)×List Int×Unit)×Unit)×Unit)=>z=((b,(Yj b i h (n,str,g,())).1,(Yj b i h (n,str,g,())).2.1,(Yj b i h (n,str,g,())).2.2,()),())):=by
 obtain ⟨hd,hp,hv⟩:=hd
 have hV:=valid hv
 have hn:1<=n/\n<=20:=hV.n
 have hr:=cD hd (show (1:Int)<=3 by decide) h
 obtain ⟨R,hR⟩: ∃R,Yj b i h (n,str,g,())=R:=⟨_,rfl⟩
 rw [hR]
 unfold Yj at hR
 refine Eq.mp (Ajp b i h n str g _) ⟨_,Ab ⟨hd,by show (1:Int)<=3;decide⟩,rfl,rfl,?_⟩
 refine Di.mk (λy=> ∃(f:Nat) (i h:Int) (o:List TT),y=((f:Int),o,b,i,h,())/\Xi b i/\f+o.length<=2/\wC b (n,str,g,()) f i h o=R) (λy=>y.1.toNat)
  ⟨(dR b i h 3).toNat,dI b i,hN h,[],by rw [gi hr.1],hd.next,by simp only [Eo];omega,hR⟩ ?_
 rintro y ⟨f,i,h,o,rfl,hd,hl,hv⟩
 dsimp only
 refine Br.dec (λhf=>?_) λhf=>?_
 ·obtain ⟨f,rfl⟩: ∃f',f=f'+1:=⟨f-1,by omega⟩
  obtain ⟨t1,t2,t3⟩:=Abn hd h hn.1
  have hT:Xo.fn (b,i,h,n,str,g,())=some ((b,(Nn b i h n).1,(Nn b i h n).2.1,(Nn b i h n).2.2,()),()):=Ab ⟨hd,hn⟩
  have hB:Ex.fn ((n,str,g,()),List.take (Nn b i h n).2.2.length (List.drop 0 (Nn b i h n).2.2),())=some (Ga (n,str,g,()) (Nn b i h n).2.2,Gp (n,str,g,()) (Nn b i h n).2.2,()):=by
   rw [Bv]
   exact Ab ⟨hp,by show (Nn b i h n).2.2.length<=4294967296;omega⟩
  rw [wC] at hv
  refine ⟨_,rfl,_,rfl,_,hT,_,hB,⟨rfl,rfl,by show o.length+1<=4294967296;omega,rfl,rfl,?_⟩,?_⟩
  ·rw [Cn (by omega) (by omega)]
   exact ⟨⟨f,_,_,_,by rw [show ((f+1:Nat):Int)-1=(f:Int) by omega];rfl,t1,by rw [Au];show f+(o.length+1)<=2;omega,hv⟩,by show ((((f+1:Nat):Int)-1).toNat)<(((f+1:Nat):Int)).toNat;omega⟩
  ·repeat' (first|exact ⟨rfl,rfl⟩|exact rfl|refine ⟨_,hT,?_⟩|refine ⟨_,hB,?_⟩|refine ⟨_,rfl,?_⟩|refine ⟨?_,?_⟩)
 ·obtain rfl:f=0:=by omega
  rw [wC] at hv
  rw [<-hv]
  simp only [Bv]
theorem MU:Cl Tryz.prog 11 pG:=
 Cl.gY (mC [Qp+3,Ps,Og+9,Og+27]) (Fp aa (Fp UP (Ba rI Bo))) mixed Tryz.func11 (by kernel_rfl) (by kernel_rfl) λx h=>Aiy x.1 x.2.1 x.2.2.1 x.2.2.2.1 x.2.2.2.2.1 x.2.2.2.2.2.1 h
theorem SU {n:Nat} {l:Int} (h:Fq n l):l∈Ax n:=by
 obtain ⟨h0,h1,h2⟩:=h
 by_cases hp:0<l
 ·have:=(Mp (n:=n) (k:=(l-1).toNat) (by omega)).1
  rwa [show ((l-1).toNat:Int)+1=l by omega] at this
 ·have:=(Mp (n:=n) (k:=(-l-1).toNat) (by omega)).2
  rwa [show-(((-l-1).toNat:Int)+1)=l by omega] at this
theorem BZ {p:PP} (hw:Gq p=true): ∀(w s:List Int),(∀l∈w,Fq (List.length p.2.2.1) l)->s∈Bd p->Mc p.2.2.1 s w∈Bd p
 | [],s,_,hs=>hs
 |l::w,s,hl,hs=>BZ hw w _ (λl' h=>hl l' (Ao _ h)) ((Zd hw).next s hs l (SU (hl l (by simp))))
theorem Wb.whole {p:PP} (hp:Wb p):Gq p=true:=HW hp.valid hp.hi
theorem Ajf {p:PP} (hp:Wb p) {b:List Int} {i:Int} (hd:Xi b i) (h:Int):Xi b (nJ b i h p).1/\(nJ b i h p).2.2∈Bd p:=by
 obtain ⟨hw,xc⟩:=Abo hd h (m:=2) (k:=8) (by decide) (by decide)
 have hw:Nb ((2:Nat):Int) (Vm b i h 2 8).2.2=true:=hw
 have h2:=(dF hw).2
 rw [<-hp.two] at h2
 exact ⟨xc,BZ hp.whole _ _ h2 (Vh hp.valid).2⟩
theorem VF {p:PP} (hp:Wb p) {b:List Int} {i:Int} (hd:Xi b i) (h:Int):Xi b (Nn b i h p.1).1/\short (Nn b i h p.1).2.2/\Gp p (Nn b i h p.1).2.2=true/\Gs p (Ga p (Nn b i h p.1).2.2)=true:=by
 have PB:=hp.lo
 obtain ⟨h1,h2,h3⟩:=Abn hd h (n:=p.1) (by omega)
 have h4:=TS hp.valid hp.hi h3 h2
 exact ⟨h1,by unfold short;omega,h4,CM h4⟩
theorem QU {p:PP} (hp:Wb p) {b:List Int} : ∀(k:Nat) (i h:Int) (o:List TT),Xi b i->(∀t∈o,Gs p t=true/\ay t)->
  Xi b (wC b p k i h o).1/\(wC b p k i h o).2.2.length=k+o.length/\ ∀t∈(wC b p k i h o).2.2,Gs p t=true/\ay t
 |0,i,h,o,hd,ho=>⟨hd,by rw [wC];exact (Cb _).symm,ho⟩
 |k+1,i,h,o,hd,ho=>by
  obtain ⟨t1,_,_,t3⟩:=VF hp hd h
  obtain ⟨h1,h2,h3⟩:=QU hp k (Nn b i h p.1).1 (Nn b i h p.1).2.1 (o++ [Ga p (Nn b i h p.1).2.2]) t1 (λt ht=>by
   rcases Ay.1 ht with h4|h4
   ·exact ho t h4
   ·rw [Ad.1 h4];exact ⟨t3,pV⟩)
  rw [Au,Be] at h2
  rw [wC]
  exact ⟨h1,by omega,h3⟩
structure lE (p:PP) (ts:List TT):Prop where
 set:El p ts=true
 gu:ts.length<=2
 short:Rt ts
 valid: ∀t∈ts,Gs p t=true
theorem Aem {p:PP} (hp:Wb p) {b:List Int} {i:Int} (hd:Xi b i) (h:Int):Xi b (Yj b i h p).1/\lE p (Yj b i h p).2.2:=by
 have hr:=cD hd (show (1:Int)<=3 by decide) h
 obtain ⟨h1,h2,h3⟩:=QU hp (dR b i h 3).toNat (dI b i) (hN h) [] hd.next (λt ht=>by cases ht)
 have h2:(Yj b i h p).2.2.length=(dR b i h 3).toNat+0:=h2
 have h3: ∀t∈(Yj b i h p).2.2,Gs p t=true/\ay t:=h3
 refine ⟨h1,?_,by omega,⟨by omega,λt ht=>(h3 t ht).2⟩,λt ht=>(h3 t ht).1⟩
 exact Bi.2 ⟨Bi.2 ⟨hp.valid,Cy (by omega)⟩,Bb.2 λt ht=>(h3 t ht).1⟩
theorem lE.add {p:PP} (hp:Wb p) {ts:List TT} (h:lE p ts) {t:TT} (ht:Gs p t=true):El p (ts++ [t])=true:=by
 have:=h.gu
 refine Bi.2 ⟨Bi.2 ⟨hp.valid,Cy (by rw [Au,Be];omega)⟩,Bb.2 λt' JX=>?_⟩
 rcases Ay.1 JX with h4|h4
 ·exact h.valid t' h4
 ·rw [Ad.1 h4];exact ht
section
variable {p:PP} {ts:List TT} {s:List Int}
theorem Wb.found (hp:Wb p) (hs:s∈Bd p):Rr p s=true:=oY.2 ⟨hp.whole,hs⟩
theorem Wb.Alb (hp:Wb p) (ht:El p ts=true) (hs:s∈Bd p):Tq p ts s=true:=Bi.2 ⟨DG (hp.found hs),ht⟩
theorem Wb.Acw (hp:Wb p) (hs:s∈Bd p):bT p s=Iq (Bd p) (Dp p) s:=Ab (hp.found hs)
end
theorem QM {g:List (List Int)} {ls:List Int} {L:List (List Int)} {S:List Int->Prop} {dep:List Int->Int} (hc:eQ g ls L) (hd:Mk g ls L S dep): ∀(n:Nat) (x w:List Int),x∈L->dep x=n->
  (cc g dep ls n x w).1.length=w.length+n/\(cc g dep ls n x w).2∈L/\S (cc g dep ls n x w).2
 |0,x,w,hx,e=>⟨rfl,hx,(hd.zero x hx).1 e⟩
 |n+1,x,w,hx,e=>by
  obtain ⟨l,hl,h1⟩:=hd.down x hx (by omega)
  rw [cc]
  split
  ·rename_i l' hf
   have h2:dep (Af x (Am g l'))=n:=Ik (List.find?_some (p:= λl=>decide (dep (Af x (Am g l))=n)) hf)
   have h3:=List.mem_of_find?_eq_some hf
   obtain ⟨a,b⟩:=QM hc hd n _ (w++ [l']) (hc.next x hx l' h3) h2
   rw [Au,Be] at a
   exact ⟨by omega,b⟩
  ·rename_i hf
   have:=List.find?_eq_none.1 hf l hl
   exact absurd (Cy (show dep (Af x (Am g l))=n by omega)) this
section
variable {p:PP}
theorem Acy (hw:Gq p=true) {s:List Int} (hs:s∈Bd p):((Na p s).length:Int)=Iq (Bd p) (Dp p) s/\(∀l∈Na p s,l∈Ax p.2.2.1.length)/\Mc p.2.2.1 s (Na p s)=upto p.1.toNat:=by
 have h0:=(We hw).nn s hs
 obtain ⟨a,b,c⟩:=QM (Zd hw) (We hw) (Iq (Bd p) (Dp p) s).toNat s [] hs (by omega)
 obtain ⟨u,u1,u2⟩:=uP (g:=p.2.2.1) (dep:=Iq (Bd p) (Dp p)) (ls:=Ax p.2.2.1.length) (Iq (Bd p) (Dp p) s).toNat s []
 refine ⟨?_,my _ _ _ λl hl=>(by cases hl),?_⟩
 ·unfold Na
  rw [a]
  simp only [Eo]
  omega
 ·unfold Na
  rw [u1,ic,<-u2,c]
  exact (Vh (Ie hw).1).1
variable {t:List Int}
end
def yy (b:List Int):Prop:=b.length<=1048576/\ ∀y∈b,0<=y/\y<256
noncomputable abbrev MG:Spec:=Hj (.pair tB .unit) .bool false true (λx=>yy x.1) (λ_=>true)
theorem Aq5 {code:List Int} (h:yy code) (hb: ¬(code.length:Int)>4096):Xi code 0:=⟨by omega,h.2,Gi _,by omega⟩
noncomputable def zi (p:PP) (s:List Int):List Int×Bool×Unit:=if (Rr p s&&decide (bT p s<=200))=true then (Na p s,true,()) else ([],false,())
noncomputable abbrev fQ:Spec:=Hj (.pair Jc (.pair tL .unit)) (.pair tL (.pair .bool .unit)) true true (λx=>Fc x.1/\short x.2.1) (λx=>zi x.1 x.2.1)
noncomputable def xt (p:PP) (ts:List TT) (s:List Int) (d:Int):List Int×Int×Bool×Unit:=
 if Uz p ts s d=true then (if (Te p ts s d).2.2.1=0 then ([],(Te p ts s d).1.foldl (· + ·) 0,false,()) else ((Te p ts s d).2.2.2.1,(Te p ts s d).1.foldl (· + ·) 0,true,())) else ([],0,false,())
noncomputable abbrev nX:Spec:=Hj (.pair Jc (.pair tTS (.pair tL (.pair tI .unit)))) (.pair tL (.pair tI (.pair .bool .unit))) true false (λx=>Fc x.1/\Rt x.2.1/\short x.2.2.1) (λx=>xt x.1 x.2.1 x.2.2.1 x.2.2.2.1)
theorem Aeq (p:Int×ByteArray×List (List Int)×Unit) (s:List Int) (P:(List Int×Bool×Unit)->Prop):(∃(y3:(List (List Int)×List Int×List Int×Bool×PUnit)×Int×Bool×PUnit),Wv.fn ((p.1,p.2.1,p.2.2.1,()),s,())=some y3/\Br (!y3.2.2.1) (P (List.take 0 (List.drop 0 []),false,())) (Br (decide (y3.2.1>(200:Int))) (P (List.take 0 (List.drop 0 []),false,())) (∃(y4:(List Int×PUnit)×PUnit),mq.fn (p.1,p.2.1,p.2.2.1,y3.1.1,y3.1.2.1,y3.1.2.2.1,y3.1.2.2.2.1,s,())=some y4/\P (List.take y4.1.1.length (List.drop 0 y4.1.1),true,()))))=fnW Rk (look [(52,Wv),(53,mq)]) fQ Tryz.f14 (p,s,()) P:=by kernel_rfl
abbrev Aaw:Type:=(Int×ByteArray×List (List Int)×PUnit)×Option (List (List Int×List (List Int)×List Int×PUnit)×List (ByteArray->Option Int)×PUnit)×Int×Bool×List Int×Int×Int×Bool×PUnit
theorem Ao6 (p:Int×ByteArray×List (List Int)×Unit) (ts:List (List Int×List (List Int)×List Int×Unit)) (s:List Int) (d:Int) (P:(List Int×Int×Bool×Unit)->Prop):(∃(y5:Option (List (List Int×List (List Int)×List Int×PUnit)×List (ByteArray->Option Int)×PUnit)×Bool×PUnit),Ql.fn ((p.1,p.2.1,p.2.2.1,()),ts,s,())=some y5/\Br (!y5.2.1) (P (List.take 0 (List.drop 0 []),(0:Int),false,())) (∃(y6:Bool),Tf.fn (d,())=some y6/\Br (!y6) (P (List.take 0 (List.drop 0 []),(0:Int),false,())) (∃(y7:(Option ((Int×ByteArray×List (List Int)×PUnit)×Option (List (List Int×List (List Int)×List Int×PUnit)×List (ByteArray->Option Int)×PUnit)×Int×Bool×List Int×Int×Int×Bool×PUnit)×List Int×PUnit)×PUnit),Ot.fn (p.1,p.2.1,p.2.2.1,y5.1,s,d,())=some y7/\0=0/\y7.1.2.1.length=y7.1.2.1.length/\Di (λ(v8:Int×Int×List Int×PUnit) (k9:Int×Int×List Int×PUnit->Prop)=>Br (decide (v8.2.1<(↑y7.1.2.1.length:Int))) (((0:Int)<=v8.2.1/\v8.2.1<(↑v8.2.2.1.length:Int))/\ ∃(Jw:Int),v8.2.2.1[0+v8.2.1.toNat]?=some Jw/\0=0/\v8.2.2.1.length=v8.2.2.1.length/\k9 (IntKind.i64.wrap (v8.1+Jw),IntKind.i64.wrap (v8.2.1+(1:Int)),v8.2.2.1,())) (∃(Jw:Aaw),y7.1.1=some Jw/\Br (Jw.2.2.2.2.2.2.1==(0:Int)) (P (List.take 0 (List.drop 0 []),v8.1,false,())) (∃(Ix:Aaw),y7.1.1=some Ix/\P (Ix.2.2.2.2.1,v8.1,true,())))) ((0:Int),(0:Int),y7.1.2.1,PUnit.unit))))=fnW Rk (look [(54,Ql),(55,Tf),(56,Ot)]) nX Tryz.f15 (p,ts,s,d,()) P:=by kernel_rfl
theorem AD {p:PP} (hw:Gq p=true):Dk p=(Ds p.2.2.1 (upto p.1.toNat),true,()):=by
 unfold Dk
 rw [Ab (Ie hw).1,hw]
theorem Ae6 (p:PP) (s:List Int) (h:Fc p/\short s):fnW Rk (look [(52,Wv),(53,mq)]) fQ Tryz.f14 (p,s,()) (λ(z:List Int×Bool×Unit)=>z=zi p s):=by
 refine Eq.mp (Aeq p s _) ⟨_,Ab h,?_⟩
 unfold zi
 show Br (!Rr p s) _ _
 refine Br.of (λhb=>by rw [Ai (λhh=>Hm hb (Bi.1 hh).1)];rfl) λhb=>?_
 have hf:=Ho hb
 obtain ⟨hw,hs⟩:=oY.1 hf
 show Br (decide (bT p s>200)) _ _
 refine Br.dec (λhd=>?_) λhd=>?_
 ·rw [Ai (λhh=>by have:=Ik (Bi.1 hh).2;omega)]
  rfl
 ·rw [Ab (Bi.2 ⟨hf,Cy (by omega)⟩)]
  have hd:mq.fn (p.1,p.2.1,p.2.2.1,(Dk p).1.1,(Dk p).1.2.1,(Dk p).1.2.2.1,(Dk p).1.2.2.2.1,s,())=some ((Na p s,()),()):=Ab ⟨hw,by rw [AD hw],hs⟩
  refine ⟨_,hd,?_⟩
  rw [Bv]
theorem GP:Sound Tryz.prog 14 fQ:=
 Sound.Hj Qm (Ba oc (Fp MP Bo)) mixed Tryz.func14 (by kernel_rfl) (by kernel_rfl) λx h=>Ae6 x.1 x.2.1 h
theorem HD {nx:List Int->Int->List Int} {low:List Int->Int} {one ls:List Int} {depth:Int} : ∀(f:Nat) (s w:List Int) (v:DS),v.2.2.2.2.1=false->v.2.2.2.1=false->v.2.1=0->
  (vN nx low one ls depth f s w v).2.2.2.1=true->(vN nx low one ls depth f s w v).2.1=0
 |0,_,_,_,_,h,_,h2=>by rw [vN,h] at h2;cases h2
 |f+1,s,w,v,ha,h,hm,h2=>by
  unfold vN at h2⊢
  split at h2
  ·rename_i hc
   rw [Ab hc]
   exact hm
  ·rename_i hc
   rw [Ai hc]
   split at h2
   ·rename_i hc2
    rw [Ab hc2]
    exact hm
   ·rename_i hc2
    rw [Ai hc2]
    split at h2
    ·rename_i VY
     rw [Ab VY]
     split at h2
     ·exact absurd h2 (by show ¬v.2.2.2.1=true;rw [h];decide)
     ·exact absurd h2 (by show ¬v.2.2.2.1=true;rw [h];decide)
    ·rename_i VY
     rw [Ai VY]
     refine (Qz (R:= λb:DS=>b.2.2.2.2.1=false/\(b.2.2.2.1=true->b.2.1=0)/\(Gc b=false->b.2.1=0)) (ls.filter λl=>!(l== -Ji w)) ((v.1+1,v.2):DS) ⟨ha,λ_=>hm,λ_=>hm⟩ λb l _ hb=>?_).2.1 h2
     split
     ·exact hb
     ·rename_i hd
      have hd:Gc b=false:=by simpa using hd
      have hb3:=hb.2.2 hd
      have kQ:b.2.2.2.1=false:=by
       unfold Gc at hd
       exact (Bool.or_eq_false_iff.1 hd).1
      have e:=uY (nx:=nx) (low:=low) (one:=one) (ls:=ls) (depth:=depth) f (nx s l) (w++ [l]) b
      have Jh:(vN nx low one ls depth f (nx s l) (w++ [l]) b).2.2.2.2.1=false:=by rw [e];exact hb.1
      refine ⟨Jh,HD f _ _ b hb.1 kQ hb3,λRZ=>?_⟩
      unfold Gc at RZ
      obtain ⟨_,h5⟩:=Bool.or_eq_false_iff.1 RZ
      rw [Jh] at h5
      have h6:=Int.not_lt.1 (of_decide_eq_false (by simpa using h5))
      have h7:=Abk (nx:=nx) (low:=low) (one:=one) (ls:=ls) (depth:=depth) f (nx s l) (w++ [l]) b (by omega)
      omega
where
 Abk {nx:List Int->Int->List Int} {low:List Int->Int} {one ls:List Int} {depth:Int} : ∀(f:Nat) (s w:List Int) (v:DS),0<=v.2.1->0<=(vN nx low one ls depth f s w v).2.1
  |0,_,_,_,h=>h
  |f+1,s,w,v,h=>by
   unfold vN
   split
   ·exact h
   ·split
    ·exact h
    ·split
     ·split
      ·show 0<=v.2.1+1
       omega
      ·exact h
     ·refine Qz (R:= λb:DS=>0<=b.2.1) _ _ h λb l _ hb=>?_
      split
      ·exact hb
      ·exact Abk f _ _ _ hb
def IG (r:Option SR) (v:DS):Prop:= ∃x,r=some x/\x.2.2.2.2.2.2.1=v.2.1/\(v.2.1≠0->x.2.2.2.2.1=v.2.2.1)
theorem QK (p:PP) (ts:List TT) (s:List Int) (k:Int):IG (some (SX p (some (Cw ts)) s k false)) (Lm p ts s k false):=by
 have h:=oe p ts s k false
 refine ⟨_,rfl,h.m,λJl=>?_⟩
 have Jh:(Lm p ts s k false).2.2.2.2.1=false:=h.all
 have kQ:(Lm p ts s k false).2.2.2.1=false:=by
  cases e:(Lm p ts s k false).2.2.2.1 with
  |false=>rfl
  |true=>exact absurd (HD _ _ _ _ rfl rfl rfl e) Jl
 refine h.found ?_ kQ
 rw [h.stop]
 unfold Gc
 have:=h.ok.m0
 rw [Jh,kQ,Cy (show 0<(Lm p ts s k false).2.1 by omega)]
 rfl
theorem tA (p:PP) (ts:List TT) (s:List Int) (d:Int): ∀(f:Nat) (k:Int) (v:DS) (r:Option SR) (out:List Int),Gc v=false->IG r v->IG (Od p (some (Cw ts)) s d f k r out).2 (Sd p ts s d f k v out).2
 |0,_,_,_,_,_,h=>h
 |f+1,k,v,r,out,hv,h=>by
  have hsd:=QJ p ts s k
  have hn:=(oe p ts s k false).n
  rw [Od,Sd,hsd,hn]
  by_cases hk:k<=d
  ·rw [Ab hk,Ab (show k<=d/\Gc v=false from ⟨hk,hv⟩)]
   by_cases hd:Gc (Lm p ts s k false)=true
   ·rw [Ab hd,pY hd]
    exact QK p ts s k
   ·rw [Ai hd]
    exact tA p ts s d f (k+1) _ _ _ (by simpa using hd) (QK p ts s k)
  ·rw [Ai hk,Ai (λhc=>hk hc.1)]
   exact h
theorem dk: ∀(l:List Int) (a:Int),(∀x∈l,0<=x/\x<=20000)->a<=l.foldl (· + ·) a/\l.foldl (· + ·) a<=a+l.length*20000
 | [],a,_=>by simp
 |x::l,a,h=>by
  rw [Df]
  have h1:=h x (by simp)
  have h2:=dk l (a+x) λy hy=>h y (Ao _ hy)
  rw [Aw]
  push_cast
  omega
theorem pc (p:PP) (ts:List TT) (s:List Int) (d:Int): ∀(f:Nat) (k:Int) (v:DS) (out:List Int),(∀x∈out,0<=x/\x<=20000)-> ∀x∈(Sd p ts s d f k v out).1,0<=x/\x<=20000
 |0,_,_,_,h=>h
 |f+1,k,v,out,h=>by
  rw [Sd]
  split
  ·refine pc p ts s d f (k+1) _ _ λx hx=>?_
   rcases Ay.1 hx with hx|hx
   ·exact h x hx
   ·rw [Ad.1 hx]
    have:=(oe p ts s k false).ok
    exact ⟨this.n0,this.n1⟩
  ·exact h
theorem Anh (p:PP) (ts:List TT) (s:List Int) (d:Int) (h:Fc p/\Rt ts/\short s):fnW Rk (look [(54,Ql),(55,Tf),(56,Ot)]) nX Tryz.f15 (p,ts,s,d,()) (λ(z:List Int×Int×Bool×Unit)=>z=xt p ts s d):=by
 refine Eq.mp (Ao6 p ts s d _) ?_
 unfold xt
 by_cases hh:Tq p ts s=true
 ·refine ⟨(some (Cw ts),true,()),(Ab h).trans (Gz some (Ab hh)),λhb=>by simp at hb,λ_=>⟨j0 d,Ab trivial,?_⟩⟩
  have hc:Uz p ts s d=j0 d:=by unfold Uz;rw [hh,Sx]
  refine Br.of (λhd=>?_) λhd=>?_
  ·rw [Ai (by rw [hc];exact Hm hd)]
   rfl
  ·have hd:Uz p ts s d=true:=by rw [hc];simpa using hd
   obtain ⟨_,h0,h30⟩:=dO.1 hd
   rw [Ab hd]
   have hl:=tA p ts s d 40 (Ir ts s) (0,0,[],false,false,()) (some az) [] rfl ⟨az,rfl,rfl,λJl=>absurd rfl Jl⟩
   have hi:=iZ p ts s d 40 (Ir ts s) (0,0,[],false,false,()) (some az) [] rfl
   have HY:=pc p ts s d 40 (Ir ts s) (0,0,[],false,false,()) [] λx hx=>by cases hx
   have ef:=lR p ts s d 40 (Ir ts s) (0,0,[],false,false,()) []
   have ef:(Te p ts s d).1.length<=0+40:=ef
   have HY: ∀x∈(Te p ts s d).1,0<=x/\x<=20000:=HY
   obtain ⟨X,hX⟩: ∃X,Od p (some (Cw ts)) s d 40 (Ir ts s) (some az) []=X:=⟨_,rfl⟩
   obtain ⟨Y,hY⟩: ∃Y,Te p ts s d=Y:=⟨_,rfl⟩
   have hY':Sd p ts s d 40 (Ir ts s) (0,0,[],false,false,()) []=Y:=hY
   rw [hX,hY'] at hl hi
   rw [hY] at HY ef⊢
   have e7:Ot.fn (p.1,p.2.1,p.2.2.1,some (Cw ts),s,d,())=some ((X.2,X.1,()),()):=(Ab ⟨ts,rfl,hh,h0,h30⟩).trans (Gz some (by
    show (((Od p (some (Cw ts)) s d 40 (Ir ts s) (some az) []).2,(Od p (some (Cw ts)) s d 40 (Ir ts s) (some az) []).1,()),())=_
    rw [hX]))
   refine ⟨_,e7,rfl,rfl,?_⟩
   obtain ⟨x,hx,l1,l2⟩:=hl
   rw [hi,hx]
   dsimp only
   refine Bw Y.1.length (λv=>v.2.1) (λk v=>v.1=(Y.1.take k).foldl (· + ·) 0/\v.2.2=(Y.1,())) rfl ⟨rfl,rfl⟩ ?_
   rintro k ⟨a,k',V⟩ K hk qg ⟨ha,hV⟩ hK
   dsimp only at qg ha hV
   subst hV qg ha
   dsimp only
   refine Br.dec (λhl=>?_) λhl=>?_
   ·have hl:k<Y.1.length:=by omega
    refine ⟨⟨by omega,by omega⟩,Y.1[k],by rw [Cb,Ar];exact Ac hl,rfl,rfl,?_⟩
    have e:(Y.1.take (k+1)).foldl (· + ·) 0=(Y.1.take k).foldl (· + ·) 0+Y.1[k]:=by
     rw [Ge,Ac hl,Vy]
     rfl
    have hb:=dk (Y.1.take (k+1)) 0 λx hx=>HY x (Ey hx)
    have htl:(Y.1.take (k+1)).length<=40:=by rw [Dc];omega
    rw [e] at hb
    rw [Cn (by omega) (by omega),Bz (by omega)]
    exact hK hl _ rfl ⟨e.symm,rfl⟩
   ·have:k=Y.1.length:=by omega
    subst this
    rw [Bc]
    refine ⟨x,rfl,Br.of (λhm=>?_) λhm=>?_⟩
    ·have hm:x.2.2.2.2.2.2.1=0:=eq_of_beq hm
     rw [Ab (by rw [<-l1];exact hm)]
     rfl
    ·have hm: ¬x.2.2.2.2.2.2.1=0:= λe=>by rw [e] at hm;simp at hm
     have hm2: ¬Y.2.2.1=0:= λe=>hm (by rw [l1];exact e)
     rw [Ai hm2]
     refine ⟨x,rfl,?_⟩
     rw [l2 hm2]
 ·have hc: ¬Uz p ts s d=true:= λhc=>hh (dO.1 hc).1
  rw [Ai hc]
  exact ⟨(none,false,()),(Ab h).trans (Gz some (Ai hh)),λ_=>rfl,λhb=>by simp at hb⟩
theorem UI:Sound Tryz.prog 15 nX:=
 Sound.Hj Qm (Ba jr (Ba lg (Fp js Bo))) mixed Tryz.func15 (by kernel_rfl) (by kernel_rfl) λx h=>Anh x.1 x.2.1 x.2.2.1 x.2.2.2.1 h
variable {p:PP} {ts:List TT} {s:List Int}
noncomputable abbrev dp (p:PP):List Int->Int:=Iq (Bd p) (Dp p)
theorem oP (p:PP) (ts:List TT) (s:List Int) (k:Nat) (all:Bool):Lm p ts s (k:Int) all=vG p.2.2.1 (Ir ts) (upto p.1.toNat) (Ax p.2.2.1.length) (k:Int) (k+1) s [] (0,0,[],false,all,()):=by
 unfold Lm An8
 rw [show ((k:Int)-(([]:List Int).length:Int)).toNat=k by simp]
 rfl
theorem Ab6: ∀ {f:Nat},f<=7->tN f<=20000:= λ {f} h=>by
 match f,h with
 |0,_=>decide
 |1,_=>decide
 |2,_=>decide
 |3,_=>decide
 |4,_=>decide
 |5,_=>decide
 |6,_=>decide
 |7,_=>decide
theorem Abj (_:eT p.2.2.1 (Ax p.2.2.1.length) (upto p.1.toNat) (Bd p) (dp p) (Ir ts)):Up p.2.2.1 (Ax p.2.2.1.length) (dp p) s []:= λh=>by
 have:=Lo h
 unfold Fq Ji at this
 simp at this
theorem Acv (hw:Gq p=true) (ht:El p ts=true) (h2:p.2.2.1.length=2) (hs:s∈Bd p) {k:Nat} (hk:k<=6) (hd:(k:Int)<dp p s) (all:Bool):
  (Lm p ts s (k:Int) all).2.2.2.1=false/\(Lm p ts s (k:Int) all).2.1=0/\Gc (Lm p ts s (k:Int) all)=false:=by
 have S:=s6 hw ht h2
 rw [oP]
 obtain ⟨a1,_⟩:=eL (g:=p.2.2.1) (low:=Ir ts) (one:=upto p.1.toNat) (depth:=(k:Int)) S.gu (k+1) s [] (0,0,[],false,all,()) rfl (by have:=Ab6 (f:=k+1) (by omega);show (0:Int)+tN (k+1)<=20000;omega)
 obtain ⟨b1,_⟩:=uZ (depth:=(k:Int)) S (k+1) s [] (0,0,[],false,all,()) hs (by simpa using hd)
 refine ⟨a1,b1,?_⟩
 unfold Gc
 rw [a1,b1]
 rfl
theorem XE (hw:Gq p=true) (ht:El p ts=true) (h2:p.2.2.1.length=2) (hs:s∈Bd p) {k:Nat} (hk:k<=6) (hd:dp p s=k):
  (Lm p ts s (k:Int) false).2.2.2.1=false/\(Lm p ts s (k:Int) false).2.1=1/\(Lm p ts s (k:Int) false).2.2.1=Na p s/\Gc (Lm p ts s (k:Int) false)=true:=by
 have S:=s6 hw ht h2
 have hn:(0:Int)+tN (k+1)<=20000:=by have:=Ab6 (f:=k+1) (by omega);omega
 have Jh:(Lm p ts s (k:Int) false).2.2.2.2.1=false:=by
  rw [oP]
  exact Gz Prod.fst (uY (k+1) s [] _)
 rw [oP] at Jh⊢
 obtain ⟨a1,_⟩:=eL (g:=p.2.2.1) (low:=Ir ts) (one:=upto p.1.toNat) (depth:=(k:Int)) S.gu (k+1) s [] (0,0,[],false,false,()) rfl hn
 obtain ⟨b1,b2⟩:=s9 (depth:=(k:Int)) S k s [] (0,0,[],false,false,()) hs hd (by simp) rfl rfl rfl hn (Abj S)
 refine ⟨a1,b1,?_,?_⟩
 ·rw [b2]
  unfold Na
  rw [show (Iq (Bd p) (Dp p) s).toNat=k by rw [show Iq (Bd p) (Dp p) s=dp p s from rfl,hd,Ar]]
 ·unfold Gc
  rw [a1,b1,Jh]
  rfl
theorem Abv (code:List Int) (P:Bool->Prop):(∃(y2:Bool),xM.fn (code,())=some y2/\Br y2 (P true) (∃(y3:(List Int×Int×Int×PUnit)×PUnit),pF.fn (code,(1113:Int),())=some y3/\ ∃(y4:(List Int×Int×Int×Int×ByteArray×List (List Int)×PUnit)×PUnit),xS.fn (y3.1.1,y3.1.2.1,y3.1.2.2.1,())=some y4/\ ∃(y5:(List Int×Int×Int×List (List Int×List (List Int)×List Int×PUnit)×PUnit)×PUnit),pG.fn (y4.1.1,y4.1.2.1,y4.1.2.2.1,y4.1.2.2.2.1,y4.1.2.2.2.2.1,List.take y4.1.2.2.2.2.2.1.length (List.drop 0 y4.1.2.2.2.2.2.1),())=some y5/\ ∃(y6:(List Int×Int×Int×List Int×PUnit)×PUnit),xT.fn (y5.1.1,y5.1.2.1,y5.1.2.2.1,y4.1.2.2.2.1,y4.1.2.2.2.2.1,List.take y4.1.2.2.2.2.2.1.length (List.drop 0 y4.1.2.2.2.2.2.1),())=some y6/\ ∃(y7:Int),mo.fn ((y4.1.2.2.2.1,y4.1.2.2.2.2.1,List.take y4.1.2.2.2.2.2.1.length (List.drop 0 y4.1.2.2.2.2.2.1),()),y6.1.2.2.2.1,())=some y7/\Br (decide (y7>(6:Int))) (P true) (∃(y8:List Int×Bool×PUnit),fQ.fn ((y4.1.2.2.2.1,y4.1.2.2.2.2.1,List.take y4.1.2.2.2.2.2.1.length (List.drop 0 y4.1.2.2.2.2.2.1),()),y6.1.2.2.2.1,())=some y8/\ ∃(y9:List Int×Int×Bool×PUnit),nX.fn ((y4.1.2.2.2.1,y4.1.2.2.2.2.1,List.take y4.1.2.2.2.2.2.1.length (List.drop 0 y4.1.2.2.2.2.2.1),()),List.take y5.1.2.2.2.1.length (List.drop 0 y5.1.2.2.2.1),y6.1.2.2.2.1,y7,())=some y9/\ ∃(Jw:List Int×Int×Bool×PUnit),nX.fn ((y4.1.2.2.2.1,y4.1.2.2.2.2.1,List.take y4.1.2.2.2.2.2.1.length (List.drop 0 y4.1.2.2.2.2.2.1),()),List.take 0 (List.drop 0 []),y6.1.2.2.2.1,y7,())=some Jw/\Br (!y9.2.2.1) (P false) (Br (!Jw.2.2.1) (P false) (∃(Ix:Bool),Sr.fn (y9.1,y8.1,())=some Ix/\Br (!Ix) (P false) (∃(Jf:Bool),Sr.fn (Jw.1,y8.1,())=some Jf/\Br (!Jf) (P false) (Br (decide (y9.2.1>Jw.2.1)) (P false) (Br (decide (y9.2.1<(1:Int))) (P false) (∃(Hl:(List Int×PUnit)×PUnit),Yq.fn (y4.1.2.2.2.1,y4.1.2.2.2.2.1,List.take y4.1.2.2.2.2.2.1.length (List.drop 0 y4.1.2.2.2.2.2.1),List.take y5.1.2.2.2.1.length (List.drop 0 y5.1.2.2.2.1),y6.1.2.2.2.1,y7,())=some Hl/\0=0/\Hl.1.1.length=Hl.1.1.length/\Di (λ(VE:Int×Int×List Int×PUnit) (k15:Int×Int×List Int×PUnit->Prop)=>Br (decide (VE.2.1<(↑VE.2.2.1.length:Int))) (((0:Int)<=VE.2.1/\VE.2.1<(↑VE.2.2.1.length:Int))/\ ∃(Ha:Int),VE.2.2.1[0+VE.2.1.toNat]?=some Ha/\0=0/\VE.2.2.1.length=VE.2.2.1.length/\k15 (IntKind.i64.wrap (VE.1+Ha),IntKind.i64.wrap (VE.2.1+(1:Int)),VE.2.2.1,())) (P (VE.1==y9.2.1))) ((0:Int),(0:Int),Hl.1.1,PUnit.unit))))))))))=fnW (mB [fS+4,j8]) (look [(8,xM),(9,pF),(10,xS),(11,pG),(12,xT),(13,mo),(14,fQ),(15,nX),(16,Sr),(17,Yq)]) MG Tryz.f3 (code,()) P:=by kernel_rfl
theorem Agw: ∀(l:List Int) (a:Int),a<=l.foldl max a
 | [],_=>Gi _
 |x::l,a=>by
  rw [Df]
  have:=Agw l (max a x)
  omega
noncomputable def BJ (p:PP) (ts:List TT) (s:List Int):Nat->Nat->List Int
 |0,k=> [(Lm p ts s (k:Int) false).1]
 |m+1,k=>(Lm p ts s (k:Int) false).1::BJ p ts s m (k+1)
section
variable {p:PP} {ts:List TT} {s:List Int}
theorem CT (hw:Gq p=true) (ht:El p ts=true) (h2:p.2.2.1.length=2) (hs:s∈Bd p) {d:Nat} (hd:dp p s=d) (h6:d<=6): ∀(m f k:Nat) (v:DS) (out:List Int),k+m=d->m+1<=f->Gc v=false->
  Sd p ts s (d:Int) f (k:Int) v out=(out++BJ p ts s m k,Lm p ts s (d:Int) false)
 |0,f+1,k,v,out,hk,_,hv=>by
  obtain rfl:k=d:=hk
  rw [Sd,Ab ⟨Gi _,hv⟩]
  match f with
  |0=>rfl
  |f+1=>
   rw [Sd,Ai (λhc=>by omega)]
   rfl
 |m+1,f+1,k,v,out,hk,hf,hv=>by
  rw [Sd,Ab ⟨by omega,hv⟩]
  have:=CT hw ht h2 hs hd h6 m f (k+1) (Lm p ts s (k:Int) false) (out++ [(Lm p ts s (k:Int) false).1]) (by omega) (by omega) (Acv hw ht h2 hs (k:=k) (by omega) (by rw [hd];omega) false).2.2
  rw [Co] at this
  exact this
theorem UT: ∀(l:List Int) (a:Int),l.foldl (· + ·) a=a+l.foldl (· + ·) 0
 | [],a=>by simp
 |x::l,a=>by
  rw [Df,Df,UT l (a+x),UT l (0+x)]
  omega
theorem tU (k:Nat):1<=(Lm p ts s (k:Int) false).1:=by
 rw [oP]
 exact Abl (nx:=cw p.2.2.1) (low:=Ir ts) (one:=upto p.1.toNat) (ls:=Ax p.2.2.1.length) (depth:=(k:Int)) k s [] (0,0,[],false,false,()) (by show ¬(0:Int)=20000;decide)
theorem QP: ∀(m k:Nat),1<=(BJ p ts s m k).foldl (· + ·) 0
 |0,k=>by
  have:=tU (p:=p) (ts:=ts) (s:=s) k
  show 1<=0+(Lm p ts s (k:Int) false).1
  omega
 |m+1,k=>by
  have h1:=tU (p:=p) (ts:=ts) (s:=s) k
  have h2:=QP m (k+1)
  rw [BJ,Df,UT]
  omega
theorem GV {d:Nat} : ∀(k m:Nat),k+m=d->(BJ p ts s m k).foldl (· + ·) 0<=(BJ p ts s d 0).foldl (· + ·) 0
 |0,m,h=>by
  obtain rfl:m=d:=by omega
  exact Gi _
 |k+1,m,h=>by
  have h1:=GV (d:=d) k (m+1) (by omega)
  have h2:=tU (p:=p) (ts:=ts) (s:=s) k
  rw [BJ,Df,UT] at h1
  omega
theorem QC (hw:Gq p=true) (ht:El p ts=true) (JY:El p []=true) (h2:p.2.2.1.length=2) (hs:s∈Bd p) {k:Nat} (hk:k<=6) (hd:(k:Int)<=dp p s):(Lm p ts s (k:Int) false).1<=(Lm p [] s (k:Int) false).1:=by
 have S:=s6 hw ht h2
 have S':=s6 hw JY h2
 have hn:(0:Int)+tN (k+1)<=20000:=by have:=Ab6 (f:=k+1) (by omega);omega
 rw [oP,oP]
 have:=AR (depth:=(k:Int)) S S' (λx=>Agw (aq ts x) 0) k s [] (0,0,[],false,false,()) (0,0,[],false,false,()) hs hd (by simp) rfl rfl rfl hn rfl rfl rfl hn
 dsimp only at this
 omega
theorem Aau (hw:Gq p=true) (ht:El p ts=true) (JY:El p []=true) (h2:p.2.2.1.length=2) (hs:s∈Bd p) {d:Nat} (hd:dp p s=d) (h6:d<=6): ∀(m k:Nat),k+m=d->(BJ p ts s m k).foldl (· + ·) 0<=(BJ p [] s m k).foldl (· + ·) 0
 |0,k,h=>by
  have:=QC hw ht JY h2 hs (k:=k) (by omega) (by rw [hd];omega)
  show 0+(Lm p ts s (k:Int) false).1<=0+(Lm p [] s (k:Int) false).1
  omega
 |m+1,k,h=>by
  have h1:=QC hw ht JY h2 hs (k:=k) (by omega) (by rw [hd];omega)
  have h3:=Aau hw ht JY h2 hs hd h6 m (k+1) (by omega)
  rw [BJ,BJ,Df,Df,UT,UT (BJ p [] s m (k+1))]
  omega
theorem YW (hw:Gq p=true) (ht:El p ts=true) (h2:p.2.2.1.length=2) (hs:s∈Bd p) (hc:Uz p ts s (dp p s)=true) {d:Nat} (hd:dp p s=d) (h6:d<=6):
  (Ir ts s).toNat+(d-(Ir ts s).toNat)=d/\(Te p ts s (dp p s)).1=BJ p ts s (d-(Ir ts s).toNat) (Ir ts s).toNat/\xt p ts s (dp p s)=(Na p s,(BJ p ts s (d-(Ir ts s).toNat) (Ir ts s).toNat).foldl (· + ·) 0,true,()):=by
 have h0:0<=Ir ts s:=Agw (aq ts s) 0
 have h1:=PW hw ht hs
 have h1:Ir ts s<=dp p s:=h1
 obtain ⟨k,hk⟩:=Jd h0
 have e:Te p ts s (dp p s)=(BJ p ts s (d-k) k,Lm p ts s (d:Int) false):=by
  unfold Te
  rw [hk,hd]
  exact CT hw ht h2 hs hd h6 (d-k) 40 k _ [] (by omega) (by omega) rfl
 rw [hk,Ar]
 refine ⟨by omega,by rw [e],?_⟩
 obtain ⟨n1,n2,n3,n4⟩:=XE hw ht h2 hs h6 hd
 unfold xt
 rw [Ab hc,e]
 dsimp only
 rw [n2,Ai (by decide),n3]
end
theorem Aa4 (code:List Int) (h:yy code):fnW (mB [fS+4,j8]) (look [(8,xM),(9,pF),(10,xS),(11,pG),(12,xT),(13,mo),(14,fQ),(15,nX),(16,Sr),(17,Yq)]) MG Tryz.f3 (code,()) (λ(z:Bool)=>z=true):=by
 refine Eq.mp (Abv code _) ⟨_,Ab trivial,Br.dec (λ_=>rfl) λhb=>?_⟩
 have hb: ¬(code.length:Int)>4096:=hb
 have hd0:=Aq5 h hb
 refine ⟨_,Ab (show code.length<=4096 by omega),_,Ab hd0,?_⟩
 obtain ⟨hp,hd1⟩:=NK hd0 (pf code 1113)
 obtain ⟨W,hW⟩: ∃W,aG code 0 (pf code 1113)=W:=⟨_,rfl⟩
 rw [hW] at hp hd1
 simp only [hW,Bv,List.take_zero]
 obtain ⟨i1,h1,n,str,g,u⟩:=W
 obtain rfl:u=():=rfl
 dsimp only at hp hd1⊢
 have hs:=hp.short
 refine ⟨_,Ab ⟨hd1,hs,hp.valid⟩,?_⟩
 obtain ⟨RZ,ht⟩:=Aem hp hd1 h1
 obtain ⟨W,hW⟩: ∃W,Yj code i1 h1 (n,str,g,())=W:=⟨_,rfl⟩
 rw [hW] at RZ ht
 simp only [hW]
 obtain ⟨i2,h2,ts⟩:=W
 dsimp only at RZ ht⊢
 refine ⟨_,Ab ⟨RZ,hs,hp.valid,hp.two⟩,?_⟩
 obtain ⟨hd3,Pj⟩:=Ajf hp RZ h2
 obtain ⟨W,hW⟩: ∃W,nJ code i2 h2 (n,str,g,())=W:=⟨_,rfl⟩
 rw [hW] at hd3 Pj
 simp only [hW]
 obtain ⟨i3,h3,s⟩:=W
 dsimp only at hd3 Pj⊢
 clear hW
 have hw:=hp.whole
 have hss:short s:=ua (GQ hp.valid Pj)
 obtain ⟨d,hd⟩: ∃d,dp (n,str,g,()) s=d:=⟨_,rfl⟩
 have e7:mo.fn ((n,str,g,()),s,())=some d:=(Ab ⟨hs,hss⟩).trans (Gz some ((hp.Acw Pj).trans hd))
 have hdn:0<=d:=by rw [<-hd];exact (We hw).nn s Pj
 refine ⟨_,e7,Br.dec (λ_=>by trivial) λh5=>?_⟩
 have h5:d<=6:=by omega
 obtain ⟨k,rfl⟩:=Jd hdn
 have JY:El (n,str,g,()) []=true:=Bi.2 ⟨Bi.2 ⟨hp.valid,by decide⟩,rfl⟩
 have Asd:Rt []:=⟨by decide,λ_ hx=>by cases hx⟩
 have XT:Uz (n,str,g,()) ts s (dp (n,str,g,()) s)=true:=dO.2 ⟨hp.Alb ht.set Pj,by omega,by omega⟩
 have Ah3:Uz (n,str,g,()) [] s (dp (n,str,g,()) s)=true:=dO.2 ⟨hp.Alb JY Pj,by omega,by omega⟩
 obtain ⟨q1,it1,id1⟩:=YW hw ht.set hp.two Pj XT hd (by omega)
 obtain ⟨_,_,id2⟩:=YW hw JY hp.two Pj Ah3 hd (by omega)
 have id2:xt (n,str,g,()) [] s (dp (n,str,g,()) s)=(Na (n,str,g,()) s,(BJ (n,str,g,()) [] s k 0).foldl (· + ·) 0,true,()):=id2
 have HY:=pc (n,str,g,()) ts s (dp (n,str,g,()) s) 40 (Ir ts s) (0,0,[],false,false,()) [] λx hx=>by cases hx
 have ef:=lR (n,str,g,()) ts s (dp (n,str,g,()) s) 40 (Ir ts s) (0,0,[],false,false,()) []
 have HY: ∀x∈(Te (n,str,g,()) ts s (dp (n,str,g,()) s)).1,0<=x/\x<=20000:=HY
 have ef:(Te (n,str,g,()) ts s (dp (n,str,g,()) s)).1.length<=0+40:=ef
 rw [it1] at HY ef
 have yT:=QP (p:=(n,str,g,())) (ts:=ts) (s:=s) (k-(Ir ts s).toNat) (Ir ts s).toNat
 have Adg:=Aau hw ht.set JY hp.two Pj hd (by omega) (k-(Ir ts s).toNat) (Ir ts s).toNat q1
 have Arr:=GV (p:=(n,str,g,())) (ts:= []) (s:=s) (d:=k) (Ir ts s).toNat (k-(Ir ts s).toNat) q1
 obtain ⟨Y,hY⟩: ∃Y,BJ (n,str,g,()) ts s (k-(Ir ts s).toNat) (Ir ts s).toNat=Y:=⟨_,rfl⟩
 rw [hY] at it1 id1 HY ef yT Adg
 rw [hd] at it1 id1 id2 XT
 have hlen:=XF hw Pj
 have hdl:=(Acy hw Pj).1
 have hfd:(Rr (n,str,g,()) s&&decide (bT (n,str,g,()) s<=200))=true:=Bi.2 ⟨hp.found Pj,Cy (by rw [hp.Acw Pj];show dp (n,str,g,()) s<=200;omega)⟩
 have hDs:short (Na (n,str,g,()) s):=by show (Na (n,str,g,()) s).length<=4294967296;omega
 have e8:fQ.fn ((n,str,g,()),s,())=some (Na (n,str,g,()) s,true,()):=(Ab ⟨hs,hss⟩).trans (Gz some (Ab hfd))
 have e9:nX.fn ((n,str,g,()),ts,s,(k:Int),())=some (Na (n,str,g,()) s,Y.foldl (· + ·) 0,true,()):=(Ab ⟨hs,ht.short,hss⟩).trans (Gz some id1)
 have e10:nX.fn ((n,str,g,()),[],s,(k:Int),())=some (Na (n,str,g,()) s,(BJ (n,str,g,()) [] s k 0).foldl (· + ·) 0,true,()):=(Ab ⟨hs,Asd,hss⟩).trans (Gz some id2)
 have e11:Sr.fn (Na (n,str,g,()) s,Na (n,str,g,()) s,())=some true:=(Ab ⟨hDs,hDs⟩).trans (Gz some (Cy rfl))
 have e13:Yq.fn (n,str,g,ts,s,(k:Int),())=some ((Y,()),()):=(Ab ⟨hs,ht.short,hss⟩).trans (Gz some (by
  show ((EO (n,str,g,()) ts s (k:Int),()),())=_
  unfold EO
  rw [Ab XT,it1]))
 have hle:=Int.le_trans Adg Arr
 refine ⟨_,e8,_,e9,_,e10,Br.of (λhc=>by simp at hc) λ_=>Br.of (λhc=>by simp at hc) λ_=>⟨_,e11,Br.of (λhc=>by simp at hc) λ_=>⟨_,e11,Br.of (λhc=>by simp at hc) λ_=>Br.dec (λhc=>absurd hc (Int.not_lt.2 hle)) λ_=>Br.dec (λhc=>absurd hc (Int.not_lt.2 yT)) λ_=>⟨_,e13,?_⟩⟩⟩⟩
 refine ⟨by trivial,by trivial,?_⟩
 refine Bw Y.length (λv=>v.2.1) (λj v=>v.1=(Y.take j).foldl (· + ·) 0/\v.2.2=(Y,())) rfl ⟨rfl,rfl⟩ ?_
 rintro j ⟨a,j',V⟩ K hj DQ ⟨ha,hV⟩ hK
 dsimp only at DQ ha hV
 subst hV DQ ha
 dsimp only
 refine Br.dec (λhl=>?_) λhl=>?_
 ·have hl:j<Y.length:=by omega
  refine ⟨⟨by omega,by omega⟩,Y[j],by rw [Cb,Ar];exact Ac hl,by trivial,by trivial,?_⟩
  have e:(Y.take (j+1)).foldl (· + ·) 0=(Y.take j).foldl (· + ·) 0+Y[j]:=by
   rw [Ge,Ac hl,Vy]
   rfl
  have hb:=dk (Y.take (j+1)) 0 λx hx=>HY x (Ey hx)
  have htl:(Y.take (j+1)).length<=40:=by rw [Dc];omega
  rw [e] at hb
  rw [Cn (by omega) (by omega),Bz (by omega)]
  exact hK hl _ rfl ⟨e.symm,rfl⟩
 ·have:j=Y.length:=by omega
  subst this
  rw [Bc]
  exact beq_self_eq_true _
theorem zW:Sound Tryz.prog 3 MG:=
 Sound.Hj (mC [fS+4,j8]) (Ba UG (Fp MS (Fp UN (Fp MU (Fp UO (Ba MO (Ba GP (Ba UI (Ba uF (Fp wj Bo)))))))))) mixed Tryz.func3 (by kernel_rfl) (by kernel_rfl) λx h=>Aa4 x.1 h
end Go.Proofs.YtkkdpknjohcekaaGreat
