/-
  Part 45 of the proof that the statement FnLowerBounds holds.
-/
import Derived.Test.YtkkdpknjohcekaaGreatCFLowerBounds43
namespace Go.Proofs.YtkkdpknjohcekaaGreat
open Go.RowKit
section
variable {Q:List Int->Prop} {code:List Int->Nat} {B:Nat}
theorem WH (inj: ∀x y,Q x->Q y->code x=code y->x=y) (lt: ∀x,Q x->code x<B) {L:List (List Int)} (hQ: ∀y∈L,Q y) (hn:L.Nodup):L.length<=B:=by
 have h1:(L.map code).Nodup:=by
  unfold List.Nodup
  rw [List.pairwise_map]
  exact List.Pairwise.imp_of_mem (λha hb Jd he=>Jd (inj _ _ (hQ _ ha) (hQ _ hb) he)) hn
 have h2:=eD h1 (l2:=List.range B) λx hx=>by
  obtain ⟨y,hy,rfl⟩:=Be.1 hx
  exact Et.2 (lt y (hQ y hy))
 simpa using h2
theorem lS (hB:B<3000) (inj: ∀x y,Q x->Q y->code x=code y->x=y) (lt: ∀x,Q x->code x<B) {g:List (List Int)} {x:List Int} {d:Int} :
  ∀(ls:List Int) (L:List (List Int)) (D:List Int),(∀l∈ls,Q (Ai x (Au g l)))->(∀y∈L,Q y)->L.Nodup->
   (Ht g x d ls L D).2.2=true/\(∀y∈(Ht g x d ls L D).1,Q y)/\(Ht g x d ls L D).1.Nodup
 | [],L,D,_,hQ,hn=>⟨rfl,hQ,hn⟩
 |l::ls,L,D,hl,hQ,hn=>by
  have Mb: ∀l∈ls,Q (Ai x (Au g l)):= λl h=>hl l (An _ h)
  rw [Ht]
  split
  ·exact lS hB inj lt ls L D Mb hQ hn
  ·rename_i hni
   have:=WH inj lt hQ hn
   rw [Aj (by omega)]
   refine lS hB inj lt ls _ _ Mb (λy hy=>?_) ?_
   ·rcases Az.1 hy with h|h
    ·exact hQ y h
    ·rw [Ad.1 h];exact hl l (by simp)
   ·rw [Du]
    exact ⟨hn,by simp,λa ha b hb e=>hni (by rw [Ad.1 hb] at e;rw [<-e];exact ha)⟩
theorem sw (hB:B<3000) (inj: ∀x y,Q x->Q y->code x=code y->x=y) (lt: ∀x,Q x->code x<B) {g:List (List Int)} {ls:List Int} (step: ∀x,Q x-> ∀l∈ls,Q (Ai x (Au g l))):
  ∀(f k:Nat) (L:List (List Int)) (D:List Int),(∀y∈L,Q y)->L.Nodup->(Jz g ls f k L D).2.2=true
 |0,_,_,_,_,_=>rfl
 |f+1,k,L,D,hQ,hn=>by
  rw [Jz]
  split
  ·rename_i hk
   have hx:Q (L.getD k []):=by
    rw [Ah,Ac hk]
    exact hQ _ (Ak hk)
   obtain ⟨h1,h2,h3⟩:=lS hB inj lt (d:=D.getD k 0) ls L D (step _ hx) hQ hn
   generalize Ht g (L.getD k []) (D.getD k 0) ls L D=r at h1 h2 h3
   obtain ⟨L',D',b⟩:=r
   have h1:b=true:=h1
   subst h1
   exact sw hB inj lt step f (k+1) L' D' h2 h3
  ·rfl
theorem CC (hB:B<3000) (inj: ∀x y,Q x->Q y->code x=code y->x=y) (lt: ∀x,Q x->code x<B) {g:List (List Int)} {s:List Int} (hs:Q s)
  (step: ∀x,Q x-> ∀l∈Bi g.length,Q (Ai x (Au g l))):(Gd g s).2.2=true:=
 sw hB inj lt step _ _ _ _ (λy hy=>by rw [Ad.1 hy];exact hs) (by simp)
end
def x5 (x:List Int):Nat:=(Hu x 0+5*Hu x 1+25*Hu x 2+125*Hu x 3).toNat
theorem DE {x:List Int} {k:Nat} (h:x.length<=k):Hu x (k:Int)=0:=by
 unfold Hu
 rw [Aq,Ah,Eb h]
 rfl
theorem Rg {n:Nat} {x:List Int} (hn:n<=5) (h:Pm n x) (k:Nat):0<=Hu x (k:Int)/\Hu x (k:Int)<5:=by
 by_cases hk:k<n
 ·have:=h.aw hk
  omega
 ·rw [DE (by rw [h.1];omega)]
  decide
theorem LV {n:Nat} {x:List Int} (hn:n<=5) (h:Pm n x):x5 x<625:=by
 have h0:=Rg hn h 0
 have h1:=Rg hn h 1
 have h2:=Rg hn h 2
 have h3:=Rg hn h 3
 simp only [Int.natCast_zero] at h0
 unfold x5
 have e1:((1:Nat):Int)=1:=rfl
 have e2:((2:Nat):Int)=2:=rfl
 have e3:((3:Nat):Int)=3:=rfl
 rw [e1] at h1;rw [e2] at h2;rw [e3] at h3
 omega
theorem FY {n:Nat} (hn:n<=5) (x y:List Int) (hx:Pm n x) (hy:Pm n y) (e:x5 x=x5 y):x=y:=by
 have e1:((1:Nat):Int)=1:=rfl
 have e2:((2:Nat):Int)=2:=rfl
 have e3:((3:Nat):Int)=3:=rfl
 have a0:=Rg hn hx 0
 have a1:=Rg hn hx 1
 have a2:=Rg hn hx 2
 have a3:=Rg hn hx 3
 have b0:=Rg hn hy 0
 have b1:=Rg hn hy 1
 have b2:=Rg hn hy 2
 have b3:=Rg hn hy 3
 simp only [Int.natCast_zero] at a0 b0
 rw [e1] at a1 b1;rw [e2] at a2 b2;rw [e3] at a3 b3
 unfold x5 at e
 have low: ∀i:Nat,i<4->Hu x (i:Int)=Hu y (i:Int):=by
  intro i hi
  match i,hi with
  |0,_=>simp only [Int.natCast_zero];omega
  |1,_=>rw [e1];omega
  |2,_=>rw [e2];omega
  |3,_=>rw [e3];omega
 have Ami: ∀i,i<4->ap x i=ap y i:= λi hi=>by unfold ap;rw [low i hi]
 refine hx.ext hy λi hi=>?_
 by_cases h4:i<4
 ·exact Ami i h4
 ·obtain ⟨j,hj,hjx⟩:=hy.SM (hx.lt hi)
  by_cases hj4:j<4
  ·rw [<-Ami j hj4] at hjx
   have:=hx.inj hj hi hjx
   omega
  ·have:j=i:=by omega
   rw [this] at hjx
   exact hjx.symm
theorem HY {p:PP} (hv:Bm p=true) (h5:p.1<=5):Fp p=true:=by
 have hV:=valid hv
 have hn:=hV.n
 refine Bt.2 ⟨hv,CC (Q:=Pm p.1.toNat) (code:=x5) (B:=625) (by decide) (FY (by omega)) (λx hx=>LV (by omega) hx) (Pm.id (by omega) (by omega)) λx hx l hl=>?_⟩
 exact hx.comp (eB hV (Ku hl))
def VR (n:Int) (m:Nat) (x:List Int):Prop:=x.length=m/\ ∀y∈x,0<=y/\y<n
theorem fK {n:Int} {m:Nat} {x:List Int} (hn:n<=5) (h:VR n m x) (k:Nat):0<=Hu x (k:Int)/\Hu x (k:Int)<5:=by
 by_cases hk:k<x.length
 ·have:=h.2 _ (Ak hk)
  rw [La hk]
  omega
 ·rw [DE (by omega)]
  decide
def x4 (x:List Int):Nat:=(Hu x 0+5*Hu x 1+25*Hu x 2).toNat
theorem FU {n:Int} {m:Nat} {x:List Int} (hn:n<=5) (h:VR n m x):x4 x<125:=by
 have h0:=fK hn h 0
 have h1:=fK hn h 1
 have h2:=fK hn h 2
 simp only [Int.natCast_zero] at h0
 have e1:((1:Nat):Int)=1:=rfl
 have e2:((2:Nat):Int)=2:=rfl
 rw [e1] at h1;rw [e2] at h2
 unfold x4
 omega
theorem zz {n:Int} {m:Nat} (hn:n<=5) (hm:m<=3) (x y:List Int) (hx:VR n m x) (hy:VR n m y) (e:x4 x=x4 y):x=y:=by
 have e1:((1:Nat):Int)=1:=rfl
 have e2:((2:Nat):Int)=2:=rfl
 have a0:=fK hn hx 0
 have a1:=fK hn hx 1
 have a2:=fK hn hx 2
 have b0:=fK hn hy 0
 have b1:=fK hn hy 1
 have b2:=fK hn hy 2
 simp only [Int.natCast_zero] at a0 b0
 rw [e1] at a1 b1;rw [e2] at a2 b2
 unfold x4 at e
 have low: ∀i:Nat,i<3->Hu x (i:Int)=Hu y (i:Int):=by
  intro i hi
  match i,hi with
  |0,_=>simp only [Int.natCast_zero];omega
  |1,_=>rw [e1];omega
  |2,_=>rw [e2];omega
 refine List.ext_getElem (by rw [hx.1,hy.1]) λi h1 h2=>?_
 have:=low i (by rw [hx.1] at h1;omega)
 rwa [La h1,La h2] at this
theorem TH {p:PP} {t:List Int} (hv:Bm p=true) (h5:p.1<=5) (ht:Ql p.1 t=true) (h3:t.length<=3):Gk p t=true:=by
 have hV:=valid hv
 have hn:=hV.n
 obtain ⟨_,hp⟩:=Ik.1 ht
 refine Bt.2 ⟨Bt.2 ⟨hv,ht⟩,CC (Q:=VR p.1 t.length) (code:=x4) (B:=125) (by decide) (zz (by omega) h3) (λx hx=>FU (by omega) hx) ⟨rfl,λy hy=>?_⟩ λx hx l hl=>?_⟩
 ·obtain ⟨j,hj,rfl⟩:=Bf.1 hy
  have:=hp j hj hj
  omega
 ·obtain ⟨n1,n2⟩:=nV hV hx.2 (Ku hl)
  exact ⟨by rw [n1,hx.1],n2⟩
theorem CG {p:PP} {t:List Int} (h:Gk p t=true):Gl p (Eo p t)=true:=by
 have e:(Eo p t).1=t:=by unfold Eo;rw [Ab h]
 unfold Gl
 rw [e,h,KP]
 rfl
theorem Adt {n a c:Nat} {mv:List Int} (h:Pm n mv) (ha:a<n) (hc:c<n):Pm n ((mv.set a (Hu mv (c:Int))).set c (Hu mv (a:Int))):=by
 have hA:=(h.aw ha).1
 have hC:=(h.aw hc).1
 refine Pm.of (by simp only [Dg];exact h.1) h.n1 h.n2 (λk=>if k=c then ap mv a else if k=a then ap mv c else ap mv k) (λi hi=>?_) λi j hi hj e=>?_
 ·rw [Ej,Ej,Dg,h.1]
  by_cases h1:c=i
  ·rw [Ab h1,Ab hc,Ab (show i=c from h1.symm)]
   exact ⟨by rw [hA],h.lt ha⟩
  ·rw [Aj h1,Aj (show ¬i=c from λe=>h1 e.symm)]
   by_cases h2:a=i
   ·rw [Ab h2,Ab ha,Ab (show i=a from h2.symm)]
    exact ⟨by rw [hC],h.lt hc⟩
   ·rw [Aj h2,Aj (show ¬i=a from λe=>h2 e.symm)]
    have mI:i<mv.length:=by rw [h.1];exact hi
    have:=(h.aw hi).1
    rw [La mI] at this
    rw [Ac mI,this]
    exact ⟨rfl,h.lt hi⟩
 ·by_cases i1:i=c
  ·rw [Ab i1] at e
   by_cases j1:j=c
   ·rw [i1,j1]
   ·rw [Aj j1] at e
    by_cases j2:j=a
    ·rw [Ab j2] at e
     have:=h.inj ha hc e
     rw [i1,j2,this]
    ·rw [Aj j2] at e
     exact absurd (h.inj ha hj e).symm j2
  ·rw [Aj i1] at e
   by_cases i2:i=a
   ·rw [Ab i2] at e
    by_cases j1:j=c
    ·rw [Ab j1] at e
     have:=h.inj hc ha e
     rw [i2,j1,this]
    ·rw [Aj j1] at e
     by_cases j2:j=a
     ·rw [i2,j2]
     ·rw [Aj j2] at e
      exact absurd (h.inj hc hj e).symm j1
   ·rw [Aj i2] at e
    by_cases j1:j=c
    ·rw [Ab j1] at e
     exact absurd (h.inj hi ha e) i2
    ·rw [Aj j1] at e
     by_cases j2:j=a
     ·rw [Ab j2] at e
      exact absurd (h.inj hi hc e) i1
     ·rw [Aj j2] at e
      exact h.inj hi hj e
theorem yb {b:List Int} {n:Int} (hn:1<=n): ∀(k:Nat) (i h:Int) (mv:List Int),Ya b i->Pm n.toNat mv->Pm n.toNat (gg b n k i h mv).2.2
 |0,_,_,_,_,hm=>hm
 |k+1,i,h,mv,hd,hm=>by
  have r1:=bR hd hn h
  have r2:=bR hd.next hn (hN h)
  rw [gg]
  refine yb hn k _ _ _ hd.next.next ?_
  have:=Adt hm (a:=(dR b i h n).toNat) (c:=(dR b (dI b i) (hN h) n).toNat) (by omega) (by omega)
  rw [Sl r1.1,Sl r2.1] at this
  exact this
theorem ET {b:List Int} {n:Int} (hn:1<=n) (hn2:n<=20): ∀(k:Nat) (i h:Int) (ms:List (List Int)),Ya b i->(∀m∈ms,Pm n.toNat m)-> ∀m∈(aP b n k i h ms).2.2,Pm n.toNat m
 |0,_,_,_,_,hm=>hm
 |k+1,i,h,ms,hd,hm=>by
  rw [aP]
  refine ET hn hn2 k _ _ _ (tG hd h) λm hmm=>?_
  rcases Az.1 hmm with h1|h1
  ·exact hm m h1
  ·rw [Ad.1 h1]
   exact yb hn _ _ _ _ hd.next (Pm.id (by omega) (by omega))
theorem YY:br ZA=true:=by
 refine Ik.2 ⟨by decide,λj hj=>?_⟩
 have hj:j<2:=hj
 match j,hj with
 |0,_=>exact ⟨65,rfl,by decide,by decide,λk hk=>by omega⟩
 |1,_=>exact ⟨66,rfl,by decide,by decide,λk hk=>(by have e:k=0:=(by omega);rw [e];decide)⟩
structure Ll (p:PP):Prop where
 valid:Bm p=true
 two:p.2.2.1.length=2
 lo:3<=p.1
 hi:p.1<=5
 short:Dp p
theorem NJ {b:List Int} {i:Int} (hd:Ya b i) (h:Int):Ll (aO b i h).2.2/\Ya b (aO b i h).1:=by
 have hr:=bR hd (show (1:Int)<=3 by decide) h
 obtain ⟨n,hn⟩: ∃n,3+dR b i h 3=n:=⟨_,rfl⟩
 have h2:=QA b n 2 (dI b i) (hN h) []
 have h3:=ET (b:=b) (n:=n) (by omega) (by omega) 2 (dI b i) (hN h) [] hd.next (λm hm=>by cases hm)
 have h4:=PZ n 2 (dI b i) (hN h) [] hd.next
 unfold aO
 rw [hn]
 generalize aP b n 2 (dI b i) (hN h) []=R at h2 h3 h4
 obtain ⟨i',h',ms⟩:=R
 dsimp only at h2 h3 h4⊢
 simp only [Fq,En] at h2
 refine ⟨⟨Ik.2 ⟨Ik.2 ⟨⟨by show 1<=n;omega,by show n<=20;omega⟩,by show ms.length<=8;omega,λm hm=>?_⟩,YY,by show 2=ms.length;omega⟩,h2,by show 3<=n;omega,by show n<=5;omega,⟨by show 2<=4294967296;decide,by show ms.length<=4294967296;omega,λm hm=>?_⟩⟩,h4⟩
 ·have:=h3 m hm
  have h5:=this.1
  exact Ik.2 ⟨by omega,xh this.2⟩
 ·exact jc (h3 m hm)
noncomputable def tw (p:PP) (s w:List Int):List Int×Bool×Unit:=(Oh p.2.2.1 s w,true,())
noncomputable abbrev an:Spec:=Gu (.pair Hk (.pair tL (.pair tL .unit))) (.pair tL (.pair .bool .unit)) true true (λx=>Dp x.1/\Bm x.1=true/\Pm x.1.1.toNat x.2.1/\Nc (List.length x.1.2.2.1:Nat) x.2.2.1=true) (λx=>tw x.1 x.2.1 x.2.2.1)
noncomputable def nS (b:List Int) (i h:Int) (p:PP):Int×Int×List Int:=((Vx b i h 2 8).1,(Vx b i h 2 8).2.1,(tw p (upto p.1.toNat) (Vx b i h 2 8).2.2).1)
noncomputable def wy (b:List Int) (p:PP):Nat->Int->Int->List TT->Int×Int×List TT
 |0,i,h,o=>(i,h,o)
 |k+1,i,h,o=>wy b p k (Nd b i h p.1).1 (Nd b i h p.1).2.1 (o++ [Eo p (Nd b i h p.1).2.2])
noncomputable def Za (b:List Int) (i h:Int) (p:PP):Int×Int×List TT:=wy b p (dR b i h 3).toNat (dI b i) (hN h) []
noncomputable abbrev Ame:MSpec:= {ptr:=some (69,3),Jl:= [some 3],ins:= [(false, .Ft tB),(false, .Ft tI),(false, .Ft IF),(false, .Ft tI),(false, .Ft .str),(false, .Ft mE)],Im:=false,Ip:= [none],outs:= [.Ft tB, .Ft tI, .Ft IF, .Ft tL],fn:= λ_=>none}
noncomputable abbrev xU:MSpec:=lf Ame (λx=>Ya x.1 x.2.1/\Dp (x.2.2.2.1,x.2.2.2.2.1,x.2.2.2.2.2.1,())/\Bm (x.2.2.2.1,x.2.2.2.2.1,x.2.2.2.2.2.1,())=true/\List.length x.2.2.2.2.2.1=2) (λx=>((x.1,(nS x.1 x.2.1 x.2.2.1 (x.2.2.2.1,x.2.2.2.2.1,x.2.2.2.2.2.1,())).1,(nS x.1 x.2.1 x.2.2.1 (x.2.2.2.1,x.2.2.2.2.1,x.2.2.2.2.2.1,())).2.1,(nS x.1 x.2.1 x.2.2.1 (x.2.2.2.1,x.2.2.2.2.1,x.2.2.2.2.2.1,())).2.2,()),()))
noncomputable abbrev Ahq:MSpec:= {ptr:=some (69,3),Jl:= [some 3],ins:= [(false, .Ft tB),(false, .Ft tI),(false, .Ft IF),(false, .Ft tI),(false, .Ft .str),(false, .Ft mE)],Im:=false,Ip:= [none],outs:= [.Ft tB, .Ft tI, .Ft IF, .row cy 47],fn:= λ_=>none}
noncomputable abbrev pG:MSpec:=lf Ahq (λx=>Ya x.1 x.2.1/\Dp (x.2.2.2.1,x.2.2.2.2.1,x.2.2.2.2.2.1,())/\Bm (x.2.2.2.1,x.2.2.2.2.1,x.2.2.2.2.2.1,())=true) (λx=>((x.1,(Za x.1 x.2.1 x.2.2.1 (x.2.2.2.1,x.2.2.2.2.1,x.2.2.2.2.2.1,())).1,(Za x.1 x.2.1 x.2.2.1 (x.2.2.2.1,x.2.2.2.2.1,x.2.2.2.2.2.1,())).2.1,(Za x.1 x.2.1 x.2.2.1 (x.2.2.2.1,x.2.2.2.2.1,x.2.2.2.2.2.1,())).2.2,()),()))
noncomputable abbrev mB:Spec:=Gu (.pair Hk (.pair tL .unit)) mE false true (λx=>Dp x.1/\Bm x.1=true/\Pm x.1.1.toNat x.2.1) (λx=>Xe x.1.2.2.1 x.2.1)
theorem VE (g:List (List Int)) (l:Int) (P:List Int->Prop):(Br (decide (l<(0:Int))) (∃(y3:List Int),idx g (IntKind.i64.wrap (IntKind.i64.wrap ((0:Int)-l)-(1:Int)))=some y3/\ ∃(y4:List Int),Gv.fn (y3,())=some y4/\P y4) (∃(y3:List Int),idx g (IntKind.i64.wrap (l-(1:Int)))=some y3/\P y3))=fnW Fz (look [(163,Gv)]) Jv Tryz.f131 (g,l,()) P:=by kernel_rfl
theorem NV (n:Int) (g:List (List Int)) (w:List Int) (P:List Int->Prop):(∃(y4:List Int),Dj.fn (n,())=some y4/\Dl (λ(v5:List Int×Int×PUnit) (k6:List Int×Int×PUnit->Prop)=>Br (decide (v5.2.1<(↑w.length:Int))) (∃(y7:Int),idx w v5.2.1=some y7/\ ∃(y8:List Int),Jv.fn (g,y7,())=some y8/\ ∃(y9:List Int),Lf.fn (v5.1,y8,())=some y9/\k6 (y9,IntKind.i64.wrap (v5.2.1+(1:Int)),())) (P v5.1)) (y4,(0:Int),PUnit.unit))=fnW Fz (look [(96,Dj),(81,Lf),(131,Jv)]) Zg Tryz.f82 (n,g,w,()) P:=by kernel_rfl
theorem Ab1 (p:Int×ByteArray×List (List Int)×Unit) (s w:List Int) (P:(List Int×Bool×Unit)->Prop):(∃(y4:Bool),Ji.fn ((p.1,p.2.1,p.2.2.1,()),s,())=some y4/\Br (!y4) (P (List.take 0 (List.drop 0 []),false,())) (∃(y5:Bool),eN.fn ((↑p.2.2.1.length:Int),w,())=some y5/\Br (!y5) (P (List.take 0 (List.drop 0 []),false,())) (∃(y6:List Int),Zg.fn (p.1,p.2.2.1,w,())=some y6/\ ∃(y7:List Int),Lf.fn (s,y6,())=some y7/\P (y7,true,()))))=fnW Fz (look [(64,Ji),(80,eN),(81,Lf),(82,Zg)]) an Tryz.f34 (p,s,w,()) P:=by kernel_rfl
abbrev QL:Type:=Int×Int×ByteArray×List (List Int)×List (List Int)×PUnit
theorem Aiv (p:Int×ByteArray×List (List Int)×Unit) (s:List Int) (P:List (List Int)->Prop):(∃(y3:Bool),Ge.fn ((p.1,p.2.1,p.2.2.1,()),())=some y3/\Br (!y3) (P (List.take 0 (List.drop 0 []))) (∃(y4:Bool),Ji.fn ((p.1,p.2.1,p.2.2.1,()),s,())=some y4/\Br (!y4) (P (List.take 0 (List.drop 0 []))) (∃(y5:List Int),Oj.fn ((p.1,p.2.1,p.2.2.1,()),())=some y5/\0=0/\0=([]:List Int).length/\Dl (λ(v6:QL) (k7:QL->Prop)=>Br (decide (v6.1<(↑y5.length:Int))) (∃(y8:Int),idx y5 v6.1=some y8/\ ∃(y9:List Int),Xk.fn ((v6.2.1,v6.2.2.1,v6.2.2.2.1,()),s,y8,())=some y9/\0=0/\v6.2.2.2.2.1.length=v6.2.2.2.2.1.length/\v6.2.2.2.2.1.length+(List.take 1 (List.drop 0 [y9])).length<=Cn/\0=0/\(v6.2.2.2.2.1++List.take 1 (List.drop 0 [y9])).length=(v6.2.2.2.2.1++List.take 1 (List.drop 0 [y9])).length/\k7 (IntKind.i64.wrap (v6.1+(1:Int)),v6.2.1,v6.2.2.1,v6.2.2.2.1,v6.2.2.2.2.1++List.take 1 (List.drop 0 [y9]),())) (P (List.take v6.2.2.2.2.1.length (List.drop 0 v6.2.2.2.2.1)))) ((0:Int),p.1,p.2.1,p.2.2.1,[],PUnit.unit))))=fnW Fz (look [(63,Ge),(64,Ji),(65,Oj),(66,Xk)]) mB Tryz.f22 (p,s,()) P:=by kernel_rfl
abbrev NB:Type:=(List Int×Int×Int×List Int×PUnit)×PUnit
abbrev zl (b:List Int) (i:Int) (h:Int) (n:Int) (str:ByteArray) (g:List (List Int)) (Ki:List Int) (y8:NB) (y9:List Int×Bool×PUnit) (y7:List Int):Prop:= ∃(Jp:NB),qF.fn (b,i,h,(2:Int),(8:Int),())=some Jp/\ ∃(Jf:List Int×Bool×PUnit),an.fn ((n,str,g,()),Ki,List.take Jp.1.2.2.2.1.length (List.drop 0 Jp.1.2.2.2.1),())=some Jf/\(([(0,0),(0,Jp.1.2.2.2.1.length)]= [(0,0),(0,y8.1.2.2.2.1.length)]/\(n,str,g,Jf.1,Jf.2.1,Jf,n,str,g,n,Ki,Jf,Jf.1,Jf.2.1,n,str,g,([]:List Int),Jp.1.2.2.2.1,Jp.1.1,Jp.1.2.1,Jp.1.2.2.1,())=(n,str,g,y9.1,y9.2.1,y9,n,str,g,n,y7,y9,y9.1,y9.2.1,n,str,g,([]:List Int),y8.1.2.2.2.1,y8.1.1,y8.1.2.1,y8.1.2.2.1,PUnit.unit))/\ [(0,0),(0,Jp.1.2.2.2.1.length)]= [(0,0),(0,y8.1.2.2.2.1.length)]/\(n,str,g,Jf.1,Jf.2.1,Jf,n,str,g,n,Ki,Jf,Jf.1,Jf.2.1,n,str,g,([]:List Int),Jp.1.2.2.2.1,Jp.1.1,Jp.1.2.1,Jp.1.2.2.1,())=(n,str,g,y9.1,y9.2.1,y9,n,str,g,n,y7,y9,y9.1,y9.2.1,n,str,g,([]:List Int),y8.1.2.2.2.1,y8.1.1,y8.1.2.1,y8.1.2.2.1,PUnit.unit))/\ [(0,0),(0,Jp.1.2.2.2.1.length)]= [(0,0),(0,y8.1.2.2.2.1.length)]/\(n,str,g,Jf.1,Jf.2.1,Jf,n,str,g,n,Ki,Jf,Jf.1,Jf.2.1,n,str,g,([]:List Int),Jp.1.2.2.2.1,Jp.1.1,Jp.1.2.1,Jp.1.2.2.1,())=(n,str,g,y9.1,y9.2.1,y9,n,str,g,n,y7,y9,y9.1,y9.2.1,n,str,g,([]:List Int),y8.1.2.2.2.1,y8.1.1,y8.1.2.1,y8.1.2.2.1,PUnit.unit)
theorem Ann (b:List Int) (i h n:Int) (str:ByteArray) (g:List (List Int)) (P:((List Int×Int×Int×List Int×Unit)×Unit)->Prop):(∃(y7:List Int),Ux.fn (n,())=some y7/\ ∃(y8:NB),qF.fn (b,i,h,(2:Int),(8:Int),())=some y8/\ ∃(y9:List Int×Bool×PUnit),an.fn ((n,str,g,()),y7,List.take y8.1.2.2.2.1.length (List.drop 0 y8.1.2.2.2.1),())=some y9/\P ((y8.1.1,y8.1.2.1,y8.1.2.2.1,y9.1,()),())/\(∃(Ki:List Int),Ux.fn (n,())=some Ki/\(zl b i h n str g Ki y8 y9 y7))/\(∃(Ki:List Int),Ux.fn (n,())=some Ki/\(zl b i h n str g Ki y8 y9 y7))/\ ∃(Ki:List Int),Ux.fn (n,())=some Ki/\((zl b i h n str g Ki y8 y9 y7))/\(zl b i h n str g Ki y8 y9 y7))=fnMW (uO [Ws+4]) (look [(32,qF),(42,Ux),(34,an)]) xU Tryz.f12 (b,i,h,n,str,g,()) P:=by kernel_rfl
abbrev Kz:Type:=(List Int×List (List Int)×List Int×PUnit)×Bool×PUnit
abbrev Is:Type:=Int×ByteArray×List (List Int)×PUnit
abbrev Nl:Type:=(List Int×Int×Int×List Int×PUnit)×PUnit
abbrev oA:Type:=Int×List (List Int×List (List Int)×List Int×PUnit)×List Int×Int×Int×PUnit
abbrev Kl (v8:oA) (Hx:Nl) (Jf:Nl) (n:Int) (str:ByteArray) (g:List (List Int)) (Ez:Kz) (Gb:Is) (Ie:Is) (Ja:Kz) (Ki:Is) (Jp:Is):Prop:= [(0,v8.2.1.length),(0,Hx.1.2.2.2.1.length)]= [(0,v8.2.1.length),(0,Jf.1.2.2.2.1.length)]/\(some (n,str,g,()),v8.1,Ez.2.1,v8.1,decide (v8.1>(0:Int)),Ez,Gb,Ie,Ez,Ez.1,Ez.2.1,Ez.1.1,Ez.1.2.1,Ez.1.2.2.1,v8.2.1,([]:List Int),([]:List (List Int)),([]:List Int),Hx.1.2.2.2.1,Hx.1.1,Hx.1.2.1,Hx.1.2.2.1,())=(some (n,str,g,()),v8.1,Ja.2.1,v8.1,decide (v8.1>(0:Int)),Ja,Ki,Jp,Ja,Ja.1,Ja.2.1,Ja.1.1,Ja.1.2.1,Ja.1.2.2.1,v8.2.1,([]:List Int),([]:List (List Int)),([]:List Int),Jf.1.2.2.2.1,Jf.1.1,Jf.1.2.1,Jf.1.2.2.1,PUnit.unit)
abbrev Km (v8:oA) (Gb:Nl) (Jf:Nl) (n:Int) (str:ByteArray) (g:List (List Int)) (Ez:Kz) (Ie:Is) (Hx:Is) (Ja:Kz) (Ki:Is) (Jp:Is):Prop:= [(0,v8.2.1.length),(0,Gb.1.2.2.2.1.length)]= [(0,v8.2.1.length),(0,Jf.1.2.2.2.1.length)]/\(some (n,str,g,()),v8.1,Ez.2.1,v8.1,decide (v8.1>(0:Int)),Ez,Ie,Hx,Ez,Ez.1,Ez.2.1,Ez.1.1,Ez.1.2.1,Ez.1.2.2.1,v8.2.1,([]:List Int),([]:List (List Int)),([]:List Int),Gb.1.2.2.2.1,Gb.1.1,Gb.1.2.1,Gb.1.2.2.1,())=(some (n,str,g,()),v8.1,Ja.2.1,v8.1,decide (v8.1>(0:Int)),Ja,Ki,Jp,Ja,Ja.1,Ja.2.1,Ja.1.1,Ja.1.2.1,Ja.1.2.2.1,v8.2.1,([]:List Int),([]:List (List Int)),([]:List Int),Jf.1.2.2.2.1,Jf.1.1,Jf.1.2.1,Jf.1.2.2.1,PUnit.unit)
abbrev Kn (v8:oA) (Gb:Nl) (Jf:Nl) (n:Int) (str:ByteArray) (g:List (List Int)) (Ez:Kz) (Hx:Is) (Ie:Is) (Ja:Kz) (Ki:Is) (Jp:Is):Prop:= [(0,v8.2.1.length),(0,Gb.1.2.2.2.1.length)]= [(0,v8.2.1.length),(0,Jf.1.2.2.2.1.length)]/\(some (n,str,g,()),v8.1,Ez.2.1,v8.1,decide (v8.1>(0:Int)),Ez,Hx,Ie,Ez,Ez.1,Ez.2.1,Ez.1.1,Ez.1.2.1,Ez.1.2.2.1,v8.2.1,([]:List Int),([]:List (List Int)),([]:List Int),Gb.1.2.2.2.1,Gb.1.1,Gb.1.2.1,Gb.1.2.2.1,())=(some (n,str,g,()),v8.1,Ja.2.1,v8.1,decide (v8.1>(0:Int)),Ja,Ki,Jp,Ja,Ja.1,Ja.2.1,Ja.1.1,Ja.1.2.1,Ja.1.2.2.1,v8.2.1,([]:List Int),([]:List (List Int)),([]:List Int),Jf.1.2.2.2.1,Jf.1.1,Jf.1.2.1,Jf.1.2.2.1,PUnit.unit)
theorem Aiz (b:List Int) (i h n:Int) (str:ByteArray) (g:List (List Int)) (P:((List Int×Int×Int×List (List Int×List (List Int)×List Int×Unit)×Unit)×Unit)->Prop):(∃(y7:(List Int×Int×Int×Int×PUnit)×PUnit),Iq.fn (b,i,h,(3:Int),())=some y7/\0=0/\0=([]:List Int).length/\Dl (λ(v8:oA) (k9:oA->Prop)=>Br (decide (v8.1>(0:Int))) (∃(Ki:Is),some (n,str,g,())=some Ki/\ ∃(Jp:Is),some (n,str,g,())=some Jp/\ ∃(Jf:Nl),Sf.fn (v8.2.2.1,v8.2.2.2.1,v8.2.2.2.2.1,Jp.1,Jp.2.1,Jp.2.2.1,())=some Jf/\ ∃(Ja:Kz),Dh.fn (Ki,List.take Jf.1.2.2.2.1.length (List.drop 0 Jf.1.2.2.2.1),())=some Ja/\(0=0/\v8.2.1.length=v8.2.1.length/\v8.2.1.length+(List.take 1 (List.drop 0 [(Ja.1.1,Ja.1.2.1,Ja.1.2.2.1,())])).length<=Cn/\0=0/\(v8.2.1++List.take 1 (List.drop 0 [(Ja.1.1,Ja.1.2.1,Ja.1.2.2.1,())])).length=(v8.2.1++List.take 1 (List.drop 0 [(Ja.1.1,Ja.1.2.1,Ja.1.2.2.1,())])).length/\k9 (IntKind.i64.wrap (v8.1-(1:Int)),v8.2.1++List.take 1 (List.drop 0 [(Ja.1.1,Ja.1.2.1,Ja.1.2.2.1,())]),Jf.1.1,Jf.1.2.1,Jf.1.2.2.1,()))/\(∃(Ie:Is),some (n,str,g,())=some Ie/\(∃(Hx:Is),some (n,str,g,())=some Hx/\(∃(Gb:Nl),Sf.fn (v8.2.2.1,v8.2.2.2.1,v8.2.2.2.2.1,Hx.1,Hx.2.1,Hx.2.2.1,())=some Gb/\(∃(Ez:Kz),Dh.fn (Ie,List.take Gb.1.2.2.2.1.length (List.drop 0 Gb.1.2.2.2.1),())=some Ez/\((((Km v8 Gb Jf n str g Ez Ie Hx Ja Ki Jp))/\((Km v8 Gb Jf n str g Ez Ie Hx Ja Ki Jp))/\(Km v8 Gb Jf n str g Ez Ie Hx Ja Ki Jp))/\(((Km v8 Gb Jf n str g Ez Ie Hx Ja Ki Jp))/\(Km v8 Gb Jf n str g Ez Ie Hx Ja Ki Jp))/\(((Km v8 Gb Jf n str g Ez Ie Hx Ja Ki Jp))/\(Km v8 Gb Jf n str g Ez Ie Hx Ja Ki Jp))/\(Km v8 Gb Jf n str g Ez Ie Hx Ja Ki Jp))/\(((Km v8 Gb Jf n str g Ez Ie Hx Ja Ki Jp))/\(Km v8 Gb Jf n str g Ez Ie Hx Ja Ki Jp))/\(Km v8 Gb Jf n str g Ez Ie Hx Ja Ki Jp))/\ ∃(Ez:Kz),Dh.fn (Ie,List.take Gb.1.2.2.2.1.length (List.drop 0 Gb.1.2.2.2.1),())=some Ez/\(((Km v8 Gb Jf n str g Ez Ie Hx Ja Ki Jp))/\(Km v8 Gb Jf n str g Ez Ie Hx Ja Ki Jp))/\(Km v8 Gb Jf n str g Ez Ie Hx Ja Ki Jp))/\ ∃(Gb:Nl),Sf.fn (v8.2.2.1,v8.2.2.2.1,v8.2.2.2.2.1,Hx.1,Hx.2.1,Hx.2.2.1,())=some Gb/\ ∃(Ez:Kz),Dh.fn (Ie,List.take Gb.1.2.2.2.1.length (List.drop 0 Gb.1.2.2.2.1),())=some Ez/\(((Km v8 Gb Jf n str g Ez Ie Hx Ja Ki Jp))/\(Km v8 Gb Jf n str g Ez Ie Hx Ja Ki Jp))/\(Km v8 Gb Jf n str g Ez Ie Hx Ja Ki Jp))/\ ∃(Hx:Is),some (n,str,g,())=some Hx/\ ∃(Gb:Nl),Sf.fn (v8.2.2.1,v8.2.2.2.1,v8.2.2.2.2.1,Hx.1,Hx.2.1,Hx.2.2.1,())=some Gb/\ ∃(Ez:Kz),Dh.fn (Ie,List.take Gb.1.2.2.2.1.length (List.drop 0 Gb.1.2.2.2.1),())=some Ez/\(((Km v8 Gb Jf n str g Ez Ie Hx Ja Ki Jp))/\(Km v8 Gb Jf n str g Ez Ie Hx Ja Ki Jp))/\(Km v8 Gb Jf n str g Ez Ie Hx Ja Ki Jp))/\(∃(Ie:Is),some (n,str,g,())=some Ie/\(∃(Hx:Is),some (n,str,g,())=some Hx/\(∃(Gb:Nl),Sf.fn (v8.2.2.1,v8.2.2.2.1,v8.2.2.2.2.1,Ie.1,Ie.2.1,Ie.2.2.1,())=some Gb/\(∃(Ez:Kz),Dh.fn (Hx,List.take Gb.1.2.2.2.1.length (List.drop 0 Gb.1.2.2.2.1),())=some Ez/\((((Kn v8 Gb Jf n str g Ez Hx Ie Ja Ki Jp))/\((Kn v8 Gb Jf n str g Ez Hx Ie Ja Ki Jp))/\(Kn v8 Gb Jf n str g Ez Hx Ie Ja Ki Jp))/\(((Kn v8 Gb Jf n str g Ez Hx Ie Ja Ki Jp))/\(Kn v8 Gb Jf n str g Ez Hx Ie Ja Ki Jp))/\(((Kn v8 Gb Jf n str g Ez Hx Ie Ja Ki Jp))/\(Kn v8 Gb Jf n str g Ez Hx Ie Ja Ki Jp))/\(Kn v8 Gb Jf n str g Ez Hx Ie Ja Ki Jp))/\(((Kn v8 Gb Jf n str g Ez Hx Ie Ja Ki Jp))/\(Kn v8 Gb Jf n str g Ez Hx Ie Ja Ki Jp))/\(Kn v8 Gb Jf n str g Ez Hx Ie Ja Ki Jp))/\ ∃(Ez:Kz),Dh.fn (Hx,List.take Gb.1.2.2.2.1.length (List.drop 0 Gb.1.2.2.2.1),())=some Ez/\(((Kn v8 Gb Jf n str g Ez Hx Ie Ja Ki Jp))/\(Kn v8 Gb Jf n str g Ez Hx Ie Ja Ki Jp))/\(Kn v8 Gb Jf n str g Ez Hx Ie Ja Ki Jp))/\ ∃(Gb:Nl),Sf.fn (v8.2.2.1,v8.2.2.2.1,v8.2.2.2.2.1,Ie.1,Ie.2.1,Ie.2.2.1,())=some Gb/\ ∃(Ez:Kz),Dh.fn (Hx,List.take Gb.1.2.2.2.1.length (List.drop 0 Gb.1.2.2.2.1),())=some Ez/\(((Kn v8 Gb Jf n str g Ez Hx Ie Ja Ki Jp))/\(Kn v8 Gb Jf n str g Ez Hx Ie Ja Ki Jp))/\(Kn v8 Gb Jf n str g Ez Hx Ie Ja Ki Jp))/\(∃(Hx:Nl),Sf.fn (v8.2.2.1,v8.2.2.2.1,v8.2.2.2.2.1,Ie.1,Ie.2.1,Ie.2.2.1,())=some Hx/\(∃(Gb:Is),some (n,str,g,())=some Gb/\(∃(Ez:Kz),Dh.fn (Gb,List.take Hx.1.2.2.2.1.length (List.drop 0 Hx.1.2.2.2.1),())=some Ez/\((((Kl v8 Hx Jf n str g Ez Gb Ie Ja Ki Jp))/\((Kl v8 Hx Jf n str g Ez Gb Ie Ja Ki Jp))/\(Kl v8 Hx Jf n str g Ez Gb Ie Ja Ki Jp))/\(((Kl v8 Hx Jf n str g Ez Gb Ie Ja Ki Jp))/\(Kl v8 Hx Jf n str g Ez Gb Ie Ja Ki Jp))/\(((Kl v8 Hx Jf n str g Ez Gb Ie Ja Ki Jp))/\(Kl v8 Hx Jf n str g Ez Gb Ie Ja Ki Jp))/\(Kl v8 Hx Jf n str g Ez Gb Ie Ja Ki Jp))/\(((Kl v8 Hx Jf n str g Ez Gb Ie Ja Ki Jp))/\(Kl v8 Hx Jf n str g Ez Gb Ie Ja Ki Jp))/\(Kl v8 Hx Jf n str g Ez Gb Ie Ja Ki Jp))/\ ∃(Ez:Kz),Dh.fn (Gb,List.take Hx.1.2.2.2.1.length (List.drop 0 Hx.1.2.2.2.1),())=some Ez/\(((Kl v8 Hx Jf n str g Ez Gb Ie Ja Ki Jp))/\(Kl v8 Hx Jf n str g Ez Gb Ie Ja Ki Jp))/\(Kl v8 Hx Jf n str g Ez Gb Ie Ja Ki Jp))/\ ∃(Gb:Is),some (n,str,g,())=some Gb/\ ∃(Ez:Kz),Dh.fn (Gb,List.take Hx.1.2.2.2.1.length (List.drop 0 Hx.1.2.2.2.1),())=some Ez/\(((Kl v8 Hx Jf n str g Ez Gb Ie Ja Ki Jp))/\(Kl v8 Hx Jf n str g Ez Gb Ie Ja Ki Jp))/\(Kl v8 Hx Jf n str g Ez Gb Ie Ja Ki Jp))/\(∃(Hx:Is),some (n,str,g,())=some Hx/\ ∃(Gb:Nl),Sf.fn (v8.2.2.1,v8.2.2.2.1,v8.2.2.2.2.1,Ie.1,Ie.2.1,Ie.2.2.1,())=some Gb/\ ∃(Ez:Kz),Dh.fn (Hx,List.take Gb.1.2.2.2.1.length (List.drop 0 Gb.1.2.2.2.1),())=some Ez/\(((Kn v8 Gb Jf n str g Ez Hx Ie Ja Ki Jp))/\(Kn v8 Gb Jf n str g Ez Hx Ie Ja Ki Jp))/\(Kn v8 Gb Jf n str g Ez Hx Ie Ja Ki Jp))/\ ∃(Hx:Nl),Sf.fn (v8.2.2.1,v8.2.2.2.1,v8.2.2.2.2.1,Ie.1,Ie.2.1,Ie.2.2.1,())=some Hx/\ ∃(Gb:Is),some (n,str,g,())=some Gb/\ ∃(Ez:Kz),Dh.fn (Gb,List.take Hx.1.2.2.2.1.length (List.drop 0 Hx.1.2.2.2.1),())=some Ez/\(((Kl v8 Hx Jf n str g Ez Gb Ie Ja Ki Jp))/\(Kl v8 Hx Jf n str g Ez Gb Ie Ja Ki Jp))/\(Kl v8 Hx Jf n str g Ez Gb Ie Ja Ki Jp))/\(∃(Ie:Is),some (n,str,g,())=some Ie/\ ∃(Hx:Is),some (n,str,g,())=some Hx/\ ∃(Gb:Nl),Sf.fn (v8.2.2.1,v8.2.2.2.1,v8.2.2.2.2.1,Hx.1,Hx.2.1,Hx.2.2.1,())=some Gb/\ ∃(Ez:Kz),Dh.fn (Ie,List.take Gb.1.2.2.2.1.length (List.drop 0 Gb.1.2.2.2.1),())=some Ez/\(((Km v8 Gb Jf n str g Ez Ie Hx Ja Ki Jp))/\(Km v8 Gb Jf n str g Ez Ie Hx Ja Ki Jp))/\(Km v8 Gb Jf n str g Ez Ie Hx Ja Ki Jp))/\ ∃(Ie:Is),some (n,str,g,())=some Ie/\(∃(Hx:Is),some (n,str,g,())=some Hx/\ ∃(Gb:Nl),Sf.fn (v8.2.2.1,v8.2.2.2.1,v8.2.2.2.2.1,Ie.1,Ie.2.1,Ie.2.2.1,())=some Gb/\ ∃(Ez:Kz),Dh.fn (Hx,List.take Gb.1.2.2.2.1.length (List.drop 0 Gb.1.2.2.2.1),())=some Ez/\(((Kn v8 Gb Jf n str g Ez Hx Ie Ja Ki Jp))/\(Kn v8 Gb Jf n str g Ez Hx Ie Ja Ki Jp))/\(Kn v8 Gb Jf n str g Ez Hx Ie Ja Ki Jp))/\ ∃(Hx:Nl),Sf.fn (v8.2.2.1,v8.2.2.2.1,v8.2.2.2.2.1,Ie.1,Ie.2.1,Ie.2.2.1,())=some Hx/\ ∃(Gb:Is),some (n,str,g,())=some Gb/\ ∃(Ez:Kz),Dh.fn (Gb,List.take Hx.1.2.2.2.1.length (List.drop 0 Hx.1.2.2.2.1),())=some Ez/\(((Kl v8 Hx Jf n str g Ez Gb Ie Ja Ki Jp))/\(Kl v8 Hx Jf n str g Ez Gb Ie Ja Ki Jp))/\(Kl v8 Hx Jf n str g Ez Gb Ie Ja Ki Jp)) (P ((v8.2.2.1,v8.2.2.2.1,v8.2.2.2.2.1,List.take v8.2.1.length (List.drop 0 v8.2.1),()),()))) (y7.1.2.2.2.1,[],y7.1.1,y7.1.2.1,y7.1.2.2.1,PUnit.unit))=fnMW (uO [Ws+3,Qa,Om+9,Om+27]) (look [(23,Iq),(25,Sf),(24,Dh)]) pG Tryz.f11 (b,i,h,n,str,g,()) P:=by kernel_rfl
theorem TG (g:List (List Int)) (l:Int) (h:Il (List.length g) l/\List.length g<=8/\ ∀p∈g,Jj p=true):fnW Fz (look [(163,Gv)]) Jv Tryz.f131 (g,l,()) (λ(z:List Int)=>z=Au g l):=by
 obtain ⟨hl,h8,hp⟩:=h
 refine Eq.mp (VE g l _) ?_
 obtain ⟨k,hk,rfl|rfl⟩:=Qt hl
 ·refine Br.dec (λhn=>by omega) λ_=>?_
  rw [Cy (by omega) (by omega),show (k:Int)+1-1=(k:Int) by omega]
  exact ⟨_,Cd hk,(Ox hk).symm⟩
 ·refine Br.dec (λ_=>?_) λhn=>by omega
  rw [Cy (n:=0- -((k:Int)+1)) (by omega) (by omega),Cy (by omega) (by omega),show (0:Int)- -((k:Int)+1)-1=(k:Int) by omega]
  have:=dE (hp _ (Ak hk))
  exact ⟨_,Cd hk,_,Ab ⟨this.len,this.row⟩,(Ow hk).symm⟩
theorem wo:Sound Tryz.prog 131 Jv:=
 Sound.Gu Dq (Aw lr Bn) mixed Tryz.func131 (by kernel_rfl) (by kernel_rfl) λx h=>TG x.1 x.2.1 h
theorem LP (n:Int) (g:List (List Int)) (w:List Int) (h: ∃p:PP,Bm p=true/\p.1=n/\p.2.2.1=g/\Nc (List.length g:Nat) w=true):fnW Fz (look [(96,Dj),(81,Lf),(131,Jv)]) Zg Tryz.f82 (n,g,w,()) (λ(z:List Int)=>z=Oh g (upto n.toNat) w):=by
 obtain ⟨p,hv,rfl,rfl,hw⟩:=h
 have hV:=valid hv
 have hn:=hV.n
 have hf:=hV.kB
 obtain ⟨w1,w2⟩:=dN hw
 refine Eq.mp (NV p.1 p.2.2.1 w _) ⟨upto p.1.toNat,Ab ⟨by show 0<=p.1;omega,by show p.1<=20;omega⟩,?_⟩
 refine Bw w.length (λv=>v.2.1) (λj v=>v.1=Oh p.2.2.1 (upto p.1.toNat) (w.take j)) rfl rfl ?_
 rintro j ⟨q,i,⟨⟩⟩ K hj hi hR hK
 dsimp only at hi hR⊢
 subst hi hR
 have hq:=sr hV (w.take j) _ (λl hl=>w2 l (Ij hl)) (Pm.id (n:=p.1.toNat) (by omega) (by omega))
 refine Br.dec (λhl=>?_) λhl=>?_
 ·have hl:j<w.length:=by omega
  have r8:=w2 _ (Ak hl)
  have r9:=eB hV r8
  refine ⟨_,Cd hl,_,Ab ⟨r8,hf.2,hV.perm⟩,_,Ab ⟨zB hq,FZ hq r9⟩,?_⟩
  rw [Bv (by omega)]
  exact hK hl _ rfl (IL hl).symm
 ·have:j=w.length:=by omega
  subst this
  rw [Ax]
theorem uE:Sound Tryz.prog 82 Zg:=
 Sound.Gu Dq (Aw cq (Aw dg (Aw wo Bn))) mixed Tryz.func82 (by kernel_rfl) (by kernel_rfl) λx h=>LP x.1 x.2.1 x.2.2.1 h
theorem ZH (p:PP) (s w:List Int) (h:Dp p/\Bm p=true/\Pm p.1.toNat s/\Nc (List.length p.2.2.1:Nat) w=true):fnW Fz (look [(64,Ji),(80,eN),(81,Lf),(82,Zg)]) an Tryz.f34 (p,s,w,()) (λ(z:List Int×Bool×Unit)=>z=tw p s w):=by
 obtain ⟨hp,hv,hs,hw⟩:=h
 have hV:=valid hv
 have hn:=hV.n
 have hf:=hV.kB
 obtain ⟨w1,w2⟩:=dN hw
 have XE:=Pm.id (n:=p.1.toNat) (by omega) (by omega)
 have hq:=sr hV w _ w2 XE
 refine Eq.mp (Ab1 p s w _) ⟨true,(Ab ⟨hp,jc hs⟩).trans (Dk some (Bt.2 ⟨hv,zA hV hs⟩)),λhc=>(by cases hc),λ_=>⟨true,(Ab ⟨by show w.length<=4294967296;omega,by show (0:Int)<=((p.2.2.1.length:Nat):Int);omega,by show ((p.2.2.1.length:Nat):Int)<=4294967296;omega⟩).trans (Dk some hw),λhc=>(by cases hc),λ_=>⟨_,Ab ⟨p,hv,rfl,rfl,hw⟩,_,Ab ⟨zB hs,FZ hs hq⟩,?_⟩⟩⟩
 show (Ai s (Oh p.2.2.1 (upto p.1.toNat) w),true,())=tw p s w
 rw [pV hV hs w _ w2 XE,comp_id hs]
 rfl
theorem zU:Sound Tryz.prog 34 an:=
 Sound.Gu Dq (Aw Xp (Aw ux (Aw dg (Aw uE Bn)))) mixed Tryz.func34 (by kernel_rfl) (by kernel_rfl) λx h=>ZH x.1 x.2.1 x.2.2.1 h
theorem Ai7 (p:PP) (s:List Int) (h:Dp p/\Bm p=true/\Pm p.1.toNat s):fnW Fz (look [(63,Ge),(64,Ji),(65,Oj),(66,Xk)]) mB Tryz.f22 (p,s,()) (λ(z:List (List Int))=>z=Xe p.2.2.1 s):=by
 obtain ⟨hp,hv,hs⟩:=h
 have hV:=valid hv
 have hf:=hV.kB
 refine Eq.mp (Aiv p s _) ⟨true,(Ab hp).trans (Dk some hv),λhc=>(by cases hc),λ_=>⟨true,(Ab ⟨hp,jc hs⟩).trans (Dk some (Bt.2 ⟨hv,zA hV hs⟩)),λhc=>(by cases hc),λ_=>⟨Bi p.2.2.1.length,Ab hf.2,rfl,rfl,?_⟩⟩⟩
 have hL:=Mq p.2.2.1.length
 refine Bw (Bi p.2.2.1.length).length (λv=>v.1) (λj v=>v=((j:Int),p.1,p.2.1,p.2.2.1,((Bi p.2.2.1.length).take j).map (λl=>Ai s (Au p.2.2.1 l)),())) rfl (by simp) ?_
 rintro j v K hj hi rfl hK
 dsimp only
 refine Br.dec (λhl=>?_) λhl=>?_
 ·have hl:j<(Bi p.2.2.1.length).length:=by omega
  have hlj:=Ku (Ak hl)
  refine ⟨_,Cd hl,_,Ab ⟨hv,zB hs,ZS hV hs,hlj⟩,rfl,rfl,?_,rfl,rfl,?_⟩
  ·show (((Bi p.2.2.1.length).take j).map _).length+1<=4294967296
   rw [Dd,De]
   omega
  ·rw [Bv (by omega)]
   refine hK hl _ rfl ?_
   have e:(Bi p.2.2.1.length).take (j+1)=(Bi p.2.2.1.length).take j++ [(Bi p.2.2.1.length)[j]]:=by
    rw [Gi,Ac hl,Mn]
   rw [e,Iy]
   rfl
 ·have:j=(Bi p.2.2.1.length).length:=by omega
  subst this
  rw [Ds,Ax,Ax]
  rfl
theorem MT:Sound Tryz.prog 22 mB:=
 Sound.Gu Dq (Aw Tu (Aw Xp (Aw gM (Aw o9 Bn)))) mixed Tryz.func22 (by kernel_rfl) (by kernel_rfl) λx h=>Ai7 x.1 x.2.1 h
theorem Aio {b:List Int} {i m:Int} (hd:Ya b i) (h:Int) (hm:1<=m/\m<=8):QB (lU m) (ag b i h m).2.2=true:=by
 have hr:=bR hd hm.1 h
 have hc:lU m=m:=Aj (by omega)
 rw [hc]
 refine Ec ?_
 unfold ag
 dsimp only
 split<;>omega
theorem Aaz {b:List Int} {m:Int} (hm:1<=m/\m<=8): ∀(k:Nat) (i h:Int) (w:List Int),Ya b i->(∀y∈w,QB (lU m) y=true)->
  Ya b (wGo b m k i h w).1/\(wGo b m k i h w).2.2.length=k+w.length/\ ∀y∈(wGo b m k i h w).2.2,QB (lU m) y=true
 |0,i,h,w,hd,hw=>⟨hd,by rw [wGo];exact (Bu _).symm,hw⟩
 |k+1,i,h,w,hd,hw=>by
  obtain ⟨h1,h2,h3⟩:=Aaz hm k (ag b i h m).1 (ag b i h m).2.1 (w++ [(ag b i h m).2.2]) (QO hd h m) (λy hy=>by
   rcases Az.1 hy with h4|h4
   ·exact hw y h4
   ·rw [Ad.1 h4];exact Aio hd h hm)
  rw [Av,Cc] at h2
  rw [wGo]
  exact ⟨h1,by omega,h3⟩
theorem Aax {b:List Int} {i m k:Int} (hd:Ya b i) (h:Int) (hm:1<=m/\m<=8) (hk:0<=k/\k<=20):Nc m (Vx b i h m k).2.2=true/\Ya b (Vx b i h m k).1:=by
 have hr:=bR hd (show 1<=k+1 by omega) h
 obtain ⟨h1,h2,h3⟩:=Aaz hm (dR b i h (k+1)).toNat (dI b i) (hN h) [] hd.next (λy hy=>by cases hy)
 refine ⟨Bt.2 ⟨Ec ?_,?_⟩,h1⟩
 ·show (wGo b m (dR b i h (k+1)).toNat (dI b i) (hN h) []).2.2.length<=200
  rw [h2,Fq]
  omega
 ·rw [Es]
  refine List.any_eq_false.2 λy hy=>?_
  rw [h3 y hy]
  decide
theorem Amy (b:List Int) (i h n:Int) (str:ByteArray) (g:List (List Int)) (hd:Ya b i/\Dp (n,str,g,())/\Bm (n,str,g,())=true/\g.length=2):fnMW (uO [Ws+4]) (look [(32,qF),(42,Ux),(34,an)]) xU Tryz.f12 (b,i,h,n,str,g,()) (λ(z:(List Int×Int×Int×List Int×Unit)×Unit)=>z=((b,(nS b i h (n,str,g,())).1,(nS b i h (n,str,g,())).2.1,(nS b i h (n,str,g,())).2.2,()),())):=by
 obtain ⟨hd,hp,hv,h2⟩:=hd
 have hV:=valid hv
 have hn:1<=n/\n<=20:=hV.n
 obtain ⟨hw,IB⟩:=Aax hd h (m:=2) (k:=8) (by decide) (by decide)
 have hS:Ux.fn (n,())=some (upto n.toNat):=Ab hn
 have XE:Pm n.toNat (upto n.toNat):=Pm.id (by omega) (by omega)
 have hW:qF.fn (b,i,h,2,8,())=some ((b,(Vx b i h 2 8).1,(Vx b i h 2 8).2.1,(Vx b i h 2 8).2.2,()),()):=Ab ⟨hd,by show (1:Int)<=2/\(2:Int)<=8;decide,by show (0:Int)<=8;decide,by show (8:Int)<=20;decide⟩
 have hA:an.fn ((n,str,g,()),upto n.toNat,List.take (Vx b i h 2 8).2.2.length (List.drop 0 (Vx b i h 2 8).2.2),())=some (tw (n,str,g,()) (upto n.toNat) (Vx b i h 2 8).2.2):=by
  rw [Ch]
  exact Ab ⟨hp,hv,XE,by show Nc (g.length:Nat) _=true;rw [h2];exact hw⟩
 refine Eq.mp (Ann b i h n str g _) ⟨_,hS,_,hW,_,hA,?_⟩
 repeat' (first|exact ⟨rfl,rfl⟩|exact rfl|refine ⟨_,hS,?_⟩|refine ⟨_,hW,?_⟩|refine ⟨_,hA,?_⟩|refine ⟨?_,?_⟩)
theorem UD:Dc Tryz.prog 12 xU:=
 Dc.lf (uP [Ws+4]) (Fv UE (Aw AA (Aw zU Bn))) mixed Tryz.func12 (by kernel_rfl) (by kernel_rfl) λx h=>Amy x.1 x.2.1 x.2.2.1 x.2.2.2.1 x.2.2.2.2.1 x.2.2.2.2.2.1 h
structure QP (n:Int) (o:List Int):Prop where
 asc:o.Pairwise (· < ·)
 row: ∀y∈o,0<=y/\y<n
theorem QP.more {j:Int} {o:List Int} (h:QP j o):QP (j+1) o:=⟨h.asc,λy hy=>by have:=h.row y hy;omega⟩
theorem QP.add {j:Int} {o:List Int} (h:QP j o) (h0:0<=j):QP (j+1) (o++ [j]):=by
 refine ⟨List.pairwise_append.2 ⟨h.asc,by simp,λa ha b hb=>?_⟩,λy hy=>?_⟩
 ·rw [Ad.1 hb];exact (h.row a ha).2
 ·rcases Az.1 hy with h1|h1
  ·have:=h.row y h1;omega
  ·rw [Ad.1 h1];omega
theorem QP.le {j n:Int} {o:List Int} (h:QP j o) (hj:j<=n):QP n o:=⟨h.asc,λy hy=>by have:=h.row y hy;omega⟩
theorem Aaj {b:List Int} {n:Int} : ∀(f:Nat) (j i h:Int) (o:List Int),Ya b i->0<=j->j<=n->o.length<=3->QP j o->
  Ya b (VN b n f j i h o).1/\(VN b n f j i h o).2.2.length<=3/\QP n (VN b n f j i h o).2.2
 |0,j,i,h,o,hd,_,hj,ho,ha=>⟨hd,ho,ha.le hj⟩
 |f+1,j,i,h,o,hd,h0,hj,ho,ha=>by
  rw [VN]
  split
  ·rename_i hc
   refine Aaj f (j+1) _ _ _ hd.next (by omega) (by omega) ?_ ?_
   ·split
    ·rw [Av,Cc];omega
    ·exact ho
   ·split
    ·exact ha.add h0
    ·exact ha.more
  ·exact ⟨hd,ho,ha.le hj⟩
theorem Aaw {b:List Int} {i n:Int} (hd:Ya b i) (h:Int) (hn:1<=n):Ya b (Nd b i h n).1/\(Nd b i h n).2.2.length<=3/\Ql n (Nd b i h n).2.2=true:=by
 have Ah5:QP 0 ([]:List Int):=⟨List.Pairwise.nil,λy hy=>by cases hy⟩
 obtain ⟨h1,h2,h3⟩:=Aaj (b:=b) (n:=n) n.toNat 0 i h [] hd (by omega) (by omega) (by simp) Ah5
 unfold Nd
 generalize VN b n n.toNat 0 i h []=r at h1 h2 h3
 have fin: ∀o:List Int,QP n o->0<o.length->Ql n o=true:= λo ho hl=>Ik.2 ⟨hl,λj hj _=>by
  have:=ho.row _ (Ak hj)
  exact ⟨this.1,by omega,λh0=>El.1 ho.asc (j-1) j (by omega) hj (by omega)⟩⟩
 unfold WK
 split
 ·rename_i hz
  have hr:=bR h1 hn r.2.1
  have Al8:r.2.2= []:=List.length_eq_zero_iff.1 hz
  dsimp only
  rw [Al8]
  refine ⟨h1.next,by show 1<=3;decide,fin _ ⟨by simp,λy hy=>?_⟩ (by simp)⟩
  rw [Ad.1 hy]
  exact hr
 ·rename_i hz
  exact ⟨h1,h2,fin _ h3 (by omega)⟩
theorem Aib (b:List Int) (i h n:Int) (str:ByteArray) (g:List (List Int)) (hd:Ya b i/\Dp (n,str,g,())/\Bm (n,str,g,())=true):fnMW (uO [Ws+3,Qa,Om+9,Om+27]) (look [(23,Iq),(25,Sf),(24,Dh)]) pG Tryz.f11 (b,i,h,n,str,g,()) (λ(z:(List Int×Int×Int×List (List Int×List (List Int)×List Int×Unit)×Unit)×Unit)=>z=((b,(Za b i h (n,str,g,())).1,(Za b i h (n,str,g,())).2.1,(Za b i h (n,str,g,())).2.2,()),())):=by
 obtain ⟨hd,hp,hv⟩:=hd
 have hV:=valid hv
 have hn:1<=n/\n<=20:=hV.n
 have hr:=bR hd (show (1:Int)<=3 by decide) h
 obtain ⟨R,hR⟩: ∃R,Za b i h (n,str,g,())=R:=⟨_,rfl⟩
 rw [hR]
 unfold Za at hR
 refine Eq.mp (Aiz b i h n str g _) ⟨_,Ab ⟨hd,by show (1:Int)<=3;decide⟩,rfl,rfl,?_⟩
 refine Dl.mk (λy=> ∃(f:Nat) (i h:Int) (o:List TT),y=((f:Int),o,b,i,h,())/\Ya b i/\f+o.length<=2/\wy b (n,str,g,()) f i h o=R) (λy=>y.1.toNat)
  ⟨(dR b i h 3).toNat,dI b i,hN h,[],by rw [Sl hr.1],hd.next,by simp only [Fq];omega,hR⟩ ?_
 rintro y ⟨f,i,h,o,rfl,hd,hl,hv⟩
 dsimp only
 refine Br.dec (λhf=>?_) λhf=>?_
 ·obtain ⟨f,rfl⟩: ∃f',f=f'+1:=⟨f-1,by omega⟩
  obtain ⟨t1,t2,t3⟩:=Aaw hd h hn.1
  have hT:Sf.fn (b,i,h,n,str,g,())=some ((b,(Nd b i h n).1,(Nd b i h n).2.1,(Nd b i h n).2.2,()),()):=Ab ⟨hd,hn⟩
  have hB:Dh.fn ((n,str,g,()),List.take (Nd b i h n).2.2.length (List.drop 0 (Nd b i h n).2.2),())=some (Eo (n,str,g,()) (Nd b i h n).2.2,Gk (n,str,g,()) (Nd b i h n).2.2,()):=by
   rw [Ch]
   exact Ab ⟨hp,by show (Nd b i h n).2.2.length<=4294967296;omega⟩
  rw [wy] at hv
  refine ⟨_,rfl,_,rfl,_,hT,_,hB,⟨rfl,rfl,by show o.length+1<=4294967296;omega,rfl,rfl,?_⟩,?_⟩
  ·rw [Cy (by omega) (by omega)]
   exact ⟨⟨f,_,_,_,by rw [show ((f+1:Nat):Int)-1=(f:Int) by omega];rfl,t1,by rw [Av];show f+(o.length+1)<=2;omega,hv⟩,by show ((((f+1:Nat):Int)-1).toNat)<(((f+1:Nat):Int)).toNat;omega⟩
  ·repeat' (first|exact ⟨rfl,rfl⟩|exact rfl|refine ⟨_,hT,?_⟩|refine ⟨_,hB,?_⟩|refine ⟨_,rfl,?_⟩|refine ⟨?_,?_⟩)
 ·obtain rfl:f=0:=by omega
  rw [wy] at hv
  rw [<-hv]
  simp only [Ch]
theorem MW:Dc Tryz.prog 11 pG:=
 Dc.lf (uP [Ws+3,Qa,Om+9,Om+27]) (Fv Wg (Fv xZ (Aw gO Bn))) mixed Tryz.func11 (by kernel_rfl) (by kernel_rfl) λx h=>Aib x.1 x.2.1 x.2.2.1 x.2.2.2.1 x.2.2.2.2.1 x.2.2.2.2.2.1 h
theorem SE {n:Nat} {l:Int} (h:Il n l):l∈Bi n:=by
 obtain ⟨h0,h1,h2⟩:=h
 by_cases hp:0<l
 ·have:=(Qk (n:=n) (k:=(l-1).toNat) (by omega)).1
  rwa [show ((l-1).toNat:Int)+1=l by omega] at this
 ·have:=(Qk (n:=n) (k:=(-l-1).toNat) (by omega)).2
  rwa [show-(((-l-1).toNat:Int)+1)=l by omega] at this
theorem BV {p:PP} (hw:Fp p=true): ∀(w s:List Int),(∀l∈w,Il (List.length p.2.2.1) l)->s∈Ba p->Oh p.2.2.1 s w∈Ba p
 | [],s,_,hs=>hs
 |l::w,s,hl,hs=>BV hw w _ (λl' h=>hl l' (An _ h)) ((Zn hw).next s hs l (SE (hl l (by simp))))
theorem Ll.whole {p:PP} (hp:Ll p):Fp p=true:=HY hp.valid hp.hi
theorem Aip {p:PP} (hp:Ll p) {b:List Int} {i:Int} (hd:Ya b i) (h:Int):Ya b (nS b i h p).1/\(nS b i h p).2.2∈Ba p:=by
 obtain ⟨hw,IB⟩:=Aax hd h (m:=2) (k:=8) (by decide) (by decide)
 have hw:Nc ((2:Nat):Int) (Vx b i h 2 8).2.2=true:=hw
 have h2:=(dN hw).2
 rw [<-hp.two] at h2
 exact ⟨IB,BV hp.whole _ _ h2 (Qg hp.valid).2⟩
theorem yf {p:PP} (hp:Ll p) {b:List Int} {i:Int} (hd:Ya b i) (h:Int):Ya b (Nd b i h p.1).1/\short (Nd b i h p.1).2.2/\Gk p (Nd b i h p.1).2.2=true/\Gl p (Eo p (Nd b i h p.1).2.2)=true:=by
 have PB:=hp.lo
 obtain ⟨h1,h2,h3⟩:=Aaw hd h (n:=p.1) (by omega)
 have h4:=TH hp.valid hp.hi h3 h2
 exact ⟨h1,by unfold short;omega,h4,CG h4⟩
theorem QN {p:PP} (hp:Ll p) {b:List Int} : ∀(k:Nat) (i h:Int) (o:List TT),Ya b i->(∀t∈o,Gl p t=true/\aG t)->
  Ya b (wy b p k i h o).1/\(wy b p k i h o).2.2.length=k+o.length/\ ∀t∈(wy b p k i h o).2.2,Gl p t=true/\aG t
 |0,i,h,o,hd,ho=>⟨hd,by rw [wy];exact (Bu _).symm,ho⟩
 |k+1,i,h,o,hd,ho=>by
  obtain ⟨t1,_,_,t3⟩:=yf hp hd h
  obtain ⟨h1,h2,h3⟩:=QN hp k (Nd b i h p.1).1 (Nd b i h p.1).2.1 (o++ [Eo p (Nd b i h p.1).2.2]) t1 (λt ht=>by
   rcases Az.1 ht with h4|h4
   ·exact ho t h4
   ·rw [Ad.1 h4];exact ⟨t3,iw⟩)
  rw [Av,Cc] at h2
  rw [wy]
  exact ⟨h1,by omega,h3⟩
structure eY (p:PP) (ts:List TT):Prop where
 set:Dw p ts=true
 kB:ts.length<=2
 short:Lw ts
 valid: ∀t∈ts,Gl p t=true
theorem Ae0 {p:PP} (hp:Ll p) {b:List Int} {i:Int} (hd:Ya b i) (h:Int):Ya b (Za b i h p).1/\eY p (Za b i h p).2.2:=by
 have hr:=bR hd (show (1:Int)<=3 by decide) h
 obtain ⟨h1,h2,h3⟩:=QN hp (dR b i h 3).toNat (dI b i) (hN h) [] hd.next (λt ht=>by cases ht)
 have h2:(Za b i h p).2.2.length=(dR b i h 3).toNat+0:=h2
 have h3: ∀t∈(Za b i h p).2.2,Gl p t=true/\aG t:=h3
 refine ⟨h1,?_,by omega,⟨by omega,λt ht=>(h3 t ht).2⟩,λt ht=>(h3 t ht).1⟩
 exact Bt.2 ⟨Bt.2 ⟨hp.valid,Ec (by omega)⟩,Bb.2 λt ht=>(h3 t ht).1⟩
theorem eY.add {p:PP} (hp:Ll p) {ts:List TT} (h:eY p ts) {t:TT} (ht:Gl p t=true):Dw p (ts++ [t])=true:=by
 have:=h.kB
 refine Bt.2 ⟨Bt.2 ⟨hp.valid,Ec (by rw [Av,Cc];omega)⟩,Bb.2 λt' KA=>?_⟩
 rcases Az.1 KA with h4|h4
 ·exact h.valid t' h4
 ·rw [Ad.1 h4];exact ht
section
variable {p:PP} {ts:List TT} {s:List Int}
theorem Ll.found (hp:Ll p) (hs:s∈Ba p):Pe p s=true:=jQ.2 ⟨hp.whole,hs⟩
theorem Ll.Ack (hp:Ll p) (ht:Dw p ts=true) (hs:s∈Ba p):Sw p ts s=true:=Bt.2 ⟨qc (hp.found hs),ht⟩
theorem Ll.Ahs (hp:Ll p) (ht:Dw p ts=true) (hs:s∈Ba p):zf p ts s=It ts s:=Ab (hp.Ack ht hs)
theorem Ll.Asa (hp:Ll p) (ht:Dw p ts=true) (hs:s∈Ba p):zg p ts s=max (It ts s) (It ts (Bg s)):=Ab (hp.Ack ht hs)
theorem Ll.Ajx (hp:Ll p) (ht:Dw p ts=true) (hs:s∈Ba p):rZ p ts s=Pf (Hp ts s) (It ts s) 0:=Ab (hp.Ack ht hs)
theorem Ll.Amj (hp:Ll p) (ht:Dw p ts=true) (hs:s∈Ba p):nQ p ts s=Hp ts s:=Ab (hp.Ack ht hs)
theorem Ll.Ag5 (hp:Ll p) (hs:s∈Ba p):j7 p s=Js (Ba p) (Dm p) s:=Ab (hp.found hs)
theorem Ll.gap (hp:Ll p) (ht:Dw p ts=true) (hs:s∈Ba p):PV p ts s=Js (Ba p) (Dm p) s-It ts s:=Ab (Bt.2 ⟨hp.found hs,ht⟩)
theorem Aht (hp:Ll p) (ht:Dw p ts=true) (hs:s∈Ba p):0<=It ts s/\It ts s<=3000:=PS (Qp ht).2.1 (qJ hp.whole ht hs)
theorem Ac2 (hp:Ll p) (ht:Dw p ts=true) (hs:s∈Ba p):
  (Pf (Hp ts s) (It ts s) 0= -1↔ts.length=0)/\ -1<=Pf (Hp ts s) (It ts s) 0/\Pf (Hp ts s) (It ts s) 0<ts.length:=by
 have hb:=wT (Qp ht).2.1 (qJ hp.whole ht hs)
 have hlen:(Hp ts s).length=ts.length:=by unfold Hp;rw [Dd]
 by_cases h0:ts.length=0
 ·have:ts= []:=List.length_eq_zero_iff.1 h0
  subst this
  exact ⟨⟨λ_=>rfl,λ_=>rfl⟩,by show (-1:Int)<= -1;decide,by show (-1:Int)<((0:Nat):Int);decide⟩
 ·have hm:It ts s∈Hp ts s:=by
   have hmm:PW (Hp ts s)∈Hp ts s:=xr (by omega)
   have e:It ts s=PW (Hp ts s):=Int.le_antisymm (nv _ _ (hb _ hmm).1 λx hx=>YT hx) ((jZ (Hp ts s) 0).2 _ hmm)
   rw [e]
   exact xr (by omega)
  obtain ⟨j,h1,h2,_⟩:=nP (Hp ts s) (It ts s) 0 hm
  have hj:=(Am.1 h2).1
  rw [h1]
  omega
end
def yB (b:List Int):Prop:=b.length<=1048576/\ ∀y∈b,0<=y/\y<256
noncomputable abbrev MI:Spec:=Gu (.pair tB .unit) .bool false true (λx=>yB x.1) (λ_=>true)
theorem Ape {code:List Int} (h:yB code) (hb: ¬(code.length:Int)>4096):Ya code 0:=⟨by omega,h.2,Rb _,by omega⟩
abbrev Wh:Type:=(List Int×List (List Int)×List Int×PUnit)×Bool×PUnit
abbrev Wi:Type:=(List Int×Int×Int×List Int×PUnit)×PUnit
abbrev kv:Type:=(List Int×Int×Int×Int×ByteArray×List (List Int)×PUnit)×PUnit
abbrev pO:Type:=(List Int×Int×Int×List (List Int×List (List Int)×List Int×PUnit)×PUnit)×PUnit
abbrev Jh (y5:pO) (hZ:Wh) (y4:kv) (bn:Wi) (Ez:Wh) (Gb:Wi):Prop:= [(0,y5.1.2.2.2.1.length)]= [(0,y5.1.2.2.2.1.length)]/\(hZ.2.1,y4.1.2.2.2.1,y4.1.2.2.2.2.1,List.take y4.1.2.2.2.2.2.1.length (List.drop 0 y4.1.2.2.2.2.2.1),hZ.1.1,hZ.1.2.1,hZ.1.2.2.1,bn.1.1,bn.1.2.1,bn.1.2.2.1,y5.1.2.2.2.1,())=(Ez.2.1,y4.1.2.2.2.1,y4.1.2.2.2.2.1,List.take y4.1.2.2.2.2.2.1.length (List.drop 0 y4.1.2.2.2.2.2.1),Ez.1.1,Ez.1.2.1,Ez.1.2.2.1,Gb.1.1,Gb.1.2.1,Gb.1.2.2.1,y5.1.2.2.2.1,PUnit.unit)
abbrev Gg (y4:kv):Prop:=(([]:List (Nat×Nat))= []/\(y4.1.2.2.2.1,y4.1.2.2.2.2.1,List.take y4.1.2.2.2.2.2.1.length (List.drop 0 y4.1.2.2.2.2.2.1),())=(y4.1.2.2.2.1,y4.1.2.2.2.2.1,List.take y4.1.2.2.2.2.2.1.length (List.drop 0 y4.1.2.2.2.2.2.1),PUnit.unit))
abbrev kc (y4:kv) (y5:pO) (Ez:Wh) (y6:Wi) (Gb:Wi) (bn:Int):Prop:= ∃(hZ:Int),aE.fn ((y4.1.2.2.2.1,y4.1.2.2.2.2.1,List.take y4.1.2.2.2.2.2.1.length (List.drop 0 y4.1.2.2.2.2.2.1),()),List.take ([]++List.take y5.1.2.2.2.1.length (List.drop 0 y5.1.2.2.2.1)++List.take 1 (List.drop 0 [(Ez.1.1,Ez.1.2.1,Ez.1.2.2.1,())])).length (List.drop 0 ([]++List.take y5.1.2.2.2.1.length (List.drop 0 y5.1.2.2.2.1)++List.take 1 (List.drop 0 [(Ez.1.1,Ez.1.2.1,Ez.1.2.2.1,())]))),y6.1.2.2.2.1,())=some hZ/\([]:List (Nat×Nat))= []/\(List.take y5.1.2.2.2.1.length (List.drop 0 y5.1.2.2.2.1),hZ,y4.1.2.2.2.1,y4.1.2.2.2.2.1,List.take y4.1.2.2.2.2.2.1.length (List.drop 0 y4.1.2.2.2.2.2.1),Ez.1.1,Ez.1.2.1,Ez.1.2.2.1,Gb.1.1,Gb.1.2.1,Gb.1.2.2.1,())=(List.take y5.1.2.2.2.1.length (List.drop 0 y5.1.2.2.2.1),bn,y4.1.2.2.2.1,y4.1.2.2.2.2.1,List.take y4.1.2.2.2.2.2.1.length (List.drop 0 y4.1.2.2.2.2.2.1),Ez.1.1,Ez.1.2.1,Ez.1.2.2.1,Gb.1.1,Gb.1.2.1,Gb.1.2.2.1,PUnit.unit)
abbrev kd (Ez:Wh):Prop:=(([]:List (Nat×Nat))= []/\(Ez.1.1,Ez.1.2.1,Ez.1.2.2.1,())=(Ez.1.1,Ez.1.2.1,Ez.1.2.2.1,PUnit.unit))
theorem Ab4 (code:List Int) (P:Bool->Prop):(∃(y2:Bool),xM.fn (code,())=some y2/\Br y2 (P true) (∃(y3:(List Int×Int×Int×PUnit)×PUnit),pF.fn (code,(1111:Int),())=some y3/\ ∃(y4:kv),xT.fn (y3.1.1,y3.1.2.1,y3.1.2.2.1,())=some y4/\ ∃(y5:pO),pG.fn (y4.1.1,y4.1.2.1,y4.1.2.2.1,y4.1.2.2.2.1,y4.1.2.2.2.2.1,List.take y4.1.2.2.2.2.2.1.length (List.drop 0 y4.1.2.2.2.2.2.1),())=some y5/\ ∃(y6:Wi),xU.fn (y5.1.1,y5.1.2.1,y5.1.2.2.1,y4.1.2.2.2.1,y4.1.2.2.2.2.1,List.take y4.1.2.2.2.2.2.1.length (List.drop 0 y4.1.2.2.2.2.2.1),())=some y6/\ ∃(y7:Int),aE.fn ((y4.1.2.2.2.1,y4.1.2.2.2.2.1,List.take y4.1.2.2.2.2.2.1.length (List.drop 0 y4.1.2.2.2.2.2.1),()),List.take y5.1.2.2.2.1.length (List.drop 0 y5.1.2.2.2.1),y6.1.2.2.2.1,())=some y7/\ ∃(y8:Int),mz.fn ((y4.1.2.2.2.1,y4.1.2.2.2.2.1,List.take y4.1.2.2.2.2.2.1.length (List.drop 0 y4.1.2.2.2.2.2.1),()),y6.1.2.2.2.1,())=some y8/\ ∃(y9:Int),mA.fn ((y4.1.2.2.2.1,y4.1.2.2.2.2.1,List.take y4.1.2.2.2.2.2.1.length (List.drop 0 y4.1.2.2.2.2.2.1),()),List.take y5.1.2.2.2.1.length (List.drop 0 y5.1.2.2.2.1),y6.1.2.2.2.1,())=some y9/\Br (decide (y7<(0:Int))) (P false) (Br (decide (y7>y8)) (P false) (Br (decide (y9<y7)) (P false) (Br (decide (y9>y8)) (P false) (∃(Ki:Int),uh.fn ((y4.1.2.2.2.1,y4.1.2.2.2.2.1,List.take y4.1.2.2.2.2.2.1.length (List.drop 0 y4.1.2.2.2.2.2.1),()),List.take y5.1.2.2.2.1.length (List.drop 0 y5.1.2.2.2.1),y6.1.2.2.2.1,())=some Ki/\Br (Ki !=IntKind.i64.wrap (y8-y7)) (P false) (∃(Jp:(List Int×PUnit)×PUnit),Zh.fn (y4.1.2.2.2.1,y4.1.2.2.2.2.1,List.take y4.1.2.2.2.2.2.1.length (List.drop 0 y4.1.2.2.2.2.2.1),List.take y5.1.2.2.2.1.length (List.drop 0 y5.1.2.2.2.1),y6.1.2.2.2.1,())=some Jp/\Br ((↑Jp.1.1.length:Int) !=(↑y5.1.2.2.2.1.length:Int)) (P false) (∃(Jf:List (List Int)),mB.fn ((y4.1.2.2.2.1,y4.1.2.2.2.2.1,List.take y4.1.2.2.2.2.2.1.length (List.drop 0 y4.1.2.2.2.2.2.1),()),y6.1.2.2.2.1,())=some Jf/\(Gg y4)/\(Gg y4)/\ ∃(Ja:(List Int×Int×Int×Int×PUnit)×PUnit),Iq.fn (y6.1.1,y6.1.2.1,y6.1.2.2.1,(↑Jf.length:Int),())=some Ja/\(Gg y4)/\ ∃(Ie:List Int),idx Jf Ja.1.2.2.2.1=some Ie/\(Gg y4)/\(Gg y4)/\ ∃(Hx:Int),aE.fn ((y4.1.2.2.2.1,y4.1.2.2.2.2.1,List.take y4.1.2.2.2.2.2.1.length (List.drop 0 y4.1.2.2.2.2.2.1),()),List.take y5.1.2.2.2.1.length (List.drop 0 y5.1.2.2.2.1),Ie,())=some Hx/\ ∃(Gb:Wi),Sf.fn (Ja.1.1,Ja.1.2.1,Ja.1.2.2.1,y4.1.2.2.2.1,y4.1.2.2.2.2.1,List.take y4.1.2.2.2.2.2.1.length (List.drop 0 y4.1.2.2.2.2.2.1),())=some Gb/\ ∃(Ez:Wh),Dh.fn ((y4.1.2.2.2.1,y4.1.2.2.2.2.1,List.take y4.1.2.2.2.2.2.1.length (List.drop 0 y4.1.2.2.2.2.2.1),()),List.take Gb.1.2.2.2.1.length (List.drop 0 Gb.1.2.2.2.1),())=some Ez/\(0=0/\0=([]:List Int).length/\0+(List.take y5.1.2.2.2.1.length (List.drop 0 y5.1.2.2.2.1)).length<=Cn/\0=0/\([]++List.take y5.1.2.2.2.1.length (List.drop 0 y5.1.2.2.2.1)).length=([]++List.take y5.1.2.2.2.1.length (List.drop 0 y5.1.2.2.2.1)).length/\([]++List.take y5.1.2.2.2.1.length (List.drop 0 y5.1.2.2.2.1)).length+(List.take 1 (List.drop 0 [(Ez.1.1,Ez.1.2.1,Ez.1.2.2.1,())])).length<=Cn/\ ∃(bn:Int),aE.fn ((y4.1.2.2.2.1,y4.1.2.2.2.2.1,List.take y4.1.2.2.2.2.2.1.length (List.drop 0 y4.1.2.2.2.2.2.1),()),List.take ([]++List.take y5.1.2.2.2.1.length (List.drop 0 y5.1.2.2.2.1)++List.take 1 (List.drop 0 [(Ez.1.1,Ez.1.2.1,Ez.1.2.2.1,())])).length (List.drop 0 ([]++List.take y5.1.2.2.2.1.length (List.drop 0 y5.1.2.2.2.1)++List.take 1 (List.drop 0 [(Ez.1.1,Ez.1.2.1,Ez.1.2.2.1,())]))),y6.1.2.2.2.1,())=some bn/\(∃(hZ:Int),fU.fn ((y4.1.2.2.2.1,y4.1.2.2.2.2.1,List.take y4.1.2.2.2.2.2.1.length (List.drop 0 y4.1.2.2.2.2.2.1),()),List.take y5.1.2.2.2.1.length (List.drop 0 y5.1.2.2.2.1),y6.1.2.2.2.1,())=some hZ/\Br (decide (Hx>=IntKind.i64.wrap (y7-(1:Int)))) (Br (decide (Hx<=IntKind.i64.wrap (y7+(1:Int)))) (Br (decide (bn>=y7)) (Br ((hZ==(-1:Int))==((↑(List.take y5.1.2.2.2.1.length (List.drop 0 y5.1.2.2.2.1)).length:Int)==(0:Int))) (P (decide (hZ<(↑(List.take y5.1.2.2.2.1.length (List.drop 0 y5.1.2.2.2.1)).length:Int)))) (P false)) (P false)) (P false)) (P false))/\(Gg y4)/\(kd Ez)/\((Gg y4)/\(kd Ez)/\(0=0/\0=([]:List Int).length/\0+(List.take y5.1.2.2.2.1.length (List.drop 0 y5.1.2.2.2.1)).length<=Cn/\(Gg y4)/\(kd Ez)/\(Gg y4)/\0=0/\([]++List.take y5.1.2.2.2.1.length (List.drop 0 y5.1.2.2.2.1)).length=([]++List.take y5.1.2.2.2.1.length (List.drop 0 y5.1.2.2.2.1)).length/\([]++List.take y5.1.2.2.2.1.length (List.drop 0 y5.1.2.2.2.1)).length+(List.take 1 (List.drop 0 [(Ez.1.1,Ez.1.2.1,Ez.1.2.2.1,())])).length<=Cn/\(Gg y4)/\(kc y4 y5 Ez y6 Gb bn))/\(Gg y4)/\0=0/\0=([]:List Int).length/\0+(List.take y5.1.2.2.2.1.length (List.drop 0 y5.1.2.2.2.1)).length<=Cn/\(Gg y4)/\0=0/\([]++List.take y5.1.2.2.2.1.length (List.drop 0 y5.1.2.2.2.1)).length=([]++List.take y5.1.2.2.2.1.length (List.drop 0 y5.1.2.2.2.1)).length/\([]++List.take y5.1.2.2.2.1.length (List.drop 0 y5.1.2.2.2.1)).length+(List.take 1 (List.drop 0 [(Ez.1.1,Ez.1.2.1,Ez.1.2.2.1,())])).length<=Cn/\(Gg y4)/\(kc y4 y5 Ez y6 Gb bn))/\(Gg y4)/\(Gg y4)/\0=0/\0=([]:List Int).length/\0+(List.take y5.1.2.2.2.1.length (List.drop 0 y5.1.2.2.2.1)).length<=Cn/\(Gg y4)/\0=0/\([]++List.take y5.1.2.2.2.1.length (List.drop 0 y5.1.2.2.2.1)).length=([]++List.take y5.1.2.2.2.1.length (List.drop 0 y5.1.2.2.2.1)).length/\([]++List.take y5.1.2.2.2.1.length (List.drop 0 y5.1.2.2.2.1)).length+(List.take 1 (List.drop 0 [(Ez.1.1,Ez.1.2.1,Ez.1.2.2.1,())])).length<=Cn/\(Gg y4)/\(kc y4 y5 Ez y6 Gb bn))/\(Gg y4)/\(Gg y4)/\(∃(bn:Wi),Sf.fn (Ja.1.1,Ja.1.2.1,Ja.1.2.2.1,y4.1.2.2.2.1,y4.1.2.2.2.2.1,List.take y4.1.2.2.2.2.2.1.length (List.drop 0 y4.1.2.2.2.2.2.1),())=some bn/\(Gg y4)/\(∃(hZ:Wh),Dh.fn ((y4.1.2.2.2.1,y4.1.2.2.2.2.1,List.take y4.1.2.2.2.2.2.1.length (List.drop 0 y4.1.2.2.2.2.2.1),()),List.take bn.1.2.2.2.1.length (List.drop 0 bn.1.2.2.2.1),())=some hZ/\((((Jh y5 hZ y4 bn Ez Gb))/\((Jh y5 hZ y4 bn Ez Gb))/\(Jh y5 hZ y4 bn Ez Gb))/\(((Jh y5 hZ y4 bn Ez Gb))/\(Jh y5 hZ y4 bn Ez Gb))/\(((Jh y5 hZ y4 bn Ez Gb))/\(Jh y5 hZ y4 bn Ez Gb))/\(Jh y5 hZ y4 bn Ez Gb))/\(((Jh y5 hZ y4 bn Ez Gb))/\(Jh y5 hZ y4 bn Ez Gb))/\(Jh y5 hZ y4 bn Ez Gb))/\(Gg y4)/\ ∃(hZ:Wh),Dh.fn ((y4.1.2.2.2.1,y4.1.2.2.2.2.1,List.take y4.1.2.2.2.2.2.1.length (List.drop 0 y4.1.2.2.2.2.2.1),()),List.take bn.1.2.2.2.1.length (List.drop 0 bn.1.2.2.2.1),())=some hZ/\(((Jh y5 hZ y4 bn Ez Gb))/\(Jh y5 hZ y4 bn Ez Gb))/\(Jh y5 hZ y4 bn Ez Gb))/\(Gg y4)/\(Gg y4)/\ ∃(bn:Wi),Sf.fn (Ja.1.1,Ja.1.2.1,Ja.1.2.2.1,y4.1.2.2.2.1,y4.1.2.2.2.2.1,List.take y4.1.2.2.2.2.2.1.length (List.drop 0 y4.1.2.2.2.2.2.1),())=some bn/\(Gg y4)/\ ∃(hZ:Wh),Dh.fn ((y4.1.2.2.2.1,y4.1.2.2.2.2.1,List.take y4.1.2.2.2.2.2.1.length (List.drop 0 y4.1.2.2.2.2.2.1),()),List.take bn.1.2.2.2.1.length (List.drop 0 bn.1.2.2.2.1),())=some hZ/\(((Jh y5 hZ y4 bn Ez Gb))/\(Jh y5 hZ y4 bn Ez Gb))/\(Jh y5 hZ y4 bn Ez Gb)))))))))=fnW (uO [fX+4,jb]) (look [(8,xM),(9,pF),(10,xT),(11,pG),(12,xU),(18,aE),(13,mz),(19,mA),(20,uh),(21,Zh),(22,mB),(23,Iq),(24,Dh),(25,Sf),(26,fU)]) MI Tryz.f4 (code,()) P:=by kernel_rfl
theorem ZK (code:List Int) (h:yB code):fnW (uO [fX+4,jb]) (look [(8,xM),(9,pF),(10,xT),(11,pG),(12,xU),(18,aE),(13,mz),(19,mA),(20,uh),(21,Zh),(22,mB),(23,Iq),(24,Dh),(25,Sf),(26,fU)]) MI Tryz.f4 (code,()) (λ(z:Bool)=>z=true):=by
 refine Eq.mp (Ab4 code _) ⟨_,Ab trivial,Br.dec (λ_=>rfl) λhb=>?_⟩
 simp only [Jh,Gg,kc,kd]
 have hb: ¬(code.length:Int)>4096:=hb
 have hd0:=Ape h hb
 refine ⟨_,Ab (show code.length<=4096 by omega),_,Ab hd0,?_⟩
 obtain ⟨hp,hd1⟩:=NJ hd0 (pd code 1111)
 obtain ⟨W,hW⟩: ∃W,aO code 0 (pd code 1111)=W:=⟨_,rfl⟩
 rw [hW] at hp hd1
 simp only [hW,Ch,and_self,true_and]
 obtain ⟨i1,h1,n,str,g,u⟩:=W
 obtain rfl:u=():=rfl
 dsimp only at hp hd1⊢
 have hs:=hp.short
 refine ⟨_,Ab ⟨hd1,hs,hp.valid⟩,?_⟩
 obtain ⟨hd2,ht⟩:=Ae0 hp hd1 h1
 obtain ⟨W,hW⟩: ∃W,Za code i1 h1 (n,str,g,())=W:=⟨_,rfl⟩
 rw [hW] at hd2 ht
 simp only [hW,Ch]
 obtain ⟨i2,h2,ts⟩:=W
 dsimp only at hd2 ht⊢
 refine ⟨_,Ab ⟨hd2,hs,hp.valid,hp.two⟩,?_⟩
 obtain ⟨hd3,Si⟩:=Aip hp hd2 h2
 obtain ⟨W,hW⟩: ∃W,nS code i2 h2 (n,str,g,())=W:=⟨_,rfl⟩
 rw [hW] at hd3 Si
 simp only [hW]
 obtain ⟨i3,h3,s⟩:=W
 dsimp only at hd3 Si⊢
 clear hW
 have hw:=hp.whole
 have hss:short s:=jc (gP hp.valid Si)
 have e7:aE.fn ((n,str,g,()),ts,s,())=some (It ts s):=(Ab ⟨hs,ht.short,hss⟩).trans (Dk some (hp.Ahs ht.set Si))
 have e8:mz.fn ((n,str,g,()),s,())=some (Js (Ba (n,str,g,())) (Dm (n,str,g,())) s):=(Ab ⟨hs,hss⟩).trans (Dk some (hp.Ag5 Si))
 have e9:mA.fn ((n,str,g,()),ts,s,())=some (max (It ts s) (It ts (Bg s))):=(Ab ⟨hs,ht.short,hss⟩).trans (Dk some (hp.Asa ht.set Si))
 have e10:uh.fn ((n,str,g,()),ts,s,())=some (Js (Ba (n,str,g,())) (Dm (n,str,g,())) s-It ts s):=(Ab ⟨hs,ht.short,hss⟩).trans (Dk some (hp.gap ht.set Si))
 have e11:Zh.fn (n,str,g,ts,s,())=some ((Hp ts s,()),()):=(Ab ⟨hs,ht.short,hss⟩).trans (Dk some (by show ((nQ (n,str,g,()) ts s,()),())=_;rw [hp.Amj ht.set Si]))
 have e12:mB.fn ((n,str,g,()),s,())=some (Xe g s):=Ab ⟨hs,hp.valid,gP hp.valid Si⟩
 obtain ⟨a1,a2⟩:=Aht hp ht.set Si
 have a3:=PT hw ht.set Si
 obtain ⟨v1,v2⟩:=Ac5 hw Si
 have a4:=PT hw ht.set v1
 rw [v2] at a4
 obtain ⟨_,a5⟩:=oQ hw Si
 have hlen:(Hp ts s).length=ts.length:=by unfold Hp;rw [Dd]
 have hn4:(Xe g s).length=4:=by
  unfold Xe
  rw [Dd,Mq,hp.two]
 have e13:Iq.fn (code,i3,h3,((Xe g s).length:Int),())=some ((code,dI code i3,hN h3,dR code i3 h3 4,()),()):=by
  rw [hn4]
  exact Ab ⟨hd3,by show (1:Int)<=4;decide⟩
 obtain ⟨r1,r2⟩:=bR hd3 (show (1:Int)<=4 by decide) h3
 have e14:idx (Xe g s) (dR code i3 h3 4)=some ((Xe g s)[(dR code i3 h3 4).toNat]'(by omega)):=by
  have:=Cd (xs:=Xe g s) (j:=(dR code i3 h3 4).toNat) (by omega)
  rwa [Sl r1] at this
 obtain ⟨nb,hnb⟩: ∃nb,(Xe g s)[(dR code i3 h3 4).toNat]'(by omega)=nb:=⟨_,rfl⟩
 rw [hnb] at e14
 obtain ⟨l,hl,hnl⟩: ∃l∈Bi g.length,Ai s (Au g l)=nb:=Be.1 (by rw [<-hnb];exact Ak _)
 have Al2:nb∈Ba (n,str,g,()):=by rw [<-hnl];exact (Zn hw).next s Si l hl
 have e15:aE.fn ((n,str,g,()),ts,nb,())=some (It ts nb):=(Ab ⟨hs,ht.short,jc (gP hp.valid Al2)⟩).trans (Dk some (hp.Ahs ht.set Al2))
 obtain ⟨n1,n2⟩:=YQ hw ht.set Si hl
 have hnl:Ai s (Au g l)=nb:=hnl
 rw [show Ai s (Au (n,str,g,()).2.2.1 l)=nb from hnl] at n1 n2
 obtain ⟨t1,t2,t3,t4⟩:=yf hp hd3.next (hN h3)
 obtain ⟨W,hW⟩: ∃W,Nd code (dI code i3) (hN h3) n=W:=⟨_,rfl⟩
 have e16:Sf.fn (code,dI code i3,hN h3,n,str,g,())=some ((code,W.1,W.2.1,W.2.2,()),()):=by
  rw [<-hW]
  have h5:=hp.hi
  have h3':=hp.lo
  exact Ab ⟨hd3.next,by show 1<=n;omega,by show n<=20;omega⟩
 rw [hW] at t1 t2 t3 t4
 obtain ⟨i4,h4,t⟩:=W
 dsimp only at t1 t2 t3 t4 e16
 have e17:Dh.fn ((n,str,g,()),t,())=some (Eo (n,str,g,()) t,true,()):=(Ab ⟨hs,t2⟩).trans (Dk some (by show (Eo (n,str,g,()) t,Gk (n,str,g,()) t,())=_;rw [t3]))
 have Al0:=eY.add hp ht t4
 have Arm:Lw (ts++ [Eo (n,str,g,()) t]):=⟨by rw [Av,Cc];have:=ht.kB;omega,λx hx=>(Az.1 hx).elim (ht.short.2 x) λhx=>by rw [Ad.1 hx];exact iw⟩
 have e18:aE.fn ((n,str,g,()),ts++ [Eo (n,str,g,()) t],s,())=some (It (ts++ [Eo (n,str,g,()) t]) s):=(Ab ⟨hs,Arm,hss⟩).trans (Dk some (hp.Ahs Al0 Si))
 have e19:fU.fn ((n,str,g,()),ts,s,())=some (Pf (Hp ts s) (It ts s) 0):=(Ab ⟨hs,ht.short,hss⟩).trans (Dk some (hp.Ajx ht.set Si))
 have hmo:=YP ts (Eo (n,str,g,()) t) s
 obtain ⟨b1,b2,b3⟩:=Ac2 hp ht.set Si
 have nB:=ht.kB
 have hmr:(1:Nat)+2<=Cn:=by show 3<=4294967296;decide
 refine ⟨_,e7,_,e8,_,e9,?_⟩
 refine Br.dec (λhc=>by omega) λ_=>Br.dec (λhc=>by omega) λ_=>Br.dec (λhc=>by omega) λ_=>Br.dec (λhc=>by omega) λ_=>?_
 refine ⟨_,e10,Br.of (λhc=>?_) λ_=>?_⟩
 ·rw [Cy (by omega) (by omega)] at hc
  simp at hc
 refine ⟨_,e11,Br.of (λhc=>?_) λ_=>?_⟩
 ·dsimp only at hc
  rw [hlen] at hc
  simp at hc
 refine ⟨_,e12,_,e13,_,e14,_,e15,_,e16,_,e17,?_⟩
 obtain ⟨B,hB⟩: ∃B,Eo (n,str,g,()) t=B:=⟨_,rfl⟩
 rw [hB] at e17 e18 hmo
 obtain ⟨B1,B2,B3,u⟩:=B
 obtain rfl:u=():=rfl
 have k1:ts.length<=Cn:=by omega
 have k2:ts.length+1<=Cn:=by omega
 simp only [hB,e18,e19,e16,il,Fq,Bu,true_and,Ds,List.take_succ_cons,List.take_zero,Ay,k1,k2]
 refine ⟨⟨_,rfl,⟨_,rfl,?_⟩,_,rfl,rfl⟩,_,rfl,_,e17,rfl⟩
 rw [Cy (by omega) (by omega),Cy (by omega) (by omega)]
 refine Br.dec (λ_=>Br.dec (λ_=>Br.dec (λ_=>Br.of (λ_=>Ec b3) λhc=>?_) λhc=>absurd hmo hc) λhc=>absurd n2 hc) λhc=>absurd n1 hc
 have hc:((Pf (Hp ts s) (It ts s) 0== -1)==((ts.length:Int)==0))=false:=hc
 have:(Pf (Hp ts s) (It ts s) 0== -1)=((ts.length:Int)==0):=Bool.eq_iff_iff.2 (Xw.trans (b1.trans (by rw [Xw];omega)))
 rw [this] at hc
 simp at hc
theorem zX:Sound Tryz.prog 4 MI:=
 Sound.Gu (uP [fX+4,jb]) (Aw TV (Fv MU (Fv UC (Fv MW (Fv UD (Aw uv (Aw MQ (Aw uw (Aw we (Fv wg (Aw MT (Fv Wg (Aw gO (Fv xZ (Aw ry Bn))))))))))))))) mixed Tryz.func4 (by kernel_rfl) (by kernel_rfl) λx h=>ZK x.1 h
end Go.Proofs.YtkkdpknjohcekaaGreat
