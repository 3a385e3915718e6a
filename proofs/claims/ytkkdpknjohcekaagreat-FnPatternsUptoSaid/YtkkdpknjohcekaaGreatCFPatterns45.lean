/-
  Part 46 of the proof that the statement FnPatterns holds.
-/
import Derived.Test.YtkkdpknjohcekaaGreatCFPatterns44
namespace Go.Proofs.YtkkdpknjohcekaaGreat
open Go.RowKit
section
variable {Q:List Int->Prop} {code:List Int->Nat} {B:Nat}
theorem ZB (inj: ∀x y,Q x->Q y->code x=code y->x=y) (lt: ∀x,Q x->code x<B) {L:List (List Int)} (hQ: ∀y∈L,Q y) (hn:L.Nodup):L.length<=B:=by
 have h1:(L.map code).Nodup:=by
  unfold List.Nodup
  rw [List.pairwise_map]
  exact List.Pairwise.imp_of_mem (λha hb Iz he=>Iz (inj _ _ (hQ _ ha) (hQ _ hb) he)) hn
 have h2:=Ry h1 (l2:=List.range B) λx hx=>by
  obtain ⟨y,hy,rfl⟩:=Bg.1 hx
  exact Eu.2 (lt y (hQ y hy))
 simpa using h2
theorem lP (hB:B<3000) (inj: ∀x y,Q x->Q y->code x=code y->x=y) (lt: ∀x,Q x->code x<B) {g:List (List Int)} {x:List Int} {d:Int} :
  ∀(ls:List Int) (L:List (List Int)) (D:List Int),(∀l∈ls,Q (Af x (Ax g l)))->(∀y∈L,Q y)->L.Nodup->
   (Hp g x d ls L D).2.2=true/\(∀y∈(Hp g x d ls L D).1,Q y)/\(Hp g x d ls L D).1.Nodup
 | [],L,D,_,hQ,hn=>⟨rfl,hQ,hn⟩
 |l::ls,L,D,hl,hQ,hn=>by
  have Jv: ∀l∈ls,Q (Af x (Ax g l)):= λl h=>hl l (Aq _ h)
  rw [Hp]
  split
  ·exact lP hB inj lt ls L D Jv hQ hn
  ·rename_i hni
   have:=ZB inj lt hQ hn
   rw [Ak (by omega)]
   refine lP hB inj lt ls _ _ Jv (λy hy=>?_) ?_
   ·rcases Az.1 hy with h|h
    ·exact hQ y h
    ·rw [Ad.1 h];exact hl l (by simp)
   ·rw [Dv]
    exact ⟨hn,by simp,λa ha b hb e=>hni (by rw [Ad.1 hb] at e;rw [<-e];exact ha)⟩
theorem sy (hB:B<3000) (inj: ∀x y,Q x->Q y->code x=code y->x=y) (lt: ∀x,Q x->code x<B) {g:List (List Int)} {ls:List Int} (step: ∀x,Q x-> ∀l∈ls,Q (Af x (Ax g l))):
  ∀(f k:Nat) (L:List (List Int)) (D:List Int),(∀y∈L,Q y)->L.Nodup->(Jn g ls f k L D).2.2=true
 |0,_,_,_,_,_=>rfl
 |f+1,k,L,D,hQ,hn=>by
  rw [Jn]
  split
  ·rename_i hk
   have hx:Q (L.getD k []):=by
    rw [Ai,Ac hk]
    exact hQ _ (Al hk)
   obtain ⟨h1,h2,h3⟩:=lP hB inj lt (d:=D.getD k 0) ls L D (step _ hx) hQ hn
   generalize Hp g (L.getD k []) (D.getD k 0) ls L D=r at h1 h2 h3
   obtain ⟨L',D',b⟩:=r
   have h1:b=true:=h1
   subst h1
   exact sy hB inj lt step f (k+1) L' D' h2 h3
  ·rfl
theorem DZ (hB:B<3000) (inj: ∀x y,Q x->Q y->code x=code y->x=y) (lt: ∀x,Q x->code x<B) {g:List (List Int)} {s:List Int} (hs:Q s)
  (step: ∀x,Q x-> ∀l∈Ca g.length,Q (Af x (Ax g l))):(Gy g s).2.2=true:=
 sy hB inj lt step _ _ _ _ (λy hy=>by rw [Ad.1 hy];exact hs) (by simp)
end
def xr (x:List Int):Nat:=(Hi x 0+5*Hi x 1+25*Hi x 2+125*Hi x 3).toNat
theorem FD {x:List Int} {k:Nat} (h:x.length<=k):Hi x (k:Int)=0:=by
 unfold Hi
 rw [Aj,Ai,Dz h]
 rfl
theorem Qh {n:Nat} {x:List Int} (hn:n<=5) (h:Pm n x) (k:Nat):0<=Hi x (k:Int)/\Hi x (k:Int)<5:=by
 by_cases hk:k<n
 ·have:=h.Xm hk
  omega
 ·rw [FD (by rw [h.1];omega)]
  decide
theorem NZ {n:Nat} {x:List Int} (hn:n<=5) (h:Pm n x):xr x<625:=by
 have h0:=Qh hn h 0
 have h1:=Qh hn h 1
 have h2:=Qh hn h 2
 have h3:=Qh hn h 3
 simp only [Int.natCast_zero] at h0
 unfold xr
 have e1:((1:Nat):Int)=1:=rfl
 have e2:((2:Nat):Int)=2:=rfl
 have e3:((3:Nat):Int)=3:=rfl
 rw [e1] at h1;rw [e2] at h2;rw [e3] at h3
 omega
theorem HV {n:Nat} (hn:n<=5) (x y:List Int) (hx:Pm n x) (hy:Pm n y) (e:xr x=xr y):x=y:=by
 have e1:((1:Nat):Int)=1:=rfl
 have e2:((2:Nat):Int)=2:=rfl
 have e3:((3:Nat):Int)=3:=rfl
 have a0:=Qh hn hx 0
 have a1:=Qh hn hx 1
 have a2:=Qh hn hx 2
 have a3:=Qh hn hx 3
 have b0:=Qh hn hy 0
 have b1:=Qh hn hy 1
 have b2:=Qh hn hy 2
 have b3:=Qh hn hy 3
 simp only [Int.natCast_zero] at a0 b0
 rw [e1] at a1 b1;rw [e2] at a2 b2;rw [e3] at a3 b3
 unfold xr at e
 have low: ∀i:Nat,i<4->Hi x (i:Int)=Hi y (i:Int):=by
  intro i hi
  match i,hi with
  |0,_=>simp only [Int.natCast_zero];omega
  |1,_=>rw [e1];omega
  |2,_=>rw [e2];omega
  |3,_=>rw [e3];omega
 have Aoe: ∀i,i<4->ap x i=ap y i:= λi hi=>by unfold ap;rw [low i hi]
 refine hx.ext hy λi hi=>?_
 by_cases h4:i<4
 ·exact Aoe i h4
 ·obtain ⟨j,hj,hjx⟩:=hy.UW (hx.lt hi)
  by_cases hj4:j<4
  ·rw [<-Aoe j hj4] at hjx
   have:=hx.inj hj hi hjx
   omega
  ·have:j=i:=by omega
   rw [this] at hjx
   exact hjx.symm
theorem JW {p:PP} (hv:Cb p=true) (h5:p.1<=5):Gl p=true:=by
 have hV:=valid hv
 have hn:=hV.n
 refine Bc.2 ⟨hv,DZ (Q:=Pm p.1.toNat) (code:=xr) (B:=625) (by decide) (HV (by omega)) (λx hx=>NZ (by omega) hx) (Pm.id (by omega) (by omega)) λx hx l hl=>?_⟩
 exact hx.comp (Yk hV (Lc hl))
def YJ (n:Int) (m:Nat) (x:List Int):Prop:=x.length=m/\ ∀y∈x,0<=y/\y<n
theorem fJ {n:Int} {m:Nat} {x:List Int} (hn:n<=5) (h:YJ n m x) (k:Nat):0<=Hi x (k:Int)/\Hi x (k:Int)<5:=by
 by_cases hk:k<x.length
 ·have:=h.2 _ (Al hk)
  rw [Is hk]
  omega
 ·rw [FD (by omega)]
  decide
def xq (x:List Int):Nat:=(Hi x 0+5*Hi x 1+25*Hi x 2).toNat
theorem HS {n:Int} {m:Nat} {x:List Int} (hn:n<=5) (h:YJ n m x):xq x<125:=by
 have h0:=fJ hn h 0
 have h1:=fJ hn h 1
 have h2:=fJ hn h 2
 simp only [Int.natCast_zero] at h0
 have e1:((1:Nat):Int)=1:=rfl
 have e2:((2:Nat):Int)=2:=rfl
 rw [e1] at h1;rw [e2] at h2
 unfold xq
 omega
theorem AM {n:Int} {m:Nat} (hn:n<=5) (hm:m<=3) (x y:List Int) (hx:YJ n m x) (hy:YJ n m y) (e:xq x=xq y):x=y:=by
 have e1:((1:Nat):Int)=1:=rfl
 have e2:((2:Nat):Int)=2:=rfl
 have a0:=fJ hn hx 0
 have a1:=fJ hn hx 1
 have a2:=fJ hn hx 2
 have b0:=fJ hn hy 0
 have b1:=fJ hn hy 1
 have b2:=fJ hn hy 2
 simp only [Int.natCast_zero] at a0 b0
 rw [e1] at a1 b1;rw [e2] at a2 b2
 unfold xq at e
 have low: ∀i:Nat,i<3->Hi x (i:Int)=Hi y (i:Int):=by
  intro i hi
  match i,hi with
  |0,_=>simp only [Int.natCast_zero];omega
  |1,_=>rw [e1];omega
  |2,_=>rw [e2];omega
 refine List.ext_getElem (by rw [hx.1,hy.1]) λi h1 h2=>?_
 have:=low i (by rw [hx.1] at h1;omega)
 rwa [Is h1,Is h2] at this
theorem VQ {p:PP} {t:List Int} (hv:Cb p=true) (h5:p.1<=5) (ht:Pk p.1 t=true) (h3:t.length<=3):Kl p t=true:=by
 have hV:=valid hv
 have hn:=hV.n
 obtain ⟨_,hp⟩:=Gi.1 ht
 refine Bc.2 ⟨Bc.2 ⟨hv,ht⟩,DZ (Q:=YJ p.1 t.length) (code:=xq) (B:=125) (by decide) (AM (by omega) h3) (λx hx=>HS (by omega) hx) ⟨rfl,λy hy=>?_⟩ λx hx l hl=>?_⟩
 ·obtain ⟨j,hj,rfl⟩:=Bh.1 hy
  have:=hp j hj hj
  omega
 ·obtain ⟨n1,n2⟩:=nR hV hx.2 (Lc hl)
  exact ⟨by rw [n1,hx.1],n2⟩
theorem EE {p:PP} {t:List Int} (h:Kl p t=true):eE p (Iv p t)=true:=by
 have e:(Iv p t).1=t:=by unfold Iv;rw [Ab h]
 unfold eE
 rw [e,h,MS]
 rfl
theorem Afm {n a c:Nat} {mv:List Int} (h:Pm n mv) (ha:a<n) (hc:c<n):Pm n ((mv.set a (Hi mv (c:Int))).set c (Hi mv (a:Int))):=by
 have hA:=(h.Xm ha).1
 have hC:=(h.Xm hc).1
 refine Pm.of (by simp only [Cm];exact h.1) h.n1 h.n2 (λk=>if k=c then ap mv a else if k=a then ap mv c else ap mv k) (λi hi=>?_) λi j hi hj e=>?_
 ·rw [Eh,Eh,Cm,h.1]
  by_cases h1:c=i
  ·rw [Ab h1,Ab hc,Ab (show i=c from h1.symm)]
   exact ⟨by rw [hA],h.lt ha⟩
  ·rw [Ak h1,Ak (show ¬i=c from λe=>h1 e.symm)]
   by_cases h2:a=i
   ·rw [Ab h2,Ab ha,Ab (show i=a from h2.symm)]
    exact ⟨by rw [hC],h.lt hc⟩
   ·rw [Ak h2,Ak (show ¬i=a from λe=>h2 e.symm)]
    have kZ:i<mv.length:=by rw [h.1];exact hi
    have:=(h.Xm hi).1
    rw [Is kZ] at this
    rw [Ac kZ,this]
    exact ⟨rfl,h.lt hi⟩
 ·by_cases i1:i=c
  ·rw [Ab i1] at e
   by_cases j1:j=c
   ·rw [i1,j1]
   ·rw [Ak j1] at e
    by_cases j2:j=a
    ·rw [Ab j2] at e
     have:=h.inj ha hc e
     rw [i1,j2,this]
    ·rw [Ak j2] at e
     exact absurd (h.inj ha hj e).symm j2
  ·rw [Ak i1] at e
   by_cases i2:i=a
   ·rw [Ab i2] at e
    by_cases j1:j=c
    ·rw [Ab j1] at e
     have:=h.inj hc ha e
     rw [i2,j1,this]
    ·rw [Ak j1] at e
     by_cases j2:j=a
     ·rw [i2,j2]
     ·rw [Ak j2] at e
      exact absurd (h.inj hc hj e).symm j1
   ·rw [Ak i2] at e
    by_cases j1:j=c
    ·rw [Ab j1] at e
     exact absurd (h.inj hi ha e) i2
    ·rw [Ak j1] at e
     by_cases j2:j=a
     ·rw [Ab j2] at e
      exact absurd (h.inj hi hc e) i1
     ·rw [Ak j2] at e
      exact h.inj hi hj e
theorem yF {b:List Int} {n:Int} (hn:1<=n): ∀(k:Nat) (i h:Int) (mv:List Int),aH b i->Pm n.toNat mv->Pm n.toNat (fZ b n k i h mv).2.2
 |0,_,_,_,_,hm=>hm
 |k+1,i,h,mv,hd,hm=>by
  have r1:=gu hd hn h
  have r2:=gu hd.next hn (hN h)
  rw [fZ]
  refine yF hn k _ _ _ hd.next.next ?_
  have:=Afm hm (a:=(dR b i h n).toNat) (c:=(dR b (dI b i) (hN h) n).toNat) (by omega) (by omega)
  rw [Int.toNat_of_nonneg r1.1,Int.toNat_of_nonneg r2.1] at this
  exact this
theorem GW {b:List Int} {n:Int} (hn:1<=n) (hn2:n<=20): ∀(k:Nat) (i h:Int) (ms:List (List Int)),aH b i->(∀m∈ms,Pm n.toNat m)-> ∀m∈(aE b n k i h ms).2.2,Pm n.toNat m
 |0,_,_,_,_,hm=>hm
 |k+1,i,h,ms,hd,hm=>by
  rw [aE]
  refine GW hn hn2 k _ _ _ (tW hd h) λm hmm=>?_
  rcases Az.1 hmm with h1|h1
  ·exact hm m h1
  ·rw [Ad.1 h1]
   exact yF hn _ _ _ _ hd.next (Pm.id (by omega) (by omega))
theorem Ab0:bg Ab2=true:=by
 refine Gi.2 ⟨by decide,λj hj=>?_⟩
 have hj:j<2:=hj
 match j,hj with
 |0,_=>exact ⟨65,rfl,by decide,by decide,λk hk=>by omega⟩
 |1,_=>exact ⟨66,rfl,by decide,by decide,λk hk=>(by have e:k=0:=(by omega);rw [e];decide)⟩
structure dm (p:PP):Prop where
 valid:Cb p=true
 two:p.2.2.1.length=2
 lo:3<=p.1
 hi:p.1<=5
 short:Gw p
theorem PQ {b:List Int} {i:Int} (hd:aH b i) (h:Int):dm (aD b i h).2.2/\aH b (aD b i h).1:=by
 have hr:=gu hd (show (1:Int)<=3 by decide) h
 obtain ⟨n,hn⟩: ∃n,3+dR b i h 3=n:=⟨_,rfl⟩
 have h2:=SJ b n 2 (dI b i) (hN h) []
 have h3:=GW (b:=b) (n:=n) (by omega) (by omega) 2 (dI b i) (hN h) [] hd.next (λm hm=>by cases hm)
 have h4:=SI n 2 (dI b i) (hN h) [] hd.next
 unfold aD
 rw [hn]
 generalize aE b n 2 (dI b i) (hN h) []=R at h2 h3 h4
 obtain ⟨i',h',ms⟩:=R
 dsimp only at h2 h3 h4⊢
 simp only [Fb,Er] at h2
 refine ⟨⟨Gi.2 ⟨Gi.2 ⟨⟨by show 1<=n;omega,by show n<=20;omega⟩,by show ms.length<=8;omega,λm hm=>?_⟩,Ab0,by show 2=ms.length;omega⟩,h2,by show 3<=n;omega,by show n<=5;omega,⟨by show 2<=4294967296;decide,by show ms.length<=4294967296;omega,λm hm=>?_⟩⟩,h4⟩
 ·have:=h3 m hm
  have h5:=this.1
  exact Gi.2 ⟨by omega,xJ this.2⟩
 ·exact nV (h3 m hm)
noncomputable def tK (p:PP) (s w:List Int):List Int×Bool×Unit:=(Gk p.2.2.1 s w,true,())
noncomputable abbrev Qi:Spec:=Gt (.pair Ix (.pair tL (.pair tL .unit))) (.pair tL (.pair .bool .unit)) true true (λx=>Gw x.1/\Cb x.1=true/\Pm x.1.1.toNat x.2.1/\Ic (List.length x.1.2.2.1:Nat) x.2.2.1=true) (λx=>tK x.1 x.2.1 x.2.2.1)
noncomputable def nN (b:List Int) (i h:Int) (p:PP):Int×Int×List Int:=((Rd b i h 2 8).1,(Rd b i h 2 8).2.1,(tK p (upto p.1.toNat) (Rd b i h 2 8).2.2).1)
noncomputable abbrev Aoa:MSpec:= {ptr:=some (69,3),Ii:= [some 3],ins:= [(false, .Fz tB),(false, .Fz tI),(false, .Fz SW),(false, .Fz tI),(false, .Fz .str),(false, .Fz rH)],Hk:=false,Gz:= [none],outs:= [.Fz tB, .Fz tI, .Fz SW, .Fz tL],fn:= λ_=>none}
noncomputable abbrev yz:MSpec:=cS Aoa (λx=>aH x.1 x.2.1/\Gw (x.2.2.2.1,x.2.2.2.2.1,x.2.2.2.2.2.1,())/\Cb (x.2.2.2.1,x.2.2.2.2.1,x.2.2.2.2.2.1,())=true/\List.length x.2.2.2.2.2.1=2) (λx=>((x.1,(nN x.1 x.2.1 x.2.2.1 (x.2.2.2.1,x.2.2.2.2.1,x.2.2.2.2.2.1,())).1,(nN x.1 x.2.1 x.2.2.1 (x.2.2.2.1,x.2.2.2.2.1,x.2.2.2.2.2.1,())).2.1,(nN x.1 x.2.1 x.2.2.1 (x.2.2.2.1,x.2.2.2.2.1,x.2.2.2.2.2.1,())).2.2,()),()))
theorem XU (g:List (List Int)) (l:Int) (P:List Int->Prop):(Br (decide (l<(0:Int))) (∃(y3:List Int),idx g (IntKind.i64.wrap (IntKind.i64.wrap ((0:Int)-l)-(1:Int)))=some y3/\ ∃(y4:List Int),Fo.fn (y3,())=some y4/\P y4) (∃(y3:List Int),idx g (IntKind.i64.wrap (l-(1:Int)))=some y3/\P y3))=fnW Gb (look [(163,Fo)]) Hy Tryz.f131 (g,l,()) P:=by kernel_rfl
theorem QF (n:Int) (g:List (List Int)) (w:List Int) (P:List Int->Prop):(∃(y4:List Int),Dp.fn (n,())=some y4/\Dm (λ(v5:List Int×Int×PUnit) (k6:List Int×Int×PUnit->Prop)=>Br (decide (v5.2.1<(↑w.length:Int))) (∃(y7:Int),idx w v5.2.1=some y7/\ ∃(y8:List Int),Hy.fn (g,y7,())=some y8/\ ∃(y9:List Int),Jc.fn (v5.1,y8,())=some y9/\k6 (y9,IntKind.i64.wrap (v5.2.1+(1:Int)),())) (P v5.1)) (y4,(0:Int),PUnit.unit))=fnW Gb (look [(96,Dp),(81,Jc),(131,Hy)]) Ln Tryz.f82 (n,g,w,()) P:=by kernel_rfl
theorem Ad0 (p:Int×ByteArray×List (List Int)×Unit) (s w:List Int) (P:(List Int×Bool×Unit)->Prop):(∃(y4:Bool),Ni.fn ((p.1,p.2.1,p.2.2.1,()),s,())=some y4/\Br (!y4) (P (List.take 0 (List.drop 0 []),false,())) (∃(y5:Bool),Qj.fn ((↑p.2.2.1.length:Int),w,())=some y5/\Br (!y5) (P (List.take 0 (List.drop 0 []),false,())) (∃(y6:List Int),Ln.fn (p.1,p.2.2.1,w,())=some y6/\ ∃(y7:List Int),Jc.fn (s,y6,())=some y7/\P (y7,true,()))))=fnW Gb (look [(64,Ni),(80,Qj),(81,Jc),(82,Ln)]) Qi Tryz.f34 (p,s,w,()) P:=by kernel_rfl
abbrev PD:Type:=(List Int×Int×Int×List Int×PUnit)×PUnit
abbrev zV (b:List Int) (i:Int) (h:Int) (n:Int) (str:ByteArray) (g:List (List Int)) (cq:List Int) (y8:PD) (y9:List Int×Bool×PUnit) (y7:List Int):Prop:= ∃(Xp:PD),gM.fn (b,i,h,(2:Int),(8:Int),())=some Xp/\ ∃(aw:List Int×Bool×PUnit),Qi.fn ((n,str,g,()),cq,List.take Xp.1.2.2.2.1.length (List.drop 0 Xp.1.2.2.2.1),())=some aw/\(([(0,0),(0,Xp.1.2.2.2.1.length)]= [(0,0),(0,y8.1.2.2.2.1.length)]/\(n,str,g,aw.1,aw.2.1,aw,n,str,g,n,cq,aw,aw.1,aw.2.1,n,str,g,([]:List Int),Xp.1.2.2.2.1,Xp.1.1,Xp.1.2.1,Xp.1.2.2.1,())=(n,str,g,y9.1,y9.2.1,y9,n,str,g,n,y7,y9,y9.1,y9.2.1,n,str,g,([]:List Int),y8.1.2.2.2.1,y8.1.1,y8.1.2.1,y8.1.2.2.1,PUnit.unit))/\ [(0,0),(0,Xp.1.2.2.2.1.length)]= [(0,0),(0,y8.1.2.2.2.1.length)]/\(n,str,g,aw.1,aw.2.1,aw,n,str,g,n,cq,aw,aw.1,aw.2.1,n,str,g,([]:List Int),Xp.1.2.2.2.1,Xp.1.1,Xp.1.2.1,Xp.1.2.2.1,())=(n,str,g,y9.1,y9.2.1,y9,n,str,g,n,y7,y9,y9.1,y9.2.1,n,str,g,([]:List Int),y8.1.2.2.2.1,y8.1.1,y8.1.2.1,y8.1.2.2.1,PUnit.unit))/\ [(0,0),(0,Xp.1.2.2.2.1.length)]= [(0,0),(0,y8.1.2.2.2.1.length)]/\(n,str,g,aw.1,aw.2.1,aw,n,str,g,n,cq,aw,aw.1,aw.2.1,n,str,g,([]:List Int),Xp.1.2.2.2.1,Xp.1.1,Xp.1.2.1,Xp.1.2.2.1,())=(n,str,g,y9.1,y9.2.1,y9,n,str,g,n,y7,y9,y9.1,y9.2.1,n,str,g,([]:List Int),y8.1.2.2.2.1,y8.1.1,y8.1.2.1,y8.1.2.2.1,PUnit.unit)
theorem Api (b:List Int) (i h n:Int) (str:ByteArray) (g:List (List Int)) (P:((List Int×Int×Int×List Int×Unit)×Unit)->Prop):(∃(y7:List Int),Ub.fn (n,())=some y7/\ ∃(y8:PD),gM.fn (b,i,h,(2:Int),(8:Int),())=some y8/\ ∃(y9:List Int×Bool×PUnit),Qi.fn ((n,str,g,()),y7,List.take y8.1.2.2.2.1.length (List.drop 0 y8.1.2.2.2.1),())=some y9/\P ((y8.1.1,y8.1.2.1,y8.1.2.2.1,y9.1,()),())/\(∃(cq:List Int),Ub.fn (n,())=some cq/\(zV b i h n str g cq y8 y9 y7))/\(∃(cq:List Int),Ub.fn (n,())=some cq/\(zV b i h n str g cq y8 y9 y7))/\ ∃(cq:List Int),Ub.fn (n,())=some cq/\((zV b i h n str g cq y8 y9 y7))/\(zV b i h n str g cq y8 y9 y7))=fnMW (PF [dY+4]) (look [(32,gM),(42,Ub),(34,Qi)]) yz Tryz.f12 (b,i,h,n,str,g,()) P:=by kernel_rfl
theorem VP (g:List (List Int)) (l:Int) (h:Hq (List.length g) l/\List.length g<=8/\ ∀p∈g,Jy p=true):fnW Gb (look [(163,Fo)]) Hy Tryz.f131 (g,l,()) (λ(z:List Int)=>z=Ax g l):=by
 obtain ⟨hl,h8,hp⟩:=h
 refine Eq.mp (XU g l _) ?_
 obtain ⟨k,hk,rfl|rfl⟩:=Pv hl
 ·refine Br.dec (λhn=>by omega) λ_=>?_
  rw [Df (by omega) (by omega),show (k:Int)+1-1=(k:Int) by omega]
  exact ⟨_,Co hk,(Px hk).symm⟩
 ·refine Br.dec (λ_=>?_) λhn=>by omega
  rw [Df (n:=0- -((k:Int)+1)) (by omega) (by omega),Df (by omega) (by omega),show (0:Int)- -((k:Int)+1)-1=(k:Int) by omega]
  have:=dA (hp _ (Al hk))
  exact ⟨_,Co hk,_,Ab ⟨this.len,this.row⟩,(Pw hk).symm⟩
theorem wS:Sound Tryz.prog 131 Hy:=
 Sound.Gt Dt (Av Zp Bp) mixed Tryz.func131 (by kernel_rfl) (by kernel_rfl) λx h=>VP x.1 x.2.1 h
theorem NV (n:Int) (g:List (List Int)) (w:List Int) (h: ∃p:PP,Cb p=true/\p.1=n/\p.2.2.1=g/\Ic (List.length g:Nat) w=true):fnW Gb (look [(96,Dp),(81,Jc),(131,Hy)]) Ln Tryz.f82 (n,g,w,()) (λ(z:List Int)=>z=Gk g (upto n.toNat) w):=by
 obtain ⟨p,hv,rfl,rfl,hw⟩:=h
 have hV:=valid hv
 have hn:=hV.n
 have hf:=hV.nj
 obtain ⟨w1,w2⟩:=Mi hw
 refine Eq.mp (QF p.1 p.2.2.1 w _) ⟨upto p.1.toNat,Ab ⟨by show 0<=p.1;omega,by show p.1<=20;omega⟩,?_⟩
 refine Bw w.length (λv=>v.2.1) (λj v=>v.1=Gk p.2.2.1 (upto p.1.toNat) (w.take j)) rfl rfl ?_
 rintro j ⟨q,i,⟨⟩⟩ K hj hi hR hK
 dsimp only at hi hR⊢
 subst hi hR
 have hq:=iu hV (w.take j) _ (λl hl=>w2 l (En hl)) (Pm.id (n:=p.1.toNat) (by omega) (by omega))
 refine Br.dec (λhl=>?_) λhl=>?_
 ·have hl:j<w.length:=by omega
  have m5:=w2 _ (Al hl)
  have p7:=Yk hV m5
  refine ⟨_,Co hl,_,Ab ⟨m5,hf.2,hV.perm⟩,_,Ab ⟨OA hq,ug hq p7⟩,?_⟩
  rw [Bm (by omega)]
  exact hK hl _ rfl (su hl).symm
 ·have:j=w.length:=by omega
  subst this
  rw [Ay]
theorem uY:Sound Tryz.prog 82 Ln:=
 Sound.Gt Dt (Av Wv (Av Rh (Av wS Bp))) mixed Tryz.func82 (by kernel_rfl) (by kernel_rfl) λx h=>NV x.1 x.2.1 x.2.2.1 h
theorem Aba (p:PP) (s w:List Int) (h:Gw p/\Cb p=true/\Pm p.1.toNat s/\Ic (List.length p.2.2.1:Nat) w=true):fnW Gb (look [(64,Ni),(80,Qj),(81,Jc),(82,Ln)]) Qi Tryz.f34 (p,s,w,()) (λ(z:List Int×Bool×Unit)=>z=tK p s w):=by
 obtain ⟨hp,hv,hs,hw⟩:=h
 have hV:=valid hv
 have hn:=hV.n
 have hf:=hV.nj
 obtain ⟨w1,w2⟩:=Mi hw
 have RL:=Pm.id (n:=p.1.toNat) (by omega) (by omega)
 have hq:=iu hV w _ w2 RL
 refine Eq.mp (Ad0 p s w _) ⟨true,(Ab ⟨hp,nV hs⟩).trans (Fq some (Bc.2 ⟨hv,AN hV hs⟩)),λhc=>(by cases hc),λ_=>⟨true,(Ab ⟨by show w.length<=4294967296;omega,by show (0:Int)<=((p.2.2.1.length:Nat):Int);omega,by show ((p.2.2.1.length:Nat):Int)<=4294967296;omega⟩).trans (Fq some hw),λhc=>(by cases hc),λ_=>⟨_,Ab ⟨p,hv,rfl,rfl,hw⟩,_,Ab ⟨OA hs,ug hs hq⟩,?_⟩⟩⟩
 show (Af s (Gk p.2.2.1 (upto p.1.toNat) w),true,())=tK p s w
 rw [pY hV hs w _ w2 RL,comp_id hs]
 rfl
theorem o7:Sound Tryz.prog 34 Qi:=
 Sound.Gt Dt (Av Wy (Av uR (Av Rh (Av uY Bp)))) mixed Tryz.func34 (by kernel_rfl) (by kernel_rfl) λx h=>Aba x.1 x.2.1 x.2.2.1 h
theorem Akm {b:List Int} {i m:Int} (hd:aH b i) (h:Int) (hm:1<=m/\m<=8):qC (dV m) (Zz b i h m).2.2=true:=by
 have hr:=gu hd hm.1 h
 have hc:dV m=m:=Ak (by omega)
 rw [hc]
 refine Dl ?_
 unfold Zz
 dsimp only
 split<;>omega
theorem Acy {b:List Int} {m:Int} (hm:1<=m/\m<=8): ∀(k:Nat) (i h:Int) (w:List Int),aH b i->(∀y∈w,qC (dV m) y=true)->
  aH b (wGo b m k i h w).1/\(wGo b m k i h w).2.2.length=k+w.length/\ ∀y∈(wGo b m k i h w).2.2,qC (dV m) y=true
 |0,i,h,w,hd,hw=>⟨hd,by rw [wGo];exact (Bo _).symm,hw⟩
 |k+1,i,h,w,hd,hw=>by
  obtain ⟨h1,h2,h3⟩:=Acy hm k (Zz b i h m).1 (Zz b i h m).2.1 (w++ [(Zz b i h m).2.2]) (SY hd h m) (λy hy=>by
   rcases Az.1 hy with h4|h4
   ·exact hw y h4
   ·rw [Ad.1 h4];exact Akm hd h hm)
  rw [Au,Cg] at h2
  rw [wGo]
  exact ⟨h1,by omega,h3⟩
theorem PR {b:List Int} {i m k:Int} (hd:aH b i) (h:Int) (hm:1<=m/\m<=8) (hk:0<=k/\k<=20):Ic m (Rd b i h m k).2.2=true/\aH b (Rd b i h m k).1:=by
 have hr:=gu hd (show 1<=k+1 by omega) h
 obtain ⟨h1,h2,h3⟩:=Acy hm (dR b i h (k+1)).toNat (dI b i) (hN h) [] hd.next (λy hy=>by cases hy)
 refine ⟨Bc.2 ⟨Dl ?_,?_⟩,h1⟩
 ·show (wGo b m (dR b i h (k+1)).toNat (dI b i) (hN h) []).2.2.length<=200
  rw [h2,Fb]
  omega
 ·rw [Es]
  refine List.any_eq_false.2 λy hy=>?_
  rw [h3 y hy]
  decide
theorem Aou (b:List Int) (i h n:Int) (str:ByteArray) (g:List (List Int)) (hd:aH b i/\Gw (n,str,g,())/\Cb (n,str,g,())=true/\g.length=2):fnMW (PF [dY+4]) (look [(32,gM),(42,Ub),(34,Qi)]) yz Tryz.f12 (b,i,h,n,str,g,()) (λ(z:(List Int×Int×Int×List Int×Unit)×Unit)=>z=((b,(nN b i h (n,str,g,())).1,(nN b i h (n,str,g,())).2.1,(nN b i h (n,str,g,())).2.2,()),())):=by
 obtain ⟨hd,hp,hv,h2⟩:=hd
 have hV:=valid hv
 have hn:1<=n/\n<=20:=hV.n
 obtain ⟨hw,KA⟩:=PR hd h (m:=2) (k:=8) (by decide) (by decide)
 have hS:Ub.fn (n,())=some (upto n.toNat):=Ab hn
 have RL:Pm n.toNat (upto n.toNat):=Pm.id (by omega) (by omega)
 have hW:gM.fn (b,i,h,2,8,())=some ((b,(Rd b i h 2 8).1,(Rd b i h 2 8).2.1,(Rd b i h 2 8).2.2,()),()):=Ab ⟨hd,by show (1:Int)<=2/\(2:Int)<=8;decide,by show (0:Int)<=8;decide,by show (8:Int)<=20;decide⟩
 have hA:Qi.fn ((n,str,g,()),upto n.toNat,List.take (Rd b i h 2 8).2.2.length (List.drop 0 (Rd b i h 2 8).2.2),())=some (tK (n,str,g,()) (upto n.toNat) (Rd b i h 2 8).2.2):=by
  rw [Dk]
  exact Ab ⟨hp,hv,RL,by show Ic (g.length:Nat) _=true;rw [h2];exact hw⟩
 refine Eq.mp (Api b i h n str g _) ⟨_,hS,_,hW,_,hA,?_⟩
 repeat' (first|exact ⟨rfl,rfl⟩|exact rfl|refine ⟨_,hS,?_⟩|refine ⟨_,hW,?_⟩|refine ⟨_,hA,?_⟩|refine ⟨?_,?_⟩)
theorem WQ:Cp Tryz.prog 12 yz:=
 Cp.cS (PH [dY+4]) (Fu yC (Av BP (Av o7 Bp))) mixed Tryz.func12 (by kernel_rfl) (by kernel_rfl) λx h=>Aou x.1 x.2.1 x.2.2.1 x.2.2.2.1 x.2.2.2.2.1 x.2.2.2.2.2.1 h
structure SZ (n:Int) (o:List Int):Prop where
 asc:o.Pairwise (· < ·)
 row: ∀y∈o,0<=y/\y<n
theorem SZ.more {j:Int} {o:List Int} (h:SZ j o):SZ (j+1) o:=⟨h.asc,λy hy=>by have:=h.row y hy;omega⟩
theorem SZ.add {j:Int} {o:List Int} (h:SZ j o) (h0:0<=j):SZ (j+1) (o++ [j]):=by
 refine ⟨List.pairwise_append.2 ⟨h.asc,by simp,λa ha b hb=>?_⟩,λy hy=>?_⟩
 ·rw [Ad.1 hb];exact (h.row a ha).2
 ·rcases Az.1 hy with h1|h1
  ·have:=h.row y h1;omega
  ·rw [Ad.1 h1];omega
theorem SZ.le {j n:Int} {o:List Int} (h:SZ j o) (hj:j<=n):SZ n o:=⟨h.asc,λy hy=>by have:=h.row y hy;omega⟩
theorem Ach {b:List Int} {n:Int} : ∀(f:Nat) (j i h:Int) (o:List Int),aH b i->0<=j->j<=n->o.length<=3->SZ j o->
  aH b (YE b n f j i h o).1/\(YE b n f j i h o).2.2.length<=3/\SZ n (YE b n f j i h o).2.2
 |0,j,i,h,o,hd,_,hj,ho,ha=>⟨hd,ho,ha.le hj⟩
 |f+1,j,i,h,o,hd,h0,hj,ho,ha=>by
  rw [YE]
  split
  ·rename_i hc
   refine Ach f (j+1) _ _ _ hd.next (by omega) (by omega) ?_ ?_
   ·split
    ·rw [Au,Cg];omega
    ·exact ho
   ·split
    ·exact ha.add h0
    ·exact ha.more
  ·exact ⟨hd,ho,ha.le hj⟩
theorem Ako {b:List Int} {i n:Int} (hd:aH b i) (h:Int) (hn:1<=n):aH b (Vk b i h n).1/\(Vk b i h n).2.2.length<=3/\Pk n (Vk b i h n).2.2=true:=by
 have Aiz:SZ 0 ([]:List Int):=⟨List.Pairwise.nil,λy hy=>by cases hy⟩
 obtain ⟨h1,h2,h3⟩:=Ach (b:=b) (n:=n) n.toNat 0 i h [] hd (by omega) (by omega) (by simp) Aiz
 unfold Vk
 generalize YE b n n.toNat 0 i h []=r at h1 h2 h3
 have fin: ∀o:List Int,SZ n o->0<o.length->Pk n o=true:= λo ho hl=>Gi.2 ⟨hl,λj hj _=>by
  have:=ho.row _ (Al hj)
  exact ⟨this.1,by omega,λh0=>Ds.1 ho.asc (j-1) j (by omega) hj (by omega)⟩⟩
 unfold ZE
 split
 ·rename_i hz
  have hr:=gu h1 hn r.2.1
  have An1:r.2.2= []:=List.length_eq_zero_iff.1 hz
  dsimp only
  rw [An1]
  refine ⟨h1.next,by show 1<=3;decide,fin _ ⟨by simp,λy hy=>?_⟩ (by simp)⟩
  rw [Ad.1 hy]
  exact hr
 ·rename_i hz
  exact ⟨h1,h2,fin _ h3 (by omega)⟩
theorem UQ {n:Nat} {l:Int} (h:Hq n l):l∈Ca n:=by
 obtain ⟨h0,h1,h2⟩:=h
 by_cases hp:0<l
 ·have:=(Vj (n:=n) (k:=(l-1).toNat) (by omega)).1
  rwa [show ((l-1).toNat:Int)+1=l by omega] at this
 ·have:=(Vj (n:=n) (k:=(-l-1).toNat) (by omega)).2
  rwa [show-(((-l-1).toNat:Int)+1)=l by omega] at this
theorem ss {p:PP} (hw:Gl p=true): ∀(w s:List Int),(∀l∈w,Hq (List.length p.2.2.1) l)->s∈Ba p->Gk p.2.2.1 s w∈Ba p
 | [],s,_,hs=>hs
 |l::w,s,hl,hs=>ss hw w _ (λl' h=>hl l' (Aq _ h)) ((bt hw).next s hs l (UQ (hl l (by simp))))
theorem dm.whole {p:PP} (hp:dm p):Gl p=true:=JW hp.valid hp.hi
theorem Akn {p:PP} (hp:dm p) {b:List Int} {i:Int} (hd:aH b i) (h:Int):aH b (nN b i h p).1/\(nN b i h p).2.2∈Ba p:=by
 obtain ⟨hw,KA⟩:=PR hd h (m:=2) (k:=8) (by decide) (by decide)
 have hw:Ic ((2:Nat):Int) (Rd b i h 2 8).2.2=true:=hw
 have h2:=(Mi hw).2
 rw [<-hp.two] at h2
 exact ⟨KA,ss hp.whole _ _ h2 (Md hp.valid).2⟩
theorem XE {p:PP} (hp:dm p) {b:List Int} {i:Int} (hd:aH b i) (h:Int):aH b (Vk b i h p.1).1/\short (Vk b i h p.1).2.2/\Kl p (Vk b i h p.1).2.2=true/\eE p (Iv p (Vk b i h p.1).2.2)=true:=by
 have RP:=hp.lo
 obtain ⟨h1,h2,h3⟩:=Ako hd h (n:=p.1) (by omega)
 have h4:=VQ hp.valid hp.hi h3 h2
 exact ⟨h1,by unfold short;omega,h4,EE h4⟩
structure sj (p:PP) (ts:List TT):Prop where
 set:tR p ts=true
 nj:ts.length<=2
 short:Afi ts
 valid: ∀t∈ts,eE p t=true
theorem sj.add {p:PP} (hp:dm p) {ts:List TT} (h:sj p ts) {t:TT} (ht:eE p t=true):tR p (ts++ [t])=true:=by
 have:=h.nj
 refine Bc.2 ⟨Bc.2 ⟨hp.valid,Dl (by rw [Au,Cg];omega)⟩,Bf.2 λt' vK=>?_⟩
 rcases Az.1 vK with h4|h4
 ·exact h.valid t' h4
 ·rw [Ad.1 h4];exact ht
section
variable {p:PP} {ts:List TT} {s:List Int}
theorem dm.found (hp:dm p) (hs:s∈Ba p):Zk p s=true:=TW.2 ⟨hp.whole,hs⟩
theorem dm.Alo (hp:dm p) (hs:s∈Ba p):j6 p s=Lr (Ba p) (Hj p) s:=Ab (hp.found hs)
end
section
variable {α β:Type}
theorem sum_add (f g:α->Nat): ∀L:List α,(L.map λx=>f x+g x).sum=(L.map f).sum+(L.map g).sum
 | []=>rfl
 |x::L=>by
  simp only [Bu,Xe]
  rw [sum_add f g L]
  omega
theorem IW: ∀L:List α,(L.map λ_=>(0:Nat)).sum=0
 | []=>rfl
 |_::L=>by
  simp only [Bu,Xe]
  rw [IW L]
theorem pR {f:α->Nat} {c:Nat} : ∀L:List α,(∀x∈L,f x=c)->(L.map f).sum=L.length*c
 | [],_=>by simp
 |x::L,h=>by
  simp only [Bu,Xe,Aw]
  rw [h x (by simp),pR L λy hy=>h y (Aq _ hy),Nat.succ_mul]
  omega
theorem sF (P:α->Bool) (x:α) (L:List α):(x::L).countP P=(if P x=true then 1 else 0)+L.countP P:=by
 rw [eU]
 omega
theorem qb (R:α->β->Bool): ∀(L:List α) (M:List β),(L.map λx=>M.countP (R x)).sum=(M.map λy=>L.countP λx=>R x y).sum
 | [],M=>by
  simp only [List.map_nil,List.sum_nil,List.countP_nil]
  exact (IW M).symm
 |x::L,M=>by
  simp only [Bu,Xe]
  rw [qb R L M,show (λy=>(x::L).countP λz=>R z y)= λy=>(if R x y=true then 1 else 0)+L.countP λz=>R z y from funext λy=>sF _ _ _,
   sum_add,SU (R:=R x) M]
where SU {R:β->Bool} : ∀M:List β,(M.map λy=>if R y=true then 1 else 0).sum=M.countP R
 | []=>rfl
 |y::M=>by
  rw [Bu,Xe,SU M,sF]
theorem sE [DecidableEq β] {L:List α} {M:List β} {P:α->Bool} {Q:β->Bool} (hn:L.Nodup) (f:α->β) (h: ∀x∈L,P x=true->f x∈M/\Q (f x)=true)
  (inj: ∀x∈L,P x=true-> ∀y∈L,P y=true->f x=f y->x=y):L.countP P<=M.countP Q:=by
 rw [List.countP_eq_length_filter,List.countP_eq_length_filter]
 have:=Ry (l1:=(L.filter P).map f) (l2:=M.filter Q) (List.pairwise_map.2 ((hn.filter P).imp_of_mem λhx hy Iz e=>Iz
  (inj _ (Bt.1 hx).1 (Bt.1 hx).2 _ (Bt.1 hy).1 (Bt.1 hy).2 e))) λy hy=>by
   obtain ⟨x,hx,rfl⟩:=Bg.1 hy
   obtain ⟨h1,h2⟩:=Bt.1 hx
   exact Bt.2 (h x h1 h2)
 rwa [Ch] at this
theorem TM {L:List α} {P:α->Bool} (hn:L.Nodup) {a:α} (ha:a∈L) (h: ∀x∈L,P x=true↔x=a):L.countP P=1:=by
 classical
 rw [List.countP_congr (q:= λx=>decide (x=a)) λx hx=>by rw [h x hx];simp]
 have h1:L.countP (λx=>decide (x=a))=L.count a:=List.countP_congr λx _=>by simp
 rw [h1]
 have h2:=(List.nodup_iff_count.1 hn) a
 have h3:=List.count_pos_iff.2 ha
 omega
end
section
variable {p:PP}
theorem Ac0 (hw:Gl p=true) {x y:List Int} (hx:x∈Ba p) (hy:y∈Ba p):Af y (Bb x)∈Ba p:=
 (fh hw (Lr (Ba p) (Hj p) x).toNat x y hx hy (by have:=(We hw).nn x hx;omega)).1
theorem Akd (hw:Gl p=true) {x y:List Int} (hx:x∈Ba p) (hy:y∈Ba p):Af y x∈Ba p:=by
 have:=Ac0 hw (Ae1 hw hx).1 hy
 rwa [inv_inv (Wz (Fl hw).1 hx)] at this
theorem oh (hv:Cb p=true):(Ba p).Nodup:=(bZ hv).nodup
theorem yf {n:Nat} {x y z:List Int} (hx:Pm n x) (hy:Pm n y) (hz:Pm n z) (e:Af x z=Af y z):x=y:=by
 have:Af (Af x z) (Bb z)=Af (Af y z) (Bb z):=Fq (λa=>Af a (Bb z)) e
 rwa [Gd hx hz hz.inv,Gd hy hz hz.inv,Wd hz,comp_id hx,comp_id hy] at this
theorem ya (hw:Gl p=true) {t:List Int} (ht:Di p t=true) {g:List Int} (hg:g∈Ba p):
  (Ba p).countP (λs=>decide (Bv s t=Bv g t))=(Ba p).countP λs=>decide (Bv s t=t):=by
 have hv:=(Fl hw).1
 have hpg:=Wz hv hg
 have e1: ∀s∈Ba p,Bv (Af s g) t=Af (Bv s t) g:= λs hs=>Jz (aX hv hs ht)
 have RL:Bv (upto p.1.toNat) t=t:=bh (Vs ht)
 refine Nat.le_antisymm (sE (oh hv) (λs=>Af s (Bb g)) (λs hs h=>?_) λx hx _ y hy _ e=>?_)
  (sE (oh hv) (λs=>Af s g) (λs hs h=>?_) λx hx _ y hy _ e=>?_)
 ·refine ⟨Ac0 hw hg hs,Dl ?_⟩
  have h:=He h
  rw [Jz (aX hv hs ht),h,<-Jz (aX hv hg ht),Wd hpg,RL]
 ·exact yf (Wz hv hx) (Wz hv hy) hpg.inv e
 ·refine ⟨Akd hw hg hs,Dl ?_⟩
  have h:=He h
  rw [e1 s hs,h]
  have:=e1 _ (Md hv).2
  rw [id_comp hpg,RL] at this
  exact this.symm
 ·exact yf (Wz hv hx) (Wz hv hy) hpg e
theorem Afd (hw:Gl p=true) {t:List Int} (ht:Di p t=true): ∀x∈La p t,∃s∈Ba p,x=Bv s t:=by
 have hv:=(Fl hw).1
 obtain ⟨t1,t2⟩:=Iy ht
 exact (yW hv t1 t2 (λx=> ∃s∈Ba p,x=Bv s t) ⟨_,(Md hv).2,(bh (Vs ht)).symm⟩ λx ⟨s,hs,hx⟩ l hl=>by
  refine ⟨_,(bt hw).next s hs l hl,?_⟩
  rw [hx,Jz (aX hv hs ht)]).1
theorem ud {t:List Int} (ht:Di p t=true):(La p t).Nodup:=(px ht).ok.nodup
theorem NH (hw:Gl p=true) {t:List Int} (ht:Di p t=true) {g:List Int} (hg:g∈Ba p):
  (La p t).length*(Ba p).countP (λs=>decide (Bv s t=Bv g t))=(Ba p).length:=by
 have hv:=(Fl hw).1
 have h:=qb (λ(s q:List Int)=>decide (Bv s t=q)) (Ba p) (La p t)
 rw [pR (c:=1) (Ba p) λs hs=>TM (ud ht) (Abl hw ht s hs) λx _=>by simp [eq_comm]] at h
 rw [pR (c:=(Ba p).countP λs=>decide (Bv s t=t)) (La p t) λx hx=>by
  obtain ⟨s,hs,rfl⟩:=Afd hw ht x hx
  exact ya hw ht hs] at h
 rw [ya hw ht hg]
 omega
end
theorem sub_eq {α:Type} [DecidableEq α] {l1 l2:List α} (hn:l1.Nodup) (hs: ∀x∈l1,x∈l2) (hl:l2.length<=l1.length): ∀x∈l2,x∈l1:= λx hx=>by
 refine Bk λh=>?_
 have:=Ry (l1:=x::l1) (l2:=l2) (Ce.2 ⟨h,hn⟩) λy hy=>by
  rcases Be.1 hy with rfl|hy
  ·exact hx
  ·exact hs y hy
 rw [Aw] at this
 omega
theorem SG: ∀(k:Nat) (R x:List Int),R.length=k->x.Perm R->x∈lex k R
 |0,R,x,hl,h=>by
  have h1:=h.length_eq
  have:x= []:=List.length_eq_zero_iff.1 (by omega)
  rw [this,lex]
  simp
 |k+1,R,[],hl,h=>by have:=h.length_eq;simp at this;omega
 |k+1,R,v::y,hl,h=>by
  have hv:v∈R:=h.mem_iff.1 (by simp)
  have h1:y.Perm (R.erase v):=(List.perm_cons v).1 (h.trans (List.perm_cons_erase hv))
  rw [lex]
  exact Gf.2 ⟨v,hv,Bg.2 ⟨y,SG k _ _ (by rw [Xd hv];omega) h1,rfl⟩⟩
theorem HW {n:Nat} {x:List Int} (h:Pm n x):x.Nodup:=by
 refine Ds.2 λi j hi hj jZ e=>?_
 have h1:=h.1
 have:=h.inj (i:=i) (j:=j) (by omega) (by omega) (by unfold ap;rw [Is hi,Is hj,e])
 omega
theorem Abm {n:Nat} {x:List Int} (h:Pm n x) {v:Int} (hv:v∈x):0<=v/\v<n:=by
 obtain ⟨i,hi,rfl⟩:=Bh.1 hv
 have h1:=h.Xm (i:=i) (by have:=h.1;omega)
 rw [Is hi] at h1
 omega
theorem Afe {n:Nat} {x:List Int} (h:Pm n x):x.Perm (upto n):=by
 refine (List.perm_ext_iff_of_nodup (HW h) (mE n)).2 λv=>⟨λhv=>?_,λhv=>?_⟩
 ·exact Lt.2 (Abm h hv)
 ·exact sub_eq (HW h) (λy hy=>Lt.2 (Abm h hy)) (by rw [Mu,h.1];exact Ao _) v hv
theorem Ak5 {n:Nat} {x:List Int} (h:Pm n x):x∈lex n (upto n):=SG _ _ _ (Mu n) (Afe h)
theorem Akb {p:PP} (hv:Cb p=true) (h5:p.1<=5):(Ba p).length<=120:=by
 have h1:=Ry (l2:=lex p.1.toNat (upto p.1.toNat)) (oh hv) λx hx=>Ak5 (Wz hv hx)
 rw [SC _ _ (Mu _)] at h1
 have h2: ∀k,k<=5->QY k<=120:=by decide
 have:=h2 p.1.toNat (by omega)
 omega
section
variable {n:Nat} {x y q r:List Int}
end
section
variable {p:PP}
end
def z9 (b:List Int):Prop:=b.length<=1048576/\ ∀y∈b,0<=y/\y<256
noncomputable abbrev ON:Spec:=Gt (.pair tB .unit) .bool false true (λx=>z9 x.1) (λ_=>true)
theorem Ara {code:List Int} (h:z9 code) (hb: ¬(code.length:Int)>4096):aH code 0:=⟨by omega,h.2,Sf _,by omega⟩
noncomputable def aV (p:PP) (t s:List Int):List Int:=if (Di p t&&Hm p.1 s)=true then Bv s t else []
noncomputable def tP (p:PP) (t:List Int):Int:=if Kl p t=true then ((La p t).length:Int) else-1
noncomputable def tQ (p:PP) (t q:List Int):Int:=if (Kl p t&&Sn p t q)=true then eD p t q else-1
noncomputable def tN (p:PP) (t q w:List Int):List Int×Bool×Unit:=if (Sn p t q&&Ic (List.length p.2.2.1:Nat) w)=true then (Gk p.2.2.1 q w,true,()) else ([],false,())
noncomputable abbrev Rf:Spec:=Gt (.pair Ix (.pair tL (.pair tL .unit))) tL false true (λx=>Gw x.1/\short x.2.1/\short x.2.2.1) (λx=>aV x.1 x.2.1 x.2.2.1)
noncomputable abbrev c9:Spec:=Gt (.pair Ix (.pair tL .unit)) tI false true (λx=>Gw x.1/\short x.2.1) (λx=>tP x.1 x.2.1)
noncomputable abbrev ca:Spec:=Gt (.pair Ix (.pair tL (.pair tL .unit))) tI false true (λx=>Gw x.1/\short x.2.1/\short x.2.2.1) (λx=>tQ x.1 x.2.1 x.2.2.1)
noncomputable abbrev c8:Spec:=Gt (.pair Ix (.pair tL (.pair tL (.pair tL .unit)))) (.pair tL (.pair .bool .unit)) true true (λx=>Gw x.1/\short x.2.1/\short x.2.2.1/\short x.2.2.2.1) (λx=>tN x.1 x.2.1 x.2.2.1 x.2.2.2.1)
theorem JR (p:Int×ByteArray×List (List Int)×Unit) (t s:List Int) (P:List Int->Prop):(∃(y4:Bool),Fy.fn ((p.1,p.2.1,p.2.2.1,()),t,())=some y4/\Br (!y4) (P (List.take 0 (List.drop 0 []))) (∃(y5:Bool),Ni.fn ((p.1,p.2.1,p.2.2.1,()),s,())=some y5/\Br (!y5) (P (List.take 0 (List.drop 0 []))) (∃(y6:List Int),bq.fn (t,s,())=some y6/\P y6)))=fnW Gb (look [(86,Fy),(64,Ni),(87,bq)]) Rf Tryz.f37 (p,t,s,()) P:=by kernel_rfl
theorem JM (p:Int×ByteArray×List (List Int)×Unit) (t s:List Int) (P:List Int->Prop):(∃(y4:Bool),Fy.fn ((p.1,p.2.1,p.2.2.1,()),t,())=some y4/\Br (!y4) (P (List.take 0 (List.drop 0 []))) (∃(y5:Bool),Yr.fn ((p.1,p.2.1,p.2.2.1,()),s,())=some y5/\Br (!y5) (P (List.take 0 (List.drop 0 []))) (∃(y6:List Int),Nk.fn (s,t,())=some y6/\P y6)))=fnW Gb (look [(77,Fy),(78,Yr),(79,Nk)]) Rf Tryz.f33 (p,t,s,()) P:=by kernel_rfl
theorem CS (p:Int×ByteArray×List (List Int)×Unit) (t:List Int) (P:Int->Prop):(∃(y3:(List (List Int)×List Int×Bool×PUnit)×PUnit),Yv.fn (p.1,p.2.1,p.2.2.1,t,())=some y3/\Br (!y3.1.2.2.1) (P (-1:Int)) (∃(y4:Int),Un.fn (List.take y3.1.1.length (List.drop 0 y3.1.1),())=some y4/\P y4))=fnW Vb (look [(90,Yv),(91,Un)]) c9 Tryz.f39 (p,t,()) P:=by kernel_rfl
theorem CT (p:Int×ByteArray×List (List Int)×Unit) (t q:List Int) (P:Int->Prop):(∃(y4:Bool),Oj.fn ((p.1,p.2.1,p.2.2.1,()),t,q,())=some y4/\Br (!y4) (P (-1:Int)) (∃(y5:(List (List Int)×List Int×Bool×PUnit)×PUnit),Oc.fn (p.1,p.2.1,p.2.2.1,t,())=some y5/\ ∃(y6:Int),bm.fn (List.take y5.1.1.length (List.drop 0 y5.1.1),q,())=some y6/\Br (!y5.1.2.2.1) (P (-1:Int)) (Br (decide (y6<(0:Int))) (P (-1:Int)) (((0:Int)<=y6/\y6<(↑y5.1.2.1.length:Int))/\ ∃(y7:Int),y5.1.2.1[0+y6.toNat]?=some y7/\P y7))))=fnW Vb (look [(36,Oj),(88,Oc),(89,bm)]) ca Tryz.f38 (p,t,q,()) P:=by kernel_rfl
theorem CR (p:Int×ByteArray×List (List Int)×Unit) (t q w:List Int) (P:(List Int×Bool×Unit)->Prop):(∃(y5:Bool),Oj.fn ((p.1,p.2.1,p.2.2.1,()),t,q,())=some y5/\Br (!y5) (P (List.take 0 (List.drop 0 []),false,())) (∃(y6:Bool),bo.fn ((p.1,p.2.1,p.2.2.1,()),w,())=some y6/\Br (!y6) (P (List.take 0 (List.drop 0 []),false,())) (∃(y7:List Int),Ln.fn (p.1,p.2.2.1,w,())=some y7/\ ∃(y8:List Int),Nk.fn (y7,q,())=some y8/\P (y8,true,()))))=fnW Gb (look [(36,Oj),(83,bo),(84,Ln),(79,Nk)]) c8 Tryz.f35 (p,t,q,w,()) P:=by kernel_rfl
theorem ly {p:PP} {t s:List Int} (ht:Di p t=true) (hs:Hm p.1 s=true):Lq s.length t:= λy hy=>by
 have h1:=(Iy ht).2 y hy
 have h2:=(Gi.1 hs).1
 omega
theorem HR (p:PP) (t s:List Int) (h:Gw p/\short t/\short s):fnW Gb (look [(86,Fy),(64,Ni),(87,bq)]) Rf Tryz.f37 (p,t,s,()) (λ(z:List Int)=>z=aV p t s):=by
 refine Eq.mp (JR p t s _) ⟨_,Ab ⟨h.1,h.2.1⟩,?_⟩
 unfold aV
 show Br (!Di p t) _ _
 refine Br.of (λhb=>?_) λhb=>?_
 ·rw [Ak (λhh=>Ew hb (Bc.1 hh).1)]
  rfl
 ·have hb:=El hb
  have hv:=(Nv.1 hb).1
  refine ⟨_,Ab ⟨h.1,h.2.2⟩,?_⟩
  show Br (!(Cb p&&Hm p.1 s)) _ _
  rw [hv,Pd]
  refine Br.of (λhc=>?_) λhc=>?_
  ·rw [Ak (λhh=>Ew hc (Bc.1 hh).2)]
   rfl
  ·have hc:=El hc
   rw [Ab (Bc.2 ⟨hb,hc⟩)]
   exact ⟨_,Ab ⟨h.2.1,ly hb hc⟩,rfl⟩
theorem rG:Sound Tryz.prog 37 Rf:=
 Sound.Gt Dt (Av og (Av Wy (Av wQ Bp))) mixed Tryz.func37 (by kernel_rfl) (by kernel_rfl) λx h=>HR x.1 x.2.1 x.2.2.1 h
theorem HM (p:PP) (t s:List Int) (h:Gw p/\short t/\short s):fnW Gb (look [(77,Fy),(78,Yr),(79,Nk)]) Rf Tryz.f33 (p,t,s,()) (λ(z:List Int)=>z=aV p t s):=by
 refine Eq.mp (JM p t s _) ⟨_,Ab ⟨h.1,h.2.1⟩,?_⟩
 unfold aV
 show Br (!Di p t) _ _
 refine Br.of (λhb=>?_) λhb=>?_
 ·rw [Ak (λhh=>Ew hb (Bc.1 hh).1)]
  rfl
 ·have hb:=El hb
  refine ⟨_,Ab h.2.2,?_⟩
  show Br (!Hm p.1 s) _ _
  refine Br.of (λhc=>?_) λhc=>?_
  ·rw [Ak (λhh=>Ew hc (Bc.1 hh).2)]
   rfl
  ·have hc:=El hc
   rw [Ab (Bc.2 ⟨hb,hc⟩)]
   exact ⟨_,Ab ⟨h.2.1,ly hb hc⟩,rfl⟩
theorem rz:Sound Tryz.prog 33 Rf:=
 Sound.Gt Dt (Av Wx (Av mA (Av dF Bp))) mixed Tryz.func33 (by kernel_rfl) (by kernel_rfl) λx h=>HM x.1 x.2.1 x.2.2.1 h
theorem lS {p:PP} {t:List Int} (h:Kl p t=true):(Iv p t).2.1=La p t/\(Iv p t).2.2.1=mf p t:=by
 unfold Iv
 rw [Ab h]
 exact ⟨rfl,rfl⟩
theorem AD (p:PP) (t:List Int) (h:Gw p/\short t):fnW Vb (look [(90,Yv),(91,Un)]) c9 Tryz.f39 (p,t,()) (λ(z:Int)=>z=tP p t):=by
 refine Eq.mp (CS p t _) ⟨_,Ab h,?_⟩
 unfold tP
 show Br (!Kl p t) _ _
 refine Br.of (λhb=>by rw [Ak (Ew hb)]) λhb=>?_
 have hb:=El hb
 rw [Ab hb]
 refine ⟨_,Ab trivial,?_⟩
 rw [Dk]
 show ((Iv p t).2.1.length:Int)=_
 rw [(lS hb).1]
theorem pL:Sound Tryz.prog 39 c9:=
 Sound.Gt Tm (Fu uW (Av jv Bp)) mixed Tryz.func39 (by kernel_rfl) (by kernel_rfl) λx h=>AD x.1 x.2.1 h
theorem AE (p:PP) (t q:List Int) (h:Gw p/\short t/\short q):fnW Vb (look [(36,Oj),(88,Oc),(89,bm)]) ca Tryz.f38 (p,t,q,()) (λ(z:Int)=>z=tQ p t q):=by
 refine Eq.mp (CT p t q _) ⟨_,Ab h,?_⟩
 unfold tQ
 show Br (!Sn p t q) _ _
 refine Br.of (λhb=>by rw [Ak (λhh=>Ew hb (Bc.1 hh).2)]) λhb=>?_
 have hb:=El hb
 have ht:=p9 hb
 have FQ:Nu (Iv p t).2.1:=ED.2.1
 have hpv:Oc.fn (p.1,p.2.1,p.2.2.1,t,())=some (((Iv p t).2.1,(Iv p t).2.2.1,Kl p t,()),()):=Ab ht
 refine ⟨_,hpv,_,Ab ⟨by rw [Dk];exact FQ,h.2.2⟩,?_⟩
 simp only [Dk]
 show Br (!Kl p t) _ _
 refine Br.of (λhc=>by rw [Ak (λhh=>Ew hc (Bc.1 hh).1)]) λhc=>?_
 have hc:=El hc
 rw [Ab (Bc.2 ⟨hc,hb⟩),(lS hc).1,(lS hc).2]
 have hk:=px (kf.1 hc).1
 unfold eD Lr
 by_cases hq:q∈La p t
 ·have e:=ME (ud ht) hq
  have Jj:(La p t).idxOf q<(mf p t).length:=by
   have:=List.idxOf_lt_length_of_mem hq
   rw [show (mf p t).length=(La p t).length from hk.len]
   exact this
  show Br (decide (Ep (λx=>decide (x=q)) (La p t) 0<0)) _ ((0<=Ep (λx=>decide (x=q)) (La p t) 0/\Ep (λx=>decide (x=q)) (La p t) 0<((mf p t).length:Int))/\ ∃y,(mf p t)[0+(Ep (λx=>decide (x=q)) (La p t) 0).toNat]?=some y/\y=_)
  rw [e,Ab hq]
  refine Br.dec (λhn=>by omega) λ_=>⟨⟨by omega,by omega⟩,_,by rw [Bo,Aj];exact Ac Jj,?_⟩
  rw [Lh Jj]
 ·have e:Ep (λx=>decide (x=q)) (La p t) 0<0:=by
   refine Int.not_le.1 λhn=>?_
   have:=(cP (λx=>decide (x=q)) (La p t) 0 (Sf _)).1 hn
   obtain ⟨x,hx,hh⟩:=Ey.1 this
   rw [He hh] at hx
   exact hq hx
  rw [Ak hq]
  exact Br.dec (λ_=>rfl) λhn=>absurd e hn
theorem pM:Sound Tryz.prog 38 ca:=
 Sound.Gt Tm (Av Up (Fu jw (Av wM Bp))) mixed Tryz.func38 (by kernel_rfl) (by kernel_rfl) λx h=>AE x.1 x.2.1 x.2.2.1 h
theorem UJ {p:PP} {t q:List Int} (h:Sn p t q=true):Cb p=true/\ ∀y∈q,0<=y/\y<p.1:=by
 have hv:=(Nv.1 (p9 h)).1
 obtain ⟨h1,h2⟩:=Gi.1 (Bc.1 h).2
 refine ⟨hv,λy hy=>?_⟩
 obtain ⟨i,hi,rfl⟩:=Bh.1 hy
 have:=h2 i hi hi
 omega
theorem oN {p:PP} (hv:Cb p=true): ∀(w s q:List Int),(∀l∈w,Hq (List.length p.2.2.1) l)->Pm p.1.toNat s->(∀y∈q,0<=y/\y<p.1)->Bv (Gk p.2.2.1 s w) q=Gk p.2.2.1 (Bv s q) w
 | [],_,_,_,_,_=>rfl
 |l::w,s,q,hl,hs,hq=>by
  have hn:=(valid hv).n
  have h1:=oN hv w (Af s (Ax p.2.2.1 l)) q (λl' h=>hl l' (Aq _ h)) (hs.comp (Yk (valid hv) (hl l (by simp)))) hq
  rw [Jz (λy hy=>by have:=hq y hy;have:=hs.1;omega)] at h1
  exact h1
theorem AB (p:PP) (t q w:List Int) (h:Gw p/\short t/\short q/\short w):fnW Gb (look [(36,Oj),(83,bo),(84,Ln),(79,Nk)]) c8 Tryz.f35 (p,t,q,w,()) (λ(z:List Int×Bool×Unit)=>z=tN p t q w):=by
 refine Eq.mp (CR p t q w _) ⟨_,Ab ⟨h.1,h.2.1,h.2.2.1⟩,?_⟩
 unfold tN
 show Br (!Sn p t q) _ _
 refine Br.of (λhb=>by rw [Ak (λhh=>Ew hb (Bc.1 hh).1)];rfl) λhb=>?_
 have hb:=El hb
 refine ⟨_,Ab ⟨h.1,h.2.2.2⟩,?_⟩
 show Br (!Ic (List.length p.2.2.1:Nat) w) _ _
 refine Br.of (λhc=>by rw [Ak (λhh=>Ew hc (Bc.1 hh).2)];rfl) λhc=>?_
 have hc:=El hc
 obtain ⟨hv,hq⟩:=UJ hb
 have hV:=valid hv
 have hn:=hV.n
 rw [Ab (Bc.2 ⟨hb,hc⟩)]
 have DE:=iu hV w (upto p.1.toNat) (Mi hc).2 (Pm.id (by omega) (by omega))
 have hr:Lq (Gk p.2.2.1 (upto p.1.toNat) w).length q:= λy hy=>by
  have:=hq y hy
  have:=DE.1
  omega
 refine ⟨_,Ab ⟨p,hv,rfl,rfl,hc⟩,_,Ab ⟨h.2.2.1,hr⟩,?_⟩
 have e:=oN hv w (upto p.1.toNat) q (Mi hc).2 (Pm.id (by omega) (by omega)) hq
 rw [bh (λy hy=>by have:=hq y hy;omega)] at e
 show (Bv (Gk p.2.2.1 (upto p.1.toNat) w) q,true,())=_
 rw [e]
theorem pK:Sound Tryz.prog 35 c8:=
 Sound.Gt Dt (Av Up (Av wO (Av uP (Av dF Bp)))) mixed Tryz.func35 (by kernel_rfl) (by kernel_rfl) λx h=>AB x.1 x.2.1 x.2.2.1 x.2.2.2.1 h
noncomputable abbrev bk:Spec:=Gt (.pair .bool .unit) tI false true (λ_=>True) (λx=>if x.1=true then 1 else 0)
def hJ (T:Cf) (n:Nat):List Int:=(List.range n).map λi=>((Kz (T.getD i [])).length:Int)
noncomputable abbrev Yt:Spec:=Gt (.pair (.ptr kz) .unit) tL false true (λx=> ∃N:Nat,(1<=N/\N<=20)/\x.1.1=N/\V N N 0 (x.1.2.2.1,x.1.2.1)) (λx=>hJ x.1.2.1 x.1.1.toNat)
noncomputable abbrev Yo:Spec:=Gt (.pair (.ptr kz) .unit) tI false true (λx=> ∃N:Nat,(1<=N/\N<=20)/\x.1.1=N/\V N N 0 (x.1.2.2.1,x.1.2.1)) (λx=>(Ux x.1.2.1 x.1.1.toNat:Int))
noncomputable def tM (n:Int) (g:List (List Int)):Int:=if Qg n g=true then (Ux (bG n g).2 n.toNat:Int) else 0
noncomputable abbrev pD:Spec:=Gt (.pair tI (.pair rH .unit)) tI false true (λx=>Nu x.2.1) (λx=>tM x.1 x.2.1)
noncomputable def GM (p:PP):Int:=if Cb p=true then tM p.1 p.2.2.1 else 0
noncomputable abbrev uD:Spec:=Gt (.pair Ix .unit) tI false true (λx=>Gw x.1) (λx=>GM x.1)
theorem XF (b:Bool) (P:Int->Prop):(Br b (P (1:Int)) (P (0:Int)))=fnW Gb (look []) bk Tryz.f179 (b,()) P:=by kernel_rfl
theorem QB (c:Int×List (List (Option (List Int)))×List (List (Option (List Int)))×Unit) (P:List Int->Prop):(0=0/\0=([]:List Int).length/\Dm (λ(v2:Int×List Int×PUnit) (k3:Int×List Int×PUnit->Prop)=>Br (decide (v2.1<c.1)) (0=0/\v2.2.1.length=v2.2.1.length/\Dm (λ(v4:Int×Int×List Int×PUnit) (k5:Int×Int×List Int×PUnit->Prop)=>Br (decide (v4.2.1<c.1)) (∃(y6:List (Option (List Int))),idx c.2.1 v2.1=some y6/\ ∃(y7:Option (List Int)),idx y6 v4.2.1=some y7/\ ∃(y8:Int),bk.fn (decide ((↑(y7.getD []).length:Int)>(0:Int)),())=some y8/\0=0/\v4.2.2.1.length=v4.2.2.1.length/\k5 (IntKind.i64.wrap (v4.1+y8),IntKind.i64.wrap (v4.2.1+(1:Int)),v4.2.2.1,())) (0=0/\v4.2.2.1.length=v4.2.2.1.length/\v4.2.2.1.length+(List.take 1 (List.drop 0 [v4.1])).length<=Db/\0=0/\(v4.2.2.1++List.take 1 (List.drop 0 [v4.1])).length=(v4.2.2.1++List.take 1 (List.drop 0 [v4.1])).length/\k3 (IntKind.i64.wrap (v2.1+(1:Int)),v4.2.2.1++List.take 1 (List.drop 0 [v4.1]),()))) ((0:Int),(0:Int),v2.2.1,PUnit.unit)) (P (List.take v2.2.1.length (List.drop 0 v2.2.1)))) ((0:Int),[],PUnit.unit))=fnW Xk (look [(179,bk)]) Yt Tryz.f169 (c,()) P:=by kernel_rfl
theorem PS (c:Int×List (List (Option (List Int)))×List (List (Option (List Int)))×Unit) (P:Int->Prop):(∃(y2:List Int),Yt.fn (c,())=some y2/\Dm (λ(v3:Int×Int×PUnit) (k4:Int×Int×PUnit->Prop)=>Br (decide (v3.2.1<(↑y2.length:Int))) (∃(y5:Int),idx y2 v3.2.1=some y5/\k4 (IntKind.i64.wrap (v3.1*y5),IntKind.i64.wrap (v3.2.1+(1:Int)),())) (P v3.1)) ((1:Int),(0:Int),PUnit.unit))=fnW Xk (look [(169,Yt)]) Yo Tryz.f144 (c,()) P:=by kernel_rfl
theorem Akq (n:Int) (g:List (List Int)) (P:Int->Prop):(∃(y3:Bool),Ms.fn (n,g,())=some y3/\Br (!y3) (P (0:Int)) (∃(y4:(Int×List (List (Option (List Int)))×List (List (Option (List Int)))×PUnit)×PUnit),Qb.fn (n,g,())=some y4/\ ∃(y5:Int),Yo.fn ((y4.1.1,List.take y4.1.2.1.length (List.drop 0 y4.1.2.1),List.take y4.1.2.2.1.length (List.drop 0 y4.1.2.2.1),()),())=some y5/\P y5))=fnW Gb (look [(122,Ms),(145,Qb),(144,Yo)]) pD Tryz.f94 (n,g,()) P:=by kernel_rfl
theorem Ap9 (p:Int×ByteArray×List (List Int)×Unit) (P:Int->Prop):(∃(y2:Bool),Ig.fn ((p.1,p.2.1,p.2.2.1,()),())=some y2/\Br (!y2) (P (0:Int)) (∃(y3:Int),pD.fn (p.1,p.2.2.1,())=some y3/\P y3))=fnW Gb (look [(63,Ig),(94,pD)]) uD Tryz.f41 (p,()) P:=by kernel_rfl
theorem VA (b:Bool) (_:True):fnW Gb (look []) bk Tryz.f179 (b,()) (λ(z:Int)=>z=if b=true then 1 else 0):=by
 refine Eq.mp (XF b _) (Br.of (λh=>?_) λh=>?_)
 ·rw [Ab h]
 ·rw [Ak (by rw [h];decide)]
theorem wJ:Sound Tryz.prog 179 bk:=
 Sound.Gt Dt Bp mixed Tryz.func179 (by kernel_rfl) (by kernel_rfl) λx h=>VA x.1 h
def qD (row:Row) (j:Nat):List Int:=(upto j).filter λy=>(row.getD y.toNat none).isSome
theorem NF (row:Row) (j:Nat):((qD row (j+1)).length:Int)=(qD row j).length+if (row.getD j none).isSome=true then 1 else 0:=by
 unfold qD
 rw [Zb,List.filter_append,Au]
 by_cases h:(row.getD j none).isSome=true
 ·rw [Ab h,List.filter_cons_of_pos (by rw [Aj];exact h)]
  simp
 ·rw [Ak h,List.filter_cons_of_neg (by rw [Aj];exact h)]
  simp
theorem HG (row:Row) (j:Nat):(qD row j).length<=j:=by
 have:=List.length_filter_le (λy:Int=>(row.getD y.toNat none).isSome) (upto j)
 rw [Mu] at this
 exact this
theorem UY (T:Cf) (j:Nat):hJ T (j+1)=hJ T j++ [((Kz (T.getD j [])).length:Int)]:=by
 unfold hJ
 rw [il,Ko]
 rfl
theorem NR (c:Int×List (List (Option (List Int)))×List (List (Option (List Int)))×Unit) (h: ∃N:Nat,(1<=N/\N<=20)/\c.1=N/\V N N 0 (c.2.2.1,c.2.1)):
  fnW Xk (look [(179,bk)]) Yt Tryz.f169 (c,()) (λ(z:List Int)=>z=hJ c.2.1 c.1.toNat):=by
 obtain ⟨N,⟨h1,h2⟩,hN,v⟩:=h
 obtain ⟨n,T,G,⟨⟩⟩:=c
 dsimp only at hN v⊢
 subst hN
 refine Eq.mp (QB ((N:Int),T,G,()) _) ⟨rfl,rfl,?_⟩
 obtain ⟨v1,v2,v3,v4⟩:=v
 dsimp only at v1 v2⊢
 rw [Aj]
 refine Bw N (λv=>v.1) (λj v=>v.2.1=hJ T j) rfl rfl ?_
 rintro j ⟨i,out,⟨⟩⟩ K hj hi ho hK
 dsimp only at hi ho⊢
 subst hi ho
 have hlen: ∀j,(hJ T j).length=j:= λj=>by unfold hJ;rw [Ch,cv]
 refine Br.dec (λhl=>?_) λhl=>?_
 ·have hl:j<N:=by omega
  have hT:j<T.length:=by omega
  have Kd:=dX N 0 v3 j (by omega) (by omega)
  have KE:=Kd.rl
  dsimp only at KE
  rw [qi hT] at KE
  refine ⟨rfl,rfl,?_⟩
  refine Bw N (λv=>v.2.1) (λy v=>v.1=((qD T[j] y).length:Int)/\v.2.2.1=hJ T j) rfl ⟨rfl,rfl⟩ ?_
  rintro y ⟨size,y',out,⟨⟩⟩ K2 hy hy' ⟨hs,ho⟩ hK2
  dsimp only at hy' hs ho⊢
  subst hy' hs ho
  have hle:=HG T[j] y
  refine Br.dec (λLV=>?_) λLV=>?_
  ·have hyl:y<T[j].length:=by omega
   have hb:decide ((((T[j])[y].getD []).length:Int)>0)=(T[j].getD y none).isSome:=by
    have eg:T[j].getD y none=T[j][y]:=by rw [Ai,Ac hyl];rfl
    rw [eg]
    cases e:(T[j])[y] with
    |none=>rfl
    |some t=>
     obtain ⟨t1,_⟩:=Kd.rt y t (by show (T.getD j []).getD y none=some t;rw [qi hT,eg,e])
     exact Dl (by show (((some t).getD []).length:Int)>0;rw [Bq,t1.1];omega)
   refine ⟨_,Co hT,_,Co hyl,_,Ab trivial,rfl,rfl,?_⟩
   have e2:=NF T[j] y
   have Ay3:=HG T[j] (y+1)
   show K2 (IntKind.i64.wrap (((qD T[j] y).length:Int)+if decide ((((T[j])[y].getD []).length:Int)>0)=true then 1 else 0),_,_,())
   rw [hb,<-e2,Df (by omega) (by omega),Bm (by omega)]
   exact hK2 (by omega) _ rfl ⟨rfl,rfl⟩
  ·have:y=N:=by omega
   subst this
   refine ⟨rfl,rfl,by rw [hlen];show j+1<=4294967296;omega,rfl,rfl,?_⟩
   rw [Bm (by omega)]
   refine hK (by omega) _ rfl ?_
   rw [UY,qi hT]
   show hJ T j++ [((qD T[j] y).length:Int)]=_
   unfold qD Kz
   rw [KE]
 ·have:j=N:=by omega
  subst this
  rw [Ea,Ay]
theorem uU:Sound Tryz.prog 169 Yt:=
 Sound.Gt mD (Av wJ Bp) mixed Tryz.func169 (by kernel_rfl) (by kernel_rfl) λx h=>NR x.1 h
theorem Ab6 (T:Cf) {n j:Nat} (h:j<n):idx (hJ T n) (j:Int)=some ((Kz (T.getD j [])).length:Int):=by
 have hl:j<(hJ T n).length:=by unfold hJ;rw [Ch,cv];exact h
 rw [Co hl]
 unfold hJ
 simp
theorem NI (c:Int×List (List (Option (List Int)))×List (List (Option (List Int)))×Unit) (h: ∃N:Nat,(1<=N/\N<=20)/\c.1=N/\V N N 0 (c.2.2.1,c.2.1)):
  fnW Xk (look [(169,Yt)]) Yo Tryz.f144 (c,()) (λ(z:Int)=>z=(Ux c.2.1 c.1.toNat:Int)):=by
 have h':=h
 obtain ⟨N,⟨h1,h2⟩,hN,v⟩:=h
 obtain ⟨n,T,G,⟨⟩⟩:=c
 dsimp only at hN v⊢
 subst hN
 rw [Aj]
 refine Eq.mp (PS ((N:Int),T,G,()) _) ⟨hJ T N,(Ab h').trans (Fq some (Fq (hJ T) (Aj N))),?_⟩
 obtain ⟨v1,v2,v3,v4⟩:=v
 dsimp only at v1 v2⊢
 have hlen:(hJ T N).length=N:=by unfold hJ;rw [Ch,cv]
 refine Bw N (λv=>v.2.1) (λj v=>v.1=(Ux T j:Int)) rfl rfl ?_
 rintro j ⟨o,i,⟨⟩⟩ K hj hi ho hK
 dsimp only at hi ho⊢
 subst hi ho
 rw [hlen]
 refine Br.dec (λhl=>?_) λhl=>?_
 ·have hl:j<N:=by omega
  refine ⟨_,Ab6 T hl,?_⟩
  have hb:=xX h2 v3 (j:=j+1) (by omega)
  have e:(Ux T j:Int)*((Kz (T.getD j [])).length:Int)=(Ux T (j+1):Int):=by rw [Ux];push_cast;rfl
  dsimp only at hb
  rw [Bm (by omega),e,Df (by omega) (by omega)]
  exact hK hl _ rfl rfl
 ·have:j=N:=by omega
  subst this
  rfl
theorem uL:Sound Tryz.prog 144 Yo:=
 Sound.Gt mD (Av uU Bp) mixed Tryz.func144 (by kernel_rfl) (by kernel_rfl) λx h=>NI x.1 h
theorem Ak0 (n:Int) (g:List (List Int)) (h:Nu g):fnW Gb (look [(122,Ms),(145,Qb),(144,Yo)]) pD Tryz.f94 (n,g,()) (λ(z:Int)=>z=tM n g):=by
 refine Eq.mp (Akq n g _) ⟨_,Ab h,?_⟩
 unfold tM
 show Br (!Qg n g) _ _
 refine Br.of (λhb=>by rw [Ak (Ew hb)]) λhb=>?_
 have hb:Qg n g=true:=El hb
 rw [Ab hb]
 obtain ⟨⟨n1,n2⟩,h8,Ky⟩:=Gi.1 hb
 have ny: ∀x∈g,Pm n.toNat x:= λx hx=>ZG (Ky x hx)
 have hV:=oK (n:=n.toNat) (by omega) (by omega) (jb ny)
 have hb2:Qb.fn (n,g,())=some ((n,(bG n g).2,(bG n g).1,()),()):=Ab ⟨⟨n1,n2⟩,h.1,ny⟩
 refine ⟨_,hb2,?_⟩
 simp only [Dk]
 exact ⟨_,Ab ⟨n.toNat,⟨by omega,by omega⟩,by show n=(n.toNat:Int);omega,hV⟩,rfl⟩
theorem OW:Sound Tryz.prog 94 pD:=
 Sound.Gt Dt (Av eS (Fu pH (Av uL Bp))) mixed Tryz.func94 (by kernel_rfl) (by kernel_rfl) λx h=>Ak0 x.1 x.2.1 h
theorem Aol (p:PP) (h:Gw p):fnW Gb (look [(63,Ig),(94,pD)]) uD Tryz.f41 (p,()) (λ(z:Int)=>z=GM p):=by
 refine Eq.mp (Ap9 p _) ⟨_,Ab h,?_⟩
 unfold GM
 show Br (!Cb p) _ _
 refine Br.of (λhb=>by rw [Ak (Ew hb)]) λhb=>?_
 rw [Ab (El hb)]
 exact ⟨_,Ab ⟨h.2.1,h.2.2⟩,rfl⟩
theorem WG:Sound Tryz.prog 41 uD:=
 Sound.Gt Dt (Av Ss (Av OW Bp)) mixed Tryz.func41 (by kernel_rfl) (by kernel_rfl) λx h=>Aol x.1 h
theorem LC {p:PP} (hw:Gl p=true):GM p=((Ba p).length:Int):=by
 have hv:=(Fl hw).1
 have hV:=valid hv
 have hn:=hV.n
 have hg:=jb (iB hV).2.2
 have Aml:Qg p.1 p.2.2.1=true:=(Gi.1 hv).1
 have hc:=oK (n:=p.1.toNat) (by omega) (by omega) hg
 unfold GM tM
 rw [Ab hv,Ab Aml]
 have e:Ux (bG p.1 p.2.2.1).2 p.1.toNat=(kH p.1.toNat (bG p.1 p.2.2.1).2 p.1.toNat 0).length:=(qE _ _).symm
 rw [e]
 have hm: ∀x,x∈kH p.1.toNat (bG p.1 p.2.2.1).2 p.1.toNat 0↔x∈Ba p:= λx=>by
  refine (nP (by omega) (by omega) _ 0 (by omega) hc.2.2.1 x).trans ⟨λh=>?_,λh=>?_⟩
  ·exact (bZ hv).all (Fl hw).2 x ((qj (by omega) (by omega) hg h.1).1 h.2.2)
  ·exact ⟨Wz hv h,λi hi=>absurd hi (Dn _),(qj (by omega) (by omega) hg (Wz hv h)).2 ((bZ hv).gen x h)⟩
 have h1:=Ry (mh (n:=p.1.toNat) (by omega) (by omega) _ 0 (by omega) hc.2.2.1) λx hx=>(hm x).1 hx
 have h2:=Ry (oh hv) λx hx=>(hm x).2 hx
 have e3:(kH p.1.toNat (bG p.1 p.2.2.1).2 p.1.toNat 0).length=(Ba p).length:=Nat.le_antisymm h1 h2
 rw [e3]
abbrev pS:Type:=(List Int×Int×Int×List Int×PUnit)×PUnit
theorem Ad3 (code:List Int) (P:Bool->Prop):(∃(y2:Bool),yo.fn (code,())=some y2/\Br y2 (P true) (∃(y3:(List Int×Int×Int×PUnit)×PUnit),pE.fn (code,(1109:Int),())=some y3/\ ∃(y4:(List Int×Int×Int×Int×ByteArray×List (List Int)×PUnit)×PUnit),yy.fn (y3.1.1,y3.1.2.1,y3.1.2.2.1,())=some y4/\ ∃(y5:pS),yz.fn (y4.1.1,y4.1.2.1,y4.1.2.2.1,y4.1.2.2.2.1,y4.1.2.2.2.2.1,List.take y4.1.2.2.2.2.2.1.length (List.drop 0 y4.1.2.2.2.2.2.1),())=some y5/\ ∃(y6:pS),gM.fn (y5.1.1,y5.1.2.1,y5.1.2.2.1,(2:Int),(5:Int),())=some y6/\ ∃(y7:pS),uE.fn (y6.1.1,y6.1.2.1,y6.1.2.2.1,y4.1.2.2.2.1,y4.1.2.2.2.2.1,List.take y4.1.2.2.2.2.2.1.length (List.drop 0 y4.1.2.2.2.2.2.1),())=some y7/\ ∃(y8:List Int),Rf.fn ((y4.1.2.2.2.1,y4.1.2.2.2.2.1,List.take y4.1.2.2.2.2.2.1.length (List.drop 0 y4.1.2.2.2.2.2.1),()),List.take y7.1.2.2.2.1.length (List.drop 0 y7.1.2.2.2.1),y5.1.2.2.2.1,())=some y8/\ ∃(y9:List Int×Bool×PUnit),Qi.fn ((y4.1.2.2.2.1,y4.1.2.2.2.2.1,List.take y4.1.2.2.2.2.2.1.length (List.drop 0 y4.1.2.2.2.2.2.1),()),y5.1.2.2.2.1,List.take y6.1.2.2.2.1.length (List.drop 0 y6.1.2.2.2.1),())=some y9/\ ∃(cq:List Int×Bool×PUnit),c8.fn ((y4.1.2.2.2.1,y4.1.2.2.2.2.1,List.take y4.1.2.2.2.2.2.1.length (List.drop 0 y4.1.2.2.2.2.2.1),()),List.take y7.1.2.2.2.1.length (List.drop 0 y7.1.2.2.2.1),y8,List.take y6.1.2.2.2.1.length (List.drop 0 y6.1.2.2.2.1),())=some cq/\Br (!cq.2.1) (P false) (∃(Xp:Bool),Oj.fn ((y4.1.2.2.2.1,y4.1.2.2.2.2.1,List.take y4.1.2.2.2.2.2.1.length (List.drop 0 y4.1.2.2.2.2.2.1),()),List.take y7.1.2.2.2.1.length (List.drop 0 y7.1.2.2.2.1),y8,())=some Xp/\Br (!Xp) (P false) (∃(aw:List Int),Rf.fn ((y4.1.2.2.2.1,y4.1.2.2.2.2.1,List.take y4.1.2.2.2.2.2.1.length (List.drop 0 y4.1.2.2.2.2.2.1),()),List.take y7.1.2.2.2.1.length (List.drop 0 y7.1.2.2.2.1),y9.1,())=some aw/\ ∃(vO:Bool),Va.fn (cq.1,aw,())=some vO/\Br (!vO) (P false) (∃(ah:Int),ca.fn ((y4.1.2.2.2.1,y4.1.2.2.2.2.1,List.take y4.1.2.2.2.2.2.1.length (List.drop 0 y4.1.2.2.2.2.2.1),()),List.take y7.1.2.2.2.1.length (List.drop 0 y7.1.2.2.2.1),y8,())=some ah/\Br (decide (ah>=(0:Int))) (∃(oA:Int),my.fn ((y4.1.2.2.2.1,y4.1.2.2.2.2.1,List.take y4.1.2.2.2.2.2.1.length (List.drop 0 y4.1.2.2.2.2.2.1),()),y5.1.2.2.2.1,())=some oA/\Br (decide (ah<=oA)) (∃(s8:Int),c9.fn ((y4.1.2.2.2.1,y4.1.2.2.2.2.1,List.take y4.1.2.2.2.2.2.1.length (List.drop 0 y4.1.2.2.2.2.2.1),()),List.take y7.1.2.2.2.1.length (List.drop 0 y7.1.2.2.2.1),())=some s8/\ ∃(QI:Int),Yx.fn ((y4.1.2.2.2.1,y4.1.2.2.2.2.1,List.take y4.1.2.2.2.2.2.1.length (List.drop 0 y4.1.2.2.2.2.2.1),()),List.take y7.1.2.2.2.1.length (List.drop 0 y7.1.2.2.2.1),y8,())=some QI/\ ∃(XX:Int),uD.fn ((y4.1.2.2.2.1,y4.1.2.2.2.2.1,List.take y4.1.2.2.2.2.2.1.length (List.drop 0 y4.1.2.2.2.2.2.1),()),())=some XX/\P (IntKind.i64.wrap (s8*QI)==XX)) (P false)) (P false))))))=fnW (PF [fU+4,ja]) (look [(8,yo),(9,pE),(10,yy),(12,yz),(32,gM),(25,uE),(33,Rf),(34,Qi),(35,c8),(36,Oj),(37,Rf),(16,Va),(38,ca),(13,my),(39,c9),(40,Yx),(41,uD)]) ON Tryz.f6 (code,()) P:=by kernel_rfl
theorem ue {p:PP} {t s:List Int} (ht:Di p t=true) (hs:Pm p.1.toNat s):Sn p t (Bv s t)=true:=by
 obtain ⟨hv,ia⟩:=Nv.1 ht
 have hn:=(valid hv).n
 obtain ⟨_,ia⟩:=Gi.1 ia
 have hlen:(Bv s t).length=t.length:=by unfold Bv;rw [Ch]
 have At: ∀j (h:j<t.length),(Bv s t)[j]'(by omega)=Hi s t[j]:= λj h=>by unfold Bv;simp
 have hat: ∀j (h:j<t.length),∃k:Nat,t[j]=(k:Int)/\k<p.1.toNat:= λj h=>by
  have:=Vs ht t[j] (Al h)
  exact ⟨t[j].toNat,by omega,by omega⟩
 refine Bc.2 ⟨ht,Gi.2 ⟨by rw [hlen],λj hj _=>?_⟩⟩
 have LS:j<t.length:=by omega
 obtain ⟨k,hk,RN⟩:=hat j LS
 obtain ⟨g1,g2⟩:=hs.Xm RN
 rw [At j LS,hk,g1]
 refine ⟨by omega,by omega,λhm=>?_⟩
 obtain ⟨i,hi,he⟩:=Bh.1 hm
 have ZT:=hi
 rw [Dc] at ZT
 rw [List.getElem_take,At i (by omega)] at he
 obtain ⟨m,hm,hmn⟩:=hat i (by omega)
 obtain ⟨g3,_⟩:=hs.Xm hmn
 rw [hm,g3] at he
 have:=hs.inj hmn RN (by omega)
 rw [Dc] at hi
 have e:i+(j-i-1)+1=j:=by omega
 have Jj:=Ahk ia (j-i-1) i (by omega)
 simp only [e] at Jj
 rw [hm,hk] at Jj
 omega
theorem tD {p:PP} {t q:List Int} (h:Sn p t q=true):q.length=t.length:=by
 have:=(Gi.1 (Bc.1 h).2).1
 omega
theorem Abd (code:List Int) (h:z9 code):fnW (PF [fU+4,ja]) (look [(8,yo),(9,pE),(10,yy),(12,yz),(32,gM),(25,uE),(33,Rf),(34,Qi),(35,c8),(36,Oj),(37,Rf),(16,Va),(38,ca),(13,my),(39,c9),(40,Yx),(41,uD)]) ON Tryz.f6 (code,()) (λ(z:Bool)=>z=true):=by
 refine Eq.mp (Ad3 code _) ⟨_,Ab trivial,Br.dec (λ_=>rfl) λhb=>?_⟩
 have hb: ¬(code.length:Int)>4096:=hb
 have hd0:=Ara h hb
 refine ⟨_,Ab (show code.length<=4096 by omega),_,Ab hd0,?_⟩
 obtain ⟨hp,hd1⟩:=PQ hd0 (pd code 1109)
 obtain ⟨W,hW⟩: ∃W,aD code 0 (pd code 1109)=W:=⟨_,rfl⟩
 rw [hW] at hp hd1
 simp only [hW,Dk]
 obtain ⟨i1,h1,n,str,g,u⟩:=W
 obtain rfl:u=():=rfl
 dsimp only at hp hd1⊢
 clear hW
 have hs:=hp.short
 have hw:=hp.whole
 refine ⟨_,Ab ⟨hd1,hs,hp.valid,hp.two⟩,?_⟩
 obtain ⟨hd3,Uh⟩:=Akn hp hd1 h1
 obtain ⟨W,hW⟩: ∃W,nN code i1 h1 (n,str,g,())=W:=⟨_,rfl⟩
 rw [hW] at hd3 Uh
 simp only [hW]
 obtain ⟨i3,h3,s⟩:=W
 dsimp only at hd3 Uh⊢
 clear hW
 have hv:=hp.valid
 have hV:=valid hv
 have hn:1<=n/\n<=20:=hV.n
 obtain ⟨wv,hd4⟩:=PR hd3 h3 (m:=2) (k:=5) (by decide) (by decide)
 have e6:gM.fn (code,i3,h3,2,5,())=some ((code,(Rd code i3 h3 2 5).1,(Rd code i3 h3 2 5).2.1,(Rd code i3 h3 2 5).2.2,()),()):=Ab ⟨hd3,⟨by show (1:Int)<=2;decide,by show (2:Int)<=8;decide⟩,by show (0:Int)<=5;decide,by show (5:Int)<=20;decide⟩
 obtain ⟨W,hW⟩: ∃W,Rd code i3 h3 2 5=W:=⟨_,rfl⟩
 rw [hW] at wv hd4 e6
 obtain ⟨i4,h4,w⟩:=W
 dsimp only at wv hd4 e6
 clear hW
 obtain ⟨t1,t2,t3,t4⟩:=XE hp hd4 h4
 have e7:uE.fn (code,i4,h4,n,str,g,())=some ((code,(Vk code i4 h4 n).1,(Vk code i4 h4 n).2.1,(Vk code i4 h4 n).2.2,()),()):=Ab ⟨hd4,hn⟩
 obtain ⟨W,hW⟩: ∃W,Vk code i4 h4 n=W:=⟨_,rfl⟩
 rw [hW] at t1 t2 t3 t4 e7
 obtain ⟨i5,h5,t⟩:=W
 dsimp only at t1 t2 t3 t4 e7
 clear hW t4
 refine ⟨_,e6,_,e7,?_⟩
 have ht:=(kf.1 t3).1
 have DE:=Wz hv Uh
 have hss:short s:=nV DE
 have UA:=ue ht DE
 have hwv:Ic ((List.length g:Nat):Int) w=true:=by rw [show List.length g=2 from hp.two];exact wv
 have RX:=(Mi hwv).2
 have hws:short w:=by have:=(Mi hwv).1;show w.length<=4294967296;omega
 obtain ⟨Q,hQ⟩: ∃Q,Bv s t=Q:=⟨_,rfl⟩
 have hQs:short Q:=by
  have:=tD UA
  rw [<-hQ]
  show (Bv s t).length<=4294967296
  have h2:t.length<=4294967296:=t2
  omega
 have e8:Rf.fn ((n,str,g,()),t,s,())=some Q:=(Ab ⟨hs,t2,hss⟩).trans (Fq some (by
  show aV (n,str,g,()) t s=Q
  unfold aV
  rw [Ab (Bc.2 ⟨ht,AN hV DE⟩),hQ]))
 rw [hQ] at UA
 obtain ⟨E,hE⟩: ∃E,Gk g s w=E:=⟨_,rfl⟩
 have hEs:E∈Ba (n,str,g,()):=hE▸ss hw w s RX Uh
 have hEp:=Wz hv hEs
 have e9:Qi.fn ((n,str,g,()),s,w,())=some (E,true,()):=(Ab ⟨hs,hv,DE,hwv⟩).trans (Fq some (by
  show (Gk g s w,true,())=_
  rw [hE]))
 have e10:c8.fn ((n,str,g,()),t,Q,w,())=some (Gk g Q w,true,()):=(Ab ⟨hs,t2,hQs,hws⟩).trans (Fq some (Ab (Bc.2 ⟨UA,hwv⟩)))
 have e11:Oj.fn ((n,str,g,()),t,Q,())=some true:=(Ab ⟨hs,t2,hQs⟩).trans (Fq some UA)
 have hEQ:Bv E t=Gk g Q w:=by
  have:=oN hv w s t RX DE λy hy=>(Iy ht).2 y hy
  rw [<-hE,<-hQ]
  exact this
 have e12:Rf.fn ((n,str,g,()),t,E,())=some (Gk g Q w):=(Ab ⟨hs,t2,nV hEp⟩).trans (Fq some (by
  show aV (n,str,g,()) t E=_
  unfold aV
  rw [Ab (Bc.2 ⟨ht,AN hV hEp⟩),hEQ]))
 have hAl:short (Gk g Q w):=by
  have:=tD (ue ht hEp)
  rw [<-hEQ]
  show (Bv E t).length<=4294967296
  have h2:t.length<=4294967296:=t2
  omega
 have e13:Va.fn (Gk g Q w,Gk g Q w,())=some true:=(Ab ⟨hAl,hAl⟩).trans (Fq some (Dl rfl))
 have Ama:0<=eD (n,str,g,()) t (Bv s t):=(HT hw ht).nn s Uh
 have e14:ca.fn ((n,str,g,()),t,Q,())=some (eD (n,str,g,()) t Q):=(Ab ⟨hs,t2,hQs⟩).trans (Fq some (Ab (Bc.2 ⟨t3,UA⟩)))
 have e15:my.fn ((n,str,g,()),s,())=some (Lr (Ba (n,str,g,())) (Hj (n,str,g,())) s):=(Ab ⟨hs,hss⟩).trans (Fq some (hp.Alo Uh))
 have hdn:=(We hw).nn s Uh
 have hle:eD (n,str,g,()) t (Bv s t)<=((Lr (Ba (n,str,g,())) (Hj (n,str,g,())) s).toNat:Int):=Rn.sub (bt hw) (HT hw ht) (We hw) (λx _ e=>by rw [e,(Md hv).1];exact Ajk ht) (Lr (Ba (n,str,g,())) (Hj (n,str,g,())) s).toNat s Uh (by omega)
 rw [hQ] at Ama hle
 have e16:c9.fn ((n,str,g,()),t,())=some ((La (n,str,g,()) t).length:Int):=(Ab ⟨hs,t2⟩).trans (Fq some (Ab t3))
 have e17:Yx.fn ((n,str,g,()),t,Q,())=some (((Ba (n,str,g,())).countP λs=>decide (Bv s t=Q):Nat):Int):=(Ab ⟨hs,t2,hQs⟩).trans (Fq some (Ab (Bc.2 ⟨hw,UA⟩)))
 have e18:uD.fn ((n,str,g,()),())=some ((Ba (n,str,g,())).length:Int):=(Ab hs).trans (Fq some (LC hw))
 have An3:=NH hw ht Uh
 rw [hQ] at An3
 have td:=Akb hv hp.hi
 refine ⟨_,e8,_,e9,_,e10,Br.of (λhh=>by cases hh) λ_=>⟨_,e11,Br.of (λhh=>by cases hh) λ_=>⟨_,e12,_,e13,Br.of (λhh=>by cases hh) λ_=>⟨_,e14,Br.dec (λ_=>⟨_,e15,Br.dec (λ_=>⟨_,e16,_,e17,_,e18,?_⟩) λhh=>absurd (by omega) hh⟩) λhh=>absurd Ama hh⟩⟩⟩⟩
 have e:((La (n,str,g,()) t).length:Int)*(((Ba (n,str,g,())).countP λs=>decide (Bv s t=Q):Nat):Int)=((Ba (n,str,g,())).length:Int):=by
  rw [<-An3]
  push_cast
  rfl
 show (IntKind.i64.wrap (((La (n,str,g,()) t).length:Int)*(((Ba (n,str,g,())).countP λs=>decide (Bv s t=Q):Nat):Int))==((Ba (n,str,g,())).length:Int))=true
 rw [e,Df (by omega) (by omega)]
 exact beq_self_eq_true _
theorem BM:Sound Tryz.prog 6 ON:=
 Sound.Gt (PH [fU+4,ja]) (Av WE (Fu OX (Fu WO (Fu WQ (Fu yC (Fu WR (Av rz (Av o7 (Av pK (Av Up (Av rG (Av uS (Av pM (Av OV (Av pL (Av oa (Av WG Bp))))))))))))))))) mixed Tryz.func6 (by kernel_rfl) (by kernel_rfl) λx h=>Abd x.1 h
end Go.Proofs.YtkkdpknjohcekaaGreat
