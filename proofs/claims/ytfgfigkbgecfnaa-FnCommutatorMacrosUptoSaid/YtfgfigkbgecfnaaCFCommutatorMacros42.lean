/-
  Part 43 of the proof that the statement FnCommutatorMacros holds.
-/
import Derived.Test.YtfgfigkbgecfnaaCFCommutatorMacros41
namespace Go.Proofs.Ytfgfigkbgecfnaa
open Go.RowKit
section
variable {Q:List Int->Prop} {code:List Int->Nat} {B:Nat}
end
theorem HI {n a c:Nat} {mv:List Int} (h:Pm n mv) (ha:a<n) (hc:c<n):Pm n ((mv.set a (Gr mv (c:Int))).set c (Gr mv (a:Int))):=by
 have hA:=(h.Vy ha).1
 have hC:=(h.Vy hc).1
 refine Pm.of (by simp only [Eh];exact h.1) h.n1 h.n2 (λk=>if k=c then ap mv a else if k=a then ap mv c else ap mv k) (λi hi=>?_) λi j hi hj e=>?_
 ·rw [Dg,Dg,Eh,h.1]
  by_cases h1:c=i
  ·rw [Af h1,Af hc,Af (show i=c from h1.symm)]
   exact ⟨by rw [hA],h.lt ha⟩
  ·rw [Aj h1,Aj (show ¬i=c from λe=>h1 e.symm)]
   by_cases h2:a=i
   ·rw [Af h2,Af ha,Af (show i=a from h2.symm)]
    exact ⟨by rw [hC],h.lt hc⟩
   ·rw [Aj h2,Aj (show ¬i=a from λe=>h2 e.symm)]
    have k9:i<mv.length:=by rw [h.1];exact hi
    have:=(h.Vy hi).1
    rw [Kp k9] at this
    rw [Ac k9,this]
    exact ⟨rfl,h.lt hi⟩
 ·by_cases i1:i=c
  ·rw [Af i1] at e
   by_cases j1:j=c
   ·rw [i1,j1]
   ·rw [Aj j1] at e
    by_cases j2:j=a
    ·rw [Af j2] at e
     have:=h.inj ha hc e
     rw [i1,j2,this]
    ·rw [Aj j2] at e
     exact absurd (h.inj ha hj e).symm j2
  ·rw [Aj i1] at e
   by_cases i2:i=a
   ·rw [Af i2] at e
    by_cases j1:j=c
    ·rw [Af j1] at e
     have:=h.inj hc ha e
     rw [i2,j1,this]
    ·rw [Aj j1] at e
     by_cases j2:j=a
     ·rw [i2,j2]
     ·rw [Aj j2] at e
      exact absurd (h.inj hc hj e).symm j1
   ·rw [Aj i2] at e
    by_cases j1:j=c
    ·rw [Af j1] at e
     exact absurd (h.inj hi ha e) i2
    ·rw [Aj j1] at e
     by_cases j2:j=a
     ·rw [Af j2] at e
      exact absurd (h.inj hi hc e) i1
     ·rw [Aj j2] at e
      exact h.inj hi hj e
theorem pQ {b:List Int} {n:Int} (hn:1<=n): ∀(k:Nat) (i h:Int) (mv:List Int),kY b i->Pm n.toNat mv->Pm n.toNat (bH b n k i h mv).2.2
 |0,_,_,_,_,hm=>hm
 |k+1,i,h,mv,hd,hm=>by
  have r1:=lR hd hn h
  have r2:=lR hd.next hn (hN h)
  rw [bH]
  refine pQ hn k _ _ _ hd.next.next ?_
  have:=HI hm (a:=(dR b i h n).toNat) (c:=(dR b (dI b i) (hN h) n).toNat) (by omega) (by omega)
  rw [Int.toNat_of_nonneg r1.1,Int.toNat_of_nonneg r2.1] at this
  exact this
theorem tW {b:List Int} {n:Int} (hn:1<=n) (PU:n<=20): ∀(k:Nat) (i h:Int) (ms:List (List Int)),kY b i->(∀m∈ms,Pm n.toNat m)-> ∀m∈(Vf b n k i h ms).2.2,Pm n.toNat m
 |0,_,_,_,_,hm=>hm
 |k+1,i,h,ms,hd,hm=>by
  rw [Vf]
  refine tW hn PU k _ _ _ (mD hd h) λm hmm=>?_
  rcases Av.1 hmm with h1|h1
  ·exact hm m h1
  ·rw [Ad.1 h1]
   exact pQ hn _ _ _ _ hd.next (Pm.id (by omega) (by omega))
theorem CW:Wa CY=true:=by
 refine Fz.2 ⟨by decide,λj hj=>?_⟩
 have hj:j<2:=hj
 match j,hj with
 |0,_=>exact ⟨65,rfl,by decide,by decide,λk hk=>by omega⟩
 |1,_=>exact ⟨66,rfl,by decide,by decide,λk hk=>(by have e:k=0:=(by omega);rw [e];decide)⟩
structure AJ (p:PP):Prop where
 valid:m_validP p=true
 two:p.2.2.1.length=2
 lo:3<=p.1
 hi:p.1<=5
 short:Zk p
theorem x4 {b:List Int} {i:Int} (hd:kY b i) (h:Int):AJ (Ve b i h).2.2/\kY b (Ve b i h).1:=by
 have hr:=lR hd (show (1:Int)<=3 by decide) h
 obtain ⟨n,hn⟩: ∃n,3+dR b i h 3=n:=⟨_,rfl⟩
 have h2:=xR b n 2 (dI b i) (hN h) []
 have h3:=tW (b:=b) (n:=n) (by omega) (by omega) 2 (dI b i) (hN h) [] hd.next (λm hm=>by cases hm)
 have h4:=xQ n 2 (dI b i) (hN h) [] hd.next
 unfold Ve
 rw [hn]
 generalize Vf b n 2 (dI b i) (hN h) []=R at h2 h3 h4
 obtain ⟨i',h',ms⟩:=R
 dsimp only at h2 h3 h4⊢
 simp only [Jb,Dc] at h2
 refine ⟨⟨Fz.2 ⟨Fz.2 ⟨⟨by show 1<=n;omega,by show n<=20;omega⟩,by show ms.length<=8;omega,λm hm=>?_⟩,CW,by show 2=ms.length;omega⟩,h2,by show 3<=n;omega,by show n<=5;omega,⟨by show 2<=4294967296;decide,by show ms.length<=4294967296;omega,λm hm=>?_⟩⟩,h4⟩
 ·have:=h3 m hm
  have h5:=this.1
  exact Fz.2 ⟨by omega,pe this.2⟩
 ·exact dB (h3 m hm)
structure FJ (n:Int) (o:List Int):Prop where
 UF:o.Pairwise (· < ·)
 row: ∀y∈o,0<=y/\y<n
theorem FJ.more {j:Int} {o:List Int} (h:FJ j o):FJ (j+1) o:=⟨h.UF,λy hy=>by have:=h.row y hy;omega⟩
theorem FJ.add {j:Int} {o:List Int} (h:FJ j o) (h0:0<=j):FJ (j+1) (o++ [j]):=by
 refine ⟨List.pairwise_append.2 ⟨h.UF,by simp,λa ha b hb=>?_⟩,λy hy=>?_⟩
 ·rw [Ad.1 hb];exact (h.row a ha).2
 ·rcases Av.1 hy with h1|h1
  ·have:=h.row y h1;omega
  ·rw [Ad.1 h1];omega
theorem FJ.le {j n:Int} {o:List Int} (h:FJ j o) (hj:j<=n):FJ n o:=⟨h.UF,λy hy=>by have:=h.row y hy;omega⟩
theorem pn {n:Nat} {l:Int} (h:Cc n l):l∈Be n:=by
 obtain ⟨h0,h1,h2⟩:=h
 by_cases hp:0<l
 ·have:=(kd (n:=n) (k:=(l-1).toNat) (by omega)).1
  rwa [show ((l-1).toNat:Int)+1=l by omega] at this
 ·have:=(kd (n:=n) (k:=(-l-1).toNat) (by omega)).2
  rwa [show-(((-l-1).toNat:Int)+1)=l by omega] at this
structure lz (p:PP) (ts:List TT):Prop where
 set:mw p ts=true
 AY:ts.length<=2
 short:HG ts
 valid: ∀t∈ts,my p t=true
theorem lz.add {p:PP} (hp:AJ p) {ts:List TT} (h:lz p ts) {t:TT} (ht:my p t=true):mw p (ts++ [t])=true:=by
 have:=h.AY
 refine Fg.2 ⟨Fg.2 ⟨hp.valid,Ct (by rw [Cf,Ex];omega)⟩,Au.2 λt' JF=>?_⟩
 rcases Av.1 JF with h4|h4
 ·exact h.valid t' h4
 ·rw [Ad.1 h4];exact ht
section
variable {p:PP} {ts:List TT} {s:List Int}
end
section
variable {α β:Type}
end
section
variable {p:PP}
theorem pD {n:Nat} {x y z:List Int} (hx:Pm n x) (hy:Pm n y) (hz:Pm n z) (e:As x z=As y z):x=y:=by
 have:As (As x z) (Bx z)=As (As y z) (Bx z):=Fh (λa=>As a (Bx z)) e
 rwa [Js hx hz hz.inv,Js hy hz hz.inv,cT hz,comp_id hx,comp_id hy] at this
end
def qh (b:List Int):Prop:=b.length<=1048576/\ ∀y∈b,0<=y/\y<256
noncomputable abbrev wH:Spec:=Kx (.pair tB .unit) .bool false true (λx=>qh x.1) (λ_=>true)
theorem UK {code:List Int} (h:qh code) (hb: ¬(code.length:Int)>4096):kY code 0:=⟨by omega,h.2,Int.le_refl _,by omega⟩
abbrev MC:Type:=List Int×List Int×Unit
def Em (s:List Int):List Int:=(upto s.length).filter λi=>decide (Gr s i≠i)
noncomputable abbrev eC:Spec:=Kx (.pair tL .unit) tL false true (λx=>short x.1) (λx=>Em x.1)
def Ip (p q:List Int):Bool:=decide (As p q=As q p)
noncomputable abbrev Wd:Spec:=Kx (.pair tL (.pair tL .unit)) .bool false true (λx=>List.length x.1<=20/\List.length x.2.1=List.length x.1/\Ox (List.length x.1) x.1/\Ox (List.length x.1) x.2.1) (λx=>Ip x.1 x.2.1)
noncomputable abbrev Tb:Spec:=Kx (.pair tL (.pair wV .unit)) .bool false true (λx=>List.length x.1<=20/\Ox (List.length x.1) x.1/\List.length x.2.1<=8/\ ∀q∈x.2.1,List.length q=List.length x.1/\Ox (List.length x.1) q) (λx=>List.all x.2.1 (Ip x.1))
noncomputable def gh (n:Int) (g:List (List Int)):Bool:=Lu n g&&List.all g λp=>List.all g (Ip p)
noncomputable abbrev gr:Spec:=Kx (.pair tI (.pair wV .unit)) .bool false true (λx=>Rv x.2.1) (λx=>gh x.1 x.2.1)
noncomputable abbrev Tk:Spec:=Kx (.pair Oq (.pair tL .unit)) .bool false true (λx=>Zk x.1/\short x.2.1) (λx=>m_validP x.1&&Fq (List.length x.1.2.2.1:Nat) x.2.1)
noncomputable abbrev Qh:Spec:=Kx (.pair Oq (.pair tL .unit)) tL false true (λx=>m_validP x.1=true/\Fq (List.length x.1.2.2.1:Nat) x.2.1=true) (λx=>Hp x.1.2.2.1 (upto x.1.1.toNat) x.2.1)
noncomputable abbrev Td:Spec:=Kx (.pair Oq (.pair tL .unit)) tL false false (λx=>m_validP x.1=true/\Fq (List.length x.1.2.2.1:Nat) x.2.1=true) (λx=>Hp x.1.2.2.1 (upto x.1.1.toNat) x.2.1)
noncomputable def au (p:PP) (m:MC):Bool:=(m_validP p&&Fq (List.length p.2.2.1:Nat) m.1)&&(decide (0<(Em (Hp p.2.2.1 (upto p.1.toNat) m.1)).length)&&decide (Em (Hp p.2.2.1 (upto p.1.toNat) m.1)=m.2.1))
noncomputable abbrev Tg:Spec:=Kx (.pair Oq (.pair nw .unit)) .bool false true (λx=>Zk x.1/\short x.2.1.1/\short x.2.1.2.1) (λx=>au x.1 x.2.1)
noncomputable abbrev Tj:Spec:=Kx (.pair tL .unit) tL false true (λx=>Hq x.1=true/\List.length x.1<=12) (λx=>Em x.1)
noncomputable abbrev Qi:Spec:=Kx (.pair tI (.pair tI .unit)) .bool false true (λx=> -100<=x.2.1/\x.2.1<=100) (λx=>decide (x.1=x.2.1\/x.1= -x.2.1))
def Ni (x y:Int):List Int:= [x,y,-x,-y]
noncomputable def Jj (p:PP) (x y:Int):List Int:=Hp p.2.2.1 (upto p.1.toNat) (Ni x y)
noncomputable def Ht (p:PP) (x:Int) (v:List MC×(ByteArray->Option Bool)) (y:Int):List MC×(ByteArray->Option Bool):=
 if (x=y\/x= -y)\/(v.2 (Jk (Jj p x y))).getD false=true then v else (v.1++ [(Ni x y,Em (Jj p x y),())],Sb v.2 (Jk (Jj p x y)) true)
noncomputable def Xz (p:PP) (v:List MC×(ByteArray->Option Bool)) (x:Int):List MC×(ByteArray->Option Bool):=(Be p.2.2.1.length).foldl (Ht p x) v
noncomputable def eM (p:PP) (xs:List Int):List MC×(ByteArray->Option Bool):=xs.foldl (Xz p) ([],Sb (λ_=>none) (Jk (upto p.1.toNat)) true)
noncomputable def Nz (p:PP):List MC:=if m_validP p=true then (eM p (Be p.2.2.1.length)).1 else []
noncomputable abbrev Xj:Spec:=Kx (.pair Oq .unit) (.slice nw) false true (λx=>Zk x.1/\x.1.1<=12) (λx=>Nz x.1)
theorem HN (s:List Int) (P:List Int->Prop):(0=0/\0=([]:List Int).length/\Gz (λ(v2:Int×List Int×PUnit) (k3:Int×List Int×PUnit->Prop)=>Br (decide (v2.1<(↑s.length:Int))) (∃(y4:Int),idx s v2.1=some y4/\Br (y4 !=v2.1) (0=0/\v2.2.1.length=v2.2.1.length/\v2.2.1.length+(List.take 1 (List.drop 0 [v2.1])).length<=Ga/\0=0/\(v2.2.1++List.take 1 (List.drop 0 [v2.1])).length=(v2.2.1++List.take 1 (List.drop 0 [v2.1])).length/\k3 (IntKind.i64.wrap (v2.1+(1:Int)),v2.2.1++List.take 1 (List.drop 0 [v2.1]),())) (0=0/\v2.2.1.length=v2.2.1.length/\k3 (IntKind.i64.wrap (v2.1+(1:Int)),v2.2.1,()))) (P (List.take v2.2.1.length (List.drop 0 v2.2.1)))) ((0:Int),[],PUnit.unit))=fnW Hi (look []) eC Try.f31 (s,()) P:=by kernel_rfl
theorem zG (p q:List Int) (P:Bool->Prop):(∃(y3:List Int),Jo.fn (p,q,())=some y3/\ ∃(y4:List Int),Jo.fn (q,p,())=some y4/\ ∃(y5:Bool),Ku.fn (y3,y4,())=some y5/\P y5)=fnW Hi (look [(94,Jo),(33,Ku)]) Wd Try.f68 (p,q,()) P:=by kernel_rfl
theorem zF (p:List Int) (g:List (List Int)) (P:Bool->Prop):(Gz (λ(v3:Int×PUnit) (k4:Int×PUnit->Prop)=>Br (decide (v3.1<(↑g.length:Int))) (∃(y5:List Int),idx g v3.1=some y5/\ ∃(y6:Bool),Wd.fn (p,y5,())=some y6/\Br (!y6) (P false) (k4 (IntKind.i64.wrap (v3.1+(1:Int)),()))) (P true)) ((0:Int),PUnit.unit))=fnW Hi (look [(68,Wd)]) Tb Try.f35 (p,g,()) P:=by kernel_rfl
theorem MX (n:Int) (g:List (List Int)) (P:Bool->Prop):(∃(y3:Bool),Jx.fn (n,g,())=some y3/\Br (!y3) (P false) (Gz (λ(v4:Int×PUnit) (k5:Int×PUnit->Prop)=>Br (decide (v4.1<(↑g.length:Int))) (∃(y6:List Int),idx g v4.1=some y6/\ ∃(y7:Bool),Tb.fn (y6,g,())=some y7/\Br (!y7) (P false) (k5 (IntKind.i64.wrap (v4.1+(1:Int)),()))) (P true)) ((0:Int),PUnit.unit)))=fnW Hi (look [(34,Jx),(35,Tb)]) gr Try.f10 (n,g,()) P:=by kernel_rfl
theorem xc (p:Int×ByteArray×List (List Int)×Unit) (w:List Int) (P:Bool->Prop):(∃(y3:Bool),Mu.fn ((p.1,p.2.1,p.2.2.1,()),())=some y3/\Br y3 (∃(y4:Bool),Mv.fn ((↑p.2.2.1.length:Int),w,())=some y4/\P y4) (P false))=fnW Hi (look [(64,Mu),(65,Mv)]) Tk Try.f30 (p,w,()) P:=by kernel_rfl
theorem sm (p:Int×ByteArray×List (List Int)×Unit) (w:List Int) (P:List Int->Prop):(∃(y3:List Int),Tf.fn (p.1,())=some y3/\ ∃(y4:List Int),Wc.fn ((p.1,p.2.1,p.2.2.1,()),y3,w,())=some y4/\P y4)=fnW Hi (look [(58,Tf),(66,Wc)]) Td Try.f32 (p,w,()) P:=by kernel_rfl
theorem zI (p:Int×ByteArray×List (List Int)×Unit) (m:List Int×List Int×Unit) (P:Bool->Prop):(∃(y3:Bool),Tk.fn ((p.1,p.2.1,p.2.2.1,()),m.1,())=some y3/\Br (!y3) (P false) (∃(y4:List Int),Td.fn ((p.1,p.2.1,p.2.2.1,()),m.1,())=some y4/\ ∃(y5:List Int),eC.fn (y4,())=some y5/\Br (decide ((↑y5.length:Int)>(0:Int))) (∃(y6:Bool),Ku.fn (y5,m.2.1,())=some y6/\P y6) (P false)))=fnW Hi (look [(30,Tk),(32,Td),(31,eC),(33,Ku)]) Tg Try.f9 (p,m,()) P:=by kernel_rfl
theorem xa (a b:Int) (P:Bool->Prop):(Br (a==b) (P true) (P (a==IntKind.i64.wrap ((0:Int)-b))))=fnW Hi (look []) Qi Try.f28 (a,b,()) P:=by kernel_rfl
theorem si (p:Int×ByteArray×List (List Int)×Unit) (w:List Int) (P:List Int->Prop):(∃(y3:List Int),Te.fn (p.1,p.2.2.1,w,())=some y3/\P y3)=fnW Hi (look [(61,Te)]) Qh Try.f27 (p,w,()) P:=by kernel_rfl
abbrev eD:Type:=Int×Int×ByteArray×List (List Int)×List (List Int×List Int×PUnit)×(ByteArray->Option Bool)×PUnit
theorem EL (p:Int×ByteArray×List (List Int)×Unit) (P:List (List Int×List Int×Unit)->Prop):(∃(y2:Bool),Mu.fn ((p.1,p.2.1,p.2.2.1,()),())=some y2/\Br (!y2) (P (List.take 0 (List.drop 0 []))) (∃(y3:List Int),Kv.fn (p.1,())=some y3/\ ∃(y4:ByteArray),Mo.fn (y3,())=some y4/\ ∃(y5:List Int),Ti.fn ((↑p.2.2.1.length:Int),())=some y5/\0=0/\0=([]:List Int).length/\Gz (λ(v6:eD) (k7:eD->Prop)=>Br (decide (v6.1<(↑y5.length:Int))) (∃(y8:Int),idx y5 v6.1=some y8/\0=0/\v6.2.2.2.2.1.length=v6.2.2.2.2.1.length/\Gz (λ(v9:eD) (RF:eD->Prop)=>Br (decide (v9.1<(↑y5.length:Int))) (∃(iP:Int),idx y5 v9.1=some iP/\ ∃(pW:List Int),Qh.fn ((v9.2.1,v9.2.2.1,v9.2.2.2.1,()),List.take 4 (List.drop 0 [y8,iP,IntKind.i64.wrap ((0:Int)-y8),IntKind.i64.wrap ((0:Int)-iP)]),())=some pW/\ ∃(HO:Bool),Qi.fn (y8,iP,())=some HO/\Br HO (0=0/\v9.2.2.2.2.1.length=v9.2.2.2.2.1.length/\RF (IntKind.i64.wrap (v9.1+(1:Int)),v9.2.1,v9.2.2.1,v9.2.2.2.1,v9.2.2.2.2.1,v9.2.2.2.2.2.1,())) (∃(FI:ByteArray),Mo.fn (pW,())=some FI/\Br ((v9.2.2.2.2.2.1 FI).getD false) (0=0/\v9.2.2.2.2.1.length=v9.2.2.2.2.1.length/\RF (IntKind.i64.wrap (v9.1+(1:Int)),v9.2.1,v9.2.2.1,v9.2.2.2.1,v9.2.2.2.2.1,v9.2.2.2.2.2.1,())) (∃(y15:ByteArray),Mo.fn (pW,())=some y15/\ ∃(SD:List Int),Tj.fn (pW,())=some SD/\0=0/\v9.2.2.2.2.1.length=v9.2.2.2.2.1.length/\v9.2.2.2.2.1.length+(List.take 1 (List.drop 0 [(List.take 4 (List.drop 0 [y8,iP,IntKind.i64.wrap ((0:Int)-y8),IntKind.i64.wrap ((0:Int)-iP)]),SD,())])).length<=Ga/\0=0/\(v9.2.2.2.2.1++List.take 1 (List.drop 0 [(List.take 4 (List.drop 0 [y8,iP,IntKind.i64.wrap ((0:Int)-y8),IntKind.i64.wrap ((0:Int)-iP)]),SD,())])).length=(v9.2.2.2.2.1++List.take 1 (List.drop 0 [(List.take 4 (List.drop 0 [y8,iP,IntKind.i64.wrap ((0:Int)-y8),IntKind.i64.wrap ((0:Int)-iP)]),SD,())])).length/\RF (IntKind.i64.wrap (v9.1+(1:Int)),v9.2.1,v9.2.2.1,v9.2.2.2.1,v9.2.2.2.2.1++List.take 1 (List.drop 0 [(List.take 4 (List.drop 0 [y8,iP,IntKind.i64.wrap ((0:Int)-y8),IntKind.i64.wrap ((0:Int)-iP)]),SD,())]),Sb v9.2.2.2.2.2.1 y15 true,())))) (0=0/\v9.2.2.2.2.1.length=v9.2.2.2.2.1.length/\k7 (IntKind.i64.wrap (v6.1+(1:Int)),v9.2.1,v9.2.2.1,v9.2.2.2.1,v9.2.2.2.2.1,v9.2.2.2.2.2.1,()))) ((0:Int),v6.2.1,v6.2.2.1,v6.2.2.2.1,v6.2.2.2.2.1,v6.2.2.2.2.2.1,PUnit.unit)) (P (List.take v6.2.2.2.2.1.length (List.drop 0 v6.2.2.2.2.1)))) ((0:Int),p.1,p.2.1,p.2.2.1,[],Sb (λ(_:ByteArray)=>none) y4 true,PUnit.unit)))=fnW Hi (look [(23,Mu),(24,Mo),(25,Kv),(26,Ti),(27,Qh),(28,Qi),(29,Tj)]) Xj Try.f8 (p,()) P:=by kernel_rfl
theorem HD (s:List Int) (h:short s):fnW Hi (look []) eC Try.f31 (s,()) (λ(z:List Int)=>z=Em s):=by
 refine Eq.mp (HN s _) ⟨rfl,rfl,?_⟩
 have h:s.length<=4294967296:=h
 refine Cl s.length (λv=>v.1) (λj v=>v.2.1=(upto j).filter λi=>decide (Gr s i≠i)) rfl rfl ?_
 rintro j ⟨j',out,⟨⟩⟩ K hj iR ho hK
 dsimp only at iR ho
 subst iR
 have hol:out.length<=j:=by
  rw [ho]
  exact Kj (List.length_filter_le _ _) (by rw [Ps];exact Ao _)
 dsimp only
 refine Br.dec (λhl=>?_) λhl=>?_
 ·have hl:j<s.length:=by omega
  have hg:Gr s (j:Int)=s[j]:=Kp hl
  have hn:(upto (j+1)).filter (λi=>decide (Gr s i≠i))=out++ [(j:Int)].filter (λi=>decide (Gr s i≠i)):=by rw [Wi,List.filter_append,<-ho]
  refine ⟨_,El hl,Br.of (λhc=>?_) λhc=>?_⟩
  ·have hc:s[j]≠(j:Int):=by simpa using hc
   refine ⟨rfl,rfl,by show out.length+1<=4294967296;omega,rfl,rfl,?_⟩
   rw [Dr (by omega)]
   refine hK hl _ rfl ?_
   rw [hn,List.filter_cons_of_pos (by rw [hg];exact Ct hc)]
   rfl
  ·have hc:s[j]=(j:Int):=by simpa using hc
   refine ⟨rfl,rfl,?_⟩
   rw [Dr (by omega)]
   refine hK hl _ rfl ?_
   rw [hn,List.filter_cons_of_neg (by rw [hg,hc];simp),List.filter_nil,List.append_nil]
 ·have:j=s.length:=by omega
  subst this
  rw [Ou,ho]
  rfl
theorem uv:Sound Try.prog 31 eC:=
 Sound.Kx Gc Dk mixed Try.func31 (by kernel_rfl) (by kernel_rfl) λx h=>HD x.1 h
theorem z6 (p q:List Int) (h:p.length<=20/\q.length=p.length/\Ox p.length p/\Ox p.length q):fnW Hi (look [(94,Jo),(33,Ku)]) Wd Try.f68 (p,q,()) (λ(z:Bool)=>z=Ip p q):=by
 obtain ⟨h1,h2,h3,h4⟩:=h
 have hl: ∀a b:List Int,(As a b).length=a.length:=Ya
 refine Eq.mp (zG p q _) ⟨As p q,Af ⟨by omega,by rw [h2];exact h3⟩,As q p,Af ⟨by show q.length<=20;omega,by exact h4⟩,_,Af (show (As p q).length<=4294967296 by rw [hl];omega),rfl⟩
theorem oh:Sound Try.prog 68 Wd:=
 Sound.Kx Gc (Cg iJ (Cg cg Dk)) mixed Try.func68 (by kernel_rfl) (by kernel_rfl) λx h=>z6 x.1 x.2.1 h
theorem yZ (p:List Int) (g:List (List Int)) (h:p.length<=20/\Ox p.length p/\g.length<=8/\ ∀q∈g,q.length=p.length/\Ox p.length q):fnW Hi (look [(68,Wd)]) Tb Try.f35 (p,g,()) (λ(z:Bool)=>z=List.all g (Ip p)):=by
 obtain ⟨h1,h2,h3,h4⟩:=h
 refine Eq.mp (zF p g _) ?_
 refine Cl g.length (λv=>v.1) (λj _=>List.all (g.take j) (Ip p)=true) rfl rfl ?_
 rintro j ⟨j',⟨⟩⟩ K hj iR ho hK
 dsimp only at iR ho
 subst iR
 dsimp only
 refine Br.dec (λhl=>?_) λhl=>?_
 ·have hl:j<g.length:=by omega
  obtain ⟨a1,a2⟩:=h4 _ (Ar hl)
  refine ⟨_,El hl,_,Af ⟨h1,a1,h2,a2⟩,Br.of (λhc=>?_) λhc=>?_⟩
  ·have hc:Ip p g[j]=false:=lM hc
   symm
   exact List.all_eq_false.2 ⟨g[j],Ar hl,by rw [hc];decide⟩
  ·have hc:Ip p g[j]=true:=Gd hc
   rw [Dr (by omega)]
   refine hK hl _ rfl ?_
   rw [Xt,Ac hl,List.all_append,ho]
   show (true&&(Ip p g[j]&&true))=true
   rw [hc]
   rfl
 ·have:j=g.length:=by omega
  subst this
  rw [Bj] at ho
  exact ho.symm
theorem og:Sound Try.prog 35 Tb:=
 Sound.Kx Gc (Cg oh Dk) mixed Try.func35 (by kernel_rfl) (by kernel_rfl) λx h=>yZ x.1 x.2.1 h
theorem wq (a b:Int) (h: -100<=b/\b<=100):fnW Hi (look []) Qi Try.f28 (a,b,()) (λ(z:Bool)=>z=decide (a=b\/a= -b)):=by
 refine Eq.mp (xa a b _) ?_
 have ew:IntKind.i64.wrap (0-b)= -b:=by rw [En (by omega) (by omega)];omega
 rw [ew]
 refine Br.of (λhc=>?_) λhc=>?_
 ·exact (Ct (Or.inl (eq_of_beq hc))).symm
 ·have hc: ¬a=b:= λe=>by rw [e] at hc;simp at hc
  refine Bool.eq_iff_iff.2 (beq_iff_eq.trans ⟨λe=>Ct (Or.inr e),λe=>(Dh e).resolve_left hc⟩)
theorem nk:Sound Try.prog 28 Qi:=
 Sound.Kx Gc Dk mixed Try.func28 (by kernel_rfl) (by kernel_rfl) λx h=>wq x.1 x.2.1 h
theorem wv (p:PP) (w:List Int) (h:Zk p/\short w):fnW Hi (look [(64,Mu),(65,Mv)]) Tk Try.f30 (p,w,()) (λ(z:Bool)=>z=(m_validP p&&Fq (List.length p.2.2.1:Nat) w)):=by
 have hg:=h.1
 refine Eq.mp (xc p w _) ⟨m_validP p,Af h.1,Br.of (λhv=>?_) λhv=>?_⟩
 ·have h8:=(valid hv).AY
  refine ⟨_,Af ⟨h.2,by show (0:Int)<=(p.2.2.1.length:Nat);omega,by show ((p.2.2.1.length:Nat):Int)<=4294967296;omega⟩,?_⟩
  rw [hv]
  rfl
 ·rw [hv]
  rfl
theorem np:Sound Try.prog 30 Tk:=
 Sound.Kx Gc (Cg jB (Cg jC Dk)) mixed Try.func30 (by kernel_rfl) (by kernel_rfl) λx h=>wv x.1 x.2.1 h
theorem re (p:PP) (w:List Int) (h:m_validP p=true/\Fq (List.length p.2.2.1:Nat) w=true):fnW Hi (look [(58,Tf),(66,Wc)]) Td Try.f32 (p,w,()) (λ(z:List Int)=>z=Hp p.2.2.1 (upto p.1.toNat) w):=by
 obtain ⟨hv,hw⟩:=h
 have hn:=(valid hv).n
 obtain ⟨w1,w2⟩:=Zn hw
 have GB:Pm p.1.toNat (upto p.1.toNat):=Pm.id (by omega) (by omega)
 exact Eq.mp (sm p w _) ⟨upto p.1.toNat,Af ⟨by show 0<=p.1;omega,by show p.1<=20;omega⟩,_,Af ⟨hv,GB,by show w.length<=4294967296;omega,w2⟩,rfl⟩
theorem jA:Sound Try.prog 32 Td:=
 Sound.Kx Gc (Cg ng (Cg oe Dk)) mixed Try.func32 (by kernel_rfl) (by kernel_rfl) λx h=>re x.1 x.2.1 h
theorem r6 (p:PP) (w:List Int) (h:m_validP p=true/\Fq (List.length p.2.2.1:Nat) w=true):fnW Hi (look [(61,Te)]) Qh Try.f27 (p,w,()) (λ(z:List Int)=>z=Hp p.2.2.1 (upto p.1.toNat) w):=
 Eq.mp (si p w _) ⟨_,Af ⟨p,h.1,rfl,rfl,h.2⟩,rfl⟩
theorem jx:Sound Try.prog 27 Qh:=
 Sound.Kx Gc (Cg nf Dk) mixed Try.func27 (by kernel_rfl) (by kernel_rfl) λx h=>r6 x.1 x.2.1 h
theorem vK {n:Int} {g:List (List Int)} (h:Lu n g=true):(1<=n/\n<=20)/\g.length<=8/\ ∀p∈g,(p.length:Int)=n/\Ox p.length p:=by
 obtain ⟨h1,h2,h3⟩:=Fz.1 h
 refine ⟨h1,h2,λp hp=>?_⟩
 obtain ⟨h4,h5⟩:=Fz.1 (h3 p hp)
 exact ⟨h4,(bq h5).row⟩
theorem MI (n:Int) (g:List (List Int)) (h:Rv g):fnW Hi (look [(34,Jx),(35,Tb)]) gr Try.f10 (n,g,()) (λ(z:Bool)=>z=gh n g):=by
 refine Eq.mp (MX n g _) ⟨_,Af h,?_⟩
 unfold gh
 refine Br.of (λhc=>?_) λhc=>?_
 ·have hc:Lu n g=false:=lM hc
  rw [hc]
  rfl
 ·have hc:Lu n g=true:=Gd hc
  rw [hc,Bool.true_and]
  obtain ⟨g1,g2,g3⟩:=vK hc
  have Ig: ∀p∈g,Tb.fn (p,g,())=some (List.all g (Ip p)):= λp hp=>by
   obtain ⟨b1,b2⟩:=g3 p hp
   refine Af ⟨by show p.length<=20;omega,b2,by show g.length<=8;omega,λq hq=>?_⟩
   obtain ⟨c1,c2⟩:=g3 q hq
   exact ⟨by show q.length=p.length;omega,by rw [show p.length=q.length by omega];exact c2⟩
  refine Cl g.length (λv=>v.1) (λj _=>List.all (g.take j) (λp=>List.all g (Ip p))=true) rfl rfl ?_
  rintro j ⟨j',⟨⟩⟩ K hj iR ho hK
  dsimp only at iR ho
  subst iR
  dsimp only
  refine Br.dec (λhl=>?_) λhl=>?_
  ·have hl:j<g.length:=by omega
   refine ⟨_,El hl,_,Ig _ (Ar hl),Br.of (λhc=>?_) λhc=>?_⟩
   ·have hc:List.all g (Ip g[j])=false:=lM hc
    symm
    exact List.all_eq_false.2 ⟨g[j],Ar hl,by rw [hc];decide⟩
   ·have hc:List.all g (Ip g[j])=true:=Gd hc
    rw [Dr (by omega)]
    refine hK hl _ rfl ?_
    rw [Xt,Ac hl,List.all_append,ho]
    show (true&&(List.all g (Ip g[j])&&true))=true
    rw [hc]
    rfl
  ·have:j=g.length:=by omega
   subst this
   rw [Bj] at ho
   exact ho.symm
theorem wM:Sound Try.prog 10 gr:=
 Sound.Kx Gc (Cg aF (Cg og Dk)) mixed Try.func10 (by kernel_rfl) (by kernel_rfl) λx h=>MI x.1 x.2.1 h
theorem z8 (p:PP) (m:MC) (h:Zk p/\short m.1/\short m.2.1):fnW Hi (look [(30,Tk),(32,Td),(31,eC),(33,Ku)]) Tg Try.f9 (p,m,()) (λ(z:Bool)=>z=au p m):=by
 refine Eq.mp (zI p m _) ⟨_,Af ⟨h.1,h.2.1⟩,?_⟩
 unfold au
 refine Br.of (λhc=>?_) λhc=>?_
 ·have hc:(m_validP p&&Fq (List.length p.2.2.1:Nat) m.1)=false:=lM hc
  rw [hc]
  rfl
 ·have hc:(m_validP p&&Fq (List.length p.2.2.1:Nat) m.1)=true:=Gd hc
  obtain ⟨hv,hw⟩:=Fg.1 hc
  have hn:=(valid hv).n
  obtain ⟨w1,w2⟩:=Zn hw
  have GB:Pm p.1.toNat (upto p.1.toNat):=Pm.id (by omega) (by omega)
  have hq:=Zt (valid hv) m.1 _ w2 GB
  rw [hc,Bool.true_and]
  obtain ⟨E,hE⟩: ∃E,Hp p.2.2.1 (upto p.1.toNat) m.1=E:=⟨_,rfl⟩
  rw [hE] at hq⊢
  have e4:Td.fn ((p.1,p.2.1,p.2.2.1,()),m.1,())=some E:=(Af ⟨hv,hw⟩).trans (Fh some hE)
  have YX:short E:=dB hq
  have hmo:short (Em E):=by
   show (Em E).length<=4294967296
   unfold Em
   have h1:=List.length_filter_le (λi=>decide (Gr E i≠i)) (upto E.length)
   rw [Ps] at h1
   have h2:E.length<=4294967296:=YX
   omega
  refine ⟨E,e4,Em E,Af YX,Br.dec (λhl=>?_) λhl=>?_⟩
  ·refine ⟨_,Af hmo,?_⟩
   rw [Ct (show 0<(Em E).length by omega),Bool.true_and]
   rfl
  ·rw [La (show ¬0<(Em E).length by omega),Bool.false_and]
theorem om:Sound Try.prog 9 Tg:=
 Sound.Kx Gc (Cg np (Cg jA (Cg uv (Cg cg Dk)))) mixed Try.func9 (by kernel_rfl) (by kernel_rfl) λx h=>z8 x.1 x.2.1 h
theorem ET {n:Nat} {w:List Int} (h8:n<=8) (hl:w.length<=200) (h: ∀y∈w,Cc n y):Fq (n:Int) w=true:=by
 refine Fg.2 ⟨Ct hl,?_⟩
 cases e:List.any w λy=>!yU (gI (n:Int)) y with
 |false=>rfl
 |true=>
  obtain ⟨y,hy,h1⟩:=Dv.1 e
  have h2:=h y hy
  have:yU (gI (n:Int)) y=true:=by
   unfold Cc at h2
   have e8:gI (n:Int)=n:=Aj (by omega)
   rw [e8]
   exact Ct h2
  rw [this] at h1
  cases h1
theorem OG (p:PP) (x:Int) (v:List MC×(ByteArray->Option Bool)) (y:Int):Ht p x v y=if (x=y\/x= -y)\/(v.2 (Jk (Jj p x y))).getD false=true then v else (v.1++ [(Ni x y,Em (Jj p x y),())],Sb v.2 (Jk (Jj p x y)) true):=rfl
theorem vv (p:PP) (x:Int) (v:List MC×(ByteArray->Option Bool)) (y:Int):(Ht p x v y).1.length<=v.1.length+1:=by
 unfold Ht
 split
 ·omega
 ·show (v.1++ [_]).length<=_
  rw [Cf,Ex]
  exact Ao _
theorem fP (p:PP) (x:Int): ∀(ys:List Int) (v:List MC×(ByteArray->Option Bool)),(ys.foldl (Ht p x) v).1.length<=v.1.length+ys.length
 | [],v=>Ao _
 |y::ys,v=>by
  rw [Ky,Bf]
  have h1:=fP p x ys (Ht p x v y)
  have h2:=vv p x v y
  omega
theorem iW (p:PP) (h:(Be p.2.2.1.length).length<=16): ∀(xs:List Int) (v:List MC×(ByteArray->Option Bool)),(xs.foldl (Xz p) v).1.length<=v.1.length+16*xs.length
 | [],v=>Ao _
 |x::xs,v=>by
  rw [Ky,Bf]
  have h1:=iW p h xs (Xz p v x)
  have h2:=fP p x (Be p.2.2.1.length) v
  have h2:(Xz p v x).1.length<=v.1.length+(Be p.2.2.1.length).length:=h2
  omega
theorem DF (p:PP) (h:Zk p/\p.1<=12):fnW Hi (look [(23,Mu),(24,Mo),(25,Kv),(26,Ti),(27,Qh),(28,Qi),(29,Tj)]) Xj Try.f8 (p,()) (λ(z:List MC)=>z=Nz p):=by
 obtain ⟨hs,EY⟩:=h
 refine Eq.mp (EL p _) ⟨m_validP p,Af hs,Br.of (λhv=>?_) λhv=>?_⟩
 ·have hv:m_validP p=false:=lM hv
  unfold Nz
  rw [Aj (by rw [hv];decide)]
  rfl
 have hv:m_validP p=true:=Gd hv
 have hV:=valid hv
 have hn:=hV.n
 have h8:=hV.AY
 have GB:Pm p.1.toNat (upto p.1.toNat):=Pm.id (by omega) (by omega)
 have FD:(Be p.2.2.1.length).length=2*p.2.2.1.length:=Tv _
 have yy:Ti.fn ((p.2.2.1.length:Int),())=some (Be p.2.2.1.length):=(Af ⟨by show (0:Int)<=(p.2.2.1.length:Nat);omega,by show ((p.2.2.1.length:Nat):Int)<=8;omega⟩).trans (Fh some (by show Be ((p.2.2.1.length:Nat):Int).toNat=_;rw [Cq]))
 unfold Nz
 rw [Af hv]
 obtain ⟨n,str,g,u⟩:=p
 obtain rfl:u=():=rfl
 dsimp only at*
 refine ⟨upto n.toNat,Af ⟨by show 0<=n;omega,by show n<=20;omega⟩,_,Af (dB GB),_,yy,rfl,rfl,?_⟩
 refine Cl (Be g.length).length (λv=>v.1) (λj v=>v.2=(n,str,g,(eM (n,str,g,()) ((Be g.length).take j)).1,(eM (n,str,g,()) ((Be g.length).take j)).2,())) rfl rfl ?_
 rintro j ⟨j',V⟩ K hj iR ZB hK
 dsimp only at iR ZB
 subst ZB iR
 dsimp only
 refine Br.dec (λhl=>?_) λhl=>?_
 ·have hl:j<(Be g.length).length:=by omega
  obtain ⟨x,hx⟩: ∃x,(Be g.length)[j]=x:=⟨_,rfl⟩
  have hxl:=Qp (show x∈Be g.length by rw [<-hx];exact Ar hl)
  have xA:eM (n,str,g,()) ((Be g.length).take (j+1))=Xz (n,str,g,()) (eM (n,str,g,()) ((Be g.length).take j)) x:=by
   rw [Xt,Ac hl,hx]
   unfold eM
   rw [List.foldl_append]
   rfl
  have TH:=iW (n,str,g,()) (by show (Be g.length).length<=16;omega) ((Be g.length).take j) ([],Sb (λ_=>none) (Jk (upto n.toNat)) true)
  have TH:(eM (n,str,g,()) ((Be g.length).take j)).1.length<=0+16*((Be g.length).take j).length:=TH
  rw [Ed] at TH
  obtain ⟨U,hU⟩: ∃U,eM (n,str,g,()) ((Be g.length).take j)=U:=⟨_,rfl⟩
  rw [hU] at xA TH⊢
  refine ⟨x,by rw [<-hx];exact El hl,rfl,rfl,?_⟩
  refine Cl (Be g.length).length (λv=>v.1) (λi v=>v.2=(n,str,g,(((Be g.length).take i).foldl (Ht (n,str,g,()) x) U).1,(((Be g.length).take i).foldl (Ht (n,str,g,()) x) U).2,())) rfl rfl ?_
  rintro i ⟨i',W⟩ K2 hi k9 ZC UY
  dsimp only at k9 ZC
  subst ZC k9
  dsimp only
  have PN:=fP (n,str,g,()) x ((Be g.length).take i) U
  rw [Ed] at PN
  refine Br.dec (λp9=>?_) λp9=>?_
  ·have p9:i<(Be g.length).length:=by omega
   obtain ⟨y,hy⟩: ∃y,(Be g.length)[i]=y:=⟨_,rfl⟩
   have hyl:=Qp (show y∈Be g.length by rw [<-hy];exact Ar p9)
   have c5:((Be g.length).take (i+1)).foldl (Ht (n,str,g,()) x) U=Ht (n,str,g,()) x (((Be g.length).take i).foldl (Ht (n,str,g,()) x) U) y:=by
    rw [Xt,Ac p9,hy,List.foldl_append]
    rfl
   obtain ⟨X,hX⟩: ∃X,((Be g.length).take i).foldl (Ht (n,str,g,()) x) U=X:=⟨_,rfl⟩
   rw [hX] at c5 PN⊢
   unfold Cc at hxl hyl
   have SK:IntKind.i64.wrap (0-x)= -x:=by rw [En (by omega) (by omega)];omega
   have SL:IntKind.i64.wrap (0-y)= -y:=by rw [En (by omega) (by omega)];omega
   have ewi:IntKind.i64.wrap ((i:Int)+1)=((i+1:Nat):Int):=Dr (by omega)
   have xH: ∀l∈Ni x y,Cc (List.length g) l:= λl hl=>by
    have hl:l∈ [x,y,-x,-y]:=hl
    simp only [Ay,List.not_mem_nil,or_false] at hl
    unfold Cc
    rcases hl with rfl|rfl|rfl|rfl<;>omega
   have hwv:Fq (List.length g:Nat) (Ni x y)=true:=ET h8.2 (by show 4<=200;decide) xH
   obtain ⟨E,hE⟩: ∃E,Jj (n,str,g,()) x y=E:=⟨_,rfl⟩
   have UR:Pm n.toNat E:=by rw [<-hE];exact Zt hV (Ni x y) _ xH GB
   have e12:Qh.fn ((n,str,g,()),Ni x y,())=some E:=(Af ⟨hv,hwv⟩).trans (Fh some hE)
   have e13:Qi.fn (x,y,())=some (decide (x=y\/x= -y)):=Af ⟨by show-100<=y;omega,by show y<=100;omega⟩
   have YO:Mo.fn (E,())=some (Jk E):=Af (dB UR)
   have QC:Hq E=true:=(Fz.1 (ML hV UR)).2
   have hEl:E.length=n.toNat:=UR.1
   have e16:Tj.fn (E,())=some (Em E):=Af ⟨QC,by show E.length<=12;omega⟩
   rw [OG,hE] at c5
   rw [ewi]
   refine ⟨y,by rw [<-hy];exact El p9,E,by rw [SK,SL];exact e12,_,e13,Br.of (λhc=>?_) λhc=>?_⟩
   ·have hc:=Dh hc
    rw [Af (Or.inl hc)] at c5
    exact ⟨rfl,rfl,UY p9 _ rfl (by rw [c5])⟩
   ·have hc:=of_decide_eq_false hc
    refine ⟨_,YO,Br.of (λhd=>?_) λhd=>?_⟩
    ·rw [Af (Or.inr hd)] at c5
     exact ⟨rfl,rfl,UY p9 _ rfl (by rw [c5])⟩
    ·rw [Aj (λhh=>hh.elim hc λh2=>by rw [h2] at hd;cases hd)] at c5
     refine ⟨_,YO,_,e16,rfl,rfl,by show X.1.length+1<=4294967296;omega,rfl,rfl,?_⟩
     rw [SK,SL]
     exact UY p9 _ rfl (by rw [c5];rfl)
  ·have:i=(Be g.length).length:=by omega
   subst this
   rw [Bj]
   refine ⟨rfl,rfl,?_⟩
   rw [Dr (by omega)]
   exact hK hl _ rfl (by rw [xA];rfl)
 ·have:j=(Be g.length).length:=by omega
  subst this
  rw [Ou,Bj]
theorem CU {n:Nat} {s:List Int} (h:Pm n s) (e:Em s= []):s=upto n:=by
 refine h.ext (Pm.id h.n1 h.n2) λi hi=>?_
 rw [sC hi]
 have h1:Gr s (i:Int)=i:=Cd λhc=>by
  have h2:(i:Int)∈Em s:=Bk.2 ⟨Lw.2 (by have:=h.1;omega),Ct hc⟩
  rw [e] at h2
  cases h2
 unfold ap
 rw [h1]
 rfl
theorem yQ {n:Nat} {s:List Int} (h:Pm n s) (e:s≠upto n):0<(Em s).length:=
 List.length_pos_iff.2 λh1=>e (CU h h1)
theorem yP (s:List Int):(Em s).length<=s.length:=by
 unfold Em
 have:=List.length_filter_le (λi=>decide (Gr s i≠i)) (upto s.length)
 rw [Ps] at this
 exact this
section
variable {p:PP} (hv:m_validP p=true)
include hv
theorem JI:Pm p.1.toNat (upto p.1.toNat):=by
 have hn:=(valid hv).n
 exact Pm.id (by omega) (by omega)
theorem xM {x:Int} (hx:Cc (List.length p.2.2.1) x):Bm p.2.2.1 (-x)=Bx (Bm p.2.2.1 x):=by
 have hV:=valid hv
 have hn:=hV.n
 obtain ⟨k,hk,Om⟩:=Mk hx
 have hp:Pm p.1.toNat (p.2.2.1[k]):=⟨by have:=hV.len _ (Ar hk);omega,bq (hV.perm _ (Ar hk))⟩
 rcases Om with rfl|rfl
 ·rw [It hk,Lf hk]
 ·rw [Int.neg_neg,It hk,Lf hk,inv_inv hp]
omit hv in
theorem mE {x:Int} (hx:Cc (List.length p.2.2.1) x):Cc (List.length p.2.2.1) (-x):=by
 unfold Cc at*
 omega
omit hv in
theorem jQ {x y:Int} (hx:Cc (List.length p.2.2.1) x) (hy:Cc (List.length p.2.2.1) y): ∀l∈Ni x y,Cc (List.length p.2.2.1) l:= λl hl=>by
 have hl:l∈ [x,y,-x,-y]:=hl
 simp only [Ay,List.not_mem_nil,or_false] at hl
 rcases hl with rfl|rfl|rfl|rfl
 ·exact hx
 ·exact hy
 ·exact mE hx
 ·exact mE hy
theorem vB {x y:Int} (hx:Cc (List.length p.2.2.1) x) (hy:Cc (List.length p.2.2.1) y):Pm p.1.toNat (Jj p x y):=
 Zt (valid hv) _ _ (jQ hx hy) (JI hv)
theorem FR {x y:Int} (hx:Cc (List.length p.2.2.1) x) (hy:Cc (List.length p.2.2.1) y):
  Jj p x y=upto p.1.toNat↔As (Bm p.2.2.1 x) (Bm p.2.2.1 y)=As (Bm p.2.2.1 y) (Bm p.2.2.1 x):=by
 have hX:=er (valid hv) hx
 have hY:=er (valid hv) hy
 have e:Jj p x y=As (As (Bm p.2.2.1 x) (Bm p.2.2.1 y)) (Bx (As (Bm p.2.2.1 y) (Bm p.2.2.1 x))):=by
  show As (As (As (As (upto p.1.toNat) (Bm p.2.2.1 x)) (Bm p.2.2.1 y)) (Bm p.2.2.1 (-x))) (Bm p.2.2.1 (-y))=_
  rw [xM hv hx,xM hv hy,id_comp hX,inv_mul hY hX,Js (hX.comp hY) hX.inv hY.inv]
 rw [e]
 refine ⟨λh=>?_,λh=>?_⟩
 ·exact pD (hX.comp hY) (hY.comp hX) (hY.comp hX).inv (h.trans (cT (hY.comp hX)).symm)
 ·rw [h]
  exact cT (hY.comp hX)
def iX (p:PP) (x:Int) (v:List MC×(ByteArray->Option Bool)) (y:Int):Prop:=(x=y\/x= -y)\/(v.2 (Jk (Jj p x y))).getD false=true
omit hv in
theorem jO {x:Int} {v:List MC×(ByteArray->Option Bool)} {y:Int} (h:iX p x v y):Ht p x v y=v:=Af h
omit hv in
theorem cS (x:Int): ∀(ys:List Int) (v:List MC×(ByteArray->Option Bool)),v.1.length<=(ys.foldl (Ht p x) v).1.length
 | [],_=>Ao _
 |y::ys,v=>by
  refine Kj ?_ (cS x ys (Ht p x v y))
  unfold Ht
  split
  ·exact Ao _
  ·show _<=(v.1++ [_]).length
   rw [Cf]
   omega
omit hv in
theorem jN: ∀(xs:List Int) (v:List MC×(ByteArray->Option Bool)),v.1.length<=(xs.foldl (Xz p) v).1.length
 | [],_=>Ao _
 |x::xs,v=>Kj (cS x _ v) (jN xs (Xz p v x))
omit hv in
theorem lP (x:Int): ∀(ys:List Int) (v:List MC×(ByteArray->Option Bool)),v.1= []->((ys.foldl (Ht p x) v).1= []↔ ∀y∈ys,iX p x v y)/\((ys.foldl (Ht p x) v).1= []->ys.foldl (Ht p x) v=v)
 | [],v,hv=>⟨⟨λ_ y hy=>(by cases hy),λ_=>hv⟩,λ_=>rfl⟩
 |y::ys,v,hv=>by
  rw [Ky]
  by_cases hc:iX p x v y
  ·rw [jO hc]
   obtain ⟨a,b⟩:=lP x ys v hv
   refine ⟨a.trans ⟨λh z hz=>?_,λh z hz=>h z (Aq _ hz)⟩,b⟩
   rcases Ay.1 hz with rfl|hz
   ·exact hc
   ·exact h z hz
  ·have h1:(Ht p x v y).1.length=v.1.length+1:=by
    have:Ht p x v y=(v.1++ [(Ni x y,Em (Jj p x y),())],Sb v.2 (Jk (Jj p x y)) true):=Aj hc
    rw [this]
    exact Cf
   have h2:=cS (p:=p) x ys (Ht p x v y)
   have h3: ¬(ys.foldl (Ht p x) (Ht p x v y)).1= []:= λe=>by
    rw [e] at h2
    simp only [Jb] at h2
    omega
   exact ⟨⟨λh=>absurd h h3,λh=>absurd (h y (by simp)) hc⟩,λh=>absurd h h3⟩
omit hv in
theorem fQ: ∀(xs:List Int) (v:List MC×(ByteArray->Option Bool)),v.1= []->((xs.foldl (Xz p) v).1= []↔ ∀x∈xs,∀y∈Be p.2.2.1.length,iX p x v y)
 | [],v,hv=>⟨λ_ y hy=>(by cases hy),λ_=>hv⟩
 |x::xs,v,hv=>by
  rw [Ky]
  obtain ⟨a,b⟩:=lP (p:=p) x (Be p.2.2.1.length) v hv
  refine ⟨λh=>?_,λh=>?_⟩
  ·have h1:(Xz p v x).1= []:=by
    have h2:=jN (p:=p) xs (Xz p v x)
    rw [h] at h2
    exact Tn.1 (by simp only [Jb] at h2;omega)
   have h3:Xz p v x=v:=b h1
   rw [h3] at h
   intro z hz
   rcases Ay.1 hz with rfl|hz
   ·exact a.1 h1
   ·exact (fQ xs v hv).1 h z hz
  ·have h1:(Xz p v x).1= []:=a.2 (h x (by simp))
   have h3:Xz p v x=v:=b h1
   rw [h3]
   exact (fQ xs v hv).2 λz hz=>h z (Aq _ hz)
theorem um {x y:Int} (hx:Cc (List.length p.2.2.1) x) (hy:Cc (List.length p.2.2.1) y):
  iX p x ([],Sb (λ_=>none) (Jk (upto p.1.toNat)) true) y↔(x=y\/x= -y)\/As (Bm p.2.2.1 x) (Bm p.2.2.1 y)=As (Bm p.2.2.1 y) (Bm p.2.2.1 x):=by
 refine or_congr Iff.rfl (Iff.trans ?_ (FR hv hx hy))
 show (Sb (λ_=>none) (Jk (upto p.1.toNat)) true (Jk (Jj p x y))).getD false=true↔_
 unfold Sb
 by_cases e:Jk (Jj p x y)=Jk (upto p.1.toNat)
 ·rw [Af e]
  exact ⟨λ_=>key_inj (xT (vB hv hx hy)) (xT (JI hv)) e,λ_=>rfl⟩
 ·rw [Aj e]
  exact ⟨λh=>(by cases h),λh=>absurd (by rw [h]) e⟩
omit hv in
theorem l5 {n:Nat} {a b:List Int} (ha:Pm n a) (hb:Pm n b) (h:As a b=As b a):As (Bx a) b=As b (Bx a):=by
 have h1:As (As (Bx a) b) a=As (As b (Bx a)) a:=by
  rw [Js ha.inv hb ha,<-h,<-Js ha.inv ha hb,ie ha,id_comp hb,Js hb ha.inv ha,ie ha,comp_id hb]
 exact pD (ha.inv.comp hb) (hb.comp ha.inv) ha h1
theorem vA:Nz p= []↔gh p.1 p.2.2.1=true:=by
 have hV:=valid hv
 have hn:=hV.n
 have hg: ∀m∈p.2.2.1,Pm p.1.toNat m:= λm hm=>⟨by have:=hV.len _ hm;omega,bq (hV.perm _ hm)⟩
 have VY:Lu p.1 p.2.2.1=true:=(Fz.1 hv).1
 unfold Nz
 rw [Af hv]
 refine (fQ (Be p.2.2.1.length) ([],Sb (λ_=>none) (Jk (upto p.1.toNat)) true) rfl).trans ?_
 unfold gh
 rw [VY,Bool.true_and,Au]
 refine ⟨λh a ha=>Au.2 λb hb=>Ct ?_,λh x hx y hy=>?_⟩
 ·obtain ⟨i,hi,rfl⟩:=Db.1 ha
  obtain ⟨j,hj,rfl⟩:=Db.1 hb
  by_cases e:i=j
  ·subst e;rfl
  have lx:Cc (List.length p.2.2.1) ((i:Int)+1):=by unfold Cc;omega
  have ly:Cc (List.length p.2.2.1) ((j:Int)+1):=by unfold Cc;omega
  rcases (um hv lx ly).1 (h _ (pn lx) _ (pn ly)) with h1|h1
  ·omega
  ·rw [It hi,It hj] at h1
   exact h1
 ·have lx:=Qp hx
  have ly:=Qp hy
  refine (um hv lx ly).2 (Or.inr ?_)
  obtain ⟨i,hi,WB⟩:=Mk lx
  obtain ⟨j,hj,GC⟩:=Mk ly
  have hc:As p.2.2.1[i] p.2.2.1[j]=As p.2.2.1[j] p.2.2.1[i]:=Dh (Au.1 (h _ (Ar hi)) _ (Ar hj))
  have ha:=hg _ (Ar hi)
  have hb:=hg _ (Ar hj)
  rcases WB with rfl|rfl<;>rcases GC with rfl|rfl
  ·rw [It hi,It hj];exact hc
  ·rw [It hi,Lf hj];exact (l5 hb ha hc.symm).symm
  ·rw [Lf hi,It hj];exact l5 ha hb hc
  ·rw [Lf hi,Lf hj];exact l5 ha hb.inv (l5 hb ha hc.symm).symm
def zT (p:PP) (v:List MC×(ByteArray->Option Bool)):Prop:=(v.2 (Jk (upto p.1.toNat))).getD false=true/\
 ∀m∈v.1,∃x y,Cc (List.length p.2.2.1) x/\Cc (List.length p.2.2.1) y/\m=(Ni x y,Em (Jj p x y),())/\Jj p x y≠upto p.1.toNat
omit hv in
theorem zT.step {x:Int} (hx:Cc (List.length p.2.2.1) x) {v:List MC×(ByteArray->Option Bool)} (h:zT p v) {y:Int} (hy:Cc (List.length p.2.2.1) y):zT p (Ht p x v y):=by
 by_cases hc:iX p x v y
 ·rw [jO hc];exact h
 ·have e:Ht p x v y=(v.1++ [(Ni x y,Em (Jj p x y),())],Sb v.2 (Jk (Jj p x y)) true):=Aj hc
  rw [e]
  refine ⟨?_,λm hm=>?_⟩
  ·show (Sb v.2 (Jk (Jj p x y)) true (Jk (upto p.1.toNat))).getD false=true
   unfold Sb
   split
   ·rfl
   ·exact h.1
  ·have hm:m∈v.1++ [(Ni x y,Em (Jj p x y),())]:=hm
   rcases Av.1 hm with hm|hm
   ·exact h.2 m hm
   ·exact ⟨x,y,hx,hy,Ad.1 hm,λe=>hc (Or.inr (by rw [e];exact h.1))⟩
omit hv in
theorem zT.fold {x:Int} (hx:Cc (List.length p.2.2.1) x): ∀(ys:List Int) {v:List MC×(ByteArray->Option Bool)},(∀y∈ys,Cc (List.length p.2.2.1) y)->zT p v->zT p (ys.foldl (Ht p x) v)
 | [],_,_,h=>h
 |y::ys,_,hy,h=>zT.fold hx ys (λz hz=>hy z (Aq _ hz)) (h.step hx (hy y (by simp)))
omit hv in
theorem zT.rows: ∀(xs:List Int) {v:List MC×(ByteArray->Option Bool)},(∀x∈xs,Cc (List.length p.2.2.1) x)->zT p v->zT p (xs.foldl (Xz p) v)
 | [],_,_,h=>h
 |x::xs,_,hx,h=>zT.rows xs (λz hz=>hx z (Aq _ hz)) (h.fold (hx x (by simp)) _ λy hy=>Qp hy)
theorem vz {m:MC} (hm:m∈Nz p): ∃x y,Cc (List.length p.2.2.1) x/\Cc (List.length p.2.2.1) y/\m=(Ni x y,Em (Jj p x y),())/\Jj p x y≠upto p.1.toNat:=by
 unfold Nz at hm
 rw [Af hv] at hm
 refine (zT.rows (p:=p) (Be p.2.2.1.length) (v:=([],Sb (λ_=>none) (Jk (upto p.1.toNat)) true)) (λx hx=>Qp hx) ⟨?_,λm hm=>(by cases hm)⟩).2 m hm
 show (Sb (λ_=>none) (Jk (upto p.1.toNat)) true (Jk (upto p.1.toNat))).getD false=true
 unfold Sb
 rw [Af rfl]
 rfl
theorem yi {x y:Int} (hx:Cc (List.length p.2.2.1) x) (hy:Cc (List.length p.2.2.1) y) (he:Jj p x y≠upto p.1.toNat):au p (Ni x y,Em (Jj p x y),())=true:=by
 have h8:=(valid hv).AY.2
 have h1:=ET h8 (show (Ni x y).length<=200 by show 4<=200;decide) (jQ hx hy)
 unfold au
 show ((m_validP p&&Fq (List.length p.2.2.1:Nat) (Ni x y))&&(decide (0<(Em (Jj p x y)).length)&&decide (Em (Jj p x y)=Em (Jj p x y))))=true
 rw [hv,h1,Ct (yQ (vB hv hx hy) he),Ct rfl]
 rfl
end
end Go.Proofs.Ytfgfigkbgecfnaa
