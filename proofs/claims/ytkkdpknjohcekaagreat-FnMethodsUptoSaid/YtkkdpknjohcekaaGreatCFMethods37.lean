/-
  Part 38 of the proof that the statement FnMethods holds.
-/
import Derived.Test.YtkkdpknjohcekaaGreatCFMethods36
import Derived.KernelRfl
namespace Go.Proofs.YtkkdpknjohcekaaGreat
open Go.RowKit
def Nd (x a b:Int):Bool:=decide (a<=x/\x<=b)
def kE (n x:Int):Bool:=decide (0<=x/\x<=IntKind.i64.wrap (n-1))
def Vx (a b:List Int):Bool:=decide (a=b)
def Dz (xs:List Int) (x:Int):Bool:=decide (x∈xs)
def short (xs:List Int):Prop:=xs.length<=4294967296
noncomputable abbrev Ch:Spec:=Gk (.pair tI (.pair tI (.pair tI .unit))) .bool false true (λ_=>True) (λx=>Nd x.1 x.2.1 x.2.2.1)
noncomputable abbrev bD:Spec:=Gk (.pair tI (.pair tI .unit)) .bool false true (λ_=>True) (λx=>kE x.1 x.2.1)
noncomputable abbrev Wc:Spec:=Gk (.pair tL (.pair tL .unit)) .bool false true (λx=>short x.1) (λx=>Vx x.1 x.2.1)
noncomputable abbrev Hf:Spec:=Gk (.pair tL (.pair tI .unit)) .bool false true (λx=>short x.1) (λx=>Dz x.1 x.2.1)
theorem XS (x a b:Int) (P:Bool->Prop):(Br (decide (x>=a)) (P (decide (x<=b))) (P false))=fnW Fl (look []) Ch Tryz.f95 (x,a,b,()) P:=by kernel_rfl
theorem Adl (x a b:Int) (P:Bool->Prop):(Br (decide (x>=a)) (P (decide (x<=b))) (P false))=fnW Fl (look []) Ch Tryz.f100 (x,a,b,()) P:=by kernel_rfl
theorem XU (n x:Int) (P:Bool->Prop):(∃(y3:Bool),Ch.fn (x,0,IntKind.i64.wrap (n-1),())=some y3/\P y3)=fnW Fl (look [(100,Ch)]) bD Tryz.f136 (n,x,()) P:=by kernel_rfl
theorem JR (a b:List Int) (P:Bool->Prop):(Br ((↑a.length:Int) !=(↑b.length:Int)) (P false) (Dn (λ(v3:Int×PUnit) (k4:Int×PUnit->Prop)=>Br (decide (v3.1<(↑a.length:Int))) (∃(y5:Int),idx a v3.1=some y5/\ ∃(y6:Int),idx b v3.1=some y6/\Br (y5 !=y6) (P false) (k4 (IntKind.i64.wrap (v3.1+1),()))) (P true)) (0,PUnit.unit)))=fnW Fl (look []) Wc Tryz.f128 (a,b,()) P:=by kernel_rfl
theorem x9 (xs:List Int) (x:Int) (P:Bool->Prop):(Dn (λ(v3:Int×PUnit) (k4:Int×PUnit->Prop)=>Br (decide (v3.1<(↑xs.length:Int))) (∃(y5:Int),idx xs v3.1=some y5/\Br (y5==x) (P true) (k4 (IntKind.i64.wrap (v3.1+1),()))) (P false)) (0,PUnit.unit))=fnW Fl (look []) Hf Tryz.f175 (xs,x,()) P:=by kernel_rfl
theorem VO (x a b:Int) (_:True):fnW Fl (look []) Ch Tryz.f95 (x,a,b,()) (λ(z:Bool)=>z=Nd x a b):=by
 refine Eq.mp (XS x a b _) ?_
 refine Br.dec (λh=>?_) λh=>?_
 ·have h:a<=x:=h
  simp [Nd,h]
 ·exact (Dx λhh=>h hh.1).symm
theorem Ph:Sound Tryz.prog 95 Ch:=
 Sound.Gk Dl Bl mixed Tryz.func95 (by kernel_rfl) (by kernel_rfl) λx h=>VO x.1 x.2.1 x.2.2.1 h
theorem Aby (x a b:Int) (_:True):fnW Fl (look []) Ch Tryz.f100 (x,a,b,()) (λ(z:Bool)=>z=Nd x a b):=by
 refine Eq.mp (Adl x a b _) ?_
 refine Br.dec (λh=>?_) λh=>?_
 ·have h:a<=x:=h
  simp [Nd,h]
 ·exact (Dx λhh=>h hh.1).symm
theorem Qu:Sound Tryz.prog 100 Ch:=
 Sound.Gk Dl Bl mixed Tryz.func100 (by kernel_rfl) (by kernel_rfl) λx h=>Aby x.1 x.2.1 x.2.2.1 h
theorem VQ (n x:Int) (_:True):fnW Fl (look [(100,Ch)]) bD Tryz.f136 (n,x,()) (λ(z:Bool)=>z=kE n x):=
 Eq.mp (XU n x _) ⟨_,Ab trivial,rfl⟩
theorem wV:Sound Tryz.prog 136 bD:=
 Sound.Gk Dl (Au Qu Bl) mixed Tryz.func136 (by kernel_rfl) (by kernel_rfl) λx h=>VQ x.1 x.2.1 h
theorem wB (xs:List Int) (x:Int) (h:short xs):fnW Fl (look []) Hf Tryz.f175 (xs,x,()) (λ(z:Bool)=>z=Dz xs x):=by
 refine Eq.mp (x9 xs x _) ?_
 unfold short at h
 refine Bo xs.length (λv=>v.1) (λj _=>x∉xs.take j) rfl (by simp) ?_
 rintro j ⟨i,⟨⟩⟩ K hj hi hR hK
 dsimp only at hi⊢
 subst hi
 refine Br.dec (λhl=>?_) λhl=>?_
 ·have hl:j<xs.length:=by omega
  refine ⟨_,Bn hl,⟨λhe=>?_,λhe=>?_⟩⟩
  ·have hm:=Am hl
   simp only [Xt] at he
   rw [he] at hm
   exact (Cb hm).symm
  ·rw [Bj (by omega)]
   refine hK hl _ rfl ?_
   simp only [Km,ne_eq] at he
   rw [Ds hl]
   simp only [Ba,Ad,not_or]
   exact ⟨hR,λhx=>he hx.symm⟩
 ·have:j=xs.length:=by omega
  subst this
  rw [Be] at hR
  exact (Dx hR).symm
theorem dp:Sound Tryz.prog 175 Hf:=
 Sound.Gk Dl Bl mixed Tryz.func175 (by kernel_rfl) (by kernel_rfl) λx h=>wB x.1 x.2.1 h
theorem RF (a b:List Int) (hlen:a.length=b.length) (h:short a):
  Dn (λ(v3:Int×PUnit) (k4:Int×PUnit->Prop)=>
   Br (decide (v3.1<(↑a.length:Int))) (∃(y5:Int),idx a v3.1=some y5/\ ∃(y6:Int),idx b v3.1=some y6/\Br (y5 !=y6) (false=Vx a b) (k4 (IntKind.i64.wrap (v3.1+1),())))
    (true=Vx a b))
  (0,PUnit.unit):=by
 unfold short at h
 refine Bo a.length (λv=>v.1) (λj _=>a.take j=b.take j) rfl (by simp) ?_
 rintro j ⟨i,⟨⟩⟩ K hj hi hR hK
 dsimp only at hi⊢
 subst hi
 refine Br.dec (λhl=>?_) λhl=>?_
 ·have p9:j<a.length:=by omega
  have nd:j<b.length:=by omega
  refine ⟨_,Bn p9,_,Bn nd,⟨λhe=>?_,λhe=>?_⟩⟩
  ·simp only [bne_iff_ne,ne_eq] at he
   refine (Dx λFT=>he ?_).symm
   subst FT
   rfl
  ·rw [Bj (by omega)]
   refine hK p9 _ rfl ?_
   simp only [gE] at he
   rw [Ds p9,Ds nd,hR,he]
 ·have hj':j=a.length:=by omega
  subst hj'
  rw [Be,hlen,Be] at hR
  exact (Cb hR).symm
theorem HS (a b:List Int) (h:short a):fnW Fl (look []) Wc Tryz.f128 (a,b,()) (λ(z:Bool)=>z=Vx a b):=by
 refine Eq.mp (JR a b _) ⟨λhl=>?_,λhl=>?_⟩
 ·simp only [bne_iff_ne,ne_eq,Rv] at hl
  exact (Dx λFT=>hl (by rw [FT])).symm
 ·simp only [gE,Rv] at hl
  exact RF a b hl h
theorem rZ:Sound Tryz.prog 128 Wc:=
 Sound.Gk Dl Bl mixed Tryz.func128 (by kernel_rfl) (by kernel_rfl) λx h=>HS x.1 x.2.1 h
abbrev TT:Type:=List Int×List (List Int)×List Int×Unit
def Hi (xs:List (List Int)):Prop:=xs.length<=4294967296/\ ∀r∈xs,short r
def Ald (t:TT):Prop:=short t.1/\Hi t.2.1/\short t.2.2.1
def Aps (a b:TT):Bool:=decide (a.1=b.1)&&(decide (a.2.1=b.2.1)&&decide (a.2.2.1=b.2.2.1))
theorem lK {α:Type} {ys xs:List α} {j:Nat} (h:j<xs.length) (hl:ys.length=xs.length) (ht:ys.take j=xs.take j):(ys.set j xs[j]).take (j+1)=xs.take (j+1):=by
 have h1:j<(ys.set j xs[j]).length:=by rw [Co];omega
 rw [Ds h1,Ds h,List.getElem_set_self,List.take_set_of_le (Aq j),ht]
def Zr:List Int->Int->Int->Int
 | [],_,_=> -1
 |y::r,x,i=>if y=x then i else Zr r x (i+1)
noncomputable abbrev kN:Spec:=Gk (.pair tL (.pair tI .unit)) tI false true (λx=>short x.1) (λx=>Zr x.1 x.2.1 0)
def PL (n:Int) (xs:List Int) (k:Nat):Prop:= ∀j (h:j<xs.length),j<k->0<=xs[j]/\xs[j]<=n-1/\(0<j->xs[j-1]<xs[j])
def DL (n:Int) (xs:List Int) (k:Nat):Prop:= ∀j (h:j<xs.length),j<k->0<=xs[j]/\xs[j]<=n-1/\xs[j]∉xs.take j
noncomputable def dec (p:Prop):Bool:= @decide p (Classical.propDecidable p)
theorem Mp {p:Prop} (h:p):true=dec p:=(@Cb p (Classical.propDecidable p) h).symm
theorem Cr {p:Prop} (h: ¬p):false=dec p:=(@Dx p (Classical.propDecidable p) h).symm
theorem Jg {p:Prop} :dec p=true↔p:= @Hu p (Classical.propDecidable p)
theorem Aei {p:Prop} :dec p=false↔ ¬p:= @decide_eq_false_iff_not p (Classical.propDecidable p)
def nOK (n:Int):Prop:=0<=n/\n<=4294967296
noncomputable def Ey (n:Int) (xs:List Int):Bool:=dec (0<xs.length/\PL n xs xs.length)
noncomputable abbrev Ho:Spec:=Gk (.pair tI (.pair tL .unit)) .bool false true (λx=>nOK x.1/\short x.2.1) (λx=>Ey x.1 x.2.1)
noncomputable abbrev Qs:Spec:=Gk (.pair nf .unit) tI false true (λ_=>True) (λx=>(List.length x.1:Int))
theorem Agw (xs:List Int) (x:Int) (P:Int->Prop):(Dn (λ(v3:Int×PUnit) (k4:Int×PUnit->Prop)=>Br (decide (v3.1<(↑xs.length:Int))) (∃(y5:Int),idx xs v3.1=some y5/\Br (x==y5) (P v3.1) (k4 (IntKind.i64.wrap (v3.1+(1:Int)),()))) (P (-1:Int))) ((0:Int),PUnit.unit))=fnW Fl (look []) kN Tryz.f70 (xs,x,()) P:=by kernel_rfl
theorem PY (xs:List Int) (x:Int) (P:Bool->Prop):(∃(y3:Int),kN.fn (xs,x,())=some y3/\P (decide (y3>=(0:Int))))=fnW Fl (look [(70,kN)]) Hf Tryz.f104 (xs,x,()) P:=by kernel_rfl
theorem xf (n:Int) (xs:List Int) (P:Bool->Prop):(∃(y3:Bool),Ch.fn ((↑xs.length:Int),(1:Int),n,())=some y3/\Br (!y3) (P false) (Dn (λ(v4:Int×PUnit) (k5:Int×PUnit->Prop)=>Br (decide (v4.1<(↑xs.length:Int))) (∃(y6:Int),idx xs v4.1=some y6/\ ∃(y7:Bool),Ch.fn (y6,(0:Int),IntKind.i64.wrap (n-(1:Int)),())=some y7/\Br (!y7) (P false) (Br (decide (v4.1>(0:Int))) (∃(y8:Int),idx xs v4.1=some y8/\ ∃(y9:Int),idx xs (IntKind.i64.wrap (v4.1-(1:Int)))=some y9/\Br (decide (y8<=y9)) (P false) (k5 (IntKind.i64.wrap (v4.1+(1:Int)),()))) (k5 (IntKind.i64.wrap (v4.1+(1:Int)),())))) (P true)) ((0:Int),PUnit.unit)))=fnW Fl (look [(95,Ch)]) Ho Tryz.f137 (n,xs,()) P:=by kernel_rfl
theorem JV (n:Int) (xs:List Int) (P:Bool->Prop):(Dn (λ(v3:Int×PUnit) (k4:Int×PUnit->Prop)=>Br (decide (v3.1<(↑xs.length:Int))) (∃(y5:Int),idx xs v3.1=some y5/\ ∃(y6:Bool),bD.fn (n,y5,())=some y6/\Br (!y6) (P false) (Br (decide (v3.1>(0:Int))) (∃(y7:Int),idx xs (IntKind.i64.wrap (v3.1-(1:Int)))=some y7/\Br (decide (y7>=y5)) (P false) (k4 (IntKind.i64.wrap (v3.1+(1:Int)),()))) (k4 (IntKind.i64.wrap (v3.1+(1:Int)),())))) (P (decide ((↑xs.length:Int)>(0:Int))))) ((0:Int),PUnit.unit))=fnW Fl (look [(136,bD)]) Ho Tryz.f101 (n,xs,()) P:=by kernel_rfl
theorem Agx (xs:List (List Int)) (P:Int->Prop):(P (↑xs.length:Int))=fnW Fl (look []) Qs Tryz.f91 (xs,()) P:=by kernel_rfl
theorem qZ: ∀(xs:List Int) (x i:Int),0<=i->(Zr xs x i<0↔x∉xs)
 | [],x,i,_=>by simp [Zr]
 |y::r,x,i,h=>by
  simp only [Zr]
  split
  ·rename_i hy;subst hy;simp;omega
  ·rename_i hy
   rw [qZ r x (i+1) (by omega)]
   simp only [Bb,not_or]
   exact ⟨λh=>⟨λe=>hy e.symm,h⟩,λh=>h.2⟩
theorem Ag1 (xs:List Int) (x:Int) (h:short xs):fnW Fl (look []) kN Tryz.f70 (xs,x,()) (λ(z:Int)=>z=Zr xs x 0):=by
 unfold short at h
 refine Eq.mp (Agw xs x _) ?_
 refine Bo xs.length (λv=>v.1) (λj _=>Zr (xs.drop j) x j=Zr xs x 0) rfl (by simp) ?_
 rintro j ⟨i,⟨⟩⟩ K hj hi hR hK
 dsimp only at hi⊢
 subst hi
 refine Br.dec (λhl=>?_) λhl=>?_
 ·have hl:j<xs.length:=by omega
  rw [Cc hl] at hR
  simp only [Zr] at hR
  refine ⟨_,Bn hl,⟨λhe=>?_,λhe=>?_⟩⟩
  ·simp only [Xt] at he
   rw [Ab he.symm] at hR
   exact hR
  ·simp only [Km,ne_eq] at he
   rw [Ai (λe=>he e.symm)] at hR
   rw [Bj (by omega)]
   exact hK hl _ rfl (by push_cast;exact hR)
 ·have:j=xs.length:=by omega
  subst this
  rw [Fe] at hR
  exact hR
theorem IU:Sound Tryz.prog 70 kN:=
 Sound.Gk Dl Bl mixed Tryz.func70 (by kernel_rfl) (by kernel_rfl) λx h=>Ag1 x.1 x.2.1 h
theorem NL (xs:List Int) (x:Int) (h:short xs):fnW Fl (look [(70,kN)]) Hf Tryz.f104 (xs,x,()) (λ(z:Bool)=>z=Dz xs x):=by
 refine Eq.mp (PY xs x _) ⟨_,Ab h,?_⟩
 have:=qZ xs x 0 (Kl 0)
 show decide (Zr xs x 0>=0)=decide (x∈xs)
 by_cases hx:x∈xs
 ·rw [Cb hx]
  exact Cb (by have:=mt this.1 (λh=>h hx);omega)
 ·rw [Dx hx]
  exact Dx (by have:=this.2 hx;omega)
theorem vg:Sound Tryz.prog 104 Hf:=
 Sound.Gk Dl (Au IU Bl) mixed Tryz.func104 (by kernel_rfl) (by kernel_rfl) λx h=>NL x.1 x.2.1 h
theorem Ag2 (xs:List (List Int)) (_:True):fnW Fl (look []) Qs Tryz.f91 (xs,()) (λ(z:Int)=>z=(xs.length:Int)):=Eq.mp (Agx xs _) rfl
theorem dq:Sound Tryz.prog 91 Qs:=
 Sound.Gk Dl Bl mixed Tryz.func91 (by kernel_rfl) (by kernel_rfl) λx h=>Ag2 x.1 h
theorem r6 {n x:Int} (hn:nOK n):kE n x=true↔0<=x/\x<=n-1:=by
 unfold kE nOK at*
 rw [Ct (by omega) (by omega),Hu]
theorem Du {x a b:Int} :Nd x a b=true↔a<=x/\x<=b:=Hu
theorem Gb {b:Bool} (h:(!b)=true): ¬b=true:=by cases b<;>simp_all
theorem Gw {b:Bool} (h:(!b)=false):b=true:=by cases b<;>simp_all
theorem NZ {n:Int} {xs:List Int} (h:PL n xs xs.length): ∀j (hj:j<xs.length),(j:Int)<=xs[j]
 |0,hj=>(h 0 hj hj).1
 |j+1,hj=>by
  have h1:=NZ h j (by omega)
  have h2:=(h (j+1) hj hj).2.2 (by omega)
  simp only [Nat.add_sub_cancel] at h2
  omega
theorem sw {n:Int} {xs:List Int} {j:Nat} (hl:j<xs.length) (h:PL n xs j) (h1:0<=xs[j]) (h2:xs[j]<=n-1) (h3:0<j->xs[j-1]<xs[j]):PL n xs (j+1):=by
 intro i hi kA
 by_cases e:i=j
 ·subst e;exact ⟨h1,h2,h3⟩
 ·exact h i hi (by omega)
theorem HW (n:Int) (xs:List Int) (h:nOK n/\short xs):fnW Fl (look [(136,bD)]) Ho Tryz.f101 (n,xs,()) (λ(z:Bool)=>z=Ey n xs):=by
 obtain ⟨hn,h⟩:=h
 unfold short at h
 refine Eq.mp (JV n xs _) ?_
 refine Bo xs.length (λv=>v.1) (λj _=>PL n xs j) rfl (λj _ hj=>absurd hj (Fy _)) ?_
 rintro j ⟨i,⟨⟩⟩ K hj hi hR hK
 dsimp only at hi⊢
 subst hi
 refine Br.dec (λhl=>?_) λhl=>?_
 ·have hl:j<xs.length:=by omega
  refine ⟨_,Bn hl,_,Ab trivial,⟨λhp=>?_,λhp=>?_⟩⟩
  ·have hp:=Gb hp
   rw [r6 hn] at hp
   exact Cr λhh=>hp ⟨(hh.2 j hl hl).1,(hh.2 j hl hl).2.1⟩
  ·have hp:=Gw hp
   rw [r6 hn] at hp
   refine Br.dec (λh0=>?_) λh0=>?_
   ·have h0:0<j:=by omega
    rw [Ct (by omega) (by omega),show (j:Int)-1=((j-1:Nat):Int) by omega]
    refine ⟨_,Bn (by omega),Br.dec (λhg=>?_) λhg=>?_⟩
    ·exact Cr λhh=>by have:=(hh.2 j hl hl).2.2 h0;omega
    ·rw [Bj (by omega)]
     exact hK hl _ rfl (sw hl hR hp.1 hp.2 λ_=>by omega)
   ·have h0:j=0:=by omega
    rw [Bj (by omega)]
    exact hK hl _ rfl (sw hl hR hp.1 hp.2 λh=>by omega)
 ·have:j=xs.length:=by omega
  subst this
  by_cases h0:0<xs.length
  ·rw [Cb (show (xs.length:Int)>0 by omega)];exact Mp ⟨h0,hR⟩
  ·rw [Dx (show ¬(xs.length:Int)>0 by omega)];exact Cr λhh=>h0 hh.1
theorem aH:Sound Tryz.prog 101 Ho:=
 Sound.Gk Dl (Au wV Bl) mixed Tryz.func101 (by kernel_rfl) (by kernel_rfl) λx h=>HW x.1 x.2.1 h
theorem wH (n:Int) (xs:List Int) (h:nOK n/\short xs):fnW Fl (look [(95,Ch)]) Ho Tryz.f137 (n,xs,()) (λ(z:Bool)=>z=Ey n xs):=by
 obtain ⟨hn,h⟩:=h
 unfold short at h
 refine Eq.mp (xf n xs _) ⟨_,Ab trivial,⟨λhp=>?_,λhp=>?_⟩⟩
 ·have hp:=Gb hp
  rw [Du] at hp
  dsimp only at hp
  refine Cr λhh=>hp ⟨by omega,?_⟩
  have:=NZ hh.2 (xs.length-1) (by omega)
  have:=(hh.2 (xs.length-1) (by omega) (by omega)).2.1
  omega
 ·have hp:=Gw hp
  rw [Du] at hp
  dsimp only at hp
  refine Bo xs.length (λv=>v.1) (λj _=>PL n xs j) rfl (λj _ hj=>absurd hj (Fy _)) ?_
  rintro j ⟨i,⟨⟩⟩ K hj hi hR hK
  dsimp only at hi⊢
  subst hi
  refine Br.dec (λhl=>?_) λhl=>?_
  ·have hl:j<xs.length:=by omega
   refine ⟨_,Bn hl,_,Ab trivial,⟨λhq=>?_,λhq=>?_⟩⟩
   ·have hq:=Gb hq
    unfold nOK at hn
    rw [Du,Ct (by omega) (by omega)] at hq
    exact Cr λhh=>hq ⟨(hh.2 j hl hl).1,(hh.2 j hl hl).2.1⟩
   ·have hq:=Gw hq
    unfold nOK at hn
    rw [Du,Ct (by omega) (by omega)] at hq
    refine Br.dec (λh0=>?_) λh0=>?_
    ·have h0:0<j:=by omega
     rw [Ct (by omega) (by omega),show (j:Int)-1=((j-1:Nat):Int) by omega]
     refine ⟨_,Bn hl,_,Bn (by omega),Br.dec (λhg=>?_) λhg=>?_⟩
     ·exact Cr λhh=>by have:=(hh.2 j hl hl).2.2 h0;omega
     ·rw [Bj (by omega)]
      exact hK hl _ rfl (sw hl hR hq.1 hq.2 λ_=>by omega)
    ·rw [Bj (by omega)]
     exact hK hl _ rfl (sw hl hR hq.1 hq.2 λh=>by omega)
  ·have:j=xs.length:=by omega
   subst this
   exact Mp ⟨by omega,hR⟩
theorem oL:Sound Tryz.prog 137 Ho:=
 Sound.Gk Dl (Au Ph Bl) mixed Tryz.func137 (by kernel_rfl) (by kernel_rfl) λx h=>wH x.1 x.2.1 h
theorem Ael {n:Int} {xs:List Int} {j:Nat} (hl:j<xs.length) (h:DL n xs j) (h1:0<=xs[j]) (h2:xs[j]<=n-1) (h3:xs[j]∉xs.take j):DL n xs (j+1):=by
 intro i hi kA
 by_cases e:i=j
 ·subst e;exact ⟨h1,h2,h3⟩
 ·exact h i hi (by omega)
theorem OS {xs:List Int} (h:short xs) (j:Nat):short (xs.take j):=by
 unfold short at*
 rw [Dm]
 omega
abbrev PP:Type:=Int×ByteArray×List (List Int)×Unit
noncomputable def Kv (p:List Int):Bool:=dec (1<=p.length/\p.length<=20/\DL p.length p p.length)
noncomputable def Ix (n:Int) (p:List Int):Bool:=dec ((p.length:Int)=n/\Kv p=true)
noncomputable def ae (n:Int) (g:List (List Int)):Bool:=dec ((1<=n/\n<=20)/\g.length<=8/\ ∀p∈g,Ix n p=true)
def Dv {α:Type} (P:α->Bool):List α->Int->Int
 | [],_=> -1
 |y::r,i=>if P y=true then i else Dv P r (i+1)
abbrev tG1:Ty:= .clo 174 (.pair (.ptr tI) .unit)
def z8 (s:ByteArray) (i:Nat):Prop:= ∃c:UInt8,s[i]?=some c/\65<=c.toNat/\c.toNat<=90/\ ∀k,k<i->s[k]?≠some c
noncomputable def od (s:ByteArray) (i:Int):Bool:=dec (z8 s i.toNat)
noncomputable def bx (s:ByteArray):Bool:=dec ((1<=s.size/\s.size<=8)/\ ∀j,j<s.size->z8 s j)
noncomputable def Ca (p:PP):Bool:=dec (ae p.1 p.2.2.1=true/\bx p.2.1=true/\p.2.1.size=p.2.2.1.length)
def Gl (p:PP):Prop:=p.2.1.size<=4294967296/\Hi p.2.2.1
noncomputable abbrev Mm:Spec:=Gk (.pair tL .unit) tI false true (λ_=>True) (λx=>(List.length x.1:Int))
noncomputable abbrev Jr:Spec:=Gk (.pair tL .unit) .bool false true (λx=>short x.1) (λx=>Kv x.1)
noncomputable abbrev Rc:Spec:=Gk (.pair tI (.pair nf .unit)) .bool false true (λx=>Hi x.2.1) (λx=>ae x.1 x.2.1)
noncomputable abbrev kM:Spec:=Gk (.pair tL (.pair (.ptr tI) .unit)) .bool false true (λx=>short x.1) (λx=>!Ix x.2.1 x.1)
noncomputable abbrev yI:Spec:=Gk (.pair nf (.pair tG1 .unit)) tI false true (λx=>Hi x.1) (λx=>Dv (λp=>!Ix x.2.1.1 p) x.1 0)
noncomputable abbrev yC:Spec:=Gk (.pair nf (.pair tG1 .unit)) .bool false true (λx=>Hi x.1) (λx=>List.any x.1 (λp=>!Ix x.2.1.1 p))
noncomputable abbrev eO:Spec:=Gk (.pair .str (.pair tI .unit)) .bool false true (λx=>0<=x.2.1/\x.2.1<x.1.size/\x.1.size<=4294967296) (λx=>od x.1 x.2.1)
noncomputable abbrev bC:Spec:=Gk (.pair .str .unit) .bool false true (λx=>x.1.size<=4294967296) (λx=>bx x.1)
noncomputable abbrev Js:Spec:=Gk (.pair Iw .unit) .bool false true (λx=>Gl x.1) (λx=>Ca x.1)
theorem Als (xs:List Int) (P:Int->Prop):(P (↑xs.length:Int))=fnW Fl (look []) Mm Tryz.f105 (xs,()) P:=by kernel_rfl
theorem DM (p:List Int) (P:Bool->Prop):(∃(y2:Bool),Ch.fn ((↑p.length:Int),(1:Int),(20:Int),())=some y2/\Br (!y2) (P false) (Dn (λ(v3:Int×PUnit) (k4:Int×PUnit->Prop)=>Br (decide (v3.1<(↑p.length:Int))) (∃(y5:Int),idx p v3.1=some y5/\ ∃(y6:Bool),Ch.fn (y5,(0:Int),IntKind.i64.wrap ((↑p.length:Int)-(1:Int)),())=some y6/\Br (!y6) (P false) (((0:Int)<=(0:Int)/\(0:Int)<=v3.1/\v3.1<=(↑p.length:Int))/\ ∃(y7:Int),idx p v3.1=some y7/\ ∃(y8:Bool),Hf.fn (List.drop (Int.toNat (0:Int)) (List.take v3.1.toNat p),y7,())=some y8/\Br y8 (P false) (k4 (IntKind.i64.wrap (v3.1+(1:Int)),())))) (P true)) ((0:Int),PUnit.unit)))=fnW Fl (look [(95,Ch),(175,Hf)]) Jr Tryz.f162 (p,()) P:=by kernel_rfl
theorem DF (p:List Int) (P:Bool->Prop):(∃(y2:Int),Mm.fn (p,())=some y2/\ ∃(y3:Bool),Ch.fn (y2,(1:Int),(20:Int),())=some y3/\Br (!y3) (P false) (Dn (λ(v4:Int×Int×PUnit) (k5:Int×Int×PUnit->Prop)=>Br (decide (v4.2.1<(↑p.length:Int))) (∃(y6:Int),idx p v4.2.1=some y6/\ ∃(y7:Int),Mm.fn (p,())=some y7/\ ∃(y8:Bool),Ch.fn (y6,(0:Int),IntKind.i64.wrap (y7-(1:Int)),())=some y8/\Br (!y8) (P false) (¬y6<(0:Int)/\k5 (IntKind.i64.wrap (↑(BitVec.ofInt IntKind.i64.bits v4.1|||BitVec.ofInt IntKind.i64.bits (IntKind.i64.wrap ((1:Int)*(2:Int)^min y6.toNat IntKind.i64.bits))).toNat:Int),IntKind.i64.wrap (v4.2.1+(1:Int)),()))) (¬(↑p.length:Int)<(0:Int)/\P (v4.1==IntKind.i64.wrap (IntKind.i64.wrap ((1:Int)*(2:Int)^min (↑p.length:Int).toNat IntKind.i64.bits)-(1:Int))))) ((0:Int),(0:Int),PUnit.unit)))=fnW Fl (look [(100,Ch),(105,Mm)]) Jr Tryz.f130 (p,()) P:=by kernel_rfl
theorem DK (n:Int) (g:List (List Int)) (P:Bool->Prop):(∃(y3:Bool),Ch.fn (n,(1:Int),(20:Int),())=some y3/\Br (!y3) (P false) (Br (decide ((↑g.length:Int)>(8:Int))) (P false) (Dn (λ(v4:Int×PUnit) (k5:Int×PUnit->Prop)=>Br (decide (v4.1<(↑g.length:Int))) (∃(y6:List Int),idx g v4.1=some y6/\Br ((↑y6.length:Int) !=n) (P false) (∃(y7:List Int),idx g v4.1=some y7/\ ∃(y8:Bool),Jr.fn (y7,())=some y8/\Br (!y8) (P false) (k5 (IntKind.i64.wrap (v4.1+(1:Int)),())))) (P true)) ((0:Int),PUnit.unit))))=fnW Fl (look [(95,Ch),(162,Jr)]) Rc Tryz.f122 (n,g,()) P:=by kernel_rfl
theorem Agv (p:List Int) (n:Int) (P:Bool->Prop):(∃(y3:Int),Mm.fn (p,())=some y3/\Br (y3 !=n) (P true) (∃(y4:Bool),Jr.fn (p,())=some y4/\P !y4))=fnW Fl (look [(105,Mm),(130,Jr)]) kM Tryz.f174 (p,n,()) P:=by kernel_rfl
theorem Aqw (g:List (List Int)) (n:Int×Unit) (P:Int->Prop):(Dn (λ(v3:Int×PUnit) (k4:Int×PUnit->Prop)=>Br (decide (v3.1<(↑g.length:Int))) (∃(y5:List Int),idx g v3.1=some y5/\ ∃(y6:Bool),kM.fn (y5,n.1,())=some y6/\Br y6 (P v3.1) (k4 (IntKind.i64.wrap (v3.1+(1:Int)),()))) (P (-1:Int))) ((0:Int),PUnit.unit))=fnW Fl (look [(174,kM)]) yI Tryz.f140 (g,n,()) P:=by kernel_rfl
theorem Aqp (g:List (List Int)) (n:Int×Unit) (P:Bool->Prop):(∃(y3:Int),yI.fn (g,n,())=some y3/\P (decide (y3>=(0:Int))))=fnW Fl (look [(140,yI)]) yC Tryz.f173 (g,n,()) P:=by kernel_rfl
theorem DE (n:Int) (g:List (List Int)) (P:Bool->Prop):(∃(y3:Bool),Ch.fn (n,(1:Int),(20:Int),())=some y3/\Br y3 (Br (decide ((↑g.length:Int)<=(8:Int))) (∃(y4:Bool),yC.fn (g,(n,()),())=some y4/\P !y4) (P false)) (P false))=fnW Fl (look [(100,Ch),(173,yC)]) Rc Tryz.f150 (n,g,()) P:=by kernel_rfl
theorem Adf (s:ByteArray) (i:Int) (P:Bool->Prop):((0:Int)<=i/\ ∃(y3:UInt8),s[i.toNat]?=some y3/\Br (decide ((↑y3.toNat:Int)<(65:Int))) (P false) ((0:Int)<=i/\ ∃(y4:UInt8),s[i.toNat]?=some y4/\Br (decide ((↑y4.toNat:Int)>(90:Int))) (P false) (Dn (λ(v5:Int×PUnit) (k6:Int×PUnit->Prop)=>Br (decide (v5.1<i)) ((0:Int)<=v5.1/\ ∃(y7:UInt8),s[v5.1.toNat]?=some y7/\(0:Int)<=i/\ ∃(y8:UInt8),s[i.toNat]?=some y8/\Br ((↑y7.toNat:Int)==(↑y8.toNat:Int)) (P false) (k6 (IntKind.i64.wrap (v5.1+(1:Int)),()))) (P true)) ((0:Int),PUnit.unit))))=fnW Fl (look []) eO Tryz.f123 (s,i,()) P:=by kernel_rfl
theorem XT (s:ByteArray) (P:Bool->Prop):(Dn (λ(v2:Int×PUnit) (k3:Int×PUnit->Prop)=>Br (decide (v2.1<(↑s.size:Int))) ((0:Int)<=v2.1/\ ∃(y4:UInt8),s[v2.1.toNat]?=some y4/\ ∃(y5:Bool),Ch.fn (IntKind.i64.wrap (↑y4.toNat:Int),(65:Int),(90:Int),())=some y5/\Br (!y5) (P false) (Dn (λ(v6:Int×PUnit) (k7:Int×PUnit->Prop)=>Br (decide (v6.1<v2.1)) ((0:Int)<=v6.1/\ ∃(y8:UInt8),s[v6.1.toNat]?=some y8/\(0:Int)<=v2.1/\ ∃(y9:UInt8),s[v2.1.toNat]?=some y9/\Br ((↑y8.toNat:Int)==(↑y9.toNat:Int)) (P false) (k7 (IntKind.i64.wrap (v6.1+(1:Int)),()))) (k3 (IntKind.i64.wrap (v2.1+(1:Int)),()))) ((0:Int),PUnit.unit))) (∃(y4:Bool),Ch.fn ((↑s.size:Int),(1:Int),(8:Int),())=some y4/\P y4)) ((0:Int),PUnit.unit))=fnW Fl (look [(100,Ch)]) bC Tryz.f151 (s,()) P:=by kernel_rfl
abbrev lH:Type:=Int×Int×ByteArray×List (List Int)×PUnit
theorem DN (p:Int×ByteArray×List (List Int)×Unit) (P:Bool->Prop):(Br ((↑p.2.2.1.length:Int)==(0:Int)) (P false) (Br ((↑p.2.1.size:Int) !=(↑p.2.2.1.length:Int)) (P false) (∃(y2:Bool),Rc.fn (p.1,p.2.2.1,())=some y2/\Br (!y2) (P false) (Dn (λ(v3:lH) (k4:lH->Prop)=>Br (decide (v3.1<(↑v3.2.2.1.size:Int))) (∃(y5:Bool),eO.fn (v3.2.2.1,v3.1,())=some y5/\Br (!y5) (P false) (k4 (IntKind.i64.wrap (v3.1+(1:Int)),v3.2.1,v3.2.2.1,v3.2.2.2.1,()))) (P true)) ((0:Int),p.1,p.2.1,p.2.2.1,PUnit.unit)))))=fnW Fl (look [(122,Rc),(123,eO)]) Js Tryz.f63 (p,()) P:=by kernel_rfl
theorem DG (p:Int×ByteArray×List (List Int)×Unit) (P:Bool->Prop):(∃(y2:Bool),Rc.fn (p.1,p.2.2.1,())=some y2/\Br y2 (∃(y3:Bool),bC.fn (p.2.1,())=some y3/\Br y3 (P ((↑p.2.1.size:Int)==(↑p.2.2.1.length:Int))) (P false)) (P false))=fnW Fl (look [(150,Rc),(151,bC)]) Js Tryz.f99 (p,()) P:=by kernel_rfl
theorem Al1 (xs:List Int) (_:True):fnW Fl (look []) Mm Tryz.f105 (xs,()) (λ(z:Int)=>z=(xs.length:Int)):=Eq.mp (Als xs _) rfl
theorem Vn:Sound Tryz.prog 105 Mm:=
 Sound.Gk Dl Bl mixed Tryz.func105 (by kernel_rfl) (by kernel_rfl) λx h=>Al1 x.1 h
theorem CP {α:Type} [DecidableEq α]: ∀(l m:List α),l.Nodup->(∀x∈l,x∈m)->l.length<=m.length
 | [],m,_,_=>Mc _
 |a::l,m,hn,hs=>by
  have ha:a∈m:=hs a (Lg ..)
  have hn:=Cg.1 hn
  have:=CP l (m.erase a) hn.2 λx hx=>(List.mem_erase_of_ne (λ(e:x=a)=>hn.1 (by rw [<-e];exact hx))).2 (hs x (Ap _ hx))
  rw [Xr ha] at this
  have:0<m.length:=List.length_pos_of_mem ha
  simp only [Ay]
  omega
def upto (n:Nat):List Int:=(List.range n).map Int.ofNat
theorem mV (n:Nat):(upto n).Nodup:=by
 unfold upto
 exact List.Pairwise.map _ (λa b FT e=>FT (Int.ofNat.inj e)) List.nodup_range
theorem Mr {n:Nat} {x:Int} :x∈upto n↔0<=x/\x<n:=by
 unfold upto
 simp only [Bf,Ff]
 constructor
 ·rintro ⟨a,ha,rfl⟩;exact ⟨Int.natCast_nonneg _,Int.ofNat_lt.2 ha⟩
 ·rintro ⟨h1,h2⟩;exact ⟨x.toNat,by omega,by simp only [Int.ofNat_eq_natCast];omega⟩
theorem Li (n:Nat):(upto n).length=n:=by simp [upto]
theorem jw {xs:List Int} (h: ∀j (hj:j<xs.length),xs[j]∉xs.take j):xs.Nodup:=by
 refine Fa.2 λi j hi hj kA e=>h j hj ?_
 rw [<-e]
 exact List.mem_take_iff_getElem.2 ⟨i,by omega,rfl⟩
theorem vK {xs:List Int} (h:xs.Nodup): ∀j (hj:j<xs.length),xs[j]∉xs.take j:=by
 intro j hj hm
 obtain ⟨i,hi,e⟩:=List.mem_take_iff_getElem.1 hm
 exact Fa.1 h i j (by omega) hj (by omega) e
theorem dA {xs:List Int} (h: ∀x∈xs,0<=x/\x<xs.length):(∀k:Nat,k<xs.length->(k:Int)∈xs)↔ ∀j (hj:j<xs.length),xs[j]∉xs.take j:=by
 constructor
 ·intro ha j hj hm
  have h1:=CP (upto xs.length) (xs.take j++xs.drop (j+1)) (mV _) λx hx=>by
   obtain ⟨h1,h2⟩:=Mr.1 hx
   have hx:=ha x.toNat (by omega)
   rw [show ((x.toNat:Nat):Int)=x by omega] at hx
   rw [<-Jc j xs,Ba,Cc hj,Bb] at hx
   rcases hx with hx|rfl|hx
   ·exact Bi _ hx
   ·exact Bi _ hm
   ·exact Ck _ hx
  rw [Li,Aw,Dm,Zl] at h1
  omega
 ·intro hn k hk
  refine Bp λhc=>?_
  have h1:=CP xs ((upto xs.length).erase (k:Int)) (jw hn) λx hx=>by
   refine (List.mem_erase_of_ne λ(e:x=(k:Int))=>hc (by rw [<-e];exact hx)).2 (Mr.2 (h x hx))
  rw [Xr (Mr.2 ⟨by omega,by omega⟩),Li] at h1
  omega
def mask (xs:List Int):Nat:=xs.foldl (λm x=>m|||2^x.toNat) 0
theorem VA (xs:List Int) (x:Int):mask (xs++ [x])=mask xs|||2^x.toNat:=by simp [mask]
theorem AM (xs:List Int) (k:Nat): ∀a:Nat,(xs.foldl (λm x=>m|||2^x.toNat) a).testBit k=(a.testBit k||xs.any λx=>decide (x.toNat=k)):=by
 induction xs with
 |nil=>simp
 |cons x xs ih=>
  intro a
  rw [Rw,ih,Nat.testBit_or,Nat.testBit_two_pow,List.any_cons,Bool.or_assoc]
theorem uf (xs:List Int) (k:Nat):(mask xs).testBit k=xs.any λx=>decide (x.toNat=k):=by
 unfold mask
 rw [AM,Nat.zero_testBit,bJ]
theorem Aft {xs:List Int} {n:Nat} (h: ∀x∈xs,x.toNat<n):mask xs<2^n:=by
 refine Nat.lt_pow_two_of_testBit _ λk hk=>?_
 rw [uf]
 refine Bool.eq_false_iff.2 λht=>?_
 obtain ⟨x,hx,he⟩:=Eh.1 ht
 have:=h x hx
 have:=Hr he
 omega
theorem yf {xs:List Int} (h: ∀x∈xs,0<=x/\x<xs.length):mask xs=2^xs.length-1↔ ∀k:Nat,k<xs.length->(k:Int)∈xs:=by
 constructor
 ·intro e k hk
  have h1:=uf xs k
  rw [e,Nat.testBit_two_pow_sub_one,Cb hk] at h1
  obtain ⟨x,hx,he⟩:=Eh.1 h1.symm
  have:=(h x hx).1
  have:=Hr he
  have e:x=(k:Int):=by omega
  exact e▸hx
 ·intro ha
  refine Nat.eq_of_testBit_eq λk=>?_
  rw [uf,Nat.testBit_two_pow_sub_one]
  by_cases hk:k<xs.length
  ·rw [Cb hk]
   exact Eh.2 ⟨k,ha k hk,by simp⟩
  ·rw [Dx hk]
   refine Bool.eq_false_iff.2 λht=>?_
   obtain ⟨x,hx,he⟩:=Eh.1 ht
   have:=h x hx
   have:=Hr he
   omega
theorem Afw {m:Nat} {x:Int} (hm:m<2^20) (h0:0<=x) (h1:x<20):
  IntKind.i64.wrap (((BitVec.ofInt IntKind.i64.bits (m:Int)|||BitVec.ofInt IntKind.i64.bits (IntKind.i64.wrap ((1:Int)*(2:Int)^min x.toNat IntKind.i64.bits))).toNat:Nat):Int)=((m|||2^x.toNat:Nat):Int):=by
 have hx:(2:Nat)^x.toNat<2^20:=Nat.pow_lt_pow_right (by omega) (by omega)
 have e1:min x.toNat IntKind.i64.bits=x.toNat:=by show min x.toNat 64=_;omega
 have e2:(1:Int)*(2:Int)^x.toNat=((2^x.toNat:Nat):Int):=by rw [Int.one_mul];exact (Int.natCast_pow 2 _).symm
 rw [e1,e2,Ct (n:=((2^x.toNat:Nat):Int)) (by have:(0:Int)<=((2^x.toNat:Nat):Int):=Int.natCast_nonneg _;omega) (by omega)]
 show IntKind.i64.wrap (((BitVec.ofInt 64 (m:Int)|||BitVec.ofInt 64 ((2^x.toNat:Nat):Int)).toNat:Nat):Int)=_
 rw [BitVec.ofInt_natCast,BitVec.ofInt_natCast,BitVec.toNat_or,BitVec.toNat_ofNat,BitVec.toNat_ofNat,Nat.mod_eq_of_lt (by omega),Nat.mod_eq_of_lt (by omega)]
 have:=Nat.or_lt_two_pow hm hx
 exact Ct (by omega) (by omega)
theorem AZ (p:List Int) (h:short p):fnW Fl (look [(95,Ch),(175,Hf)]) Jr Tryz.f162 (p,()) (λ(z:Bool)=>z=Kv p):=by
 have hs:=h
 unfold short at h
 refine Eq.mp (DM p _) ⟨_,Ab trivial,⟨λhp=>?_,λhp=>?_⟩⟩
 ·have hp:=Gb hp
  rw [Du] at hp
  dsimp only at hp
  exact Cr λhh=>hp ⟨by omega,by omega⟩
 ·have hp:=Gw hp
  rw [Du] at hp
  dsimp only at hp
  refine Bo p.length (λv=>v.1) (λj _=>DL p.length p j) rfl (λj _ hj=>absurd hj (Fy _)) ?_
  rintro j ⟨i,⟨⟩⟩ K hj hi hR hK
  dsimp only at hi⊢
  subst hi
  refine Br.dec (λhl=>?_) λhl=>?_
  ·have hl:j<p.length:=by omega
   refine ⟨_,Bn hl,_,Ab trivial,⟨λhq=>?_,λhq=>?_⟩⟩
   ·have hq:=Gb hq
    rw [Du,Ct (by omega) (by omega)] at hq
    exact Cr λhh=>hq ⟨(hh.2.2 j hl hl).1,(hh.2.2 j hl hl).2.1⟩
   ·have hq:=Gw hq
    rw [Du,Ct (by omega) (by omega)] at hq
    refine ⟨⟨by omega,by omega,by omega⟩,_,Bn hl,?_⟩
    rw [show (Int.toNat 0)=0 from rfl,Dr,Ae]
    refine ⟨_,Ab (OS hs j),⟨λhc=>?_,λhc=>?_⟩⟩
    ·have hc:decide (p[j]∈p.take j)=true:=hc
     rw [Hu] at hc
     exact Cr λhh=>(hh.2.2 j hl hl).2.2 hc
    ·have hc:decide (p[j]∈p.take j)=false:=hc
     rw [decide_eq_false_iff_not] at hc
     rw [Bj (by omega)]
     exact hK hl _ rfl (Ael hl hR hq.1 hq.2 hc)
  ·have:j=p.length:=by omega
   subst this
   exact Mp ⟨by omega,by omega,hR⟩
theorem Zf:Sound Tryz.prog 162 Jr:=
 Sound.Gk Dl (Au Ph (Au dp Bl)) mixed Tryz.func162 (by kernel_rfl) (by kernel_rfl) λx h=>AZ x.1 h
theorem AT (p:List Int) (h:short p):fnW Fl (look [(100,Ch),(105,Mm)]) Jr Tryz.f130 (p,()) (λ(z:Bool)=>z=Kv p):=by
 unfold short at h
 refine Eq.mp (DF p _) ⟨_,Ab trivial,_,Ab trivial,⟨λhp=>?_,λhp=>?_⟩⟩
 ·have hp:=Gb hp
  rw [Du] at hp
  dsimp only at hp
  exact Cr λhh=>hp ⟨by omega,by omega⟩
 ·have hp:=Gw hp
  rw [Du] at hp
  dsimp only at hp
  refine Bo p.length (λv=>v.2.1) (λj v=>v.1=(mask (p.take j):Int)/\ ∀x∈p.take j,0<=x/\x<p.length) rfl ⟨rfl,by simp⟩ ?_
  rintro j ⟨m,i,⟨⟩⟩ K hj hi ⟨hm,hR⟩ hK
  dsimp only at hi hm⊢
  subst hi hm
  refine Br.dec (λhl=>?_) λhl=>?_
  ·have hl:j<p.length:=by omega
   refine ⟨_,Bn hl,_,Ab trivial,_,Ab trivial,⟨λhq=>?_,λhq=>?_⟩⟩
   ·have hq:=Gb hq
    rw [Du] at hq
    dsimp only at hq
    rw [Ct (by omega) (by omega)] at hq
    exact Cr λhh=>hq ⟨(hh.2.2 j hl hl).1,(hh.2.2 j hl hl).2.1⟩
   ·have hq:=Gw hq
    rw [Du] at hq
    dsimp only at hq
    rw [Ct (by omega) (by omega)] at hq
    refine ⟨by omega,?_⟩
    rw [Bj (by omega)]
    have hb:mask (p.take j)<2^20:=Aft λx hx=>by have:=hR x hx;omega
    refine hK hl _ rfl ⟨?_,?_⟩
    ·dsimp only
     rw [Afw hb hq.1 (by omega),Ds hl,VA]
    ·rw [Ds hl]
     intro x hx
     rcases Ba.1 hx with hx|hx
     ·exact hR x hx
     ·rw [Ad.1 hx];omega
  ·have:j=p.length:=by omega
   subst this
   rw [Be] at hR⊢
   refine ⟨by omega,?_⟩
   have hx:(2:Nat)^p.length<=2^20:=Nat.pow_le_pow_right (by omega) (by omega)
   have rV:0<(2:Nat)^p.length:=Nat.two_pow_pos _
   have e1:min (p.length:Int).toNat IntKind.i64.bits=p.length:=by show min (p.length:Int).toNat 64=_;omega
   have e2:(1:Int)*(2:Int)^p.length=((2^p.length:Nat):Int):=by rw [Int.one_mul];exact (Int.natCast_pow 2 _).symm
   rw [e1,e2,Ct (n:=((2^p.length:Nat):Int)) (by omega) (by omega),Ct (by omega) (by omega)]
   have hE:((mask p:Int)==((2^p.length:Nat):Int)-1)=decide (mask p=2^p.length-1):=by
    rw [bp,Xt,Hu]
    omega
   show ((mask p:Int)==((2^p.length:Nat):Int)-1)=Kv p
   rw [hE]
   by_cases hf:mask p=2^p.length-1
   ·rw [Cb hf]
    have hn:=(dA hR).1 ((yf hR).1 hf)
    refine Mp ⟨by omega,by omega,λj hj _=>?_⟩
    have:=hR _ (Am hj)
    exact ⟨this.1,by omega,hn j hj⟩
   ·rw [Dx hf]
    refine Cr λhh=>hf ((yf hR).2 ((dA hR).2 λj hj=>(hh.2.2 j hj hj).2.2))
theorem eT:Sound Tryz.prog 130 Jr:=
 Sound.Gk Dl (Au Qu (Au Vn Bl)) mixed Tryz.func130 (by kernel_rfl) (by kernel_rfl) λx h=>AT x.1 h
theorem AY (n:Int) (g:List (List Int)) (h:Hi g):fnW Fl (look [(95,Ch),(162,Jr)]) Rc Tryz.f122 (n,g,()) (λ(z:Bool)=>z=ae n g):=by
 obtain ⟨h,h4⟩:=h
 refine Eq.mp (DK n g _) ⟨_,Ab trivial,⟨λhp=>?_,λhp=>?_⟩⟩
 ·have hp:=Gb hp
  rw [Du] at hp
  exact Cr λhh=>hp hh.1
 ·have hp:=Gw hp
  rw [Du] at hp
  refine Br.dec (λhg=>?_) λhg=>?_
  ·exact Cr λhh=>by have:=hh.2.1;omega
  ·refine Bo g.length (λv=>v.1) (λj _=> ∀p∈g.take j,Ix n p=true) rfl (by simp) ?_
   rintro j ⟨i,⟨⟩⟩ K hj hi hR hK
   dsimp only at hi⊢
   subst hi
   refine Br.dec (λhl=>?_) λhl=>?_
   ·have hl:j<g.length:=by omega
    have hm:g[j]∈g:=Am hl
    refine ⟨_,Bn hl,⟨λhe=>?_,λhe=>?_⟩⟩
    ·simp only [bne_iff_ne,ne_eq] at he
     exact Cr λhh=>he (Jg.1 (hh.2.2 _ hm)).1
    ·simp only [gE] at he
     refine ⟨_,Bn hl,_,Ab (h4 _ hm),⟨λhq=>?_,λhq=>?_⟩⟩
     ·have hq:=Gb hq
      exact Cr λhh=>hq (Jg.1 (hh.2.2 _ hm)).2
     ·have hq:=Gw hq
      rw [Bj (by omega)]
      refine hK hl _ rfl ?_
      rw [Ds hl]
      intro x hx
      rcases Ba.1 hx with hx|hx
      ·exact hR x hx
      ·rw [Ad.1 hx];exact Jg.2 ⟨he,hq⟩
   ·have:j=g.length:=by omega
    subst this
    rw [Be] at hR
    exact Mp ⟨hp,by omega,hR⟩
theorem qk:Sound Tryz.prog 122 Rc:=
 Sound.Gk Dl (Au Ph (Au Zf Bl)) mixed Tryz.func122 (by kernel_rfl) (by kernel_rfl) λx h=>AY x.1 x.2.1 h
theorem Ag0 (p:List Int) (n:Int) (h:short p):fnW Fl (look [(105,Mm),(130,Jr)]) kM Tryz.f174 (p,n,()) (λ(z:Bool)=>z=!Ix n p):=by
 refine Eq.mp (Agv p n _) ⟨_,Ab trivial,⟨λhe=>?_,λhe=>⟨_,Ab h,?_⟩⟩⟩
 ·simp only [bne_iff_ne,ne_eq] at he
  have:Ix n p=false:=Aei.2 λhh=>he hh.1
  rw [this];rfl
 ·simp only [gE] at he
  show (!Kv p)=_
  congr 1
  cases hp:Kv p with
  |true=>exact Mp ⟨he,hp⟩
  |false=>exact Cr λhh=>by rw [hh.2] at hp;cases hp
theorem IT:Sound Tryz.prog 174 kM:=
 Sound.Gk Dl (Au Vn (Au eT Bl)) mixed Tryz.func174 (by kernel_rfl) (by kernel_rfl) λx h=>Ag0 x.1 x.2.1 h
theorem aa {α:Type} (P:α->Bool): ∀(l:List α) (i:Int),0<=i->(0<=Dv P l i↔l.any P=true)
 | [],i,_=>by simp [Dv]
 |y::r,i,h=>by
  simp only [Dv,List.any_cons,Lh]
  split
  ·rename_i hy;simp [hy,h]
  ·rename_i hy;rw [aa P r (i+1) (by omega)];simp [hy]
theorem Aq5 (g:List (List Int)) (n:Int×Unit) (h:Hi g):fnW Fl (look [(174,kM)]) yI Tryz.f140 (g,n,()) (λ(z:Int)=>z=Dv (λp=>!Ix n.1 p) g 0):=by
 obtain ⟨h,h4⟩:=h
 refine Eq.mp (Aqw g n _) ?_
 refine Bo g.length (λv=>v.1) (λj _=>Dv (λp=>!Ix n.1 p) (g.drop j) j=Dv (λp=>!Ix n.1 p) g 0) rfl (by simp) ?_
 rintro j ⟨i,⟨⟩⟩ K hj hi hR hK
 dsimp only at hi⊢
 subst hi
 refine Br.dec (λhl=>?_) λhl=>?_
 ·have hl:j<g.length:=by omega
  rw [Cc hl] at hR
  simp only [Dv] at hR
  refine ⟨_,Bn hl,_,Ab (h4 _ (Am hl)),⟨λhe=>?_,λhe=>?_⟩⟩
  ·have he:(!Ix n.1 g[j])=true:=he
   rw [Ab he] at hR
   exact hR
  ·have he:(!Ix n.1 g[j])=false:=he
   rw [Ai (by rw [he];decide)] at hR
   rw [Bj (by omega)]
   exact hK hl _ rfl (by push_cast;exact hR)
 ·have:j=g.length:=by omega
  subst this
  rw [Fe] at hR
  exact hR
theorem WT:Sound Tryz.prog 140 yI:=
 Sound.Gk Dl (Au IT Bl) mixed Tryz.func140 (by kernel_rfl) (by kernel_rfl) λx h=>Aq5 x.1 x.2.1 h
theorem Apy (g:List (List Int)) (n:Int×Unit) (h:Hi g):fnW Fl (look [(140,yI)]) yC Tryz.f173 (g,n,()) (λ(z:Bool)=>z=List.any g (λp=>!Ix n.1 p)):=by
 refine Eq.mp (Aqp g n _) ⟨_,Ab h,?_⟩
 rw [bp,Hu]
 exact aa _ g 0 (Kl 0)
theorem WK:Sound Tryz.prog 173 yC:=
 Sound.Gk Dl (Au WT Bl) mixed Tryz.func173 (by kernel_rfl) (by kernel_rfl) λx h=>Apy x.1 x.2.1 h
theorem AS (n:Int) (g:List (List Int)) (h:Hi g):fnW Fl (look [(100,Ch),(173,yC)]) Rc Tryz.f150 (n,g,()) (λ(z:Bool)=>z=ae n g):=by
 refine Eq.mp (DE n g _) ⟨_,Ab trivial,⟨λhp=>?_,λhp=>?_⟩⟩
 ·have hp:Nd n 1 20=true:=hp
  rw [Du] at hp
  refine Br.dec (λhl=>⟨_,Ab h,?_⟩) λhl=>?_
  ·show (!List.any g (λp=>!Ix n p))=ae n g
   cases ha:List.any g (λp=>!Ix n p) with
   |true=>
    obtain ⟨p,xM,SC⟩:=Eh.1 ha
    exact Cr λhh=>by rw [hh.2.2 p xM] at SC;cases SC
   |false=>
    refine Mp ⟨hp,by omega,λp hm=>?_⟩
    have:=List.any_eq_false.1 ha p hm
    simpa using this
  ·exact Cr λhh=>by have:=hh.2.1;omega
 ·refine Cr λhh=>?_
  have:Nd n 1 20=true:=Du.2 hh.1
  have hp:Nd n 1 20=false:=hp
  rw [this] at hp;cases hp
theorem qh:Sound Tryz.prog 150 Rc:=
 Sound.Gk Dl (Au Qu (Au WK Bl)) mixed Tryz.func150 (by kernel_rfl) (by kernel_rfl) λx h=>AS x.1 x.2.1 h
theorem Nt {s:ByteArray} {k:Nat} (h:k<s.size):s[k]?=some s[k]:=getElem?_pos s k h
theorem Abs (s:ByteArray) (i:Int) (h:0<=i/\i<s.size/\s.size<=4294967296):fnW Fl (look []) eO Tryz.f123 (s,i,()) (λ(z:Bool)=>z=od s i):=by
 obtain ⟨h1,h2,h3⟩:=h
 have hi:i.toNat<s.size:=by omega
 refine Eq.mp (Adf s i _) ⟨h1,_,Nt hi,Br.dec (λhq=>?_) λhq=>⟨h1,_,Nt hi,Br.dec (λhr=>?_) λhr=>?_⟩⟩
 ·refine Cr λ⟨c,hc,hc1,_⟩=>?_
  rw [Nt hi] at hc;cases hc;omega
 ·refine Cr λ⟨c,hc,_,hc1,_⟩=>?_
  rw [Nt hi] at hc;cases hc;omega
 ·refine Bo i.toNat (λv=>v.1) (λj _=> ∀k,k<j->s[k]?≠some s[i.toNat]) rfl (λk hk=>absurd hk (Fy _)) ?_
  rintro j ⟨i',⟨⟩⟩ K hj gM hR hK
  dsimp only at gM⊢
  subst gM
  refine Br.dec (λhl=>?_) λhl=>?_
  ·have hl:j<i.toNat:=by omega
   have hj:j<s.size:=by omega
   rw [Ae]
   refine ⟨by omega,_,Nt hj,h1,_,Nt hi,⟨λhe=>?_,λhe=>?_⟩⟩
   ·simp only [Xt,Rv] at he
    refine Cr λ⟨c,hc,_,_,hc1⟩=>?_
    rw [Nt hi] at hc;cases hc
    exact hc1 j hl (by rw [Nt hj,UInt8.toNat_inj.1 he])
   ·simp only [Km,ne_eq,Rv] at he
    rw [Bj (by omega)]
    refine hK hl _ rfl λk hk=>?_
    by_cases e:k=j
    ·subst e
     rw [Nt hj]
     exact λe=>he (by rw [Bd e])
    ·exact hR k (by omega)
  ·have:j=i.toNat:=by omega
   subst this
   exact Mp ⟨_,Nt hi,by omega,by omega,hR⟩
theorem CD:Sound Tryz.prog 123 eO:=
 Sound.Gk Dl Bl mixed Tryz.func123 (by kernel_rfl) (by kernel_rfl) λx h=>Abs x.1 x.2.1 h
theorem VP (s:ByteArray) (h:s.size<=4294967296):fnW Fl (look [(100,Ch)]) bC Tryz.f151 (s,()) (λ(z:Bool)=>z=bx s):=by
 refine Eq.mp (XT s _) ?_
 refine Bo s.size (λv=>v.1) (λj _=> ∀k,k<j->z8 s k) rfl (λk hk=>absurd hk (Fy _)) ?_
 rintro j ⟨i,⟨⟩⟩ K hj hi hR hK
 dsimp only at hi⊢
 subst hi
 refine Br.dec (λhl=>?_) λhl=>?_
 ·have hl:j<s.size:=by omega
  rw [Ae]
  have hb:=(s[j]).toNat_lt
  refine ⟨by omega,_,Nt hl,_,Ab trivial,⟨λhq=>?_,λhq=>?_⟩⟩
  ·have hq:=Gb hq
   rw [Du] at hq
   dsimp only at hq
   rw [Ct (by omega) (by omega)] at hq
   refine Cr λhh=>?_
   obtain ⟨c,hc,hc1,hc2,_⟩:=hh.2 j hl
   rw [Nt hl] at hc;cases hc
   exact hq ⟨by omega,by omega⟩
  ·have hq:=Gw hq
   rw [Du] at hq
   dsimp only at hq
   rw [Ct (by omega) (by omega)] at hq
   refine Bo j (λv=>v.1) (λm _=> ∀k,k<m->s[k]?≠some s[j]) rfl (λk hk=>absurd hk (Fy _)) ?_
   rintro m ⟨i',⟨⟩⟩ K' hm gM hR' hK'
   dsimp only at gM⊢
   subst gM
   refine Br.dec (λLq=>?_) λLq=>?_
   ·have Lq:m<j:=by omega
    have hm':m<s.size:=by omega
    rw [Ae]
    refine ⟨by omega,_,Nt hm',by omega,_,Nt hl,⟨λhe=>?_,λhe=>?_⟩⟩
    ·simp only [Xt,Rv] at he
     refine Cr λhh=>?_
     obtain ⟨c,hc,_,_,hc1⟩:=hh.2 j hl
     rw [Nt hl] at hc;cases hc
     exact hc1 m Lq (by rw [Nt hm',UInt8.toNat_inj.1 he])
    ·simp only [Km,ne_eq,Rv] at he
     rw [Bj (by omega)]
     refine hK' Lq _ rfl λk hk=>?_
     by_cases e:k=m
     ·subst e
      rw [Nt hm']
      exact λe=>he (by rw [Bd e])
     ·exact hR' k (by omega)
   ·have:m=j:=by omega
    subst this
    rw [Bj (by omega)]
    refine hK hl _ rfl λk hk=>?_
    by_cases e:k=m
    ·subst e
     exact ⟨_,Nt hl,by omega,by omega,hR'⟩
    ·exact hR k (by omega)
 ·have:j=s.size:=by omega
  subst this
  refine ⟨_,Ab trivial,?_⟩
  show Nd s.size 1 8=_
  cases hr:Nd s.size 1 8 with
  |true=>rw [Du] at hr;exact Mp ⟨by omega,hR⟩
  |false=>refine Cr λhh=>?_;rw [Du.2 ⟨by omega,by omega⟩] at hr;cases hr
theorem wU:Sound Tryz.prog 151 bC:=
 Sound.Gk Dl (Au Qu Bl) mixed Tryz.func151 (by kernel_rfl) (by kernel_rfl) λx h=>VP x.1 h
theorem mX {p:PP} (h:Ca p=true):1<=p.1/\p.1<=20/\1<=p.2.2.1.length/\p.2.2.1.length<=8:=by
 obtain ⟨h1,h2,h3⟩:=Jg.1 h
 obtain ⟨h4,h5,_⟩:=Jg.1 h1
 obtain ⟨h6,_⟩:=Jg.1 h2
 omega
theorem BA (p:PP) (h:Gl p):fnW Fl (look [(122,Rc),(123,eO)]) Js Tryz.f63 (p,()) (λ(z:Bool)=>z=Ca p):=by
 obtain ⟨hn,hg⟩:=h
 refine Eq.mp (DN p _) ⟨λh0=>?_,λh0=>⟨λh1=>?_,λh1=>⟨_,Ab hg,⟨λh2=>?_,λh2=>?_⟩⟩⟩⟩
 ·simp only [Xt] at h0
  exact Cr λhh=>by obtain ⟨_,h2,h3⟩:=hh;have:=(Jg.1 h2).1;omega
 ·simp only [bne_iff_ne,ne_eq,Rv] at h1
  exact Cr λhh=>h1 hh.2.2
 ·have h2:=Gb h2
  exact Cr λhh=>h2 hh.1
 ·simp only [Km,ne_eq] at h0
  simp only [gE,Rv] at h1
  have h2:ae p.1 p.2.2.1=true:=Gw h2
  refine Bo p.2.1.size (λv=>v.1) (λj v=>v.2=(p.1,p.2.1,p.2.2.1,())/\ ∀k,k<j->z8 p.2.1 k) rfl ⟨rfl,λk hk=>absurd hk (Fy _)⟩ ?_
  rintro j ⟨i,v⟩ K hj hi ⟨hv,hR⟩ hK
  dsimp only at hi hv⊢
  subst hi hv
  dsimp only
  refine Br.dec (λhl=>?_) λhl=>?_
  ·have hl:j<p.2.1.size:=by omega
   refine ⟨_,Ab ⟨Int.natCast_nonneg j,Int.ofNat_lt.2 hl,hn⟩,⟨λhq=>?_,λhq=>?_⟩⟩
   ·have hq: ¬od p.2.1 j=true:=Gb hq
    refine Cr λhh=>hq (Jg.2 ?_)
    rw [Ae]
    exact (Jg.1 hh.2.1).2 j hl
   ·have hq:od p.2.1 j=true:=Gw hq
    have hq:=Jg.1 hq
    rw [Ae] at hq
    rw [Bj (by omega)]
    refine hK hl _ rfl ⟨rfl,λk hk=>?_⟩
    by_cases e:k=j
    ·subst e;exact hq
    ·exact hR k (by omega)
  ·have:j=p.2.1.size:=by omega
   subst this
   have:=(Jg.1 h2).2.1
   exact Mp ⟨h2,Jg.2 ⟨⟨by omega,by omega⟩,hR⟩,h1⟩
theorem Zg:Sound Tryz.prog 63 Js:=
 Sound.Gk Dl (Au qk (Au CD Bl)) mixed Tryz.func63 (by kernel_rfl) (by kernel_rfl) λx h=>BA x.1 h
theorem AU (p:PP) (h:Gl p):fnW Fl (look [(150,Rc),(151,bC)]) Js Tryz.f99 (p,()) (λ(z:Bool)=>z=Ca p):=by
 obtain ⟨hn,hg⟩:=h
 refine Eq.mp (DG p _) ⟨_,Ab hg,⟨λh1=>⟨_,Ab hn,⟨λh2=>?_,λh2=>?_⟩⟩,λh1=>?_⟩⟩
 ·have h1:ae p.1 p.2.2.1=true:=h1
  have h2:bx p.2.1=true:=h2
  by_cases e:p.2.1.size=p.2.2.1.length
  ·rw [e,beq_self_eq_true];exact Mp ⟨h1,h2,e⟩
  ·rw [show ((p.2.1.size:Int)==(p.2.2.1.length:Int))=false from Km.2 (by omega)];exact Cr λhh=>e hh.2.2
 ·have h2:bx p.2.1=false:=h2
  exact Cr λhh=>by rw [hh.2.1] at h2;cases h2
 ·have h1:ae p.1 p.2.2.1=false:=h1
  exact Cr λhh=>by rw [hh.1] at h1;cases h1
theorem eU:Sound Tryz.prog 99 Js:=
 Sound.Gk Dl (Au qh (Au wU Bl)) mixed Tryz.func99 (by kernel_rfl) (by kernel_rfl) λx h=>AU x.1 h
abbrev tM1:Ty:= .clo 103 (.pair (.ptr tL) .unit)
noncomputable abbrev kO:Spec:=Gk (.pair tI (.pair (.ptr tL) .unit)) .bool false true (λx=>short x.2.1) (λx=>!Dz x.2.1 x.1)
noncomputable abbrev yJ:Spec:=Gk (.pair tL (.pair tM1 .unit)) tI false true (λx=>short x.1/\short x.2.1.1) (λx=>Dv (λy=>!Dz x.2.1.1 y) x.1 0)
noncomputable abbrev yD:Spec:=Gk (.pair tL (.pair tM1 .unit)) .bool false true (λx=>short x.1/\short x.2.1.1) (λx=>List.any x.1 (λy=>!Dz x.2.1.1 y))
noncomputable abbrev kL:Spec:=Gk (.pair tL (.pair tL .unit)) .bool false true (λx=>short x.1/\short x.2.1) (λx=>List.all x.2.1 (λy=>Dz x.1 y))
def KQ (n:Int) (g:List (List Int)) (j:Nat):Prop:= ∀h:j<g.length,Ey n g[j]=true/\(∀h1:0<j,g[j-1].length<g[j].length/\ ∀x∈g[j-1],x∈g[j])
noncomputable def Gx (p:PP) (g:List (List Int)):Bool:=dec (Ca p=true/\(1<=g.length/\g.length<=5)/\(∀j,j<g.length->KQ p.1 g j)/\ ∃x,g[g.length-1]?=some x/\(x.length:Int)=p.1)
noncomputable abbrev Em:Spec:=Gk (.pair Iw (.pair nf .unit)) .bool false true (λx=>Gl x.1/\Hi x.2.1) (λx=>Gx x.1 x.2.1)
noncomputable abbrev eP:Spec:=Gk (.pair tI (.pair tL .unit)) .bool false true (λx=>short x.2.1) (λx=>Ix x.1 x.2.1)
noncomputable abbrev Za:Spec:=Gk (.pair Iw (.pair tL .unit)) .bool false true (λx=>short x.2.1) (λx=>Ix x.1.1 x.2.1)
noncomputable abbrev Og:Spec:=Gk (.pair Iw (.pair tL .unit)) .bool false true (λx=>Gl x.1/\short x.2.1) (λx=>Ca x.1&&Ix x.1.1 x.2.1)
theorem Agy (x:Int) (xs:List Int) (P:Bool->Prop):(∃(y3:Bool),Hf.fn (xs,x,())=some y3/\P !y3)=fnW Fl (look [(104,Hf)]) kO Tryz.f103 (x,xs,()) P:=by kernel_rfl
theorem Aqx (xs:List Int) (c:List Int×Unit) (P:Int->Prop):(Dn (λ(v3:Int×PUnit) (k4:Int×PUnit->Prop)=>Br (decide (v3.1<(↑xs.length:Int))) (∃(y5:Int),idx xs v3.1=some y5/\ ∃(y6:Bool),kO.fn (y5,c.1,())=some y6/\Br y6 (P v3.1) (k4 (IntKind.i64.wrap (v3.1+(1:Int)),()))) (P (-1:Int))) ((0:Int),PUnit.unit))=fnW Fl (look [(103,kO)]) yJ Tryz.f146 (xs,c,()) P:=by kernel_rfl
theorem Aqq (xs:List Int) (c:List Int×Unit) (P:Bool->Prop):(∃(y3:Int),yJ.fn (xs,c,())=some y3/\P (decide (y3>=(0:Int))))=fnW Fl (look [(146,yJ)]) yD Tryz.f102 (xs,c,()) P:=by kernel_rfl
theorem Agu (xs ys:List Int) (P:Bool->Prop):(Dn (λ(v3:Int×PUnit) (k4:Int×PUnit->Prop)=>Br (decide (v3.1<(↑ys.length:Int))) (∃(y5:Int),idx ys v3.1=some y5/\ ∃(y6:Bool),Hf.fn (xs,y5,())=some y6/\Br (!y6) (P false) (k4 (IntKind.i64.wrap (v3.1+(1:Int)),()))) (P true)) ((0:Int),PUnit.unit))=fnW Fl (look [(175,Hf)]) kL Tryz.f152 (xs,ys,()) P:=by kernel_rfl
abbrev ib:Type:=Int×Int×ByteArray×List (List Int)×PUnit
theorem vQ (p:Int×ByteArray×List (List Int)×Unit) (g:List (List Int)) (P:Bool->Prop):(∃(y3:Bool),Js.fn ((p.1,p.2.1,p.2.2.1,()),())=some y3/\Br (!y3) (P false) (∃(y4:Bool),Ch.fn ((↑g.length:Int),(1:Int),(5:Int),())=some y4/\Br (!y4) (P false) (Dn (λ(v5:ib) (k6:ib->Prop)=>Br (decide (v5.1<(↑g.length:Int))) (∃(y7:List Int),idx g v5.1=some y7/\ ∃(y8:Bool),Ho.fn (v5.2.1,y7,())=some y8/\Br (!y8) (P false) (Br (decide (v5.1>(0:Int))) (∃(y9:List Int),idx g v5.1=some y9/\ ∃(Xw:List Int),idx g (IntKind.i64.wrap (v5.1-(1:Int)))=some Xw/\Br (decide ((↑y9.length:Int)<=(↑Xw.length:Int))) (P false) (∃(Sj:List Int),idx g v5.1=some Sj/\ ∃(Rr:List Int),idx g (IntKind.i64.wrap (v5.1-(1:Int)))=some Rr/\ ∃(il:Bool),kL.fn (Sj,Rr,())=some il/\Br (!il) (P false) (k6 (IntKind.i64.wrap (v5.1+(1:Int)),v5.2.1,v5.2.2.1,v5.2.2.2.1,())))) (k6 (IntKind.i64.wrap (v5.1+(1:Int)),v5.2.1,v5.2.2.1,v5.2.2.2.1,())))) (∃(y7:List Int),idx g (IntKind.i64.wrap ((↑g.length:Int)-(1:Int)))=some y7/\P ((↑y7.length:Int)==v5.2.1))) ((0:Int),p.1,p.2.1,p.2.2.1,PUnit.unit))))=fnW Fl (look [(63,Js),(95,Ch),(137,Ho),(152,kL)]) Em Tryz.f106 (p,g,()) P:=by kernel_rfl
abbrev ia:Type:=Int×Int×ByteArray×List (List Int)×PUnit
theorem vN (p:Int×ByteArray×List (List Int)×Unit) (g:List (List Int)) (P:Bool->Prop):(∃(y3:Bool),Js.fn ((p.1,p.2.1,p.2.2.1,()),())=some y3/\Br (!y3) (P false) (∃(y4:Int),Qs.fn (g,())=some y4/\ ∃(y5:Bool),Ch.fn (y4,(1:Int),(5:Int),())=some y5/\Br (!y5) (P false) (Dn (λ(v6:ia) (k7:ia->Prop)=>Br (decide (v6.1<(↑g.length:Int))) (∃(y8:List Int),idx g v6.1=some y8/\ ∃(y9:Bool),Ho.fn (v6.2.1,y8,())=some y9/\Br (!y9) (P false) (Br (decide (v6.1>(0:Int))) (∃(Xw:List Int),idx g (IntKind.i64.wrap (v6.1-(1:Int)))=some Xw/\Br (decide ((↑Xw.length:Int)>=(↑y8.length:Int))) (P false) (∃(Sj:List Int),idx g (IntKind.i64.wrap (v6.1-(1:Int)))=some Sj/\ ∃(Rr:Bool),yD.fn (Sj,(y8,()),())=some Rr/\Br Rr (P false) (k7 (IntKind.i64.wrap (v6.1+(1:Int)),v6.2.1,v6.2.2.1,v6.2.2.2.1,())))) (k7 (IntKind.i64.wrap (v6.1+(1:Int)),v6.2.1,v6.2.2.1,v6.2.2.2.1,())))) (∃(y8:List Int),idx g (IntKind.i64.wrap ((↑g.length:Int)-(1:Int)))=some y8/\ ∃(y9:Int),Mm.fn (y8,())=some y9/\P (y9==v6.2.1))) ((0:Int),p.1,p.2.1,p.2.2.1,PUnit.unit))))=fnW Fl (look [(99,Js),(100,Ch),(91,Qs),(101,Ho),(102,yD),(105,Mm)]) Em Tryz.f44 (p,g,()) P:=by kernel_rfl
theorem Adg (n:Int) (s:List Int) (P:Bool->Prop):(Br ((↑s.length:Int)==n) (∃(y3:Bool),Jr.fn (s,())=some y3/\P y3) (P false))=fnW Fl (look [(162,Jr)]) eP Tryz.f124 (n,s,()) P:=by kernel_rfl
theorem vO (p:Int×ByteArray×List (List Int)×Unit) (s:List Int) (P:Bool->Prop):(∃(y3:Int),Mm.fn (s,())=some y3/\Br (y3==p.1) (∃(y4:Bool),Jr.fn (s,())=some y4/\P y4) (P false))=fnW Fl (look [(105,Mm),(130,Jr)]) Za Tryz.f78 (p,s,()) P:=by kernel_rfl
theorem xj (p:Int×ByteArray×List (List Int)×Unit) (s:List Int) (P:Bool->Prop):(∃(y3:Bool),Js.fn ((p.1,p.2.1,p.2.2.1,()),())=some y3/\Br y3 (∃(y4:Bool),eP.fn (p.1,s,())=some y4/\P y4) (P false))=fnW Fl (look [(63,Js),(124,eP)]) Og Tryz.f64 (p,s,()) P:=by kernel_rfl
theorem Ag3 (x:Int) (xs:List Int) (h:short xs):fnW Fl (look [(104,Hf)]) kO Tryz.f103 (x,xs,()) (λ(z:Bool)=>z=!Dz xs x):=Eq.mp (Agy x xs _) ⟨_,Ab h,rfl⟩
theorem IV:Sound Tryz.prog 103 kO:=
 Sound.Gk Dl (Au vg Bl) mixed Tryz.func103 (by kernel_rfl) (by kernel_rfl) λx h=>Ag3 x.1 x.2.1 h
theorem Aq6 (xs:List Int) (c:List Int×Unit) (h:short xs/\short c.1):fnW Fl (look [(103,kO)]) yJ Tryz.f146 (xs,c,()) (λ(z:Int)=>z=Dv (λy=>!Dz c.1 y) xs 0):=by
 obtain ⟨h,h4⟩:=h
 unfold short at h
 refine Eq.mp (Aqx xs c _) ?_
 refine Bo xs.length (λv=>v.1) (λj _=>Dv (λy=>!Dz c.1 y) (xs.drop j) j=Dv (λy=>!Dz c.1 y) xs 0) rfl (by simp) ?_
 rintro j ⟨i,⟨⟩⟩ K hj hi hR hK
 dsimp only at hi⊢
 subst hi
 refine Br.dec (λhl=>?_) λhl=>?_
 ·have hl:j<xs.length:=by omega
  rw [Cc hl] at hR
  simp only [Dv] at hR
  refine ⟨_,Bn hl,_,Ab h4,⟨λhe=>?_,λhe=>?_⟩⟩
  ·have he:(!Dz c.1 xs[j])=true:=he
   rw [Ab he] at hR
   exact hR
  ·have he:(!Dz c.1 xs[j])=false:=he
   rw [Ai (by rw [he];decide)] at hR
   rw [Bj (by omega)]
   exact hK hl _ rfl (by push_cast;exact hR)
 ·have:j=xs.length:=by omega
  subst this
  rw [Fe] at hR
  exact hR
theorem WU:Sound Tryz.prog 146 yJ:=
 Sound.Gk Dl (Au IV Bl) mixed Tryz.func146 (by kernel_rfl) (by kernel_rfl) λx h=>Aq6 x.1 x.2.1 h
theorem Apz (xs:List Int) (c:List Int×Unit) (h:short xs/\short c.1):fnW Fl (look [(146,yJ)]) yD Tryz.f102 (xs,c,()) (λ(z:Bool)=>z=List.any xs (λy=>!Dz c.1 y)):=by
 refine Eq.mp (Aqq xs c _) ⟨_,Ab h,?_⟩
 rw [bp,Hu]
 exact aa _ xs 0 (Kl 0)
theorem WL:Sound Tryz.prog 102 yD:=
 Sound.Gk Dl (Au WU Bl) mixed Tryz.func102 (by kernel_rfl) (by kernel_rfl) λx h=>Apz x.1 x.2.1 h
theorem Afz (xs ys:List Int) (h:short xs/\short ys):fnW Fl (look [(175,Hf)]) kL Tryz.f152 (xs,ys,()) (λ(z:Bool)=>z=List.all ys (λy=>Dz xs y)):=by
 obtain ⟨h4,h⟩:=h
 unfold short at h
 refine Eq.mp (Agu xs ys _) ?_
 refine Bo ys.length (λv=>v.1) (λj _=> ∀y∈ys.take j,Dz xs y=true) rfl (by simp) ?_
 rintro j ⟨i,⟨⟩⟩ K hj hi hR hK
 dsimp only at hi⊢
 subst hi
 refine Br.dec (λhl=>?_) λhl=>?_
 ·have hl:j<ys.length:=by omega
  refine ⟨_,Bn hl,_,Ab h4,⟨λhe=>?_,λhe=>?_⟩⟩
  ·have he: ¬Dz xs ys[j]=true:=Gb he
   exact (List.all_eq_false.2 ⟨_,Am hl,he⟩).symm
  ·have he:Dz xs ys[j]=true:=Gw he
   rw [Bj (by omega)]
   refine hK hl _ rfl ?_
   rw [Ds hl]
   intro x hx
   rcases Ba.1 hx with hx|hx
   ·exact hR x hx
   ·rw [Ad.1 hx];exact he
 ·have:j=ys.length:=by omega
  subst this
  rw [Be] at hR
  exact (Bc.2 hR).symm
theorem IS:Sound Tryz.prog 152 kL:=
 Sound.Gk Dl (Au dp Bl) mixed Tryz.func152 (by kernel_rfl) (by kernel_rfl) λx h=>Afz x.1 x.2.1 h
theorem QW {a b:Int} {P:Prop} (h:P↔a=b):(a==b)=dec P:=by
 by_cases e:a=b
 ·rw [Xt.2 e];exact Mp (h.2 e)
 ·rw [Km.2 e];exact Cr λhp=>e (h.1 hp)
theorem uE (p:PP) (g:List (List Int)) (h:Gl p/\Hi g):fnW Fl (look [(63,Js),(95,Ch),(137,Ho),(152,kL)]) Em Tryz.f106 (p,g,()) (λ(z:Bool)=>z=Gx p g):=by
 obtain ⟨hp,hg,h4⟩:=h
 refine Eq.mp (vQ p g _) ⟨_,Ab hp,⟨λh1=>?_,λh1=>⟨_,Ab trivial,⟨λh2=>?_,λh2=>?_⟩⟩⟩⟩
 ·have h1:=Gb h1
  exact Cr λhh=>h1 hh.1
 ·have h2:=Gb h2
  rw [Du] at h2
  dsimp only at h2
  exact Cr λhh=>h2 (by have:=hh.2.1;omega)
 ·have h1:Ca p=true:=Gw h1
  have h2:=Gw h2
  rw [Du] at h2
  dsimp only at h2
  have hv:=mX h1
  refine Bo g.length (λv=>v.1) (λj v=>v.2=(p.1,p.2.1,p.2.2.1,())/\ ∀k,k<j->KQ p.1 g k) rfl ⟨rfl,λk hk=>absurd hk (Fy _)⟩ ?_
  rintro j ⟨i,v⟩ K hj hi ⟨tV,hR⟩ hK
  dsimp only at hi tV⊢
  subst hi tV
  dsimp only
  refine Br.dec (λhl=>?_) λhl=>?_
  ·have hl:j<g.length:=by omega
   have hm:=h4 _ (Am hl)
   refine ⟨_,Bn hl,_,Ab ⟨⟨by dsimp only;omega,by dsimp only;omega⟩,hm⟩,⟨λhq=>?_,λhq=>?_⟩⟩
   ·have hq: ¬Ey p.1 g[j]=true:=Gb hq
    exact Cr λhh=>hq (hh.2.2.1 j hl hl).1
   ·have hq:Ey p.1 g[j]=true:=Gw hq
    refine Br.dec (λh0=>?_) λh0=>?_
    ·have h0:0<j:=by omega
     rw [Ct (by omega) (by omega),show (j:Int)-1=((j-1:Nat):Int) by omega]
     have hm':=h4 _ (Am (show j-1<g.length by omega))
     refine ⟨_,Bn hl,_,Bn (by omega),Br.dec (λhc=>?_) λhc=>⟨_,Bn hl,_,Bn (by omega),_,Ab ⟨hm,hm'⟩,⟨λha=>?_,λha=>?_⟩⟩⟩
     ·exact Cr λhh=>by have:=((hh.2.2.1 j hl hl).2 h0).1;omega
     ·have ha: ¬List.all g[j-1] (λy=>Dz g[j] y)=true:=Gb ha
      exact Cr λhh=>ha (Bc.2 λy hy=>Cb (((hh.2.2.1 j hl hl).2 h0).2 y hy))
     ·have ha:List.all g[j-1] (λy=>Dz g[j] y)=true:=Gw ha
      rw [Bj (by omega)]
      refine hK hl _ rfl ⟨rfl,λk hk=>?_⟩
      by_cases e:k=j
      ·subst e
       exact λ_=>⟨hq,λ_=>⟨by omega,λy hy=>Hr (Bc.1 ha y hy)⟩⟩
      ·exact hR k (by omega)
    ·rw [Bj (by omega)]
     refine hK hl _ rfl ⟨rfl,λk hk=>?_⟩
     by_cases e:k=j
     ·subst e
      exact λ_=>⟨hq,λh=>by omega⟩
     ·exact hR k (by omega)
  ·have:j=g.length:=by omega
   subst this
   rw [Ct (by omega) (by omega),show (g.length:Int)-1=((g.length-1:Nat):Int) by omega]
   refine ⟨_,Bn (by omega),QW ?_⟩
   constructor
   ·rintro ⟨_,_,_,x,hx,hn⟩
    rw [Ac (by omega)] at hx
    rw [Bd hx];exact hn
   ·intro hn
    exact ⟨h1,by omega,hR,_,Ac (by omega),hn⟩
theorem mO:Sound Tryz.prog 106 Em:=
 Sound.Gk Dl (Au Zg (Au Ph (Au oL (Au IS Bl)))) mixed Tryz.func106 (by kernel_rfl) (by kernel_rfl) λx h=>uE x.1 x.2.1 h
theorem uz (p:PP) (g:List (List Int)) (h:Gl p/\Hi g):fnW Fl (look [(99,Js),(100,Ch),(91,Qs),(101,Ho),(102,yD),(105,Mm)]) Em Tryz.f44 (p,g,()) (λ(z:Bool)=>z=Gx p g):=by
 obtain ⟨hp,hg,h4⟩:=h
 refine Eq.mp (vN p g _) ⟨_,Ab hp,⟨λh1=>?_,λh1=>⟨_,Ab trivial,_,Ab trivial,⟨λh2=>?_,λh2=>?_⟩⟩⟩⟩
 ·have h1:=Gb h1
  exact Cr λhh=>h1 hh.1
 ·have h2:=Gb h2
  rw [Du] at h2
  dsimp only at h2
  exact Cr λhh=>h2 (by have:=hh.2.1;omega)
 ·have h1:Ca p=true:=Gw h1
  have h2:=Gw h2
  rw [Du] at h2
  dsimp only at h2
  have hv:=mX h1
  refine Bo g.length (λv=>v.1) (λj v=>v.2=(p.1,p.2.1,p.2.2.1,())/\ ∀k,k<j->KQ p.1 g k) rfl ⟨rfl,λk hk=>absurd hk (Fy _)⟩ ?_
  rintro j ⟨i,v⟩ K hj hi ⟨tV,hR⟩ hK
  dsimp only at hi tV⊢
  subst hi tV
  dsimp only
  refine Br.dec (λhl=>?_) λhl=>?_
  ·have hl:j<g.length:=by omega
   have hm:=h4 _ (Am hl)
   refine ⟨_,Bn hl,_,Ab ⟨⟨by dsimp only;omega,by dsimp only;omega⟩,hm⟩,⟨λhq=>?_,λhq=>?_⟩⟩
   ·have hq: ¬Ey p.1 g[j]=true:=Gb hq
    exact Cr λhh=>hq (hh.2.2.1 j hl hl).1
   ·have hq:Ey p.1 g[j]=true:=Gw hq
    refine Br.dec (λh0=>?_) λh0=>?_
    ·have h0:0<j:=by omega
     rw [Ct (by omega) (by omega),show (j:Int)-1=((j-1:Nat):Int) by omega]
     have hm':=h4 _ (Am (show j-1<g.length by omega))
     refine ⟨_,Bn (by omega),Br.dec (λhc=>?_) λhc=>⟨_,Bn (by omega),_,Ab ⟨hm',hm⟩,⟨λha=>?_,λha=>?_⟩⟩⟩
     ·exact Cr λhh=>by have:=((hh.2.2.1 j hl hl).2 h0).1;omega
     ·have ha:List.any g[j-1] (λy=>!Dz g[j] y)=true:=ha
      obtain ⟨y,hy,hn⟩:=Eh.1 ha
      refine Cr λhh=>?_
      have:=Cb (((hh.2.2.1 j hl hl).2 h0).2 y hy)
      have hn:(!decide (y∈g[j]))=true:=hn
      rw [this] at hn;cases hn
     ·have ha:List.any g[j-1] (λy=>!Dz g[j] y)=false:=ha
      rw [Bj (by omega)]
      refine hK hl _ rfl ⟨rfl,λk hk=>?_⟩
      by_cases e:k=j
      ·subst e
       refine λ_=>⟨hq,λ_=>⟨by omega,λy hy=>?_⟩⟩
       have hn:=List.any_eq_false.1 ha y hy
       have hn: ¬(!decide (y∈g[k]))=true:=hn
       simpa using hn
      ·exact hR k (by omega)
    ·rw [Bj (by omega)]
     refine hK hl _ rfl ⟨rfl,λk hk=>?_⟩
     by_cases e:k=j
     ·subst e
      exact λ_=>⟨hq,λh=>by omega⟩
     ·exact hR k (by omega)
  ·have:j=g.length:=by omega
   subst this
   rw [Ct (by omega) (by omega),show (g.length:Int)-1=((g.length-1:Nat):Int) by omega]
   refine ⟨_,Bn (by omega),_,Ab trivial,QW ?_⟩
   constructor
   ·rintro ⟨_,_,_,x,hx,hn⟩
    rw [Ac (by omega)] at hx
    rw [Bd hx];exact hn
   ·intro hn
    exact ⟨h1,by omega,hR,_,Ac (by omega),hn⟩
theorem Lm:Sound Tryz.prog 44 Em:=
 Sound.Gk Dl (Au eU (Au Qu (Au dq (Au aH (Au WL (Au Vn Bl)))))) mixed Tryz.func44 (by kernel_rfl) (by kernel_rfl) λx h=>uz x.1 x.2.1 h
theorem Abt (n:Int) (s:List Int) (h:short s):fnW Fl (look [(162,Jr)]) eP Tryz.f124 (n,s,()) (λ(z:Bool)=>z=Ix n s):=by
 refine Eq.mp (Adg n s _) ⟨λhe=>⟨_,Ab h,?_⟩,λhe=>?_⟩
 ·simp only [Xt] at he
  show Kv s=_
  cases hp:Kv s with
  |true=>exact Mp ⟨he,hp⟩
  |false=>exact Cr λhh=>by rw [hh.2] at hp;cases hp
 ·simp only [Km,ne_eq] at he
  exact Cr λhh=>he hh.1
theorem CE:Sound Tryz.prog 124 eP:=
 Sound.Gk Dl (Au Zf Bl) mixed Tryz.func124 (by kernel_rfl) (by kernel_rfl) λx h=>Abt x.1 x.2.1 h
theorem uC (p:PP) (s:List Int) (h:short s):fnW Fl (look [(105,Mm),(130,Jr)]) Za Tryz.f78 (p,s,()) (λ(z:Bool)=>z=Ix p.1 s):=by
 refine Eq.mp (vO p s _) ⟨_,Ab trivial,⟨λhe=>⟨_,Ab h,?_⟩,λhe=>?_⟩⟩
 ·simp only [Xt] at he
  show Kv s=_
  cases hp:Kv s with
  |true=>exact Mp ⟨he,hp⟩
  |false=>exact Cr λhh=>by rw [hh.2] at hp;cases hp
 ·simp only [Km,ne_eq] at he
  exact Cr λhh=>he hh.1
theorem mM:Sound Tryz.prog 78 Za:=
 Sound.Gk Dl (Au Vn (Au eT Bl)) mixed Tryz.func78 (by kernel_rfl) (by kernel_rfl) λx h=>uC x.1 x.2.1 h
theorem wK (p:PP) (s:List Int) (h:Gl p/\short s):fnW Fl (look [(63,Js),(124,eP)]) Og Tryz.f64 (p,s,()) (λ(z:Bool)=>z=(Ca p&&Ix p.1 s)):=by
 refine Eq.mp (xj p s _) ⟨_,Ab h.1,⟨λhe=>⟨_,Ab h.2,?_⟩,λhe=>?_⟩⟩
 ·have he:Ca p=true:=he
  rw [he];rfl
 ·have he:Ca p=false:=he
  rw [he];rfl
theorem Xm:Sound Tryz.prog 64 Og:=
 Sound.Gk Dl (Au Zg (Au CE Bl)) mixed Tryz.func64 (by kernel_rfl) (by kernel_rfl) λx h=>wK x.1 x.2.1 h
def Dp (xs:List Int) (i:Int):Int:=xs.getD i.toNat 0
def Aj (p q:List Int):List Int:=p.map (Dp q)
def cT (f:Nat->Nat) (g:Nat->Int) (m:Nat) (init:List Int):List Int:=(List.range m).foldl (λ(out:List Int) (i:Nat)=>out.set (f i) (g i)) init
def Bv (p:List Int):List Int:=cT (λi=>(Dp p (i:Int)).toNat) (λi=>(i:Int)) p.length (List.replicate p.length 0)
def Lu (n:Nat) (p:List Int):Prop:= ∀y∈p,0<=y/\y<n
noncomputable abbrev Il:Spec:=Gk (.pair tL (.pair tL .unit)) tL false true (λx=>List.length x.1<=20/\Lu (List.length x.2.1) x.1) (λx=>Aj x.1 x.2.1)
noncomputable abbrev Io:Spec:=Gk (.pair tL .unit) tL false true (λx=>List.length x.1<=20/\Lu (List.length x.1) x.1) (λx=>Bv x.1)
noncomputable abbrev Dy:Spec:=Gk (.pair tI .unit) tL false true (λx=>0<=x.1/\x.1<=20) (λx=>upto x.1.toNat)
noncomputable abbrev Ro:Spec:=Gk (.pair tL .unit) tL false true (λx=>Kv x.1=true) (λx=>Bv x.1)
def Ax (g:List (List Int)) (l:Int):List Int:=if l>0 then g.getD (l-1).toNat [] else Bv (g.getD (-l-1).toNat [])
def Hj (n:Int) (l:Int):Prop:=l≠0/\ -n<=l/\l<=n
noncomputable abbrev Kb:Spec:=Gk (.pair nf (.pair tI .unit)) tL false false (λx=>Hj (List.length x.1) x.2.1/\List.length x.1<=8/\ ∀p∈x.1,Kv p=true) (λx=>Ax x.1 x.2.1)
def Az (n:Nat):List Int:=(List.range n).flatMap λ(k:Nat)=> [(k:Int)+1,-((k:Int)+1)]
noncomputable abbrev Oh:Spec:=Gk (.pair tI .unit) tL false true (λx=>0<=x.1/\x.1<=8) (λx=>Az x.1.toNat)
noncomputable abbrev Xi:Spec:=Gk (.pair Iw (.pair tL (.pair tI .unit))) tL false true (λx=>Ca x.1=true/\List.length x.2.1<=20/\(∀y∈x.2.1,0<=y/\y<x.1.1)/\Hj (List.length x.1.2.2.1) x.2.2.1) (λx=>Aj x.2.1 (Ax x.1.2.2.1 x.2.2.1))
theorem xa (p q:List Int) (P:List Int->Prop):(((0:Int)<=(↑p.length:Int)/\(↑p.length:Int)<(↑Ea:Int)+(1:Int))/\(↑p.length:Int)=(↑p.length:Int)/\0=0/\(List.replicate (↑p.length:Int).toNat (Int.ofNat (nat_lit 0))).length=(List.replicate (↑p.length:Int).toNat (Int.ofNat (nat_lit 0))).length/\Dn (λ(v3:Int×List Int×PUnit) (k4:Int×List Int×PUnit->Prop)=>Br (decide (v3.1<(↑p.length:Int))) (∃(y5:Int),idx p v3.1=some y5/\ ∃(y6:Int),idx q y5=some y6/\((0:Int)<=v3.1/\v3.1<(↑v3.2.1.length:Int))/\0+v3.1.toNat<v3.2.1.length/\0=0/\v3.2.1.length=(v3.2.1.set (0+v3.1.toNat) y6).length/\k4 (IntKind.i64.wrap (v3.1+(1:Int)),v3.2.1.set (0+v3.1.toNat) y6,())) (P (List.take v3.2.1.length (List.drop 0 v3.2.1)))) ((0:Int),List.replicate (↑p.length:Int).toNat (Int.ofNat (nat_lit 0)),PUnit.unit))=fnW Fl (look []) Il Tryz.f134 (p,q,()) P:=by kernel_rfl
theorem xb (p:List Int) (P:List Int->Prop):(((0:Int)<=(↑p.length:Int)/\(↑p.length:Int)<(↑Ea:Int)+(1:Int))/\(↑p.length:Int)=(↑p.length:Int)/\0=0/\(List.replicate (↑p.length:Int).toNat (Int.ofNat (nat_lit 0))).length=(List.replicate (↑p.length:Int).toNat (Int.ofNat (nat_lit 0))).length/\Dn (λ(v2:Int×List Int×PUnit) (k3:Int×List Int×PUnit->Prop)=>Br (decide (v2.1<(↑p.length:Int))) (∃(y4:Int),idx p v2.1=some y4/\((0:Int)<=y4/\y4<(↑v2.2.1.length:Int))/\0+y4.toNat<v2.2.1.length/\0=0/\v2.2.1.length=(v2.2.1.set (0+y4.toNat) v2.1).length/\k3 (IntKind.i64.wrap (v2.1+(1:Int)),v2.2.1.set (0+y4.toNat) v2.1,())) (P (List.take v2.2.1.length (List.drop 0 v2.2.1)))) ((0:Int),List.replicate (↑p.length:Int).toNat (Int.ofNat (nat_lit 0)),PUnit.unit))=fnW Fl (look []) Io Tryz.f58 (p,()) P:=by kernel_rfl
theorem XZ (p:List Int) (P:List Int->Prop):(((0:Int)<=(↑p.length:Int)/\(↑p.length:Int)<(↑Ea:Int)+(1:Int))/\(↑p.length:Int)=(↑p.length:Int)/\0=0/\(List.replicate (↑p.length:Int).toNat (Int.ofNat (nat_lit 0))).length=(List.replicate (↑p.length:Int).toNat (Int.ofNat (nat_lit 0))).length/\Dn (λ(v2:Int×List Int×PUnit) (k3:Int×List Int×PUnit->Prop)=>Br (decide (v2.1<(↑p.length:Int))) (∃(y4:Int),idx p v2.1=some y4/\((0:Int)<=y4/\y4<(↑v2.2.1.length:Int))/\0+y4.toNat<v2.2.1.length/\0=0/\v2.2.1.length=(v2.2.1.set (0+y4.toNat) v2.1).length/\k3 (IntKind.i64.wrap (v2.1+(1:Int)),v2.2.1.set (0+y4.toNat) v2.1,())) (P (List.take v2.2.1.length (List.drop 0 v2.2.1)))) ((0:Int),List.replicate (↑p.length:Int).toNat (Int.ofNat (nat_lit 0)),PUnit.unit))=fnW Fl (look []) Io Tryz.f163 (p,()) P:=by kernel_rfl
theorem xh (p:List Int) (P:List Int->Prop):(∃(y2:Bool),Jr.fn (p,())=some y2/\Br (!y2) (P (List.take 0 (List.drop 0 []))) (∃(y3:List Int),Io.fn (p,())=some y3/\P y3))=fnW Fl (look [(162,Jr),(163,Io)]) Ro Tryz.f125 (p,()) P:=by kernel_rfl
theorem QC (n:Int) (P:List Int->Prop):(0=0/\0=([]:List Int).length/\Dn (λ(v2:Int×List Int×PUnit) (k3:Int×List Int×PUnit->Prop)=>Br (decide (v2.1<n)) (0=0/\v2.2.1.length=v2.2.1.length/\v2.2.1.length+(List.take 1 (List.drop 0 [v2.1])).length<=Ea/\0=0/\(v2.2.1++List.take 1 (List.drop 0 [v2.1])).length=(v2.2.1++List.take 1 (List.drop 0 [v2.1])).length/\k3 (IntKind.i64.wrap (v2.1+(1:Int)),v2.2.1++List.take 1 (List.drop 0 [v2.1]),())) (P (List.take v2.2.1.length (List.drop 0 v2.2.1)))) ((0:Int),[],PUnit.unit))=fnW Fl (look []) Dy Tryz.f96 (n,()) P:=by kernel_rfl
theorem QG (g:List (List Int)) (l:Int) (P:List Int->Prop):(Br (decide (l>(0:Int))) (∃(y3:List Int),idx g (IntKind.i64.wrap (l-(1:Int)))=some y3/\P y3) (∃(y3:List Int),idx g (IntKind.i64.wrap (IntKind.i64.wrap ((0:Int)-l)-(1:Int)))=some y3/\ ∃(y4:List Int),Io.fn (y3,())=some y4/\P y4))=fnW Fl (look [(58,Io)]) Kb Tryz.f135 (g,l,()) P:=by kernel_rfl
theorem XW (n:Int) (P:List Int->Prop):(0=0/\0=([]:List Int).length/\Dn (λ(v2:Int×List Int×PUnit) (k3:Int×List Int×PUnit->Prop)=>Br (decide (v2.1<n)) (0=0/\v2.2.1.length=v2.2.1.length/\v2.2.1.length+(List.take 2 (List.drop 0 [IntKind.i64.wrap (v2.1+(1:Int)),IntKind.i64.wrap ((0:Int)-IntKind.i64.wrap (v2.1+(1:Int)))])).length<=Ea/\0=0/\(v2.2.1++List.take 2 (List.drop 0 [IntKind.i64.wrap (v2.1+(1:Int)),IntKind.i64.wrap ((0:Int)-IntKind.i64.wrap (v2.1+(1:Int)))])).length=(v2.2.1++List.take 2 (List.drop 0 [IntKind.i64.wrap (v2.1+(1:Int)),IntKind.i64.wrap ((0:Int)-IntKind.i64.wrap (v2.1+(1:Int)))])).length/\k3 (IntKind.i64.wrap (v2.1+(1:Int)),v2.2.1++List.take 2 (List.drop 0 [IntKind.i64.wrap (v2.1+(1:Int)),IntKind.i64.wrap ((0:Int)-IntKind.i64.wrap (v2.1+(1:Int)))]),())) (P (List.take v2.2.1.length (List.drop 0 v2.2.1)))) ((0:Int),[],PUnit.unit))=fnW Fl (look []) Oh Tryz.f139 (n,()) P:=by kernel_rfl
theorem Ad7 (p:Int×ByteArray×List (List Int)×Unit) (s:List Int) (l:Int) (P:List Int->Prop):(∃(y4:List Int),idx p.2.2.1 (IntKind.i64.wrap ((if true=true then if IntKind.i64.wrap ((0:Int)-l)>l then IntKind.i64.wrap ((0:Int)-l) else l else if IntKind.i64.wrap ((0:Int)-l)<l then IntKind.i64.wrap ((0:Int)-l) else l)-(1:Int)))=some y4/\Br (decide (l<(0:Int))) (∃(y5:List Int),Ro.fn (y4,())=some y5/\0=0/\0=([]:List Int).length/\Dn (λ(v6:Int×List Int×PUnit) (k7:Int×List Int×PUnit->Prop)=>Br (decide (v6.1<(↑s.length:Int))) (∃(y8:Int),idx s v6.1=some y8/\ ∃(y9:Int),idx y5 y8=some y9/\0=0/\v6.2.1.length=v6.2.1.length/\v6.2.1.length+(List.take 1 (List.drop 0 [y9])).length<=Ea/\0=0/\(v6.2.1++List.take 1 (List.drop 0 [y9])).length=(v6.2.1++List.take 1 (List.drop 0 [y9])).length/\k7 (IntKind.i64.wrap (v6.1+(1:Int)),v6.2.1++List.take 1 (List.drop 0 [y9]),())) (P (List.take v6.2.1.length (List.drop 0 v6.2.1)))) ((0:Int),[],PUnit.unit)) (0=0/\0=([]:List Int).length/\Dn (λ(v5:Int×List Int×PUnit) (k6:Int×List Int×PUnit->Prop)=>Br (decide (v5.1<(↑s.length:Int))) (∃(y7:Int),idx s v5.1=some y7/\ ∃(y8:Int),idx y4 y7=some y8/\0=0/\v5.2.1.length=v5.2.1.length/\v5.2.1.length+(List.take 1 (List.drop 0 [y8])).length<=Ea/\0=0/\(v5.2.1++List.take 1 (List.drop 0 [y8])).length=(v5.2.1++List.take 1 (List.drop 0 [y8])).length/\k6 (IntKind.i64.wrap (v5.1+(1:Int)),v5.2.1++List.take 1 (List.drop 0 [y8]),())) (P (List.take v5.2.1.length (List.drop 0 v5.2.1)))) ((0:Int),[],PUnit.unit)))=fnW Fl (look [(125,Ro)]) Xi Tryz.f66 (p,s,l,()) P:=by kernel_rfl
theorem Ks {xs:List Int} {i:Nat} (h:i<xs.length):Dp xs (i:Int)=xs[i]:=by
 unfold Dp
 rw [Ae,Ak,Ac h];rfl
theorem a8 {xs:List Int} {y:Int} (h0:0<=y) (h:y<xs.length):idx xs y=some (Dp xs y):=by
 have hy:y.toNat<xs.length:=by omega
 have e:y=(y.toNat:Int):=by omega
 rw [e,Bn hy,Ks hy]
theorem bd (f:Nat->Nat) (g:Nat->Int) (m:Nat) (init:List Int):cT f g (m+1) init=(cT f g m init).set (f m) (g m):=by simp [cT,List.range_succ]
theorem cU (f:Nat->Nat) (g:Nat->Int) (m:Nat) (init:List Int):(cT f g m init).length=init.length:=by
 induction m with
 |zero=>rfl
 |succ m ih=>rw [bd,Co,ih]
theorem qJ (f:Nat->Nat) (g:Nat->Int) (init:List Int): ∀(m:Nat),(∀i j,i<m->j<m->f i=f j->i=j)-> ∀i,i<m->f i<init.length->(cT f g m init)[f i]?=some (g i)
 |0,_,i,h,_=>absurd h (Fy _)
 |m+1,hf,i,hi,hl=>by
  rw [bd]
  by_cases e:i=m
  ·subst e
   exact List.getElem?_set_self (by rw [cU];exact hl)
  ·rw [List.getElem?_set_ne (λh=>e (hf i m hi (by omega) h.symm))]
   exact qJ f g init m (λa b ha hb=>hf a b (by omega) (by omega)) i (by omega) hl
structure bL (p:List Int):Prop where
 pos:1<=p.length
 len:p.length<=20
 row:Lu p.length p
 nodup:p.Nodup
theorem fS {p:List Int} (h:Kv p=true):bL p:=by
 obtain ⟨h1,h2,h3⟩:=Jg.1 h
 refine ⟨h1,h2,λy hy=>?_,jw λj hj=>(h3 j hj hj).2.2⟩
 obtain ⟨j,hj,rfl⟩:=Bg.1 hy
 have:=h3 j hj hj
 omega
theorem bL.inj {p:List Int} (h:bL p) (i j:Nat) (hi:i<p.length) (hj:j<p.length) (e:(Dp p (i:Int)).toNat=(Dp p (j:Int)).toNat):i=j:=by
 rw [Ks hi,Ks hj] at e
 have h1:=h.row _ (Am hi)
 have h2:=h.row _ (Am hj)
 have e:p[i]=p[j]:=by omega
 refine Bp λJd=>?_
 rcases Nat.lt_or_gt_of_ne Jd with hl|hl
 ·exact Fa.1 h.nodup i j hi hj hl e
 ·exact Fa.1 h.nodup j i hj hi hl e.symm
theorem bL.VE {p:List Int} (h:bL p) (k:Nat) (hk:k<p.length): ∃i,i<p.length/\(Dp p (i:Int)).toNat=k:=by
 have hm:=(dA (xs:=p) h.row).2 (vK h.nodup) k hk
 obtain ⟨i,hi,e⟩:=Bg.1 hm
 exact ⟨i,hi,by rw [Ks hi,e];exact Ae k⟩
theorem bL.lt {p:List Int} (h:bL p) {i:Nat} (hi:i<p.length):(Dp p (i:Int)).toNat<p.length:=by
 rw [Ks hi]
 have:=h.row _ (Am hi)
 omega
theorem su (p:List Int):(Bv p).length=p.length:=by unfold Bv;rw [cU,Ej]
theorem Aat {p:List Int} (h:bL p) {i:Nat} (hi:i<p.length):(Bv p)[(Dp p (i:Int)).toNat]?=some (i:Int):=
 qJ (λi=>(Dp p (i:Int)).toNat) (λi=>(i:Int)) _ p.length (λi j hi hj=>h.inj i j hi hj) i hi (by rw [Ej];exact h.lt hi)
theorem Afp {p:List Int} (h:bL p):Lu p.length (Bv p):=by
 intro y hy
 obtain ⟨k,hk,rfl⟩:=Bg.1 hy
 have tK:k<p.length:=by rw [su] at hk;exact hk
 obtain ⟨i,hi,rfl⟩:=h.VE k tK
 have:=Aat h hi
 rw [Ac hk] at this
 rw [Bd this]
 omega
theorem Sn (p q:List Int):(Aj p q).length=p.length:=by simp [Aj]
theorem ET {p q:List Int} {n:Nat} (hp:Lu q.length p) (hq:Lu n q):Lu n (Aj p q):=by
 intro y hy
 obtain ⟨x,hx,rfl⟩:=Bf.1 hy
 have h1:=hp x hx
 rw [show x=(x.toNat:Int) by omega,Ks (by omega)]
 exact hq _ (Am _)
theorem wC (p q:List Int) (h:p.length<=20/\Lu q.length p):fnW Fl (look []) Il Tryz.f134 (p,q,()) (λ(z:List Int)=>z=Aj p q):=by
 obtain ⟨h,hr⟩:=h
 refine Eq.mp (xa p q _) ?_
 refine ⟨⟨by omega,by show (p.length:Int)<(4294967296:Int)+1;omega⟩,rfl,rfl,rfl,?_⟩
 have Sa:=Sn p q
 refine Bo p.length (λv=>v.1) (λj v=>v.2.1.length=(Aj p q).length/\v.2.1.take j=(Aj p q).take j) rfl ⟨by rw [Sa];simp,by simp⟩ ?_
 rintro j ⟨i,ys,⟨⟩⟩ K hj hi ⟨h1,h2⟩ hK
 dsimp only at hi h1 h2⊢
 subst hi
 refine Br.dec (λhl=>?_) λhl=>?_
 ·have hl:j<p.length:=by omega
  have hy:=hr _ (Am hl)
  refine ⟨_,Bn hl,_,a8 hy.1 hy.2,⟨by omega,by omega⟩,by rw [Ae];omega,rfl,by rw [Co],?_⟩
  rw [Bj (by omega),Ae,Bt]
  have Lq:j<(Aj p q).length:=by rw [Sa];exact hl
  have e:Dp q p[j]=(Aj p q)[j]:=by simp [Aj]
  rw [e]
  exact hK hl _ rfl ⟨by rw [Co];exact h1,lK Lq h1 h2⟩
 ·have:j=p.length:=by omega
  subst this
  rw [<-Sa,Be,<-h1,Be] at h2
  rw [Dr,Be]
  exact h2
theorem Ox:Sound Tryz.prog 134 Il:=
 Sound.Gk Dl Bl mixed Tryz.func134 (by kernel_rfl) (by kernel_rfl) λx h=>wC x.1 x.2.1 h
theorem wD (p:List Int) (h:p.length<=20/\Lu p.length p):fnW Fl (look []) Io Tryz.f58 (p,()) (λ(z:List Int)=>z=Bv p):=by
 obtain ⟨h,hr⟩:=h
 refine Eq.mp (xb p _) ?_
 refine ⟨⟨by omega,by show (p.length:Int)<(4294967296:Int)+1;omega⟩,rfl,rfl,rfl,?_⟩
 refine Bo p.length (λv=>v.1) (λj v=>v.2.1=cT (λi=>(Dp p (i:Int)).toNat) (λi=>(i:Int)) j (List.replicate p.length 0)) rfl rfl ?_
 rintro j ⟨i,ys,⟨⟩⟩ K hj hi h1 hK
 dsimp only at hi h1⊢
 subst hi
 have hlen:ys.length=p.length:=by rw [h1,cU,Ej]
 refine Br.dec (λhl=>?_) λhl=>?_
 ·have hl:j<p.length:=by omega
  have hy:=hr _ (Am hl)
  refine ⟨_,Bn hl,⟨by omega,by omega⟩,by omega,rfl,by rw [Co],?_⟩
  rw [Bj (by omega),Bt]
  refine hK hl _ rfl ?_
  rw [bd,<-h1,Ks hl]
 ·have:j=p.length:=by omega
  subst this
  rw [Dr,Be]
  exact h1
theorem Xl:Sound Tryz.prog 58 Io:=
 Sound.Gk Dl Bl mixed Tryz.func58 (by kernel_rfl) (by kernel_rfl) λx h=>wD x.1 h
theorem VV (p:List Int) (h:p.length<=20/\Lu p.length p):fnW Fl (look []) Io Tryz.f163 (p,()) (λ(z:List Int)=>z=Bv p):=by
 obtain ⟨h,hr⟩:=h
 refine Eq.mp (XZ p _) ?_
 refine ⟨⟨by omega,by show (p.length:Int)<(4294967296:Int)+1;omega⟩,rfl,rfl,rfl,?_⟩
 refine Bo p.length (λv=>v.1) (λj v=>v.2.1=cT (λi=>(Dp p (i:Int)).toNat) (λi=>(i:Int)) j (List.replicate p.length 0)) rfl rfl ?_
 rintro j ⟨i,ys,⟨⟩⟩ K hj hi h1 hK
 dsimp only at hi h1⊢
 subst hi
 have hlen:ys.length=p.length:=by rw [h1,cU,Ej]
 refine Br.dec (λhl=>?_) λhl=>?_
 ·have hl:j<p.length:=by omega
  have hy:=hr _ (Am hl)
  refine ⟨_,Bn hl,⟨by omega,by omega⟩,by omega,rfl,by rw [Co],?_⟩
  rw [Bj (by omega),Bt]
  refine hK hl _ rfl ?_
  rw [bd,<-h1,Ks hl]
 ·have:j=p.length:=by omega
  subst this
  rw [Dr,Be]
  exact h1
theorem lF:Sound Tryz.prog 163 Io:=
 Sound.Gk Dl Bl mixed Tryz.func163 (by kernel_rfl) (by kernel_rfl) λx h=>VV x.1 h
theorem wJ (p:List Int) (h:Kv p=true):fnW Fl (look [(162,Jr),(163,Io)]) Ro Tryz.f125 (p,()) (λ(z:List Int)=>z=Bv p):=by
 have hp:=fS h
 have hs:short p:=by have:=hp.len;unfold short;omega
 refine Eq.mp (xh p _) ⟨_,Ab hs,⟨λhe=>?_,λ_=>⟨_,Ab ⟨hp.len,hp.row⟩,rfl⟩⟩⟩
 exact absurd h (Gb he)
theorem oN:Sound Tryz.prog 125 Ro:=
 Sound.Gk Dl (Au Zf (Au lF Bl)) mixed Tryz.func125 (by kernel_rfl) (by kernel_rfl) λx h=>wJ x.1 h
theorem bI (j:Nat):upto (j+1)=upto j++ [(j:Int)]:=by simp [upto,List.range_succ]
theorem NP (n:Int) (h:0<=n/\n<=20):fnW Fl (look []) Dy Tryz.f96 (n,()) (λ(z:List Int)=>z=upto n.toNat):=by
 refine Eq.mp (QC n _) ⟨rfl,rfl,?_⟩
 refine Bo n.toNat (λv=>v.1) (λj v=>v.2.1=upto j) rfl rfl ?_
 rintro j ⟨i,ys,⟨⟩⟩ K hj hi h1 hK
 dsimp only at hi h1⊢
 subst hi h1
 refine Br.dec (λhl=>?_) λhl=>?_
 ·refine ⟨rfl,rfl,?_,rfl,rfl,?_⟩
  ·show (upto j).length+1<=4294967296
   rw [Li];omega
  ·rw [Bj (by omega)]
   exact hK (by omega) _ rfl (bI j).symm
 ·have:j=n.toNat:=by omega
  subst this
  rw [Dr,Be]
theorem cz:Sound Tryz.prog 96 Dy:=
 Sound.Gk Dl Bl mixed Tryz.func96 (by kernel_rfl) (by kernel_rfl) λx h=>NP x.1 h
theorem Qn {g:List (List Int)} {k:Nat} (h:k<g.length):Ax g ((k:Int)+1)=g[k]:=by
 unfold Ax
 rw [Ab (by omega),show ((k:Int)+1-1).toNat=k by omega,Ak,Ac h];rfl
theorem Qm {g:List (List Int)} {k:Nat} (h:k<g.length):Ax g (-((k:Int)+1))=Bv g[k]:=by
 unfold Ax
 rw [Ai (by omega),show (-(-((k:Int)+1))-1).toNat=k by omega,Ak,Ac h];rfl
theorem Ql {n:Nat} {l:Int} (h:Hj n l): ∃k:Nat,k<n/\(l=(k:Int)+1\/l= -((k:Int)+1)):=by
 obtain ⟨h1,h2,h3⟩:=h
 by_cases h0:0<l
 ·exact ⟨(l-1).toNat,by omega, .inl (by omega)⟩
 ·exact ⟨(-l-1).toNat,by omega, .inr (by omega)⟩
theorem NT (g:List (List Int)) (l:Int) (h:Hj (List.length g) l/\List.length g<=8/\ ∀p∈g,Kv p=true):fnW Fl (look [(58,Io)]) Kb Tryz.f135 (g,l,()) (λ(z:List Int)=>z=Ax g l):=by
 obtain ⟨hl,h8,hp⟩:=h
 refine Eq.mp (QG g l _) ?_
 obtain ⟨k,hk,rfl|rfl⟩:=Ql hl
 ·refine Br.dec (λ_=>?_) λhn=>by omega
  rw [Ct (by omega) (by omega),show (k:Int)+1-1=(k:Int) by omega]
  exact ⟨_,Bn hk,(Qn hk).symm⟩
 ·refine Br.dec (λhn=>by omega) λ_=>?_
  rw [Ct (n:=0- -((k:Int)+1)) (by omega) (by omega),Ct (by omega) (by omega),show (0:Int)- -((k:Int)+1)-1=(k:Int) by omega]
  have:=fS (hp _ (Am hk))
  exact ⟨_,Bn hk,_,Ab ⟨this.len,this.row⟩,(Qm hk).symm⟩
theorem jQ:Sound Tryz.prog 135 Kb:=
 Sound.Gk Dl (Au Xl Bl) mixed Tryz.func135 (by kernel_rfl) (by kernel_rfl) λx h=>NT x.1 x.2.1 h
theorem ck (j:Nat):Az (j+1)=Az j++ [(j:Int)+1,-((j:Int)+1)]:=by simp [Az,List.range_succ,List.flatMap_append]
theorem Rj (j:Nat):(Az j).length=2*j:=by
 induction j with
 |zero=>rfl
 |succ j ih=>rw [ck,Aw,ih];simp only [Ay,Gp];omega
theorem Ou {n:Nat} {l:Int} (h:l∈Az n):Hj n l:=by
 unfold Az at h
 obtain ⟨k,hk,hl⟩:=Gy.1 h
 have hk:=Ff.1 hk
 simp only [Bb,List.not_mem_nil,or_false] at hl
 unfold Hj
 omega
theorem VS (n:Int) (h:0<=n/\n<=8):fnW Fl (look []) Oh Tryz.f139 (n,()) (λ(z:List Int)=>z=Az n.toNat):=by
 refine Eq.mp (XW n _) ⟨rfl,rfl,?_⟩
 refine Bo n.toNat (λv=>v.1) (λj v=>v.2.1=Az j) rfl rfl ?_
 rintro j ⟨i,ys,⟨⟩⟩ K hj hi h1 hK
 dsimp only at hi h1⊢
 subst hi h1
 refine Br.dec (λhl=>?_) λhl=>?_
 ·refine ⟨rfl,rfl,?_,rfl,rfl,?_⟩
  ·show (Az j).length+2<=4294967296
   rw [Rj];omega
  ·have e1:IntKind.i64.wrap ((j:Int)+1)=(j:Int)+1:=Ct (by omega) (by omega)
   have e2:IntKind.i64.wrap ((0:Int)-((j:Int)+1))= -((j:Int)+1):=by rw [Ct (by omega) (by omega)];omega
   rw [e1,e2]
   exact hK (by omega) _ rfl (ck j).symm
 ·have:j=n.toNat:=by omega
  subst this
  rw [Dr,Be]
theorem dN:Sound Tryz.prog 139 Oh:=
 Sound.Gk Dl Bl mixed Tryz.func139 (by kernel_rfl) (by kernel_rfl) λx h=>VS x.1 h
structure Valid (p:PP):Prop where
 n:1<=p.1/\p.1<=20
 p8:1<=p.2.2.1.length/\p.2.2.1.length<=8
 perm: ∀m∈p.2.2.1,Kv m=true
 len: ∀m∈p.2.2.1,(m.length:Int)=p.1
theorem valid {p:PP} (h:Ca p=true):Valid p:=by
 have h0:=mX h
 obtain ⟨h1,_,_⟩:=Jg.1 h
 obtain ⟨_,_,h4⟩:=Jg.1 h1
 exact ⟨⟨h0.1,h0.2.1⟩,h0.2.2,λm hm=>(Jg.1 (h4 m hm)).2,λm hm=>(Jg.1 (h4 m hm)).1⟩
theorem pN {p:PP} (h:Valid p) {l:Int} (hl:Hj (List.length p.2.2.1) l):((Ax p.2.2.1 l).length:Int)=p.1/\Lu (Ax p.2.2.1 l).length (Ax p.2.2.1 l):=by
 obtain ⟨k,hk,rfl|rfl⟩:=Ql hl
 ·rw [Qn hk]
  exact ⟨h.len _ (Am hk),(fS (h.perm _ (Am hk))).row⟩
 ·rw [Qm hk,su]
  exact ⟨h.len _ (Am hk),Afp (fS (h.perm _ (Am hk)))⟩
theorem EE (s y:List Int) (P:List Int->Prop) (h1:s.length<=20) (h2:Lu y.length s) (h3:P (Aj s y)):
  Dn
   (λ(v5:Int×List Int×PUnit) (k6:Int×List Int×PUnit->Prop)=>
    Br (decide (v5.1<(↑s.length:Int)))
     (∃(y7:Int),
      idx s v5.1=some y7/\
       ∃(y8:Int),
        idx y y7=some y8/\
         (0:Nat)=(0:Nat)/\
          v5.2.1.length=v5.2.1.length/\
           v5.2.1.length+(List.take (1:Nat) (List.drop (0:Nat) [y8])).length<=Ea/\
            (0:Nat)=(0:Nat)/\
             (v5.2.1++List.take (1:Nat) (List.drop (0:Nat) [y8])).length=(v5.2.1++List.take (1:Nat) (List.drop (0:Nat) [y8])).length/\
              k6 (IntKind.i64.wrap (v5.1+(1:Int)),v5.2.1++List.take (1:Nat) (List.drop (0:Nat) [y8]),()))
     (P (List.take v5.2.1.length (List.drop (0:Nat) v5.2.1))))
   ((0:Int),([]:List Int),PUnit.unit):=by
 refine Bo s.length (λv=>v.1) (λj v=>v.2.1=(s.take j).map (Dp y)) rfl (by simp) ?_
 rintro j ⟨i,ys,⟨⟩⟩ K hj hi hR hK
 dsimp only at hi hR⊢
 subst hi hR
 refine Br.dec (λhl=>?_) λhl=>?_
 ·have hl:j<s.length:=by omega
  have hy:=h2 _ (Am hl)
  refine ⟨_,Bn hl,_,a8 hy.1 hy.2,rfl,rfl,?_,rfl,rfl,?_⟩
  ·show ((s.take j).map (Dp y)).length+1<=4294967296
   rw [Dk,Dm];omega
  ·rw [Bj (by omega)]
   refine hK hl _ rfl ?_
   dsimp only
   rw [Ds hl,Oz]
   rfl
 ·have:j=s.length:=by omega
  subst this
  rw [Dr,Be,Be]
  exact h3
theorem Abl (p:PP) (s:List Int) (l:Int) (h:Ca p=true/\List.length s<=20/\(∀y∈s,0<=y/\y<p.1)/\Hj (List.length p.2.2.1) l):fnW Fl (look [(125,Ro)]) Xi Tryz.f66 (p,s,l,()) (λ(z:List Int)=>z=Aj s (Ax p.2.2.1 l)):=by
 obtain ⟨hv,hs,hr,hl⟩:=h
 have hv:=valid hv
 have hf:=hv.p8
 refine Eq.mp (Ad7 p s l _) ?_
 have YN:=pN hv hl
 have Yq:Lu (Ax p.2.2.1 l).length s:= λy hy=>by have:=hr y hy;omega
 obtain ⟨k,hk,rfl|rfl⟩:=Ql hl
 ·rw [Ab rfl,Ct (n:=0-((k:Int)+1)) (by omega) (by omega),Ai (by omega),Ct (by omega) (by omega),show (k:Int)+1-1=(k:Int) by omega]
  refine ⟨_,Bn hk,Br.dec (λhn=>by omega) λ_=>⟨rfl,rfl,?_⟩⟩
  rw [Qn hk] at Yq⊢
  exact EE s _ (λz=>z=Aj s p.2.2.1[k]) hs Yq rfl
 ·rw [Ab rfl,Ct (n:=0- -((k:Int)+1)) (by omega) (by omega),Ab (by omega),Ct (by omega) (by omega),show (0:Int)- -((k:Int)+1)-1=(k:Int) by omega]
  refine ⟨_,Bn hk,Br.dec (λ_=>⟨_,Ab (hv.perm _ (Am hk)),rfl,rfl,?_⟩) λhn=>by omega⟩
  rw [Qm hk] at Yq⊢
  exact EE s (Bv p.2.2.1[k]) (λz=>z=Aj s (Bv p.2.2.1[k])) hs Yq rfl
theorem oG:Sound Tryz.prog 66 Xi:=
 Sound.Gk Dl (Au oN Bl) mixed Tryz.func66 (by kernel_rfl) (by kernel_rfl) λx h=>Abl x.1 x.2.1 x.2.2.1 h
abbrev rL:CK:= .row tI 2
def low (k:Int):Prop:=0<=k/\k<=1099511627776
theorem Dj {α:Type} (xs:List α):List.take xs.length (List.drop 0 xs)=xs:=by rw [Dr,Be]
def yc (xs:List Int):Int:=xs.foldl max (xs.headD 0)
noncomputable abbrev yM:Spec:=Gk (.pair tL .unit) tI false true (λx=>1<=List.length x.1/\short x.1) (λx=>yc x.1)
theorem Ar0 (xs:List Int) (P:Int->Prop):(Br (decide ((↑xs.length:Int)<(1:Int))) False (∃(y2:Int),idx xs (0:Int)=some y2/\Dn (λ(v3:Int×Int×PUnit) (k4:Int×Int×PUnit->Prop)=>Br (decide (v3.2.1<(↑xs.length:Int))) (∃(y5:Int),idx xs v3.2.1=some y5/\k4 (if true=true then if y5>v3.1 then y5 else v3.1 else if y5<v3.1 then y5 else v3.1,IntKind.i64.wrap (v3.2.1+(1:Int)),())) (P v3.1)) (y2,(1:Int),PUnit.unit)))=fnW Fl (look []) yM Tryz.f113 (xs,()) P:=by kernel_rfl
theorem Akq (y v:Int):(if y>v then y else v)=max v y:=by split<;>omega
theorem nR: ∀(xs:List Int) (a:Int),a<=xs.foldl max a/\ ∀x∈xs,x<=xs.foldl max a
 | [],a=>⟨Kl a,λx hx=>by cases hx⟩
 |y::xs,a=>by
  obtain ⟨h1,h2⟩:=nR xs (max a y)
  simp only [Rw]
  refine ⟨by omega,λx hx=>?_⟩
  rcases Bb.1 hx with rfl|hx
  ·omega
  ·exact h2 x hx
theorem Ab7 {xs:List Int} {x:Int} (hx:x∈xs):x<=yc xs:=(nR xs _).2 x hx
theorem Aq9 (xs:List Int) (h:1<=List.length xs/\short xs):fnW Fl (look []) yM Tryz.f113 (xs,()) (λ(z:Int)=>z=yc xs):=by
 obtain ⟨h1,h2⟩:=h
 unfold short at h2
 refine Eq.mp (Ar0 xs _) (Br.dec (λhn=>by omega) λ_=>?_)
 refine ⟨_,Bn (j:=0) (by omega),?_⟩
 refine ⟨λv=> ∃j:Nat,1<=j/\j<=xs.length/\v.2.1=j/\(xs.drop j).foldl max v.1=yc xs,λv=>xs.length-v.2.1.toNat,⟨1,Aq _,h1,rfl,?_⟩,?_⟩
 ·cases xs with
  |nil=>simp at h1
  |cons y xs=>simp [yc]
 ·rintro ⟨m,i,⟨⟩⟩ ⟨j,g1,g2,g3,g4⟩
  dsimp only at g3 g4⊢
  subst g3
  refine Br.dec (λhl=>?_) λhl=>?_
  ·have hl:j<xs.length:=by omega
   refine ⟨_,Bn hl,?_⟩
   rw [Bj (by omega),Ab rfl,Akq]
   refine ⟨⟨j+1,by omega,by omega,rfl,?_⟩,?_⟩
   ·rw [Cc hl] at g4
    exact g4
   ·simp only [Ae]
    omega
  ·have hj:j=xs.length:=by omega
   subst hj
   rw [Fe] at g4
   exact g4
theorem WX:Sound Tryz.prog 113 yM:=
 Sound.Gk Dl Bl mixed Tryz.func113 (by kernel_rfl) (by kernel_rfl) λx h=>Aq9 x.1 h
noncomputable abbrev Qr:Spec:=Gk (.pair tL .unit) tL false true (λx=>short x.1) (λx=>x.1)
theorem PZ (xs:List Int) (P:List Int->Prop):(0=0/\0=([]:List Int).length/\0+xs.length<=Ea/\P (List.take ([]++xs).length (List.drop 0 ([]++xs))))=fnW Fl (look []) Qr Tryz.f68 (xs,()) P:=by kernel_rfl
theorem NM (xs:List Int) (h:short xs):fnW Fl (look []) Qr Tryz.f68 (xs,()) (λ(z:List Int)=>z=xs):=by
 unfold short at h
 refine Eq.mp (PZ xs _) ⟨rfl,rfl,by show 0+xs.length<=4294967296;omega,?_⟩
 simp only [Dj,iJ]
theorem jO:Sound Tryz.prog 68 Qr:=
 Sound.Gk Dl Bl mixed Tryz.func68 (by kernel_rfl) (by kernel_rfl) λx h=>NM x.1 h
def Gq (xs is:List Int):List Int:=is.map (Dp xs)
def Tp (xs:List Int):ByteArray:=bytesOf (xs.map λx=>IntKind.u8.wrap x)
noncomputable abbrev Jm:Spec:=Gk (.pair tL .unit) .str false true (λx=>short x.1) (λx=>Tp x.1)
def ow (ps:List (List Int)) (p:List Int):Int:=Dv (λq=>decide (q=p)) ps 0
theorem QL (xs:List Int) (P:ByteArray->Prop):(((0:Int)<=(↑xs.length:Int)/\(↑xs.length:Int)<(↑Ea:Int)+(1:Int))/\(↑xs.length:Int)=(↑xs.length:Int)/\0=0/\(List.replicate (↑xs.length:Int).toNat (Int.ofNat (nat_lit 0))).length=(List.replicate (↑xs.length:Int).toNat (Int.ofNat (nat_lit 0))).length/\Dn (λ(v2:Int×List Int×PUnit) (k3:Int×List Int×PUnit->Prop)=>Br (decide (v2.1<(↑xs.length:Int))) (∃(y4:Int),idx xs v2.1=some y4/\((0:Int)<=v2.1/\v2.1<(↑v2.2.1.length:Int))/\0+v2.1.toNat<v2.2.1.length/\0=0/\v2.2.1.length=(v2.2.1.set (0+v2.1.toNat) (IntKind.u8.wrap y4)).length/\k3 (IntKind.i64.wrap (v2.1+(1:Int)),v2.2.1.set (0+v2.1.toNat) (IntKind.u8.wrap y4),())) (P (bytesOf (List.take v2.2.1.length (List.drop 0 v2.2.1))))) ((0:Int),List.replicate (↑xs.length:Int).toNat (Int.ofNat (nat_lit 0)),PUnit.unit))=fnW Fl (look []) Jm Tryz.f121 (xs,()) P:=by kernel_rfl
theorem NY (xs:List Int) (h:short xs):fnW Fl (look []) Jm Tryz.f121 (xs,()) (λ(z:ByteArray)=>z=Tp xs):=by
 unfold short at h
 refine Eq.mp (QL xs _) ?_
 refine ⟨⟨by omega,by show (xs.length:Int)<(4294967296:Int)+1;omega⟩,rfl,rfl,rfl,?_⟩
 have Sa:(xs.map λx=>IntKind.u8.wrap x).length=xs.length:=by simp
 refine Bo xs.length (λv=>v.1) (λj v=>v.2.1.length=(xs.map λx=>IntKind.u8.wrap x).length/\v.2.1.take j=(xs.map λx=>IntKind.u8.wrap x).take j) rfl ⟨by rw [Sa];simp,by simp⟩ ?_
 rintro j ⟨i,ys,⟨⟩⟩ K hj hi ⟨h1,h2⟩ hK
 dsimp only at hi h1 h2⊢
 subst hi
 refine Br.dec (λhl=>?_) λhl=>?_
 ·have hl:j<xs.length:=by omega
  refine ⟨_,Bn hl,⟨by omega,by omega⟩,by rw [Ae];omega,rfl,by rw [Co],?_⟩
  rw [Bj (by omega),Ae,Bt]
  have Lq:j<(xs.map λx=>IntKind.u8.wrap x).length:=by rw [Sa];exact hl
  have e:IntKind.u8.wrap xs[j]=(xs.map λx=>IntKind.u8.wrap x)[j]:=by simp
  rw [e]
  exact hK hl _ rfl ⟨by rw [Co];exact h1,lK Lq h1 h2⟩
 ·have:j=xs.length:=by omega
  subst this
  rw [<-Sa,Be,<-h1,Be] at h2
  rw [Dr,Be,h2];rfl
theorem jS:Sound Tryz.prog 121 Jm:=
 Sound.Gk Dl Bl mixed Tryz.func121 (by kernel_rfl) (by kernel_rfl) λx h=>NY x.1 h
theorem gT {α:Type} (P:α->Bool) (y:α): ∀(l:List α) (i:Int),0<=i->Dv P (l++ [y]) i=if Dv P l i<0 then (if P y=true then i+l.length else-1) else Dv P l i
 | [],i,_=>by simp [Dv]
 |x::r,i,h=>by
  simp only [Kj,Dv,Ay]
  split
  ·rw [Ai (by omega)]
  ·rw [gT P y r (i+1) (by omega),show i+1+(r.length:Int)=i+((r.length+1:Nat):Int) by push_cast;omega]
theorem BG (ps:List (List Int)) (q p:List Int):ow (ps++ [q]) p=if ow ps p<0 then (if q=p then (ps.length:Int) else-1) else ow ps p:=by
 unfold ow
 rw [gT _ _ _ _ (Kl 0)]
 simp only [Ru,Int.zero_add]
def Xy (p:List Int):Prop:= ∀x∈p,0<=x/\x<256
theorem ZH {x y:Int} (hx:0<=x/\x<256) (hy:0<=y/\y<256) (h:UInt8.ofNat (IntKind.u8.wrap x).toNat=UInt8.ofNat (IntKind.u8.wrap y).toNat):x=y:=by
 have h:=Et UInt8.toNat h
 simp only [IntKind.wrap_u8,UInt8.toNat_ofNat'] at h
 omega
theorem bytes_inj: ∀(p q:List Int),Xy p->Xy q->(p.map λx=>UInt8.ofNat (IntKind.u8.wrap x).toNat)=(q.map λx=>UInt8.ofNat (IntKind.u8.wrap x).toNat)->p=q
 | [],[],_,_,_=>rfl
 | [],_::_,_,_,h=>by simp at h
 |_::_,[],_,_,h=>by simp at h
 |x::p,y::q,hp,hq,h=>by
  simp only [Bz,Hq] at h
  rw [ZH (hp x (by simp)) (hq y (by simp)) h.1,bytes_inj p q (λz hz=>hp z (by simp [hz])) (λz hz=>hq z (by simp [hz])) h.2]
theorem key_inj {p q:List Int} (hp:Xy p) (hq:Xy q) (h:Tp p=Tp q):p=q:=by
 refine bytes_inj p q hp hq ?_
 simp only [Tp,bytesOf,ByteArray.mk.injEq,List.map_map] at h
 have h:=Et Array.toList h
 simpa [Function.comp_def] using h
def KM (m:ByteArray->Option Int) (ps:List (List Int)):Prop:= ∀p,Xy p->m (Tp p)=if ow ps p<0 then none else some (ow ps p)
theorem KM.nil:KM (λ_=>none) []:= λp _=>by
 rw [Ab (by unfold ow;simp [Dv])]
theorem KM.add {m:ByteArray->Option Int} {ps:List (List Int)} {q:List Int} (h:KM m ps) (hq:Xy q) (hn:ow ps q<0):KM (gx m (Tp q) (ps.length:Int)) (ps++ [q]):=by
 intro p hp
 rw [BG]
 unfold gx
 by_cases e:p=q
 ·subst e
  rw [Ab rfl,Ab hn,Ab rfl,Ai (by omega)]
 ·rw [Ai (λhk=>e (key_inj hp hq hk)),h p hp]
  have e': ¬q=p:= λh=>e h.symm
  rw [Ai e']
  by_cases UO:ow ps p<0
  ·rw [Ab UO,Ab UO,Ab (by decide)]
  ·rw [Ai UO,Ai UO,Ai UO]
theorem Aeu {α:Type} {xs:List α} {j:Nat} (h:j<xs.length) (d:α):xs.getD j d=xs[j]:=by
 rw [Ak,Ac h];rfl
abbrev tW1:Ty:= .clo 167 (.pair (.ptr tI) .unit)
def pc (m l:Int):Bool:=decide (l≠0/\ -m<=l/\l<=m)
noncomputable abbrev kR:Spec:=Gk (.pair tI (.pair (.ptr tI) .unit)) .bool false true (λx=>0<=x.2.1/\x.2.1<=8) (λx=>!pc x.2.1 x.1)
noncomputable abbrev yL:Spec:=Gk (.pair tL (.pair tW1 .unit)) tI false true (λx=>short x.1/\0<=x.2.1.1/\x.2.1.1<=8) (λx=>Dv (λy=>!pc x.2.1.1 y) x.1 0)
noncomputable abbrev yF:Spec:=Gk (.pair tL (.pair tW1 .unit)) .bool false true (λx=>short x.1/\0<=x.2.1.1/\x.2.1.1<=8) (λx=>List.any x.1 (λy=>!pc x.2.1.1 y))
def bR (n:Int):Int:=if 8<n then 8 else n
def Fg (n:Int) (w:List Int):Bool:=decide (w.length<=200)&&!(List.any w λy=>!pc (bR n) y)
noncomputable abbrev Jt:Spec:=Gk (.pair tI (.pair tL .unit)) .bool false true (λx=>short x.2.1/\0<=x.1/\x.1<=4294967296) (λx=>Fg x.1 x.2.1)
noncomputable abbrev bE:Spec:=Gk (.pair Iw (.pair tL .unit)) .bool false true (λx=>Gl x.1/\short x.2.1) (λx=>Fg (List.length x.1.2.2.1:Nat) x.2.1)
theorem Ah3 (l m:Int) (P:Bool->Prop):(Br (l==(0:Int)) (P true) (∃(y3:Bool),Ch.fn (l,IntKind.i64.wrap ((0:Int)-m),m,())=some y3/\P !y3))=fnW Fl (look [(100,Ch)]) kR Tryz.f167 (l,m,()) P:=by kernel_rfl
theorem Aqz (xs:List Int) (c:Int×Unit) (P:Int->Prop):(Dn (λ(v3:Int×PUnit) (k4:Int×PUnit->Prop)=>Br (decide (v3.1<(↑xs.length:Int))) (∃(y5:Int),idx xs v3.1=some y5/\ ∃(y6:Bool),kR.fn (y5,c.1,())=some y6/\Br y6 (P v3.1) (k4 (IntKind.i64.wrap (v3.1+(1:Int)),()))) (P (-1:Int))) ((0:Int),PUnit.unit))=fnW Fl (look [(167,kR)]) yL Tryz.f146 (xs,c,()) P:=by kernel_rfl
theorem Aqs (xs:List Int) (c:Int×Unit) (P:Bool->Prop):(∃(y3:Int),yL.fn (xs,c,())=some y3/\P (decide (y3>=(0:Int))))=fnW Fl (look [(146,yL)]) yF Tryz.f102 (xs,c,()) P:=by kernel_rfl
theorem DH (n:Int) (w:List Int) (P:Bool->Prop):(Br (decide ((↑w.length:Int)<=(200:Int))) (∃(y3:Bool),yF.fn (w,(if false=true then if (8:Int)>n then (8:Int) else n else if (8:Int)<n then (8:Int) else n,()),())=some y3/\P !y3) (P false))=fnW Fl (look [(102,yF)]) Jt Tryz.f132 (n,w,()) P:=by kernel_rfl
theorem XV (p:Int×ByteArray×List (List Int)×Unit) (w:List Int) (P:Bool->Prop):(∃(y3:Int),Qs.fn (p.2.2.1,())=some y3/\ ∃(y4:Bool),Jt.fn (y3,w,())=some y4/\P y4)=fnW Fl (look [(132,Jt),(91,Qs)]) bE Tryz.f83 (p,w,()) P:=by kernel_rfl
theorem QF (n:Int) (w:List Int) (P:Bool->Prop):(Br (decide ((↑w.length:Int)>(200:Int))) (P false) (Dn (λ(v3:Int×PUnit) (k4:Int×PUnit->Prop)=>Br (decide (v3.1<(↑w.length:Int))) (∃(y5:Int),idx w v3.1=some y5/\Br (y5==(0:Int)) (P false) (∃(y6:Int),idx w v3.1=some y6/\ ∃(y7:Bool),Ch.fn (y6,(-8:Int),(8:Int),())=some y7/\Br (!y7) (P false) (∃(y8:Int),idx w v3.1=some y8/\Br (decide (y8>n)) (P false) (∃(y9:Int),idx w v3.1=some y9/\Br (decide (IntKind.i64.wrap ((0:Int)-y9)>n)) (P false) (k4 (IntKind.i64.wrap (v3.1+(1:Int)),())))))) (P true)) ((0:Int),PUnit.unit)))=fnW Fl (look [(95,Ch)]) Jt Tryz.f80 (n,w,()) P:=by kernel_rfl
theorem DO (n:Int) (w:List Int) (P:Bool->Prop):(∃(y3:Bool),Jt.fn (n,w,())=some y3/\P y3)=fnW Fl (look [(80,Jt)]) Jt Tryz.f72 (n,w,()) P:=by kernel_rfl
theorem SW {m l:Int} :pc m l=true↔l≠0/\ -m<=l/\l<=m:=Hu
theorem Ag8 (l m:Int) (h:0<=m/\m<=8):fnW Fl (look [(100,Ch)]) kR Tryz.f167 (l,m,()) (λ(z:Bool)=>z=!pc m l):=by
 refine Eq.mp (Ah3 l m _) ⟨λhe=>?_,λhe=>⟨_,Ab trivial,?_⟩⟩
 ·simp only [Xt] at he
  simp [pc,he]
 ·simp only [Km,ne_eq] at he
  congr 1
  rw [bp,Du,SW,Ct (by omega) (by omega)]
  dsimp only
  omega
theorem JA:Sound Tryz.prog 167 kR:=
 Sound.Gk Dl (Au Qu Bl) mixed Tryz.func167 (by kernel_rfl) (by kernel_rfl) λx h=>Ag8 x.1 x.2.1 h
theorem Aq8 (xs:List Int) (c:Int×Unit) (h:short xs/\0<=c.1/\c.1<=8):fnW Fl (look [(167,kR)]) yL Tryz.f146 (xs,c,()) (λ(z:Int)=>z=Dv (λy=>!pc c.1 y) xs 0):=by
 obtain ⟨h,h4⟩:=h
 unfold short at h
 refine Eq.mp (Aqz xs c _) ?_
 refine Bo xs.length (λv=>v.1) (λj _=>Dv (λy=>!pc c.1 y) (xs.drop j) j=Dv (λy=>!pc c.1 y) xs 0) rfl (by simp) ?_
 rintro j ⟨i,⟨⟩⟩ K hj hi hR hK
 dsimp only at hi⊢
 subst hi
 refine Br.dec (λhl=>?_) λhl=>?_
 ·have hl:j<xs.length:=by omega
  rw [Cc hl] at hR
  simp only [Dv] at hR
  refine ⟨_,Bn hl,_,Ab h4,⟨λhe=>?_,λhe=>?_⟩⟩
  ·have he:(!pc c.1 xs[j])=true:=he
   rw [Ab he] at hR
   exact hR
  ·have he:(!pc c.1 xs[j])=false:=he
   rw [Ai (by rw [he];decide)] at hR
   rw [Bj (by omega)]
   exact hK hl _ rfl (by push_cast;exact hR)
 ·have:j=xs.length:=by omega
  subst this
  rw [Fe] at hR
  exact hR
theorem WW:Sound Tryz.prog 146 yL:=
 Sound.Gk Dl (Au JA Bl) mixed Tryz.func146 (by kernel_rfl) (by kernel_rfl) λx h=>Aq8 x.1 x.2.1 h
theorem Aq1 (xs:List Int) (c:Int×Unit) (h:short xs/\0<=c.1/\c.1<=8):fnW Fl (look [(146,yL)]) yF Tryz.f102 (xs,c,()) (λ(z:Bool)=>z=List.any xs (λy=>!pc c.1 y)):=by
 refine Eq.mp (Aqs xs c _) ⟨_,Ab h,?_⟩
 rw [bp,Hu]
 exact aa _ xs 0 (Kl 0)
theorem WN:Sound Tryz.prog 102 yF:=
 Sound.Gk Dl (Au WW Bl) mixed Tryz.func102 (by kernel_rfl) (by kernel_rfl) λx h=>Aq1 x.1 x.2.1 h
theorem Aeh {n:Int} (h:0<=n):0<=bR n/\bR n<=8:=by unfold bR;split<;>omega
theorem AW (n:Int) (w:List Int) (h:short w/\0<=n/\n<=4294967296):fnW Fl (look [(102,yF)]) Jt Tryz.f132 (n,w,()) (λ(z:Bool)=>z=Fg n w):=by
 have hc:=Aeh h.2.1
 have e1:(if false=true then if (8:Int)>n then (8:Int) else n else if (8:Int)<n then (8:Int) else n)=bR n:=rfl
 refine Eq.mp (DH n w _) (Br.dec (λhl=>⟨_,Ab ⟨h.1,hc⟩,?_⟩) λhl=>?_)
 ·show (!(List.any w λy=>!pc (bR n) y))=_
  unfold Fg
  rw [Cb (by omega),Ek]
 ·unfold Fg
  rw [Dx (by omega),Cq]
theorem qi:Sound Tryz.prog 132 Jt:=
 Sound.Gk Dl (Au WN Bl) mixed Tryz.func132 (by kernel_rfl) (by kernel_rfl) λx h=>AW x.1 x.2.1 h
theorem VR (p:PP) (w:List Int) (h:Gl p/\short w):fnW Fl (look [(132,Jt),(91,Qs)]) bE Tryz.f83 (p,w,()) (λ(z:Bool)=>z=Fg (List.length p.2.2.1:Nat) w):=by
 have:=h.1.2.1
 exact Eq.mp (XV p w _) ⟨_,Ab trivial,_,Ab ⟨h.2,by show (0:Int)<=(List.length p.2.2.1:Nat);omega,by show ((List.length p.2.2.1:Nat):Int)<=4294967296;omega⟩,rfl⟩
theorem wW:Sound Tryz.prog 83 bE:=
 Sound.Gk Dl (Au qi (Au dq Bl)) mixed Tryz.func83 (by kernel_rfl) (by kernel_rfl) λx h=>VR x.1 x.2.1 h
theorem AQ {n l:Int} (hn:0<=n):pc (bR n) l=true↔l≠0/\(-8<=l/\l<=8)/\l<=n/\ -l<=n:=by
 rw [SW];unfold bR;split<;>omega
theorem NS (n:Int) (w:List Int) (h:short w/\0<=n/\n<=4294967296):fnW Fl (look [(95,Ch)]) Jt Tryz.f80 (n,w,()) (λ(z:Bool)=>z=Fg n w):=by
 refine Eq.mp (QF n w _) (Br.dec (λhl=>?_) λhl=>?_)
 ·unfold Fg
  rw [Dx (by omega),Cq]
 ·have e0:Fg n w=!(List.any w λy=>!pc (bR n) y):=by unfold Fg;rw [Cb (by omega),Ek]
  have bad: ∀(j:Nat) (hj:j<w.length),¬(w[j]≠0/\(-8<=w[j]/\w[j]<=8)/\w[j]<=n/\ -w[j]<=n)->false=Fg n w:= λj hj hn=>by
   rw [e0]
   have:(List.any w λy=>!pc (bR n) y)=true:=Eh.2 ⟨w[j],Am hj,by
    have:pc (bR n) w[j]=false:=Bool.eq_false_iff.2 λht=>hn ((AQ h.2.1).1 ht)
    rw [this];rfl⟩
   rw [this];rfl
  refine Bo w.length (λv=>v.1) (λj _=> ∀y∈w.take j,pc (bR n) y=true) rfl (by simp) ?_
  rintro j ⟨i,⟨⟩⟩ K hj hi hR hK
  dsimp only at hi⊢
  subst hi
  refine Br.dec (λhl=>?_) λhl=>?_
  ·have hl:j<w.length:=by omega
   refine ⟨_,Bn hl,⟨λhz=>?_,λhz=>⟨_,Bn hl,_,Ab trivial,⟨λhq=>?_,λhq=>⟨_,Bn hl,Br.dec (λhg=>?_) λhg=>⟨_,Bn hl,Br.dec (λhm=>?_) λhm=>?_⟩⟩⟩⟩⟩⟩
   ·simp only [Xt] at hz
    exact bad j hl λhh=>hh.1 hz
   ·have hq:=Gb hq
    rw [Du] at hq
    exact bad j hl λhh=>hq hh.2.1
   ·exact bad j hl λhh=>absurd hh.2.2.1 (by omega)
   ·have hq:=Gw hq
    rw [Du] at hq
    dsimp only at hq
    rw [Ct (by omega) (by omega)] at hm
    exact bad j hl λhh=>absurd hh.2.2.2 (by omega)
   ·have hq:=Gw hq
    rw [Du] at hq
    dsimp only at hq
    simp only [Km,ne_eq] at hz
    rw [Ct (by omega) (by omega)] at hm
    rw [Bj (by omega)]
    refine hK hl _ rfl ?_
    rw [Ds hl]
    intro y hy
    rcases Ba.1 hy with hy|hy
    ·exact hR y hy
    ·rw [Ad.1 hy]
     exact (AQ h.2.1).2 ⟨hz,hq,by omega,by omega⟩
  ·have:j=w.length:=by omega
   subst this
   rw [Be] at hR
   rw [e0]
   have:(List.any w λy=>!pc (bR n) y)=false:=by
    refine Bool.eq_false_iff.2 λht=>?_
    obtain ⟨y,hy,h1⟩:=Eh.1 ht
    rw [hR y hy] at h1
    cases h1
   rw [this];rfl
theorem jP:Sound Tryz.prog 80 Jt:=
 Sound.Gk Dl (Au Ph Bl) mixed Tryz.func80 (by kernel_rfl) (by kernel_rfl) λx h=>NS x.1 x.2.1 h
theorem BB (n:Int) (w:List Int) (h:short w/\0<=n/\n<=4294967296):fnW Fl (look [(80,Jt)]) Jt Tryz.f72 (n,w,()) (λ(z:Bool)=>z=Fg n w):=Eq.mp (DO n w _) ⟨_,Ab h,rfl⟩
theorem ql:Sound Tryz.prog 72 Jt:=
 Sound.Gk Dl (Au jP Bl) mixed Tryz.func72 (by kernel_rfl) (by kernel_rfl) λx h=>BB x.1 x.2.1 h
theorem Nb {n:Nat} {w:List Int} (h:Fg (n:Int) w=true):w.length<=200/\ ∀y∈w,Hj n y:=by
 unfold Fg at h
 simp only [Ah,Ru,Fm] at h
 refine ⟨h.1,λy hy=>?_⟩
 have h1:pc (bR n) y=true:=by
  cases ho:pc (bR n) y with
  |true=>rfl
  |false=>
   have h2:(List.any w λy=>!pc (bR (n:Int)) y)=true:=Eh.2 ⟨y,hy,by rw [ho];rfl⟩
   rw [h.2] at h2;cases h2
 have:=(AQ (by omega)).1 h1
 unfold Hj
 omega
noncomputable abbrev Wd:Spec:=Gk (.pair Iw .unit) tL false true (λx=>List.length x.1.2.2.1<=8) (λx=>Az (List.length x.1.2.2.1))
abbrev oT:Type:=Int×Int×ByteArray×List (List Int)×List Int×PUnit
theorem JW (p:Int×ByteArray×List (List Int)×Unit) (P:List Int->Prop):(0=0/\0=([]:List Int).length/\Dn (λ(v2:oT) (k3:oT->Prop)=>Br (decide (v2.1<=(↑v2.2.2.2.1.length:Int))) (0=0/\v2.2.2.2.2.1.length=v2.2.2.2.2.1.length/\v2.2.2.2.2.1.length+(List.take 2 (List.drop 0 [v2.1,IntKind.i64.wrap ((0:Int)-v2.1)])).length<=Ea/\0=0/\(v2.2.2.2.2.1++List.take 2 (List.drop 0 [v2.1,IntKind.i64.wrap ((0:Int)-v2.1)])).length=(v2.2.2.2.2.1++List.take 2 (List.drop 0 [v2.1,IntKind.i64.wrap ((0:Int)-v2.1)])).length/\k3 (IntKind.i64.wrap (v2.1+(1:Int)),v2.2.1,v2.2.2.1,v2.2.2.2.1,v2.2.2.2.2.1++List.take 2 (List.drop 0 [v2.1,IntKind.i64.wrap ((0:Int)-v2.1)]),())) (P (List.take v2.2.2.2.2.1.length (List.drop 0 v2.2.2.2.2.1)))) ((1:Int),p.1,p.2.1,p.2.2.1,[],PUnit.unit))=fnW Fl (look []) Wd Tryz.f65 (p,()) P:=by kernel_rfl
theorem HX (p:PP) (h:List.length p.2.2.1<=8):fnW Fl (look []) Wd Tryz.f65 (p,()) (λ(z:List Int)=>z=Az (List.length p.2.2.1)):=by
 refine Eq.mp (JW p _) ⟨rfl,rfl,?_⟩
 refine Dn.mk (λv=> ∃j:Nat,j<=List.length p.2.2.1/\v=((j:Int)+1,p.1,p.2.1,p.2.2.1,Az j,())) (λv=>List.length p.2.2.1+1-v.1.toNat) ⟨0,Mc _,rfl⟩ ?_
 rintro _ ⟨j,hj,rfl⟩
 dsimp only
 refine Br.dec (λhl=>?_) λhl=>?_
 ·refine ⟨rfl,rfl,?_,rfl,rfl,⟨j+1,by omega,?_⟩,?_⟩
  ·show (Az j).length+2<=4294967296
   rw [Rj];omega
  ·rw [ck,Ct (n:=(j:Int)+1+1) (by omega) (by omega),Ct (n:=0-((j:Int)+1)) (by omega) (by omega),Int.zero_sub]
   rfl
  ·rw [Ct (by omega) (by omega)];omega
 ·have:j=List.length p.2.2.1:=by omega
  subst this
  rw [Dj]
theorem s8:Sound Tryz.prog 65 Wd:=
 Sound.Gk Dl Bl mixed Tryz.func65 (by kernel_rfl) (by kernel_rfl) λx h=>HX x.1 h
abbrev rLL:CK:= .row tL 33
def AD (v:Int):List Int->Nat
 | []=>0
 |x::r=>if x>v then AD v r+1 else 0
def Afs (v:Int) (t:List Int):Option (List Int):=if AD v t=0 then none else some (Dp t ((AD v t-1:Nat):Int)::(t.set (AD v t-1) v).reverse)
def pO:List Int->Option (List Int)
 | []=>none
 |v::t=>match pO t with
  |some t'=>some (v::t')
  |none=>Afs v t
def lex:Nat->List Int->List (List Int)
 |0,_=> [[]]
 |k+1,R=>R.flatMap λv=>(lex k (R.erase v)).map (v:: ·)
theorem HG {s s':List Int} (h:pO s=some s'): ∀pre:List Int,pO (pre++s)=some (pre++s')
 | []=>h
 |v::p=>by rw [Kj,pO,HG h p];rfl
theorem Age {α:Type} (pre:List α) (v a:α) (t:List α):(pre++v::t).set pre.length a=pre++a::t:=by
 rw [List.set_append,Ai (by omega)];simp
inductive Run:List Int->List (List Int)->List Int->Prop where
 |one (a:List Int):Run a [a] a
 |more {a c b:List Int} {L:List (List Int)} :pO a=some c->Run c L b->Run a (a::L) b
theorem Run.cons {a b:List Int} {L:List (List Int)} (h:Run a L b) (v:Int):Run (v::a) (L.map (v:: ·)) (v::b):=by
 induction h with
 |one a=>exact .one _
 |more h3 _ ih=>exact .more (HG h3 [v]) ih
def RH:Nat->Nat
 |0=>1
 |k+1=>(k+1)*RH k
theorem FI {α β:Type} {n:Nat} (f:α->List β): ∀(l:List α),(∀a∈l,(f a).length=n)->(l.flatMap f).length=l.length*n
 | [],_=>by simp
 |a::r,h=>by
  rw [Wj,Aw,FI f r (λb hb=>h b (Ap _ hb)),h a (by simp),Ay,Nat.succ_mul]
  omega
theorem SN: ∀(k:Nat) (R:List Int),R.length=k->(lex k R).length=RH k
 |0,_,_=>rfl
 |k+1,R,hl=>by
  rw [lex,FI (n:=RH k) _ _ (λv hv=>by rw [Dk];exact SN k _ (by rw [Xr hv];omega)),hl]
  rfl
theorem Run.head {a b:List Int} {L:List (List Int)} (h:Run a L b): ∃M,L=a::M:=by
 cases h with
 |one=>exact ⟨_,rfl⟩
 |more _ _=>exact ⟨_,rfl⟩
theorem Run.at {a b:List Int} {L:List (List Int)} (h:Run a L b): ∀j (hj:j<L.length),(∀h2:j+1<L.length,pO L[j]=some L[j+1])/\(j+1=L.length->L[j]=b):=by
 induction h with
 |one a=>
  intro j hj
  simp only [Bq] at hj
  have:j=0:=by omega
  subst this
  exact ⟨λh2=>by simp at h2,λ_=>rfl⟩
 |more h3 h4 ih=>
  intro j hj
  rcases j with _|j
  ·obtain ⟨M,hM⟩:=h4.head
   refine ⟨λh2=>?_,λh2=>?_⟩
   ·simp only [List.getElem_cons_zero,List.getElem_cons_succ]
    subst hM
    exact h3
   ·subst hM;simp at h2
  ·have:=ih j (by simpa using hj)
   refine ⟨λh2=>?_,λh2=>?_⟩
   ·simp only [List.getElem_cons_succ]
    exact this.1 (by simpa using h2)
   ·simp only [List.getElem_cons_succ]
    exact this.2 (by simpa using h2)
def Gc:List Int->List Int->Int
 | [],[]=>0
 | [],_::_=> -1
 |_::_,[]=>1
 |x::a,y::b=>if x<y then-1 else if x>y then 1 else Gc a b
def fJ (a b:List Int):Bool:=decide (Gc a b<0)
noncomputable abbrev Zd:Spec:=Gk (.pair tL (.pair tL .unit)) .bool false true (λx=>short x.1/\List.length x.1=List.length x.2.1) (λx=>fJ x.1 x.2.1)
theorem QI (a b:List Int) (P:Bool->Prop):(Dn (λ(v3:Int×PUnit) (k4:Int×PUnit->Prop)=>Br (decide (v3.1<(↑a.length:Int))) (∃(y5:Int),idx a v3.1=some y5/\ ∃(y6:Int),idx b v3.1=some y6/\Br (y5 !=y6) (∃(y7:Int),idx a v3.1=some y7/\ ∃(y8:Int),idx b v3.1=some y8/\P (decide (y7<y8))) (k4 (IntKind.i64.wrap (v3.1+(1:Int)),()))) (P false)) ((0:Int),PUnit.unit))=fnW Fl (look []) Zd Tryz.f166 (a,b,()) P:=by kernel_rfl
theorem NV (a b:List Int) (h:short a/\a.length=b.length):fnW Fl (look []) Zd Tryz.f166 (a,b,()) (λ(z:Bool)=>z=fJ a b):=by
 obtain ⟨ha,hb⟩:=h
 unfold short at ha
 refine Eq.mp (QI a b _) ?_
 refine Bo a.length (λv=>v.1) (λj _=>Gc (a.drop j) (b.drop j)=Gc a b) rfl (by simp) ?_
 rintro j ⟨i,⟨⟩⟩ K hj hi hR2 hK
 dsimp only at hi⊢
 subst hi
 refine Br.dec (λhl=>?_) λhl=>?_
 ·have hl:j<a.length:=by omega
  have hlb:j<b.length:=by omega
  rw [Cc hl,Cc hlb] at hR2
  simp only [Gc] at hR2
  refine ⟨_,Bn hl,_,Bn hlb,⟨λJd=>?_,λJd=>?_⟩⟩
  ·refine ⟨_,Bn hl,_,Bn hlb,?_⟩
   have Jd:a[j]≠b[j]:=by simpa using Jd
   unfold fJ
   rw [<-hR2]
   by_cases h1:a[j]<b[j]
   ·rw [Ab h1];simp [h1]
   ·rw [Ai h1,Ab (by omega)];simp [h1]
  ·have Jd:a[j]=b[j]:=by simpa using Jd
   rw [Ai (by omega),Ai (by omega)] at hR2
   rw [Bj (by omega)]
   exact hK hl _ rfl hR2
 ·have:j=a.length:=by omega
  subst this
  rw [Fe,List.drop_eq_nil_of_le (by omega)] at hR2
  unfold fJ
  rw [<-hR2]
  rfl
theorem vu:Sound Tryz.prog 166 Zd:=
 Sound.Gk Dl Bl mixed Tryz.func166 (by kernel_rfl) (by kernel_rfl) λx h=>NV x.1 x.2.1 h
abbrev SS:Type:=List (List Int)×List Int×List Int×Bool×Unit
abbrev rLS:CK:= .row tL 33
abbrev rN:CK:= .row tI 3
def Hl (L:List (List Int)) (Nv:List Int) (s:List Int):Nat:=(Nv.takeWhile λi=>fJ (L.getD i.toNat []) s).length
structure Ha (m:Nat) (L:List (List Int)) (Nv:List Int):Prop where
 p8:L.length<=3000
 len: ∀x∈L,x.length=m
 short:m<=20
 perm:Nv.Perm (upto L.length)
 sorted:Nv.Pairwise λi j=>fJ (L.getD i.toNat []) (L.getD j.toNat [])=true
def gU (L:List (List Int)) (s:List Int):Int:=if s∈L then (L.idxOf s:Int) else-1
def Yb (Nv:List Int) (k:Nat) (x:Int):List Int:=Nv.take k++x::Nv.drop k
noncomputable abbrev gh:Spec:=Gk (.pair bl (.pair tL .unit)) tI false true (λx=>Ha (List.length x.2.1) x.1.1 x.1.2.2.1) (λx=>(Hl x.1.1 x.1.2.2.1 x.2.1:Int))
noncomputable abbrev Rd:Spec:=Gk (.pair bl (.pair tL .unit)) tI false true (λx=>Ha (List.length x.2.1) x.1.1 x.1.2.2.1) (λx=>gU x.1.1 x.2.1)
noncomputable abbrev mL:MSpec:=vV [some 4,none,none] [(false,rLS),(false,rL),(false,rN),(false, .Hw .bool),(false, .Hw tL),(false, .Hw tI)] false [some 4] [rLS,rL,rN, .Hw .bool]
 (λx=>Ha (List.length x.2.2.2.2.1) x.1 x.2.2.1/\List.length x.2.1<=3000) (λx=>((x.1++ [x.2.2.2.2.1],x.2.1++ [x.2.2.2.2.2.1],Yb x.2.2.1 (Hl x.1 x.2.2.1 x.2.2.2.2.1) (List.length x.1),x.2.2.2.1,()),()))
def cA (L:List (List Int)):List Int:=(List.range L.length).foldl (λ(S:List Int) (i:Nat)=>Yb S (Hl (L.take i) S (L.getD i [])) (i:Int)) []
def Iy (g:List (List Int)) (x:List Int) (d:Int):List Int->List (List Int)->List Int->List (List Int)×List Int×Bool
 | [],L,D=>(L,D,true)
 |l::ls,L,D=>if Aj x (Ax g l)∈L then Iy g x d ls L D else if L.length=3000 then (L,D,false) else Iy g x d ls (L++ [Aj x (Ax g l)]) (D++ [d+1])
def Lo (g:List (List Int)) (ls:List Int):Nat->Nat->List (List Int)->List Int->List (List Int)×List Int×Bool
 |0,_,L,D=>(L,D,true)
 |f+1,k,L,D=>if k<L.length then (match Iy g (L.getD k []) (D.getD k 0) ls L D with
  |(L',D',true)=>Lo g ls f (k+1) L' D'
  |(L',D',false)=>(L',D',false)) else (L,D,true)
def Ie (g:List (List Int)) (s:List Int):List (List Int)×List Int×Bool:=Lo g (Az g.length) 3001 0 [s] [0]
def Nn (g:List (List Int)) (s:List Int):SS:=((Ie g s).1,(Ie g s).2.1,cA (Ie g s).1,(Ie g s).2.2,())
noncomputable abbrev Ik:Spec:=Gk (.pair Iw (.pair tL .unit)) bl false false (λx=>Ca x.1=true/\List.length x.2.1<=20/\ ∀y∈x.2.1,0<=y/\y<x.1.1) (λx=>Nn x.1.2.2.1 x.2.1)
abbrev TH:Type:=Int×Int×List (List Int)×List Int×List Int×Bool×PUnit
theorem Aly (f:List (List Int)×List Int×List Int×Bool×Unit) (s:List Int) (P:Int->Prop):(Dn (λ(v3:TH) (k4:TH->Prop)=>Br (decide (v3.1<v3.2.1)) ((2:Int)≠(0:Int)/\ ∃(y5:Int),idx v3.2.2.2.2.1 (IntKind.i64.wrap ((IntKind.i64.wrap (v3.1+v3.2.1)).tdiv (2:Int)))=some y5/\ ∃(y6:List Int),idx v3.2.2.1 y5=some y6/\ ∃(y7:Bool),Zd.fn (y6,s,())=some y7/\Br y7 (k4 (IntKind.i64.wrap (IntKind.i64.wrap ((IntKind.i64.wrap (v3.1+v3.2.1)).tdiv (2:Int))+(1:Int)),v3.2.1,v3.2.2.1,v3.2.2.2.1,v3.2.2.2.2.1,v3.2.2.2.2.2.1,())) (k4 (v3.1,IntKind.i64.wrap ((IntKind.i64.wrap (v3.1+v3.2.1)).tdiv (2:Int)),v3.2.2.1,v3.2.2.2.1,v3.2.2.2.2.1,v3.2.2.2.2.2.1,()))) (P v3.1)) ((0:Int),(↑f.2.2.1.length:Int),f.1,f.2.1,f.2.2.1,f.2.2.2.1,PUnit.unit))=fnW Fl (look [(166,Zd)]) gh Tryz.f129 (f,s,()) P:=by kernel_rfl
theorem Adi (f:List (List Int)×List Int×List Int×Bool×Unit) (s:List Int) (P:Int->Prop):(∃(y3:Int),gh.fn ((f.1,f.2.1,f.2.2.1,f.2.2.2.1,()),s,())=some y3/\Br (decide (y3<(↑f.2.2.1.length:Int))) (∃(y4:Int),idx f.2.2.1 y3=some y4/\ ∃(y5:List Int),idx f.1 y4=some y5/\ ∃(y6:Bool),Wc.fn (y5,s,())=some y6/\Br y6 (∃(y7:Int),idx f.2.2.1 y3=some y7/\P y7) (P (-1:Int))) (P (-1:Int)))=fnW Fl (look [(129,gh),(128,Wc)]) Rd Tryz.f75 (f,s,()) P:=by kernel_rfl
theorem Alw (L:List (List Int)) (D S:List Int) (b:Bool) (s:List Int) (d:Int) (P:((List (List Int)×List Int×List Int×Bool×Unit)×Unit)->Prop):(∃(y7:Int),gh.fn ((List.take L.length (List.drop 0 L),List.take D.length (List.drop 0 D),List.take S.length (List.drop 0 S),b,()),s,())=some y7/\0=0/\S.length=S.length/\S.length+(List.take 1 (List.drop 0 [(0:Int)])).length<=Ea/\((0:Int)<=IntKind.i64.wrap (y7+(1:Int))/\IntKind.i64.wrap (y7+(1:Int))<=(↑(S++List.take 1 (List.drop 0 [(0:Int)])).length:Int)/\(↑(S++List.take 1 (List.drop 0 [(0:Int)])).length:Int)<=(↑(S++List.take 1 (List.drop 0 [(0:Int)])).length:Int))/\((0:Int)<=y7/\y7<=(↑(S++List.take 1 (List.drop 0 [(0:Int)])).length:Int)/\(↑(S++List.take 1 (List.drop 0 [(0:Int)])).length:Int)<=(↑(S++List.take 1 (List.drop 0 [(0:Int)])).length:Int))/\((0:Int)<=y7/\y7<(↑(S++List.take 1 (List.drop 0 [(0:Int)])).length:Int))/\0+y7.toNat<(Dt (S++List.take 1 (List.drop 0 [(0:Int)])) (0+(IntKind.i64.wrap (y7+(1:Int))).toNat) (List.take ((↑(S++List.take 1 (List.drop 0 [(0:Int)])).length:Int).toNat-(IntKind.i64.wrap (y7+(1:Int))).toNat) (List.take ((↑(S++List.take 1 (List.drop 0 [(0:Int)])).length:Int).toNat-y7.toNat) (List.drop (0+y7.toNat) (S++List.take 1 (List.drop 0 [(0:Int)])))))).length/\0=0/\L.length=L.length/\L.length+(List.take 1 (List.drop 0 [s])).length<=Ea/\0=0/\D.length=D.length/\D.length+(List.take 1 (List.drop 0 [d])).length<=Ea/\P ((List.take (L++List.take 1 (List.drop 0 [s])).length (List.drop 0 (L++List.take 1 (List.drop 0 [s]))),List.take (D++List.take 1 (List.drop 0 [d])).length (List.drop 0 (D++List.take 1 (List.drop 0 [d]))),List.take (S++List.take 1 (List.drop 0 [(0:Int)])).length (List.drop 0 ((Dt (S++List.take 1 (List.drop 0 [(0:Int)])) (0+(IntKind.i64.wrap (y7+(1:Int))).toNat) (List.take ((↑(S++List.take 1 (List.drop 0 [(0:Int)])).length:Int).toNat-(IntKind.i64.wrap (y7+(1:Int))).toNat) (List.take ((↑(S++List.take 1 (List.drop 0 [(0:Int)])).length:Int).toNat-y7.toNat) (List.drop (0+y7.toNat) (S++List.take 1 (List.drop 0 [(0:Int)])))))).set (0+y7.toNat) (↑L.length:Int))),b,()),()))=fnMW aJ (look [(129,gh)]) mL Tryz.f164 (L,D,S,b,s,d,()) P:=by kernel_rfl
abbrev oU:Type:=Int×Int×ByteArray×List (List Int)×Bool×Bool×List (List Int)×List Int×List Int×List (List Int)×List Int×List Int×PUnit
abbrev JJ:Type:=(List (List Int)×List Int×List Int×Bool×PUnit)×PUnit
theorem Ah2 (p:Int×ByteArray×List (List Int)×Unit) (s:List Int) (P:(List (List Int)×List Int×List Int×Bool×Unit)->Prop):(∃(y3:List Int),Qr.fn (s,())=some y3/\ ∃(y4:JJ),mL.fn ([],[],[],false,y3,(0:Int),())=some y4/\ ∃(y5:List Int),Wd.fn ((p.1,p.2.1,p.2.2.1,()),())=some y5/\0=0/\0=([]:List Int).length/\0=0/\0=([]:List Int).length/\0=0/\0=([]:List Int).length/\0=0/\y4.1.1.length=y4.1.1.length/\0=0/\y4.1.2.1.length=y4.1.2.1.length/\0=0/\y4.1.2.2.1.length=y4.1.2.2.1.length/\Dn (λ(v6:oU) (k7:oU->Prop)=>Br (decide (v6.1<(↑v6.2.2.2.2.2.2.2.2.2.1.length:Int))) (0=0/\v6.2.2.2.2.2.2.1.length=v6.2.2.2.2.2.2.1.length/\0=0/\v6.2.2.2.2.2.2.2.1.length=v6.2.2.2.2.2.2.2.1.length/\0=0/\v6.2.2.2.2.2.2.2.2.1.length=v6.2.2.2.2.2.2.2.2.1.length/\0=0/\v6.2.2.2.2.2.2.2.2.2.1.length=v6.2.2.2.2.2.2.2.2.2.1.length/\0=0/\v6.2.2.2.2.2.2.2.2.2.2.1.length=v6.2.2.2.2.2.2.2.2.2.2.1.length/\0=0/\v6.2.2.2.2.2.2.2.2.2.2.2.1.length=v6.2.2.2.2.2.2.2.2.2.2.2.1.length/\Dn (λ(v8:oU) (k9:oU->Prop)=>Br (decide (v8.1<(↑y5.length:Int))) (((0:Int)<=v6.1/\v6.1<(↑v8.2.2.2.2.2.2.2.2.2.1.length:Int))/\ ∃(Xw:List Int),v8.2.2.2.2.2.2.2.2.2.1[0+v6.1.toNat]?=some Xw/\ ∃(Sj:Int),idx y5 v8.1=some Sj/\ ∃(Rr:List Int),Xi.fn ((v8.2.1,v8.2.2.1,v8.2.2.2.1,()),Xw,Sj,())=some Rr/\ ∃(il:Int),Rd.fn ((List.take v8.2.2.2.2.2.2.2.2.2.1.length (List.drop 0 v8.2.2.2.2.2.2.2.2.2.1),List.take v8.2.2.2.2.2.2.2.2.2.2.1.length (List.drop 0 v8.2.2.2.2.2.2.2.2.2.2.1),List.take v8.2.2.2.2.2.2.2.2.2.2.2.1.length (List.drop 0 v8.2.2.2.2.2.2.2.2.2.2.2.1),v8.2.2.2.2.2.1,()),Rr,())=some il/\Br (decide (il>=(0:Int))) (0=0/\v8.2.2.2.2.2.2.1.length=v8.2.2.2.2.2.2.1.length/\0=0/\v8.2.2.2.2.2.2.2.1.length=v8.2.2.2.2.2.2.2.1.length/\0=0/\v8.2.2.2.2.2.2.2.2.1.length=v8.2.2.2.2.2.2.2.2.1.length/\0=0/\v8.2.2.2.2.2.2.2.2.2.1.length=v8.2.2.2.2.2.2.2.2.2.1.length/\0=0/\v8.2.2.2.2.2.2.2.2.2.2.1.length=v8.2.2.2.2.2.2.2.2.2.2.1.length/\0=0/\v8.2.2.2.2.2.2.2.2.2.2.2.1.length=v8.2.2.2.2.2.2.2.2.2.2.2.1.length/\k9 (IntKind.i64.wrap (v8.1+(1:Int)),v8.2.1,v8.2.2.1,v8.2.2.2.1,v8.2.2.2.2.1,v8.2.2.2.2.2.1,v8.2.2.2.2.2.2.1,v8.2.2.2.2.2.2.2.1,v8.2.2.2.2.2.2.2.2.1,v8.2.2.2.2.2.2.2.2.2.1,v8.2.2.2.2.2.2.2.2.2.2.1,v8.2.2.2.2.2.2.2.2.2.2.2.1,())) (Br ((↑v8.2.2.2.2.2.2.2.2.2.1.length:Int)==(3000:Int)) (P (List.take v8.2.2.2.2.2.2.2.2.2.1.length (List.drop 0 v8.2.2.2.2.2.2.2.2.2.1),List.take v8.2.2.2.2.2.2.2.2.2.2.1.length (List.drop 0 v8.2.2.2.2.2.2.2.2.2.2.1),List.take v8.2.2.2.2.2.2.2.2.2.2.2.1.length (List.drop 0 v8.2.2.2.2.2.2.2.2.2.2.2.1),v8.2.2.2.2.2.1,())) (((0:Int)<=v6.1/\v6.1<(↑v8.2.2.2.2.2.2.2.2.2.2.1.length:Int))/\ ∃(cJ:Int),v8.2.2.2.2.2.2.2.2.2.2.1[0+v6.1.toNat]?=some cJ/\0=0/\v8.2.2.2.2.2.2.2.2.2.1.length=v8.2.2.2.2.2.2.2.2.2.1.length/\0=0/\v8.2.2.2.2.2.2.2.2.2.2.1.length=v8.2.2.2.2.2.2.2.2.2.2.1.length/\0=0/\v8.2.2.2.2.2.2.2.2.2.2.2.1.length=v8.2.2.2.2.2.2.2.2.2.2.2.1.length/\ ∃(lS:JJ),mL.fn (v8.2.2.2.2.2.2.2.2.2.1,v8.2.2.2.2.2.2.2.2.2.2.1,v8.2.2.2.2.2.2.2.2.2.2.2.1,v8.2.2.2.2.2.1,Rr,IntKind.i64.wrap (cJ+(1:Int)),())=some lS/\0=0/\v8.2.2.2.2.2.2.1.length=v8.2.2.2.2.2.2.1.length/\0=0/\v8.2.2.2.2.2.2.2.1.length=v8.2.2.2.2.2.2.2.1.length/\0=0/\v8.2.2.2.2.2.2.2.2.1.length=v8.2.2.2.2.2.2.2.2.1.length/\0=0/\lS.1.1.length=lS.1.1.length/\0=0/\lS.1.2.1.length=lS.1.2.1.length/\0=0/\lS.1.2.2.1.length=lS.1.2.2.1.length/\k9 (IntKind.i64.wrap (v8.1+(1:Int)),v8.2.1,v8.2.2.1,v8.2.2.2.1,v8.2.2.2.2.1,lS.1.2.2.2.1,v8.2.2.2.2.2.2.1,v8.2.2.2.2.2.2.2.1,v8.2.2.2.2.2.2.2.2.1,lS.1.1,lS.1.2.1,lS.1.2.2.1,())))) (0=0/\v8.2.2.2.2.2.2.1.length=v8.2.2.2.2.2.2.1.length/\0=0/\v8.2.2.2.2.2.2.2.1.length=v8.2.2.2.2.2.2.2.1.length/\0=0/\v8.2.2.2.2.2.2.2.2.1.length=v8.2.2.2.2.2.2.2.2.1.length/\0=0/\v8.2.2.2.2.2.2.2.2.2.1.length=v8.2.2.2.2.2.2.2.2.2.1.length/\0=0/\v8.2.2.2.2.2.2.2.2.2.2.1.length=v8.2.2.2.2.2.2.2.2.2.2.1.length/\0=0/\v8.2.2.2.2.2.2.2.2.2.2.2.1.length=v8.2.2.2.2.2.2.2.2.2.2.2.1.length/\k7 (IntKind.i64.wrap (v6.1+(1:Int)),v8.2.1,v8.2.2.1,v8.2.2.2.1,v8.2.2.2.2.1,v8.2.2.2.2.2.1,v8.2.2.2.2.2.2.1,v8.2.2.2.2.2.2.2.1,v8.2.2.2.2.2.2.2.2.1,v8.2.2.2.2.2.2.2.2.2.1,v8.2.2.2.2.2.2.2.2.2.2.1,v8.2.2.2.2.2.2.2.2.2.2.2.1,()))) ((0:Int),v6.2.1,v6.2.2.1,v6.2.2.2.1,v6.2.2.2.2.1,v6.2.2.2.2.2.1,v6.2.2.2.2.2.2.1,v6.2.2.2.2.2.2.2.1,v6.2.2.2.2.2.2.2.2.1,v6.2.2.2.2.2.2.2.2.2.1,v6.2.2.2.2.2.2.2.2.2.2.1,v6.2.2.2.2.2.2.2.2.2.2.2.1,PUnit.unit)) (P (List.take v6.2.2.2.2.2.2.2.2.2.1.length (List.drop 0 v6.2.2.2.2.2.2.2.2.2.1),List.take v6.2.2.2.2.2.2.2.2.2.2.1.length (List.drop 0 v6.2.2.2.2.2.2.2.2.2.2.1),List.take v6.2.2.2.2.2.2.2.2.2.2.2.1.length (List.drop 0 v6.2.2.2.2.2.2.2.2.2.2.2.1),true,()))) ((0:Int),p.1,p.2.1,p.2.2.1,false,y4.1.2.2.2.1,[],[],[],y4.1.1,y4.1.2.1,y4.1.2.2.1,PUnit.unit))=fnW All (look [(68,Qr),(164,mL),(65,Wd),(66,Xi),(75,Rd)]) Ik Tryz.f126 (p,s,()) P:=by kernel_rfl
theorem sX: ∀ {a b:List Int},Gc a b=0↔a=b
 | [],[]=>by simp [Gc]
 | [],_::_=>by simp [Gc]
 |_::_,[]=>by simp [Gc]
 |x::a,y::b=>by
  simp only [Gc,Hq]
  by_cases h1:x<y
  ·rw [Ab h1]
   exact ⟨λh=>by omega,λh=>by omega⟩
  ·rw [Ai h1]
   by_cases h2:x>y
   ·rw [Ab h2]
    exact ⟨λh=>by omega,λh=>by omega⟩
   ·rw [Ai h2,sX]
    exact ⟨λh=>⟨by omega,h⟩,λh=>h.2⟩
theorem RC: ∀(a b:List Int),Gc b a= -Gc a b
 | [],[]=>by simp [Gc]
 | [],_::_=>by simp [Gc]
 |_::_,[]=>by simp [Gc]
 |x::a,y::b=>by
  simp only [Gc]
  rcases Int.lt_trichotomy x y with h1|h1|h1
  ·simp [h1,show ¬y<x by omega]
  ·subst h1
   simp [RC a b]
  ·simp [h1,show ¬x<y by omega]
theorem xy: ∀ {a b c:List Int},Gc a b<0->Gc b c<0->Gc a c<0
 | [],[],_,h,_=>by simp [Gc] at h
 |_::_,[],_,h,_=>by simp [Gc] at h
 |_,_::_,[],_,h=>by simp [Gc] at h
 | [],_::_,_::_,_,_=>by simp [Gc]
 |x::a,y::b,z::c,h1,h2=>by
  simp only [Gc] at h1 h2⊢
  by_cases e1:x<y
  ·by_cases e2:y<z
   ·rw [Ab (by omega)];omega
   ·rw [Ai e2] at h2
    by_cases e3:y>z
    ·rw [Ab e3] at h2;omega
    ·rw [Ab (by omega)];omega
  ·rw [Ai e1] at h1
   by_cases e2:x>y
   ·rw [Ab e2] at h1;omega
   ·rw [Ai e2] at h1
    by_cases e3:y<z
    ·rw [Ab (by omega)];omega
    ·rw [Ai e3] at h2
     by_cases e4:y>z
     ·rw [Ab e4] at h2;omega
     ·rw [Ai e4] at h2
      rw [Ai (by omega),Ai (by omega)]
      exact xy h1 h2
theorem lt_iff {a b:List Int} :fJ a b=true↔Gc a b<0:=Hu
theorem UZ {a b c:List Int} (h1:fJ a b=true) (h2:fJ b c=true):fJ a c=true:=lt_iff.2 (xy (lt_iff.1 h1) (lt_iff.1 h2))
theorem my (a:List Int):fJ a a=false:=by
 have:Gc a a=0:=sX.2 rfl
 unfold fJ;rw [this];rfl
theorem Ab5 {a b:List Int} (h:fJ a b=false) (Jd:a≠b):fJ b a=true:=by
 rw [lt_iff,RC a b]
 have h1: ¬Gc a b<0:= λh'=>by rw [lt_iff.2 h'] at h;cases h
 have h2:Gc a b≠0:= λh'=>Jd (sX.1 h')
 omega
theorem lJ {α:Type} (q:α->Bool): ∀(l:List α),l.Pairwise (λi j=>q j=true->q i=true)-> ∀k (hk:k<l.length),k<(l.takeWhile q).length↔q l[k]=true
 | [],_,k,hk=>by simp at hk
 |a::l,h,k,hk=>by
  obtain ⟨h1,h2⟩:=List.pairwise_cons.1 h
  by_cases ha:q a=true
  ·rw [List.takeWhile_cons_of_pos ha]
   rcases k with _|k
   ·simpa using ha
   ·simp only [Ay,List.getElem_cons_succ,Nat.add_lt_add_iff_right]
    exact lJ q l h2 k (by simpa using hk)
  ·rw [List.takeWhile_cons_of_neg ha]
   simp only [Gp,Fy,false_iff]
   rcases k with _|k
   ·exact ha
   ·simp only [List.getElem_cons_succ]
    exact λhq=>ha (h1 _ (Am _) hq)
theorem Ha.u9 {m:Nat} {L:List (List Int)} {Nv:List Int} (h:Ha m L Nv):Nv.length=L.length:=by rw [h.perm.length_eq,Li]
theorem Ha.idx {m:Nat} {L:List (List Int)} {Nv:List Int} (h:Ha m L Nv) {k:Nat} (hk:k<Nv.length):0<=Nv[k]/\Nv[k]<L.length:=Mr.1 (h.perm.mem_iff.1 (Am hk))
theorem Ha.eS {m:Nat} {L:List (List Int)} {Nv:List Int} (h:Ha m L Nv) (s:List Int) {k:Nat} (hk:k<Nv.length):k<Hl L Nv s↔fJ (L.getD Nv[k].toNat []) s=true:=
 lJ _ Nv (h.sorted.imp λkA hj=>UZ kA hj) k hk
theorem TC (L:List (List Int)) (Nv s:List Int):Hl L Nv s<=Nv.length:=(List.takeWhile_sublist _).length_le
theorem Ha.inj {m:Nat} {L:List (List Int)} {Nv:List Int} (h:Ha m L Nv) {i j:Nat} (hi:i<L.length) (hj:j<L.length) (e:L[i]=L[j]):i=j:=by
 have mem: ∀i,i<L.length->(i:Int)∈Nv:= λi hi=>h.perm.mem_iff.2 (Mr.2 ⟨by omega,by omega⟩)
 obtain ⟨p,hp,ep⟩:=Bg.1 (mem i hi)
 obtain ⟨q,hq,eq⟩:=Bg.1 (mem j hj)
 have get: ∀i (hi:i<L.length),L.getD ((i:Int)).toNat []=L[i]:= λi hi=>by rw [Ae,Ak,Ac hi];rfl
 rcases Nat.lt_trichotomy p q with h1|h1|h1
 ·have:=Fa.1 h.sorted p q hp hq h1
  rw [ep,eq,get i hi,get j hj,e,my] at this
  cases this
 ·subst h1
  rw [ep] at eq
  omega
 ·have:=Fa.1 h.sorted q p hq hp h1
  rw [ep,eq,get i hi,get j hj,e,my] at this
  cases this
theorem Wu {L:List (List Int)} {k:Nat} (h:k<L.length):L.getD k []=L[k]:=by rw [Ak,Ac h];rfl
theorem Ha.zg {m:Nat} {L:List (List Int)} {Nv:List Int} (h:Ha m L Nv) {s:List Int} :
  (∃hk:Hl L Nv s<Nv.length,L.getD Nv[Hl L Nv s].toNat []=s/\gU L s=Nv[Hl L Nv s])\/(gU L s= -1/\ ∀hk:Hl L Nv s<Nv.length,L.getD Nv[Hl L Nv s].toNat []≠s):=by
 by_cases hm:s∈L
 ·left
  obtain ⟨j,hj,rfl⟩:=Bg.1 hm
  obtain ⟨p,hp,ep⟩:=Bg.1 (h.perm.mem_iff.2 (Mr.2 ⟨by omega,by omega⟩):(j:Int)∈Nv)
  have gj:L.getD Nv[p].toNat []=L[j]:=by rw [ep,Ae,Wu hj]
  have hs:Hl L Nv L[j]=p:=by
   have h1: ¬p<Hl L Nv L[j]:= λh1=>by
    have:=(h.eS L[j] hp).1 h1
    rw [gj,my] at this;cases this
   have h2: ¬Hl L Nv L[j]<p:= λh2=>by
    have h3:=(h.eS L[j] (k:=Hl L Nv L[j]) (by omega)).2 (by
     have:=Fa.1 h.sorted (Hl L Nv L[j]) p (by omega) hp h2
     rw [gj] at this;exact this)
    omega
   omega
  have hx:L.idxOf L[j]=j:=by
   have h1:L.idxOf L[j]<L.length:=Hm hm
   exact h.inj h1 hj (Ud h1)
  refine ⟨by omega,?_,?_⟩
  ·simp only [hs];exact gj
  ·unfold gU
   rw [Ab hm,hx]
   simp only [hs];exact ep.symm
 ·right
  refine ⟨by unfold gU;rw [Ai hm],λhk e=>hm ?_⟩
  have hi:=h.idx hk
  rw [Wu (by omega)] at e
  rw [<-e]
  exact Am _
theorem Aas (Nv:List Int) (k:Nat) (x:Int):(Yb Nv k x).Perm (x::Nv):=by
 unfold Yb
 refine List.perm_middle.trans (List.Perm.cons x ?_)
 rw [Jc]
theorem Ha.add {m:Nat} {L:List (List Int)} {Nv s:List Int} (h:Ha m L Nv) (hn:s∉L) (hl:s.length=m) (hr:L.length<3000):Ha m (L++ [s]) (Yb Nv (Hl L Nv s) L.length):=by
 have FO: ∀i∈Nv,(L++ [s]).getD i.toNat []=L.getD i.toNat []:= λi hi=>by
  have:=Mr.1 (h.perm.mem_iff.1 hi)
  rw [Ak,Ak,At (by omega)]
 have An0:(L++ [s]).getD ((L.length:Int)).toNat []=s:=by
  rw [Ae,Ak,As (by omega),Nat.sub_self];rfl
 refine ⟨by rw [Aw,Bq];omega,λx hx=>?_,h.short,?_,?_⟩
 ·rcases Ba.1 hx with hx|hx
  ·exact h.len x hx
  ·rw [Ad.1 hx];exact hl
 ·refine (Aas _ _ _).trans ?_
  rw [Aw,Bq,bI]
  exact (List.Perm.cons _ h.perm).trans (List.perm_append_singleton _ _).symm
 ·unfold Yb
  have hs:=h.sorted
  rw [<-Jc (Hl L Nv s) Nv] at hs
  obtain ⟨s1,s2,s3⟩:=dV.1 hs
  have mt: ∀i∈Nv.take (Hl L Nv s),i∈Nv/\fJ (L.getD i.toNat []) s=true:= λi hi=>by
   obtain ⟨k,hk,rfl⟩:=Bg.1 hi
   have hk2:k<Hl L Nv s:=by rw [Dm] at hk;omega
   have hk3:k<Nv.length:=by rw [Dm] at hk;omega
   rw [List.getElem_take]
   exact ⟨Am _,(h.eS s hk3).1 hk2⟩
  have md: ∀i∈Nv.drop (Hl L Nv s),i∈Nv/\fJ s (L.getD i.toNat [])=true:= λi hi=>by
   obtain ⟨k,hk,rfl⟩:=Bg.1 hi
   rw [Zl] at hk
   have hk3:Hl L Nv s+k<Nv.length:=by omega
   rw [List.getElem_drop]
   refine ⟨Am _,Ab5 ?_ λe=>hn ?_⟩
   ·exact Bool.eq_false_iff.2 λhh=>by
     have:=(h.eS s hk3).2 hh
     omega
   ·have hi:=h.idx hk3
    rw [Wu (by omega)] at e
    rw [<-e];exact Am _
  refine dV.2 ⟨s1.imp_of_mem λ {a b} ha hb FT=>?_,List.pairwise_cons.2 ⟨λb hb=>?_,s2.imp_of_mem λ {a b} ha hb FT=>?_⟩,λa ha b hb=>?_⟩
  ·rw [FO a (mt a ha).1,FO b (mt b hb).1];exact FT
  ·rw [An0,FO b (md b hb).1];exact (md b hb).2
  ·rw [FO a (md a ha).1,FO b (md b hb).1];exact FT
  ·rcases Bb.1 hb with rfl|hb
   ·rw [An0,FO a (mt a ha).1];exact (mt a ha).2
   ·rw [FO a (mt a ha).1,FO b (md b hb).1];exact s3 a ha b hb
theorem gl (L:List (List Int)) (s:List Int):cA (L++ [s])=Yb (cA L) (Hl L (cA L) s) L.length:=by
 unfold cA
 rw [Aw,Bq,List.range_succ,List.foldl_append]
 have e: ∀(is:List Nat) (S:List Int),(∀i∈is,i<L.length)->is.foldl (λ(S:List Int) (i:Nat)=>Yb S (Hl ((L++ [s]).take i) S ((L++ [s]).getD i [])) (i:Int)) S=is.foldl (λ(S:List Int) (i:Nat)=>Yb S (Hl (L.take i) S (L.getD i [])) (i:Int)) S:=by
  intro is
  induction is with
  |nil=>intro S _;rfl
  |cons i is ih=>
   intro S h
   have hi:=h i (by simp)
   rw [Rw,Rw,ih _ λj hj=>h j (Ap _ hj)]
   congr 2
   rw [List.take_append_of_le_length (by omega),Ak,At hi,<-Ak]
 rw [e _ _ λi hi=>Ff.1 hi]
 simp only [Rw,List.foldl_nil]
 congr 2
 ·rw [List.take_append_of_le_length (Aq _),Be]
 ·rw [Ak,As (by omega),Nat.sub_self];rfl
theorem oD {m:Nat} (h:m<=20):Ha m [] []:=⟨by simp,λx hx=>(by cases hx),h,by simp [upto],List.Pairwise.nil⟩
theorem Aaq {α:Type} {xs:List α} {y:Int} (h0:0<=y) (h:y.toNat<xs.length):idx xs y=some xs[y.toNat]:=by
 unfold idx
 rw [Ab h0,Ac h]
theorem Al6 (f:SS) (s:List Int) (h:Ha s.length f.1 f.2.2.1):fnW Fl (look [(166,Zd)]) gh Tryz.f129 (f,s,()) (λ(z:Int)=>z=(Hl f.1 f.2.2.1 s:Int)):=by
 obtain ⟨L,D,Nv,b,⟨⟩⟩:=f
 dsimp only at h⊢
 have hle:=TC L Nv s
 have nd:=h.u9
 have wa:=h.p8
 refine Eq.mp (Aly (L,D,Nv,b,()) s _) ?_
 refine Dn.mk (λv=>v.2.2.1=L/\v.2.2.2.2.1=Nv/\ ∃lo hi:Nat,v.1=lo/\v.2.1=hi/\lo<=hi/\hi<=Nv.length/\lo<=Hl L Nv s/\Hl L Nv s<=hi) (λv=>(v.2.1-v.1).toNat)
  ⟨rfl,rfl,0,Nv.length,rfl,rfl,by omega,by omega,by omega,hle⟩ ?_
 rintro ⟨lo',gM,L',D',XC,b',⟨⟩⟩ ⟨h1,h2,lo,hi,h3,h4,h5,h6,h7,h8⟩
 dsimp only at h1 h2 h3 h4⊢
 subst h1 h2 h3 h4
 refine Br.dec (λhl=>?_) λhl=>?_
 ·have em:IntKind.i64.wrap ((IntKind.i64.wrap ((lo:Int)+(hi:Int))).tdiv 2)=(((lo+hi)/2:Nat):Int):=by
   rw [Ct (n:=(lo:Int)+(hi:Int)) (by omega) (by omega),Int.tdiv_eq_ediv_of_nonneg (by omega),Ct (by omega) (by omega)]
   omega
  rw [em]
  have hm1:(lo+hi)/2<XC.length:=by omega
  have hi1:=h.idx hm1
  have hi2:XC[(lo+hi)/2].toNat<L'.length:=by omega
  have wb:=Wu hi2
  have hlen:=h.len _ (Am hi2)
  have YP:short L'[XC[(lo+hi)/2].toNat]:=by
   unfold short
   have:=h.short;omega
  refine ⟨by decide,_,Bn hm1,_,Aaq hi1.1 hi2,_,Ab ⟨YP,hlen⟩,⟨λhc=>?_,λhc=>?_⟩⟩
  ·have hc:fJ L'[XC[(lo+hi)/2].toNat] s=true:=hc
   have hs:=(h.eS s hm1).2 (by rw [wb];exact hc)
   rw [Bj (by omega)]
   exact ⟨⟨rfl,rfl,(lo+hi)/2+1,hi,rfl,rfl,by omega,h6,by omega,h8⟩,by omega⟩
  ·have hc:fJ L'[XC[(lo+hi)/2].toNat] s=false:=hc
   have hs: ¬(lo+hi)/2<Hl L' XC s:= λhh=>by
    have:=(h.eS s hm1).1 hh
    rw [wb,hc] at this;cases this
   exact ⟨⟨rfl,rfl,lo,(lo+hi)/2,rfl,rfl,by omega,by omega,h7,by omega⟩,by omega⟩
 ·show (lo:Int)=_
  omega
theorem vz:Sound Tryz.prog 129 gh:=
 Sound.Gk Dl (Au vu Bl) mixed Tryz.func129 (by kernel_rfl) (by kernel_rfl) λx h=>Al6 x.1 x.2.1 h
theorem Abv (f:SS) (s:List Int) (h:Ha s.length f.1 f.2.2.1):fnW Fl (look [(129,gh),(128,Wc)]) Rd Tryz.f75 (f,s,()) (λ(z:Int)=>z=gU f.1 s):=by
 obtain ⟨L,D,Nv,b,⟨⟩⟩:=f
 dsimp only at h⊢
 refine Eq.mp (Adi (L,D,Nv,b,()) s _) ⟨_,Ab h,Br.dec (λhl=>?_) λhl=>?_⟩
 ·have hl:Hl L Nv s<Nv.length:=by
   have hl:((Hl L Nv s:Nat):Int)<(Nv.length:Int):=hl
   omega
  have hi1:=h.idx hl
  have hi2:Nv[Hl L Nv s].toNat<L.length:=by omega
  have wb:=Wu hi2
  have hlen:=h.len _ (Am hi2)
  have YP:short L[Nv[Hl L Nv s].toNat]:=by
   unfold short
   have:=h.short;omega
  refine ⟨_,Bn hl,_,Aaq hi1.1 hi2,_,Ab YP,⟨λhc=>⟨_,Bn hl,?_⟩,λhc=>?_⟩⟩
  ·have hc:L[Nv[Hl L Nv s].toNat]=s:=Hr hc
   rcases h.zg (s:=s) with ⟨hk,_,e⟩|⟨_,Jd⟩
   ·exact e.symm
   ·exact absurd (by rw [wb];exact hc) (Jd hl)
  ·have hc: ¬L[Nv[Hl L Nv s].toNat]=s:=of_decide_eq_false hc
   rcases h.zg (s:=s) with ⟨hk,e,_⟩|⟨e,_⟩
   ·rw [wb] at e;exact absurd e hc
   ·exact e.symm
 ·have hl: ¬Hl L Nv s<Nv.length:=by
   have hl: ¬((Hl L Nv s:Nat):Int)<(Nv.length:Int):=hl
   omega
  rcases h.zg (s:=s) with ⟨hk,e,_⟩|⟨e,_⟩
  ·exact absurd hk hl
  ·exact e.symm
theorem gk:Sound Tryz.prog 75 Rd:=
 Sound.Gk Dl (Au vz (Au rZ Bl)) mixed Tryz.func75 (by kernel_rfl) (by kernel_rfl) λx h=>Abv x.1 x.2.1 h
theorem MO {S:List Int} {k:Nat} (h:k<=S.length) (n:Int):
  (Dt (S++ [0]) (k+1) (List.take ((S++ [0]).length-(k+1)) (List.take ((S++ [0]).length-k) (List.drop k (S++ [0]))))).set k n=Yb S k n:=by
 obtain ⟨A,B,rfl,hA⟩: ∃A B,S=A++B/\A.length=k:=⟨S.take k,S.drop k,(Jc k S).symm,by rw [Dm];omega⟩
 subst hA
 have e1:List.drop A.length (A++B++ [0])=B++ [0]:=by rw [Bm,List.drop_left]
 have e2:List.take ((A++B++ [0]).length-A.length) (B++ [0])=B++ [0]:=Ta (by simp only [Aw,Bq];omega)
 have e3:List.take ((A++B++ [0]).length-(A.length+1)) (B++ [0])=B:=by
  have:(A++B++ [(0:Int)]).length-(A.length+1)=B.length:=by simp only [Aw,Bq];omega
  rw [this,List.take_left]
 rw [e1,e2,e3]
 unfold Dt Yb
 have e4:List.drop (A.length+1+B.length) (A++B++ [0])= []:=List.drop_eq_nil_of_le (by simp only [Aw,Bq];omega)
 obtain ⟨c,hc⟩: ∃c,List.take (A.length+1) (A++B++ [0])=A++ [c]:=by
  rw [Bm,List.take_append,Ta (by omega)]
  cases B with
  |nil=>exact ⟨0,by simp⟩
  |cons b B=>exact ⟨b,by simp⟩
 rw [e4,hc,iH,Bm,List.singleton_append,Age,List.take_left,List.drop_left]
theorem Al4 (L:List (List Int)) (D S:List Int) (b:Bool) (s:List Int) (d:Int) (h:Ha s.length L S/\D.length<=3000):
  fnMW aJ (look [(129,gh)]) mL Tryz.f164 (L,D,S,b,s,d,()) (λ(z:(List (List Int)×List Int×List Int×Bool×Unit)×Unit)=>z=((L++ [s],D++ [d],Yb S (Hl L S s) L.length,b,()),())):=by
 obtain ⟨h,hD⟩:=h
 have hle:=TC L S s
 have nd:=h.u9
 have wa:=h.p8
 refine Eq.mp (Alw L D S b s d _) ?_
 rw [Dj L,Dj D,Dj S]
 refine ⟨_,Ab h,?_⟩
 dsimp only
 have es:List.take 1 (List.drop 0 [(0:Int)])= [0]:=rfl
 have el:(S++ [(0:Int)]).length=S.length+1:=by simp
 rw [es,Bj (by omega),Bt,Bt,Ae,Ae,Ae]
 refine ⟨rfl,rfl,by show S.length+1<=4294967296;omega,⟨by omega,by omega,by omega⟩,⟨by omega,by omega,by omega⟩,⟨by omega,by omega⟩,?_,rfl,rfl,by show L.length+1<=4294967296;omega,rfl,rfl,by show D.length+1<=4294967296;omega,?_⟩
 ·unfold Dt
  simp only [Aw,Dm,Zl,Bq]
  omega
 ·rw [MO hle,Dj,Dj]
  have e5:List.take (S++ [(0:Int)]).length (List.drop 0 (Yb S (Hl L S s) (L.length:Int)))=Yb S (Hl L S s) (L.length:Int):=by
   rw [Dr,Ta]
   unfold Yb
   simp only [Aw,Ay,Dm,Zl,Gp]
   omega
  rw [e5]
  rfl
theorem PC:Eu Tryz.prog 164 mL:=
 Eu.vV Zh (Au vz Bl) mixed Tryz.func164 (by kernel_rfl) (by kernel_rfl) λx h=>Al4 x.1 x.2.1 x.2.2.1 x.2.2.2.1 x.2.2.2.2.1 x.2.2.2.2.2.1 h
structure Wn (p:PP) (m:Nat) (L:List (List Int)) (D:List Int):Prop where
 ok:Ha m L (cA L)
 len:D.length=L.length
 row: ∀x∈L,∀y∈x,0<=y/\y<p.1
 dep: ∀j (h:j<D.length),0<=D[j]/\D[j]<=j
theorem AO {p:PP} (hv:Valid p) {x:List Int} {l:Int} (hx: ∀y∈x,0<=y/\y<p.1) (hl:Hj (List.length p.2.2.1) l):
  (Aj x (Ax p.2.2.1 l)).length=x.length/\ ∀y∈Aj x (Ax p.2.2.1 l),0<=y/\y<p.1:=by
 obtain ⟨h1,h2⟩:=pN hv hl
 refine ⟨Sn _ _,λy hy=>?_⟩
 have:=ET (n:=(Ax p.2.2.1 l).length) (λz hz=>by have:=hx z hz;omega) h2 y hy
 omega
theorem Wn.add {p:PP} {m:Nat} {L:List (List Int)} {D:List Int} (h:Wn p m L D) {y:List Int} {d:Int} (hn:y∉L) (hl:y.length=m) (hr:L.length<3000) (hy: ∀z∈y,0<=z/\z<p.1) (hd:0<=d/\d<=L.length):Wn p m (L++ [y]) (D++ [d]):=by
 have hlen:=h.len
 refine ⟨by rw [gl];exact h.ok.add hn hl hr,by simp [hlen],λx hx=>?_,λj hj=>?_⟩
 ·rcases Ba.1 hx with hx|hx
  ·exact h.row x hx
  ·rw [Ad.1 hx];exact hy
 ·by_cases e:j<D.length
  ·rw [Xq e];exact h.dep j e
  ·simp only [Aw,Bq] at hj
   have:j=D.length:=by omega
   subst this
   rw [List.getElem_append_right (by omega)]
   simp only [Nat.sub_self,List.getElem_cons_zero]
   omega
theorem km {p:PP} {s:List Int} (hs:s.length<=20) (hr: ∀y∈s,0<=y/\y<p.1):Wn p s.length [s] [0]:=by
 refine ⟨?_,rfl,λx hx=>by rw [Ad.1 hx];exact hr,λj hj=>?_⟩
 ·have:=(oD hs).add (s:=s) (by simp) rfl (by simp)
  have e:cA [s]=Yb [] (Hl [] [] s) 0:=gl [] s
  rw [e];exact this
 ·simp only [Bq] at hj
  have:j=0:=by omega
  subst this
  simp
theorem yd {L:List (List Int)} {s:List Int} :gU L s>=0↔s∈L:=by
 unfold gU
 split
 ·rename_i h;exact ⟨λ_=>h,λ_=>by omega⟩
 ·rename_i h;exact ⟨λhh=>by omega,λhh=>absurd hh h⟩
theorem Ag7 (p:PP) (s:List Int) (h:Ca p=true/\s.length<=20/\ ∀y∈s,0<=y/\y<p.1):fnW All (look [(68,Qr),(164,mL),(65,Wd),(66,Xi),(75,Rd)]) Ik Tryz.f126 (p,s,()) (λ(z:SS)=>z=Nn p.2.2.1 s):=by
 obtain ⟨hv,hs,hr⟩:=h
 have hV:=valid hv
 have wa:=hV.p8
 have hb0:=km hs hr
 have YP:short s:=by unfold short;omega
 obtain ⟨ls,xL⟩: ∃ls,Az (List.length p.2.2.1)=ls:=⟨_,rfl⟩
 refine Eq.mp (Ah2 p s _) ⟨_,Ab YP,_,Ab ⟨oD hs,by show 0<=3000;omega⟩,ls,(Ab (by show List.length p.2.2.1<=8;exact wa.2)).trans (Et some xL),rfl,rfl,rfl,rfl,rfl,rfl,rfl,rfl,rfl,rfl,rfl,rfl,?_⟩
 have e0:Yb [] (Hl [] [] s) ((([]:List (List Int)).length:Nat):Int)=cA [s]:=(gl [] s).symm
 show Dn _ ((0:Int),p.1,p.2.1,p.2.2.1,false,false,[],[],[],[s],[(0:Int)],Yb [] (Hl [] [] s) ((([]:List (List Int)).length:Nat):Int),PUnit.unit)
 rw [e0]
 have hll:ls.length<=16:=by rw [<-xL,Rj];omega
 have tR: ∀l∈ls,Hj (List.length p.2.2.1) l:= λl hl=>Ou (xL▸hl)
 have MJ:Lo p.2.2.1 ls 3001 0 [s] [0]=Ie p.2.2.1 s:=by unfold Ie;rw [xL]
 refine Dn.mk (λv=>v.2.1=p.1/\v.2.2.1=p.2.1/\v.2.2.2.1=p.2.2.1/\v.2.2.2.2.2.1=false/\ ∃k:Nat,v.1=k/\k<=v.2.2.2.2.2.2.2.2.2.1.length/\
   Wn p s.length v.2.2.2.2.2.2.2.2.2.1 v.2.2.2.2.2.2.2.2.2.2.1/\v.2.2.2.2.2.2.2.2.2.2.2.1=cA v.2.2.2.2.2.2.2.2.2.1/\
   Lo p.2.2.1 ls (3001-k) k v.2.2.2.2.2.2.2.2.2.1 v.2.2.2.2.2.2.2.2.2.2.1=Ie p.2.2.1 s) (λv=>3001-v.1.toNat)
  ⟨rfl,rfl,rfl,rfl,0,rfl,by simp,hb0,rfl,MJ⟩ ?_
 rintro ⟨k',n1,n2,n3,b0,wh,x1,x2,x3,L0,D0,S0,⟨⟩⟩ ⟨h1,h2,h3,h4,k,h5,h6,h7,h8,h9⟩
 dsimp only at h1 h2 h3 h4 h5 h6 h7 h8 h9
 subst h1 h2 h3 h4 h5 h8
 dsimp only
 have hL0:=h7.ok.p8
 have hD0:=h7.len
 refine Br.dec (λhl=>⟨rfl,rfl,rfl,rfl,rfl,rfl,rfl,rfl,rfl,rfl,rfl,rfl,?_⟩) λhl=>?_
 ·have hk:k<L0.length:=by omega
  have UJ:k<D0.length:=by omega
  have hx: ∀y∈L0[k],0<=y/\y<p.1:=h7.row _ (Am hk)
  have hxl:L0[k].length=s.length:=h7.ok.len _ (Am hk)
  have hdk:=h7.dep k UJ
  obtain ⟨f,hf⟩: ∃f,3001-k=f+1:=⟨3000-k,by omega⟩
  have tG: ∀L' D' ok,Iy p.2.2.1 L0[k] D0[k] ls L0 D0=(L',D',ok)->Ie p.2.2.1 s=if ok=true then Lo p.2.2.1 ls f (k+1) L' D' else (L',D',false):=by
   intro L' D' ok he
   rw [<-h9,hf,Lo,Ab hk,Wu hk,Ak,Ac UJ]
   simp only [Df]
   rw [he]
   cases ok<;>rfl
  refine Dn.mk (λv=>v.2.1=p.1/\v.2.2.1=p.2.1/\v.2.2.2.1=p.2.2.1/\v.2.2.2.2.2.1=false/\ ∃i:Nat,v.1=i/\i<=ls.length/\Wn p s.length v.2.2.2.2.2.2.2.2.2.1 v.2.2.2.2.2.2.2.2.2.2.1/\
    v.2.2.2.2.2.2.2.2.2.2.2.1=cA v.2.2.2.2.2.2.2.2.2.1/\(∃A,v.2.2.2.2.2.2.2.2.2.1=L0++A)/\(∃A,v.2.2.2.2.2.2.2.2.2.2.1=D0++A)/\
    Iy p.2.2.1 L0[k] D0[k] (ls.drop i) v.2.2.2.2.2.2.2.2.2.1 v.2.2.2.2.2.2.2.2.2.2.1=Iy p.2.2.1 L0[k] D0[k] ls L0 D0) (λv=>ls.length-v.1.toNat)
   ⟨rfl,rfl,rfl,rfl,0,rfl,Mc _,h7,rfl,⟨[],by simp⟩,⟨[],by simp⟩,rfl⟩ ?_
  rintro ⟨i',m1,m2,m3,b1,wh1,y1,y2,y3,L,D,S,⟨⟩⟩ ⟨g1,g2,g3,g4,i,g5,g6,g7,g8,⟨A,g9⟩,⟨A',g10⟩,YJ⟩
  dsimp only at g1 g2 g3 g4 g5 g6 g7 g8 g9 g10 YJ
  subst g1 g2 g3 g4 g5 g8
  dsimp only
  have hLf:=g7.ok.p8
  have hDl:=g7.len
  rw [Dj L,Dj D,Dj (cA L)]
  refine Br.dec (λhli=>?_) λhli=>?_
  ·have hi:i<ls.length:=by omega
   have hkL:k<L.length:=by rw [g9,Aw];omega
   have hLk:L[k]=L0[k]:=by simp only [g9];exact Xq hk
   have Ajv:k<D.length:=by rw [hDl];exact hkL
   have hDk:D[k]=D0[k]:=by simp only [g10];exact Xq UJ
   have nY:=tR _ (Am hi)
   obtain ⟨nl,nr⟩:=AO hV hx nY
   rw [Cc hi] at YJ
   simp only [Iy] at YJ
   refine ⟨⟨by omega,by omega⟩,L0[k],by rw [Ae,Bt,Ac hkL,hLk],_,Bn hi,_,Ab ⟨hv,by show L0[k].length<=20;omega,hx,nY⟩,?_⟩
   dsimp only
   have hyl:(Aj L0[k] (Ax p.2.2.1 ls[i])).length=s.length:=by rw [nl,hxl]
   refine ⟨_,Ab (by show Ha (Aj L0[k] (Ax p.2.2.1 ls[i])).length L (cA L);rw [hyl];exact g7.ok),Br.dec (λVv=>?_) λVv=>?_⟩
   ·have Vv:Aj L0[k] (Ax p.2.2.1 ls[i])∈L:=yd.1 Vv
    rw [Ab Vv] at YJ
    rw [Bj (by omega)]
    exact ⟨rfl,rfl,rfl,rfl,rfl,rfl,rfl,rfl,rfl,rfl,rfl,rfl,⟨rfl,rfl,rfl,rfl,i+1,rfl,hi,g7,rfl,⟨A,g9⟩,⟨A',g10⟩,YJ⟩,by omega⟩
   ·have Vv:Aj L0[k] (Ax p.2.2.1 ls[i])∉L:= λhh=>Vv (yd.2 hh)
    rw [Ai Vv] at YJ
    refine ⟨λgL=>?_,λgL=>⟨⟨by omega,by omega⟩,D0[k],by rw [Ae,Bt,Ac Ajv,hDk],rfl,rfl,rfl,rfl,rfl,rfl,?_⟩⟩
    ·have gL:L.length=3000:=by
      have:(L.length:Int)=3000:=by simpa using gL
      omega
     rw [Ab gL] at YJ
     have:=tG _ _ _ YJ.symm
     rw [Ai (by decide)] at this
     unfold Nn
     rw [this]
    ·have gL:L.length≠3000:=by
      have:(L.length:Int)≠3000:=by simpa using gL
      omega
     rw [Ai gL] at YJ
     rw [Ct (n:=D0[k]+1) (by omega) (by omega)]
     refine ⟨_,Ab ⟨by show Ha (Aj L0[k] (Ax p.2.2.1 ls[i])).length L (cA L);rw [hyl];exact g7.ok,by show D.length<=3000;omega⟩,?_⟩
     dsimp only
     rw [Bj (by omega),<-gl]
     refine ⟨rfl,rfl,rfl,rfl,rfl,rfl,rfl,rfl,rfl,rfl,rfl,rfl,⟨rfl,rfl,rfl,rfl,i+1,rfl,hi,g7.add Vv hyl (by omega) nr ⟨by omega,by omega⟩,rfl,⟨A++ [Aj L0[k] (Ax p.2.2.1 ls[i])],by rw [g9,Bm]⟩,⟨A'++ [D0[k]+1],by rw [g10,Bm]⟩,YJ⟩,by omega⟩
  ·have:i=ls.length:=by omega
   subst this
   rw [Fe,Iy] at YJ
   have:=tG _ _ _ YJ.symm
   rw [Ab rfl] at this
   rw [Bj (by omega)]
   refine ⟨rfl,rfl,rfl,rfl,rfl,rfl,rfl,rfl,rfl,rfl,rfl,rfl,⟨rfl,rfl,rfl,rfl,k+1,rfl,by rw [g9,Aw];omega,g7,rfl,?_⟩,by omega⟩
   rw [show 3001-(k+1)=f by omega]
   exact this.symm
 ·have hk:k=L0.length:=by omega
  rw [Dj L0,Dj D0,Dj (cA L0)]
  obtain ⟨f,hf⟩: ∃f,3001-k=f+1:=⟨3000-k,by omega⟩
  rw [hf,Lo,Ai (by omega)] at h9
  unfold Nn
  rw [<-h9]
theorem IZ:Sound Tryz.prog 126 Ik:=
 Sound.Gk Alm (Au jO (Ic PC (Au s8 (Au oG (Au gk Bl))))) mixed Tryz.func126 (by kernel_rfl) (by kernel_rfl) λx h=>Ag7 x.1 x.2.1 h
noncomputable def Gd (p:PP) (t:List Int):Bool:=Ca p&&Ey p.1 t
noncomputable def SP (p:PP) (t:List Int):Bool:=Gd p t&&(Ie p.2.2.1 t).2.2
noncomputable def Afr (p:PP) (t:List Int):TT:=if SP p t=true then (t,(Ie p.2.2.1 t).1,(Ie p.2.2.1 t).2.1,()) else ([],[],[],())
noncomputable def ue (p:PP) (t:TT):Bool:=SP p t.1&&Aps (Afr p t.1) t
def Agg (ts:List TT):Prop:=ts.length<=4294967296/\ ∀t∈ts,Ald t
noncomputable def ud (p:PP) (ts:List TT):Bool:=Ca p&&decide (ts.length<=4)&&List.all ts (ue p)
theorem nv {p:PP} (hV:Valid p) {m:Nat} {x:List Int} {d:Int} (hx: ∀y∈x,0<=y/\y<p.1) (hxl:x.length=m): ∀(ls:List Int) (L:List (List Int)) (D:List Int),(∀l∈ls,Hj (List.length p.2.2.1) l)->
  Wn p m L D->(0<=d/\d<L.length)->Wn p m (Iy p.2.2.1 x d ls L D).1 (Iy p.2.2.1 x d ls L D).2.1/\(∃A,(Iy p.2.2.1 x d ls L D).1=L++A)/\(∃A,(Iy p.2.2.1 x d ls L D).2.1=D++A)
 | [],L,D,_,h,_=>⟨h,⟨[],by simp [Iy]⟩,⟨[],by simp [Iy]⟩⟩
 |l::ls,L,D,hl,h,hd=>by
  obtain ⟨n1,n2⟩:=AO hV hx (hl l (by simp))
  have Lq: ∀l∈ls,Hj (List.length p.2.2.1) l:= λl' h'=>hl l' (Ap _ h')
  simp only [Iy]
  split
  ·exact nv hV hx hxl ls L D Lq h hd
  ·rename_i hn
   split
   ·exact ⟨h,⟨[],by simp⟩,⟨[],by simp⟩⟩
   ·rename_i hf
    have wa:=h.ok.p8
    obtain ⟨k1,⟨A,k2⟩,⟨A',k3⟩⟩:=nv hV hx hxl ls (L++ [Aj x (Ax p.2.2.1 l)]) (D++ [d+1]) Lq (h.add hn (by rw [n1,hxl]) (by omega) n2 ⟨by omega,by omega⟩) ⟨hd.1,by rw [Aw];omega⟩
    exact ⟨k1,⟨_::A,by rw [k2,Bm];rfl⟩,⟨_::A',by rw [k3,Bm];rfl⟩⟩
theorem EL {p:PP} (hV:Valid p) {m:Nat} {ls:List Int} (hl: ∀l∈ls,Hj (List.length p.2.2.1) l): ∀(f k:Nat) (L:List (List Int)) (D:List Int),Wn p m L D->
  Wn p m (Lo p.2.2.1 ls f k L D).1 (Lo p.2.2.1 ls f k L D).2.1/\(∃A,(Lo p.2.2.1 ls f k L D).1=L++A)
 |0,k,L,D,h=>⟨h,⟨[],by simp [Lo]⟩⟩
 |f+1,k,L,D,h=>by
  simp only [Lo]
  split
  ·rename_i hk
   have UJ:k<D.length:=by rw [h.len];exact hk
   have hd:=h.dep k UJ
   have e:D.getD k 0=D[k]:=by rw [Ak,Ac UJ];rfl
   rw [Wu hk,e]
   obtain ⟨k1,⟨A,k2⟩,_⟩:=nv hV (h.row _ (Am hk)) (h.ok.len _ (Am hk)) (d:=D[k]) ls L D hl h ⟨by omega,by omega⟩
   split
   ·rename_i L' D' he
    rw [he] at k1 k2
    obtain ⟨g1,⟨B,g2⟩⟩:=EL hV hl f (k+1) L' D' k1
    have k2:L'=L++A:=k2
    exact ⟨g1,⟨A++B,by rw [g2,k2,Bm]⟩⟩
   ·rename_i L' D' he
    rw [he] at k1 k2
    exact ⟨k1,⟨A,k2⟩⟩
  ·exact ⟨h,⟨[],by simp⟩⟩
theorem zi {p:PP} {s:List Int} (hv:Ca p=true) (hs:s.length<=20) (hr: ∀y∈s,0<=y/\y<p.1):Wn p s.length (Ie p.2.2.1 s).1 (Ie p.2.2.1 s).2.1/\ ∃A,(Ie p.2.2.1 s).1=s::A:=
 EL (valid hv) (λ_ hl=>Ou hl) _ _ _ _ (km hs hr)
theorem Jo {p:PP} {t:List Int} :Gd p t=true↔Ca p=true/\Ey p.1 t=true:=by
 unfold Gd;rw [Ah]
theorem Lb {p:PP} {t:List Int} (h:Gd p t=true):t.length<=20/\ ∀y∈t,0<=y/\y<p.1:=by
 obtain ⟨h1,h2⟩:=Jo.1 h
 have hn:=(valid h1).n
 obtain ⟨h3,h4⟩:=Jg.1 h2
 have hy: ∀y∈t,0<=y/\y<p.1:= λy hy=>by
  obtain ⟨j,hj,rfl⟩:=Bg.1 hy
  have:=h4 j hj hj
  omega
 refine ⟨?_,hy⟩
 have h5:=NZ h4 (t.length-1) (by omega)
 have h6:=hy _ (Am (show t.length-1<t.length by omega))
 omega
theorem BE {p:PP} {t:List Int} (h:Gd p t=true):Wn p t.length (Ie p.2.2.1 t).1 (Ie p.2.2.1 t).2.1:=(zi (Jo.1 h).1 (Lb h).1 (Lb h).2).1
def KR (m:ByteArray->Option Bool) (L:List (List Int)):Prop:= ∀q,Xy q->(m (Tp q)).getD false=decide (q∈L)
theorem KR.add {m:ByteArray->Option Bool} {L:List (List Int)} {y:List Int} (h:KR m L) (hy:Xy y):KR (gx m (Tp y) true) (L++ [y]):=by
 intro q hq
 unfold gx
 by_cases e:q=y
 ·subst e
  rw [Ab rfl];simp
 ·rw [Ai λhk=>e (key_inj hq hy hk),h q hq]
  simp [e]
end Go.Proofs.YtkkdpknjohcekaaGreat
