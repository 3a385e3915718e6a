/-
  Part 38 of the proof that the statement FnPatterns holds.
-/
import Derived.Test.YtkkdpknjohcekaaGreatCFPatterns36
import Derived.KernelRfl
namespace Go.Proofs.YtkkdpknjohcekaaGreat
open Go.RowKit
def Ml (x a b:Int):Bool:=decide (a<=x/\x<=b)
def kd (n x:Int):Bool:=decide (0<=x/\x<=IntKind.i64.wrap (n-1))
def Me (a b:List Int):Bool:=decide (a=b)
def dy (xs:List Int) (x:Int):Bool:=decide (x∈xs)
def short (xs:List Int):Prop:=xs.length<=4294967296
noncomputable abbrev Cr:Spec:=Gt (.pair tI (.pair tI (.pair tI .unit))) .bool false true (λ_=>True) (λx=>Ml x.1 x.2.1 x.2.2.1)
noncomputable abbrev Sp:Spec:=Gt (.pair tI (.pair tI .unit)) .bool false true (λ_=>True) (λx=>kd x.1 x.2.1)
noncomputable abbrev Ik:Spec:=Gt (.pair tL (.pair tL .unit)) .bool false true (λx=>short x.1) (λx=>Me x.1 x.2.1)
noncomputable abbrev Io:Spec:=Gt (.pair tL (.pair tI .unit)) .bool false true (λx=>short x.1) (λx=>dy x.1 x.2.1)
theorem XI (x a b:Int) (P:Bool->Prop):(Br (decide (x>=a)) (P (decide (x<=b))) (P false))=fnW Gb (look []) Cr Tryz.f95 (x,a,b,()) P:=by kernel_rfl
theorem Ad9 (x a b:Int) (P:Bool->Prop):(Br (decide (x>=a)) (P (decide (x<=b))) (P false))=fnW Gb (look []) Cr Tryz.f100 (x,a,b,()) P:=by kernel_rfl
theorem XL (n x:Int) (P:Bool->Prop):(∃(y3:Bool),Cr.fn (x,0,IntKind.i64.wrap (n-1),())=some y3/\P y3)=fnW Gb (look [(100,Cr)]) Sp Tryz.f136 (n,x,()) P:=by kernel_rfl
theorem JJ (a b:List Int) (P:Bool->Prop):(Br ((↑a.length:Int) !=(↑b.length:Int)) (P false) (Dm (λ(v3:Int×PUnit) (k4:Int×PUnit->Prop)=>Br (decide (v3.1<(↑a.length:Int))) (∃(y5:Int),idx a v3.1=some y5/\ ∃(y6:Int),idx b v3.1=some y6/\Br (y5 !=y6) (P false) (k4 (IntKind.i64.wrap (v3.1+1),()))) (P true)) (0,PUnit.unit)))=fnW Gb (look []) Ik Tryz.f128 (a,b,()) P:=by kernel_rfl
theorem x9 (a b:List Int) (P:Bool->Prop):(Br ((↑a.length:Int) !=(↑b.length:Int)) (P false) (Dm (λ(v3:Int×PUnit) (k4:Int×PUnit->Prop)=>Br (decide (v3.1<(↑a.length:Int))) (∃(y5:Int),idx a v3.1=some y5/\ ∃(y6:Int),idx b v3.1=some y6/\Br (y5 !=y6) (P false) (k4 (IntKind.i64.wrap (v3.1+1),()))) (P true)) (0,PUnit.unit)))=fnW Gb (look []) Ik Tryz.f93 (a,b,()) P:=by kernel_rfl
theorem x4 (xs:List Int) (x:Int) (P:Bool->Prop):(Dm (λ(v3:Int×PUnit) (k4:Int×PUnit->Prop)=>Br (decide (v3.1<(↑xs.length:Int))) (∃(y5:Int),idx xs v3.1=some y5/\Br (y5==x) (P true) (k4 (IntKind.i64.wrap (v3.1+1),()))) (P false)) (0,PUnit.unit))=fnW Gb (look []) Io Tryz.f175 (xs,x,()) P:=by kernel_rfl
theorem VD (x a b:Int) (_:True):fnW Gb (look []) Cr Tryz.f95 (x,a,b,()) (λ(z:Bool)=>z=Ml x a b):=by
 refine Eq.mp (XI x a b _) ?_
 refine Br.dec (λh=>?_) λh=>?_
 ·have h:a<=x:=h
  simp [Ml,h]
 ·exact (Ft λhh=>h hh.1).symm
theorem Qv:Sound Tryz.prog 95 Cr:=
 Sound.Gt Dt Bp mixed Tryz.func95 (by kernel_rfl) (by kernel_rfl) λx h=>VD x.1 x.2.1 x.2.2.1 h
theorem Abj (x a b:Int) (_:True):fnW Gb (look []) Cr Tryz.f100 (x,a,b,()) (λ(z:Bool)=>z=Ml x a b):=by
 refine Eq.mp (Ad9 x a b _) ?_
 refine Br.dec (λh=>?_) λh=>?_
 ·have h:a<=x:=h
  simp [Ml,h]
 ·exact (Ft λhh=>h hh.1).symm
theorem Su:Sound Tryz.prog 100 Cr:=
 Sound.Gt Dt Bp mixed Tryz.func100 (by kernel_rfl) (by kernel_rfl) λx h=>Abj x.1 x.2.1 x.2.2.1 h
theorem VG (n x:Int) (_:True):fnW Gb (look [(100,Cr)]) Sp Tryz.f136 (n,x,()) (λ(z:Bool)=>z=kd n x):=
 Eq.mp (XL n x _) ⟨_,Ab trivial,rfl⟩
theorem lj:Sound Tryz.prog 136 Sp:=
 Sound.Gt Dt (Av Su Bp) mixed Tryz.func136 (by kernel_rfl) (by kernel_rfl) λx h=>VG x.1 x.2.1 h
theorem wm (xs:List Int) (x:Int) (h:short xs):fnW Gb (look []) Io Tryz.f175 (xs,x,()) (λ(z:Bool)=>z=dy xs x):=by
 refine Eq.mp (x4 xs x _) ?_
 unfold short at h
 refine Bw xs.length (λv=>v.1) (λj _=>x∉xs.take j) rfl (by simp) ?_
 rintro j ⟨i,⟨⟩⟩ K hj hi hR hK
 dsimp only at hi⊢
 subst hi
 refine Br.dec (λhl=>?_) λhl=>?_
 ·have hl:j<xs.length:=by omega
  refine ⟨_,Co hl,⟨λhe=>?_,λhe=>?_⟩⟩
  ·have hm:=Al hl
   simp only [Xg] at he
   rw [he] at hm
   exact (Dl hm).symm
  ·rw [Bm (by omega)]
   refine hK hl _ rfl ?_
   simp only [Jr,ne_eq] at he
   rw [Cy hl]
   simp only [Az,Ad,not_or]
   exact ⟨hR,λhx=>he hx.symm⟩
 ·have:j=xs.length:=by omega
  subst this
  rw [Ay] at hR
  exact (Ft hR).symm
theorem o9:Sound Tryz.prog 175 Io:=
 Sound.Gt Dt Bp mixed Tryz.func175 (by kernel_rfl) (by kernel_rfl) λx h=>wm x.1 x.2.1 h
theorem zb (a b:List Int) (hlen:a.length=b.length) (h:short a):
  Dm (λ(v3:Int×PUnit) (k4:Int×PUnit->Prop)=>
   Br (decide (v3.1<(↑a.length:Int))) (∃(y5:Int),idx a v3.1=some y5/\ ∃(y6:Int),idx b v3.1=some y6/\Br (y5 !=y6) (false=Me a b) (k4 (IntKind.i64.wrap (v3.1+1),())))
    (true=Me a b))
  (0,PUnit.unit):=by
 unfold short at h
 refine Bw a.length (λv=>v.1) (λj _=>a.take j=b.take j) rfl (by simp) ?_
 rintro j ⟨i,⟨⟩⟩ K hj hi hR hK
 dsimp only at hi⊢
 subst hi
 refine Br.dec (λhl=>?_) λhl=>?_
 ·have YD:j<a.length:=by omega
  have LV:j<b.length:=by omega
  refine ⟨_,Co YD,_,Co LV,⟨λhe=>?_,λhe=>?_⟩⟩
  ·simp only [bne_iff_ne,ne_eq] at he
   refine (Ft λzm=>he ?_).symm
   subst zm
   rfl
  ·rw [Bm (by omega)]
   refine hK YD _ rfl ?_
   simp only [Xu] at he
   rw [Cy YD,Cy LV,hR,he]
 ·have LS:j=a.length:=by omega
  subst LS
  rw [Ay,hlen,Ay] at hR
  exact (Dl hR).symm
theorem HJ (a b:List Int) (h:short a):fnW Gb (look []) Ik Tryz.f128 (a,b,()) (λ(z:Bool)=>z=Me a b):=by
 refine Eq.mp (JJ a b _) ⟨λhl=>?_,λhl=>?_⟩
 ·simp only [bne_iff_ne,ne_eq,Ly] at hl
  exact (Ft λzm=>hl (by rw [zm])).symm
 ·simp only [Xu,Ly] at hl
  exact zb a b hl h
theorem rv:Sound Tryz.prog 128 Ik:=
 Sound.Gt Dt Bp mixed Tryz.func128 (by kernel_rfl) (by kernel_rfl) λx h=>HJ x.1 x.2.1 h
theorem wz (a b:List Int) (h:short a):fnW Gb (look []) Ik Tryz.f93 (a,b,()) (λ(z:Bool)=>z=Me a b):=by
 refine Eq.mp (x9 a b _) ⟨λhl=>?_,λhl=>?_⟩
 ·simp only [bne_iff_ne,ne_eq,Ly] at hl
  exact (Ft λzm=>hl (by rw [zm])).symm
 ·simp only [Xu,Ly] at hl
  exact zb a b hl h
theorem dc:Sound Tryz.prog 93 Ik:=
 Sound.Gt Dt Bp mixed Tryz.func93 (by kernel_rfl) (by kernel_rfl) λx h=>wz x.1 x.2.1 h
abbrev TT:Type:=List Int×List (List Int)×List Int×Unit
def Nu (xs:List (List Int)):Prop:=xs.length<=4294967296/\ ∀r∈xs,short r
def OQ (t:TT):Prop:=short t.1/\Nu t.2.1/\short t.2.2.1
def Aat (a b:TT):Bool:=decide (a.1=b.1)&&(decide (a.2.1=b.2.1)&&decide (a.2.2.1=b.2.2.1))
theorem dH {α:Type} {ys xs:List α} {j:Nat} (h:j<xs.length) (hl:ys.length=xs.length) (ht:ys.take j=xs.take j):(ys.set j xs[j]).take (j+1)=xs.take (j+1):=by
 have h1:j<(ys.set j xs[j]).length:=by rw [Cm];omega
 rw [Cy h1,Cy h,List.getElem_set_self,List.take_set_of_le (Ao j),ht]
def Zl:List Int->Int->Int->Int
 | [],_,_=> -1
 |y::r,x,i=>if y=x then i else Zl r x (i+1)
noncomputable abbrev kq:Spec:=Gt (.pair tL (.pair tI .unit)) tI false true (λx=>short x.1) (λx=>Zl x.1 x.2.1 0)
def PL (n:Int) (xs:List Int) (k:Nat):Prop:= ∀j (h:j<xs.length),j<k->0<=xs[j]/\xs[j]<=n-1/\(0<j->xs[j-1]<xs[j])
def DL (n:Int) (xs:List Int) (k:Nat):Prop:= ∀j (h:j<xs.length),j<k->0<=xs[j]/\xs[j]<=n-1/\xs[j]∉xs.take j
noncomputable def dec (p:Prop):Bool:= @decide p (Classical.propDecidable p)
theorem No {p:Prop} (h:p):true=dec p:=(@Dl p (Classical.propDecidable p) h).symm
theorem Dh {p:Prop} (h: ¬p):false=dec p:=(@Ft p (Classical.propDecidable p) h).symm
theorem Gi {p:Prop} :dec p=true↔p:= @Jf p (Classical.propDecidable p)
theorem Ae0 {p:Prop} :dec p=false↔ ¬p:= @decide_eq_false_iff_not p (Classical.propDecidable p)
def nOK (n:Int):Prop:=0<=n/\n<=4294967296
noncomputable def Pk (n:Int) (xs:List Int):Bool:=dec (0<xs.length/\PL n xs xs.length)
noncomputable def mc (n:Int) (xs:List Int) (m:Int):Bool:=dec ((xs.length:Int)=m/\DL n xs xs.length)
noncomputable abbrev Kh:Spec:=Gt (.pair tI (.pair tL .unit)) .bool false true (λx=>nOK x.1/\short x.2.1) (λx=>Pk x.1 x.2.1)
noncomputable abbrev Vp:Spec:=Gt (.pair tI (.pair tI (.pair tL .unit))) .bool false true (λx=>nOK x.1/\short x.2.2.1) (λx=>mc x.1 x.2.2.1 x.2.1)
noncomputable abbrev Un:Spec:=Gt (.pair rH .unit) tI false true (λ_=>True) (λx=>(List.length x.1:Int))
theorem Afx (xs:List Int) (x:Int) (P:Int->Prop):(Dm (λ(v3:Int×PUnit) (k4:Int×PUnit->Prop)=>Br (decide (v3.1<(↑xs.length:Int))) (∃(y5:Int),idx xs v3.1=some y5/\Br (x==y5) (P v3.1) (k4 (IntKind.i64.wrap (v3.1+(1:Int)),()))) (P (-1:Int))) ((0:Int),PUnit.unit))=fnW Gb (look []) kq Tryz.f70 (xs,x,()) P:=by kernel_rfl
theorem PT (xs:List Int) (x:Int) (P:Bool->Prop):(∃(y3:Int),kq.fn (xs,x,())=some y3/\P (decide (y3>=(0:Int))))=fnW Gb (look [(70,kq)]) Io Tryz.f104 (xs,x,()) P:=by kernel_rfl
theorem x8 (n:Int) (xs:List Int) (P:Bool->Prop):(∃(y3:Bool),Cr.fn ((↑xs.length:Int),(1:Int),n,())=some y3/\Br (!y3) (P false) (Dm (λ(v4:Int×PUnit) (k5:Int×PUnit->Prop)=>Br (decide (v4.1<(↑xs.length:Int))) (∃(y6:Int),idx xs v4.1=some y6/\ ∃(y7:Bool),Cr.fn (y6,(0:Int),IntKind.i64.wrap (n-(1:Int)),())=some y7/\Br (!y7) (P false) (Br (decide (v4.1>(0:Int))) (∃(y8:Int),idx xs v4.1=some y8/\ ∃(y9:Int),idx xs (IntKind.i64.wrap (v4.1-(1:Int)))=some y9/\Br (decide (y8<=y9)) (P false) (k5 (IntKind.i64.wrap (v4.1+(1:Int)),()))) (k5 (IntKind.i64.wrap (v4.1+(1:Int)),())))) (P true)) ((0:Int),PUnit.unit)))=fnW Gb (look [(95,Cr)]) Kh Tryz.f137 (n,xs,()) P:=by kernel_rfl
theorem JO (n:Int) (xs:List Int) (P:Bool->Prop):(Dm (λ(v3:Int×PUnit) (k4:Int×PUnit->Prop)=>Br (decide (v3.1<(↑xs.length:Int))) (∃(y5:Int),idx xs v3.1=some y5/\ ∃(y6:Bool),Sp.fn (n,y5,())=some y6/\Br (!y6) (P false) (Br (decide (v3.1>(0:Int))) (∃(y7:Int),idx xs (IntKind.i64.wrap (v3.1-(1:Int)))=some y7/\Br (decide (y7>=y5)) (P false) (k4 (IntKind.i64.wrap (v3.1+(1:Int)),()))) (k4 (IntKind.i64.wrap (v3.1+(1:Int)),())))) (P (decide ((↑xs.length:Int)>(0:Int))))) ((0:Int),PUnit.unit))=fnW Gb (look [(136,Sp)]) Kh Tryz.f101 (n,xs,()) P:=by kernel_rfl
theorem JN (n m:Int) (xs:List Int) (P:Bool->Prop):(Dm (λ(v4:Int×PUnit) (k5:Int×PUnit->Prop)=>Br (decide (v4.1<(↑xs.length:Int))) (∃(y6:Int),idx xs v4.1=some y6/\ ∃(y7:Bool),Sp.fn (n,y6,())=some y7/\Br (!y7) (P false) (((0:Int)<=(0:Int)/\(0:Int)<=v4.1/\v4.1<=(↑xs.length:Int))/\ ∃(y8:Bool),Io.fn (List.drop (Int.toNat (0:Int)) (List.take v4.1.toNat xs),y6,())=some y8/\Br y8 (P false) (k5 (IntKind.i64.wrap (v4.1+(1:Int)),())))) (P ((↑xs.length:Int)==m))) ((0:Int),PUnit.unit))=fnW Gb (look [(136,Sp),(104,Io)]) Vp Tryz.f85 (n,m,xs,()) P:=by kernel_rfl
theorem Afy (xs:List (List Int)) (P:Int->Prop):(P (↑xs.length:Int))=fnW Gb (look []) Un Tryz.f91 (xs,()) P:=by kernel_rfl
theorem qz: ∀(xs:List Int) (x i:Int),0<=i->(Zl xs x i<0↔x∉xs)
 | [],x,i,_=>by simp [Zl]
 |y::r,x,i,h=>by
  simp only [Zl]
  split
  ·rename_i hy;subst hy;simp;omega
  ·rename_i hy
   rw [qz r x (i+1) (by omega)]
   simp only [Be,not_or]
   exact ⟨λh=>⟨λe=>hy e.symm,h⟩,λh=>h.2⟩
theorem Af6 (xs:List Int) (x:Int) (h:short xs):fnW Gb (look []) kq Tryz.f70 (xs,x,()) (λ(z:Int)=>z=Zl xs x 0):=by
 unfold short at h
 refine Eq.mp (Afx xs x _) ?_
 refine Bw xs.length (λv=>v.1) (λj _=>Zl (xs.drop j) x j=Zl xs x 0) rfl (by simp) ?_
 rintro j ⟨i,⟨⟩⟩ K hj hi hR hK
 dsimp only at hi⊢
 subst hi
 refine Br.dec (λhl=>?_) λhl=>?_
 ·have hl:j<xs.length:=by omega
  rw [Gm hl] at hR
  simp only [Zl] at hR
  refine ⟨_,Co hl,⟨λhe=>?_,λhe=>?_⟩⟩
  ·simp only [Xg] at he
   rw [Ab he.symm] at hR
   exact hR
  ·simp only [Jr,ne_eq] at he
   rw [Ak (λe=>he e.symm)] at hR
   rw [Bm (by omega)]
   exact hK hl _ rfl (by push_cast;exact hR)
 ·have:j=xs.length:=by omega
  subst this
  rw [Pb] at hR
  exact hR
theorem IK:Sound Tryz.prog 70 kq:=
 Sound.Gt Dt Bp mixed Tryz.func70 (by kernel_rfl) (by kernel_rfl) λx h=>Af6 x.1 x.2.1 h
theorem NJ (xs:List Int) (x:Int) (h:short xs):fnW Gb (look [(70,kq)]) Io Tryz.f104 (xs,x,()) (λ(z:Bool)=>z=dy xs x):=by
 refine Eq.mp (PT xs x _) ⟨_,Ab h,?_⟩
 have:=qz xs x 0 (Sf 0)
 show decide (Zl xs x 0>=0)=decide (x∈xs)
 by_cases hx:x∈xs
 ·rw [Dl hx]
  exact Dl (by have:=mt this.1 (λh=>h hx);omega)
 ·rw [Ft hx]
  exact Ft (by have:=this.2 hx;omega)
theorem uO:Sound Tryz.prog 104 Io:=
 Sound.Gt Dt (Av IK Bp) mixed Tryz.func104 (by kernel_rfl) (by kernel_rfl) λx h=>NJ x.1 x.2.1 h
theorem Af7 (xs:List (List Int)) (_:True):fnW Gb (look []) Un Tryz.f91 (xs,()) (λ(z:Int)=>z=(xs.length:Int)):=Eq.mp (Afy xs _) rfl
theorem jv:Sound Tryz.prog 91 Un:=
 Sound.Gt Dt Bp mixed Tryz.func91 (by kernel_rfl) (by kernel_rfl) λx h=>Af7 x.1 h
theorem cQ {n x:Int} (hn:nOK n):kd n x=true↔0<=x/\x<=n-1:=by
 unfold kd nOK at*
 rw [Df (by omega) (by omega),Jf]
theorem Ej {x a b:Int} :Ml x a b=true↔a<=x/\x<=b:=Jf
theorem Ew {b:Bool} (h:(!b)=true): ¬b=true:=by cases b<;>simp_all
theorem El {b:Bool} (h:(!b)=false):b=true:=by cases b<;>simp_all
theorem NY {n:Int} {xs:List Int} (h:PL n xs xs.length): ∀j (hj:j<xs.length),(j:Int)<=xs[j]
 |0,hj=>(h 0 hj hj).1
 |j+1,hj=>by
  have h1:=NY h j (by omega)
  have h2:=(h (j+1) hj hj).2.2 (by omega)
  simp only [Nat.add_sub_cancel] at h2
  omega
theorem rV {n:Int} {xs:List Int} {j:Nat} (hl:j<xs.length) (h:PL n xs j) (h1:0<=xs[j]) (h2:xs[j]<=n-1) (h3:0<j->xs[j-1]<xs[j]):PL n xs (j+1):=by
 intro i hi jZ
 by_cases e:i=j
 ·subst e;exact ⟨h1,h2,h3⟩
 ·exact h i hi (by omega)
theorem HO (n:Int) (xs:List Int) (h:nOK n/\short xs):fnW Gb (look [(136,Sp)]) Kh Tryz.f101 (n,xs,()) (λ(z:Bool)=>z=Pk n xs):=by
 obtain ⟨hn,h⟩:=h
 unfold short at h
 refine Eq.mp (JO n xs _) ?_
 refine Bw xs.length (λv=>v.1) (λj _=>PL n xs j) rfl (λj _ hj=>absurd hj (Dn _)) ?_
 rintro j ⟨i,⟨⟩⟩ K hj hi hR hK
 dsimp only at hi⊢
 subst hi
 refine Br.dec (λhl=>?_) λhl=>?_
 ·have hl:j<xs.length:=by omega
  refine ⟨_,Co hl,_,Ab trivial,⟨λhp=>?_,λhp=>?_⟩⟩
  ·have hp:=Ew hp
   rw [cQ hn] at hp
   exact Dh λhh=>hp ⟨(hh.2 j hl hl).1,(hh.2 j hl hl).2.1⟩
  ·have hp:=El hp
   rw [cQ hn] at hp
   refine Br.dec (λh0=>?_) λh0=>?_
   ·have h0:0<j:=by omega
    rw [Df (by omega) (by omega),show (j:Int)-1=((j-1:Nat):Int) by omega]
    refine ⟨_,Co (by omega),Br.dec (λhg=>?_) λhg=>?_⟩
    ·exact Dh λhh=>by have:=(hh.2 j hl hl).2.2 h0;omega
    ·rw [Bm (by omega)]
     exact hK hl _ rfl (rV hl hR hp.1 hp.2 λ_=>by omega)
   ·have h0:j=0:=by omega
    rw [Bm (by omega)]
    exact hK hl _ rfl (rV hl hR hp.1 hp.2 λh=>by omega)
 ·have:j=xs.length:=by omega
  subst this
  by_cases h0:0<xs.length
  ·rw [Dl (show (xs.length:Int)>0 by omega)];exact No ⟨h0,hR⟩
  ·rw [Ft (show ¬(xs.length:Int)>0 by omega)];exact Dh λhh=>h0 hh.1
theorem rD:Sound Tryz.prog 101 Kh:=
 Sound.Gt Dt (Av lj Bp) mixed Tryz.func101 (by kernel_rfl) (by kernel_rfl) λx h=>HO x.1 x.2.1 h
theorem wy (n:Int) (xs:List Int) (h:nOK n/\short xs):fnW Gb (look [(95,Cr)]) Kh Tryz.f137 (n,xs,()) (λ(z:Bool)=>z=Pk n xs):=by
 obtain ⟨hn,h⟩:=h
 unfold short at h
 refine Eq.mp (x8 n xs _) ⟨_,Ab trivial,⟨λhp=>?_,λhp=>?_⟩⟩
 ·have hp:=Ew hp
  rw [Ej] at hp
  dsimp only at hp
  refine Dh λhh=>hp ⟨by omega,?_⟩
  have:=NY hh.2 (xs.length-1) (by omega)
  have:=(hh.2 (xs.length-1) (by omega) (by omega)).2.1
  omega
 ·have hp:=El hp
  rw [Ej] at hp
  dsimp only at hp
  refine Bw xs.length (λv=>v.1) (λj _=>PL n xs j) rfl (λj _ hj=>absurd hj (Dn _)) ?_
  rintro j ⟨i,⟨⟩⟩ K hj hi hR hK
  dsimp only at hi⊢
  subst hi
  refine Br.dec (λhl=>?_) λhl=>?_
  ·have hl:j<xs.length:=by omega
   refine ⟨_,Co hl,_,Ab trivial,⟨λhq=>?_,λhq=>?_⟩⟩
   ·have hq:=Ew hq
    unfold nOK at hn
    rw [Ej,Df (by omega) (by omega)] at hq
    exact Dh λhh=>hq ⟨(hh.2 j hl hl).1,(hh.2 j hl hl).2.1⟩
   ·have hq:=El hq
    unfold nOK at hn
    rw [Ej,Df (by omega) (by omega)] at hq
    refine Br.dec (λh0=>?_) λh0=>?_
    ·have h0:0<j:=by omega
     rw [Df (by omega) (by omega),show (j:Int)-1=((j-1:Nat):Int) by omega]
     refine ⟨_,Co hl,_,Co (by omega),Br.dec (λhg=>?_) λhg=>?_⟩
     ·exact Dh λhh=>by have:=(hh.2 j hl hl).2.2 h0;omega
     ·rw [Bm (by omega)]
      exact hK hl _ rfl (rV hl hR hq.1 hq.2 λ_=>by omega)
    ·rw [Bm (by omega)]
     exact hK hl _ rfl (rV hl hR hq.1 hq.2 λh=>by omega)
  ·have:j=xs.length:=by omega
   subst this
   exact No ⟨by omega,hR⟩
theorem oc:Sound Tryz.prog 137 Kh:=
 Sound.Gt Dt (Av Qv Bp) mixed Tryz.func137 (by kernel_rfl) (by kernel_rfl) λx h=>wy x.1 x.2.1 h
theorem QW {n:Int} {xs:List Int} {j:Nat} (hl:j<xs.length) (h:DL n xs j) (h1:0<=xs[j]) (h2:xs[j]<=n-1) (h3:xs[j]∉xs.take j):DL n xs (j+1):=by
 intro i hi jZ
 by_cases e:i=j
 ·subst e;exact ⟨h1,h2,h3⟩
 ·exact h i hi (by omega)
theorem uH {xs:List Int} (h:short xs) (j:Nat):short (xs.take j):=by
 unfold short at*
 rw [Dc]
 omega
theorem HN (n m:Int) (xs:List Int) (h:nOK n/\short xs):fnW Gb (look [(136,Sp),(104,Io)]) Vp Tryz.f85 (n,m,xs,()) (λ(z:Bool)=>z=mc n xs m):=by
 obtain ⟨hn,hs⟩:=h
 have h:=hs
 unfold short at h
 refine Eq.mp (JN n m xs _) ?_
 refine Bw xs.length (λv=>v.1) (λj _=>DL n xs j) rfl (λj _ hj=>absurd hj (Dn _)) ?_
 rintro j ⟨i,⟨⟩⟩ K hj hi hR hK
 dsimp only at hi⊢
 subst hi
 refine Br.dec (λhl=>?_) λhl=>?_
 ·have hl:j<xs.length:=by omega
  refine ⟨_,Co hl,_,Ab trivial,⟨λhq=>?_,λhq=>?_⟩⟩
  ·have hq:=Ew hq
   rw [cQ hn] at hq
   exact Dh λhh=>hq ⟨(hh.2 j hl hl).1,(hh.2 j hl hl).2.1⟩
  ·have hq:=El hq
   rw [cQ hn] at hq
   refine ⟨⟨by omega,by omega,by omega⟩,?_⟩
   rw [show (Int.toNat 0)=0 from rfl,Ea,Aj]
   refine ⟨_,Ab (uH hs j),⟨λhc=>?_,λhc=>?_⟩⟩
   ·have hc:decide (xs[j]∈xs.take j)=true:=hc
    rw [Jf] at hc
    exact Dh λhh=>(hh.2 j hl hl).2.2 hc
   ·have hc:decide (xs[j]∈xs.take j)=false:=hc
    rw [decide_eq_false_iff_not] at hc
    rw [Bm (by omega)]
    exact hK hl _ rfl (QW hl hR hq.1 hq.2 hc)
 ·have:j=xs.length:=by omega
  subst this
  by_cases he:(xs.length:Int)=m
  ·rw [Xg.2 he];exact No ⟨he,hR⟩
  ·rw [Jr.2 he];exact Dh λhh=>he hh.1
theorem rC:Sound Tryz.prog 85 Vp:=
 Sound.Gt Dt (Av lj (Av uO Bp)) mixed Tryz.func85 (by kernel_rfl) (by kernel_rfl) λx h=>HN x.1 x.2.1 x.2.2.1 h
theorem MS (t:TT):Aat t t=true:=by simp [Aat]
abbrev PP:Type:=Int×ByteArray×List (List Int)×Unit
noncomputable def Jy (p:List Int):Bool:=dec (1<=p.length/\p.length<=20/\DL p.length p p.length)
noncomputable def Hm (n:Int) (p:List Int):Bool:=dec ((p.length:Int)=n/\Jy p=true)
noncomputable def Qg (n:Int) (g:List (List Int)):Bool:=dec ((1<=n/\n<=20)/\g.length<=8/\ ∀p∈g,Hm n p=true)
def Ep {α:Type} (P:α->Bool):List α->Int->Int
 | [],_=> -1
 |y::r,i=>if P y=true then i else Ep P r (i+1)
abbrev tG1:Ty:= .clo 174 (.pair (.ptr tI) .unit)
abbrev tX1:Ty:= .clo 141 (.pair (.ptr tL) .unit)
def yL (s:ByteArray) (i:Nat):Prop:= ∃c:UInt8,s[i]?=some c/\65<=c.toNat/\c.toNat<=90/\ ∀k,k<i->s[k]?≠some c
noncomputable def nM (s:ByteArray) (i:Int):Bool:=dec (yL s i.toNat)
noncomputable def bg (s:ByteArray):Bool:=dec ((1<=s.size/\s.size<=8)/\ ∀j,j<s.size->yL s j)
noncomputable def Cb (p:PP):Bool:=dec (Qg p.1 p.2.2.1=true/\bg p.2.1=true/\p.2.1.size=p.2.2.1.length)
def Gw (p:PP):Prop:=p.2.1.size<=4294967296/\Nu p.2.2.1
noncomputable abbrev Tg:Spec:=Gt (.pair tL .unit) tI false true (λ_=>True) (λx=>(List.length x.1:Int))
noncomputable abbrev Jd:Spec:=Gt (.pair tL .unit) .bool false true (λx=>short x.1) (λx=>Jy x.1)
noncomputable abbrev Ms:Spec:=Gt (.pair tI (.pair rH .unit)) .bool false true (λx=>Nu x.2.1) (λx=>Qg x.1 x.2.1)
noncomputable abbrev ko:Spec:=Gt (.pair tL (.pair (.ptr tI) .unit)) .bool false true (λx=>short x.1) (λx=>!Hm x.2.1 x.1)
noncomputable abbrev yt:Spec:=Gt (.pair rH (.pair tG1 .unit)) tI false true (λx=>Nu x.1) (λx=>Ep (λp=>!Hm x.2.1.1 p) x.1 0)
noncomputable abbrev yp:Spec:=Gt (.pair rH (.pair tG1 .unit)) .bool false true (λx=>Nu x.1) (λx=>List.any x.1 (λp=>!Hm x.2.1.1 p))
noncomputable abbrev eM:Spec:=Gt (.pair .str (.pair tI .unit)) .bool false true (λx=>0<=x.2.1/\x.2.1<x.1.size/\x.1.size<=4294967296) (λx=>nM x.1 x.2.1)
noncomputable abbrev bn:Spec:=Gt (.pair .str .unit) .bool false true (λx=>x.1.size<=4294967296) (λx=>bg x.1)
noncomputable abbrev Ig:Spec:=Gt (.pair Ix .unit) .bool false true (λx=>Gw x.1) (λx=>Cb x.1)
noncomputable abbrev Yq:Spec:=Gt (.pair tL (.pair (.ptr tL) .unit)) .bool false true (λx=>short x.1) (λx=>decide (x.1=x.2.1))
noncomputable abbrev yw:Spec:=Gt (.pair rH (.pair tX1 .unit)) tI false true (λx=>Nu x.1) (λx=>Ep (λp=>decide (p=x.2.1.1)) x.1 0)
noncomputable abbrev bm:Spec:=Gt (.pair rH (.pair tL .unit)) tI false true (λx=>Nu x.1/\short x.2.1) (λx=>Ep (λp=>decide (p=x.2.1)) x.1 0)
theorem Akr (xs:List Int) (P:Int->Prop):(P (↑xs.length:Int))=fnW Gb (look []) Tg Tryz.f105 (xs,()) P:=by kernel_rfl
theorem CX (p:List Int) (P:Bool->Prop):(∃(y2:Bool),Cr.fn ((↑p.length:Int),(1:Int),(20:Int),())=some y2/\Br (!y2) (P false) (Dm (λ(v3:Int×PUnit) (k4:Int×PUnit->Prop)=>Br (decide (v3.1<(↑p.length:Int))) (∃(y5:Int),idx p v3.1=some y5/\ ∃(y6:Bool),Cr.fn (y5,(0:Int),IntKind.i64.wrap ((↑p.length:Int)-(1:Int)),())=some y6/\Br (!y6) (P false) (((0:Int)<=(0:Int)/\(0:Int)<=v3.1/\v3.1<=(↑p.length:Int))/\ ∃(y7:Int),idx p v3.1=some y7/\ ∃(y8:Bool),Io.fn (List.drop (Int.toNat (0:Int)) (List.take v3.1.toNat p),y7,())=some y8/\Br y8 (P false) (k4 (IntKind.i64.wrap (v3.1+(1:Int)),())))) (P true)) ((0:Int),PUnit.unit)))=fnW Gb (look [(95,Cr),(175,Io)]) Jd Tryz.f162 (p,()) P:=by kernel_rfl
theorem CQ (p:List Int) (P:Bool->Prop):(∃(y2:Int),Tg.fn (p,())=some y2/\ ∃(y3:Bool),Cr.fn (y2,(1:Int),(20:Int),())=some y3/\Br (!y3) (P false) (Dm (λ(v4:Int×Int×PUnit) (k5:Int×Int×PUnit->Prop)=>Br (decide (v4.2.1<(↑p.length:Int))) (∃(y6:Int),idx p v4.2.1=some y6/\ ∃(y7:Int),Tg.fn (p,())=some y7/\ ∃(y8:Bool),Cr.fn (y6,(0:Int),IntKind.i64.wrap (y7-(1:Int)),())=some y8/\Br (!y8) (P false) (¬y6<(0:Int)/\k5 (IntKind.i64.wrap (↑(BitVec.ofInt IntKind.i64.bits v4.1|||BitVec.ofInt IntKind.i64.bits (IntKind.i64.wrap ((1:Int)*(2:Int)^min y6.toNat IntKind.i64.bits))).toNat:Int),IntKind.i64.wrap (v4.2.1+(1:Int)),()))) (¬(↑p.length:Int)<(0:Int)/\P (v4.1==IntKind.i64.wrap (IntKind.i64.wrap ((1:Int)*(2:Int)^min (↑p.length:Int).toNat IntKind.i64.bits)-(1:Int))))) ((0:Int),(0:Int),PUnit.unit)))=fnW Gb (look [(100,Cr),(105,Tg)]) Jd Tryz.f130 (p,()) P:=by kernel_rfl
theorem CW (n:Int) (g:List (List Int)) (P:Bool->Prop):(∃(y3:Bool),Cr.fn (n,(1:Int),(20:Int),())=some y3/\Br (!y3) (P false) (Br (decide ((↑g.length:Int)>(8:Int))) (P false) (Dm (λ(v4:Int×PUnit) (k5:Int×PUnit->Prop)=>Br (decide (v4.1<(↑g.length:Int))) (∃(y6:List Int),idx g v4.1=some y6/\Br ((↑y6.length:Int) !=n) (P false) (∃(y7:List Int),idx g v4.1=some y7/\ ∃(y8:Bool),Jd.fn (y7,())=some y8/\Br (!y8) (P false) (k5 (IntKind.i64.wrap (v4.1+(1:Int)),())))) (P true)) ((0:Int),PUnit.unit))))=fnW Gb (look [(95,Cr),(162,Jd)]) Ms Tryz.f122 (n,g,()) P:=by kernel_rfl
theorem Afw (p:List Int) (n:Int) (P:Bool->Prop):(∃(y3:Int),Tg.fn (p,())=some y3/\Br (y3 !=n) (P true) (∃(y4:Bool),Jd.fn (p,())=some y4/\P !y4))=fnW Gb (look [(105,Tg),(130,Jd)]) ko Tryz.f174 (p,n,()) P:=by kernel_rfl
theorem Apd (g:List (List Int)) (n:Int×Unit) (P:Int->Prop):(Dm (λ(v3:Int×PUnit) (k4:Int×PUnit->Prop)=>Br (decide (v3.1<(↑g.length:Int))) (∃(y5:List Int),idx g v3.1=some y5/\ ∃(y6:Bool),ko.fn (y5,n.1,())=some y6/\Br y6 (P v3.1) (k4 (IntKind.i64.wrap (v3.1+(1:Int)),()))) (P (-1:Int))) ((0:Int),PUnit.unit))=fnW Gb (look [(174,ko)]) yt Tryz.f140 (g,n,()) P:=by kernel_rfl
theorem Apa (g:List (List Int)) (n:Int×Unit) (P:Bool->Prop):(∃(y3:Int),yt.fn (g,n,())=some y3/\P (decide (y3>=(0:Int))))=fnW Gb (look [(140,yt)]) yp Tryz.f173 (g,n,()) P:=by kernel_rfl
theorem CP (n:Int) (g:List (List Int)) (P:Bool->Prop):(∃(y3:Bool),Cr.fn (n,(1:Int),(20:Int),())=some y3/\Br y3 (Br (decide ((↑g.length:Int)<=(8:Int))) (∃(y4:Bool),yp.fn (g,(n,()),())=some y4/\P !y4) (P false)) (P false))=fnW Gb (look [(100,Cr),(173,yp)]) Ms Tryz.f150 (n,g,()) P:=by kernel_rfl
theorem Ad4 (s:ByteArray) (i:Int) (P:Bool->Prop):((0:Int)<=i/\ ∃(y3:UInt8),s[i.toNat]?=some y3/\Br (decide ((↑y3.toNat:Int)<(65:Int))) (P false) ((0:Int)<=i/\ ∃(y4:UInt8),s[i.toNat]?=some y4/\Br (decide ((↑y4.toNat:Int)>(90:Int))) (P false) (Dm (λ(v5:Int×PUnit) (k6:Int×PUnit->Prop)=>Br (decide (v5.1<i)) ((0:Int)<=v5.1/\ ∃(y7:UInt8),s[v5.1.toNat]?=some y7/\(0:Int)<=i/\ ∃(y8:UInt8),s[i.toNat]?=some y8/\Br ((↑y7.toNat:Int)==(↑y8.toNat:Int)) (P false) (k6 (IntKind.i64.wrap (v5.1+(1:Int)),()))) (P true)) ((0:Int),PUnit.unit))))=fnW Gb (look []) eM Tryz.f123 (s,i,()) P:=by kernel_rfl
theorem XK (s:ByteArray) (P:Bool->Prop):(Dm (λ(v2:Int×PUnit) (k3:Int×PUnit->Prop)=>Br (decide (v2.1<(↑s.size:Int))) ((0:Int)<=v2.1/\ ∃(y4:UInt8),s[v2.1.toNat]?=some y4/\ ∃(y5:Bool),Cr.fn (IntKind.i64.wrap (↑y4.toNat:Int),(65:Int),(90:Int),())=some y5/\Br (!y5) (P false) (Dm (λ(v6:Int×PUnit) (k7:Int×PUnit->Prop)=>Br (decide (v6.1<v2.1)) ((0:Int)<=v6.1/\ ∃(y8:UInt8),s[v6.1.toNat]?=some y8/\(0:Int)<=v2.1/\ ∃(y9:UInt8),s[v2.1.toNat]?=some y9/\Br ((↑y8.toNat:Int)==(↑y9.toNat:Int)) (P false) (k7 (IntKind.i64.wrap (v6.1+(1:Int)),()))) (k3 (IntKind.i64.wrap (v2.1+(1:Int)),()))) ((0:Int),PUnit.unit))) (∃(y4:Bool),Cr.fn ((↑s.size:Int),(1:Int),(8:Int),())=some y4/\P y4)) ((0:Int),PUnit.unit))=fnW Gb (look [(100,Cr)]) bn Tryz.f151 (s,()) P:=by kernel_rfl
abbrev lq:Type:=Int×Int×ByteArray×List (List Int)×PUnit
theorem CY (p:Int×ByteArray×List (List Int)×Unit) (P:Bool->Prop):(Br ((↑p.2.2.1.length:Int)==(0:Int)) (P false) (Br ((↑p.2.1.size:Int) !=(↑p.2.2.1.length:Int)) (P false) (∃(y2:Bool),Ms.fn (p.1,p.2.2.1,())=some y2/\Br (!y2) (P false) (Dm (λ(v3:lq) (k4:lq->Prop)=>Br (decide (v3.1<(↑v3.2.2.1.size:Int))) (∃(y5:Bool),eM.fn (v3.2.2.1,v3.1,())=some y5/\Br (!y5) (P false) (k4 (IntKind.i64.wrap (v3.1+(1:Int)),v3.2.1,v3.2.2.1,v3.2.2.2.1,()))) (P true)) ((0:Int),p.1,p.2.1,p.2.2.1,PUnit.unit)))))=fnW Gb (look [(122,Ms),(123,eM)]) Ig Tryz.f63 (p,()) P:=by kernel_rfl
theorem CU (p:Int×ByteArray×List (List Int)×Unit) (P:Bool->Prop):(∃(y2:Bool),Ms.fn (p.1,p.2.2.1,())=some y2/\Br y2 (∃(y3:Bool),bn.fn (p.2.1,())=some y3/\Br y3 (P ((↑p.2.1.size:Int)==(↑p.2.2.1.length:Int))) (P false)) (P false))=fnW Gb (look [(150,Ms),(151,bn)]) Ig Tryz.f99 (p,()) P:=by kernel_rfl
theorem PX (xs ys:List Int) (P:Bool->Prop):(∃(y3:Bool),Ik.fn (xs,ys,())=some y3/\P y3)=fnW Gb (look [(93,Ik)]) Yq Tryz.f141 (xs,ys,()) P:=by kernel_rfl
theorem Apf (g:List (List Int)) (n:List Int×Unit) (P:Int->Prop):(Dm (λ(v3:Int×PUnit) (k4:Int×PUnit->Prop)=>Br (decide (v3.1<(↑g.length:Int))) (∃(y5:List Int),idx g v3.1=some y5/\ ∃(y6:Bool),Yq.fn (y5,n.1,())=some y6/\Br y6 (P v3.1) (k4 (IntKind.i64.wrap (v3.1+(1:Int)),()))) (P (-1:Int))) ((0:Int),PUnit.unit))=fnW Gb (look [(141,Yq)]) yw Tryz.f140 (g,n,()) P:=by kernel_rfl
theorem XJ (g:List (List Int)) (xs:List Int) (P:Int->Prop):(∃(y3:Int),yw.fn (g,(xs,()),())=some y3/\P y3)=fnW Gb (look [(140,yw)]) bm Tryz.f89 (g,xs,()) P:=by kernel_rfl
theorem Ak1 (xs:List Int) (_:True):fnW Gb (look []) Tg Tryz.f105 (xs,()) (λ(z:Int)=>z=(xs.length:Int)):=Eq.mp (Akr xs _) rfl
theorem fV:Sound Tryz.prog 105 Tg:=
 Sound.Gt Dt Bp mixed Tryz.func105 (by kernel_rfl) (by kernel_rfl) λx h=>Ak1 x.1 h
theorem BY {α:Type} [DecidableEq α]: ∀(l m:List α),l.Nodup->(∀x∈l,x∈m)->l.length<=m.length
 | [],m,_,_=>Ja _
 |a::l,m,hn,hs=>by
  have ha:a∈m:=hs a (Mc ..)
  have hn:=Ce.1 hn
  have:=BY l (m.erase a) hn.2 λx hx=>(List.mem_erase_of_ne (λ(e:x=a)=>hn.1 (by rw [<-e];exact hx))).2 (hs x (Aq _ hx))
  rw [Xd ha] at this
  have:0<m.length:=List.length_pos_of_mem ha
  simp only [Aw]
  omega
def upto (n:Nat):List Int:=(List.range n).map Int.ofNat
theorem mE (n:Nat):(upto n).Nodup:=by
 unfold upto
 exact List.Pairwise.map _ (λa b zm e=>zm (Int.ofNat.inj e)) List.nodup_range
theorem Lt {n:Nat} {x:Int} :x∈upto n↔0<=x/\x<n:=by
 unfold upto
 simp only [Bg,Eu]
 constructor
 ·rintro ⟨a,ha,rfl⟩;exact ⟨Int.natCast_nonneg _,Int.ofNat_lt.2 ha⟩
 ·rintro ⟨h1,h2⟩;exact ⟨x.toNat,by omega,by simp only [Int.ofNat_eq_natCast];omega⟩
theorem Mu (n:Nat):(upto n).length=n:=by simp [upto]
theorem j7 {xs:List Int} (h: ∀j (hj:j<xs.length),xs[j]∉xs.take j):xs.Nodup:=by
 refine Ds.2 λi j hi hj jZ e=>h j hj ?_
 rw [<-e]
 exact List.mem_take_iff_getElem.2 ⟨i,by omega,rfl⟩
theorem vr {xs:List Int} (h:xs.Nodup): ∀j (hj:j<xs.length),xs[j]∉xs.take j:=by
 intro j hj hm
 obtain ⟨i,hi,e⟩:=List.mem_take_iff_getElem.1 hm
 exact Ds.1 h i j (by omega) hj (by omega) e
theorem dp {xs:List Int} (h: ∀x∈xs,0<=x/\x<xs.length):(∀k:Nat,k<xs.length->(k:Int)∈xs)↔ ∀j (hj:j<xs.length),xs[j]∉xs.take j:=by
 constructor
 ·intro ha j hj hm
  have h1:=BY (upto xs.length) (xs.take j++xs.drop (j+1)) (mE _) λx hx=>by
   obtain ⟨h1,h2⟩:=Lt.1 hx
   have hx:=ha x.toNat (by omega)
   rw [show ((x.toNat:Nat):Int)=x by omega] at hx
   rw [<-Jt j xs,Az,Gm hj,Be] at hx
   rcases hx with hx|rfl|hx
   ·exact Bj _ hx
   ·exact Bj _ hm
   ·exact Ci _ hx
  rw [Mu,Au,Dc,List.length_drop] at h1
  omega
 ·intro hn k hk
  refine Bk λhc=>?_
  have h1:=BY xs ((upto xs.length).erase (k:Int)) (j7 hn) λx hx=>by
   refine (List.mem_erase_of_ne λ(e:x=(k:Int))=>hc (by rw [<-e];exact hx)).2 (Lt.2 (h x hx))
  rw [Xd (Lt.2 ⟨by omega,by omega⟩),Mu] at h1
  omega
def mask (xs:List Int):Nat:=xs.foldl (λm x=>m|||2^x.toNat) 0
theorem US (xs:List Int) (x:Int):mask (xs++ [x])=mask xs|||2^x.toNat:=by simp [mask]
theorem zT (xs:List Int) (k:Nat): ∀a:Nat,(xs.foldl (λm x=>m|||2^x.toNat) a).testBit k=(a.testBit k||xs.any λx=>decide (x.toNat=k)):=by
 induction xs with
 |nil=>simp
 |cons x xs ih=>
  intro a
  rw [Qx,ih,Nat.testBit_or,Nat.testBit_two_pow,List.any_cons,Bool.or_assoc]
theorem tS (xs:List Int) (k:Nat):(mask xs).testBit k=xs.any λx=>decide (x.toNat=k):=by
 unfold mask
 rw [zT,Nat.zero_testBit,bz]
theorem Aew {xs:List Int} {n:Nat} (h: ∀x∈xs,x.toNat<n):mask xs<2^n:=by
 refine Nat.lt_pow_two_of_testBit _ λk hk=>?_
 rw [tS]
 refine Bool.eq_false_iff.2 λht=>?_
 obtain ⟨x,hx,he⟩:=Ey.1 ht
 have:=h x hx
 have:=He he
 omega
theorem xT {xs:List Int} (h: ∀x∈xs,0<=x/\x<xs.length):mask xs=2^xs.length-1↔ ∀k:Nat,k<xs.length->(k:Int)∈xs:=by
 constructor
 ·intro e k hk
  have h1:=tS xs k
  rw [e,Nat.testBit_two_pow_sub_one,Dl hk] at h1
  obtain ⟨x,hx,he⟩:=Ey.1 h1.symm
  have:=(h x hx).1
  have:=He he
  have e:x=(k:Int):=by omega
  exact e▸hx
 ·intro ha
  refine Nat.eq_of_testBit_eq λk=>?_
  rw [tS,Nat.testBit_two_pow_sub_one]
  by_cases hk:k<xs.length
  ·rw [Dl hk]
   exact Ey.2 ⟨k,ha k hk,by simp⟩
  ·rw [Ft hk]
   refine Bool.eq_false_iff.2 λht=>?_
   obtain ⟨x,hx,he⟩:=Ey.1 ht
   have:=h x hx
   have:=He he
   omega
theorem Af2 {m:Nat} {x:Int} (hm:m<2^20) (h0:0<=x) (h1:x<20):
  IntKind.i64.wrap (((BitVec.ofInt IntKind.i64.bits (m:Int)|||BitVec.ofInt IntKind.i64.bits (IntKind.i64.wrap ((1:Int)*(2:Int)^min x.toNat IntKind.i64.bits))).toNat:Nat):Int)=((m|||2^x.toNat:Nat):Int):=by
 have hx:(2:Nat)^x.toNat<2^20:=Nat.pow_lt_pow_right (by omega) (by omega)
 have e1:min x.toNat IntKind.i64.bits=x.toNat:=by show min x.toNat 64=_;omega
 have e2:(1:Int)*(2:Int)^x.toNat=((2^x.toNat:Nat):Int):=by rw [Int.one_mul];exact (Int.natCast_pow 2 _).symm
 rw [e1,e2,Df (n:=((2^x.toNat:Nat):Int)) (by have:(0:Int)<=((2^x.toNat:Nat):Int):=Int.natCast_nonneg _;omega) (by omega)]
 show IntKind.i64.wrap (((BitVec.ofInt 64 (m:Int)|||BitVec.ofInt 64 ((2^x.toNat:Nat):Int)).toNat:Nat):Int)=_
 rw [BitVec.ofInt_natCast,BitVec.ofInt_natCast,BitVec.toNat_or,BitVec.toNat_ofNat,BitVec.toNat_ofNat,Nat.mod_eq_of_lt (by omega),Nat.mod_eq_of_lt (by omega)]
 have:=Nat.or_lt_two_pow hm hx
 exact Df (by omega) (by omega)
theorem AI (p:List Int) (h:short p):fnW Gb (look [(95,Cr),(175,Io)]) Jd Tryz.f162 (p,()) (λ(z:Bool)=>z=Jy p):=by
 have hs:=h
 unfold short at h
 refine Eq.mp (CX p _) ⟨_,Ab trivial,⟨λhp=>?_,λhp=>?_⟩⟩
 ·have hp:=Ew hp
  rw [Ej] at hp
  dsimp only at hp
  exact Dh λhh=>hp ⟨by omega,by omega⟩
 ·have hp:=El hp
  rw [Ej] at hp
  dsimp only at hp
  refine Bw p.length (λv=>v.1) (λj _=>DL p.length p j) rfl (λj _ hj=>absurd hj (Dn _)) ?_
  rintro j ⟨i,⟨⟩⟩ K hj hi hR hK
  dsimp only at hi⊢
  subst hi
  refine Br.dec (λhl=>?_) λhl=>?_
  ·have hl:j<p.length:=by omega
   refine ⟨_,Co hl,_,Ab trivial,⟨λhq=>?_,λhq=>?_⟩⟩
   ·have hq:=Ew hq
    rw [Ej,Df (by omega) (by omega)] at hq
    exact Dh λhh=>hq ⟨(hh.2.2 j hl hl).1,(hh.2.2 j hl hl).2.1⟩
   ·have hq:=El hq
    rw [Ej,Df (by omega) (by omega)] at hq
    refine ⟨⟨by omega,by omega,by omega⟩,_,Co hl,?_⟩
    rw [show (Int.toNat 0)=0 from rfl,Ea,Aj]
    refine ⟨_,Ab (uH hs j),⟨λhc=>?_,λhc=>?_⟩⟩
    ·have hc:decide (p[j]∈p.take j)=true:=hc
     rw [Jf] at hc
     exact Dh λhh=>(hh.2.2 j hl hl).2.2 hc
    ·have hc:decide (p[j]∈p.take j)=false:=hc
     rw [decide_eq_false_iff_not] at hc
     rw [Bm (by omega)]
     exact hK hl _ rfl (QW hl hR hq.1 hq.2 hc)
  ·have:j=p.length:=by omega
   subst this
   exact No ⟨by omega,by omega,hR⟩
theorem Yy:Sound Tryz.prog 162 Jd:=
 Sound.Gt Dt (Av Qv (Av o9 Bp)) mixed Tryz.func162 (by kernel_rfl) (by kernel_rfl) λx h=>AI x.1 h
theorem AA (p:List Int) (h:short p):fnW Gb (look [(100,Cr),(105,Tg)]) Jd Tryz.f130 (p,()) (λ(z:Bool)=>z=Jy p):=by
 unfold short at h
 refine Eq.mp (CQ p _) ⟨_,Ab trivial,_,Ab trivial,⟨λhp=>?_,λhp=>?_⟩⟩
 ·have hp:=Ew hp
  rw [Ej] at hp
  dsimp only at hp
  exact Dh λhh=>hp ⟨by omega,by omega⟩
 ·have hp:=El hp
  rw [Ej] at hp
  dsimp only at hp
  refine Bw p.length (λv=>v.2.1) (λj v=>v.1=(mask (p.take j):Int)/\ ∀x∈p.take j,0<=x/\x<p.length) rfl ⟨rfl,by simp⟩ ?_
  rintro j ⟨m,i,⟨⟩⟩ K hj hi ⟨hm,hR⟩ hK
  dsimp only at hi hm⊢
  subst hi hm
  refine Br.dec (λhl=>?_) λhl=>?_
  ·have hl:j<p.length:=by omega
   refine ⟨_,Co hl,_,Ab trivial,_,Ab trivial,⟨λhq=>?_,λhq=>?_⟩⟩
   ·have hq:=Ew hq
    rw [Ej] at hq
    dsimp only at hq
    rw [Df (by omega) (by omega)] at hq
    exact Dh λhh=>hq ⟨(hh.2.2 j hl hl).1,(hh.2.2 j hl hl).2.1⟩
   ·have hq:=El hq
    rw [Ej] at hq
    dsimp only at hq
    rw [Df (by omega) (by omega)] at hq
    refine ⟨by omega,?_⟩
    rw [Bm (by omega)]
    have hb:mask (p.take j)<2^20:=Aew λx hx=>by have:=hR x hx;omega
    refine hK hl _ rfl ⟨?_,?_⟩
    ·dsimp only
     rw [Af2 hb hq.1 (by omega),Cy hl,US]
    ·rw [Cy hl]
     intro x hx
     rcases Az.1 hx with hx|hx
     ·exact hR x hx
     ·rw [Ad.1 hx];omega
  ·have:j=p.length:=by omega
   subst this
   rw [Ay] at hR⊢
   refine ⟨by omega,?_⟩
   have hx:(2:Nat)^p.length<=2^20:=Nat.pow_le_pow_right (by omega) (by omega)
   have MA:0<(2:Nat)^p.length:=Nat.two_pow_pos _
   have e1:min (p.length:Int).toNat IntKind.i64.bits=p.length:=by show min (p.length:Int).toNat 64=_;omega
   have e2:(1:Int)*(2:Int)^p.length=((2^p.length:Nat):Int):=by rw [Int.one_mul];exact (Int.natCast_pow 2 _).symm
   rw [e1,e2,Df (n:=((2^p.length:Nat):Int)) (by omega) (by omega),Df (by omega) (by omega)]
   have hE:((mask p:Int)==((2^p.length:Nat):Int)-1)=decide (mask p=2^p.length-1):=by
    rw [Bool.eq_iff_iff,Xg,Jf]
    omega
   show ((mask p:Int)==((2^p.length:Nat):Int)-1)=Jy p
   rw [hE]
   by_cases hf:mask p=2^p.length-1
   ·rw [Dl hf]
    have hn:=(dp hR).1 ((xT hR).1 hf)
    refine No ⟨by omega,by omega,λj hj _=>?_⟩
    have:=hR _ (Al hj)
    exact ⟨this.1,by omega,hn j hj⟩
   ·rw [Ft hf]
    refine Dh λhh=>hf ((xT hR).2 ((dp hR).2 λj hj=>(hh.2.2 j hj hj).2.2))
theorem eQ:Sound Tryz.prog 130 Jd:=
 Sound.Gt Dt (Av Su (Av fV Bp)) mixed Tryz.func130 (by kernel_rfl) (by kernel_rfl) λx h=>AA x.1 h
theorem AH (n:Int) (g:List (List Int)) (h:Nu g):fnW Gb (look [(95,Cr),(162,Jd)]) Ms Tryz.f122 (n,g,()) (λ(z:Bool)=>z=Qg n g):=by
 obtain ⟨h,h4⟩:=h
 refine Eq.mp (CW n g _) ⟨_,Ab trivial,⟨λhp=>?_,λhp=>?_⟩⟩
 ·have hp:=Ew hp
  rw [Ej] at hp
  exact Dh λhh=>hp hh.1
 ·have hp:=El hp
  rw [Ej] at hp
  refine Br.dec (λhg=>?_) λhg=>?_
  ·exact Dh λhh=>by have:=hh.2.1;omega
  ·refine Bw g.length (λv=>v.1) (λj _=> ∀p∈g.take j,Hm n p=true) rfl (by simp) ?_
   rintro j ⟨i,⟨⟩⟩ K hj hi hR hK
   dsimp only at hi⊢
   subst hi
   refine Br.dec (λhl=>?_) λhl=>?_
   ·have hl:j<g.length:=by omega
    have hm:g[j]∈g:=Al hl
    refine ⟨_,Co hl,⟨λhe=>?_,λhe=>?_⟩⟩
    ·simp only [bne_iff_ne,ne_eq] at he
     exact Dh λhh=>he (Gi.1 (hh.2.2 _ hm)).1
    ·simp only [Xu] at he
     refine ⟨_,Co hl,_,Ab (h4 _ hm),⟨λhq=>?_,λhq=>?_⟩⟩
     ·have hq:=Ew hq
      exact Dh λhh=>hq (Gi.1 (hh.2.2 _ hm)).2
     ·have hq:=El hq
      rw [Bm (by omega)]
      refine hK hl _ rfl ?_
      rw [Cy hl]
      intro x hx
      rcases Az.1 hx with hx|hx
      ·exact hR x hx
      ·rw [Ad.1 hx];exact Gi.2 ⟨he,hq⟩
   ·have:j=g.length:=by omega
    subst this
    rw [Ay] at hR
    exact No ⟨hp,by omega,hR⟩
theorem eS:Sound Tryz.prog 122 Ms:=
 Sound.Gt Dt (Av Qv (Av Yy Bp)) mixed Tryz.func122 (by kernel_rfl) (by kernel_rfl) λx h=>AH x.1 x.2.1 h
theorem Af5 (p:List Int) (n:Int) (h:short p):fnW Gb (look [(105,Tg),(130,Jd)]) ko Tryz.f174 (p,n,()) (λ(z:Bool)=>z=!Hm n p):=by
 refine Eq.mp (Afw p n _) ⟨_,Ab trivial,⟨λhe=>?_,λhe=>⟨_,Ab h,?_⟩⟩⟩
 ·simp only [bne_iff_ne,ne_eq] at he
  have:Hm n p=false:=Ae0.2 λhh=>he hh.1
  rw [this];rfl
 ·simp only [Xu] at he
  show (!Jy p)=_
  congr 1
  cases hp:Jy p with
  |true=>exact No ⟨he,hp⟩
  |false=>exact Dh λhh=>by rw [hh.2] at hp;cases hp
theorem IJ:Sound Tryz.prog 174 ko:=
 Sound.Gt Dt (Av fV (Av eQ Bp)) mixed Tryz.func174 (by kernel_rfl) (by kernel_rfl) λx h=>Af5 x.1 x.2.1 h
theorem cP {α:Type} (P:α->Bool): ∀(l:List α) (i:Int),0<=i->(0<=Ep P l i↔l.any P=true)
 | [],i,_=>by simp [Ep]
 |y::r,i,h=>by
  simp only [Ep,List.any_cons,Kn]
  split
  ·rename_i hy;simp [hy,h]
  ·rename_i hy;rw [cP P r (i+1) (by omega)];simp [hy]
theorem Aop (g:List (List Int)) (n:Int×Unit) (h:Nu g):fnW Gb (look [(174,ko)]) yt Tryz.f140 (g,n,()) (λ(z:Int)=>z=Ep (λp=>!Hm n.1 p) g 0):=by
 obtain ⟨h,h4⟩:=h
 refine Eq.mp (Apd g n _) ?_
 refine Bw g.length (λv=>v.1) (λj _=>Ep (λp=>!Hm n.1 p) (g.drop j) j=Ep (λp=>!Hm n.1 p) g 0) rfl (by simp) ?_
 rintro j ⟨i,⟨⟩⟩ K hj hi hR hK
 dsimp only at hi⊢
 subst hi
 refine Br.dec (λhl=>?_) λhl=>?_
 ·have hl:j<g.length:=by omega
  rw [Gm hl] at hR
  simp only [Ep] at hR
  refine ⟨_,Co hl,_,Ab (h4 _ (Al hl)),⟨λhe=>?_,λhe=>?_⟩⟩
  ·have he:(!Hm n.1 g[j])=true:=he
   rw [Ab he] at hR
   exact hR
  ·have he:(!Hm n.1 g[j])=false:=he
   rw [Ak (by rw [he];decide)] at hR
   rw [Bm (by omega)]
   exact hK hl _ rfl (by push_cast;exact hR)
 ·have:j=g.length:=by omega
  subst this
  rw [Pb] at hR
  exact hR
theorem WK:Sound Tryz.prog 140 yt:=
 Sound.Gt Dt (Av IJ Bp) mixed Tryz.func140 (by kernel_rfl) (by kernel_rfl) λx h=>Aop x.1 x.2.1 h
theorem Aom (g:List (List Int)) (n:Int×Unit) (h:Nu g):fnW Gb (look [(140,yt)]) yp Tryz.f173 (g,n,()) (λ(z:Bool)=>z=List.any g (λp=>!Hm n.1 p)):=by
 refine Eq.mp (Apa g n _) ⟨_,Ab h,?_⟩
 rw [Bool.eq_iff_iff,Jf]
 exact cP _ g 0 (Sf 0)
theorem WH:Sound Tryz.prog 173 yp:=
 Sound.Gt Dt (Av WK Bp) mixed Tryz.func173 (by kernel_rfl) (by kernel_rfl) λx h=>Aom x.1 x.2.1 h
theorem zZ (n:Int) (g:List (List Int)) (h:Nu g):fnW Gb (look [(100,Cr),(173,yp)]) Ms Tryz.f150 (n,g,()) (λ(z:Bool)=>z=Qg n g):=by
 refine Eq.mp (CP n g _) ⟨_,Ab trivial,⟨λhp=>?_,λhp=>?_⟩⟩
 ·have hp:Ml n 1 20=true:=hp
  rw [Ej] at hp
  refine Br.dec (λhl=>⟨_,Ab h,?_⟩) λhl=>?_
  ·show (!List.any g (λp=>!Hm n p))=Qg n g
   cases ha:List.any g (λp=>!Hm n p) with
   |true=>
    obtain ⟨p,tt,RT⟩:=Ey.1 ha
    exact Dh λhh=>by rw [hh.2.2 p tt] at RT;cases RT
   |false=>
    refine No ⟨hp,by omega,λp hm=>?_⟩
    have:=List.any_eq_false.1 ha p hm
    simpa using this
  ·exact Dh λhh=>by have:=hh.2.1;omega
 ·refine Dh λhh=>?_
  have:Ml n 1 20=true:=Ej.2 hh.1
  have hp:Ml n 1 20=false:=hp
  rw [this] at hp;cases hp
theorem pJ:Sound Tryz.prog 150 Ms:=
 Sound.Gt Dt (Av Su (Av WH Bp)) mixed Tryz.func150 (by kernel_rfl) (by kernel_rfl) λx h=>zZ x.1 x.2.1 h
theorem Mw {s:ByteArray} {k:Nat} (h:k<s.size):s[k]?=some s[k]:=getElem?_pos s k h
theorem Abe (s:ByteArray) (i:Int) (h:0<=i/\i<s.size/\s.size<=4294967296):fnW Gb (look []) eM Tryz.f123 (s,i,()) (λ(z:Bool)=>z=nM s i):=by
 obtain ⟨h1,h2,h3⟩:=h
 have hi:i.toNat<s.size:=by omega
 refine Eq.mp (Ad4 s i _) ⟨h1,_,Mw hi,Br.dec (λhq=>?_) λhq=>⟨h1,_,Mw hi,Br.dec (λhr=>?_) λhr=>?_⟩⟩
 ·refine Dh λ⟨c,hc,hc1,_⟩=>?_
  rw [Mw hi] at hc;cases hc;omega
 ·refine Dh λ⟨c,hc,_,hc1,_⟩=>?_
  rw [Mw hi] at hc;cases hc;omega
 ·refine Bw i.toNat (λv=>v.1) (λj _=> ∀k,k<j->s[k]?≠some s[i.toNat]) rfl (λk hk=>absurd hk (Dn _)) ?_
  rintro j ⟨i',⟨⟩⟩ K hj kZ hR hK
  dsimp only at kZ⊢
  subst kZ
  refine Br.dec (λhl=>?_) λhl=>?_
  ·have hl:j<i.toNat:=by omega
   have hj:j<s.size:=by omega
   rw [Aj]
   refine ⟨by omega,_,Mw hj,h1,_,Mw hi,⟨λhe=>?_,λhe=>?_⟩⟩
   ·simp only [Xg,Ly] at he
    refine Dh λ⟨c,hc,_,_,hc1⟩=>?_
    rw [Mw hi] at hc;cases hc
    exact hc1 j hl (by rw [Mw hj,UInt8.toNat_inj.1 he])
   ·simp only [Jr,ne_eq,Ly] at he
    rw [Bm (by omega)]
    refine hK hl _ rfl λk hk=>?_
    by_cases e:k=j
    ·subst e
     rw [Mw hj]
     exact λe=>he (by rw [Bd e])
    ·exact hR k (by omega)
  ·have:j=i.toNat:=by omega
   subst this
   exact No ⟨_,Mw hi,by omega,by omega,hR⟩
theorem BN:Sound Tryz.prog 123 eM:=
 Sound.Gt Dt Bp mixed Tryz.func123 (by kernel_rfl) (by kernel_rfl) λx h=>Abe x.1 x.2.1 h
theorem VF (s:ByteArray) (h:s.size<=4294967296):fnW Gb (look [(100,Cr)]) bn Tryz.f151 (s,()) (λ(z:Bool)=>z=bg s):=by
 refine Eq.mp (XK s _) ?_
 refine Bw s.size (λv=>v.1) (λj _=> ∀k,k<j->yL s k) rfl (λk hk=>absurd hk (Dn _)) ?_
 rintro j ⟨i,⟨⟩⟩ K hj hi hR hK
 dsimp only at hi⊢
 subst hi
 refine Br.dec (λhl=>?_) λhl=>?_
 ·have hl:j<s.size:=by omega
  rw [Aj]
  have hb:=(s[j]).toNat_lt
  refine ⟨by omega,_,Mw hl,_,Ab trivial,⟨λhq=>?_,λhq=>?_⟩⟩
  ·have hq:=Ew hq
   rw [Ej] at hq
   dsimp only at hq
   rw [Df (by omega) (by omega)] at hq
   refine Dh λhh=>?_
   obtain ⟨c,hc,hc1,hc2,_⟩:=hh.2 j hl
   rw [Mw hl] at hc;cases hc
   exact hq ⟨by omega,by omega⟩
  ·have hq:=El hq
   rw [Ej] at hq
   dsimp only at hq
   rw [Df (by omega) (by omega)] at hq
   refine Bw j (λv=>v.1) (λm _=> ∀k,k<m->s[k]?≠some s[j]) rfl (λk hk=>absurd hk (Dn _)) ?_
   rintro m ⟨i',⟨⟩⟩ K' hm kZ hR' hK'
   dsimp only at kZ⊢
   subst kZ
   refine Br.dec (λJv=>?_) λJv=>?_
   ·have Jv:m<j:=by omega
    have FL:m<s.size:=by omega
    rw [Aj]
    refine ⟨by omega,_,Mw FL,by omega,_,Mw hl,⟨λhe=>?_,λhe=>?_⟩⟩
    ·simp only [Xg,Ly] at he
     refine Dh λhh=>?_
     obtain ⟨c,hc,_,_,hc1⟩:=hh.2 j hl
     rw [Mw hl] at hc;cases hc
     exact hc1 m Jv (by rw [Mw FL,UInt8.toNat_inj.1 he])
    ·simp only [Jr,ne_eq,Ly] at he
     rw [Bm (by omega)]
     refine hK' Jv _ rfl λk hk=>?_
     by_cases e:k=m
     ·subst e
      rw [Mw FL]
      exact λe=>he (by rw [Bd e])
     ·exact hR' k (by omega)
   ·have:m=j:=by omega
    subst this
    rw [Bm (by omega)]
    refine hK hl _ rfl λk hk=>?_
    by_cases e:k=m
    ·subst e
     exact ⟨_,Mw hl,by omega,by omega,hR'⟩
    ·exact hR k (by omega)
 ·have:j=s.size:=by omega
  subst this
  refine ⟨_,Ab trivial,?_⟩
  show Ml s.size 1 8=_
  cases hr:Ml s.size 1 8 with
  |true=>rw [Ej] at hr;exact No ⟨by omega,hR⟩
  |false=>refine Dh λhh=>?_;rw [Ej.2 ⟨by omega,by omega⟩] at hr;cases hr
theorem wN:Sound Tryz.prog 151 bn:=
 Sound.Gt Dt (Av Su Bp) mixed Tryz.func151 (by kernel_rfl) (by kernel_rfl) λx h=>VF x.1 h
theorem PM {p:PP} (h:Cb p=true):1<=p.1/\p.1<=20/\1<=p.2.2.1.length/\p.2.2.1.length<=8:=by
 obtain ⟨h1,h2,h3⟩:=Gi.1 h
 obtain ⟨h4,h5,_⟩:=Gi.1 h1
 obtain ⟨h6,_⟩:=Gi.1 h2
 omega
theorem AJ (p:PP) (h:Gw p):fnW Gb (look [(122,Ms),(123,eM)]) Ig Tryz.f63 (p,()) (λ(z:Bool)=>z=Cb p):=by
 obtain ⟨hn,hg⟩:=h
 refine Eq.mp (CY p _) ⟨λh0=>?_,λh0=>⟨λh1=>?_,λh1=>⟨_,Ab hg,⟨λh2=>?_,λh2=>?_⟩⟩⟩⟩
 ·simp only [Xg] at h0
  exact Dh λhh=>by obtain ⟨_,h2,h3⟩:=hh;have:=(Gi.1 h2).1;omega
 ·simp only [bne_iff_ne,ne_eq,Ly] at h1
  exact Dh λhh=>h1 hh.2.2
 ·have h2:=Ew h2
  exact Dh λhh=>h2 hh.1
 ·simp only [Jr,ne_eq] at h0
  simp only [Xu,Ly] at h1
  have h2:Qg p.1 p.2.2.1=true:=El h2
  refine Bw p.2.1.size (λv=>v.1) (λj v=>v.2=(p.1,p.2.1,p.2.2.1,())/\ ∀k,k<j->yL p.2.1 k) rfl ⟨rfl,λk hk=>absurd hk (Dn _)⟩ ?_
  rintro j ⟨i,v⟩ K hj hi ⟨hv,hR⟩ hK
  dsimp only at hi hv⊢
  subst hi hv
  dsimp only
  refine Br.dec (λhl=>?_) λhl=>?_
  ·have hl:j<p.2.1.size:=by omega
   refine ⟨_,Ab ⟨Int.natCast_nonneg j,Int.ofNat_lt.2 hl,hn⟩,⟨λhq=>?_,λhq=>?_⟩⟩
   ·have hq: ¬nM p.2.1 j=true:=Ew hq
    refine Dh λhh=>hq (Gi.2 ?_)
    rw [Aj]
    exact (Gi.1 hh.2.1).2 j hl
   ·have hq:nM p.2.1 j=true:=El hq
    have hq:=Gi.1 hq
    rw [Aj] at hq
    rw [Bm (by omega)]
    refine hK hl _ rfl ⟨rfl,λk hk=>?_⟩
    by_cases e:k=j
    ·subst e;exact hq
    ·exact hR k (by omega)
  ·have:j=p.2.1.size:=by omega
   subst this
   have:=(Gi.1 h2).2.1
   exact No ⟨h2,Gi.2 ⟨⟨by omega,by omega⟩,hR⟩,h1⟩
theorem Ss:Sound Tryz.prog 63 Ig:=
 Sound.Gt Dt (Av eS (Av BN Bp)) mixed Tryz.func63 (by kernel_rfl) (by kernel_rfl) λx h=>AJ x.1 h
theorem AF (p:PP) (h:Gw p):fnW Gb (look [(150,Ms),(151,bn)]) Ig Tryz.f99 (p,()) (λ(z:Bool)=>z=Cb p):=by
 obtain ⟨hn,hg⟩:=h
 refine Eq.mp (CU p _) ⟨_,Ab hg,⟨λh1=>⟨_,Ab hn,⟨λh2=>?_,λh2=>?_⟩⟩,λh1=>?_⟩⟩
 ·have h1:Qg p.1 p.2.2.1=true:=h1
  have h2:bg p.2.1=true:=h2
  by_cases e:p.2.1.size=p.2.2.1.length
  ·rw [e,beq_self_eq_true];exact No ⟨h1,h2,e⟩
  ·rw [show ((p.2.1.size:Int)==(p.2.2.1.length:Int))=false from Jr.2 (by omega)];exact Dh λhh=>e hh.2.2
 ·have h2:bg p.2.1=false:=h2
  exact Dh λhh=>by rw [hh.2.1] at h2;cases h2
 ·have h1:Qg p.1 p.2.2.1=false:=h1
  exact Dh λhh=>by rw [hh.1] at h1;cases h1
theorem eR:Sound Tryz.prog 99 Ig:=
 Sound.Gt Dt (Av pJ (Av wN Bp)) mixed Tryz.func99 (by kernel_rfl) (by kernel_rfl) λx h=>AF x.1 h
theorem NN (xs ys:List Int) (h:short xs):fnW Gb (look [(93,Ik)]) Yq Tryz.f141 (xs,ys,()) (λ(z:Bool)=>z=decide (xs=ys)):=Eq.mp (PX xs ys _) ⟨_,Ab h,rfl⟩
theorem uQ:Sound Tryz.prog 141 Yq:=
 Sound.Gt Dt (Av dc Bp) mixed Tryz.func141 (by kernel_rfl) (by kernel_rfl) λx h=>NN x.1 x.2.1 h
theorem Aor (g:List (List Int)) (n:List Int×Unit) (h:Nu g):fnW Gb (look [(141,Yq)]) yw Tryz.f140 (g,n,()) (λ(z:Int)=>z=Ep (λp=>decide (p=n.1)) g 0):=by
 obtain ⟨h,h4⟩:=h
 refine Eq.mp (Apf g n _) ?_
 refine Bw g.length (λv=>v.1) (λj _=>Ep (λp=>decide (p=n.1)) (g.drop j) j=Ep (λp=>decide (p=n.1)) g 0) rfl (by simp) ?_
 rintro j ⟨i,⟨⟩⟩ K hj hi hR hK
 dsimp only at hi⊢
 subst hi
 refine Br.dec (λhl=>?_) λhl=>?_
 ·have hl:j<g.length:=by omega
  rw [Gm hl] at hR
  simp only [Ep] at hR
  refine ⟨_,Co hl,_,Ab (h4 _ (Al hl)),⟨λhe=>?_,λhe=>?_⟩⟩
  ·have he:decide (g[j]=n.1)=true:=he
   rw [Ab he] at hR
   exact hR
  ·have he:decide (g[j]=n.1)=false:=he
   rw [Ak (by rw [he];decide)] at hR
   rw [Bm (by omega)]
   exact hK hl _ rfl (by push_cast;exact hR)
 ·have:j=g.length:=by omega
  subst this
  rw [Pb] at hR
  exact hR
theorem WM:Sound Tryz.prog 140 yw:=
 Sound.Gt Dt (Av uQ Bp) mixed Tryz.func140 (by kernel_rfl) (by kernel_rfl) λx h=>Aor x.1 x.2.1 h
theorem VE (g:List (List Int)) (xs:List Int) (h:Nu g/\short xs):fnW Gb (look [(140,yw)]) bm Tryz.f89 (g,xs,()) (λ(z:Int)=>z=Ep (λp=>decide (p=xs)) g 0):=Eq.mp (XJ g xs _) ⟨_,Ab h.1,rfl⟩
theorem wM:Sound Tryz.prog 89 bm:=
 Sound.Gt Dt (Av WM Bp) mixed Tryz.func89 (by kernel_rfl) (by kernel_rfl) λx h=>VE x.1 x.2.1 h
noncomputable abbrev eN:Spec:=Gt (.pair tI (.pair tL .unit)) .bool false true (λx=>short x.2.1) (λx=>Hm x.1 x.2.1)
noncomputable abbrev Yr:Spec:=Gt (.pair Ix (.pair tL .unit)) .bool false true (λx=>short x.2.1) (λx=>Hm x.1.1 x.2.1)
noncomputable abbrev Ni:Spec:=Gt (.pair Ix (.pair tL .unit)) .bool false true (λx=>Gw x.1/\short x.2.1) (λx=>Cb x.1&&Hm x.1.1 x.2.1)
theorem Ad5 (n:Int) (s:List Int) (P:Bool->Prop):(Br ((↑s.length:Int)==n) (∃(y3:Bool),Jd.fn (s,())=some y3/\P y3) (P false))=fnW Gb (look [(162,Jd)]) eN Tryz.f124 (n,s,()) P:=by kernel_rfl
theorem vC (p:Int×ByteArray×List (List Int)×Unit) (s:List Int) (P:Bool->Prop):(∃(y3:Int),Tg.fn (s,())=some y3/\Br (y3==p.1) (∃(y4:Bool),Jd.fn (s,())=some y4/\P y4) (P false))=fnW Gb (look [(105,Tg),(130,Jd)]) Yr Tryz.f78 (p,s,()) P:=by kernel_rfl
theorem xc (p:Int×ByteArray×List (List Int)×Unit) (s:List Int) (P:Bool->Prop):(∃(y3:Bool),Ig.fn ((p.1,p.2.1,p.2.2.1,()),())=some y3/\Br y3 (∃(y4:Bool),eN.fn (p.1,s,())=some y4/\P y4) (P false))=fnW Gb (look [(63,Ig),(124,eN)]) Ni Tryz.f64 (p,s,()) P:=by kernel_rfl
theorem Abf (n:Int) (s:List Int) (h:short s):fnW Gb (look [(162,Jd)]) eN Tryz.f124 (n,s,()) (λ(z:Bool)=>z=Hm n s):=by
 refine Eq.mp (Ad5 n s _) ⟨λhe=>⟨_,Ab h,?_⟩,λhe=>?_⟩
 ·simp only [Xg] at he
  show Jy s=_
  cases hp:Jy s with
  |true=>exact No ⟨he,hp⟩
  |false=>exact Dh λhh=>by rw [hh.2] at hp;cases hp
 ·simp only [Jr,ne_eq] at he
  exact Dh λhh=>he hh.1
theorem BO:Sound Tryz.prog 124 eN:=
 Sound.Gt Dt (Av Yy Bp) mixed Tryz.func124 (by kernel_rfl) (by kernel_rfl) λx h=>Abf x.1 x.2.1 h
theorem ua (p:PP) (s:List Int) (h:short s):fnW Gb (look [(105,Tg),(130,Jd)]) Yr Tryz.f78 (p,s,()) (λ(z:Bool)=>z=Hm p.1 s):=by
 refine Eq.mp (vC p s _) ⟨_,Ab trivial,⟨λhe=>⟨_,Ab h,?_⟩,λhe=>?_⟩⟩
 ·simp only [Xg] at he
  show Jy s=_
  cases hp:Jy s with
  |true=>exact No ⟨he,hp⟩
  |false=>exact Dh λhh=>by rw [hh.2] at hp;cases hp
 ·simp only [Jr,ne_eq] at he
  exact Dh λhh=>he hh.1
theorem mA:Sound Tryz.prog 78 Yr:=
 Sound.Gt Dt (Av fV (Av eQ Bp)) mixed Tryz.func78 (by kernel_rfl) (by kernel_rfl) λx h=>ua x.1 x.2.1 h
theorem wC (p:PP) (s:List Int) (h:Gw p/\short s):fnW Gb (look [(63,Ig),(124,eN)]) Ni Tryz.f64 (p,s,()) (λ(z:Bool)=>z=(Cb p&&Hm p.1 s)):=by
 refine Eq.mp (xc p s _) ⟨_,Ab h.1,⟨λhe=>⟨_,Ab h.2,?_⟩,λhe=>?_⟩⟩
 ·have he:Cb p=true:=he
  rw [he];rfl
 ·have he:Cb p=false:=he
  rw [he];rfl
theorem Wy:Sound Tryz.prog 64 Ni:=
 Sound.Gt Dt (Av Ss (Av BO Bp)) mixed Tryz.func64 (by kernel_rfl) (by kernel_rfl) λx h=>wC x.1 x.2.1 h
def Hi (xs:List Int) (i:Int):Int:=xs.getD i.toNat 0
def Af (p q:List Int):List Int:=p.map (Hi q)
def cG (f:Nat->Nat) (g:Nat->Int) (m:Nat) (init:List Int):List Int:=(List.range m).foldl (λ(out:List Int) (i:Nat)=>out.set (f i) (g i)) init
def Bb (p:List Int):List Int:=cG (λi=>(Hi p (i:Int)).toNat) (λi=>(i:Int)) p.length (List.replicate p.length 0)
def Lq (n:Nat) (p:List Int):Prop:= ∀y∈p,0<=y/\y<n
noncomputable abbrev Jc:Spec:=Gt (.pair tL (.pair tL .unit)) tL false true (λx=>List.length x.1<=20/\Lq (List.length x.2.1) x.1) (λx=>Af x.1 x.2.1)
noncomputable abbrev Fo:Spec:=Gt (.pair tL .unit) tL false true (λx=>List.length x.1<=20/\Lq (List.length x.1) x.1) (λx=>Bb x.1)
noncomputable abbrev Dp:Spec:=Gt (.pair tI .unit) tL false true (λx=>0<=x.1/\x.1<=20) (λx=>upto x.1.toNat)
noncomputable abbrev Qt:Spec:=Gt (.pair tL .unit) tL false true (λx=>Jy x.1=true) (λx=>Bb x.1)
def Ax (g:List (List Int)) (l:Int):List Int:=if l>0 then g.getD (l-1).toNat [] else Bb (g.getD (-l-1).toNat [])
def Hq (n:Int) (l:Int):Prop:=l≠0/\ -n<=l/\l<=n
noncomputable abbrev Hy:Spec:=Gt (.pair rH (.pair tI .unit)) tL false false (λx=>Hq (List.length x.1) x.2.1/\List.length x.1<=8/\ ∀p∈x.1,Jy p=true) (λx=>Ax x.1 x.2.1)
def Ca (n:Nat):List Int:=(List.range n).flatMap λ(k:Nat)=> [(k:Int)+1,-((k:Int)+1)]
noncomputable abbrev Nj:Spec:=Gt (.pair tI .unit) tL false true (λx=>0<=x.1/\x.1<=8) (λx=>Ca x.1.toNat)
noncomputable abbrev eK:Spec:=Gt (.pair Ix (.pair tL (.pair tI .unit))) tL false true (λx=>Cb x.1=true/\List.length x.2.1<=20/\(∀y∈x.2.1,0<=y/\y<x.1.1)/\Hq (List.length x.1.2.2.1) x.2.2.1) (λx=>Af x.2.1 (Ax x.1.2.2.1 x.2.2.1))
theorem x5 (p q:List Int) (P:List Int->Prop):(((0:Int)<=(↑p.length:Int)/\(↑p.length:Int)<(↑Db:Int)+(1:Int))/\(↑p.length:Int)=(↑p.length:Int)/\0=0/\(List.replicate (↑p.length:Int).toNat (Int.ofNat (nat_lit 0))).length=(List.replicate (↑p.length:Int).toNat (Int.ofNat (nat_lit 0))).length/\Dm (λ(v3:Int×List Int×PUnit) (k4:Int×List Int×PUnit->Prop)=>Br (decide (v3.1<(↑p.length:Int))) (∃(y5:Int),idx p v3.1=some y5/\ ∃(y6:Int),idx q y5=some y6/\((0:Int)<=v3.1/\v3.1<(↑v3.2.1.length:Int))/\0+v3.1.toNat<v3.2.1.length/\0=0/\v3.2.1.length=(v3.2.1.set (0+v3.1.toNat) y6).length/\k4 (IntKind.i64.wrap (v3.1+(1:Int)),v3.2.1.set (0+v3.1.toNat) y6,())) (P (List.take v3.2.1.length (List.drop 0 v3.2.1)))) ((0:Int),List.replicate (↑p.length:Int).toNat (Int.ofNat (nat_lit 0)),PUnit.unit))=fnW Gb (look []) Jc Tryz.f134 (p,q,()) P:=by kernel_rfl
theorem x6 (p:List Int) (P:List Int->Prop):(((0:Int)<=(↑p.length:Int)/\(↑p.length:Int)<(↑Db:Int)+(1:Int))/\(↑p.length:Int)=(↑p.length:Int)/\0=0/\(List.replicate (↑p.length:Int).toNat (Int.ofNat (nat_lit 0))).length=(List.replicate (↑p.length:Int).toNat (Int.ofNat (nat_lit 0))).length/\Dm (λ(v2:Int×List Int×PUnit) (k3:Int×List Int×PUnit->Prop)=>Br (decide (v2.1<(↑p.length:Int))) (∃(y4:Int),idx p v2.1=some y4/\((0:Int)<=y4/\y4<(↑v2.2.1.length:Int))/\0+y4.toNat<v2.2.1.length/\0=0/\v2.2.1.length=(v2.2.1.set (0+y4.toNat) v2.1).length/\k3 (IntKind.i64.wrap (v2.1+(1:Int)),v2.2.1.set (0+y4.toNat) v2.1,())) (P (List.take v2.2.1.length (List.drop 0 v2.2.1)))) ((0:Int),List.replicate (↑p.length:Int).toNat (Int.ofNat (nat_lit 0)),PUnit.unit))=fnW Gb (look []) Fo Tryz.f58 (p,()) P:=by kernel_rfl
theorem XT (p:List Int) (P:List Int->Prop):(((0:Int)<=(↑p.length:Int)/\(↑p.length:Int)<(↑Db:Int)+(1:Int))/\(↑p.length:Int)=(↑p.length:Int)/\0=0/\(List.replicate (↑p.length:Int).toNat (Int.ofNat (nat_lit 0))).length=(List.replicate (↑p.length:Int).toNat (Int.ofNat (nat_lit 0))).length/\Dm (λ(v2:Int×List Int×PUnit) (k3:Int×List Int×PUnit->Prop)=>Br (decide (v2.1<(↑p.length:Int))) (∃(y4:Int),idx p v2.1=some y4/\((0:Int)<=y4/\y4<(↑v2.2.1.length:Int))/\0+y4.toNat<v2.2.1.length/\0=0/\v2.2.1.length=(v2.2.1.set (0+y4.toNat) v2.1).length/\k3 (IntKind.i64.wrap (v2.1+(1:Int)),v2.2.1.set (0+y4.toNat) v2.1,())) (P (List.take v2.2.1.length (List.drop 0 v2.2.1)))) ((0:Int),List.replicate (↑p.length:Int).toNat (Int.ofNat (nat_lit 0)),PUnit.unit))=fnW Gb (look []) Fo Tryz.f163 (p,()) P:=by kernel_rfl
theorem xb (p:List Int) (P:List Int->Prop):(∃(y2:Bool),Jd.fn (p,())=some y2/\Br (!y2) (P (List.take 0 (List.drop 0 []))) (∃(y3:List Int),Fo.fn (p,())=some y3/\P y3))=fnW Gb (look [(162,Jd),(163,Fo)]) Qt Tryz.f125 (p,()) P:=by kernel_rfl
theorem PW (n:Int) (P:List Int->Prop):(0=0/\0=([]:List Int).length/\Dm (λ(v2:Int×List Int×PUnit) (k3:Int×List Int×PUnit->Prop)=>Br (decide (v2.1<n)) (0=0/\v2.2.1.length=v2.2.1.length/\v2.2.1.length+(List.take 1 (List.drop 0 [v2.1])).length<=Db/\0=0/\(v2.2.1++List.take 1 (List.drop 0 [v2.1])).length=(v2.2.1++List.take 1 (List.drop 0 [v2.1])).length/\k3 (IntKind.i64.wrap (v2.1+(1:Int)),v2.2.1++List.take 1 (List.drop 0 [v2.1]),())) (P (List.take v2.2.1.length (List.drop 0 v2.2.1)))) ((0:Int),[],PUnit.unit))=fnW Gb (look []) Dp Tryz.f96 (n,()) P:=by kernel_rfl
theorem PZ (g:List (List Int)) (l:Int) (P:List Int->Prop):(Br (decide (l>(0:Int))) (∃(y3:List Int),idx g (IntKind.i64.wrap (l-(1:Int)))=some y3/\P y3) (∃(y3:List Int),idx g (IntKind.i64.wrap (IntKind.i64.wrap ((0:Int)-l)-(1:Int)))=some y3/\ ∃(y4:List Int),Fo.fn (y3,())=some y4/\P y4))=fnW Gb (look [(58,Fo)]) Hy Tryz.f135 (g,l,()) P:=by kernel_rfl
theorem XN (n:Int) (P:List Int->Prop):(0=0/\0=([]:List Int).length/\Dm (λ(v2:Int×List Int×PUnit) (k3:Int×List Int×PUnit->Prop)=>Br (decide (v2.1<n)) (0=0/\v2.2.1.length=v2.2.1.length/\v2.2.1.length+(List.take 2 (List.drop 0 [IntKind.i64.wrap (v2.1+(1:Int)),IntKind.i64.wrap ((0:Int)-IntKind.i64.wrap (v2.1+(1:Int)))])).length<=Db/\0=0/\(v2.2.1++List.take 2 (List.drop 0 [IntKind.i64.wrap (v2.1+(1:Int)),IntKind.i64.wrap ((0:Int)-IntKind.i64.wrap (v2.1+(1:Int)))])).length=(v2.2.1++List.take 2 (List.drop 0 [IntKind.i64.wrap (v2.1+(1:Int)),IntKind.i64.wrap ((0:Int)-IntKind.i64.wrap (v2.1+(1:Int)))])).length/\k3 (IntKind.i64.wrap (v2.1+(1:Int)),v2.2.1++List.take 2 (List.drop 0 [IntKind.i64.wrap (v2.1+(1:Int)),IntKind.i64.wrap ((0:Int)-IntKind.i64.wrap (v2.1+(1:Int)))]),())) (P (List.take v2.2.1.length (List.drop 0 v2.2.1)))) ((0:Int),[],PUnit.unit))=fnW Gb (look []) Nj Tryz.f139 (n,()) P:=by kernel_rfl
theorem Acz (p:Int×ByteArray×List (List Int)×Unit) (s:List Int) (l:Int) (P:List Int->Prop):(∃(y4:List Int),idx p.2.2.1 (IntKind.i64.wrap ((if true=true then if IntKind.i64.wrap ((0:Int)-l)>l then IntKind.i64.wrap ((0:Int)-l) else l else if IntKind.i64.wrap ((0:Int)-l)<l then IntKind.i64.wrap ((0:Int)-l) else l)-(1:Int)))=some y4/\Br (decide (l<(0:Int))) (∃(y5:List Int),Qt.fn (y4,())=some y5/\0=0/\0=([]:List Int).length/\Dm (λ(v6:Int×List Int×PUnit) (k7:Int×List Int×PUnit->Prop)=>Br (decide (v6.1<(↑s.length:Int))) (∃(y8:Int),idx s v6.1=some y8/\ ∃(y9:Int),idx y5 y8=some y9/\0=0/\v6.2.1.length=v6.2.1.length/\v6.2.1.length+(List.take 1 (List.drop 0 [y9])).length<=Db/\0=0/\(v6.2.1++List.take 1 (List.drop 0 [y9])).length=(v6.2.1++List.take 1 (List.drop 0 [y9])).length/\k7 (IntKind.i64.wrap (v6.1+(1:Int)),v6.2.1++List.take 1 (List.drop 0 [y9]),())) (P (List.take v6.2.1.length (List.drop 0 v6.2.1)))) ((0:Int),[],PUnit.unit)) (0=0/\0=([]:List Int).length/\Dm (λ(v5:Int×List Int×PUnit) (k6:Int×List Int×PUnit->Prop)=>Br (decide (v5.1<(↑s.length:Int))) (∃(y7:Int),idx s v5.1=some y7/\ ∃(y8:Int),idx y4 y7=some y8/\0=0/\v5.2.1.length=v5.2.1.length/\v5.2.1.length+(List.take 1 (List.drop 0 [y8])).length<=Db/\0=0/\(v5.2.1++List.take 1 (List.drop 0 [y8])).length=(v5.2.1++List.take 1 (List.drop 0 [y8])).length/\k6 (IntKind.i64.wrap (v5.1+(1:Int)),v5.2.1++List.take 1 (List.drop 0 [y8]),())) (P (List.take v5.2.1.length (List.drop 0 v5.2.1)))) ((0:Int),[],PUnit.unit)))=fnW Gb (look [(125,Qt)]) eK Tryz.f66 (p,s,l,()) P:=by kernel_rfl
theorem Is {xs:List Int} {i:Nat} (h:i<xs.length):Hi xs (i:Int)=xs[i]:=by
 unfold Hi
 rw [Aj,Ai,Ac h];rfl
theorem ez {xs:List Int} {y:Int} (h0:0<=y) (h:y<xs.length):idx xs y=some (Hi xs y):=by
 have hy:y.toNat<xs.length:=by omega
 have e:y=(y.toNat:Int):=by omega
 rw [e,Co hy,Is hy]
theorem aR (f:Nat->Nat) (g:Nat->Int) (m:Nat) (init:List Int):cG f g (m+1) init=(cG f g m init).set (f m) (g m):=by simp [cG,il]
theorem cH (f:Nat->Nat) (g:Nat->Int) (m:Nat) (init:List Int):(cG f g m init).length=init.length:=by
 induction m with
 |zero=>rfl
 |succ m ih=>rw [aR,Cm,ih]
theorem qe (f:Nat->Nat) (g:Nat->Int) (init:List Int): ∀(m:Nat),(∀i j,i<m->j<m->f i=f j->i=j)-> ∀i,i<m->f i<init.length->(cG f g m init)[f i]?=some (g i)
 |0,_,i,h,_=>absurd h (Dn _)
 |m+1,hf,i,hi,hl=>by
  rw [aR]
  by_cases e:i=m
  ·subst e
   exact List.getElem?_set_self (by rw [cH];exact hl)
  ·rw [List.getElem?_set_ne (λh=>e (hf i m hi (by omega) h.symm))]
   exact qe f g init m (λa b ha hb=>hf a b (by omega) (by omega)) i (by omega) hl
structure bA (p:List Int):Prop where
 pos:1<=p.length
 len:p.length<=20
 row:Lq p.length p
 nodup:p.Nodup
theorem dA {p:List Int} (h:Jy p=true):bA p:=by
 obtain ⟨h1,h2,h3⟩:=Gi.1 h
 refine ⟨h1,h2,λy hy=>?_,j7 λj hj=>(h3 j hj hj).2.2⟩
 obtain ⟨j,hj,rfl⟩:=Bh.1 hy
 have:=h3 j hj hj
 omega
theorem bA.inj {p:List Int} (h:bA p) (i j:Nat) (hi:i<p.length) (hj:j<p.length) (e:(Hi p (i:Int)).toNat=(Hi p (j:Int)).toNat):i=j:=by
 rw [Is hi,Is hj] at e
 have h1:=h.row _ (Al hi)
 have h2:=h.row _ (Al hj)
 have e:p[i]=p[j]:=by omega
 refine Bk λIz=>?_
 rcases Nat.lt_or_gt_of_ne Iz with hl|hl
 ·exact Ds.1 h.nodup i j hi hj hl e
 ·exact Ds.1 h.nodup j i hj hi hl e.symm
theorem bA.UW {p:List Int} (h:bA p) (k:Nat) (hk:k<p.length): ∃i,i<p.length/\(Hi p (i:Int)).toNat=k:=by
 have hm:=(dp (xs:=p) h.row).2 (vr h.nodup) k hk
 obtain ⟨i,hi,e⟩:=Bh.1 hm
 exact ⟨i,hi,by rw [Is hi,e];exact Aj k⟩
theorem bA.lt {p:List Int} (h:bA p) {i:Nat} (hi:i<p.length):(Hi p (i:Int)).toNat<p.length:=by
 rw [Is hi]
 have:=h.row _ (Al hi)
 omega
theorem nC (p:List Int):(Bb p).length=p.length:=by unfold Bb;rw [cH,Gh]
theorem Aah {p:List Int} (h:bA p) {i:Nat} (hi:i<p.length):(Bb p)[(Hi p (i:Int)).toNat]?=some (i:Int):=
 qe (λi=>(Hi p (i:Int)).toNat) (λi=>(i:Int)) _ p.length (λi j hi hj=>h.inj i j hi hj) i hi (by rw [Gh];exact h.lt hi)
theorem Aet {p:List Int} (h:bA p):Lq p.length (Bb p):=by
 intro y hy
 obtain ⟨k,hk,rfl⟩:=Bh.1 hy
 have tm:k<p.length:=by rw [nC] at hk;exact hk
 obtain ⟨i,hi,rfl⟩:=h.UW k tm
 have:=Aah h hi
 rw [Ac hk] at this
 rw [Bd this]
 omega
theorem Pf (p q:List Int):(Af p q).length=p.length:=by simp [Af]
theorem EH {p q:List Int} {n:Nat} (hp:Lq q.length p) (hq:Lq n q):Lq n (Af p q):=by
 intro y hy
 obtain ⟨x,hx,rfl⟩:=Bg.1 hy
 have h1:=hp x hx
 rw [show x=(x.toNat:Int) by omega,Is (by omega)]
 exact hq _ (Al _)
theorem wo (p q:List Int) (h:p.length<=20/\Lq q.length p):fnW Gb (look []) Jc Tryz.f134 (p,q,()) (λ(z:List Int)=>z=Af p q):=by
 obtain ⟨h,hr⟩:=h
 refine Eq.mp (x5 p q _) ?_
 refine ⟨⟨by omega,by show (p.length:Int)<(4294967296:Int)+1;omega⟩,rfl,rfl,rfl,?_⟩
 have Pc:=Pf p q
 refine Bw p.length (λv=>v.1) (λj v=>v.2.1.length=(Af p q).length/\v.2.1.take j=(Af p q).take j) rfl ⟨by rw [Pc];simp,by simp⟩ ?_
 rintro j ⟨i,ys,⟨⟩⟩ K hj hi ⟨h1,h2⟩ hK
 dsimp only at hi h1 h2⊢
 subst hi
 refine Br.dec (λhl=>?_) λhl=>?_
 ·have hl:j<p.length:=by omega
  have hy:=hr _ (Al hl)
  refine ⟨_,Co hl,_,ez hy.1 hy.2,⟨by omega,by omega⟩,by rw [Aj];omega,rfl,by rw [Cm],?_⟩
  rw [Bm (by omega),Aj,Bo]
  have Jv:j<(Af p q).length:=by rw [Pc];exact hl
  have e:Hi q p[j]=(Af p q)[j]:=by simp [Af]
  rw [e]
  exact hK hl _ rfl ⟨by rw [Cm];exact h1,dH Jv h1 h2⟩
 ·have:j=p.length:=by omega
  subst this
  rw [<-Pc,Ay,<-h1,Ay] at h2
  rw [Ea,Ay]
  exact h2
theorem Rg:Sound Tryz.prog 134 Jc:=
 Sound.Gt Dt Bp mixed Tryz.func134 (by kernel_rfl) (by kernel_rfl) λx h=>wo x.1 x.2.1 h
theorem wq (p:List Int) (h:p.length<=20/\Lq p.length p):fnW Gb (look []) Fo Tryz.f58 (p,()) (λ(z:List Int)=>z=Bb p):=by
 obtain ⟨h,hr⟩:=h
 refine Eq.mp (x6 p _) ?_
 refine ⟨⟨by omega,by show (p.length:Int)<(4294967296:Int)+1;omega⟩,rfl,rfl,rfl,?_⟩
 refine Bw p.length (λv=>v.1) (λj v=>v.2.1=cG (λi=>(Hi p (i:Int)).toNat) (λi=>(i:Int)) j (List.replicate p.length 0)) rfl rfl ?_
 rintro j ⟨i,ys,⟨⟩⟩ K hj hi h1 hK
 dsimp only at hi h1⊢
 subst hi
 have hlen:ys.length=p.length:=by rw [h1,cH,Gh]
 refine Br.dec (λhl=>?_) λhl=>?_
 ·have hl:j<p.length:=by omega
  have hy:=hr _ (Al hl)
  refine ⟨_,Co hl,⟨by omega,by omega⟩,by omega,rfl,by rw [Cm],?_⟩
  rw [Bm (by omega),Bo]
  refine hK hl _ rfl ?_
  rw [aR,<-h1,Is hl]
 ·have:j=p.length:=by omega
  subst this
  rw [Ea,Ay]
  exact h1
theorem Ww:Sound Tryz.prog 58 Fo:=
 Sound.Gt Dt Bp mixed Tryz.func58 (by kernel_rfl) (by kernel_rfl) λx h=>wq x.1 h
theorem VO (p:List Int) (h:p.length<=20/\Lq p.length p):fnW Gb (look []) Fo Tryz.f163 (p,()) (λ(z:List Int)=>z=Bb p):=by
 obtain ⟨h,hr⟩:=h
 refine Eq.mp (XT p _) ?_
 refine ⟨⟨by omega,by show (p.length:Int)<(4294967296:Int)+1;omega⟩,rfl,rfl,rfl,?_⟩
 refine Bw p.length (λv=>v.1) (λj v=>v.2.1=cG (λi=>(Hi p (i:Int)).toNat) (λi=>(i:Int)) j (List.replicate p.length 0)) rfl rfl ?_
 rintro j ⟨i,ys,⟨⟩⟩ K hj hi h1 hK
 dsimp only at hi h1⊢
 subst hi
 have hlen:ys.length=p.length:=by rw [h1,cH,Gh]
 refine Br.dec (λhl=>?_) λhl=>?_
 ·have hl:j<p.length:=by omega
  have hy:=hr _ (Al hl)
  refine ⟨_,Co hl,⟨by omega,by omega⟩,by omega,rfl,by rw [Cm],?_⟩
  rw [Bm (by omega),Bo]
  refine hK hl _ rfl ?_
  rw [aR,<-h1,Is hl]
 ·have:j=p.length:=by omega
  subst this
  rw [Ea,Ay]
  exact h1
theorem Zp:Sound Tryz.prog 163 Fo:=
 Sound.Gt Dt Bp mixed Tryz.func163 (by kernel_rfl) (by kernel_rfl) λx h=>VO x.1 h
theorem wB (p:List Int) (h:Jy p=true):fnW Gb (look [(162,Jd),(163,Fo)]) Qt Tryz.f125 (p,()) (λ(z:List Int)=>z=Bb p):=by
 have hp:=dA h
 have hs:short p:=by have:=hp.len;unfold short;omega
 refine Eq.mp (xb p _) ⟨_,Ab hs,⟨λhe=>?_,λ_=>⟨_,Ab ⟨hp.len,hp.row⟩,rfl⟩⟩⟩
 exact absurd h (Ew he)
theorem oe:Sound Tryz.prog 125 Qt:=
 Sound.Gt Dt (Av Yy (Av Zp Bp)) mixed Tryz.func125 (by kernel_rfl) (by kernel_rfl) λx h=>wB x.1 h
theorem Zb (j:Nat):upto (j+1)=upto j++ [(j:Int)]:=by simp [upto,il]
theorem NM (n:Int) (h:0<=n/\n<=20):fnW Gb (look []) Dp Tryz.f96 (n,()) (λ(z:List Int)=>z=upto n.toNat):=by
 refine Eq.mp (PW n _) ⟨rfl,rfl,?_⟩
 refine Bw n.toNat (λv=>v.1) (λj v=>v.2.1=upto j) rfl rfl ?_
 rintro j ⟨i,ys,⟨⟩⟩ K hj hi h1 hK
 dsimp only at hi h1⊢
 subst hi h1
 refine Br.dec (λhl=>?_) λhl=>?_
 ·refine ⟨rfl,rfl,?_,rfl,rfl,?_⟩
  ·show (upto j).length+1<=4294967296
   rw [Mu];omega
  ·rw [Bm (by omega)]
   exact hK (by omega) _ rfl (Zb j).symm
 ·have:j=n.toNat:=by omega
  subst this
  rw [Ea,Ay]
theorem Wv:Sound Tryz.prog 96 Dp:=
 Sound.Gt Dt Bp mixed Tryz.func96 (by kernel_rfl) (by kernel_rfl) λx h=>NM x.1 h
theorem Px {g:List (List Int)} {k:Nat} (h:k<g.length):Ax g ((k:Int)+1)=g[k]:=by
 unfold Ax
 rw [Ab (by omega),show ((k:Int)+1-1).toNat=k by omega,Ai,Ac h];rfl
theorem Pw {g:List (List Int)} {k:Nat} (h:k<g.length):Ax g (-((k:Int)+1))=Bb g[k]:=by
 unfold Ax
 rw [Ak (by omega),show (-(-((k:Int)+1))-1).toNat=k by omega,Ai,Ac h];rfl
theorem Pv {n:Nat} {l:Int} (h:Hq n l): ∃k:Nat,k<n/\(l=(k:Int)+1\/l= -((k:Int)+1)):=by
 obtain ⟨h1,h2,h3⟩:=h
 by_cases h0:0<l
 ·exact ⟨(l-1).toNat,by omega, .inl (by omega)⟩
 ·exact ⟨(-l-1).toNat,by omega, .inr (by omega)⟩
theorem NP (g:List (List Int)) (l:Int) (h:Hq (List.length g) l/\List.length g<=8/\ ∀p∈g,Jy p=true):fnW Gb (look [(58,Fo)]) Hy Tryz.f135 (g,l,()) (λ(z:List Int)=>z=Ax g l):=by
 obtain ⟨hl,h8,hp⟩:=h
 refine Eq.mp (PZ g l _) ?_
 obtain ⟨k,hk,rfl|rfl⟩:=Pv hl
 ·refine Br.dec (λ_=>?_) λhn=>by omega
  rw [Df (by omega) (by omega),show (k:Int)+1-1=(k:Int) by omega]
  exact ⟨_,Co hk,(Px hk).symm⟩
 ·refine Br.dec (λhn=>by omega) λ_=>?_
  rw [Df (n:=0- -((k:Int)+1)) (by omega) (by omega),Df (by omega) (by omega),show (0:Int)- -((k:Int)+1)-1=(k:Int) by omega]
  have:=dA (hp _ (Al hk))
  exact ⟨_,Co hk,_,Ab ⟨this.len,this.row⟩,(Pw hk).symm⟩
theorem cc:Sound Tryz.prog 135 Hy:=
 Sound.Gt Dt (Av Ww Bp) mixed Tryz.func135 (by kernel_rfl) (by kernel_rfl) λx h=>NP x.1 x.2.1 h
theorem bX (j:Nat):Ca (j+1)=Ca j++ [(j:Int)+1,-((j:Int)+1)]:=by simp [Ca,il,List.flatMap_append]
theorem Qp (j:Nat):(Ca j).length=2*j:=by
 induction j with
 |zero=>rfl
 |succ j ih=>rw [bX,Au,ih];simp only [Aw,Fb];omega
theorem Lc {n:Nat} {l:Int} (h:l∈Ca n):Hq n l:=by
 unfold Ca at h
 obtain ⟨k,hk,hl⟩:=Gf.1 h
 have hk:=Eu.1 hk
 simp only [Be,List.not_mem_nil,or_false] at hl
 unfold Hq
 omega
theorem VI (n:Int) (h:0<=n/\n<=8):fnW Gb (look []) Nj Tryz.f139 (n,()) (λ(z:List Int)=>z=Ca n.toNat):=by
 refine Eq.mp (XN n _) ⟨rfl,rfl,?_⟩
 refine Bw n.toNat (λv=>v.1) (λj v=>v.2.1=Ca j) rfl rfl ?_
 rintro j ⟨i,ys,⟨⟩⟩ K hj hi h1 hK
 dsimp only at hi h1⊢
 subst hi h1
 refine Br.dec (λhl=>?_) λhl=>?_
 ·refine ⟨rfl,rfl,?_,rfl,rfl,?_⟩
  ·show (Ca j).length+2<=4294967296
   rw [Qp];omega
  ·have e1:IntKind.i64.wrap ((j:Int)+1)=(j:Int)+1:=Df (by omega) (by omega)
   have e2:IntKind.i64.wrap ((0:Int)-((j:Int)+1))= -((j:Int)+1):=by rw [Df (by omega) (by omega)];omega
   rw [e1,e2]
   exact hK (by omega) _ rfl (bX j).symm
 ·have:j=n.toNat:=by omega
  subst this
  rw [Ea,Ay]
theorem dE:Sound Tryz.prog 139 Nj:=
 Sound.Gt Dt Bp mixed Tryz.func139 (by kernel_rfl) (by kernel_rfl) λx h=>VI x.1 h
structure Valid (p:PP):Prop where
 n:1<=p.1/\p.1<=20
 nj:1<=p.2.2.1.length/\p.2.2.1.length<=8
 perm: ∀m∈p.2.2.1,Jy m=true
 len: ∀m∈p.2.2.1,(m.length:Int)=p.1
theorem valid {p:PP} (h:Cb p=true):Valid p:=by
 have h0:=PM h
 obtain ⟨h1,_,_⟩:=Gi.1 h
 obtain ⟨_,_,h4⟩:=Gi.1 h1
 exact ⟨⟨h0.1,h0.2.1⟩,h0.2.2,λm hm=>(Gi.1 (h4 m hm)).2,λm hm=>(Gi.1 (h4 m hm)).1⟩
theorem kc {p:PP} (h:Valid p) {l:Int} (hl:Hq (List.length p.2.2.1) l):((Ax p.2.2.1 l).length:Int)=p.1/\Lq (Ax p.2.2.1 l).length (Ax p.2.2.1 l):=by
 obtain ⟨k,hk,rfl|rfl⟩:=Pv hl
 ·rw [Px hk]
  exact ⟨h.len _ (Al hk),(dA (h.perm _ (Al hk))).row⟩
 ·rw [Pw hk,nC]
  exact ⟨h.len _ (Al hk),Aet (dA (h.perm _ (Al hk)))⟩
theorem DS (s y:List Int) (P:List Int->Prop) (h1:s.length<=20) (h2:Lq y.length s) (h3:P (Af s y)):
  Dm
   (λ(v5:Int×List Int×PUnit) (k6:Int×List Int×PUnit->Prop)=>
    Br (decide (v5.1<(↑s.length:Int)))
     (∃(y7:Int),
      idx s v5.1=some y7/\
       ∃(y8:Int),
        idx y y7=some y8/\
         (0:Nat)=(0:Nat)/\
          v5.2.1.length=v5.2.1.length/\
           v5.2.1.length+(List.take (1:Nat) (List.drop (0:Nat) [y8])).length<=Db/\
            (0:Nat)=(0:Nat)/\
             (v5.2.1++List.take (1:Nat) (List.drop (0:Nat) [y8])).length=(v5.2.1++List.take (1:Nat) (List.drop (0:Nat) [y8])).length/\
              k6 (IntKind.i64.wrap (v5.1+(1:Int)),v5.2.1++List.take (1:Nat) (List.drop (0:Nat) [y8]),()))
     (P (List.take v5.2.1.length (List.drop (0:Nat) v5.2.1))))
   ((0:Int),([]:List Int),PUnit.unit):=by
 refine Bw s.length (λv=>v.1) (λj v=>v.2.1=(s.take j).map (Hi y)) rfl (by simp) ?_
 rintro j ⟨i,ys,⟨⟩⟩ K hj hi hR hK
 dsimp only at hi hR⊢
 subst hi hR
 refine Br.dec (λhl=>?_) λhl=>?_
 ·have hl:j<s.length:=by omega
  have hy:=h2 _ (Al hl)
  refine ⟨_,Co hl,_,ez hy.1 hy.2,rfl,rfl,?_,rfl,rfl,?_⟩
  ·show ((s.take j).map (Hi y)).length+1<=4294967296
   rw [Ch,Dc];omega
  ·rw [Bm (by omega)]
   refine hK hl _ rfl ?_
   dsimp only
   rw [Cy hl,Ko]
   rfl
 ·have:j=s.length:=by omega
  subst this
  rw [Ea,Ay,Ay]
  exact h3
theorem Ab9 (p:PP) (s:List Int) (l:Int) (h:Cb p=true/\List.length s<=20/\(∀y∈s,0<=y/\y<p.1)/\Hq (List.length p.2.2.1) l):fnW Gb (look [(125,Qt)]) eK Tryz.f66 (p,s,l,()) (λ(z:List Int)=>z=Af s (Ax p.2.2.1 l)):=by
 obtain ⟨hv,hs,hr,hl⟩:=h
 have hv:=valid hv
 have hf:=hv.nj
 refine Eq.mp (Acz p s l _) ?_
 have RP:=kc hv hl
 have Kd:Lq (Ax p.2.2.1 l).length s:= λy hy=>by have:=hr y hy;omega
 obtain ⟨k,hk,rfl|rfl⟩:=Pv hl
 ·rw [Ab rfl,Df (n:=0-((k:Int)+1)) (by omega) (by omega),Ak (by omega),Df (by omega) (by omega),show (k:Int)+1-1=(k:Int) by omega]
  refine ⟨_,Co hk,Br.dec (λhn=>by omega) λ_=>⟨rfl,rfl,?_⟩⟩
  rw [Px hk] at Kd⊢
  exact DS s _ (λz=>z=Af s p.2.2.1[k]) hs Kd rfl
 ·rw [Ab rfl,Df (n:=0- -((k:Int)+1)) (by omega) (by omega),Ab (by omega),Df (by omega) (by omega),show (0:Int)- -((k:Int)+1)-1=(k:Int) by omega]
  refine ⟨_,Co hk,Br.dec (λ_=>⟨_,Ab (hv.perm _ (Al hk)),rfl,rfl,?_⟩) λhn=>by omega⟩
  rw [Pw hk] at Kd⊢
  exact DS s (Bb p.2.2.1[k]) (λz=>z=Af s (Bb p.2.2.1[k])) hs Kd rfl
theorem BI:Sound Tryz.prog 66 eK:=
 Sound.Gt Dt (Av oe Bp) mixed Tryz.func66 (by kernel_rfl) (by kernel_rfl) λx h=>Ab9 x.1 x.2.1 x.2.2.1 h
abbrev rL:CK:= .row tI 2
abbrev xLL:CK:= .Hz tL 33
def low (k:Int):Prop:=0<=k/\k<=1099511627776
theorem Dk {α:Type} (xs:List α):List.take xs.length (List.drop 0 xs)=xs:=by rw [Ea,Ay]
noncomputable abbrev uC:MSpec:=qA [none] [(false, .Fz (.oslice tI))] false [none] [rL] (λx=>short (x.1.getD [])) (λx=>((x.1.getD [],()),()))
noncomputable abbrev o3:MSpec:=qA [none] [(false, .Fz tL)] false [none] [rL] (λx=>short x.1) (λx=>((x.1,()),()))
noncomputable abbrev Yp:Spec:=Gt (.pair tL .unit) tL false true (λx=>short x.1) (λx=>x.1)
theorem Ad1 (xs:Option (List Int)) (P:((List Int×Unit)×Unit)->Prop):(Br xs.isNone (P ((List.take 0 (List.drop 0 []),()),())) (0=0/\0=([]:List Int).length/\0+(xs.getD []).length<=Db/\P ((List.take ([]++xs.getD []).length (List.drop 0 ([]++xs.getD [])),()),())))=fnMW Vb (look []) uC Tryz.f138 (xs,()) P:=by kernel_rfl
theorem PU (xs:List Int) (P:List Int->Prop):(0=0/\0=([]:List Int).length/\0+xs.length<=Db/\P (List.take ([]++xs).length (List.drop 0 ([]++xs))))=fnW Gb (look []) Yp Tryz.f68 (xs,()) P:=by kernel_rfl
theorem Abb (xs:Option (List Int)) (h:short (xs.getD [])):fnMW Vb (look []) uC Tryz.f138 (xs,()) (λ(z:(List Int×Unit)×Unit)=>z=((xs.getD [],()),())):=by
 unfold short at h
 refine Eq.mp (Ad1 xs _) ⟨λhn=>?_,λ_=>⟨rfl,rfl,by show 0+(xs.getD []).length<=4294967296;omega,?_⟩⟩
 ·cases xs with
  |none=>rfl
  |some y=>cases hn
 ·simp only [Dk,List.nil_append]
theorem BK:Cp Tryz.prog 138 uC:=
 Cp.qA Tm Bp mixed Tryz.func138 (by kernel_rfl) (by kernel_rfl) λx h=>Abb x.1 h
theorem BJ:Cp Tryz.prog 138 o3:=Cp.ofO BK λ_ _ h=>⟨h,rfl⟩
theorem NK (xs:List Int) (h:short xs):fnW Gb (look []) Yp Tryz.f68 (xs,()) (λ(z:List Int)=>z=xs):=by
 unfold short at h
 refine Eq.mp (PU xs _) ⟨rfl,rfl,by show 0+xs.length<=4294967296;omega,?_⟩
 simp only [Dk,List.nil_append]
theorem ju:Sound Tryz.prog 68 Yp:=
 Sound.Gt Dt Bp mixed Tryz.func68 (by kernel_rfl) (by kernel_rfl) λx h=>NK x.1 h
def Bv (xs is:List Int):List Int:=is.map (Hi xs)
noncomputable abbrev bp:MSpec:=qA [none,none] [(false, .Fz tL),(false, .Fz tL)] false [none] [rL] (λx=>short x.2.1/\Lq (List.length x.1) x.2.1) (λx=>((Bv x.1 x.2.1,()),()))
noncomputable abbrev bq:Spec:=Gt (.pair tL (.pair tL .unit)) tL false true (λx=>short x.1/\Lq (List.length x.2.1) x.1) (λx=>Bv x.2.1 x.1)
def Sz (xs:List Int):ByteArray:=bytesOf (xs.map λx=>IntKind.u8.wrap x)
noncomputable abbrev Il:Spec:=Gt (.pair tL .unit) .str false true (λx=>short x.1) (λx=>Sz x.1)
def nW (ps:List (List Int)) (p:List Int):Int:=Ep (λq=>decide (q=p)) ps 0
theorem XP (xs is:List Int) (P:((List Int×Unit)×Unit)->Prop):(((0:Int)<=(↑is.length:Int)/\(↑is.length:Int)<(↑Db:Int)+(1:Int))/\(↑is.length:Int)=(↑is.length:Int)/\0=0/\(List.replicate (↑is.length:Int).toNat (Int.ofNat (nat_lit 0))).length=(List.replicate (↑is.length:Int).toNat (Int.ofNat (nat_lit 0))).length/\Dm (λ(v3:Int×List Int×PUnit) (k4:Int×List Int×PUnit->Prop)=>Br (decide (v3.1<(↑is.length:Int))) (∃(y5:Int),idx is v3.1=some y5/\ ∃(y6:Int),idx xs y5=some y6/\((0:Int)<=v3.1/\v3.1<(↑v3.2.1.length:Int))/\0+v3.1.toNat<v3.2.1.length/\0=0/\v3.2.1.length=(v3.2.1.set (0+v3.1.toNat) y6).length/\k4 (IntKind.i64.wrap (v3.1+(1:Int)),v3.2.1.set (0+v3.1.toNat) y6,())) (P ((List.take v3.2.1.length (List.drop 0 v3.2.1),()),()))) ((0:Int),List.replicate (↑is.length:Int).toNat (Int.ofNat (nat_lit 0)),PUnit.unit))=fnMW Vb (look []) bp Tryz.f79 (xs,is,()) P:=by kernel_rfl
theorem XR (is xs:List Int) (P:List Int->Prop):(0=0/\0=([]:List Int).length/\Dm (λ(v3:Int×List Int×PUnit) (k4:Int×List Int×PUnit->Prop)=>Br (decide (v3.1<(↑is.length:Int))) (∃(y5:Int),idx is v3.1=some y5/\ ∃(y6:Int),idx xs y5=some y6/\0=0/\v3.2.1.length=v3.2.1.length/\v3.2.1.length+(List.take 1 (List.drop 0 [y6])).length<=Db/\0=0/\(v3.2.1++List.take 1 (List.drop 0 [y6])).length=(v3.2.1++List.take 1 (List.drop 0 [y6])).length/\k4 (IntKind.i64.wrap (v3.1+(1:Int)),v3.2.1++List.take 1 (List.drop 0 [y6]),())) (P (List.take v3.2.1.length (List.drop 0 v3.2.1)))) ((0:Int),[],PUnit.unit))=fnW Gb (look []) bq Tryz.f87 (is,xs,()) P:=by kernel_rfl
theorem QH (xs:List Int) (P:ByteArray->Prop):(((0:Int)<=(↑xs.length:Int)/\(↑xs.length:Int)<(↑Db:Int)+(1:Int))/\(↑xs.length:Int)=(↑xs.length:Int)/\0=0/\(List.replicate (↑xs.length:Int).toNat (Int.ofNat (nat_lit 0))).length=(List.replicate (↑xs.length:Int).toNat (Int.ofNat (nat_lit 0))).length/\Dm (λ(v2:Int×List Int×PUnit) (k3:Int×List Int×PUnit->Prop)=>Br (decide (v2.1<(↑xs.length:Int))) (∃(y4:Int),idx xs v2.1=some y4/\((0:Int)<=v2.1/\v2.1<(↑v2.2.1.length:Int))/\0+v2.1.toNat<v2.2.1.length/\0=0/\v2.2.1.length=(v2.2.1.set (0+v2.1.toNat) (IntKind.u8.wrap y4)).length/\k3 (IntKind.i64.wrap (v2.1+(1:Int)),v2.2.1.set (0+v2.1.toNat) (IntKind.u8.wrap y4),())) (P (bytesOf (List.take v2.2.1.length (List.drop 0 v2.2.1))))) ((0:Int),List.replicate (↑xs.length:Int).toNat (Int.ofNat (nat_lit 0)),PUnit.unit))=fnW Gb (look []) Il Tryz.f121 (xs,()) P:=by kernel_rfl
theorem nU (xs is:List Int):(Bv xs is).length=is.length:=by simp [Bv]
theorem Af0 {α:Type} (y:α):List.take 1 (List.drop 0 [y])= [y]:=rfl
theorem VK (xs is:List Int) (h:short is/\Lq xs.length is):fnMW Vb (look []) bp Tryz.f79 (xs,is,()) (λ(z:(List Int×Unit)×Unit)=>z=((Bv xs is,()),())):=by
 obtain ⟨h,hr⟩:=h
 unfold short at h
 refine Eq.mp (XP xs is _) ?_
 refine ⟨⟨by omega,by show (is.length:Int)<(4294967296:Int)+1;omega⟩,rfl,rfl,rfl,?_⟩
 have Pc:=nU xs is
 refine Bw is.length (λv=>v.1) (λj v=>v.2.1.length=(Bv xs is).length/\v.2.1.take j=(Bv xs is).take j) rfl ⟨by rw [Pc];simp,by simp⟩ ?_
 rintro j ⟨i,ys,⟨⟩⟩ K hj hi ⟨h1,h2⟩ hK
 dsimp only at hi h1 h2⊢
 subst hi
 refine Br.dec (λhl=>?_) λhl=>?_
 ·have hl:j<is.length:=by omega
  have hy:=hr _ (Al hl)
  refine ⟨_,Co hl,_,ez hy.1 hy.2,⟨by omega,by omega⟩,by rw [Aj];omega,rfl,by rw [Cm],?_⟩
  rw [Bm (by omega),Aj,Bo]
  have Jv:j<(Bv xs is).length:=by rw [Pc];exact hl
  have e:Hi xs is[j]=(Bv xs is)[j]:=by simp [Bv]
  rw [e]
  exact hK hl _ rfl ⟨by rw [Cm];exact h1,dH Jv h1 h2⟩
 ·have:j=is.length:=by omega
  subst this
  rw [<-Pc,Ay,<-h1,Ay] at h2
  rw [Ea,Ay,h2]
theorem wP:Cp Tryz.prog 79 bp:=
 Cp.qA Tm Bp mixed Tryz.func79 (by kernel_rfl) (by kernel_rfl) λx h=>VK x.1 x.2.1 h
theorem VM (is xs:List Int) (h:short is/\Lq xs.length is):fnW Gb (look []) bq Tryz.f87 (is,xs,()) (λ(z:List Int)=>z=Bv xs is):=by
 obtain ⟨h,hr⟩:=h
 unfold short at h
 refine Eq.mp (XR is xs _) ⟨rfl,rfl,?_⟩
 have Pc:=nU xs is
 refine Bw is.length (λv=>v.1) (λj v=>v.2.1=(Bv xs is).take j) rfl rfl ?_
 rintro j ⟨i,ys,⟨⟩⟩ K hj hi h1 hK
 dsimp only at hi h1⊢
 subst hi
 refine Br.dec (λhl=>?_) λhl=>?_
 ·have hl:j<is.length:=by omega
  have hy:=hr _ (Al hl)
  have Jv:j<(Bv xs is).length:=by rw [Pc];exact hl
  refine ⟨_,Co hl,_,ez hy.1 hy.2,rfl,rfl,?_,rfl,rfl,?_⟩
  ·show ys.length+1<=4294967296
   rw [h1,Dc];omega
  ·rw [Bm (by omega),Af0]
   refine hK hl _ rfl ?_
   dsimp only
   rw [h1,Cy Jv]
   simp [Bv]
 ·have:j=is.length:=by omega
  subst this
  rw [Dk,h1,<-Pc,Ay]
theorem wQ:Sound Tryz.prog 87 bq:=
 Sound.Gt Dt Bp mixed Tryz.func87 (by kernel_rfl) (by kernel_rfl) λx h=>VM x.1 x.2.1 h
theorem NX (xs:List Int) (h:short xs):fnW Gb (look []) Il Tryz.f121 (xs,()) (λ(z:ByteArray)=>z=Sz xs):=by
 unfold short at h
 refine Eq.mp (QH xs _) ?_
 refine ⟨⟨by omega,by show (xs.length:Int)<(4294967296:Int)+1;omega⟩,rfl,rfl,rfl,?_⟩
 have Pc:(xs.map λx=>IntKind.u8.wrap x).length=xs.length:=by simp
 refine Bw xs.length (λv=>v.1) (λj v=>v.2.1.length=(xs.map λx=>IntKind.u8.wrap x).length/\v.2.1.take j=(xs.map λx=>IntKind.u8.wrap x).take j) rfl ⟨by rw [Pc];simp,by simp⟩ ?_
 rintro j ⟨i,ys,⟨⟩⟩ K hj hi ⟨h1,h2⟩ hK
 dsimp only at hi h1 h2⊢
 subst hi
 refine Br.dec (λhl=>?_) λhl=>?_
 ·have hl:j<xs.length:=by omega
  refine ⟨_,Co hl,⟨by omega,by omega⟩,by rw [Aj];omega,rfl,by rw [Cm],?_⟩
  rw [Bm (by omega),Aj,Bo]
  have Jv:j<(xs.map λx=>IntKind.u8.wrap x).length:=by rw [Pc];exact hl
  have e:IntKind.u8.wrap xs[j]=(xs.map λx=>IntKind.u8.wrap x)[j]:=by simp
  rw [e]
  exact hK hl _ rfl ⟨by rw [Cm];exact h1,dH Jv h1 h2⟩
 ·have:j=xs.length:=by omega
  subst this
  rw [<-Pc,Ay,<-h1,Ay] at h2
  rw [Ea,Ay,h2];rfl
theorem jx:Sound Tryz.prog 121 Il:=
 Sound.Gt Dt Bp mixed Tryz.func121 (by kernel_rfl) (by kernel_rfl) λx h=>NX x.1 h
theorem Ahk {n:Int} {xs:List Int} (h:PL n xs xs.length): ∀(d i:Nat) (hj:i+d+1<xs.length),xs[i]<xs[i+d+1]
 |0,i,hj=>by
  have:=(h (i+1) hj hj).2.2 (by omega)
  simpa using this
 |d+1,i,hj=>by
  have h1:=Ahk h d i (by omega)
  have h2:=(h (i+(d+1)+1) hj hj).2.2 (by omega)
  have h3:xs[i+(d+1)+1-1]=xs[i+d+1]:=by congr 1
  omega
theorem gG {α:Type} (P:α->Bool) (y:α): ∀(l:List α) (i:Int),0<=i->Ep P (l++ [y]) i=if Ep P l i<0 then (if P y=true then i+l.length else-1) else Ep P l i
 | [],i,_=>by simp [Ep]
 |x::r,i,h=>by
  simp only [Oz,Ep,Aw]
  split
  ·rw [Ak (by omega)]
  ·rw [gG P y r (i+1) (by omega),show i+1+(r.length:Int)=i+((r.length+1:Nat):Int) by push_cast;omega]
theorem AO (ps:List (List Int)) (q p:List Int):nW (ps++ [q]) p=if nW ps p<0 then (if q=p then (ps.length:Int) else-1) else nW ps p:=by
 unfold nW
 rw [gG _ _ _ _ (Sf 0)]
 simp only [Ng,Int.zero_add]
def Zs (p:List Int):Prop:= ∀x∈p,0<=x/\x<256
theorem YX {x y:Int} (hx:0<=x/\x<256) (hy:0<=y/\y<256) (h:UInt8.ofNat (IntKind.u8.wrap x).toNat=UInt8.ofNat (IntKind.u8.wrap y).toNat):x=y:=by
 have h:=Fq UInt8.toNat h
 simp only [IntKind.wrap_u8,UInt8.toNat_ofNat'] at h
 omega
theorem bytes_inj: ∀(p q:List Int),Zs p->Zs q->(p.map λx=>UInt8.ofNat (IntKind.u8.wrap x).toNat)=(q.map λx=>UInt8.ofNat (IntKind.u8.wrap x).toNat)->p=q
 | [],[],_,_,_=>rfl
 | [],_::_,_,_,h=>by simp at h
 |_::_,[],_,_,h=>by simp at h
 |x::p,y::q,hp,hq,h=>by
  simp only [Bu,Hb] at h
  rw [YX (hp x (by simp)) (hq y (by simp)) h.1,bytes_inj p q (λz hz=>hp z (by simp [hz])) (λz hz=>hq z (by simp [hz])) h.2]
theorem key_inj {p q:List Int} (hp:Zs p) (hq:Zs q) (h:Sz p=Sz q):p=q:=by
 refine bytes_inj p q hp hq ?_
 simp only [Sz,bytesOf,ByteArray.mk.injEq,List.map_map] at h
 have h:=Fq Array.toList h
 simpa [Function.comp_def] using h
def KM (m:ByteArray->Option Int) (ps:List (List Int)):Prop:= ∀p,Zs p->m (Sz p)=if nW ps p<0 then none else some (nW ps p)
theorem KM.nil:KM (λ_=>none) []:= λp _=>by
 rw [Ab (by unfold nW;simp [Ep])]
theorem KM.add {m:ByteArray->Option Int} {ps:List (List Int)} {q:List Int} (h:KM m ps) (hq:Zs q) (hn:nW ps q<0):KM (cj m (Sz q) (ps.length:Int)) (ps++ [q]):=by
 intro p hp
 rw [AO]
 unfold cj
 by_cases e:p=q
 ·subst e
  rw [Ab rfl,Ab hn,Ab rfl,Ak (by omega)]
 ·rw [Ak (λhk=>e (key_inj hp hq hk)),h p hp]
  have e': ¬q=p:= λh=>e h.symm
  rw [Ak e']
  by_cases UE:nW ps p<0
  ·rw [Ab UE,Ab UE,Ab (by decide)]
  ·rw [Ak UE,Ak UE,Ak UE]
abbrev tW1:Ty:= .clo 167 (.pair (.ptr tI) .unit)
def qC (m l:Int):Bool:=decide (l≠0/\ -m<=l/\l<=m)
noncomputable abbrev kx:Spec:=Gt (.pair tI (.pair (.ptr tI) .unit)) .bool false true (λx=>0<=x.2.1/\x.2.1<=8) (λx=>!qC x.2.1 x.1)
noncomputable abbrev yu:Spec:=Gt (.pair tL (.pair tW1 .unit)) tI false true (λx=>short x.1/\0<=x.2.1.1/\x.2.1.1<=8) (λx=>Ep (λy=>!qC x.2.1.1 y) x.1 0)
noncomputable abbrev yq:Spec:=Gt (.pair tL (.pair tW1 .unit)) .bool false true (λx=>short x.1/\0<=x.2.1.1/\x.2.1.1<=8) (λx=>List.any x.1 (λy=>!qC x.2.1.1 y))
def dV (n:Int):Int:=if 8<n then 8 else n
def Ic (n:Int) (w:List Int):Bool:=decide (w.length<=200)&&!(List.any w λy=>!qC (dV n) y)
noncomputable abbrev Qj:Spec:=Gt (.pair tI (.pair tL .unit)) .bool false true (λx=>short x.2.1/\0<=x.1/\x.1<=4294967296) (λx=>Ic x.1 x.2.1)
noncomputable abbrev bo:Spec:=Gt (.pair Ix (.pair tL .unit)) .bool false true (λx=>Gw x.1/\short x.2.1) (λx=>Ic (List.length x.1.2.2.1:Nat) x.2.1)
theorem Ag3 (l m:Int) (P:Bool->Prop):(Br (l==(0:Int)) (P true) (∃(y3:Bool),Cr.fn (l,IntKind.i64.wrap ((0:Int)-m),m,())=some y3/\P !y3))=fnW Gb (look [(100,Cr)]) kx Tryz.f167 (l,m,()) P:=by kernel_rfl
theorem Ape (xs:List Int) (c:Int×Unit) (P:Int->Prop):(Dm (λ(v3:Int×PUnit) (k4:Int×PUnit->Prop)=>Br (decide (v3.1<(↑xs.length:Int))) (∃(y5:Int),idx xs v3.1=some y5/\ ∃(y6:Bool),kx.fn (y5,c.1,())=some y6/\Br y6 (P v3.1) (k4 (IntKind.i64.wrap (v3.1+(1:Int)),()))) (P (-1:Int))) ((0:Int),PUnit.unit))=fnW Gb (look [(167,kx)]) yu Tryz.f146 (xs,c,()) P:=by kernel_rfl
theorem Apb (xs:List Int) (c:Int×Unit) (P:Bool->Prop):(∃(y3:Int),yu.fn (xs,c,())=some y3/\P (decide (y3>=(0:Int))))=fnW Gb (look [(146,yu)]) yq Tryz.f102 (xs,c,()) P:=by kernel_rfl
theorem CV (n:Int) (w:List Int) (P:Bool->Prop):(Br (decide ((↑w.length:Int)<=(200:Int))) (∃(y3:Bool),yq.fn (w,(if false=true then if (8:Int)>n then (8:Int) else n else if (8:Int)<n then (8:Int) else n,()),())=some y3/\P !y3) (P false))=fnW Gb (look [(102,yq)]) Qj Tryz.f132 (n,w,()) P:=by kernel_rfl
theorem XM (p:Int×ByteArray×List (List Int)×Unit) (w:List Int) (P:Bool->Prop):(∃(y3:Int),Un.fn (p.2.2.1,())=some y3/\ ∃(y4:Bool),Qj.fn (y3,w,())=some y4/\P y4)=fnW Gb (look [(132,Qj),(91,Un)]) bo Tryz.f83 (p,w,()) P:=by kernel_rfl
theorem PY (n:Int) (w:List Int) (P:Bool->Prop):(Br (decide ((↑w.length:Int)>(200:Int))) (P false) (Dm (λ(v3:Int×PUnit) (k4:Int×PUnit->Prop)=>Br (decide (v3.1<(↑w.length:Int))) (∃(y5:Int),idx w v3.1=some y5/\Br (y5==(0:Int)) (P false) (∃(y6:Int),idx w v3.1=some y6/\ ∃(y7:Bool),Cr.fn (y6,(-8:Int),(8:Int),())=some y7/\Br (!y7) (P false) (∃(y8:Int),idx w v3.1=some y8/\Br (decide (y8>n)) (P false) (∃(y9:Int),idx w v3.1=some y9/\Br (decide (IntKind.i64.wrap ((0:Int)-y9)>n)) (P false) (k4 (IntKind.i64.wrap (v3.1+(1:Int)),())))))) (P true)) ((0:Int),PUnit.unit)))=fnW Gb (look [(95,Cr)]) Qj Tryz.f80 (n,w,()) P:=by kernel_rfl
theorem SK {m l:Int} :qC m l=true↔l≠0/\ -m<=l/\l<=m:=Jf
theorem Afc (l m:Int) (h:0<=m/\m<=8):fnW Gb (look [(100,Cr)]) kx Tryz.f167 (l,m,()) (λ(z:Bool)=>z=!qC m l):=by
 refine Eq.mp (Ag3 l m _) ⟨λhe=>?_,λhe=>⟨_,Ab trivial,?_⟩⟩
 ·simp only [Xg] at he
  simp [qC,he]
 ·simp only [Jr,ne_eq] at he
  congr 1
  rw [Bool.eq_iff_iff,Ej,SK,Df (by omega) (by omega)]
  dsimp only
  omega
theorem IQ:Sound Tryz.prog 167 kx:=
 Sound.Gt Dt (Av Su Bp) mixed Tryz.func167 (by kernel_rfl) (by kernel_rfl) λx h=>Afc x.1 x.2.1 h
theorem Aoq (xs:List Int) (c:Int×Unit) (h:short xs/\0<=c.1/\c.1<=8):fnW Gb (look [(167,kx)]) yu Tryz.f146 (xs,c,()) (λ(z:Int)=>z=Ep (λy=>!qC c.1 y) xs 0):=by
 obtain ⟨h,h4⟩:=h
 unfold short at h
 refine Eq.mp (Ape xs c _) ?_
 refine Bw xs.length (λv=>v.1) (λj _=>Ep (λy=>!qC c.1 y) (xs.drop j) j=Ep (λy=>!qC c.1 y) xs 0) rfl (by simp) ?_
 rintro j ⟨i,⟨⟩⟩ K hj hi hR hK
 dsimp only at hi⊢
 subst hi
 refine Br.dec (λhl=>?_) λhl=>?_
 ·have hl:j<xs.length:=by omega
  rw [Gm hl] at hR
  simp only [Ep] at hR
  refine ⟨_,Co hl,_,Ab h4,⟨λhe=>?_,λhe=>?_⟩⟩
  ·have he:(!qC c.1 xs[j])=true:=he
   rw [Ab he] at hR
   exact hR
  ·have he:(!qC c.1 xs[j])=false:=he
   rw [Ak (by rw [he];decide)] at hR
   rw [Bm (by omega)]
   exact hK hl _ rfl (by push_cast;exact hR)
 ·have:j=xs.length:=by omega
  subst this
  rw [Pb] at hR
  exact hR
theorem WL:Sound Tryz.prog 146 yu:=
 Sound.Gt Dt (Av IQ Bp) mixed Tryz.func146 (by kernel_rfl) (by kernel_rfl) λx h=>Aoq x.1 x.2.1 h
theorem Aon (xs:List Int) (c:Int×Unit) (h:short xs/\0<=c.1/\c.1<=8):fnW Gb (look [(146,yu)]) yq Tryz.f102 (xs,c,()) (λ(z:Bool)=>z=List.any xs (λy=>!qC c.1 y)):=by
 refine Eq.mp (Apb xs c _) ⟨_,Ab h,?_⟩
 rw [Bool.eq_iff_iff,Jf]
 exact cP _ xs 0 (Sf 0)
theorem WI:Sound Tryz.prog 102 yq:=
 Sound.Gt Dt (Av WL Bp) mixed Tryz.func102 (by kernel_rfl) (by kernel_rfl) λx h=>Aon x.1 x.2.1 h
theorem Adz {n:Int} (h:0<=n):0<=dV n/\dV n<=8:=by unfold dV;split<;>omega
theorem AG (n:Int) (w:List Int) (h:short w/\0<=n/\n<=4294967296):fnW Gb (look [(102,yq)]) Qj Tryz.f132 (n,w,()) (λ(z:Bool)=>z=Ic n w):=by
 have hc:=Adz h.2.1
 have e1:(if false=true then if (8:Int)>n then (8:Int) else n else if (8:Int)<n then (8:Int) else n)=dV n:=rfl
 refine Eq.mp (CV n w _) (Br.dec (λhl=>⟨_,Ab ⟨h.1,hc⟩,?_⟩) λhl=>?_)
 ·show (!(List.any w λy=>!qC (dV n) y))=_
  unfold Ic
  rw [Dl (by omega),Pd]
 ·unfold Ic
  rw [Ft (by omega),Bool.false_and]
theorem pN:Sound Tryz.prog 132 Qj:=
 Sound.Gt Dt (Av WI Bp) mixed Tryz.func132 (by kernel_rfl) (by kernel_rfl) λx h=>AG x.1 x.2.1 h
theorem VH (p:PP) (w:List Int) (h:Gw p/\short w):fnW Gb (look [(132,Qj),(91,Un)]) bo Tryz.f83 (p,w,()) (λ(z:Bool)=>z=Ic (List.length p.2.2.1:Nat) w):=by
 have:=h.1.2.1
 exact Eq.mp (XM p w _) ⟨_,Ab trivial,_,Ab ⟨h.2,by show (0:Int)<=(List.length p.2.2.1:Nat);omega,by show ((List.length p.2.2.1:Nat):Int)<=4294967296;omega⟩,rfl⟩
theorem wO:Sound Tryz.prog 83 bo:=
 Sound.Gt Dt (Av pN (Av jv Bp)) mixed Tryz.func83 (by kernel_rfl) (by kernel_rfl) λx h=>VH x.1 x.2.1 h
theorem zW {n l:Int} (hn:0<=n):qC (dV n) l=true↔l≠0/\(-8<=l/\l<=8)/\l<=n/\ -l<=n:=by
 rw [SK];unfold dV;split<;>omega
theorem NO (n:Int) (w:List Int) (h:short w/\0<=n/\n<=4294967296):fnW Gb (look [(95,Cr)]) Qj Tryz.f80 (n,w,()) (λ(z:Bool)=>z=Ic n w):=by
 refine Eq.mp (PY n w _) (Br.dec (λhl=>?_) λhl=>?_)
 ·unfold Ic
  rw [Ft (by omega),Bool.false_and]
 ·have e0:Ic n w=!(List.any w λy=>!qC (dV n) y):=by unfold Ic;rw [Dl (by omega),Pd]
  have bad: ∀(j:Nat) (hj:j<w.length),¬(w[j]≠0/\(-8<=w[j]/\w[j]<=8)/\w[j]<=n/\ -w[j]<=n)->false=Ic n w:= λj hj hn=>by
   rw [e0]
   have:(List.any w λy=>!qC (dV n) y)=true:=Ey.2 ⟨w[j],Al hj,by
    have:qC (dV n) w[j]=false:=Bool.eq_false_iff.2 λht=>hn ((zW h.2.1).1 ht)
    rw [this];rfl⟩
   rw [this];rfl
  refine Bw w.length (λv=>v.1) (λj _=> ∀y∈w.take j,qC (dV n) y=true) rfl (by simp) ?_
  rintro j ⟨i,⟨⟩⟩ K hj hi hR hK
  dsimp only at hi⊢
  subst hi
  refine Br.dec (λhl=>?_) λhl=>?_
  ·have hl:j<w.length:=by omega
   refine ⟨_,Co hl,⟨λhz=>?_,λhz=>⟨_,Co hl,_,Ab trivial,⟨λhq=>?_,λhq=>⟨_,Co hl,Br.dec (λhg=>?_) λhg=>⟨_,Co hl,Br.dec (λhm=>?_) λhm=>?_⟩⟩⟩⟩⟩⟩
   ·simp only [Xg] at hz
    exact bad j hl λhh=>hh.1 hz
   ·have hq:=Ew hq
    rw [Ej] at hq
    exact bad j hl λhh=>hq hh.2.1
   ·exact bad j hl λhh=>absurd hh.2.2.1 (by omega)
   ·have hq:=El hq
    rw [Ej] at hq
    dsimp only at hq
    rw [Df (by omega) (by omega)] at hm
    exact bad j hl λhh=>absurd hh.2.2.2 (by omega)
   ·have hq:=El hq
    rw [Ej] at hq
    dsimp only at hq
    simp only [Jr,ne_eq] at hz
    rw [Df (by omega) (by omega)] at hm
    rw [Bm (by omega)]
    refine hK hl _ rfl ?_
    rw [Cy hl]
    intro y hy
    rcases Az.1 hy with hy|hy
    ·exact hR y hy
    ·rw [Ad.1 hy]
     exact (zW h.2.1).2 ⟨hz,hq,by omega,by omega⟩
  ·have:j=w.length:=by omega
   subst this
   rw [Ay] at hR
   rw [e0]
   have:(List.any w λy=>!qC (dV n) y)=false:=by
    refine Bool.eq_false_iff.2 λht=>?_
    obtain ⟨y,hy,h1⟩:=Ey.1 ht
    rw [hR y hy] at h1
    cases h1
   rw [this];rfl
theorem uR:Sound Tryz.prog 80 Qj:=
 Sound.Gt Dt (Av Qv Bp) mixed Tryz.func80 (by kernel_rfl) (by kernel_rfl) λx h=>NO x.1 x.2.1 h
theorem Mi {n:Nat} {w:List Int} (h:Ic (n:Int) w=true):w.length<=200/\ ∀y∈w,Hq n y:=by
 unfold Ic at h
 simp only [Ag,Ng,Es] at h
 refine ⟨h.1,λy hy=>?_⟩
 have h1:qC (dV n) y=true:=by
  cases ho:qC (dV n) y with
  |true=>rfl
  |false=>
   have h2:(List.any w λy=>!qC (dV (n:Int)) y)=true:=Ey.2 ⟨y,hy,by rw [ho];rfl⟩
   rw [h.2] at h2;cases h2
 have:=(zW (by omega)).1 h1
 unfold Hq
 omega
noncomputable abbrev Vq:Spec:=Gt (.pair Ix .unit) tL false true (λx=>List.length x.1.2.2.1<=8) (λx=>Ca (List.length x.1.2.2.1))
abbrev oo:Type:=Int×Int×ByteArray×List (List Int)×List Int×PUnit
theorem JP (p:Int×ByteArray×List (List Int)×Unit) (P:List Int->Prop):(0=0/\0=([]:List Int).length/\Dm (λ(v2:oo) (k3:oo->Prop)=>Br (decide (v2.1<=(↑v2.2.2.2.1.length:Int))) (0=0/\v2.2.2.2.2.1.length=v2.2.2.2.2.1.length/\v2.2.2.2.2.1.length+(List.take 2 (List.drop 0 [v2.1,IntKind.i64.wrap ((0:Int)-v2.1)])).length<=Db/\0=0/\(v2.2.2.2.2.1++List.take 2 (List.drop 0 [v2.1,IntKind.i64.wrap ((0:Int)-v2.1)])).length=(v2.2.2.2.2.1++List.take 2 (List.drop 0 [v2.1,IntKind.i64.wrap ((0:Int)-v2.1)])).length/\k3 (IntKind.i64.wrap (v2.1+(1:Int)),v2.2.1,v2.2.2.1,v2.2.2.2.1,v2.2.2.2.2.1++List.take 2 (List.drop 0 [v2.1,IntKind.i64.wrap ((0:Int)-v2.1)]),())) (P (List.take v2.2.2.2.2.1.length (List.drop 0 v2.2.2.2.2.1)))) ((1:Int),p.1,p.2.1,p.2.2.1,[],PUnit.unit))=fnW Gb (look []) Vq Tryz.f65 (p,()) P:=by kernel_rfl
theorem HP (p:PP) (h:List.length p.2.2.1<=8):fnW Gb (look []) Vq Tryz.f65 (p,()) (λ(z:List Int)=>z=Ca (List.length p.2.2.1)):=by
 refine Eq.mp (JP p _) ⟨rfl,rfl,?_⟩
 refine Dm.mk (λv=> ∃j:Nat,j<=List.length p.2.2.1/\v=((j:Int)+1,p.1,p.2.1,p.2.2.1,Ca j,())) (λv=>List.length p.2.2.1+1-v.1.toNat) ⟨0,Ja _,rfl⟩ ?_
 rintro _ ⟨j,hj,rfl⟩
 dsimp only
 refine Br.dec (λhl=>?_) λhl=>?_
 ·refine ⟨rfl,rfl,?_,rfl,rfl,⟨j+1,by omega,?_⟩,?_⟩
  ·show (Ca j).length+2<=4294967296
   rw [Qp];omega
  ·rw [bX,Df (n:=(j:Int)+1+1) (by omega) (by omega),Df (n:=0-((j:Int)+1)) (by omega) (by omega),Int.zero_sub]
   rfl
  ·rw [Df (by omega) (by omega)];omega
 ·have:j=List.length p.2.2.1:=by omega
  subst this
  rw [Dk]
theorem rE:Sound Tryz.prog 65 Vq:=
 Sound.Gt Dt Bp mixed Tryz.func65 (by kernel_rfl) (by kernel_rfl) λx h=>HP x.1 h
abbrev rLL:CK:= .row tL 33
def zM (v:Int):List Int->Nat
 | []=>0
 |x::r=>if x>v then zM v r+1 else 0
def Aev (v:Int) (t:List Int):Option (List Int):=if zM v t=0 then none else some (Hi t ((zM v t-1:Nat):Int)::(t.set (zM v t-1) v).reverse)
def pc:List Int->Option (List Int)
 | []=>none
 |v::t=>match pc t with
  |some t'=>some (v::t')
  |none=>Aev v t
def lex:Nat->List Int->List (List Int)
 |0,_=> [[]]
 |k+1,R=>R.flatMap λv=>(lex k (R.erase v)).map (v:: ·)
theorem GX {s s':List Int} (h:pc s=some s'): ∀pre:List Int,pc (pre++s)=some (pre++s')
 | []=>h
 |v::p=>by rw [Oz,pc,GX h p];rfl
theorem Afh {α:Type} (pre:List α) (v a:α) (t:List α):(pre++v::t).set pre.length a=pre++a::t:=by
 rw [List.set_append,Ak (by omega)];simp
inductive Run:List Int->List (List Int)->List Int->Prop where
 |one (a:List Int):Run a [a] a
 |more {a c b:List Int} {L:List (List Int)} :pc a=some c->Run c L b->Run a (a::L) b
theorem Run.cons {a b:List Int} {L:List (List Int)} (h:Run a L b) (v:Int):Run (v::a) (L.map (v:: ·)) (v::b):=by
 induction h with
 |one a=>exact .one _
 |more h3 _ ih=>exact .more (GX h3 [v]) ih
def QY:Nat->Nat
 |0=>1
 |k+1=>(k+1)*QY k
theorem EU {α β:Type} {n:Nat} (f:α->List β): ∀(l:List α),(∀a∈l,(f a).length=n)->(l.flatMap f).length=l.length*n
 | [],_=>by simp
 |a::r,h=>by
  rw [Vx,Au,EU f r (λb hb=>h b (Aq _ hb)),h a (by simp),Aw,Nat.succ_mul]
  omega
theorem SC: ∀(k:Nat) (R:List Int),R.length=k->(lex k R).length=QY k
 |0,_,_=>rfl
 |k+1,R,hl=>by
  rw [lex,EU (n:=QY k) _ _ (λv hv=>by rw [Ch];exact SC k _ (by rw [Xd hv];omega)),hl]
  rfl
theorem Run.head {a b:List Int} {L:List (List Int)} (h:Run a L b): ∃M,L=a::M:=by
 cases h with
 |one=>exact ⟨_,rfl⟩
 |more _ _=>exact ⟨_,rfl⟩
theorem Run.at {a b:List Int} {L:List (List Int)} (h:Run a L b): ∀j (hj:j<L.length),(∀h2:j+1<L.length,pc L[j]=some L[j+1])/\(j+1=L.length->L[j]=b):=by
 induction h with
 |one a=>
  intro j hj
  simp only [Cg] at hj
  have:j=0:=by omega
  subst this
  exact ⟨λh2=>by simp at h2,λ_=>rfl⟩
 |more h3 h4 ih=>
  intro j hj
  rcases j with _|j
  ·obtain ⟨M,hM⟩:=h4.head
   refine ⟨λh2=>?_,λh2=>?_⟩
   ·simp only [List.getElem_cons_zero,List.getElem_cons_succ]
    subst hM
    exact h3
   ·subst hM;simp at h2
  ·have:=ih j (by simpa using hj)
   refine ⟨λh2=>?_,λh2=>?_⟩
   ·simp only [List.getElem_cons_succ]
    exact this.1 (by simpa using h2)
   ·simp only [List.getElem_cons_succ]
    exact this.2 (by simpa using h2)
def Ff:List Int->List Int->Int
 | [],[]=>0
 | [],_::_=> -1
 |_::_,[]=>1
 |x::a,y::b=>if x<y then-1 else if x>y then 1 else Ff a b
def fC (a b:List Int):Bool:=decide (Ff a b<0)
noncomputable abbrev Yu:Spec:=Gt (.pair tL (.pair tL .unit)) .bool false true (λx=>short x.1/\List.length x.1=List.length x.2.1) (λx=>fC x.1 x.2.1)
theorem QD (a b:List Int) (P:Bool->Prop):(Dm (λ(v3:Int×PUnit) (k4:Int×PUnit->Prop)=>Br (decide (v3.1<(↑a.length:Int))) (∃(y5:Int),idx a v3.1=some y5/\ ∃(y6:Int),idx b v3.1=some y6/\Br (y5 !=y6) (∃(y7:Int),idx a v3.1=some y7/\ ∃(y8:Int),idx b v3.1=some y8/\P (decide (y7<y8))) (k4 (IntKind.i64.wrap (v3.1+(1:Int)),()))) (P false)) ((0:Int),PUnit.unit))=fnW Gb (look []) Yu Tryz.f166 (a,b,()) P:=by kernel_rfl
theorem NT (a b:List Int) (h:short a/\a.length=b.length):fnW Gb (look []) Yu Tryz.f166 (a,b,()) (λ(z:Bool)=>z=fC a b):=by
 obtain ⟨ha,hb⟩:=h
 unfold short at ha
 refine Eq.mp (QD a b _) ?_
 refine Bw a.length (λv=>v.1) (λj _=>Ff (a.drop j) (b.drop j)=Ff a b) rfl (by simp) ?_
 rintro j ⟨i,⟨⟩⟩ K hj hi hR2 hK
 dsimp only at hi⊢
 subst hi
 refine Br.dec (λhl=>?_) λhl=>?_
 ·have hl:j<a.length:=by omega
  have hlb:j<b.length:=by omega
  rw [Gm hl,Gm hlb] at hR2
  simp only [Ff] at hR2
  refine ⟨_,Co hl,_,Co hlb,⟨λIz=>?_,λIz=>?_⟩⟩
  ·refine ⟨_,Co hl,_,Co hlb,?_⟩
   have Iz:a[j]≠b[j]:=by simpa using Iz
   unfold fC
   rw [<-hR2]
   by_cases h1:a[j]<b[j]
   ·rw [Ab h1];simp [h1]
   ·rw [Ak h1,Ab (by omega)];simp [h1]
  ·have Iz:a[j]=b[j]:=by simpa using Iz
   rw [Ak (by omega),Ak (by omega)] at hR2
   rw [Bm (by omega)]
   exact hK hl _ rfl hR2
 ·have:j=a.length:=by omega
  subst this
  rw [Pb,List.drop_eq_nil_of_le (by omega)] at hR2
  unfold fC
  rw [<-hR2]
  rfl
theorem uV:Sound Tryz.prog 166 Yu:=
 Sound.Gt Dt Bp mixed Tryz.func166 (by kernel_rfl) (by kernel_rfl) λx h=>NT x.1 x.2.1 h
abbrev SS:Type:=List (List Int)×List Int×List Int×Bool×Unit
abbrev rLS:CK:= .row tL 33
abbrev rN:CK:= .row tI 3
def Gx (L:List (List Int)) (My:List Int) (s:List Int):Nat:=(My.takeWhile λi=>fC (L.getD i.toNat []) s).length
structure Gs (m:Nat) (L:List (List Int)) (My:List Int):Prop where
 nj:L.length<=3000
 len: ∀x∈L,x.length=m
 short:m<=20
 perm:My.Perm (upto L.length)
 sorted:My.Pairwise λi j=>fC (L.getD i.toNat []) (L.getD j.toNat [])=true
def lb (L:List (List Int)) (s:List Int):Int:=if s∈L then (L.idxOf s:Int) else-1
def Xo (My:List Int) (k:Nat) (x:Int):List Int:=My.take k++x::My.drop k
noncomputable abbrev fT:Spec:=Gt (.pair dg (.pair tL .unit)) tI false true (λx=>Gs (List.length x.2.1) x.1.1 x.1.2.2.1) (λx=>(Gx x.1.1 x.1.2.2.1 x.2.1:Int))
noncomputable abbrev Wt:Spec:=Gt (.pair dg (.pair tL .unit)) tI false true (λx=>Gs (List.length x.2.1) x.1.1 x.1.2.2.1) (λx=>lb x.1.1 x.2.1)
noncomputable abbrev mz:MSpec:=qA [some 4,none,none] [(false,rLS),(false,rL),(false,rN),(false, .Fz .bool),(false, .Fz tL),(false, .Fz tI)] false [some 4] [rLS,rL,rN, .Fz .bool]
 (λx=>Gs (List.length x.2.2.2.2.1) x.1 x.2.2.1/\List.length x.2.1<=3000) (λx=>((x.1++ [x.2.2.2.2.1],x.2.1++ [x.2.2.2.2.2.1],Xo x.2.2.1 (Gx x.1 x.2.2.1 x.2.2.2.2.1) (List.length x.1),x.2.2.2.1,()),()))
def dd (L:List (List Int)):List Int:=(List.range L.length).foldl (λ(S:List Int) (i:Nat)=>Xo S (Gx (L.take i) S (L.getD i [])) (i:Int)) []
def Hp (g:List (List Int)) (x:List Int) (d:Int):List Int->List (List Int)->List Int->List (List Int)×List Int×Bool
 | [],L,D=>(L,D,true)
 |l::ls,L,D=>if Af x (Ax g l)∈L then Hp g x d ls L D else if L.length=3000 then (L,D,false) else Hp g x d ls (L++ [Af x (Ax g l)]) (D++ [d+1])
def Jn (g:List (List Int)) (ls:List Int):Nat->Nat->List (List Int)->List Int->List (List Int)×List Int×Bool
 |0,_,L,D=>(L,D,true)
 |f+1,k,L,D=>if k<L.length then (match Hp g (L.getD k []) (D.getD k 0) ls L D with
  |(L',D',true)=>Jn g ls f (k+1) L' D'
  |(L',D',false)=>(L',D',false)) else (L,D,true)
def Gy (g:List (List Int)) (s:List Int):List (List Int)×List Int×Bool:=Jn g (Ca g.length) 3001 0 [s] [0]
def Ou (g:List (List Int)) (s:List Int):SS:=((Gy g s).1,(Gy g s).2.1,dd (Gy g s).1,(Gy g s).2.2,())
noncomputable abbrev Ht:Spec:=Gt (.pair Ix (.pair tL .unit)) dg false false (λx=>Cb x.1=true/\List.length x.2.1<=20/\ ∀y∈x.2.1,0<=y/\y<x.1.1) (λx=>Ou x.1.2.2.1 x.2.1)
abbrev SV:Type:=Int×Int×List (List Int)×List Int×List Int×Bool×PUnit
theorem Aku (f:List (List Int)×List Int×List Int×Bool×Unit) (s:List Int) (P:Int->Prop):(Dm (λ(v3:SV) (k4:SV->Prop)=>Br (decide (v3.1<v3.2.1)) ((2:Int)≠(0:Int)/\ ∃(y5:Int),idx v3.2.2.2.2.1 (IntKind.i64.wrap ((IntKind.i64.wrap (v3.1+v3.2.1)).tdiv (2:Int)))=some y5/\ ∃(y6:List Int),idx v3.2.2.1 y5=some y6/\ ∃(y7:Bool),Yu.fn (y6,s,())=some y7/\Br y7 (k4 (IntKind.i64.wrap (IntKind.i64.wrap ((IntKind.i64.wrap (v3.1+v3.2.1)).tdiv (2:Int))+(1:Int)),v3.2.1,v3.2.2.1,v3.2.2.2.1,v3.2.2.2.2.1,v3.2.2.2.2.2.1,())) (k4 (v3.1,IntKind.i64.wrap ((IntKind.i64.wrap (v3.1+v3.2.1)).tdiv (2:Int)),v3.2.2.1,v3.2.2.2.1,v3.2.2.2.2.1,v3.2.2.2.2.2.1,()))) (P v3.1)) ((0:Int),(↑f.2.2.1.length:Int),f.1,f.2.1,f.2.2.1,f.2.2.2.1,PUnit.unit))=fnW Gb (look [(166,Yu)]) fT Tryz.f129 (f,s,()) P:=by kernel_rfl
theorem Ad6 (f:List (List Int)×List Int×List Int×Bool×Unit) (s:List Int) (P:Int->Prop):(∃(y3:Int),fT.fn ((f.1,f.2.1,f.2.2.1,f.2.2.2.1,()),s,())=some y3/\Br (decide (y3<(↑f.2.2.1.length:Int))) (∃(y4:Int),idx f.2.2.1 y3=some y4/\ ∃(y5:List Int),idx f.1 y4=some y5/\ ∃(y6:Bool),Ik.fn (y5,s,())=some y6/\Br y6 (∃(y7:Int),idx f.2.2.1 y3=some y7/\P y7) (P (-1:Int))) (P (-1:Int)))=fnW Gb (look [(129,fT),(128,Ik)]) Wt Tryz.f75 (f,s,()) P:=by kernel_rfl
theorem Akt (L:List (List Int)) (D S:List Int) (b:Bool) (s:List Int) (d:Int) (P:((List (List Int)×List Int×List Int×Bool×Unit)×Unit)->Prop):(∃(y7:Int),fT.fn ((List.take L.length (List.drop 0 L),List.take D.length (List.drop 0 D),List.take S.length (List.drop 0 S),b,()),s,())=some y7/\0=0/\S.length=S.length/\S.length+(List.take 1 (List.drop 0 [(0:Int)])).length<=Db/\((0:Int)<=IntKind.i64.wrap (y7+(1:Int))/\IntKind.i64.wrap (y7+(1:Int))<=(↑(S++List.take 1 (List.drop 0 [(0:Int)])).length:Int)/\(↑(S++List.take 1 (List.drop 0 [(0:Int)])).length:Int)<=(↑(S++List.take 1 (List.drop 0 [(0:Int)])).length:Int))/\((0:Int)<=y7/\y7<=(↑(S++List.take 1 (List.drop 0 [(0:Int)])).length:Int)/\(↑(S++List.take 1 (List.drop 0 [(0:Int)])).length:Int)<=(↑(S++List.take 1 (List.drop 0 [(0:Int)])).length:Int))/\((0:Int)<=y7/\y7<(↑(S++List.take 1 (List.drop 0 [(0:Int)])).length:Int))/\0+y7.toNat<(Dw (S++List.take 1 (List.drop 0 [(0:Int)])) (0+(IntKind.i64.wrap (y7+(1:Int))).toNat) (List.take ((↑(S++List.take 1 (List.drop 0 [(0:Int)])).length:Int).toNat-(IntKind.i64.wrap (y7+(1:Int))).toNat) (List.take ((↑(S++List.take 1 (List.drop 0 [(0:Int)])).length:Int).toNat-y7.toNat) (List.drop (0+y7.toNat) (S++List.take 1 (List.drop 0 [(0:Int)])))))).length/\0=0/\L.length=L.length/\L.length+(List.take 1 (List.drop 0 [s])).length<=Db/\0=0/\D.length=D.length/\D.length+(List.take 1 (List.drop 0 [d])).length<=Db/\P ((List.take (L++List.take 1 (List.drop 0 [s])).length (List.drop 0 (L++List.take 1 (List.drop 0 [s]))),List.take (D++List.take 1 (List.drop 0 [d])).length (List.drop 0 (D++List.take 1 (List.drop 0 [d]))),List.take (S++List.take 1 (List.drop 0 [(0:Int)])).length (List.drop 0 ((Dw (S++List.take 1 (List.drop 0 [(0:Int)])) (0+(IntKind.i64.wrap (y7+(1:Int))).toNat) (List.take ((↑(S++List.take 1 (List.drop 0 [(0:Int)])).length:Int).toNat-(IntKind.i64.wrap (y7+(1:Int))).toNat) (List.take ((↑(S++List.take 1 (List.drop 0 [(0:Int)])).length:Int).toNat-y7.toNat) (List.drop (0+y7.toNat) (S++List.take 1 (List.drop 0 [(0:Int)])))))).set (0+y7.toNat) (↑L.length:Int))),b,()),()))=fnMW Vb (look [(129,fT)]) mz Tryz.f164 (L,D,S,b,s,d,()) P:=by kernel_rfl
abbrev oq:Type:=Int×Int×ByteArray×List (List Int)×Bool×Bool×List (List Int)×List Int×List Int×List (List Int)×List Int×List Int×PUnit
abbrev JA:Type:=(List (List Int)×List Int×List Int×Bool×PUnit)×PUnit
theorem Ag1 (p:Int×ByteArray×List (List Int)×Unit) (s:List Int) (P:(List (List Int)×List Int×List Int×Bool×Unit)->Prop):(∃(y3:List Int),Yp.fn (s,())=some y3/\ ∃(y4:JA),mz.fn ([],[],[],false,y3,(0:Int),())=some y4/\ ∃(y5:List Int),Vq.fn ((p.1,p.2.1,p.2.2.1,()),())=some y5/\0=0/\0=([]:List Int).length/\0=0/\0=([]:List Int).length/\0=0/\0=([]:List Int).length/\0=0/\y4.1.1.length=y4.1.1.length/\0=0/\y4.1.2.1.length=y4.1.2.1.length/\0=0/\y4.1.2.2.1.length=y4.1.2.2.1.length/\Dm (λ(v6:oq) (k7:oq->Prop)=>Br (decide (v6.1<(↑v6.2.2.2.2.2.2.2.2.2.1.length:Int))) (0=0/\v6.2.2.2.2.2.2.1.length=v6.2.2.2.2.2.2.1.length/\0=0/\v6.2.2.2.2.2.2.2.1.length=v6.2.2.2.2.2.2.2.1.length/\0=0/\v6.2.2.2.2.2.2.2.2.1.length=v6.2.2.2.2.2.2.2.2.1.length/\0=0/\v6.2.2.2.2.2.2.2.2.2.1.length=v6.2.2.2.2.2.2.2.2.2.1.length/\0=0/\v6.2.2.2.2.2.2.2.2.2.2.1.length=v6.2.2.2.2.2.2.2.2.2.2.1.length/\0=0/\v6.2.2.2.2.2.2.2.2.2.2.2.1.length=v6.2.2.2.2.2.2.2.2.2.2.2.1.length/\Dm (λ(v8:oq) (k9:oq->Prop)=>Br (decide (v8.1<(↑y5.length:Int))) (((0:Int)<=v6.1/\v6.1<(↑v8.2.2.2.2.2.2.2.2.2.1.length:Int))/\ ∃(cq:List Int),v8.2.2.2.2.2.2.2.2.2.1[0+v6.1.toNat]?=some cq/\ ∃(Xp:Int),idx y5 v8.1=some Xp/\ ∃(aw:List Int),eK.fn ((v8.2.1,v8.2.2.1,v8.2.2.2.1,()),cq,Xp,())=some aw/\ ∃(vO:Int),Wt.fn ((List.take v8.2.2.2.2.2.2.2.2.2.1.length (List.drop 0 v8.2.2.2.2.2.2.2.2.2.1),List.take v8.2.2.2.2.2.2.2.2.2.2.1.length (List.drop 0 v8.2.2.2.2.2.2.2.2.2.2.1),List.take v8.2.2.2.2.2.2.2.2.2.2.2.1.length (List.drop 0 v8.2.2.2.2.2.2.2.2.2.2.2.1),v8.2.2.2.2.2.1,()),aw,())=some vO/\Br (decide (vO>=(0:Int))) (0=0/\v8.2.2.2.2.2.2.1.length=v8.2.2.2.2.2.2.1.length/\0=0/\v8.2.2.2.2.2.2.2.1.length=v8.2.2.2.2.2.2.2.1.length/\0=0/\v8.2.2.2.2.2.2.2.2.1.length=v8.2.2.2.2.2.2.2.2.1.length/\0=0/\v8.2.2.2.2.2.2.2.2.2.1.length=v8.2.2.2.2.2.2.2.2.2.1.length/\0=0/\v8.2.2.2.2.2.2.2.2.2.2.1.length=v8.2.2.2.2.2.2.2.2.2.2.1.length/\0=0/\v8.2.2.2.2.2.2.2.2.2.2.2.1.length=v8.2.2.2.2.2.2.2.2.2.2.2.1.length/\k9 (IntKind.i64.wrap (v8.1+(1:Int)),v8.2.1,v8.2.2.1,v8.2.2.2.1,v8.2.2.2.2.1,v8.2.2.2.2.2.1,v8.2.2.2.2.2.2.1,v8.2.2.2.2.2.2.2.1,v8.2.2.2.2.2.2.2.2.1,v8.2.2.2.2.2.2.2.2.2.1,v8.2.2.2.2.2.2.2.2.2.2.1,v8.2.2.2.2.2.2.2.2.2.2.2.1,())) (Br ((↑v8.2.2.2.2.2.2.2.2.2.1.length:Int)==(3000:Int)) (P (List.take v8.2.2.2.2.2.2.2.2.2.1.length (List.drop 0 v8.2.2.2.2.2.2.2.2.2.1),List.take v8.2.2.2.2.2.2.2.2.2.2.1.length (List.drop 0 v8.2.2.2.2.2.2.2.2.2.2.1),List.take v8.2.2.2.2.2.2.2.2.2.2.2.1.length (List.drop 0 v8.2.2.2.2.2.2.2.2.2.2.2.1),v8.2.2.2.2.2.1,())) (((0:Int)<=v6.1/\v6.1<(↑v8.2.2.2.2.2.2.2.2.2.2.1.length:Int))/\ ∃(ah:Int),v8.2.2.2.2.2.2.2.2.2.2.1[0+v6.1.toNat]?=some ah/\0=0/\v8.2.2.2.2.2.2.2.2.2.1.length=v8.2.2.2.2.2.2.2.2.2.1.length/\0=0/\v8.2.2.2.2.2.2.2.2.2.2.1.length=v8.2.2.2.2.2.2.2.2.2.2.1.length/\0=0/\v8.2.2.2.2.2.2.2.2.2.2.2.1.length=v8.2.2.2.2.2.2.2.2.2.2.2.1.length/\ ∃(oA:JA),mz.fn (v8.2.2.2.2.2.2.2.2.2.1,v8.2.2.2.2.2.2.2.2.2.2.1,v8.2.2.2.2.2.2.2.2.2.2.2.1,v8.2.2.2.2.2.1,aw,IntKind.i64.wrap (ah+(1:Int)),())=some oA/\0=0/\v8.2.2.2.2.2.2.1.length=v8.2.2.2.2.2.2.1.length/\0=0/\v8.2.2.2.2.2.2.2.1.length=v8.2.2.2.2.2.2.2.1.length/\0=0/\v8.2.2.2.2.2.2.2.2.1.length=v8.2.2.2.2.2.2.2.2.1.length/\0=0/\oA.1.1.length=oA.1.1.length/\0=0/\oA.1.2.1.length=oA.1.2.1.length/\0=0/\oA.1.2.2.1.length=oA.1.2.2.1.length/\k9 (IntKind.i64.wrap (v8.1+(1:Int)),v8.2.1,v8.2.2.1,v8.2.2.2.1,v8.2.2.2.2.1,oA.1.2.2.2.1,v8.2.2.2.2.2.2.1,v8.2.2.2.2.2.2.2.1,v8.2.2.2.2.2.2.2.2.1,oA.1.1,oA.1.2.1,oA.1.2.2.1,())))) (0=0/\v8.2.2.2.2.2.2.1.length=v8.2.2.2.2.2.2.1.length/\0=0/\v8.2.2.2.2.2.2.2.1.length=v8.2.2.2.2.2.2.2.1.length/\0=0/\v8.2.2.2.2.2.2.2.2.1.length=v8.2.2.2.2.2.2.2.2.1.length/\0=0/\v8.2.2.2.2.2.2.2.2.2.1.length=v8.2.2.2.2.2.2.2.2.2.1.length/\0=0/\v8.2.2.2.2.2.2.2.2.2.2.1.length=v8.2.2.2.2.2.2.2.2.2.2.1.length/\0=0/\v8.2.2.2.2.2.2.2.2.2.2.2.1.length=v8.2.2.2.2.2.2.2.2.2.2.2.1.length/\k7 (IntKind.i64.wrap (v6.1+(1:Int)),v8.2.1,v8.2.2.1,v8.2.2.2.1,v8.2.2.2.2.1,v8.2.2.2.2.2.1,v8.2.2.2.2.2.2.1,v8.2.2.2.2.2.2.2.1,v8.2.2.2.2.2.2.2.2.1,v8.2.2.2.2.2.2.2.2.2.1,v8.2.2.2.2.2.2.2.2.2.2.1,v8.2.2.2.2.2.2.2.2.2.2.2.1,()))) ((0:Int),v6.2.1,v6.2.2.1,v6.2.2.2.1,v6.2.2.2.2.1,v6.2.2.2.2.2.1,v6.2.2.2.2.2.2.1,v6.2.2.2.2.2.2.2.1,v6.2.2.2.2.2.2.2.2.1,v6.2.2.2.2.2.2.2.2.2.1,v6.2.2.2.2.2.2.2.2.2.2.1,v6.2.2.2.2.2.2.2.2.2.2.2.1,PUnit.unit)) (P (List.take v6.2.2.2.2.2.2.2.2.2.1.length (List.drop 0 v6.2.2.2.2.2.2.2.2.2.1),List.take v6.2.2.2.2.2.2.2.2.2.2.1.length (List.drop 0 v6.2.2.2.2.2.2.2.2.2.2.1),List.take v6.2.2.2.2.2.2.2.2.2.2.2.1.length (List.drop 0 v6.2.2.2.2.2.2.2.2.2.2.2.1),true,()))) ((0:Int),p.1,p.2.1,p.2.2.1,false,y4.1.2.2.2.1,[],[],[],y4.1.1,y4.1.2.1,y4.1.2.2.1,PUnit.unit))=fnW Akj (look [(68,Yp),(164,mz),(65,Vq),(66,eK),(75,Wt)]) Ht Tryz.f126 (p,s,()) P:=by kernel_rfl
theorem sD: ∀ {a b:List Int},Ff a b=0↔a=b
 | [],[]=>by simp [Ff]
 | [],_::_=>by simp [Ff]
 |_::_,[]=>by simp [Ff]
 |x::a,y::b=>by
  simp only [Ff,Hb]
  by_cases h1:x<y
  ·rw [Ab h1]
   exact ⟨λh=>by omega,λh=>by omega⟩
  ·rw [Ak h1]
   by_cases h2:x>y
   ·rw [Ab h2]
    exact ⟨λh=>by omega,λh=>by omega⟩
   ·rw [Ak h2,sD]
    exact ⟨λh=>⟨by omega,h⟩,λh=>h.2⟩
theorem QV: ∀(a b:List Int),Ff b a= -Ff a b
 | [],[]=>by simp [Ff]
 | [],_::_=>by simp [Ff]
 |_::_,[]=>by simp [Ff]
 |x::a,y::b=>by
  simp only [Ff]
  rcases Int.lt_trichotomy x y with h1|h1|h1
  ·simp [h1,show ¬y<x by omega]
  ·subst h1
   simp [QV a b]
  ·simp [h1,show ¬x<y by omega]
theorem xo: ∀ {a b c:List Int},Ff a b<0->Ff b c<0->Ff a c<0
 | [],[],_,h,_=>by simp [Ff] at h
 |_::_,[],_,h,_=>by simp [Ff] at h
 |_,_::_,[],_,h=>by simp [Ff] at h
 | [],_::_,_::_,_,_=>by simp [Ff]
 |x::a,y::b,z::c,h1,h2=>by
  simp only [Ff] at h1 h2⊢
  by_cases e1:x<y
  ·by_cases e2:y<z
   ·rw [Ab (by omega)];omega
   ·rw [Ak e2] at h2
    by_cases e3:y>z
    ·rw [Ab e3] at h2;omega
    ·rw [Ab (by omega)];omega
  ·rw [Ak e1] at h1
   by_cases e2:x>y
   ·rw [Ab e2] at h1;omega
   ·rw [Ak e2] at h1
    by_cases e3:y<z
    ·rw [Ab (by omega)];omega
    ·rw [Ak e3] at h2
     by_cases e4:y>z
     ·rw [Ab e4] at h2;omega
     ·rw [Ak e4] at h2
      rw [Ak (by omega),Ak (by omega)]
      exact xo h1 h2
theorem lt_iff {a b:List Int} :fC a b=true↔Ff a b<0:=Jf
theorem UR {a b c:List Int} (h1:fC a b=true) (h2:fC b c=true):fC a c=true:=lt_iff.2 (xo (lt_iff.1 h1) (lt_iff.1 h2))
theorem mb (a:List Int):fC a a=false:=by
 have:Ff a a=0:=sD.2 rfl
 unfold fC;rw [this];rfl
theorem Aas {a b:List Int} (h:fC a b=false) (Iz:a≠b):fC b a=true:=by
 rw [lt_iff,QV a b]
 have h1: ¬Ff a b<0:= λh'=>by rw [lt_iff.2 h'] at h;cases h
 have h2:Ff a b≠0:= λh'=>Iz (sD.1 h')
 omega
theorem lu {α:Type} (q:α->Bool): ∀(l:List α),l.Pairwise (λi j=>q j=true->q i=true)-> ∀k (hk:k<l.length),k<(l.takeWhile q).length↔q l[k]=true
 | [],_,k,hk=>by simp at hk
 |a::l,h,k,hk=>by
  obtain ⟨h1,h2⟩:=List.pairwise_cons.1 h
  by_cases ha:q a=true
  ·rw [List.takeWhile_cons_of_pos ha]
   rcases k with _|k
   ·simpa using ha
   ·simp only [Aw,List.getElem_cons_succ,Nat.add_lt_add_iff_right]
    exact lu q l h2 k (by simpa using hk)
  ·rw [List.takeWhile_cons_of_neg ha]
   simp only [Fb,Dn,false_iff]
   rcases k with _|k
   ·exact ha
   ·simp only [List.getElem_cons_succ]
    exact λhq=>ha (h1 _ (Al _) hq)
theorem Gs.tH {m:Nat} {L:List (List Int)} {My:List Int} (h:Gs m L My):My.length=L.length:=by rw [h.perm.length_eq,Mu]
theorem Gs.idx {m:Nat} {L:List (List Int)} {My:List Int} (h:Gs m L My) {k:Nat} (hk:k<My.length):0<=My[k]/\My[k]<L.length:=Lt.1 (h.perm.mem_iff.1 (Al hk))
theorem Gs.eP {m:Nat} {L:List (List Int)} {My:List Int} (h:Gs m L My) (s:List Int) {k:Nat} (hk:k<My.length):k<Gx L My s↔fC (L.getD My[k].toNat []) s=true:=
 lu _ My (h.sorted.imp λjZ hj=>UR jZ hj) k hk
theorem SP (L:List (List Int)) (My s:List Int):Gx L My s<=My.length:=(List.takeWhile_sublist _).length_le
theorem Gs.inj {m:Nat} {L:List (List Int)} {My:List Int} (h:Gs m L My) {i j:Nat} (hi:i<L.length) (hj:j<L.length) (e:L[i]=L[j]):i=j:=by
 have mem: ∀i,i<L.length->(i:Int)∈My:= λi hi=>h.perm.mem_iff.2 (Lt.2 ⟨by omega,by omega⟩)
 obtain ⟨p,hp,ep⟩:=Bh.1 (mem i hi)
 obtain ⟨q,hq,eq⟩:=Bh.1 (mem j hj)
 have get: ∀i (hi:i<L.length),L.getD ((i:Int)).toNat []=L[i]:= λi hi=>by rw [Aj,Ai,Ac hi];rfl
 rcases Nat.lt_trichotomy p q with h1|h1|h1
 ·have:=Ds.1 h.sorted p q hp hq h1
  rw [ep,eq,get i hi,get j hj,e,mb] at this
  cases this
 ·subst h1
  rw [ep] at eq
  omega
 ·have:=Ds.1 h.sorted q p hq hp h1
  rw [ep,eq,get i hi,get j hj,e,mb] at this
  cases this
theorem Tx {L:List (List Int)} {k:Nat} (h:k<L.length):L.getD k []=L[k]:=by rw [Ai,Ac h];rfl
theorem Gs.yU {m:Nat} {L:List (List Int)} {My:List Int} (h:Gs m L My) {s:List Int} :
  (∃hk:Gx L My s<My.length,L.getD My[Gx L My s].toNat []=s/\lb L s=My[Gx L My s])\/(lb L s= -1/\ ∀hk:Gx L My s<My.length,L.getD My[Gx L My s].toNat []≠s):=by
 by_cases hm:s∈L
 ·left
  obtain ⟨j,hj,rfl⟩:=Bh.1 hm
  obtain ⟨p,hp,ep⟩:=Bh.1 (h.perm.mem_iff.2 (Lt.2 ⟨by omega,by omega⟩):(j:Int)∈My)
  have gj:L.getD My[p].toNat []=L[j]:=by rw [ep,Aj,Tx hj]
  have hs:Gx L My L[j]=p:=by
   have h1: ¬p<Gx L My L[j]:= λh1=>by
    have:=(h.eP L[j] hp).1 h1
    rw [gj,mb] at this;cases this
   have h2: ¬Gx L My L[j]<p:= λh2=>by
    have h3:=(h.eP L[j] (k:=Gx L My L[j]) (by omega)).2 (by
     have:=Ds.1 h.sorted (Gx L My L[j]) p (by omega) hp h2
     rw [gj] at this;exact this)
    omega
   omega
  have hx:L.idxOf L[j]=j:=by
   have h1:L.idxOf L[j]<L.length:=List.idxOf_lt_length_of_mem hm
   exact h.inj h1 hj (List.getElem_idxOf h1)
  refine ⟨by omega,?_,?_⟩
  ·simp only [hs];exact gj
  ·unfold lb
   rw [Ab hm,hx]
   simp only [hs];exact ep.symm
 ·right
  refine ⟨by unfold lb;rw [Ak hm],λhk e=>hm ?_⟩
  have hi:=h.idx hk
  rw [Tx (by omega)] at e
  rw [<-e]
  exact Al _
theorem Aag (My:List Int) (k:Nat) (x:Int):(Xo My k x).Perm (x::My):=by
 unfold Xo
 refine List.perm_middle.trans (List.Perm.cons x ?_)
 rw [Jt]
theorem Gs.add {m:Nat} {L:List (List Int)} {My s:List Int} (h:Gs m L My) (hn:s∉L) (hl:s.length=m) (hr:L.length<3000):Gs m (L++ [s]) (Xo My (Gx L My s) L.length):=by
 have FB: ∀i∈My,(L++ [s]).getD i.toNat []=L.getD i.toNat []:= λi hi=>by
  have:=Lt.1 (h.perm.mem_iff.1 hi)
  rw [Ai,Ai,As (by omega)]
 have Als:(L++ [s]).getD ((L.length:Int)).toNat []=s:=by
  rw [Aj,Ai,Ar (by omega),Nat.sub_self];rfl
 refine ⟨by rw [Au,Cg];omega,λx hx=>?_,h.short,?_,?_⟩
 ·rcases Az.1 hx with hx|hx
  ·exact h.len x hx
  ·rw [Ad.1 hx];exact hl
 ·refine (Aag _ _ _).trans ?_
  rw [Au,Cg,Zb]
  exact (List.Perm.cons _ h.perm).trans (List.perm_append_singleton _ _).symm
 ·unfold Xo
  have hs:=h.sorted
  rw [<-Jt (Gx L My s) My] at hs
  obtain ⟨s1,s2,s3⟩:=List.pairwise_append.1 hs
  have mt: ∀i∈My.take (Gx L My s),i∈My/\fC (L.getD i.toNat []) s=true:= λi hi=>by
   obtain ⟨k,hk,rfl⟩:=Bh.1 hi
   have ZV:k<Gx L My s:=by rw [Dc] at hk;omega
   have hk3:k<My.length:=by rw [Dc] at hk;omega
   rw [List.getElem_take]
   exact ⟨Al _,(h.eP s hk3).1 ZV⟩
  have md: ∀i∈My.drop (Gx L My s),i∈My/\fC s (L.getD i.toNat [])=true:= λi hi=>by
   obtain ⟨k,hk,rfl⟩:=Bh.1 hi
   rw [List.length_drop] at hk
   have hk3:Gx L My s+k<My.length:=by omega
   rw [List.getElem_drop]
   refine ⟨Al _,Aas ?_ λe=>hn ?_⟩
   ·exact Bool.eq_false_iff.2 λhh=>by
     have:=(h.eP s hk3).2 hh
     omega
   ·have hi:=h.idx hk3
    rw [Tx (by omega)] at e
    rw [<-e];exact Al _
  refine List.pairwise_append.2 ⟨s1.imp_of_mem λ {a b} ha hb zm=>?_,List.pairwise_cons.2 ⟨λb hb=>?_,s2.imp_of_mem λ {a b} ha hb zm=>?_⟩,λa ha b hb=>?_⟩
  ·rw [FB a (mt a ha).1,FB b (mt b hb).1];exact zm
  ·rw [Als,FB b (md b hb).1];exact (md b hb).2
  ·rw [FB a (md a ha).1,FB b (md b hb).1];exact zm
  ·rcases Be.1 hb with rfl|hb
   ·rw [Als,FB a (mt a ha).1];exact (mt a ha).2
   ·rw [FB a (mt a ha).1,FB b (md b hb).1];exact s3 a ha b hb
theorem fW (L:List (List Int)) (s:List Int):dd (L++ [s])=Xo (dd L) (Gx L (dd L) s) L.length:=by
 unfold dd
 rw [Au,Cg,il,ct]
 have e: ∀(is:List Nat) (S:List Int),(∀i∈is,i<L.length)->is.foldl (λ(S:List Int) (i:Nat)=>Xo S (Gx ((L++ [s]).take i) S ((L++ [s]).getD i [])) (i:Int)) S=is.foldl (λ(S:List Int) (i:Nat)=>Xo S (Gx (L.take i) S (L.getD i [])) (i:Int)) S:=by
  intro is
  induction is with
  |nil=>intro S _;rfl
  |cons i is ih=>
   intro S h
   have hi:=h i (by simp)
   rw [Qx,Qx,ih _ λj hj=>h j (Aq _ hj)]
   congr 2
   rw [List.take_append_of_le_length (by omega),Ai,As hi,<-Ai]
 rw [e _ _ λi hi=>Eu.1 hi]
 simp only [Qx,List.foldl_nil]
 congr 2
 ·rw [List.take_append_of_le_length (Ao _),Ay]
 ·rw [Ai,Ar (by omega),Nat.sub_self];rfl
theorem o4 {m:Nat} (h:m<=20):Gs m [] []:=⟨by simp,λx hx=>(by cases hx),h,by simp [upto],List.Pairwise.nil⟩
theorem Aae {α:Type} {xs:List α} {y:Int} (h0:0<=y) (h:y.toNat<xs.length):idx xs y=some xs[y.toNat]:=by
 unfold idx
 rw [Ab h0,Ac h]
theorem Ak4 (f:SS) (s:List Int) (h:Gs s.length f.1 f.2.2.1):fnW Gb (look [(166,Yu)]) fT Tryz.f129 (f,s,()) (λ(z:Int)=>z=(Gx f.1 f.2.2.1 s:Int)):=by
 obtain ⟨L,D,My,b,⟨⟩⟩:=f
 dsimp only at h⊢
 have hle:=SP L My s
 have LV:=h.tH
 have td:=h.nj
 refine Eq.mp (Aku (L,D,My,b,()) s _) ?_
 refine Dm.mk (λv=>v.2.2.1=L/\v.2.2.2.2.1=My/\ ∃lo hi:Nat,v.1=lo/\v.2.1=hi/\lo<=hi/\hi<=My.length/\lo<=Gx L My s/\Gx L My s<=hi) (λv=>(v.2.1-v.1).toNat)
  ⟨rfl,rfl,0,My.length,rfl,rfl,by omega,by omega,by omega,hle⟩ ?_
 rintro ⟨lo',kZ,L',D',WT,b',⟨⟩⟩ ⟨h1,h2,lo,hi,h3,h4,h5,h6,h7,h8⟩
 dsimp only at h1 h2 h3 h4⊢
 subst h1 h2 h3 h4
 refine Br.dec (λhl=>?_) λhl=>?_
 ·have em:IntKind.i64.wrap ((IntKind.i64.wrap ((lo:Int)+(hi:Int))).tdiv 2)=(((lo+hi)/2:Nat):Int):=by
   rw [Df (n:=(lo:Int)+(hi:Int)) (by omega) (by omega),Int.tdiv_eq_ediv_of_nonneg (by omega),Df (by omega) (by omega)]
   omega
  rw [em]
  have hm1:(lo+hi)/2<WT.length:=by omega
  have hi1:=h.idx hm1
  have ZT:WT[(lo+hi)/2].toNat<L'.length:=by omega
  have hgd:=Tx ZT
  have hlen:=h.len _ (Al ZT)
  have FQ:short L'[WT[(lo+hi)/2].toNat]:=by
   unfold short
   have:=h.short;omega
  refine ⟨by decide,_,Co hm1,_,Aae hi1.1 ZT,_,Ab ⟨FQ,hlen⟩,⟨λhc=>?_,λhc=>?_⟩⟩
  ·have hc:fC L'[WT[(lo+hi)/2].toNat] s=true:=hc
   have hs:=(h.eP s hm1).2 (by rw [hgd];exact hc)
   rw [Bm (by omega)]
   exact ⟨⟨rfl,rfl,(lo+hi)/2+1,hi,rfl,rfl,by omega,h6,by omega,h8⟩,by omega⟩
  ·have hc:fC L'[WT[(lo+hi)/2].toNat] s=false:=hc
   have hs: ¬(lo+hi)/2<Gx L' WT s:= λhh=>by
    have:=(h.eP s hm1).1 hh
    rw [hgd,hc] at this;cases this
   exact ⟨⟨rfl,rfl,lo,(lo+hi)/2,rfl,rfl,by omega,by omega,h7,by omega⟩,by omega⟩
 ·show (lo:Int)=_
  omega
theorem uX:Sound Tryz.prog 129 fT:=
 Sound.Gt Dt (Av uV Bp) mixed Tryz.func129 (by kernel_rfl) (by kernel_rfl) λx h=>Ak4 x.1 x.2.1 h
theorem Abg (f:SS) (s:List Int) (h:Gs s.length f.1 f.2.2.1):fnW Gb (look [(129,fT),(128,Ik)]) Wt Tryz.f75 (f,s,()) (λ(z:Int)=>z=lb f.1 s):=by
 obtain ⟨L,D,My,b,⟨⟩⟩:=f
 dsimp only at h⊢
 refine Eq.mp (Ad6 (L,D,My,b,()) s _) ⟨_,Ab h,Br.dec (λhl=>?_) λhl=>?_⟩
 ·have hl:Gx L My s<My.length:=by
   have hl:((Gx L My s:Nat):Int)<(My.length:Int):=hl
   omega
  have hi1:=h.idx hl
  have ZT:My[Gx L My s].toNat<L.length:=by omega
  have hgd:=Tx ZT
  have hlen:=h.len _ (Al ZT)
  have FQ:short L[My[Gx L My s].toNat]:=by
   unfold short
   have:=h.short;omega
  refine ⟨_,Co hl,_,Aae hi1.1 ZT,_,Ab FQ,⟨λhc=>⟨_,Co hl,?_⟩,λhc=>?_⟩⟩
  ·have hc:L[My[Gx L My s].toNat]=s:=He hc
   rcases h.yU (s:=s) with ⟨hk,_,e⟩|⟨_,Iz⟩
   ·exact e.symm
   ·exact absurd (by rw [hgd];exact hc) (Iz hl)
  ·have hc: ¬L[My[Gx L My s].toNat]=s:=of_decide_eq_false hc
   rcases h.yU (s:=s) with ⟨hk,e,_⟩|⟨e,_⟩
   ·rw [hgd] at e;exact absurd e hc
   ·exact e.symm
 ·have hl: ¬Gx L My s<My.length:=by
   have hl: ¬((Gx L My s:Nat):Int)<(My.length:Int):=hl
   omega
  rcases h.yU (s:=s) with ⟨hk,e,_⟩|⟨e,_⟩
  ·exact absurd hk hl
  ·exact e.symm
theorem od:Sound Tryz.prog 75 Wt:=
 Sound.Gt Dt (Av uX (Av rv Bp)) mixed Tryz.func75 (by kernel_rfl) (by kernel_rfl) λx h=>Abg x.1 x.2.1 h
theorem MG {S:List Int} {k:Nat} (h:k<=S.length) (n:Int):
  (Dw (S++ [0]) (k+1) (List.take ((S++ [0]).length-(k+1)) (List.take ((S++ [0]).length-k) (List.drop k (S++ [0]))))).set k n=Xo S k n:=by
 obtain ⟨A,B,rfl,hA⟩: ∃A B,S=A++B/\A.length=k:=⟨S.take k,S.drop k,(Jt k S).symm,by rw [Dc];omega⟩
 subst hA
 have e1:List.drop A.length (A++B++ [0])=B++ [0]:=by rw [Ct,List.drop_left]
 have e2:List.take ((A++B++ [0]).length-A.length) (B++ [0])=B++ [0]:=List.take_of_length_le (by simp only [Au,Cg];omega)
 have e3:List.take ((A++B++ [0]).length-(A.length+1)) (B++ [0])=B:=by
  have:(A++B++ [(0:Int)]).length-(A.length+1)=B.length:=by simp only [Au,Cg];omega
  rw [this,List.take_left]
 rw [e1,e2,e3]
 unfold Dw Xo
 have e4:List.drop (A.length+1+B.length) (A++B++ [0])= []:=List.drop_eq_nil_of_le (by simp only [Au,Cg];omega)
 obtain ⟨c,hc⟩: ∃c,List.take (A.length+1) (A++B++ [0])=A++ [c]:=by
  rw [Ct,List.take_append,List.take_of_length_le (by omega)]
  cases B with
  |nil=>exact ⟨0,by simp⟩
  |cons b B=>exact ⟨b,by simp⟩
 rw [e4,hc,List.append_nil,Ct,List.singleton_append,Afh,List.take_left,List.drop_left]
theorem Ak3 (L:List (List Int)) (D S:List Int) (b:Bool) (s:List Int) (d:Int) (h:Gs s.length L S/\D.length<=3000):
  fnMW Vb (look [(129,fT)]) mz Tryz.f164 (L,D,S,b,s,d,()) (λ(z:(List (List Int)×List Int×List Int×Bool×Unit)×Unit)=>z=((L++ [s],D++ [d],Xo S (Gx L S s) L.length,b,()),())):=by
 obtain ⟨h,hD⟩:=h
 have hle:=SP L S s
 have LV:=h.tH
 have td:=h.nj
 refine Eq.mp (Akt L D S b s d _) ?_
 rw [Dk L,Dk D,Dk S]
 refine ⟨_,Ab h,?_⟩
 dsimp only
 have es:List.take 1 (List.drop 0 [(0:Int)])= [0]:=rfl
 have el:(S++ [(0:Int)]).length=S.length+1:=by simp
 rw [es,Bm (by omega),Bo,Bo,Aj,Aj,Aj]
 refine ⟨rfl,rfl,by show S.length+1<=4294967296;omega,⟨by omega,by omega,by omega⟩,⟨by omega,by omega,by omega⟩,⟨by omega,by omega⟩,?_,rfl,rfl,by show L.length+1<=4294967296;omega,rfl,rfl,by show D.length+1<=4294967296;omega,?_⟩
 ·unfold Dw
  simp only [Au,Dc,List.length_drop,Cg]
  omega
 ·rw [MG hle,Dk,Dk]
  have e5:List.take (S++ [(0:Int)]).length (List.drop 0 (Xo S (Gx L S s) (L.length:Int)))=Xo S (Gx L S s) (L.length:Int):=by
   rw [Ea,List.take_of_length_le]
   unfold Xo
   simp only [Au,Aw,Dc,List.length_drop,Fb]
   omega
  rw [e5]
  rfl
theorem OY:Cp Tryz.prog 164 mz:=
 Cp.qA Tm (Av uX Bp) mixed Tryz.func164 (by kernel_rfl) (by kernel_rfl) λx h=>Ak3 x.1 x.2.1 x.2.2.1 x.2.2.2.1 x.2.2.2.2.1 x.2.2.2.2.2.1 h
structure Sw (p:PP) (m:Nat) (L:List (List Int)) (D:List Int):Prop where
 ok:Gs m L (dd L)
 len:D.length=L.length
 row: ∀x∈L,∀y∈x,0<=y/\y<p.1
 dep: ∀j (h:j<D.length),0<=D[j]/\D[j]<=j
theorem nR {p:PP} (hv:Valid p) {x:List Int} {l:Int} (hx: ∀y∈x,0<=y/\y<p.1) (hl:Hq (List.length p.2.2.1) l):
  (Af x (Ax p.2.2.1 l)).length=x.length/\ ∀y∈Af x (Ax p.2.2.1 l),0<=y/\y<p.1:=by
 obtain ⟨h1,h2⟩:=kc hv hl
 refine ⟨Pf _ _,λy hy=>?_⟩
 have:=EH (n:=(Ax p.2.2.1 l).length) (λz hz=>by have:=hx z hz;omega) h2 y hy
 omega
theorem Sw.add {p:PP} {m:Nat} {L:List (List Int)} {D:List Int} (h:Sw p m L D) {y:List Int} {d:Int} (hn:y∉L) (hl:y.length=m) (hr:L.length<3000) (hy: ∀z∈y,0<=z/\z<p.1) (hd:0<=d/\d<=L.length):Sw p m (L++ [y]) (D++ [d]):=by
 have hlen:=h.len
 refine ⟨by rw [fW];exact h.ok.add hn hl hr,by simp [hlen],λx hx=>?_,λj hj=>?_⟩
 ·rcases Az.1 hx with hx|hx
  ·exact h.row x hx
  ·rw [Ad.1 hx];exact hy
 ·by_cases e:j<D.length
  ·rw [Lo e];exact h.dep j e
  ·simp only [Au,Cg] at hj
   have:j=D.length:=by omega
   subst this
   rw [List.getElem_append_right (by omega)]
   simp only [Nat.sub_self,List.getElem_cons_zero]
   omega
theorem dS {p:PP} {s:List Int} (hs:s.length<=20) (hr: ∀y∈s,0<=y/\y<p.1):Sw p s.length [s] [0]:=by
 refine ⟨?_,rfl,λx hx=>by rw [Ad.1 hx];exact hr,λj hj=>?_⟩
 ·have:=(o4 hs).add (s:=s) (by simp) rfl (by simp)
  have e:dd [s]=Xo [] (Gx [] [] s) 0:=fW [] s
  rw [e];exact this
 ·simp only [Cg] at hj
  have:j=0:=by omega
  subst this
  simp
theorem xS {L:List (List Int)} {s:List Int} :lb L s>=0↔s∈L:=by
 unfold lb
 split
 ·rename_i h;exact ⟨λ_=>h,λ_=>by omega⟩
 ·rename_i h;exact ⟨λhh=>by omega,λhh=>absurd hh h⟩
theorem Afa (p:PP) (s:List Int) (h:Cb p=true/\s.length<=20/\ ∀y∈s,0<=y/\y<p.1):fnW Akj (look [(68,Yp),(164,mz),(65,Vq),(66,eK),(75,Wt)]) Ht Tryz.f126 (p,s,()) (λ(z:SS)=>z=Ou p.2.2.1 s):=by
 obtain ⟨hv,hs,hr⟩:=h
 have hV:=valid hv
 have td:=hV.nj
 have hb0:=dS hs hr
 have FQ:short s:=by unfold short;omega
 obtain ⟨ls,rj⟩: ∃ls,Ca (List.length p.2.2.1)=ls:=⟨_,rfl⟩
 refine Eq.mp (Ag1 p s _) ⟨_,Ab FQ,_,Ab ⟨o4 hs,by show 0<=3000;omega⟩,ls,(Ab (by show List.length p.2.2.1<=8;exact td.2)).trans (Fq some rj),rfl,rfl,rfl,rfl,rfl,rfl,rfl,rfl,rfl,rfl,rfl,rfl,?_⟩
 have e0:Xo [] (Gx [] [] s) ((([]:List (List Int)).length:Nat):Int)=dd [s]:=(fW [] s).symm
 show Dm _ ((0:Int),p.1,p.2.1,p.2.2.1,false,false,[],[],[],[s],[(0:Int)],Xo [] (Gx [] [] s) ((([]:List (List Int)).length:Nat):Int),PUnit.unit)
 rw [e0]
 have hll:ls.length<=16:=by rw [<-rj,Qp];omega
 have nz: ∀l∈ls,Hq (List.length p.2.2.1) l:= λl hl=>Lc (rj▸hl)
 have tu:Jn p.2.2.1 ls 3001 0 [s] [0]=Gy p.2.2.1 s:=by unfold Gy;rw [rj]
 refine Dm.mk (λv=>v.2.1=p.1/\v.2.2.1=p.2.1/\v.2.2.2.1=p.2.2.1/\v.2.2.2.2.2.1=false/\ ∃k:Nat,v.1=k/\k<=v.2.2.2.2.2.2.2.2.2.1.length/\
   Sw p s.length v.2.2.2.2.2.2.2.2.2.1 v.2.2.2.2.2.2.2.2.2.2.1/\v.2.2.2.2.2.2.2.2.2.2.2.1=dd v.2.2.2.2.2.2.2.2.2.1/\
   Jn p.2.2.1 ls (3001-k) k v.2.2.2.2.2.2.2.2.2.1 v.2.2.2.2.2.2.2.2.2.2.1=Gy p.2.2.1 s) (λv=>3001-v.1.toNat)
  ⟨rfl,rfl,rfl,rfl,0,rfl,by simp,hb0,rfl,tu⟩ ?_
 rintro ⟨k',n1,n2,n3,b0,wh,x1,x2,x3,L0,D0,S0,⟨⟩⟩ ⟨h1,h2,h3,h4,k,h5,h6,h7,h8,h9⟩
 dsimp only at h1 h2 h3 h4 h5 h6 h7 h8 h9
 subst h1 h2 h3 h4 h5 h8
 dsimp only
 have ZJ:=h7.ok.nj
 have hD0:=h7.len
 refine Br.dec (λhl=>⟨rfl,rfl,rfl,rfl,rfl,rfl,rfl,rfl,rfl,rfl,rfl,rfl,?_⟩) λhl=>?_
 ·have hk:k<L0.length:=by omega
  have FK:k<D0.length:=by omega
  have hx: ∀y∈L0[k],0<=y/\y<p.1:=h7.row _ (Al hk)
  have hxl:L0[k].length=s.length:=h7.ok.len _ (Al hk)
  have hdk:=h7.dep k FK
  obtain ⟨f,hf⟩: ∃f,3001-k=f+1:=⟨3000-k,by omega⟩
  have hgo: ∀L' D' ok,Hp p.2.2.1 L0[k] D0[k] ls L0 D0=(L',D',ok)->Gy p.2.2.1 s=if ok=true then Jn p.2.2.1 ls f (k+1) L' D' else (L',D',false):=by
   intro L' D' ok he
   rw [<-h9,hf,Jn,Ab hk,Tx hk,Ai,Ac FK]
   simp only [Bq]
   rw [he]
   cases ok<;>rfl
  refine Dm.mk (λv=>v.2.1=p.1/\v.2.2.1=p.2.1/\v.2.2.2.1=p.2.2.1/\v.2.2.2.2.2.1=false/\ ∃i:Nat,v.1=i/\i<=ls.length/\Sw p s.length v.2.2.2.2.2.2.2.2.2.1 v.2.2.2.2.2.2.2.2.2.2.1/\
    v.2.2.2.2.2.2.2.2.2.2.2.1=dd v.2.2.2.2.2.2.2.2.2.1/\(∃A,v.2.2.2.2.2.2.2.2.2.1=L0++A)/\(∃A,v.2.2.2.2.2.2.2.2.2.2.1=D0++A)/\
    Hp p.2.2.1 L0[k] D0[k] (ls.drop i) v.2.2.2.2.2.2.2.2.2.1 v.2.2.2.2.2.2.2.2.2.2.1=Hp p.2.2.1 L0[k] D0[k] ls L0 D0) (λv=>ls.length-v.1.toNat)
   ⟨rfl,rfl,rfl,rfl,0,rfl,Ja _,h7,rfl,⟨[],by simp⟩,⟨[],by simp⟩,rfl⟩ ?_
  rintro ⟨i',m1,m2,m3,b1,wh1,y1,y2,y3,L,D,S,⟨⟩⟩ ⟨g1,g2,g3,g4,i,g5,g6,g7,g8,⟨A,g9⟩,⟨A',g10⟩,rh⟩
  dsimp only at g1 g2 g3 g4 g5 g6 g7 g8 g9 g10 rh
  subst g1 g2 g3 g4 g5 g8
  dsimp only
  have hLf:=g7.ok.nj
  have hDl:=g7.len
  rw [Dk L,Dk D,Dk (dd L)]
  refine Br.dec (λhli=>?_) λhli=>?_
  ·have hi:i<ls.length:=by omega
   have ZX:k<L.length:=by rw [g9,Au];omega
   have hLk:L[k]=L0[k]:=by simp only [g9];exact Lo hk
   have ZW:k<D.length:=by rw [hDl];exact ZX
   have hDk:D[k]=D0[k]:=by simp only [g10];exact Lo FK
   have m5:=nz _ (Al hi)
   obtain ⟨nl,nr⟩:=nR hV hx m5
   rw [Gm hi] at rh
   simp only [Hp] at rh
   refine ⟨⟨by omega,by omega⟩,L0[k],by rw [Aj,Bo,Ac ZX,hLk],_,Co hi,_,Ab ⟨hv,by show L0[k].length<=20;omega,hx,m5⟩,?_⟩
   dsimp only
   have hyl:(Af L0[k] (Ax p.2.2.1 ls[i])).length=s.length:=by rw [nl,hxl]
   refine ⟨_,Ab (by show Gs (Af L0[k] (Ax p.2.2.1 ls[i])).length L (dd L);rw [hyl];exact g7.ok),Br.dec (λZw=>?_) λZw=>?_⟩
   ·have Zw:Af L0[k] (Ax p.2.2.1 ls[i])∈L:=xS.1 Zw
    rw [Ab Zw] at rh
    rw [Bm (by omega)]
    exact ⟨rfl,rfl,rfl,rfl,rfl,rfl,rfl,rfl,rfl,rfl,rfl,rfl,⟨rfl,rfl,rfl,rfl,i+1,rfl,hi,g7,rfl,⟨A,g9⟩,⟨A',g10⟩,rh⟩,by omega⟩
   ·have Zw:Af L0[k] (Ax p.2.2.1 ls[i])∉L:= λhh=>Zw (xS.2 hh)
    rw [Ak Zw] at rh
    refine ⟨λVh=>?_,λVh=>⟨⟨by omega,by omega⟩,D0[k],by rw [Aj,Bo,Ac ZW,hDk],rfl,rfl,rfl,rfl,rfl,rfl,?_⟩⟩
    ·have Vh:L.length=3000:=by
      have:(L.length:Int)=3000:=by simpa using Vh
      omega
     rw [Ab Vh] at rh
     have:=hgo _ _ _ rh.symm
     rw [Ak (by decide)] at this
     unfold Ou
     rw [this]
    ·have Vh:L.length≠3000:=by
      have:(L.length:Int)≠3000:=by simpa using Vh
      omega
     rw [Ak Vh] at rh
     rw [Df (n:=D0[k]+1) (by omega) (by omega)]
     refine ⟨_,Ab ⟨by show Gs (Af L0[k] (Ax p.2.2.1 ls[i])).length L (dd L);rw [hyl];exact g7.ok,by show D.length<=3000;omega⟩,?_⟩
     dsimp only
     rw [Bm (by omega),<-fW]
     refine ⟨rfl,rfl,rfl,rfl,rfl,rfl,rfl,rfl,rfl,rfl,rfl,rfl,⟨rfl,rfl,rfl,rfl,i+1,rfl,hi,g7.add Zw hyl (by omega) nr ⟨by omega,by omega⟩,rfl,⟨A++ [Af L0[k] (Ax p.2.2.1 ls[i])],by rw [g9,Ct]⟩,⟨A'++ [D0[k]+1],by rw [g10,Ct]⟩,rh⟩,by omega⟩
  ·have:i=ls.length:=by omega
   subst this
   rw [Pb,Hp] at rh
   have:=hgo _ _ _ rh.symm
   rw [Ab rfl] at this
   rw [Bm (by omega)]
   refine ⟨rfl,rfl,rfl,rfl,rfl,rfl,rfl,rfl,rfl,rfl,rfl,rfl,⟨rfl,rfl,rfl,rfl,k+1,rfl,by rw [g9,Au];omega,g7,rfl,?_⟩,by omega⟩
   rw [show 3001-(k+1)=f by omega]
   exact this.symm
 ·have hk:k=L0.length:=by omega
  rw [Dk L0,Dk D0,Dk (dd L0)]
  obtain ⟨f,hf⟩: ∃f,3001-k=f+1:=⟨3000-k,by omega⟩
  rw [hf,Jn,Ak (by omega)] at h9
  unfold Ou
  rw [<-h9]
theorem IN:Sound Tryz.prog 126 Ht:=
 Sound.Gt Akk (Av ju (Fu OY (Av rE (Av BI (Av od Bp))))) mixed Tryz.func126 (by kernel_rfl) (by kernel_rfl) λx h=>Afa x.1 x.2.1 h
noncomputable def Di (p:PP) (t:List Int):Bool:=Cb p&&Pk p.1 t
noncomputable def Kl (p:PP) (t:List Int):Bool:=Di p t&&(Gy p.2.2.1 t).2.2
noncomputable abbrev Fy:Spec:=Gt (.pair Ix (.pair tL .unit)) .bool false true (λx=>Gw x.1/\short x.2.1) (λx=>Di x.1 x.2.1)
noncomputable def Iv (p:PP) (t:List Int):TT:=if Kl p t=true then (t,(Gy p.2.2.1 t).1,(Gy p.2.2.1 t).2.1,()) else ([],[],[],())
noncomputable abbrev Oc:MSpec:=qA [some 3,none] [(false, .Fz tI),(false, .Fz .str),(false, .Fz rH),(false, .Fz tL)] true [none,none,none] [xLL,rL, .Fz .bool]
 (λx=>Di (x.1,x.2.1,x.2.2.1,()) x.2.2.2.1=true) (λx=>(((Iv (x.1,x.2.1,x.2.2.1,()) x.2.2.2.1).2.1,(Iv (x.1,x.2.1,x.2.2.1,()) x.2.2.2.1).2.2.1,Kl (x.1,x.2.1,x.2.2.1,()) x.2.2.2.1,()),()))
noncomputable abbrev Yv:MSpec:=qA [some 3,none] [(false, .Fz tI),(false, .Fz .str),(false, .Fz rH),(false, .Fz tL)] true [none,none,none] [xLL,rL, .Fz .bool]
 (λx=>Gw (x.1,x.2.1,x.2.2.1,())/\short x.2.2.2.1) (λx=>(((Iv (x.1,x.2.1,x.2.2.1,()) x.2.2.2.1).2.1,(Iv (x.1,x.2.1,x.2.2.1,()) x.2.2.2.1).2.2.1,Kl (x.1,x.2.1,x.2.2.1,()) x.2.2.2.1,()),()))
noncomputable def eE (p:PP) (t:TT):Bool:=Kl p t.1&&Aat (Iv p t.1) t
def Afi (ts:List TT):Prop:=ts.length<=4294967296/\ ∀t∈ts,OQ t
noncomputable def tR (p:PP) (ts:List TT):Bool:=Cb p&&decide (ts.length<=4)&&List.all ts (eE p)
theorem x7 (p:Int×ByteArray×List (List Int)×Unit) (t:List Int) (P:Bool->Prop):(∃(y3:Bool),Ig.fn ((p.1,p.2.1,p.2.2.1,()),())=some y3/\Br y3 (∃(y4:Bool),Kh.fn (p.1,t,())=some y4/\P y4) (P false))=fnW Gb (look [(99,Ig),(101,Kh)]) Fy Tryz.f77 (p,t,()) P:=by kernel_rfl
theorem xd (p:Int×ByteArray×List (List Int)×Unit) (t:List Int) (P:Bool->Prop):(∃(y3:Bool),Ig.fn ((p.1,p.2.1,p.2.2.1,()),())=some y3/\Br y3 (∃(y4:Bool),Kh.fn (p.1,t,())=some y4/\P y4) (P false))=fnW Gb (look [(63,Ig),(137,Kh)]) Fy Tryz.f86 (p,t,()) P:=by kernel_rfl
abbrev df:Type:=Int×List (List Int)×List (List Int)×List Int×(ByteArray->Option Bool)×PUnit
abbrev qT:Type:=Int×Int×ByteArray×List (List Int)×List (List Int)×List (List Int)×List Int×(ByteArray->Option Bool)×PUnit
theorem QC (n:Int) (str:ByteArray) (g:List (List Int)) (t:List Int) (P:((List (List Int)×List Int×Bool×Unit)×Unit)->Prop):(∃(y5:(List Int×PUnit)×PUnit),o3.fn (t,())=some y5/\ ∃(y6:ByteArray),Il.fn (t,())=some y6/\ ∃(y7:List Int),Nj.fn ((↑g.length:Int),())=some y7/\0=0/\1= [List.take y5.1.1.length (List.drop 0 y5.1.1)].length/\0=0/\1= [(0:Int)].length/\0=0/\0=([]:List Int).length/\Dm (λ(v8:qT) (k9:qT->Prop)=>Br (decide (v8.1<(↑y7.length:Int))) (∃(cq:Int),idx y7 v8.1=some cq/\ ∃(Xp:List Int),Hy.fn (v8.2.2.2.1,cq,())=some Xp/\0=0/\v8.2.2.2.2.1.length=v8.2.2.2.2.1.length/\v8.2.2.2.2.1.length+(List.take 1 (List.drop 0 [Xp])).length<=Db/\0=0/\v8.2.2.2.2.2.1.length=v8.2.2.2.2.2.1.length/\0=0/\v8.2.2.2.2.2.2.1.length=v8.2.2.2.2.2.2.1.length/\0=0/\(v8.2.2.2.2.1++List.take 1 (List.drop 0 [Xp])).length=(v8.2.2.2.2.1++List.take 1 (List.drop 0 [Xp])).length/\k9 (IntKind.i64.wrap (v8.1+(1:Int)),v8.2.1,v8.2.2.1,v8.2.2.2.1,v8.2.2.2.2.1++List.take 1 (List.drop 0 [Xp]),v8.2.2.2.2.2.1,v8.2.2.2.2.2.2.1,v8.2.2.2.2.2.2.2.1,())) (0=0/\v8.2.2.2.2.2.1.length=v8.2.2.2.2.2.1.length/\0=0/\v8.2.2.2.2.2.2.1.length=v8.2.2.2.2.2.2.1.length/\0=0/\v8.2.2.2.2.1.length=v8.2.2.2.2.1.length/\Dm (λ(v10:df) (k11:df->Prop)=>Br (decide (v10.1<(↑v10.2.2.1.length:Int))) (0=0/\v10.2.2.1.length=v10.2.2.1.length/\0=0/\v10.2.2.2.1.length=v10.2.2.2.1.length/\0=0/\v10.2.1.length=v10.2.1.length/\0=0/\v10.2.1.length=v10.2.1.length/\Dm (λ(Od:df) (k13:df->Prop)=>Br (decide (Od.1<(↑v10.2.1.length:Int))) (((0:Int)<=Od.1/\Od.1<(↑Od.2.1.length:Int))/\ ∃(ah:List Int),Od.2.1[0+Od.1.toNat]?=some ah/\((0:Int)<=v10.1/\v10.1<(↑Od.2.2.1.length:Int))/\ ∃(oA:List Int),Od.2.2.1[0+v10.1.toNat]?=some oA/\ ∃(s8:(List Int×PUnit)×PUnit),bp.fn (ah,oA,())=some s8/\ ∃(QI:ByteArray),Il.fn (List.take s8.1.1.length (List.drop 0 s8.1.1),())=some QI/\Br (!(Od.2.2.2.2.1 QI).getD false) (Br ((↑Od.2.2.1.length:Int)==(3000:Int)) (P ((List.take 0 (List.drop 0 []),List.take 0 (List.drop 0 []),false,()),())) (0=0/\Od.2.2.1.length=Od.2.2.1.length/\Od.2.2.1.length+(List.take 1 (List.drop 0 [List.take s8.1.1.length (List.drop 0 s8.1.1)])).length<=Db/\((0:Int)<=v10.1/\v10.1<(↑Od.2.2.2.1.length:Int))/\ ∃(XX:Int),Od.2.2.2.1[0+v10.1.toNat]?=some XX/\0=0/\Od.2.2.2.1.length=Od.2.2.2.1.length/\Od.2.2.2.1.length+(List.take 1 (List.drop 0 [IntKind.i64.wrap (XX+(1:Int))])).length<=Db/\0=0/\(Od.2.2.1++List.take 1 (List.drop 0 [List.take s8.1.1.length (List.drop 0 s8.1.1)])).length=(Od.2.2.1++List.take 1 (List.drop 0 [List.take s8.1.1.length (List.drop 0 s8.1.1)])).length/\0=0/\(Od.2.2.2.1++List.take 1 (List.drop 0 [IntKind.i64.wrap (XX+(1:Int))])).length=(Od.2.2.2.1++List.take 1 (List.drop 0 [IntKind.i64.wrap (XX+(1:Int))])).length/\0=0/\Od.2.1.length=Od.2.1.length/\0=0/\Od.2.1.length=Od.2.1.length/\k13 (IntKind.i64.wrap (Od.1+(1:Int)),Od.2.1,Od.2.2.1++List.take 1 (List.drop 0 [List.take s8.1.1.length (List.drop 0 s8.1.1)]),Od.2.2.2.1++List.take 1 (List.drop 0 [IntKind.i64.wrap (XX+(1:Int))]),cj Od.2.2.2.2.1 QI true,()))) (0=0/\Od.2.2.1.length=Od.2.2.1.length/\0=0/\Od.2.2.2.1.length=Od.2.2.2.1.length/\0=0/\Od.2.1.length=Od.2.1.length/\0=0/\Od.2.1.length=Od.2.1.length/\k13 (IntKind.i64.wrap (Od.1+(1:Int)),Od.2.1,Od.2.2.1,Od.2.2.2.1,Od.2.2.2.2.1,()))) (0=0/\Od.2.2.1.length=Od.2.2.1.length/\0=0/\Od.2.2.2.1.length=Od.2.2.2.1.length/\0=0/\Od.2.1.length=Od.2.1.length/\k11 (IntKind.i64.wrap (v10.1+(1:Int)),Od.2.1,Od.2.2.1,Od.2.2.2.1,Od.2.2.2.2.1,()))) ((0:Int),v10.2.1,v10.2.2.1,v10.2.2.2.1,v10.2.2.2.2.1,PUnit.unit)) (P ((List.take v10.2.2.1.length (List.drop 0 v10.2.2.1),List.take v10.2.2.2.1.length (List.drop 0 v10.2.2.2.1),true,()),()))) ((0:Int),v8.2.2.2.2.1,v8.2.2.2.2.2.1,v8.2.2.2.2.2.2.1,v8.2.2.2.2.2.2.2.1,PUnit.unit))) ((0:Int),n,str,g,[],[List.take y5.1.1.length (List.drop 0 y5.1.1)],[(0:Int)],cj (λ(_:ByteArray)=>none) y6 true,PUnit.unit))=fnMW (PF [jM+10]) (look [(138,o3),(121,Il),(139,Nj),(135,Hy),(79,bp)]) Oc Tryz.f88 (n,str,g,t,()) P:=by kernel_rfl
theorem QE (n:Int) (str:ByteArray) (g:List (List Int)) (t:List Int) (P:((List (List Int)×List Int×Bool×Unit)×Unit)->Prop):(∃(y5:Bool),Fy.fn ((n,str,g,()),t,())=some y5/\Br (!y5) (P ((List.take 0 (List.drop 0 []),List.take 0 (List.drop 0 []),false,()),())) (∃(y6:(List (List Int)×List Int×Bool×PUnit)×PUnit),Oc.fn (n,str,g,t,())=some y6/\P ((List.take y6.1.1.length (List.drop 0 y6.1.1),List.take y6.1.2.1.length (List.drop 0 y6.1.2.1),y6.1.2.2.1,()),())))=fnMW Vb (look [(77,Fy),(88,Oc)]) Yv Tryz.f90 (n,str,g,t,()) P:=by kernel_rfl
theorem mQ {p:PP} (hV:Valid p) {m:Nat} {x:List Int} {d:Int} (hx: ∀y∈x,0<=y/\y<p.1) (hxl:x.length=m): ∀(ls:List Int) (L:List (List Int)) (D:List Int),(∀l∈ls,Hq (List.length p.2.2.1) l)->
  Sw p m L D->(0<=d/\d<L.length)->Sw p m (Hp p.2.2.1 x d ls L D).1 (Hp p.2.2.1 x d ls L D).2.1/\(∃A,(Hp p.2.2.1 x d ls L D).1=L++A)/\(∃A,(Hp p.2.2.1 x d ls L D).2.1=D++A)
 | [],L,D,_,h,_=>⟨h,⟨[],by simp [Hp]⟩,⟨[],by simp [Hp]⟩⟩
 |l::ls,L,D,hl,h,hd=>by
  obtain ⟨n1,n2⟩:=nR hV hx (hl l (by simp))
  have Jv: ∀l∈ls,Hq (List.length p.2.2.1) l:= λl' h'=>hl l' (Aq _ h')
  simp only [Hp]
  split
  ·exact mQ hV hx hxl ls L D Jv h hd
  ·rename_i hn
   split
   ·exact ⟨h,⟨[],by simp⟩,⟨[],by simp⟩⟩
   ·rename_i hf
    have td:=h.ok.nj
    obtain ⟨k1,⟨A,k2⟩,⟨A',k3⟩⟩:=mQ hV hx hxl ls (L++ [Af x (Ax p.2.2.1 l)]) (D++ [d+1]) Jv (h.add hn (by rw [n1,hxl]) (by omega) n2 ⟨by omega,by omega⟩) ⟨hd.1,by rw [Au];omega⟩
    exact ⟨k1,⟨_::A,by rw [k2,Ct];rfl⟩,⟨_::A',by rw [k3,Ct];rfl⟩⟩
theorem DY {p:PP} (hV:Valid p) {m:Nat} {ls:List Int} (hl: ∀l∈ls,Hq (List.length p.2.2.1) l): ∀(f k:Nat) (L:List (List Int)) (D:List Int),Sw p m L D->
  Sw p m (Jn p.2.2.1 ls f k L D).1 (Jn p.2.2.1 ls f k L D).2.1/\(∃A,(Jn p.2.2.1 ls f k L D).1=L++A)
 |0,k,L,D,h=>⟨h,⟨[],by simp [Jn]⟩⟩
 |f+1,k,L,D,h=>by
  simp only [Jn]
  split
  ·rename_i hk
   have FK:k<D.length:=by rw [h.len];exact hk
   have hd:=h.dep k FK
   have e:D.getD k 0=D[k]:=by rw [Ai,Ac FK];rfl
   rw [Tx hk,e]
   obtain ⟨k1,⟨A,k2⟩,_⟩:=mQ hV (h.row _ (Al hk)) (h.ok.len _ (Al hk)) (d:=D[k]) ls L D hl h ⟨by omega,by omega⟩
   split
   ·rename_i L' D' he
    rw [he] at k1 k2
    obtain ⟨g1,⟨B,g2⟩⟩:=DY hV hl f (k+1) L' D' k1
    have k2:L'=L++A:=k2
    exact ⟨g1,⟨A++B,by rw [g2,k2,Ct]⟩⟩
   ·rename_i L' D' he
    rw [he] at k1 k2
    exact ⟨k1,⟨A,k2⟩⟩
  ·exact ⟨h,⟨[],by simp⟩⟩
theorem yX {p:PP} {s:List Int} (hv:Cb p=true) (hs:s.length<=20) (hr: ∀y∈s,0<=y/\y<p.1):Sw p s.length (Gy p.2.2.1 s).1 (Gy p.2.2.1 s).2.1/\ ∃A,(Gy p.2.2.1 s).1=s::A:=
 DY (valid hv) (λ_ hl=>Lc hl) _ _ _ _ (dS hs hr)
theorem Nv {p:PP} {t:List Int} :Di p t=true↔Cb p=true/\Pk p.1 t=true:=by
 unfold Di;rw [Ag]
theorem Iy {p:PP} {t:List Int} (h:Di p t=true):t.length<=20/\ ∀y∈t,0<=y/\y<p.1:=by
 obtain ⟨h1,h2⟩:=Nv.1 h
 have hn:=(valid h1).n
 obtain ⟨h3,h4⟩:=Gi.1 h2
 have hy: ∀y∈t,0<=y/\y<p.1:= λy hy=>by
  obtain ⟨j,hj,rfl⟩:=Bh.1 hy
  have:=h4 j hj hj
  omega
 refine ⟨?_,hy⟩
 have h5:=NY h4 (t.length-1) (by omega)
 have h6:=hy _ (Al (show t.length-1<t.length by omega))
 omega
theorem px {p:PP} {t:List Int} (h:Di p t=true):Sw p t.length (Gy p.2.2.1 t).1 (Gy p.2.2.1 t).2.1:=(yX (Nv.1 h).1 (Iy h).1 (Iy h).2).1
theorem kf {p:PP} {t:List Int} :Kl p t=true↔Di p t=true/\(Gy p.2.2.1 t).2.2=true:=by
 unfold Kl;rw [Ag]
theorem TG {p:PP} {m:Nat} {L:List (List Int)} {D:List Int} (h:Sw p m L D):Nu L/\short D:=by
 have h1:=h.ok.nj
 have h2:=h.ok.short
 have h3:=h.len
 refine ⟨⟨by omega,λx hx=>?_⟩,by unfold short;omega⟩
 have:=h.ok.len x hx
 unfold short;omega
theorem ED {p:PP} {t:List Int} :OQ (Iv p t):=by
 unfold Iv
 split
 ·rename_i h
  have h1:=(kf.1 h).1
  have h2:=TG (px h1)
  have h3:=(Iy h1).1
  exact ⟨show t.length<=4294967296 by omega,h2.1,h2.2⟩
 ·exact ⟨by simp [short],⟨by simp,λr hr=>by cases hr⟩,by simp [short]⟩
theorem wu (p:PP) (t:List Int) (h:Gw p/\short t):fnW Gb (look [(99,Ig),(101,Kh)]) Fy Tryz.f77 (p,t,()) (λ(z:Bool)=>z=Di p t):=by
 refine Eq.mp (x7 p t _) ⟨_,Ab h.1,⟨λhv=>?_,λhv=>?_⟩⟩
 ·have hv:Cb p=true:=hv
  have hn:=(valid hv).n
  refine ⟨_,Ab ⟨⟨by show 0<=p.1;omega,by show p.1<=4294967296;omega⟩,h.2⟩,?_⟩
  unfold Di;rw [hv];rfl
 ·have hv:Cb p=false:=hv
  unfold Di;rw [hv];rfl
theorem Wx:Sound Tryz.prog 77 Fy:=
 Sound.Gt Dt (Av eR (Av rD Bp)) mixed Tryz.func77 (by kernel_rfl) (by kernel_rfl) λx h=>wu x.1 x.2.1 h
theorem wD (p:PP) (t:List Int) (h:Gw p/\short t):fnW Gb (look [(63,Ig),(137,Kh)]) Fy Tryz.f86 (p,t,()) (λ(z:Bool)=>z=Di p t):=by
 refine Eq.mp (xd p t _) ⟨_,Ab h.1,⟨λhv=>?_,λhv=>?_⟩⟩
 ·have hv:Cb p=true:=hv
  have hn:=(valid hv).n
  refine ⟨_,Ab ⟨⟨by show 0<=p.1;omega,by show p.1<=4294967296;omega⟩,h.2⟩,?_⟩
  unfold Di;rw [hv];rfl
 ·have hv:Cb p=false:=hv
  unfold Di;rw [hv];rfl
theorem og:Sound Tryz.prog 86 Fy:=
 Sound.Gt Dt (Av Ss (Av oc Bp)) mixed Tryz.func86 (by kernel_rfl) (by kernel_rfl) λx h=>wD x.1 x.2.1 h
def oH (m:ByteArray->Option Bool) (L:List (List Int)):Prop:= ∀q,Zs q->(m (Sz q)).getD false=decide (q∈L)
theorem oH.add {m:ByteArray->Option Bool} {L:List (List Int)} {y:List Int} (h:oH m L) (hy:Zs y):oH (cj m (Sz y) true) (L++ [y]):=by
 intro q hq
 unfold cj
 by_cases e:q=y
 ·subst e
  rw [Ab rfl];simp
 ·rw [Ak λhk=>e (key_inj hq hy hk),h q hq]
  simp [e]
theorem NS (n:Int) (str:ByteArray) (g:List (List Int)) (t:List Int) (h:Di (n,str,g,()) t=true):
  fnMW (PF [jM+10]) (look [(138,o3),(121,Il),(139,Nj),(135,Hy),(79,bp)]) Oc Tryz.f88 (n,str,g,t,()) (λ(z:(List (List Int)×List Int×Bool×Unit)×Unit)=>z=(((Iv (n,str,g,()) t).2.1,(Iv (n,str,g,()) t).2.2.1,Kl (n,str,g,()) t,()),())):=by
 obtain ⟨hv,_⟩:=Nv.1 h
 obtain ⟨ht,hr⟩:=Iy h
 have hV:=valid hv
 have td:=hV.nj
 have hn:=hV.n
 dsimp only at td hn hr
 have hb0:=dS (p:=(n,str,g,())) ht hr
 have FQ:short t:=by unfold short;omega
 obtain ⟨ls,rj⟩: ∃ls,Ca g.length=ls:=⟨_,rfl⟩
 have hll:ls.length<=16:=by rw [<-rj,Qp];omega
 have nz: ∀l∈ls,Hq (List.length g) l:= λl hl=>Lc (rj▸hl)
 have tu:Jn g ls 3001 0 [t] [0]=Gy g t:=by unfold Gy;rw [rj]
 have sZ: ∀x:List Int,(∀y∈x,0<=y/\y<n)->Zs x:= λx hx y hy=>by have:=hx y hy;omega
 have Ami: ∀L D ok,Gy g t=(L,D,ok)->(if ok=true then ((L,D,true,()),()) else ((([]:List (List Int)),([]:List Int),false,()),()))=(((Iv (n,str,g,()) t).2.1,(Iv (n,str,g,()) t).2.2.1,Kl (n,str,g,()) t,()),()):=by
  intro L D ok he
  have e1:Kl (n,str,g,()) t=ok:=by unfold Kl;rw [h,Pd];show (Gy g t).2.2=ok;rw [he]
  unfold Iv
  rw [e1]
  cases ok with
  |true=>rw [Ab rfl,Ab rfl];show ((L,D,true,()),())=(((Gy g t).1,(Gy g t).2.1,true,()),());rw [he]
  |false=>rw [Ak (by decide),Ak (by decide)]
 refine Eq.mp (QC n str g t _) ⟨_,Ab FQ,_,Ab FQ,ls,(Ab ⟨by show (0:Int)<=((g.length:Nat):Int);omega,by show ((g.length:Nat):Int)<=8;omega⟩).trans (Fq some (by show Ca (((g.length:Nat):Int)).toNat=ls;rw [Aj];exact rj)),rfl,rfl,rfl,rfl,rfl,rfl,?_⟩
 rw [Dk]
 refine Bw ls.length (λv=>v.1) (λj v=>v.2.1=n/\v.2.2.1=str/\v.2.2.2.1=g/\v.2.2.2.2.1=(ls.take j).map (Ax g)/\v.2.2.2.2.2.1= [t]/\v.2.2.2.2.2.2.1= [0]/\oH v.2.2.2.2.2.2.2.1 [t]) rfl
  ⟨rfl,rfl,rfl,by simp,rfl,rfl,λq hq=>?_⟩ ?_
 ·show (cj (λ_=>none) (Sz t) true (Sz q)).getD false=_
  unfold cj
  by_cases e:q=t
  ·subst e;rw [Ab rfl];simp
  ·rw [Ak λhk=>e (key_inj hq (sZ t hr) hk)];simp [e]
 rintro j ⟨i,n',Ap1,g',mv,L1,D1,m1,⟨⟩⟩ K hj hi ⟨h1,h2,h3,h4,h5,h6,h7⟩ hK
 dsimp only at hi h1 h2 h3 h4 h5 h6 h7⊢
 subst hi h1 h2 h3 h4 h5 h6
 refine Br.dec (λhl=>?_) λhl=>⟨rfl,rfl,rfl,rfl,rfl,rfl,?_⟩
 ·have hl:j<ls.length:=by omega
  have m5:=nz _ (Al hl)
  refine ⟨_,Co hl,_,Ab ⟨m5,td.2,hV.perm⟩,rfl,rfl,?_,rfl,rfl,rfl,rfl,rfl,rfl,?_⟩
  ·show (List.map (Ax g') (List.take j ls)).length+1<=4294967296
   rw [Ch,Dc];omega
  ·rw [Bm (by omega)]
   refine hK hl _ rfl ⟨rfl,rfl,rfl,?_,rfl,rfl,h7⟩
   show List.map (Ax g') (List.take j ls)++ [Ax g' ls[j]]=_
   rw [Ia,Ac hl,Ko];rfl
 ·have:j=ls.length:=by omega
  subst this
  rw [Ay]
  obtain ⟨ms,RQ⟩: ∃ms,ls.map (Ax g')=ms:=⟨_,rfl⟩
  have Aya:ms.length=ls.length:=by rw [<-RQ,Ch]
  have At1: ∀i (h:i<ls.length),ms[i]'(by omega)=Ax g' ls[i]:= λi h=>by simp only [<-RQ,Sx]
  rw [RQ]
  refine Dm.mk (λv=>v.2.1=ms/\ ∃k:Nat,v.1=k/\k<=v.2.2.1.length/\Sw (n',Ap1,g',()) t.length v.2.2.1 v.2.2.2.1/\oH v.2.2.2.2.1 v.2.2.1/\Jn g' ls (3001-k) k v.2.2.1 v.2.2.2.1=Gy g' t) (λv=>3001-v.1.toNat)
   ⟨rfl,0,rfl,by simp,hb0,h7,tu⟩ ?_
  rintro ⟨k',mv,L0,D0,mp,⟨⟩⟩ ⟨h1,k,h5,h6,h7,h8,h9⟩
  dsimp only at h1 h5 h6 h7 h8 h9
  subst h1 h5
  dsimp only
  have ZJ:=h7.ok.nj
  have hD0:=h7.len
  refine Br.dec (λhl=>⟨rfl,rfl,rfl,rfl,rfl,rfl,rfl,rfl,?_⟩) λhl=>?_
  ·have hk:k<L0.length:=by omega
   have FK:k<D0.length:=by omega
   have hx: ∀y∈L0[k],0<=y/\y<n':=h7.row _ (Al hk)
   have hxl:L0[k].length=t.length:=h7.ok.len _ (Al hk)
   have hdk:=h7.dep k FK
   obtain ⟨f,hf⟩: ∃f,3001-k=f+1:=⟨3000-k,by omega⟩
   have hgo: ∀L' D' ok,Hp g' L0[k] D0[k] ls L0 D0=(L',D',ok)->Gy g' t=if ok=true then Jn g' ls f (k+1) L' D' else (L',D',false):=by
    intro L' D' ok he
    rw [<-h9,hf,Jn,Ab hk,Tx hk,Ai,Ac FK]
    simp only [Bq]
    rw [he]
    cases ok<;>rfl
   refine Dm.mk (λv=>v.2.1=mv/\ ∃i:Nat,v.1=i/\i<=ls.length/\Sw (n',Ap1,g',()) t.length v.2.2.1 v.2.2.2.1/\oH v.2.2.2.2.1 v.2.2.1/\(∃A,v.2.2.1=L0++A)/\(∃A,v.2.2.2.1=D0++A)/\
     Hp g' L0[k] D0[k] (ls.drop i) v.2.2.1 v.2.2.2.1=Hp g' L0[k] D0[k] ls L0 D0) (λv=>ls.length-v.1.toNat)
    ⟨rfl,0,rfl,Ja _,h7,h8,⟨[],by simp⟩,⟨[],by simp⟩,rfl⟩ ?_
   rintro ⟨i',mv',L,D,mp2,⟨⟩⟩ ⟨g1,i,g5,g6,g7,g8,⟨A,g9⟩,⟨A',g10⟩,rh⟩
   dsimp only at g1 g5 g6 g7 g8 g9 g10 rh
   subst g1 g5
   dsimp only
   have hLf:=g7.ok.nj
   have hDl:=g7.len
   refine Br.dec (λhli=>?_) λhli=>?_
   ·have hi:i<ls.length:=by omega
    have ZX:k<L.length:=by rw [g9,Au];omega
    have hLk:L[k]=L0[k]:=by simp only [g9];exact Lo hk
    have ZW:k<D.length:=by rw [hDl];exact ZX
    have hDk:D[k]=D0[k]:=by simp only [g10];exact Lo FK
    have m5:=nz _ (Al hi)
    obtain ⟨nl,nr⟩:=nR hV hx m5
    dsimp only at nl nr
    have RP:=kc hV m5
    dsimp only at RP
    rw [Gm hi] at rh
    simp only [Hp] at rh
    have hyb:=sZ _ nr
    refine ⟨⟨by omega,by omega⟩,Ax g' ls[i],by rw [Aj,Bo,Ac (by omega),At1 i hi],⟨by omega,by omega⟩,L0[k],by rw [Aj,Bo,Ac ZX,hLk],
     _,Ab ⟨by show short L0[k];unfold short;omega,by show Lq (Ax g' ls[i]).length L0[k];intro y hy;have:=hx y hy;omega⟩,?_⟩
    dsimp only
    rw [show Bv (Ax g' ls[i]) L0[k]=Af L0[k] (Ax g' ls[i]) from rfl,Dk]
    generalize hyv:Af L0[k] (Ax g' ls[i])=yv at*
    refine ⟨_,Ab (by show short yv;unfold short;rw [nl];omega),?_⟩
    dsimp only
    rw [g8 _ hyb]
    refine ⟨λZw=>?_,λZw=>⟨rfl,rfl,rfl,rfl,rfl,rfl,rfl,rfl,?_⟩⟩
    ·have Zw:yv∉L:=by simpa using Zw
     rw [Ak Zw] at rh
     refine ⟨λVh=>?_,λVh=>⟨rfl,rfl,by show L.length+1<=4294967296;omega,⟨by omega,by omega⟩,D0[k],by rw [Aj,Bo,Ac ZW,hDk],rfl,rfl,by show D.length+1<=4294967296;omega,rfl,rfl,rfl,rfl,rfl,rfl,rfl,rfl,?_⟩⟩
     ·have Vh:L.length=3000:=by
       have:(L.length:Int)=3000:=by simpa using Vh
       omega
      rw [Ab Vh] at rh
      have:=hgo _ _ _ rh.symm
      rw [Ak (by decide)] at this
      have:=Ami _ _ _ this
      rw [Ak (by decide)] at this
      exact this
     ·have Vh:L.length≠3000:=by
       have:(L.length:Int)≠3000:=by simpa using Vh
       omega
      rw [Ak Vh] at rh
      rw [Df (n:=D0[k]+1) (by omega) (by omega),Bm (by omega)]
      refine ⟨⟨rfl,i+1,rfl,hi,g7.add Zw (by rw [nl,hxl]) (by omega) nr ⟨by omega,by omega⟩,g8.add hyb,⟨A++ [yv],by rw [g9,Ct];rfl⟩,⟨A'++ [D0[k]+1],by rw [g10,Ct];rfl⟩,rh⟩,by omega⟩
    ·have Zw:yv∈L:=by simpa using Zw
     rw [Ab Zw] at rh
     rw [Bm (by omega)]
     exact ⟨⟨rfl,i+1,rfl,hi,g7,g8,⟨A,g9⟩,⟨A',g10⟩,rh⟩,by omega⟩
   ·have:i=ls.length:=by omega
    subst this
    rw [Pb,Hp] at rh
    have:=hgo _ _ _ rh.symm
    rw [Ab rfl] at this
    rw [Bm (by omega)]
    refine ⟨rfl,rfl,rfl,rfl,rfl,rfl,⟨rfl,k+1,rfl,by rw [g9,Au];omega,g7,g8,?_⟩,by omega⟩
    rw [show 3001-(k+1)=f by omega]
    exact this.symm
  ·have hk:k=L0.length:=by omega
   rw [Dk L0,Dk D0]
   obtain ⟨f,hf⟩: ∃f,3001-k=f+1:=⟨3000-k,by omega⟩
   rw [hf,Jn,Ak (by omega)] at h9
   have:=Ami _ _ _ h9.symm
   rw [Ab rfl] at this
   exact this
theorem jw:Cp Tryz.prog 88 Oc:=
 Cp.qA (PH [jM+10]) (Fu BJ (Av jx (Av dE (Av cc (Fu wP Bp))))) mixed Tryz.func88 (by kernel_rfl) (by kernel_rfl) λx h=>NS x.1 x.2.1 x.2.2.1 x.2.2.2.1 h
theorem KR {p:PP} {t:List Int} (h: ¬Kl p t=true):Iv p t=([],[],[],()):=Ak h
theorem NU (n:Int) (str:ByteArray) (g:List (List Int)) (t:List Int) (h:Gw (n,str,g,())/\short t):
  fnMW Vb (look [(77,Fy),(88,Oc)]) Yv Tryz.f90 (n,str,g,t,()) (λ(z:(List (List Int)×List Int×Bool×Unit)×Unit)=>z=(((Iv (n,str,g,()) t).2.1,(Iv (n,str,g,()) t).2.2.1,Kl (n,str,g,()) t,()),())):=by
 refine Eq.mp (QE n str g t _) ⟨_,Ab h,⟨λhn=>?_,λhn=>?_⟩⟩
 ·have hn: ¬Di (n,str,g,()) t=true:=Ew hn
  have e: ¬Kl (n,str,g,()) t=true:= λhh=>hn (kf.1 hh).1
  rw [KR e,Bool.eq_false_iff.2 e]
  rfl
 ·have hn:Di (n,str,g,()) t=true:=El hn
  refine ⟨_,Ab hn,?_⟩
  rw [Dk,Dk]
theorem uW:Cp Tryz.prog 90 Yv:=
 Cp.qA Tm (Av Wx (Fu jw Bp)) mixed Tryz.func90 (by kernel_rfl) (by kernel_rfl) λx h=>NU x.1 x.2.1 x.2.2.1 x.2.2.2.1 h
end Go.Proofs.YtkkdpknjohcekaaGreat
