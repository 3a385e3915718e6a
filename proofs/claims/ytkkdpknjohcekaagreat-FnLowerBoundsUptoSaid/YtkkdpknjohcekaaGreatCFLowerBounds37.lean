/-
  Part 38 of the proof that the statement FnLowerBounds holds.
-/
import Derived.Test.YtkkdpknjohcekaaGreatCFLowerBounds36
import Derived.KernelRfl
namespace Go.Proofs.YtkkdpknjohcekaaGreat
open Go.RowKit
def Mv (x a b:Int):Bool:=decide (a<=x/\x<=b)
def kb (n x:Int):Bool:=decide (0<=x/\x<=IntKind.i64.wrap (n-1))
def Ib (a b:List Int):Bool:=decide (a=b)
def l9 (xs:List Int) (x:Int):Bool:=decide (x∈xs)
def short (xs:List Int):Prop:=xs.length<=4294967296
noncomputable abbrev Cr:Spec:=Gu (.pair tI (.pair tI (.pair tI .unit))) .bool false true (λ_=>True) (λx=>Mv x.1 x.2.1 x.2.2.1)
noncomputable abbrev bA:Spec:=Gu (.pair tI (.pair tI .unit)) .bool false true (λ_=>True) (λx=>kb x.1 x.2.1)
noncomputable abbrev Ey:Spec:=Gu (.pair tL (.pair tL .unit)) .bool false true (λx=>short x.1) (λx=>Ib x.1 x.2.1)
noncomputable abbrev Rq:Spec:=Gu (.pair tL (.pair tI .unit)) .bool false true (λx=>short x.1) (λx=>l9 x.1 x.2.1)
theorem UU (x a b:Int) (P:Bool->Prop):(Br (decide (x>=a)) (P (decide (x<=b))) (P false))=fnW Fz (look []) Cr Tryz.f95 (x,a,b,()) P:=by kernel_rfl
theorem Aba (x a b:Int) (P:Bool->Prop):(Br (decide (x>=a)) (P (decide (x<=b))) (P false))=fnW Fz (look []) Cr Tryz.f100 (x,a,b,()) P:=by kernel_rfl
theorem UX (n x:Int) (P:Bool->Prop):(∃(y3:Bool),Cr.fn (x,0,IntKind.i64.wrap (n-1),())=some y3/\P y3)=fnW Fz (look [(100,Cr)]) bA Tryz.f136 (n,x,()) P:=by kernel_rfl
theorem HJ (a b:List Int) (P:Bool->Prop):(Br ((↑a.length:Int) !=(↑b.length:Int)) (P false) (Dl (λ(v3:Int×PUnit) (k4:Int×PUnit->Prop)=>Br (decide (v3.1<(↑a.length:Int))) (∃(y5:Int),idx a v3.1=some y5/\ ∃(y6:Int),idx b v3.1=some y6/\Br (y5 !=y6) (P false) (k4 (IntKind.i64.wrap (v3.1+1),()))) (P true)) (0,PUnit.unit)))=fnW Fz (look []) Ey Tryz.f128 (a,b,()) P:=by kernel_rfl
theorem wH (a b:List Int) (P:Bool->Prop):(Br ((↑a.length:Int) !=(↑b.length:Int)) (P false) (Dl (λ(v3:Int×PUnit) (k4:Int×PUnit->Prop)=>Br (decide (v3.1<(↑a.length:Int))) (∃(y5:Int),idx a v3.1=some y5/\ ∃(y6:Int),idx b v3.1=some y6/\Br (y5 !=y6) (P false) (k4 (IntKind.i64.wrap (v3.1+1),()))) (P true)) (0,PUnit.unit)))=fnW Fz (look []) Ey Tryz.f93 (a,b,()) P:=by kernel_rfl
theorem wB (xs:List Int) (x:Int) (P:Bool->Prop):(Dl (λ(v3:Int×PUnit) (k4:Int×PUnit->Prop)=>Br (decide (v3.1<(↑xs.length:Int))) (∃(y5:Int),idx xs v3.1=some y5/\Br (y5==x) (P true) (k4 (IntKind.i64.wrap (v3.1+1),()))) (P false)) (0,PUnit.unit))=fnW Fz (look []) Rq Tryz.f175 (xs,x,()) P:=by kernel_rfl
theorem SX (x a b:Int) (_:True):fnW Fz (look []) Cr Tryz.f95 (x,a,b,()) (λ(z:Bool)=>z=Mv x a b):=by
 refine Eq.mp (UU x a b _) ?_
 refine Br.dec (λh=>?_) λh=>?_
 ·have h:a<=x:=h
  simp [Mv,h]
 ·exact (Fu λhh=>h hh.1).symm
theorem Rv:Sound Tryz.prog 95 Cr:=
 Sound.Gu Dq Bn mixed Tryz.func95 (by kernel_rfl) (by kernel_rfl) λx h=>SX x.1 x.2.1 x.2.2.1 h
theorem ZQ (x a b:Int) (_:True):fnW Fz (look []) Cr Tryz.f100 (x,a,b,()) (λ(z:Bool)=>z=Mv x a b):=by
 refine Eq.mp (Aba x a b _) ?_
 refine Br.dec (λh=>?_) λh=>?_
 ·have h:a<=x:=h
  simp [Mv,h]
 ·exact (Fu λhh=>h hh.1).symm
theorem Xq:Sound Tryz.prog 100 Cr:=
 Sound.Gu Dq Bn mixed Tryz.func100 (by kernel_rfl) (by kernel_rfl) λx h=>ZQ x.1 x.2.1 x.2.2.1 h
theorem SZ (n x:Int) (_:True):fnW Fz (look [(100,Cr)]) bA Tryz.f136 (n,x,()) (λ(z:Bool)=>z=kb n x):=
 Eq.mp (UX n x _) ⟨_,Ab trivial,rfl⟩
theorem wj:Sound Tryz.prog 136 bA:=
 Sound.Gu Dq (Aw Xq Bn) mixed Tryz.func136 (by kernel_rfl) (by kernel_rfl) λx h=>SZ x.1 x.2.1 h
theorem vP (xs:List Int) (x:Int) (h:short xs):fnW Fz (look []) Rq Tryz.f175 (xs,x,()) (λ(z:Bool)=>z=l9 xs x):=by
 refine Eq.mp (wB xs x _) ?_
 unfold short at h
 refine Bw xs.length (λv=>v.1) (λj _=>x∉xs.take j) rfl (by simp) ?_
 rintro j ⟨i,⟨⟩⟩ K hj hi hR hK
 dsimp only at hi⊢
 subst hi
 refine Br.dec (λhl=>?_) λhl=>?_
 ·have hl:j<xs.length:=by omega
  refine ⟨_,Cd hl,⟨λhe=>?_,λhe=>?_⟩⟩
  ·have hm:=Ak hl
   simp only [Xw] at he
   rw [he] at hm
   exact (Ec hm).symm
  ·rw [Bv (by omega)]
   refine hK hl _ rfl ?_
   simp only [Ob,ne_eq] at he
   rw [Cv hl]
   simp only [Az,Ad,not_or]
   exact ⟨hR,λhx=>he hx.symm⟩
 ·have:j=xs.length:=by omega
  subst this
  rw [Ax] at hR
  exact (Fu hR).symm
theorem oc:Sound Tryz.prog 175 Rq:=
 Sound.Gu Dq Bn mixed Tryz.func175 (by kernel_rfl) (by kernel_rfl) λx h=>vP x.1 x.2.1 h
theorem OL (a b:List Int) (hlen:a.length=b.length) (h:short a):
  Dl (λ(v3:Int×PUnit) (k4:Int×PUnit->Prop)=>
   Br (decide (v3.1<(↑a.length:Int))) (∃(y5:Int),idx a v3.1=some y5/\ ∃(y6:Int),idx b v3.1=some y6/\Br (y5 !=y6) (false=Ib a b) (k4 (IntKind.i64.wrap (v3.1+1),())))
    (true=Ib a b))
  (0,PUnit.unit):=by
 unfold short at h
 refine Bw a.length (λv=>v.1) (λj _=>a.take j=b.take j) rfl (by simp) ?_
 rintro j ⟨i,⟨⟩⟩ K hj hi hR hK
 dsimp only at hi⊢
 subst hi
 refine Br.dec (λhl=>?_) λhl=>?_
 ·have rU:j<a.length:=by omega
  have JT:j<b.length:=by omega
  refine ⟨_,Cd rU,_,Cd JT,⟨λhe=>?_,λhe=>?_⟩⟩
  ·simp only [bne_iff_ne,ne_eq] at he
   refine (Fu λvC=>he ?_).symm
   subst vC
   rfl
  ·rw [Bv (by omega)]
   refine hK rU _ rfl ?_
   simp only [Yj] at he
   rw [Cv rU,Cv JT,hR,he]
 ·have OZ:j=a.length:=by omega
  subst OZ
  rw [Ax,hlen,Ax] at hR
  exact (Ec hR).symm
theorem FI (a b:List Int) (h:short a):fnW Fz (look []) Ey Tryz.f128 (a,b,()) (λ(z:Bool)=>z=Ib a b):=by
 refine Eq.mp (HJ a b _) ⟨λhl=>?_,λhl=>?_⟩
 ·simp only [bne_iff_ne,ne_eq,Mi] at hl
  exact (Fu λvC=>hl (by rw [vC])).symm
 ·simp only [Yj,Mi] at hl
  exact OL a b hl h
theorem ru:Sound Tryz.prog 128 Ey:=
 Sound.Gu Dq Bn mixed Tryz.func128 (by kernel_rfl) (by kernel_rfl) λx h=>FI x.1 x.2.1 h
theorem vV (a b:List Int) (h:short a):fnW Fz (look []) Ey Tryz.f93 (a,b,()) (λ(z:Bool)=>z=Ib a b):=by
 refine Eq.mp (wH a b _) ⟨λhl=>?_,λhl=>?_⟩
 ·simp only [bne_iff_ne,ne_eq,Mi] at hl
  exact (Fu λvC=>hl (by rw [vC])).symm
 ·simp only [Yj,Mi] at hl
  exact OL a b hl h
theorem df:Sound Tryz.prog 93 Ey:=
 Sound.Gu Dq Bn mixed Tryz.func93 (by kernel_rfl) (by kernel_rfl) λx h=>vV x.1 x.2.1 h
abbrev TT:Type:=List Int×List (List Int)×List Int×Unit
def Pj (xs:List (List Int)):Prop:=xs.length<=4294967296/\ ∀r∈xs,short r
def aG (t:TT):Prop:=short t.1/\Pj t.2.1/\short t.2.2.1
def j8 (a b:List (List Int)):Bool:=decide (a=b)
def lb (a b:TT):Bool:=decide (a.1=b.1)&&(decide (a.2.1=b.2.1)&&decide (a.2.2.1=b.2.2.1))
noncomputable abbrev pC:Spec:=Gu (.pair mE (.pair mE .unit)) .bool false true (λx=>Pj x.1) (λx=>j8 x.1 x.2.1)
noncomputable abbrev bw:Spec:=Gu (.pair cy (.pair cy .unit)) .bool false true (λx=>aG x.1) (λx=>lb x.1 x.2.1)
theorem dL {α:Type} {ys xs:List α} {j:Nat} (h:j<xs.length) (hl:ys.length=xs.length) (ht:ys.take j=xs.take j):(ys.set j xs[j]).take (j+1)=xs.take (j+1):=by
 have h1:j<(ys.set j xs[j]).length:=by rw [Dg];omega
 rw [Cv h1,Cv h,List.getElem_set_self,List.take_set_of_le (Ap j),ht]
def Pf:List Int->Int->Int->Int
 | [],_,_=> -1
 |y::r,x,i=>if y=x then i else Pf r x (i+1)
noncomputable abbrev ko:Spec:=Gu (.pair tL (.pair tI .unit)) tI false true (λx=>short x.1) (λx=>Pf x.1 x.2.1 0)
def PL (n:Int) (xs:List Int) (k:Nat):Prop:= ∀j (h:j<xs.length),j<k->0<=xs[j]/\xs[j]<=n-1/\(0<j->xs[j-1]<xs[j])
def DL (n:Int) (xs:List Int) (k:Nat):Prop:= ∀j (h:j<xs.length),j<k->0<=xs[j]/\xs[j]<=n-1/\xs[j]∉xs.take j
noncomputable def dec (p:Prop):Bool:= @decide p (Classical.propDecidable p)
theorem Pp {p:Prop} (h:p):true=dec p:=(@Ec p (Classical.propDecidable p) h).symm
theorem Di {p:Prop} (h: ¬p):false=dec p:=(@Fu p (Classical.propDecidable p) h).symm
theorem Ik {p:Prop} :dec p=true↔p:= @Mo p (Classical.propDecidable p)
theorem Ac4 {p:Prop} :dec p=false↔ ¬p:= @decide_eq_false_iff_not p (Classical.propDecidable p)
def nOK (n:Int):Prop:=0<=n/\n<=4294967296
noncomputable def Ql (n:Int) (xs:List Int):Bool:=dec (0<xs.length/\PL n xs xs.length)
noncomputable abbrev Kv:Spec:=Gu (.pair tI (.pair tL .unit)) .bool false true (λx=>nOK x.1/\short x.2.1) (λx=>Ql x.1 x.2.1)
noncomputable abbrev kq:Spec:=Gu (.pair mE .unit) tI false true (λ_=>True) (λx=>(List.length x.1:Int))
theorem Ae3 (xs:List Int) (x:Int) (P:Int->Prop):(Dl (λ(v3:Int×PUnit) (k4:Int×PUnit->Prop)=>Br (decide (v3.1<(↑xs.length:Int))) (∃(y5:Int),idx xs v3.1=some y5/\Br (x==y5) (P v3.1) (k4 (IntKind.i64.wrap (v3.1+(1:Int)),()))) (P (-1:Int))) ((0:Int),PUnit.unit))=fnW Fz (look []) ko Tryz.f70 (xs,x,()) P:=by kernel_rfl
theorem wG (n:Int) (xs:List Int) (P:Bool->Prop):(∃(y3:Bool),Cr.fn ((↑xs.length:Int),(1:Int),n,())=some y3/\Br (!y3) (P false) (Dl (λ(v4:Int×PUnit) (k5:Int×PUnit->Prop)=>Br (decide (v4.1<(↑xs.length:Int))) (∃(y6:Int),idx xs v4.1=some y6/\ ∃(y7:Bool),Cr.fn (y6,(0:Int),IntKind.i64.wrap (n-(1:Int)),())=some y7/\Br (!y7) (P false) (Br (decide (v4.1>(0:Int))) (∃(y8:Int),idx xs v4.1=some y8/\ ∃(y9:Int),idx xs (IntKind.i64.wrap (v4.1-(1:Int)))=some y9/\Br (decide (y8<=y9)) (P false) (k5 (IntKind.i64.wrap (v4.1+(1:Int)),()))) (k5 (IntKind.i64.wrap (v4.1+(1:Int)),())))) (P true)) ((0:Int),PUnit.unit)))=fnW Fz (look [(95,Cr)]) Kv Tryz.f137 (n,xs,()) P:=by kernel_rfl
theorem HO (n:Int) (xs:List Int) (P:Bool->Prop):(Dl (λ(v3:Int×PUnit) (k4:Int×PUnit->Prop)=>Br (decide (v3.1<(↑xs.length:Int))) (∃(y5:Int),idx xs v3.1=some y5/\ ∃(y6:Bool),bA.fn (n,y5,())=some y6/\Br (!y6) (P false) (Br (decide (v3.1>(0:Int))) (∃(y7:Int),idx xs (IntKind.i64.wrap (v3.1-(1:Int)))=some y7/\Br (decide (y7>=y5)) (P false) (k4 (IntKind.i64.wrap (v3.1+(1:Int)),()))) (k4 (IntKind.i64.wrap (v3.1+(1:Int)),())))) (P (decide ((↑xs.length:Int)>(0:Int))))) ((0:Int),PUnit.unit))=fnW Fz (look [(136,bA)]) Kv Tryz.f101 (n,xs,()) P:=by kernel_rfl
theorem Ae4 (xs:List (List Int)) (P:Int->Prop):(P (↑xs.length:Int))=fnW Fz (look []) kq Tryz.f91 (xs,()) P:=by kernel_rfl
theorem Ade (xs:List Int) (x:Int) (h:short xs):fnW Fz (look []) ko Tryz.f70 (xs,x,()) (λ(z:Int)=>z=Pf xs x 0):=by
 unfold short at h
 refine Eq.mp (Ae3 xs x _) ?_
 refine Bw xs.length (λv=>v.1) (λj _=>Pf (xs.drop j) x j=Pf xs x 0) rfl (by simp) ?_
 rintro j ⟨i,⟨⟩⟩ K hj hi hR hK
 dsimp only at hi⊢
 subst hi
 refine Br.dec (λhl=>?_) λhl=>?_
 ·have hl:j<xs.length:=by omega
  rw [Fg hl] at hR
  simp only [Pf] at hR
  refine ⟨_,Cd hl,⟨λhe=>?_,λhe=>?_⟩⟩
  ·simp only [Xw] at he
   rw [Ab he.symm] at hR
   exact hR
  ·simp only [Ob,ne_eq] at he
   rw [Aj (λe=>he e.symm)] at hR
   rw [Bv (by omega)]
   exact hK hl _ rfl (by push_cast;exact hR)
 ·have:j=xs.length:=by omega
  subst this
  rw [Qd] at hR
  exact hR
theorem GN:Sound Tryz.prog 70 ko:=
 Sound.Gu Dq Bn mixed Tryz.func70 (by kernel_rfl) (by kernel_rfl) λx h=>Ade x.1 x.2.1 h
theorem Adf (xs:List (List Int)) (_:True):fnW Fz (look []) kq Tryz.f91 (xs,()) (λ(z:Int)=>z=(xs.length:Int)):=Eq.mp (Ae4 xs _) rfl
theorem GO:Sound Tryz.prog 91 kq:=
 Sound.Gu Dq Bn mixed Tryz.func91 (by kernel_rfl) (by kernel_rfl) λx h=>Adf x.1 h
theorem qp {n x:Int} (hn:nOK n):kb n x=true↔0<=x/\x<=n-1:=by
 unfold kb nOK at*
 rw [Cy (by omega) (by omega),Mo]
theorem Er {x a b:Int} :Mv x a b=true↔a<=x/\x<=b:=Mo
theorem Hy {b:Bool} (h:(!b)=true): ¬b=true:=by cases b<;>simp_all
theorem Ih {b:Bool} (h:(!b)=false):b=true:=by cases b<;>simp_all
theorem LU {n:Int} {xs:List Int} (h:PL n xs xs.length): ∀j (hj:j<xs.length),(j:Int)<=xs[j]
 |0,hj=>(h 0 hj hj).1
 |j+1,hj=>by
  have h1:=LU h j (by omega)
  have h2:=(h (j+1) hj hj).2.2 (by omega)
  simp only [Nat.add_sub_cancel] at h2
  omega
theorem s5 {n:Int} {xs:List Int} {j:Nat} (hl:j<xs.length) (h:PL n xs j) (h1:0<=xs[j]) (h2:xs[j]<=n-1) (h3:0<j->xs[j-1]<xs[j]):PL n xs (j+1):=by
 intro i hi kD
 by_cases e:i=j
 ·subst e;exact ⟨h1,h2,h3⟩
 ·exact h i hi (by omega)
theorem FN (n:Int) (xs:List Int) (h:nOK n/\short xs):fnW Fz (look [(136,bA)]) Kv Tryz.f101 (n,xs,()) (λ(z:Bool)=>z=Ql n xs):=by
 obtain ⟨hn,h⟩:=h
 unfold short at h
 refine Eq.mp (HO n xs _) ?_
 refine Bw xs.length (λv=>v.1) (λj _=>PL n xs j) rfl (λj _ hj=>absurd hj (Gp _)) ?_
 rintro j ⟨i,⟨⟩⟩ K hj hi hR hK
 dsimp only at hi⊢
 subst hi
 refine Br.dec (λhl=>?_) λhl=>?_
 ·have hl:j<xs.length:=by omega
  refine ⟨_,Cd hl,_,Ab trivial,⟨λhp=>?_,λhp=>?_⟩⟩
  ·have hp:=Hy hp
   rw [qp hn] at hp
   exact Di λhh=>hp ⟨(hh.2 j hl hl).1,(hh.2 j hl hl).2.1⟩
  ·have hp:=Ih hp
   rw [qp hn] at hp
   refine Br.dec (λh0=>?_) λh0=>?_
   ·have h0:0<j:=by omega
    rw [Cy (by omega) (by omega),show (j:Int)-1=((j-1:Nat):Int) by omega]
    refine ⟨_,Cd (by omega),Br.dec (λhg=>?_) λhg=>?_⟩
    ·exact Di λhh=>by have:=(hh.2 j hl hl).2.2 h0;omega
    ·rw [Bv (by omega)]
     exact hK hl _ rfl (s5 hl hR hp.1 hp.2 λ_=>by omega)
   ·have h0:j=0:=by omega
    rw [Bv (by omega)]
    exact hK hl _ rfl (s5 hl hR hp.1 hp.2 λh=>by omega)
 ·have:j=xs.length:=by omega
  subst this
  by_cases h0:0<xs.length
  ·rw [Ec (show (xs.length:Int)>0 by omega)];exact Pp ⟨h0,hR⟩
  ·rw [Fu (show ¬(xs.length:Int)>0 by omega)];exact Di λhh=>h0 hh.1
theorem rD:Sound Tryz.prog 101 Kv:=
 Sound.Gu Dq (Aw wj Bn) mixed Tryz.func101 (by kernel_rfl) (by kernel_rfl) λx h=>FN x.1 x.2.1 h
theorem vU (n:Int) (xs:List Int) (h:nOK n/\short xs):fnW Fz (look [(95,Cr)]) Kv Tryz.f137 (n,xs,()) (λ(z:Bool)=>z=Ql n xs):=by
 obtain ⟨hn,h⟩:=h
 unfold short at h
 refine Eq.mp (wG n xs _) ⟨_,Ab trivial,⟨λhp=>?_,λhp=>?_⟩⟩
 ·have hp:=Hy hp
  rw [Er] at hp
  dsimp only at hp
  refine Di λhh=>hp ⟨by omega,?_⟩
  have:=LU hh.2 (xs.length-1) (by omega)
  have:=(hh.2 (xs.length-1) (by omega) (by omega)).2.1
  omega
 ·have hp:=Ih hp
  rw [Er] at hp
  dsimp only at hp
  refine Bw xs.length (λv=>v.1) (λj _=>PL n xs j) rfl (λj _ hj=>absurd hj (Gp _)) ?_
  rintro j ⟨i,⟨⟩⟩ K hj hi hR hK
  dsimp only at hi⊢
  subst hi
  refine Br.dec (λhl=>?_) λhl=>?_
  ·have hl:j<xs.length:=by omega
   refine ⟨_,Cd hl,_,Ab trivial,⟨λhq=>?_,λhq=>?_⟩⟩
   ·have hq:=Hy hq
    unfold nOK at hn
    rw [Er,Cy (by omega) (by omega)] at hq
    exact Di λhh=>hq ⟨(hh.2 j hl hl).1,(hh.2 j hl hl).2.1⟩
   ·have hq:=Ih hq
    unfold nOK at hn
    rw [Er,Cy (by omega) (by omega)] at hq
    refine Br.dec (λh0=>?_) λh0=>?_
    ·have h0:0<j:=by omega
     rw [Cy (by omega) (by omega),show (j:Int)-1=((j-1:Nat):Int) by omega]
     refine ⟨_,Cd hl,_,Cd (by omega),Br.dec (λhg=>?_) λhg=>?_⟩
     ·exact Di λhh=>by have:=(hh.2 j hl hl).2.2 h0;omega
     ·rw [Bv (by omega)]
      exact hK hl _ rfl (s5 hl hR hq.1 hq.2 λ_=>by omega)
    ·rw [Bv (by omega)]
     exact hK hl _ rfl (s5 hl hR hq.1 hq.2 λh=>by omega)
  ·have:j=xs.length:=by omega
   subst this
   exact Pp ⟨by omega,hR⟩
theorem og:Sound Tryz.prog 137 Kv:=
 Sound.Gu Dq (Aw Rv Bn) mixed Tryz.func137 (by kernel_rfl) (by kernel_rfl) λx h=>vU x.1 x.2.1 h
theorem Ac6 {n:Int} {xs:List Int} {j:Nat} (hl:j<xs.length) (h:DL n xs j) (h1:0<=xs[j]) (h2:xs[j]<=n-1) (h3:xs[j]∉xs.take j):DL n xs (j+1):=by
 intro i hi kD
 by_cases e:i=j
 ·subst e;exact ⟨h1,h2,h3⟩
 ·exact h i hi (by omega)
theorem ML {xs:List Int} (h:short xs) (j:Nat):short (xs.take j):=by
 unfold short at*
 rw [De]
 omega
theorem KP (t:TT):lb t t=true:=by simp [lb]
noncomputable abbrev Zf:Spec:=Gu (.pair mE (.pair mE (.pair (.clo 184 .unit) .unit))) .bool false true (λx=>Pj x.1) (λx=>j8 x.1 x.2.1)
theorem Anj (a b:List Int) (P:Bool->Prop):(∃(y3:Bool),Ey.fn (a,b,())=some y3/\P y3)=fnW Fz (look [(93,Ey)]) Ey Tryz.f184 (a,b,()) P:=by kernel_rfl
theorem NM (a b:List (List Int)) (c:Unit) (P:Bool->Prop):(Br ((↑a.length:Int) !=(↑b.length:Int)) (P false) (Dl (λ(v4:Int×PUnit) (k5:Int×PUnit->Prop)=>Br (decide (v4.1<(↑a.length:Int))) (∃(y6:List Int),idx a v4.1=some y6/\ ∃(y7:List Int),idx b v4.1=some y7/\ ∃(y8:Bool),Ey.fn (y6,y7,())=some y8/\Br (!y8) (P false) (k5 (IntKind.i64.wrap (v4.1+(1:Int)),()))) (P true)) ((0:Int),PUnit.unit)))=fnW Fz (look [(184,Ey)]) Zf Tryz.f183 (a,b,c,()) P:=by kernel_rfl
theorem rI (a b:List (List Int)) (P:Bool->Prop):(∃(y3:Bool),Zf.fn (a,b,(),())=some y3/\P y3)=fnW Fz (look [(183,Zf)]) pC Tryz.f177 (a,b,()) P:=by kernel_rfl
theorem rH (a b:List Int×List (List Int)×List Int×Unit) (P:Bool->Prop):(∃(y3:Bool),Ey.fn (a.1,b.1,())=some y3/\Br y3 (∃(y4:Bool),pC.fn (a.2.1,b.2.1,())=some y4/\Br y4 (∃(y5:Bool),Ey.fn (a.2.2.1,b.2.2.1,())=some y5/\P y5) (P false)) (P false))=fnW Fz (look [(93,Ey),(177,pC)]) bw Tryz.f161 (a,b,()) P:=by kernel_rfl
theorem Amu (a b:List Int) (h:short a):fnW Fz (look [(93,Ey)]) Ey Tryz.f184 (a,b,()) (λ(z:Bool)=>z=Ib a b):=by
 refine Eq.mp (Anj a b _) ⟨_,Ab h,rfl⟩
theorem TZ:Sound Tryz.prog 184 Ey:=
 Sound.Gu Dq (Aw df Bn) mixed Tryz.func184 (by kernel_rfl) (by kernel_rfl) λx h=>Amu x.1 x.2.1 h
theorem LG (a b:List (List Int)) (c:Unit) (h:Pj a):fnW Fz (look [(184,Ey)]) Zf Tryz.f183 (a,b,c,()) (λ(z:Bool)=>z=j8 a b):=by
 obtain ⟨h,h4⟩:=h
 refine Eq.mp (NM a b c _) ⟨λhl=>?_,λhl=>?_⟩
 ·simp only [bne_iff_ne,ne_eq,Mi] at hl
  exact (Fu λvC=>hl (by rw [vC])).symm
 ·simp only [Yj,Mi] at hl
  refine Bw a.length (λv=>v.1) (λj _=>a.take j=b.take j) rfl (by simp) ?_
  rintro j ⟨i,⟨⟩⟩ K hj hi hR hK
  dsimp only at hi⊢
  subst hi
  refine Br.dec (λLq=>?_) λLq=>?_
  ·have rU:j<a.length:=by omega
   have JT:j<b.length:=by omega
   refine ⟨_,Cd rU,_,Cd JT,_,Ab (h4 _ (Ak rU)),⟨λhe=>?_,λhe=>?_⟩⟩
   ·refine (Fu λvC=>?_).symm
    subst vC
    simp [Ib] at he
   ·rw [Bv (by omega)]
    refine hK rU _ rfl ?_
    simp only [Ib,Bool.not_eq_false',Nv] at he
    rw [Cv rU,Cv JT,hR]
    exact Dk (λx=>List.take j b++ [x]) he
  ·have OZ:j=a.length:=by omega
   subst OZ
   rw [Ax,hl,Ax] at hR
   exact (Ec hR).symm
theorem uu:Sound Tryz.prog 183 Zf:=
 Sound.Gu Dq (Aw TZ Bn) mixed Tryz.func183 (by kernel_rfl) (by kernel_rfl) λx h=>LG x.1 x.2.1 x.2.2.1 h
theorem rm (a b:List (List Int)) (h:Pj a):fnW Fz (look [(183,Zf)]) pC Tryz.f177 (a,b,()) (λ(z:Bool)=>z=j8 a b):=by
 refine Eq.mp (rI a b _) ⟨_,Ab h,rfl⟩
theorem kI:Sound Tryz.prog 177 pC:=
 Sound.Gu Dq (Aw uu Bn) mixed Tryz.func177 (by kernel_rfl) (by kernel_rfl) λx h=>rm x.1 x.2.1 h
theorem rk (a b:TT) (h:aG a):fnW Fz (look [(93,Ey),(177,pC)]) bw Tryz.f161 (a,b,()) (λ(z:Bool)=>z=lb a b):=by
 refine Eq.mp (rH a b _) ⟨_,Ab h.1,⟨λh1=>⟨_,Ab h.2.1,⟨λh2=>⟨_,Ab h.2.2,?_⟩,λh2=>?_⟩⟩,λh1=>?_⟩⟩
 ·have h1:Ib a.1 b.1=true:=h1
  have h2:j8 a.2.1 b.2.1=true:=h2
  simp only [Ib,j8] at h1 h2
  show Ib a.2.2.1 b.2.2.1=_
  unfold lb Ib
  rw [h1,h2];rfl
 ·have h1:Ib a.1 b.1=true:=h1
  have h2:j8 a.2.1 b.2.1=false:=h2
  simp only [Ib,j8] at h1 h2
  unfold lb
  rw [h1,h2];rfl
 ·have h1:Ib a.1 b.1=false:=h1
  simp only [Ib] at h1
  unfold lb
  rw [h1];rfl
theorem kH:Sound Tryz.prog 161 bw:=
 Sound.Gu Dq (Aw df (Aw kI Bn)) mixed Tryz.func161 (by kernel_rfl) (by kernel_rfl) λx h=>rk x.1 x.2.1 h
abbrev PP:Type:=Int×ByteArray×List (List Int)×Unit
noncomputable def Jj (p:List Int):Bool:=dec (1<=p.length/\p.length<=20/\DL p.length p p.length)
noncomputable def Hq (n:Int) (p:List Int):Bool:=dec ((p.length:Int)=n/\Jj p=true)
noncomputable def ae (n:Int) (g:List (List Int)):Bool:=dec ((1<=n/\n<=20)/\g.length<=8/\ ∀p∈g,Hq n p=true)
def Mc {α:Type} (P:α->Bool):List α->Int->Int
 | [],_=> -1
 |y::r,i=>if P y=true then i else Mc P r (i+1)
abbrev tG1:Ty:= .clo 174 (.pair (.ptr tI) .unit)
def yi (s:ByteArray) (i:Nat):Prop:= ∃c:UInt8,s[i]?=some c/\65<=c.toNat/\c.toNat<=90/\ ∀k,k<i->s[k]?≠some c
noncomputable def nR (s:ByteArray) (i:Int):Bool:=dec (yi s i.toNat)
noncomputable def br (s:ByteArray):Bool:=dec ((1<=s.size/\s.size<=8)/\ ∀j,j<s.size->yi s j)
noncomputable def Bm (p:PP):Bool:=dec (ae p.1 p.2.2.1=true/\br p.2.1=true/\p.2.1.size=p.2.2.1.length)
def Dp (p:PP):Prop:=p.2.1.size<=4294967296/\Pj p.2.2.1
noncomputable abbrev Uh:Spec:=Gu (.pair tL .unit) tI false true (λ_=>True) (λx=>(List.length x.1:Int))
noncomputable abbrev Jk:Spec:=Gu (.pair tL .unit) .bool false true (λx=>short x.1) (λx=>Jj x.1)
noncomputable abbrev Rh:Spec:=Gu (.pair tI (.pair mE .unit)) .bool false true (λx=>Pj x.2.1) (λx=>ae x.1 x.2.1)
noncomputable abbrev km:Spec:=Gu (.pair tL (.pair (.ptr tI) .unit)) .bool false true (λx=>short x.1) (λx=>!Hq x.2.1 x.1)
noncomputable abbrev xP:Spec:=Gu (.pair mE (.pair tG1 .unit)) tI false true (λx=>Pj x.1) (λx=>Mc (λp=>!Hq x.2.1.1 p) x.1 0)
noncomputable abbrev xO:Spec:=Gu (.pair mE (.pair tG1 .unit)) .bool false true (λx=>Pj x.1) (λx=>List.any x.1 (λp=>!Hq x.2.1.1 p))
noncomputable abbrev eJ:Spec:=Gu (.pair .str (.pair tI .unit)) .bool false true (λx=>0<=x.2.1/\x.2.1<x.1.size/\x.1.size<=4294967296) (λx=>nR x.1 x.2.1)
noncomputable abbrev bz:Spec:=Gu (.pair .str .unit) .bool false true (λx=>x.1.size<=4294967296) (λx=>br x.1)
noncomputable abbrev Ge:Spec:=Gu (.pair Hk .unit) .bool false true (λx=>Dp x.1) (λx=>Bm x.1)
theorem Aiu (xs:List Int) (P:Int->Prop):(P (↑xs.length:Int))=fnW Fz (look []) Uh Tryz.f105 (xs,()) P:=by kernel_rfl
theorem BD (p:List Int) (P:Bool->Prop):(∃(y2:Bool),Cr.fn ((↑p.length:Int),(1:Int),(20:Int),())=some y2/\Br (!y2) (P false) (Dl (λ(v3:Int×PUnit) (k4:Int×PUnit->Prop)=>Br (decide (v3.1<(↑p.length:Int))) (∃(y5:Int),idx p v3.1=some y5/\ ∃(y6:Bool),Cr.fn (y5,(0:Int),IntKind.i64.wrap ((↑p.length:Int)-(1:Int)),())=some y6/\Br (!y6) (P false) (((0:Int)<=(0:Int)/\(0:Int)<=v3.1/\v3.1<=(↑p.length:Int))/\ ∃(y7:Int),idx p v3.1=some y7/\ ∃(y8:Bool),Rq.fn (List.drop (Int.toNat (0:Int)) (List.take v3.1.toNat p),y7,())=some y8/\Br y8 (P false) (k4 (IntKind.i64.wrap (v3.1+(1:Int)),())))) (P true)) ((0:Int),PUnit.unit)))=fnW Fz (look [(95,Cr),(175,Rq)]) Jk Tryz.f162 (p,()) P:=by kernel_rfl
theorem AY (p:List Int) (P:Bool->Prop):(∃(y2:Int),Uh.fn (p,())=some y2/\ ∃(y3:Bool),Cr.fn (y2,(1:Int),(20:Int),())=some y3/\Br (!y3) (P false) (Dl (λ(v4:Int×Int×PUnit) (k5:Int×Int×PUnit->Prop)=>Br (decide (v4.2.1<(↑p.length:Int))) (∃(y6:Int),idx p v4.2.1=some y6/\ ∃(y7:Int),Uh.fn (p,())=some y7/\ ∃(y8:Bool),Cr.fn (y6,(0:Int),IntKind.i64.wrap (y7-(1:Int)),())=some y8/\Br (!y8) (P false) (¬y6<(0:Int)/\k5 (IntKind.i64.wrap (↑(BitVec.ofInt IntKind.i64.bits v4.1|||BitVec.ofInt IntKind.i64.bits (IntKind.i64.wrap ((1:Int)*(2:Int)^min y6.toNat IntKind.i64.bits))).toNat:Int),IntKind.i64.wrap (v4.2.1+(1:Int)),()))) (¬(↑p.length:Int)<(0:Int)/\P (v4.1==IntKind.i64.wrap (IntKind.i64.wrap ((1:Int)*(2:Int)^min (↑p.length:Int).toNat IntKind.i64.bits)-(1:Int))))) ((0:Int),(0:Int),PUnit.unit)))=fnW Fz (look [(100,Cr),(105,Uh)]) Jk Tryz.f130 (p,()) P:=by kernel_rfl
theorem BC (n:Int) (g:List (List Int)) (P:Bool->Prop):(∃(y3:Bool),Cr.fn (n,(1:Int),(20:Int),())=some y3/\Br (!y3) (P false) (Br (decide ((↑g.length:Int)>(8:Int))) (P false) (Dl (λ(v4:Int×PUnit) (k5:Int×PUnit->Prop)=>Br (decide (v4.1<(↑g.length:Int))) (∃(y6:List Int),idx g v4.1=some y6/\Br ((↑y6.length:Int) !=n) (P false) (∃(y7:List Int),idx g v4.1=some y7/\ ∃(y8:Bool),Jk.fn (y7,())=some y8/\Br (!y8) (P false) (k5 (IntKind.i64.wrap (v4.1+(1:Int)),())))) (P true)) ((0:Int),PUnit.unit))))=fnW Fz (look [(95,Cr),(162,Jk)]) Rh Tryz.f122 (n,g,()) P:=by kernel_rfl
theorem Ae2 (p:List Int) (n:Int) (P:Bool->Prop):(∃(y3:Int),Uh.fn (p,())=some y3/\Br (y3 !=n) (P true) (∃(y4:Bool),Jk.fn (p,())=some y4/\P !y4))=fnW Fz (look [(105,Uh),(130,Jk)]) km Tryz.f174 (p,n,()) P:=by kernel_rfl
theorem Anh (g:List (List Int)) (n:Int×Unit) (P:Int->Prop):(Dl (λ(v3:Int×PUnit) (k4:Int×PUnit->Prop)=>Br (decide (v3.1<(↑g.length:Int))) (∃(y5:List Int),idx g v3.1=some y5/\ ∃(y6:Bool),km.fn (y5,n.1,())=some y6/\Br y6 (P v3.1) (k4 (IntKind.i64.wrap (v3.1+(1:Int)),()))) (P (-1:Int))) ((0:Int),PUnit.unit))=fnW Fz (look [(174,km)]) xP Tryz.f140 (g,n,()) P:=by kernel_rfl
theorem Anf (g:List (List Int)) (n:Int×Unit) (P:Bool->Prop):(∃(y3:Int),xP.fn (g,n,())=some y3/\P (decide (y3>=(0:Int))))=fnW Fz (look [(140,xP)]) xO Tryz.f173 (g,n,()) P:=by kernel_rfl
theorem AX (n:Int) (g:List (List Int)) (P:Bool->Prop):(∃(y3:Bool),Cr.fn (n,(1:Int),(20:Int),())=some y3/\Br y3 (Br (decide ((↑g.length:Int)<=(8:Int))) (∃(y4:Bool),xO.fn (g,(n,()),())=some y4/\P !y4) (P false)) (P false))=fnW Fz (look [(100,Cr),(173,xO)]) Rh Tryz.f150 (n,g,()) P:=by kernel_rfl
theorem Ab5 (s:ByteArray) (i:Int) (P:Bool->Prop):((0:Int)<=i/\ ∃(y3:UInt8),s[i.toNat]?=some y3/\Br (decide ((↑y3.toNat:Int)<(65:Int))) (P false) ((0:Int)<=i/\ ∃(y4:UInt8),s[i.toNat]?=some y4/\Br (decide ((↑y4.toNat:Int)>(90:Int))) (P false) (Dl (λ(v5:Int×PUnit) (k6:Int×PUnit->Prop)=>Br (decide (v5.1<i)) ((0:Int)<=v5.1/\ ∃(y7:UInt8),s[v5.1.toNat]?=some y7/\(0:Int)<=i/\ ∃(y8:UInt8),s[i.toNat]?=some y8/\Br ((↑y7.toNat:Int)==(↑y8.toNat:Int)) (P false) (k6 (IntKind.i64.wrap (v5.1+(1:Int)),()))) (P true)) ((0:Int),PUnit.unit))))=fnW Fz (look []) eJ Tryz.f123 (s,i,()) P:=by kernel_rfl
theorem UW (s:ByteArray) (P:Bool->Prop):(Dl (λ(v2:Int×PUnit) (k3:Int×PUnit->Prop)=>Br (decide (v2.1<(↑s.size:Int))) ((0:Int)<=v2.1/\ ∃(y4:UInt8),s[v2.1.toNat]?=some y4/\ ∃(y5:Bool),Cr.fn (IntKind.i64.wrap (↑y4.toNat:Int),(65:Int),(90:Int),())=some y5/\Br (!y5) (P false) (Dl (λ(v6:Int×PUnit) (k7:Int×PUnit->Prop)=>Br (decide (v6.1<v2.1)) ((0:Int)<=v6.1/\ ∃(y8:UInt8),s[v6.1.toNat]?=some y8/\(0:Int)<=v2.1/\ ∃(y9:UInt8),s[v2.1.toNat]?=some y9/\Br ((↑y8.toNat:Int)==(↑y9.toNat:Int)) (P false) (k7 (IntKind.i64.wrap (v6.1+(1:Int)),()))) (k3 (IntKind.i64.wrap (v2.1+(1:Int)),()))) ((0:Int),PUnit.unit))) (∃(y4:Bool),Cr.fn ((↑s.size:Int),(1:Int),(8:Int),())=some y4/\P y4)) ((0:Int),PUnit.unit))=fnW Fz (look [(100,Cr)]) bz Tryz.f151 (s,()) P:=by kernel_rfl
abbrev lv:Type:=Int×Int×ByteArray×List (List Int)×PUnit
theorem BE (p:Int×ByteArray×List (List Int)×Unit) (P:Bool->Prop):(Br ((↑p.2.2.1.length:Int)==(0:Int)) (P false) (Br ((↑p.2.1.size:Int) !=(↑p.2.2.1.length:Int)) (P false) (∃(y2:Bool),Rh.fn (p.1,p.2.2.1,())=some y2/\Br (!y2) (P false) (Dl (λ(v3:lv) (k4:lv->Prop)=>Br (decide (v3.1<(↑v3.2.2.1.size:Int))) (∃(y5:Bool),eJ.fn (v3.2.2.1,v3.1,())=some y5/\Br (!y5) (P false) (k4 (IntKind.i64.wrap (v3.1+(1:Int)),v3.2.1,v3.2.2.1,v3.2.2.2.1,()))) (P true)) ((0:Int),p.1,p.2.1,p.2.2.1,PUnit.unit)))))=fnW Fz (look [(122,Rh),(123,eJ)]) Ge Tryz.f63 (p,()) P:=by kernel_rfl
theorem AZ (p:Int×ByteArray×List (List Int)×Unit) (P:Bool->Prop):(∃(y2:Bool),Rh.fn (p.1,p.2.2.1,())=some y2/\Br y2 (∃(y3:Bool),bz.fn (p.2.1,())=some y3/\Br y3 (P ((↑p.2.1.size:Int)==(↑p.2.2.1.length:Int))) (P false)) (P false))=fnW Fz (look [(150,Rh),(151,bz)]) Ge Tryz.f99 (p,()) P:=by kernel_rfl
theorem Ai6 (xs:List Int) (_:True):fnW Fz (look []) Uh Tryz.f105 (xs,()) (λ(z:Int)=>z=(xs.length:Int)):=Eq.mp (Aiu xs _) rfl
theorem fY:Sound Tryz.prog 105 Uh:=
 Sound.Gu Dq Bn mixed Tryz.func105 (by kernel_rfl) (by kernel_rfl) λx h=>Ai6 x.1 h
theorem AK {α:Type} [DecidableEq α]: ∀(l m:List α),l.Nodup->(∀x∈l,x∈m)->l.length<=m.length
 | [],m,_,_=>Kd _
 |a::l,m,hn,hs=>by
  have ha:a∈m:=hs a (Ky ..)
  have hn:=Cb.1 hn
  have:=AK l (m.erase a) hn.2 λx hx=>(List.mem_erase_of_ne (λ(e:x=a)=>hn.1 (by rw [<-e];exact hx))).2 (hs x (An _ hx))
  rw [List.length_erase_of_mem ha] at this
  have:0<m.length:=List.length_pos_of_mem ha
  simp only [Ay]
  omega
def upto (n:Nat):List Int:=(List.range n).map Int.ofNat
theorem uT (n:Nat):(upto n).Nodup:=by
 unfold upto
 exact List.Pairwise.map _ (λa b vC e=>vC (Int.ofNat.inj e)) List.nodup_range
theorem Oi {n:Nat} {x:Int} :x∈upto n↔0<=x/\x<n:=by
 unfold upto
 simp only [Be,Et]
 constructor
 ·rintro ⟨a,ha,rfl⟩;exact ⟨Int.natCast_nonneg _,Int.ofNat_lt.2 ha⟩
 ·rintro ⟨h1,h2⟩;exact ⟨x.toNat,by omega,by simp only [Int.ofNat_eq_natCast];omega⟩
theorem Ti (n:Nat):(upto n).length=n:=by simp [upto]
theorem j9 {xs:List Int} (h: ∀j (hj:j<xs.length),xs[j]∉xs.take j):xs.Nodup:=by
 refine El.2 λi j hi hj kD e=>h j hj ?_
 rw [<-e]
 exact List.mem_take_iff_getElem.2 ⟨i,by omega,rfl⟩
theorem uR {xs:List Int} (h:xs.Nodup): ∀j (hj:j<xs.length),xs[j]∉xs.take j:=by
 intro j hj hm
 obtain ⟨i,hi,e⟩:=List.mem_take_iff_getElem.1 hm
 exact El.1 h i j (by omega) hj (by omega) e
theorem dt {xs:List Int} (h: ∀x∈xs,0<=x/\x<xs.length):(∀k:Nat,k<xs.length->(k:Int)∈xs)↔ ∀j (hj:j<xs.length),xs[j]∉xs.take j:=by
 constructor
 ·intro ha j hj hm
  have h1:=AK (upto xs.length) (xs.take j++xs.drop (j+1)) (uT _) λx hx=>by
   obtain ⟨h1,h2⟩:=Oi.1 hx
   have hx:=ha x.toNat (by omega)
   rw [show ((x.toNat:Nat):Int)=x by omega] at hx
   rw [<-Kf j xs,Az,Fg hj,Bd] at hx
   rcases hx with hx|rfl|hx
   ·exact Bj _ hx
   ·exact Bj _ hm
   ·exact Cf _ hx
  rw [Ti,Av,De,List.length_drop] at h1
  omega
 ·intro hn k hk
  refine Bo λhc=>?_
  have h1:=AK xs ((upto xs.length).erase (k:Int)) (j9 hn) λx hx=>by
   refine (List.mem_erase_of_ne λ(e:x=(k:Int))=>hc (by rw [<-e];exact hx)).2 (Oi.2 (h x hx))
  rw [List.length_erase_of_mem (Oi.2 ⟨by omega,by omega⟩),Ti] at h1
  omega
def mask (xs:List Int):Nat:=xs.foldl (λm x=>m|||2^x.toNat) 0
theorem SH (xs:List Int) (x:Int):mask (xs++ [x])=mask xs|||2^x.toNat:=by simp [mask]
theorem zj (xs:List Int) (k:Nat): ∀a:Nat,(xs.foldl (λm x=>m|||2^x.toNat) a).testBit k=(a.testBit k||xs.any λx=>decide (x.toNat=k)):=by
 induction xs with
 |nil=>simp
 |cons x xs ih=>
  intro a
  rw [On,ih,Nat.testBit_or,Nat.testBit_two_pow,List.any_cons,Bool.or_assoc]
theorem tz (xs:List Int) (k:Nat):(mask xs).testBit k=xs.any λx=>decide (x.toNat=k):=by
 unfold mask
 rw [zj,Nat.zero_testBit,Xu]
theorem Ad5 {xs:List Int} {n:Nat} (h: ∀x∈xs,x.toNat<n):mask xs<2^n:=by
 refine Nat.lt_pow_two_of_testBit _ λk hk=>?_
 rw [tz]
 refine Nr.2 λht=>?_
 obtain ⟨x,hx,he⟩:=Gh.1 ht
 have:=h x hx
 have:=Ls he
 omega
theorem xu {xs:List Int} (h: ∀x∈xs,0<=x/\x<xs.length):mask xs=2^xs.length-1↔ ∀k:Nat,k<xs.length->(k:Int)∈xs:=by
 constructor
 ·intro e k hk
  have h1:=tz xs k
  rw [e,Nat.testBit_two_pow_sub_one,Ec hk] at h1
  obtain ⟨x,hx,he⟩:=Gh.1 h1.symm
  have:=(h x hx).1
  have:=Ls he
  have e:x=(k:Int):=by omega
  exact e▸hx
 ·intro ha
  refine Nat.eq_of_testBit_eq λk=>?_
  rw [tz,Nat.testBit_two_pow_sub_one]
  by_cases hk:k<xs.length
  ·rw [Ec hk]
   exact Gh.2 ⟨k,ha k hk,by simp⟩
  ·rw [Fu hk]
   refine Nr.2 λht=>?_
   obtain ⟨x,hx,he⟩:=Gh.1 ht
   have:=h x hx
   have:=Ls he
   omega
theorem Ad9 {m:Nat} {x:Int} (hm:m<2^20) (h0:0<=x) (h1:x<20):
  IntKind.i64.wrap (((BitVec.ofInt IntKind.i64.bits (m:Int)|||BitVec.ofInt IntKind.i64.bits (IntKind.i64.wrap ((1:Int)*(2:Int)^min x.toNat IntKind.i64.bits))).toNat:Nat):Int)=((m|||2^x.toNat:Nat):Int):=by
 have hx:(2:Nat)^x.toNat<2^20:=Nat.pow_lt_pow_right (by omega) (by omega)
 have e1:min x.toNat IntKind.i64.bits=x.toNat:=by show min x.toNat 64=_;omega
 have e2:(1:Int)*(2:Int)^x.toNat=((2^x.toNat:Nat):Int):=by rw [Int.one_mul];exact (Int.natCast_pow 2 _).symm
 rw [e1,e2,Cy (n:=((2^x.toNat:Nat):Int)) (by have:(0:Int)<=((2^x.toNat:Nat):Int):=Int.natCast_nonneg _;omega) (by omega)]
 show IntKind.i64.wrap (((BitVec.ofInt 64 (m:Int)|||BitVec.ofInt 64 ((2^x.toNat:Nat):Int)).toNat:Nat):Int)=_
 rw [BitVec.ofInt_natCast,BitVec.ofInt_natCast,BitVec.toNat_or,BitVec.toNat_ofNat,BitVec.toNat_ofNat,Nat.mod_eq_of_lt (by omega),Nat.mod_eq_of_lt (by omega)]
 have:=Nat.or_lt_two_pow hm hx
 exact Cy (by omega) (by omega)
theorem zv (p:List Int) (h:short p):fnW Fz (look [(95,Cr),(175,Rq)]) Jk Tryz.f162 (p,()) (λ(z:Bool)=>z=Jj p):=by
 have hs:=h
 unfold short at h
 refine Eq.mp (BD p _) ⟨_,Ab trivial,⟨λhp=>?_,λhp=>?_⟩⟩
 ·have hp:=Hy hp
  rw [Er] at hp
  dsimp only at hp
  exact Di λhh=>hp ⟨by omega,by omega⟩
 ·have hp:=Ih hp
  rw [Er] at hp
  dsimp only at hp
  refine Bw p.length (λv=>v.1) (λj _=>DL p.length p j) rfl (λj _ hj=>absurd hj (Gp _)) ?_
  rintro j ⟨i,⟨⟩⟩ K hj hi hR hK
  dsimp only at hi⊢
  subst hi
  refine Br.dec (λhl=>?_) λhl=>?_
  ·have hl:j<p.length:=by omega
   refine ⟨_,Cd hl,_,Ab trivial,⟨λhq=>?_,λhq=>?_⟩⟩
   ·have hq:=Hy hq
    rw [Er,Cy (by omega) (by omega)] at hq
    exact Di λhh=>hq ⟨(hh.2.2 j hl hl).1,(hh.2.2 j hl hl).2.1⟩
   ·have hq:=Ih hq
    rw [Er,Cy (by omega) (by omega)] at hq
    refine ⟨⟨by omega,by omega,by omega⟩,_,Cd hl,?_⟩
    rw [show (Int.toNat 0)=0 from rfl,Ds,Aq]
    refine ⟨_,Ab (ML hs j),⟨λhc=>?_,λhc=>?_⟩⟩
    ·have hc:decide (p[j]∈p.take j)=true:=hc
     rw [Mo] at hc
     exact Di λhh=>(hh.2.2 j hl hl).2.2 hc
    ·have hc:decide (p[j]∈p.take j)=false:=hc
     rw [decide_eq_false_iff_not] at hc
     rw [Bv (by omega)]
     exact hK hl _ rfl (Ac6 hl hR hq.1 hq.2 hc)
  ·have:j=p.length:=by omega
   subst this
   exact Pp ⟨by omega,by omega,hR⟩
theorem Zm:Sound Tryz.prog 162 Jk:=
 Sound.Gu Dq (Aw Rv (Aw oc Bn)) mixed Tryz.func162 (by kernel_rfl) (by kernel_rfl) λx h=>zv x.1 h
theorem zq (p:List Int) (h:short p):fnW Fz (look [(100,Cr),(105,Uh)]) Jk Tryz.f130 (p,()) (λ(z:Bool)=>z=Jj p):=by
 unfold short at h
 refine Eq.mp (AY p _) ⟨_,Ab trivial,_,Ab trivial,⟨λhp=>?_,λhp=>?_⟩⟩
 ·have hp:=Hy hp
  rw [Er] at hp
  dsimp only at hp
  exact Di λhh=>hp ⟨by omega,by omega⟩
 ·have hp:=Ih hp
  rw [Er] at hp
  dsimp only at hp
  refine Bw p.length (λv=>v.2.1) (λj v=>v.1=(mask (p.take j):Int)/\ ∀x∈p.take j,0<=x/\x<p.length) rfl ⟨rfl,by simp⟩ ?_
  rintro j ⟨m,i,⟨⟩⟩ K hj hi ⟨hm,hR⟩ hK
  dsimp only at hi hm⊢
  subst hi hm
  refine Br.dec (λhl=>?_) λhl=>?_
  ·have hl:j<p.length:=by omega
   refine ⟨_,Cd hl,_,Ab trivial,_,Ab trivial,⟨λhq=>?_,λhq=>?_⟩⟩
   ·have hq:=Hy hq
    rw [Er] at hq
    dsimp only at hq
    rw [Cy (by omega) (by omega)] at hq
    exact Di λhh=>hq ⟨(hh.2.2 j hl hl).1,(hh.2.2 j hl hl).2.1⟩
   ·have hq:=Ih hq
    rw [Er] at hq
    dsimp only at hq
    rw [Cy (by omega) (by omega)] at hq
    refine ⟨by omega,?_⟩
    rw [Bv (by omega)]
    have hb:mask (p.take j)<2^20:=Ad5 λx hx=>by have:=hR x hx;omega
    refine hK hl _ rfl ⟨?_,?_⟩
    ·dsimp only
     rw [Ad9 hb hq.1 (by omega),Cv hl,SH]
    ·rw [Cv hl]
     intro x hx
     rcases Az.1 hx with hx|hx
     ·exact hR x hx
     ·rw [Ad.1 hx];omega
  ·have:j=p.length:=by omega
   subst this
   rw [Ax] at hR⊢
   refine ⟨by omega,?_⟩
   have hx:(2:Nat)^p.length<=2^20:=Nat.pow_le_pow_right (by omega) (by omega)
   have JY:0<(2:Nat)^p.length:=Nat.two_pow_pos _
   have e1:min (p.length:Int).toNat IntKind.i64.bits=p.length:=by show min (p.length:Int).toNat 64=_;omega
   have e2:(1:Int)*(2:Int)^p.length=((2^p.length:Nat):Int):=by rw [Int.one_mul];exact (Int.natCast_pow 2 _).symm
   rw [e1,e2,Cy (n:=((2^p.length:Nat):Int)) (by omega) (by omega),Cy (by omega) (by omega)]
   have hE:((mask p:Int)==((2^p.length:Nat):Int)-1)=decide (mask p=2^p.length-1):=by
    rw [Bool.eq_iff_iff,Xw,Mo]
    omega
   show ((mask p:Int)==((2^p.length:Nat):Int)-1)=Jj p
   rw [hE]
   by_cases hf:mask p=2^p.length-1
   ·rw [Ec hf]
    have hn:=(dt hR).1 ((xu hR).1 hf)
    refine Pp ⟨by omega,by omega,λj hj _=>?_⟩
    have:=hR _ (Ak hj)
    exact ⟨this.1,by omega,hn j hj⟩
   ·rw [Fu hf]
    refine Di λhh=>hf ((xu hR).2 ((dt hR).2 λj hj=>(hh.2.2 j hj hj).2.2))
theorem eQ:Sound Tryz.prog 130 Jk:=
 Sound.Gu Dq (Aw Xq (Aw fY Bn)) mixed Tryz.func130 (by kernel_rfl) (by kernel_rfl) λx h=>zq x.1 h
theorem zu (n:Int) (g:List (List Int)) (h:Pj g):fnW Fz (look [(95,Cr),(162,Jk)]) Rh Tryz.f122 (n,g,()) (λ(z:Bool)=>z=ae n g):=by
 obtain ⟨h,h4⟩:=h
 refine Eq.mp (BC n g _) ⟨_,Ab trivial,⟨λhp=>?_,λhp=>?_⟩⟩
 ·have hp:=Hy hp
  rw [Er] at hp
  exact Di λhh=>hp hh.1
 ·have hp:=Ih hp
  rw [Er] at hp
  refine Br.dec (λhg=>?_) λhg=>?_
  ·exact Di λhh=>by have:=hh.2.1;omega
  ·refine Bw g.length (λv=>v.1) (λj _=> ∀p∈g.take j,Hq n p=true) rfl (by simp) ?_
   rintro j ⟨i,⟨⟩⟩ K hj hi hR hK
   dsimp only at hi⊢
   subst hi
   refine Br.dec (λhl=>?_) λhl=>?_
   ·have hl:j<g.length:=by omega
    have hm:g[j]∈g:=Ak hl
    refine ⟨_,Cd hl,⟨λhe=>?_,λhe=>?_⟩⟩
    ·simp only [bne_iff_ne,ne_eq] at he
     exact Di λhh=>he (Ik.1 (hh.2.2 _ hm)).1
    ·simp only [Yj] at he
     refine ⟨_,Cd hl,_,Ab (h4 _ hm),⟨λhq=>?_,λhq=>?_⟩⟩
     ·have hq:=Hy hq
      exact Di λhh=>hq (Ik.1 (hh.2.2 _ hm)).2
     ·have hq:=Ih hq
      rw [Bv (by omega)]
      refine hK hl _ rfl ?_
      rw [Cv hl]
      intro x hx
      rcases Az.1 hx with hx|hx
      ·exact hR x hx
      ·rw [Ad.1 hx];exact Ik.2 ⟨he,hq⟩
   ·have:j=g.length:=by omega
    subst this
    rw [Ax] at hR
    exact Pp ⟨hp,by omega,hR⟩
theorem pL:Sound Tryz.prog 122 Rh:=
 Sound.Gu Dq (Aw Rv (Aw Zm Bn)) mixed Tryz.func122 (by kernel_rfl) (by kernel_rfl) λx h=>zu x.1 x.2.1 h
theorem Adc (p:List Int) (n:Int) (h:short p):fnW Fz (look [(105,Uh),(130,Jk)]) km Tryz.f174 (p,n,()) (λ(z:Bool)=>z=!Hq n p):=by
 refine Eq.mp (Ae2 p n _) ⟨_,Ab trivial,⟨λhe=>?_,λhe=>⟨_,Ab h,?_⟩⟩⟩
 ·simp only [bne_iff_ne,ne_eq] at he
  have:Hq n p=false:=Ac4.2 λhh=>he hh.1
  rw [this];rfl
 ·simp only [Yj] at he
  show (!Jj p)=_
  congr 1
  cases hp:Jj p with
  |true=>exact Pp ⟨he,hp⟩
  |false=>exact Di λhh=>by rw [hh.2] at hp;cases hp
theorem GM:Sound Tryz.prog 174 km:=
 Sound.Gu Dq (Aw fY (Aw eQ Bn)) mixed Tryz.func174 (by kernel_rfl) (by kernel_rfl) λx h=>Adc x.1 x.2.1 h
theorem qo {α:Type} (P:α->Bool): ∀(l:List α) (i:Int),0<=i->(0<=Mc P l i↔l.any P=true)
 | [],i,_=>by simp [Mc]
 |y::r,i,h=>by
  simp only [Mc,List.any_cons,Mh]
  split
  ·rename_i hy;simp [hy,h]
  ·rename_i hy;rw [qo P r (i+1) (by omega)];simp [hy]
theorem Ams (g:List (List Int)) (n:Int×Unit) (h:Pj g):fnW Fz (look [(174,km)]) xP Tryz.f140 (g,n,()) (λ(z:Int)=>z=Mc (λp=>!Hq n.1 p) g 0):=by
 obtain ⟨h,h4⟩:=h
 refine Eq.mp (Anh g n _) ?_
 refine Bw g.length (λv=>v.1) (λj _=>Mc (λp=>!Hq n.1 p) (g.drop j) j=Mc (λp=>!Hq n.1 p) g 0) rfl (by simp) ?_
 rintro j ⟨i,⟨⟩⟩ K hj hi hR hK
 dsimp only at hi⊢
 subst hi
 refine Br.dec (λhl=>?_) λhl=>?_
 ·have hl:j<g.length:=by omega
  rw [Fg hl] at hR
  simp only [Mc] at hR
  refine ⟨_,Cd hl,_,Ab (h4 _ (Ak hl)),⟨λhe=>?_,λhe=>?_⟩⟩
  ·have he:(!Hq n.1 g[j])=true:=he
   rw [Ab he] at hR
   exact hR
  ·have he:(!Hq n.1 g[j])=false:=he
   rw [Aj (by rw [he];decide)] at hR
   rw [Bv (by omega)]
   exact hK hl _ rfl (by push_cast;exact hR)
 ·have:j=g.length:=by omega
  subst this
  rw [Qd] at hR
  exact hR
theorem TX:Sound Tryz.prog 140 xP:=
 Sound.Gu Dq (Aw GM Bn) mixed Tryz.func140 (by kernel_rfl) (by kernel_rfl) λx h=>Ams x.1 x.2.1 h
theorem Amq (g:List (List Int)) (n:Int×Unit) (h:Pj g):fnW Fz (look [(140,xP)]) xO Tryz.f173 (g,n,()) (λ(z:Bool)=>z=List.any g (λp=>!Hq n.1 p)):=by
 refine Eq.mp (Anf g n _) ⟨_,Ab h,?_⟩
 rw [Bool.eq_iff_iff,Mo]
 exact qo _ g 0 (Rb 0)
theorem TW:Sound Tryz.prog 173 xO:=
 Sound.Gu Dq (Aw TX Bn) mixed Tryz.func173 (by kernel_rfl) (by kernel_rfl) λx h=>Amq x.1 x.2.1 h
theorem zp (n:Int) (g:List (List Int)) (h:Pj g):fnW Fz (look [(100,Cr),(173,xO)]) Rh Tryz.f150 (n,g,()) (λ(z:Bool)=>z=ae n g):=by
 refine Eq.mp (AX n g _) ⟨_,Ab trivial,⟨λhp=>?_,λhp=>?_⟩⟩
 ·have hp:Mv n 1 20=true:=hp
  rw [Er] at hp
  refine Br.dec (λhl=>⟨_,Ab h,?_⟩) λhl=>?_
  ·show (!List.any g (λp=>!Hq n p))=ae n g
   cases ha:List.any g (λp=>!Hq n p) with
   |true=>
    obtain ⟨p,tb,PH⟩:=Gh.1 ha
    exact Di λhh=>by rw [hh.2.2 p tb] at PH;cases PH
   |false=>
    refine Pp ⟨hp,by omega,λp hm=>?_⟩
    have:=List.any_eq_false.1 ha p hm
    simpa using this
  ·exact Di λhh=>by have:=hh.2.1;omega
 ·refine Di λhh=>?_
  have:Mv n 1 20=true:=Er.2 hh.1
  have hp:Mv n 1 20=false:=hp
  rw [this] at hp;cases hp
theorem pJ:Sound Tryz.prog 150 Rh:=
 Sound.Gu Dq (Aw Xq (Aw TW Bn)) mixed Tryz.func150 (by kernel_rfl) (by kernel_rfl) λx h=>zp x.1 x.2.1 h
theorem Ni {s:ByteArray} {k:Nat} (h:k<s.size):s[k]?=some s[k]:=getElem?_pos s k h
theorem ZL (s:ByteArray) (i:Int) (h:0<=i/\i<s.size/\s.size<=4294967296):fnW Fz (look []) eJ Tryz.f123 (s,i,()) (λ(z:Bool)=>z=nR s i):=by
 obtain ⟨h1,h2,h3⟩:=h
 have hi:i.toNat<s.size:=by omega
 refine Eq.mp (Ab5 s i _) ⟨h1,_,Ni hi,Br.dec (λhq=>?_) λhq=>⟨h1,_,Ni hi,Br.dec (λhr=>?_) λhr=>?_⟩⟩
 ·refine Di λ⟨c,hc,hc1,_⟩=>?_
  rw [Ni hi] at hc;cases hc;omega
 ·refine Di λ⟨c,hc,_,hc1,_⟩=>?_
  rw [Ni hi] at hc;cases hc;omega
 ·refine Bw i.toNat (λv=>v.1) (λj _=> ∀k,k<j->s[k]?≠some s[i.toNat]) rfl (λk hk=>absurd hk (Gp _)) ?_
  rintro j ⟨i',⟨⟩⟩ K hj mI hR hK
  dsimp only at mI⊢
  subst mI
  refine Br.dec (λhl=>?_) λhl=>?_
  ·have hl:j<i.toNat:=by omega
   have hj:j<s.size:=by omega
   rw [Aq]
   refine ⟨by omega,_,Ni hj,h1,_,Ni hi,⟨λhe=>?_,λhe=>?_⟩⟩
   ·simp only [Xw,Mi] at he
    refine Di λ⟨c,hc,_,_,hc1⟩=>?_
    rw [Ni hi] at hc;cases hc
    exact hc1 j hl (by rw [Ni hj,UInt8.toNat_inj.1 he])
   ·simp only [Ob,ne_eq,Mi] at he
    rw [Bv (by omega)]
    refine hK hl _ rfl λk hk=>?_
    by_cases e:k=j
    ·subst e
     rw [Ni hj]
     exact λe=>he (by rw [Bc e])
    ·exact hR k (by omega)
  ·have:j=i.toNat:=by omega
   subst this
   exact Pp ⟨_,Ni hi,by omega,by omega,hR⟩
theorem zY:Sound Tryz.prog 123 eJ:=
 Sound.Gu Dq Bn mixed Tryz.func123 (by kernel_rfl) (by kernel_rfl) λx h=>ZL x.1 x.2.1 h
theorem SY (s:ByteArray) (h:s.size<=4294967296):fnW Fz (look [(100,Cr)]) bz Tryz.f151 (s,()) (λ(z:Bool)=>z=br s):=by
 refine Eq.mp (UW s _) ?_
 refine Bw s.size (λv=>v.1) (λj _=> ∀k,k<j->yi s k) rfl (λk hk=>absurd hk (Gp _)) ?_
 rintro j ⟨i,⟨⟩⟩ K hj hi hR hK
 dsimp only at hi⊢
 subst hi
 refine Br.dec (λhl=>?_) λhl=>?_
 ·have hl:j<s.size:=by omega
  rw [Aq]
  have hb:=(s[j]).toNat_lt
  refine ⟨by omega,_,Ni hl,_,Ab trivial,⟨λhq=>?_,λhq=>?_⟩⟩
  ·have hq:=Hy hq
   rw [Er] at hq
   dsimp only at hq
   rw [Cy (by omega) (by omega)] at hq
   refine Di λhh=>?_
   obtain ⟨c,hc,hc1,hc2,_⟩:=hh.2 j hl
   rw [Ni hl] at hc;cases hc
   exact hq ⟨by omega,by omega⟩
  ·have hq:=Ih hq
   rw [Er] at hq
   dsimp only at hq
   rw [Cy (by omega) (by omega)] at hq
   refine Bw j (λv=>v.1) (λm _=> ∀k,k<m->s[k]?≠some s[j]) rfl (λk hk=>absurd hk (Gp _)) ?_
   rintro m ⟨i',⟨⟩⟩ K' hm mI hR' hK'
   dsimp only at mI⊢
   subst mI
   refine Br.dec (λMb=>?_) λMb=>?_
   ·have Mb:m<j:=by omega
    have hm':m<s.size:=by omega
    rw [Aq]
    refine ⟨by omega,_,Ni hm',by omega,_,Ni hl,⟨λhe=>?_,λhe=>?_⟩⟩
    ·simp only [Xw,Mi] at he
     refine Di λhh=>?_
     obtain ⟨c,hc,_,_,hc1⟩:=hh.2 j hl
     rw [Ni hl] at hc;cases hc
     exact hc1 m Mb (by rw [Ni hm',UInt8.toNat_inj.1 he])
    ·simp only [Ob,ne_eq,Mi] at he
     rw [Bv (by omega)]
     refine hK' Mb _ rfl λk hk=>?_
     by_cases e:k=m
     ·subst e
      rw [Ni hm']
      exact λe=>he (by rw [Bc e])
     ·exact hR' k (by omega)
   ·have:m=j:=by omega
    subst this
    rw [Bv (by omega)]
    refine hK hl _ rfl λk hk=>?_
    by_cases e:k=m
    ·subst e
     exact ⟨_,Ni hl,by omega,by omega,hR'⟩
    ·exact hR k (by omega)
 ·have:j=s.size:=by omega
  subst this
  refine ⟨_,Ab trivial,?_⟩
  show Mv s.size 1 8=_
  cases hr:Mv s.size 1 8 with
  |true=>rw [Er] at hr;exact Pp ⟨by omega,hR⟩
  |false=>refine Di λhh=>?_;rw [Er.2 ⟨by omega,by omega⟩] at hr;cases hr
theorem wi:Sound Tryz.prog 151 bz:=
 Sound.Gu Dq (Aw Xq Bn) mixed Tryz.func151 (by kernel_rfl) (by kernel_rfl) λx h=>SY x.1 h
theorem NH {p:PP} (h:Bm p=true):1<=p.1/\p.1<=20/\1<=p.2.2.1.length/\p.2.2.1.length<=8:=by
 obtain ⟨h1,h2,h3⟩:=Ik.1 h
 obtain ⟨h4,h5,_⟩:=Ik.1 h1
 obtain ⟨h6,_⟩:=Ik.1 h2
 omega
theorem zw (p:PP) (h:Dp p):fnW Fz (look [(122,Rh),(123,eJ)]) Ge Tryz.f63 (p,()) (λ(z:Bool)=>z=Bm p):=by
 obtain ⟨hn,hg⟩:=h
 refine Eq.mp (BE p _) ⟨λh0=>?_,λh0=>⟨λh1=>?_,λh1=>⟨_,Ab hg,⟨λh2=>?_,λh2=>?_⟩⟩⟩⟩
 ·simp only [Xw] at h0
  exact Di λhh=>by obtain ⟨_,h2,h3⟩:=hh;have:=(Ik.1 h2).1;omega
 ·simp only [bne_iff_ne,ne_eq,Mi] at h1
  exact Di λhh=>h1 hh.2.2
 ·have h2:=Hy h2
  exact Di λhh=>h2 hh.1
 ·simp only [Ob,ne_eq] at h0
  simp only [Yj,Mi] at h1
  have h2:ae p.1 p.2.2.1=true:=Ih h2
  refine Bw p.2.1.size (λv=>v.1) (λj v=>v.2=(p.1,p.2.1,p.2.2.1,())/\ ∀k,k<j->yi p.2.1 k) rfl ⟨rfl,λk hk=>absurd hk (Gp _)⟩ ?_
  rintro j ⟨i,v⟩ K hj hi ⟨hv,hR⟩ hK
  dsimp only at hi hv⊢
  subst hi hv
  dsimp only
  refine Br.dec (λhl=>?_) λhl=>?_
  ·have hl:j<p.2.1.size:=by omega
   refine ⟨_,Ab ⟨Int.natCast_nonneg j,Int.ofNat_lt.2 hl,hn⟩,⟨λhq=>?_,λhq=>?_⟩⟩
   ·have hq: ¬nR p.2.1 j=true:=Hy hq
    refine Di λhh=>hq (Ik.2 ?_)
    rw [Aq]
    exact (Ik.1 hh.2.1).2 j hl
   ·have hq:nR p.2.1 j=true:=Ih hq
    have hq:=Ik.1 hq
    rw [Aq] at hq
    rw [Bv (by omega)]
    refine hK hl _ rfl ⟨rfl,λk hk=>?_⟩
    by_cases e:k=j
    ·subst e;exact hq
    ·exact hR k (by omega)
  ·have:j=p.2.1.size:=by omega
   subst this
   have:=(Ik.1 h2).2.1
   exact Pp ⟨h2,Ik.2 ⟨⟨by omega,by omega⟩,hR⟩,h1⟩
theorem Tu:Sound Tryz.prog 63 Ge:=
 Sound.Gu Dq (Aw pL (Aw zY Bn)) mixed Tryz.func63 (by kernel_rfl) (by kernel_rfl) λx h=>zw x.1 h
theorem zr (p:PP) (h:Dp p):fnW Fz (look [(150,Rh),(151,bz)]) Ge Tryz.f99 (p,()) (λ(z:Bool)=>z=Bm p):=by
 obtain ⟨hn,hg⟩:=h
 refine Eq.mp (AZ p _) ⟨_,Ab hg,⟨λh1=>⟨_,Ab hn,⟨λh2=>?_,λh2=>?_⟩⟩,λh1=>?_⟩⟩
 ·have h1:ae p.1 p.2.2.1=true:=h1
  have h2:br p.2.1=true:=h2
  by_cases e:p.2.1.size=p.2.2.1.length
  ·rw [e,beq_self_eq_true];exact Pp ⟨h1,h2,e⟩
  ·rw [show ((p.2.1.size:Int)==(p.2.2.1.length:Int))=false from Ob.2 (by omega)];exact Di λhh=>e hh.2.2
 ·have h2:br p.2.1=false:=h2
  exact Di λhh=>by rw [hh.2.1] at h2;cases h2
 ·have h1:ae p.1 p.2.2.1=false:=h1
  exact Di λhh=>by rw [hh.1] at h1;cases h1
theorem Tt:Sound Tryz.prog 99 Ge:=
 Sound.Gu Dq (Aw pJ (Aw wi Bn)) mixed Tryz.func99 (by kernel_rfl) (by kernel_rfl) λx h=>zr x.1 h
noncomputable abbrev eK:Spec:=Gu (.pair tI (.pair tL .unit)) .bool false true (λx=>short x.2.1) (λx=>Hq x.1 x.2.1)
noncomputable abbrev Qx:Spec:=Gu (.pair Hk (.pair tL .unit)) .bool false true (λx=>short x.2.1) (λx=>Hq x.1.1 x.2.1)
noncomputable abbrev Ji:Spec:=Gu (.pair Hk (.pair tL .unit)) .bool false true (λx=>Dp x.1/\short x.2.1) (λx=>Bm x.1&&Hq x.1.1 x.2.1)
theorem Ab6 (n:Int) (s:List Int) (P:Bool->Prop):(Br ((↑s.length:Int)==n) (∃(y3:Bool),Jk.fn (s,())=some y3/\P y3) (P false))=fnW Fz (look [(162,Jk)]) eK Tryz.f124 (n,s,()) P:=by kernel_rfl
theorem uW (p:Int×ByteArray×List (List Int)×Unit) (s:List Int) (P:Bool->Prop):(∃(y3:Int),Uh.fn (s,())=some y3/\Br (y3==p.1) (∃(y4:Bool),Jk.fn (s,())=some y4/\P y4) (P false))=fnW Fz (look [(105,Uh),(130,Jk)]) Qx Tryz.f78 (p,s,()) P:=by kernel_rfl
theorem wK (p:Int×ByteArray×List (List Int)×Unit) (s:List Int) (P:Bool->Prop):(∃(y3:Bool),Ge.fn ((p.1,p.2.1,p.2.2.1,()),())=some y3/\Br y3 (∃(y4:Bool),eK.fn (p.1,s,())=some y4/\P y4) (P false))=fnW Fz (look [(63,Ge),(124,eK)]) Ji Tryz.f64 (p,s,()) P:=by kernel_rfl
theorem wE (p:Int×ByteArray×List (List Int)×Unit) (s:List Int) (P:Bool->Prop):(∃(y3:Bool),Ge.fn ((p.1,p.2.1,p.2.2.1,()),())=some y3/\Br y3 (∃(y4:Bool),Qx.fn ((p.1,p.2.1,p.2.2.1,()),s,())=some y4/\P y4) (P false))=fnW Fz (look [(99,Ge),(78,Qx)]) Ji Tryz.f156 (p,s,()) P:=by kernel_rfl
theorem ZM (n:Int) (s:List Int) (h:short s):fnW Fz (look [(162,Jk)]) eK Tryz.f124 (n,s,()) (λ(z:Bool)=>z=Hq n s):=by
 refine Eq.mp (Ab6 n s _) ⟨λhe=>⟨_,Ab h,?_⟩,λhe=>?_⟩
 ·simp only [Xw] at he
  show Jj s=_
  cases hp:Jj s with
  |true=>exact Pp ⟨he,hp⟩
  |false=>exact Di λhh=>by rw [hh.2] at hp;cases hp
 ·simp only [Ob,ne_eq] at he
  exact Di λhh=>he hh.1
theorem zZ:Sound Tryz.prog 124 eK:=
 Sound.Gu Dq (Aw Zm Bn) mixed Tryz.func124 (by kernel_rfl) (by kernel_rfl) λx h=>ZM x.1 x.2.1 h
theorem tR (p:PP) (s:List Int) (h:short s):fnW Fz (look [(105,Uh),(130,Jk)]) Qx Tryz.f78 (p,s,()) (λ(z:Bool)=>z=Hq p.1 s):=by
 refine Eq.mp (uW p s _) ⟨_,Ab trivial,⟨λhe=>⟨_,Ab h,?_⟩,λhe=>?_⟩⟩
 ·simp only [Xw] at he
  show Jj s=_
  cases hp:Jj s with
  |true=>exact Pp ⟨he,hp⟩
  |false=>exact Di λhh=>by rw [hh.2] at hp;cases hp
 ·simp only [Ob,ne_eq] at he
  exact Di λhh=>he hh.1
theorem cr:Sound Tryz.prog 78 Qx:=
 Sound.Gu Dq (Aw fY (Aw eQ Bn)) mixed Tryz.func78 (by kernel_rfl) (by kernel_rfl) λx h=>tR x.1 x.2.1 h
theorem vY (p:PP) (s:List Int) (h:Dp p/\short s):fnW Fz (look [(63,Ge),(124,eK)]) Ji Tryz.f64 (p,s,()) (λ(z:Bool)=>z=(Bm p&&Hq p.1 s)):=by
 refine Eq.mp (wK p s _) ⟨_,Ab h.1,⟨λhe=>⟨_,Ab h.2,?_⟩,λhe=>?_⟩⟩
 ·have he:Bm p=true:=he
  rw [he];rfl
 ·have he:Bm p=false:=he
  rw [he];rfl
theorem Xp:Sound Tryz.prog 64 Ji:=
 Sound.Gu Dq (Aw Tu (Aw zZ Bn)) mixed Tryz.func64 (by kernel_rfl) (by kernel_rfl) λx h=>vY x.1 x.2.1 h
theorem vS (p:PP) (s:List Int) (h:Dp p/\short s):fnW Fz (look [(99,Ge),(78,Qx)]) Ji Tryz.f156 (p,s,()) (λ(z:Bool)=>z=(Bm p&&Hq p.1 s)):=by
 refine Eq.mp (wE p s _) ⟨_,Ab h.1,⟨λhe=>⟨_,Ab h.2,?_⟩,λhe=>?_⟩⟩
 ·have he:Bm p=true:=he
  rw [he];rfl
 ·have he:Bm p=false:=he
  rw [he];rfl
theorem od:Sound Tryz.prog 156 Ji:=
 Sound.Gu Dq (Aw Tt (Aw cr Bn)) mixed Tryz.func156 (by kernel_rfl) (by kernel_rfl) λx h=>vS x.1 x.2.1 h
def Hu (xs:List Int) (i:Int):Int:=xs.getD i.toNat 0
def Ai (p q:List Int):List Int:=p.map (Hu q)
def cN (f:Nat->Nat) (g:Nat->Int) (m:Nat) (init:List Int):List Int:=(List.range m).foldl (λ(out:List Int) (i:Nat)=>out.set (f i) (g i)) init
def Bg (p:List Int):List Int:=cN (λi=>(Hu p (i:Int)).toNat) (λi=>(i:Int)) p.length (List.replicate p.length 0)
def Og (n:Nat) (p:List Int):Prop:= ∀y∈p,0<=y/\y<n
noncomputable abbrev Lf:Spec:=Gu (.pair tL (.pair tL .unit)) tL false true (λx=>List.length x.1<=20/\Og (List.length x.2.1) x.1) (λx=>Ai x.1 x.2.1)
noncomputable abbrev Gv:Spec:=Gu (.pair tL .unit) tL false true (λx=>List.length x.1<=20/\Og (List.length x.1) x.1) (λx=>Bg x.1)
noncomputable abbrev Dj:Spec:=Gu (.pair tI .unit) tL false true (λx=>0<=x.1/\x.1<=20) (λx=>upto x.1.toNat)
noncomputable abbrev Rt:Spec:=Gu (.pair tL .unit) tL false true (λx=>Jj x.1=true) (λx=>Bg x.1)
def Au (g:List (List Int)) (l:Int):List Int:=if l>0 then g.getD (l-1).toNat [] else Bg (g.getD (-l-1).toNat [])
def Il (n:Int) (l:Int):Prop:=l≠0/\ -n<=l/\l<=n
noncomputable abbrev Jv:Spec:=Gu (.pair mE (.pair tI .unit)) tL false false (λx=>Il (List.length x.1) x.2.1/\List.length x.1<=8/\ ∀p∈x.1,Jj p=true) (λx=>Au x.1 x.2.1)
def Bi (n:Nat):List Int:=(List.range n).flatMap λ(k:Nat)=> [(k:Int)+1,-((k:Int)+1)]
noncomputable abbrev Nx:Spec:=Gu (.pair tI .unit) tL false true (λx=>0<=x.1/\x.1<=8) (λx=>Bi x.1.toNat)
noncomputable abbrev Xk:Spec:=Gu (.pair Hk (.pair tL (.pair tI .unit))) tL false true (λx=>Bm x.1=true/\List.length x.2.1<=20/\(∀y∈x.2.1,0<=y/\y<x.1.1)/\Il (List.length x.1.2.2.1) x.2.2.1) (λx=>Ai x.2.1 (Au x.1.2.2.1 x.2.2.1))
theorem wC (p q:List Int) (P:List Int->Prop):(((0:Int)<=(↑p.length:Int)/\(↑p.length:Int)<(↑Cn:Int)+(1:Int))/\(↑p.length:Int)=(↑p.length:Int)/\0=0/\(List.replicate (↑p.length:Int).toNat (Int.ofNat (nat_lit 0))).length=(List.replicate (↑p.length:Int).toNat (Int.ofNat (nat_lit 0))).length/\Dl (λ(v3:Int×List Int×PUnit) (k4:Int×List Int×PUnit->Prop)=>Br (decide (v3.1<(↑p.length:Int))) (∃(y5:Int),idx p v3.1=some y5/\ ∃(y6:Int),idx q y5=some y6/\((0:Int)<=v3.1/\v3.1<(↑v3.2.1.length:Int))/\0+v3.1.toNat<v3.2.1.length/\0=0/\v3.2.1.length=(v3.2.1.set (0+v3.1.toNat) y6).length/\k4 (IntKind.i64.wrap (v3.1+(1:Int)),v3.2.1.set (0+v3.1.toNat) y6,())) (P (List.take v3.2.1.length (List.drop 0 v3.2.1)))) ((0:Int),List.replicate (↑p.length:Int).toNat (Int.ofNat (nat_lit 0)),PUnit.unit))=fnW Fz (look []) Lf Tryz.f134 (p,q,()) P:=by kernel_rfl
theorem wD (p:List Int) (P:List Int->Prop):(((0:Int)<=(↑p.length:Int)/\(↑p.length:Int)<(↑Cn:Int)+(1:Int))/\(↑p.length:Int)=(↑p.length:Int)/\0=0/\(List.replicate (↑p.length:Int).toNat (Int.ofNat (nat_lit 0))).length=(List.replicate (↑p.length:Int).toNat (Int.ofNat (nat_lit 0))).length/\Dl (λ(v2:Int×List Int×PUnit) (k3:Int×List Int×PUnit->Prop)=>Br (decide (v2.1<(↑p.length:Int))) (∃(y4:Int),idx p v2.1=some y4/\((0:Int)<=y4/\y4<(↑v2.2.1.length:Int))/\0+y4.toNat<v2.2.1.length/\0=0/\v2.2.1.length=(v2.2.1.set (0+y4.toNat) v2.1).length/\k3 (IntKind.i64.wrap (v2.1+(1:Int)),v2.2.1.set (0+y4.toNat) v2.1,())) (P (List.take v2.2.1.length (List.drop 0 v2.2.1)))) ((0:Int),List.replicate (↑p.length:Int).toNat (Int.ofNat (nat_lit 0)),PUnit.unit))=fnW Fz (look []) Gv Tryz.f58 (p,()) P:=by kernel_rfl
theorem VD (p:List Int) (P:List Int->Prop):(((0:Int)<=(↑p.length:Int)/\(↑p.length:Int)<(↑Cn:Int)+(1:Int))/\(↑p.length:Int)=(↑p.length:Int)/\0=0/\(List.replicate (↑p.length:Int).toNat (Int.ofNat (nat_lit 0))).length=(List.replicate (↑p.length:Int).toNat (Int.ofNat (nat_lit 0))).length/\Dl (λ(v2:Int×List Int×PUnit) (k3:Int×List Int×PUnit->Prop)=>Br (decide (v2.1<(↑p.length:Int))) (∃(y4:Int),idx p v2.1=some y4/\((0:Int)<=y4/\y4<(↑v2.2.1.length:Int))/\0+y4.toNat<v2.2.1.length/\0=0/\v2.2.1.length=(v2.2.1.set (0+y4.toNat) v2.1).length/\k3 (IntKind.i64.wrap (v2.1+(1:Int)),v2.2.1.set (0+y4.toNat) v2.1,())) (P (List.take v2.2.1.length (List.drop 0 v2.2.1)))) ((0:Int),List.replicate (↑p.length:Int).toNat (Int.ofNat (nat_lit 0)),PUnit.unit))=fnW Fz (look []) Gv Tryz.f163 (p,()) P:=by kernel_rfl
theorem wJ (p:List Int) (P:List Int->Prop):(∃(y2:Bool),Jk.fn (p,())=some y2/\Br (!y2) (P (List.take 0 (List.drop 0 []))) (∃(y3:List Int),Gv.fn (p,())=some y3/\P y3))=fnW Fz (look [(162,Jk),(163,Gv)]) Rt Tryz.f125 (p,()) P:=by kernel_rfl
theorem NN (n:Int) (P:List Int->Prop):(0=0/\0=([]:List Int).length/\Dl (λ(v2:Int×List Int×PUnit) (k3:Int×List Int×PUnit->Prop)=>Br (decide (v2.1<n)) (0=0/\v2.2.1.length=v2.2.1.length/\v2.2.1.length+(List.take 1 (List.drop 0 [v2.1])).length<=Cn/\0=0/\(v2.2.1++List.take 1 (List.drop 0 [v2.1])).length=(v2.2.1++List.take 1 (List.drop 0 [v2.1])).length/\k3 (IntKind.i64.wrap (v2.1+(1:Int)),v2.2.1++List.take 1 (List.drop 0 [v2.1]),())) (P (List.take v2.2.1.length (List.drop 0 v2.2.1)))) ((0:Int),[],PUnit.unit))=fnW Fz (look []) Dj Tryz.f96 (n,()) P:=by kernel_rfl
theorem NR (g:List (List Int)) (l:Int) (P:List Int->Prop):(Br (decide (l>(0:Int))) (∃(y3:List Int),idx g (IntKind.i64.wrap (l-(1:Int)))=some y3/\P y3) (∃(y3:List Int),idx g (IntKind.i64.wrap (IntKind.i64.wrap ((0:Int)-l)-(1:Int)))=some y3/\ ∃(y4:List Int),Gv.fn (y3,())=some y4/\P y4))=fnW Fz (look [(58,Gv)]) Jv Tryz.f135 (g,l,()) P:=by kernel_rfl
theorem UY (n:Int) (P:List Int->Prop):(0=0/\0=([]:List Int).length/\Dl (λ(v2:Int×List Int×PUnit) (k3:Int×List Int×PUnit->Prop)=>Br (decide (v2.1<n)) (0=0/\v2.2.1.length=v2.2.1.length/\v2.2.1.length+(List.take 2 (List.drop 0 [IntKind.i64.wrap (v2.1+(1:Int)),IntKind.i64.wrap ((0:Int)-IntKind.i64.wrap (v2.1+(1:Int)))])).length<=Cn/\0=0/\(v2.2.1++List.take 2 (List.drop 0 [IntKind.i64.wrap (v2.1+(1:Int)),IntKind.i64.wrap ((0:Int)-IntKind.i64.wrap (v2.1+(1:Int)))])).length=(v2.2.1++List.take 2 (List.drop 0 [IntKind.i64.wrap (v2.1+(1:Int)),IntKind.i64.wrap ((0:Int)-IntKind.i64.wrap (v2.1+(1:Int)))])).length/\k3 (IntKind.i64.wrap (v2.1+(1:Int)),v2.2.1++List.take 2 (List.drop 0 [IntKind.i64.wrap (v2.1+(1:Int)),IntKind.i64.wrap ((0:Int)-IntKind.i64.wrap (v2.1+(1:Int)))]),())) (P (List.take v2.2.1.length (List.drop 0 v2.2.1)))) ((0:Int),[],PUnit.unit))=fnW Fz (look []) Nx Tryz.f139 (n,()) P:=by kernel_rfl
theorem Ab0 (p:Int×ByteArray×List (List Int)×Unit) (s:List Int) (l:Int) (P:List Int->Prop):(∃(y4:List Int),idx p.2.2.1 (IntKind.i64.wrap ((if true=true then if IntKind.i64.wrap ((0:Int)-l)>l then IntKind.i64.wrap ((0:Int)-l) else l else if IntKind.i64.wrap ((0:Int)-l)<l then IntKind.i64.wrap ((0:Int)-l) else l)-(1:Int)))=some y4/\Br (decide (l<(0:Int))) (∃(y5:List Int),Rt.fn (y4,())=some y5/\0=0/\0=([]:List Int).length/\Dl (λ(v6:Int×List Int×PUnit) (k7:Int×List Int×PUnit->Prop)=>Br (decide (v6.1<(↑s.length:Int))) (∃(y8:Int),idx s v6.1=some y8/\ ∃(y9:Int),idx y5 y8=some y9/\0=0/\v6.2.1.length=v6.2.1.length/\v6.2.1.length+(List.take 1 (List.drop 0 [y9])).length<=Cn/\0=0/\(v6.2.1++List.take 1 (List.drop 0 [y9])).length=(v6.2.1++List.take 1 (List.drop 0 [y9])).length/\k7 (IntKind.i64.wrap (v6.1+(1:Int)),v6.2.1++List.take 1 (List.drop 0 [y9]),())) (P (List.take v6.2.1.length (List.drop 0 v6.2.1)))) ((0:Int),[],PUnit.unit)) (0=0/\0=([]:List Int).length/\Dl (λ(v5:Int×List Int×PUnit) (k6:Int×List Int×PUnit->Prop)=>Br (decide (v5.1<(↑s.length:Int))) (∃(y7:Int),idx s v5.1=some y7/\ ∃(y8:Int),idx y4 y7=some y8/\0=0/\v5.2.1.length=v5.2.1.length/\v5.2.1.length+(List.take 1 (List.drop 0 [y8])).length<=Cn/\0=0/\(v5.2.1++List.take 1 (List.drop 0 [y8])).length=(v5.2.1++List.take 1 (List.drop 0 [y8])).length/\k6 (IntKind.i64.wrap (v5.1+(1:Int)),v5.2.1++List.take 1 (List.drop 0 [y8]),())) (P (List.take v5.2.1.length (List.drop 0 v5.2.1)))) ((0:Int),[],PUnit.unit)))=fnW Fz (look [(125,Rt)]) Xk Tryz.f66 (p,s,l,()) P:=by kernel_rfl
theorem La {xs:List Int} {i:Nat} (h:i<xs.length):Hu xs (i:Int)=xs[i]:=by
 unfold Hu
 rw [Aq,Ah,Ac h];rfl
theorem iY {xs:List Int} {y:Int} (h0:0<=y) (h:y<xs.length):idx xs y=some (Hu xs y):=by
 have hy:y.toNat<xs.length:=by omega
 have e:y=(y.toNat:Int):=by omega
 rw [e,Cd hy,La hy]
theorem ba (f:Nat->Nat) (g:Nat->Int) (m:Nat) (init:List Int):cN f g (m+1) init=(cN f g m init).set (f m) (g m):=by simp [cN,List.range_succ]
theorem cO (f:Nat->Nat) (g:Nat->Int) (m:Nat) (init:List Int):(cN f g m init).length=init.length:=by
 induction m with
 |zero=>rfl
 |succ m ih=>rw [ba,Dg,ih]
theorem q8 (f:Nat->Nat) (g:Nat->Int) (init:List Int): ∀(m:Nat),(∀i j,i<m->j<m->f i=f j->i=j)-> ∀i,i<m->f i<init.length->(cN f g m init)[f i]?=some (g i)
 |0,_,i,h,_=>absurd h (Gp _)
 |m+1,hf,i,hi,hl=>by
  rw [ba]
  by_cases e:i=m
  ·subst e
   exact List.getElem?_set_self (by rw [cO];exact hl)
  ·rw [List.getElem?_set_ne (λh=>e (hf i m hi (by omega) h.symm))]
   exact q8 f g init m (λa b ha hb=>hf a b (by omega) (by omega)) i (by omega) hl
structure bJ (p:List Int):Prop where
 pos:1<=p.length
 len:p.length<=20
 row:Og p.length p
 nodup:p.Nodup
theorem dE {p:List Int} (h:Jj p=true):bJ p:=by
 obtain ⟨h1,h2,h3⟩:=Ik.1 h
 refine ⟨h1,h2,λy hy=>?_,j9 λj hj=>(h3 j hj hj).2.2⟩
 obtain ⟨j,hj,rfl⟩:=Bf.1 hy
 have:=h3 j hj hj
 omega
theorem bJ.inj {p:List Int} (h:bJ p) (i j:Nat) (hi:i<p.length) (hj:j<p.length) (e:(Hu p (i:Int)).toNat=(Hu p (j:Int)).toNat):i=j:=by
 rw [La hi,La hj] at e
 have h1:=h.row _ (Ak hi)
 have h2:=h.row _ (Ak hj)
 have e:p[i]=p[j]:=by omega
 refine Bo λJd=>?_
 rcases Nat.lt_or_gt_of_ne Jd with hl|hl
 ·exact El.1 h.nodup i j hi hj hl e
 ·exact El.1 h.nodup j i hj hi hl e.symm
theorem bJ.SM {p:List Int} (h:bJ p) (k:Nat) (hk:k<p.length): ∃i,i<p.length/\(Hu p (i:Int)).toNat=k:=by
 have hm:=(dt (xs:=p) h.row).2 (uR h.nodup) k hk
 obtain ⟨i,hi,e⟩:=Bf.1 hm
 exact ⟨i,hi,by rw [La hi,e];exact Aq k⟩
theorem bJ.lt {p:List Int} (h:bJ p) {i:Nat} (hi:i<p.length):(Hu p (i:Int)).toNat<p.length:=by
 rw [La hi]
 have:=h.row _ (Ak hi)
 omega
theorem rX (p:List Int):(Bg p).length=p.length:=by unfold Bg;rw [cO,Ix]
theorem YF {p:List Int} (h:bJ p) {i:Nat} (hi:i<p.length):(Bg p)[(Hu p (i:Int)).toNat]?=some (i:Int):=
 q8 (λi=>(Hu p (i:Int)).toNat) (λi=>(i:Int)) _ p.length (λi j hi hj=>h.inj i j hi hj) i hi (by rw [Ix];exact h.lt hi)
theorem Ad2 {p:List Int} (h:bJ p):Og p.length (Bg p):=by
 intro y hy
 obtain ⟨k,hk,rfl⟩:=Bf.1 hy
 have sX:k<p.length:=by rw [rX] at hk;exact hk
 obtain ⟨i,hi,rfl⟩:=h.SM k sX
 have:=YF h hi
 rw [Ac hk] at this
 rw [Bc this]
 omega
theorem Sp (p q:List Int):(Ai p q).length=p.length:=by simp [Ai]
theorem CL {p q:List Int} {n:Nat} (hp:Og q.length p) (hq:Og n q):Og n (Ai p q):=by
 intro y hy
 obtain ⟨x,hx,rfl⟩:=Be.1 hy
 have h1:=hp x hx
 rw [show x=(x.toNat:Int) by omega,La (by omega)]
 exact hq _ (Ak _)
theorem vQ (p q:List Int) (h:p.length<=20/\Og q.length p):fnW Fz (look []) Lf Tryz.f134 (p,q,()) (λ(z:List Int)=>z=Ai p q):=by
 obtain ⟨h,hr⟩:=h
 refine Eq.mp (wC p q _) ?_
 refine ⟨⟨by omega,by show (p.length:Int)<(4294967296:Int)+1;omega⟩,rfl,rfl,rfl,?_⟩
 have Rc:=Sp p q
 refine Bw p.length (λv=>v.1) (λj v=>v.2.1.length=(Ai p q).length/\v.2.1.take j=(Ai p q).take j) rfl ⟨by rw [Rc];simp,by simp⟩ ?_
 rintro j ⟨i,ys,⟨⟩⟩ K hj hi ⟨h1,h2⟩ hK
 dsimp only at hi h1 h2⊢
 subst hi
 refine Br.dec (λhl=>?_) λhl=>?_
 ·have hl:j<p.length:=by omega
  have hy:=hr _ (Ak hl)
  refine ⟨_,Cd hl,_,iY hy.1 hy.2,⟨by omega,by omega⟩,by rw [Aq];omega,rfl,by rw [Dg],?_⟩
  rw [Bv (by omega),Aq,Bu]
  have Mb:j<(Ai p q).length:=by rw [Rc];exact hl
  have e:Hu q p[j]=(Ai p q)[j]:=by simp [Ai]
  rw [e]
  exact hK hl _ rfl ⟨by rw [Dg];exact h1,dL Mb h1 h2⟩
 ·have:j=p.length:=by omega
  subst this
  rw [<-Rc,Ax,<-h1,Ax] at h2
  rw [Ds,Ax]
  exact h2
theorem Xo:Sound Tryz.prog 134 Lf:=
 Sound.Gu Dq Bn mixed Tryz.func134 (by kernel_rfl) (by kernel_rfl) λx h=>vQ x.1 x.2.1 h
theorem vR (p:List Int) (h:p.length<=20/\Og p.length p):fnW Fz (look []) Gv Tryz.f58 (p,()) (λ(z:List Int)=>z=Bg p):=by
 obtain ⟨h,hr⟩:=h
 refine Eq.mp (wD p _) ?_
 refine ⟨⟨by omega,by show (p.length:Int)<(4294967296:Int)+1;omega⟩,rfl,rfl,rfl,?_⟩
 refine Bw p.length (λv=>v.1) (λj v=>v.2.1=cN (λi=>(Hu p (i:Int)).toNat) (λi=>(i:Int)) j (List.replicate p.length 0)) rfl rfl ?_
 rintro j ⟨i,ys,⟨⟩⟩ K hj hi h1 hK
 dsimp only at hi h1⊢
 subst hi
 have hlen:ys.length=p.length:=by rw [h1,cO,Ix]
 refine Br.dec (λhl=>?_) λhl=>?_
 ·have hl:j<p.length:=by omega
  have hy:=hr _ (Ak hl)
  refine ⟨_,Cd hl,⟨by omega,by omega⟩,by omega,rfl,by rw [Dg],?_⟩
  rw [Bv (by omega),Bu]
  refine hK hl _ rfl ?_
  rw [ba,<-h1,La hl]
 ·have:j=p.length:=by omega
  subst this
  rw [Ds,Ax]
  exact h1
theorem Sh:Sound Tryz.prog 58 Gv:=
 Sound.Gu Dq Bn mixed Tryz.func58 (by kernel_rfl) (by kernel_rfl) λx h=>vR x.1 h
theorem TF (p:List Int) (h:p.length<=20/\Og p.length p):fnW Fz (look []) Gv Tryz.f163 (p,()) (λ(z:List Int)=>z=Bg p):=by
 obtain ⟨h,hr⟩:=h
 refine Eq.mp (VD p _) ?_
 refine ⟨⟨by omega,by show (p.length:Int)<(4294967296:Int)+1;omega⟩,rfl,rfl,rfl,?_⟩
 refine Bw p.length (λv=>v.1) (λj v=>v.2.1=cN (λi=>(Hu p (i:Int)).toNat) (λi=>(i:Int)) j (List.replicate p.length 0)) rfl rfl ?_
 rintro j ⟨i,ys,⟨⟩⟩ K hj hi h1 hK
 dsimp only at hi h1⊢
 subst hi
 have hlen:ys.length=p.length:=by rw [h1,cO,Ix]
 refine Br.dec (λhl=>?_) λhl=>?_
 ·have hl:j<p.length:=by omega
  have hy:=hr _ (Ak hl)
  refine ⟨_,Cd hl,⟨by omega,by omega⟩,by omega,rfl,by rw [Dg],?_⟩
  rw [Bv (by omega),Bu]
  refine hK hl _ rfl ?_
  rw [ba,<-h1,La hl]
 ·have:j=p.length:=by omega
  subst this
  rw [Ds,Ax]
  exact h1
theorem lr:Sound Tryz.prog 163 Gv:=
 Sound.Gu Dq Bn mixed Tryz.func163 (by kernel_rfl) (by kernel_rfl) λx h=>TF x.1 h
theorem vX (p:List Int) (h:Jj p=true):fnW Fz (look [(162,Jk),(163,Gv)]) Rt Tryz.f125 (p,()) (λ(z:List Int)=>z=Bg p):=by
 have hp:=dE h
 have hs:short p:=by have:=hp.len;unfold short;omega
 refine Eq.mp (wJ p _) ⟨_,Ab hs,⟨λhe=>?_,λ_=>⟨_,Ab ⟨hp.len,hp.row⟩,rfl⟩⟩⟩
 exact absurd h (Hy he)
theorem om:Sound Tryz.prog 125 Rt:=
 Sound.Gu Dq (Aw Zm (Aw lr Bn)) mixed Tryz.func125 (by kernel_rfl) (by kernel_rfl) λx h=>vX x.1 h
theorem bG (j:Nat):upto (j+1)=upto j++ [(j:Int)]:=by simp [upto,List.range_succ]
theorem LH (n:Int) (h:0<=n/\n<=20):fnW Fz (look []) Dj Tryz.f96 (n,()) (λ(z:List Int)=>z=upto n.toNat):=by
 refine Eq.mp (NN n _) ⟨rfl,rfl,?_⟩
 refine Bw n.toNat (λv=>v.1) (λj v=>v.2.1=upto j) rfl rfl ?_
 rintro j ⟨i,ys,⟨⟩⟩ K hj hi h1 hK
 dsimp only at hi h1⊢
 subst hi h1
 refine Br.dec (λhl=>?_) λhl=>?_
 ·refine ⟨rfl,rfl,?_,rfl,rfl,?_⟩
  ·show (upto j).length+1<=4294967296
   rw [Ti];omega
  ·rw [Bv (by omega)]
   exact hK (by omega) _ rfl (bG j).symm
 ·have:j=n.toNat:=by omega
  subst this
  rw [Ds,Ax]
theorem cq:Sound Tryz.prog 96 Dj:=
 Sound.Gu Dq Bn mixed Tryz.func96 (by kernel_rfl) (by kernel_rfl) λx h=>LH x.1 h
theorem Ox {g:List (List Int)} {k:Nat} (h:k<g.length):Au g ((k:Int)+1)=g[k]:=by
 unfold Au
 rw [Ab (by omega),show ((k:Int)+1-1).toNat=k by omega,Ah,Ac h];rfl
theorem Ow {g:List (List Int)} {k:Nat} (h:k<g.length):Au g (-((k:Int)+1))=Bg g[k]:=by
 unfold Au
 rw [Aj (by omega),show (-(-((k:Int)+1))-1).toNat=k by omega,Ah,Ac h];rfl
theorem Qt {n:Nat} {l:Int} (h:Il n l): ∃k:Nat,k<n/\(l=(k:Int)+1\/l= -((k:Int)+1)):=by
 obtain ⟨h1,h2,h3⟩:=h
 by_cases h0:0<l
 ·exact ⟨(l-1).toNat,by omega, .inl (by omega)⟩
 ·exact ⟨(-l-1).toNat,by omega, .inr (by omega)⟩
theorem LL (g:List (List Int)) (l:Int) (h:Il (List.length g) l/\List.length g<=8/\ ∀p∈g,Jj p=true):fnW Fz (look [(58,Gv)]) Jv Tryz.f135 (g,l,()) (λ(z:List Int)=>z=Au g l):=by
 obtain ⟨hl,h8,hp⟩:=h
 refine Eq.mp (NR g l _) ?_
 obtain ⟨k,hk,rfl|rfl⟩:=Qt hl
 ·refine Br.dec (λ_=>?_) λhn=>by omega
  rw [Cy (by omega) (by omega),show (k:Int)+1-1=(k:Int) by omega]
  exact ⟨_,Cd hk,(Ox hk).symm⟩
 ·refine Br.dec (λhn=>by omega) λ_=>?_
  rw [Cy (n:=0- -((k:Int)+1)) (by omega) (by omega),Cy (by omega) (by omega),show (0:Int)- -((k:Int)+1)-1=(k:Int) by omega]
  have:=dE (hp _ (Ak hk))
  exact ⟨_,Cd hk,_,Ab ⟨this.len,this.row⟩,(Ow hk).symm⟩
theorem jw:Sound Tryz.prog 135 Jv:=
 Sound.Gu Dq (Aw Sh Bn) mixed Tryz.func135 (by kernel_rfl) (by kernel_rfl) λx h=>LL x.1 x.2.1 h
theorem cb (j:Nat):Bi (j+1)=Bi j++ [(j:Int)+1,-((j:Int)+1)]:=by simp [Bi,List.range_succ,List.flatMap_append]
theorem Mq (j:Nat):(Bi j).length=2*j:=by
 induction j with
 |zero=>rfl
 |succ j ih=>rw [cb,Av,ih];simp only [Ay,Fq];omega
theorem Ku {n:Nat} {l:Int} (h:l∈Bi n):Il n l:=by
 unfold Bi at h
 obtain ⟨k,hk,hl⟩:=He.1 h
 have hk:=Et.1 hk
 simp only [Bd,List.not_mem_nil,or_false] at hl
 unfold Il
 omega
theorem TA (n:Int) (h:0<=n/\n<=8):fnW Fz (look []) Nx Tryz.f139 (n,()) (λ(z:List Int)=>z=Bi n.toNat):=by
 refine Eq.mp (UY n _) ⟨rfl,rfl,?_⟩
 refine Bw n.toNat (λv=>v.1) (λj v=>v.2.1=Bi j) rfl rfl ?_
 rintro j ⟨i,ys,⟨⟩⟩ K hj hi h1 hK
 dsimp only at hi h1⊢
 subst hi h1
 refine Br.dec (λhl=>?_) λhl=>?_
 ·refine ⟨rfl,rfl,?_,rfl,rfl,?_⟩
  ·show (Bi j).length+2<=4294967296
   rw [Mq];omega
  ·have e1:IntKind.i64.wrap ((j:Int)+1)=(j:Int)+1:=Cy (by omega) (by omega)
   have e2:IntKind.i64.wrap ((0:Int)-((j:Int)+1))= -((j:Int)+1):=by rw [Cy (by omega) (by omega)];omega
   rw [e1,e2]
   exact hK (by omega) _ rfl (cb j).symm
 ·have:j=n.toNat:=by omega
  subst this
  rw [Ds,Ax]
theorem dH:Sound Tryz.prog 139 Nx:=
 Sound.Gu Dq Bn mixed Tryz.func139 (by kernel_rfl) (by kernel_rfl) λx h=>TA x.1 h
structure Valid (p:PP):Prop where
 n:1<=p.1/\p.1<=20
 kB:1<=p.2.2.1.length/\p.2.2.1.length<=8
 perm: ∀m∈p.2.2.1,Jj m=true
 len: ∀m∈p.2.2.1,(m.length:Int)=p.1
theorem valid {p:PP} (h:Bm p=true):Valid p:=by
 have h0:=NH h
 obtain ⟨h1,_,_⟩:=Ik.1 h
 obtain ⟨_,_,h4⟩:=Ik.1 h1
 exact ⟨⟨h0.1,h0.2.1⟩,h0.2.2,λm hm=>(Ik.1 (h4 m hm)).2,λm hm=>(Ik.1 (h4 m hm)).1⟩
theorem ka {p:PP} (h:Valid p) {l:Int} (hl:Il (List.length p.2.2.1) l):((Au p.2.2.1 l).length:Int)=p.1/\Og (Au p.2.2.1 l).length (Au p.2.2.1 l):=by
 obtain ⟨k,hk,rfl|rfl⟩:=Qt hl
 ·rw [Ox hk]
  exact ⟨h.len _ (Ak hk),(dE (h.perm _ (Ak hk))).row⟩
 ·rw [Ow hk,rX]
  exact ⟨h.len _ (Ak hk),Ad2 (dE (h.perm _ (Ak hk)))⟩
theorem BU (s y:List Int) (P:List Int->Prop) (h1:s.length<=20) (h2:Og y.length s) (h3:P (Ai s y)):
  Dl
   (λ(v5:Int×List Int×PUnit) (k6:Int×List Int×PUnit->Prop)=>
    Br (decide (v5.1<(↑s.length:Int)))
     (∃(y7:Int),
      idx s v5.1=some y7/\
       ∃(y8:Int),
        idx y y7=some y8/\
         (0:Nat)=(0:Nat)/\
          v5.2.1.length=v5.2.1.length/\
           v5.2.1.length+(List.take (1:Nat) (List.drop (0:Nat) [y8])).length<=Cn/\
            (0:Nat)=(0:Nat)/\
             (v5.2.1++List.take (1:Nat) (List.drop (0:Nat) [y8])).length=(v5.2.1++List.take (1:Nat) (List.drop (0:Nat) [y8])).length/\
              k6 (IntKind.i64.wrap (v5.1+(1:Int)),v5.2.1++List.take (1:Nat) (List.drop (0:Nat) [y8]),()))
     (P (List.take v5.2.1.length (List.drop (0:Nat) v5.2.1))))
   ((0:Int),([]:List Int),PUnit.unit):=by
 refine Bw s.length (λv=>v.1) (λj v=>v.2.1=(s.take j).map (Hu y)) rfl (by simp) ?_
 rintro j ⟨i,ys,⟨⟩⟩ K hj hi hR hK
 dsimp only at hi hR⊢
 subst hi hR
 refine Br.dec (λhl=>?_) λhl=>?_
 ·have hl:j<s.length:=by omega
  have hy:=h2 _ (Ak hl)
  refine ⟨_,Cd hl,_,iY hy.1 hy.2,rfl,rfl,?_,rfl,rfl,?_⟩
  ·show ((s.take j).map (Hu y)).length+1<=4294967296
   rw [Dd,De];omega
  ·rw [Bv (by omega)]
   refine hK hl _ rfl ?_
   dsimp only
   rw [Cv hl,Iy]
   rfl
 ·have:j=s.length:=by omega
  subst this
  rw [Ds,Ax,Ax]
  exact h3
theorem ZG (p:PP) (s:List Int) (l:Int) (h:Bm p=true/\List.length s<=20/\(∀y∈s,0<=y/\y<p.1)/\Il (List.length p.2.2.1) l):fnW Fz (look [(125,Rt)]) Xk Tryz.f66 (p,s,l,()) (λ(z:List Int)=>z=Ai s (Au p.2.2.1 l)):=by
 obtain ⟨hv,hs,hr,hl⟩:=h
 have hv:=valid hv
 have hf:=hv.kB
 refine Eq.mp (Ab0 p s l _) ?_
 have PB:=ka hv hl
 have bd:Og (Au p.2.2.1 l).length s:= λy hy=>by have:=hr y hy;omega
 obtain ⟨k,hk,rfl|rfl⟩:=Qt hl
 ·rw [Ab rfl,Cy (n:=0-((k:Int)+1)) (by omega) (by omega),Aj (by omega),Cy (by omega) (by omega),show (k:Int)+1-1=(k:Int) by omega]
  refine ⟨_,Cd hk,Br.dec (λhn=>by omega) λ_=>⟨rfl,rfl,?_⟩⟩
  rw [Ox hk] at bd⊢
  exact BU s _ (λz=>z=Ai s p.2.2.1[k]) hs bd rfl
 ·rw [Ab rfl,Cy (n:=0- -((k:Int)+1)) (by omega) (by omega),Ab (by omega),Cy (by omega) (by omega),show (0:Int)- -((k:Int)+1)-1=(k:Int) by omega]
  refine ⟨_,Cd hk,Br.dec (λ_=>⟨_,Ab (hv.perm _ (Ak hk)),rfl,rfl,?_⟩) λhn=>by omega⟩
  rw [Ow hk] at bd⊢
  exact BU s (Bg p.2.2.1[k]) (λz=>z=Ai s (Bg p.2.2.1[k])) hs bd rfl
theorem o9:Sound Tryz.prog 66 Xk:=
 Sound.Gu Dq (Aw om Bn) mixed Tryz.func66 (by kernel_rfl) (by kernel_rfl) λx h=>ZG x.1 x.2.1 x.2.2.1 h
abbrev rL:CK:= .row tI 2
abbrev xLL:CK:= .Ii tL 33
def low (k:Int):Prop:=0<=k/\k<=1099511627776
theorem Ch {α:Type} (xs:List α):List.take xs.length (List.drop 0 xs)=xs:=by rw [Ds,Ax]
def PW (xs:List Int):Int:=xs.foldl max (xs.headD 0)
theorem nw: ∀(xs:List Int) (a:Int),a<=xs.foldl max a/\ ∀x∈xs,x<=xs.foldl max a
 | [],a=>⟨Rb a,λx hx=>by cases hx⟩
 |y::xs,a=>by
  obtain ⟨h1,h2⟩:=nw xs (max a y)
  simp only [On]
  refine ⟨by omega,λx hx=>?_⟩
  rcases Bd.1 hx with rfl|hx
  ·omega
  ·exact h2 x hx
theorem dw: ∀(xs:List Int) (a:Int),xs.foldl max a=a\/xs.foldl max a∈xs
 | [],a=> .inl rfl
 |y::xs,a=>by
  simp only [On]
  rcases dw xs (max a y) with h|h
  ·rw [h]
   rcases Int.le_total a y with h1|h1
   ·rw [Int.max_eq_right h1];exact .inr (by simp)
   ·rw [Int.max_eq_left h1];exact .inl rfl
  ·exact .inr (An _ h)
theorem YT {xs:List Int} {x:Int} (hx:x∈xs):x<=PW xs:=(nw xs _).2 x hx
theorem xr {xs:List Int} (h:1<=xs.length):PW xs∈xs:=by
 cases xs with
 |nil=>simp at h
 |cons y xs=>
  rcases dw (y::xs) ((y::xs).headD 0) with h|h
  ·show List.foldl max _ _∈_
   rw [h];simp
  ·exact h
noncomputable abbrev ug:MSpec:=lg [none] [(false, .Ft (.oslice tI))] false [none] [rL] (λx=>short (x.1.getD [])) (λx=>((x.1.getD [],()),()))
noncomputable abbrev cm:MSpec:=lg [none] [(false, .Ft tL)] false [none] [rL] (λx=>short x.1) (λx=>((x.1,()),()))
noncomputable abbrev Ko:Spec:=Gu (.pair tL .unit) tL false true (λx=>short x.1) (λx=>x.1)
theorem Ab2 (xs:Option (List Int)) (P:((List Int×Unit)×Unit)->Prop):(Br xs.isNone (P ((List.take 0 (List.drop 0 []),()),())) (0=0/\0=([]:List Int).length/\0+(xs.getD []).length<=Cn/\P ((List.take ([]++xs.getD []).length (List.drop 0 ([]++xs.getD [])),()),())))=fnMW Ul (look []) ug Tryz.f138 (xs,()) P:=by kernel_rfl
theorem NL (xs:List Int) (P:List Int->Prop):(0=0/\0=([]:List Int).length/\0+xs.length<=Cn/\P (List.take ([]++xs).length (List.drop 0 ([]++xs))))=fnW Fz (look []) Ko Tryz.f68 (xs,()) P:=by kernel_rfl
theorem ZI (xs:Option (List Int)) (h:short (xs.getD [])):fnMW Ul (look []) ug Tryz.f138 (xs,()) (λ(z:(List Int×Unit)×Unit)=>z=((xs.getD [],()),())):=by
 unfold short at h
 refine Eq.mp (Ab2 xs _) ⟨λhn=>?_,λ_=>⟨rfl,rfl,by show 0+(xs.getD []).length<=4294967296;omega,?_⟩⟩
 ·cases xs with
  |none=>rfl
  |some y=>cases hn
 ·simp only [Ch,il]
theorem zV:Dc Tryz.prog 138 ug:=
 Dc.lg Tf Bn mixed Tryz.func138 (by kernel_rfl) (by kernel_rfl) λx h=>ZI x.1 h
theorem oa:Dc Tryz.prog 138 cm:=Dc.ofO zV λ_ _ h=>⟨h,rfl⟩
theorem LF (xs:List Int) (h:short xs):fnW Fz (look []) Ko Tryz.f68 (xs,()) (λ(z:List Int)=>z=xs):=by
 unfold short at h
 refine Eq.mp (NL xs _) ⟨rfl,rfl,by show 0+xs.length<=4294967296;omega,?_⟩
 simp only [Ch,il]
theorem cp:Sound Tryz.prog 68 Ko:=
 Sound.Gu Dq Bn mixed Tryz.func68 (by kernel_rfl) (by kernel_rfl) λx h=>LF x.1 h
theorem nP: ∀(xs:List Int) (x i:Int),x∈xs-> ∃j:Nat,Pf xs x i=i+j/\xs[j]?=some x/\ ∀k,k<j->xs[k]?≠some x
 | [],x,i,h=>by cases h
 |y::r,x,i,h=>by
  simp only [Pf]
  split
  ·rename_i hy;subst hy
   exact ⟨0,by simp,rfl,λk hk=>absurd hk (Gp _)⟩
  ·rename_i hy
   have hr:x∈r:=by
    rcases Bd.1 h with h|h
    ·exact absurd h.symm hy
    ·exact h
   obtain ⟨j,h1,h2,h3⟩:=nP r x (i+1) hr
   refine ⟨j+1,by rw [h1];omega,by simpa using h2,λk hk=>?_⟩
   rcases k with _|k
   ·simpa using hy
   ·simpa using h3 k (by omega)
def Dv (xs is:List Int):List Int:=is.map (Hu xs)
noncomputable abbrev bC:MSpec:=lg [none,none] [(false, .Ft tL),(false, .Ft tL)] false [none] [rL] (λx=>short x.2.1/\Og (List.length x.1) x.2.1) (λx=>((Dv x.1 x.2.1,()),()))
def Mp (xs:List Int):ByteArray:=bytesOf (xs.map λx=>IntKind.u8.wrap x)
noncomputable abbrev Dx:Spec:=Gu (.pair tL .unit) .str false true (λx=>short x.1) (λx=>Mp x.1)
def nZ (ps:List (List Int)) (p:List Int):Int:=Mc (λq=>decide (q=p)) ps 0
theorem VA (xs is:List Int) (P:((List Int×Unit)×Unit)->Prop):(((0:Int)<=(↑is.length:Int)/\(↑is.length:Int)<(↑Cn:Int)+(1:Int))/\(↑is.length:Int)=(↑is.length:Int)/\0=0/\(List.replicate (↑is.length:Int).toNat (Int.ofNat (nat_lit 0))).length=(List.replicate (↑is.length:Int).toNat (Int.ofNat (nat_lit 0))).length/\Dl (λ(v3:Int×List Int×PUnit) (k4:Int×List Int×PUnit->Prop)=>Br (decide (v3.1<(↑is.length:Int))) (∃(y5:Int),idx is v3.1=some y5/\ ∃(y6:Int),idx xs y5=some y6/\((0:Int)<=v3.1/\v3.1<(↑v3.2.1.length:Int))/\0+v3.1.toNat<v3.2.1.length/\0=0/\v3.2.1.length=(v3.2.1.set (0+v3.1.toNat) y6).length/\k4 (IntKind.i64.wrap (v3.1+(1:Int)),v3.2.1.set (0+v3.1.toNat) y6,())) (P ((List.take v3.2.1.length (List.drop 0 v3.2.1),()),()))) ((0:Int),List.replicate (↑is.length:Int).toNat (Int.ofNat (nat_lit 0)),PUnit.unit))=fnMW Ul (look []) bC Tryz.f79 (xs,is,()) P:=by kernel_rfl
theorem NX (xs:List Int) (P:ByteArray->Prop):(((0:Int)<=(↑xs.length:Int)/\(↑xs.length:Int)<(↑Cn:Int)+(1:Int))/\(↑xs.length:Int)=(↑xs.length:Int)/\0=0/\(List.replicate (↑xs.length:Int).toNat (Int.ofNat (nat_lit 0))).length=(List.replicate (↑xs.length:Int).toNat (Int.ofNat (nat_lit 0))).length/\Dl (λ(v2:Int×List Int×PUnit) (k3:Int×List Int×PUnit->Prop)=>Br (decide (v2.1<(↑xs.length:Int))) (∃(y4:Int),idx xs v2.1=some y4/\((0:Int)<=v2.1/\v2.1<(↑v2.2.1.length:Int))/\0+v2.1.toNat<v2.2.1.length/\0=0/\v2.2.1.length=(v2.2.1.set (0+v2.1.toNat) (IntKind.u8.wrap y4)).length/\k3 (IntKind.i64.wrap (v2.1+(1:Int)),v2.2.1.set (0+v2.1.toNat) (IntKind.u8.wrap y4),())) (P (bytesOf (List.take v2.2.1.length (List.drop 0 v2.2.1))))) ((0:Int),List.replicate (↑xs.length:Int).toNat (Int.ofNat (nat_lit 0)),PUnit.unit))=fnW Fz (look []) Dx Tryz.f121 (xs,()) P:=by kernel_rfl
theorem FX (xs is:List Int):(Dv xs is).length=is.length:=by simp [Dv]
theorem TC (xs is:List Int) (h:short is/\Og xs.length is):fnMW Ul (look []) bC Tryz.f79 (xs,is,()) (λ(z:(List Int×Unit)×Unit)=>z=((Dv xs is,()),())):=by
 obtain ⟨h,hr⟩:=h
 unfold short at h
 refine Eq.mp (VA xs is _) ?_
 refine ⟨⟨by omega,by show (is.length:Int)<(4294967296:Int)+1;omega⟩,rfl,rfl,rfl,?_⟩
 have Rc:=FX xs is
 refine Bw is.length (λv=>v.1) (λj v=>v.2.1.length=(Dv xs is).length/\v.2.1.take j=(Dv xs is).take j) rfl ⟨by rw [Rc];simp,by simp⟩ ?_
 rintro j ⟨i,ys,⟨⟩⟩ K hj hi ⟨h1,h2⟩ hK
 dsimp only at hi h1 h2⊢
 subst hi
 refine Br.dec (λhl=>?_) λhl=>?_
 ·have hl:j<is.length:=by omega
  have hy:=hr _ (Ak hl)
  refine ⟨_,Cd hl,_,iY hy.1 hy.2,⟨by omega,by omega⟩,by rw [Aq];omega,rfl,by rw [Dg],?_⟩
  rw [Bv (by omega),Aq,Bu]
  have Mb:j<(Dv xs is).length:=by rw [Rc];exact hl
  have e:Hu xs is[j]=(Dv xs is)[j]:=by simp [Dv]
  rw [e]
  exact hK hl _ rfl ⟨by rw [Dg];exact h1,dL Mb h1 h2⟩
 ·have:j=is.length:=by omega
  subst this
  rw [<-Rc,Ax,<-h1,Ax] at h2
  rw [Ds,Ax,h2]
theorem wk:Dc Tryz.prog 79 bC:=
 Dc.lg Tf Bn mixed Tryz.func79 (by kernel_rfl) (by kernel_rfl) λx h=>TC x.1 x.2.1 h
theorem LR (xs:List Int) (h:short xs):fnW Fz (look []) Dx Tryz.f121 (xs,()) (λ(z:ByteArray)=>z=Mp xs):=by
 unfold short at h
 refine Eq.mp (NX xs _) ?_
 refine ⟨⟨by omega,by show (xs.length:Int)<(4294967296:Int)+1;omega⟩,rfl,rfl,rfl,?_⟩
 have Rc:(xs.map λx=>IntKind.u8.wrap x).length=xs.length:=by simp
 refine Bw xs.length (λv=>v.1) (λj v=>v.2.1.length=(xs.map λx=>IntKind.u8.wrap x).length/\v.2.1.take j=(xs.map λx=>IntKind.u8.wrap x).take j) rfl ⟨by rw [Rc];simp,by simp⟩ ?_
 rintro j ⟨i,ys,⟨⟩⟩ K hj hi ⟨h1,h2⟩ hK
 dsimp only at hi h1 h2⊢
 subst hi
 refine Br.dec (λhl=>?_) λhl=>?_
 ·have hl:j<xs.length:=by omega
  refine ⟨_,Cd hl,⟨by omega,by omega⟩,by rw [Aq];omega,rfl,by rw [Dg],?_⟩
  rw [Bv (by omega),Aq,Bu]
  have Mb:j<(xs.map λx=>IntKind.u8.wrap x).length:=by rw [Rc];exact hl
  have e:IntKind.u8.wrap xs[j]=(xs.map λx=>IntKind.u8.wrap x)[j]:=by simp
  rw [e]
  exact hK hl _ rfl ⟨by rw [Dg];exact h1,dL Mb h1 h2⟩
 ·have:j=xs.length:=by omega
  subst this
  rw [<-Rc,Ax,<-h1,Ax] at h2
  rw [Ds,Ax,h2];rfl
theorem Px:Sound Tryz.prog 121 Dx:=
 Sound.Gu Dq Bn mixed Tryz.func121 (by kernel_rfl) (by kernel_rfl) λx h=>LR x.1 h
theorem gE {α:Type} (P:α->Bool) (y:α): ∀(l:List α) (i:Int),0<=i->Mc P (l++ [y]) i=if Mc P l i<0 then (if P y=true then i+l.length else-1) else Mc P l i
 | [],i,_=>by simp [Mc]
 |x::r,i,h=>by
  simp only [Qc,Mc,Ay]
  split
  ·rw [Aj (by omega)]
  ·rw [gE P y r (i+1) (by omega),show i+1+(r.length:Int)=i+((r.length+1:Nat):Int) by push_cast;omega]
theorem zC (ps:List (List Int)) (q p:List Int):nZ (ps++ [q]) p=if nZ ps p<0 then (if q=p then (ps.length:Int) else-1) else nZ ps p:=by
 unfold nZ
 rw [gE _ _ _ _ (Rb 0)]
 simp only [Nv,Int.zero_add]
def Ua (p:List Int):Prop:= ∀x∈p,0<=x/\x<256
theorem WC {x y:Int} (hx:0<=x/\x<256) (hy:0<=y/\y<256) (h:UInt8.ofNat (IntKind.u8.wrap x).toNat=UInt8.ofNat (IntKind.u8.wrap y).toNat):x=y:=by
 have h:=Dk UInt8.toNat h
 simp only [IntKind.wrap_u8,UInt8.toNat_ofNat'] at h
 omega
theorem bytes_inj: ∀(p q:List Int),Ua p->Ua q->(p.map λx=>UInt8.ofNat (IntKind.u8.wrap x).toNat)=(q.map λx=>UInt8.ofNat (IntKind.u8.wrap x).toNat)->p=q
 | [],[],_,_,_=>rfl
 | [],_::_,_,_,h=>by simp at h
 |_::_,[],_,_,h=>by simp at h
 |x::p,y::q,hp,hq,h=>by
  simp only [Bz,Hf] at h
  rw [WC (hp x (by simp)) (hq y (by simp)) h.1,bytes_inj p q (λz hz=>hp z (by simp [hz])) (λz hz=>hq z (by simp [hz])) h.2]
theorem key_inj {p q:List Int} (hp:Ua p) (hq:Ua q) (h:Mp p=Mp q):p=q:=by
 refine bytes_inj p q hp hq ?_
 simp only [Mp,bytesOf,ByteArray.mk.injEq,List.map_map] at h
 have h:=Dk Array.toList h
 simpa [Function.comp_def] using h
def KM (m:ByteArray->Option Int) (ps:List (List Int)):Prop:= ∀p,Ua p->m (Mp p)=if nZ ps p<0 then none else some (nZ ps p)
theorem KM.nil:KM (λ_=>none) []:= λp _=>by
 rw [Ab (by unfold nZ;simp [Mc])]
theorem KM.add {m:ByteArray->Option Int} {ps:List (List Int)} {q:List Int} (h:KM m ps) (hq:Ua q) (hn:nZ ps q<0):KM (au m (Mp q) (ps.length:Int)) (ps++ [q]):=by
 intro p hp
 rw [zC]
 unfold au
 by_cases e:p=q
 ·subst e
  rw [Ab rfl,Ab hn,Ab rfl,Aj (by omega)]
 ·rw [Aj (λhk=>e (key_inj hp hq hk)),h p hp]
  have e': ¬q=p:= λh=>e h.symm
  rw [Aj e']
  by_cases RU:nZ ps p<0
  ·rw [Ab RU,Ab RU,Ab (by decide)]
  ·rw [Aj RU,Aj RU,Aj RU]
def QB (m l:Int):Bool:=decide (l≠0/\ -m<=l/\l<=m)
def lU (n:Int):Int:=if 8<n then 8 else n
def Nc (n:Int) (w:List Int):Bool:=decide (w.length<=200)&&!(List.any w λy=>!QB (lU n) y)
noncomputable abbrev eN:Spec:=Gu (.pair tI (.pair tL .unit)) .bool false true (λx=>short x.2.1/\0<=x.1/\x.1<=4294967296) (λx=>Nc x.1 x.2.1)
theorem NQ (n:Int) (w:List Int) (P:Bool->Prop):(Br (decide ((↑w.length:Int)>(200:Int))) (P false) (Dl (λ(v3:Int×PUnit) (k4:Int×PUnit->Prop)=>Br (decide (v3.1<(↑w.length:Int))) (∃(y5:Int),idx w v3.1=some y5/\Br (y5==(0:Int)) (P false) (∃(y6:Int),idx w v3.1=some y6/\ ∃(y7:Bool),Cr.fn (y6,(-8:Int),(8:Int),())=some y7/\Br (!y7) (P false) (∃(y8:Int),idx w v3.1=some y8/\Br (decide (y8>n)) (P false) (∃(y9:Int),idx w v3.1=some y9/\Br (decide (IntKind.i64.wrap ((0:Int)-y9)>n)) (P false) (k4 (IntKind.i64.wrap (v3.1+(1:Int)),())))))) (P true)) ((0:Int),PUnit.unit)))=fnW Fz (look [(95,Cr)]) eN Tryz.f80 (n,w,()) P:=by kernel_rfl
theorem Ad7 {m l:Int} :QB m l=true↔l≠0/\ -m<=l/\l<=m:=Mo
theorem zm {n l:Int} (hn:0<=n):QB (lU n) l=true↔l≠0/\(-8<=l/\l<=8)/\l<=n/\ -l<=n:=by
 rw [Ad7];unfold lU;split<;>omega
theorem LK (n:Int) (w:List Int) (h:short w/\0<=n/\n<=4294967296):fnW Fz (look [(95,Cr)]) eN Tryz.f80 (n,w,()) (λ(z:Bool)=>z=Nc n w):=by
 refine Eq.mp (NQ n w _) (Br.dec (λhl=>?_) λhl=>?_)
 ·unfold Nc
  rw [Fu (by omega),Bool.false_and]
 ·have e0:Nc n w=!(List.any w λy=>!QB (lU n) y):=by unfold Nc;rw [Ec (by omega),Qe]
  have bad: ∀(j:Nat) (hj:j<w.length),¬(w[j]≠0/\(-8<=w[j]/\w[j]<=8)/\w[j]<=n/\ -w[j]<=n)->false=Nc n w:= λj hj hn=>by
   rw [e0]
   have:(List.any w λy=>!QB (lU n) y)=true:=Gh.2 ⟨w[j],Ak hj,by
    have:QB (lU n) w[j]=false:=Nr.2 λht=>hn ((zm h.2.1).1 ht)
    rw [this];rfl⟩
   rw [this];rfl
  refine Bw w.length (λv=>v.1) (λj _=> ∀y∈w.take j,QB (lU n) y=true) rfl (by simp) ?_
  rintro j ⟨i,⟨⟩⟩ K hj hi hR hK
  dsimp only at hi⊢
  subst hi
  refine Br.dec (λhl=>?_) λhl=>?_
  ·have hl:j<w.length:=by omega
   refine ⟨_,Cd hl,⟨λhz=>?_,λhz=>⟨_,Cd hl,_,Ab trivial,⟨λhq=>?_,λhq=>⟨_,Cd hl,Br.dec (λhg=>?_) λhg=>⟨_,Cd hl,Br.dec (λhm=>?_) λhm=>?_⟩⟩⟩⟩⟩⟩
   ·simp only [Xw] at hz
    exact bad j hl λhh=>hh.1 hz
   ·have hq:=Hy hq
    rw [Er] at hq
    exact bad j hl λhh=>hq hh.2.1
   ·exact bad j hl λhh=>absurd hh.2.2.1 (by omega)
   ·have hq:=Ih hq
    rw [Er] at hq
    dsimp only at hq
    rw [Cy (by omega) (by omega)] at hm
    exact bad j hl λhh=>absurd hh.2.2.2 (by omega)
   ·have hq:=Ih hq
    rw [Er] at hq
    dsimp only at hq
    simp only [Ob,ne_eq] at hz
    rw [Cy (by omega) (by omega)] at hm
    rw [Bv (by omega)]
    refine hK hl _ rfl ?_
    rw [Cv hl]
    intro y hy
    rcases Az.1 hy with hy|hy
    ·exact hR y hy
    ·rw [Ad.1 hy]
     exact (zm h.2.1).2 ⟨hz,hq,by omega,by omega⟩
  ·have:j=w.length:=by omega
   subst this
   rw [Ax] at hR
   rw [e0]
   have:(List.any w λy=>!QB (lU n) y)=false:=by
    refine Nr.2 λht=>?_
    obtain ⟨y,hy,h1⟩:=Gh.1 ht
    rw [hR y hy] at h1
    cases h1
   rw [this];rfl
theorem ux:Sound Tryz.prog 80 eN:=
 Sound.Gu Dq (Aw Rv Bn) mixed Tryz.func80 (by kernel_rfl) (by kernel_rfl) λx h=>LK x.1 x.2.1 h
theorem dN {n:Nat} {w:List Int} (h:Nc (n:Int) w=true):w.length<=200/\ ∀y∈w,Il n y:=by
 unfold Nc at h
 simp only [Af,Nv,Es] at h
 refine ⟨h.1,λy hy=>?_⟩
 have h1:QB (lU n) y=true:=by
  cases ho:QB (lU n) y with
  |true=>rfl
  |false=>
   have h2:(List.any w λy=>!QB (lU (n:Int)) y)=true:=Gh.2 ⟨y,hy,by rw [ho];rfl⟩
   rw [h.2] at h2;cases h2
 have:=(zm (by omega)).1 h1
 unfold Il
 omega
noncomputable abbrev Oj:Spec:=Gu (.pair Hk .unit) tL false true (λx=>List.length x.1.2.2.1<=8) (λx=>Bi (List.length x.1.2.2.1))
abbrev ou:Type:=Int×Int×ByteArray×List (List Int)×List Int×PUnit
theorem HP (p:Int×ByteArray×List (List Int)×Unit) (P:List Int->Prop):(0=0/\0=([]:List Int).length/\Dl (λ(v2:ou) (k3:ou->Prop)=>Br (decide (v2.1<=(↑v2.2.2.2.1.length:Int))) (0=0/\v2.2.2.2.2.1.length=v2.2.2.2.2.1.length/\v2.2.2.2.2.1.length+(List.take 2 (List.drop 0 [v2.1,IntKind.i64.wrap ((0:Int)-v2.1)])).length<=Cn/\0=0/\(v2.2.2.2.2.1++List.take 2 (List.drop 0 [v2.1,IntKind.i64.wrap ((0:Int)-v2.1)])).length=(v2.2.2.2.2.1++List.take 2 (List.drop 0 [v2.1,IntKind.i64.wrap ((0:Int)-v2.1)])).length/\k3 (IntKind.i64.wrap (v2.1+(1:Int)),v2.2.1,v2.2.2.1,v2.2.2.2.1,v2.2.2.2.2.1++List.take 2 (List.drop 0 [v2.1,IntKind.i64.wrap ((0:Int)-v2.1)]),())) (P (List.take v2.2.2.2.2.1.length (List.drop 0 v2.2.2.2.2.1)))) ((1:Int),p.1,p.2.1,p.2.2.1,[],PUnit.unit))=fnW Fz (look []) Oj Tryz.f65 (p,()) P:=by kernel_rfl
theorem FO (p:PP) (h:List.length p.2.2.1<=8):fnW Fz (look []) Oj Tryz.f65 (p,()) (λ(z:List Int)=>z=Bi (List.length p.2.2.1)):=by
 refine Eq.mp (HP p _) ⟨rfl,rfl,?_⟩
 refine Dl.mk (λv=> ∃j:Nat,j<=List.length p.2.2.1/\v=((j:Int)+1,p.1,p.2.1,p.2.2.1,Bi j,())) (λv=>List.length p.2.2.1+1-v.1.toNat) ⟨0,Kd _,rfl⟩ ?_
 rintro _ ⟨j,hj,rfl⟩
 dsimp only
 refine Br.dec (λhl=>?_) λhl=>?_
 ·refine ⟨rfl,rfl,?_,rfl,rfl,⟨j+1,by omega,?_⟩,?_⟩
  ·show (Bi j).length+2<=4294967296
   rw [Mq];omega
  ·rw [cb,Cy (n:=(j:Int)+1+1) (by omega) (by omega),Cy (n:=0-((j:Int)+1)) (by omega) (by omega),Int.zero_sub]
   rfl
  ·rw [Cy (by omega) (by omega)];omega
 ·have:j=List.length p.2.2.1:=by omega
  subst this
  rw [Ch]
theorem gM:Sound Tryz.prog 65 Oj:=
 Sound.Gu Dq Bn mixed Tryz.func65 (by kernel_rfl) (by kernel_rfl) λx h=>FO x.1 h
abbrev rLL:CK:= .row tL 33
def za (v:Int):List Int->Nat
 | []=>0
 |x::r=>if x>v then za v r+1 else 0
def Ad4 (v:Int) (t:List Int):Option (List Int):=if za v t=0 then none else some (Hu t ((za v t-1:Nat):Int)::(t.set (za v t-1) v).reverse)
def pc:List Int->Option (List Int)
 | []=>none
 |v::t=>match pc t with
  |some t'=>some (v::t')
  |none=>Ad4 v t
theorem EU {s s':List Int} (h:pc s=some s'): ∀pre:List Int,pc (pre++s)=some (pre++s')
 | []=>h
 |v::p=>by rw [Qc,pc,EU h p];rfl
theorem Ado {α:Type} (pre:List α) (v a:α) (t:List α):(pre++v::t).set pre.length a=pre++a::t:=by
 rw [List.set_append,Aj (by omega)];simp
inductive Run:List Int->List (List Int)->List Int->Prop where
 |one (a:List Int):Run a [a] a
 |more {a c b:List Int} {L:List (List Int)} :pc a=some c->Run c L b->Run a (a::L) b
theorem Run.cons {a b:List Int} {L:List (List Int)} (h:Run a L b) (v:Int):Run (v::a) (L.map (v:: ·)) (v::b):=by
 induction h with
 |one a=>exact .one _
 |more h3 _ ih=>exact .more (EU h3 [v]) ih
theorem Run.head {a b:List Int} {L:List (List Int)} (h:Run a L b): ∃M,L=a::M:=by
 cases h with
 |one=>exact ⟨_,rfl⟩
 |more _ _=>exact ⟨_,rfl⟩
theorem Run.at {a b:List Int} {L:List (List Int)} (h:Run a L b): ∀j (hj:j<L.length),(∀h2:j+1<L.length,pc L[j]=some L[j+1])/\(j+1=L.length->L[j]=b):=by
 induction h with
 |one a=>
  intro j hj
  simp only [Cc] at hj
  have:j=0:=by omega
  subst this
  exact ⟨λh2=>by simp at h2,λ_=>rfl⟩
 |more h3 h4 ih=>
  intro j hj
  rcases j with _|j
  ·obtain ⟨M,hM⟩:=h4.head
   refine ⟨λh2=>?_,λh2=>?_⟩
   ·simp only [List.getElem_cons_zero,List.getElem_cons_succ]
    subst hM
    exact h3
   ·subst hM;simp at h2
  ·have:=ih j (by simpa using hj)
   refine ⟨λh2=>?_,λh2=>?_⟩
   ·simp only [List.getElem_cons_succ]
    exact this.1 (by simpa using h2)
   ·simp only [List.getElem_cons_succ]
    exact this.2 (by simpa using h2)
def Fe:List Int->List Int->Int
 | [],[]=>0
 | [],_::_=> -1
 |_::_,[]=>1
 |x::a,y::b=>if x<y then-1 else if x>y then 1 else Fe a b
def fD (a b:List Int):Bool:=decide (Fe a b<0)
noncomputable abbrev Zj:Spec:=Gu (.pair tL (.pair tL .unit)) .bool false true (λx=>short x.1/\List.length x.1=List.length x.2.1) (λx=>fD x.1 x.2.1)
theorem NT (a b:List Int) (P:Bool->Prop):(Dl (λ(v3:Int×PUnit) (k4:Int×PUnit->Prop)=>Br (decide (v3.1<(↑a.length:Int))) (∃(y5:Int),idx a v3.1=some y5/\ ∃(y6:Int),idx b v3.1=some y6/\Br (y5 !=y6) (∃(y7:Int),idx a v3.1=some y7/\ ∃(y8:Int),idx b v3.1=some y8/\P (decide (y7<y8))) (k4 (IntKind.i64.wrap (v3.1+(1:Int)),()))) (P false)) ((0:Int),PUnit.unit))=fnW Fz (look []) Zj Tryz.f166 (a,b,()) P:=by kernel_rfl
theorem LN (a b:List Int) (h:short a/\a.length=b.length):fnW Fz (look []) Zj Tryz.f166 (a,b,()) (λ(z:Bool)=>z=fD a b):=by
 obtain ⟨ha,hb⟩:=h
 unfold short at ha
 refine Eq.mp (NT a b _) ?_
 refine Bw a.length (λv=>v.1) (λj _=>Fe (a.drop j) (b.drop j)=Fe a b) rfl (by simp) ?_
 rintro j ⟨i,⟨⟩⟩ K hj hi hR2 hK
 dsimp only at hi⊢
 subst hi
 refine Br.dec (λhl=>?_) λhl=>?_
 ·have hl:j<a.length:=by omega
  have hlb:j<b.length:=by omega
  rw [Fg hl,Fg hlb] at hR2
  simp only [Fe] at hR2
  refine ⟨_,Cd hl,_,Cd hlb,⟨λJd=>?_,λJd=>?_⟩⟩
  ·refine ⟨_,Cd hl,_,Cd hlb,?_⟩
   have Jd:a[j]≠b[j]:=by simpa using Jd
   unfold fD
   rw [<-hR2]
   by_cases h1:a[j]<b[j]
   ·rw [Ab h1];simp [h1]
   ·rw [Aj h1,Ab (by omega)];simp [h1]
  ·have Jd:a[j]=b[j]:=by simpa using Jd
   rw [Aj (by omega),Aj (by omega)] at hR2
   rw [Bv (by omega)]
   exact hK hl _ rfl hR2
 ·have:j=a.length:=by omega
  subst this
  rw [Qd,List.drop_eq_nil_of_le (by omega)] at hR2
  unfold fD
  rw [<-hR2]
  rfl
theorem uz:Sound Tryz.prog 166 Zj:=
 Sound.Gu Dq Bn mixed Tryz.func166 (by kernel_rfl) (by kernel_rfl) λx h=>LN x.1 x.2.1 h
abbrev SS:Type:=List (List Int)×List Int×List Int×Bool×Unit
abbrev rLS:CK:= .row tL 33
abbrev rN:CK:= .row tI 3
def Gy (L:List (List Int)) (Nk:List Int) (s:List Int):Nat:=(Nk.takeWhile λi=>fD (L.getD i.toNat []) s).length
structure Gw (m:Nat) (L:List (List Int)) (Nk:List Int):Prop where
 kB:L.length<=3000
 len: ∀x∈L,x.length=m
 short:m<=20
 perm:Nk.Perm (upto L.length)
 sorted:Nk.Pairwise λi j=>fD (L.getD i.toNat []) (L.getD j.toNat [])=true
def ld (L:List (List Int)) (s:List Int):Int:=if s∈L then (L.idxOf s:Int) else-1
def Ye (Nk:List Int) (k:Nat) (x:Int):List Int:=Nk.take k++x::Nk.drop k
noncomputable abbrev fW:Spec:=Gu (.pair bj (.pair tL .unit)) tI false true (λx=>Gw (List.length x.2.1) x.1.1 x.1.2.2.1) (λx=>(Gy x.1.1 x.1.2.2.1 x.2.1:Int))
noncomputable abbrev Xl:Spec:=Gu (.pair bj (.pair tL .unit)) tI false true (λx=>Gw (List.length x.2.1) x.1.1 x.1.2.2.1) (λx=>ld x.1.1 x.2.1)
noncomputable abbrev mC:MSpec:=lg [some 4,none,none] [(false,rLS),(false,rL),(false,rN),(false, .Ft .bool),(false, .Ft tL),(false, .Ft tI)] false [some 4] [rLS,rL,rN, .Ft .bool]
 (λx=>Gw (List.length x.2.2.2.2.1) x.1 x.2.2.1/\List.length x.2.1<=3000) (λx=>((x.1++ [x.2.2.2.2.1],x.2.1++ [x.2.2.2.2.2.1],Ye x.2.2.1 (Gy x.1 x.2.2.1 x.2.2.2.2.1) (List.length x.1),x.2.2.2.1,()),()))
def dh (L:List (List Int)):List Int:=(List.range L.length).foldl (λ(S:List Int) (i:Nat)=>Ye S (Gy (L.take i) S (L.getD i [])) (i:Int)) []
def Ht (g:List (List Int)) (x:List Int) (d:Int):List Int->List (List Int)->List Int->List (List Int)×List Int×Bool
 | [],L,D=>(L,D,true)
 |l::ls,L,D=>if Ai x (Au g l)∈L then Ht g x d ls L D else if L.length=3000 then (L,D,false) else Ht g x d ls (L++ [Ai x (Au g l)]) (D++ [d+1])
def Jz (g:List (List Int)) (ls:List Int):Nat->Nat->List (List Int)->List Int->List (List Int)×List Int×Bool
 |0,_,L,D=>(L,D,true)
 |f+1,k,L,D=>if k<L.length then (match Ht g (L.getD k []) (D.getD k 0) ls L D with
  |(L',D',true)=>Jz g ls f (k+1) L' D'
  |(L',D',false)=>(L',D',false)) else (L,D,true)
def Gd (g:List (List Int)) (s:List Int):List (List Int)×List Int×Bool:=Jz g (Bi g.length) 3001 0 [s] [0]
def Ka (g:List (List Int)) (s:List Int):SS:=((Gd g s).1,(Gd g s).2.1,dh (Gd g s).1,(Gd g s).2.2,())
noncomputable abbrev Gz:Spec:=Gu (.pair Hk (.pair tL .unit)) bj false false (λx=>Bm x.1=true/\List.length x.2.1<=20/\ ∀y∈x.2.1,0<=y/\y<x.1.1) (λx=>Ka x.1.2.2.1 x.2.1)
abbrev QM:Type:=Int×Int×List (List Int)×List Int×List Int×Bool×PUnit
theorem Aiy (f:List (List Int)×List Int×List Int×Bool×Unit) (s:List Int) (P:Int->Prop):(Dl (λ(v3:QM) (k4:QM->Prop)=>Br (decide (v3.1<v3.2.1)) ((2:Int)≠(0:Int)/\ ∃(y5:Int),idx v3.2.2.2.2.1 (IntKind.i64.wrap ((IntKind.i64.wrap (v3.1+v3.2.1)).tdiv (2:Int)))=some y5/\ ∃(y6:List Int),idx v3.2.2.1 y5=some y6/\ ∃(y7:Bool),Zj.fn (y6,s,())=some y7/\Br y7 (k4 (IntKind.i64.wrap (IntKind.i64.wrap ((IntKind.i64.wrap (v3.1+v3.2.1)).tdiv (2:Int))+(1:Int)),v3.2.1,v3.2.2.1,v3.2.2.2.1,v3.2.2.2.2.1,v3.2.2.2.2.2.1,())) (k4 (v3.1,IntKind.i64.wrap ((IntKind.i64.wrap (v3.1+v3.2.1)).tdiv (2:Int)),v3.2.2.1,v3.2.2.2.1,v3.2.2.2.2.1,v3.2.2.2.2.2.1,()))) (P v3.1)) ((0:Int),(↑f.2.2.1.length:Int),f.1,f.2.1,f.2.2.1,f.2.2.2.1,PUnit.unit))=fnW Fz (look [(166,Zj)]) fW Tryz.f129 (f,s,()) P:=by kernel_rfl
theorem Ab7 (f:List (List Int)×List Int×List Int×Bool×Unit) (s:List Int) (P:Int->Prop):(∃(y3:Int),fW.fn ((f.1,f.2.1,f.2.2.1,f.2.2.2.1,()),s,())=some y3/\Br (decide (y3<(↑f.2.2.1.length:Int))) (∃(y4:Int),idx f.2.2.1 y3=some y4/\ ∃(y5:List Int),idx f.1 y4=some y5/\ ∃(y6:Bool),Ey.fn (y5,s,())=some y6/\Br y6 (∃(y7:Int),idx f.2.2.1 y3=some y7/\P y7) (P (-1:Int))) (P (-1:Int)))=fnW Fz (look [(129,fW),(128,Ey)]) Xl Tryz.f75 (f,s,()) P:=by kernel_rfl
theorem Aix (L:List (List Int)) (D S:List Int) (b:Bool) (s:List Int) (d:Int) (P:((List (List Int)×List Int×List Int×Bool×Unit)×Unit)->Prop):(∃(y7:Int),fW.fn ((List.take L.length (List.drop 0 L),List.take D.length (List.drop 0 D),List.take S.length (List.drop 0 S),b,()),s,())=some y7/\0=0/\S.length=S.length/\S.length+(List.take 1 (List.drop 0 [(0:Int)])).length<=Cn/\((0:Int)<=IntKind.i64.wrap (y7+(1:Int))/\IntKind.i64.wrap (y7+(1:Int))<=(↑(S++List.take 1 (List.drop 0 [(0:Int)])).length:Int)/\(↑(S++List.take 1 (List.drop 0 [(0:Int)])).length:Int)<=(↑(S++List.take 1 (List.drop 0 [(0:Int)])).length:Int))/\((0:Int)<=y7/\y7<=(↑(S++List.take 1 (List.drop 0 [(0:Int)])).length:Int)/\(↑(S++List.take 1 (List.drop 0 [(0:Int)])).length:Int)<=(↑(S++List.take 1 (List.drop 0 [(0:Int)])).length:Int))/\((0:Int)<=y7/\y7<(↑(S++List.take 1 (List.drop 0 [(0:Int)])).length:Int))/\0+y7.toNat<(Dy (S++List.take 1 (List.drop 0 [(0:Int)])) (0+(IntKind.i64.wrap (y7+(1:Int))).toNat) (List.take ((↑(S++List.take 1 (List.drop 0 [(0:Int)])).length:Int).toNat-(IntKind.i64.wrap (y7+(1:Int))).toNat) (List.take ((↑(S++List.take 1 (List.drop 0 [(0:Int)])).length:Int).toNat-y7.toNat) (List.drop (0+y7.toNat) (S++List.take 1 (List.drop 0 [(0:Int)])))))).length/\0=0/\L.length=L.length/\L.length+(List.take 1 (List.drop 0 [s])).length<=Cn/\0=0/\D.length=D.length/\D.length+(List.take 1 (List.drop 0 [d])).length<=Cn/\P ((List.take (L++List.take 1 (List.drop 0 [s])).length (List.drop 0 (L++List.take 1 (List.drop 0 [s]))),List.take (D++List.take 1 (List.drop 0 [d])).length (List.drop 0 (D++List.take 1 (List.drop 0 [d]))),List.take (S++List.take 1 (List.drop 0 [(0:Int)])).length (List.drop 0 ((Dy (S++List.take 1 (List.drop 0 [(0:Int)])) (0+(IntKind.i64.wrap (y7+(1:Int))).toNat) (List.take ((↑(S++List.take 1 (List.drop 0 [(0:Int)])).length:Int).toNat-(IntKind.i64.wrap (y7+(1:Int))).toNat) (List.take ((↑(S++List.take 1 (List.drop 0 [(0:Int)])).length:Int).toNat-y7.toNat) (List.drop (0+y7.toNat) (S++List.take 1 (List.drop 0 [(0:Int)])))))).set (0+y7.toNat) (↑L.length:Int))),b,()),()))=fnMW Ul (look [(129,fW)]) mC Tryz.f164 (L,D,S,b,s,d,()) P:=by kernel_rfl
abbrev ow:Type:=Int×Int×ByteArray×List (List Int)×Bool×Bool×List (List Int)×List Int×List Int×List (List Int)×List Int×List Int×PUnit
abbrev GX:Type:=(List (List Int)×List Int×List Int×Bool×PUnit)×PUnit
theorem Ae8 (p:Int×ByteArray×List (List Int)×Unit) (s:List Int) (P:(List (List Int)×List Int×List Int×Bool×Unit)->Prop):(∃(y3:List Int),Ko.fn (s,())=some y3/\ ∃(y4:GX),mC.fn ([],[],[],false,y3,(0:Int),())=some y4/\ ∃(y5:List Int),Oj.fn ((p.1,p.2.1,p.2.2.1,()),())=some y5/\0=0/\0=([]:List Int).length/\0=0/\0=([]:List Int).length/\0=0/\0=([]:List Int).length/\0=0/\y4.1.1.length=y4.1.1.length/\0=0/\y4.1.2.1.length=y4.1.2.1.length/\0=0/\y4.1.2.2.1.length=y4.1.2.2.1.length/\Dl (λ(v6:ow) (k7:ow->Prop)=>Br (decide (v6.1<(↑v6.2.2.2.2.2.2.2.2.2.1.length:Int))) (0=0/\v6.2.2.2.2.2.2.1.length=v6.2.2.2.2.2.2.1.length/\0=0/\v6.2.2.2.2.2.2.2.1.length=v6.2.2.2.2.2.2.2.1.length/\0=0/\v6.2.2.2.2.2.2.2.2.1.length=v6.2.2.2.2.2.2.2.2.1.length/\0=0/\v6.2.2.2.2.2.2.2.2.2.1.length=v6.2.2.2.2.2.2.2.2.2.1.length/\0=0/\v6.2.2.2.2.2.2.2.2.2.2.1.length=v6.2.2.2.2.2.2.2.2.2.2.1.length/\0=0/\v6.2.2.2.2.2.2.2.2.2.2.2.1.length=v6.2.2.2.2.2.2.2.2.2.2.2.1.length/\Dl (λ(v8:ow) (k9:ow->Prop)=>Br (decide (v8.1<(↑y5.length:Int))) (((0:Int)<=v6.1/\v6.1<(↑v8.2.2.2.2.2.2.2.2.2.1.length:Int))/\ ∃(Ki:List Int),v8.2.2.2.2.2.2.2.2.2.1[0+v6.1.toNat]?=some Ki/\ ∃(Jp:Int),idx y5 v8.1=some Jp/\ ∃(Jf:List Int),Xk.fn ((v8.2.1,v8.2.2.1,v8.2.2.2.1,()),Ki,Jp,())=some Jf/\ ∃(Ja:Int),Xl.fn ((List.take v8.2.2.2.2.2.2.2.2.2.1.length (List.drop 0 v8.2.2.2.2.2.2.2.2.2.1),List.take v8.2.2.2.2.2.2.2.2.2.2.1.length (List.drop 0 v8.2.2.2.2.2.2.2.2.2.2.1),List.take v8.2.2.2.2.2.2.2.2.2.2.2.1.length (List.drop 0 v8.2.2.2.2.2.2.2.2.2.2.2.1),v8.2.2.2.2.2.1,()),Jf,())=some Ja/\Br (decide (Ja>=(0:Int))) (0=0/\v8.2.2.2.2.2.2.1.length=v8.2.2.2.2.2.2.1.length/\0=0/\v8.2.2.2.2.2.2.2.1.length=v8.2.2.2.2.2.2.2.1.length/\0=0/\v8.2.2.2.2.2.2.2.2.1.length=v8.2.2.2.2.2.2.2.2.1.length/\0=0/\v8.2.2.2.2.2.2.2.2.2.1.length=v8.2.2.2.2.2.2.2.2.2.1.length/\0=0/\v8.2.2.2.2.2.2.2.2.2.2.1.length=v8.2.2.2.2.2.2.2.2.2.2.1.length/\0=0/\v8.2.2.2.2.2.2.2.2.2.2.2.1.length=v8.2.2.2.2.2.2.2.2.2.2.2.1.length/\k9 (IntKind.i64.wrap (v8.1+(1:Int)),v8.2.1,v8.2.2.1,v8.2.2.2.1,v8.2.2.2.2.1,v8.2.2.2.2.2.1,v8.2.2.2.2.2.2.1,v8.2.2.2.2.2.2.2.1,v8.2.2.2.2.2.2.2.2.1,v8.2.2.2.2.2.2.2.2.2.1,v8.2.2.2.2.2.2.2.2.2.2.1,v8.2.2.2.2.2.2.2.2.2.2.2.1,())) (Br ((↑v8.2.2.2.2.2.2.2.2.2.1.length:Int)==(3000:Int)) (P (List.take v8.2.2.2.2.2.2.2.2.2.1.length (List.drop 0 v8.2.2.2.2.2.2.2.2.2.1),List.take v8.2.2.2.2.2.2.2.2.2.2.1.length (List.drop 0 v8.2.2.2.2.2.2.2.2.2.2.1),List.take v8.2.2.2.2.2.2.2.2.2.2.2.1.length (List.drop 0 v8.2.2.2.2.2.2.2.2.2.2.2.1),v8.2.2.2.2.2.1,())) (((0:Int)<=v6.1/\v6.1<(↑v8.2.2.2.2.2.2.2.2.2.2.1.length:Int))/\ ∃(Ie:Int),v8.2.2.2.2.2.2.2.2.2.2.1[0+v6.1.toNat]?=some Ie/\0=0/\v8.2.2.2.2.2.2.2.2.2.1.length=v8.2.2.2.2.2.2.2.2.2.1.length/\0=0/\v8.2.2.2.2.2.2.2.2.2.2.1.length=v8.2.2.2.2.2.2.2.2.2.2.1.length/\0=0/\v8.2.2.2.2.2.2.2.2.2.2.2.1.length=v8.2.2.2.2.2.2.2.2.2.2.2.1.length/\ ∃(Hx:GX),mC.fn (v8.2.2.2.2.2.2.2.2.2.1,v8.2.2.2.2.2.2.2.2.2.2.1,v8.2.2.2.2.2.2.2.2.2.2.2.1,v8.2.2.2.2.2.1,Jf,IntKind.i64.wrap (Ie+(1:Int)),())=some Hx/\0=0/\v8.2.2.2.2.2.2.1.length=v8.2.2.2.2.2.2.1.length/\0=0/\v8.2.2.2.2.2.2.2.1.length=v8.2.2.2.2.2.2.2.1.length/\0=0/\v8.2.2.2.2.2.2.2.2.1.length=v8.2.2.2.2.2.2.2.2.1.length/\0=0/\Hx.1.1.length=Hx.1.1.length/\0=0/\Hx.1.2.1.length=Hx.1.2.1.length/\0=0/\Hx.1.2.2.1.length=Hx.1.2.2.1.length/\k9 (IntKind.i64.wrap (v8.1+(1:Int)),v8.2.1,v8.2.2.1,v8.2.2.2.1,v8.2.2.2.2.1,Hx.1.2.2.2.1,v8.2.2.2.2.2.2.1,v8.2.2.2.2.2.2.2.1,v8.2.2.2.2.2.2.2.2.1,Hx.1.1,Hx.1.2.1,Hx.1.2.2.1,())))) (0=0/\v8.2.2.2.2.2.2.1.length=v8.2.2.2.2.2.2.1.length/\0=0/\v8.2.2.2.2.2.2.2.1.length=v8.2.2.2.2.2.2.2.1.length/\0=0/\v8.2.2.2.2.2.2.2.2.1.length=v8.2.2.2.2.2.2.2.2.1.length/\0=0/\v8.2.2.2.2.2.2.2.2.2.1.length=v8.2.2.2.2.2.2.2.2.2.1.length/\0=0/\v8.2.2.2.2.2.2.2.2.2.2.1.length=v8.2.2.2.2.2.2.2.2.2.2.1.length/\0=0/\v8.2.2.2.2.2.2.2.2.2.2.2.1.length=v8.2.2.2.2.2.2.2.2.2.2.2.1.length/\k7 (IntKind.i64.wrap (v6.1+(1:Int)),v8.2.1,v8.2.2.1,v8.2.2.2.1,v8.2.2.2.2.1,v8.2.2.2.2.2.1,v8.2.2.2.2.2.2.1,v8.2.2.2.2.2.2.2.1,v8.2.2.2.2.2.2.2.2.1,v8.2.2.2.2.2.2.2.2.2.1,v8.2.2.2.2.2.2.2.2.2.2.1,v8.2.2.2.2.2.2.2.2.2.2.2.1,()))) ((0:Int),v6.2.1,v6.2.2.1,v6.2.2.2.1,v6.2.2.2.2.1,v6.2.2.2.2.2.1,v6.2.2.2.2.2.2.1,v6.2.2.2.2.2.2.2.1,v6.2.2.2.2.2.2.2.2.1,v6.2.2.2.2.2.2.2.2.2.1,v6.2.2.2.2.2.2.2.2.2.2.1,v6.2.2.2.2.2.2.2.2.2.2.2.1,PUnit.unit)) (P (List.take v6.2.2.2.2.2.2.2.2.2.1.length (List.drop 0 v6.2.2.2.2.2.2.2.2.2.1),List.take v6.2.2.2.2.2.2.2.2.2.2.1.length (List.drop 0 v6.2.2.2.2.2.2.2.2.2.2.1),List.take v6.2.2.2.2.2.2.2.2.2.2.2.1.length (List.drop 0 v6.2.2.2.2.2.2.2.2.2.2.2.1),true,()))) ((0:Int),p.1,p.2.1,p.2.2.1,false,y4.1.2.2.2.1,[],[],[],y4.1.1,y4.1.2.1,y4.1.2.2.1,PUnit.unit))=fnW Aim (look [(68,Ko),(164,mC),(65,Oj),(66,Xk),(75,Xl)]) Gz Tryz.f126 (p,s,()) P:=by kernel_rfl
theorem sC: ∀ {a b:List Int},Fe a b=0↔a=b
 | [],[]=>by simp [Fe]
 | [],_::_=>by simp [Fe]
 |_::_,[]=>by simp [Fe]
 |x::a,y::b=>by
  simp only [Fe,Hf]
  by_cases h1:x<y
  ·rw [Ab h1]
   exact ⟨λh=>by omega,λh=>by omega⟩
  ·rw [Aj h1]
   by_cases h2:x>y
   ·rw [Ab h2]
    exact ⟨λh=>by omega,λh=>by omega⟩
   ·rw [Aj h2,sC]
    exact ⟨λh=>⟨by omega,h⟩,λh=>h.2⟩
theorem OJ: ∀(a b:List Int),Fe b a= -Fe a b
 | [],[]=>by simp [Fe]
 | [],_::_=>by simp [Fe]
 |_::_,[]=>by simp [Fe]
 |x::a,y::b=>by
  simp only [Fe]
  rcases Int.lt_trichotomy x y with h1|h1|h1
  ·simp [h1,show ¬y<x by omega]
  ·subst h1
   simp [OJ a b]
  ·simp [h1,show ¬x<y by omega]
theorem wY: ∀ {a b c:List Int},Fe a b<0->Fe b c<0->Fe a c<0
 | [],[],_,h,_=>by simp [Fe] at h
 |_::_,[],_,h,_=>by simp [Fe] at h
 |_,_::_,[],_,h=>by simp [Fe] at h
 | [],_::_,_::_,_,_=>by simp [Fe]
 |x::a,y::b,z::c,h1,h2=>by
  simp only [Fe] at h1 h2⊢
  by_cases e1:x<y
  ·by_cases e2:y<z
   ·rw [Ab (by omega)];omega
   ·rw [Aj e2] at h2
    by_cases e3:y>z
    ·rw [Ab e3] at h2;omega
    ·rw [Ab (by omega)];omega
  ·rw [Aj e1] at h1
   by_cases e2:x>y
   ·rw [Ab e2] at h1;omega
   ·rw [Aj e2] at h1
    by_cases e3:y<z
    ·rw [Ab (by omega)];omega
    ·rw [Aj e3] at h2
     by_cases e4:y>z
     ·rw [Ab e4] at h2;omega
     ·rw [Aj e4] at h2
      rw [Aj (by omega),Aj (by omega)]
      exact wY h1 h2
theorem lt_iff {a b:List Int} :fD a b=true↔Fe a b<0:=Mo
theorem SF {a b c:List Int} (h1:fD a b=true) (h2:fD b c=true):fD a c=true:=lt_iff.2 (wY (lt_iff.1 h1) (lt_iff.1 h2))
theorem mg (a:List Int):fD a a=false:=by
 have:Fe a a=0:=sC.2 rfl
 unfold fD;rw [this];rfl
theorem YR {a b:List Int} (h:fD a b=false) (Jd:a≠b):fD b a=true:=by
 rw [lt_iff,OJ a b]
 have h1: ¬Fe a b<0:= λh'=>by rw [lt_iff.2 h'] at h;cases h
 have h2:Fe a b≠0:= λh'=>Jd (sC.1 h')
 omega
theorem ly {α:Type} (q:α->Bool): ∀(l:List α),l.Pairwise (λi j=>q j=true->q i=true)-> ∀k (hk:k<l.length),k<(l.takeWhile q).length↔q l[k]=true
 | [],_,k,hk=>by simp at hk
 |a::l,h,k,hk=>by
  obtain ⟨h1,h2⟩:=List.pairwise_cons.1 h
  by_cases ha:q a=true
  ·rw [List.takeWhile_cons_of_pos ha]
   rcases k with _|k
   ·simpa using ha
   ·simp only [Ay,List.getElem_cons_succ,Nat.add_lt_add_iff_right]
    exact ly q l h2 k (by simpa using hk)
  ·rw [List.takeWhile_cons_of_neg ha]
   simp only [Fq,Gp,false_iff]
   rcases k with _|k
   ·exact ha
   ·simp only [List.getElem_cons_succ]
    exact λhq=>ha (h1 _ (Ak _) hq)
theorem Gw.tu {m:Nat} {L:List (List Int)} {Nk:List Int} (h:Gw m L Nk):Nk.length=L.length:=by rw [h.perm.length_eq,Ti]
theorem Gw.idx {m:Nat} {L:List (List Int)} {Nk:List Int} (h:Gw m L Nk) {k:Nat} (hk:k<Nk.length):0<=Nk[k]/\Nk[k]<L.length:=Oi.1 (h.perm.mem_iff.1 (Ak hk))
theorem Gw.eO {m:Nat} {L:List (List Int)} {Nk:List Int} (h:Gw m L Nk) (s:List Int) {k:Nat} (hk:k<Nk.length):k<Gy L Nk s↔fD (L.getD Nk[k].toNat []) s=true:=
 ly _ Nk (h.sorted.imp λkD hj=>SF kD hj) k hk
theorem QG (L:List (List Int)) (Nk s:List Int):Gy L Nk s<=Nk.length:=(List.takeWhile_sublist _).length_le
theorem Gw.inj {m:Nat} {L:List (List Int)} {Nk:List Int} (h:Gw m L Nk) {i j:Nat} (hi:i<L.length) (hj:j<L.length) (e:L[i]=L[j]):i=j:=by
 have mem: ∀i,i<L.length->(i:Int)∈Nk:= λi hi=>h.perm.mem_iff.2 (Oi.2 ⟨by omega,by omega⟩)
 obtain ⟨p,hp,ep⟩:=Bf.1 (mem i hi)
 obtain ⟨q,hq,eq⟩:=Bf.1 (mem j hj)
 have get: ∀i (hi:i<L.length),L.getD ((i:Int)).toNat []=L[i]:= λi hi=>by rw [Aq,Ah,Ac hi];rfl
 rcases Nat.lt_trichotomy p q with h1|h1|h1
 ·have:=El.1 h.sorted p q hp hq h1
  rw [ep,eq,get i hi,get j hj,e,mg] at this
  cases this
 ·subst h1
  rw [ep] at eq
  omega
 ·have:=El.1 h.sorted q p hq hp h1
  rw [ep,eq,get i hi,get j hj,e,mg] at this
  cases this
theorem Uu {L:List (List Int)} {k:Nat} (h:k<L.length):L.getD k []=L[k]:=by rw [Ah,Ac h];rfl
theorem Gw.yr {m:Nat} {L:List (List Int)} {Nk:List Int} (h:Gw m L Nk) {s:List Int} :
  (∃hk:Gy L Nk s<Nk.length,L.getD Nk[Gy L Nk s].toNat []=s/\ld L s=Nk[Gy L Nk s])\/(ld L s= -1/\ ∀hk:Gy L Nk s<Nk.length,L.getD Nk[Gy L Nk s].toNat []≠s):=by
 by_cases hm:s∈L
 ·left
  obtain ⟨j,hj,rfl⟩:=Bf.1 hm
  obtain ⟨p,hp,ep⟩:=Bf.1 (h.perm.mem_iff.2 (Oi.2 ⟨by omega,by omega⟩):(j:Int)∈Nk)
  have gj:L.getD Nk[p].toNat []=L[j]:=by rw [ep,Aq,Uu hj]
  have hs:Gy L Nk L[j]=p:=by
   have h1: ¬p<Gy L Nk L[j]:= λh1=>by
    have:=(h.eO L[j] hp).1 h1
    rw [gj,mg] at this;cases this
   have h2: ¬Gy L Nk L[j]<p:= λh2=>by
    have h3:=(h.eO L[j] (k:=Gy L Nk L[j]) (by omega)).2 (by
     have:=El.1 h.sorted (Gy L Nk L[j]) p (by omega) hp h2
     rw [gj] at this;exact this)
    omega
   omega
  have hx:L.idxOf L[j]=j:=by
   have h1:L.idxOf L[j]<L.length:=List.idxOf_lt_length_of_mem hm
   exact h.inj h1 hj (List.getElem_idxOf h1)
  refine ⟨by omega,?_,?_⟩
  ·simp only [hs];exact gj
  ·unfold ld
   rw [Ab hm,hx]
   simp only [hs];exact ep.symm
 ·right
  refine ⟨by unfold ld;rw [Aj hm],λhk e=>hm ?_⟩
  have hi:=h.idx hk
  rw [Uu (by omega)] at e
  rw [<-e]
  exact Ak _
theorem YE (Nk:List Int) (k:Nat) (x:Int):(Ye Nk k x).Perm (x::Nk):=by
 unfold Ye
 refine List.perm_middle.trans (List.Perm.cons x ?_)
 rw [Kf]
theorem Gw.add {m:Nat} {L:List (List Int)} {Nk s:List Int} (h:Gw m L Nk) (hn:s∉L) (hl:s.length=m) (hr:L.length<3000):Gw m (L++ [s]) (Ye Nk (Gy L Nk s) L.length):=by
 have DC: ∀i∈Nk,(L++ [s]).getD i.toNat []=L.getD i.toNat []:= λi hi=>by
  have:=Oi.1 (h.perm.mem_iff.1 hi)
  rw [Ah,Ah,As (by omega)]
 have Ak1:(L++ [s]).getD ((L.length:Int)).toNat []=s:=by
  rw [Aq,Ah,Ar (by omega),Nat.sub_self];rfl
 refine ⟨by rw [Av,Cc];omega,λx hx=>?_,h.short,?_,?_⟩
 ·rcases Az.1 hx with hx|hx
  ·exact h.len x hx
  ·rw [Ad.1 hx];exact hl
 ·refine (YE _ _ _).trans ?_
  rw [Av,Cc,bG]
  exact (List.Perm.cons _ h.perm).trans (List.perm_append_singleton _ _).symm
 ·unfold Ye
  have hs:=h.sorted
  rw [<-Kf (Gy L Nk s) Nk] at hs
  obtain ⟨s1,s2,s3⟩:=List.pairwise_append.1 hs
  have mt: ∀i∈Nk.take (Gy L Nk s),i∈Nk/\fD (L.getD i.toNat []) s=true:= λi hi=>by
   obtain ⟨k,hk,rfl⟩:=Bf.1 hi
   have hk2:k<Gy L Nk s:=by rw [De] at hk;omega
   have hk3:k<Nk.length:=by rw [De] at hk;omega
   rw [List.getElem_take]
   exact ⟨Ak _,(h.eO s hk3).1 hk2⟩
  have md: ∀i∈Nk.drop (Gy L Nk s),i∈Nk/\fD s (L.getD i.toNat [])=true:= λi hi=>by
   obtain ⟨k,hk,rfl⟩:=Bf.1 hi
   rw [List.length_drop] at hk
   have hk3:Gy L Nk s+k<Nk.length:=by omega
   rw [List.getElem_drop]
   refine ⟨Ak _,YR ?_ λe=>hn ?_⟩
   ·exact Nr.2 λhh=>by
     have:=(h.eO s hk3).2 hh
     omega
   ·have hi:=h.idx hk3
    rw [Uu (by omega)] at e
    rw [<-e];exact Ak _
  refine List.pairwise_append.2 ⟨s1.imp_of_mem λ {a b} ha hb vC=>?_,List.pairwise_cons.2 ⟨λb hb=>?_,s2.imp_of_mem λ {a b} ha hb vC=>?_⟩,λa ha b hb=>?_⟩
  ·rw [DC a (mt a ha).1,DC b (mt b hb).1];exact vC
  ·rw [Ak1,DC b (md b hb).1];exact (md b hb).2
  ·rw [DC a (md a ha).1,DC b (md b hb).1];exact vC
  ·rcases Bd.1 hb with rfl|hb
   ·rw [Ak1,DC a (mt a ha).1];exact (mt a ha).2
   ·rw [DC a (mt a ha).1,DC b (md b hb).1];exact s3 a ha b hb
theorem fZ (L:List (List Int)) (s:List Int):dh (L++ [s])=Ye (dh L) (Gy L (dh L) s) L.length:=by
 unfold dh
 rw [Av,Cc,List.range_succ,cG]
 have e: ∀(is:List Nat) (S:List Int),(∀i∈is,i<L.length)->is.foldl (λ(S:List Int) (i:Nat)=>Ye S (Gy ((L++ [s]).take i) S ((L++ [s]).getD i [])) (i:Int)) S=is.foldl (λ(S:List Int) (i:Nat)=>Ye S (Gy (L.take i) S (L.getD i [])) (i:Int)) S:=by
  intro is
  induction is with
  |nil=>intro S _;rfl
  |cons i is ih=>
   intro S h
   have hi:=h i (by simp)
   rw [On,On,ih _ λj hj=>h j (An _ hj)]
   congr 2
   rw [List.take_append_of_le_length (by omega),Ah,As hi,<-Ah]
 rw [e _ _ λi hi=>Et.1 hi]
 simp only [On,List.foldl_nil]
 congr 2
 ·rw [List.take_append_of_le_length (Ap _),Ax]
 ·rw [Ah,Ar (by omega),Nat.sub_self];rfl
theorem o7 {m:Nat} (h:m<=20):Gw m [] []:=⟨by simp,λx hx=>(by cases hx),h,by simp [upto],List.Pairwise.nil⟩
theorem YC {α:Type} {xs:List α} {y:Int} (h0:0<=y) (h:y.toNat<xs.length):idx xs y=some xs[y.toNat]:=by
 unfold idx
 rw [Ab h0,Ac h]
theorem Aia (f:SS) (s:List Int) (h:Gw s.length f.1 f.2.2.1):fnW Fz (look [(166,Zj)]) fW Tryz.f129 (f,s,()) (λ(z:Int)=>z=(Gy f.1 f.2.2.1 s:Int)):=by
 obtain ⟨L,D,Nk,b,⟨⟩⟩:=f
 dsimp only at h⊢
 have hle:=QG L Nk s
 have JT:=h.tu
 have nB:=h.kB
 refine Eq.mp (Aiy (L,D,Nk,b,()) s _) ?_
 refine Dl.mk (λv=>v.2.2.1=L/\v.2.2.2.2.1=Nk/\ ∃lo hi:Nat,v.1=lo/\v.2.1=hi/\lo<=hi/\hi<=Nk.length/\lo<=Gy L Nk s/\Gy L Nk s<=hi) (λv=>(v.2.1-v.1).toNat)
  ⟨rfl,rfl,0,Nk.length,rfl,rfl,by omega,by omega,by omega,hle⟩ ?_
 rintro ⟨lo',mI,L',D',UF,b',⟨⟩⟩ ⟨h1,h2,lo,hi,h3,h4,h5,h6,h7,h8⟩
 dsimp only at h1 h2 h3 h4⊢
 subst h1 h2 h3 h4
 refine Br.dec (λhl=>?_) λhl=>?_
 ·have em:IntKind.i64.wrap ((IntKind.i64.wrap ((lo:Int)+(hi:Int))).tdiv 2)=(((lo+hi)/2:Nat):Int):=by
   rw [Cy (n:=(lo:Int)+(hi:Int)) (by omega) (by omega),Int.tdiv_eq_ediv_of_nonneg (by omega),Cy (by omega) (by omega)]
   omega
  rw [em]
  have hm1:(lo+hi)/2<UF.length:=by omega
  have hi1:=h.idx hm1
  have hi2:UF[(lo+hi)/2].toNat<L'.length:=by omega
  have hgd:=Uu hi2
  have hlen:=h.len _ (Ak hi2)
  have IE:short L'[UF[(lo+hi)/2].toNat]:=by
   unfold short
   have:=h.short;omega
  refine ⟨by decide,_,Cd hm1,_,YC hi1.1 hi2,_,Ab ⟨IE,hlen⟩,⟨λhc=>?_,λhc=>?_⟩⟩
  ·have hc:fD L'[UF[(lo+hi)/2].toNat] s=true:=hc
   have hs:=(h.eO s hm1).2 (by rw [hgd];exact hc)
   rw [Bv (by omega)]
   exact ⟨⟨rfl,rfl,(lo+hi)/2+1,hi,rfl,rfl,by omega,h6,by omega,h8⟩,by omega⟩
  ·have hc:fD L'[UF[(lo+hi)/2].toNat] s=false:=hc
   have hs: ¬(lo+hi)/2<Gy L' UF s:= λhh=>by
    have:=(h.eO s hm1).1 hh
    rw [hgd,hc] at this;cases this
   exact ⟨⟨rfl,rfl,lo,(lo+hi)/2,rfl,rfl,by omega,by omega,h7,by omega⟩,by omega⟩
 ·show (lo:Int)=_
  omega
theorem uD:Sound Tryz.prog 129 fW:=
 Sound.Gu Dq (Aw uz Bn) mixed Tryz.func129 (by kernel_rfl) (by kernel_rfl) λx h=>Aia x.1 x.2.1 h
theorem ZN (f:SS) (s:List Int) (h:Gw s.length f.1 f.2.2.1):fnW Fz (look [(129,fW),(128,Ey)]) Xl Tryz.f75 (f,s,()) (λ(z:Int)=>z=ld f.1 s):=by
 obtain ⟨L,D,Nk,b,⟨⟩⟩:=f
 dsimp only at h⊢
 refine Eq.mp (Ab7 (L,D,Nk,b,()) s _) ⟨_,Ab h,Br.dec (λhl=>?_) λhl=>?_⟩
 ·have hl:Gy L Nk s<Nk.length:=by
   have hl:((Gy L Nk s:Nat):Int)<(Nk.length:Int):=hl
   omega
  have hi1:=h.idx hl
  have hi2:Nk[Gy L Nk s].toNat<L.length:=by omega
  have hgd:=Uu hi2
  have hlen:=h.len _ (Ak hi2)
  have IE:short L[Nk[Gy L Nk s].toNat]:=by
   unfold short
   have:=h.short;omega
  refine ⟨_,Cd hl,_,YC hi1.1 hi2,_,Ab IE,⟨λhc=>⟨_,Cd hl,?_⟩,λhc=>?_⟩⟩
  ·have hc:L[Nk[Gy L Nk s].toNat]=s:=Ls hc
   rcases h.yr (s:=s) with ⟨hk,_,e⟩|⟨_,Jd⟩
   ·exact e.symm
   ·exact absurd (by rw [hgd];exact hc) (Jd hl)
  ·have hc: ¬L[Nk[Gy L Nk s].toNat]=s:=of_decide_eq_false hc
   rcases h.yr (s:=s) with ⟨hk,e,_⟩|⟨e,_⟩
   ·rw [hgd] at e;exact absurd e hc
   ·exact e.symm
 ·have hl: ¬Gy L Nk s<Nk.length:=by
   have hl: ¬((Gy L Nk s:Nat):Int)<(Nk.length:Int):=hl
   omega
  rcases h.yr (s:=s) with ⟨hk,e,_⟩|⟨e,_⟩
  ·exact absurd hk hl
  ·exact e.symm
theorem oh:Sound Tryz.prog 75 Xl:=
 Sound.Gu Dq (Aw uD (Aw ru Bn)) mixed Tryz.func75 (by kernel_rfl) (by kernel_rfl) λx h=>ZN x.1 x.2.1 h
theorem KD {S:List Int} {k:Nat} (h:k<=S.length) (n:Int):
  (Dy (S++ [0]) (k+1) (List.take ((S++ [0]).length-(k+1)) (List.take ((S++ [0]).length-k) (List.drop k (S++ [0]))))).set k n=Ye S k n:=by
 obtain ⟨A,B,rfl,hA⟩: ∃A B,S=A++B/\A.length=k:=⟨S.take k,S.drop k,(Kf k S).symm,by rw [De];omega⟩
 subst hA
 have e1:List.drop A.length (A++B++ [0])=B++ [0]:=by rw [Co,List.drop_left]
 have e2:List.take ((A++B++ [0]).length-A.length) (B++ [0])=B++ [0]:=List.take_of_length_le (by simp only [Av,Cc];omega)
 have e3:List.take ((A++B++ [0]).length-(A.length+1)) (B++ [0])=B:=by
  have:(A++B++ [(0:Int)]).length-(A.length+1)=B.length:=by simp only [Av,Cc];omega
  rw [this,List.take_left]
 rw [e1,e2,e3]
 unfold Dy Ye
 have e4:List.drop (A.length+1+B.length) (A++B++ [0])= []:=List.drop_eq_nil_of_le (by simp only [Av,Cc];omega)
 obtain ⟨c,hc⟩: ∃c,List.take (A.length+1) (A++B++ [0])=A++ [c]:=by
  rw [Co,List.take_append,List.take_of_length_le (by omega)]
  cases B with
  |nil=>exact ⟨0,by simp⟩
  |cons b B=>exact ⟨b,by simp⟩
 rw [e4,hc,List.append_nil,Co,List.singleton_append,Ado,List.take_left,List.drop_left]
theorem Ai9 (L:List (List Int)) (D S:List Int) (b:Bool) (s:List Int) (d:Int) (h:Gw s.length L S/\D.length<=3000):
  fnMW Ul (look [(129,fW)]) mC Tryz.f164 (L,D,S,b,s,d,()) (λ(z:(List (List Int)×List Int×List Int×Bool×Unit)×Unit)=>z=((L++ [s],D++ [d],Ye S (Gy L S s) L.length,b,()),())):=by
 obtain ⟨h,hD⟩:=h
 have hle:=QG L S s
 have JT:=h.tu
 have nB:=h.kB
 refine Eq.mp (Aix L D S b s d _) ?_
 rw [Ch L,Ch D,Ch S]
 refine ⟨_,Ab h,?_⟩
 dsimp only
 have es:List.take 1 (List.drop 0 [(0:Int)])= [0]:=rfl
 have el:(S++ [(0:Int)]).length=S.length+1:=by simp
 rw [es,Bv (by omega),Bu,Bu,Aq,Aq,Aq]
 refine ⟨rfl,rfl,by show S.length+1<=4294967296;omega,⟨by omega,by omega,by omega⟩,⟨by omega,by omega,by omega⟩,⟨by omega,by omega⟩,?_,rfl,rfl,by show L.length+1<=4294967296;omega,rfl,rfl,by show D.length+1<=4294967296;omega,?_⟩
 ·unfold Dy
  simp only [Av,De,List.length_drop,Cc]
  omega
 ·rw [KD hle,Ch,Ch]
  have e5:List.take (S++ [(0:Int)]).length (List.drop 0 (Ye S (Gy L S s) (L.length:Int)))=Ye S (Gy L S s) (L.length:Int):=by
   rw [Ds,List.take_of_length_le]
   unfold Ye
   simp only [Av,Ay,De,List.length_drop,Fq]
   omega
  rw [e5]
  rfl
theorem MV:Dc Tryz.prog 164 mC:=
 Dc.lg Tf (Aw uD Bn) mixed Tryz.func164 (by kernel_rfl) (by kernel_rfl) λx h=>Ai9 x.1 x.2.1 x.2.2.1 x.2.2.2.1 x.2.2.2.2.1 x.2.2.2.2.2.1 h
structure Tw (p:PP) (m:Nat) (L:List (List Int)) (D:List Int):Prop where
 ok:Gw m L (dh L)
 len:D.length=L.length
 row: ∀x∈L,∀y∈x,0<=y/\y<p.1
 dep: ∀j (h:j<D.length),0<=D[j]/\D[j]<=j
theorem nV {p:PP} (hv:Valid p) {x:List Int} {l:Int} (hx: ∀y∈x,0<=y/\y<p.1) (hl:Il (List.length p.2.2.1) l):
  (Ai x (Au p.2.2.1 l)).length=x.length/\ ∀y∈Ai x (Au p.2.2.1 l),0<=y/\y<p.1:=by
 obtain ⟨h1,h2⟩:=ka hv hl
 refine ⟨Sp _ _,λy hy=>?_⟩
 have:=CL (n:=(Au p.2.2.1 l).length) (λz hz=>by have:=hx z hz;omega) h2 y hy
 omega
theorem Tw.add {p:PP} {m:Nat} {L:List (List Int)} {D:List Int} (h:Tw p m L D) {y:List Int} {d:Int} (hn:y∉L) (hl:y.length=m) (hr:L.length<3000) (hy: ∀z∈y,0<=z/\z<p.1) (hd:0<=d/\d<=L.length):Tw p m (L++ [y]) (D++ [d]):=by
 have hlen:=h.len
 refine ⟨by rw [fZ];exact h.ok.add hn hl hr,by simp [hlen],λx hx=>?_,λj hj=>?_⟩
 ·rcases Az.1 hx with hx|hx
  ·exact h.row x hx
  ·rw [Ad.1 hx];exact hy
 ·by_cases e:j<D.length
  ·rw [Lz e];exact h.dep j e
  ·simp only [Av,Cc] at hj
   have:j=D.length:=by omega
   subst this
   rw [List.getElem_append_right (by omega)]
   simp only [Nat.sub_self,List.getElem_cons_zero]
   omega
theorem dT {p:PP} {s:List Int} (hs:s.length<=20) (hr: ∀y∈s,0<=y/\y<p.1):Tw p s.length [s] [0]:=by
 refine ⟨?_,rfl,λx hx=>by rw [Ad.1 hx];exact hr,λj hj=>?_⟩
 ·have:=(o7 hs).add (s:=s) (by simp) rfl (by simp)
  have e:dh [s]=Ye [] (Gy [] [] s) 0:=fZ [] s
  rw [e];exact this
 ·simp only [Cc] at hj
  have:j=0:=by omega
  subst this
  simp
theorem xt {L:List (List Int)} {s:List Int} :ld L s>=0↔s∈L:=by
 unfold ld
 split
 ·rename_i h;exact ⟨λ_=>h,λ_=>by omega⟩
 ·rename_i h;exact ⟨λhh=>by omega,λhh=>absurd hh h⟩
theorem Adj (p:PP) (s:List Int) (h:Bm p=true/\s.length<=20/\ ∀y∈s,0<=y/\y<p.1):fnW Aim (look [(68,Ko),(164,mC),(65,Oj),(66,Xk),(75,Xl)]) Gz Tryz.f126 (p,s,()) (λ(z:SS)=>z=Ka p.2.2.1 s):=by
 obtain ⟨hv,hs,hr⟩:=h
 have hV:=valid hv
 have nB:=hV.kB
 have hb0:=dT hs hr
 have IE:short s:=by unfold short;omega
 obtain ⟨ls,re⟩: ∃ls,Bi (List.length p.2.2.1)=ls:=⟨_,rfl⟩
 refine Eq.mp (Ae8 p s _) ⟨_,Ab IE,_,Ab ⟨o7 hs,by show 0<=3000;omega⟩,ls,(Ab (by show List.length p.2.2.1<=8;exact nB.2)).trans (Dk some re),rfl,rfl,rfl,rfl,rfl,rfl,rfl,rfl,rfl,rfl,rfl,rfl,?_⟩
 have e0:Ye [] (Gy [] [] s) ((([]:List (List Int)).length:Nat):Int)=dh [s]:=(fZ [] s).symm
 show Dl _ ((0:Int),p.1,p.2.1,p.2.2.1,false,false,[],[],[],[s],[(0:Int)],Ye [] (Gy [] [] s) ((([]:List (List Int)).length:Nat):Int),PUnit.unit)
 rw [e0]
 have XK:ls.length<=16:=by rw [<-re,Mq];omega
 have nE: ∀l∈ls,Il (List.length p.2.2.1) l:= λl hl=>Ku (re▸hl)
 have td:Jz p.2.2.1 ls 3001 0 [s] [0]=Gd p.2.2.1 s:=by unfold Gd;rw [re]
 refine Dl.mk (λv=>v.2.1=p.1/\v.2.2.1=p.2.1/\v.2.2.2.1=p.2.2.1/\v.2.2.2.2.2.1=false/\ ∃k:Nat,v.1=k/\k<=v.2.2.2.2.2.2.2.2.2.1.length/\
   Tw p s.length v.2.2.2.2.2.2.2.2.2.1 v.2.2.2.2.2.2.2.2.2.2.1/\v.2.2.2.2.2.2.2.2.2.2.2.1=dh v.2.2.2.2.2.2.2.2.2.1/\
   Jz p.2.2.1 ls (3001-k) k v.2.2.2.2.2.2.2.2.2.1 v.2.2.2.2.2.2.2.2.2.2.1=Gd p.2.2.1 s) (λv=>3001-v.1.toNat)
  ⟨rfl,rfl,rfl,rfl,0,rfl,by simp,hb0,rfl,td⟩ ?_
 rintro ⟨k',n1,n2,n3,b0,wh,x1,x2,x3,L0,D0,S0,⟨⟩⟩ ⟨h1,h2,h3,h4,k,h5,h6,h7,h8,h9⟩
 dsimp only at h1 h2 h3 h4 h5 h6 h7 h8 h9
 subst h1 h2 h3 h4 h5 h8
 dsimp only
 have WQ:=h7.ok.kB
 have hD0:=h7.len
 refine Br.dec (λhl=>⟨rfl,rfl,rfl,rfl,rfl,rfl,rfl,rfl,rfl,rfl,rfl,rfl,?_⟩) λhl=>?_
 ·have hk:k<L0.length:=by omega
  have DM:k<D0.length:=by omega
  have hx: ∀y∈L0[k],0<=y/\y<p.1:=h7.row _ (Ak hk)
  have hxl:L0[k].length=s.length:=h7.ok.len _ (Ak hk)
  have hdk:=h7.dep k DM
  obtain ⟨f,hf⟩: ∃f,3001-k=f+1:=⟨3000-k,by omega⟩
  have hgo: ∀L' D' ok,Ht p.2.2.1 L0[k] D0[k] ls L0 D0=(L',D',ok)->Gd p.2.2.1 s=if ok=true then Jz p.2.2.1 ls f (k+1) L' D' else (L',D',false):=by
   intro L' D' ok he
   rw [<-h9,hf,Jz,Ab hk,Uu hk,Ah,Ac DM]
   simp only [Ct]
   rw [he]
   cases ok<;>rfl
  refine Dl.mk (λv=>v.2.1=p.1/\v.2.2.1=p.2.1/\v.2.2.2.1=p.2.2.1/\v.2.2.2.2.2.1=false/\ ∃i:Nat,v.1=i/\i<=ls.length/\Tw p s.length v.2.2.2.2.2.2.2.2.2.1 v.2.2.2.2.2.2.2.2.2.2.1/\
    v.2.2.2.2.2.2.2.2.2.2.2.1=dh v.2.2.2.2.2.2.2.2.2.1/\(∃A,v.2.2.2.2.2.2.2.2.2.1=L0++A)/\(∃A,v.2.2.2.2.2.2.2.2.2.2.1=D0++A)/\
    Ht p.2.2.1 L0[k] D0[k] (ls.drop i) v.2.2.2.2.2.2.2.2.2.1 v.2.2.2.2.2.2.2.2.2.2.1=Ht p.2.2.1 L0[k] D0[k] ls L0 D0) (λv=>ls.length-v.1.toNat)
   ⟨rfl,rfl,rfl,rfl,0,rfl,Kd _,h7,rfl,⟨[],by simp⟩,⟨[],by simp⟩,rfl⟩ ?_
  rintro ⟨i',m1,m2,m3,b1,wh1,y1,y2,y3,L,D,S,⟨⟩⟩ ⟨g1,g2,g3,g4,i,g5,g6,g7,g8,⟨A,g9⟩,⟨A',g10⟩,r6⟩
  dsimp only at g1 g2 g3 g4 g5 g6 g7 g8 g9 g10 r6
  subst g1 g2 g3 g4 g5 g8
  dsimp only
  have hLf:=g7.ok.kB
  have hDl:=g7.len
  rw [Ch L,Ch D,Ch (dh L)]
  refine Br.dec (λhli=>?_) λhli=>?_
  ·have hi:i<ls.length:=by omega
   have XH:k<L.length:=by rw [g9,Av];omega
   have hLk:L[k]=L0[k]:=by simp only [g9];exact Lz hk
   have XG:k<D.length:=by rw [hDl];exact XH
   have hDk:D[k]=D0[k]:=by simp only [g10];exact Lz DM
   have r8:=nE _ (Ak hi)
   obtain ⟨nl,nr⟩:=nV hV hx r8
   rw [Fg hi] at r6
   simp only [Ht] at r6
   refine ⟨⟨by omega,by omega⟩,L0[k],by rw [Aq,Bu,Ac XH,hLk],_,Cd hi,_,Ab ⟨hv,by show L0[k].length<=20;omega,hx,r8⟩,?_⟩
   dsimp only
   have hyl:(Ai L0[k] (Au p.2.2.1 ls[i])).length=s.length:=by rw [nl,hxl]
   refine ⟨_,Ab (by show Gw (Ai L0[k] (Au p.2.2.1 ls[i])).length L (dh L);rw [hyl];exact g7.ok),Br.dec (λaL=>?_) λaL=>?_⟩
   ·have aL:Ai L0[k] (Au p.2.2.1 ls[i])∈L:=xt.1 aL
    rw [Ab aL] at r6
    rw [Bv (by omega)]
    exact ⟨rfl,rfl,rfl,rfl,rfl,rfl,rfl,rfl,rfl,rfl,rfl,rfl,⟨rfl,rfl,rfl,rfl,i+1,rfl,hi,g7,rfl,⟨A,g9⟩,⟨A',g10⟩,r6⟩,by omega⟩
   ·have aL:Ai L0[k] (Au p.2.2.1 ls[i])∉L:= λhh=>aL (xt.2 hh)
    rw [Aj aL] at r6
    refine ⟨λVu=>?_,λVu=>⟨⟨by omega,by omega⟩,D0[k],by rw [Aq,Bu,Ac XG,hDk],rfl,rfl,rfl,rfl,rfl,rfl,?_⟩⟩
    ·have Vu:L.length=3000:=by
      have:(L.length:Int)=3000:=by simpa using Vu
      omega
     rw [Ab Vu] at r6
     have:=hgo _ _ _ r6.symm
     rw [Aj (by decide)] at this
     unfold Ka
     rw [this]
    ·have Vu:L.length≠3000:=by
      have:(L.length:Int)≠3000:=by simpa using Vu
      omega
     rw [Aj Vu] at r6
     rw [Cy (n:=D0[k]+1) (by omega) (by omega)]
     refine ⟨_,Ab ⟨by show Gw (Ai L0[k] (Au p.2.2.1 ls[i])).length L (dh L);rw [hyl];exact g7.ok,by show D.length<=3000;omega⟩,?_⟩
     dsimp only
     rw [Bv (by omega),<-fZ]
     refine ⟨rfl,rfl,rfl,rfl,rfl,rfl,rfl,rfl,rfl,rfl,rfl,rfl,⟨rfl,rfl,rfl,rfl,i+1,rfl,hi,g7.add aL hyl (by omega) nr ⟨by omega,by omega⟩,rfl,⟨A++ [Ai L0[k] (Au p.2.2.1 ls[i])],by rw [g9,Co]⟩,⟨A'++ [D0[k]+1],by rw [g10,Co]⟩,r6⟩,by omega⟩
  ·have:i=ls.length:=by omega
   subst this
   rw [Qd,Ht] at r6
   have:=hgo _ _ _ r6.symm
   rw [Ab rfl] at this
   rw [Bv (by omega)]
   refine ⟨rfl,rfl,rfl,rfl,rfl,rfl,rfl,rfl,rfl,rfl,rfl,rfl,⟨rfl,rfl,rfl,rfl,k+1,rfl,by rw [g9,Av];omega,g7,rfl,?_⟩,by omega⟩
   rw [show 3001-(k+1)=f by omega]
   exact this.symm
 ·have hk:k=L0.length:=by omega
  rw [Ch L0,Ch D0,Ch (dh L0)]
  obtain ⟨f,hf⟩: ∃f,3001-k=f+1:=⟨3000-k,by omega⟩
  rw [hf,Jz,Aj (by omega)] at h9
  unfold Ka
  rw [<-h9]
theorem qH:Sound Tryz.prog 126 Gz:=
 Sound.Gu Ain (Aw cp (Fv MV (Aw gM (Aw o9 (Aw oh Bn))))) mixed Tryz.func126 (by kernel_rfl) (by kernel_rfl) λx h=>Adj x.1 x.2.1 h
noncomputable def Ep (p:PP) (t:List Int):Bool:=Bm p&&Ql p.1 t
noncomputable def Gk (p:PP) (t:List Int):Bool:=Ep p t&&(Gd p.2.2.1 t).2.2
noncomputable abbrev Jr:Spec:=Gu (.pair Hk (.pair tL .unit)) .bool false true (λx=>Dp x.1/\short x.2.1) (λx=>Ep x.1 x.2.1)
noncomputable def Qm (p:PP) (t:List Int):SS:=if Ep p t=true then Ka p.2.2.1 t else ([],[],[],false,())
noncomputable abbrev We:Spec:=Gu (.pair Hk (.pair tL .unit)) (.pair bj (.pair .bool .unit)) true false (λx=>Dp x.1/\short x.2.1) (λx=>(Qm x.1 x.2.1,Gk x.1 x.2.1,()))
noncomputable abbrev Te:Spec:=Gu (.pair mE .unit) mE false true (λx=>Pj x.1) (λx=>x.1)
noncomputable def Eo (p:PP) (t:List Int):TT:=if Gk p t=true then (t,(Gd p.2.2.1 t).1,(Gd p.2.2.1 t).2.1,()) else ([],[],[],())
noncomputable abbrev Dh:Spec:=Gu (.pair Hk (.pair tL .unit)) (.pair cy (.pair .bool .unit)) true true (λx=>Dp x.1/\short x.2.1) (λx=>(Eo x.1 x.2.1,Gk x.1 x.2.1,()))
noncomputable abbrev Zi:MSpec:=lg [some 3,none] [(false, .Ft tI),(false, .Ft .str),(false, .Ft mE),(false, .Ft tL)] true [none,none,none] [xLL,rL, .Ft .bool]
 (λx=>Ep (x.1,x.2.1,x.2.2.1,()) x.2.2.2.1=true) (λx=>(((Eo (x.1,x.2.1,x.2.2.1,()) x.2.2.2.1).2.1,(Eo (x.1,x.2.1,x.2.2.1,()) x.2.2.2.1).2.2.1,Gk (x.1,x.2.1,x.2.2.1,()) x.2.2.2.1,()),()))
noncomputable abbrev Zk:MSpec:=lg [some 3,none] [(false, .Ft tI),(false, .Ft .str),(false, .Ft mE),(false, .Ft tL)] true [none,none,none] [xLL,rL, .Ft .bool]
 (λx=>Dp (x.1,x.2.1,x.2.2.1,())/\short x.2.2.2.1) (λx=>(((Eo (x.1,x.2.1,x.2.2.1,()) x.2.2.2.1).2.1,(Eo (x.1,x.2.1,x.2.2.1,()) x.2.2.2.1).2.2.1,Gk (x.1,x.2.1,x.2.2.1,()) x.2.2.2.1,()),()))
noncomputable abbrev Wd:MSpec:=lg [some 3,none] [(false, .Ft tI),(false, .Ft .str),(false, .Ft mE),(false, .Ft tL)] true [some 3,none] [rL,xLL,rL, .Ft .bool]
 (λx=>Dp (x.1,x.2.1,x.2.2.1,())/\short x.2.2.2.1) (λx=>(((Eo (x.1,x.2.1,x.2.2.1,()) x.2.2.2.1).1,(Eo (x.1,x.2.1,x.2.2.1,()) x.2.2.2.1).2.1,(Eo (x.1,x.2.1,x.2.2.1,()) x.2.2.2.1).2.2.1,Gk (x.1,x.2.1,x.2.2.1,()) x.2.2.2.1,()),()))
noncomputable def Gl (p:PP) (t:TT):Bool:=Gk p t.1&&lb (Eo p t.1) t
noncomputable abbrev eM:Spec:=Gu (.pair Hk (.pair cy .unit)) .bool false true (λx=>Dp x.1/\aG x.2.1) (λx=>Gl x.1 x.2.1)
abbrev tTS:Ty:= .slice cy
def Lw (ts:List TT):Prop:=ts.length<=4294967296/\ ∀t∈ts,aG t
noncomputable def Dw (p:PP) (ts:List TT):Bool:=Bm p&&decide (ts.length<=4)&&List.all ts (Gl p)
noncomputable abbrev Qz:Spec:=Gu (.pair Hk (.pair tTS .unit)) .bool false true (λx=>Dp x.1/\Lw x.2.1) (λx=>Dw x.1 x.2.1)
abbrev An8:Ty:= .clo 119 (.pair (.ptr Hk) .unit)
noncomputable abbrev xR:Spec:=Gu (.pair cy (.pair (.ptr Hk) .unit)) .bool false true (λx=>aG x.1/\Dp x.2.1) (λx=>!Gl x.2.1 x.1)
def Sx (q:TT->Bool):List TT->Int->Int
 | [],_=> -1
 |t::ts,k=>if q t=true then k else Sx q ts (k+1)
noncomputable abbrev pE:Spec:=Gu (.pair tTS (.pair An8 .unit)) tI false true (λx=>Lw x.1/\Dp x.2.1.1) (λx=>Sx (λt=>!Gl x.2.1.1 t) x.1 0)
noncomputable abbrev pB:Spec:=Gu (.pair tTS (.pair An8 .unit)) .bool false true (λx=>Lw x.1/\Dp x.2.1.1) (λx=>List.any x.1 (λt=>!Gl x.2.1.1 t))
theorem wF (p:Int×ByteArray×List (List Int)×Unit) (t:List Int) (P:Bool->Prop):(∃(y3:Bool),Ge.fn ((p.1,p.2.1,p.2.2.1,()),())=some y3/\Br y3 (∃(y4:Bool),Kv.fn (p.1,t,())=some y4/\P y4) (P false))=fnW Fz (look [(99,Ge),(101,Kv)]) Jr Tryz.f77 (p,t,()) P:=by kernel_rfl
theorem wL (p:Int×ByteArray×List (List Int)×Unit) (t:List Int) (P:Bool->Prop):(∃(y3:Bool),Ge.fn ((p.1,p.2.1,p.2.2.1,()),())=some y3/\Br y3 (∃(y4:Bool),Kv.fn (p.1,t,())=some y4/\P y4) (P false))=fnW Fz (look [(63,Ge),(137,Kv)]) Jr Tryz.f86 (p,t,()) P:=by kernel_rfl
theorem HS (p:Int×ByteArray×List (List Int)×Unit) (t:List Int) (P:((List (List Int)×List Int×List Int×Bool×Unit)×Bool×Unit)->Prop):(∃(y3:Bool),Jr.fn ((p.1,p.2.1,p.2.2.1,()),t,())=some y3/\Br (!y3) (P ((List.take 0 (List.drop 0 []),List.take 0 (List.drop 0 []),List.take 0 (List.drop 0 []),false,()),false,())) (∃(y4:List (List Int)×List Int×List Int×Bool×PUnit),Gz.fn ((p.1,p.2.1,p.2.2.1,()),t,())=some y4/\((P ((y4.1,y4.2.1,y4.2.2.1,y4.2.2.2.1,()),y4.2.2.2.1,())/\P ((y4.1,y4.2.1,y4.2.2.1,y4.2.2.2.1,()),y4.2.2.2.1,()))/\P ((y4.1,y4.2.1,y4.2.2.1,y4.2.2.2.1,()),y4.2.2.2.1,()))/\(P ((y4.1,y4.2.1,y4.2.2.1,y4.2.2.2.1,()),y4.2.2.2.1,())/\P ((y4.1,y4.2.1,y4.2.2.1,y4.2.2.2.1,()),y4.2.2.2.1,()))/\P ((y4.1,y4.2.1,y4.2.2.1,y4.2.2.2.1,()),y4.2.2.2.1,())))=fnW Fz (look [(86,Jr),(126,Gz)]) We Tryz.f67 (p,t,()) P:=by kernel_rfl
theorem HI (l:List (List Int)) (P:List (List Int)->Prop):(0=0/\0=([]:List Int).length/\Dl (λ(v2:Int×List (List Int)×PUnit) (k3:Int×List (List Int)×PUnit->Prop)=>Br (decide (v2.1<(↑l.length:Int))) (∃(y4:List Int),idx l v2.1=some y4/\ ∃(y5:List Int),Ko.fn (y4,())=some y5/\0=0/\v2.2.1.length=v2.2.1.length/\v2.2.1.length+(List.take 1 (List.drop 0 [y5])).length<=Cn/\0=0/\(v2.2.1++List.take 1 (List.drop 0 [y5])).length=(v2.2.1++List.take 1 (List.drop 0 [y5])).length/\k3 (IntKind.i64.wrap (v2.1+(1:Int)),v2.2.1++List.take 1 (List.drop 0 [y5]),())) (P (List.take v2.2.1.length (List.drop 0 v2.2.1)))) ((0:Int),[],PUnit.unit))=fnW Fz (look [(68,Ko)]) Te Tryz.f69 (l,()) P:=by kernel_rfl
theorem HT (p:Int×ByteArray×List (List Int)×Unit) (t:List Int) (P:((List Int×List (List Int)×List Int×Unit)×Bool×Unit)->Prop):(∃(y3:(List (List Int)×List Int×List Int×Bool×PUnit)×Bool×PUnit),We.fn ((p.1,p.2.1,p.2.2.1,()),t,())=some y3/\Br (!y3.2.1) (P ((List.take 0 (List.drop 0 []),List.take 0 (List.drop 0 []),List.take 0 (List.drop 0 []),()),false,())) (∃(y4:List Int),Ko.fn (t,())=some y4/\ ∃(y5:List (List Int)),Te.fn (y3.1.1,())=some y5/\ ∃(y6:List Int),Ko.fn (y3.1.2.1,())=some y6/\P ((y4,y5,y6,()),true,())))=fnW Fz (look [(67,We),(68,Ko),(69,Te)]) Dh Tryz.f24 (p,t,()) P:=by kernel_rfl
abbrev dj:Type:=Int×List (List Int)×List (List Int)×List Int×(ByteArray->Option Bool)×PUnit
abbrev qM:Type:=Int×Int×ByteArray×List (List Int)×List (List Int)×List (List Int)×List Int×(ByteArray->Option Bool)×PUnit
theorem NS (n:Int) (str:ByteArray) (g:List (List Int)) (t:List Int) (P:((List (List Int)×List Int×Bool×Unit)×Unit)->Prop):(∃(y5:(List Int×PUnit)×PUnit),cm.fn (t,())=some y5/\ ∃(y6:ByteArray),Dx.fn (t,())=some y6/\ ∃(y7:List Int),Nx.fn ((↑g.length:Int),())=some y7/\0=0/\1= [List.take y5.1.1.length (List.drop 0 y5.1.1)].length/\0=0/\1= [(0:Int)].length/\0=0/\0=([]:List Int).length/\Dl (λ(v8:qM) (k9:qM->Prop)=>Br (decide (v8.1<(↑y7.length:Int))) (∃(Ki:Int),idx y7 v8.1=some Ki/\ ∃(Jp:List Int),Jv.fn (v8.2.2.2.1,Ki,())=some Jp/\0=0/\v8.2.2.2.2.1.length=v8.2.2.2.2.1.length/\v8.2.2.2.2.1.length+(List.take 1 (List.drop 0 [Jp])).length<=Cn/\0=0/\v8.2.2.2.2.2.1.length=v8.2.2.2.2.2.1.length/\0=0/\v8.2.2.2.2.2.2.1.length=v8.2.2.2.2.2.2.1.length/\0=0/\(v8.2.2.2.2.1++List.take 1 (List.drop 0 [Jp])).length=(v8.2.2.2.2.1++List.take 1 (List.drop 0 [Jp])).length/\k9 (IntKind.i64.wrap (v8.1+(1:Int)),v8.2.1,v8.2.2.1,v8.2.2.2.1,v8.2.2.2.2.1++List.take 1 (List.drop 0 [Jp]),v8.2.2.2.2.2.1,v8.2.2.2.2.2.2.1,v8.2.2.2.2.2.2.2.1,())) (0=0/\v8.2.2.2.2.2.1.length=v8.2.2.2.2.2.1.length/\0=0/\v8.2.2.2.2.2.2.1.length=v8.2.2.2.2.2.2.1.length/\0=0/\v8.2.2.2.2.1.length=v8.2.2.2.2.1.length/\Dl (λ(v10:dj) (k11:dj->Prop)=>Br (decide (v10.1<(↑v10.2.2.1.length:Int))) (0=0/\v10.2.2.1.length=v10.2.2.1.length/\0=0/\v10.2.2.2.1.length=v10.2.2.2.1.length/\0=0/\v10.2.1.length=v10.2.1.length/\0=0/\v10.2.1.length=v10.2.1.length/\Dl (λ(Oz:dj) (k13:dj->Prop)=>Br (decide (Oz.1<(↑v10.2.1.length:Int))) (((0:Int)<=Oz.1/\Oz.1<(↑Oz.2.1.length:Int))/\ ∃(Ie:List Int),Oz.2.1[0+Oz.1.toNat]?=some Ie/\((0:Int)<=v10.1/\v10.1<(↑Oz.2.2.1.length:Int))/\ ∃(Hx:List Int),Oz.2.2.1[0+v10.1.toNat]?=some Hx/\ ∃(Gb:(List Int×PUnit)×PUnit),bC.fn (Ie,Hx,())=some Gb/\ ∃(Ez:ByteArray),Dx.fn (List.take Gb.1.1.length (List.drop 0 Gb.1.1),())=some Ez/\Br (!(Oz.2.2.2.2.1 Ez).getD false) (Br ((↑Oz.2.2.1.length:Int)==(3000:Int)) (P ((List.take 0 (List.drop 0 []),List.take 0 (List.drop 0 []),false,()),())) (0=0/\Oz.2.2.1.length=Oz.2.2.1.length/\Oz.2.2.1.length+(List.take 1 (List.drop 0 [List.take Gb.1.1.length (List.drop 0 Gb.1.1)])).length<=Cn/\((0:Int)<=v10.1/\v10.1<(↑Oz.2.2.2.1.length:Int))/\ ∃(bn:Int),Oz.2.2.2.1[0+v10.1.toNat]?=some bn/\0=0/\Oz.2.2.2.1.length=Oz.2.2.2.1.length/\Oz.2.2.2.1.length+(List.take 1 (List.drop 0 [IntKind.i64.wrap (bn+(1:Int))])).length<=Cn/\0=0/\(Oz.2.2.1++List.take 1 (List.drop 0 [List.take Gb.1.1.length (List.drop 0 Gb.1.1)])).length=(Oz.2.2.1++List.take 1 (List.drop 0 [List.take Gb.1.1.length (List.drop 0 Gb.1.1)])).length/\0=0/\(Oz.2.2.2.1++List.take 1 (List.drop 0 [IntKind.i64.wrap (bn+(1:Int))])).length=(Oz.2.2.2.1++List.take 1 (List.drop 0 [IntKind.i64.wrap (bn+(1:Int))])).length/\0=0/\Oz.2.1.length=Oz.2.1.length/\0=0/\Oz.2.1.length=Oz.2.1.length/\k13 (IntKind.i64.wrap (Oz.1+(1:Int)),Oz.2.1,Oz.2.2.1++List.take 1 (List.drop 0 [List.take Gb.1.1.length (List.drop 0 Gb.1.1)]),Oz.2.2.2.1++List.take 1 (List.drop 0 [IntKind.i64.wrap (bn+(1:Int))]),au Oz.2.2.2.2.1 Ez true,()))) (0=0/\Oz.2.2.1.length=Oz.2.2.1.length/\0=0/\Oz.2.2.2.1.length=Oz.2.2.2.1.length/\0=0/\Oz.2.1.length=Oz.2.1.length/\0=0/\Oz.2.1.length=Oz.2.1.length/\k13 (IntKind.i64.wrap (Oz.1+(1:Int)),Oz.2.1,Oz.2.2.1,Oz.2.2.2.1,Oz.2.2.2.2.1,()))) (0=0/\Oz.2.2.1.length=Oz.2.2.1.length/\0=0/\Oz.2.2.2.1.length=Oz.2.2.2.1.length/\0=0/\Oz.2.1.length=Oz.2.1.length/\k11 (IntKind.i64.wrap (v10.1+(1:Int)),Oz.2.1,Oz.2.2.1,Oz.2.2.2.1,Oz.2.2.2.2.1,()))) ((0:Int),v10.2.1,v10.2.2.1,v10.2.2.2.1,v10.2.2.2.2.1,PUnit.unit)) (P ((List.take v10.2.2.1.length (List.drop 0 v10.2.2.1),List.take v10.2.2.2.1.length (List.drop 0 v10.2.2.2.1),true,()),()))) ((0:Int),v8.2.2.2.2.1,v8.2.2.2.2.2.1,v8.2.2.2.2.2.2.1,v8.2.2.2.2.2.2.2.1,PUnit.unit))) ((0:Int),n,str,g,[],[List.take y5.1.1.length (List.drop 0 y5.1.1)],[(0:Int)],au (λ(_:ByteArray)=>none) y6 true,PUnit.unit))=fnMW (uO [Om+10]) (look [(138,cm),(121,Dx),(139,Nx),(135,Jv),(79,bC)]) Zi Tryz.f88 (n,str,g,t,()) P:=by kernel_rfl
theorem NU (n:Int) (str:ByteArray) (g:List (List Int)) (t:List Int) (P:((List (List Int)×List Int×Bool×Unit)×Unit)->Prop):(∃(y5:Bool),Jr.fn ((n,str,g,()),t,())=some y5/\Br (!y5) (P ((List.take 0 (List.drop 0 []),List.take 0 (List.drop 0 []),false,()),())) (∃(y6:(List (List Int)×List Int×Bool×PUnit)×PUnit),Zi.fn (n,str,g,t,())=some y6/\P ((List.take y6.1.1.length (List.drop 0 y6.1.1),List.take y6.1.2.1.length (List.drop 0 y6.1.2.1),y6.1.2.2.1,()),())))=fnMW Ul (look [(77,Jr),(88,Zi)]) Zk Tryz.f90 (n,str,g,t,()) P:=by kernel_rfl
theorem HM (n:Int) (str:ByteArray) (g:List (List Int)) (t:List Int) (P:((List Int×List (List Int)×List Int×Bool×Unit)×Unit)->Prop):(∃(y5:(List (List Int)×List Int×Bool×PUnit)×PUnit),Zk.fn (n,str,g,t,())=some y5/\Br (!y5.1.2.2.1) (P ((List.take 0 (List.drop 0 []),List.take 0 (List.drop 0 []),List.take 0 (List.drop 0 []),false,()),())) (∃(y6:(List Int×PUnit)×PUnit),cm.fn (t,())=some y6/\P ((List.take y6.1.1.length (List.drop 0 y6.1.1),List.take y5.1.1.length (List.drop 0 y5.1.1),List.take y5.1.2.1.length (List.drop 0 y5.1.2.1),true,()),())))=fnMW Ul (look [(90,Zk),(138,cm)]) Wd Tryz.f160 (n,str,g,t,()) P:=by kernel_rfl
theorem BA (p:Int×ByteArray×List (List Int)×Unit) (t:List Int×List (List Int)×List Int×Unit) (P:Bool->Prop):(∃(y3:(List Int×List (List Int)×List Int×Bool×PUnit)×PUnit),Wd.fn (p.1,p.2.1,p.2.2.1,t.1,())=some y3/\Br y3.1.2.2.2.1 (∃(y4:Bool),bw.fn ((List.take y3.1.1.length (List.drop 0 y3.1.1),List.take y3.1.2.1.length (List.drop 0 y3.1.2.1),List.take y3.1.2.2.1.length (List.drop 0 y3.1.2.2.1),()),(t.1,t.2.1,t.2.2.1,()),())=some y4/\P y4) (P false))=fnW Fz (look [(160,Wd),(161,bw)]) eM Tryz.f120 (p,t,()) P:=by kernel_rfl
theorem Ank (t:List Int×List (List Int)×List Int×Unit) (p:Int×ByteArray×List (List Int)×Unit) (P:Bool->Prop):(∃(y3:Bool),eM.fn (p,(t.1,t.2.1,t.2.2.1,()),())=some y3/\P !y3)=fnW Fz (look [(120,eM)]) xR Tryz.f119 (t,p,()) P:=by kernel_rfl
theorem Ait (ts:List (List Int×List (List Int)×List Int×Unit)) (c:(Int×ByteArray×List (List Int)×Unit)×Unit) (P:Int->Prop):(Dl (λ(v3:Int×PUnit) (k4:Int×PUnit->Prop)=>Br (decide (v3.1<(↑ts.length:Int))) (∃(y5:List Int×List (List Int)×List Int×PUnit),idx ts v3.1=some y5/\ ∃(y6:Bool),xR.fn (y5,c.1,())=some y6/\Br y6 (P v3.1) (k4 (IntKind.i64.wrap (v3.1+(1:Int)),()))) (P (-1:Int))) ((0:Int),PUnit.unit))=fnW Fz (look [(119,xR)]) pE Tryz.f159 (ts,c,()) P:=by kernel_rfl
theorem Aiq (ts:List (List Int×List (List Int)×List Int×Unit)) (c:(Int×ByteArray×List (List Int)×Unit)×Unit) (P:Bool->Prop):(∃(y3:Int),pE.fn (ts,c,())=some y3/\P (decide (y3>=(0:Int))))=fnW Fz (look [(159,pE)]) pB Tryz.f118 (ts,c,()) P:=by kernel_rfl
theorem uX (p:Int×ByteArray×List (List Int)×Unit) (ts:List (List Int×List (List Int)×List Int×Unit)) (P:Bool->Prop):(∃(y3:Bool),Ge.fn ((p.1,p.2.1,p.2.2.1,()),())=some y3/\Br y3 (Br (decide ((↑ts.length:Int)<=(4:Int))) (∃(y4:Bool),pB.fn (ts,((p.1,p.2.1,p.2.2.1,()),()),())=some y4/\P !y4) (P false)) (P false))=fnW Fz (look [(99,Ge),(118,pB)]) Qz Tryz.f60 (p,ts,()) P:=by kernel_rfl
theorem mR {p:PP} (hV:Valid p) {m:Nat} {x:List Int} {d:Int} (hx: ∀y∈x,0<=y/\y<p.1) (hxl:x.length=m): ∀(ls:List Int) (L:List (List Int)) (D:List Int),(∀l∈ls,Il (List.length p.2.2.1) l)->
  Tw p m L D->(0<=d/\d<L.length)->Tw p m (Ht p.2.2.1 x d ls L D).1 (Ht p.2.2.1 x d ls L D).2.1/\(∃A,(Ht p.2.2.1 x d ls L D).1=L++A)/\(∃A,(Ht p.2.2.1 x d ls L D).2.1=D++A)
 | [],L,D,_,h,_=>⟨h,⟨[],by simp [Ht]⟩,⟨[],by simp [Ht]⟩⟩
 |l::ls,L,D,hl,h,hd=>by
  obtain ⟨n1,n2⟩:=nV hV hx (hl l (by simp))
  have Mb: ∀l∈ls,Il (List.length p.2.2.1) l:= λl' h'=>hl l' (An _ h')
  simp only [Ht]
  split
  ·exact mR hV hx hxl ls L D Mb h hd
  ·rename_i hn
   split
   ·exact ⟨h,⟨[],by simp⟩,⟨[],by simp⟩⟩
   ·rename_i hf
    have nB:=h.ok.kB
    obtain ⟨k1,⟨A,k2⟩,⟨A',k3⟩⟩:=mR hV hx hxl ls (L++ [Ai x (Au p.2.2.1 l)]) (D++ [d+1]) Mb (h.add hn (by rw [n1,hxl]) (by omega) n2 ⟨by omega,by omega⟩) ⟨hd.1,by rw [Av];omega⟩
    exact ⟨k1,⟨_::A,by rw [k2,Co];rfl⟩,⟨_::A',by rw [k3,Co];rfl⟩⟩
theorem CB {p:PP} (hV:Valid p) {m:Nat} {ls:List Int} (hl: ∀l∈ls,Il (List.length p.2.2.1) l): ∀(f k:Nat) (L:List (List Int)) (D:List Int),Tw p m L D->
  Tw p m (Jz p.2.2.1 ls f k L D).1 (Jz p.2.2.1 ls f k L D).2.1/\(∃A,(Jz p.2.2.1 ls f k L D).1=L++A)
 |0,k,L,D,h=>⟨h,⟨[],by simp [Jz]⟩⟩
 |f+1,k,L,D,h=>by
  simp only [Jz]
  split
  ·rename_i hk
   have DM:k<D.length:=by rw [h.len];exact hk
   have hd:=h.dep k DM
   have e:D.getD k 0=D[k]:=by rw [Ah,Ac DM];rfl
   rw [Uu hk,e]
   obtain ⟨k1,⟨A,k2⟩,_⟩:=mR hV (h.row _ (Ak hk)) (h.ok.len _ (Ak hk)) (d:=D[k]) ls L D hl h ⟨by omega,by omega⟩
   split
   ·rename_i L' D' he
    rw [he] at k1 k2
    obtain ⟨g1,⟨B,g2⟩⟩:=CB hV hl f (k+1) L' D' k1
    have k2:L'=L++A:=k2
    exact ⟨g1,⟨A++B,by rw [g2,k2,Co]⟩⟩
   ·rename_i L' D' he
    rw [he] at k1 k2
    exact ⟨k1,⟨A,k2⟩⟩
  ·exact ⟨h,⟨[],by simp⟩⟩
theorem yu {p:PP} {s:List Int} (hv:Bm p=true) (hs:s.length<=20) (hr: ∀y∈s,0<=y/\y<p.1):Tw p s.length (Gd p.2.2.1 s).1 (Gd p.2.2.1 s).2.1/\ ∃A,(Gd p.2.2.1 s).1=s::A:=
 CB (valid hv) (λ_ hl=>Ku hl) _ _ _ _ (dT hs hr)
theorem Tg {p:PP} {t:List Int} :Ep p t=true↔Bm p=true/\Ql p.1 t=true:=by
 unfold Ep;rw [Af]
theorem Hl {p:PP} {t:List Int} (h:Ep p t=true):t.length<=20/\ ∀y∈t,0<=y/\y<p.1:=by
 obtain ⟨h1,h2⟩:=Tg.1 h
 have hn:=(valid h1).n
 obtain ⟨h3,h4⟩:=Ik.1 h2
 have hy: ∀y∈t,0<=y/\y<p.1:= λy hy=>by
  obtain ⟨j,hj,rfl⟩:=Bf.1 hy
  have:=h4 j hj hj
  omega
 refine ⟨?_,hy⟩
 have h5:=LU h4 (t.length-1) (by omega)
 have h6:=hy _ (Ak (show t.length-1<t.length by omega))
 omega
theorem mr {p:PP} {t:List Int} (h:Ep p t=true):Tw p t.length (Gd p.2.2.1 t).1 (Gd p.2.2.1 t).2.1:=(yu (Tg.1 h).1 (Hl h).1 (Hl h).2).1
theorem eE {p:PP} {t:List Int} :Gk p t=true↔Ep p t=true/\(Gd p.2.2.1 t).2.2=true:=by
 unfold Gk;rw [Af]
theorem wS {p:PP} {m:Nat} {L:List (List Int)} {D:List Int} (h:Tw p m L D):Pj L/\short D:=by
 have h1:=h.ok.kB
 have h2:=h.ok.short
 have h3:=h.len
 refine ⟨⟨by omega,λx hx=>?_⟩,by unfold short;omega⟩
 have:=h.ok.len x hx
 unfold short;omega
theorem iw {p:PP} {t:List Int} :aG (Eo p t):=by
 unfold Eo
 split
 ·rename_i h
  have h1:=(eE.1 h).1
  have h2:=wS (mr h1)
  have h3:=(Hl h1).1
  exact ⟨show t.length<=4294967296 by omega,h2.1,h2.2⟩
 ·exact ⟨by simp [short],⟨by simp,λr hr=>by cases hr⟩,by simp [short]⟩
theorem vT (p:PP) (t:List Int) (h:Dp p/\short t):fnW Fz (look [(99,Ge),(101,Kv)]) Jr Tryz.f77 (p,t,()) (λ(z:Bool)=>z=Ep p t):=by
 refine Eq.mp (wF p t _) ⟨_,Ab h.1,⟨λhv=>?_,λhv=>?_⟩⟩
 ·have hv:Bm p=true:=hv
  have hn:=(valid hv).n
  refine ⟨_,Ab ⟨⟨by show 0<=p.1;omega,by show p.1<=4294967296;omega⟩,h.2⟩,?_⟩
  unfold Ep;rw [hv];rfl
 ·have hv:Bm p=false:=hv
  unfold Ep;rw [hv];rfl
theorem oe:Sound Tryz.prog 77 Jr:=
 Sound.Gu Dq (Aw Tt (Aw rD Bn)) mixed Tryz.func77 (by kernel_rfl) (by kernel_rfl) λx h=>vT x.1 x.2.1 h
theorem vZ (p:PP) (t:List Int) (h:Dp p/\short t):fnW Fz (look [(63,Ge),(137,Kv)]) Jr Tryz.f86 (p,t,()) (λ(z:Bool)=>z=Ep p t):=by
 refine Eq.mp (wL p t _) ⟨_,Ab h.1,⟨λhv=>?_,λhv=>?_⟩⟩
 ·have hv:Bm p=true:=hv
  have hn:=(valid hv).n
  refine ⟨_,Ab ⟨⟨by show 0<=p.1;omega,by show p.1<=4294967296;omega⟩,h.2⟩,?_⟩
  unfold Ep;rw [hv];rfl
 ·have hv:Bm p=false:=hv
  unfold Ep;rw [hv];rfl
theorem oo:Sound Tryz.prog 86 Jr:=
 Sound.Gu Dq (Aw Tu (Aw og Bn)) mixed Tryz.func86 (by kernel_rfl) (by kernel_rfl) λx h=>vZ x.1 x.2.1 h
theorem FR (p:PP) (t:List Int) (h:Dp p/\short t):fnW Fz (look [(86,Jr),(126,Gz)]) We Tryz.f67 (p,t,()) (λ(z:SS×Bool×Unit)=>z=(Qm p t,Gk p t,())):=by
 refine Eq.mp (HS p t _) ⟨_,Ab h,⟨λhn=>?_,λhn=>?_⟩⟩
 ·have hn:=Hy hn
  have e:Gk p t=false:=Nr.2 λhh=>hn (eE.1 hh).1
  unfold Qm
  rw [Aj hn,e]
  rfl
 ·have hn:Ep p t=true:=Ih hn
  have e:Gk p t=(Gd p.2.2.1 t).2.2:=by unfold Gk;rw [hn,Qe]
  refine ⟨_,Ab ⟨(Tg.1 hn).1,(Hl hn).1,(Hl hn).2⟩,?_⟩
  have key:(((Ka p.2.2.1 t).1,(Ka p.2.2.1 t).2.1,(Ka p.2.2.1 t).2.2.1,(Ka p.2.2.1 t).2.2.2.1,()),(Ka p.2.2.1 t).2.2.2.1,())=(Qm p t,Gk p t,()):=by
   unfold Qm
   rw [Ab hn,e]
   rfl
  exact ⟨⟨⟨key,key⟩,key⟩,⟨key,key⟩,key⟩
theorem rF:Sound Tryz.prog 67 We:=
 Sound.Gu Dq (Aw oo (Aw qH Bn)) mixed Tryz.func67 (by kernel_rfl) (by kernel_rfl) λx h=>FR x.1 x.2.1 h
theorem FH (l:List (List Int)) (h:Pj l):fnW Fz (look [(68,Ko)]) Te Tryz.f69 (l,()) (λ(z:List (List Int))=>z=l):=by
 obtain ⟨h1,h2⟩:=h
 refine Eq.mp (HI l _) ⟨rfl,rfl,?_⟩
 refine Bw l.length (λv=>v.1) (λj v=>v.2.1=l.take j) rfl (by simp) ?_
 rintro j ⟨i,ys,⟨⟩⟩ K hj hi hR hK
 dsimp only at hi hR⊢
 subst hi hR
 refine Br.dec (λhl=>?_) λhl=>?_
 ·have hl:j<l.length:=by omega
  refine ⟨_,Cd hl,_,Ab (h2 _ (Ak hl)),rfl,rfl,?_,rfl,rfl,?_⟩
  ·show (List.take j l).length+1<=4294967296
   rw [De];omega
  ·rw [Bv (by omega)]
   refine hK hl _ rfl ?_
   show List.take j l++ [l[j]]=_
   rw [Gi,Ac hl];rfl
 ·have:j=l.length:=by omega
  subst this
  rw [Ch,Ax]
theorem rq:Sound Tryz.prog 69 Te:=
 Sound.Gu Dq (Aw cp Bn) mixed Tryz.func69 (by kernel_rfl) (by kernel_rfl) λx h=>FH x.1 h
theorem FT (p:PP) (t:List Int) (h:Dp p/\short t):fnW Fz (look [(67,We),(68,Ko),(69,Te)]) Dh Tryz.f24 (p,t,()) (λ(z:TT×Bool×Unit)=>z=(Eo p t,Gk p t,())):=by
 refine Eq.mp (HT p t _) ⟨_,Ab h,⟨λhn=>?_,λhn=>?_⟩⟩
 ·have hn:=Hy hn
  have hn: ¬Gk p t=true:=hn
  unfold Eo
  rw [Aj hn,Nr.2 hn]
  rfl
 ·have hn:Gk p t=true:=Ih hn
  obtain ⟨h1,h2⟩:=eE.1 hn
  have h3:=wS (mr h1)
  have e:Qm p t=Ka p.2.2.1 t:=Ab h1
  refine ⟨_,Ab h.2,?_⟩
  show ∃y5:List (List Int),Te.fn ((Qm p t).1,())=some y5/\ ∃y6:List Int,Ko.fn ((Qm p t).2.1,())=some y6/\((t,y5,y6,()),true,())=(Eo p t,Gk p t,())
  rw [e]
  refine ⟨_,Ab h3.1,_,Ab h3.2,?_⟩
  unfold Eo
  rw [Ab hn,hn]
  rfl
theorem gO:Sound Tryz.prog 24 Dh:=
 Sound.Gu Dq (Aw rF (Aw cp (Aw rq Bn))) mixed Tryz.func24 (by kernel_rfl) (by kernel_rfl) λx h=>FT x.1 x.2.1 h
def oK (m:ByteArray->Option Bool) (L:List (List Int)):Prop:= ∀q,Ua q->(m (Mp q)).getD false=decide (q∈L)
theorem oK.add {m:ByteArray->Option Bool} {L:List (List Int)} {y:List Int} (h:oK m L) (hy:Ua y):oK (au m (Mp y) true) (L++ [y]):=by
 intro q hq
 unfold au
 by_cases e:q=y
 ·subst e
  rw [Ab rfl];simp
 ·rw [Aj λhk=>e (key_inj hq hy hk),h q hq]
  simp [e]
theorem LM (n:Int) (str:ByteArray) (g:List (List Int)) (t:List Int) (h:Ep (n,str,g,()) t=true):
  fnMW (uO [Om+10]) (look [(138,cm),(121,Dx),(139,Nx),(135,Jv),(79,bC)]) Zi Tryz.f88 (n,str,g,t,()) (λ(z:(List (List Int)×List Int×Bool×Unit)×Unit)=>z=(((Eo (n,str,g,()) t).2.1,(Eo (n,str,g,()) t).2.2.1,Gk (n,str,g,()) t,()),())):=by
 obtain ⟨hv,_⟩:=Tg.1 h
 obtain ⟨ht,hr⟩:=Hl h
 have hV:=valid hv
 have nB:=hV.kB
 have hn:=hV.n
 dsimp only at nB hn hr
 have hb0:=dT (p:=(n,str,g,())) ht hr
 have IE:short t:=by unfold short;omega
 obtain ⟨ls,re⟩: ∃ls,Bi g.length=ls:=⟨_,rfl⟩
 have XK:ls.length<=16:=by rw [<-re,Mq];omega
 have nE: ∀l∈ls,Il (List.length g) l:= λl hl=>Ku (re▸hl)
 have td:Jz g ls 3001 0 [t] [0]=Gd g t:=by unfold Gd;rw [re]
 have sS: ∀x:List Int,(∀y∈x,0<=y/\y<n)->Ua x:= λx hx y hy=>by have:=hx y hy;omega
 have Akp: ∀L D ok,Gd g t=(L,D,ok)->(if ok=true then ((L,D,true,()),()) else ((([]:List (List Int)),([]:List Int),false,()),()))=(((Eo (n,str,g,()) t).2.1,(Eo (n,str,g,()) t).2.2.1,Gk (n,str,g,()) t,()),()):=by
  intro L D ok he
  have e1:Gk (n,str,g,()) t=ok:=by unfold Gk;rw [h,Qe];show (Gd g t).2.2=ok;rw [he]
  unfold Eo
  rw [e1]
  cases ok with
  |true=>rw [Ab rfl,Ab rfl];show ((L,D,true,()),())=(((Gd g t).1,(Gd g t).2.1,true,()),());rw [he]
  |false=>rw [Aj (by decide),Aj (by decide)]
 refine Eq.mp (NS n str g t _) ⟨_,Ab IE,_,Ab IE,ls,(Ab ⟨by show (0:Int)<=((g.length:Nat):Int);omega,by show ((g.length:Nat):Int)<=8;omega⟩).trans (Dk some (by show Bi (((g.length:Nat):Int)).toNat=ls;rw [Aq];exact re)),rfl,rfl,rfl,rfl,rfl,rfl,?_⟩
 rw [Ch]
 refine Bw ls.length (λv=>v.1) (λj v=>v.2.1=n/\v.2.2.1=str/\v.2.2.2.1=g/\v.2.2.2.2.1=(ls.take j).map (Au g)/\v.2.2.2.2.2.1= [t]/\v.2.2.2.2.2.2.1= [0]/\oK v.2.2.2.2.2.2.2.1 [t]) rfl
  ⟨rfl,rfl,rfl,by simp,rfl,rfl,λq hq=>?_⟩ ?_
 ·show (au (λ_=>none) (Mp t) true (Mp q)).getD false=_
  unfold au
  by_cases e:q=t
  ·subst e;rw [Ab rfl];simp
  ·rw [Aj λhk=>e (key_inj hq (sS t hr) hk)];simp [e]
 rintro j ⟨i,n',An5,g',mv,L1,D1,m1,⟨⟩⟩ K hj hi ⟨h1,h2,h3,h4,h5,h6,h7⟩ hK
 dsimp only at hi h1 h2 h3 h4 h5 h6 h7⊢
 subst hi h1 h2 h3 h4 h5 h6
 refine Br.dec (λhl=>?_) λhl=>⟨rfl,rfl,rfl,rfl,rfl,rfl,?_⟩
 ·have hl:j<ls.length:=by omega
  have r8:=nE _ (Ak hl)
  refine ⟨_,Cd hl,_,Ab ⟨r8,nB.2,hV.perm⟩,rfl,rfl,?_,rfl,rfl,rfl,rfl,rfl,rfl,?_⟩
  ·show (List.map (Au g') (List.take j ls)).length+1<=4294967296
   rw [Dd,De];omega
  ·rw [Bv (by omega)]
   refine hK hl _ rfl ⟨rfl,rfl,rfl,?_,rfl,rfl,h7⟩
   show List.map (Au g') (List.take j ls)++ [Au g' ls[j]]=_
   rw [Gi,Ac hl,Iy];rfl
 ·have:j=ls.length:=by omega
  subst this
  rw [Ax]
  obtain ⟨ms,PC⟩: ∃ms,ls.map (Au g')=ms:=⟨_,rfl⟩
  have Aw6:ms.length=ls.length:=by rw [<-PC,Dd]
  have Ar3: ∀i (h:i<ls.length),ms[i]'(by omega)=Au g' ls[i]:= λi h=>by simp only [<-PC,Tx]
  rw [PC]
  refine Dl.mk (λv=>v.2.1=ms/\ ∃k:Nat,v.1=k/\k<=v.2.2.1.length/\Tw (n',An5,g',()) t.length v.2.2.1 v.2.2.2.1/\oK v.2.2.2.2.1 v.2.2.1/\Jz g' ls (3001-k) k v.2.2.1 v.2.2.2.1=Gd g' t) (λv=>3001-v.1.toNat)
   ⟨rfl,0,rfl,by simp,hb0,h7,td⟩ ?_
  rintro ⟨k',mv,L0,D0,mp,⟨⟩⟩ ⟨h1,k,h5,h6,h7,h8,h9⟩
  dsimp only at h1 h5 h6 h7 h8 h9
  subst h1 h5
  dsimp only
  have WQ:=h7.ok.kB
  have hD0:=h7.len
  refine Br.dec (λhl=>⟨rfl,rfl,rfl,rfl,rfl,rfl,rfl,rfl,?_⟩) λhl=>?_
  ·have hk:k<L0.length:=by omega
   have DM:k<D0.length:=by omega
   have hx: ∀y∈L0[k],0<=y/\y<n':=h7.row _ (Ak hk)
   have hxl:L0[k].length=t.length:=h7.ok.len _ (Ak hk)
   have hdk:=h7.dep k DM
   obtain ⟨f,hf⟩: ∃f,3001-k=f+1:=⟨3000-k,by omega⟩
   have hgo: ∀L' D' ok,Ht g' L0[k] D0[k] ls L0 D0=(L',D',ok)->Gd g' t=if ok=true then Jz g' ls f (k+1) L' D' else (L',D',false):=by
    intro L' D' ok he
    rw [<-h9,hf,Jz,Ab hk,Uu hk,Ah,Ac DM]
    simp only [Ct]
    rw [he]
    cases ok<;>rfl
   refine Dl.mk (λv=>v.2.1=mv/\ ∃i:Nat,v.1=i/\i<=ls.length/\Tw (n',An5,g',()) t.length v.2.2.1 v.2.2.2.1/\oK v.2.2.2.2.1 v.2.2.1/\(∃A,v.2.2.1=L0++A)/\(∃A,v.2.2.2.1=D0++A)/\
     Ht g' L0[k] D0[k] (ls.drop i) v.2.2.1 v.2.2.2.1=Ht g' L0[k] D0[k] ls L0 D0) (λv=>ls.length-v.1.toNat)
    ⟨rfl,0,rfl,Kd _,h7,h8,⟨[],by simp⟩,⟨[],by simp⟩,rfl⟩ ?_
   rintro ⟨i',mv',L,D,mp2,⟨⟩⟩ ⟨g1,i,g5,g6,g7,g8,⟨A,g9⟩,⟨A',g10⟩,r6⟩
   dsimp only at g1 g5 g6 g7 g8 g9 g10 r6
   subst g1 g5
   dsimp only
   have hLf:=g7.ok.kB
   have hDl:=g7.len
   refine Br.dec (λhli=>?_) λhli=>?_
   ·have hi:i<ls.length:=by omega
    have XH:k<L.length:=by rw [g9,Av];omega
    have hLk:L[k]=L0[k]:=by simp only [g9];exact Lz hk
    have XG:k<D.length:=by rw [hDl];exact XH
    have hDk:D[k]=D0[k]:=by simp only [g10];exact Lz DM
    have r8:=nE _ (Ak hi)
    obtain ⟨nl,nr⟩:=nV hV hx r8
    dsimp only at nl nr
    have PB:=ka hV r8
    dsimp only at PB
    rw [Fg hi] at r6
    simp only [Ht] at r6
    have hyb:=sS _ nr
    refine ⟨⟨by omega,by omega⟩,Au g' ls[i],by rw [Aq,Bu,Ac (by omega),Ar3 i hi],⟨by omega,by omega⟩,L0[k],by rw [Aq,Bu,Ac XH,hLk],
     _,Ab ⟨by show short L0[k];unfold short;omega,by show Og (Au g' ls[i]).length L0[k];intro y hy;have:=hx y hy;omega⟩,?_⟩
    dsimp only
    rw [show Dv (Au g' ls[i]) L0[k]=Ai L0[k] (Au g' ls[i]) from rfl,Ch]
    generalize hyv:Ai L0[k] (Au g' ls[i])=yv at*
    refine ⟨_,Ab (by show short yv;unfold short;rw [nl];omega),?_⟩
    dsimp only
    rw [g8 _ hyb]
    refine ⟨λaL=>?_,λaL=>⟨rfl,rfl,rfl,rfl,rfl,rfl,rfl,rfl,?_⟩⟩
    ·have aL:yv∉L:=by simpa using aL
     rw [Aj aL] at r6
     refine ⟨λVu=>?_,λVu=>⟨rfl,rfl,by show L.length+1<=4294967296;omega,⟨by omega,by omega⟩,D0[k],by rw [Aq,Bu,Ac XG,hDk],rfl,rfl,by show D.length+1<=4294967296;omega,rfl,rfl,rfl,rfl,rfl,rfl,rfl,rfl,?_⟩⟩
     ·have Vu:L.length=3000:=by
       have:(L.length:Int)=3000:=by simpa using Vu
       omega
      rw [Ab Vu] at r6
      have:=hgo _ _ _ r6.symm
      rw [Aj (by decide)] at this
      have:=Akp _ _ _ this
      rw [Aj (by decide)] at this
      exact this
     ·have Vu:L.length≠3000:=by
       have:(L.length:Int)≠3000:=by simpa using Vu
       omega
      rw [Aj Vu] at r6
      rw [Cy (n:=D0[k]+1) (by omega) (by omega),Bv (by omega)]
      refine ⟨⟨rfl,i+1,rfl,hi,g7.add aL (by rw [nl,hxl]) (by omega) nr ⟨by omega,by omega⟩,g8.add hyb,⟨A++ [yv],by rw [g9,Co];rfl⟩,⟨A'++ [D0[k]+1],by rw [g10,Co];rfl⟩,r6⟩,by omega⟩
    ·have aL:yv∈L:=by simpa using aL
     rw [Ab aL] at r6
     rw [Bv (by omega)]
     exact ⟨⟨rfl,i+1,rfl,hi,g7,g8,⟨A,g9⟩,⟨A',g10⟩,r6⟩,by omega⟩
   ·have:i=ls.length:=by omega
    subst this
    rw [Qd,Ht] at r6
    have:=hgo _ _ _ r6.symm
    rw [Ab rfl] at this
    rw [Bv (by omega)]
    refine ⟨rfl,rfl,rfl,rfl,rfl,rfl,⟨rfl,k+1,rfl,by rw [g9,Av];omega,g7,g8,?_⟩,by omega⟩
    rw [show 3001-(k+1)=f by omega]
    exact this.symm
  ·have hk:k=L0.length:=by omega
   rw [Ch L0,Ch D0]
   obtain ⟨f,hf⟩: ∃f,3001-k=f+1:=⟨3000-k,by omega⟩
   rw [hf,Jz,Aj (by omega)] at h9
   have:=Akp _ _ _ h9.symm
   rw [Ab rfl] at this
   exact this
theorem uy:Dc Tryz.prog 88 Zi:=
 Dc.lg (uP [Om+10]) (Fv oa (Aw Px (Aw dH (Aw jw (Fv wk Bn))))) mixed Tryz.func88 (by kernel_rfl) (by kernel_rfl) λx h=>LM x.1 x.2.1 x.2.2.1 x.2.2.2.1 h
theorem sy {p:PP} {t:List Int} (h: ¬Gk p t=true):Eo p t=([],[],[],()):=Aj h
theorem LO (n:Int) (str:ByteArray) (g:List (List Int)) (t:List Int) (h:Dp (n,str,g,())/\short t):
  fnMW Ul (look [(77,Jr),(88,Zi)]) Zk Tryz.f90 (n,str,g,t,()) (λ(z:(List (List Int)×List Int×Bool×Unit)×Unit)=>z=(((Eo (n,str,g,()) t).2.1,(Eo (n,str,g,()) t).2.2.1,Gk (n,str,g,()) t,()),())):=by
 refine Eq.mp (NU n str g t _) ⟨_,Ab h,⟨λhn=>?_,λhn=>?_⟩⟩
 ·have hn: ¬Ep (n,str,g,()) t=true:=Hy hn
  have e: ¬Gk (n,str,g,()) t=true:= λhh=>hn (eE.1 hh).1
  rw [sy e,Nr.2 e]
  rfl
 ·have hn:Ep (n,str,g,()) t=true:=Ih hn
  refine ⟨_,Ab hn,?_⟩
  rw [Ch,Ch]
theorem uC:Dc Tryz.prog 90 Zk:=
 Dc.lg Tf (Aw oe (Fv uy Bn)) mixed Tryz.func90 (by kernel_rfl) (by kernel_rfl) λx h=>LO x.1 x.2.1 x.2.2.1 x.2.2.2.1 h
theorem FL (n:Int) (str:ByteArray) (g:List (List Int)) (t:List Int) (h:Dp (n,str,g,())/\short t):
  fnMW Ul (look [(90,Zk),(138,cm)]) Wd Tryz.f160 (n,str,g,t,()) (λ(z:(List Int×List (List Int)×List Int×Bool×Unit)×Unit)=>z=(((Eo (n,str,g,()) t).1,(Eo (n,str,g,()) t).2.1,(Eo (n,str,g,()) t).2.2.1,Gk (n,str,g,()) t,()),())):=by
 refine Eq.mp (HM n str g t _) ⟨_,Ab h,⟨λhn=>?_,λhn=>?_⟩⟩
 ·have e: ¬Gk (n,str,g,()) t=true:=Hy hn
  rw [sy e,Nr.2 e]
  rfl
 ·have e:Gk (n,str,g,()) t=true:=Ih hn
  refine ⟨_,Ab h.2,?_⟩
  rw [Ch,Ch,Ch,e]
  have e2:(Eo (n,str,g,()) t).1=t:=by unfold Eo;rw [Ab e]
  rw [e2]
theorem rz:Dc Tryz.prog 160 Wd:=
 Dc.lg Tf (Fv uC (Fv oa Bn)) mixed Tryz.func160 (by kernel_rfl) (by kernel_rfl) λx h=>FL x.1 x.2.1 x.2.2.1 x.2.2.2.1 h
theorem zt (p:PP) (t:TT) (h:Dp p/\aG t):fnW Fz (look [(160,Wd),(161,bw)]) eM Tryz.f120 (p,t,()) (λ(z:Bool)=>z=Gl p t):=by
 refine Eq.mp (BA p t _) ⟨_,Ab ⟨h.1,h.2.1⟩,⟨λhn=>?_,λhn=>?_⟩⟩
 ·have e:Gk p t.1=true:=hn
  rw [Ch,Ch,Ch]
  refine ⟨_,Ab iw,?_⟩
  unfold Gl
  rw [e];rfl
 ·have e:Gk p t.1=false:=hn
  unfold Gl
  rw [e];rfl
theorem pK:Sound Tryz.prog 120 eM:=
 Sound.Gu Dq (Fv rz (Aw kH Bn)) mixed Tryz.func120 (by kernel_rfl) (by kernel_rfl) λx h=>zt x.1 x.2.1 h
theorem Amv (t:TT) (p:PP) (h:aG t/\Dp p):fnW Fz (look [(120,eM)]) xR Tryz.f119 (t,p,()) (λ(z:Bool)=>z=!Gl p t):=by
 exact Eq.mp (Ank t p _) ⟨_,Ab ⟨h.2,h.1⟩,rfl⟩
theorem UA:Sound Tryz.prog 119 xR:=
 Sound.Gu Dq (Aw pK Bn) mixed Tryz.func119 (by kernel_rfl) (by kernel_rfl) λx h=>Amv x.1 x.2.1 h
theorem Ai5 (ts:List TT) (c:PP×Unit) (h:Lw ts/\Dp c.1):fnW Fz (look [(119,xR)]) pE Tryz.f159 (ts,c,()) (λ(z:Int)=>z=Sx (λt=>!Gl c.1 t) ts 0):=by
 obtain ⟨⟨h1,h2⟩,h3⟩:=h
 refine Eq.mp (Ait ts c _) ?_
 refine Bw ts.length (λv=>v.1) (λj _=>Sx (λt=>!Gl c.1 t) (ts.drop j) j=Sx (λt=>!Gl c.1 t) ts 0) rfl (by simp) ?_
 rintro j ⟨i,⟨⟩⟩ K hj hi hR hK
 dsimp only at hi⊢
 subst hi
 refine Br.dec (λhl=>?_) λhl=>?_
 ·have hl:j<ts.length:=by omega
  rw [Fg hl] at hR
  simp only [Sx] at hR
  refine ⟨_,Cd hl,_,Ab ⟨h2 _ (Ak hl),h3⟩,⟨λhe=>?_,λhe=>?_⟩⟩
  ·have he:(!Gl c.1 ts[j])=true:=he
   rw [Ab he] at hR
   exact hR
  ·have he:(!Gl c.1 ts[j])=false:=he
   rw [Aj (by rw [he];decide)] at hR
   rw [Bv (by omega)]
   exact hK hl _ rfl (by push_cast;exact hR)
 ·have:j=ts.length:=by omega
  subst this
  rw [Qd] at hR
  exact hR
theorem MS:Sound Tryz.prog 159 pE:=
 Sound.Gu Dq (Aw UA Bn) mixed Tryz.func159 (by kernel_rfl) (by kernel_rfl) λx h=>Ai5 x.1 x.2.1 h
theorem th (q:TT->Bool): ∀(ts:List TT) (k:Int),0<=k->decide (Sx q ts k>=0)=ts.any q
 | [],k,_=>by simp [Sx]
 |t::ts,k,hk=>by
  have ih:=th q ts (k+1) (by omega)
  rw [List.any_cons]
  by_cases e:q t=true
  ·have e2:Sx q (t::ts) k=k:=Ab e
   rw [e]
   exact Ec (by rw [e2];exact hk)
  ·have e2:Sx q (t::ts) k=Sx q ts (k+1):=Aj e
   rw [Nr.2 e,Xu,<-ih]
   exact decide_eq_decide.2 (by rw [e2])
theorem Ai2 (ts:List TT) (c:PP×Unit) (h:Lw ts/\Dp c.1):fnW Fz (look [(159,pE)]) pB Tryz.f118 (ts,c,()) (λ(z:Bool)=>z=List.any ts (λt=>!Gl c.1 t)):=by
 exact Eq.mp (Aiq ts c _) ⟨_,Ab h,th _ ts 0 (Rb 0)⟩
theorem MP:Sound Tryz.prog 118 pB:=
 Sound.Gu Dq (Aw MS Bn) mixed Tryz.func118 (by kernel_rfl) (by kernel_rfl) λx h=>Ai2 x.1 x.2.1 h
theorem BT (q:TT->Bool) (ts:List TT):(!List.any ts λt=>!q t)=List.all ts q:=by
 induction ts with
 |nil=>rfl
 |cons t ts ih=>simp only [List.any_cons,Jc,<-ih];cases q t<;>simp
theorem tS (p:PP) (ts:List TT) (h:Dp p/\Lw ts):fnW Fz (look [(99,Ge),(118,pB)]) Qz Tryz.f60 (p,ts,()) (λ(z:Bool)=>z=Dw p ts):=by
 refine Eq.mp (uX p ts _) ⟨_,Ab h.1,⟨λhv=>Br.dec (λhl=>⟨_,Ab ⟨h.2,h.1⟩,?_⟩) λhl=>?_,λhv=>?_⟩⟩
 ·have hv:Bm p=true:=hv
  have hl:ts.length<=4:=by omega
  show (!List.any ts λt=>!Gl p t)=_
  rw [BT]
  unfold Dw
  rw [hv,Ec hl];rfl
 ·unfold Dw
  rw [Fu (by omega),Bool.and_false];rfl
 ·have hv:Bm p=false:=hv
  unfold Dw
  rw [hv];rfl
theorem ct:Sound Tryz.prog 60 Qz:=
 Sound.Gu Dq (Aw Tt (Aw MP Bn)) mixed Tryz.func60 (by kernel_rfl) (by kernel_rfl) λx h=>tS x.1 x.2.1 h
theorem SG {a b:TT} :lb a b=true↔a=b:=by
 obtain ⟨a1,a2,a3,⟨⟩⟩:=a
 obtain ⟨b1,b2,b3,⟨⟩⟩:=b
 simp [lb]
end Go.Proofs.YtkkdpknjohcekaaGreat
