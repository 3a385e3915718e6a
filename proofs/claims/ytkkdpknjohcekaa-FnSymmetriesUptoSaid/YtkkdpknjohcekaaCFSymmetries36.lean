/-
  Part 37 of the proof that the statement FnSymmetries holds.
-/
import Derived.Test.YtkkdpknjohcekaaCFSymmetries35
import Derived.KernelRfl
namespace Go.Proofs.Ytkkdpknjohcekaa
open Go.RowKit
def Oh (x a b:Int):Bool:=decide (a<=x/\x<=b)
def Oy (a b:List Int):Bool:=decide (a=b)
def iW (xs:List Int) (x:Int):Bool:=decide (x∈xs)
def short (xs:List Int):Prop:=xs.length<=4294967296
noncomputable abbrev Dh:Spec:=Hg (.pair tI (.pair tI (.pair tI .unit))) .bool false true (λ_=>True) (λx=>Oh x.1 x.2.1 x.2.2.1)
noncomputable abbrev El:Spec:=Hg (.pair tL (.pair tL .unit)) .bool false true (λx=>short x.1) (λx=>Oy x.1 x.2.1)
noncomputable abbrev Qd:Spec:=Hg (.pair tL (.pair tI .unit)) .bool false true (λx=>short x.1) (λx=>iW x.1 x.2.1)
theorem LU (x a b:Int) (P:Bool->Prop):(Br (decide (x>=a)) (P (decide (x<=b))) (P false))=fnW Fz (look []) Dh Try.f65 (x,a,b,()) P:=by kernel_rfl
theorem SP (x a b:Int) (P:Bool->Prop):(Br (decide (x>=a)) (P (decide (x<=b))) (P false))=fnW Fz (look []) Dh Try.f94 (x,a,b,()) P:=by kernel_rfl
theorem AJ (a b:List Int) (P:Bool->Prop):(Br ((↑a.length:Int) !=(↑b.length:Int)) (P false) (Ek (λ(v3:Int×PUnit) (k4:Int×PUnit->Prop)=>Br (decide (v3.1<(↑a.length:Int))) (∃(y5:Int),idx a v3.1=some y5/\ ∃(y6:Int),idx b v3.1=some y6/\Br (y5 !=y6) (P false) (k4 (IntKind.i64.wrap (v3.1+1),()))) (P true)) (0,PUnit.unit)))=fnW Fz (look []) El Try.f80 (a,b,()) P:=by kernel_rfl
theorem sT (a b:List Int) (P:Bool->Prop):(Br ((↑a.length:Int) !=(↑b.length:Int)) (P false) (Ek (λ(v3:Int×PUnit) (k4:Int×PUnit->Prop)=>Br (decide (v3.1<(↑a.length:Int))) (∃(y5:Int),idx a v3.1=some y5/\ ∃(y6:Int),idx b v3.1=some y6/\Br (y5 !=y6) (P false) (k4 (IntKind.i64.wrap (v3.1+1),()))) (P true)) (0,PUnit.unit)))=fnW Fz (look []) El Try.f82 (a,b,()) P:=by kernel_rfl
theorem sP (xs:List Int) (x:Int) (P:Bool->Prop):(Ek (λ(v3:Int×PUnit) (k4:Int×PUnit->Prop)=>Br (decide (v3.1<(↑xs.length:Int))) (∃(y5:Int),idx xs v3.1=some y5/\Br (y5==x) (P true) (k4 (IntKind.i64.wrap (v3.1+1),()))) (P false)) (0,PUnit.unit))=fnW Fz (look []) Qd Try.f152 (xs,x,()) P:=by kernel_rfl
theorem JY (x a b:Int) (_:True):fnW Fz (look []) Dh Try.f65 (x,a,b,()) (λ(z:Bool)=>z=Oh x a b):=by
 refine Eq.mp (LU x a b _) ?_
 refine Br.dec (λh=>?_) λh=>?_
 ·have h:a<=x:=h
  simp [Oh,h]
 ·exact (Ht λhh=>h hh.1).symm
theorem Sy:Sound Try.prog 65 Dh:=
 Sound.Hg Ef Bt mixed Try.func65 (by kernel_rfl) (by kernel_rfl) λx h=>JY x.1 x.2.1 x.2.2.1 h
theorem QS (x a b:Int) (_:True):fnW Fz (look []) Dh Try.f94 (x,a,b,()) (λ(z:Bool)=>z=Oh x a b):=by
 refine Eq.mp (SP x a b _) ?_
 refine Br.dec (λh=>?_) λh=>?_
 ·have h:a<=x:=h
  simp [Oh,h]
 ·exact (Ht λhh=>h hh.1).symm
theorem Zr:Sound Try.prog 94 Dh:=
 Sound.Hg Ef Bt mixed Try.func94 (by kernel_rfl) (by kernel_rfl) λx h=>QS x.1 x.2.1 x.2.2.1 h
theorem sk (xs:List Int) (x:Int) (h:short xs):fnW Fz (look []) Qd Try.f152 (xs,x,()) (λ(z:Bool)=>z=iW xs x):=by
 refine Eq.mp (sP xs x _) ?_
 unfold short at h
 refine Cu xs.length (λv=>v.1) (λj _=>x∉xs.take j) rfl (by simp) ?_
 rintro j ⟨i,⟨⟩⟩ K hj hi hR hK
 dsimp only at hi⊢
 subst hi
 refine Br.dec (λhl=>?_) λhl=>?_
 ·have hl:j<xs.length:=by omega
  refine ⟨_,Df hl,⟨λhe=>?_,λhe=>?_⟩⟩
  ·have hm:=Ak hl
   simp only [Vv] at he
   rw [he] at hm
   exact (Dg hm).symm
  ·rw [Dw (by omega)]
   refine hK hl _ rfl ?_
   simp only [Iy,ne_eq] at he
   rw [Da hl]
   simp only [Az,Ae,not_or]
   exact ⟨hR,λhx=>he hx.symm⟩
 ·have:j=xs.length:=by omega
  subst this
  rw [Ca] at hR
  exact (Ht hR).symm
theorem lQ:Sound Try.prog 152 Qd:=
 Sound.Hg Ef Bt mixed Try.func152 (by kernel_rfl) (by kernel_rfl) λx h=>sk x.1 x.2.1 h
theorem vh (a b:List Int) (hlen:a.length=b.length) (h:short a):
  Ek (λ(v3:Int×PUnit) (k4:Int×PUnit->Prop)=>
   Br (decide (v3.1<(↑a.length:Int))) (∃(y5:Int),idx a v3.1=some y5/\ ∃(y6:Int),idx b v3.1=some y6/\Br (y5 !=y6) (false=Oy a b) (k4 (IntKind.i64.wrap (v3.1+1),())))
    (true=Oy a b))
  (0,PUnit.unit):=by
 unfold short at h
 refine Cu a.length (λv=>v.1) (λj _=>a.take j=b.take j) rfl (by simp) ?_
 rintro j ⟨i,⟨⟩⟩ K hj hi hR hK
 dsimp only at hi⊢
 subst hi
 refine Br.dec (λhl=>?_) λhl=>?_
 ·have GQ:j<a.length:=by omega
  have MN:j<b.length:=by omega
  refine ⟨_,Df GQ,_,Df MN,⟨λhe=>?_,λhe=>?_⟩⟩
  ·simp only [bne_iff_ne,ne_eq] at he
   refine (Ht λou=>he ?_).symm
   subst ou
   rfl
  ·rw [Dw (by omega)]
   refine hK GQ _ rfl ?_
   simp only [We] at he
   rw [Da GQ,Da MN,hR,he]
 ·have TB:j=a.length:=by omega
  subst TB
  rw [Ca,hlen,Ca] at hR
  exact (Dg hR).symm
theorem zm (a b:List Int) (h:short a):fnW Fz (look []) El Try.f80 (a,b,()) (λ(z:Bool)=>z=Oy a b):=by
 refine Eq.mp (AJ a b _) ⟨λhl=>?_,λhl=>?_⟩
 ·simp only [bne_iff_ne,ne_eq,Ll] at hl
  exact (Ht λou=>hl (by rw [ou])).symm
 ·simp only [We,Ll] at hl
  exact vh a b hl h
theorem Ys:Sound Try.prog 80 El:=
 Sound.Hg Ef Bt mixed Try.func80 (by kernel_rfl) (by kernel_rfl) λx h=>zm x.1 x.2.1 h
theorem so (a b:List Int) (h:short a):fnW Fz (look []) El Try.f82 (a,b,()) (λ(z:Bool)=>z=Oy a b):=by
 refine Eq.mp (sT a b _) ⟨λhl=>?_,λhl=>?_⟩
 ·simp only [bne_iff_ne,ne_eq,Ll] at hl
  exact (Ht λou=>hl (by rw [ou])).symm
 ·simp only [We,Ll] at hl
  exact vh a b hl h
theorem bB:Sound Try.prog 82 El:=
 Sound.Hg Ef Bt mixed Try.func82 (by kernel_rfl) (by kernel_rfl) λx h=>so x.1 x.2.1 h
abbrev TT:Type:=List Int×List (List Int)×List Int×Unit
def Zq (xs:List (List Int)):Prop:=xs.length<=4294967296/\ ∀r∈xs,short r
def Aar (t:TT):Prop:=short t.1/\Zq t.2.1/\short t.2.2.1
def Ael (a b:TT):Bool:=decide (a.1=b.1)&&(decide (a.2.1=b.2.1)&&decide (a.2.2.1=b.2.2.1))
theorem je {α:Type} {ys xs:List α} {j:Nat} (h:j<xs.length) (hl:ys.length=xs.length) (ht:ys.take j=xs.take j):(ys.set j xs[j]).take (j+1)=xs.take (j+1):=by
 have h1:j<(ys.set j xs[j]).length:=by rw [Ce];omega
 rw [Da h1,Da h,List.getElem_set_self,List.take_set_of_le (Ar j),ht]
def PL (n:Int) (xs:List Int) (k:Nat):Prop:= ∀j (h:j<xs.length),j<k->0<=xs[j]/\xs[j]<=n-1/\(0<j->xs[j-1]<xs[j])
def DL (n:Int) (xs:List Int) (k:Nat):Prop:= ∀j (h:j<xs.length),j<k->0<=xs[j]/\xs[j]<=n-1/\xs[j]∉xs.take j
noncomputable def dec (p:Prop):Bool:= @decide p (Classical.propDecidable p)
theorem Ob {p:Prop} (h:p):true=dec p:=(@Dg p (Classical.propDecidable p) h).symm
theorem Ds {p:Prop} (h: ¬p):false=dec p:=(@Ht p (Classical.propDecidable p) h).symm
theorem Fp {p:Prop} :dec p=true↔p:= @Lr p (Classical.propDecidable p)
theorem TR {p:Prop} :dec p=false↔ ¬p:= @decide_eq_false_iff_not p (Classical.propDecidable p)
noncomputable def yZ (n:Int) (xs:List Int):Bool:=dec (0<xs.length/\PL n xs xs.length)
noncomputable abbrev ij:Spec:=Hg (.pair rm .unit) tI false true (λ_=>True) (λx=>(List.length x.1:Int))
theorem VW (xs:List (List Int)) (P:Int->Prop):(P (↑xs.length:Int))=fnW Fz (look []) ij Try.f95 (xs,()) P:=by kernel_rfl
theorem VH (xs:List (List Int)) (_:True):fnW Fz (look []) ij Try.f95 (xs,()) (λ(z:Int)=>z=(xs.length:Int)):=Eq.mp (VW xs _) rfl
theorem zL:Sound Try.prog 95 ij:=
 Sound.Hg Ef Bt mixed Try.func95 (by kernel_rfl) (by kernel_rfl) λx h=>VH x.1 h
theorem Ey {x a b:Int} :Oh x a b=true↔a<=x/\x<=b:=Lr
theorem Ga {b:Bool} (h:(!b)=true): ¬b=true:=by cases b<;>simp_all
theorem Fe {b:Bool} (h:(!b)=false):b=true:=by cases b<;>simp_all
theorem TU {n:Int} {xs:List Int} {j:Nat} (hl:j<xs.length) (h:DL n xs j) (h1:0<=xs[j]) (h2:xs[j]<=n-1) (h3:xs[j]∉xs.take j):DL n xs (j+1):=by
 intro i hi dm
 by_cases e:i=j
 ·subst e;exact ⟨h1,h2,h3⟩
 ·exact h i hi (by omega)
theorem EN {xs:List Int} (h:short xs) (j:Nat):short (xs.take j):=by
 unfold short at*
 rw [Co]
 omega
abbrev PP:Type:=Int×ByteArray×List (List Int)×Unit
noncomputable def Gp (p:List Int):Bool:=dec (1<=p.length/\p.length<=20/\DL p.length p p.length)
noncomputable def Cj (n:Int) (p:List Int):Bool:=dec ((p.length:Int)=n/\Gp p=true)
noncomputable def Ya (n:Int) (g:List (List Int)):Bool:=dec ((1<=n/\n<=20)/\g.length<=8/\ ∀p∈g,Cj n p=true)
def Ia {α:Type} (P:α->Bool):List α->Int->Int
 | [],_=> -1
 |y::r,i=>if P y=true then i else Ia P r (i+1)
abbrev tG1:Ty:= .clo 206 (.pair (.ptr tI) .unit)
def uO (s:ByteArray) (i:Nat):Prop:= ∃c:UInt8,s[i]?=some c/\65<=c.toNat/\c.toNat<=90/\ ∀k,k<i->s[k]?≠some c
noncomputable def lq (s:ByteArray) (i:Int):Bool:=dec (uO s i.toNat)
noncomputable def Zx (s:ByteArray):Bool:=dec ((1<=s.size/\s.size<=8)/\ ∀j,j<s.size->uO s j)
noncomputable def Bc (p:PP):Bool:=dec (Ya p.1 p.2.2.1=true/\Zx p.2.1=true/\p.2.1.size=p.2.2.1.length)
def Gq (p:PP):Prop:=p.2.1.size<=4294967296/\Zq p.2.2.1
noncomputable abbrev Wy:Spec:=Hg (.pair tL .unit) tI false true (λ_=>True) (λx=>(List.length x.1:Int))
noncomputable abbrev Ib:Spec:=Hg (.pair tL .unit) .bool false true (λx=>short x.1) (λx=>Gp x.1)
noncomputable abbrev Ps:Spec:=Hg (.pair tI (.pair rm .unit)) .bool false true (λx=>Zq x.2.1) (λx=>Ya x.1 x.2.1)
noncomputable abbrev ig:Spec:=Hg (.pair tL (.pair (.ptr tI) .unit)) .bool false true (λx=>short x.1) (λx=>!Cj x.2.1 x.1)
noncomputable abbrev uo:Spec:=Hg (.pair rm (.pair tG1 .unit)) tI false true (λx=>Zq x.1) (λx=>Ia (λp=>!Cj x.2.1.1 p) x.1 0)
noncomputable abbrev uk:Spec:=Hg (.pair rm (.pair tG1 .unit)) .bool false true (λx=>Zq x.1) (λx=>List.any x.1 (λp=>!Cj x.2.1.1 p))
noncomputable abbrev cJ:Spec:=Hg (.pair .str (.pair tI .unit)) .bool false true (λx=>0<=x.2.1/\x.2.1<x.1.size/\x.1.size<=4294967296) (λx=>lq x.1 x.2.1)
noncomputable abbrev a5:Spec:=Hg (.pair .str .unit) .bool false true (λx=>x.1.size<=4294967296) (λx=>Zx x.1)
noncomputable abbrev Ic:Spec:=Hg (.pair Ij .unit) .bool false true (λx=>Gq x.1) (λx=>Bc x.1)
theorem Ab6 (xs:List Int) (P:Int->Prop):(P (↑xs.length:Int))=fnW Fz (look []) Wy Try.f140 (xs,()) P:=by kernel_rfl
theorem xB (p:List Int) (P:Bool->Prop):(∃(y2:Bool),Dh.fn ((↑p.length:Int),(1:Int),(20:Int),())=some y2/\Br (!y2) (P false) (Ek (λ(v3:Int×PUnit) (k4:Int×PUnit->Prop)=>Br (decide (v3.1<(↑p.length:Int))) (∃(y5:Int),idx p v3.1=some y5/\ ∃(y6:Bool),Dh.fn (y5,(0:Int),IntKind.i64.wrap ((↑p.length:Int)-(1:Int)),())=some y6/\Br (!y6) (P false) (((0:Int)<=(0:Int)/\(0:Int)<=v3.1/\v3.1<=(↑p.length:Int))/\ ∃(y7:Int),idx p v3.1=some y7/\ ∃(y8:Bool),Qd.fn (List.drop (Int.toNat (0:Int)) (List.take v3.1.toNat p),y7,())=some y8/\Br y8 (P false) (k4 (IntKind.i64.wrap (v3.1+(1:Int)),())))) (P true)) ((0:Int),PUnit.unit)))=fnW Fz (look [(65,Dh),(152,Qd)]) Ib Try.f169 (p,()) P:=by kernel_rfl
theorem xu (p:List Int) (P:Bool->Prop):(∃(y2:Int),Wy.fn (p,())=some y2/\ ∃(y3:Bool),Dh.fn (y2,(1:Int),(20:Int),())=some y3/\Br (!y3) (P false) (Ek (λ(v4:Int×Int×PUnit) (k5:Int×Int×PUnit->Prop)=>Br (decide (v4.2.1<(↑p.length:Int))) (∃(y6:Int),idx p v4.2.1=some y6/\ ∃(y7:Int),Wy.fn (p,())=some y7/\ ∃(y8:Bool),Dh.fn (y6,(0:Int),IntKind.i64.wrap (y7-(1:Int)),())=some y8/\Br (!y8) (P false) (¬y6<(0:Int)/\k5 (IntKind.i64.wrap (↑(BitVec.ofInt IntKind.i64.bits v4.1|||BitVec.ofInt IntKind.i64.bits (IntKind.i64.wrap ((1:Int)*(2:Int)^min y6.toNat IntKind.i64.bits))).toNat:Int),IntKind.i64.wrap (v4.2.1+(1:Int)),()))) (¬(↑p.length:Int)<(0:Int)/\P (v4.1==IntKind.i64.wrap (IntKind.i64.wrap ((1:Int)*(2:Int)^min (↑p.length:Int).toNat IntKind.i64.bits)-(1:Int))))) ((0:Int),(0:Int),PUnit.unit)))=fnW Fz (look [(94,Dh),(140,Wy)]) Ib Try.f141 (p,()) P:=by kernel_rfl
theorem xA (n:Int) (g:List (List Int)) (P:Bool->Prop):(∃(y3:Bool),Dh.fn (n,(1:Int),(20:Int),())=some y3/\Br (!y3) (P false) (Br (decide ((↑g.length:Int)>(8:Int))) (P false) (Ek (λ(v4:Int×PUnit) (k5:Int×PUnit->Prop)=>Br (decide (v4.1<(↑g.length:Int))) (∃(y6:List Int),idx g v4.1=some y6/\Br ((↑y6.length:Int) !=n) (P false) (∃(y7:List Int),idx g v4.1=some y7/\ ∃(y8:Bool),Ib.fn (y7,())=some y8/\Br (!y8) (P false) (k5 (IntKind.i64.wrap (v4.1+(1:Int)),())))) (P true)) ((0:Int),PUnit.unit))))=fnW Fz (look [(65,Dh),(169,Ib)]) Ps Try.f115 (n,g,()) P:=by kernel_rfl
theorem VU (p:List Int) (n:Int) (P:Bool->Prop):(∃(y3:Int),Wy.fn (p,())=some y3/\Br (y3 !=n) (P true) (∃(y4:Bool),Ib.fn (p,())=some y4/\P !y4))=fnW Fz (look [(140,Wy),(141,Ib)]) ig Try.f206 (p,n,()) P:=by kernel_rfl
theorem Afb (g:List (List Int)) (n:Int×Unit) (P:Int->Prop):(Ek (λ(v3:Int×PUnit) (k4:Int×PUnit->Prop)=>Br (decide (v3.1<(↑g.length:Int))) (∃(y5:List Int),idx g v3.1=some y5/\ ∃(y6:Bool),ig.fn (y5,n.1,())=some y6/\Br y6 (P v3.1) (k4 (IntKind.i64.wrap (v3.1+(1:Int)),()))) (P (-1:Int))) ((0:Int),PUnit.unit))=fnW Fz (look [(206,ig)]) uo Try.f197 (g,n,()) P:=by kernel_rfl
theorem Af9 (g:List (List Int)) (n:Int×Unit) (P:Bool->Prop):(∃(y3:Int),uo.fn (g,n,())=some y3/\P (decide (y3>=(0:Int))))=fnW Fz (look [(197,uo)]) uk Try.f205 (g,n,()) P:=by kernel_rfl
theorem xt (n:Int) (g:List (List Int)) (P:Bool->Prop):(∃(y3:Bool),Dh.fn (n,(1:Int),(20:Int),())=some y3/\Br y3 (Br (decide ((↑g.length:Int)<=(8:Int))) (∃(y4:Bool),uk.fn (g,(n,()),())=some y4/\P !y4) (P false)) (P false))=fnW Fz (look [(94,Dh),(205,uk)]) Ps Try.f173 (n,g,()) P:=by kernel_rfl
theorem SK (s:ByteArray) (i:Int) (P:Bool->Prop):((0:Int)<=i/\ ∃(y3:UInt8),s[i.toNat]?=some y3/\Br (decide ((↑y3.toNat:Int)<(65:Int))) (P false) ((0:Int)<=i/\ ∃(y4:UInt8),s[i.toNat]?=some y4/\Br (decide ((↑y4.toNat:Int)>(90:Int))) (P false) (Ek (λ(v5:Int×PUnit) (k6:Int×PUnit->Prop)=>Br (decide (v5.1<i)) ((0:Int)<=v5.1/\ ∃(y7:UInt8),s[v5.1.toNat]?=some y7/\(0:Int)<=i/\ ∃(y8:UInt8),s[i.toNat]?=some y8/\Br ((↑y7.toNat:Int)==(↑y8.toNat:Int)) (P false) (k6 (IntKind.i64.wrap (v5.1+(1:Int)),()))) (P true)) ((0:Int),PUnit.unit))))=fnW Fz (look []) cJ Try.f116 (s,i,()) P:=by kernel_rfl
theorem LV (s:ByteArray) (P:Bool->Prop):(Ek (λ(v2:Int×PUnit) (k3:Int×PUnit->Prop)=>Br (decide (v2.1<(↑s.size:Int))) ((0:Int)<=v2.1/\ ∃(y4:UInt8),s[v2.1.toNat]?=some y4/\ ∃(y5:Bool),Dh.fn (IntKind.i64.wrap (↑y4.toNat:Int),(65:Int),(90:Int),())=some y5/\Br (!y5) (P false) (Ek (λ(v6:Int×PUnit) (k7:Int×PUnit->Prop)=>Br (decide (v6.1<v2.1)) ((0:Int)<=v6.1/\ ∃(y8:UInt8),s[v6.1.toNat]?=some y8/\(0:Int)<=v2.1/\ ∃(y9:UInt8),s[v2.1.toNat]?=some y9/\Br ((↑y8.toNat:Int)==(↑y9.toNat:Int)) (P false) (k7 (IntKind.i64.wrap (v6.1+(1:Int)),()))) (k3 (IntKind.i64.wrap (v2.1+(1:Int)),()))) ((0:Int),PUnit.unit))) (∃(y4:Bool),Dh.fn ((↑s.size:Int),(1:Int),(8:Int),())=some y4/\P y4)) ((0:Int),PUnit.unit))=fnW Fz (look [(94,Dh)]) a5 Try.f174 (s,()) P:=by kernel_rfl
abbrev jb:Type:=Int×Int×ByteArray×List (List Int)×PUnit
theorem xD (p:Int×ByteArray×List (List Int)×Unit) (P:Bool->Prop):(Br ((↑p.2.2.1.length:Int)==(0:Int)) (P false) (Br ((↑p.2.1.size:Int) !=(↑p.2.2.1.length:Int)) (P false) (∃(y2:Bool),Ps.fn (p.1,p.2.2.1,())=some y2/\Br (!y2) (P false) (Ek (λ(v3:jb) (k4:jb->Prop)=>Br (decide (v3.1<(↑v3.2.2.1.size:Int))) (∃(y5:Bool),cJ.fn (v3.2.2.1,v3.1,())=some y5/\Br (!y5) (P false) (k4 (IntKind.i64.wrap (v3.1+(1:Int)),v3.2.1,v3.2.2.1,v3.2.2.2.1,()))) (P true)) ((0:Int),p.1,p.2.1,p.2.2.1,PUnit.unit)))))=fnW Fz (look [(115,Ps),(116,cJ)]) Ic Try.f47 (p,()) P:=by kernel_rfl
theorem xx (p:Int×ByteArray×List (List Int)×Unit) (P:Bool->Prop):(∃(y2:Bool),Ps.fn (p.1,p.2.2.1,())=some y2/\Br y2 (∃(y3:Bool),a5.fn (p.2.1,())=some y3/\Br y3 (P ((↑p.2.1.size:Int)==(↑p.2.2.1.length:Int))) (P false)) (P false))=fnW Fz (look [(173,Ps),(174,a5)]) Ic Try.f119 (p,()) P:=by kernel_rfl
theorem Aaj (xs:List Int) (_:True):fnW Fz (look []) Wy Try.f140 (xs,()) (λ(z:Int)=>z=(xs.length:Int)):=Eq.mp (Ab6 xs _) rfl
theorem ke:Sound Try.prog 140 Wy:=
 Sound.Hg Ef Bt mixed Try.func140 (by kernel_rfl) (by kernel_rfl) λx h=>Aaj x.1 h
theorem xc {α:Type} [DecidableEq α]: ∀(l m:List α),l.Nodup->(∀x∈l,x∈m)->l.length<=m.length
 | [],m,_,_=>Ni _
 |a::l,m,hn,hs=>by
  have ha:a∈m:=hs a (Jr ..)
  have hn:=Cf.1 hn
  have:=xc l (m.erase a) hn.2 λx hx=>(List.mem_erase_of_ne (λ(e:x=a)=>hn.1 (by rw [<-e];exact hx))).2 (hs x (Am _ hx))
  rw [Vu ha] at this
  have:0<m.length:=List.length_pos_of_mem ha
  simp only [Bg]
  omega
def upto (n:Nat):List Int:=(List.range n).map Int.ofNat
theorem ec (n:Nat):(upto n).Nodup:=by
 unfold upto
 exact List.Pairwise.map _ (λa b ou e=>ou (Int.ofNat.inj e)) List.nodup_range
theorem Nb {n:Nat} {x:Int} :x∈upto n↔0<=x/\x<n:=by
 unfold upto
 simp only [Bo,Io]
 constructor
 ·rintro ⟨a,ha,rfl⟩;exact ⟨Int.natCast_nonneg _,Int.ofNat_lt.2 ha⟩
 ·rintro ⟨h1,h2⟩;exact ⟨x.toNat,by omega,by simp only [Int.ofNat_eq_natCast];omega⟩
theorem Jj (n:Nat):(upto n).length=n:=by simp [upto]
theorem gh {xs:List Int} (h: ∀j (hj:j<xs.length),xs[j]∉xs.take j):xs.Nodup:=by
 refine Dc.2 λi j hi hj dm e=>h j hj ?_
 rw [<-e]
 exact List.mem_take_iff_getElem.2 ⟨i,by omega,rfl⟩
theorem rq {xs:List Int} (h:xs.Nodup): ∀j (hj:j<xs.length),xs[j]∉xs.take j:=by
 intro j hj hm
 obtain ⟨i,hi,e⟩:=List.mem_take_iff_getElem.1 hm
 exact Dc.1 h i j (by omega) hj (by omega) e
theorem bJ {xs:List Int} (h: ∀x∈xs,0<=x/\x<xs.length):(∀k:Nat,k<xs.length->(k:Int)∈xs)↔ ∀j (hj:j<xs.length),xs[j]∉xs.take j:=by
 constructor
 ·intro ha j hj hm
  have h1:=xc (upto xs.length) (xs.take j++xs.drop (j+1)) (ec _) λx hx=>by
   obtain ⟨h1,h2⟩:=Nb.1 hx
   have hx:=ha x.toNat (by omega)
   rw [show ((x.toNat:Nat):Int)=x by omega] at hx
   rw [<-Gk j xs,Az,Bu hj,Ba] at hx
   rcases hx with hx|rfl|hx
   ·exact Bn _ hx
   ·exact Bn _ hm
   ·exact Bx _ hx
  rw [Jj,Ay,Co,Ru] at h1
  omega
 ·intro hn k hk
  refine Cd λhc=>?_
  have h1:=xc xs ((upto xs.length).erase (k:Int)) (gh hn) λx hx=>by
   refine (List.mem_erase_of_ne λ(e:x=(k:Int))=>hc (by rw [<-e];exact hx)).2 (Nb.2 (h x hx))
  rw [Vu (Nb.2 ⟨by omega,by omega⟩),Jj] at h1
  omega
def mask (xs:List Int):Nat:=xs.foldl (λm x=>m|||2^x.toNat) 0
theorem JP (xs:List Int) (x:Int):mask (xs++ [x])=mask xs|||2^x.toNat:=by simp [mask]
theorem w7 (xs:List Int) (k:Nat): ∀a:Nat,(xs.foldl (λm x=>m|||2^x.toNat) a).testBit k=(a.testBit k||xs.any λx=>decide (x.toNat=k)):=by
 induction xs with
 |nil=>simp
 |cons x xs ih=>
  intro a
  rw [Ui,ih,Nat.testBit_or,Nat.testBit_two_pow,List.any_cons,Bool.or_assoc]
theorem ql (xs:List Int) (k:Nat):(mask xs).testBit k=xs.any λx=>decide (x.toNat=k):=by
 unfold mask
 rw [w7,Nat.zero_testBit,ab]
theorem VA {xs:List Int} {n:Nat} (h: ∀x∈xs,x.toNat<n):mask xs<2^n:=by
 refine Nat.lt_pow_two_of_testBit _ λk hk=>?_
 rw [ql]
 refine Jc.2 λht=>?_
 obtain ⟨x,hx,he⟩:=Eu.1 ht
 have:=h x hx
 have:=Ff he
 omega
theorem u3 {xs:List Int} (h: ∀x∈xs,0<=x/\x<xs.length):mask xs=2^xs.length-1↔ ∀k:Nat,k<xs.length->(k:Int)∈xs:=by
 constructor
 ·intro e k hk
  have h1:=ql xs k
  rw [e,Nat.testBit_two_pow_sub_one,Dg hk] at h1
  obtain ⟨x,hx,he⟩:=Eu.1 h1.symm
  have:=(h x hx).1
  have:=Ff he
  have e:x=(k:Int):=by omega
  exact e▸hx
 ·intro ha
  refine Nat.eq_of_testBit_eq λk=>?_
  rw [ql,Nat.testBit_two_pow_sub_one]
  by_cases hk:k<xs.length
  ·rw [Dg hk]
   exact Eu.2 ⟨k,ha k hk,by simp⟩
  ·rw [Ht hk]
   refine Jc.2 λht=>?_
   obtain ⟨x,hx,he⟩:=Eu.1 ht
   have:=h x hx
   have:=Ff he
   omega
theorem VD {m:Nat} {x:Int} (hm:m<2^20) (h0:0<=x) (h1:x<20):
  IntKind.i64.wrap (((BitVec.ofInt IntKind.i64.bits (m:Int)|||BitVec.ofInt IntKind.i64.bits (IntKind.i64.wrap ((1:Int)*(2:Int)^min x.toNat IntKind.i64.bits))).toNat:Nat):Int)=((m|||2^x.toNat:Nat):Int):=by
 have hx:(2:Nat)^x.toNat<2^20:=Nat.pow_lt_pow_right (by omega) (by omega)
 have e1:min x.toNat IntKind.i64.bits=x.toNat:=by show min x.toNat 64=_;omega
 have e2:(1:Int)*(2:Int)^x.toNat=((2^x.toNat:Nat):Int):=by rw [Int.one_mul];exact (Int.natCast_pow 2 _).symm
 rw [e1,e2,Cs (n:=((2^x.toNat:Nat):Int)) (by have:(0:Int)<=((2^x.toNat:Nat):Int):=Int.natCast_nonneg _;omega) (by omega)]
 show IntKind.i64.wrap (((BitVec.ofInt 64 (m:Int)|||BitVec.ofInt 64 ((2^x.toNat:Nat):Int)).toNat:Nat):Int)=_
 rw [BitVec.ofInt_natCast,BitVec.ofInt_natCast,BitVec.toNat_or,BitVec.toNat_ofNat,BitVec.toNat_ofNat,Nat.mod_eq_of_lt (by omega),Nat.mod_eq_of_lt (by omega)]
 have:=Nat.or_lt_two_pow hm hx
 exact Cs (by omega) (by omega)
theorem wv (p:List Int) (h:short p):fnW Fz (look [(65,Dh),(152,Qd)]) Ib Try.f169 (p,()) (λ(z:Bool)=>z=Gp p):=by
 have hs:=h
 unfold short at h
 refine Eq.mp (xB p _) ⟨_,Ab trivial,⟨λhp=>?_,λhp=>?_⟩⟩
 ·have hp:=Ga hp
  rw [Ey] at hp
  dsimp only at hp
  exact Ds λhh=>hp ⟨by omega,by omega⟩
 ·have hp:=Fe hp
  rw [Ey] at hp
  dsimp only at hp
  refine Cu p.length (λv=>v.1) (λj _=>DL p.length p j) rfl (λj _ hj=>absurd hj (Jw _)) ?_
  rintro j ⟨i,⟨⟩⟩ K hj hi hR hK
  dsimp only at hi⊢
  subst hi
  refine Br.dec (λhl=>?_) λhl=>?_
  ·have hl:j<p.length:=by omega
   refine ⟨_,Df hl,_,Ab trivial,⟨λhq=>?_,λhq=>?_⟩⟩
   ·have hq:=Ga hq
    rw [Ey,Cs (by omega) (by omega)] at hq
    exact Ds λhh=>hq ⟨(hh.2.2 j hl hl).1,(hh.2.2 j hl hl).2.1⟩
   ·have hq:=Fe hq
    rw [Ey,Cs (by omega) (by omega)] at hq
    refine ⟨⟨by omega,by omega,by omega⟩,_,Df hl,?_⟩
    rw [show (Int.toNat 0)=0 from rfl,Im,Bh]
    refine ⟨_,Ab (EN hs j),⟨λhc=>?_,λhc=>?_⟩⟩
    ·have hc:decide (p[j]∈p.take j)=true:=hc
     rw [Lr] at hc
     exact Ds λhh=>(hh.2.2 j hl hl).2.2 hc
    ·have hc:decide (p[j]∈p.take j)=false:=hc
     rw [decide_eq_false_iff_not] at hc
     rw [Dw (by omega)]
     exact hK hl _ rfl (TU hl hR hq.1 hq.2 hc)
  ·have:j=p.length:=by omega
   subst this
   exact Ob ⟨by omega,by omega,hR⟩
theorem Xc:Sound Try.prog 169 Ib:=
 Sound.Hg Ef (Au Sy (Au lQ Bt)) mixed Try.func169 (by kernel_rfl) (by kernel_rfl) λx h=>wv x.1 h
theorem wj (p:List Int) (h:short p):fnW Fz (look [(94,Dh),(140,Wy)]) Ib Try.f141 (p,()) (λ(z:Bool)=>z=Gp p):=by
 unfold short at h
 refine Eq.mp (xu p _) ⟨_,Ab trivial,_,Ab trivial,⟨λhp=>?_,λhp=>?_⟩⟩
 ·have hp:=Ga hp
  rw [Ey] at hp
  dsimp only at hp
  exact Ds λhh=>hp ⟨by omega,by omega⟩
 ·have hp:=Fe hp
  rw [Ey] at hp
  dsimp only at hp
  refine Cu p.length (λv=>v.2.1) (λj v=>v.1=(mask (p.take j):Int)/\ ∀x∈p.take j,0<=x/\x<p.length) rfl ⟨rfl,by simp⟩ ?_
  rintro j ⟨m,i,⟨⟩⟩ K hj hi ⟨hm,hR⟩ hK
  dsimp only at hi hm⊢
  subst hi hm
  refine Br.dec (λhl=>?_) λhl=>?_
  ·have hl:j<p.length:=by omega
   refine ⟨_,Df hl,_,Ab trivial,_,Ab trivial,⟨λhq=>?_,λhq=>?_⟩⟩
   ·have hq:=Ga hq
    rw [Ey] at hq
    dsimp only at hq
    rw [Cs (by omega) (by omega)] at hq
    exact Ds λhh=>hq ⟨(hh.2.2 j hl hl).1,(hh.2.2 j hl hl).2.1⟩
   ·have hq:=Fe hq
    rw [Ey] at hq
    dsimp only at hq
    rw [Cs (by omega) (by omega)] at hq
    refine ⟨by omega,?_⟩
    rw [Dw (by omega)]
    have hb:mask (p.take j)<2^20:=VA λx hx=>by have:=hR x hx;omega
    refine hK hl _ rfl ⟨?_,?_⟩
    ·dsimp only
     rw [VD hb hq.1 (by omega),Da hl,JP]
    ·rw [Da hl]
     intro x hx
     rcases Az.1 hx with hx|hx
     ·exact hR x hx
     ·rw [Ae.1 hx];omega
  ·have:j=p.length:=by omega
   subst this
   rw [Ca] at hR⊢
   refine ⟨by omega,?_⟩
   have hx:(2:Nat)^p.length<=2^20:=Nat.pow_le_pow_right (by omega) (by omega)
   have OR:0<(2:Nat)^p.length:=Nat.two_pow_pos _
   have e1:min (p.length:Int).toNat IntKind.i64.bits=p.length:=by show min (p.length:Int).toNat 64=_;omega
   have e2:(1:Int)*(2:Int)^p.length=((2^p.length:Nat):Int):=by rw [Int.one_mul];exact (Int.natCast_pow 2 _).symm
   rw [e1,e2,Cs (n:=((2^p.length:Nat):Int)) (by omega) (by omega),Cs (by omega) (by omega)]
   have hE:((mask p:Int)==((2^p.length:Nat):Int)-1)=decide (mask p=2^p.length-1):=by
    rw [Bool.eq_iff_iff,Vv,Lr]
    omega
   show ((mask p:Int)==((2^p.length:Nat):Int)-1)=Gp p
   rw [hE]
   by_cases hf:mask p=2^p.length-1
   ·rw [Dg hf]
    have hn:=(bJ hR).1 ((u3 hR).1 hf)
    refine Ob ⟨by omega,by omega,λj hj _=>?_⟩
    have:=hR _ (Ak hj)
    exact ⟨this.1,by omega,hn j hj⟩
   ·rw [Ht hf]
    refine Ds λhh=>hf ((u3 hR).2 ((bJ hR).2 λj hj=>(hh.2.2 j hj hj).2.2))
theorem cN:Sound Try.prog 141 Ib:=
 Sound.Hg Ef (Au Zr (Au ke Bt)) mixed Try.func141 (by kernel_rfl) (by kernel_rfl) λx h=>wj x.1 h
theorem wu (n:Int) (g:List (List Int)) (h:Zq g):fnW Fz (look [(65,Dh),(169,Ib)]) Ps Try.f115 (n,g,()) (λ(z:Bool)=>z=Ya n g):=by
 obtain ⟨h,h4⟩:=h
 refine Eq.mp (xA n g _) ⟨_,Ab trivial,⟨λhp=>?_,λhp=>?_⟩⟩
 ·have hp:=Ga hp
  rw [Ey] at hp
  exact Ds λhh=>hp hh.1
 ·have hp:=Fe hp
  rw [Ey] at hp
  refine Br.dec (λhg=>?_) λhg=>?_
  ·exact Ds λhh=>by have:=hh.2.1;omega
  ·refine Cu g.length (λv=>v.1) (λj _=> ∀p∈g.take j,Cj n p=true) rfl (by simp) ?_
   rintro j ⟨i,⟨⟩⟩ K hj hi hR hK
   dsimp only at hi⊢
   subst hi
   refine Br.dec (λhl=>?_) λhl=>?_
   ·have hl:j<g.length:=by omega
    have hm:g[j]∈g:=Ak hl
    refine ⟨_,Df hl,⟨λhe=>?_,λhe=>?_⟩⟩
    ·simp only [bne_iff_ne,ne_eq] at he
     exact Ds λhh=>he (Fp.1 (hh.2.2 _ hm)).1
    ·simp only [We] at he
     refine ⟨_,Df hl,_,Ab (h4 _ hm),⟨λhq=>?_,λhq=>?_⟩⟩
     ·have hq:=Ga hq
      exact Ds λhh=>hq (Fp.1 (hh.2.2 _ hm)).2
     ·have hq:=Fe hq
      rw [Dw (by omega)]
      refine hK hl _ rfl ?_
      rw [Da hl]
      intro x hx
      rcases Az.1 hx with hx|hx
      ·exact hR x hx
      ·rw [Ae.1 hx];exact Fp.2 ⟨he,hq⟩
   ·have:j=g.length:=by omega
    subst this
    rw [Ca] at hR
    exact Ob ⟨hp,by omega,hR⟩
theorem nh:Sound Try.prog 115 Ps:=
 Sound.Hg Ef (Au Sy (Au Xc Bt)) mixed Try.func115 (by kernel_rfl) (by kernel_rfl) λx h=>wu x.1 x.2.1 h
theorem VF (p:List Int) (n:Int) (h:short p):fnW Fz (look [(140,Wy),(141,Ib)]) ig Try.f206 (p,n,()) (λ(z:Bool)=>z=!Cj n p):=by
 refine Eq.mp (VU p n _) ⟨_,Ab trivial,⟨λhe=>?_,λhe=>⟨_,Ab h,?_⟩⟩⟩
 ·simp only [bne_iff_ne,ne_eq] at he
  have:Cj n p=false:=TR.2 λhh=>he hh.1
  rw [this];rfl
 ·simp only [We] at he
  show (!Gp p)=_
  congr 1
  cases hp:Gp p with
  |true=>exact Ob ⟨he,hp⟩
  |false=>exact Ds λhh=>by rw [hh.2] at hp;cases hp
theorem zJ:Sound Try.prog 206 ig:=
 Sound.Hg Ef (Au ke (Au cN Bt)) mixed Try.func206 (by kernel_rfl) (by kernel_rfl) λx h=>VF x.1 x.2.1 h
theorem gf {α:Type} (P:α->Bool): ∀(l:List α) (i:Int),0<=i->(0<=Ia P l i↔l.any P=true)
 | [],i,_=>by simp [Ia]
 |y::r,i,h=>by
  simp only [Ia,List.any_cons,Lk]
  split
  ·rename_i hy;simp [hy,h]
  ·rename_i hy;rw [gf P r (i+1) (by omega)];simp [hy]
theorem Aes (g:List (List Int)) (n:Int×Unit) (h:Zq g):fnW Fz (look [(206,ig)]) uo Try.f197 (g,n,()) (λ(z:Int)=>z=Ia (λp=>!Cj n.1 p) g 0):=by
 obtain ⟨h,h4⟩:=h
 refine Eq.mp (Afb g n _) ?_
 refine Cu g.length (λv=>v.1) (λj _=>Ia (λp=>!Cj n.1 p) (g.drop j) j=Ia (λp=>!Cj n.1 p) g 0) rfl (by simp) ?_
 rintro j ⟨i,⟨⟩⟩ K hj hi hR hK
 dsimp only at hi⊢
 subst hi
 refine Br.dec (λhl=>?_) λhl=>?_
 ·have hl:j<g.length:=by omega
  rw [Bu hl] at hR
  simp only [Ia] at hR
  refine ⟨_,Df hl,_,Ab (h4 _ (Ak hl)),⟨λhe=>?_,λhe=>?_⟩⟩
  ·have he:(!Cj n.1 g[j])=true:=he
   rw [Ab he] at hR
   exact hR
  ·have he:(!Cj n.1 g[j])=false:=he
   rw [Ai (by rw [he];decide)] at hR
   rw [Dw (by omega)]
   exact hK hl _ rfl (by push_cast;exact hR)
 ·have:j=g.length:=by omega
  subst this
  rw [Oq] at hR
  exact hR
theorem KV:Sound Try.prog 197 uo:=
 Sound.Hg Ef (Au zJ Bt) mixed Try.func197 (by kernel_rfl) (by kernel_rfl) λx h=>Aes x.1 x.2.1 h
theorem Aeq (g:List (List Int)) (n:Int×Unit) (h:Zq g):fnW Fz (look [(197,uo)]) uk Try.f205 (g,n,()) (λ(z:Bool)=>z=List.any g (λp=>!Cj n.1 p)):=by
 refine Eq.mp (Af9 g n _) ⟨_,Ab h,?_⟩
 rw [Bool.eq_iff_iff,Lr]
 exact gf _ g 0 (bY 0)
theorem KT:Sound Try.prog 205 uk:=
 Sound.Hg Ef (Au KV Bt) mixed Try.func205 (by kernel_rfl) (by kernel_rfl) λx h=>Aeq x.1 x.2.1 h
theorem wi (n:Int) (g:List (List Int)) (h:Zq g):fnW Fz (look [(94,Dh),(205,uk)]) Ps Try.f173 (n,g,()) (λ(z:Bool)=>z=Ya n g):=by
 refine Eq.mp (xt n g _) ⟨_,Ab trivial,⟨λhp=>?_,λhp=>?_⟩⟩
 ·have hp:Oh n 1 20=true:=hp
  rw [Ey] at hp
  refine Br.dec (λhl=>⟨_,Ab h,?_⟩) λhl=>?_
  ·show (!List.any g (λp=>!Cj n p))=Ya n g
   cases ha:List.any g (λp=>!Cj n p) with
   |true=>
    obtain ⟨p,tH,tJ⟩:=Eu.1 ha
    exact Ds λhh=>by rw [hh.2.2 p tH] at tJ;cases tJ
   |false=>
    refine Ob ⟨hp,by omega,λp hm=>?_⟩
    have:=List.any_eq_false.1 ha p hm
    simpa using this
  ·exact Ds λhh=>by have:=hh.2.1;omega
 ·refine Ds λhh=>?_
  have:Oh n 1 20=true:=Ey.2 hh.1
  have hp:Oh n 1 20=false:=hp
  rw [this] at hp;cases hp
theorem nd:Sound Try.prog 173 Ps:=
 Sound.Hg Ef (Au Zr (Au KT Bt)) mixed Try.func173 (by kernel_rfl) (by kernel_rfl) λx h=>wi x.1 x.2.1 h
theorem Mj {s:ByteArray} {k:Nat} (h:k<s.size):s[k]?=some s[k]:=getElem?_pos s k h
theorem QN (s:ByteArray) (i:Int) (h:0<=i/\i<s.size/\s.size<=4294967296):fnW Fz (look []) cJ Try.f116 (s,i,()) (λ(z:Bool)=>z=lq s i):=by
 obtain ⟨h1,h2,h3⟩:=h
 have hi:i.toNat<s.size:=by omega
 refine Eq.mp (SK s i _) ⟨h1,_,Mj hi,Br.dec (λhq=>?_) λhq=>⟨h1,_,Mj hi,Br.dec (λhr=>?_) λhr=>?_⟩⟩
 ·refine Ds λ⟨c,hc,UE,_⟩=>?_
  rw [Mj hi] at hc;cases hc;omega
 ·refine Ds λ⟨c,hc,_,UE,_⟩=>?_
  rw [Mj hi] at hc;cases hc;omega
 ·refine Cu i.toNat (λv=>v.1) (λj _=> ∀k,k<j->s[k]?≠some s[i.toNat]) rfl (λk hk=>absurd hk (Jw _)) ?_
  rintro j ⟨i',⟨⟩⟩ K hj oS hR hK
  dsimp only at oS⊢
  subst oS
  refine Br.dec (λhl=>?_) λhl=>?_
  ·have hl:j<i.toNat:=by omega
   have hj:j<s.size:=by omega
   rw [Bh]
   refine ⟨by omega,_,Mj hj,h1,_,Mj hi,⟨λhe=>?_,λhe=>?_⟩⟩
   ·simp only [Vv,Ll] at he
    refine Ds λ⟨c,hc,_,_,UE⟩=>?_
    rw [Mj hi] at hc;cases hc
    exact UE j hl (by rw [Mj hj,UInt8.toNat_inj.1 he])
   ·simp only [Iy,ne_eq,Ll] at he
    rw [Dw (by omega)]
    refine hK hl _ rfl λk hk=>?_
    by_cases e:k=j
    ·subst e
     rw [Mj hj]
     exact λe=>he (by rw [Aw e])
    ·exact hR k (by omega)
  ·have:j=i.toNat:=by omega
   subst this
   exact Ob ⟨_,Mj hi,by omega,by omega,hR⟩
theorem wX:Sound Try.prog 116 cJ:=
 Sound.Hg Ef Bt mixed Try.func116 (by kernel_rfl) (by kernel_rfl) λx h=>QN x.1 x.2.1 h
theorem JZ (s:ByteArray) (h:s.size<=4294967296):fnW Fz (look [(94,Dh)]) a5 Try.f174 (s,()) (λ(z:Bool)=>z=Zx s):=by
 refine Eq.mp (LV s _) ?_
 refine Cu s.size (λv=>v.1) (λj _=> ∀k,k<j->uO s k) rfl (λk hk=>absurd hk (Jw _)) ?_
 rintro j ⟨i,⟨⟩⟩ K hj hi hR hK
 dsimp only at hi⊢
 subst hi
 refine Br.dec (λhl=>?_) λhl=>?_
 ·have hl:j<s.size:=by omega
  rw [Bh]
  have hb:=(s[j]).toNat_lt
  refine ⟨by omega,_,Mj hl,_,Ab trivial,⟨λhq=>?_,λhq=>?_⟩⟩
  ·have hq:=Ga hq
   rw [Ey] at hq
   dsimp only at hq
   rw [Cs (by omega) (by omega)] at hq
   refine Ds λhh=>?_
   obtain ⟨c,hc,UE,hc2,_⟩:=hh.2 j hl
   rw [Mj hl] at hc;cases hc
   exact hq ⟨by omega,by omega⟩
  ·have hq:=Fe hq
   rw [Ey] at hq
   dsimp only at hq
   rw [Cs (by omega) (by omega)] at hq
   refine Cu j (λv=>v.1) (λm _=> ∀k,k<m->s[k]?≠some s[j]) rfl (λk hk=>absurd hk (Jw _)) ?_
   rintro m ⟨i',⟨⟩⟩ K' hm oS hR' hK'
   dsimp only at oS⊢
   subst oS
   refine Br.dec (λNt=>?_) λNt=>?_
   ·have Nt:m<j:=by omega
    have hm':m<s.size:=by omega
    rw [Bh]
    refine ⟨by omega,_,Mj hm',by omega,_,Mj hl,⟨λhe=>?_,λhe=>?_⟩⟩
    ·simp only [Vv,Ll] at he
     refine Ds λhh=>?_
     obtain ⟨c,hc,_,_,UE⟩:=hh.2 j hl
     rw [Mj hl] at hc;cases hc
     exact UE m Nt (by rw [Mj hm',UInt8.toNat_inj.1 he])
    ·simp only [Iy,ne_eq,Ll] at he
     rw [Dw (by omega)]
     refine hK' Nt _ rfl λk hk=>?_
     by_cases e:k=m
     ·subst e
      rw [Mj hm']
      exact λe=>he (by rw [Aw e])
     ·exact hR' k (by omega)
   ·have:m=j:=by omega
    subst this
    rw [Dw (by omega)]
    refine hK hl _ rfl λk hk=>?_
    by_cases e:k=m
    ·subst e
     exact ⟨_,Mj hl,by omega,by omega,hR'⟩
    ·exact hR k (by omega)
 ·have:j=s.size:=by omega
  subst this
  refine ⟨_,Ab trivial,?_⟩
  show Oh s.size 1 8=_
  cases hr:Oh s.size 1 8 with
  |true=>rw [Ey] at hr;exact Ob ⟨by omega,hR⟩
  |false=>refine Ds λhh=>?_;rw [Ey.2 ⟨by omega,by omega⟩] at hr;cases hr
theorem sC:Sound Try.prog 174 a5:=
 Sound.Hg Ef (Au Zr Bt) mixed Try.func174 (by kernel_rfl) (by kernel_rfl) λx h=>JZ x.1 h
theorem rz {p:PP} (h:Bc p=true):1<=p.1/\p.1<=20/\1<=p.2.2.1.length/\p.2.2.1.length<=8:=by
 obtain ⟨h1,h2,h3⟩:=Fp.1 h
 obtain ⟨h4,h5,_⟩:=Fp.1 h1
 obtain ⟨h6,_⟩:=Fp.1 h2
 omega
theorem wy (p:PP) (h:Gq p):fnW Fz (look [(115,Ps),(116,cJ)]) Ic Try.f47 (p,()) (λ(z:Bool)=>z=Bc p):=by
 obtain ⟨hn,hg⟩:=h
 refine Eq.mp (xD p _) ⟨λh0=>?_,λh0=>⟨λh1=>?_,λh1=>⟨_,Ab hg,⟨λh2=>?_,λh2=>?_⟩⟩⟩⟩
 ·simp only [Vv] at h0
  exact Ds λhh=>by obtain ⟨_,h2,h3⟩:=hh;have:=(Fp.1 h2).1;omega
 ·simp only [bne_iff_ne,ne_eq,Ll] at h1
  exact Ds λhh=>h1 hh.2.2
 ·have h2:=Ga h2
  exact Ds λhh=>h2 hh.1
 ·simp only [Iy,ne_eq] at h0
  simp only [We,Ll] at h1
  have h2:Ya p.1 p.2.2.1=true:=Fe h2
  refine Cu p.2.1.size (λv=>v.1) (λj v=>v.2=(p.1,p.2.1,p.2.2.1,())/\ ∀k,k<j->uO p.2.1 k) rfl ⟨rfl,λk hk=>absurd hk (Jw _)⟩ ?_
  rintro j ⟨i,v⟩ K hj hi ⟨hv,hR⟩ hK
  dsimp only at hi hv⊢
  subst hi hv
  dsimp only
  refine Br.dec (λhl=>?_) λhl=>?_
  ·have hl:j<p.2.1.size:=by omega
   refine ⟨_,Ab ⟨Int.natCast_nonneg j,Int.ofNat_lt.2 hl,hn⟩,⟨λhq=>?_,λhq=>?_⟩⟩
   ·have hq: ¬lq p.2.1 j=true:=Ga hq
    refine Ds λhh=>hq (Fp.2 ?_)
    rw [Bh]
    exact (Fp.1 hh.2.1).2 j hl
   ·have hq:lq p.2.1 j=true:=Fe hq
    have hq:=Fp.1 hq
    rw [Bh] at hq
    rw [Dw (by omega)]
    refine hK hl _ rfl ⟨rfl,λk hk=>?_⟩
    by_cases e:k=j
    ·subst e;exact hq
    ·exact hR k (by omega)
  ·have:j=p.2.1.size:=by omega
   subst this
   have:=(Fp.1 h2).2.1
   exact Ob ⟨h2,Fp.2 ⟨⟨by omega,by omega⟩,hR⟩,h1⟩
theorem Xd:Sound Try.prog 47 Ic:=
 Sound.Hg Ef (Au nh (Au wX Bt)) mixed Try.func47 (by kernel_rfl) (by kernel_rfl) λx h=>wy x.1 h
theorem wm (p:PP) (h:Gq p):fnW Fz (look [(173,Ps),(174,a5)]) Ic Try.f119 (p,()) (λ(z:Bool)=>z=Bc p):=by
 obtain ⟨hn,hg⟩:=h
 refine Eq.mp (xx p _) ⟨_,Ab hg,⟨λh1=>⟨_,Ab hn,⟨λh2=>?_,λh2=>?_⟩⟩,λh1=>?_⟩⟩
 ·have h1:Ya p.1 p.2.2.1=true:=h1
  have h2:Zx p.2.1=true:=h2
  by_cases e:p.2.1.size=p.2.2.1.length
  ·rw [e,beq_self_eq_true];exact Ob ⟨h1,h2,e⟩
  ·rw [show ((p.2.1.size:Int)==(p.2.2.1.length:Int))=false from Iy.2 (by omega)];exact Ds λhh=>e hh.2.2
 ·have h2:Zx p.2.1=false:=h2
  exact Ds λhh=>by rw [hh.2.1] at h2;cases h2
 ·have h1:Ya p.1 p.2.2.1=false:=h1
  exact Ds λhh=>by rw [hh.1] at h1;cases h1
theorem cP:Sound Try.prog 119 Ic:=
 Sound.Hg Ef (Au nd (Au sC Bt)) mixed Try.func119 (by kernel_rfl) (by kernel_rfl) λx h=>wm x.1 h
noncomputable abbrev cK:Spec:=Hg (.pair tI (.pair tL .unit)) .bool false true (λx=>short x.2.1) (λx=>Cj x.1 x.2.1)
noncomputable abbrev Hw:Spec:=Hg (.pair Ij (.pair tL .unit)) .bool false true (λx=>short x.2.1) (λx=>Cj x.1.1 x.2.1)
noncomputable abbrev Gv:Spec:=Hg (.pair Ij (.pair tL .unit)) .bool false true (λx=>Gq x.1/\short x.2.1) (λx=>Bc x.1&&Cj x.1.1 x.2.1)
theorem SL (n:Int) (s:List Int) (P:Bool->Prop):(Br ((↑s.length:Int)==n) (∃(y3:Bool),Ib.fn (s,())=some y3/\P y3) (P false))=fnW Fz (look [(169,Ib)]) cK Try.f148 (n,s,()) P:=by kernel_rfl
theorem rD (p:Int×ByteArray×List (List Int)×Unit) (s:List Int) (P:Bool->Prop):(∃(y3:Int),Wy.fn (s,())=some y3/\Br (y3==p.1) (∃(y4:Bool),Ib.fn (s,())=some y4/\P y4) (P false))=fnW Fz (look [(140,Wy),(141,Ib)]) Hw Try.f67 (p,s,()) P:=by kernel_rfl
theorem sW (p:Int×ByteArray×List (List Int)×Unit) (s:List Int) (P:Bool->Prop):(∃(y3:Bool),Ic.fn ((p.1,p.2.1,p.2.2.1,()),())=some y3/\Br y3 (∃(y4:Bool),cK.fn (p.1,s,())=some y4/\P y4) (P false))=fnW Fz (look [(47,Ic),(148,cK)]) Gv Try.f73 (p,s,()) P:=by kernel_rfl
theorem sS (p:Int×ByteArray×List (List Int)×Unit) (s:List Int) (P:Bool->Prop):(∃(y3:Bool),Ic.fn ((p.1,p.2.1,p.2.2.1,()),())=some y3/\Br y3 (∃(y4:Bool),Hw.fn ((p.1,p.2.1,p.2.2.1,()),s,())=some y4/\P y4) (P false))=fnW Fz (look [(119,Ic),(67,Hw)]) Gv Try.f78 (p,s,()) P:=by kernel_rfl
theorem QO (n:Int) (s:List Int) (h:short s):fnW Fz (look [(169,Ib)]) cK Try.f148 (n,s,()) (λ(z:Bool)=>z=Cj n s):=by
 refine Eq.mp (SL n s _) ⟨λhe=>⟨_,Ab h,?_⟩,λhe=>?_⟩
 ·simp only [Vv] at he
  show Gp s=_
  cases hp:Gp s with
  |true=>exact Ob ⟨he,hp⟩
  |false=>exact Ds λhh=>by rw [hh.2] at hp;cases hp
 ·simp only [Iy,ne_eq] at he
  exact Ds λhh=>he hh.1
theorem wY:Sound Try.prog 148 cK:=
 Sound.Hg Ef (Au Xc Bt) mixed Try.func148 (by kernel_rfl) (by kernel_rfl) λx h=>QO x.1 x.2.1 h
theorem qA (p:PP) (s:List Int) (h:short s):fnW Fz (look [(140,Wy),(141,Ib)]) Hw Try.f67 (p,s,()) (λ(z:Bool)=>z=Cj p.1 s):=by
 refine Eq.mp (rD p s _) ⟨_,Ab trivial,⟨λhe=>⟨_,Ab h,?_⟩,λhe=>?_⟩⟩
 ·simp only [Vv] at he
  show Gp s=_
  cases hp:Gp s with
  |true=>exact Ob ⟨he,hp⟩
  |false=>exact Ds λhh=>by rw [hh.2] at hp;cases hp
 ·simp only [Iy,ne_eq] at he
  exact Ds λhh=>he hh.1
theorem Pk:Sound Try.prog 67 Hw:=
 Sound.Hg Ef (Au ke (Au cN Bt)) mixed Try.func67 (by kernel_rfl) (by kernel_rfl) λx h=>qA x.1 x.2.1 h
theorem ss (p:PP) (s:List Int) (h:Gq p/\short s):fnW Fz (look [(47,Ic),(148,cK)]) Gv Try.f73 (p,s,()) (λ(z:Bool)=>z=(Bc p&&Cj p.1 s)):=by
 refine Eq.mp (sW p s _) ⟨_,Ab h.1,⟨λhe=>⟨_,Ab h.2,?_⟩,λhe=>?_⟩⟩
 ·have he:Bc p=true:=he
  rw [he];rfl
 ·have he:Bc p=false:=he
  rw [he];rfl
theorem Qn:Sound Try.prog 73 Gv:=
 Sound.Hg Ef (Au Xd (Au wY Bt)) mixed Try.func73 (by kernel_rfl) (by kernel_rfl) λx h=>ss x.1 x.2.1 h
theorem sn (p:PP) (s:List Int) (h:Gq p/\short s):fnW Fz (look [(119,Ic),(67,Hw)]) Gv Try.f78 (p,s,()) (λ(z:Bool)=>z=(Bc p&&Cj p.1 s)):=by
 refine Eq.mp (sS p s _) ⟨_,Ab h.1,⟨λhe=>⟨_,Ab h.2,?_⟩,λhe=>?_⟩⟩
 ·have he:Bc p=true:=he
  rw [he];rfl
 ·have he:Bc p=false:=he
  rw [he];rfl
theorem lS:Sound Try.prog 78 Gv:=
 Sound.Hg Ef (Au cP (Au Pk Bt)) mixed Try.func78 (by kernel_rfl) (by kernel_rfl) λx h=>sn x.1 x.2.1 h
def Jb (xs:List Int) (i:Int):Int:=xs.getD i.toNat 0
def An (p q:List Int):List Int:=p.map (Jb q)
def Xn (f:Nat->Nat) (g:Nat->Int) (m:Nat) (init:List Int):List Int:=(List.range m).foldl (λ(out:List Int) (i:Nat)=>out.set (f i) (g i)) init
def Bq (p:List Int):List Int:=Xn (λi=>(Jb p (i:Int)).toNat) (λi=>(i:Int)) p.length (List.replicate p.length 0)
def Kj (q s:List Int):List Int:=Xn (λi=>(Jb q (i:Int)).toNat) (λi=>Jb q (Jb s (i:Int))) s.length (List.replicate s.length 0)
def Cc (p q:List Int):List Int:=An (An (Bq q) p) q
def Le (n:Nat) (p:List Int):Prop:= ∀y∈p,0<=y/\y<n
noncomputable abbrev Hz:Spec:=Hg (.pair tL (.pair tL .unit)) tL false true (λx=>List.length x.1<=20/\Le (List.length x.2.1) x.1) (λx=>An x.1 x.2.1)
noncomputable abbrev Gu:Spec:=Hg (.pair tL .unit) tL false true (λx=>List.length x.1<=20/\Le (List.length x.1) x.1) (λx=>Bq x.1)
noncomputable abbrev Rp:Spec:=Hg (.pair tL (.pair tL .unit)) tL false true (λx=>List.length x.2.1<=20/\List.length x.1=List.length x.2.1/\Le (List.length x.1) x.1/\Le (List.length x.1) x.2.1) (λx=>Kj x.1 x.2.1)
noncomputable abbrev Nc:Spec:=Hg (.pair tL (.pair tL .unit)) tL false true (λx=>List.length x.1=List.length x.2.1/\Le (List.length x.1) x.1/\Gp x.2.1=true) (λx=>Cc x.1 x.2.1)
noncomputable abbrev Cv:Spec:=Hg (.pair tI .unit) tL false true (λx=>0<=x.1/\x.1<=20) (λx=>upto x.1.toNat)
noncomputable abbrev Kk:Spec:=Hg (.pair tL .unit) tL false true (λx=>Gp x.1=true) (λx=>Bq x.1)
def At (g:List (List Int)) (l:Int):List Int:=if l>0 then g.getD (l-1).toNat [] else Bq (g.getD (-l-1).toNat [])
def Fb (n:Int) (l:Int):Prop:=l≠0/\ -n<=l/\l<=n
noncomputable abbrev Kd:Spec:=Hg (.pair rm (.pair tI .unit)) tL false false (λx=>Fb (List.length x.1) x.2.1/\List.length x.1<=8/\ ∀p∈x.1,Gp p=true) (λx=>At x.1 x.2.1)
def Bk (n:Nat):List Int:=(List.range n).flatMap λ(k:Nat)=> [(k:Int)+1,-((k:Int)+1)]
noncomputable abbrev a7:Spec:=Hg (.pair tI .unit) tL false true (λx=>0<=x.1/\x.1<=8) (λx=>Bk x.1.toNat)
def Og (g:List (List Int)) (x:List Int):List Int->Int
 | []=>0
 |l::r=>if At g l=x then l else Og g x r
def JN (x:List Int):List (List Int)->Int->Int
 | [],_=>0
 |m::r,k=>if m=x then k else if Bq m=x then-k else JN x r (k+1)
def Hu (g:List (List Int)) (x:List Int):Int:=JN x g 1
noncomputable abbrev Rq:Spec:=Hg (.pair Ij (.pair tL .unit)) tI false true (λx=>Bc x.1=true/\short x.2.1) (λx=>Hu x.1.2.2.1 x.2.1)
def Jh (p:PP) (q:List Int) (l:Int):Int:=Hu p.2.2.1 (Cc (At p.2.2.1 l) q)
noncomputable abbrev Vk:Spec:=Hg (.pair Ij (.pair tL (.pair tI .unit))) tI false true (λx=>Bc x.1=true/\Cj x.1.1 x.2.1=true/\Fb (List.length x.1.2.2.1) x.2.2.1) (λx=>Jh x.1 x.2.1 x.2.2.1)
noncomputable abbrev cH:Spec:=Hg (.pair Ij (.pair tL (.pair tI .unit))) tL false true (λx=>Bc x.1=true/\List.length x.2.1<=20/\(∀y∈x.2.1,0<=y/\y<x.1.1)/\Fb (List.length x.1.2.2.1) x.2.2.1) (λx=>An x.2.1 (At x.1.2.2.1 x.2.2.1))
noncomputable def Ml (p:PP) (q:List Int):Bool:=dec (∀k:Nat,k<p.2.2.1.length->Jh p q ((k:Int)+1)≠0)
noncomputable abbrev Mg:Spec:=Hg (.pair Ij (.pair tL .unit)) .bool false true (λx=>Bc x.1=true/\Cj x.1.1 x.2.1=true) (λx=>Ml x.1 x.2.1)
noncomputable def Ss (p:PP) (q:List Int):Bool:=Bc p&&Cj p.1 q&&Ml p q
noncomputable abbrev Lp:Spec:=Hg (.pair Ij (.pair tL .unit)) .bool false true (λx=>Gq x.1/\short x.2.1) (λx=>Ss x.1 x.2.1)
theorem sQ (p q:List Int) (P:List Int->Prop):(((0:Int)<=(↑p.length:Int)/\(↑p.length:Int)<(↑Fu:Int)+(1:Int))/\(↑p.length:Int)=(↑p.length:Int)/\0=0/\(List.replicate (↑p.length:Int).toNat (Int.ofNat (nat_lit 0))).length=(List.replicate (↑p.length:Int).toNat (Int.ofNat (nat_lit 0))).length/\Ek (λ(v3:Int×List Int×PUnit) (k4:Int×List Int×PUnit->Prop)=>Br (decide (v3.1<(↑p.length:Int))) (∃(y5:Int),idx p v3.1=some y5/\ ∃(y6:Int),idx q y5=some y6/\((0:Int)<=v3.1/\v3.1<(↑v3.2.1.length:Int))/\0+v3.1.toNat<v3.2.1.length/\0=0/\v3.2.1.length=(v3.2.1.set (0+v3.1.toNat) y6).length/\k4 (IntKind.i64.wrap (v3.1+(1:Int)),v3.2.1.set (0+v3.1.toNat) y6,())) (P (List.take v3.2.1.length (List.drop 0 v3.2.1)))) ((0:Int),List.replicate (↑p.length:Int).toNat (Int.ofNat (nat_lit 0)),PUnit.unit))=fnW Fz (look []) Hz Try.f142 (p,q,()) P:=by kernel_rfl
theorem sR (p:List Int) (P:List Int->Prop):(((0:Int)<=(↑p.length:Int)/\(↑p.length:Int)<(↑Fu:Int)+(1:Int))/\(↑p.length:Int)=(↑p.length:Int)/\0=0/\(List.replicate (↑p.length:Int).toNat (Int.ofNat (nat_lit 0))).length=(List.replicate (↑p.length:Int).toNat (Int.ofNat (nat_lit 0))).length/\Ek (λ(v2:Int×List Int×PUnit) (k3:Int×List Int×PUnit->Prop)=>Br (decide (v2.1<(↑p.length:Int))) (∃(y4:Int),idx p v2.1=some y4/\((0:Int)<=y4/\y4<(↑v2.2.1.length:Int))/\0+y4.toNat<v2.2.1.length/\0=0/\v2.2.1.length=(v2.2.1.set (0+y4.toNat) v2.1).length/\k3 (IntKind.i64.wrap (v2.1+(1:Int)),v2.2.1.set (0+y4.toNat) v2.1,())) (P (List.take v2.2.1.length (List.drop 0 v2.2.1)))) ((0:Int),List.replicate (↑p.length:Int).toNat (Int.ofNat (nat_lit 0)),PUnit.unit))=fnW Fz (look []) Gu Try.f143 (p,()) P:=by kernel_rfl
theorem MA (p:List Int) (P:List Int->Prop):(((0:Int)<=(↑p.length:Int)/\(↑p.length:Int)<(↑Fu:Int)+(1:Int))/\(↑p.length:Int)=(↑p.length:Int)/\0=0/\(List.replicate (↑p.length:Int).toNat (Int.ofNat (nat_lit 0))).length=(List.replicate (↑p.length:Int).toNat (Int.ofNat (nat_lit 0))).length/\Ek (λ(v2:Int×List Int×PUnit) (k3:Int×List Int×PUnit->Prop)=>Br (decide (v2.1<(↑p.length:Int))) (∃(y4:Int),idx p v2.1=some y4/\((0:Int)<=y4/\y4<(↑v2.2.1.length:Int))/\0+y4.toNat<v2.2.1.length/\0=0/\v2.2.1.length=(v2.2.1.set (0+y4.toNat) v2.1).length/\k3 (IntKind.i64.wrap (v2.1+(1:Int)),v2.2.1.set (0+y4.toNat) v2.1,())) (P (List.take v2.2.1.length (List.drop 0 v2.2.1)))) ((0:Int),List.replicate (↑p.length:Int).toNat (Int.ofNat (nat_lit 0)),PUnit.unit))=fnW Fz (look []) Gu Try.f190 (p,()) P:=by kernel_rfl
theorem sV (p:List Int) (P:List Int->Prop):(∃(y2:Bool),Ib.fn (p,())=some y2/\Br (!y2) (P (List.take 0 (List.drop 0 []))) (∃(y3:List Int),Gu.fn (p,())=some y3/\P y3))=fnW Fz (look [(169,Ib),(190,Gu)]) Kk Try.f187 (p,()) P:=by kernel_rfl
theorem xq (q s:List Int) (P:List Int->Prop):(((0:Int)<=(↑s.length:Int)/\(↑s.length:Int)<(↑Fu:Int)+(1:Int))/\(↑s.length:Int)=(↑s.length:Int)/\0=0/\(List.replicate (↑s.length:Int).toNat (Int.ofNat (nat_lit 0))).length=(List.replicate (↑s.length:Int).toNat (Int.ofNat (nat_lit 0))).length/\Ek (λ(v3:Int×List Int×PUnit) (k4:Int×List Int×PUnit->Prop)=>Br (decide (v3.1<(↑s.length:Int))) (∃(y5:Int),idx q v3.1=some y5/\ ∃(y6:Int),idx s v3.1=some y6/\ ∃(y7:Int),idx q y6=some y7/\((0:Int)<=y5/\y5<(↑v3.2.1.length:Int))/\0+y5.toNat<v3.2.1.length/\0=0/\v3.2.1.length=(v3.2.1.set (0+y5.toNat) y7).length/\k4 (IntKind.i64.wrap (v3.1+(1:Int)),v3.2.1.set (0+y5.toNat) y7,())) (P (List.take v3.2.1.length (List.drop 0 v3.2.1)))) ((0:Int),List.replicate (↑s.length:Int).toNat (Int.ofNat (nat_lit 0)),PUnit.unit))=fnW Fz (look []) Rp Try.f87 (q,s,()) P:=by kernel_rfl
theorem AI (p q:List Int) (P:List Int->Prop):(∃(y3:List Int),Gu.fn (q,())=some y3/\ ∃(y4:List Int),Hz.fn (y3,p,())=some y4/\ ∃(y5:List Int),Hz.fn (y4,q,())=some y5/\P y5)=fnW Fz (look [(143,Gu),(142,Hz)]) Nc Try.f68 (p,q,()) P:=by kernel_rfl
theorem FI (n:Int) (P:List Int->Prop):(0=0/\0=([]:List Int).length/\Ek (λ(v2:Int×List Int×PUnit) (k3:Int×List Int×PUnit->Prop)=>Br (decide (v2.1<n)) (0=0/\v2.2.1.length=v2.2.1.length/\v2.2.1.length+(List.take 1 (List.drop 0 [v2.1])).length<=Fu/\0=0/\(v2.2.1++List.take 1 (List.drop 0 [v2.1])).length=(v2.2.1++List.take 1 (List.drop 0 [v2.1])).length/\k3 (IntKind.i64.wrap (v2.1+(1:Int)),v2.2.1++List.take 1 (List.drop 0 [v2.1]),())) (P (List.take v2.2.1.length (List.drop 0 v2.2.1)))) ((0:Int),[],PUnit.unit))=fnW Fz (look []) Cv Try.f66 (n,()) P:=by kernel_rfl
theorem FL (g:List (List Int)) (l:Int) (P:List Int->Prop):(Br (decide (l>(0:Int))) (∃(y3:List Int),idx g (IntKind.i64.wrap (l-(1:Int)))=some y3/\P y3) (∃(y3:List Int),idx g (IntKind.i64.wrap (IntKind.i64.wrap ((0:Int)-l)-(1:Int)))=some y3/\ ∃(y4:List Int),Gu.fn (y3,())=some y4/\P y4))=fnW Fz (look [(143,Gu)]) Kd Try.f147 (g,l,()) P:=by kernel_rfl
theorem LX (n:Int) (P:List Int->Prop):(0=0/\0=([]:List Int).length/\Ek (λ(v2:Int×List Int×PUnit) (k3:Int×List Int×PUnit->Prop)=>Br (decide (v2.1<n)) (0=0/\v2.2.1.length=v2.2.1.length/\v2.2.1.length+(List.take 2 (List.drop 0 [IntKind.i64.wrap (v2.1+(1:Int)),IntKind.i64.wrap ((0:Int)-IntKind.i64.wrap (v2.1+(1:Int)))])).length<=Fu/\0=0/\(v2.2.1++List.take 2 (List.drop 0 [IntKind.i64.wrap (v2.1+(1:Int)),IntKind.i64.wrap ((0:Int)-IntKind.i64.wrap (v2.1+(1:Int)))])).length=(v2.2.1++List.take 2 (List.drop 0 [IntKind.i64.wrap (v2.1+(1:Int)),IntKind.i64.wrap ((0:Int)-IntKind.i64.wrap (v2.1+(1:Int)))])).length/\k3 (IntKind.i64.wrap (v2.1+(1:Int)),v2.2.1++List.take 2 (List.drop 0 [IntKind.i64.wrap (v2.1+(1:Int)),IntKind.i64.wrap ((0:Int)-IntKind.i64.wrap (v2.1+(1:Int)))]),())) (P (List.take v2.2.1.length (List.drop 0 v2.2.1)))) ((0:Int),[],PUnit.unit))=fnW Fz (look []) a7 Try.f121 (n,()) P:=by kernel_rfl
abbrev uF:Type:=Int×Int×ByteArray×List (List Int)×PUnit
theorem SI (p:Int×ByteArray×List (List Int)×Unit) (q:List Int) (l:Int) (P:Int->Prop):(∃(y4:List Int),Kd.fn (p.2.2.1,l,())=some y4/\ ∃(y5:List Int),Nc.fn (y4,q,())=some y5/\ ∃(y6:List Int),a7.fn ((↑p.2.2.1.length:Int),())=some y6/\Ek (λ(v7:uF) (k8:uF->Prop)=>Br (decide (v7.1<(↑y6.length:Int))) (∃(y9:Int),idx y6 v7.1=some y9/\ ∃(cS:List Int),Kd.fn (v7.2.2.2.1,y9,())=some cS/\ ∃(Xr:Bool),El.fn (cS,y5,())=some Xr/\Br Xr (P y9) (k8 (IntKind.i64.wrap (v7.1+(1:Int)),v7.2.1,v7.2.2.1,v7.2.2.2.1,()))) (P (0:Int))) ((0:Int),p.1,p.2.1,p.2.2.1,PUnit.unit))=fnW Fz (look [(68,Nc),(147,Kd),(121,a7),(82,El)]) Vk Try.f72 (p,q,l,()) P:=by kernel_rfl
abbrev j9:Type:=Int×Int×ByteArray×List (List Int)×PUnit
theorem xz (p:Int×ByteArray×List (List Int)×Unit) (x:List Int) (P:Int->Prop):(Ek (λ(v3:j9) (k4:j9->Prop)=>Br (decide (v3.1<=(↑v3.2.2.2.1.length:Int))) (∃(y5:List Int),idx v3.2.2.2.1 (IntKind.i64.wrap (v3.1-(1:Int)))=some y5/\ ∃(y6:Bool),El.fn (y5,x,())=some y6/\Br y6 (P v3.1) (∃(y7:List Int),idx v3.2.2.2.1 (IntKind.i64.wrap (v3.1-(1:Int)))=some y7/\ ∃(y8:List Int),Kk.fn (y7,())=some y8/\ ∃(y9:Bool),El.fn (y8,x,())=some y9/\Br y9 (P (IntKind.i64.wrap ((0:Int)-v3.1))) (k4 (IntKind.i64.wrap (v3.1+(1:Int)),v3.2.1,v3.2.2.1,v3.2.2.2.1,())))) (P (0:Int))) ((1:Int),p.1,p.2.1,p.2.2.1,PUnit.unit))=fnW Fz (look [(80,El),(187,Kk)]) Rq Try.f150 (p,x,()) P:=by kernel_rfl
theorem SD (p:Int×ByteArray×List (List Int)×Unit) (s:List Int) (l:Int) (P:List Int->Prop):(∃(y4:List Int),idx p.2.2.1 (IntKind.i64.wrap ((if true=true then if IntKind.i64.wrap ((0:Int)-l)>l then IntKind.i64.wrap ((0:Int)-l) else l else if IntKind.i64.wrap ((0:Int)-l)<l then IntKind.i64.wrap ((0:Int)-l) else l)-(1:Int)))=some y4/\Br (decide (l<(0:Int))) (∃(y5:List Int),Kk.fn (y4,())=some y5/\0=0/\0=([]:List Int).length/\Ek (λ(v6:Int×List Int×PUnit) (k7:Int×List Int×PUnit->Prop)=>Br (decide (v6.1<(↑s.length:Int))) (∃(y8:Int),idx s v6.1=some y8/\ ∃(y9:Int),idx y5 y8=some y9/\0=0/\v6.2.1.length=v6.2.1.length/\v6.2.1.length+(List.take 1 (List.drop 0 [y9])).length<=Fu/\0=0/\(v6.2.1++List.take 1 (List.drop 0 [y9])).length=(v6.2.1++List.take 1 (List.drop 0 [y9])).length/\k7 (IntKind.i64.wrap (v6.1+(1:Int)),v6.2.1++List.take 1 (List.drop 0 [y9]),())) (P (List.take v6.2.1.length (List.drop 0 v6.2.1)))) ((0:Int),[],PUnit.unit)) (0=0/\0=([]:List Int).length/\Ek (λ(v5:Int×List Int×PUnit) (k6:Int×List Int×PUnit->Prop)=>Br (decide (v5.1<(↑s.length:Int))) (∃(y7:Int),idx s v5.1=some y7/\ ∃(y8:Int),idx y4 y7=some y8/\0=0/\v5.2.1.length=v5.2.1.length/\v5.2.1.length+(List.take 1 (List.drop 0 [y8])).length<=Fu/\0=0/\(v5.2.1++List.take 1 (List.drop 0 [y8])).length=(v5.2.1++List.take 1 (List.drop 0 [y8])).length/\k6 (IntKind.i64.wrap (v5.1+(1:Int)),v5.2.1++List.take 1 (List.drop 0 [y8]),())) (P (List.take v5.2.1.length (List.drop 0 v5.2.1)))) ((0:Int),[],PUnit.unit)))=fnW Fz (look [(187,Kk)]) cH Try.f145 (p,s,l,()) P:=by kernel_rfl
abbrev ja:Type:=Int×Int×ByteArray×List (List Int)×PUnit
theorem xC (p:Int×ByteArray×List (List Int)×Unit) (q:List Int) (P:Bool->Prop):(Ek (λ(v3:ja) (k4:ja->Prop)=>Br (decide (v3.1<(↑v3.2.2.2.1.length:Int))) (∃(y5:List Int),idx v3.2.2.2.1 v3.1=some y5/\ ∃(y6:List Int),Rp.fn (q,y5,())=some y6/\ ∃(y7:Int),Rq.fn ((v3.2.1,v3.2.2.1,v3.2.2.2.1,()),y6,())=some y7/\Br (y7==(0:Int)) (P false) (k4 (IntKind.i64.wrap (v3.1+(1:Int)),v3.2.1,v3.2.2.1,v3.2.2.2.1,()))) (P true)) ((0:Int),p.1,p.2.1,p.2.2.1,PUnit.unit))=fnW Fz (look [(150,Rq),(87,Rp)]) Mg Try.f77 (p,q,()) P:=by kernel_rfl
abbrev j8:Type:=Int×Int×ByteArray×List (List Int)×PUnit
theorem xw (p:Int×ByteArray×List (List Int)×Unit) (q:List Int) (P:Bool->Prop):(Ek (λ(v3:j8) (k4:j8->Prop)=>Br (decide (v3.1<(↑p.2.2.1.length:Int))) (∃(y5:Int),Vk.fn ((v3.2.1,v3.2.2.1,v3.2.2.2.1,()),q,IntKind.i64.wrap (v3.1+(1:Int)),())=some y5/\Br (y5==(0:Int)) (P false) (k4 (IntKind.i64.wrap (v3.1+(1:Int)),v3.2.1,v3.2.2.1,v3.2.2.2.1,()))) (P true)) ((0:Int),p.1,p.2.1,p.2.2.1,PUnit.unit))=fnW Fz (look [(72,Vk)]) Mg Try.f79 (p,q,()) P:=by kernel_rfl
theorem AQ (p:Int×ByteArray×List (List Int)×Unit) (q:List Int) (P:Bool->Prop):(∃(y3:Bool),Ic.fn ((p.1,p.2.1,p.2.2.1,()),())=some y3/\Br y3 (∃(y4:Bool),Gv.fn ((p.1,p.2.1,p.2.2.1,()),q,())=some y4/\Br y4 (∃(y5:Bool),Mg.fn ((p.1,p.2.1,p.2.2.1,()),q,())=some y5/\P y5) (P false)) (P false))=fnW Fz (look [(47,Ic),(73,Gv),(77,Mg)]) Lp Try.f22 (p,q,()) P:=by kernel_rfl
theorem AM (p:Int×ByteArray×List (List Int)×Unit) (q:List Int) (P:Bool->Prop):(∃(y3:Bool),Gv.fn ((p.1,p.2.1,p.2.2.1,()),q,())=some y3/\Br y3 (∃(y4:Bool),Mg.fn ((p.1,p.2.1,p.2.2.1,()),q,())=some y4/\P y4) (P false))=fnW Fz (look [(78,Gv),(79,Mg)]) Lp Try.f23 (p,q,()) P:=by kernel_rfl
theorem Jf {xs:List Int} {i:Nat} (h:i<xs.length):Jb xs (i:Int)=xs[i]:=by
 unfold Jb
 rw [Bh,Al,Ac h];rfl
theorem cy {xs:List Int} {y:Int} (h0:0<=y) (h:y<xs.length):idx xs y=some (Jb xs y):=by
 have hy:y.toNat<xs.length:=by omega
 have e:y=(y.toNat:Int):=by omega
 rw [e,Df hy,Jf hy]
theorem Uy (f:Nat->Nat) (g:Nat->Int) (m:Nat) (init:List Int):Xn f g (m+1) init=(Xn f g m init).set (f m) (g m):=by simp [Xn,List.range_succ]
theorem Tx (f:Nat->Nat) (g:Nat->Int) (m:Nat) (init:List Int):(Xn f g m init).length=init.length:=by
 induction m with
 |zero=>rfl
 |succ m ih=>rw [Uy,Ce,ih]
theorem fL (f:Nat->Nat) (g:Nat->Int) (init:List Int): ∀(m:Nat),(∀i j,i<m->j<m->f i=f j->i=j)-> ∀i,i<m->f i<init.length->(Xn f g m init)[f i]?=some (g i)
 |0,_,i,h,_=>absurd h (Jw _)
 |m+1,hf,i,hi,hl=>by
  rw [Uy]
  by_cases e:i=m
  ·subst e
   exact List.getElem?_set_self (by rw [Tx];exact hl)
  ·rw [List.getElem?_set_ne (λh=>e (hf i m hi (by omega) h.symm))]
   exact fL f g init m (λa b ha hb=>hf a b (by omega) (by omega)) i (by omega) hl
structure Yl (p:List Int):Prop where
 pos:1<=p.length
 len:p.length<=20
 row:Le p.length p
 nodup:p.Nodup
theorem Rd {p:List Int} (h:Gp p=true):Yl p:=by
 obtain ⟨h1,h2,h3⟩:=Fp.1 h
 refine ⟨h1,h2,λy hy=>?_,gh λj hj=>(h3 j hj hj).2.2⟩
 obtain ⟨j,hj,rfl⟩:=Bd.1 hy
 have:=h3 j hj hj
 omega
theorem Yl.inj {p:List Int} (h:Yl p) (i j:Nat) (hi:i<p.length) (hj:j<p.length) (e:(Jb p (i:Int)).toNat=(Jb p (j:Int)).toNat):i=j:=by
 rw [Jf hi,Jf hj] at e
 have h1:=h.row _ (Ak hi)
 have h2:=h.row _ (Ak hj)
 have e:p[i]=p[j]:=by omega
 refine Cd λIs=>?_
 rcases Nat.lt_or_gt_of_ne Is with hl|hl
 ·exact Dc.1 h.nodup i j hi hj hl e
 ·exact Dc.1 h.nodup j i hj hi hl e.symm
theorem Yl.DK {p:List Int} (h:Yl p) (k:Nat) (hk:k<p.length): ∃i,i<p.length/\(Jb p (i:Int)).toNat=k:=by
 have hm:=(bJ (xs:=p) h.row).2 (rq h.nodup) k hk
 obtain ⟨i,hi,e⟩:=Bd.1 hm
 exact ⟨i,hi,by rw [Jf hi,e];exact Bh k⟩
theorem Yl.lt {p:List Int} (h:Yl p) {i:Nat} (hi:i<p.length):(Jb p (i:Int)).toNat<p.length:=by
 rw [Jf hi]
 have:=h.row _ (Ak hi)
 omega
theorem Vd (p:List Int):(Bq p).length=p.length:=by unfold Bq;rw [Tx,Gj]
theorem CT {p:List Int} (h:Yl p) {i:Nat} (hi:i<p.length):(Bq p)[(Jb p (i:Int)).toNat]?=some (i:Int):=
 fL (λi=>(Jb p (i:Int)).toNat) (λi=>(i:Int)) _ p.length (λi j hi hj=>h.inj i j hi hj) i hi (by rw [Gj];exact h.lt hi)
theorem gX {p:List Int} (h:Yl p):Le p.length (Bq p):=by
 intro y hy
 obtain ⟨k,hk,rfl⟩:=Bd.1 hy
 have pW:k<p.length:=by rw [Vd] at hk;exact hk
 obtain ⟨i,hi,rfl⟩:=h.DK k pW
 have:=CT h hi
 rw [Ac hk] at this
 rw [Aw this]
 omega
theorem Kn (p q:List Int):(An p q).length=p.length:=by simp [An]
theorem Xu {p q:List Int} {n:Nat} (hp:Le q.length p) (hq:Le n q):Le n (An p q):=by
 intro y hy
 obtain ⟨x,hx,rfl⟩:=Bo.1 hy
 have h1:=hp x hx
 rw [show x=(x.toNat:Int) by omega,Jf (by omega)]
 exact hq _ (Ak _)
theorem tM (q s:List Int):(Kj q s).length=s.length:=by unfold Kj;rw [Tx,Gj]
theorem BT {q s:List Int} (hq:Yl q) (hl:s.length=q.length):Cc s q=Kj q s:=by
 have Qp:(Cc s q).length=q.length:=by simp only [Cc,Kn,Vd]
 refine List.ext_getElem (by rw [Qp,tM,hl]) λk h1 h2=>?_
 have hk:k<q.length:=by rw [Qp] at h1;exact h1
 obtain ⟨i,hi,e⟩:=hq.DK k hk
 have e1:=fL (λi=>(Jb q (i:Int)).toNat) (λi=>Jb q (Jb s (i:Int))) (List.replicate s.length 0) s.length (λi j hi hj=>hq.inj i j (by omega) (by omega)) i (by omega) (by rw [Gj,hl];exact hq.lt hi)
 have e2:=CT hq hi
 rw [e] at e2
 simp only [e] at e1
 have e1:(Kj q s)[k]?=some (Jb q (Jb s (i:Int))):=e1
 rw [Ac h2] at e1
 rw [Aw e1]
 rw [Ac (by rw [Vd];exact hk)] at e2
 simp only [Cc,An,List.getElem_map]
 rw [Aw e2]
theorem sl (p q:List Int) (h:p.length<=20/\Le q.length p):fnW Fz (look []) Hz Try.f142 (p,q,()) (λ(z:List Int)=>z=An p q):=by
 obtain ⟨h,hr⟩:=h
 refine Eq.mp (sQ p q _) ?_
 refine ⟨⟨by omega,by show (p.length:Int)<(4294967296:Int)+1;omega⟩,rfl,rfl,rfl,?_⟩
 have Qp:=Kn p q
 refine Cu p.length (λv=>v.1) (λj v=>v.2.1.length=(An p q).length/\v.2.1.take j=(An p q).take j) rfl ⟨by rw [Qp];simp,by simp⟩ ?_
 rintro j ⟨i,ys,⟨⟩⟩ K hj hi ⟨h1,h2⟩ hK
 dsimp only at hi h1 h2⊢
 subst hi
 refine Br.dec (λhl=>?_) λhl=>?_
 ·have hl:j<p.length:=by omega
  have hy:=hr _ (Ak hl)
  refine ⟨_,Df hl,_,cy hy.1 hy.2,⟨by omega,by omega⟩,by rw [Bh];omega,rfl,by rw [Ce],?_⟩
  rw [Dw (by omega),Bh,Db]
  have Nt:j<(An p q).length:=by rw [Qp];exact hl
  have e:Jb q p[j]=(An p q)[j]:=by simp [An]
  rw [e]
  exact hK hl _ rfl ⟨by rw [Ce];exact h1,je Nt h1 h2⟩
 ·have:j=p.length:=by omega
  subst this
  rw [<-Qp,Ca,<-h1,Ca] at h2
  rw [Im,Ca]
  exact h2
theorem bA:Sound Try.prog 142 Hz:=
 Sound.Hg Ef Bt mixed Try.func142 (by kernel_rfl) (by kernel_rfl) λx h=>sl x.1 x.2.1 h
theorem sm (p:List Int) (h:p.length<=20/\Le p.length p):fnW Fz (look []) Gu Try.f143 (p,()) (λ(z:List Int)=>z=Bq p):=by
 obtain ⟨h,hr⟩:=h
 refine Eq.mp (sR p _) ?_
 refine ⟨⟨by omega,by show (p.length:Int)<(4294967296:Int)+1;omega⟩,rfl,rfl,rfl,?_⟩
 refine Cu p.length (λv=>v.1) (λj v=>v.2.1=Xn (λi=>(Jb p (i:Int)).toNat) (λi=>(i:Int)) j (List.replicate p.length 0)) rfl rfl ?_
 rintro j ⟨i,ys,⟨⟩⟩ K hj hi h1 hK
 dsimp only at hi h1⊢
 subst hi
 have hlen:ys.length=p.length:=by rw [h1,Tx,Gj]
 refine Br.dec (λhl=>?_) λhl=>?_
 ·have hl:j<p.length:=by omega
  have hy:=hr _ (Ak hl)
  refine ⟨_,Df hl,⟨by omega,by omega⟩,by omega,rfl,by rw [Ce],?_⟩
  rw [Dw (by omega),Db]
  refine hK hl _ rfl ?_
  rw [Uy,<-h1,Jf hl]
 ·have:j=p.length:=by omega
  subst this
  rw [Im,Ca]
  exact h1
theorem Vp:Sound Try.prog 143 Gu:=
 Sound.Hg Ef Bt mixed Try.func143 (by kernel_rfl) (by kernel_rfl) λx h=>sm x.1 h
theorem KE (p:List Int) (h:p.length<=20/\Le p.length p):fnW Fz (look []) Gu Try.f190 (p,()) (λ(z:List Int)=>z=Bq p):=by
 obtain ⟨h,hr⟩:=h
 refine Eq.mp (MA p _) ?_
 refine ⟨⟨by omega,by show (p.length:Int)<(4294967296:Int)+1;omega⟩,rfl,rfl,rfl,?_⟩
 refine Cu p.length (λv=>v.1) (λj v=>v.2.1=Xn (λi=>(Jb p (i:Int)).toNat) (λi=>(i:Int)) j (List.replicate p.length 0)) rfl rfl ?_
 rintro j ⟨i,ys,⟨⟩⟩ K hj hi h1 hK
 dsimp only at hi h1⊢
 subst hi
 have hlen:ys.length=p.length:=by rw [h1,Tx,Gj]
 refine Br.dec (λhl=>?_) λhl=>?_
 ·have hl:j<p.length:=by omega
  have hy:=hr _ (Ak hl)
  refine ⟨_,Df hl,⟨by omega,by omega⟩,by omega,rfl,by rw [Ce],?_⟩
  rw [Dw (by omega),Db]
  refine hK hl _ rfl ?_
  rw [Uy,<-h1,Jf hl]
 ·have:j=p.length:=by omega
  subst this
  rw [Im,Ca]
  exact h1
theorem j6:Sound Try.prog 190 Gu:=
 Sound.Hg Ef Bt mixed Try.func190 (by kernel_rfl) (by kernel_rfl) λx h=>KE x.1 h
theorem sr (p:List Int) (h:Gp p=true):fnW Fz (look [(169,Ib),(190,Gu)]) Kk Try.f187 (p,()) (λ(z:List Int)=>z=Bq p):=by
 have hp:=Rd h
 have hs:short p:=by have:=hp.len;unfold short;omega
 refine Eq.mp (sV p _) ⟨_,Ab hs,⟨λhe=>?_,λ_=>⟨_,Ab ⟨hp.len,hp.row⟩,rfl⟩⟩⟩
 exact absurd h (Ga he)
theorem bD:Sound Try.prog 187 Kk:=
 Sound.Hg Ef (Au Xc (Au j6 Bt)) mixed Try.func187 (by kernel_rfl) (by kernel_rfl) λx h=>sr x.1 h
theorem we (q s:List Int) (h:s.length<=20/\q.length=s.length/\Le q.length q/\Le q.length s):fnW Fz (look []) Rp Try.f87 (q,s,()) (λ(z:List Int)=>z=Kj q s):=by
 obtain ⟨h,hq,hr,TG⟩:=h
 refine Eq.mp (xq q s _) ?_
 refine ⟨⟨by omega,by show (s.length:Int)<(4294967296:Int)+1;omega⟩,rfl,rfl,rfl,?_⟩
 refine Cu s.length (λv=>v.1) (λj v=>v.2.1=Xn (λi=>(Jb q (i:Int)).toNat) (λi=>Jb q (Jb s (i:Int))) j (List.replicate s.length 0)) rfl rfl ?_
 rintro j ⟨i,ys,⟨⟩⟩ K hj hi h1 hK
 dsimp only at hi h1⊢
 subst hi
 have hlen:ys.length=s.length:=by rw [h1,Tx,Gj]
 refine Br.dec (λhl=>?_) λhl=>?_
 ·have hl:j<s.length:=by omega
  have hlq:j<q.length:=by omega
  have hy:=hr _ (Ak hlq)
  have hy2:=TG _ (Ak hl)
  refine ⟨_,Df hlq,_,Df hl,_,cy hy2.1 hy2.2,⟨by omega,by omega⟩,by omega,rfl,by rw [Ce],?_⟩
  rw [Dw (by omega),Db]
  refine hK hl _ rfl ?_
  rw [Uy,<-h1,Jf hlq,Jf hl]
 ·have:j=s.length:=by omega
  subst this
  rw [Im,Ca]
  exact h1
theorem nb:Sound Try.prog 87 Rp:=
 Sound.Hg Ef Bt mixed Try.func87 (by kernel_rfl) (by kernel_rfl) λx h=>we x.1 x.2.1 h
theorem zl (p q:List Int) (h:p.length=q.length/\Le p.length p/\Gp q=true):fnW Fz (look [(143,Gu),(142,Hz)]) Nc Try.f68 (p,q,()) (λ(z:List Int)=>z=Cc p q):=by
 obtain ⟨hl,hr,hq⟩:=h
 have hq:=Rd hq
 have h20:=hq.len
 refine Eq.mp (AI p q _) ⟨_,Ab ⟨hq.len,hq.row⟩,_,Ab ⟨by show (Bq q).length<=20;rw [Vd];exact h20,?_⟩,_,Ab ⟨?_,?_⟩,rfl⟩
 ·show Le p.length (Bq q)
  rw [hl];exact gX hq
 ·show (An (Bq q) p).length<=20
  rw [Kn,Vd];exact h20
 ·show Le q.length (An (Bq q) p)
  exact Xu (by rw [hl];exact gX hq) (by rw [<-hl];exact hr)
theorem eJ:Sound Try.prog 68 Nc:=
 Sound.Hg Ef (Au Vp (Au bA Bt)) mixed Try.func68 (by kernel_rfl) (by kernel_rfl) λx h=>zl x.1 x.2.1 h
theorem iq (j:Nat):upto (j+1)=upto j++ [(j:Int)]:=by simp [upto,List.range_succ]
theorem DP (n:Int) (h:0<=n/\n<=20):fnW Fz (look []) Cv Try.f66 (n,()) (λ(z:List Int)=>z=upto n.toNat):=by
 refine Eq.mp (FI n _) ⟨rfl,rfl,?_⟩
 refine Cu n.toNat (λv=>v.1) (λj v=>v.2.1=upto j) rfl rfl ?_
 rintro j ⟨i,ys,⟨⟩⟩ K hj hi h1 hK
 dsimp only at hi h1⊢
 subst hi h1
 refine Br.dec (λhl=>?_) λhl=>?_
 ·refine ⟨rfl,rfl,?_,rfl,rfl,?_⟩
  ·show (upto j).length+1<=4294967296
   rw [Jj];omega
  ·rw [Dw (by omega)]
   exact hK (by omega) _ rfl (iq j).symm
 ·have:j=n.toNat:=by omega
  subst this
  rw [Im,Ca]
theorem Vo:Sound Try.prog 66 Cv:=
 Sound.Hg Ef Bt mixed Try.func66 (by kernel_rfl) (by kernel_rfl) λx h=>DP x.1 h
theorem Il {g:List (List Int)} {k:Nat} (h:k<g.length):At g ((k:Int)+1)=g[k]:=by
 unfold At
 rw [Ab (by omega),show ((k:Int)+1-1).toNat=k by omega,Al,Ac h];rfl
theorem Jz {g:List (List Int)} {k:Nat} (h:k<g.length):At g (-((k:Int)+1))=Bq g[k]:=by
 unfold At
 rw [Ai (by omega),show (-(-((k:Int)+1))-1).toNat=k by omega,Al,Ac h];rfl
theorem Lm {n:Nat} {l:Int} (h:Fb n l): ∃k:Nat,k<n/\(l=(k:Int)+1\/l= -((k:Int)+1)):=by
 obtain ⟨h1,h2,h3⟩:=h
 by_cases h0:0<l
 ·exact ⟨(l-1).toNat,by omega, .inl (by omega)⟩
 ·exact ⟨(-l-1).toNat,by omega, .inr (by omega)⟩
theorem DS (g:List (List Int)) (l:Int) (h:Fb (List.length g) l/\List.length g<=8/\ ∀p∈g,Gp p=true):fnW Fz (look [(143,Gu)]) Kd Try.f147 (g,l,()) (λ(z:List Int)=>z=At g l):=by
 obtain ⟨hl,h8,hp⟩:=h
 refine Eq.mp (FL g l _) ?_
 obtain ⟨k,hk,rfl|rfl⟩:=Lm hl
 ·refine Br.dec (λ_=>?_) λhn=>by omega
  rw [Cs (by omega) (by omega),show (k:Int)+1-1=(k:Int) by omega]
  exact ⟨_,Df hk,(Il hk).symm⟩
 ·refine Br.dec (λhn=>by omega) λ_=>?_
  rw [Cs (n:=0- -((k:Int)+1)) (by omega) (by omega),Cs (by omega) (by omega),show (0:Int)- -((k:Int)+1)-1=(k:Int) by omega]
  have:=Rd (hp _ (Ak hk))
  exact ⟨_,Df hk,_,Ab ⟨this.len,this.row⟩,(Jz hk).symm⟩
theorem qY:Sound Try.prog 147 Kd:=
 Sound.Hg Ef (Au Vp Bt) mixed Try.func147 (by kernel_rfl) (by kernel_rfl) λx h=>DS x.1 x.2.1 h
theorem aH (j:Nat):Bk (j+1)=Bk j++ [(j:Int)+1,-((j:Int)+1)]:=by simp [Bk,List.range_succ,List.flatMap_append]
theorem Sr (j:Nat):(Bk j).length=2*j:=by
 induction j with
 |zero=>rfl
 |succ j ih=>rw [aH,Ay,ih];simp only [Bg,Hr];omega
theorem Fk {n:Nat} {l:Int} (h:l∈Bk n):Fb n l:=by
 unfold Bk at h
 obtain ⟨k,hk,hl⟩:=Kh.1 h
 have hk:=Io.1 hk
 simp only [Ba,List.not_mem_nil,or_false] at hl
 unfold Fb
 omega
theorem KB (n:Int) (h:0<=n/\n<=8):fnW Fz (look []) a7 Try.f121 (n,()) (λ(z:List Int)=>z=Bk n.toNat):=by
 refine Eq.mp (LX n _) ⟨rfl,rfl,?_⟩
 refine Cu n.toNat (λv=>v.1) (λj v=>v.2.1=Bk j) rfl rfl ?_
 rintro j ⟨i,ys,⟨⟩⟩ K hj hi h1 hK
 dsimp only at hi h1⊢
 subst hi h1
 refine Br.dec (λhl=>?_) λhl=>?_
 ·refine ⟨rfl,rfl,?_,rfl,rfl,?_⟩
  ·show (Bk j).length+2<=4294967296
   rw [Sr];omega
  ·have e1:IntKind.i64.wrap ((j:Int)+1)=(j:Int)+1:=Cs (by omega) (by omega)
   have e2:IntKind.i64.wrap ((0:Int)-((j:Int)+1))= -((j:Int)+1):=by rw [Cs (by omega) (by omega)];omega
   rw [e1,e2]
   exact hK (by omega) _ rfl (aH j).symm
 ·have:j=n.toNat:=by omega
  subst this
  rw [Im,Ca]
theorem sE:Sound Try.prog 121 a7:=
 Sound.Hg Ef Bt mixed Try.func121 (by kernel_rfl) (by kernel_rfl) λx h=>KB x.1 h
theorem yq (g:List (List Int)) (x:List Int): ∀(c k:Nat),k+c=g.length->Og g x ((List.range' k c).flatMap λ(k:Nat)=> [(k:Int)+1,-((k:Int)+1)])=JN x (g.drop k) ((k:Int)+1)
 |0,k,h=>by
  have:k=g.length:=by omega
  subst this
  rw [Oq];rfl
 |c+1,k,h=>by
  have hk:k<g.length:=by omega
  rw [List.range'_succ,Ku,Bu hk]
  simp only [Ly,Nh,Og,JN]
  rw [Il hk,Jz hk,yq g x c (k+1) (by omega)]
  rfl
theorem iM (g:List (List Int)) (x:List Int):Og g x (Bk g.length)=Hu g x:=by
 unfold Bk Hu
 rw [List.range_eq_range',yq g x g.length 0 (by omega)]
 rfl
structure Valid (p:PP):Prop where
 n:1<=p.1/\p.1<=20
 oM:1<=p.2.2.1.length/\p.2.2.1.length<=8
 perm: ∀m∈p.2.2.1,Gp m=true
 len: ∀m∈p.2.2.1,(m.length:Int)=p.1
theorem valid {p:PP} (h:Bc p=true):Valid p:=by
 have h0:=rz h
 obtain ⟨h1,_,_⟩:=Fp.1 h
 obtain ⟨_,_,h4⟩:=Fp.1 h1
 exact ⟨⟨h0.1,h0.2.1⟩,h0.2.2,λm hm=>(Fp.1 (h4 m hm)).2,λm hm=>(Fp.1 (h4 m hm)).1⟩
theorem hJ {p:PP} (h:Valid p) {l:Int} (hl:Fb (List.length p.2.2.1) l):((At p.2.2.1 l).length:Int)=p.1/\Le (At p.2.2.1 l).length (At p.2.2.1 l):=by
 obtain ⟨k,hk,rfl|rfl⟩:=Lm hl
 ·rw [Il hk]
  exact ⟨h.len _ (Ak hk),(Rd (h.perm _ (Ak hk))).row⟩
 ·rw [Jz hk,Vd]
  exact ⟨h.len _ (Ak hk),gX (Rd (h.perm _ (Ak hk)))⟩
theorem QL (p:PP) (q:List Int) (l:Int) (h:Bc p=true/\Cj p.1 q=true/\Fb (List.length p.2.2.1) l):fnW Fz (look [(68,Nc),(147,Kd),(121,a7),(82,El)]) Vk Try.f72 (p,q,l,()) (λ(z:Int)=>z=Jh p q l):=by
 obtain ⟨hv,hq,hl⟩:=h
 have hv:=valid hv
 obtain ⟨hq1,hq2⟩:=Fp.1 hq
 obtain ⟨GQ,MN⟩:=hJ hv hl
 have hf:=hv.oM
 have hn:=hv.n
 refine Eq.mp (SI p q l _) ⟨_,Ab ⟨hl,hf.2,hv.perm⟩,_,Ab ⟨by show (At p.2.2.1 l).length=q.length;omega,MN,hq2⟩,Bk p.2.2.1.length,Ab ⟨Int.natCast_nonneg _,by show ((p.2.2.1.length:Nat):Int)<=8;omega⟩,?_⟩
 have hL:=Sr p.2.2.1.length
 have hF:Og p.2.2.1 (Cc (At p.2.2.1 l) q) (Bk p.2.2.1.length)=Jh p q l:=iM _ _
 refine Cu (Bk p.2.2.1.length).length (λv=>v.1) (λj v=>v.2=(p.1,p.2.1,p.2.2.1,())/\Og p.2.2.1 (Cc (At p.2.2.1 l) q) ((Bk p.2.2.1.length).drop j)=Jh p q l) rfl ⟨rfl,by rw [Im];exact hF⟩ ?_
 rintro j ⟨i,v⟩ K hj hi ⟨l7,hR⟩ hK
 dsimp only at hi l7⊢
 subst hi l7
 dsimp only
 refine Br.dec (λJx=>?_) λJx=>?_
 ·have Jx:j<(Bk p.2.2.1.length).length:=by omega
  have hlj:=Fk (Ak Jx)
  have hs:=hJ hv hlj
  rw [Bu Jx] at hR
  simp only [Og] at hR
  refine ⟨_,Df Jx,_,Ab ⟨hlj,hf.2,hv.perm⟩,_,Ab (by show short (At p.2.2.1 (Bk p.2.2.1.length)[j]);unfold short;have:=hs.1;omega),⟨λhe=>?_,λhe=>?_⟩⟩
  ·have he:decide (At p.2.2.1 (Bk p.2.2.1.length)[j]=Cc (At p.2.2.1 l) q)=true:=he
   rw [Ab (Ff he)] at hR
   exact hR
  ·have he:decide (At p.2.2.1 (Bk p.2.2.1.length)[j]=Cc (At p.2.2.1 l) q)=false:=he
   rw [Ai (of_decide_eq_false he)] at hR
   rw [Dw (by omega)]
   exact hK Jx _ rfl ⟨rfl,hR⟩
 ·have:j=(Bk p.2.2.1.length).length:=by omega
  subst this
  rw [Oq] at hR
  exact hR
theorem lR:Sound Try.prog 72 Vk:=
 Sound.Hg Ef (Au eJ (Au qY (Au sE (Au bB Bt)))) mixed Try.func72 (by kernel_rfl) (by kernel_rfl) λx h=>QL x.1 x.2.1 x.2.2.1 h
theorem wq (p:PP) (x:List Int) (h:Bc p=true/\short x):fnW Fz (look [(80,El),(187,Kk)]) Rq Try.f150 (p,x,()) (λ(z:Int)=>z=Hu p.2.2.1 x):=by
 obtain ⟨hv,hx⟩:=h
 have hv:=valid hv
 have hf:=hv.oM
 have hn:=hv.n
 refine Eq.mp (xz p x _) ?_
 refine Cu p.2.2.1.length (λv=>v.1-1) (λj v=>v.2=(p.1,p.2.1,p.2.2.1,())/\JN x (p.2.2.1.drop j) ((j:Int)+1)=Hu p.2.2.1 x) rfl ⟨rfl,rfl⟩ ?_
 rintro j ⟨i,v⟩ K hj hi ⟨l7,hR⟩ hK
 dsimp only at hi l7⊢
 subst l7
 obtain rfl:i=(j:Int)+1:=by omega
 dsimp only
 refine Br.dec (λhl=>?_) λhl=>?_
 ·have hl:j<p.2.2.1.length:=by omega
  have hm:=hv.perm _ (Ak hl)
  have hlen:=hv.len _ (Ak hl)
  rw [Bu hl] at hR
  simp only [JN] at hR
  rw [Cs (n:=(j:Int)+1-1) (by omega) (by omega),show (j:Int)+1-1=(j:Int) by omega]
  refine ⟨_,Df hl,_,Ab (by show short p.2.2.1[j];unfold short;omega),⟨λhe=>?_,λhe=>⟨_,Df hl,_,Ab hm,_,Ab (by show short (Bq p.2.2.1[j]);unfold short;rw [Vd];omega),⟨λGM=>?_,λGM=>?_⟩⟩⟩⟩
  ·have he:decide (p.2.2.1[j]=x)=true:=he
   rw [Ab (Ff he)] at hR
   exact hR
  ·have he:decide (p.2.2.1[j]=x)=false:=he
   have GM:decide (Bq p.2.2.1[j]=x)=true:=GM
   rw [Ai (of_decide_eq_false he),Ab (Ff GM)] at hR
   rw [Cs (by omega) (by omega),<-hR]
   omega
  ·have he:decide (p.2.2.1[j]=x)=false:=he
   have GM:decide (Bq p.2.2.1[j]=x)=false:=GM
   rw [Ai (of_decide_eq_false he),Ai (of_decide_eq_false GM)] at hR
   rw [Cs (by omega) (by omega)]
   exact hK hl _ (by dsimp only;omega) ⟨rfl,by push_cast;exact hR⟩
 ·have:j=p.2.2.1.length:=by omega
  subst this
  rw [Oq] at hR
  exact hR
theorem ng:Sound Try.prog 150 Rq:=
 Sound.Hg Ef (Au Ys (Au bD Bt)) mixed Try.func150 (by kernel_rfl) (by kernel_rfl) λx h=>wq x.1 x.2.1 h
theorem wk (p:PP) (q:List Int) (h:Bc p=true/\Cj p.1 q=true):fnW Fz (look [(72,Vk)]) Mg Try.f79 (p,q,()) (λ(z:Bool)=>z=Ml p q):=by
 have hv:=valid h.1
 have hf:=hv.oM
 refine Eq.mp (xw p q _) ?_
 refine Cu p.2.2.1.length (λv=>v.1) (λj v=>v.2=(p.1,p.2.1,p.2.2.1,())/\ ∀k:Nat,k<j->Jh p q ((k:Int)+1)≠0) rfl ⟨rfl,λk hk=>absurd hk (Jw _)⟩ ?_
 rintro j ⟨i,v⟩ K hj hi ⟨l7,hR⟩ hK
 dsimp only at hi l7⊢
 subst hi l7
 dsimp only
 refine Br.dec (λhl=>?_) λhl=>?_
 ·have hl:j<p.2.2.1.length:=by omega
  have e1:IntKind.i64.wrap ((j:Int)+1)=(j:Int)+1:=Cs (by omega) (by omega)
  rw [e1]
  refine ⟨_,Ab ⟨h.1,h.2,by dsimp only;omega,by dsimp only;omega,by dsimp only;omega⟩,⟨λhe=>?_,λhe=>?_⟩⟩
  ·have he:(Jh p q ((j:Int)+1)==0)=true:=he
   exact Ds λhh=>hh j hl (Vv.1 he)
  ·have he:(Jh p q ((j:Int)+1)==0)=false:=he
   refine hK hl _ rfl ⟨rfl,λk hk=>?_⟩
   by_cases e:k=j
   ·subst e;exact Iy.1 he
   ·exact hR k (by omega)
 ·have:j=p.2.2.1.length:=by omega
  subst this
  exact Ob hR
theorem cO:Sound Try.prog 79 Mg:=
 Sound.Hg Ef (Au lR Bt) mixed Try.func79 (by kernel_rfl) (by kernel_rfl) λx h=>wk x.1 x.2.1 h
theorem wx (p:PP) (q:List Int) (h:Bc p=true/\Cj p.1 q=true):fnW Fz (look [(150,Rq),(87,Rp)]) Mg Try.f77 (p,q,()) (λ(z:Bool)=>z=Ml p q):=by
 have hv:=valid h.1
 have hf:=hv.oM
 have hn:=hv.n
 obtain ⟨hq1,hq2⟩:=Fp.1 h.2
 have hq:=Rd hq2
 refine Eq.mp (xC p q _) ?_
 refine Cu p.2.2.1.length (λv=>v.1) (λj v=>v.2=(p.1,p.2.1,p.2.2.1,())/\ ∀k:Nat,k<j->Jh p q ((k:Int)+1)≠0) rfl ⟨rfl,λk hk=>absurd hk (Jw _)⟩ ?_
 rintro j ⟨i,v⟩ K hj hi ⟨l7,hR⟩ hK
 dsimp only at hi l7⊢
 subst hi l7
 dsimp only
 refine Br.dec (λhl=>?_) λhl=>?_
 ·have hl:j<p.2.2.1.length:=by omega
  have hm:=Rd (hv.perm _ (Ak hl))
  have hlen:=hv.len _ (Ak hl)
  have e:p.2.2.1[j].length=q.length:=by omega
  have hI:Hu p.2.2.1 (Kj q p.2.2.1[j])=Jh p q ((j:Int)+1):=by
   unfold Jh
   rw [Il hl,BT hq e]
  refine ⟨_,Df hl,_,Ab ⟨hm.len,e.symm,hq.row,by rw [<-e];exact hm.row⟩,_,Ab ⟨h.1,by show short (Kj q p.2.2.1[j]);unfold short;rw [tM];omega⟩,⟨λhe=>?_,λhe=>?_⟩⟩
  ·have he:(Hu p.2.2.1 (Kj q p.2.2.1[j])==0)=true:=he
   rw [hI] at he
   exact Ds λhh=>hh j hl (Vv.1 he)
  ·have he:(Hu p.2.2.1 (Kj q p.2.2.1[j])==0)=false:=he
   rw [hI] at he
   rw [Dw (by omega)]
   refine hK hl _ rfl ⟨rfl,λk hk=>?_⟩
   by_cases e:k=j
   ·subst e;exact Iy.1 he
   ·exact hR k (by omega)
 ·have:j=p.2.2.1.length:=by omega
  subst this
  exact Ob hR
theorem ni:Sound Try.prog 77 Mg:=
 Sound.Hg Ef (Au ng (Au nb Bt)) mixed Try.func77 (by kernel_rfl) (by kernel_rfl) λx h=>wx x.1 x.2.1 h
theorem zu (p:PP) (q:List Int) (h:Gq p/\short q):fnW Fz (look [(47,Ic),(73,Gv),(77,Mg)]) Lp Try.f22 (p,q,()) (λ(z:Bool)=>z=Ss p q):=by
 refine Eq.mp (AQ p q _) ⟨_,Ab h.1,⟨λh1=>⟨_,Ab h,⟨λh2=>?_,λh2=>?_⟩⟩,λh1=>?_⟩⟩
 ·have h1:Bc p=true:=h1
  have h2:(Bc p&&Cj p.1 q)=true:=h2
  have h3:Cj p.1 q=true:=by rw [h1,Vt] at h2;exact h2
  refine ⟨_,Ab ⟨h1,h3⟩,?_⟩
  show Ml p q=Ss p q
  unfold Ss
  rw [h2,Vt]
 ·have h2:(Bc p&&Cj p.1 q)=false:=h2
  unfold Ss
  rw [h2,Xg]
 ·have h1:Bc p=false:=h1
  unfold Ss
  rw [h1,Xg,Xg]
theorem oG:Sound Try.prog 22 Lp:=
 Sound.Hg Ef (Au Xd (Au Qn (Au ni Bt))) mixed Try.func22 (by kernel_rfl) (by kernel_rfl) λx h=>zu x.1 x.2.1 h
theorem zp (p:PP) (q:List Int) (h:Gq p/\short q):fnW Fz (look [(78,Gv),(79,Mg)]) Lp Try.f23 (p,q,()) (λ(z:Bool)=>z=Ss p q):=by
 refine Eq.mp (AM p q _) ⟨_,Ab h,⟨λh2=>?_,λh2=>?_⟩⟩
 ·have h2:(Bc p&&Cj p.1 q)=true:=h2
  have h3:=Bm.1 h2
  refine ⟨_,Ab h3,?_⟩
  show Ml p q=Ss p q
  unfold Ss
  rw [h2,Vt]
 ·have h2:(Bc p&&Cj p.1 q)=false:=h2
  unfold Ss
  rw [h2,Xg]
theorem Yt:Sound Try.prog 23 Lp:=
 Sound.Hg Ef (Au lS (Au cO Bt)) mixed Try.func23 (by kernel_rfl) (by kernel_rfl) λx h=>zp x.1 x.2.1 h
theorem uD {p:PP} {q:List Int} (h:Ss p q=true):Bc p=true/\Cj p.1 q=true:=by
 unfold Ss at h
 exact Bm.1 (Bm.1 h).1
theorem xR (s y:List Int) (P:List Int->Prop) (h1:s.length<=20) (h2:Le y.length s) (h3:P (An s y)):
  Ek
   (λ(v5:Int×List Int×PUnit) (k6:Int×List Int×PUnit->Prop)=>
    Br (decide (v5.1<(↑s.length:Int)))
     (∃(y7:Int),
      idx s v5.1=some y7/\
       ∃(y8:Int),
        idx y y7=some y8/\
         (0:Nat)=(0:Nat)/\
          v5.2.1.length=v5.2.1.length/\
           v5.2.1.length+(List.take (1:Nat) (List.drop (0:Nat) [y8])).length<=Fu/\
            (0:Nat)=(0:Nat)/\
             (v5.2.1++List.take (1:Nat) (List.drop (0:Nat) [y8])).length=(v5.2.1++List.take (1:Nat) (List.drop (0:Nat) [y8])).length/\
              k6 (IntKind.i64.wrap (v5.1+(1:Int)),v5.2.1++List.take (1:Nat) (List.drop (0:Nat) [y8]),()))
     (P (List.take v5.2.1.length (List.drop (0:Nat) v5.2.1))))
   ((0:Int),([]:List Int),PUnit.unit):=by
 refine Cu s.length (λv=>v.1) (λj v=>v.2.1=(s.take j).map (Jb y)) rfl (by simp) ?_
 rintro j ⟨i,ys,⟨⟩⟩ K hj hi hR hK
 dsimp only at hi hR⊢
 subst hi hR
 refine Br.dec (λhl=>?_) λhl=>?_
 ·have hl:j<s.length:=by omega
  have hy:=h2 _ (Ak hl)
  refine ⟨_,Df hl,_,cy hy.1 hy.2,rfl,rfl,?_,rfl,rfl,?_⟩
  ·show ((s.take j).map (Jb y)).length+1<=4294967296
   rw [Jv,Co];omega
  ·rw [Dw (by omega)]
   refine hK hl _ rfl ?_
   dsimp only
   rw [Da hl,Zu]
   rfl
 ·have:j=s.length:=by omega
  subst this
  rw [Im,Ca,Ca]
  exact h3
theorem QG (p:PP) (s:List Int) (l:Int) (h:Bc p=true/\List.length s<=20/\(∀y∈s,0<=y/\y<p.1)/\Fb (List.length p.2.2.1) l):fnW Fz (look [(187,Kk)]) cH Try.f145 (p,s,l,()) (λ(z:List Int)=>z=An s (At p.2.2.1 l)):=by
 obtain ⟨hv,hs,hr,hl⟩:=h
 have hv:=valid hv
 have hf:=hv.oM
 refine Eq.mp (SD p s l _) ?_
 have OM:=hJ hv hl
 have dr:Le (At p.2.2.1 l).length s:= λy hy=>by have:=hr y hy;omega
 obtain ⟨k,hk,rfl|rfl⟩:=Lm hl
 ·rw [Ab rfl,Cs (n:=0-((k:Int)+1)) (by omega) (by omega),Ai (by omega),Cs (by omega) (by omega),show (k:Int)+1-1=(k:Int) by omega]
  refine ⟨_,Df hk,Br.dec (λhn=>by omega) λ_=>⟨rfl,rfl,?_⟩⟩
  rw [Il hk] at dr⊢
  exact xR s _ (λz=>z=An s p.2.2.1[k]) hs dr rfl
 ·rw [Ab rfl,Cs (n:=0- -((k:Int)+1)) (by omega) (by omega),Ab (by omega),Cs (by omega) (by omega),show (0:Int)- -((k:Int)+1)-1=(k:Int) by omega]
  refine ⟨_,Df hk,Br.dec (λ_=>⟨_,Ab (hv.perm _ (Ak hk)),rfl,rfl,?_⟩) λhn=>by omega⟩
  rw [Jz hk] at dr⊢
  exact xR s (Bq p.2.2.1[k]) (λz=>z=An s (Bq p.2.2.1[k])) hs dr rfl
theorem lN:Sound Try.prog 145 cH:=
 Sound.Hg Ef (Au bD Bt) mixed Try.func145 (by kernel_rfl) (by kernel_rfl) λx h=>QG x.1 x.2.1 x.2.2.1 h
abbrev rL:CK:= .row tI 2
abbrev xLL:CK:= .Ha tL 31
def low (k:Int):Prop:=0<=k/\k<=1099511627776
theorem Di {α:Type} (xs:List α):List.take xs.length (List.drop 0 xs)=xs:=by rw [Im,Ca]
noncomputable abbrev Ts:MSpec:=fa [none,none] [(false, .Gb tL),(false, .Gb tL)] false [none] [rL] (λx=>List.length x.1<=20/\Le (List.length x.2.1) x.1) (λx=>((An x.1 x.2.1,()),()))
noncomputable abbrev Ro:MSpec:=fa [none,none] [(false, .Gb tL),(false, .Gb tL)] false [none] [rL] (λx=>List.length x.1=List.length x.2.1/\Le (List.length x.1) x.1/\Gp x.2.1=true) (λx=>((Cc x.1 x.2.1,()),()))
noncomputable def Oi (p:PP) (q s:List Int):Bool:=Ss p q&&Cj p.1 s
noncomputable def Pe (p:PP) (q s:List Int):List Int:=if Oi p q s=true then Cc s q else []
noncomputable abbrev Kc:MSpec:=fa [some 3,none,none] [(false, .Gb tI),(false, .Gb .str),(false, .Gb rm),(false, .Gb tL),(false, .Gb tL)] true [none,none] [rL, .Gb .bool]
 (λx=>Gq (x.1,x.2.1,x.2.2.1,())/\short x.2.2.2.1/\short x.2.2.2.2.1) (λx=>((Pe (x.1,x.2.1,x.2.2.1,()) x.2.2.2.1 x.2.2.2.2.1,Oi (x.1,x.2.1,x.2.2.1,()) x.2.2.2.1 x.2.2.2.2.1,()),()))
theorem FG (p q:List Int) (P:((List Int×Unit)×Unit)->Prop):(((0:Int)<=(↑p.length:Int)/\(↑p.length:Int)<(↑Fu:Int)+(1:Int))/\(↑p.length:Int)=(↑p.length:Int)/\0=0/\(List.replicate (↑p.length:Int).toNat (Int.ofNat (nat_lit 0))).length=(List.replicate (↑p.length:Int).toNat (Int.ofNat (nat_lit 0))).length/\Ek (λ(v3:Int×List Int×PUnit) (k4:Int×List Int×PUnit->Prop)=>Br (decide (v3.1<(↑p.length:Int))) (∃(y5:Int),idx p v3.1=some y5/\ ∃(y6:Int),idx q y5=some y6/\((0:Int)<=v3.1/\v3.1<(↑v3.2.1.length:Int))/\0+v3.1.toNat<v3.2.1.length/\0=0/\v3.2.1.length=(v3.2.1.set (0+v3.1.toNat) y6).length/\k4 (IntKind.i64.wrap (v3.1+(1:Int)),v3.2.1.set (0+v3.1.toNat) y6,())) (P ((List.take v3.2.1.length (List.drop 0 v3.2.1),()),()))) ((0:Int),List.replicate (↑p.length:Int).toNat (Int.ofNat (nat_lit 0)),PUnit.unit))=fnMW Ot (look []) Ts Try.f142 (p,q,()) P:=by kernel_rfl
theorem xp (p q:List Int) (P:((List Int×Unit)×Unit)->Prop):(∃(y3:List Int),Gu.fn (q,())=some y3/\ ∃(y4:(List Int×PUnit)×PUnit),Ts.fn (y3,p,())=some y4/\ ∃(y5:(List Int×PUnit)×PUnit),Ts.fn (List.take y4.1.1.length (List.drop 0 y4.1.1),q,())=some y5/\P ((List.take y5.1.1.length (List.drop 0 y5.1.1),()),()))=fnMW Ot (look [(143,Gu),(142,iB.b Hz Ts)]) Ro Try.f68 (p,q,()) P:=by kernel_rfl
theorem nm (n:Int) (str:ByteArray) (g:List (List Int)) (q s:List Int) (P:((List Int×Bool×Unit)×Unit)->Prop):(∃(y6:Bool),Lp.fn ((n,str,g,()),q,())=some y6/\Br (!y6) (P ((List.take 0 (List.drop 0 []),false,()),())) (∃(y7:Bool),Hw.fn ((n,str,g,()),s,())=some y7/\Br (!y7) (P ((List.take 0 (List.drop 0 []),false,()),())) (∃(y8:(List Int×PUnit)×PUnit),Ro.fn (s,q,())=some y8/\P ((List.take y8.1.1.length (List.drop 0 y8.1.1),true,()),()))))=fnMW Ot (look [(23,Lp),(67,Hw),(68,Ro)]) Kc Try.f18 (n,str,g,q,s,()) P:=by kernel_rfl
theorem DN (p q:List Int) (h:p.length<=20/\Le q.length p):fnMW Ot (look []) Ts Try.f142 (p,q,()) (λ(z:(List Int×Unit)×Unit)=>z=((An p q,()),())):=by
 obtain ⟨h,hr⟩:=h
 refine Eq.mp (FG p q _) ?_
 refine ⟨⟨by omega,by show (p.length:Int)<(4294967296:Int)+1;omega⟩,rfl,rfl,rfl,?_⟩
 have Qp:=Kn p q
 refine Cu p.length (λv=>v.1) (λj v=>v.2.1.length=(An p q).length/\v.2.1.take j=(An p q).take j) rfl ⟨by rw [Qp];simp,by simp⟩ ?_
 rintro j ⟨i,ys,⟨⟩⟩ K hj hi ⟨h1,h2⟩ hK
 dsimp only at hi h1 h2⊢
 subst hi
 refine Br.dec (λhl=>?_) λhl=>?_
 ·have hl:j<p.length:=by omega
  have hy:=hr _ (Ak hl)
  refine ⟨_,Df hl,_,cy hy.1 hy.2,⟨by omega,by omega⟩,by rw [Bh];omega,rfl,by rw [Ce],?_⟩
  rw [Dw (by omega),Bh,Db]
  have Nt:j<(An p q).length:=by rw [Qp];exact hl
  have e:Jb q p[j]=(An p q)[j]:=by simp [An]
  rw [e]
  exact hK hl _ rfl ⟨by rw [Ce];exact h1,je Nt h1 h2⟩
 ·have:j=p.length:=by omega
  subst this
  rw [<-Qp,Ca,<-h1,Ca] at h2
  rw [Di,h2]
theorem qT:Dx Try.prog 142 Ts:=
 Dx.fa Np Bt mixed Try.func142 (by kernel_rfl) (by kernel_rfl) λx h=>DN x.1 x.2.1 h
theorem wc (p q:List Int) (h:p.length=q.length/\Le p.length p/\Gp q=true):fnMW Ot (look [(143,Gu),(142,iB.b Hz Ts)]) Ro Try.f68 (p,q,()) (λ(z:(List Int×Unit)×Unit)=>z=((Cc p q,()),())):=by
 obtain ⟨hl,hr,hq⟩:=h
 have hq:=Rd hq
 have h20:=hq.len
 have a1:(Bq q).length<=20:=by rw [Vd];exact h20
 have a2:Le p.length (Bq q):=by rw [hl];exact gX hq
 have a3:(An (Bq q) p).length<=20:=by rw [Kn,Vd];exact h20
 have a4:Le q.length (An (Bq q) p):=Xu (by rw [hl];exact gX hq) (by rw [<-hl];exact hr)
 refine Eq.mp (xp p q _) ⟨_,Ab ⟨hq.len,hq.row⟩,_,Ab ⟨a1,a2⟩,?_⟩
 simp only [Di]
 refine ⟨_,Ab ⟨a3,a4⟩,?_⟩
 simp only [Di]
 rfl
theorem mZ:Dx Try.prog 68 Ro:=
 Dx.fa Np (Au Vp (NS bA qT Bt)) mixed Try.func68 (by kernel_rfl) (by kernel_rfl) λx h=>wc x.1 x.2.1 h
theorem x6 {p:PP} {q s:List Int} (h1:Ss p q=true) (h2:Cj p.1 s=true):s.length=q.length/\Le s.length s/\Gp q=true:=by
 obtain ⟨h3,h4⟩:=Fp.1 (uD h1).2
 obtain ⟨h5,h6⟩:=Fp.1 h2
 exact ⟨by omega,(Rd h6).row,h4⟩
theorem mP (n:Int) (str:ByteArray) (g:List (List Int)) (q s:List Int) (h:Gq (n,str,g,())/\short q/\short s):fnMW Ot (look [(23,Lp),(67,Hw),(68,Ro)]) Kc Try.f18 (n,str,g,q,s,()) (λ(z:(List Int×Bool×Unit)×Unit)=>z=((Pe (n,str,g,()) q s,Oi (n,str,g,()) q s,()),())):=by
 refine Eq.mp (nm n str g q s _) ⟨_,Ab ⟨h.1,h.2.1⟩,⟨λhn=>?_,λhn=>⟨_,Ab h.2.2,⟨λhm=>?_,λhm=>?_⟩⟩⟩⟩
 ·have hn:Ss (n,str,g,()) q=false:=Jc.2 (Ga hn)
  have e:Oi (n,str,g,()) q s=false:=by unfold Oi;rw [hn];rfl
  unfold Pe;rw [e];rfl
 ·have hm:Cj n s=false:=Jc.2 (Ga hm)
  have e:Oi (n,str,g,()) q s=false:=by unfold Oi;rw [show Cj (n,str,g,()).1 s=false from hm,Bool.and_false]
  unfold Pe;rw [e];rfl
 ·have hn:Ss (n,str,g,()) q=true:=Fe hn
  have hm:Cj (n,str,g,()).1 s=true:=Fe hm
  have e:Oi (n,str,g,()) q s=true:=by unfold Oi;rw [hn,hm];rfl
  refine ⟨_,Ab (x6 hn hm),?_⟩
  simp only [Di]
  unfold Pe;rw [e];rfl
theorem gC:Dx Try.prog 18 Kc:=
 Dx.fa Np (Au Yt (Au Pk (Hl mZ Bt))) mixed Try.func18 (by kernel_rfl) (by kernel_rfl) λx h=>mP x.1 x.2.1 x.2.2.1 x.2.2.2.1 x.2.2.2.2.1 h
noncomputable abbrev qO:MSpec:=fa [none] [(false, .Gb (.oslice tI))] false [none] [rL] (λx=>short (x.1.getD [])) (λx=>((x.1.getD [],()),()))
noncomputable abbrev lI:MSpec:=fa [none] [(false, .Gb tL)] false [none] [rL] (λx=>short x.1) (λx=>((x.1,()),()))
noncomputable abbrev Ww:Spec:=Hg (.pair tL .unit) tL false true (λx=>short x.1) (λx=>x.1)
theorem SG (xs:Option (List Int)) (P:((List Int×Unit)×Unit)->Prop):(Br xs.isNone (P ((List.take 0 (List.drop 0 []),()),())) (0=0/\0=([]:List Int).length/\0+(xs.getD []).length<=Fu/\P ((List.take ([]++xs.getD []).length (List.drop 0 ([]++xs.getD [])),()),())))=fnMW Ot (look []) qO Try.f90 (xs,()) P:=by kernel_rfl
theorem FH (xs:List Int) (P:List Int->Prop):(0=0/\0=([]:List Int).length/\0+xs.length<=Fu/\P (List.take ([]++xs).length (List.drop 0 ([]++xs))))=fnW Fz (look []) Ww Try.f86 (xs,()) P:=by kernel_rfl
theorem QJ (xs:Option (List Int)) (h:short (xs.getD [])):fnMW Ot (look []) qO Try.f90 (xs,()) (λ(z:(List Int×Unit)×Unit)=>z=((xs.getD [],()),())):=by
 unfold short at h
 refine Eq.mp (SG xs _) ⟨λhn=>?_,λ_=>⟨rfl,rfl,by show 0+(xs.getD []).length<=4294967296;omega,?_⟩⟩
 ·cases xs with
  |none=>rfl
  |some y=>cases hn
 ·simp only [Di,Nh]
theorem wT:Dx Try.prog 90 qO:=
 Dx.fa Np Bt mixed Try.func90 (by kernel_rfl) (by kernel_rfl) λx h=>QJ x.1 h
theorem wS:Dx Try.prog 90 lI:=Dx.ofO wT λ_ _ h=>⟨h,rfl⟩
theorem DO (xs:List Int) (h:short xs):fnW Fz (look []) Ww Try.f86 (xs,()) (λ(z:List Int)=>z=xs):=by
 unfold short at h
 refine Eq.mp (FH xs _) ⟨rfl,rfl,by show 0+xs.length<=4294967296;omega,?_⟩
 simp only [Di,Nh]
theorem qU:Sound Try.prog 86 Ww:=
 Sound.Hg Ef Bt mixed Try.func86 (by kernel_rfl) (by kernel_rfl) λx h=>DO x.1 h
def qi (xs:List Int):ByteArray:=bytesOf (xs.map λx=>IntKind.u8.wrap x)
def lC (ps:List (List Int)) (p:List Int):Int:=Ia (λq=>decide (q=p)) ps 0
theorem eC {α:Type} (P:α->Bool) (y:α): ∀(l:List α) (i:Int),0<=i->Ia P (l++ [y]) i=if Ia P l i<0 then (if P y=true then i+l.length else-1) else Ia P l i
 | [],i,_=>by simp [Ia]
 |x::r,i,h=>by
  simp only [Ly,Ia,Bg]
  split
  ·rw [Ai (by omega)]
  ·rw [eC P y r (i+1) (by omega),show i+1+(r.length:Int)=i+((r.length+1:Nat):Int) by push_cast;omega]
theorem wA (ps:List (List Int)) (q p:List Int):lC (ps++ [q]) p=if lC ps p<0 then (if q=p then (ps.length:Int) else-1) else lC ps p:=by
 unfold lC
 rw [eC _ _ _ _ (bY 0)]
 simp only [Uo,Int.zero_add]
def ny (p:List Int):Prop:= ∀x∈p,0<=x/\x<256
theorem NG {x y:Int} (hx:0<=x/\x<256) (hy:0<=y/\y<256) (h:UInt8.ofNat (IntKind.u8.wrap x).toNat=UInt8.ofNat (IntKind.u8.wrap y).toNat):x=y:=by
 have h:=Jt UInt8.toNat h
 simp only [IntKind.wrap_u8,UInt8.toNat_ofNat'] at h
 omega
theorem bytes_inj: ∀(p q:List Int),ny p->ny q->(p.map λx=>UInt8.ofNat (IntKind.u8.wrap x).toNat)=(q.map λx=>UInt8.ofNat (IntKind.u8.wrap x).toNat)->p=q
 | [],[],_,_,_=>rfl
 | [],_::_,_,_,h=>by simp at h
 |_::_,[],_,_,h=>by simp at h
 |x::p,y::q,hp,hq,h=>by
  simp only [Bw,Gd] at h
  rw [NG (hp x (by simp)) (hq y (by simp)) h.1,bytes_inj p q (λz hz=>hp z (by simp [hz])) (λz hz=>hq z (by simp [hz])) h.2]
theorem key_inj {p q:List Int} (hp:ny p) (hq:ny q) (h:qi p=qi q):p=q:=by
 refine bytes_inj p q hp hq ?_
 simp only [qi,bytesOf,ByteArray.mk.injEq,List.map_map] at h
 have h:=Jt Array.toList h
 simpa [Function.comp_def] using h
def KM (m:ByteArray->Option Int) (ps:List (List Int)):Prop:= ∀p,ny p->m (qi p)=if lC ps p<0 then none else some (lC ps p)
theorem KM.nil:KM (λ_=>none) []:= λp _=>by
 rw [Ab (by unfold lC;simp [Ia])]
theorem KM.add {m:ByteArray->Option Int} {ps:List (List Int)} {q:List Int} (h:KM m ps) (hq:ny q) (hn:lC ps q<0):KM (sM m (qi q) (ps.length:Int)) (ps++ [q]):=by
 intro p hp
 rw [wA]
 unfold sM
 by_cases e:p=q
 ·subst e
  rw [Ab rfl,Ab hn,Ab rfl,Ai (by omega)]
 ·rw [Ai (λhk=>e (key_inj hp hq hk)),h p hp]
  have e': ¬q=p:= λh=>e h.symm
  rw [Ai e']
  by_cases IX:lC ps p<0
  ·rw [Ab IX,Ab IX,Ab (by decide)]
  ·rw [Ai IX,Ai IX,Ai IX]
abbrev tW1:Ty:= .clo 189 (.pair (.ptr tI) .unit)
def ma (m l:Int):Bool:=decide (l≠0/\ -m<=l/\l<=m)
noncomputable abbrev ik:Spec:=Hg (.pair tI (.pair (.ptr tI) .unit)) .bool false true (λx=>0<=x.2.1/\x.2.1<=8) (λx=>!ma x.2.1 x.1)
noncomputable abbrev uq:Spec:=Hg (.pair tL (.pair tW1 .unit)) tI false true (λx=>short x.1/\0<=x.2.1.1/\x.2.1.1<=8) (λx=>Ia (λy=>!ma x.2.1.1 y) x.1 0)
noncomputable abbrev um:Spec:=Hg (.pair tL (.pair tW1 .unit)) .bool false true (λx=>short x.1/\0<=x.2.1.1/\x.2.1.1<=8) (λx=>List.any x.1 (λy=>!ma x.2.1.1 y))
def aj (n:Int):Int:=if 8<n then 8 else n
def Gc (n:Int) (w:List Int):Bool:=decide (w.length<=200)&&!(List.any w λy=>!ma (aj n) y)
noncomputable abbrev Pu:Spec:=Hg (.pair tI (.pair tL .unit)) .bool false true (λx=>short x.2.1/\0<=x.1/\x.1<=4294967296) (λx=>Gc x.1 x.2.1)
noncomputable abbrev a6:Spec:=Hg (.pair Ij (.pair tL .unit)) .bool false true (λx=>Gq x.1/\short x.2.1) (λx=>Gc (List.length x.1.2.2.1:Nat) x.2.1)
noncomputable def Su (p:PP) (q w:List Int):Bool:=Ss p q&&Gc (List.length p.2.2.1:Nat) w
noncomputable def Qz (p:PP) (q w:List Int):List Int:=if Su p q w=true then w.map (Jh p q) else []
noncomputable abbrev Lb:MSpec:=fa [some 3,none,none] [(false, .Gb tI),(false, .Gb .str),(false, .Gb rm),(false, .Gb tL),(false, .Gb tL)] true [none,none] [rL, .Gb .bool]
 (λx=>Gq (x.1,x.2.1,x.2.2.1,())/\short x.2.2.2.1/\short x.2.2.2.2.1) (λx=>((Qz (x.1,x.2.1,x.2.2.1,()) x.2.2.2.1 x.2.2.2.2.1,Su (x.1,x.2.1,x.2.2.1,()) x.2.2.2.1 x.2.2.2.2.1,()),()))
theorem VZ (l m:Int) (P:Bool->Prop):(Br (l==(0:Int)) (P true) (∃(y3:Bool),Dh.fn (l,IntKind.i64.wrap ((0:Int)-m),m,())=some y3/\P !y3))=fnW Fz (look [(94,Dh)]) ik Try.f189 (l,m,()) P:=by kernel_rfl
theorem Afc (xs:List Int) (c:Int×Unit) (P:Int->Prop):(Ek (λ(v3:Int×PUnit) (k4:Int×PUnit->Prop)=>Br (decide (v3.1<(↑xs.length:Int))) (∃(y5:Int),idx xs v3.1=some y5/\ ∃(y6:Bool),ik.fn (y5,c.1,())=some y6/\Br y6 (P v3.1) (k4 (IntKind.i64.wrap (v3.1+(1:Int)),()))) (P (-1:Int))) ((0:Int),PUnit.unit))=fnW Fz (look [(189,ik)]) uq Try.f165 (xs,c,()) P:=by kernel_rfl
theorem Afa (xs:List Int) (c:Int×Unit) (P:Bool->Prop):(∃(y3:Int),uq.fn (xs,c,())=some y3/\P (decide (y3>=(0:Int))))=fnW Fz (look [(165,uq)]) um Try.f188 (xs,c,()) P:=by kernel_rfl
theorem xy (n:Int) (w:List Int) (P:Bool->Prop):(Br (decide ((↑w.length:Int)<=(200:Int))) (∃(y3:Bool),um.fn (w,(if false=true then if (8:Int)>n then (8:Int) else n else if (8:Int)<n then (8:Int) else n,()),())=some y3/\P !y3) (P false))=fnW Fz (look [(188,um)]) Pu Try.f146 (n,w,()) P:=by kernel_rfl
theorem LW (p:Int×ByteArray×List (List Int)×Unit) (w:List Int) (P:Bool->Prop):(∃(y3:Int),ij.fn (p.2.2.1,())=some y3/\ ∃(y4:Bool),Pu.fn (y3,w,())=some y4/\P y4)=fnW Fz (look [(146,Pu),(95,ij)]) a6 Try.f71 (p,w,()) P:=by kernel_rfl
theorem FK (n:Int) (w:List Int) (P:Bool->Prop):(Br (decide ((↑w.length:Int)>(200:Int))) (P false) (Ek (λ(v3:Int×PUnit) (k4:Int×PUnit->Prop)=>Br (decide (v3.1<(↑w.length:Int))) (∃(y5:Int),idx w v3.1=some y5/\Br (y5==(0:Int)) (P false) (∃(y6:Int),idx w v3.1=some y6/\ ∃(y7:Bool),Dh.fn (y6,(-8:Int),(8:Int),())=some y7/\Br (!y7) (P false) (∃(y8:Int),idx w v3.1=some y8/\Br (decide (y8>n)) (P false) (∃(y9:Int),idx w v3.1=some y9/\Br (decide (IntKind.i64.wrap ((0:Int)-y9)>n)) (P false) (k4 (IntKind.i64.wrap (v3.1+(1:Int)),())))))) (P true)) ((0:Int),PUnit.unit)))=fnW Fz (look [(65,Dh)]) Pu Try.f74 (n,w,()) P:=by kernel_rfl
abbrev cQ:Type:=Int×Int×ByteArray×List (List Int)×List Int×PUnit
theorem oI (n:Int) (str:ByteArray) (g:List (List Int)) (q w:List Int) (P:((List Int×Bool×Unit)×Unit)->Prop):(∃(y6:Bool),Lp.fn ((n,str,g,()),q,())=some y6/\Br (!y6) (P ((List.take 0 (List.drop 0 []),false,()),())) (∃(y7:Bool),a6.fn ((n,str,g,()),w,())=some y7/\Br (!y7) (P ((List.take 0 (List.drop 0 []),false,()),())) (0=0/\0=([]:List Int).length/\Ek (λ(v8:cQ) (k9:cQ->Prop)=>Br (decide (v8.1<(↑w.length:Int))) (∃(cS:Int),idx w v8.1=some cS/\ ∃(Xr:Int),Vk.fn ((v8.2.1,v8.2.2.1,v8.2.2.2.1,()),q,cS,())=some Xr/\0=0/\v8.2.2.2.2.1.length=v8.2.2.2.2.1.length/\v8.2.2.2.2.1.length+(List.take 1 (List.drop 0 [Xr])).length<=Fu/\0=0/\(v8.2.2.2.2.1++List.take 1 (List.drop 0 [Xr])).length=(v8.2.2.2.2.1++List.take 1 (List.drop 0 [Xr])).length/\k9 (IntKind.i64.wrap (v8.1+(1:Int)),v8.2.1,v8.2.2.1,v8.2.2.2.1,v8.2.2.2.2.1++List.take 1 (List.drop 0 [Xr]),())) (P ((List.take v8.2.2.2.2.1.length (List.drop 0 v8.2.2.2.2.1),true,()),()))) ((0:Int),n,str,g,[],PUnit.unit))))=fnMW Ot (look [(23,Lp),(71,a6),(72,Vk)]) Lb Try.f20 (n,str,g,q,w,()) P:=by kernel_rfl
theorem HK {m l:Int} :ma m l=true↔l≠0/\ -m<=l/\l<=m:=Lr
theorem VK (l m:Int) (h:0<=m/\m<=8):fnW Fz (look [(94,Dh)]) ik Try.f189 (l,m,()) (λ(z:Bool)=>z=!ma m l):=by
 refine Eq.mp (VZ l m _) ⟨λhe=>?_,λhe=>⟨_,Ab trivial,?_⟩⟩
 ·simp only [Vv] at he
  simp [ma,he]
 ·simp only [Iy,ne_eq] at he
  congr 1
  rw [Bool.eq_iff_iff,Ey,HK,Cs (by omega) (by omega)]
  dsimp only
  omega
theorem zO:Sound Try.prog 189 ik:=
 Sound.Hg Ef (Au Zr Bt) mixed Try.func189 (by kernel_rfl) (by kernel_rfl) λx h=>VK x.1 x.2.1 h
theorem Aet (xs:List Int) (c:Int×Unit) (h:short xs/\0<=c.1/\c.1<=8):fnW Fz (look [(189,ik)]) uq Try.f165 (xs,c,()) (λ(z:Int)=>z=Ia (λy=>!ma c.1 y) xs 0):=by
 obtain ⟨h,h4⟩:=h
 unfold short at h
 refine Eq.mp (Afc xs c _) ?_
 refine Cu xs.length (λv=>v.1) (λj _=>Ia (λy=>!ma c.1 y) (xs.drop j) j=Ia (λy=>!ma c.1 y) xs 0) rfl (by simp) ?_
 rintro j ⟨i,⟨⟩⟩ K hj hi hR hK
 dsimp only at hi⊢
 subst hi
 refine Br.dec (λhl=>?_) λhl=>?_
 ·have hl:j<xs.length:=by omega
  rw [Bu hl] at hR
  simp only [Ia] at hR
  refine ⟨_,Df hl,_,Ab h4,⟨λhe=>?_,λhe=>?_⟩⟩
  ·have he:(!ma c.1 xs[j])=true:=he
   rw [Ab he] at hR
   exact hR
  ·have he:(!ma c.1 xs[j])=false:=he
   rw [Ai (by rw [he];decide)] at hR
   rw [Dw (by omega)]
   exact hK hl _ rfl (by push_cast;exact hR)
 ·have:j=xs.length:=by omega
  subst this
  rw [Oq] at hR
  exact hR
theorem KW:Sound Try.prog 165 uq:=
 Sound.Hg Ef (Au zO Bt) mixed Try.func165 (by kernel_rfl) (by kernel_rfl) λx h=>Aet x.1 x.2.1 h
theorem Aer (xs:List Int) (c:Int×Unit) (h:short xs/\0<=c.1/\c.1<=8):fnW Fz (look [(165,uq)]) um Try.f188 (xs,c,()) (λ(z:Bool)=>z=List.any xs (λy=>!ma c.1 y)):=by
 refine Eq.mp (Afa xs c _) ⟨_,Ab h,?_⟩
 rw [Bool.eq_iff_iff,Lr]
 exact gf _ xs 0 (bY 0)
theorem KU:Sound Try.prog 188 um:=
 Sound.Hg Ef (Au KW Bt) mixed Try.func188 (by kernel_rfl) (by kernel_rfl) λx h=>Aer x.1 x.2.1 h
theorem TQ {n:Int} (h:0<=n):0<=aj n/\aj n<=8:=by unfold aj;split<;>omega
theorem wo (n:Int) (w:List Int) (h:short w/\0<=n/\n<=4294967296):fnW Fz (look [(188,um)]) Pu Try.f146 (n,w,()) (λ(z:Bool)=>z=Gc n w):=by
 have hc:=TQ h.2.1
 have e1:(if false=true then if (8:Int)>n then (8:Int) else n else if (8:Int)<n then (8:Int) else n)=aj n:=rfl
 refine Eq.mp (xy n w _) (Br.dec (λhl=>⟨_,Ab ⟨h.1,hc⟩,?_⟩) λhl=>?_)
 ·show (!(List.any w λy=>!ma (aj n) y))=_
  unfold Gc
  rw [Dg (by omega),Vt]
 ·unfold Gc
  rw [Ht (by omega),Xg]
theorem nf:Sound Try.prog 146 Pu:=
 Sound.Hg Ef (Au KU Bt) mixed Try.func146 (by kernel_rfl) (by kernel_rfl) λx h=>wo x.1 x.2.1 h
theorem KA (p:PP) (w:List Int) (h:Gq p/\short w):fnW Fz (look [(146,Pu),(95,ij)]) a6 Try.f71 (p,w,()) (λ(z:Bool)=>z=Gc (List.length p.2.2.1:Nat) w):=by
 have:=h.1.2.1
 exact Eq.mp (LW p w _) ⟨_,Ab trivial,_,Ab ⟨h.2,by show (0:Int)<=(List.length p.2.2.1:Nat);omega,by show ((List.length p.2.2.1:Nat):Int)<=4294967296;omega⟩,rfl⟩
theorem sD:Sound Try.prog 71 a6:=
 Sound.Hg Ef (Au nf (Au zL Bt)) mixed Try.func71 (by kernel_rfl) (by kernel_rfl) λx h=>KA x.1 x.2.1 h
theorem wb {n l:Int} (hn:0<=n):ma (aj n) l=true↔l≠0/\(-8<=l/\l<=8)/\l<=n/\ -l<=n:=by
 rw [HK];unfold aj;split<;>omega
theorem DR (n:Int) (w:List Int) (h:short w/\0<=n/\n<=4294967296):fnW Fz (look [(65,Dh)]) Pu Try.f74 (n,w,()) (λ(z:Bool)=>z=Gc n w):=by
 refine Eq.mp (FK n w _) (Br.dec (λhl=>?_) λhl=>?_)
 ·unfold Gc
  rw [Ht (by omega),Xg]
 ·have e0:Gc n w=!(List.any w λy=>!ma (aj n) y):=by unfold Gc;rw [Dg (by omega),Vt]
  have bad: ∀(j:Nat) (hj:j<w.length),¬(w[j]≠0/\(-8<=w[j]/\w[j]<=8)/\w[j]<=n/\ -w[j]<=n)->false=Gc n w:= λj hj hn=>by
   rw [e0]
   have:(List.any w λy=>!ma (aj n) y)=true:=Eu.2 ⟨w[j],Ak hj,by
    have:ma (aj n) w[j]=false:=Jc.2 λht=>hn ((wb h.2.1).1 ht)
    rw [this];rfl⟩
   rw [this];rfl
  refine Cu w.length (λv=>v.1) (λj _=> ∀y∈w.take j,ma (aj n) y=true) rfl (by simp) ?_
  rintro j ⟨i,⟨⟩⟩ K hj hi hR hK
  dsimp only at hi⊢
  subst hi
  refine Br.dec (λhl=>?_) λhl=>?_
  ·have hl:j<w.length:=by omega
   refine ⟨_,Df hl,⟨λhz=>?_,λhz=>⟨_,Df hl,_,Ab trivial,⟨λhq=>?_,λhq=>⟨_,Df hl,Br.dec (λhg=>?_) λhg=>⟨_,Df hl,Br.dec (λhm=>?_) λhm=>?_⟩⟩⟩⟩⟩⟩
   ·simp only [Vv] at hz
    exact bad j hl λhh=>hh.1 hz
   ·have hq:=Ga hq
    rw [Ey] at hq
    exact bad j hl λhh=>hq hh.2.1
   ·exact bad j hl λhh=>absurd hh.2.2.1 (by omega)
   ·have hq:=Fe hq
    rw [Ey] at hq
    dsimp only at hq
    rw [Cs (by omega) (by omega)] at hm
    exact bad j hl λhh=>absurd hh.2.2.2 (by omega)
   ·have hq:=Fe hq
    rw [Ey] at hq
    dsimp only at hq
    simp only [Iy,ne_eq] at hz
    rw [Cs (by omega) (by omega)] at hm
    rw [Dw (by omega)]
    refine hK hl _ rfl ?_
    rw [Da hl]
    intro y hy
    rcases Az.1 hy with hy|hy
    ·exact hR y hy
    ·rw [Ae.1 hy]
     exact (wb h.2.1).2 ⟨hz,hq,by omega,by omega⟩
  ·have:j=w.length:=by omega
   subst this
   rw [Ca] at hR
   rw [e0]
   have:(List.any w λy=>!ma (aj n) y)=false:=by
    refine Jc.2 λht=>?_
    obtain ⟨y,hy,h1⟩:=Eu.1 ht
    rw [hR y hy] at h1
    cases h1
   rw [this];rfl
theorem qX:Sound Try.prog 74 Pu:=
 Sound.Hg Ef (Au Sy Bt) mixed Try.func74 (by kernel_rfl) (by kernel_rfl) λx h=>DR x.1 x.2.1 h
theorem Xq {n:Nat} {w:List Int} (h:Gc (n:Int) w=true):w.length<=200/\ ∀y∈w,Fb n y:=by
 unfold Gc at h
 simp only [Ag,Uo,Eg] at h
 refine ⟨h.1,λy hy=>?_⟩
 have h1:ma (aj n) y=true:=by
  cases ho:ma (aj n) y with
  |true=>rfl
  |false=>
   have h2:(List.any w λy=>!ma (aj (n:Int)) y)=true:=Eu.2 ⟨y,hy,by rw [ho];rfl⟩
   rw [h.2] at h2;cases h2
 have:=(wb (by omega)).1 h1
 unfold Fb
 omega
theorem m6 {p:PP} {q w:List Int} (h1:Ss p q=true) (h2:Gc (List.length p.2.2.1:Nat) w=true):Qz p q w=w.map (Jh p q)/\Su p q w=true:=by
 have e:Su p q w=true:=by unfold Su;rw [h1,h2];rfl
 exact ⟨by unfold Qz;rw [Ab e],e⟩
theorem rE {p:PP} {q w:List Int} (h:Ss p q=false\/Gc (List.length p.2.2.1:Nat) w=false):Qz p q w= []/\Su p q w=false:=by
 have e:Su p q w=false:=by unfold Su;rcases h with h|h<;>rw [h];exact Xg _;exact Bool.and_false _
 exact ⟨by unfold Qz;rw [Ai (by rw [e];decide)],e⟩
theorem oB (n:Int) (str:ByteArray) (g:List (List Int)) (q w:List Int) (h:Gq (n,str,g,())/\short q/\short w):fnMW Ot (look [(23,Lp),(71,a6),(72,Vk)]) Lb Try.f20 (n,str,g,q,w,()) (λ(z:(List Int×Bool×Unit)×Unit)=>z=((Qz (n,str,g,()) q w,Su (n,str,g,()) q w,()),())):=by
 refine Eq.mp (oI n str g q w _) ⟨_,Ab ⟨h.1,h.2.1⟩,⟨λhn=>?_,λhn=>⟨_,Ab ⟨h.1,h.2.2⟩,⟨λhm=>?_,λhm=>⟨rfl,rfl,?_⟩⟩⟩⟩⟩
 ·obtain ⟨e1,e2⟩:=rE (w:=w) (.inl (Jc.2 (Ga hn)))
  rw [e1,e2];rfl
 ·obtain ⟨e1,e2⟩:=rE (p:=(n,str,g,())) (q:=q) (.inr (Jc.2 (Ga hm)))
  rw [e1,e2];rfl
 ·have hn:Ss (n,str,g,()) q=true:=Fe hn
  have hm:Gc (List.length (n,str,g,()).2.2.1:Nat) w=true:=Fe hm
  obtain ⟨e1,e2⟩:=m6 hn hm
  obtain ⟨f1,f2⟩:=uD hn
  obtain ⟨g1,g2⟩:=Xq hm
  rw [e1,e2]
  refine Cu w.length (λv=>v.1) (λj v=>v.2=(n,str,g,(w.take j).map (Jh (n,str,g,()) q),())) rfl (by simp) ?_
  rintro j ⟨i,v⟩ K hj hi hv hK
  dsimp only at hi hv⊢
  subst hi hv
  dsimp only
  refine Br.dec (λhl=>?_) λhl=>?_
  ·have hl:j<w.length:=by omega
   refine ⟨_,Df hl,_,Ab ⟨f1,f2,g2 _ (Ak hl)⟩,rfl,rfl,?_,rfl,rfl,?_⟩
   ·show ((w.take j).map _).length+1<=4294967296
    rw [Jv,Co];omega
   ·rw [Dw (by omega)]
    refine hK hl _ rfl ?_
    rw [Da hl,Zu]
    rfl
  ·have:j=w.length:=by omega
   subst this
   rw [Di,Ca]
theorem iz:Dx Try.prog 20 Lb:=
 Dx.fa Np (Au Yt (Au sD (Au lR Bt))) mixed Try.func20 (by kernel_rfl) (by kernel_rfl) λx h=>oB x.1 x.2.1 x.2.2.1 x.2.2.2.1 x.2.2.2.2.1 h
noncomputable abbrev Nd:Spec:=Hg (.pair Ij .unit) tL false true (λx=>List.length x.1.2.2.1<=8) (λx=>Bk (List.length x.1.2.2.1))
abbrev lW:Type:=Int×Int×ByteArray×List (List Int)×List Int×PUnit
theorem AP (p:Int×ByteArray×List (List Int)×Unit) (P:List Int->Prop):(0=0/\0=([]:List Int).length/\Ek (λ(v2:lW) (k3:lW->Prop)=>Br (decide (v2.1<=(↑v2.2.2.2.1.length:Int))) (0=0/\v2.2.2.2.2.1.length=v2.2.2.2.2.1.length/\v2.2.2.2.2.1.length+(List.take 2 (List.drop 0 [v2.1,IntKind.i64.wrap ((0:Int)-v2.1)])).length<=Fu/\0=0/\(v2.2.2.2.2.1++List.take 2 (List.drop 0 [v2.1,IntKind.i64.wrap ((0:Int)-v2.1)])).length=(v2.2.2.2.2.1++List.take 2 (List.drop 0 [v2.1,IntKind.i64.wrap ((0:Int)-v2.1)])).length/\k3 (IntKind.i64.wrap (v2.1+(1:Int)),v2.2.1,v2.2.2.1,v2.2.2.2.1,v2.2.2.2.2.1++List.take 2 (List.drop 0 [v2.1,IntKind.i64.wrap ((0:Int)-v2.1)]),())) (P (List.take v2.2.2.2.2.1.length (List.drop 0 v2.2.2.2.2.1)))) ((1:Int),p.1,p.2.1,p.2.2.1,[],PUnit.unit))=fnW Fz (look []) Nd Try.f144 (p,()) P:=by kernel_rfl
theorem zt (p:PP) (h:List.length p.2.2.1<=8):fnW Fz (look []) Nd Try.f144 (p,()) (λ(z:List Int)=>z=Bk (List.length p.2.2.1)):=by
 refine Eq.mp (AP p _) ⟨rfl,rfl,?_⟩
 refine Ek.mk (λv=> ∃j:Nat,j<=List.length p.2.2.1/\v=((j:Int)+1,p.1,p.2.1,p.2.2.1,Bk j,())) (λv=>List.length p.2.2.1+1-v.1.toNat) ⟨0,Ni _,rfl⟩ ?_
 rintro _ ⟨j,hj,rfl⟩
 dsimp only
 refine Br.dec (λhl=>?_) λhl=>?_
 ·refine ⟨rfl,rfl,?_,rfl,rfl,⟨j+1,by omega,?_⟩,?_⟩
  ·show (Bk j).length+2<=4294967296
   rw [Sr];omega
  ·rw [aH,Cs (n:=(j:Int)+1+1) (by omega) (by omega),Cs (n:=0-((j:Int)+1)) (by omega) (by omega),Int.zero_sub]
   rfl
  ·rw [Cs (by omega) (by omega)];omega
 ·have:j=List.length p.2.2.1:=by omega
  subst this
  rw [Di]
theorem eK:Sound Try.prog 144 Nd:=
 Sound.Hg Ef Bt mixed Try.func144 (by kernel_rfl) (by kernel_rfl) λx h=>zt x.1 h
abbrev rLL:CK:= .row tL 31
def aD (v:Int):List Int->Nat
 | []=>0
 |x::r=>if x>v then aD v r+1 else 0
def lu (v:Int) (t:List Int):Option (List Int):=if aD v t=0 then none else some (Jb t ((aD v t-1:Nat):Int)::(t.set (aD v t-1) v).reverse)
def La:List Int->Option (List Int)
 | []=>none
 |v::t=>match La t with
  |some t'=>some (v::t')
  |none=>lu v t
def nY (xs:List Int) (o n i k:Nat):Option Int:=if o<=k/\k<o+n/\(k<o+i\/o+n<=k+i) then xs[o+n-1-(k-o)]? else xs[k]?
def eD (xs:List Int) (o n:Nat):List Int:=List.take o xs++(List.take n (List.drop o xs)).reverse++List.drop (o+n) xs
noncomputable abbrev Xa:MSpec:=fa [none] [(true, .part tI 2)] false [] [] (λx=>short x.1.1/\x.1.2.1+x.1.2.2<=List.length x.1.1) (λx=>((),(eD x.1.1 x.1.2.1 x.1.2.2,())))
noncomputable abbrev Re:MSpec:=fa [none] [(true,rL)] false [none] [.Gb .bool] (λx=>1<=List.length x.1/\List.length x.1<=20/\List.Nodup (x.1:List Int)) (λx=>(((La x.1).isSome,()),((La x.1).getD x.1,())))
noncomputable abbrev Uf:MSpec:=fa [none] [(false, .Gb tI)] false [none] [rL] (λx=>0<=x.1/\x.1<=20) (λx=>((upto x.1.toNat,()),()))
def lex:Nat->List Int->List (List Int)
 |0,_=> [[]]
 |k+1,R=>R.flatMap λv=>(lex k (R.erase v)).map (v:: ·)
noncomputable def Cx (p:PP):List (List Int):=(lex p.1.toNat (upto p.1.toNat)).filter (Ml p)
noncomputable abbrev Ji:MSpec:=fa [some 3] [(false, .Gb tI),(false, .Gb .str),(false, .Gb rm)] false [none] [xLL] (λx=>Bc (x.1,x.2.1,x.2.2.1,())=true/\x.1<=7) (λx=>((Cx (x.1,x.2.1,x.2.2.1,()),()),()))
theorem LY (a:List Int×Nat×Nat) (P:(Unit×List Int×Unit)->Prop):(a.2.1=a.2.1/\a.2.2=a.2.2/\Ek (λ(v2:Int×Int×List Int×PUnit) (k3:Int×Int×List Int×PUnit->Prop)=>Br (decide (v2.1<v2.2.1)) (((0:Int)<=v2.2.1/\v2.2.1<(↑a.2.2:Int))/\ ∃(y4:Int),v2.2.2.1[a.2.1+v2.2.1.toNat]?=some y4/\((0:Int)<=v2.1/\v2.1<(↑a.2.2:Int))/\ ∃(y5:Int),v2.2.2.1[a.2.1+v2.1.toNat]?=some y5/\((0:Int)<=v2.1/\v2.1<(↑a.2.2:Int))/\a.2.1+v2.1.toNat<v2.2.2.1.length/\((0:Int)<=v2.2.1/\v2.2.1<(↑a.2.2:Int))/\a.2.1+v2.2.1.toNat<(v2.2.2.1.set (a.2.1+v2.1.toNat) y4).length/\a.2.1=a.2.1/\a.2.2=a.2.2/\k3 (IntKind.i64.wrap (v2.1+(1:Int)),IntKind.i64.wrap (v2.2.1-(1:Int)),(v2.2.2.1.set (a.2.1+v2.1.toNat) y4).set (a.2.1+v2.2.1.toNat) y5,())) (P ((),v2.2.2.1,()))) ((0:Int),IntKind.i64.wrap ((↑a.2.2:Int)-(1:Int)),a.1,PUnit.unit))=fnMW Aay (look []) Xa Try.f186 (a,()) P:=by kernel_rfl
theorem FN (xs:List Int) (P:((Bool×Unit)×List Int×Unit)->Prop):(0=0/\xs.length=xs.length/\Ek (λ(v2:Int×List Int×PUnit) (k3:Int×List Int×PUnit->Prop)=>Br (decide (v2.1>=(0:Int))) (((0:Int)<=v2.1/\v2.1<(↑v2.2.1.length:Int))/\ ∃(y4:Int),v2.2.1[0+v2.1.toNat]?=some y4/\((0:Int)<=IntKind.i64.wrap (v2.1+(1:Int))/\IntKind.i64.wrap (v2.1+(1:Int))<(↑v2.2.1.length:Int))/\ ∃(y5:Int),v2.2.1[0+(IntKind.i64.wrap (v2.1+(1:Int))).toNat]?=some y5/\Br (decide (y4>y5)) (0=0/\v2.2.1.length=v2.2.1.length/\k3 (IntKind.i64.wrap (v2.1-(1:Int)),v2.2.1,())) (Br (decide (v2.1<(0:Int))) (P ((false,()),v2.2.1,())) (0=0/\v2.2.1.length=v2.2.1.length/\Ek (λ(v6:Int×List Int×PUnit) (k7:Int×List Int×PUnit->Prop)=>((0:Int)<=v6.1/\v6.1<(↑v6.2.1.length:Int))/\ ∃(y8:Int),v6.2.1[0+v6.1.toNat]?=some y8/\((0:Int)<=v2.1/\v2.1<(↑v6.2.1.length:Int))/\ ∃(y9:Int),v6.2.1[0+v2.1.toNat]?=some y9/\Br (decide (y8<y9)) (0=0/\v6.2.1.length=v6.2.1.length/\k7 (IntKind.i64.wrap (v6.1-(1:Int)),v6.2.1,())) (((0:Int)<=v6.1/\v6.1<(↑v6.2.1.length:Int))/\ ∃(cS:Int),v6.2.1[0+v6.1.toNat]?=some cS/\((0:Int)<=v2.1/\v2.1<(↑v6.2.1.length:Int))/\ ∃(Xr:Int),v6.2.1[0+v2.1.toNat]?=some Xr/\((0:Int)<=v2.1/\v2.1<(↑v6.2.1.length:Int))/\0+v2.1.toNat<v6.2.1.length/\((0:Int)<=v6.1/\v6.1<(↑v6.2.1.length:Int))/\0+v6.1.toNat<(v6.2.1.set (0+v2.1.toNat) cS).length/\((0:Int)<=IntKind.i64.wrap (v2.1+(1:Int))/\IntKind.i64.wrap (v2.1+(1:Int))<=(↑v6.2.1.length:Int)/\(↑v6.2.1.length:Int)<=(↑v6.2.1.length:Int))/\ ∃(Yv:PUnit×List Int×PUnit),Xa.fn (((v6.2.1.set (0+v2.1.toNat) cS).set (0+v6.1.toNat) Xr,0+(IntKind.i64.wrap (v2.1+(1:Int))).toNat,(↑v6.2.1.length:Int).toNat-(IntKind.i64.wrap (v2.1+(1:Int))).toNat),())=some Yv/\Yv.2.1.length=((v6.2.1.set (0+v2.1.toNat) cS).set (0+v6.1.toNat) Xr).length/\P ((true,()),Yv.2.1,()))) (IntKind.i64.wrap ((↑v2.2.1.length:Int)-(1:Int)),v2.2.1,PUnit.unit)))) (Br (decide (v2.1<(0:Int))) (P ((false,()),v2.2.1,())) (0=0/\v2.2.1.length=v2.2.1.length/\Ek (λ(v4:Int×List Int×PUnit) (k5:Int×List Int×PUnit->Prop)=>((0:Int)<=v4.1/\v4.1<(↑v4.2.1.length:Int))/\ ∃(y6:Int),v4.2.1[0+v4.1.toNat]?=some y6/\((0:Int)<=v2.1/\v2.1<(↑v4.2.1.length:Int))/\ ∃(y7:Int),v4.2.1[0+v2.1.toNat]?=some y7/\Br (decide (y6<y7)) (0=0/\v4.2.1.length=v4.2.1.length/\k5 (IntKind.i64.wrap (v4.1-(1:Int)),v4.2.1,())) (((0:Int)<=v4.1/\v4.1<(↑v4.2.1.length:Int))/\ ∃(y8:Int),v4.2.1[0+v4.1.toNat]?=some y8/\((0:Int)<=v2.1/\v2.1<(↑v4.2.1.length:Int))/\ ∃(y9:Int),v4.2.1[0+v2.1.toNat]?=some y9/\((0:Int)<=v2.1/\v2.1<(↑v4.2.1.length:Int))/\0+v2.1.toNat<v4.2.1.length/\((0:Int)<=v4.1/\v4.1<(↑v4.2.1.length:Int))/\0+v4.1.toNat<(v4.2.1.set (0+v2.1.toNat) y8).length/\((0:Int)<=IntKind.i64.wrap (v2.1+(1:Int))/\IntKind.i64.wrap (v2.1+(1:Int))<=(↑v4.2.1.length:Int)/\(↑v4.2.1.length:Int)<=(↑v4.2.1.length:Int))/\ ∃(cS:PUnit×List Int×PUnit),Xa.fn (((v4.2.1.set (0+v2.1.toNat) y8).set (0+v4.1.toNat) y9,0+(IntKind.i64.wrap (v2.1+(1:Int))).toNat,(↑v4.2.1.length:Int).toNat-(IntKind.i64.wrap (v2.1+(1:Int))).toNat),())=some cS/\cS.2.1.length=((v4.2.1.set (0+v2.1.toNat) y8).set (0+v4.1.toNat) y9).length/\P ((true,()),cS.2.1,()))) (IntKind.i64.wrap ((↑v2.2.1.length:Int)-(1:Int)),v2.2.1,PUnit.unit)))) (IntKind.i64.wrap ((↑xs.length:Int)-(2:Int)),xs,PUnit.unit))=fnMW Ot (look [(186,Xa)]) Re Try.f139 (xs,()) P:=by kernel_rfl
theorem AK (n:Int) (P:((List Int×Unit)×Unit)->Prop):(((0:Int)<=n/\n<(↑Fu:Int)+(1:Int))/\n=n/\0=0/\(List.replicate n.toNat (Int.ofNat (nat_lit 0))).length=(List.replicate n.toNat (Int.ofNat (nat_lit 0))).length/\Ek (λ(v2:Int×List Int×PUnit) (k3:Int×List Int×PUnit->Prop)=>Br (decide (v2.1<(↑(List.replicate n.toNat (Int.ofNat (nat_lit 0))).length:Int))) (((0:Int)<=v2.1/\v2.1<(↑v2.2.1.length:Int))/\0+v2.1.toNat<v2.2.1.length/\0=0/\v2.2.1.length=(v2.2.1.set (0+v2.1.toNat) v2.1).length/\k3 (IntKind.i64.wrap (v2.1+(1:Int)),v2.2.1.set (0+v2.1.toNat) v2.1,())) (P ((List.take v2.2.1.length (List.drop 0 v2.2.1),()),()))) ((0:Int),List.replicate n.toNat (Int.ofNat (nat_lit 0)),PUnit.unit))=fnMW Ot (look []) Uf Try.f120 (n,()) P:=by kernel_rfl
abbrev o6:Type:=Int×ByteArray×List (List Int)×List (List Int)×List Int×PUnit
theorem FR (n:Int) (str:ByteArray) (g:List (List Int)) (P:((List (List Int)×Unit)×Unit)->Prop):(∃(y4:(List Int×PUnit)×PUnit),Uf.fn (n,())=some y4/\0=0/\0=([]:List Int).length/\0=0/\y4.1.1.length=y4.1.1.length/\Ek (λ(v5:o6) (k6:o6->Prop)=> ∃(y7:Bool),Mg.fn ((v5.1,v5.2.1,v5.2.2.1,()),List.take v5.2.2.2.2.1.length (List.drop 0 v5.2.2.2.2.1),())=some y7/\Br y7 (∃(y8:(List Int×PUnit)×PUnit),lI.fn (List.take v5.2.2.2.2.1.length (List.drop 0 v5.2.2.2.2.1),())=some y8/\0=0/\v5.2.2.2.1.length=v5.2.2.2.1.length/\v5.2.2.2.1.length+(List.take 1 (List.drop 0 [List.take y8.1.1.length (List.drop 0 y8.1.1)])).length<=Fu/\0=0/\v5.2.2.2.2.1.length=v5.2.2.2.2.1.length/\ ∃(y9:(Bool×PUnit)×List Int×PUnit),Re.fn (v5.2.2.2.2.1,())=some y9/\(y9.2.1.length=v5.2.2.2.2.1.length/\v5.2.2.2.2.1.length=v5.2.2.2.2.1.length)/\Br (!y9.1.1) (P ((List.take (v5.2.2.2.1++List.take 1 (List.drop 0 [List.take y8.1.1.length (List.drop 0 y8.1.1)])).length (List.drop 0 (v5.2.2.2.1++List.take 1 (List.drop 0 [List.take y8.1.1.length (List.drop 0 y8.1.1)]))),()),())) (0=0/\(v5.2.2.2.1++List.take 1 (List.drop 0 [List.take y8.1.1.length (List.drop 0 y8.1.1)])).length=(v5.2.2.2.1++List.take 1 (List.drop 0 [List.take y8.1.1.length (List.drop 0 y8.1.1)])).length/\0=0/\v5.2.2.2.2.1.length=y9.2.1.length/\k6 (v5.1,v5.2.1,v5.2.2.1,v5.2.2.2.1++List.take 1 (List.drop 0 [List.take y8.1.1.length (List.drop 0 y8.1.1)]),y9.2.1,()))) (0=0/\v5.2.2.2.2.1.length=v5.2.2.2.2.1.length/\ ∃(y8:(Bool×PUnit)×List Int×PUnit),Re.fn (v5.2.2.2.2.1,())=some y8/\(y8.2.1.length=v5.2.2.2.2.1.length/\v5.2.2.2.2.1.length=v5.2.2.2.2.1.length)/\Br (!y8.1.1) (P ((List.take v5.2.2.2.1.length (List.drop 0 v5.2.2.2.1),()),())) (0=0/\v5.2.2.2.1.length=v5.2.2.2.1.length/\0=0/\v5.2.2.2.2.1.length=y8.2.1.length/\k6 (v5.1,v5.2.1,v5.2.2.1,v5.2.2.2.1,y8.2.1,())))) (n,str,g,[],y4.1.1,PUnit.unit))=fnMW Ot (look [(120,Uf),(79,Mg),(90,lI),(139,Re)]) Ji Try.f64 (n,str,g,()) P:=by kernel_rfl
theorem JO {xs:List Int} {o n:Nat} (h:o+n<=xs.length) (k:Nat):(eD xs o n)[k]?=if o<=k/\k<o+n then xs[o+n-1-(k-o)]? else xs[k]?:=by
 unfold eD
 have l1:(List.take o xs).length=o:=by rw [Co];omega
 have l2:(List.take n (List.drop o xs)).reverse.length=n:=by rw [List.length_reverse,Co,Ru];omega
 rw [Ct]
 by_cases h1:k<o
 ·rw [Aq (by omega),Ai (by omega),List.getElem?_take_of_lt h1]
 ·rw [Ao (by omega),l1]
  by_cases h2:k<o+n
  ·rw [Aq (by omega),Ab ⟨by omega,h2⟩,List.getElem?_reverse (by rw [Co,Ru];omega)]
   rw [Co,Ru,List.getElem?_take_of_lt (by omega),Ci]
   congr 1
   omega
  ·rw [Ao (by omega),l2,Ai (by omega),Ci]
   congr 1
   omega
theorem KC (a:List Int×Nat×Nat) (h:short a.1/\a.2.1+a.2.2<=a.1.length):fnMW Aay (look []) Xa Try.f186 (a,()) (λ(z:Unit×List Int×Unit)=>z=((),(eD a.1 a.2.1 a.2.2,()))):=by
 obtain ⟨xs,o,n⟩:=a
 obtain ⟨hs,hn⟩:=h
 dsimp only at hs hn
 unfold short at hs
 refine Eq.mp (LY (xs,o,n) _) ⟨rfl,rfl,?_⟩
 dsimp only
 refine Ek.mk (λv=> ∃i:Nat,v.1=i/\v.2.1=(n:Int)-1-i/\2*i<=n/\v.2.2.1.length=xs.length/\ ∀k,v.2.2.1[k]?=nY xs o n i k) (λv=>n-v.1.toNat)
  ⟨0,rfl,by rw [Cs (by omega) (by omega)];simp,by omega,rfl,λk=>by unfold nY;rw [Ai (by omega)]⟩ ?_
 rintro ⟨i',j',ys,⟨⟩⟩ ⟨i,h1,h2,h3,h4,h5⟩
 dsimp only at h1 h2 h4 h5⊢
 subst h1 h2
 refine Br.dec (λhl=>?_) λhl=>?_
 ·have dm:i<n-1-i:=by omega
  have hj:((n:Int)-1-i).toNat=n-1-i:=by omega
  have g1:ys[o+(n-1-i)]?=xs[o+(n-1-i)]?:=by rw [h5];unfold nY;rw [Ai (by omega)]
  have g2:ys[o+i]?=xs[o+i]?:=by rw [h5];unfold nY;rw [Ai (by omega)]
  have k1:o+(n-1-i)<xs.length:=by omega
  have k2:o+i<xs.length:=by omega
  rw [hj,Bh]
  refine ⟨⟨by omega,by omega⟩,_,g1.trans (Ac k1),⟨by omega,by omega⟩,_,g2.trans (Ac k2),⟨by omega,by omega⟩,by omega,⟨by omega,by omega⟩,by rw [Ce];omega,rfl,rfl,?_⟩
  rw [Cs (by omega) (by omega),Cs (by omega) (by omega)]
  refine ⟨⟨i+1,by push_cast;omega,by push_cast;omega,by omega,by rw [Ce,Ce];exact h4,λk=>?_⟩,by omega⟩
  by_cases e1:k=o+(n-1-i)
  ·subst e1
   rw [List.getElem?_set_self (by rw [Ce];omega)]
   unfold nY
   rw [Ab (by omega),<-Ac k2]
   congr 1;omega
  ·rw [List.getElem?_set_ne (Gl e1)]
   by_cases e2:k=o+i
   ·subst e2
    rw [List.getElem?_set_self (by omega)]
    unfold nY
    rw [Ab (by omega),<-Ac k1]
    congr 1;omega
   ·rw [List.getElem?_set_ne (Gl e2),h5]
    unfold nY
    by_cases e3:o<=k/\k<o+n/\(k<o+i\/o+n<=k+i)
    ·rw [Ab e3,Ab (by omega)]
    ·rw [Ai e3,Ai (by omega)]
 ·have:ys=eD xs o n:=by
   refine List.ext_getElem? λk=>?_
   rw [h5,JO hn]
   unfold nY
   by_cases e:o<=k/\k<o+n
   ·rw [Ab e]
    split
    ·rfl
    ·have:k=o+n-1-(k-o):=by omega
     rw [<-this]
   ·rw [Ai e,Ai (by omega)]
  rw [this]
theorem sF:Dx Try.prog 186 Xa:=
 Dx.fa Aaz Bt mixed Try.func186 (by kernel_rfl) (by kernel_rfl) λx h=>KC x.1 h
abbrev uM (l:List Int):Prop:=List.Pairwise (λa b=>b<a) l
theorem hY: ∀(t:List Int),uM t->La t=none
 | [],_=>rfl
 | [v],_=>rfl
 |v::y::r,h=>by
  obtain ⟨h1,h2⟩:=Lq.1 h
  have hy:=h1 y (by simp)
  rw [La,hY (y::r) h2]
  show lu v (y::r)=none
  unfold lu aD
  rw [Ai (show ¬y>v by omega),Ab rfl]
theorem qt {s s':List Int} (h:La s=some s'): ∀pre:List Int,La (pre++s)=some (pre++s')
 | []=>h
 |v::p=>by rw [Ly,La,qt h p];rfl
theorem jP (v:Int): ∀(t:List Int),uM t-> ∀k (hk:k<t.length),k<aD v t↔v<t[k]
 | [],_,k,hk=>absurd hk (Jw _)
 |x::r,h,k,hk=>by
  obtain ⟨h1,h2⟩:=Lq.1 h
  unfold aD
  by_cases hx:x>v
  ·rw [Ab hx]
   rcases k with _|k
   ·simpa using hx
   ·have:=jP v r h2 k (by simpa using hk)
    simp only [Kg]
    rw [<-this];omega
  ·rw [Ai hx]
   refine ⟨λh=>absurd h (Jw _),λh3=>?_⟩
   rcases k with _|k
   ·exact absurd h3 (by simpa using hx)
   ·simp only [Kg] at h3
    have:=h1 _ (Ak (by simpa using hk:k<r.length))
    omega
theorem tV (v:Int): ∀t:List Int,aD v t<=t.length
 | []=>Ar _
 |x::r=>by unfold aD;split<;>simp [tV v r]
theorem JE {v:Int} {t:List Int} (h:uM t) {j:Nat} (hj:j<t.length) (h1:v<t[j]) (h2: ∀k (hk:k<t.length),j<k->t[k]<v):aD v t=j+1:=by
 have h3:=(jP v t h j hj).2 h1
 have h4:=tV v t
 by_cases e:j+1<t.length
 ·have h5:=h2 (j+1) e (by omega)
  have h6:=jP v t h (j+1) e
  have: ¬(j+1<aD v t):= λhh=>by have:=h6.1 hh;omega
  omega
 ·omega
theorem HJ {pre t:List Int} {v:Int} (h:uM t) {j:Nat} (hj:j<t.length) (h1:v<t[j]) (h2: ∀k (hk:k<t.length),j<k->t[k]<v):
  La (pre++v::t)=some (pre++t[j]::(t.set j v).reverse):=by
 refine qt ?_ pre
 rw [La,hY t h]
 show lu v t=_
 unfold lu
 rw [JE h hj h1 h2,Ai (by omega),Nat.add_sub_cancel,Jf hj]
theorem RE {pre t:List Int} {y:Int} :eD (pre++y::t) (pre.length+1) t.length=pre++y::t.reverse:=by
 unfold eD
 have e1:List.take (pre.length+1) (pre++y::t)=pre++ [y]:=by
  rw [List.take_append,List.take_of_length_le (by omega)];simp
 have e2:List.drop (pre.length+1) (pre++y::t)=t:=by
  rw [List.drop_append,Mq (by omega)];simp
 have e3:List.drop (pre.length+1+t.length) (pre++y::t)= []:=Mq (by simp;omega)
 rw [e1,e2,e3,Ca]
 simp
theorem wN {α:Type} (pre:List α) (v a:α) (t:List α):(pre++v::t).set pre.length a=pre++a::t:=by
 rw [List.set_append,Ai (by omega)];simp
theorem RG {α:Type} (pre:List α) (v a:α) (t:List α) (j:Nat):(pre++v::t).set (pre.length+1+j) a=pre++v::t.set j a:=by
 rw [List.set_append,Ai (by omega),show pre.length+1+j-pre.length=j+1 by omega];rfl
theorem LD {α:Type} {xs:List α} {i:Nat} (h:i<xs.length): ∃pre v t,xs=pre++v::t/\pre.length=i:=by
 refine ⟨xs.take i,xs[i],xs.drop (i+1),?_,by rw [Co];omega⟩
 rw [<-Bu h,Gk]
theorem NQ {xs:List Int} (h:uM xs):La xs=none:=hY xs h
theorem LH {pre t:List Int} {v:Int} (h:uM t) {j:Nat} (hj:j<t.length) (h1:v<t[j]) (h2: ∀k (hk:k<t.length),j<k->t[k]<v):
  eD (((pre++v::t).set pre.length t[j]).set (pre.length+1+j) v) (pre.length+1) t.length=(La (pre++v::t)).getD []/\(La (pre++v::t)).isSome=true:=by
 rw [HJ h hj h1 h2,wN,RG]
 have:= @RE pre (t.set j v) t[j]
 rw [Ce] at this
 exact ⟨this,rfl⟩
theorem DU (xs:List Int) (h:1<=xs.length/\xs.length<=20/\xs.Nodup):fnMW Ot (look [(186,Xa)]) Re Try.f139 (xs,()) (λ(z:(Bool×Unit)×List Int×Unit)=>z=(((La xs).isSome,()),((La xs).getD xs,()))):=by
 obtain ⟨GQ,MN,rZ⟩:=h
 have Is: ∀i j (hi:i<xs.length) (hj:j<xs.length),i<j->xs[i]≠xs[j]:= λi j hi hj dm=>Dc.1 rZ i j hi hj dm
 refine Eq.mp (FN xs _) ⟨rfl,rfl,?_⟩
 refine Ek.mk (λv=>v.2.1=xs/\ ∃i:Nat,i+1<=xs.length/\v.1=(i:Int)-1/\uM (xs.drop i)) (λv=>(v.1+1).toNat)
  ⟨rfl,xs.length-1,by omega,by rw [Cs (by omega) (by omega)];omega,?_⟩ ?_
 ·rw [Bu (by omega),Mq (by omega)]
  exact List.pairwise_singleton _ _
 ·rintro ⟨a,ys,⟨⟩⟩ ⟨h1,i,h2,h3,h4⟩
  dsimp only at h1 h3⊢
  subst h1 h3
  refine Br.dec (λhp=>?_) λhp=>?_
  ·obtain ⟨i,rfl⟩: ∃k,i=k+1:=⟨i-1,by omega⟩
   have e0:((i+1:Nat):Int)-1=(i:Int):=by omega
   rw [e0]
   have e1:IntKind.i64.wrap ((i:Int)+1)=((i+1:Nat):Int):=Dw (by omega)
   rw [e1]
   simp only [Bh,Db]
   refine ⟨⟨by omega,by omega⟩,_,Ac (by omega),⟨by omega,by omega⟩,_,Ac (by omega),?_⟩
   have JA:ys.drop i=ys[i]::ys.drop (i+1):=Bu (by omega)
   refine Br.dec (λhg=>⟨trivial,trivial,⟨⟨trivial,i,by omega,by rw [Cs (by omega) (by omega)],?_⟩,by rw [Cs (by omega) (by omega)];omega⟩⟩) λhg=>?_
   ·rw [JA]
    refine Lq.2 ⟨λb hb=>?_,h4⟩
    have Aja:ys.drop (i+1)=ys[i+1]::ys.drop (i+1+1):=Bu (by omega)
    rw [Aja] at hb h4
    rcases Ba.1 hb with rfl|hb
    ·exact hg
    ·exact Int.lt_trans ((Lq.1 h4).1 b hb) hg
   ·refine Br.dec (λhn=>by omega) λ_=>⟨trivial,trivial,?_⟩
    have Jx:ys[i]<ys[i+1]:=by
     have:=Is i (i+1) (by omega) (by omega) (by omega)
     omega
    obtain ⟨pre,v,t,hx,eS⟩:=LD (show i<ys.length by omega)
    have hlen:ys.length=pre.length+1+t.length:=by rw [hx];simp;omega
    have hv:ys[i]=v:=by simp [hx,<-eS]
    have ht: ∀k (hk:k<t.length),ys[i+1+k]'(by omega)=t[k]:= λk hk=>by
     subst eS
     simp only [hx]
     rw [List.getElem_append_right (by omega)]
     simp only [show pre.length+1+k-pre.length=k+1 by omega,Kg]
    have hd:uM t:=by
     have:ys.drop (i+1)=t:=by rw [hx,<-eS,List.drop_append,Mq (by omega)];simp
     rw [<-this];exact h4
    refine Ek.mk (λw=>w.2.1=ys/\ ∃k:Nat,k<t.length/\w.1=((i+1+k:Nat):Int)/\ ∀k' (hk:k'<t.length),k<k'->t[k']<v) (λw=>w.1.toNat)
     ⟨rfl,t.length-1,by omega,by rw [Cs (by omega) (by omega)];omega,λk' hk hh=>by omega⟩ ?_
    rintro ⟨b,zs,⟨⟩⟩ ⟨g1,k,g2,g3,g4⟩
    dsimp only at g1 g3⊢
    subst g1 g3
    simp only [Bh]
    refine ⟨⟨by omega,by omega⟩,_,Ac (by omega),⟨by omega,by omega⟩,_,Ac (by omega),?_⟩
    rw [ht k g2,hv]
    refine Br.dec (λhg=>?_) λhg=>?_
    ·have rW:0<k:=by
      refine Nat.pos_of_ne_zero λe=>?_
      subst e
      have:=ht 0 g2
      simp only [Dz] at this
      omega
     refine ⟨trivial,trivial,⟨⟨trivial,k-1,by omega,by rw [Cs (by omega) (by omega)];omega,λk' hk hh=>?_⟩,by rw [Cs (by omega) (by omega)];omega⟩⟩
     by_cases e:k'=k
     ·subst e;exact hg
     ·exact g4 k' hk (by omega)
    ·have hgt:v<t[k]:=by
      have:=Is i (i+1+k) (by omega) (by omega) (by omega)
      rw [hv,ht k g2] at this
      omega
     have hsw:= @LH pre t v hd k g2 hgt g4
     have hrm:List.length (eD ((zs.set i zs[i+1+k]).set (i+1+k) zs[i]) (i+1) (zs.length-(i+1)))=((zs.set i zs[i+1+k]).set (i+1+k) zs[i]).length:=by
      unfold eD
      simp only [Ay,List.length_reverse,Co,Ru,Ce]
      omega
     have et:zs.length-(i+1)=t.length:=by omega
     refine ⟨⟨by omega,by omega⟩,_,Ac (by omega),⟨by omega,by omega⟩,_,Ac (by omega),⟨by omega,by omega⟩,by omega,⟨by omega,by omega⟩,by rw [Ce];omega,⟨by omega,by omega,by omega⟩,_,Ab (And.intro (show short ((zs.set i zs[i+1+k]).set (i+1+k) zs[i]) by unfold short;rw [Ce,Ce];omega) (show i+1+(zs.length-(i+1))<=((zs.set i zs[i+1+k]).set (i+1+k) zs[i]).length by rw [Ce,Ce];omega)),hrm,?_⟩
     ·show ((true,()),eD ((zs.set i zs[i+1+k]).set (i+1+k) zs[i]) (i+1) (zs.length-(i+1)),())=_
      rw [et,ht k g2,hv]
      have e3:eD ((zs.set i t[k]).set (i+1+k) v) (i+1) t.length=(La zs).getD []/\(La zs).isSome=true:=by
       have:=hsw
       rw [<-hx,eS] at this
       exact this
      rw [e3.1,e3.2]
      cases hm:La zs with
      |none=>rw [hm] at e3;exact absurd e3.2 (by decide)
      |some y=>rfl
  ·have:i=0:=by omega
   subst this
   refine Br.dec (λ_=>?_) λhn=>by omega
   rw [Im] at h4
   rw [NQ h4]
   rfl
theorem r6:Dx Try.prog 139 Re:=
 Dx.fa Np (Hl sF Bt) mixed Try.func139 (by kernel_rfl) (by kernel_rfl) λx h=>DU x.1 h
theorem zn (n:Int) (h:0<=n/\n<=20):fnMW Ot (look []) Uf Try.f120 (n,()) (λ(z:(List Int×Unit)×Unit)=>z=((upto n.toNat,()),())):=by
 refine Eq.mp (AK n _) ⟨⟨by omega,by show n<(4294967296:Int)+1;omega⟩,rfl,rfl,rfl,?_⟩
 refine Cu n.toNat (λv=>v.1) (λj v=>v.2.1.length=n.toNat/\v.2.1.take j=upto j) rfl ⟨by simp,by simp [upto]⟩ ?_
 rintro j ⟨i,ys,⟨⟩⟩ K hj hi ⟨h1,h2⟩ hK
 dsimp only at hi h1 h2⊢
 subst hi
 rw [Gj]
 simp only [Bh,Db]
 refine Br.dec (λhl=>⟨⟨by omega,by omega⟩,by omega,trivial,by rw [Ce],?_⟩) λhl=>?_
 ·rw [Dw (by omega)]
  refine hK (by omega) _ rfl ⟨by rw [Ce];exact h1,?_⟩
  rw [List.take_add_one,List.take_set_of_le (by omega),h2,List.getElem?_set_self (by omega),iq]
  rfl
 ·have:j=ys.length:=by omega
  subst this
  rw [Ca] at h2
  rw [Im,Ca,h2,h1]
theorem oD:Dx Try.prog 120 Uf:=
 Dx.fa Np Bt mixed Try.func120 (by kernel_rfl) (by kernel_rfl) λx h=>zn x.1 h
inductive rM:List Int->List (List Int)->List Int->Prop where
 |one (a:List Int):rM a [a] a
 |more {a c b:List Int} {L:List (List Int)} :La a=some c->rM c L b->rM a (a::L) b
theorem rM.glue {a b c d:List Int} {L M:List (List Int)} (h:rM a L b) (hn:La b=some c) (h2:rM c M d):rM a (L++M) d:=by
 induction h with
 |one a=>exact .more hn h2
 |more h3 _ ih=>exact .more h3 (ih hn)
theorem rM.cons {a b:List Int} {L:List (List Int)} (h:rM a L b) (v:Int):rM (v::a) (L.map (v:: ·)) (v::b):=by
 induction h with
 |one a=>exact .one _
 |more h3 _ ih=>exact .more (qt h3 [v]) ih
abbrev Inc (l:List Int):Prop:=List.Pairwise (λa b=>a<b) l
theorem vX: ∀(k:Nat) (R:List Int),Inc R->R.length=k->rM R (lex k R) R.reverse
 |0,R,_,hl=>by
  have:R= []:=List.length_eq_zero_iff.1 hl
  subst this
  exact .one []
 |k+1,R,hR,hl=>by
  have key: ∀(B A:List Int) (v:Int),R=A++v::B->rM (v::(A++B)) ((v::B).flatMap λu=>(lex k (R.erase u)).map (u:: ·)) R.reverse:=by
   intro B
   induction B with
   |nil=>
    intro A v hA
    have he:R.erase v=A:=by
     rw [hA,List.erase_append_right _ (λhm=>by
      have:=(Js.1 (hA▸hR)).2.2 v hm v (by simp)
      omega)]
     simp
    have h1:=vX k A ((Js.1 (hA▸hR)).1) (by rw [hA] at hl;simp at hl;omega)
    simp only [Ku,List.flatMap_nil,List.append_nil]
    rw [he,hA]
    have h2:=h1.cons v
    simpa using h2
   |cons v' B ih=>
    intro A v hA
    have hp:=Js.1 (hA▸hR)
    have tJ:=Lq.1 hp.2.1
    have hp3:=Lq.1 tJ.2
    have he:R.erase v=A++v'::B:=by
     rw [hA,List.erase_append_right _ (λhm=>by
      have:=hp.2.2 v hm v (by simp)
      omega)]
     simp
    have Ad4:Inc (A++v'::B):=Js.2 ⟨hp.1,tJ.2,λa ha b hb=>hp.2.2 a ha b (Am _ hb)⟩
    have h1:=(vX k (A++v'::B) Ad4 (by rw [hA] at hl;simp at hl⊢;omega)).cons v
    have h2:=ih (A++ [v]) v' (by rw [hA];simp)
    rw [Ku,he]
    refine h1.glue ?_ h2
    have Adx:(A++v'::B).reverse=B.reverse++v'::A.reverse:=by simp
    have Ai5:uM (B.reverse++v'::A.reverse):=by
     rw [<-Adx]
     exact List.pairwise_reverse.2 Ad4
    rw [Adx]
    have hj:B.reverse.length<(B.reverse++v'::A.reverse).length:=by simp
    have hg:(B.reverse++v'::A.reverse)[B.reverse.length]=v':=by simp
    have:= @HJ [] (B.reverse++v'::A.reverse) v Ai5 B.reverse.length hj (by rw [hg];exact tJ.1 v' (by simp)) (λq hq Jx=>by
     rw [List.getElem_append_right (by omega)]
     obtain ⟨q',m8⟩: ∃q',q-B.reverse.length=q'+1:=⟨q-B.reverse.length-1,by omega⟩
     have hq2:q'<A.reverse.length:=by simp at hq m8⊢;omega
     have hm:A.reverse[q']∈A:=List.mem_reverse.1 (Ak _)
     have e:(v'::A.reverse)[q-B.reverse.length]'(by rw [m8];simpa using hq2)=A.reverse[q']:=by simp only [m8,Kg]
     rw [e]
     exact hp.2.2 _ hm v (by simp))
    rw [Nh] at this
    rw [this,hg,wN]
    simp only [Nh,List.reverse_append,List.reverse_cons,List.reverse_reverse,Ct,Ly]
  cases R with
  |nil=>simp at hl
  |cons v B=>
   have:=key B [] v rfl
   rw [lex]
   exact this
theorem qd: ∀(k:Nat) (R x:List Int),R.length=k->x∈lex k R->x.Perm R
 |0,R,x,hl,hx=>by
  have:R= []:=List.length_eq_zero_iff.1 hl
  subst this
  rw [lex,Ae] at hx
  subst hx
  exact .nil
 |k+1,R,x,hl,hx=>by
  rw [lex,Kh] at hx
  obtain ⟨v,hv,hx⟩:=hx
  obtain ⟨y,hy,rfl⟩:=Bo.1 hx
  have h1:=qd k (R.erase v) y (by rw [Vu hv];omega) hy
  exact (h1.cons v).trans (List.perm_cons_erase hv).symm
def yo:Nat->Nat
 |0=>1
 |k+1=>(k+1)*yo k
theorem yr {α β:Type} {n:Nat} (f:α->List β): ∀(l:List α),(∀a∈l,(f a).length=n)->(l.flatMap f).length=l.length*n
 | [],_=>by simp
 |a::r,h=>by
  rw [Ku,Ay,yr f r (λb hb=>h b (Am _ hb)),h a (by simp),Bg,Nat.succ_mul]
  omega
theorem vW: ∀(k:Nat) (R:List Int),R.length=k->(lex k R).length=yo k
 |0,_,_=>rfl
 |k+1,R,hl=>by
  rw [lex,yr (n:=yo k) _ _ (λv hv=>by rw [Jv];exact vW k _ (by rw [Vu hv];omega)),hl]
  rfl
theorem NU: ∀k,k<=7->yo k<=5040:=by decide
theorem AD (n:Nat):Inc (upto n):=by
 unfold upto
 refine List.pairwise_map.2 (List.Pairwise.imp ?_ List.pairwise_lt_range)
 intro a b h
 exact Int.ofNat_lt.2 h
theorem yU {n:Nat} (h:n<=7):(lex n (upto n)).length<=5040:=by rw [vW n _ (Jj n)];exact NU n h
theorem jW {n:Int} {x:List Int} (h1:1<=n) (h2:n<=20) (h:x.Perm (upto n.toNat)):Cj n x=true:=by
 have hl:x.length=n.toNat:=by rw [h.length_eq,Jj]
 refine Fp.2 ⟨by omega,Fp.2 ⟨by omega,by omega,λj hj _=>?_⟩⟩
 have hm:=Nb.1 (h.mem_iff.1 (Ak hj))
 refine ⟨hm.1,by omega,λhc=>?_⟩
 have rZ:x.Nodup:=h.nodup_iff.2 (ec _)
 rw [<-Gk j x,Bu hj] at rZ
 exact (Js.1 rZ).2.2 _ hc _ (Jr ..) rfl
theorem rM.head {a b:List Int} {L:List (List Int)} (h:rM a L b): ∃M,L=a::M:=by
 cases h with
 |one=>exact ⟨_,rfl⟩
 |more _ _=>exact ⟨_,rfl⟩
theorem rM.at {a b:List Int} {L:List (List Int)} (h:rM a L b): ∀j (hj:j<L.length),(∀h2:j+1<L.length,La L[j]=some L[j+1])/\(j+1=L.length->L[j]=b):=by
 induction h with
 |one a=>
  intro j hj
  simp only [Ck] at hj
  have:j=0:=by omega
  subst this
  exact ⟨λh2=>by simp at h2,λ_=>rfl⟩
 |more h3 h4 ih=>
  intro j hj
  rcases j with _|j
  ·obtain ⟨M,hM⟩:=h4.head
   refine ⟨λh2=>?_,λh2=>?_⟩
   ·simp only [List.getElem_cons_zero,Kg]
    subst hM
    exact h3
   ·subst hM;simp at h2
  ·have:=ih j (by simpa using hj)
   refine ⟨λh2=>?_,λh2=>?_⟩
   ·simp only [Kg]
    exact this.1 (by simpa using h2)
   ·simp only [Kg]
    exact this.2 (by simpa using h2)
theorem rM.distinct {a b:List Int} {L:List (List Int)} (h:rM a L b) (hb:La b=none): ∀k i j (hi:i<L.length) (hj:j<L.length),L.length-j=k->i<j->L[i]≠L[j]:=by
 intro k
 induction k with
 |zero=>intro i j hi hj hk;omega
 |succ k ih=>
  intro i j hi hj hk dm he
  by_cases e:j+1<L.length
  ·have h1:=(h.at i hi).1 (by omega)
   have h2:=(h.at j hj).1 e
   rw [he,h2] at h1
   exact ih (i+1) (j+1) (by omega) e (by omega) (by omega) (Aw h1).symm
  ·have h1:=(h.at i hi).1 (by omega)
   have h2:=(h.at j hj).2 (by omega)
   rw [he,h2,hb] at h1
   cases h1
theorem rM.idx {a b:List Int} {L:List (List Int)} (h:rM a L b) (hb:La b=none) {j:Nat} (hj:j<L.length):L.idxOf L[j]=j:=by
 have h1:L.idxOf L[j]<L.length:=List.idxOf_lt_length_of_mem (Ak _)
 have h2:L[L.idxOf L[j]]=L[j]:=List.getElem_idxOf h1
 rcases Nat.lt_trichotomy (L.idxOf L[j]) j with h3|h3|h3
 ·exact absurd h2 (h.distinct hb _ _ _ h1 hj rfl h3)
 ·exact h3
 ·exact absurd h2.symm (h.distinct hb _ _ _ hj h1 rfl h3)
theorem ru (n:Nat):rM (upto n) (lex n (upto n)) (upto n).reverse:=vX n _ (AD n) (Jj n)
theorem mF (n:Nat):La (upto n).reverse=none:=hY _ (List.pairwise_reverse.2 (AD n))
theorem yp {α:Type} (f:α->Bool) (L:List α) {j:Nat} (h:j<L.length):(L.take (j+1)).filter f=(L.take j).filter f++if f L[j]=true then [L[j]] else []:=by
 rw [List.take_add_one,Ac h,List.filter_append]
 congr 1
 simp only [Option.toList]
 by_cases e:f L[j]=true
 ·rw [Ab e,List.filter_cons_of_pos e];rfl
 ·rw [Ai e,List.filter_cons_of_neg e];rfl
theorem DY (n:Int) (str:ByteArray) (g:List (List Int)) (h:Bc (n,str,g,())=true/\n<=7):fnMW Ot (look [(120,Uf),(79,Mg),(90,lI),(139,Re)]) Ji Try.f64 (n,str,g,()) (λ(z:(List (List Int)×Unit)×Unit)=>z=((Cx (n,str,g,()),()),())):=by
 obtain ⟨hv,h7⟩:=h
 have hvl:=rz hv
 dsimp only at hvl
 refine Eq.mp (FR n str g _) ⟨_,Ab ⟨by show 0<=n;omega,by show n<=20;omega⟩,rfl,rfl,rfl,rfl,?_⟩
 show Ek _ (n,str,g,[],upto n.toNat,PUnit.unit)
 generalize hL:lex n.toNat (upto n.toNat)=L
 have Qy:=ru n.toNat
 have OO: ∀x∈L,x.Perm (upto n.toNat):= λx hx=>qd _ _ x (Jj _) (hL▸hx)
 have hlen:=yU (n:=n.toNat) (by omega)
 rw [hL] at Qy hlen
 have hat:=Qy.at
 have Aib: ∀j (hj:j<L.length) (o:Option (List Int)),La L[j]=o->(o=none/\j+1=L.length)\/(∃h2:j+1<L.length,o=some L[j+1]):= λj hj o ho=>by
  by_cases e:j+1<L.length
  ·exact .inr ⟨e,by rw [<-ho];exact (hat j hj).1 e⟩
  ·refine .inl ⟨?_,by omega⟩
   rw [<-ho,(hat j hj).2 (by omega)]
   exact mF _
 have hsy:Cx (n,str,g,())=L.filter (Ml (n,str,g,())):=by unfold Cx;rw [hL]
 have hix: ∀j (hj:j<L.length),L.idxOf L[j]=j:= λj hj=>Qy.idx (mF _) hj
 obtain ⟨M,hM⟩:=Qy.head
 have h0:0<L.length:=by rw [hM];simp
 have Aic: ∀j (hj:j<L.length),Cj n L[j]=true:= λj hj=>jW hvl.1 (by omega) (OO _ (Ak _))
 have l5: ∀j (hj:j<L.length),L[j].length=n.toNat:= λj hj=>by rw [(OO _ (Ak _)).length_eq,Jj]
 have rZ: ∀j (hj:j<L.length),L[j].Nodup:= λj hj=>(OO _ (Ak _)).nodup_iff.2 (ec _)
 have MK: ∀j,((L.take j).filter (Ml (n,str,g,()))).length<=5040:= λj=>Ou (List.length_filter_le _ _) (by rw [Co];omega)
 refine Ek.mk (λv=>v.1=n/\v.2.1=str/\v.2.2.1=g/\ ∃j,∃h:j<L.length,v.2.2.2.1=(L.take j).filter (Ml (n,str,g,()))/\v.2.2.2.2.1=L[j])
  (λv=>L.length-L.idxOf v.2.2.2.2.1) ⟨rfl,rfl,rfl,0,h0,by simp,by simp [hM]⟩ ?_
 rintro ⟨n',zQ,g',out,q,⟨⟩⟩ ⟨h1,h2,h3,j,hj,h4,h5⟩
 dsimp only at h1 h2 h3 h4 h5
 subst h1 h2 h3 h4 h5
 dsimp only
 have ZY:short L[j]:=by unfold short;rw [l5];omega
 rw [Di L[j]]
 have hft:=yp (Ml (n',zQ,g',())) L hj
 have step: ∀Ye,Ye=(L.take (j+1)).filter (Ml (n',zQ,g',()))->
   ∃(y9:(Bool×PUnit)×List Int×PUnit),Re.fn (L[j],())=some y9/\(y9.2.1.length=L[j].length/\L[j].length=L[j].length)/\
    Br (!y9.1.1) (((List.take Ye.length (List.drop 0 Ye),()),())=((Cx (n',zQ,g',()),()),()))
     ((0:Nat)=(0:Nat)/\Ye.length=Ye.length/\(0:Nat)=(0:Nat)/\L[j].length=y9.2.1.length/\
      ((n'=n'/\zQ=zQ/\g'=g'/\ ∃j1,∃_:j1<L.length,Ye=(L.take j1).filter (Ml (n',zQ,g',()))/\y9.2.1=L[j1])/\L.length-L.idxOf y9.2.1<L.length-L.idxOf L[j])):=by
  intro Ye ho
  refine ⟨_,Ab ⟨by show 1<=L[j].length;rw [l5];omega,by show L[j].length<=20;rw [l5];omega,rZ j hj⟩,?_⟩
  rw [Di]
  rcases Aib j hj _ rfl with ⟨e1,e2⟩|⟨e1,e2⟩
  ·simp only [e1,Option.isSome,Option.getD,Bool.not_false]
   refine ⟨⟨trivial,trivial⟩,⟨λ_=>?_,λhe=>(by cases he)⟩⟩
   rw [ho,hsy,e2,Ca]
  ·simp only [e2,Option.isSome,Option.getD,Bool.not_true]
   have IS:L[j+1].length=L[j].length:=by rw [l5,l5]
   exact ⟨⟨IS,trivial⟩,⟨λhe=>(by cases he),λ_=>⟨trivial,trivial,trivial,IS.symm,⟨trivial,trivial,trivial,j+1,e1,ho,rfl⟩,by rw [hix,hix];omega⟩⟩⟩
 refine ⟨_,Ab ⟨hv,Aic j hj⟩,⟨λhs=>?_,λhs=>?_⟩⟩
 ·have hs:Ml (n',zQ,g',()) L[j]=true:=hs
  rw [Ab hs] at hft
  refine ⟨_,Ab ZY,rfl,rfl,?_,rfl,rfl,?_⟩
  ·show _+1<=4294967296
   have:=MK j
   omega
  ·exact step _ (show _++List.take 1 (List.drop 0 [List.take L[j].length (List.drop 0 L[j])])=_ by rw [Di L[j]];exact hft.symm)
 ·have hs:Ml (n',zQ,g',()) L[j]=false:=hs
  rw [Ai (by rw [hs];decide),List.append_nil] at hft
  exact ⟨rfl,rfl,step _ hft.symm⟩
theorem aP:Dx Try.prog 64 Ji:=
 Dx.fa Np (Hl oD (Au cO (Hl wS (Hl r6 Bt)))) mixed Try.func64 (by kernel_rfl) (by kernel_rfl) λx h=>DY x.1 x.2.1 x.2.2.1 h
def Dk:List Int->List Int->Int
 | [],[]=>0
 | [],_::_=> -1
 |_::_,[]=>1
 |x::a,y::b=>if x<y then-1 else if x>y then 1 else Dk a b
def No (a b:List Int):Bool:=decide (Dk a b<0)
def Hb (list:List (List Int)) (s:List Int):List Int:=list.foldl (λleast q=>if No (Cc s q) least=true then Cc s q else least) s
def kC (list:List (List Int)) (s:List Int):Prop:=list.length<=6000/\s.length<=20/\Le s.length s/\ ∀q∈list,s.length=q.length/\Gp q=true
noncomputable def Nw (p:PP):Bool:=Bc p&&decide (p.1<=7)
noncomputable def w5 (p:PP):List (List Int):=if Nw p=true then Cx p else []
noncomputable def qh (p:PP) (s:List Int):List Int:=if Nw p=true/\Cj p.1 s=true then Hb (Cx p) s else []
noncomputable def Zo (p:PP) (a b:List Int):Bool:=Nw p&&Cj p.1 a&&Cj p.1 b&&decide (Hb (Cx p) a=Hb (Cx p) b)
noncomputable abbrev mV:Spec:=Hg (.pair (.oslice tI) .unit) tL false true (λx=>short (x.1.getD [])) (λx=>x.1.getD [])
noncomputable abbrev lJ:Spec:=Hg (.pair tL .unit) tL false true (λx=>short x.1) (λx=>x.1)
noncomputable abbrev dO:Spec:=Hg (.pair tI .unit) .bool false true (λ_=>True) (λ_=>false)
noncomputable abbrev uj:Spec:=Hg (.pair tI (.pair tI .unit)) tI false true (λ_=>True) (λx=>if x.1<x.2.1 then-1 else if x.1>x.2.1 then 1 else 0)
noncomputable abbrev Zz:Spec:=Hg (.pair tL (.pair tL .unit)) tI false true (λx=>short x.1/\short x.2.1) (λx=>Dk x.1 x.2.1)
noncomputable abbrev Wz:Spec:=Hg (.pair tL (.pair tL .unit)) .bool false true (λx=>short x.1/\List.length x.1=List.length x.2.1) (λx=>No x.1 x.2.1)
noncomputable abbrev Sx:Spec:=Hg (.pair rm (.pair tL .unit)) tL false true (λx=>kC x.1 x.2.1) (λx=>Hb x.1 x.2.1)
noncomputable abbrev Ti:Spec:=Hg (.pair Ij .unit) .bool false true (λx=>Gq x.1) (λx=>Nw x.1)
noncomputable abbrev Tt:Spec:=Hg (.pair Ij .unit) rm false false (λx=>Gq x.1) (λx=>w5 x.1)
noncomputable abbrev Nf:Spec:=Hg (.pair Ij (.pair tL .unit)) tL false true (λx=>Gq x.1/\short x.2.1) (λx=>qh x.1 x.2.1)
noncomputable abbrev dN:Spec:=Hg (.pair Ij (.pair tL (.pair tL .unit))) .bool false true (λx=>Gq x.1/\short x.2.1/\short x.2.2.1) (λx=>Zo x.1 x.2.1 x.2.2.1)
theorem LQ (xs:Option (List Int)) (P:List Int->Prop):(Br xs.isNone (P (List.take 0 (List.drop 0 []))) (0=0/\0=([]:List Int).length/\0+(xs.getD []).length<=Fu/\P (List.take ([]++xs.getD []).length (List.drop 0 ([]++xs.getD [])))))=fnW Fz (look []) mV Try.f90 (xs,()) P:=by kernel_rfl
theorem VV (x:Int) (P:Bool->Prop):(P (x !=x))=fnW Fz (look []) dO Try.f211 (x,()) P:=by kernel_rfl
theorem Af8 (x y:Int) (P:Int->Prop):(∃(y3:Bool),dO.fn (x,())=some y3/\ ∃(y4:Bool),dO.fn (y,())=some y4/\Br y3 (Br y4 (P (0:Int)) (P (-1:Int))) (Br y4 (P (1:Int)) (Br (decide (x<y)) (P (-1:Int)) (Br (decide (x>y)) (P (1:Int)) (P (0:Int))))))=fnW Fz (look [(211,dO)]) uj Try.f191 (x,y,()) P:=by kernel_rfl
theorem LR (a b:List Int) (P:Int->Prop):(Ek (λ(v3:Int×PUnit) (k4:Int×PUnit->Prop)=>Br (decide (v3.1<(↑a.length:Int))) (∃(y5:Int),idx a v3.1=some y5/\Br (decide (v3.1>=(↑b.length:Int))) (P (1:Int)) (∃(y6:Int),idx b v3.1=some y6/\ ∃(y7:Int),uj.fn (y5,y6,())=some y7/\Br (y7 !=(0:Int)) (P y7) (k4 (IntKind.i64.wrap (v3.1+(1:Int)),())))) (Br (decide ((↑a.length:Int)<(↑b.length:Int))) (P (-1:Int)) (P (0:Int)))) ((0:Int),PUnit.unit))=fnW Fz (look [(191,uj)]) Zz Try.f151 (a,b,()) P:=by kernel_rfl
theorem FO (a b:List Int) (P:Bool->Prop):(Ek (λ(v3:Int×PUnit) (k4:Int×PUnit->Prop)=>Br (decide (v3.1<(↑a.length:Int))) (∃(y5:Int),idx a v3.1=some y5/\ ∃(y6:Int),idx b v3.1=some y6/\Br (y5 !=y6) (∃(y7:Int),idx a v3.1=some y7/\ ∃(y8:Int),idx b v3.1=some y8/\P (decide (y7<y8))) (k4 (IntKind.i64.wrap (v3.1+(1:Int)),()))) (P false)) ((0:Int),PUnit.unit))=fnW Fz (look []) Wz Try.f210 (a,b,()) P:=by kernel_rfl
theorem SF (l:List (List Int)) (s:List Int) (P:List Int->Prop):(∃(y3:List Int),lJ.fn (s,())=some y3/\Ek (λ(v4:List Int×Int×PUnit) (k5:List Int×Int×PUnit->Prop)=>Br (decide (v4.2.1<(↑l.length:Int))) (∃(y6:List Int),idx l v4.2.1=some y6/\ ∃(y7:List Int),Nc.fn (s,y6,())=some y7/\ ∃(y8:Int),Zz.fn (y7,v4.1,())=some y8/\Br (decide (y8<(0:Int))) (k5 (y7,IntKind.i64.wrap (v4.2.1+(1:Int)),())) (k5 (v4.1,IntKind.i64.wrap (v4.2.1+(1:Int)),()))) (P v4.1)) (y3,(0:Int),PUnit.unit))=fnW Fz (look [(90,lJ),(68,Nc),(151,Zz)]) Sx Try.f81 (l,s,()) P:=by kernel_rfl
theorem AN (p:Int×ByteArray×List (List Int)×Unit) (P:Bool->Prop):(∃(y2:Bool),Ic.fn ((p.1,p.2.1,p.2.2.1,()),())=some y2/\Br y2 (P (decide (p.1<=(7:Int)))) (P false))=fnW Fz (look [(119,Ic)]) Ti Try.f63 (p,()) P:=by kernel_rfl
theorem AL (p:Int×ByteArray×List (List Int)×Unit) (a b:List Int) (P:Bool->Prop):(∃(y4:Bool),Ti.fn ((p.1,p.2.1,p.2.2.1,()),())=some y4/\Br (!y4) (P false) (∃(y5:Bool),Hw.fn ((p.1,p.2.1,p.2.2.1,()),a,())=some y5/\Br (!y5) (P false) (∃(y6:Bool),Hw.fn ((p.1,p.2.1,p.2.2.1,()),b,())=some y6/\Br (!y6) (P false) (∃(y7:(List (List Int)×PUnit)×PUnit),Ji.fn (p.1,p.2.1,p.2.2.1,())=some y7/\ ∃(y8:List Int),Sx.fn (List.take y7.1.1.length (List.drop 0 y7.1.1),a,())=some y8/\ ∃(y9:List Int),Sx.fn (List.take y7.1.1.length (List.drop 0 y7.1.1),b,())=some y9/\ ∃(cS:Bool),El.fn (y8,y9,())=some cS/\P cS))))=fnW Fz (look [(63,Ti),(67,Hw),(64,Ji),(81,Sx),(82,El)]) dN Try.f26 (p,a,b,()) P:=by kernel_rfl
theorem Sound.ofO {P:Program} {f:FuncId} {e:Ty} {r res:Ty} {Hc fresh:Bool} {pre:(Ty.pair (.oslice e) r).den->Prop} {val:(Ty.pair (.oslice e) r).den->res.den} {qD:(Ty.pair (.slice e) r).den->Prop} {ry:(Ty.pair (.slice e) r).den->res.den}
  (h:Sound P f (Go.Proofs.Ytkkdpknjohcekaa.Hg (.pair (.oslice e) r) res Hc fresh pre val))
  (hp: ∀(o:Option (List e.den)) (y:r.den),qD (o.getD [],y)->pre (o,y)/\val (o,y)=ry (o.getD [],y)):Sound P f (Go.Proofs.Ytkkdpknjohcekaa.Hg (.pair (.slice e) r) res Hc fresh qD ry):=by
 refine ⟨h.enter,λw S vs x y hS h2 h5=>?_⟩
 obtain ⟨xs,rest⟩:=x
 cases vs with
 |nil=>exact h2.elim
 |cons u us=>
  obtain ⟨h7,h8⟩:=h2
  obtain ⟨ox,h9,rfl⟩:=h7.told
  have OS:qD (ox.getD [],rest):=Cd λhn=>by
   have:(Go.Proofs.Ytkkdpknjohcekaa.Hg (.pair (.slice e) r) res Hc fresh qD ry).fn (ox.getD [],rest)=none:=Ai hn
   rw [this] at h5;cases h5
  obtain ⟨k1,k2⟩:=hp ox rest OS
  have hv:(Go.Proofs.Ytkkdpknjohcekaa.Hg (.pair (.slice e) r) res Hc fresh qD ry).fn (ox.getD [],rest)=some (ry (ox.getD [],rest)):=Ab OS
  rw [hv] at h5
  have h5:=Aw h5
  exact h.calls w S (u::us) (ox,rest) y hS ⟨h9,h8⟩ ((Ab k1).trans (by rw [k2];exact Jt some h5))
theorem JV (xs:Option (List Int)) (h:short (xs.getD [])):fnW Fz (look []) mV Try.f90 (xs,()) (λ(z:List Int)=>z=xs.getD []):=by
 unfold short at h
 refine Eq.mp (LQ xs _) ⟨λhn=>?_,λ_=>⟨rfl,rfl,by show 0+(xs.getD []).length<=4294967296;omega,?_⟩⟩
 ·cases xs with
  |none=>rfl
  |some y=>cases hn
 ·simp only [Di,Nh]
theorem sA:Sound Try.prog 90 mV:=
 Sound.Hg Ef Bt mixed Try.func90 (by kernel_rfl) (by kernel_rfl) λx h=>JV x.1 h
theorem wU:Sound Try.prog 90 lJ:=Sound.ofO sA λ_ _ h=>⟨h,rfl⟩
theorem VG (x:Int) (_:True):fnW Fz (look []) dO Try.f211 (x,()) (λ(z:Bool)=>z=false):=by
 refine Eq.mp (VV x _) ?_
 simp
theorem zK:Sound Try.prog 211 dO:=
 Sound.Hg Ef Bt mixed Try.func211 (by kernel_rfl) (by kernel_rfl) λx h=>VG x.1 h
theorem Aep (x y:Int) (_:True):fnW Fz (look [(211,dO)]) uj Try.f191 (x,y,()) (λ(z:Int)=>z=if x<y then-1 else if x>y then 1 else 0):=by
 refine Eq.mp (Af8 x y _) ⟨_,Ab trivial,_,Ab trivial,⟨λh=>(by cases h),λ_=>⟨λh=>(by cases h),λ_=>Br.dec (λh=>?_) λh=>Br.dec (λh2=>?_) λh2=>?_⟩⟩⟩
 ·rw [Ab h]
 ·rw [Ai h,Ab h2]
 ·rw [Ai h,Ai h2]
theorem KS:Sound Try.prog 191 uj:=
 Sound.Hg Ef (Au zK Bt) mixed Try.func191 (by kernel_rfl) (by kernel_rfl) λx h=>Aep x.1 x.2.1 h
theorem JW (a b:List Int) (h:short a/\short b):fnW Fz (look [(191,uj)]) Zz Try.f151 (a,b,()) (λ(z:Int)=>z=Dk a b):=by
 obtain ⟨ha,hb⟩:=h
 unfold short at ha hb
 refine Eq.mp (LR a b _) ?_
 refine Cu a.length (λv=>v.1) (λj _=>j<=b.length/\Dk (a.drop j) (b.drop j)=Dk a b) rfl ⟨Ni _,by simp⟩ ?_
 rintro j ⟨i,⟨⟩⟩ K hj hi ⟨hR1,pQ⟩ hK
 dsimp only at hi⊢
 subst hi
 refine Br.dec (λhl=>?_) λhl=>?_
 ·have hl:j<a.length:=by omega
  rw [Bu hl] at pQ
  refine ⟨_,Df hl,Br.dec (λGN=>?_) λGN=>?_⟩
  ·have:j=b.length:=by omega
   rw [Mq (by omega:b.length<=j)] at pQ
   rw [<-pQ]
   rfl
  ·have ZN:j<b.length:=by omega
   rw [Bu ZN] at pQ
   refine ⟨_,Df ZN,_,Ab trivial,?_⟩
   dsimp only
   simp only [Dk] at pQ
   by_cases h1:a[j]<b[j]
   ·rw [Ab h1] at pQ⊢
    exact ⟨λ_=>pQ,λh=>by cases h⟩
   ·rw [Ai h1] at pQ⊢
    by_cases h2:a[j]>b[j]
    ·rw [Ab h2] at pQ⊢
     exact ⟨λ_=>pQ,λh=>by cases h⟩
    ·rw [Ai h2] at pQ⊢
     refine ⟨λh=>(by cases h),λ_=>?_⟩
     rw [Dw (by omega)]
     exact hK hl _ rfl ⟨ZN,pQ⟩
 ·have:j=a.length:=by omega
  subst this
  rw [Oq] at pQ
  refine Br.dec (λh=>?_) λh=>?_
  ·rw [<-pQ,Bu (by omega)]
   rfl
  ·rw [<-pQ,Mq (by omega)]
   rfl
theorem sB:Sound Try.prog 151 Zz:=
 Sound.Hg Ef (Au KS Bt) mixed Try.func151 (by kernel_rfl) (by kernel_rfl) λx h=>JW x.1 x.2.1 h
theorem DV (a b:List Int) (h:short a/\a.length=b.length):fnW Fz (look []) Wz Try.f210 (a,b,()) (λ(z:Bool)=>z=No a b):=by
 obtain ⟨ha,hb⟩:=h
 unfold short at ha
 refine Eq.mp (FO a b _) ?_
 refine Cu a.length (λv=>v.1) (λj _=>Dk (a.drop j) (b.drop j)=Dk a b) rfl (by simp) ?_
 rintro j ⟨i,⟨⟩⟩ K hj hi pQ hK
 dsimp only at hi⊢
 subst hi
 refine Br.dec (λhl=>?_) λhl=>?_
 ·have hl:j<a.length:=by omega
  have ZN:j<b.length:=by omega
  rw [Bu hl,Bu ZN] at pQ
  simp only [Dk] at pQ
  refine ⟨_,Df hl,_,Df ZN,⟨λIs=>?_,λIs=>?_⟩⟩
  ·refine ⟨_,Df hl,_,Df ZN,?_⟩
   have Is:a[j]≠b[j]:=by simpa using Is
   unfold No
   rw [<-pQ]
   by_cases h1:a[j]<b[j]
   ·rw [Ab h1];simp [h1]
   ·rw [Ai h1,Ab (by omega)];simp [h1]
  ·have Is:a[j]=b[j]:=by simpa using Is
   rw [Ai (by omega),Ai (by omega)] at pQ
   rw [Dw (by omega)]
   exact hK hl _ rfl pQ
 ·have:j=a.length:=by omega
  subst this
  rw [Oq,Mq (by omega)] at pQ
  unfold No
  rw [<-pQ]
  rfl
theorem r7:Sound Try.prog 210 Wz:=
 Sound.Hg Ef Bt mixed Try.func210 (by kernel_rfl) (by kernel_rfl) λx h=>DV x.1 x.2.1 h
theorem tm {list:List (List Int)} {s:List Int} (h:kC list s) {q:List Int} (hq:q∈list):(Cc s q).length=s.length/\Le s.length (Cc s q):=by
 obtain ⟨_,h2,h3,h4⟩:=h
 obtain ⟨e,hp⟩:=h4 q hq
 have MO:=Rd hp
 refine ⟨by simp only [Cc,Kn,Vd];exact e.symm,?_⟩
 unfold Cc
 refine Xu (n:=s.length) (Xu (n:=q.length) ?_ ?_) ?_
 ·rw [e];exact gX MO
 ·rw [<-e];exact h3
 ·rw [e];exact MO.row
theorem QI (l:List (List Int)) (s:List Int) (h:kC l s):fnW Fz (look [(90,lJ),(68,Nc),(151,Zz)]) Sx Try.f81 (l,s,()) (λ(z:List Int)=>z=Hb l s):=by
 have hs:short s:=by unfold short;have:=h.2.1;omega
 have IS:=h.1
 refine Eq.mp (SF l s _) ⟨_,Ab hs,?_⟩
 refine Cu l.length (λv=>v.2.1) (λj v=>v.1.length=s.length/\Hb (l.take j) s=v.1) rfl ⟨rfl,by simp [Hb]⟩ ?_
 rintro j ⟨ys,i,⟨⟩⟩ K hj hi ⟨h1,h2⟩ hK
 dsimp only at hi h1 h2⊢
 subst hi
 refine Br.dec (λhl=>?_) λhl=>?_
 ·have hl:j<l.length:=by omega
  have hq:l[j]∈l:=Ak hl
  obtain ⟨e,hp⟩:=h.2.2.2 _ hq
  obtain ⟨c1,c2⟩:=tm h hq
  have tK:Hb (l.take (j+1)) s=if No (Cc s l[j]) ys=true then Cc s l[j] else ys:=by
   rw [<-h2]
   unfold Hb
   rw [List.take_add_one,Ac hl,List.foldl_append]
   rfl
  refine ⟨_,Df hl,_,Ab ⟨e,h.2.2.1,hp⟩,_,Ab ⟨by show short (Cc s l[j]);unfold short;have:=h.2.1;omega,by show short ys;unfold short;have:=h.2.1;omega⟩,Br.dec (λhc=>?_) λhc=>?_⟩
  ·have hc:Dk (Cc s l[j]) ys<0:=hc
   rw [Dw (by omega)]
   refine hK hl _ rfl ⟨c1,?_⟩
   rw [tK,Ab (show No (Cc s l[j]) ys=true from Dg hc)]
  ·have hc: ¬Dk (Cc s l[j]) ys<0:=hc
   rw [Dw (by omega)]
   refine hK hl _ rfl ⟨h1,?_⟩
   rw [tK,Ai (by unfold No;simpa using hc)]
 ·have:j=l.length:=by omega
  subst this
  rw [Ca] at h2
  exact h2.symm
theorem lP:Sound Try.prog 81 Sx:=
 Sound.Hg Ef (Au wU (Au eJ (Au sB Bt))) mixed Try.func81 (by kernel_rfl) (by kernel_rfl) λx h=>QI x.1 x.2.1 h
theorem zq (p:PP) (h:Gq p):fnW Fz (look [(119,Ic)]) Ti Try.f63 (p,()) (λ(z:Bool)=>z=Nw p):=by
 refine Eq.mp (AN p _) ⟨_,Ab h,⟨λhv=>?_,λhv=>?_⟩⟩
 ·have hv:Bc p=true:=hv
  unfold Nw;rw [hv];rfl
 ·have hv:Bc p=false:=hv
  unfold Nw;rw [hv];rfl
theorem Yu:Sound Try.prog 63 Ti:=
 Sound.Hg Ef (Au cP Bt) mixed Try.func63 (by kernel_rfl) (by kernel_rfl) λx h=>zq x.1 h
theorem cM {p:PP} :Nw p=true↔Bc p=true/\p.1<=7:=by
 unfold Nw
 rw [Ag,Lr]
theorem uE {p:PP} {q:List Int} (h:q∈Cx p):q.Perm (upto p.1.toNat):=qd _ _ q (Jj _) (Bv.1 h).1
theorem RL {p:PP} (h:p.1<=7):(Cx p).length<=5040:=Ou (List.length_filter_le _ _) (yU (by omega))
theorem kh {p:PP} {s:List Int} (h:Nw p=true) (hs:Cj p.1 s=true):kC (Cx p) s:=by
 obtain ⟨hv,h7⟩:=cM.1 h
 have hn:=(valid hv).n
 obtain ⟨e,hp⟩:=Fp.1 hs
 have MO:=Rd hp
 refine ⟨by have:=RL h7;omega,MO.len,MO.row,λq hq=>?_⟩
 have hg:=jW hn.1 hn.2 (uE hq)
 obtain ⟨e2,tJ⟩:=Fp.1 hg
 exact ⟨by omega,tJ⟩
theorem NT {p:PP} {a b:List Int} (h1:Nw p=true) (h2:Cj p.1 a=true) (h3:Cj p.1 b=true):Oy (Hb (Cx p) a) (Hb (Cx p) b)=Zo p a b:=by
 unfold Zo
 rw [h1,h2,h3]
 rfl
theorem yc {list:List (List Int)} {s:List Int} (h:kC list s):(Hb list s).length=s.length:=by
 have: ∀(l:List (List Int)) (x:List Int),(∀q∈l,q∈list)->x.length=s.length->(l.foldl (λleast q=>if No (Cc s q) least=true then Cc s q else least) x).length=s.length:=by
  intro l
  induction l with
  |nil=>intro x _ hx;exact hx
  |cons q l ih=>
   intro x hm hx
   rw [Ui]
   refine ih _ (λq' m8=>hm q' (Am _ m8)) ?_
   split
   ·exact (tm h (hm q (by simp))).1
   ·exact hx
 exact this list s (λ_ h=>h) rfl
theorem zo (p:PP) (a b:List Int) (h:Gq p/\short a/\short b):fnW Fz (look [(63,Ti),(67,Hw),(64,Ji),(81,Sx),(82,El)]) dN Try.f26 (p,a,b,()) (λ(z:Bool)=>z=Zo p a b):=by
 obtain ⟨h0,ha,hb⟩:=h
 refine Eq.mp (AL p a b _) ⟨_,Ab h0,⟨λhn=>?_,λhn=>⟨_,Ab ha,⟨λhm=>?_,λhm=>⟨_,Ab hb,⟨λhk=>?_,λhk=>?_⟩⟩⟩⟩⟩⟩
 ·have hn:Nw p=false:=Jc.2 (Ga hn)
  unfold Zo;rw [hn];rfl
 ·have hm:Cj p.1 a=false:=Jc.2 (Ga hm)
  unfold Zo;rw [hm,Bool.and_false];rfl
 ·have hk:Cj p.1 b=false:=Jc.2 (Ga hk)
  unfold Zo;rw [hk,Bool.and_false];rfl
 ·have hn:Nw p=true:=Fe hn
  have hm:Cj p.1 a=true:=Fe hm
  have hk:Cj p.1 b=true:=Fe hk
  have ka:=kh hn hm
  have kb:=kh hn hk
  refine ⟨_,Ab (cM.1 hn),?_⟩
  rw [Di]
  refine ⟨_,Ab ka,_,Ab kb,_,Ab ?_,(NT hn hm hk)⟩
  show short (Hb (Cx p) a)
  have:=yc ka
  unfold short at*
  omega
theorem oE:Sound Try.prog 26 dN:=
 Sound.Hg Ef (Au Yu (Au Pk (Hl aP (Au lP (Au bB Bt))))) mixed Try.func26 (by kernel_rfl) (by kernel_rfl) λx h=>zo x.1 x.2.1 x.2.2.1 h
abbrev SS:Type:=List (List Int)×List Int×List Int×Bool×Unit
abbrev rLS:CK:= .row tL 31
abbrev rN:CK:= .row tI 3
def Fv (L:List (List Int)) (Lc:List Int) (s:List Int):Nat:=(Lc.takeWhile λi=>No (L.getD i.toNat []) s).length
structure Fg (m:Nat) (L:List (List Int)) (Lc:List Int):Prop where
 oM:L.length<=3000
 len: ∀x∈L,x.length=m
 short:m<=20
 perm:Lc.Perm (upto L.length)
 sorted:Lc.Pairwise λi j=>No (L.getD i.toNat []) (L.getD j.toNat [])=true
def iX (L:List (List Int)) (s:List Int):Int:=if s∈L then (L.idxOf s:Int) else-1
def Wa (Lc:List Int) (k:Nat) (x:Int):List Int:=Lc.take k++x::Lc.drop k
noncomputable abbrev dQ:Spec:=Hg (.pair bF (.pair tL .unit)) tI false true (λx=>Fg (List.length x.2.1) x.1.1 x.1.2.2.1) (λx=>(Fv x.1.1 x.1.2.2.1 x.2.1:Int))
noncomputable abbrev Vl:Spec:=Hg (.pair bF (.pair tL .unit)) tI false true (λx=>Fg (List.length x.2.1) x.1.1 x.1.2.2.1) (λx=>iX x.1.1 x.2.1)
noncomputable abbrev kd:MSpec:=fa [some 4,none,none] [(false,rLS),(false,rL),(false,rN),(false, .Gb .bool),(false, .Gb tL),(false, .Gb tI)] false [some 4] [rLS,rL,rN, .Gb .bool]
 (λx=>Fg (List.length x.2.2.2.2.1) x.1 x.2.2.1/\List.length x.2.1<=3000) (λx=>((x.1++ [x.2.2.2.2.1],x.2.1++ [x.2.2.2.2.2.1],Wa x.2.2.1 (Fv x.1 x.2.2.1 x.2.2.2.2.1) (List.length x.1),x.2.2.2.1,()),()))
def aQ (L:List (List Int)):List Int:=(List.range L.length).foldl (λ(S:List Int) (i:Nat)=>Wa S (Fv (L.take i) S (L.getD i [])) (i:Int)) []
def Jd (g:List (List Int)) (x:List Int) (d:Int):List Int->List (List Int)->List Int->List (List Int)×List Int×Bool
 | [],L,D=>(L,D,true)
 |l::ls,L,D=>if An x (At g l)∈L then Jd g x d ls L D else if L.length=3000 then (L,D,false) else Jd g x d ls (L++ [An x (At g l)]) (D++ [d+1])
def Nq (g:List (List Int)) (ls:List Int):Nat->Nat->List (List Int)->List Int->List (List Int)×List Int×Bool
 |0,_,L,D=>(L,D,true)
 |f+1,k,L,D=>if k<L.length then (match Jd g (L.getD k []) (D.getD k 0) ls L D with
  |(L',D',true)=>Nq g ls f (k+1) L' D'
  |(L',D',false)=>(L',D',false)) else (L,D,true)
def Ls (g:List (List Int)) (s:List Int):List (List Int)×List Int×Bool:=Nq g (Bk g.length) 3001 0 [s] [0]
def Es (g:List (List Int)) (s:List Int):SS:=((Ls g s).1,(Ls g s).2.1,aQ (Ls g s).1,(Ls g s).2.2,())
noncomputable abbrev Gt:Spec:=Hg (.pair Ij (.pair tL .unit)) bF false false (λx=>Bc x.1=true/\List.length x.2.1<=20/\ ∀y∈x.2.1,0<=y/\y<x.1.1) (λx=>Es x.1.2.2.1 x.2.1)
abbrev HT:Type:=Int×Int×List (List Int)×List Int×List Int×Bool×PUnit
theorem Ab9 (f:List (List Int)×List Int×List Int×Bool×Unit) (s:List Int) (P:Int->Prop):(Ek (λ(v3:HT) (k4:HT->Prop)=>Br (decide (v3.1<v3.2.1)) ((2:Int)≠(0:Int)/\ ∃(y5:Int),idx v3.2.2.2.2.1 (IntKind.i64.wrap ((IntKind.i64.wrap (v3.1+v3.2.1)).tdiv (2:Int)))=some y5/\ ∃(y6:List Int),idx v3.2.2.1 y5=some y6/\ ∃(y7:Bool),Wz.fn (y6,s,())=some y7/\Br y7 (k4 (IntKind.i64.wrap (IntKind.i64.wrap ((IntKind.i64.wrap (v3.1+v3.2.1)).tdiv (2:Int))+(1:Int)),v3.2.1,v3.2.2.1,v3.2.2.2.1,v3.2.2.2.2.1,v3.2.2.2.2.2.1,())) (k4 (v3.1,IntKind.i64.wrap ((IntKind.i64.wrap (v3.1+v3.2.1)).tdiv (2:Int)),v3.2.2.1,v3.2.2.2.1,v3.2.2.2.2.1,v3.2.2.2.2.2.1,()))) (P v3.1)) ((0:Int),(↑f.2.2.1.length:Int),f.1,f.2.1,f.2.2.1,f.2.2.2.1,PUnit.unit))=fnW Fz (look [(210,Wz)]) dQ Try.f185 (f,s,()) P:=by kernel_rfl
theorem SM (f:List (List Int)×List Int×List Int×Bool×Unit) (s:List Int) (P:Int->Prop):(∃(y3:Int),dQ.fn ((f.1,f.2.1,f.2.2.1,f.2.2.2.1,()),s,())=some y3/\Br (decide (y3<(↑f.2.2.1.length:Int))) (∃(y4:Int),idx f.2.2.1 y3=some y4/\ ∃(y5:List Int),idx f.1 y4=some y5/\ ∃(y6:Bool),El.fn (y5,s,())=some y6/\Br y6 (∃(y7:Int),idx f.2.2.1 y3=some y7/\P y7) (P (-1:Int))) (P (-1:Int)))=fnW Fz (look [(185,dQ),(80,El)]) Vl Try.f134 (f,s,()) P:=by kernel_rfl
theorem Ab8 (L:List (List Int)) (D S:List Int) (b:Bool) (s:List Int) (d:Int) (P:((List (List Int)×List Int×List Int×Bool×Unit)×Unit)->Prop):(∃(y7:Int),dQ.fn ((List.take L.length (List.drop 0 L),List.take D.length (List.drop 0 D),List.take S.length (List.drop 0 S),b,()),s,())=some y7/\0=0/\S.length=S.length/\S.length+(List.take 1 (List.drop 0 [(0:Int)])).length<=Fu/\((0:Int)<=IntKind.i64.wrap (y7+(1:Int))/\IntKind.i64.wrap (y7+(1:Int))<=(↑(S++List.take 1 (List.drop 0 [(0:Int)])).length:Int)/\(↑(S++List.take 1 (List.drop 0 [(0:Int)])).length:Int)<=(↑(S++List.take 1 (List.drop 0 [(0:Int)])).length:Int))/\((0:Int)<=y7/\y7<=(↑(S++List.take 1 (List.drop 0 [(0:Int)])).length:Int)/\(↑(S++List.take 1 (List.drop 0 [(0:Int)])).length:Int)<=(↑(S++List.take 1 (List.drop 0 [(0:Int)])).length:Int))/\((0:Int)<=y7/\y7<(↑(S++List.take 1 (List.drop 0 [(0:Int)])).length:Int))/\0+y7.toNat<(Dq (S++List.take 1 (List.drop 0 [(0:Int)])) (0+(IntKind.i64.wrap (y7+(1:Int))).toNat) (List.take ((↑(S++List.take 1 (List.drop 0 [(0:Int)])).length:Int).toNat-(IntKind.i64.wrap (y7+(1:Int))).toNat) (List.take ((↑(S++List.take 1 (List.drop 0 [(0:Int)])).length:Int).toNat-y7.toNat) (List.drop (0+y7.toNat) (S++List.take 1 (List.drop 0 [(0:Int)])))))).length/\0=0/\L.length=L.length/\L.length+(List.take 1 (List.drop 0 [s])).length<=Fu/\0=0/\D.length=D.length/\D.length+(List.take 1 (List.drop 0 [d])).length<=Fu/\P ((List.take (L++List.take 1 (List.drop 0 [s])).length (List.drop 0 (L++List.take 1 (List.drop 0 [s]))),List.take (D++List.take 1 (List.drop 0 [d])).length (List.drop 0 (D++List.take 1 (List.drop 0 [d]))),List.take (S++List.take 1 (List.drop 0 [(0:Int)])).length (List.drop 0 ((Dq (S++List.take 1 (List.drop 0 [(0:Int)])) (0+(IntKind.i64.wrap (y7+(1:Int))).toNat) (List.take ((↑(S++List.take 1 (List.drop 0 [(0:Int)])).length:Int).toNat-(IntKind.i64.wrap (y7+(1:Int))).toNat) (List.take ((↑(S++List.take 1 (List.drop 0 [(0:Int)])).length:Int).toNat-y7.toNat) (List.drop (0+y7.toNat) (S++List.take 1 (List.drop 0 [(0:Int)])))))).set (0+y7.toNat) (↑L.length:Int))),b,()),()))=fnMW Ot (look [(185,dQ)]) kd Try.f192 (L,D,S,b,s,d,()) P:=by kernel_rfl
abbrev lX:Type:=Int×Int×ByteArray×List (List Int)×Bool×Bool×List (List Int)×List Int×List Int×List (List Int)×List Int×List Int×PUnit
abbrev zW:Type:=(List (List Int)×List Int×List Int×Bool×PUnit)×PUnit
theorem VY (p:Int×ByteArray×List (List Int)×Unit) (s:List Int) (P:(List (List Int)×List Int×List Int×Bool×Unit)->Prop):(∃(y3:List Int),Ww.fn (s,())=some y3/\ ∃(y4:zW),kd.fn ([],[],[],false,y3,(0:Int),())=some y4/\ ∃(y5:List Int),Nd.fn ((p.1,p.2.1,p.2.2.1,()),())=some y5/\0=0/\0=([]:List Int).length/\0=0/\0=([]:List Int).length/\0=0/\0=([]:List Int).length/\0=0/\y4.1.1.length=y4.1.1.length/\0=0/\y4.1.2.1.length=y4.1.2.1.length/\0=0/\y4.1.2.2.1.length=y4.1.2.2.1.length/\Ek (λ(v6:lX) (k7:lX->Prop)=>Br (decide (v6.1<(↑v6.2.2.2.2.2.2.2.2.2.1.length:Int))) (0=0/\v6.2.2.2.2.2.2.1.length=v6.2.2.2.2.2.2.1.length/\0=0/\v6.2.2.2.2.2.2.2.1.length=v6.2.2.2.2.2.2.2.1.length/\0=0/\v6.2.2.2.2.2.2.2.2.1.length=v6.2.2.2.2.2.2.2.2.1.length/\0=0/\v6.2.2.2.2.2.2.2.2.2.1.length=v6.2.2.2.2.2.2.2.2.2.1.length/\0=0/\v6.2.2.2.2.2.2.2.2.2.2.1.length=v6.2.2.2.2.2.2.2.2.2.2.1.length/\0=0/\v6.2.2.2.2.2.2.2.2.2.2.2.1.length=v6.2.2.2.2.2.2.2.2.2.2.2.1.length/\Ek (λ(v8:lX) (k9:lX->Prop)=>Br (decide (v8.1<(↑y5.length:Int))) (((0:Int)<=v6.1/\v6.1<(↑v8.2.2.2.2.2.2.2.2.2.1.length:Int))/\ ∃(cS:List Int),v8.2.2.2.2.2.2.2.2.2.1[0+v6.1.toNat]?=some cS/\ ∃(Xr:Int),idx y5 v8.1=some Xr/\ ∃(Yv:List Int),cH.fn ((v8.2.1,v8.2.2.1,v8.2.2.2.1,()),cS,Xr,())=some Yv/\ ∃(TJ:Int),Vl.fn ((List.take v8.2.2.2.2.2.2.2.2.2.1.length (List.drop 0 v8.2.2.2.2.2.2.2.2.2.1),List.take v8.2.2.2.2.2.2.2.2.2.2.1.length (List.drop 0 v8.2.2.2.2.2.2.2.2.2.2.1),List.take v8.2.2.2.2.2.2.2.2.2.2.2.1.length (List.drop 0 v8.2.2.2.2.2.2.2.2.2.2.2.1),v8.2.2.2.2.2.1,()),Yv,())=some TJ/\Br (decide (TJ>=(0:Int))) (0=0/\v8.2.2.2.2.2.2.1.length=v8.2.2.2.2.2.2.1.length/\0=0/\v8.2.2.2.2.2.2.2.1.length=v8.2.2.2.2.2.2.2.1.length/\0=0/\v8.2.2.2.2.2.2.2.2.1.length=v8.2.2.2.2.2.2.2.2.1.length/\0=0/\v8.2.2.2.2.2.2.2.2.2.1.length=v8.2.2.2.2.2.2.2.2.2.1.length/\0=0/\v8.2.2.2.2.2.2.2.2.2.2.1.length=v8.2.2.2.2.2.2.2.2.2.2.1.length/\0=0/\v8.2.2.2.2.2.2.2.2.2.2.2.1.length=v8.2.2.2.2.2.2.2.2.2.2.2.1.length/\k9 (IntKind.i64.wrap (v8.1+(1:Int)),v8.2.1,v8.2.2.1,v8.2.2.2.1,v8.2.2.2.2.1,v8.2.2.2.2.2.1,v8.2.2.2.2.2.2.1,v8.2.2.2.2.2.2.2.1,v8.2.2.2.2.2.2.2.2.1,v8.2.2.2.2.2.2.2.2.2.1,v8.2.2.2.2.2.2.2.2.2.2.1,v8.2.2.2.2.2.2.2.2.2.2.2.1,())) (Br ((↑v8.2.2.2.2.2.2.2.2.2.1.length:Int)==(3000:Int)) (P (List.take v8.2.2.2.2.2.2.2.2.2.1.length (List.drop 0 v8.2.2.2.2.2.2.2.2.2.1),List.take v8.2.2.2.2.2.2.2.2.2.2.1.length (List.drop 0 v8.2.2.2.2.2.2.2.2.2.2.1),List.take v8.2.2.2.2.2.2.2.2.2.2.2.1.length (List.drop 0 v8.2.2.2.2.2.2.2.2.2.2.2.1),v8.2.2.2.2.2.1,())) (((0:Int)<=v6.1/\v6.1<(↑v8.2.2.2.2.2.2.2.2.2.2.1.length:Int))/\ ∃(MF:Int),v8.2.2.2.2.2.2.2.2.2.2.1[0+v6.1.toNat]?=some MF/\0=0/\v8.2.2.2.2.2.2.2.2.2.1.length=v8.2.2.2.2.2.2.2.2.2.1.length/\0=0/\v8.2.2.2.2.2.2.2.2.2.2.1.length=v8.2.2.2.2.2.2.2.2.2.2.1.length/\0=0/\v8.2.2.2.2.2.2.2.2.2.2.2.1.length=v8.2.2.2.2.2.2.2.2.2.2.2.1.length/\ ∃(xJ:zW),kd.fn (v8.2.2.2.2.2.2.2.2.2.1,v8.2.2.2.2.2.2.2.2.2.2.1,v8.2.2.2.2.2.2.2.2.2.2.2.1,v8.2.2.2.2.2.1,Yv,IntKind.i64.wrap (MF+(1:Int)),())=some xJ/\0=0/\v8.2.2.2.2.2.2.1.length=v8.2.2.2.2.2.2.1.length/\0=0/\v8.2.2.2.2.2.2.2.1.length=v8.2.2.2.2.2.2.2.1.length/\0=0/\v8.2.2.2.2.2.2.2.2.1.length=v8.2.2.2.2.2.2.2.2.1.length/\0=0/\xJ.1.1.length=xJ.1.1.length/\0=0/\xJ.1.2.1.length=xJ.1.2.1.length/\0=0/\xJ.1.2.2.1.length=xJ.1.2.2.1.length/\k9 (IntKind.i64.wrap (v8.1+(1:Int)),v8.2.1,v8.2.2.1,v8.2.2.2.1,v8.2.2.2.2.1,xJ.1.2.2.2.1,v8.2.2.2.2.2.2.1,v8.2.2.2.2.2.2.2.1,v8.2.2.2.2.2.2.2.2.1,xJ.1.1,xJ.1.2.1,xJ.1.2.2.1,())))) (0=0/\v8.2.2.2.2.2.2.1.length=v8.2.2.2.2.2.2.1.length/\0=0/\v8.2.2.2.2.2.2.2.1.length=v8.2.2.2.2.2.2.2.1.length/\0=0/\v8.2.2.2.2.2.2.2.2.1.length=v8.2.2.2.2.2.2.2.2.1.length/\0=0/\v8.2.2.2.2.2.2.2.2.2.1.length=v8.2.2.2.2.2.2.2.2.2.1.length/\0=0/\v8.2.2.2.2.2.2.2.2.2.2.1.length=v8.2.2.2.2.2.2.2.2.2.2.1.length/\0=0/\v8.2.2.2.2.2.2.2.2.2.2.2.1.length=v8.2.2.2.2.2.2.2.2.2.2.2.1.length/\k7 (IntKind.i64.wrap (v6.1+(1:Int)),v8.2.1,v8.2.2.1,v8.2.2.2.1,v8.2.2.2.2.1,v8.2.2.2.2.2.1,v8.2.2.2.2.2.2.1,v8.2.2.2.2.2.2.2.1,v8.2.2.2.2.2.2.2.2.1,v8.2.2.2.2.2.2.2.2.2.1,v8.2.2.2.2.2.2.2.2.2.2.1,v8.2.2.2.2.2.2.2.2.2.2.2.1,()))) ((0:Int),v6.2.1,v6.2.2.1,v6.2.2.2.1,v6.2.2.2.2.1,v6.2.2.2.2.2.1,v6.2.2.2.2.2.2.1,v6.2.2.2.2.2.2.2.1,v6.2.2.2.2.2.2.2.2.1,v6.2.2.2.2.2.2.2.2.2.1,v6.2.2.2.2.2.2.2.2.2.2.1,v6.2.2.2.2.2.2.2.2.2.2.2.1,PUnit.unit)) (P (List.take v6.2.2.2.2.2.2.2.2.2.1.length (List.drop 0 v6.2.2.2.2.2.2.2.2.2.1),List.take v6.2.2.2.2.2.2.2.2.2.2.1.length (List.drop 0 v6.2.2.2.2.2.2.2.2.2.2.1),List.take v6.2.2.2.2.2.2.2.2.2.2.2.1.length (List.drop 0 v6.2.2.2.2.2.2.2.2.2.2.2.1),true,()))) ((0:Int),p.1,p.2.1,p.2.2.1,false,y4.1.2.2.2.1,[],[],[],y4.1.1,y4.1.2.1,y4.1.2.2.1,PUnit.unit))=fnW Ab0 (look [(86,Ww),(192,kd),(144,Nd),(145,cH),(134,Vl)]) Gt Try.f153 (p,s,()) P:=by kernel_rfl
theorem pE: ∀ {a b:List Int},Dk a b=0↔a=b
 | [],[]=>by simp [Dk]
 | [],_::_=>by simp [Dk]
 |_::_,[]=>by simp [Dk]
 |x::a,y::b=>by
  simp only [Dk,Gd]
  by_cases h1:x<y
  ·rw [Ab h1]
   exact ⟨λh=>by omega,λh=>by omega⟩
  ·rw [Ai h1]
   by_cases h2:x>y
   ·rw [Ab h2]
    exact ⟨λh=>by omega,λh=>by omega⟩
   ·rw [Ai h2,pE]
    exact ⟨λh=>⟨by omega,h⟩,λh=>h.2⟩
theorem GC: ∀(a b:List Int),Dk b a= -Dk a b
 | [],[]=>by simp [Dk]
 | [],_::_=>by simp [Dk]
 |_::_,[]=>by simp [Dk]
 |x::a,y::b=>by
  simp only [Dk]
  rcases Int.lt_trichotomy x y with h1|h1|h1
  ·simp [h1,show ¬y<x by omega]
  ·subst h1
   simp [GC a b]
  ·simp [h1,show ¬x<y by omega]
theorem tn: ∀ {a b c:List Int},Dk a b<0->Dk b c<0->Dk a c<0
 | [],[],_,h,_=>by simp [Dk] at h
 |_::_,[],_,h,_=>by simp [Dk] at h
 |_,_::_,[],_,h=>by simp [Dk] at h
 | [],_::_,_::_,_,_=>by simp [Dk]
 |x::a,y::b,z::c,h1,h2=>by
  simp only [Dk] at h1 h2⊢
  by_cases e1:x<y
  ·by_cases e2:y<z
   ·rw [Ab (by omega)];omega
   ·rw [Ai e2] at h2
    by_cases e3:y>z
    ·rw [Ab e3] at h2;omega
    ·rw [Ab (by omega)];omega
  ·rw [Ai e1] at h1
   by_cases e2:x>y
   ·rw [Ab e2] at h1;omega
   ·rw [Ai e2] at h1
    by_cases e3:y<z
    ·rw [Ab (by omega)];omega
    ·rw [Ai e3] at h2
     by_cases e4:y>z
     ·rw [Ab e4] at h2;omega
     ·rw [Ai e4] at h2
      rw [Ai (by omega),Ai (by omega)]
      exact tn h1 h2
theorem lt_iff {a b:List Int} :No a b=true↔Dk a b<0:=Lr
theorem mG {a b c:List Int} (h1:No a b=true) (h2:No b c=true):No a c=true:=lt_iff.2 (tn (lt_iff.1 h1) (lt_iff.1 h2))
theorem To (a:List Int):No a a=false:=by
 have:Dk a a=0:=pE.2 rfl
 unfold No;rw [this];rfl
theorem qf {a b:List Int} (h:No a b=false) (Is:a≠b):No b a=true:=by
 rw [lt_iff,GC a b]
 have h1: ¬Dk a b<0:= λh'=>by rw [lt_iff.2 h'] at h;cases h
 have h2:Dk a b≠0:= λh'=>Is (pE.1 h')
 omega
theorem jd {α:Type} (q:α->Bool): ∀(l:List α),l.Pairwise (λi j=>q j=true->q i=true)-> ∀k (hk:k<l.length),k<(l.takeWhile q).length↔q l[k]=true
 | [],_,k,hk=>by simp at hk
 |a::l,h,k,hk=>by
  obtain ⟨h1,h2⟩:=Lq.1 h
  by_cases ha:q a=true
  ·rw [List.takeWhile_cons_of_pos ha]
   rcases k with _|k
   ·simpa using ha
   ·simp only [Bg,Kg,Nat.add_lt_add_iff_right]
    exact jd q l h2 k (by simpa using hk)
  ·rw [List.takeWhile_cons_of_neg ha]
   simp only [Hr,Jw,false_iff]
   rcases k with _|k
   ·exact ha
   ·simp only [Kg]
    exact λhq=>ha (h1 _ (Ak _) hq)
theorem Fg.qc {m:Nat} {L:List (List Int)} {Lc:List Int} (h:Fg m L Lc):Lc.length=L.length:=by rw [h.perm.length_eq,Jj]
theorem Fg.idx {m:Nat} {L:List (List Int)} {Lc:List Int} (h:Fg m L Lc) {k:Nat} (hk:k<Lc.length):0<=Lc[k]/\Lc[k]<L.length:=Nb.1 (h.perm.mem_iff.1 (Ak hk))
theorem Fg.cL {m:Nat} {L:List (List Int)} {Lc:List Int} (h:Fg m L Lc) (s:List Int) {k:Nat} (hk:k<Lc.length):k<Fv L Lc s↔No (L.getD Lc[k].toNat []) s=true:=
 jd _ Lc (h.sorted.imp λdm hj=>mG dm hj) k hk
theorem HP (L:List (List Int)) (Lc s:List Int):Fv L Lc s<=Lc.length:=(List.takeWhile_sublist _).length_le
theorem Fg.inj {m:Nat} {L:List (List Int)} {Lc:List Int} (h:Fg m L Lc) {i j:Nat} (hi:i<L.length) (hj:j<L.length) (e:L[i]=L[j]):i=j:=by
 have mem: ∀i,i<L.length->(i:Int)∈Lc:= λi hi=>h.perm.mem_iff.2 (Nb.2 ⟨by omega,by omega⟩)
 obtain ⟨p,hp,ep⟩:=Bd.1 (mem i hi)
 obtain ⟨q,hq,eq⟩:=Bd.1 (mem j hj)
 have get: ∀i (hi:i<L.length),L.getD ((i:Int)).toNat []=L[i]:= λi hi=>by rw [Bh,Al,Ac hi];rfl
 rcases Nat.lt_trichotomy p q with h1|h1|h1
 ·have:=Dc.1 h.sorted p q hp hq h1
  rw [ep,eq,get i hi,get j hj,e,To] at this
  cases this
 ·subst h1
  rw [ep] at eq
  omega
 ·have:=Dc.1 h.sorted q p hq hp h1
  rw [ep,eq,get i hi,get j hj,e,To] at this
  cases this
theorem Xw {L:List (List Int)} {k:Nat} (h:k<L.length):L.getD k []=L[k]:=by rw [Al,Ac h];rfl
theorem Fg.uV {m:Nat} {L:List (List Int)} {Lc:List Int} (h:Fg m L Lc) {s:List Int} :
  (∃hk:Fv L Lc s<Lc.length,L.getD Lc[Fv L Lc s].toNat []=s/\iX L s=Lc[Fv L Lc s])\/(iX L s= -1/\ ∀hk:Fv L Lc s<Lc.length,L.getD Lc[Fv L Lc s].toNat []≠s):=by
 by_cases hm:s∈L
 ·left
  obtain ⟨j,hj,rfl⟩:=Bd.1 hm
  obtain ⟨p,hp,ep⟩:=Bd.1 (h.perm.mem_iff.2 (Nb.2 ⟨by omega,by omega⟩):(j:Int)∈Lc)
  have gj:L.getD Lc[p].toNat []=L[j]:=by rw [ep,Bh,Xw hj]
  have hs:Fv L Lc L[j]=p:=by
   have h1: ¬p<Fv L Lc L[j]:= λh1=>by
    have:=(h.cL L[j] hp).1 h1
    rw [gj,To] at this;cases this
   have h2: ¬Fv L Lc L[j]<p:= λh2=>by
    have h3:=(h.cL L[j] (k:=Fv L Lc L[j]) (by omega)).2 (by
     have:=Dc.1 h.sorted (Fv L Lc L[j]) p (by omega) hp h2
     rw [gj] at this;exact this)
    omega
   omega
  have hx:L.idxOf L[j]=j:=by
   have h1:L.idxOf L[j]<L.length:=List.idxOf_lt_length_of_mem hm
   exact h.inj h1 hj (List.getElem_idxOf h1)
  refine ⟨by omega,?_,?_⟩
  ·simp only [hs];exact gj
  ·unfold iX
   rw [Ab hm,hx]
   simp only [hs];exact ep.symm
 ·right
  refine ⟨by unfold iX;rw [Ai hm],λhk e=>hm ?_⟩
  have hi:=h.idx hk
  rw [Xw (by omega)] at e
  rw [<-e]
  exact Ak _
theorem PH (Lc:List Int) (k:Nat) (x:Int):(Wa Lc k x).Perm (x::Lc):=by
 unfold Wa
 refine List.perm_middle.trans (List.Perm.cons x ?_)
 rw [Gk]
theorem Fg.add {m:Nat} {L:List (List Int)} {Lc s:List Int} (h:Fg m L Lc) (hn:s∉L) (hl:s.length=m) (hr:L.length<3000):Fg m (L++ [s]) (Wa Lc (Fv L Lc s) L.length):=by
 have yy: ∀i∈Lc,(L++ [s]).getD i.toNat []=L.getD i.toNat []:= λi hi=>by
  have:=Nb.1 (h.perm.mem_iff.1 hi)
  rw [Al,Al,Aq (by omega)]
 have Ac9:(L++ [s]).getD ((L.length:Int)).toNat []=s:=by
  rw [Bh,Al,Ao (by omega),Nat.sub_self];rfl
 refine ⟨by rw [Ay,Ck];omega,λx hx=>?_,h.short,?_,?_⟩
 ·rcases Az.1 hx with hx|hx
  ·exact h.len x hx
  ·rw [Ae.1 hx];exact hl
 ·refine (PH _ _ _).trans ?_
  rw [Ay,Ck,iq]
  exact (List.Perm.cons _ h.perm).trans (List.perm_append_singleton _ _).symm
 ·unfold Wa
  have hs:=h.sorted
  rw [<-Gk (Fv L Lc s) Lc] at hs
  obtain ⟨s1,s2,s3⟩:=Js.1 hs
  have mt: ∀i∈Lc.take (Fv L Lc s),i∈Lc/\No (L.getD i.toNat []) s=true:= λi hi=>by
   obtain ⟨k,hk,rfl⟩:=Bd.1 hi
   have hk2:k<Fv L Lc s:=by rw [Co] at hk;omega
   have hk3:k<Lc.length:=by rw [Co] at hk;omega
   rw [List.getElem_take]
   exact ⟨Ak _,(h.cL s hk3).1 hk2⟩
  have md: ∀i∈Lc.drop (Fv L Lc s),i∈Lc/\No s (L.getD i.toNat [])=true:= λi hi=>by
   obtain ⟨k,hk,rfl⟩:=Bd.1 hi
   rw [Ru] at hk
   have hk3:Fv L Lc s+k<Lc.length:=by omega
   rw [List.getElem_drop]
   refine ⟨Ak _,qf ?_ λe=>hn ?_⟩
   ·exact Jc.2 λhh=>by
     have:=(h.cL s hk3).2 hh
     omega
   ·have hi:=h.idx hk3
    rw [Xw (by omega)] at e
    rw [<-e];exact Ak _
  refine Js.2 ⟨s1.imp_of_mem λ {a b} ha hb ou=>?_,Lq.2 ⟨λb hb=>?_,s2.imp_of_mem λ {a b} ha hb ou=>?_⟩,λa ha b hb=>?_⟩
  ·rw [yy a (mt a ha).1,yy b (mt b hb).1];exact ou
  ·rw [Ac9,yy b (md b hb).1];exact (md b hb).2
  ·rw [yy a (md a ha).1,yy b (md b hb).1];exact ou
  ·rcases Ba.1 hb with rfl|hb
   ·rw [Ac9,yy a (mt a ha).1];exact (mt a ha).2
   ·rw [yy a (mt a ha).1,yy b (md b hb).1];exact s3 a ha b hb
theorem dT (L:List (List Int)) (s:List Int):aQ (L++ [s])=Wa (aQ L) (Fv L (aQ L) s) L.length:=by
 unfold aQ
 rw [Ay,Ck,List.range_succ,List.foldl_append]
 have e: ∀(is:List Nat) (S:List Int),(∀i∈is,i<L.length)->is.foldl (λ(S:List Int) (i:Nat)=>Wa S (Fv ((L++ [s]).take i) S ((L++ [s]).getD i [])) (i:Int)) S=is.foldl (λ(S:List Int) (i:Nat)=>Wa S (Fv (L.take i) S (L.getD i [])) (i:Int)) S:=by
  intro is
  induction is with
  |nil=>intro S _;rfl
  |cons i is ih=>
   intro S h
   have hi:=h i (by simp)
   rw [Ui,Ui,ih _ λj hj=>h j (Am _ hj)]
   congr 2
   rw [List.take_append_of_le_length (by omega),Al,Aq hi,<-Al]
 rw [e _ _ λi hi=>Io.1 hi]
 simp only [Ui,List.foldl_nil]
 congr 2
 ·rw [List.take_append_of_le_length (Ar _),Ca]
 ·rw [Al,Ao (by omega),Nat.sub_self];rfl
theorem lK {m:Nat} (h:m<=20):Fg m [] []:=⟨by simp,λx hx=>(by cases hx),h,by simp [upto],List.Pairwise.nil⟩
theorem PE {α:Type} {xs:List α} {y:Int} (h0:0<=y) (h:y.toNat<xs.length):idx xs y=some xs[y.toNat]:=by
 unfold idx
 rw [Ab h0,Ac h]
theorem Aam (f:SS) (s:List Int) (h:Fg s.length f.1 f.2.2.1):fnW Fz (look [(210,Wz)]) dQ Try.f185 (f,s,()) (λ(z:Int)=>z=(Fv f.1 f.2.2.1 s:Int)):=by
 obtain ⟨L,D,Lc,b,⟨⟩⟩:=f
 dsimp only at h⊢
 have hle:=HP L Lc s
 have MN:=h.qc
 have CH:=h.oM
 refine Eq.mp (Ab9 (L,D,Lc,b,()) s _) ?_
 refine Ek.mk (λv=>v.2.2.1=L/\v.2.2.2.2.1=Lc/\ ∃lo hi:Nat,v.1=lo/\v.2.1=hi/\lo<=hi/\hi<=Lc.length/\lo<=Fv L Lc s/\Fv L Lc s<=hi) (λv=>(v.2.1-v.1).toNat)
  ⟨rfl,rfl,0,Lc.length,rfl,rfl,by omega,by omega,by omega,hle⟩ ?_
 rintro ⟨lo',oS,L',D',LF,b',⟨⟩⟩ ⟨h1,h2,lo,hi,h3,h4,h5,h6,h7,h8⟩
 dsimp only at h1 h2 h3 h4⊢
 subst h1 h2 h3 h4
 refine Br.dec (λhl=>?_) λhl=>?_
 ·have em:IntKind.i64.wrap ((IntKind.i64.wrap ((lo:Int)+(hi:Int))).tdiv 2)=(((lo+hi)/2:Nat):Int):=by
   rw [Cs (n:=(lo:Int)+(hi:Int)) (by omega) (by omega),Int.tdiv_eq_ediv_of_nonneg (by omega),Cs (by omega) (by omega)]
   omega
  rw [em]
  have hm1:(lo+hi)/2<LF.length:=by omega
  have UG:=h.idx hm1
  have UH:LF[(lo+hi)/2].toNat<L'.length:=by omega
  have TA:=Xw UH
  have hlen:=h.len _ (Ak UH)
  have MP:short L'[LF[(lo+hi)/2].toNat]:=by
   unfold short
   have:=h.short;omega
  refine ⟨by decide,_,Df hm1,_,PE UG.1 UH,_,Ab ⟨MP,hlen⟩,⟨λhc=>?_,λhc=>?_⟩⟩
  ·have hc:No L'[LF[(lo+hi)/2].toNat] s=true:=hc
   have hs:=(h.cL s hm1).2 (by rw [TA];exact hc)
   rw [Dw (by omega)]
   exact ⟨⟨rfl,rfl,(lo+hi)/2+1,hi,rfl,rfl,by omega,h6,by omega,h8⟩,by omega⟩
  ·have hc:No L'[LF[(lo+hi)/2].toNat] s=false:=hc
   have hs: ¬(lo+hi)/2<Fv L' LF s:= λhh=>by
    have:=(h.cL s hm1).1 hh
    rw [TA,hc] at this;cases this
   exact ⟨⟨rfl,rfl,lo,(lo+hi)/2,rfl,rfl,by omega,by omega,h7,by omega⟩,by omega⟩
 ·show (lo:Int)=_
  omega
theorem r8:Sound Try.prog 185 dQ:=
 Sound.Hg Ef (Au r7 Bt) mixed Try.func185 (by kernel_rfl) (by kernel_rfl) λx h=>Aam x.1 x.2.1 h
theorem QP (f:SS) (s:List Int) (h:Fg s.length f.1 f.2.2.1):fnW Fz (look [(185,dQ),(80,El)]) Vl Try.f134 (f,s,()) (λ(z:Int)=>z=iX f.1 s):=by
 obtain ⟨L,D,Lc,b,⟨⟩⟩:=f
 dsimp only at h⊢
 refine Eq.mp (SM (L,D,Lc,b,()) s _) ⟨_,Ab h,Br.dec (λhl=>?_) λhl=>?_⟩
 ·have hl:Fv L Lc s<Lc.length:=by
   have hl:((Fv L Lc s:Nat):Int)<(Lc.length:Int):=hl
   omega
  have UG:=h.idx hl
  have UH:Lc[Fv L Lc s].toNat<L.length:=by omega
  have TA:=Xw UH
  have hlen:=h.len _ (Ak UH)
  have MP:short L[Lc[Fv L Lc s].toNat]:=by
   unfold short
   have:=h.short;omega
  refine ⟨_,Df hl,_,PE UG.1 UH,_,Ab MP,⟨λhc=>⟨_,Df hl,?_⟩,λhc=>?_⟩⟩
  ·have hc:L[Lc[Fv L Lc s].toNat]=s:=Ff hc
   rcases h.uV (s:=s) with ⟨hk,_,e⟩|⟨_,Is⟩
   ·exact e.symm
   ·exact absurd (by rw [TA];exact hc) (Is hl)
  ·have hc: ¬L[Lc[Fv L Lc s].toNat]=s:=of_decide_eq_false hc
   rcases h.uV (s:=s) with ⟨hk,e,_⟩|⟨e,_⟩
   ·rw [TA] at e;exact absurd e hc
   ·exact e.symm
 ·have hl: ¬Fv L Lc s<Lc.length:=by
   have hl: ¬((Fv L Lc s:Nat):Int)<(Lc.length:Int):=hl
   omega
  rcases h.uV (s:=s) with ⟨hk,e,_⟩|⟨e,_⟩
  ·exact absurd hk hl
  ·exact e.symm
theorem lT:Sound Try.prog 134 Vl:=
 Sound.Hg Ef (Au r8 (Au Ys Bt)) mixed Try.func134 (by kernel_rfl) (by kernel_rfl) λx h=>QP x.1 x.2.1 h
theorem CR {S:List Int} {k:Nat} (h:k<=S.length) (n:Int):
  (Dq (S++ [0]) (k+1) (List.take ((S++ [0]).length-(k+1)) (List.take ((S++ [0]).length-k) (List.drop k (S++ [0]))))).set k n=Wa S k n:=by
 obtain ⟨A,B,rfl,hA⟩: ∃A B,S=A++B/\A.length=k:=⟨S.take k,S.drop k,(Gk k S).symm,by rw [Co];omega⟩
 subst hA
 have e1:List.drop A.length (A++B++ [0])=B++ [0]:=by rw [Ct,List.drop_left]
 have e2:List.take ((A++B++ [0]).length-A.length) (B++ [0])=B++ [0]:=List.take_of_length_le (by simp only [Ay,Ck];omega)
 have e3:List.take ((A++B++ [0]).length-(A.length+1)) (B++ [0])=B:=by
  have:(A++B++ [(0:Int)]).length-(A.length+1)=B.length:=by simp only [Ay,Ck];omega
  rw [this,List.take_left]
 rw [e1,e2,e3]
 unfold Dq Wa
 have e4:List.drop (A.length+1+B.length) (A++B++ [0])= []:=Mq (by simp only [Ay,Ck];omega)
 obtain ⟨c,hc⟩: ∃c,List.take (A.length+1) (A++B++ [0])=A++ [c]:=by
  rw [Ct,List.take_append,List.take_of_length_le (by omega)]
  cases B with
  |nil=>exact ⟨0,by simp⟩
  |cons b B=>exact ⟨b,by simp⟩
 rw [e4,hc,List.append_nil,Ct,List.singleton_append,wN,List.take_left,List.drop_left]
theorem Aal (L:List (List Int)) (D S:List Int) (b:Bool) (s:List Int) (d:Int) (h:Fg s.length L S/\D.length<=3000):
  fnMW Ot (look [(185,dQ)]) kd Try.f192 (L,D,S,b,s,d,()) (λ(z:(List (List Int)×List Int×List Int×Bool×Unit)×Unit)=>z=((L++ [s],D++ [d],Wa S (Fv L S s) L.length,b,()),())):=by
 obtain ⟨h,hD⟩:=h
 have hle:=HP L S s
 have MN:=h.qc
 have CH:=h.oM
 refine Eq.mp (Ab8 L D S b s d _) ?_
 rw [Di L,Di D,Di S]
 refine ⟨_,Ab h,?_⟩
 dsimp only
 have es:List.take 1 (List.drop 0 [(0:Int)])= [0]:=rfl
 have el:(S++ [(0:Int)]).length=S.length+1:=by simp
 rw [es,Dw (by omega),Db,Db,Bh,Bh,Bh]
 refine ⟨rfl,rfl,by show S.length+1<=4294967296;omega,⟨by omega,by omega,by omega⟩,⟨by omega,by omega,by omega⟩,⟨by omega,by omega⟩,?_,rfl,rfl,by show L.length+1<=4294967296;omega,rfl,rfl,by show D.length+1<=4294967296;omega,?_⟩
 ·unfold Dq
  simp only [Ay,Co,Ru,Ck]
  omega
 ·rw [CR hle,Di,Di]
  have e5:List.take (S++ [(0:Int)]).length (List.drop 0 (Wa S (Fv L S s) (L.length:Int)))=Wa S (Fv L S s) (L.length:Int):=by
   rw [Im,List.take_of_length_le]
   unfold Wa
   simp only [Ay,Bg,Co,Ru,Hr]
   omega
  rw [e5]
  rfl
theorem ET:Dx Try.prog 192 kd:=
 Dx.fa Np (Au r8 Bt) mixed Try.func192 (by kernel_rfl) (by kernel_rfl) λx h=>Aal x.1 x.2.1 x.2.2.1 x.2.2.2.1 x.2.2.2.2.1 x.2.2.2.2.2.1 h
structure Yw (p:PP) (m:Nat) (L:List (List Int)) (D:List Int):Prop where
 ok:Fg m L (aQ L)
 len:D.length=L.length
 row: ∀x∈L,∀y∈x,0<=y/\y<p.1
 dep: ∀j (h:j<D.length),0<=D[j]/\D[j]<=j
theorem w9 {p:PP} (hv:Valid p) {x:List Int} {l:Int} (hx: ∀y∈x,0<=y/\y<p.1) (hl:Fb (List.length p.2.2.1) l):
  (An x (At p.2.2.1 l)).length=x.length/\ ∀y∈An x (At p.2.2.1 l),0<=y/\y<p.1:=by
 obtain ⟨h1,h2⟩:=hJ hv hl
 refine ⟨Kn _ _,λy hy=>?_⟩
 have:=Xu (n:=(At p.2.2.1 l).length) (λz hz=>by have:=hx z hz;omega) h2 y hy
 omega
theorem Yw.add {p:PP} {m:Nat} {L:List (List Int)} {D:List Int} (h:Yw p m L D) {y:List Int} {d:Int} (hn:y∉L) (hl:y.length=m) (hr:L.length<3000) (hy: ∀z∈y,0<=z/\z<p.1) (hd:0<=d/\d<=L.length):Yw p m (L++ [y]) (D++ [d]):=by
 have hlen:=h.len
 refine ⟨by rw [dT];exact h.ok.add hn hl hr,by simp [hlen],λx hx=>?_,λj hj=>?_⟩
 ·rcases Az.1 hx with hx|hx
  ·exact h.row x hx
  ·rw [Ae.1 hx];exact hy
 ·by_cases e:j<D.length
  ·rw [eX e];exact h.dep j e
  ·simp only [Ay,Ck] at hj
   have:j=D.length:=by omega
   subst this
   rw [List.getElem_append_right (by omega)]
   simp only [Nat.sub_self,List.getElem_cons_zero]
   omega
theorem mh {p:PP} {s:List Int} (hs:s.length<=20) (hr: ∀y∈s,0<=y/\y<p.1):Yw p s.length [s] [0]:=by
 refine ⟨?_,rfl,λx hx=>by rw [Ae.1 hx];exact hr,λj hj=>?_⟩
 ·have:=(lK hs).add (s:=s) (by simp) rfl (by simp)
  have e:aQ [s]=Wa [] (Fv [] [] s) 0:=dT [] s
  rw [e];exact this
 ·simp only [Ck] at hj
  have:j=0:=by omega
  subst this
  simp
theorem tY {L:List (List Int)} {s:List Int} :iX L s>=0↔s∈L:=by
 unfold iX
 split
 ·rename_i h;exact ⟨λ_=>h,λ_=>by omega⟩
 ·rename_i h;exact ⟨λhh=>by omega,λhh=>absurd hh h⟩
theorem VJ (p:PP) (s:List Int) (h:Bc p=true/\s.length<=20/\ ∀y∈s,0<=y/\y<p.1):fnW Ab0 (look [(86,Ww),(192,kd),(144,Nd),(145,cH),(134,Vl)]) Gt Try.f153 (p,s,()) (λ(z:SS)=>z=Es p.2.2.1 s):=by
 obtain ⟨hv,hs,hr⟩:=h
 have hV:=valid hv
 have CH:=hV.oM
 have hb0:=mh hs hr
 have MP:short s:=by unfold short;omega
 obtain ⟨ls,vH⟩: ∃ls,Bk (List.length p.2.2.1)=ls:=⟨_,rfl⟩
 refine Eq.mp (VY p s _) ⟨_,Ab MP,_,Ab ⟨lK hs,by show 0<=3000;omega⟩,ls,(Ab (by show List.length p.2.2.1<=8;exact CH.2)).trans (Jt some vH),rfl,rfl,rfl,rfl,rfl,rfl,rfl,rfl,rfl,rfl,rfl,rfl,?_⟩
 have e0:Wa [] (Fv [] [] s) ((([]:List (List Int)).length:Nat):Int)=aQ [s]:=(dT [] s).symm
 show Ek _ ((0:Int),p.1,p.2.1,p.2.2.1,false,false,[],[],[],[s],[(0:Int)],Wa [] (Fv [] [] s) ((([]:List (List Int)).length:Nat):Int),PUnit.unit)
 rw [e0]
 have IS:ls.length<=16:=by rw [<-vH,Sr];omega
 have pY: ∀l∈ls,Fb (List.length p.2.2.1) l:= λl hl=>Fk (vH▸hl)
 have Aa0:Nq p.2.2.1 ls 3001 0 [s] [0]=Ls p.2.2.1 s:=by unfold Ls;rw [vH]
 refine Ek.mk (λv=>v.2.1=p.1/\v.2.2.1=p.2.1/\v.2.2.2.1=p.2.2.1/\v.2.2.2.2.2.1=false/\ ∃k:Nat,v.1=k/\k<=v.2.2.2.2.2.2.2.2.2.1.length/\
   Yw p s.length v.2.2.2.2.2.2.2.2.2.1 v.2.2.2.2.2.2.2.2.2.2.1/\v.2.2.2.2.2.2.2.2.2.2.2.1=aQ v.2.2.2.2.2.2.2.2.2.1/\
   Nq p.2.2.1 ls (3001-k) k v.2.2.2.2.2.2.2.2.2.1 v.2.2.2.2.2.2.2.2.2.2.1=Ls p.2.2.1 s) (λv=>3001-v.1.toNat)
  ⟨rfl,rfl,rfl,rfl,0,rfl,by simp,hb0,rfl,Aa0⟩ ?_
 rintro ⟨k',n1,n2,n3,b0,wh,x1,x2,x3,L0,D0,S0,⟨⟩⟩ ⟨h1,h2,h3,h4,k,h5,h6,h7,h8,h9⟩
 dsimp only at h1 h2 h3 h4 h5 h6 h7 h8 h9
 subst h1 h2 h3 h4 h5 h8
 dsimp only
 have UA:=h7.ok.oM
 have hD0:=h7.len
 refine Br.dec (λhl=>⟨rfl,rfl,rfl,rfl,rfl,rfl,rfl,rfl,rfl,rfl,rfl,rfl,?_⟩) λhl=>?_
 ·have hk:k<L0.length:=by omega
  have UL:k<D0.length:=by omega
  have hx: ∀y∈L0[k],0<=y/\y<p.1:=h7.row _ (Ak hk)
  have hxl:L0[k].length=s.length:=h7.ok.len _ (Ak hk)
  have hdk:=h7.dep k UL
  obtain ⟨f,hf⟩: ∃f,3001-k=f+1:=⟨3000-k,by omega⟩
  have hgo: ∀L' D' ok,Jd p.2.2.1 L0[k] D0[k] ls L0 D0=(L',D',ok)->Ls p.2.2.1 s=if ok=true then Nq p.2.2.1 ls f (k+1) L' D' else (L',D',false):=by
   intro L' D' ok he
   rw [<-h9,hf,Nq,Ab hk,Xw hk,Al,Ac UL]
   simp only [Option.getD_some]
   rw [he]
   cases ok<;>rfl
  refine Ek.mk (λv=>v.2.1=p.1/\v.2.2.1=p.2.1/\v.2.2.2.1=p.2.2.1/\v.2.2.2.2.2.1=false/\ ∃i:Nat,v.1=i/\i<=ls.length/\Yw p s.length v.2.2.2.2.2.2.2.2.2.1 v.2.2.2.2.2.2.2.2.2.2.1/\
    v.2.2.2.2.2.2.2.2.2.2.2.1=aQ v.2.2.2.2.2.2.2.2.2.1/\(∃A,v.2.2.2.2.2.2.2.2.2.1=L0++A)/\(∃A,v.2.2.2.2.2.2.2.2.2.2.1=D0++A)/\
    Jd p.2.2.1 L0[k] D0[k] (ls.drop i) v.2.2.2.2.2.2.2.2.2.1 v.2.2.2.2.2.2.2.2.2.2.1=Jd p.2.2.1 L0[k] D0[k] ls L0 D0) (λv=>ls.length-v.1.toNat)
   ⟨rfl,rfl,rfl,rfl,0,rfl,Ni _,h7,rfl,⟨[],by simp⟩,⟨[],by simp⟩,rfl⟩ ?_
  rintro ⟨i',m1,m2,m3,b1,wh1,y1,y2,y3,L,D,S,⟨⟩⟩ ⟨g1,g2,g3,g4,i,g5,g6,g7,g8,⟨A,g9⟩,⟨A',g10⟩,MJ⟩
  dsimp only at g1 g2 g3 g4 g5 g6 g7 g8 g9 g10 MJ
  subst g1 g2 g3 g4 g5 g8
  dsimp only
  have hLf:=g7.ok.oM
  have WL:=g7.len
  rw [Di L,Di D,Di (aQ L)]
  refine Br.dec (λhli=>?_) λhli=>?_
  ·have hi:i<ls.length:=by omega
   have hkL:k<L.length:=by rw [g9,Ay];omega
   have hLk:L[k]=L0[k]:=by simp only [g9];exact eX hk
   have Aio:k<D.length:=by rw [WL];exact hkL
   have hDk:D[k]=D0[k]:=by simp only [g10];exact eX UL
   have yD:=pY _ (Ak hi)
   obtain ⟨nl,nr⟩:=w9 hV hx yD
   rw [Bu hi] at MJ
   simp only [Jd] at MJ
   refine ⟨⟨by omega,by omega⟩,L0[k],by rw [Bh,Db,Ac hkL,hLk],_,Df hi,_,Ab ⟨hv,by show L0[k].length<=20;omega,hx,yD⟩,?_⟩
   dsimp only
   have hyl:(An L0[k] (At p.2.2.1 ls[i])).length=s.length:=by rw [nl,hxl]
   refine ⟨_,Ab (by show Fg (An L0[k] (At p.2.2.1 ls[i])).length L (aQ L);rw [hyl];exact g7.ok),Br.dec (λtF=>?_) λtF=>?_⟩
   ·have tF:An L0[k] (At p.2.2.1 ls[i])∈L:=tY.1 tF
    rw [Ab tF] at MJ
    rw [Dw (by omega)]
    exact ⟨rfl,rfl,rfl,rfl,rfl,rfl,rfl,rfl,rfl,rfl,rfl,rfl,⟨rfl,rfl,rfl,rfl,i+1,rfl,hi,g7,rfl,⟨A,g9⟩,⟨A',g10⟩,MJ⟩,by omega⟩
   ·have tF:An L0[k] (At p.2.2.1 ls[i])∉L:= λhh=>tF (tY.2 hh)
    rw [Ai tF] at MJ
    refine ⟨λkZ=>?_,λkZ=>⟨⟨by omega,by omega⟩,D0[k],by rw [Bh,Db,Ac Aio,hDk],rfl,rfl,rfl,rfl,rfl,rfl,?_⟩⟩
    ·have kZ:L.length=3000:=by
      have:(L.length:Int)=3000:=by simpa using kZ
      omega
     rw [Ab kZ] at MJ
     have:=hgo _ _ _ MJ.symm
     rw [Ai (by decide)] at this
     unfold Es
     rw [this]
    ·have kZ:L.length≠3000:=by
      have:(L.length:Int)≠3000:=by simpa using kZ
      omega
     rw [Ai kZ] at MJ
     rw [Cs (n:=D0[k]+1) (by omega) (by omega)]
     refine ⟨_,Ab ⟨by show Fg (An L0[k] (At p.2.2.1 ls[i])).length L (aQ L);rw [hyl];exact g7.ok,by show D.length<=3000;omega⟩,?_⟩
     dsimp only
     rw [Dw (by omega),<-dT]
     refine ⟨rfl,rfl,rfl,rfl,rfl,rfl,rfl,rfl,rfl,rfl,rfl,rfl,⟨rfl,rfl,rfl,rfl,i+1,rfl,hi,g7.add tF hyl (by omega) nr ⟨by omega,by omega⟩,rfl,⟨A++ [An L0[k] (At p.2.2.1 ls[i])],by rw [g9,Ct]⟩,⟨A'++ [D0[k]+1],by rw [g10,Ct]⟩,MJ⟩,by omega⟩
  ·have:i=ls.length:=by omega
   subst this
   rw [Oq,Jd] at MJ
   have:=hgo _ _ _ MJ.symm
   rw [Ab rfl] at this
   rw [Dw (by omega)]
   refine ⟨rfl,rfl,rfl,rfl,rfl,rfl,rfl,rfl,rfl,rfl,rfl,rfl,⟨rfl,rfl,rfl,rfl,k+1,rfl,by rw [g9,Ay];omega,g7,rfl,?_⟩,by omega⟩
   rw [show 3001-(k+1)=f by omega]
   exact this.symm
 ·have hk:k=L0.length:=by omega
  rw [Di L0,Di D0,Di (aQ L0)]
  obtain ⟨f,hf⟩: ∃f,3001-k=f+1:=⟨3000-k,by omega⟩
  rw [hf,Nq,Ai (by omega)] at h9
  unfold Es
  rw [<-h9]
theorem zN:Sound Try.prog 153 Gt:=
 Sound.Hg Ab1 (Au qU (Hl ET (Au eK (Au lN (Au lT Bt))))) mixed Try.func153 (by kernel_rfl) (by kernel_rfl) λx h=>VJ x.1 x.2.1 h
noncomputable def tZ (p:PP) (t:List Int):Bool:=Bc p&&yZ p.1 t
noncomputable def HE (p:PP) (t:List Int):Bool:=tZ p t&&(Ls p.2.2.1 t).2.2
noncomputable def UZ (p:PP) (t:List Int):TT:=if HE p t=true then (t,(Ls p.2.2.1 t).1,(Ls p.2.2.1 t).2.1,()) else ([],[],[],())
noncomputable def qk (p:PP) (t:TT):Bool:=HE p t.1&&Ael (UZ p t.1) t
def VO (ts:List TT):Prop:=ts.length<=4294967296/\ ∀t∈ts,Aar t
noncomputable def qj (p:PP) (ts:List TT):Bool:=Bc p&&decide (ts.length<=4)&&List.all ts (qk p)
theorem kA {p:PP} (hV:Valid p) {m:Nat} {x:List Int} {d:Int} (hx: ∀y∈x,0<=y/\y<p.1) (hxl:x.length=m): ∀(ls:List Int) (L:List (List Int)) (D:List Int),(∀l∈ls,Fb (List.length p.2.2.1) l)->
  Yw p m L D->(0<=d/\d<L.length)->Yw p m (Jd p.2.2.1 x d ls L D).1 (Jd p.2.2.1 x d ls L D).2.1/\(∃A,(Jd p.2.2.1 x d ls L D).1=L++A)/\(∃A,(Jd p.2.2.1 x d ls L D).2.1=D++A)
 | [],L,D,_,h,_=>⟨h,⟨[],by simp [Jd]⟩,⟨[],by simp [Jd]⟩⟩
 |l::ls,L,D,hl,h,hd=>by
  obtain ⟨n1,n2⟩:=w9 hV hx (hl l (by simp))
  have Nt: ∀l∈ls,Fb (List.length p.2.2.1) l:= λl' h'=>hl l' (Am _ h')
  simp only [Jd]
  split
  ·exact kA hV hx hxl ls L D Nt h hd
  ·rename_i hn
   split
   ·exact ⟨h,⟨[],by simp⟩,⟨[],by simp⟩⟩
   ·rename_i hf
    have CH:=h.ok.oM
    obtain ⟨k1,⟨A,k2⟩,⟨A',k3⟩⟩:=kA hV hx hxl ls (L++ [An x (At p.2.2.1 l)]) (D++ [d+1]) Nt (h.add hn (by rw [n1,hxl]) (by omega) n2 ⟨by omega,by omega⟩) ⟨hd.1,by rw [Ay];omega⟩
    exact ⟨k1,⟨_::A,by rw [k2,Ct];rfl⟩,⟨_::A',by rw [k3,Ct];rfl⟩⟩
theorem xY {p:PP} (hV:Valid p) {m:Nat} {ls:List Int} (hl: ∀l∈ls,Fb (List.length p.2.2.1) l): ∀(f k:Nat) (L:List (List Int)) (D:List Int),Yw p m L D->
  Yw p m (Nq p.2.2.1 ls f k L D).1 (Nq p.2.2.1 ls f k L D).2.1/\(∃A,(Nq p.2.2.1 ls f k L D).1=L++A)
 |0,k,L,D,h=>⟨h,⟨[],by simp [Nq]⟩⟩
 |f+1,k,L,D,h=>by
  simp only [Nq]
  split
  ·rename_i hk
   have UL:k<D.length:=by rw [h.len];exact hk
   have hd:=h.dep k UL
   have e:D.getD k 0=D[k]:=by rw [Al,Ac UL];rfl
   rw [Xw hk,e]
   obtain ⟨k1,⟨A,k2⟩,_⟩:=kA hV (h.row _ (Ak hk)) (h.ok.len _ (Ak hk)) (d:=D[k]) ls L D hl h ⟨by omega,by omega⟩
   split
   ·rename_i L' D' he
    rw [he] at k1 k2
    obtain ⟨g1,⟨B,g2⟩⟩:=xY hV hl f (k+1) L' D' k1
    have k2:L'=L++A:=k2
    exact ⟨g1,⟨A++B,by rw [g2,k2,Ct]⟩⟩
   ·rename_i L' D' he
    rw [he] at k1 k2
    exact ⟨k1,⟨A,k2⟩⟩
  ·exact ⟨h,⟨[],by simp⟩⟩
theorem NF {p:PP} {s:List Int} (hv:Bc p=true) (hs:s.length<=20) (hr: ∀y∈s,0<=y/\y<p.1):Yw p s.length (Ls p.2.2.1 s).1 (Ls p.2.2.1 s).2.1/\ ∃A,(Ls p.2.2.1 s).1=s::A:=
 xY (valid hv) (λ_ hl=>Fk hl) _ _ _ _ (mh hs hr)
def BD (m:ByteArray->Option Bool) (L:List (List Int)):Prop:= ∀q,ny q->(m (qi q)).getD false=decide (q∈L)
theorem BD.add {m:ByteArray->Option Bool} {L:List (List Int)} {y:List Int} (h:BD m L) (hy:ny y):BD (sM m (qi y) true) (L++ [y]):=by
 intro q hq
 unfold sM
 by_cases e:q=y
 ·subst e
  rw [Ab rfl];simp
 ·rw [Ai λhk=>e (key_inj hq hy hk),h q hq]
  simp [e]
end Go.Proofs.Ytkkdpknjohcekaa
