/-
  Part 38 of the proof that the statement FnStateClasses holds.
-/
import Derived.Test.YtkkdpknjohcekaaCFStateClasses36
import Derived.KernelRfl
namespace Go.Proofs.Ytkkdpknjohcekaa
open Go.RowKit
def Ly (x a b:Int):Bool:=decide (a<=x/\x<=b)
def Lr (a b:List Int):Bool:=decide (a=b)
def Qb (xs:List Int) (x:Int):Bool:=decide (x∈xs)
def short (xs:List Int):Prop:=xs.length<=4294967296
noncomputable abbrev Ei:Spec:=Hv (.pair tI (.pair tI (.pair tI .unit))) .bool false true (λ_=>True) (λx=>Ly x.1 x.2.1 x.2.2.1)
noncomputable abbrev Ft:Spec:=Hv (.pair tL (.pair tL .unit)) .bool false true (λx=>short x.1) (λx=>Lr x.1 x.2.1)
noncomputable abbrev Ke:Spec:=Hv (.pair tL (.pair tI .unit)) .bool false true (λx=>short x.1) (λx=>Qb x.1 x.2.1)
theorem QG (x a b:Int) (P:Bool->Prop):(Br (decide (x>=a)) (P (decide (x<=b))) (P false))=fnW Hf (look []) Ei Try.f65 (x,a,b,()) P:=by kernel_rfl
theorem WV (x a b:Int) (P:Bool->Prop):(Br (decide (x>=a)) (P (decide (x<=b))) (P false))=fnW Hf (look []) Ei Try.f94 (x,a,b,()) P:=by kernel_rfl
theorem DY (a b:List Int) (P:Bool->Prop):(Br ((↑a.length:Int) !=(↑b.length:Int)) (P false) (Dt (λ(v3:Int×PUnit) (k4:Int×PUnit->Prop)=>Br (decide (v3.1<(↑a.length:Int))) (∃(y5:Int),idx a v3.1=some y5/\ ∃(y6:Int),idx b v3.1=some y6/\Br (y5 !=y6) (P false) (k4 (IntKind.i64.wrap (v3.1+1),()))) (P true)) (0,PUnit.unit)))=fnW Hf (look []) Ft Try.f80 (a,b,()) P:=by kernel_rfl
theorem uk (a b:List Int) (P:Bool->Prop):(Br ((↑a.length:Int) !=(↑b.length:Int)) (P false) (Dt (λ(v3:Int×PUnit) (k4:Int×PUnit->Prop)=>Br (decide (v3.1<(↑a.length:Int))) (∃(y5:Int),idx a v3.1=some y5/\ ∃(y6:Int),idx b v3.1=some y6/\Br (y5 !=y6) (P false) (k4 (IntKind.i64.wrap (v3.1+1),()))) (P true)) (0,PUnit.unit)))=fnW Hf (look []) Ft Try.f82 (a,b,()) P:=by kernel_rfl
theorem ug (xs:List Int) (x:Int) (P:Bool->Prop):(Dt (λ(v3:Int×PUnit) (k4:Int×PUnit->Prop)=>Br (decide (v3.1<(↑xs.length:Int))) (∃(y5:Int),idx xs v3.1=some y5/\Br (y5==x) (P true) (k4 (IntKind.i64.wrap (v3.1+1),()))) (P false)) (0,PUnit.unit))=fnW Hf (look []) Ke Try.f152 (xs,x,()) P:=by kernel_rfl
theorem OJ (x a b:Int) (_:True):fnW Hf (look []) Ei Try.f65 (x,a,b,()) (λ(z:Bool)=>z=Ly x a b):=by
 refine Eq.mp (QG x a b _) ?_
 refine Br.dec (λh=>?_) λh=>?_
 ·have h:a<=x:=h
  simp [Ly,h]
 ·exact (Lk λhh=>h hh.1).symm
theorem cn:Sound Try.prog 65 Ei:=
 Sound.Hv Fh Cm mixed Try.func65 (by kernel_rfl) (by kernel_rfl) λx h=>OJ x.1 x.2.1 x.2.2.1 h
theorem UY (x a b:Int) (_:True):fnW Hf (look []) Ei Try.f94 (x,a,b,()) (λ(z:Bool)=>z=Ly x a b):=by
 refine Eq.mp (WV x a b _) ?_
 refine Br.dec (λh=>?_) λh=>?_
 ·have h:a<=x:=h
  simp [Ly,h]
 ·exact (Lk λhh=>h hh.1).symm
theorem a9:Sound Try.prog 94 Ei:=
 Sound.Hv Fh Cm mixed Try.func94 (by kernel_rfl) (by kernel_rfl) λx h=>UY x.1 x.2.1 x.2.2.1 h
theorem tJ (xs:List Int) (x:Int) (h:short xs):fnW Hf (look []) Ke Try.f152 (xs,x,()) (λ(z:Bool)=>z=Qb xs x):=by
 refine Eq.mp (ug xs x _) ?_
 unfold short at h
 refine Ci xs.length (λv=>v.1) (λj _=>x∉xs.take j) rfl (by simp) ?_
 rintro j ⟨i,⟨⟩⟩ K hj hi hR hK
 dsimp only at hi⊢
 subst hi
 refine Br.dec (λhl=>?_) λhl=>?_
 ·have hl:j<xs.length:=by omega
  refine ⟨_,Df hl,⟨λhe=>?_,λhe=>?_⟩⟩
  ·have hm:=Al hl
   simp only [beq_iff_eq] at he
   rw [he] at hm
   exact (Hu hm).symm
  ·rw [Cg (by omega)]
   refine hK hl _ rfl ?_
   simp only [Qt,ne_eq] at he
   rw [Fm hl]
   simp only [Az,Ae,not_or]
   exact ⟨hR,λhx=>he hx.symm⟩
 ·have:j=xs.length:=by omega
  subst this
  rw [Bb] at hR
  exact (Lk hR).symm
theorem bS:Sound Try.prog 152 Ke:=
 Sound.Hv Fh Cm mixed Try.func152 (by kernel_rfl) (by kernel_rfl) λx h=>tJ x.1 x.2.1 h
theorem wJ (a b:List Int) (hlen:a.length=b.length) (h:short a):
  Dt (λ(v3:Int×PUnit) (k4:Int×PUnit->Prop)=>
   Br (decide (v3.1<(↑a.length:Int))) (∃(y5:Int),idx a v3.1=some y5/\ ∃(y6:Int),idx b v3.1=some y6/\Br (y5 !=y6) (false=Lr a b) (k4 (IntKind.i64.wrap (v3.1+1),())))
    (true=Lr a b))
  (0,PUnit.unit):=by
 unfold short at h
 refine Ci a.length (λv=>v.1) (λj _=>a.take j=b.take j) rfl (by simp) ?_
 rintro j ⟨i,⟨⟩⟩ K hj hi hR hK
 dsimp only at hi⊢
 subst hi
 refine Br.dec (λhl=>?_) λhl=>?_
 ·have KT:j<a.length:=by omega
  have z7:j<b.length:=by omega
  refine ⟨_,Df KT,_,Df z7,⟨λhe=>?_,λhe=>?_⟩⟩
  ·simp only [bne_iff_ne,ne_eq] at he
   refine (Lk λpd=>he ?_).symm
   subst pd
   rfl
  ·rw [Cg (by omega)]
   refine hK KT _ rfl ?_
   simp only [Wj] at he
   rw [Fm KT,Fm z7,hR,he]
 ·have SV:j=a.length:=by omega
  subst SV
  rw [Bb,hlen,Bb] at hR
  exact (Hu hR).symm
theorem BY (a b:List Int) (h:short a):fnW Hf (look []) Ft Try.f80 (a,b,()) (λ(z:Bool)=>z=Lr a b):=by
 refine Eq.mp (DY a b _) ⟨λhl=>?_,λhl=>?_⟩
 ·simp only [bne_iff_ne,ne_eq,Lj] at hl
  exact (Lk λpd=>hl (by rw [pd])).symm
 ·simp only [Wj,Lj] at hl
  exact wJ a b hl h
theorem fk:Sound Try.prog 80 Ft:=
 Sound.Hv Fh Cm mixed Try.func80 (by kernel_rfl) (by kernel_rfl) λx h=>BY x.1 x.2.1 h
theorem tP (a b:List Int) (h:short a):fnW Hf (look []) Ft Try.f82 (a,b,()) (λ(z:Bool)=>z=Lr a b):=by
 refine Eq.mp (uk a b _) ⟨λhl=>?_,λhl=>?_⟩
 ·simp only [bne_iff_ne,ne_eq,Lj] at hl
  exact (Lk λpd=>hl (by rw [pd])).symm
 ·simp only [Wj,Lj] at hl
  exact wJ a b hl h
theorem bT:Sound Try.prog 82 Ft:=
 Sound.Hv Fh Cm mixed Try.func82 (by kernel_rfl) (by kernel_rfl) λx h=>tP x.1 x.2.1 h
abbrev TT:Type:=List Int×List (List Int)×List Int×Unit
def Ry (xs:List (List Int)):Prop:=xs.length<=4294967296/\ ∀r∈xs,short r
def Aee (t:TT):Prop:=short t.1/\Ry t.2.1/\short t.2.2.1
def Aia (a b:TT):Bool:=decide (a.1=b.1)&&(decide (a.2.1=b.2.1)&&decide (a.2.2.1=b.2.2.1))
theorem jR {α:Type} {ys xs:List α} {j:Nat} (h:j<xs.length) (hl:ys.length=xs.length) (ht:ys.take j=xs.take j):(ys.set j xs[j]).take (j+1)=xs.take (j+1):=by
 have h1:j<(ys.set j xs[j]).length:=by rw [Bt];omega
 rw [Fm h1,Fm h,List.getElem_set_self,List.take_set_of_le (Ao j),ht]
def PL (n:Int) (xs:List Int) (k:Nat):Prop:= ∀j (h:j<xs.length),j<k->0<=xs[j]/\xs[j]<=n-1/\(0<j->xs[j-1]<xs[j])
def DL (n:Int) (xs:List Int) (k:Nat):Prop:= ∀j (h:j<xs.length),j<k->0<=xs[j]/\xs[j]<=n-1/\xs[j]∉xs.take j
noncomputable def dec (p:Prop):Bool:= @decide p (Classical.propDecidable p)
theorem Po {p:Prop} (h:p):true=dec p:=(@Hu p (Classical.propDecidable p) h).symm
theorem Ee {p:Prop} (h: ¬p):false=dec p:=(@Lk p (Classical.propDecidable p) h).symm
theorem Fp {p:Prop} :dec p=true↔p:= @Il p (Classical.propDecidable p)
theorem XV {p:Prop} :dec p=false↔ ¬p:= @decide_eq_false_iff_not p (Classical.propDecidable p)
noncomputable def BA (n:Int) (xs:List Int):Bool:=dec (0<xs.length/\PL n xs xs.length)
noncomputable abbrev iT:Spec:=Hv (.pair pR .unit) tI false true (λ_=>True) (λx=>(List.length x.1:Int))
theorem Aa8 (xs:List (List Int)) (P:Int->Prop):(P (↑xs.length:Int))=fnW Hf (look []) iT Try.f95 (xs,()) P:=by kernel_rfl
theorem ZL (xs:List (List Int)) (_:True):fnW Hf (look []) iT Try.f95 (xs,()) (λ(z:Int)=>z=(xs.length:Int)):=Eq.mp (Aa8 xs _) rfl
theorem CY:Sound Try.prog 95 iT:=
 Sound.Hv Fh Cm mixed Try.func95 (by kernel_rfl) (by kernel_rfl) λx h=>ZL x.1 h
theorem Gv {x a b:Int} :Ly x a b=true↔a<=x/\x<=b:=Il
theorem Lw {b:Bool} (h:(!b)=true): ¬b=true:=by cases b<;>simp_all
theorem Jr {b:Bool} (h:(!b)=false):b=true:=by cases b<;>simp_all
theorem XW {n:Int} {xs:List Int} {j:Nat} (hl:j<xs.length) (h:DL n xs j) (h1:0<=xs[j]) (h2:xs[j]<=n-1) (h3:xs[j]∉xs.take j):DL n xs (j+1):=by
 intro i hi dO
 by_cases e:i=j
 ·subst e;exact ⟨h1,h2,h3⟩
 ·exact h i hi (by omega)
theorem IQ {xs:List Int} (h:short xs) (j:Nat):short (xs.take j):=by
 unfold short at*
 rw [Cs]
 omega
abbrev PP:Type:=Int×ByteArray×List (List Int)×Unit
noncomputable def It (p:List Int):Bool:=dec (1<=p.length/\p.length<=20/\DL p.length p p.length)
noncomputable def En (n:Int) (p:List Int):Bool:=dec ((p.length:Int)=n/\It p=true)
noncomputable def Yn (n:Int) (g:List (List Int)):Bool:=dec ((1<=n/\n<=20)/\g.length<=8/\ ∀p∈g,En n p=true)
def Ld {α:Type} (P:α->Bool):List α->Int->Int
 | [],_=> -1
 |y::r,i=>if P y=true then i else Ld P r (i+1)
abbrev tG1:Ty:= .clo 206 (.pair (.ptr tI) .unit)
def wk (s:ByteArray) (i:Nat):Prop:= ∃c:UInt8,s[i]?=some c/\65<=c.toNat/\c.toNat<=90/\ ∀k,k<i->s[k]?≠some c
noncomputable def ma (s:ByteArray) (i:Int):Bool:=dec (wk s i.toNat)
noncomputable def al (s:ByteArray):Bool:=dec ((1<=s.size/\s.size<=8)/\ ∀j,j<s.size->wk s j)
noncomputable def Bi (p:PP):Bool:=dec (Yn p.1 p.2.2.1=true/\al p.2.1=true/\p.2.1.size=p.2.2.1.length)
def Lp (p:PP):Prop:=p.2.1.size<=4294967296/\Ry p.2.2.1
noncomputable abbrev Xi:Spec:=Hv (.pair tL .unit) tI false true (λ_=>True) (λx=>(List.length x.1:Int))
noncomputable abbrev Jq:Spec:=Hv (.pair tL .unit) .bool false true (λx=>short x.1) (λx=>It x.1)
noncomputable abbrev Pu:Spec:=Hv (.pair tI (.pair pR .unit)) .bool false true (λx=>Ry x.2.1) (λx=>Yn x.1 x.2.1)
noncomputable abbrev iR:Spec:=Hv (.pair tL (.pair (.ptr tI) .unit)) .bool false true (λx=>short x.1) (λx=>!En x.2.1 x.1)
noncomputable abbrev vU:Spec:=Hv (.pair pR (.pair tG1 .unit)) tI false true (λx=>Ry x.1) (λx=>Ld (λp=>!En x.2.1.1 p) x.1 0)
noncomputable abbrev vS:Spec:=Hv (.pair pR (.pair tG1 .unit)) .bool false true (λx=>Ry x.1) (λx=>List.any x.1 (λp=>!En x.2.1.1 p))
noncomputable abbrev dh:Spec:=Hv (.pair .str (.pair tI .unit)) .bool false true (λx=>0<=x.2.1/\x.2.1<x.1.size/\x.1.size<=4294967296) (λx=>ma x.1 x.2.1)
noncomputable abbrev aq:Spec:=Hv (.pair .str .unit) .bool false true (λx=>x.1.size<=4294967296) (λx=>al x.1)
noncomputable abbrev Hc:Spec:=Hv (.pair Kg .unit) .bool false true (λx=>Lp x.1) (λx=>Bi x.1)
theorem Aet (xs:List Int) (P:Int->Prop):(P (↑xs.length:Int))=fnW Hf (look []) Xi Try.f140 (xs,()) P:=by kernel_rfl
theorem yV (p:List Int) (P:Bool->Prop):(∃(y2:Bool),Ei.fn ((↑p.length:Int),(1:Int),(20:Int),())=some y2/\Br (!y2) (P false) (Dt (λ(v3:Int×PUnit) (k4:Int×PUnit->Prop)=>Br (decide (v3.1<(↑p.length:Int))) (∃(y5:Int),idx p v3.1=some y5/\ ∃(y6:Bool),Ei.fn (y5,(0:Int),IntKind.i64.wrap ((↑p.length:Int)-(1:Int)),())=some y6/\Br (!y6) (P false) (((0:Int)<=(0:Int)/\(0:Int)<=v3.1/\v3.1<=(↑p.length:Int))/\ ∃(y7:Int),idx p v3.1=some y7/\ ∃(y8:Bool),Ke.fn (List.drop (Int.toNat (0:Int)) (List.take v3.1.toNat p),y7,())=some y8/\Br y8 (P false) (k4 (IntKind.i64.wrap (v3.1+(1:Int)),())))) (P true)) ((0:Int),PUnit.unit)))=fnW Hf (look [(65,Ei),(152,Ke)]) Jq Try.f169 (p,()) P:=by kernel_rfl
theorem yQ (p:List Int) (P:Bool->Prop):(∃(y2:Int),Xi.fn (p,())=some y2/\ ∃(y3:Bool),Ei.fn (y2,(1:Int),(20:Int),())=some y3/\Br (!y3) (P false) (Dt (λ(v4:Int×Int×PUnit) (k5:Int×Int×PUnit->Prop)=>Br (decide (v4.2.1<(↑p.length:Int))) (∃(y6:Int),idx p v4.2.1=some y6/\ ∃(y7:Int),Xi.fn (p,())=some y7/\ ∃(y8:Bool),Ei.fn (y6,(0:Int),IntKind.i64.wrap (y7-(1:Int)),())=some y8/\Br (!y8) (P false) (¬y6<(0:Int)/\k5 (IntKind.i64.wrap (↑(BitVec.ofInt IntKind.i64.bits v4.1|||BitVec.ofInt IntKind.i64.bits (IntKind.i64.wrap ((1:Int)*(2:Int)^min y6.toNat IntKind.i64.bits))).toNat:Int),IntKind.i64.wrap (v4.2.1+(1:Int)),()))) (¬(↑p.length:Int)<(0:Int)/\P (v4.1==IntKind.i64.wrap (IntKind.i64.wrap ((1:Int)*(2:Int)^min (↑p.length:Int).toNat IntKind.i64.bits)-(1:Int))))) ((0:Int),(0:Int),PUnit.unit)))=fnW Hf (look [(94,Ei),(140,Xi)]) Jq Try.f141 (p,()) P:=by kernel_rfl
theorem yU (n:Int) (g:List (List Int)) (P:Bool->Prop):(∃(y3:Bool),Ei.fn (n,(1:Int),(20:Int),())=some y3/\Br (!y3) (P false) (Br (decide ((↑g.length:Int)>(8:Int))) (P false) (Dt (λ(v4:Int×PUnit) (k5:Int×PUnit->Prop)=>Br (decide (v4.1<(↑g.length:Int))) (∃(y6:List Int),idx g v4.1=some y6/\Br ((↑y6.length:Int) !=n) (P false) (∃(y7:List Int),idx g v4.1=some y7/\ ∃(y8:Bool),Jq.fn (y7,())=some y8/\Br (!y8) (P false) (k5 (IntKind.i64.wrap (v4.1+(1:Int)),())))) (P true)) ((0:Int),PUnit.unit))))=fnW Hf (look [(65,Ei),(169,Jq)]) Pu Try.f115 (n,g,()) P:=by kernel_rfl
theorem Aa6 (p:List Int) (n:Int) (P:Bool->Prop):(∃(y3:Int),Xi.fn (p,())=some y3/\Br (y3 !=n) (P true) (∃(y4:Bool),Jq.fn (p,())=some y4/\P !y4))=fnW Hf (look [(140,Xi),(141,Jq)]) iR Try.f206 (p,n,()) P:=by kernel_rfl
theorem Aiz (g:List (List Int)) (n:Int×Unit) (P:Int->Prop):(Dt (λ(v3:Int×PUnit) (k4:Int×PUnit->Prop)=>Br (decide (v3.1<(↑g.length:Int))) (∃(y5:List Int),idx g v3.1=some y5/\ ∃(y6:Bool),iR.fn (y5,n.1,())=some y6/\Br y6 (P v3.1) (k4 (IntKind.i64.wrap (v3.1+(1:Int)),()))) (P (-1:Int))) ((0:Int),PUnit.unit))=fnW Hf (look [(206,iR)]) vU Try.f197 (g,n,()) P:=by kernel_rfl
theorem Aix (g:List (List Int)) (n:Int×Unit) (P:Bool->Prop):(∃(y3:Int),vU.fn (g,n,())=some y3/\P (decide (y3>=(0:Int))))=fnW Hf (look [(197,vU)]) vS Try.f205 (g,n,()) P:=by kernel_rfl
theorem yP (n:Int) (g:List (List Int)) (P:Bool->Prop):(∃(y3:Bool),Ei.fn (n,(1:Int),(20:Int),())=some y3/\Br y3 (Br (decide ((↑g.length:Int)<=(8:Int))) (∃(y4:Bool),vS.fn (g,(n,()),())=some y4/\P !y4) (P false)) (P false))=fnW Hf (look [(94,Ei),(205,vS)]) Pu Try.f173 (n,g,()) P:=by kernel_rfl
theorem WR (s:ByteArray) (i:Int) (P:Bool->Prop):((0:Int)<=i/\ ∃(y3:UInt8),s[i.toNat]?=some y3/\Br (decide ((↑y3.toNat:Int)<(65:Int))) (P false) ((0:Int)<=i/\ ∃(y4:UInt8),s[i.toNat]?=some y4/\Br (decide ((↑y4.toNat:Int)>(90:Int))) (P false) (Dt (λ(v5:Int×PUnit) (k6:Int×PUnit->Prop)=>Br (decide (v5.1<i)) ((0:Int)<=v5.1/\ ∃(y7:UInt8),s[v5.1.toNat]?=some y7/\(0:Int)<=i/\ ∃(y8:UInt8),s[i.toNat]?=some y8/\Br ((↑y7.toNat:Int)==(↑y8.toNat:Int)) (P false) (k6 (IntKind.i64.wrap (v5.1+(1:Int)),()))) (P true)) ((0:Int),PUnit.unit))))=fnW Hf (look []) dh Try.f116 (s,i,()) P:=by kernel_rfl
theorem QH (s:ByteArray) (P:Bool->Prop):(Dt (λ(v2:Int×PUnit) (k3:Int×PUnit->Prop)=>Br (decide (v2.1<(↑s.size:Int))) ((0:Int)<=v2.1/\ ∃(y4:UInt8),s[v2.1.toNat]?=some y4/\ ∃(y5:Bool),Ei.fn (IntKind.i64.wrap (↑y4.toNat:Int),(65:Int),(90:Int),())=some y5/\Br (!y5) (P false) (Dt (λ(v6:Int×PUnit) (k7:Int×PUnit->Prop)=>Br (decide (v6.1<v2.1)) ((0:Int)<=v6.1/\ ∃(y8:UInt8),s[v6.1.toNat]?=some y8/\(0:Int)<=v2.1/\ ∃(y9:UInt8),s[v2.1.toNat]?=some y9/\Br ((↑y8.toNat:Int)==(↑y9.toNat:Int)) (P false) (k7 (IntKind.i64.wrap (v6.1+(1:Int)),()))) (k3 (IntKind.i64.wrap (v2.1+(1:Int)),()))) ((0:Int),PUnit.unit))) (∃(y4:Bool),Ei.fn ((↑s.size:Int),(1:Int),(8:Int),())=some y4/\P y4)) ((0:Int),PUnit.unit))=fnW Hf (look [(94,Ei)]) aq Try.f174 (s,()) P:=by kernel_rfl
abbrev jO:Type:=Int×Int×ByteArray×List (List Int)×PUnit
theorem yX (p:Int×ByteArray×List (List Int)×Unit) (P:Bool->Prop):(Br ((↑p.2.2.1.length:Int)==(0:Int)) (P false) (Br ((↑p.2.1.size:Int) !=(↑p.2.2.1.length:Int)) (P false) (∃(y2:Bool),Pu.fn (p.1,p.2.2.1,())=some y2/\Br (!y2) (P false) (Dt (λ(v3:jO) (k4:jO->Prop)=>Br (decide (v3.1<(↑v3.2.2.1.size:Int))) (∃(y5:Bool),dh.fn (v3.2.2.1,v3.1,())=some y5/\Br (!y5) (P false) (k4 (IntKind.i64.wrap (v3.1+(1:Int)),v3.2.1,v3.2.2.1,v3.2.2.2.1,()))) (P true)) ((0:Int),p.1,p.2.1,p.2.2.1,PUnit.unit)))))=fnW Hf (look [(115,Pu),(116,dh)]) Hc Try.f47 (p,()) P:=by kernel_rfl
theorem yS (p:Int×ByteArray×List (List Int)×Unit) (P:Bool->Prop):(∃(y2:Bool),Pu.fn (p.1,p.2.2.1,())=some y2/\Br y2 (∃(y3:Bool),aq.fn (p.2.1,())=some y3/\Br y3 (P ((↑p.2.1.size:Int)==(↑p.2.2.1.length:Int))) (P false)) (P false))=fnW Hf (look [(173,Pu),(174,aq)]) Hc Try.f119 (p,()) P:=by kernel_rfl
theorem Ae4 (xs:List Int) (_:True):fnW Hf (look []) Xi Try.f140 (xs,()) (λ(z:Int)=>z=(xs.length:Int)):=Eq.mp (Aet xs _) rfl
theorem kV:Sound Try.prog 140 Xi:=
 Sound.Hv Fh Cm mixed Try.func140 (by kernel_rfl) (by kernel_rfl) λx h=>Ae4 x.1 h
theorem yz {α:Type} [DecidableEq α]: ∀(l m:List α),l.Nodup->(∀x∈l,x∈m)->l.length<=m.length
 | [],m,_,_=>Iz _
 |a::l,m,hn,hs=>by
  have ha:a∈m:=hs a (Ik ..)
  have hn:=Ca.1 hn
  have:=yz l (m.erase a) hn.2 λx hx=>(List.mem_erase_of_ne (λ(e:x=a)=>hn.1 (by rw [<-e];exact hx))).2 (hs x (An _ hx))
  rw [Ou ha] at this
  have:0<m.length:=List.length_pos_of_mem ha
  simp only [Aw]
  omega
def upto (n:Nat):List Int:=(List.range n).map Int.ofNat
theorem Xq (n:Nat):(upto n).Nodup:=by
 unfold upto
 exact List.Pairwise.map _ (λa b pd e=>pd (Int.ofNat.inj e)) List.nodup_range
theorem Kn {n:Nat} {x:Int} :x∈upto n↔0<=x/\x<n:=by
 unfold upto
 simp only [Be,Ej]
 constructor
 ·rintro ⟨a,ha,rfl⟩;exact ⟨Int.natCast_nonneg _,Int.ofNat_lt.2 ha⟩
 ·rintro ⟨h1,h2⟩;exact ⟨x.toNat,by omega,by simp only [Int.ofNat_eq_natCast];omega⟩
theorem Iv (n:Nat):(upto n).length=n:=by simp [upto]
theorem gL {xs:List Int} (h: ∀j (hj:j<xs.length),xs[j]∉xs.take j):xs.Nodup:=by
 refine De.2 λi j hi hj dO e=>h j hj ?_
 rw [<-e]
 exact List.mem_take_iff_getElem.2 ⟨i,by omega,rfl⟩
theorem sL {xs:List Int} (h:xs.Nodup): ∀j (hj:j<xs.length),xs[j]∉xs.take j:=by
 intro j hj hm
 obtain ⟨i,hi,e⟩:=List.mem_take_iff_getElem.1 hm
 exact De.1 h i j (by omega) hj (by omega) e
theorem c7 {xs:List Int} (h: ∀x∈xs,0<=x/\x<xs.length):(∀k:Nat,k<xs.length->(k:Int)∈xs)↔ ∀j (hj:j<xs.length),xs[j]∉xs.take j:=by
 constructor
 ·intro ha j hj hm
  have h1:=yz (upto xs.length) (xs.take j++xs.drop (j+1)) (Xq _) λx hx=>by
   obtain ⟨h1,h2⟩:=Kn.1 hx
   have hx:=ha x.toNat (by omega)
   rw [show ((x.toNat:Nat):Int)=x by omega] at hx
   rw [<-Fo j xs,Az,Bz hj,Ay] at hx
   rcases hx with hx|rfl|hx
   ·exact Bj _ hx
   ·exact Bj _ hm
   ·exact Cc _ hx
  rw [Iv,Au,Cs,Sb] at h1
  omega
 ·intro hn k hk
  refine Bf λhc=>?_
  have h1:=yz xs ((upto xs.length).erase (k:Int)) (gL hn) λx hx=>by
   refine (List.mem_erase_of_ne λ(e:x=(k:Int))=>hc (by rw [<-e];exact hx)).2 (Kn.2 (h x hx))
  rw [Ou (Kn.2 ⟨by omega,by omega⟩),Iv] at h1
  omega
def mask (xs:List Int):Nat:=xs.foldl (λm x=>m|||2^x.toNat) 0
theorem NY (xs:List Int) (x:Int):mask (xs++ [x])=mask xs|||2^x.toNat:=by simp [mask]
theorem xr (xs:List Int) (k:Nat): ∀a:Nat,(xs.foldl (λm x=>m|||2^x.toNat) a).testBit k=(a.testBit k||xs.any λx=>decide (x.toNat=k)):=by
 induction xs with
 |nil=>simp
 |cons x xs ih=>
  intro a
  rw [Nm,ih,Nat.testBit_or,Nat.testBit_two_pow,List.any_cons,Bool.or_assoc]
theorem ry (xs:List Int) (k:Nat):(mask xs).testBit k=xs.any λx=>decide (x.toNat=k):=by
 unfold mask
 rw [xr,Nat.zero_testBit,az]
theorem ZC {xs:List Int} {n:Nat} (h: ∀x∈xs,x.toNat<n):mask xs<2^n:=by
 refine Nat.lt_pow_two_of_testBit _ λk hk=>?_
 rw [ry]
 refine Bool.eq_false_iff.2 λht=>?_
 obtain ⟨x,hx,he⟩:=Ht.1 ht
 have:=h x hx
 have:=Ex he
 omega
theorem vu {xs:List Int} (h: ∀x∈xs,0<=x/\x<xs.length):mask xs=2^xs.length-1↔ ∀k:Nat,k<xs.length->(k:Int)∈xs:=by
 constructor
 ·intro e k hk
  have h1:=ry xs k
  rw [e,Nat.testBit_two_pow_sub_one,Hu hk] at h1
  obtain ⟨x,hx,he⟩:=Ht.1 h1.symm
  have:=(h x hx).1
  have:=Ex he
  have e:x=(k:Int):=by omega
  exact e▸hx
 ·intro ha
  refine Nat.eq_of_testBit_eq λk=>?_
  rw [ry,Nat.testBit_two_pow_sub_one]
  by_cases hk:k<xs.length
  ·rw [Hu hk]
   exact Ht.2 ⟨k,ha k hk,by simp⟩
  ·rw [Lk hk]
   refine Bool.eq_false_iff.2 λht=>?_
   obtain ⟨x,hx,he⟩:=Ht.1 ht
   have:=h x hx
   have:=Ex he
   omega
theorem ZG {m:Nat} {x:Int} (hm:m<2^20) (h0:0<=x) (h1:x<20):
  IntKind.i64.wrap (((BitVec.ofInt IntKind.i64.bits (m:Int)|||BitVec.ofInt IntKind.i64.bits (IntKind.i64.wrap ((1:Int)*(2:Int)^min x.toNat IntKind.i64.bits))).toNat:Nat):Int)=((m|||2^x.toNat:Nat):Int):=by
 have hx:(2:Nat)^x.toNat<2^20:=Nat.pow_lt_pow_right (by omega) (by omega)
 have e1:min x.toNat IntKind.i64.bits=x.toNat:=by show min x.toNat 64=_;omega
 have e2:(1:Int)*(2:Int)^x.toNat=((2^x.toNat:Nat):Int):=by rw [Int.one_mul];exact (Int.natCast_pow 2 _).symm
 rw [e1,e2,Dh (n:=((2^x.toNat:Nat):Int)) (by have:(0:Int)<=((2^x.toNat:Nat):Int):=Int.natCast_nonneg _;omega) (by omega)]
 show IntKind.i64.wrap (((BitVec.ofInt 64 (m:Int)|||BitVec.ofInt 64 ((2^x.toNat:Nat):Int)).toNat:Nat):Int)=_
 rw [BitVec.ofInt_natCast,BitVec.ofInt_natCast,BitVec.toNat_or,BitVec.toNat_ofNat,BitVec.toNat_ofNat,Nat.mod_eq_of_lt (by omega),Nat.mod_eq_of_lt (by omega)]
 have:=Nat.or_lt_two_pow hm hx
 exact Dh (by omega) (by omega)
theorem xE (p:List Int) (h:short p):fnW Hf (look [(65,Ei),(152,Ke)]) Jq Try.f169 (p,()) (λ(z:Bool)=>z=It p):=by
 have hs:=h
 unfold short at h
 refine Eq.mp (yV p _) ⟨_,Ac trivial,⟨λhp=>?_,λhp=>?_⟩⟩
 ·have hp:=Lw hp
  rw [Gv] at hp
  dsimp only at hp
  exact Ee λhh=>hp ⟨by omega,by omega⟩
 ·have hp:=Jr hp
  rw [Gv] at hp
  dsimp only at hp
  refine Ci p.length (λv=>v.1) (λj _=>DL p.length p j) rfl (λj _ hj=>absurd hj (Fa _)) ?_
  rintro j ⟨i,⟨⟩⟩ K hj hi hR hK
  dsimp only at hi⊢
  subst hi
  refine Br.dec (λhl=>?_) λhl=>?_
  ·have hl:j<p.length:=by omega
   refine ⟨_,Df hl,_,Ac trivial,⟨λhq=>?_,λhq=>?_⟩⟩
   ·have hq:=Lw hq
    rw [Gv,Dh (by omega) (by omega)] at hq
    exact Ee λhh=>hq ⟨(hh.2.2 j hl hl).1,(hh.2.2 j hl hl).2.1⟩
   ·have hq:=Jr hq
    rw [Gv,Dh (by omega) (by omega)] at hq
    refine ⟨⟨by omega,by omega,by omega⟩,_,Df hl,?_⟩
    rw [show (Int.toNat 0)=0 from rfl,Du,As]
    refine ⟨_,Ac (IQ hs j),⟨λhc=>?_,λhc=>?_⟩⟩
    ·have hc:decide (p[j]∈p.take j)=true:=hc
     rw [Il] at hc
     exact Ee λhh=>(hh.2.2 j hl hl).2.2 hc
    ·have hc:decide (p[j]∈p.take j)=false:=hc
     rw [decide_eq_false_iff_not] at hc
     rw [Cg (by omega)]
     exact hK hl _ rfl (XW hl hR hq.1 hq.2 hc)
  ·have:j=p.length:=by omega
   subst this
   exact Po ⟨by omega,by omega,hR⟩
theorem Xp:Sound Try.prog 169 Jq:=
 Sound.Hv Fh (Bh cn (Bh bS Cm)) mixed Try.func169 (by kernel_rfl) (by kernel_rfl) λx h=>xE x.1 h
theorem xz (p:List Int) (h:short p):fnW Hf (look [(94,Ei),(140,Xi)]) Jq Try.f141 (p,()) (λ(z:Bool)=>z=It p):=by
 unfold short at h
 refine Eq.mp (yQ p _) ⟨_,Ac trivial,_,Ac trivial,⟨λhp=>?_,λhp=>?_⟩⟩
 ·have hp:=Lw hp
  rw [Gv] at hp
  dsimp only at hp
  exact Ee λhh=>hp ⟨by omega,by omega⟩
 ·have hp:=Jr hp
  rw [Gv] at hp
  dsimp only at hp
  refine Ci p.length (λv=>v.2.1) (λj v=>v.1=(mask (p.take j):Int)/\ ∀x∈p.take j,0<=x/\x<p.length) rfl ⟨rfl,by simp⟩ ?_
  rintro j ⟨m,i,⟨⟩⟩ K hj hi ⟨hm,hR⟩ hK
  dsimp only at hi hm⊢
  subst hi hm
  refine Br.dec (λhl=>?_) λhl=>?_
  ·have hl:j<p.length:=by omega
   refine ⟨_,Df hl,_,Ac trivial,_,Ac trivial,⟨λhq=>?_,λhq=>?_⟩⟩
   ·have hq:=Lw hq
    rw [Gv] at hq
    dsimp only at hq
    rw [Dh (by omega) (by omega)] at hq
    exact Ee λhh=>hq ⟨(hh.2.2 j hl hl).1,(hh.2.2 j hl hl).2.1⟩
   ·have hq:=Jr hq
    rw [Gv] at hq
    dsimp only at hq
    rw [Dh (by omega) (by omega)] at hq
    refine ⟨by omega,?_⟩
    rw [Cg (by omega)]
    have hb:mask (p.take j)<2^20:=ZC λx hx=>by have:=hR x hx;omega
    refine hK hl _ rfl ⟨?_,?_⟩
    ·dsimp only
     rw [ZG hb hq.1 (by omega),Fm hl,NY]
    ·rw [Fm hl]
     intro x hx
     rcases Az.1 hx with hx|hx
     ·exact hR x hx
     ·rw [Ae.1 hx];omega
  ·have:j=p.length:=by omega
   subst this
   rw [Bb] at hR⊢
   refine ⟨by omega,?_⟩
   have hx:(2:Nat)^p.length<=2^20:=Nat.pow_le_pow_right (by omega) (by omega)
   have GG:0<(2:Nat)^p.length:=Nat.two_pow_pos _
   have e1:min (p.length:Int).toNat IntKind.i64.bits=p.length:=by show min (p.length:Int).toNat 64=_;omega
   have e2:(1:Int)*(2:Int)^p.length=((2^p.length:Nat):Int):=by rw [Int.one_mul];exact (Int.natCast_pow 2 _).symm
   rw [e1,e2,Dh (n:=((2^p.length:Nat):Int)) (by omega) (by omega),Dh (by omega) (by omega)]
   have hE:((mask p:Int)==((2^p.length:Nat):Int)-1)=decide (mask p=2^p.length-1):=by
    rw [Bool.eq_iff_iff,beq_iff_eq,Il]
    omega
   show ((mask p:Int)==((2^p.length:Nat):Int)-1)=It p
   rw [hE]
   by_cases hf:mask p=2^p.length-1
   ·rw [Hu hf]
    have hn:=(c7 hR).1 ((vu hR).1 hf)
    refine Po ⟨by omega,by omega,λj hj _=>?_⟩
    have:=hR _ (Al hj)
    exact ⟨this.1,by omega,hn j hj⟩
   ·rw [Lk hf]
    refine Ee λhh=>hf ((vu hR).2 ((c7 hR).2 λj hj=>(hh.2.2 j hj hj).2.2))
theorem nN:Sound Try.prog 141 Jq:=
 Sound.Hv Fh (Bh a9 (Bh kV Cm)) mixed Try.func141 (by kernel_rfl) (by kernel_rfl) λx h=>xz x.1 h
theorem xD (n:Int) (g:List (List Int)) (h:Ry g):fnW Hf (look [(65,Ei),(169,Jq)]) Pu Try.f115 (n,g,()) (λ(z:Bool)=>z=Yn n g):=by
 obtain ⟨h,h4⟩:=h
 refine Eq.mp (yU n g _) ⟨_,Ac trivial,⟨λhp=>?_,λhp=>?_⟩⟩
 ·have hp:=Lw hp
  rw [Gv] at hp
  exact Ee λhh=>hp hh.1
 ·have hp:=Jr hp
  rw [Gv] at hp
  refine Br.dec (λhg=>?_) λhg=>?_
  ·exact Ee λhh=>by have:=hh.2.1;omega
  ·refine Ci g.length (λv=>v.1) (λj _=> ∀p∈g.take j,En n p=true) rfl (by simp) ?_
   rintro j ⟨i,⟨⟩⟩ K hj hi hR hK
   dsimp only at hi⊢
   subst hi
   refine Br.dec (λhl=>?_) λhl=>?_
   ·have hl:j<g.length:=by omega
    have hm:g[j]∈g:=Al hl
    refine ⟨_,Df hl,⟨λhe=>?_,λhe=>?_⟩⟩
    ·simp only [bne_iff_ne,ne_eq] at he
     exact Ee λhh=>he (Fp.1 (hh.2.2 _ hm)).1
    ·simp only [Wj] at he
     refine ⟨_,Df hl,_,Ac (h4 _ hm),⟨λhq=>?_,λhq=>?_⟩⟩
     ·have hq:=Lw hq
      exact Ee λhh=>hq (Fp.1 (hh.2.2 _ hm)).2
     ·have hq:=Jr hq
      rw [Cg (by omega)]
      refine hK hl _ rfl ?_
      rw [Fm hl]
      intro x hx
      rcases Az.1 hx with hx|hx
      ·exact hR x hx
      ·rw [Ae.1 hx];exact Fp.2 ⟨he,hq⟩
   ·have:j=g.length:=by omega
    subst this
    rw [Bb] at hR
    exact Po ⟨hp,by omega,hR⟩
theorem nQ:Sound Try.prog 115 Pu:=
 Sound.Hv Fh (Bh cn (Bh Xp Cm)) mixed Try.func115 (by kernel_rfl) (by kernel_rfl) λx h=>xD x.1 x.2.1 h
theorem ZJ (p:List Int) (n:Int) (h:short p):fnW Hf (look [(140,Xi),(141,Jq)]) iR Try.f206 (p,n,()) (λ(z:Bool)=>z=!En n p):=by
 refine Eq.mp (Aa6 p n _) ⟨_,Ac trivial,⟨λhe=>?_,λhe=>⟨_,Ac h,?_⟩⟩⟩
 ·simp only [bne_iff_ne,ne_eq] at he
  have:En n p=false:=XV.2 λhh=>he hh.1
  rw [this];rfl
 ·simp only [Wj] at he
  show (!It p)=_
  congr 1
  cases hp:It p with
  |true=>exact Po ⟨he,hp⟩
  |false=>exact Ee λhh=>by rw [hh.2] at hp;cases hp
theorem CW:Sound Try.prog 206 iR:=
 Sound.Hv Fh (Bh kV (Bh nN Cm)) mixed Try.func206 (by kernel_rfl) (by kernel_rfl) λx h=>ZJ x.1 x.2.1 h
theorem oA {α:Type} (P:α->Bool): ∀(l:List α) (i:Int),0<=i->(0<=Ld P l i↔l.any P=true)
 | [],i,_=>by simp [Ld]
 |y::r,i,h=>by
  simp only [Ld,List.any_cons,Li]
  split
  ·rename_i hy;simp [hy,h]
  ·rename_i hy;rw [oA P r (i+1) (by omega)];simp [hy]
theorem Aij (g:List (List Int)) (n:Int×Unit) (h:Ry g):fnW Hf (look [(206,iR)]) vU Try.f197 (g,n,()) (λ(z:Int)=>z=Ld (λp=>!En n.1 p) g 0):=by
 obtain ⟨h,h4⟩:=h
 refine Eq.mp (Aiz g n _) ?_
 refine Ci g.length (λv=>v.1) (λj _=>Ld (λp=>!En n.1 p) (g.drop j) j=Ld (λp=>!En n.1 p) g 0) rfl (by simp) ?_
 rintro j ⟨i,⟨⟩⟩ K hj hi hR hK
 dsimp only at hi⊢
 subst hi
 refine Br.dec (λhl=>?_) λhl=>?_
 ·have hl:j<g.length:=by omega
  rw [Bz hl] at hR
  simp only [Ld] at hR
  refine ⟨_,Df hl,_,Ac (h4 _ (Al hl)),⟨λhe=>?_,λhe=>?_⟩⟩
  ·have he:(!En n.1 g[j])=true:=he
   rw [Ac he] at hR
   exact hR
  ·have he:(!En n.1 g[j])=false:=he
   rw [Ai (by rw [he];decide)] at hR
   rw [Cg (by omega)]
   exact hK hl _ rfl (by push_cast;exact hR)
 ·have:j=g.length:=by omega
  subst this
  rw [Ot] at hR
  exact hR
theorem PJ:Sound Try.prog 197 vU:=
 Sound.Hv Fh (Bh CW Cm) mixed Try.func197 (by kernel_rfl) (by kernel_rfl) λx h=>Aij x.1 x.2.1 h
theorem Aih (g:List (List Int)) (n:Int×Unit) (h:Ry g):fnW Hf (look [(197,vU)]) vS Try.f205 (g,n,()) (λ(z:Bool)=>z=List.any g (λp=>!En n.1 p)):=by
 refine Eq.mp (Aix g n _) ⟨_,Ac h,?_⟩
 rw [Bool.eq_iff_iff,Il]
 exact oA _ g 0 (cy 0)
theorem PF:Sound Try.prog 205 vS:=
 Sound.Hv Fh (Bh PJ Cm) mixed Try.func205 (by kernel_rfl) (by kernel_rfl) λx h=>Aih x.1 x.2.1 h
theorem xy (n:Int) (g:List (List Int)) (h:Ry g):fnW Hf (look [(94,Ei),(205,vS)]) Pu Try.f173 (n,g,()) (λ(z:Bool)=>z=Yn n g):=by
 refine Eq.mp (yP n g _) ⟨_,Ac trivial,⟨λhp=>?_,λhp=>?_⟩⟩
 ·have hp:Ly n 1 20=true:=hp
  rw [Gv] at hp
  refine Br.dec (λhl=>⟨_,Ac h,?_⟩) λhl=>?_
  ·show (!List.any g (λp=>!En n p))=Yn n g
   cases ha:List.any g (λp=>!En n p) with
   |true=>
    obtain ⟨p,uS,uT⟩:=Ht.1 ha
    exact Ee λhh=>by rw [hh.2.2 p uS] at uT;cases uT
   |false=>
    refine Po ⟨hp,by omega,λp hm=>?_⟩
    have:=List.any_eq_false.1 ha p hm
    simpa using this
  ·exact Ee λhh=>by have:=hh.2.1;omega
 ·refine Ee λhh=>?_
  have:Ly n 1 20=true:=Gv.2 hh.1
  have hp:Ly n 1 20=false:=hp
  rw [this] at hp;cases hp
theorem nM:Sound Try.prog 173 Pu:=
 Sound.Hv Fh (Bh a9 (Bh PF Cm)) mixed Try.func173 (by kernel_rfl) (by kernel_rfl) λx h=>xy x.1 x.2.1 h
theorem Mj {s:ByteArray} {k:Nat} (h:k<s.size):s[k]?=some s[k]:=getElem?_pos s k h
theorem UU (s:ByteArray) (i:Int) (h:0<=i/\i<s.size/\s.size<=4294967296):fnW Hf (look []) dh Try.f116 (s,i,()) (λ(z:Bool)=>z=ma s i):=by
 obtain ⟨h1,h2,h3⟩:=h
 have hi:i.toNat<s.size:=by omega
 refine Eq.mp (WR s i _) ⟨h1,_,Mj hi,Br.dec (λhq=>?_) λhq=>⟨h1,_,Mj hi,Br.dec (λhr=>?_) λhr=>?_⟩⟩
 ·refine Ee λ⟨c,hc,YG,_⟩=>?_
  rw [Mj hi] at hc;cases hc;omega
 ·refine Ee λ⟨c,hc,_,YG,_⟩=>?_
  rw [Mj hi] at hc;cases hc;omega
 ·refine Ci i.toNat (λv=>v.1) (λj _=> ∀k,k<j->s[k]?≠some s[i.toNat]) rfl (λk hk=>absurd hk (Fa _)) ?_
  rintro j ⟨i',⟨⟩⟩ K hj j8 hR hK
  dsimp only at j8⊢
  subst j8
  refine Br.dec (λhl=>?_) λhl=>?_
  ·have hl:j<i.toNat:=by omega
   have hj:j<s.size:=by omega
   rw [As]
   refine ⟨by omega,_,Mj hj,h1,_,Mj hi,⟨λhe=>?_,λhe=>?_⟩⟩
   ·simp only [beq_iff_eq,Lj] at he
    refine Ee λ⟨c,hc,_,_,YG⟩=>?_
    rw [Mj hi] at hc;cases hc
    exact YG j hl (by rw [Mj hj,UInt8.toNat_inj.1 he])
   ·simp only [Qt,ne_eq,Lj] at he
    rw [Cg (by omega)]
    refine hK hl _ rfl λk hk=>?_
    by_cases e:k=j
    ·subst e
     rw [Mj hj]
     exact λe=>he (by rw [Ax e])
    ·exact hR k (by omega)
  ·have:j=i.toNat:=by omega
   subst this
   exact Po ⟨_,Mj hi,by omega,by omega,hR⟩
theorem yk:Sound Try.prog 116 dh:=
 Sound.Hv Fh Cm mixed Try.func116 (by kernel_rfl) (by kernel_rfl) λx h=>UU x.1 x.2.1 h
theorem OL (s:ByteArray) (h:s.size<=4294967296):fnW Hf (look [(94,Ei)]) aq Try.f174 (s,()) (λ(z:Bool)=>z=al s):=by
 refine Eq.mp (QH s _) ?_
 refine Ci s.size (λv=>v.1) (λj _=> ∀k,k<j->wk s k) rfl (λk hk=>absurd hk (Fa _)) ?_
 rintro j ⟨i,⟨⟩⟩ K hj hi hR hK
 dsimp only at hi⊢
 subst hi
 refine Br.dec (λhl=>?_) λhl=>?_
 ·have hl:j<s.size:=by omega
  rw [As]
  have hb:=(s[j]).toNat_lt
  refine ⟨by omega,_,Mj hl,_,Ac trivial,⟨λhq=>?_,λhq=>?_⟩⟩
  ·have hq:=Lw hq
   rw [Gv] at hq
   dsimp only at hq
   rw [Dh (by omega) (by omega)] at hq
   refine Ee λhh=>?_
   obtain ⟨c,hc,YG,hc2,_⟩:=hh.2 j hl
   rw [Mj hl] at hc;cases hc
   exact hq ⟨by omega,by omega⟩
  ·have hq:=Jr hq
   rw [Gv] at hq
   dsimp only at hq
   rw [Dh (by omega) (by omega)] at hq
   refine Ci j (λv=>v.1) (λm _=> ∀k,k<m->s[k]?≠some s[j]) rfl (λk hk=>absurd hk (Fa _)) ?_
   rintro m ⟨i',⟨⟩⟩ K' hm j8 hR' hK'
   dsimp only at j8⊢
   subst j8
   refine Br.dec (λLl=>?_) λLl=>?_
   ·have Ll:m<j:=by omega
    have hm':m<s.size:=by omega
    rw [As]
    refine ⟨by omega,_,Mj hm',by omega,_,Mj hl,⟨λhe=>?_,λhe=>?_⟩⟩
    ·simp only [beq_iff_eq,Lj] at he
     refine Ee λhh=>?_
     obtain ⟨c,hc,_,_,YG⟩:=hh.2 j hl
     rw [Mj hl] at hc;cases hc
     exact YG m Ll (by rw [Mj hm',UInt8.toNat_inj.1 he])
    ·simp only [Qt,ne_eq,Lj] at he
     rw [Cg (by omega)]
     refine hK' Ll _ rfl λk hk=>?_
     by_cases e:k=m
     ·subst e
      rw [Mj hm']
      exact λe=>he (by rw [Ax e])
     ·exact hR' k (by omega)
   ·have:m=j:=by omega
    subst this
    rw [Cg (by omega)]
    refine hK hl _ rfl λk hk=>?_
    by_cases e:k=m
    ·subst e
     exact ⟨_,Mj hl,by omega,by omega,hR'⟩
    ·exact hR k (by omega)
 ·have:j=s.size:=by omega
  subst this
  refine ⟨_,Ac trivial,?_⟩
  show Ly s.size 1 8=_
  cases hr:Ly s.size 1 8 with
  |true=>rw [Gv] at hr;exact Po ⟨by omega,hR⟩
  |false=>refine Ee λhh=>?_;rw [Gv.2 ⟨by omega,by omega⟩] at hr;cases hr
theorem u5:Sound Try.prog 174 aq:=
 Sound.Hv Fh (Bh a9 Cm) mixed Try.func174 (by kernel_rfl) (by kernel_rfl) λx h=>OL x.1 h
theorem kY {p:PP} (h:Bi p=true):1<=p.1/\p.1<=20/\1<=p.2.2.1.length/\p.2.2.1.length<=8:=by
 obtain ⟨h1,h2,h3⟩:=Fp.1 h
 obtain ⟨h4,h5,_⟩:=Fp.1 h1
 obtain ⟨h6,_⟩:=Fp.1 h2
 omega
theorem xG (p:PP) (h:Lp p):fnW Hf (look [(115,Pu),(116,dh)]) Hc Try.f47 (p,()) (λ(z:Bool)=>z=Bi p):=by
 obtain ⟨hn,hg⟩:=h
 refine Eq.mp (yX p _) ⟨λh0=>?_,λh0=>⟨λh1=>?_,λh1=>⟨_,Ac hg,⟨λh2=>?_,λh2=>?_⟩⟩⟩⟩
 ·simp only [beq_iff_eq] at h0
  exact Ee λhh=>by obtain ⟨_,h2,h3⟩:=hh;have:=(Fp.1 h2).1;omega
 ·simp only [bne_iff_ne,ne_eq,Lj] at h1
  exact Ee λhh=>h1 hh.2.2
 ·have h2:=Lw h2
  exact Ee λhh=>h2 hh.1
 ·simp only [Qt,ne_eq] at h0
  simp only [Wj,Lj] at h1
  have h2:Yn p.1 p.2.2.1=true:=Jr h2
  refine Ci p.2.1.size (λv=>v.1) (λj v=>v.2=(p.1,p.2.1,p.2.2.1,())/\ ∀k,k<j->wk p.2.1 k) rfl ⟨rfl,λk hk=>absurd hk (Fa _)⟩ ?_
  rintro j ⟨i,v⟩ K hj hi ⟨hv,hR⟩ hK
  dsimp only at hi hv⊢
  subst hi hv
  dsimp only
  refine Br.dec (λhl=>?_) λhl=>?_
  ·have hl:j<p.2.1.size:=by omega
   refine ⟨_,Ac ⟨Int.natCast_nonneg j,Int.ofNat_lt.2 hl,hn⟩,⟨λhq=>?_,λhq=>?_⟩⟩
   ·have hq: ¬ma p.2.1 j=true:=Lw hq
    refine Ee λhh=>hq (Fp.2 ?_)
    rw [As]
    exact (Fp.1 hh.2.1).2 j hl
   ·have hq:ma p.2.1 j=true:=Jr hq
    have hq:=Fp.1 hq
    rw [As] at hq
    rw [Cg (by omega)]
    refine hK hl _ rfl ⟨rfl,λk hk=>?_⟩
    by_cases e:k=j
    ·subst e;exact hq
    ·exact hR k (by omega)
  ·have:j=p.2.1.size:=by omega
   subst this
   have:=(Fp.1 h2).2.1
   exact Po ⟨h2,Fp.2 ⟨⟨by omega,by omega⟩,hR⟩,h1⟩
theorem Rz:Sound Try.prog 47 Hc:=
 Sound.Hv Fh (Bh nQ (Bh yk Cm)) mixed Try.func47 (by kernel_rfl) (by kernel_rfl) λx h=>xG x.1 h
theorem xB (p:PP) (h:Lp p):fnW Hf (look [(173,Pu),(174,aq)]) Hc Try.f119 (p,()) (λ(z:Bool)=>z=Bi p):=by
 obtain ⟨hn,hg⟩:=h
 refine Eq.mp (yS p _) ⟨_,Ac hg,⟨λh1=>⟨_,Ac hn,⟨λh2=>?_,λh2=>?_⟩⟩,λh1=>?_⟩⟩
 ·have h1:Yn p.1 p.2.2.1=true:=h1
  have h2:al p.2.1=true:=h2
  by_cases e:p.2.1.size=p.2.2.1.length
  ·rw [e,beq_self_eq_true];exact Po ⟨h1,h2,e⟩
  ·rw [show ((p.2.1.size:Int)==(p.2.2.1.length:Int))=false from Qt.2 (by omega)];exact Ee λhh=>e hh.2.2
 ·have h2:al p.2.1=false:=h2
  exact Ee λhh=>by rw [hh.2.1] at h2;cases h2
 ·have h1:Yn p.1 p.2.2.1=false:=h1
  exact Ee λhh=>by rw [hh.1] at h1;cases h1
theorem dp:Sound Try.prog 119 Hc:=
 Sound.Hv Fh (Bh nM (Bh u5 Cm)) mixed Try.func119 (by kernel_rfl) (by kernel_rfl) λx h=>xB x.1 h
noncomputable abbrev di:Spec:=Hv (.pair tI (.pair tL .unit)) .bool false true (λx=>short x.2.1) (λx=>En x.1 x.2.1)
noncomputable abbrev Ru:Spec:=Hv (.pair Kg (.pair tL .unit)) .bool false true (λx=>Lp x.1/\short x.2.1) (λx=>Bi x.1&&En x.1.1 x.2.1)
theorem WT (n:Int) (s:List Int) (P:Bool->Prop):(Br ((↑s.length:Int)==n) (∃(y3:Bool),Jq.fn (s,())=some y3/\P y3) (P false))=fnW Hf (look [(169,Jq)]) di Try.f148 (n,s,()) P:=by kernel_rfl
theorem uo (p:Int×ByteArray×List (List Int)×Unit) (s:List Int) (P:Bool->Prop):(∃(y3:Bool),Hc.fn ((p.1,p.2.1,p.2.2.1,()),())=some y3/\Br y3 (∃(y4:Bool),di.fn (p.1,s,())=some y4/\P y4) (P false))=fnW Hf (look [(47,Hc),(148,di)]) Ru Try.f73 (p,s,()) P:=by kernel_rfl
theorem UW (n:Int) (s:List Int) (h:short s):fnW Hf (look [(169,Jq)]) di Try.f148 (n,s,()) (λ(z:Bool)=>z=En n s):=by
 refine Eq.mp (WT n s _) ⟨λhe=>⟨_,Ac h,?_⟩,λhe=>?_⟩
 ·simp only [beq_iff_eq] at he
  show It s=_
  cases hp:It s with
  |true=>exact Po ⟨he,hp⟩
  |false=>exact Ee λhh=>by rw [hh.2] at hp;cases hp
 ·simp only [Qt,ne_eq] at he
  exact Ee λhh=>he hh.1
theorem yl:Sound Try.prog 148 di:=
 Sound.Hv Fh (Bh Xp Cm) mixed Try.func148 (by kernel_rfl) (by kernel_rfl) λx h=>UW x.1 x.2.1 h
theorem tR (p:PP) (s:List Int) (h:Lp p/\short s):fnW Hf (look [(47,Hc),(148,di)]) Ru Try.f73 (p,s,()) (λ(z:Bool)=>z=(Bi p&&En p.1 s)):=by
 refine Eq.mp (uo p s _) ⟨_,Ac h.1,⟨λhe=>⟨_,Ac h.2,?_⟩,λhe=>?_⟩⟩
 ·have he:Bi p=true:=he
  rw [he];rfl
 ·have he:Bi p=false:=he
  rw [he];rfl
theorem bV:Sound Try.prog 73 Ru:=
 Sound.Hv Fh (Bh Rz (Bh yl Cm)) mixed Try.func73 (by kernel_rfl) (by kernel_rfl) λx h=>tR x.1 x.2.1 h
def Hz (xs:List Int) (i:Int):Int:=xs.getD i.toNat 0
def Aj (p q:List Int):List Int:=p.map (Hz q)
def Xz (f:Nat->Nat) (g:Nat->Int) (m:Nat) (init:List Int):List Int:=(List.range m).foldl (λ(out:List Int) (i:Nat)=>out.set (f i) (g i)) init
def Bc (p:List Int):List Int:=Xz (λi=>(Hz p (i:Int)).toNat) (λi=>(i:Int)) p.length (List.replicate p.length 0)
def Kd (q s:List Int):List Int:=Xz (λi=>(Hz q (i:Int)).toNat) (λi=>Hz q (Hz s (i:Int))) s.length (List.replicate s.length 0)
def Bq (p q:List Int):List Int:=Aj (Aj (Bc q) p) q
def Kb (n:Nat) (p:List Int):Prop:= ∀y∈p,0<=y/\y<n
noncomputable abbrev Qf:Spec:=Hv (.pair tL (.pair tL .unit)) tL false true (λx=>List.length x.1<=20/\Kb (List.length x.2.1) x.1) (λx=>Aj x.1 x.2.1)
noncomputable abbrev Gs:Spec:=Hv (.pair tL .unit) tL false true (λx=>List.length x.1<=20/\Kb (List.length x.1) x.1) (λx=>Bc x.1)
noncomputable abbrev Lo:Spec:=Hv (.pair tL (.pair tL .unit)) tL false true (λx=>List.length x.2.1<=20/\List.length x.1=List.length x.2.1/\Kb (List.length x.1) x.1/\Kb (List.length x.1) x.2.1) (λx=>Kd x.1 x.2.1)
noncomputable abbrev Nk:Spec:=Hv (.pair tL (.pair tL .unit)) tL false true (λx=>List.length x.1=List.length x.2.1/\Kb (List.length x.1) x.1/\It x.2.1=true) (λx=>Bq x.1 x.2.1)
noncomputable abbrev Ep:Spec:=Hv (.pair tI .unit) tL false true (λx=>0<=x.1/\x.1<=20) (λx=>upto x.1.toNat)
noncomputable abbrev Kf:Spec:=Hv (.pair tL .unit) tL false true (λx=>It x.1=true) (λx=>Bc x.1)
def Av (g:List (List Int)) (l:Int):List Int:=if l>0 then g.getD (l-1).toNat [] else Bc (g.getD (-l-1).toNat [])
def Jp (n:Int) (l:Int):Prop:=l≠0/\ -n<=l/\l<=n
noncomputable abbrev Nw:Spec:=Hv (.pair pR (.pair tI .unit)) tL false false (λx=>Jp (List.length x.1) x.2.1/\List.length x.1<=8/\ ∀p∈x.1,It p=true) (λx=>Av x.1 x.2.1)
def Bm (n:Nat):List Int:=(List.range n).flatMap λ(k:Nat)=> [(k:Int)+1,-((k:Int)+1)]
noncomputable abbrev Mw:Spec:=Hv (.pair tI .unit) tL false true (λx=>0<=x.1/\x.1<=8) (λx=>Bm x.1.toNat)
def Oi (g:List (List Int)) (x:List Int):List Int->Int
 | []=>0
 |l::r=>if Av g l=x then l else Oi g x r
def NV (x:List Int):List (List Int)->Int->Int
 | [],_=>0
 |m::r,k=>if m=x then k else if Bc m=x then-k else NV x r (k+1)
def Hr (g:List (List Int)) (x:List Int):Int:=NV x g 1
noncomputable abbrev Rv:Spec:=Hv (.pair Kg (.pair tL .unit)) tI false true (λx=>Bi x.1=true/\short x.2.1) (λx=>Hr x.1.2.2.1 x.2.1)
def Nj (p:PP) (q:List Int) (l:Int):Int:=Hr p.2.2.1 (Bq (Av p.2.2.1 l) q)
noncomputable abbrev dg:Spec:=Hv (.pair Kg (.pair tL (.pair tI .unit))) tI false true (λx=>Bi x.1=true/\En x.1.1 x.2.1=true/\Jp (List.length x.1.2.2.1) x.2.2.1) (λx=>Nj x.1 x.2.1 x.2.2.1)
noncomputable abbrev dd:Spec:=Hv (.pair Kg (.pair tL (.pair tI .unit))) tL false true (λx=>Bi x.1=true/\List.length x.2.1<=20/\(∀y∈x.2.1,0<=y/\y<x.1.1)/\Jp (List.length x.1.2.2.1) x.2.2.1) (λx=>Aj x.2.1 (Av x.1.2.2.1 x.2.2.1))
noncomputable def Jo (p:PP) (q:List Int):Bool:=dec (∀k:Nat,k<p.2.2.1.length->Nj p q ((k:Int)+1)≠0)
noncomputable abbrev Mg:Spec:=Hv (.pair Kg (.pair tL .unit)) .bool false true (λx=>Bi x.1=true/\En x.1.1 x.2.1=true) (λx=>Jo x.1 x.2.1)
noncomputable def bI (p:PP) (q:List Int):Bool:=Bi p&&En p.1 q&&Jo p q
noncomputable abbrev iS:Spec:=Hv (.pair Kg (.pair tL .unit)) .bool false true (λx=>Lp x.1/\short x.2.1) (λx=>bI x.1 x.2.1)
theorem ui (p q:List Int) (P:List Int->Prop):(((0:Int)<=(↑p.length:Int)/\(↑p.length:Int)<(↑Dd:Int)+(1:Int))/\(↑p.length:Int)=(↑p.length:Int)/\0=0/\(List.replicate (↑p.length:Int).toNat (Int.ofNat (nat_lit 0))).length=(List.replicate (↑p.length:Int).toNat (Int.ofNat (nat_lit 0))).length/\Dt (λ(v3:Int×List Int×PUnit) (k4:Int×List Int×PUnit->Prop)=>Br (decide (v3.1<(↑p.length:Int))) (∃(y5:Int),idx p v3.1=some y5/\ ∃(y6:Int),idx q y5=some y6/\((0:Int)<=v3.1/\v3.1<(↑v3.2.1.length:Int))/\0+v3.1.toNat<v3.2.1.length/\0=0/\v3.2.1.length=(v3.2.1.set (0+v3.1.toNat) y6).length/\k4 (IntKind.i64.wrap (v3.1+(1:Int)),v3.2.1.set (0+v3.1.toNat) y6,())) (P (List.take v3.2.1.length (List.drop 0 v3.2.1)))) ((0:Int),List.replicate (↑p.length:Int).toNat (Int.ofNat (nat_lit 0)),PUnit.unit))=fnW Hf (look []) Qf Try.f142 (p,q,()) P:=by kernel_rfl
theorem uj (p:List Int) (P:List Int->Prop):(((0:Int)<=(↑p.length:Int)/\(↑p.length:Int)<(↑Dd:Int)+(1:Int))/\(↑p.length:Int)=(↑p.length:Int)/\0=0/\(List.replicate (↑p.length:Int).toNat (Int.ofNat (nat_lit 0))).length=(List.replicate (↑p.length:Int).toNat (Int.ofNat (nat_lit 0))).length/\Dt (λ(v2:Int×List Int×PUnit) (k3:Int×List Int×PUnit->Prop)=>Br (decide (v2.1<(↑p.length:Int))) (∃(y4:Int),idx p v2.1=some y4/\((0:Int)<=y4/\y4<(↑v2.2.1.length:Int))/\0+y4.toNat<v2.2.1.length/\0=0/\v2.2.1.length=(v2.2.1.set (0+y4.toNat) v2.1).length/\k3 (IntKind.i64.wrap (v2.1+(1:Int)),v2.2.1.set (0+y4.toNat) v2.1,())) (P (List.take v2.2.1.length (List.drop 0 v2.2.1)))) ((0:Int),List.replicate (↑p.length:Int).toNat (Int.ofNat (nat_lit 0)),PUnit.unit))=fnW Hf (look []) Gs Try.f143 (p,()) P:=by kernel_rfl
theorem QM (p:List Int) (P:List Int->Prop):(((0:Int)<=(↑p.length:Int)/\(↑p.length:Int)<(↑Dd:Int)+(1:Int))/\(↑p.length:Int)=(↑p.length:Int)/\0=0/\(List.replicate (↑p.length:Int).toNat (Int.ofNat (nat_lit 0))).length=(List.replicate (↑p.length:Int).toNat (Int.ofNat (nat_lit 0))).length/\Dt (λ(v2:Int×List Int×PUnit) (k3:Int×List Int×PUnit->Prop)=>Br (decide (v2.1<(↑p.length:Int))) (∃(y4:Int),idx p v2.1=some y4/\((0:Int)<=y4/\y4<(↑v2.2.1.length:Int))/\0+y4.toNat<v2.2.1.length/\0=0/\v2.2.1.length=(v2.2.1.set (0+y4.toNat) v2.1).length/\k3 (IntKind.i64.wrap (v2.1+(1:Int)),v2.2.1.set (0+y4.toNat) v2.1,())) (P (List.take v2.2.1.length (List.drop 0 v2.2.1)))) ((0:Int),List.replicate (↑p.length:Int).toNat (Int.ofNat (nat_lit 0)),PUnit.unit))=fnW Hf (look []) Gs Try.f190 (p,()) P:=by kernel_rfl
theorem um (p:List Int) (P:List Int->Prop):(∃(y2:Bool),Jq.fn (p,())=some y2/\Br (!y2) (P (List.take 0 (List.drop 0 []))) (∃(y3:List Int),Gs.fn (p,())=some y3/\P y3))=fnW Hf (look [(169,Jq),(190,Gs)]) Kf Try.f187 (p,()) P:=by kernel_rfl
theorem yO (q s:List Int) (P:List Int->Prop):(((0:Int)<=(↑s.length:Int)/\(↑s.length:Int)<(↑Dd:Int)+(1:Int))/\(↑s.length:Int)=(↑s.length:Int)/\0=0/\(List.replicate (↑s.length:Int).toNat (Int.ofNat (nat_lit 0))).length=(List.replicate (↑s.length:Int).toNat (Int.ofNat (nat_lit 0))).length/\Dt (λ(v3:Int×List Int×PUnit) (k4:Int×List Int×PUnit->Prop)=>Br (decide (v3.1<(↑s.length:Int))) (∃(y5:Int),idx q v3.1=some y5/\ ∃(y6:Int),idx s v3.1=some y6/\ ∃(y7:Int),idx q y6=some y7/\((0:Int)<=y5/\y5<(↑v3.2.1.length:Int))/\0+y5.toNat<v3.2.1.length/\0=0/\v3.2.1.length=(v3.2.1.set (0+y5.toNat) y7).length/\k4 (IntKind.i64.wrap (v3.1+(1:Int)),v3.2.1.set (0+y5.toNat) y7,())) (P (List.take v3.2.1.length (List.drop 0 v3.2.1)))) ((0:Int),List.replicate (↑s.length:Int).toNat (Int.ofNat (nat_lit 0)),PUnit.unit))=fnW Hf (look []) Lo Try.f87 (q,s,()) P:=by kernel_rfl
theorem DV (p q:List Int) (P:List Int->Prop):(∃(y3:List Int),Gs.fn (q,())=some y3/\ ∃(y4:List Int),Qf.fn (y3,p,())=some y4/\ ∃(y5:List Int),Qf.fn (y4,q,())=some y5/\P y5)=fnW Hf (look [(143,Gs),(142,Qf)]) Nk Try.f68 (p,q,()) P:=by kernel_rfl
theorem JL (n:Int) (P:List Int->Prop):(0=0/\0=([]:List Int).length/\Dt (λ(v2:Int×List Int×PUnit) (k3:Int×List Int×PUnit->Prop)=>Br (decide (v2.1<n)) (0=0/\v2.2.1.length=v2.2.1.length/\v2.2.1.length+(List.take 1 (List.drop 0 [v2.1])).length<=Dd/\0=0/\(v2.2.1++List.take 1 (List.drop 0 [v2.1])).length=(v2.2.1++List.take 1 (List.drop 0 [v2.1])).length/\k3 (IntKind.i64.wrap (v2.1+(1:Int)),v2.2.1++List.take 1 (List.drop 0 [v2.1]),())) (P (List.take v2.2.1.length (List.drop 0 v2.2.1)))) ((0:Int),[],PUnit.unit))=fnW Hf (look []) Ep Try.f66 (n,()) P:=by kernel_rfl
theorem JM (g:List (List Int)) (l:Int) (P:List Int->Prop):(Br (decide (l>(0:Int))) (∃(y3:List Int),idx g (IntKind.i64.wrap (l-(1:Int)))=some y3/\P y3) (∃(y3:List Int),idx g (IntKind.i64.wrap (IntKind.i64.wrap ((0:Int)-l)-(1:Int)))=some y3/\ ∃(y4:List Int),Gs.fn (y3,())=some y4/\P y4))=fnW Hf (look [(143,Gs)]) Nw Try.f147 (g,l,()) P:=by kernel_rfl
theorem QI (n:Int) (P:List Int->Prop):(0=0/\0=([]:List Int).length/\Dt (λ(v2:Int×List Int×PUnit) (k3:Int×List Int×PUnit->Prop)=>Br (decide (v2.1<n)) (0=0/\v2.2.1.length=v2.2.1.length/\v2.2.1.length+(List.take 2 (List.drop 0 [IntKind.i64.wrap (v2.1+(1:Int)),IntKind.i64.wrap ((0:Int)-IntKind.i64.wrap (v2.1+(1:Int)))])).length<=Dd/\0=0/\(v2.2.1++List.take 2 (List.drop 0 [IntKind.i64.wrap (v2.1+(1:Int)),IntKind.i64.wrap ((0:Int)-IntKind.i64.wrap (v2.1+(1:Int)))])).length=(v2.2.1++List.take 2 (List.drop 0 [IntKind.i64.wrap (v2.1+(1:Int)),IntKind.i64.wrap ((0:Int)-IntKind.i64.wrap (v2.1+(1:Int)))])).length/\k3 (IntKind.i64.wrap (v2.1+(1:Int)),v2.2.1++List.take 2 (List.drop 0 [IntKind.i64.wrap (v2.1+(1:Int)),IntKind.i64.wrap ((0:Int)-IntKind.i64.wrap (v2.1+(1:Int)))]),())) (P (List.take v2.2.1.length (List.drop 0 v2.2.1)))) ((0:Int),[],PUnit.unit))=fnW Hf (look []) Mw Try.f121 (n,()) P:=by kernel_rfl
abbrev w7:Type:=Int×Int×ByteArray×List (List Int)×PUnit
theorem WO (p:Int×ByteArray×List (List Int)×Unit) (q:List Int) (l:Int) (P:Int->Prop):(∃(y4:List Int),Nw.fn (p.2.2.1,l,())=some y4/\ ∃(y5:List Int),Nk.fn (y4,q,())=some y5/\ ∃(y6:List Int),Mw.fn ((↑p.2.2.1.length:Int),())=some y6/\Dt (λ(v7:w7) (k8:w7->Prop)=>Br (decide (v7.1<(↑y6.length:Int))) (∃(y9:Int),idx y6 v7.1=some y9/\ ∃(Qq:List Int),Nw.fn (v7.2.2.2.1,y9,())=some Qq/\ ∃(Qv:Bool),Ft.fn (Qq,y5,())=some Qv/\Br Qv (P y9) (k8 (IntKind.i64.wrap (v7.1+(1:Int)),v7.2.1,v7.2.2.1,v7.2.2.2.1,()))) (P (0:Int))) ((0:Int),p.1,p.2.1,p.2.2.1,PUnit.unit))=fnW Hf (look [(68,Nk),(147,Nw),(121,Mw),(82,Ft)]) dg Try.f72 (p,q,l,()) P:=by kernel_rfl
abbrev jM:Type:=Int×Int×ByteArray×List (List Int)×PUnit
theorem yT (p:Int×ByteArray×List (List Int)×Unit) (x:List Int) (P:Int->Prop):(Dt (λ(v3:jM) (k4:jM->Prop)=>Br (decide (v3.1<=(↑v3.2.2.2.1.length:Int))) (∃(y5:List Int),idx v3.2.2.2.1 (IntKind.i64.wrap (v3.1-(1:Int)))=some y5/\ ∃(y6:Bool),Ft.fn (y5,x,())=some y6/\Br y6 (P v3.1) (∃(y7:List Int),idx v3.2.2.2.1 (IntKind.i64.wrap (v3.1-(1:Int)))=some y7/\ ∃(y8:List Int),Kf.fn (y7,())=some y8/\ ∃(y9:Bool),Ft.fn (y8,x,())=some y9/\Br y9 (P (IntKind.i64.wrap ((0:Int)-v3.1))) (k4 (IntKind.i64.wrap (v3.1+(1:Int)),v3.2.1,v3.2.2.1,v3.2.2.2.1,())))) (P (0:Int))) ((1:Int),p.1,p.2.1,p.2.2.1,PUnit.unit))=fnW Hf (look [(80,Ft),(187,Kf)]) Rv Try.f150 (p,x,()) P:=by kernel_rfl
theorem WK (p:Int×ByteArray×List (List Int)×Unit) (s:List Int) (l:Int) (P:List Int->Prop):(∃(y4:List Int),idx p.2.2.1 (IntKind.i64.wrap ((if true=true then if IntKind.i64.wrap ((0:Int)-l)>l then IntKind.i64.wrap ((0:Int)-l) else l else if IntKind.i64.wrap ((0:Int)-l)<l then IntKind.i64.wrap ((0:Int)-l) else l)-(1:Int)))=some y4/\Br (decide (l<(0:Int))) (∃(y5:List Int),Kf.fn (y4,())=some y5/\0=0/\0=([]:List Int).length/\Dt (λ(v6:Int×List Int×PUnit) (k7:Int×List Int×PUnit->Prop)=>Br (decide (v6.1<(↑s.length:Int))) (∃(y8:Int),idx s v6.1=some y8/\ ∃(y9:Int),idx y5 y8=some y9/\0=0/\v6.2.1.length=v6.2.1.length/\v6.2.1.length+(List.take 1 (List.drop 0 [y9])).length<=Dd/\0=0/\(v6.2.1++List.take 1 (List.drop 0 [y9])).length=(v6.2.1++List.take 1 (List.drop 0 [y9])).length/\k7 (IntKind.i64.wrap (v6.1+(1:Int)),v6.2.1++List.take 1 (List.drop 0 [y9]),())) (P (List.take v6.2.1.length (List.drop 0 v6.2.1)))) ((0:Int),[],PUnit.unit)) (0=0/\0=([]:List Int).length/\Dt (λ(v5:Int×List Int×PUnit) (k6:Int×List Int×PUnit->Prop)=>Br (decide (v5.1<(↑s.length:Int))) (∃(y7:Int),idx s v5.1=some y7/\ ∃(y8:Int),idx y4 y7=some y8/\0=0/\v5.2.1.length=v5.2.1.length/\v5.2.1.length+(List.take 1 (List.drop 0 [y8])).length<=Dd/\0=0/\(v5.2.1++List.take 1 (List.drop 0 [y8])).length=(v5.2.1++List.take 1 (List.drop 0 [y8])).length/\k6 (IntKind.i64.wrap (v5.1+(1:Int)),v5.2.1++List.take 1 (List.drop 0 [y8]),())) (P (List.take v5.2.1.length (List.drop 0 v5.2.1)))) ((0:Int),[],PUnit.unit)))=fnW Hf (look [(187,Kf)]) dd Try.f145 (p,s,l,()) P:=by kernel_rfl
abbrev jN:Type:=Int×Int×ByteArray×List (List Int)×PUnit
theorem yW (p:Int×ByteArray×List (List Int)×Unit) (q:List Int) (P:Bool->Prop):(Dt (λ(v3:jN) (k4:jN->Prop)=>Br (decide (v3.1<(↑v3.2.2.2.1.length:Int))) (∃(y5:List Int),idx v3.2.2.2.1 v3.1=some y5/\ ∃(y6:List Int),Lo.fn (q,y5,())=some y6/\ ∃(y7:Int),Rv.fn ((v3.2.1,v3.2.2.1,v3.2.2.2.1,()),y6,())=some y7/\Br (y7==(0:Int)) (P false) (k4 (IntKind.i64.wrap (v3.1+(1:Int)),v3.2.1,v3.2.2.1,v3.2.2.2.1,()))) (P true)) ((0:Int),p.1,p.2.1,p.2.2.1,PUnit.unit))=fnW Hf (look [(150,Rv),(87,Lo)]) Mg Try.f77 (p,q,()) P:=by kernel_rfl
abbrev jL:Type:=Int×Int×ByteArray×List (List Int)×PUnit
theorem yR (p:Int×ByteArray×List (List Int)×Unit) (q:List Int) (P:Bool->Prop):(Dt (λ(v3:jL) (k4:jL->Prop)=>Br (decide (v3.1<(↑p.2.2.1.length:Int))) (∃(y5:Int),dg.fn ((v3.2.1,v3.2.2.1,v3.2.2.2.1,()),q,IntKind.i64.wrap (v3.1+(1:Int)),())=some y5/\Br (y5==(0:Int)) (P false) (k4 (IntKind.i64.wrap (v3.1+(1:Int)),v3.2.1,v3.2.2.1,v3.2.2.2.1,()))) (P true)) ((0:Int),p.1,p.2.1,p.2.2.1,PUnit.unit))=fnW Hf (look [(72,dg)]) Mg Try.f79 (p,q,()) P:=by kernel_rfl
theorem EE (p:Int×ByteArray×List (List Int)×Unit) (q:List Int) (P:Bool->Prop):(∃(y3:Bool),Hc.fn ((p.1,p.2.1,p.2.2.1,()),())=some y3/\Br y3 (∃(y4:Bool),Ru.fn ((p.1,p.2.1,p.2.2.1,()),q,())=some y4/\Br y4 (∃(y5:Bool),Mg.fn ((p.1,p.2.1,p.2.2.1,()),q,())=some y5/\P y5) (P false)) (P false))=fnW Hf (look [(47,Hc),(73,Ru),(77,Mg)]) iS Try.f22 (p,q,()) P:=by kernel_rfl
theorem Ig {xs:List Int} {i:Nat} (h:i<xs.length):Hz xs (i:Int)=xs[i]:=by
 unfold Hz
 rw [As,Ah,Ab h];rfl
theorem lV {xs:List Int} {y:Int} (h0:0<=y) (h:y<xs.length):idx xs y=some (Hz xs y):=by
 have hy:y.toNat<xs.length:=by omega
 have e:y=(y.toNat:Int):=by omega
 rw [e,Df hy,Ig hy]
theorem Vb (f:Nat->Nat) (g:Nat->Int) (m:Nat) (init:List Int):Xz f g (m+1) init=(Xz f g m init).set (f m) (g m):=by simp [Xz,List.range_succ]
theorem Ua (f:Nat->Nat) (g:Nat->Int) (m:Nat) (init:List Int):(Xz f g m init).length=init.length:=by
 induction m with
 |zero=>rfl
 |succ m ih=>rw [Vb,Bt,ih]
theorem gq (f:Nat->Nat) (g:Nat->Int) (init:List Int): ∀(m:Nat),(∀i j,i<m->j<m->f i=f j->i=j)-> ∀i,i<m->f i<init.length->(Xz f g m init)[f i]?=some (g i)
 |0,_,i,h,_=>absurd h (Fa _)
 |m+1,hf,i,hi,hl=>by
  rw [Vb]
  by_cases e:i=m
  ·subst e
   exact Zh (by rw [Ua];exact hl)
  ·rw [List.getElem?_set_ne (λh=>e (hf i m hi (by omega) h.symm))]
   exact gq f g init m (λa b ha hb=>hf a b (by omega) (by omega)) i (by omega) hl
structure Yx (p:List Int):Prop where
 pos:1<=p.length
 len:p.length<=20
 row:Kb p.length p
 nodup:p.Nodup
theorem Ts {p:List Int} (h:It p=true):Yx p:=by
 obtain ⟨h1,h2,h3⟩:=Fp.1 h
 refine ⟨h1,h2,λy hy=>?_,gL λj hj=>(h3 j hj hj).2.2⟩
 obtain ⟨j,hj,rfl⟩:=Bx.1 hy
 have:=h3 j hj hj
 omega
theorem Yx.inj {p:List Int} (h:Yx p) (i j:Nat) (hi:i<p.length) (hj:j<p.length) (e:(Hz p (i:Int)).toNat=(Hz p (j:Int)).toNat):i=j:=by
 rw [Ig hi,Ig hj] at e
 have h1:=h.row _ (Al hi)
 have h2:=h.row _ (Al hj)
 have e:p[i]=p[j]:=by omega
 refine Bf λHq=>?_
 rcases Nat.lt_or_gt_of_ne Hq with hl|hl
 ·exact De.1 h.nodup i j hi hj hl e
 ·exact De.1 h.nodup j i hj hi hl e.symm
theorem Yx.HL {p:List Int} (h:Yx p) (k:Nat) (hk:k<p.length): ∃i,i<p.length/\(Hz p (i:Int)).toNat=k:=by
 have hm:=(c7 (xs:=p) h.row).2 (sL h.nodup) k hk
 obtain ⟨i,hi,e⟩:=Bx.1 hm
 exact ⟨i,hi,by rw [Ig hi,e];exact As k⟩
theorem Yx.lt {p:List Int} (h:Yx p) {i:Nat} (hi:i<p.length):(Hz p (i:Int)).toNat<p.length:=by
 rw [Ig hi]
 have:=h.row _ (Al hi)
 omega
theorem Yb (p:List Int):(Bc p).length=p.length:=by unfold Bc;rw [Ua,Eh]
theorem GQ {p:List Int} (h:Yx p) {i:Nat} (hi:i<p.length):(Bc p)[(Hz p (i:Int)).toNat]?=some (i:Int):=
 gq (λi=>(Hz p (i:Int)).toNat) (λi=>(i:Int)) _ p.length (λi j hi hj=>h.inj i j hi hj) i hi (by rw [Eh];exact h.lt hi)
theorem pP {p:List Int} (h:Yx p):Kb p.length (Bc p):=by
 intro y hy
 obtain ⟨k,hk,rfl⟩:=Bx.1 hy
 have oq:k<p.length:=by rw [Yb] at hk;exact hk
 obtain ⟨i,hi,rfl⟩:=h.HL k oq
 have:=GQ h hi
 rw [Ab hk] at this
 rw [Ax this]
 omega
theorem Na (p q:List Int):(Aj p q).length=p.length:=by simp [Aj]
theorem bx {p q:List Int} {n:Nat} (hp:Kb q.length p) (hq:Kb n q):Kb n (Aj p q):=by
 intro y hy
 obtain ⟨x,hx,rfl⟩:=Be.1 hy
 have h1:=hp x hx
 rw [show x=(x.toNat:Int) by omega,Ig (by omega)]
 exact hq _ (Al _)
theorem uU (q s:List Int):(Kd q s).length=s.length:=by unfold Kd;rw [Ua,Eh]
theorem qp {q s:List Int} (hq:Yx q) (hl:s.length=q.length):Bq s q=Kd q s:=by
 have Py:(Bq s q).length=q.length:=by simp only [Bq,Na,Yb]
 refine List.ext_getElem (by rw [Py,uU,hl]) λk h1 h2=>?_
 have hk:k<q.length:=by rw [Py] at h1;exact h1
 obtain ⟨i,hi,e⟩:=hq.HL k hk
 have e1:=gq (λi=>(Hz q (i:Int)).toNat) (λi=>Hz q (Hz s (i:Int))) (List.replicate s.length 0) s.length (λi j hi hj=>hq.inj i j (by omega) (by omega)) i (by omega) (by rw [Eh,hl];exact hq.lt hi)
 have e2:=GQ hq hi
 rw [e] at e2
 simp only [e] at e1
 have e1:(Kd q s)[k]?=some (Hz q (Hz s (i:Int))):=e1
 rw [Ab h2] at e1
 rw [Ax e1]
 rw [Ab (by rw [Yb];exact hk)] at e2
 simp only [Bq,Aj,List.getElem_map]
 rw [Ax e2]
theorem tM (p q:List Int) (h:p.length<=20/\Kb q.length p):fnW Hf (look []) Qf Try.f142 (p,q,()) (λ(z:List Int)=>z=Aj p q):=by
 obtain ⟨h,hr⟩:=h
 refine Eq.mp (ui p q _) ?_
 refine ⟨⟨by omega,by show (p.length:Int)<(4294967296:Int)+1;omega⟩,rfl,rfl,rfl,?_⟩
 have Py:=Na p q
 refine Ci p.length (λv=>v.1) (λj v=>v.2.1.length=(Aj p q).length/\v.2.1.take j=(Aj p q).take j) rfl ⟨by rw [Py];simp,by simp⟩ ?_
 rintro j ⟨i,ys,⟨⟩⟩ K hj hi ⟨h1,h2⟩ hK
 dsimp only at hi h1 h2⊢
 subst hi
 refine Br.dec (λhl=>?_) λhl=>?_
 ·have hl:j<p.length:=by omega
  have hy:=hr _ (Al hl)
  refine ⟨_,Df hl,_,lV hy.1 hy.2,⟨by omega,by omega⟩,by rw [As];omega,rfl,by rw [Bt],?_⟩
  rw [Cg (by omega),As,Cj]
  have Ll:j<(Aj p q).length:=by rw [Py];exact hl
  have e:Hz q p[j]=(Aj p q)[j]:=by simp [Aj]
  rw [e]
  exact hK hl _ rfl ⟨by rw [Bt];exact h1,jR Ll h1 h2⟩
 ·have:j=p.length:=by omega
  subst this
  rw [<-Py,Bb,<-h1,Bb] at h2
  rw [Du,Bb]
  exact h2
theorem Qo:Sound Try.prog 142 Qf:=
 Sound.Hv Fh Cm mixed Try.func142 (by kernel_rfl) (by kernel_rfl) λx h=>tM x.1 x.2.1 h
theorem tN (p:List Int) (h:p.length<=20/\Kb p.length p):fnW Hf (look []) Gs Try.f143 (p,()) (λ(z:List Int)=>z=Bc p):=by
 obtain ⟨h,hr⟩:=h
 refine Eq.mp (uj p _) ?_
 refine ⟨⟨by omega,by show (p.length:Int)<(4294967296:Int)+1;omega⟩,rfl,rfl,rfl,?_⟩
 refine Ci p.length (λv=>v.1) (λj v=>v.2.1=Xz (λi=>(Hz p (i:Int)).toNat) (λi=>(i:Int)) j (List.replicate p.length 0)) rfl rfl ?_
 rintro j ⟨i,ys,⟨⟩⟩ K hj hi h1 hK
 dsimp only at hi h1⊢
 subst hi
 have hlen:ys.length=p.length:=by rw [h1,Ua,Eh]
 refine Br.dec (λhl=>?_) λhl=>?_
 ·have hl:j<p.length:=by omega
  have hy:=hr _ (Al hl)
  refine ⟨_,Df hl,⟨by omega,by omega⟩,by omega,rfl,by rw [Bt],?_⟩
  rw [Cg (by omega),Cj]
  refine hK hl _ rfl ?_
  rw [Vb,<-h1,Ig hl]
 ·have:j=p.length:=by omega
  subst this
  rw [Du,Bb]
  exact h1
theorem Qp:Sound Try.prog 143 Gs:=
 Sound.Hv Fh Cm mixed Try.func143 (by kernel_rfl) (by kernel_rfl) λx h=>tN x.1 h
theorem OQ (p:List Int) (h:p.length<=20/\Kb p.length p):fnW Hf (look []) Gs Try.f190 (p,()) (λ(z:List Int)=>z=Bc p):=by
 obtain ⟨h,hr⟩:=h
 refine Eq.mp (QM p _) ?_
 refine ⟨⟨by omega,by show (p.length:Int)<(4294967296:Int)+1;omega⟩,rfl,rfl,rfl,?_⟩
 refine Ci p.length (λv=>v.1) (λj v=>v.2.1=Xz (λi=>(Hz p (i:Int)).toNat) (λi=>(i:Int)) j (List.replicate p.length 0)) rfl rfl ?_
 rintro j ⟨i,ys,⟨⟩⟩ K hj hi h1 hK
 dsimp only at hi h1⊢
 subst hi
 have hlen:ys.length=p.length:=by rw [h1,Ua,Eh]
 refine Br.dec (λhl=>?_) λhl=>?_
 ·have hl:j<p.length:=by omega
  have hy:=hr _ (Al hl)
  refine ⟨_,Df hl,⟨by omega,by omega⟩,by omega,rfl,by rw [Bt],?_⟩
  rw [Cg (by omega),Cj]
  refine hK hl _ rfl ?_
  rw [Vb,<-h1,Ig hl]
 ·have:j=p.length:=by omega
  subst this
  rw [Du,Bb]
  exact h1
theorem u9:Sound Try.prog 190 Gs:=
 Sound.Hv Fh Cm mixed Try.func190 (by kernel_rfl) (by kernel_rfl) λx h=>OQ x.1 h
theorem tQ (p:List Int) (h:It p=true):fnW Hf (look [(169,Jq),(190,Gs)]) Kf Try.f187 (p,()) (λ(z:List Int)=>z=Bc p):=by
 have hp:=Ts h
 have hs:short p:=by have:=hp.len;unfold short;omega
 refine Eq.mp (um p _) ⟨_,Ac hs,⟨λhe=>?_,λ_=>⟨_,Ac ⟨hp.len,hp.row⟩,rfl⟩⟩⟩
 exact absurd h (Lw he)
theorem bU:Sound Try.prog 187 Kf:=
 Sound.Hv Fh (Bh Xp (Bh u9 Cm)) mixed Try.func187 (by kernel_rfl) (by kernel_rfl) λx h=>tQ x.1 h
theorem xx (q s:List Int) (h:s.length<=20/\q.length=s.length/\Kb q.length q/\Kb q.length s):fnW Hf (look []) Lo Try.f87 (q,s,()) (λ(z:List Int)=>z=Kd q s):=by
 obtain ⟨h,hq,hr,XK⟩:=h
 refine Eq.mp (yO q s _) ?_
 refine ⟨⟨by omega,by show (s.length:Int)<(4294967296:Int)+1;omega⟩,rfl,rfl,rfl,?_⟩
 refine Ci s.length (λv=>v.1) (λj v=>v.2.1=Xz (λi=>(Hz q (i:Int)).toNat) (λi=>Hz q (Hz s (i:Int))) j (List.replicate s.length 0)) rfl rfl ?_
 rintro j ⟨i,ys,⟨⟩⟩ K hj hi h1 hK
 dsimp only at hi h1⊢
 subst hi
 have hlen:ys.length=s.length:=by rw [h1,Ua,Eh]
 refine Br.dec (λhl=>?_) λhl=>?_
 ·have hl:j<s.length:=by omega
  have hlq:j<q.length:=by omega
  have hy:=hr _ (Al hlq)
  have hy2:=XK _ (Al hl)
  refine ⟨_,Df hlq,_,Df hl,_,lV hy2.1 hy2.2,⟨by omega,by omega⟩,by omega,rfl,by rw [Bt],?_⟩
  rw [Cg (by omega),Cj]
  refine hK hl _ rfl ?_
  rw [Vb,<-h1,Ig hlq,Ig hl]
 ·have:j=s.length:=by omega
  subst this
  rw [Du,Bb]
  exact h1
theorem dm:Sound Try.prog 87 Lo:=
 Sound.Hv Fh Cm mixed Try.func87 (by kernel_rfl) (by kernel_rfl) λx h=>xx x.1 x.2.1 h
theorem BV (p q:List Int) (h:p.length=q.length/\Kb p.length p/\It q=true):fnW Hf (look [(143,Gs),(142,Qf)]) Nk Try.f68 (p,q,()) (λ(z:List Int)=>z=Bq p q):=by
 obtain ⟨hl,hr,hq⟩:=h
 have hq:=Ts hq
 have h20:=hq.len
 refine Eq.mp (DV p q _) ⟨_,Ac ⟨hq.len,hq.row⟩,_,Ac ⟨by show (Bc q).length<=20;rw [Yb];exact h20,?_⟩,_,Ac ⟨?_,?_⟩,rfl⟩
 ·show Kb p.length (Bc q)
  rw [hl];exact pP hq
 ·show (Aj (Bc q) p).length<=20
  rw [Na,Yb];exact h20
 ·show Kb q.length (Aj (Bc q) p)
  exact bx (by rw [hl];exact pP hq) (by rw [<-hl];exact hr)
theorem fj:Sound Try.prog 68 Nk:=
 Sound.Hv Fh (Bh Qp (Bh Qo Cm)) mixed Try.func68 (by kernel_rfl) (by kernel_rfl) λx h=>BV x.1 x.2.1 h
theorem Un (j:Nat):upto (j+1)=upto j++ [(j:Int)]:=by simp [upto,List.range_succ]
theorem HP (n:Int) (h:0<=n/\n<=20):fnW Hf (look []) Ep Try.f66 (n,()) (λ(z:List Int)=>z=upto n.toNat):=by
 refine Eq.mp (JL n _) ⟨rfl,rfl,?_⟩
 refine Ci n.toNat (λv=>v.1) (λj v=>v.2.1=upto j) rfl rfl ?_
 rintro j ⟨i,ys,⟨⟩⟩ K hj hi h1 hK
 dsimp only at hi h1⊢
 subst hi h1
 refine Br.dec (λhl=>?_) λhl=>?_
 ·refine ⟨rfl,rfl,?_,rfl,rfl,?_⟩
  ·show (upto j).length+1<=4294967296
   rw [Iv];omega
  ·rw [Cg (by omega)]
   exact hK (by omega) _ rfl (Un j).symm
 ·have:j=n.toNat:=by omega
  subst this
  rw [Du,Bb]
theorem sl:Sound Try.prog 66 Ep:=
 Sound.Hv Fh Cm mixed Try.func66 (by kernel_rfl) (by kernel_rfl) λx h=>HP x.1 h
theorem Jf {g:List (List Int)} {k:Nat} (h:k<g.length):Av g ((k:Int)+1)=g[k]:=by
 unfold Av
 rw [Ac (by omega),show ((k:Int)+1-1).toNat=k by omega,Ah,Ab h];rfl
theorem Kw {g:List (List Int)} {k:Nat} (h:k<g.length):Av g (-((k:Int)+1))=Bc g[k]:=by
 unfold Av
 rw [Ai (by omega),show (-(-((k:Int)+1))-1).toNat=k by omega,Ah,Ab h];rfl
theorem Nh {n:Nat} {l:Int} (h:Jp n l): ∃k:Nat,k<n/\(l=(k:Int)+1\/l= -((k:Int)+1)):=by
 obtain ⟨h1,h2,h3⟩:=h
 by_cases h0:0<l
 ·exact ⟨(l-1).toNat,by omega, .inl (by omega)⟩
 ·exact ⟨(-l-1).toNat,by omega, .inr (by omega)⟩
theorem HQ (g:List (List Int)) (l:Int) (h:Jp (List.length g) l/\List.length g<=8/\ ∀p∈g,It p=true):fnW Hf (look [(143,Gs)]) Nw Try.f147 (g,l,()) (λ(z:List Int)=>z=Av g l):=by
 obtain ⟨hl,h8,hp⟩:=h
 refine Eq.mp (JM g l _) ?_
 obtain ⟨k,hk,rfl|rfl⟩:=Nh hl
 ·refine Br.dec (λ_=>?_) λhn=>by omega
  rw [Dh (by omega) (by omega),show (k:Int)+1-1=(k:Int) by omega]
  exact ⟨_,Df hk,(Jf hk).symm⟩
 ·refine Br.dec (λhn=>by omega) λ_=>?_
  rw [Dh (n:=0- -((k:Int)+1)) (by omega) (by omega),Dh (by omega) (by omega),show (0:Int)- -((k:Int)+1)-1=(k:Int) by omega]
  have:=Ts (hp _ (Al hk))
  exact ⟨_,Df hk,_,Ac ⟨this.len,this.row⟩,(Kw hk).symm⟩
theorem ie:Sound Try.prog 147 Nw:=
 Sound.Hv Fh (Bh Qp Cm) mixed Try.func147 (by kernel_rfl) (by kernel_rfl) λx h=>HQ x.1 x.2.1 h
theorem aW (j:Nat):Bm (j+1)=Bm j++ [(j:Int)+1,-((j:Int)+1)]:=by simp [Bm,List.range_succ,List.flatMap_append]
theorem Qc (j:Nat):(Bm j).length=2*j:=by
 induction j with
 |zero=>rfl
 |succ j ih=>rw [aW,Au,ih];simp only [Aw,Ho];omega
theorem Gw {n:Nat} {l:Int} (h:l∈Bm n):Jp n l:=by
 unfold Bm at h
 obtain ⟨k,hk,hl⟩:=Ey.1 h
 have hk:=Ej.1 hk
 simp only [Ay,List.not_mem_nil,or_false] at hl
 unfold Jp
 omega
theorem OM (n:Int) (h:0<=n/\n<=8):fnW Hf (look []) Mw Try.f121 (n,()) (λ(z:List Int)=>z=Bm n.toNat):=by
 refine Eq.mp (QI n _) ⟨rfl,rfl,?_⟩
 refine Ci n.toNat (λv=>v.1) (λj v=>v.2.1=Bm j) rfl rfl ?_
 rintro j ⟨i,ys,⟨⟩⟩ K hj hi h1 hK
 dsimp only at hi h1⊢
 subst hi h1
 refine Br.dec (λhl=>?_) λhl=>?_
 ·refine ⟨rfl,rfl,?_,rfl,rfl,?_⟩
  ·show (Bm j).length+2<=4294967296
   rw [Qc];omega
  ·have e1:IntKind.i64.wrap ((j:Int)+1)=(j:Int)+1:=Dh (by omega) (by omega)
   have e2:IntKind.i64.wrap ((0:Int)-((j:Int)+1))= -((j:Int)+1):=by rw [Dh (by omega) (by omega)];omega
   rw [e1,e2]
   exact hK (by omega) _ rfl (aW j).symm
 ·have:j=n.toNat:=by omega
  subst this
  rw [Du,Bb]
theorem cp:Sound Try.prog 121 Mw:=
 Sound.Hv Fh Cm mixed Try.func121 (by kernel_rfl) (by kernel_rfl) λx h=>OM x.1 h
theorem zR (g:List (List Int)) (x:List Int): ∀(c k:Nat),k+c=g.length->Oi g x ((List.range' k c).flatMap λ(k:Nat)=> [(k:Int)+1,-((k:Int)+1)])=NV x (g.drop k) ((k:Int)+1)
 |0,k,h=>by
  have:k=g.length:=by omega
  subst this
  rw [Ot];rfl
 |c+1,k,h=>by
  have hk:k<g.length:=by omega
  rw [List.range'_succ,Kr,Bz hk]
  simp only [Jy,No,Oi,NV]
  rw [Jf hk,Kw hk,zR g x c (k+1) (by omega)]
  rfl
theorem jr (g:List (List Int)) (x:List Int):Oi g x (Bm g.length)=Hr g x:=by
 unfold Bm Hr
 rw [List.range_eq_range',zR g x g.length 0 (by omega)]
 rfl
structure Valid (p:PP):Prop where
 n:1<=p.1/\p.1<=20
 pF:1<=p.2.2.1.length/\p.2.2.1.length<=8
 perm: ∀m∈p.2.2.1,It m=true
 len: ∀m∈p.2.2.1,(m.length:Int)=p.1
theorem valid {p:PP} (h:Bi p=true):Valid p:=by
 have h0:=kY h
 obtain ⟨h1,_,_⟩:=Fp.1 h
 obtain ⟨_,_,h4⟩:=Fp.1 h1
 exact ⟨⟨h0.1,h0.2.1⟩,h0.2.2,λm hm=>(Fp.1 (h4 m hm)).2,λm hm=>(Fp.1 (h4 m hm)).1⟩
theorem cW {p:PP} (h:Valid p) {l:Int} (hl:Jp (List.length p.2.2.1) l):((Av p.2.2.1 l).length:Int)=p.1/\Kb (Av p.2.2.1 l).length (Av p.2.2.1 l):=by
 obtain ⟨k,hk,rfl|rfl⟩:=Nh hl
 ·rw [Jf hk]
  exact ⟨h.len _ (Al hk),(Ts (h.perm _ (Al hk))).row⟩
 ·rw [Kw hk,Yb]
  exact ⟨h.len _ (Al hk),pP (Ts (h.perm _ (Al hk)))⟩
theorem US (p:PP) (q:List Int) (l:Int) (h:Bi p=true/\En p.1 q=true/\Jp (List.length p.2.2.1) l):fnW Hf (look [(68,Nk),(147,Nw),(121,Mw),(82,Ft)]) dg Try.f72 (p,q,l,()) (λ(z:Int)=>z=Nj p q l):=by
 obtain ⟨hv,hq,hl⟩:=h
 have hv:=valid hv
 obtain ⟨hq1,hq2⟩:=Fp.1 hq
 obtain ⟨KT,z7⟩:=cW hv hl
 have hf:=hv.pF
 have hn:=hv.n
 refine Eq.mp (WO p q l _) ⟨_,Ac ⟨hl,hf.2,hv.perm⟩,_,Ac ⟨by show (Av p.2.2.1 l).length=q.length;omega,z7,hq2⟩,Bm p.2.2.1.length,Ac ⟨Int.natCast_nonneg _,by show ((p.2.2.1.length:Nat):Int)<=8;omega⟩,?_⟩
 have hL:=Qc p.2.2.1.length
 have hF:Oi p.2.2.1 (Bq (Av p.2.2.1 l) q) (Bm p.2.2.1.length)=Nj p q l:=jr _ _
 refine Ci (Bm p.2.2.1.length).length (λv=>v.1) (λj v=>v.2=(p.1,p.2.1,p.2.2.1,())/\Oi p.2.2.1 (Bq (Av p.2.2.1 l) q) ((Bm p.2.2.1.length).drop j)=Nj p q l) rfl ⟨rfl,by rw [Du];exact hF⟩ ?_
 rintro j ⟨i,v⟩ K hj hi ⟨lU,hR⟩ hK
 dsimp only at hi lU⊢
 subst hi lU
 dsimp only
 refine Br.dec (λJl=>?_) λJl=>?_
 ·have Jl:j<(Bm p.2.2.1.length).length:=by omega
  have hlj:=Gw (Al Jl)
  have hs:=cW hv hlj
  rw [Bz Jl] at hR
  simp only [Oi] at hR
  refine ⟨_,Df Jl,_,Ac ⟨hlj,hf.2,hv.perm⟩,_,Ac (by show short (Av p.2.2.1 (Bm p.2.2.1.length)[j]);unfold short;have:=hs.1;omega),⟨λhe=>?_,λhe=>?_⟩⟩
  ·have he:decide (Av p.2.2.1 (Bm p.2.2.1.length)[j]=Bq (Av p.2.2.1 l) q)=true:=he
   rw [Ac (Ex he)] at hR
   exact hR
  ·have he:decide (Av p.2.2.1 (Bm p.2.2.1.length)[j]=Bq (Av p.2.2.1 l) q)=false:=he
   rw [Ai (of_decide_eq_false he)] at hR
   rw [Cg (by omega)]
   exact hK Jl _ rfl ⟨rfl,hR⟩
 ·have:j=(Bm p.2.2.1.length).length:=by omega
  subst this
  rw [Ot] at hR
  exact hR
theorem yi:Sound Try.prog 72 dg:=
 Sound.Hv Fh (Bh fj (Bh ie (Bh cp (Bh bT Cm)))) mixed Try.func72 (by kernel_rfl) (by kernel_rfl) λx h=>US x.1 x.2.1 x.2.2.1 h
theorem xC (p:PP) (x:List Int) (h:Bi p=true/\short x):fnW Hf (look [(80,Ft),(187,Kf)]) Rv Try.f150 (p,x,()) (λ(z:Int)=>z=Hr p.2.2.1 x):=by
 obtain ⟨hv,hx⟩:=h
 have hv:=valid hv
 have hf:=hv.pF
 have hn:=hv.n
 refine Eq.mp (yT p x _) ?_
 refine Ci p.2.2.1.length (λv=>v.1-1) (λj v=>v.2=(p.1,p.2.1,p.2.2.1,())/\NV x (p.2.2.1.drop j) ((j:Int)+1)=Hr p.2.2.1 x) rfl ⟨rfl,rfl⟩ ?_
 rintro j ⟨i,v⟩ K hj hi ⟨lU,hR⟩ hK
 dsimp only at hi lU⊢
 subst lU
 obtain rfl:i=(j:Int)+1:=by omega
 dsimp only
 refine Br.dec (λhl=>?_) λhl=>?_
 ·have hl:j<p.2.2.1.length:=by omega
  have hm:=hv.perm _ (Al hl)
  have hlen:=hv.len _ (Al hl)
  rw [Bz hl] at hR
  simp only [NV] at hR
  rw [Dh (n:=(j:Int)+1-1) (by omega) (by omega),show (j:Int)+1-1=(j:Int) by omega]
  refine ⟨_,Df hl,_,Ac (by show short p.2.2.1[j];unfold short;omega),⟨λhe=>?_,λhe=>⟨_,Df hl,_,Ac hm,_,Ac (by show short (Bc p.2.2.1[j]);unfold short;rw [Yb];omega),⟨λKP=>?_,λKP=>?_⟩⟩⟩⟩
  ·have he:decide (p.2.2.1[j]=x)=true:=he
   rw [Ac (Ex he)] at hR
   exact hR
  ·have he:decide (p.2.2.1[j]=x)=false:=he
   have KP:decide (Bc p.2.2.1[j]=x)=true:=KP
   rw [Ai (of_decide_eq_false he),Ac (Ex KP)] at hR
   rw [Dh (by omega) (by omega),<-hR]
   omega
  ·have he:decide (p.2.2.1[j]=x)=false:=he
   have KP:decide (Bc p.2.2.1[j]=x)=false:=KP
   rw [Ai (of_decide_eq_false he),Ai (of_decide_eq_false KP)] at hR
   rw [Dh (by omega) (by omega)]
   exact hK hl _ (by dsimp only;omega) ⟨rfl,by push_cast;exact hR⟩
 ·have:j=p.2.2.1.length:=by omega
  subst this
  rw [Ot] at hR
  exact hR
theorem nP:Sound Try.prog 150 Rv:=
 Sound.Hv Fh (Bh fk (Bh bU Cm)) mixed Try.func150 (by kernel_rfl) (by kernel_rfl) λx h=>xC x.1 x.2.1 h
theorem xA (p:PP) (q:List Int) (h:Bi p=true/\En p.1 q=true):fnW Hf (look [(72,dg)]) Mg Try.f79 (p,q,()) (λ(z:Bool)=>z=Jo p q):=by
 have hv:=valid h.1
 have hf:=hv.pF
 refine Eq.mp (yR p q _) ?_
 refine Ci p.2.2.1.length (λv=>v.1) (λj v=>v.2=(p.1,p.2.1,p.2.2.1,())/\ ∀k:Nat,k<j->Nj p q ((k:Int)+1)≠0) rfl ⟨rfl,λk hk=>absurd hk (Fa _)⟩ ?_
 rintro j ⟨i,v⟩ K hj hi ⟨lU,hR⟩ hK
 dsimp only at hi lU⊢
 subst hi lU
 dsimp only
 refine Br.dec (λhl=>?_) λhl=>?_
 ·have hl:j<p.2.2.1.length:=by omega
  have e1:IntKind.i64.wrap ((j:Int)+1)=(j:Int)+1:=Dh (by omega) (by omega)
  rw [e1]
  refine ⟨_,Ac ⟨h.1,h.2,by dsimp only;omega,by dsimp only;omega,by dsimp only;omega⟩,⟨λhe=>?_,λhe=>?_⟩⟩
  ·have he:(Nj p q ((j:Int)+1)==0)=true:=he
   exact Ee λhh=>hh j hl (beq_iff_eq.1 he)
  ·have he:(Nj p q ((j:Int)+1)==0)=false:=he
   refine hK hl _ rfl ⟨rfl,λk hk=>?_⟩
   by_cases e:k=j
   ·subst e;exact Qt.1 he
   ·exact hR k (by omega)
 ·have:j=p.2.2.1.length:=by omega
  subst this
  exact Po hR
theorem nO:Sound Try.prog 79 Mg:=
 Sound.Hv Fh (Bh yi Cm) mixed Try.func79 (by kernel_rfl) (by kernel_rfl) λx h=>xA x.1 x.2.1 h
theorem xF (p:PP) (q:List Int) (h:Bi p=true/\En p.1 q=true):fnW Hf (look [(150,Rv),(87,Lo)]) Mg Try.f77 (p,q,()) (λ(z:Bool)=>z=Jo p q):=by
 have hv:=valid h.1
 have hf:=hv.pF
 have hn:=hv.n
 obtain ⟨hq1,hq2⟩:=Fp.1 h.2
 have hq:=Ts hq2
 refine Eq.mp (yW p q _) ?_
 refine Ci p.2.2.1.length (λv=>v.1) (λj v=>v.2=(p.1,p.2.1,p.2.2.1,())/\ ∀k:Nat,k<j->Nj p q ((k:Int)+1)≠0) rfl ⟨rfl,λk hk=>absurd hk (Fa _)⟩ ?_
 rintro j ⟨i,v⟩ K hj hi ⟨lU,hR⟩ hK
 dsimp only at hi lU⊢
 subst hi lU
 dsimp only
 refine Br.dec (λhl=>?_) λhl=>?_
 ·have hl:j<p.2.2.1.length:=by omega
  have hm:=Ts (hv.perm _ (Al hl))
  have hlen:=hv.len _ (Al hl)
  have e:p.2.2.1[j].length=q.length:=by omega
  have hI:Hr p.2.2.1 (Kd q p.2.2.1[j])=Nj p q ((j:Int)+1):=by
   unfold Nj
   rw [Jf hl,qp hq e]
  refine ⟨_,Df hl,_,Ac ⟨hm.len,e.symm,hq.row,by rw [<-e];exact hm.row⟩,_,Ac ⟨h.1,by show short (Kd q p.2.2.1[j]);unfold short;rw [uU];omega⟩,⟨λhe=>?_,λhe=>?_⟩⟩
  ·have he:(Hr p.2.2.1 (Kd q p.2.2.1[j])==0)=true:=he
   rw [hI] at he
   exact Ee λhh=>hh j hl (beq_iff_eq.1 he)
  ·have he:(Hr p.2.2.1 (Kd q p.2.2.1[j])==0)=false:=he
   rw [hI] at he
   rw [Cg (by omega)]
   refine hK hl _ rfl ⟨rfl,λk hk=>?_⟩
   by_cases e:k=j
   ·subst e;exact Qt.1 he
   ·exact hR k (by omega)
 ·have:j=p.2.2.1.length:=by omega
  subst this
  exact Po hR
theorem dq:Sound Try.prog 77 Mg:=
 Sound.Hv Fh (Bh nP (Bh dm Cm)) mixed Try.func77 (by kernel_rfl) (by kernel_rfl) λx h=>xF x.1 x.2.1 h
theorem CE (p:PP) (q:List Int) (h:Lp p/\short q):fnW Hf (look [(47,Hc),(73,Ru),(77,Mg)]) iS Try.f22 (p,q,()) (λ(z:Bool)=>z=bI p q):=by
 refine Eq.mp (EE p q _) ⟨_,Ac h.1,⟨λh1=>⟨_,Ac h,⟨λh2=>?_,λh2=>?_⟩⟩,λh1=>?_⟩⟩
 ·have h1:Bi p=true:=h1
  have h2:(Bi p&&En p.1 q)=true:=h2
  have h3:En p.1 q=true:=by rw [h1,fG] at h2;exact h2
  refine ⟨_,Ac ⟨h1,h3⟩,?_⟩
  show Jo p q=bI p q
  unfold bI
  rw [h2,fG]
 ·have h2:(Bi p&&En p.1 q)=false:=h2
  unfold bI
  rw [h2,Bool.false_and]
 ·have h1:Bi p=false:=h1
  unfold bI
  rw [h1,Bool.false_and,Bool.false_and]
theorem py:Sound Try.prog 22 iS:=
 Sound.Hv Fh (Bh Rz (Bh bV (Bh dq Cm))) mixed Try.func22 (by kernel_rfl) (by kernel_rfl) λx h=>CE x.1 x.2.1 h
theorem PV {p:PP} {q:List Int} (h:bI p q=true):Bi p=true/\En p.1 q=true:=by
 unfold bI at h
 exact Db.1 (Db.1 h).1
theorem zj (s y:List Int) (P:List Int->Prop) (h1:s.length<=20) (h2:Kb y.length s) (h3:P (Aj s y)):
  Dt
   (λ(v5:Int×List Int×PUnit) (k6:Int×List Int×PUnit->Prop)=>
    Br (decide (v5.1<(↑s.length:Int)))
     (∃(y7:Int),
      idx s v5.1=some y7/\
       ∃(y8:Int),
        idx y y7=some y8/\
         (0:Nat)=(0:Nat)/\
          v5.2.1.length=v5.2.1.length/\
           v5.2.1.length+(List.take (1:Nat) (List.drop (0:Nat) [y8])).length<=Dd/\
            (0:Nat)=(0:Nat)/\
             (v5.2.1++List.take (1:Nat) (List.drop (0:Nat) [y8])).length=(v5.2.1++List.take (1:Nat) (List.drop (0:Nat) [y8])).length/\
              k6 (IntKind.i64.wrap (v5.1+(1:Int)),v5.2.1++List.take (1:Nat) (List.drop (0:Nat) [y8]),()))
     (P (List.take v5.2.1.length (List.drop (0:Nat) v5.2.1))))
   ((0:Int),([]:List Int),PUnit.unit):=by
 refine Ci s.length (λv=>v.1) (λj v=>v.2.1=(s.take j).map (Hz y)) rfl (by simp) ?_
 rintro j ⟨i,ys,⟨⟩⟩ K hj hi hR hK
 dsimp only at hi hR⊢
 subst hi hR
 refine Br.dec (λhl=>?_) λhl=>?_
 ·have hl:j<s.length:=by omega
  have hy:=h2 _ (Al hl)
  refine ⟨_,Df hl,_,lV hy.1 hy.2,rfl,rfl,?_,rfl,rfl,?_⟩
  ·show ((s.take j).map (Hz y)).length+1<=4294967296
   rw [Hm,Cs];omega
  ·rw [Cg (by omega)]
   refine hK hl _ rfl ?_
   dsimp only
   rw [Fm hl,Nn]
   rfl
 ·have:j=s.length:=by omega
  subst this
  rw [Du,Bb,Bb]
  exact h3
theorem UO (p:PP) (s:List Int) (l:Int) (h:Bi p=true/\List.length s<=20/\(∀y∈s,0<=y/\y<p.1)/\Jp (List.length p.2.2.1) l):fnW Hf (look [(187,Kf)]) dd Try.f145 (p,s,l,()) (λ(z:List Int)=>z=Aj s (Av p.2.2.1 l)):=by
 obtain ⟨hv,hs,hr,hl⟩:=h
 have hv:=valid hv
 have hf:=hv.pF
 refine Eq.mp (WK p s l _) ?_
 have SX:=cW hv hl
 have Wx:Kb (Av p.2.2.1 l).length s:= λy hy=>by have:=hr y hy;omega
 obtain ⟨k,hk,rfl|rfl⟩:=Nh hl
 ·rw [Ac rfl,Dh (n:=0-((k:Int)+1)) (by omega) (by omega),Ai (by omega),Dh (by omega) (by omega),show (k:Int)+1-1=(k:Int) by omega]
  refine ⟨_,Df hk,Br.dec (λhn=>by omega) λ_=>⟨rfl,rfl,?_⟩⟩
  rw [Jf hk] at Wx⊢
  exact zj s _ (λz=>z=Aj s p.2.2.1[k]) hs Wx rfl
 ·rw [Ac rfl,Dh (n:=0- -((k:Int)+1)) (by omega) (by omega),Ac (by omega),Dh (by omega) (by omega),show (0:Int)- -((k:Int)+1)-1=(k:Int) by omega]
  refine ⟨_,Df hk,Br.dec (λ_=>⟨_,Ac (hv.perm _ (Al hk)),rfl,rfl,?_⟩) λhn=>by omega⟩
  rw [Kw hk] at Wx⊢
  exact zj s (Bc p.2.2.1[k]) (λz=>z=Aj s (Bc p.2.2.1[k])) hs Wx rfl
theorem yc:Sound Try.prog 145 dd:=
 Sound.Hv Fh (Bh bU Cm) mixed Try.func145 (by kernel_rfl) (by kernel_rfl) λx h=>UO x.1 x.2.1 x.2.2.1 h
abbrev rL:CK:= .row tI 2
abbrev xLL:CK:= .Gz tL 31
def low (k:Int):Prop:=0<=k/\k<=1099511627776
theorem Dl {α:Type} (xs:List α):List.take xs.length (List.drop 0 xs)=xs:=by rw [Du,Bb]
def small (xs:List Int):Prop:=1<=xs.length/\short xs/\ ∀x∈xs,0<=x/\x<=3000
noncomputable def Ok (p:PP) (q s:List Int):Bool:=bI p q&&En p.1 s
noncomputable def Ph (p:PP) (q s:List Int):List Int:=if Ok p q s=true then Bq s q else []
noncomputable abbrev Jv:Spec:=Hv (.pair Kg (.pair tL (.pair tL .unit))) (.pair tL (.pair .bool .unit)) true true (λx=>Lp x.1/\short x.2.1/\short x.2.2.1) (λx=>(Ph x.1 x.2.1 x.2.2.1,Ok x.1 x.2.1 x.2.2.1,()))
theorem nW (p:Int×ByteArray×List (List Int)×Unit) (q s:List Int) (P:(List Int×Bool×Unit)->Prop):(∃(y4:Bool),iS.fn ((p.1,p.2.1,p.2.2.1,()),q,())=some y4/\Br (!y4) (P (List.take 0 (List.drop 0 []),false,())) (∃(y5:Bool),Ru.fn ((p.1,p.2.1,p.2.2.1,()),s,())=some y5/\Br (!y5) (P (List.take 0 (List.drop 0 []),false,())) (∃(y6:List Int),Lo.fn (q,s,())=some y6/\P (y6,true,()))))=fnW Hf (look [(22,iS),(73,Ru),(87,Lo)]) Jv Try.f30 (p,q,s,()) P:=by kernel_rfl
theorem yr {p:PP} {q s:List Int} (h1:bI p q=true) (h2:En p.1 s=true):s.length=q.length/\Kb s.length s/\It q=true:=by
 obtain ⟨h3,h4⟩:=Fp.1 (PV h1).2
 obtain ⟨h5,h6⟩:=Fp.1 h2
 exact ⟨by omega,(Ts h6).row,h4⟩
theorem nC (p:PP) (q s:List Int) (h:Lp p/\short q/\short s):fnW Hf (look [(22,iS),(73,Ru),(87,Lo)]) Jv Try.f30 (p,q,s,()) (λ(z:List Int×Bool×Unit)=>z=(Ph p q s,Ok p q s,())):=by
 refine Eq.mp (nW p q s _) ⟨_,Ac ⟨h.1,h.2.1⟩,⟨λhn=>?_,λhn=>⟨_,Ac ⟨h.1,h.2.2⟩,⟨λhm=>?_,λhm=>?_⟩⟩⟩⟩
 ·have hn:bI p q=false:=Bool.eq_false_iff.2 (Lw hn)
  have e:Ok p q s=false:=by unfold Ok;rw [hn];rfl
  unfold Ph;rw [e];rfl
 ·have hn:bI p q=true:=Jr hn
  have hv:Bi p=true:=by unfold bI at hn;simp only [Ag] at hn;exact hn.1.1
  have hm:(Bi p&&En p.1 s)=false:=Bool.eq_false_iff.2 (Lw hm)
  rw [hv,fG] at hm
  have e:Ok p q s=false:=by unfold Ok;rw [hm,Bool.and_false]
  unfold Ph;rw [e];rfl
 ·have hn:bI p q=true:=Jr hn
  have hm:(Bi p&&En p.1 s)=true:=Jr hm
  simp only [Ag] at hm
  have e:Ok p q s=true:=by unfold Ok;rw [hn,hm.2];rfl
  obtain ⟨e1,e2,e3⟩:=yr hn hm.2
  have hq:=Ts e3
  refine ⟨_,Ac ⟨by show s.length<=20;rw [e1];exact hq.len,e1.symm,hq.row,by show Kb q.length s;rw [<-e1];exact e2⟩,?_⟩
  unfold Ph;rw [e,Ac rfl,qp hq e1]
theorem ig:Sound Try.prog 30 Jv:=
 Sound.Hv Fh (Bh py (Bh bV (Bh dm Cm))) mixed Try.func30 (by kernel_rfl) (by kernel_rfl) λx h=>nC x.1 x.2.1 x.2.2.1 h
noncomputable abbrev s9:MSpec:=fb [none] [(false, .Hx (.oslice tI))] false [none] [rL] (λx=>short (x.1.getD [])) (λx=>((x.1.getD [],()),()))
noncomputable abbrev mr:MSpec:=fb [none] [(false, .Hx tL)] false [none] [rL] (λx=>short x.1) (λx=>((x.1,()),()))
noncomputable abbrev La:Spec:=Hv (.pair tL .unit) tL false true (λx=>short x.1) (λx=>x.1)
theorem WM (xs:Option (List Int)) (P:((List Int×Unit)×Unit)->Prop):(Br xs.isNone (P ((List.take 0 (List.drop 0 []),()),())) (0=0/\0=([]:List Int).length/\0+(xs.getD []).length<=Dd/\P ((List.take ([]++xs.getD []).length (List.drop 0 ([]++xs.getD [])),()),())))=fnMW Vy (look []) s9 Try.f90 (xs,()) P:=by kernel_rfl
theorem JK (xs:List Int) (P:List Int->Prop):(0=0/\0=([]:List Int).length/\0+xs.length<=Dd/\P (List.take ([]++xs).length (List.drop 0 ([]++xs))))=fnW Hf (look []) La Try.f86 (xs,()) P:=by kernel_rfl
theorem UQ (xs:Option (List Int)) (h:short (xs.getD [])):fnMW Vy (look []) s9 Try.f90 (xs,()) (λ(z:(List Int×Unit)×Unit)=>z=((xs.getD [],()),())):=by
 unfold short at h
 refine Eq.mp (WM xs _) ⟨λhn=>?_,λ_=>⟨rfl,rfl,by show 0+(xs.getD []).length<=4294967296;omega,?_⟩⟩
 ·cases xs with
  |none=>rfl
  |some y=>cases hn
 ·simp only [Dl,No]
theorem yf:Da Try.prog 90 s9:=
 Da.fb Sq Cm mixed Try.func90 (by kernel_rfl) (by kernel_rfl) λx h=>UQ x.1 h
theorem ye:Da Try.prog 90 mr:=Da.ofO yf λ_ _ h=>⟨h,rfl⟩
theorem HO (xs:List Int) (h:short xs):fnW Hf (look []) La Try.f86 (xs,()) (λ(z:List Int)=>z=xs):=by
 unfold short at h
 refine Eq.mp (JK xs _) ⟨rfl,rfl,by show 0+xs.length<=4294967296;omega,?_⟩
 simp only [Dl,No]
theorem bf:Sound Try.prog 86 La:=
 Sound.Hv Fh Cm mixed Try.func86 (by kernel_rfl) (by kernel_rfl) λx h=>HO x.1 h
def Ud (xs:List Int):ByteArray:=bytesOf (xs.map λx=>IntKind.u8.wrap x)
noncomputable abbrev Jw:Spec:=Hv (.pair tL .unit) .str false true (λx=>short x.1) (λx=>Ud x.1)
def mi (ps:List (List Int)) (p:List Int):Int:=Ld (λq=>decide (q=p)) ps 0
theorem JS (xs:List Int) (P:ByteArray->Prop):(((0:Int)<=(↑xs.length:Int)/\(↑xs.length:Int)<(↑Dd:Int)+(1:Int))/\(↑xs.length:Int)=(↑xs.length:Int)/\0=0/\(List.replicate (↑xs.length:Int).toNat (Int.ofNat (nat_lit 0))).length=(List.replicate (↑xs.length:Int).toNat (Int.ofNat (nat_lit 0))).length/\Dt (λ(v2:Int×List Int×PUnit) (k3:Int×List Int×PUnit->Prop)=>Br (decide (v2.1<(↑xs.length:Int))) (∃(y4:Int),idx xs v2.1=some y4/\((0:Int)<=v2.1/\v2.1<(↑v2.2.1.length:Int))/\0+v2.1.toNat<v2.2.1.length/\0=0/\v2.2.1.length=(v2.2.1.set (0+v2.1.toNat) (IntKind.u8.wrap y4)).length/\k3 (IntKind.i64.wrap (v2.1+(1:Int)),v2.2.1.set (0+v2.1.toNat) (IntKind.u8.wrap y4),())) (P (bytesOf (List.take v2.2.1.length (List.drop 0 v2.2.1))))) ((0:Int),List.replicate (↑xs.length:Int).toNat (Int.ofNat (nat_lit 0)),PUnit.unit))=fnW Hf (look []) Jw Try.f107 (xs,()) P:=by kernel_rfl
theorem HW (xs:List Int) (h:short xs):fnW Hf (look []) Jw Try.f107 (xs,()) (λ(z:ByteArray)=>z=Ud xs):=by
 unfold short at h
 refine Eq.mp (JS xs _) ?_
 refine ⟨⟨by omega,by show (xs.length:Int)<(4294967296:Int)+1;omega⟩,rfl,rfl,rfl,?_⟩
 have Py:(xs.map λx=>IntKind.u8.wrap x).length=xs.length:=by simp
 refine Ci xs.length (λv=>v.1) (λj v=>v.2.1.length=(xs.map λx=>IntKind.u8.wrap x).length/\v.2.1.take j=(xs.map λx=>IntKind.u8.wrap x).take j) rfl ⟨by rw [Py];simp,by simp⟩ ?_
 rintro j ⟨i,ys,⟨⟩⟩ K hj hi ⟨h1,h2⟩ hK
 dsimp only at hi h1 h2⊢
 subst hi
 refine Br.dec (λhl=>?_) λhl=>?_
 ·have hl:j<xs.length:=by omega
  refine ⟨_,Df hl,⟨by omega,by omega⟩,by rw [As];omega,rfl,by rw [Bt],?_⟩
  rw [Cg (by omega),As,Cj]
  have Ll:j<(xs.map λx=>IntKind.u8.wrap x).length:=by rw [Py];exact hl
  have e:IntKind.u8.wrap xs[j]=(xs.map λx=>IntKind.u8.wrap x)[j]:=by simp
  rw [e]
  exact hK hl _ rfl ⟨by rw [Bt];exact h1,jR Ll h1 h2⟩
 ·have:j=xs.length:=by omega
  subst this
  rw [<-Py,Bb,<-h1,Bb] at h2
  rw [Du,Bb,h2];rfl
theorem sv:Sound Try.prog 107 Jw:=
 Sound.Hv Fh Cm mixed Try.func107 (by kernel_rfl) (by kernel_rfl) λx h=>HW x.1 h
theorem eZ {α:Type} (P:α->Bool) (y:α): ∀(l:List α) (i:Int),0<=i->Ld P (l++ [y]) i=if Ld P l i<0 then (if P y=true then i+l.length else-1) else Ld P l i
 | [],i,_=>by simp [Ld]
 |x::r,i,h=>by
  simp only [Jy,Ld,Aw]
  split
  ·rw [Ai (by omega)]
  ·rw [eZ P y r (i+1) (by omega),show i+1+(r.length:Int)=i+((r.length+1:Nat):Int) by push_cast;omega]
theorem xJ (ps:List (List Int)) (q p:List Int):mi (ps++ [q]) p=if mi ps p<0 then (if q=p then (ps.length:Int) else-1) else mi ps p:=by
 unfold mi
 rw [eZ _ _ _ _ (cy 0)]
 simp only [Mu,Int.zero_add]
def aG (p:List Int):Prop:= ∀x∈p,0<=x/\x<256
theorem RR {x y:Int} (hx:0<=x/\x<256) (hy:0<=y/\y<256) (h:UInt8.ofNat (IntKind.u8.wrap x).toNat=UInt8.ofNat (IntKind.u8.wrap y).toNat):x=y:=by
 have h:=Ma UInt8.toNat h
 simp only [IntKind.wrap_u8,UInt8.toNat_ofNat'] at h
 omega
theorem bytes_inj: ∀(p q:List Int),aG p->aG q->(p.map λx=>UInt8.ofNat (IntKind.u8.wrap x).toNat)=(q.map λx=>UInt8.ofNat (IntKind.u8.wrap x).toNat)->p=q
 | [],[],_,_,_=>rfl
 | [],_::_,_,_,h=>by simp at h
 |_::_,[],_,_,h=>by simp at h
 |x::p,y::q,hp,hq,h=>by
  simp only [Bk,Ge] at h
  rw [RR (hp x (by simp)) (hq y (by simp)) h.1,bytes_inj p q (λz hz=>hp z (by simp [hz])) (λz hz=>hq z (by simp [hz])) h.2]
theorem key_inj {p q:List Int} (hp:aG p) (hq:aG q) (h:Ud p=Ud q):p=q:=by
 refine bytes_inj p q hp hq ?_
 simp only [Ud,bytesOf,ByteArray.mk.injEq,List.map_map] at h
 have h:=Ma Array.toList h
 simpa [Function.comp_def] using h
def KM (m:ByteArray->Option Int) (ps:List (List Int)):Prop:= ∀p,aG p->m (Ud p)=if mi ps p<0 then none else some (mi ps p)
theorem KM.nil:KM (λ_=>none) []:= λp _=>by
 rw [Ac (by unfold mi;simp [Ld])]
theorem KM.add {m:ByteArray->Option Int} {ps:List (List Int)} {q:List Int} (h:KM m ps) (hq:aG q) (hn:mi ps q<0):KM (eI m (Ud q) (ps.length:Int)) (ps++ [q]):=by
 intro p hp
 rw [xJ]
 unfold eI
 by_cases e:p=q
 ·subst e
  rw [Ac rfl,Ac hn,Ac rfl,Ai (by omega)]
 ·rw [Ai (λhk=>e (key_inj hp hq hk)),h p hp]
  have e': ¬q=p:= λh=>e h.symm
  rw [Ai e']
  by_cases NH:mi ps p<0
  ·rw [Ac NH,Ac NH,Ac (by decide)]
  ·rw [Ai NH,Ai NH,Ai NH]
noncomputable abbrev Ul:Spec:=Hv (.pair Kg .unit) tL false true (λx=>List.length x.1.2.2.1<=8) (λx=>Bm (List.length x.1.2.2.1))
abbrev mE:Type:=Int×Int×ByteArray×List (List Int)×List Int×PUnit
theorem EC (p:Int×ByteArray×List (List Int)×Unit) (P:List Int->Prop):(0=0/\0=([]:List Int).length/\Dt (λ(v2:mE) (k3:mE->Prop)=>Br (decide (v2.1<=(↑v2.2.2.2.1.length:Int))) (0=0/\v2.2.2.2.2.1.length=v2.2.2.2.2.1.length/\v2.2.2.2.2.1.length+(List.take 2 (List.drop 0 [v2.1,IntKind.i64.wrap ((0:Int)-v2.1)])).length<=Dd/\0=0/\(v2.2.2.2.2.1++List.take 2 (List.drop 0 [v2.1,IntKind.i64.wrap ((0:Int)-v2.1)])).length=(v2.2.2.2.2.1++List.take 2 (List.drop 0 [v2.1,IntKind.i64.wrap ((0:Int)-v2.1)])).length/\k3 (IntKind.i64.wrap (v2.1+(1:Int)),v2.2.1,v2.2.2.1,v2.2.2.2.1,v2.2.2.2.2.1++List.take 2 (List.drop 0 [v2.1,IntKind.i64.wrap ((0:Int)-v2.1)]),())) (P (List.take v2.2.2.2.2.1.length (List.drop 0 v2.2.2.2.2.1)))) ((1:Int),p.1,p.2.1,p.2.2.1,[],PUnit.unit))=fnW Hf (look []) Ul Try.f144 (p,()) P:=by kernel_rfl
theorem CC (p:PP) (h:List.length p.2.2.1<=8):fnW Hf (look []) Ul Try.f144 (p,()) (λ(z:List Int)=>z=Bm (List.length p.2.2.1)):=by
 refine Eq.mp (EC p _) ⟨rfl,rfl,?_⟩
 refine Dt.mk (λv=> ∃j:Nat,j<=List.length p.2.2.1/\v=((j:Int)+1,p.1,p.2.1,p.2.2.1,Bm j,())) (λv=>List.length p.2.2.1+1-v.1.toNat) ⟨0,Iz _,rfl⟩ ?_
 rintro _ ⟨j,hj,rfl⟩
 dsimp only
 refine Br.dec (λhl=>?_) λhl=>?_
 ·refine ⟨rfl,rfl,?_,rfl,rfl,⟨j+1,by omega,?_⟩,?_⟩
  ·show (Bm j).length+2<=4294967296
   rw [Qc];omega
  ·rw [aW,Dh (n:=(j:Int)+1+1) (by omega) (by omega),Dh (n:=0-((j:Int)+1)) (by omega) (by omega),Int.zero_sub]
   rfl
  ·rw [Dh (by omega) (by omega)];omega
 ·have:j=List.length p.2.2.1:=by omega
  subst this
  rw [Dl]
theorem pw:Sound Try.prog 144 Ul:=
 Sound.Hv Fh Cm mixed Try.func144 (by kernel_rfl) (by kernel_rfl) λx h=>CC x.1 h
abbrev rLL:CK:= .row tL 31
def aU (v:Int):List Int->Nat
 | []=>0
 |x::r=>if x>v then aU v r+1 else 0
def mb (v:Int) (t:List Int):Option (List Int):=if aU v t=0 then none else some (Hz t ((aU v t-1:Nat):Int)::(t.set (aU v t-1) v).reverse)
def Kx:List Int->Option (List Int)
 | []=>none
 |v::t=>match Kx t with
  |some t'=>some (v::t')
  |none=>mb v t
def oM (xs:List Int) (o n i k:Nat):Option Int:=if o<=k/\k<o+n/\(k<o+i\/o+n<=k+i) then xs[o+n-1-(k-o)]? else xs[k]?
def fa (xs:List Int) (o n:Nat):List Int:=List.take o xs++(List.take n (List.drop o xs)).reverse++List.drop (o+n) xs
noncomputable abbrev Xm:MSpec:=fb [none] [(true, .part tI 2)] false [] [] (λx=>short x.1.1/\x.1.2.1+x.1.2.2<=List.length x.1.1) (λx=>((),(fa x.1.1 x.1.2.1 x.1.2.2,())))
noncomputable abbrev Rj:MSpec:=fb [none] [(true,rL)] false [none] [.Hx .bool] (λx=>1<=List.length x.1/\List.length x.1<=20/\List.Nodup (x.1:List Int)) (λx=>(((Kx x.1).isSome,()),((Kx x.1).getD x.1,())))
noncomputable abbrev Uj:MSpec:=fb [none] [(false, .Hx tI)] false [none] [rL] (λx=>0<=x.1/\x.1<=20) (λx=>((upto x.1.toNat,()),()))
def lex:Nat->List Int->List (List Int)
 |0,_=> [[]]
 |k+1,R=>R.flatMap λv=>(lex k (R.erase v)).map (v:: ·)
def kR (n:Nat) (l:List Int):List Int:=(upto n).filter λv=>!l.contains v
noncomputable def Cz (p:PP):List (List Int):=(lex p.1.toNat (upto p.1.toNat)).filter (Jo p)
def Si (n:Nat) (l:List Int):List (List Int):=(lex (n-l.length) (kR n l)).map (l++ ·)
noncomputable def jE (p:PP) (l:List Int) (out:List (List Int)):List (List Int):=out++(Si p.1.toNat l).filter (Jo p)
noncomputable abbrev Xo:MSpec:=fb [some 3] [(false, .Hx tI),(false, .Hx .str),(false, .Hx pR)] false [none] [xLL] (λx=>Bi (x.1,x.2.1,x.2.2.1,())=true/\x.1<=7) (λx=>((Cz (x.1,x.2.1,x.2.2.1,()),()),()))
noncomputable abbrev Sm (m:Nat):MSpec:=fb [some 3,none,none] [(false, .Hx tI),(false, .Hx .str),(false, .Hx pR),(false, .Hx tL),(false,rLL)] false [none] [rLL]
 (λx=>(Bi (x.1,x.2.1,x.2.2.1,())=true/\x.1<=7/\List.Nodup (x.2.2.2.1:List Int)/\Kb x.1.toNat x.2.2.2.1/\List.length x.2.2.2.1<=x.1.toNat/\List.length x.2.2.2.2.1+(Si x.1.toNat x.2.2.2.1).length<=6000)/\x.1.toNat-List.length x.2.2.2.1<m)
 (λx=>((jE (x.1,x.2.1,x.2.2.1,()) x.2.2.2.1 x.2.2.2.2.1,()),()))
noncomputable abbrev Kp:MSpec:=fb [none] [(false, .Hx tL)] false [none] [rL] (λx=>short x.1) (λx=>((x.1,()),()))
theorem DW (xs:List Int) (P:((List Int×Unit)×Unit)->Prop):(0=0/\0=([]:List Int).length/\0+xs.length<=Dd/\P ((List.take ([]++xs).length (List.drop 0 ([]++xs)),()),()))=fnMW Vy (look []) Kp Try.f86 (xs,()) P:=by kernel_rfl
theorem QK (a:List Int×Nat×Nat) (P:(Unit×List Int×Unit)->Prop):(a.2.1=a.2.1/\a.2.2=a.2.2/\Dt (λ(v2:Int×Int×List Int×PUnit) (k3:Int×Int×List Int×PUnit->Prop)=>Br (decide (v2.1<v2.2.1)) (((0:Int)<=v2.2.1/\v2.2.1<(↑a.2.2:Int))/\ ∃(y4:Int),v2.2.2.1[a.2.1+v2.2.1.toNat]?=some y4/\((0:Int)<=v2.1/\v2.1<(↑a.2.2:Int))/\ ∃(y5:Int),v2.2.2.1[a.2.1+v2.1.toNat]?=some y5/\((0:Int)<=v2.1/\v2.1<(↑a.2.2:Int))/\a.2.1+v2.1.toNat<v2.2.2.1.length/\((0:Int)<=v2.2.1/\v2.2.1<(↑a.2.2:Int))/\a.2.1+v2.2.1.toNat<(v2.2.2.1.set (a.2.1+v2.1.toNat) y4).length/\a.2.1=a.2.1/\a.2.2=a.2.2/\k3 (IntKind.i64.wrap (v2.1+(1:Int)),IntKind.i64.wrap (v2.2.1-(1:Int)),(v2.2.2.1.set (a.2.1+v2.1.toNat) y4).set (a.2.1+v2.2.1.toNat) y5,())) (P ((),v2.2.2.1,()))) ((0:Int),IntKind.i64.wrap ((↑a.2.2:Int)-(1:Int)),a.1,PUnit.unit))=fnMW Aeo (look []) Xm Try.f186 (a,()) P:=by kernel_rfl
theorem JO (xs:List Int) (P:((Bool×Unit)×List Int×Unit)->Prop):(0=0/\xs.length=xs.length/\Dt (λ(v2:Int×List Int×PUnit) (k3:Int×List Int×PUnit->Prop)=>Br (decide (v2.1>=(0:Int))) (((0:Int)<=v2.1/\v2.1<(↑v2.2.1.length:Int))/\ ∃(y4:Int),v2.2.1[0+v2.1.toNat]?=some y4/\((0:Int)<=IntKind.i64.wrap (v2.1+(1:Int))/\IntKind.i64.wrap (v2.1+(1:Int))<(↑v2.2.1.length:Int))/\ ∃(y5:Int),v2.2.1[0+(IntKind.i64.wrap (v2.1+(1:Int))).toNat]?=some y5/\Br (decide (y4>y5)) (0=0/\v2.2.1.length=v2.2.1.length/\k3 (IntKind.i64.wrap (v2.1-(1:Int)),v2.2.1,())) (Br (decide (v2.1<(0:Int))) (P ((false,()),v2.2.1,())) (0=0/\v2.2.1.length=v2.2.1.length/\Dt (λ(v6:Int×List Int×PUnit) (k7:Int×List Int×PUnit->Prop)=>((0:Int)<=v6.1/\v6.1<(↑v6.2.1.length:Int))/\ ∃(y8:Int),v6.2.1[0+v6.1.toNat]?=some y8/\((0:Int)<=v2.1/\v2.1<(↑v6.2.1.length:Int))/\ ∃(y9:Int),v6.2.1[0+v2.1.toNat]?=some y9/\Br (decide (y8<y9)) (0=0/\v6.2.1.length=v6.2.1.length/\k7 (IntKind.i64.wrap (v6.1-(1:Int)),v6.2.1,())) (((0:Int)<=v6.1/\v6.1<(↑v6.2.1.length:Int))/\ ∃(Qq:Int),v6.2.1[0+v6.1.toNat]?=some Qq/\((0:Int)<=v2.1/\v2.1<(↑v6.2.1.length:Int))/\ ∃(Qv:Int),v6.2.1[0+v2.1.toNat]?=some Qv/\((0:Int)<=v2.1/\v2.1<(↑v6.2.1.length:Int))/\0+v2.1.toNat<v6.2.1.length/\((0:Int)<=v6.1/\v6.1<(↑v6.2.1.length:Int))/\0+v6.1.toNat<(v6.2.1.set (0+v2.1.toNat) Qq).length/\((0:Int)<=IntKind.i64.wrap (v2.1+(1:Int))/\IntKind.i64.wrap (v2.1+(1:Int))<=(↑v6.2.1.length:Int)/\(↑v6.2.1.length:Int)<=(↑v6.2.1.length:Int))/\ ∃(sP:PUnit×List Int×PUnit),Xm.fn (((v6.2.1.set (0+v2.1.toNat) Qq).set (0+v6.1.toNat) Qv,0+(IntKind.i64.wrap (v2.1+(1:Int))).toNat,(↑v6.2.1.length:Int).toNat-(IntKind.i64.wrap (v2.1+(1:Int))).toNat),())=some sP/\sP.2.1.length=((v6.2.1.set (0+v2.1.toNat) Qq).set (0+v6.1.toNat) Qv).length/\P ((true,()),sP.2.1,()))) (IntKind.i64.wrap ((↑v2.2.1.length:Int)-(1:Int)),v2.2.1,PUnit.unit)))) (Br (decide (v2.1<(0:Int))) (P ((false,()),v2.2.1,())) (0=0/\v2.2.1.length=v2.2.1.length/\Dt (λ(v4:Int×List Int×PUnit) (k5:Int×List Int×PUnit->Prop)=>((0:Int)<=v4.1/\v4.1<(↑v4.2.1.length:Int))/\ ∃(y6:Int),v4.2.1[0+v4.1.toNat]?=some y6/\((0:Int)<=v2.1/\v2.1<(↑v4.2.1.length:Int))/\ ∃(y7:Int),v4.2.1[0+v2.1.toNat]?=some y7/\Br (decide (y6<y7)) (0=0/\v4.2.1.length=v4.2.1.length/\k5 (IntKind.i64.wrap (v4.1-(1:Int)),v4.2.1,())) (((0:Int)<=v4.1/\v4.1<(↑v4.2.1.length:Int))/\ ∃(y8:Int),v4.2.1[0+v4.1.toNat]?=some y8/\((0:Int)<=v2.1/\v2.1<(↑v4.2.1.length:Int))/\ ∃(y9:Int),v4.2.1[0+v2.1.toNat]?=some y9/\((0:Int)<=v2.1/\v2.1<(↑v4.2.1.length:Int))/\0+v2.1.toNat<v4.2.1.length/\((0:Int)<=v4.1/\v4.1<(↑v4.2.1.length:Int))/\0+v4.1.toNat<(v4.2.1.set (0+v2.1.toNat) y8).length/\((0:Int)<=IntKind.i64.wrap (v2.1+(1:Int))/\IntKind.i64.wrap (v2.1+(1:Int))<=(↑v4.2.1.length:Int)/\(↑v4.2.1.length:Int)<=(↑v4.2.1.length:Int))/\ ∃(Qq:PUnit×List Int×PUnit),Xm.fn (((v4.2.1.set (0+v2.1.toNat) y8).set (0+v4.1.toNat) y9,0+(IntKind.i64.wrap (v2.1+(1:Int))).toNat,(↑v4.2.1.length:Int).toNat-(IntKind.i64.wrap (v2.1+(1:Int))).toNat),())=some Qq/\Qq.2.1.length=((v4.2.1.set (0+v2.1.toNat) y8).set (0+v4.1.toNat) y9).length/\P ((true,()),Qq.2.1,()))) (IntKind.i64.wrap ((↑v2.2.1.length:Int)-(1:Int)),v2.2.1,PUnit.unit)))) (IntKind.i64.wrap ((↑xs.length:Int)-(2:Int)),xs,PUnit.unit))=fnMW Vy (look [(186,Xm)]) Rj Try.f139 (xs,()) P:=by kernel_rfl
theorem DZ (n:Int) (P:((List Int×Unit)×Unit)->Prop):(((0:Int)<=n/\n<(↑Dd:Int)+(1:Int))/\n=n/\0=0/\(List.replicate n.toNat (Int.ofNat (nat_lit 0))).length=(List.replicate n.toNat (Int.ofNat (nat_lit 0))).length/\Dt (λ(v2:Int×List Int×PUnit) (k3:Int×List Int×PUnit->Prop)=>Br (decide (v2.1<(↑(List.replicate n.toNat (Int.ofNat (nat_lit 0))).length:Int))) (((0:Int)<=v2.1/\v2.1<(↑v2.2.1.length:Int))/\0+v2.1.toNat<v2.2.1.length/\0=0/\v2.2.1.length=(v2.2.1.set (0+v2.1.toNat) v2.1).length/\k3 (IntKind.i64.wrap (v2.1+(1:Int)),v2.2.1.set (0+v2.1.toNat) v2.1,())) (P ((List.take v2.2.1.length (List.drop 0 v2.2.1),()),()))) ((0:Int),List.replicate n.toNat (Int.ofNat (nat_lit 0)),PUnit.unit))=fnMW Vy (look []) Uj Try.f120 (n,()) P:=by kernel_rfl
abbrev oT:Type:=Int×ByteArray×List (List Int)×List (List Int)×List Int×PUnit
theorem JT (n:Int) (str:ByteArray) (g:List (List Int)) (P:((List (List Int)×Unit)×Unit)->Prop):(∃(y4:(List Int×PUnit)×PUnit),Uj.fn (n,())=some y4/\0=0/\0=([]:List Int).length/\0=0/\y4.1.1.length=y4.1.1.length/\Dt (λ(v5:oT) (k6:oT->Prop)=> ∃(y7:Bool),Mg.fn ((v5.1,v5.2.1,v5.2.2.1,()),List.take v5.2.2.2.2.1.length (List.drop 0 v5.2.2.2.2.1),())=some y7/\Br y7 (∃(y8:(List Int×PUnit)×PUnit),mr.fn (List.take v5.2.2.2.2.1.length (List.drop 0 v5.2.2.2.2.1),())=some y8/\0=0/\v5.2.2.2.1.length=v5.2.2.2.1.length/\v5.2.2.2.1.length+(List.take 1 (List.drop 0 [List.take y8.1.1.length (List.drop 0 y8.1.1)])).length<=Dd/\0=0/\v5.2.2.2.2.1.length=v5.2.2.2.2.1.length/\ ∃(y9:(Bool×PUnit)×List Int×PUnit),Rj.fn (v5.2.2.2.2.1,())=some y9/\(y9.2.1.length=v5.2.2.2.2.1.length/\v5.2.2.2.2.1.length=v5.2.2.2.2.1.length)/\Br (!y9.1.1) (P ((List.take (v5.2.2.2.1++List.take 1 (List.drop 0 [List.take y8.1.1.length (List.drop 0 y8.1.1)])).length (List.drop 0 (v5.2.2.2.1++List.take 1 (List.drop 0 [List.take y8.1.1.length (List.drop 0 y8.1.1)]))),()),())) (0=0/\(v5.2.2.2.1++List.take 1 (List.drop 0 [List.take y8.1.1.length (List.drop 0 y8.1.1)])).length=(v5.2.2.2.1++List.take 1 (List.drop 0 [List.take y8.1.1.length (List.drop 0 y8.1.1)])).length/\0=0/\v5.2.2.2.2.1.length=y9.2.1.length/\k6 (v5.1,v5.2.1,v5.2.2.1,v5.2.2.2.1++List.take 1 (List.drop 0 [List.take y8.1.1.length (List.drop 0 y8.1.1)]),y9.2.1,()))) (0=0/\v5.2.2.2.2.1.length=v5.2.2.2.2.1.length/\ ∃(y8:(Bool×PUnit)×List Int×PUnit),Rj.fn (v5.2.2.2.2.1,())=some y8/\(y8.2.1.length=v5.2.2.2.2.1.length/\v5.2.2.2.2.1.length=v5.2.2.2.2.1.length)/\Br (!y8.1.1) (P ((List.take v5.2.2.2.1.length (List.drop 0 v5.2.2.2.1),()),())) (0=0/\v5.2.2.2.1.length=v5.2.2.2.1.length/\0=0/\v5.2.2.2.2.1.length=y8.2.1.length/\k6 (v5.1,v5.2.1,v5.2.2.1,v5.2.2.2.1,y8.2.1,())))) (n,str,g,[],y4.1.1,PUnit.unit))=fnMW Vy (look [(120,Uj),(79,Mg),(90,mr),(139,Rj)]) Xo Try.f64 (n,str,g,()) P:=by kernel_rfl
abbrev MA:Type:=Int×Int×ByteArray×List (List Int)×List (List Int)×PUnit
theorem Aes {m:Nat} (n:Int) (str:ByteArray) (g:List (List Int)) (l:List Int) (out:List (List Int)) (P:((List (List Int)×Unit)×Unit)->Prop):(Br ((↑l.length:Int)==n) (∃(y7:Bool),Mg.fn ((n,str,g,()),l,())=some y7/\Br y7 (∃(y8:(List Int×PUnit)×PUnit),Kp.fn (l,())=some y8/\0=0/\out.length=out.length/\out.length+(List.take 1 (List.drop 0 [List.take y8.1.1.length (List.drop 0 y8.1.1)])).length<=Dd/\P ((List.take (out++List.take 1 (List.drop 0 [List.take y8.1.1.length (List.drop 0 y8.1.1)])).length (List.drop 0 (out++List.take 1 (List.drop 0 [List.take y8.1.1.length (List.drop 0 y8.1.1)]))),()),())) (P ((List.take out.length (List.drop 0 out),()),()))) (0=0/\out.length=out.length/\Dt (λ(v7:MA) (k8:MA->Prop)=>Br (decide (v7.1<v7.2.1)) (∃(y9:Bool),Ke.fn (l,v7.1,())=some y9/\Br (!y9) (((∃(Qq:(List Int×PUnit)×PUnit),Kp.fn (l,())=some Qq/\0=0/\Qq.1.1.length=Qq.1.1.length/\Qq.1.1.length+(List.take 1 (List.drop 0 [v7.1])).length<=Dd/\0=0/\v7.2.2.2.2.1.length=v7.2.2.2.2.1.length/\ ∃(Qv:(List (List Int)×PUnit)×PUnit),(Sm m).fn (v7.2.1,v7.2.2.1,v7.2.2.2.1,List.take (Qq.1.1++List.take 1 (List.drop 0 [v7.1])).length (List.drop 0 (Qq.1.1++List.take 1 (List.drop 0 [v7.1]))),v7.2.2.2.2.1,())=some Qv/\0=0/\Qv.1.1.length=Qv.1.1.length/\k8 (IntKind.i64.wrap (v7.1+(1:Int)),v7.2.1,v7.2.2.1,v7.2.2.2.1,Qv.1.1,()))/\ ∃(Qq:(List Int×PUnit)×PUnit),Kp.fn (l,())=some Qq/\0=0/\Qq.1.1.length=Qq.1.1.length/\Qq.1.1.length+(List.take 1 (List.drop 0 [v7.1])).length<=Dd/\0=0/\v7.2.2.2.2.1.length=v7.2.2.2.2.1.length/\ ∃(Qv:(List (List Int)×PUnit)×PUnit),(Sm m).fn (v7.2.1,v7.2.2.1,v7.2.2.2.1,List.take (Qq.1.1++List.take 1 (List.drop 0 [v7.1])).length (List.drop 0 (Qq.1.1++List.take 1 (List.drop 0 [v7.1]))),v7.2.2.2.2.1,())=some Qv/\0=0/\Qv.1.1.length=Qv.1.1.length/\k8 (IntKind.i64.wrap (v7.1+(1:Int)),v7.2.1,v7.2.2.1,v7.2.2.2.1,Qv.1.1,()))/\(∃(Qq:(List Int×PUnit)×PUnit),Kp.fn (l,())=some Qq/\(0=0/\Qq.1.1.length=Qq.1.1.length/\Qq.1.1.length+(List.take 1 (List.drop 0 [v7.1])).length<=Dd/\0=0/\v7.2.2.2.2.1.length=v7.2.2.2.2.1.length/\ ∃(Qv:(List (List Int)×PUnit)×PUnit),(Sm m).fn (v7.2.1,v7.2.2.1,v7.2.2.2.1,List.take (Qq.1.1++List.take 1 (List.drop 0 [v7.1])).length (List.drop 0 (Qq.1.1++List.take 1 (List.drop 0 [v7.1]))),v7.2.2.2.2.1,())=some Qv/\0=0/\Qv.1.1.length=Qv.1.1.length/\k8 (IntKind.i64.wrap (v7.1+(1:Int)),v7.2.1,v7.2.2.1,v7.2.2.2.1,Qv.1.1,()))/\(0=0/\Qq.1.1.length=Qq.1.1.length/\Qq.1.1.length+(List.take 1 (List.drop 0 [v7.1])).length<=Dd/\0=0/\v7.2.2.2.2.1.length=v7.2.2.2.2.1.length/\ ∃(Qv:(List (List Int)×PUnit)×PUnit),(Sm m).fn (v7.2.1,v7.2.2.1,v7.2.2.2.1,List.take (Qq.1.1++List.take 1 (List.drop 0 [v7.1])).length (List.drop 0 (Qq.1.1++List.take 1 (List.drop 0 [v7.1]))),v7.2.2.2.2.1,())=some Qv/\0=0/\Qv.1.1.length=Qv.1.1.length/\k8 (IntKind.i64.wrap (v7.1+(1:Int)),v7.2.1,v7.2.2.1,v7.2.2.2.1,Qv.1.1,()))/\0=0/\Qq.1.1.length=Qq.1.1.length/\Qq.1.1.length+(List.take 1 (List.drop 0 [v7.1])).length<=Dd/\0=0/\v7.2.2.2.2.1.length=v7.2.2.2.2.1.length/\ ∃(Qv:(List (List Int)×PUnit)×PUnit),(Sm m).fn (v7.2.1,v7.2.2.1,v7.2.2.2.1,List.take (Qq.1.1++List.take 1 (List.drop 0 [v7.1])).length (List.drop 0 (Qq.1.1++List.take 1 (List.drop 0 [v7.1]))),v7.2.2.2.2.1,())=some Qv/\0=0/\Qv.1.1.length=Qv.1.1.length/\k8 (IntKind.i64.wrap (v7.1+(1:Int)),v7.2.1,v7.2.2.1,v7.2.2.2.1,Qv.1.1,()))/\(∃(Qq:(List Int×PUnit)×PUnit),Kp.fn (l,())=some Qq/\0=0/\Qq.1.1.length=Qq.1.1.length/\Qq.1.1.length+(List.take 1 (List.drop 0 [v7.1])).length<=Dd/\0=0/\v7.2.2.2.2.1.length=v7.2.2.2.2.1.length/\ ∃(Qv:(List (List Int)×PUnit)×PUnit),(Sm m).fn (v7.2.1,v7.2.2.1,v7.2.2.2.1,List.take (Qq.1.1++List.take 1 (List.drop 0 [v7.1])).length (List.drop 0 (Qq.1.1++List.take 1 (List.drop 0 [v7.1]))),v7.2.2.2.2.1,())=some Qv/\0=0/\Qv.1.1.length=Qv.1.1.length/\k8 (IntKind.i64.wrap (v7.1+(1:Int)),v7.2.1,v7.2.2.1,v7.2.2.2.1,Qv.1.1,()))/\ ∃(Qq:(List Int×PUnit)×PUnit),Kp.fn (l,())=some Qq/\(0=0/\Qq.1.1.length=Qq.1.1.length/\Qq.1.1.length+(List.take 1 (List.drop 0 [v7.1])).length<=Dd/\0=0/\v7.2.2.2.2.1.length=v7.2.2.2.2.1.length/\ ∃(Qv:(List (List Int)×PUnit)×PUnit),(Sm m).fn (v7.2.1,v7.2.2.1,v7.2.2.2.1,List.take (Qq.1.1++List.take 1 (List.drop 0 [v7.1])).length (List.drop 0 (Qq.1.1++List.take 1 (List.drop 0 [v7.1]))),v7.2.2.2.2.1,())=some Qv/\0=0/\Qv.1.1.length=Qv.1.1.length/\k8 (IntKind.i64.wrap (v7.1+(1:Int)),v7.2.1,v7.2.2.1,v7.2.2.2.1,Qv.1.1,()))/\0=0/\Qq.1.1.length=Qq.1.1.length/\Qq.1.1.length+(List.take 1 (List.drop 0 [v7.1])).length<=Dd/\0=0/\v7.2.2.2.2.1.length=v7.2.2.2.2.1.length/\ ∃(Qv:(List (List Int)×PUnit)×PUnit),(Sm m).fn (v7.2.1,v7.2.2.1,v7.2.2.2.1,List.take (Qq.1.1++List.take 1 (List.drop 0 [v7.1])).length (List.drop 0 (Qq.1.1++List.take 1 (List.drop 0 [v7.1]))),v7.2.2.2.2.1,())=some Qv/\0=0/\Qv.1.1.length=Qv.1.1.length/\k8 (IntKind.i64.wrap (v7.1+(1:Int)),v7.2.1,v7.2.2.1,v7.2.2.2.1,Qv.1.1,())) (0=0/\v7.2.2.2.2.1.length=v7.2.2.2.2.1.length/\k8 (IntKind.i64.wrap (v7.1+(1:Int)),v7.2.1,v7.2.2.1,v7.2.2.2.1,v7.2.2.2.2.1,()))) (P ((List.take v7.2.2.2.2.1.length (List.drop 0 v7.2.2.2.2.1),()),()))) ((0:Int),n,str,g,out,PUnit.unit)))=fnMW Vy (look [(77,Mg),(86,Kp),(152,Ke),(83,fJ.m (Sm m))]) (Sm (m+1)) Try.f83 (n,str,g,l,out,()) P:=by kernel_rfl
theorem NW {xs:List Int} {o n:Nat} (h:o+n<=xs.length) (k:Nat):(fa xs o n)[k]?=if o<=k/\k<o+n then xs[o+n-1-(k-o)]? else xs[k]?:=by
 unfold fa
 have l1:(List.take o xs).length=o:=by rw [Cs];omega
 have l2:(List.take n (List.drop o xs)).reverse.length=n:=by rw [List.length_reverse,Cs,Sb];omega
 rw [Ck]
 by_cases h1:k<o
 ·rw [Ar (by omega),Ai (by omega),List.getElem?_take_of_lt h1]
 ·rw [Aq (by omega),l1]
  by_cases h2:k<o+n
  ·rw [Ar (by omega),Ac ⟨by omega,h2⟩,List.getElem?_reverse (by rw [Cs,Sb];omega)]
   rw [Cs,Sb,List.getElem?_take_of_lt (by omega),Co]
   congr 1
   omega
  ·rw [Aq (by omega),l2,Ai (by omega),Co]
   congr 1
   omega
theorem OO (a:List Int×Nat×Nat) (h:short a.1/\a.2.1+a.2.2<=a.1.length):fnMW Aeo (look []) Xm Try.f186 (a,()) (λ(z:Unit×List Int×Unit)=>z=((),(fa a.1 a.2.1 a.2.2,()))):=by
 obtain ⟨xs,o,n⟩:=a
 obtain ⟨hs,hn⟩:=h
 dsimp only at hs hn
 unfold short at hs
 refine Eq.mp (QK (xs,o,n) _) ⟨rfl,rfl,?_⟩
 dsimp only
 refine Dt.mk (λv=> ∃i:Nat,v.1=i/\v.2.1=(n:Int)-1-i/\2*i<=n/\v.2.2.1.length=xs.length/\ ∀k,v.2.2.1[k]?=oM xs o n i k) (λv=>n-v.1.toNat)
  ⟨0,rfl,by rw [Dh (by omega) (by omega)];simp,by omega,rfl,λk=>by unfold oM;rw [Ai (by omega)]⟩ ?_
 rintro ⟨i',j',ys,⟨⟩⟩ ⟨i,h1,h2,h3,h4,h5⟩
 dsimp only at h1 h2 h4 h5⊢
 subst h1 h2
 refine Br.dec (λhl=>?_) λhl=>?_
 ·have dO:i<n-1-i:=by omega
  have hj:((n:Int)-1-i).toNat=n-1-i:=by omega
  have g1:ys[o+(n-1-i)]?=xs[o+(n-1-i)]?:=by rw [h5];unfold oM;rw [Ai (by omega)]
  have g2:ys[o+i]?=xs[o+i]?:=by rw [h5];unfold oM;rw [Ai (by omega)]
  have k1:o+(n-1-i)<xs.length:=by omega
  have k2:o+i<xs.length:=by omega
  rw [hj,As]
  refine ⟨⟨by omega,by omega⟩,_,g1.trans (Ab k1),⟨by omega,by omega⟩,_,g2.trans (Ab k2),⟨by omega,by omega⟩,by omega,⟨by omega,by omega⟩,by rw [Bt];omega,rfl,rfl,?_⟩
  rw [Dh (by omega) (by omega),Dh (by omega) (by omega)]
  refine ⟨⟨i+1,by push_cast;omega,by push_cast;omega,by omega,by rw [Bt,Bt];exact h4,λk=>?_⟩,by omega⟩
  by_cases e1:k=o+(n-1-i)
  ·subst e1
   rw [Zh (by rw [Bt];omega)]
   unfold oM
   rw [Ac (by omega),<-Ab k2]
   congr 1;omega
  ·rw [List.getElem?_set_ne (Fv e1)]
   by_cases e2:k=o+i
   ·subst e2
    rw [Zh (by omega)]
    unfold oM
    rw [Ac (by omega),<-Ab k1]
    congr 1;omega
   ·rw [List.getElem?_set_ne (Fv e2),h5]
    unfold oM
    by_cases e3:o<=k/\k<o+n/\(k<o+i\/o+n<=k+i)
    ·rw [Ac e3,Ac (by omega)]
    ·rw [Ai e3,Ai (by omega)]
 ·have:ys=fa xs o n:=by
   refine List.ext_getElem? λk=>?_
   rw [h5,NW hn]
   unfold oM
   by_cases e:o<=k/\k<o+n
   ·rw [Ac e]
    split
    ·rfl
    ·have:k=o+n-1-(k-o):=by omega
     rw [<-this]
   ·rw [Ai e,Ai (by omega)]
  rw [this]
theorem u6:Da Try.prog 186 Xm:=
 Da.fb Aep Cm mixed Try.func186 (by kernel_rfl) (by kernel_rfl) λx h=>OO x.1 h
abbrev wi (l:List Int):Prop:=List.Pairwise (λa b=>b<a) l
theorem iM: ∀(t:List Int),wi t->Kx t=none
 | [],_=>rfl
 | [v],_=>rfl
 |v::y::r,h=>by
  obtain ⟨h1,h2⟩:=Lq.1 h
  have hy:=h1 y (by simp)
  rw [Kx,iM (y::r) h2]
  show mb v (y::r)=none
  unfold mb aU
  rw [Ai (show ¬y>v by omega),Ac rfl]
theorem rI {s s':List Int} (h:Kx s=some s'): ∀pre:List Int,Kx (pre++s)=some (pre++s')
 | []=>h
 |v::p=>by rw [Jy,Kx,rI h p];rfl
theorem kG (v:Int): ∀(t:List Int),wi t-> ∀k (hk:k<t.length),k<aU v t↔v<t[k]
 | [],_,k,hk=>absurd hk (Fa _)
 |x::r,h,k,hk=>by
  obtain ⟨h1,h2⟩:=Lq.1 h
  unfold aU
  by_cases hx:x>v
  ·rw [Ac hx]
   rcases k with _|k
   ·simpa using hx
   ·have:=kG v r h2 k (by simpa using hk)
    simp only [Jz]
    rw [<-this];omega
  ·rw [Ai hx]
   refine ⟨λh=>absurd h (Fa _),λh3=>?_⟩
   rcases k with _|k
   ·exact absurd h3 (by simpa using hx)
   ·simp only [Jz] at h3
    have:=h1 _ (Al (by simpa using hk:k<r.length))
    omega
theorem vh (v:Int): ∀t:List Int,aU v t<=t.length
 | []=>Ao _
 |x::r=>by unfold aU;split<;>simp [vh v r]
theorem NO {v:Int} {t:List Int} (h:wi t) {j:Nat} (hj:j<t.length) (h1:v<t[j]) (h2: ∀k (hk:k<t.length),j<k->t[k]<v):aU v t=j+1:=by
 have h3:=(kG v t h j hj).2 h1
 have h4:=vh v t
 by_cases e:j+1<t.length
 ·have h5:=h2 (j+1) e (by omega)
  have h6:=kG v t h (j+1) e
  have: ¬(j+1<aU v t):= λhh=>by have:=h6.1 hh;omega
  omega
 ·omega
theorem LP {pre t:List Int} {v:Int} (h:wi t) {j:Nat} (hj:j<t.length) (h1:v<t[j]) (h2: ∀k (hk:k<t.length),j<k->t[k]<v):
  Kx (pre++v::t)=some (pre++t[j]::(t.set j v).reverse):=by
 refine rI ?_ pre
 rw [Kx,iM t h]
 show mb v t=_
 unfold mb
 rw [NO h hj h1 h2,Ai (by omega),Nat.add_sub_cancel,Ig hj]
theorem VJ {pre t:List Int} {y:Int} :fa (pre++y::t) (pre.length+1) t.length=pre++y::t.reverse:=by
 unfold fa
 have e1:List.take (pre.length+1) (pre++y::t)=pre++ [y]:=by
  rw [List.take_append,List.take_of_length_le (by omega)];simp
 have e2:List.drop (pre.length+1) (pre++y::t)=t:=by
  rw [List.drop_append,Mr (by omega)];simp
 have e3:List.drop (pre.length+1+t.length) (pre++y::t)= []:=Mr (by simp;omega)
 rw [e1,e2,e3,Bb]
 simp
theorem xY {α:Type} (pre:List α) (v a:α) (t:List α):(pre++v::t).set pre.length a=pre++a::t:=by
 rw [List.set_append,Ai (by omega)];simp
theorem VM {α:Type} (pre:List α) (v a:α) (t:List α) (j:Nat):(pre++v::t).set (pre.length+1+j) a=pre++v::t.set j a:=by
 rw [List.set_append,Ai (by omega),show pre.length+1+j-pre.length=j+1 by omega];rfl
theorem PM {α:Type} {xs:List α} {i:Nat} (h:i<xs.length): ∃pre v t,xs=pre++v::t/\pre.length=i:=by
 refine ⟨xs.take i,xs[i],xs.drop (i+1),?_,by rw [Cs];omega⟩
 rw [<-Bz h,Fo]
theorem SB {xs:List Int} (h:wi xs):Kx xs=none:=iM xs h
theorem PT {pre t:List Int} {v:Int} (h:wi t) {j:Nat} (hj:j<t.length) (h1:v<t[j]) (h2: ∀k (hk:k<t.length),j<k->t[k]<v):
  fa (((pre++v::t).set pre.length t[j]).set (pre.length+1+j) v) (pre.length+1) t.length=(Kx (pre++v::t)).getD []/\(Kx (pre++v::t)).isSome=true:=by
 rw [LP h hj h1 h2,xY,VM]
 have:= @VJ pre (t.set j v) t[j]
 rw [Bt] at this
 exact ⟨this,rfl⟩
theorem HS (xs:List Int) (h:1<=xs.length/\xs.length<=20/\xs.Nodup):fnMW Vy (look [(186,Xm)]) Rj Try.f139 (xs,()) (λ(z:(Bool×Unit)×List Int×Unit)=>z=(((Kx xs).isSome,()),((Kx xs).getD xs,()))):=by
 obtain ⟨KT,z7,lQ⟩:=h
 have Hq: ∀i j (hi:i<xs.length) (hj:j<xs.length),i<j->xs[i]≠xs[j]:= λi j hi hj dO=>De.1 lQ i j hi hj dO
 refine Eq.mp (JO xs _) ⟨rfl,rfl,?_⟩
 refine Dt.mk (λv=>v.2.1=xs/\ ∃i:Nat,i+1<=xs.length/\v.1=(i:Int)-1/\wi (xs.drop i)) (λv=>(v.1+1).toNat)
  ⟨rfl,xs.length-1,by omega,by rw [Dh (by omega) (by omega)];omega,?_⟩ ?_
 ·rw [Bz (by omega),Mr (by omega)]
  exact List.pairwise_singleton _ _
 ·rintro ⟨a,ys,⟨⟩⟩ ⟨h1,i,h2,h3,h4⟩
  dsimp only at h1 h3⊢
  subst h1 h3
  refine Br.dec (λhp=>?_) λhp=>?_
  ·obtain ⟨i,rfl⟩: ∃k,i=k+1:=⟨i-1,by omega⟩
   have e0:((i+1:Nat):Int)-1=(i:Int):=by omega
   rw [e0]
   have e1:IntKind.i64.wrap ((i:Int)+1)=((i+1:Nat):Int):=Cg (by omega)
   rw [e1]
   simp only [As,Cj]
   refine ⟨⟨by omega,by omega⟩,_,Ab (by omega),⟨by omega,by omega⟩,_,Ab (by omega),?_⟩
   have NI:ys.drop i=ys[i]::ys.drop (i+1):=Bz (by omega)
   refine Br.dec (λhg=>⟨trivial,trivial,⟨⟨trivial,i,by omega,by rw [Dh (by omega) (by omega)],?_⟩,by rw [Dh (by omega) (by omega)];omega⟩⟩) λhg=>?_
   ·rw [NI]
    refine Lq.2 ⟨λb hb=>?_,h4⟩
    have Amy:ys.drop (i+1)=ys[i+1]::ys.drop (i+1+1):=Bz (by omega)
    rw [Amy] at hb h4
    rcases Ay.1 hb with rfl|hb
    ·exact hg
    ·exact Int.lt_trans ((Lq.1 h4).1 b hb) hg
   ·refine Br.dec (λhn=>by omega) λ_=>⟨trivial,trivial,?_⟩
    have Jl:ys[i]<ys[i+1]:=by
     have:=Hq i (i+1) (by omega) (by omega) (by omega)
     omega
    obtain ⟨pre,v,t,hx,fC⟩:=PM (show i<ys.length by omega)
    have hlen:ys.length=pre.length+1+t.length:=by rw [hx];simp;omega
    have hv:ys[i]=v:=by simp [hx,<-fC]
    have ht: ∀k (hk:k<t.length),ys[i+1+k]'(by omega)=t[k]:= λk hk=>by
     subst fC
     simp only [hx]
     rw [List.getElem_append_right (by omega)]
     simp only [show pre.length+1+k-pre.length=k+1 by omega,Jz]
    have hd:wi t:=by
     have:ys.drop (i+1)=t:=by rw [hx,<-fC,List.drop_append,Mr (by omega)];simp
     rw [<-this];exact h4
    refine Dt.mk (λw=>w.2.1=ys/\ ∃k:Nat,k<t.length/\w.1=((i+1+k:Nat):Int)/\ ∀k' (hk:k'<t.length),k<k'->t[k']<v) (λw=>w.1.toNat)
     ⟨rfl,t.length-1,by omega,by rw [Dh (by omega) (by omega)];omega,λk' hk hh=>by omega⟩ ?_
    rintro ⟨b,zs,⟨⟩⟩ ⟨g1,k,g2,g3,g4⟩
    dsimp only at g1 g3⊢
    subst g1 g3
    simp only [As]
    refine ⟨⟨by omega,by omega⟩,_,Ab (by omega),⟨by omega,by omega⟩,_,Ab (by omega),?_⟩
    rw [ht k g2,hv]
    refine Br.dec (λhg=>?_) λhg=>?_
    ·have sU:0<k:=by
      refine Nat.pos_of_ne_zero λe=>?_
      subst e
      have:=ht 0 g2
      simp only [Dx] at this
      omega
     refine ⟨trivial,trivial,⟨⟨trivial,k-1,by omega,by rw [Dh (by omega) (by omega)];omega,λk' hk hh=>?_⟩,by rw [Dh (by omega) (by omega)];omega⟩⟩
     by_cases e:k'=k
     ·subst e;exact hg
     ·exact g4 k' hk (by omega)
    ·have hgt:v<t[k]:=by
      have:=Hq i (i+1+k) (by omega) (by omega) (by omega)
      rw [hv,ht k g2] at this
      omega
     have hsw:= @PT pre t v hd k g2 hgt g4
     have hrm:List.length (fa ((zs.set i zs[i+1+k]).set (i+1+k) zs[i]) (i+1) (zs.length-(i+1)))=((zs.set i zs[i+1+k]).set (i+1+k) zs[i]).length:=by
      unfold fa
      simp only [Au,List.length_reverse,Cs,Sb,Bt]
      omega
     have et:zs.length-(i+1)=t.length:=by omega
     refine ⟨⟨by omega,by omega⟩,_,Ab (by omega),⟨by omega,by omega⟩,_,Ab (by omega),⟨by omega,by omega⟩,by omega,⟨by omega,by omega⟩,by rw [Bt];omega,⟨by omega,by omega,by omega⟩,_,Ac (And.intro (show short ((zs.set i zs[i+1+k]).set (i+1+k) zs[i]) by unfold short;rw [Bt,Bt];omega) (show i+1+(zs.length-(i+1))<=((zs.set i zs[i+1+k]).set (i+1+k) zs[i]).length by rw [Bt,Bt];omega)),hrm,?_⟩
     ·show ((true,()),fa ((zs.set i zs[i+1+k]).set (i+1+k) zs[i]) (i+1) (zs.length-(i+1)),())=_
      rw [et,ht k g2,hv]
      have e3:fa ((zs.set i t[k]).set (i+1+k) v) (i+1) t.length=(Kx zs).getD []/\(Kx zs).isSome=true:=by
       have:=hsw
       rw [<-hx,fC] at this
       exact this
      rw [e3.1,e3.2]
      cases hm:Kx zs with
      |none=>rw [hm] at e3;exact absurd e3.2 (by decide)
      |some y=>rfl
  ·have:i=0:=by omega
   subst this
   refine Br.dec (λ_=>?_) λhn=>by omega
   rw [Du] at h4
   rw [SB h4]
   rfl
theorem so:Da Try.prog 139 Rj:=
 Da.fb Sq (Jd u6 Cm) mixed Try.func139 (by kernel_rfl) (by kernel_rfl) λx h=>HS x.1 h
theorem BZ (n:Int) (h:0<=n/\n<=20):fnMW Vy (look []) Uj Try.f120 (n,()) (λ(z:(List Int×Unit)×Unit)=>z=((upto n.toNat,()),())):=by
 refine Eq.mp (DZ n _) ⟨⟨by omega,by show n<(4294967296:Int)+1;omega⟩,rfl,rfl,rfl,?_⟩
 refine Ci n.toNat (λv=>v.1) (λj v=>v.2.1.length=n.toNat/\v.2.1.take j=upto j) rfl ⟨by simp,by simp [upto]⟩ ?_
 rintro j ⟨i,ys,⟨⟩⟩ K hj hi ⟨h1,h2⟩ hK
 dsimp only at hi h1 h2⊢
 subst hi
 rw [Eh]
 simp only [As,Cj]
 refine Br.dec (λhl=>⟨⟨by omega,by omega⟩,by omega,trivial,by rw [Bt],?_⟩) λhl=>?_
 ·rw [Cg (by omega)]
  refine hK (by omega) _ rfl ⟨by rw [Bt];exact h1,?_⟩
  rw [Hy,List.take_set_of_le (by omega),h2,Zh (by omega),Un]
  rfl
 ·have:j=ys.length:=by omega
  subst this
  rw [Bb] at h2
  rw [Du,Bb,h2,h1]
theorem pq:Da Try.prog 120 Uj:=
 Da.fb Sq Cm mixed Try.func120 (by kernel_rfl) (by kernel_rfl) λx h=>BZ x.1 h
theorem BW (xs:List Int) (h:short xs):fnMW Vy (look []) Kp Try.f86 (xs,()) (λ(z:(List Int×Unit)×Unit)=>z=((xs,()),())):=by
 unfold short at h
 refine Eq.mp (DW xs _) ⟨rfl,rfl,by show 0+xs.length<=4294967296;omega,?_⟩
 simp only [Dl,No]
theorem pk:Da Try.prog 86 Kp:=
 Da.fb Sq Cm mixed Try.func86 (by kernel_rfl) (by kernel_rfl) λx h=>BW x.1 h
inductive ta:List Int->List (List Int)->List Int->Prop where
 |one (a:List Int):ta a [a] a
 |more {a c b:List Int} {L:List (List Int)} :Kx a=some c->ta c L b->ta a (a::L) b
theorem ta.glue {a b c d:List Int} {L M:List (List Int)} (h:ta a L b) (hn:Kx b=some c) (h2:ta c M d):ta a (L++M) d:=by
 induction h with
 |one a=>exact .more hn h2
 |more h3 _ ih=>exact .more h3 (ih hn)
theorem ta.cons {a b:List Int} {L:List (List Int)} (h:ta a L b) (v:Int):ta (v::a) (L.map (v:: ·)) (v::b):=by
 induction h with
 |one a=>exact .one _
 |more h3 _ ih=>exact .more (rI h3 [v]) ih
abbrev Inc (l:List Int):Prop:=List.Pairwise (λa b=>a<b) l
theorem xj: ∀(k:Nat) (R:List Int),Inc R->R.length=k->ta R (lex k R) R.reverse
 |0,R,_,hl=>by
  have:R= []:=List.length_eq_zero_iff.1 hl
  subst this
  exact .one []
 |k+1,R,hR,hl=>by
  have key: ∀(B A:List Int) (v:Int),R=A++v::B->ta (v::(A++B)) ((v::B).flatMap λu=>(lex k (R.erase u)).map (u:: ·)) R.reverse:=by
   intro B
   induction B with
   |nil=>
    intro A v hA
    have he:R.erase v=A:=by
     rw [hA,List.erase_append_right _ (λhm=>by
      have:=(Ic.1 (hA▸hR)).2.2 v hm v (by simp)
      omega)]
     simp
    have h1:=xj k A ((Ic.1 (hA▸hR)).1) (by rw [hA] at hl;simp at hl;omega)
    simp only [Kr,List.flatMap_nil,fO]
    rw [he,hA]
    have h2:=h1.cons v
    simpa using h2
   |cons v' B ih=>
    intro A v hA
    have hp:=Ic.1 (hA▸hR)
    have uT:=Lq.1 hp.2.1
    have hp3:=Lq.1 uT.2
    have he:R.erase v=A++v'::B:=by
     rw [hA,List.erase_append_right _ (λhm=>by
      have:=hp.2.2 v hm v (by simp)
      omega)]
     simp
    have Ago:Inc (A++v'::B):=Ic.2 ⟨hp.1,uT.2,λa ha b hb=>hp.2.2 a ha b (An _ hb)⟩
    have h1:=(xj k (A++v'::B) Ago (by rw [hA] at hl;simp at hl⊢;omega)).cons v
    have h2:=ih (A++ [v]) v' (by rw [hA];simp)
    rw [Kr,he]
    refine h1.glue ?_ h2
    have Ahf:(A++v'::B).reverse=B.reverse++v'::A.reverse:=by simp
    have Alo:wi (B.reverse++v'::A.reverse):=by
     rw [<-Ahf]
     exact List.pairwise_reverse.2 Ago
    rw [Ahf]
    have hj:B.reverse.length<(B.reverse++v'::A.reverse).length:=by simp
    have hg:(B.reverse++v'::A.reverse)[B.reverse.length]=v':=by simp
    have:= @LP [] (B.reverse++v'::A.reverse) v Alo B.reverse.length hj (by rw [hg];exact uT.1 v' (by simp)) (λq hq Jl=>by
     rw [List.getElem_append_right (by omega)]
     obtain ⟨q',cA⟩: ∃q',q-B.reverse.length=q'+1:=⟨q-B.reverse.length-1,by omega⟩
     have hq2:q'<A.reverse.length:=by simp at hq cA⊢;omega
     have hm:A.reverse[q']∈A:=List.mem_reverse.1 (Al _)
     have e:(v'::A.reverse)[q-B.reverse.length]'(by rw [cA];simpa using hq2)=A.reverse[q']:=by simp only [cA,Jz]
     rw [e]
     exact hp.2.2 _ hm v (by simp))
    rw [No] at this
    rw [this,hg,xY]
    simp only [No,List.reverse_append,List.reverse_cons,List.reverse_reverse,Ck,Jy]
  cases R with
  |nil=>simp at hl
  |cons v B=>
   have:=key B [] v rfl
   rw [lex]
   exact this
theorem rm: ∀(k:Nat) (R x:List Int),R.length=k->x∈lex k R->x.Perm R
 |0,R,x,hl,hx=>by
  have:R= []:=List.length_eq_zero_iff.1 hl
  subst this
  rw [lex,Ae] at hx
  subst hx
  exact .nil
 |k+1,R,x,hl,hx=>by
  rw [lex,Ey] at hx
  obtain ⟨v,hv,hx⟩:=hx
  obtain ⟨y,hy,rfl⟩:=Be.1 hx
  have h1:=rm k (R.erase v) y (by rw [Ou hv];omega) hy
  exact (h1.cons v).trans (List.perm_cons_erase hv).symm
def zP:Nat->Nat
 |0=>1
 |k+1=>(k+1)*zP k
theorem zS {α β:Type} {n:Nat} (f:α->List β): ∀(l:List α),(∀a∈l,(f a).length=n)->(l.flatMap f).length=l.length*n
 | [],_=>by simp
 |a::r,h=>by
  rw [Kr,Au,zS f r (λb hb=>h b (An _ hb)),h a (by simp),Aw,Nat.succ_mul]
  omega
theorem xh: ∀(k:Nat) (R:List Int),R.length=k->(lex k R).length=zP k
 |0,_,_=>rfl
 |k+1,R,hl=>by
  rw [lex,zS (n:=zP k) _ _ (λv hv=>by rw [Hm];exact xh k _ (by rw [Ou hv];omega)),hl]
  rfl
theorem SC: ∀k,k<=7->zP k<=5040:=by decide
theorem DP (n:Nat):Inc (upto n):=by
 unfold upto
 refine bp.2 (List.Pairwise.imp ?_ List.pairwise_lt_range)
 intro a b h
 exact Int.ofNat_lt.2 h
theorem rk {n:Nat} (h:n<=7):(lex n (upto n)).length<=5040:=by rw [xh n _ (Iv n)];exact SC n h
theorem kO {n:Int} {x:List Int} (h1:1<=n) (h2:n<=20) (h:x.Perm (upto n.toNat)):En n x=true:=by
 have hl:x.length=n.toNat:=by rw [h.length_eq,Iv]
 refine Fp.2 ⟨by omega,Fp.2 ⟨by omega,by omega,λj hj _=>?_⟩⟩
 have hm:=Kn.1 (h.mem_iff.1 (Al hj))
 refine ⟨hm.1,by omega,λhc=>?_⟩
 have lQ:x.Nodup:=h.nodup_iff.2 (Xq _)
 rw [<-Fo j x,Bz hj] at lQ
 exact (Ic.1 lQ).2.2 _ hc _ (Ik ..) rfl
theorem ta.head {a b:List Int} {L:List (List Int)} (h:ta a L b): ∃M,L=a::M:=by
 cases h with
 |one=>exact ⟨_,rfl⟩
 |more _ _=>exact ⟨_,rfl⟩
theorem ta.at {a b:List Int} {L:List (List Int)} (h:ta a L b): ∀j (hj:j<L.length),(∀h2:j+1<L.length,Kx L[j]=some L[j+1])/\(j+1=L.length->L[j]=b):=by
 induction h with
 |one a=>
  intro j hj
  simp only [Bw] at hj
  have:j=0:=by omega
  subst this
  exact ⟨λh2=>by simp at h2,λ_=>rfl⟩
 |more h3 h4 ih=>
  intro j hj
  rcases j with _|j
  ·obtain ⟨M,hM⟩:=h4.head
   refine ⟨λh2=>?_,λh2=>?_⟩
   ·simp only [List.getElem_cons_zero,Jz]
    subst hM
    exact h3
   ·subst hM;simp at h2
  ·have:=ih j (by simpa using hj)
   refine ⟨λh2=>?_,λh2=>?_⟩
   ·simp only [Jz]
    exact this.1 (by simpa using h2)
   ·simp only [Jz]
    exact this.2 (by simpa using h2)
theorem ta.distinct {a b:List Int} {L:List (List Int)} (h:ta a L b) (hb:Kx b=none): ∀k i j (hi:i<L.length) (hj:j<L.length),L.length-j=k->i<j->L[i]≠L[j]:=by
 intro k
 induction k with
 |zero=>intro i j hi hj hk;omega
 |succ k ih=>
  intro i j hi hj hk dO he
  by_cases e:j+1<L.length
  ·have h1:=(h.at i hi).1 (by omega)
   have h2:=(h.at j hj).1 e
   rw [he,h2] at h1
   exact ih (i+1) (j+1) (by omega) e (by omega) (by omega) (Ax h1).symm
  ·have h1:=(h.at i hi).1 (by omega)
   have h2:=(h.at j hj).2 (by omega)
   rw [he,h2,hb] at h1
   cases h1
theorem ta.idx {a b:List Int} {L:List (List Int)} (h:ta a L b) (hb:Kx b=none) {j:Nat} (hj:j<L.length):L.idxOf L[j]=j:=by
 have h1:L.idxOf L[j]<L.length:=List.idxOf_lt_length_of_mem (Al _)
 have h2:L[L.idxOf L[j]]=L[j]:=List.getElem_idxOf h1
 rcases Nat.lt_trichotomy (L.idxOf L[j]) j with h3|h3|h3
 ·exact absurd h2 (h.distinct hb _ _ _ h1 hj rfl h3)
 ·exact h3
 ·exact absurd h2.symm (h.distinct hb _ _ _ hj h1 rfl h3)
theorem DQ (n:Nat):ta (upto n) (lex n (upto n)) (upto n).reverse:=xj n _ (DP n) (Iv n)
theorem nk (n:Nat):Kx (upto n).reverse=none:=iM _ (List.pairwise_reverse.2 (DP n))
theorem zQ {α:Type} (f:α->Bool) (L:List α) {j:Nat} (h:j<L.length):(L.take (j+1)).filter f=(L.take j).filter f++if f L[j]=true then [L[j]] else []:=by
 rw [Hy,Ab h,List.filter_append]
 congr 1
 simp only [Option.toList]
 by_cases e:f L[j]=true
 ·rw [Ac e,List.filter_cons_of_pos e];rfl
 ·rw [Ai e,List.filter_cons_of_neg e];rfl
theorem HX (n:Int) (str:ByteArray) (g:List (List Int)) (h:Bi (n,str,g,())=true/\n<=7):fnMW Vy (look [(120,Uj),(79,Mg),(90,mr),(139,Rj)]) Xo Try.f64 (n,str,g,()) (λ(z:(List (List Int)×Unit)×Unit)=>z=((Cz (n,str,g,()),()),())):=by
 obtain ⟨hv,h7⟩:=h
 have TI:=kY hv
 dsimp only at TI
 refine Eq.mp (JT n str g _) ⟨_,Ac ⟨by show 0<=n;omega,by show n<=20;omega⟩,rfl,rfl,rfl,rfl,?_⟩
 show Dt _ (n,str,g,[],upto n.toNat,PUnit.unit)
 generalize hL:lex n.toNat (upto n.toNat)=L
 have Rd:=DQ n.toNat
 have SZ: ∀x∈L,x.Perm (upto n.toNat):= λx hx=>rm _ _ x (Iv _) (hL▸hx)
 have hlen:=rk (n:=n.toNat) (by omega)
 rw [hL] at Rd hlen
 have hat:=Rd.at
 have Alw: ∀j (hj:j<L.length) (o:Option (List Int)),Kx L[j]=o->(o=none/\j+1=L.length)\/(∃h2:j+1<L.length,o=some L[j+1]):= λj hj o ho=>by
  by_cases e:j+1<L.length
  ·exact .inr ⟨e,by rw [<-ho];exact (hat j hj).1 e⟩
  ·refine .inl ⟨?_,by omega⟩
   rw [<-ho,(hat j hj).2 (by omega)]
   exact nk _
 have hsy:Cz (n,str,g,())=L.filter (Jo (n,str,g,())):=by unfold Cz;rw [hL]
 have hix: ∀j (hj:j<L.length),L.idxOf L[j]=j:= λj hj=>Rd.idx (nk _) hj
 obtain ⟨M,hM⟩:=Rd.head
 have h0:0<L.length:=by rw [hM];simp
 have Alx: ∀j (hj:j<L.length),En n L[j]=true:= λj hj=>kO TI.1 (by omega) (SZ _ (Al _))
 have lP: ∀j (hj:j<L.length),L[j].length=n.toNat:= λj hj=>by rw [(SZ _ (Al _)).length_eq,Iv]
 have lQ: ∀j (hj:j<L.length),L[j].Nodup:= λj hj=>(SZ _ (Al _)).nodup_iff.2 (Xq _)
 have QU: ∀j,((L.take j).filter (Jo (n,str,g,()))).length<=5040:= λj=>Ek (List.length_filter_le _ _) (by rw [Cs];omega)
 refine Dt.mk (λv=>v.1=n/\v.2.1=str/\v.2.2.1=g/\ ∃j,∃h:j<L.length,v.2.2.2.1=(L.take j).filter (Jo (n,str,g,()))/\v.2.2.2.2.1=L[j])
  (λv=>L.length-L.idxOf v.2.2.2.2.1) ⟨rfl,rfl,rfl,0,h0,by simp,by simp [hM]⟩ ?_
 rintro ⟨n',pz,g',out,q,⟨⟩⟩ ⟨h1,h2,h3,j,hj,h4,h5⟩
 dsimp only at h1 h2 h3 h4 h5
 subst h1 h2 h3 h4 h5
 dsimp only
 have Adi:short L[j]:=by unfold short;rw [lP];omega
 rw [Dl L[j]]
 have hft:=zQ (Jo (n',pz,g',())) L hj
 have step: ∀Uq,Uq=(L.take (j+1)).filter (Jo (n',pz,g',()))->
   ∃(y9:(Bool×PUnit)×List Int×PUnit),Rj.fn (L[j],())=some y9/\(y9.2.1.length=L[j].length/\L[j].length=L[j].length)/\
    Br (!y9.1.1) (((List.take Uq.length (List.drop 0 Uq),()),())=((Cz (n',pz,g',()),()),()))
     ((0:Nat)=(0:Nat)/\Uq.length=Uq.length/\(0:Nat)=(0:Nat)/\L[j].length=y9.2.1.length/\
      ((n'=n'/\pz=pz/\g'=g'/\ ∃j1,∃_:j1<L.length,Uq=(L.take j1).filter (Jo (n',pz,g',()))/\y9.2.1=L[j1])/\L.length-L.idxOf y9.2.1<L.length-L.idxOf L[j])):=by
  intro Uq ho
  refine ⟨_,Ac ⟨by show 1<=L[j].length;rw [lP];omega,by show L[j].length<=20;rw [lP];omega,lQ j hj⟩,?_⟩
  rw [Dl]
  rcases Alw j hj _ rfl with ⟨e1,e2⟩|⟨e1,e2⟩
  ·simp only [e1,Option.isSome,Option.getD,Bool.not_false]
   refine ⟨⟨trivial,trivial⟩,⟨λ_=>?_,λhe=>(by cases he)⟩⟩
   rw [ho,hsy,e2,Bb]
  ·simp only [e2,Option.isSome,Option.getD,Bool.not_true]
   have GA:L[j+1].length=L[j].length:=by rw [lP,lP]
   exact ⟨⟨GA,trivial⟩,⟨λhe=>(by cases he),λ_=>⟨trivial,trivial,trivial,GA.symm,⟨trivial,trivial,trivial,j+1,e1,ho,rfl⟩,by rw [hix,hix];omega⟩⟩⟩
 refine ⟨_,Ac ⟨hv,Alx j hj⟩,⟨λhs=>?_,λhs=>?_⟩⟩
 ·have hs:Jo (n',pz,g',()) L[j]=true:=hs
  rw [Ac hs] at hft
  refine ⟨_,Ac Adi,rfl,rfl,?_,rfl,rfl,?_⟩
  ·show _+1<=4294967296
   have:=QU j
   omega
  ·exact step _ (show _++List.take 1 (List.drop 0 [List.take L[j].length (List.drop 0 L[j])])=_ by rw [Dl L[j]];exact hft.symm)
 ·have hs:Jo (n',pz,g',()) L[j]=false:=hs
  rw [Ai (by rw [hs];decide),fO] at hft
  exact ⟨rfl,rfl,step _ hft.symm⟩
theorem sw:Da Try.prog 64 Xo:=
 Da.fb Sq (Jd pq (Bh nO (Jd ye (Jd so Cm)))) mixed Try.func64 (by kernel_rfl) (by kernel_rfl) λx h=>HX x.1 x.2.1 x.2.2.1 h
theorem OX {n:Int} {x:List Int} (h1:1<=n) (h2:n<=20) (hl:x.length=n.toNat) (lQ:x.Nodup) (hr:Kb n.toNat x):En n x=true:=by
 refine Fp.2 ⟨by omega,Fp.2 ⟨by omega,by omega,λj hj _=>?_⟩⟩
 have hm:=hr _ (Al hj)
 refine ⟨hm.1,by omega,λhc=>?_⟩
 rw [<-Fo j x,Bz hj] at lQ
 exact (Ic.1 lQ).2.2 _ hc _ (Ik ..) rfl
def ca (n:Nat) (l:List Int) (j:Nat):List (List Int):=((upto j).filter λv=>!l.contains v).flatMap λv=>(lex (n-l.length-1) ((kR n l).erase v)).map λx=>l++v::x
theorem zM {n:Nat} {l:List Int} (h:l.length<n):Si n l=ca n l n:=by
 unfold Si ca
 obtain ⟨k,hk⟩: ∃k,n-l.length=k+1:=⟨n-l.length-1,by omega⟩
 rw [hk,lex,List.map_flatMap,Nat.add_sub_cancel]
 simp only [List.map_map]
 rfl
theorem OW {n:Nat} {l:List Int} {v:Int} :kR n (l++ [v])=(kR n l).erase v:=by
 unfold kR
 have hn:((upto n).filter λu=>!l.contains u).Nodup:=(Xq n).sublist List.filter_sublist
 rw [hn.erase_eq_filter,List.filter_filter]
 refine List.filter_congr λu _=>?_
 simp only [List.contains_append,List.contains_cons,List.contains_nil,aA,Bool.not_or]
 rw [Bool.and_comm]
 rfl
theorem MT {n:Nat} {l:List Int} {v:Int} :Si n (l++ [v])=(lex (n-l.length-1) ((kR n l).erase v)).map λx=>l++v::x:=by
 unfold Si
 rw [OW,Au,Bw,<-Nat.sub_sub]
 congr 1
 funext x
 simp
theorem o7 (n:Nat) (l:List Int) (j:Nat):ca n l (j+1)=ca n l j++if l.contains (j:Int)=true then [] else Si n (l++ [(j:Int)]):=by
 unfold ca
 rw [Un,List.filter_append,List.flatMap_append]
 congr 1
 by_cases e:l.contains (j:Int)=true
 ·rw [Ac e,List.filter_cons_of_neg (by rw [e];decide)];rfl
 ·rw [Ai e,List.filter_cons_of_pos (by rw [Bool.eq_false_iff.2 e];rfl),MT];simp
theorem MS (n:Nat) (l:List Int) {j m:Nat} (h:j<=m):(ca n l j).length<=(ca n l m).length:=by
 induction m with
 |zero=>have:j=0:=by omega
        subst this;exact Ao _
 |succ m ih=>
  rcases Nat.lt_or_ge j (m+1) with h1|h1
  ·have:=ih (by omega)
   rw [o7,Au];omega
  ·have:j=m+1:=by omega
   subst this;exact Ao _
theorem jD {xs:List Int} {x:Int} :Qb xs x=xs.contains x:=by
 rw [Bool.eq_iff_iff]
 simp [Qb]
theorem Ae3 {m:Nat} (n:Int) (str:ByteArray) (g:List (List Int)) (l:List Int) (out:List (List Int))
  (h:(Bi (n,str,g,())=true/\n<=7/\l.Nodup/\Kb n.toNat l/\l.length<=n.toNat/\out.length+(Si n.toNat l).length<=6000)/\n.toNat-l.length<m+1):
  fnMW Vy (look [(77,Mg),(86,Kp),(152,Ke),(83,fJ.m (Sm m))]) (Sm (m+1)) Try.f83 (n,str,g,l,out,()) (λ(z:(List (List Int)×Unit)×Unit)=>z=((jE (n,str,g,()) l out,()),())):=by
 obtain ⟨⟨hv,h7,lQ,Wx,GA,lS⟩,hm⟩:=h
 have TI:=kY hv
 dsimp only at TI
 refine Eq.mp (Aes n str g l out _) ?_
 have hsl:short l:=by unfold short;omega
 refine ⟨λhe=>?_,λhe=>?_⟩
 ·have he:(l.length:Int)=n:=by simpa using he
  have hex:Si n.toNat l= [l]:=by
   unfold Si
   rw [show n.toNat-l.length=0 by omega,lex]
   simp
  rw [hex] at lS
  simp only [Bw] at lS
  have hg:En n l=true:=OX TI.1 (by omega) (by omega) lQ Wx
  refine ⟨_,Ac ⟨hv,hg⟩,⟨λhs=>?_,λhs=>?_⟩⟩
  ·have hs:Jo (n,str,g,()) l=true:=hs
   refine ⟨_,Ac hsl,rfl,rfl,?_,?_⟩
   ·show out.length+1<=4294967296
    omega
   ·rw [Dl]
    show ((out++List.take 1 (List.drop 0 [List.take l.length (List.drop 0 l)]),()),())=_
    rw [Dl]
    unfold jE
    rw [hex,List.filter_cons_of_pos hs]
    rfl
  ·have hs:Jo (n,str,g,()) l=false:=hs
   rw [Dl]
   unfold jE
   rw [hex,List.filter_cons_of_neg (by rw [hs];decide)]
   simp
 ·have he:(l.length:Int)≠n:=by simpa using he
  have Jl:l.length<n.toNat:=by omega
  rw [zM Jl] at lS
  refine ⟨rfl,rfl,?_⟩
  refine Ci n.toNat (λv=>v.1) (λj v=>v.2.1=n/\v.2.2.1=str/\v.2.2.2.1=g/\v.2.2.2.2.1=out++(ca n.toNat l j).filter (Jo (n,str,g,()))) rfl ⟨rfl,rfl,rfl,by simp [ca,upto]⟩ ?_
  rintro j ⟨i,n',pz,g',Uq,⟨⟩⟩ K hj hi ⟨h1,h2,h3,h4⟩ hK
  dsimp only at hi h1 h2 h3 h4
  subst hi h1 h2 h3
  dsimp only
  refine Br.dec (λhl=>?_) λhl=>?_
  ·have hl:j<n'.toNat:=by omega
   have hsu:=o7 n'.toNat l j
   have hle:=MS n'.toNat l (show j+1<=n'.toNat by omega)
   have hfo:=List.length_filter_le (Jo (n',pz,g',())) (ca n'.toNat l j)
   refine ⟨_,Ac hsl,⟨λhc=>?_,λhc=>?_⟩⟩
   ·simp only [and_self]
    have hc:l.contains (j:Int)=false:=by
     have hc:(!Qb l (j:Int))=true:=hc
     exact jD▸(by simpa using hc)
    rw [Ai (by rw [hc];decide)] at hsu
    have hnm:(j:Int)∉l:= λhm'=>by rw [Hk.2 hm'] at hc;cases hc
    rw [hsu,Au] at hle
    refine ⟨_,Ac hsl,trivial,trivial,by show l.length+1<=4294967296;omega,trivial,trivial,?_⟩
    dsimp only
    rw [Dl]
    have gC:(Bi (n',pz,g',())=true/\n'<=7/\(l++ [(j:Int)]).Nodup/\Kb n'.toNat (l++ [(j:Int)])/\(l++ [(j:Int)]).length<=n'.toNat/\Uq.length+(Si n'.toNat (l++ [(j:Int)])).length<=6000)/\n'.toNat-(l++ [(j:Int)]).length<m:=by
     refine ⟨⟨hv,h7,?_,?_,?_,?_⟩,?_⟩
     ·show (l++ [(j:Int)]).Nodup
      exact Dg.2 ⟨lQ,by simp,λa ha b hb=>by
       simp only [Ae] at hb
       subst hb
       exact λe=>hnm (e▸ha)⟩
     ·show Kb n'.toNat (l++ [(j:Int)])
      intro y hy
      rcases Az.1 hy with hy|hy
      ·exact Wx y hy
      ·simp only [Ae] at hy
       subst hy
       omega
     ·show (l++ [(j:Int)]).length<=n'.toNat
      rw [Au,Bw];omega
     ·show Uq.length+(Si n'.toNat (l++ [(j:Int)])).length<=6000
      rw [h4,Au]
      omega
     ·show n'.toNat-(l++ [(j:Int)]).length<m
      rw [Au,Bw];omega
    refine ⟨_,Ac gC,trivial,trivial,?_⟩
    rw [Cg (by omega)]
    refine hK hl _ rfl ⟨rfl,rfl,rfl,?_⟩
    show jE (n',pz,g',()) (l++ [(j:Int)]) Uq=_
    unfold jE
    rw [h4,hsu,List.filter_append,Ck]
   ·have hc:l.contains (j:Int)=true:=by
     have hc:(!Qb l (j:Int))=false:=hc
     exact jD▸(by simpa using hc)
    rw [Ac hc,fO] at hsu
    refine ⟨rfl,rfl,?_⟩
    rw [Cg (by omega)]
    refine hK hl _ rfl ⟨rfl,rfl,rfl,?_⟩
    rw [hsu]
    exact h4
  ·have:j=n'.toNat:=by omega
   subst this
   rw [Dl,h4]
   unfold jE
   rw [zM Jl]
theorem PS {m:Nat} (YZ:Da Try.prog 83 (Sm m)):Da Try.prog 83 (Sm (m+1)):=
 Da.fb Sq (Bh dq (Jd pk (Bh bS (Jd YZ Cm)))) mixed Try.func83 (by kernel_rfl) (by kernel_rfl) λx h=>Ae3 x.1 x.2.1 x.2.2.1 x.2.2.2.1 x.2.2.2.2.1 h
noncomputable abbrev LV:MSpec:=fb [some 3,none,none] [(false, .Hx tI),(false, .Hx .str),(false, .Hx pR),(false, .Hx tL),(false,rLL)] false [none] [rLL]
 (λx=>Bi (x.1,x.2.1,x.2.2.1,())=true/\x.1<=7/\List.Nodup (x.2.2.2.1:List Int)/\Kb x.1.toNat x.2.2.2.1/\List.length x.2.2.2.1<=x.1.toNat/\List.length x.2.2.2.2.1+(Si x.1.toNat x.2.2.2.1).length<=6000)
 (λx=>((jE (x.1,x.2.1,x.2.2.1,()) x.2.2.2.1 x.2.2.2.2.1,()),()))
theorem CV:Da Try.prog 83 (Sm 0):=
 Da.fb Sq Cm mixed Try.func83 (by kernel_rfl) (by kernel_rfl) λ_ h=>absurd h.2 (Fa _)
theorem oP: ∀m,Da Try.prog 83 (Sm m)
 |0=>CV
 |m+1=>PS (oP m)
theorem PH:Da Try.prog 83 LV:=Da.Anm (λx=>x.1.toNat-List.length x.2.2.2.1) oP
def Di:List Int->List Int->Int
 | [],[]=>0
 | [],_::_=> -1
 |_::_,[]=>1
 |x::a,y::b=>if x<y then-1 else if x>y then 1 else Di a b
def Nu (a b:List Int):Bool:=decide (Di a b<0)
def Ga (list:List (List Int)) (s:List Int):List Int:=list.foldl (λleast q=>if Nu (Bq s q) least=true then Bq s q else least) s
def iD (list:List (List Int)) (s:List Int):Prop:=list.length<=6000/\s.length<=20/\Kb s.length s/\ ∀q∈list,s.length=q.length/\It q=true
noncomputable def Rt (p:PP):Bool:=Bi p&&decide (p.1<=7)
noncomputable def mc (p:PP):List (List Int):=if Rt p=true then Cz p else []
noncomputable abbrev nI:Spec:=Hv (.pair (.oslice tI) .unit) tL false true (λx=>short (x.1.getD [])) (λx=>x.1.getD [])
noncomputable abbrev mu:Spec:=Hv (.pair tL .unit) tL false true (λx=>short x.1) (λx=>x.1)
noncomputable abbrev ey:Spec:=Hv (.pair tI .unit) .bool false true (λ_=>True) (λ_=>false)
noncomputable abbrev vR:Spec:=Hv (.pair tI (.pair tI .unit)) tI false true (λ_=>True) (λx=>if x.1<x.2.1 then-1 else if x.1>x.2.1 then 1 else 0)
noncomputable abbrev ao:Spec:=Hv (.pair tL (.pair tL .unit)) tI false true (λx=>short x.1/\short x.2.1) (λx=>Di x.1 x.2.1)
noncomputable abbrev Xl:Spec:=Hv (.pair tL (.pair tL .unit)) .bool false true (λx=>short x.1/\List.length x.1=List.length x.2.1) (λx=>Nu x.1 x.2.1)
noncomputable abbrev de:Spec:=Hv (.pair pR (.pair tL .unit)) tL false true (λx=>iD x.1 x.2.1) (λx=>Ga x.1 x.2.1)
noncomputable abbrev iW:Spec:=Hv (.pair Kg .unit) .bool false true (λx=>Lp x.1) (λx=>Rt x.1)
noncomputable abbrev Tv:Spec:=Hv (.pair Kg .unit) pR false false (λx=>Lp x.1) (λx=>mc x.1)
theorem QD (xs:Option (List Int)) (P:List Int->Prop):(Br xs.isNone (P (List.take 0 (List.drop 0 []))) (0=0/\0=([]:List Int).length/\0+(xs.getD []).length<=Dd/\P (List.take ([]++xs.getD []).length (List.drop 0 ([]++xs.getD [])))))=fnW Hf (look []) nI Try.f90 (xs,()) P:=by kernel_rfl
theorem Aa7 (x:Int) (P:Bool->Prop):(P (x !=x))=fnW Hf (look []) ey Try.f211 (x,()) P:=by kernel_rfl
theorem Aiw (x y:Int) (P:Int->Prop):(∃(y3:Bool),ey.fn (x,())=some y3/\ ∃(y4:Bool),ey.fn (y,())=some y4/\Br y3 (Br y4 (P (0:Int)) (P (-1:Int))) (Br y4 (P (1:Int)) (Br (decide (x<y)) (P (-1:Int)) (Br (decide (x>y)) (P (1:Int)) (P (0:Int))))))=fnW Hf (look [(211,ey)]) vR Try.f191 (x,y,()) P:=by kernel_rfl
theorem QE (a b:List Int) (P:Int->Prop):(Dt (λ(v3:Int×PUnit) (k4:Int×PUnit->Prop)=>Br (decide (v3.1<(↑a.length:Int))) (∃(y5:Int),idx a v3.1=some y5/\Br (decide (v3.1>=(↑b.length:Int))) (P (1:Int)) (∃(y6:Int),idx b v3.1=some y6/\ ∃(y7:Int),vR.fn (y5,y6,())=some y7/\Br (y7 !=(0:Int)) (P y7) (k4 (IntKind.i64.wrap (v3.1+(1:Int)),())))) (Br (decide ((↑a.length:Int)<(↑b.length:Int))) (P (-1:Int)) (P (0:Int)))) ((0:Int),PUnit.unit))=fnW Hf (look [(191,vR)]) ao Try.f151 (a,b,()) P:=by kernel_rfl
theorem JP (a b:List Int) (P:Bool->Prop):(Dt (λ(v3:Int×PUnit) (k4:Int×PUnit->Prop)=>Br (decide (v3.1<(↑a.length:Int))) (∃(y5:Int),idx a v3.1=some y5/\ ∃(y6:Int),idx b v3.1=some y6/\Br (y5 !=y6) (∃(y7:Int),idx a v3.1=some y7/\ ∃(y8:Int),idx b v3.1=some y8/\P (decide (y7<y8))) (k4 (IntKind.i64.wrap (v3.1+(1:Int)),()))) (P false)) ((0:Int),PUnit.unit))=fnW Hf (look []) Xl Try.f210 (a,b,()) P:=by kernel_rfl
theorem WL (l:List (List Int)) (s:List Int) (P:List Int->Prop):(∃(y3:List Int),mu.fn (s,())=some y3/\Dt (λ(v4:List Int×Int×PUnit) (k5:List Int×Int×PUnit->Prop)=>Br (decide (v4.2.1<(↑l.length:Int))) (∃(y6:List Int),idx l v4.2.1=some y6/\ ∃(y7:List Int),Nk.fn (s,y6,())=some y7/\ ∃(y8:Int),ao.fn (y7,v4.1,())=some y8/\Br (decide (y8<(0:Int))) (k5 (y7,IntKind.i64.wrap (v4.2.1+(1:Int)),())) (k5 (v4.1,IntKind.i64.wrap (v4.2.1+(1:Int)),()))) (P v4.1)) (y3,(0:Int),PUnit.unit))=fnW Hf (look [(90,mu),(68,Nk),(151,ao)]) de Try.f81 (l,s,()) P:=by kernel_rfl
theorem EB (p:Int×ByteArray×List (List Int)×Unit) (P:Bool->Prop):(∃(y2:Bool),Hc.fn ((p.1,p.2.1,p.2.2.1,()),())=some y2/\Br y2 (P (decide (p.1<=(7:Int)))) (P false))=fnW Hf (look [(119,Hc)]) iW Try.f63 (p,()) P:=by kernel_rfl
theorem JQ (p:Int×ByteArray×List (List Int)×Unit) (P:List (List Int)->Prop):(∃(y2:Bool),Hc.fn ((p.1,p.2.1,p.2.2.1,()),())=some y2/\Br (!y2) (P (List.take 0 (List.drop 0 []))) (Br (decide (p.1>(7:Int))) (P (List.take 0 (List.drop 0 []))) (0=0/\0=([]:List Int).length/\ ∃(y3:(List (List Int)×PUnit)×PUnit),LV.fn (p.1,p.2.1,p.2.2.1,List.take 0 (List.drop 0 []),[],())=some y3/\P (List.take y3.1.1.length (List.drop 0 y3.1.1)))))=fnW Hf (look [(47,Hc),(83,LV)]) Tv Try.f28 (p,()) P:=by kernel_rfl
theorem Sound.ofO {P:Program} {f:FuncId} {e:Ty} {r res:Ty} {Gh fresh:Bool} {pre:(Ty.pair (.oslice e) r).den->Prop} {val:(Ty.pair (.oslice e) r).den->res.den} {gP:(Ty.pair (.slice e) r).den->Prop} {sN:(Ty.pair (.slice e) r).den->res.den}
  (h:Sound P f (Go.Proofs.Ytkkdpknjohcekaa.Hv (.pair (.oslice e) r) res Gh fresh pre val))
  (hp: ∀(o:Option (List e.den)) (y:r.den),gP (o.getD [],y)->pre (o,y)/\val (o,y)=sN (o.getD [],y)):Sound P f (Go.Proofs.Ytkkdpknjohcekaa.Hv (.pair (.slice e) r) res Gh fresh gP sN):=by
 refine ⟨h.enter,λw S vs x y hS h2 h5=>?_⟩
 obtain ⟨xs,rest⟩:=x
 cases vs with
 |nil=>exact h2.elim
 |cons u us=>
  obtain ⟨h7,h8⟩:=h2
  obtain ⟨ox,h9,rfl⟩:=h7.told
  have gC:gP (ox.getD [],rest):=Bf λhn=>by
   have:(Go.Proofs.Ytkkdpknjohcekaa.Hv (.pair (.slice e) r) res Gh fresh gP sN).fn (ox.getD [],rest)=none:=Ai hn
   rw [this] at h5;cases h5
  obtain ⟨k1,k2⟩:=hp ox rest gC
  have hv:(Go.Proofs.Ytkkdpknjohcekaa.Hv (.pair (.slice e) r) res Gh fresh gP sN).fn (ox.getD [],rest)=some (sN (ox.getD [],rest)):=Ac gC
  rw [hv] at h5
  have h5:=Ax h5
  exact h.calls w S (u::us) (ox,rest) y hS ⟨h9,h8⟩ ((Ac k1).trans (by rw [k2];exact Ma some h5))
theorem OG (xs:Option (List Int)) (h:short (xs.getD [])):fnW Hf (look []) nI Try.f90 (xs,()) (λ(z:List Int)=>z=xs.getD []):=by
 unfold short at h
 refine Eq.mp (QD xs _) ⟨λhn=>?_,λ_=>⟨rfl,rfl,by show 0+(xs.getD []).length<=4294967296;omega,?_⟩⟩
 ·cases xs with
  |none=>rfl
  |some y=>cases hn
 ·simp only [Dl,No]
theorem tX:Sound Try.prog 90 nI:=
 Sound.Hv Fh Cm mixed Try.func90 (by kernel_rfl) (by kernel_rfl) λx h=>OG x.1 h
theorem yg:Sound Try.prog 90 mu:=Sound.ofO tX λ_ _ h=>⟨h,rfl⟩
theorem ZK (x:Int) (_:True):fnW Hf (look []) ey Try.f211 (x,()) (λ(z:Bool)=>z=false):=by
 refine Eq.mp (Aa7 x _) ?_
 simp
theorem CX:Sound Try.prog 211 ey:=
 Sound.Hv Fh Cm mixed Try.func211 (by kernel_rfl) (by kernel_rfl) λx h=>ZK x.1 h
theorem Aig (x y:Int) (_:True):fnW Hf (look [(211,ey)]) vR Try.f191 (x,y,()) (λ(z:Int)=>z=if x<y then-1 else if x>y then 1 else 0):=by
 refine Eq.mp (Aiw x y _) ⟨_,Ac trivial,_,Ac trivial,⟨λh=>(by cases h),λ_=>⟨λh=>(by cases h),λ_=>Br.dec (λh=>?_) λh=>Br.dec (λh2=>?_) λh2=>?_⟩⟩⟩
 ·rw [Ac h]
 ·rw [Ai h,Ac h2]
 ·rw [Ai h,Ai h2]
theorem PE:Sound Try.prog 191 vR:=
 Sound.Hv Fh (Bh CX Cm) mixed Try.func191 (by kernel_rfl) (by kernel_rfl) λx h=>Aig x.1 x.2.1 h
theorem OH (a b:List Int) (h:short a/\short b):fnW Hf (look [(191,vR)]) ao Try.f151 (a,b,()) (λ(z:Int)=>z=Di a b):=by
 obtain ⟨ha,hb⟩:=h
 unfold short at ha hb
 refine Eq.mp (QE a b _) ?_
 refine Ci a.length (λv=>v.1) (λj _=>j<=b.length/\Di (a.drop j) (b.drop j)=Di a b) rfl ⟨Iz _,by simp⟩ ?_
 rintro j ⟨i,⟨⟩⟩ K hj hi ⟨hR1,qN⟩ hK
 dsimp only at hi⊢
 subst hi
 refine Br.dec (λhl=>?_) λhl=>?_
 ·have hl:j<a.length:=by omega
  rw [Bz hl] at qN
  refine ⟨_,Df hl,Br.dec (λqT=>?_) λqT=>?_⟩
  ·have:j=b.length:=by omega
   rw [Mr (by omega:b.length<=j)] at qN
   rw [<-qN]
   rfl
  ·have hlb:j<b.length:=by omega
   rw [Bz hlb] at qN
   refine ⟨_,Df hlb,_,Ac trivial,?_⟩
   dsimp only
   simp only [Di] at qN
   by_cases h1:a[j]<b[j]
   ·rw [Ac h1] at qN⊢
    exact ⟨λ_=>qN,λh=>by cases h⟩
   ·rw [Ai h1] at qN⊢
    by_cases h2:a[j]>b[j]
    ·rw [Ac h2] at qN⊢
     exact ⟨λ_=>qN,λh=>by cases h⟩
    ·rw [Ai h2] at qN⊢
     refine ⟨λh=>(by cases h),λ_=>?_⟩
     rw [Cg (by omega)]
     exact hK hl _ rfl ⟨hlb,qN⟩
 ·have:j=a.length:=by omega
  subst this
  rw [Ot] at qN
  refine Br.dec (λh=>?_) λh=>?_
  ·rw [<-qN,Bz (by omega)]
   rfl
  ·rw [<-qN,Mr (by omega)]
   rfl
theorem tY:Sound Try.prog 151 ao:=
 Sound.Hv Fh (Bh PE Cm) mixed Try.func151 (by kernel_rfl) (by kernel_rfl) λx h=>OH x.1 x.2.1 h
theorem HT (a b:List Int) (h:short a/\a.length=b.length):fnW Hf (look []) Xl Try.f210 (a,b,()) (λ(z:Bool)=>z=Nu a b):=by
 obtain ⟨ha,hb⟩:=h
 unfold short at ha
 refine Eq.mp (JP a b _) ?_
 refine Ci a.length (λv=>v.1) (λj _=>Di (a.drop j) (b.drop j)=Di a b) rfl (by simp) ?_
 rintro j ⟨i,⟨⟩⟩ K hj hi qN hK
 dsimp only at hi⊢
 subst hi
 refine Br.dec (λhl=>?_) λhl=>?_
 ·have hl:j<a.length:=by omega
  have hlb:j<b.length:=by omega
  rw [Bz hl,Bz hlb] at qN
  simp only [Di] at qN
  refine ⟨_,Df hl,_,Df hlb,⟨λHq=>?_,λHq=>?_⟩⟩
  ·refine ⟨_,Df hl,_,Df hlb,?_⟩
   have Hq:a[j]≠b[j]:=by simpa using Hq
   unfold Nu
   rw [<-qN]
   by_cases h1:a[j]<b[j]
   ·rw [Ac h1];simp [h1]
   ·rw [Ai h1,Ac (by omega)];simp [h1]
  ·have Hq:a[j]=b[j]:=by simpa using Hq
   rw [Ai (by omega),Ai (by omega)] at qN
   rw [Cg (by omega)]
   exact hK hl _ rfl qN
 ·have:j=a.length:=by omega
  subst this
  rw [Ot,Mr (by omega)] at qN
  unfold Nu
  rw [<-qN]
  rfl
theorem sq:Sound Try.prog 210 Xl:=
 Sound.Hv Fh Cm mixed Try.func210 (by kernel_rfl) (by kernel_rfl) λx h=>HT x.1 x.2.1 h
theorem uD {list:List (List Int)} {s:List Int} (h:iD list s) {q:List Int} (hq:q∈list):(Bq s q).length=s.length/\Kb s.length (Bq s q):=by
 obtain ⟨_,h2,h3,h4⟩:=h
 obtain ⟨e,hp⟩:=h4 q hq
 have QY:=Ts hp
 refine ⟨by simp only [Bq,Na,Yb];exact e.symm,?_⟩
 unfold Bq
 refine bx (n:=s.length) (bx (n:=q.length) ?_ ?_) ?_
 ·rw [e];exact pP QY
 ·rw [<-e];exact h3
 ·rw [e];exact QY.row
theorem UP (l:List (List Int)) (s:List Int) (h:iD l s):fnW Hf (look [(90,mu),(68,Nk),(151,ao)]) de Try.f81 (l,s,()) (λ(z:List Int)=>z=Ga l s):=by
 have hs:short s:=by unfold short;have:=h.2.1;omega
 have GA:=h.1
 refine Eq.mp (WL l s _) ⟨_,Ac hs,?_⟩
 refine Ci l.length (λv=>v.2.1) (λj v=>v.1.length=s.length/\Ga (l.take j) s=v.1) rfl ⟨rfl,by simp [Ga]⟩ ?_
 rintro j ⟨ys,i,⟨⟩⟩ K hj hi ⟨h1,h2⟩ hK
 dsimp only at hi h1 h2⊢
 subst hi
 refine Br.dec (λhl=>?_) λhl=>?_
 ·have hl:j<l.length:=by omega
  have hq:l[j]∈l:=Al hl
  obtain ⟨e,hp⟩:=h.2.2.2 _ hq
  obtain ⟨c1,c2⟩:=uD h hq
  have gE:Ga (l.take (j+1)) s=if Nu (Bq s l[j]) ys=true then Bq s l[j] else ys:=by
   rw [<-h2]
   unfold Ga
   rw [Hy,Ab hl,List.foldl_append]
   rfl
  refine ⟨_,Df hl,_,Ac ⟨e,h.2.2.1,hp⟩,_,Ac ⟨by show short (Bq s l[j]);unfold short;have:=h.2.1;omega,by show short ys;unfold short;have:=h.2.1;omega⟩,Br.dec (λhc=>?_) λhc=>?_⟩
  ·have hc:Di (Bq s l[j]) ys<0:=hc
   rw [Cg (by omega)]
   refine hK hl _ rfl ⟨c1,?_⟩
   rw [gE,Ac (show Nu (Bq s l[j]) ys=true from Hu hc)]
  ·have hc: ¬Di (Bq s l[j]) ys<0:=hc
   rw [Cg (by omega)]
   refine hK hl _ rfl ⟨h1,?_⟩
   rw [gE,Ai (by unfold Nu;simpa using hc)]
 ·have:j=l.length:=by omega
  subst this
  rw [Bb] at h2
  exact h2.symm
theorem yd:Sound Try.prog 81 de:=
 Sound.Hv Fh (Bh yg (Bh fj (Bh tY Cm))) mixed Try.func81 (by kernel_rfl) (by kernel_rfl) λx h=>UP x.1 x.2.1 h
theorem CB (p:PP) (h:Lp p):fnW Hf (look [(119,Hc)]) iW Try.f63 (p,()) (λ(z:Bool)=>z=Rt p):=by
 refine Eq.mp (EB p _) ⟨_,Ac h,⟨λhv=>?_,λhv=>?_⟩⟩
 ·have hv:Bi p=true:=hv
  unfold Rt;rw [hv];rfl
 ·have hv:Bi p=false:=hv
  unfold Rt;rw [hv];rfl
theorem pv:Sound Try.prog 63 iW:=
 Sound.Hv Fh (Bh dp Cm) mixed Try.func63 (by kernel_rfl) (by kernel_rfl) λx h=>CB x.1 h
theorem au {p:PP} :Rt p=true↔Bi p=true/\p.1<=7:=by
 unfold Rt
 rw [Ag,Il]
theorem w6 {p:PP} {q:List Int} (h:q∈Cz p):q.Perm (upto p.1.toNat):=rm _ _ q (Iv _) (Bd.1 h).1
theorem DH {p:PP} (h:p.1<=7):(Cz p).length<=5040:=Ek (List.length_filter_le _ _) (rk (by omega))
theorem JD {p:PP} {s:List Int} (h:Rt p=true) (hs:En p.1 s=true):iD (Cz p) s:=by
 obtain ⟨hv,h7⟩:=au.1 h
 have hn:=(valid hv).n
 obtain ⟨e,hp⟩:=Fp.1 hs
 have QY:=Ts hp
 refine ⟨by have:=DH h7;omega,QY.len,QY.row,λq hq=>?_⟩
 have hg:=kO hn.1 hn.2 (w6 hq)
 obtain ⟨e2,uT⟩:=Fp.1 hg
 exact ⟨by omega,uT⟩
theorem zN (n:Nat):Si n []=lex n (upto n):=by
 unfold Si kR
 have:((upto n).filter λv=>!([]:List Int).contains v)=upto n:=List.filter_eq_self.2 λa _=>rfl
 rw [this]
 simp
theorem HU (p:PP) (h:Lp p):fnW Hf (look [(47,Hc),(83,LV)]) Tv Try.f28 (p,()) (λ(z:List (List Int))=>z=mc p):=by
 refine Eq.mp (JQ p _) ⟨_,Ac h,⟨λhn=>?_,λhn=>?_⟩⟩
 ·have hn:=Lw hn
  unfold mc
  rw [Ai λhh=>hn (au.1 hh).1]
  rfl
 ·have hn:=Jr hn
  refine Br.dec (λh7=>?_) λh7=>⟨rfl,rfl,_,Ac (And.intro hn (And.intro (show p.1<=7 from Int.not_lt.1 h7) (And.intro Lb (And.intro (λy hy=>by cases hy) (And.intro (Iz _) ?_))))),?_⟩
  ·unfold mc
   rw [Ai λhh=>by
    have h8:p.1>7:=h7
    have:=(au.1 hh).2
    omega]
   rfl
  ·show 0+(Si p.1.toNat []).length<=6000
   rw [zN]
   have h8: ¬p.1>7:=h7
   have:=rk (n:=p.1.toNat) (by omega)
   omega
  ·rw [Dl]
   unfold mc
   rw [Ac (au.2 ⟨hn,Int.not_lt.1 h7⟩)]
   show jE p [] []=_
   unfold jE Cz
   rw [zN]
   rfl
theorem ss:Sound Try.prog 28 Tv:=
 Sound.Hv Fh (Bh Rz (Jd PH Cm)) mixed Try.func28 (by kernel_rfl) (by kernel_rfl) λx h=>HU x.1 h
theorem zx {list:List (List Int)} {s:List Int} (h:iD list s):(Ga list s).length=s.length:=by
 have: ∀(l:List (List Int)) (x:List Int),(∀q∈l,q∈list)->x.length=s.length->(l.foldl (λleast q=>if Nu (Bq s q) least=true then Bq s q else least) x).length=s.length:=by
  intro l
  induction l with
  |nil=>intro x _ hx;exact hx
  |cons q l ih=>
   intro x hm hx
   rw [Nm]
   refine ih _ (λq' cA=>hm q' (An _ cA)) ?_
   split
   ·exact (uD h (hm q (by simp))).1
   ·exact hx
 exact this list s (λ_ h=>h) rfl
abbrev SS:Type:=List (List Int)×List Int×List Int×Bool×Unit
abbrev rLS:CK:= .row tL 31
abbrev rN:CK:= .row tI 3
def Gc (L:List (List Int)) (Ml:List Int) (s:List Int):Nat:=(Ml.takeWhile λi=>Nu (L.getD i.toNat []) s).length
structure Gm (m:Nat) (L:List (List Int)) (Ml:List Int):Prop where
 pF:L.length<=3000
 len: ∀x∈L,x.length=m
 short:m<=20
 perm:Ml.Perm (upto L.length)
 sorted:Ml.Pairwise λi j=>Nu (L.getD i.toNat []) (L.getD j.toNat [])=true
def oB (L:List (List Int)) (s:List Int):Int:=if s∈L then (L.idxOf s:Int) else-1
def We (Ml:List Int) (k:Nat) (x:Int):List Int:=Ml.take k++x::Ml.drop k
noncomputable abbrev ez:Spec:=Hv (.pair iZ (.pair tL .unit)) tI false true (λx=>Gm (List.length x.2.1) x.1.1 x.1.2.2.1) (λx=>(Gc x.1.1 x.1.2.2.1 x.2.1:Int))
noncomputable abbrev dj:Spec:=Hv (.pair iZ (.pair tL .unit)) tI false true (λx=>Gm (List.length x.2.1) x.1.1 x.1.2.2.1) (λx=>oB x.1.1 x.2.1)
noncomputable abbrev kU:MSpec:=fb [some 4,none,none] [(false,rLS),(false,rL),(false,rN),(false, .Hx .bool),(false, .Hx tL),(false, .Hx tI)] false [some 4] [rLS,rL,rN, .Hx .bool]
 (λx=>Gm (List.length x.2.2.2.2.1) x.1 x.2.2.1/\List.length x.2.1<=3000) (λx=>((x.1++ [x.2.2.2.2.1],x.2.1++ [x.2.2.2.2.2.1],We x.2.2.1 (Gc x.1 x.2.2.1 x.2.2.2.2.1) (List.length x.1),x.2.2.2.1,()),()))
def bX (L:List (List Int)):List Int:=(List.range L.length).foldl (λ(S:List Int) (i:Nat)=>We S (Gc (L.take i) S (L.getD i [])) (i:Int)) []
def Hg (g:List (List Int)) (x:List Int) (d:Int):List Int->List (List Int)->List Int->List (List Int)×List Int×Bool
 | [],L,D=>(L,D,true)
 |l::ls,L,D=>if Aj x (Av g l)∈L then Hg g x d ls L D else if L.length=3000 then (L,D,false) else Hg g x d ls (L++ [Aj x (Av g l)]) (D++ [d+1])
def Ka (g:List (List Int)) (ls:List Int):Nat->Nat->List (List Int)->List Int->List (List Int)×List Int×Bool
 |0,_,L,D=>(L,D,true)
 |f+1,k,L,D=>if k<L.length then (match Hg g (L.getD k []) (D.getD k 0) ls L D with
  |(L',D',true)=>Ka g ls f (k+1) L' D'
  |(L',D',false)=>(L',D',false)) else (L,D,true)
def Jb (g:List (List Int)) (s:List Int):List (List Int)×List Int×Bool:=Ka g (Bm g.length) 3001 0 [s] [0]
def Oj (g:List (List Int)) (s:List Int):SS:=((Jb g s).1,(Jb g s).2.1,bX (Jb g s).1,(Jb g s).2.2,())
noncomputable abbrev Gr:Spec:=Hv (.pair Kg (.pair tL .unit)) iZ false false (λx=>Bi x.1=true/\List.length x.2.1<=20/\ ∀y∈x.2.1,0<=y/\y<x.1.1) (λx=>Oj x.1.2.2.1 x.2.1)
abbrev MB:Type:=Int×Int×List (List Int)×List Int×List Int×Bool×PUnit
theorem Aex (f:List (List Int)×List Int×List Int×Bool×Unit) (s:List Int) (P:Int->Prop):(Dt (λ(v3:MB) (k4:MB->Prop)=>Br (decide (v3.1<v3.2.1)) ((2:Int)≠(0:Int)/\ ∃(y5:Int),idx v3.2.2.2.2.1 (IntKind.i64.wrap ((IntKind.i64.wrap (v3.1+v3.2.1)).tdiv (2:Int)))=some y5/\ ∃(y6:List Int),idx v3.2.2.1 y5=some y6/\ ∃(y7:Bool),Xl.fn (y6,s,())=some y7/\Br y7 (k4 (IntKind.i64.wrap (IntKind.i64.wrap ((IntKind.i64.wrap (v3.1+v3.2.1)).tdiv (2:Int))+(1:Int)),v3.2.1,v3.2.2.1,v3.2.2.2.1,v3.2.2.2.2.1,v3.2.2.2.2.2.1,())) (k4 (v3.1,IntKind.i64.wrap ((IntKind.i64.wrap (v3.1+v3.2.1)).tdiv (2:Int)),v3.2.2.1,v3.2.2.2.1,v3.2.2.2.2.1,v3.2.2.2.2.2.1,()))) (P v3.1)) ((0:Int),(↑f.2.2.1.length:Int),f.1,f.2.1,f.2.2.1,f.2.2.2.1,PUnit.unit))=fnW Hf (look [(210,Xl)]) ez Try.f185 (f,s,()) P:=by kernel_rfl
theorem WU (f:List (List Int)×List Int×List Int×Bool×Unit) (s:List Int) (P:Int->Prop):(∃(y3:Int),ez.fn ((f.1,f.2.1,f.2.2.1,f.2.2.2.1,()),s,())=some y3/\Br (decide (y3<(↑f.2.2.1.length:Int))) (∃(y4:Int),idx f.2.2.1 y3=some y4/\ ∃(y5:List Int),idx f.1 y4=some y5/\ ∃(y6:Bool),Ft.fn (y5,s,())=some y6/\Br y6 (∃(y7:Int),idx f.2.2.1 y3=some y7/\P y7) (P (-1:Int))) (P (-1:Int)))=fnW Hf (look [(185,ez),(80,Ft)]) dj Try.f134 (f,s,()) P:=by kernel_rfl
theorem Aew (L:List (List Int)) (D S:List Int) (b:Bool) (s:List Int) (d:Int) (P:((List (List Int)×List Int×List Int×Bool×Unit)×Unit)->Prop):(∃(y7:Int),ez.fn ((List.take L.length (List.drop 0 L),List.take D.length (List.drop 0 D),List.take S.length (List.drop 0 S),b,()),s,())=some y7/\0=0/\S.length=S.length/\S.length+(List.take 1 (List.drop 0 [(0:Int)])).length<=Dd/\((0:Int)<=IntKind.i64.wrap (y7+(1:Int))/\IntKind.i64.wrap (y7+(1:Int))<=(↑(S++List.take 1 (List.drop 0 [(0:Int)])).length:Int)/\(↑(S++List.take 1 (List.drop 0 [(0:Int)])).length:Int)<=(↑(S++List.take 1 (List.drop 0 [(0:Int)])).length:Int))/\((0:Int)<=y7/\y7<=(↑(S++List.take 1 (List.drop 0 [(0:Int)])).length:Int)/\(↑(S++List.take 1 (List.drop 0 [(0:Int)])).length:Int)<=(↑(S++List.take 1 (List.drop 0 [(0:Int)])).length:Int))/\((0:Int)<=y7/\y7<(↑(S++List.take 1 (List.drop 0 [(0:Int)])).length:Int))/\0+y7.toNat<(Dp (S++List.take 1 (List.drop 0 [(0:Int)])) (0+(IntKind.i64.wrap (y7+(1:Int))).toNat) (List.take ((↑(S++List.take 1 (List.drop 0 [(0:Int)])).length:Int).toNat-(IntKind.i64.wrap (y7+(1:Int))).toNat) (List.take ((↑(S++List.take 1 (List.drop 0 [(0:Int)])).length:Int).toNat-y7.toNat) (List.drop (0+y7.toNat) (S++List.take 1 (List.drop 0 [(0:Int)])))))).length/\0=0/\L.length=L.length/\L.length+(List.take 1 (List.drop 0 [s])).length<=Dd/\0=0/\D.length=D.length/\D.length+(List.take 1 (List.drop 0 [d])).length<=Dd/\P ((List.take (L++List.take 1 (List.drop 0 [s])).length (List.drop 0 (L++List.take 1 (List.drop 0 [s]))),List.take (D++List.take 1 (List.drop 0 [d])).length (List.drop 0 (D++List.take 1 (List.drop 0 [d]))),List.take (S++List.take 1 (List.drop 0 [(0:Int)])).length (List.drop 0 ((Dp (S++List.take 1 (List.drop 0 [(0:Int)])) (0+(IntKind.i64.wrap (y7+(1:Int))).toNat) (List.take ((↑(S++List.take 1 (List.drop 0 [(0:Int)])).length:Int).toNat-(IntKind.i64.wrap (y7+(1:Int))).toNat) (List.take ((↑(S++List.take 1 (List.drop 0 [(0:Int)])).length:Int).toNat-y7.toNat) (List.drop (0+y7.toNat) (S++List.take 1 (List.drop 0 [(0:Int)])))))).set (0+y7.toNat) (↑L.length:Int))),b,()),()))=fnMW Vy (look [(185,ez)]) kU Try.f192 (L,D,S,b,s,d,()) P:=by kernel_rfl
abbrev mF:Type:=Int×Int×ByteArray×List (List Int)×Bool×Bool×List (List Int)×List Int×List Int×List (List Int)×List Int×List Int×PUnit
abbrev DJ:Type:=(List (List Int)×List Int×List Int×Bool×PUnit)×PUnit
theorem Aab (p:Int×ByteArray×List (List Int)×Unit) (s:List Int) (P:(List (List Int)×List Int×List Int×Bool×Unit)->Prop):(∃(y3:List Int),La.fn (s,())=some y3/\ ∃(y4:DJ),kU.fn ([],[],[],false,y3,(0:Int),())=some y4/\ ∃(y5:List Int),Ul.fn ((p.1,p.2.1,p.2.2.1,()),())=some y5/\0=0/\0=([]:List Int).length/\0=0/\0=([]:List Int).length/\0=0/\0=([]:List Int).length/\0=0/\y4.1.1.length=y4.1.1.length/\0=0/\y4.1.2.1.length=y4.1.2.1.length/\0=0/\y4.1.2.2.1.length=y4.1.2.2.1.length/\Dt (λ(v6:mF) (k7:mF->Prop)=>Br (decide (v6.1<(↑v6.2.2.2.2.2.2.2.2.2.1.length:Int))) (0=0/\v6.2.2.2.2.2.2.1.length=v6.2.2.2.2.2.2.1.length/\0=0/\v6.2.2.2.2.2.2.2.1.length=v6.2.2.2.2.2.2.2.1.length/\0=0/\v6.2.2.2.2.2.2.2.2.1.length=v6.2.2.2.2.2.2.2.2.1.length/\0=0/\v6.2.2.2.2.2.2.2.2.2.1.length=v6.2.2.2.2.2.2.2.2.2.1.length/\0=0/\v6.2.2.2.2.2.2.2.2.2.2.1.length=v6.2.2.2.2.2.2.2.2.2.2.1.length/\0=0/\v6.2.2.2.2.2.2.2.2.2.2.2.1.length=v6.2.2.2.2.2.2.2.2.2.2.2.1.length/\Dt (λ(v8:mF) (k9:mF->Prop)=>Br (decide (v8.1<(↑y5.length:Int))) (((0:Int)<=v6.1/\v6.1<(↑v8.2.2.2.2.2.2.2.2.2.1.length:Int))/\ ∃(Qq:List Int),v8.2.2.2.2.2.2.2.2.2.1[0+v6.1.toNat]?=some Qq/\ ∃(Qv:Int),idx y5 v8.1=some Qv/\ ∃(sP:List Int),dd.fn ((v8.2.1,v8.2.2.1,v8.2.2.2.1,()),Qq,Qv,())=some sP/\ ∃(we:Int),dj.fn ((List.take v8.2.2.2.2.2.2.2.2.2.1.length (List.drop 0 v8.2.2.2.2.2.2.2.2.2.1),List.take v8.2.2.2.2.2.2.2.2.2.2.1.length (List.drop 0 v8.2.2.2.2.2.2.2.2.2.2.1),List.take v8.2.2.2.2.2.2.2.2.2.2.2.1.length (List.drop 0 v8.2.2.2.2.2.2.2.2.2.2.2.1),v8.2.2.2.2.2.1,()),sP,())=some we/\Br (decide (we>=(0:Int))) (0=0/\v8.2.2.2.2.2.2.1.length=v8.2.2.2.2.2.2.1.length/\0=0/\v8.2.2.2.2.2.2.2.1.length=v8.2.2.2.2.2.2.2.1.length/\0=0/\v8.2.2.2.2.2.2.2.2.1.length=v8.2.2.2.2.2.2.2.2.1.length/\0=0/\v8.2.2.2.2.2.2.2.2.2.1.length=v8.2.2.2.2.2.2.2.2.2.1.length/\0=0/\v8.2.2.2.2.2.2.2.2.2.2.1.length=v8.2.2.2.2.2.2.2.2.2.2.1.length/\0=0/\v8.2.2.2.2.2.2.2.2.2.2.2.1.length=v8.2.2.2.2.2.2.2.2.2.2.2.1.length/\k9 (IntKind.i64.wrap (v8.1+(1:Int)),v8.2.1,v8.2.2.1,v8.2.2.2.1,v8.2.2.2.2.1,v8.2.2.2.2.2.1,v8.2.2.2.2.2.2.1,v8.2.2.2.2.2.2.2.1,v8.2.2.2.2.2.2.2.2.1,v8.2.2.2.2.2.2.2.2.2.1,v8.2.2.2.2.2.2.2.2.2.2.1,v8.2.2.2.2.2.2.2.2.2.2.2.1,())) (Br ((↑v8.2.2.2.2.2.2.2.2.2.1.length:Int)==(3000:Int)) (P (List.take v8.2.2.2.2.2.2.2.2.2.1.length (List.drop 0 v8.2.2.2.2.2.2.2.2.2.1),List.take v8.2.2.2.2.2.2.2.2.2.2.1.length (List.drop 0 v8.2.2.2.2.2.2.2.2.2.2.1),List.take v8.2.2.2.2.2.2.2.2.2.2.2.1.length (List.drop 0 v8.2.2.2.2.2.2.2.2.2.2.2.1),v8.2.2.2.2.2.1,())) (((0:Int)<=v6.1/\v6.1<(↑v8.2.2.2.2.2.2.2.2.2.2.1.length:Int))/\ ∃(dv:Int),v8.2.2.2.2.2.2.2.2.2.2.1[0+v6.1.toNat]?=some dv/\0=0/\v8.2.2.2.2.2.2.2.2.2.1.length=v8.2.2.2.2.2.2.2.2.2.1.length/\0=0/\v8.2.2.2.2.2.2.2.2.2.2.1.length=v8.2.2.2.2.2.2.2.2.2.2.1.length/\0=0/\v8.2.2.2.2.2.2.2.2.2.2.2.1.length=v8.2.2.2.2.2.2.2.2.2.2.2.1.length/\ ∃(oY:DJ),kU.fn (v8.2.2.2.2.2.2.2.2.2.1,v8.2.2.2.2.2.2.2.2.2.2.1,v8.2.2.2.2.2.2.2.2.2.2.2.1,v8.2.2.2.2.2.1,sP,IntKind.i64.wrap (dv+(1:Int)),())=some oY/\0=0/\v8.2.2.2.2.2.2.1.length=v8.2.2.2.2.2.2.1.length/\0=0/\v8.2.2.2.2.2.2.2.1.length=v8.2.2.2.2.2.2.2.1.length/\0=0/\v8.2.2.2.2.2.2.2.2.1.length=v8.2.2.2.2.2.2.2.2.1.length/\0=0/\oY.1.1.length=oY.1.1.length/\0=0/\oY.1.2.1.length=oY.1.2.1.length/\0=0/\oY.1.2.2.1.length=oY.1.2.2.1.length/\k9 (IntKind.i64.wrap (v8.1+(1:Int)),v8.2.1,v8.2.2.1,v8.2.2.2.1,v8.2.2.2.2.1,oY.1.2.2.2.1,v8.2.2.2.2.2.2.1,v8.2.2.2.2.2.2.2.1,v8.2.2.2.2.2.2.2.2.1,oY.1.1,oY.1.2.1,oY.1.2.2.1,())))) (0=0/\v8.2.2.2.2.2.2.1.length=v8.2.2.2.2.2.2.1.length/\0=0/\v8.2.2.2.2.2.2.2.1.length=v8.2.2.2.2.2.2.2.1.length/\0=0/\v8.2.2.2.2.2.2.2.2.1.length=v8.2.2.2.2.2.2.2.2.1.length/\0=0/\v8.2.2.2.2.2.2.2.2.2.1.length=v8.2.2.2.2.2.2.2.2.2.1.length/\0=0/\v8.2.2.2.2.2.2.2.2.2.2.1.length=v8.2.2.2.2.2.2.2.2.2.2.1.length/\0=0/\v8.2.2.2.2.2.2.2.2.2.2.2.1.length=v8.2.2.2.2.2.2.2.2.2.2.2.1.length/\k7 (IntKind.i64.wrap (v6.1+(1:Int)),v8.2.1,v8.2.2.1,v8.2.2.2.1,v8.2.2.2.2.1,v8.2.2.2.2.2.1,v8.2.2.2.2.2.2.1,v8.2.2.2.2.2.2.2.1,v8.2.2.2.2.2.2.2.2.1,v8.2.2.2.2.2.2.2.2.2.1,v8.2.2.2.2.2.2.2.2.2.2.1,v8.2.2.2.2.2.2.2.2.2.2.2.1,()))) ((0:Int),v6.2.1,v6.2.2.1,v6.2.2.2.1,v6.2.2.2.2.1,v6.2.2.2.2.2.1,v6.2.2.2.2.2.2.1,v6.2.2.2.2.2.2.2.1,v6.2.2.2.2.2.2.2.2.1,v6.2.2.2.2.2.2.2.2.2.1,v6.2.2.2.2.2.2.2.2.2.2.1,v6.2.2.2.2.2.2.2.2.2.2.2.1,PUnit.unit)) (P (List.take v6.2.2.2.2.2.2.2.2.2.1.length (List.drop 0 v6.2.2.2.2.2.2.2.2.2.1),List.take v6.2.2.2.2.2.2.2.2.2.2.1.length (List.drop 0 v6.2.2.2.2.2.2.2.2.2.2.1),List.take v6.2.2.2.2.2.2.2.2.2.2.2.1.length (List.drop 0 v6.2.2.2.2.2.2.2.2.2.2.2.1),true,()))) ((0:Int),p.1,p.2.1,p.2.2.1,false,y4.1.2.2.2.1,[],[],[],y4.1.1,y4.1.2.1,y4.1.2.2.1,PUnit.unit))=fnW Aeq (look [(86,La),(192,kU),(144,Ul),(145,dd),(134,dj)]) Gr Try.f153 (p,s,()) P:=by kernel_rfl
theorem qo: ∀ {a b:List Int},Di a b=0↔a=b
 | [],[]=>by simp [Di]
 | [],_::_=>by simp [Di]
 |_::_,[]=>by simp [Di]
 |x::a,y::b=>by
  simp only [Di,Ge]
  by_cases h1:x<y
  ·rw [Ac h1]
   exact ⟨λh=>by omega,λh=>by omega⟩
  ·rw [Ai h1]
   by_cases h2:x>y
   ·rw [Ac h2]
    exact ⟨λh=>by omega,λh=>by omega⟩
   ·rw [Ai h2,qo]
    exact ⟨λh=>⟨by omega,h⟩,λh=>h.2⟩
theorem KD: ∀(a b:List Int),Di b a= -Di a b
 | [],[]=>by simp [Di]
 | [],_::_=>by simp [Di]
 |_::_,[]=>by simp [Di]
 |x::a,y::b=>by
  simp only [Di]
  rcases Int.lt_trichotomy x y with h1|h1|h1
  ·simp [h1,show ¬y<x by omega]
  ·subst h1
   simp [KD a b]
  ·simp [h1,show ¬x<y by omega]
theorem uE: ∀ {a b c:List Int},Di a b<0->Di b c<0->Di a c<0
 | [],[],_,h,_=>by simp [Di] at h
 |_::_,[],_,h,_=>by simp [Di] at h
 |_,_::_,[],_,h=>by simp [Di] at h
 | [],_::_,_::_,_,_=>by simp [Di]
 |x::a,y::b,z::c,h1,h2=>by
  simp only [Di] at h1 h2⊢
  by_cases e1:x<y
  ·by_cases e2:y<z
   ·rw [Ac (by omega)];omega
   ·rw [Ai e2] at h2
    by_cases e3:y>z
    ·rw [Ac e3] at h2;omega
    ·rw [Ac (by omega)];omega
  ·rw [Ai e1] at h1
   by_cases e2:x>y
   ·rw [Ac e2] at h1;omega
   ·rw [Ai e2] at h1
    by_cases e3:y<z
    ·rw [Ac (by omega)];omega
    ·rw [Ai e3] at h2
     by_cases e4:y>z
     ·rw [Ac e4] at h2;omega
     ·rw [Ai e4] at h2
      rw [Ai (by omega),Ai (by omega)]
      exact uE h1 h2
theorem lt_iff {a b:List Int} :Nu a b=true↔Di a b<0:=Il
theorem nm {a b c:List Int} (h1:Nu a b=true) (h2:Nu b c=true):Nu a c=true:=lt_iff.2 (uE (lt_iff.1 h1) (lt_iff.1 h2))
theorem Tq (a:List Int):Nu a a=false:=by
 have:Di a a=0:=qo.2 rfl
 unfold Nu;rw [this];rfl
theorem rq {a b:List Int} (h:Nu a b=false) (Hq:a≠b):Nu b a=true:=by
 rw [lt_iff,KD a b]
 have h1: ¬Di a b<0:= λh'=>by rw [lt_iff.2 h'] at h;cases h
 have h2:Di a b≠0:= λh'=>Hq (qo.1 h')
 omega
theorem jQ {α:Type} (q:α->Bool): ∀(l:List α),l.Pairwise (λi j=>q j=true->q i=true)-> ∀k (hk:k<l.length),k<(l.takeWhile q).length↔q l[k]=true
 | [],_,k,hk=>by simp at hk
 |a::l,h,k,hk=>by
  obtain ⟨h1,h2⟩:=Lq.1 h
  by_cases ha:q a=true
  ·rw [List.takeWhile_cons_of_pos ha]
   rcases k with _|k
   ·simpa using ha
   ·simp only [Aw,Jz,Nat.add_lt_add_iff_right]
    exact jQ q l h2 k (by simpa using hk)
  ·rw [List.takeWhile_cons_of_neg ha]
   simp only [Ho,Fa,false_iff]
   rcases k with _|k
   ·exact ha
   ·simp only [Jz]
    exact λhq=>ha (h1 _ (Al _) hq)
theorem Gm.rj {m:Nat} {L:List (List Int)} {Ml:List Int} (h:Gm m L Ml):Ml.length=L.length:=by rw [h.perm.length_eq,Iv]
theorem Gm.idx {m:Nat} {L:List (List Int)} {Ml:List Int} (h:Gm m L Ml) {k:Nat} (hk:k<Ml.length):0<=Ml[k]/\Ml[k]<L.length:=Kn.1 (h.perm.mem_iff.1 (Al hk))
theorem Gm.dk {m:Nat} {L:List (List Int)} {Ml:List Int} (h:Gm m L Ml) (s:List Int) {k:Nat} (hk:k<Ml.length):k<Gc L Ml s↔Nu (L.getD Ml[k].toNat []) s=true:=
 jQ _ Ml (h.sorted.imp λdO hj=>nm dO hj) k hk
theorem LW (L:List (List Int)) (Ml s:List Int):Gc L Ml s<=Ml.length:=(List.takeWhile_sublist _).length_le
theorem Gm.inj {m:Nat} {L:List (List Int)} {Ml:List Int} (h:Gm m L Ml) {i j:Nat} (hi:i<L.length) (hj:j<L.length) (e:L[i]=L[j]):i=j:=by
 have mem: ∀i,i<L.length->(i:Int)∈Ml:= λi hi=>h.perm.mem_iff.2 (Kn.2 ⟨by omega,by omega⟩)
 obtain ⟨p,hp,ep⟩:=Bx.1 (mem i hi)
 obtain ⟨q,hq,eq⟩:=Bx.1 (mem j hj)
 have get: ∀i (hi:i<L.length),L.getD ((i:Int)).toNat []=L[i]:= λi hi=>by rw [As,Ah,Ab hi];rfl
 rcases Nat.lt_trichotomy p q with h1|h1|h1
 ·have:=De.1 h.sorted p q hp hq h1
  rw [ep,eq,get i hi,get j hj,e,Tq] at this
  cases this
 ·subst h1
  rw [ep] at eq
  omega
 ·have:=De.1 h.sorted q p hq hp h1
  rw [ep,eq,get i hi,get j hj,e,Tq] at this
  cases this
theorem Vd {L:List (List Int)} {k:Nat} (h:k<L.length):L.getD k []=L[k]:=by rw [Ah,Ab h];rfl
theorem Gm.wz {m:Nat} {L:List (List Int)} {Ml:List Int} (h:Gm m L Ml) {s:List Int} :
  (∃hk:Gc L Ml s<Ml.length,L.getD Ml[Gc L Ml s].toNat []=s/\oB L s=Ml[Gc L Ml s])\/(oB L s= -1/\ ∀hk:Gc L Ml s<Ml.length,L.getD Ml[Gc L Ml s].toNat []≠s):=by
 by_cases hm:s∈L
 ·left
  obtain ⟨j,hj,rfl⟩:=Bx.1 hm
  obtain ⟨p,hp,ep⟩:=Bx.1 (h.perm.mem_iff.2 (Kn.2 ⟨by omega,by omega⟩):(j:Int)∈Ml)
  have gj:L.getD Ml[p].toNat []=L[j]:=by rw [ep,As,Vd hj]
  have hs:Gc L Ml L[j]=p:=by
   have h1: ¬p<Gc L Ml L[j]:= λh1=>by
    have:=(h.dk L[j] hp).1 h1
    rw [gj,Tq] at this;cases this
   have h2: ¬Gc L Ml L[j]<p:= λh2=>by
    have h3:=(h.dk L[j] (k:=Gc L Ml L[j]) (by omega)).2 (by
     have:=De.1 h.sorted (Gc L Ml L[j]) p (by omega) hp h2
     rw [gj] at this;exact this)
    omega
   omega
  have hx:L.idxOf L[j]=j:=by
   have h1:L.idxOf L[j]<L.length:=List.idxOf_lt_length_of_mem hm
   exact h.inj h1 hj (List.getElem_idxOf h1)
  refine ⟨by omega,?_,?_⟩
  ·simp only [hs];exact gj
  ·unfold oB
   rw [Ac hm,hx]
   simp only [hs];exact ep.symm
 ·right
  refine ⟨by unfold oB;rw [Ai hm],λhk e=>hm ?_⟩
  have hi:=h.idx hk
  rw [Vd (by omega)] at e
  rw [<-e]
  exact Al _
theorem TR (Ml:List Int) (k:Nat) (x:Int):(We Ml k x).Perm (x::Ml):=by
 unfold We
 refine List.perm_middle.trans (List.Perm.cons x ?_)
 rw [Fo]
theorem Gm.add {m:Nat} {L:List (List Int)} {Ml s:List Int} (h:Gm m L Ml) (hn:s∉L) (hl:s.length=m) (hr:L.length<3000):Gm m (L++ [s]) (We Ml (Gc L Ml s) L.length):=by
 have zY: ∀i∈Ml,(L++ [s]).getD i.toNat []=L.getD i.toNat []:= λi hi=>by
  have:=Kn.1 (h.perm.mem_iff.1 hi)
  rw [Ah,Ah,Ar (by omega)]
 have Afx:(L++ [s]).getD ((L.length:Int)).toNat []=s:=by
  rw [As,Ah,Aq (by omega),Nat.sub_self];rfl
 refine ⟨by rw [Au,Bw];omega,λx hx=>?_,h.short,?_,?_⟩
 ·rcases Az.1 hx with hx|hx
  ·exact h.len x hx
  ·rw [Ae.1 hx];exact hl
 ·refine (TR _ _ _).trans ?_
  rw [Au,Bw,Un]
  exact (List.Perm.cons _ h.perm).trans (List.perm_append_singleton _ _).symm
 ·unfold We
  have hs:=h.sorted
  rw [<-Fo (Gc L Ml s) Ml] at hs
  obtain ⟨s1,s2,s3⟩:=Ic.1 hs
  have mt: ∀i∈Ml.take (Gc L Ml s),i∈Ml/\Nu (L.getD i.toNat []) s=true:= λi hi=>by
   obtain ⟨k,hk,rfl⟩:=Bx.1 hi
   have hk2:k<Gc L Ml s:=by rw [Cs] at hk;omega
   have hk3:k<Ml.length:=by rw [Cs] at hk;omega
   rw [List.getElem_take]
   exact ⟨Al _,(h.dk s hk3).1 hk2⟩
  have md: ∀i∈Ml.drop (Gc L Ml s),i∈Ml/\Nu s (L.getD i.toNat [])=true:= λi hi=>by
   obtain ⟨k,hk,rfl⟩:=Bx.1 hi
   rw [Sb] at hk
   have hk3:Gc L Ml s+k<Ml.length:=by omega
   rw [List.getElem_drop]
   refine ⟨Al _,rq ?_ λe=>hn ?_⟩
   ·exact Bool.eq_false_iff.2 λhh=>by
     have:=(h.dk s hk3).2 hh
     omega
   ·have hi:=h.idx hk3
    rw [Vd (by omega)] at e
    rw [<-e];exact Al _
  refine Ic.2 ⟨s1.imp_of_mem λ {a b} ha hb pd=>?_,Lq.2 ⟨λb hb=>?_,s2.imp_of_mem λ {a b} ha hb pd=>?_⟩,λa ha b hb=>?_⟩
  ·rw [zY a (mt a ha).1,zY b (mt b hb).1];exact pd
  ·rw [Afx,zY b (md b hb).1];exact (md b hb).2
  ·rw [zY a (md a ha).1,zY b (md b hb).1];exact pd
  ·rcases Ay.1 hb with rfl|hb
   ·rw [Afx,zY a (mt a ha).1];exact (mt a ha).2
   ·rw [zY a (mt a ha).1,zY b (md b hb).1];exact s3 a ha b hb
theorem eB (L:List (List Int)) (s:List Int):bX (L++ [s])=We (bX L) (Gc L (bX L) s) L.length:=by
 unfold bX
 rw [Au,Bw,List.range_succ,List.foldl_append]
 have e: ∀(is:List Nat) (S:List Int),(∀i∈is,i<L.length)->is.foldl (λ(S:List Int) (i:Nat)=>We S (Gc ((L++ [s]).take i) S ((L++ [s]).getD i [])) (i:Int)) S=is.foldl (λ(S:List Int) (i:Nat)=>We S (Gc (L.take i) S (L.getD i [])) (i:Int)) S:=by
  intro is
  induction is with
  |nil=>intro S _;rfl
  |cons i is ih=>
   intro S h
   have hi:=h i (by simp)
   rw [Nm,Nm,ih _ λj hj=>h j (An _ hj)]
   congr 2
   rw [List.take_append_of_le_length (by omega),Ah,Ar hi,<-Ah]
 rw [e _ _ λi hi=>Ej.1 hi]
 simp only [Nm,List.foldl_nil]
 congr 2
 ·rw [List.take_append_of_le_length (Ao _),Bb]
 ·rw [Ah,Aq (by omega),Nat.sub_self];rfl
theorem mw {m:Nat} (h:m<=20):Gm m [] []:=⟨by simp,λx hx=>(by cases hx),h,by simp [upto],List.Pairwise.nil⟩
theorem TP {α:Type} {xs:List α} {y:Int} (h0:0<=y) (h:y.toNat<xs.length):idx xs y=some xs[y.toNat]:=by
 unfold idx
 rw [Ac h0,Ab h]
theorem Ae8 (f:SS) (s:List Int) (h:Gm s.length f.1 f.2.2.1):fnW Hf (look [(210,Xl)]) ez Try.f185 (f,s,()) (λ(z:Int)=>z=(Gc f.1 f.2.2.1 s:Int)):=by
 obtain ⟨L,D,Ml,b,⟨⟩⟩:=f
 dsimp only at h⊢
 have hle:=LW L Ml s
 have z7:=h.rj
 have qS:=h.pF
 refine Eq.mp (Aex (L,D,Ml,b,()) s _) ?_
 refine Dt.mk (λv=>v.2.2.1=L/\v.2.2.2.2.1=Ml/\ ∃lo hi:Nat,v.1=lo/\v.2.1=hi/\lo<=hi/\hi<=Ml.length/\lo<=Gc L Ml s/\Gc L Ml s<=hi) (λv=>(v.2.1-v.1).toNat)
  ⟨rfl,rfl,0,Ml.length,rfl,rfl,by omega,by omega,by omega,hle⟩ ?_
 rintro ⟨lo',j8,L',D',PN,b',⟨⟩⟩ ⟨h1,h2,lo,hi,h3,h4,h5,h6,h7,h8⟩
 dsimp only at h1 h2 h3 h4⊢
 subst h1 h2 h3 h4
 refine Br.dec (λhl=>?_) λhl=>?_
 ·have em:IntKind.i64.wrap ((IntKind.i64.wrap ((lo:Int)+(hi:Int))).tdiv 2)=(((lo+hi)/2:Nat):Int):=by
   rw [Dh (n:=(lo:Int)+(hi:Int)) (by omega) (by omega),Int.tdiv_eq_ediv_of_nonneg (by omega),Dh (by omega) (by omega)]
   omega
  rw [em]
  have hm1:(lo+hi)/2<PN.length:=by omega
  have YJ:=h.idx hm1
  have YK:PN[(lo+hi)/2].toNat<L'.length:=by omega
  have XF:=Vd YK
  have hlen:=h.len _ (Al YK)
  have GJ:short L'[PN[(lo+hi)/2].toNat]:=by
   unfold short
   have:=h.short;omega
  refine ⟨by decide,_,Df hm1,_,TP YJ.1 YK,_,Ac ⟨GJ,hlen⟩,⟨λhc=>?_,λhc=>?_⟩⟩
  ·have hc:Nu L'[PN[(lo+hi)/2].toNat] s=true:=hc
   have hs:=(h.dk s hm1).2 (by rw [XF];exact hc)
   rw [Cg (by omega)]
   exact ⟨⟨rfl,rfl,(lo+hi)/2+1,hi,rfl,rfl,by omega,h6,by omega,h8⟩,by omega⟩
  ·have hc:Nu L'[PN[(lo+hi)/2].toNat] s=false:=hc
   have hs: ¬(lo+hi)/2<Gc L' PN s:= λhh=>by
    have:=(h.dk s hm1).1 hh
    rw [XF,hc] at this;cases this
   exact ⟨⟨rfl,rfl,lo,(lo+hi)/2,rfl,rfl,by omega,by omega,h7,by omega⟩,by omega⟩
 ·show (lo:Int)=_
  omega
theorem sr:Sound Try.prog 185 ez:=
 Sound.Hv Fh (Bh sq Cm) mixed Try.func185 (by kernel_rfl) (by kernel_rfl) λx h=>Ae8 x.1 x.2.1 h
theorem UX (f:SS) (s:List Int) (h:Gm s.length f.1 f.2.2.1):fnW Hf (look [(185,ez),(80,Ft)]) dj Try.f134 (f,s,()) (λ(z:Int)=>z=oB f.1 s):=by
 obtain ⟨L,D,Ml,b,⟨⟩⟩:=f
 dsimp only at h⊢
 refine Eq.mp (WU (L,D,Ml,b,()) s _) ⟨_,Ac h,Br.dec (λhl=>?_) λhl=>?_⟩
 ·have hl:Gc L Ml s<Ml.length:=by
   have hl:((Gc L Ml s:Nat):Int)<(Ml.length:Int):=hl
   omega
  have YJ:=h.idx hl
  have YK:Ml[Gc L Ml s].toNat<L.length:=by omega
  have XF:=Vd YK
  have hlen:=h.len _ (Al YK)
  have GJ:short L[Ml[Gc L Ml s].toNat]:=by
   unfold short
   have:=h.short;omega
  refine ⟨_,Df hl,_,TP YJ.1 YK,_,Ac GJ,⟨λhc=>⟨_,Df hl,?_⟩,λhc=>?_⟩⟩
  ·have hc:L[Ml[Gc L Ml s].toNat]=s:=Ex hc
   rcases h.wz (s:=s) with ⟨hk,_,e⟩|⟨_,Hq⟩
   ·exact e.symm
   ·exact absurd (by rw [XF];exact hc) (Hq hl)
  ·have hc: ¬L[Ml[Gc L Ml s].toNat]=s:=of_decide_eq_false hc
   rcases h.wz (s:=s) with ⟨hk,e,_⟩|⟨e,_⟩
   ·rw [XF] at e;exact absurd e hc
   ·exact e.symm
 ·have hl: ¬Gc L Ml s<Ml.length:=by
   have hl: ¬((Gc L Ml s:Nat):Int)<(Ml.length:Int):=hl
   omega
  rcases h.wz (s:=s) with ⟨hk,e,_⟩|⟨e,_⟩
  ·exact absurd hk hl
  ·exact e.symm
theorem ym:Sound Try.prog 134 dj:=
 Sound.Hv Fh (Bh sr (Bh fk Cm)) mixed Try.func134 (by kernel_rfl) (by kernel_rfl) λx h=>UX x.1 x.2.1 h
theorem GO {S:List Int} {k:Nat} (h:k<=S.length) (n:Int):
  (Dp (S++ [0]) (k+1) (List.take ((S++ [0]).length-(k+1)) (List.take ((S++ [0]).length-k) (List.drop k (S++ [0]))))).set k n=We S k n:=by
 obtain ⟨A,B,rfl,hA⟩: ∃A B,S=A++B/\A.length=k:=⟨S.take k,S.drop k,(Fo k S).symm,by rw [Cs];omega⟩
 subst hA
 have e1:List.drop A.length (A++B++ [0])=B++ [0]:=by rw [Ck,List.drop_left]
 have e2:List.take ((A++B++ [0]).length-A.length) (B++ [0])=B++ [0]:=List.take_of_length_le (by simp only [Au,Bw];omega)
 have e3:List.take ((A++B++ [0]).length-(A.length+1)) (B++ [0])=B:=by
  have:(A++B++ [(0:Int)]).length-(A.length+1)=B.length:=by simp only [Au,Bw];omega
  rw [this,List.take_left]
 rw [e1,e2,e3]
 unfold Dp We
 have e4:List.drop (A.length+1+B.length) (A++B++ [0])= []:=Mr (by simp only [Au,Bw];omega)
 obtain ⟨c,hc⟩: ∃c,List.take (A.length+1) (A++B++ [0])=A++ [c]:=by
  rw [Ck,List.take_append,List.take_of_length_le (by omega)]
  cases B with
  |nil=>exact ⟨0,by simp⟩
  |cons b B=>exact ⟨b,by simp⟩
 rw [e4,hc,fO,Ck,List.singleton_append,xY,List.take_left,List.drop_left]
theorem Ae7 (L:List (List Int)) (D S:List Int) (b:Bool) (s:List Int) (d:Int) (h:Gm s.length L S/\D.length<=3000):
  fnMW Vy (look [(185,ez)]) kU Try.f192 (L,D,S,b,s,d,()) (λ(z:(List (List Int)×List Int×List Int×Bool×Unit)×Unit)=>z=((L++ [s],D++ [d],We S (Gc L S s) L.length,b,()),())):=by
 obtain ⟨h,hD⟩:=h
 have hle:=LW L S s
 have z7:=h.rj
 have qS:=h.pF
 refine Eq.mp (Aew L D S b s d _) ?_
 rw [Dl L,Dl D,Dl S]
 refine ⟨_,Ac h,?_⟩
 dsimp only
 have es:List.take 1 (List.drop 0 [(0:Int)])= [0]:=rfl
 have el:(S++ [(0:Int)]).length=S.length+1:=by simp
 rw [es,Cg (by omega),Cj,Cj,As,As,As]
 refine ⟨rfl,rfl,by show S.length+1<=4294967296;omega,⟨by omega,by omega,by omega⟩,⟨by omega,by omega,by omega⟩,⟨by omega,by omega⟩,?_,rfl,rfl,by show L.length+1<=4294967296;omega,rfl,rfl,by show D.length+1<=4294967296;omega,?_⟩
 ·unfold Dp
  simp only [Au,Cs,Sb,Bw]
  omega
 ·rw [GO hle,Dl,Dl]
  have e5:List.take (S++ [(0:Int)]).length (List.drop 0 (We S (Gc L S s) (L.length:Int)))=We S (Gc L S s) (L.length:Int):=by
   rw [Du,List.take_of_length_le]
   unfold We
   simp only [Au,Aw,Cs,Sb,Ho]
   omega
  rw [e5]
  rfl
theorem IX:Da Try.prog 192 kU:=
 Da.fb Sq (Bh sr Cm) mixed Try.func192 (by kernel_rfl) (by kernel_rfl) λx h=>Ae7 x.1 x.2.1 x.2.2.1 x.2.2.2.1 x.2.2.2.2.1 x.2.2.2.2.2.1 h
structure Wa (p:PP) (m:Nat) (L:List (List Int)) (D:List Int):Prop where
 ok:Gm m L (bX L)
 len:D.length=L.length
 row: ∀x∈L,∀y∈x,0<=y/\y<p.1
 dep: ∀j (h:j<D.length),0<=D[j]/\D[j]<=j
theorem xu {p:PP} (hv:Valid p) {x:List Int} {l:Int} (hx: ∀y∈x,0<=y/\y<p.1) (hl:Jp (List.length p.2.2.1) l):
  (Aj x (Av p.2.2.1 l)).length=x.length/\ ∀y∈Aj x (Av p.2.2.1 l),0<=y/\y<p.1:=by
 obtain ⟨h1,h2⟩:=cW hv hl
 refine ⟨Na _ _,λy hy=>?_⟩
 have:=bx (n:=(Av p.2.2.1 l).length) (λz hz=>by have:=hx z hz;omega) h2 y hy
 omega
theorem Wa.add {p:PP} {m:Nat} {L:List (List Int)} {D:List Int} (h:Wa p m L D) {y:List Int} {d:Int} (hn:y∉L) (hl:y.length=m) (hr:L.length<3000) (hy: ∀z∈y,0<=z/\z<p.1) (hd:0<=d/\d<=L.length):Wa p m (L++ [y]) (D++ [d]):=by
 have hlen:=h.len
 refine ⟨by rw [eB];exact h.ok.add hn hl hr,by simp [hlen],λx hx=>?_,λj hj=>?_⟩
 ·rcases Az.1 hx with hx|hx
  ·exact h.row x hx
  ·rw [Ae.1 hx];exact hy
 ·by_cases e:j<D.length
  ·rw [Vu e];exact h.dep j e
  ·simp only [Au,Bw] at hj
   have:j=D.length:=by omega
   subst this
   rw [List.getElem_append_right (by omega)]
   simp only [Nat.sub_self,List.getElem_cons_zero]
   omega
theorem iC {p:PP} {s:List Int} (hs:s.length<=20) (hr: ∀y∈s,0<=y/\y<p.1):Wa p s.length [s] [0]:=by
 refine ⟨?_,rfl,λx hx=>by rw [Ae.1 hx];exact hr,λj hj=>?_⟩
 ·have:=(mw hs).add (s:=s) (by simp) rfl (by simp)
  have e:bX [s]=We [] (Gc [] [] s) 0:=eB [] s
  rw [e];exact this
 ·simp only [Bw] at hj
  have:j=0:=by omega
  subst this
  simp
theorem vr {L:List (List Int)} {s:List Int} :oB L s>=0↔s∈L:=by
 unfold oB
 split
 ·rename_i h;exact ⟨λ_=>h,λ_=>by omega⟩
 ·rename_i h;exact ⟨λhh=>by omega,λhh=>absurd hh h⟩
theorem ZO (p:PP) (s:List Int) (h:Bi p=true/\s.length<=20/\ ∀y∈s,0<=y/\y<p.1):fnW Aeq (look [(86,La),(192,kU),(144,Ul),(145,dd),(134,dj)]) Gr Try.f153 (p,s,()) (λ(z:SS)=>z=Oj p.2.2.1 s):=by
 obtain ⟨hv,hs,hr⟩:=h
 have hV:=valid hv
 have qS:=hV.pF
 have hb0:=iC hs hr
 have GJ:short s:=by unfold short;omega
 obtain ⟨ls,uR⟩: ∃ls,Bm (List.length p.2.2.1)=ls:=⟨_,rfl⟩
 refine Eq.mp (Aab p s _) ⟨_,Ac GJ,_,Ac ⟨mw hs,by show 0<=3000;omega⟩,ls,(Ac (by show List.length p.2.2.1<=8;exact qS.2)).trans (Ma some uR),rfl,rfl,rfl,rfl,rfl,rfl,rfl,rfl,rfl,rfl,rfl,rfl,?_⟩
 have e0:We [] (Gc [] [] s) ((([]:List (List Int)).length:Nat):Int)=bX [s]:=(eB [] s).symm
 show Dt _ ((0:Int),p.1,p.2.1,p.2.2.1,false,false,[],[],[],[s],[(0:Int)],We [] (Gc [] [] s) ((([]:List (List Int)).length:Nat):Int),PUnit.unit)
 rw [e0]
 have GA:ls.length<=16:=by rw [<-uR,Qc];omega
 have r6: ∀l∈ls,Jp (List.length p.2.2.1) l:= λl hl=>Gw (uR▸hl)
 have GK:Ka p.2.2.1 ls 3001 0 [s] [0]=Jb p.2.2.1 s:=by unfold Jb;rw [uR]
 refine Dt.mk (λv=>v.2.1=p.1/\v.2.2.1=p.2.1/\v.2.2.2.1=p.2.2.1/\v.2.2.2.2.2.1=false/\ ∃k:Nat,v.1=k/\k<=v.2.2.2.2.2.2.2.2.2.1.length/\
   Wa p s.length v.2.2.2.2.2.2.2.2.2.1 v.2.2.2.2.2.2.2.2.2.2.1/\v.2.2.2.2.2.2.2.2.2.2.2.1=bX v.2.2.2.2.2.2.2.2.2.1/\
   Ka p.2.2.1 ls (3001-k) k v.2.2.2.2.2.2.2.2.2.1 v.2.2.2.2.2.2.2.2.2.2.1=Jb p.2.2.1 s) (λv=>3001-v.1.toNat)
  ⟨rfl,rfl,rfl,rfl,0,rfl,by simp,hb0,rfl,GK⟩ ?_
 rintro ⟨k',n1,n2,n3,b0,wh,x1,x2,x3,L0,D0,S0,⟨⟩⟩ ⟨h1,h2,h3,h4,k,h5,h6,h7,h8,h9⟩
 dsimp only at h1 h2 h3 h4 h5 h6 h7 h8 h9
 subst h1 h2 h3 h4 h5 h8
 dsimp only
 have XC:=h7.ok.pF
 have hD0:=h7.len
 refine Br.dec (λhl=>⟨rfl,rfl,rfl,rfl,rfl,rfl,rfl,rfl,rfl,rfl,rfl,rfl,?_⟩) λhl=>?_
 ·have hk:k<L0.length:=by omega
  have NB:k<D0.length:=by omega
  have hx: ∀y∈L0[k],0<=y/\y<p.1:=h7.row _ (Al hk)
  have hxl:L0[k].length=s.length:=h7.ok.len _ (Al hk)
  have hdk:=h7.dep k NB
  obtain ⟨f,hf⟩: ∃f,3001-k=f+1:=⟨3000-k,by omega⟩
  have hgo: ∀L' D' ok,Hg p.2.2.1 L0[k] D0[k] ls L0 D0=(L',D',ok)->Jb p.2.2.1 s=if ok=true then Ka p.2.2.1 ls f (k+1) L' D' else (L',D',false):=by
   intro L' D' ok he
   rw [<-h9,hf,Ka,Ac hk,Vd hk,Ah,Ab NB]
   simp only [Cw]
   rw [he]
   cases ok<;>rfl
  refine Dt.mk (λv=>v.2.1=p.1/\v.2.2.1=p.2.1/\v.2.2.2.1=p.2.2.1/\v.2.2.2.2.2.1=false/\ ∃i:Nat,v.1=i/\i<=ls.length/\Wa p s.length v.2.2.2.2.2.2.2.2.2.1 v.2.2.2.2.2.2.2.2.2.2.1/\
    v.2.2.2.2.2.2.2.2.2.2.2.1=bX v.2.2.2.2.2.2.2.2.2.1/\(∃A,v.2.2.2.2.2.2.2.2.2.1=L0++A)/\(∃A,v.2.2.2.2.2.2.2.2.2.2.1=D0++A)/\
    Hg p.2.2.1 L0[k] D0[k] (ls.drop i) v.2.2.2.2.2.2.2.2.2.1 v.2.2.2.2.2.2.2.2.2.2.1=Hg p.2.2.1 L0[k] D0[k] ls L0 D0) (λv=>ls.length-v.1.toNat)
   ⟨rfl,rfl,rfl,rfl,0,rfl,Iz _,h7,rfl,⟨[],by simp⟩,⟨[],by simp⟩,rfl⟩ ?_
  rintro ⟨i',m1,m2,m3,b1,wh1,y1,y2,y3,L,D,S,⟨⟩⟩ ⟨g1,g2,g3,g4,i,g5,g6,g7,g8,⟨A,g9⟩,⟨A',g10⟩,QT⟩
  dsimp only at g1 g2 g3 g4 g5 g6 g7 g8 g9 g10 QT
  subst g1 g2 g3 g4 g5 g8
  dsimp only
  have hLf:=g7.ok.pF
  have hDl:=g7.len
  rw [Dl L,Dl D,Dl (bX L)]
  refine Br.dec (λhli=>?_) λhli=>?_
  ·have hi:i<ls.length:=by omega
   have hkL:k<L.length:=by rw [g9,Au];omega
   have hLk:L[k]=L0[k]:=by simp only [g9];exact Vu hk
   have Ad0:k<D.length:=by rw [hDl];exact hkL
   have hDk:D[k]=D0[k]:=by simp only [g10];exact Vu NB
   have YM:=r6 _ (Al hi)
   obtain ⟨nl,nr⟩:=xu hV hx YM
   rw [Bz hi] at QT
   simp only [Hg] at QT
   refine ⟨⟨by omega,by omega⟩,L0[k],by rw [As,Cj,Ab hkL,hLk],_,Df hi,_,Ac ⟨hv,by show L0[k].length<=20;omega,hx,YM⟩,?_⟩
   dsimp only
   have hyl:(Aj L0[k] (Av p.2.2.1 ls[i])).length=s.length:=by rw [nl,hxl]
   refine ⟨_,Ac (by show Gm (Aj L0[k] (Av p.2.2.1 ls[i])).length L (bX L);rw [hyl];exact g7.ok),Br.dec (λdP=>?_) λdP=>?_⟩
   ·have dP:Aj L0[k] (Av p.2.2.1 ls[i])∈L:=vr.1 dP
    rw [Ac dP] at QT
    rw [Cg (by omega)]
    exact ⟨rfl,rfl,rfl,rfl,rfl,rfl,rfl,rfl,rfl,rfl,rfl,rfl,⟨rfl,rfl,rfl,rfl,i+1,rfl,hi,g7,rfl,⟨A,g9⟩,⟨A',g10⟩,QT⟩,by omega⟩
   ·have dP:Aj L0[k] (Av p.2.2.1 ls[i])∉L:= λhh=>dP (vr.2 hh)
    rw [Ai dP] at QT
    refine ⟨λeT=>?_,λeT=>⟨⟨by omega,by omega⟩,D0[k],by rw [As,Cj,Ab Ad0,hDk],rfl,rfl,rfl,rfl,rfl,rfl,?_⟩⟩
    ·have eT:L.length=3000:=by
      have:(L.length:Int)=3000:=by simpa using eT
      omega
     rw [Ac eT] at QT
     have:=hgo _ _ _ QT.symm
     rw [Ai (by decide)] at this
     unfold Oj
     rw [this]
    ·have eT:L.length≠3000:=by
      have:(L.length:Int)≠3000:=by simpa using eT
      omega
     rw [Ai eT] at QT
     rw [Dh (n:=D0[k]+1) (by omega) (by omega)]
     refine ⟨_,Ac ⟨by show Gm (Aj L0[k] (Av p.2.2.1 ls[i])).length L (bX L);rw [hyl];exact g7.ok,by show D.length<=3000;omega⟩,?_⟩
     dsimp only
     rw [Cg (by omega),<-eB]
     refine ⟨rfl,rfl,rfl,rfl,rfl,rfl,rfl,rfl,rfl,rfl,rfl,rfl,⟨rfl,rfl,rfl,rfl,i+1,rfl,hi,g7.add dP hyl (by omega) nr ⟨by omega,by omega⟩,rfl,⟨A++ [Aj L0[k] (Av p.2.2.1 ls[i])],by rw [g9,Ck]⟩,⟨A'++ [D0[k]+1],by rw [g10,Ck]⟩,QT⟩,by omega⟩
  ·have:i=ls.length:=by omega
   subst this
   rw [Ot,Hg] at QT
   have:=hgo _ _ _ QT.symm
   rw [Ac rfl] at this
   rw [Cg (by omega)]
   refine ⟨rfl,rfl,rfl,rfl,rfl,rfl,rfl,rfl,rfl,rfl,rfl,rfl,⟨rfl,rfl,rfl,rfl,k+1,rfl,by rw [g9,Au];omega,g7,rfl,?_⟩,by omega⟩
   rw [show 3001-(k+1)=f by omega]
   exact this.symm
 ·have hk:k=L0.length:=by omega
  rw [Dl L0,Dl D0,Dl (bX L0)]
  obtain ⟨f,hf⟩: ∃f,3001-k=f+1:=⟨3000-k,by omega⟩
  rw [hf,Ka,Ai (by omega)] at h9
  unfold Oj
  rw [<-h9]
theorem DB:Sound Try.prog 153 Gr:=
 Sound.Hv Aer (Bh bf (Jd IX (Bh pw (Bh yc (Bh ym Cm))))) mixed Try.func153 (by kernel_rfl) (by kernel_rfl) λx h=>ZO x.1 x.2.1 h
noncomputable def NX (p:PP) (t:List Int):Bool:=Bi p&&BA p.1 t
noncomputable def LK (p:PP) (t:List Int):Bool:=NX p t&&(Jb p.2.2.1 t).2.2
noncomputable abbrev Uh:Spec:=Hv (.pair pR .unit) pR false true (λx=>Ry x.1) (λx=>x.1)
noncomputable def ZB (p:PP) (t:List Int):TT:=if LK p t=true then (t,(Jb p.2.2.1 t).1,(Jb p.2.2.1 t).2.1,()) else ([],[],[],())
noncomputable def rv (p:PP) (t:TT):Bool:=LK p t.1&&Aia (ZB p t.1) t
def ZT (ts:List TT):Prop:=ts.length<=4294967296/\ ∀t∈ts,Aee t
noncomputable def ru (p:PP) (ts:List TT):Bool:=Bi p&&decide (ts.length<=4)&&List.all ts (rv p)
theorem DX (l:List (List Int)) (P:List (List Int)->Prop):(0=0/\0=([]:List Int).length/\Dt (λ(v2:Int×List (List Int)×PUnit) (k3:Int×List (List Int)×PUnit->Prop)=>Br (decide (v2.1<(↑l.length:Int))) (∃(y4:List Int),idx l v2.1=some y4/\ ∃(y5:List Int),La.fn (y4,())=some y5/\0=0/\v2.2.1.length=v2.2.1.length/\v2.2.1.length+(List.take 1 (List.drop 0 [y5])).length<=Dd/\0=0/\(v2.2.1++List.take 1 (List.drop 0 [y5])).length=(v2.2.1++List.take 1 (List.drop 0 [y5])).length/\k3 (IntKind.i64.wrap (v2.1+(1:Int)),v2.2.1++List.take 1 (List.drop 0 [y5]),())) (P (List.take v2.2.1.length (List.drop 0 v2.2.1)))) ((0:Int),[],PUnit.unit))=fnW Hf (look [(86,La)]) Uh Try.f85 (l,()) P:=by kernel_rfl
theorem lg {p:PP} (hV:Valid p) {m:Nat} {x:List Int} {d:Int} (hx: ∀y∈x,0<=y/\y<p.1) (hxl:x.length=m): ∀(ls:List Int) (L:List (List Int)) (D:List Int),(∀l∈ls,Jp (List.length p.2.2.1) l)->
  Wa p m L D->(0<=d/\d<L.length)->Wa p m (Hg p.2.2.1 x d ls L D).1 (Hg p.2.2.1 x d ls L D).2.1/\(∃A,(Hg p.2.2.1 x d ls L D).1=L++A)/\(∃A,(Hg p.2.2.1 x d ls L D).2.1=D++A)
 | [],L,D,_,h,_=>⟨h,⟨[],by simp [Hg]⟩,⟨[],by simp [Hg]⟩⟩
 |l::ls,L,D,hl,h,hd=>by
  obtain ⟨n1,n2⟩:=xu hV hx (hl l (by simp))
  have Ll: ∀l∈ls,Jp (List.length p.2.2.1) l:= λl' h'=>hl l' (An _ h')
  simp only [Hg]
  split
  ·exact lg hV hx hxl ls L D Ll h hd
  ·rename_i hn
   split
   ·exact ⟨h,⟨[],by simp⟩,⟨[],by simp⟩⟩
   ·rename_i hf
    have qS:=h.ok.pF
    obtain ⟨k1,⟨A,k2⟩,⟨A',k3⟩⟩:=lg hV hx hxl ls (L++ [Aj x (Av p.2.2.1 l)]) (D++ [d+1]) Ll (h.add hn (by rw [n1,hxl]) (by omega) n2 ⟨by omega,by omega⟩) ⟨hd.1,by rw [Au];omega⟩
    exact ⟨k1,⟨_::A,by rw [k2,Ck];rfl⟩,⟨_::A',by rw [k3,Ck];rfl⟩⟩
theorem zq {p:PP} (hV:Valid p) {m:Nat} {ls:List Int} (hl: ∀l∈ls,Jp (List.length p.2.2.1) l): ∀(f k:Nat) (L:List (List Int)) (D:List Int),Wa p m L D->
  Wa p m (Ka p.2.2.1 ls f k L D).1 (Ka p.2.2.1 ls f k L D).2.1/\(∃A,(Ka p.2.2.1 ls f k L D).1=L++A)
 |0,k,L,D,h=>⟨h,⟨[],by simp [Ka]⟩⟩
 |f+1,k,L,D,h=>by
  simp only [Ka]
  split
  ·rename_i hk
   have NB:k<D.length:=by rw [h.len];exact hk
   have hd:=h.dep k NB
   have e:D.getD k 0=D[k]:=by rw [Ah,Ab NB];rfl
   rw [Vd hk,e]
   obtain ⟨k1,⟨A,k2⟩,_⟩:=lg hV (h.row _ (Al hk)) (h.ok.len _ (Al hk)) (d:=D[k]) ls L D hl h ⟨by omega,by omega⟩
   split
   ·rename_i L' D' he
    rw [he] at k1 k2
    obtain ⟨g1,⟨B,g2⟩⟩:=zq hV hl f (k+1) L' D' k1
    have k2:L'=L++A:=k2
    exact ⟨g1,⟨A++B,by rw [g2,k2,Ck]⟩⟩
   ·rename_i L' D' he
    rw [he] at k1 k2
    exact ⟨k1,⟨A,k2⟩⟩
  ·exact ⟨h,⟨[],by simp⟩⟩
theorem RP {p:PP} {s:List Int} (hv:Bi p=true) (hs:s.length<=20) (hr: ∀y∈s,0<=y/\y<p.1):Wa p s.length (Jb p.2.2.1 s).1 (Jb p.2.2.1 s).2.1/\ ∃A,(Jb p.2.2.1 s).1=s::A:=
 zq (valid hv) (λ_ hl=>Gw hl) _ _ _ _ (iC hs hr)
theorem MK {p:PP} {m:Nat} {L:List (List Int)} {D:List Int} (h:Wa p m L D):Ry L/\short D:=by
 have h1:=h.ok.pF
 have h2:=h.ok.short
 have h3:=h.len
 refine ⟨⟨by omega,λx hx=>?_⟩,by unfold short;omega⟩
 have:=h.ok.len x hx
 unfold short;omega
theorem BX (l:List (List Int)) (h:Ry l):fnW Hf (look [(86,La)]) Uh Try.f85 (l,()) (λ(z:List (List Int))=>z=l):=by
 obtain ⟨h1,h2⟩:=h
 refine Eq.mp (DX l _) ⟨rfl,rfl,?_⟩
 refine Ci l.length (λv=>v.1) (λj v=>v.2.1=l.take j) rfl (by simp) ?_
 rintro j ⟨i,ys,⟨⟩⟩ K hj hi hR hK
 dsimp only at hi hR⊢
 subst hi hR
 refine Br.dec (λhl=>?_) λhl=>?_
 ·have hl:j<l.length:=by omega
  refine ⟨_,Df hl,_,Ac (h2 _ (Al hl)),rfl,rfl,?_,rfl,rfl,?_⟩
  ·show (List.take j l).length+1<=4294967296
   rw [Cs];omega
  ·rw [Cg (by omega)]
   refine hK hl _ rfl ?_
   show List.take j l++ [l[j]]=_
   rw [Hy,Ab hl];rfl
 ·have:j=l.length:=by omega
  subst this
  rw [Dl,Bb]
theorem po:Sound Try.prog 85 Uh:=
 Sound.Hv Fh (Bh bf Cm) mixed Try.func85 (by kernel_rfl) (by kernel_rfl) λx h=>BX x.1 h
def ER (m:ByteArray->Option Bool) (L:List (List Int)):Prop:= ∀q,aG q->(m (Ud q)).getD false=decide (q∈L)
theorem ER.add {m:ByteArray->Option Bool} {L:List (List Int)} {y:List Int} (h:ER m L) (hy:aG y):ER (eI m (Ud y) true) (L++ [y]):=by
 intro q hq
 unfold eI
 by_cases e:q=y
 ·subst e
  rw [Ac rfl];simp
 ·rw [Ai λhk=>e (key_inj hq hy hk),h q hq]
  simp [e]
end Go.Proofs.Ytkkdpknjohcekaa
