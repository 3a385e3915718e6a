/-
  Part 38 of the proof that the statement FnSubgroups holds.
-/
import Derived.Test.YtkkdpknjohcekaaCFSubgroups36
import Derived.KernelRfl
namespace Go.Proofs.Ytkkdpknjohcekaa
open Go.RowKit
def Ma (x a b:Int):Bool:=decide (a<=x/\x<=b)
def kA (n x:Int):Bool:=decide (0<=x/\x<=IntKind.i64.wrap (n-1))
def lz (xs:List Int) (x:Int):Bool:=decide (x∈xs)
def short (xs:List Int):Prop:=xs.length<=4294967296
noncomputable abbrev Dl:Spec:=Ht (.pair tI (.pair tI (.pair tI .unit))) .bool false true (λ_=>True) (λx=>Ma x.1 x.2.1 x.2.2.1)
noncomputable abbrev bm:Spec:=Ht (.pair tI (.pair tI .unit)) .bool false true (λ_=>True) (λx=>kA x.1 x.2.1)
noncomputable abbrev Ql:Spec:=Ht (.pair tL (.pair tI .unit)) .bool false true (λx=>short x.1) (λx=>lz x.1 x.2.1)
theorem WZ (x a b:Int) (P:Bool->Prop):(Br (decide (x>=a)) (P (decide (x<=b))) (P false))=fnW Hz (look []) Dl Try.f65 (x,a,b,()) P:=by kernel_rfl
theorem Ada (x a b:Int) (P:Bool->Prop):(Br (decide (x>=a)) (P (decide (x<=b))) (P false))=fnW Hz (look []) Dl Try.f94 (x,a,b,()) P:=by kernel_rfl
theorem XB (n x:Int) (P:Bool->Prop):(∃(y3:Bool),Dl.fn (x,0,IntKind.i64.wrap (n-1),())=some y3/\P y3)=fnW Hz (look [(94,Dl)]) bm Try.f159 (n,x,()) P:=by kernel_rfl
theorem wW (xs:List Int) (x:Int) (P:Bool->Prop):(Ev (λ(v3:Int×PUnit) (k4:Int×PUnit->Prop)=>Br (decide (v3.1<(↑xs.length:Int))) (∃(y5:Int),idx xs v3.1=some y5/\Br (y5==x) (P true) (k4 (IntKind.i64.wrap (v3.1+1),()))) (P false)) (0,PUnit.unit))=fnW Hz (look []) Ql Try.f152 (xs,x,()) P:=by kernel_rfl
theorem VD (x a b:Int) (_:True):fnW Hz (look []) Dl Try.f65 (x,a,b,()) (λ(z:Bool)=>z=Ma x a b):=by
 refine Eq.mp (WZ x a b _) ?_
 refine Br.dec (λh=>?_) λh=>?_
 ·have h:a<=x:=h
  simp [Ma,h]
 ·exact (Iu λhh=>h hh.1).symm
theorem Tx:Sound Try.prog 65 Dl:=
 Sound.Ht Ge Cb mixed Try.func65 (by kernel_rfl) (by kernel_rfl) λx h=>VD x.1 x.2.1 x.2.2.1 h
theorem Abf (x a b:Int) (_:True):fnW Hz (look []) Dl Try.f94 (x,a,b,()) (λ(z:Bool)=>z=Ma x a b):=by
 refine Eq.mp (Ada x a b _) ?_
 refine Br.dec (λh=>?_) λh=>?_
 ·have h:a<=x:=h
  simp [Ma,h]
 ·exact (Iu λhh=>h hh.1).symm
theorem Wu:Sound Try.prog 94 Dl:=
 Sound.Ht Ge Cb mixed Try.func94 (by kernel_rfl) (by kernel_rfl) λx h=>Abf x.1 x.2.1 x.2.2.1 h
theorem VF (n x:Int) (_:True):fnW Hz (look [(94,Dl)]) bm Try.f159 (n,x,()) (λ(z:Bool)=>z=kA n x):=
 Eq.mp (XB n x _) ⟨_,Ab trivial,rfl⟩
theorem wM:Sound Try.prog 159 bm:=
 Sound.Ht Ge (Be Wu Cb) mixed Try.func159 (by kernel_rfl) (by kernel_rfl) λx h=>VF x.1 x.2.1 h
theorem wq (xs:List Int) (x:Int) (h:short xs):fnW Hz (look []) Ql Try.f152 (xs,x,()) (λ(z:Bool)=>z=lz xs x):=by
 refine Eq.mp (wW xs x _) ?_
 unfold short at h
 refine Cj xs.length (λv=>v.1) (λj _=>x∉xs.take j) rfl (by simp) ?_
 rintro j ⟨i,⟨⟩⟩ K hj hi hR hK
 dsimp only at hi⊢
 subst hi
 refine Br.dec (λhl=>?_) λhl=>?_
 ·have hl:j<xs.length:=by omega
  refine ⟨_,Dk hl,⟨λhe=>?_,λhe=>?_⟩⟩
  ·have hm:=An hl
   simp only [aD] at he
   rw [he] at hm
   exact (Cl hm).symm
  ·rw [Cd (by omega)]
   refine hK hl _ rfl ?_
   simp only [Ra,ne_eq] at he
   rw [Ga hl]
   simp only [Az,Ae,not_or]
   exact ⟨hR,λhx=>he hx.symm⟩
 ·have:j=xs.length:=by omega
  subst this
  rw [Bg] at hR
  exact (Iu hR).symm
theorem oK:Sound Try.prog 152 Ql:=
 Sound.Ht Ge Cb mixed Try.func152 (by kernel_rfl) (by kernel_rfl) λx h=>wq x.1 x.2.1 h
abbrev TT:Type:=List Int×List (List Int)×List Int×Unit
def So (xs:List (List Int)):Prop:=xs.length<=4294967296/\ ∀r∈xs,short r
def Al1 (t:TT):Prop:=short t.1/\So t.2.1/\short t.2.2.1
def Apl (a b:TT):Bool:=decide (a.1=b.1)&&(decide (a.2.1=b.2.1)&&decide (a.2.2.1=b.2.2.1))
theorem lN {α:Type} {ys xs:List α} {j:Nat} (h:j<xs.length) (hl:ys.length=xs.length) (ht:ys.take j=xs.take j):(ys.set j xs[j]).take (j+1)=xs.take (j+1):=by
 have h1:j<(ys.set j xs[j]).length:=by rw [Bv];omega
 rw [Ga h1,Ga h,List.getElem_set_self,List.take_set_of_le (Aq j),ht]
def PL (n:Int) (xs:List Int) (k:Nat):Prop:= ∀j (h:j<xs.length),j<k->0<=xs[j]/\xs[j]<=n-1/\(0<j->xs[j-1]<xs[j])
def DL (n:Int) (xs:List Int) (k:Nat):Prop:= ∀j (h:j<xs.length),j<k->0<=xs[j]/\xs[j]<=n-1/\xs[j]∉xs.take j
noncomputable def dec (p:Prop):Bool:= @decide p (Classical.propDecidable p)
theorem Oi {p:Prop} (h:p):true=dec p:=(@Cl p (Classical.propDecidable p) h).symm
theorem Dr {p:Prop} (h: ¬p):false=dec p:=(@Iu p (Classical.propDecidable p) h).symm
theorem Ej {p:Prop} :dec p=true↔p:= @Gf p (Classical.propDecidable p)
theorem Ae6 {p:Prop} :dec p=false↔ ¬p:= @decide_eq_false_iff_not p (Classical.propDecidable p)
def nOK (n:Int):Prop:=0<=n/\n<=4294967296
noncomputable def Zx (n:Int) (xs:List Int):Bool:=dec (0<xs.length/\PL n xs xs.length)
noncomputable abbrev Vk:Spec:=Ht (.pair tI (.pair tL .unit)) .bool false true (λx=>nOK x.1/\short x.2.1) (λx=>Zx x.1 x.2.1)
noncomputable abbrev Od:Spec:=Ht (.pair se .unit) tI false true (λ_=>True) (λx=>(List.length x.1:Int))
theorem JJ (n:Int) (xs:List Int) (P:Bool->Prop):(Ev (λ(v3:Int×PUnit) (k4:Int×PUnit->Prop)=>Br (decide (v3.1<(↑xs.length:Int))) (∃(y5:Int),idx xs v3.1=some y5/\ ∃(y6:Bool),bm.fn (n,y5,())=some y6/\Br (!y6) (P false) (Br (decide (v3.1>(0:Int))) (∃(y7:Int),idx xs (IntKind.i64.wrap (v3.1-(1:Int)))=some y7/\Br (decide (y7>=y5)) (P false) (k4 (IntKind.i64.wrap (v3.1+(1:Int)),()))) (k4 (IntKind.i64.wrap (v3.1+(1:Int)),())))) (P (decide ((↑xs.length:Int)>(0:Int))))) ((0:Int),PUnit.unit))=fnW Hz (look [(159,bm)]) Vk Try.f93 (n,xs,()) P:=by kernel_rfl
theorem Agj (xs:List (List Int)) (P:Int->Prop):(P (↑xs.length:Int))=fnW Hz (look []) Od Try.f95 (xs,()) P:=by kernel_rfl
theorem Afp (xs:List (List Int)) (_:True):fnW Hz (look []) Od Try.f95 (xs,()) (λ(z:Int)=>z=(xs.length:Int)):=Eq.mp (Agj xs _) rfl
theorem db:Sound Try.prog 95 Od:=
 Sound.Ht Ge Cb mixed Try.func95 (by kernel_rfl) (by kernel_rfl) λx h=>Afp x.1 h
theorem qX {n x:Int} (hn:nOK n):kA n x=true↔0<=x/\x<=n-1:=by
 unfold kA nOK at*
 rw [Dq (by omega) (by omega),Gf]
theorem Gd {x a b:Int} :Ma x a b=true↔a<=x/\x<=b:=Gf
theorem Iy {b:Bool} (h:(!b)=true): ¬b=true:=by cases b<;>simp_all
theorem Ji {b:Bool} (h:(!b)=false):b=true:=by cases b<;>simp_all
theorem Abi {n:Int} {xs:List Int} (h:PL n xs xs.length): ∀j (hj:j<xs.length),(j:Int)<=xs[j]
 |0,hj=>(h 0 hj hj).1
 |j+1,hj=>by
  have h1:=Abi h j (by omega)
  have h2:=(h (j+1) hj hj).2.2 (by omega)
  simp only [Nat.add_sub_cancel] at h2
  omega
theorem SH {n:Int} {xs:List Int} {j:Nat} (hl:j<xs.length) (h:PL n xs j) (h1:0<=xs[j]) (h2:xs[j]<=n-1) (h3:0<j->xs[j-1]<xs[j]):PL n xs (j+1):=by
 intro i hi fw
 by_cases e:i=j
 ·subst e;exact ⟨h1,h2,h3⟩
 ·exact h i hi (by omega)
theorem HR (n:Int) (xs:List Int) (h:nOK n/\short xs):fnW Hz (look [(159,bm)]) Vk Try.f93 (n,xs,()) (λ(z:Bool)=>z=Zx n xs):=by
 obtain ⟨hn,h⟩:=h
 unfold short at h
 refine Eq.mp (JJ n xs _) ?_
 refine Cj xs.length (λv=>v.1) (λj _=>PL n xs j) rfl (λj _ hj=>absurd hj (Dj _)) ?_
 rintro j ⟨i,⟨⟩⟩ K hj hi hR hK
 dsimp only at hi⊢
 subst hi
 refine Br.dec (λhl=>?_) λhl=>?_
 ·have hl:j<xs.length:=by omega
  refine ⟨_,Dk hl,_,Ab trivial,⟨λhp=>?_,λhp=>?_⟩⟩
  ·have hp:=Iy hp
   rw [qX hn] at hp
   exact Dr λhh=>hp ⟨(hh.2 j hl hl).1,(hh.2 j hl hl).2.1⟩
  ·have hp:=Ji hp
   rw [qX hn] at hp
   refine Br.dec (λh0=>?_) λh0=>?_
   ·have h0:0<j:=by omega
    rw [Dq (by omega) (by omega),show (j:Int)-1=((j-1:Nat):Int) by omega]
    refine ⟨_,Dk (by omega),Br.dec (λhg=>?_) λhg=>?_⟩
    ·exact Dr λhh=>by have:=(hh.2 j hl hl).2.2 h0;omega
    ·rw [Cd (by omega)]
     exact hK hl _ rfl (SH hl hR hp.1 hp.2 λ_=>by omega)
   ·have h0:j=0:=by omega
    rw [Cd (by omega)]
    exact hK hl _ rfl (SH hl hR hp.1 hp.2 λh=>by omega)
 ·have:j=xs.length:=by omega
  subst this
  by_cases h0:0<xs.length
  ·rw [Cl (show (xs.length:Int)>0 by omega)];exact Oi ⟨h0,hR⟩
  ·rw [Iu (show ¬(xs.length:Int)>0 by omega)];exact Dr λhh=>h0 hh.1
theorem s9:Sound Try.prog 93 Vk:=
 Sound.Ht Ge (Be wM Cb) mixed Try.func93 (by kernel_rfl) (by kernel_rfl) λx h=>HR x.1 x.2.1 h
theorem Ae8 {n:Int} {xs:List Int} {j:Nat} (hl:j<xs.length) (h:DL n xs j) (h1:0<=xs[j]) (h2:xs[j]<=n-1) (h3:xs[j]∉xs.take j):DL n xs (j+1):=by
 intro i hi fw
 by_cases e:i=j
 ·subst e;exact ⟨h1,h2,h3⟩
 ·exact h i hi (by omega)
theorem OE {xs:List Int} (h:short xs) (j:Nat):short (xs.take j):=by
 unfold short at*
 rw [Hg]
 omega
abbrev PP:Type:=Int×ByteArray×List (List Int)×Unit
noncomputable def Kb (p:List Int):Bool:=dec (1<=p.length/\p.length<=20/\DL p.length p p.length)
noncomputable def Gr (n:Int) (p:List Int):Bool:=dec ((p.length:Int)=n/\Kb p=true)
noncomputable def Mi (n:Int) (g:List (List Int)):Bool:=dec ((1<=n/\n<=20)/\g.length<=8/\ ∀p∈g,Gr n p=true)
def Gk {α:Type} (P:α->Bool):List α->Int->Int
 | [],_=> -1
 |y::r,i=>if P y=true then i else Gk P r (i+1)
abbrev tG1:Ty:= .clo 206 (.pair (.ptr tI) .unit)
def yI (s:ByteArray) (i:Nat):Prop:= ∃c:UInt8,s[i]?=some c/\65<=c.toNat/\c.toNat<=90/\ ∀k,k<i->s[k]?≠some c
noncomputable def og (s:ByteArray) (i:Int):Bool:=dec (yI s i.toNat)
noncomputable def bh (s:ByteArray):Bool:=dec ((1<=s.size/\s.size<=8)/\ ∀j,j<s.size->yI s j)
noncomputable def Cs (p:PP):Bool:=dec (Mi p.1 p.2.2.1=true/\bh p.2.1=true/\p.2.1.size=p.2.2.1.length)
noncomputable def Dp (p:PP) (xs:List Int):Bool:=dec (Cs p=true/\Zx p.2.2.1.length xs=true)
def Gt (p:PP):Prop:=p.2.1.size<=4294967296/\So p.2.2.1
noncomputable abbrev Tc:Spec:=Ht (.pair tL .unit) tI false true (λ_=>True) (λx=>(List.length x.1:Int))
noncomputable abbrev Im:Spec:=Ht (.pair tL .unit) .bool false true (λx=>short x.1) (λx=>Kb x.1)
noncomputable abbrev Kc:Spec:=Ht (.pair tI (.pair se .unit)) .bool false true (λx=>So x.2.1) (λx=>Mi x.1 x.2.1)
noncomputable abbrev kG:Spec:=Ht (.pair tL (.pair (.ptr tI) .unit)) .bool false true (λx=>short x.1) (λx=>!Gr x.2.1 x.1)
noncomputable abbrev yl:Spec:=Ht (.pair se (.pair tG1 .unit)) tI false true (λx=>So x.1) (λx=>Gk (λp=>!Gr x.2.1.1 p) x.1 0)
noncomputable abbrev yi:Spec:=Ht (.pair se (.pair tG1 .unit)) .bool false true (λx=>So x.1) (λx=>List.any x.1 (λp=>!Gr x.2.1.1 p))
noncomputable abbrev eL:Spec:=Ht (.pair .str (.pair tI .unit)) .bool false true (λx=>0<=x.2.1/\x.2.1<x.1.size/\x.1.size<=4294967296) (λx=>og x.1 x.2.1)
noncomputable abbrev bl:Spec:=Ht (.pair .str .unit) .bool false true (λx=>x.1.size<=4294967296) (λx=>bh x.1)
noncomputable abbrev Ie:Spec:=Ht (.pair Lq .unit) .bool false true (λx=>Gt x.1) (λx=>Cs x.1)
noncomputable abbrev Si:Spec:=Ht (.pair Lq (.pair tL .unit)) .bool false true (λx=>Gt x.1/\short x.2.1) (λx=>Dp x.1 x.2.1)
theorem Ali (xs:List Int) (P:Int->Prop):(P (↑xs.length:Int))=fnW Hz (look []) Tc Try.f140 (xs,()) P:=by kernel_rfl
theorem CU (p:List Int) (P:Bool->Prop):(∃(y2:Bool),Dl.fn ((↑p.length:Int),(1:Int),(20:Int),())=some y2/\Br (!y2) (P false) (Ev (λ(v3:Int×PUnit) (k4:Int×PUnit->Prop)=>Br (decide (v3.1<(↑p.length:Int))) (∃(y5:Int),idx p v3.1=some y5/\ ∃(y6:Bool),Dl.fn (y5,(0:Int),IntKind.i64.wrap ((↑p.length:Int)-(1:Int)),())=some y6/\Br (!y6) (P false) (((0:Int)<=(0:Int)/\(0:Int)<=v3.1/\v3.1<=(↑p.length:Int))/\ ∃(y7:Int),idx p v3.1=some y7/\ ∃(y8:Bool),Ql.fn (List.drop (Int.toNat (0:Int)) (List.take v3.1.toNat p),y7,())=some y8/\Br y8 (P false) (k4 (IntKind.i64.wrap (v3.1+(1:Int)),())))) (P true)) ((0:Int),PUnit.unit)))=fnW Hz (look [(65,Dl),(152,Ql)]) Im Try.f169 (p,()) P:=by kernel_rfl
theorem CR (p:List Int) (P:Bool->Prop):(∃(y2:Int),Tc.fn (p,())=some y2/\ ∃(y3:Bool),Dl.fn (y2,(1:Int),(20:Int),())=some y3/\Br (!y3) (P false) (Ev (λ(v4:Int×Int×PUnit) (k5:Int×Int×PUnit->Prop)=>Br (decide (v4.2.1<(↑p.length:Int))) (∃(y6:Int),idx p v4.2.1=some y6/\ ∃(y7:Int),Tc.fn (p,())=some y7/\ ∃(y8:Bool),Dl.fn (y6,(0:Int),IntKind.i64.wrap (y7-(1:Int)),())=some y8/\Br (!y8) (P false) (¬y6<(0:Int)/\k5 (IntKind.i64.wrap (↑(BitVec.ofInt IntKind.i64.bits v4.1|||BitVec.ofInt IntKind.i64.bits (IntKind.i64.wrap ((1:Int)*(2:Int)^min y6.toNat IntKind.i64.bits))).toNat:Int),IntKind.i64.wrap (v4.2.1+(1:Int)),()))) (¬(↑p.length:Int)<(0:Int)/\P (v4.1==IntKind.i64.wrap (IntKind.i64.wrap ((1:Int)*(2:Int)^min (↑p.length:Int).toNat IntKind.i64.bits)-(1:Int))))) ((0:Int),(0:Int),PUnit.unit)))=fnW Hz (look [(94,Dl),(140,Tc)]) Im Try.f141 (p,()) P:=by kernel_rfl
theorem CT (n:Int) (g:List (List Int)) (P:Bool->Prop):(∃(y3:Bool),Dl.fn (n,(1:Int),(20:Int),())=some y3/\Br (!y3) (P false) (Br (decide ((↑g.length:Int)>(8:Int))) (P false) (Ev (λ(v4:Int×PUnit) (k5:Int×PUnit->Prop)=>Br (decide (v4.1<(↑g.length:Int))) (∃(y6:List Int),idx g v4.1=some y6/\Br ((↑y6.length:Int) !=n) (P false) (∃(y7:List Int),idx g v4.1=some y7/\ ∃(y8:Bool),Im.fn (y7,())=some y8/\Br (!y8) (P false) (k5 (IntKind.i64.wrap (v4.1+(1:Int)),())))) (P true)) ((0:Int),PUnit.unit))))=fnW Hz (look [(65,Dl),(169,Im)]) Kc Try.f115 (n,g,()) P:=by kernel_rfl
theorem Agi (p:List Int) (n:Int) (P:Bool->Prop):(∃(y3:Int),Tc.fn (p,())=some y3/\Br (y3 !=n) (P true) (∃(y4:Bool),Im.fn (p,())=some y4/\P !y4))=fnW Hz (look [(140,Tc),(141,Im)]) kG Try.f206 (p,n,()) P:=by kernel_rfl
theorem Aqh (g:List (List Int)) (n:Int×Unit) (P:Int->Prop):(Ev (λ(v3:Int×PUnit) (k4:Int×PUnit->Prop)=>Br (decide (v3.1<(↑g.length:Int))) (∃(y5:List Int),idx g v3.1=some y5/\ ∃(y6:Bool),kG.fn (y5,n.1,())=some y6/\Br y6 (P v3.1) (k4 (IntKind.i64.wrap (v3.1+(1:Int)),()))) (P (-1:Int))) ((0:Int),PUnit.unit))=fnW Hz (look [(206,kG)]) yl Try.f197 (g,n,()) P:=by kernel_rfl
theorem Aqe (g:List (List Int)) (n:Int×Unit) (P:Bool->Prop):(∃(y3:Int),yl.fn (g,n,())=some y3/\P (decide (y3>=(0:Int))))=fnW Hz (look [(197,yl)]) yi Try.f205 (g,n,()) P:=by kernel_rfl
theorem CQ (n:Int) (g:List (List Int)) (P:Bool->Prop):(∃(y3:Bool),Dl.fn (n,(1:Int),(20:Int),())=some y3/\Br y3 (Br (decide ((↑g.length:Int)<=(8:Int))) (∃(y4:Bool),yi.fn (g,(n,()),())=some y4/\P !y4) (P false)) (P false))=fnW Hz (look [(94,Dl),(205,yi)]) Kc Try.f173 (n,g,()) P:=by kernel_rfl
theorem Ad6 (s:ByteArray) (i:Int) (P:Bool->Prop):((0:Int)<=i/\ ∃(y3:UInt8),s[i.toNat]?=some y3/\Br (decide ((↑y3.toNat:Int)<(65:Int))) (P false) ((0:Int)<=i/\ ∃(y4:UInt8),s[i.toNat]?=some y4/\Br (decide ((↑y4.toNat:Int)>(90:Int))) (P false) (Ev (λ(v5:Int×PUnit) (k6:Int×PUnit->Prop)=>Br (decide (v5.1<i)) ((0:Int)<=v5.1/\ ∃(y7:UInt8),s[v5.1.toNat]?=some y7/\(0:Int)<=i/\ ∃(y8:UInt8),s[i.toNat]?=some y8/\Br ((↑y7.toNat:Int)==(↑y8.toNat:Int)) (P false) (k6 (IntKind.i64.wrap (v5.1+(1:Int)),()))) (P true)) ((0:Int),PUnit.unit))))=fnW Hz (look []) eL Try.f116 (s,i,()) P:=by kernel_rfl
theorem XA (s:ByteArray) (P:Bool->Prop):(Ev (λ(v2:Int×PUnit) (k3:Int×PUnit->Prop)=>Br (decide (v2.1<(↑s.size:Int))) ((0:Int)<=v2.1/\ ∃(y4:UInt8),s[v2.1.toNat]?=some y4/\ ∃(y5:Bool),Dl.fn (IntKind.i64.wrap (↑y4.toNat:Int),(65:Int),(90:Int),())=some y5/\Br (!y5) (P false) (Ev (λ(v6:Int×PUnit) (k7:Int×PUnit->Prop)=>Br (decide (v6.1<v2.1)) ((0:Int)<=v6.1/\ ∃(y8:UInt8),s[v6.1.toNat]?=some y8/\(0:Int)<=v2.1/\ ∃(y9:UInt8),s[v2.1.toNat]?=some y9/\Br ((↑y8.toNat:Int)==(↑y9.toNat:Int)) (P false) (k7 (IntKind.i64.wrap (v6.1+(1:Int)),()))) (k3 (IntKind.i64.wrap (v2.1+(1:Int)),()))) ((0:Int),PUnit.unit))) (∃(y4:Bool),Dl.fn ((↑s.size:Int),(1:Int),(8:Int),())=some y4/\P y4)) ((0:Int),PUnit.unit))=fnW Hz (look [(94,Dl)]) bl Try.f174 (s,()) P:=by kernel_rfl
abbrev lI:Type:=Int×Int×ByteArray×List (List Int)×PUnit
theorem CV (p:Int×ByteArray×List (List Int)×Unit) (P:Bool->Prop):(Br ((↑p.2.2.1.length:Int)==(0:Int)) (P false) (Br ((↑p.2.1.size:Int) !=(↑p.2.2.1.length:Int)) (P false) (∃(y2:Bool),Kc.fn (p.1,p.2.2.1,())=some y2/\Br (!y2) (P false) (Ev (λ(v3:lI) (k4:lI->Prop)=>Br (decide (v3.1<(↑v3.2.2.1.size:Int))) (∃(y5:Bool),eL.fn (v3.2.2.1,v3.1,())=some y5/\Br (!y5) (P false) (k4 (IntKind.i64.wrap (v3.1+(1:Int)),v3.2.1,v3.2.2.1,v3.2.2.2.1,()))) (P true)) ((0:Int),p.1,p.2.1,p.2.2.1,PUnit.unit)))))=fnW Hz (look [(115,Kc),(116,eL)]) Ie Try.f47 (p,()) P:=by kernel_rfl
theorem CS (p:Int×ByteArray×List (List Int)×Unit) (P:Bool->Prop):(∃(y2:Bool),Kc.fn (p.1,p.2.2.1,())=some y2/\Br y2 (∃(y3:Bool),bl.fn (p.2.1,())=some y3/\Br y3 (P ((↑p.2.1.size:Int)==(↑p.2.2.1.length:Int))) (P false)) (P false))=fnW Hz (look [(173,Kc),(174,bl)]) Ie Try.f119 (p,()) P:=by kernel_rfl
theorem qp (p:Int×ByteArray×List (List Int)×Unit) (xs:List Int) (P:Bool->Prop):(∃(y3:Bool),Ie.fn ((p.1,p.2.1,p.2.2.1,()),())=some y3/\Br y3 (∃(y4:Int),Od.fn (p.2.2.1,())=some y4/\ ∃(y5:Bool),Vk.fn (y4,xs,())=some y5/\P y5) (P false))=fnW Hz (look [(119,Ie),(93,Vk),(95,Od)]) Si Try.f164 (p,xs,()) P:=by kernel_rfl
theorem Akr (xs:List Int) (_:True):fnW Hz (look []) Tc Try.f140 (xs,()) (λ(z:Int)=>z=(xs.length:Int)):=Eq.mp (Ali xs _) rfl
theorem fZ:Sound Try.prog 140 Tc:=
 Sound.Ht Ge Cb mixed Try.func140 (by kernel_rfl) (by kernel_rfl) λx h=>Akr x.1 h
theorem BZ {α:Type} [DecidableEq α]: ∀(l m:List α),l.Nodup->(∀x∈l,x∈m)->l.length<=m.length
 | [],m,_,_=>Jx _
 |a::l,m,hn,hs=>by
  have ha:a∈m:=hs a (Lr ..)
  have hn:=Cg.1 hn
  have:=BZ l (m.erase a) hn.2 λx hx=>(List.mem_erase_of_ne (λ(e:x=a)=>hn.1 (by rw [<-e];exact hx))).2 (hs x (Ar _ hx))
  rw [Wy ha] at this
  have:0<m.length:=List.length_pos_of_mem ha
  simp only [Av]
  omega
def upto (n:Nat):List Int:=(List.range n).map Int.ofNat
theorem mX (n:Nat):(upto n).Nodup:=by
 unfold upto
 exact List.Pairwise.map _ (λa b ZH e=>ZH (Int.ofNat.inj e)) List.nodup_range
theorem Nk {n:Nat} {x:Int} :x∈upto n↔0<=x/\x<n:=by
 unfold upto
 simp only [Ba,Es]
 constructor
 ·rintro ⟨a,ha,rfl⟩;exact ⟨Int.natCast_nonneg _,Int.ofNat_lt.2 ha⟩
 ·rintro ⟨h1,h2⟩;exact ⟨x.toNat,by omega,by simp only [Int.ofNat_eq_natCast];omega⟩
theorem Ou (n:Nat):(upto n).length=n:=by simp [upto]
theorem jm {xs:List Int} (h: ∀j (hj:j<xs.length),xs[j]∉xs.take j):xs.Nodup:=by
 refine Fk.2 λi j hi hj fw e=>h j hj ?_
 rw [<-e]
 exact List.mem_take_iff_getElem.2 ⟨i,by omega,rfl⟩
theorem vB {xs:List Int} (h:xs.Nodup): ∀j (hj:j<xs.length),xs[j]∉xs.take j:=by
 intro j hj hm
 obtain ⟨i,hi,e⟩:=List.mem_take_iff_getElem.1 hm
 exact Fk.1 h i j (by omega) hj (by omega) e
theorem dj {xs:List Int} (h: ∀x∈xs,0<=x/\x<xs.length):(∀k:Nat,k<xs.length->(k:Int)∈xs)↔ ∀j (hj:j<xs.length),xs[j]∉xs.take j:=by
 constructor
 ·intro ha j hj hm
  have h1:=BZ (upto xs.length) (xs.take j++xs.drop (j+1)) (mX _) λx hx=>by
   obtain ⟨h1,h2⟩:=Nk.1 hx
   have hx:=ha x.toNat (by omega)
   rw [show ((x.toNat:Nat):Int)=x by omega] at hx
   rw [<-Lc j xs,Az,Nw hj,Bc] at hx
   rcases hx with hx|rfl|hx
   ·exact Bi _ hx
   ·exact Bi _ hm
   ·exact Cm _ hx
  rw [Ou,Ay,Hg,List.length_drop] at h1
  omega
 ·intro hn k hk
  refine Bk λhc=>?_
  have h1:=BZ xs ((upto xs.length).erase (k:Int)) (jm hn) λx hx=>by
   refine (List.mem_erase_of_ne λ(e:x=(k:Int))=>hc (by rw [<-e];exact hx)).2 (Nk.2 (h x hx))
  rw [Wy (Nk.2 ⟨by omega,by omega⟩),Ou] at h1
  omega
def mask (xs:List Int):Nat:=xs.foldl (λm x=>m|||2^x.toNat) 0
theorem UN (xs:List Int) (x:Int):mask (xs++ [x])=mask xs|||2^x.toNat:=by simp [mask]
theorem zP (xs:List Int) (k:Nat): ∀a:Nat,(xs.foldl (λm x=>m|||2^x.toNat) a).testBit k=(a.testBit k||xs.any λx=>decide (x.toNat=k)):=by
 induction xs with
 |nil=>simp
 |cons x xs ih=>
  intro a
  rw [Nm,ih,Nat.testBit_or,Nat.testBit_two_pow,List.any_cons,Bool.or_assoc]
theorem u7 (xs:List Int) (k:Nat):(mask xs).testBit k=xs.any λx=>decide (x.toNat=k):=by
 unfold mask
 rw [zP,Nat.zero_testBit,br]
theorem Afe {xs:List Int} {n:Nat} (h: ∀x∈xs,x.toNat<n):mask xs<2^n:=by
 refine Nat.lt_pow_two_of_testBit _ λk hk=>?_
 rw [u7]
 refine cr.2 λht=>?_
 obtain ⟨x,hx,he⟩:=Ep.1 ht
 have:=h x hx
 have:=Gw he
 omega
theorem xP {xs:List Int} (h: ∀x∈xs,0<=x/\x<xs.length):mask xs=2^xs.length-1↔ ∀k:Nat,k<xs.length->(k:Int)∈xs:=by
 constructor
 ·intro e k hk
  have h1:=u7 xs k
  rw [e,Nat.testBit_two_pow_sub_one,Cl hk] at h1
  obtain ⟨x,hx,he⟩:=Ep.1 h1.symm
  have:=(h x hx).1
  have:=Gw he
  have e:x=(k:Int):=by omega
  exact e▸hx
 ·intro ha
  refine Nat.eq_of_testBit_eq λk=>?_
  rw [u7,Nat.testBit_two_pow_sub_one]
  by_cases hk:k<xs.length
  ·rw [Cl hk]
   exact Ep.2 ⟨k,ha k hk,by simp⟩
  ·rw [Iu hk]
   refine cr.2 λht=>?_
   obtain ⟨x,hx,he⟩:=Ep.1 ht
   have:=h x hx
   have:=Gw he
   omega
theorem Afl {m:Nat} {x:Int} (hm:m<2^20) (h0:0<=x) (h1:x<20):
  IntKind.i64.wrap (((BitVec.ofInt IntKind.i64.bits (m:Int)|||BitVec.ofInt IntKind.i64.bits (IntKind.i64.wrap ((1:Int)*(2:Int)^min x.toNat IntKind.i64.bits))).toNat:Nat):Int)=((m|||2^x.toNat:Nat):Int):=by
 have hx:(2:Nat)^x.toNat<2^20:=Nat.pow_lt_pow_right (by omega) (by omega)
 have e1:min x.toNat IntKind.i64.bits=x.toNat:=by show min x.toNat 64=_;omega
 have e2:(1:Int)*(2:Int)^x.toNat=((2^x.toNat:Nat):Int):=by rw [Int.one_mul];exact (Int.natCast_pow 2 _).symm
 rw [e1,e2,Dq (n:=((2^x.toNat:Nat):Int)) (by have:(0:Int)<=((2^x.toNat:Nat):Int):=Int.natCast_nonneg _;omega) (by omega)]
 show IntKind.i64.wrap (((BitVec.ofInt 64 (m:Int)|||BitVec.ofInt 64 ((2^x.toNat:Nat):Int)).toNat:Nat):Int)=_
 rw [BitVec.ofInt_natCast,BitVec.ofInt_natCast,BitVec.toNat_or,BitVec.toNat_ofNat,BitVec.toNat_ofNat,Nat.mod_eq_of_lt (by omega),Nat.mod_eq_of_lt (by omega)]
 have:=Nat.or_lt_two_pow hm hx
 exact Dq (by omega) (by omega)
theorem AB (p:List Int) (h:short p):fnW Hz (look [(65,Dl),(152,Ql)]) Im Try.f169 (p,()) (λ(z:Bool)=>z=Kb p):=by
 have hs:=h
 unfold short at h
 refine Eq.mp (CU p _) ⟨_,Ab trivial,⟨λhp=>?_,λhp=>?_⟩⟩
 ·have hp:=Iy hp
  rw [Gd] at hp
  dsimp only at hp
  exact Dr λhh=>hp ⟨by omega,by omega⟩
 ·have hp:=Ji hp
  rw [Gd] at hp
  dsimp only at hp
  refine Cj p.length (λv=>v.1) (λj _=>DL p.length p j) rfl (λj _ hj=>absurd hj (Dj _)) ?_
  rintro j ⟨i,⟨⟩⟩ K hj hi hR hK
  dsimp only at hi⊢
  subst hi
  refine Br.dec (λhl=>?_) λhl=>?_
  ·have hl:j<p.length:=by omega
   refine ⟨_,Dk hl,_,Ab trivial,⟨λhq=>?_,λhq=>?_⟩⟩
   ·have hq:=Iy hq
    rw [Gd,Dq (by omega) (by omega)] at hq
    exact Dr λhh=>hq ⟨(hh.2.2 j hl hl).1,(hh.2.2 j hl hl).2.1⟩
   ·have hq:=Ji hq
    rw [Gd,Dq (by omega) (by omega)] at hq
    refine ⟨⟨by omega,by omega,by omega⟩,_,Dk hl,?_⟩
    rw [show (Int.toNat 0)=0 from rfl,Dy,Ac]
    refine ⟨_,Ab (OE hs j),⟨λhc=>?_,λhc=>?_⟩⟩
    ·have hc:decide (p[j]∈p.take j)=true:=hc
     rw [Gf] at hc
     exact Dr λhh=>(hh.2.2 j hl hl).2.2 hc
    ·have hc:decide (p[j]∈p.take j)=false:=hc
     rw [decide_eq_false_iff_not] at hc
     rw [Cd (by omega)]
     exact hK hl _ rfl (Ae8 hl hR hq.1 hq.2 hc)
  ·have:j=p.length:=by omega
   subst this
   exact Oi ⟨by omega,by omega,hR⟩
theorem Yr:Sound Try.prog 169 Im:=
 Sound.Ht Ge (Be Tx (Be oK Cb)) mixed Try.func169 (by kernel_rfl) (by kernel_rfl) λx h=>AB x.1 h
theorem zY (p:List Int) (h:short p):fnW Hz (look [(94,Dl),(140,Tc)]) Im Try.f141 (p,()) (λ(z:Bool)=>z=Kb p):=by
 unfold short at h
 refine Eq.mp (CR p _) ⟨_,Ab trivial,_,Ab trivial,⟨λhp=>?_,λhp=>?_⟩⟩
 ·have hp:=Iy hp
  rw [Gd] at hp
  dsimp only at hp
  exact Dr λhh=>hp ⟨by omega,by omega⟩
 ·have hp:=Ji hp
  rw [Gd] at hp
  dsimp only at hp
  refine Cj p.length (λv=>v.2.1) (λj v=>v.1=(mask (p.take j):Int)/\ ∀x∈p.take j,0<=x/\x<p.length) rfl ⟨rfl,by simp⟩ ?_
  rintro j ⟨m,i,⟨⟩⟩ K hj hi ⟨hm,hR⟩ hK
  dsimp only at hi hm⊢
  subst hi hm
  refine Br.dec (λhl=>?_) λhl=>?_
  ·have hl:j<p.length:=by omega
   refine ⟨_,Dk hl,_,Ab trivial,_,Ab trivial,⟨λhq=>?_,λhq=>?_⟩⟩
   ·have hq:=Iy hq
    rw [Gd] at hq
    dsimp only at hq
    rw [Dq (by omega) (by omega)] at hq
    exact Dr λhh=>hq ⟨(hh.2.2 j hl hl).1,(hh.2.2 j hl hl).2.1⟩
   ·have hq:=Ji hq
    rw [Gd] at hq
    dsimp only at hq
    rw [Dq (by omega) (by omega)] at hq
    refine ⟨by omega,?_⟩
    rw [Cd (by omega)]
    have hb:mask (p.take j)<2^20:=Afe λx hx=>by have:=hR x hx;omega
    refine hK hl _ rfl ⟨?_,?_⟩
    ·dsimp only
     rw [Afl hb hq.1 (by omega),Ga hl,UN]
    ·rw [Ga hl]
     intro x hx
     rcases Az.1 hx with hx|hx
     ·exact hR x hx
     ·rw [Ae.1 hx];omega
  ·have:j=p.length:=by omega
   subst this
   rw [Bg] at hR⊢
   refine ⟨by omega,?_⟩
   have hx:(2:Nat)^p.length<=2^20:=Nat.pow_le_pow_right (by omega) (by omega)
   have rV:0<(2:Nat)^p.length:=Nat.two_pow_pos _
   have e1:min (p.length:Int).toNat IntKind.i64.bits=p.length:=by show min (p.length:Int).toNat 64=_;omega
   have e2:(1:Int)*(2:Int)^p.length=((2^p.length:Nat):Int):=by rw [Int.one_mul];exact (Int.natCast_pow 2 _).symm
   rw [e1,e2,Dq (n:=((2^p.length:Nat):Int)) (by omega) (by omega),Dq (by omega) (by omega)]
   have hE:((mask p:Int)==((2^p.length:Nat):Int)-1)=decide (mask p=2^p.length-1):=by
    rw [iv,aD,Gf]
    omega
   show ((mask p:Int)==((2^p.length:Nat):Int)-1)=Kb p
   rw [hE]
   by_cases hf:mask p=2^p.length-1
   ·rw [Cl hf]
    have hn:=(dj hR).1 ((xP hR).1 hf)
    refine Oi ⟨by omega,by omega,λj hj _=>?_⟩
    have:=hR _ (An hj)
    exact ⟨this.1,by omega,hn j hj⟩
   ·rw [Iu hf]
    refine Dr λhh=>hf ((xP hR).2 ((dj hR).2 λj hj=>(hh.2.2 j hj hj).2.2))
theorem eR:Sound Try.prog 141 Im:=
 Sound.Ht Ge (Be Wu (Be fZ Cb)) mixed Try.func141 (by kernel_rfl) (by kernel_rfl) λx h=>zY x.1 h
theorem AA (n:Int) (g:List (List Int)) (h:So g):fnW Hz (look [(65,Dl),(169,Im)]) Kc Try.f115 (n,g,()) (λ(z:Bool)=>z=Mi n g):=by
 obtain ⟨h,h4⟩:=h
 refine Eq.mp (CT n g _) ⟨_,Ab trivial,⟨λhp=>?_,λhp=>?_⟩⟩
 ·have hp:=Iy hp
  rw [Gd] at hp
  exact Dr λhh=>hp hh.1
 ·have hp:=Ji hp
  rw [Gd] at hp
  refine Br.dec (λhg=>?_) λhg=>?_
  ·exact Dr λhh=>by have:=hh.2.1;omega
  ·refine Cj g.length (λv=>v.1) (λj _=> ∀p∈g.take j,Gr n p=true) rfl (by simp) ?_
   rintro j ⟨i,⟨⟩⟩ K hj hi hR hK
   dsimp only at hi⊢
   subst hi
   refine Br.dec (λhl=>?_) λhl=>?_
   ·have hl:j<g.length:=by omega
    have hm:g[j]∈g:=An hl
    refine ⟨_,Dk hl,⟨λhe=>?_,λhe=>?_⟩⟩
    ·simp only [bne_iff_ne,ne_eq] at he
     exact Dr λhh=>he (Ej.1 (hh.2.2 _ hm)).1
    ·simp only [bne_eq_false_iff_eq] at he
     refine ⟨_,Dk hl,_,Ab (h4 _ hm),⟨λhq=>?_,λhq=>?_⟩⟩
     ·have hq:=Iy hq
      exact Dr λhh=>hq (Ej.1 (hh.2.2 _ hm)).2
     ·have hq:=Ji hq
      rw [Cd (by omega)]
      refine hK hl _ rfl ?_
      rw [Ga hl]
      intro x hx
      rcases Az.1 hx with hx|hx
      ·exact hR x hx
      ·rw [Ae.1 hx];exact Ej.2 ⟨he,hq⟩
   ·have:j=g.length:=by omega
    subst this
    rw [Bg] at hR
    exact Oi ⟨hp,by omega,hR⟩
theorem Yq:Sound Try.prog 115 Kc:=
 Sound.Ht Ge (Be Tx (Be Yr Cb)) mixed Try.func115 (by kernel_rfl) (by kernel_rfl) λx h=>AA x.1 x.2.1 h
theorem Afo (p:List Int) (n:Int) (h:short p):fnW Hz (look [(140,Tc),(141,Im)]) kG Try.f206 (p,n,()) (λ(z:Bool)=>z=!Gr n p):=by
 refine Eq.mp (Agi p n _) ⟨_,Ab trivial,⟨λhe=>?_,λhe=>⟨_,Ab h,?_⟩⟩⟩
 ·simp only [bne_iff_ne,ne_eq] at he
  have:Gr n p=false:=Ae6.2 λhh=>he hh.1
  rw [this];rfl
 ·simp only [bne_eq_false_iff_eq] at he
  show (!Kb p)=_
  congr 1
  cases hp:Kb p with
  |true=>exact Oi ⟨he,hp⟩
  |false=>exact Dr λhh=>by rw [hh.2] at hp;cases hp
theorem IL:Sound Try.prog 206 kG:=
 Sound.Ht Ge (Be fZ (Be eR Cb)) mixed Try.func206 (by kernel_rfl) (by kernel_rfl) λx h=>Afo x.1 x.2.1 h
theorem qV {α:Type} (P:α->Bool): ∀(l:List α) (i:Int),0<=i->(0<=Gk P l i↔l.any P=true)
 | [],i,_=>by simp [Gk]
 |y::r,i,h=>by
  simp only [Gk,List.any_cons,Jz]
  split
  ·rename_i hy;simp [hy,h]
  ·rename_i hy;rw [qV P r (i+1) (by omega)];simp [hy]
theorem Apx (g:List (List Int)) (n:Int×Unit) (h:So g):fnW Hz (look [(206,kG)]) yl Try.f197 (g,n,()) (λ(z:Int)=>z=Gk (λp=>!Gr n.1 p) g 0):=by
 obtain ⟨h,h4⟩:=h
 refine Eq.mp (Aqh g n _) ?_
 refine Cj g.length (λv=>v.1) (λj _=>Gk (λp=>!Gr n.1 p) (g.drop j) j=Gk (λp=>!Gr n.1 p) g 0) rfl (by simp) ?_
 rintro j ⟨i,⟨⟩⟩ K hj hi hR hK
 dsimp only at hi⊢
 subst hi
 refine Br.dec (λhl=>?_) λhl=>?_
 ·have hl:j<g.length:=by omega
  rw [Nw hl] at hR
  simp only [Gk] at hR
  refine ⟨_,Dk hl,_,Ab (h4 _ (An hl)),⟨λhe=>?_,λhe=>?_⟩⟩
  ·have he:(!Gr n.1 g[j])=true:=he
   rw [Ab he] at hR
   exact hR
  ·have he:(!Gr n.1 g[j])=false:=he
   rw [Ak (by rw [he];decide)] at hR
   rw [Cd (by omega)]
   exact hK hl _ rfl (by push_cast;exact hR)
 ·have:j=g.length:=by omega
  subst this
  rw [List.drop_length] at hR
  exact hR
theorem WC:Sound Try.prog 197 yl:=
 Sound.Ht Ge (Be IL Cb) mixed Try.func197 (by kernel_rfl) (by kernel_rfl) λx h=>Apx x.1 x.2.1 h
theorem Apu (g:List (List Int)) (n:Int×Unit) (h:So g):fnW Hz (look [(197,yl)]) yi Try.f205 (g,n,()) (λ(z:Bool)=>z=List.any g (λp=>!Gr n.1 p)):=by
 refine Eq.mp (Aqe g n _) ⟨_,Ab h,?_⟩
 rw [iv,Gf]
 exact qV _ g 0 (Pu 0)
theorem VZ:Sound Try.prog 205 yi:=
 Sound.Ht Ge (Be WC Cb) mixed Try.func205 (by kernel_rfl) (by kernel_rfl) λx h=>Apu x.1 x.2.1 h
theorem zX (n:Int) (g:List (List Int)) (h:So g):fnW Hz (look [(94,Dl),(205,yi)]) Kc Try.f173 (n,g,()) (λ(z:Bool)=>z=Mi n g):=by
 refine Eq.mp (CQ n g _) ⟨_,Ab trivial,⟨λhp=>?_,λhp=>?_⟩⟩
 ·have hp:Ma n 1 20=true:=hp
  rw [Gd] at hp
  refine Br.dec (λhl=>⟨_,Ab h,?_⟩) λhl=>?_
  ·show (!List.any g (λp=>!Gr n p))=Mi n g
   cases ha:List.any g (λp=>!Gr n p) with
   |true=>
    obtain ⟨p,tH,RI⟩:=Ep.1 ha
    exact Dr λhh=>by rw [hh.2.2 p tH] at RI;cases RI
   |false=>
    refine Oi ⟨hp,by omega,λp hm=>?_⟩
    have:=List.any_eq_false.1 ha p hm
    simpa using this
  ·exact Dr λhh=>by have:=hh.2.1;omega
 ·refine Dr λhh=>?_
  have:Ma n 1 20=true:=Gd.2 hh.1
  have hp:Ma n 1 20=false:=hp
  rw [this] at hp;cases hp
theorem qg:Sound Try.prog 173 Kc:=
 Sound.Ht Ge (Be Wu (Be VZ Cb)) mixed Try.func173 (by kernel_rfl) (by kernel_rfl) λx h=>zX x.1 x.2.1 h
theorem Mp {s:ByteArray} {k:Nat} (h:k<s.size):s[k]?=some s[k]:=getElem?_pos s k h
theorem Abb (s:ByteArray) (i:Int) (h:0<=i/\i<s.size/\s.size<=4294967296):fnW Hz (look []) eL Try.f116 (s,i,()) (λ(z:Bool)=>z=og s i):=by
 obtain ⟨h1,h2,h3⟩:=h
 have hi:i.toNat<s.size:=by omega
 refine Eq.mp (Ad6 s i _) ⟨h1,_,Mp hi,Br.dec (λhq=>?_) λhq=>⟨h1,_,Mp hi,Br.dec (λhr=>?_) λhr=>?_⟩⟩
 ·refine Dr λ⟨c,hc,XN,_⟩=>?_
  rw [Mp hi] at hc;cases hc;omega
 ·refine Dr λ⟨c,hc,_,XN,_⟩=>?_
  rw [Mp hi] at hc;cases hc;omega
 ·refine Cj i.toNat (λv=>v.1) (λj _=> ∀k,k<j->s[k]?≠some s[i.toNat]) rfl (λk hk=>absurd hk (Dj _)) ?_
  rintro j ⟨i',⟨⟩⟩ K hj dP hR hK
  dsimp only at dP⊢
  subst dP
  refine Br.dec (λhl=>?_) λhl=>?_
  ·have hl:j<i.toNat:=by omega
   have hj:j<s.size:=by omega
   rw [Ac]
   refine ⟨by omega,_,Mp hj,h1,_,Mp hi,⟨λhe=>?_,λhe=>?_⟩⟩
   ·simp only [aD,Int.natCast_inj] at he
    refine Dr λ⟨c,hc,_,_,XN⟩=>?_
    rw [Mp hi] at hc;cases hc
    exact XN j hl (by rw [Mp hj,UInt8.toNat_inj.1 he])
   ·simp only [Ra,ne_eq,Int.natCast_inj] at he
    rw [Cd (by omega)]
    refine hK hl _ rfl λk hk=>?_
    by_cases e:k=j
    ·subst e
     rw [Mp hj]
     exact λe=>he (by rw [Bd e])
    ·exact hR k (by omega)
  ·have:j=i.toNat:=by omega
   subst this
   exact Oi ⟨_,Mp hi,by omega,by omega,hR⟩
theorem BL:Sound Try.prog 116 eL:=
 Sound.Ht Ge Cb mixed Try.func116 (by kernel_rfl) (by kernel_rfl) λx h=>Abb x.1 x.2.1 h
theorem VE (s:ByteArray) (h:s.size<=4294967296):fnW Hz (look [(94,Dl)]) bl Try.f174 (s,()) (λ(z:Bool)=>z=bh s):=by
 refine Eq.mp (XA s _) ?_
 refine Cj s.size (λv=>v.1) (λj _=> ∀k,k<j->yI s k) rfl (λk hk=>absurd hk (Dj _)) ?_
 rintro j ⟨i,⟨⟩⟩ K hj hi hR hK
 dsimp only at hi⊢
 subst hi
 refine Br.dec (λhl=>?_) λhl=>?_
 ·have hl:j<s.size:=by omega
  rw [Ac]
  have hb:=(s[j]).toNat_lt
  refine ⟨by omega,_,Mp hl,_,Ab trivial,⟨λhq=>?_,λhq=>?_⟩⟩
  ·have hq:=Iy hq
   rw [Gd] at hq
   dsimp only at hq
   rw [Dq (by omega) (by omega)] at hq
   refine Dr λhh=>?_
   obtain ⟨c,hc,XN,hc2,_⟩:=hh.2 j hl
   rw [Mp hl] at hc;cases hc
   exact hq ⟨by omega,by omega⟩
  ·have hq:=Ji hq
   rw [Gd] at hq
   dsimp only at hq
   rw [Dq (by omega) (by omega)] at hq
   refine Cj j (λv=>v.1) (λm _=> ∀k,k<m->s[k]?≠some s[j]) rfl (λk hk=>absurd hk (Dj _)) ?_
   rintro m ⟨i',⟨⟩⟩ K' hm dP hR' hK'
   dsimp only at dP⊢
   subst dP
   refine Br.dec (λJg=>?_) λJg=>?_
   ·have Jg:m<j:=by omega
    have FL:m<s.size:=by omega
    rw [Ac]
    refine ⟨by omega,_,Mp FL,by omega,_,Mp hl,⟨λhe=>?_,λhe=>?_⟩⟩
    ·simp only [aD,Int.natCast_inj] at he
     refine Dr λhh=>?_
     obtain ⟨c,hc,_,_,XN⟩:=hh.2 j hl
     rw [Mp hl] at hc;cases hc
     exact XN m Jg (by rw [Mp FL,UInt8.toNat_inj.1 he])
    ·simp only [Ra,ne_eq,Int.natCast_inj] at he
     rw [Cd (by omega)]
     refine hK' Jg _ rfl λk hk=>?_
     by_cases e:k=m
     ·subst e
      rw [Mp FL]
      exact λe=>he (by rw [Bd e])
     ·exact hR' k (by omega)
   ·have:m=j:=by omega
    subst this
    rw [Cd (by omega)]
    refine hK hl _ rfl λk hk=>?_
    by_cases e:k=m
    ·subst e
     exact ⟨_,Mp hl,by omega,by omega,hR'⟩
    ·exact hR k (by omega)
 ·have:j=s.size:=by omega
  subst this
  refine ⟨_,Ab trivial,?_⟩
  show Ma s.size 1 8=_
  cases hr:Ma s.size 1 8 with
  |true=>rw [Gd] at hr;exact Oi ⟨by omega,hR⟩
  |false=>refine Dr λhh=>?_;rw [Gd.2 ⟨by omega,by omega⟩] at hr;cases hr
theorem wL:Sound Try.prog 174 bl:=
 Sound.Ht Ge (Be Wu Cb) mixed Try.func174 (by kernel_rfl) (by kernel_rfl) λx h=>VE x.1 h
theorem PD {p:PP} (h:Cs p=true):1<=p.1/\p.1<=20/\1<=p.2.2.1.length/\p.2.2.1.length<=8:=by
 obtain ⟨h1,h2,h3⟩:=Ej.1 h
 obtain ⟨h4,h5,_⟩:=Ej.1 h1
 obtain ⟨h6,_⟩:=Ej.1 h2
 omega
theorem AD (p:PP) (h:Gt p):fnW Hz (look [(115,Kc),(116,eL)]) Ie Try.f47 (p,()) (λ(z:Bool)=>z=Cs p):=by
 obtain ⟨hn,hg⟩:=h
 refine Eq.mp (CV p _) ⟨λh0=>?_,λh0=>⟨λh1=>?_,λh1=>⟨_,Ab hg,⟨λh2=>?_,λh2=>?_⟩⟩⟩⟩
 ·simp only [aD] at h0
  exact Dr λhh=>by obtain ⟨_,h2,h3⟩:=hh;have:=(Ej.1 h2).1;omega
 ·simp only [bne_iff_ne,ne_eq,Int.natCast_inj] at h1
  exact Dr λhh=>h1 hh.2.2
 ·have h2:=Iy h2
  exact Dr λhh=>h2 hh.1
 ·simp only [Ra,ne_eq] at h0
  simp only [bne_eq_false_iff_eq,Int.natCast_inj] at h1
  have h2:Mi p.1 p.2.2.1=true:=Ji h2
  refine Cj p.2.1.size (λv=>v.1) (λj v=>v.2=(p.1,p.2.1,p.2.2.1,())/\ ∀k,k<j->yI p.2.1 k) rfl ⟨rfl,λk hk=>absurd hk (Dj _)⟩ ?_
  rintro j ⟨i,v⟩ K hj hi ⟨hv,hR⟩ hK
  dsimp only at hi hv⊢
  subst hi hv
  dsimp only
  refine Br.dec (λhl=>?_) λhl=>?_
  ·have hl:j<p.2.1.size:=by omega
   refine ⟨_,Ab ⟨Int.natCast_nonneg j,Int.ofNat_lt.2 hl,hn⟩,⟨λhq=>?_,λhq=>?_⟩⟩
   ·have hq: ¬og p.2.1 j=true:=Iy hq
    refine Dr λhh=>hq (Ej.2 ?_)
    rw [Ac]
    exact (Ej.1 hh.2.1).2 j hl
   ·have hq:og p.2.1 j=true:=Ji hq
    have hq:=Ej.1 hq
    rw [Ac] at hq
    rw [Cd (by omega)]
    refine hK hl _ rfl ⟨rfl,λk hk=>?_⟩
    by_cases e:k=j
    ·subst e;exact hq
    ·exact hR k (by omega)
  ·have:j=p.2.1.size:=by omega
   subst this
   have:=(Ej.1 h2).2.1
   exact Oi ⟨h2,Ej.2 ⟨⟨by omega,by omega⟩,hR⟩,h1⟩
theorem Ys:Sound Try.prog 47 Ie:=
 Sound.Ht Ge (Be Yq (Be BL Cb)) mixed Try.func47 (by kernel_rfl) (by kernel_rfl) λx h=>AD x.1 h
theorem zZ (p:PP) (h:Gt p):fnW Hz (look [(173,Kc),(174,bl)]) Ie Try.f119 (p,()) (λ(z:Bool)=>z=Cs p):=by
 obtain ⟨hn,hg⟩:=h
 refine Eq.mp (CS p _) ⟨_,Ab hg,⟨λh1=>⟨_,Ab hn,⟨λh2=>?_,λh2=>?_⟩⟩,λh1=>?_⟩⟩
 ·have h1:Mi p.1 p.2.2.1=true:=h1
  have h2:bh p.2.1=true:=h2
  by_cases e:p.2.1.size=p.2.2.1.length
  ·rw [e,beq_self_eq_true];exact Oi ⟨h1,h2,e⟩
  ·rw [show ((p.2.1.size:Int)==(p.2.2.1.length:Int))=false from Ra.2 (by omega)];exact Dr λhh=>e hh.2.2
 ·have h2:bh p.2.1=false:=h2
  exact Dr λhh=>by rw [hh.2.1] at h2;cases h2
 ·have h1:Mi p.1 p.2.2.1=false:=h1
  exact Dr λhh=>by rw [hh.1] at h1;cases h1
theorem eS:Sound Try.prog 119 Ie:=
 Sound.Ht Ge (Be qg (Be wL Cb)) mixed Try.func119 (by kernel_rfl) (by kernel_rfl) λx h=>zZ x.1 h
theorem QD {a b:Bool} :(a&&b)=dec (a=true/\b=true):=by
 cases ha:a<;>cases hb:b
 ·exact Dr (by simp)
 ·exact Dr (by simp)
 ·exact Dr (by simp)
 ·exact Oi ⟨rfl,rfl⟩
theorem pT (p:PP) (xs:List Int) (h:Gt p/\short xs):fnW Hz (look [(119,Ie),(93,Vk),(95,Od)]) Si Try.f164 (p,xs,()) (λ(z:Bool)=>z=Dp p xs):=by
 refine Eq.mp (qp p xs _) ⟨_,Ab h.1,⟨λh1=>⟨_,Ab trivial,_,Ab ⟨⟨by dsimp only;omega,by have:=h.1.2.1;dsimp only;omega⟩,h.2⟩,?_⟩,λh1=>?_⟩⟩
 ·have h1:Cs p=true:=h1
  show Zx p.2.2.1.length xs=_
  rw [Dp,<-QD,h1,bt]
 ·have h1:Cs p=false:=h1
  rw [Dp,<-QD,h1,Tk]
theorem jK:Sound Try.prog 164 Si:=
 Sound.Ht Ge (Be eS (Be s9 (Be db Cb))) mixed Try.func164 (by kernel_rfl) (by kernel_rfl) λx h=>pT x.1 x.2.1 h
noncomputable abbrev eM:Spec:=Ht (.pair tI (.pair tL .unit)) .bool false true (λx=>short x.2.1) (λx=>Gr x.1 x.2.1)
noncomputable abbrev Yn:Spec:=Ht (.pair Lq (.pair tL .unit)) .bool false true (λx=>short x.2.1) (λx=>Gr x.1.1 x.2.1)
noncomputable abbrev Sh:Spec:=Ht (.pair Lq (.pair tL .unit)) .bool false true (λx=>Gt x.1/\short x.2.1) (λx=>Cs x.1&&Gr x.1.1 x.2.1)
theorem Ad7 (n:Int) (s:List Int) (P:Bool->Prop):(Br ((↑s.length:Int)==n) (∃(y3:Bool),Im.fn (s,())=some y3/\P y3) (P false))=fnW Hz (look [(169,Im)]) eM Try.f148 (n,s,()) P:=by kernel_rfl
theorem vG (p:Int×ByteArray×List (List Int)×Unit) (s:List Int) (P:Bool->Prop):(∃(y3:Int),Tc.fn (s,())=some y3/\Br (y3==p.1) (∃(y4:Bool),Im.fn (s,())=some y4/\P y4) (P false))=fnW Hz (look [(140,Tc),(141,Im)]) Yn Try.f67 (p,s,()) P:=by kernel_rfl
theorem x4 (p:Int×ByteArray×List (List Int)×Unit) (s:List Int) (P:Bool->Prop):(∃(y3:Bool),Ie.fn ((p.1,p.2.1,p.2.2.1,()),())=some y3/\Br y3 (∃(y4:Bool),eM.fn (p.1,s,())=some y4/\P y4) (P false))=fnW Hz (look [(47,Ie),(148,eM)]) Sh Try.f73 (p,s,()) P:=by kernel_rfl
theorem Abc (n:Int) (s:List Int) (h:short s):fnW Hz (look [(169,Im)]) eM Try.f148 (n,s,()) (λ(z:Bool)=>z=Gr n s):=by
 refine Eq.mp (Ad7 n s _) ⟨λhe=>⟨_,Ab h,?_⟩,λhe=>?_⟩
 ·simp only [aD] at he
  show Kb s=_
  cases hp:Kb s with
  |true=>exact Oi ⟨he,hp⟩
  |false=>exact Dr λhh=>by rw [hh.2] at hp;cases hp
 ·simp only [Ra,ne_eq] at he
  exact Dr λhh=>he hh.1
theorem BM:Sound Try.prog 148 eM:=
 Sound.Ht Ge (Be Yr Cb) mixed Try.func148 (by kernel_rfl) (by kernel_rfl) λx h=>Abc x.1 x.2.1 h
theorem uk (p:PP) (s:List Int) (h:short s):fnW Hz (look [(140,Tc),(141,Im)]) Yn Try.f67 (p,s,()) (λ(z:Bool)=>z=Gr p.1 s):=by
 refine Eq.mp (vG p s _) ⟨_,Ab trivial,⟨λhe=>⟨_,Ab h,?_⟩,λhe=>?_⟩⟩
 ·simp only [aD] at he
  show Kb s=_
  cases hp:Kb s with
  |true=>exact Oi ⟨he,hp⟩
  |false=>exact Dr λhh=>by rw [hh.2] at hp;cases hp
 ·simp only [Ra,ne_eq] at he
  exact Dr λhh=>he hh.1
theorem mT:Sound Try.prog 67 Yn:=
 Sound.Ht Ge (Be fZ (Be eR Cb)) mixed Try.func67 (by kernel_rfl) (by kernel_rfl) λx h=>uk x.1 x.2.1 h
theorem wy (p:PP) (s:List Int) (h:Gt p/\short s):fnW Hz (look [(47,Ie),(148,eM)]) Sh Try.f73 (p,s,()) (λ(z:Bool)=>z=(Cs p&&Gr p.1 s)):=by
 refine Eq.mp (x4 p s _) ⟨_,Ab h.1,⟨λhe=>⟨_,Ab h.2,?_⟩,λhe=>?_⟩⟩
 ·have he:Cs p=true:=he
  rw [he];rfl
 ·have he:Cs p=false:=he
  rw [he];rfl
theorem dc:Sound Try.prog 73 Sh:=
 Sound.Ht Ge (Be Ys (Be BM Cb)) mixed Try.func73 (by kernel_rfl) (by kernel_rfl) λx h=>wy x.1 x.2.1 h
def Cr (xs:List Int) (i:Int):Int:=xs.getD i.toNat 0
def Af (p q:List Int):List Int:=p.map (Cr q)
def cH (f:Nat->Nat) (g:Nat->Int) (m:Nat) (init:List Int):List Int:=(List.range m).foldl (λ(out:List Int) (i:Nat)=>out.set (f i) (g i)) init
def Bb (p:List Int):List Int:=cH (λi=>(Cr p (i:Int)).toNat) (λi=>(i:Int)) p.length (List.replicate p.length 0)
def Rk (n:Nat) (p:List Int):Prop:= ∀y∈p,0<=y/\y<n
noncomputable abbrev Kk:Spec:=Ht (.pair tL (.pair tL .unit)) tL false true (λx=>List.length x.1<=20/\Rk (List.length x.2.1) x.1) (λx=>Af x.1 x.2.1)
noncomputable abbrev Fp:Spec:=Ht (.pair tL .unit) tL false true (λx=>List.length x.1<=20/\Rk (List.length x.1) x.1) (λx=>Bb x.1)
noncomputable abbrev Pr:Spec:=Ht (.pair tI .unit) tL false true (λx=>0<=x.1/\x.1<=20) (λx=>upto x.1.toNat)
def Ax (g:List (List Int)) (l:Int):List Int:=if l>0 then g.getD (l-1).toNat [] else Bb (g.getD (-l-1).toNat [])
def Ic (n:Int) (l:Int):Prop:=l≠0/\ -n<=l/\l<=n
noncomputable abbrev Lg:Spec:=Ht (.pair se (.pair tI .unit)) tL false false (λx=>Ic (List.length x.1) x.2.1/\List.length x.1<=8/\ ∀p∈x.1,Kb p=true) (λx=>Ax x.1 x.2.1)
def Au (n:Nat):List Int:=(List.range n).flatMap λ(k:Nat)=> [(k:Int)+1,-((k:Int)+1)]
noncomputable abbrev Kl:Spec:=Ht (.pair tI .unit) tL false true (λx=>0<=x.1/\x.1<=8) (λx=>Au x.1.toNat)
theorem wX (p q:List Int) (P:List Int->Prop):(((0:Int)<=(↑p.length:Int)/\(↑p.length:Int)<(↑Dn:Int)+(1:Int))/\(↑p.length:Int)=(↑p.length:Int)/\0=0/\(List.replicate (↑p.length:Int).toNat (Int.ofNat (nat_lit 0))).length=(List.replicate (↑p.length:Int).toNat (Int.ofNat (nat_lit 0))).length/\Ev (λ(v3:Int×List Int×PUnit) (k4:Int×List Int×PUnit->Prop)=>Br (decide (v3.1<(↑p.length:Int))) (∃(y5:Int),idx p v3.1=some y5/\ ∃(y6:Int),idx q y5=some y6/\((0:Int)<=v3.1/\v3.1<(↑v3.2.1.length:Int))/\0+v3.1.toNat<v3.2.1.length/\0=0/\v3.2.1.length=(v3.2.1.set (0+v3.1.toNat) y6).length/\k4 (IntKind.i64.wrap (v3.1+(1:Int)),v3.2.1.set (0+v3.1.toNat) y6,())) (P (List.take v3.2.1.length (List.drop 0 v3.2.1)))) ((0:Int),List.replicate (↑p.length:Int).toNat (Int.ofNat (nat_lit 0)),PUnit.unit))=fnW Hz (look []) Kk Try.f142 (p,q,()) P:=by kernel_rfl
theorem wY (p:List Int) (P:List Int->Prop):(((0:Int)<=(↑p.length:Int)/\(↑p.length:Int)<(↑Dn:Int)+(1:Int))/\(↑p.length:Int)=(↑p.length:Int)/\0=0/\(List.replicate (↑p.length:Int).toNat (Int.ofNat (nat_lit 0))).length=(List.replicate (↑p.length:Int).toNat (Int.ofNat (nat_lit 0))).length/\Ev (λ(v2:Int×List Int×PUnit) (k3:Int×List Int×PUnit->Prop)=>Br (decide (v2.1<(↑p.length:Int))) (∃(y4:Int),idx p v2.1=some y4/\((0:Int)<=y4/\y4<(↑v2.2.1.length:Int))/\0+y4.toNat<v2.2.1.length/\0=0/\v2.2.1.length=(v2.2.1.set (0+y4.toNat) v2.1).length/\k3 (IntKind.i64.wrap (v2.1+(1:Int)),v2.2.1.set (0+y4.toNat) v2.1,())) (P (List.take v2.2.1.length (List.drop 0 v2.2.1)))) ((0:Int),List.replicate (↑p.length:Int).toNat (Int.ofNat (nat_lit 0)),PUnit.unit))=fnW Hz (look []) Fp Try.f143 (p,()) P:=by kernel_rfl
theorem XF (p:List Int) (P:List Int->Prop):(((0:Int)<=(↑p.length:Int)/\(↑p.length:Int)<(↑Dn:Int)+(1:Int))/\(↑p.length:Int)=(↑p.length:Int)/\0=0/\(List.replicate (↑p.length:Int).toNat (Int.ofNat (nat_lit 0))).length=(List.replicate (↑p.length:Int).toNat (Int.ofNat (nat_lit 0))).length/\Ev (λ(v2:Int×List Int×PUnit) (k3:Int×List Int×PUnit->Prop)=>Br (decide (v2.1<(↑p.length:Int))) (∃(y4:Int),idx p v2.1=some y4/\((0:Int)<=y4/\y4<(↑v2.2.1.length:Int))/\0+y4.toNat<v2.2.1.length/\0=0/\v2.2.1.length=(v2.2.1.set (0+y4.toNat) v2.1).length/\k3 (IntKind.i64.wrap (v2.1+(1:Int)),v2.2.1.set (0+y4.toNat) v2.1,())) (P (List.take v2.2.1.length (List.drop 0 v2.2.1)))) ((0:Int),List.replicate (↑p.length:Int).toNat (Int.ofNat (nat_lit 0)),PUnit.unit))=fnW Hz (look []) Fp Try.f190 (p,()) P:=by kernel_rfl
theorem PK (n:Int) (P:List Int->Prop):(0=0/\0=([]:List Int).length/\Ev (λ(v2:Int×List Int×PUnit) (k3:Int×List Int×PUnit->Prop)=>Br (decide (v2.1<n)) (0=0/\v2.2.1.length=v2.2.1.length/\v2.2.1.length+(List.take 1 (List.drop 0 [v2.1])).length<=Dn/\0=0/\(v2.2.1++List.take 1 (List.drop 0 [v2.1])).length=(v2.2.1++List.take 1 (List.drop 0 [v2.1])).length/\k3 (IntKind.i64.wrap (v2.1+(1:Int)),v2.2.1++List.take 1 (List.drop 0 [v2.1]),())) (P (List.take v2.2.1.length (List.drop 0 v2.2.1)))) ((0:Int),[],PUnit.unit))=fnW Hz (look []) Pr Try.f66 (n,()) P:=by kernel_rfl
theorem PQ (g:List (List Int)) (l:Int) (P:List Int->Prop):(Br (decide (l>(0:Int))) (∃(y3:List Int),idx g (IntKind.i64.wrap (l-(1:Int)))=some y3/\P y3) (∃(y3:List Int),idx g (IntKind.i64.wrap (IntKind.i64.wrap ((0:Int)-l)-(1:Int)))=some y3/\ ∃(y4:List Int),Fp.fn (y3,())=some y4/\P y4))=fnW Hz (look [(143,Fp)]) Lg Try.f147 (g,l,()) P:=by kernel_rfl
theorem XC (n:Int) (P:List Int->Prop):(0=0/\0=([]:List Int).length/\Ev (λ(v2:Int×List Int×PUnit) (k3:Int×List Int×PUnit->Prop)=>Br (decide (v2.1<n)) (0=0/\v2.2.1.length=v2.2.1.length/\v2.2.1.length+(List.take 2 (List.drop 0 [IntKind.i64.wrap (v2.1+(1:Int)),IntKind.i64.wrap ((0:Int)-IntKind.i64.wrap (v2.1+(1:Int)))])).length<=Dn/\0=0/\(v2.2.1++List.take 2 (List.drop 0 [IntKind.i64.wrap (v2.1+(1:Int)),IntKind.i64.wrap ((0:Int)-IntKind.i64.wrap (v2.1+(1:Int)))])).length=(v2.2.1++List.take 2 (List.drop 0 [IntKind.i64.wrap (v2.1+(1:Int)),IntKind.i64.wrap ((0:Int)-IntKind.i64.wrap (v2.1+(1:Int)))])).length/\k3 (IntKind.i64.wrap (v2.1+(1:Int)),v2.2.1++List.take 2 (List.drop 0 [IntKind.i64.wrap (v2.1+(1:Int)),IntKind.i64.wrap ((0:Int)-IntKind.i64.wrap (v2.1+(1:Int)))]),())) (P (List.take v2.2.1.length (List.drop 0 v2.2.1)))) ((0:Int),[],PUnit.unit))=fnW Hz (look []) Kl Try.f121 (n,()) P:=by kernel_rfl
theorem Jj {xs:List Int} {i:Nat} (h:i<xs.length):Cr xs (i:Int)=xs[i]:=by
 unfold Cr
 rw [Ac,Al,Ad h];rfl
theorem On {xs:List Int} {y:Int} (h0:0<=y) (h:y<xs.length):idx xs y=some (Cr xs y):=by
 have hy:y.toNat<xs.length:=by omega
 have e:y=(y.toNat:Int):=by omega
 rw [e,Dk hy,Jj hy]
theorem aT (f:Nat->Nat) (g:Nat->Int) (m:Nat) (init:List Int):cH f g (m+1) init=(cH f g m init).set (f m) (g m):=by simp [cH,bb]
theorem cI (f:Nat->Nat) (g:Nat->Int) (m:Nat) (init:List Int):(cH f g m init).length=init.length:=by
 induction m with
 |zero=>rfl
 |succ m ih=>rw [aT,Bv,ih]
theorem qG (f:Nat->Nat) (g:Nat->Int) (init:List Int): ∀(m:Nat),(∀i j,i<m->j<m->f i=f j->i=j)-> ∀i,i<m->f i<init.length->(cH f g m init)[f i]?=some (g i)
 |0,_,i,h,_=>absurd h (Dj _)
 |m+1,hf,i,hi,hl=>by
  rw [aT]
  by_cases e:i=m
  ·subst e
   exact List.getElem?_set_self (by rw [cI];exact hl)
  ·rw [List.getElem?_set_ne (λh=>e (hf i m hi (by omega) h.symm))]
   exact qG f g init m (λa b ha hb=>hf a b (by omega) (by omega)) i (by omega) hl
structure bu (p:List Int):Prop where
 pos:1<=p.length
 len:p.length<=20
 row:Rk p.length p
 nodup:p.Nodup
theorem dz {p:List Int} (h:Kb p=true):bu p:=by
 obtain ⟨h1,h2,h3⟩:=Ej.1 h
 refine ⟨h1,h2,λy hy=>?_,jm λj hj=>(h3 j hj hj).2.2⟩
 obtain ⟨j,hj,rfl⟩:=Bj.1 hy
 have:=h3 j hj hj
 omega
theorem bu.inj {p:List Int} (h:bu p) (i j:Nat) (hi:i<p.length) (hj:j<p.length) (e:(Cr p (i:Int)).toNat=(Cr p (j:Int)).toNat):i=j:=by
 rw [Jj hi,Jj hj] at e
 have h1:=h.row _ (An hi)
 have h2:=h.row _ (An hj)
 have e:p[i]=p[j]:=by omega
 refine Bk λIg=>?_
 rcases Nat.lt_or_gt_of_ne Ig with hl|hl
 ·exact Fk.1 h.nodup i j hi hj hl e
 ·exact Fk.1 h.nodup j i hj hi hl e.symm
theorem bu.UR {p:List Int} (h:bu p) (k:Nat) (hk:k<p.length): ∃i,i<p.length/\(Cr p (i:Int)).toNat=k:=by
 have hm:=(dj (xs:=p) h.row).2 (vB h.nodup) k hk
 obtain ⟨i,hi,e⟩:=Bj.1 hm
 exact ⟨i,hi,by rw [Jj hi,e];exact Ac k⟩
theorem bu.lt {p:List Int} (h:bu p) {i:Nat} (hi:i<p.length):(Cr p (i:Int)).toNat<p.length:=by
 rw [Jj hi]
 have:=h.row _ (An hi)
 omega
theorem nY (p:List Int):(Bb p).length=p.length:=by unfold Bb;rw [cI,Dt]
theorem Aac {p:List Int} (h:bu p) {i:Nat} (hi:i<p.length):(Bb p)[(Cr p (i:Int)).toNat]?=some (i:Int):=
 qG (λi=>(Cr p (i:Int)).toNat) (λi=>(i:Int)) _ p.length (λi j hi hj=>h.inj i j hi hj) i hi (by rw [Dt];exact h.lt hi)
theorem Afa {p:List Int} (h:bu p):Rk p.length (Bb p):=by
 intro y hy
 obtain ⟨k,hk,rfl⟩:=Bj.1 hy
 have ng:k<p.length:=by rw [nY] at hk;exact hk
 obtain ⟨i,hi,rfl⟩:=h.UR k ng
 have:=Aac h hi
 rw [Ad hk] at this
 rw [Bd this]
 omega
theorem Oz (p q:List Int):(Af p q).length=p.length:=by simp [Af]
theorem EF {p q:List Int} {n:Nat} (hp:Rk q.length p) (hq:Rk n q):Rk n (Af p q):=by
 intro y hy
 obtain ⟨x,hx,rfl⟩:=Ba.1 hy
 have h1:=hp x hx
 rw [show x=(x.toNat:Int) by omega,Jj (by omega)]
 exact hq _ (An _)
theorem wu (p q:List Int) (h:p.length<=20/\Rk q.length p):fnW Hz (look []) Kk Try.f142 (p,q,()) (λ(z:List Int)=>z=Af p q):=by
 obtain ⟨h,hr⟩:=h
 refine Eq.mp (wX p q _) ?_
 refine ⟨⟨by omega,by show (p.length:Int)<(4294967296:Int)+1;omega⟩,rfl,rfl,rfl,?_⟩
 have Qf:=Oz p q
 refine Cj p.length (λv=>v.1) (λj v=>v.2.1.length=(Af p q).length/\v.2.1.take j=(Af p q).take j) rfl ⟨by rw [Qf];simp,by simp⟩ ?_
 rintro j ⟨i,ys,⟨⟩⟩ K hj hi ⟨h1,h2⟩ hK
 dsimp only at hi h1 h2⊢
 subst hi
 refine Br.dec (λhl=>?_) λhl=>?_
 ·have hl:j<p.length:=by omega
  have hy:=hr _ (An hl)
  refine ⟨_,Dk hl,_,On hy.1 hy.2,⟨by omega,by omega⟩,by rw [Ac];omega,rfl,by rw [Bv],?_⟩
  rw [Cd (by omega),Ac,Bn]
  have Jg:j<(Af p q).length:=by rw [Qf];exact hl
  have e:Cr q p[j]=(Af p q)[j]:=by simp [Af]
  rw [e]
  exact hK hl _ rfl ⟨by rw [Bv];exact h1,lN Jg h1 h2⟩
 ·have:j=p.length:=by omega
  subst this
  rw [<-Qf,Bg,<-h1,Bg] at h2
  rw [Dy,Bg]
  exact h2
theorem Ws:Sound Try.prog 142 Kk:=
 Sound.Ht Ge Cb mixed Try.func142 (by kernel_rfl) (by kernel_rfl) λx h=>wu x.1 x.2.1 h
theorem wv (p:List Int) (h:p.length<=20/\Rk p.length p):fnW Hz (look []) Fp Try.f143 (p,()) (λ(z:List Int)=>z=Bb p):=by
 obtain ⟨h,hr⟩:=h
 refine Eq.mp (wY p _) ?_
 refine ⟨⟨by omega,by show (p.length:Int)<(4294967296:Int)+1;omega⟩,rfl,rfl,rfl,?_⟩
 refine Cj p.length (λv=>v.1) (λj v=>v.2.1=cH (λi=>(Cr p (i:Int)).toNat) (λi=>(i:Int)) j (List.replicate p.length 0)) rfl rfl ?_
 rintro j ⟨i,ys,⟨⟩⟩ K hj hi h1 hK
 dsimp only at hi h1⊢
 subst hi
 have hlen:ys.length=p.length:=by rw [h1,cI,Dt]
 refine Br.dec (λhl=>?_) λhl=>?_
 ·have hl:j<p.length:=by omega
  have hy:=hr _ (An hl)
  refine ⟨_,Dk hl,⟨by omega,by omega⟩,by omega,rfl,by rw [Bv],?_⟩
  rw [Cd (by omega),Bn]
  refine hK hl _ rfl ?_
  rw [aT,<-h1,Jj hl]
 ·have:j=p.length:=by omega
  subst this
  rw [Dy,Bg]
  exact h1
theorem Wt:Sound Try.prog 143 Fp:=
 Sound.Ht Ge Cb mixed Try.func143 (by kernel_rfl) (by kernel_rfl) λx h=>wv x.1 h
theorem VJ (p:List Int) (h:p.length<=20/\Rk p.length p):fnW Hz (look []) Fp Try.f190 (p,()) (λ(z:List Int)=>z=Bb p):=by
 obtain ⟨h,hr⟩:=h
 refine Eq.mp (XF p _) ?_
 refine ⟨⟨by omega,by show (p.length:Int)<(4294967296:Int)+1;omega⟩,rfl,rfl,rfl,?_⟩
 refine Cj p.length (λv=>v.1) (λj v=>v.2.1=cH (λi=>(Cr p (i:Int)).toNat) (λi=>(i:Int)) j (List.replicate p.length 0)) rfl rfl ?_
 rintro j ⟨i,ys,⟨⟩⟩ K hj hi h1 hK
 dsimp only at hi h1⊢
 subst hi
 have hlen:ys.length=p.length:=by rw [h1,cI,Dt]
 refine Br.dec (λhl=>?_) λhl=>?_
 ·have hl:j<p.length:=by omega
  have hy:=hr _ (An hl)
  refine ⟨_,Dk hl,⟨by omega,by omega⟩,by omega,rfl,by rw [Bv],?_⟩
  rw [Cd (by omega),Bn]
  refine hK hl _ rfl ?_
  rw [aT,<-h1,Jj hl]
 ·have:j=p.length:=by omega
  subst this
  rw [Dy,Bg]
  exact h1
theorem Zn:Sound Try.prog 190 Fp:=
 Sound.Ht Ge Cb mixed Try.func190 (by kernel_rfl) (by kernel_rfl) λx h=>VJ x.1 h
theorem Yw (j:Nat):upto (j+1)=upto j++ [(j:Int)]:=by simp [upto,bb]
theorem NF (n:Int) (h:0<=n/\n<=20):fnW Hz (look []) Pr Try.f66 (n,()) (λ(z:List Int)=>z=upto n.toNat):=by
 refine Eq.mp (PK n _) ⟨rfl,rfl,?_⟩
 refine Cj n.toNat (λv=>v.1) (λj v=>v.2.1=upto j) rfl rfl ?_
 rintro j ⟨i,ys,⟨⟩⟩ K hj hi h1 hK
 dsimp only at hi h1⊢
 subst hi h1
 refine Br.dec (λhl=>?_) λhl=>?_
 ·refine ⟨rfl,rfl,?_,rfl,rfl,?_⟩
  ·show (upto j).length+1<=4294967296
   rw [Ou];omega
  ·rw [Cd (by omega)]
   exact hK (by omega) _ rfl (Yw j).symm
 ·have:j=n.toNat:=by omega
  subst this
  rw [Dy,Bg]
theorem c8:Sound Try.prog 66 Pr:=
 Sound.Ht Ge Cb mixed Try.func66 (by kernel_rfl) (by kernel_rfl) λx h=>NF x.1 h
theorem Rn {g:List (List Int)} {k:Nat} (h:k<g.length):Ax g ((k:Int)+1)=g[k]:=by
 unfold Ax
 rw [Ab (by omega),show ((k:Int)+1-1).toNat=k by omega,Al,Ad h];rfl
theorem Rl {g:List (List Int)} {k:Nat} (h:k<g.length):Ax g (-((k:Int)+1))=Bb g[k]:=by
 unfold Ax
 rw [Ak (by omega),show (-(-((k:Int)+1))-1).toNat=k by omega,Al,Ad h];rfl
theorem Se {n:Nat} {l:Int} (h:Ic n l): ∃k:Nat,k<n/\(l=(k:Int)+1\/l= -((k:Int)+1)):=by
 obtain ⟨h1,h2,h3⟩:=h
 by_cases h0:0<l
 ·exact ⟨(l-1).toNat,by omega, .inl (by omega)⟩
 ·exact ⟨(-l-1).toNat,by omega, .inr (by omega)⟩
theorem NI (g:List (List Int)) (l:Int) (h:Ic (List.length g) l/\List.length g<=8/\ ∀p∈g,Kb p=true):fnW Hz (look [(143,Fp)]) Lg Try.f147 (g,l,()) (λ(z:List Int)=>z=Ax g l):=by
 obtain ⟨hl,h8,hp⟩:=h
 refine Eq.mp (PQ g l _) ?_
 obtain ⟨k,hk,rfl|rfl⟩:=Se hl
 ·refine Br.dec (λ_=>?_) λhn=>by omega
  rw [Dq (by omega) (by omega),show (k:Int)+1-1=(k:Int) by omega]
  exact ⟨_,Dk hk,(Rn hk).symm⟩
 ·refine Br.dec (λhn=>by omega) λ_=>?_
  rw [Dq (n:=0- -((k:Int)+1)) (by omega) (by omega),Dq (by omega) (by omega),show (0:Int)- -((k:Int)+1)-1=(k:Int) by omega]
  have:=dz (hp _ (An hk))
  exact ⟨_,Dk hk,_,Ab ⟨this.len,this.row⟩,(Rl hk).symm⟩
theorem uX:Sound Try.prog 147 Lg:=
 Sound.Ht Ge (Be Wt Cb) mixed Try.func147 (by kernel_rfl) (by kernel_rfl) λx h=>NI x.1 x.2.1 h
theorem jk (j:Nat):Au (j+1)=Au j++ [(j:Int)+1,-((j:Int)+1)]:=by simp [Au,bb,List.flatMap_append]
theorem Zh (j:Nat):(Au j).length=2*j:=by
 induction j with
 |zero=>rfl
 |succ j ih=>rw [jk,Ay,ih];simp only [Av,Di];omega
theorem Nj {n:Nat} {l:Int} (h:l∈Au n):Ic n l:=by
 unfold Au at h
 obtain ⟨k,hk,hl⟩:=Fz.1 h
 have hk:=Es.1 hk
 simp only [Bc,List.not_mem_nil,or_false] at hl
 unfold Ic
 omega
theorem VG (n:Int) (h:0<=n/\n<=8):fnW Hz (look []) Kl Try.f121 (n,()) (λ(z:List Int)=>z=Au n.toNat):=by
 refine Eq.mp (XC n _) ⟨rfl,rfl,?_⟩
 refine Cj n.toNat (λv=>v.1) (λj v=>v.2.1=Au j) rfl rfl ?_
 rintro j ⟨i,ys,⟨⟩⟩ K hj hi h1 hK
 dsimp only at hi h1⊢
 subst hi h1
 refine Br.dec (λhl=>?_) λhl=>?_
 ·refine ⟨rfl,rfl,?_,rfl,rfl,?_⟩
  ·show (Au j).length+2<=4294967296
   rw [Zh];omega
  ·have e1:IntKind.i64.wrap ((j:Int)+1)=(j:Int)+1:=Dq (by omega) (by omega)
   have e2:IntKind.i64.wrap ((0:Int)-((j:Int)+1))= -((j:Int)+1):=by rw [Dq (by omega) (by omega)];omega
   rw [e1,e2]
   exact hK (by omega) _ rfl (jk j).symm
 ·have:j=n.toNat:=by omega
  subst this
  rw [Dy,Bg]
theorem Zm:Sound Try.prog 121 Kl:=
 Sound.Ht Ge Cb mixed Try.func121 (by kernel_rfl) (by kernel_rfl) λx h=>VG x.1 h
structure Valid (p:PP):Prop where
 n:1<=p.1/\p.1<=20
 oW:1<=p.2.2.1.length/\p.2.2.1.length<=8
 perm: ∀m∈p.2.2.1,Kb m=true
 len: ∀m∈p.2.2.1,(m.length:Int)=p.1
theorem valid {p:PP} (h:Cs p=true):Valid p:=by
 have h0:=PD h
 obtain ⟨h1,_,_⟩:=Ej.1 h
 obtain ⟨_,_,h4⟩:=Ej.1 h1
 exact ⟨⟨h0.1,h0.2.1⟩,h0.2.2,λm hm=>(Ej.1 (h4 m hm)).2,λm hm=>(Ej.1 (h4 m hm)).1⟩
theorem xL {p:PP} (h:Valid p) {l:Int} (hl:Ic (List.length p.2.2.1) l):((Ax p.2.2.1 l).length:Int)=p.1/\Rk (Ax p.2.2.1 l).length (Ax p.2.2.1 l):=by
 obtain ⟨k,hk,rfl|rfl⟩:=Se hl
 ·rw [Rn hk]
  exact ⟨h.len _ (An hk),(dz (h.perm _ (An hk))).row⟩
 ·rw [Rl hk,nY]
  exact ⟨h.len _ (An hk),Afa (dz (h.perm _ (An hk)))⟩
abbrev rL:CK:= .row tI 2
abbrev xLL:CK:= .Ho tL 31
def low (k:Int):Prop:=0<=k/\k<=1099511627776
theorem Dz {α:Type} (xs:List α):List.take xs.length (List.drop 0 xs)=xs:=by rw [Dy,Bg]
noncomputable abbrev uI:MSpec:=ir [none] [(false, .Fe (.oslice tI))] false [none] [rL] (λx=>short (x.1.getD [])) (λx=>((x.1.getD [],()),()))
noncomputable abbrev Tu:MSpec:=ir [none] [(false, .Fe tL)] false [none] [rL] (λx=>short x.1) (λx=>((x.1,()),()))
noncomputable abbrev mR:Spec:=Ht (.pair tL .unit) tL false true (λx=>short x.1) (λx=>x.1)
theorem Ad1 (xs:Option (List Int)) (P:((List Int×Unit)×Unit)->Prop):(Br xs.isNone (P ((List.take 0 (List.drop 0 []),()),())) (0=0/\0=([]:List Int).length/\0+(xs.getD []).length<=Dn/\P ((List.take ([]++xs.getD []).length (List.drop 0 ([]++xs.getD [])),()),())))=fnMW Sp (look []) uI Try.f90 (xs,()) P:=by kernel_rfl
theorem PJ (xs:List Int) (P:List Int->Prop):(0=0/\0=([]:List Int).length/\0+xs.length<=Dn/\P (List.take ([]++xs).length (List.drop 0 ([]++xs))))=fnW Hz (look []) mR Try.f86 (xs,()) P:=by kernel_rfl
theorem Ab6 (xs:Option (List Int)) (h:short (xs.getD [])):fnMW Sp (look []) uI Try.f90 (xs,()) (λ(z:(List Int×Unit)×Unit)=>z=((xs.getD [],()),())):=by
 unfold short at h
 refine Eq.mp (Ad1 xs _) ⟨λhn=>?_,λ_=>⟨rfl,rfl,by show 0+(xs.getD []).length<=4294967296;omega,?_⟩⟩
 ·cases xs with
  |none=>rfl
  |some y=>cases hn
 ·simp only [Dz,Nn]
theorem BF:Ci Try.prog 90 uI:=
 Ci.ir Rt Cb mixed Try.func90 (by kernel_rfl) (by kernel_rfl) λx h=>Ab6 x.1 h
theorem BE:Ci Try.prog 90 Tu:=Ci.ofO BF λ_ _ h=>⟨h,rfl⟩
theorem ND (xs:List Int) (h:short xs):fnW Hz (look []) mR Try.f86 (xs,()) (λ(z:List Int)=>z=xs):=by
 unfold short at h
 refine Eq.mp (PJ xs _) ⟨rfl,rfl,by show 0+xs.length<=4294967296;omega,?_⟩
 simp only [Dz,Nn]
theorem uT:Sound Try.prog 86 mR:=
 Sound.Ht Ge Cb mixed Try.func86 (by kernel_rfl) (by kernel_rfl) λx h=>ND x.1 h
def Su (xs:List Int):ByteArray:=bytesOf (xs.map λx=>IntKind.u8.wrap x)
noncomputable abbrev Ih:Spec:=Ht (.pair tL .unit) .str false true (λx=>short x.1) (λx=>Su x.1)
def oA (ps:List (List Int)) (p:List Int):Int:=Gk (λq=>decide (q=p)) ps 0
theorem PT (xs:List Int) (P:ByteArray->Prop):(((0:Int)<=(↑xs.length:Int)/\(↑xs.length:Int)<(↑Dn:Int)+(1:Int))/\(↑xs.length:Int)=(↑xs.length:Int)/\0=0/\(List.replicate (↑xs.length:Int).toNat (Int.ofNat (nat_lit 0))).length=(List.replicate (↑xs.length:Int).toNat (Int.ofNat (nat_lit 0))).length/\Ev (λ(v2:Int×List Int×PUnit) (k3:Int×List Int×PUnit->Prop)=>Br (decide (v2.1<(↑xs.length:Int))) (∃(y4:Int),idx xs v2.1=some y4/\((0:Int)<=v2.1/\v2.1<(↑v2.2.1.length:Int))/\0+v2.1.toNat<v2.2.1.length/\0=0/\v2.2.1.length=(v2.2.1.set (0+v2.1.toNat) (IntKind.u8.wrap y4)).length/\k3 (IntKind.i64.wrap (v2.1+(1:Int)),v2.2.1.set (0+v2.1.toNat) (IntKind.u8.wrap y4),())) (P (bytesOf (List.take v2.2.1.length (List.drop 0 v2.2.1))))) ((0:Int),List.replicate (↑xs.length:Int).toNat (Int.ofNat (nat_lit 0)),PUnit.unit))=fnW Hz (look []) Ih Try.f107 (xs,()) P:=by kernel_rfl
theorem NM (xs:List Int) (h:short xs):fnW Hz (look []) Ih Try.f107 (xs,()) (λ(z:ByteArray)=>z=Su xs):=by
 unfold short at h
 refine Eq.mp (PT xs _) ?_
 refine ⟨⟨by omega,by show (xs.length:Int)<(4294967296:Int)+1;omega⟩,rfl,rfl,rfl,?_⟩
 have Qf:(xs.map λx=>IntKind.u8.wrap x).length=xs.length:=by simp
 refine Cj xs.length (λv=>v.1) (λj v=>v.2.1.length=(xs.map λx=>IntKind.u8.wrap x).length/\v.2.1.take j=(xs.map λx=>IntKind.u8.wrap x).take j) rfl ⟨by rw [Qf];simp,by simp⟩ ?_
 rintro j ⟨i,ys,⟨⟩⟩ K hj hi ⟨h1,h2⟩ hK
 dsimp only at hi h1 h2⊢
 subst hi
 refine Br.dec (λhl=>?_) λhl=>?_
 ·have hl:j<xs.length:=by omega
  refine ⟨_,Dk hl,⟨by omega,by omega⟩,by rw [Ac];omega,rfl,by rw [Bv],?_⟩
  rw [Cd (by omega),Ac,Bn]
  have Jg:j<(xs.map λx=>IntKind.u8.wrap x).length:=by rw [Qf];exact hl
  have e:IntKind.u8.wrap xs[j]=(xs.map λx=>IntKind.u8.wrap x)[j]:=by simp
  rw [e]
  exact hK hl _ rfl ⟨by rw [Bv];exact h1,lN Jg h1 h2⟩
 ·have:j=xs.length:=by omega
  subst this
  rw [<-Qf,Bg,<-h1,Bg] at h2
  rw [Dy,Bg,h2];rfl
theorem jL:Sound Try.prog 107 Ih:=
 Sound.Ht Ge Cb mixed Try.func107 (by kernel_rfl) (by kernel_rfl) λx h=>NM x.1 h
theorem gN {α:Type} (P:α->Bool) (y:α): ∀(l:List α) (i:Int),0<=i->Gk P (l++ [y]) i=if Gk P l i<0 then (if P y=true then i+l.length else-1) else Gk P l i
 | [],i,_=>by simp [Gk]
 |x::r,i,h=>by
  simp only [Mb,Gk,Av]
  split
  ·rw [Ak (by omega)]
  ·rw [gN P y r (i+1) (by omega),show i+1+(r.length:Int)=i+((r.length+1:Nat):Int) by push_cast;omega]
theorem AI (ps:List (List Int)) (q p:List Int):oA (ps++ [q]) p=if oA ps p<0 then (if q=p then (ps.length:Int) else-1) else oA ps p:=by
 unfold oA
 rw [gN _ _ _ _ (Pu 0)]
 simp only [Qq,Int.zero_add]
def Xe (p:List Int):Prop:= ∀x∈p,0<=x/\x<256
theorem YP {x y:Int} (hx:0<=x/\x<256) (hy:0<=y/\y<256) (h:UInt8.ofNat (IntKind.u8.wrap x).toNat=UInt8.ofNat (IntKind.u8.wrap y).toNat):x=y:=by
 have h:=Cx UInt8.toNat h
 simp only [IntKind.wrap_u8,UInt8.toNat_ofNat'] at h
 omega
theorem bytes_inj: ∀(p q:List Int),Xe p->Xe q->(p.map λx=>UInt8.ofNat (IntKind.u8.wrap x).toNat)=(q.map λx=>UInt8.ofNat (IntKind.u8.wrap x).toNat)->p=q
 | [],[],_,_,_=>rfl
 | [],_::_,_,_,h=>by simp at h
 |_::_,[],_,_,h=>by simp at h
 |x::p,y::q,hp,hq,h=>by
  simp only [Ca,Gu] at h
  rw [YP (hp x (by simp)) (hq y (by simp)) h.1,bytes_inj p q (λz hz=>hp z (by simp [hz])) (λz hz=>hq z (by simp [hz])) h.2]
theorem key_inj {p q:List Int} (hp:Xe p) (hq:Xe q) (h:Su p=Su q):p=q:=by
 refine bytes_inj p q hp hq ?_
 simp only [Su,bytesOf,ByteArray.mk.injEq,List.map_map] at h
 have h:=Cx Array.toList h
 simpa [Function.comp_def] using h
def KM (m:ByteArray->Option Int) (ps:List (List Int)):Prop:= ∀p,Xe p->m (Su p)=if oA ps p<0 then none else some (oA ps p)
theorem KM.nil:KM (λ_=>none) []:= λp _=>by
 rw [Ab (by unfold oA;simp [Gk])]
theorem KM.add {m:ByteArray->Option Int} {ps:List (List Int)} {q:List Int} (h:KM m ps) (hq:Xe q) (hn:oA ps q<0):KM (gr m (Su q) (ps.length:Int)) (ps++ [q]):=by
 intro p hp
 rw [AI]
 unfold gr
 by_cases e:p=q
 ·subst e
  rw [Ab rfl,Ab hn,Ab rfl,Ak (by omega)]
 ·rw [Ak (λhk=>e (key_inj hp hq hk)),h p hp]
  have e': ¬q=p:= λh=>e h.symm
  rw [Ak e']
  by_cases TY:oA ps p<0
  ·rw [Ab TY,Ab TY,Ab (by decide)]
  ·rw [Ak TY,Ak TY,Ak TY]
theorem Aef {α:Type} {xs:List α} {j:Nat} (h:j<xs.length) (d:α):xs.getD j d=xs[j]:=by
 rw [Al,Ad h];rfl
def SF (m l:Int):Bool:=decide (l≠0/\ -m<=l/\l<=m)
def me (n:Int):Int:=if 8<n then 8 else n
def Mj (n:Int) (w:List Int):Bool:=decide (w.length<=200)&&!(List.any w λy=>!SF (me n) y)
noncomputable abbrev eO:Spec:=Ht (.pair tI (.pair tL .unit)) .bool false true (λx=>short x.2.1/\0<=x.1/\x.1<=4294967296) (λx=>Mj x.1 x.2.1)
theorem PN (n:Int) (w:List Int) (P:Bool->Prop):(Br (decide ((↑w.length:Int)>(200:Int))) (P false) (Ev (λ(v3:Int×PUnit) (k4:Int×PUnit->Prop)=>Br (decide (v3.1<(↑w.length:Int))) (∃(y5:Int),idx w v3.1=some y5/\Br (y5==(0:Int)) (P false) (∃(y6:Int),idx w v3.1=some y6/\ ∃(y7:Bool),Dl.fn (y6,(-8:Int),(8:Int),())=some y7/\Br (!y7) (P false) (∃(y8:Int),idx w v3.1=some y8/\Br (decide (y8>n)) (P false) (∃(y9:Int),idx w v3.1=some y9/\Br (decide (IntKind.i64.wrap ((0:Int)-y9)>n)) (P false) (k4 (IntKind.i64.wrap (v3.1+(1:Int)),())))))) (P true)) ((0:Int),PUnit.unit)))=fnW Hz (look [(65,Dl)]) eO Try.f74 (n,w,()) P:=by kernel_rfl
theorem Afh {m l:Int} :SF m l=true↔l≠0/\ -m<=l/\l<=m:=Gf
theorem zS {n l:Int} (hn:0<=n):SF (me n) l=true↔l≠0/\(-8<=l/\l<=8)/\l<=n/\ -l<=n:=by
 rw [Afh];unfold me;split<;>omega
theorem NH (n:Int) (w:List Int) (h:short w/\0<=n/\n<=4294967296):fnW Hz (look [(65,Dl)]) eO Try.f74 (n,w,()) (λ(z:Bool)=>z=Mj n w):=by
 refine Eq.mp (PN n w _) (Br.dec (λhl=>?_) λhl=>?_)
 ·unfold Mj
  rw [Iu (by omega),Tk]
 ·have e0:Mj n w=!(List.any w λy=>!SF (me n) y):=by unfold Mj;rw [Cl (by omega),bt]
  have bad: ∀(j:Nat) (hj:j<w.length),¬(w[j]≠0/\(-8<=w[j]/\w[j]<=8)/\w[j]<=n/\ -w[j]<=n)->false=Mj n w:= λj hj hn=>by
   rw [e0]
   have:(List.any w λy=>!SF (me n) y)=true:=Ep.2 ⟨w[j],An hj,by
    have:SF (me n) w[j]=false:=cr.2 λht=>hn ((zS h.2.1).1 ht)
    rw [this];rfl⟩
   rw [this];rfl
  refine Cj w.length (λv=>v.1) (λj _=> ∀y∈w.take j,SF (me n) y=true) rfl (by simp) ?_
  rintro j ⟨i,⟨⟩⟩ K hj hi hR hK
  dsimp only at hi⊢
  subst hi
  refine Br.dec (λhl=>?_) λhl=>?_
  ·have hl:j<w.length:=by omega
   refine ⟨_,Dk hl,⟨λhz=>?_,λhz=>⟨_,Dk hl,_,Ab trivial,⟨λhq=>?_,λhq=>⟨_,Dk hl,Br.dec (λhg=>?_) λhg=>⟨_,Dk hl,Br.dec (λhm=>?_) λhm=>?_⟩⟩⟩⟩⟩⟩
   ·simp only [aD] at hz
    exact bad j hl λhh=>hh.1 hz
   ·have hq:=Iy hq
    rw [Gd] at hq
    exact bad j hl λhh=>hq hh.2.1
   ·exact bad j hl λhh=>absurd hh.2.2.1 (by omega)
   ·have hq:=Ji hq
    rw [Gd] at hq
    dsimp only at hq
    rw [Dq (by omega) (by omega)] at hm
    exact bad j hl λhh=>absurd hh.2.2.2 (by omega)
   ·have hq:=Ji hq
    rw [Gd] at hq
    dsimp only at hq
    simp only [Ra,ne_eq] at hz
    rw [Dq (by omega) (by omega)] at hm
    rw [Cd (by omega)]
    refine hK hl _ rfl ?_
    rw [Ga hl]
    intro y hy
    rcases Az.1 hy with hy|hy
    ·exact hR y hy
    ·rw [Ae.1 hy]
     exact (zS h.2.1).2 ⟨hz,hq,by omega,by omega⟩
  ·have:j=w.length:=by omega
   subst this
   rw [Bg] at hR
   rw [e0]
   have:(List.any w λy=>!SF (me n) y)=false:=by
    refine cr.2 λht=>?_
    obtain ⟨y,hy,h1⟩:=Ep.1 ht
    rw [hR y hy] at h1
    cases h1
   rw [this];rfl
theorem uW:Sound Try.prog 74 eO:=
 Sound.Ht Ge (Be Tx Cb) mixed Try.func74 (by kernel_rfl) (by kernel_rfl) λx h=>NH x.1 x.2.1 h
theorem dJ {n:Nat} {w:List Int} (h:Mj (n:Int) w=true):w.length<=200/\ ∀y∈w,Ic n y:=by
 unfold Mj at h
 simp only [Ai,Qq,Ew] at h
 refine ⟨h.1,λy hy=>?_⟩
 have h1:SF (me n) y=true:=by
  cases ho:SF (me n) y with
  |true=>rfl
  |false=>
   have h2:(List.any w λy=>!SF (me (n:Int)) y)=true:=Ep.2 ⟨y,hy,by rw [ho];rfl⟩
   rw [h.2] at h2;cases h2
 have:=(zS (by omega)).1 h1
 unfold Ic
 omega
abbrev rLL:CK:= .row tL 31
def zH (v:Int):List Int->Nat
 | []=>0
 |x::r=>if x>v then zH v r+1 else 0
def Afd (v:Int) (t:List Int):Option (List Int):=if zH v t=0 then none else some (Cr t ((zH v t-1:Nat):Int)::(t.set (zH v t-1) v).reverse)
def pI:List Int->Option (List Int)
 | []=>none
 |v::t=>match pI t with
  |some t'=>some (v::t')
  |none=>Afd v t
def lex:Nat->List Int->List (List Int)
 |0,_=> [[]]
 |k+1,R=>R.flatMap λv=>(lex k (R.erase v)).map (v:: ·)
theorem HD {s s':List Int} (h:pI s=some s'): ∀pre:List Int,pI (pre++s)=some (pre++s')
 | []=>h
 |v::p=>by rw [Mb,pI,HD h p];rfl
inductive Run:List Int->List (List Int)->List Int->Prop where
 |one (a:List Int):Run a [a] a
 |more {a c b:List Int} {L:List (List Int)} :pI a=some c->Run c L b->Run a (a::L) b
theorem Run.cons {a b:List Int} {L:List (List Int)} (h:Run a L b) (v:Int):Run (v::a) (L.map (v:: ·)) (v::b):=by
 induction h with
 |one a=>exact .one _
 |more h3 _ ih=>exact .more (HD h3 [v]) ih
def QN:Nat->Nat
 |0=>1
 |k+1=>(k+1)*QN k
theorem ET {α β:Type} {n:Nat} (f:α->List β): ∀(l:List α),(∀a∈l,(f a).length=n)->(l.flatMap f).length=l.length*n
 | [],_=>by simp
 |a::r,h=>by
  rw [Vr,Ay,ET f r (λb hb=>h b (Ar _ hb)),h a (by simp),Av,Nat.succ_mul]
  omega
theorem RU: ∀(k:Nat) (R:List Int),R.length=k->(lex k R).length=QN k
 |0,_,_=>rfl
 |k+1,R,hl=>by
  rw [lex,ET (n:=QN k) _ _ (λv hv=>by rw [Bs];exact RU k _ (by rw [Wy hv];omega)),hl]
  rfl
theorem Run.head {a b:List Int} {L:List (List Int)} (h:Run a L b): ∃M,L=a::M:=by
 cases h with
 |one=>exact ⟨_,rfl⟩
 |more _ _=>exact ⟨_,rfl⟩
theorem Run.at {a b:List Int} {L:List (List Int)} (h:Run a L b): ∀j (hj:j<L.length),(∀h2:j+1<L.length,pI L[j]=some L[j+1])/\(j+1=L.length->L[j]=b):=by
 induction h with
 |one a=>
  intro j hj
  simp only [Bu] at hj
  have:j=0:=by omega
  subst this
  exact ⟨λh2=>by simp at h2,λ_=>rfl⟩
 |more h3 h4 ih=>
  intro j hj
  rcases j with _|j
  ·obtain ⟨M,hM⟩:=h4.head
   refine ⟨λh2=>?_,λh2=>?_⟩
   ·simp only [List.getElem_cons_zero,List.getElem_cons_succ]
    subst hM
    exact h3
   ·subst hM;simp at h2
  ·have:=ih j (by simpa using hj)
   refine ⟨λh2=>?_,λh2=>?_⟩
   ·simp only [List.getElem_cons_succ]
    exact this.1 (by simpa using h2)
   ·simp only [List.getElem_cons_succ]
    exact this.2 (by simpa using h2)
def Fy:List Int->List Int->Int
 | [],[]=>0
 | [],_::_=> -1
 |_::_,[]=>1
 |x::a,y::b=>if x<y then-1 else if x>y then 1 else Fy a b
def pH (a b:List Int):Bool:=decide (Fy a b<0)
noncomputable abbrev q7:Spec:=Ht (.pair (.oslice tI) .unit) tL false true (λx=>short (x.1.getD [])) (λx=>x.1.getD [])
noncomputable abbrev oG:Spec:=Ht (.pair tL .unit) tL false true (λx=>short x.1) (λx=>x.1)
theorem WU (xs:Option (List Int)) (P:List Int->Prop):(Br xs.isNone (P (List.take 0 (List.drop 0 []))) (0=0/\0=([]:List Int).length/\0+(xs.getD []).length<=Dn/\P (List.take ([]++xs.getD []).length (List.drop 0 ([]++xs.getD [])))))=fnW Hz (look []) q7 Try.f90 (xs,()) P:=by kernel_rfl
theorem Sound.ofO {P:Program} {f:FuncId} {e:Ty} {r res:Ty} {Gl fresh:Bool} {pre:(Ty.pair (.oslice e) r).den->Prop} {val:(Ty.pair (.oslice e) r).den->res.den} {jt:(Ty.pair (.slice e) r).den->Prop} {vE:(Ty.pair (.slice e) r).den->res.den}
  (h:Sound P f (Go.Proofs.Ytkkdpknjohcekaa.Ht (.pair (.oslice e) r) res Gl fresh pre val))
  (hp: ∀(o:Option (List e.den)) (y:r.den),jt (o.getD [],y)->pre (o,y)/\val (o,y)=vE (o.getD [],y)):Sound P f (Go.Proofs.Ytkkdpknjohcekaa.Ht (.pair (.slice e) r) res Gl fresh jt vE):=by
 refine ⟨h.enter,λw S vs x y hS h2 h5=>?_⟩
 obtain ⟨xs,rest⟩:=x
 cases vs with
 |nil=>exact h2.elim
 |cons u us=>
  obtain ⟨h7,h8⟩:=h2
  obtain ⟨ox,h9,rfl⟩:=h7.told
  have du:jt (ox.getD [],rest):=Bk λhn=>by
   have:(Go.Proofs.Ytkkdpknjohcekaa.Ht (.pair (.slice e) r) res Gl fresh jt vE).fn (ox.getD [],rest)=none:=Ak hn
   rw [this] at h5;cases h5
  obtain ⟨k1,k2⟩:=hp ox rest du
  have hv:(Go.Proofs.Ytkkdpknjohcekaa.Ht (.pair (.slice e) r) res Gl fresh jt vE).fn (ox.getD [],rest)=some (vE (ox.getD [],rest)):=Ab du
  rw [hv] at h5
  have h5:=Bd h5
  exact h.calls w S (u::us) (ox,rest) y hS ⟨h9,h8⟩ ((Ab k1).trans (by rw [k2];exact Cx some h5))
theorem UX (xs:Option (List Int)) (h:short (xs.getD [])):fnW Hz (look []) q7 Try.f90 (xs,()) (λ(z:List Int)=>z=xs.getD []):=by
 unfold short at h
 refine Eq.mp (WU xs _) ⟨λhn=>?_,λ_=>⟨rfl,rfl,by show 0+(xs.getD []).length<=4294967296;omega,?_⟩⟩
 ·cases xs with
  |none=>rfl
  |some y=>cases hn
 ·simp only [Dz,Nn]
theorem wF:Sound Try.prog 90 q7:=
 Sound.Ht Ge Cb mixed Try.func90 (by kernel_rfl) (by kernel_rfl) λx h=>UX x.1 h
theorem BG:Sound Try.prog 90 oG:=Sound.ofO wF λ_ _ h=>⟨h,rfl⟩
def az (L:List (List Int)) (dE:List Int) (s:List Int):Nat:=(dE.takeWhile λi=>pH (L.getD i.toNat []) s).length
structure Og (m:Nat) (L:List (List Int)) (dE:List Int):Prop where
 oW:L.length<=3000
 len: ∀x∈L,x.length=m
 short:m<=20
 perm:dE.Perm (upto L.length)
 sorted:dE.Pairwise λi j=>pH (L.getD i.toNat []) (L.getD j.toNat [])=true
def oe (dE:List Int) (k:Nat) (x:Int):List Int:=dE.take k++x::dE.drop k
def yu (L:List (List Int)):List Int:=(List.range L.length).foldl (λ(S:List Int) (i:Nat)=>oe S (az (L.take i) S (L.getD i [])) (i:Int)) []
def Ir (g:List (List Int)) (x:List Int) (d:Int):List Int->List (List Int)->List Int->List (List Int)×List Int×Bool
 | [],L,D=>(L,D,true)
 |l::ls,L,D=>if Af x (Ax g l)∈L then Ir g x d ls L D else if L.length=3000 then (L,D,false) else Ir g x d ls (L++ [Af x (Ax g l)]) (D++ [d+1])
def Md (g:List (List Int)) (ls:List Int):Nat->Nat->List (List Int)->List Int->List (List Int)×List Int×Bool
 |0,_,L,D=>(L,D,true)
 |f+1,k,L,D=>if k<L.length then (match Ir g (L.getD k []) (D.getD k 0) ls L D with
  |(L',D',true)=>Md g ls f (k+1) L' D'
  |(L',D',false)=>(L',D',false)) else (L,D,true)
def Kt (g:List (List Int)) (s:List Int):List (List Int)×List Int×Bool:=Md g (Au g.length) 3001 0 [s] [0]
theorem sU: ∀ {a b:List Int},Fy a b=0↔a=b
 | [],[]=>by simp [Fy]
 | [],_::_=>by simp [Fy]
 |_::_,[]=>by simp [Fy]
 |x::a,y::b=>by
  simp only [Fy,Gu]
  by_cases h1:x<y
  ·rw [Ab h1]
   exact ⟨λh=>by omega,λh=>by omega⟩
  ·rw [Ak h1]
   by_cases h2:x>y
   ·rw [Ab h2]
    exact ⟨λh=>by omega,λh=>by omega⟩
   ·rw [Ak h2,sU]
    exact ⟨λh=>⟨by omega,h⟩,λh=>h.2⟩
theorem QH: ∀(a b:List Int),Fy b a= -Fy a b
 | [],[]=>by simp [Fy]
 | [],_::_=>by simp [Fy]
 |_::_,[]=>by simp [Fy]
 |x::a,y::b=>by
  simp only [Fy]
  rcases Int.lt_trichotomy x y with h1|h1|h1
  ·simp [h1,show ¬y<x by omega]
  ·subst h1
   simp [QH a b]
  ·simp [h1,show ¬x<y by omega]
theorem xd: ∀ {a b c:List Int},Fy a b<0->Fy b c<0->Fy a c<0
 | [],[],_,h,_=>by simp [Fy] at h
 |_::_,[],_,h,_=>by simp [Fy] at h
 |_,_::_,[],_,h=>by simp [Fy] at h
 | [],_::_,_::_,_,_=>by simp [Fy]
 |x::a,y::b,z::c,h1,h2=>by
  simp only [Fy] at h1 h2⊢
  by_cases e1:x<y
  ·by_cases e2:y<z
   ·rw [Ab (by omega)];omega
   ·rw [Ak e2] at h2
    by_cases e3:y>z
    ·rw [Ab e3] at h2;omega
    ·rw [Ab (by omega)];omega
  ·rw [Ak e1] at h1
   by_cases e2:x>y
   ·rw [Ab e2] at h1;omega
   ·rw [Ak e2] at h1
    by_cases e3:y<z
    ·rw [Ab (by omega)];omega
    ·rw [Ak e3] at h2
     by_cases e4:y>z
     ·rw [Ab e4] at h2;omega
     ·rw [Ak e4] at h2
      rw [Ak (by omega),Ak (by omega)]
      exact xd h1 h2
theorem lt_iff {a b:List Int} :pH a b=true↔Fy a b<0:=Gf
theorem UL {a b c:List Int} (h1:pH a b=true) (h2:pH b c=true):pH a c=true:=lt_iff.2 (xd (lt_iff.1 h1) (lt_iff.1 h2))
theorem tW (a:List Int):pH a a=false:=by
 have:Fy a a=0:=sU.2 rfl
 unfold pH;rw [this];rfl
theorem Aan {a b:List Int} (h:pH a b=false) (Ig:a≠b):pH b a=true:=by
 rw [lt_iff,QH a b]
 have h1: ¬Fy a b<0:= λh'=>by rw [lt_iff.2 h'] at h;cases h
 have h2:Fy a b≠0:= λh'=>Ig (sU.1 h')
 omega
theorem lM {α:Type} (q:α->Bool): ∀(l:List α),l.Pairwise (λi j=>q j=true->q i=true)-> ∀k (hk:k<l.length),k<(l.takeWhile q).length↔q l[k]=true
 | [],_,k,hk=>by simp at hk
 |a::l,h,k,hk=>by
  obtain ⟨h1,h2⟩:=List.pairwise_cons.1 h
  by_cases ha:q a=true
  ·rw [List.takeWhile_cons_of_pos ha]
   rcases k with _|k
   ·simpa using ha
   ·simp only [Av,List.getElem_cons_succ,Nat.add_lt_add_iff_right]
    exact lM q l h2 k (by simpa using hk)
  ·rw [List.takeWhile_cons_of_neg ha]
   simp only [Di,Dj,false_iff]
   rcases k with _|k
   ·exact ha
   ·simp only [List.getElem_cons_succ]
    exact λhq=>ha (h1 _ (An _) hq)
theorem Og.idx {m:Nat} {L:List (List Int)} {dE:List Int} (h:Og m L dE) {k:Nat} (hk:k<dE.length):0<=dE[k]/\dE[k]<L.length:=Nk.1 (h.perm.mem_iff.1 (An hk))
theorem Og.IK {m:Nat} {L:List (List Int)} {dE:List Int} (h:Og m L dE) (s:List Int) {k:Nat} (hk:k<dE.length):k<az L dE s↔pH (L.getD dE[k].toNat []) s=true:=
 lM _ dE (h.sorted.imp λfw hj=>UL fw hj) k hk
theorem Og.inj {m:Nat} {L:List (List Int)} {dE:List Int} (h:Og m L dE) {i j:Nat} (hi:i<L.length) (hj:j<L.length) (e:L[i]=L[j]):i=j:=by
 have mem: ∀i,i<L.length->(i:Int)∈dE:= λi hi=>h.perm.mem_iff.2 (Nk.2 ⟨by omega,by omega⟩)
 obtain ⟨p,hp,ep⟩:=Bj.1 (mem i hi)
 obtain ⟨q,hq,eq⟩:=Bj.1 (mem j hj)
 have get: ∀i (hi:i<L.length),L.getD ((i:Int)).toNat []=L[i]:= λi hi=>by rw [Ac,Al,Ad hi];rfl
 rcases Nat.lt_trichotomy p q with h1|h1|h1
 ·have:=Fk.1 h.sorted p q hp hq h1
  rw [ep,eq,get i hi,get j hj,e,tW] at this
  cases this
 ·subst h1
  rw [ep] at eq
  omega
 ·have:=Fk.1 h.sorted q p hq hp h1
  rw [ep,eq,get i hi,get j hj,e,tW] at this
  cases this
theorem nT {L:List (List Int)} {k:Nat} (h:k<L.length):L.getD k []=L[k]:=by rw [Al,Ad h];rfl
theorem Aab (dE:List Int) (k:Nat) (x:Int):(oe dE k x).Perm (x::dE):=by
 unfold oe
 refine List.perm_middle.trans (List.Perm.cons x ?_)
 rw [Lc]
theorem Og.add {m:Nat} {L:List (List Int)} {dE s:List Int} (h:Og m L dE) (hn:s∉L) (hl:s.length=m) (hr:L.length<3000):Og m (L++ [s]) (oe dE (az L dE s) L.length):=by
 have FC: ∀i∈dE,(L++ [s]).getD i.toNat []=L.getD i.toNat []:= λi hi=>by
  have:=Nk.1 (h.perm.mem_iff.1 hi)
  rw [Al,Al,At (by omega)]
 have Amv:(L++ [s]).getD ((L.length:Int)).toNat []=s:=by
  rw [Ac,Al,As (by omega),eV];rfl
 refine ⟨by rw [Ay,Bu];omega,λx hx=>?_,h.short,?_,?_⟩
 ·rcases Az.1 hx with hx|hx
  ·exact h.len x hx
  ·rw [Ae.1 hx];exact hl
 ·refine (Aab _ _ _).trans ?_
  rw [Ay,Bu,Yw]
  exact (List.Perm.cons _ h.perm).trans (List.perm_append_singleton _ _).symm
 ·unfold oe
  have hs:=h.sorted
  rw [<-Lc (az L dE s) dE] at hs
  obtain ⟨s1,s2,s3⟩:=dN.1 hs
  have mt: ∀i∈dE.take (az L dE s),i∈dE/\pH (L.getD i.toNat []) s=true:= λi hi=>by
   obtain ⟨k,hk,rfl⟩:=Bj.1 hi
   have XQ:k<az L dE s:=by rw [Hg] at hk;omega
   have hk3:k<dE.length:=by rw [Hg] at hk;omega
   rw [List.getElem_take]
   exact ⟨An _,(h.IK s hk3).1 XQ⟩
  have md: ∀i∈dE.drop (az L dE s),i∈dE/\pH s (L.getD i.toNat [])=true:= λi hi=>by
   obtain ⟨k,hk,rfl⟩:=Bj.1 hi
   rw [List.length_drop] at hk
   have hk3:az L dE s+k<dE.length:=by omega
   rw [List.getElem_drop]
   refine ⟨An _,Aan ?_ λe=>hn ?_⟩
   ·exact cr.2 λhh=>by
     have:=(h.IK s hk3).2 hh
     omega
   ·have hi:=h.idx hk3
    rw [nT (by omega)] at e
    rw [<-e];exact An _
  refine dN.2 ⟨s1.imp_of_mem λ {a b} ha hb ZH=>?_,List.pairwise_cons.2 ⟨λb hb=>?_,s2.imp_of_mem λ {a b} ha hb ZH=>?_⟩,λa ha b hb=>?_⟩
  ·rw [FC a (mt a ha).1,FC b (mt b hb).1];exact ZH
  ·rw [Amv,FC b (md b hb).1];exact (md b hb).2
  ·rw [FC a (md a ha).1,FC b (md b hb).1];exact ZH
  ·rcases Bc.1 hb with rfl|hb
   ·rw [Amv,FC a (mt a ha).1];exact (mt a ha).2
   ·rw [FC a (mt a ha).1,FC b (md b hb).1];exact s3 a ha b hb
theorem vf (L:List (List Int)) (s:List Int):yu (L++ [s])=oe (yu L) (az L (yu L) s) L.length:=by
 unfold yu
 rw [Ay,Bu,bb,Vs]
 have e: ∀(is:List Nat) (S:List Int),(∀i∈is,i<L.length)->is.foldl (λ(S:List Int) (i:Nat)=>oe S (az ((L++ [s]).take i) S ((L++ [s]).getD i [])) (i:Int)) S=is.foldl (λ(S:List Int) (i:Nat)=>oe S (az (L.take i) S (L.getD i [])) (i:Int)) S:=by
  intro is
  induction is with
  |nil=>intro S _;rfl
  |cons i is ih=>
   intro S h
   have hi:=h i (by simp)
   rw [Nm,Nm,ih _ λj hj=>h j (Ar _ hj)]
   congr 2
   rw [List.take_append_of_le_length (by omega),Al,At hi,<-Al]
 rw [e _ _ λi hi=>Es.1 hi]
 simp only [Nm,List.foldl_nil]
 congr 2
 ·rw [List.take_append_of_le_length (Aq _),Bg]
 ·rw [Al,As (by omega),eV];rfl
theorem AX {m:Nat} (h:m<=20):Og m [] []:=⟨by simp,λx hx=>(by cases hx),h,by simp [upto],List.Pairwise.nil⟩
structure aB (p:PP) (m:Nat) (L:List (List Int)) (D:List Int):Prop where
 ok:Og m L (yu L)
 len:D.length=L.length
 row: ∀x∈L,∀y∈x,0<=y/\y<p.1
 dep: ∀j (h:j<D.length),0<=D[j]/\D[j]<=j
theorem SE {p:PP} (hv:Valid p) {x:List Int} {l:Int} (hx: ∀y∈x,0<=y/\y<p.1) (hl:Ic (List.length p.2.2.1) l):
  (Af x (Ax p.2.2.1 l)).length=x.length/\ ∀y∈Af x (Ax p.2.2.1 l),0<=y/\y<p.1:=by
 obtain ⟨h1,h2⟩:=xL hv hl
 refine ⟨Oz _ _,λy hy=>?_⟩
 have:=EF (n:=(Ax p.2.2.1 l).length) (λz hz=>by have:=hx z hz;omega) h2 y hy
 omega
theorem aB.add {p:PP} {m:Nat} {L:List (List Int)} {D:List Int} (h:aB p m L D) {y:List Int} {d:Int} (hn:y∉L) (hl:y.length=m) (hr:L.length<3000) (hy: ∀z∈y,0<=z/\z<p.1) (hd:0<=d/\d<=L.length):aB p m (L++ [y]) (D++ [d]):=by
 have hlen:=h.len
 refine ⟨by rw [vf];exact h.ok.add hn hl hr,by simp [hlen],λx hx=>?_,λj hj=>?_⟩
 ·rcases Az.1 hx with hx|hx
  ·exact h.row x hx
  ·rw [Ae.1 hx];exact hy
 ·by_cases e:j<D.length
  ·rw [List.getElem_append_left e];exact h.dep j e
  ·simp only [Ay,Bu] at hj
   have:j=D.length:=by omega
   subst this
   rw [List.getElem_append_right (by omega)]
   simp only [eV,List.getElem_cons_zero]
   omega
theorem pe {p:PP} {s:List Int} (hs:s.length<=20) (hr: ∀y∈s,0<=y/\y<p.1):aB p s.length [s] [0]:=by
 refine ⟨?_,rfl,λx hx=>by rw [Ae.1 hx];exact hr,λj hj=>?_⟩
 ·have:=(AX hs).add (s:=s) (by simp) rfl (by simp)
  have e:yu [s]=oe [] (az [] [] s) 0:=vf [] s
  rw [e];exact this
 ·simp only [Bu] at hj
  have:j=0:=by omega
  subst this
  simp
noncomputable def UM (p:PP) (t:List Int):Bool:=Cs p&&Zx p.1 t
noncomputable def RX (p:PP) (t:List Int):Bool:=UM p t&&(Kt p.2.2.1 t).2.2
noncomputable def Afc (p:PP) (t:List Int):TT:=if RX p t=true then (t,(Kt p.2.2.1 t).1,(Kt p.2.2.1 t).2.1,()) else ([],[],[],())
noncomputable def u6 (p:PP) (t:TT):Bool:=RX p t.1&&Apl (Afc p t.1) t
def Ag0 (ts:List TT):Prop:=ts.length<=4294967296/\ ∀t∈ts,Al1 t
noncomputable def u5 (p:PP) (ts:List TT):Bool:=Cs p&&decide (ts.length<=4)&&List.all ts (u6 p)
theorem nw {p:PP} (hV:Valid p) {m:Nat} {x:List Int} {d:Int} (hx: ∀y∈x,0<=y/\y<p.1) (hxl:x.length=m): ∀(ls:List Int) (L:List (List Int)) (D:List Int),(∀l∈ls,Ic (List.length p.2.2.1) l)->
  aB p m L D->(0<=d/\d<L.length)->aB p m (Ir p.2.2.1 x d ls L D).1 (Ir p.2.2.1 x d ls L D).2.1/\(∃A,(Ir p.2.2.1 x d ls L D).1=L++A)/\(∃A,(Ir p.2.2.1 x d ls L D).2.1=D++A)
 | [],L,D,_,h,_=>⟨h,⟨[],by simp [Ir]⟩,⟨[],by simp [Ir]⟩⟩
 |l::ls,L,D,hl,h,hd=>by
  obtain ⟨n1,n2⟩:=SE hV hx (hl l (by simp))
  have Jg: ∀l∈ls,Ic (List.length p.2.2.1) l:= λl' h'=>hl l' (Ar _ h')
  simp only [Ir]
  split
  ·exact nw hV hx hxl ls L D Jg h hd
  ·rename_i hn
   split
   ·exact ⟨h,⟨[],by simp⟩,⟨[],by simp⟩⟩
   ·rename_i hf
    have Aep:=h.ok.oW
    obtain ⟨k1,⟨A,k2⟩,⟨A',k3⟩⟩:=nw hV hx hxl ls (L++ [Af x (Ax p.2.2.1 l)]) (D++ [d+1]) Jg (h.add hn (by rw [n1,hxl]) (by omega) n2 ⟨by omega,by omega⟩) ⟨hd.1,by rw [Ay];omega⟩
    exact ⟨k1,⟨_::A,by rw [k2,Ck];rfl⟩,⟨_::A',by rw [k3,Ck];rfl⟩⟩
theorem DZ {p:PP} (hV:Valid p) {m:Nat} {ls:List Int} (hl: ∀l∈ls,Ic (List.length p.2.2.1) l): ∀(f k:Nat) (L:List (List Int)) (D:List Int),aB p m L D->
  aB p m (Md p.2.2.1 ls f k L D).1 (Md p.2.2.1 ls f k L D).2.1/\(∃A,(Md p.2.2.1 ls f k L D).1=L++A)
 |0,k,L,D,h=>⟨h,⟨[],by simp [Md]⟩⟩
 |f+1,k,L,D,h=>by
  simp only [Md]
  split
  ·rename_i hk
   have hkD:k<D.length:=by rw [h.len];exact hk
   have hd:=h.dep k hkD
   have e:D.getD k 0=D[k]:=by rw [Al,Ad hkD];rfl
   rw [nT hk,e]
   obtain ⟨k1,⟨A,k2⟩,_⟩:=nw hV (h.row _ (An hk)) (h.ok.len _ (An hk)) (d:=D[k]) ls L D hl h ⟨by omega,by omega⟩
   split
   ·rename_i L' D' he
    rw [he] at k1 k2
    obtain ⟨g1,⟨B,g2⟩⟩:=DZ hV hl f (k+1) L' D' k1
    have k2:L'=L++A:=k2
    exact ⟨g1,⟨A++B,by rw [g2,k2,Ck]⟩⟩
   ·rename_i L' D' he
    rw [he] at k1 k2
    exact ⟨k1,⟨A,k2⟩⟩
  ·exact ⟨h,⟨[],by simp⟩⟩
theorem YO {p:PP} {s:List Int} (hv:Cs p=true) (hs:s.length<=20) (hr: ∀y∈s,0<=y/\y<p.1):aB p s.length (Kt p.2.2.1 s).1 (Kt p.2.2.1 s).2.1/\ ∃A,(Kt p.2.2.1 s).1=s::A:=
 DZ (valid hv) (λ_ hl=>Nj hl) _ _ _ _ (pe hs hr)
def KF (m:ByteArray->Option Bool) (L:List (List Int)):Prop:= ∀q,Xe q->(m (Su q)).getD false=decide (q∈L)
theorem KF.add {m:ByteArray->Option Bool} {L:List (List Int)} {y:List Int} (h:KF m L) (hy:Xe y):KF (gr m (Su y) true) (L++ [y]):=by
 intro q hq
 unfold gr
 by_cases e:q=y
 ·subst e
  rw [Ab rfl];simp
 ·rw [Ak λhk=>e (key_inj hq hy hk),h q hq]
  simp [e]
end Go.Proofs.Ytkkdpknjohcekaa
