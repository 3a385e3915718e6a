/-
  Part 38 of the proof that the statement FnTwoPhase holds.
-/
import Derived.Test.YtkkdpknjohcekaaCFTwoPhase36
import Derived.KernelRfl
namespace Go.Proofs.Ytkkdpknjohcekaa
open Go.RowKit
def Mr (x a b:Int):Bool:=decide (a<=x/\x<=b)
def kx (n x:Int):Bool:=decide (0<=x/\x<=IntKind.i64.wrap (n-1))
def cR (a b:List Int):Bool:=decide (a=b)
def ly (xs:List Int) (x:Int):Bool:=decide (x∈xs)
def short (xs:List Int):Prop:=xs.length<=4294967296
noncomputable abbrev Ct:Spec:=Hg (.pair tI (.pair tI (.pair tI .unit))) .bool false true (λ_=>True) (λx=>Mr x.1 x.2.1 x.2.2.1)
noncomputable abbrev bx:Spec:=Hg (.pair tI (.pair tI .unit)) .bool false true (λ_=>True) (λx=>kx x.1 x.2.1)
noncomputable abbrev Oh:Spec:=Hg (.pair tL (.pair tL .unit)) .bool false true (λx=>short x.1) (λx=>cR x.1 x.2.1)
noncomputable abbrev Qu:Spec:=Hg (.pair tL (.pair tI .unit)) .bool false true (λx=>short x.1) (λx=>ly x.1 x.2.1)
theorem WR (x a b:Int) (P:Bool->Prop):(Br (decide (x>=a)) (P (decide (x<=b))) (P false))=fnW Gz (look []) Ct Try.f65 (x,a,b,()) P:=by kernel_rfl
theorem Ad4 (x a b:Int) (P:Bool->Prop):(Br (decide (x>=a)) (P (decide (x<=b))) (P false))=fnW Gz (look []) Ct Try.f94 (x,a,b,()) P:=by kernel_rfl
theorem WU (n x:Int) (P:Bool->Prop):(∃(y3:Bool),Ct.fn (x,0,IntKind.i64.wrap (n-1),())=some y3/\P y3)=fnW Gz (look [(94,Ct)]) bx Try.f159 (n,x,()) P:=by kernel_rfl
theorem JE (a b:List Int) (P:Bool->Prop):(Br ((↑a.length:Int) !=(↑b.length:Int)) (P false) (Ea (λ(v3:Int×PUnit) (k4:Int×PUnit->Prop)=>Br (decide (v3.1<(↑a.length:Int))) (∃(y5:Int),idx a v3.1=some y5/\ ∃(y6:Int),idx b v3.1=some y6/\Br (y5 !=y6) (P false) (k4 (IntKind.i64.wrap (v3.1+1),()))) (P true)) (0,PUnit.unit)))=fnW Gz (look []) Oh Try.f80 (a,b,()) P:=by kernel_rfl
theorem wR (xs:List Int) (x:Int) (P:Bool->Prop):(Ea (λ(v3:Int×PUnit) (k4:Int×PUnit->Prop)=>Br (decide (v3.1<(↑xs.length:Int))) (∃(y5:Int),idx xs v3.1=some y5/\Br (y5==x) (P true) (k4 (IntKind.i64.wrap (v3.1+1),()))) (P false)) (0,PUnit.unit))=fnW Gz (look []) Qu Try.f152 (xs,x,()) P:=by kernel_rfl
theorem UX (x a b:Int) (_:True):fnW Gz (look []) Ct Try.f65 (x,a,b,()) (λ(z:Bool)=>z=Mr x a b):=by
 refine Eq.mp (WR x a b _) ?_
 refine Br.dec (λh=>?_) λh=>?_
 ·have h:a<=x:=h
  simp [Mr,h]
 ·exact (Eu λhh=>h hh.1).symm
theorem Qz:Sound Try.prog 65 Ct:=
 Sound.Hg Ff Cc mixed Try.func65 (by kernel_rfl) (by kernel_rfl) λx h=>UX x.1 x.2.1 x.2.2.1 h
theorem Abg (x a b:Int) (_:True):fnW Gz (look []) Ct Try.f94 (x,a,b,()) (λ(z:Bool)=>z=Mr x a b):=by
 refine Eq.mp (Ad4 x a b _) ?_
 refine Br.dec (λh=>?_) λh=>?_
 ·have h:a<=x:=h
  simp [Mr,h]
 ·exact (Eu λhh=>h hh.1).symm
theorem Tb:Sound Try.prog 94 Ct:=
 Sound.Hg Ff Cc mixed Try.func94 (by kernel_rfl) (by kernel_rfl) λx h=>Abg x.1 x.2.1 x.2.2.1 h
theorem UZ (n x:Int) (_:True):fnW Gz (look [(94,Ct)]) bx Try.f159 (n,x,()) (λ(z:Bool)=>z=kx n x):=
 Eq.mp (WU n x _) ⟨_,Ab trivial,rfl⟩
theorem wH:Sound Try.prog 159 bx:=
 Sound.Hg Ff (Ba Tb Cc) mixed Try.func159 (by kernel_rfl) (by kernel_rfl) λx h=>UZ x.1 x.2.1 h
theorem wi (xs:List Int) (x:Int) (h:short xs):fnW Gz (look []) Qu Try.f152 (xs,x,()) (λ(z:Bool)=>z=ly xs x):=by
 refine Eq.mp (wR xs x _) ?_
 unfold short at h
 refine Cg xs.length (λv=>v.1) (λj _=>x∉xs.take j) rfl (by simp) ?_
 rintro j ⟨i,⟨⟩⟩ K hj hi hR hK
 dsimp only at hi⊢
 subst hi
 refine Br.dec (λhl=>?_) λhl=>?_
 ·have hl:j<xs.length:=by omega
  refine ⟨_,Cf hl,⟨λhe=>?_,λhe=>?_⟩⟩
  ·have hm:=Am hl
   simp only [beq_iff_eq] at he
   rw [he] at hm
   exact (Bp hm).symm
  ·rw [Cb (by omega)]
   refine hK hl _ rfl ?_
   simp only [Rr,ne_eq] at he
   rw [Ej hl]
   simp only [Az,Af,not_or]
   exact ⟨hR,λhx=>he hx.symm⟩
 ·have:j=xs.length:=by omega
  subst this
  rw [Bh] at hR
  exact (Eu hR).symm
theorem oz:Sound Try.prog 152 Qu:=
 Sound.Hg Ff Cc mixed Try.func152 (by kernel_rfl) (by kernel_rfl) λx h=>wi x.1 x.2.1 h
theorem Ae5 (a b:List Int) (hlen:a.length=b.length) (h:short a):
  Ea (λ(v3:Int×PUnit) (k4:Int×PUnit->Prop)=>
   Br (decide (v3.1<(↑a.length:Int))) (∃(y5:Int),idx a v3.1=some y5/\ ∃(y6:Int),idx b v3.1=some y6/\Br (y5 !=y6) (false=cR a b) (k4 (IntKind.i64.wrap (v3.1+1),())))
    (true=cR a b))
  (0,PUnit.unit):=by
 unfold short at h
 refine Cg a.length (λv=>v.1) (λj _=>a.take j=b.take j) rfl (by simp) ?_
 rintro j ⟨i,⟨⟩⟩ K hj hi hR hK
 dsimp only at hi⊢
 subst hi
 refine Br.dec (λhl=>?_) λhl=>?_
 ·have LS:j<a.length:=by omega
  have nS:j<b.length:=by omega
  refine ⟨_,Cf LS,_,Cf nS,⟨λhe=>?_,λhe=>?_⟩⟩
  ·simp only [bne_iff_ne,ne_eq] at he
   refine (Eu λCW=>he ?_).symm
   subst CW
   rfl
  ·rw [Cb (by omega)]
   refine hK LS _ rfl ?_
   simp only [bne_eq_false_iff_eq] at he
   rw [Ej LS,Ej nS,hR,he]
 ·have CX:j=a.length:=by omega
  subst CX
  rw [Bh,hlen,Bh] at hR
  exact (Bp hR).symm
theorem HG (a b:List Int) (h:short a):fnW Gz (look []) Oh Try.f80 (a,b,()) (λ(z:Bool)=>z=cR a b):=by
 refine Eq.mp (JE a b _) ⟨λhl=>?_,λhl=>?_⟩
 ·simp only [bne_iff_ne,ne_eq,bl] at hl
  exact (Eu λCW=>hl (by rw [CW])).symm
 ·simp only [bne_eq_false_iff_eq,bl] at hl
  exact Ae5 a b hl h
theorem gT:Sound Try.prog 80 Oh:=
 Sound.Hg Ff Cc mixed Try.func80 (by kernel_rfl) (by kernel_rfl) λx h=>HG x.1 x.2.1 h
abbrev TT:Type:=List Int×List (List Int)×List Int×Unit
def bd (xs:List (List Int)):Prop:=xs.length<=4294967296/\ ∀r∈xs,short r
def Aks (t:TT):Prop:=short t.1/\bd t.2.1/\short t.2.2.1
def Apg (a b:TT):Bool:=decide (a.1=b.1)&&(decide (a.2.1=b.2.1)&&decide (a.2.2.1=b.2.2.1))
theorem lK {α:Type} {ys xs:List α} {j:Nat} (h:j<xs.length) (hl:ys.length=xs.length) (ht:ys.take j=xs.take j):(ys.set j xs[j]).take (j+1)=xs.take (j+1):=by
 have h1:j<(ys.set j xs[j]).length:=by rw [Bv];omega
 rw [Ej h1,Ej h,List.getElem_set_self,List.take_set_of_le (Aq j),ht]
def PL (n:Int) (xs:List Int) (k:Nat):Prop:= ∀j (h:j<xs.length),j<k->0<=xs[j]/\xs[j]<=n-1/\(0<j->xs[j-1]<xs[j])
def DL (n:Int) (xs:List Int) (k:Nat):Prop:= ∀j (h:j<xs.length),j<k->0<=xs[j]/\xs[j]<=n-1/\xs[j]∉xs.take j
noncomputable def dec (p:Prop):Bool:= @decide p (Classical.propDecidable p)
theorem Nx {p:Prop} (h:p):true=dec p:=(@Bp p (Classical.propDecidable p) h).symm
theorem Dl {p:Prop} (h: ¬p):false=dec p:=(@Eu p (Classical.propDecidable p) h).symm
theorem Gk {p:Prop} :dec p=true↔p:= @Jj p (Classical.propDecidable p)
theorem Ae0 {p:Prop} :dec p=false↔ ¬p:= @decide_eq_false_iff_not p (Classical.propDecidable p)
def nOK (n:Int):Prop:=0<=n/\n<=4294967296
noncomputable def Se (n:Int) (xs:List Int):Bool:=dec (0<xs.length/\PL n xs xs.length)
noncomputable abbrev Ko:Spec:=Hg (.pair tI (.pair tL .unit)) .bool false true (λx=>nOK x.1/\short x.2.1) (λx=>Se x.1 x.2.1)
noncomputable abbrev Uv:Spec:=Hg (.pair yz .unit) tI false true (λ_=>True) (λx=>(List.length x.1:Int))
theorem wU (n:Int) (xs:List Int) (P:Bool->Prop):(∃(y3:Bool),Ct.fn ((↑xs.length:Int),(1:Int),n,())=some y3/\Br (!y3) (P false) (Ea (λ(v4:Int×PUnit) (k5:Int×PUnit->Prop)=>Br (decide (v4.1<(↑xs.length:Int))) (∃(y6:Int),idx xs v4.1=some y6/\ ∃(y7:Bool),Ct.fn (y6,(0:Int),IntKind.i64.wrap (n-(1:Int)),())=some y7/\Br (!y7) (P false) (Br (decide (v4.1>(0:Int))) (∃(y8:Int),idx xs v4.1=some y8/\ ∃(y9:Int),idx xs (IntKind.i64.wrap (v4.1-(1:Int)))=some y9/\Br (decide (y8<=y9)) (P false) (k5 (IntKind.i64.wrap (v4.1+(1:Int)),()))) (k5 (IntKind.i64.wrap (v4.1+(1:Int)),())))) (P true)) ((0:Int),PUnit.unit)))=fnW Gz (look [(65,Ct)]) Ko Try.f162 (n,xs,()) P:=by kernel_rfl
theorem JH (n:Int) (xs:List Int) (P:Bool->Prop):(Ea (λ(v3:Int×PUnit) (k4:Int×PUnit->Prop)=>Br (decide (v3.1<(↑xs.length:Int))) (∃(y5:Int),idx xs v3.1=some y5/\ ∃(y6:Bool),bx.fn (n,y5,())=some y6/\Br (!y6) (P false) (Br (decide (v3.1>(0:Int))) (∃(y7:Int),idx xs (IntKind.i64.wrap (v3.1-(1:Int)))=some y7/\Br (decide (y7>=y5)) (P false) (k4 (IntKind.i64.wrap (v3.1+(1:Int)),()))) (k4 (IntKind.i64.wrap (v3.1+(1:Int)),())))) (P (decide ((↑xs.length:Int)>(0:Int))))) ((0:Int),PUnit.unit))=fnW Gz (look [(159,bx)]) Ko Try.f93 (n,xs,()) P:=by kernel_rfl
theorem Ag4 (xs:List (List Int)) (P:Int->Prop):(P (↑xs.length:Int))=fnW Gz (look []) Uv Try.f95 (xs,()) P:=by kernel_rfl
theorem Afa (xs:List (List Int)) (_:True):fnW Gz (look []) Uv Try.f95 (xs,()) (λ(z:Int)=>z=(xs.length:Int)):=Eq.mp (Ag4 xs _) rfl
theorem jE:Sound Try.prog 95 Uv:=
 Sound.Hg Ff Cc mixed Try.func95 (by kernel_rfl) (by kernel_rfl) λx h=>Afa x.1 h
theorem qH {n x:Int} (hn:nOK n):kx n x=true↔0<=x/\x<=n-1:=by
 unfold kx nOK at*
 rw [Cj (by omega) (by omega),Jj]
theorem Fe {x a b:Int} :Mr x a b=true↔a<=x/\x<=b:=Jj
theorem Is {b:Bool} (h:(!b)=true): ¬b=true:=by cases b<;>simp_all
theorem Kg {b:Bool} (h:(!b)=false):b=true:=by cases b<;>simp_all
theorem NN {n:Int} {xs:List Int} (h:PL n xs xs.length): ∀j (hj:j<xs.length),(j:Int)<=xs[j]
 |0,hj=>(h 0 hj hj).1
 |j+1,hj=>by
  have h1:=NN h j (by omega)
  have h2:=(h (j+1) hj hj).2.2 (by omega)
  simp only [Nat.add_sub_cancel] at h2
  omega
theorem sk {n:Int} {xs:List Int} {j:Nat} (hl:j<xs.length) (h:PL n xs j) (h1:0<=xs[j]) (h2:xs[j]<=n-1) (h3:0<j->xs[j-1]<xs[j]):PL n xs (j+1):=by
 intro i hi eX
 by_cases e:i=j
 ·subst e;exact ⟨h1,h2,h3⟩
 ·exact h i hi (by omega)
theorem HK (n:Int) (xs:List Int) (h:nOK n/\short xs):fnW Gz (look [(159,bx)]) Ko Try.f93 (n,xs,()) (λ(z:Bool)=>z=Se n xs):=by
 obtain ⟨hn,h⟩:=h
 unfold short at h
 refine Eq.mp (JH n xs _) ?_
 refine Cg xs.length (λv=>v.1) (λj _=>PL n xs j) rfl (λj _ hj=>absurd hj (Et _)) ?_
 rintro j ⟨i,⟨⟩⟩ K hj hi hR hK
 dsimp only at hi⊢
 subst hi
 refine Br.dec (λhl=>?_) λhl=>?_
 ·have hl:j<xs.length:=by omega
  refine ⟨_,Cf hl,_,Ab trivial,⟨λhp=>?_,λhp=>?_⟩⟩
  ·have hp:=Is hp
   rw [qH hn] at hp
   exact Dl λhh=>hp ⟨(hh.2 j hl hl).1,(hh.2 j hl hl).2.1⟩
  ·have hp:=Kg hp
   rw [qH hn] at hp
   refine Br.dec (λh0=>?_) λh0=>?_
   ·have h0:0<j:=by omega
    rw [Cj (by omega) (by omega),show (j:Int)-1=((j-1:Nat):Int) by omega]
    refine ⟨_,Cf (by omega),Br.dec (λhg=>?_) λhg=>?_⟩
    ·exact Dl λhh=>by have:=(hh.2 j hl hl).2.2 h0;omega
    ·rw [Cb (by omega)]
     exact hK hl _ rfl (sk hl hR hp.1 hp.2 λ_=>by omega)
   ·have h0:j=0:=by omega
    rw [Cb (by omega)]
    exact hK hl _ rfl (sk hl hR hp.1 hp.2 λh=>by omega)
 ·have:j=xs.length:=by omega
  subst this
  by_cases h0:0<xs.length
  ·rw [Bp (show (xs.length:Int)>0 by omega)];exact Nx ⟨h0,hR⟩
  ·rw [Eu (show ¬(xs.length:Int)>0 by omega)];exact Dl λhh=>h0 hh.1
theorem rT:Sound Try.prog 93 Ko:=
 Sound.Hg Ff (Ba wH Cc) mixed Try.func93 (by kernel_rfl) (by kernel_rfl) λx h=>HK x.1 x.2.1 h
theorem wm (n:Int) (xs:List Int) (h:nOK n/\short xs):fnW Gz (look [(65,Ct)]) Ko Try.f162 (n,xs,()) (λ(z:Bool)=>z=Se n xs):=by
 obtain ⟨hn,h⟩:=h
 unfold short at h
 refine Eq.mp (wU n xs _) ⟨_,Ab trivial,⟨λhp=>?_,λhp=>?_⟩⟩
 ·have hp:=Is hp
  rw [Fe] at hp
  dsimp only at hp
  refine Dl λhh=>hp ⟨by omega,?_⟩
  have:=NN hh.2 (xs.length-1) (by omega)
  have:=(hh.2 (xs.length-1) (by omega) (by omega)).2.1
  omega
 ·have hp:=Kg hp
  rw [Fe] at hp
  dsimp only at hp
  refine Cg xs.length (λv=>v.1) (λj _=>PL n xs j) rfl (λj _ hj=>absurd hj (Et _)) ?_
  rintro j ⟨i,⟨⟩⟩ K hj hi hR hK
  dsimp only at hi⊢
  subst hi
  refine Br.dec (λhl=>?_) λhl=>?_
  ·have hl:j<xs.length:=by omega
   refine ⟨_,Cf hl,_,Ab trivial,⟨λhq=>?_,λhq=>?_⟩⟩
   ·have hq:=Is hq
    unfold nOK at hn
    rw [Fe,Cj (by omega) (by omega)] at hq
    exact Dl λhh=>hq ⟨(hh.2 j hl hl).1,(hh.2 j hl hl).2.1⟩
   ·have hq:=Kg hq
    unfold nOK at hn
    rw [Fe,Cj (by omega) (by omega)] at hq
    refine Br.dec (λh0=>?_) λh0=>?_
    ·have h0:0<j:=by omega
     rw [Cj (by omega) (by omega),show (j:Int)-1=((j-1:Nat):Int) by omega]
     refine ⟨_,Cf hl,_,Cf (by omega),Br.dec (λhg=>?_) λhg=>?_⟩
     ·exact Dl λhh=>by have:=(hh.2 j hl hl).2.2 h0;omega
     ·rw [Cb (by omega)]
      exact hK hl _ rfl (sk hl hR hq.1 hq.2 λ_=>by omega)
    ·rw [Cb (by omega)]
     exact hK hl _ rfl (sk hl hR hq.1 hq.2 λh=>by omega)
  ·have:j=xs.length:=by omega
   subst this
   exact Nx ⟨by omega,hR⟩
theorem oB:Sound Try.prog 162 Ko:=
 Sound.Hg Ff (Ba Qz Cc) mixed Try.func162 (by kernel_rfl) (by kernel_rfl) λx h=>wm x.1 x.2.1 h
theorem Ae1 {n:Int} {xs:List Int} {j:Nat} (hl:j<xs.length) (h:DL n xs j) (h1:0<=xs[j]) (h2:xs[j]<=n-1) (h3:xs[j]∉xs.take j):DL n xs (j+1):=by
 intro i hi eX
 by_cases e:i=j
 ·subst e;exact ⟨h1,h2,h3⟩
 ·exact h i hi (by omega)
theorem OF {xs:List Int} (h:short xs) (j:Nat):short (xs.take j):=by
 unfold short at*
 rw [Ec]
 omega
abbrev PP:Type:=Int×ByteArray×List (List Int)×Unit
noncomputable def Ki (p:List Int):Bool:=dec (1<=p.length/\p.length<=20/\DL p.length p p.length)
noncomputable def He (n:Int) (p:List Int):Bool:=dec ((p.length:Int)=n/\Ki p=true)
noncomputable def a5 (n:Int) (g:List (List Int)):Bool:=dec ((1<=n/\n<=20)/\g.length<=8/\ ∀p∈g,He n p=true)
def Gr {α:Type} (P:α->Bool):List α->Int->Int
 | [],_=> -1
 |y::r,i=>if P y=true then i else Gr P r (i+1)
abbrev tG1:Ty:= .clo 206 (.pair (.ptr tI) .unit)
def yG (s:ByteArray) (i:Nat):Prop:= ∃c:UInt8,s[i]?=some c/\65<=c.toNat/\c.toNat<=90/\ ∀k,k<i->s[k]?≠some c
noncomputable def o5 (s:ByteArray) (i:Int):Bool:=dec (yG s i.toNat)
noncomputable def bq (s:ByteArray):Bool:=dec ((1<=s.size/\s.size<=8)/\ ∀j,j<s.size->yG s j)
noncomputable def Cd (p:PP):Bool:=dec (a5 p.1 p.2.2.1=true/\bq p.2.1=true/\p.2.1.size=p.2.2.1.length)
noncomputable def Cw (p:PP) (xs:List Int):Bool:=dec (Cd p=true/\Se p.2.2.1.length xs=true)
def Gb (p:PP):Prop:=p.2.1.size<=4294967296/\bd p.2.2.1
noncomputable abbrev To:Spec:=Hg (.pair tL .unit) tI false true (λ_=>True) (λx=>(List.length x.1:Int))
noncomputable abbrev Je:Spec:=Hg (.pair tL .unit) .bool false true (λx=>short x.1) (λx=>Ki x.1)
noncomputable abbrev Qm:Spec:=Hg (.pair tI (.pair yz .unit)) .bool false true (λx=>bd x.2.1) (λx=>a5 x.1 x.2.1)
noncomputable abbrev kD:Spec:=Hg (.pair tL (.pair (.ptr tI) .unit)) .bool false true (λx=>short x.1) (λx=>!He x.2.1 x.1)
noncomputable abbrev yj:Spec:=Hg (.pair yz (.pair tG1 .unit)) tI false true (λx=>bd x.1) (λx=>Gr (λp=>!He x.2.1.1 p) x.1 0)
noncomputable abbrev yg:Spec:=Hg (.pair yz (.pair tG1 .unit)) .bool false true (λx=>bd x.1) (λx=>List.any x.1 (λp=>!He x.2.1.1 p))
noncomputable abbrev eJ:Spec:=Hg (.pair .str (.pair tI .unit)) .bool false true (λx=>0<=x.2.1/\x.2.1<x.1.size/\x.1.size<=4294967296) (λx=>o5 x.1 x.2.1)
noncomputable abbrev bw:Spec:=Hg (.pair .str .unit) .bool false true (λx=>x.1.size<=4294967296) (λx=>bq x.1)
noncomputable abbrev Jf:Spec:=Hg (.pair Iw .unit) .bool false true (λx=>Gb x.1) (λx=>Cd x.1)
noncomputable abbrev Jn:Spec:=Hg (.pair Iw (.pair tL .unit)) .bool false true (λx=>Gb x.1/\short x.2.1) (λx=>Cw x.1 x.2.1)
theorem Alb (xs:List Int) (P:Int->Prop):(P (↑xs.length:Int))=fnW Gz (look []) To Try.f140 (xs,()) P:=by kernel_rfl
theorem CR (p:List Int) (P:Bool->Prop):(∃(y2:Bool),Ct.fn ((↑p.length:Int),(1:Int),(20:Int),())=some y2/\Br (!y2) (P false) (Ea (λ(v3:Int×PUnit) (k4:Int×PUnit->Prop)=>Br (decide (v3.1<(↑p.length:Int))) (∃(y5:Int),idx p v3.1=some y5/\ ∃(y6:Bool),Ct.fn (y5,(0:Int),IntKind.i64.wrap ((↑p.length:Int)-(1:Int)),())=some y6/\Br (!y6) (P false) (((0:Int)<=(0:Int)/\(0:Int)<=v3.1/\v3.1<=(↑p.length:Int))/\ ∃(y7:Int),idx p v3.1=some y7/\ ∃(y8:Bool),Qu.fn (List.drop (Int.toNat (0:Int)) (List.take v3.1.toNat p),y7,())=some y8/\Br y8 (P false) (k4 (IntKind.i64.wrap (v3.1+(1:Int)),())))) (P true)) ((0:Int),PUnit.unit)))=fnW Gz (look [(65,Ct),(152,Qu)]) Je Try.f169 (p,()) P:=by kernel_rfl
theorem CO (p:List Int) (P:Bool->Prop):(∃(y2:Int),To.fn (p,())=some y2/\ ∃(y3:Bool),Ct.fn (y2,(1:Int),(20:Int),())=some y3/\Br (!y3) (P false) (Ea (λ(v4:Int×Int×PUnit) (k5:Int×Int×PUnit->Prop)=>Br (decide (v4.2.1<(↑p.length:Int))) (∃(y6:Int),idx p v4.2.1=some y6/\ ∃(y7:Int),To.fn (p,())=some y7/\ ∃(y8:Bool),Ct.fn (y6,(0:Int),IntKind.i64.wrap (y7-(1:Int)),())=some y8/\Br (!y8) (P false) (¬y6<(0:Int)/\k5 (IntKind.i64.wrap (↑(BitVec.ofInt IntKind.i64.bits v4.1|||BitVec.ofInt IntKind.i64.bits (IntKind.i64.wrap ((1:Int)*(2:Int)^min y6.toNat IntKind.i64.bits))).toNat:Int),IntKind.i64.wrap (v4.2.1+(1:Int)),()))) (¬(↑p.length:Int)<(0:Int)/\P (v4.1==IntKind.i64.wrap (IntKind.i64.wrap ((1:Int)*(2:Int)^min (↑p.length:Int).toNat IntKind.i64.bits)-(1:Int))))) ((0:Int),(0:Int),PUnit.unit)))=fnW Gz (look [(94,Ct),(140,To)]) Je Try.f141 (p,()) P:=by kernel_rfl
theorem CQ (n:Int) (g:List (List Int)) (P:Bool->Prop):(∃(y3:Bool),Ct.fn (n,(1:Int),(20:Int),())=some y3/\Br (!y3) (P false) (Br (decide ((↑g.length:Int)>(8:Int))) (P false) (Ea (λ(v4:Int×PUnit) (k5:Int×PUnit->Prop)=>Br (decide (v4.1<(↑g.length:Int))) (∃(y6:List Int),idx g v4.1=some y6/\Br ((↑y6.length:Int) !=n) (P false) (∃(y7:List Int),idx g v4.1=some y7/\ ∃(y8:Bool),Je.fn (y7,())=some y8/\Br (!y8) (P false) (k5 (IntKind.i64.wrap (v4.1+(1:Int)),())))) (P true)) ((0:Int),PUnit.unit))))=fnW Gz (look [(65,Ct),(169,Je)]) Qm Try.f115 (n,g,()) P:=by kernel_rfl
theorem Ag3 (p:List Int) (n:Int) (P:Bool->Prop):(∃(y3:Int),To.fn (p,())=some y3/\Br (y3 !=n) (P true) (∃(y4:Bool),Je.fn (p,())=some y4/\P !y4))=fnW Gz (look [(140,To),(141,Je)]) kD Try.f206 (p,n,()) P:=by kernel_rfl
theorem Aq8 (g:List (List Int)) (n:Int×Unit) (P:Int->Prop):(Ea (λ(v3:Int×PUnit) (k4:Int×PUnit->Prop)=>Br (decide (v3.1<(↑g.length:Int))) (∃(y5:List Int),idx g v3.1=some y5/\ ∃(y6:Bool),kD.fn (y5,n.1,())=some y6/\Br y6 (P v3.1) (k4 (IntKind.i64.wrap (v3.1+(1:Int)),()))) (P (-1:Int))) ((0:Int),PUnit.unit))=fnW Gz (look [(206,kD)]) yj Try.f197 (g,n,()) P:=by kernel_rfl
theorem Aq5 (g:List (List Int)) (n:Int×Unit) (P:Bool->Prop):(∃(y3:Int),yj.fn (g,n,())=some y3/\P (decide (y3>=(0:Int))))=fnW Gz (look [(197,yj)]) yg Try.f205 (g,n,()) P:=by kernel_rfl
theorem CN (n:Int) (g:List (List Int)) (P:Bool->Prop):(∃(y3:Bool),Ct.fn (n,(1:Int),(20:Int),())=some y3/\Br y3 (Br (decide ((↑g.length:Int)<=(8:Int))) (∃(y4:Bool),yg.fn (g,(n,()),())=some y4/\P !y4) (P false)) (P false))=fnW Gz (look [(94,Ct),(205,yg)]) Qm Try.f173 (n,g,()) P:=by kernel_rfl
theorem Acy (s:ByteArray) (i:Int) (P:Bool->Prop):((0:Int)<=i/\ ∃(y3:UInt8),s[i.toNat]?=some y3/\Br (decide ((↑y3.toNat:Int)<(65:Int))) (P false) ((0:Int)<=i/\ ∃(y4:UInt8),s[i.toNat]?=some y4/\Br (decide ((↑y4.toNat:Int)>(90:Int))) (P false) (Ea (λ(v5:Int×PUnit) (k6:Int×PUnit->Prop)=>Br (decide (v5.1<i)) ((0:Int)<=v5.1/\ ∃(y7:UInt8),s[v5.1.toNat]?=some y7/\(0:Int)<=i/\ ∃(y8:UInt8),s[i.toNat]?=some y8/\Br ((↑y7.toNat:Int)==(↑y8.toNat:Int)) (P false) (k6 (IntKind.i64.wrap (v5.1+(1:Int)),()))) (P true)) ((0:Int),PUnit.unit))))=fnW Gz (look []) eJ Try.f116 (s,i,()) P:=by kernel_rfl
theorem WT (s:ByteArray) (P:Bool->Prop):(Ea (λ(v2:Int×PUnit) (k3:Int×PUnit->Prop)=>Br (decide (v2.1<(↑s.size:Int))) ((0:Int)<=v2.1/\ ∃(y4:UInt8),s[v2.1.toNat]?=some y4/\ ∃(y5:Bool),Ct.fn (IntKind.i64.wrap (↑y4.toNat:Int),(65:Int),(90:Int),())=some y5/\Br (!y5) (P false) (Ea (λ(v6:Int×PUnit) (k7:Int×PUnit->Prop)=>Br (decide (v6.1<v2.1)) ((0:Int)<=v6.1/\ ∃(y8:UInt8),s[v6.1.toNat]?=some y8/\(0:Int)<=v2.1/\ ∃(y9:UInt8),s[v2.1.toNat]?=some y9/\Br ((↑y8.toNat:Int)==(↑y9.toNat:Int)) (P false) (k7 (IntKind.i64.wrap (v6.1+(1:Int)),()))) (k3 (IntKind.i64.wrap (v2.1+(1:Int)),()))) ((0:Int),PUnit.unit))) (∃(y4:Bool),Ct.fn ((↑s.size:Int),(1:Int),(8:Int),())=some y4/\P y4)) ((0:Int),PUnit.unit))=fnW Gz (look [(94,Ct)]) bw Try.f174 (s,()) P:=by kernel_rfl
abbrev lG:Type:=Int×Int×ByteArray×List (List Int)×PUnit
theorem CS (p:Int×ByteArray×List (List Int)×Unit) (P:Bool->Prop):(Br ((↑p.2.2.1.length:Int)==(0:Int)) (P false) (Br ((↑p.2.1.size:Int) !=(↑p.2.2.1.length:Int)) (P false) (∃(y2:Bool),Qm.fn (p.1,p.2.2.1,())=some y2/\Br (!y2) (P false) (Ea (λ(v3:lG) (k4:lG->Prop)=>Br (decide (v3.1<(↑v3.2.2.1.size:Int))) (∃(y5:Bool),eJ.fn (v3.2.2.1,v3.1,())=some y5/\Br (!y5) (P false) (k4 (IntKind.i64.wrap (v3.1+(1:Int)),v3.2.1,v3.2.2.1,v3.2.2.2.1,()))) (P true)) ((0:Int),p.1,p.2.1,p.2.2.1,PUnit.unit)))))=fnW Gz (look [(115,Qm),(116,eJ)]) Jf Try.f47 (p,()) P:=by kernel_rfl
theorem CP (p:Int×ByteArray×List (List Int)×Unit) (P:Bool->Prop):(∃(y2:Bool),Qm.fn (p.1,p.2.2.1,())=some y2/\Br y2 (∃(y3:Bool),bw.fn (p.2.1,())=some y3/\Br y3 (P ((↑p.2.1.size:Int)==(↑p.2.2.1.length:Int))) (P false)) (P false))=fnW Gz (look [(173,Qm),(174,bw)]) Jf Try.f119 (p,()) P:=by kernel_rfl
theorem q9 (p:Int×ByteArray×List (List Int)×Unit) (xs:List Int) (P:Bool->Prop):(∃(y3:Bool),Jf.fn ((p.1,p.2.1,p.2.2.1,()),())=some y3/\Br y3 (∃(y4:Bool),Ko.fn ((↑p.2.2.1.length:Int),xs,())=some y4/\P y4) (P false))=fnW Gz (look [(47,Jf),(162,Ko)]) Jn Try.f183 (p,xs,()) P:=by kernel_rfl
theorem q8 (p:Int×ByteArray×List (List Int)×Unit) (xs:List Int) (P:Bool->Prop):(∃(y3:Bool),Jf.fn ((p.1,p.2.1,p.2.2.1,()),())=some y3/\Br y3 (∃(y4:Int),Uv.fn (p.2.2.1,())=some y4/\ ∃(y5:Bool),Ko.fn (y4,xs,())=some y5/\P y5) (P false))=fnW Gz (look [(119,Jf),(93,Ko),(95,Uv)]) Jn Try.f164 (p,xs,()) P:=by kernel_rfl
theorem Akg (xs:List Int) (_:True):fnW Gz (look []) To Try.f140 (xs,()) (λ(z:Int)=>z=(xs.length:Int)):=Eq.mp (Alb xs _) rfl
theorem gf:Sound Try.prog 140 To:=
 Sound.Hg Ff Cc mixed Try.func140 (by kernel_rfl) (by kernel_rfl) λx h=>Akg x.1 h
theorem BV {α:Type} [DecidableEq α]: ∀(l m:List α),l.Nodup->(∀x∈l,x∈m)->l.length<=m.length
 | [],m,_,_=>Kr _
 |a::l,m,hn,hs=>by
  have ha:a∈m:=hs a (Ji ..)
  have hn:=Cm.1 hn
  have:=BV l (m.erase a) hn.2 λx hx=>(List.mem_erase_of_ne (λ(e:x=a)=>hn.1 (by rw [<-e];exact hx))).2 (hs x (As _ hx))
  rw [Xk ha] at this
  have:0<m.length:=List.length_pos_of_mem ha
  simp only [Aw]
  omega
def upto (n:Nat):List Int:=(List.range n).map Int.ofNat
theorem mO (n:Nat):(upto n).Nodup:=by
 unfold upto
 exact List.Pairwise.map _ (λa b CW e=>CW (Int.ofNat.inj e)) List.nodup_range
theorem Lo {n:Nat} {x:Int} :x∈upto n↔0<=x/\x<n:=by
 unfold upto
 simp only [Be,Fb]
 constructor
 ·rintro ⟨a,ha,rfl⟩;exact ⟨Int.natCast_nonneg _,Int.ofNat_lt.2 ha⟩
 ·rintro ⟨h1,h2⟩;exact ⟨x.toNat,by omega,by simp only [Int.ofNat_eq_natCast];omega⟩
theorem Nf (n:Nat):(upto n).length=n:=by simp [upto]
theorem jg {xs:List Int} (h: ∀j (hj:j<xs.length),xs[j]∉xs.take j):xs.Nodup:=by
 refine Ez.2 λi j hi hj eX e=>h j hj ?_
 rw [<-e]
 exact List.mem_take_iff_getElem.2 ⟨i,by omega,rfl⟩
theorem vz {xs:List Int} (h:xs.Nodup): ∀j (hj:j<xs.length),xs[j]∉xs.take j:=by
 intro j hj hm
 obtain ⟨i,hi,e⟩:=List.mem_take_iff_getElem.1 hm
 exact Ez.1 h i j (by omega) hj (by omega) e
theorem dr {xs:List Int} (h: ∀x∈xs,0<=x/\x<xs.length):(∀k:Nat,k<xs.length->(k:Int)∈xs)↔ ∀j (hj:j<xs.length),xs[j]∉xs.take j:=by
 constructor
 ·intro ha j hj hm
  have h1:=BV (upto xs.length) (xs.take j++xs.drop (j+1)) (mO _) λx hx=>by
   obtain ⟨h1,h2⟩:=Lo.1 hx
   have hx:=ha x.toNat (by omega)
   rw [show ((x.toNat:Nat):Int)=x by omega] at hx
   rw [<-Ka j xs,Az,Hp hj,Bb] at hx
   rcases hx with hx|rfl|hx
   ·exact Bj _ hx
   ·exact Bj _ hm
   ·exact Cn _ hx
  rw [Nf,Ax,Ec,Zi] at h1
  omega
 ·intro hn k hk
  refine Bs λhc=>?_
  have h1:=BV xs ((upto xs.length).erase (k:Int)) (jg hn) λx hx=>by
   refine (List.mem_erase_of_ne λ(e:x=(k:Int))=>hc (by rw [<-e];exact hx)).2 (Lo.2 (h x hx))
  rw [Xk (Lo.2 ⟨by omega,by omega⟩),Nf] at h1
  omega
def mask (xs:List Int):Nat:=xs.foldl (λm x=>m|||2^x.toNat) 0
theorem UJ (xs:List Int) (x:Int):mask (xs++ [x])=mask xs|||2^x.toNat:=by simp [mask]
theorem zP (xs:List Int) (k:Nat): ∀a:Nat,(xs.foldl (λm x=>m|||2^x.toNat) a).testBit k=(a.testBit k||xs.any λx=>decide (x.toNat=k)):=by
 induction xs with
 |nil=>simp
 |cons x xs ih=>
  intro a
  rw [Rd,ih,Nat.testBit_or,Nat.testBit_two_pow,List.any_cons,Bool.or_assoc]
theorem tX (xs:List Int) (k:Nat):(mask xs).testBit k=xs.any λx=>decide (x.toNat=k):=by
 unfold mask
 rw [zP,Nat.zero_testBit,bD]
theorem Af2 {xs:List Int} {n:Nat} (h: ∀x∈xs,x.toNat<n):mask xs<2^n:=by
 refine Nat.lt_pow_two_of_testBit _ λk hk=>?_
 rw [tX]
 refine Bool.eq_false_iff.2 λht=>?_
 obtain ⟨x,hx,he⟩:=Eo.1 ht
 have:=h x hx
 have:=Ia he
 omega
theorem xP {xs:List Int} (h: ∀x∈xs,0<=x/\x<xs.length):mask xs=2^xs.length-1↔ ∀k:Nat,k<xs.length->(k:Int)∈xs:=by
 constructor
 ·intro e k hk
  have h1:=tX xs k
  rw [e,Nat.testBit_two_pow_sub_one,Bp hk] at h1
  obtain ⟨x,hx,he⟩:=Eo.1 h1.symm
  have:=(h x hx).1
  have:=Ia he
  have e:x=(k:Int):=by omega
  exact e▸hx
 ·intro ha
  refine Nat.eq_of_testBit_eq λk=>?_
  rw [tX,Nat.testBit_two_pow_sub_one]
  by_cases hk:k<xs.length
  ·rw [Bp hk]
   exact Eo.2 ⟨k,ha k hk,by simp⟩
  ·rw [Eu hk]
   refine Bool.eq_false_iff.2 λht=>?_
   obtain ⟨x,hx,he⟩:=Eo.1 ht
   have:=h x hx
   have:=Ia he
   omega
theorem Af6 {m:Nat} {x:Int} (hm:m<2^20) (h0:0<=x) (h1:x<20):
  IntKind.i64.wrap (((BitVec.ofInt IntKind.i64.bits (m:Int)|||BitVec.ofInt IntKind.i64.bits (IntKind.i64.wrap ((1:Int)*(2:Int)^min x.toNat IntKind.i64.bits))).toNat:Nat):Int)=((m|||2^x.toNat:Nat):Int):=by
 have hx:(2:Nat)^x.toNat<2^20:=Nat.pow_lt_pow_right (by omega) (by omega)
 have e1:min x.toNat IntKind.i64.bits=x.toNat:=by show min x.toNat 64=_;omega
 have e2:(1:Int)*(2:Int)^x.toNat=((2^x.toNat:Nat):Int):=by rw [Int.one_mul];exact (Int.natCast_pow 2 _).symm
 rw [e1,e2,Cj (n:=((2^x.toNat:Nat):Int)) (by have:(0:Int)<=((2^x.toNat:Nat):Int):=Int.natCast_nonneg _;omega) (by omega)]
 show IntKind.i64.wrap (((BitVec.ofInt 64 (m:Int)|||BitVec.ofInt 64 ((2^x.toNat:Nat):Int)).toNat:Nat):Int)=_
 rw [BitVec.ofInt_natCast,BitVec.ofInt_natCast,BitVec.toNat_or,BitVec.toNat_ofNat,BitVec.toNat_ofNat,Nat.mod_eq_of_lt (by omega),Nat.mod_eq_of_lt (by omega)]
 have:=Nat.or_lt_two_pow hm hx
 exact Cj (by omega) (by omega)
theorem AB (p:List Int) (h:short p):fnW Gz (look [(65,Ct),(152,Qu)]) Je Try.f169 (p,()) (λ(z:Bool)=>z=Ki p):=by
 have hs:=h
 unfold short at h
 refine Eq.mp (CR p _) ⟨_,Ab trivial,⟨λhp=>?_,λhp=>?_⟩⟩
 ·have hp:=Is hp
  rw [Fe] at hp
  dsimp only at hp
  exact Dl λhh=>hp ⟨by omega,by omega⟩
 ·have hp:=Kg hp
  rw [Fe] at hp
  dsimp only at hp
  refine Cg p.length (λv=>v.1) (λj _=>DL p.length p j) rfl (λj _ hj=>absurd hj (Et _)) ?_
  rintro j ⟨i,⟨⟩⟩ K hj hi hR hK
  dsimp only at hi⊢
  subst hi
  refine Br.dec (λhl=>?_) λhl=>?_
  ·have hl:j<p.length:=by omega
   refine ⟨_,Cf hl,_,Ab trivial,⟨λhq=>?_,λhq=>?_⟩⟩
   ·have hq:=Is hq
    rw [Fe,Cj (by omega) (by omega)] at hq
    exact Dl λhh=>hq ⟨(hh.2.2 j hl hl).1,(hh.2.2 j hl hl).2.1⟩
   ·have hq:=Kg hq
    rw [Fe,Cj (by omega) (by omega)] at hq
    refine ⟨⟨by omega,by omega,by omega⟩,_,Cf hl,?_⟩
    rw [show (Int.toNat 0)=0 from rfl,Du,Ac]
    refine ⟨_,Ab (OF hs j),⟨λhc=>?_,λhc=>?_⟩⟩
    ·have hc:decide (p[j]∈p.take j)=true:=hc
     rw [Jj] at hc
     exact Dl λhh=>(hh.2.2 j hl hl).2.2 hc
    ·have hc:decide (p[j]∈p.take j)=false:=hc
     rw [decide_eq_false_iff_not] at hc
     rw [Cb (by omega)]
     exact hK hl _ rfl (Ae1 hl hR hq.1 hq.2 hc)
  ·have:j=p.length:=by omega
   subst this
   exact Nx ⟨by omega,by omega,hR⟩
theorem Zb:Sound Try.prog 169 Je:=
 Sound.Hg Ff (Ba Qz (Ba oz Cc)) mixed Try.func169 (by kernel_rfl) (by kernel_rfl) λx h=>AB x.1 h
theorem zY (p:List Int) (h:short p):fnW Gz (look [(94,Ct),(140,To)]) Je Try.f141 (p,()) (λ(z:Bool)=>z=Ki p):=by
 unfold short at h
 refine Eq.mp (CO p _) ⟨_,Ab trivial,_,Ab trivial,⟨λhp=>?_,λhp=>?_⟩⟩
 ·have hp:=Is hp
  rw [Fe] at hp
  dsimp only at hp
  exact Dl λhh=>hp ⟨by omega,by omega⟩
 ·have hp:=Kg hp
  rw [Fe] at hp
  dsimp only at hp
  refine Cg p.length (λv=>v.2.1) (λj v=>v.1=(mask (p.take j):Int)/\ ∀x∈p.take j,0<=x/\x<p.length) rfl ⟨rfl,by simp⟩ ?_
  rintro j ⟨m,i,⟨⟩⟩ K hj hi ⟨hm,hR⟩ hK
  dsimp only at hi hm⊢
  subst hi hm
  refine Br.dec (λhl=>?_) λhl=>?_
  ·have hl:j<p.length:=by omega
   refine ⟨_,Cf hl,_,Ab trivial,_,Ab trivial,⟨λhq=>?_,λhq=>?_⟩⟩
   ·have hq:=Is hq
    rw [Fe] at hq
    dsimp only at hq
    rw [Cj (by omega) (by omega)] at hq
    exact Dl λhh=>hq ⟨(hh.2.2 j hl hl).1,(hh.2.2 j hl hl).2.1⟩
   ·have hq:=Kg hq
    rw [Fe] at hq
    dsimp only at hq
    rw [Cj (by omega) (by omega)] at hq
    refine ⟨by omega,?_⟩
    rw [Cb (by omega)]
    have hb:mask (p.take j)<2^20:=Af2 λx hx=>by have:=hR x hx;omega
    refine hK hl _ rfl ⟨?_,?_⟩
    ·dsimp only
     rw [Af6 hb hq.1 (by omega),Ej hl,UJ]
    ·rw [Ej hl]
     intro x hx
     rcases Az.1 hx with hx|hx
     ·exact hR x hx
     ·rw [Af.1 hx];omega
  ·have:j=p.length:=by omega
   subst this
   rw [Bh] at hR⊢
   refine ⟨by omega,?_⟩
   have hx:(2:Nat)^p.length<=2^20:=Nat.pow_le_pow_right (by omega) (by omega)
   have vW:0<(2:Nat)^p.length:=Nat.two_pow_pos _
   have e1:min (p.length:Int).toNat IntKind.i64.bits=p.length:=by show min (p.length:Int).toNat 64=_;omega
   have e2:(1:Int)*(2:Int)^p.length=((2^p.length:Nat):Int):=by rw [Int.one_mul];exact (Int.natCast_pow 2 _).symm
   rw [e1,e2,Cj (n:=((2^p.length:Nat):Int)) (by omega) (by omega),Cj (by omega) (by omega)]
   have hE:((mask p:Int)==((2^p.length:Nat):Int)-1)=decide (mask p=2^p.length-1):=by
    rw [Bool.eq_iff_iff,beq_iff_eq,Jj]
    omega
   show ((mask p:Int)==((2^p.length:Nat):Int)-1)=Ki p
   rw [hE]
   by_cases hf:mask p=2^p.length-1
   ·rw [Bp hf]
    have hn:=(dr hR).1 ((xP hR).1 hf)
    refine Nx ⟨by omega,by omega,λj hj _=>?_⟩
    have:=hR _ (Am hj)
    exact ⟨this.1,by omega,hn j hj⟩
   ·rw [Eu hf]
    refine Dl λhh=>hf ((xP hR).2 ((dr hR).2 λj hj=>(hh.2.2 j hj hj).2.2))
theorem eQ:Sound Try.prog 141 Je:=
 Sound.Hg Ff (Ba Tb (Ba gf Cc)) mixed Try.func141 (by kernel_rfl) (by kernel_rfl) λx h=>zY x.1 h
theorem AA (n:Int) (g:List (List Int)) (h:bd g):fnW Gz (look [(65,Ct),(169,Je)]) Qm Try.f115 (n,g,()) (λ(z:Bool)=>z=a5 n g):=by
 obtain ⟨h,h4⟩:=h
 refine Eq.mp (CQ n g _) ⟨_,Ab trivial,⟨λhp=>?_,λhp=>?_⟩⟩
 ·have hp:=Is hp
  rw [Fe] at hp
  exact Dl λhh=>hp hh.1
 ·have hp:=Kg hp
  rw [Fe] at hp
  refine Br.dec (λhg=>?_) λhg=>?_
  ·exact Dl λhh=>by have:=hh.2.1;omega
  ·refine Cg g.length (λv=>v.1) (λj _=> ∀p∈g.take j,He n p=true) rfl (by simp) ?_
   rintro j ⟨i,⟨⟩⟩ K hj hi hR hK
   dsimp only at hi⊢
   subst hi
   refine Br.dec (λhl=>?_) λhl=>?_
   ·have hl:j<g.length:=by omega
    have hm:g[j]∈g:=Am hl
    refine ⟨_,Cf hl,⟨λhe=>?_,λhe=>?_⟩⟩
    ·simp only [bne_iff_ne,ne_eq] at he
     exact Dl λhh=>he (Gk.1 (hh.2.2 _ hm)).1
    ·simp only [bne_eq_false_iff_eq] at he
     refine ⟨_,Cf hl,_,Ab (h4 _ hm),⟨λhq=>?_,λhq=>?_⟩⟩
     ·have hq:=Is hq
      exact Dl λhh=>hq (Gk.1 (hh.2.2 _ hm)).2
     ·have hq:=Kg hq
      rw [Cb (by omega)]
      refine hK hl _ rfl ?_
      rw [Ej hl]
      intro x hx
      rcases Az.1 hx with hx|hx
      ·exact hR x hx
      ·rw [Af.1 hx];exact Gk.2 ⟨he,hq⟩
   ·have:j=g.length:=by omega
    subst this
    rw [Bh] at hR
    exact Nx ⟨hp,by omega,hR⟩
theorem pV:Sound Try.prog 115 Qm:=
 Sound.Hg Ff (Ba Qz (Ba Zb Cc)) mixed Try.func115 (by kernel_rfl) (by kernel_rfl) λx h=>AA x.1 x.2.1 h
theorem Af9 (p:List Int) (n:Int) (h:short p):fnW Gz (look [(140,To),(141,Je)]) kD Try.f206 (p,n,()) (λ(z:Bool)=>z=!He n p):=by
 refine Eq.mp (Ag3 p n _) ⟨_,Ab trivial,⟨λhe=>?_,λhe=>⟨_,Ab h,?_⟩⟩⟩
 ·simp only [bne_iff_ne,ne_eq] at he
  have:He n p=false:=Ae0.2 λhh=>he hh.1
  rw [this];rfl
 ·simp only [bne_eq_false_iff_eq] at he
  show (!Ki p)=_
  congr 1
  cases hp:Ki p with
  |true=>exact Nx ⟨he,hp⟩
  |false=>exact Dl λhh=>by rw [hh.2] at hp;cases hp
theorem IF:Sound Try.prog 206 kD:=
 Sound.Hg Ff (Ba gf (Ba eQ Cc)) mixed Try.func206 (by kernel_rfl) (by kernel_rfl) λx h=>Af9 x.1 x.2.1 h
theorem qG {α:Type} (P:α->Bool): ∀(l:List α) (i:Int),0<=i->(0<=Gr P l i↔l.any P=true)
 | [],i,_=>by simp [Gr]
 |y::r,i,h=>by
  simp only [Gr,List.any_cons,Ks]
  split
  ·rename_i hy;simp [hy,h]
  ·rename_i hy;rw [qG P r (i+1) (by omega)];simp [hy]
theorem Apq (g:List (List Int)) (n:Int×Unit) (h:bd g):fnW Gz (look [(206,kD)]) yj Try.f197 (g,n,()) (λ(z:Int)=>z=Gr (λp=>!He n.1 p) g 0):=by
 obtain ⟨h,h4⟩:=h
 refine Eq.mp (Aq8 g n _) ?_
 refine Cg g.length (λv=>v.1) (λj _=>Gr (λp=>!He n.1 p) (g.drop j) j=Gr (λp=>!He n.1 p) g 0) rfl (by simp) ?_
 rintro j ⟨i,⟨⟩⟩ K hj hi hR hK
 dsimp only at hi⊢
 subst hi
 refine Br.dec (λhl=>?_) λhl=>?_
 ·have hl:j<g.length:=by omega
  rw [Hp hl] at hR
  simp only [Gr] at hR
  refine ⟨_,Cf hl,_,Ab (h4 _ (Am hl)),⟨λhe=>?_,λhe=>?_⟩⟩
  ·have he:(!He n.1 g[j])=true:=he
   rw [Ab he] at hR
   exact hR
  ·have he:(!He n.1 g[j])=false:=he
   rw [Ai (by rw [he];decide)] at hR
   rw [Cb (by omega)]
   exact hK hl _ rfl (by push_cast;exact hR)
 ·have:j=g.length:=by omega
  subst this
  rw [Zg] at hR
  exact hR
theorem VV:Sound Try.prog 197 yj:=
 Sound.Hg Ff (Ba IF Cc) mixed Try.func197 (by kernel_rfl) (by kernel_rfl) λx h=>Apq x.1 x.2.1 h
theorem Apm (g:List (List Int)) (n:Int×Unit) (h:bd g):fnW Gz (look [(197,yj)]) yg Try.f205 (g,n,()) (λ(z:Bool)=>z=List.any g (λp=>!He n.1 p)):=by
 refine Eq.mp (Aq5 g n _) ⟨_,Ab h,?_⟩
 rw [Bool.eq_iff_iff,Jj]
 exact qG _ g 0 (Ok 0)
theorem VS:Sound Try.prog 205 yg:=
 Sound.Hg Ff (Ba VV Cc) mixed Try.func205 (by kernel_rfl) (by kernel_rfl) λx h=>Apm x.1 x.2.1 h
theorem zX (n:Int) (g:List (List Int)) (h:bd g):fnW Gz (look [(94,Ct),(205,yg)]) Qm Try.f173 (n,g,()) (λ(z:Bool)=>z=a5 n g):=by
 refine Eq.mp (CN n g _) ⟨_,Ab trivial,⟨λhp=>?_,λhp=>?_⟩⟩
 ·have hp:Mr n 1 20=true:=hp
  rw [Fe] at hp
  refine Br.dec (λhl=>⟨_,Ab h,?_⟩) λhl=>?_
  ·show (!List.any g (λp=>!He n p))=a5 n g
   cases ha:List.any g (λp=>!He n p) with
   |true=>
    obtain ⟨p,xx,RD⟩:=Eo.1 ha
    exact Dl λhh=>by rw [hh.2.2 p xx] at RD;cases RD
   |false=>
    refine Nx ⟨hp,by omega,λp hm=>?_⟩
    have:=List.any_eq_false.1 ha p hm
    simpa using this
  ·exact Dl λhh=>by have:=hh.2.1;omega
 ·refine Dl λhh=>?_
  have:Mr n 1 20=true:=Fe.2 hh.1
  have hp:Mr n 1 20=false:=hp
  rw [this] at hp;cases hp
theorem pU:Sound Try.prog 173 Qm:=
 Sound.Hg Ff (Ba Tb (Ba VS Cc)) mixed Try.func173 (by kernel_rfl) (by kernel_rfl) λx h=>zX x.1 x.2.1 h
theorem Nh {s:ByteArray} {k:Nat} (h:k<s.size):s[k]?=some s[k]:=getElem?_pos s k h
theorem Aba (s:ByteArray) (i:Int) (h:0<=i/\i<s.size/\s.size<=4294967296):fnW Gz (look []) eJ Try.f116 (s,i,()) (λ(z:Bool)=>z=o5 s i):=by
 obtain ⟨h1,h2,h3⟩:=h
 have hi:i.toNat<s.size:=by omega
 refine Eq.mp (Acy s i _) ⟨h1,_,Nh hi,Br.dec (λhq=>?_) λhq=>⟨h1,_,Nh hi,Br.dec (λhr=>?_) λhr=>?_⟩⟩
 ·refine Dl λ⟨c,hc,XJ,_⟩=>?_
  rw [Nh hi] at hc;cases hc;omega
 ·refine Dl λ⟨c,hc,_,XJ,_⟩=>?_
  rw [Nh hi] at hc;cases hc;omega
 ·refine Cg i.toNat (λv=>v.1) (λj _=> ∀k,k<j->s[k]?≠some s[i.toNat]) rfl (λk hk=>absurd hk (Et _)) ?_
  rintro j ⟨i',⟨⟩⟩ K hj cM hR hK
  dsimp only at cM⊢
  subst cM
  refine Br.dec (λhl=>?_) λhl=>?_
  ·have hl:j<i.toNat:=by omega
   have hj:j<s.size:=by omega
   rw [Ac]
   refine ⟨by omega,_,Nh hj,h1,_,Nh hi,⟨λhe=>?_,λhe=>?_⟩⟩
   ·simp only [beq_iff_eq,bl] at he
    refine Dl λ⟨c,hc,_,_,XJ⟩=>?_
    rw [Nh hi] at hc;cases hc
    exact XJ j hl (by rw [Nh hj,UInt8.toNat_inj.1 he])
   ·simp only [Rr,ne_eq,bl] at he
    rw [Cb (by omega)]
    refine hK hl _ rfl λk hk=>?_
    by_cases e:k=j
    ·subst e
     rw [Nh hj]
     exact λe=>he (by rw [Bd e])
    ·exact hR k (by omega)
  ·have:j=i.toNat:=by omega
   subst this
   exact Nx ⟨_,Nh hi,by omega,by omega,hR⟩
theorem BF:Sound Try.prog 116 eJ:=
 Sound.Hg Ff Cc mixed Try.func116 (by kernel_rfl) (by kernel_rfl) λx h=>Aba x.1 x.2.1 h
theorem UY (s:ByteArray) (h:s.size<=4294967296):fnW Gz (look [(94,Ct)]) bw Try.f174 (s,()) (λ(z:Bool)=>z=bq s):=by
 refine Eq.mp (WT s _) ?_
 refine Cg s.size (λv=>v.1) (λj _=> ∀k,k<j->yG s k) rfl (λk hk=>absurd hk (Et _)) ?_
 rintro j ⟨i,⟨⟩⟩ K hj hi hR hK
 dsimp only at hi⊢
 subst hi
 refine Br.dec (λhl=>?_) λhl=>?_
 ·have hl:j<s.size:=by omega
  rw [Ac]
  have hb:=(s[j]).toNat_lt
  refine ⟨by omega,_,Nh hl,_,Ab trivial,⟨λhq=>?_,λhq=>?_⟩⟩
  ·have hq:=Is hq
   rw [Fe] at hq
   dsimp only at hq
   rw [Cj (by omega) (by omega)] at hq
   refine Dl λhh=>?_
   obtain ⟨c,hc,XJ,hc2,_⟩:=hh.2 j hl
   rw [Nh hl] at hc;cases hc
   exact hq ⟨by omega,by omega⟩
  ·have hq:=Kg hq
   rw [Fe] at hq
   dsimp only at hq
   rw [Cj (by omega) (by omega)] at hq
   refine Cg j (λv=>v.1) (λm _=> ∀k,k<m->s[k]?≠some s[j]) rfl (λk hk=>absurd hk (Et _)) ?_
   rintro m ⟨i',⟨⟩⟩ K' hm cM hR' hK'
   dsimp only at cM⊢
   subst cM
   refine Br.dec (λLl=>?_) λLl=>?_
   ·have Ll:m<j:=by omega
    have hm':m<s.size:=by omega
    rw [Ac]
    refine ⟨by omega,_,Nh hm',by omega,_,Nh hl,⟨λhe=>?_,λhe=>?_⟩⟩
    ·simp only [beq_iff_eq,bl] at he
     refine Dl λhh=>?_
     obtain ⟨c,hc,_,_,XJ⟩:=hh.2 j hl
     rw [Nh hl] at hc;cases hc
     exact XJ m Ll (by rw [Nh hm',UInt8.toNat_inj.1 he])
    ·simp only [Rr,ne_eq,bl] at he
     rw [Cb (by omega)]
     refine hK' Ll _ rfl λk hk=>?_
     by_cases e:k=m
     ·subst e
      rw [Nh hm']
      exact λe=>he (by rw [Bd e])
     ·exact hR' k (by omega)
   ·have:m=j:=by omega
    subst this
    rw [Cb (by omega)]
    refine hK hl _ rfl λk hk=>?_
    by_cases e:k=m
    ·subst e
     exact ⟨_,Nh hl,by omega,by omega,hR'⟩
    ·exact hR k (by omega)
 ·have:j=s.size:=by omega
  subst this
  refine ⟨_,Ab trivial,?_⟩
  show Mr s.size 1 8=_
  cases hr:Mr s.size 1 8 with
  |true=>rw [Fe] at hr;exact Nx ⟨by omega,hR⟩
  |false=>refine Dl λhh=>?_;rw [Fe.2 ⟨by omega,by omega⟩] at hr;cases hr
theorem wG:Sound Try.prog 174 bw:=
 Sound.Hg Ff (Ba Tb Cc) mixed Try.func174 (by kernel_rfl) (by kernel_rfl) λx h=>UY x.1 h
theorem PC {p:PP} (h:Cd p=true):1<=p.1/\p.1<=20/\1<=p.2.2.1.length/\p.2.2.1.length<=8:=by
 obtain ⟨h1,h2,h3⟩:=Gk.1 h
 obtain ⟨h4,h5,_⟩:=Gk.1 h1
 obtain ⟨h6,_⟩:=Gk.1 h2
 omega
theorem AD (p:PP) (h:Gb p):fnW Gz (look [(115,Qm),(116,eJ)]) Jf Try.f47 (p,()) (λ(z:Bool)=>z=Cd p):=by
 obtain ⟨hn,hg⟩:=h
 refine Eq.mp (CS p _) ⟨λh0=>?_,λh0=>⟨λh1=>?_,λh1=>⟨_,Ab hg,⟨λh2=>?_,λh2=>?_⟩⟩⟩⟩
 ·simp only [beq_iff_eq] at h0
  exact Dl λhh=>by obtain ⟨_,h2,h3⟩:=hh;have:=(Gk.1 h2).1;omega
 ·simp only [bne_iff_ne,ne_eq,bl] at h1
  exact Dl λhh=>h1 hh.2.2
 ·have h2:=Is h2
  exact Dl λhh=>h2 hh.1
 ·simp only [Rr,ne_eq] at h0
  simp only [bne_eq_false_iff_eq,bl] at h1
  have h2:a5 p.1 p.2.2.1=true:=Kg h2
  refine Cg p.2.1.size (λv=>v.1) (λj v=>v.2=(p.1,p.2.1,p.2.2.1,())/\ ∀k,k<j->yG p.2.1 k) rfl ⟨rfl,λk hk=>absurd hk (Et _)⟩ ?_
  rintro j ⟨i,v⟩ K hj hi ⟨hv,hR⟩ hK
  dsimp only at hi hv⊢
  subst hi hv
  dsimp only
  refine Br.dec (λhl=>?_) λhl=>?_
  ·have hl:j<p.2.1.size:=by omega
   refine ⟨_,Ab ⟨Int.natCast_nonneg j,Int.ofNat_lt.2 hl,hn⟩,⟨λhq=>?_,λhq=>?_⟩⟩
   ·have hq: ¬o5 p.2.1 j=true:=Is hq
    refine Dl λhh=>hq (Gk.2 ?_)
    rw [Ac]
    exact (Gk.1 hh.2.1).2 j hl
   ·have hq:o5 p.2.1 j=true:=Kg hq
    have hq:=Gk.1 hq
    rw [Ac] at hq
    rw [Cb (by omega)]
    refine hK hl _ rfl ⟨rfl,λk hk=>?_⟩
    by_cases e:k=j
    ·subst e;exact hq
    ·exact hR k (by omega)
  ·have:j=p.2.1.size:=by omega
   subst this
   have:=(Gk.1 h2).2.1
   exact Nx ⟨h2,Gk.2 ⟨⟨by omega,by omega⟩,hR⟩,h1⟩
theorem Zc:Sound Try.prog 47 Jf:=
 Sound.Hg Ff (Ba pV (Ba BF Cc)) mixed Try.func47 (by kernel_rfl) (by kernel_rfl) λx h=>AD x.1 h
theorem zZ (p:PP) (h:Gb p):fnW Gz (look [(173,Qm),(174,bw)]) Jf Try.f119 (p,()) (λ(z:Bool)=>z=Cd p):=by
 obtain ⟨hn,hg⟩:=h
 refine Eq.mp (CP p _) ⟨_,Ab hg,⟨λh1=>⟨_,Ab hn,⟨λh2=>?_,λh2=>?_⟩⟩,λh1=>?_⟩⟩
 ·have h1:a5 p.1 p.2.2.1=true:=h1
  have h2:bq p.2.1=true:=h2
  by_cases e:p.2.1.size=p.2.2.1.length
  ·rw [e,beq_self_eq_true];exact Nx ⟨h1,h2,e⟩
  ·rw [show ((p.2.1.size:Int)==(p.2.2.1.length:Int))=false from Rr.2 (by omega)];exact Dl λhh=>e hh.2.2
 ·have h2:bq p.2.1=false:=h2
  exact Dl λhh=>by rw [hh.2.1] at h2;cases h2
 ·have h1:a5 p.1 p.2.2.1=false:=h1
  exact Dl λhh=>by rw [hh.1] at h1;cases h1
theorem eR:Sound Try.prog 119 Jf:=
 Sound.Hg Ff (Ba pU (Ba wG Cc)) mixed Try.func119 (by kernel_rfl) (by kernel_rfl) λx h=>zZ x.1 h
theorem s5 {a b:Bool} :(a&&b)=dec (a=true/\b=true):=by
 cases ha:a<;>cases hb:b
 ·exact Dl (by simp)
 ·exact Dl (by simp)
 ·exact Dl (by simp)
 ·exact Nx ⟨rfl,rfl⟩
theorem pI (p:PP) (xs:List Int) (h:Gb p/\short xs):fnW Gz (look [(47,Jf),(162,Ko)]) Jn Try.f183 (p,xs,()) (λ(z:Bool)=>z=Cw p xs):=by
 refine Eq.mp (q9 p xs _) ⟨_,Ab h.1,⟨λh1=>⟨_,Ab ⟨⟨by omega,by have:=h.1.2.1;dsimp only;omega⟩,h.2⟩,?_⟩,λh1=>?_⟩⟩
 ·have h1:Cd p=true:=h1
  show Se p.2.2.1.length xs=_
  rw [Cw,<-s5,h1,Kt]
 ·have h1:Cd p=false:=h1
  rw [Cw,<-s5,h1,Qg]
theorem jF:Sound Try.prog 183 Jn:=
 Sound.Hg Ff (Ba Zc (Ba oB Cc)) mixed Try.func183 (by kernel_rfl) (by kernel_rfl) λx h=>pI x.1 x.2.1 h
theorem pH (p:PP) (xs:List Int) (h:Gb p/\short xs):fnW Gz (look [(119,Jf),(93,Ko),(95,Uv)]) Jn Try.f164 (p,xs,()) (λ(z:Bool)=>z=Cw p xs):=by
 refine Eq.mp (q8 p xs _) ⟨_,Ab h.1,⟨λh1=>⟨_,Ab trivial,_,Ab ⟨⟨by dsimp only;omega,by have:=h.1.2.1;dsimp only;omega⟩,h.2⟩,?_⟩,λh1=>?_⟩⟩
 ·have h1:Cd p=true:=h1
  show Se p.2.2.1.length xs=_
  rw [Cw,<-s5,h1,Kt]
 ·have h1:Cd p=false:=h1
  rw [Cw,<-s5,h1,Qg]
theorem jD:Sound Try.prog 164 Jn:=
 Sound.Hg Ff (Ba eR (Ba rT (Ba jE Cc))) mixed Try.func164 (by kernel_rfl) (by kernel_rfl) λx h=>pH x.1 x.2.1 h
noncomputable abbrev eK:Spec:=Hg (.pair tI (.pair tL .unit)) .bool false true (λx=>short x.2.1) (λx=>He x.1 x.2.1)
noncomputable abbrev Yw:Spec:=Hg (.pair Iw (.pair tL .unit)) .bool false true (λx=>short x.2.1) (λx=>He x.1.1 x.2.1)
noncomputable abbrev Lb:Spec:=Hg (.pair Iw (.pair tL .unit)) .bool false true (λx=>Gb x.1/\short x.2.1) (λx=>Cd x.1&&He x.1.1 x.2.1)
theorem Acz (n:Int) (s:List Int) (P:Bool->Prop):(Br ((↑s.length:Int)==n) (∃(y3:Bool),Je.fn (s,())=some y3/\P y3) (P false))=fnW Gz (look [(169,Je)]) eK Try.f148 (n,s,()) P:=by kernel_rfl
theorem vE (p:Int×ByteArray×List (List Int)×Unit) (s:List Int) (P:Bool->Prop):(∃(y3:Int),To.fn (s,())=some y3/\Br (y3==p.1) (∃(y4:Bool),Je.fn (s,())=some y4/\P y4) (P false))=fnW Gz (look [(140,To),(141,Je)]) Yw Try.f67 (p,s,()) P:=by kernel_rfl
theorem wX (p:Int×ByteArray×List (List Int)×Unit) (s:List Int) (P:Bool->Prop):(∃(y3:Bool),Jf.fn ((p.1,p.2.1,p.2.2.1,()),())=some y3/\Br y3 (∃(y4:Bool),eK.fn (p.1,s,())=some y4/\P y4) (P false))=fnW Gz (look [(47,Jf),(148,eK)]) Lb Try.f73 (p,s,()) P:=by kernel_rfl
theorem Abb (n:Int) (s:List Int) (h:short s):fnW Gz (look [(169,Je)]) eK Try.f148 (n,s,()) (λ(z:Bool)=>z=He n s):=by
 refine Eq.mp (Acz n s _) ⟨λhe=>⟨_,Ab h,?_⟩,λhe=>?_⟩
 ·simp only [beq_iff_eq] at he
  show Ki s=_
  cases hp:Ki s with
  |true=>exact Nx ⟨he,hp⟩
  |false=>exact Dl λhh=>by rw [hh.2] at hp;cases hp
 ·simp only [Rr,ne_eq] at he
  exact Dl λhh=>he hh.1
theorem BG:Sound Try.prog 148 eK:=
 Sound.Hg Ff (Ba Zb Cc) mixed Try.func148 (by kernel_rfl) (by kernel_rfl) λx h=>Abb x.1 x.2.1 h
theorem uh (p:PP) (s:List Int) (h:short s):fnW Gz (look [(140,To),(141,Je)]) Yw Try.f67 (p,s,()) (λ(z:Bool)=>z=He p.1 s):=by
 refine Eq.mp (vE p s _) ⟨_,Ab trivial,⟨λhe=>⟨_,Ab h,?_⟩,λhe=>?_⟩⟩
 ·simp only [beq_iff_eq] at he
  show Ki s=_
  cases hp:Ki s with
  |true=>exact Nx ⟨he,hp⟩
  |false=>exact Dl λhh=>by rw [hh.2] at hp;cases hp
 ·simp only [Rr,ne_eq] at he
  exact Dl λhh=>he hh.1
theorem mL:Sound Try.prog 67 Yw:=
 Sound.Hg Ff (Ba gf (Ba eQ Cc)) mixed Try.func67 (by kernel_rfl) (by kernel_rfl) λx h=>uh x.1 x.2.1 h
theorem wu (p:PP) (s:List Int) (h:Gb p/\short s):fnW Gz (look [(47,Jf),(148,eK)]) Lb Try.f73 (p,s,()) (λ(z:Bool)=>z=(Cd p&&He p.1 s)):=by
 refine Eq.mp (wX p s _) ⟨_,Ab h.1,⟨λhe=>⟨_,Ab h.2,?_⟩,λhe=>?_⟩⟩
 ·have he:Cd p=true:=he
  rw [he];rfl
 ·have he:Cd p=false:=he
  rw [he];rfl
theorem Rl:Sound Try.prog 73 Lb:=
 Sound.Hg Ff (Ba Zc (Ba BG Cc)) mixed Try.func73 (by kernel_rfl) (by kernel_rfl) λx h=>wu x.1 x.2.1 h
def Cu (xs:List Int) (i:Int):Int:=xs.getD i.toNat 0
def Ak (p q:List Int):List Int:=p.map (Cu q)
def cH (f:Nat->Nat) (g:Nat->Int) (m:Nat) (init:List Int):List Int:=(List.range m).foldl (λ(out:List Int) (i:Nat)=>out.set (f i) (g i)) init
def Bw (p:List Int):List Int:=cH (λi=>(Cu p (i:Int)).toNat) (λi=>(i:Int)) p.length (List.replicate p.length 0)
def Sd (n:Nat) (p:List Int):Prop:= ∀y∈p,0<=y/\y<n
noncomputable abbrev La:Spec:=Hg (.pair tL (.pair tL .unit)) tL false true (λx=>List.length x.1<=20/\Sd (List.length x.2.1) x.1) (λx=>Ak x.1 x.2.1)
noncomputable abbrev Hs:Spec:=Hg (.pair tL .unit) tL false true (λx=>List.length x.1<=20/\Sd (List.length x.1) x.1) (λx=>Bw x.1)
noncomputable abbrev Dn:Spec:=Hg (.pair tI .unit) tL false true (λx=>0<=x.1/\x.1<=20) (λx=>upto x.1.toNat)
noncomputable abbrev Qx:Spec:=Hg (.pair tL .unit) tL false true (λx=>Ki x.1=true) (λx=>Bw x.1)
def Av (g:List (List Int)) (l:Int):List Int:=if l>0 then g.getD (l-1).toNat [] else Bw (g.getD (-l-1).toNat [])
def Fy (n:Int) (l:Int):Prop:=l≠0/\ -n<=l/\l<=n
noncomputable abbrev Ma:Spec:=Hg (.pair yz (.pair tI .unit)) tL false false (λx=>Fy (List.length x.1) x.2.1/\List.length x.1<=8/\ ∀p∈x.1,Ki p=true) (λx=>Av x.1 x.2.1)
def Ao (n:Nat):List Int:=(List.range n).flatMap λ(k:Nat)=> [(k:Int)+1,-((k:Int)+1)]
noncomputable abbrev Iv:Spec:=Hg (.pair tI .unit) tL false true (λx=>0<=x.1/\x.1<=8) (λx=>Ao x.1.toNat)
noncomputable abbrev eH:Spec:=Hg (.pair Iw (.pair tL (.pair tI .unit))) tL false true (λx=>Cd x.1=true/\List.length x.2.1<=20/\(∀y∈x.2.1,0<=y/\y<x.1.1)/\Fy (List.length x.1.2.2.1) x.2.2.1) (λx=>Ak x.2.1 (Av x.1.2.2.1 x.2.2.1))
theorem wS (p q:List Int) (P:List Int->Prop):(((0:Int)<=(↑p.length:Int)/\(↑p.length:Int)<(↑Dt:Int)+(1:Int))/\(↑p.length:Int)=(↑p.length:Int)/\0=0/\(List.replicate (↑p.length:Int).toNat (Int.ofNat (nat_lit 0))).length=(List.replicate (↑p.length:Int).toNat (Int.ofNat (nat_lit 0))).length/\Ea (λ(v3:Int×List Int×PUnit) (k4:Int×List Int×PUnit->Prop)=>Br (decide (v3.1<(↑p.length:Int))) (∃(y5:Int),idx p v3.1=some y5/\ ∃(y6:Int),idx q y5=some y6/\((0:Int)<=v3.1/\v3.1<(↑v3.2.1.length:Int))/\0+v3.1.toNat<v3.2.1.length/\0=0/\v3.2.1.length=(v3.2.1.set (0+v3.1.toNat) y6).length/\k4 (IntKind.i64.wrap (v3.1+(1:Int)),v3.2.1.set (0+v3.1.toNat) y6,())) (P (List.take v3.2.1.length (List.drop 0 v3.2.1)))) ((0:Int),List.replicate (↑p.length:Int).toNat (Int.ofNat (nat_lit 0)),PUnit.unit))=fnW Gz (look []) La Try.f142 (p,q,()) P:=by kernel_rfl
theorem wT (p:List Int) (P:List Int->Prop):(((0:Int)<=(↑p.length:Int)/\(↑p.length:Int)<(↑Dt:Int)+(1:Int))/\(↑p.length:Int)=(↑p.length:Int)/\0=0/\(List.replicate (↑p.length:Int).toNat (Int.ofNat (nat_lit 0))).length=(List.replicate (↑p.length:Int).toNat (Int.ofNat (nat_lit 0))).length/\Ea (λ(v2:Int×List Int×PUnit) (k3:Int×List Int×PUnit->Prop)=>Br (decide (v2.1<(↑p.length:Int))) (∃(y4:Int),idx p v2.1=some y4/\((0:Int)<=y4/\y4<(↑v2.2.1.length:Int))/\0+y4.toNat<v2.2.1.length/\0=0/\v2.2.1.length=(v2.2.1.set (0+y4.toNat) v2.1).length/\k3 (IntKind.i64.wrap (v2.1+(1:Int)),v2.2.1.set (0+y4.toNat) v2.1,())) (P (List.take v2.2.1.length (List.drop 0 v2.2.1)))) ((0:Int),List.replicate (↑p.length:Int).toNat (Int.ofNat (nat_lit 0)),PUnit.unit))=fnW Gz (look []) Hs Try.f143 (p,()) P:=by kernel_rfl
theorem WZ (p:List Int) (P:List Int->Prop):(((0:Int)<=(↑p.length:Int)/\(↑p.length:Int)<(↑Dt:Int)+(1:Int))/\(↑p.length:Int)=(↑p.length:Int)/\0=0/\(List.replicate (↑p.length:Int).toNat (Int.ofNat (nat_lit 0))).length=(List.replicate (↑p.length:Int).toNat (Int.ofNat (nat_lit 0))).length/\Ea (λ(v2:Int×List Int×PUnit) (k3:Int×List Int×PUnit->Prop)=>Br (decide (v2.1<(↑p.length:Int))) (∃(y4:Int),idx p v2.1=some y4/\((0:Int)<=y4/\y4<(↑v2.2.1.length:Int))/\0+y4.toNat<v2.2.1.length/\0=0/\v2.2.1.length=(v2.2.1.set (0+y4.toNat) v2.1).length/\k3 (IntKind.i64.wrap (v2.1+(1:Int)),v2.2.1.set (0+y4.toNat) v2.1,())) (P (List.take v2.2.1.length (List.drop 0 v2.2.1)))) ((0:Int),List.replicate (↑p.length:Int).toNat (Int.ofNat (nat_lit 0)),PUnit.unit))=fnW Gz (look []) Hs Try.f190 (p,()) P:=by kernel_rfl
theorem wW (p:List Int) (P:List Int->Prop):(∃(y2:Bool),Je.fn (p,())=some y2/\Br (!y2) (P (List.take 0 (List.drop 0 []))) (∃(y3:List Int),Hs.fn (p,())=some y3/\P y3))=fnW Gz (look [(169,Je),(190,Hs)]) Qx Try.f187 (p,()) P:=by kernel_rfl
theorem PH (n:Int) (P:List Int->Prop):(0=0/\0=([]:List Int).length/\Ea (λ(v2:Int×List Int×PUnit) (k3:Int×List Int×PUnit->Prop)=>Br (decide (v2.1<n)) (0=0/\v2.2.1.length=v2.2.1.length/\v2.2.1.length+(List.take 1 (List.drop 0 [v2.1])).length<=Dt/\0=0/\(v2.2.1++List.take 1 (List.drop 0 [v2.1])).length=(v2.2.1++List.take 1 (List.drop 0 [v2.1])).length/\k3 (IntKind.i64.wrap (v2.1+(1:Int)),v2.2.1++List.take 1 (List.drop 0 [v2.1]),())) (P (List.take v2.2.1.length (List.drop 0 v2.2.1)))) ((0:Int),[],PUnit.unit))=fnW Gz (look []) Dn Try.f66 (n,()) P:=by kernel_rfl
theorem PM (g:List (List Int)) (l:Int) (P:List Int->Prop):(Br (decide (l>(0:Int))) (∃(y3:List Int),idx g (IntKind.i64.wrap (l-(1:Int)))=some y3/\P y3) (∃(y3:List Int),idx g (IntKind.i64.wrap (IntKind.i64.wrap ((0:Int)-l)-(1:Int)))=some y3/\ ∃(y4:List Int),Hs.fn (y3,())=some y4/\P y4))=fnW Gz (look [(143,Hs)]) Ma Try.f147 (g,l,()) P:=by kernel_rfl
theorem WV (n:Int) (P:List Int->Prop):(0=0/\0=([]:List Int).length/\Ea (λ(v2:Int×List Int×PUnit) (k3:Int×List Int×PUnit->Prop)=>Br (decide (v2.1<n)) (0=0/\v2.2.1.length=v2.2.1.length/\v2.2.1.length+(List.take 2 (List.drop 0 [IntKind.i64.wrap (v2.1+(1:Int)),IntKind.i64.wrap ((0:Int)-IntKind.i64.wrap (v2.1+(1:Int)))])).length<=Dt/\0=0/\(v2.2.1++List.take 2 (List.drop 0 [IntKind.i64.wrap (v2.1+(1:Int)),IntKind.i64.wrap ((0:Int)-IntKind.i64.wrap (v2.1+(1:Int)))])).length=(v2.2.1++List.take 2 (List.drop 0 [IntKind.i64.wrap (v2.1+(1:Int)),IntKind.i64.wrap ((0:Int)-IntKind.i64.wrap (v2.1+(1:Int)))])).length/\k3 (IntKind.i64.wrap (v2.1+(1:Int)),v2.2.1++List.take 2 (List.drop 0 [IntKind.i64.wrap (v2.1+(1:Int)),IntKind.i64.wrap ((0:Int)-IntKind.i64.wrap (v2.1+(1:Int)))]),())) (P (List.take v2.2.1.length (List.drop 0 v2.2.1)))) ((0:Int),[],PUnit.unit))=fnW Gz (look []) Iv Try.f121 (n,()) P:=by kernel_rfl
theorem Acr (p:Int×ByteArray×List (List Int)×Unit) (s:List Int) (l:Int) (P:List Int->Prop):(∃(y4:List Int),idx p.2.2.1 (IntKind.i64.wrap ((if true=true then if IntKind.i64.wrap ((0:Int)-l)>l then IntKind.i64.wrap ((0:Int)-l) else l else if IntKind.i64.wrap ((0:Int)-l)<l then IntKind.i64.wrap ((0:Int)-l) else l)-(1:Int)))=some y4/\Br (decide (l<(0:Int))) (∃(y5:List Int),Qx.fn (y4,())=some y5/\0=0/\0=([]:List Int).length/\Ea (λ(v6:Int×List Int×PUnit) (k7:Int×List Int×PUnit->Prop)=>Br (decide (v6.1<(↑s.length:Int))) (∃(y8:Int),idx s v6.1=some y8/\ ∃(y9:Int),idx y5 y8=some y9/\0=0/\v6.2.1.length=v6.2.1.length/\v6.2.1.length+(List.take 1 (List.drop 0 [y9])).length<=Dt/\0=0/\(v6.2.1++List.take 1 (List.drop 0 [y9])).length=(v6.2.1++List.take 1 (List.drop 0 [y9])).length/\k7 (IntKind.i64.wrap (v6.1+(1:Int)),v6.2.1++List.take 1 (List.drop 0 [y9]),())) (P (List.take v6.2.1.length (List.drop 0 v6.2.1)))) ((0:Int),[],PUnit.unit)) (0=0/\0=([]:List Int).length/\Ea (λ(v5:Int×List Int×PUnit) (k6:Int×List Int×PUnit->Prop)=>Br (decide (v5.1<(↑s.length:Int))) (∃(y7:Int),idx s v5.1=some y7/\ ∃(y8:Int),idx y4 y7=some y8/\0=0/\v5.2.1.length=v5.2.1.length/\v5.2.1.length+(List.take 1 (List.drop 0 [y8])).length<=Dt/\0=0/\(v5.2.1++List.take 1 (List.drop 0 [y8])).length=(v5.2.1++List.take 1 (List.drop 0 [y8])).length/\k6 (IntKind.i64.wrap (v5.1+(1:Int)),v5.2.1++List.take 1 (List.drop 0 [y8]),())) (P (List.take v5.2.1.length (List.drop 0 v5.2.1)))) ((0:Int),[],PUnit.unit)))=fnW Gz (look [(187,Qx)]) eH Try.f145 (p,s,l,()) P:=by kernel_rfl
theorem Ku {xs:List Int} {i:Nat} (h:i<xs.length):Cu xs (i:Int)=xs[i]:=by
 unfold Cu
 rw [Ac,Al,Ad h];rfl
theorem Of {xs:List Int} {y:Int} (h0:0<=y) (h:y<xs.length):idx xs y=some (Cu xs y):=by
 have hy:y.toNat<xs.length:=by omega
 have e:y=(y.toNat:Int):=by omega
 rw [e,Cf hy,Ku hy]
theorem aX (f:Nat->Nat) (g:Nat->Int) (m:Nat) (init:List Int):cH f g (m+1) init=(cH f g m init).set (f m) (g m):=by simp [cH,Jq]
theorem cI (f:Nat->Nat) (g:Nat->Int) (m:Nat) (init:List Int):(cH f g m init).length=init.length:=by
 induction m with
 |zero=>rfl
 |succ m ih=>rw [aX,Bv,ih]
theorem ql (f:Nat->Nat) (g:Nat->Int) (init:List Int): ∀(m:Nat),(∀i j,i<m->j<m->f i=f j->i=j)-> ∀i,i<m->f i<init.length->(cH f g m init)[f i]?=some (g i)
 |0,_,i,h,_=>absurd h (Et _)
 |m+1,hf,i,hi,hl=>by
  rw [aX]
  by_cases e:i=m
  ·subst e
   exact aE (by rw [cI];exact hl)
  ·rw [List.getElem?_set_ne (λh=>e (hf i m hi (by omega) h.symm))]
   exact ql f g init m (λa b ha hb=>hf a b (by omega) (by omega)) i (by omega) hl
structure bF (p:List Int):Prop where
 pos:1<=p.length
 len:p.length<=20
 row:Sd p.length p
 nodup:p.Nodup
theorem fN {p:List Int} (h:Ki p=true):bF p:=by
 obtain ⟨h1,h2,h3⟩:=Gk.1 h
 refine ⟨h1,h2,λy hy=>?_,jg λj hj=>(h3 j hj hj).2.2⟩
 obtain ⟨j,hj,rfl⟩:=Bf.1 hy
 have:=h3 j hj hj
 omega
theorem bF.inj {p:List Int} (h:bF p) (i j:Nat) (hi:i<p.length) (hj:j<p.length) (e:(Cu p (i:Int)).toNat=(Cu p (j:Int)).toNat):i=j:=by
 rw [Ku hi,Ku hj] at e
 have h1:=h.row _ (Am hi)
 have h2:=h.row _ (Am hj)
 have e:p[i]=p[j]:=by omega
 refine Bs λIp=>?_
 rcases Nat.lt_or_gt_of_ne Ip with hl|hl
 ·exact Ez.1 h.nodup i j hi hj hl e
 ·exact Ez.1 h.nodup j i hj hi hl e.symm
theorem bF.UN {p:List Int} (h:bF p) (k:Nat) (hk:k<p.length): ∃i,i<p.length/\(Cu p (i:Int)).toNat=k:=by
 have hm:=(dr (xs:=p) h.row).2 (vz h.nodup) k hk
 obtain ⟨i,hi,e⟩:=Bf.1 hm
 exact ⟨i,hi,by rw [Ku hi,e];exact Ac k⟩
theorem bF.lt {p:List Int} (h:bF p) {i:Nat} (hi:i<p.length):(Cu p (i:Int)).toNat<p.length:=by
 rw [Ku hi]
 have:=h.row _ (Am hi)
 omega
theorem sj (p:List Int):(Bw p).length=p.length:=by unfold Bw;rw [cI,Ep]
theorem Aad {p:List Int} (h:bF p) {i:Nat} (hi:i<p.length):(Bw p)[(Cu p (i:Int)).toNat]?=some (i:Int):=
 ql (λi=>(Cu p (i:Int)).toNat) (λi=>(i:Int)) _ p.length (λi j hi hj=>h.inj i j hi hj) i hi (by rw [Ep];exact h.lt hi)
theorem Aey {p:List Int} (h:bF p):Sd p.length (Bw p):=by
 intro y hy
 obtain ⟨k,hk,rfl⟩:=Bf.1 hy
 have mU:k<p.length:=by rw [sj] at hk;exact hk
 obtain ⟨i,hi,rfl⟩:=h.UN k mU
 have:=Aad h hi
 rw [Ad hk] at this
 rw [Bd this]
 omega
theorem Rw (p q:List Int):(Ak p q).length=p.length:=by simp [Ak]
theorem EC {p q:List Int} {n:Nat} (hp:Sd q.length p) (hq:Sd n q):Sd n (Ak p q):=by
 intro y hy
 obtain ⟨x,hx,rfl⟩:=Be.1 hy
 have h1:=hp x hx
 rw [show x=(x.toNat:Int) by omega,Ku (by omega)]
 exact hq _ (Am _)
theorem wj (p q:List Int) (h:p.length<=20/\Sd q.length p):fnW Gz (look []) La Try.f142 (p,q,()) (λ(z:List Int)=>z=Ak p q):=by
 obtain ⟨h,hr⟩:=h
 refine Eq.mp (wS p q _) ?_
 refine ⟨⟨by omega,by show (p.length:Int)<(4294967296:Int)+1;omega⟩,rfl,rfl,rfl,?_⟩
 have Rn:=Rw p q
 refine Cg p.length (λv=>v.1) (λj v=>v.2.1.length=(Ak p q).length/\v.2.1.take j=(Ak p q).take j) rfl ⟨by rw [Rn];simp,by simp⟩ ?_
 rintro j ⟨i,ys,⟨⟩⟩ K hj hi ⟨h1,h2⟩ hK
 dsimp only at hi h1 h2⊢
 subst hi
 refine Br.dec (λhl=>?_) λhl=>?_
 ·have hl:j<p.length:=by omega
  have hy:=hr _ (Am hl)
  refine ⟨_,Cf hl,_,Of hy.1 hy.2,⟨by omega,by omega⟩,by rw [Ac];omega,rfl,by rw [Bv],?_⟩
  rw [Cb (by omega),Ac,Bk]
  have Ll:j<(Ak p q).length:=by rw [Rn];exact hl
  have e:Cu q p[j]=(Ak p q)[j]:=by simp [Ak]
  rw [e]
  exact hK hl _ rfl ⟨by rw [Bv];exact h1,lK Ll h1 h2⟩
 ·have:j=p.length:=by omega
  subst this
  rw [<-Rn,Bh,<-h1,Bh] at h2
  rw [Du,Bh]
  exact h2
theorem Xd:Sound Try.prog 142 La:=
 Sound.Hg Ff Cc mixed Try.func142 (by kernel_rfl) (by kernel_rfl) λx h=>wj x.1 x.2.1 h
theorem wk (p:List Int) (h:p.length<=20/\Sd p.length p):fnW Gz (look []) Hs Try.f143 (p,()) (λ(z:List Int)=>z=Bw p):=by
 obtain ⟨h,hr⟩:=h
 refine Eq.mp (wT p _) ?_
 refine ⟨⟨by omega,by show (p.length:Int)<(4294967296:Int)+1;omega⟩,rfl,rfl,rfl,?_⟩
 refine Cg p.length (λv=>v.1) (λj v=>v.2.1=cH (λi=>(Cu p (i:Int)).toNat) (λi=>(i:Int)) j (List.replicate p.length 0)) rfl rfl ?_
 rintro j ⟨i,ys,⟨⟩⟩ K hj hi h1 hK
 dsimp only at hi h1⊢
 subst hi
 have hlen:ys.length=p.length:=by rw [h1,cI,Ep]
 refine Br.dec (λhl=>?_) λhl=>?_
 ·have hl:j<p.length:=by omega
  have hy:=hr _ (Am hl)
  refine ⟨_,Cf hl,⟨by omega,by omega⟩,by omega,rfl,by rw [Bv],?_⟩
  rw [Cb (by omega),Bk]
  refine hK hl _ rfl ?_
  rw [aX,<-h1,Ku hl]
 ·have:j=p.length:=by omega
  subst this
  rw [Du,Bh]
  exact h1
theorem Xe:Sound Try.prog 143 Hs:=
 Sound.Hg Ff Cc mixed Try.func143 (by kernel_rfl) (by kernel_rfl) λx h=>wk x.1 h
theorem VE (p:List Int) (h:p.length<=20/\Sd p.length p):fnW Gz (look []) Hs Try.f190 (p,()) (λ(z:List Int)=>z=Bw p):=by
 obtain ⟨h,hr⟩:=h
 refine Eq.mp (WZ p _) ?_
 refine ⟨⟨by omega,by show (p.length:Int)<(4294967296:Int)+1;omega⟩,rfl,rfl,rfl,?_⟩
 refine Cg p.length (λv=>v.1) (λj v=>v.2.1=cH (λi=>(Cu p (i:Int)).toNat) (λi=>(i:Int)) j (List.replicate p.length 0)) rfl rfl ?_
 rintro j ⟨i,ys,⟨⟩⟩ K hj hi h1 hK
 dsimp only at hi h1⊢
 subst hi
 have hlen:ys.length=p.length:=by rw [h1,cI,Ep]
 refine Br.dec (λhl=>?_) λhl=>?_
 ·have hl:j<p.length:=by omega
  have hy:=hr _ (Am hl)
  refine ⟨_,Cf hl,⟨by omega,by omega⟩,by omega,rfl,by rw [Bv],?_⟩
  rw [Cb (by omega),Bk]
  refine hK hl _ rfl ?_
  rw [aX,<-h1,Ku hl]
 ·have:j=p.length:=by omega
  subst this
  rw [Du,Bh]
  exact h1
theorem lE:Sound Try.prog 190 Hs:=
 Sound.Hg Ff Cc mixed Try.func190 (by kernel_rfl) (by kernel_rfl) λx h=>VE x.1 h
theorem wq (p:List Int) (h:Ki p=true):fnW Gz (look [(169,Je),(190,Hs)]) Qx Try.f187 (p,()) (λ(z:List Int)=>z=Bw p):=by
 have hp:=fN h
 have hs:short p:=by have:=hp.len;unfold short;omega
 refine Eq.mp (wW p _) ⟨_,Ab hs,⟨λhe=>?_,λ_=>⟨_,Ab ⟨hp.len,hp.row⟩,rfl⟩⟩⟩
 exact absurd h (Is he)
theorem oC:Sound Try.prog 187 Qx:=
 Sound.Hg Ff (Ba Zb (Ba lE Cc)) mixed Try.func187 (by kernel_rfl) (by kernel_rfl) λx h=>wq x.1 h
theorem bC (j:Nat):upto (j+1)=upto j++ [(j:Int)]:=by simp [upto,Jq]
theorem NB (n:Int) (h:0<=n/\n<=20):fnW Gz (look []) Dn Try.f66 (n,()) (λ(z:List Int)=>z=upto n.toNat):=by
 refine Eq.mp (PH n _) ⟨rfl,rfl,?_⟩
 refine Cg n.toNat (λv=>v.1) (λj v=>v.2.1=upto j) rfl rfl ?_
 rintro j ⟨i,ys,⟨⟩⟩ K hj hi h1 hK
 dsimp only at hi h1⊢
 subst hi h1
 refine Br.dec (λhl=>?_) λhl=>?_
 ·refine ⟨rfl,rfl,?_,rfl,rfl,?_⟩
  ·show (upto j).length+1<=4294967296
   rw [Nf];omega
  ·rw [Cb (by omega)]
   exact hK (by omega) _ rfl (bC j).symm
 ·have:j=n.toNat:=by omega
  subst this
  rw [Du,Bh]
theorem Xc:Sound Try.prog 66 Dn:=
 Sound.Hg Ff Cc mixed Try.func66 (by kernel_rfl) (by kernel_rfl) λx h=>NB x.1 h
theorem My {g:List (List Int)} {k:Nat} (h:k<g.length):Av g ((k:Int)+1)=g[k]:=by
 unfold Av
 rw [Ab (by omega),show ((k:Int)+1-1).toNat=k by omega,Al,Ad h];rfl
theorem Mx {g:List (List Int)} {k:Nat} (h:k<g.length):Av g (-((k:Int)+1))=Bw g[k]:=by
 unfold Av
 rw [Ai (by omega),show (-(-((k:Int)+1))-1).toNat=k by omega,Al,Ad h];rfl
theorem Og {n:Nat} {l:Int} (h:Fy n l): ∃k:Nat,k<n/\(l=(k:Int)+1\/l= -((k:Int)+1)):=by
 obtain ⟨h1,h2,h3⟩:=h
 by_cases h0:0<l
 ·exact ⟨(l-1).toNat,by omega, .inl (by omega)⟩
 ·exact ⟨(-l-1).toNat,by omega, .inr (by omega)⟩
theorem NG (g:List (List Int)) (l:Int) (h:Fy (List.length g) l/\List.length g<=8/\ ∀p∈g,Ki p=true):fnW Gz (look [(143,Hs)]) Ma Try.f147 (g,l,()) (λ(z:List Int)=>z=Av g l):=by
 obtain ⟨hl,h8,hp⟩:=h
 refine Eq.mp (PM g l _) ?_
 obtain ⟨k,hk,rfl|rfl⟩:=Og hl
 ·refine Br.dec (λ_=>?_) λhn=>by omega
  rw [Cj (by omega) (by omega),show (k:Int)+1-1=(k:Int) by omega]
  exact ⟨_,Cf hk,(My hk).symm⟩
 ·refine Br.dec (λhn=>by omega) λ_=>?_
  rw [Cj (n:=0- -((k:Int)+1)) (by omega) (by omega),Cj (by omega) (by omega),show (0:Int)- -((k:Int)+1)-1=(k:Int) by omega]
  have:=fN (hp _ (Am hk))
  exact ⟨_,Cf hk,_,Ab ⟨this.len,this.row⟩,(Mx hk).symm⟩
theorem uO:Sound Try.prog 147 Ma:=
 Sound.Hg Ff (Ba Xe Cc) mixed Try.func147 (by kernel_rfl) (by kernel_rfl) λx h=>NG x.1 x.2.1 h
theorem ca (j:Nat):Ao (j+1)=Ao j++ [(j:Int)+1,-((j:Int)+1)]:=by simp [Ao,Jq,List.flatMap_append]
theorem Ov (j:Nat):(Ao j).length=2*j:=by
 induction j with
 |zero=>rfl
 |succ j ih=>rw [ca,Ax,ih];simp only [Aw,Dv];omega
theorem Iz {n:Nat} {l:Int} (h:l∈Ao n):Fy n l:=by
 unfold Ao at h
 obtain ⟨k,hk,hl⟩:=Gj.1 h
 have hk:=Fb.1 hk
 simp only [Bb,List.not_mem_nil,or_false] at hl
 unfold Fy
 omega
theorem VA (n:Int) (h:0<=n/\n<=8):fnW Gz (look []) Iv Try.f121 (n,()) (λ(z:List Int)=>z=Ao n.toNat):=by
 refine Eq.mp (WV n _) ⟨rfl,rfl,?_⟩
 refine Cg n.toNat (λv=>v.1) (λj v=>v.2.1=Ao j) rfl rfl ?_
 rintro j ⟨i,ys,⟨⟩⟩ K hj hi h1 hK
 dsimp only at hi h1⊢
 subst hi h1
 refine Br.dec (λhl=>?_) λhl=>?_
 ·refine ⟨rfl,rfl,?_,rfl,rfl,?_⟩
  ·show (Ao j).length+2<=4294967296
   rw [Ov];omega
  ·have e1:IntKind.i64.wrap ((j:Int)+1)=(j:Int)+1:=Cj (by omega) (by omega)
   have e2:IntKind.i64.wrap ((0:Int)-((j:Int)+1))= -((j:Int)+1):=by rw [Cj (by omega) (by omega)];omega
   rw [e1,e2]
   exact hK (by omega) _ rfl (ca j).symm
 ·have:j=n.toNat:=by omega
  subst this
  rw [Du,Bh]
theorem Uj:Sound Try.prog 121 Iv:=
 Sound.Hg Ff Cc mixed Try.func121 (by kernel_rfl) (by kernel_rfl) λx h=>VA x.1 h
structure Valid (p:PP):Prop where
 n:1<=p.1/\p.1<=20
 gG:1<=p.2.2.1.length/\p.2.2.1.length<=8
 perm: ∀m∈p.2.2.1,Ki m=true
 len: ∀m∈p.2.2.1,(m.length:Int)=p.1
theorem valid {p:PP} (h:Cd p=true):Valid p:=by
 have h0:=PC h
 obtain ⟨h1,_,_⟩:=Gk.1 h
 obtain ⟨_,_,h4⟩:=Gk.1 h1
 exact ⟨⟨h0.1,h0.2.1⟩,h0.2.2,λm hm=>(Gk.1 (h4 m hm)).2,λm hm=>(Gk.1 (h4 m hm)).1⟩
theorem pt {p:PP} (h:Valid p) {l:Int} (hl:Fy (List.length p.2.2.1) l):((Av p.2.2.1 l).length:Int)=p.1/\Sd (Av p.2.2.1 l).length (Av p.2.2.1 l):=by
 obtain ⟨k,hk,rfl|rfl⟩:=Og hl
 ·rw [My hk]
  exact ⟨h.len _ (Am hk),(fN (h.perm _ (Am hk))).row⟩
 ·rw [Mx hk,sj]
  exact ⟨h.len _ (Am hk),Aey (fN (h.perm _ (Am hk)))⟩
theorem DM (s y:List Int) (P:List Int->Prop) (h1:s.length<=20) (h2:Sd y.length s) (h3:P (Ak s y)):
  Ea
   (λ(v5:Int×List Int×PUnit) (k6:Int×List Int×PUnit->Prop)=>
    Br (decide (v5.1<(↑s.length:Int)))
     (∃(y7:Int),
      idx s v5.1=some y7/\
       ∃(y8:Int),
        idx y y7=some y8/\
         (0:Nat)=(0:Nat)/\
          v5.2.1.length=v5.2.1.length/\
           v5.2.1.length+(List.take (1:Nat) (List.drop (0:Nat) [y8])).length<=Dt/\
            (0:Nat)=(0:Nat)/\
             (v5.2.1++List.take (1:Nat) (List.drop (0:Nat) [y8])).length=(v5.2.1++List.take (1:Nat) (List.drop (0:Nat) [y8])).length/\
              k6 (IntKind.i64.wrap (v5.1+(1:Int)),v5.2.1++List.take (1:Nat) (List.drop (0:Nat) [y8]),()))
     (P (List.take v5.2.1.length (List.drop (0:Nat) v5.2.1))))
   ((0:Int),([]:List Int),PUnit.unit):=by
 refine Cg s.length (λv=>v.1) (λj v=>v.2.1=(s.take j).map (Cu y)) rfl (by simp) ?_
 rintro j ⟨i,ys,⟨⟩⟩ K hj hi hR hK
 dsimp only at hi hR⊢
 subst hi hR
 refine Br.dec (λhl=>?_) λhl=>?_
 ·have hl:j<s.length:=by omega
  have hy:=h2 _ (Am hl)
  refine ⟨_,Cf hl,_,Of hy.1 hy.2,rfl,rfl,?_,rfl,rfl,?_⟩
  ·show ((s.take j).map (Cu y)).length+1<=4294967296
   rw [Ck,Ec];omega
  ·rw [Cb (by omega)]
   refine hK hl _ rfl ?_
   dsimp only
   rw [Ej hl,Ir]
   rfl
 ·have:j=s.length:=by omega
  subst this
  rw [Du,Bh,Bh]
  exact h3
theorem Ab4 (p:PP) (s:List Int) (l:Int) (h:Cd p=true/\List.length s<=20/\(∀y∈s,0<=y/\y<p.1)/\Fy (List.length p.2.2.1) l):fnW Gz (look [(187,Qx)]) eH Try.f145 (p,s,l,()) (λ(z:List Int)=>z=Ak s (Av p.2.2.1 l)):=by
 obtain ⟨hv,hs,hr,hl⟩:=h
 have hv:=valid hv
 have hf:=hv.gG
 refine Eq.mp (Acr p s l _) ?_
 have ZR:=pt hv hl
 have Su:Sd (Av p.2.2.1 l).length s:= λy hy=>by have:=hr y hy;omega
 obtain ⟨k,hk,rfl|rfl⟩:=Og hl
 ·rw [Ab rfl,Cj (n:=0-((k:Int)+1)) (by omega) (by omega),Ai (by omega),Cj (by omega) (by omega),show (k:Int)+1-1=(k:Int) by omega]
  refine ⟨_,Cf hk,Br.dec (λhn=>by omega) λ_=>⟨rfl,rfl,?_⟩⟩
  rw [My hk] at Su⊢
  exact DM s _ (λz=>z=Ak s p.2.2.1[k]) hs Su rfl
 ·rw [Ab rfl,Cj (n:=0- -((k:Int)+1)) (by omega) (by omega),Ab (by omega),Cj (by omega) (by omega),show (0:Int)- -((k:Int)+1)-1=(k:Int) by omega]
  refine ⟨_,Cf hk,Br.dec (λ_=>⟨_,Ab (hv.perm _ (Am hk)),rfl,rfl,?_⟩) λhn=>by omega⟩
  rw [Mx hk] at Su⊢
  exact DM s (Bw p.2.2.1[k]) (λz=>z=Ak s (Bw p.2.2.1[k])) hs Su rfl
theorem BA:Sound Try.prog 145 eH:=
 Sound.Hg Ff (Ba oC Cc) mixed Try.func145 (by kernel_rfl) (by kernel_rfl) λx h=>Ab4 x.1 x.2.1 x.2.2.1 h
abbrev rL:CK:= .row tI 2
def low (k:Int):Prop:=0<=k/\k<=1099511627776
theorem Dd {α:Type} (xs:List α):List.take xs.length (List.drop 0 xs)=xs:=by rw [Du,Bh]
noncomputable abbrev Qe:Spec:=Hg (.pair tL .unit) tL false true (λx=>short x.1) (λx=>x.1)
theorem PF (xs:List Int) (P:List Int->Prop):(0=0/\0=([]:List Int).length/\0+xs.length<=Dt/\P (List.take ([]++xs).length (List.drop 0 ([]++xs))))=fnW Gz (look []) Qe Try.f86 (xs,()) P:=by kernel_rfl
theorem NA (xs:List Int) (h:short xs):fnW Gz (look []) Qe Try.f86 (xs,()) (λ(z:List Int)=>z=xs):=by
 unfold short at h
 refine Eq.mp (PF xs _) ⟨rfl,rfl,by show 0+xs.length<=4294967296;omega,?_⟩
 simp only [Dd,Ol]
theorem jC:Sound Try.prog 86 Qe:=
 Sound.Hg Ff Cc mixed Try.func86 (by kernel_rfl) (by kernel_rfl) λx h=>NA x.1 h
def Tg (xs:List Int):ByteArray:=bytesOf (xs.map λx=>IntKind.u8.wrap x)
noncomputable abbrev Iy:Spec:=Hg (.pair tL .unit) .str false true (λx=>short x.1) (λx=>Tg x.1)
def oe (ps:List (List Int)) (p:List Int):Int:=Gr (λq=>decide (q=p)) ps 0
theorem PT (xs:List Int) (P:ByteArray->Prop):(((0:Int)<=(↑xs.length:Int)/\(↑xs.length:Int)<(↑Dt:Int)+(1:Int))/\(↑xs.length:Int)=(↑xs.length:Int)/\0=0/\(List.replicate (↑xs.length:Int).toNat (Int.ofNat (nat_lit 0))).length=(List.replicate (↑xs.length:Int).toNat (Int.ofNat (nat_lit 0))).length/\Ea (λ(v2:Int×List Int×PUnit) (k3:Int×List Int×PUnit->Prop)=>Br (decide (v2.1<(↑xs.length:Int))) (∃(y4:Int),idx xs v2.1=some y4/\((0:Int)<=v2.1/\v2.1<(↑v2.2.1.length:Int))/\0+v2.1.toNat<v2.2.1.length/\0=0/\v2.2.1.length=(v2.2.1.set (0+v2.1.toNat) (IntKind.u8.wrap y4)).length/\k3 (IntKind.i64.wrap (v2.1+(1:Int)),v2.2.1.set (0+v2.1.toNat) (IntKind.u8.wrap y4),())) (P (bytesOf (List.take v2.2.1.length (List.drop 0 v2.2.1))))) ((0:Int),List.replicate (↑xs.length:Int).toNat (Int.ofNat (nat_lit 0)),PUnit.unit))=fnW Gz (look []) Iy Try.f107 (xs,()) P:=by kernel_rfl
theorem NM (xs:List Int) (h:short xs):fnW Gz (look []) Iy Try.f107 (xs,()) (λ(z:ByteArray)=>z=Tg xs):=by
 unfold short at h
 refine Eq.mp (PT xs _) ?_
 refine ⟨⟨by omega,by show (xs.length:Int)<(4294967296:Int)+1;omega⟩,rfl,rfl,rfl,?_⟩
 have Rn:(xs.map λx=>IntKind.u8.wrap x).length=xs.length:=by simp
 refine Cg xs.length (λv=>v.1) (λj v=>v.2.1.length=(xs.map λx=>IntKind.u8.wrap x).length/\v.2.1.take j=(xs.map λx=>IntKind.u8.wrap x).take j) rfl ⟨by rw [Rn];simp,by simp⟩ ?_
 rintro j ⟨i,ys,⟨⟩⟩ K hj hi ⟨h1,h2⟩ hK
 dsimp only at hi h1 h2⊢
 subst hi
 refine Br.dec (λhl=>?_) λhl=>?_
 ·have hl:j<xs.length:=by omega
  refine ⟨_,Cf hl,⟨by omega,by omega⟩,by rw [Ac];omega,rfl,by rw [Bv],?_⟩
  rw [Cb (by omega),Ac,Bk]
  have Ll:j<(xs.map λx=>IntKind.u8.wrap x).length:=by rw [Rn];exact hl
  have e:IntKind.u8.wrap xs[j]=(xs.map λx=>IntKind.u8.wrap x)[j]:=by simp
  rw [e]
  exact hK hl _ rfl ⟨by rw [Bv];exact h1,lK Ll h1 h2⟩
 ·have:j=xs.length:=by omega
  subst this
  rw [<-Rn,Bh,<-h1,Bh] at h2
  rw [Du,Bh,h2];rfl
theorem jH:Sound Try.prog 107 Iy:=
 Sound.Hg Ff Cc mixed Try.func107 (by kernel_rfl) (by kernel_rfl) λx h=>NM x.1 h
theorem gM {α:Type} (P:α->Bool) (y:α): ∀(l:List α) (i:Int),0<=i->Gr P (l++ [y]) i=if Gr P l i<0 then (if P y=true then i+l.length else-1) else Gr P l i
 | [],i,_=>by simp [Gr]
 |x::r,i,h=>by
  simp only [Ms,Gr,Aw]
  split
  ·rw [Ai (by omega)]
  ·rw [gM P y r (i+1) (by omega),show i+1+(r.length:Int)=i+((r.length+1:Nat):Int) by push_cast;omega]
theorem AH (ps:List (List Int)) (q p:List Int):oe (ps++ [q]) p=if oe ps p<0 then (if q=p then (ps.length:Int) else-1) else oe ps p:=by
 unfold oe
 rw [gM _ _ _ _ (Ok 0)]
 simp only [Rc,Int.zero_add]
def Xs (p:List Int):Prop:= ∀x∈p,0<=x/\x<256
theorem YN {x y:Int} (hx:0<=x/\x<256) (hy:0<=y/\y<256) (h:UInt8.ofNat (IntKind.u8.wrap x).toNat=UInt8.ofNat (IntKind.u8.wrap y).toNat):x=y:=by
 have h:=Dm UInt8.toNat h
 simp only [IntKind.wrap_u8,UInt8.toNat_ofNat'] at h
 omega
theorem bytes_inj: ∀(p q:List Int),Xs p->Xs q->(p.map λx=>UInt8.ofNat (IntKind.u8.wrap x).toNat)=(q.map λx=>UInt8.ofNat (IntKind.u8.wrap x).toNat)->p=q
 | [],[],_,_,_=>rfl
 | [],_::_,_,_,h=>by simp at h
 |_::_,[],_,_,h=>by simp at h
 |x::p,y::q,hp,hq,h=>by
  simp only [Ca,Ha] at h
  rw [YN (hp x (by simp)) (hq y (by simp)) h.1,bytes_inj p q (λz hz=>hp z (by simp [hz])) (λz hz=>hq z (by simp [hz])) h.2]
theorem key_inj {p q:List Int} (hp:Xs p) (hq:Xs q) (h:Tg p=Tg q):p=q:=by
 refine bytes_inj p q hp hq ?_
 simp only [Tg,bytesOf,ByteArray.mk.injEq,List.map_map] at h
 have h:=Dm Array.toList h
 simpa [Function.comp_def] using h
def KM (m:ByteArray->Option Int) (ps:List (List Int)):Prop:= ∀p,Xs p->m (Tg p)=if oe ps p<0 then none else some (oe ps p)
theorem KM.nil:KM (λ_=>none) []:= λp _=>by
 rw [Ab (by unfold oe;simp [Gr])]
theorem KM.add {m:ByteArray->Option Int} {ps:List (List Int)} {q:List Int} (h:KM m ps) (hq:Xs q) (hn:oe ps q<0):KM (gr m (Tg q) (ps.length:Int)) (ps++ [q]):=by
 intro p hp
 rw [AH]
 unfold gr
 by_cases e:p=q
 ·subst e
  rw [Ab rfl,Ab hn,Ab rfl,Ai (by omega)]
 ·rw [Ai (λhk=>e (key_inj hp hq hk)),h p hp]
  have e': ¬q=p:= λh=>e h.symm
  rw [Ai e']
  by_cases TW:oe ps p<0
  ·rw [Ab TW,Ab TW,Ab (by decide)]
  ·rw [Ai TW,Ai TW,Ai TW]
theorem Ae9 {α:Type} {xs:List α} {j:Nat} (h:j<xs.length) (d:α):xs.getD j d=xs[j]:=by
 rw [Al,Ad h];rfl
def JY (m l:Int):Bool:=decide (l≠0/\ -m<=l/\l<=m)
def hJ (n:Int):Int:=if 8<n then 8 else n
def Jd (n:Int) (w:List Int):Bool:=decide (w.length<=200)&&!(List.any w λy=>!JY (hJ n) y)
noncomputable abbrev eN:Spec:=Hg (.pair tI (.pair tL .unit)) .bool false true (λx=>short x.2.1/\0<=x.1/\x.1<=4294967296) (λx=>Jd x.1 x.2.1)
theorem PK (n:Int) (w:List Int) (P:Bool->Prop):(Br (decide ((↑w.length:Int)>(200:Int))) (P false) (Ea (λ(v3:Int×PUnit) (k4:Int×PUnit->Prop)=>Br (decide (v3.1<(↑w.length:Int))) (∃(y5:Int),idx w v3.1=some y5/\Br (y5==(0:Int)) (P false) (∃(y6:Int),idx w v3.1=some y6/\ ∃(y7:Bool),Ct.fn (y6,(-8:Int),(8:Int),())=some y7/\Br (!y7) (P false) (∃(y8:Int),idx w v3.1=some y8/\Br (decide (y8>n)) (P false) (∃(y9:Int),idx w v3.1=some y9/\Br (decide (IntKind.i64.wrap ((0:Int)-y9)>n)) (P false) (k4 (IntKind.i64.wrap (v3.1+(1:Int)),())))))) (P true)) ((0:Int),PUnit.unit)))=fnW Gz (look [(65,Ct)]) eN Try.f74 (n,w,()) P:=by kernel_rfl
theorem Af4 {m l:Int} :JY m l=true↔l≠0/\ -m<=l/\l<=m:=Jj
theorem zT {n l:Int} (hn:0<=n):JY (hJ n) l=true↔l≠0/\(-8<=l/\l<=8)/\l<=n/\ -l<=n:=by
 rw [Af4];unfold hJ;split<;>omega
theorem NF (n:Int) (w:List Int) (h:short w/\0<=n/\n<=4294967296):fnW Gz (look [(65,Ct)]) eN Try.f74 (n,w,()) (λ(z:Bool)=>z=Jd n w):=by
 refine Eq.mp (PK n w _) (Br.dec (λhl=>?_) λhl=>?_)
 ·unfold Jd
  rw [Eu (by omega),Qg]
 ·have e0:Jd n w=!(List.any w λy=>!JY (hJ n) y):=by unfold Jd;rw [Bp (by omega),Kt]
  have bad: ∀(j:Nat) (hj:j<w.length),¬(w[j]≠0/\(-8<=w[j]/\w[j]<=8)/\w[j]<=n/\ -w[j]<=n)->false=Jd n w:= λj hj hn=>by
   rw [e0]
   have:(List.any w λy=>!JY (hJ n) y)=true:=Eo.2 ⟨w[j],Am hj,by
    have:JY (hJ n) w[j]=false:=Bool.eq_false_iff.2 λht=>hn ((zT h.2.1).1 ht)
    rw [this];rfl⟩
   rw [this];rfl
  refine Cg w.length (λv=>v.1) (λj _=> ∀y∈w.take j,JY (hJ n) y=true) rfl (by simp) ?_
  rintro j ⟨i,⟨⟩⟩ K hj hi hR hK
  dsimp only at hi⊢
  subst hi
  refine Br.dec (λhl=>?_) λhl=>?_
  ·have hl:j<w.length:=by omega
   refine ⟨_,Cf hl,⟨λhz=>?_,λhz=>⟨_,Cf hl,_,Ab trivial,⟨λhq=>?_,λhq=>⟨_,Cf hl,Br.dec (λhg=>?_) λhg=>⟨_,Cf hl,Br.dec (λhm=>?_) λhm=>?_⟩⟩⟩⟩⟩⟩
   ·simp only [beq_iff_eq] at hz
    exact bad j hl λhh=>hh.1 hz
   ·have hq:=Is hq
    rw [Fe] at hq
    exact bad j hl λhh=>hq hh.2.1
   ·exact bad j hl λhh=>absurd hh.2.2.1 (by omega)
   ·have hq:=Kg hq
    rw [Fe] at hq
    dsimp only at hq
    rw [Cj (by omega) (by omega)] at hm
    exact bad j hl λhh=>absurd hh.2.2.2 (by omega)
   ·have hq:=Kg hq
    rw [Fe] at hq
    dsimp only at hq
    simp only [Rr,ne_eq] at hz
    rw [Cj (by omega) (by omega)] at hm
    rw [Cb (by omega)]
    refine hK hl _ rfl ?_
    rw [Ej hl]
    intro y hy
    rcases Az.1 hy with hy|hy
    ·exact hR y hy
    ·rw [Af.1 hy]
     exact (zT h.2.1).2 ⟨hz,hq,by omega,by omega⟩
  ·have:j=w.length:=by omega
   subst this
   rw [Bh] at hR
   rw [e0]
   have:(List.any w λy=>!JY (hJ n) y)=false:=by
    refine Bool.eq_false_iff.2 λht=>?_
    obtain ⟨y,hy,h1⟩:=Eo.1 ht
    rw [hR y hy] at h1
    cases h1
   rw [this];rfl
theorem uN:Sound Try.prog 74 eN:=
 Sound.Hg Ff (Ba Qz Cc) mixed Try.func74 (by kernel_rfl) (by kernel_rfl) λx h=>NF x.1 x.2.1 h
theorem dL {n:Nat} {w:List Int} (h:Jd (n:Int) w=true):w.length<=200/\ ∀y∈w,Fy n y:=by
 unfold Jd at h
 simp only [Aj,Rc,Fg] at h
 refine ⟨h.1,λy hy=>?_⟩
 have h1:JY (hJ n) y=true:=by
  cases ho:JY (hJ n) y with
  |true=>rfl
  |false=>
   have h2:(List.any w λy=>!JY (hJ (n:Int)) y)=true:=Eo.2 ⟨y,hy,by rw [ho];rfl⟩
   rw [h.2] at h2;cases h2
 have:=(zT (by omega)).1 h1
 unfold Fy
 omega
noncomputable abbrev Vv:Spec:=Hg (.pair Iw .unit) tL false true (λx=>List.length x.1.2.2.1<=8) (λx=>Ao (List.length x.1.2.2.1))
abbrev oF:Type:=Int×Int×ByteArray×List (List Int)×List Int×PUnit
theorem JI (p:Int×ByteArray×List (List Int)×Unit) (P:List Int->Prop):(0=0/\0=([]:List Int).length/\Ea (λ(v2:oF) (k3:oF->Prop)=>Br (decide (v2.1<=(↑v2.2.2.2.1.length:Int))) (0=0/\v2.2.2.2.2.1.length=v2.2.2.2.2.1.length/\v2.2.2.2.2.1.length+(List.take 2 (List.drop 0 [v2.1,IntKind.i64.wrap ((0:Int)-v2.1)])).length<=Dt/\0=0/\(v2.2.2.2.2.1++List.take 2 (List.drop 0 [v2.1,IntKind.i64.wrap ((0:Int)-v2.1)])).length=(v2.2.2.2.2.1++List.take 2 (List.drop 0 [v2.1,IntKind.i64.wrap ((0:Int)-v2.1)])).length/\k3 (IntKind.i64.wrap (v2.1+(1:Int)),v2.2.1,v2.2.2.1,v2.2.2.2.1,v2.2.2.2.2.1++List.take 2 (List.drop 0 [v2.1,IntKind.i64.wrap ((0:Int)-v2.1)]),())) (P (List.take v2.2.2.2.2.1.length (List.drop 0 v2.2.2.2.2.1)))) ((1:Int),p.1,p.2.1,p.2.2.1,[],PUnit.unit))=fnW Gz (look []) Vv Try.f144 (p,()) P:=by kernel_rfl
theorem HL (p:PP) (h:List.length p.2.2.1<=8):fnW Gz (look []) Vv Try.f144 (p,()) (λ(z:List Int)=>z=Ao (List.length p.2.2.1)):=by
 refine Eq.mp (JI p _) ⟨rfl,rfl,?_⟩
 refine Ea.mk (λv=> ∃j:Nat,j<=List.length p.2.2.1/\v=((j:Int)+1,p.1,p.2.1,p.2.2.1,Ao j,())) (λv=>List.length p.2.2.1+1-v.1.toNat) ⟨0,Kr _,rfl⟩ ?_
 rintro _ ⟨j,hj,rfl⟩
 dsimp only
 refine Br.dec (λhl=>?_) λhl=>?_
 ·refine ⟨rfl,rfl,?_,rfl,rfl,⟨j+1,by omega,?_⟩,?_⟩
  ·show (Ao j).length+2<=4294967296
   rw [Ov];omega
  ·rw [ca,Cj (n:=(j:Int)+1+1) (by omega) (by omega),Cj (n:=0-((j:Int)+1)) (by omega) (by omega),Int.zero_sub]
   rfl
  ·rw [Cj (by omega) (by omega)];omega
 ·have:j=List.length p.2.2.1:=by omega
  subst this
  rw [Dd]
theorem rU:Sound Try.prog 144 Vv:=
 Sound.Hg Ff Cc mixed Try.func144 (by kernel_rfl) (by kernel_rfl) λx h=>HL x.1 h
abbrev rLL:CK:= .row tL 31
def zG (v:Int):List Int->Nat
 | []=>0
 |x::r=>if x>v then zG v r+1 else 0
def Af1 (v:Int) (t:List Int):Option (List Int):=if zG v t=0 then none else some (Cu t ((zG v t-1:Nat):Int)::(t.set (zG v t-1) v).reverse)
def pw:List Int->Option (List Int)
 | []=>none
 |v::t=>match pw t with
  |some t'=>some (v::t')
  |none=>Af1 v t
def qT (xs:List Int) (o n i k:Nat):Option Int:=if o<=k/\k<o+n/\(k<o+i\/o+n<=k+i) then xs[o+n-1-(k-o)]? else xs[k]?
def o6 (xs:List Int) (o n:Nat):List Int:=List.take o xs++(List.take n (List.drop o xs)).reverse++List.drop (o+n) xs
noncomputable abbrev Za:MSpec:=mA [none] [(true, .part tI 2)] false [] [] (λx=>short x.1.1/\x.1.2.1+x.1.2.2<=List.length x.1.1) (λx=>((),(o6 x.1.1 x.1.2.1 x.1.2.2,())))
def lex:Nat->List Int->List (List Int)
 |0,_=> [[]]
 |k+1,R=>R.flatMap λv=>(lex k (R.erase v)).map (v:: ·)
theorem WX (a:List Int×Nat×Nat) (P:(Unit×List Int×Unit)->Prop):(a.2.1=a.2.1/\a.2.2=a.2.2/\Ea (λ(v2:Int×Int×List Int×PUnit) (k3:Int×Int×List Int×PUnit->Prop)=>Br (decide (v2.1<v2.2.1)) (((0:Int)<=v2.2.1/\v2.2.1<(↑a.2.2:Int))/\ ∃(y4:Int),v2.2.2.1[a.2.1+v2.2.1.toNat]?=some y4/\((0:Int)<=v2.1/\v2.1<(↑a.2.2:Int))/\ ∃(y5:Int),v2.2.2.1[a.2.1+v2.1.toNat]?=some y5/\((0:Int)<=v2.1/\v2.1<(↑a.2.2:Int))/\a.2.1+v2.1.toNat<v2.2.2.1.length/\((0:Int)<=v2.2.1/\v2.2.1<(↑a.2.2:Int))/\a.2.1+v2.2.1.toNat<(v2.2.2.1.set (a.2.1+v2.1.toNat) y4).length/\a.2.1=a.2.1/\a.2.2=a.2.2/\k3 (IntKind.i64.wrap (v2.1+(1:Int)),IntKind.i64.wrap (v2.2.1-(1:Int)),(v2.2.2.1.set (a.2.1+v2.1.toNat) y4).set (a.2.1+v2.2.1.toNat) y5,())) (P ((),v2.2.2.1,()))) ((0:Int),IntKind.i64.wrap ((↑a.2.2:Int)-(1:Int)),a.1,PUnit.unit))=fnMW Akz (look []) Za Try.f186 (a,()) P:=by kernel_rfl
theorem xO {xs:List Int} {o n:Nat} (h:o+n<=xs.length) (k:Nat):(o6 xs o n)[k]?=if o<=k/\k<o+n then xs[o+n-1-(k-o)]? else xs[k]?:=by
 unfold o6
 have l1:(List.take o xs).length=o:=by rw [Ec];omega
 have l2:(List.take n (List.drop o xs)).reverse.length=n:=by rw [List.length_reverse,Ec,Zi];omega
 rw [Bo]
 by_cases h1:k<o
 ·rw [Au (by omega),Ai (by omega),List.getElem?_take_of_lt h1]
 ·rw [At (by omega),l1]
  by_cases h2:k<o+n
  ·rw [Au (by omega),Ab ⟨by omega,h2⟩,List.getElem?_reverse (by rw [Ec,Zi];omega)]
   rw [Ec,Zi,List.getElem?_take_of_lt (by omega),Cs]
   congr 1
   omega
  ·rw [At (by omega),l2,Ai (by omega),Cs]
   congr 1
   omega
theorem VC (a:List Int×Nat×Nat) (h:short a.1/\a.2.1+a.2.2<=a.1.length):fnMW Akz (look []) Za Try.f186 (a,()) (λ(z:Unit×List Int×Unit)=>z=((),(o6 a.1 a.2.1 a.2.2,()))):=by
 obtain ⟨xs,o,n⟩:=a
 obtain ⟨hs,hn⟩:=h
 dsimp only at hs hn
 unfold short at hs
 refine Eq.mp (WX (xs,o,n) _) ⟨rfl,rfl,?_⟩
 dsimp only
 refine Ea.mk (λv=> ∃i:Nat,v.1=i/\v.2.1=(n:Int)-1-i/\2*i<=n/\v.2.2.1.length=xs.length/\ ∀k,v.2.2.1[k]?=qT xs o n i k) (λv=>n-v.1.toNat)
  ⟨0,rfl,by rw [Cj (by omega) (by omega)];simp,by omega,rfl,λk=>by unfold qT;rw [Ai (by omega)]⟩ ?_
 rintro ⟨i',j',ys,⟨⟩⟩ ⟨i,h1,h2,h3,h4,h5⟩
 dsimp only at h1 h2 h4 h5⊢
 subst h1 h2
 refine Br.dec (λhl=>?_) λhl=>?_
 ·have eX:i<n-1-i:=by omega
  have hj:((n:Int)-1-i).toNat=n-1-i:=by omega
  have g1:ys[o+(n-1-i)]?=xs[o+(n-1-i)]?:=by rw [h5];unfold qT;rw [Ai (by omega)]
  have g2:ys[o+i]?=xs[o+i]?:=by rw [h5];unfold qT;rw [Ai (by omega)]
  have k1:o+(n-1-i)<xs.length:=by omega
  have k2:o+i<xs.length:=by omega
  rw [hj,Ac]
  refine ⟨⟨by omega,by omega⟩,_,g1.trans (Ad k1),⟨by omega,by omega⟩,_,g2.trans (Ad k2),⟨by omega,by omega⟩,by omega,⟨by omega,by omega⟩,by rw [Bv];omega,rfl,rfl,?_⟩
  rw [Cj (by omega) (by omega),Cj (by omega) (by omega)]
  refine ⟨⟨i+1,by push_cast;omega,by push_cast;omega,by omega,by rw [Bv,Bv];exact h4,λk=>?_⟩,by omega⟩
  by_cases e1:k=o+(n-1-i)
  ·subst e1
   rw [aE (by rw [Bv];omega)]
   unfold qT
   rw [Ab (by omega),<-Ad k2]
   congr 1;omega
  ·rw [List.getElem?_set_ne (Gv e1)]
   by_cases e2:k=o+i
   ·subst e2
    rw [aE (by omega)]
    unfold qT
    rw [Ab (by omega),<-Ad k1]
    congr 1;omega
   ·rw [List.getElem?_set_ne (Gv e2),h5]
    unfold qT
    by_cases e3:o<=k/\k<o+n/\(k<o+i\/o+n<=k+i)
    ·rw [Ab e3,Ab (by omega)]
    ·rw [Ai e3,Ai (by omega)]
 ·have:ys=o6 xs o n:=by
   refine List.ext_getElem? λk=>?_
   rw [h5,xO hn]
   unfold qT
   by_cases e:o<=k/\k<o+n
   ·rw [Ab e]
    split
    ·rfl
    ·have:k=o+n-1-(k-o):=by omega
     rw [<-this]
   ·rw [Ai e,Ai (by omega)]
  rw [this]
theorem wI:Dx Try.prog 186 Za:=
 Dx.mA Al0 Cc mixed Try.func186 (by kernel_rfl) (by kernel_rfl) λx h=>VC x.1 h
theorem GS {s s':List Int} (h:pw s=some s'): ∀pre:List Int,pw (pre++s)=some (pre++s')
 | []=>h
 |v::p=>by rw [Ms,pw,GS h p];rfl
theorem Afm {α:Type} (pre:List α) (v a:α) (t:List α):(pre++v::t).set pre.length a=pre++a::t:=by
 rw [List.set_append,Ai (by omega)];simp
inductive Run:List Int->List (List Int)->List Int->Prop where
 |one (a:List Int):Run a [a] a
 |more {a c b:List Int} {L:List (List Int)} :pw a=some c->Run c L b->Run a (a::L) b
theorem Run.cons {a b:List Int} {L:List (List Int)} (h:Run a L b) (v:Int):Run (v::a) (L.map (v:: ·)) (v::b):=by
 induction h with
 |one a=>exact .one _
 |more h3 _ ih=>exact .more (GS h3 [v]) ih
def QJ:Nat->Nat
 |0=>1
 |k+1=>(k+1)*QJ k
theorem ES {α β:Type} {n:Nat} (f:α->List β): ∀(l:List α),(∀a∈l,(f a).length=n)->(l.flatMap f).length=l.length*n
 | [],_=>by simp
 |a::r,h=>by
  rw [Wd,Ax,ES f r (λb hb=>h b (As _ hb)),h a (by simp),Aw,Nat.succ_mul]
  omega
theorem RO: ∀(k:Nat) (R:List Int),R.length=k->(lex k R).length=QJ k
 |0,_,_=>rfl
 |k+1,R,hl=>by
  rw [lex,ES (n:=QJ k) _ _ (λv hv=>by rw [Ck];exact RO k _ (by rw [Xk hv];omega)),hl]
  rfl
theorem Run.head {a b:List Int} {L:List (List Int)} (h:Run a L b): ∃M,L=a::M:=by
 cases h with
 |one=>exact ⟨_,rfl⟩
 |more _ _=>exact ⟨_,rfl⟩
theorem Run.at {a b:List Int} {L:List (List Int)} (h:Run a L b): ∀j (hj:j<L.length),(∀h2:j+1<L.length,pw L[j]=some L[j+1])/\(j+1=L.length->L[j]=b):=by
 induction h with
 |one a=>
  intro j hj
  simp only [Bn] at hj
  have:j=0:=by omega
  subst this
  exact ⟨λh2=>by simp at h2,λ_=>rfl⟩
 |more h3 h4 ih=>
  intro j hj
  rcases j with _|j
  ·obtain ⟨M,hM⟩:=h4.head
   refine ⟨λh2=>?_,λh2=>?_⟩
   ·simp only [List.getElem_cons_zero,List.getElem_cons_succ]
    subst hM
    exact h3
   ·subst hM;simp at h2
  ·have:=ih j (by simpa using hj)
   refine ⟨λh2=>?_,λh2=>?_⟩
   ·simp only [List.getElem_cons_succ]
    exact this.1 (by simpa using h2)
   ·simp only [List.getElem_cons_succ]
    exact this.2 (by simpa using h2)
def Fp:List Int->List Int->Int
 | [],[]=>0
 | [],_::_=> -1
 |_::_,[]=>1
 |x::a,y::b=>if x<y then-1 else if x>y then 1 else Fp a b
def fF (a b:List Int):Bool:=decide (Fp a b<0)
noncomputable abbrev pP:Spec:=Hg (.pair (.oslice tI) .unit) tL false true (λx=>short (x.1.getD [])) (λx=>x.1.getD [])
noncomputable abbrev oq:Spec:=Hg (.pair tL .unit) tL false true (λx=>short x.1) (λx=>x.1)
noncomputable abbrev Yy:Spec:=Hg (.pair tL (.pair tL .unit)) .bool false true (λx=>short x.1/\List.length x.1=List.length x.2.1) (λx=>fF x.1 x.2.1)
theorem WL (xs:Option (List Int)) (P:List Int->Prop):(Br xs.isNone (P (List.take 0 (List.drop 0 []))) (0=0/\0=([]:List Int).length/\0+(xs.getD []).length<=Dt/\P (List.take ([]++xs.getD []).length (List.drop 0 ([]++xs.getD [])))))=fnW Gz (look []) pP Try.f90 (xs,()) P:=by kernel_rfl
theorem PN (a b:List Int) (P:Bool->Prop):(Ea (λ(v3:Int×PUnit) (k4:Int×PUnit->Prop)=>Br (decide (v3.1<(↑a.length:Int))) (∃(y5:Int),idx a v3.1=some y5/\ ∃(y6:Int),idx b v3.1=some y6/\Br (y5 !=y6) (∃(y7:Int),idx a v3.1=some y7/\ ∃(y8:Int),idx b v3.1=some y8/\P (decide (y7<y8))) (k4 (IntKind.i64.wrap (v3.1+(1:Int)),()))) (P false)) ((0:Int),PUnit.unit))=fnW Gz (look []) Yy Try.f210 (a,b,()) P:=by kernel_rfl
theorem Sound.ofO {P:Program} {f:FuncId} {e:Ty} {r res:Ty} {Ij fresh:Bool} {pre:(Ty.pair (.oslice e) r).den->Prop} {val:(Ty.pair (.oslice e) r).den->res.den} {um:(Ty.pair (.slice e) r).den->Prop} {Acn:(Ty.pair (.slice e) r).den->res.den}
  (h:Sound P f (Go.Proofs.Ytkkdpknjohcekaa.Hg (.pair (.oslice e) r) res Ij fresh pre val))
  (hp: ∀(o:Option (List e.den)) (y:r.den),um (o.getD [],y)->pre (o,y)/\val (o,y)=Acn (o.getD [],y)):Sound P f (Go.Proofs.Ytkkdpknjohcekaa.Hg (.pair (.slice e) r) res Ij fresh um Acn):=by
 refine ⟨h.enter,λw S vs x y hS h2 h5=>?_⟩
 obtain ⟨xs,rest⟩:=x
 cases vs with
 |nil=>exact h2.elim
 |cons u us=>
  obtain ⟨h7,h8⟩:=h2
  obtain ⟨ox,h9,rfl⟩:=h7.told
  have rK:um (ox.getD [],rest):=Bs λhn=>by
   have:(Go.Proofs.Ytkkdpknjohcekaa.Hg (.pair (.slice e) r) res Ij fresh um Acn).fn (ox.getD [],rest)=none:=Ai hn
   rw [this] at h5;cases h5
  obtain ⟨k1,k2⟩:=hp ox rest rK
  have hv:(Go.Proofs.Ytkkdpknjohcekaa.Hg (.pair (.slice e) r) res Ij fresh um Acn).fn (ox.getD [],rest)=some (Acn (ox.getD [],rest)):=Ab rK
  rw [hv] at h5
  have h5:=Bd h5
  exact h.calls w S (u::us) (ox,rest) y hS ⟨h9,h8⟩ ((Ab k1).trans (by rw [k2];exact Dm some h5))
theorem UR (xs:Option (List Int)) (h:short (xs.getD [])):fnW Gz (look []) pP Try.f90 (xs,()) (λ(z:List Int)=>z=xs.getD []):=by
 unfold short at h
 refine Eq.mp (WL xs _) ⟨λhn=>?_,λ_=>⟨rfl,rfl,by show 0+(xs.getD []).length<=4294967296;omega,?_⟩⟩
 ·cases xs with
  |none=>rfl
  |some y=>cases hn
 ·simp only [Dd,Ol]
theorem wB:Sound Try.prog 90 pP:=
 Sound.Hg Ff Cc mixed Try.func90 (by kernel_rfl) (by kernel_rfl) λx h=>UR x.1 h
theorem BB:Sound Try.prog 90 oq:=Sound.ofO wB λ_ _ h=>⟨h,rfl⟩
theorem NI (a b:List Int) (h:short a/\a.length=b.length):fnW Gz (look []) Yy Try.f210 (a,b,()) (λ(z:Bool)=>z=fF a b):=by
 obtain ⟨ha,hb⟩:=h
 unfold short at ha
 refine Eq.mp (PN a b _) ?_
 refine Cg a.length (λv=>v.1) (λj _=>Fp (a.drop j) (b.drop j)=Fp a b) rfl (by simp) ?_
 rintro j ⟨i,⟨⟩⟩ K hj hi hR2 hK
 dsimp only at hi⊢
 subst hi
 refine Br.dec (λhl=>?_) λhl=>?_
 ·have hl:j<a.length:=by omega
  have hlb:j<b.length:=by omega
  rw [Hp hl,Hp hlb] at hR2
  simp only [Fp] at hR2
  refine ⟨_,Cf hl,_,Cf hlb,⟨λIp=>?_,λIp=>?_⟩⟩
  ·refine ⟨_,Cf hl,_,Cf hlb,?_⟩
   have Ip:a[j]≠b[j]:=by simpa using Ip
   unfold fF
   rw [<-hR2]
   by_cases h1:a[j]<b[j]
   ·rw [Ab h1];simp [h1]
   ·rw [Ai h1,Ab (by omega)];simp [h1]
  ·have Ip:a[j]=b[j]:=by simpa using Ip
   rw [Ai (by omega),Ai (by omega)] at hR2
   rw [Cb (by omega)]
   exact hK hl _ rfl hR2
 ·have:j=a.length:=by omega
  subst this
  rw [Zg,List.drop_eq_nil_of_le (by omega)] at hR2
  unfold fF
  rw [<-hR2]
  rfl
theorem uQ:Sound Try.prog 210 Yy:=
 Sound.Hg Ff Cc mixed Try.func210 (by kernel_rfl) (by kernel_rfl) λx h=>NI x.1 x.2.1 h
abbrev SS:Type:=List (List Int)×List Int×List Int×Bool×Unit
abbrev rLS:CK:= .row tL 31
abbrev rN:CK:= .row tI 3
def Gu (L:List (List Int)) (Nj:List Int) (s:List Int):Nat:=(Nj.takeWhile λi=>fF (L.getD i.toNat []) s).length
structure Gg (m:Nat) (L:List (List Int)) (Nj:List Int):Prop where
 gG:L.length<=3000
 len: ∀x∈L,x.length=m
 short:m<=20
 perm:Nj.Perm (upto L.length)
 sorted:Nj.Pairwise λi j=>fF (L.getD i.toNat []) (L.getD j.toNat [])=true
def cS (L:List (List Int)) (s:List Int):Int:=if s∈L then (L.idxOf s:Int) else-1
def Xv (Nj:List Int) (k:Nat) (x:Int):List Int:=Nj.take k++x::Nj.drop k
noncomputable abbrev fY:Spec:=Hg (.pair Xf (.pair tL .unit)) tI false true (λx=>Gg (List.length x.2.1) x.1.1 x.1.2.2.1) (λx=>(Gu x.1.1 x.1.2.2.1 x.2.1:Int))
noncomputable abbrev Nc:Spec:=Hg (.pair Xf (.pair tL .unit)) tI false true (λx=>Gg (List.length x.2.1) x.1.1 x.1.2.2.1) (λx=>cS x.1.1 x.2.1)
noncomputable abbrev mK:MSpec:=mA [some 4,none,none] [(false,rLS),(false,rL),(false,rN),(false, .Gw .bool),(false, .Gw tL),(false, .Gw tI)] false [some 4] [rLS,rL,rN, .Gw .bool]
 (λx=>Gg (List.length x.2.2.2.2.1) x.1 x.2.2.1/\List.length x.2.1<=3000) (λx=>((x.1++ [x.2.2.2.2.1],x.2.1++ [x.2.2.2.2.2.1],Xv x.2.2.1 (Gu x.1 x.2.2.1 x.2.2.2.2.1) (List.length x.1),x.2.2.2.1,()),()))
def aM (L:List (List Int)):List Int:=(List.range L.length).foldl (λ(S:List Int) (i:Nat)=>Xv S (Gu (L.take i) S (L.getD i [])) (i:Int)) []
def Ih (g:List (List Int)) (x:List Int) (d:Int):List Int->List (List Int)->List Int->List (List Int)×List Int×Bool
 | [],L,D=>(L,D,true)
 |l::ls,L,D=>if Ak x (Av g l)∈L then Ih g x d ls L D else if L.length=3000 then (L,D,false) else Ih g x d ls (L++ [Ak x (Av g l)]) (D++ [d+1])
def Le (g:List (List Int)) (ls:List Int):Nat->Nat->List (List Int)->List Int->List (List Int)×List Int×Bool
 |0,_,L,D=>(L,D,true)
 |f+1,k,L,D=>if k<L.length then (match Ih g (L.getD k []) (D.getD k 0) ls L D with
  |(L',D',true)=>Le g ls f (k+1) L' D'
  |(L',D',false)=>(L',D',false)) else (L,D,true)
def Jc (g:List (List Int)) (s:List Int):List (List Int)×List Int×Bool:=Le g (Ao g.length) 3001 0 [s] [0]
def Ib (g:List (List Int)) (s:List Int):SS:=((Jc g s).1,(Jc g s).2.1,aM (Jc g s).1,(Jc g s).2.2,())
noncomputable abbrev Hr:Spec:=Hg (.pair Iw (.pair tL .unit)) Xf false false (λx=>Cd x.1=true/\List.length x.2.1<=20/\ ∀y∈x.2.1,0<=y/\y<x.1.1) (λx=>Ib x.1.2.2.1 x.2.1)
abbrev SN:Type:=Int×Int×List (List Int)×List Int×List Int×Bool×PUnit
theorem Alg (f:List (List Int)×List Int×List Int×Bool×Unit) (s:List Int) (P:Int->Prop):(Ea (λ(v3:SN) (k4:SN->Prop)=>Br (decide (v3.1<v3.2.1)) ((2:Int)≠(0:Int)/\ ∃(y5:Int),idx v3.2.2.2.2.1 (IntKind.i64.wrap ((IntKind.i64.wrap (v3.1+v3.2.1)).tdiv (2:Int)))=some y5/\ ∃(y6:List Int),idx v3.2.2.1 y5=some y6/\ ∃(y7:Bool),Yy.fn (y6,s,())=some y7/\Br y7 (k4 (IntKind.i64.wrap (IntKind.i64.wrap ((IntKind.i64.wrap (v3.1+v3.2.1)).tdiv (2:Int))+(1:Int)),v3.2.1,v3.2.2.1,v3.2.2.2.1,v3.2.2.2.2.1,v3.2.2.2.2.2.1,())) (k4 (v3.1,IntKind.i64.wrap ((IntKind.i64.wrap (v3.1+v3.2.1)).tdiv (2:Int)),v3.2.2.1,v3.2.2.2.1,v3.2.2.2.2.1,v3.2.2.2.2.2.1,()))) (P v3.1)) ((0:Int),(↑f.2.2.1.length:Int),f.1,f.2.1,f.2.2.1,f.2.2.2.1,PUnit.unit))=fnW Gz (look [(210,Yy)]) fY Try.f185 (f,s,()) P:=by kernel_rfl
theorem Ad1 (f:List (List Int)×List Int×List Int×Bool×Unit) (s:List Int) (P:Int->Prop):(∃(y3:Int),fY.fn ((f.1,f.2.1,f.2.2.1,f.2.2.2.1,()),s,())=some y3/\Br (decide (y3<(↑f.2.2.1.length:Int))) (∃(y4:Int),idx f.2.2.1 y3=some y4/\ ∃(y5:List Int),idx f.1 y4=some y5/\ ∃(y6:Bool),Oh.fn (y5,s,())=some y6/\Br y6 (∃(y7:Int),idx f.2.2.1 y3=some y7/\P y7) (P (-1:Int))) (P (-1:Int)))=fnW Gz (look [(185,fY),(80,Oh)]) Nc Try.f134 (f,s,()) P:=by kernel_rfl
theorem Alf (L:List (List Int)) (D S:List Int) (b:Bool) (s:List Int) (d:Int) (P:((List (List Int)×List Int×List Int×Bool×Unit)×Unit)->Prop):(∃(y7:Int),fY.fn ((List.take L.length (List.drop 0 L),List.take D.length (List.drop 0 D),List.take S.length (List.drop 0 S),b,()),s,())=some y7/\0=0/\S.length=S.length/\S.length+(List.take 1 (List.drop 0 [(0:Int)])).length<=Dt/\((0:Int)<=IntKind.i64.wrap (y7+(1:Int))/\IntKind.i64.wrap (y7+(1:Int))<=(↑(S++List.take 1 (List.drop 0 [(0:Int)])).length:Int)/\(↑(S++List.take 1 (List.drop 0 [(0:Int)])).length:Int)<=(↑(S++List.take 1 (List.drop 0 [(0:Int)])).length:Int))/\((0:Int)<=y7/\y7<=(↑(S++List.take 1 (List.drop 0 [(0:Int)])).length:Int)/\(↑(S++List.take 1 (List.drop 0 [(0:Int)])).length:Int)<=(↑(S++List.take 1 (List.drop 0 [(0:Int)])).length:Int))/\((0:Int)<=y7/\y7<(↑(S++List.take 1 (List.drop 0 [(0:Int)])).length:Int))/\0+y7.toNat<(Dw (S++List.take 1 (List.drop 0 [(0:Int)])) (0+(IntKind.i64.wrap (y7+(1:Int))).toNat) (List.take ((↑(S++List.take 1 (List.drop 0 [(0:Int)])).length:Int).toNat-(IntKind.i64.wrap (y7+(1:Int))).toNat) (List.take ((↑(S++List.take 1 (List.drop 0 [(0:Int)])).length:Int).toNat-y7.toNat) (List.drop (0+y7.toNat) (S++List.take 1 (List.drop 0 [(0:Int)])))))).length/\0=0/\L.length=L.length/\L.length+(List.take 1 (List.drop 0 [s])).length<=Dt/\0=0/\D.length=D.length/\D.length+(List.take 1 (List.drop 0 [d])).length<=Dt/\P ((List.take (L++List.take 1 (List.drop 0 [s])).length (List.drop 0 (L++List.take 1 (List.drop 0 [s]))),List.take (D++List.take 1 (List.drop 0 [d])).length (List.drop 0 (D++List.take 1 (List.drop 0 [d]))),List.take (S++List.take 1 (List.drop 0 [(0:Int)])).length (List.drop 0 ((Dw (S++List.take 1 (List.drop 0 [(0:Int)])) (0+(IntKind.i64.wrap (y7+(1:Int))).toNat) (List.take ((↑(S++List.take 1 (List.drop 0 [(0:Int)])).length:Int).toNat-(IntKind.i64.wrap (y7+(1:Int))).toNat) (List.take ((↑(S++List.take 1 (List.drop 0 [(0:Int)])).length:Int).toNat-y7.toNat) (List.drop (0+y7.toNat) (S++List.take 1 (List.drop 0 [(0:Int)])))))).set (0+y7.toNat) (↑L.length:Int))),b,()),()))=fnMW Uk (look [(185,fY)]) mK Try.f192 (L,D,S,b,s,d,()) P:=by kernel_rfl
abbrev oH:Type:=Int×Int×ByteArray×List (List Int)×Bool×Bool×List (List Int)×List Int×List Int×List (List Int)×List Int×List Int×PUnit
abbrev IU:Type:=(List (List Int)×List Int×List Int×Bool×PUnit)×PUnit
theorem Aga (p:Int×ByteArray×List (List Int)×Unit) (s:List Int) (P:(List (List Int)×List Int×List Int×Bool×Unit)->Prop):(∃(y3:List Int),Qe.fn (s,())=some y3/\ ∃(y4:IU),mK.fn ([],[],[],false,y3,(0:Int),())=some y4/\ ∃(y5:List Int),Vv.fn ((p.1,p.2.1,p.2.2.1,()),())=some y5/\0=0/\0=([]:List Int).length/\0=0/\0=([]:List Int).length/\0=0/\0=([]:List Int).length/\0=0/\y4.1.1.length=y4.1.1.length/\0=0/\y4.1.2.1.length=y4.1.2.1.length/\0=0/\y4.1.2.2.1.length=y4.1.2.2.1.length/\Ea (λ(v6:oH) (k7:oH->Prop)=>Br (decide (v6.1<(↑v6.2.2.2.2.2.2.2.2.2.1.length:Int))) (0=0/\v6.2.2.2.2.2.2.1.length=v6.2.2.2.2.2.2.1.length/\0=0/\v6.2.2.2.2.2.2.2.1.length=v6.2.2.2.2.2.2.2.1.length/\0=0/\v6.2.2.2.2.2.2.2.2.1.length=v6.2.2.2.2.2.2.2.2.1.length/\0=0/\v6.2.2.2.2.2.2.2.2.2.1.length=v6.2.2.2.2.2.2.2.2.2.1.length/\0=0/\v6.2.2.2.2.2.2.2.2.2.2.1.length=v6.2.2.2.2.2.2.2.2.2.2.1.length/\0=0/\v6.2.2.2.2.2.2.2.2.2.2.2.1.length=v6.2.2.2.2.2.2.2.2.2.2.2.1.length/\Ea (λ(v8:oH) (k9:oH->Prop)=>Br (decide (v8.1<(↑y5.length:Int))) (((0:Int)<=v6.1/\v6.1<(↑v8.2.2.2.2.2.2.2.2.2.1.length:Int))/\ ∃(aC:List Int),v8.2.2.2.2.2.2.2.2.2.1[0+v6.1.toNat]?=some aC/\ ∃(Th:Int),idx y5 v8.1=some Th/\ ∃(Xp:List Int),eH.fn ((v8.2.1,v8.2.2.1,v8.2.2.2.1,()),aC,Th,())=some Xp/\ ∃(gx:Int),Nc.fn ((List.take v8.2.2.2.2.2.2.2.2.2.1.length (List.drop 0 v8.2.2.2.2.2.2.2.2.2.1),List.take v8.2.2.2.2.2.2.2.2.2.2.1.length (List.drop 0 v8.2.2.2.2.2.2.2.2.2.2.1),List.take v8.2.2.2.2.2.2.2.2.2.2.2.1.length (List.drop 0 v8.2.2.2.2.2.2.2.2.2.2.2.1),v8.2.2.2.2.2.1,()),Xp,())=some gx/\Br (decide (gx>=(0:Int))) (0=0/\v8.2.2.2.2.2.2.1.length=v8.2.2.2.2.2.2.1.length/\0=0/\v8.2.2.2.2.2.2.2.1.length=v8.2.2.2.2.2.2.2.1.length/\0=0/\v8.2.2.2.2.2.2.2.2.1.length=v8.2.2.2.2.2.2.2.2.1.length/\0=0/\v8.2.2.2.2.2.2.2.2.2.1.length=v8.2.2.2.2.2.2.2.2.2.1.length/\0=0/\v8.2.2.2.2.2.2.2.2.2.2.1.length=v8.2.2.2.2.2.2.2.2.2.2.1.length/\0=0/\v8.2.2.2.2.2.2.2.2.2.2.2.1.length=v8.2.2.2.2.2.2.2.2.2.2.2.1.length/\k9 (IntKind.i64.wrap (v8.1+(1:Int)),v8.2.1,v8.2.2.1,v8.2.2.2.1,v8.2.2.2.2.1,v8.2.2.2.2.2.1,v8.2.2.2.2.2.2.1,v8.2.2.2.2.2.2.2.1,v8.2.2.2.2.2.2.2.2.1,v8.2.2.2.2.2.2.2.2.2.1,v8.2.2.2.2.2.2.2.2.2.2.1,v8.2.2.2.2.2.2.2.2.2.2.2.1,())) (Br ((↑v8.2.2.2.2.2.2.2.2.2.1.length:Int)==(3000:Int)) (P (List.take v8.2.2.2.2.2.2.2.2.2.1.length (List.drop 0 v8.2.2.2.2.2.2.2.2.2.1),List.take v8.2.2.2.2.2.2.2.2.2.2.1.length (List.drop 0 v8.2.2.2.2.2.2.2.2.2.2.1),List.take v8.2.2.2.2.2.2.2.2.2.2.2.1.length (List.drop 0 v8.2.2.2.2.2.2.2.2.2.2.2.1),v8.2.2.2.2.2.1,())) (((0:Int)<=v6.1/\v6.1<(↑v8.2.2.2.2.2.2.2.2.2.2.1.length:Int))/\ ∃(Vi:Int),v8.2.2.2.2.2.2.2.2.2.2.1[0+v6.1.toNat]?=some Vi/\0=0/\v8.2.2.2.2.2.2.2.2.2.1.length=v8.2.2.2.2.2.2.2.2.2.1.length/\0=0/\v8.2.2.2.2.2.2.2.2.2.2.1.length=v8.2.2.2.2.2.2.2.2.2.2.1.length/\0=0/\v8.2.2.2.2.2.2.2.2.2.2.2.1.length=v8.2.2.2.2.2.2.2.2.2.2.2.1.length/\ ∃(dO:IU),mK.fn (v8.2.2.2.2.2.2.2.2.2.1,v8.2.2.2.2.2.2.2.2.2.2.1,v8.2.2.2.2.2.2.2.2.2.2.2.1,v8.2.2.2.2.2.1,Xp,IntKind.i64.wrap (Vi+(1:Int)),())=some dO/\0=0/\v8.2.2.2.2.2.2.1.length=v8.2.2.2.2.2.2.1.length/\0=0/\v8.2.2.2.2.2.2.2.1.length=v8.2.2.2.2.2.2.2.1.length/\0=0/\v8.2.2.2.2.2.2.2.2.1.length=v8.2.2.2.2.2.2.2.2.1.length/\0=0/\dO.1.1.length=dO.1.1.length/\0=0/\dO.1.2.1.length=dO.1.2.1.length/\0=0/\dO.1.2.2.1.length=dO.1.2.2.1.length/\k9 (IntKind.i64.wrap (v8.1+(1:Int)),v8.2.1,v8.2.2.1,v8.2.2.2.1,v8.2.2.2.2.1,dO.1.2.2.2.1,v8.2.2.2.2.2.2.1,v8.2.2.2.2.2.2.2.1,v8.2.2.2.2.2.2.2.2.1,dO.1.1,dO.1.2.1,dO.1.2.2.1,())))) (0=0/\v8.2.2.2.2.2.2.1.length=v8.2.2.2.2.2.2.1.length/\0=0/\v8.2.2.2.2.2.2.2.1.length=v8.2.2.2.2.2.2.2.1.length/\0=0/\v8.2.2.2.2.2.2.2.2.1.length=v8.2.2.2.2.2.2.2.2.1.length/\0=0/\v8.2.2.2.2.2.2.2.2.2.1.length=v8.2.2.2.2.2.2.2.2.2.1.length/\0=0/\v8.2.2.2.2.2.2.2.2.2.2.1.length=v8.2.2.2.2.2.2.2.2.2.2.1.length/\0=0/\v8.2.2.2.2.2.2.2.2.2.2.2.1.length=v8.2.2.2.2.2.2.2.2.2.2.2.1.length/\k7 (IntKind.i64.wrap (v6.1+(1:Int)),v8.2.1,v8.2.2.1,v8.2.2.2.1,v8.2.2.2.2.1,v8.2.2.2.2.2.1,v8.2.2.2.2.2.2.1,v8.2.2.2.2.2.2.2.1,v8.2.2.2.2.2.2.2.2.1,v8.2.2.2.2.2.2.2.2.2.1,v8.2.2.2.2.2.2.2.2.2.2.1,v8.2.2.2.2.2.2.2.2.2.2.2.1,()))) ((0:Int),v6.2.1,v6.2.2.1,v6.2.2.2.1,v6.2.2.2.2.1,v6.2.2.2.2.2.1,v6.2.2.2.2.2.2.1,v6.2.2.2.2.2.2.2.1,v6.2.2.2.2.2.2.2.2.1,v6.2.2.2.2.2.2.2.2.2.1,v6.2.2.2.2.2.2.2.2.2.2.1,v6.2.2.2.2.2.2.2.2.2.2.2.1,PUnit.unit)) (P (List.take v6.2.2.2.2.2.2.2.2.2.1.length (List.drop 0 v6.2.2.2.2.2.2.2.2.2.1),List.take v6.2.2.2.2.2.2.2.2.2.2.1.length (List.drop 0 v6.2.2.2.2.2.2.2.2.2.2.1),List.take v6.2.2.2.2.2.2.2.2.2.2.2.1.length (List.drop 0 v6.2.2.2.2.2.2.2.2.2.2.2.1),true,()))) ((0:Int),p.1,p.2.1,p.2.2.1,false,y4.1.2.2.2.1,[],[],[],y4.1.1,y4.1.2.1,y4.1.2.2.1,PUnit.unit))=fnW Al2 (look [(86,Qe),(192,mK),(144,Vv),(145,eH),(134,Nc)]) Hr Try.f153 (p,s,()) P:=by kernel_rfl
theorem sQ: ∀ {a b:List Int},Fp a b=0↔a=b
 | [],[]=>by simp [Fp]
 | [],_::_=>by simp [Fp]
 |_::_,[]=>by simp [Fp]
 |x::a,y::b=>by
  simp only [Fp,Ha]
  by_cases h1:x<y
  ·rw [Ab h1]
   exact ⟨λh=>by omega,λh=>by omega⟩
  ·rw [Ai h1]
   by_cases h2:x>y
   ·rw [Ab h2]
    exact ⟨λh=>by omega,λh=>by omega⟩
   ·rw [Ai h2,sQ]
    exact ⟨λh=>⟨by omega,h⟩,λh=>h.2⟩
theorem QE: ∀(a b:List Int),Fp b a= -Fp a b
 | [],[]=>by simp [Fp]
 | [],_::_=>by simp [Fp]
 |_::_,[]=>by simp [Fp]
 |x::a,y::b=>by
  simp only [Fp]
  rcases Int.lt_trichotomy x y with h1|h1|h1
  ·simp [h1,show ¬y<x by omega]
  ·subst h1
   simp [QE a b]
  ·simp [h1,show ¬x<y by omega]
theorem xd: ∀ {a b c:List Int},Fp a b<0->Fp b c<0->Fp a c<0
 | [],[],_,h,_=>by simp [Fp] at h
 |_::_,[],_,h,_=>by simp [Fp] at h
 |_,_::_,[],_,h=>by simp [Fp] at h
 | [],_::_,_::_,_,_=>by simp [Fp]
 |x::a,y::b,z::c,h1,h2=>by
  simp only [Fp] at h1 h2⊢
  by_cases e1:x<y
  ·by_cases e2:y<z
   ·rw [Ab (by omega)];omega
   ·rw [Ai e2] at h2
    by_cases e3:y>z
    ·rw [Ab e3] at h2;omega
    ·rw [Ab (by omega)];omega
  ·rw [Ai e1] at h1
   by_cases e2:x>y
   ·rw [Ab e2] at h1;omega
   ·rw [Ai e2] at h1
    by_cases e3:y<z
    ·rw [Ab (by omega)];omega
    ·rw [Ai e3] at h2
     by_cases e4:y>z
     ·rw [Ab e4] at h2;omega
     ·rw [Ai e4] at h2
      rw [Ai (by omega),Ai (by omega)]
      exact xd h1 h2
theorem lt_iff {a b:List Int} :fF a b=true↔Fp a b<0:=Jj
theorem UH {a b c:List Int} (h1:fF a b=true) (h2:fF b c=true):fF a c=true:=lt_iff.2 (xd (lt_iff.1 h1) (lt_iff.1 h2))
theorem mw (a:List Int):fF a a=false:=by
 have:Fp a a=0:=sQ.2 rfl
 unfold fF;rw [this];rfl
theorem Aao {a b:List Int} (h:fF a b=false) (Ip:a≠b):fF b a=true:=by
 rw [lt_iff,QE a b]
 have h1: ¬Fp a b<0:= λh'=>by rw [lt_iff.2 h'] at h;cases h
 have h2:Fp a b≠0:= λh'=>Ip (sQ.1 h')
 omega
theorem lJ {α:Type} (q:α->Bool): ∀(l:List α),l.Pairwise (λi j=>q j=true->q i=true)-> ∀k (hk:k<l.length),k<(l.takeWhile q).length↔q l[k]=true
 | [],_,k,hk=>by simp at hk
 |a::l,h,k,hk=>by
  obtain ⟨h1,h2⟩:=List.pairwise_cons.1 h
  by_cases ha:q a=true
  ·rw [List.takeWhile_cons_of_pos ha]
   rcases k with _|k
   ·simpa using ha
   ·simp only [Aw,List.getElem_cons_succ,Nat.add_lt_add_iff_right]
    exact lJ q l h2 k (by simpa using hk)
  ·rw [List.takeWhile_cons_of_neg ha]
   simp only [Dv,Et,false_iff]
   rcases k with _|k
   ·exact ha
   ·simp only [List.getElem_cons_succ]
    exact λhq=>ha (h1 _ (Am _) hq)
theorem Gg.tP {m:Nat} {L:List (List Int)} {Nj:List Int} (h:Gg m L Nj):Nj.length=L.length:=by rw [h.perm.length_eq,Nf]
theorem Gg.idx {m:Nat} {L:List (List Int)} {Nj:List Int} (h:Gg m L Nj) {k:Nat} (hk:k<Nj.length):0<=Nj[k]/\Nj[k]<L.length:=Lo.1 (h.perm.mem_iff.1 (Am hk))
theorem Gg.eO {m:Nat} {L:List (List Int)} {Nj:List Int} (h:Gg m L Nj) (s:List Int) {k:Nat} (hk:k<Nj.length):k<Gu L Nj s↔fF (L.getD Nj[k].toNat []) s=true:=
 lJ _ Nj (h.sorted.imp λeX hj=>UH eX hj) k hk
theorem SE (L:List (List Int)) (Nj s:List Int):Gu L Nj s<=Nj.length:=(List.takeWhile_sublist _).length_le
theorem Gg.inj {m:Nat} {L:List (List Int)} {Nj:List Int} (h:Gg m L Nj) {i j:Nat} (hi:i<L.length) (hj:j<L.length) (e:L[i]=L[j]):i=j:=by
 have mem: ∀i,i<L.length->(i:Int)∈Nj:= λi hi=>h.perm.mem_iff.2 (Lo.2 ⟨by omega,by omega⟩)
 obtain ⟨p,hp,ep⟩:=Bf.1 (mem i hi)
 obtain ⟨q,hq,eq⟩:=Bf.1 (mem j hj)
 have get: ∀i (hi:i<L.length),L.getD ((i:Int)).toNat []=L[i]:= λi hi=>by rw [Ac,Al,Ad hi];rfl
 rcases Nat.lt_trichotomy p q with h1|h1|h1
 ·have:=Ez.1 h.sorted p q hp hq h1
  rw [ep,eq,get i hi,get j hj,e,mw] at this
  cases this
 ·subst h1
  rw [ep] at eq
  omega
 ·have:=Ez.1 h.sorted q p hq hp h1
  rw [ep,eq,get i hi,get j hj,e,mw] at this
  cases this
theorem Wn {L:List (List Int)} {k:Nat} (h:k<L.length):L.getD k []=L[k]:=by rw [Al,Ad h];rfl
theorem Gg.yO {m:Nat} {L:List (List Int)} {Nj:List Int} (h:Gg m L Nj) {s:List Int} :
  (∃hk:Gu L Nj s<Nj.length,L.getD Nj[Gu L Nj s].toNat []=s/\cS L s=Nj[Gu L Nj s])\/(cS L s= -1/\ ∀hk:Gu L Nj s<Nj.length,L.getD Nj[Gu L Nj s].toNat []≠s):=by
 by_cases hm:s∈L
 ·left
  obtain ⟨j,hj,rfl⟩:=Bf.1 hm
  obtain ⟨p,hp,ep⟩:=Bf.1 (h.perm.mem_iff.2 (Lo.2 ⟨by omega,by omega⟩):(j:Int)∈Nj)
  have gj:L.getD Nj[p].toNat []=L[j]:=by rw [ep,Ac,Wn hj]
  have hs:Gu L Nj L[j]=p:=by
   have h1: ¬p<Gu L Nj L[j]:= λh1=>by
    have:=(h.eO L[j] hp).1 h1
    rw [gj,mw] at this;cases this
   have h2: ¬Gu L Nj L[j]<p:= λh2=>by
    have h3:=(h.eO L[j] (k:=Gu L Nj L[j]) (by omega)).2 (by
     have:=Ez.1 h.sorted (Gu L Nj L[j]) p (by omega) hp h2
     rw [gj] at this;exact this)
    omega
   omega
  have hx:L.idxOf L[j]=j:=by
   have h1:L.idxOf L[j]<L.length:=Ef hm
   exact h.inj h1 hj (Ml h1)
  refine ⟨by omega,?_,?_⟩
  ·simp only [hs];exact gj
  ·unfold cS
   rw [Ab hm,hx]
   simp only [hs];exact ep.symm
 ·right
  refine ⟨by unfold cS;rw [Ai hm],λhk e=>hm ?_⟩
  have hi:=h.idx hk
  rw [Wn (by omega)] at e
  rw [<-e]
  exact Am _
theorem Aac (Nj:List Int) (k:Nat) (x:Int):(Xv Nj k x).Perm (x::Nj):=by
 unfold Xv
 refine List.perm_middle.trans (List.Perm.cons x ?_)
 rw [Ka]
theorem Gg.add {m:Nat} {L:List (List Int)} {Nj s:List Int} (h:Gg m L Nj) (hn:s∉L) (hl:s.length=m) (hr:L.length<3000):Gg m (L++ [s]) (Xv Nj (Gu L Nj s) L.length):=by
 have EZ: ∀i∈Nj,(L++ [s]).getD i.toNat []=L.getD i.toNat []:= λi hi=>by
  have:=Lo.1 (h.perm.mem_iff.1 hi)
  rw [Al,Al,Au (by omega)]
 have Amq:(L++ [s]).getD ((L.length:Int)).toNat []=s:=by
  rw [Ac,Al,At (by omega),Nat.sub_self];rfl
 refine ⟨by rw [Ax,Bn];omega,λx hx=>?_,h.short,?_,?_⟩
 ·rcases Az.1 hx with hx|hx
  ·exact h.len x hx
  ·rw [Af.1 hx];exact hl
 ·refine (Aac _ _ _).trans ?_
  rw [Ax,Bn,bC]
  exact (List.Perm.cons _ h.perm).trans (List.perm_append_singleton _ _).symm
 ·unfold Xv
  have hs:=h.sorted
  rw [<-Ka (Gu L Nj s) Nj] at hs
  obtain ⟨s1,s2,s3⟩:=dS.1 hs
  have mt: ∀i∈Nj.take (Gu L Nj s),i∈Nj/\fF (L.getD i.toNat []) s=true:= λi hi=>by
   obtain ⟨k,hk,rfl⟩:=Bf.1 hi
   have hk2:k<Gu L Nj s:=by rw [Ec] at hk;omega
   have hk3:k<Nj.length:=by rw [Ec] at hk;omega
   rw [List.getElem_take]
   exact ⟨Am _,(h.eO s hk3).1 hk2⟩
  have md: ∀i∈Nj.drop (Gu L Nj s),i∈Nj/\fF s (L.getD i.toNat [])=true:= λi hi=>by
   obtain ⟨k,hk,rfl⟩:=Bf.1 hi
   rw [Zi] at hk
   have hk3:Gu L Nj s+k<Nj.length:=by omega
   rw [List.getElem_drop]
   refine ⟨Am _,Aao ?_ λe=>hn ?_⟩
   ·exact Bool.eq_false_iff.2 λhh=>by
     have:=(h.eO s hk3).2 hh
     omega
   ·have hi:=h.idx hk3
    rw [Wn (by omega)] at e
    rw [<-e];exact Am _
  refine dS.2 ⟨s1.imp_of_mem λ {a b} ha hb CW=>?_,List.pairwise_cons.2 ⟨λb hb=>?_,s2.imp_of_mem λ {a b} ha hb CW=>?_⟩,λa ha b hb=>?_⟩
  ·rw [EZ a (mt a ha).1,EZ b (mt b hb).1];exact CW
  ·rw [Amq,EZ b (md b hb).1];exact (md b hb).2
  ·rw [EZ a (md a ha).1,EZ b (md b hb).1];exact CW
  ·rcases Bb.1 hb with rfl|hb
   ·rw [Amq,EZ a (mt a ha).1];exact (mt a ha).2
   ·rw [EZ a (mt a ha).1,EZ b (md b hb).1];exact s3 a ha b hb
theorem gg (L:List (List Int)) (s:List Int):aM (L++ [s])=Xv (aM L) (Gu L (aM L) s) L.length:=by
 unfold aM
 rw [Ax,Bn,Jq,Hz]
 have e: ∀(is:List Nat) (S:List Int),(∀i∈is,i<L.length)->is.foldl (λ(S:List Int) (i:Nat)=>Xv S (Gu ((L++ [s]).take i) S ((L++ [s]).getD i [])) (i:Int)) S=is.foldl (λ(S:List Int) (i:Nat)=>Xv S (Gu (L.take i) S (L.getD i [])) (i:Int)) S:=by
  intro is
  induction is with
  |nil=>intro S _;rfl
  |cons i is ih=>
   intro S h
   have hi:=h i (by simp)
   rw [Rd,Rd,ih _ λj hj=>h j (As _ hj)]
   congr 2
   rw [List.take_append_of_le_length (by omega),Al,Au hi,<-Al]
 rw [e _ _ λi hi=>Fb.1 hi]
 simp only [Rd,List.foldl_nil]
 congr 2
 ·rw [List.take_append_of_le_length (Aq _),Bh]
 ·rw [Al,At (by omega),Nat.sub_self];rfl
theorem ou {m:Nat} (h:m<=20):Gg m [] []:=⟨by simp,λx hx=>(by cases hx),h,by simp [upto],List.Pairwise.nil⟩
theorem Aaa {α:Type} {xs:List α} {y:Int} (h0:0<=y) (h:y.toNat<xs.length):idx xs y=some xs[y.toNat]:=by
 unfold idx
 rw [Ab h0,Ad h]
theorem Akl (f:SS) (s:List Int) (h:Gg s.length f.1 f.2.2.1):fnW Gz (look [(210,Yy)]) fY Try.f185 (f,s,()) (λ(z:Int)=>z=(Gu f.1 f.2.2.1 s:Int)):=by
 obtain ⟨L,D,Nj,b,⟨⟩⟩:=f
 dsimp only at h⊢
 have hle:=SE L Nj s
 have nS:=h.tP
 have rD:=h.gG
 refine Eq.mp (Alg (L,D,Nj,b,()) s _) ?_
 refine Ea.mk (λv=>v.2.2.1=L/\v.2.2.2.2.1=Nj/\ ∃lo hi:Nat,v.1=lo/\v.2.1=hi/\lo<=hi/\hi<=Nj.length/\lo<=Gu L Nj s/\Gu L Nj s<=hi) (λv=>(v.2.1-v.1).toNat)
  ⟨rfl,rfl,0,Nj.length,rfl,rfl,by omega,by omega,by omega,hle⟩ ?_
 rintro ⟨lo',cM,L',D',WA,b',⟨⟩⟩ ⟨h1,h2,lo,hi,h3,h4,h5,h6,h7,h8⟩
 dsimp only at h1 h2 h3 h4⊢
 subst h1 h2 h3 h4
 refine Br.dec (λhl=>?_) λhl=>?_
 ·have em:IntKind.i64.wrap ((IntKind.i64.wrap ((lo:Int)+(hi:Int))).tdiv 2)=(((lo+hi)/2:Nat):Int):=by
   rw [Cj (n:=(lo:Int)+(hi:Int)) (by omega) (by omega),Int.tdiv_eq_ediv_of_nonneg (by omega),Cj (by omega) (by omega)]
   omega
  rw [em]
  have hm1:(lo+hi)/2<WA.length:=by omega
  have hi1:=h.idx hm1
  have hi2:WA[(lo+hi)/2].toNat<L'.length:=by omega
  have hgd:=Wn hi2
  have hlen:=h.len _ (Am hi2)
  have qz:short L'[WA[(lo+hi)/2].toNat]:=by
   unfold short
   have:=h.short;omega
  refine ⟨by decide,_,Cf hm1,_,Aaa hi1.1 hi2,_,Ab ⟨qz,hlen⟩,⟨λhc=>?_,λhc=>?_⟩⟩
  ·have hc:fF L'[WA[(lo+hi)/2].toNat] s=true:=hc
   have hs:=(h.eO s hm1).2 (by rw [hgd];exact hc)
   rw [Cb (by omega)]
   exact ⟨⟨rfl,rfl,(lo+hi)/2+1,hi,rfl,rfl,by omega,h6,by omega,h8⟩,by omega⟩
  ·have hc:fF L'[WA[(lo+hi)/2].toNat] s=false:=hc
   have hs: ¬(lo+hi)/2<Gu L' WA s:= λhh=>by
    have:=(h.eO s hm1).1 hh
    rw [hgd,hc] at this;cases this
   exact ⟨⟨rfl,rfl,lo,(lo+hi)/2,rfl,rfl,by omega,by omega,h7,by omega⟩,by omega⟩
 ·show (lo:Int)=_
  omega
theorem uS:Sound Try.prog 185 fY:=
 Sound.Hg Ff (Ba uQ Cc) mixed Try.func185 (by kernel_rfl) (by kernel_rfl) λx h=>Akl x.1 x.2.1 h
theorem Abd (f:SS) (s:List Int) (h:Gg s.length f.1 f.2.2.1):fnW Gz (look [(185,fY),(80,Oh)]) Nc Try.f134 (f,s,()) (λ(z:Int)=>z=cS f.1 s):=by
 obtain ⟨L,D,Nj,b,⟨⟩⟩:=f
 dsimp only at h⊢
 refine Eq.mp (Ad1 (L,D,Nj,b,()) s _) ⟨_,Ab h,Br.dec (λhl=>?_) λhl=>?_⟩
 ·have hl:Gu L Nj s<Nj.length:=by
   have hl:((Gu L Nj s:Nat):Int)<(Nj.length:Int):=hl
   omega
  have hi1:=h.idx hl
  have hi2:Nj[Gu L Nj s].toNat<L.length:=by omega
  have hgd:=Wn hi2
  have hlen:=h.len _ (Am hi2)
  have qz:short L[Nj[Gu L Nj s].toNat]:=by
   unfold short
   have:=h.short;omega
  refine ⟨_,Cf hl,_,Aaa hi1.1 hi2,_,Ab qz,⟨λhc=>⟨_,Cf hl,?_⟩,λhc=>?_⟩⟩
  ·have hc:L[Nj[Gu L Nj s].toNat]=s:=Ia hc
   rcases h.yO (s:=s) with ⟨hk,_,e⟩|⟨_,Ip⟩
   ·exact e.symm
   ·exact absurd (by rw [hgd];exact hc) (Ip hl)
  ·have hc: ¬L[Nj[Gu L Nj s].toNat]=s:=of_decide_eq_false hc
   rcases h.yO (s:=s) with ⟨hk,e,_⟩|⟨e,_⟩
   ·rw [hgd] at e;exact absurd e hc
   ·exact e.symm
 ·have hl: ¬Gu L Nj s<Nj.length:=by
   have hl: ¬((Gu L Nj s:Nat):Int)<(Nj.length:Int):=hl
   omega
  rcases h.yO (s:=s) with ⟨hk,e,_⟩|⟨e,_⟩
  ·exact absurd hk hl
  ·exact e.symm
theorem bf:Sound Try.prog 134 Nc:=
 Sound.Hg Ff (Ba uS (Ba gT Cc)) mixed Try.func134 (by kernel_rfl) (by kernel_rfl) λx h=>Abd x.1 x.2.1 h
theorem MD {S:List Int} {k:Nat} (h:k<=S.length) (n:Int):
  (Dw (S++ [0]) (k+1) (List.take ((S++ [0]).length-(k+1)) (List.take ((S++ [0]).length-k) (List.drop k (S++ [0]))))).set k n=Xv S k n:=by
 obtain ⟨A,B,rfl,hA⟩: ∃A B,S=A++B/\A.length=k:=⟨S.take k,S.drop k,(Ka k S).symm,by rw [Ec];omega⟩
 subst hA
 have e1:List.drop A.length (A++B++ [0])=B++ [0]:=by rw [Bo,List.drop_left]
 have e2:List.take ((A++B++ [0]).length-A.length) (B++ [0])=B++ [0]:=Nq (by simp only [Ax,Bn];omega)
 have e3:List.take ((A++B++ [0]).length-(A.length+1)) (B++ [0])=B:=by
  have:(A++B++ [(0:Int)]).length-(A.length+1)=B.length:=by simp only [Ax,Bn];omega
  rw [this,List.take_left]
 rw [e1,e2,e3]
 unfold Dw Xv
 have e4:List.drop (A.length+1+B.length) (A++B++ [0])= []:=List.drop_eq_nil_of_le (by simp only [Ax,Bn];omega)
 obtain ⟨c,hc⟩: ∃c,List.take (A.length+1) (A++B++ [0])=A++ [c]:=by
  rw [Bo,List.take_append,Nq (by omega)]
  cases B with
  |nil=>exact ⟨0,by simp⟩
  |cons b B=>exact ⟨b,by simp⟩
 rw [e4,hc,List.append_nil,Bo,List.singleton_append,Afm,List.take_left,List.drop_left]
theorem Akk (L:List (List Int)) (D S:List Int) (b:Bool) (s:List Int) (d:Int) (h:Gg s.length L S/\D.length<=3000):
  fnMW Uk (look [(185,fY)]) mK Try.f192 (L,D,S,b,s,d,()) (λ(z:(List (List Int)×List Int×List Int×Bool×Unit)×Unit)=>z=((L++ [s],D++ [d],Xv S (Gu L S s) L.length,b,()),())):=by
 obtain ⟨h,hD⟩:=h
 have hle:=SE L S s
 have nS:=h.tP
 have rD:=h.gG
 refine Eq.mp (Alf L D S b s d _) ?_
 rw [Dd L,Dd D,Dd S]
 refine ⟨_,Ab h,?_⟩
 dsimp only
 have es:List.take 1 (List.drop 0 [(0:Int)])= [0]:=rfl
 have el:(S++ [(0:Int)]).length=S.length+1:=by simp
 rw [es,Cb (by omega),Bk,Bk,Ac,Ac,Ac]
 refine ⟨rfl,rfl,by show S.length+1<=4294967296;omega,⟨by omega,by omega,by omega⟩,⟨by omega,by omega,by omega⟩,⟨by omega,by omega⟩,?_,rfl,rfl,by show L.length+1<=4294967296;omega,rfl,rfl,by show D.length+1<=4294967296;omega,?_⟩
 ·unfold Dw
  simp only [Ax,Ec,Zi,Bn]
  omega
 ·rw [MD hle,Dd,Dd]
  have e5:List.take (S++ [(0:Int)]).length (List.drop 0 (Xv S (Gu L S s) (L.length:Int)))=Xv S (Gu L S s) (L.length:Int):=by
   rw [Du,Nq]
   unfold Xv
   simp only [Ax,Aw,Ec,Zi,Dv]
   omega
  rw [e5]
  rfl
theorem OQ:Dx Try.prog 192 mK:=
 Dx.mA Sn (Ba uS Cc) mixed Try.func192 (by kernel_rfl) (by kernel_rfl) λx h=>Akk x.1 x.2.1 x.2.2.1 x.2.2.2.1 x.2.2.2.2.1 x.2.2.2.2.2.1 h
structure Xq (p:PP) (m:Nat) (L:List (List Int)) (D:List Int):Prop where
 ok:Gg m L (aM L)
 len:D.length=L.length
 row: ∀x∈L,∀y∈x,0<=y/\y<p.1
 dep: ∀j (h:j<D.length),0<=D[j]/\D[j]<=j
theorem zR {p:PP} (hv:Valid p) {x:List Int} {l:Int} (hx: ∀y∈x,0<=y/\y<p.1) (hl:Fy (List.length p.2.2.1) l):
  (Ak x (Av p.2.2.1 l)).length=x.length/\ ∀y∈Ak x (Av p.2.2.1 l),0<=y/\y<p.1:=by
 obtain ⟨h1,h2⟩:=pt hv hl
 refine ⟨Rw _ _,λy hy=>?_⟩
 have:=EC (n:=(Av p.2.2.1 l).length) (λz hz=>by have:=hx z hz;omega) h2 y hy
 omega
theorem Xq.add {p:PP} {m:Nat} {L:List (List Int)} {D:List Int} (h:Xq p m L D) {y:List Int} {d:Int} (hn:y∉L) (hl:y.length=m) (hr:L.length<3000) (hy: ∀z∈y,0<=z/\z<p.1) (hd:0<=d/\d<=L.length):Xq p m (L++ [y]) (D++ [d]):=by
 have hlen:=h.len
 refine ⟨by rw [gg];exact h.ok.add hn hl hr,by simp [hlen],λx hx=>?_,λj hj=>?_⟩
 ·rcases Az.1 hx with hx|hx
  ·exact h.row x hx
  ·rw [Af.1 hx];exact hy
 ·by_cases e:j<D.length
  ·rw [Xj e];exact h.dep j e
  ·simp only [Ax,Bn] at hj
   have:j=D.length:=by omega
   subst this
   rw [List.getElem_append_right (by omega)]
   simp only [Nat.sub_self,List.getElem_cons_zero]
   omega
theorem kb {p:PP} {s:List Int} (hs:s.length<=20) (hr: ∀y∈s,0<=y/\y<p.1):Xq p s.length [s] [0]:=by
 refine ⟨?_,rfl,λx hx=>by rw [Af.1 hx];exact hr,λj hj=>?_⟩
 ·have:=(ou hs).add (s:=s) (by simp) rfl (by simp)
  have e:aM [s]=Xv [] (Gu [] [] s) 0:=gg [] s
  rw [e];exact this
 ·simp only [Bn] at hj
  have:j=0:=by omega
  subst this
  simp
theorem xM {L:List (List Int)} {s:List Int} :cS L s>=0↔s∈L:=by
 unfold cS
 split
 ·rename_i h;exact ⟨λ_=>h,λ_=>by omega⟩
 ·rename_i h;exact ⟨λhh=>by omega,λhh=>absurd hh h⟩
theorem Afg (p:PP) (s:List Int) (h:Cd p=true/\s.length<=20/\ ∀y∈s,0<=y/\y<p.1):fnW Al2 (look [(86,Qe),(192,mK),(144,Vv),(145,eH),(134,Nc)]) Hr Try.f153 (p,s,()) (λ(z:SS)=>z=Ib p.2.2.1 s):=by
 obtain ⟨hv,hs,hr⟩:=h
 have hV:=valid hv
 have rD:=hV.gG
 have hb0:=kb hs hr
 have qz:short s:=by unfold short;omega
 obtain ⟨ls,rG⟩: ∃ls,Ao (List.length p.2.2.1)=ls:=⟨_,rfl⟩
 refine Eq.mp (Aga p s _) ⟨_,Ab qz,_,Ab ⟨ou hs,by show 0<=3000;omega⟩,ls,(Ab (by show List.length p.2.2.1<=8;exact rD.2)).trans (Dm some rG),rfl,rfl,rfl,rfl,rfl,rfl,rfl,rfl,rfl,rfl,rfl,rfl,?_⟩
 have e0:Xv [] (Gu [] [] s) ((([]:List (List Int)).length:Nat):Int)=aM [s]:=(gg [] s).symm
 show Ea _ ((0:Int),p.1,p.2.1,p.2.2.1,false,false,[],[],[],[s],[(0:Int)],Xv [] (Gu [] [] s) ((([]:List (List Int)).length:Nat):Int),PUnit.unit)
 rw [e0]
 have JV:ls.length<=16:=by rw [<-rG,Ov];omega
 have tA: ∀l∈ls,Fy (List.length p.2.2.1) l:= λl hl=>Iz (rG▸hl)
 have LZ:Le p.2.2.1 ls 3001 0 [s] [0]=Jc p.2.2.1 s:=by unfold Jc;rw [rG]
 refine Ea.mk (λv=>v.2.1=p.1/\v.2.2.1=p.2.1/\v.2.2.2.1=p.2.2.1/\v.2.2.2.2.2.1=false/\ ∃k:Nat,v.1=k/\k<=v.2.2.2.2.2.2.2.2.2.1.length/\
   Xq p s.length v.2.2.2.2.2.2.2.2.2.1 v.2.2.2.2.2.2.2.2.2.2.1/\v.2.2.2.2.2.2.2.2.2.2.2.1=aM v.2.2.2.2.2.2.2.2.2.1/\
   Le p.2.2.1 ls (3001-k) k v.2.2.2.2.2.2.2.2.2.1 v.2.2.2.2.2.2.2.2.2.2.1=Jc p.2.2.1 s) (λv=>3001-v.1.toNat)
  ⟨rfl,rfl,rfl,rfl,0,rfl,by simp,hb0,rfl,LZ⟩ ?_
 rintro ⟨k',n1,n2,n3,b0,wh,x1,x2,x3,L0,D0,S0,⟨⟩⟩ ⟨h1,h2,h3,h4,k,h5,h6,h7,h8,h9⟩
 dsimp only at h1 h2 h3 h4 h5 h6 h7 h8 h9
 subst h1 h2 h3 h4 h5 h8
 dsimp only
 have hL0:=h7.ok.gG
 have hD0:=h7.len
 refine Br.dec (λhl=>⟨rfl,rfl,rfl,rfl,rfl,rfl,rfl,rfl,rfl,rfl,rfl,rfl,?_⟩) λhl=>?_
 ·have hk:k<L0.length:=by omega
  have TQ:k<D0.length:=by omega
  have hx: ∀y∈L0[k],0<=y/\y<p.1:=h7.row _ (Am hk)
  have hxl:L0[k].length=s.length:=h7.ok.len _ (Am hk)
  have hdk:=h7.dep k TQ
  obtain ⟨f,hf⟩: ∃f,3001-k=f+1:=⟨3000-k,by omega⟩
  have hgo: ∀L' D' ok,Ih p.2.2.1 L0[k] D0[k] ls L0 D0=(L',D',ok)->Jc p.2.2.1 s=if ok=true then Le p.2.2.1 ls f (k+1) L' D' else (L',D',false):=by
   intro L' D' ok he
   rw [<-h9,hf,Le,Ab hk,Wn hk,Al,Ad TQ]
   simp only [Dh]
   rw [he]
   cases ok<;>rfl
  refine Ea.mk (λv=>v.2.1=p.1/\v.2.2.1=p.2.1/\v.2.2.2.1=p.2.2.1/\v.2.2.2.2.2.1=false/\ ∃i:Nat,v.1=i/\i<=ls.length/\Xq p s.length v.2.2.2.2.2.2.2.2.2.1 v.2.2.2.2.2.2.2.2.2.2.1/\
    v.2.2.2.2.2.2.2.2.2.2.2.1=aM v.2.2.2.2.2.2.2.2.2.1/\(∃A,v.2.2.2.2.2.2.2.2.2.1=L0++A)/\(∃A,v.2.2.2.2.2.2.2.2.2.2.1=D0++A)/\
    Ih p.2.2.1 L0[k] D0[k] (ls.drop i) v.2.2.2.2.2.2.2.2.2.1 v.2.2.2.2.2.2.2.2.2.2.1=Ih p.2.2.1 L0[k] D0[k] ls L0 D0) (λv=>ls.length-v.1.toNat)
   ⟨rfl,rfl,rfl,rfl,0,rfl,Kr _,h7,rfl,⟨[],by simp⟩,⟨[],by simp⟩,rfl⟩ ?_
  rintro ⟨i',m1,m2,m3,b1,wh1,y1,y2,y3,L,D,S,⟨⟩⟩ ⟨g1,g2,g3,g4,i,g5,g6,g7,g8,⟨A,g9⟩,⟨A',g10⟩,XI⟩
  dsimp only at g1 g2 g3 g4 g5 g6 g7 g8 g9 g10 XI
  subst g1 g2 g3 g4 g5 g8
  dsimp only
  have hLf:=g7.ok.gG
  have hDl:=g7.len
  rw [Dd L,Dd D,Dd (aM L)]
  refine Br.dec (λhli=>?_) λhli=>?_
  ·have hi:i<ls.length:=by omega
   have hkL:k<L.length:=by rw [g9,Ax];omega
   have hLk:L[k]=L0[k]:=by simp only [g9];exact Xj hk
   have Aj7:k<D.length:=by rw [hDl];exact hkL
   have hDk:D[k]=D0[k]:=by simp only [g10];exact Xj TQ
   have zm:=tA _ (Am hi)
   obtain ⟨nl,nr⟩:=zR hV hx zm
   rw [Hp hi] at XI
   simp only [Ih] at XI
   refine ⟨⟨by omega,by omega⟩,L0[k],by rw [Ac,Bk,Ad hkL,hLk],_,Cf hi,_,Ab ⟨hv,by show L0[k].length<=20;omega,hx,zm⟩,?_⟩
   dsimp only
   have hyl:(Ak L0[k] (Av p.2.2.1 ls[i])).length=s.length:=by rw [nl,hxl]
   refine ⟨_,Ab (by show Gg (Ak L0[k] (Av p.2.2.1 ls[i])).length L (aM L);rw [hyl];exact g7.ok),Br.dec (λOj=>?_) λOj=>?_⟩
   ·have Oj:Ak L0[k] (Av p.2.2.1 ls[i])∈L:=xM.1 Oj
    rw [Ab Oj] at XI
    rw [Cb (by omega)]
    exact ⟨rfl,rfl,rfl,rfl,rfl,rfl,rfl,rfl,rfl,rfl,rfl,rfl,⟨rfl,rfl,rfl,rfl,i+1,rfl,hi,g7,rfl,⟨A,g9⟩,⟨A',g10⟩,XI⟩,by omega⟩
   ·have Oj:Ak L0[k] (Av p.2.2.1 ls[i])∉L:= λhh=>Oj (xM.2 hh)
    rw [Ai Oj] at XI
    refine ⟨λgI=>?_,λgI=>⟨⟨by omega,by omega⟩,D0[k],by rw [Ac,Bk,Ad Aj7,hDk],rfl,rfl,rfl,rfl,rfl,rfl,?_⟩⟩
    ·have gI:L.length=3000:=by
      have:(L.length:Int)=3000:=by simpa using gI
      omega
     rw [Ab gI] at XI
     have:=hgo _ _ _ XI.symm
     rw [Ai (by decide)] at this
     unfold Ib
     rw [this]
    ·have gI:L.length≠3000:=by
      have:(L.length:Int)≠3000:=by simpa using gI
      omega
     rw [Ai gI] at XI
     rw [Cj (n:=D0[k]+1) (by omega) (by omega)]
     refine ⟨_,Ab ⟨by show Gg (Ak L0[k] (Av p.2.2.1 ls[i])).length L (aM L);rw [hyl];exact g7.ok,by show D.length<=3000;omega⟩,?_⟩
     dsimp only
     rw [Cb (by omega),<-gg]
     refine ⟨rfl,rfl,rfl,rfl,rfl,rfl,rfl,rfl,rfl,rfl,rfl,rfl,⟨rfl,rfl,rfl,rfl,i+1,rfl,hi,g7.add Oj hyl (by omega) nr ⟨by omega,by omega⟩,rfl,⟨A++ [Ak L0[k] (Av p.2.2.1 ls[i])],by rw [g9,Bo]⟩,⟨A'++ [D0[k]+1],by rw [g10,Bo]⟩,XI⟩,by omega⟩
  ·have:i=ls.length:=by omega
   subst this
   rw [Zg,Ih] at XI
   have:=hgo _ _ _ XI.symm
   rw [Ab rfl] at this
   rw [Cb (by omega)]
   refine ⟨rfl,rfl,rfl,rfl,rfl,rfl,rfl,rfl,rfl,rfl,rfl,rfl,⟨rfl,rfl,rfl,rfl,k+1,rfl,by rw [g9,Ax];omega,g7,rfl,?_⟩,by omega⟩
   rw [show 3001-(k+1)=f by omega]
   exact this.symm
 ·have hk:k=L0.length:=by omega
  rw [Dd L0,Dd D0,Dd (aM L0)]
  obtain ⟨f,hf⟩: ∃f,3001-k=f+1:=⟨3000-k,by omega⟩
  rw [hf,Le,Ai (by omega)] at h9
  unfold Ib
  rw [<-h9]
theorem IK:Sound Try.prog 153 Hr:=
 Sound.Hg Al3 (Ba jC (Gy OQ (Ba rU (Ba BA (Ba bf Cc))))) mixed Try.func153 (by kernel_rfl) (by kernel_rfl) λx h=>Afg x.1 x.2.1 h
noncomputable def UI (p:PP) (t:List Int):Bool:=Cd p&&Se p.1 t
noncomputable def RS (p:PP) (t:List Int):Bool:=UI p t&&(Jc p.2.2.1 t).2.2
noncomputable def Af0 (p:PP) (t:List Int):TT:=if RS p t=true then (t,(Jc p.2.2.1 t).1,(Jc p.2.2.1 t).2.1,()) else ([],[],[],())
noncomputable def tW (p:PP) (t:TT):Bool:=RS p t.1&&Apg (Af0 p t.1) t
def Afo (ts:List TT):Prop:=ts.length<=4294967296/\ ∀t∈ts,Aks t
noncomputable def tV (p:PP) (ts:List TT):Bool:=Cd p&&decide (ts.length<=4)&&List.all ts (tW p)
theorem nk {p:PP} (hV:Valid p) {m:Nat} {x:List Int} {d:Int} (hx: ∀y∈x,0<=y/\y<p.1) (hxl:x.length=m): ∀(ls:List Int) (L:List (List Int)) (D:List Int),(∀l∈ls,Fy (List.length p.2.2.1) l)->
  Xq p m L D->(0<=d/\d<L.length)->Xq p m (Ih p.2.2.1 x d ls L D).1 (Ih p.2.2.1 x d ls L D).2.1/\(∃A,(Ih p.2.2.1 x d ls L D).1=L++A)/\(∃A,(Ih p.2.2.1 x d ls L D).2.1=D++A)
 | [],L,D,_,h,_=>⟨h,⟨[],by simp [Ih]⟩,⟨[],by simp [Ih]⟩⟩
 |l::ls,L,D,hl,h,hd=>by
  obtain ⟨n1,n2⟩:=zR hV hx (hl l (by simp))
  have Ll: ∀l∈ls,Fy (List.length p.2.2.1) l:= λl' h'=>hl l' (As _ h')
  simp only [Ih]
  split
  ·exact nk hV hx hxl ls L D Ll h hd
  ·rename_i hn
   split
   ·exact ⟨h,⟨[],by simp⟩,⟨[],by simp⟩⟩
   ·rename_i hf
    have rD:=h.ok.gG
    obtain ⟨k1,⟨A,k2⟩,⟨A',k3⟩⟩:=nk hV hx hxl ls (L++ [Ak x (Av p.2.2.1 l)]) (D++ [d+1]) Ll (h.add hn (by rw [n1,hxl]) (by omega) n2 ⟨by omega,by omega⟩) ⟨hd.1,by rw [Ax];omega⟩
    exact ⟨k1,⟨_::A,by rw [k2,Bo];rfl⟩,⟨_::A',by rw [k3,Bo];rfl⟩⟩
theorem DU {p:PP} (hV:Valid p) {m:Nat} {ls:List Int} (hl: ∀l∈ls,Fy (List.length p.2.2.1) l): ∀(f k:Nat) (L:List (List Int)) (D:List Int),Xq p m L D->
  Xq p m (Le p.2.2.1 ls f k L D).1 (Le p.2.2.1 ls f k L D).2.1/\(∃A,(Le p.2.2.1 ls f k L D).1=L++A)
 |0,k,L,D,h=>⟨h,⟨[],by simp [Le]⟩⟩
 |f+1,k,L,D,h=>by
  simp only [Le]
  split
  ·rename_i hk
   have TQ:k<D.length:=by rw [h.len];exact hk
   have hd:=h.dep k TQ
   have e:D.getD k 0=D[k]:=by rw [Al,Ad TQ];rfl
   rw [Wn hk,e]
   obtain ⟨k1,⟨A,k2⟩,_⟩:=nk hV (h.row _ (Am hk)) (h.ok.len _ (Am hk)) (d:=D[k]) ls L D hl h ⟨by omega,by omega⟩
   split
   ·rename_i L' D' he
    rw [he] at k1 k2
    obtain ⟨g1,⟨B,g2⟩⟩:=DU hV hl f (k+1) L' D' k1
    have k2:L'=L++A:=k2
    exact ⟨g1,⟨A++B,by rw [g2,k2,Bo]⟩⟩
   ·rename_i L' D' he
    rw [he] at k1 k2
    exact ⟨k1,⟨A,k2⟩⟩
  ·exact ⟨h,⟨[],by simp⟩⟩
theorem YL {p:PP} {s:List Int} (hv:Cd p=true) (hs:s.length<=20) (hr: ∀y∈s,0<=y/\y<p.1):Xq p s.length (Jc p.2.2.1 s).1 (Jc p.2.2.1 s).2.1/\ ∃A,(Jc p.2.2.1 s).1=s::A:=
 DU (valid hv) (λ_ hl=>Iz hl) _ _ _ _ (kb hs hr)
def KC (m:ByteArray->Option Bool) (L:List (List Int)):Prop:= ∀q,Xs q->(m (Tg q)).getD false=decide (q∈L)
theorem KC.add {m:ByteArray->Option Bool} {L:List (List Int)} {y:List Int} (h:KC m L) (hy:Xs y):KC (gr m (Tg y) true) (L++ [y]):=by
 intro q hq
 unfold gr
 by_cases e:q=y
 ·subst e
  rw [Ab rfl];simp
 ·rw [Ai λhk=>e (key_inj hq hy hk),h q hq]
  simp [e]
end Go.Proofs.Ytkkdpknjohcekaa
