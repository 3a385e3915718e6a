/-
  Part 38 of the proof that the statement FnNoShorterSolution holds.
-/
import Derived.Test.YtkkdpknjohcekaaGreatCFNoShorterSolution36
import Derived.KernelRfl
namespace Go.Proofs.YtkkdpknjohcekaaGreat
open Go.RowKit
def Pp (x a b:Int):Bool:=decide (a<=x/\x<=b)
def kE (n x:Int):Bool:=decide (0<=x/\x<=IntKind.i64.wrap (n-1))
def Ic (a b:List Int):Bool:=decide (a=b)
def lB (xs:List Int) (x:Int):Bool:=decide (x∈xs)
def short (xs:List Int):Prop:=xs.length<=4294967296
noncomputable abbrev Cs:Spec:=Gw (.pair tI (.pair tI (.pair tI .unit))) .bool false true (λ_=>True) (λx=>Pp x.1 x.2.1 x.2.2.1)
noncomputable abbrev bz:Spec:=Gw (.pair tI (.pair tI .unit)) .bool false true (λ_=>True) (λx=>kE x.1 x.2.1)
noncomputable abbrev Dz:Spec:=Gw (.pair tL (.pair tL .unit)) .bool false true (λx=>short x.1) (λx=>Ic x.1 x.2.1)
noncomputable abbrev Ri:Spec:=Gw (.pair tL (.pair tI .unit)) .bool false true (λx=>short x.1) (λx=>lB x.1 x.2.1)
theorem VS (x a b:Int) (P:Bool->Prop):(Br (decide (x>=a)) (P (decide (x<=b))) (P false))=fnW Fu (look []) Cs Tryz.f95 (x,a,b,()) P:=by kernel_rfl
theorem Acd (x a b:Int) (P:Bool->Prop):(Br (decide (x>=a)) (P (decide (x<=b))) (P false))=fnW Fu (look []) Cs Tryz.f100 (x,a,b,()) P:=by kernel_rfl
theorem VV (n x:Int) (P:Bool->Prop):(∃(y3:Bool),Cs.fn (x,0,IntKind.i64.wrap (n-1),())=some y3/\P y3)=fnW Fu (look [(100,Cs)]) bz Tryz.f136 (n,x,()) P:=by kernel_rfl
theorem IB (a b:List Int) (P:Bool->Prop):(Br ((↑a.length:Int) !=(↑b.length:Int)) (P false) (Dn (λ(v3:Int×PUnit) (k4:Int×PUnit->Prop)=>Br (decide (v3.1<(↑a.length:Int))) (∃(y5:Int),idx a v3.1=some y5/\ ∃(y6:Int),idx b v3.1=some y6/\Br (y5 !=y6) (P false) (k4 (IntKind.i64.wrap (v3.1+1),()))) (P true)) (0,PUnit.unit)))=fnW Fu (look []) Dz Tryz.f128 (a,b,()) P:=by kernel_rfl
theorem wU (a b:List Int) (P:Bool->Prop):(Br ((↑a.length:Int) !=(↑b.length:Int)) (P false) (Dn (λ(v3:Int×PUnit) (k4:Int×PUnit->Prop)=>Br (decide (v3.1<(↑a.length:Int))) (∃(y5:Int),idx a v3.1=some y5/\ ∃(y6:Int),idx b v3.1=some y6/\Br (y5 !=y6) (P false) (k4 (IntKind.i64.wrap (v3.1+1),()))) (P true)) (0,PUnit.unit)))=fnW Fu (look []) Dz Tryz.f93 (a,b,()) P:=by kernel_rfl
theorem wO (xs:List Int) (x:Int) (P:Bool->Prop):(Dn (λ(v3:Int×PUnit) (k4:Int×PUnit->Prop)=>Br (decide (v3.1<(↑xs.length:Int))) (∃(y5:Int),idx xs v3.1=some y5/\Br (y5==x) (P true) (k4 (IntKind.i64.wrap (v3.1+1),()))) (P false)) (0,PUnit.unit))=fnW Fu (look []) Ri Tryz.f175 (xs,x,()) P:=by kernel_rfl
theorem TU (x a b:Int) (_:True):fnW Fu (look []) Cs Tryz.f95 (x,a,b,()) (λ(z:Bool)=>z=Pp x a b):=by
 refine Eq.mp (VS x a b _) ?_
 refine Br.dec (λh=>?_) λh=>?_
 ·have h:a<=x:=h
  simp [Pp,h]
 ·exact (Ep λhh=>h hh.1).symm
theorem Rl:Sound Tryz.prog 95 Cs:=
 Sound.Gw Dq Bn mixed Tryz.func95 (by kernel_rfl) (by kernel_rfl) λx h=>TU x.1 x.2.1 x.2.2.1 h
theorem Aai (x a b:Int) (_:True):fnW Fu (look []) Cs Tryz.f100 (x,a,b,()) (λ(z:Bool)=>z=Pp x a b):=by
 refine Eq.mp (Acd x a b _) ?_
 refine Br.dec (λh=>?_) λh=>?_
 ·have h:a<=x:=h
  simp [Pp,h]
 ·exact (Ep λhh=>h hh.1).symm
theorem Xc:Sound Tryz.prog 100 Cs:=
 Sound.Gw Dq Bn mixed Tryz.func100 (by kernel_rfl) (by kernel_rfl) λx h=>Aai x.1 x.2.1 x.2.2.1 h
theorem TX (n x:Int) (_:True):fnW Fu (look [(100,Cs)]) bz Tryz.f136 (n,x,()) (λ(z:Bool)=>z=kE n x):=
 Eq.mp (VV n x _) ⟨_,Ab trivial,rfl⟩
theorem wB:Sound Tryz.prog 136 bz:=
 Sound.Gw Dq (Ax Xc Bn) mixed Tryz.func136 (by kernel_rfl) (by kernel_rfl) λx h=>TX x.1 x.2.1 h
theorem w8 (xs:List Int) (x:Int) (h:short xs):fnW Fu (look []) Ri Tryz.f175 (xs,x,()) (λ(z:Bool)=>z=lB xs x):=by
 refine Eq.mp (wO xs x _) ?_
 unfold short at h
 refine Bu xs.length (λv=>v.1) (λj _=>x∉xs.take j) rfl (by simp) ?_
 rintro j ⟨i,⟨⟩⟩ K hj hi hR hK
 dsimp only at hi⊢
 subst hi
 refine Br.dec (λhl=>?_) λhl=>?_
 ·have hl:j<xs.length:=by omega
  refine ⟨_,Cf hl,⟨λhe=>?_,λhe=>?_⟩⟩
  ·have hm:=Ak hl
   simp only [beq_iff_eq] at he
   rw [he] at hm
   exact (Co hm).symm
  ·rw [Bv (by omega)]
   refine hK hl _ rfl ?_
   simp only [Rx,ne_eq] at he
   rw [Cw hl]
   simp only [Bb,Ad,not_or]
   exact ⟨hR,λhx=>he hx.symm⟩
 ·have:j=xs.length:=by omega
  subst this
  rw [Bd] at hR
  exact (Ep hR).symm
theorem oo:Sound Tryz.prog 175 Ri:=
 Sound.Gw Dq Bn mixed Tryz.func175 (by kernel_rfl) (by kernel_rfl) λx h=>w8 x.1 x.2.1 h
theorem PC (a b:List Int) (hlen:a.length=b.length) (h:short a):
  Dn (λ(v3:Int×PUnit) (k4:Int×PUnit->Prop)=>
   Br (decide (v3.1<(↑a.length:Int))) (∃(y5:Int),idx a v3.1=some y5/\ ∃(y6:Int),idx b v3.1=some y6/\Br (y5 !=y6) (false=Ic a b) (k4 (IntKind.i64.wrap (v3.1+1),())))
    (true=Ic a b))
  (0,PUnit.unit):=by
 unfold short at h
 refine Bu a.length (λv=>v.1) (λj _=>a.take j=b.take j) rfl (by simp) ?_
 rintro j ⟨i,⟨⟩⟩ K hj hi hR hK
 dsimp only at hi⊢
 subst hi
 refine Br.dec (λhl=>?_) λhl=>?_
 ·have ph:j<a.length:=by omega
  have tz:j<b.length:=by omega
  refine ⟨_,Cf ph,_,Cf tz,⟨λhe=>?_,λhe=>?_⟩⟩
  ·simp only [bne_iff_ne,ne_eq] at he
   refine (Ep λvK=>he ?_).symm
   subst vK
   rfl
  ·rw [Bv (by omega)]
   refine hK ph _ rfl ?_
   simp only [Xw] at he
   rw [Cw ph,Cw tz,hR,he]
 ·have PX:j=a.length:=by omega
  subst PX
  rw [Bd,hlen,Bd] at hR
  exact (Co hR).symm
theorem GD (a b:List Int) (h:short a):fnW Fu (look []) Dz Tryz.f128 (a,b,()) (λ(z:Bool)=>z=Ic a b):=by
 refine Eq.mp (IB a b _) ⟨λhl=>?_,λhl=>?_⟩
 ·simp only [bne_iff_ne,ne_eq,Mj] at hl
  exact (Ep λvK=>hl (by rw [vK])).symm
 ·simp only [Xw,Mj] at hl
  exact PC a b hl h
theorem ia:Sound Tryz.prog 128 Dz:=
 Sound.Gw Dq Bn mixed Tryz.func128 (by kernel_rfl) (by kernel_rfl) λx h=>GD x.1 x.2.1 h
theorem wg (a b:List Int) (h:short a):fnW Fu (look []) Dz Tryz.f93 (a,b,()) (λ(z:Bool)=>z=Ic a b):=by
 refine Eq.mp (wU a b _) ⟨λhl=>?_,λhl=>?_⟩
 ·simp only [bne_iff_ne,ne_eq,Mj] at hl
  exact (Ep λvK=>hl (by rw [vK])).symm
 ·simp only [Xw,Mj] at hl
  exact PC a b hl h
theorem de:Sound Tryz.prog 93 Dz:=
 Sound.Gw Dq Bn mixed Tryz.func93 (by kernel_rfl) (by kernel_rfl) λx h=>wg x.1 x.2.1 h
abbrev TT:Type:=List Int×List (List Int)×List Int×Unit
def Pb (xs:List (List Int)):Prop:=xs.length<=4294967296/\ ∀r∈xs,short r
def aC (t:TT):Prop:=short t.1/\Pb t.2.1/\short t.2.2.1
def jt (a b:List (List Int)):Bool:=decide (a=b)
def lD (a b:TT):Bool:=decide (a.1=b.1)&&(decide (a.2.1=b.2.1)&&decide (a.2.2.1=b.2.2.1))
noncomputable abbrev pH:Spec:=Gw (.pair lO (.pair lO .unit)) .bool false true (λx=>Pb x.1) (λx=>jt x.1 x.2.1)
noncomputable abbrev bw:Spec:=Gw (.pair cv (.pair cv .unit)) .bool false true (λx=>aC x.1) (λx=>lD x.1 x.2.1)
theorem dQ {α:Type} {ys xs:List α} {j:Nat} (h:j<xs.length) (hl:ys.length=xs.length) (ht:ys.take j=xs.take j):(ys.set j xs[j]).take (j+1)=xs.take (j+1):=by
 have h1:j<(ys.set j xs[j]).length:=by rw [Df];omega
 rw [Cw h1,Cw h,List.getElem_set_self,List.take_set_of_le (Ap j),ht]
def PL (n:Int) (xs:List Int) (k:Nat):Prop:= ∀j (h:j<xs.length),j<k->0<=xs[j]/\xs[j]<=n-1/\(0<j->xs[j-1]<xs[j])
def DL (n:Int) (xs:List Int) (k:Nat):Prop:= ∀j (h:j<xs.length),j<k->0<=xs[j]/\xs[j]<=n-1/\xs[j]∉xs.take j
noncomputable def dec (p:Prop):Bool:= @decide p (Classical.propDecidable p)
theorem Pg {p:Prop} (h:p):true=dec p:=(@Co p (Classical.propDecidable p) h).symm
theorem Di {p:Prop} (h: ¬p):false=dec p:=(@Ep p (Classical.propDecidable p) h).symm
theorem Iq {p:Prop} :dec p=true↔p:= @Ky p (Classical.propDecidable p)
theorem Ad9 {p:Prop} :dec p=false↔ ¬p:= @decide_eq_false_iff_not p (Classical.propDecidable p)
def nOK (n:Int):Prop:=0<=n/\n<=4294967296
noncomputable def Qc (n:Int) (xs:List Int):Bool:=dec (0<xs.length/\PL n xs xs.length)
noncomputable abbrev Ku:Spec:=Gw (.pair tI (.pair tL .unit)) .bool false true (λx=>nOK x.1/\short x.2.1) (λx=>Qc x.1 x.2.1)
theorem wT (n:Int) (xs:List Int) (P:Bool->Prop):(∃(y3:Bool),Cs.fn ((↑xs.length:Int),(1:Int),n,())=some y3/\Br (!y3) (P false) (Dn (λ(v4:Int×PUnit) (k5:Int×PUnit->Prop)=>Br (decide (v4.1<(↑xs.length:Int))) (∃(y6:Int),idx xs v4.1=some y6/\ ∃(y7:Bool),Cs.fn (y6,(0:Int),IntKind.i64.wrap (n-(1:Int)),())=some y7/\Br (!y7) (P false) (Br (decide (v4.1>(0:Int))) (∃(y8:Int),idx xs v4.1=some y8/\ ∃(y9:Int),idx xs (IntKind.i64.wrap (v4.1-(1:Int)))=some y9/\Br (decide (y8<=y9)) (P false) (k5 (IntKind.i64.wrap (v4.1+(1:Int)),()))) (k5 (IntKind.i64.wrap (v4.1+(1:Int)),())))) (P true)) ((0:Int),PUnit.unit)))=fnW Fu (look [(95,Cs)]) Ku Tryz.f137 (n,xs,()) P:=by kernel_rfl
theorem IG (n:Int) (xs:List Int) (P:Bool->Prop):(Dn (λ(v3:Int×PUnit) (k4:Int×PUnit->Prop)=>Br (decide (v3.1<(↑xs.length:Int))) (∃(y5:Int),idx xs v3.1=some y5/\ ∃(y6:Bool),bz.fn (n,y5,())=some y6/\Br (!y6) (P false) (Br (decide (v3.1>(0:Int))) (∃(y7:Int),idx xs (IntKind.i64.wrap (v3.1-(1:Int)))=some y7/\Br (decide (y7>=y5)) (P false) (k4 (IntKind.i64.wrap (v3.1+(1:Int)),()))) (k4 (IntKind.i64.wrap (v3.1+(1:Int)),())))) (P (decide ((↑xs.length:Int)>(0:Int))))) ((0:Int),PUnit.unit))=fnW Fu (look [(136,bz)]) Ku Tryz.f101 (n,xs,()) P:=by kernel_rfl
theorem qA {n x:Int} (hn:nOK n):kE n x=true↔0<=x/\x<=n-1:=by
 unfold kE nOK at*
 rw [Cn (by omega) (by omega),Ky]
theorem Er {x a b:Int} :Pp x a b=true↔a<=x/\x<=b:=Ky
theorem Hj {b:Bool} (h:(!b)=true): ¬b=true:=by cases b<;>simp_all
theorem Hk {b:Bool} (h:(!b)=false):b=true:=by cases b<;>simp_all
theorem MI {n:Int} {xs:List Int} (h:PL n xs xs.length): ∀j (hj:j<xs.length),(j:Int)<=xs[j]
 |0,hj=>(h 0 hj hj).1
 |j+1,hj=>by
  have h1:=MI h j (by omega)
  have h2:=(h (j+1) hj hj).2.2 (by omega)
  simp only [Nat.add_sub_cancel] at h2
  omega
theorem sj {n:Int} {xs:List Int} {j:Nat} (hl:j<xs.length) (h:PL n xs j) (h1:0<=xs[j]) (h2:xs[j]<=n-1) (h3:0<j->xs[j-1]<xs[j]):PL n xs (j+1):=by
 intro i hi jh
 by_cases e:i=j
 ·subst e;exact ⟨h1,h2,h3⟩
 ·exact h i hi (by omega)
theorem GJ (n:Int) (xs:List Int) (h:nOK n/\short xs):fnW Fu (look [(136,bz)]) Ku Tryz.f101 (n,xs,()) (λ(z:Bool)=>z=Qc n xs):=by
 obtain ⟨hn,h⟩:=h
 unfold short at h
 refine Eq.mp (IG n xs _) ?_
 refine Bu xs.length (λv=>v.1) (λj _=>PL n xs j) rfl (λj _ hj=>absurd hj (Hc _)) ?_
 rintro j ⟨i,⟨⟩⟩ K hj hi hR hK
 dsimp only at hi⊢
 subst hi
 refine Br.dec (λhl=>?_) λhl=>?_
 ·have hl:j<xs.length:=by omega
  refine ⟨_,Cf hl,_,Ab trivial,⟨λhp=>?_,λhp=>?_⟩⟩
  ·have hp:=Hj hp
   rw [qA hn] at hp
   exact Di λhh=>hp ⟨(hh.2 j hl hl).1,(hh.2 j hl hl).2.1⟩
  ·have hp:=Hk hp
   rw [qA hn] at hp
   refine Br.dec (λh0=>?_) λh0=>?_
   ·have h0:0<j:=by omega
    rw [Cn (by omega) (by omega),show (j:Int)-1=((j-1:Nat):Int) by omega]
    refine ⟨_,Cf (by omega),Br.dec (λhg=>?_) λhg=>?_⟩
    ·exact Di λhh=>by have:=(hh.2 j hl hl).2.2 h0;omega
    ·rw [Bv (by omega)]
     exact hK hl _ rfl (sj hl hR hp.1 hp.2 λ_=>by omega)
   ·have h0:j=0:=by omega
    rw [Bv (by omega)]
    exact hK hl _ rfl (sj hl hR hp.1 hp.2 λh=>by omega)
 ·have:j=xs.length:=by omega
  subst this
  by_cases h0:0<xs.length
  ·rw [Co (show (xs.length:Int)>0 by omega)];exact Pg ⟨h0,hR⟩
  ·rw [Ep (show ¬(xs.length:Int)>0 by omega)];exact Di λhh=>h0 hh.1
theorem rK:Sound Tryz.prog 101 Ku:=
 Sound.Gw Dq (Ax wB Bn) mixed Tryz.func101 (by kernel_rfl) (by kernel_rfl) λx h=>GJ x.1 x.2.1 h
theorem we (n:Int) (xs:List Int) (h:nOK n/\short xs):fnW Fu (look [(95,Cs)]) Ku Tryz.f137 (n,xs,()) (λ(z:Bool)=>z=Qc n xs):=by
 obtain ⟨hn,h⟩:=h
 unfold short at h
 refine Eq.mp (wT n xs _) ⟨_,Ab trivial,⟨λhp=>?_,λhp=>?_⟩⟩
 ·have hp:=Hj hp
  rw [Er] at hp
  dsimp only at hp
  refine Di λhh=>hp ⟨by omega,?_⟩
  have:=MI hh.2 (xs.length-1) (by omega)
  have:=(hh.2 (xs.length-1) (by omega) (by omega)).2.1
  omega
 ·have hp:=Hk hp
  rw [Er] at hp
  dsimp only at hp
  refine Bu xs.length (λv=>v.1) (λj _=>PL n xs j) rfl (λj _ hj=>absurd hj (Hc _)) ?_
  rintro j ⟨i,⟨⟩⟩ K hj hi hR hK
  dsimp only at hi⊢
  subst hi
  refine Br.dec (λhl=>?_) λhl=>?_
  ·have hl:j<xs.length:=by omega
   refine ⟨_,Cf hl,_,Ab trivial,⟨λhq=>?_,λhq=>?_⟩⟩
   ·have hq:=Hj hq
    unfold nOK at hn
    rw [Er,Cn (by omega) (by omega)] at hq
    exact Di λhh=>hq ⟨(hh.2 j hl hl).1,(hh.2 j hl hl).2.1⟩
   ·have hq:=Hk hq
    unfold nOK at hn
    rw [Er,Cn (by omega) (by omega)] at hq
    refine Br.dec (λh0=>?_) λh0=>?_
    ·have h0:0<j:=by omega
     rw [Cn (by omega) (by omega),show (j:Int)-1=((j-1:Nat):Int) by omega]
     refine ⟨_,Cf hl,_,Cf (by omega),Br.dec (λhg=>?_) λhg=>?_⟩
     ·exact Di λhh=>by have:=(hh.2 j hl hl).2.2 h0;omega
     ·rw [Bv (by omega)]
      exact hK hl _ rfl (sj hl hR hq.1 hq.2 λ_=>by omega)
    ·rw [Bv (by omega)]
     exact hK hl _ rfl (sj hl hR hq.1 hq.2 λh=>by omega)
  ·have:j=xs.length:=by omega
   subst this
   exact Pg ⟨by omega,hR⟩
theorem ov:Sound Tryz.prog 137 Ku:=
 Sound.Gw Dq (Ax Rl Bn) mixed Tryz.func137 (by kernel_rfl) (by kernel_rfl) λx h=>we x.1 x.2.1 h
theorem Ade {n:Int} {xs:List Int} {j:Nat} (hl:j<xs.length) (h:DL n xs j) (h1:0<=xs[j]) (h2:xs[j]<=n-1) (h3:xs[j]∉xs.take j):DL n xs (j+1):=by
 intro i hi jh
 by_cases e:i=j
 ·subst e;exact ⟨h1,h2,h3⟩
 ·exact h i hi (by omega)
theorem NB {xs:List Int} (h:short xs) (j:Nat):short (xs.take j):=by
 unfold short at*
 rw [Dj]
 omega
theorem LI (t:TT):lD t t=true:=by simp [lD]
noncomputable abbrev Ys:Spec:=Gw (.pair lO (.pair lO (.pair (.clo 184 .unit) .unit))) .bool false true (λx=>Pb x.1) (λx=>jt x.1 x.2.1)
theorem Aor (a b:List Int) (P:Bool->Prop):(∃(y3:Bool),Dz.fn (a,b,())=some y3/\P y3)=fnW Fu (look [(93,Dz)]) Dz Tryz.f184 (a,b,()) P:=by kernel_rfl
theorem OF (a b:List (List Int)) (c:Unit) (P:Bool->Prop):(Br ((↑a.length:Int) !=(↑b.length:Int)) (P false) (Dn (λ(v4:Int×PUnit) (k5:Int×PUnit->Prop)=>Br (decide (v4.1<(↑a.length:Int))) (∃(y6:List Int),idx a v4.1=some y6/\ ∃(y7:List Int),idx b v4.1=some y7/\ ∃(y8:Bool),Dz.fn (y6,y7,())=some y8/\Br (!y8) (P false) (k5 (IntKind.i64.wrap (v4.1+(1:Int)),()))) (P true)) ((0:Int),PUnit.unit)))=fnW Fu (look [(184,Dz)]) Ys Tryz.f183 (a,b,c,()) P:=by kernel_rfl
theorem rU (a b:List (List Int)) (P:Bool->Prop):(∃(y3:Bool),Ys.fn (a,b,(),())=some y3/\P y3)=fnW Fu (look [(183,Ys)]) pH Tryz.f177 (a,b,()) P:=by kernel_rfl
theorem rT (a b:List Int×List (List Int)×List Int×Unit) (P:Bool->Prop):(∃(y3:Bool),Dz.fn (a.1,b.1,())=some y3/\Br y3 (∃(y4:Bool),pH.fn (a.2.1,b.2.1,())=some y4/\Br y4 (∃(y5:Bool),Dz.fn (a.2.2.1,b.2.2.1,())=some y5/\P y5) (P false)) (P false))=fnW Fu (look [(93,Dz),(177,pH)]) bw Tryz.f161 (a,b,()) P:=by kernel_rfl
theorem Ao2 (a b:List Int) (h:short a):fnW Fu (look [(93,Dz)]) Dz Tryz.f184 (a,b,()) (λ(z:Bool)=>z=Ic a b):=by
 refine Eq.mp (Aor a b _) ⟨_,Ab h,rfl⟩
theorem UX:Sound Tryz.prog 184 Dz:=
 Sound.Gw Dq (Ax de Bn) mixed Tryz.func184 (by kernel_rfl) (by kernel_rfl) λx h=>Ao2 x.1 x.2.1 h
theorem LX (a b:List (List Int)) (c:Unit) (h:Pb a):fnW Fu (look [(184,Dz)]) Ys Tryz.f183 (a,b,c,()) (λ(z:Bool)=>z=jt a b):=by
 obtain ⟨h,h4⟩:=h
 refine Eq.mp (OF a b c _) ⟨λhl=>?_,λhl=>?_⟩
 ·simp only [bne_iff_ne,ne_eq,Mj] at hl
  exact (Ep λvK=>hl (by rw [vK])).symm
 ·simp only [Xw,Mj] at hl
  refine Bu a.length (λv=>v.1) (λj _=>a.take j=b.take j) rfl (by simp) ?_
  rintro j ⟨i,⟨⟩⟩ K hj hi hR hK
  dsimp only at hi⊢
  subst hi
  refine Br.dec (λLi=>?_) λLi=>?_
  ·have ph:j<a.length:=by omega
   have tz:j<b.length:=by omega
   refine ⟨_,Cf ph,_,Cf tz,_,Ab (h4 _ (Ak ph)),⟨λhe=>?_,λhe=>?_⟩⟩
   ·refine (Ep λvK=>?_).symm
    subst vK
    simp [Ic] at he
   ·rw [Bv (by omega)]
    refine hK ph _ rfl ?_
    simp only [Ic,Bool.not_eq_false',Rn] at he
    rw [Cw ph,Cw tz,hR]
    exact Ga (λx=>List.take j b++ [x]) he
  ·have PX:j=a.length:=by omega
   subst PX
   rw [Bd,hl,Bd] at hR
   exact (Co hR).symm
theorem uL:Sound Tryz.prog 183 Ys:=
 Sound.Gw Dq (Ax UX Bn) mixed Tryz.func183 (by kernel_rfl) (by kernel_rfl) λx h=>LX x.1 x.2.1 x.2.2.1 h
theorem rC (a b:List (List Int)) (h:Pb a):fnW Fu (look [(183,Ys)]) pH Tryz.f177 (a,b,()) (λ(z:Bool)=>z=jt a b):=by
 refine Eq.mp (rU a b _) ⟨_,Ab h,rfl⟩
theorem kX:Sound Tryz.prog 177 pH:=
 Sound.Gw Dq (Ax uL Bn) mixed Tryz.func177 (by kernel_rfl) (by kernel_rfl) λx h=>rC x.1 x.2.1 h
theorem rz (a b:TT) (h:aC a):fnW Fu (look [(93,Dz),(177,pH)]) bw Tryz.f161 (a,b,()) (λ(z:Bool)=>z=lD a b):=by
 refine Eq.mp (rT a b _) ⟨_,Ab h.1,⟨λh1=>⟨_,Ab h.2.1,⟨λh2=>⟨_,Ab h.2.2,?_⟩,λh2=>?_⟩⟩,λh1=>?_⟩⟩
 ·have h1:Ic a.1 b.1=true:=h1
  have h2:jt a.2.1 b.2.1=true:=h2
  simp only [Ic,jt] at h1 h2
  show Ic a.2.2.1 b.2.2.1=_
  unfold lD Ic
  rw [h1,h2];rfl
 ·have h1:Ic a.1 b.1=true:=h1
  have h2:jt a.2.1 b.2.1=false:=h2
  simp only [Ic,jt] at h1 h2
  unfold lD
  rw [h1,h2];rfl
 ·have h1:Ic a.1 b.1=false:=h1
  simp only [Ic] at h1
  unfold lD
  rw [h1];rfl
theorem kW:Sound Tryz.prog 161 bw:=
 Sound.Gw Dq (Ax de (Ax kX Bn)) mixed Tryz.func161 (by kernel_rfl) (by kernel_rfl) λx h=>rz x.1 x.2.1 h
abbrev PP:Type:=Int×ByteArray×List (List Int)×Unit
noncomputable def Kj (p:List Int):Bool:=dec (1<=p.length/\p.length<=20/\DL p.length p p.length)
noncomputable def Hv (n:Int) (p:List Int):Bool:=dec ((p.length:Int)=n/\Kj p=true)
noncomputable def Zz (n:Int) (g:List (List Int)):Bool:=dec ((1<=n/\n<=20)/\g.length<=8/\ ∀p∈g,Hv n p=true)
def Md {α:Type} (P:α->Bool):List α->Int->Int
 | [],_=> -1
 |y::r,i=>if P y=true then i else Md P r (i+1)
abbrev tG1:Ty:= .clo 174 (.pair (.ptr tI) .unit)
def yx (s:ByteArray) (i:Nat):Prop:= ∃c:UInt8,s[i]?=some c/\65<=c.toNat/\c.toNat<=90/\ ∀k,k<i->s[k]?≠some c
noncomputable def nY (s:ByteArray) (i:Int):Bool:=dec (yx s i.toNat)
noncomputable def br (s:ByteArray):Bool:=dec ((1<=s.size/\s.size<=8)/\ ∀j,j<s.size->yx s j)
noncomputable def Bt (p:PP):Bool:=dec (Zz p.1 p.2.2.1=true/\br p.2.1=true/\p.2.1.size=p.2.2.1.length)
def Eo (p:PP):Prop:=p.2.1.size<=4294967296/\Pb p.2.2.1
noncomputable abbrev Tn:Spec:=Gw (.pair tL .unit) tI false true (λ_=>True) (λx=>(List.length x.1:Int))
noncomputable abbrev Jn:Spec:=Gw (.pair tL .unit) .bool false true (λx=>short x.1) (λx=>Kj x.1)
noncomputable abbrev Qz:Spec:=Gw (.pair tI (.pair lO .unit)) .bool false true (λx=>Pb x.2.1) (λx=>Zz x.1 x.2.1)
noncomputable abbrev kK:Spec:=Gw (.pair tL (.pair (.ptr tI) .unit)) .bool false true (λx=>short x.1) (λx=>!Hv x.2.1 x.1)
noncomputable abbrev yd:Spec:=Gw (.pair lO (.pair tG1 .unit)) tI false true (λx=>Pb x.1) (λx=>Md (λp=>!Hv x.2.1.1 p) x.1 0)
noncomputable abbrev yc:Spec:=Gw (.pair lO (.pair tG1 .unit)) .bool false true (λx=>Pb x.1) (λx=>List.any x.1 (λp=>!Hv x.2.1.1 p))
noncomputable abbrev eQ:Spec:=Gw (.pair .str (.pair tI .unit)) .bool false true (λx=>0<=x.2.1/\x.2.1<x.1.size/\x.1.size<=4294967296) (λx=>nY x.1 x.2.1)
noncomputable abbrev bx:Spec:=Gw (.pair .str .unit) .bool false true (λx=>x.1.size<=4294967296) (λx=>br x.1)
noncomputable abbrev Il:Spec:=Gw (.pair Hq .unit) .bool false true (λx=>Eo x.1) (λx=>Bt x.1)
theorem Aju (xs:List Int) (P:Int->Prop):(P (↑xs.length:Int))=fnW Fu (look []) Tn Tryz.f105 (xs,()) P:=by kernel_rfl
theorem BW (p:List Int) (P:Bool->Prop):(∃(y2:Bool),Cs.fn ((↑p.length:Int),(1:Int),(20:Int),())=some y2/\Br (!y2) (P false) (Dn (λ(v3:Int×PUnit) (k4:Int×PUnit->Prop)=>Br (decide (v3.1<(↑p.length:Int))) (∃(y5:Int),idx p v3.1=some y5/\ ∃(y6:Bool),Cs.fn (y5,(0:Int),IntKind.i64.wrap ((↑p.length:Int)-(1:Int)),())=some y6/\Br (!y6) (P false) (((0:Int)<=(0:Int)/\(0:Int)<=v3.1/\v3.1<=(↑p.length:Int))/\ ∃(y7:Int),idx p v3.1=some y7/\ ∃(y8:Bool),Ri.fn (List.drop (Int.toNat (0:Int)) (List.take v3.1.toNat p),y7,())=some y8/\Br y8 (P false) (k4 (IntKind.i64.wrap (v3.1+(1:Int)),())))) (P true)) ((0:Int),PUnit.unit)))=fnW Fu (look [(95,Cs),(175,Ri)]) Jn Tryz.f162 (p,()) P:=by kernel_rfl
theorem BR (p:List Int) (P:Bool->Prop):(∃(y2:Int),Tn.fn (p,())=some y2/\ ∃(y3:Bool),Cs.fn (y2,(1:Int),(20:Int),())=some y3/\Br (!y3) (P false) (Dn (λ(v4:Int×Int×PUnit) (k5:Int×Int×PUnit->Prop)=>Br (decide (v4.2.1<(↑p.length:Int))) (∃(y6:Int),idx p v4.2.1=some y6/\ ∃(y7:Int),Tn.fn (p,())=some y7/\ ∃(y8:Bool),Cs.fn (y6,(0:Int),IntKind.i64.wrap (y7-(1:Int)),())=some y8/\Br (!y8) (P false) (¬y6<(0:Int)/\k5 (IntKind.i64.wrap (↑(BitVec.ofInt IntKind.i64.bits v4.1|||BitVec.ofInt IntKind.i64.bits (IntKind.i64.wrap ((1:Int)*(2:Int)^min y6.toNat IntKind.i64.bits))).toNat:Int),IntKind.i64.wrap (v4.2.1+(1:Int)),()))) (¬(↑p.length:Int)<(0:Int)/\P (v4.1==IntKind.i64.wrap (IntKind.i64.wrap ((1:Int)*(2:Int)^min (↑p.length:Int).toNat IntKind.i64.bits)-(1:Int))))) ((0:Int),(0:Int),PUnit.unit)))=fnW Fu (look [(100,Cs),(105,Tn)]) Jn Tryz.f130 (p,()) P:=by kernel_rfl
theorem BV (n:Int) (g:List (List Int)) (P:Bool->Prop):(∃(y3:Bool),Cs.fn (n,(1:Int),(20:Int),())=some y3/\Br (!y3) (P false) (Br (decide ((↑g.length:Int)>(8:Int))) (P false) (Dn (λ(v4:Int×PUnit) (k5:Int×PUnit->Prop)=>Br (decide (v4.1<(↑g.length:Int))) (∃(y6:List Int),idx g v4.1=some y6/\Br ((↑y6.length:Int) !=n) (P false) (∃(y7:List Int),idx g v4.1=some y7/\ ∃(y8:Bool),Jn.fn (y7,())=some y8/\Br (!y8) (P false) (k5 (IntKind.i64.wrap (v4.1+(1:Int)),())))) (P true)) ((0:Int),PUnit.unit))))=fnW Fu (look [(95,Cs),(162,Jn)]) Qz Tryz.f122 (n,g,()) P:=by kernel_rfl
theorem Af1 (p:List Int) (n:Int) (P:Bool->Prop):(∃(y3:Int),Tn.fn (p,())=some y3/\Br (y3 !=n) (P true) (∃(y4:Bool),Jn.fn (p,())=some y4/\P !y4))=fnW Fu (look [(105,Tn),(130,Jn)]) kK Tryz.f174 (p,n,()) P:=by kernel_rfl
theorem Aoq (g:List (List Int)) (n:Int×Unit) (P:Int->Prop):(Dn (λ(v3:Int×PUnit) (k4:Int×PUnit->Prop)=>Br (decide (v3.1<(↑g.length:Int))) (∃(y5:List Int),idx g v3.1=some y5/\ ∃(y6:Bool),kK.fn (y5,n.1,())=some y6/\Br y6 (P v3.1) (k4 (IntKind.i64.wrap (v3.1+(1:Int)),()))) (P (-1:Int))) ((0:Int),PUnit.unit))=fnW Fu (look [(174,kK)]) yd Tryz.f140 (g,n,()) P:=by kernel_rfl
theorem Aoo (g:List (List Int)) (n:Int×Unit) (P:Bool->Prop):(∃(y3:Int),yd.fn (g,n,())=some y3/\P (decide (y3>=(0:Int))))=fnW Fu (look [(140,yd)]) yc Tryz.f173 (g,n,()) P:=by kernel_rfl
theorem BQ (n:Int) (g:List (List Int)) (P:Bool->Prop):(∃(y3:Bool),Cs.fn (n,(1:Int),(20:Int),())=some y3/\Br y3 (Br (decide ((↑g.length:Int)<=(8:Int))) (∃(y4:Bool),yc.fn (g,(n,()),())=some y4/\P !y4) (P false)) (P false))=fnW Fu (look [(100,Cs),(173,yc)]) Qz Tryz.f150 (n,g,()) P:=by kernel_rfl
theorem Ac5 (s:ByteArray) (i:Int) (P:Bool->Prop):((0:Int)<=i/\ ∃(y3:UInt8),s[i.toNat]?=some y3/\Br (decide ((↑y3.toNat:Int)<(65:Int))) (P false) ((0:Int)<=i/\ ∃(y4:UInt8),s[i.toNat]?=some y4/\Br (decide ((↑y4.toNat:Int)>(90:Int))) (P false) (Dn (λ(v5:Int×PUnit) (k6:Int×PUnit->Prop)=>Br (decide (v5.1<i)) ((0:Int)<=v5.1/\ ∃(y7:UInt8),s[v5.1.toNat]?=some y7/\(0:Int)<=i/\ ∃(y8:UInt8),s[i.toNat]?=some y8/\Br ((↑y7.toNat:Int)==(↑y8.toNat:Int)) (P false) (k6 (IntKind.i64.wrap (v5.1+(1:Int)),()))) (P true)) ((0:Int),PUnit.unit))))=fnW Fu (look []) eQ Tryz.f123 (s,i,()) P:=by kernel_rfl
theorem VU (s:ByteArray) (P:Bool->Prop):(Dn (λ(v2:Int×PUnit) (k3:Int×PUnit->Prop)=>Br (decide (v2.1<(↑s.size:Int))) ((0:Int)<=v2.1/\ ∃(y4:UInt8),s[v2.1.toNat]?=some y4/\ ∃(y5:Bool),Cs.fn (IntKind.i64.wrap (↑y4.toNat:Int),(65:Int),(90:Int),())=some y5/\Br (!y5) (P false) (Dn (λ(v6:Int×PUnit) (k7:Int×PUnit->Prop)=>Br (decide (v6.1<v2.1)) ((0:Int)<=v6.1/\ ∃(y8:UInt8),s[v6.1.toNat]?=some y8/\(0:Int)<=v2.1/\ ∃(y9:UInt8),s[v2.1.toNat]?=some y9/\Br ((↑y8.toNat:Int)==(↑y9.toNat:Int)) (P false) (k7 (IntKind.i64.wrap (v6.1+(1:Int)),()))) (k3 (IntKind.i64.wrap (v2.1+(1:Int)),()))) ((0:Int),PUnit.unit))) (∃(y4:Bool),Cs.fn ((↑s.size:Int),(1:Int),(8:Int),())=some y4/\P y4)) ((0:Int),PUnit.unit))=fnW Fu (look [(100,Cs)]) bx Tryz.f151 (s,()) P:=by kernel_rfl
abbrev lM:Type:=Int×Int×ByteArray×List (List Int)×PUnit
theorem BX (p:Int×ByteArray×List (List Int)×Unit) (P:Bool->Prop):(Br ((↑p.2.2.1.length:Int)==(0:Int)) (P false) (Br ((↑p.2.1.size:Int) !=(↑p.2.2.1.length:Int)) (P false) (∃(y2:Bool),Qz.fn (p.1,p.2.2.1,())=some y2/\Br (!y2) (P false) (Dn (λ(v3:lM) (k4:lM->Prop)=>Br (decide (v3.1<(↑v3.2.2.1.size:Int))) (∃(y5:Bool),eQ.fn (v3.2.2.1,v3.1,())=some y5/\Br (!y5) (P false) (k4 (IntKind.i64.wrap (v3.1+(1:Int)),v3.2.1,v3.2.2.1,v3.2.2.2.1,()))) (P true)) ((0:Int),p.1,p.2.1,p.2.2.1,PUnit.unit)))))=fnW Fu (look [(122,Qz),(123,eQ)]) Il Tryz.f63 (p,()) P:=by kernel_rfl
theorem BT (p:Int×ByteArray×List (List Int)×Unit) (P:Bool->Prop):(∃(y2:Bool),Qz.fn (p.1,p.2.2.1,())=some y2/\Br y2 (∃(y3:Bool),bx.fn (p.2.1,())=some y3/\Br y3 (P ((↑p.2.1.size:Int)==(↑p.2.2.1.length:Int))) (P false)) (P false))=fnW Fu (look [(150,Qz),(151,bx)]) Il Tryz.f99 (p,()) P:=by kernel_rfl
theorem Aj6 (xs:List Int) (_:True):fnW Fu (look []) Tn Tryz.f105 (xs,()) (λ(z:Int)=>z=(xs.length:Int)):=Eq.mp (Aju xs _) rfl
theorem gu:Sound Tryz.prog 105 Tn:=
 Sound.Gw Dq Bn mixed Tryz.func105 (by kernel_rfl) (by kernel_rfl) λx h=>Aj6 x.1 h
theorem BD {α:Type} [DecidableEq α]: ∀(l m:List α),l.Nodup->(∀x∈l,x∈m)->l.length<=m.length
 | [],m,_,_=>Kd _
 |a::l,m,hn,hs=>by
  have ha:a∈m:=hs a (Fk ..)
  have hn:=Cd.1 hn
  have:=BD l (m.erase a) hn.2 λx hx=>(List.mem_erase_of_ne (λ(e:x=a)=>hn.1 (by rw [<-e];exact hx))).2 (hs x (Ao _ hx))
  rw [List.length_erase_of_mem ha] at this
  have:0<m.length:=List.length_pos_of_mem ha
  simp only [Ay]
  omega
def upto (n:Nat):List Int:=(List.range n).map Int.ofNat
theorem NY (n:Nat):(upto n).Nodup:=by
 unfold upto
 exact List.Pairwise.map _ (λa b vK e=>vK (Int.ofNat.inj e)) List.nodup_range
theorem Qw {n:Nat} {x:Int} :x∈upto n↔0<=x/\x<n:=by
 unfold upto
 simp only [Bi,Dl]
 constructor
 ·rintro ⟨a,ha,rfl⟩;exact ⟨Int.natCast_nonneg _,Int.ofNat_lt.2 ha⟩
 ·rintro ⟨h1,h2⟩;exact ⟨x.toNat,by omega,by simp only [Int.ofNat_eq_natCast];omega⟩
theorem Sw (n:Nat):(upto n).length=n:=by simp [upto]
theorem jw {xs:List Int} (h: ∀j (hj:j<xs.length),xs[j]∉xs.take j):xs.Nodup:=by
 refine Ek.2 λi j hi hj jh e=>h j hj ?_
 rw [<-e]
 exact List.mem_take_iff_getElem.2 ⟨i,by omega,rfl⟩
theorem vf {xs:List Int} (h:xs.Nodup): ∀j (hj:j<xs.length),xs[j]∉xs.take j:=by
 intro j hj hm
 obtain ⟨i,hi,e⟩:=List.mem_take_iff_getElem.1 hm
 exact Ek.1 h i j (by omega) hj (by omega) e
theorem du {xs:List Int} (h: ∀x∈xs,0<=x/\x<xs.length):(∀k:Nat,k<xs.length->(k:Int)∈xs)↔ ∀j (hj:j<xs.length),xs[j]∉xs.take j:=by
 constructor
 ·intro ha j hj hm
  have h1:=BD (upto xs.length) (xs.take j++xs.drop (j+1)) (NY _) λx hx=>by
   obtain ⟨h1,h2⟩:=Qw.1 hx
   have hx:=ha x.toNat (by omega)
   rw [show ((x.toNat:Nat):Int)=x by omega] at hx
   rw [<-Kf j xs,Bb,Gg hj,Bg] at hx
   rcases hx with hx|rfl|hx
   ·exact Bk _ hx
   ·exact Bk _ hm
   ·exact Cg _ hx
  rw [Sw,As,Dj,List.length_drop] at h1
  omega
 ·intro hn k hk
  refine Bx λhc=>?_
  have h1:=BD xs ((upto xs.length).erase (k:Int)) (jw hn) λx hx=>by
   refine (List.mem_erase_of_ne λ(e:x=(k:Int))=>hc (by rw [<-e];exact hx)).2 (Qw.2 (h x hx))
  rw [List.length_erase_of_mem (Qw.2 ⟨by omega,by omega⟩),Sw] at h1
  omega
def mask (xs:List Int):Nat:=xs.foldl (λm x=>m|||2^x.toNat) 0
theorem TJ (xs:List Int) (x:Int):mask (xs++ [x])=mask xs|||2^x.toNat:=by simp [mask]
theorem zw (xs:List Int) (k:Nat): ∀a:Nat,(xs.foldl (λm x=>m|||2^x.toNat) a).testBit k=(a.testBit k||xs.any λx=>decide (x.toNat=k)):=by
 induction xs with
 |nil=>simp
 |cons x xs ih=>
  intro a
  rw [Ds,ih,Nat.testBit_or,Nat.testBit_two_pow,List.any_cons,Bool.or_assoc]
theorem tU (xs:List Int) (k:Nat):(mask xs).testBit k=xs.any λx=>decide (x.toNat=k):=by
 unfold mask
 rw [zw,Nat.zero_testBit,Xh]
theorem Aeb {xs:List Int} {n:Nat} (h: ∀x∈xs,x.toNat<n):mask xs<2^n:=by
 refine Nat.lt_pow_two_of_testBit _ λk hk=>?_
 rw [tU]
 refine Lt.2 λht=>?_
 obtain ⟨x,hx,he⟩:=Fh.1 ht
 have:=h x hx
 have:=Jg he
 omega
theorem xL {xs:List Int} (h: ∀x∈xs,0<=x/\x<xs.length):mask xs=2^xs.length-1↔ ∀k:Nat,k<xs.length->(k:Int)∈xs:=by
 constructor
 ·intro e k hk
  have h1:=tU xs k
  rw [e,Nat.testBit_two_pow_sub_one,Co hk] at h1
  obtain ⟨x,hx,he⟩:=Fh.1 h1.symm
  have:=(h x hx).1
  have:=Jg he
  have e:x=(k:Int):=by omega
  exact e▸hx
 ·intro ha
  refine Nat.eq_of_testBit_eq λk=>?_
  rw [tU,Nat.testBit_two_pow_sub_one]
  by_cases hk:k<xs.length
  ·rw [Co hk]
   exact Fh.2 ⟨k,ha k hk,by simp⟩
  ·rw [Ep hk]
   refine Lt.2 λht=>?_
   obtain ⟨x,hx,he⟩:=Fh.1 ht
   have:=h x hx
   have:=Jg he
   omega
theorem Aef {m:Nat} {x:Int} (hm:m<2^20) (h0:0<=x) (h1:x<20):
  IntKind.i64.wrap (((BitVec.ofInt IntKind.i64.bits (m:Int)|||BitVec.ofInt IntKind.i64.bits (IntKind.i64.wrap ((1:Int)*(2:Int)^min x.toNat IntKind.i64.bits))).toNat:Nat):Int)=((m|||2^x.toNat:Nat):Int):=by
 have hx:(2:Nat)^x.toNat<2^20:=Nat.pow_lt_pow_right (by omega) (by omega)
 have e1:min x.toNat IntKind.i64.bits=x.toNat:=by show min x.toNat 64=_;omega
 have e2:(1:Int)*(2:Int)^x.toNat=((2^x.toNat:Nat):Int):=by rw [Int.one_mul];exact (Int.natCast_pow 2 _).symm
 rw [e1,e2,Cn (n:=((2^x.toNat:Nat):Int)) (by have:(0:Int)<=((2^x.toNat:Nat):Int):=Int.natCast_nonneg _;omega) (by omega)]
 show IntKind.i64.wrap (((BitVec.ofInt 64 (m:Int)|||BitVec.ofInt 64 ((2^x.toNat:Nat):Int)).toNat:Nat):Int)=_
 rw [BitVec.ofInt_natCast,BitVec.ofInt_natCast,BitVec.toNat_or,BitVec.toNat_ofNat,BitVec.toNat_ofNat,Nat.mod_eq_of_lt (by omega),Nat.mod_eq_of_lt (by omega)]
 have:=Nat.or_lt_two_pow hm hx
 exact Cn (by omega) (by omega)
theorem zJ (p:List Int) (h:short p):fnW Fu (look [(95,Cs),(175,Ri)]) Jn Tryz.f162 (p,()) (λ(z:Bool)=>z=Kj p):=by
 have hs:=h
 unfold short at h
 refine Eq.mp (BW p _) ⟨_,Ab trivial,⟨λhp=>?_,λhp=>?_⟩⟩
 ·have hp:=Hj hp
  rw [Er] at hp
  dsimp only at hp
  exact Di λhh=>hp ⟨by omega,by omega⟩
 ·have hp:=Hk hp
  rw [Er] at hp
  dsimp only at hp
  refine Bu p.length (λv=>v.1) (λj _=>DL p.length p j) rfl (λj _ hj=>absurd hj (Hc _)) ?_
  rintro j ⟨i,⟨⟩⟩ K hj hi hR hK
  dsimp only at hi⊢
  subst hi
  refine Br.dec (λhl=>?_) λhl=>?_
  ·have hl:j<p.length:=by omega
   refine ⟨_,Cf hl,_,Ab trivial,⟨λhq=>?_,λhq=>?_⟩⟩
   ·have hq:=Hj hq
    rw [Er,Cn (by omega) (by omega)] at hq
    exact Di λhh=>hq ⟨(hh.2.2 j hl hl).1,(hh.2.2 j hl hl).2.1⟩
   ·have hq:=Hk hq
    rw [Er,Cn (by omega) (by omega)] at hq
    refine ⟨⟨by omega,by omega,by omega⟩,_,Cf hl,?_⟩
    rw [show (Int.toNat 0)=0 from rfl,Fw,Au]
    refine ⟨_,Ab (NB hs j),⟨λhc=>?_,λhc=>?_⟩⟩
    ·have hc:decide (p[j]∈p.take j)=true:=hc
     rw [Ky] at hc
     exact Di λhh=>(hh.2.2 j hl hl).2.2 hc
    ·have hc:decide (p[j]∈p.take j)=false:=hc
     rw [decide_eq_false_iff_not] at hc
     rw [Bv (by omega)]
     exact hK hl _ rfl (Ade hl hR hq.1 hq.2 hc)
  ·have:j=p.length:=by omega
   subst this
   exact Pg ⟨by omega,by omega,hR⟩
theorem Zd:Sound Tryz.prog 162 Jn:=
 Sound.Gw Dq (Ax Rl (Ax oo Bn)) mixed Tryz.func162 (by kernel_rfl) (by kernel_rfl) λx h=>zJ x.1 h
theorem zE (p:List Int) (h:short p):fnW Fu (look [(100,Cs),(105,Tn)]) Jn Tryz.f130 (p,()) (λ(z:Bool)=>z=Kj p):=by
 unfold short at h
 refine Eq.mp (BR p _) ⟨_,Ab trivial,_,Ab trivial,⟨λhp=>?_,λhp=>?_⟩⟩
 ·have hp:=Hj hp
  rw [Er] at hp
  dsimp only at hp
  exact Di λhh=>hp ⟨by omega,by omega⟩
 ·have hp:=Hk hp
  rw [Er] at hp
  dsimp only at hp
  refine Bu p.length (λv=>v.2.1) (λj v=>v.1=(mask (p.take j):Int)/\ ∀x∈p.take j,0<=x/\x<p.length) rfl ⟨rfl,by simp⟩ ?_
  rintro j ⟨m,i,⟨⟩⟩ K hj hi ⟨hm,hR⟩ hK
  dsimp only at hi hm⊢
  subst hi hm
  refine Br.dec (λhl=>?_) λhl=>?_
  ·have hl:j<p.length:=by omega
   refine ⟨_,Cf hl,_,Ab trivial,_,Ab trivial,⟨λhq=>?_,λhq=>?_⟩⟩
   ·have hq:=Hj hq
    rw [Er] at hq
    dsimp only at hq
    rw [Cn (by omega) (by omega)] at hq
    exact Di λhh=>hq ⟨(hh.2.2 j hl hl).1,(hh.2.2 j hl hl).2.1⟩
   ·have hq:=Hk hq
    rw [Er] at hq
    dsimp only at hq
    rw [Cn (by omega) (by omega)] at hq
    refine ⟨by omega,?_⟩
    rw [Bv (by omega)]
    have hb:mask (p.take j)<2^20:=Aeb λx hx=>by have:=hR x hx;omega
    refine hK hl _ rfl ⟨?_,?_⟩
    ·dsimp only
     rw [Aef hb hq.1 (by omega),Cw hl,TJ]
    ·rw [Cw hl]
     intro x hx
     rcases Bb.1 hx with hx|hx
     ·exact hR x hx
     ·rw [Ad.1 hx];omega
  ·have:j=p.length:=by omega
   subst this
   rw [Bd] at hR⊢
   refine ⟨by omega,?_⟩
   have hx:(2:Nat)^p.length<=2^20:=Nat.pow_le_pow_right (by omega) (by omega)
   have KL:0<(2:Nat)^p.length:=Nat.two_pow_pos _
   have e1:min (p.length:Int).toNat IntKind.i64.bits=p.length:=by show min (p.length:Int).toNat 64=_;omega
   have e2:(1:Int)*(2:Int)^p.length=((2^p.length:Nat):Int):=by rw [Int.one_mul];exact (Int.natCast_pow 2 _).symm
   rw [e1,e2,Cn (n:=((2^p.length:Nat):Int)) (by omega) (by omega),Cn (by omega) (by omega)]
   have hE:((mask p:Int)==((2^p.length:Nat):Int)-1)=decide (mask p=2^p.length-1):=by
    rw [Bool.eq_iff_iff,beq_iff_eq,Ky]
    omega
   show ((mask p:Int)==((2^p.length:Nat):Int)-1)=Kj p
   rw [hE]
   by_cases hf:mask p=2^p.length-1
   ·rw [Co hf]
    have hn:=(du hR).1 ((xL hR).1 hf)
    refine Pg ⟨by omega,by omega,λj hj _=>?_⟩
    have:=hR _ (Ak hj)
    exact ⟨this.1,by omega,hn j hj⟩
   ·rw [Ep hf]
    refine Di λhh=>hf ((xL hR).2 ((du hR).2 λj hj=>(hh.2.2 j hj hj).2.2))
theorem eX:Sound Tryz.prog 130 Jn:=
 Sound.Gw Dq (Ax Xc (Ax gu Bn)) mixed Tryz.func130 (by kernel_rfl) (by kernel_rfl) λx h=>zE x.1 h
theorem zI (n:Int) (g:List (List Int)) (h:Pb g):fnW Fu (look [(95,Cs),(162,Jn)]) Qz Tryz.f122 (n,g,()) (λ(z:Bool)=>z=Zz n g):=by
 obtain ⟨h,h4⟩:=h
 refine Eq.mp (BV n g _) ⟨_,Ab trivial,⟨λhp=>?_,λhp=>?_⟩⟩
 ·have hp:=Hj hp
  rw [Er] at hp
  exact Di λhh=>hp hh.1
 ·have hp:=Hk hp
  rw [Er] at hp
  refine Br.dec (λhg=>?_) λhg=>?_
  ·exact Di λhh=>by have:=hh.2.1;omega
  ·refine Bu g.length (λv=>v.1) (λj _=> ∀p∈g.take j,Hv n p=true) rfl (by simp) ?_
   rintro j ⟨i,⟨⟩⟩ K hj hi hR hK
   dsimp only at hi⊢
   subst hi
   refine Br.dec (λhl=>?_) λhl=>?_
   ·have hl:j<g.length:=by omega
    have hm:g[j]∈g:=Ak hl
    refine ⟨_,Cf hl,⟨λhe=>?_,λhe=>?_⟩⟩
    ·simp only [bne_iff_ne,ne_eq] at he
     exact Di λhh=>he (Iq.1 (hh.2.2 _ hm)).1
    ·simp only [Xw] at he
     refine ⟨_,Cf hl,_,Ab (h4 _ hm),⟨λhq=>?_,λhq=>?_⟩⟩
     ·have hq:=Hj hq
      exact Di λhh=>hq (Iq.1 (hh.2.2 _ hm)).2
     ·have hq:=Hk hq
      rw [Bv (by omega)]
      refine hK hl _ rfl ?_
      rw [Cw hl]
      intro x hx
      rcases Bb.1 hx with hx|hx
      ·exact hR x hx
      ·rw [Ad.1 hx];exact Iq.2 ⟨he,hq⟩
   ·have:j=g.length:=by omega
    subst this
    rw [Bd] at hR
    exact Pg ⟨hp,by omega,hR⟩
theorem pR:Sound Tryz.prog 122 Qz:=
 Sound.Gw Dq (Ax Rl (Ax Zd Bn)) mixed Tryz.func122 (by kernel_rfl) (by kernel_rfl) λx h=>zI x.1 x.2.1 h
theorem Aeh (p:List Int) (n:Int) (h:short p):fnW Fu (look [(105,Tn),(130,Jn)]) kK Tryz.f174 (p,n,()) (λ(z:Bool)=>z=!Hv n p):=by
 refine Eq.mp (Af1 p n _) ⟨_,Ab trivial,⟨λhe=>?_,λhe=>⟨_,Ab h,?_⟩⟩⟩
 ·simp only [bne_iff_ne,ne_eq] at he
  have:Hv n p=false:=Ad9.2 λhh=>he hh.1
  rw [this];rfl
 ·simp only [Xw] at he
  show (!Kj p)=_
  congr 1
  cases hp:Kj p with
  |true=>exact Pg ⟨he,hp⟩
  |false=>exact Di λhh=>by rw [hh.2] at hp;cases hp
theorem HI:Sound Tryz.prog 174 kK:=
 Sound.Gw Dq (Ax gu (Ax eX Bn)) mixed Tryz.func174 (by kernel_rfl) (by kernel_rfl) λx h=>Aeh x.1 x.2.1 h
theorem qz {α:Type} (P:α->Bool): ∀(l:List α) (i:Int),0<=i->(0<=Md P l i↔l.any P=true)
 | [],i,_=>by simp [Md]
 |y::r,i,h=>by
  simp only [Md,List.any_cons,Mi]
  split
  ·rename_i hy;simp [hy,h]
  ·rename_i hy;rw [qz P r (i+1) (by omega)];simp [hy]
theorem Ao1 (g:List (List Int)) (n:Int×Unit) (h:Pb g):fnW Fu (look [(174,kK)]) yd Tryz.f140 (g,n,()) (λ(z:Int)=>z=Md (λp=>!Hv n.1 p) g 0):=by
 obtain ⟨h,h4⟩:=h
 refine Eq.mp (Aoq g n _) ?_
 refine Bu g.length (λv=>v.1) (λj _=>Md (λp=>!Hv n.1 p) (g.drop j) j=Md (λp=>!Hv n.1 p) g 0) rfl (by simp) ?_
 rintro j ⟨i,⟨⟩⟩ K hj hi hR hK
 dsimp only at hi⊢
 subst hi
 refine Br.dec (λhl=>?_) λhl=>?_
 ·have hl:j<g.length:=by omega
  rw [Gg hl] at hR
  simp only [Md] at hR
  refine ⟨_,Cf hl,_,Ab (h4 _ (Ak hl)),⟨λhe=>?_,λhe=>?_⟩⟩
  ·have he:(!Hv n.1 g[j])=true:=he
   rw [Ab he] at hR
   exact hR
  ·have he:(!Hv n.1 g[j])=false:=he
   rw [Ai (by rw [he];decide)] at hR
   rw [Bv (by omega)]
   exact hK hl _ rfl (by push_cast;exact hR)
 ·have:j=g.length:=by omega
  subst this
  rw [Zh] at hR
  exact hR
theorem UW:Sound Tryz.prog 140 yd:=
 Sound.Gw Dq (Ax HI Bn) mixed Tryz.func140 (by kernel_rfl) (by kernel_rfl) λx h=>Ao1 x.1 x.2.1 h
theorem Anz (g:List (List Int)) (n:Int×Unit) (h:Pb g):fnW Fu (look [(140,yd)]) yc Tryz.f173 (g,n,()) (λ(z:Bool)=>z=List.any g (λp=>!Hv n.1 p)):=by
 refine Eq.mp (Aoo g n _) ⟨_,Ab h,?_⟩
 rw [Bool.eq_iff_iff,Ky]
 exact qz _ g 0 (Kc 0)
theorem UU:Sound Tryz.prog 173 yc:=
 Sound.Gw Dq (Ax UW Bn) mixed Tryz.func173 (by kernel_rfl) (by kernel_rfl) λx h=>Anz x.1 x.2.1 h
theorem zD (n:Int) (g:List (List Int)) (h:Pb g):fnW Fu (look [(100,Cs),(173,yc)]) Qz Tryz.f150 (n,g,()) (λ(z:Bool)=>z=Zz n g):=by
 refine Eq.mp (BQ n g _) ⟨_,Ab trivial,⟨λhp=>?_,λhp=>?_⟩⟩
 ·have hp:Pp n 1 20=true:=hp
  rw [Er] at hp
  refine Br.dec (λhl=>⟨_,Ab h,?_⟩) λhl=>?_
  ·show (!List.any g (λp=>!Hv n p))=Zz n g
   cases ha:List.any g (λp=>!Hv n p) with
   |true=>
    obtain ⟨p,xA,QD⟩:=Fh.1 ha
    exact Di λhh=>by rw [hh.2.2 p xA] at QD;cases QD
   |false=>
    refine Pg ⟨hp,by omega,λp hm=>?_⟩
    have:=List.any_eq_false.1 ha p hm
    simpa using this
  ·exact Di λhh=>by have:=hh.2.1;omega
 ·refine Di λhh=>?_
  have:Pp n 1 20=true:=Er.2 hh.1
  have hp:Pp n 1 20=false:=hp
  rw [this] at hp;cases hp
theorem pO:Sound Tryz.prog 150 Qz:=
 Sound.Gw Dq (Ax Xc (Ax UU Bn)) mixed Tryz.func150 (by kernel_rfl) (by kernel_rfl) λx h=>zD x.1 x.2.1 h
theorem Ni {s:ByteArray} {k:Nat} (h:k<s.size):s[k]?=some s[k]:=getElem?_pos s k h
theorem Aab (s:ByteArray) (i:Int) (h:0<=i/\i<s.size/\s.size<=4294967296):fnW Fu (look []) eQ Tryz.f123 (s,i,()) (λ(z:Bool)=>z=nY s i):=by
 obtain ⟨h1,h2,h3⟩:=h
 have hi:i.toNat<s.size:=by omega
 refine Eq.mp (Ac5 s i _) ⟨h1,_,Ni hi,Br.dec (λhq=>?_) λhq=>⟨h1,_,Ni hi,Br.dec (λhr=>?_) λhr=>?_⟩⟩
 ·refine Di λ⟨c,hc,hc1,_⟩=>?_
  rw [Ni hi] at hc;cases hc;omega
 ·refine Di λ⟨c,hc,_,hc1,_⟩=>?_
  rw [Ni hi] at hc;cases hc;omega
 ·refine Bu i.toNat (λv=>v.1) (λj _=> ∀k,k<j->s[k]?≠some s[i.toNat]) rfl (λk hk=>absurd hk (Hc _)) ?_
  rintro j ⟨i',⟨⟩⟩ K hj kR hR hK
  dsimp only at kR⊢
  subst kR
  refine Br.dec (λhl=>?_) λhl=>?_
  ·have hl:j<i.toNat:=by omega
   have hj:j<s.size:=by omega
   rw [Au]
   refine ⟨by omega,_,Ni hj,h1,_,Ni hi,⟨λhe=>?_,λhe=>?_⟩⟩
   ·simp only [beq_iff_eq,Mj] at he
    refine Di λ⟨c,hc,_,_,hc1⟩=>?_
    rw [Ni hi] at hc;cases hc
    exact hc1 j hl (by rw [Ni hj,UInt8.toNat_inj.1 he])
   ·simp only [Rx,ne_eq,Mj] at he
    rw [Bv (by omega)]
    refine hK hl _ rfl λk hk=>?_
    by_cases e:k=j
    ·subst e
     rw [Ni hj]
     exact λe=>he (by rw [Bc e])
    ·exact hR k (by omega)
  ·have:j=i.toNat:=by omega
   subst this
   exact Pg ⟨_,Ni hi,by omega,by omega,hR⟩
theorem AN:Sound Tryz.prog 123 eQ:=
 Sound.Gw Dq Bn mixed Tryz.func123 (by kernel_rfl) (by kernel_rfl) λx h=>Aab x.1 x.2.1 h
theorem TW (s:ByteArray) (h:s.size<=4294967296):fnW Fu (look [(100,Cs)]) bx Tryz.f151 (s,()) (λ(z:Bool)=>z=br s):=by
 refine Eq.mp (VU s _) ?_
 refine Bu s.size (λv=>v.1) (λj _=> ∀k,k<j->yx s k) rfl (λk hk=>absurd hk (Hc _)) ?_
 rintro j ⟨i,⟨⟩⟩ K hj hi hR hK
 dsimp only at hi⊢
 subst hi
 refine Br.dec (λhl=>?_) λhl=>?_
 ·have hl:j<s.size:=by omega
  rw [Au]
  have hb:=(s[j]).toNat_lt
  refine ⟨by omega,_,Ni hl,_,Ab trivial,⟨λhq=>?_,λhq=>?_⟩⟩
  ·have hq:=Hj hq
   rw [Er] at hq
   dsimp only at hq
   rw [Cn (by omega) (by omega)] at hq
   refine Di λhh=>?_
   obtain ⟨c,hc,hc1,hc2,_⟩:=hh.2 j hl
   rw [Ni hl] at hc;cases hc
   exact hq ⟨by omega,by omega⟩
  ·have hq:=Hk hq
   rw [Er] at hq
   dsimp only at hq
   rw [Cn (by omega) (by omega)] at hq
   refine Bu j (λv=>v.1) (λm _=> ∀k,k<m->s[k]?≠some s[j]) rfl (λk hk=>absurd hk (Hc _)) ?_
   rintro m ⟨i',⟨⟩⟩ K' hm kR hR' hK'
   dsimp only at kR⊢
   subst kR
   refine Br.dec (λMc=>?_) λMc=>?_
   ·have Mc:m<j:=by omega
    have hm':m<s.size:=by omega
    rw [Au]
    refine ⟨by omega,_,Ni hm',by omega,_,Ni hl,⟨λhe=>?_,λhe=>?_⟩⟩
    ·simp only [beq_iff_eq,Mj] at he
     refine Di λhh=>?_
     obtain ⟨c,hc,_,_,hc1⟩:=hh.2 j hl
     rw [Ni hl] at hc;cases hc
     exact hc1 m Mc (by rw [Ni hm',UInt8.toNat_inj.1 he])
    ·simp only [Rx,ne_eq,Mj] at he
     rw [Bv (by omega)]
     refine hK' Mc _ rfl λk hk=>?_
     by_cases e:k=m
     ·subst e
      rw [Ni hm']
      exact λe=>he (by rw [Bc e])
     ·exact hR' k (by omega)
   ·have:m=j:=by omega
    subst this
    rw [Bv (by omega)]
    refine hK hl _ rfl λk hk=>?_
    by_cases e:k=m
    ·subst e
     exact ⟨_,Ni hl,by omega,by omega,hR'⟩
    ·exact hR k (by omega)
 ·have:j=s.size:=by omega
  subst this
  refine ⟨_,Ab trivial,?_⟩
  show Pp s.size 1 8=_
  cases hr:Pp s.size 1 8 with
  |true=>rw [Er] at hr;exact Pg ⟨by omega,hR⟩
  |false=>refine Di λhh=>?_;rw [Er.2 ⟨by omega,by omega⟩] at hr;cases hr
theorem wA:Sound Tryz.prog 151 bx:=
 Sound.Gw Dq (Ax Xc Bn) mixed Tryz.func151 (by kernel_rfl) (by kernel_rfl) λx h=>TW x.1 h
theorem NZ {p:PP} (h:Bt p=true):1<=p.1/\p.1<=20/\1<=p.2.2.1.length/\p.2.2.1.length<=8:=by
 obtain ⟨h1,h2,h3⟩:=Iq.1 h
 obtain ⟨h4,h5,_⟩:=Iq.1 h1
 obtain ⟨h6,_⟩:=Iq.1 h2
 omega
theorem zK (p:PP) (h:Eo p):fnW Fu (look [(122,Qz),(123,eQ)]) Il Tryz.f63 (p,()) (λ(z:Bool)=>z=Bt p):=by
 obtain ⟨hn,hg⟩:=h
 refine Eq.mp (BX p _) ⟨λh0=>?_,λh0=>⟨λh1=>?_,λh1=>⟨_,Ab hg,⟨λh2=>?_,λh2=>?_⟩⟩⟩⟩
 ·simp only [beq_iff_eq] at h0
  exact Di λhh=>by obtain ⟨_,h2,h3⟩:=hh;have:=(Iq.1 h2).1;omega
 ·simp only [bne_iff_ne,ne_eq,Mj] at h1
  exact Di λhh=>h1 hh.2.2
 ·have h2:=Hj h2
  exact Di λhh=>h2 hh.1
 ·simp only [Rx,ne_eq] at h0
  simp only [Xw,Mj] at h1
  have h2:Zz p.1 p.2.2.1=true:=Hk h2
  refine Bu p.2.1.size (λv=>v.1) (λj v=>v.2=(p.1,p.2.1,p.2.2.1,())/\ ∀k,k<j->yx p.2.1 k) rfl ⟨rfl,λk hk=>absurd hk (Hc _)⟩ ?_
  rintro j ⟨i,v⟩ K hj hi ⟨hv,hR⟩ hK
  dsimp only at hi hv⊢
  subst hi hv
  dsimp only
  refine Br.dec (λhl=>?_) λhl=>?_
  ·have hl:j<p.2.1.size:=by omega
   refine ⟨_,Ab ⟨Int.natCast_nonneg j,Int.ofNat_lt.2 hl,hn⟩,⟨λhq=>?_,λhq=>?_⟩⟩
   ·have hq: ¬nY p.2.1 j=true:=Hj hq
    refine Di λhh=>hq (Iq.2 ?_)
    rw [Au]
    exact (Iq.1 hh.2.1).2 j hl
   ·have hq:nY p.2.1 j=true:=Hk hq
    have hq:=Iq.1 hq
    rw [Au] at hq
    rw [Bv (by omega)]
    refine hK hl _ rfl ⟨rfl,λk hk=>?_⟩
    by_cases e:k=j
    ·subst e;exact hq
    ·exact hR k (by omega)
  ·have:j=p.2.1.size:=by omega
   subst this
   have:=(Iq.1 h2).2.1
   exact Pg ⟨h2,Iq.2 ⟨⟨by omega,by omega⟩,hR⟩,h1⟩
theorem Ze:Sound Tryz.prog 63 Il:=
 Sound.Gw Dq (Ax pR (Ax AN Bn)) mixed Tryz.func63 (by kernel_rfl) (by kernel_rfl) λx h=>zK x.1 h
theorem zG (p:PP) (h:Eo p):fnW Fu (look [(150,Qz),(151,bx)]) Il Tryz.f99 (p,()) (λ(z:Bool)=>z=Bt p):=by
 obtain ⟨hn,hg⟩:=h
 refine Eq.mp (BT p _) ⟨_,Ab hg,⟨λh1=>⟨_,Ab hn,⟨λh2=>?_,λh2=>?_⟩⟩,λh1=>?_⟩⟩
 ·have h1:Zz p.1 p.2.2.1=true:=h1
  have h2:br p.2.1=true:=h2
  by_cases e:p.2.1.size=p.2.2.1.length
  ·rw [e,beq_self_eq_true];exact Pg ⟨h1,h2,e⟩
  ·rw [show ((p.2.1.size:Int)==(p.2.2.1.length:Int))=false from Rx.2 (by omega)];exact Di λhh=>e hh.2.2
 ·have h2:br p.2.1=false:=h2
  exact Di λhh=>by rw [hh.2.1] at h2;cases h2
 ·have h1:Zz p.1 p.2.2.1=false:=h1
  exact Di λhh=>by rw [hh.1] at h1;cases h1
theorem Zc:Sound Tryz.prog 99 Il:=
 Sound.Gw Dq (Ax pO (Ax wA Bn)) mixed Tryz.func99 (by kernel_rfl) (by kernel_rfl) λx h=>zG x.1 h
noncomputable abbrev eS:Spec:=Gw (.pair tI (.pair tL .unit)) .bool false true (λx=>short x.2.1) (λx=>Hv x.1 x.2.1)
noncomputable abbrev Yu:Spec:=Gw (.pair Hq (.pair tL .unit)) .bool false true (λx=>short x.2.1) (λx=>Hv x.1.1 x.2.1)
noncomputable abbrev Le:Spec:=Gw (.pair Hq (.pair tL .unit)) .bool false true (λx=>Eo x.1/\short x.2.1) (λx=>Bt x.1&&Hv x.1.1 x.2.1)
theorem Ac7 (n:Int) (s:List Int) (P:Bool->Prop):(Br ((↑s.length:Int)==n) (∃(y3:Bool),Jn.fn (s,())=some y3/\P y3) (P false))=fnW Fu (look [(162,Jn)]) eS Tryz.f124 (n,s,()) P:=by kernel_rfl
theorem vn (p:Int×ByteArray×List (List Int)×Unit) (s:List Int) (P:Bool->Prop):(∃(y3:Int),Tn.fn (s,())=some y3/\Br (y3==p.1) (∃(y4:Bool),Jn.fn (s,())=some y4/\P y4) (P false))=fnW Fu (look [(105,Tn),(130,Jn)]) Yu Tryz.f78 (p,s,()) P:=by kernel_rfl
theorem wX (p:Int×ByteArray×List (List Int)×Unit) (s:List Int) (P:Bool->Prop):(∃(y3:Bool),Il.fn ((p.1,p.2.1,p.2.2.1,()),())=some y3/\Br y3 (∃(y4:Bool),eS.fn (p.1,s,())=some y4/\P y4) (P false))=fnW Fu (look [(63,Il),(124,eS)]) Le Tryz.f64 (p,s,()) P:=by kernel_rfl
theorem wR (p:Int×ByteArray×List (List Int)×Unit) (s:List Int) (P:Bool->Prop):(∃(y3:Bool),Il.fn ((p.1,p.2.1,p.2.2.1,()),())=some y3/\Br y3 (∃(y4:Bool),Yu.fn ((p.1,p.2.1,p.2.2.1,()),s,())=some y4/\P y4) (P false))=fnW Fu (look [(99,Il),(78,Yu)]) Le Tryz.f156 (p,s,()) P:=by kernel_rfl
theorem Aad (n:Int) (s:List Int) (h:short s):fnW Fu (look [(162,Jn)]) eS Tryz.f124 (n,s,()) (λ(z:Bool)=>z=Hv n s):=by
 refine Eq.mp (Ac7 n s _) ⟨λhe=>⟨_,Ab h,?_⟩,λhe=>?_⟩
 ·simp only [beq_iff_eq] at he
  show Kj s=_
  cases hp:Kj s with
  |true=>exact Pg ⟨he,hp⟩
  |false=>exact Di λhh=>by rw [hh.2] at hp;cases hp
 ·simp only [Rx,ne_eq] at he
  exact Di λhh=>he hh.1
theorem AP:Sound Tryz.prog 124 eS:=
 Sound.Gw Dq (Ax Zd Bn) mixed Tryz.func124 (by kernel_rfl) (by kernel_rfl) λx h=>Aad x.1 x.2.1 h
theorem ud (p:PP) (s:List Int) (h:short s):fnW Fu (look [(105,Tn),(130,Jn)]) Yu Tryz.f78 (p,s,()) (λ(z:Bool)=>z=Hv p.1 s):=by
 refine Eq.mp (vn p s _) ⟨_,Ab trivial,⟨λhe=>⟨_,Ab h,?_⟩,λhe=>?_⟩⟩
 ·simp only [beq_iff_eq] at he
  show Kj s=_
  cases hp:Kj s with
  |true=>exact Pg ⟨he,hp⟩
  |false=>exact Di λhh=>by rw [hh.2] at hp;cases hp
 ·simp only [Rx,ne_eq] at he
  exact Di λhh=>he hh.1
theorem mP:Sound Tryz.prog 78 Yu:=
 Sound.Gw Dq (Ax gu (Ax eX Bn)) mixed Tryz.func78 (by kernel_rfl) (by kernel_rfl) λx h=>ud x.1 x.2.1 h
theorem wk (p:PP) (s:List Int) (h:Eo p/\short s):fnW Fu (look [(63,Il),(124,eS)]) Le Tryz.f64 (p,s,()) (λ(z:Bool)=>z=(Bt p&&Hv p.1 s)):=by
 refine Eq.mp (wX p s _) ⟨_,Ab h.1,⟨λhe=>⟨_,Ab h.2,?_⟩,λhe=>?_⟩⟩
 ·have he:Bt p=true:=he
  rw [he];rfl
 ·have he:Bt p=false:=he
  rw [he];rfl
theorem dg:Sound Tryz.prog 64 Le:=
 Sound.Gw Dq (Ax Ze (Ax AP Bn)) mixed Tryz.func64 (by kernel_rfl) (by kernel_rfl) λx h=>wk x.1 x.2.1 h
theorem wb (p:PP) (s:List Int) (h:Eo p/\short s):fnW Fu (look [(99,Il),(78,Yu)]) Le Tryz.f156 (p,s,()) (λ(z:Bool)=>z=(Bt p&&Hv p.1 s)):=by
 refine Eq.mp (wR p s _) ⟨_,Ab h.1,⟨λhe=>⟨_,Ab h.2,?_⟩,λhe=>?_⟩⟩
 ·have he:Bt p=true:=he
  rw [he];rfl
 ·have he:Bt p=false:=he
  rw [he];rfl
theorem oq:Sound Tryz.prog 156 Le:=
 Sound.Gw Dq (Ax Zc (Ax mP Bn)) mixed Tryz.func156 (by kernel_rfl) (by kernel_rfl) λx h=>wb x.1 x.2.1 h
def Ih (xs:List Int) (i:Int):Int:=xs.getD i.toNat 0
def Ag (p q:List Int):List Int:=p.map (Ih q)
def cM (f:Nat->Nat) (g:Nat->Int) (m:Nat) (init:List Int):List Int:=(List.range m).foldl (λ(out:List Int) (i:Nat)=>out.set (f i) (g i)) init
def Bs (p:List Int):List Int:=cM (λi=>(Ih p (i:Int)).toNat) (λi=>(i:Int)) p.length (List.replicate p.length 0)
def Of (n:Nat) (p:List Int):Prop:= ∀y∈p,0<=y/\y<n
noncomputable abbrev Jl:Spec:=Gw (.pair tL (.pair tL .unit)) tL false true (λx=>List.length x.1<=20/\Of (List.length x.2.1) x.1) (λx=>Ag x.1 x.2.1)
noncomputable abbrev Hx:Spec:=Gw (.pair tL .unit) tL false true (λx=>List.length x.1<=20/\Of (List.length x.1) x.1) (λx=>Bs x.1)
noncomputable abbrev Dc:Spec:=Gw (.pair tI .unit) tL false true (λx=>0<=x.1/\x.1<=20) (λx=>upto x.1.toNat)
noncomputable abbrev Rj:Spec:=Gw (.pair tL .unit) tL false true (λx=>Kj x.1=true) (λx=>Bs x.1)
def An (g:List (List Int)) (l:Int):List Int:=if l>0 then g.getD (l-1).toNat [] else Bs (g.getD (-l-1).toNat [])
def Fo (n:Int) (l:Int):Prop:=l≠0/\ -n<=l/\l<=n
noncomputable abbrev Ii:Spec:=Gw (.pair lO (.pair tI .unit)) tL false false (λx=>Fo (List.length x.1) x.2.1/\List.length x.1<=8/\ ∀p∈x.1,Kj p=true) (λx=>An x.1 x.2.1)
def Av (n:Nat):List Int:=(List.range n).flatMap λ(k:Nat)=> [(k:Int)+1,-((k:Int)+1)]
noncomputable abbrev Mv:Spec:=Gw (.pair tI .unit) tL false true (λx=>0<=x.1/\x.1<=8) (λx=>Av x.1.toNat)
noncomputable abbrev Qy:Spec:=Gw (.pair Hq (.pair tL (.pair tI .unit))) tL false true (λx=>Bt x.1=true/\List.length x.2.1<=20/\(∀y∈x.2.1,0<=y/\y<x.1.1)/\Fo (List.length x.1.2.2.1) x.2.2.1) (λx=>Ag x.2.1 (An x.1.2.2.1 x.2.2.1))
theorem wP (p q:List Int) (P:List Int->Prop):(((0:Int)<=(↑p.length:Int)/\(↑p.length:Int)<(↑Dk:Int)+(1:Int))/\(↑p.length:Int)=(↑p.length:Int)/\0=0/\(List.replicate (↑p.length:Int).toNat (Int.ofNat (nat_lit 0))).length=(List.replicate (↑p.length:Int).toNat (Int.ofNat (nat_lit 0))).length/\Dn (λ(v3:Int×List Int×PUnit) (k4:Int×List Int×PUnit->Prop)=>Br (decide (v3.1<(↑p.length:Int))) (∃(y5:Int),idx p v3.1=some y5/\ ∃(y6:Int),idx q y5=some y6/\((0:Int)<=v3.1/\v3.1<(↑v3.2.1.length:Int))/\0+v3.1.toNat<v3.2.1.length/\0=0/\v3.2.1.length=(v3.2.1.set (0+v3.1.toNat) y6).length/\k4 (IntKind.i64.wrap (v3.1+(1:Int)),v3.2.1.set (0+v3.1.toNat) y6,())) (P (List.take v3.2.1.length (List.drop 0 v3.2.1)))) ((0:Int),List.replicate (↑p.length:Int).toNat (Int.ofNat (nat_lit 0)),PUnit.unit))=fnW Fu (look []) Jl Tryz.f134 (p,q,()) P:=by kernel_rfl
theorem wQ (p:List Int) (P:List Int->Prop):(((0:Int)<=(↑p.length:Int)/\(↑p.length:Int)<(↑Dk:Int)+(1:Int))/\(↑p.length:Int)=(↑p.length:Int)/\0=0/\(List.replicate (↑p.length:Int).toNat (Int.ofNat (nat_lit 0))).length=(List.replicate (↑p.length:Int).toNat (Int.ofNat (nat_lit 0))).length/\Dn (λ(v2:Int×List Int×PUnit) (k3:Int×List Int×PUnit->Prop)=>Br (decide (v2.1<(↑p.length:Int))) (∃(y4:Int),idx p v2.1=some y4/\((0:Int)<=y4/\y4<(↑v2.2.1.length:Int))/\0+y4.toNat<v2.2.1.length/\0=0/\v2.2.1.length=(v2.2.1.set (0+y4.toNat) v2.1).length/\k3 (IntKind.i64.wrap (v2.1+(1:Int)),v2.2.1.set (0+y4.toNat) v2.1,())) (P (List.take v2.2.1.length (List.drop 0 v2.2.1)))) ((0:Int),List.replicate (↑p.length:Int).toNat (Int.ofNat (nat_lit 0)),PUnit.unit))=fnW Fu (look []) Hx Tryz.f58 (p,()) P:=by kernel_rfl
theorem WB (p:List Int) (P:List Int->Prop):(((0:Int)<=(↑p.length:Int)/\(↑p.length:Int)<(↑Dk:Int)+(1:Int))/\(↑p.length:Int)=(↑p.length:Int)/\0=0/\(List.replicate (↑p.length:Int).toNat (Int.ofNat (nat_lit 0))).length=(List.replicate (↑p.length:Int).toNat (Int.ofNat (nat_lit 0))).length/\Dn (λ(v2:Int×List Int×PUnit) (k3:Int×List Int×PUnit->Prop)=>Br (decide (v2.1<(↑p.length:Int))) (∃(y4:Int),idx p v2.1=some y4/\((0:Int)<=y4/\y4<(↑v2.2.1.length:Int))/\0+y4.toNat<v2.2.1.length/\0=0/\v2.2.1.length=(v2.2.1.set (0+y4.toNat) v2.1).length/\k3 (IntKind.i64.wrap (v2.1+(1:Int)),v2.2.1.set (0+y4.toNat) v2.1,())) (P (List.take v2.2.1.length (List.drop 0 v2.2.1)))) ((0:Int),List.replicate (↑p.length:Int).toNat (Int.ofNat (nat_lit 0)),PUnit.unit))=fnW Fu (look []) Hx Tryz.f163 (p,()) P:=by kernel_rfl
theorem wW (p:List Int) (P:List Int->Prop):(∃(y2:Bool),Jn.fn (p,())=some y2/\Br (!y2) (P (List.take 0 (List.drop 0 []))) (∃(y3:List Int),Hx.fn (p,())=some y3/\P y3))=fnW Fu (look [(162,Jn),(163,Hx)]) Rj Tryz.f125 (p,()) P:=by kernel_rfl
theorem OG (n:Int) (P:List Int->Prop):(0=0/\0=([]:List Int).length/\Dn (λ(v2:Int×List Int×PUnit) (k3:Int×List Int×PUnit->Prop)=>Br (decide (v2.1<n)) (0=0/\v2.2.1.length=v2.2.1.length/\v2.2.1.length+(List.take 1 (List.drop 0 [v2.1])).length<=Dk/\0=0/\(v2.2.1++List.take 1 (List.drop 0 [v2.1])).length=(v2.2.1++List.take 1 (List.drop 0 [v2.1])).length/\k3 (IntKind.i64.wrap (v2.1+(1:Int)),v2.2.1++List.take 1 (List.drop 0 [v2.1]),())) (P (List.take v2.2.1.length (List.drop 0 v2.2.1)))) ((0:Int),[],PUnit.unit))=fnW Fu (look []) Dc Tryz.f96 (n,()) P:=by kernel_rfl
theorem OI (g:List (List Int)) (l:Int) (P:List Int->Prop):(Br (decide (l>(0:Int))) (∃(y3:List Int),idx g (IntKind.i64.wrap (l-(1:Int)))=some y3/\P y3) (∃(y3:List Int),idx g (IntKind.i64.wrap (IntKind.i64.wrap ((0:Int)-l)-(1:Int)))=some y3/\ ∃(y4:List Int),Hx.fn (y3,())=some y4/\P y4))=fnW Fu (look [(58,Hx)]) Ii Tryz.f135 (g,l,()) P:=by kernel_rfl
theorem VW (n:Int) (P:List Int->Prop):(0=0/\0=([]:List Int).length/\Dn (λ(v2:Int×List Int×PUnit) (k3:Int×List Int×PUnit->Prop)=>Br (decide (v2.1<n)) (0=0/\v2.2.1.length=v2.2.1.length/\v2.2.1.length+(List.take 2 (List.drop 0 [IntKind.i64.wrap (v2.1+(1:Int)),IntKind.i64.wrap ((0:Int)-IntKind.i64.wrap (v2.1+(1:Int)))])).length<=Dk/\0=0/\(v2.2.1++List.take 2 (List.drop 0 [IntKind.i64.wrap (v2.1+(1:Int)),IntKind.i64.wrap ((0:Int)-IntKind.i64.wrap (v2.1+(1:Int)))])).length=(v2.2.1++List.take 2 (List.drop 0 [IntKind.i64.wrap (v2.1+(1:Int)),IntKind.i64.wrap ((0:Int)-IntKind.i64.wrap (v2.1+(1:Int)))])).length/\k3 (IntKind.i64.wrap (v2.1+(1:Int)),v2.2.1++List.take 2 (List.drop 0 [IntKind.i64.wrap (v2.1+(1:Int)),IntKind.i64.wrap ((0:Int)-IntKind.i64.wrap (v2.1+(1:Int)))]),())) (P (List.take v2.2.1.length (List.drop 0 v2.2.1)))) ((0:Int),[],PUnit.unit))=fnW Fu (look []) Mv Tryz.f139 (n,()) P:=by kernel_rfl
theorem Abz (p:Int×ByteArray×List (List Int)×Unit) (s:List Int) (l:Int) (P:List Int->Prop):(∃(y4:List Int),idx p.2.2.1 (IntKind.i64.wrap ((if true=true then if IntKind.i64.wrap ((0:Int)-l)>l then IntKind.i64.wrap ((0:Int)-l) else l else if IntKind.i64.wrap ((0:Int)-l)<l then IntKind.i64.wrap ((0:Int)-l) else l)-(1:Int)))=some y4/\Br (decide (l<(0:Int))) (∃(y5:List Int),Rj.fn (y4,())=some y5/\0=0/\0=([]:List Int).length/\Dn (λ(v6:Int×List Int×PUnit) (k7:Int×List Int×PUnit->Prop)=>Br (decide (v6.1<(↑s.length:Int))) (∃(y8:Int),idx s v6.1=some y8/\ ∃(y9:Int),idx y5 y8=some y9/\0=0/\v6.2.1.length=v6.2.1.length/\v6.2.1.length+(List.take 1 (List.drop 0 [y9])).length<=Dk/\0=0/\(v6.2.1++List.take 1 (List.drop 0 [y9])).length=(v6.2.1++List.take 1 (List.drop 0 [y9])).length/\k7 (IntKind.i64.wrap (v6.1+(1:Int)),v6.2.1++List.take 1 (List.drop 0 [y9]),())) (P (List.take v6.2.1.length (List.drop 0 v6.2.1)))) ((0:Int),[],PUnit.unit)) (0=0/\0=([]:List Int).length/\Dn (λ(v5:Int×List Int×PUnit) (k6:Int×List Int×PUnit->Prop)=>Br (decide (v5.1<(↑s.length:Int))) (∃(y7:Int),idx s v5.1=some y7/\ ∃(y8:Int),idx y4 y7=some y8/\0=0/\v5.2.1.length=v5.2.1.length/\v5.2.1.length+(List.take 1 (List.drop 0 [y8])).length<=Dk/\0=0/\(v5.2.1++List.take 1 (List.drop 0 [y8])).length=(v5.2.1++List.take 1 (List.drop 0 [y8])).length/\k6 (IntKind.i64.wrap (v5.1+(1:Int)),v5.2.1++List.take 1 (List.drop 0 [y8]),())) (P (List.take v5.2.1.length (List.drop 0 v5.2.1)))) ((0:Int),[],PUnit.unit)))=fnW Fu (look [(125,Rj)]) Qy Tryz.f66 (p,s,l,()) P:=by kernel_rfl
theorem La {xs:List Int} {i:Nat} (h:i<xs.length):Ih xs (i:Int)=xs[i]:=by
 unfold Ih
 rw [Au,Aj,Ac h];rfl
theorem jn {xs:List Int} {y:Int} (h0:0<=y) (h:y<xs.length):idx xs y=some (Ih xs y):=by
 have hy:y.toNat<xs.length:=by omega
 have e:y=(y.toNat:Int):=by omega
 rw [e,Cf hy,La hy]
theorem aX (f:Nat->Nat) (g:Nat->Int) (m:Nat) (init:List Int):cM f g (m+1) init=(cM f g m init).set (f m) (g m):=by simp [cM,List.range_succ]
theorem cN (f:Nat->Nat) (g:Nat->Int) (m:Nat) (init:List Int):(cM f g m init).length=init.length:=by
 induction m with
 |zero=>rfl
 |succ m ih=>rw [aX,Df,ih]
theorem qf (f:Nat->Nat) (g:Nat->Int) (init:List Int): ∀(m:Nat),(∀i j,i<m->j<m->f i=f j->i=j)-> ∀i,i<m->f i<init.length->(cM f g m init)[f i]?=some (g i)
 |0,_,i,h,_=>absurd h (Hc _)
 |m+1,hf,i,hi,hl=>by
  rw [aX]
  by_cases e:i=m
  ·subst e
   exact List.getElem?_set_self (by rw [cN];exact hl)
  ·rw [List.getElem?_set_ne (λh=>e (hf i m hi (by omega) h.symm))]
   exact qf f g init m (λa b ha hb=>hf a b (by omega) (by omega)) i (by omega) hl
structure bH (p:List Int):Prop where
 pos:1<=p.length
 len:p.length<=20
 row:Of p.length p
 nodup:p.Nodup
theorem dK {p:List Int} (h:Kj p=true):bH p:=by
 obtain ⟨h1,h2,h3⟩:=Iq.1 h
 refine ⟨h1,h2,λy hy=>?_,jw λj hj=>(h3 j hj hj).2.2⟩
 obtain ⟨j,hj,rfl⟩:=Bf.1 hy
 have:=h3 j hj hj
 omega
theorem bH.inj {p:List Int} (h:bH p) (i j:Nat) (hi:i<p.length) (hj:j<p.length) (e:(Ih p (i:Int)).toNat=(Ih p (j:Int)).toNat):i=j:=by
 rw [La hi,La hj] at e
 have h1:=h.row _ (Ak hi)
 have h2:=h.row _ (Ak hj)
 have e:p[i]=p[j]:=by omega
 refine Bx λJr=>?_
 rcases Nat.lt_or_gt_of_ne Jr with hl|hl
 ·exact Ek.1 h.nodup i j hi hj hl e
 ·exact Ek.1 h.nodup j i hj hi hl e.symm
theorem bH.TN {p:List Int} (h:bH p) (k:Nat) (hk:k<p.length): ∃i,i<p.length/\(Ih p (i:Int)).toNat=k:=by
 have hm:=(du (xs:=p) h.row).2 (vf h.nodup) k hk
 obtain ⟨i,hi,e⟩:=Bf.1 hm
 exact ⟨i,hi,by rw [La hi,e];exact Au k⟩
theorem bH.lt {p:List Int} (h:bH p) {i:Nat} (hi:i<p.length):(Ih p (i:Int)).toNat<p.length:=by
 rw [La hi]
 have:=h.row _ (Ak hi)
 omega
theorem sd (p:List Int):(Bs p).length=p.length:=by unfold Bs;rw [cN,Iy]
theorem ZI {p:List Int} (h:bH p) {i:Nat} (hi:i<p.length):(Bs p)[(Ih p (i:Int)).toNat]?=some (i:Int):=
 qf (λi=>(Ih p (i:Int)).toNat) (λi=>(i:Int)) _ p.length (λi j hi hj=>h.inj i j hi hj) i hi (by rw [Iy];exact h.lt hi)
theorem Ae6 {p:List Int} (h:bH p):Of p.length (Bs p):=by
 intro y hy
 obtain ⟨k,hk,rfl⟩:=Bf.1 hy
 have tu:k<p.length:=by rw [sd] at hk;exact hk
 obtain ⟨i,hi,rfl⟩:=h.TN k tu
 have:=ZI h hi
 rw [Ac hk] at this
 rw [Bc this]
 omega
theorem Sb (p q:List Int):(Ag p q).length=p.length:=by simp [Ag]
theorem DJ {p q:List Int} {n:Nat} (hp:Of q.length p) (hq:Of n q):Of n (Ag p q):=by
 intro y hy
 obtain ⟨x,hx,rfl⟩:=Bi.1 hy
 have h1:=hp x hx
 rw [show x=(x.toNat:Int) by omega,La (by omega)]
 exact hq _ (Ak _)
theorem w9 (p q:List Int) (h:p.length<=20/\Of q.length p):fnW Fu (look []) Jl Tryz.f134 (p,q,()) (λ(z:List Int)=>z=Ag p q):=by
 obtain ⟨h,hr⟩:=h
 refine Eq.mp (wP p q _) ?_
 refine ⟨⟨by omega,by show (p.length:Int)<(4294967296:Int)+1;omega⟩,rfl,rfl,rfl,?_⟩
 have Qj:=Sb p q
 refine Bu p.length (λv=>v.1) (λj v=>v.2.1.length=(Ag p q).length/\v.2.1.take j=(Ag p q).take j) rfl ⟨by rw [Qj];simp,by simp⟩ ?_
 rintro j ⟨i,ys,⟨⟩⟩ K hj hi ⟨h1,h2⟩ hK
 dsimp only at hi h1 h2⊢
 subst hi
 refine Br.dec (λhl=>?_) λhl=>?_
 ·have hl:j<p.length:=by omega
  have hy:=hr _ (Ak hl)
  refine ⟨_,Cf hl,_,jn hy.1 hy.2,⟨by omega,by omega⟩,by rw [Au];omega,rfl,by rw [Df],?_⟩
  rw [Bv (by omega),Au,Ce]
  have Mc:j<(Ag p q).length:=by rw [Qj];exact hl
  have e:Ih q p[j]=(Ag p q)[j]:=by simp [Ag]
  rw [e]
  exact hK hl _ rfl ⟨by rw [Df];exact h1,dQ Mc h1 h2⟩
 ·have:j=p.length:=by omega
  subst this
  rw [<-Qj,Bd,<-h1,Bd] at h2
  rw [Fw,Bd]
  exact h2
theorem Xa:Sound Tryz.prog 134 Jl:=
 Sound.Gw Dq Bn mixed Tryz.func134 (by kernel_rfl) (by kernel_rfl) λx h=>w9 x.1 x.2.1 h
theorem wa (p:List Int) (h:p.length<=20/\Of p.length p):fnW Fu (look []) Hx Tryz.f58 (p,()) (λ(z:List Int)=>z=Bs p):=by
 obtain ⟨h,hr⟩:=h
 refine Eq.mp (wQ p _) ?_
 refine ⟨⟨by omega,by show (p.length:Int)<(4294967296:Int)+1;omega⟩,rfl,rfl,rfl,?_⟩
 refine Bu p.length (λv=>v.1) (λj v=>v.2.1=cM (λi=>(Ih p (i:Int)).toNat) (λi=>(i:Int)) j (List.replicate p.length 0)) rfl rfl ?_
 rintro j ⟨i,ys,⟨⟩⟩ K hj hi h1 hK
 dsimp only at hi h1⊢
 subst hi
 have hlen:ys.length=p.length:=by rw [h1,cN,Iy]
 refine Br.dec (λhl=>?_) λhl=>?_
 ·have hl:j<p.length:=by omega
  have hy:=hr _ (Ak hl)
  refine ⟨_,Cf hl,⟨by omega,by omega⟩,by omega,rfl,by rw [Df],?_⟩
  rw [Bv (by omega),Ce]
  refine hK hl _ rfl ?_
  rw [aX,<-h1,La hl]
 ·have:j=p.length:=by omega
  subst this
  rw [Fw,Bd]
  exact h1
theorem Xb:Sound Tryz.prog 58 Hx:=
 Sound.Gw Dq Bn mixed Tryz.func58 (by kernel_rfl) (by kernel_rfl) λx h=>wa x.1 h
theorem UD (p:List Int) (h:p.length<=20/\Of p.length p):fnW Fu (look []) Hx Tryz.f163 (p,()) (λ(z:List Int)=>z=Bs p):=by
 obtain ⟨h,hr⟩:=h
 refine Eq.mp (WB p _) ?_
 refine ⟨⟨by omega,by show (p.length:Int)<(4294967296:Int)+1;omega⟩,rfl,rfl,rfl,?_⟩
 refine Bu p.length (λv=>v.1) (λj v=>v.2.1=cM (λi=>(Ih p (i:Int)).toNat) (λi=>(i:Int)) j (List.replicate p.length 0)) rfl rfl ?_
 rintro j ⟨i,ys,⟨⟩⟩ K hj hi h1 hK
 dsimp only at hi h1⊢
 subst hi
 have hlen:ys.length=p.length:=by rw [h1,cN,Iy]
 refine Br.dec (λhl=>?_) λhl=>?_
 ·have hl:j<p.length:=by omega
  have hy:=hr _ (Ak hl)
  refine ⟨_,Cf hl,⟨by omega,by omega⟩,by omega,rfl,by rw [Df],?_⟩
  rw [Bv (by omega),Ce]
  refine hK hl _ rfl ?_
  rw [aX,<-h1,La hl]
 ·have:j=p.length:=by omega
  subst this
  rw [Fw,Bd]
  exact h1
theorem lJ:Sound Tryz.prog 163 Hx:=
 Sound.Gw Dq Bn mixed Tryz.func163 (by kernel_rfl) (by kernel_rfl) λx h=>UD x.1 h
theorem wj (p:List Int) (h:Kj p=true):fnW Fu (look [(162,Jn),(163,Hx)]) Rj Tryz.f125 (p,()) (λ(z:List Int)=>z=Bs p):=by
 have hp:=dK h
 have hs:short p:=by have:=hp.len;unfold short;omega
 refine Eq.mp (wW p _) ⟨_,Ab hs,⟨λhe=>?_,λ_=>⟨_,Ab ⟨hp.len,hp.row⟩,rfl⟩⟩⟩
 exact absurd h (Hj he)
theorem ow:Sound Tryz.prog 125 Rj:=
 Sound.Gw Dq (Ax Zd (Ax lJ Bn)) mixed Tryz.func125 (by kernel_rfl) (by kernel_rfl) λx h=>wj x.1 h
theorem fa (j:Nat):upto (j+1)=upto j++ [(j:Int)]:=by simp [upto,List.range_succ]
theorem LY (n:Int) (h:0<=n/\n<=20):fnW Fu (look []) Dc Tryz.f96 (n,()) (λ(z:List Int)=>z=upto n.toNat):=by
 refine Eq.mp (OG n _) ⟨rfl,rfl,?_⟩
 refine Bu n.toNat (λv=>v.1) (λj v=>v.2.1=upto j) rfl rfl ?_
 rintro j ⟨i,ys,⟨⟩⟩ K hj hi h1 hK
 dsimp only at hi h1⊢
 subst hi h1
 refine Br.dec (λhl=>?_) λhl=>?_
 ·refine ⟨rfl,rfl,?_,rfl,rfl,?_⟩
  ·show (upto j).length+1<=4294967296
   rw [Sw];omega
  ·rw [Bv (by omega)]
   exact hK (by omega) _ rfl (fa j).symm
 ·have:j=n.toNat:=by omega
  subst this
  rw [Fw,Bd]
theorem Wz:Sound Tryz.prog 96 Dc:=
 Sound.Gw Dq Bn mixed Tryz.func96 (by kernel_rfl) (by kernel_rfl) λx h=>LY x.1 h
theorem Ou {g:List (List Int)} {k:Nat} (h:k<g.length):An g ((k:Int)+1)=g[k]:=by
 unfold An
 rw [Ab (by omega),show ((k:Int)+1-1).toNat=k by omega,Aj,Ac h];rfl
theorem Ot {g:List (List Int)} {k:Nat} (h:k<g.length):An g (-((k:Int)+1))=Bs g[k]:=by
 unfold An
 rw [Ai (by omega),show (-(-((k:Int)+1))-1).toNat=k by omega,Aj,Ac h];rfl
theorem Og {n:Nat} {l:Int} (h:Fo n l): ∃k:Nat,k<n/\(l=(k:Int)+1\/l= -((k:Int)+1)):=by
 obtain ⟨h1,h2,h3⟩:=h
 by_cases h0:0<l
 ·exact ⟨(l-1).toNat,by omega, .inl (by omega)⟩
 ·exact ⟨(-l-1).toNat,by omega, .inr (by omega)⟩
theorem MA (g:List (List Int)) (l:Int) (h:Fo (List.length g) l/\List.length g<=8/\ ∀p∈g,Kj p=true):fnW Fu (look [(58,Hx)]) Ii Tryz.f135 (g,l,()) (λ(z:List Int)=>z=An g l):=by
 obtain ⟨hl,h8,hp⟩:=h
 refine Eq.mp (OI g l _) ?_
 obtain ⟨k,hk,rfl|rfl⟩:=Og hl
 ·refine Br.dec (λ_=>?_) λhn=>by omega
  rw [Cn (by omega) (by omega),show (k:Int)+1-1=(k:Int) by omega]
  exact ⟨_,Cf hk,(Ou hk).symm⟩
 ·refine Br.dec (λhn=>by omega) λ_=>?_
  rw [Cn (n:=0- -((k:Int)+1)) (by omega) (by omega),Cn (by omega) (by omega),show (0:Int)- -((k:Int)+1)-1=(k:Int) by omega]
  have:=dK (hp _ (Ak hk))
  exact ⟨_,Cf hk,_,Ab ⟨this.len,this.row⟩,(Ot hk).symm⟩
theorem jS:Sound Tryz.prog 135 Ii:=
 Sound.Gw Dq (Ax Xb Bn) mixed Tryz.func135 (by kernel_rfl) (by kernel_rfl) λx h=>MA x.1 x.2.1 h
theorem ca (j:Nat):Av (j+1)=Av j++ [(j:Int)+1,-((j:Int)+1)]:=by simp [Av,List.range_succ,List.flatMap_append]
theorem Lj (j:Nat):(Av j).length=2*j:=by
 induction j with
 |zero=>rfl
 |succ j ih=>rw [ca,As,ih];simp only [Ay,Ex];omega
theorem Kt {n:Nat} {l:Int} (h:l∈Av n):Fo n l:=by
 unfold Av at h
 obtain ⟨k,hk,hl⟩:=Hz.1 h
 have hk:=Dl.1 hk
 simp only [Bg,List.not_mem_nil,or_false] at hl
 unfold Fo
 omega
theorem TY (n:Int) (h:0<=n/\n<=8):fnW Fu (look []) Mv Tryz.f139 (n,()) (λ(z:List Int)=>z=Av n.toNat):=by
 refine Eq.mp (VW n _) ⟨rfl,rfl,?_⟩
 refine Bu n.toNat (λv=>v.1) (λj v=>v.2.1=Av j) rfl rfl ?_
 rintro j ⟨i,ys,⟨⟩⟩ K hj hi h1 hK
 dsimp only at hi h1⊢
 subst hi h1
 refine Br.dec (λhl=>?_) λhl=>?_
 ·refine ⟨rfl,rfl,?_,rfl,rfl,?_⟩
  ·show (Av j).length+2<=4294967296
   rw [Lj];omega
  ·have e1:IntKind.i64.wrap ((j:Int)+1)=(j:Int)+1:=Cn (by omega) (by omega)
   have e2:IntKind.i64.wrap ((0:Int)-((j:Int)+1))= -((j:Int)+1):=by rw [Cn (by omega) (by omega)];omega
   rw [e1,e2]
   exact hK (by omega) _ rfl (ca j).symm
 ·have:j=n.toNat:=by omega
  subst this
  rw [Fw,Bd]
theorem lI:Sound Tryz.prog 139 Mv:=
 Sound.Gw Dq Bn mixed Tryz.func139 (by kernel_rfl) (by kernel_rfl) λx h=>TY x.1 h
structure Valid (p:PP):Prop where
 n:1<=p.1/\p.1<=20
 fG:1<=p.2.2.1.length/\p.2.2.1.length<=8
 perm: ∀m∈p.2.2.1,Kj m=true
 len: ∀m∈p.2.2.1,(m.length:Int)=p.1
theorem valid {p:PP} (h:Bt p=true):Valid p:=by
 have h0:=NZ h
 obtain ⟨h1,_,_⟩:=Iq.1 h
 obtain ⟨_,_,h4⟩:=Iq.1 h1
 exact ⟨⟨h0.1,h0.2.1⟩,h0.2.2,λm hm=>(Iq.1 (h4 m hm)).2,λm hm=>(Iq.1 (h4 m hm)).1⟩
theorem kC {p:PP} (h:Valid p) {l:Int} (hl:Fo (List.length p.2.2.1) l):((An p.2.2.1 l).length:Int)=p.1/\Of (An p.2.2.1 l).length (An p.2.2.1 l):=by
 obtain ⟨k,hk,rfl|rfl⟩:=Og hl
 ·rw [Ou hk]
  exact ⟨h.len _ (Ak hk),(dK (h.perm _ (Ak hk))).row⟩
 ·rw [Ot hk,sd]
  exact ⟨h.len _ (Ak hk),Ae6 (dK (h.perm _ (Ak hk)))⟩
theorem CQ (s y:List Int) (P:List Int->Prop) (h1:s.length<=20) (h2:Of y.length s) (h3:P (Ag s y)):
  Dn
   (λ(v5:Int×List Int×PUnit) (k6:Int×List Int×PUnit->Prop)=>
    Br (decide (v5.1<(↑s.length:Int)))
     (∃(y7:Int),
      idx s v5.1=some y7/\
       ∃(y8:Int),
        idx y y7=some y8/\
         (0:Nat)=(0:Nat)/\
          v5.2.1.length=v5.2.1.length/\
           v5.2.1.length+(List.take (1:Nat) (List.drop (0:Nat) [y8])).length<=Dk/\
            (0:Nat)=(0:Nat)/\
             (v5.2.1++List.take (1:Nat) (List.drop (0:Nat) [y8])).length=(v5.2.1++List.take (1:Nat) (List.drop (0:Nat) [y8])).length/\
              k6 (IntKind.i64.wrap (v5.1+(1:Int)),v5.2.1++List.take (1:Nat) (List.drop (0:Nat) [y8]),()))
     (P (List.take v5.2.1.length (List.drop (0:Nat) v5.2.1))))
   ((0:Int),([]:List Int),PUnit.unit):=by
 refine Bu s.length (λv=>v.1) (λj v=>v.2.1=(s.take j).map (Ih y)) rfl (by simp) ?_
 rintro j ⟨i,ys,⟨⟩⟩ K hj hi hR hK
 dsimp only at hi hR⊢
 subst hi hR
 refine Br.dec (λhl=>?_) λhl=>?_
 ·have hl:j<s.length:=by omega
  have hy:=h2 _ (Ak hl)
  refine ⟨_,Cf hl,_,jn hy.1 hy.2,rfl,rfl,?_,rfl,rfl,?_⟩
  ·show ((s.take j).map (Ih y)).length+1<=4294967296
   rw [Gf,Dj];omega
  ·rw [Bv (by omega)]
   refine hK hl _ rfl ?_
   dsimp only
   rw [Cw hl,Mk]
   rfl
 ·have:j=s.length:=by omega
  subst this
  rw [Fw,Bd,Bd]
  exact h3
theorem Aa5 (p:PP) (s:List Int) (l:Int) (h:Bt p=true/\List.length s<=20/\(∀y∈s,0<=y/\y<p.1)/\Fo (List.length p.2.2.1) l):fnW Fu (look [(125,Rj)]) Qy Tryz.f66 (p,s,l,()) (λ(z:List Int)=>z=Ag s (An p.2.2.1 l)):=by
 obtain ⟨hv,hs,hr,hl⟩:=h
 have hv:=valid hv
 have hf:=hv.fG
 refine Eq.mp (Abz p s l _) ?_
 have EK:=kC hv hl
 have aZ:Of (An p.2.2.1 l).length s:= λy hy=>by have:=hr y hy;omega
 obtain ⟨k,hk,rfl|rfl⟩:=Og hl
 ·rw [Ab rfl,Cn (n:=0-((k:Int)+1)) (by omega) (by omega),Ai (by omega),Cn (by omega) (by omega),show (k:Int)+1-1=(k:Int) by omega]
  refine ⟨_,Cf hk,Br.dec (λhn=>by omega) λ_=>⟨rfl,rfl,?_⟩⟩
  rw [Ou hk] at aZ⊢
  exact CQ s _ (λz=>z=Ag s p.2.2.1[k]) hs aZ rfl
 ·rw [Ab rfl,Cn (n:=0- -((k:Int)+1)) (by omega) (by omega),Ab (by omega),Cn (by omega) (by omega),show (0:Int)- -((k:Int)+1)-1=(k:Int) by omega]
  refine ⟨_,Cf hk,Br.dec (λ_=>⟨_,Ab (hv.perm _ (Ak hk)),rfl,rfl,?_⟩) λhn=>by omega⟩
  rw [Ot hk] at aZ⊢
  exact CQ s (Bs p.2.2.1[k]) (λz=>z=Ag s (Bs p.2.2.1[k])) hs aZ rfl
theorem gr:Sound Tryz.prog 66 Qy:=
 Sound.Gw Dq (Ax ow Bn) mixed Tryz.func66 (by kernel_rfl) (by kernel_rfl) λx h=>Aa5 x.1 x.2.1 x.2.2.1 h
abbrev rL:CK:= .row tI 2
abbrev xLL:CK:= .Ij tL 33
def low (k:Int):Prop:=0<=k/\k<=1099511627776
theorem Cc {α:Type} (xs:List α):List.take xs.length (List.drop 0 xs)=xs:=by rw [Fw,Bd]
theorem lg: ∀(xs:List Int) (a:Int),xs.foldl max a=a\/xs.foldl max a∈xs
 | [],a=> .inl rfl
 |y::xs,a=>by
  simp only [Ds]
  rcases lg xs (max a y) with h|h
  ·rw [h]
   rcases Int.le_total a y with h1|h1
   ·rw [Int.max_eq_right h1];exact .inr (by simp)
   ·rw [Int.max_eq_left h1];exact .inl rfl
  ·exact .inr (Ao _ h)
noncomputable abbrev uC:MSpec:=mW [none] [(false, .Ec (.oslice tI))] false [none] [rL] (λx=>short (x.1.getD [])) (λx=>((x.1.getD [],()),()))
noncomputable abbrev ck:MSpec:=mW [none] [(false, .Ec tL)] false [none] [rL] (λx=>short x.1) (λx=>((x.1,()),()))
noncomputable abbrev Iu:Spec:=Gw (.pair tL .unit) tL false true (λx=>short x.1) (λx=>x.1)
theorem Ac1 (xs:Option (List Int)) (P:((List Int×Unit)×Unit)->Prop):(Br xs.isNone (P ((List.take 0 (List.drop 0 []),()),())) (0=0/\0=([]:List Int).length/\0+(xs.getD []).length<=Dk/\P ((List.take ([]++xs.getD []).length (List.drop 0 ([]++xs.getD [])),()),())))=fnMW Tr (look []) uC Tryz.f138 (xs,()) P:=by kernel_rfl
theorem OE (xs:List Int) (P:List Int->Prop):(0=0/\0=([]:List Int).length/\0+xs.length<=Dk/\P (List.take ([]++xs).length (List.drop 0 ([]++xs))))=fnW Fu (look []) Iu Tryz.f68 (xs,()) P:=by kernel_rfl
theorem Aa7 (xs:Option (List Int)) (h:short (xs.getD [])):fnMW Tr (look []) uC Tryz.f138 (xs,()) (λ(z:(List Int×Unit)×Unit)=>z=((xs.getD [],()),())):=by
 unfold short at h
 refine Eq.mp (Ac1 xs _) ⟨λhn=>?_,λ_=>⟨rfl,rfl,by show 0+(xs.getD []).length<=4294967296;omega,?_⟩⟩
 ·cases xs with
  |none=>rfl
  |some y=>cases hn
 ·simp only [Cc,iH]
theorem AJ:Cp Tryz.prog 138 uC:=
 Cp.mW Ss Bn mixed Tryz.func138 (by kernel_rfl) (by kernel_rfl) λx h=>Aa7 x.1 h
theorem om:Cp Tryz.prog 138 ck:=Cp.ofO AJ λ_ _ h=>⟨h,rfl⟩
theorem LW (xs:List Int) (h:short xs):fnW Fu (look []) Iu Tryz.f68 (xs,()) (λ(z:List Int)=>z=xs):=by
 unfold short at h
 refine Eq.mp (OE xs _) ⟨rfl,rfl,by show 0+xs.length<=4294967296;omega,?_⟩
 simp only [Cc,iH]
theorem Wy:Sound Tryz.prog 68 Iu:=
 Sound.Gw Dq Bn mixed Tryz.func68 (by kernel_rfl) (by kernel_rfl) λx h=>LW x.1 h
def Eg (xs is:List Int):List Int:=is.map (Ih xs)
noncomputable abbrev bB:MSpec:=mW [none,none] [(false, .Ec tL),(false, .Ec tL)] false [none] [rL] (λx=>short x.2.1/\Of (List.length x.1) x.2.1) (λx=>((Eg x.1 x.2.1,()),()))
def Xq (xs:List Int):ByteArray:=bytesOf (xs.map λx=>IntKind.u8.wrap x)
noncomputable abbrev Lf:Spec:=Gw (.pair tL .unit) .str false true (λx=>short x.1) (λx=>Xq x.1)
def o7 (ps:List (List Int)) (p:List Int):Int:=Md (λq=>decide (q=p)) ps 0
theorem VY (xs is:List Int) (P:((List Int×Unit)×Unit)->Prop):(((0:Int)<=(↑is.length:Int)/\(↑is.length:Int)<(↑Dk:Int)+(1:Int))/\(↑is.length:Int)=(↑is.length:Int)/\0=0/\(List.replicate (↑is.length:Int).toNat (Int.ofNat (nat_lit 0))).length=(List.replicate (↑is.length:Int).toNat (Int.ofNat (nat_lit 0))).length/\Dn (λ(v3:Int×List Int×PUnit) (k4:Int×List Int×PUnit->Prop)=>Br (decide (v3.1<(↑is.length:Int))) (∃(y5:Int),idx is v3.1=some y5/\ ∃(y6:Int),idx xs y5=some y6/\((0:Int)<=v3.1/\v3.1<(↑v3.2.1.length:Int))/\0+v3.1.toNat<v3.2.1.length/\0=0/\v3.2.1.length=(v3.2.1.set (0+v3.1.toNat) y6).length/\k4 (IntKind.i64.wrap (v3.1+(1:Int)),v3.2.1.set (0+v3.1.toNat) y6,())) (P ((List.take v3.2.1.length (List.drop 0 v3.2.1),()),()))) ((0:Int),List.replicate (↑is.length:Int).toNat (Int.ofNat (nat_lit 0)),PUnit.unit))=fnMW Tr (look []) bB Tryz.f79 (xs,is,()) P:=by kernel_rfl
theorem OQ (xs:List Int) (P:ByteArray->Prop):(((0:Int)<=(↑xs.length:Int)/\(↑xs.length:Int)<(↑Dk:Int)+(1:Int))/\(↑xs.length:Int)=(↑xs.length:Int)/\0=0/\(List.replicate (↑xs.length:Int).toNat (Int.ofNat (nat_lit 0))).length=(List.replicate (↑xs.length:Int).toNat (Int.ofNat (nat_lit 0))).length/\Dn (λ(v2:Int×List Int×PUnit) (k3:Int×List Int×PUnit->Prop)=>Br (decide (v2.1<(↑xs.length:Int))) (∃(y4:Int),idx xs v2.1=some y4/\((0:Int)<=v2.1/\v2.1<(↑v2.2.1.length:Int))/\0+v2.1.toNat<v2.2.1.length/\0=0/\v2.2.1.length=(v2.2.1.set (0+v2.1.toNat) (IntKind.u8.wrap y4)).length/\k3 (IntKind.i64.wrap (v2.1+(1:Int)),v2.2.1.set (0+v2.1.toNat) (IntKind.u8.wrap y4),())) (P (bytesOf (List.take v2.2.1.length (List.drop 0 v2.2.1))))) ((0:Int),List.replicate (↑xs.length:Int).toNat (Int.ofNat (nat_lit 0)),PUnit.unit))=fnW Fu (look []) Lf Tryz.f121 (xs,()) P:=by kernel_rfl
theorem GS (xs is:List Int):(Eg xs is).length=is.length:=by simp [Eg]
theorem UA (xs is:List Int) (h:short is/\Of xs.length is):fnMW Tr (look []) bB Tryz.f79 (xs,is,()) (λ(z:(List Int×Unit)×Unit)=>z=((Eg xs is,()),())):=by
 obtain ⟨h,hr⟩:=h
 unfold short at h
 refine Eq.mp (VY xs is _) ?_
 refine ⟨⟨by omega,by show (is.length:Int)<(4294967296:Int)+1;omega⟩,rfl,rfl,rfl,?_⟩
 have Qj:=GS xs is
 refine Bu is.length (λv=>v.1) (λj v=>v.2.1.length=(Eg xs is).length/\v.2.1.take j=(Eg xs is).take j) rfl ⟨by rw [Qj];simp,by simp⟩ ?_
 rintro j ⟨i,ys,⟨⟩⟩ K hj hi ⟨h1,h2⟩ hK
 dsimp only at hi h1 h2⊢
 subst hi
 refine Br.dec (λhl=>?_) λhl=>?_
 ·have hl:j<is.length:=by omega
  have hy:=hr _ (Ak hl)
  refine ⟨_,Cf hl,_,jn hy.1 hy.2,⟨by omega,by omega⟩,by rw [Au];omega,rfl,by rw [Df],?_⟩
  rw [Bv (by omega),Au,Ce]
  have Mc:j<(Eg xs is).length:=by rw [Qj];exact hl
  have e:Ih xs is[j]=(Eg xs is)[j]:=by simp [Eg]
  rw [e]
  exact hK hl _ rfl ⟨by rw [Df];exact h1,dQ Mc h1 h2⟩
 ·have:j=is.length:=by omega
  subst this
  rw [<-Qj,Bd,<-h1,Bd] at h2
  rw [Fw,Bd,h2]
theorem wD:Cp Tryz.prog 79 bB:=
 Cp.mW Ss Bn mixed Tryz.func79 (by kernel_rfl) (by kernel_rfl) λx h=>UA x.1 x.2.1 h
theorem MH (xs:List Int) (h:short xs):fnW Fu (look []) Lf Tryz.f121 (xs,()) (λ(z:ByteArray)=>z=Xq xs):=by
 unfold short at h
 refine Eq.mp (OQ xs _) ?_
 refine ⟨⟨by omega,by show (xs.length:Int)<(4294967296:Int)+1;omega⟩,rfl,rfl,rfl,?_⟩
 have Qj:(xs.map λx=>IntKind.u8.wrap x).length=xs.length:=by simp
 refine Bu xs.length (λv=>v.1) (λj v=>v.2.1.length=(xs.map λx=>IntKind.u8.wrap x).length/\v.2.1.take j=(xs.map λx=>IntKind.u8.wrap x).take j) rfl ⟨by rw [Qj];simp,by simp⟩ ?_
 rintro j ⟨i,ys,⟨⟩⟩ K hj hi ⟨h1,h2⟩ hK
 dsimp only at hi h1 h2⊢
 subst hi
 refine Br.dec (λhl=>?_) λhl=>?_
 ·have hl:j<xs.length:=by omega
  refine ⟨_,Cf hl,⟨by omega,by omega⟩,by rw [Au];omega,rfl,by rw [Df],?_⟩
  rw [Bv (by omega),Au,Ce]
  have Mc:j<(xs.map λx=>IntKind.u8.wrap x).length:=by rw [Qj];exact hl
  have e:IntKind.u8.wrap xs[j]=(xs.map λx=>IntKind.u8.wrap x)[j]:=by simp
  rw [e]
  exact hK hl _ rfl ⟨by rw [Df];exact h1,dQ Mc h1 h2⟩
 ·have:j=xs.length:=by omega
  subst this
  rw [<-Qj,Bd,<-h1,Bd] at h2
  rw [Fw,Bd,h2];rfl
theorem cq:Sound Tryz.prog 121 Lf:=
 Sound.Gw Dq Bn mixed Tryz.func121 (by kernel_rfl) (by kernel_rfl) λx h=>MH x.1 h
theorem gW {α:Type} (P:α->Bool) (y:α): ∀(l:List α) (i:Int),0<=i->Md P (l++ [y]) i=if Md P l i<0 then (if P y=true then i+l.length else-1) else Md P l i
 | [],i,_=>by simp [Md]
 |x::r,i,h=>by
  simp only [Tf,Md,Ay]
  split
  ·rw [Ai (by omega)]
  ·rw [gW P y r (i+1) (by omega),show i+1+(r.length:Int)=i+((r.length+1:Nat):Int) by push_cast;omega]
theorem zO (ps:List (List Int)) (q p:List Int):o7 (ps++ [q]) p=if o7 ps p<0 then (if q=p then (ps.length:Int) else-1) else o7 ps p:=by
 unfold o7
 rw [gW _ _ _ _ (Kc 0)]
 simp only [Rn,Int.zero_add]
def gM (p:List Int):Prop:= ∀x∈p,0<=x/\x<256
theorem XI {x y:Int} (hx:0<=x/\x<256) (hy:0<=y/\y<256) (h:UInt8.ofNat (IntKind.u8.wrap x).toNat=UInt8.ofNat (IntKind.u8.wrap y).toNat):x=y:=by
 have h:=Ga UInt8.toNat h
 simp only [IntKind.wrap_u8,UInt8.toNat_ofNat'] at h
 omega
theorem bytes_inj: ∀(p q:List Int),gM p->gM q->(p.map λx=>UInt8.ofNat (IntKind.u8.wrap x).toNat)=(q.map λx=>UInt8.ofNat (IntKind.u8.wrap x).toNat)->p=q
 | [],[],_,_,_=>rfl
 | [],_::_,_,_,h=>by simp at h
 |_::_,[],_,_,h=>by simp at h
 |x::p,y::q,hp,hq,h=>by
  simp only [Ca,Gz] at h
  rw [XI (hp x (by simp)) (hq y (by simp)) h.1,bytes_inj p q (λz hz=>hp z (by simp [hz])) (λz hz=>hq z (by simp [hz])) h.2]
theorem key_inj {p q:List Int} (hp:gM p) (hq:gM q) (h:Xq p=Xq q):p=q:=by
 refine bytes_inj p q hp hq ?_
 simp only [Xq,bytesOf,ByteArray.mk.injEq,List.map_map] at h
 have h:=Ga Array.toList h
 simpa [Function.comp_def] using h
def KM (m:ByteArray->Option Int) (ps:List (List Int)):Prop:= ∀p,gM p->m (Xq p)=if o7 ps p<0 then none else some (o7 ps p)
theorem KM.nil:KM (λ_=>none) []:= λp _=>by
 rw [Ab (by unfold o7;simp [Md])]
theorem KM.add {m:ByteArray->Option Int} {ps:List (List Int)} {q:List Int} (h:KM m ps) (hq:gM q) (hn:o7 ps q<0):KM (jZ m (Xq q) (ps.length:Int)) (ps++ [q]):=by
 intro p hp
 rw [zO]
 unfold jZ
 by_cases e:p=q
 ·subst e
  rw [Ab rfl,Ab hn,Ab rfl,Ai (by omega)]
 ·rw [Ai (λhk=>e (key_inj hp hq hk)),h p hp]
  have e': ¬q=p:= λh=>e h.symm
  rw [Ai e']
  by_cases IW:o7 ps p<0
  ·rw [Ab IW,Ab IW,Ab (by decide)]
  ·rw [Ai IW,Ai IW,Ai IW]
def IZ (m l:Int):Bool:=decide (l≠0/\ -m<=l/\l<=m)
def ik (n:Int):Int:=if 8<n then 8 else n
def Is (n:Int) (w:List Int):Bool:=decide (w.length<=200)&&!(List.any w λy=>!IZ (ik n) y)
noncomputable abbrev Nf:Spec:=Gw (.pair tI (.pair tL .unit)) .bool false true (λx=>short x.2.1/\0<=x.1/\x.1<=4294967296) (λx=>Is x.1 x.2.1)
theorem OH (n:Int) (w:List Int) (P:Bool->Prop):(Br (decide ((↑w.length:Int)>(200:Int))) (P false) (Dn (λ(v3:Int×PUnit) (k4:Int×PUnit->Prop)=>Br (decide (v3.1<(↑w.length:Int))) (∃(y5:Int),idx w v3.1=some y5/\Br (y5==(0:Int)) (P false) (∃(y6:Int),idx w v3.1=some y6/\ ∃(y7:Bool),Cs.fn (y6,(-8:Int),(8:Int),())=some y7/\Br (!y7) (P false) (∃(y8:Int),idx w v3.1=some y8/\Br (decide (y8>n)) (P false) (∃(y9:Int),idx w v3.1=some y9/\Br (decide (IntKind.i64.wrap ((0:Int)-y9)>n)) (P false) (k4 (IntKind.i64.wrap (v3.1+(1:Int)),())))))) (P true)) ((0:Int),PUnit.unit)))=fnW Fu (look [(95,Cs)]) Nf Tryz.f80 (n,w,()) P:=by kernel_rfl
theorem BY (n:Int) (w:List Int) (P:Bool->Prop):(∃(y3:Bool),Nf.fn (n,w,())=some y3/\P y3)=fnW Fu (look [(80,Nf)]) Nf Tryz.f72 (n,w,()) P:=by kernel_rfl
theorem Aed {m l:Int} :IZ m l=true↔l≠0/\ -m<=l/\l<=m:=Ky
theorem zB {n l:Int} (hn:0<=n):IZ (ik n) l=true↔l≠0/\(-8<=l/\l<=8)/\l<=n/\ -l<=n:=by
 rw [Aed];unfold ik;split<;>omega
theorem LZ (n:Int) (w:List Int) (h:short w/\0<=n/\n<=4294967296):fnW Fu (look [(95,Cs)]) Nf Tryz.f80 (n,w,()) (λ(z:Bool)=>z=Is n w):=by
 refine Eq.mp (OH n w _) (Br.dec (λhl=>?_) λhl=>?_)
 ·unfold Is
  rw [Ep (by omega),Bool.false_and]
 ·have e0:Is n w=!(List.any w λy=>!IZ (ik n) y):=by unfold Is;rw [Co (by omega),Nr]
  have bad: ∀(j:Nat) (hj:j<w.length),¬(w[j]≠0/\(-8<=w[j]/\w[j]<=8)/\w[j]<=n/\ -w[j]<=n)->false=Is n w:= λj hj hn=>by
   rw [e0]
   have:(List.any w λy=>!IZ (ik n) y)=true:=Fh.2 ⟨w[j],Ak hj,by
    have:IZ (ik n) w[j]=false:=Lt.2 λht=>hn ((zB h.2.1).1 ht)
    rw [this];rfl⟩
   rw [this];rfl
  refine Bu w.length (λv=>v.1) (λj _=> ∀y∈w.take j,IZ (ik n) y=true) rfl (by simp) ?_
  rintro j ⟨i,⟨⟩⟩ K hj hi hR hK
  dsimp only at hi⊢
  subst hi
  refine Br.dec (λhl=>?_) λhl=>?_
  ·have hl:j<w.length:=by omega
   refine ⟨_,Cf hl,⟨λhz=>?_,λhz=>⟨_,Cf hl,_,Ab trivial,⟨λhq=>?_,λhq=>⟨_,Cf hl,Br.dec (λhg=>?_) λhg=>⟨_,Cf hl,Br.dec (λhm=>?_) λhm=>?_⟩⟩⟩⟩⟩⟩
   ·simp only [beq_iff_eq] at hz
    exact bad j hl λhh=>hh.1 hz
   ·have hq:=Hj hq
    rw [Er] at hq
    exact bad j hl λhh=>hq hh.2.1
   ·exact bad j hl λhh=>absurd hh.2.2.1 (by omega)
   ·have hq:=Hk hq
    rw [Er] at hq
    dsimp only at hq
    rw [Cn (by omega) (by omega)] at hm
    exact bad j hl λhh=>absurd hh.2.2.2 (by omega)
   ·have hq:=Hk hq
    rw [Er] at hq
    dsimp only at hq
    simp only [Rx,ne_eq] at hz
    rw [Cn (by omega) (by omega)] at hm
    rw [Bv (by omega)]
    refine hK hl _ rfl ?_
    rw [Cw hl]
    intro y hy
    rcases Bb.1 hy with hy|hy
    ·exact hR y hy
    ·rw [Ad.1 hy]
     exact (zB h.2.1).2 ⟨hz,hq,by omega,by omega⟩
  ·have:j=w.length:=by omega
   subst this
   rw [Bd] at hR
   rw [e0]
   have:(List.any w λy=>!IZ (ik n) y)=false:=by
    refine Lt.2 λht=>?_
    obtain ⟨y,hy,h1⟩:=Fh.1 ht
    rw [hR y hy] at h1
    cases h1
   rw [this];rfl
theorem jR:Sound Tryz.prog 80 Nf:=
 Sound.Gw Dq (Ax Rl Bn) mixed Tryz.func80 (by kernel_rfl) (by kernel_rfl) λx h=>LZ x.1 x.2.1 h
theorem zL (n:Int) (w:List Int) (h:short w/\0<=n/\n<=4294967296):fnW Fu (look [(80,Nf)]) Nf Tryz.f72 (n,w,()) (λ(z:Bool)=>z=Is n w):=Eq.mp (BY n w _) ⟨_,Ab h,rfl⟩
theorem pS:Sound Tryz.prog 72 Nf:=
 Sound.Gw Dq (Ax jR Bn) mixed Tryz.func72 (by kernel_rfl) (by kernel_rfl) λx h=>zL x.1 x.2.1 h
theorem Uj {n:Nat} {w:List Int} (h:Is (n:Int) w=true):w.length<=200/\ ∀y∈w,Fo n y:=by
 unfold Is at h
 simp only [Af,Rn,Es] at h
 refine ⟨h.1,λy hy=>?_⟩
 have h1:IZ (ik n) y=true:=by
  cases ho:IZ (ik n) y with
  |true=>rfl
  |false=>
   have h2:(List.any w λy=>!IZ (ik (n:Int)) y)=true:=Fh.2 ⟨y,hy,by rw [ho];rfl⟩
   rw [h.2] at h2;cases h2
 have:=(zB (by omega)).1 h1
 unfold Fo
 omega
noncomputable abbrev Oi:Spec:=Gw (.pair Hq .unit) tL false true (λx=>List.length x.1.2.2.1<=8) (λx=>Av (List.length x.1.2.2.1))
abbrev oE:Type:=Int×Int×ByteArray×List (List Int)×List Int×PUnit
theorem IH (p:Int×ByteArray×List (List Int)×Unit) (P:List Int->Prop):(0=0/\0=([]:List Int).length/\Dn (λ(v2:oE) (k3:oE->Prop)=>Br (decide (v2.1<=(↑v2.2.2.2.1.length:Int))) (0=0/\v2.2.2.2.2.1.length=v2.2.2.2.2.1.length/\v2.2.2.2.2.1.length+(List.take 2 (List.drop 0 [v2.1,IntKind.i64.wrap ((0:Int)-v2.1)])).length<=Dk/\0=0/\(v2.2.2.2.2.1++List.take 2 (List.drop 0 [v2.1,IntKind.i64.wrap ((0:Int)-v2.1)])).length=(v2.2.2.2.2.1++List.take 2 (List.drop 0 [v2.1,IntKind.i64.wrap ((0:Int)-v2.1)])).length/\k3 (IntKind.i64.wrap (v2.1+(1:Int)),v2.2.1,v2.2.2.1,v2.2.2.2.1,v2.2.2.2.2.1++List.take 2 (List.drop 0 [v2.1,IntKind.i64.wrap ((0:Int)-v2.1)]),())) (P (List.take v2.2.2.2.2.1.length (List.drop 0 v2.2.2.2.2.1)))) ((1:Int),p.1,p.2.1,p.2.2.1,[],PUnit.unit))=fnW Fu (look []) Oi Tryz.f65 (p,()) P:=by kernel_rfl
theorem GK (p:PP) (h:List.length p.2.2.1<=8):fnW Fu (look []) Oi Tryz.f65 (p,()) (λ(z:List Int)=>z=Av (List.length p.2.2.1)):=by
 refine Eq.mp (IH p _) ⟨rfl,rfl,?_⟩
 refine Dn.mk (λv=> ∃j:Nat,j<=List.length p.2.2.1/\v=((j:Int)+1,p.1,p.2.1,p.2.2.1,Av j,())) (λv=>List.length p.2.2.1+1-v.1.toNat) ⟨0,Kd _,rfl⟩ ?_
 rintro _ ⟨j,hj,rfl⟩
 dsimp only
 refine Br.dec (λhl=>?_) λhl=>?_
 ·refine ⟨rfl,rfl,?_,rfl,rfl,⟨j+1,by omega,?_⟩,?_⟩
  ·show (Av j).length+2<=4294967296
   rw [Lj];omega
  ·rw [ca,Cn (n:=(j:Int)+1+1) (by omega) (by omega),Cn (n:=0-((j:Int)+1)) (by omega) (by omega),Int.zero_sub]
   rfl
  ·rw [Cn (by omega) (by omega)];omega
 ·have:j=List.length p.2.2.1:=by omega
  subst this
  rw [Cc]
theorem ib:Sound Tryz.prog 65 Oi:=
 Sound.Gw Dq Bn mixed Tryz.func65 (by kernel_rfl) (by kernel_rfl) λx h=>GK x.1 h
abbrev rLL:CK:= .row tL 33
def zn (v:Int):List Int->Nat
 | []=>0
 |x::r=>if x>v then zn v r+1 else 0
def Aea (v:Int) (t:List Int):Option (List Int):=if zn v t=0 then none else some (Ih t ((zn v t-1:Nat):Int)::(t.set (zn v t-1) v).reverse)
def pn:List Int->Option (List Int)
 | []=>none
 |v::t=>match pn t with
  |some t'=>some (v::t')
  |none=>Aea v t
theorem FQ {s s':List Int} (h:pn s=some s'): ∀pre:List Int,pn (pre++s)=some (pre++s')
 | []=>h
 |v::p=>by rw [Tf,pn,FQ h p];rfl
theorem Aep {α:Type} (pre:List α) (v a:α) (t:List α):(pre++v::t).set pre.length a=pre++a::t:=by
 rw [List.set_append,Ai (by omega)];simp
inductive Run:List Int->List (List Int)->List Int->Prop where
 |one (a:List Int):Run a [a] a
 |more {a c b:List Int} {L:List (List Int)} :pn a=some c->Run c L b->Run a (a::L) b
theorem Run.cons {a b:List Int} {L:List (List Int)} (h:Run a L b) (v:Int):Run (v::a) (L.map (v:: ·)) (v::b):=by
 induction h with
 |one a=>exact .one _
 |more h3 _ ih=>exact .more (FQ h3 [v]) ih
theorem Run.head {a b:List Int} {L:List (List Int)} (h:Run a L b): ∃M,L=a::M:=by
 cases h with
 |one=>exact ⟨_,rfl⟩
 |more _ _=>exact ⟨_,rfl⟩
theorem Run.at {a b:List Int} {L:List (List Int)} (h:Run a L b): ∀j (hj:j<L.length),(∀h2:j+1<L.length,pn L[j]=some L[j+1])/\(j+1=L.length->L[j]=b):=by
 induction h with
 |one a=>
  intro j hj
  simp only [Be] at hj
  have:j=0:=by omega
  subst this
  exact ⟨λh2=>by simp at h2,λ_=>rfl⟩
 |more h3 h4 ih=>
  intro j hj
  rcases j with _|j
  ·obtain ⟨M,hM⟩:=h4.head
   refine ⟨λh2=>?_,λh2=>?_⟩
   ·simp only [List.getElem_cons_zero,List.getElem_cons_succ]
    subst hM
    exact h3
   ·subst hM;simp at h2
  ·have:=ih j (by simpa using hj)
   refine ⟨λh2=>?_,λh2=>?_⟩
   ·simp only [List.getElem_cons_succ]
    exact this.1 (by simpa using h2)
   ·simp only [List.getElem_cons_succ]
    exact this.2 (by simpa using h2)
def Fa:List Int->List Int->Int
 | [],[]=>0
 | [],_::_=> -1
 |_::_,[]=>1
 |x::a,y::b=>if x<y then-1 else if x>y then 1 else Fa a b
def fR (a b:List Int):Bool:=decide (Fa a b<0)
noncomputable abbrev Yy:Spec:=Gw (.pair tL (.pair tL .unit)) .bool false true (λx=>short x.1/\List.length x.1=List.length x.2.1) (λx=>fR x.1 x.2.1)
theorem OL (a b:List Int) (P:Bool->Prop):(Dn (λ(v3:Int×PUnit) (k4:Int×PUnit->Prop)=>Br (decide (v3.1<(↑a.length:Int))) (∃(y5:Int),idx a v3.1=some y5/\ ∃(y6:Int),idx b v3.1=some y6/\Br (y5 !=y6) (∃(y7:Int),idx a v3.1=some y7/\ ∃(y8:Int),idx b v3.1=some y8/\P (decide (y7<y8))) (k4 (IntKind.i64.wrap (v3.1+(1:Int)),()))) (P false)) ((0:Int),PUnit.unit))=fnW Fu (look []) Yy Tryz.f166 (a,b,()) P:=by kernel_rfl
theorem MC (a b:List Int) (h:short a/\a.length=b.length):fnW Fu (look []) Yy Tryz.f166 (a,b,()) (λ(z:Bool)=>z=fR a b):=by
 obtain ⟨ha,hb⟩:=h
 unfold short at ha
 refine Eq.mp (OL a b _) ?_
 refine Bu a.length (λv=>v.1) (λj _=>Fa (a.drop j) (b.drop j)=Fa a b) rfl (by simp) ?_
 rintro j ⟨i,⟨⟩⟩ K hj hi hR2 hK
 dsimp only at hi⊢
 subst hi
 refine Br.dec (λhl=>?_) λhl=>?_
 ·have hl:j<a.length:=by omega
  have hlb:j<b.length:=by omega
  rw [Gg hl,Gg hlb] at hR2
  simp only [Fa] at hR2
  refine ⟨_,Cf hl,_,Cf hlb,⟨λJr=>?_,λJr=>?_⟩⟩
  ·refine ⟨_,Cf hl,_,Cf hlb,?_⟩
   have Jr:a[j]≠b[j]:=by simpa using Jr
   unfold fR
   rw [<-hR2]
   by_cases h1:a[j]<b[j]
   ·rw [Ab h1];simp [h1]
   ·rw [Ai h1,Ab (by omega)];simp [h1]
  ·have Jr:a[j]=b[j]:=by simpa using Jr
   rw [Ai (by omega),Ai (by omega)] at hR2
   rw [Bv (by omega)]
   exact hK hl _ rfl hR2
 ·have:j=a.length:=by omega
  subst this
  rw [Zh,List.drop_eq_nil_of_le (by omega)] at hR2
  unfold fR
  rw [<-hR2]
  rfl
theorem uO:Sound Tryz.prog 166 Yy:=
 Sound.Gw Dq Bn mixed Tryz.func166 (by kernel_rfl) (by kernel_rfl) λx h=>MC x.1 x.2.1 h
abbrev SS:Type:=List (List Int)×List Int×List Int×Bool×Unit
abbrev rLS:CK:= .row tL 33
abbrev rN:CK:= .row tI 3
def Gu (L:List (List Int)) (Nk:List Int) (s:List Int):Nat:=(Nk.takeWhile λi=>fR (L.getD i.toNat []) s).length
structure Fm (m:Nat) (L:List (List Int)) (Nk:List Int):Prop where
 fG:L.length<=3000
 len: ∀x∈L,x.length=m
 short:m<=20
 perm:Nk.Perm (upto L.length)
 sorted:Nk.Pairwise λi j=>fR (L.getD i.toNat []) (L.getD j.toNat [])=true
def eH (L:List (List Int)) (s:List Int):Int:=if s∈L then (L.idxOf s:Int) else-1
def Xp (Nk:List Int) (k:Nat) (x:Int):List Int:=Nk.take k++x::Nk.drop k
noncomputable abbrev gp:Spec:=Gw (.pair Zr (.pair tL .unit)) tI false true (λx=>Fm (List.length x.2.1) x.1.1 x.1.2.2.1) (λx=>(Gu x.1.1 x.1.2.2.1 x.2.1:Int))
noncomputable abbrev Lr:Spec:=Gw (.pair Zr (.pair tL .unit)) tI false true (λx=>Fm (List.length x.2.1) x.1.1 x.1.2.2.1) (λx=>eH x.1.1 x.2.1)
noncomputable abbrev mO:MSpec:=mW [some 4,none,none] [(false,rLS),(false,rL),(false,rN),(false, .Ec .bool),(false, .Ec tL),(false, .Ec tI)] false [some 4] [rLS,rL,rN, .Ec .bool]
 (λx=>Fm (List.length x.2.2.2.2.1) x.1 x.2.2.1/\List.length x.2.1<=3000) (λx=>((x.1++ [x.2.2.2.2.1],x.2.1++ [x.2.2.2.2.2.1],Xp x.2.2.1 (Gu x.1 x.2.2.1 x.2.2.2.2.1) (List.length x.1),x.2.2.2.1,()),()))
def aO (L:List (List Int)):List Int:=(List.range L.length).foldl (λ(S:List Int) (i:Nat)=>Xp S (Gu (L.take i) S (L.getD i [])) (i:Int)) []
def Jh (g:List (List Int)) (x:List Int) (d:Int):List Int->List (List Int)->List Int->List (List Int)×List Int×Bool
 | [],L,D=>(L,D,true)
 |l::ls,L,D=>if Ag x (An g l)∈L then Jh g x d ls L D else if L.length=3000 then (L,D,false) else Jh g x d ls (L++ [Ag x (An g l)]) (D++ [d+1])
def Ks (g:List (List Int)) (ls:List Int):Nat->Nat->List (List Int)->List Int->List (List Int)×List Int×Bool
 |0,_,L,D=>(L,D,true)
 |f+1,k,L,D=>if k<L.length then (match Jh g (L.getD k []) (D.getD k 0) ls L D with
  |(L',D',true)=>Ks g ls f (k+1) L' D'
  |(L',D',false)=>(L',D',false)) else (L,D,true)
def Gq (g:List (List Int)) (s:List Int):List (List Int)×List Int×Bool:=Ks g (Av g.length) 3001 0 [s] [0]
def Gr (g:List (List Int)) (s:List Int):SS:=((Gq g s).1,(Gq g s).2.1,aO (Gq g s).1,(Gq g s).2.2,())
noncomputable abbrev Gx:Spec:=Gw (.pair Hq (.pair tL .unit)) Zr false false (λx=>Bt x.1=true/\List.length x.2.1<=20/\ ∀y∈x.2.1,0<=y/\y<x.1.1) (λx=>Gr x.1.2.2.1 x.2.1)
abbrev RE:Type:=Int×Int×List (List Int)×List Int×List Int×Bool×PUnit
theorem Ajx (f:List (List Int)×List Int×List Int×Bool×Unit) (s:List Int) (P:Int->Prop):(Dn (λ(v3:RE) (k4:RE->Prop)=>Br (decide (v3.1<v3.2.1)) ((2:Int)≠(0:Int)/\ ∃(y5:Int),idx v3.2.2.2.2.1 (IntKind.i64.wrap ((IntKind.i64.wrap (v3.1+v3.2.1)).tdiv (2:Int)))=some y5/\ ∃(y6:List Int),idx v3.2.2.1 y5=some y6/\ ∃(y7:Bool),Yy.fn (y6,s,())=some y7/\Br y7 (k4 (IntKind.i64.wrap (IntKind.i64.wrap ((IntKind.i64.wrap (v3.1+v3.2.1)).tdiv (2:Int))+(1:Int)),v3.2.1,v3.2.2.1,v3.2.2.2.1,v3.2.2.2.2.1,v3.2.2.2.2.2.1,())) (k4 (v3.1,IntKind.i64.wrap ((IntKind.i64.wrap (v3.1+v3.2.1)).tdiv (2:Int)),v3.2.2.1,v3.2.2.2.1,v3.2.2.2.2.1,v3.2.2.2.2.2.1,()))) (P v3.1)) ((0:Int),(↑f.2.2.1.length:Int),f.1,f.2.1,f.2.2.1,f.2.2.2.1,PUnit.unit))=fnW Fu (look [(166,Yy)]) gp Tryz.f129 (f,s,()) P:=by kernel_rfl
theorem Ac8 (f:List (List Int)×List Int×List Int×Bool×Unit) (s:List Int) (P:Int->Prop):(∃(y3:Int),gp.fn ((f.1,f.2.1,f.2.2.1,f.2.2.2.1,()),s,())=some y3/\Br (decide (y3<(↑f.2.2.1.length:Int))) (∃(y4:Int),idx f.2.2.1 y3=some y4/\ ∃(y5:List Int),idx f.1 y4=some y5/\ ∃(y6:Bool),Dz.fn (y5,s,())=some y6/\Br y6 (∃(y7:Int),idx f.2.2.1 y3=some y7/\P y7) (P (-1:Int))) (P (-1:Int)))=fnW Fu (look [(129,gp),(128,Dz)]) Lr Tryz.f75 (f,s,()) P:=by kernel_rfl
theorem Ajw (L:List (List Int)) (D S:List Int) (b:Bool) (s:List Int) (d:Int) (P:((List (List Int)×List Int×List Int×Bool×Unit)×Unit)->Prop):(∃(y7:Int),gp.fn ((List.take L.length (List.drop 0 L),List.take D.length (List.drop 0 D),List.take S.length (List.drop 0 S),b,()),s,())=some y7/\0=0/\S.length=S.length/\S.length+(List.take 1 (List.drop 0 [(0:Int)])).length<=Dk/\((0:Int)<=IntKind.i64.wrap (y7+(1:Int))/\IntKind.i64.wrap (y7+(1:Int))<=(↑(S++List.take 1 (List.drop 0 [(0:Int)])).length:Int)/\(↑(S++List.take 1 (List.drop 0 [(0:Int)])).length:Int)<=(↑(S++List.take 1 (List.drop 0 [(0:Int)])).length:Int))/\((0:Int)<=y7/\y7<=(↑(S++List.take 1 (List.drop 0 [(0:Int)])).length:Int)/\(↑(S++List.take 1 (List.drop 0 [(0:Int)])).length:Int)<=(↑(S++List.take 1 (List.drop 0 [(0:Int)])).length:Int))/\((0:Int)<=y7/\y7<(↑(S++List.take 1 (List.drop 0 [(0:Int)])).length:Int))/\0+y7.toNat<(Dv (S++List.take 1 (List.drop 0 [(0:Int)])) (0+(IntKind.i64.wrap (y7+(1:Int))).toNat) (List.take ((↑(S++List.take 1 (List.drop 0 [(0:Int)])).length:Int).toNat-(IntKind.i64.wrap (y7+(1:Int))).toNat) (List.take ((↑(S++List.take 1 (List.drop 0 [(0:Int)])).length:Int).toNat-y7.toNat) (List.drop (0+y7.toNat) (S++List.take 1 (List.drop 0 [(0:Int)])))))).length/\0=0/\L.length=L.length/\L.length+(List.take 1 (List.drop 0 [s])).length<=Dk/\0=0/\D.length=D.length/\D.length+(List.take 1 (List.drop 0 [d])).length<=Dk/\P ((List.take (L++List.take 1 (List.drop 0 [s])).length (List.drop 0 (L++List.take 1 (List.drop 0 [s]))),List.take (D++List.take 1 (List.drop 0 [d])).length (List.drop 0 (D++List.take 1 (List.drop 0 [d]))),List.take (S++List.take 1 (List.drop 0 [(0:Int)])).length (List.drop 0 ((Dv (S++List.take 1 (List.drop 0 [(0:Int)])) (0+(IntKind.i64.wrap (y7+(1:Int))).toNat) (List.take ((↑(S++List.take 1 (List.drop 0 [(0:Int)])).length:Int).toNat-(IntKind.i64.wrap (y7+(1:Int))).toNat) (List.take ((↑(S++List.take 1 (List.drop 0 [(0:Int)])).length:Int).toNat-y7.toNat) (List.drop (0+y7.toNat) (S++List.take 1 (List.drop 0 [(0:Int)])))))).set (0+y7.toNat) (↑L.length:Int))),b,()),()))=fnMW Tr (look [(129,gp)]) mO Tryz.f164 (L,D,S,b,s,d,()) P:=by kernel_rfl
abbrev oG:Type:=Int×Int×ByteArray×List (List Int)×Bool×Bool×List (List Int)×List Int×List Int×List (List Int)×List Int×List Int×PUnit
abbrev HQ:Type:=(List (List Int)×List Int×List Int×Bool×PUnit)×PUnit
theorem Af4 (p:Int×ByteArray×List (List Int)×Unit) (s:List Int) (P:(List (List Int)×List Int×List Int×Bool×Unit)->Prop):(∃(y3:List Int),Iu.fn (s,())=some y3/\ ∃(y4:HQ),mO.fn ([],[],[],false,y3,(0:Int),())=some y4/\ ∃(y5:List Int),Oi.fn ((p.1,p.2.1,p.2.2.1,()),())=some y5/\0=0/\0=([]:List Int).length/\0=0/\0=([]:List Int).length/\0=0/\0=([]:List Int).length/\0=0/\y4.1.1.length=y4.1.1.length/\0=0/\y4.1.2.1.length=y4.1.2.1.length/\0=0/\y4.1.2.2.1.length=y4.1.2.2.1.length/\Dn (λ(v6:oG) (k7:oG->Prop)=>Br (decide (v6.1<(↑v6.2.2.2.2.2.2.2.2.2.1.length:Int))) (0=0/\v6.2.2.2.2.2.2.1.length=v6.2.2.2.2.2.2.1.length/\0=0/\v6.2.2.2.2.2.2.2.1.length=v6.2.2.2.2.2.2.2.1.length/\0=0/\v6.2.2.2.2.2.2.2.2.1.length=v6.2.2.2.2.2.2.2.2.1.length/\0=0/\v6.2.2.2.2.2.2.2.2.2.1.length=v6.2.2.2.2.2.2.2.2.2.1.length/\0=0/\v6.2.2.2.2.2.2.2.2.2.2.1.length=v6.2.2.2.2.2.2.2.2.2.2.1.length/\0=0/\v6.2.2.2.2.2.2.2.2.2.2.2.1.length=v6.2.2.2.2.2.2.2.2.2.2.2.1.length/\Dn (λ(v8:oG) (k9:oG->Prop)=>Br (decide (v8.1<(↑y5.length:Int))) (((0:Int)<=v6.1/\v6.1<(↑v8.2.2.2.2.2.2.2.2.2.1.length:Int))/\ ∃(Ko:List Int),v8.2.2.2.2.2.2.2.2.2.1[0+v6.1.toNat]?=some Ko/\ ∃(Iw:Int),idx y5 v8.1=some Iw/\ ∃(Jc:List Int),Qy.fn ((v8.2.1,v8.2.2.1,v8.2.2.2.1,()),Ko,Iw,())=some Jc/\ ∃(Hr:Int),Lr.fn ((List.take v8.2.2.2.2.2.2.2.2.2.1.length (List.drop 0 v8.2.2.2.2.2.2.2.2.2.1),List.take v8.2.2.2.2.2.2.2.2.2.2.1.length (List.drop 0 v8.2.2.2.2.2.2.2.2.2.2.1),List.take v8.2.2.2.2.2.2.2.2.2.2.2.1.length (List.drop 0 v8.2.2.2.2.2.2.2.2.2.2.2.1),v8.2.2.2.2.2.1,()),Jc,())=some Hr/\Br (decide (Hr>=(0:Int))) (0=0/\v8.2.2.2.2.2.2.1.length=v8.2.2.2.2.2.2.1.length/\0=0/\v8.2.2.2.2.2.2.2.1.length=v8.2.2.2.2.2.2.2.1.length/\0=0/\v8.2.2.2.2.2.2.2.2.1.length=v8.2.2.2.2.2.2.2.2.1.length/\0=0/\v8.2.2.2.2.2.2.2.2.2.1.length=v8.2.2.2.2.2.2.2.2.2.1.length/\0=0/\v8.2.2.2.2.2.2.2.2.2.2.1.length=v8.2.2.2.2.2.2.2.2.2.2.1.length/\0=0/\v8.2.2.2.2.2.2.2.2.2.2.2.1.length=v8.2.2.2.2.2.2.2.2.2.2.2.1.length/\k9 (IntKind.i64.wrap (v8.1+(1:Int)),v8.2.1,v8.2.2.1,v8.2.2.2.1,v8.2.2.2.2.1,v8.2.2.2.2.2.1,v8.2.2.2.2.2.2.1,v8.2.2.2.2.2.2.2.1,v8.2.2.2.2.2.2.2.2.1,v8.2.2.2.2.2.2.2.2.2.1,v8.2.2.2.2.2.2.2.2.2.2.1,v8.2.2.2.2.2.2.2.2.2.2.2.1,())) (Br ((↑v8.2.2.2.2.2.2.2.2.2.1.length:Int)==(3000:Int)) (P (List.take v8.2.2.2.2.2.2.2.2.2.1.length (List.drop 0 v8.2.2.2.2.2.2.2.2.2.1),List.take v8.2.2.2.2.2.2.2.2.2.2.1.length (List.drop 0 v8.2.2.2.2.2.2.2.2.2.2.1),List.take v8.2.2.2.2.2.2.2.2.2.2.2.1.length (List.drop 0 v8.2.2.2.2.2.2.2.2.2.2.2.1),v8.2.2.2.2.2.1,())) (((0:Int)<=v6.1/\v6.1<(↑v8.2.2.2.2.2.2.2.2.2.2.1.length:Int))/\ ∃(Io:Int),v8.2.2.2.2.2.2.2.2.2.2.1[0+v6.1.toNat]?=some Io/\0=0/\v8.2.2.2.2.2.2.2.2.2.1.length=v8.2.2.2.2.2.2.2.2.2.1.length/\0=0/\v8.2.2.2.2.2.2.2.2.2.2.1.length=v8.2.2.2.2.2.2.2.2.2.2.1.length/\0=0/\v8.2.2.2.2.2.2.2.2.2.2.2.1.length=v8.2.2.2.2.2.2.2.2.2.2.2.1.length/\ ∃(Ip:HQ),mO.fn (v8.2.2.2.2.2.2.2.2.2.1,v8.2.2.2.2.2.2.2.2.2.2.1,v8.2.2.2.2.2.2.2.2.2.2.2.1,v8.2.2.2.2.2.1,Jc,IntKind.i64.wrap (Io+(1:Int)),())=some Ip/\0=0/\v8.2.2.2.2.2.2.1.length=v8.2.2.2.2.2.2.1.length/\0=0/\v8.2.2.2.2.2.2.2.1.length=v8.2.2.2.2.2.2.2.1.length/\0=0/\v8.2.2.2.2.2.2.2.2.1.length=v8.2.2.2.2.2.2.2.2.1.length/\0=0/\Ip.1.1.length=Ip.1.1.length/\0=0/\Ip.1.2.1.length=Ip.1.2.1.length/\0=0/\Ip.1.2.2.1.length=Ip.1.2.2.1.length/\k9 (IntKind.i64.wrap (v8.1+(1:Int)),v8.2.1,v8.2.2.1,v8.2.2.2.1,v8.2.2.2.2.1,Ip.1.2.2.2.1,v8.2.2.2.2.2.2.1,v8.2.2.2.2.2.2.2.1,v8.2.2.2.2.2.2.2.2.1,Ip.1.1,Ip.1.2.1,Ip.1.2.2.1,())))) (0=0/\v8.2.2.2.2.2.2.1.length=v8.2.2.2.2.2.2.1.length/\0=0/\v8.2.2.2.2.2.2.2.1.length=v8.2.2.2.2.2.2.2.1.length/\0=0/\v8.2.2.2.2.2.2.2.2.1.length=v8.2.2.2.2.2.2.2.2.1.length/\0=0/\v8.2.2.2.2.2.2.2.2.2.1.length=v8.2.2.2.2.2.2.2.2.2.1.length/\0=0/\v8.2.2.2.2.2.2.2.2.2.2.1.length=v8.2.2.2.2.2.2.2.2.2.2.1.length/\0=0/\v8.2.2.2.2.2.2.2.2.2.2.2.1.length=v8.2.2.2.2.2.2.2.2.2.2.2.1.length/\k7 (IntKind.i64.wrap (v6.1+(1:Int)),v8.2.1,v8.2.2.1,v8.2.2.2.1,v8.2.2.2.2.1,v8.2.2.2.2.2.1,v8.2.2.2.2.2.2.1,v8.2.2.2.2.2.2.2.1,v8.2.2.2.2.2.2.2.2.1,v8.2.2.2.2.2.2.2.2.2.1,v8.2.2.2.2.2.2.2.2.2.2.1,v8.2.2.2.2.2.2.2.2.2.2.2.1,()))) ((0:Int),v6.2.1,v6.2.2.1,v6.2.2.2.1,v6.2.2.2.2.1,v6.2.2.2.2.2.1,v6.2.2.2.2.2.2.1,v6.2.2.2.2.2.2.2.1,v6.2.2.2.2.2.2.2.2.1,v6.2.2.2.2.2.2.2.2.2.1,v6.2.2.2.2.2.2.2.2.2.2.1,v6.2.2.2.2.2.2.2.2.2.2.2.1,PUnit.unit)) (P (List.take v6.2.2.2.2.2.2.2.2.2.1.length (List.drop 0 v6.2.2.2.2.2.2.2.2.2.1),List.take v6.2.2.2.2.2.2.2.2.2.2.1.length (List.drop 0 v6.2.2.2.2.2.2.2.2.2.2.1),List.take v6.2.2.2.2.2.2.2.2.2.2.2.1.length (List.drop 0 v6.2.2.2.2.2.2.2.2.2.2.2.1),true,()))) ((0:Int),p.1,p.2.1,p.2.2.1,false,y4.1.2.2.2.1,[],[],[],y4.1.1,y4.1.2.1,y4.1.2.2.1,PUnit.unit))=fnW Ajm (look [(68,Iu),(164,mO),(65,Oi),(66,Qy),(75,Lr)]) Gx Tryz.f126 (p,s,()) P:=by kernel_rfl
theorem sO: ∀ {a b:List Int},Fa a b=0↔a=b
 | [],[]=>by simp [Fa]
 | [],_::_=>by simp [Fa]
 |_::_,[]=>by simp [Fa]
 |x::a,y::b=>by
  simp only [Fa,Gz]
  by_cases h1:x<y
  ·rw [Ab h1]
   exact ⟨λh=>by omega,λh=>by omega⟩
  ·rw [Ai h1]
   by_cases h2:x>y
   ·rw [Ab h2]
    exact ⟨λh=>by omega,λh=>by omega⟩
   ·rw [Ai h2,sO]
    exact ⟨λh=>⟨by omega,h⟩,λh=>h.2⟩
theorem PA: ∀(a b:List Int),Fa b a= -Fa a b
 | [],[]=>by simp [Fa]
 | [],_::_=>by simp [Fa]
 |_::_,[]=>by simp [Fa]
 |x::a,y::b=>by
  simp only [Fa]
  rcases Int.lt_trichotomy x y with h1|h1|h1
  ·simp [h1,show ¬y<x by omega]
  ·subst h1
   simp [PA a b]
  ·simp [h1,show ¬x<y by omega]
theorem xe: ∀ {a b c:List Int},Fa a b<0->Fa b c<0->Fa a c<0
 | [],[],_,h,_=>by simp [Fa] at h
 |_::_,[],_,h,_=>by simp [Fa] at h
 |_,_::_,[],_,h=>by simp [Fa] at h
 | [],_::_,_::_,_,_=>by simp [Fa]
 |x::a,y::b,z::c,h1,h2=>by
  simp only [Fa] at h1 h2⊢
  by_cases e1:x<y
  ·by_cases e2:y<z
   ·rw [Ab (by omega)];omega
   ·rw [Ai e2] at h2
    by_cases e3:y>z
    ·rw [Ab e3] at h2;omega
    ·rw [Ab (by omega)];omega
  ·rw [Ai e1] at h1
   by_cases e2:x>y
   ·rw [Ab e2] at h1;omega
   ·rw [Ai e2] at h1
    by_cases e3:y<z
    ·rw [Ab (by omega)];omega
    ·rw [Ai e3] at h2
     by_cases e4:y>z
     ·rw [Ab e4] at h2;omega
     ·rw [Ai e4] at h2
      rw [Ai (by omega),Ai (by omega)]
      exact xe h1 h2
theorem lt_iff {a b:List Int} :fR a b=true↔Fa a b<0:=Ky
theorem TH {a b c:List Int} (h1:fR a b=true) (h2:fR b c=true):fR a c=true:=lt_iff.2 (xe (lt_iff.1 h1) (lt_iff.1 h2))
theorem mC (a:List Int):fR a a=false:=by
 have:Fa a a=0:=sO.2 rfl
 unfold fR;rw [this];rfl
theorem ZT {a b:List Int} (h:fR a b=false) (Jr:a≠b):fR b a=true:=by
 rw [lt_iff,PA a b]
 have h1: ¬Fa a b<0:= λh'=>by rw [lt_iff.2 h'] at h;cases h
 have h2:Fa a b≠0:= λh'=>Jr (sO.1 h')
 omega
theorem lQ {α:Type} (q:α->Bool): ∀(l:List α),l.Pairwise (λi j=>q j=true->q i=true)-> ∀k (hk:k<l.length),k<(l.takeWhile q).length↔q l[k]=true
 | [],_,k,hk=>by simp at hk
 |a::l,h,k,hk=>by
  obtain ⟨h1,h2⟩:=List.pairwise_cons.1 h
  by_cases ha:q a=true
  ·rw [List.takeWhile_cons_of_pos ha]
   rcases k with _|k
   ·simpa using ha
   ·simp only [Ay,List.getElem_cons_succ,Nat.add_lt_add_iff_right]
    exact lQ q l h2 k (by simpa using hk)
  ·rw [List.takeWhile_cons_of_neg ha]
   simp only [Ex,Hc,false_iff]
   rcases k with _|k
   ·exact ha
   ·simp only [List.getElem_cons_succ]
    exact λhq=>ha (h1 _ (Ak _) hq)
theorem Fm.tQ {m:Nat} {L:List (List Int)} {Nk:List Int} (h:Fm m L Nk):Nk.length=L.length:=by rw [h.perm.length_eq,Sw]
theorem Fm.idx {m:Nat} {L:List (List Int)} {Nk:List Int} (h:Fm m L Nk) {k:Nat} (hk:k<Nk.length):0<=Nk[k]/\Nk[k]<L.length:=Qw.1 (h.perm.mem_iff.1 (Ak hk))
theorem Fm.eV {m:Nat} {L:List (List Int)} {Nk:List Int} (h:Fm m L Nk) (s:List Int) {k:Nat} (hk:k<Nk.length):k<Gu L Nk s↔fR (L.getD Nk[k].toNat []) s=true:=
 lQ _ Nk (h.sorted.imp λjh hj=>TH jh hj) k hk
theorem QX (L:List (List Int)) (Nk s:List Int):Gu L Nk s<=Nk.length:=(List.takeWhile_sublist _).length_le
theorem Fm.inj {m:Nat} {L:List (List Int)} {Nk:List Int} (h:Fm m L Nk) {i j:Nat} (hi:i<L.length) (hj:j<L.length) (e:L[i]=L[j]):i=j:=by
 have mem: ∀i,i<L.length->(i:Int)∈Nk:= λi hi=>h.perm.mem_iff.2 (Qw.2 ⟨by omega,by omega⟩)
 obtain ⟨p,hp,ep⟩:=Bf.1 (mem i hi)
 obtain ⟨q,hq,eq⟩:=Bf.1 (mem j hj)
 have get: ∀i (hi:i<L.length),L.getD ((i:Int)).toNat []=L[i]:= λi hi=>by rw [Au,Aj,Ac hi];rfl
 rcases Nat.lt_trichotomy p q with h1|h1|h1
 ·have:=Ek.1 h.sorted p q hp hq h1
  rw [ep,eq,get i hi,get j hj,e,mC] at this
  cases this
 ·subst h1
  rw [ep] at eq
  omega
 ·have:=Ek.1 h.sorted q p hq hp h1
  rw [ep,eq,get i hi,get j hj,e,mC] at this
  cases this
theorem Wj {L:List (List Int)} {k:Nat} (h:k<L.length):L.getD k []=L[k]:=by rw [Aj,Ac h];rfl
theorem Fm.yG {m:Nat} {L:List (List Int)} {Nk:List Int} (h:Fm m L Nk) {s:List Int} :
  (∃hk:Gu L Nk s<Nk.length,L.getD Nk[Gu L Nk s].toNat []=s/\eH L s=Nk[Gu L Nk s])\/(eH L s= -1/\ ∀hk:Gu L Nk s<Nk.length,L.getD Nk[Gu L Nk s].toNat []≠s):=by
 by_cases hm:s∈L
 ·left
  obtain ⟨j,hj,rfl⟩:=Bf.1 hm
  obtain ⟨p,hp,ep⟩:=Bf.1 (h.perm.mem_iff.2 (Qw.2 ⟨by omega,by omega⟩):(j:Int)∈Nk)
  have gj:L.getD Nk[p].toNat []=L[j]:=by rw [ep,Au,Wj hj]
  have hs:Gu L Nk L[j]=p:=by
   have h1: ¬p<Gu L Nk L[j]:= λh1=>by
    have:=(h.eV L[j] hp).1 h1
    rw [gj,mC] at this;cases this
   have h2: ¬Gu L Nk L[j]<p:= λh2=>by
    have h3:=(h.eV L[j] (k:=Gu L Nk L[j]) (by omega)).2 (by
     have:=Ek.1 h.sorted (Gu L Nk L[j]) p (by omega) hp h2
     rw [gj] at this;exact this)
    omega
   omega
  have hx:L.idxOf L[j]=j:=by
   have h1:L.idxOf L[j]<L.length:=My hm
   exact h.inj h1 hj (List.getElem_idxOf h1)
  refine ⟨by omega,?_,?_⟩
  ·simp only [hs];exact gj
  ·unfold eH
   rw [Ab hm,hx]
   simp only [hs];exact ep.symm
 ·right
  refine ⟨by unfold eH;rw [Ai hm],λhk e=>hm ?_⟩
  have hi:=h.idx hk
  rw [Wj (by omega)] at e
  rw [<-e]
  exact Ak _
theorem ZH (Nk:List Int) (k:Nat) (x:Int):(Xp Nk k x).Perm (x::Nk):=by
 unfold Xp
 refine List.perm_middle.trans (List.Perm.cons x ?_)
 rw [Kf]
theorem Fm.add {m:Nat} {L:List (List Int)} {Nk s:List Int} (h:Fm m L Nk) (hn:s∉L) (hl:s.length=m) (hr:L.length<3000):Fm m (L++ [s]) (Xp Nk (Gu L Nk s) L.length):=by
 have EC: ∀i∈Nk,(L++ [s]).getD i.toNat []=L.getD i.toNat []:= λi hi=>by
  have:=Qw.1 (h.perm.mem_iff.1 hi)
  rw [Aj,Aj,At (by omega)]
 have Al0:(L++ [s]).getD ((L.length:Int)).toNat []=s:=by
  rw [Au,Aj,Ar (by omega),Nat.sub_self];rfl
 refine ⟨by rw [As,Be];omega,λx hx=>?_,h.short,?_,?_⟩
 ·rcases Bb.1 hx with hx|hx
  ·exact h.len x hx
  ·rw [Ad.1 hx];exact hl
 ·refine (ZH _ _ _).trans ?_
  rw [As,Be,fa]
  exact (List.Perm.cons _ h.perm).trans (List.perm_append_singleton _ _).symm
 ·unfold Xp
  have hs:=h.sorted
  rw [<-Kf (Gu L Nk s) Nk] at hs
  obtain ⟨s1,s2,s3⟩:=List.pairwise_append.1 hs
  have mt: ∀i∈Nk.take (Gu L Nk s),i∈Nk/\fR (L.getD i.toNat []) s=true:= λi hi=>by
   obtain ⟨k,hk,rfl⟩:=Bf.1 hi
   have hk2:k<Gu L Nk s:=by rw [Dj] at hk;omega
   have hk3:k<Nk.length:=by rw [Dj] at hk;omega
   rw [List.getElem_take]
   exact ⟨Ak _,(h.eV s hk3).1 hk2⟩
  have md: ∀i∈Nk.drop (Gu L Nk s),i∈Nk/\fR s (L.getD i.toNat [])=true:= λi hi=>by
   obtain ⟨k,hk,rfl⟩:=Bf.1 hi
   rw [List.length_drop] at hk
   have hk3:Gu L Nk s+k<Nk.length:=by omega
   rw [List.getElem_drop]
   refine ⟨Ak _,ZT ?_ λe=>hn ?_⟩
   ·exact Lt.2 λhh=>by
     have:=(h.eV s hk3).2 hh
     omega
   ·have hi:=h.idx hk3
    rw [Wj (by omega)] at e
    rw [<-e];exact Ak _
  refine List.pairwise_append.2 ⟨s1.imp_of_mem λ {a b} ha hb vK=>?_,List.pairwise_cons.2 ⟨λb hb=>?_,s2.imp_of_mem λ {a b} ha hb vK=>?_⟩,λa ha b hb=>?_⟩
  ·rw [EC a (mt a ha).1,EC b (mt b hb).1];exact vK
  ·rw [Al0,EC b (md b hb).1];exact (md b hb).2
  ·rw [EC a (md a ha).1,EC b (md b hb).1];exact vK
  ·rcases Bg.1 hb with rfl|hb
   ·rw [Al0,EC a (mt a ha).1];exact (mt a ha).2
   ·rw [EC a (mt a ha).1,EC b (md b hb).1];exact s3 a ha b hb
theorem gx (L:List (List Int)) (s:List Int):aO (L++ [s])=Xp (aO L) (Gu L (aO L) s) L.length:=by
 unfold aO
 rw [As,Be,List.range_succ,cD]
 have e: ∀(is:List Nat) (S:List Int),(∀i∈is,i<L.length)->is.foldl (λ(S:List Int) (i:Nat)=>Xp S (Gu ((L++ [s]).take i) S ((L++ [s]).getD i [])) (i:Int)) S=is.foldl (λ(S:List Int) (i:Nat)=>Xp S (Gu (L.take i) S (L.getD i [])) (i:Int)) S:=by
  intro is
  induction is with
  |nil=>intro S _;rfl
  |cons i is ih=>
   intro S h
   have hi:=h i (by simp)
   rw [Ds,Ds,ih _ λj hj=>h j (Ao _ hj)]
   congr 2
   rw [List.take_append_of_le_length (by omega),Aj,At hi,<-Aj]
 rw [e _ _ λi hi=>Dl.1 hi]
 simp only [Ds,List.foldl_nil]
 congr 2
 ·rw [List.take_append_of_le_length (Ap _),Bd]
 ·rw [Aj,Ar (by omega),Nat.sub_self];rfl
theorem og {m:Nat} (h:m<=20):Fm m [] []:=⟨by simp,λx hx=>(by cases hx),h,by simp [upto],List.Pairwise.nil⟩
theorem ZE {α:Type} {xs:List α} {y:Int} (h0:0<=y) (h:y.toNat<xs.length):idx xs y=some xs[y.toNat]:=by
 unfold idx
 rw [Ab h0,Ac h]
theorem Aj9 (f:SS) (s:List Int) (h:Fm s.length f.1 f.2.2.1):fnW Fu (look [(166,Yy)]) gp Tryz.f129 (f,s,()) (λ(z:Int)=>z=(Gu f.1 f.2.2.1 s:Int)):=by
 obtain ⟨L,D,Nk,b,⟨⟩⟩:=f
 dsimp only at h⊢
 have hle:=QX L Nk s
 have tz:=h.tQ
 have mq:=h.fG
 refine Eq.mp (Ajx (L,D,Nk,b,()) s _) ?_
 refine Dn.mk (λv=>v.2.2.1=L/\v.2.2.2.2.1=Nk/\ ∃lo hi:Nat,v.1=lo/\v.2.1=hi/\lo<=hi/\hi<=Nk.length/\lo<=Gu L Nk s/\Gu L Nk s<=hi) (λv=>(v.2.1-v.1).toNat)
  ⟨rfl,rfl,0,Nk.length,rfl,rfl,by omega,by omega,by omega,hle⟩ ?_
 rintro ⟨lo',kR,L',D',VE,b',⟨⟩⟩ ⟨h1,h2,lo,hi,h3,h4,h5,h6,h7,h8⟩
 dsimp only at h1 h2 h3 h4⊢
 subst h1 h2 h3 h4
 refine Br.dec (λhl=>?_) λhl=>?_
 ·have em:IntKind.i64.wrap ((IntKind.i64.wrap ((lo:Int)+(hi:Int))).tdiv 2)=(((lo+hi)/2:Nat):Int):=by
   rw [Cn (n:=(lo:Int)+(hi:Int)) (by omega) (by omega),Int.tdiv_eq_ediv_of_nonneg (by omega),Cn (by omega) (by omega)]
   omega
  rw [em]
  have hm1:(lo+hi)/2<VE.length:=by omega
  have hi1:=h.idx hm1
  have hi2:VE[(lo+hi)/2].toNat<L'.length:=by omega
  have hgd:=Wj hi2
  have hlen:=h.len _ (Ak hi2)
  have IY:short L'[VE[(lo+hi)/2].toNat]:=by
   unfold short
   have:=h.short;omega
  refine ⟨by decide,_,Cf hm1,_,ZE hi1.1 hi2,_,Ab ⟨IY,hlen⟩,⟨λhc=>?_,λhc=>?_⟩⟩
  ·have hc:fR L'[VE[(lo+hi)/2].toNat] s=true:=hc
   have hs:=(h.eV s hm1).2 (by rw [hgd];exact hc)
   rw [Bv (by omega)]
   exact ⟨⟨rfl,rfl,(lo+hi)/2+1,hi,rfl,rfl,by omega,h6,by omega,h8⟩,by omega⟩
  ·have hc:fR L'[VE[(lo+hi)/2].toNat] s=false:=hc
   have hs: ¬(lo+hi)/2<Gu L' VE s:= λhh=>by
    have:=(h.eV s hm1).1 hh
    rw [hgd,hc] at this;cases this
   exact ⟨⟨rfl,rfl,lo,(lo+hi)/2,rfl,rfl,by omega,by omega,h7,by omega⟩,by omega⟩
 ·show (lo:Int)=_
  omega
theorem uQ:Sound Tryz.prog 129 gp:=
 Sound.Gw Dq (Ax uO Bn) mixed Tryz.func129 (by kernel_rfl) (by kernel_rfl) λx h=>Aj9 x.1 x.2.1 h
theorem Aae (f:SS) (s:List Int) (h:Fm s.length f.1 f.2.2.1):fnW Fu (look [(129,gp),(128,Dz)]) Lr Tryz.f75 (f,s,()) (λ(z:Int)=>z=eH f.1 s):=by
 obtain ⟨L,D,Nk,b,⟨⟩⟩:=f
 dsimp only at h⊢
 refine Eq.mp (Ac8 (L,D,Nk,b,()) s _) ⟨_,Ab h,Br.dec (λhl=>?_) λhl=>?_⟩
 ·have hl:Gu L Nk s<Nk.length:=by
   have hl:((Gu L Nk s:Nat):Int)<(Nk.length:Int):=hl
   omega
  have hi1:=h.idx hl
  have hi2:Nk[Gu L Nk s].toNat<L.length:=by omega
  have hgd:=Wj hi2
  have hlen:=h.len _ (Ak hi2)
  have IY:short L[Nk[Gu L Nk s].toNat]:=by
   unfold short
   have:=h.short;omega
  refine ⟨_,Cf hl,_,ZE hi1.1 hi2,_,Ab IY,⟨λhc=>⟨_,Cf hl,?_⟩,λhc=>?_⟩⟩
  ·have hc:L[Nk[Gu L Nk s].toNat]=s:=Jg hc
   rcases h.yG (s:=s) with ⟨hk,_,e⟩|⟨_,Jr⟩
   ·exact e.symm
   ·exact absurd (by rw [hgd];exact hc) (Jr hl)
  ·have hc: ¬L[Nk[Gu L Nk s].toNat]=s:=of_decide_eq_false hc
   rcases h.yG (s:=s) with ⟨hk,e,_⟩|⟨e,_⟩
   ·rw [hgd] at e;exact absurd e hc
   ·exact e.symm
 ·have hl: ¬Gu L Nk s<Nk.length:=by
   have hl: ¬((Gu L Nk s:Nat):Int)<(Nk.length:Int):=hl
   omega
  rcases h.yG (s:=s) with ⟨hk,e,_⟩|⟨e,_⟩
  ·exact absurd hk hl
  ·exact e.symm
theorem bg:Sound Tryz.prog 75 Lr:=
 Sound.Gw Dq (Ax uQ (Ax ia Bn)) mixed Tryz.func75 (by kernel_rfl) (by kernel_rfl) λx h=>Aae x.1 x.2.1 h
theorem KT {S:List Int} {k:Nat} (h:k<=S.length) (n:Int):
  (Dv (S++ [0]) (k+1) (List.take ((S++ [0]).length-(k+1)) (List.take ((S++ [0]).length-k) (List.drop k (S++ [0]))))).set k n=Xp S k n:=by
 obtain ⟨A,B,rfl,hA⟩: ∃A B,S=A++B/\A.length=k:=⟨S.take k,S.drop k,(Kf k S).symm,by rw [Dj];omega⟩
 subst hA
 have e1:List.drop A.length (A++B++ [0])=B++ [0]:=by rw [Cv,List.drop_left]
 have e2:List.take ((A++B++ [0]).length-A.length) (B++ [0])=B++ [0]:=List.take_of_length_le (by simp only [As,Be];omega)
 have e3:List.take ((A++B++ [0]).length-(A.length+1)) (B++ [0])=B:=by
  have:(A++B++ [(0:Int)]).length-(A.length+1)=B.length:=by simp only [As,Be];omega
  rw [this,List.take_left]
 rw [e1,e2,e3]
 unfold Dv Xp
 have e4:List.drop (A.length+1+B.length) (A++B++ [0])= []:=List.drop_eq_nil_of_le (by simp only [As,Be];omega)
 obtain ⟨c,hc⟩: ∃c,List.take (A.length+1) (A++B++ [0])=A++ [c]:=by
  rw [Cv,List.take_append,List.take_of_length_le (by omega)]
  cases B with
  |nil=>exact ⟨0,by simp⟩
  |cons b B=>exact ⟨b,by simp⟩
 rw [e4,hc,List.append_nil,Cv,List.singleton_append,Aep,List.take_left,List.drop_left]
theorem Aj8 (L:List (List Int)) (D S:List Int) (b:Bool) (s:List Int) (d:Int) (h:Fm s.length L S/\D.length<=3000):
  fnMW Tr (look [(129,gp)]) mO Tryz.f164 (L,D,S,b,s,d,()) (λ(z:(List (List Int)×List Int×List Int×Bool×Unit)×Unit)=>z=((L++ [s],D++ [d],Xp S (Gu L S s) L.length,b,()),())):=by
 obtain ⟨h,hD⟩:=h
 have hle:=QX L S s
 have tz:=h.tQ
 have mq:=h.fG
 refine Eq.mp (Ajw L D S b s d _) ?_
 rw [Cc L,Cc D,Cc S]
 refine ⟨_,Ab h,?_⟩
 dsimp only
 have es:List.take 1 (List.drop 0 [(0:Int)])= [0]:=rfl
 have el:(S++ [(0:Int)]).length=S.length+1:=by simp
 rw [es,Bv (by omega),Ce,Ce,Au,Au,Au]
 refine ⟨rfl,rfl,by show S.length+1<=4294967296;omega,⟨by omega,by omega,by omega⟩,⟨by omega,by omega,by omega⟩,⟨by omega,by omega⟩,?_,rfl,rfl,by show L.length+1<=4294967296;omega,rfl,rfl,by show D.length+1<=4294967296;omega,?_⟩
 ·unfold Dv
  simp only [As,Dj,List.length_drop,Be]
  omega
 ·rw [KT hle,Cc,Cc]
  have e5:List.take (S++ [(0:Int)]).length (List.drop 0 (Xp S (Gu L S s) (L.length:Int)))=Xp S (Gu L S s) (L.length:Int):=by
   rw [Fw,List.take_of_length_le]
   unfold Xp
   simp only [As,Ay,Dj,List.length_drop,Ex]
   omega
  rw [e5]
  rfl
theorem NL:Cp Tryz.prog 164 mO:=
 Cp.mW Ss (Ax uQ Bn) mixed Tryz.func164 (by kernel_rfl) (by kernel_rfl) λx h=>Aj8 x.1 x.2.1 x.2.2.1 x.2.2.2.1 x.2.2.2.2.1 x.2.2.2.2.2.1 h
structure Ve (p:PP) (m:Nat) (L:List (List Int)) (D:List Int):Prop where
 ok:Fm m L (aO L)
 len:D.length=L.length
 row: ∀x∈L,∀y∈x,0<=y/\y<p.1
 dep: ∀j (h:j<D.length),0<=D[j]/\D[j]<=j
theorem sf {p:PP} (hv:Valid p) {x:List Int} {l:Int} (hx: ∀y∈x,0<=y/\y<p.1) (hl:Fo (List.length p.2.2.1) l):
  (Ag x (An p.2.2.1 l)).length=x.length/\ ∀y∈Ag x (An p.2.2.1 l),0<=y/\y<p.1:=by
 obtain ⟨h1,h2⟩:=kC hv hl
 refine ⟨Sb _ _,λy hy=>?_⟩
 have:=DJ (n:=(An p.2.2.1 l).length) (λz hz=>by have:=hx z hz;omega) h2 y hy
 omega
theorem Ve.add {p:PP} {m:Nat} {L:List (List Int)} {D:List Int} (h:Ve p m L D) {y:List Int} {d:Int} (hn:y∉L) (hl:y.length=m) (hr:L.length<3000) (hy: ∀z∈y,0<=z/\z<p.1) (hd:0<=d/\d<=L.length):Ve p m (L++ [y]) (D++ [d]):=by
 have hlen:=h.len
 refine ⟨by rw [gx];exact h.ok.add hn hl hr,by simp [hlen],λx hx=>?_,λj hj=>?_⟩
 ·rcases Bb.1 hx with hx|hx
  ·exact h.row x hx
  ·rw [Ad.1 hx];exact hy
 ·by_cases e:j<D.length
  ·rw [Px e];exact h.dep j e
  ·simp only [As,Be] at hj
   have:j=D.length:=by omega
   subst this
   rw [List.getElem_append_right (by omega)]
   simp only [Nat.sub_self,List.getElem_cons_zero]
   omega
theorem kq {p:PP} {s:List Int} (hs:s.length<=20) (hr: ∀y∈s,0<=y/\y<p.1):Ve p s.length [s] [0]:=by
 refine ⟨?_,rfl,λx hx=>by rw [Ad.1 hx];exact hr,λj hj=>?_⟩
 ·have:=(og hs).add (s:=s) (by simp) rfl (by simp)
  have e:aO [s]=Xp [] (Gu [] [] s) 0:=gx [] s
  rw [e];exact this
 ·simp only [Be] at hj
  have:j=0:=by omega
  subst this
  simp
theorem xK {L:List (List Int)} {s:List Int} :eH L s>=0↔s∈L:=by
 unfold eH
 split
 ·rename_i h;exact ⟨λ_=>h,λ_=>by omega⟩
 ·rename_i h;exact ⟨λhh=>by omega,λhh=>absurd hh h⟩
theorem Aek (p:PP) (s:List Int) (h:Bt p=true/\s.length<=20/\ ∀y∈s,0<=y/\y<p.1):fnW Ajm (look [(68,Iu),(164,mO),(65,Oi),(66,Qy),(75,Lr)]) Gx Tryz.f126 (p,s,()) (λ(z:SS)=>z=Gr p.2.2.1 s):=by
 obtain ⟨hv,hs,hr⟩:=h
 have hV:=valid hv
 have mq:=hV.fG
 have hb0:=kq hs hr
 have IY:short s:=by unfold short;omega
 obtain ⟨ls,vQ⟩: ∃ls,Av (List.length p.2.2.1)=ls:=⟨_,rfl⟩
 refine Eq.mp (Af4 p s _) ⟨_,Ab IY,_,Ab ⟨og hs,by show 0<=3000;omega⟩,ls,(Ab (by show List.length p.2.2.1<=8;exact mq.2)).trans (Ga some vQ),rfl,rfl,rfl,rfl,rfl,rfl,rfl,rfl,rfl,rfl,rfl,rfl,?_⟩
 have e0:Xp [] (Gu [] [] s) ((([]:List (List Int)).length:Nat):Int)=aO [s]:=(gx [] s).symm
 show Dn _ ((0:Int),p.1,p.2.1,p.2.2.1,false,false,[],[],[],[s],[(0:Int)],Xp [] (Gu [] [] s) ((([]:List (List Int)).length:Nat):Int),PUnit.unit)
 rw [e0]
 have YM:ls.length<=16:=by rw [<-vQ,Lj];omega
 have rm: ∀l∈ls,Fo (List.length p.2.2.1) l:= λl hl=>Kt (vQ▸hl)
 have KP:Ks p.2.2.1 ls 3001 0 [s] [0]=Gq p.2.2.1 s:=by unfold Gq;rw [vQ]
 refine Dn.mk (λv=>v.2.1=p.1/\v.2.2.1=p.2.1/\v.2.2.2.1=p.2.2.1/\v.2.2.2.2.2.1=false/\ ∃k:Nat,v.1=k/\k<=v.2.2.2.2.2.2.2.2.2.1.length/\
   Ve p s.length v.2.2.2.2.2.2.2.2.2.1 v.2.2.2.2.2.2.2.2.2.2.1/\v.2.2.2.2.2.2.2.2.2.2.2.1=aO v.2.2.2.2.2.2.2.2.2.1/\
   Ks p.2.2.1 ls (3001-k) k v.2.2.2.2.2.2.2.2.2.1 v.2.2.2.2.2.2.2.2.2.2.1=Gq p.2.2.1 s) (λv=>3001-v.1.toNat)
  ⟨rfl,rfl,rfl,rfl,0,rfl,by simp,hb0,rfl,KP⟩ ?_
 rintro ⟨k',n1,n2,n3,b0,wh,x1,x2,x3,L0,D0,S0,⟨⟩⟩ ⟨h1,h2,h3,h4,k,h5,h6,h7,h8,h9⟩
 dsimp only at h1 h2 h3 h4 h5 h6 h7 h8 h9
 subst h1 h2 h3 h4 h5 h8
 dsimp only
 have hL0:=h7.ok.fG
 have hD0:=h7.len
 refine Br.dec (λhl=>⟨rfl,rfl,rfl,rfl,rfl,rfl,rfl,rfl,rfl,rfl,rfl,rfl,?_⟩) λhl=>?_
 ·have hk:k<L0.length:=by omega
  have SN:k<D0.length:=by omega
  have hx: ∀y∈L0[k],0<=y/\y<p.1:=h7.row _ (Ak hk)
  have vU:L0[k].length=s.length:=h7.ok.len _ (Ak hk)
  have hdk:=h7.dep k SN
  obtain ⟨f,hf⟩: ∃f,3001-k=f+1:=⟨3000-k,by omega⟩
  have hgo: ∀L' D' ok,Jh p.2.2.1 L0[k] D0[k] ls L0 D0=(L',D',ok)->Gq p.2.2.1 s=if ok=true then Ks p.2.2.1 ls f (k+1) L' D' else (L',D',false):=by
   intro L' D' ok he
   rw [<-h9,hf,Ks,Ab hk,Wj hk,Aj,Ac SN]
   simp only [Dd]
   rw [he]
   cases ok<;>rfl
  refine Dn.mk (λv=>v.2.1=p.1/\v.2.2.1=p.2.1/\v.2.2.2.1=p.2.2.1/\v.2.2.2.2.2.1=false/\ ∃i:Nat,v.1=i/\i<=ls.length/\Ve p s.length v.2.2.2.2.2.2.2.2.2.1 v.2.2.2.2.2.2.2.2.2.2.1/\
    v.2.2.2.2.2.2.2.2.2.2.2.1=aO v.2.2.2.2.2.2.2.2.2.1/\(∃A,v.2.2.2.2.2.2.2.2.2.1=L0++A)/\(∃A,v.2.2.2.2.2.2.2.2.2.2.1=D0++A)/\
    Jh p.2.2.1 L0[k] D0[k] (ls.drop i) v.2.2.2.2.2.2.2.2.2.1 v.2.2.2.2.2.2.2.2.2.2.1=Jh p.2.2.1 L0[k] D0[k] ls L0 D0) (λv=>ls.length-v.1.toNat)
   ⟨rfl,rfl,rfl,rfl,0,rfl,Kd _,h7,rfl,⟨[],by simp⟩,⟨[],by simp⟩,rfl⟩ ?_
  rintro ⟨i',m1,m2,m3,b1,wh1,y1,y2,y3,L,D,S,⟨⟩⟩ ⟨g1,g2,g3,g4,i,g5,g6,g7,g8,⟨A,g9⟩,⟨A',g10⟩,ri⟩
  dsimp only at g1 g2 g3 g4 g5 g6 g7 g8 g9 g10 ri
  subst g1 g2 g3 g4 g5 g8
  dsimp only
  have hLf:=g7.ok.fG
  have hDl:=g7.len
  rw [Cc L,Cc D,Cc (aO L)]
  refine Br.dec (λhli=>?_) λhli=>?_
  ·have hi:i<ls.length:=by omega
   have hkL:k<L.length:=by rw [g9,As];omega
   have hLk:L[k]=L0[k]:=by simp only [g9];exact Px hk
   have Ai0:k<D.length:=by rw [hDl];exact hkL
   have hDk:D[k]=D0[k]:=by simp only [g10];exact Px SN
   have mu:=rm _ (Ak hi)
   obtain ⟨nl,nr⟩:=sf hV hx mu
   rw [Gg hi] at ri
   simp only [Jh] at ri
   refine ⟨⟨by omega,by omega⟩,L0[k],by rw [Au,Ce,Ac hkL,hLk],_,Cf hi,_,Ab ⟨hv,by show L0[k].length<=20;omega,hx,mu⟩,?_⟩
   dsimp only
   have hyl:(Ag L0[k] (An p.2.2.1 ls[i])).length=s.length:=by rw [nl,vU]
   refine ⟨_,Ab (by show Fm (Ag L0[k] (An p.2.2.1 ls[i])).length L (aO L);rw [hyl];exact g7.ok),Br.dec (λiu=>?_) λiu=>?_⟩
   ·have iu:Ag L0[k] (An p.2.2.1 ls[i])∈L:=xK.1 iu
    rw [Ab iu] at ri
    rw [Bv (by omega)]
    exact ⟨rfl,rfl,rfl,rfl,rfl,rfl,rfl,rfl,rfl,rfl,rfl,rfl,⟨rfl,rfl,rfl,rfl,i+1,rfl,hi,g7,rfl,⟨A,g9⟩,⟨A',g10⟩,ri⟩,by omega⟩
   ·have iu:Ag L0[k] (An p.2.2.1 ls[i])∉L:= λhh=>iu (xK.2 hh)
    rw [Ai iu] at ri
    refine ⟨λZx=>?_,λZx=>⟨⟨by omega,by omega⟩,D0[k],by rw [Au,Ce,Ac Ai0,hDk],rfl,rfl,rfl,rfl,rfl,rfl,?_⟩⟩
    ·have Zx:L.length=3000:=by
      have:(L.length:Int)=3000:=by simpa using Zx
      omega
     rw [Ab Zx] at ri
     have:=hgo _ _ _ ri.symm
     rw [Ai (by decide)] at this
     unfold Gr
     rw [this]
    ·have Zx:L.length≠3000:=by
      have:(L.length:Int)≠3000:=by simpa using Zx
      omega
     rw [Ai Zx] at ri
     rw [Cn (n:=D0[k]+1) (by omega) (by omega)]
     refine ⟨_,Ab ⟨by show Fm (Ag L0[k] (An p.2.2.1 ls[i])).length L (aO L);rw [hyl];exact g7.ok,by show D.length<=3000;omega⟩,?_⟩
     dsimp only
     rw [Bv (by omega),<-gx]
     refine ⟨rfl,rfl,rfl,rfl,rfl,rfl,rfl,rfl,rfl,rfl,rfl,rfl,⟨rfl,rfl,rfl,rfl,i+1,rfl,hi,g7.add iu hyl (by omega) nr ⟨by omega,by omega⟩,rfl,⟨A++ [Ag L0[k] (An p.2.2.1 ls[i])],by rw [g9,Cv]⟩,⟨A'++ [D0[k]+1],by rw [g10,Cv]⟩,ri⟩,by omega⟩
  ·have:i=ls.length:=by omega
   subst this
   rw [Zh,Jh] at ri
   have:=hgo _ _ _ ri.symm
   rw [Ab rfl] at this
   rw [Bv (by omega)]
   refine ⟨rfl,rfl,rfl,rfl,rfl,rfl,rfl,rfl,rfl,rfl,rfl,rfl,⟨rfl,rfl,rfl,rfl,k+1,rfl,by rw [g9,As];omega,g7,rfl,?_⟩,by omega⟩
   rw [show 3001-(k+1)=f by omega]
   exact this.symm
 ·have hk:k=L0.length:=by omega
  rw [Cc L0,Cc D0,Cc (aO L0)]
  obtain ⟨f,hf⟩: ∃f,3001-k=f+1:=⟨3000-k,by omega⟩
  rw [hf,Ks,Ai (by omega)] at h9
  unfold Gr
  rw [<-h9]
theorem qO:Sound Tryz.prog 126 Gx:=
 Sound.Gw Ajn (Ax Wy (Gb NL (Ax ib (Ax gr (Ax bg Bn))))) mixed Tryz.func126 (by kernel_rfl) (by kernel_rfl) λx h=>Aek x.1 x.2.1 h
noncomputable def Em (p:PP) (t:List Int):Bool:=Bt p&&Qc p.1 t
noncomputable def Gm (p:PP) (t:List Int):Bool:=Em p t&&(Gq p.2.2.1 t).2.2
noncomputable abbrev Jv:Spec:=Gw (.pair Hq (.pair tL .unit)) .bool false true (λx=>Eo x.1/\short x.2.1) (λx=>Em x.1 x.2.1)
noncomputable def Qd (p:PP) (t:List Int):SS:=if Em p t=true then Gr p.2.2.1 t else ([],[],[],false,())
noncomputable abbrev Vr:Spec:=Gw (.pair Hq (.pair tL .unit)) (.pair Zr (.pair .bool .unit)) true false (λx=>Eo x.1/\short x.2.1) (λx=>(Qd x.1 x.2.1,Gm x.1 x.2.1,()))
noncomputable abbrev Sr:Spec:=Gw (.pair lO .unit) lO false true (λx=>Pb x.1) (λx=>x.1)
noncomputable def Gc (p:PP) (t:List Int):TT:=if Gm p t=true then (t,(Gq p.2.2.1 t).1,(Gq p.2.2.1 t).2.1,()) else ([],[],[],())
noncomputable abbrev Ew:Spec:=Gw (.pair Hq (.pair tL .unit)) (.pair cv (.pair .bool .unit)) true true (λx=>Eo x.1/\short x.2.1) (λx=>(Gc x.1 x.2.1,Gm x.1 x.2.1,()))
noncomputable abbrev Yx:MSpec:=mW [some 3,none] [(false, .Ec tI),(false, .Ec .str),(false, .Ec lO),(false, .Ec tL)] true [none,none,none] [xLL,rL, .Ec .bool]
 (λx=>Em (x.1,x.2.1,x.2.2.1,()) x.2.2.2.1=true) (λx=>(((Gc (x.1,x.2.1,x.2.2.1,()) x.2.2.2.1).2.1,(Gc (x.1,x.2.1,x.2.2.1,()) x.2.2.2.1).2.2.1,Gm (x.1,x.2.1,x.2.2.1,()) x.2.2.2.1,()),()))
noncomputable abbrev Yz:MSpec:=mW [some 3,none] [(false, .Ec tI),(false, .Ec .str),(false, .Ec lO),(false, .Ec tL)] true [none,none,none] [xLL,rL, .Ec .bool]
 (λx=>Eo (x.1,x.2.1,x.2.2.1,())/\short x.2.2.2.1) (λx=>(((Gc (x.1,x.2.1,x.2.2.1,()) x.2.2.2.1).2.1,(Gc (x.1,x.2.1,x.2.2.1,()) x.2.2.2.1).2.2.1,Gm (x.1,x.2.1,x.2.2.1,()) x.2.2.2.1,()),()))
noncomputable abbrev Vp:MSpec:=mW [some 3,none] [(false, .Ec tI),(false, .Ec .str),(false, .Ec lO),(false, .Ec tL)] true [some 3,none] [rL,xLL,rL, .Ec .bool]
 (λx=>Eo (x.1,x.2.1,x.2.2.1,())/\short x.2.2.2.1) (λx=>(((Gc (x.1,x.2.1,x.2.2.1,()) x.2.2.2.1).1,(Gc (x.1,x.2.1,x.2.2.1,()) x.2.2.2.1).2.1,(Gc (x.1,x.2.1,x.2.2.1,()) x.2.2.2.1).2.2.1,Gm (x.1,x.2.1,x.2.2.1,()) x.2.2.2.1,()),()))
noncomputable def Gs (p:PP) (t:TT):Bool:=Gm p t.1&&lD (Gc p t.1) t
noncomputable abbrev eU:Spec:=Gw (.pair Hq (.pair cv .unit)) .bool false true (λx=>Eo x.1/\aC x.2.1) (λx=>Gs x.1 x.2.1)
abbrev tTS:Ty:= .slice cv
def Qr (ts:List TT):Prop:=ts.length<=4294967296/\ ∀t∈ts,aC t
noncomputable def Gj (p:PP) (ts:List TT):Bool:=Bt p&&decide (ts.length<=4)&&List.all ts (Gs p)
noncomputable abbrev Zb:Spec:=Gw (.pair Hq (.pair tTS .unit)) .bool false true (λx=>Eo x.1/\Qr x.2.1) (λx=>Gj x.1 x.2.1)
abbrev Aoh:Ty:= .clo 119 (.pair (.ptr Hq) .unit)
noncomputable abbrev ye:Spec:=Gw (.pair cv (.pair (.ptr Hq) .unit)) .bool false true (λx=>aC x.1/\Eo x.2.1) (λx=>!Gs x.2.1 x.1)
def Sl (q:TT->Bool):List TT->Int->Int
 | [],_=> -1
 |t::ts,k=>if q t=true then k else Sl q ts (k+1)
noncomputable abbrev pJ:Spec:=Gw (.pair tTS (.pair Aoh .unit)) tI false true (λx=>Qr x.1/\Eo x.2.1.1) (λx=>Sl (λt=>!Gs x.2.1.1 t) x.1 0)
noncomputable abbrev pG:Spec:=Gw (.pair tTS (.pair Aoh .unit)) .bool false true (λx=>Qr x.1/\Eo x.2.1.1) (λx=>List.any x.1 (λt=>!Gs x.2.1.1 t))
theorem wS (p:Int×ByteArray×List (List Int)×Unit) (t:List Int) (P:Bool->Prop):(∃(y3:Bool),Il.fn ((p.1,p.2.1,p.2.2.1,()),())=some y3/\Br y3 (∃(y4:Bool),Ku.fn (p.1,t,())=some y4/\P y4) (P false))=fnW Fu (look [(99,Il),(101,Ku)]) Jv Tryz.f77 (p,t,()) P:=by kernel_rfl
theorem wY (p:Int×ByteArray×List (List Int)×Unit) (t:List Int) (P:Bool->Prop):(∃(y3:Bool),Il.fn ((p.1,p.2.1,p.2.2.1,()),())=some y3/\Br y3 (∃(y4:Bool),Ku.fn (p.1,t,())=some y4/\P y4) (P false))=fnW Fu (look [(63,Il),(137,Ku)]) Jv Tryz.f86 (p,t,()) P:=by kernel_rfl
theorem IK (p:Int×ByteArray×List (List Int)×Unit) (t:List Int) (P:((List (List Int)×List Int×List Int×Bool×Unit)×Bool×Unit)->Prop):(∃(y3:Bool),Jv.fn ((p.1,p.2.1,p.2.2.1,()),t,())=some y3/\Br (!y3) (P ((List.take 0 (List.drop 0 []),List.take 0 (List.drop 0 []),List.take 0 (List.drop 0 []),false,()),false,())) (∃(y4:List (List Int)×List Int×List Int×Bool×PUnit),Gx.fn ((p.1,p.2.1,p.2.2.1,()),t,())=some y4/\((P ((y4.1,y4.2.1,y4.2.2.1,y4.2.2.2.1,()),y4.2.2.2.1,())/\P ((y4.1,y4.2.1,y4.2.2.1,y4.2.2.2.1,()),y4.2.2.2.1,()))/\P ((y4.1,y4.2.1,y4.2.2.1,y4.2.2.2.1,()),y4.2.2.2.1,()))/\(P ((y4.1,y4.2.1,y4.2.2.1,y4.2.2.2.1,()),y4.2.2.2.1,())/\P ((y4.1,y4.2.1,y4.2.2.1,y4.2.2.2.1,()),y4.2.2.2.1,()))/\P ((y4.1,y4.2.1,y4.2.2.1,y4.2.2.2.1,()),y4.2.2.2.1,())))=fnW Fu (look [(86,Jv),(126,Gx)]) Vr Tryz.f67 (p,t,()) P:=by kernel_rfl
theorem IA (l:List (List Int)) (P:List (List Int)->Prop):(0=0/\0=([]:List Int).length/\Dn (λ(v2:Int×List (List Int)×PUnit) (k3:Int×List (List Int)×PUnit->Prop)=>Br (decide (v2.1<(↑l.length:Int))) (∃(y4:List Int),idx l v2.1=some y4/\ ∃(y5:List Int),Iu.fn (y4,())=some y5/\0=0/\v2.2.1.length=v2.2.1.length/\v2.2.1.length+(List.take 1 (List.drop 0 [y5])).length<=Dk/\0=0/\(v2.2.1++List.take 1 (List.drop 0 [y5])).length=(v2.2.1++List.take 1 (List.drop 0 [y5])).length/\k3 (IntKind.i64.wrap (v2.1+(1:Int)),v2.2.1++List.take 1 (List.drop 0 [y5]),())) (P (List.take v2.2.1.length (List.drop 0 v2.2.1)))) ((0:Int),[],PUnit.unit))=fnW Fu (look [(68,Iu)]) Sr Tryz.f69 (l,()) P:=by kernel_rfl
theorem IM (p:Int×ByteArray×List (List Int)×Unit) (t:List Int) (P:((List Int×List (List Int)×List Int×Unit)×Bool×Unit)->Prop):(∃(y3:(List (List Int)×List Int×List Int×Bool×PUnit)×Bool×PUnit),Vr.fn ((p.1,p.2.1,p.2.2.1,()),t,())=some y3/\Br (!y3.2.1) (P ((List.take 0 (List.drop 0 []),List.take 0 (List.drop 0 []),List.take 0 (List.drop 0 []),()),false,())) (∃(y4:List Int),Iu.fn (t,())=some y4/\ ∃(y5:List (List Int)),Sr.fn (y3.1.1,())=some y5/\ ∃(y6:List Int),Iu.fn (y3.1.2.1,())=some y6/\P ((y4,y5,y6,()),true,())))=fnW Fu (look [(67,Vr),(68,Iu),(69,Sr)]) Ew Tryz.f24 (p,t,()) P:=by kernel_rfl
abbrev di:Type:=Int×List (List Int)×List (List Int)×List Int×(ByteArray->Option Bool)×PUnit
abbrev qS:Type:=Int×Int×ByteArray×List (List Int)×List (List Int)×List (List Int)×List Int×(ByteArray->Option Bool)×PUnit
theorem OJ (n:Int) (str:ByteArray) (g:List (List Int)) (t:List Int) (P:((List (List Int)×List Int×Bool×Unit)×Unit)->Prop):(∃(y5:(List Int×PUnit)×PUnit),ck.fn (t,())=some y5/\ ∃(y6:ByteArray),Lf.fn (t,())=some y6/\ ∃(y7:List Int),Mv.fn ((↑g.length:Int),())=some y7/\0=0/\1= [List.take y5.1.1.length (List.drop 0 y5.1.1)].length/\0=0/\1= [(0:Int)].length/\0=0/\0=([]:List Int).length/\Dn (λ(v8:qS) (k9:qS->Prop)=>Br (decide (v8.1<(↑y7.length:Int))) (∃(Ko:Int),idx y7 v8.1=some Ko/\ ∃(Iw:List Int),Ii.fn (v8.2.2.2.1,Ko,())=some Iw/\0=0/\v8.2.2.2.2.1.length=v8.2.2.2.2.1.length/\v8.2.2.2.2.1.length+(List.take 1 (List.drop 0 [Iw])).length<=Dk/\0=0/\v8.2.2.2.2.2.1.length=v8.2.2.2.2.2.1.length/\0=0/\v8.2.2.2.2.2.2.1.length=v8.2.2.2.2.2.2.1.length/\0=0/\(v8.2.2.2.2.1++List.take 1 (List.drop 0 [Iw])).length=(v8.2.2.2.2.1++List.take 1 (List.drop 0 [Iw])).length/\k9 (IntKind.i64.wrap (v8.1+(1:Int)),v8.2.1,v8.2.2.1,v8.2.2.2.1,v8.2.2.2.2.1++List.take 1 (List.drop 0 [Iw]),v8.2.2.2.2.2.1,v8.2.2.2.2.2.2.1,v8.2.2.2.2.2.2.2.1,())) (0=0/\v8.2.2.2.2.2.1.length=v8.2.2.2.2.2.1.length/\0=0/\v8.2.2.2.2.2.2.1.length=v8.2.2.2.2.2.2.1.length/\0=0/\v8.2.2.2.2.1.length=v8.2.2.2.2.1.length/\Dn (λ(v10:di) (k11:di->Prop)=>Br (decide (v10.1<(↑v10.2.2.1.length:Int))) (0=0/\v10.2.2.1.length=v10.2.2.1.length/\0=0/\v10.2.2.2.1.length=v10.2.2.2.1.length/\0=0/\v10.2.1.length=v10.2.1.length/\0=0/\v10.2.1.length=v10.2.1.length/\Dn (λ(Ow:di) (k13:di->Prop)=>Br (decide (Ow.1<(↑v10.2.1.length:Int))) (((0:Int)<=Ow.1/\Ow.1<(↑Ow.2.1.length:Int))/\ ∃(Io:List Int),Ow.2.1[0+Ow.1.toNat]?=some Io/\((0:Int)<=v10.1/\v10.1<(↑Ow.2.2.1.length:Int))/\ ∃(Ip:List Int),Ow.2.2.1[0+v10.1.toNat]?=some Ip/\ ∃(Hi:(List Int×PUnit)×PUnit),bB.fn (Io,Ip,())=some Hi/\ ∃(Iz:ByteArray),Lf.fn (List.take Hi.1.1.length (List.drop 0 Hi.1.1),())=some Iz/\Br (!(Ow.2.2.2.2.1 Iz).getD false) (Br ((↑Ow.2.2.1.length:Int)==(3000:Int)) (P ((List.take 0 (List.drop 0 []),List.take 0 (List.drop 0 []),false,()),())) (0=0/\Ow.2.2.1.length=Ow.2.2.1.length/\Ow.2.2.1.length+(List.take 1 (List.drop 0 [List.take Hi.1.1.length (List.drop 0 Hi.1.1)])).length<=Dk/\((0:Int)<=v10.1/\v10.1<(↑Ow.2.2.2.1.length:Int))/\ ∃(y18:Int),Ow.2.2.2.1[0+v10.1.toNat]?=some y18/\0=0/\Ow.2.2.2.1.length=Ow.2.2.2.1.length/\Ow.2.2.2.1.length+(List.take 1 (List.drop 0 [IntKind.i64.wrap (y18+(1:Int))])).length<=Dk/\0=0/\(Ow.2.2.1++List.take 1 (List.drop 0 [List.take Hi.1.1.length (List.drop 0 Hi.1.1)])).length=(Ow.2.2.1++List.take 1 (List.drop 0 [List.take Hi.1.1.length (List.drop 0 Hi.1.1)])).length/\0=0/\(Ow.2.2.2.1++List.take 1 (List.drop 0 [IntKind.i64.wrap (y18+(1:Int))])).length=(Ow.2.2.2.1++List.take 1 (List.drop 0 [IntKind.i64.wrap (y18+(1:Int))])).length/\0=0/\Ow.2.1.length=Ow.2.1.length/\0=0/\Ow.2.1.length=Ow.2.1.length/\k13 (IntKind.i64.wrap (Ow.1+(1:Int)),Ow.2.1,Ow.2.2.1++List.take 1 (List.drop 0 [List.take Hi.1.1.length (List.drop 0 Hi.1.1)]),Ow.2.2.2.1++List.take 1 (List.drop 0 [IntKind.i64.wrap (y18+(1:Int))]),jZ Ow.2.2.2.2.1 Iz true,()))) (0=0/\Ow.2.2.1.length=Ow.2.2.1.length/\0=0/\Ow.2.2.2.1.length=Ow.2.2.2.1.length/\0=0/\Ow.2.1.length=Ow.2.1.length/\0=0/\Ow.2.1.length=Ow.2.1.length/\k13 (IntKind.i64.wrap (Ow.1+(1:Int)),Ow.2.1,Ow.2.2.1,Ow.2.2.2.1,Ow.2.2.2.2.1,()))) (0=0/\Ow.2.2.1.length=Ow.2.2.1.length/\0=0/\Ow.2.2.2.1.length=Ow.2.2.2.1.length/\0=0/\Ow.2.1.length=Ow.2.1.length/\k11 (IntKind.i64.wrap (v10.1+(1:Int)),Ow.2.1,Ow.2.2.1,Ow.2.2.2.1,Ow.2.2.2.2.1,()))) ((0:Int),v10.2.1,v10.2.2.1,v10.2.2.2.1,v10.2.2.2.2.1,PUnit.unit)) (P ((List.take v10.2.2.1.length (List.drop 0 v10.2.2.1),List.take v10.2.2.2.1.length (List.drop 0 v10.2.2.2.1),true,()),()))) ((0:Int),v8.2.2.2.2.1,v8.2.2.2.2.2.1,v8.2.2.2.2.2.2.1,v8.2.2.2.2.2.2.2.1,PUnit.unit))) ((0:Int),n,str,g,[],[List.take y5.1.1.length (List.drop 0 y5.1.1)],[(0:Int)],jZ (λ(_:ByteArray)=>none) y6 true,PUnit.unit))=fnMW (pU [Ok+10]) (look [(138,ck),(121,Lf),(139,Mv),(135,Ii),(79,bB)]) Yx Tryz.f88 (n,str,g,t,()) P:=by kernel_rfl
theorem OM (n:Int) (str:ByteArray) (g:List (List Int)) (t:List Int) (P:((List (List Int)×List Int×Bool×Unit)×Unit)->Prop):(∃(y5:Bool),Jv.fn ((n,str,g,()),t,())=some y5/\Br (!y5) (P ((List.take 0 (List.drop 0 []),List.take 0 (List.drop 0 []),false,()),())) (∃(y6:(List (List Int)×List Int×Bool×PUnit)×PUnit),Yx.fn (n,str,g,t,())=some y6/\P ((List.take y6.1.1.length (List.drop 0 y6.1.1),List.take y6.1.2.1.length (List.drop 0 y6.1.2.1),y6.1.2.2.1,()),())))=fnMW Tr (look [(77,Jv),(88,Yx)]) Yz Tryz.f90 (n,str,g,t,()) P:=by kernel_rfl
theorem ID (n:Int) (str:ByteArray) (g:List (List Int)) (t:List Int) (P:((List Int×List (List Int)×List Int×Bool×Unit)×Unit)->Prop):(∃(y5:(List (List Int)×List Int×Bool×PUnit)×PUnit),Yz.fn (n,str,g,t,())=some y5/\Br (!y5.1.2.2.1) (P ((List.take 0 (List.drop 0 []),List.take 0 (List.drop 0 []),List.take 0 (List.drop 0 []),false,()),())) (∃(y6:(List Int×PUnit)×PUnit),ck.fn (t,())=some y6/\P ((List.take y6.1.1.length (List.drop 0 y6.1.1),List.take y5.1.1.length (List.drop 0 y5.1.1),List.take y5.1.2.1.length (List.drop 0 y5.1.2.1),true,()),())))=fnMW Tr (look [(90,Yz),(138,ck)]) Vp Tryz.f160 (n,str,g,t,()) P:=by kernel_rfl
theorem BU (p:Int×ByteArray×List (List Int)×Unit) (t:List Int×List (List Int)×List Int×Unit) (P:Bool->Prop):(∃(y3:(List Int×List (List Int)×List Int×Bool×PUnit)×PUnit),Vp.fn (p.1,p.2.1,p.2.2.1,t.1,())=some y3/\Br y3.1.2.2.2.1 (∃(y4:Bool),bw.fn ((List.take y3.1.1.length (List.drop 0 y3.1.1),List.take y3.1.2.1.length (List.drop 0 y3.1.2.1),List.take y3.1.2.2.1.length (List.drop 0 y3.1.2.2.1),()),(t.1,t.2.1,t.2.2.1,()),())=some y4/\P y4) (P false))=fnW Fu (look [(160,Vp),(161,bw)]) eU Tryz.f120 (p,t,()) P:=by kernel_rfl
theorem Aos (t:List Int×List (List Int)×List Int×Unit) (p:Int×ByteArray×List (List Int)×Unit) (P:Bool->Prop):(∃(y3:Bool),eU.fn (p,(t.1,t.2.1,t.2.2.1,()),())=some y3/\P !y3)=fnW Fu (look [(120,eU)]) ye Tryz.f119 (t,p,()) P:=by kernel_rfl
theorem Ajt (ts:List (List Int×List (List Int)×List Int×Unit)) (c:(Int×ByteArray×List (List Int)×Unit)×Unit) (P:Int->Prop):(Dn (λ(v3:Int×PUnit) (k4:Int×PUnit->Prop)=>Br (decide (v3.1<(↑ts.length:Int))) (∃(y5:List Int×List (List Int)×List Int×PUnit),idx ts v3.1=some y5/\ ∃(y6:Bool),ye.fn (y5,c.1,())=some y6/\Br y6 (P v3.1) (k4 (IntKind.i64.wrap (v3.1+(1:Int)),()))) (P (-1:Int))) ((0:Int),PUnit.unit))=fnW Fu (look [(119,ye)]) pJ Tryz.f159 (ts,c,()) P:=by kernel_rfl
theorem Ajq (ts:List (List Int×List (List Int)×List Int×Unit)) (c:(Int×ByteArray×List (List Int)×Unit)×Unit) (P:Bool->Prop):(∃(y3:Int),pJ.fn (ts,c,())=some y3/\P (decide (y3>=(0:Int))))=fnW Fu (look [(159,pJ)]) pG Tryz.f118 (ts,c,()) P:=by kernel_rfl
theorem vo (p:Int×ByteArray×List (List Int)×Unit) (ts:List (List Int×List (List Int)×List Int×Unit)) (P:Bool->Prop):(∃(y3:Bool),Il.fn ((p.1,p.2.1,p.2.2.1,()),())=some y3/\Br y3 (Br (decide ((↑ts.length:Int)<=(4:Int))) (∃(y4:Bool),pG.fn (ts,((p.1,p.2.1,p.2.2.1,()),()),())=some y4/\P !y4) (P false)) (P false))=fnW Fu (look [(99,Il),(118,pG)]) Zb Tryz.f60 (p,ts,()) P:=by kernel_rfl
theorem nj {p:PP} (hV:Valid p) {m:Nat} {x:List Int} {d:Int} (hx: ∀y∈x,0<=y/\y<p.1) (vU:x.length=m): ∀(ls:List Int) (L:List (List Int)) (D:List Int),(∀l∈ls,Fo (List.length p.2.2.1) l)->
  Ve p m L D->(0<=d/\d<L.length)->Ve p m (Jh p.2.2.1 x d ls L D).1 (Jh p.2.2.1 x d ls L D).2.1/\(∃A,(Jh p.2.2.1 x d ls L D).1=L++A)/\(∃A,(Jh p.2.2.1 x d ls L D).2.1=D++A)
 | [],L,D,_,h,_=>⟨h,⟨[],by simp [Jh]⟩,⟨[],by simp [Jh]⟩⟩
 |l::ls,L,D,hl,h,hd=>by
  obtain ⟨n1,n2⟩:=sf hV hx (hl l (by simp))
  have Mc: ∀l∈ls,Fo (List.length p.2.2.1) l:= λl' h'=>hl l' (Ao _ h')
  simp only [Jh]
  split
  ·exact nj hV hx vU ls L D Mc h hd
  ·rename_i hn
   split
   ·exact ⟨h,⟨[],by simp⟩,⟨[],by simp⟩⟩
   ·rename_i hf
    have mq:=h.ok.fG
    obtain ⟨k1,⟨A,k2⟩,⟨A',k3⟩⟩:=nj hV hx vU ls (L++ [Ag x (An p.2.2.1 l)]) (D++ [d+1]) Mc (h.add hn (by rw [n1,vU]) (by omega) n2 ⟨by omega,by omega⟩) ⟨hd.1,by rw [As];omega⟩
    exact ⟨k1,⟨_::A,by rw [k2,Cv];rfl⟩,⟨_::A',by rw [k3,Cv];rfl⟩⟩
theorem CX {p:PP} (hV:Valid p) {m:Nat} {ls:List Int} (hl: ∀l∈ls,Fo (List.length p.2.2.1) l): ∀(f k:Nat) (L:List (List Int)) (D:List Int),Ve p m L D->
  Ve p m (Ks p.2.2.1 ls f k L D).1 (Ks p.2.2.1 ls f k L D).2.1/\(∃A,(Ks p.2.2.1 ls f k L D).1=L++A)
 |0,k,L,D,h=>⟨h,⟨[],by simp [Ks]⟩⟩
 |f+1,k,L,D,h=>by
  simp only [Ks]
  split
  ·rename_i hk
   have SN:k<D.length:=by rw [h.len];exact hk
   have hd:=h.dep k SN
   have e:D.getD k 0=D[k]:=by rw [Aj,Ac SN];rfl
   rw [Wj hk,e]
   obtain ⟨k1,⟨A,k2⟩,_⟩:=nj hV (h.row _ (Ak hk)) (h.ok.len _ (Ak hk)) (d:=D[k]) ls L D hl h ⟨by omega,by omega⟩
   split
   ·rename_i L' D' he
    rw [he] at k1 k2
    obtain ⟨g1,⟨B,g2⟩⟩:=CX hV hl f (k+1) L' D' k1
    have k2:L'=L++A:=k2
    exact ⟨g1,⟨A++B,by rw [g2,k2,Cv]⟩⟩
   ·rename_i L' D' he
    rw [he] at k1 k2
    exact ⟨k1,⟨A,k2⟩⟩
  ·exact ⟨h,⟨[],by simp⟩⟩
theorem yI {p:PP} {s:List Int} (hv:Bt p=true) (hs:s.length<=20) (hr: ∀y∈s,0<=y/\y<p.1):Ve p s.length (Gq p.2.2.1 s).1 (Gq p.2.2.1 s).2.1/\ ∃A,(Gq p.2.2.1 s).1=s::A:=
 CX (valid hv) (λ_ hl=>Kt hl) _ _ _ _ (kq hs hr)
theorem Su {p:PP} {t:List Int} :Em p t=true↔Bt p=true/\Qc p.1 t=true:=by
 unfold Em;rw [Af]
theorem Hg {p:PP} {t:List Int} (h:Em p t=true):t.length<=20/\ ∀y∈t,0<=y/\y<p.1:=by
 obtain ⟨h1,h2⟩:=Su.1 h
 have hn:=(valid h1).n
 obtain ⟨h3,h4⟩:=Iq.1 h2
 have hy: ∀y∈t,0<=y/\y<p.1:= λy hy=>by
  obtain ⟨j,hj,rfl⟩:=Bf.1 hy
  have:=h4 j hj hj
  omega
 refine ⟨?_,hy⟩
 have h5:=MI h4 (t.length-1) (by omega)
 have h6:=hy _ (Ak (show t.length-1<t.length by omega))
 omega
theorem mJ {p:PP} {t:List Int} (h:Em p t=true):Ve p t.length (Gq p.2.2.1 t).1 (Gq p.2.2.1 t).2.1:=(yI (Su.1 h).1 (Hg h).1 (Hg h).2).1
theorem eJ {p:PP} {t:List Int} :Gm p t=true↔Em p t=true/\(Gq p.2.2.1 t).2.2=true:=by
 unfold Gm;rw [Af]
theorem xa {p:PP} {m:Nat} {L:List (List Int)} {D:List Int} (h:Ve p m L D):Pb L/\short D:=by
 have h1:=h.ok.fG
 have h2:=h.ok.short
 have h3:=h.len
 refine ⟨⟨by omega,λx hx=>?_⟩,by unfold short;omega⟩
 have:=h.ok.len x hx
 unfold short;omega
theorem qa {p:PP} {t:List Int} :aC (Gc p t):=by
 unfold Gc
 split
 ·rename_i h
  have h1:=(eJ.1 h).1
  have h2:=xa (mJ h1)
  have h3:=(Hg h1).1
  exact ⟨show t.length<=4294967296 by omega,h2.1,h2.2⟩
 ·exact ⟨by simp [short],⟨by simp,λr hr=>by cases hr⟩,by simp [short]⟩
theorem wc (p:PP) (t:List Int) (h:Eo p/\short t):fnW Fu (look [(99,Il),(101,Ku)]) Jv Tryz.f77 (p,t,()) (λ(z:Bool)=>z=Em p t):=by
 refine Eq.mp (wS p t _) ⟨_,Ab h.1,⟨λhv=>?_,λhv=>?_⟩⟩
 ·have hv:Bt p=true:=hv
  have hn:=(valid hv).n
  refine ⟨_,Ab ⟨⟨by show 0<=p.1;omega,by show p.1<=4294967296;omega⟩,h.2⟩,?_⟩
  unfold Em;rw [hv];rfl
 ·have hv:Bt p=false:=hv
  unfold Em;rw [hv];rfl
theorem ou:Sound Tryz.prog 77 Jv:=
 Sound.Gw Dq (Ax Zc (Ax rK Bn)) mixed Tryz.func77 (by kernel_rfl) (by kernel_rfl) λx h=>wc x.1 x.2.1 h
theorem wm (p:PP) (t:List Int) (h:Eo p/\short t):fnW Fu (look [(63,Il),(137,Ku)]) Jv Tryz.f86 (p,t,()) (λ(z:Bool)=>z=Em p t):=by
 refine Eq.mp (wY p t _) ⟨_,Ab h.1,⟨λhv=>?_,λhv=>?_⟩⟩
 ·have hv:Bt p=true:=hv
  have hn:=(valid hv).n
  refine ⟨_,Ab ⟨⟨by show 0<=p.1;omega,by show p.1<=4294967296;omega⟩,h.2⟩,?_⟩
  unfold Em;rw [hv];rfl
 ·have hv:Bt p=false:=hv
  unfold Em;rw [hv];rfl
theorem oz:Sound Tryz.prog 86 Jv:=
 Sound.Gw Dq (Ax Ze (Ax ov Bn)) mixed Tryz.func86 (by kernel_rfl) (by kernel_rfl) λx h=>wm x.1 x.2.1 h
theorem GN (p:PP) (t:List Int) (h:Eo p/\short t):fnW Fu (look [(86,Jv),(126,Gx)]) Vr Tryz.f67 (p,t,()) (λ(z:SS×Bool×Unit)=>z=(Qd p t,Gm p t,())):=by
 refine Eq.mp (IK p t _) ⟨_,Ab h,⟨λhn=>?_,λhn=>?_⟩⟩
 ·have hn:=Hj hn
  have e:Gm p t=false:=Lt.2 λhh=>hn (eJ.1 hh).1
  unfold Qd
  rw [Ai hn,e]
  rfl
 ·have hn:Em p t=true:=Hk hn
  have e:Gm p t=(Gq p.2.2.1 t).2.2:=by unfold Gm;rw [hn,Nr]
  refine ⟨_,Ab ⟨(Su.1 hn).1,(Hg hn).1,(Hg hn).2⟩,?_⟩
  have key:(((Gr p.2.2.1 t).1,(Gr p.2.2.1 t).2.1,(Gr p.2.2.1 t).2.2.1,(Gr p.2.2.1 t).2.2.2.1,()),(Gr p.2.2.1 t).2.2.2.1,())=(Qd p t,Gm p t,()):=by
   unfold Qd
   rw [Ab hn,e]
   rfl
  exact ⟨⟨⟨key,key⟩,key⟩,⟨key,key⟩,key⟩
theorem rP:Sound Tryz.prog 67 Vr:=
 Sound.Gw Dq (Ax oz (Ax qO Bn)) mixed Tryz.func67 (by kernel_rfl) (by kernel_rfl) λx h=>GN x.1 x.2.1 h
theorem GC (l:List (List Int)) (h:Pb l):fnW Fu (look [(68,Iu)]) Sr Tryz.f69 (l,()) (λ(z:List (List Int))=>z=l):=by
 obtain ⟨h1,h2⟩:=h
 refine Eq.mp (IA l _) ⟨rfl,rfl,?_⟩
 refine Bu l.length (λv=>v.1) (λj v=>v.2.1=l.take j) rfl (by simp) ?_
 rintro j ⟨i,ys,⟨⟩⟩ K hj hi hR hK
 dsimp only at hi hR⊢
 subst hi hR
 refine Br.dec (λhl=>?_) λhl=>?_
 ·have hl:j<l.length:=by omega
  refine ⟨_,Cf hl,_,Ab (h2 _ (Ak hl)),rfl,rfl,?_,rfl,rfl,?_⟩
  ·show (List.take j l).length+1<=4294967296
   rw [Dj];omega
  ·rw [Bv (by omega)]
   refine hK hl _ rfl ?_
   show List.take j l++ [l[j]]=_
   rw [Hb,Ac hl];rfl
 ·have:j=l.length:=by omega
  subst this
  rw [Cc,Bd]
theorem rE:Sound Tryz.prog 69 Sr:=
 Sound.Gw Dq (Ax Wy Bn) mixed Tryz.func69 (by kernel_rfl) (by kernel_rfl) λx h=>GC x.1 h
theorem GP (p:PP) (t:List Int) (h:Eo p/\short t):fnW Fu (look [(67,Vr),(68,Iu),(69,Sr)]) Ew Tryz.f24 (p,t,()) (λ(z:TT×Bool×Unit)=>z=(Gc p t,Gm p t,())):=by
 refine Eq.mp (IM p t _) ⟨_,Ab h,⟨λhn=>?_,λhn=>?_⟩⟩
 ·have hn:=Hj hn
  have hn: ¬Gm p t=true:=hn
  unfold Gc
  rw [Ai hn,Lt.2 hn]
  rfl
 ·have hn:Gm p t=true:=Hk hn
  obtain ⟨h1,h2⟩:=eJ.1 hn
  have h3:=xa (mJ h1)
  have e:Qd p t=Gr p.2.2.1 t:=Ab h1
  refine ⟨_,Ab h.2,?_⟩
  show ∃y5:List (List Int),Sr.fn ((Qd p t).1,())=some y5/\ ∃y6:List Int,Iu.fn ((Qd p t).2.1,())=some y6/\((t,y5,y6,()),true,())=(Gc p t,Gm p t,())
  rw [e]
  refine ⟨_,Ab h3.1,_,Ab h3.2,?_⟩
  unfold Gc
  rw [Ab hn,hn]
  rfl
theorem rR:Sound Tryz.prog 24 Ew:=
 Sound.Gw Dq (Ax rP (Ax Wy (Ax rE Bn))) mixed Tryz.func24 (by kernel_rfl) (by kernel_rfl) λx h=>GP x.1 x.2.1 h
def oT (m:ByteArray->Option Bool) (L:List (List Int)):Prop:= ∀q,gM q->(m (Xq q)).getD false=decide (q∈L)
theorem oT.add {m:ByteArray->Option Bool} {L:List (List Int)} {y:List Int} (h:oT m L) (hy:gM y):oT (jZ m (Xq y) true) (L++ [y]):=by
 intro q hq
 unfold jZ
 by_cases e:q=y
 ·subst e
  rw [Ab rfl];simp
 ·rw [Ai λhk=>e (key_inj hq hy hk),h q hq]
  simp [e]
theorem MB (n:Int) (str:ByteArray) (g:List (List Int)) (t:List Int) (h:Em (n,str,g,()) t=true):
  fnMW (pU [Ok+10]) (look [(138,ck),(121,Lf),(139,Mv),(135,Ii),(79,bB)]) Yx Tryz.f88 (n,str,g,t,()) (λ(z:(List (List Int)×List Int×Bool×Unit)×Unit)=>z=(((Gc (n,str,g,()) t).2.1,(Gc (n,str,g,()) t).2.2.1,Gm (n,str,g,()) t,()),())):=by
 obtain ⟨hv,_⟩:=Su.1 h
 obtain ⟨ht,hr⟩:=Hg h
 have hV:=valid hv
 have mq:=hV.fG
 have hn:=hV.n
 dsimp only at mq hn hr
 have hb0:=kq (p:=(n,str,g,())) ht hr
 have IY:short t:=by unfold short;omega
 obtain ⟨ls,vQ⟩: ∃ls,Av g.length=ls:=⟨_,rfl⟩
 have YM:ls.length<=16:=by rw [<-vQ,Lj];omega
 have rm: ∀l∈ls,Fo (List.length g) l:= λl hl=>Kt (vQ▸hl)
 have KP:Ks g ls 3001 0 [t] [0]=Gq g t:=by unfold Gq;rw [vQ]
 have Afs: ∀x:List Int,(∀y∈x,0<=y/\y<n)->gM x:= λx hx y hy=>by have:=hx y hy;omega
 have Als: ∀L D ok,Gq g t=(L,D,ok)->(if ok=true then ((L,D,true,()),()) else ((([]:List (List Int)),([]:List Int),false,()),()))=(((Gc (n,str,g,()) t).2.1,(Gc (n,str,g,()) t).2.2.1,Gm (n,str,g,()) t,()),()):=by
  intro L D ok he
  have e1:Gm (n,str,g,()) t=ok:=by unfold Gm;rw [h,Nr];show (Gq g t).2.2=ok;rw [he]
  unfold Gc
  rw [e1]
  cases ok with
  |true=>rw [Ab rfl,Ab rfl];show ((L,D,true,()),())=(((Gq g t).1,(Gq g t).2.1,true,()),());rw [he]
  |false=>rw [Ai (by decide),Ai (by decide)]
 refine Eq.mp (OJ n str g t _) ⟨_,Ab IY,_,Ab IY,ls,(Ab ⟨by show (0:Int)<=((g.length:Nat):Int);omega,by show ((g.length:Nat):Int)<=8;omega⟩).trans (Ga some (by show Av (((g.length:Nat):Int)).toNat=ls;rw [Au];exact vQ)),rfl,rfl,rfl,rfl,rfl,rfl,?_⟩
 rw [Cc]
 refine Bu ls.length (λv=>v.1) (λj v=>v.2.1=n/\v.2.2.1=str/\v.2.2.2.1=g/\v.2.2.2.2.1=(ls.take j).map (An g)/\v.2.2.2.2.2.1= [t]/\v.2.2.2.2.2.2.1= [0]/\oT v.2.2.2.2.2.2.2.1 [t]) rfl
  ⟨rfl,rfl,rfl,by simp,rfl,rfl,λq hq=>?_⟩ ?_
 ·show (jZ (λ_=>none) (Xq t) true (Xq q)).getD false=_
  unfold jZ
  by_cases e:q=t
  ·subst e;rw [Ab rfl];simp
  ·rw [Ai λhk=>e (key_inj hq (Afs t hr) hk)];simp [e]
 rintro j ⟨i,n',Aoe,g',mv,L1,D1,m1,⟨⟩⟩ K hj hi ⟨h1,h2,h3,h4,h5,h6,h7⟩ hK
 dsimp only at hi h1 h2 h3 h4 h5 h6 h7⊢
 subst hi h1 h2 h3 h4 h5 h6
 refine Br.dec (λhl=>?_) λhl=>⟨rfl,rfl,rfl,rfl,rfl,rfl,?_⟩
 ·have hl:j<ls.length:=by omega
  have mu:=rm _ (Ak hl)
  refine ⟨_,Cf hl,_,Ab ⟨mu,mq.2,hV.perm⟩,rfl,rfl,?_,rfl,rfl,rfl,rfl,rfl,rfl,?_⟩
  ·show (List.map (An g') (List.take j ls)).length+1<=4294967296
   rw [Gf,Dj];omega
  ·rw [Bv (by omega)]
   refine hK hl _ rfl ⟨rfl,rfl,rfl,?_,rfl,rfl,h7⟩
   show List.map (An g') (List.take j ls)++ [An g' ls[j]]=_
   rw [Hb,Ac hl,Mk];rfl
 ·have:j=ls.length:=by omega
  subst this
  rw [Bd]
  obtain ⟨ms,PZ⟩: ∃ms,ls.map (An g')=ms:=⟨_,rfl⟩
  have Axg:ms.length=ls.length:=by rw [<-PZ,Gf]
  have Ase: ∀i (h:i<ls.length),ms[i]'(by omega)=An g' ls[i]:= λi h=>by simp only [<-PZ,fg]
  rw [PZ]
  refine Dn.mk (λv=>v.2.1=ms/\ ∃k:Nat,v.1=k/\k<=v.2.2.1.length/\Ve (n',Aoe,g',()) t.length v.2.2.1 v.2.2.2.1/\oT v.2.2.2.2.1 v.2.2.1/\Ks g' ls (3001-k) k v.2.2.1 v.2.2.2.1=Gq g' t) (λv=>3001-v.1.toNat)
   ⟨rfl,0,rfl,by simp,hb0,h7,KP⟩ ?_
  rintro ⟨k',mv,L0,D0,mp,⟨⟩⟩ ⟨h1,k,h5,h6,h7,h8,h9⟩
  dsimp only at h1 h5 h6 h7 h8 h9
  subst h1 h5
  dsimp only
  have hL0:=h7.ok.fG
  have hD0:=h7.len
  refine Br.dec (λhl=>⟨rfl,rfl,rfl,rfl,rfl,rfl,rfl,rfl,?_⟩) λhl=>?_
  ·have hk:k<L0.length:=by omega
   have SN:k<D0.length:=by omega
   have hx: ∀y∈L0[k],0<=y/\y<n':=h7.row _ (Ak hk)
   have vU:L0[k].length=t.length:=h7.ok.len _ (Ak hk)
   have hdk:=h7.dep k SN
   obtain ⟨f,hf⟩: ∃f,3001-k=f+1:=⟨3000-k,by omega⟩
   have hgo: ∀L' D' ok,Jh g' L0[k] D0[k] ls L0 D0=(L',D',ok)->Gq g' t=if ok=true then Ks g' ls f (k+1) L' D' else (L',D',false):=by
    intro L' D' ok he
    rw [<-h9,hf,Ks,Ab hk,Wj hk,Aj,Ac SN]
    simp only [Dd]
    rw [he]
    cases ok<;>rfl
   refine Dn.mk (λv=>v.2.1=mv/\ ∃i:Nat,v.1=i/\i<=ls.length/\Ve (n',Aoe,g',()) t.length v.2.2.1 v.2.2.2.1/\oT v.2.2.2.2.1 v.2.2.1/\(∃A,v.2.2.1=L0++A)/\(∃A,v.2.2.2.1=D0++A)/\
     Jh g' L0[k] D0[k] (ls.drop i) v.2.2.1 v.2.2.2.1=Jh g' L0[k] D0[k] ls L0 D0) (λv=>ls.length-v.1.toNat)
    ⟨rfl,0,rfl,Kd _,h7,h8,⟨[],by simp⟩,⟨[],by simp⟩,rfl⟩ ?_
   rintro ⟨i',mv',L,D,mp2,⟨⟩⟩ ⟨g1,i,g5,g6,g7,g8,⟨A,g9⟩,⟨A',g10⟩,ri⟩
   dsimp only at g1 g5 g6 g7 g8 g9 g10 ri
   subst g1 g5
   dsimp only
   have hLf:=g7.ok.fG
   have hDl:=g7.len
   refine Br.dec (λhli=>?_) λhli=>?_
   ·have hi:i<ls.length:=by omega
    have hkL:k<L.length:=by rw [g9,As];omega
    have hLk:L[k]=L0[k]:=by simp only [g9];exact Px hk
    have Ai0:k<D.length:=by rw [hDl];exact hkL
    have hDk:D[k]=D0[k]:=by simp only [g10];exact Px SN
    have mu:=rm _ (Ak hi)
    obtain ⟨nl,nr⟩:=sf hV hx mu
    dsimp only at nl nr
    have EK:=kC hV mu
    dsimp only at EK
    rw [Gg hi] at ri
    simp only [Jh] at ri
    have hyb:=Afs _ nr
    refine ⟨⟨by omega,by omega⟩,An g' ls[i],by rw [Au,Ce,Ac (by omega),Ase i hi],⟨by omega,by omega⟩,L0[k],by rw [Au,Ce,Ac hkL,hLk],
     _,Ab ⟨by show short L0[k];unfold short;omega,by show Of (An g' ls[i]).length L0[k];intro y hy;have:=hx y hy;omega⟩,?_⟩
    dsimp only
    rw [show Eg (An g' ls[i]) L0[k]=Ag L0[k] (An g' ls[i]) from rfl,Cc]
    generalize hyv:Ag L0[k] (An g' ls[i])=yv at*
    refine ⟨_,Ab (by show short yv;unfold short;rw [nl];omega),?_⟩
    dsimp only
    rw [g8 _ hyb]
    refine ⟨λiu=>?_,λiu=>⟨rfl,rfl,rfl,rfl,rfl,rfl,rfl,rfl,?_⟩⟩
    ·have iu:yv∉L:=by simpa using iu
     rw [Ai iu] at ri
     refine ⟨λZx=>?_,λZx=>⟨rfl,rfl,by show L.length+1<=4294967296;omega,⟨by omega,by omega⟩,D0[k],by rw [Au,Ce,Ac Ai0,hDk],rfl,rfl,by show D.length+1<=4294967296;omega,rfl,rfl,rfl,rfl,rfl,rfl,rfl,rfl,?_⟩⟩
     ·have Zx:L.length=3000:=by
       have:(L.length:Int)=3000:=by simpa using Zx
       omega
      rw [Ab Zx] at ri
      have:=hgo _ _ _ ri.symm
      rw [Ai (by decide)] at this
      have:=Als _ _ _ this
      rw [Ai (by decide)] at this
      exact this
     ·have Zx:L.length≠3000:=by
       have:(L.length:Int)≠3000:=by simpa using Zx
       omega
      rw [Ai Zx] at ri
      rw [Cn (n:=D0[k]+1) (by omega) (by omega),Bv (by omega)]
      refine ⟨⟨rfl,i+1,rfl,hi,g7.add iu (by rw [nl,vU]) (by omega) nr ⟨by omega,by omega⟩,g8.add hyb,⟨A++ [yv],by rw [g9,Cv];rfl⟩,⟨A'++ [D0[k]+1],by rw [g10,Cv];rfl⟩,ri⟩,by omega⟩
    ·have iu:yv∈L:=by simpa using iu
     rw [Ab iu] at ri
     rw [Bv (by omega)]
     exact ⟨⟨rfl,i+1,rfl,hi,g7,g8,⟨A,g9⟩,⟨A',g10⟩,ri⟩,by omega⟩
   ·have:i=ls.length:=by omega
    subst this
    rw [Zh,Jh] at ri
    have:=hgo _ _ _ ri.symm
    rw [Ab rfl] at this
    rw [Bv (by omega)]
    refine ⟨rfl,rfl,rfl,rfl,rfl,rfl,⟨rfl,k+1,rfl,by rw [g9,As];omega,g7,g8,?_⟩,by omega⟩
    rw [show 3001-(k+1)=f by omega]
    exact this.symm
  ·have hk:k=L0.length:=by omega
   rw [Cc L0,Cc D0]
   obtain ⟨f,hf⟩: ∃f,3001-k=f+1:=⟨3000-k,by omega⟩
   rw [hf,Ks,Ai (by omega)] at h9
   have:=Als _ _ _ h9.symm
   rw [Ab rfl] at this
   exact this
theorem uN:Cp Tryz.prog 88 Yx:=
 Cp.mW (pV [Ok+10]) (Gb om (Ax cq (Ax lI (Ax jS (Gb wD Bn))))) mixed Tryz.func88 (by kernel_rfl) (by kernel_rfl) λx h=>MB x.1 x.2.1 x.2.2.1 x.2.2.2.1 h
theorem sL {p:PP} {t:List Int} (h: ¬Gm p t=true):Gc p t=([],[],[],()):=Ai h
theorem MD (n:Int) (str:ByteArray) (g:List (List Int)) (t:List Int) (h:Eo (n,str,g,())/\short t):
  fnMW Tr (look [(77,Jv),(88,Yx)]) Yz Tryz.f90 (n,str,g,t,()) (λ(z:(List (List Int)×List Int×Bool×Unit)×Unit)=>z=(((Gc (n,str,g,()) t).2.1,(Gc (n,str,g,()) t).2.2.1,Gm (n,str,g,()) t,()),())):=by
 refine Eq.mp (OM n str g t _) ⟨_,Ab h,⟨λhn=>?_,λhn=>?_⟩⟩
 ·have hn: ¬Em (n,str,g,()) t=true:=Hj hn
  have e: ¬Gm (n,str,g,()) t=true:= λhh=>hn (eJ.1 hh).1
  rw [sL e,Lt.2 e]
  rfl
 ·have hn:Em (n,str,g,()) t=true:=Hk hn
  refine ⟨_,Ab hn,?_⟩
  rw [Cc,Cc]
theorem uP:Cp Tryz.prog 90 Yz:=
 Cp.mW Ss (Ax ou (Gb uN Bn)) mixed Tryz.func90 (by kernel_rfl) (by kernel_rfl) λx h=>MD x.1 x.2.1 x.2.2.1 x.2.2.2.1 h
theorem GG (n:Int) (str:ByteArray) (g:List (List Int)) (t:List Int) (h:Eo (n,str,g,())/\short t):
  fnMW Tr (look [(90,Yz),(138,ck)]) Vp Tryz.f160 (n,str,g,t,()) (λ(z:(List Int×List (List Int)×List Int×Bool×Unit)×Unit)=>z=(((Gc (n,str,g,()) t).1,(Gc (n,str,g,()) t).2.1,(Gc (n,str,g,()) t).2.2.1,Gm (n,str,g,()) t,()),())):=by
 refine Eq.mp (ID n str g t _) ⟨_,Ab h,⟨λhn=>?_,λhn=>?_⟩⟩
 ·have e: ¬Gm (n,str,g,()) t=true:=Hj hn
  rw [sL e,Lt.2 e]
  rfl
 ·have e:Gm (n,str,g,()) t=true:=Hk hn
  refine ⟨_,Ab h.2,?_⟩
  rw [Cc,Cc,Cc,e]
  have e2:(Gc (n,str,g,()) t).1=t:=by unfold Gc;rw [Ab e]
  rw [e2]
theorem rH:Cp Tryz.prog 160 Vp:=
 Cp.mW Ss (Gb uP (Gb om Bn)) mixed Tryz.func160 (by kernel_rfl) (by kernel_rfl) λx h=>GG x.1 x.2.1 x.2.2.1 x.2.2.2.1 h
theorem zH (p:PP) (t:TT) (h:Eo p/\aC t):fnW Fu (look [(160,Vp),(161,bw)]) eU Tryz.f120 (p,t,()) (λ(z:Bool)=>z=Gs p t):=by
 refine Eq.mp (BU p t _) ⟨_,Ab ⟨h.1,h.2.1⟩,⟨λhn=>?_,λhn=>?_⟩⟩
 ·have e:Gm p t.1=true:=hn
  rw [Cc,Cc,Cc]
  refine ⟨_,Ab qa,?_⟩
  unfold Gs
  rw [e];rfl
 ·have e:Gm p t.1=false:=hn
  unfold Gs
  rw [e];rfl
theorem pQ:Sound Tryz.prog 120 eU:=
 Sound.Gw Dq (Gb rH (Ax kW Bn)) mixed Tryz.func120 (by kernel_rfl) (by kernel_rfl) λx h=>zH x.1 x.2.1 h
theorem Ao3 (t:TT) (p:PP) (h:aC t/\Eo p):fnW Fu (look [(120,eU)]) ye Tryz.f119 (t,p,()) (λ(z:Bool)=>z=!Gs p t):=by
 exact Eq.mp (Aos t p _) ⟨_,Ab ⟨h.2,h.1⟩,rfl⟩
theorem UY:Sound Tryz.prog 119 ye:=
 Sound.Gw Dq (Ax pQ Bn) mixed Tryz.func119 (by kernel_rfl) (by kernel_rfl) λx h=>Ao3 x.1 x.2.1 h
theorem Aj5 (ts:List TT) (c:PP×Unit) (h:Qr ts/\Eo c.1):fnW Fu (look [(119,ye)]) pJ Tryz.f159 (ts,c,()) (λ(z:Int)=>z=Sl (λt=>!Gs c.1 t) ts 0):=by
 obtain ⟨⟨h1,h2⟩,h3⟩:=h
 refine Eq.mp (Ajt ts c _) ?_
 refine Bu ts.length (λv=>v.1) (λj _=>Sl (λt=>!Gs c.1 t) (ts.drop j) j=Sl (λt=>!Gs c.1 t) ts 0) rfl (by simp) ?_
 rintro j ⟨i,⟨⟩⟩ K hj hi hR hK
 dsimp only at hi⊢
 subst hi
 refine Br.dec (λhl=>?_) λhl=>?_
 ·have hl:j<ts.length:=by omega
  rw [Gg hl] at hR
  simp only [Sl] at hR
  refine ⟨_,Cf hl,_,Ab ⟨h2 _ (Ak hl),h3⟩,⟨λhe=>?_,λhe=>?_⟩⟩
  ·have he:(!Gs c.1 ts[j])=true:=he
   rw [Ab he] at hR
   exact hR
  ·have he:(!Gs c.1 ts[j])=false:=he
   rw [Ai (by rw [he];decide)] at hR
   rw [Bv (by omega)]
   exact hK hl _ rfl (by push_cast;exact hR)
 ·have:j=ts.length:=by omega
  subst this
  rw [Zh] at hR
  exact hR
theorem NJ:Sound Tryz.prog 159 pJ:=
 Sound.Gw Dq (Ax UY Bn) mixed Tryz.func159 (by kernel_rfl) (by kernel_rfl) λx h=>Aj5 x.1 x.2.1 h
theorem tE (q:TT->Bool): ∀(ts:List TT) (k:Int),0<=k->decide (Sl q ts k>=0)=ts.any q
 | [],k,_=>by simp [Sl]
 |t::ts,k,hk=>by
  have ih:=tE q ts (k+1) (by omega)
  rw [List.any_cons]
  by_cases e:q t=true
  ·have e2:Sl q (t::ts) k=k:=Ab e
   rw [e]
   exact Co (by rw [e2];exact hk)
  ·have e2:Sl q (t::ts) k=Sl q ts (k+1):=Ai e
   rw [Lt.2 e,Xh,<-ih]
   exact decide_eq_decide.2 (by rw [e2])
theorem Aj2 (ts:List TT) (c:PP×Unit) (h:Qr ts/\Eo c.1):fnW Fu (look [(159,pJ)]) pG Tryz.f118 (ts,c,()) (λ(z:Bool)=>z=List.any ts (λt=>!Gs c.1 t)):=by
 exact Eq.mp (Ajq ts c _) ⟨_,Ab h,tE _ ts 0 (Kc 0)⟩
theorem NG:Sound Tryz.prog 118 pG:=
 Sound.Gw Dq (Ax NJ Bn) mixed Tryz.func118 (by kernel_rfl) (by kernel_rfl) λx h=>Aj2 x.1 x.2.1 h
theorem CP (q:TT->Bool) (ts:List TT):(!List.any ts λt=>!q t)=List.all ts q:=by
 induction ts with
 |nil=>rfl
 |cons t ts ih=>simp only [List.any_cons,Jf,<-ih];cases q t<;>simp
theorem ue (p:PP) (ts:List TT) (h:Eo p/\Qr ts):fnW Fu (look [(99,Il),(118,pG)]) Zb Tryz.f60 (p,ts,()) (λ(z:Bool)=>z=Gj p ts):=by
 refine Eq.mp (vo p ts _) ⟨_,Ab h.1,⟨λhv=>Br.dec (λhl=>⟨_,Ab ⟨h.2,h.1⟩,?_⟩) λhl=>?_,λhv=>?_⟩⟩
 ·have hv:Bt p=true:=hv
  have hl:ts.length<=4:=by omega
  show (!List.any ts λt=>!Gs p t)=_
  rw [CP]
  unfold Gj
  rw [hv,Co hl];rfl
 ·unfold Gj
  rw [Ep (by omega),Bool.and_false];rfl
 ·have hv:Bt p=false:=hv
  unfold Gj
  rw [hv];rfl
theorem mQ:Sound Tryz.prog 60 Zb:=
 Sound.Gw Dq (Ax Zc (Ax NG Bn)) mixed Tryz.func60 (by kernel_rfl) (by kernel_rfl) λx h=>ue x.1 x.2.1 h
theorem TI {a b:TT} :lD a b=true↔a=b:=by
 obtain ⟨a1,a2,a3,⟨⟩⟩:=a
 obtain ⟨b1,b2,b3,⟨⟩⟩:=b
 simp [lD]
end Go.Proofs.YtkkdpknjohcekaaGreat
