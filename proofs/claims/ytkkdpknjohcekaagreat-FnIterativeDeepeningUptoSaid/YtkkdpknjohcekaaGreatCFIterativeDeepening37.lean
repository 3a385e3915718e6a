/-
  Part 38 of the proof that the statement FnIterativeDeepening holds.
-/
import Derived.Test.YtkkdpknjohcekaaGreatCFIterativeDeepening36
import Derived.KernelRfl
namespace Go.Proofs.YtkkdpknjohcekaaGreat
open Go.RowKit
def Pl (x a b:Int):Bool:=decide (a<=x/\x<=b)
def jY (n x:Int):Bool:=decide (0<=x/\x<=IntKind.i64.wrap (n-1))
def Gv (a b:List Int):Bool:=decide (a=b)
def l5 (xs:List Int) (x:Int):Bool:=decide (x∈xs)
def short (xs:List Int):Prop:=xs.length<=4294967296
noncomputable abbrev Cr:Spec:=Hj (.pair tI (.pair tI (.pair tI .unit))) .bool false true (λ_=>True) (λx=>Pl x.1 x.2.1 x.2.2.1)
noncomputable abbrev bo:Spec:=Hj (.pair tI (.pair tI .unit)) .bool false true (λ_=>True) (λx=>jY x.1 x.2.1)
noncomputable abbrev Ew:Spec:=Hj (.pair tL (.pair tL .unit)) .bool false true (λx=>short x.1) (λx=>Gv x.1 x.2.1)
noncomputable abbrev Re:Spec:=Hj (.pair tL (.pair tI .unit)) .bool false true (λx=>short x.1) (λx=>l5 x.1 x.2.1)
theorem VI (x a b:Int) (P:Bool->Prop):(Br (decide (x>=a)) (P (decide (x<=b))) (P false))=fnW Gr (look []) Cr Tryz.f95 (x,a,b,()) P:=by kernel_rfl
theorem Ac1 (x a b:Int) (P:Bool->Prop):(Br (decide (x>=a)) (P (decide (x<=b))) (P false))=fnW Gr (look []) Cr Tryz.f100 (x,a,b,()) P:=by kernel_rfl
theorem VL (n x:Int) (P:Bool->Prop):(∃(y3:Bool),Cr.fn (x,0,IntKind.i64.wrap (n-1),())=some y3/\P y3)=fnW Gr (look [(100,Cr)]) bo Tryz.f136 (n,x,()) P:=by kernel_rfl
theorem HJ (a b:List Int) (P:Bool->Prop):(Br ((↑a.length:Int) !=(↑b.length:Int)) (P false) (Di (λ(v3:Int×PUnit) (k4:Int×PUnit->Prop)=>Br (decide (v3.1<(↑a.length:Int))) (∃(y5:Int),idx a v3.1=some y5/\ ∃(y6:Int),idx b v3.1=some y6/\Br (y5 !=y6) (P false) (k4 (IntKind.i64.wrap (v3.1+1),()))) (P true)) (0,PUnit.unit)))=fnW Gr (look []) Ew Tryz.f128 (a,b,()) P:=by kernel_rfl
theorem wL (a b:List Int) (P:Bool->Prop):(Br ((↑a.length:Int) !=(↑b.length:Int)) (P false) (Di (λ(v3:Int×PUnit) (k4:Int×PUnit->Prop)=>Br (decide (v3.1<(↑a.length:Int))) (∃(y5:Int),idx a v3.1=some y5/\ ∃(y6:Int),idx b v3.1=some y6/\Br (y5 !=y6) (P false) (k4 (IntKind.i64.wrap (v3.1+1),()))) (P true)) (0,PUnit.unit)))=fnW Gr (look []) Ew Tryz.f93 (a,b,()) P:=by kernel_rfl
theorem wF (xs:List Int) (x:Int) (P:Bool->Prop):(Di (λ(v3:Int×PUnit) (k4:Int×PUnit->Prop)=>Br (decide (v3.1<(↑xs.length:Int))) (∃(y5:Int),idx xs v3.1=some y5/\Br (y5==x) (P true) (k4 (IntKind.i64.wrap (v3.1+1),()))) (P false)) (0,PUnit.unit))=fnW Gr (look []) Re Tryz.f175 (xs,x,()) P:=by kernel_rfl
theorem TH (x a b:Int) (_:True):fnW Gr (look []) Cr Tryz.f95 (x,a,b,()) (λ(z:Bool)=>z=Pl x a b):=by
 refine Eq.mp (VI x a b _) ?_
 refine Br.dec (λh=>?_) λh=>?_
 ·have h:a<=x:=h
  simp [Pl,h]
 ·exact (Ez λhh=>h hh.1).symm
theorem Rh:Sound Tryz.prog 95 Cr:=
 Sound.Hj Ee Bo mixed Tryz.func95 (by kernel_rfl) (by kernel_rfl) λx h=>TH x.1 x.2.1 x.2.2.1 h
theorem Aaa (x a b:Int) (_:True):fnW Gr (look []) Cr Tryz.f100 (x,a,b,()) (λ(z:Bool)=>z=Pl x a b):=by
 refine Eq.mp (Ac1 x a b _) ?_
 refine Br.dec (λh=>?_) λh=>?_
 ·have h:a<=x:=h
  simp [Pl,h]
 ·exact (Ez λhh=>h hh.1).symm
theorem Wz:Sound Tryz.prog 100 Cr:=
 Sound.Hj Ee Bo mixed Tryz.func100 (by kernel_rfl) (by kernel_rfl) λx h=>Aaa x.1 x.2.1 x.2.2.1 h
theorem TK (n x:Int) (_:True):fnW Gr (look [(100,Cr)]) bo Tryz.f136 (n,x,()) (λ(z:Bool)=>z=jY n x):=
 Eq.mp (VL n x _) ⟨_,Ab trivial,rfl⟩
theorem wm:Sound Tryz.prog 136 bo:=
 Sound.Hj Ee (Ba Wz Bo) mixed Tryz.func136 (by kernel_rfl) (by kernel_rfl) λx h=>TK x.1 x.2.1 h
theorem vU (xs:List Int) (x:Int) (h:short xs):fnW Gr (look []) Re Tryz.f175 (xs,x,()) (λ(z:Bool)=>z=l5 xs x):=by
 refine Eq.mp (wF xs x _) ?_
 unfold short at h
 refine Bw xs.length (λv=>v.1) (λj _=>x∉xs.take j) rfl (by simp) ?_
 rintro j ⟨i,⟨⟩⟩ K hj hi hR hK
 dsimp only at hi⊢
 subst hi
 refine Br.dec (λhl=>?_) λhl=>?_
 ·have hl:j<xs.length:=by omega
  refine ⟨_,Cj hl,⟨λhe=>?_,λhe=>?_⟩⟩
  ·have hm:=Al hl
   simp only [beq_iff_eq] at he
   rw [he] at hm
   exact (Cy hm).symm
  ·rw [Bz (by omega)]
   refine hK hl _ rfl ?_
   simp only [Rw,ne_eq] at he
   rw [Cu hl]
   simp only [Ay,Ad,not_or]
   exact ⟨hR,λhx=>he hx.symm⟩
 ·have:j=xs.length:=by omega
  subst this
  rw [Bc] at hR
  exact (Ez hR).symm
theorem o4:Sound Tryz.prog 175 Re:=
 Sound.Hj Ee Bo mixed Tryz.func175 (by kernel_rfl) (by kernel_rfl) λx h=>vU x.1 x.2.1 h
theorem yz (a b:List Int) (hlen:a.length=b.length) (h:short a):
  Di (λ(v3:Int×PUnit) (k4:Int×PUnit->Prop)=>
   Br (decide (v3.1<(↑a.length:Int))) (∃(y5:Int),idx a v3.1=some y5/\ ∃(y6:Int),idx b v3.1=some y6/\Br (y5 !=y6) (false=Gv a b) (k4 (IntKind.i64.wrap (v3.1+1),())))
    (true=Gv a b))
  (0,PUnit.unit):=by
 unfold short at h
 refine Bw a.length (λv=>v.1) (λj _=>a.take j=b.take j) rfl (by simp) ?_
 rintro j ⟨i,⟨⟩⟩ K hj hi hR hK
 dsimp only at hi⊢
 subst hi
 refine Br.dec (λhl=>?_) λhl=>?_
 ·have oD:j<a.length:=by omega
  have JP:j<b.length:=by omega
  refine ⟨_,Cj oD,_,Cj JP,⟨λhe=>?_,λhe=>?_⟩⟩
  ·simp only [bne_iff_ne,ne_eq] at he
   refine (Ez λkQ=>he ?_).symm
   subst kQ
   rfl
  ·rw [Bz (by omega)]
   refine hK oD _ rfl ?_
   simp only [Rx] at he
   rw [Cu oD,Cu JP,hR,he]
 ·have DQ:j=a.length:=by omega
  subst DQ
  rw [Bc,hlen,Bc] at hR
  exact (Cy hR).symm
theorem FM (a b:List Int) (h:short a):fnW Gr (look []) Ew Tryz.f128 (a,b,()) (λ(z:Bool)=>z=Gv a b):=by
 refine Eq.mp (HJ a b _) ⟨λhl=>?_,λhl=>?_⟩
 ·simp only [bne_iff_ne,ne_eq,Jy] at hl
  exact (Ez λkQ=>hl (by rw [kQ])).symm
 ·simp only [Rx,Jy] at hl
  exact yz a b hl h
theorem rv:Sound Tryz.prog 128 Ew:=
 Sound.Hj Ee Bo mixed Tryz.func128 (by kernel_rfl) (by kernel_rfl) λx h=>FM x.1 x.2.1 h
theorem w5 (a b:List Int) (h:short a):fnW Gr (look []) Ew Tryz.f93 (a,b,()) (λ(z:Bool)=>z=Gv a b):=by
 refine Eq.mp (wL a b _) ⟨λhl=>?_,λhl=>?_⟩
 ·simp only [bne_iff_ne,ne_eq,Jy] at hl
  exact (Ez λkQ=>hl (by rw [kQ])).symm
 ·simp only [Rx,Jy] at hl
  exact yz a b hl h
theorem cW:Sound Tryz.prog 93 Ew:=
 Sound.Hj Ee Bo mixed Tryz.func93 (by kernel_rfl) (by kernel_rfl) λx h=>w5 x.1 x.2.1 h
abbrev TT:Type:=List Int×List (List Int)×List Int×Unit
def Oz (xs:List (List Int)):Prop:=xs.length<=4294967296/\ ∀r∈xs,short r
def ay (t:TT):Prop:=short t.1/\Oz t.2.1/\short t.2.2.1
def j4 (a b:List (List Int)):Bool:=decide (a=b)
def l6 (a b:TT):Bool:=decide (a.1=b.1)&&(decide (a.2.1=b.2.1)&&decide (a.2.2.1=b.2.2.1))
noncomputable abbrev pC:Spec:=Hj (.pair kB (.pair kB .unit)) .bool false true (λx=>Oz x.1) (λx=>j4 x.1 x.2.1)
noncomputable abbrev bm:Spec:=Hj (.pair cg (.pair cg .unit)) .bool false true (λx=>ay x.1) (λx=>l6 x.1 x.2.1)
theorem dD {α:Type} {ys xs:List α} {j:Nat} (h:j<xs.length) (hl:ys.length=xs.length) (ht:ys.take j=xs.take j):(ys.set j xs[j]).take (j+1)=xs.take (j+1):=by
 have h1:j<(ys.set j xs[j]).length:=by rw [Dg];omega
 rw [Cu h1,Cu h,List.getElem_set_self,List.take_set_of_le (Ap j),ht]
def PL (n:Int) (xs:List Int) (k:Nat):Prop:= ∀j (h:j<xs.length),j<k->0<=xs[j]/\xs[j]<=n-1/\(0<j->xs[j-1]<xs[j])
def DL (n:Int) (xs:List Int) (k:Nat):Prop:= ∀j (h:j<xs.length),j<k->0<=xs[j]/\xs[j]<=n-1/\xs[j]∉xs.take j
noncomputable def dec (p:Prop):Bool:= @decide p (Classical.propDecidable p)
theorem Pd {p:Prop} (h:p):true=dec p:=(@Cy p (Classical.propDecidable p) h).symm
theorem Dh {p:Prop} (h: ¬p):false=dec p:=(@Ez p (Classical.propDecidable p) h).symm
theorem Is {p:Prop} :dec p=true↔p:= @Kx p (Classical.propDecidable p)
theorem Acu {p:Prop} :dec p=false↔ ¬p:= @decide_eq_false_iff_not p (Classical.propDecidable p)
def nOK (n:Int):Prop:=0<=n/\n<=4294967296
noncomputable def Qa (n:Int) (xs:List Int):Bool:=dec (0<xs.length/\PL n xs xs.length)
noncomputable abbrev Kt:Spec:=Hj (.pair tI (.pair tL .unit)) .bool false true (λx=>nOK x.1/\short x.2.1) (λx=>Qa x.1 x.2.1)
theorem wK (n:Int) (xs:List Int) (P:Bool->Prop):(∃(y3:Bool),Cr.fn ((↑xs.length:Int),(1:Int),n,())=some y3/\Br (!y3) (P false) (Di (λ(v4:Int×PUnit) (k5:Int×PUnit->Prop)=>Br (decide (v4.1<(↑xs.length:Int))) (∃(y6:Int),idx xs v4.1=some y6/\ ∃(y7:Bool),Cr.fn (y6,(0:Int),IntKind.i64.wrap (n-(1:Int)),())=some y7/\Br (!y7) (P false) (Br (decide (v4.1>(0:Int))) (∃(y8:Int),idx xs v4.1=some y8/\ ∃(y9:Int),idx xs (IntKind.i64.wrap (v4.1-(1:Int)))=some y9/\Br (decide (y8<=y9)) (P false) (k5 (IntKind.i64.wrap (v4.1+(1:Int)),()))) (k5 (IntKind.i64.wrap (v4.1+(1:Int)),())))) (P true)) ((0:Int),PUnit.unit)))=fnW Gr (look [(95,Cr)]) Kt Tryz.f137 (n,xs,()) P:=by kernel_rfl
theorem HN (n:Int) (xs:List Int) (P:Bool->Prop):(Di (λ(v3:Int×PUnit) (k4:Int×PUnit->Prop)=>Br (decide (v3.1<(↑xs.length:Int))) (∃(y5:Int),idx xs v3.1=some y5/\ ∃(y6:Bool),bo.fn (n,y5,())=some y6/\Br (!y6) (P false) (Br (decide (v3.1>(0:Int))) (∃(y7:Int),idx xs (IntKind.i64.wrap (v3.1-(1:Int)))=some y7/\Br (decide (y7>=y5)) (P false) (k4 (IntKind.i64.wrap (v3.1+(1:Int)),()))) (k4 (IntKind.i64.wrap (v3.1+(1:Int)),())))) (P (decide ((↑xs.length:Int)>(0:Int))))) ((0:Int),PUnit.unit))=fnW Gr (look [(136,bo)]) Kt Tryz.f101 (n,xs,()) P:=by kernel_rfl
theorem qp {n x:Int} (hn:nOK n):jY n x=true↔0<=x/\x<=n-1:=by
 unfold jY nOK at*
 rw [Cn (by omega) (by omega),Kx]
theorem Ep {x a b:Int} :Pl x a b=true↔a<=x/\x<=b:=Kx
theorem Hm {b:Bool} (h:(!b)=true): ¬b=true:=by cases b<;>simp_all
theorem Ho {b:Bool} (h:(!b)=false):b=true:=by cases b<;>simp_all
theorem LQ {n:Int} {xs:List Int} (h:PL n xs xs.length): ∀j (hj:j<xs.length),(j:Int)<=xs[j]
 |0,hj=>(h 0 hj hj).1
 |j+1,hj=>by
  have h1:=LQ h j (by omega)
  have h2:=(h (j+1) hj hj).2.2 (by omega)
  simp only [Nat.add_sub_cancel] at h2
  omega
theorem rZ {n:Int} {xs:List Int} {j:Nat} (hl:j<xs.length) (h:PL n xs j) (h1:0<=xs[j]) (h2:xs[j]<=n-1) (h3:0<j->xs[j-1]<xs[j]):PL n xs (j+1):=by
 intro i hi jT
 by_cases e:i=j
 ·subst e;exact ⟨h1,h2,h3⟩
 ·exact h i hi (by omega)
theorem FQ (n:Int) (xs:List Int) (h:nOK n/\short xs):fnW Gr (look [(136,bo)]) Kt Tryz.f101 (n,xs,()) (λ(z:Bool)=>z=Qa n xs):=by
 obtain ⟨hn,h⟩:=h
 unfold short at h
 refine Eq.mp (HN n xs _) ?_
 refine Bw xs.length (λv=>v.1) (λj _=>PL n xs j) rfl (λj _ hj=>absurd hj (He _)) ?_
 rintro j ⟨i,⟨⟩⟩ K hj hi hR hK
 dsimp only at hi⊢
 subst hi
 refine Br.dec (λhl=>?_) λhl=>?_
 ·have hl:j<xs.length:=by omega
  refine ⟨_,Cj hl,_,Ab trivial,⟨λhp=>?_,λhp=>?_⟩⟩
  ·have hp:=Hm hp
   rw [qp hn] at hp
   exact Dh λhh=>hp ⟨(hh.2 j hl hl).1,(hh.2 j hl hl).2.1⟩
  ·have hp:=Ho hp
   rw [qp hn] at hp
   refine Br.dec (λh0=>?_) λh0=>?_
   ·have h0:0<j:=by omega
    rw [Cn (by omega) (by omega),show (j:Int)-1=((j-1:Nat):Int) by omega]
    refine ⟨_,Cj (by omega),Br.dec (λhg=>?_) λhg=>?_⟩
    ·exact Dh λhh=>by have:=(hh.2 j hl hl).2.2 h0;omega
    ·rw [Bz (by omega)]
     exact hK hl _ rfl (rZ hl hR hp.1 hp.2 λ_=>by omega)
   ·have h0:j=0:=by omega
    rw [Bz (by omega)]
    exact hK hl _ rfl (rZ hl hR hp.1 hp.2 λh=>by omega)
 ·have:j=xs.length:=by omega
  subst this
  by_cases h0:0<xs.length
  ·rw [Cy (show (xs.length:Int)>0 by omega)];exact Pd ⟨h0,hR⟩
  ·rw [Ez (show ¬(xs.length:Int)>0 by omega)];exact Dh λhh=>h0 hh.1
theorem rE:Sound Tryz.prog 101 Kt:=
 Sound.Hj Ee (Ba wm Bo) mixed Tryz.func101 (by kernel_rfl) (by kernel_rfl) λx h=>FQ x.1 x.2.1 h
theorem vZ (n:Int) (xs:List Int) (h:nOK n/\short xs):fnW Gr (look [(95,Cr)]) Kt Tryz.f137 (n,xs,()) (λ(z:Bool)=>z=Qa n xs):=by
 obtain ⟨hn,h⟩:=h
 unfold short at h
 refine Eq.mp (wK n xs _) ⟨_,Ab trivial,⟨λhp=>?_,λhp=>?_⟩⟩
 ·have hp:=Hm hp
  rw [Ep] at hp
  dsimp only at hp
  refine Dh λhh=>hp ⟨by omega,?_⟩
  have:=LQ hh.2 (xs.length-1) (by omega)
  have:=(hh.2 (xs.length-1) (by omega) (by omega)).2.1
  omega
 ·have hp:=Ho hp
  rw [Ep] at hp
  dsimp only at hp
  refine Bw xs.length (λv=>v.1) (λj _=>PL n xs j) rfl (λj _ hj=>absurd hj (He _)) ?_
  rintro j ⟨i,⟨⟩⟩ K hj hi hR hK
  dsimp only at hi⊢
  subst hi
  refine Br.dec (λhl=>?_) λhl=>?_
  ·have hl:j<xs.length:=by omega
   refine ⟨_,Cj hl,_,Ab trivial,⟨λhq=>?_,λhq=>?_⟩⟩
   ·have hq:=Hm hq
    unfold nOK at hn
    rw [Ep,Cn (by omega) (by omega)] at hq
    exact Dh λhh=>hq ⟨(hh.2 j hl hl).1,(hh.2 j hl hl).2.1⟩
   ·have hq:=Ho hq
    unfold nOK at hn
    rw [Ep,Cn (by omega) (by omega)] at hq
    refine Br.dec (λh0=>?_) λh0=>?_
    ·have h0:0<j:=by omega
     rw [Cn (by omega) (by omega),show (j:Int)-1=((j-1:Nat):Int) by omega]
     refine ⟨_,Cj hl,_,Cj (by omega),Br.dec (λhg=>?_) λhg=>?_⟩
     ·exact Dh λhh=>by have:=(hh.2 j hl hl).2.2 h0;omega
     ·rw [Bz (by omega)]
      exact hK hl _ rfl (rZ hl hR hq.1 hq.2 λ_=>by omega)
    ·rw [Bz (by omega)]
     exact hK hl _ rfl (rZ hl hR hq.1 hq.2 λh=>by omega)
  ·have:j=xs.length:=by omega
   subst this
   exact Pd ⟨by omega,hR⟩
theorem o7:Sound Tryz.prog 137 Kt:=
 Sound.Hj Ee (Ba Rh Bo) mixed Tryz.func137 (by kernel_rfl) (by kernel_rfl) λx h=>vZ x.1 x.2.1 h
theorem Acx {n:Int} {xs:List Int} {j:Nat} (hl:j<xs.length) (h:DL n xs j) (h1:0<=xs[j]) (h2:xs[j]<=n-1) (h3:xs[j]∉xs.take j):DL n xs (j+1):=by
 intro i hi jT
 by_cases e:i=j
 ·subst e;exact ⟨h1,h2,h3⟩
 ·exact h i hi (by omega)
theorem MJ {xs:List Int} (h:short xs) (j:Nat):short (xs.take j):=by
 unfold short at*
 rw [Dc]
 omega
theorem KN (t:TT):l6 t t=true:=by simp [l6]
noncomputable abbrev Yo:Spec:=Hj (.pair kB (.pair kB (.pair (.clo 184 .unit) .unit))) .bool false true (λx=>Oz x.1) (λx=>j4 x.1 x.2.1)
theorem Ao8 (a b:List Int) (P:Bool->Prop):(∃(y3:Bool),Ew.fn (a,b,())=some y3/\P y3)=fnW Gr (look [(93,Ew)]) Ew Tryz.f184 (a,b,()) P:=by kernel_rfl
theorem NO (a b:List (List Int)) (c:Unit) (P:Bool->Prop):(Br ((↑a.length:Int) !=(↑b.length:Int)) (P false) (Di (λ(v4:Int×PUnit) (k5:Int×PUnit->Prop)=>Br (decide (v4.1<(↑a.length:Int))) (∃(y6:List Int),idx a v4.1=some y6/\ ∃(y7:List Int),idx b v4.1=some y7/\ ∃(y8:Bool),Ew.fn (y6,y7,())=some y8/\Br (!y8) (P false) (k5 (IntKind.i64.wrap (v4.1+(1:Int)),()))) (P true)) ((0:Int),PUnit.unit)))=fnW Gr (look [(184,Ew)]) Yo Tryz.f183 (a,b,c,()) P:=by kernel_rfl
theorem rM (a b:List (List Int)) (P:Bool->Prop):(∃(y3:Bool),Yo.fn (a,b,(),())=some y3/\P y3)=fnW Gr (look [(183,Yo)]) pC Tryz.f177 (a,b,()) P:=by kernel_rfl
theorem rK (a b:List Int×List (List Int)×List Int×Unit) (P:Bool->Prop):(∃(y3:Bool),Ew.fn (a.1,b.1,())=some y3/\Br y3 (∃(y4:Bool),pC.fn (a.2.1,b.2.1,())=some y4/\Br y4 (∃(y5:Bool),Ew.fn (a.2.2.1,b.2.2.1,())=some y5/\P y5) (P false)) (P false))=fnW Gr (look [(93,Ew),(177,pC)]) bm Tryz.f161 (a,b,()) P:=by kernel_rfl
theorem Anj (a b:List Int) (h:short a):fnW Gr (look [(93,Ew)]) Ew Tryz.f184 (a,b,()) (λ(z:Bool)=>z=Gv a b):=by
 refine Eq.mp (Ao8 a b _) ⟨_,Ab h,rfl⟩
theorem UK:Sound Tryz.prog 184 Ew:=
 Sound.Hj Ee (Ba cW Bo) mixed Tryz.func184 (by kernel_rfl) (by kernel_rfl) λx h=>Anj x.1 x.2.1 h
theorem LD (a b:List (List Int)) (c:Unit) (h:Oz a):fnW Gr (look [(184,Ew)]) Yo Tryz.f183 (a,b,c,()) (λ(z:Bool)=>z=j4 a b):=by
 obtain ⟨h,h4⟩:=h
 refine Eq.mp (NO a b c _) ⟨λhl=>?_,λhl=>?_⟩
 ·simp only [bne_iff_ne,ne_eq,Jy] at hl
  exact (Ez λkQ=>hl (by rw [kQ])).symm
 ·simp only [Rx,Jy] at hl
  refine Bw a.length (λv=>v.1) (λj _=>a.take j=b.take j) rfl (by simp) ?_
  rintro j ⟨i,⟨⟩⟩ K hj hi hR hK
  dsimp only at hi⊢
  subst hi
  refine Br.dec (λLr=>?_) λLr=>?_
  ·have oD:j<a.length:=by omega
   have JP:j<b.length:=by omega
   refine ⟨_,Cj oD,_,Cj JP,_,Ab (h4 _ (Al oD)),⟨λhe=>?_,λhe=>?_⟩⟩
   ·refine (Ez λkQ=>?_).symm
    subst kQ
    simp [Gv] at he
   ·rw [Bz (by omega)]
    refine hK oD _ rfl ?_
    simp only [Gv,Bool.not_eq_false',Ri] at he
    rw [Cu oD,Cu JP,hR]
    exact Gz (λx=>List.take j b++ [x]) he
  ·have DQ:j=a.length:=by omega
   subst DQ
   rw [Bc,hl,Bc] at hR
   exact (Cy hR).symm
theorem uD:Sound Tryz.prog 183 Yo:=
 Sound.Hj Ee (Ba UK Bo) mixed Tryz.func183 (by kernel_rfl) (by kernel_rfl) λx h=>LD x.1 x.2.1 x.2.2.1 h
theorem rn (a b:List (List Int)) (h:Oz a):fnW Gr (look [(183,Yo)]) pC Tryz.f177 (a,b,()) (λ(z:Bool)=>z=j4 a b):=by
 refine Eq.mp (rM a b _) ⟨_,Ab h,rfl⟩
theorem kA:Sound Tryz.prog 177 pC:=
 Sound.Hj Ee (Ba uD Bo) mixed Tryz.func177 (by kernel_rfl) (by kernel_rfl) λx h=>rn x.1 x.2.1 h
theorem rm (a b:TT) (h:ay a):fnW Gr (look [(93,Ew),(177,pC)]) bm Tryz.f161 (a,b,()) (λ(z:Bool)=>z=l6 a b):=by
 refine Eq.mp (rK a b _) ⟨_,Ab h.1,⟨λh1=>⟨_,Ab h.2.1,⟨λh2=>⟨_,Ab h.2.2,?_⟩,λh2=>?_⟩⟩,λh1=>?_⟩⟩
 ·have h1:Gv a.1 b.1=true:=h1
  have h2:j4 a.2.1 b.2.1=true:=h2
  simp only [Gv,j4] at h1 h2
  show Gv a.2.2.1 b.2.2.1=_
  unfold l6 Gv
  rw [h1,h2];rfl
 ·have h1:Gv a.1 b.1=true:=h1
  have h2:j4 a.2.1 b.2.1=false:=h2
  simp only [Gv,j4] at h1 h2
  unfold l6
  rw [h1,h2];rfl
 ·have h1:Gv a.1 b.1=false:=h1
  simp only [Gv] at h1
  unfold l6
  rw [h1];rfl
theorem kz:Sound Tryz.prog 161 bm:=
 Sound.Hj Ee (Ba cW (Ba kA Bo)) mixed Tryz.func161 (by kernel_rfl) (by kernel_rfl) λx h=>rm x.1 x.2.1 h
abbrev PP:Type:=Int×ByteArray×List (List Int)×Unit
noncomputable def Kj (p:List Int):Bool:=dec (1<=p.length/\p.length<=20/\DL p.length p p.length)
noncomputable def Ht (n:Int) (p:List Int):Bool:=dec ((p.length:Int)=n/\Kj p=true)
noncomputable def Zw (n:Int) (g:List (List Int)):Bool:=dec ((1<=n/\n<=20)/\g.length<=8/\ ∀p∈g,Ht n p=true)
def Md {α:Type} (P:α->Bool):List α->Int->Int
 | [],_=> -1
 |y::r,i=>if P y=true then i else Md P r (i+1)
abbrev tG1:Ty:= .clo 174 (.pair (.ptr tI) .unit)
def ye (s:ByteArray) (i:Nat):Prop:= ∃c:UInt8,s[i]?=some c/\65<=c.toNat/\c.toNat<=90/\ ∀k,k<i->s[k]?≠some c
noncomputable def nI (s:ByteArray) (i:Int):Bool:=dec (ye s i.toNat)
noncomputable def bk (s:ByteArray):Bool:=dec ((1<=s.size/\s.size<=8)/\ ∀j,j<s.size->ye s j)
noncomputable def Ca (p:PP):Bool:=dec (Zw p.1 p.2.2.1=true/\bk p.2.1=true/\p.2.1.size=p.2.2.1.length)
def Fc (p:PP):Prop:=p.2.1.size<=4294967296/\Oz p.2.2.1
noncomputable abbrev Ts:Spec:=Hj (.pair tL .unit) tI false true (λ_=>True) (λx=>(List.length x.1:Int))
noncomputable abbrev Jp:Spec:=Hj (.pair tL .unit) .bool false true (λx=>short x.1) (λx=>Kj x.1)
noncomputable abbrev Qv:Spec:=Hj (.pair tI (.pair kB .unit)) .bool false true (λx=>Oz x.2.1) (λx=>Zw x.1 x.2.1)
noncomputable abbrev kh:Spec:=Hj (.pair tL (.pair (.ptr tI) .unit)) .bool false true (λx=>short x.1) (λx=>!Ht x.2.1 x.1)
noncomputable abbrev xP:Spec:=Hj (.pair kB (.pair tG1 .unit)) tI false true (λx=>Oz x.1) (λx=>Md (λp=>!Ht x.2.1.1 p) x.1 0)
noncomputable abbrev xO:Spec:=Hj (.pair kB (.pair tG1 .unit)) .bool false true (λx=>Oz x.1) (λx=>List.any x.1 (λp=>!Ht x.2.1.1 p))
noncomputable abbrev eC:Spec:=Hj (.pair .str (.pair tI .unit)) .bool false true (λx=>0<=x.2.1/\x.2.1<x.1.size/\x.1.size<=4294967296) (λx=>nI x.1 x.2.1)
noncomputable abbrev bn:Spec:=Hj (.pair .str .unit) .bool false true (λx=>x.1.size<=4294967296) (λx=>bk x.1)
noncomputable abbrev Im:Spec:=Hj (.pair Jc .unit) .bool false true (λx=>Fc x.1) (λx=>Ca x.1)
theorem Ajl (xs:List Int) (P:Int->Prop):(P (↑xs.length:Int))=fnW Gr (look []) Ts Tryz.f105 (xs,()) P:=by kernel_rfl
theorem BE (p:List Int) (P:Bool->Prop):(∃(y2:Bool),Cr.fn ((↑p.length:Int),(1:Int),(20:Int),())=some y2/\Br (!y2) (P false) (Di (λ(v3:Int×PUnit) (k4:Int×PUnit->Prop)=>Br (decide (v3.1<(↑p.length:Int))) (∃(y5:Int),idx p v3.1=some y5/\ ∃(y6:Bool),Cr.fn (y5,(0:Int),IntKind.i64.wrap ((↑p.length:Int)-(1:Int)),())=some y6/\Br (!y6) (P false) (((0:Int)<=(0:Int)/\(0:Int)<=v3.1/\v3.1<=(↑p.length:Int))/\ ∃(y7:Int),idx p v3.1=some y7/\ ∃(y8:Bool),Re.fn (List.drop (Int.toNat (0:Int)) (List.take v3.1.toNat p),y7,())=some y8/\Br y8 (P false) (k4 (IntKind.i64.wrap (v3.1+(1:Int)),())))) (P true)) ((0:Int),PUnit.unit)))=fnW Gr (look [(95,Cr),(175,Re)]) Jp Tryz.f162 (p,()) P:=by kernel_rfl
theorem AZ (p:List Int) (P:Bool->Prop):(∃(y2:Int),Ts.fn (p,())=some y2/\ ∃(y3:Bool),Cr.fn (y2,(1:Int),(20:Int),())=some y3/\Br (!y3) (P false) (Di (λ(v4:Int×Int×PUnit) (k5:Int×Int×PUnit->Prop)=>Br (decide (v4.2.1<(↑p.length:Int))) (∃(y6:Int),idx p v4.2.1=some y6/\ ∃(y7:Int),Ts.fn (p,())=some y7/\ ∃(y8:Bool),Cr.fn (y6,(0:Int),IntKind.i64.wrap (y7-(1:Int)),())=some y8/\Br (!y8) (P false) (¬y6<(0:Int)/\k5 (IntKind.i64.wrap (↑(BitVec.ofInt IntKind.i64.bits v4.1|||BitVec.ofInt IntKind.i64.bits (IntKind.i64.wrap ((1:Int)*(2:Int)^min y6.toNat IntKind.i64.bits))).toNat:Int),IntKind.i64.wrap (v4.2.1+(1:Int)),()))) (¬(↑p.length:Int)<(0:Int)/\P (v4.1==IntKind.i64.wrap (IntKind.i64.wrap ((1:Int)*(2:Int)^min (↑p.length:Int).toNat IntKind.i64.bits)-(1:Int))))) ((0:Int),(0:Int),PUnit.unit)))=fnW Gr (look [(100,Cr),(105,Ts)]) Jp Tryz.f130 (p,()) P:=by kernel_rfl
theorem BD (n:Int) (g:List (List Int)) (P:Bool->Prop):(∃(y3:Bool),Cr.fn (n,(1:Int),(20:Int),())=some y3/\Br (!y3) (P false) (Br (decide ((↑g.length:Int)>(8:Int))) (P false) (Di (λ(v4:Int×PUnit) (k5:Int×PUnit->Prop)=>Br (decide (v4.1<(↑g.length:Int))) (∃(y6:List Int),idx g v4.1=some y6/\Br ((↑y6.length:Int) !=n) (P false) (∃(y7:List Int),idx g v4.1=some y7/\ ∃(y8:Bool),Jp.fn (y7,())=some y8/\Br (!y8) (P false) (k5 (IntKind.i64.wrap (v4.1+(1:Int)),())))) (P true)) ((0:Int),PUnit.unit))))=fnW Gr (look [(95,Cr),(162,Jp)]) Qv Tryz.f122 (n,g,()) P:=by kernel_rfl
theorem Aeo (p:List Int) (n:Int) (P:Bool->Prop):(∃(y3:Int),Ts.fn (p,())=some y3/\Br (y3 !=n) (P true) (∃(y4:Bool),Jp.fn (p,())=some y4/\P !y4))=fnW Gr (look [(105,Ts),(130,Jp)]) kh Tryz.f174 (p,n,()) P:=by kernel_rfl
theorem Ao7 (g:List (List Int)) (n:Int×Unit) (P:Int->Prop):(Di (λ(v3:Int×PUnit) (k4:Int×PUnit->Prop)=>Br (decide (v3.1<(↑g.length:Int))) (∃(y5:List Int),idx g v3.1=some y5/\ ∃(y6:Bool),kh.fn (y5,n.1,())=some y6/\Br y6 (P v3.1) (k4 (IntKind.i64.wrap (v3.1+(1:Int)),()))) (P (-1:Int))) ((0:Int),PUnit.unit))=fnW Gr (look [(174,kh)]) xP Tryz.f140 (g,n,()) P:=by kernel_rfl
theorem Ao4 (g:List (List Int)) (n:Int×Unit) (P:Bool->Prop):(∃(y3:Int),xP.fn (g,n,())=some y3/\P (decide (y3>=(0:Int))))=fnW Gr (look [(140,xP)]) xO Tryz.f173 (g,n,()) P:=by kernel_rfl
theorem AY (n:Int) (g:List (List Int)) (P:Bool->Prop):(∃(y3:Bool),Cr.fn (n,(1:Int),(20:Int),())=some y3/\Br y3 (Br (decide ((↑g.length:Int)<=(8:Int))) (∃(y4:Bool),xO.fn (g,(n,()),())=some y4/\P !y4) (P false)) (P false))=fnW Gr (look [(100,Cr),(173,xO)]) Qv Tryz.f150 (n,g,()) P:=by kernel_rfl
theorem Abw (s:ByteArray) (i:Int) (P:Bool->Prop):((0:Int)<=i/\ ∃(y3:UInt8),s[i.toNat]?=some y3/\Br (decide ((↑y3.toNat:Int)<(65:Int))) (P false) ((0:Int)<=i/\ ∃(y4:UInt8),s[i.toNat]?=some y4/\Br (decide ((↑y4.toNat:Int)>(90:Int))) (P false) (Di (λ(v5:Int×PUnit) (k6:Int×PUnit->Prop)=>Br (decide (v5.1<i)) ((0:Int)<=v5.1/\ ∃(y7:UInt8),s[v5.1.toNat]?=some y7/\(0:Int)<=i/\ ∃(y8:UInt8),s[i.toNat]?=some y8/\Br ((↑y7.toNat:Int)==(↑y8.toNat:Int)) (P false) (k6 (IntKind.i64.wrap (v5.1+(1:Int)),()))) (P true)) ((0:Int),PUnit.unit))))=fnW Gr (look []) eC Tryz.f123 (s,i,()) P:=by kernel_rfl
theorem VK (s:ByteArray) (P:Bool->Prop):(Di (λ(v2:Int×PUnit) (k3:Int×PUnit->Prop)=>Br (decide (v2.1<(↑s.size:Int))) ((0:Int)<=v2.1/\ ∃(y4:UInt8),s[v2.1.toNat]?=some y4/\ ∃(y5:Bool),Cr.fn (IntKind.i64.wrap (↑y4.toNat:Int),(65:Int),(90:Int),())=some y5/\Br (!y5) (P false) (Di (λ(v6:Int×PUnit) (k7:Int×PUnit->Prop)=>Br (decide (v6.1<v2.1)) ((0:Int)<=v6.1/\ ∃(y8:UInt8),s[v6.1.toNat]?=some y8/\(0:Int)<=v2.1/\ ∃(y9:UInt8),s[v2.1.toNat]?=some y9/\Br ((↑y8.toNat:Int)==(↑y9.toNat:Int)) (P false) (k7 (IntKind.i64.wrap (v6.1+(1:Int)),()))) (k3 (IntKind.i64.wrap (v2.1+(1:Int)),()))) ((0:Int),PUnit.unit))) (∃(y4:Bool),Cr.fn ((↑s.size:Int),(1:Int),(8:Int),())=some y4/\P y4)) ((0:Int),PUnit.unit))=fnW Gr (look [(100,Cr)]) bn Tryz.f151 (s,()) P:=by kernel_rfl
abbrev ll:Type:=Int×Int×ByteArray×List (List Int)×PUnit
theorem BF (p:Int×ByteArray×List (List Int)×Unit) (P:Bool->Prop):(Br ((↑p.2.2.1.length:Int)==(0:Int)) (P false) (Br ((↑p.2.1.size:Int) !=(↑p.2.2.1.length:Int)) (P false) (∃(y2:Bool),Qv.fn (p.1,p.2.2.1,())=some y2/\Br (!y2) (P false) (Di (λ(v3:ll) (k4:ll->Prop)=>Br (decide (v3.1<(↑v3.2.2.1.size:Int))) (∃(y5:Bool),eC.fn (v3.2.2.1,v3.1,())=some y5/\Br (!y5) (P false) (k4 (IntKind.i64.wrap (v3.1+(1:Int)),v3.2.1,v3.2.2.1,v3.2.2.2.1,()))) (P true)) ((0:Int),p.1,p.2.1,p.2.2.1,PUnit.unit)))))=fnW Gr (look [(122,Qv),(123,eC)]) Im Tryz.f63 (p,()) P:=by kernel_rfl
theorem BA (p:Int×ByteArray×List (List Int)×Unit) (P:Bool->Prop):(∃(y2:Bool),Qv.fn (p.1,p.2.2.1,())=some y2/\Br y2 (∃(y3:Bool),bn.fn (p.2.1,())=some y3/\Br y3 (P ((↑p.2.1.size:Int)==(↑p.2.2.1.length:Int))) (P false)) (P false))=fnW Gr (look [(150,Qv),(151,bn)]) Im Tryz.f99 (p,()) P:=by kernel_rfl
theorem Aiu (xs:List Int) (_:True):fnW Gr (look []) Ts Tryz.f105 (xs,()) (λ(z:Int)=>z=(xs.length:Int)):=Eq.mp (Ajl xs _) rfl
theorem fT:Sound Tryz.prog 105 Ts:=
 Sound.Hj Ee Bo mixed Tryz.func105 (by kernel_rfl) (by kernel_rfl) λx h=>Aiu x.1 h
theorem AL {α:Type} [DecidableEq α]: ∀(l m:List α),l.Nodup->(∀x∈l,x∈m)->l.length<=m.length
 | [],m,_,_=>Kw _
 |a::l,m,hn,hs=>by
  have ha:a∈m:=hs a (Fm ..)
  have hn:=Ce.1 hn
  have:=AL l (m.erase a) hn.2 λx hx=>(List.mem_erase_of_ne (λ(e:x=a)=>hn.1 (by rw [<-e];exact hx))).2 (hs x (Ao _ hx))
  rw [List.length_erase_of_mem ha] at this
  have:0<m.length:=List.length_pos_of_mem ha
  simp only [Aw]
  omega
def upto (n:Nat):List Int:=(List.range n).map Int.ofNat
theorem NH (n:Nat):(upto n).Nodup:=by
 unfold upto
 exact List.Pairwise.map _ (λa b kQ e=>kQ (Int.ofNat.inj e)) List.nodup_range
theorem Qt {n:Nat} {x:Int} :x∈upto n↔0<=x/\x<n:=by
 unfold upto
 simp only [Bj,Es]
 constructor
 ·rintro ⟨a,ha,rfl⟩;exact ⟨Int.natCast_nonneg _,Int.ofNat_lt.2 ha⟩
 ·rintro ⟨h1,h2⟩;exact ⟨x.toNat,by omega,by simp only [Int.ofNat_eq_natCast];omega⟩
theorem Sv (n:Nat):(upto n).length=n:=by simp [upto]
theorem j6 {xs:List Int} (h: ∀j (hj:j<xs.length),xs[j]∉xs.take j):xs.Nodup:=by
 refine Ej.2 λi j hi hj jT e=>h j hj ?_
 rw [<-e]
 exact List.mem_take_iff_getElem.2 ⟨i,by omega,rfl⟩
theorem uW {xs:List Int} (h:xs.Nodup): ∀j (hj:j<xs.length),xs[j]∉xs.take j:=by
 intro j hj hm
 obtain ⟨i,hi,e⟩:=List.mem_take_iff_getElem.1 hm
 exact Ej.1 h i j (by omega) hj (by omega) e
theorem dh {xs:List Int} (h: ∀x∈xs,0<=x/\x<xs.length):(∀k:Nat,k<xs.length->(k:Int)∈xs)↔ ∀j (hj:j<xs.length),xs[j]∉xs.take j:=by
 constructor
 ·intro ha j hj hm
  have h1:=AL (upto xs.length) (xs.take j++xs.drop (j+1)) (NH _) λx hx=>by
   obtain ⟨h1,h2⟩:=Qt.1 hx
   have hx:=ha x.toNat (by omega)
   rw [show ((x.toNat:Nat):Int)=x by omega] at hx
   rw [<-Kf j xs,Ay,Fg hj,Bg] at hx
   rcases hx with hx|rfl|hx
   ·exact Bk _ hx
   ·exact Bk _ hm
   ·exact Cf _ hx
  rw [Sv,Au,Dc,List.length_drop] at h1
  omega
 ·intro hn k hk
  refine Bu λhc=>?_
  have h1:=AL xs ((upto xs.length).erase (k:Int)) (j6 hn) λx hx=>by
   refine (List.mem_erase_of_ne λ(e:x=(k:Int))=>hc (by rw [<-e];exact hx)).2 (Qt.2 (h x hx))
  rw [List.length_erase_of_mem (Qt.2 ⟨by omega,by omega⟩),Sv] at h1
  omega
def mask (xs:List Int):Nat:=xs.foldl (λm x=>m|||2^x.toNat) 0
theorem SY (xs:List Int) (x:Int):mask (xs++ [x])=mask xs|||2^x.toNat:=by simp [mask]
theorem zl (xs:List Int) (k:Nat): ∀a:Nat,(xs.foldl (λm x=>m|||2^x.toNat) a).testBit k=(a.testBit k||xs.any λx=>decide (x.toNat=k)):=by
 induction xs with
 |nil=>simp
 |cons x xs ih=>
  intro a
  rw [Df,ih,Nat.testBit_or,Nat.testBit_two_pow,List.any_cons,Bool.or_assoc]
theorem tH (xs:List Int) (k:Nat):(mask xs).testBit k=xs.any λx=>decide (x.toNat=k):=by
 unfold mask
 rw [zl,Nat.zero_testBit,Sw]
theorem Ady {xs:List Int} {n:Nat} (h: ∀x∈xs,x.toNat<n):mask xs<2^n:=by
 refine Nat.lt_pow_two_of_testBit _ λk hk=>?_
 rw [tH]
 refine Nq.2 λht=>?_
 obtain ⟨x,hx,he⟩:=Gd.1 ht
 have:=h x hx
 have:=Ik he
 omega
theorem xw {xs:List Int} (h: ∀x∈xs,0<=x/\x<xs.length):mask xs=2^xs.length-1↔ ∀k:Nat,k<xs.length->(k:Int)∈xs:=by
 constructor
 ·intro e k hk
  have h1:=tH xs k
  rw [e,Nat.testBit_two_pow_sub_one,Cy hk] at h1
  obtain ⟨x,hx,he⟩:=Gd.1 h1.symm
  have:=(h x hx).1
  have:=Ik he
  have e:x=(k:Int):=by omega
  exact e▸hx
 ·intro ha
  refine Nat.eq_of_testBit_eq λk=>?_
  rw [tH,Nat.testBit_two_pow_sub_one]
  by_cases hk:k<xs.length
  ·rw [Cy hk]
   exact Gd.2 ⟨k,ha k hk,by simp⟩
  ·rw [Ez hk]
   refine Nq.2 λht=>?_
   obtain ⟨x,hx,he⟩:=Gd.1 ht
   have:=h x hx
   have:=Ik he
   omega
theorem Ae2 {m:Nat} {x:Int} (hm:m<2^20) (h0:0<=x) (h1:x<20):
  IntKind.i64.wrap (((BitVec.ofInt IntKind.i64.bits (m:Int)|||BitVec.ofInt IntKind.i64.bits (IntKind.i64.wrap ((1:Int)*(2:Int)^min x.toNat IntKind.i64.bits))).toNat:Nat):Int)=((m|||2^x.toNat:Nat):Int):=by
 have hx:(2:Nat)^x.toNat<2^20:=Nat.pow_lt_pow_right (by omega) (by omega)
 have e1:min x.toNat IntKind.i64.bits=x.toNat:=by show min x.toNat 64=_;omega
 have e2:(1:Int)*(2:Int)^x.toNat=((2^x.toNat:Nat):Int):=by rw [Int.one_mul];exact (Int.natCast_pow 2 _).symm
 rw [e1,e2,Cn (n:=((2^x.toNat:Nat):Int)) (by have:(0:Int)<=((2^x.toNat:Nat):Int):=Int.natCast_nonneg _;omega) (by omega)]
 show IntKind.i64.wrap (((BitVec.ofInt 64 (m:Int)|||BitVec.ofInt 64 ((2^x.toNat:Nat):Int)).toNat:Nat):Int)=_
 rw [BitVec.ofInt_natCast,BitVec.ofInt_natCast,BitVec.toNat_or,BitVec.toNat_ofNat,BitVec.toNat_ofNat,Nat.mod_eq_of_lt (by omega),Nat.mod_eq_of_lt (by omega)]
 have:=Nat.or_lt_two_pow hm hx
 exact Cn (by omega) (by omega)
theorem zx (p:List Int) (h:short p):fnW Gr (look [(95,Cr),(175,Re)]) Jp Tryz.f162 (p,()) (λ(z:Bool)=>z=Kj p):=by
 have hs:=h
 unfold short at h
 refine Eq.mp (BE p _) ⟨_,Ab trivial,⟨λhp=>?_,λhp=>?_⟩⟩
 ·have hp:=Hm hp
  rw [Ep] at hp
  dsimp only at hp
  exact Dh λhh=>hp ⟨by omega,by omega⟩
 ·have hp:=Ho hp
  rw [Ep] at hp
  dsimp only at hp
  refine Bw p.length (λv=>v.1) (λj _=>DL p.length p j) rfl (λj _ hj=>absurd hj (He _)) ?_
  rintro j ⟨i,⟨⟩⟩ K hj hi hR hK
  dsimp only at hi⊢
  subst hi
  refine Br.dec (λhl=>?_) λhl=>?_
  ·have hl:j<p.length:=by omega
   refine ⟨_,Cj hl,_,Ab trivial,⟨λhq=>?_,λhq=>?_⟩⟩
   ·have hq:=Hm hq
    rw [Ep,Cn (by omega) (by omega)] at hq
    exact Dh λhh=>hq ⟨(hh.2.2 j hl hl).1,(hh.2.2 j hl hl).2.1⟩
   ·have hq:=Ho hq
    rw [Ep,Cn (by omega) (by omega)] at hq
    refine ⟨⟨by omega,by omega,by omega⟩,_,Cj hl,?_⟩
    rw [show (Int.toNat 0)=0 from rfl,Fy,Ar]
    refine ⟨_,Ab (MJ hs j),⟨λhc=>?_,λhc=>?_⟩⟩
    ·have hc:decide (p[j]∈p.take j)=true:=hc
     rw [Kx] at hc
     exact Dh λhh=>(hh.2.2 j hl hl).2.2 hc
    ·have hc:decide (p[j]∈p.take j)=false:=hc
     rw [decide_eq_false_iff_not] at hc
     rw [Bz (by omega)]
     exact hK hl _ rfl (Acx hl hR hq.1 hq.2 hc)
  ·have:j=p.length:=by omega
   subst this
   exact Pd ⟨by omega,by omega,hR⟩
theorem Zb:Sound Tryz.prog 162 Jp:=
 Sound.Hj Ee (Ba Rh (Ba o4 Bo)) mixed Tryz.func162 (by kernel_rfl) (by kernel_rfl) λx h=>zx x.1 h
theorem zt (p:List Int) (h:short p):fnW Gr (look [(100,Cr),(105,Ts)]) Jp Tryz.f130 (p,()) (λ(z:Bool)=>z=Kj p):=by
 unfold short at h
 refine Eq.mp (AZ p _) ⟨_,Ab trivial,_,Ab trivial,⟨λhp=>?_,λhp=>?_⟩⟩
 ·have hp:=Hm hp
  rw [Ep] at hp
  dsimp only at hp
  exact Dh λhh=>hp ⟨by omega,by omega⟩
 ·have hp:=Ho hp
  rw [Ep] at hp
  dsimp only at hp
  refine Bw p.length (λv=>v.2.1) (λj v=>v.1=(mask (p.take j):Int)/\ ∀x∈p.take j,0<=x/\x<p.length) rfl ⟨rfl,by simp⟩ ?_
  rintro j ⟨m,i,⟨⟩⟩ K hj hi ⟨hm,hR⟩ hK
  dsimp only at hi hm⊢
  subst hi hm
  refine Br.dec (λhl=>?_) λhl=>?_
  ·have hl:j<p.length:=by omega
   refine ⟨_,Cj hl,_,Ab trivial,_,Ab trivial,⟨λhq=>?_,λhq=>?_⟩⟩
   ·have hq:=Hm hq
    rw [Ep] at hq
    dsimp only at hq
    rw [Cn (by omega) (by omega)] at hq
    exact Dh λhh=>hq ⟨(hh.2.2 j hl hl).1,(hh.2.2 j hl hl).2.1⟩
   ·have hq:=Ho hq
    rw [Ep] at hq
    dsimp only at hq
    rw [Cn (by omega) (by omega)] at hq
    refine ⟨by omega,?_⟩
    rw [Bz (by omega)]
    have hb:mask (p.take j)<2^20:=Ady λx hx=>by have:=hR x hx;omega
    refine hK hl _ rfl ⟨?_,?_⟩
    ·dsimp only
     rw [Ae2 hb hq.1 (by omega),Cu hl,SY]
    ·rw [Cu hl]
     intro x hx
     rcases Ay.1 hx with hx|hx
     ·exact hR x hx
     ·rw [Ad.1 hx];omega
  ·have:j=p.length:=by omega
   subst this
   rw [Bc] at hR⊢
   refine ⟨by omega,?_⟩
   have hx:(2:Nat)^p.length<=2^20:=Nat.pow_le_pow_right (by omega) (by omega)
   have yT:0<(2:Nat)^p.length:=Nat.two_pow_pos _
   have e1:min (p.length:Int).toNat IntKind.i64.bits=p.length:=by show min (p.length:Int).toNat 64=_;omega
   have e2:(1:Int)*(2:Int)^p.length=((2^p.length:Nat):Int):=by rw [Int.one_mul];exact (Int.natCast_pow 2 _).symm
   rw [e1,e2,Cn (n:=((2^p.length:Nat):Int)) (by omega) (by omega),Cn (by omega) (by omega)]
   have hE:((mask p:Int)==((2^p.length:Nat):Int)-1)=decide (mask p=2^p.length-1):=by
    rw [Bool.eq_iff_iff,beq_iff_eq,Kx]
    omega
   show ((mask p:Int)==((2^p.length:Nat):Int)-1)=Kj p
   rw [hE]
   by_cases hf:mask p=2^p.length-1
   ·rw [Cy hf]
    have hn:=(dh hR).1 ((xw hR).1 hf)
    refine Pd ⟨by omega,by omega,λj hj _=>?_⟩
    have:=hR _ (Al hj)
    exact ⟨this.1,by omega,hn j hj⟩
   ·rw [Ez hf]
    refine Dh λhh=>hf ((xw hR).2 ((dh hR).2 λj hj=>(hh.2.2 j hj hj).2.2))
theorem eI:Sound Tryz.prog 130 Jp:=
 Sound.Hj Ee (Ba Wz (Ba fT Bo)) mixed Tryz.func130 (by kernel_rfl) (by kernel_rfl) λx h=>zt x.1 h
theorem zw (n:Int) (g:List (List Int)) (h:Oz g):fnW Gr (look [(95,Cr),(162,Jp)]) Qv Tryz.f122 (n,g,()) (λ(z:Bool)=>z=Zw n g):=by
 obtain ⟨h,h4⟩:=h
 refine Eq.mp (BD n g _) ⟨_,Ab trivial,⟨λhp=>?_,λhp=>?_⟩⟩
 ·have hp:=Hm hp
  rw [Ep] at hp
  exact Dh λhh=>hp hh.1
 ·have hp:=Ho hp
  rw [Ep] at hp
  refine Br.dec (λhg=>?_) λhg=>?_
  ·exact Dh λhh=>by have:=hh.2.1;omega
  ·refine Bw g.length (λv=>v.1) (λj _=> ∀p∈g.take j,Ht n p=true) rfl (by simp) ?_
   rintro j ⟨i,⟨⟩⟩ K hj hi hR hK
   dsimp only at hi⊢
   subst hi
   refine Br.dec (λhl=>?_) λhl=>?_
   ·have hl:j<g.length:=by omega
    have hm:g[j]∈g:=Al hl
    refine ⟨_,Cj hl,⟨λhe=>?_,λhe=>?_⟩⟩
    ·simp only [bne_iff_ne,ne_eq] at he
     exact Dh λhh=>he (Is.1 (hh.2.2 _ hm)).1
    ·simp only [Rx] at he
     refine ⟨_,Cj hl,_,Ab (h4 _ hm),⟨λhq=>?_,λhq=>?_⟩⟩
     ·have hq:=Hm hq
      exact Dh λhh=>hq (Is.1 (hh.2.2 _ hm)).2
     ·have hq:=Ho hq
      rw [Bz (by omega)]
      refine hK hl _ rfl ?_
      rw [Cu hl]
      intro x hx
      rcases Ay.1 hx with hx|hx
      ·exact hR x hx
      ·rw [Ad.1 hx];exact Is.2 ⟨he,hq⟩
   ·have:j=g.length:=by omega
    subst this
    rw [Bc] at hR
    exact Pd ⟨hp,by omega,hR⟩
theorem pL:Sound Tryz.prog 122 Qv:=
 Sound.Hj Ee (Ba Rh (Ba Zb Bo)) mixed Tryz.func122 (by kernel_rfl) (by kernel_rfl) λx h=>zw x.1 x.2.1 h
theorem Ae4 (p:List Int) (n:Int) (h:short p):fnW Gr (look [(105,Ts),(130,Jp)]) kh Tryz.f174 (p,n,()) (λ(z:Bool)=>z=!Ht n p):=by
 refine Eq.mp (Aeo p n _) ⟨_,Ab trivial,⟨λhe=>?_,λhe=>⟨_,Ab h,?_⟩⟩⟩
 ·simp only [bne_iff_ne,ne_eq] at he
  have:Ht n p=false:=Acu.2 λhh=>he hh.1
  rw [this];rfl
 ·simp only [Rx] at he
  show (!Kj p)=_
  congr 1
  cases hp:Kj p with
  |true=>exact Pd ⟨he,hp⟩
  |false=>exact Dh λhh=>by rw [hh.2] at hp;cases hp
theorem GO:Sound Tryz.prog 174 kh:=
 Sound.Hj Ee (Ba fT (Ba eI Bo)) mixed Tryz.func174 (by kernel_rfl) (by kernel_rfl) λx h=>Ae4 x.1 x.2.1 h
theorem qo {α:Type} (P:α->Bool): ∀(l:List α) (i:Int),0<=i->(0<=Md P l i↔l.any P=true)
 | [],i,_=>by simp [Md]
 |y::r,i,h=>by
  simp only [Md,List.any_cons,Mi]
  split
  ·rename_i hy;simp [hy,h]
  ·rename_i hy;rw [qo P r (i+1) (by omega)];simp [hy]
theorem Ani (g:List (List Int)) (n:Int×Unit) (h:Oz g):fnW Gr (look [(174,kh)]) xP Tryz.f140 (g,n,()) (λ(z:Int)=>z=Md (λp=>!Ht n.1 p) g 0):=by
 obtain ⟨h,h4⟩:=h
 refine Eq.mp (Ao7 g n _) ?_
 refine Bw g.length (λv=>v.1) (λj _=>Md (λp=>!Ht n.1 p) (g.drop j) j=Md (λp=>!Ht n.1 p) g 0) rfl (by simp) ?_
 rintro j ⟨i,⟨⟩⟩ K hj hi hR hK
 dsimp only at hi⊢
 subst hi
 refine Br.dec (λhl=>?_) λhl=>?_
 ·have hl:j<g.length:=by omega
  rw [Fg hl] at hR
  simp only [Md] at hR
  refine ⟨_,Cj hl,_,Ab (h4 _ (Al hl)),⟨λhe=>?_,λhe=>?_⟩⟩
  ·have he:(!Ht n.1 g[j])=true:=he
   rw [Ab he] at hR
   exact hR
  ·have he:(!Ht n.1 g[j])=false:=he
   rw [Ai (by rw [he];decide)] at hR
   rw [Bz (by omega)]
   exact hK hl _ rfl (by push_cast;exact hR)
 ·have:j=g.length:=by omega
  subst this
  rw [Tj] at hR
  exact hR
theorem UJ:Sound Tryz.prog 140 xP:=
 Sound.Hj Ee (Ba GO Bo) mixed Tryz.func140 (by kernel_rfl) (by kernel_rfl) λx h=>Ani x.1 x.2.1 h
theorem Anf (g:List (List Int)) (n:Int×Unit) (h:Oz g):fnW Gr (look [(140,xP)]) xO Tryz.f173 (g,n,()) (λ(z:Bool)=>z=List.any g (λp=>!Ht n.1 p)):=by
 refine Eq.mp (Ao4 g n _) ⟨_,Ab h,?_⟩
 rw [Bool.eq_iff_iff,Kx]
 exact qo _ g 0 (Gi 0)
theorem UH:Sound Tryz.prog 173 xO:=
 Sound.Hj Ee (Ba UJ Bo) mixed Tryz.func173 (by kernel_rfl) (by kernel_rfl) λx h=>Anf x.1 x.2.1 h
theorem zr (n:Int) (g:List (List Int)) (h:Oz g):fnW Gr (look [(100,Cr),(173,xO)]) Qv Tryz.f150 (n,g,()) (λ(z:Bool)=>z=Zw n g):=by
 refine Eq.mp (AY n g _) ⟨_,Ab trivial,⟨λhp=>?_,λhp=>?_⟩⟩
 ·have hp:Pl n 1 20=true:=hp
  rw [Ep] at hp
  refine Br.dec (λhl=>⟨_,Ab h,?_⟩) λhl=>?_
  ·show (!List.any g (λp=>!Ht n p))=Zw n g
   cases ha:List.any g (λp=>!Ht n p) with
   |true=>
    obtain ⟨p,tj,PH⟩:=Gd.1 ha
    exact Dh λhh=>by rw [hh.2.2 p tj] at PH;cases PH
   |false=>
    refine Pd ⟨hp,by omega,λp hm=>?_⟩
    have:=List.any_eq_false.1 ha p hm
    simpa using this
  ·exact Dh λhh=>by have:=hh.2.1;omega
 ·refine Dh λhh=>?_
  have:Pl n 1 20=true:=Ep.2 hh.1
  have hp:Pl n 1 20=false:=hp
  rw [this] at hp;cases hp
theorem pJ:Sound Tryz.prog 150 Qv:=
 Sound.Hj Ee (Ba Wz (Ba UH Bo)) mixed Tryz.func150 (by kernel_rfl) (by kernel_rfl) λx h=>zr x.1 x.2.1 h
theorem Ng {s:ByteArray} {k:Nat} (h:k<s.size):s[k]?=some s[k]:=getElem?_pos s k h
theorem Aa5 (s:ByteArray) (i:Int) (h:0<=i/\i<s.size/\s.size<=4294967296):fnW Gr (look []) eC Tryz.f123 (s,i,()) (λ(z:Bool)=>z=nI s i):=by
 obtain ⟨h1,h2,h3⟩:=h
 have hi:i.toNat<s.size:=by omega
 refine Eq.mp (Abw s i _) ⟨h1,_,Ng hi,Br.dec (λhq=>?_) λhq=>⟨h1,_,Ng hi,Br.dec (λhr=>?_) λhr=>?_⟩⟩
 ·refine Dh λ⟨c,hc,hc1,_⟩=>?_
  rw [Ng hi] at hc;cases hc;omega
 ·refine Dh λ⟨c,hc,_,hc1,_⟩=>?_
  rw [Ng hi] at hc;cases hc;omega
 ·refine Bw i.toNat (λv=>v.1) (λj _=> ∀k,k<j->s[k]?≠some s[i.toNat]) rfl (λk hk=>absurd hk (He _)) ?_
  rintro j ⟨i',⟨⟩⟩ K hj mG hR hK
  dsimp only at mG⊢
  subst mG
  refine Br.dec (λhl=>?_) λhl=>?_
  ·have hl:j<i.toNat:=by omega
   have hj:j<s.size:=by omega
   rw [Ar]
   refine ⟨by omega,_,Ng hj,h1,_,Ng hi,⟨λhe=>?_,λhe=>?_⟩⟩
   ·simp only [beq_iff_eq,Jy] at he
    refine Dh λ⟨c,hc,_,_,hc1⟩=>?_
    rw [Ng hi] at hc;cases hc
    exact hc1 j hl (by rw [Ng hj,UInt8.toNat_inj.1 he])
   ·simp only [Rw,ne_eq,Jy] at he
    rw [Bz (by omega)]
    refine hK hl _ rfl λk hk=>?_
    by_cases e:k=j
    ·subst e
     rw [Ng hj]
     exact λe=>he (by rw [Az e])
    ·exact hR k (by omega)
  ·have:j=i.toNat:=by omega
   subst this
   exact Pd ⟨_,Ng hi,by omega,by omega,hR⟩
theorem zX:Sound Tryz.prog 123 eC:=
 Sound.Hj Ee Bo mixed Tryz.func123 (by kernel_rfl) (by kernel_rfl) λx h=>Aa5 x.1 x.2.1 h
theorem TJ (s:ByteArray) (h:s.size<=4294967296):fnW Gr (look [(100,Cr)]) bn Tryz.f151 (s,()) (λ(z:Bool)=>z=bk s):=by
 refine Eq.mp (VK s _) ?_
 refine Bw s.size (λv=>v.1) (λj _=> ∀k,k<j->ye s k) rfl (λk hk=>absurd hk (He _)) ?_
 rintro j ⟨i,⟨⟩⟩ K hj hi hR hK
 dsimp only at hi⊢
 subst hi
 refine Br.dec (λhl=>?_) λhl=>?_
 ·have hl:j<s.size:=by omega
  rw [Ar]
  have hb:=(s[j]).toNat_lt
  refine ⟨by omega,_,Ng hl,_,Ab trivial,⟨λhq=>?_,λhq=>?_⟩⟩
  ·have hq:=Hm hq
   rw [Ep] at hq
   dsimp only at hq
   rw [Cn (by omega) (by omega)] at hq
   refine Dh λhh=>?_
   obtain ⟨c,hc,hc1,hc2,_⟩:=hh.2 j hl
   rw [Ng hl] at hc;cases hc
   exact hq ⟨by omega,by omega⟩
  ·have hq:=Ho hq
   rw [Ep] at hq
   dsimp only at hq
   rw [Cn (by omega) (by omega)] at hq
   refine Bw j (λv=>v.1) (λm _=> ∀k,k<m->s[k]?≠some s[j]) rfl (λk hk=>absurd hk (He _)) ?_
   rintro m ⟨i',⟨⟩⟩ K' hm mG hR' hK'
   dsimp only at mG⊢
   subst mG
   refine Br.dec (λMb=>?_) λMb=>?_
   ·have Mb:m<j:=by omega
    have hm':m<s.size:=by omega
    rw [Ar]
    refine ⟨by omega,_,Ng hm',by omega,_,Ng hl,⟨λhe=>?_,λhe=>?_⟩⟩
    ·simp only [beq_iff_eq,Jy] at he
     refine Dh λhh=>?_
     obtain ⟨c,hc,_,_,hc1⟩:=hh.2 j hl
     rw [Ng hl] at hc;cases hc
     exact hc1 m Mb (by rw [Ng hm',UInt8.toNat_inj.1 he])
    ·simp only [Rw,ne_eq,Jy] at he
     rw [Bz (by omega)]
     refine hK' Mb _ rfl λk hk=>?_
     by_cases e:k=m
     ·subst e
      rw [Ng hm']
      exact λe=>he (by rw [Az e])
     ·exact hR' k (by omega)
   ·have:m=j:=by omega
    subst this
    rw [Bz (by omega)]
    refine hK hl _ rfl λk hk=>?_
    by_cases e:k=m
    ·subst e
     exact ⟨_,Ng hl,by omega,by omega,hR'⟩
    ·exact hR k (by omega)
 ·have:j=s.size:=by omega
  subst this
  refine ⟨_,Ab trivial,?_⟩
  show Pl s.size 1 8=_
  cases hr:Pl s.size 1 8 with
  |true=>rw [Ep] at hr;exact Pd ⟨by omega,hR⟩
  |false=>refine Dh λhh=>?_;rw [Ep.2 ⟨by omega,by omega⟩] at hr;cases hr
theorem wk:Sound Tryz.prog 151 bn:=
 Sound.Hj Ee (Ba Wz Bo) mixed Tryz.func151 (by kernel_rfl) (by kernel_rfl) λx h=>TJ x.1 h
theorem NI {p:PP} (h:Ca p=true):1<=p.1/\p.1<=20/\1<=p.2.2.1.length/\p.2.2.1.length<=8:=by
 obtain ⟨h1,h2,h3⟩:=Is.1 h
 obtain ⟨h4,h5,_⟩:=Is.1 h1
 obtain ⟨h6,_⟩:=Is.1 h2
 omega
theorem zy (p:PP) (h:Fc p):fnW Gr (look [(122,Qv),(123,eC)]) Im Tryz.f63 (p,()) (λ(z:Bool)=>z=Ca p):=by
 obtain ⟨hn,hg⟩:=h
 refine Eq.mp (BF p _) ⟨λh0=>?_,λh0=>⟨λh1=>?_,λh1=>⟨_,Ab hg,⟨λh2=>?_,λh2=>?_⟩⟩⟩⟩
 ·simp only [beq_iff_eq] at h0
  exact Dh λhh=>by obtain ⟨_,h2,h3⟩:=hh;have:=(Is.1 h2).1;omega
 ·simp only [bne_iff_ne,ne_eq,Jy] at h1
  exact Dh λhh=>h1 hh.2.2
 ·have h2:=Hm h2
  exact Dh λhh=>h2 hh.1
 ·simp only [Rw,ne_eq] at h0
  simp only [Rx,Jy] at h1
  have h2:Zw p.1 p.2.2.1=true:=Ho h2
  refine Bw p.2.1.size (λv=>v.1) (λj v=>v.2=(p.1,p.2.1,p.2.2.1,())/\ ∀k,k<j->ye p.2.1 k) rfl ⟨rfl,λk hk=>absurd hk (He _)⟩ ?_
  rintro j ⟨i,v⟩ K hj hi ⟨hv,hR⟩ hK
  dsimp only at hi hv⊢
  subst hi hv
  dsimp only
  refine Br.dec (λhl=>?_) λhl=>?_
  ·have hl:j<p.2.1.size:=by omega
   refine ⟨_,Ab ⟨Int.natCast_nonneg j,Int.ofNat_lt.2 hl,hn⟩,⟨λhq=>?_,λhq=>?_⟩⟩
   ·have hq: ¬nI p.2.1 j=true:=Hm hq
    refine Dh λhh=>hq (Is.2 ?_)
    rw [Ar]
    exact (Is.1 hh.2.1).2 j hl
   ·have hq:nI p.2.1 j=true:=Ho hq
    have hq:=Is.1 hq
    rw [Ar] at hq
    rw [Bz (by omega)]
    refine hK hl _ rfl ⟨rfl,λk hk=>?_⟩
    by_cases e:k=j
    ·subst e;exact hq
    ·exact hR k (by omega)
  ·have:j=p.2.1.size:=by omega
   subst this
   have:=(Is.1 h2).2.1
   exact Pd ⟨h2,Is.2 ⟨⟨by omega,by omega⟩,hR⟩,h1⟩
theorem Zc:Sound Tryz.prog 63 Im:=
 Sound.Hj Ee (Ba pL (Ba zX Bo)) mixed Tryz.func63 (by kernel_rfl) (by kernel_rfl) λx h=>zy x.1 h
theorem zu (p:PP) (h:Fc p):fnW Gr (look [(150,Qv),(151,bn)]) Im Tryz.f99 (p,()) (λ(z:Bool)=>z=Ca p):=by
 obtain ⟨hn,hg⟩:=h
 refine Eq.mp (BA p _) ⟨_,Ab hg,⟨λh1=>⟨_,Ab hn,⟨λh2=>?_,λh2=>?_⟩⟩,λh1=>?_⟩⟩
 ·have h1:Zw p.1 p.2.2.1=true:=h1
  have h2:bk p.2.1=true:=h2
  by_cases e:p.2.1.size=p.2.2.1.length
  ·rw [e,beq_self_eq_true];exact Pd ⟨h1,h2,e⟩
  ·rw [show ((p.2.1.size:Int)==(p.2.2.1.length:Int))=false from Rw.2 (by omega)];exact Dh λhh=>e hh.2.2
 ·have h2:bk p.2.1=false:=h2
  exact Dh λhh=>by rw [hh.2.1] at h2;cases h2
 ·have h1:Zw p.1 p.2.2.1=false:=h1
  exact Dh λhh=>by rw [hh.1] at h1;cases h1
theorem Za:Sound Tryz.prog 99 Im:=
 Sound.Hj Ee (Ba pJ (Ba wk Bo)) mixed Tryz.func99 (by kernel_rfl) (by kernel_rfl) λx h=>zu x.1 h
noncomputable abbrev eD:Spec:=Hj (.pair tI (.pair tL .unit)) .bool false true (λx=>short x.2.1) (λx=>Ht x.1 x.2.1)
noncomputable abbrev Yr:Spec:=Hj (.pair Jc (.pair tL .unit)) .bool false true (λx=>short x.2.1) (λx=>Ht x.1.1 x.2.1)
noncomputable abbrev Ld:Spec:=Hj (.pair Jc (.pair tL .unit)) .bool false true (λx=>Fc x.1/\short x.2.1) (λx=>Ca x.1&&Ht x.1.1 x.2.1)
theorem Abx (n:Int) (s:List Int) (P:Bool->Prop):(Br ((↑s.length:Int)==n) (∃(y3:Bool),Jp.fn (s,())=some y3/\P y3) (P false))=fnW Gr (look [(162,Jp)]) eD Tryz.f124 (n,s,()) P:=by kernel_rfl
theorem ve (p:Int×ByteArray×List (List Int)×Unit) (s:List Int) (P:Bool->Prop):(∃(y3:Int),Ts.fn (s,())=some y3/\Br (y3==p.1) (∃(y4:Bool),Jp.fn (s,())=some y4/\P y4) (P false))=fnW Gr (look [(105,Ts),(130,Jp)]) Yr Tryz.f78 (p,s,()) P:=by kernel_rfl
theorem wO (p:Int×ByteArray×List (List Int)×Unit) (s:List Int) (P:Bool->Prop):(∃(y3:Bool),Im.fn ((p.1,p.2.1,p.2.2.1,()),())=some y3/\Br y3 (∃(y4:Bool),eD.fn (p.1,s,())=some y4/\P y4) (P false))=fnW Gr (look [(63,Im),(124,eD)]) Ld Tryz.f64 (p,s,()) P:=by kernel_rfl
theorem wI (p:Int×ByteArray×List (List Int)×Unit) (s:List Int) (P:Bool->Prop):(∃(y3:Bool),Im.fn ((p.1,p.2.1,p.2.2.1,()),())=some y3/\Br y3 (∃(y4:Bool),Yr.fn ((p.1,p.2.1,p.2.2.1,()),s,())=some y4/\P y4) (P false))=fnW Gr (look [(99,Im),(78,Yr)]) Ld Tryz.f156 (p,s,()) P:=by kernel_rfl
theorem Aa6 (n:Int) (s:List Int) (h:short s):fnW Gr (look [(162,Jp)]) eD Tryz.f124 (n,s,()) (λ(z:Bool)=>z=Ht n s):=by
 refine Eq.mp (Abx n s _) ⟨λhe=>⟨_,Ab h,?_⟩,λhe=>?_⟩
 ·simp only [beq_iff_eq] at he
  show Kj s=_
  cases hp:Kj s with
  |true=>exact Pd ⟨he,hp⟩
  |false=>exact Dh λhh=>by rw [hh.2] at hp;cases hp
 ·simp only [Rw,ne_eq] at he
  exact Dh λhh=>he hh.1
theorem zY:Sound Tryz.prog 124 eD:=
 Sound.Hj Ee (Ba Zb Bo) mixed Tryz.func124 (by kernel_rfl) (by kernel_rfl) λx h=>Aa6 x.1 x.2.1 h
theorem tZ (p:PP) (s:List Int) (h:short s):fnW Gr (look [(105,Ts),(130,Jp)]) Yr Tryz.f78 (p,s,()) (λ(z:Bool)=>z=Ht p.1 s):=by
 refine Eq.mp (ve p s _) ⟨_,Ab trivial,⟨λhe=>⟨_,Ab h,?_⟩,λhe=>?_⟩⟩
 ·simp only [beq_iff_eq] at he
  show Kj s=_
  cases hp:Kj s with
  |true=>exact Pd ⟨he,hp⟩
  |false=>exact Dh λhh=>by rw [hh.2] at hp;cases hp
 ·simp only [Rw,ne_eq] at he
  exact Dh λhh=>he hh.1
theorem mu:Sound Tryz.prog 78 Yr:=
 Sound.Hj Ee (Ba fT (Ba eI Bo)) mixed Tryz.func78 (by kernel_rfl) (by kernel_rfl) λx h=>tZ x.1 x.2.1 h
theorem w8 (p:PP) (s:List Int) (h:Fc p/\short s):fnW Gr (look [(63,Im),(124,eD)]) Ld Tryz.f64 (p,s,()) (λ(z:Bool)=>z=(Ca p&&Ht p.1 s)):=by
 refine Eq.mp (wO p s _) ⟨_,Ab h.1,⟨λhe=>⟨_,Ab h.2,?_⟩,λhe=>?_⟩⟩
 ·have he:Ca p=true:=he
  rw [he];rfl
 ·have he:Ca p=false:=he
  rw [he];rfl
theorem cY:Sound Tryz.prog 64 Ld:=
 Sound.Hj Ee (Ba Zc (Ba zY Bo)) mixed Tryz.func64 (by kernel_rfl) (by kernel_rfl) λx h=>w8 x.1 x.2.1 h
theorem vX (p:PP) (s:List Int) (h:Fc p/\short s):fnW Gr (look [(99,Im),(78,Yr)]) Ld Tryz.f156 (p,s,()) (λ(z:Bool)=>z=(Ca p&&Ht p.1 s)):=by
 refine Eq.mp (wI p s _) ⟨_,Ab h.1,⟨λhe=>⟨_,Ab h.2,?_⟩,λhe=>?_⟩⟩
 ·have he:Ca p=true:=he
  rw [he];rfl
 ·have he:Ca p=false:=he
  rw [he];rfl
theorem o5:Sound Tryz.prog 156 Ld:=
 Sound.Hj Ee (Ba Za (Ba mu Bo)) mixed Tryz.func156 (by kernel_rfl) (by kernel_rfl) λx h=>vX x.1 x.2.1 h
def Ih (xs:List Int) (i:Int):Int:=xs.getD i.toNat 0
def Af (p q:List Int):List Int:=p.map (Ih q)
def cG (f:Nat->Nat) (g:Nat->Int) (m:Nat) (init:List Int):List Int:=(List.range m).foldl (λ(out:List Int) (i:Nat)=>out.set (f i) (g i)) init
def Bt (p:List Int):List Int:=cG (λi=>(Ih p (i:Int)).toNat) (λi=>(i:Int)) p.length (List.replicate p.length 0)
def Ob (n:Nat) (p:List Int):Prop:= ∀y∈p,0<=y/\y<n
noncomputable abbrev Jo:Spec:=Hj (.pair tL (.pair tL .unit)) tL false true (λx=>List.length x.1<=20/\Ob (List.length x.2.1) x.1) (λx=>Af x.1 x.2.1)
noncomputable abbrev Hw:Spec:=Hj (.pair tL .unit) tL false true (λx=>List.length x.1<=20/\Ob (List.length x.1) x.1) (λx=>Bt x.1)
noncomputable abbrev Dl:Spec:=Hj (.pair tI .unit) tL false true (λx=>0<=x.1/\x.1<=20) (λx=>upto x.1.toNat)
noncomputable abbrev Rf:Spec:=Hj (.pair tL .unit) tL false true (λx=>Kj x.1=true) (λx=>Bt x.1)
def Am (g:List (List Int)) (l:Int):List Int:=if l>0 then g.getD (l-1).toNat [] else Bt (g.getD (-l-1).toNat [])
def Fq (n:Int) (l:Int):Prop:=l≠0/\ -n<=l/\l<=n
noncomputable abbrev Ii:Spec:=Hj (.pair kB (.pair tI .unit)) tL false false (λx=>Fq (List.length x.1) x.2.1/\List.length x.1<=8/\ ∀p∈x.1,Kj p=true) (λx=>Am x.1 x.2.1)
def Ax (n:Nat):List Int:=(List.range n).flatMap λ(k:Nat)=> [(k:Int)+1,-((k:Int)+1)]
noncomputable abbrev Mu:Spec:=Hj (.pair tI .unit) tL false true (λx=>0<=x.1/\x.1<=8) (λx=>Ax x.1.toNat)
noncomputable abbrev eA:Spec:=Hj (.pair Jc (.pair tL (.pair tI .unit))) tL false true (λx=>Ca x.1=true/\List.length x.2.1<=20/\(∀y∈x.2.1,0<=y/\y<x.1.1)/\Fq (List.length x.1.2.2.1) x.2.2.1) (λx=>Af x.2.1 (Am x.1.2.2.1 x.2.2.1))
theorem wG (p q:List Int) (P:List Int->Prop):(((0:Int)<=(↑p.length:Int)/\(↑p.length:Int)<(↑Dj:Int)+(1:Int))/\(↑p.length:Int)=(↑p.length:Int)/\0=0/\(List.replicate (↑p.length:Int).toNat (Int.ofNat (nat_lit 0))).length=(List.replicate (↑p.length:Int).toNat (Int.ofNat (nat_lit 0))).length/\Di (λ(v3:Int×List Int×PUnit) (k4:Int×List Int×PUnit->Prop)=>Br (decide (v3.1<(↑p.length:Int))) (∃(y5:Int),idx p v3.1=some y5/\ ∃(y6:Int),idx q y5=some y6/\((0:Int)<=v3.1/\v3.1<(↑v3.2.1.length:Int))/\0+v3.1.toNat<v3.2.1.length/\0=0/\v3.2.1.length=(v3.2.1.set (0+v3.1.toNat) y6).length/\k4 (IntKind.i64.wrap (v3.1+(1:Int)),v3.2.1.set (0+v3.1.toNat) y6,())) (P (List.take v3.2.1.length (List.drop 0 v3.2.1)))) ((0:Int),List.replicate (↑p.length:Int).toNat (Int.ofNat (nat_lit 0)),PUnit.unit))=fnW Gr (look []) Jo Tryz.f134 (p,q,()) P:=by kernel_rfl
theorem wH (p:List Int) (P:List Int->Prop):(((0:Int)<=(↑p.length:Int)/\(↑p.length:Int)<(↑Dj:Int)+(1:Int))/\(↑p.length:Int)=(↑p.length:Int)/\0=0/\(List.replicate (↑p.length:Int).toNat (Int.ofNat (nat_lit 0))).length=(List.replicate (↑p.length:Int).toNat (Int.ofNat (nat_lit 0))).length/\Di (λ(v2:Int×List Int×PUnit) (k3:Int×List Int×PUnit->Prop)=>Br (decide (v2.1<(↑p.length:Int))) (∃(y4:Int),idx p v2.1=some y4/\((0:Int)<=y4/\y4<(↑v2.2.1.length:Int))/\0+y4.toNat<v2.2.1.length/\0=0/\v2.2.1.length=(v2.2.1.set (0+y4.toNat) v2.1).length/\k3 (IntKind.i64.wrap (v2.1+(1:Int)),v2.2.1.set (0+y4.toNat) v2.1,())) (P (List.take v2.2.1.length (List.drop 0 v2.2.1)))) ((0:Int),List.replicate (↑p.length:Int).toNat (Int.ofNat (nat_lit 0)),PUnit.unit))=fnW Gr (look []) Hw Tryz.f58 (p,()) P:=by kernel_rfl
theorem VR (p:List Int) (P:List Int->Prop):(((0:Int)<=(↑p.length:Int)/\(↑p.length:Int)<(↑Dj:Int)+(1:Int))/\(↑p.length:Int)=(↑p.length:Int)/\0=0/\(List.replicate (↑p.length:Int).toNat (Int.ofNat (nat_lit 0))).length=(List.replicate (↑p.length:Int).toNat (Int.ofNat (nat_lit 0))).length/\Di (λ(v2:Int×List Int×PUnit) (k3:Int×List Int×PUnit->Prop)=>Br (decide (v2.1<(↑p.length:Int))) (∃(y4:Int),idx p v2.1=some y4/\((0:Int)<=y4/\y4<(↑v2.2.1.length:Int))/\0+y4.toNat<v2.2.1.length/\0=0/\v2.2.1.length=(v2.2.1.set (0+y4.toNat) v2.1).length/\k3 (IntKind.i64.wrap (v2.1+(1:Int)),v2.2.1.set (0+y4.toNat) v2.1,())) (P (List.take v2.2.1.length (List.drop 0 v2.2.1)))) ((0:Int),List.replicate (↑p.length:Int).toNat (Int.ofNat (nat_lit 0)),PUnit.unit))=fnW Gr (look []) Hw Tryz.f163 (p,()) P:=by kernel_rfl
theorem wN (p:List Int) (P:List Int->Prop):(∃(y2:Bool),Jp.fn (p,())=some y2/\Br (!y2) (P (List.take 0 (List.drop 0 []))) (∃(y3:List Int),Hw.fn (p,())=some y3/\P y3))=fnW Gr (look [(162,Jp),(163,Hw)]) Rf Tryz.f125 (p,()) P:=by kernel_rfl
theorem NP (n:Int) (P:List Int->Prop):(0=0/\0=([]:List Int).length/\Di (λ(v2:Int×List Int×PUnit) (k3:Int×List Int×PUnit->Prop)=>Br (decide (v2.1<n)) (0=0/\v2.2.1.length=v2.2.1.length/\v2.2.1.length+(List.take 1 (List.drop 0 [v2.1])).length<=Dj/\0=0/\(v2.2.1++List.take 1 (List.drop 0 [v2.1])).length=(v2.2.1++List.take 1 (List.drop 0 [v2.1])).length/\k3 (IntKind.i64.wrap (v2.1+(1:Int)),v2.2.1++List.take 1 (List.drop 0 [v2.1]),())) (P (List.take v2.2.1.length (List.drop 0 v2.2.1)))) ((0:Int),[],PUnit.unit))=fnW Gr (look []) Dl Tryz.f96 (n,()) P:=by kernel_rfl
theorem NR (g:List (List Int)) (l:Int) (P:List Int->Prop):(Br (decide (l>(0:Int))) (∃(y3:List Int),idx g (IntKind.i64.wrap (l-(1:Int)))=some y3/\P y3) (∃(y3:List Int),idx g (IntKind.i64.wrap (IntKind.i64.wrap ((0:Int)-l)-(1:Int)))=some y3/\ ∃(y4:List Int),Hw.fn (y3,())=some y4/\P y4))=fnW Gr (look [(58,Hw)]) Ii Tryz.f135 (g,l,()) P:=by kernel_rfl
theorem VM (n:Int) (P:List Int->Prop):(0=0/\0=([]:List Int).length/\Di (λ(v2:Int×List Int×PUnit) (k3:Int×List Int×PUnit->Prop)=>Br (decide (v2.1<n)) (0=0/\v2.2.1.length=v2.2.1.length/\v2.2.1.length+(List.take 2 (List.drop 0 [IntKind.i64.wrap (v2.1+(1:Int)),IntKind.i64.wrap ((0:Int)-IntKind.i64.wrap (v2.1+(1:Int)))])).length<=Dj/\0=0/\(v2.2.1++List.take 2 (List.drop 0 [IntKind.i64.wrap (v2.1+(1:Int)),IntKind.i64.wrap ((0:Int)-IntKind.i64.wrap (v2.1+(1:Int)))])).length=(v2.2.1++List.take 2 (List.drop 0 [IntKind.i64.wrap (v2.1+(1:Int)),IntKind.i64.wrap ((0:Int)-IntKind.i64.wrap (v2.1+(1:Int)))])).length/\k3 (IntKind.i64.wrap (v2.1+(1:Int)),v2.2.1++List.take 2 (List.drop 0 [IntKind.i64.wrap (v2.1+(1:Int)),IntKind.i64.wrap ((0:Int)-IntKind.i64.wrap (v2.1+(1:Int)))]),())) (P (List.take v2.2.1.length (List.drop 0 v2.2.1)))) ((0:Int),[],PUnit.unit))=fnW Gr (look []) Mu Tryz.f139 (n,()) P:=by kernel_rfl
theorem Abr (p:Int×ByteArray×List (List Int)×Unit) (s:List Int) (l:Int) (P:List Int->Prop):(∃(y4:List Int),idx p.2.2.1 (IntKind.i64.wrap ((if true=true then if IntKind.i64.wrap ((0:Int)-l)>l then IntKind.i64.wrap ((0:Int)-l) else l else if IntKind.i64.wrap ((0:Int)-l)<l then IntKind.i64.wrap ((0:Int)-l) else l)-(1:Int)))=some y4/\Br (decide (l<(0:Int))) (∃(y5:List Int),Rf.fn (y4,())=some y5/\0=0/\0=([]:List Int).length/\Di (λ(v6:Int×List Int×PUnit) (k7:Int×List Int×PUnit->Prop)=>Br (decide (v6.1<(↑s.length:Int))) (∃(y8:Int),idx s v6.1=some y8/\ ∃(y9:Int),idx y5 y8=some y9/\0=0/\v6.2.1.length=v6.2.1.length/\v6.2.1.length+(List.take 1 (List.drop 0 [y9])).length<=Dj/\0=0/\(v6.2.1++List.take 1 (List.drop 0 [y9])).length=(v6.2.1++List.take 1 (List.drop 0 [y9])).length/\k7 (IntKind.i64.wrap (v6.1+(1:Int)),v6.2.1++List.take 1 (List.drop 0 [y9]),())) (P (List.take v6.2.1.length (List.drop 0 v6.2.1)))) ((0:Int),[],PUnit.unit)) (0=0/\0=([]:List Int).length/\Di (λ(v5:Int×List Int×PUnit) (k6:Int×List Int×PUnit->Prop)=>Br (decide (v5.1<(↑s.length:Int))) (∃(y7:Int),idx s v5.1=some y7/\ ∃(y8:Int),idx y4 y7=some y8/\0=0/\v5.2.1.length=v5.2.1.length/\v5.2.1.length+(List.take 1 (List.drop 0 [y8])).length<=Dj/\0=0/\(v5.2.1++List.take 1 (List.drop 0 [y8])).length=(v5.2.1++List.take 1 (List.drop 0 [y8])).length/\k6 (IntKind.i64.wrap (v5.1+(1:Int)),v5.2.1++List.take 1 (List.drop 0 [y8]),())) (P (List.take v5.2.1.length (List.drop 0 v5.2.1)))) ((0:Int),[],PUnit.unit)))=fnW Gr (look [(125,Rf)]) eA Tryz.f66 (p,s,l,()) P:=by kernel_rfl
theorem Kz {xs:List Int} {i:Nat} (h:i<xs.length):Ih xs (i:Int)=xs[i]:=by
 unfold Ih
 rw [Ar,Aj,Ac h];rfl
theorem iU {xs:List Int} {y:Int} (h0:0<=y) (h:y<xs.length):idx xs y=some (Ih xs y):=by
 have hy:y.toNat<xs.length:=by omega
 have e:y=(y.toNat:Int):=by omega
 rw [e,Cj hy,Kz hy]
theorem aT (f:Nat->Nat) (g:Nat->Int) (m:Nat) (init:List Int):cG f g (m+1) init=(cG f g m init).set (f m) (g m):=by simp [cG,List.range_succ]
theorem cH (f:Nat->Nat) (g:Nat->Int) (m:Nat) (init:List Int):(cG f g m init).length=init.length:=by
 induction m with
 |zero=>rfl
 |succ m ih=>rw [aT,Dg,ih]
theorem q7 (f:Nat->Nat) (g:Nat->Int) (init:List Int): ∀(m:Nat),(∀i j,i<m->j<m->f i=f j->i=j)-> ∀i,i<m->f i<init.length->(cG f g m init)[f i]?=some (g i)
 |0,_,i,h,_=>absurd h (He _)
 |m+1,hf,i,hi,hl=>by
  rw [aT]
  by_cases e:i=m
  ·subst e
   exact List.getElem?_set_self (by rw [cH];exact hl)
  ·rw [List.getElem?_set_ne (λh=>e (hf i m hi (by omega) h.symm))]
   exact q7 f g init m (λa b ha hb=>hf a b (by omega) (by omega)) i (by omega) hl
structure bz (p:List Int):Prop where
 pos:1<=p.length
 len:p.length<=20
 row:Ob p.length p
 nodup:p.Nodup
theorem dy {p:List Int} (h:Kj p=true):bz p:=by
 obtain ⟨h1,h2,h3⟩:=Is.1 h
 refine ⟨h1,h2,λy hy=>?_,j6 λj hj=>(h3 j hj hj).2.2⟩
 obtain ⟨j,hj,rfl⟩:=Bf.1 hy
 have:=h3 j hj hj
 omega
theorem bz.inj {p:List Int} (h:bz p) (i j:Nat) (hi:i<p.length) (hj:j<p.length) (e:(Ih p (i:Int)).toNat=(Ih p (j:Int)).toNat):i=j:=by
 rw [Kz hi,Kz hj] at e
 have h1:=h.row _ (Al hi)
 have h2:=h.row _ (Al hj)
 have e:p[i]=p[j]:=by omega
 refine Bu λJl=>?_
 rcases Nat.lt_or_gt_of_ne Jl with hl|hl
 ·exact Ej.1 h.nodup i j hi hj hl e
 ·exact Ej.1 h.nodup j i hj hi hl e.symm
theorem bz.TC {p:List Int} (h:bz p) (k:Nat) (hk:k<p.length): ∃i,i<p.length/\(Ih p (i:Int)).toNat=k:=by
 have hm:=(dh (xs:=p) h.row).2 (uW h.nodup) k hk
 obtain ⟨i,hi,e⟩:=Bf.1 hm
 exact ⟨i,hi,by rw [Kz hi,e];exact Ar k⟩
theorem bz.lt {p:List Int} (h:bz p) {i:Nat} (hi:i<p.length):(Ih p (i:Int)).toNat<p.length:=by
 rw [Kz hi]
 have:=h.row _ (Al hi)
 omega
theorem rX (p:List Int):(Bt p).length=p.length:=by unfold Bt;rw [cH,Ja]
theorem ZD {p:List Int} (h:bz p) {i:Nat} (hi:i<p.length):(Bt p)[(Ih p (i:Int)).toNat]?=some (i:Int):=
 q7 (λi=>(Ih p (i:Int)).toNat) (λi=>(i:Int)) _ p.length (λi j hi hj=>h.inj i j hi hj) i hi (by rw [Ja];exact h.lt hi)
theorem Adv {p:List Int} (h:bz p):Ob p.length (Bt p):=by
 intro y hy
 obtain ⟨k,hk,rfl⟩:=Bf.1 hy
 have qg:k<p.length:=by rw [rX] at hk;exact hk
 obtain ⟨i,hi,rfl⟩:=h.TC k qg
 have:=ZD h hi
 rw [Ac hk] at this
 rw [Az this]
 omega
theorem Sb (p q:List Int):(Af p q).length=p.length:=by simp [Af]
theorem CR {p q:List Int} {n:Nat} (hp:Ob q.length p) (hq:Ob n q):Ob n (Af p q):=by
 intro y hy
 obtain ⟨x,hx,rfl⟩:=Bj.1 hy
 have h1:=hp x hx
 rw [show x=(x.toNat:Int) by omega,Kz (by omega)]
 exact hq _ (Al _)
theorem vV (p q:List Int) (h:p.length<=20/\Ob q.length p):fnW Gr (look []) Jo Tryz.f134 (p,q,()) (λ(z:List Int)=>z=Af p q):=by
 obtain ⟨h,hr⟩:=h
 refine Eq.mp (wG p q _) ?_
 refine ⟨⟨by omega,by show (p.length:Int)<(4294967296:Int)+1;omega⟩,rfl,rfl,rfl,?_⟩
 have Qo:=Sb p q
 refine Bw p.length (λv=>v.1) (λj v=>v.2.1.length=(Af p q).length/\v.2.1.take j=(Af p q).take j) rfl ⟨by rw [Qo];simp,by simp⟩ ?_
 rintro j ⟨i,ys,⟨⟩⟩ K hj hi ⟨h1,h2⟩ hK
 dsimp only at hi h1 h2⊢
 subst hi
 refine Br.dec (λhl=>?_) λhl=>?_
 ·have hl:j<p.length:=by omega
  have hy:=hr _ (Al hl)
  refine ⟨_,Cj hl,_,iU hy.1 hy.2,⟨by omega,by omega⟩,by rw [Ar];omega,rfl,by rw [Dg],?_⟩
  rw [Bz (by omega),Ar,Cb]
  have Mb:j<(Af p q).length:=by rw [Qo];exact hl
  have e:Ih q p[j]=(Af p q)[j]:=by simp [Af]
  rw [e]
  exact hK hl _ rfl ⟨by rw [Dg];exact h1,dD Mb h1 h2⟩
 ·have:j=p.length:=by omega
  subst this
  rw [<-Qo,Bc,<-h1,Bc] at h2
  rw [Fy,Bc]
  exact h2
theorem Wx:Sound Tryz.prog 134 Jo:=
 Sound.Hj Ee Bo mixed Tryz.func134 (by kernel_rfl) (by kernel_rfl) λx h=>vV x.1 x.2.1 h
theorem vW (p:List Int) (h:p.length<=20/\Ob p.length p):fnW Gr (look []) Hw Tryz.f58 (p,()) (λ(z:List Int)=>z=Bt p):=by
 obtain ⟨h,hr⟩:=h
 refine Eq.mp (wH p _) ?_
 refine ⟨⟨by omega,by show (p.length:Int)<(4294967296:Int)+1;omega⟩,rfl,rfl,rfl,?_⟩
 refine Bw p.length (λv=>v.1) (λj v=>v.2.1=cG (λi=>(Ih p (i:Int)).toNat) (λi=>(i:Int)) j (List.replicate p.length 0)) rfl rfl ?_
 rintro j ⟨i,ys,⟨⟩⟩ K hj hi h1 hK
 dsimp only at hi h1⊢
 subst hi
 have hlen:ys.length=p.length:=by rw [h1,cH,Ja]
 refine Br.dec (λhl=>?_) λhl=>?_
 ·have hl:j<p.length:=by omega
  have hy:=hr _ (Al hl)
  refine ⟨_,Cj hl,⟨by omega,by omega⟩,by omega,rfl,by rw [Dg],?_⟩
  rw [Bz (by omega),Cb]
  refine hK hl _ rfl ?_
  rw [aT,<-h1,Kz hl]
 ·have:j=p.length:=by omega
  subst this
  rw [Fy,Bc]
  exact h1
theorem Wy:Sound Tryz.prog 58 Hw:=
 Sound.Hj Ee Bo mixed Tryz.func58 (by kernel_rfl) (by kernel_rfl) λx h=>vW x.1 h
theorem TQ (p:List Int) (h:p.length<=20/\Ob p.length p):fnW Gr (look []) Hw Tryz.f163 (p,()) (λ(z:List Int)=>z=Bt p):=by
 obtain ⟨h,hr⟩:=h
 refine Eq.mp (VR p _) ?_
 refine ⟨⟨by omega,by show (p.length:Int)<(4294967296:Int)+1;omega⟩,rfl,rfl,rfl,?_⟩
 refine Bw p.length (λv=>v.1) (λj v=>v.2.1=cG (λi=>(Ih p (i:Int)).toNat) (λi=>(i:Int)) j (List.replicate p.length 0)) rfl rfl ?_
 rintro j ⟨i,ys,⟨⟩⟩ K hj hi h1 hK
 dsimp only at hi h1⊢
 subst hi
 have hlen:ys.length=p.length:=by rw [h1,cH,Ja]
 refine Br.dec (λhl=>?_) λhl=>?_
 ·have hl:j<p.length:=by omega
  have hy:=hr _ (Al hl)
  refine ⟨_,Cj hl,⟨by omega,by omega⟩,by omega,rfl,by rw [Dg],?_⟩
  rw [Bz (by omega),Cb]
  refine hK hl _ rfl ?_
  rw [aT,<-h1,Kz hl]
 ·have:j=p.length:=by omega
  subst this
  rw [Fy,Bc]
  exact h1
theorem lj:Sound Tryz.prog 163 Hw:=
 Sound.Hj Ee Bo mixed Tryz.func163 (by kernel_rfl) (by kernel_rfl) λx h=>TQ x.1 h
theorem w7 (p:List Int) (h:Kj p=true):fnW Gr (look [(162,Jp),(163,Hw)]) Rf Tryz.f125 (p,()) (λ(z:List Int)=>z=Bt p):=by
 have hp:=dy h
 have hs:short p:=by have:=hp.len;unfold short;omega
 refine Eq.mp (wN p _) ⟨_,Ab hs,⟨λhe=>?_,λ_=>⟨_,Ab ⟨hp.len,hp.row⟩,rfl⟩⟩⟩
 exact absurd h (Hm he)
theorem o9:Sound Tryz.prog 125 Rf:=
 Sound.Hj Ee (Ba Zb (Ba lj Bo)) mixed Tryz.func125 (by kernel_rfl) (by kernel_rfl) λx h=>w7 x.1 h
theorem eK (j:Nat):upto (j+1)=upto j++ [(j:Int)]:=by simp [upto,List.range_succ]
theorem LF (n:Int) (h:0<=n/\n<=20):fnW Gr (look []) Dl Tryz.f96 (n,()) (λ(z:List Int)=>z=upto n.toNat):=by
 refine Eq.mp (NP n _) ⟨rfl,rfl,?_⟩
 refine Bw n.toNat (λv=>v.1) (λj v=>v.2.1=upto j) rfl rfl ?_
 rintro j ⟨i,ys,⟨⟩⟩ K hj hi h1 hK
 dsimp only at hi h1⊢
 subst hi h1
 refine Br.dec (λhl=>?_) λhl=>?_
 ·refine ⟨rfl,rfl,?_,rfl,rfl,?_⟩
  ·show (upto j).length+1<=4294967296
   rw [Sv];omega
  ·rw [Bz (by omega)]
   exact hK (by omega) _ rfl (eK j).symm
 ·have:j=n.toNat:=by omega
  subst this
  rw [Fy,Bc]
theorem c9:Sound Tryz.prog 96 Dl:=
 Sound.Hj Ee Bo mixed Tryz.func96 (by kernel_rfl) (by kernel_rfl) λx h=>LF x.1 h
theorem On {g:List (List Int)} {k:Nat} (h:k<g.length):Am g ((k:Int)+1)=g[k]:=by
 unfold Am
 rw [Ab (by omega),show ((k:Int)+1-1).toNat=k by omega,Aj,Ac h];rfl
theorem Om {g:List (List Int)} {k:Nat} (h:k<g.length):Am g (-((k:Int)+1))=Bt g[k]:=by
 unfold Am
 rw [Ai (by omega),show (-(-((k:Int)+1))-1).toNat=k by omega,Aj,Ac h];rfl
theorem Oc {n:Nat} {l:Int} (h:Fq n l): ∃k:Nat,k<n/\(l=(k:Int)+1\/l= -((k:Int)+1)):=by
 obtain ⟨h1,h2,h3⟩:=h
 by_cases h0:0<l
 ·exact ⟨(l-1).toNat,by omega, .inl (by omega)⟩
 ·exact ⟨(-l-1).toNat,by omega, .inr (by omega)⟩
theorem LH (g:List (List Int)) (l:Int) (h:Fq (List.length g) l/\List.length g<=8/\ ∀p∈g,Kj p=true):fnW Gr (look [(58,Hw)]) Ii Tryz.f135 (g,l,()) (λ(z:List Int)=>z=Am g l):=by
 obtain ⟨hl,h8,hp⟩:=h
 refine Eq.mp (NR g l _) ?_
 obtain ⟨k,hk,rfl|rfl⟩:=Oc hl
 ·refine Br.dec (λ_=>?_) λhn=>by omega
  rw [Cn (by omega) (by omega),show (k:Int)+1-1=(k:Int) by omega]
  exact ⟨_,Cj hk,(On hk).symm⟩
 ·refine Br.dec (λhn=>by omega) λ_=>?_
  rw [Cn (n:=0- -((k:Int)+1)) (by omega) (by omega),Cn (by omega) (by omega),show (0:Int)- -((k:Int)+1)-1=(k:Int) by omega]
  have:=dy (hp _ (Al hk))
  exact ⟨_,Cj hk,_,Ab ⟨this.len,this.row⟩,(Om hk).symm⟩
theorem jt:Sound Tryz.prog 135 Ii:=
 Sound.Hj Ee (Ba Wy Bo) mixed Tryz.func135 (by kernel_rfl) (by kernel_rfl) λx h=>LH x.1 x.2.1 h
theorem bU (j:Nat):Ax (j+1)=Ax j++ [(j:Int)+1,-((j:Int)+1)]:=by simp [Ax,List.range_succ,List.flatMap_append]
theorem Oo (j:Nat):(Ax j).length=2*j:=by
 induction j with
 |zero=>rfl
 |succ j ih=>rw [bU,Au,ih];simp only [Aw,Eo];omega
theorem Lo {n:Nat} {l:Int} (h:l∈Ax n):Fq n l:=by
 unfold Ax at h
 obtain ⟨k,hk,hl⟩:=Hy.1 h
 have hk:=Es.1 hk
 simp only [Bg,List.not_mem_nil,or_false] at hl
 unfold Fq
 omega
theorem TL (n:Int) (h:0<=n/\n<=8):fnW Gr (look []) Mu Tryz.f139 (n,()) (λ(z:List Int)=>z=Ax n.toNat):=by
 refine Eq.mp (VM n _) ⟨rfl,rfl,?_⟩
 refine Bw n.toNat (λv=>v.1) (λj v=>v.2.1=Ax j) rfl rfl ?_
 rintro j ⟨i,ys,⟨⟩⟩ K hj hi h1 hK
 dsimp only at hi h1⊢
 subst hi h1
 refine Br.dec (λhl=>?_) λhl=>?_
 ·refine ⟨rfl,rfl,?_,rfl,rfl,?_⟩
  ·show (Ax j).length+2<=4294967296
   rw [Oo];omega
  ·have e1:IntKind.i64.wrap ((j:Int)+1)=(j:Int)+1:=Cn (by omega) (by omega)
   have e2:IntKind.i64.wrap ((0:Int)-((j:Int)+1))= -((j:Int)+1):=by rw [Cn (by omega) (by omega)];omega
   rw [e1,e2]
   exact hK (by omega) _ rfl (bU j).symm
 ·have:j=n.toNat:=by omega
  subst this
  rw [Fy,Bc]
theorem lh:Sound Tryz.prog 139 Mu:=
 Sound.Hj Ee Bo mixed Tryz.func139 (by kernel_rfl) (by kernel_rfl) λx h=>TL x.1 h
structure Valid (p:PP):Prop where
 n:1<=p.1/\p.1<=20
 gu:1<=p.2.2.1.length/\p.2.2.1.length<=8
 perm: ∀m∈p.2.2.1,Kj m=true
 len: ∀m∈p.2.2.1,(m.length:Int)=p.1
theorem valid {p:PP} (h:Ca p=true):Valid p:=by
 have h0:=NI h
 obtain ⟨h1,_,_⟩:=Is.1 h
 obtain ⟨_,_,h4⟩:=Is.1 h1
 exact ⟨⟨h0.1,h0.2.1⟩,h0.2.2,λm hm=>(Is.1 (h4 m hm)).2,λm hm=>(Is.1 (h4 m hm)).1⟩
theorem jW {p:PP} (h:Valid p) {l:Int} (hl:Fq (List.length p.2.2.1) l):((Am p.2.2.1 l).length:Int)=p.1/\Ob (Am p.2.2.1 l).length (Am p.2.2.1 l):=by
 obtain ⟨k,hk,rfl|rfl⟩:=Oc hl
 ·rw [On hk]
  exact ⟨h.len _ (Al hk),(dy (h.perm _ (Al hk))).row⟩
 ·rw [Om hk,rX]
  exact ⟨h.len _ (Al hk),Adv (dy (h.perm _ (Al hk)))⟩
theorem BY (s y:List Int) (P:List Int->Prop) (h1:s.length<=20) (h2:Ob y.length s) (h3:P (Af s y)):
  Di
   (λ(v5:Int×List Int×PUnit) (k6:Int×List Int×PUnit->Prop)=>
    Br (decide (v5.1<(↑s.length:Int)))
     (∃(y7:Int),
      idx s v5.1=some y7/\
       ∃(y8:Int),
        idx y y7=some y8/\
         (0:Nat)=(0:Nat)/\
          v5.2.1.length=v5.2.1.length/\
           v5.2.1.length+(List.take (1:Nat) (List.drop (0:Nat) [y8])).length<=Dj/\
            (0:Nat)=(0:Nat)/\
             (v5.2.1++List.take (1:Nat) (List.drop (0:Nat) [y8])).length=(v5.2.1++List.take (1:Nat) (List.drop (0:Nat) [y8])).length/\
              k6 (IntKind.i64.wrap (v5.1+(1:Int)),v5.2.1++List.take (1:Nat) (List.drop (0:Nat) [y8]),()))
     (P (List.take v5.2.1.length (List.drop (0:Nat) v5.2.1))))
   ((0:Int),([]:List Int),PUnit.unit):=by
 refine Bw s.length (λv=>v.1) (λj v=>v.2.1=(s.take j).map (Ih y)) rfl (by simp) ?_
 rintro j ⟨i,ys,⟨⟩⟩ K hj hi hR hK
 dsimp only at hi hR⊢
 subst hi hR
 refine Br.dec (λhl=>?_) λhl=>?_
 ·have hl:j<s.length:=by omega
  have hy:=h2 _ (Al hl)
  refine ⟨_,Cj hl,_,iU hy.1 hy.2,rfl,rfl,?_,rfl,rfl,?_⟩
  ·show ((s.take j).map (Ih y)).length+1<=4294967296
   rw [Gh,Dc];omega
  ·rw [Bz (by omega)]
   refine hK hl _ rfl ?_
   dsimp only
   rw [Cu hl,Mj]
   rfl
 ·have:j=s.length:=by omega
  subst this
  rw [Fy,Bc,Bc]
  exact h3
theorem Aa0 (p:PP) (s:List Int) (l:Int) (h:Ca p=true/\List.length s<=20/\(∀y∈s,0<=y/\y<p.1)/\Fq (List.length p.2.2.1) l):fnW Gr (look [(125,Rf)]) eA Tryz.f66 (p,s,l,()) (λ(z:List Int)=>z=Af s (Am p.2.2.1 l)):=by
 obtain ⟨hv,hs,hr,hl⟩:=h
 have hv:=valid hv
 have hf:=hv.gu
 refine Eq.mp (Abr p s l _) ?_
 have PB:=jW hv hl
 have ct:Ob (Am p.2.2.1 l).length s:= λy hy=>by have:=hr y hy;omega
 obtain ⟨k,hk,rfl|rfl⟩:=Oc hl
 ·rw [Ab rfl,Cn (n:=0-((k:Int)+1)) (by omega) (by omega),Ai (by omega),Cn (by omega) (by omega),show (k:Int)+1-1=(k:Int) by omega]
  refine ⟨_,Cj hk,Br.dec (λhn=>by omega) λ_=>⟨rfl,rfl,?_⟩⟩
  rw [On hk] at ct⊢
  exact BY s _ (λz=>z=Af s p.2.2.1[k]) hs ct rfl
 ·rw [Ab rfl,Cn (n:=0- -((k:Int)+1)) (by omega) (by omega),Ab (by omega),Cn (by omega) (by omega),show (0:Int)- -((k:Int)+1)-1=(k:Int) by omega]
  refine ⟨_,Cj hk,Br.dec (λ_=>⟨_,Ab (hv.perm _ (Al hk)),rfl,rfl,?_⟩) λhn=>by omega⟩
  rw [Om hk] at ct⊢
  exact BY s (Bt p.2.2.1[k]) (λz=>z=Af s (Bt p.2.2.1[k])) hs ct rfl
theorem o1:Sound Tryz.prog 66 eA:=
 Sound.Hj Ee (Ba o9 Bo) mixed Tryz.func66 (by kernel_rfl) (by kernel_rfl) λx h=>Aa0 x.1 x.2.1 x.2.2.1 h
abbrev rL:CK:= .row tI 2
abbrev xLL:CK:= .Ij tL 33
def low (k:Int):Prop:=0<=k/\k<=1099511627776
theorem Bv {α:Type} (xs:List α):List.take xs.length (List.drop 0 xs)=xs:=by rw [Fy,Bc]
theorem kN: ∀(xs:List Int) (a:Int),xs.foldl max a=a\/xs.foldl max a∈xs
 | [],a=> .inl rfl
 |y::xs,a=>by
  simp only [Df]
  rcases kN xs (max a y) with h|h
  ·rw [h]
   rcases Int.le_total a y with h1|h1
   ·rw [Int.max_eq_right h1];exact .inr (by simp)
   ·rw [Int.max_eq_left h1];exact .inl rfl
  ·exact .inr (Ao _ h)
noncomputable abbrev ur:MSpec:=jZ [none] [(false, .Eh (.oslice tI))] false [none] [rL] (λx=>short (x.1.getD [])) (λx=>((x.1.getD [],()),()))
noncomputable abbrev c6:MSpec:=jZ [none] [(false, .Eh tL)] false [none] [rL] (λx=>short x.1) (λx=>((x.1,()),()))
noncomputable abbrev Kn:Spec:=Hj (.pair tL .unit) tL false true (λx=>short x.1) (λx=>x.1)
theorem Abt (xs:Option (List Int)) (P:((List Int×Unit)×Unit)->Prop):(Br xs.isNone (P ((List.take 0 (List.drop 0 []),()),())) (0=0/\0=([]:List Int).length/\0+(xs.getD []).length<=Dj/\P ((List.take ([]++xs.getD []).length (List.drop 0 ([]++xs.getD [])),()),())))=fnMW Rk (look []) ur Tryz.f138 (xs,()) P:=by kernel_rfl
theorem NM (xs:List Int) (P:List Int->Prop):(0=0/\0=([]:List Int).length/\0+xs.length<=Dj/\P (List.take ([]++xs).length (List.drop 0 ([]++xs))))=fnW Gr (look []) Kn Tryz.f68 (xs,()) P:=by kernel_rfl
theorem Aa2 (xs:Option (List Int)) (h:short (xs.getD [])):fnMW Rk (look []) ur Tryz.f138 (xs,()) (λ(z:(List Int×Unit)×Unit)=>z=((xs.getD [],()),())):=by
 unfold short at h
 refine Eq.mp (Abt xs _) ⟨λhn=>?_,λ_=>⟨rfl,rfl,by show 0+(xs.getD []).length<=4294967296;omega,?_⟩⟩
 ·cases xs with
  |none=>rfl
  |some y=>cases hn
 ·simp only [Bv,ic]
theorem zU:Cl Tryz.prog 138 ur:=
 Cl.jZ Qm Bo mixed Tryz.func138 (by kernel_rfl) (by kernel_rfl) λx h=>Aa2 x.1 h
theorem o3:Cl Tryz.prog 138 c6:=Cl.ofO zU λ_ _ h=>⟨h,rfl⟩
theorem KZ (xs:List Int) (h:short xs):fnW Gr (look []) Kn Tryz.f68 (xs,()) (λ(z:List Int)=>z=xs):=by
 unfold short at h
 refine Eq.mp (NM xs _) ⟨rfl,rfl,by show 0+xs.length<=4294967296;omega,?_⟩
 simp only [Bv,ic]
theorem c8:Sound Tryz.prog 68 Kn:=
 Sound.Hj Ee Bo mixed Tryz.func68 (by kernel_rfl) (by kernel_rfl) λx h=>KZ x.1 h
def Ed (xs is:List Int):List Int:=is.map (Ih xs)
noncomputable abbrev bq:MSpec:=jZ [none,none] [(false, .Eh tL),(false, .Eh tL)] false [none] [rL] (λx=>short x.2.1/\Ob (List.length x.1) x.2.1) (λx=>((Ed x.1 x.2.1,()),()))
def Xn (xs:List Int):ByteArray:=bytesOf (xs.map λx=>IntKind.u8.wrap x)
noncomputable abbrev Le:Spec:=Hj (.pair tL .unit) .str false true (λx=>short x.1) (λx=>Xn x.1)
def nQ (ps:List (List Int)) (p:List Int):Int:=Md (λq=>decide (q=p)) ps 0
theorem VO (xs is:List Int) (P:((List Int×Unit)×Unit)->Prop):(((0:Int)<=(↑is.length:Int)/\(↑is.length:Int)<(↑Dj:Int)+(1:Int))/\(↑is.length:Int)=(↑is.length:Int)/\0=0/\(List.replicate (↑is.length:Int).toNat (Int.ofNat (nat_lit 0))).length=(List.replicate (↑is.length:Int).toNat (Int.ofNat (nat_lit 0))).length/\Di (λ(v3:Int×List Int×PUnit) (k4:Int×List Int×PUnit->Prop)=>Br (decide (v3.1<(↑is.length:Int))) (∃(y5:Int),idx is v3.1=some y5/\ ∃(y6:Int),idx xs y5=some y6/\((0:Int)<=v3.1/\v3.1<(↑v3.2.1.length:Int))/\0+v3.1.toNat<v3.2.1.length/\0=0/\v3.2.1.length=(v3.2.1.set (0+v3.1.toNat) y6).length/\k4 (IntKind.i64.wrap (v3.1+(1:Int)),v3.2.1.set (0+v3.1.toNat) y6,())) (P ((List.take v3.2.1.length (List.drop 0 v3.2.1),()),()))) ((0:Int),List.replicate (↑is.length:Int).toNat (Int.ofNat (nat_lit 0)),PUnit.unit))=fnMW Rk (look []) bq Tryz.f79 (xs,is,()) P:=by kernel_rfl
theorem NZ (xs:List Int) (P:ByteArray->Prop):(((0:Int)<=(↑xs.length:Int)/\(↑xs.length:Int)<(↑Dj:Int)+(1:Int))/\(↑xs.length:Int)=(↑xs.length:Int)/\0=0/\(List.replicate (↑xs.length:Int).toNat (Int.ofNat (nat_lit 0))).length=(List.replicate (↑xs.length:Int).toNat (Int.ofNat (nat_lit 0))).length/\Di (λ(v2:Int×List Int×PUnit) (k3:Int×List Int×PUnit->Prop)=>Br (decide (v2.1<(↑xs.length:Int))) (∃(y4:Int),idx xs v2.1=some y4/\((0:Int)<=v2.1/\v2.1<(↑v2.2.1.length:Int))/\0+v2.1.toNat<v2.2.1.length/\0=0/\v2.2.1.length=(v2.2.1.set (0+v2.1.toNat) (IntKind.u8.wrap y4)).length/\k3 (IntKind.i64.wrap (v2.1+(1:Int)),v2.2.1.set (0+v2.1.toNat) (IntKind.u8.wrap y4),())) (P (bytesOf (List.take v2.2.1.length (List.drop 0 v2.2.1))))) ((0:Int),List.replicate (↑xs.length:Int).toNat (Int.ofNat (nat_lit 0)),PUnit.unit))=fnW Gr (look []) Le Tryz.f121 (xs,()) P:=by kernel_rfl
theorem FZ (xs is:List Int):(Ed xs is).length=is.length:=by simp [Ed]
theorem TN (xs is:List Int) (h:short is/\Ob xs.length is):fnMW Rk (look []) bq Tryz.f79 (xs,is,()) (λ(z:(List Int×Unit)×Unit)=>z=((Ed xs is,()),())):=by
 obtain ⟨h,hr⟩:=h
 unfold short at h
 refine Eq.mp (VO xs is _) ?_
 refine ⟨⟨by omega,by show (is.length:Int)<(4294967296:Int)+1;omega⟩,rfl,rfl,rfl,?_⟩
 have Qo:=FZ xs is
 refine Bw is.length (λv=>v.1) (λj v=>v.2.1.length=(Ed xs is).length/\v.2.1.take j=(Ed xs is).take j) rfl ⟨by rw [Qo];simp,by simp⟩ ?_
 rintro j ⟨i,ys,⟨⟩⟩ K hj hi ⟨h1,h2⟩ hK
 dsimp only at hi h1 h2⊢
 subst hi
 refine Br.dec (λhl=>?_) λhl=>?_
 ·have hl:j<is.length:=by omega
  have hy:=hr _ (Al hl)
  refine ⟨_,Cj hl,_,iU hy.1 hy.2,⟨by omega,by omega⟩,by rw [Ar];omega,rfl,by rw [Dg],?_⟩
  rw [Bz (by omega),Ar,Cb]
  have Mb:j<(Ed xs is).length:=by rw [Qo];exact hl
  have e:Ih xs is[j]=(Ed xs is)[j]:=by simp [Ed]
  rw [e]
  exact hK hl _ rfl ⟨by rw [Dg];exact h1,dD Mb h1 h2⟩
 ·have:j=is.length:=by omega
  subst this
  rw [<-Qo,Bc,<-h1,Bc] at h2
  rw [Fy,Bc,h2]
theorem wq:Cl Tryz.prog 79 bq:=
 Cl.jZ Qm Bo mixed Tryz.func79 (by kernel_rfl) (by kernel_rfl) λx h=>TN x.1 x.2.1 h
theorem LP (xs:List Int) (h:short xs):fnW Gr (look []) Le Tryz.f121 (xs,()) (λ(z:ByteArray)=>z=Xn xs):=by
 unfold short at h
 refine Eq.mp (NZ xs _) ?_
 refine ⟨⟨by omega,by show (xs.length:Int)<(4294967296:Int)+1;omega⟩,rfl,rfl,rfl,?_⟩
 have Qo:(xs.map λx=>IntKind.u8.wrap x).length=xs.length:=by simp
 refine Bw xs.length (λv=>v.1) (λj v=>v.2.1.length=(xs.map λx=>IntKind.u8.wrap x).length/\v.2.1.take j=(xs.map λx=>IntKind.u8.wrap x).take j) rfl ⟨by rw [Qo];simp,by simp⟩ ?_
 rintro j ⟨i,ys,⟨⟩⟩ K hj hi ⟨h1,h2⟩ hK
 dsimp only at hi h1 h2⊢
 subst hi
 refine Br.dec (λhl=>?_) λhl=>?_
 ·have hl:j<xs.length:=by omega
  refine ⟨_,Cj hl,⟨by omega,by omega⟩,by rw [Ar];omega,rfl,by rw [Dg],?_⟩
  rw [Bz (by omega),Ar,Cb]
  have Mb:j<(xs.map λx=>IntKind.u8.wrap x).length:=by rw [Qo];exact hl
  have e:IntKind.u8.wrap xs[j]=(xs.map λx=>IntKind.u8.wrap x)[j]:=by simp
  rw [e]
  exact hK hl _ rfl ⟨by rw [Dg];exact h1,dD Mb h1 h2⟩
 ·have:j=xs.length:=by omega
  subst this
  rw [<-Qo,Bc,<-h1,Bc] at h2
  rw [Fy,Bc,h2];rfl
theorem ca:Sound Tryz.prog 121 Le:=
 Sound.Hj Ee Bo mixed Tryz.func121 (by kernel_rfl) (by kernel_rfl) λx h=>LP x.1 h
theorem gC {α:Type} (P:α->Bool) (y:α): ∀(l:List α) (i:Int),0<=i->Md P (l++ [y]) i=if Md P l i<0 then (if P y=true then i+l.length else-1) else Md P l i
 | [],i,_=>by simp [Md]
 |x::r,i,h=>by
  simp only [Ti,Md,Aw]
  split
  ·rw [Ai (by omega)]
  ·rw [gC P y r (i+1) (by omega),show i+1+(r.length:Int)=i+((r.length+1:Nat):Int) by push_cast;omega]
theorem zB (ps:List (List Int)) (q p:List Int):nQ (ps++ [q]) p=if nQ ps p<0 then (if q=p then (ps.length:Int) else-1) else nQ ps p:=by
 unfold nQ
 rw [gC _ _ _ _ (Gi 0)]
 simp only [Ri,Int.zero_add]
def gn (p:List Int):Prop:= ∀x∈p,0<=x/\x<256
theorem WY {x y:Int} (hx:0<=x/\x<256) (hy:0<=y/\y<256) (h:UInt8.ofNat (IntKind.u8.wrap x).toNat=UInt8.ofNat (IntKind.u8.wrap y).toNat):x=y:=by
 have h:=Gz UInt8.toNat h
 simp only [IntKind.wrap_u8,UInt8.toNat_ofNat'] at h
 omega
theorem bytes_inj: ∀(p q:List Int),gn p->gn q->(p.map λx=>UInt8.ofNat (IntKind.u8.wrap x).toNat)=(q.map λx=>UInt8.ofNat (IntKind.u8.wrap x).toNat)->p=q
 | [],[],_,_,_=>rfl
 | [],_::_,_,_,h=>by simp at h
 |_::_,[],_,_,h=>by simp at h
 |x::p,y::q,hp,hq,h=>by
  simp only [Cc,Hb] at h
  rw [WY (hp x (by simp)) (hq y (by simp)) h.1,bytes_inj p q (λz hz=>hp z (by simp [hz])) (λz hz=>hq z (by simp [hz])) h.2]
theorem key_inj {p q:List Int} (hp:gn p) (hq:gn q) (h:Xn p=Xn q):p=q:=by
 refine bytes_inj p q hp hq ?_
 simp only [Xn,bytesOf,ByteArray.mk.injEq,List.map_map] at h
 have h:=Gz Array.toList h
 simpa [Function.comp_def] using h
def KM (m:ByteArray->Option Int) (ps:List (List Int)):Prop:= ∀p,gn p->m (Xn p)=if nQ ps p<0 then none else some (nQ ps p)
theorem KM.nil:KM (λ_=>none) []:= λp _=>by
 rw [Ab (by unfold nQ;simp [Md])]
theorem KM.add {m:ByteArray->Option Int} {ps:List (List Int)} {q:List Int} (h:KM m ps) (hq:gn q) (hn:nQ ps q<0):KM (jA m (Xn q) (ps.length:Int)) (ps++ [q]):=by
 intro p hp
 rw [zB]
 unfold jA
 by_cases e:p=q
 ·subst e
  rw [Ab rfl,Ab hn,Ab rfl,Ai (by omega)]
 ·rw [Ai (λhk=>e (key_inj hp hq hk)),h p hp]
  have e': ¬q=p:= λh=>e h.symm
  rw [Ai e']
  by_cases SG:nQ ps p<0
  ·rw [Ab SG,Ab SG,Ab (by decide)]
  ·rw [Ai SG,Ai SG,Ai SG]
def QD (m l:Int):Bool:=decide (l≠0/\ -m<=l/\l<=m)
def lN (n:Int):Int:=if 8<n then 8 else n
def Nb (n:Int) (w:List Int):Bool:=decide (w.length<=200)&&!(List.any w λy=>!QD (lN n) y)
noncomputable abbrev eF:Spec:=Hj (.pair tI (.pair tL .unit)) .bool false true (λx=>short x.2.1/\0<=x.1/\x.1<=4294967296) (λx=>Nb x.1 x.2.1)
theorem NQ (n:Int) (w:List Int) (P:Bool->Prop):(Br (decide ((↑w.length:Int)>(200:Int))) (P false) (Di (λ(v3:Int×PUnit) (k4:Int×PUnit->Prop)=>Br (decide (v3.1<(↑w.length:Int))) (∃(y5:Int),idx w v3.1=some y5/\Br (y5==(0:Int)) (P false) (∃(y6:Int),idx w v3.1=some y6/\ ∃(y7:Bool),Cr.fn (y6,(-8:Int),(8:Int),())=some y7/\Br (!y7) (P false) (∃(y8:Int),idx w v3.1=some y8/\Br (decide (y8>n)) (P false) (∃(y9:Int),idx w v3.1=some y9/\Br (decide (IntKind.i64.wrap ((0:Int)-y9)>n)) (P false) (k4 (IntKind.i64.wrap (v3.1+(1:Int)),())))))) (P true)) ((0:Int),PUnit.unit)))=fnW Gr (look [(95,Cr)]) eF Tryz.f80 (n,w,()) P:=by kernel_rfl
theorem Ae0 {m l:Int} :QD m l=true↔l≠0/\ -m<=l/\l<=m:=Kx
theorem zp {n l:Int} (hn:0<=n):QD (lN n) l=true↔l≠0/\(-8<=l/\l<=8)/\l<=n/\ -l<=n:=by
 rw [Ae0];unfold lN;split<;>omega
theorem LG (n:Int) (w:List Int) (h:short w/\0<=n/\n<=4294967296):fnW Gr (look [(95,Cr)]) eF Tryz.f80 (n,w,()) (λ(z:Bool)=>z=Nb n w):=by
 refine Eq.mp (NQ n w _) (Br.dec (λhl=>?_) λhl=>?_)
 ·unfold Nb
  rw [Ez (by omega),Bool.false_and]
 ·have e0:Nb n w=!(List.any w λy=>!QD (lN n) y):=by unfold Nb;rw [Cy (by omega),Sx]
  have bad: ∀(j:Nat) (hj:j<w.length),¬(w[j]≠0/\(-8<=w[j]/\w[j]<=8)/\w[j]<=n/\ -w[j]<=n)->false=Nb n w:= λj hj hn=>by
   rw [e0]
   have:(List.any w λy=>!QD (lN n) y)=true:=Gd.2 ⟨w[j],Al hj,by
    have:QD (lN n) w[j]=false:=Nq.2 λht=>hn ((zp h.2.1).1 ht)
    rw [this];rfl⟩
   rw [this];rfl
  refine Bw w.length (λv=>v.1) (λj _=> ∀y∈w.take j,QD (lN n) y=true) rfl (by simp) ?_
  rintro j ⟨i,⟨⟩⟩ K hj hi hR hK
  dsimp only at hi⊢
  subst hi
  refine Br.dec (λhl=>?_) λhl=>?_
  ·have hl:j<w.length:=by omega
   refine ⟨_,Cj hl,⟨λhz=>?_,λhz=>⟨_,Cj hl,_,Ab trivial,⟨λhq=>?_,λhq=>⟨_,Cj hl,Br.dec (λhg=>?_) λhg=>⟨_,Cj hl,Br.dec (λhm=>?_) λhm=>?_⟩⟩⟩⟩⟩⟩
   ·simp only [beq_iff_eq] at hz
    exact bad j hl λhh=>hh.1 hz
   ·have hq:=Hm hq
    rw [Ep] at hq
    exact bad j hl λhh=>hq hh.2.1
   ·exact bad j hl λhh=>absurd hh.2.2.1 (by omega)
   ·have hq:=Ho hq
    rw [Ep] at hq
    dsimp only at hq
    rw [Cn (by omega) (by omega)] at hm
    exact bad j hl λhh=>absurd hh.2.2.2 (by omega)
   ·have hq:=Ho hq
    rw [Ep] at hq
    dsimp only at hq
    simp only [Rw,ne_eq] at hz
    rw [Cn (by omega) (by omega)] at hm
    rw [Bz (by omega)]
    refine hK hl _ rfl ?_
    rw [Cu hl]
    intro y hy
    rcases Ay.1 hy with hy|hy
    ·exact hR y hy
    ·rw [Ad.1 hy]
     exact (zp h.2.1).2 ⟨hz,hq,by omega,by omega⟩
  ·have:j=w.length:=by omega
   subst this
   rw [Bc] at hR
   rw [e0]
   have:(List.any w λy=>!QD (lN n) y)=false:=by
    refine Nq.2 λht=>?_
    obtain ⟨y,hy,h1⟩:=Gd.1 ht
    rw [hR y hy] at h1
    cases h1
   rw [this];rfl
theorem uE:Sound Tryz.prog 80 eF:=
 Sound.Hj Ee (Ba Rh Bo) mixed Tryz.func80 (by kernel_rfl) (by kernel_rfl) λx h=>LG x.1 x.2.1 h
theorem dF {n:Nat} {w:List Int} (h:Nb (n:Int) w=true):w.length<=200/\ ∀y∈w,Fq n y:=by
 unfold Nb at h
 simp only [Ag,Ri,Er] at h
 refine ⟨h.1,λy hy=>?_⟩
 have h1:QD (lN n) y=true:=by
  cases ho:QD (lN n) y with
  |true=>rfl
  |false=>
   have h2:(List.any w λy=>!QD (lN (n:Int)) y)=true:=Gd.2 ⟨y,hy,by rw [ho];rfl⟩
   rw [h.2] at h2;cases h2
 have:=(zp (by omega)).1 h1
 unfold Fq
 omega
noncomputable abbrev Oe:Spec:=Hj (.pair Jc .unit) tL false true (λx=>List.length x.1.2.2.1<=8) (λx=>Ax (List.length x.1.2.2.1))
abbrev oh:Type:=Int×Int×ByteArray×List (List Int)×List Int×PUnit
theorem HO (p:Int×ByteArray×List (List Int)×Unit) (P:List Int->Prop):(0=0/\0=([]:List Int).length/\Di (λ(v2:oh) (k3:oh->Prop)=>Br (decide (v2.1<=(↑v2.2.2.2.1.length:Int))) (0=0/\v2.2.2.2.2.1.length=v2.2.2.2.2.1.length/\v2.2.2.2.2.1.length+(List.take 2 (List.drop 0 [v2.1,IntKind.i64.wrap ((0:Int)-v2.1)])).length<=Dj/\0=0/\(v2.2.2.2.2.1++List.take 2 (List.drop 0 [v2.1,IntKind.i64.wrap ((0:Int)-v2.1)])).length=(v2.2.2.2.2.1++List.take 2 (List.drop 0 [v2.1,IntKind.i64.wrap ((0:Int)-v2.1)])).length/\k3 (IntKind.i64.wrap (v2.1+(1:Int)),v2.2.1,v2.2.2.1,v2.2.2.2.1,v2.2.2.2.2.1++List.take 2 (List.drop 0 [v2.1,IntKind.i64.wrap ((0:Int)-v2.1)]),())) (P (List.take v2.2.2.2.2.1.length (List.drop 0 v2.2.2.2.2.1)))) ((1:Int),p.1,p.2.1,p.2.2.1,[],PUnit.unit))=fnW Gr (look []) Oe Tryz.f65 (p,()) P:=by kernel_rfl
theorem FR (p:PP) (h:List.length p.2.2.1<=8):fnW Gr (look []) Oe Tryz.f65 (p,()) (λ(z:List Int)=>z=Ax (List.length p.2.2.1)):=by
 refine Eq.mp (HO p _) ⟨rfl,rfl,?_⟩
 refine Di.mk (λv=> ∃j:Nat,j<=List.length p.2.2.1/\v=((j:Int)+1,p.1,p.2.1,p.2.2.1,Ax j,())) (λv=>List.length p.2.2.1+1-v.1.toNat) ⟨0,Kw _,rfl⟩ ?_
 rintro _ ⟨j,hj,rfl⟩
 dsimp only
 refine Br.dec (λhl=>?_) λhl=>?_
 ·refine ⟨rfl,rfl,?_,rfl,rfl,⟨j+1,by omega,?_⟩,?_⟩
  ·show (Ax j).length+2<=4294967296
   rw [Oo];omega
  ·rw [bU,Cn (n:=(j:Int)+1+1) (by omega) (by omega),Cn (n:=0-((j:Int)+1)) (by omega) (by omega),Int.zero_sub]
   rfl
  ·rw [Cn (by omega) (by omega)];omega
 ·have:j=List.length p.2.2.1:=by omega
  subst this
  rw [Bv]
theorem gJ:Sound Tryz.prog 65 Oe:=
 Sound.Hj Ee Bo mixed Tryz.func65 (by kernel_rfl) (by kernel_rfl) λx h=>FR x.1 h
abbrev rLL:CK:= .row tL 33
def zd (v:Int):List Int->Nat
 | []=>0
 |x::r=>if x>v then zd v r+1 else 0
def Adx (v:Int) (t:List Int):Option (List Int):=if zd v t=0 then none else some (Ih t ((zd v t-1:Nat):Int)::(t.set (zd v t-1) v).reverse)
def pe:List Int->Option (List Int)
 | []=>none
 |v::t=>match pe t with
  |some t'=>some (v::t')
  |none=>Adx v t
theorem FA {s s':List Int} (h:pe s=some s'): ∀pre:List Int,pe (pre++s)=some (pre++s')
 | []=>h
 |v::p=>by rw [Ti,pe,FA h p];rfl
theorem Aec {α:Type} (pre:List α) (v a:α) (t:List α):(pre++v::t).set pre.length a=pre++a::t:=by
 rw [List.set_append,Ai (by omega)];simp
inductive Run:List Int->List (List Int)->List Int->Prop where
 |one (a:List Int):Run a [a] a
 |more {a c b:List Int} {L:List (List Int)} :pe a=some c->Run c L b->Run a (a::L) b
theorem Run.cons {a b:List Int} {L:List (List Int)} (h:Run a L b) (v:Int):Run (v::a) (L.map (v:: ·)) (v::b):=by
 induction h with
 |one a=>exact .one _
 |more h3 _ ih=>exact .more (FA h3 [v]) ih
theorem Run.head {a b:List Int} {L:List (List Int)} (h:Run a L b): ∃M,L=a::M:=by
 cases h with
 |one=>exact ⟨_,rfl⟩
 |more _ _=>exact ⟨_,rfl⟩
theorem Run.at {a b:List Int} {L:List (List Int)} (h:Run a L b): ∀j (hj:j<L.length),(∀h2:j+1<L.length,pe L[j]=some L[j+1])/\(j+1=L.length->L[j]=b):=by
 induction h with
 |one a=>
  intro j hj
  simp only [Be] at hj
  have:j=0:=by omega
  subst this
  exact ⟨λh2=>by simp at h2,λ_=>rfl⟩
 |more h3 h4 ih=>
  intro j hj
  rcases j with _|j
  ·obtain ⟨M,hM⟩:=h4.head
   refine ⟨λh2=>?_,λh2=>?_⟩
   ·simp only [List.getElem_cons_zero,List.getElem_cons_succ]
    subst hM
    exact h3
   ·subst hM;simp at h2
  ·have:=ih j (by simpa using hj)
   refine ⟨λh2=>?_,λh2=>?_⟩
   ·simp only [List.getElem_cons_succ]
    exact this.1 (by simpa using h2)
   ·simp only [List.getElem_cons_succ]
    exact this.2 (by simpa using h2)
def Fe:List Int->List Int->Int
 | [],[]=>0
 | [],_::_=> -1
 |_::_,[]=>1
 |x::a,y::b=>if x<y then-1 else if x>y then 1 else Fe a b
def fv (a b:List Int):Bool:=decide (Fe a b<0)
noncomputable abbrev Yv:Spec:=Hj (.pair tL (.pair tL .unit)) .bool false true (λx=>short x.1/\List.length x.1=List.length x.2.1) (λx=>fv x.1 x.2.1)
theorem NU (a b:List Int) (P:Bool->Prop):(Di (λ(v3:Int×PUnit) (k4:Int×PUnit->Prop)=>Br (decide (v3.1<(↑a.length:Int))) (∃(y5:Int),idx a v3.1=some y5/\ ∃(y6:Int),idx b v3.1=some y6/\Br (y5 !=y6) (∃(y7:Int),idx a v3.1=some y7/\ ∃(y8:Int),idx b v3.1=some y8/\P (decide (y7<y8))) (k4 (IntKind.i64.wrap (v3.1+(1:Int)),()))) (P false)) ((0:Int),PUnit.unit))=fnW Gr (look []) Yv Tryz.f166 (a,b,()) P:=by kernel_rfl
theorem LK (a b:List Int) (h:short a/\a.length=b.length):fnW Gr (look []) Yv Tryz.f166 (a,b,()) (λ(z:Bool)=>z=fv a b):=by
 obtain ⟨ha,hb⟩:=h
 unfold short at ha
 refine Eq.mp (NU a b _) ?_
 refine Bw a.length (λv=>v.1) (λj _=>Fe (a.drop j) (b.drop j)=Fe a b) rfl (by simp) ?_
 rintro j ⟨i,⟨⟩⟩ K hj hi hR2 hK
 dsimp only at hi⊢
 subst hi
 refine Br.dec (λhl=>?_) λhl=>?_
 ·have hl:j<a.length:=by omega
  have hlb:j<b.length:=by omega
  rw [Fg hl,Fg hlb] at hR2
  simp only [Fe] at hR2
  refine ⟨_,Cj hl,_,Cj hlb,⟨λJl=>?_,λJl=>?_⟩⟩
  ·refine ⟨_,Cj hl,_,Cj hlb,?_⟩
   have Jl:a[j]≠b[j]:=by simpa using Jl
   unfold fv
   rw [<-hR2]
   by_cases h1:a[j]<b[j]
   ·rw [Ab h1];simp [h1]
   ·rw [Ai h1,Ab (by omega)];simp [h1]
  ·have Jl:a[j]=b[j]:=by simpa using Jl
   rw [Ai (by omega),Ai (by omega)] at hR2
   rw [Bz (by omega)]
   exact hK hl _ rfl hR2
 ·have:j=a.length:=by omega
  subst this
  rw [Tj,List.drop_eq_nil_of_le (by omega)] at hR2
  unfold fv
  rw [<-hR2]
  rfl
theorem uI:Sound Tryz.prog 166 Yv:=
 Sound.Hj Ee Bo mixed Tryz.func166 (by kernel_rfl) (by kernel_rfl) λx h=>LK x.1 x.2.1 h
abbrev SS:Type:=List (List Int)×List Int×List Int×Bool×Unit
abbrev rLS:CK:= .row tL 33
abbrev rN:CK:= .row tI 3
def Gu (L:List (List Int)) (Ly:List Int) (s:List Int):Nat:=(Ly.takeWhile λi=>fv (L.getD i.toNat []) s).length
structure Gf (m:Nat) (L:List (List Int)) (Ly:List Int):Prop where
 gu:L.length<=3000
 len: ∀x∈L,x.length=m
 short:m<=20
 perm:Ly.Perm (upto L.length)
 sorted:Ly.Pairwise λi j=>fv (L.getD i.toNat []) (L.getD j.toNat [])=true
def l7 (L:List (List Int)) (s:List Int):Int:=if s∈L then (L.idxOf s:Int) else-1
def Xm (Ly:List Int) (k:Nat) (x:Int):List Int:=Ly.take k++x::Ly.drop k
noncomputable abbrev fR:Spec:=Hj (.pair bb (.pair tL .unit)) tI false true (λx=>Gf (List.length x.2.1) x.1.1 x.1.2.2.1) (λx=>(Gu x.1.1 x.1.2.2.1 x.2.1:Int))
noncomputable abbrev Wu:Spec:=Hj (.pair bb (.pair tL .unit)) tI false true (λx=>Gf (List.length x.2.1) x.1.1 x.1.2.2.1) (λx=>l7 x.1.1 x.2.1)
noncomputable abbrev mr:MSpec:=jZ [some 4,none,none] [(false,rLS),(false,rL),(false,rN),(false, .Eh .bool),(false, .Eh tL),(false, .Eh tI)] false [some 4] [rLS,rL,rN, .Eh .bool]
 (λx=>Gf (List.length x.2.2.2.2.1) x.1 x.2.2.1/\List.length x.2.1<=3000) (λx=>((x.1++ [x.2.2.2.2.1],x.2.1++ [x.2.2.2.2.2.1],Xm x.2.2.1 (Gu x.1 x.2.2.1 x.2.2.2.2.1) (List.length x.1),x.2.2.2.1,()),()))
def cb (L:List (List Int)):List Int:=(List.range L.length).foldl (λ(S:List Int) (i:Nat)=>Xm S (Gu (L.take i) S (L.getD i [])) (i:Int)) []
def Jk (g:List (List Int)) (x:List Int) (d:Int):List Int->List (List Int)->List Int->List (List Int)×List Int×Bool
 | [],L,D=>(L,D,true)
 |l::ls,L,D=>if Af x (Am g l)∈L then Jk g x d ls L D else if L.length=3000 then (L,D,false) else Jk g x d ls (L++ [Af x (Am g l)]) (D++ [d+1])
def Ma (g:List (List Int)) (ls:List Int):Nat->Nat->List (List Int)->List Int->List (List Int)×List Int×Bool
 |0,_,L,D=>(L,D,true)
 |f+1,k,L,D=>if k<L.length then (match Jk g (L.getD k []) (D.getD k 0) ls L D with
  |(L',D',true)=>Ma g ls f (k+1) L' D'
  |(L',D',false)=>(L',D',false)) else (L,D,true)
def Hi (g:List (List Int)) (s:List Int):List (List Int)×List Int×Bool:=Ma g (Ax g.length) 3001 0 [s] [0]
def Ds (g:List (List Int)) (s:List Int):SS:=((Hi g s).1,(Hi g s).2.1,cb (Hi g s).1,(Hi g s).2.2,())
noncomputable abbrev Gx:Spec:=Hj (.pair Jc (.pair tL .unit)) bb false false (λx=>Ca x.1=true/\List.length x.2.1<=20/\ ∀y∈x.2.1,0<=y/\y<x.1.1) (λx=>Ds x.1.2.2.1 x.2.1)
abbrev QQ:Type:=Int×Int×List (List Int)×List Int×List Int×Bool×PUnit
theorem Ajo (f:List (List Int)×List Int×List Int×Bool×Unit) (s:List Int) (P:Int->Prop):(Di (λ(v3:QQ) (k4:QQ->Prop)=>Br (decide (v3.1<v3.2.1)) ((2:Int)≠(0:Int)/\ ∃(y5:Int),idx v3.2.2.2.2.1 (IntKind.i64.wrap ((IntKind.i64.wrap (v3.1+v3.2.1)).tdiv (2:Int)))=some y5/\ ∃(y6:List Int),idx v3.2.2.1 y5=some y6/\ ∃(y7:Bool),Yv.fn (y6,s,())=some y7/\Br y7 (k4 (IntKind.i64.wrap (IntKind.i64.wrap ((IntKind.i64.wrap (v3.1+v3.2.1)).tdiv (2:Int))+(1:Int)),v3.2.1,v3.2.2.1,v3.2.2.2.1,v3.2.2.2.2.1,v3.2.2.2.2.2.1,())) (k4 (v3.1,IntKind.i64.wrap ((IntKind.i64.wrap (v3.1+v3.2.1)).tdiv (2:Int)),v3.2.2.1,v3.2.2.2.1,v3.2.2.2.2.1,v3.2.2.2.2.2.1,()))) (P v3.1)) ((0:Int),(↑f.2.2.1.length:Int),f.1,f.2.1,f.2.2.1,f.2.2.2.1,PUnit.unit))=fnW Gr (look [(166,Yv)]) fR Tryz.f129 (f,s,()) P:=by kernel_rfl
theorem Aby (f:List (List Int)×List Int×List Int×Bool×Unit) (s:List Int) (P:Int->Prop):(∃(y3:Int),fR.fn ((f.1,f.2.1,f.2.2.1,f.2.2.2.1,()),s,())=some y3/\Br (decide (y3<(↑f.2.2.1.length:Int))) (∃(y4:Int),idx f.2.2.1 y3=some y4/\ ∃(y5:List Int),idx f.1 y4=some y5/\ ∃(y6:Bool),Ew.fn (y5,s,())=some y6/\Br y6 (∃(y7:Int),idx f.2.2.1 y3=some y7/\P y7) (P (-1:Int))) (P (-1:Int)))=fnW Gr (look [(129,fR),(128,Ew)]) Wu Tryz.f75 (f,s,()) P:=by kernel_rfl
theorem Ajn (L:List (List Int)) (D S:List Int) (b:Bool) (s:List Int) (d:Int) (P:((List (List Int)×List Int×List Int×Bool×Unit)×Unit)->Prop):(∃(y7:Int),fR.fn ((List.take L.length (List.drop 0 L),List.take D.length (List.drop 0 D),List.take S.length (List.drop 0 S),b,()),s,())=some y7/\0=0/\S.length=S.length/\S.length+(List.take 1 (List.drop 0 [(0:Int)])).length<=Dj/\((0:Int)<=IntKind.i64.wrap (y7+(1:Int))/\IntKind.i64.wrap (y7+(1:Int))<=(↑(S++List.take 1 (List.drop 0 [(0:Int)])).length:Int)/\(↑(S++List.take 1 (List.drop 0 [(0:Int)])).length:Int)<=(↑(S++List.take 1 (List.drop 0 [(0:Int)])).length:Int))/\((0:Int)<=y7/\y7<=(↑(S++List.take 1 (List.drop 0 [(0:Int)])).length:Int)/\(↑(S++List.take 1 (List.drop 0 [(0:Int)])).length:Int)<=(↑(S++List.take 1 (List.drop 0 [(0:Int)])).length:Int))/\((0:Int)<=y7/\y7<(↑(S++List.take 1 (List.drop 0 [(0:Int)])).length:Int))/\0+y7.toNat<(Dt (S++List.take 1 (List.drop 0 [(0:Int)])) (0+(IntKind.i64.wrap (y7+(1:Int))).toNat) (List.take ((↑(S++List.take 1 (List.drop 0 [(0:Int)])).length:Int).toNat-(IntKind.i64.wrap (y7+(1:Int))).toNat) (List.take ((↑(S++List.take 1 (List.drop 0 [(0:Int)])).length:Int).toNat-y7.toNat) (List.drop (0+y7.toNat) (S++List.take 1 (List.drop 0 [(0:Int)])))))).length/\0=0/\L.length=L.length/\L.length+(List.take 1 (List.drop 0 [s])).length<=Dj/\0=0/\D.length=D.length/\D.length+(List.take 1 (List.drop 0 [d])).length<=Dj/\P ((List.take (L++List.take 1 (List.drop 0 [s])).length (List.drop 0 (L++List.take 1 (List.drop 0 [s]))),List.take (D++List.take 1 (List.drop 0 [d])).length (List.drop 0 (D++List.take 1 (List.drop 0 [d]))),List.take (S++List.take 1 (List.drop 0 [(0:Int)])).length (List.drop 0 ((Dt (S++List.take 1 (List.drop 0 [(0:Int)])) (0+(IntKind.i64.wrap (y7+(1:Int))).toNat) (List.take ((↑(S++List.take 1 (List.drop 0 [(0:Int)])).length:Int).toNat-(IntKind.i64.wrap (y7+(1:Int))).toNat) (List.take ((↑(S++List.take 1 (List.drop 0 [(0:Int)])).length:Int).toNat-y7.toNat) (List.drop (0+y7.toNat) (S++List.take 1 (List.drop 0 [(0:Int)])))))).set (0+y7.toNat) (↑L.length:Int))),b,()),()))=fnMW Rk (look [(129,fR)]) mr Tryz.f164 (L,D,S,b,s,d,()) P:=by kernel_rfl
abbrev oo:Type:=Int×Int×ByteArray×List (List Int)×Bool×Bool×List (List Int)×List Int×List Int×List (List Int)×List Int×List Int×PUnit
abbrev GX:Type:=(List (List Int)×List Int×List Int×Bool×PUnit)×PUnit
theorem Aer (p:Int×ByteArray×List (List Int)×Unit) (s:List Int) (P:(List (List Int)×List Int×List Int×Bool×Unit)->Prop):(∃(y3:List Int),Kn.fn (s,())=some y3/\ ∃(y4:GX),mr.fn ([],[],[],false,y3,(0:Int),())=some y4/\ ∃(y5:List Int),Oe.fn ((p.1,p.2.1,p.2.2.1,()),())=some y5/\0=0/\0=([]:List Int).length/\0=0/\0=([]:List Int).length/\0=0/\0=([]:List Int).length/\0=0/\y4.1.1.length=y4.1.1.length/\0=0/\y4.1.2.1.length=y4.1.2.1.length/\0=0/\y4.1.2.2.1.length=y4.1.2.2.1.length/\Di (λ(v6:oo) (k7:oo->Prop)=>Br (decide (v6.1<(↑v6.2.2.2.2.2.2.2.2.2.1.length:Int))) (0=0/\v6.2.2.2.2.2.2.1.length=v6.2.2.2.2.2.2.1.length/\0=0/\v6.2.2.2.2.2.2.2.1.length=v6.2.2.2.2.2.2.2.1.length/\0=0/\v6.2.2.2.2.2.2.2.2.1.length=v6.2.2.2.2.2.2.2.2.1.length/\0=0/\v6.2.2.2.2.2.2.2.2.2.1.length=v6.2.2.2.2.2.2.2.2.2.1.length/\0=0/\v6.2.2.2.2.2.2.2.2.2.2.1.length=v6.2.2.2.2.2.2.2.2.2.2.1.length/\0=0/\v6.2.2.2.2.2.2.2.2.2.2.2.1.length=v6.2.2.2.2.2.2.2.2.2.2.2.1.length/\Di (λ(v8:oo) (k9:oo->Prop)=>Br (decide (v8.1<(↑y5.length:Int))) (((0:Int)<=v6.1/\v6.1<(↑v8.2.2.2.2.2.2.2.2.2.1.length:Int))/\ ∃(Jw:List Int),v8.2.2.2.2.2.2.2.2.2.1[0+v6.1.toNat]?=some Jw/\ ∃(Ix:Int),idx y5 v8.1=some Ix/\ ∃(Jf:List Int),eA.fn ((v8.2.1,v8.2.2.1,v8.2.2.2.1,()),Jw,Ix,())=some Jf/\ ∃(Hl:Int),Wu.fn ((List.take v8.2.2.2.2.2.2.2.2.2.1.length (List.drop 0 v8.2.2.2.2.2.2.2.2.2.1),List.take v8.2.2.2.2.2.2.2.2.2.2.1.length (List.drop 0 v8.2.2.2.2.2.2.2.2.2.2.1),List.take v8.2.2.2.2.2.2.2.2.2.2.2.1.length (List.drop 0 v8.2.2.2.2.2.2.2.2.2.2.2.1),v8.2.2.2.2.2.1,()),Jf,())=some Hl/\Br (decide (Hl>=(0:Int))) (0=0/\v8.2.2.2.2.2.2.1.length=v8.2.2.2.2.2.2.1.length/\0=0/\v8.2.2.2.2.2.2.2.1.length=v8.2.2.2.2.2.2.2.1.length/\0=0/\v8.2.2.2.2.2.2.2.2.1.length=v8.2.2.2.2.2.2.2.2.1.length/\0=0/\v8.2.2.2.2.2.2.2.2.2.1.length=v8.2.2.2.2.2.2.2.2.2.1.length/\0=0/\v8.2.2.2.2.2.2.2.2.2.2.1.length=v8.2.2.2.2.2.2.2.2.2.2.1.length/\0=0/\v8.2.2.2.2.2.2.2.2.2.2.2.1.length=v8.2.2.2.2.2.2.2.2.2.2.2.1.length/\k9 (IntKind.i64.wrap (v8.1+(1:Int)),v8.2.1,v8.2.2.1,v8.2.2.2.1,v8.2.2.2.2.1,v8.2.2.2.2.2.1,v8.2.2.2.2.2.2.1,v8.2.2.2.2.2.2.2.1,v8.2.2.2.2.2.2.2.2.1,v8.2.2.2.2.2.2.2.2.2.1,v8.2.2.2.2.2.2.2.2.2.2.1,v8.2.2.2.2.2.2.2.2.2.2.2.1,())) (Br ((↑v8.2.2.2.2.2.2.2.2.2.1.length:Int)==(3000:Int)) (P (List.take v8.2.2.2.2.2.2.2.2.2.1.length (List.drop 0 v8.2.2.2.2.2.2.2.2.2.1),List.take v8.2.2.2.2.2.2.2.2.2.2.1.length (List.drop 0 v8.2.2.2.2.2.2.2.2.2.2.1),List.take v8.2.2.2.2.2.2.2.2.2.2.2.1.length (List.drop 0 v8.2.2.2.2.2.2.2.2.2.2.2.1),v8.2.2.2.2.2.1,())) (((0:Int)<=v6.1/\v6.1<(↑v8.2.2.2.2.2.2.2.2.2.2.1.length:Int))/\ ∃(Iu:Int),v8.2.2.2.2.2.2.2.2.2.2.1[0+v6.1.toNat]?=some Iu/\0=0/\v8.2.2.2.2.2.2.2.2.2.1.length=v8.2.2.2.2.2.2.2.2.2.1.length/\0=0/\v8.2.2.2.2.2.2.2.2.2.2.1.length=v8.2.2.2.2.2.2.2.2.2.2.1.length/\0=0/\v8.2.2.2.2.2.2.2.2.2.2.2.1.length=v8.2.2.2.2.2.2.2.2.2.2.2.1.length/\ ∃(Io:GX),mr.fn (v8.2.2.2.2.2.2.2.2.2.1,v8.2.2.2.2.2.2.2.2.2.2.1,v8.2.2.2.2.2.2.2.2.2.2.2.1,v8.2.2.2.2.2.1,Jf,IntKind.i64.wrap (Iu+(1:Int)),())=some Io/\0=0/\v8.2.2.2.2.2.2.1.length=v8.2.2.2.2.2.2.1.length/\0=0/\v8.2.2.2.2.2.2.2.1.length=v8.2.2.2.2.2.2.2.1.length/\0=0/\v8.2.2.2.2.2.2.2.2.1.length=v8.2.2.2.2.2.2.2.2.1.length/\0=0/\Io.1.1.length=Io.1.1.length/\0=0/\Io.1.2.1.length=Io.1.2.1.length/\0=0/\Io.1.2.2.1.length=Io.1.2.2.1.length/\k9 (IntKind.i64.wrap (v8.1+(1:Int)),v8.2.1,v8.2.2.1,v8.2.2.2.1,v8.2.2.2.2.1,Io.1.2.2.2.1,v8.2.2.2.2.2.2.1,v8.2.2.2.2.2.2.2.1,v8.2.2.2.2.2.2.2.2.1,Io.1.1,Io.1.2.1,Io.1.2.2.1,())))) (0=0/\v8.2.2.2.2.2.2.1.length=v8.2.2.2.2.2.2.1.length/\0=0/\v8.2.2.2.2.2.2.2.1.length=v8.2.2.2.2.2.2.2.1.length/\0=0/\v8.2.2.2.2.2.2.2.2.1.length=v8.2.2.2.2.2.2.2.2.1.length/\0=0/\v8.2.2.2.2.2.2.2.2.2.1.length=v8.2.2.2.2.2.2.2.2.2.1.length/\0=0/\v8.2.2.2.2.2.2.2.2.2.2.1.length=v8.2.2.2.2.2.2.2.2.2.2.1.length/\0=0/\v8.2.2.2.2.2.2.2.2.2.2.2.1.length=v8.2.2.2.2.2.2.2.2.2.2.2.1.length/\k7 (IntKind.i64.wrap (v6.1+(1:Int)),v8.2.1,v8.2.2.1,v8.2.2.2.1,v8.2.2.2.2.1,v8.2.2.2.2.2.1,v8.2.2.2.2.2.2.1,v8.2.2.2.2.2.2.2.1,v8.2.2.2.2.2.2.2.2.1,v8.2.2.2.2.2.2.2.2.2.1,v8.2.2.2.2.2.2.2.2.2.2.1,v8.2.2.2.2.2.2.2.2.2.2.2.1,()))) ((0:Int),v6.2.1,v6.2.2.1,v6.2.2.2.1,v6.2.2.2.2.1,v6.2.2.2.2.2.1,v6.2.2.2.2.2.2.1,v6.2.2.2.2.2.2.2.1,v6.2.2.2.2.2.2.2.2.1,v6.2.2.2.2.2.2.2.2.2.1,v6.2.2.2.2.2.2.2.2.2.2.1,v6.2.2.2.2.2.2.2.2.2.2.2.1,PUnit.unit)) (P (List.take v6.2.2.2.2.2.2.2.2.2.1.length (List.drop 0 v6.2.2.2.2.2.2.2.2.2.1),List.take v6.2.2.2.2.2.2.2.2.2.2.1.length (List.drop 0 v6.2.2.2.2.2.2.2.2.2.2.1),List.take v6.2.2.2.2.2.2.2.2.2.2.2.1.length (List.drop 0 v6.2.2.2.2.2.2.2.2.2.2.2.1),true,()))) ((0:Int),p.1,p.2.1,p.2.2.1,false,y4.1.2.2.2.1,[],[],[],y4.1.1,y4.1.2.1,y4.1.2.2.1,PUnit.unit))=fnW Ajc (look [(68,Kn),(164,mr),(65,Oe),(66,eA),(75,Wu)]) Gx Tryz.f126 (p,s,()) P:=by kernel_rfl
theorem sG: ∀ {a b:List Int},Fe a b=0↔a=b
 | [],[]=>by simp [Fe]
 | [],_::_=>by simp [Fe]
 |_::_,[]=>by simp [Fe]
 |x::a,y::b=>by
  simp only [Fe,Hb]
  by_cases h1:x<y
  ·rw [Ab h1]
   exact ⟨λh=>by omega,λh=>by omega⟩
  ·rw [Ai h1]
   by_cases h2:x>y
   ·rw [Ab h2]
    exact ⟨λh=>by omega,λh=>by omega⟩
   ·rw [Ai h2,sG]
    exact ⟨λh=>⟨by omega,h⟩,λh=>h.2⟩
theorem OL: ∀(a b:List Int),Fe b a= -Fe a b
 | [],[]=>by simp [Fe]
 | [],_::_=>by simp [Fe]
 |_::_,[]=>by simp [Fe]
 |x::a,y::b=>by
  simp only [Fe]
  rcases Int.lt_trichotomy x y with h1|h1|h1
  ·simp [h1,show ¬y<x by omega]
  ·subst h1
   simp [OL a b]
  ·simp [h1,show ¬x<y by omega]
theorem x4: ∀ {a b c:List Int},Fe a b<0->Fe b c<0->Fe a c<0
 | [],[],_,h,_=>by simp [Fe] at h
 |_::_,[],_,h,_=>by simp [Fe] at h
 |_,_::_,[],_,h=>by simp [Fe] at h
 | [],_::_,_::_,_,_=>by simp [Fe]
 |x::a,y::b,z::c,h1,h2=>by
  simp only [Fe] at h1 h2⊢
  by_cases e1:x<y
  ·by_cases e2:y<z
   ·rw [Ab (by omega)];omega
   ·rw [Ai e2] at h2
    by_cases e3:y>z
    ·rw [Ab e3] at h2;omega
    ·rw [Ab (by omega)];omega
  ·rw [Ai e1] at h1
   by_cases e2:x>y
   ·rw [Ab e2] at h1;omega
   ·rw [Ai e2] at h1
    by_cases e3:y<z
    ·rw [Ab (by omega)];omega
    ·rw [Ai e3] at h2
     by_cases e4:y>z
     ·rw [Ab e4] at h2;omega
     ·rw [Ai e4] at h2
      rw [Ai (by omega),Ai (by omega)]
      exact x4 h1 h2
theorem lt_iff {a b:List Int} :fv a b=true↔Fe a b<0:=Kx
theorem SV {a b c:List Int} (h1:fv a b=true) (h2:fv b c=true):fv a c=true:=lt_iff.2 (x4 (lt_iff.1 h1) (lt_iff.1 h2))
theorem m9 (a:List Int):fv a a=false:=by
 have:Fe a a=0:=sG.2 rfl
 unfold fv;rw [this];rfl
theorem ZO {a b:List Int} (h:fv a b=false) (Jl:a≠b):fv b a=true:=by
 rw [lt_iff,OL a b]
 have h1: ¬Fe a b<0:= λh'=>by rw [lt_iff.2 h'] at h;cases h
 have h2:Fe a b≠0:= λh'=>Jl (sG.1 h')
 omega
theorem lq {α:Type} (q:α->Bool): ∀(l:List α),l.Pairwise (λi j=>q j=true->q i=true)-> ∀k (hk:k<l.length),k<(l.takeWhile q).length↔q l[k]=true
 | [],_,k,hk=>by simp at hk
 |a::l,h,k,hk=>by
  obtain ⟨h1,h2⟩:=List.pairwise_cons.1 h
  by_cases ha:q a=true
  ·rw [List.takeWhile_cons_of_pos ha]
   rcases k with _|k
   ·simpa using ha
   ·simp only [Aw,List.getElem_cons_succ,Nat.add_lt_add_iff_right]
    exact lq q l h2 k (by simpa using hk)
  ·rw [List.takeWhile_cons_of_neg ha]
   simp only [Eo,He,false_iff]
   rcases k with _|k
   ·exact ha
   ·simp only [List.getElem_cons_succ]
    exact λhq=>ha (h1 _ (Al _) hq)
theorem Gf.tD {m:Nat} {L:List (List Int)} {Ly:List Int} (h:Gf m L Ly):Ly.length=L.length:=by rw [h.perm.length_eq,Sv]
theorem Gf.idx {m:Nat} {L:List (List Int)} {Ly:List Int} (h:Gf m L Ly) {k:Nat} (hk:k<Ly.length):0<=Ly[k]/\Ly[k]<L.length:=Qt.1 (h.perm.mem_iff.1 (Al hk))
theorem Gf.eG {m:Nat} {L:List (List Int)} {Ly:List Int} (h:Gf m L Ly) (s:List Int) {k:Nat} (hk:k<Ly.length):k<Gu L Ly s↔fv (L.getD Ly[k].toNat []) s=true:=
 lq _ Ly (h.sorted.imp λjT hj=>SV jT hj) k hk
theorem QI (L:List (List Int)) (Ly s:List Int):Gu L Ly s<=Ly.length:=(List.takeWhile_sublist _).length_le
theorem Gf.inj {m:Nat} {L:List (List Int)} {Ly:List Int} (h:Gf m L Ly) {i j:Nat} (hi:i<L.length) (hj:j<L.length) (e:L[i]=L[j]):i=j:=by
 have mem: ∀i,i<L.length->(i:Int)∈Ly:= λi hi=>h.perm.mem_iff.2 (Qt.2 ⟨by omega,by omega⟩)
 obtain ⟨p,hp,ep⟩:=Bf.1 (mem i hi)
 obtain ⟨q,hq,eq⟩:=Bf.1 (mem j hj)
 have get: ∀i (hi:i<L.length),L.getD ((i:Int)).toNat []=L[i]:= λi hi=>by rw [Ar,Aj,Ac hi];rfl
 rcases Nat.lt_trichotomy p q with h1|h1|h1
 ·have:=Ej.1 h.sorted p q hp hq h1
  rw [ep,eq,get i hi,get j hj,e,m9] at this
  cases this
 ·subst h1
  rw [ep] at eq
  omega
 ·have:=Ej.1 h.sorted q p hq hp h1
  rw [ep,eq,get i hi,get j hj,e,m9] at this
  cases this
theorem Wi {L:List (List Int)} {k:Nat} (h:k<L.length):L.getD k []=L[k]:=by rw [Aj,Ac h];rfl
theorem Gf.yo {m:Nat} {L:List (List Int)} {Ly:List Int} (h:Gf m L Ly) {s:List Int} :
  (∃hk:Gu L Ly s<Ly.length,L.getD Ly[Gu L Ly s].toNat []=s/\l7 L s=Ly[Gu L Ly s])\/(l7 L s= -1/\ ∀hk:Gu L Ly s<Ly.length,L.getD Ly[Gu L Ly s].toNat []≠s):=by
 by_cases hm:s∈L
 ·left
  obtain ⟨j,hj,rfl⟩:=Bf.1 hm
  obtain ⟨p,hp,ep⟩:=Bf.1 (h.perm.mem_iff.2 (Qt.2 ⟨by omega,by omega⟩):(j:Int)∈Ly)
  have gj:L.getD Ly[p].toNat []=L[j]:=by rw [ep,Ar,Wi hj]
  have hs:Gu L Ly L[j]=p:=by
   have h1: ¬p<Gu L Ly L[j]:= λh1=>by
    have:=(h.eG L[j] hp).1 h1
    rw [gj,m9] at this;cases this
   have h2: ¬Gu L Ly L[j]<p:= λh2=>by
    have h3:=(h.eG L[j] (k:=Gu L Ly L[j]) (by omega)).2 (by
     have:=Ej.1 h.sorted (Gu L Ly L[j]) p (by omega) hp h2
     rw [gj] at this;exact this)
    omega
   omega
  have hx:L.idxOf L[j]=j:=by
   have h1:L.idxOf L[j]<L.length:=List.idxOf_lt_length_of_mem hm
   exact h.inj h1 hj (List.getElem_idxOf h1)
  refine ⟨by omega,?_,?_⟩
  ·simp only [hs];exact gj
  ·unfold l7
   rw [Ab hm,hx]
   simp only [hs];exact ep.symm
 ·right
  refine ⟨by unfold l7;rw [Ai hm],λhk e=>hm ?_⟩
  have hi:=h.idx hk
  rw [Wi (by omega)] at e
  rw [<-e]
  exact Al _
theorem ZC (Ly:List Int) (k:Nat) (x:Int):(Xm Ly k x).Perm (x::Ly):=by
 unfold Xm
 refine List.perm_middle.trans (List.Perm.cons x ?_)
 rw [Kf]
theorem Gf.add {m:Nat} {L:List (List Int)} {Ly s:List Int} (h:Gf m L Ly) (hn:s∉L) (hl:s.length=m) (hr:L.length<3000):Gf m (L++ [s]) (Xm Ly (Gu L Ly s) L.length):=by
 have DH: ∀i∈Ly,(L++ [s]).getD i.toNat []=L.getD i.toNat []:= λi hi=>by
  have:=Qt.1 (h.perm.mem_iff.1 hi)
  rw [Aj,Aj,At (by omega)]
 have Akp:(L++ [s]).getD ((L.length:Int)).toNat []=s:=by
  rw [Ar,Aj,As (by omega),Nat.sub_self];rfl
 refine ⟨by rw [Au,Be];omega,λx hx=>?_,h.short,?_,?_⟩
 ·rcases Ay.1 hx with hx|hx
  ·exact h.len x hx
  ·rw [Ad.1 hx];exact hl
 ·refine (ZC _ _ _).trans ?_
  rw [Au,Be,eK]
  exact (List.Perm.cons _ h.perm).trans (List.perm_append_singleton _ _).symm
 ·unfold Xm
  have hs:=h.sorted
  rw [<-Kf (Gu L Ly s) Ly] at hs
  obtain ⟨s1,s2,s3⟩:=List.pairwise_append.1 hs
  have mt: ∀i∈Ly.take (Gu L Ly s),i∈Ly/\fv (L.getD i.toNat []) s=true:= λi hi=>by
   obtain ⟨k,hk,rfl⟩:=Bf.1 hi
   have hk2:k<Gu L Ly s:=by rw [Dc] at hk;omega
   have hk3:k<Ly.length:=by rw [Dc] at hk;omega
   rw [List.getElem_take]
   exact ⟨Al _,(h.eG s hk3).1 hk2⟩
  have md: ∀i∈Ly.drop (Gu L Ly s),i∈Ly/\fv s (L.getD i.toNat [])=true:= λi hi=>by
   obtain ⟨k,hk,rfl⟩:=Bf.1 hi
   rw [List.length_drop] at hk
   have hk3:Gu L Ly s+k<Ly.length:=by omega
   rw [List.getElem_drop]
   refine ⟨Al _,ZO ?_ λe=>hn ?_⟩
   ·exact Nq.2 λhh=>by
     have:=(h.eG s hk3).2 hh
     omega
   ·have hi:=h.idx hk3
    rw [Wi (by omega)] at e
    rw [<-e];exact Al _
  refine List.pairwise_append.2 ⟨s1.imp_of_mem λ {a b} ha hb kQ=>?_,List.pairwise_cons.2 ⟨λb hb=>?_,s2.imp_of_mem λ {a b} ha hb kQ=>?_⟩,λa ha b hb=>?_⟩
  ·rw [DH a (mt a ha).1,DH b (mt b hb).1];exact kQ
  ·rw [Akp,DH b (md b hb).1];exact (md b hb).2
  ·rw [DH a (md a ha).1,DH b (md b hb).1];exact kQ
  ·rcases Bg.1 hb with rfl|hb
   ·rw [Akp,DH a (mt a ha).1];exact (mt a ha).2
   ·rw [DH a (mt a ha).1,DH b (md b hb).1];exact s3 a ha b hb
theorem fU (L:List (List Int)) (s:List Int):cb (L++ [s])=Xm (cb L) (Gu L (cb L) s) L.length:=by
 unfold cb
 rw [Au,Be,List.range_succ,Vy]
 have e: ∀(is:List Nat) (S:List Int),(∀i∈is,i<L.length)->is.foldl (λ(S:List Int) (i:Nat)=>Xm S (Gu ((L++ [s]).take i) S ((L++ [s]).getD i [])) (i:Int)) S=is.foldl (λ(S:List Int) (i:Nat)=>Xm S (Gu (L.take i) S (L.getD i [])) (i:Int)) S:=by
  intro is
  induction is with
  |nil=>intro S _;rfl
  |cons i is ih=>
   intro S h
   have hi:=h i (by simp)
   rw [Df,Df,ih _ λj hj=>h j (Ao _ hj)]
   congr 2
   rw [List.take_append_of_le_length (by omega),Aj,At hi,<-Aj]
 rw [e _ _ λi hi=>Es.1 hi]
 simp only [Df,List.foldl_nil]
 congr 2
 ·rw [List.take_append_of_le_length (Ap _),Bc]
 ·rw [Aj,As (by omega),Nat.sub_self];rfl
theorem nZ {m:Nat} (h:m<=20):Gf m [] []:=⟨by simp,λx hx=>(by cases hx),h,by simp [upto],List.Pairwise.nil⟩
theorem YZ {α:Type} {xs:List α} {y:Int} (h0:0<=y) (h:y.toNat<xs.length):idx xs y=some xs[y.toNat]:=by
 unfold idx
 rw [Ab h0,Ac h]
theorem Aix (f:SS) (s:List Int) (h:Gf s.length f.1 f.2.2.1):fnW Gr (look [(166,Yv)]) fR Tryz.f129 (f,s,()) (λ(z:Int)=>z=(Gu f.1 f.2.2.1 s:Int)):=by
 obtain ⟨L,D,Ly,b,⟨⟩⟩:=f
 dsimp only at h⊢
 have hle:=QI L Ly s
 have JP:=h.tD
 have lX:=h.gu
 refine Eq.mp (Ajo (L,D,Ly,b,()) s _) ?_
 refine Di.mk (λv=>v.2.2.1=L/\v.2.2.2.2.1=Ly/\ ∃lo hi:Nat,v.1=lo/\v.2.1=hi/\lo<=hi/\hi<=Ly.length/\lo<=Gu L Ly s/\Gu L Ly s<=hi) (λv=>(v.2.1-v.1).toNat)
  ⟨rfl,rfl,0,Ly.length,rfl,rfl,by omega,by omega,by omega,hle⟩ ?_
 rintro ⟨lo',mG,L',D',UR,b',⟨⟩⟩ ⟨h1,h2,lo,hi,h3,h4,h5,h6,h7,h8⟩
 dsimp only at h1 h2 h3 h4⊢
 subst h1 h2 h3 h4
 refine Br.dec (λhl=>?_) λhl=>?_
 ·have em:IntKind.i64.wrap ((IntKind.i64.wrap ((lo:Int)+(hi:Int))).tdiv 2)=(((lo+hi)/2:Nat):Int):=by
   rw [Cn (n:=(lo:Int)+(hi:Int)) (by omega) (by omega),Int.tdiv_eq_ediv_of_nonneg (by omega),Cn (by omega) (by omega)]
   omega
  rw [em]
  have hm1:(lo+hi)/2<UR.length:=by omega
  have hi1:=h.idx hm1
  have hi2:UR[(lo+hi)/2].toNat<L'.length:=by omega
  have hgd:=Wi hi2
  have hlen:=h.len _ (Al hi2)
  have IA:short L'[UR[(lo+hi)/2].toNat]:=by
   unfold short
   have:=h.short;omega
  refine ⟨by decide,_,Cj hm1,_,YZ hi1.1 hi2,_,Ab ⟨IA,hlen⟩,⟨λhc=>?_,λhc=>?_⟩⟩
  ·have hc:fv L'[UR[(lo+hi)/2].toNat] s=true:=hc
   have hs:=(h.eG s hm1).2 (by rw [hgd];exact hc)
   rw [Bz (by omega)]
   exact ⟨⟨rfl,rfl,(lo+hi)/2+1,hi,rfl,rfl,by omega,h6,by omega,h8⟩,by omega⟩
  ·have hc:fv L'[UR[(lo+hi)/2].toNat] s=false:=hc
   have hs: ¬(lo+hi)/2<Gu L' UR s:= λhh=>by
    have:=(h.eG s hm1).1 hh
    rw [hgd,hc] at this;cases this
   exact ⟨⟨rfl,rfl,lo,(lo+hi)/2,rfl,rfl,by omega,by omega,h7,by omega⟩,by omega⟩
 ·show (lo:Int)=_
  omega
theorem uL:Sound Tryz.prog 129 fR:=
 Sound.Hj Ee (Ba uI Bo) mixed Tryz.func129 (by kernel_rfl) (by kernel_rfl) λx h=>Aix x.1 x.2.1 h
theorem Aa7 (f:SS) (s:List Int) (h:Gf s.length f.1 f.2.2.1):fnW Gr (look [(129,fR),(128,Ew)]) Wu Tryz.f75 (f,s,()) (λ(z:Int)=>z=l7 f.1 s):=by
 obtain ⟨L,D,Ly,b,⟨⟩⟩:=f
 dsimp only at h⊢
 refine Eq.mp (Aby (L,D,Ly,b,()) s _) ⟨_,Ab h,Br.dec (λhl=>?_) λhl=>?_⟩
 ·have hl:Gu L Ly s<Ly.length:=by
   have hl:((Gu L Ly s:Nat):Int)<(Ly.length:Int):=hl
   omega
  have hi1:=h.idx hl
  have hi2:Ly[Gu L Ly s].toNat<L.length:=by omega
  have hgd:=Wi hi2
  have hlen:=h.len _ (Al hi2)
  have IA:short L[Ly[Gu L Ly s].toNat]:=by
   unfold short
   have:=h.short;omega
  refine ⟨_,Cj hl,_,YZ hi1.1 hi2,_,Ab IA,⟨λhc=>⟨_,Cj hl,?_⟩,λhc=>?_⟩⟩
  ·have hc:L[Ly[Gu L Ly s].toNat]=s:=Ik hc
   rcases h.yo (s:=s) with ⟨hk,_,e⟩|⟨_,Jl⟩
   ·exact e.symm
   ·exact absurd (by rw [hgd];exact hc) (Jl hl)
  ·have hc: ¬L[Ly[Gu L Ly s].toNat]=s:=of_decide_eq_false hc
   rcases h.yo (s:=s) with ⟨hk,e,_⟩|⟨e,_⟩
   ·rw [hgd] at e;exact absurd e hc
   ·exact e.symm
 ·have hl: ¬Gu L Ly s<Ly.length:=by
   have hl: ¬((Gu L Ly s:Nat):Int)<(Ly.length:Int):=hl
   omega
  rcases h.yo (s:=s) with ⟨hk,e,_⟩|⟨e,_⟩
  ·exact absurd hk hl
  ·exact e.symm
theorem o8:Sound Tryz.prog 75 Wu:=
 Sound.Hj Ee (Ba uL (Ba rv Bo)) mixed Tryz.func75 (by kernel_rfl) (by kernel_rfl) λx h=>Aa7 x.1 x.2.1 h
theorem KB {S:List Int} {k:Nat} (h:k<=S.length) (n:Int):
  (Dt (S++ [0]) (k+1) (List.take ((S++ [0]).length-(k+1)) (List.take ((S++ [0]).length-k) (List.drop k (S++ [0]))))).set k n=Xm S k n:=by
 obtain ⟨A,B,rfl,hA⟩: ∃A B,S=A++B/\A.length=k:=⟨S.take k,S.drop k,(Kf k S).symm,by rw [Dc];omega⟩
 subst hA
 have e1:List.drop A.length (A++B++ [0])=B++ [0]:=by rw [Co,List.drop_left]
 have e2:List.take ((A++B++ [0]).length-A.length) (B++ [0])=B++ [0]:=List.take_of_length_le (by simp only [Au,Be];omega)
 have e3:List.take ((A++B++ [0]).length-(A.length+1)) (B++ [0])=B:=by
  have:(A++B++ [(0:Int)]).length-(A.length+1)=B.length:=by simp only [Au,Be];omega
  rw [this,List.take_left]
 rw [e1,e2,e3]
 unfold Dt Xm
 have e4:List.drop (A.length+1+B.length) (A++B++ [0])= []:=List.drop_eq_nil_of_le (by simp only [Au,Be];omega)
 obtain ⟨c,hc⟩: ∃c,List.take (A.length+1) (A++B++ [0])=A++ [c]:=by
  rw [Co,List.take_append,List.take_of_length_le (by omega)]
  cases B with
  |nil=>exact ⟨0,by simp⟩
  |cons b B=>exact ⟨b,by simp⟩
 rw [e4,hc,List.append_nil,Co,List.singleton_append,Aec,List.take_left,List.drop_left]
theorem Aiw (L:List (List Int)) (D S:List Int) (b:Bool) (s:List Int) (d:Int) (h:Gf s.length L S/\D.length<=3000):
  fnMW Rk (look [(129,fR)]) mr Tryz.f164 (L,D,S,b,s,d,()) (λ(z:(List (List Int)×List Int×List Int×Bool×Unit)×Unit)=>z=((L++ [s],D++ [d],Xm S (Gu L S s) L.length,b,()),())):=by
 obtain ⟨h,hD⟩:=h
 have hle:=QI L S s
 have JP:=h.tD
 have lX:=h.gu
 refine Eq.mp (Ajn L D S b s d _) ?_
 rw [Bv L,Bv D,Bv S]
 refine ⟨_,Ab h,?_⟩
 dsimp only
 have es:List.take 1 (List.drop 0 [(0:Int)])= [0]:=rfl
 have el:(S++ [(0:Int)]).length=S.length+1:=by simp
 rw [es,Bz (by omega),Cb,Cb,Ar,Ar,Ar]
 refine ⟨rfl,rfl,by show S.length+1<=4294967296;omega,⟨by omega,by omega,by omega⟩,⟨by omega,by omega,by omega⟩,⟨by omega,by omega⟩,?_,rfl,rfl,by show L.length+1<=4294967296;omega,rfl,rfl,by show D.length+1<=4294967296;omega,?_⟩
 ·unfold Dt
  simp only [Au,Dc,List.length_drop,Be]
  omega
 ·rw [KB hle,Bv,Bv]
  have e5:List.take (S++ [(0:Int)]).length (List.drop 0 (Xm S (Gu L S s) (L.length:Int)))=Xm S (Gu L S s) (L.length:Int):=by
   rw [Fy,List.take_of_length_le]
   unfold Xm
   simp only [Au,Aw,Dc,List.length_drop,Eo]
   omega
  rw [e5]
  rfl
theorem MT:Cl Tryz.prog 164 mr:=
 Cl.jZ Qm (Ba uL Bo) mixed Tryz.func164 (by kernel_rfl) (by kernel_rfl) λx h=>Aiw x.1 x.2.1 x.2.2.1 x.2.2.2.1 x.2.2.2.2.1 x.2.2.2.2.2.1 h
structure Ve (p:PP) (m:Nat) (L:List (List Int)) (D:List Int):Prop where
 ok:Gf m L (cb L)
 len:D.length=L.length
 row: ∀x∈L,∀y∈x,0<=y/\y<p.1
 dep: ∀j (h:j<D.length),0<=D[j]/\D[j]<=j
theorem nM {p:PP} (hv:Valid p) {x:List Int} {l:Int} (hx: ∀y∈x,0<=y/\y<p.1) (hl:Fq (List.length p.2.2.1) l):
  (Af x (Am p.2.2.1 l)).length=x.length/\ ∀y∈Af x (Am p.2.2.1 l),0<=y/\y<p.1:=by
 obtain ⟨h1,h2⟩:=jW hv hl
 refine ⟨Sb _ _,λy hy=>?_⟩
 have:=CR (n:=(Am p.2.2.1 l).length) (λz hz=>by have:=hx z hz;omega) h2 y hy
 omega
theorem Ve.add {p:PP} {m:Nat} {L:List (List Int)} {D:List Int} (h:Ve p m L D) {y:List Int} {d:Int} (hn:y∉L) (hl:y.length=m) (hr:L.length<3000) (hy: ∀z∈y,0<=z/\z<p.1) (hd:0<=d/\d<=L.length):Ve p m (L++ [y]) (D++ [d]):=by
 have hlen:=h.len
 refine ⟨by rw [fU];exact h.ok.add hn hl hr,by simp [hlen],λx hx=>?_,λj hj=>?_⟩
 ·rcases Ay.1 hx with hx|hx
  ·exact h.row x hx
  ·rw [Ad.1 hx];exact hy
 ·by_cases e:j<D.length
  ·rw [Pv e];exact h.dep j e
  ·simp only [Au,Be] at hj
   have:j=D.length:=by omega
   subst this
   rw [List.getElem_append_right (by omega)]
   simp only [Nat.sub_self,List.getElem_cons_zero]
   omega
theorem jL {p:PP} {s:List Int} (hs:s.length<=20) (hr: ∀y∈s,0<=y/\y<p.1):Ve p s.length [s] [0]:=by
 refine ⟨?_,rfl,λx hx=>by rw [Ad.1 hx];exact hr,λj hj=>?_⟩
 ·have:=(nZ hs).add (s:=s) (by simp) rfl (by simp)
  have e:cb [s]=Xm [] (Gu [] [] s) 0:=fU [] s
  rw [e];exact this
 ·simp only [Be] at hj
  have:j=0:=by omega
  subst this
  simp
theorem xu {L:List (List Int)} {s:List Int} :l7 L s>=0↔s∈L:=by
 unfold l7
 split
 ·rename_i h;exact ⟨λ_=>h,λ_=>by omega⟩
 ·rename_i h;exact ⟨λhh=>by omega,λhh=>absurd hh h⟩
theorem Ae7 (p:PP) (s:List Int) (h:Ca p=true/\s.length<=20/\ ∀y∈s,0<=y/\y<p.1):fnW Ajc (look [(68,Kn),(164,mr),(65,Oe),(66,eA),(75,Wu)]) Gx Tryz.f126 (p,s,()) (λ(z:SS)=>z=Ds p.2.2.1 s):=by
 obtain ⟨hv,hs,hr⟩:=h
 have hV:=valid hv
 have lX:=hV.gu
 have hb0:=jL hs hr
 have IA:short s:=by unfold short;omega
 obtain ⟨ls,pa⟩: ∃ls,Ax (List.length p.2.2.1)=ls:=⟨_,rfl⟩
 refine Eq.mp (Aer p s _) ⟨_,Ab IA,_,Ab ⟨nZ hs,by show 0<=3000;omega⟩,ls,(Ab (by show List.length p.2.2.1<=8;exact lX.2)).trans (Gz some pa),rfl,rfl,rfl,rfl,rfl,rfl,rfl,rfl,rfl,rfl,rfl,rfl,?_⟩
 have e0:Xm [] (Gu [] [] s) ((([]:List (List Int)).length:Nat):Int)=cb [s]:=(fU [] s).symm
 show Di _ ((0:Int),p.1,p.2.1,p.2.2.1,false,false,[],[],[],[s],[(0:Int)],Xm [] (Gu [] [] s) ((([]:List (List Int)).length:Nat):Int),PUnit.unit)
 rw [e0]
 have hll:ls.length<=16:=by rw [<-pa,Oo];omega
 have ny: ∀l∈ls,Fq (List.length p.2.2.1) l:= λl hl=>Lo (pa▸hl)
 have JW:Ma p.2.2.1 ls 3001 0 [s] [0]=Hi p.2.2.1 s:=by unfold Hi;rw [pa]
 refine Di.mk (λv=>v.2.1=p.1/\v.2.2.1=p.2.1/\v.2.2.2.1=p.2.2.1/\v.2.2.2.2.2.1=false/\ ∃k:Nat,v.1=k/\k<=v.2.2.2.2.2.2.2.2.2.1.length/\
   Ve p s.length v.2.2.2.2.2.2.2.2.2.1 v.2.2.2.2.2.2.2.2.2.2.1/\v.2.2.2.2.2.2.2.2.2.2.2.1=cb v.2.2.2.2.2.2.2.2.2.1/\
   Ma p.2.2.1 ls (3001-k) k v.2.2.2.2.2.2.2.2.2.1 v.2.2.2.2.2.2.2.2.2.2.1=Hi p.2.2.1 s) (λv=>3001-v.1.toNat)
  ⟨rfl,rfl,rfl,rfl,0,rfl,by simp,hb0,rfl,JW⟩ ?_
 rintro ⟨k',n1,n2,n3,b0,wh,x1,x2,x3,L0,D0,S0,⟨⟩⟩ ⟨h1,h2,h3,h4,k,h5,h6,h7,h8,h9⟩
 dsimp only at h1 h2 h3 h4 h5 h6 h7 h8 h9
 subst h1 h2 h3 h4 h5 h8
 dsimp only
 have hL0:=h7.ok.gu
 have hD0:=h7.len
 refine Br.dec (λhl=>⟨rfl,rfl,rfl,rfl,rfl,rfl,rfl,rfl,rfl,rfl,rfl,rfl,?_⟩) λhl=>?_
 ·have hk:k<L0.length:=by omega
  have SC:k<D0.length:=by omega
  have hx: ∀y∈L0[k],0<=y/\y<p.1:=h7.row _ (Al hk)
  have vu:L0[k].length=s.length:=h7.ok.len _ (Al hk)
  have hdk:=h7.dep k SC
  obtain ⟨f,hf⟩: ∃f,3001-k=f+1:=⟨3000-k,by omega⟩
  have hgo: ∀L' D' ok,Jk p.2.2.1 L0[k] D0[k] ls L0 D0=(L',D',ok)->Hi p.2.2.1 s=if ok=true then Ma p.2.2.1 ls f (k+1) L' D' else (L',D',false):=by
   intro L' D' ok he
   rw [<-h9,hf,Ma,Ab hk,Wi hk,Aj,Ac SC]
   simp only [Dd]
   rw [he]
   cases ok<;>rfl
  refine Di.mk (λv=>v.2.1=p.1/\v.2.2.1=p.2.1/\v.2.2.2.1=p.2.2.1/\v.2.2.2.2.2.1=false/\ ∃i:Nat,v.1=i/\i<=ls.length/\Ve p s.length v.2.2.2.2.2.2.2.2.2.1 v.2.2.2.2.2.2.2.2.2.2.1/\
    v.2.2.2.2.2.2.2.2.2.2.2.1=cb v.2.2.2.2.2.2.2.2.2.1/\(∃A,v.2.2.2.2.2.2.2.2.2.1=L0++A)/\(∃A,v.2.2.2.2.2.2.2.2.2.2.1=D0++A)/\
    Jk p.2.2.1 L0[k] D0[k] (ls.drop i) v.2.2.2.2.2.2.2.2.2.1 v.2.2.2.2.2.2.2.2.2.2.1=Jk p.2.2.1 L0[k] D0[k] ls L0 D0) (λv=>ls.length-v.1.toNat)
   ⟨rfl,rfl,rfl,rfl,0,rfl,Kw _,h7,rfl,⟨[],by simp⟩,⟨[],by simp⟩,rfl⟩ ?_
  rintro ⟨i',m1,m2,m3,b1,wh1,y1,y2,y3,L,D,S,⟨⟩⟩ ⟨g1,g2,g3,g4,i,g5,g6,g7,g8,⟨A,g9⟩,⟨A',g10⟩,r8⟩
  dsimp only at g1 g2 g3 g4 g5 g6 g7 g8 g9 g10 r8
  subst g1 g2 g3 g4 g5 g8
  dsimp only
  have hLf:=g7.ok.gu
  have hDl:=g7.len
  rw [Bv L,Bv D,Bv (cb L)]
  refine Br.dec (λhli=>?_) λhli=>?_
  ·have hi:i<ls.length:=by omega
   have hkL:k<L.length:=by rw [g9,Au];omega
   have hLk:L[k]=L0[k]:=by simp only [g9];exact Pv hk
   have Ahn:k<D.length:=by rw [hDl];exact hkL
   have hDk:D[k]=D0[k]:=by simp only [g10];exact Pv SC
   have kr:=ny _ (Al hi)
   obtain ⟨nl,nr⟩:=nM hV hx kr
   rw [Fg hi] at r8
   simp only [Jk] at r8
   refine ⟨⟨by omega,by omega⟩,L0[k],by rw [Ar,Cb,Ac hkL,hLk],_,Cj hi,_,Ab ⟨hv,by show L0[k].length<=20;omega,hx,kr⟩,?_⟩
   dsimp only
   have hyl:(Af L0[k] (Am p.2.2.1 ls[i])).length=s.length:=by rw [nl,vu]
   refine ⟨_,Ab (by show Gf (Af L0[k] (Am p.2.2.1 ls[i])).length L (cb L);rw [hyl];exact g7.ok),Br.dec (λgR=>?_) λgR=>?_⟩
   ·have gR:Af L0[k] (Am p.2.2.1 ls[i])∈L:=xu.1 gR
    rw [Ab gR] at r8
    rw [Bz (by omega)]
    exact ⟨rfl,rfl,rfl,rfl,rfl,rfl,rfl,rfl,rfl,rfl,rfl,rfl,⟨rfl,rfl,rfl,rfl,i+1,rfl,hi,g7,rfl,⟨A,g9⟩,⟨A',g10⟩,r8⟩,by omega⟩
   ·have gR:Af L0[k] (Am p.2.2.1 ls[i])∉L:= λhh=>gR (xu.2 hh)
    rw [Ai gR] at r8
    refine ⟨λZu=>?_,λZu=>⟨⟨by omega,by omega⟩,D0[k],by rw [Ar,Cb,Ac Ahn,hDk],rfl,rfl,rfl,rfl,rfl,rfl,?_⟩⟩
    ·have Zu:L.length=3000:=by
      have:(L.length:Int)=3000:=by simpa using Zu
      omega
     rw [Ab Zu] at r8
     have:=hgo _ _ _ r8.symm
     rw [Ai (by decide)] at this
     unfold Ds
     rw [this]
    ·have Zu:L.length≠3000:=by
      have:(L.length:Int)≠3000:=by simpa using Zu
      omega
     rw [Ai Zu] at r8
     rw [Cn (n:=D0[k]+1) (by omega) (by omega)]
     refine ⟨_,Ab ⟨by show Gf (Af L0[k] (Am p.2.2.1 ls[i])).length L (cb L);rw [hyl];exact g7.ok,by show D.length<=3000;omega⟩,?_⟩
     dsimp only
     rw [Bz (by omega),<-fU]
     refine ⟨rfl,rfl,rfl,rfl,rfl,rfl,rfl,rfl,rfl,rfl,rfl,rfl,⟨rfl,rfl,rfl,rfl,i+1,rfl,hi,g7.add gR hyl (by omega) nr ⟨by omega,by omega⟩,rfl,⟨A++ [Af L0[k] (Am p.2.2.1 ls[i])],by rw [g9,Co]⟩,⟨A'++ [D0[k]+1],by rw [g10,Co]⟩,r8⟩,by omega⟩
  ·have:i=ls.length:=by omega
   subst this
   rw [Tj,Jk] at r8
   have:=hgo _ _ _ r8.symm
   rw [Ab rfl] at this
   rw [Bz (by omega)]
   refine ⟨rfl,rfl,rfl,rfl,rfl,rfl,rfl,rfl,rfl,rfl,rfl,rfl,⟨rfl,rfl,rfl,rfl,k+1,rfl,by rw [g9,Au];omega,g7,rfl,?_⟩,by omega⟩
   rw [show 3001-(k+1)=f by omega]
   exact this.symm
 ·have hk:k=L0.length:=by omega
  rw [Bv L0,Bv D0,Bv (cb L0)]
  obtain ⟨f,hf⟩: ∃f,3001-k=f+1:=⟨3000-k,by omega⟩
  rw [hf,Ma,Ai (by omega)] at h9
  unfold Ds
  rw [<-h9]
theorem qI:Sound Tryz.prog 126 Gx:=
 Sound.Hj Ajd (Ba c8 (Fp MT (Ba gJ (Ba o1 (Ba o8 Bo))))) mixed Tryz.func126 (by kernel_rfl) (by kernel_rfl) λx h=>Ae7 x.1 x.2.1 h
noncomputable def Em (p:PP) (t:List Int):Bool:=Ca p&&Qa p.1 t
noncomputable def Gp (p:PP) (t:List Int):Bool:=Em p t&&(Hi p.2.2.1 t).2.2
noncomputable abbrev Jv:Spec:=Hj (.pair Jc (.pair tL .unit)) .bool false true (λx=>Fc x.1/\short x.2.1) (λx=>Em x.1 x.2.1)
noncomputable def Qb (p:PP) (t:List Int):SS:=if Em p t=true then Ds p.2.2.1 t else ([],[],[],false,())
noncomputable abbrev Vs:Spec:=Hj (.pair Jc (.pair tL .unit)) (.pair bb (.pair .bool .unit)) true false (λx=>Fc x.1/\short x.2.1) (λx=>(Qb x.1 x.2.1,Gp x.1 x.2.1,()))
noncomputable abbrev Sq:Spec:=Hj (.pair kB .unit) kB false true (λx=>Oz x.1) (λx=>x.1)
noncomputable def Ga (p:PP) (t:List Int):TT:=if Gp p t=true then (t,(Hi p.2.2.1 t).1,(Hi p.2.2.1 t).2.1,()) else ([],[],[],())
noncomputable abbrev Ex:Spec:=Hj (.pair Jc (.pair tL .unit)) (.pair cg (.pair .bool .unit)) true true (λx=>Fc x.1/\short x.2.1) (λx=>(Ga x.1 x.2.1,Gp x.1 x.2.1,()))
noncomputable abbrev Yu:MSpec:=jZ [some 3,none] [(false, .Eh tI),(false, .Eh .str),(false, .Eh kB),(false, .Eh tL)] true [none,none,none] [xLL,rL, .Eh .bool]
 (λx=>Em (x.1,x.2.1,x.2.2.1,()) x.2.2.2.1=true) (λx=>(((Ga (x.1,x.2.1,x.2.2.1,()) x.2.2.2.1).2.1,(Ga (x.1,x.2.1,x.2.2.1,()) x.2.2.2.1).2.2.1,Gp (x.1,x.2.1,x.2.2.1,()) x.2.2.2.1,()),()))
noncomputable abbrev Yw:MSpec:=jZ [some 3,none] [(false, .Eh tI),(false, .Eh .str),(false, .Eh kB),(false, .Eh tL)] true [none,none,none] [xLL,rL, .Eh .bool]
 (λx=>Fc (x.1,x.2.1,x.2.2.1,())/\short x.2.2.2.1) (λx=>(((Ga (x.1,x.2.1,x.2.2.1,()) x.2.2.2.1).2.1,(Ga (x.1,x.2.1,x.2.2.1,()) x.2.2.2.1).2.2.1,Gp (x.1,x.2.1,x.2.2.1,()) x.2.2.2.1,()),()))
noncomputable abbrev Vq:MSpec:=jZ [some 3,none] [(false, .Eh tI),(false, .Eh .str),(false, .Eh kB),(false, .Eh tL)] true [some 3,none] [rL,xLL,rL, .Eh .bool]
 (λx=>Fc (x.1,x.2.1,x.2.2.1,())/\short x.2.2.2.1) (λx=>(((Ga (x.1,x.2.1,x.2.2.1,()) x.2.2.2.1).1,(Ga (x.1,x.2.1,x.2.2.1,()) x.2.2.2.1).2.1,(Ga (x.1,x.2.1,x.2.2.1,()) x.2.2.2.1).2.2.1,Gp (x.1,x.2.1,x.2.2.1,()) x.2.2.2.1,()),()))
noncomputable def Gs (p:PP) (t:TT):Bool:=Gp p t.1&&l6 (Ga p t.1) t
noncomputable abbrev eE:Spec:=Hj (.pair Jc (.pair cg .unit)) .bool false true (λx=>Fc x.1/\ay x.2.1) (λx=>Gs x.1 x.2.1)
abbrev tTS:Ty:= .slice cg
def Rt (ts:List TT):Prop:=ts.length<=4294967296/\ ∀t∈ts,ay t
noncomputable def El (p:PP) (ts:List TT):Bool:=Ca p&&decide (ts.length<=4)&&List.all ts (Gs p)
noncomputable abbrev Yz:Spec:=Hj (.pair Jc (.pair tTS .unit)) .bool false true (λx=>Fc x.1/\Rt x.2.1) (λx=>El x.1 x.2.1)
abbrev Anx:Ty:= .clo 119 (.pair (.ptr Jc) .unit)
noncomputable abbrev xQ:Spec:=Hj (.pair cg (.pair (.ptr Jc) .unit)) .bool false true (λx=>ay x.1/\Fc x.2.1) (λx=>!Gs x.2.1 x.1)
def Sk (q:TT->Bool):List TT->Int->Int
 | [],_=> -1
 |t::ts,k=>if q t=true then k else Sk q ts (k+1)
noncomputable abbrev pE:Spec:=Hj (.pair tTS (.pair Anx .unit)) tI false true (λx=>Rt x.1/\Fc x.2.1.1) (λx=>Sk (λt=>!Gs x.2.1.1 t) x.1 0)
noncomputable abbrev pB:Spec:=Hj (.pair tTS (.pair Anx .unit)) .bool false true (λx=>Rt x.1/\Fc x.2.1.1) (λx=>List.any x.1 (λt=>!Gs x.2.1.1 t))
theorem wJ (p:Int×ByteArray×List (List Int)×Unit) (t:List Int) (P:Bool->Prop):(∃(y3:Bool),Im.fn ((p.1,p.2.1,p.2.2.1,()),())=some y3/\Br y3 (∃(y4:Bool),Kt.fn (p.1,t,())=some y4/\P y4) (P false))=fnW Gr (look [(99,Im),(101,Kt)]) Jv Tryz.f77 (p,t,()) P:=by kernel_rfl
theorem wP (p:Int×ByteArray×List (List Int)×Unit) (t:List Int) (P:Bool->Prop):(∃(y3:Bool),Im.fn ((p.1,p.2.1,p.2.2.1,()),())=some y3/\Br y3 (∃(y4:Bool),Kt.fn (p.1,t,())=some y4/\P y4) (P false))=fnW Gr (look [(63,Im),(137,Kt)]) Jv Tryz.f86 (p,t,()) P:=by kernel_rfl
theorem HR (p:Int×ByteArray×List (List Int)×Unit) (t:List Int) (P:((List (List Int)×List Int×List Int×Bool×Unit)×Bool×Unit)->Prop):(∃(y3:Bool),Jv.fn ((p.1,p.2.1,p.2.2.1,()),t,())=some y3/\Br (!y3) (P ((List.take 0 (List.drop 0 []),List.take 0 (List.drop 0 []),List.take 0 (List.drop 0 []),false,()),false,())) (∃(y4:List (List Int)×List Int×List Int×Bool×PUnit),Gx.fn ((p.1,p.2.1,p.2.2.1,()),t,())=some y4/\((P ((y4.1,y4.2.1,y4.2.2.1,y4.2.2.2.1,()),y4.2.2.2.1,())/\P ((y4.1,y4.2.1,y4.2.2.1,y4.2.2.2.1,()),y4.2.2.2.1,()))/\P ((y4.1,y4.2.1,y4.2.2.1,y4.2.2.2.1,()),y4.2.2.2.1,()))/\(P ((y4.1,y4.2.1,y4.2.2.1,y4.2.2.2.1,()),y4.2.2.2.1,())/\P ((y4.1,y4.2.1,y4.2.2.1,y4.2.2.2.1,()),y4.2.2.2.1,()))/\P ((y4.1,y4.2.1,y4.2.2.1,y4.2.2.2.1,()),y4.2.2.2.1,())))=fnW Gr (look [(86,Jv),(126,Gx)]) Vs Tryz.f67 (p,t,()) P:=by kernel_rfl
theorem HI (l:List (List Int)) (P:List (List Int)->Prop):(0=0/\0=([]:List Int).length/\Di (λ(v2:Int×List (List Int)×PUnit) (k3:Int×List (List Int)×PUnit->Prop)=>Br (decide (v2.1<(↑l.length:Int))) (∃(y4:List Int),idx l v2.1=some y4/\ ∃(y5:List Int),Kn.fn (y4,())=some y5/\0=0/\v2.2.1.length=v2.2.1.length/\v2.2.1.length+(List.take 1 (List.drop 0 [y5])).length<=Dj/\0=0/\(v2.2.1++List.take 1 (List.drop 0 [y5])).length=(v2.2.1++List.take 1 (List.drop 0 [y5])).length/\k3 (IntKind.i64.wrap (v2.1+(1:Int)),v2.2.1++List.take 1 (List.drop 0 [y5]),())) (P (List.take v2.2.1.length (List.drop 0 v2.2.1)))) ((0:Int),[],PUnit.unit))=fnW Gr (look [(68,Kn)]) Sq Tryz.f69 (l,()) P:=by kernel_rfl
theorem HS (p:Int×ByteArray×List (List Int)×Unit) (t:List Int) (P:((List Int×List (List Int)×List Int×Unit)×Bool×Unit)->Prop):(∃(y3:(List (List Int)×List Int×List Int×Bool×PUnit)×Bool×PUnit),Vs.fn ((p.1,p.2.1,p.2.2.1,()),t,())=some y3/\Br (!y3.2.1) (P ((List.take 0 (List.drop 0 []),List.take 0 (List.drop 0 []),List.take 0 (List.drop 0 []),()),false,())) (∃(y4:List Int),Kn.fn (t,())=some y4/\ ∃(y5:List (List Int)),Sq.fn (y3.1.1,())=some y5/\ ∃(y6:List Int),Kn.fn (y3.1.2.1,())=some y6/\P ((y4,y5,y6,()),true,())))=fnW Gr (look [(67,Vs),(68,Kn),(69,Sq)]) Ex Tryz.f24 (p,t,()) P:=by kernel_rfl
abbrev da:Type:=Int×List (List Int)×List (List Int)×List Int×(ByteArray->Option Bool)×PUnit
abbrev qN:Type:=Int×Int×ByteArray×List (List Int)×List (List Int)×List (List Int)×List Int×(ByteArray->Option Bool)×PUnit
theorem NT (n:Int) (str:ByteArray) (g:List (List Int)) (t:List Int) (P:((List (List Int)×List Int×Bool×Unit)×Unit)->Prop):(∃(y5:(List Int×PUnit)×PUnit),c6.fn (t,())=some y5/\ ∃(y6:ByteArray),Le.fn (t,())=some y6/\ ∃(y7:List Int),Mu.fn ((↑g.length:Int),())=some y7/\0=0/\1= [List.take y5.1.1.length (List.drop 0 y5.1.1)].length/\0=0/\1= [(0:Int)].length/\0=0/\0=([]:List Int).length/\Di (λ(v8:qN) (k9:qN->Prop)=>Br (decide (v8.1<(↑y7.length:Int))) (∃(Jw:Int),idx y7 v8.1=some Jw/\ ∃(Ix:List Int),Ii.fn (v8.2.2.2.1,Jw,())=some Ix/\0=0/\v8.2.2.2.2.1.length=v8.2.2.2.2.1.length/\v8.2.2.2.2.1.length+(List.take 1 (List.drop 0 [Ix])).length<=Dj/\0=0/\v8.2.2.2.2.2.1.length=v8.2.2.2.2.2.1.length/\0=0/\v8.2.2.2.2.2.2.1.length=v8.2.2.2.2.2.2.1.length/\0=0/\(v8.2.2.2.2.1++List.take 1 (List.drop 0 [Ix])).length=(v8.2.2.2.2.1++List.take 1 (List.drop 0 [Ix])).length/\k9 (IntKind.i64.wrap (v8.1+(1:Int)),v8.2.1,v8.2.2.1,v8.2.2.2.1,v8.2.2.2.2.1++List.take 1 (List.drop 0 [Ix]),v8.2.2.2.2.2.1,v8.2.2.2.2.2.2.1,v8.2.2.2.2.2.2.2.1,())) (0=0/\v8.2.2.2.2.2.1.length=v8.2.2.2.2.2.1.length/\0=0/\v8.2.2.2.2.2.2.1.length=v8.2.2.2.2.2.2.1.length/\0=0/\v8.2.2.2.2.1.length=v8.2.2.2.2.1.length/\Di (λ(v10:da) (k11:da->Prop)=>Br (decide (v10.1<(↑v10.2.2.1.length:Int))) (0=0/\v10.2.2.1.length=v10.2.2.1.length/\0=0/\v10.2.2.2.1.length=v10.2.2.2.1.length/\0=0/\v10.2.1.length=v10.2.1.length/\0=0/\v10.2.1.length=v10.2.1.length/\Di (λ(Ou:da) (k13:da->Prop)=>Br (decide (Ou.1<(↑v10.2.1.length:Int))) (((0:Int)<=Ou.1/\Ou.1<(↑Ou.2.1.length:Int))/\ ∃(Iu:List Int),Ou.2.1[0+Ou.1.toNat]?=some Iu/\((0:Int)<=v10.1/\v10.1<(↑Ou.2.2.1.length:Int))/\ ∃(Io:List Int),Ou.2.2.1[0+v10.1.toNat]?=some Io/\ ∃(Ha:(List Int×PUnit)×PUnit),bq.fn (Iu,Io,())=some Ha/\ ∃(Iy:ByteArray),Le.fn (List.take Ha.1.1.length (List.drop 0 Ha.1.1),())=some Iy/\Br (!(Ou.2.2.2.2.1 Iy).getD false) (Br ((↑Ou.2.2.1.length:Int)==(3000:Int)) (P ((List.take 0 (List.drop 0 []),List.take 0 (List.drop 0 []),false,()),())) (0=0/\Ou.2.2.1.length=Ou.2.2.1.length/\Ou.2.2.1.length+(List.take 1 (List.drop 0 [List.take Ha.1.1.length (List.drop 0 Ha.1.1)])).length<=Dj/\((0:Int)<=v10.1/\v10.1<(↑Ou.2.2.2.1.length:Int))/\ ∃(IC:Int),Ou.2.2.2.1[0+v10.1.toNat]?=some IC/\0=0/\Ou.2.2.2.1.length=Ou.2.2.2.1.length/\Ou.2.2.2.1.length+(List.take 1 (List.drop 0 [IntKind.i64.wrap (IC+(1:Int))])).length<=Dj/\0=0/\(Ou.2.2.1++List.take 1 (List.drop 0 [List.take Ha.1.1.length (List.drop 0 Ha.1.1)])).length=(Ou.2.2.1++List.take 1 (List.drop 0 [List.take Ha.1.1.length (List.drop 0 Ha.1.1)])).length/\0=0/\(Ou.2.2.2.1++List.take 1 (List.drop 0 [IntKind.i64.wrap (IC+(1:Int))])).length=(Ou.2.2.2.1++List.take 1 (List.drop 0 [IntKind.i64.wrap (IC+(1:Int))])).length/\0=0/\Ou.2.1.length=Ou.2.1.length/\0=0/\Ou.2.1.length=Ou.2.1.length/\k13 (IntKind.i64.wrap (Ou.1+(1:Int)),Ou.2.1,Ou.2.2.1++List.take 1 (List.drop 0 [List.take Ha.1.1.length (List.drop 0 Ha.1.1)]),Ou.2.2.2.1++List.take 1 (List.drop 0 [IntKind.i64.wrap (IC+(1:Int))]),jA Ou.2.2.2.2.1 Iy true,()))) (0=0/\Ou.2.2.1.length=Ou.2.2.1.length/\0=0/\Ou.2.2.2.1.length=Ou.2.2.2.1.length/\0=0/\Ou.2.1.length=Ou.2.1.length/\0=0/\Ou.2.1.length=Ou.2.1.length/\k13 (IntKind.i64.wrap (Ou.1+(1:Int)),Ou.2.1,Ou.2.2.1,Ou.2.2.2.1,Ou.2.2.2.2.1,()))) (0=0/\Ou.2.2.1.length=Ou.2.2.1.length/\0=0/\Ou.2.2.2.1.length=Ou.2.2.2.1.length/\0=0/\Ou.2.1.length=Ou.2.1.length/\k11 (IntKind.i64.wrap (v10.1+(1:Int)),Ou.2.1,Ou.2.2.1,Ou.2.2.2.1,Ou.2.2.2.2.1,()))) ((0:Int),v10.2.1,v10.2.2.1,v10.2.2.2.1,v10.2.2.2.2.1,PUnit.unit)) (P ((List.take v10.2.2.1.length (List.drop 0 v10.2.2.1),List.take v10.2.2.2.1.length (List.drop 0 v10.2.2.2.1),true,()),()))) ((0:Int),v8.2.2.2.2.1,v8.2.2.2.2.2.1,v8.2.2.2.2.2.2.1,v8.2.2.2.2.2.2.2.1,PUnit.unit))) ((0:Int),n,str,g,[],[List.take y5.1.1.length (List.drop 0 y5.1.1)],[(0:Int)],jA (λ(_:ByteArray)=>none) y6 true,PUnit.unit))=fnMW (mB [Og+10]) (look [(138,c6),(121,Le),(139,Mu),(135,Ii),(79,bq)]) Yu Tryz.f88 (n,str,g,t,()) P:=by kernel_rfl
theorem NV (n:Int) (str:ByteArray) (g:List (List Int)) (t:List Int) (P:((List (List Int)×List Int×Bool×Unit)×Unit)->Prop):(∃(y5:Bool),Jv.fn ((n,str,g,()),t,())=some y5/\Br (!y5) (P ((List.take 0 (List.drop 0 []),List.take 0 (List.drop 0 []),false,()),())) (∃(y6:(List (List Int)×List Int×Bool×PUnit)×PUnit),Yu.fn (n,str,g,t,())=some y6/\P ((List.take y6.1.1.length (List.drop 0 y6.1.1),List.take y6.1.2.1.length (List.drop 0 y6.1.2.1),y6.1.2.2.1,()),())))=fnMW Rk (look [(77,Jv),(88,Yu)]) Yw Tryz.f90 (n,str,g,t,()) P:=by kernel_rfl
theorem HL (n:Int) (str:ByteArray) (g:List (List Int)) (t:List Int) (P:((List Int×List (List Int)×List Int×Bool×Unit)×Unit)->Prop):(∃(y5:(List (List Int)×List Int×Bool×PUnit)×PUnit),Yw.fn (n,str,g,t,())=some y5/\Br (!y5.1.2.2.1) (P ((List.take 0 (List.drop 0 []),List.take 0 (List.drop 0 []),List.take 0 (List.drop 0 []),false,()),())) (∃(y6:(List Int×PUnit)×PUnit),c6.fn (t,())=some y6/\P ((List.take y6.1.1.length (List.drop 0 y6.1.1),List.take y5.1.1.length (List.drop 0 y5.1.1),List.take y5.1.2.1.length (List.drop 0 y5.1.2.1),true,()),())))=fnMW Rk (look [(90,Yw),(138,c6)]) Vq Tryz.f160 (n,str,g,t,()) P:=by kernel_rfl
theorem BC (p:Int×ByteArray×List (List Int)×Unit) (t:List Int×List (List Int)×List Int×Unit) (P:Bool->Prop):(∃(y3:(List Int×List (List Int)×List Int×Bool×PUnit)×PUnit),Vq.fn (p.1,p.2.1,p.2.2.1,t.1,())=some y3/\Br y3.1.2.2.2.1 (∃(y4:Bool),bm.fn ((List.take y3.1.1.length (List.drop 0 y3.1.1),List.take y3.1.2.1.length (List.drop 0 y3.1.2.1),List.take y3.1.2.2.1.length (List.drop 0 y3.1.2.2.1),()),(t.1,t.2.1,t.2.2.1,()),())=some y4/\P y4) (P false))=fnW Gr (look [(160,Vq),(161,bm)]) eE Tryz.f120 (p,t,()) P:=by kernel_rfl
theorem Ao9 (t:List Int×List (List Int)×List Int×Unit) (p:Int×ByteArray×List (List Int)×Unit) (P:Bool->Prop):(∃(y3:Bool),eE.fn (p,(t.1,t.2.1,t.2.2.1,()),())=some y3/\P !y3)=fnW Gr (look [(120,eE)]) xQ Tryz.f119 (t,p,()) P:=by kernel_rfl
theorem Ajk (ts:List (List Int×List (List Int)×List Int×Unit)) (c:(Int×ByteArray×List (List Int)×Unit)×Unit) (P:Int->Prop):(Di (λ(v3:Int×PUnit) (k4:Int×PUnit->Prop)=>Br (decide (v3.1<(↑ts.length:Int))) (∃(y5:List Int×List (List Int)×List Int×PUnit),idx ts v3.1=some y5/\ ∃(y6:Bool),xQ.fn (y5,c.1,())=some y6/\Br y6 (P v3.1) (k4 (IntKind.i64.wrap (v3.1+(1:Int)),()))) (P (-1:Int))) ((0:Int),PUnit.unit))=fnW Gr (look [(119,xQ)]) pE Tryz.f159 (ts,c,()) P:=by kernel_rfl
theorem Ajg (ts:List (List Int×List (List Int)×List Int×Unit)) (c:(Int×ByteArray×List (List Int)×Unit)×Unit) (P:Bool->Prop):(∃(y3:Int),pE.fn (ts,c,())=some y3/\P (decide (y3>=(0:Int))))=fnW Gr (look [(159,pE)]) pB Tryz.f118 (ts,c,()) P:=by kernel_rfl
theorem vf (p:Int×ByteArray×List (List Int)×Unit) (ts:List (List Int×List (List Int)×List Int×Unit)) (P:Bool->Prop):(∃(y3:Bool),Im.fn ((p.1,p.2.1,p.2.2.1,()),())=some y3/\Br y3 (Br (decide ((↑ts.length:Int)<=(4:Int))) (∃(y4:Bool),pB.fn (ts,((p.1,p.2.1,p.2.2.1,()),()),())=some y4/\P !y4) (P false)) (P false))=fnW Gr (look [(99,Im),(118,pB)]) Yz Tryz.f60 (p,ts,()) P:=by kernel_rfl
theorem mQ {p:PP} (hV:Valid p) {m:Nat} {x:List Int} {d:Int} (hx: ∀y∈x,0<=y/\y<p.1) (vu:x.length=m): ∀(ls:List Int) (L:List (List Int)) (D:List Int),(∀l∈ls,Fq (List.length p.2.2.1) l)->
  Ve p m L D->(0<=d/\d<L.length)->Ve p m (Jk p.2.2.1 x d ls L D).1 (Jk p.2.2.1 x d ls L D).2.1/\(∃A,(Jk p.2.2.1 x d ls L D).1=L++A)/\(∃A,(Jk p.2.2.1 x d ls L D).2.1=D++A)
 | [],L,D,_,h,_=>⟨h,⟨[],by simp [Jk]⟩,⟨[],by simp [Jk]⟩⟩
 |l::ls,L,D,hl,h,hd=>by
  obtain ⟨n1,n2⟩:=nM hV hx (hl l (by simp))
  have Mb: ∀l∈ls,Fq (List.length p.2.2.1) l:= λl' h'=>hl l' (Ao _ h')
  simp only [Jk]
  split
  ·exact mQ hV hx vu ls L D Mb h hd
  ·rename_i hn
   split
   ·exact ⟨h,⟨[],by simp⟩,⟨[],by simp⟩⟩
   ·rename_i hf
    have lX:=h.ok.gu
    obtain ⟨k1,⟨A,k2⟩,⟨A',k3⟩⟩:=mQ hV hx vu ls (L++ [Af x (Am p.2.2.1 l)]) (D++ [d+1]) Mb (h.add hn (by rw [n1,vu]) (by omega) n2 ⟨by omega,by omega⟩) ⟨hd.1,by rw [Au];omega⟩
    exact ⟨k1,⟨_::A,by rw [k2,Co];rfl⟩,⟨_::A',by rw [k3,Co];rfl⟩⟩
theorem CF {p:PP} (hV:Valid p) {m:Nat} {ls:List Int} (hl: ∀l∈ls,Fq (List.length p.2.2.1) l): ∀(f k:Nat) (L:List (List Int)) (D:List Int),Ve p m L D->
  Ve p m (Ma p.2.2.1 ls f k L D).1 (Ma p.2.2.1 ls f k L D).2.1/\(∃A,(Ma p.2.2.1 ls f k L D).1=L++A)
 |0,k,L,D,h=>⟨h,⟨[],by simp [Ma]⟩⟩
 |f+1,k,L,D,h=>by
  simp only [Ma]
  split
  ·rename_i hk
   have SC:k<D.length:=by rw [h.len];exact hk
   have hd:=h.dep k SC
   have e:D.getD k 0=D[k]:=by rw [Aj,Ac SC];rfl
   rw [Wi hk,e]
   obtain ⟨k1,⟨A,k2⟩,_⟩:=mQ hV (h.row _ (Al hk)) (h.ok.len _ (Al hk)) (d:=D[k]) ls L D hl h ⟨by omega,by omega⟩
   split
   ·rename_i L' D' he
    rw [he] at k1 k2
    obtain ⟨g1,⟨B,g2⟩⟩:=CF hV hl f (k+1) L' D' k1
    have k2:L'=L++A:=k2
    exact ⟨g1,⟨A++B,by rw [g2,k2,Co]⟩⟩
   ·rename_i L' D' he
    rw [he] at k1 k2
    exact ⟨k1,⟨A,k2⟩⟩
  ·exact ⟨h,⟨[],by simp⟩⟩
theorem yq {p:PP} {s:List Int} (hv:Ca p=true) (hs:s.length<=20) (hr: ∀y∈s,0<=y/\y<p.1):Ve p s.length (Hi p.2.2.1 s).1 (Hi p.2.2.1 s).2.1/\ ∃A,(Hi p.2.2.1 s).1=s::A:=
 CF (valid hv) (λ_ hl=>Lo hl) _ _ _ _ (jL hs hr)
theorem Ss {p:PP} {t:List Int} :Em p t=true↔Ca p=true/\Qa p.1 t=true:=by
 unfold Em;rw [Ag]
theorem Hk {p:PP} {t:List Int} (h:Em p t=true):t.length<=20/\ ∀y∈t,0<=y/\y<p.1:=by
 obtain ⟨h1,h2⟩:=Ss.1 h
 have hn:=(valid h1).n
 obtain ⟨h3,h4⟩:=Is.1 h2
 have hy: ∀y∈t,0<=y/\y<p.1:= λy hy=>by
  obtain ⟨j,hj,rfl⟩:=Bf.1 hy
  have:=h4 j hj hj
  omega
 refine ⟨?_,hy⟩
 have h5:=LQ h4 (t.length-1) (by omega)
 have h6:=hy _ (Al (show t.length-1<t.length by omega))
 omega
theorem mh {p:PP} {t:List Int} (h:Em p t=true):Ve p t.length (Hi p.2.2.1 t).1 (Hi p.2.2.1 t).2.1:=(yq (Ss.1 h).1 (Hk h).1 (Hk h).2).1
theorem eu {p:PP} {t:List Int} :Gp p t=true↔Em p t=true/\(Hi p.2.2.1 t).2.2=true:=by
 unfold Gp;rw [Ag]
theorem wW {p:PP} {m:Nat} {L:List (List Int)} {D:List Int} (h:Ve p m L D):Oz L/\short D:=by
 have h1:=h.ok.gu
 have h2:=h.ok.short
 have h3:=h.len
 refine ⟨⟨by omega,λx hx=>?_⟩,by unfold short;omega⟩
 have:=h.ok.len x hx
 unfold short;omega
theorem pV {p:PP} {t:List Int} :ay (Ga p t):=by
 unfold Ga
 split
 ·rename_i h
  have h1:=(eu.1 h).1
  have h2:=wW (mh h1)
  have h3:=(Hk h1).1
  exact ⟨show t.length<=4294967296 by omega,h2.1,h2.2⟩
 ·exact ⟨by simp [short],⟨by simp,λr hr=>by cases hr⟩,by simp [short]⟩
theorem vY (p:PP) (t:List Int) (h:Fc p/\short t):fnW Gr (look [(99,Im),(101,Kt)]) Jv Tryz.f77 (p,t,()) (λ(z:Bool)=>z=Em p t):=by
 refine Eq.mp (wJ p t _) ⟨_,Ab h.1,⟨λhv=>?_,λhv=>?_⟩⟩
 ·have hv:Ca p=true:=hv
  have hn:=(valid hv).n
  refine ⟨_,Ab ⟨⟨by show 0<=p.1;omega,by show p.1<=4294967296;omega⟩,h.2⟩,?_⟩
  unfold Em;rw [hv];rfl
 ·have hv:Ca p=false:=hv
  unfold Em;rw [hv];rfl
theorem o6:Sound Tryz.prog 77 Jv:=
 Sound.Hj Ee (Ba Za (Ba rE Bo)) mixed Tryz.func77 (by kernel_rfl) (by kernel_rfl) λx h=>vY x.1 x.2.1 h
theorem w9 (p:PP) (t:List Int) (h:Fc p/\short t):fnW Gr (look [(63,Im),(137,Kt)]) Jv Tryz.f86 (p,t,()) (λ(z:Bool)=>z=Em p t):=by
 refine Eq.mp (wP p t _) ⟨_,Ab h.1,⟨λhv=>?_,λhv=>?_⟩⟩
 ·have hv:Ca p=true:=hv
  have hn:=(valid hv).n
  refine ⟨_,Ab ⟨⟨by show 0<=p.1;omega,by show p.1<=4294967296;omega⟩,h.2⟩,?_⟩
  unfold Em;rw [hv];rfl
 ·have hv:Ca p=false:=hv
  unfold Em;rw [hv];rfl
theorem oa:Sound Tryz.prog 86 Jv:=
 Sound.Hj Ee (Ba Zc (Ba o7 Bo)) mixed Tryz.func86 (by kernel_rfl) (by kernel_rfl) λx h=>w9 x.1 x.2.1 h
theorem FV (p:PP) (t:List Int) (h:Fc p/\short t):fnW Gr (look [(86,Jv),(126,Gx)]) Vs Tryz.f67 (p,t,()) (λ(z:SS×Bool×Unit)=>z=(Qb p t,Gp p t,())):=by
 refine Eq.mp (HR p t _) ⟨_,Ab h,⟨λhn=>?_,λhn=>?_⟩⟩
 ·have hn:=Hm hn
  have e:Gp p t=false:=Nq.2 λhh=>hn (eu.1 hh).1
  unfold Qb
  rw [Ai hn,e]
  rfl
 ·have hn:Em p t=true:=Ho hn
  have e:Gp p t=(Hi p.2.2.1 t).2.2:=by unfold Gp;rw [hn,Sx]
  refine ⟨_,Ab ⟨(Ss.1 hn).1,(Hk hn).1,(Hk hn).2⟩,?_⟩
  have key:(((Ds p.2.2.1 t).1,(Ds p.2.2.1 t).2.1,(Ds p.2.2.1 t).2.2.1,(Ds p.2.2.1 t).2.2.2.1,()),(Ds p.2.2.1 t).2.2.2.1,())=(Qb p t,Gp p t,()):=by
   unfold Qb
   rw [Ab hn,e]
   rfl
  exact ⟨⟨⟨key,key⟩,key⟩,⟨key,key⟩,key⟩
theorem rH:Sound Tryz.prog 67 Vs:=
 Sound.Hj Ee (Ba oa (Ba qI Bo)) mixed Tryz.func67 (by kernel_rfl) (by kernel_rfl) λx h=>FV x.1 x.2.1 h
theorem FL (l:List (List Int)) (h:Oz l):fnW Gr (look [(68,Kn)]) Sq Tryz.f69 (l,()) (λ(z:List (List Int))=>z=l):=by
 obtain ⟨h1,h2⟩:=h
 refine Eq.mp (HI l _) ⟨rfl,rfl,?_⟩
 refine Bw l.length (λv=>v.1) (λj v=>v.2.1=l.take j) rfl (by simp) ?_
 rintro j ⟨i,ys,⟨⟩⟩ K hj hi hR hK
 dsimp only at hi hR⊢
 subst hi hR
 refine Br.dec (λhl=>?_) λhl=>?_
 ·have hl:j<l.length:=by omega
  refine ⟨_,Cj hl,_,Ab (h2 _ (Al hl)),rfl,rfl,?_,rfl,rfl,?_⟩
  ·show (List.take j l).length+1<=4294967296
   rw [Dc];omega
  ·rw [Bz (by omega)]
   refine hK hl _ rfl ?_
   show List.take j l++ [l[j]]=_
   rw [Ge,Ac hl];rfl
 ·have:j=l.length:=by omega
  subst this
  rw [Bv,Bc]
theorem ru:Sound Tryz.prog 69 Sq:=
 Sound.Hj Ee (Ba c8 Bo) mixed Tryz.func69 (by kernel_rfl) (by kernel_rfl) λx h=>FL x.1 h
theorem FW (p:PP) (t:List Int) (h:Fc p/\short t):fnW Gr (look [(67,Vs),(68,Kn),(69,Sq)]) Ex Tryz.f24 (p,t,()) (λ(z:TT×Bool×Unit)=>z=(Ga p t,Gp p t,())):=by
 refine Eq.mp (HS p t _) ⟨_,Ab h,⟨λhn=>?_,λhn=>?_⟩⟩
 ·have hn:=Hm hn
  have hn: ¬Gp p t=true:=hn
  unfold Ga
  rw [Ai hn,Nq.2 hn]
  rfl
 ·have hn:Gp p t=true:=Ho hn
  obtain ⟨h1,h2⟩:=eu.1 hn
  have h3:=wW (mh h1)
  have e:Qb p t=Ds p.2.2.1 t:=Ab h1
  refine ⟨_,Ab h.2,?_⟩
  show ∃y5:List (List Int),Sq.fn ((Qb p t).1,())=some y5/\ ∃y6:List Int,Kn.fn ((Qb p t).2.1,())=some y6/\((t,y5,y6,()),true,())=(Ga p t,Gp p t,())
  rw [e]
  refine ⟨_,Ab h3.1,_,Ab h3.2,?_⟩
  unfold Ga
  rw [Ab hn,hn]
  rfl
theorem rI:Sound Tryz.prog 24 Ex:=
 Sound.Hj Ee (Ba rH (Ba c8 (Ba ru Bo))) mixed Tryz.func24 (by kernel_rfl) (by kernel_rfl) λx h=>FW x.1 x.2.1 h
def oJ (m:ByteArray->Option Bool) (L:List (List Int)):Prop:= ∀q,gn q->(m (Xn q)).getD false=decide (q∈L)
theorem oJ.add {m:ByteArray->Option Bool} {L:List (List Int)} {y:List Int} (h:oJ m L) (hy:gn y):oJ (jA m (Xn y) true) (L++ [y]):=by
 intro q hq
 unfold jA
 by_cases e:q=y
 ·subst e
  rw [Ab rfl];simp
 ·rw [Ai λhk=>e (key_inj hq hy hk),h q hq]
  simp [e]
theorem LJ (n:Int) (str:ByteArray) (g:List (List Int)) (t:List Int) (h:Em (n,str,g,()) t=true):
  fnMW (mB [Og+10]) (look [(138,c6),(121,Le),(139,Mu),(135,Ii),(79,bq)]) Yu Tryz.f88 (n,str,g,t,()) (λ(z:(List (List Int)×List Int×Bool×Unit)×Unit)=>z=(((Ga (n,str,g,()) t).2.1,(Ga (n,str,g,()) t).2.2.1,Gp (n,str,g,()) t,()),())):=by
 obtain ⟨hv,_⟩:=Ss.1 h
 obtain ⟨ht,hr⟩:=Hk h
 have hV:=valid hv
 have lX:=hV.gu
 have hn:=hV.n
 dsimp only at lX hn hr
 have hb0:=jL (p:=(n,str,g,())) ht hr
 have IA:short t:=by unfold short;omega
 obtain ⟨ls,pa⟩: ∃ls,Ax g.length=ls:=⟨_,rfl⟩
 have hll:ls.length<=16:=by rw [<-pa,Oo];omega
 have ny: ∀l∈ls,Fq (List.length g) l:= λl hl=>Lo (pa▸hl)
 have JW:Ma g ls 3001 0 [t] [0]=Hi g t:=by unfold Hi;rw [pa]
 have Afd: ∀x:List Int,(∀y∈x,0<=y/\y<n)->gn x:= λx hx y hy=>by have:=hx y hy;omega
 have Ale: ∀L D ok,Hi g t=(L,D,ok)->(if ok=true then ((L,D,true,()),()) else ((([]:List (List Int)),([]:List Int),false,()),()))=(((Ga (n,str,g,()) t).2.1,(Ga (n,str,g,()) t).2.2.1,Gp (n,str,g,()) t,()),()):=by
  intro L D ok he
  have e1:Gp (n,str,g,()) t=ok:=by unfold Gp;rw [h,Sx];show (Hi g t).2.2=ok;rw [he]
  unfold Ga
  rw [e1]
  cases ok with
  |true=>rw [Ab rfl,Ab rfl];show ((L,D,true,()),())=(((Hi g t).1,(Hi g t).2.1,true,()),());rw [he]
  |false=>rw [Ai (by decide),Ai (by decide)]
 refine Eq.mp (NT n str g t _) ⟨_,Ab IA,_,Ab IA,ls,(Ab ⟨by show (0:Int)<=((g.length:Nat):Int);omega,by show ((g.length:Nat):Int)<=8;omega⟩).trans (Gz some (by show Ax (((g.length:Nat):Int)).toNat=ls;rw [Ar];exact pa)),rfl,rfl,rfl,rfl,rfl,rfl,?_⟩
 rw [Bv]
 refine Bw ls.length (λv=>v.1) (λj v=>v.2.1=n/\v.2.2.1=str/\v.2.2.2.1=g/\v.2.2.2.2.1=(ls.take j).map (Am g)/\v.2.2.2.2.2.1= [t]/\v.2.2.2.2.2.2.1= [0]/\oJ v.2.2.2.2.2.2.2.1 [t]) rfl
  ⟨rfl,rfl,rfl,by simp,rfl,rfl,λq hq=>?_⟩ ?_
 ·show (jA (λ_=>none) (Xn t) true (Xn q)).getD false=_
  unfold jA
  by_cases e:q=t
  ·subst e;rw [Ab rfl];simp
  ·rw [Ai λhk=>e (key_inj hq (Afd t hr) hk)];simp [e]
 rintro j ⟨i,n',Anu,g',mv,L1,D1,m1,⟨⟩⟩ K hj hi ⟨h1,h2,h3,h4,h5,h6,h7⟩ hK
 dsimp only at hi h1 h2 h3 h4 h5 h6 h7⊢
 subst hi h1 h2 h3 h4 h5 h6
 refine Br.dec (λhl=>?_) λhl=>⟨rfl,rfl,rfl,rfl,rfl,rfl,?_⟩
 ·have hl:j<ls.length:=by omega
  have kr:=ny _ (Al hl)
  refine ⟨_,Cj hl,_,Ab ⟨kr,lX.2,hV.perm⟩,rfl,rfl,?_,rfl,rfl,rfl,rfl,rfl,rfl,?_⟩
  ·show (List.map (Am g') (List.take j ls)).length+1<=4294967296
   rw [Gh,Dc];omega
  ·rw [Bz (by omega)]
   refine hK hl _ rfl ⟨rfl,rfl,rfl,?_,rfl,rfl,h7⟩
   show List.map (Am g') (List.take j ls)++ [Am g' ls[j]]=_
   rw [Ge,Ac hl,Mj];rfl
 ·have:j=ls.length:=by omega
  subst this
  rw [Bc]
  obtain ⟨ms,PC⟩: ∃ms,ls.map (Am g')=ms:=⟨_,rfl⟩
  have Awy:ms.length=ls.length:=by rw [<-PC,Gh]
  have Aru: ∀i (h:i<ls.length),ms[i]'(by omega)=Am g' ls[i]:= λi h=>by simp only [<-PC,eO]
  rw [PC]
  refine Di.mk (λv=>v.2.1=ms/\ ∃k:Nat,v.1=k/\k<=v.2.2.1.length/\Ve (n',Anu,g',()) t.length v.2.2.1 v.2.2.2.1/\oJ v.2.2.2.2.1 v.2.2.1/\Ma g' ls (3001-k) k v.2.2.1 v.2.2.2.1=Hi g' t) (λv=>3001-v.1.toNat)
   ⟨rfl,0,rfl,by simp,hb0,h7,JW⟩ ?_
  rintro ⟨k',mv,L0,D0,mp,⟨⟩⟩ ⟨h1,k,h5,h6,h7,h8,h9⟩
  dsimp only at h1 h5 h6 h7 h8 h9
  subst h1 h5
  dsimp only
  have hL0:=h7.ok.gu
  have hD0:=h7.len
  refine Br.dec (λhl=>⟨rfl,rfl,rfl,rfl,rfl,rfl,rfl,rfl,?_⟩) λhl=>?_
  ·have hk:k<L0.length:=by omega
   have SC:k<D0.length:=by omega
   have hx: ∀y∈L0[k],0<=y/\y<n':=h7.row _ (Al hk)
   have vu:L0[k].length=t.length:=h7.ok.len _ (Al hk)
   have hdk:=h7.dep k SC
   obtain ⟨f,hf⟩: ∃f,3001-k=f+1:=⟨3000-k,by omega⟩
   have hgo: ∀L' D' ok,Jk g' L0[k] D0[k] ls L0 D0=(L',D',ok)->Hi g' t=if ok=true then Ma g' ls f (k+1) L' D' else (L',D',false):=by
    intro L' D' ok he
    rw [<-h9,hf,Ma,Ab hk,Wi hk,Aj,Ac SC]
    simp only [Dd]
    rw [he]
    cases ok<;>rfl
   refine Di.mk (λv=>v.2.1=mv/\ ∃i:Nat,v.1=i/\i<=ls.length/\Ve (n',Anu,g',()) t.length v.2.2.1 v.2.2.2.1/\oJ v.2.2.2.2.1 v.2.2.1/\(∃A,v.2.2.1=L0++A)/\(∃A,v.2.2.2.1=D0++A)/\
     Jk g' L0[k] D0[k] (ls.drop i) v.2.2.1 v.2.2.2.1=Jk g' L0[k] D0[k] ls L0 D0) (λv=>ls.length-v.1.toNat)
    ⟨rfl,0,rfl,Kw _,h7,h8,⟨[],by simp⟩,⟨[],by simp⟩,rfl⟩ ?_
   rintro ⟨i',mv',L,D,mp2,⟨⟩⟩ ⟨g1,i,g5,g6,g7,g8,⟨A,g9⟩,⟨A',g10⟩,r8⟩
   dsimp only at g1 g5 g6 g7 g8 g9 g10 r8
   subst g1 g5
   dsimp only
   have hLf:=g7.ok.gu
   have hDl:=g7.len
   refine Br.dec (λhli=>?_) λhli=>?_
   ·have hi:i<ls.length:=by omega
    have hkL:k<L.length:=by rw [g9,Au];omega
    have hLk:L[k]=L0[k]:=by simp only [g9];exact Pv hk
    have Ahn:k<D.length:=by rw [hDl];exact hkL
    have hDk:D[k]=D0[k]:=by simp only [g10];exact Pv SC
    have kr:=ny _ (Al hi)
    obtain ⟨nl,nr⟩:=nM hV hx kr
    dsimp only at nl nr
    have PB:=jW hV kr
    dsimp only at PB
    rw [Fg hi] at r8
    simp only [Jk] at r8
    have hyb:=Afd _ nr
    refine ⟨⟨by omega,by omega⟩,Am g' ls[i],by rw [Ar,Cb,Ac (by omega),Aru i hi],⟨by omega,by omega⟩,L0[k],by rw [Ar,Cb,Ac hkL,hLk],
     _,Ab ⟨by show short L0[k];unfold short;omega,by show Ob (Am g' ls[i]).length L0[k];intro y hy;have:=hx y hy;omega⟩,?_⟩
    dsimp only
    rw [show Ed (Am g' ls[i]) L0[k]=Af L0[k] (Am g' ls[i]) from rfl,Bv]
    generalize hyv:Af L0[k] (Am g' ls[i])=yv at*
    refine ⟨_,Ab (by show short yv;unfold short;rw [nl];omega),?_⟩
    dsimp only
    rw [g8 _ hyb]
    refine ⟨λgR=>?_,λgR=>⟨rfl,rfl,rfl,rfl,rfl,rfl,rfl,rfl,?_⟩⟩
    ·have gR:yv∉L:=by simpa using gR
     rw [Ai gR] at r8
     refine ⟨λZu=>?_,λZu=>⟨rfl,rfl,by show L.length+1<=4294967296;omega,⟨by omega,by omega⟩,D0[k],by rw [Ar,Cb,Ac Ahn,hDk],rfl,rfl,by show D.length+1<=4294967296;omega,rfl,rfl,rfl,rfl,rfl,rfl,rfl,rfl,?_⟩⟩
     ·have Zu:L.length=3000:=by
       have:(L.length:Int)=3000:=by simpa using Zu
       omega
      rw [Ab Zu] at r8
      have:=hgo _ _ _ r8.symm
      rw [Ai (by decide)] at this
      have:=Ale _ _ _ this
      rw [Ai (by decide)] at this
      exact this
     ·have Zu:L.length≠3000:=by
       have:(L.length:Int)≠3000:=by simpa using Zu
       omega
      rw [Ai Zu] at r8
      rw [Cn (n:=D0[k]+1) (by omega) (by omega),Bz (by omega)]
      refine ⟨⟨rfl,i+1,rfl,hi,g7.add gR (by rw [nl,vu]) (by omega) nr ⟨by omega,by omega⟩,g8.add hyb,⟨A++ [yv],by rw [g9,Co];rfl⟩,⟨A'++ [D0[k]+1],by rw [g10,Co];rfl⟩,r8⟩,by omega⟩
    ·have gR:yv∈L:=by simpa using gR
     rw [Ab gR] at r8
     rw [Bz (by omega)]
     exact ⟨⟨rfl,i+1,rfl,hi,g7,g8,⟨A,g9⟩,⟨A',g10⟩,r8⟩,by omega⟩
   ·have:i=ls.length:=by omega
    subst this
    rw [Tj,Jk] at r8
    have:=hgo _ _ _ r8.symm
    rw [Ab rfl] at this
    rw [Bz (by omega)]
    refine ⟨rfl,rfl,rfl,rfl,rfl,rfl,⟨rfl,k+1,rfl,by rw [g9,Au];omega,g7,g8,?_⟩,by omega⟩
    rw [show 3001-(k+1)=f by omega]
    exact this.symm
  ·have hk:k=L0.length:=by omega
   rw [Bv L0,Bv D0]
   obtain ⟨f,hf⟩: ∃f,3001-k=f+1:=⟨3000-k,by omega⟩
   rw [hf,Ma,Ai (by omega)] at h9
   have:=Ale _ _ _ h9.symm
   rw [Ab rfl] at this
   exact this
theorem uH:Cl Tryz.prog 88 Yu:=
 Cl.jZ (mC [Og+10]) (Fp o3 (Ba ca (Ba lh (Ba jt (Fp wq Bo))))) mixed Tryz.func88 (by kernel_rfl) (by kernel_rfl) λx h=>LJ x.1 x.2.1 x.2.2.1 x.2.2.2.1 h
theorem sD {p:PP} {t:List Int} (h: ¬Gp p t=true):Ga p t=([],[],[],()):=Ai h
theorem LL (n:Int) (str:ByteArray) (g:List (List Int)) (t:List Int) (h:Fc (n,str,g,())/\short t):
  fnMW Rk (look [(77,Jv),(88,Yu)]) Yw Tryz.f90 (n,str,g,t,()) (λ(z:(List (List Int)×List Int×Bool×Unit)×Unit)=>z=(((Ga (n,str,g,()) t).2.1,(Ga (n,str,g,()) t).2.2.1,Gp (n,str,g,()) t,()),())):=by
 refine Eq.mp (NV n str g t _) ⟨_,Ab h,⟨λhn=>?_,λhn=>?_⟩⟩
 ·have hn: ¬Em (n,str,g,()) t=true:=Hm hn
  have e: ¬Gp (n,str,g,()) t=true:= λhh=>hn (eu.1 hh).1
  rw [sD e,Nq.2 e]
  rfl
 ·have hn:Em (n,str,g,()) t=true:=Ho hn
  refine ⟨_,Ab hn,?_⟩
  rw [Bv,Bv]
theorem uJ:Cl Tryz.prog 90 Yw:=
 Cl.jZ Qm (Ba o6 (Fp uH Bo)) mixed Tryz.func90 (by kernel_rfl) (by kernel_rfl) λx h=>LL x.1 x.2.1 x.2.2.1 x.2.2.2.1 h
theorem FO (n:Int) (str:ByteArray) (g:List (List Int)) (t:List Int) (h:Fc (n,str,g,())/\short t):
  fnMW Rk (look [(90,Yw),(138,c6)]) Vq Tryz.f160 (n,str,g,t,()) (λ(z:(List Int×List (List Int)×List Int×Bool×Unit)×Unit)=>z=(((Ga (n,str,g,()) t).1,(Ga (n,str,g,()) t).2.1,(Ga (n,str,g,()) t).2.2.1,Gp (n,str,g,()) t,()),())):=by
 refine Eq.mp (HL n str g t _) ⟨_,Ab h,⟨λhn=>?_,λhn=>?_⟩⟩
 ·have e: ¬Gp (n,str,g,()) t=true:=Hm hn
  rw [sD e,Nq.2 e]
  rfl
 ·have e:Gp (n,str,g,()) t=true:=Ho hn
  refine ⟨_,Ab h.2,?_⟩
  rw [Bv,Bv,Bv,e]
  have e2:(Ga (n,str,g,()) t).1=t:=by unfold Ga;rw [Ab e]
  rw [e2]
theorem rC:Cl Tryz.prog 160 Vq:=
 Cl.jZ Qm (Fp uJ (Fp o3 Bo)) mixed Tryz.func160 (by kernel_rfl) (by kernel_rfl) λx h=>FO x.1 x.2.1 x.2.2.1 x.2.2.2.1 h
theorem zv (p:PP) (t:TT) (h:Fc p/\ay t):fnW Gr (look [(160,Vq),(161,bm)]) eE Tryz.f120 (p,t,()) (λ(z:Bool)=>z=Gs p t):=by
 refine Eq.mp (BC p t _) ⟨_,Ab ⟨h.1,h.2.1⟩,⟨λhn=>?_,λhn=>?_⟩⟩
 ·have e:Gp p t.1=true:=hn
  rw [Bv,Bv,Bv]
  refine ⟨_,Ab pV,?_⟩
  unfold Gs
  rw [e];rfl
 ·have e:Gp p t.1=false:=hn
  unfold Gs
  rw [e];rfl
theorem pK:Sound Tryz.prog 120 eE:=
 Sound.Hj Ee (Fp rC (Ba kz Bo)) mixed Tryz.func120 (by kernel_rfl) (by kernel_rfl) λx h=>zv x.1 x.2.1 h
theorem Ank (t:TT) (p:PP) (h:ay t/\Fc p):fnW Gr (look [(120,eE)]) xQ Tryz.f119 (t,p,()) (λ(z:Bool)=>z=!Gs p t):=by
 exact Eq.mp (Ao9 t p _) ⟨_,Ab ⟨h.2,h.1⟩,rfl⟩
theorem UL:Sound Tryz.prog 119 xQ:=
 Sound.Hj Ee (Ba pK Bo) mixed Tryz.func119 (by kernel_rfl) (by kernel_rfl) λx h=>Ank x.1 x.2.1 h
theorem Ait (ts:List TT) (c:PP×Unit) (h:Rt ts/\Fc c.1):fnW Gr (look [(119,xQ)]) pE Tryz.f159 (ts,c,()) (λ(z:Int)=>z=Sk (λt=>!Gs c.1 t) ts 0):=by
 obtain ⟨⟨h1,h2⟩,h3⟩:=h
 refine Eq.mp (Ajk ts c _) ?_
 refine Bw ts.length (λv=>v.1) (λj _=>Sk (λt=>!Gs c.1 t) (ts.drop j) j=Sk (λt=>!Gs c.1 t) ts 0) rfl (by simp) ?_
 rintro j ⟨i,⟨⟩⟩ K hj hi hR hK
 dsimp only at hi⊢
 subst hi
 refine Br.dec (λhl=>?_) λhl=>?_
 ·have hl:j<ts.length:=by omega
  rw [Fg hl] at hR
  simp only [Sk] at hR
  refine ⟨_,Cj hl,_,Ab ⟨h2 _ (Al hl),h3⟩,⟨λhe=>?_,λhe=>?_⟩⟩
  ·have he:(!Gs c.1 ts[j])=true:=he
   rw [Ab he] at hR
   exact hR
  ·have he:(!Gs c.1 ts[j])=false:=he
   rw [Ai (by rw [he];decide)] at hR
   rw [Bz (by omega)]
   exact hK hl _ rfl (by push_cast;exact hR)
 ·have:j=ts.length:=by omega
  subst this
  rw [Tj] at hR
  exact hR
theorem MR:Sound Tryz.prog 159 pE:=
 Sound.Hj Ee (Ba UL Bo) mixed Tryz.func159 (by kernel_rfl) (by kernel_rfl) λx h=>Ait x.1 x.2.1 h
theorem tp (q:TT->Bool): ∀(ts:List TT) (k:Int),0<=k->decide (Sk q ts k>=0)=ts.any q
 | [],k,_=>by simp [Sk]
 |t::ts,k,hk=>by
  have ih:=tp q ts (k+1) (by omega)
  rw [List.any_cons]
  by_cases e:q t=true
  ·have e2:Sk q (t::ts) k=k:=Ab e
   rw [e]
   exact Cy (by rw [e2];exact hk)
  ·have e2:Sk q (t::ts) k=Sk q ts (k+1):=Ai e
   rw [Nq.2 e,Sw,<-ih]
   exact decide_eq_decide.2 (by rw [e2])
theorem Aip (ts:List TT) (c:PP×Unit) (h:Rt ts/\Fc c.1):fnW Gr (look [(159,pE)]) pB Tryz.f118 (ts,c,()) (λ(z:Bool)=>z=List.any ts (λt=>!Gs c.1 t)):=by
 exact Eq.mp (Ajg ts c _) ⟨_,Ab h,tp _ ts 0 (Gi 0)⟩
theorem MN:Sound Tryz.prog 118 pB:=
 Sound.Hj Ee (Ba MR Bo) mixed Tryz.func118 (by kernel_rfl) (by kernel_rfl) λx h=>Aip x.1 x.2.1 h
theorem BX (q:TT->Bool) (ts:List TT):(!List.any ts λt=>!q t)=List.all ts q:=by
 induction ts with
 |nil=>rfl
 |cons t ts ih=>simp only [List.any_cons,Jg,<-ih];cases q t<;>simp
theorem u5 (p:PP) (ts:List TT) (h:Fc p/\Rt ts):fnW Gr (look [(99,Im),(118,pB)]) Yz Tryz.f60 (p,ts,()) (λ(z:Bool)=>z=El p ts):=by
 refine Eq.mp (vf p ts _) ⟨_,Ab h.1,⟨λhv=>Br.dec (λhl=>⟨_,Ab ⟨h.2,h.1⟩,?_⟩) λhl=>?_,λhv=>?_⟩⟩
 ·have hv:Ca p=true:=hv
  have hl:ts.length<=4:=by omega
  show (!List.any ts λt=>!Gs p t)=_
  rw [BX]
  unfold El
  rw [hv,Cy hl];rfl
 ·unfold El
  rw [Ez (by omega),Bool.and_false];rfl
 ·have hv:Ca p=false:=hv
  unfold El
  rw [hv];rfl
theorem mw:Sound Tryz.prog 60 Yz:=
 Sound.Hj Ee (Ba Za (Ba MN Bo)) mixed Tryz.func60 (by kernel_rfl) (by kernel_rfl) λx h=>u5 x.1 x.2.1 h
theorem SW {a b:TT} :l6 a b=true↔a=b:=by
 obtain ⟨a1,a2,a3,⟨⟩⟩:=a
 obtain ⟨b1,b2,b3,⟨⟩⟩:=b
 simp [l6]
end Go.Proofs.YtkkdpknjohcekaaGreat
