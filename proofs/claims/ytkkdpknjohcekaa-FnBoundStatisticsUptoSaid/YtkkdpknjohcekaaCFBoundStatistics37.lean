/-
  Part 38 of the proof that the statement FnBoundStatistics holds.
-/
import Derived.Test.YtkkdpknjohcekaaCFBoundStatistics36
import Derived.KernelRfl
namespace Go.Proofs.Ytkkdpknjohcekaa
open Go.RowKit
def Mj (x a b:Int):Bool:=decide (a<=x/\x<=b)
def ka (n x:Int):Bool:=decide (0<=x/\x<=IntKind.i64.wrap (n-1))
def Hr (a b:List Int):Bool:=decide (a=b)
def ld (xs:List Int) (x:Int):Bool:=decide (x∈xs)
def short (xs:List Int):Prop:=xs.length<=4294967296
noncomputable abbrev Df:Spec:=Ib (.pair tI (.pair tI (.pair tI .unit))) .bool false true (λ_=>True) (λx=>Mj x.1 x.2.1 x.2.2.1)
noncomputable abbrev bn:Spec:=Ib (.pair tI (.pair tI .unit)) .bool false true (λ_=>True) (λx=>ka x.1 x.2.1)
noncomputable abbrev Es:Spec:=Ib (.pair tL (.pair tL .unit)) .bool false true (λx=>short x.1) (λx=>Hr x.1 x.2.1)
noncomputable abbrev Qy:Spec:=Ib (.pair tL (.pair tI .unit)) .bool false true (λx=>short x.1) (λx=>ld x.1 x.2.1)
theorem VR (x a b:Int) (P:Bool->Prop):(Br (decide (x>=a)) (P (decide (x<=b))) (P false))=fnW Hf (look []) Df Try.f65 (x,a,b,()) P:=by kernel_rfl
theorem Abz (x a b:Int) (P:Bool->Prop):(Br (decide (x>=a)) (P (decide (x<=b))) (P false))=fnW Hf (look []) Df Try.f94 (x,a,b,()) P:=by kernel_rfl
theorem VT (n x:Int) (P:Bool->Prop):(∃(y3:Bool),Df.fn (x,0,IntKind.i64.wrap (n-1),())=some y3/\P y3)=fnW Hf (look [(94,Df)]) bn Try.f159 (n,x,()) P:=by kernel_rfl
theorem IG (a b:List Int) (P:Bool->Prop):(Br ((↑a.length:Int) !=(↑b.length:Int)) (P false) (Dh (λ(v3:Int×PUnit) (k4:Int×PUnit->Prop)=>Br (decide (v3.1<(↑a.length:Int))) (∃(y5:Int),idx a v3.1=some y5/\ ∃(y6:Int),idx b v3.1=some y6/\Br (y5 !=y6) (P false) (k4 (IntKind.i64.wrap (v3.1+1),()))) (P true)) (0,PUnit.unit)))=fnW Hf (look []) Es Try.f80 (a,b,()) P:=by kernel_rfl
theorem wM (a b:List Int) (P:Bool->Prop):(Br ((↑a.length:Int) !=(↑b.length:Int)) (P false) (Dh (λ(v3:Int×PUnit) (k4:Int×PUnit->Prop)=>Br (decide (v3.1<(↑a.length:Int))) (∃(y5:Int),idx a v3.1=some y5/\ ∃(y6:Int),idx b v3.1=some y6/\Br (y5 !=y6) (P false) (k4 (IntKind.i64.wrap (v3.1+1),()))) (P true)) (0,PUnit.unit)))=fnW Hf (look []) Es Try.f82 (a,b,()) P:=by kernel_rfl
theorem wH (xs:List Int) (x:Int) (P:Bool->Prop):(Dh (λ(v3:Int×PUnit) (k4:Int×PUnit->Prop)=>Br (decide (v3.1<(↑xs.length:Int))) (∃(y5:Int),idx xs v3.1=some y5/\Br (y5==x) (P true) (k4 (IntKind.i64.wrap (v3.1+1),()))) (P false)) (0,PUnit.unit))=fnW Hf (look []) Qy Try.f152 (xs,x,()) P:=by kernel_rfl
theorem TS (x a b:Int) (_:True):fnW Hf (look []) Df Try.f65 (x,a,b,()) (λ(z:Bool)=>z=Mj x a b):=by
 refine Eq.mp (VR x a b _) ?_
 refine Br.dec (λh=>?_) λh=>?_
 ·have h:a<=x:=h
  simp [Mj,h]
 ·exact (Io λhh=>h hh.1).symm
theorem Ue:Sound Try.prog 65 Df:=
 Sound.Ib Ew Bw mixed Try.func65 (by kernel_rfl) (by kernel_rfl) λx h=>TS x.1 x.2.1 x.2.2.1 h
theorem Aaf (x a b:Int) (_:True):fnW Hf (look []) Df Try.f94 (x,a,b,()) (λ(z:Bool)=>z=Mj x a b):=by
 refine Eq.mp (Abz x a b _) ?_
 refine Br.dec (λh=>?_) λh=>?_
 ·have h:a<=x:=h
  simp [Mj,h]
 ·exact (Io λhh=>h hh.1).symm
theorem Xd:Sound Try.prog 94 Df:=
 Sound.Ib Ew Bw mixed Try.func94 (by kernel_rfl) (by kernel_rfl) λx h=>Aaf x.1 x.2.1 x.2.2.1 h
theorem TV (n x:Int) (_:True):fnW Hf (look [(94,Df)]) bn Try.f159 (n,x,()) (λ(z:Bool)=>z=ka n x):=
 Eq.mp (VT n x _) ⟨_,Ac trivial,rfl⟩
theorem wu:Sound Try.prog 159 bn:=
 Sound.Ib Ew (Bd Xd Bw) mixed Try.func159 (by kernel_rfl) (by kernel_rfl) λx h=>TV x.1 x.2.1 h
theorem w5 (xs:List Int) (x:Int) (h:short xs):fnW Hf (look []) Qy Try.f152 (xs,x,()) (λ(z:Bool)=>z=ld xs x):=by
 refine Eq.mp (wH xs x _) ?_
 unfold short at h
 refine Bs xs.length (λv=>v.1) (λj _=>x∉xs.take j) rfl (by simp) ?_
 rintro j ⟨i,⟨⟩⟩ K hj hi hR hK
 dsimp only at hi⊢
 subst hi
 refine Br.dec (λhl=>?_) λhl=>?_
 ·have hl:j<xs.length:=by omega
  refine ⟨_,Ck hl,⟨λhe=>?_,λhe=>?_⟩⟩
  ·have hm:=Al hl
   simp only [beq_iff_eq] at he
   rw [he] at hm
   exact (Eo hm).symm
  ·rw [Bk (by omega)]
   refine hK hl _ rfl ?_
   simp only [beq_eq_false_iff_ne,ne_eq] at he
   rw [Ch hl]
   simp only [Ax,Ad,not_or]
   exact ⟨hR,λhx=>he hx.symm⟩
 ·have:j=xs.length:=by omega
  subst this
  rw [Aw] at hR
  exact (Io hR).symm
theorem o5:Sound Try.prog 152 Qy:=
 Sound.Ib Ew Bw mixed Try.func152 (by kernel_rfl) (by kernel_rfl) λx h=>w5 x.1 x.2.1 h
theorem PJ (a b:List Int) (hlen:a.length=b.length) (h:short a):
  Dh (λ(v3:Int×PUnit) (k4:Int×PUnit->Prop)=>
   Br (decide (v3.1<(↑a.length:Int))) (∃(y5:Int),idx a v3.1=some y5/\ ∃(y6:Int),idx b v3.1=some y6/\Br (y5 !=y6) (false=Hr a b) (k4 (IntKind.i64.wrap (v3.1+1),())))
    (true=Hr a b))
  (0,PUnit.unit):=by
 unfold short at h
 refine Bs a.length (λv=>v.1) (λj _=>a.take j=b.take j) rfl (by simp) ?_
 rintro j ⟨i,⟨⟩⟩ K hj hi hR hK
 dsimp only at hi⊢
 subst hi
 refine Br.dec (λhl=>?_) λhl=>?_
 ·have s8:j<a.length:=by omega
  have CA:j<b.length:=by omega
  refine ⟨_,Ck s8,_,Ck CA,⟨λhe=>?_,λhe=>?_⟩⟩
  ·simp only [bne_iff_ne,ne_eq] at he
   refine (Io λvK=>he ?_).symm
   subst vK
   rfl
  ·rw [Bk (by omega)]
   refine hK s8 _ rfl ?_
   simp only [Xy] at he
   rw [Ch s8,Ch CA,hR,he]
 ·have KS:j=a.length:=by omega
  subst KS
  rw [Aw,hlen,Aw] at hR
  exact (Eo hR).symm
theorem GG (a b:List Int) (h:short a):fnW Hf (look []) Es Try.f80 (a,b,()) (λ(z:Bool)=>z=Hr a b):=by
 refine Eq.mp (IG a b _) ⟨λhl=>?_,λhl=>?_⟩
 ·simp only [bne_iff_ne,ne_eq,Lw] at hl
  exact (Io λvK=>hl (by rw [vK])).symm
 ·simp only [Xy,Lw] at hl
  exact PJ a b hl h
theorem rD:Sound Try.prog 80 Es:=
 Sound.Ib Ew Bw mixed Try.func80 (by kernel_rfl) (by kernel_rfl) λx h=>GG x.1 x.2.1 h
theorem wa (a b:List Int) (h:short a):fnW Hf (look []) Es Try.f82 (a,b,()) (λ(z:Bool)=>z=Hr a b):=by
 refine Eq.mp (wM a b _) ⟨λhl=>?_,λhl=>?_⟩
 ·simp only [bne_iff_ne,ne_eq,Lw] at hl
  exact (Io λvK=>hl (by rw [vK])).symm
 ·simp only [Xy,Lw] at hl
  exact PJ a b hl h
theorem cV:Sound Try.prog 82 Es:=
 Sound.Ib Ew Bw mixed Try.func82 (by kernel_rfl) (by kernel_rfl) λx h=>wa x.1 x.2.1 h
abbrev TT:Type:=List Int×List (List Int)×List Int×Unit
def Nc (xs:List (List Int)):Prop:=xs.length<=4294967296/\ ∀r∈xs,short r
def aw (t:TT):Prop:=short t.1/\Nc t.2.1/\short t.2.2.1
def iZ (a b:List (List Int)):Bool:=decide (a=b)
def lf (a b:TT):Bool:=decide (a.1=b.1)&&(decide (a.2.1=b.2.1)&&decide (a.2.2.1=b.2.2.1))
noncomputable abbrev pF:Spec:=Ib (.pair mG (.pair mG .unit)) .bool false true (λx=>Nc x.1) (λx=>iZ x.1 x.2.1)
noncomputable abbrev bl:Spec:=Ib (.pair cd (.pair cd .unit)) .bool false true (λx=>aw x.1) (λx=>lf x.1 x.2.1)
theorem dB {α:Type} {ys xs:List α} {j:Nat} (h:j<xs.length) (hl:ys.length=xs.length) (ht:ys.take j=xs.take j):(ys.set j xs[j]).take (j+1)=xs.take (j+1):=by
 have h1:j<(ys.set j xs[j]).length:=by rw [Cf];omega
 rw [Ch h1,Ch h,List.getElem_set_self,List.take_set_of_le (Ap j),ht]
def PL (n:Int) (xs:List Int) (k:Nat):Prop:= ∀j (h:j<xs.length),j<k->0<=xs[j]/\xs[j]<=n-1/\(0<j->xs[j-1]<xs[j])
def DL (n:Int) (xs:List Int) (k:Nat):Prop:= ∀j (h:j<xs.length),j<k->0<=xs[j]/\xs[j]<=n-1/\xs[j]∉xs.take j
noncomputable def dec (p:Prop):Bool:= @decide p (Classical.propDecidable p)
theorem Rr {p:Prop} (h:p):true=dec p:=(@Eo p (Classical.propDecidable p) h).symm
theorem Dw {p:Prop} (h: ¬p):false=dec p:=(@Io p (Classical.propDecidable p) h).symm
theorem Hy {p:Prop} :dec p=true↔p:= @Mc p (Classical.propDecidable p)
theorem Acy {p:Prop} :dec p=false↔ ¬p:= @decide_eq_false_iff_not p (Classical.propDecidable p)
def nOK (n:Int):Prop:=0<=n/\n<=4294967296
noncomputable def Pq (n:Int) (xs:List Int):Bool:=dec (0<xs.length/\PL n xs xs.length)
noncomputable abbrev Kj:Spec:=Ib (.pair tI (.pair tL .unit)) .bool false true (λx=>nOK x.1/\short x.2.1) (λx=>Pq x.1 x.2.1)
noncomputable abbrev ki:Spec:=Ib (.pair mG .unit) tI false true (λ_=>True) (λx=>(List.length x.1:Int))
theorem wL (n:Int) (xs:List Int) (P:Bool->Prop):(∃(y3:Bool),Df.fn ((↑xs.length:Int),(1:Int),n,())=some y3/\Br (!y3) (P false) (Dh (λ(v4:Int×PUnit) (k5:Int×PUnit->Prop)=>Br (decide (v4.1<(↑xs.length:Int))) (∃(y6:Int),idx xs v4.1=some y6/\ ∃(y7:Bool),Df.fn (y6,(0:Int),IntKind.i64.wrap (n-(1:Int)),())=some y7/\Br (!y7) (P false) (Br (decide (v4.1>(0:Int))) (∃(y8:Int),idx xs v4.1=some y8/\ ∃(y9:Int),idx xs (IntKind.i64.wrap (v4.1-(1:Int)))=some y9/\Br (decide (y8<=y9)) (P false) (k5 (IntKind.i64.wrap (v4.1+(1:Int)),()))) (k5 (IntKind.i64.wrap (v4.1+(1:Int)),())))) (P true)) ((0:Int),PUnit.unit)))=fnW Hf (look [(65,Df)]) Kj Try.f162 (n,xs,()) P:=by kernel_rfl
theorem IM (n:Int) (xs:List Int) (P:Bool->Prop):(Dh (λ(v3:Int×PUnit) (k4:Int×PUnit->Prop)=>Br (decide (v3.1<(↑xs.length:Int))) (∃(y5:Int),idx xs v3.1=some y5/\ ∃(y6:Bool),bn.fn (n,y5,())=some y6/\Br (!y6) (P false) (Br (decide (v3.1>(0:Int))) (∃(y7:Int),idx xs (IntKind.i64.wrap (v3.1-(1:Int)))=some y7/\Br (decide (y7>=y5)) (P false) (k4 (IntKind.i64.wrap (v3.1+(1:Int)),()))) (k4 (IntKind.i64.wrap (v3.1+(1:Int)),())))) (P (decide ((↑xs.length:Int)>(0:Int))))) ((0:Int),PUnit.unit))=fnW Hf (look [(159,bn)]) Kj Try.f93 (n,xs,()) P:=by kernel_rfl
theorem Aex (xs:List (List Int)) (P:Int->Prop):(P (↑xs.length:Int))=fnW Hf (look []) ki Try.f95 (xs,()) P:=by kernel_rfl
theorem Ae8 (xs:List (List Int)) (_:True):fnW Hf (look []) ki Try.f95 (xs,()) (λ(z:Int)=>z=(xs.length:Int)):=Eq.mp (Aex xs _) rfl
theorem HK:Sound Try.prog 95 ki:=
 Sound.Ib Ew Bw mixed Try.func95 (by kernel_rfl) (by kernel_rfl) λx h=>Ae8 x.1 h
theorem qA {n x:Int} (hn:nOK n):ka n x=true↔0<=x/\x<=n-1:=by
 unfold ka nOK at*
 rw [Dl (by omega) (by omega),Mc]
theorem Fo {x a b:Int} :Mj x a b=true↔a<=x/\x<=b:=Mc
theorem Hl {b:Bool} (h:(!b)=true): ¬b=true:=by cases b<;>simp_all
theorem Hu {b:Bool} (h:(!b)=false):b=true:=by cases b<;>simp_all
theorem MV {n:Int} {xs:List Int} (h:PL n xs xs.length): ∀j (hj:j<xs.length),(j:Int)<=xs[j]
 |0,hj=>(h 0 hj hj).1
 |j+1,hj=>by
  have h1:=MV h j (by omega)
  have h2:=(h (j+1) hj hj).2.2 (by omega)
  simp only [Nat.add_sub_cancel] at h2
  omega
theorem se {n:Int} {xs:List Int} {j:Nat} (hl:j<xs.length) (h:PL n xs j) (h1:0<=xs[j]) (h2:xs[j]<=n-1) (h3:0<j->xs[j-1]<xs[j]):PL n xs (j+1):=by
 intro i hi jV
 by_cases e:i=j
 ·subst e;exact ⟨h1,h2,h3⟩
 ·exact h i hi (by omega)
theorem GL (n:Int) (xs:List Int) (h:nOK n/\short xs):fnW Hf (look [(159,bn)]) Kj Try.f93 (n,xs,()) (λ(z:Bool)=>z=Pq n xs):=by
 obtain ⟨hn,h⟩:=h
 unfold short at h
 refine Eq.mp (IM n xs _) ?_
 refine Bs xs.length (λv=>v.1) (λj _=>PL n xs j) rfl (λj _ hj=>absurd hj (Ec _)) ?_
 rintro j ⟨i,⟨⟩⟩ K hj hi hR hK
 dsimp only at hi⊢
 subst hi
 refine Br.dec (λhl=>?_) λhl=>?_
 ·have hl:j<xs.length:=by omega
  refine ⟨_,Ck hl,_,Ac trivial,⟨λhp=>?_,λhp=>?_⟩⟩
  ·have hp:=Hl hp
   rw [qA hn] at hp
   exact Dw λhh=>hp ⟨(hh.2 j hl hl).1,(hh.2 j hl hl).2.1⟩
  ·have hp:=Hu hp
   rw [qA hn] at hp
   refine Br.dec (λh0=>?_) λh0=>?_
   ·have h0:0<j:=by omega
    rw [Dl (by omega) (by omega),show (j:Int)-1=((j-1:Nat):Int) by omega]
    refine ⟨_,Ck (by omega),Br.dec (λhg=>?_) λhg=>?_⟩
    ·exact Dw λhh=>by have:=(hh.2 j hl hl).2.2 h0;omega
    ·rw [Bk (by omega)]
     exact hK hl _ rfl (se hl hR hp.1 hp.2 λ_=>by omega)
   ·have h0:j=0:=by omega
    rw [Bk (by omega)]
    exact hK hl _ rfl (se hl hR hp.1 hp.2 λh=>by omega)
 ·have:j=xs.length:=by omega
  subst this
  by_cases h0:0<xs.length
  ·rw [Eo (show (xs.length:Int)>0 by omega)];exact Rr ⟨h0,hR⟩
  ·rw [Io (show ¬(xs.length:Int)>0 by omega)];exact Dw λhh=>h0 hh.1
theorem rI:Sound Try.prog 93 Kj:=
 Sound.Ib Ew (Bd wu Bw) mixed Try.func93 (by kernel_rfl) (by kernel_rfl) λx h=>GL x.1 x.2.1 h
theorem w9 (n:Int) (xs:List Int) (h:nOK n/\short xs):fnW Hf (look [(65,Df)]) Kj Try.f162 (n,xs,()) (λ(z:Bool)=>z=Pq n xs):=by
 obtain ⟨hn,h⟩:=h
 unfold short at h
 refine Eq.mp (wL n xs _) ⟨_,Ac trivial,⟨λhp=>?_,λhp=>?_⟩⟩
 ·have hp:=Hl hp
  rw [Fo] at hp
  dsimp only at hp
  refine Dw λhh=>hp ⟨by omega,?_⟩
  have:=MV hh.2 (xs.length-1) (by omega)
  have:=(hh.2 (xs.length-1) (by omega) (by omega)).2.1
  omega
 ·have hp:=Hu hp
  rw [Fo] at hp
  dsimp only at hp
  refine Bs xs.length (λv=>v.1) (λj _=>PL n xs j) rfl (λj _ hj=>absurd hj (Ec _)) ?_
  rintro j ⟨i,⟨⟩⟩ K hj hi hR hK
  dsimp only at hi⊢
  subst hi
  refine Br.dec (λhl=>?_) λhl=>?_
  ·have hl:j<xs.length:=by omega
   refine ⟨_,Ck hl,_,Ac trivial,⟨λhq=>?_,λhq=>?_⟩⟩
   ·have hq:=Hl hq
    unfold nOK at hn
    rw [Fo,Dl (by omega) (by omega)] at hq
    exact Dw λhh=>hq ⟨(hh.2 j hl hl).1,(hh.2 j hl hl).2.1⟩
   ·have hq:=Hu hq
    unfold nOK at hn
    rw [Fo,Dl (by omega) (by omega)] at hq
    refine Br.dec (λh0=>?_) λh0=>?_
    ·have h0:0<j:=by omega
     rw [Dl (by omega) (by omega),show (j:Int)-1=((j-1:Nat):Int) by omega]
     refine ⟨_,Ck hl,_,Ck (by omega),Br.dec (λhg=>?_) λhg=>?_⟩
     ·exact Dw λhh=>by have:=(hh.2 j hl hl).2.2 h0;omega
     ·rw [Bk (by omega)]
      exact hK hl _ rfl (se hl hR hq.1 hq.2 λ_=>by omega)
    ·rw [Bk (by omega)]
     exact hK hl _ rfl (se hl hR hq.1 hq.2 λh=>by omega)
  ·have:j=xs.length:=by omega
   subst this
   exact Rr ⟨by omega,hR⟩
theorem o7:Sound Try.prog 162 Kj:=
 Sound.Ib Ew (Bd Ue Bw) mixed Try.func162 (by kernel_rfl) (by kernel_rfl) λx h=>w9 x.1 x.2.1 h
theorem Acz {n:Int} {xs:List Int} {j:Nat} (hl:j<xs.length) (h:DL n xs j) (h1:0<=xs[j]) (h2:xs[j]<=n-1) (h3:xs[j]∉xs.take j):DL n xs (j+1):=by
 intro i hi jV
 by_cases e:i=j
 ·subst e;exact ⟨h1,h2,h3⟩
 ·exact h i hi (by omega)
theorem NL {xs:List Int} (h:short xs) (j:Nat):short (xs.take j):=by
 unfold short at*
 rw [Db]
 omega
theorem LU (t:TT):lf t t=true:=by simp [lf]
noncomputable abbrev Yt:Spec:=Ib (.pair mG (.pair mG (.pair (.clo 196 .unit) .unit))) .bool false true (λx=>Nc x.1) (λx=>iZ x.1 x.2.1)
theorem Aod (a b:List Int) (P:Bool->Prop):(∃(y3:Bool),Es.fn (a,b,())=some y3/\P y3)=fnW Hf (look [(82,Es)]) Es Try.f196 (a,b,()) P:=by kernel_rfl
theorem OM (a b:List (List Int)) (c:Unit) (P:Bool->Prop):(Br ((↑a.length:Int) !=(↑b.length:Int)) (P false) (Dh (λ(v4:Int×PUnit) (k5:Int×PUnit->Prop)=>Br (decide (v4.1<(↑a.length:Int))) (∃(y6:List Int),idx a v4.1=some y6/\ ∃(y7:List Int),idx b v4.1=some y7/\ ∃(y8:Bool),Es.fn (y6,y7,())=some y8/\Br (!y8) (P false) (k5 (IntKind.i64.wrap (v4.1+(1:Int)),()))) (P true)) ((0:Int),PUnit.unit)))=fnW Hf (look [(196,Es)]) Yt Try.f195 (a,b,c,()) P:=by kernel_rfl
theorem rQ (a b:List (List Int)) (P:Bool->Prop):(∃(y3:Bool),Yt.fn (a,b,(),())=some y3/\P y3)=fnW Hf (look [(195,Yt)]) pF Try.f158 (a,b,()) P:=by kernel_rfl
theorem rP (a b:List Int×List (List Int)×List Int×Unit) (P:Bool->Prop):(∃(y3:Bool),Es.fn (a.1,b.1,())=some y3/\Br y3 (∃(y4:Bool),pF.fn (a.2.1,b.2.1,())=some y4/\Br y4 (∃(y5:Bool),Es.fn (a.2.2.1,b.2.2.1,())=some y5/\P y5) (P false)) (P false))=fnW Hf (look [(82,Es),(158,pF)]) bl Try.f92 (a,b,()) P:=by kernel_rfl
theorem Ano (a b:List Int) (h:short a):fnW Hf (look [(82,Es)]) Es Try.f196 (a,b,()) (λ(z:Bool)=>z=Hr a b):=by
 refine Eq.mp (Aod a b _) ⟨_,Ac h,rfl⟩
theorem UZ:Sound Try.prog 196 Es:=
 Sound.Ib Ew (Bd cV Bw) mixed Try.func196 (by kernel_rfl) (by kernel_rfl) λx h=>Ano x.1 x.2.1 h
theorem ML (a b:List (List Int)) (c:Unit) (h:Nc a):fnW Hf (look [(196,Es)]) Yt Try.f195 (a,b,c,()) (λ(z:Bool)=>z=iZ a b):=by
 obtain ⟨h,h4⟩:=h
 refine Eq.mp (OM a b c _) ⟨λhl=>?_,λhl=>?_⟩
 ·simp only [bne_iff_ne,ne_eq,Lw] at hl
  exact (Io λvK=>hl (by rw [vK])).symm
 ·simp only [Xy,Lw] at hl
  refine Bs a.length (λv=>v.1) (λj _=>a.take j=b.take j) rfl (by simp) ?_
  rintro j ⟨i,⟨⟩⟩ K hj hi hR hK
  dsimp only at hi⊢
  subst hi
  refine Br.dec (λJr=>?_) λJr=>?_
  ·have s8:j<a.length:=by omega
   have CA:j<b.length:=by omega
   refine ⟨_,Ck s8,_,Ck CA,_,Ac (h4 _ (Al s8)),⟨λhe=>?_,λhe=>?_⟩⟩
   ·refine (Io λvK=>?_).symm
    subst vK
    simp [Hr] at he
   ·rw [Bk (by omega)]
    refine hK s8 _ rfl ?_
    simp only [Hr,Bool.not_eq_false',Rd] at he
    rw [Ch s8,Ch CA,hR]
    exact Gc (λx=>List.take j b++ [x]) he
  ·have KS:j=a.length:=by omega
   subst KS
   rw [Aw,hl,Aw] at hR
   exact (Eo hR).symm
theorem uH:Sound Try.prog 195 Yt:=
 Sound.Ib Ew (Bd UZ Bw) mixed Try.func195 (by kernel_rfl) (by kernel_rfl) λx h=>ML x.1 x.2.1 x.2.2.1 h
theorem rv (a b:List (List Int)) (h:Nc a):fnW Hf (look [(195,Yt)]) pF Try.f158 (a,b,()) (λ(z:Bool)=>z=iZ a b):=by
 refine Eq.mp (rQ a b _) ⟨_,Ac h,rfl⟩
theorem kJ:Sound Try.prog 158 pF:=
 Sound.Ib Ew (Bd uH Bw) mixed Try.func158 (by kernel_rfl) (by kernel_rfl) λx h=>rv x.1 x.2.1 h
theorem ru (a b:TT) (h:aw a):fnW Hf (look [(82,Es),(158,pF)]) bl Try.f92 (a,b,()) (λ(z:Bool)=>z=lf a b):=by
 refine Eq.mp (rP a b _) ⟨_,Ac h.1,⟨λh1=>⟨_,Ac h.2.1,⟨λh2=>⟨_,Ac h.2.2,?_⟩,λh2=>?_⟩⟩,λh1=>?_⟩⟩
 ·have h1:Hr a.1 b.1=true:=h1
  have h2:iZ a.2.1 b.2.1=true:=h2
  simp only [Hr,iZ] at h1 h2
  show Hr a.2.2.1 b.2.2.1=_
  unfold lf Hr
  rw [h1,h2];rfl
 ·have h1:Hr a.1 b.1=true:=h1
  have h2:iZ a.2.1 b.2.1=false:=h2
  simp only [Hr,iZ] at h1 h2
  unfold lf
  rw [h1,h2];rfl
 ·have h1:Hr a.1 b.1=false:=h1
  simp only [Hr] at h1
  unfold lf
  rw [h1];rfl
theorem kI:Sound Try.prog 92 bl:=
 Sound.Ib Ew (Bd cV (Bd kJ Bw)) mixed Try.func92 (by kernel_rfl) (by kernel_rfl) λx h=>ru x.1 x.2.1 h
abbrev PP:Type:=Int×ByteArray×List (List Int)×Unit
noncomputable def Nz (p:List Int):Bool:=dec (1<=p.length/\p.length<=20/\DL p.length p p.length)
noncomputable def Oo (n:Int) (p:List Int):Bool:=dec ((p.length:Int)=n/\Nz p=true)
noncomputable def Qo (n:Int) (g:List (List Int)):Bool:=dec ((1<=n/\n<=20)/\g.length<=8/\ ∀p∈g,Oo n p=true)
def Lp {α:Type} (P:α->Bool):List α->Int->Int
 | [],_=> -1
 |y::r,i=>if P y=true then i else Lp P r (i+1)
abbrev tG1:Ty:= .clo 206 (.pair (.ptr tI) .unit)
def yp (s:ByteArray) (i:Nat):Prop:= ∃c:UInt8,s[i]?=some c/\65<=c.toNat/\c.toNat<=90/\ ∀k,k<i->s[k]?≠some c
noncomputable def nL (s:ByteArray) (i:Int):Bool:=dec (yp s i.toNat)
noncomputable def bg (s:ByteArray):Bool:=dec ((1<=s.size/\s.size<=8)/\ ∀j,j<s.size->yp s j)
noncomputable def Cy (p:PP):Bool:=dec (Qo p.1 p.2.2.1=true/\bg p.2.1=true/\p.2.1.size=p.2.2.1.length)
def Hv (p:PP):Prop:=p.2.1.size<=4294967296/\Nc p.2.2.1
noncomputable abbrev Yv:Spec:=Ib (.pair tL .unit) tI false true (λ_=>True) (λx=>(List.length x.1:Int))
noncomputable abbrev Mv:Spec:=Ib (.pair tL .unit) .bool false true (λx=>short x.1) (λx=>Nz x.1)
noncomputable abbrev Mu:Spec:=Ib (.pair tI (.pair mG .unit)) .bool false true (λx=>Nc x.2.1) (λx=>Qo x.1 x.2.1)
noncomputable abbrev kh:Spec:=Ib (.pair tL (.pair (.ptr tI) .unit)) .bool false true (λx=>short x.1) (λx=>!Oo x.2.1 x.1)
noncomputable abbrev xZ:Spec:=Ib (.pair mG (.pair tG1 .unit)) tI false true (λx=>Nc x.1) (λx=>Lp (λp=>!Oo x.2.1.1 p) x.1 0)
noncomputable abbrev xX:Spec:=Ib (.pair mG (.pair tG1 .unit)) .bool false true (λx=>Nc x.1) (λx=>List.any x.1 (λp=>!Oo x.2.1.1 p))
noncomputable abbrev eB:Spec:=Ib (.pair .str (.pair tI .unit)) .bool false true (λx=>0<=x.2.1/\x.2.1<x.1.size/\x.1.size<=4294967296) (λx=>nL x.1 x.2.1)
noncomputable abbrev bm:Spec:=Ib (.pair .str .unit) .bool false true (λx=>x.1.size<=4294967296) (λx=>bg x.1)
noncomputable abbrev Jd:Spec:=Ib (.pair Ma .unit) .bool false true (λx=>Hv x.1) (λx=>Cy x.1)
theorem Aju (xs:List Int) (P:Int->Prop):(P (↑xs.length:Int))=fnW Hf (look []) Yv Try.f140 (xs,()) P:=by kernel_rfl
theorem BT (p:List Int) (P:Bool->Prop):(∃(y2:Bool),Df.fn ((↑p.length:Int),(1:Int),(20:Int),())=some y2/\Br (!y2) (P false) (Dh (λ(v3:Int×PUnit) (k4:Int×PUnit->Prop)=>Br (decide (v3.1<(↑p.length:Int))) (∃(y5:Int),idx p v3.1=some y5/\ ∃(y6:Bool),Df.fn (y5,(0:Int),IntKind.i64.wrap ((↑p.length:Int)-(1:Int)),())=some y6/\Br (!y6) (P false) (((0:Int)<=(0:Int)/\(0:Int)<=v3.1/\v3.1<=(↑p.length:Int))/\ ∃(y7:Int),idx p v3.1=some y7/\ ∃(y8:Bool),Qy.fn (List.drop (Int.toNat (0:Int)) (List.take v3.1.toNat p),y7,())=some y8/\Br y8 (P false) (k4 (IntKind.i64.wrap (v3.1+(1:Int)),())))) (P true)) ((0:Int),PUnit.unit)))=fnW Hf (look [(65,Df),(152,Qy)]) Mv Try.f169 (p,()) P:=by kernel_rfl
theorem BP (p:List Int) (P:Bool->Prop):(∃(y2:Int),Yv.fn (p,())=some y2/\ ∃(y3:Bool),Df.fn (y2,(1:Int),(20:Int),())=some y3/\Br (!y3) (P false) (Dh (λ(v4:Int×Int×PUnit) (k5:Int×Int×PUnit->Prop)=>Br (decide (v4.2.1<(↑p.length:Int))) (∃(y6:Int),idx p v4.2.1=some y6/\ ∃(y7:Int),Yv.fn (p,())=some y7/\ ∃(y8:Bool),Df.fn (y6,(0:Int),IntKind.i64.wrap (y7-(1:Int)),())=some y8/\Br (!y8) (P false) (¬y6<(0:Int)/\k5 (IntKind.i64.wrap (↑(BitVec.ofInt IntKind.i64.bits v4.1|||BitVec.ofInt IntKind.i64.bits (IntKind.i64.wrap ((1:Int)*(2:Int)^min y6.toNat IntKind.i64.bits))).toNat:Int),IntKind.i64.wrap (v4.2.1+(1:Int)),()))) (¬(↑p.length:Int)<(0:Int)/\P (v4.1==IntKind.i64.wrap (IntKind.i64.wrap ((1:Int)*(2:Int)^min (↑p.length:Int).toNat IntKind.i64.bits)-(1:Int))))) ((0:Int),(0:Int),PUnit.unit)))=fnW Hf (look [(94,Df),(140,Yv)]) Mv Try.f141 (p,()) P:=by kernel_rfl
theorem BS (n:Int) (g:List (List Int)) (P:Bool->Prop):(∃(y3:Bool),Df.fn (n,(1:Int),(20:Int),())=some y3/\Br (!y3) (P false) (Br (decide ((↑g.length:Int)>(8:Int))) (P false) (Dh (λ(v4:Int×PUnit) (k5:Int×PUnit->Prop)=>Br (decide (v4.1<(↑g.length:Int))) (∃(y6:List Int),idx g v4.1=some y6/\Br ((↑y6.length:Int) !=n) (P false) (∃(y7:List Int),idx g v4.1=some y7/\ ∃(y8:Bool),Mv.fn (y7,())=some y8/\Br (!y8) (P false) (k5 (IntKind.i64.wrap (v4.1+(1:Int)),())))) (P true)) ((0:Int),PUnit.unit))))=fnW Hf (look [(65,Df),(169,Mv)]) Mu Try.f115 (n,g,()) P:=by kernel_rfl
theorem Aew (p:List Int) (n:Int) (P:Bool->Prop):(∃(y3:Int),Yv.fn (p,())=some y3/\Br (y3 !=n) (P true) (∃(y4:Bool),Mv.fn (p,())=some y4/\P !y4))=fnW Hf (look [(140,Yv),(141,Mv)]) kh Try.f206 (p,n,()) P:=by kernel_rfl
theorem Aob (g:List (List Int)) (n:Int×Unit) (P:Int->Prop):(Dh (λ(v3:Int×PUnit) (k4:Int×PUnit->Prop)=>Br (decide (v3.1<(↑g.length:Int))) (∃(y5:List Int),idx g v3.1=some y5/\ ∃(y6:Bool),kh.fn (y5,n.1,())=some y6/\Br y6 (P v3.1) (k4 (IntKind.i64.wrap (v3.1+(1:Int)),()))) (P (-1:Int))) ((0:Int),PUnit.unit))=fnW Hf (look [(206,kh)]) xZ Try.f197 (g,n,()) P:=by kernel_rfl
theorem Ao9 (g:List (List Int)) (n:Int×Unit) (P:Bool->Prop):(∃(y3:Int),xZ.fn (g,n,())=some y3/\P (decide (y3>=(0:Int))))=fnW Hf (look [(197,xZ)]) xX Try.f205 (g,n,()) P:=by kernel_rfl
theorem BO (n:Int) (g:List (List Int)) (P:Bool->Prop):(∃(y3:Bool),Df.fn (n,(1:Int),(20:Int),())=some y3/\Br y3 (Br (decide ((↑g.length:Int)<=(8:Int))) (∃(y4:Bool),xX.fn (g,(n,()),())=some y4/\P !y4) (P false)) (P false))=fnW Hf (look [(94,Df),(205,xX)]) Mu Try.f173 (n,g,()) P:=by kernel_rfl
theorem Abw (s:ByteArray) (i:Int) (P:Bool->Prop):((0:Int)<=i/\ ∃(y3:UInt8),s[i.toNat]?=some y3/\Br (decide ((↑y3.toNat:Int)<(65:Int))) (P false) ((0:Int)<=i/\ ∃(y4:UInt8),s[i.toNat]?=some y4/\Br (decide ((↑y4.toNat:Int)>(90:Int))) (P false) (Dh (λ(v5:Int×PUnit) (k6:Int×PUnit->Prop)=>Br (decide (v5.1<i)) ((0:Int)<=v5.1/\ ∃(y7:UInt8),s[v5.1.toNat]?=some y7/\(0:Int)<=i/\ ∃(y8:UInt8),s[i.toNat]?=some y8/\Br ((↑y7.toNat:Int)==(↑y8.toNat:Int)) (P false) (k6 (IntKind.i64.wrap (v5.1+(1:Int)),()))) (P true)) ((0:Int),PUnit.unit))))=fnW Hf (look []) eB Try.f116 (s,i,()) P:=by kernel_rfl
theorem VS (s:ByteArray) (P:Bool->Prop):(Dh (λ(v2:Int×PUnit) (k3:Int×PUnit->Prop)=>Br (decide (v2.1<(↑s.size:Int))) ((0:Int)<=v2.1/\ ∃(y4:UInt8),s[v2.1.toNat]?=some y4/\ ∃(y5:Bool),Df.fn (IntKind.i64.wrap (↑y4.toNat:Int),(65:Int),(90:Int),())=some y5/\Br (!y5) (P false) (Dh (λ(v6:Int×PUnit) (k7:Int×PUnit->Prop)=>Br (decide (v6.1<v2.1)) ((0:Int)<=v6.1/\ ∃(y8:UInt8),s[v6.1.toNat]?=some y8/\(0:Int)<=v2.1/\ ∃(y9:UInt8),s[v2.1.toNat]?=some y9/\Br ((↑y8.toNat:Int)==(↑y9.toNat:Int)) (P false) (k7 (IntKind.i64.wrap (v6.1+(1:Int)),()))) (k3 (IntKind.i64.wrap (v2.1+(1:Int)),()))) ((0:Int),PUnit.unit))) (∃(y4:Bool),Df.fn ((↑s.size:Int),(1:Int),(8:Int),())=some y4/\P y4)) ((0:Int),PUnit.unit))=fnW Hf (look [(94,Df)]) bm Try.f174 (s,()) P:=by kernel_rfl
abbrev lv:Type:=Int×Int×ByteArray×List (List Int)×PUnit
theorem BU (p:Int×ByteArray×List (List Int)×Unit) (P:Bool->Prop):(Br ((↑p.2.2.1.length:Int)==(0:Int)) (P false) (Br ((↑p.2.1.size:Int) !=(↑p.2.2.1.length:Int)) (P false) (∃(y2:Bool),Mu.fn (p.1,p.2.2.1,())=some y2/\Br (!y2) (P false) (Dh (λ(v3:lv) (k4:lv->Prop)=>Br (decide (v3.1<(↑v3.2.2.1.size:Int))) (∃(y5:Bool),eB.fn (v3.2.2.1,v3.1,())=some y5/\Br (!y5) (P false) (k4 (IntKind.i64.wrap (v3.1+(1:Int)),v3.2.1,v3.2.2.1,v3.2.2.2.1,()))) (P true)) ((0:Int),p.1,p.2.1,p.2.2.1,PUnit.unit)))))=fnW Hf (look [(115,Mu),(116,eB)]) Jd Try.f47 (p,()) P:=by kernel_rfl
theorem BQ (p:Int×ByteArray×List (List Int)×Unit) (P:Bool->Prop):(∃(y2:Bool),Mu.fn (p.1,p.2.2.1,())=some y2/\Br y2 (∃(y3:Bool),bm.fn (p.2.1,())=some y3/\Br y3 (P ((↑p.2.1.size:Int)==(↑p.2.2.1.length:Int))) (P false)) (P false))=fnW Hf (look [(173,Mu),(174,bm)]) Jd Try.f119 (p,()) P:=by kernel_rfl
theorem Aj5 (xs:List Int) (_:True):fnW Hf (look []) Yv Try.f140 (xs,()) (λ(z:Int)=>z=(xs.length:Int)):=Eq.mp (Aju xs _) rfl
theorem mw:Sound Try.prog 140 Yv:=
 Sound.Ib Ew Bw mixed Try.func140 (by kernel_rfl) (by kernel_rfl) λx h=>Aj5 x.1 h
theorem AW {α:Type} [DecidableEq α]: ∀(l m:List α),l.Nodup->(∀x∈l,x∈m)->l.length<=m.length
 | [],m,_,_=>Ja _
 |a::l,m,hn,hs=>by
  have ha:a∈m:=hs a (Kn ..)
  have hn:=Bx.1 hn
  have:=AW l (m.erase a) hn.2 λx hx=>(List.mem_erase_of_ne (λ(e:x=a)=>hn.1 (by rw [<-e];exact hx))).2 (hs x (Aq _ hx))
  rw [Xj ha] at this
  have:0<m.length:=List.length_pos_of_mem ha
  simp only [Av]
  omega
def upto (n:Nat):List Int:=(List.range n).map Int.ofNat
theorem mB (n:Nat):(upto n).Nodup:=by
 unfold upto
 exact List.Pairwise.map _ (λa b vK e=>vK (Int.ofNat.inj e)) List.nodup_range
theorem Ms {n:Nat} {x:Int} :x∈upto n↔0<=x/\x<n:=by
 unfold upto
 simp only [Ay,Dn]
 constructor
 ·rintro ⟨a,ha,rfl⟩;exact ⟨Int.natCast_nonneg _,Int.ofNat_lt.2 ha⟩
 ·rintro ⟨h1,h2⟩;exact ⟨x.toNat,by omega,by simp only [Int.ofNat_eq_natCast];omega⟩
theorem Kb (n:Nat):(upto n).length=n:=by simp [upto]
theorem j4 {xs:List Int} (h: ∀j (hj:j<xs.length),xs[j]∉xs.take j):xs.Nodup:=by
 refine Dp.2 λi j hi hj jV e=>h j hj ?_
 rw [<-e]
 exact List.mem_take_iff_getElem.2 ⟨i,by omega,rfl⟩
theorem uY {xs:List Int} (h:xs.Nodup): ∀j (hj:j<xs.length),xs[j]∉xs.take j:=by
 intro j hj hm
 obtain ⟨i,hi,e⟩:=List.mem_take_iff_getElem.1 hm
 exact Dp.1 h i j (by omega) hj (by omega) e
theorem df {xs:List Int} (h: ∀x∈xs,0<=x/\x<xs.length):(∀k:Nat,k<xs.length->(k:Int)∈xs)↔ ∀j (hj:j<xs.length),xs[j]∉xs.take j:=by
 constructor
 ·intro ha j hj hm
  have h1:=AW (upto xs.length) (xs.take j++xs.drop (j+1)) (mB _) λx hx=>by
   obtain ⟨h1,h2⟩:=Ms.1 hx
   have hx:=ha x.toNat (by omega)
   rw [show ((x.toNat:Nat):Int)=x by omega] at hx
   rw [<-Ik j xs,Ax,Ez hj,Bc] at hx
   rcases hx with hx|rfl|hx
   ·exact Bi _ hx
   ·exact Bi _ hm
   ·exact Ci _ hx
  rw [Kb,Au,Db,List.length_drop] at h1
  omega
 ·intro hn k hk
  refine Bj λhc=>?_
  have h1:=AW xs ((upto xs.length).erase (k:Int)) (j4 hn) λx hx=>by
   refine (List.mem_erase_of_ne λ(e:x=(k:Int))=>hc (by rw [<-e];exact hx)).2 (Ms.2 (h x hx))
  rw [Xj (Ms.2 ⟨by omega,by omega⟩),Kb] at h1
  omega
def mask (xs:List Int):Nat:=xs.foldl (λm x=>m|||2^x.toNat) 0
theorem TJ (xs:List Int) (x:Int):mask (xs++ [x])=mask xs|||2^x.toNat:=by simp [mask]
theorem zx (xs:List Int) (k:Nat): ∀a:Nat,(xs.foldl (λm x=>m|||2^x.toNat) a).testBit k=(a.testBit k||xs.any λx=>decide (x.toNat=k)):=by
 induction xs with
 |nil=>simp
 |cons x xs ih=>
  intro a
  rw [Jj,ih,Nat.testBit_or,Nat.testBit_two_pow,List.any_cons,Bool.or_assoc]
theorem tR (xs:List Int) (k:Nat):(mask xs).testBit k=xs.any λx=>decide (x.toNat=k):=by
 unfold mask
 rw [zx,Nat.zero_testBit,Xi]
theorem Adz {xs:List Int} {n:Nat} (h: ∀x∈xs,x.toNat<n):mask xs<2^n:=by
 refine Nat.lt_pow_two_of_testBit _ λk hk=>?_
 rw [tR]
 refine Vv.2 λht=>?_
 obtain ⟨x,hx,he⟩:=Ir.1 ht
 have:=h x hx
 have:=Lg he
 omega
theorem xB {xs:List Int} (h: ∀x∈xs,0<=x/\x<xs.length):mask xs=2^xs.length-1↔ ∀k:Nat,k<xs.length->(k:Int)∈xs:=by
 constructor
 ·intro e k hk
  have h1:=tR xs k
  rw [e,Nat.testBit_two_pow_sub_one,Eo hk] at h1
  obtain ⟨x,hx,he⟩:=Ir.1 h1.symm
  have:=(h x hx).1
  have:=Lg he
  have e:x=(k:Int):=by omega
  exact e▸hx
 ·intro ha
  refine Nat.eq_of_testBit_eq λk=>?_
  rw [tR,Nat.testBit_two_pow_sub_one]
  by_cases hk:k<xs.length
  ·rw [Eo hk]
   exact Ir.2 ⟨k,ha k hk,by simp⟩
  ·rw [Io hk]
   refine Vv.2 λht=>?_
   obtain ⟨x,hx,he⟩:=Ir.1 ht
   have:=h x hx
   have:=Lg he
   omega
theorem Ae4 {m:Nat} {x:Int} (hm:m<2^20) (h0:0<=x) (h1:x<20):
  IntKind.i64.wrap (((BitVec.ofInt IntKind.i64.bits (m:Int)|||BitVec.ofInt IntKind.i64.bits (IntKind.i64.wrap ((1:Int)*(2:Int)^min x.toNat IntKind.i64.bits))).toNat:Nat):Int)=((m|||2^x.toNat:Nat):Int):=by
 have hx:(2:Nat)^x.toNat<2^20:=Nat.pow_lt_pow_right (by omega) (by omega)
 have e1:min x.toNat IntKind.i64.bits=x.toNat:=by show min x.toNat 64=_;omega
 have e2:(1:Int)*(2:Int)^x.toNat=((2^x.toNat:Nat):Int):=by rw [Int.one_mul];exact (Int.natCast_pow 2 _).symm
 rw [e1,e2,Dl (n:=((2^x.toNat:Nat):Int)) (by have:(0:Int)<=((2^x.toNat:Nat):Int):=Int.natCast_nonneg _;omega) (by omega)]
 show IntKind.i64.wrap (((BitVec.ofInt 64 (m:Int)|||BitVec.ofInt 64 ((2^x.toNat:Nat):Int)).toNat:Nat):Int)=_
 rw [BitVec.ofInt_natCast,BitVec.ofInt_natCast,BitVec.toNat_or,BitVec.toNat_ofNat,BitVec.toNat_ofNat,Nat.mod_eq_of_lt (by omega),Nat.mod_eq_of_lt (by omega)]
 have:=Nat.or_lt_two_pow hm hx
 exact Dl (by omega) (by omega)
theorem zG (p:List Int) (h:short p):fnW Hf (look [(65,Df),(152,Qy)]) Mv Try.f169 (p,()) (λ(z:Bool)=>z=Nz p):=by
 have hs:=h
 unfold short at h
 refine Eq.mp (BT p _) ⟨_,Ac trivial,⟨λhp=>?_,λhp=>?_⟩⟩
 ·have hp:=Hl hp
  rw [Fo] at hp
  dsimp only at hp
  exact Dw λhh=>hp ⟨by omega,by omega⟩
 ·have hp:=Hu hp
  rw [Fo] at hp
  dsimp only at hp
  refine Bs p.length (λv=>v.1) (λj _=>DL p.length p j) rfl (λj _ hj=>absurd hj (Ec _)) ?_
  rintro j ⟨i,⟨⟩⟩ K hj hi hR hK
  dsimp only at hi⊢
  subst hi
  refine Br.dec (λhl=>?_) λhl=>?_
  ·have hl:j<p.length:=by omega
   refine ⟨_,Ck hl,_,Ac trivial,⟨λhq=>?_,λhq=>?_⟩⟩
   ·have hq:=Hl hq
    rw [Fo,Dl (by omega) (by omega)] at hq
    exact Dw λhh=>hq ⟨(hh.2.2 j hl hl).1,(hh.2.2 j hl hl).2.1⟩
   ·have hq:=Hu hq
    rw [Fo,Dl (by omega) (by omega)] at hq
    refine ⟨⟨by omega,by omega,by omega⟩,_,Ck hl,?_⟩
    rw [show (Int.toNat 0)=0 from rfl,Dj,Aj]
    refine ⟨_,Ac (NL hs j),⟨λhc=>?_,λhc=>?_⟩⟩
    ·have hc:decide (p[j]∈p.take j)=true:=hc
     rw [Mc] at hc
     exact Dw λhh=>(hh.2.2 j hl hl).2.2 hc
    ·have hc:decide (p[j]∈p.take j)=false:=hc
     rw [decide_eq_false_iff_not] at hc
     rw [Bk (by omega)]
     exact hK hl _ rfl (Acz hl hR hq.1 hq.2 hc)
  ·have:j=p.length:=by omega
   subst this
   exact Rr ⟨by omega,by omega,hR⟩
theorem eG:Sound Try.prog 169 Mv:=
 Sound.Ib Ew (Bd Ue (Bd o5 Bw)) mixed Try.func169 (by kernel_rfl) (by kernel_rfl) λx h=>zG x.1 h
theorem zC (p:List Int) (h:short p):fnW Hf (look [(94,Df),(140,Yv)]) Mv Try.f141 (p,()) (λ(z:Bool)=>z=Nz p):=by
 unfold short at h
 refine Eq.mp (BP p _) ⟨_,Ac trivial,_,Ac trivial,⟨λhp=>?_,λhp=>?_⟩⟩
 ·have hp:=Hl hp
  rw [Fo] at hp
  dsimp only at hp
  exact Dw λhh=>hp ⟨by omega,by omega⟩
 ·have hp:=Hu hp
  rw [Fo] at hp
  dsimp only at hp
  refine Bs p.length (λv=>v.2.1) (λj v=>v.1=(mask (p.take j):Int)/\ ∀x∈p.take j,0<=x/\x<p.length) rfl ⟨rfl,by simp⟩ ?_
  rintro j ⟨m,i,⟨⟩⟩ K hj hi ⟨hm,hR⟩ hK
  dsimp only at hi hm⊢
  subst hi hm
  refine Br.dec (λhl=>?_) λhl=>?_
  ·have hl:j<p.length:=by omega
   refine ⟨_,Ck hl,_,Ac trivial,_,Ac trivial,⟨λhq=>?_,λhq=>?_⟩⟩
   ·have hq:=Hl hq
    rw [Fo] at hq
    dsimp only at hq
    rw [Dl (by omega) (by omega)] at hq
    exact Dw λhh=>hq ⟨(hh.2.2 j hl hl).1,(hh.2.2 j hl hl).2.1⟩
   ·have hq:=Hu hq
    rw [Fo] at hq
    dsimp only at hq
    rw [Dl (by omega) (by omega)] at hq
    refine ⟨by omega,?_⟩
    rw [Bk (by omega)]
    have hb:mask (p.take j)<2^20:=Adz λx hx=>by have:=hR x hx;omega
    refine hK hl _ rfl ⟨?_,?_⟩
    ·dsimp only
     rw [Ae4 hb hq.1 (by omega),Ch hl,TJ]
    ·rw [Ch hl]
     intro x hx
     rcases Ax.1 hx with hx|hx
     ·exact hR x hx
     ·rw [Ad.1 hx];omega
  ·have:j=p.length:=by omega
   subst this
   rw [Aw] at hR⊢
   refine ⟨by omega,?_⟩
   have hx:(2:Nat)^p.length<=2^20:=Nat.pow_le_pow_right (by omega) (by omega)
   have tz:0<(2:Nat)^p.length:=Nat.two_pow_pos _
   have e1:min (p.length:Int).toNat IntKind.i64.bits=p.length:=by show min (p.length:Int).toNat 64=_;omega
   have e2:(1:Int)*(2:Int)^p.length=((2^p.length:Nat):Int):=by rw [Int.one_mul];exact (Int.natCast_pow 2 _).symm
   rw [e1,e2,Dl (n:=((2^p.length:Nat):Int)) (by omega) (by omega),Dl (by omega) (by omega)]
   have hE:((mask p:Int)==((2^p.length:Nat):Int)-1)=decide (mask p=2^p.length-1):=by
    rw [Bool.eq_iff_iff,beq_iff_eq,Mc]
    omega
   show ((mask p:Int)==((2^p.length:Nat):Int)-1)=Nz p
   rw [hE]
   by_cases hf:mask p=2^p.length-1
   ·rw [Eo hf]
    have hn:=(df hR).1 ((xB hR).1 hf)
    refine Rr ⟨by omega,by omega,λj hj _=>?_⟩
    have:=hR _ (Al hj)
    exact ⟨this.1,by omega,hn j hj⟩
   ·rw [Io hf]
    refine Dw λhh=>hf ((xB hR).2 ((df hR).2 λj hj=>(hh.2.2 j hj hj).2.2))
theorem pP:Sound Try.prog 141 Mv:=
 Sound.Ib Ew (Bd Xd (Bd mw Bw)) mixed Try.func141 (by kernel_rfl) (by kernel_rfl) λx h=>zC x.1 h
theorem zF (n:Int) (g:List (List Int)) (h:Nc g):fnW Hf (look [(65,Df),(169,Mv)]) Mu Try.f115 (n,g,()) (λ(z:Bool)=>z=Qo n g):=by
 obtain ⟨h,h4⟩:=h
 refine Eq.mp (BS n g _) ⟨_,Ac trivial,⟨λhp=>?_,λhp=>?_⟩⟩
 ·have hp:=Hl hp
  rw [Fo] at hp
  exact Dw λhh=>hp hh.1
 ·have hp:=Hu hp
  rw [Fo] at hp
  refine Br.dec (λhg=>?_) λhg=>?_
  ·exact Dw λhh=>by have:=hh.2.1;omega
  ·refine Bs g.length (λv=>v.1) (λj _=> ∀p∈g.take j,Oo n p=true) rfl (by simp) ?_
   rintro j ⟨i,⟨⟩⟩ K hj hi hR hK
   dsimp only at hi⊢
   subst hi
   refine Br.dec (λhl=>?_) λhl=>?_
   ·have hl:j<g.length:=by omega
    have hm:g[j]∈g:=Al hl
    refine ⟨_,Ck hl,⟨λhe=>?_,λhe=>?_⟩⟩
    ·simp only [bne_iff_ne,ne_eq] at he
     exact Dw λhh=>he (Hy.1 (hh.2.2 _ hm)).1
    ·simp only [Xy] at he
     refine ⟨_,Ck hl,_,Ac (h4 _ hm),⟨λhq=>?_,λhq=>?_⟩⟩
     ·have hq:=Hl hq
      exact Dw λhh=>hq (Hy.1 (hh.2.2 _ hm)).2
     ·have hq:=Hu hq
      rw [Bk (by omega)]
      refine hK hl _ rfl ?_
      rw [Ch hl]
      intro x hx
      rcases Ax.1 hx with hx|hx
      ·exact hR x hx
      ·rw [Ad.1 hx];exact Hy.2 ⟨he,hq⟩
   ·have:j=g.length:=by omega
    subst this
    rw [Aw] at hR
    exact Rr ⟨hp,by omega,hR⟩
theorem eF:Sound Try.prog 115 Mu:=
 Sound.Ib Ew (Bd Ue (Bd eG Bw)) mixed Try.func115 (by kernel_rfl) (by kernel_rfl) λx h=>zF x.1 x.2.1 h
theorem Ae7 (p:List Int) (n:Int) (h:short p):fnW Hf (look [(140,Yv),(141,Mv)]) kh Try.f206 (p,n,()) (λ(z:Bool)=>z=!Oo n p):=by
 refine Eq.mp (Aew p n _) ⟨_,Ac trivial,⟨λhe=>?_,λhe=>⟨_,Ac h,?_⟩⟩⟩
 ·simp only [bne_iff_ne,ne_eq] at he
  have:Oo n p=false:=Acy.2 λhh=>he hh.1
  rw [this];rfl
 ·simp only [Xy] at he
  show (!Nz p)=_
  congr 1
  cases hp:Nz p with
  |true=>exact Rr ⟨he,hp⟩
  |false=>exact Dw λhh=>by rw [hh.2] at hp;cases hp
theorem HJ:Sound Try.prog 206 kh:=
 Sound.Ib Ew (Bd mw (Bd pP Bw)) mixed Try.func206 (by kernel_rfl) (by kernel_rfl) λx h=>Ae7 x.1 x.2.1 h
theorem qz {α:Type} (P:α->Bool): ∀(l:List α) (i:Int),0<=i->(0<=Lp P l i↔l.any P=true)
 | [],i,_=>by simp [Lp]
 |y::r,i,h=>by
  simp only [Lp,List.any_cons,Lu]
  split
  ·rename_i hy;simp [hy,h]
  ·rename_i hy;rw [qz P r (i+1) (by omega)];simp [hy]
theorem Anm (g:List (List Int)) (n:Int×Unit) (h:Nc g):fnW Hf (look [(206,kh)]) xZ Try.f197 (g,n,()) (λ(z:Int)=>z=Lp (λp=>!Oo n.1 p) g 0):=by
 obtain ⟨h,h4⟩:=h
 refine Eq.mp (Aob g n _) ?_
 refine Bs g.length (λv=>v.1) (λj _=>Lp (λp=>!Oo n.1 p) (g.drop j) j=Lp (λp=>!Oo n.1 p) g 0) rfl (by simp) ?_
 rintro j ⟨i,⟨⟩⟩ K hj hi hR hK
 dsimp only at hi⊢
 subst hi
 refine Br.dec (λhl=>?_) λhl=>?_
 ·have hl:j<g.length:=by omega
  rw [Ez hl] at hR
  simp only [Lp] at hR
  refine ⟨_,Ck hl,_,Ac (h4 _ (Al hl)),⟨λhe=>?_,λhe=>?_⟩⟩
  ·have he:(!Oo n.1 g[j])=true:=he
   rw [Ac he] at hR
   exact hR
  ·have he:(!Oo n.1 g[j])=false:=he
   rw [Ak (by rw [he];decide)] at hR
   rw [Bk (by omega)]
   exact hK hl _ rfl (by push_cast;exact hR)
 ·have:j=g.length:=by omega
  subst this
  rw [Pj] at hR
  exact hR
theorem UX:Sound Try.prog 197 xZ:=
 Sound.Ib Ew (Bd HJ Bw) mixed Try.func197 (by kernel_rfl) (by kernel_rfl) λx h=>Anm x.1 x.2.1 h
theorem Ank (g:List (List Int)) (n:Int×Unit) (h:Nc g):fnW Hf (look [(197,xZ)]) xX Try.f205 (g,n,()) (λ(z:Bool)=>z=List.any g (λp=>!Oo n.1 p)):=by
 refine Eq.mp (Ao9 g n _) ⟨_,Ac h,?_⟩
 rw [Bool.eq_iff_iff,Mc]
 exact qz _ g 0 (Qj 0)
theorem UU:Sound Try.prog 205 xX:=
 Sound.Ib Ew (Bd UX Bw) mixed Try.func205 (by kernel_rfl) (by kernel_rfl) λx h=>Ank x.1 x.2.1 h
theorem zB (n:Int) (g:List (List Int)) (h:Nc g):fnW Hf (look [(94,Df),(205,xX)]) Mu Try.f173 (n,g,()) (λ(z:Bool)=>z=Qo n g):=by
 refine Eq.mp (BO n g _) ⟨_,Ac trivial,⟨λhp=>?_,λhp=>?_⟩⟩
 ·have hp:Mj n 1 20=true:=hp
  rw [Fo] at hp
  refine Br.dec (λhl=>⟨_,Ac h,?_⟩) λhl=>?_
  ·show (!List.any g (λp=>!Oo n p))=Qo n g
   cases ha:List.any g (λp=>!Oo n p) with
   |true=>
    obtain ⟨p,xk,QH⟩:=Ir.1 ha
    exact Dw λhh=>by rw [hh.2.2 p xk] at QH;cases QH
   |false=>
    refine Rr ⟨hp,by omega,λp hm=>?_⟩
    have:=List.any_eq_false.1 ha p hm
    simpa using this
  ·exact Dw λhh=>by have:=hh.2.1;omega
 ·refine Dw λhh=>?_
  have:Mj n 1 20=true:=Fo.2 hh.1
  have hp:Mj n 1 20=false:=hp
  rw [this] at hp;cases hp
theorem pO:Sound Try.prog 173 Mu:=
 Sound.Ib Ew (Bd Xd (Bd UU Bw)) mixed Try.func173 (by kernel_rfl) (by kernel_rfl) λx h=>zB x.1 x.2.1 h
theorem My {s:ByteArray} {k:Nat} (h:k<s.size):s[k]?=some s[k]:=getElem?_pos s k h
theorem Aac (s:ByteArray) (i:Int) (h:0<=i/\i<s.size/\s.size<=4294967296):fnW Hf (look []) eB Try.f116 (s,i,()) (λ(z:Bool)=>z=nL s i):=by
 obtain ⟨h1,h2,h3⟩:=h
 have hi:i.toNat<s.size:=by omega
 refine Eq.mp (Abw s i _) ⟨h1,_,My hi,Br.dec (λhq=>?_) λhq=>⟨h1,_,My hi,Br.dec (λhr=>?_) λhr=>?_⟩⟩
 ·refine Dw λ⟨c,hc,hc1,_⟩=>?_
  rw [My hi] at hc;cases hc;omega
 ·refine Dw λ⟨c,hc,_,hc1,_⟩=>?_
  rw [My hi] at hc;cases hc;omega
 ·refine Bs i.toNat (λv=>v.1) (λj _=> ∀k,k<j->s[k]?≠some s[i.toNat]) rfl (λk hk=>absurd hk (Ec _)) ?_
  rintro j ⟨i',⟨⟩⟩ K hj l5 hR hK
  dsimp only at l5⊢
  subst l5
  refine Br.dec (λhl=>?_) λhl=>?_
  ·have hl:j<i.toNat:=by omega
   have hj:j<s.size:=by omega
   rw [Aj]
   refine ⟨by omega,_,My hj,h1,_,My hi,⟨λhe=>?_,λhe=>?_⟩⟩
   ·simp only [beq_iff_eq,Lw] at he
    refine Dw λ⟨c,hc,_,_,hc1⟩=>?_
    rw [My hi] at hc;cases hc
    exact hc1 j hl (by rw [My hj,UInt8.toNat_inj.1 he])
   ·simp only [beq_eq_false_iff_ne,ne_eq,Lw] at he
    rw [Bk (by omega)]
    refine hK hl _ rfl λk hk=>?_
    by_cases e:k=j
    ·subst e
     rw [My hj]
     exact λe=>he (by rw [Bb e])
    ·exact hR k (by omega)
  ·have:j=i.toNat:=by omega
   subst this
   exact Rr ⟨_,My hi,by omega,by omega,hR⟩
theorem AK:Sound Try.prog 116 eB:=
 Sound.Ib Ew Bw mixed Try.func116 (by kernel_rfl) (by kernel_rfl) λx h=>Aac x.1 x.2.1 h
theorem TU (s:ByteArray) (h:s.size<=4294967296):fnW Hf (look [(94,Df)]) bm Try.f174 (s,()) (λ(z:Bool)=>z=bg s):=by
 refine Eq.mp (VS s _) ?_
 refine Bs s.size (λv=>v.1) (λj _=> ∀k,k<j->yp s k) rfl (λk hk=>absurd hk (Ec _)) ?_
 rintro j ⟨i,⟨⟩⟩ K hj hi hR hK
 dsimp only at hi⊢
 subst hi
 refine Br.dec (λhl=>?_) λhl=>?_
 ·have hl:j<s.size:=by omega
  rw [Aj]
  have hb:=(s[j]).toNat_lt
  refine ⟨by omega,_,My hl,_,Ac trivial,⟨λhq=>?_,λhq=>?_⟩⟩
  ·have hq:=Hl hq
   rw [Fo] at hq
   dsimp only at hq
   rw [Dl (by omega) (by omega)] at hq
   refine Dw λhh=>?_
   obtain ⟨c,hc,hc1,hc2,_⟩:=hh.2 j hl
   rw [My hl] at hc;cases hc
   exact hq ⟨by omega,by omega⟩
  ·have hq:=Hu hq
   rw [Fo] at hq
   dsimp only at hq
   rw [Dl (by omega) (by omega)] at hq
   refine Bs j (λv=>v.1) (λm _=> ∀k,k<m->s[k]?≠some s[j]) rfl (λk hk=>absurd hk (Ec _)) ?_
   rintro m ⟨i',⟨⟩⟩ K' hm l5 hR' hK'
   dsimp only at l5⊢
   subst l5
   refine Br.dec (λKe=>?_) λKe=>?_
   ·have Ke:m<j:=by omega
    have EH:m<s.size:=by omega
    rw [Aj]
    refine ⟨by omega,_,My EH,by omega,_,My hl,⟨λhe=>?_,λhe=>?_⟩⟩
    ·simp only [beq_iff_eq,Lw] at he
     refine Dw λhh=>?_
     obtain ⟨c,hc,_,_,hc1⟩:=hh.2 j hl
     rw [My hl] at hc;cases hc
     exact hc1 m Ke (by rw [My EH,UInt8.toNat_inj.1 he])
    ·simp only [beq_eq_false_iff_ne,ne_eq,Lw] at he
     rw [Bk (by omega)]
     refine hK' Ke _ rfl λk hk=>?_
     by_cases e:k=m
     ·subst e
      rw [My EH]
      exact λe=>he (by rw [Bb e])
     ·exact hR' k (by omega)
   ·have:m=j:=by omega
    subst this
    rw [Bk (by omega)]
    refine hK hl _ rfl λk hk=>?_
    by_cases e:k=m
    ·subst e
     exact ⟨_,My hl,by omega,by omega,hR'⟩
    ·exact hR k (by omega)
 ·have:j=s.size:=by omega
  subst this
  refine ⟨_,Ac trivial,?_⟩
  show Mj s.size 1 8=_
  cases hr:Mj s.size 1 8 with
  |true=>rw [Fo] at hr;exact Rr ⟨by omega,hR⟩
  |false=>refine Dw λhh=>?_;rw [Fo.2 ⟨by omega,by omega⟩] at hr;cases hr
theorem wq:Sound Try.prog 174 bm:=
 Sound.Ib Ew (Bd Xd Bw) mixed Try.func174 (by kernel_rfl) (by kernel_rfl) λx h=>TU x.1 h
theorem OG {p:PP} (h:Cy p=true):1<=p.1/\p.1<=20/\1<=p.2.2.1.length/\p.2.2.1.length<=8:=by
 obtain ⟨h1,h2,h3⟩:=Hy.1 h
 obtain ⟨h4,h5,_⟩:=Hy.1 h1
 obtain ⟨h6,_⟩:=Hy.1 h2
 omega
theorem zH (p:PP) (h:Hv p):fnW Hf (look [(115,Mu),(116,eB)]) Jd Try.f47 (p,()) (λ(z:Bool)=>z=Cy p):=by
 obtain ⟨hn,hg⟩:=h
 refine Eq.mp (BU p _) ⟨λh0=>?_,λh0=>⟨λh1=>?_,λh1=>⟨_,Ac hg,⟨λh2=>?_,λh2=>?_⟩⟩⟩⟩
 ·simp only [beq_iff_eq] at h0
  exact Dw λhh=>by obtain ⟨_,h2,h3⟩:=hh;have:=(Hy.1 h2).1;omega
 ·simp only [bne_iff_ne,ne_eq,Lw] at h1
  exact Dw λhh=>h1 hh.2.2
 ·have h2:=Hl h2
  exact Dw λhh=>h2 hh.1
 ·simp only [beq_eq_false_iff_ne,ne_eq] at h0
  simp only [Xy,Lw] at h1
  have h2:Qo p.1 p.2.2.1=true:=Hu h2
  refine Bs p.2.1.size (λv=>v.1) (λj v=>v.2=(p.1,p.2.1,p.2.2.1,())/\ ∀k,k<j->yp p.2.1 k) rfl ⟨rfl,λk hk=>absurd hk (Ec _)⟩ ?_
  rintro j ⟨i,v⟩ K hj hi ⟨hv,hR⟩ hK
  dsimp only at hi hv⊢
  subst hi hv
  dsimp only
  refine Br.dec (λhl=>?_) λhl=>?_
  ·have hl:j<p.2.1.size:=by omega
   refine ⟨_,Ac ⟨Int.natCast_nonneg j,Int.ofNat_lt.2 hl,hn⟩,⟨λhq=>?_,λhq=>?_⟩⟩
   ·have hq: ¬nL p.2.1 j=true:=Hl hq
    refine Dw λhh=>hq (Hy.2 ?_)
    rw [Aj]
    exact (Hy.1 hh.2.1).2 j hl
   ·have hq:nL p.2.1 j=true:=Hu hq
    have hq:=Hy.1 hq
    rw [Aj] at hq
    rw [Bk (by omega)]
    refine hK hl _ rfl ⟨rfl,λk hk=>?_⟩
    by_cases e:k=j
    ·subst e;exact hq
    ·exact hR k (by omega)
  ·have:j=p.2.1.size:=by omega
   subst this
   have:=(Hy.1 h2).2.1
   exact Rr ⟨h2,Hy.2 ⟨⟨by omega,by omega⟩,hR⟩,h1⟩
theorem eH:Sound Try.prog 47 Jd:=
 Sound.Ib Ew (Bd eF (Bd AK Bw)) mixed Try.func47 (by kernel_rfl) (by kernel_rfl) λx h=>zH x.1 h
theorem zD (p:PP) (h:Hv p):fnW Hf (look [(173,Mu),(174,bm)]) Jd Try.f119 (p,()) (λ(z:Bool)=>z=Cy p):=by
 obtain ⟨hn,hg⟩:=h
 refine Eq.mp (BQ p _) ⟨_,Ac hg,⟨λh1=>⟨_,Ac hn,⟨λh2=>?_,λh2=>?_⟩⟩,λh1=>?_⟩⟩
 ·have h1:Qo p.1 p.2.2.1=true:=h1
  have h2:bg p.2.1=true:=h2
  by_cases e:p.2.1.size=p.2.2.1.length
  ·rw [e,beq_self_eq_true];exact Rr ⟨h1,h2,e⟩
  ·rw [show ((p.2.1.size:Int)==(p.2.2.1.length:Int))=false from beq_eq_false_iff_ne.2 (by omega)];exact Dw λhh=>e hh.2.2
 ·have h2:bg p.2.1=false:=h2
  exact Dw λhh=>by rw [hh.2.1] at h2;cases h2
 ·have h1:Qo p.1 p.2.2.1=false:=h1
  exact Dw λhh=>by rw [hh.1] at h1;cases h1
theorem Zb:Sound Try.prog 119 Jd:=
 Sound.Ib Ew (Bd pO (Bd wq Bw)) mixed Try.func119 (by kernel_rfl) (by kernel_rfl) λx h=>zD x.1 h
def Gw (xs:List Int) (i:Int):Int:=xs.getD i.toNat 0
def Ai (p q:List Int):List Int:=p.map (Gw q)
def cB (f:Nat->Nat) (g:Nat->Int) (m:Nat) (init:List Int):List Int:=(List.range m).foldl (λ(out:List Int) (i:Nat)=>out.set (f i) (g i)) init
def Bg (p:List Int):List Int:=cB (λi=>(Gw p (i:Int)).toNat) (λi=>(i:Int)) p.length (List.replicate p.length 0)
def Ny (n:Nat) (p:List Int):Prop:= ∀y∈p,0<=y/\y<n
noncomputable abbrev Sw:Spec:=Ib (.pair tL (.pair tL .unit)) tL false true (λx=>List.length x.1<=20/\Ny (List.length x.2.1) x.1) (λx=>Ai x.1 x.2.1)
noncomputable abbrev Gk:Spec:=Ib (.pair tL .unit) tL false true (λx=>List.length x.1<=20/\Ny (List.length x.1) x.1) (λx=>Bg x.1)
noncomputable abbrev Yu:Spec:=Ib (.pair tI .unit) tL false true (λx=>0<=x.1/\x.1<=20) (λx=>upto x.1.toNat)
noncomputable abbrev Ra:Spec:=Ib (.pair tL .unit) tL false true (λx=>Nz x.1=true) (λx=>Bg x.1)
def Az (g:List (List Int)) (l:Int):List Int:=if l>0 then g.getD (l-1).toNat [] else Bg (g.getD (-l-1).toNat [])
def La (n:Int) (l:Int):Prop:=l≠0/\ -n<=l/\l<=n
noncomputable abbrev Qg:Spec:=Ib (.pair mG (.pair tI .unit)) tL false false (λx=>La (List.length x.1) x.2.1/\List.length x.1<=8/\ ∀p∈x.1,Nz p=true) (λx=>Az x.1 x.2.1)
def Bz (n:Nat):List Int:=(List.range n).flatMap λ(k:Nat)=> [(k:Int)+1,-((k:Int)+1)]
noncomputable abbrev Np:Spec:=Ib (.pair tI .unit) tL false true (λx=>0<=x.1/\x.1<=8) (λx=>Bz x.1.toNat)
noncomputable abbrev ez:Spec:=Ib (.pair Ma (.pair tL (.pair tI .unit))) tL false true (λx=>Cy x.1=true/\List.length x.2.1<=20/\(∀y∈x.2.1,0<=y/\y<x.1.1)/\La (List.length x.1.2.2.1) x.2.2.1) (λx=>Ai x.2.1 (Az x.1.2.2.1 x.2.2.1))
theorem wI (p q:List Int) (P:List Int->Prop):(((0:Int)<=(↑p.length:Int)/\(↑p.length:Int)<(↑Ct:Int)+(1:Int))/\(↑p.length:Int)=(↑p.length:Int)/\0=0/\(List.replicate (↑p.length:Int).toNat (Int.ofNat (nat_lit 0))).length=(List.replicate (↑p.length:Int).toNat (Int.ofNat (nat_lit 0))).length/\Dh (λ(v3:Int×List Int×PUnit) (k4:Int×List Int×PUnit->Prop)=>Br (decide (v3.1<(↑p.length:Int))) (∃(y5:Int),idx p v3.1=some y5/\ ∃(y6:Int),idx q y5=some y6/\((0:Int)<=v3.1/\v3.1<(↑v3.2.1.length:Int))/\0+v3.1.toNat<v3.2.1.length/\0=0/\v3.2.1.length=(v3.2.1.set (0+v3.1.toNat) y6).length/\k4 (IntKind.i64.wrap (v3.1+(1:Int)),v3.2.1.set (0+v3.1.toNat) y6,())) (P (List.take v3.2.1.length (List.drop 0 v3.2.1)))) ((0:Int),List.replicate (↑p.length:Int).toNat (Int.ofNat (nat_lit 0)),PUnit.unit))=fnW Hf (look []) Sw Try.f142 (p,q,()) P:=by kernel_rfl
theorem wJ (p:List Int) (P:List Int->Prop):(((0:Int)<=(↑p.length:Int)/\(↑p.length:Int)<(↑Ct:Int)+(1:Int))/\(↑p.length:Int)=(↑p.length:Int)/\0=0/\(List.replicate (↑p.length:Int).toNat (Int.ofNat (nat_lit 0))).length=(List.replicate (↑p.length:Int).toNat (Int.ofNat (nat_lit 0))).length/\Dh (λ(v2:Int×List Int×PUnit) (k3:Int×List Int×PUnit->Prop)=>Br (decide (v2.1<(↑p.length:Int))) (∃(y4:Int),idx p v2.1=some y4/\((0:Int)<=y4/\y4<(↑v2.2.1.length:Int))/\0+y4.toNat<v2.2.1.length/\0=0/\v2.2.1.length=(v2.2.1.set (0+y4.toNat) v2.1).length/\k3 (IntKind.i64.wrap (v2.1+(1:Int)),v2.2.1.set (0+y4.toNat) v2.1,())) (P (List.take v2.2.1.length (List.drop 0 v2.2.1)))) ((0:Int),List.replicate (↑p.length:Int).toNat (Int.ofNat (nat_lit 0)),PUnit.unit))=fnW Hf (look []) Gk Try.f143 (p,()) P:=by kernel_rfl
theorem VZ (p:List Int) (P:List Int->Prop):(((0:Int)<=(↑p.length:Int)/\(↑p.length:Int)<(↑Ct:Int)+(1:Int))/\(↑p.length:Int)=(↑p.length:Int)/\0=0/\(List.replicate (↑p.length:Int).toNat (Int.ofNat (nat_lit 0))).length=(List.replicate (↑p.length:Int).toNat (Int.ofNat (nat_lit 0))).length/\Dh (λ(v2:Int×List Int×PUnit) (k3:Int×List Int×PUnit->Prop)=>Br (decide (v2.1<(↑p.length:Int))) (∃(y4:Int),idx p v2.1=some y4/\((0:Int)<=y4/\y4<(↑v2.2.1.length:Int))/\0+y4.toNat<v2.2.1.length/\0=0/\v2.2.1.length=(v2.2.1.set (0+y4.toNat) v2.1).length/\k3 (IntKind.i64.wrap (v2.1+(1:Int)),v2.2.1.set (0+y4.toNat) v2.1,())) (P (List.take v2.2.1.length (List.drop 0 v2.2.1)))) ((0:Int),List.replicate (↑p.length:Int).toNat (Int.ofNat (nat_lit 0)),PUnit.unit))=fnW Hf (look []) Gk Try.f190 (p,()) P:=by kernel_rfl
theorem wO (p:List Int) (P:List Int->Prop):(∃(y2:Bool),Mv.fn (p,())=some y2/\Br (!y2) (P (List.take 0 (List.drop 0 []))) (∃(y3:List Int),Gk.fn (p,())=some y3/\P y3))=fnW Hf (look [(169,Mv),(190,Gk)]) Ra Try.f187 (p,()) P:=by kernel_rfl
theorem ON (n:Int) (P:List Int->Prop):(0=0/\0=([]:List Int).length/\Dh (λ(v2:Int×List Int×PUnit) (k3:Int×List Int×PUnit->Prop)=>Br (decide (v2.1<n)) (0=0/\v2.2.1.length=v2.2.1.length/\v2.2.1.length+(List.take 1 (List.drop 0 [v2.1])).length<=Ct/\0=0/\(v2.2.1++List.take 1 (List.drop 0 [v2.1])).length=(v2.2.1++List.take 1 (List.drop 0 [v2.1])).length/\k3 (IntKind.i64.wrap (v2.1+(1:Int)),v2.2.1++List.take 1 (List.drop 0 [v2.1]),())) (P (List.take v2.2.1.length (List.drop 0 v2.2.1)))) ((0:Int),[],PUnit.unit))=fnW Hf (look []) Yu Try.f66 (n,()) P:=by kernel_rfl
theorem OO (g:List (List Int)) (l:Int) (P:List Int->Prop):(Br (decide (l>(0:Int))) (∃(y3:List Int),idx g (IntKind.i64.wrap (l-(1:Int)))=some y3/\P y3) (∃(y3:List Int),idx g (IntKind.i64.wrap (IntKind.i64.wrap ((0:Int)-l)-(1:Int)))=some y3/\ ∃(y4:List Int),Gk.fn (y3,())=some y4/\P y4))=fnW Hf (look [(143,Gk)]) Qg Try.f147 (g,l,()) P:=by kernel_rfl
theorem VU (n:Int) (P:List Int->Prop):(0=0/\0=([]:List Int).length/\Dh (λ(v2:Int×List Int×PUnit) (k3:Int×List Int×PUnit->Prop)=>Br (decide (v2.1<n)) (0=0/\v2.2.1.length=v2.2.1.length/\v2.2.1.length+(List.take 2 (List.drop 0 [IntKind.i64.wrap (v2.1+(1:Int)),IntKind.i64.wrap ((0:Int)-IntKind.i64.wrap (v2.1+(1:Int)))])).length<=Ct/\0=0/\(v2.2.1++List.take 2 (List.drop 0 [IntKind.i64.wrap (v2.1+(1:Int)),IntKind.i64.wrap ((0:Int)-IntKind.i64.wrap (v2.1+(1:Int)))])).length=(v2.2.1++List.take 2 (List.drop 0 [IntKind.i64.wrap (v2.1+(1:Int)),IntKind.i64.wrap ((0:Int)-IntKind.i64.wrap (v2.1+(1:Int)))])).length/\k3 (IntKind.i64.wrap (v2.1+(1:Int)),v2.2.1++List.take 2 (List.drop 0 [IntKind.i64.wrap (v2.1+(1:Int)),IntKind.i64.wrap ((0:Int)-IntKind.i64.wrap (v2.1+(1:Int)))]),())) (P (List.take v2.2.1.length (List.drop 0 v2.2.1)))) ((0:Int),[],PUnit.unit))=fnW Hf (look []) Np Try.f121 (n,()) P:=by kernel_rfl
theorem Abr (p:Int×ByteArray×List (List Int)×Unit) (s:List Int) (l:Int) (P:List Int->Prop):(∃(y4:List Int),idx p.2.2.1 (IntKind.i64.wrap ((if true=true then if IntKind.i64.wrap ((0:Int)-l)>l then IntKind.i64.wrap ((0:Int)-l) else l else if IntKind.i64.wrap ((0:Int)-l)<l then IntKind.i64.wrap ((0:Int)-l) else l)-(1:Int)))=some y4/\Br (decide (l<(0:Int))) (∃(y5:List Int),Ra.fn (y4,())=some y5/\0=0/\0=([]:List Int).length/\Dh (λ(v6:Int×List Int×PUnit) (k7:Int×List Int×PUnit->Prop)=>Br (decide (v6.1<(↑s.length:Int))) (∃(y8:Int),idx s v6.1=some y8/\ ∃(y9:Int),idx y5 y8=some y9/\0=0/\v6.2.1.length=v6.2.1.length/\v6.2.1.length+(List.take 1 (List.drop 0 [y9])).length<=Ct/\0=0/\(v6.2.1++List.take 1 (List.drop 0 [y9])).length=(v6.2.1++List.take 1 (List.drop 0 [y9])).length/\k7 (IntKind.i64.wrap (v6.1+(1:Int)),v6.2.1++List.take 1 (List.drop 0 [y9]),())) (P (List.take v6.2.1.length (List.drop 0 v6.2.1)))) ((0:Int),[],PUnit.unit)) (0=0/\0=([]:List Int).length/\Dh (λ(v5:Int×List Int×PUnit) (k6:Int×List Int×PUnit->Prop)=>Br (decide (v5.1<(↑s.length:Int))) (∃(y7:Int),idx s v5.1=some y7/\ ∃(y8:Int),idx y4 y7=some y8/\0=0/\v5.2.1.length=v5.2.1.length/\v5.2.1.length+(List.take 1 (List.drop 0 [y8])).length<=Ct/\0=0/\(v5.2.1++List.take 1 (List.drop 0 [y8])).length=(v5.2.1++List.take 1 (List.drop 0 [y8])).length/\k6 (IntKind.i64.wrap (v5.1+(1:Int)),v5.2.1++List.take 1 (List.drop 0 [y8]),())) (P (List.take v5.2.1.length (List.drop 0 v5.2.1)))) ((0:Int),[],PUnit.unit)))=fnW Hf (look [(187,Ra)]) ez Try.f145 (p,s,l,()) P:=by kernel_rfl
theorem Ig {xs:List Int} {i:Nat} (h:i<xs.length):Gw xs (i:Int)=xs[i]:=by
 unfold Gw
 rw [Aj,Ah,Ab h];rfl
theorem iS {xs:List Int} {y:Int} (h0:0<=y) (h:y<xs.length):idx xs y=some (Gw xs y):=by
 have hy:y.toNat<xs.length:=by omega
 have e:y=(y.toNat:Int):=by omega
 rw [e,Ck hy,Ig hy]
theorem aQ (f:Nat->Nat) (g:Nat->Int) (m:Nat) (init:List Int):cB f g (m+1) init=(cB f g m init).set (f m) (g m):=by simp [cB,bb]
theorem cC (f:Nat->Nat) (g:Nat->Int) (m:Nat) (init:List Int):(cB f g m init).length=init.length:=by
 induction m with
 |zero=>rfl
 |succ m ih=>rw [aQ,Cf,ih]
theorem qd (f:Nat->Nat) (g:Nat->Int) (init:List Int): ∀(m:Nat),(∀i j,i<m->j<m->f i=f j->i=j)-> ∀i,i<m->f i<init.length->(cB f g m init)[f i]?=some (g i)
 |0,_,i,h,_=>absurd h (Ec _)
 |m+1,hf,i,hi,hl=>by
  rw [aQ]
  by_cases e:i=m
  ·subst e
   exact List.getElem?_set_self (by rw [cC];exact hl)
  ·rw [List.getElem?_set_ne (λh=>e (hf i m hi (by omega) h.symm))]
   exact qd f g init m (λa b ha hb=>hf a b (by omega) (by omega)) i (by omega) hl
structure bx (p:List Int):Prop where
 pos:1<=p.length
 len:p.length<=20
 row:Ny p.length p
 nodup:p.Nodup
theorem j8 {p:List Int} (h:Nz p=true):bx p:=by
 obtain ⟨h1,h2,h3⟩:=Hy.1 h
 refine ⟨h1,h2,λy hy=>?_,j4 λj hj=>(h3 j hj hj).2.2⟩
 obtain ⟨j,hj,rfl⟩:=Bf.1 hy
 have:=h3 j hj hj
 omega
theorem bx.inj {p:List Int} (h:bx p) (i j:Nat) (hi:i<p.length) (hj:j<p.length) (e:(Gw p (i:Int)).toNat=(Gw p (j:Int)).toNat):i=j:=by
 rw [Ig hi,Ig hj] at e
 have h1:=h.row _ (Al hi)
 have h2:=h.row _ (Al hj)
 have e:p[i]=p[j]:=by omega
 refine Bj λIv=>?_
 rcases Nat.lt_or_gt_of_ne Iv with hl|hl
 ·exact Dp.1 h.nodup i j hi hj hl e
 ·exact Dp.1 h.nodup j i hj hi hl e.symm
theorem bx.TM {p:List Int} (h:bx p) (k:Nat) (hk:k<p.length): ∃i,i<p.length/\(Gw p (i:Int)).toNat=k:=by
 have hm:=(df (xs:=p) h.row).2 (uY h.nodup) k hk
 obtain ⟨i,hi,e⟩:=Bf.1 hm
 exact ⟨i,hi,by rw [Ig hi,e];exact Aj k⟩
theorem bx.lt {p:List Int} (h:bx p) {i:Nat} (hi:i<p.length):(Gw p (i:Int)).toNat<p.length:=by
 rw [Ig hi]
 have:=h.row _ (Al hi)
 omega
theorem nA (p:List Int):(Bg p).length=p.length:=by unfold Bg;rw [cC,Gd]
theorem ZF {p:List Int} (h:bx p) {i:Nat} (hi:i<p.length):(Bg p)[(Gw p (i:Int)).toNat]?=some (i:Int):=
 qd (λi=>(Gw p (i:Int)).toNat) (λi=>(i:Int)) _ p.length (λi j hi hj=>h.inj i j hi hj) i hi (by rw [Gd];exact h.lt hi)
theorem Adt {p:List Int} (h:bx p):Ny p.length (Bg p):=by
 intro y hy
 obtain ⟨k,hk,rfl⟩:=Bf.1 hy
 have qn:k<p.length:=by rw [nA] at hk;exact hk
 obtain ⟨i,hi,rfl⟩:=h.TM k qn
 have:=ZF h hi
 rw [Ab hk] at this
 rw [Bb this]
 omega
theorem Pl (p q:List Int):(Ai p q).length=p.length:=by simp [Ai]
theorem DD {p q:List Int} {n:Nat} (hp:Ny q.length p) (hq:Ny n q):Ny n (Ai p q):=by
 intro y hy
 obtain ⟨x,hx,rfl⟩:=Ay.1 hy
 have h1:=hp x hx
 rw [show x=(x.toNat:Int) by omega,Ig (by omega)]
 exact hq _ (Al _)
theorem w6 (p q:List Int) (h:p.length<=20/\Ny q.length p):fnW Hf (look []) Sw Try.f142 (p,q,()) (λ(z:List Int)=>z=Ai p q):=by
 obtain ⟨h,hr⟩:=h
 refine Eq.mp (wI p q _) ?_
 refine ⟨⟨by omega,by show (p.length:Int)<(4294967296:Int)+1;omega⟩,rfl,rfl,rfl,?_⟩
 have Qk:=Pl p q
 refine Bs p.length (λv=>v.1) (λj v=>v.2.1.length=(Ai p q).length/\v.2.1.take j=(Ai p q).take j) rfl ⟨by rw [Qk];simp,by simp⟩ ?_
 rintro j ⟨i,ys,⟨⟩⟩ K hj hi ⟨h1,h2⟩ hK
 dsimp only at hi h1 h2⊢
 subst hi
 refine Br.dec (λhl=>?_) λhl=>?_
 ·have hl:j<p.length:=by omega
  have hy:=hr _ (Al hl)
  refine ⟨_,Ck hl,_,iS hy.1 hy.2,⟨by omega,by omega⟩,by rw [Aj];omega,rfl,by rw [Cf],?_⟩
  rw [Bk (by omega),Aj,Bo]
  have Ke:j<(Ai p q).length:=by rw [Qk];exact hl
  have e:Gw q p[j]=(Ai p q)[j]:=by simp [Ai]
  rw [e]
  exact hK hl _ rfl ⟨by rw [Cf];exact h1,dB Ke h1 h2⟩
 ·have:j=p.length:=by omega
  subst this
  rw [<-Qk,Aw,<-h1,Aw] at h2
  rw [Dj,Aw]
  exact h2
theorem Xa:Sound Try.prog 142 Sw:=
 Sound.Ib Ew Bw mixed Try.func142 (by kernel_rfl) (by kernel_rfl) λx h=>w6 x.1 x.2.1 h
theorem w7 (p:List Int) (h:p.length<=20/\Ny p.length p):fnW Hf (look []) Gk Try.f143 (p,()) (λ(z:List Int)=>z=Bg p):=by
 obtain ⟨h,hr⟩:=h
 refine Eq.mp (wJ p _) ?_
 refine ⟨⟨by omega,by show (p.length:Int)<(4294967296:Int)+1;omega⟩,rfl,rfl,rfl,?_⟩
 refine Bs p.length (λv=>v.1) (λj v=>v.2.1=cB (λi=>(Gw p (i:Int)).toNat) (λi=>(i:Int)) j (List.replicate p.length 0)) rfl rfl ?_
 rintro j ⟨i,ys,⟨⟩⟩ K hj hi h1 hK
 dsimp only at hi h1⊢
 subst hi
 have hlen:ys.length=p.length:=by rw [h1,cC,Gd]
 refine Br.dec (λhl=>?_) λhl=>?_
 ·have hl:j<p.length:=by omega
  have hy:=hr _ (Al hl)
  refine ⟨_,Ck hl,⟨by omega,by omega⟩,by omega,rfl,by rw [Cf],?_⟩
  rw [Bk (by omega),Bo]
  refine hK hl _ rfl ?_
  rw [aQ,<-h1,Ig hl]
 ·have:j=p.length:=by omega
  subst this
  rw [Dj,Aw]
  exact h1
theorem Xb:Sound Try.prog 143 Gk:=
 Sound.Ib Ew Bw mixed Try.func143 (by kernel_rfl) (by kernel_rfl) λx h=>w7 x.1 h
theorem UB (p:List Int) (h:p.length<=20/\Ny p.length p):fnW Hf (look []) Gk Try.f190 (p,()) (λ(z:List Int)=>z=Bg p):=by
 obtain ⟨h,hr⟩:=h
 refine Eq.mp (VZ p _) ?_
 refine ⟨⟨by omega,by show (p.length:Int)<(4294967296:Int)+1;omega⟩,rfl,rfl,rfl,?_⟩
 refine Bs p.length (λv=>v.1) (λj v=>v.2.1=cB (λi=>(Gw p (i:Int)).toNat) (λi=>(i:Int)) j (List.replicate p.length 0)) rfl rfl ?_
 rintro j ⟨i,ys,⟨⟩⟩ K hj hi h1 hK
 dsimp only at hi h1⊢
 subst hi
 have hlen:ys.length=p.length:=by rw [h1,cC,Gd]
 refine Br.dec (λhl=>?_) λhl=>?_
 ·have hl:j<p.length:=by omega
  have hy:=hr _ (Al hl)
  refine ⟨_,Ck hl,⟨by omega,by omega⟩,by omega,rfl,by rw [Cf],?_⟩
  rw [Bk (by omega),Bo]
  refine hK hl _ rfl ?_
  rw [aQ,<-h1,Ig hl]
 ·have:j=p.length:=by omega
  subst this
  rw [Dj,Aw]
  exact h1
theorem dz:Sound Try.prog 190 Gk:=
 Sound.Ib Ew Bw mixed Try.func190 (by kernel_rfl) (by kernel_rfl) λx h=>UB x.1 h
theorem wc (p:List Int) (h:Nz p=true):fnW Hf (look [(169,Mv),(190,Gk)]) Ra Try.f187 (p,()) (λ(z:List Int)=>z=Bg p):=by
 have hp:=j8 h
 have hs:short p:=by have:=hp.len;unfold short;omega
 refine Eq.mp (wO p _) ⟨_,Ac hs,⟨λhe=>?_,λ_=>⟨_,Ac ⟨hp.len,hp.row⟩,rfl⟩⟩⟩
 exact absurd h (Hl he)
theorem o8:Sound Try.prog 187 Ra:=
 Sound.Ib Ew (Bd eG (Bd dz Bw)) mixed Try.func187 (by kernel_rfl) (by kernel_rfl) λx h=>wc x.1 h
theorem Ze (j:Nat):upto (j+1)=upto j++ [(j:Int)]:=by simp [upto,bb]
theorem MM (n:Int) (h:0<=n/\n<=20):fnW Hf (look []) Yu Try.f66 (n,()) (λ(z:List Int)=>z=upto n.toNat):=by
 refine Eq.mp (ON n _) ⟨rfl,rfl,?_⟩
 refine Bs n.toNat (λv=>v.1) (λj v=>v.2.1=upto j) rfl rfl ?_
 rintro j ⟨i,ys,⟨⟩⟩ K hj hi h1 hK
 dsimp only at hi h1⊢
 subst hi h1
 refine Br.dec (λhl=>?_) λhl=>?_
 ·refine ⟨rfl,rfl,?_,rfl,rfl,?_⟩
  ·show (upto j).length+1<=4294967296
   rw [Kb];omega
  ·rw [Bk (by omega)]
   exact hK (by omega) _ rfl (Ze j).symm
 ·have:j=n.toNat:=by omega
  subst this
  rw [Dj,Aw]
theorem jt:Sound Try.prog 66 Yu:=
 Sound.Ib Ew Bw mixed Try.func66 (by kernel_rfl) (by kernel_rfl) λx h=>MM x.1 h
theorem Rz {g:List (List Int)} {k:Nat} (h:k<g.length):Az g ((k:Int)+1)=g[k]:=by
 unfold Az
 rw [Ac (by omega),show ((k:Int)+1-1).toNat=k by omega,Ah,Ab h];rfl
theorem Ry {g:List (List Int)} {k:Nat} (h:k<g.length):Az g (-((k:Int)+1))=Bg g[k]:=by
 unfold Az
 rw [Ak (by omega),show (-(-((k:Int)+1))-1).toNat=k by omega,Ah,Ab h];rfl
theorem Sv {n:Nat} {l:Int} (h:La n l): ∃k:Nat,k<n/\(l=(k:Int)+1\/l= -((k:Int)+1)):=by
 obtain ⟨h1,h2,h3⟩:=h
 by_cases h0:0<l
 ·exact ⟨(l-1).toNat,by omega, .inl (by omega)⟩
 ·exact ⟨(-l-1).toNat,by omega, .inr (by omega)⟩
theorem MN (g:List (List Int)) (l:Int) (h:La (List.length g) l/\List.length g<=8/\ ∀p∈g,Nz p=true):fnW Hf (look [(143,Gk)]) Qg Try.f147 (g,l,()) (λ(z:List Int)=>z=Az g l):=by
 obtain ⟨hl,h8,hp⟩:=h
 refine Eq.mp (OO g l _) ?_
 obtain ⟨k,hk,rfl|rfl⟩:=Sv hl
 ·refine Br.dec (λ_=>?_) λhn=>by omega
  rw [Dl (by omega) (by omega),show (k:Int)+1-1=(k:Int) by omega]
  exact ⟨_,Ck hk,(Rz hk).symm⟩
 ·refine Br.dec (λhn=>by omega) λ_=>?_
  rw [Dl (n:=0- -((k:Int)+1)) (by omega) (by omega),Dl (by omega) (by omega),show (0:Int)- -((k:Int)+1)-1=(k:Int) by omega]
  have:=j8 (hp _ (Al hk))
  exact ⟨_,Ck hk,_,Ac ⟨this.len,this.row⟩,(Ry hk).symm⟩
theorem ju:Sound Try.prog 147 Qg:=
 Sound.Ib Ew (Bd Xb Bw) mixed Try.func147 (by kernel_rfl) (by kernel_rfl) λx h=>MN x.1 x.2.1 h
theorem bV (j:Nat):Bz (j+1)=Bz j++ [(j:Int)+1,-((j:Int)+1)]:=by simp [Bz,bb,List.flatMap_append]
theorem Qv (j:Nat):(Bz j).length=2*j:=by
 induction j with
 |zero=>rfl
 |succ j ih=>rw [bV,Au,ih];simp only [Av,Fg];omega
theorem Md {n:Nat} {l:Int} (h:l∈Bz n):La n l:=by
 unfold Bz at h
 obtain ⟨k,hk,hl⟩:=Ga.1 h
 have hk:=Dn.1 hk
 simp only [Bc,List.not_mem_nil,or_false] at hl
 unfold La
 omega
theorem TW (n:Int) (h:0<=n/\n<=8):fnW Hf (look []) Np Try.f121 (n,()) (λ(z:List Int)=>z=Bz n.toNat):=by
 refine Eq.mp (VU n _) ⟨rfl,rfl,?_⟩
 refine Bs n.toNat (λv=>v.1) (λj v=>v.2.1=Bz j) rfl rfl ?_
 rintro j ⟨i,ys,⟨⟩⟩ K hj hi h1 hK
 dsimp only at hi h1⊢
 subst hi h1
 refine Br.dec (λhl=>?_) λhl=>?_
 ·refine ⟨rfl,rfl,?_,rfl,rfl,?_⟩
  ·show (Bz j).length+2<=4294967296
   rw [Qv];omega
  ·have e1:IntKind.i64.wrap ((j:Int)+1)=(j:Int)+1:=Dl (by omega) (by omega)
   have e2:IntKind.i64.wrap ((0:Int)-((j:Int)+1))= -((j:Int)+1):=by rw [Dl (by omega) (by omega)];omega
   rw [e1,e2]
   exact hK (by omega) _ rfl (bV j).symm
 ·have:j=n.toNat:=by omega
  subst this
  rw [Dj,Aw]
theorem dy:Sound Try.prog 121 Np:=
 Sound.Ib Ew Bw mixed Try.func121 (by kernel_rfl) (by kernel_rfl) λx h=>TW x.1 h
structure Valid (p:PP):Prop where
 n:1<=p.1/\p.1<=20
 oV:1<=p.2.2.1.length/\p.2.2.1.length<=8
 perm: ∀m∈p.2.2.1,Nz m=true
 len: ∀m∈p.2.2.1,(m.length:Int)=p.1
theorem valid {p:PP} (h:Cy p=true):Valid p:=by
 have h0:=OG h
 obtain ⟨h1,_,_⟩:=Hy.1 h
 obtain ⟨_,_,h4⟩:=Hy.1 h1
 exact ⟨⟨h0.1,h0.2.1⟩,h0.2.2,λm hm=>(Hy.1 (h4 m hm)).2,λm hm=>(Hy.1 (h4 m hm)).1⟩
theorem jY {p:PP} (h:Valid p) {l:Int} (hl:La (List.length p.2.2.1) l):((Az p.2.2.1 l).length:Int)=p.1/\Ny (Az p.2.2.1 l).length (Az p.2.2.1 l):=by
 obtain ⟨k,hk,rfl|rfl⟩:=Sv hl
 ·rw [Rz hk]
  exact ⟨h.len _ (Al hk),(j8 (h.perm _ (Al hk))).row⟩
 ·rw [Ry hk,nA]
  exact ⟨h.len _ (Al hk),Adt (j8 (h.perm _ (Al hk)))⟩
theorem CP (s y:List Int) (P:List Int->Prop) (h1:s.length<=20) (h2:Ny y.length s) (h3:P (Ai s y)):
  Dh
   (λ(v5:Int×List Int×PUnit) (k6:Int×List Int×PUnit->Prop)=>
    Br (decide (v5.1<(↑s.length:Int)))
     (∃(y7:Int),
      idx s v5.1=some y7/\
       ∃(y8:Int),
        idx y y7=some y8/\
         (0:Nat)=(0:Nat)/\
          v5.2.1.length=v5.2.1.length/\
           v5.2.1.length+(List.take (1:Nat) (List.drop (0:Nat) [y8])).length<=Ct/\
            (0:Nat)=(0:Nat)/\
             (v5.2.1++List.take (1:Nat) (List.drop (0:Nat) [y8])).length=(v5.2.1++List.take (1:Nat) (List.drop (0:Nat) [y8])).length/\
              k6 (IntKind.i64.wrap (v5.1+(1:Int)),v5.2.1++List.take (1:Nat) (List.drop (0:Nat) [y8]),()))
     (P (List.take v5.2.1.length (List.drop (0:Nat) v5.2.1))))
   ((0:Int),([]:List Int),PUnit.unit):=by
 refine Bs s.length (λv=>v.1) (λj v=>v.2.1=(s.take j).map (Gw y)) rfl (by simp) ?_
 rintro j ⟨i,ys,⟨⟩⟩ K hj hi hR hK
 dsimp only at hi hR⊢
 subst hi hR
 refine Br.dec (λhl=>?_) λhl=>?_
 ·have hl:j<s.length:=by omega
  have hy:=h2 _ (Al hl)
  refine ⟨_,Ck hl,_,iS hy.1 hy.2,rfl,rfl,?_,rfl,rfl,?_⟩
  ·show ((s.take j).map (Gw y)).length+1<=4294967296
   rw [Bt,Db];omega
  ·rw [Bk (by omega)]
   refine hK hl _ rfl ?_
   dsimp only
   rw [Ch hl,Il]
   rfl
 ·have:j=s.length:=by omega
  subst this
  rw [Dj,Aw,Aw]
  exact h3
theorem Aa7 (p:PP) (s:List Int) (l:Int) (h:Cy p=true/\List.length s<=20/\(∀y∈s,0<=y/\y<p.1)/\La (List.length p.2.2.1) l):fnW Hf (look [(187,Ra)]) ez Try.f145 (p,s,l,()) (λ(z:List Int)=>z=Ai s (Az p.2.2.1 l)):=by
 obtain ⟨hv,hs,hr,hl⟩:=h
 have hv:=valid hv
 have hf:=hv.oV
 refine Eq.mp (Abr p s l _) ?_
 have QD:=jY hv hl
 have Kf:Ny (Az p.2.2.1 l).length s:= λy hy=>by have:=hr y hy;omega
 obtain ⟨k,hk,rfl|rfl⟩:=Sv hl
 ·rw [Ac rfl,Dl (n:=0-((k:Int)+1)) (by omega) (by omega),Ak (by omega),Dl (by omega) (by omega),show (k:Int)+1-1=(k:Int) by omega]
  refine ⟨_,Ck hk,Br.dec (λhn=>by omega) λ_=>⟨rfl,rfl,?_⟩⟩
  rw [Rz hk] at Kf⊢
  exact CP s _ (λz=>z=Ai s p.2.2.1[k]) hs Kf rfl
 ·rw [Ac rfl,Dl (n:=0- -((k:Int)+1)) (by omega) (by omega),Ac (by omega),Dl (by omega) (by omega),show (0:Int)- -((k:Int)+1)-1=(k:Int) by omega]
  refine ⟨_,Ck hk,Br.dec (λ_=>⟨_,Ac (hv.perm _ (Al hk)),rfl,rfl,?_⟩) λhn=>by omega⟩
  rw [Ry hk] at Kf⊢
  exact CP s (Bg p.2.2.1[k]) (λz=>z=Ai s (Bg p.2.2.1[k])) hs Kf rfl
theorem AF:Sound Try.prog 145 ez:=
 Sound.Ib Ew (Bd o8 Bw) mixed Try.func145 (by kernel_rfl) (by kernel_rfl) λx h=>Aa7 x.1 x.2.1 x.2.2.1 h
abbrev rL:CK:= .row tI 2
abbrev xLL:CK:= .Hw tL 31
def low (k:Int):Prop:=0<=k/\k<=1099511627776
theorem Cq {α:Type} (xs:List α):List.take xs.length (List.drop 0 xs)=xs:=by rw [Dj,Aw]
def aD (xs:List Int):Int:=xs.foldl max (xs.headD 0)
noncomputable abbrev y0:Spec:=Ib (.pair tL .unit) tI false true (λx=>1<=List.length x.1/\short x.1) (λx=>aD x.1)
def j0 (xs:List Int):List Int:=(List.range (aD xs+1).toNat).map λ(d:Nat)=>((xs.count (d:Int):Nat):Int)
def small (xs:List Int):Prop:=1<=xs.length/\short xs/\ ∀x∈xs,0<=x/\x<=3000
noncomputable abbrev Vk:MSpec:=lg [none] [(false, .Fy tL)] false [none] [rL] (λx=>small x.1) (λx=>((j0 x.1,()),()))
theorem Aoc (xs:List Int) (P:Int->Prop):(Br (decide ((↑xs.length:Int)<(1:Int))) False (∃(y2:Int),idx xs (0:Int)=some y2/\Dh (λ(v3:Int×Int×PUnit) (k4:Int×Int×PUnit->Prop)=>Br (decide (v3.2.1<(↑xs.length:Int))) (∃(y5:Int),idx xs v3.2.1=some y5/\k4 (if true=true then if y5>v3.1 then y5 else v3.1 else if y5<v3.1 then y5 else v3.1,IntKind.i64.wrap (v3.2.1+(1:Int)),())) (P v3.1)) (y2,(1:Int),PUnit.unit)))=fnW Hf (look []) y0 Try.f105 (xs,()) P:=by kernel_rfl
theorem II (xs:List Int) (P:((List Int×Unit)×Unit)->Prop):(∃(y2:Int),y0.fn (xs,())=some y2/\((0:Int)<=IntKind.i64.wrap (y2+(1:Int))/\IntKind.i64.wrap (y2+(1:Int))<(↑Ct:Int)+(1:Int))/\IntKind.i64.wrap (y2+(1:Int))=IntKind.i64.wrap (y2+(1:Int))/\0=0/\(List.replicate (IntKind.i64.wrap (y2+(1:Int))).toNat (Int.ofNat (nat_lit 0))).length=(List.replicate (IntKind.i64.wrap (y2+(1:Int))).toNat (Int.ofNat (nat_lit 0))).length/\Dh (λ(v3:Int×List Int×PUnit) (k4:Int×List Int×PUnit->Prop)=>Br (decide (v3.1<(↑xs.length:Int))) (∃(y5:Int),idx xs v3.1=some y5/\((0:Int)<=y5/\y5<(↑v3.2.1.length:Int))/\ ∃(y6:Int),v3.2.1[0+y5.toNat]?=some y6/\((0:Int)<=y5/\y5<(↑v3.2.1.length:Int))/\0+y5.toNat<v3.2.1.length/\0=0/\v3.2.1.length=(v3.2.1.set (0+y5.toNat) (IntKind.i64.wrap (y6+(1:Int)))).length/\k4 (IntKind.i64.wrap (v3.1+(1:Int)),v3.2.1.set (0+y5.toNat) (IntKind.i64.wrap (y6+(1:Int))),())) (P ((List.take v3.2.1.length (List.drop 0 v3.2.1),()),()))) ((0:Int),List.replicate (IntKind.i64.wrap (y2+(1:Int))).toNat (Int.ofNat (nat_lit 0)),PUnit.unit))=fnMW Xe (look [(105,y0)]) Vk Try.f103 (xs,()) P:=by kernel_rfl
theorem Air (y v:Int):(if y>v then y else v)=max v y:=by split<;>omega
theorem nk: ∀(xs:List Int) (a:Int),a<=xs.foldl max a/\ ∀x∈xs,x<=xs.foldl max a
 | [],a=>⟨Qj a,λx hx=>by cases hx⟩
 |y::xs,a=>by
  obtain ⟨h1,h2⟩:=nk xs (max a y)
  simp only [Jj]
  refine ⟨by omega,λx hx=>?_⟩
  rcases Bc.1 hx with rfl|hx
  ·omega
  ·exact h2 x hx
theorem dj: ∀(xs:List Int) (a:Int),xs.foldl max a=a\/xs.foldl max a∈xs
 | [],a=> .inl rfl
 |y::xs,a=>by
  simp only [Jj]
  rcases dj xs (max a y) with h|h
  ·rw [h]
   rcases Int.le_total a y with h1|h1
   ·rw [Int.max_eq_right h1];exact .inr (by simp)
   ·rw [Int.max_eq_left h1];exact .inl rfl
  ·exact .inr (Aq _ h)
theorem FH {xs:List Int} {x:Int} (hx:x∈xs):x<=aD xs:=(nk xs _).2 x hx
theorem xz {xs:List Int} (h:1<=xs.length):aD xs∈xs:=by
 cases xs with
 |nil=>simp at h
 |cons y xs=>
  rcases dj (y::xs) ((y::xs).headD 0) with h|h
  ·show List.foldl max _ _∈_
   rw [h];simp
  ·exact h
theorem Ann (xs:List Int) (h:1<=List.length xs/\short xs):fnW Hf (look []) y0 Try.f105 (xs,()) (λ(z:Int)=>z=aD xs):=by
 obtain ⟨h1,h2⟩:=h
 unfold short at h2
 refine Eq.mp (Aoc xs _) (Br.dec (λhn=>by omega) λ_=>?_)
 refine ⟨_,Ck (j:=0) (by omega),?_⟩
 refine ⟨λv=> ∃j:Nat,1<=j/\j<=xs.length/\v.2.1=j/\(xs.drop j).foldl max v.1=aD xs,λv=>xs.length-v.2.1.toNat,⟨1,Ap _,h1,rfl,?_⟩,?_⟩
 ·cases xs with
  |nil=>simp at h1
  |cons y xs=>simp [aD]
 ·rintro ⟨m,i,⟨⟩⟩ ⟨j,g1,g2,g3,g4⟩
  dsimp only at g3 g4⊢
  subst g3
  refine Br.dec (λhl=>?_) λhl=>?_
  ·have hl:j<xs.length:=by omega
   refine ⟨_,Ck hl,?_⟩
   rw [Bk (by omega),Ac rfl,Air]
   refine ⟨⟨j+1,by omega,by omega,rfl,?_⟩,?_⟩
   ·rw [Ez hl] at g4
    exact g4
   ·simp only [Aj]
    omega
  ·have hj:j=xs.length:=by omega
   subst hj
   rw [Pj] at g4
   exact g4
theorem UY:Sound Try.prog 105 y0:=
 Sound.Ib Ew Bw mixed Try.func105 (by kernel_rfl) (by kernel_rfl) λx h=>Ann x.1 h
def XH (xs:List Int) (j m:Nat):List Int:=(List.range m).map λ(d:Nat)=>(((xs.take j).count (d:Int):Nat):Int)
theorem rT (xs:List Int) (j m:Nat):(XH xs j m).length=m:=by simp [XH]
theorem rS {xs:List Int} {j m d:Nat} (h:d<m):(XH xs j m)[d]?=some (((xs.take j).count (d:Int):Nat):Int):=by simp [XH,h]
theorem XI {xs:List Int} {j m:Nat} (hj:j<xs.length) {d:Nat} (hd:xs[j]=(d:Int)) (hm:d<m):(XH xs j m).set d ((((xs.take j).count (d:Int):Nat):Int)+1)=XH xs (j+1) m:=by
 apply List.ext_getElem?
 intro i
 rw [Ds,rT]
 by_cases hi:i<m
 ·rw [rS (j:=j+1) hi,Ch hj,List.count_append,hd]
  by_cases e:d=i
  ·subst e
   rw [Ac rfl,Ac hm]
   simp
  ·rw [Ak e,rS hi]
   have: ¬(d:Int)=(i:Int):=by omega
   simp [this]
 ·by_cases e:d=i
  ·omega
  ·rw [Ak e]
   simp [XH,hi]
theorem XJ (xs:List Int) (m:Nat):XH xs 0 m=List.replicate m 0:=by
 apply List.ext_getElem?
 intro i
 by_cases hi:i<m
 ·rw [rS hi];simp [hi]
 ·simp [XH,hi]
theorem UP {xs:List Int} (h:small xs):0<=aD xs/\aD xs<=3000:=h.2.2 _ (xz h.1)
theorem count_le (xs:List Int) (j:Nat) (d:Int):(xs.take j).count d<=xs.length:=Gx List.count_le_length (by simp;omega)
theorem GH (xs:List Int) (h:small xs):fnMW Xe (look [(105,y0)]) Vk Try.f103 (xs,()) (λ(z:(List Int×Unit)×Unit)=>z=((j0 xs,()),())):=by
 have hb:=UP h
 obtain ⟨h1,h2,h3⟩:=h
 have h2':=h2
 unfold short at h2'
 have hw:IntKind.i64.wrap (aD xs+1)=aD xs+1:=Dl (by omega) (by omega)
 refine Eq.mp (II xs _) ⟨_,Ac ⟨h1,h2⟩,?_⟩
 dsimp only
 rw [hw]
 refine ⟨⟨by omega,by show aD xs+1<(4294967296:Int)+1;omega⟩,rfl,rfl,rfl,?_⟩
 refine Bs xs.length (λv=>v.1) (λj v=>v.2.1=XH xs j (aD xs+1).toNat) rfl (XJ xs _).symm ?_
 rintro j ⟨i,ys,⟨⟩⟩ K hj hi hR hK
 dsimp only at hi hR⊢
 subst hi;subst hR
 refine Br.dec (λhl=>?_) λhl=>?_
 ·have hl:j<xs.length:=by omega
  have hx:=h3 _ (Al hl)
  have hx2:=FH (Al hl)
  obtain ⟨d,hd⟩:=Ml hx.1
  have hdm:d<(aD xs+1).toNat:=by omega
  have hc:=count_le xs j d
  refine ⟨_,Ck hl,⟨hx.1,by rw [rT];omega⟩,?_⟩
  rw [hd,Aj,Bo]
  refine ⟨_,rS hdm,⟨by omega,by rw [rT];omega⟩,by rw [rT];exact hdm,rfl,by rw [Cf],?_⟩
  rw [Bk (by omega),Dl (by omega) (by omega)]
  exact hK hl _ rfl (XI hl hd hdm)
 ·have hj:j=xs.length:=by omega
  subst hj
  rw [Cq]
  simp [XH,j0]
theorem rE:Cn Try.prog 103 Vk:=
 Cn.lg Uy (Bd UY Bw) mixed Try.func103 (by kernel_rfl) (by kernel_rfl) λx h=>GH x.1 h
noncomputable abbrev uv:MSpec:=lg [none] [(false, .Fy (.oslice tI))] false [none] [rL] (λx=>short (x.1.getD [])) (λx=>((x.1.getD [],()),()))
noncomputable abbrev c6:MSpec:=lg [none] [(false, .Fy tL)] false [none] [rL] (λx=>short x.1) (λx=>((x.1,()),()))
noncomputable abbrev Ka:Spec:=Ib (.pair tL .unit) tL false true (λx=>short x.1) (λx=>x.1)
theorem Abs (xs:Option (List Int)) (P:((List Int×Unit)×Unit)->Prop):(Br xs.isNone (P ((List.take 0 (List.drop 0 []),()),())) (0=0/\0=([]:List Int).length/\0+(xs.getD []).length<=Ct/\P ((List.take ([]++xs.getD []).length (List.drop 0 ([]++xs.getD [])),()),())))=fnMW Xe (look []) uv Try.f90 (xs,()) P:=by kernel_rfl
theorem OL (xs:List Int) (P:List Int->Prop):(0=0/\0=([]:List Int).length/\0+xs.length<=Ct/\P (List.take ([]++xs).length (List.drop 0 ([]++xs))))=fnW Hf (look []) Ka Try.f86 (xs,()) P:=by kernel_rfl
theorem Aa8 (xs:Option (List Int)) (h:short (xs.getD [])):fnMW Xe (look []) uv Try.f90 (xs,()) (λ(z:(List Int×Unit)×Unit)=>z=((xs.getD [],()),())):=by
 unfold short at h
 refine Eq.mp (Abs xs _) ⟨λhn=>?_,λ_=>⟨rfl,rfl,by show 0+(xs.getD []).length<=4294967296;omega,?_⟩⟩
 ·cases xs with
  |none=>rfl
  |some y=>cases hn
 ·simp only [Cq,List.nil_append]
theorem AG:Cn Try.prog 90 uv:=
 Cn.lg Uy Bw mixed Try.func90 (by kernel_rfl) (by kernel_rfl) λx h=>Aa8 x.1 h
theorem o4:Cn Try.prog 90 c6:=Cn.ofO AG λ_ _ h=>⟨h,rfl⟩
theorem MK (xs:List Int) (h:short xs):fnW Hf (look []) Ka Try.f86 (xs,()) (λ(z:List Int)=>z=xs):=by
 unfold short at h
 refine Eq.mp (OL xs _) ⟨rfl,rfl,by show 0+xs.length<=4294967296;omega,?_⟩
 simp only [Cq,List.nil_append]
theorem Wz:Sound Try.prog 86 Ka:=
 Sound.Ib Ew Bw mixed Try.func86 (by kernel_rfl) (by kernel_rfl) λx h=>MK x.1 h
def Ef (xs is:List Int):List Int:=is.map (Gw xs)
noncomputable abbrev bo:MSpec:=lg [none,none] [(false, .Fy tL),(false, .Fy tL)] false [none] [rL] (λx=>short x.2.1/\Ny (List.length x.1) x.2.1) (λx=>((Ef x.1 x.2.1,()),()))
def Oa (xs:List Int):ByteArray:=bytesOf (xs.map λx=>IntKind.u8.wrap x)
noncomputable abbrev Fh:Spec:=Ib (.pair tL .unit) .str false true (λx=>short x.1) (λx=>Oa x.1)
def nT (ps:List (List Int)) (p:List Int):Int:=Lp (λq=>decide (q=p)) ps 0
theorem VW (xs is:List Int) (P:((List Int×Unit)×Unit)->Prop):(((0:Int)<=(↑is.length:Int)/\(↑is.length:Int)<(↑Ct:Int)+(1:Int))/\(↑is.length:Int)=(↑is.length:Int)/\0=0/\(List.replicate (↑is.length:Int).toNat (Int.ofNat (nat_lit 0))).length=(List.replicate (↑is.length:Int).toNat (Int.ofNat (nat_lit 0))).length/\Dh (λ(v3:Int×List Int×PUnit) (k4:Int×List Int×PUnit->Prop)=>Br (decide (v3.1<(↑is.length:Int))) (∃(y5:Int),idx is v3.1=some y5/\ ∃(y6:Int),idx xs y5=some y6/\((0:Int)<=v3.1/\v3.1<(↑v3.2.1.length:Int))/\0+v3.1.toNat<v3.2.1.length/\0=0/\v3.2.1.length=(v3.2.1.set (0+v3.1.toNat) y6).length/\k4 (IntKind.i64.wrap (v3.1+(1:Int)),v3.2.1.set (0+v3.1.toNat) y6,())) (P ((List.take v3.2.1.length (List.drop 0 v3.2.1),()),()))) ((0:Int),List.replicate (↑is.length:Int).toNat (Int.ofNat (nat_lit 0)),PUnit.unit))=fnMW Xe (look []) bo Try.f106 (xs,is,()) P:=by kernel_rfl
theorem OT (xs:List Int) (P:ByteArray->Prop):(((0:Int)<=(↑xs.length:Int)/\(↑xs.length:Int)<(↑Ct:Int)+(1:Int))/\(↑xs.length:Int)=(↑xs.length:Int)/\0=0/\(List.replicate (↑xs.length:Int).toNat (Int.ofNat (nat_lit 0))).length=(List.replicate (↑xs.length:Int).toNat (Int.ofNat (nat_lit 0))).length/\Dh (λ(v2:Int×List Int×PUnit) (k3:Int×List Int×PUnit->Prop)=>Br (decide (v2.1<(↑xs.length:Int))) (∃(y4:Int),idx xs v2.1=some y4/\((0:Int)<=v2.1/\v2.1<(↑v2.2.1.length:Int))/\0+v2.1.toNat<v2.2.1.length/\0=0/\v2.2.1.length=(v2.2.1.set (0+v2.1.toNat) (IntKind.u8.wrap y4)).length/\k3 (IntKind.i64.wrap (v2.1+(1:Int)),v2.2.1.set (0+v2.1.toNat) (IntKind.u8.wrap y4),())) (P (bytesOf (List.take v2.2.1.length (List.drop 0 v2.2.1))))) ((0:Int),List.replicate (↑xs.length:Int).toNat (Int.ofNat (nat_lit 0)),PUnit.unit))=fnW Hf (look []) Fh Try.f107 (xs,()) P:=by kernel_rfl
theorem GU (xs is:List Int):(Ef xs is).length=is.length:=by simp [Ef]
theorem TY (xs is:List Int) (h:short is/\Ny xs.length is):fnMW Xe (look []) bo Try.f106 (xs,is,()) (λ(z:(List Int×Unit)×Unit)=>z=((Ef xs is,()),())):=by
 obtain ⟨h,hr⟩:=h
 unfold short at h
 refine Eq.mp (VW xs is _) ?_
 refine ⟨⟨by omega,by show (is.length:Int)<(4294967296:Int)+1;omega⟩,rfl,rfl,rfl,?_⟩
 have Qk:=GU xs is
 refine Bs is.length (λv=>v.1) (λj v=>v.2.1.length=(Ef xs is).length/\v.2.1.take j=(Ef xs is).take j) rfl ⟨by rw [Qk];simp,by simp⟩ ?_
 rintro j ⟨i,ys,⟨⟩⟩ K hj hi ⟨h1,h2⟩ hK
 dsimp only at hi h1 h2⊢
 subst hi
 refine Br.dec (λhl=>?_) λhl=>?_
 ·have hl:j<is.length:=by omega
  have hy:=hr _ (Al hl)
  refine ⟨_,Ck hl,_,iS hy.1 hy.2,⟨by omega,by omega⟩,by rw [Aj];omega,rfl,by rw [Cf],?_⟩
  rw [Bk (by omega),Aj,Bo]
  have Ke:j<(Ef xs is).length:=by rw [Qk];exact hl
  have e:Gw xs is[j]=(Ef xs is)[j]:=by simp [Ef]
  rw [e]
  exact hK hl _ rfl ⟨by rw [Cf];exact h1,dB Ke h1 h2⟩
 ·have:j=is.length:=by omega
  subst this
  rw [<-Qk,Aw,<-h1,Aw] at h2
  rw [Dj,Aw,h2]
theorem wv:Cn Try.prog 106 bo:=
 Cn.lg Uy Bw mixed Try.func106 (by kernel_rfl) (by kernel_rfl) λx h=>TY x.1 x.2.1 h
theorem MS (xs:List Int) (h:short xs):fnW Hf (look []) Fh Try.f107 (xs,()) (λ(z:ByteArray)=>z=Oa xs):=by
 unfold short at h
 refine Eq.mp (OT xs _) ?_
 refine ⟨⟨by omega,by show (xs.length:Int)<(4294967296:Int)+1;omega⟩,rfl,rfl,rfl,?_⟩
 have Qk:(xs.map λx=>IntKind.u8.wrap x).length=xs.length:=by simp
 refine Bs xs.length (λv=>v.1) (λj v=>v.2.1.length=(xs.map λx=>IntKind.u8.wrap x).length/\v.2.1.take j=(xs.map λx=>IntKind.u8.wrap x).take j) rfl ⟨by rw [Qk];simp,by simp⟩ ?_
 rintro j ⟨i,ys,⟨⟩⟩ K hj hi ⟨h1,h2⟩ hK
 dsimp only at hi h1 h2⊢
 subst hi
 refine Br.dec (λhl=>?_) λhl=>?_
 ·have hl:j<xs.length:=by omega
  refine ⟨_,Ck hl,⟨by omega,by omega⟩,by rw [Aj];omega,rfl,by rw [Cf],?_⟩
  rw [Bk (by omega),Aj,Bo]
  have Ke:j<(xs.map λx=>IntKind.u8.wrap x).length:=by rw [Qk];exact hl
  have e:IntKind.u8.wrap xs[j]=(xs.map λx=>IntKind.u8.wrap x)[j]:=by simp
  rw [e]
  exact hK hl _ rfl ⟨by rw [Cf];exact h1,dB Ke h1 h2⟩
 ·have:j=xs.length:=by omega
  subst this
  rw [<-Qk,Aw,<-h1,Aw] at h2
  rw [Dj,Aw,h2];rfl
theorem Xc:Sound Try.prog 107 Fh:=
 Sound.Ib Ew Bw mixed Try.func107 (by kernel_rfl) (by kernel_rfl) λx h=>MS x.1 h
theorem gw {α:Type} (P:α->Bool) (y:α): ∀(l:List α) (i:Int),0<=i->Lp P (l++ [y]) i=if Lp P l i<0 then (if P y=true then i+l.length else-1) else Lp P l i
 | [],i,_=>by simp [Lp]
 |x::r,i,h=>by
  simp only [Ph,Lp,Av]
  split
  ·rw [Ak (by omega)]
  ·rw [gw P y r (i+1) (by omega),show i+1+(r.length:Int)=i+((r.length+1:Nat):Int) by push_cast;omega]
theorem zL (ps:List (List Int)) (q p:List Int):nT (ps++ [q]) p=if nT ps p<0 then (if q=p then (ps.length:Int) else-1) else nT ps p:=by
 unfold nT
 rw [gw _ _ _ _ (Qj 0)]
 simp only [Rd,Int.zero_add]
def Wb (p:List Int):Prop:= ∀x∈p,0<=x/\x<256
theorem XD {x y:Int} (hx:0<=x/\x<256) (hy:0<=y/\y<256) (h:UInt8.ofNat (IntKind.u8.wrap x).toNat=UInt8.ofNat (IntKind.u8.wrap y).toNat):x=y:=by
 have h:=Gc UInt8.toNat h
 simp only [IntKind.wrap_u8,UInt8.toNat_ofNat'] at h
 omega
theorem bytes_inj: ∀(p q:List Int),Wb p->Wb q->(p.map λx=>UInt8.ofNat (IntKind.u8.wrap x).toNat)=(q.map λx=>UInt8.ofNat (IntKind.u8.wrap x).toNat)->p=q
 | [],[],_,_,_=>rfl
 | [],_::_,_,_,h=>by simp at h
 |_::_,[],_,_,h=>by simp at h
 |x::p,y::q,hp,hq,h=>by
  simp only [Bm,Gs] at h
  rw [XD (hp x (by simp)) (hq y (by simp)) h.1,bytes_inj p q (λz hz=>hp z (by simp [hz])) (λz hz=>hq z (by simp [hz])) h.2]
theorem key_inj {p q:List Int} (hp:Wb p) (hq:Wb q) (h:Oa p=Oa q):p=q:=by
 refine bytes_inj p q hp hq ?_
 simp only [Oa,bytesOf,ByteArray.mk.injEq,List.map_map] at h
 have h:=Gc Array.toList h
 simpa [Function.comp_def] using h
def KM (m:ByteArray->Option Int) (ps:List (List Int)):Prop:= ∀p,Wb p->m (Oa p)=if nT ps p<0 then none else some (nT ps p)
theorem KM.nil:KM (λ_=>none) []:= λp _=>by
 rw [Ac (by unfold nT;simp [Lp])]
theorem KM.add {m:ByteArray->Option Int} {ps:List (List Int)} {q:List Int} (h:KM m ps) (hq:Wb q) (hn:nT ps q<0):KM (aj m (Oa q) (ps.length:Int)) (ps++ [q]):=by
 intro p hp
 rw [zL]
 unfold aj
 by_cases e:p=q
 ·subst e
  rw [Ac rfl,Ac hn,Ac rfl,Ak (by omega)]
 ·rw [Ak (λhk=>e (key_inj hp hq hk)),h p hp]
  have e': ¬q=p:= λh=>e h.symm
  rw [Ak e']
  by_cases SU:nT ps p<0
  ·rw [Ac SU,Ac SU,Ac (by decide)]
  ·rw [Ak SU,Ak SU,Ak SU]
noncomputable abbrev Vn:Spec:=Ib (.pair Ma .unit) tL false true (λx=>List.length x.1.2.2.1<=8) (λx=>Bz (List.length x.1.2.2.1))
abbrev oe:Type:=Int×Int×ByteArray×List (List Int)×List Int×PUnit
theorem IN (p:Int×ByteArray×List (List Int)×Unit) (P:List Int->Prop):(0=0/\0=([]:List Int).length/\Dh (λ(v2:oe) (k3:oe->Prop)=>Br (decide (v2.1<=(↑v2.2.2.2.1.length:Int))) (0=0/\v2.2.2.2.2.1.length=v2.2.2.2.2.1.length/\v2.2.2.2.2.1.length+(List.take 2 (List.drop 0 [v2.1,IntKind.i64.wrap ((0:Int)-v2.1)])).length<=Ct/\0=0/\(v2.2.2.2.2.1++List.take 2 (List.drop 0 [v2.1,IntKind.i64.wrap ((0:Int)-v2.1)])).length=(v2.2.2.2.2.1++List.take 2 (List.drop 0 [v2.1,IntKind.i64.wrap ((0:Int)-v2.1)])).length/\k3 (IntKind.i64.wrap (v2.1+(1:Int)),v2.2.1,v2.2.2.1,v2.2.2.2.1,v2.2.2.2.2.1++List.take 2 (List.drop 0 [v2.1,IntKind.i64.wrap ((0:Int)-v2.1)]),())) (P (List.take v2.2.2.2.2.1.length (List.drop 0 v2.2.2.2.2.1)))) ((1:Int),p.1,p.2.1,p.2.2.1,[],PUnit.unit))=fnW Hf (look []) Vn Try.f144 (p,()) P:=by kernel_rfl
theorem GM (p:PP) (h:List.length p.2.2.1<=8):fnW Hf (look []) Vn Try.f144 (p,()) (λ(z:List Int)=>z=Bz (List.length p.2.2.1)):=by
 refine Eq.mp (IN p _) ⟨rfl,rfl,?_⟩
 refine Dh.mk (λv=> ∃j:Nat,j<=List.length p.2.2.1/\v=((j:Int)+1,p.1,p.2.1,p.2.2.1,Bz j,())) (λv=>List.length p.2.2.1+1-v.1.toNat) ⟨0,Ja _,rfl⟩ ?_
 rintro _ ⟨j,hj,rfl⟩
 dsimp only
 refine Br.dec (λhl=>?_) λhl=>?_
 ·refine ⟨rfl,rfl,?_,rfl,rfl,⟨j+1,by omega,?_⟩,?_⟩
  ·show (Bz j).length+2<=4294967296
   rw [Qv];omega
  ·rw [bV,Dl (n:=(j:Int)+1+1) (by omega) (by omega),Dl (n:=0-((j:Int)+1)) (by omega) (by omega),Int.zero_sub]
   rfl
  ·rw [Dl (by omega) (by omega)];omega
 ·have:j=List.length p.2.2.1:=by omega
  subst this
  rw [Cq]
theorem rJ:Sound Try.prog 144 Vn:=
 Sound.Ib Ew Bw mixed Try.func144 (by kernel_rfl) (by kernel_rfl) λx h=>GM x.1 h
abbrev rLL:CK:= .row tL 31
def zo (v:Int):List Int->Nat
 | []=>0
 |x::r=>if x>v then zo v r+1 else 0
def Ady (v:Int) (t:List Int):Option (List Int):=if zo v t=0 then none else some (Gw t ((zo v t-1:Nat):Int)::(t.set (zo v t-1) v).reverse)
def pc:List Int->Option (List Int)
 | []=>none
 |v::t=>match pc t with
  |some t'=>some (v::t')
  |none=>Ady v t
def lex:Nat->List Int->List (List Int)
 |0,_=> [[]]
 |k+1,R=>R.flatMap λv=>(lex k (R.erase v)).map (v:: ·)
theorem FT {s s':List Int} (h:pc s=some s'): ∀pre:List Int,pc (pre++s)=some (pre++s')
 | []=>h
 |v::p=>by rw [Ph,pc,FT h p];rfl
theorem Aeh {α:Type} (pre:List α) (v a:α) (t:List α):(pre++v::t).set pre.length a=pre++a::t:=by
 rw [List.set_append,Ak (by omega)];simp
inductive Run:List Int->List (List Int)->List Int->Prop where
 |one (a:List Int):Run a [a] a
 |more {a c b:List Int} {L:List (List Int)} :pc a=some c->Run c L b->Run a (a::L) b
theorem Run.cons {a b:List Int} {L:List (List Int)} (h:Run a L b) (v:Int):Run (v::a) (L.map (v:: ·)) (v::b):=by
 induction h with
 |one a=>exact .one _
 |more h3 _ ih=>exact .more (FT h3 [v]) ih
def PN:Nat->Nat
 |0=>1
 |k+1=>(k+1)*PN k
theorem DQ {α β:Type} {n:Nat} (f:α->List β): ∀(l:List α),(∀a∈l,(f a).length=n)->(l.flatMap f).length=l.length*n
 | [],_=>by simp
 |a::r,h=>by
  rw [Vw,Au,DQ f r (λb hb=>h b (Aq _ hb)),h a (by simp),Av,Nat.succ_mul]
  omega
theorem QP: ∀(k:Nat) (R:List Int),R.length=k->(lex k R).length=PN k
 |0,_,_=>rfl
 |k+1,R,hl=>by
  rw [lex,DQ (n:=PN k) _ _ (λv hv=>by rw [Bt];exact QP k _ (by rw [Xj hv];omega)),hl]
  rfl
theorem Run.head {a b:List Int} {L:List (List Int)} (h:Run a L b): ∃M,L=a::M:=by
 cases h with
 |one=>exact ⟨_,rfl⟩
 |more _ _=>exact ⟨_,rfl⟩
theorem Run.at {a b:List Int} {L:List (List Int)} (h:Run a L b): ∀j (hj:j<L.length),(∀h2:j+1<L.length,pc L[j]=some L[j+1])/\(j+1=L.length->L[j]=b):=by
 induction h with
 |one a=>
  intro j hj
  simp only [Cd] at hj
  have:j=0:=by omega
  subst this
  exact ⟨λh2=>by simp at h2,λ_=>rfl⟩
 |more h3 h4 ih=>
  intro j hj
  rcases j with _|j
  ·obtain ⟨M,hM⟩:=h4.head
   refine ⟨λh2=>?_,λh2=>?_⟩
   ·simp only [List.getElem_cons_zero,List.getElem_cons_succ]
    subst hM
    exact h3
   ·subst hM;simp at h2
  ·have:=ih j (by simpa using hj)
   refine ⟨λh2=>?_,λh2=>?_⟩
   ·simp only [List.getElem_cons_succ]
    exact this.1 (by simpa using h2)
   ·simp only [List.getElem_cons_succ]
    exact this.2 (by simpa using h2)
def Ex:List Int->List Int->Int
 | [],[]=>0
 | [],_::_=> -1
 |_::_,[]=>1
 |x::a,y::b=>if x<y then-1 else if x>y then 1 else Ex a b
def fm (a b:List Int):Bool:=decide (Ex a b<0)
noncomputable abbrev Yz:Spec:=Ib (.pair tL (.pair tL .unit)) .bool false true (λx=>short x.1/\List.length x.1=List.length x.2.1) (λx=>fm x.1 x.2.1)
theorem OR (a b:List Int) (P:Bool->Prop):(Dh (λ(v3:Int×PUnit) (k4:Int×PUnit->Prop)=>Br (decide (v3.1<(↑a.length:Int))) (∃(y5:Int),idx a v3.1=some y5/\ ∃(y6:Int),idx b v3.1=some y6/\Br (y5 !=y6) (∃(y7:Int),idx a v3.1=some y7/\ ∃(y8:Int),idx b v3.1=some y8/\P (decide (y7<y8))) (k4 (IntKind.i64.wrap (v3.1+(1:Int)),()))) (P false)) ((0:Int),PUnit.unit))=fnW Hf (look []) Yz Try.f210 (a,b,()) P:=by kernel_rfl
theorem MQ (a b:List Int) (h:short a/\a.length=b.length):fnW Hf (look []) Yz Try.f210 (a,b,()) (λ(z:Bool)=>z=fm a b):=by
 obtain ⟨ha,hb⟩:=h
 unfold short at ha
 refine Eq.mp (OR a b _) ?_
 refine Bs a.length (λv=>v.1) (λj _=>Ex (a.drop j) (b.drop j)=Ex a b) rfl (by simp) ?_
 rintro j ⟨i,⟨⟩⟩ K hj hi hR2 hK
 dsimp only at hi⊢
 subst hi
 refine Br.dec (λhl=>?_) λhl=>?_
 ·have hl:j<a.length:=by omega
  have hlb:j<b.length:=by omega
  rw [Ez hl,Ez hlb] at hR2
  simp only [Ex] at hR2
  refine ⟨_,Ck hl,_,Ck hlb,⟨λIv=>?_,λIv=>?_⟩⟩
  ·refine ⟨_,Ck hl,_,Ck hlb,?_⟩
   have Iv:a[j]≠b[j]:=by simpa using Iv
   unfold fm
   rw [<-hR2]
   by_cases h1:a[j]<b[j]
   ·rw [Ac h1];simp [h1]
   ·rw [Ak h1,Ac (by omega)];simp [h1]
  ·have Iv:a[j]=b[j]:=by simpa using Iv
   rw [Ak (by omega),Ak (by omega)] at hR2
   rw [Bk (by omega)]
   exact hK hl _ rfl hR2
 ·have:j=a.length:=by omega
  subst this
  rw [Pj,List.drop_eq_nil_of_le (by omega)] at hR2
  unfold fm
  rw [<-hR2]
  rfl
theorem uL:Sound Try.prog 210 Yz:=
 Sound.Ib Ew Bw mixed Try.func210 (by kernel_rfl) (by kernel_rfl) λx h=>MQ x.1 x.2.1 h
abbrev SS:Type:=List (List Int)×List Int×List Int×Bool×Unit
abbrev rLS:CK:= .row tL 31
abbrev rN:CK:= .row tI 3
def Gp (L:List (List Int)) (Nd:List Int) (s:List Int):Nat:=(Nd.takeWhile λi=>fm (L.getD i.toNat []) s).length
structure Hg (m:Nat) (L:List (List Int)) (Nd:List Int):Prop where
 oV:L.length<=3000
 len: ∀x∈L,x.length=m
 short:m<=20
 perm:Nd.Perm (upto L.length)
 sorted:Nd.Pairwise λi j=>fm (L.getD i.toNat []) (L.getD j.toNat [])=true
def qB (L:List (List Int)) (s:List Int):Int:=if s∈L then (L.idxOf s:Int) else-1
def Xs (Nd:List Int) (k:Nat) (x:Int):List Int:=Nd.take k++x::Nd.drop k
noncomputable abbrev fL:Spec:=Ib (.pair kx (.pair tL .unit)) tI false true (λx=>Hg (List.length x.2.1) x.1.1 x.1.2.2.1) (λx=>(Gp x.1.1 x.1.2.2.1 x.2.1:Int))
noncomputable abbrev eC:Spec:=Ib (.pair kx (.pair tL .unit)) tI false true (λx=>Hg (List.length x.2.1) x.1.1 x.1.2.2.1) (λx=>qB x.1.1 x.2.1)
noncomputable abbrev mr:MSpec:=lg [some 4,none,none] [(false,rLS),(false,rL),(false,rN),(false, .Fy .bool),(false, .Fy tL),(false, .Fy tI)] false [some 4] [rLS,rL,rN, .Fy .bool]
 (λx=>Hg (List.length x.2.2.2.2.1) x.1 x.2.2.1/\List.length x.2.1<=3000) (λx=>((x.1++ [x.2.2.2.2.1],x.2.1++ [x.2.2.2.2.2.1],Xs x.2.2.1 (Gp x.1 x.2.2.1 x.2.2.2.2.1) (List.length x.1),x.2.2.2.1,()),()))
def cX (L:List (List Int)):List Int:=(List.range L.length).foldl (λ(S:List Int) (i:Nat)=>Xs S (Gp (L.take i) S (L.getD i [])) (i:Int)) []
def Hc (g:List (List Int)) (x:List Int) (d:Int):List Int->List (List Int)->List Int->List (List Int)×List Int×Bool
 | [],L,D=>(L,D,true)
 |l::ls,L,D=>if Ai x (Az g l)∈L then Hc g x d ls L D else if L.length=3000 then (L,D,false) else Hc g x d ls (L++ [Ai x (Az g l)]) (D++ [d+1])
def Jn (g:List (List Int)) (ls:List Int):Nat->Nat->List (List Int)->List Int->List (List Int)×List Int×Bool
 |0,_,L,D=>(L,D,true)
 |f+1,k,L,D=>if k<L.length then (match Hc g (L.getD k []) (D.getD k 0) ls L D with
  |(L',D',true)=>Jn g ls f (k+1) L' D'
  |(L',D',false)=>(L',D',false)) else (L,D,true)
def Fu (g:List (List Int)) (s:List Int):List (List Int)×List Int×Bool:=Jn g (Bz g.length) 3001 0 [s] [0]
def Sd (g:List (List Int)) (s:List Int):SS:=((Fu g s).1,(Fu g s).2.1,cX (Fu g s).1,(Fu g s).2.2,())
noncomputable abbrev ko:Spec:=Ib (.pair Ma (.pair tL .unit)) kx false false (λx=>Cy x.1=true/\List.length x.2.1<=20/\ ∀y∈x.2.1,0<=y/\y<x.1.1) (λx=>Sd x.1.2.2.1 x.2.1)
abbrev RI:Type:=Int×Int×List (List Int)×List Int×List Int×Bool×PUnit
theorem Ajx (f:List (List Int)×List Int×List Int×Bool×Unit) (s:List Int) (P:Int->Prop):(Dh (λ(v3:RI) (k4:RI->Prop)=>Br (decide (v3.1<v3.2.1)) ((2:Int)≠(0:Int)/\ ∃(y5:Int),idx v3.2.2.2.2.1 (IntKind.i64.wrap ((IntKind.i64.wrap (v3.1+v3.2.1)).tdiv (2:Int)))=some y5/\ ∃(y6:List Int),idx v3.2.2.1 y5=some y6/\ ∃(y7:Bool),Yz.fn (y6,s,())=some y7/\Br y7 (k4 (IntKind.i64.wrap (IntKind.i64.wrap ((IntKind.i64.wrap (v3.1+v3.2.1)).tdiv (2:Int))+(1:Int)),v3.2.1,v3.2.2.1,v3.2.2.2.1,v3.2.2.2.2.1,v3.2.2.2.2.2.1,())) (k4 (v3.1,IntKind.i64.wrap ((IntKind.i64.wrap (v3.1+v3.2.1)).tdiv (2:Int)),v3.2.2.1,v3.2.2.2.1,v3.2.2.2.2.1,v3.2.2.2.2.2.1,()))) (P v3.1)) ((0:Int),(↑f.2.2.1.length:Int),f.1,f.2.1,f.2.2.1,f.2.2.2.1,PUnit.unit))=fnW Hf (look [(210,Yz)]) fL Try.f185 (f,s,()) P:=by kernel_rfl
theorem Abx (f:List (List Int)×List Int×List Int×Bool×Unit) (s:List Int) (P:Int->Prop):(∃(y3:Int),fL.fn ((f.1,f.2.1,f.2.2.1,f.2.2.2.1,()),s,())=some y3/\Br (decide (y3<(↑f.2.2.1.length:Int))) (∃(y4:Int),idx f.2.2.1 y3=some y4/\ ∃(y5:List Int),idx f.1 y4=some y5/\ ∃(y6:Bool),Es.fn (y5,s,())=some y6/\Br y6 (∃(y7:Int),idx f.2.2.1 y3=some y7/\P y7) (P (-1:Int))) (P (-1:Int)))=fnW Hf (look [(185,fL),(80,Es)]) eC Try.f134 (f,s,()) P:=by kernel_rfl
theorem Ajw (L:List (List Int)) (D S:List Int) (b:Bool) (s:List Int) (d:Int) (P:((List (List Int)×List Int×List Int×Bool×Unit)×Unit)->Prop):(∃(y7:Int),fL.fn ((List.take L.length (List.drop 0 L),List.take D.length (List.drop 0 D),List.take S.length (List.drop 0 S),b,()),s,())=some y7/\0=0/\S.length=S.length/\S.length+(List.take 1 (List.drop 0 [(0:Int)])).length<=Ct/\((0:Int)<=IntKind.i64.wrap (y7+(1:Int))/\IntKind.i64.wrap (y7+(1:Int))<=(↑(S++List.take 1 (List.drop 0 [(0:Int)])).length:Int)/\(↑(S++List.take 1 (List.drop 0 [(0:Int)])).length:Int)<=(↑(S++List.take 1 (List.drop 0 [(0:Int)])).length:Int))/\((0:Int)<=y7/\y7<=(↑(S++List.take 1 (List.drop 0 [(0:Int)])).length:Int)/\(↑(S++List.take 1 (List.drop 0 [(0:Int)])).length:Int)<=(↑(S++List.take 1 (List.drop 0 [(0:Int)])).length:Int))/\((0:Int)<=y7/\y7<(↑(S++List.take 1 (List.drop 0 [(0:Int)])).length:Int))/\0+y7.toNat<(Du (S++List.take 1 (List.drop 0 [(0:Int)])) (0+(IntKind.i64.wrap (y7+(1:Int))).toNat) (List.take ((↑(S++List.take 1 (List.drop 0 [(0:Int)])).length:Int).toNat-(IntKind.i64.wrap (y7+(1:Int))).toNat) (List.take ((↑(S++List.take 1 (List.drop 0 [(0:Int)])).length:Int).toNat-y7.toNat) (List.drop (0+y7.toNat) (S++List.take 1 (List.drop 0 [(0:Int)])))))).length/\0=0/\L.length=L.length/\L.length+(List.take 1 (List.drop 0 [s])).length<=Ct/\0=0/\D.length=D.length/\D.length+(List.take 1 (List.drop 0 [d])).length<=Ct/\P ((List.take (L++List.take 1 (List.drop 0 [s])).length (List.drop 0 (L++List.take 1 (List.drop 0 [s]))),List.take (D++List.take 1 (List.drop 0 [d])).length (List.drop 0 (D++List.take 1 (List.drop 0 [d]))),List.take (S++List.take 1 (List.drop 0 [(0:Int)])).length (List.drop 0 ((Du (S++List.take 1 (List.drop 0 [(0:Int)])) (0+(IntKind.i64.wrap (y7+(1:Int))).toNat) (List.take ((↑(S++List.take 1 (List.drop 0 [(0:Int)])).length:Int).toNat-(IntKind.i64.wrap (y7+(1:Int))).toNat) (List.take ((↑(S++List.take 1 (List.drop 0 [(0:Int)])).length:Int).toNat-y7.toNat) (List.drop (0+y7.toNat) (S++List.take 1 (List.drop 0 [(0:Int)])))))).set (0+y7.toNat) (↑L.length:Int))),b,()),()))=fnMW Xe (look [(185,fL)]) mr Try.f192 (L,D,S,b,s,d,()) P:=by kernel_rfl
abbrev oh:Type:=Int×Int×ByteArray×List (List Int)×Bool×Bool×List (List Int)×List Int×List Int×List (List Int)×List Int×List Int×PUnit
abbrev HW:Type:=(List (List Int)×List Int×List Int×Bool×PUnit)×PUnit
theorem Af1 (p:Int×ByteArray×List (List Int)×Unit) (s:List Int) (P:(List (List Int)×List Int×List Int×Bool×Unit)->Prop):(∃(y3:List Int),Ka.fn (s,())=some y3/\ ∃(y4:HW),mr.fn ([],[],[],false,y3,(0:Int),())=some y4/\ ∃(y5:List Int),Vn.fn ((p.1,p.2.1,p.2.2.1,()),())=some y5/\0=0/\0=([]:List Int).length/\0=0/\0=([]:List Int).length/\0=0/\0=([]:List Int).length/\0=0/\y4.1.1.length=y4.1.1.length/\0=0/\y4.1.2.1.length=y4.1.2.1.length/\0=0/\y4.1.2.2.1.length=y4.1.2.2.1.length/\Dh (λ(v6:oh) (k7:oh->Prop)=>Br (decide (v6.1<(↑v6.2.2.2.2.2.2.2.2.2.1.length:Int))) (0=0/\v6.2.2.2.2.2.2.1.length=v6.2.2.2.2.2.2.1.length/\0=0/\v6.2.2.2.2.2.2.2.1.length=v6.2.2.2.2.2.2.2.1.length/\0=0/\v6.2.2.2.2.2.2.2.2.1.length=v6.2.2.2.2.2.2.2.2.1.length/\0=0/\v6.2.2.2.2.2.2.2.2.2.1.length=v6.2.2.2.2.2.2.2.2.2.1.length/\0=0/\v6.2.2.2.2.2.2.2.2.2.2.1.length=v6.2.2.2.2.2.2.2.2.2.2.1.length/\0=0/\v6.2.2.2.2.2.2.2.2.2.2.2.1.length=v6.2.2.2.2.2.2.2.2.2.2.2.1.length/\Dh (λ(v8:oh) (k9:oh->Prop)=>Br (decide (v8.1<(↑y5.length:Int))) (((0:Int)<=v6.1/\v6.1<(↑v8.2.2.2.2.2.2.2.2.2.1.length:Int))/\ ∃(Kq:List Int),v8.2.2.2.2.2.2.2.2.2.1[0+v6.1.toNat]?=some Kq/\ ∃(Jq:Int),idx y5 v8.1=some Jq/\ ∃(He:List Int),ez.fn ((v8.2.1,v8.2.2.1,v8.2.2.2.1,()),Kq,Jq,())=some He/\ ∃(Iq:Int),eC.fn ((List.take v8.2.2.2.2.2.2.2.2.2.1.length (List.drop 0 v8.2.2.2.2.2.2.2.2.2.1),List.take v8.2.2.2.2.2.2.2.2.2.2.1.length (List.drop 0 v8.2.2.2.2.2.2.2.2.2.2.1),List.take v8.2.2.2.2.2.2.2.2.2.2.2.1.length (List.drop 0 v8.2.2.2.2.2.2.2.2.2.2.2.1),v8.2.2.2.2.2.1,()),He,())=some Iq/\Br (decide (Iq>=(0:Int))) (0=0/\v8.2.2.2.2.2.2.1.length=v8.2.2.2.2.2.2.1.length/\0=0/\v8.2.2.2.2.2.2.2.1.length=v8.2.2.2.2.2.2.2.1.length/\0=0/\v8.2.2.2.2.2.2.2.2.1.length=v8.2.2.2.2.2.2.2.2.1.length/\0=0/\v8.2.2.2.2.2.2.2.2.2.1.length=v8.2.2.2.2.2.2.2.2.2.1.length/\0=0/\v8.2.2.2.2.2.2.2.2.2.2.1.length=v8.2.2.2.2.2.2.2.2.2.2.1.length/\0=0/\v8.2.2.2.2.2.2.2.2.2.2.2.1.length=v8.2.2.2.2.2.2.2.2.2.2.2.1.length/\k9 (IntKind.i64.wrap (v8.1+(1:Int)),v8.2.1,v8.2.2.1,v8.2.2.2.1,v8.2.2.2.2.1,v8.2.2.2.2.2.1,v8.2.2.2.2.2.2.1,v8.2.2.2.2.2.2.2.1,v8.2.2.2.2.2.2.2.2.1,v8.2.2.2.2.2.2.2.2.2.1,v8.2.2.2.2.2.2.2.2.2.2.1,v8.2.2.2.2.2.2.2.2.2.2.2.1,())) (Br ((↑v8.2.2.2.2.2.2.2.2.2.1.length:Int)==(3000:Int)) (P (List.take v8.2.2.2.2.2.2.2.2.2.1.length (List.drop 0 v8.2.2.2.2.2.2.2.2.2.1),List.take v8.2.2.2.2.2.2.2.2.2.2.1.length (List.drop 0 v8.2.2.2.2.2.2.2.2.2.2.1),List.take v8.2.2.2.2.2.2.2.2.2.2.2.1.length (List.drop 0 v8.2.2.2.2.2.2.2.2.2.2.2.1),v8.2.2.2.2.2.1,())) (((0:Int)<=v6.1/\v6.1<(↑v8.2.2.2.2.2.2.2.2.2.2.1.length:Int))/\ ∃(Fq:Int),v8.2.2.2.2.2.2.2.2.2.2.1[0+v6.1.toNat]?=some Fq/\0=0/\v8.2.2.2.2.2.2.2.2.2.1.length=v8.2.2.2.2.2.2.2.2.2.1.length/\0=0/\v8.2.2.2.2.2.2.2.2.2.2.1.length=v8.2.2.2.2.2.2.2.2.2.2.1.length/\0=0/\v8.2.2.2.2.2.2.2.2.2.2.2.1.length=v8.2.2.2.2.2.2.2.2.2.2.2.1.length/\ ∃(Hx:HW),mr.fn (v8.2.2.2.2.2.2.2.2.2.1,v8.2.2.2.2.2.2.2.2.2.2.1,v8.2.2.2.2.2.2.2.2.2.2.2.1,v8.2.2.2.2.2.1,He,IntKind.i64.wrap (Fq+(1:Int)),())=some Hx/\0=0/\v8.2.2.2.2.2.2.1.length=v8.2.2.2.2.2.2.1.length/\0=0/\v8.2.2.2.2.2.2.2.1.length=v8.2.2.2.2.2.2.2.1.length/\0=0/\v8.2.2.2.2.2.2.2.2.1.length=v8.2.2.2.2.2.2.2.2.1.length/\0=0/\Hx.1.1.length=Hx.1.1.length/\0=0/\Hx.1.2.1.length=Hx.1.2.1.length/\0=0/\Hx.1.2.2.1.length=Hx.1.2.2.1.length/\k9 (IntKind.i64.wrap (v8.1+(1:Int)),v8.2.1,v8.2.2.1,v8.2.2.2.1,v8.2.2.2.2.1,Hx.1.2.2.2.1,v8.2.2.2.2.2.2.1,v8.2.2.2.2.2.2.2.1,v8.2.2.2.2.2.2.2.2.1,Hx.1.1,Hx.1.2.1,Hx.1.2.2.1,())))) (0=0/\v8.2.2.2.2.2.2.1.length=v8.2.2.2.2.2.2.1.length/\0=0/\v8.2.2.2.2.2.2.2.1.length=v8.2.2.2.2.2.2.2.1.length/\0=0/\v8.2.2.2.2.2.2.2.2.1.length=v8.2.2.2.2.2.2.2.2.1.length/\0=0/\v8.2.2.2.2.2.2.2.2.2.1.length=v8.2.2.2.2.2.2.2.2.2.1.length/\0=0/\v8.2.2.2.2.2.2.2.2.2.2.1.length=v8.2.2.2.2.2.2.2.2.2.2.1.length/\0=0/\v8.2.2.2.2.2.2.2.2.2.2.2.1.length=v8.2.2.2.2.2.2.2.2.2.2.2.1.length/\k7 (IntKind.i64.wrap (v6.1+(1:Int)),v8.2.1,v8.2.2.1,v8.2.2.2.1,v8.2.2.2.2.1,v8.2.2.2.2.2.1,v8.2.2.2.2.2.2.1,v8.2.2.2.2.2.2.2.1,v8.2.2.2.2.2.2.2.2.1,v8.2.2.2.2.2.2.2.2.2.1,v8.2.2.2.2.2.2.2.2.2.2.1,v8.2.2.2.2.2.2.2.2.2.2.2.1,()))) ((0:Int),v6.2.1,v6.2.2.1,v6.2.2.2.1,v6.2.2.2.2.1,v6.2.2.2.2.2.1,v6.2.2.2.2.2.2.1,v6.2.2.2.2.2.2.2.1,v6.2.2.2.2.2.2.2.2.1,v6.2.2.2.2.2.2.2.2.2.1,v6.2.2.2.2.2.2.2.2.2.2.1,v6.2.2.2.2.2.2.2.2.2.2.2.1,PUnit.unit)) (P (List.take v6.2.2.2.2.2.2.2.2.2.1.length (List.drop 0 v6.2.2.2.2.2.2.2.2.2.1),List.take v6.2.2.2.2.2.2.2.2.2.2.1.length (List.drop 0 v6.2.2.2.2.2.2.2.2.2.2.1),List.take v6.2.2.2.2.2.2.2.2.2.2.2.1.length (List.drop 0 v6.2.2.2.2.2.2.2.2.2.2.2.1),true,()))) ((0:Int),p.1,p.2.1,p.2.2.1,false,y4.1.2.2.2.1,[],[],[],y4.1.1,y4.1.2.1,y4.1.2.2.1,PUnit.unit))=fnW Ajo (look [(86,Ka),(192,mr),(144,Vn),(145,ez),(134,eC)]) ko Try.f153 (p,s,()) P:=by kernel_rfl
theorem sJ: ∀ {a b:List Int},Ex a b=0↔a=b
 | [],[]=>by simp [Ex]
 | [],_::_=>by simp [Ex]
 |_::_,[]=>by simp [Ex]
 |x::a,y::b=>by
  simp only [Ex,Gs]
  by_cases h1:x<y
  ·rw [Ac h1]
   exact ⟨λh=>by omega,λh=>by omega⟩
  ·rw [Ak h1]
   by_cases h2:x>y
   ·rw [Ac h2]
    exact ⟨λh=>by omega,λh=>by omega⟩
   ·rw [Ak h2,sJ]
    exact ⟨λh=>⟨by omega,h⟩,λh=>h.2⟩
theorem PI: ∀(a b:List Int),Ex b a= -Ex a b
 | [],[]=>by simp [Ex]
 | [],_::_=>by simp [Ex]
 |_::_,[]=>by simp [Ex]
 |x::a,y::b=>by
  simp only [Ex]
  rcases Int.lt_trichotomy x y with h1|h1|h1
  ·simp [h1,show ¬y<x by omega]
  ·subst h1
   simp [PI a b]
  ·simp [h1,show ¬x<y by omega]
theorem x4: ∀ {a b c:List Int},Ex a b<0->Ex b c<0->Ex a c<0
 | [],[],_,h,_=>by simp [Ex] at h
 |_::_,[],_,h,_=>by simp [Ex] at h
 |_,_::_,[],_,h=>by simp [Ex] at h
 | [],_::_,_::_,_,_=>by simp [Ex]
 |x::a,y::b,z::c,h1,h2=>by
  simp only [Ex] at h1 h2⊢
  by_cases e1:x<y
  ·by_cases e2:y<z
   ·rw [Ac (by omega)];omega
   ·rw [Ak e2] at h2
    by_cases e3:y>z
    ·rw [Ac e3] at h2;omega
    ·rw [Ac (by omega)];omega
  ·rw [Ak e1] at h1
   by_cases e2:x>y
   ·rw [Ac e2] at h1;omega
   ·rw [Ak e2] at h1
    by_cases e3:y<z
    ·rw [Ac (by omega)];omega
    ·rw [Ak e3] at h2
     by_cases e4:y>z
     ·rw [Ac e4] at h2;omega
     ·rw [Ak e4] at h2
      rw [Ak (by omega),Ak (by omega)]
      exact x4 h1 h2
theorem lt_iff {a b:List Int} :fm a b=true↔Ex a b<0:=Mc
theorem TH {a b c:List Int} (h1:fm a b=true) (h2:fm b c=true):fm a c=true:=lt_iff.2 (x4 (lt_iff.1 h1) (lt_iff.1 h2))
theorem mc (a:List Int):fm a a=false:=by
 have:Ex a a=0:=sJ.2 rfl
 unfold fm;rw [this];rfl
theorem ZR {a b:List Int} (h:fm a b=false) (Iv:a≠b):fm b a=true:=by
 rw [lt_iff,PI a b]
 have h1: ¬Ex a b<0:= λh'=>by rw [lt_iff.2 h'] at h;cases h
 have h2:Ex a b≠0:= λh'=>Iv (sJ.1 h')
 omega
theorem ly {α:Type} (q:α->Bool): ∀(l:List α),l.Pairwise (λi j=>q j=true->q i=true)-> ∀k (hk:k<l.length),k<(l.takeWhile q).length↔q l[k]=true
 | [],_,k,hk=>by simp at hk
 |a::l,h,k,hk=>by
  obtain ⟨h1,h2⟩:=List.pairwise_cons.1 h
  by_cases ha:q a=true
  ·rw [List.takeWhile_cons_of_pos ha]
   rcases k with _|k
   ·simpa using ha
   ·simp only [Av,List.getElem_cons_succ,Nat.add_lt_add_iff_right]
    exact ly q l h2 k (by simpa using hk)
  ·rw [List.takeWhile_cons_of_neg ha]
   simp only [Fg,Ec,false_iff]
   rcases k with _|k
   ·exact ha
   ·simp only [List.getElem_cons_succ]
    exact λhq=>ha (h1 _ (Al _) hq)
theorem Hg.tN {m:Nat} {L:List (List Int)} {Nd:List Int} (h:Hg m L Nd):Nd.length=L.length:=by rw [h.perm.length_eq,Kb]
theorem Hg.idx {m:Nat} {L:List (List Int)} {Nd:List Int} (h:Hg m L Nd) {k:Nat} (hk:k<Nd.length):0<=Nd[k]/\Nd[k]<L.length:=Ms.1 (h.perm.mem_iff.1 (Al hk))
theorem Hg.eE {m:Nat} {L:List (List Int)} {Nd:List Int} (h:Hg m L Nd) (s:List Int) {k:Nat} (hk:k<Nd.length):k<Gp L Nd s↔fm (L.getD Nd[k].toNat []) s=true:=
 ly _ Nd (h.sorted.imp λjV hj=>TH jV hj) k hk
theorem RE (L:List (List Int)) (Nd s:List Int):Gp L Nd s<=Nd.length:=(List.takeWhile_sublist _).length_le
theorem Hg.inj {m:Nat} {L:List (List Int)} {Nd:List Int} (h:Hg m L Nd) {i j:Nat} (hi:i<L.length) (hj:j<L.length) (e:L[i]=L[j]):i=j:=by
 have mem: ∀i,i<L.length->(i:Int)∈Nd:= λi hi=>h.perm.mem_iff.2 (Ms.2 ⟨by omega,by omega⟩)
 obtain ⟨p,hp,ep⟩:=Bf.1 (mem i hi)
 obtain ⟨q,hq,eq⟩:=Bf.1 (mem j hj)
 have get: ∀i (hi:i<L.length),L.getD ((i:Int)).toNat []=L[i]:= λi hi=>by rw [Aj,Ah,Ab hi];rfl
 rcases Nat.lt_trichotomy p q with h1|h1|h1
 ·have:=Dp.1 h.sorted p q hp hq h1
  rw [ep,eq,get i hi,get j hj,e,mc] at this
  cases this
 ·subst h1
  rw [ep] at eq
  omega
 ·have:=Dp.1 h.sorted q p hq hp h1
  rw [ep,eq,get i hi,get j hj,e,mc] at this
  cases this
theorem Tz {L:List (List Int)} {k:Nat} (h:k<L.length):L.getD k []=L[k]:=by rw [Ah,Ab h];rfl
theorem Hg.yB {m:Nat} {L:List (List Int)} {Nd:List Int} (h:Hg m L Nd) {s:List Int} :
  (∃hk:Gp L Nd s<Nd.length,L.getD Nd[Gp L Nd s].toNat []=s/\qB L s=Nd[Gp L Nd s])\/(qB L s= -1/\ ∀hk:Gp L Nd s<Nd.length,L.getD Nd[Gp L Nd s].toNat []≠s):=by
 by_cases hm:s∈L
 ·left
  obtain ⟨j,hj,rfl⟩:=Bf.1 hm
  obtain ⟨p,hp,ep⟩:=Bf.1 (h.perm.mem_iff.2 (Ms.2 ⟨by omega,by omega⟩):(j:Int)∈Nd)
  have gj:L.getD Nd[p].toNat []=L[j]:=by rw [ep,Aj,Tz hj]
  have hs:Gp L Nd L[j]=p:=by
   have h1: ¬p<Gp L Nd L[j]:= λh1=>by
    have:=(h.eE L[j] hp).1 h1
    rw [gj,mc] at this;cases this
   have h2: ¬Gp L Nd L[j]<p:= λh2=>by
    have h3:=(h.eE L[j] (k:=Gp L Nd L[j]) (by omega)).2 (by
     have:=Dp.1 h.sorted (Gp L Nd L[j]) p (by omega) hp h2
     rw [gj] at this;exact this)
    omega
   omega
  have hx:L.idxOf L[j]=j:=by
   have h1:L.idxOf L[j]<L.length:=List.idxOf_lt_length_of_mem hm
   exact h.inj h1 hj (List.getElem_idxOf h1)
  refine ⟨by omega,?_,?_⟩
  ·simp only [hs];exact gj
  ·unfold qB
   rw [Ac hm,hx]
   simp only [hs];exact ep.symm
 ·right
  refine ⟨by unfold qB;rw [Ak hm],λhk e=>hm ?_⟩
  have hi:=h.idx hk
  rw [Tz (by omega)] at e
  rw [<-e]
  exact Al _
theorem ZE (Nd:List Int) (k:Nat) (x:Int):(Xs Nd k x).Perm (x::Nd):=by
 unfold Xs
 refine List.perm_middle.trans (List.Perm.cons x ?_)
 rw [Ik]
theorem Hg.add {m:Nat} {L:List (List Int)} {Nd s:List Int} (h:Hg m L Nd) (hn:s∉L) (hl:s.length=m) (hr:L.length<3000):Hg m (L++ [s]) (Xs Nd (Gp L Nd s) L.length):=by
 have DW: ∀i∈Nd,(L++ [s]).getD i.toNat []=L.getD i.toNat []:= λi hi=>by
  have:=Ms.1 (h.perm.mem_iff.1 hi)
  rw [Ah,Ah,As (by omega)]
 have Aku:(L++ [s]).getD ((L.length:Int)).toNat []=s:=by
  rw [Aj,Ah,Ar (by omega),Nat.sub_self];rfl
 refine ⟨by rw [Au,Cd];omega,λx hx=>?_,h.short,?_,?_⟩
 ·rcases Ax.1 hx with hx|hx
  ·exact h.len x hx
  ·rw [Ad.1 hx];exact hl
 ·refine (ZE _ _ _).trans ?_
  rw [Au,Cd,Ze]
  exact (List.Perm.cons _ h.perm).trans (List.perm_append_singleton _ _).symm
 ·unfold Xs
  have hs:=h.sorted
  rw [<-Ik (Gp L Nd s) Nd] at hs
  obtain ⟨s1,s2,s3⟩:=List.pairwise_append.1 hs
  have mt: ∀i∈Nd.take (Gp L Nd s),i∈Nd/\fm (L.getD i.toNat []) s=true:= λi hi=>by
   obtain ⟨k,hk,rfl⟩:=Bf.1 hi
   have YH:k<Gp L Nd s:=by rw [Db] at hk;omega
   have hk3:k<Nd.length:=by rw [Db] at hk;omega
   rw [List.getElem_take]
   exact ⟨Al _,(h.eE s hk3).1 YH⟩
  have md: ∀i∈Nd.drop (Gp L Nd s),i∈Nd/\fm s (L.getD i.toNat [])=true:= λi hi=>by
   obtain ⟨k,hk,rfl⟩:=Bf.1 hi
   rw [List.length_drop] at hk
   have hk3:Gp L Nd s+k<Nd.length:=by omega
   rw [List.getElem_drop]
   refine ⟨Al _,ZR ?_ λe=>hn ?_⟩
   ·exact Vv.2 λhh=>by
     have:=(h.eE s hk3).2 hh
     omega
   ·have hi:=h.idx hk3
    rw [Tz (by omega)] at e
    rw [<-e];exact Al _
  refine List.pairwise_append.2 ⟨s1.imp_of_mem λ {a b} ha hb vK=>?_,List.pairwise_cons.2 ⟨λb hb=>?_,s2.imp_of_mem λ {a b} ha hb vK=>?_⟩,λa ha b hb=>?_⟩
  ·rw [DW a (mt a ha).1,DW b (mt b hb).1];exact vK
  ·rw [Aku,DW b (md b hb).1];exact (md b hb).2
  ·rw [DW a (md a ha).1,DW b (md b hb).1];exact vK
  ·rcases Bc.1 hb with rfl|hb
   ·rw [Aku,DW a (mt a ha).1];exact (mt a ha).2
   ·rw [DW a (mt a ha).1,DW b (md b hb).1];exact s3 a ha b hb
theorem fN (L:List (List Int)) (s:List Int):cX (L++ [s])=Xs (cX L) (Gp L (cX L) s) L.length:=by
 unfold cX
 rw [Au,Cd,bb,Rc]
 have e: ∀(is:List Nat) (S:List Int),(∀i∈is,i<L.length)->is.foldl (λ(S:List Int) (i:Nat)=>Xs S (Gp ((L++ [s]).take i) S ((L++ [s]).getD i [])) (i:Int)) S=is.foldl (λ(S:List Int) (i:Nat)=>Xs S (Gp (L.take i) S (L.getD i [])) (i:Int)) S:=by
  intro is
  induction is with
  |nil=>intro S _;rfl
  |cons i is ih=>
   intro S h
   have hi:=h i (by simp)
   rw [Jj,Jj,ih _ λj hj=>h j (Aq _ hj)]
   congr 2
   rw [List.take_append_of_le_length (by omega),Ah,As hi,<-Ah]
 rw [e _ _ λi hi=>Dn.1 hi]
 simp only [Jj,List.foldl_nil]
 congr 2
 ·rw [List.take_append_of_le_length (Ap _),Aw]
 ·rw [Ah,Ar (by omega),Nat.sub_self];rfl
theorem nZ {m:Nat} (h:m<=20):Hg m [] []:=⟨by simp,λx hx=>(by cases hx),h,by simp [upto],List.Pairwise.nil⟩
theorem ZC {α:Type} {xs:List α} {y:Int} (h0:0<=y) (h:y.toNat<xs.length):idx xs y=some xs[y.toNat]:=by
 unfold idx
 rw [Ac h0,Ab h]
theorem Aj8 (f:SS) (s:List Int) (h:Hg s.length f.1 f.2.2.1):fnW Hf (look [(210,Yz)]) fL Try.f185 (f,s,()) (λ(z:Int)=>z=(Gp f.1 f.2.2.1 s:Int)):=by
 obtain ⟨L,D,Nd,b,⟨⟩⟩:=f
 dsimp only at h⊢
 have hle:=RE L Nd s
 have CA:=h.tN
 have nt:=h.oV
 refine Eq.mp (Ajx (L,D,Nd,b,()) s _) ?_
 refine Dh.mk (λv=>v.2.2.1=L/\v.2.2.2.2.1=Nd/\ ∃lo hi:Nat,v.1=lo/\v.2.1=hi/\lo<=hi/\hi<=Nd.length/\lo<=Gp L Nd s/\Gp L Nd s<=hi) (λv=>(v.2.1-v.1).toNat)
  ⟨rfl,rfl,0,Nd.length,rfl,rfl,by omega,by omega,by omega,hle⟩ ?_
 rintro ⟨lo',l5,L',D',VD,b',⟨⟩⟩ ⟨h1,h2,lo,hi,h3,h4,h5,h6,h7,h8⟩
 dsimp only at h1 h2 h3 h4⊢
 subst h1 h2 h3 h4
 refine Br.dec (λhl=>?_) λhl=>?_
 ·have em:IntKind.i64.wrap ((IntKind.i64.wrap ((lo:Int)+(hi:Int))).tdiv 2)=(((lo+hi)/2:Nat):Int):=by
   rw [Dl (n:=(lo:Int)+(hi:Int)) (by omega) (by omega),Int.tdiv_eq_ediv_of_nonneg (by omega),Dl (by omega) (by omega)]
   omega
  rw [em]
  have hm1:(lo+hi)/2<VD.length:=by omega
  have hi1:=h.idx hm1
  have hi2:VD[(lo+hi)/2].toNat<L'.length:=by omega
  have hgd:=Tz hi2
  have hlen:=h.len _ (Al hi2)
  have JH:short L'[VD[(lo+hi)/2].toNat]:=by
   unfold short
   have:=h.short;omega
  refine ⟨by decide,_,Ck hm1,_,ZC hi1.1 hi2,_,Ac ⟨JH,hlen⟩,⟨λhc=>?_,λhc=>?_⟩⟩
  ·have hc:fm L'[VD[(lo+hi)/2].toNat] s=true:=hc
   have hs:=(h.eE s hm1).2 (by rw [hgd];exact hc)
   rw [Bk (by omega)]
   exact ⟨⟨rfl,rfl,(lo+hi)/2+1,hi,rfl,rfl,by omega,h6,by omega,h8⟩,by omega⟩
  ·have hc:fm L'[VD[(lo+hi)/2].toNat] s=false:=hc
   have hs: ¬(lo+hi)/2<Gp L' VD s:= λhh=>by
    have:=(h.eE s hm1).1 hh
    rw [hgd,hc] at this;cases this
   exact ⟨⟨rfl,rfl,lo,(lo+hi)/2,rfl,rfl,by omega,by omega,h7,by omega⟩,by omega⟩
 ·show (lo:Int)=_
  omega
theorem uN:Sound Try.prog 185 fL:=
 Sound.Ib Ew (Bd uL Bw) mixed Try.func185 (by kernel_rfl) (by kernel_rfl) λx h=>Aj8 x.1 x.2.1 h
theorem Aad (f:SS) (s:List Int) (h:Hg s.length f.1 f.2.2.1):fnW Hf (look [(185,fL),(80,Es)]) eC Try.f134 (f,s,()) (λ(z:Int)=>z=qB f.1 s):=by
 obtain ⟨L,D,Nd,b,⟨⟩⟩:=f
 dsimp only at h⊢
 refine Eq.mp (Abx (L,D,Nd,b,()) s _) ⟨_,Ac h,Br.dec (λhl=>?_) λhl=>?_⟩
 ·have hl:Gp L Nd s<Nd.length:=by
   have hl:((Gp L Nd s:Nat):Int)<(Nd.length:Int):=hl
   omega
  have hi1:=h.idx hl
  have hi2:Nd[Gp L Nd s].toNat<L.length:=by omega
  have hgd:=Tz hi2
  have hlen:=h.len _ (Al hi2)
  have JH:short L[Nd[Gp L Nd s].toNat]:=by
   unfold short
   have:=h.short;omega
  refine ⟨_,Ck hl,_,ZC hi1.1 hi2,_,Ac JH,⟨λhc=>⟨_,Ck hl,?_⟩,λhc=>?_⟩⟩
  ·have hc:L[Nd[Gp L Nd s].toNat]=s:=Lg hc
   rcases h.yB (s:=s) with ⟨hk,_,e⟩|⟨_,Iv⟩
   ·exact e.symm
   ·exact absurd (by rw [hgd];exact hc) (Iv hl)
  ·have hc: ¬L[Nd[Gp L Nd s].toNat]=s:=of_decide_eq_false hc
   rcases h.yB (s:=s) with ⟨hk,e,_⟩|⟨e,_⟩
   ·rw [hgd] at e;exact absurd e hc
   ·exact e.symm
 ·have hl: ¬Gp L Nd s<Nd.length:=by
   have hl: ¬((Gp L Nd s:Nat):Int)<(Nd.length:Int):=hl
   omega
  rcases h.yB (s:=s) with ⟨hk,e,_⟩|⟨e,_⟩
  ·exact absurd hk hl
  ·exact e.symm
theorem AL:Sound Try.prog 134 eC:=
 Sound.Ib Ew (Bd uN (Bd rD Bw)) mixed Try.func134 (by kernel_rfl) (by kernel_rfl) λx h=>Aad x.1 x.2.1 h
theorem LG {S:List Int} {k:Nat} (h:k<=S.length) (n:Int):
  (Du (S++ [0]) (k+1) (List.take ((S++ [0]).length-(k+1)) (List.take ((S++ [0]).length-k) (List.drop k (S++ [0]))))).set k n=Xs S k n:=by
 obtain ⟨A,B,rfl,hA⟩: ∃A B,S=A++B/\A.length=k:=⟨S.take k,S.drop k,(Ik k S).symm,by rw [Db];omega⟩
 subst hA
 have e1:List.drop A.length (A++B++ [0])=B++ [0]:=by rw [Cs,List.drop_left]
 have e2:List.take ((A++B++ [0]).length-A.length) (B++ [0])=B++ [0]:=List.take_of_length_le (by simp only [Au,Cd];omega)
 have e3:List.take ((A++B++ [0]).length-(A.length+1)) (B++ [0])=B:=by
  have:(A++B++ [(0:Int)]).length-(A.length+1)=B.length:=by simp only [Au,Cd];omega
  rw [this,List.take_left]
 rw [e1,e2,e3]
 unfold Du Xs
 have e4:List.drop (A.length+1+B.length) (A++B++ [0])= []:=List.drop_eq_nil_of_le (by simp only [Au,Cd];omega)
 obtain ⟨c,hc⟩: ∃c,List.take (A.length+1) (A++B++ [0])=A++ [c]:=by
  rw [Cs,List.take_append,List.take_of_length_le (by omega)]
  cases B with
  |nil=>exact ⟨0,by simp⟩
  |cons b B=>exact ⟨b,by simp⟩
 rw [e4,hc,List.append_nil,Cs,List.singleton_append,Aeh,List.take_left,List.drop_left]
theorem Aj7 (L:List (List Int)) (D S:List Int) (b:Bool) (s:List Int) (d:Int) (h:Hg s.length L S/\D.length<=3000):
  fnMW Xe (look [(185,fL)]) mr Try.f192 (L,D,S,b,s,d,()) (λ(z:(List (List Int)×List Int×List Int×Bool×Unit)×Unit)=>z=((L++ [s],D++ [d],Xs S (Gp L S s) L.length,b,()),())):=by
 obtain ⟨h,hD⟩:=h
 have hle:=RE L S s
 have CA:=h.tN
 have nt:=h.oV
 refine Eq.mp (Ajw L D S b s d _) ?_
 rw [Cq L,Cq D,Cq S]
 refine ⟨_,Ac h,?_⟩
 dsimp only
 have es:List.take 1 (List.drop 0 [(0:Int)])= [0]:=rfl
 have el:(S++ [(0:Int)]).length=S.length+1:=by simp
 rw [es,Bk (by omega),Bo,Bo,Aj,Aj,Aj]
 refine ⟨rfl,rfl,by show S.length+1<=4294967296;omega,⟨by omega,by omega,by omega⟩,⟨by omega,by omega,by omega⟩,⟨by omega,by omega⟩,?_,rfl,rfl,by show L.length+1<=4294967296;omega,rfl,rfl,by show D.length+1<=4294967296;omega,?_⟩
 ·unfold Du
  simp only [Au,Db,List.length_drop,Cd]
  omega
 ·rw [LG hle,Cq,Cq]
  have e5:List.take (S++ [(0:Int)]).length (List.drop 0 (Xs S (Gp L S s) (L.length:Int)))=Xs S (Gp L S s) (L.length:Int):=by
   rw [Dj,List.take_of_length_le]
   unfold Xs
   simp only [Au,Av,Db,List.length_drop,Fg]
   omega
  rw [e5]
  rfl
theorem NU:Cn Try.prog 192 mr:=
 Cn.lg Uy (Bd uN Bw) mixed Try.func192 (by kernel_rfl) (by kernel_rfl) λx h=>Aj7 x.1 x.2.1 x.2.2.1 x.2.2.2.1 x.2.2.2.2.1 x.2.2.2.2.2.1 h
structure Tb (p:PP) (m:Nat) (L:List (List Int)) (D:List Int):Prop where
 ok:Hg m L (cX L)
 len:D.length=L.length
 row: ∀x∈L,∀y∈x,0<=y/\y<p.1
 dep: ∀j (h:j<D.length),0<=D[j]/\D[j]<=j
theorem nP {p:PP} (hv:Valid p) {x:List Int} {l:Int} (hx: ∀y∈x,0<=y/\y<p.1) (hl:La (List.length p.2.2.1) l):
  (Ai x (Az p.2.2.1 l)).length=x.length/\ ∀y∈Ai x (Az p.2.2.1 l),0<=y/\y<p.1:=by
 obtain ⟨h1,h2⟩:=jY hv hl
 refine ⟨Pl _ _,λy hy=>?_⟩
 have:=DD (n:=(Az p.2.2.1 l).length) (λz hz=>by have:=hx z hz;omega) h2 y hy
 omega
theorem Tb.add {p:PP} {m:Nat} {L:List (List Int)} {D:List Int} (h:Tb p m L D) {y:List Int} {d:Int} (hn:y∉L) (hl:y.length=m) (hr:L.length<3000) (hy: ∀z∈y,0<=z/\z<p.1) (hd:0<=d/\d<=L.length):Tb p m (L++ [y]) (D++ [d]):=by
 have hlen:=h.len
 refine ⟨by rw [fN];exact h.ok.add hn hl hr,by simp [hlen],λx hx=>?_,λj hj=>?_⟩
 ·rcases Ax.1 hx with hx|hx
  ·exact h.row x hx
  ·rw [Ad.1 hx];exact hy
 ·by_cases e:j<D.length
  ·rw [Ln e];exact h.dep j e
  ·simp only [Au,Cd] at hj
   have:j=D.length:=by omega
   subst this
   rw [List.getElem_append_right (by omega)]
   simp only [Nat.sub_self,List.getElem_cons_zero]
   omega
theorem dK {p:PP} {s:List Int} (hs:s.length<=20) (hr: ∀y∈s,0<=y/\y<p.1):Tb p s.length [s] [0]:=by
 refine ⟨?_,rfl,λx hx=>by rw [Ad.1 hx];exact hr,λj hj=>?_⟩
 ·have:=(nZ hs).add (s:=s) (by simp) rfl (by simp)
  have e:cX [s]=Xs [] (Gp [] [] s) 0:=fN [] s
  rw [e];exact this
 ·simp only [Cd] at hj
  have:j=0:=by omega
  subst this
  simp
theorem xA {L:List (List Int)} {s:List Int} :qB L s>=0↔s∈L:=by
 unfold qB
 split
 ·rename_i h;exact ⟨λ_=>h,λ_=>by omega⟩
 ·rename_i h;exact ⟨λhh=>by omega,λhh=>absurd hh h⟩
theorem Aec (p:PP) (s:List Int) (h:Cy p=true/\s.length<=20/\ ∀y∈s,0<=y/\y<p.1):fnW Ajo (look [(86,Ka),(192,mr),(144,Vn),(145,ez),(134,eC)]) ko Try.f153 (p,s,()) (λ(z:SS)=>z=Sd p.2.2.1 s):=by
 obtain ⟨hv,hs,hr⟩:=h
 have hV:=valid hv
 have nt:=hV.oV
 have hb0:=dK hs hr
 have JH:short s:=by unfold short;omega
 obtain ⟨ls,rk⟩: ∃ls,Bz (List.length p.2.2.1)=ls:=⟨_,rfl⟩
 refine Eq.mp (Af1 p s _) ⟨_,Ac JH,_,Ac ⟨nZ hs,by show 0<=3000;omega⟩,ls,(Ac (by show List.length p.2.2.1<=8;exact nt.2)).trans (Gc some rk),rfl,rfl,rfl,rfl,rfl,rfl,rfl,rfl,rfl,rfl,rfl,rfl,?_⟩
 have e0:Xs [] (Gp [] [] s) ((([]:List (List Int)).length:Nat):Int)=cX [s]:=(fN [] s).symm
 show Dh _ ((0:Int),p.1,p.2.1,p.2.2.1,false,false,[],[],[],[s],[(0:Int)],Xs [] (Gp [] [] s) ((([]:List (List Int)).length:Nat):Int),PUnit.unit)
 rw [e0]
 have SN:ls.length<=16:=by rw [<-rk,Qv];omega
 have nw: ∀l∈ls,La (List.length p.2.2.1) l:= λl hl=>Md (rk▸hl)
 have tA:Jn p.2.2.1 ls 3001 0 [s] [0]=Fu p.2.2.1 s:=by unfold Fu;rw [rk]
 refine Dh.mk (λv=>v.2.1=p.1/\v.2.2.1=p.2.1/\v.2.2.2.1=p.2.2.1/\v.2.2.2.2.2.1=false/\ ∃k:Nat,v.1=k/\k<=v.2.2.2.2.2.2.2.2.2.1.length/\
   Tb p s.length v.2.2.2.2.2.2.2.2.2.1 v.2.2.2.2.2.2.2.2.2.2.1/\v.2.2.2.2.2.2.2.2.2.2.2.1=cX v.2.2.2.2.2.2.2.2.2.1/\
   Jn p.2.2.1 ls (3001-k) k v.2.2.2.2.2.2.2.2.2.1 v.2.2.2.2.2.2.2.2.2.2.1=Fu p.2.2.1 s) (λv=>3001-v.1.toNat)
  ⟨rfl,rfl,rfl,rfl,0,rfl,by simp,hb0,rfl,tA⟩ ?_
 rintro ⟨k',n1,n2,n3,b0,wh,x1,x2,x3,L0,D0,S0,⟨⟩⟩ ⟨h1,h2,h3,h4,k,h5,h6,h7,h8,h9⟩
 dsimp only at h1 h2 h3 h4 h5 h6 h7 h8 h9
 subst h1 h2 h3 h4 h5 h8
 dsimp only
 have XV:=h7.ok.oV
 have hD0:=h7.len
 refine Br.dec (λhl=>⟨rfl,rfl,rfl,rfl,rfl,rfl,rfl,rfl,rfl,rfl,rfl,rfl,?_⟩) λhl=>?_
 ·have hk:k<L0.length:=by omega
  have EG:k<D0.length:=by omega
  have hx: ∀y∈L0[k],0<=y/\y<p.1:=h7.row _ (Al hk)
  have hxl:L0[k].length=s.length:=h7.ok.len _ (Al hk)
  have hdk:=h7.dep k EG
  obtain ⟨f,hf⟩: ∃f,3001-k=f+1:=⟨3000-k,by omega⟩
  have hgo: ∀L' D' ok,Hc p.2.2.1 L0[k] D0[k] ls L0 D0=(L',D',ok)->Fu p.2.2.1 s=if ok=true then Jn p.2.2.1 ls f (k+1) L' D' else (L',D',false):=by
   intro L' D' ok he
   rw [<-h9,hf,Jn,Ac hk,Tz hk,Ah,Ab EG]
   simp only [Bp]
   rw [he]
   cases ok<;>rfl
  refine Dh.mk (λv=>v.2.1=p.1/\v.2.2.1=p.2.1/\v.2.2.2.1=p.2.2.1/\v.2.2.2.2.2.1=false/\ ∃i:Nat,v.1=i/\i<=ls.length/\Tb p s.length v.2.2.2.2.2.2.2.2.2.1 v.2.2.2.2.2.2.2.2.2.2.1/\
    v.2.2.2.2.2.2.2.2.2.2.2.1=cX v.2.2.2.2.2.2.2.2.2.1/\(∃A,v.2.2.2.2.2.2.2.2.2.1=L0++A)/\(∃A,v.2.2.2.2.2.2.2.2.2.2.1=D0++A)/\
    Hc p.2.2.1 L0[k] D0[k] (ls.drop i) v.2.2.2.2.2.2.2.2.2.1 v.2.2.2.2.2.2.2.2.2.2.1=Hc p.2.2.1 L0[k] D0[k] ls L0 D0) (λv=>ls.length-v.1.toNat)
   ⟨rfl,rfl,rfl,rfl,0,rfl,Ja _,h7,rfl,⟨[],by simp⟩,⟨[],by simp⟩,rfl⟩ ?_
  rintro ⟨i',m1,m2,m3,b1,wh1,y1,y2,y3,L,D,S,⟨⟩⟩ ⟨g1,g2,g3,g4,i,g5,g6,g7,g8,⟨A,g9⟩,⟨A',g10⟩,ri⟩
  dsimp only at g1 g2 g3 g4 g5 g6 g7 g8 g9 g10 ri
  subst g1 g2 g3 g4 g5 g8
  dsimp only
  have hLf:=g7.ok.oV
  have hDl:=g7.len
  rw [Cq L,Cq D,Cq (cX L)]
  refine Br.dec (λhli=>?_) λhli=>?_
  ·have hi:i<ls.length:=by omega
   have YJ:k<L.length:=by rw [g9,Au];omega
   have hLk:L[k]=L0[k]:=by simp only [g9];exact Ln hk
   have YI:k<D.length:=by rw [hDl];exact YJ
   have hDk:D[k]=D0[k]:=by simp only [g10];exact Ln EG
   have yZ:=nw _ (Al hi)
   obtain ⟨nl,nr⟩:=nP hV hx yZ
   rw [Ez hi] at ri
   simp only [Hc] at ri
   refine ⟨⟨by omega,by omega⟩,L0[k],by rw [Aj,Bo,Ab YJ,hLk],_,Ck hi,_,Ac ⟨hv,by show L0[k].length<=20;omega,hx,yZ⟩,?_⟩
   dsimp only
   have hyl:(Ai L0[k] (Az p.2.2.1 ls[i])).length=s.length:=by rw [nl,hxl]
   refine ⟨_,Ac (by show Hg (Ai L0[k] (Az p.2.2.1 ls[i])).length L (cX L);rw [hyl];exact g7.ok),Br.dec (λXm=>?_) λXm=>?_⟩
   ·have Xm:Ai L0[k] (Az p.2.2.1 ls[i])∈L:=xA.1 Xm
    rw [Ac Xm] at ri
    rw [Bk (by omega)]
    exact ⟨rfl,rfl,rfl,rfl,rfl,rfl,rfl,rfl,rfl,rfl,rfl,rfl,⟨rfl,rfl,rfl,rfl,i+1,rfl,hi,g7,rfl,⟨A,g9⟩,⟨A',g10⟩,ri⟩,by omega⟩
   ·have Xm:Ai L0[k] (Az p.2.2.1 ls[i])∉L:= λhh=>Xm (xA.2 hh)
    rw [Ak Xm] at ri
    refine ⟨λVe=>?_,λVe=>⟨⟨by omega,by omega⟩,D0[k],by rw [Aj,Bo,Ab YI,hDk],rfl,rfl,rfl,rfl,rfl,rfl,?_⟩⟩
    ·have Ve:L.length=3000:=by
      have:(L.length:Int)=3000:=by simpa using Ve
      omega
     rw [Ac Ve] at ri
     have:=hgo _ _ _ ri.symm
     rw [Ak (by decide)] at this
     unfold Sd
     rw [this]
    ·have Ve:L.length≠3000:=by
      have:(L.length:Int)≠3000:=by simpa using Ve
      omega
     rw [Ak Ve] at ri
     rw [Dl (n:=D0[k]+1) (by omega) (by omega)]
     refine ⟨_,Ac ⟨by show Hg (Ai L0[k] (Az p.2.2.1 ls[i])).length L (cX L);rw [hyl];exact g7.ok,by show D.length<=3000;omega⟩,?_⟩
     dsimp only
     rw [Bk (by omega),<-fN]
     refine ⟨rfl,rfl,rfl,rfl,rfl,rfl,rfl,rfl,rfl,rfl,rfl,rfl,⟨rfl,rfl,rfl,rfl,i+1,rfl,hi,g7.add Xm hyl (by omega) nr ⟨by omega,by omega⟩,rfl,⟨A++ [Ai L0[k] (Az p.2.2.1 ls[i])],by rw [g9,Cs]⟩,⟨A'++ [D0[k]+1],by rw [g10,Cs]⟩,ri⟩,by omega⟩
  ·have:i=ls.length:=by omega
   subst this
   rw [Pj,Hc] at ri
   have:=hgo _ _ _ ri.symm
   rw [Ac rfl] at this
   rw [Bk (by omega)]
   refine ⟨rfl,rfl,rfl,rfl,rfl,rfl,rfl,rfl,rfl,rfl,rfl,rfl,⟨rfl,rfl,rfl,rfl,k+1,rfl,by rw [g9,Au];omega,g7,rfl,?_⟩,by omega⟩
   rw [show 3001-(k+1)=f by omega]
   exact this.symm
 ·have hk:k=L0.length:=by omega
  rw [Cq L0,Cq D0,Cq (cX L0)]
  obtain ⟨f,hf⟩: ∃f,3001-k=f+1:=⟨3000-k,by omega⟩
  rw [hf,Jn,Ak (by omega)] at h9
  unfold Sd
  rw [<-h9]
theorem HN:Sound Try.prog 153 ko:=
 Sound.Ib Ajp (Bd Wz (Ft NU (Bd rJ (Bd AF (Bd AL Bw))))) mixed Try.func153 (by kernel_rfl) (by kernel_rfl) λx h=>Aec x.1 x.2.1 h
noncomputable def El (p:PP) (t:List Int):Bool:=Cy p&&Pq p.1 t
noncomputable def Fm (p:PP) (t:List Int):Bool:=El p t&&(Fu p.2.2.1 t).2.2
noncomputable abbrev Jh:Spec:=Ib (.pair Ma (.pair tL .unit)) .bool false true (λx=>Hv x.1/\short x.2.1) (λx=>El x.1 x.2.1)
noncomputable def Pr (p:PP) (t:List Int):SS:=if El p t=true then Sd p.2.2.1 t else ([],[],[],false,())
noncomputable abbrev Vo:Spec:=Ib (.pair Ma (.pair tL .unit)) (.pair kx (.pair .bool .unit)) true false (λx=>Hv x.1/\short x.2.1) (λx=>(Pr x.1 x.2.1,Fm x.1 x.2.1,()))
noncomputable abbrev Sk:Spec:=Ib (.pair mG .unit) mG false true (λx=>Nc x.1) (λx=>x.1)
noncomputable def Em (p:PP) (t:List Int):TT:=if Fm p t=true then (t,(Fu p.2.2.1 t).1,(Fu p.2.2.1 t).2.1,()) else ([],[],[],())
noncomputable abbrev Di:Spec:=Ib (.pair Ma (.pair tL .unit)) (.pair cd (.pair .bool .unit)) true true (λx=>Hv x.1/\short x.2.1) (λx=>(Em x.1 x.2.1,Fm x.1 x.2.1,()))
noncomputable abbrev Yy:MSpec:=lg [some 3,none] [(false, .Fy tI),(false, .Fy .str),(false, .Fy mG),(false, .Fy tL)] true [none,none,none] [xLL,rL, .Fy .bool]
 (λx=>El (x.1,x.2.1,x.2.2.1,()) x.2.2.2.1=true) (λx=>(((Em (x.1,x.2.1,x.2.2.1,()) x.2.2.2.1).2.1,(Em (x.1,x.2.1,x.2.2.1,()) x.2.2.2.1).2.2.1,Fm (x.1,x.2.1,x.2.2.1,()) x.2.2.2.1,()),()))
noncomputable abbrev Za:MSpec:=lg [some 3,none] [(false, .Fy tI),(false, .Fy .str),(false, .Fy mG),(false, .Fy tL)] true [none,none,none] [xLL,rL, .Fy .bool]
 (λx=>Hv (x.1,x.2.1,x.2.2.1,())/\short x.2.2.2.1) (λx=>(((Em (x.1,x.2.1,x.2.2.1,()) x.2.2.2.1).2.1,(Em (x.1,x.2.1,x.2.2.1,()) x.2.2.2.1).2.2.1,Fm (x.1,x.2.1,x.2.2.1,()) x.2.2.2.1,()),()))
noncomputable abbrev Vm:MSpec:=lg [some 3,none] [(false, .Fy tI),(false, .Fy .str),(false, .Fy mG),(false, .Fy tL)] true [some 3,none] [rL,xLL,rL, .Fy .bool]
 (λx=>Hv (x.1,x.2.1,x.2.2.1,())/\short x.2.2.2.1) (λx=>(((Em (x.1,x.2.1,x.2.2.1,()) x.2.2.2.1).1,(Em (x.1,x.2.1,x.2.2.1,()) x.2.2.2.1).2.1,(Em (x.1,x.2.1,x.2.2.1,()) x.2.2.2.1).2.2.1,Fm (x.1,x.2.1,x.2.2.1,()) x.2.2.2.1,()),()))
noncomputable def Gf (p:PP) (t:TT):Bool:=Fm p t.1&&lf (Em p t.1) t
noncomputable abbrev eD:Spec:=Ib (.pair Ma (.pair cd .unit)) .bool false true (λx=>Hv x.1/\aw x.2.1) (λx=>Gf x.1 x.2.1)
abbrev tTS:Ty:= .slice cd
def Wx (ts:List TT):Prop:=ts.length<=4294967296/\ ∀t∈ts,aw t
noncomputable def Gr (p:PP) (ts:List TT):Bool:=Cy p&&decide (ts.length<=4)&&List.all ts (Gf p)
noncomputable abbrev Qh:Spec:=Ib (.pair Ma (.pair tTS .unit)) .bool false true (λx=>Hv x.1/\Wx x.2.1) (λx=>Gr x.1 x.2.1)
abbrev Ao0:Ty:= .clo 181 (.pair (.ptr Ma) .unit)
noncomputable abbrev ya:Spec:=Ib (.pair cd (.pair (.ptr Ma) .unit)) .bool false true (λx=>aw x.1/\Hv x.2.1) (λx=>!Gf x.2.1 x.1)
def Sa (q:TT->Bool):List TT->Int->Int
 | [],_=> -1
 |t::ts,k=>if q t=true then k else Sa q ts (k+1)
noncomputable abbrev pH:Spec:=Ib (.pair tTS (.pair Ao0 .unit)) tI false true (λx=>Wx x.1/\Hv x.2.1.1) (λx=>Sa (λt=>!Gf x.2.1.1 t) x.1 0)
noncomputable abbrev pE:Spec:=Ib (.pair tTS (.pair Ao0 .unit)) .bool false true (λx=>Wx x.1/\Hv x.2.1.1) (λx=>List.any x.1 (λt=>!Gf x.2.1.1 t))
theorem wK (p:Int×ByteArray×List (List Int)×Unit) (t:List Int) (P:Bool->Prop):(∃(y3:Bool),Jd.fn ((p.1,p.2.1,p.2.2.1,()),())=some y3/\Br y3 (∃(y4:Bool),Kj.fn (p.1,t,())=some y4/\P y4) (P false))=fnW Hf (look [(119,Jd),(93,Kj)]) Jh Try.f156 (p,t,()) P:=by kernel_rfl
theorem wP (p:Int×ByteArray×List (List Int)×Unit) (t:List Int) (P:Bool->Prop):(∃(y3:Bool),Jd.fn ((p.1,p.2.1,p.2.2.1,()),())=some y3/\Br y3 (∃(y4:Bool),Kj.fn (p.1,t,())=some y4/\P y4) (P false))=fnW Hf (look [(47,Jd),(162,Kj)]) Jh Try.f98 (p,t,()) P:=by kernel_rfl
theorem IS (p:Int×ByteArray×List (List Int)×Unit) (t:List Int) (P:((List (List Int)×List Int×List Int×Bool×Unit)×Bool×Unit)->Prop):(∃(y3:Bool),Jh.fn ((p.1,p.2.1,p.2.2.1,()),t,())=some y3/\Br (!y3) (P ((List.take 0 (List.drop 0 []),List.take 0 (List.drop 0 []),List.take 0 (List.drop 0 []),false,()),false,())) (∃(y4:List (List Int)×List Int×List Int×Bool×PUnit),ko.fn ((p.1,p.2.1,p.2.2.1,()),t,())=some y4/\((P ((y4.1,y4.2.1,y4.2.2.1,y4.2.2.2.1,()),y4.2.2.2.1,())/\P ((y4.1,y4.2.1,y4.2.2.1,y4.2.2.2.1,()),y4.2.2.2.1,()))/\P ((y4.1,y4.2.1,y4.2.2.1,y4.2.2.2.1,()),y4.2.2.2.1,()))/\(P ((y4.1,y4.2.1,y4.2.2.1,y4.2.2.2.1,()),y4.2.2.2.1,())/\P ((y4.1,y4.2.1,y4.2.2.1,y4.2.2.2.1,()),y4.2.2.2.1,()))/\P ((y4.1,y4.2.1,y4.2.2.1,y4.2.2.2.1,()),y4.2.2.2.1,())))=fnW Hf (look [(98,Jh),(153,ko)]) Vo Try.f100 (p,t,()) P:=by kernel_rfl
theorem IF (l:List (List Int)) (P:List (List Int)->Prop):(0=0/\0=([]:List Int).length/\Dh (λ(v2:Int×List (List Int)×PUnit) (k3:Int×List (List Int)×PUnit->Prop)=>Br (decide (v2.1<(↑l.length:Int))) (∃(y4:List Int),idx l v2.1=some y4/\ ∃(y5:List Int),Ka.fn (y4,())=some y5/\0=0/\v2.2.1.length=v2.2.1.length/\v2.2.1.length+(List.take 1 (List.drop 0 [y5])).length<=Ct/\0=0/\(v2.2.1++List.take 1 (List.drop 0 [y5])).length=(v2.2.1++List.take 1 (List.drop 0 [y5])).length/\k3 (IntKind.i64.wrap (v2.1+(1:Int)),v2.2.1++List.take 1 (List.drop 0 [y5]),())) (P (List.take v2.2.1.length (List.drop 0 v2.2.1)))) ((0:Int),[],PUnit.unit))=fnW Hf (look [(86,Ka)]) Sk Try.f85 (l,()) P:=by kernel_rfl
theorem IT (p:Int×ByteArray×List (List Int)×Unit) (t:List Int) (P:((List Int×List (List Int)×List Int×Unit)×Bool×Unit)->Prop):(∃(y3:(List (List Int)×List Int×List Int×Bool×PUnit)×Bool×PUnit),Vo.fn ((p.1,p.2.1,p.2.2.1,()),t,())=some y3/\Br (!y3.2.1) (P ((List.take 0 (List.drop 0 []),List.take 0 (List.drop 0 []),List.take 0 (List.drop 0 []),()),false,())) (∃(y4:List Int),Ka.fn (t,())=some y4/\ ∃(y5:List (List Int)),Sk.fn (y3.1.1,())=some y5/\ ∃(y6:List Int),Ka.fn (y3.1.2.1,())=some y6/\P ((y4,y5,y6,()),true,())))=fnW Hf (look [(100,Vo),(86,Ka),(85,Sk)]) Di Try.f58 (p,t,()) P:=by kernel_rfl
abbrev da:Type:=Int×List (List Int)×List (List Int)×List Int×(ByteArray->Option Bool)×PUnit
abbrev qU:Type:=Int×Int×ByteArray×List (List Int)×List (List Int)×List (List Int)×List Int×(ByteArray->Option Bool)×PUnit
theorem OQ (n:Int) (str:ByteArray) (g:List (List Int)) (t:List Int) (P:((List (List Int)×List Int×Bool×Unit)×Unit)->Prop):(∃(y5:(List Int×PUnit)×PUnit),c6.fn (t,())=some y5/\ ∃(y6:ByteArray),Fh.fn (t,())=some y6/\ ∃(y7:List Int),Np.fn ((↑g.length:Int),())=some y7/\0=0/\1= [List.take y5.1.1.length (List.drop 0 y5.1.1)].length/\0=0/\1= [(0:Int)].length/\0=0/\0=([]:List Int).length/\Dh (λ(v8:qU) (k9:qU->Prop)=>Br (decide (v8.1<(↑y7.length:Int))) (∃(Kq:Int),idx y7 v8.1=some Kq/\ ∃(Jq:List Int),Qg.fn (v8.2.2.2.1,Kq,())=some Jq/\0=0/\v8.2.2.2.2.1.length=v8.2.2.2.2.1.length/\v8.2.2.2.2.1.length+(List.take 1 (List.drop 0 [Jq])).length<=Ct/\0=0/\v8.2.2.2.2.2.1.length=v8.2.2.2.2.2.1.length/\0=0/\v8.2.2.2.2.2.2.1.length=v8.2.2.2.2.2.2.1.length/\0=0/\(v8.2.2.2.2.1++List.take 1 (List.drop 0 [Jq])).length=(v8.2.2.2.2.1++List.take 1 (List.drop 0 [Jq])).length/\k9 (IntKind.i64.wrap (v8.1+(1:Int)),v8.2.1,v8.2.2.1,v8.2.2.2.1,v8.2.2.2.2.1++List.take 1 (List.drop 0 [Jq]),v8.2.2.2.2.2.1,v8.2.2.2.2.2.2.1,v8.2.2.2.2.2.2.2.1,())) (0=0/\v8.2.2.2.2.2.1.length=v8.2.2.2.2.2.1.length/\0=0/\v8.2.2.2.2.2.2.1.length=v8.2.2.2.2.2.2.1.length/\0=0/\v8.2.2.2.2.1.length=v8.2.2.2.2.1.length/\Dh (λ(v10:da) (k11:da->Prop)=>Br (decide (v10.1<(↑v10.2.2.1.length:Int))) (0=0/\v10.2.2.1.length=v10.2.2.1.length/\0=0/\v10.2.2.2.1.length=v10.2.2.2.1.length/\0=0/\v10.2.1.length=v10.2.1.length/\0=0/\v10.2.1.length=v10.2.1.length/\Dh (λ(Oj:da) (k13:da->Prop)=>Br (decide (Oj.1<(↑v10.2.1.length:Int))) (((0:Int)<=Oj.1/\Oj.1<(↑Oj.2.1.length:Int))/\ ∃(Fq:List Int),Oj.2.1[0+Oj.1.toNat]?=some Fq/\((0:Int)<=v10.1/\v10.1<(↑Oj.2.2.1.length:Int))/\ ∃(Hx:List Int),Oj.2.2.1[0+v10.1.toNat]?=some Hx/\ ∃(Hm:(List Int×PUnit)×PUnit),bo.fn (Fq,Hx,())=some Hm/\ ∃(Is:ByteArray),Fh.fn (List.take Hm.1.1.length (List.drop 0 Hm.1.1),())=some Is/\Br (!(Oj.2.2.2.2.1 Is).getD false) (Br ((↑Oj.2.2.1.length:Int)==(3000:Int)) (P ((List.take 0 (List.drop 0 []),List.take 0 (List.drop 0 []),false,()),())) (0=0/\Oj.2.2.1.length=Oj.2.2.1.length/\Oj.2.2.1.length+(List.take 1 (List.drop 0 [List.take Hm.1.1.length (List.drop 0 Hm.1.1)])).length<=Ct/\((0:Int)<=v10.1/\v10.1<(↑Oj.2.2.2.1.length:Int))/\ ∃(y18:Int),Oj.2.2.2.1[0+v10.1.toNat]?=some y18/\0=0/\Oj.2.2.2.1.length=Oj.2.2.2.1.length/\Oj.2.2.2.1.length+(List.take 1 (List.drop 0 [IntKind.i64.wrap (y18+(1:Int))])).length<=Ct/\0=0/\(Oj.2.2.1++List.take 1 (List.drop 0 [List.take Hm.1.1.length (List.drop 0 Hm.1.1)])).length=(Oj.2.2.1++List.take 1 (List.drop 0 [List.take Hm.1.1.length (List.drop 0 Hm.1.1)])).length/\0=0/\(Oj.2.2.2.1++List.take 1 (List.drop 0 [IntKind.i64.wrap (y18+(1:Int))])).length=(Oj.2.2.2.1++List.take 1 (List.drop 0 [IntKind.i64.wrap (y18+(1:Int))])).length/\0=0/\Oj.2.1.length=Oj.2.1.length/\0=0/\Oj.2.1.length=Oj.2.1.length/\k13 (IntKind.i64.wrap (Oj.1+(1:Int)),Oj.2.1,Oj.2.2.1++List.take 1 (List.drop 0 [List.take Hm.1.1.length (List.drop 0 Hm.1.1)]),Oj.2.2.2.1++List.take 1 (List.drop 0 [IntKind.i64.wrap (y18+(1:Int))]),aj Oj.2.2.2.2.1 Is true,()))) (0=0/\Oj.2.2.1.length=Oj.2.2.1.length/\0=0/\Oj.2.2.2.1.length=Oj.2.2.2.1.length/\0=0/\Oj.2.1.length=Oj.2.1.length/\0=0/\Oj.2.1.length=Oj.2.1.length/\k13 (IntKind.i64.wrap (Oj.1+(1:Int)),Oj.2.1,Oj.2.2.1,Oj.2.2.2.1,Oj.2.2.2.2.1,()))) (0=0/\Oj.2.2.1.length=Oj.2.2.1.length/\0=0/\Oj.2.2.2.1.length=Oj.2.2.2.1.length/\0=0/\Oj.2.1.length=Oj.2.1.length/\k11 (IntKind.i64.wrap (v10.1+(1:Int)),Oj.2.1,Oj.2.2.1,Oj.2.2.2.1,Oj.2.2.2.2.1,()))) ((0:Int),v10.2.1,v10.2.2.1,v10.2.2.2.1,v10.2.2.2.2.1,PUnit.unit)) (P ((List.take v10.2.2.1.length (List.drop 0 v10.2.2.1),List.take v10.2.2.2.1.length (List.drop 0 v10.2.2.2.1),true,()),()))) ((0:Int),v8.2.2.2.2.1,v8.2.2.2.2.2.1,v8.2.2.2.2.2.2.1,v8.2.2.2.2.2.2.2.1,PUnit.unit))) ((0:Int),n,str,g,[],[List.take y5.1.1.length (List.drop 0 y5.1.1)],[(0:Int)],aj (λ(_:ByteArray)=>none) y6 true,PUnit.unit))=fnMW (BD [Od+10]) (look [(90,c6),(107,Fh),(121,Np),(147,Qg),(106,bo)]) Yy Try.f157 (n,str,g,t,()) P:=by kernel_rfl
theorem OS (n:Int) (str:ByteArray) (g:List (List Int)) (t:List Int) (P:((List (List Int)×List Int×Bool×Unit)×Unit)->Prop):(∃(y5:Bool),Jh.fn ((n,str,g,()),t,())=some y5/\Br (!y5) (P ((List.take 0 (List.drop 0 []),List.take 0 (List.drop 0 []),false,()),())) (∃(y6:(List (List Int)×List Int×Bool×PUnit)×PUnit),Yy.fn (n,str,g,t,())=some y6/\P ((List.take y6.1.1.length (List.drop 0 y6.1.1),List.take y6.1.2.1.length (List.drop 0 y6.1.2.1),y6.1.2.2.1,()),())))=fnMW Xe (look [(156,Jh),(157,Yy)]) Za Try.f89 (n,str,g,t,()) P:=by kernel_rfl
theorem IK (n:Int) (str:ByteArray) (g:List (List Int)) (t:List Int) (P:((List Int×List (List Int)×List Int×Bool×Unit)×Unit)->Prop):(∃(y5:(List (List Int)×List Int×Bool×PUnit)×PUnit),Za.fn (n,str,g,t,())=some y5/\Br (!y5.1.2.2.1) (P ((List.take 0 (List.drop 0 []),List.take 0 (List.drop 0 []),List.take 0 (List.drop 0 []),false,()),())) (∃(y6:(List Int×PUnit)×PUnit),c6.fn (t,())=some y6/\P ((List.take y6.1.1.length (List.drop 0 y6.1.1),List.take y5.1.1.length (List.drop 0 y5.1.1),List.take y5.1.2.1.length (List.drop 0 y5.1.2.1),true,()),())))=fnMW Xe (look [(89,Za),(90,c6)]) Vm Try.f33 (n,str,g,t,()) P:=by kernel_rfl
theorem BR (p:Int×ByteArray×List (List Int)×Unit) (t:List Int×List (List Int)×List Int×Unit) (P:Bool->Prop):(∃(y3:(List Int×List (List Int)×List Int×Bool×PUnit)×PUnit),Vm.fn (p.1,p.2.1,p.2.2.1,t.1,())=some y3/\Br y3.1.2.2.2.1 (∃(y4:Bool),bl.fn ((List.take y3.1.1.length (List.drop 0 y3.1.1),List.take y3.1.2.1.length (List.drop 0 y3.1.2.1),List.take y3.1.2.2.1.length (List.drop 0 y3.1.2.2.1),()),(t.1,t.2.1,t.2.2.1,()),())=some y4/\P y4) (P false))=fnW Hf (look [(33,Vm),(92,bl)]) eD Try.f35 (p,t,()) P:=by kernel_rfl
theorem Aoe (t:List Int×List (List Int)×List Int×Unit) (p:Int×ByteArray×List (List Int)×Unit) (P:Bool->Prop):(∃(y3:Bool),eD.fn (p,(t.1,t.2.1,t.2.2.1,()),())=some y3/\P !y3)=fnW Hf (look [(35,eD)]) ya Try.f181 (t,p,()) P:=by kernel_rfl
theorem Ajt (ts:List (List Int×List (List Int)×List Int×Unit)) (c:(Int×ByteArray×List (List Int)×Unit)×Unit) (P:Int->Prop):(Dh (λ(v3:Int×PUnit) (k4:Int×PUnit->Prop)=>Br (decide (v3.1<(↑ts.length:Int))) (∃(y5:List Int×List (List Int)×List Int×PUnit),idx ts v3.1=some y5/\ ∃(y6:Bool),ya.fn (y5,c.1,())=some y6/\Br y6 (P v3.1) (k4 (IntKind.i64.wrap (v3.1+(1:Int)),()))) (P (-1:Int))) ((0:Int),PUnit.unit))=fnW Hf (look [(181,ya)]) pH Try.f209 (ts,c,()) P:=by kernel_rfl
theorem Ajr (ts:List (List Int×List (List Int)×List Int×Unit)) (c:(Int×ByteArray×List (List Int)×Unit)×Unit) (P:Bool->Prop):(∃(y3:Int),pH.fn (ts,c,())=some y3/\P (decide (y3>=(0:Int))))=fnW Hf (look [(209,pH)]) pE Try.f180 (ts,c,()) P:=by kernel_rfl
theorem vg (p:Int×ByteArray×List (List Int)×Unit) (ts:List (List Int×List (List Int)×List Int×Unit)) (P:Bool->Prop):(∃(y3:Bool),Jd.fn ((p.1,p.2.1,p.2.2.1,()),())=some y3/\Br y3 (Br (decide ((↑ts.length:Int)<=(4:Int))) (∃(y4:Bool),pE.fn (ts,((p.1,p.2.1,p.2.2.1,()),()),())=some y4/\P !y4) (P false)) (P false))=fnW Hf (look [(119,Jd),(180,pE)]) Qh Try.f129 (p,ts,()) P:=by kernel_rfl
theorem mO {p:PP} (hV:Valid p) {m:Nat} {x:List Int} {d:Int} (hx: ∀y∈x,0<=y/\y<p.1) (hxl:x.length=m): ∀(ls:List Int) (L:List (List Int)) (D:List Int),(∀l∈ls,La (List.length p.2.2.1) l)->
  Tb p m L D->(0<=d/\d<L.length)->Tb p m (Hc p.2.2.1 x d ls L D).1 (Hc p.2.2.1 x d ls L D).2.1/\(∃A,(Hc p.2.2.1 x d ls L D).1=L++A)/\(∃A,(Hc p.2.2.1 x d ls L D).2.1=D++A)
 | [],L,D,_,h,_=>⟨h,⟨[],by simp [Hc]⟩,⟨[],by simp [Hc]⟩⟩
 |l::ls,L,D,hl,h,hd=>by
  obtain ⟨n1,n2⟩:=nP hV hx (hl l (by simp))
  have Ke: ∀l∈ls,La (List.length p.2.2.1) l:= λl' h'=>hl l' (Aq _ h')
  simp only [Hc]
  split
  ·exact mO hV hx hxl ls L D Ke h hd
  ·rename_i hn
   split
   ·exact ⟨h,⟨[],by simp⟩,⟨[],by simp⟩⟩
   ·rename_i hf
    have nt:=h.ok.oV
    obtain ⟨k1,⟨A,k2⟩,⟨A',k3⟩⟩:=mO hV hx hxl ls (L++ [Ai x (Az p.2.2.1 l)]) (D++ [d+1]) Ke (h.add hn (by rw [n1,hxl]) (by omega) n2 ⟨by omega,by omega⟩) ⟨hd.1,by rw [Au];omega⟩
    exact ⟨k1,⟨_::A,by rw [k2,Cs];rfl⟩,⟨_::A',by rw [k3,Cs];rfl⟩⟩
theorem CV {p:PP} (hV:Valid p) {m:Nat} {ls:List Int} (hl: ∀l∈ls,La (List.length p.2.2.1) l): ∀(f k:Nat) (L:List (List Int)) (D:List Int),Tb p m L D->
  Tb p m (Jn p.2.2.1 ls f k L D).1 (Jn p.2.2.1 ls f k L D).2.1/\(∃A,(Jn p.2.2.1 ls f k L D).1=L++A)
 |0,k,L,D,h=>⟨h,⟨[],by simp [Jn]⟩⟩
 |f+1,k,L,D,h=>by
  simp only [Jn]
  split
  ·rename_i hk
   have EG:k<D.length:=by rw [h.len];exact hk
   have hd:=h.dep k EG
   have e:D.getD k 0=D[k]:=by rw [Ah,Ab EG];rfl
   rw [Tz hk,e]
   obtain ⟨k1,⟨A,k2⟩,_⟩:=mO hV (h.row _ (Al hk)) (h.ok.len _ (Al hk)) (d:=D[k]) ls L D hl h ⟨by omega,by omega⟩
   split
   ·rename_i L' D' he
    rw [he] at k1 k2
    obtain ⟨g1,⟨B,g2⟩⟩:=CV hV hl f (k+1) L' D' k1
    have k2:L'=L++A:=k2
    exact ⟨g1,⟨A++B,by rw [g2,k2,Cs]⟩⟩
   ·rename_i L' D' he
    rw [he] at k1 k2
    exact ⟨k1,⟨A,k2⟩⟩
  ·exact ⟨h,⟨[],by simp⟩⟩
theorem yD {p:PP} {s:List Int} (hv:Cy p=true) (hs:s.length<=20) (hr: ∀y∈s,0<=y/\y<p.1):Tb p s.length (Fu p.2.2.1 s).1 (Fu p.2.2.1 s).2.1/\ ∃A,(Fu p.2.2.1 s).1=s::A:=
 CV (valid hv) (λ_ hl=>Md hl) _ _ _ _ (dK hs hr)
theorem Pw {p:PP} {t:List Int} :El p t=true↔Cy p=true/\Pq p.1 t=true:=by
 unfold El;rw [Af]
theorem Iz {p:PP} {t:List Int} (h:El p t=true):t.length<=20/\ ∀y∈t,0<=y/\y<p.1:=by
 obtain ⟨h1,h2⟩:=Pw.1 h
 have hn:=(valid h1).n
 obtain ⟨h3,h4⟩:=Hy.1 h2
 have hy: ∀y∈t,0<=y/\y<p.1:= λy hy=>by
  obtain ⟨j,hj,rfl⟩:=Bf.1 hy
  have:=h4 j hj hj
  omega
 refine ⟨?_,hy⟩
 have h5:=MV h4 (t.length-1) (by omega)
 have h6:=hy _ (Al (show t.length-1<t.length by omega))
 omega
theorem pw {p:PP} {t:List Int} (h:El p t=true):Tb p t.length (Fu p.2.2.1 t).1 (Fu p.2.2.1 t).2.1:=(yD (Pw.1 h).1 (Iz h).1 (Iz h).2).1
theorem eo {p:PP} {t:List Int} :Fm p t=true↔El p t=true/\(Fu p.2.2.1 t).2.2=true:=by
 unfold Fm;rw [Af]
theorem wV {p:PP} {m:Nat} {L:List (List Int)} {D:List Int} (h:Tb p m L D):Nc L/\short D:=by
 have h1:=h.ok.oV
 have h2:=h.ok.short
 have h3:=h.len
 refine ⟨⟨by omega,λx hx=>?_⟩,by unfold short;omega⟩
 have:=h.ok.len x hx
 unfold short;omega
theorem ij {p:PP} {t:List Int} :aw (Em p t):=by
 unfold Em
 split
 ·rename_i h
  have h1:=(eo.1 h).1
  have h2:=wV (pw h1)
  have h3:=(Iz h1).1
  exact ⟨show t.length<=4294967296 by omega,h2.1,h2.2⟩
 ·exact ⟨by simp [short],⟨by simp,λr hr=>by cases hr⟩,by simp [short]⟩
theorem w8 (p:PP) (t:List Int) (h:Hv p/\short t):fnW Hf (look [(119,Jd),(93,Kj)]) Jh Try.f156 (p,t,()) (λ(z:Bool)=>z=El p t):=by
 refine Eq.mp (wK p t _) ⟨_,Ac h.1,⟨λhv=>?_,λhv=>?_⟩⟩
 ·have hv:Cy p=true:=hv
  have hn:=(valid hv).n
  refine ⟨_,Ac ⟨⟨by show 0<=p.1;omega,by show p.1<=4294967296;omega⟩,h.2⟩,?_⟩
  unfold El;rw [hv];rfl
 ·have hv:Cy p=false:=hv
  unfold El;rw [hv];rfl
theorem o6:Sound Try.prog 156 Jh:=
 Sound.Ib Ew (Bd Zb (Bd rI Bw)) mixed Try.func156 (by kernel_rfl) (by kernel_rfl) λx h=>w8 x.1 x.2.1 h
theorem we (p:PP) (t:List Int) (h:Hv p/\short t):fnW Hf (look [(47,Jd),(162,Kj)]) Jh Try.f98 (p,t,()) (λ(z:Bool)=>z=El p t):=by
 refine Eq.mp (wP p t _) ⟨_,Ac h.1,⟨λhv=>?_,λhv=>?_⟩⟩
 ·have hv:Cy p=true:=hv
  have hn:=(valid hv).n
  refine ⟨_,Ac ⟨⟨by show 0<=p.1;omega,by show p.1<=4294967296;omega⟩,h.2⟩,?_⟩
  unfold El;rw [hv];rfl
 ·have hv:Cy p=false:=hv
  unfold El;rw [hv];rfl
theorem o9:Sound Try.prog 98 Jh:=
 Sound.Ib Ew (Bd eH (Bd o7 Bw)) mixed Try.func98 (by kernel_rfl) (by kernel_rfl) λx h=>we x.1 x.2.1 h
theorem GP (p:PP) (t:List Int) (h:Hv p/\short t):fnW Hf (look [(98,Jh),(153,ko)]) Vo Try.f100 (p,t,()) (λ(z:SS×Bool×Unit)=>z=(Pr p t,Fm p t,())):=by
 refine Eq.mp (IS p t _) ⟨_,Ac h,⟨λhn=>?_,λhn=>?_⟩⟩
 ·have hn:=Hl hn
  have e:Fm p t=false:=Vv.2 λhh=>hn (eo.1 hh).1
  unfold Pr
  rw [Ak hn,e]
  rfl
 ·have hn:El p t=true:=Hu hn
  have e:Fm p t=(Fu p.2.2.1 t).2.2:=by unfold Fm;rw [hn,Bool.true_and]
  refine ⟨_,Ac ⟨(Pw.1 hn).1,(Iz hn).1,(Iz hn).2⟩,?_⟩
  have key:(((Sd p.2.2.1 t).1,(Sd p.2.2.1 t).2.1,(Sd p.2.2.1 t).2.2.1,(Sd p.2.2.1 t).2.2.2.1,()),(Sd p.2.2.1 t).2.2.2.1,())=(Pr p t,Fm p t,()):=by
   unfold Pr
   rw [Ac hn,e]
   rfl
  exact ⟨⟨⟨key,key⟩,key⟩,⟨key,key⟩,key⟩
theorem rM:Sound Try.prog 100 Vo:=
 Sound.Ib Ew (Bd o9 (Bd HN Bw)) mixed Try.func100 (by kernel_rfl) (by kernel_rfl) λx h=>GP x.1 x.2.1 h
theorem GF (l:List (List Int)) (h:Nc l):fnW Hf (look [(86,Ka)]) Sk Try.f85 (l,()) (λ(z:List (List Int))=>z=l):=by
 obtain ⟨h1,h2⟩:=h
 refine Eq.mp (IF l _) ⟨rfl,rfl,?_⟩
 refine Bs l.length (λv=>v.1) (λj v=>v.2.1=l.take j) rfl (by simp) ?_
 rintro j ⟨i,ys,⟨⟩⟩ K hj hi hR hK
 dsimp only at hi hR⊢
 subst hi hR
 refine Br.dec (λhl=>?_) λhl=>?_
 ·have hl:j<l.length:=by omega
  refine ⟨_,Ck hl,_,Ac (h2 _ (Al hl)),rfl,rfl,?_,rfl,rfl,?_⟩
  ·show (List.take j l).length+1<=4294967296
   rw [Db];omega
  ·rw [Bk (by omega)]
   refine hK hl _ rfl ?_
   show List.take j l++ [l[j]]=_
   rw [Fc,Ab hl];rfl
 ·have:j=l.length:=by omega
  subst this
  rw [Cq,Aw]
theorem rC:Sound Try.prog 85 Sk:=
 Sound.Ib Ew (Bd Wz Bw) mixed Try.func85 (by kernel_rfl) (by kernel_rfl) λx h=>GF x.1 h
theorem GQ (p:PP) (t:List Int) (h:Hv p/\short t):fnW Hf (look [(100,Vo),(86,Ka),(85,Sk)]) Di Try.f58 (p,t,()) (λ(z:TT×Bool×Unit)=>z=(Em p t,Fm p t,())):=by
 refine Eq.mp (IT p t _) ⟨_,Ac h,⟨λhn=>?_,λhn=>?_⟩⟩
 ·have hn:=Hl hn
  have hn: ¬Fm p t=true:=hn
  unfold Em
  rw [Ak hn,Vv.2 hn]
  rfl
 ·have hn:Fm p t=true:=Hu hn
  obtain ⟨h1,h2⟩:=eo.1 hn
  have h3:=wV (pw h1)
  have e:Pr p t=Sd p.2.2.1 t:=Ac h1
  refine ⟨_,Ac h.2,?_⟩
  show ∃y5:List (List Int),Sk.fn ((Pr p t).1,())=some y5/\ ∃y6:List Int,Ka.fn ((Pr p t).2.1,())=some y6/\((t,y5,y6,()),true,())=(Em p t,Fm p t,())
  rw [e]
  refine ⟨_,Ac h3.1,_,Ac h3.2,?_⟩
  unfold Em
  rw [Ac hn,hn]
  rfl
theorem gF:Sound Try.prog 58 Di:=
 Sound.Ib Ew (Bd rM (Bd Wz (Bd rC Bw))) mixed Try.func58 (by kernel_rfl) (by kernel_rfl) λx h=>GQ x.1 x.2.1 h
def oH (m:ByteArray->Option Bool) (L:List (List Int)):Prop:= ∀q,Wb q->(m (Oa q)).getD false=decide (q∈L)
theorem oH.add {m:ByteArray->Option Bool} {L:List (List Int)} {y:List Int} (h:oH m L) (hy:Wb y):oH (aj m (Oa y) true) (L++ [y]):=by
 intro q hq
 unfold aj
 by_cases e:q=y
 ·subst e
  rw [Ac rfl];simp
 ·rw [Ak λhk=>e (key_inj hq hy hk),h q hq]
  simp [e]
theorem MP (n:Int) (str:ByteArray) (g:List (List Int)) (t:List Int) (h:El (n,str,g,()) t=true):
  fnMW (BD [Od+10]) (look [(90,c6),(107,Fh),(121,Np),(147,Qg),(106,bo)]) Yy Try.f157 (n,str,g,t,()) (λ(z:(List (List Int)×List Int×Bool×Unit)×Unit)=>z=(((Em (n,str,g,()) t).2.1,(Em (n,str,g,()) t).2.2.1,Fm (n,str,g,()) t,()),())):=by
 obtain ⟨hv,_⟩:=Pw.1 h
 obtain ⟨ht,hr⟩:=Iz h
 have hV:=valid hv
 have nt:=hV.oV
 have hn:=hV.n
 dsimp only at nt hn hr
 have hb0:=dK (p:=(n,str,g,())) ht hr
 have JH:short t:=by unfold short;omega
 obtain ⟨ls,rk⟩: ∃ls,Bz g.length=ls:=⟨_,rfl⟩
 have SN:ls.length<=16:=by rw [<-rk,Qv];omega
 have nw: ∀l∈ls,La (List.length g) l:= λl hl=>Md (rk▸hl)
 have tA:Jn g ls 3001 0 [t] [0]=Fu g t:=by unfold Fu;rw [rk]
 have tf: ∀x:List Int,(∀y∈x,0<=y/\y<n)->Wb x:= λx hx y hy=>by have:=hx y hy;omega
 have Ali: ∀L D ok,Fu g t=(L,D,ok)->(if ok=true then ((L,D,true,()),()) else ((([]:List (List Int)),([]:List Int),false,()),()))=(((Em (n,str,g,()) t).2.1,(Em (n,str,g,()) t).2.2.1,Fm (n,str,g,()) t,()),()):=by
  intro L D ok he
  have e1:Fm (n,str,g,()) t=ok:=by unfold Fm;rw [h,Bool.true_and];show (Fu g t).2.2=ok;rw [he]
  unfold Em
  rw [e1]
  cases ok with
  |true=>rw [Ac rfl,Ac rfl];show ((L,D,true,()),())=(((Fu g t).1,(Fu g t).2.1,true,()),());rw [he]
  |false=>rw [Ak (by decide),Ak (by decide)]
 refine Eq.mp (OQ n str g t _) ⟨_,Ac JH,_,Ac JH,ls,(Ac ⟨by show (0:Int)<=((g.length:Nat):Int);omega,by show ((g.length:Nat):Int)<=8;omega⟩).trans (Gc some (by show Bz (((g.length:Nat):Int)).toNat=ls;rw [Aj];exact rk)),rfl,rfl,rfl,rfl,rfl,rfl,?_⟩
 rw [Cq]
 refine Bs ls.length (λv=>v.1) (λj v=>v.2.1=n/\v.2.2.1=str/\v.2.2.2.1=g/\v.2.2.2.2.1=(ls.take j).map (Az g)/\v.2.2.2.2.2.1= [t]/\v.2.2.2.2.2.2.1= [0]/\oH v.2.2.2.2.2.2.2.1 [t]) rfl
  ⟨rfl,rfl,rfl,by simp,rfl,rfl,λq hq=>?_⟩ ?_
 ·show (aj (λ_=>none) (Oa t) true (Oa q)).getD false=_
  unfold aj
  by_cases e:q=t
  ·subst e;rw [Ac rfl];simp
  ·rw [Ak λhk=>e (key_inj hq (tf t hr) hk)];simp [e]
 rintro j ⟨i,n',Anw,g',mv,L1,D1,m1,⟨⟩⟩ K hj hi ⟨h1,h2,h3,h4,h5,h6,h7⟩ hK
 dsimp only at hi h1 h2 h3 h4 h5 h6 h7⊢
 subst hi h1 h2 h3 h4 h5 h6
 refine Br.dec (λhl=>?_) λhl=>⟨rfl,rfl,rfl,rfl,rfl,rfl,?_⟩
 ·have hl:j<ls.length:=by omega
  have yZ:=nw _ (Al hl)
  refine ⟨_,Ck hl,_,Ac ⟨yZ,nt.2,hV.perm⟩,rfl,rfl,?_,rfl,rfl,rfl,rfl,rfl,rfl,?_⟩
  ·show (List.map (Az g') (List.take j ls)).length+1<=4294967296
   rw [Bt,Db];omega
  ·rw [Bk (by omega)]
   refine hK hl _ rfl ⟨rfl,rfl,rfl,?_,rfl,rfl,h7⟩
   show List.map (Az g') (List.take j ls)++ [Az g' ls[j]]=_
   rw [Fc,Ab hl,Il];rfl
 ·have:j=ls.length:=by omega
  subst this
  rw [Aw]
  obtain ⟨ms,QE⟩: ∃ms,ls.map (Az g')=ms:=⟨_,rfl⟩
  have Awv:ms.length=ls.length:=by rw [<-QE,Bt]
  have Arx: ∀i (h:i<ls.length),ms[i]'(by omega)=Az g' ls[i]:= λi h=>by simp only [<-QE,Mn]
  rw [QE]
  refine Dh.mk (λv=>v.2.1=ms/\ ∃k:Nat,v.1=k/\k<=v.2.2.1.length/\Tb (n',Anw,g',()) t.length v.2.2.1 v.2.2.2.1/\oH v.2.2.2.2.1 v.2.2.1/\Jn g' ls (3001-k) k v.2.2.1 v.2.2.2.1=Fu g' t) (λv=>3001-v.1.toNat)
   ⟨rfl,0,rfl,by simp,hb0,h7,tA⟩ ?_
  rintro ⟨k',mv,L0,D0,mp,⟨⟩⟩ ⟨h1,k,h5,h6,h7,h8,h9⟩
  dsimp only at h1 h5 h6 h7 h8 h9
  subst h1 h5
  dsimp only
  have XV:=h7.ok.oV
  have hD0:=h7.len
  refine Br.dec (λhl=>⟨rfl,rfl,rfl,rfl,rfl,rfl,rfl,rfl,?_⟩) λhl=>?_
  ·have hk:k<L0.length:=by omega
   have EG:k<D0.length:=by omega
   have hx: ∀y∈L0[k],0<=y/\y<n':=h7.row _ (Al hk)
   have hxl:L0[k].length=t.length:=h7.ok.len _ (Al hk)
   have hdk:=h7.dep k EG
   obtain ⟨f,hf⟩: ∃f,3001-k=f+1:=⟨3000-k,by omega⟩
   have hgo: ∀L' D' ok,Hc g' L0[k] D0[k] ls L0 D0=(L',D',ok)->Fu g' t=if ok=true then Jn g' ls f (k+1) L' D' else (L',D',false):=by
    intro L' D' ok he
    rw [<-h9,hf,Jn,Ac hk,Tz hk,Ah,Ab EG]
    simp only [Bp]
    rw [he]
    cases ok<;>rfl
   refine Dh.mk (λv=>v.2.1=mv/\ ∃i:Nat,v.1=i/\i<=ls.length/\Tb (n',Anw,g',()) t.length v.2.2.1 v.2.2.2.1/\oH v.2.2.2.2.1 v.2.2.1/\(∃A,v.2.2.1=L0++A)/\(∃A,v.2.2.2.1=D0++A)/\
     Hc g' L0[k] D0[k] (ls.drop i) v.2.2.1 v.2.2.2.1=Hc g' L0[k] D0[k] ls L0 D0) (λv=>ls.length-v.1.toNat)
    ⟨rfl,0,rfl,Ja _,h7,h8,⟨[],by simp⟩,⟨[],by simp⟩,rfl⟩ ?_
   rintro ⟨i',mv',L,D,mp2,⟨⟩⟩ ⟨g1,i,g5,g6,g7,g8,⟨A,g9⟩,⟨A',g10⟩,ri⟩
   dsimp only at g1 g5 g6 g7 g8 g9 g10 ri
   subst g1 g5
   dsimp only
   have hLf:=g7.ok.oV
   have hDl:=g7.len
   refine Br.dec (λhli=>?_) λhli=>?_
   ·have hi:i<ls.length:=by omega
    have YJ:k<L.length:=by rw [g9,Au];omega
    have hLk:L[k]=L0[k]:=by simp only [g9];exact Ln hk
    have YI:k<D.length:=by rw [hDl];exact YJ
    have hDk:D[k]=D0[k]:=by simp only [g10];exact Ln EG
    have yZ:=nw _ (Al hi)
    obtain ⟨nl,nr⟩:=nP hV hx yZ
    dsimp only at nl nr
    have QD:=jY hV yZ
    dsimp only at QD
    rw [Ez hi] at ri
    simp only [Hc] at ri
    have hyb:=tf _ nr
    refine ⟨⟨by omega,by omega⟩,Az g' ls[i],by rw [Aj,Bo,Ab (by omega),Arx i hi],⟨by omega,by omega⟩,L0[k],by rw [Aj,Bo,Ab YJ,hLk],
     _,Ac ⟨by show short L0[k];unfold short;omega,by show Ny (Az g' ls[i]).length L0[k];intro y hy;have:=hx y hy;omega⟩,?_⟩
    dsimp only
    rw [show Ef (Az g' ls[i]) L0[k]=Ai L0[k] (Az g' ls[i]) from rfl,Cq]
    generalize hyv:Ai L0[k] (Az g' ls[i])=yv at*
    refine ⟨_,Ac (by show short yv;unfold short;rw [nl];omega),?_⟩
    dsimp only
    rw [g8 _ hyb]
    refine ⟨λXm=>?_,λXm=>⟨rfl,rfl,rfl,rfl,rfl,rfl,rfl,rfl,?_⟩⟩
    ·have Xm:yv∉L:=by simpa using Xm
     rw [Ak Xm] at ri
     refine ⟨λVe=>?_,λVe=>⟨rfl,rfl,by show L.length+1<=4294967296;omega,⟨by omega,by omega⟩,D0[k],by rw [Aj,Bo,Ab YI,hDk],rfl,rfl,by show D.length+1<=4294967296;omega,rfl,rfl,rfl,rfl,rfl,rfl,rfl,rfl,?_⟩⟩
     ·have Ve:L.length=3000:=by
       have:(L.length:Int)=3000:=by simpa using Ve
       omega
      rw [Ac Ve] at ri
      have:=hgo _ _ _ ri.symm
      rw [Ak (by decide)] at this
      have:=Ali _ _ _ this
      rw [Ak (by decide)] at this
      exact this
     ·have Ve:L.length≠3000:=by
       have:(L.length:Int)≠3000:=by simpa using Ve
       omega
      rw [Ak Ve] at ri
      rw [Dl (n:=D0[k]+1) (by omega) (by omega),Bk (by omega)]
      refine ⟨⟨rfl,i+1,rfl,hi,g7.add Xm (by rw [nl,hxl]) (by omega) nr ⟨by omega,by omega⟩,g8.add hyb,⟨A++ [yv],by rw [g9,Cs];rfl⟩,⟨A'++ [D0[k]+1],by rw [g10,Cs];rfl⟩,ri⟩,by omega⟩
    ·have Xm:yv∈L:=by simpa using Xm
     rw [Ac Xm] at ri
     rw [Bk (by omega)]
     exact ⟨⟨rfl,i+1,rfl,hi,g7,g8,⟨A,g9⟩,⟨A',g10⟩,ri⟩,by omega⟩
   ·have:i=ls.length:=by omega
    subst this
    rw [Pj,Hc] at ri
    have:=hgo _ _ _ ri.symm
    rw [Ac rfl] at this
    rw [Bk (by omega)]
    refine ⟨rfl,rfl,rfl,rfl,rfl,rfl,⟨rfl,k+1,rfl,by rw [g9,Au];omega,g7,g8,?_⟩,by omega⟩
    rw [show 3001-(k+1)=f by omega]
    exact this.symm
  ·have hk:k=L0.length:=by omega
   rw [Cq L0,Cq D0]
   obtain ⟨f,hf⟩: ∃f,3001-k=f+1:=⟨3000-k,by omega⟩
   rw [hf,Jn,Ak (by omega)] at h9
   have:=Ali _ _ _ h9.symm
   rw [Ac rfl] at this
   exact this
theorem uK:Cn Try.prog 157 Yy:=
 Cn.lg (BE [Od+10]) (Ft o4 (Bd Xc (Bd dy (Bd ju (Ft wv Bw))))) mixed Try.func157 (by kernel_rfl) (by kernel_rfl) λx h=>MP x.1 x.2.1 x.2.2.1 x.2.2.2.1 h
theorem sG {p:PP} {t:List Int} (h: ¬Fm p t=true):Em p t=([],[],[],()):=Ak h
theorem MR (n:Int) (str:ByteArray) (g:List (List Int)) (t:List Int) (h:Hv (n,str,g,())/\short t):
  fnMW Xe (look [(156,Jh),(157,Yy)]) Za Try.f89 (n,str,g,t,()) (λ(z:(List (List Int)×List Int×Bool×Unit)×Unit)=>z=(((Em (n,str,g,()) t).2.1,(Em (n,str,g,()) t).2.2.1,Fm (n,str,g,()) t,()),())):=by
 refine Eq.mp (OS n str g t _) ⟨_,Ac h,⟨λhn=>?_,λhn=>?_⟩⟩
 ·have hn: ¬El (n,str,g,()) t=true:=Hl hn
  have e: ¬Fm (n,str,g,()) t=true:= λhh=>hn (eo.1 hh).1
  rw [sG e,Vv.2 e]
  rfl
 ·have hn:El (n,str,g,()) t=true:=Hu hn
  refine ⟨_,Ac hn,?_⟩
  rw [Cq,Cq]
theorem uM:Cn Try.prog 89 Za:=
 Cn.lg Uy (Bd o6 (Ft uK Bw)) mixed Try.func89 (by kernel_rfl) (by kernel_rfl) λx h=>MR x.1 x.2.1 x.2.2.1 x.2.2.2.1 h
theorem GJ (n:Int) (str:ByteArray) (g:List (List Int)) (t:List Int) (h:Hv (n,str,g,())/\short t):
  fnMW Xe (look [(89,Za),(90,c6)]) Vm Try.f33 (n,str,g,t,()) (λ(z:(List Int×List (List Int)×List Int×Bool×Unit)×Unit)=>z=(((Em (n,str,g,()) t).1,(Em (n,str,g,()) t).2.1,(Em (n,str,g,()) t).2.2.1,Fm (n,str,g,()) t,()),())):=by
 refine Eq.mp (IK n str g t _) ⟨_,Ac h,⟨λhn=>?_,λhn=>?_⟩⟩
 ·have e: ¬Fm (n,str,g,()) t=true:=Hl hn
  rw [sG e,Vv.2 e]
  rfl
 ·have e:Fm (n,str,g,()) t=true:=Hu hn
  refine ⟨_,Ac h.2,?_⟩
  rw [Cq,Cq,Cq,e]
  have e2:(Em (n,str,g,()) t).1=t:=by unfold Em;rw [Ac e]
  rw [e2]
theorem rG:Cn Try.prog 33 Vm:=
 Cn.lg Uy (Ft uM (Ft o4 Bw)) mixed Try.func33 (by kernel_rfl) (by kernel_rfl) λx h=>GJ x.1 x.2.1 x.2.2.1 x.2.2.2.1 h
theorem zE (p:PP) (t:TT) (h:Hv p/\aw t):fnW Hf (look [(33,Vm),(92,bl)]) eD Try.f35 (p,t,()) (λ(z:Bool)=>z=Gf p t):=by
 refine Eq.mp (BR p t _) ⟨_,Ac ⟨h.1,h.2.1⟩,⟨λhn=>?_,λhn=>?_⟩⟩
 ·have e:Fm p t.1=true:=hn
  rw [Cq,Cq,Cq]
  refine ⟨_,Ac ij,?_⟩
  unfold Gf
  rw [e];rfl
 ·have e:Fm p t.1=false:=hn
  unfold Gf
  rw [e];rfl
theorem pQ:Sound Try.prog 35 eD:=
 Sound.Ib Ew (Ft rG (Bd kI Bw)) mixed Try.func35 (by kernel_rfl) (by kernel_rfl) λx h=>zE x.1 x.2.1 h
theorem Anp (t:TT) (p:PP) (h:aw t/\Hv p):fnW Hf (look [(35,eD)]) ya Try.f181 (t,p,()) (λ(z:Bool)=>z=!Gf p t):=by
 exact Eq.mp (Aoe t p _) ⟨_,Ac ⟨h.2,h.1⟩,rfl⟩
theorem VA:Sound Try.prog 181 ya:=
 Sound.Ib Ew (Bd pQ Bw) mixed Try.func181 (by kernel_rfl) (by kernel_rfl) λx h=>Anp x.1 x.2.1 h
theorem Aj4 (ts:List TT) (c:PP×Unit) (h:Wx ts/\Hv c.1):fnW Hf (look [(181,ya)]) pH Try.f209 (ts,c,()) (λ(z:Int)=>z=Sa (λt=>!Gf c.1 t) ts 0):=by
 obtain ⟨⟨h1,h2⟩,h3⟩:=h
 refine Eq.mp (Ajt ts c _) ?_
 refine Bs ts.length (λv=>v.1) (λj _=>Sa (λt=>!Gf c.1 t) (ts.drop j) j=Sa (λt=>!Gf c.1 t) ts 0) rfl (by simp) ?_
 rintro j ⟨i,⟨⟩⟩ K hj hi hR hK
 dsimp only at hi⊢
 subst hi
 refine Br.dec (λhl=>?_) λhl=>?_
 ·have hl:j<ts.length:=by omega
  rw [Ez hl] at hR
  simp only [Sa] at hR
  refine ⟨_,Ck hl,_,Ac ⟨h2 _ (Al hl),h3⟩,⟨λhe=>?_,λhe=>?_⟩⟩
  ·have he:(!Gf c.1 ts[j])=true:=he
   rw [Ac he] at hR
   exact hR
  ·have he:(!Gf c.1 ts[j])=false:=he
   rw [Ak (by rw [he];decide)] at hR
   rw [Bk (by omega)]
   exact hK hl _ rfl (by push_cast;exact hR)
 ·have:j=ts.length:=by omega
  subst this
  rw [Pj] at hR
  exact hR
theorem NS:Sound Try.prog 209 pH:=
 Sound.Ib Ew (Bd VA Bw) mixed Try.func209 (by kernel_rfl) (by kernel_rfl) λx h=>Aj4 x.1 x.2.1 h
theorem tE (q:TT->Bool): ∀(ts:List TT) (k:Int),0<=k->decide (Sa q ts k>=0)=ts.any q
 | [],k,_=>by simp [Sa]
 |t::ts,k,hk=>by
  have ih:=tE q ts (k+1) (by omega)
  rw [List.any_cons]
  by_cases e:q t=true
  ·have e2:Sa q (t::ts) k=k:=Ac e
   rw [e]
   exact Eo (by rw [e2];exact hk)
  ·have e2:Sa q (t::ts) k=Sa q ts (k+1):=Ak e
   rw [Vv.2 e,Xi,<-ih]
   exact decide_eq_decide.2 (by rw [e2])
theorem Aj2 (ts:List TT) (c:PP×Unit) (h:Wx ts/\Hv c.1):fnW Hf (look [(209,pH)]) pE Try.f180 (ts,c,()) (λ(z:Bool)=>z=List.any ts (λt=>!Gf c.1 t)):=by
 exact Eq.mp (Ajr ts c _) ⟨_,Ac h,tE _ ts 0 (Qj 0)⟩
theorem NQ:Sound Try.prog 180 pE:=
 Sound.Ib Ew (Bd NS Bw) mixed Try.func180 (by kernel_rfl) (by kernel_rfl) λx h=>Aj2 x.1 x.2.1 h
theorem CO (q:TT->Bool) (ts:List TT):(!List.any ts λt=>!q t)=List.all ts q:=by
 induction ts with
 |nil=>rfl
 |cons t ts ih=>simp only [List.any_cons,Iu,<-ih];cases q t<;>simp
theorem u9 (p:PP) (ts:List TT) (h:Hv p/\Wx ts):fnW Hf (look [(119,Jd),(180,pE)]) Qh Try.f129 (p,ts,()) (λ(z:Bool)=>z=Gr p ts):=by
 refine Eq.mp (vg p ts _) ⟨_,Ac h.1,⟨λhv=>Br.dec (λhl=>⟨_,Ac ⟨h.2,h.1⟩,?_⟩) λhl=>?_,λhv=>?_⟩⟩
 ·have hv:Cy p=true:=hv
  have hl:ts.length<=4:=by omega
  show (!List.any ts λt=>!Gf p t)=_
  rw [CO]
  unfold Gr
  rw [hv,Eo hl];rfl
 ·unfold Gr
  rw [Io (by omega),Bool.and_false];rfl
 ·have hv:Cy p=false:=hv
  unfold Gr
  rw [hv];rfl
theorem c9:Sound Try.prog 129 Qh:=
 Sound.Ib Ew (Bd Zb (Bd NQ Bw)) mixed Try.func129 (by kernel_rfl) (by kernel_rfl) λx h=>u9 x.1 x.2.1 h
theorem TI {a b:TT} :lf a b=true↔a=b:=by
 obtain ⟨a1,a2,a3,⟨⟩⟩:=a
 obtain ⟨b1,b2,b3,⟨⟩⟩:=b
 simp [lf]
end Go.Proofs.Ytkkdpknjohcekaa
