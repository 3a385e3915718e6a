/-
  Part 37 of the proof that the statement FnTables holds.
-/
import Derived.Test.YtkkdpknjohcekaaCFTables35
import Derived.KernelRfl
namespace Go.Proofs.Ytkkdpknjohcekaa
open Go.RowKit
def Nu (x a b:Int):Bool:=decide (a<=x/\x<=b)
def iv (n x:Int):Bool:=decide (0<=x/\x<=IntKind.i64.wrap (n-1))
def Du (a b:List Int):Bool:=decide (a=b)
def bN (xs:List Int) (x:Int):Bool:=decide (x∈xs)
def short (xs:List Int):Prop:=xs.length<=4294967296
noncomputable abbrev Bz:Spec:=Hq (.pair tI (.pair tI (.pair tI .unit))) .bool false true (λ_=>True) (λx=>Nu x.1 x.2.1 x.2.2.1)
noncomputable abbrev Rd:Spec:=Hq (.pair tI (.pair tI .unit)) .bool false true (λ_=>True) (λx=>iv x.1 x.2.1)
noncomputable abbrev Cw:Spec:=Hq (.pair tL (.pair tL .unit)) .bool false true (λx=>short x.1) (λx=>Du x.1 x.2.1)
noncomputable abbrev Fu:Spec:=Hq (.pair tL (.pair tI .unit)) .bool false true (λx=>short x.1) (λx=>bN x.1 x.2.1)
theorem MV (x a b:Int) (P:Bool->Prop):(Br (decide (x>=a)) (P (decide (x<=b))) (P false))=fnW Gb (look []) Bz Try.f65 (x,a,b,()) P:=by kernel_rfl
theorem TP (x a b:Int) (P:Bool->Prop):(Br (decide (x>=a)) (P (decide (x<=b))) (P false))=fnW Gb (look []) Bz Try.f94 (x,a,b,()) P:=by kernel_rfl
theorem MY (n x:Int) (P:Bool->Prop):(∃(y3:Bool),Bz.fn (x,0,IntKind.i64.wrap (n-1),())=some y3/\P y3)=fnW Gb (look [(94,Bz)]) Rd Try.f159 (n,x,()) P:=by kernel_rfl
theorem AX (a b:List Int) (P:Bool->Prop):(Br ((↑a.length:Int) !=(↑b.length:Int)) (P false) (Em (λ(v3:Int×PUnit) (k4:Int×PUnit->Prop)=>Br (decide (v3.1<(↑a.length:Int))) (∃(y5:Int),idx a v3.1=some y5/\ ∃(y6:Int),idx b v3.1=some y6/\Br (y5 !=y6) (P false) (k4 (IntKind.i64.wrap (v3.1+1),()))) (P true)) (0,PUnit.unit)))=fnW Gb (look []) Cw Try.f80 (a,b,()) P:=by kernel_rfl
theorem tE (a b:List Int) (P:Bool->Prop):(Br ((↑a.length:Int) !=(↑b.length:Int)) (P false) (Em (λ(v3:Int×PUnit) (k4:Int×PUnit->Prop)=>Br (decide (v3.1<(↑a.length:Int))) (∃(y5:Int),idx a v3.1=some y5/\ ∃(y6:Int),idx b v3.1=some y6/\Br (y5 !=y6) (P false) (k4 (IntKind.i64.wrap (v3.1+1),()))) (P true)) (0,PUnit.unit)))=fnW Gb (look []) Cw Try.f82 (a,b,()) P:=by kernel_rfl
theorem tz (xs:List Int) (x:Int) (P:Bool->Prop):(Em (λ(v3:Int×PUnit) (k4:Int×PUnit->Prop)=>Br (decide (v3.1<(↑xs.length:Int))) (∃(y5:Int),idx xs v3.1=some y5/\Br (y5==x) (P true) (k4 (IntKind.i64.wrap (v3.1+1),()))) (P false)) (0,PUnit.unit))=fnW Gb (look []) Fu Try.f152 (xs,x,()) P:=by kernel_rfl
theorem KV (x a b:Int) (_:True):fnW Gb (look []) Bz Try.f65 (x,a,b,()) (λ(z:Bool)=>z=Nu x a b):=by
 refine Eq.mp (MV x a b _) ?_
 refine Br.dec (λh=>?_) λh=>?_
 ·have h:a<=x:=h
  simp [Nu,h]
 ·exact (Fo λhh=>h hh.1).symm
theorem Ng:Sound Try.prog 65 Bz:=
 Sound.Hq Ee Bt mixed Try.func65 (by kernel_rfl) (by kernel_rfl) λx h=>KV x.1 x.2.1 x.2.2.1 h
theorem RP (x a b:Int) (_:True):fnW Gb (look []) Bz Try.f94 (x,a,b,()) (λ(z:Bool)=>z=Nu x a b):=by
 refine Eq.mp (TP x a b _) ?_
 refine Br.dec (λh=>?_) λh=>?_
 ·have h:a<=x:=h
  simp [Nu,h]
 ·exact (Fo λhh=>h hh.1).symm
theorem Vf:Sound Try.prog 94 Bz:=
 Sound.Hq Ee Bt mixed Try.func94 (by kernel_rfl) (by kernel_rfl) λx h=>RP x.1 x.2.1 x.2.2.1 h
theorem KY (n x:Int) (_:True):fnW Gb (look [(94,Bz)]) Rd Try.f159 (n,x,()) (λ(z:Bool)=>z=iv n x):=
 Eq.mp (MY n x _) ⟨_,Ab trivial,rfl⟩
theorem jl:Sound Try.prog 159 Rd:=
 Sound.Hq Ee (Ax Vf Bt) mixed Try.func159 (by kernel_rfl) (by kernel_rfl) λx h=>KY x.1 x.2.1 h
theorem sN (xs:List Int) (x:Int) (h:short xs):fnW Gb (look []) Fu Try.f152 (xs,x,()) (λ(z:Bool)=>z=bN xs x):=by
 refine Eq.mp (tz xs x _) ?_
 unfold short at h
 refine Cg xs.length (λv=>v.1) (λj _=>x∉xs.take j) rfl (by simp) ?_
 rintro j ⟨i,⟨⟩⟩ K hj hi hR hK
 dsimp only at hi⊢
 subst hi
 refine Br.dec (λhl=>?_) λhl=>?_
 ·have hl:j<xs.length:=by omega
  refine ⟨_,Cc hl,⟨λhe=>?_,λhe=>?_⟩⟩
  ·have hm:=Ak hl
   simp only [bZ] at he
   rw [he] at hm
   exact (Ew hm).symm
  ·rw [Cm (by omega)]
   refine hK hl _ rfl ?_
   simp only [Mq,ne_eq] at he
   rw [Be hl]
   simp only [Aw,Ad,not_or]
   exact ⟨hR,λhx=>he hx.symm⟩
 ·have:j=xs.length:=by omega
  subst this
  rw [Bp] at hR
  exact (Fo hR).symm
theorem bq:Sound Try.prog 152 Fu:=
 Sound.Hq Ee Bt mixed Try.func152 (by kernel_rfl) (by kernel_rfl) λx h=>sN x.1 x.2.1 h
theorem HB (a b:List Int) (hlen:a.length=b.length) (h:short a):
  Em (λ(v3:Int×PUnit) (k4:Int×PUnit->Prop)=>
   Br (decide (v3.1<(↑a.length:Int))) (∃(y5:Int),idx a v3.1=some y5/\ ∃(y6:Int),idx b v3.1=some y6/\Br (y5 !=y6) (false=Du a b) (k4 (IntKind.i64.wrap (v3.1+1),())))
    (true=Du a b))
  (0,PUnit.unit):=by
 unfold short at h
 refine Cg a.length (λv=>v.1) (λj _=>a.take j=b.take j) rfl (by simp) ?_
 rintro j ⟨i,⟨⟩⟩ K hj hi hR hK
 dsimp only at hi⊢
 subst hi
 refine Br.dec (λhl=>?_) λhl=>?_
 ·have kE:j<a.length:=by omega
  have sA:j<b.length:=by omega
  refine ⟨_,Cc kE,_,Cc sA,⟨λhe=>?_,λhe=>?_⟩⟩
  ·simp only [bne_iff_ne,ne_eq] at he
   refine (Fo λoB=>he ?_).symm
   subst oB
   rfl
  ·rw [Cm (by omega)]
   refine hK kE _ rfl ?_
   simp only [Kl] at he
   rw [Be kE,Be sA,hR,he]
 ·have u9:j=a.length:=by omega
  subst u9
  rw [Bp,hlen,Bp] at hR
  exact (Ew hR).symm
theorem zC (a b:List Int) (h:short a):fnW Gb (look []) Cw Try.f80 (a,b,()) (λ(z:Bool)=>z=Du a b):=by
 refine Eq.mp (AX a b _) ⟨λhl=>?_,λhl=>?_⟩
 ·simp only [bne_iff_ne,ne_eq,Gv] at hl
  exact (Fo λoB=>hl (by rw [oB])).symm
 ·simp only [Kl,Gv] at hl
  exact HB a b hl h
theorem eH:Sound Try.prog 80 Cw:=
 Sound.Hq Ee Bt mixed Try.func80 (by kernel_rfl) (by kernel_rfl) λx h=>zC x.1 x.2.1 h
theorem sR (a b:List Int) (h:short a):fnW Gb (look []) Cw Try.f82 (a,b,()) (λ(z:Bool)=>z=Du a b):=by
 refine Eq.mp (tE a b _) ⟨λhl=>?_,λhl=>?_⟩
 ·simp only [bne_iff_ne,ne_eq,Gv] at hl
  exact (Fo λoB=>hl (by rw [oB])).symm
 ·simp only [Kl,Gv] at hl
  exact HB a b hl h
theorem Vd:Sound Try.prog 82 Cw:=
 Sound.Hq Ee Bt mixed Try.func82 (by kernel_rfl) (by kernel_rfl) λx h=>sR x.1 x.2.1 h
abbrev TT:Type:=List Int×List (List Int)×List Int×Unit
def Kr (xs:List (List Int)):Prop:=xs.length<=4294967296/\ ∀r∈xs,short r
def Kv (t:TT):Prop:=short t.1/\Kr t.2.1/\short t.2.2.1
def gk (a b:List (List Int)):Bool:=decide (a=b)
def Ut (a b:TT):Bool:=decide (a.1=b.1)&&(decide (a.2.1=b.2.1)&&decide (a.2.2.1=b.2.2.1))
noncomputable abbrev mT:Spec:=Hq (.pair ky (.pair ky .unit)) .bool false true (λx=>Kr x.1) (λx=>gk x.1 x.2.1)
noncomputable abbrev Mn:Spec:=Hq (.pair aH (.pair aH .unit)) .bool false true (λx=>Kv x.1) (λx=>Ut x.1 x.2.1)
theorem jt {α:Type} {ys xs:List α} {j:Nat} (h:j<xs.length) (hl:ys.length=xs.length) (ht:ys.take j=xs.take j):(ys.set j xs[j]).take (j+1)=xs.take (j+1):=by
 have h1:j<(ys.set j xs[j]).length:=by rw [Ez];omega
 rw [Be h1,Be h,List.getElem_set_self,List.take_set_of_le (Ar j),ht]
def Mf:List Int->Int->Int->Int
 | [],_,_=> -1
 |y::r,x,i=>if y=x then i else Mf r x (i+1)
noncomputable abbrev Su:Spec:=Hq (.pair tL (.pair tI .unit)) tI false true (λx=>short x.1) (λx=>Mf x.1 x.2.1 0)
def PL (n:Int) (xs:List Int) (k:Nat):Prop:= ∀j (h:j<xs.length),j<k->0<=xs[j]/\xs[j]<=n-1/\(0<j->xs[j-1]<xs[j])
def DL (n:Int) (xs:List Int) (k:Nat):Prop:= ∀j (h:j<xs.length),j<k->0<=xs[j]/\xs[j]<=n-1/\xs[j]∉xs.take j
noncomputable def dec (p:Prop):Bool:= @decide p (Classical.propDecidable p)
theorem Lq {p:Prop} (h:p):true=dec p:=(@Ew p (Classical.propDecidable p) h).symm
theorem Cd {p:Prop} (h: ¬p):false=dec p:=(@Fo p (Classical.propDecidable p) h).symm
theorem Db {p:Prop} :dec p=true↔p:= @Jp p (Classical.propDecidable p)
theorem UO {p:Prop} :dec p=false↔ ¬p:= @decide_eq_false_iff_not p (Classical.propDecidable p)
def BP (n:Int):Prop:=0<=n/\n<=4294967296
noncomputable def Gd (n:Int) (xs:List Int):Bool:=dec (0<xs.length/\PL n xs xs.length)
noncomputable def Jv (n:Int) (xs:List Int) (m:Int):Bool:=dec ((xs.length:Int)=m/\DL n xs xs.length)
def WF (t:TT):Prop:=Gd 20 t.1=true/\(1<=t.2.1.length/\t.2.1.length<=3000)/\t.2.2.1.length=t.2.1.length/\
 ∀j (h1:j<t.2.1.length) (h2:j<t.2.2.1.length),Jv 20 t.2.1[j] t.1.length=true/\0<=t.2.2.1[j]/\t.2.2.1[j]<=3000
noncomputable def Gr (t:TT):Bool:=dec (WF t)
noncomputable abbrev Gf:Spec:=Hq (.pair tI (.pair tL .unit)) .bool false true (λx=>BP x.1/\short x.2.1) (λx=>Gd x.1 x.2.1)
noncomputable abbrev Wm:Spec:=Hq (.pair tI (.pair tL (.pair tI .unit))) .bool false true (λx=>BP x.1/\short x.2.1) (λx=>Jv x.1 x.2.1 x.2.2.1)
noncomputable abbrev Ts:Spec:=Hq (.pair tI (.pair tI (.pair tL .unit))) .bool false true (λx=>BP x.1/\short x.2.2.1) (λx=>Jv x.1 x.2.2.1 x.2.1)
noncomputable abbrev iE:Spec:=Hq (.pair ky .unit) tI false true (λ_=>True) (λx=>(List.length x.1:Int))
noncomputable abbrev Eu:Spec:=Hq (.pair aH .unit) .bool false true (λx=>Kv x.1) (λx=>Gr x.1)
theorem WR (xs:List Int) (x:Int) (P:Int->Prop):(Em (λ(v3:Int×PUnit) (k4:Int×PUnit->Prop)=>Br (decide (v3.1<(↑xs.length:Int))) (∃(y5:Int),idx xs v3.1=some y5/\Br (x==y5) (P v3.1) (k4 (IntKind.i64.wrap (v3.1+(1:Int)),()))) (P (-1:Int))) ((0:Int),PUnit.unit))=fnW Gb (look []) Su Try.f104 (xs,x,()) P:=by kernel_rfl
theorem FZ (xs:List Int) (x:Int) (P:Bool->Prop):(∃(y3:Int),Su.fn (xs,x,())=some y3/\P (decide (y3>=(0:Int))))=fnW Gb (look [(104,Su)]) Fu Try.f160 (xs,x,()) P:=by kernel_rfl
theorem tD (n:Int) (xs:List Int) (P:Bool->Prop):(∃(y3:Bool),Bz.fn ((↑xs.length:Int),(1:Int),n,())=some y3/\Br (!y3) (P false) (Em (λ(v4:Int×PUnit) (k5:Int×PUnit->Prop)=>Br (decide (v4.1<(↑xs.length:Int))) (∃(y6:Int),idx xs v4.1=some y6/\ ∃(y7:Bool),Bz.fn (y6,(0:Int),IntKind.i64.wrap (n-(1:Int)),())=some y7/\Br (!y7) (P false) (Br (decide (v4.1>(0:Int))) (∃(y8:Int),idx xs v4.1=some y8/\ ∃(y9:Int),idx xs (IntKind.i64.wrap (v4.1-(1:Int)))=some y9/\Br (decide (y8<=y9)) (P false) (k5 (IntKind.i64.wrap (v4.1+(1:Int)),()))) (k5 (IntKind.i64.wrap (v4.1+(1:Int)),())))) (P true)) ((0:Int),PUnit.unit)))=fnW Gb (look [(65,Bz)]) Gf Try.f162 (n,xs,()) P:=by kernel_rfl
theorem BB (n:Int) (xs:List Int) (P:Bool->Prop):(Em (λ(v3:Int×PUnit) (k4:Int×PUnit->Prop)=>Br (decide (v3.1<(↑xs.length:Int))) (∃(y5:Int),idx xs v3.1=some y5/\ ∃(y6:Bool),Rd.fn (n,y5,())=some y6/\Br (!y6) (P false) (Br (decide (v3.1>(0:Int))) (∃(y7:Int),idx xs (IntKind.i64.wrap (v3.1-(1:Int)))=some y7/\Br (decide (y7>=y5)) (P false) (k4 (IntKind.i64.wrap (v3.1+(1:Int)),()))) (k4 (IntKind.i64.wrap (v3.1+(1:Int)),())))) (P (decide ((↑xs.length:Int)>(0:Int))))) ((0:Int),PUnit.unit))=fnW Gb (look [(159,Rd)]) Gf Try.f93 (n,xs,()) P:=by kernel_rfl
theorem nm (n:Int) (xs:List Int) (m:Int) (P:Bool->Prop):(Br ((↑xs.length:Int) !=m) (P false) (Em (λ(v4:Int×PUnit) (k5:Int×PUnit->Prop)=>Br (decide (v4.1<(↑xs.length:Int))) (∃(y6:Int),idx xs v4.1=some y6/\ ∃(y7:Bool),Bz.fn (y6,(0:Int),IntKind.i64.wrap (n-(1:Int)),())=some y7/\Br (!y7) (P false) (((0:Int)<=(0:Int)/\(0:Int)<=v4.1/\v4.1<=(↑xs.length:Int))/\ ∃(y8:Int),idx xs v4.1=some y8/\ ∃(y9:Bool),Fu.fn (List.drop (Int.toNat (0:Int)) (List.take v4.1.toNat xs),y8,())=some y9/\Br y9 (P false) (k5 (IntKind.i64.wrap (v4.1+(1:Int)),())))) (P true)) ((0:Int),PUnit.unit)))=fnW Gb (look [(65,Bz),(152,Fu)]) Wm Try.f163 (n,xs,m,()) P:=by kernel_rfl
theorem BA (n m:Int) (xs:List Int) (P:Bool->Prop):(Em (λ(v4:Int×PUnit) (k5:Int×PUnit->Prop)=>Br (decide (v4.1<(↑xs.length:Int))) (∃(y6:Int),idx xs v4.1=some y6/\ ∃(y7:Bool),Rd.fn (n,y6,())=some y7/\Br (!y7) (P false) (((0:Int)<=(0:Int)/\(0:Int)<=v4.1/\v4.1<=(↑xs.length:Int))/\ ∃(y8:Bool),Fu.fn (List.drop (Int.toNat (0:Int)) (List.take v4.1.toNat xs),y6,())=some y8/\Br y8 (P false) (k5 (IntKind.i64.wrap (v4.1+(1:Int)),())))) (P ((↑xs.length:Int)==m))) ((0:Int),PUnit.unit))=fnW Gb (look [(159,Rd),(160,Fu)]) Ts Try.f96 (n,m,xs,()) P:=by kernel_rfl
theorem WU (xs:List (List Int)) (P:Int->Prop):(P (↑xs.length:Int))=fnW Gb (look []) iE Try.f95 (xs,()) P:=by kernel_rfl
abbrev bx:Type:=Int×List Int×List (List Int)×List Int×PUnit
theorem nk (t:List Int×List (List Int)×List Int×Unit) (P:Bool->Prop):(∃(y2:Bool),Gf.fn ((20:Int),t.1,())=some y2/\Br (!y2) (P false) (Br ((↑t.2.1.length:Int) !=(↑t.2.2.1.length:Int)) (P false) (∃(y3:Int),iE.fn (t.2.1,())=some y3/\ ∃(y4:Bool),Bz.fn (y3,(1:Int),(3000:Int),())=some y4/\Br (!y4) (P false) (Em (λ(v5:bx) (k6:bx->Prop)=>Br (decide (v5.1<(↑t.2.1.length:Int))) (∃(y7:List Int),idx t.2.1 v5.1=some y7/\ ∃(y8:Bool),Ts.fn ((20:Int),(↑v5.2.1.length:Int),y7,())=some y8/\Br (!y8) (P false) (∃(y9:Int),idx v5.2.2.2.1 v5.1=some y9/\ ∃(dY:Bool),Bz.fn (y9,(0:Int),(3000:Int),())=some dY/\Br (!dY) (P false) (k6 (IntKind.i64.wrap (v5.1+(1:Int)),v5.2.1,v5.2.2.1,v5.2.2.2.1,())))) (P true)) ((0:Int),t.1,t.2.1,t.2.2.1,PUnit.unit)))))=fnW Gb (look [(93,Gf),(94,Bz),(96,Ts),(95,iE)]) Eu Try.f36 (t,()) P:=by kernel_rfl
theorem bg: ∀(xs:List Int) (x i:Int),0<=i->(Mf xs x i<0↔x∉xs)
 | [],x,i,_=>by simp [Mf]
 |y::r,x,i,h=>by
  simp only [Mf]
  split
  ·rename_i hy;subst hy;simp;omega
  ·rename_i hy
   rw [bg r x (i+1) (by omega)]
   simp only [Bb,not_or]
   exact ⟨λh=>⟨λe=>hy e.symm,h⟩,λh=>h.2⟩
theorem WB (xs:List Int) (x:Int) (h:short xs):fnW Gb (look []) Su Try.f104 (xs,x,()) (λ(z:Int)=>z=Mf xs x 0):=by
 unfold short at h
 refine Eq.mp (WR xs x _) ?_
 refine Cg xs.length (λv=>v.1) (λj _=>Mf (xs.drop j) x j=Mf xs x 0) rfl (by simp) ?_
 rintro j ⟨i,⟨⟩⟩ K hj hi hR hK
 dsimp only at hi⊢
 subst hi
 refine Br.dec (λhl=>?_) λhl=>?_
 ·have hl:j<xs.length:=by omega
  rw [Gt hl] at hR
  simp only [Mf] at hR
  refine ⟨_,Cc hl,⟨λhe=>?_,λhe=>?_⟩⟩
  ·simp only [bZ] at he
   rw [Ab he.symm] at hR
   exact hR
  ·simp only [Mq,ne_eq] at he
   rw [Al (λe=>he e.symm)] at hR
   rw [Cm (by omega)]
   exact hK hl _ rfl (by push_cast;exact hR)
 ·have:j=xs.length:=by omega
  subst this
  rw [Ww] at hR
  exact hR
theorem gO:Sound Try.prog 104 Su:=
 Sound.Hq Ee Bt mixed Try.func104 (by kernel_rfl) (by kernel_rfl) λx h=>WB x.1 x.2.1 h
theorem DZ (xs:List Int) (x:Int) (h:short xs):fnW Gb (look [(104,Su)]) Fu Try.f160 (xs,x,()) (λ(z:Bool)=>z=bN xs x):=by
 refine Eq.mp (FZ xs x _) ⟨_,Ab h,?_⟩
 have:=bg xs x 0 (Iz 0)
 show decide (Mf xs x 0>=0)=decide (x∈xs)
 by_cases hx:x∈xs
 ·rw [Ew hx]
  exact Ew (by have:=mt this.1 (λh=>h hx);omega)
 ·rw [Fo hx]
  exact Fo (by have:=this.2 hx;omega)
theorem rH:Sound Try.prog 160 Fu:=
 Sound.Hq Ee (Ax gO Bt) mixed Try.func160 (by kernel_rfl) (by kernel_rfl) λx h=>DZ x.1 x.2.1 h
theorem WD (xs:List (List Int)) (_:True):fnW Gb (look []) iE Try.f95 (xs,()) (λ(z:Int)=>z=(xs.length:Int)):=Eq.mp (WU xs _) rfl
theorem AE:Sound Try.prog 95 iE:=
 Sound.Hq Ee Bt mixed Try.func95 (by kernel_rfl) (by kernel_rfl) λx h=>WD x.1 h
theorem bh {n x:Int} (hn:BP n):iv n x=true↔0<=x/\x<=n-1:=by
 unfold iv BP at*
 rw [Cq (by omega) (by omega),Jp]
theorem Dc {x a b:Int} :Nu x a b=true↔a<=x/\x<=b:=Jp
theorem Dk {b:Bool} (h:(!b)=true): ¬b=true:=by cases b<;>simp_all
theorem Cv {b:Bool} (h:(!b)=false):b=true:=by cases b<;>simp_all
theorem wW {n:Int} {xs:List Int} (h:PL n xs xs.length): ∀j (hj:j<xs.length),(j:Int)<=xs[j]
 |0,hj=>(h 0 hj hj).1
 |j+1,hj=>by
  have h1:=wW h j (by omega)
  have h2:=(h (j+1) hj hj).2.2 (by omega)
  simp only [Nat.add_sub_cancel] at h2
  omega
theorem pk {n:Int} {xs:List Int} {j:Nat} (hl:j<xs.length) (h:PL n xs j) (h1:0<=xs[j]) (h2:xs[j]<=n-1) (h3:0<j->xs[j-1]<xs[j]):PL n xs (j+1):=by
 intro i hi il
 by_cases e:i=j
 ·subst e;exact ⟨h1,h2,h3⟩
 ·exact h i hi (by omega)
theorem zG (n:Int) (xs:List Int) (h:BP n/\short xs):fnW Gb (look [(159,Rd)]) Gf Try.f93 (n,xs,()) (λ(z:Bool)=>z=Gd n xs):=by
 obtain ⟨hn,h⟩:=h
 unfold short at h
 refine Eq.mp (BB n xs _) ?_
 refine Cg xs.length (λv=>v.1) (λj _=>PL n xs j) rfl (λj _ hj=>absurd hj (Gk _)) ?_
 rintro j ⟨i,⟨⟩⟩ K hj hi hR hK
 dsimp only at hi⊢
 subst hi
 refine Br.dec (λhl=>?_) λhl=>?_
 ·have hl:j<xs.length:=by omega
  refine ⟨_,Cc hl,_,Ab trivial,⟨λhp=>?_,λhp=>?_⟩⟩
  ·have hp:=Dk hp
   rw [bh hn] at hp
   exact Cd λhh=>hp ⟨(hh.2 j hl hl).1,(hh.2 j hl hl).2.1⟩
  ·have hp:=Cv hp
   rw [bh hn] at hp
   refine Br.dec (λh0=>?_) λh0=>?_
   ·have h0:0<j:=by omega
    rw [Cq (by omega) (by omega),show (j:Int)-1=((j-1:Nat):Int) by omega]
    refine ⟨_,Cc (by omega),Br.dec (λhg=>?_) λhg=>?_⟩
    ·exact Cd λhh=>by have:=(hh.2 j hl hl).2.2 h0;omega
    ·rw [Cm (by omega)]
     exact hK hl _ rfl (pk hl hR hp.1 hp.2 λ_=>by omega)
   ·have h0:j=0:=by omega
    rw [Cm (by omega)]
    exact hK hl _ rfl (pk hl hR hp.1 hp.2 λh=>by omega)
 ·have:j=xs.length:=by omega
  subst this
  by_cases h0:0<xs.length
  ·rw [Ew (show (xs.length:Int)>0 by omega)];exact Lq ⟨h0,hR⟩
  ·rw [Fo (show ¬(xs.length:Int)>0 by omega)];exact Cd λhh=>h0 hh.1
theorem Yk:Sound Try.prog 93 Gf:=
 Sound.Hq Ee (Ax jl Bt) mixed Try.func93 (by kernel_rfl) (by kernel_rfl) λx h=>zG x.1 x.2.1 h
theorem sQ (n:Int) (xs:List Int) (h:BP n/\short xs):fnW Gb (look [(65,Bz)]) Gf Try.f162 (n,xs,()) (λ(z:Bool)=>z=Gd n xs):=by
 obtain ⟨hn,h⟩:=h
 unfold short at h
 refine Eq.mp (tD n xs _) ⟨_,Ab trivial,⟨λhp=>?_,λhp=>?_⟩⟩
 ·have hp:=Dk hp
  rw [Dc] at hp
  dsimp only at hp
  refine Cd λhh=>hp ⟨by omega,?_⟩
  have:=wW hh.2 (xs.length-1) (by omega)
  have:=(hh.2 (xs.length-1) (by omega) (by omega)).2.1
  omega
 ·have hp:=Cv hp
  rw [Dc] at hp
  dsimp only at hp
  refine Cg xs.length (λv=>v.1) (λj _=>PL n xs j) rfl (λj _ hj=>absurd hj (Gk _)) ?_
  rintro j ⟨i,⟨⟩⟩ K hj hi hR hK
  dsimp only at hi⊢
  subst hi
  refine Br.dec (λhl=>?_) λhl=>?_
  ·have hl:j<xs.length:=by omega
   refine ⟨_,Cc hl,_,Ab trivial,⟨λhq=>?_,λhq=>?_⟩⟩
   ·have hq:=Dk hq
    unfold BP at hn
    rw [Dc,Cq (by omega) (by omega)] at hq
    exact Cd λhh=>hq ⟨(hh.2 j hl hl).1,(hh.2 j hl hl).2.1⟩
   ·have hq:=Cv hq
    unfold BP at hn
    rw [Dc,Cq (by omega) (by omega)] at hq
    refine Br.dec (λh0=>?_) λh0=>?_
    ·have h0:0<j:=by omega
     rw [Cq (by omega) (by omega),show (j:Int)-1=((j-1:Nat):Int) by omega]
     refine ⟨_,Cc hl,_,Cc (by omega),Br.dec (λhg=>?_) λhg=>?_⟩
     ·exact Cd λhh=>by have:=(hh.2 j hl hl).2.2 h0;omega
     ·rw [Cm (by omega)]
      exact hK hl _ rfl (pk hl hR hq.1 hq.2 λ_=>by omega)
    ·rw [Cm (by omega)]
     exact hK hl _ rfl (pk hl hR hq.1 hq.2 λh=>by omega)
  ·have:j=xs.length:=by omega
   subst this
   exact Lq ⟨by omega,hR⟩
theorem lQ:Sound Try.prog 162 Gf:=
 Sound.Hq Ee (Ax Ng Bt) mixed Try.func162 (by kernel_rfl) (by kernel_rfl) λx h=>sQ x.1 x.2.1 h
theorem vN {n:Int} {xs:List Int} {j:Nat} (hl:j<xs.length) (h:DL n xs j) (h1:0<=xs[j]) (h2:xs[j]<=n-1) (h3:xs[j]∉xs.take j):DL n xs (j+1):=by
 intro i hi il
 by_cases e:i=j
 ·subst e;exact ⟨h1,h2,h3⟩
 ·exact h i hi (by omega)
theorem kv {xs:List Int} (h:short xs) (j:Nat):short (xs.take j):=by
 unfold short at*
 rw [Cl]
 omega
theorem mN (n:Int) (xs:List Int) (m:Int) (h:BP n/\short xs):fnW Gb (look [(65,Bz),(152,Fu)]) Wm Try.f163 (n,xs,m,()) (λ(z:Bool)=>z=Jv n xs m):=by
 obtain ⟨hn,hs⟩:=h
 have h:=hs
 unfold short at h
 refine Eq.mp (nm n xs m _) ⟨λhp=>?_,λhp=>?_⟩
 ·simp only [bne_iff_ne,ne_eq] at hp
  exact Cd λhh=>hp hh.1
 ·simp only [Kl] at hp
  refine Cg xs.length (λv=>v.1) (λj _=>DL n xs j) rfl (λj _ hj=>absurd hj (Gk _)) ?_
  rintro j ⟨i,⟨⟩⟩ K hj hi hR hK
  dsimp only at hi⊢
  subst hi
  refine Br.dec (λhl=>?_) λhl=>?_
  ·have hl:j<xs.length:=by omega
   refine ⟨_,Cc hl,_,Ab trivial,⟨λhq=>?_,λhq=>?_⟩⟩
   ·have hq:=Dk hq
    unfold BP at hn
    rw [Dc,Cq (by omega) (by omega)] at hq
    exact Cd λhh=>hq ⟨(hh.2 j hl hl).1,(hh.2 j hl hl).2.1⟩
   ·have hq:=Cv hq
    unfold BP at hn
    rw [Dc,Cq (by omega) (by omega)] at hq
    refine ⟨⟨by omega,by omega,by omega⟩,_,Cc hl,?_⟩
    rw [show (Int.toNat 0)=0 from rfl,Jo,Ay]
    refine ⟨_,Ab (kv hs j),⟨λhc=>?_,λhc=>?_⟩⟩
    ·have hc:decide (xs[j]∈xs.take j)=true:=hc
     rw [Jp] at hc
     exact Cd λhh=>(hh.2 j hl hl).2.2 hc
    ·have hc:decide (xs[j]∈xs.take j)=false:=hc
     rw [decide_eq_false_iff_not] at hc
     rw [Cm (by omega)]
     exact hK hl _ rfl (vN hl hR hq.1 hq.2 hc)
  ·have:j=xs.length:=by omega
   subst this
   exact Lq ⟨hp,hR⟩
theorem gP:Sound Try.prog 163 Wm:=
 Sound.Hq Ee (Ax Ng (Ax bq Bt)) mixed Try.func163 (by kernel_rfl) (by kernel_rfl) λx h=>mN x.1 x.2.1 x.2.2.1 h
theorem zF (n m:Int) (xs:List Int) (h:BP n/\short xs):fnW Gb (look [(159,Rd),(160,Fu)]) Ts Try.f96 (n,m,xs,()) (λ(z:Bool)=>z=Jv n xs m):=by
 obtain ⟨hn,hs⟩:=h
 have h:=hs
 unfold short at h
 refine Eq.mp (BA n m xs _) ?_
 refine Cg xs.length (λv=>v.1) (λj _=>DL n xs j) rfl (λj _ hj=>absurd hj (Gk _)) ?_
 rintro j ⟨i,⟨⟩⟩ K hj hi hR hK
 dsimp only at hi⊢
 subst hi
 refine Br.dec (λhl=>?_) λhl=>?_
 ·have hl:j<xs.length:=by omega
  refine ⟨_,Cc hl,_,Ab trivial,⟨λhq=>?_,λhq=>?_⟩⟩
  ·have hq:=Dk hq
   rw [bh hn] at hq
   exact Cd λhh=>hq ⟨(hh.2 j hl hl).1,(hh.2 j hl hl).2.1⟩
  ·have hq:=Cv hq
   rw [bh hn] at hq
   refine ⟨⟨by omega,by omega,by omega⟩,?_⟩
   rw [show (Int.toNat 0)=0 from rfl,Jo,Ay]
   refine ⟨_,Ab (kv hs j),⟨λhc=>?_,λhc=>?_⟩⟩
   ·have hc:decide (xs[j]∈xs.take j)=true:=hc
    rw [Jp] at hc
    exact Cd λhh=>(hh.2 j hl hl).2.2 hc
   ·have hc:decide (xs[j]∈xs.take j)=false:=hc
    rw [decide_eq_false_iff_not] at hc
    rw [Cm (by omega)]
    exact hK hl _ rfl (vN hl hR hq.1 hq.2 hc)
 ·have:j=xs.length:=by omega
  subst this
  by_cases he:(xs.length:Int)=m
  ·rw [bZ.2 he];exact Lq ⟨he,hR⟩
  ·rw [Mq.2 he];exact Cd λhh=>he hh.1
theorem oM:Sound Try.prog 96 Ts:=
 Sound.Hq Ee (Ax jl (Ax rH Bt)) mixed Try.func96 (by kernel_rfl) (by kernel_rfl) λx h=>zF x.1 x.2.1 x.2.2.1 h
theorem QW:BP 20:=⟨by omega,by omega⟩
def WFk (t:TT) (k:Nat):Prop:= ∀j (h1:j<t.2.1.length) (h2:j<t.2.2.1.length),j<k->Jv 20 t.2.1[j] t.1.length=true/\0<=t.2.2.1[j]/\t.2.2.1[j]<=3000
theorem WW {t:TT} {j:Nat} (kE:j<t.2.1.length) (sA:j<t.2.2.1.length) (h:WFk t j) (h1:Jv 20 t.2.1[j] t.1.length=true) (h2:0<=t.2.2.1[j]/\t.2.2.1[j]<=3000):WFk t (j+1):=by
 intro i hi JS il
 by_cases e:i=j
 ·subst e;exact ⟨h1,h2⟩
 ·exact h i hi JS (by omega)
theorem mM (t:TT) (h:Kv t):fnW Gb (look [(93,Gf),(94,Bz),(96,Ts),(95,iE)]) Eu Try.f36 (t,()) (λ(z:Bool)=>z=Gr t):=by
 obtain ⟨fV,⟨pf,Ajm⟩,hs3⟩:=h
 refine Eq.mp (nk t _) ⟨_,Ab ⟨QW,fV⟩,⟨λhp=>?_,λhp=>?_⟩⟩
 ·exact Cd λhh=>Dk hp hh.1
 ·have hp:=Cv hp
  refine ⟨λhl=>?_,λhl=>?_⟩
  ·simp only [bne_iff_ne,ne_eq,Gv] at hl
   exact Cd λhh=>hl hh.2.2.1.symm
  ·simp only [Kl,Gv] at hl
   refine ⟨_,Ab trivial,_,Ab trivial,⟨λhq=>?_,λhq=>?_⟩⟩
   ·have hq:=Dk hq
    rw [Dc] at hq
    dsimp only at hq
    exact Cd λhh=>hq ⟨by have:=hh.2.1.1;omega,by have:=hh.2.1.2;omega⟩
   ·have hq:=Cv hq
    rw [Dc] at hq
    dsimp only at hq
    refine Cg t.2.1.length (λv=>v.1) (λj v=>v.2=(t.1,t.2.1,t.2.2.1,())/\WFk t j) rfl ⟨rfl,λj _ _ hj=>absurd hj (Gk _)⟩ ?_
    rintro j ⟨i,v⟩ K hj hi ⟨hv,hR⟩ hK
    dsimp only at hi hv⊢
    subst hi
    subst hv
    dsimp only
    refine Br.dec (λJs=>?_) λJs=>?_
    ·have kE:j<t.2.1.length:=by omega
     have sA:j<t.2.2.1.length:=by omega
     refine ⟨_,Cc kE,_,Ab ⟨QW,Ajm _ (Ak kE)⟩,⟨λh1=>?_,λh1=>?_⟩⟩
     ·exact Cd λhh=>Dk h1 (hh.2.2.2 j kE sA).1
     ·have h1:=Cv h1
      refine ⟨_,Cc sA,_,Ab trivial,⟨λh2=>?_,λh2=>?_⟩⟩
      ·have h2:=Dk h2
       rw [Dc] at h2
       exact Cd λhh=>h2 (hh.2.2.2 j kE sA).2
      ·have h2:=Cv h2
       rw [Dc] at h2
       rw [Cm (by omega)]
       exact hK kE _ rfl ⟨rfl,WW kE sA hR h1 h2⟩
    ·have:j=t.2.1.length:=by omega
     subst this
     exact Lq ⟨hp,⟨by omega,by omega⟩,hl.symm,λj h1 h2=>hR j h1 h2 h1⟩
theorem Kj:Sound Try.prog 36 Eu:=
 Sound.Hq Ee (Ax Yk (Ax Vf (Ax oM (Ax AE Bt)))) mixed Try.func36 (by kernel_rfl) (by kernel_rfl) λx h=>mM x.1 h
theorem DO (t:TT):Ut t t=true:=by simp [Ut]
noncomputable abbrev Wn:Spec:=Hq (.pair ky (.pair ky (.pair (.clo 196 .unit) .unit))) .bool false true (λx=>Kr x.1) (λx=>gk x.1 x.2.1)
theorem Afi (a b:List Int) (P:Bool->Prop):(∃(y3:Bool),Cw.fn (a,b,())=some y3/\P y3)=fnW Gb (look [(82,Cw)]) Cw Try.f196 (a,b,()) P:=by kernel_rfl
theorem GB (a b:List (List Int)) (c:Unit) (P:Bool->Prop):(Br ((↑a.length:Int) !=(↑b.length:Int)) (P false) (Em (λ(v4:Int×PUnit) (k5:Int×PUnit->Prop)=>Br (decide (v4.1<(↑a.length:Int))) (∃(y6:List Int),idx a v4.1=some y6/\ ∃(y7:List Int),idx b v4.1=some y7/\ ∃(y8:Bool),Cw.fn (y6,y7,())=some y8/\Br (!y8) (P false) (k5 (IntKind.i64.wrap (v4.1+(1:Int)),()))) (P true)) ((0:Int),PUnit.unit)))=fnW Gb (look [(196,Cw)]) Wn Try.f195 (a,b,c,()) P:=by kernel_rfl
theorem oT (a b:List (List Int)) (P:Bool->Prop):(∃(y3:Bool),Wn.fn (a,b,(),())=some y3/\P y3)=fnW Gb (look [(195,Wn)]) mT Try.f158 (a,b,()) P:=by kernel_rfl
theorem oS (a b:List Int×List (List Int)×List Int×Unit) (P:Bool->Prop):(∃(y3:Bool),Cw.fn (a.1,b.1,())=some y3/\Br y3 (∃(y4:Bool),mT.fn (a.2.1,b.2.1,())=some y4/\Br y4 (∃(y5:Bool),Cw.fn (a.2.2.1,b.2.2.1,())=some y5/\P y5) (P false)) (P false))=fnW Gb (look [(82,Cw),(158,mT)]) Mn Try.f92 (a,b,()) P:=by kernel_rfl
abbrev cN:Type:=Int×List Int×List (List Int)×List Int×List Int×List (List Int)×List Int×PUnit
theorem oU (a b:List Int×List (List Int)×List Int×Unit) (P:Bool->Prop):(∃(y3:Bool),Cw.fn (a.1,b.1,())=some y3/\Br (!y3) (P false) (∃(y4:Bool),Cw.fn (a.2.2.1,b.2.2.1,())=some y4/\Br (!y4) (P false) (Br ((↑a.2.1.length:Int) !=(↑b.2.1.length:Int)) (P false) (Em (λ(v5:cN) (k6:cN->Prop)=>Br (decide (v5.1<(↑v5.2.2.1.length:Int))) (∃(y7:List Int),idx v5.2.2.1 v5.1=some y7/\ ∃(y8:List Int),idx v5.2.2.2.2.2.1 v5.1=some y8/\ ∃(y9:Bool),Cw.fn (y7,y8,())=some y9/\Br (!y9) (P false) (k6 (IntKind.i64.wrap (v5.1+(1:Int)),v5.2.1,v5.2.2.1,v5.2.2.2.1,v5.2.2.2.2.1,v5.2.2.2.2.2.1,v5.2.2.2.2.2.2.1,()))) (P true)) ((0:Int),a.1,a.2.1,a.2.2.1,b.1,b.2.1,b.2.2.1,PUnit.unit)))))=fnW Gb (look [(80,Cw)]) Mn Try.f91 (a,b,()) P:=by kernel_rfl
theorem Aex (a b:List Int) (h:short a):fnW Gb (look [(82,Cw)]) Cw Try.f196 (a,b,()) (λ(z:Bool)=>z=Du a b):=by
 refine Eq.mp (Afi a b _) ⟨_,Ab h,rfl⟩
theorem MC:Sound Try.prog 196 Cw:=
 Sound.Hq Ee (Ax Vd Bt) mixed Try.func196 (by kernel_rfl) (by kernel_rfl) λx h=>Aex x.1 x.2.1 h
theorem EB (a b:List (List Int)) (c:Unit) (h:Kr a):fnW Gb (look [(196,Cw)]) Wn Try.f195 (a,b,c,()) (λ(z:Bool)=>z=gk a b):=by
 obtain ⟨h,h4⟩:=h
 refine Eq.mp (GB a b c _) ⟨λhl=>?_,λhl=>?_⟩
 ·simp only [bne_iff_ne,ne_eq,Gv] at hl
  exact (Fo λoB=>hl (by rw [oB])).symm
 ·simp only [Kl,Gv] at hl
  refine Cg a.length (λv=>v.1) (λj _=>a.take j=b.take j) rfl (by simp) ?_
  rintro j ⟨i,⟨⟩⟩ K hj hi hR hK
  dsimp only at hi⊢
  subst hi
  refine Br.dec (λJs=>?_) λJs=>?_
  ·have kE:j<a.length:=by omega
   have sA:j<b.length:=by omega
   refine ⟨_,Cc kE,_,Cc sA,_,Ab (h4 _ (Ak kE)),⟨λhe=>?_,λhe=>?_⟩⟩
   ·refine (Fo λoB=>?_).symm
    subst oB
    simp [Du] at he
   ·rw [Cm (by omega)]
    refine hK kE _ rfl ?_
    simp only [Du,Bool.not_eq_false',Kn] at he
    rw [Be kE,Be sA,hR]
    exact Hv (λx=>List.take j b++ [x]) he
  ·have u9:j=a.length:=by omega
   subst u9
   rw [Bp,hl,Bp] at hR
   exact (Ew hR).symm
theorem rI:Sound Try.prog 195 Wn:=
 Sound.Hq Ee (Ax MC Bt) mixed Try.func195 (by kernel_rfl) (by kernel_rfl) λx h=>EB x.1 x.2.1 x.2.2.1 h
theorem oH (a b:List (List Int)) (h:Kr a):fnW Gb (look [(195,Wn)]) mT Try.f158 (a,b,()) (λ(z:Bool)=>z=gk a b):=by
 refine Eq.mp (oT a b _) ⟨_,Ab h,rfl⟩
theorem iN:Sound Try.prog 158 mT:=
 Sound.Hq Ee (Ax rI Bt) mixed Try.func158 (by kernel_rfl) (by kernel_rfl) λx h=>oH x.1 x.2.1 h
theorem oG (a b:TT) (h:Kv a):fnW Gb (look [(82,Cw),(158,mT)]) Mn Try.f92 (a,b,()) (λ(z:Bool)=>z=Ut a b):=by
 refine Eq.mp (oS a b _) ⟨_,Ab h.1,⟨λh1=>⟨_,Ab h.2.1,⟨λh2=>⟨_,Ab h.2.2,?_⟩,λh2=>?_⟩⟩,λh1=>?_⟩⟩
 ·have h1:Du a.1 b.1=true:=h1
  have h2:gk a.2.1 b.2.1=true:=h2
  simp only [Du,gk] at h1 h2
  show Du a.2.2.1 b.2.2.1=_
  unfold Ut Du
  rw [h1,h2];rfl
 ·have h1:Du a.1 b.1=true:=h1
  have h2:gk a.2.1 b.2.1=false:=h2
  simp only [Du,gk] at h1 h2
  unfold Ut
  rw [h1,h2];rfl
 ·have h1:Du a.1 b.1=false:=h1
  simp only [Du] at h1
  unfold Ut
  rw [h1];rfl
theorem iM:Sound Try.prog 92 Mn:=
 Sound.Hq Ee (Ax Vd (Ax iN Bt)) mixed Try.func92 (by kernel_rfl) (by kernel_rfl) λx h=>oG x.1 x.2.1 h
theorem oI (a b:TT) (h:Kv a):fnW Gb (look [(80,Cw)]) Mn Try.f91 (a,b,()) (λ(z:Bool)=>z=Ut a b):=by
 obtain ⟨fV,⟨pf,hs4⟩,hs3⟩:=h
 refine Eq.mp (oU a b _) ⟨_,Ab fV,⟨λh1=>?_,λh1=>⟨_,Ab hs3,⟨λh2=>?_,λh2=>⟨λh3=>?_,λh3=>?_⟩⟩⟩⟩⟩
 ·have h1:(!Du a.1 b.1)=true:=h1
  simp only [Du,Dn] at h1
  show _=Ut a b
  unfold Ut
  rw [h1];rfl
 ·have h2:(!Du a.2.2.1 b.2.2.1)=true:=h2
  simp only [Du,Dn] at h2
  show _=Ut a b
  unfold Ut
  rw [h2];simp
 ·simp only [bne_iff_ne,ne_eq,Gv] at h3
  show _=Ut a b
  unfold Ut
  rw [Fo (show ¬a.2.1=b.2.1 from λoB=>h3 (by rw [oB]))];simp
 ·simp only [Kl,Gv] at h3
  have h1:(!Du a.1 b.1)=false:=h1
  have h2:(!Du a.2.2.1 b.2.2.1)=false:=h2
  simp only [Du,Bool.not_eq_false',Kn] at h1 h2
  have hE:Ut a b=decide (a.2.1=b.2.1):=by
   unfold Ut
   rw [Ew h1,Ew h2];simp
  refine Cg a.2.1.length (λv=>v.1) (λj v=>v.2=(a.1,a.2.1,a.2.2.1,b.1,b.2.1,b.2.2.1,())/\a.2.1.take j=b.2.1.take j) rfl ⟨rfl,by simp⟩ ?_
  rintro j ⟨i,v⟩ K hj hi ⟨hv,hR⟩ hK
  dsimp only at hi hv⊢
  subst hi hv
  dsimp only
  refine Br.dec (λJs=>?_) λJs=>?_
  ·have kE:j<a.2.1.length:=by omega
   have sA:j<b.2.1.length:=by omega
   refine ⟨_,Cc kE,_,Cc sA,_,Ab (hs4 _ (Ak kE)),⟨λhe=>?_,λhe=>?_⟩⟩
   ·show _=Ut a b
    rw [hE]
    refine (Fo λoB=>?_).symm
    simp [oB,Du] at he
   ·rw [Cm (by omega)]
    refine hK kE _ rfl ⟨rfl,?_⟩
    simp only [Du,Bool.not_eq_false',Kn] at he
    rw [Be kE,Be sA,hR]
    exact Hv (λx=>List.take j b.2.1++ [x]) he
  ·have u9:j=a.2.1.length:=by omega
   subst u9
   rw [Bp,h3,Bp] at hR
   show _=Ut a b
   rw [hE]
   exact (Ew hR).symm
theorem iO:Sound Try.prog 91 Mn:=
 Sound.Hq Ee (Ax eH Bt) mixed Try.func91 (by kernel_rfl) (by kernel_rfl) λx h=>oI x.1 x.2.1 h
abbrev PP:Type:=Int×ByteArray×List (List Int)×Unit
noncomputable def Kg (p:List Int):Bool:=dec (1<=p.length/\p.length<=20/\DL p.length p p.length)
noncomputable def Ix (n:Int) (p:List Int):Bool:=dec ((p.length:Int)=n/\Kg p=true)
noncomputable def Xp (n:Int) (g:List (List Int)):Bool:=dec ((1<=n/\n<=20)/\g.length<=8/\ ∀p∈g,Ix n p=true)
def Eg {α:Type} (P:α->Bool):List α->Int->Int
 | [],_=> -1
 |y::r,i=>if P y=true then i else Eg P r (i+1)
abbrev tG1:Ty:= .clo 206 (.pair (.ptr tI) .unit)
abbrev tX1:Ty:= .clo 198 (.pair (.ptr tL) .unit)
def vq (s:ByteArray) (i:Nat):Prop:= ∃c:UInt8,s[i]?=some c/\65<=c.toNat/\c.toNat<=90/\ ∀k,k<i->s[k]?≠some c
noncomputable def ly (s:ByteArray) (i:Int):Bool:=dec (vq s i.toNat)
noncomputable def Zn (s:ByteArray):Bool:=dec ((1<=s.size/\s.size<=8)/\ ∀j,j<s.size->vq s j)
noncomputable def Dh (p:PP):Bool:=dec (Xp p.1 p.2.2.1=true/\Zn p.2.1=true/\p.2.1.size=p.2.2.1.length)
def Ii (p:PP):Prop:=p.2.1.size<=4294967296/\Kr p.2.2.1
noncomputable abbrev bR:Spec:=Hq (.pair tL .unit) tI false true (λ_=>True) (λx=>(List.length x.1:Int))
noncomputable abbrev Jt:Spec:=Hq (.pair tL .unit) .bool false true (λx=>short x.1) (λx=>Kg x.1)
noncomputable abbrev Pj:Spec:=Hq (.pair tI (.pair ky .unit)) .bool false true (λx=>Kr x.2.1) (λx=>Xp x.1 x.2.1)
noncomputable abbrev iC:Spec:=Hq (.pair tL (.pair (.ptr tI) .unit)) .bool false true (λx=>short x.1) (λx=>!Ix x.2.1 x.1)
noncomputable abbrev uQ:Spec:=Hq (.pair ky (.pair tG1 .unit)) tI false true (λx=>Kr x.1) (λx=>Eg (λp=>!Ix x.2.1.1 p) x.1 0)
noncomputable abbrev uP:Spec:=Hq (.pair ky (.pair tG1 .unit)) .bool false true (λx=>Kr x.1) (λx=>List.any x.1 (λp=>!Ix x.2.1.1 p))
noncomputable abbrev cI:Spec:=Hq (.pair .str (.pair tI .unit)) .bool false true (λx=>0<=x.2.1/\x.2.1<x.1.size/\x.1.size<=4294967296) (λx=>ly x.1 x.2.1)
noncomputable abbrev Zr:Spec:=Hq (.pair .str .unit) .bool false true (λx=>x.1.size<=4294967296) (λx=>Zn x.1)
noncomputable abbrev Ma:Spec:=Hq (.pair Mw .unit) .bool false true (λx=>Ii x.1) (λx=>Dh x.1)
noncomputable abbrev Wp:Spec:=Hq (.pair tL (.pair (.ptr tL) .unit)) .bool false true (λx=>short x.1) (λx=>decide (x.1=x.2.1))
noncomputable abbrev uR:Spec:=Hq (.pair ky (.pair tX1 .unit)) tI false true (λx=>Kr x.1) (λx=>Eg (λp=>decide (p=x.2.1.1)) x.1 0)
noncomputable abbrev Zq:Spec:=Hq (.pair ky (.pair tL .unit)) tI false true (λx=>Kr x.1/\short x.2.1) (λx=>Eg (λp=>decide (p=x.2.1)) x.1 0)
def Uu (t:TT) (x:List Int):Int:=if Eg (λp=>decide (p=x)) t.2.1 0<0 then-1 else t.2.2.1.getD (Eg (λp=>decide (p=x)) t.2.1 0).toNat 0
noncomputable def Xd (t:TT) (x:List Int):Int:=if Gr t=true then Uu t x else-1
noncomputable abbrev cH:Spec:=Hq (.pair aH (.pair tL .unit)) tI false true (λx=>Kv x.1/\short x.2.1/\x.1.2.2.1.length=x.1.2.1.length) (λx=>Uu x.1 x.2.1)
noncomputable abbrev Ih:Spec:=Hq (.pair aH (.pair tL .unit)) tI false true (λx=>Kv x.1/\short x.2.1) (λx=>Xd x.1 x.2.1)
theorem Abm (xs:List Int) (P:Int->Prop):(P (↑xs.length:Int))=fnW Gb (look []) bR Try.f140 (xs,()) P:=by kernel_rfl
theorem xR (p:List Int) (P:Bool->Prop):(∃(y2:Bool),Bz.fn ((↑p.length:Int),(1:Int),(20:Int),())=some y2/\Br (!y2) (P false) (Em (λ(v3:Int×PUnit) (k4:Int×PUnit->Prop)=>Br (decide (v3.1<(↑p.length:Int))) (∃(y5:Int),idx p v3.1=some y5/\ ∃(y6:Bool),Bz.fn (y5,(0:Int),IntKind.i64.wrap ((↑p.length:Int)-(1:Int)),())=some y6/\Br (!y6) (P false) (((0:Int)<=(0:Int)/\(0:Int)<=v3.1/\v3.1<=(↑p.length:Int))/\ ∃(y7:Int),idx p v3.1=some y7/\ ∃(y8:Bool),Fu.fn (List.drop (Int.toNat (0:Int)) (List.take v3.1.toNat p),y7,())=some y8/\Br y8 (P false) (k4 (IntKind.i64.wrap (v3.1+(1:Int)),())))) (P true)) ((0:Int),PUnit.unit)))=fnW Gb (look [(65,Bz),(152,Fu)]) Jt Try.f169 (p,()) P:=by kernel_rfl
theorem xM (p:List Int) (P:Bool->Prop):(∃(y2:Int),bR.fn (p,())=some y2/\ ∃(y3:Bool),Bz.fn (y2,(1:Int),(20:Int),())=some y3/\Br (!y3) (P false) (Em (λ(v4:Int×Int×PUnit) (k5:Int×Int×PUnit->Prop)=>Br (decide (v4.2.1<(↑p.length:Int))) (∃(y6:Int),idx p v4.2.1=some y6/\ ∃(y7:Int),bR.fn (p,())=some y7/\ ∃(y8:Bool),Bz.fn (y6,(0:Int),IntKind.i64.wrap (y7-(1:Int)),())=some y8/\Br (!y8) (P false) (¬y6<(0:Int)/\k5 (IntKind.i64.wrap (↑(BitVec.ofInt IntKind.i64.bits v4.1|||BitVec.ofInt IntKind.i64.bits (IntKind.i64.wrap ((1:Int)*(2:Int)^min y6.toNat IntKind.i64.bits))).toNat:Int),IntKind.i64.wrap (v4.2.1+(1:Int)),()))) (¬(↑p.length:Int)<(0:Int)/\P (v4.1==IntKind.i64.wrap (IntKind.i64.wrap ((1:Int)*(2:Int)^min (↑p.length:Int).toNat IntKind.i64.bits)-(1:Int))))) ((0:Int),(0:Int),PUnit.unit)))=fnW Gb (look [(94,Bz),(140,bR)]) Jt Try.f141 (p,()) P:=by kernel_rfl
theorem xQ (n:Int) (g:List (List Int)) (P:Bool->Prop):(∃(y3:Bool),Bz.fn (n,(1:Int),(20:Int),())=some y3/\Br (!y3) (P false) (Br (decide ((↑g.length:Int)>(8:Int))) (P false) (Em (λ(v4:Int×PUnit) (k5:Int×PUnit->Prop)=>Br (decide (v4.1<(↑g.length:Int))) (∃(y6:List Int),idx g v4.1=some y6/\Br ((↑y6.length:Int) !=n) (P false) (∃(y7:List Int),idx g v4.1=some y7/\ ∃(y8:Bool),Jt.fn (y7,())=some y8/\Br (!y8) (P false) (k5 (IntKind.i64.wrap (v4.1+(1:Int)),())))) (P true)) ((0:Int),PUnit.unit))))=fnW Gb (look [(65,Bz),(169,Jt)]) Pj Try.f115 (n,g,()) P:=by kernel_rfl
theorem WQ (p:List Int) (n:Int) (P:Bool->Prop):(∃(y3:Int),bR.fn (p,())=some y3/\Br (y3 !=n) (P true) (∃(y4:Bool),Jt.fn (p,())=some y4/\P !y4))=fnW Gb (look [(140,bR),(141,Jt)]) iC Try.f206 (p,n,()) P:=by kernel_rfl
theorem Aff (g:List (List Int)) (n:Int×Unit) (P:Int->Prop):(Em (λ(v3:Int×PUnit) (k4:Int×PUnit->Prop)=>Br (decide (v3.1<(↑g.length:Int))) (∃(y5:List Int),idx g v3.1=some y5/\ ∃(y6:Bool),iC.fn (y5,n.1,())=some y6/\Br y6 (P v3.1) (k4 (IntKind.i64.wrap (v3.1+(1:Int)),()))) (P (-1:Int))) ((0:Int),PUnit.unit))=fnW Gb (look [(206,iC)]) uQ Try.f197 (g,n,()) P:=by kernel_rfl
theorem Afe (g:List (List Int)) (n:Int×Unit) (P:Bool->Prop):(∃(y3:Int),uQ.fn (g,n,())=some y3/\P (decide (y3>=(0:Int))))=fnW Gb (look [(197,uQ)]) uP Try.f205 (g,n,()) P:=by kernel_rfl
theorem xL (n:Int) (g:List (List Int)) (P:Bool->Prop):(∃(y3:Bool),Bz.fn (n,(1:Int),(20:Int),())=some y3/\Br y3 (Br (decide ((↑g.length:Int)<=(8:Int))) (∃(y4:Bool),uP.fn (g,(n,()),())=some y4/\P !y4) (P false)) (P false))=fnW Gb (look [(94,Bz),(205,uP)]) Pj Try.f173 (n,g,()) P:=by kernel_rfl
theorem TL (s:ByteArray) (i:Int) (P:Bool->Prop):((0:Int)<=i/\ ∃(y3:UInt8),s[i.toNat]?=some y3/\Br (decide ((↑y3.toNat:Int)<(65:Int))) (P false) ((0:Int)<=i/\ ∃(y4:UInt8),s[i.toNat]?=some y4/\Br (decide ((↑y4.toNat:Int)>(90:Int))) (P false) (Em (λ(v5:Int×PUnit) (k6:Int×PUnit->Prop)=>Br (decide (v5.1<i)) ((0:Int)<=v5.1/\ ∃(y7:UInt8),s[v5.1.toNat]?=some y7/\(0:Int)<=i/\ ∃(y8:UInt8),s[i.toNat]?=some y8/\Br ((↑y7.toNat:Int)==(↑y8.toNat:Int)) (P false) (k6 (IntKind.i64.wrap (v5.1+(1:Int)),()))) (P true)) ((0:Int),PUnit.unit))))=fnW Gb (look []) cI Try.f116 (s,i,()) P:=by kernel_rfl
theorem MX (s:ByteArray) (P:Bool->Prop):(Em (λ(v2:Int×PUnit) (k3:Int×PUnit->Prop)=>Br (decide (v2.1<(↑s.size:Int))) ((0:Int)<=v2.1/\ ∃(y4:UInt8),s[v2.1.toNat]?=some y4/\ ∃(y5:Bool),Bz.fn (IntKind.i64.wrap (↑y4.toNat:Int),(65:Int),(90:Int),())=some y5/\Br (!y5) (P false) (Em (λ(v6:Int×PUnit) (k7:Int×PUnit->Prop)=>Br (decide (v6.1<v2.1)) ((0:Int)<=v6.1/\ ∃(y8:UInt8),s[v6.1.toNat]?=some y8/\(0:Int)<=v2.1/\ ∃(y9:UInt8),s[v2.1.toNat]?=some y9/\Br ((↑y8.toNat:Int)==(↑y9.toNat:Int)) (P false) (k7 (IntKind.i64.wrap (v6.1+(1:Int)),()))) (k3 (IntKind.i64.wrap (v2.1+(1:Int)),()))) ((0:Int),PUnit.unit))) (∃(y4:Bool),Bz.fn ((↑s.size:Int),(1:Int),(8:Int),())=some y4/\P y4)) ((0:Int),PUnit.unit))=fnW Gb (look [(94,Bz)]) Zr Try.f174 (s,()) P:=by kernel_rfl
abbrev jq:Type:=Int×Int×ByteArray×List (List Int)×PUnit
theorem xU (p:Int×ByteArray×List (List Int)×Unit) (P:Bool->Prop):(Br ((↑p.2.2.1.length:Int)==(0:Int)) (P false) (Br ((↑p.2.1.size:Int) !=(↑p.2.2.1.length:Int)) (P false) (∃(y2:Bool),Pj.fn (p.1,p.2.2.1,())=some y2/\Br (!y2) (P false) (Em (λ(v3:jq) (k4:jq->Prop)=>Br (decide (v3.1<(↑v3.2.2.1.size:Int))) (∃(y5:Bool),cI.fn (v3.2.2.1,v3.1,())=some y5/\Br (!y5) (P false) (k4 (IntKind.i64.wrap (v3.1+(1:Int)),v3.2.1,v3.2.2.1,v3.2.2.2.1,()))) (P true)) ((0:Int),p.1,p.2.1,p.2.2.1,PUnit.unit)))))=fnW Gb (look [(115,Pj),(116,cI)]) Ma Try.f47 (p,()) P:=by kernel_rfl
theorem xO (p:Int×ByteArray×List (List Int)×Unit) (P:Bool->Prop):(∃(y2:Bool),Pj.fn (p.1,p.2.2.1,())=some y2/\Br y2 (∃(y3:Bool),Zr.fn (p.2.1,())=some y3/\Br y3 (P ((↑p.2.1.size:Int)==(↑p.2.2.1.length:Int))) (P false)) (P false))=fnW Gb (look [(173,Pj),(174,Zr)]) Ma Try.f119 (p,()) P:=by kernel_rfl
theorem GG (xs ys:List Int) (P:Bool->Prop):(∃(y3:Bool),Cw.fn (xs,ys,())=some y3/\P y3)=fnW Gb (look [(82,Cw)]) Wp Try.f198 (xs,ys,()) P:=by kernel_rfl
theorem Afg (g:List (List Int)) (n:List Int×Unit) (P:Int->Prop):(Em (λ(v3:Int×PUnit) (k4:Int×PUnit->Prop)=>Br (decide (v3.1<(↑g.length:Int))) (∃(y5:List Int),idx g v3.1=some y5/\ ∃(y6:Bool),Wp.fn (y5,n.1,())=some y6/\Br y6 (P v3.1) (k4 (IntKind.i64.wrap (v3.1+(1:Int)),()))) (P (-1:Int))) ((0:Int),PUnit.unit))=fnW Gb (look [(198,Wp)]) uR Try.f197 (g,n,()) P:=by kernel_rfl
theorem MW (g:List (List Int)) (xs:List Int) (P:Int->Prop):(∃(y3:Int),uR.fn (g,(xs,()),())=some y3/\P y3)=fnW Gb (look [(197,uR)]) Zq Try.f161 (g,xs,()) P:=by kernel_rfl
theorem TK (t:List Int×List (List Int)×List Int×Unit) (xs:List Int) (P:Int->Prop):(∃(y3:Int),Zq.fn (t.2.1,xs,())=some y3/\Br (decide (y3<(0:Int))) (P (-1:Int)) (∃(y4:Int),idx t.2.2.1 y3=some y4/\P y4))=fnW Gb (look [(161,Zq)]) cH Try.f97 (t,xs,()) P:=by kernel_rfl
theorem lY (t:List Int×List (List Int)×List Int×Unit) (xs:List Int) (P:Int->Prop):(∃(y3:Bool),Eu.fn ((t.1,t.2.1,t.2.2.1,()),())=some y3/\Br (!y3) (P (-1:Int)) (∃(y4:Int),cH.fn ((t.1,t.2.1,t.2.2.1,()),xs,())=some y4/\P y4))=fnW Gb (look [(36,Eu),(97,cH)]) Ih Try.f37 (t,xs,()) P:=by kernel_rfl
theorem Ab5 (xs:List Int) (_:True):fnW Gb (look []) bR Try.f140 (xs,()) (λ(z:Int)=>z=(xs.length:Int)):=Eq.mp (Abm xs _) rfl
theorem rP:Sound Try.prog 140 bR:=
 Sound.Hq Ee Bt mixed Try.func140 (by kernel_rfl) (by kernel_rfl) λx h=>Ab5 x.1 h
theorem xA {α:Type} [DecidableEq α]: ∀(l m:List α),l.Nodup->(∀x∈l,x∈m)->l.length<=m.length
 | [],m,_,_=>Mz _
 |a::l,m,hn,hs=>by
  have ha:a∈m:=hs a (Lf ..)
  have hn:=Ca.1 hn
  have:=xA l (m.erase a) hn.2 λx hx=>(List.mem_erase_of_ne (λ(e:x=a)=>hn.1 (by rw [<-e];exact hx))).2 (hs x (An _ hx))
  rw [List.length_erase_of_mem ha] at this
  have:0<m.length:=List.length_pos_of_mem ha
  simp only [Bg]
  omega
def upto (n:Nat):List Int:=(List.range n).map Int.ofNat
theorem FV (n:Nat):(upto n).Nodup:=by
 unfold upto
 exact List.Pairwise.map _ (λa b oB e=>oB (Int.ofNat.inj e)) List.nodup_range
theorem Si {n:Nat} {x:Int} :x∈upto n↔0<=x/\x<n:=by
 unfold upto
 simp only [Bo,Hu]
 constructor
 ·rintro ⟨a,ha,rfl⟩;exact ⟨Int.natCast_nonneg _,Int.ofNat_lt.2 ha⟩
 ·rintro ⟨h1,h2⟩;exact ⟨x.toNat,by omega,by simp only [Int.ofNat_eq_natCast];omega⟩
theorem Vi (n:Nat):(upto n).length=n:=by simp [upto]
theorem gu {xs:List Int} (h: ∀j (hj:j<xs.length),xs[j]∉xs.take j):xs.Nodup:=by
 refine Eb.2 λi j hi hj il e=>h j hj ?_
 rw [<-e]
 exact List.mem_take_iff_getElem.2 ⟨i,by omega,rfl⟩
theorem s7 {xs:List Int} (h:xs.Nodup): ∀j (hj:j<xs.length),xs[j]∉xs.take j:=by
 intro j hj hm
 obtain ⟨i,hi,e⟩:=List.mem_take_iff_getElem.1 hm
 exact Eb.1 h i j (by omega) hj (by omega) e
theorem bE {xs:List Int} (h: ∀x∈xs,0<=x/\x<xs.length):(∀k:Nat,k<xs.length->(k:Int)∈xs)↔ ∀j (hj:j<xs.length),xs[j]∉xs.take j:=by
 constructor
 ·intro ha j hj hm
  have h1:=xA (upto xs.length) (xs.take j++xs.drop (j+1)) (FV _) λx hx=>by
   obtain ⟨h1,h2⟩:=Si.1 hx
   have hx:=ha x.toNat (by omega)
   rw [show ((x.toNat:Nat):Int)=x by omega] at hx
   rw [<-Hp j xs,Aw,Gt hj,Bb] at hx
   rcases hx with hx|rfl|hx
   ·exact Bk _ hx
   ·exact Bk _ hm
   ·exact Bu _ hx
  rw [Vi,Au,Cl,List.length_drop] at h1
  omega
 ·intro hn k hk
  refine Cs λhc=>?_
  have h1:=xA xs ((upto xs.length).erase (k:Int)) (gu hn) λx hx=>by
   refine (List.mem_erase_of_ne λ(e:x=(k:Int))=>hc (by rw [<-e];exact hx)).2 (Si.2 (h x hx))
  rw [List.length_erase_of_mem (Si.2 ⟨by omega,by omega⟩),Vi] at h1
  omega
def mask (xs:List Int):Nat:=xs.foldl (λm x=>m|||2^x.toNat) 0
theorem KO (xs:List Int) (x:Int):mask (xs++ [x])=mask xs|||2^x.toNat:=by simp [mask]
theorem wE (xs:List Int) (k:Nat): ∀a:Nat,(xs.foldl (λm x=>m|||2^x.toNat) a).testBit k=(a.testBit k||xs.any λx=>decide (x.toNat=k)):=by
 induction xs with
 |nil=>simp
 |cons x xs ih=>
  intro a
  rw [My,ih,Nat.testBit_or,Nat.testBit_two_pow,List.any_cons,Bool.or_assoc]
theorem qM (xs:List Int) (k:Nat):(mask xs).testBit k=xs.any λx=>decide (x.toNat=k):=by
 unfold mask
 rw [wE,Nat.zero_testBit,Zx]
theorem VT {xs:List Int} {n:Nat} (h: ∀x∈xs,x.toNat<n):mask xs<2^n:=by
 refine Nat.lt_pow_two_of_testBit _ λk hk=>?_
 rw [qM]
 refine Pu.2 λht=>?_
 obtain ⟨x,hx,he⟩:=Ej.1 ht
 have:=h x hx
 have:=Hy he
 omega
theorem uv {xs:List Int} (h: ∀x∈xs,0<=x/\x<xs.length):mask xs=2^xs.length-1↔ ∀k:Nat,k<xs.length->(k:Int)∈xs:=by
 constructor
 ·intro e k hk
  have h1:=qM xs k
  rw [e,Nat.testBit_two_pow_sub_one,Ew hk] at h1
  obtain ⟨x,hx,he⟩:=Ej.1 h1.symm
  have:=(h x hx).1
  have:=Hy he
  have e:x=(k:Int):=by omega
  exact e▸hx
 ·intro ha
  refine Nat.eq_of_testBit_eq λk=>?_
  rw [qM,Nat.testBit_two_pow_sub_one]
  by_cases hk:k<xs.length
  ·rw [Ew hk]
   exact Ej.2 ⟨k,ha k hk,by simp⟩
  ·rw [Fo hk]
   refine Pu.2 λht=>?_
   obtain ⟨x,hx,he⟩:=Ej.1 ht
   have:=h x hx
   have:=Hy he
   omega
theorem VY {m:Nat} {x:Int} (hm:m<2^20) (h0:0<=x) (h1:x<20):
  IntKind.i64.wrap (((BitVec.ofInt IntKind.i64.bits (m:Int)|||BitVec.ofInt IntKind.i64.bits (IntKind.i64.wrap ((1:Int)*(2:Int)^min x.toNat IntKind.i64.bits))).toNat:Nat):Int)=((m|||2^x.toNat:Nat):Int):=by
 have hx:(2:Nat)^x.toNat<2^20:=Nat.pow_lt_pow_right (by omega) (by omega)
 have e1:min x.toNat IntKind.i64.bits=x.toNat:=by show min x.toNat 64=_;omega
 have e2:(1:Int)*(2:Int)^x.toNat=((2^x.toNat:Nat):Int):=by rw [Int.one_mul];exact (Int.natCast_pow 2 _).symm
 rw [e1,e2,Cq (n:=((2^x.toNat:Nat):Int)) (by have:(0:Int)<=((2^x.toNat:Nat):Int):=Int.natCast_nonneg _;omega) (by omega)]
 show IntKind.i64.wrap (((BitVec.ofInt 64 (m:Int)|||BitVec.ofInt 64 ((2^x.toNat:Nat):Int)).toNat:Nat):Int)=_
 rw [BitVec.ofInt_natCast,BitVec.ofInt_natCast,BitVec.toNat_or,BitVec.toNat_ofNat,BitVec.toNat_ofNat,Nat.mod_eq_of_lt (by omega),Nat.mod_eq_of_lt (by omega)]
 have:=Nat.or_lt_two_pow hm hx
 exact Cq (by omega) (by omega)
theorem wO (p:List Int) (h:short p):fnW Gb (look [(65,Bz),(152,Fu)]) Jt Try.f169 (p,()) (λ(z:Bool)=>z=Kg p):=by
 have hs:=h
 unfold short at h
 refine Eq.mp (xR p _) ⟨_,Ab trivial,⟨λhp=>?_,λhp=>?_⟩⟩
 ·have hp:=Dk hp
  rw [Dc] at hp
  dsimp only at hp
  exact Cd λhh=>hp ⟨by omega,by omega⟩
 ·have hp:=Cv hp
  rw [Dc] at hp
  dsimp only at hp
  refine Cg p.length (λv=>v.1) (λj _=>DL p.length p j) rfl (λj _ hj=>absurd hj (Gk _)) ?_
  rintro j ⟨i,⟨⟩⟩ K hj hi hR hK
  dsimp only at hi⊢
  subst hi
  refine Br.dec (λhl=>?_) λhl=>?_
  ·have hl:j<p.length:=by omega
   refine ⟨_,Cc hl,_,Ab trivial,⟨λhq=>?_,λhq=>?_⟩⟩
   ·have hq:=Dk hq
    rw [Dc,Cq (by omega) (by omega)] at hq
    exact Cd λhh=>hq ⟨(hh.2.2 j hl hl).1,(hh.2.2 j hl hl).2.1⟩
   ·have hq:=Cv hq
    rw [Dc,Cq (by omega) (by omega)] at hq
    refine ⟨⟨by omega,by omega,by omega⟩,_,Cc hl,?_⟩
    rw [show (Int.toNat 0)=0 from rfl,Jo,Ay]
    refine ⟨_,Ab (kv hs j),⟨λhc=>?_,λhc=>?_⟩⟩
    ·have hc:decide (p[j]∈p.take j)=true:=hc
     rw [Jp] at hc
     exact Cd λhh=>(hh.2.2 j hl hl).2.2 hc
    ·have hc:decide (p[j]∈p.take j)=false:=hc
     rw [decide_eq_false_iff_not] at hc
     rw [Cm (by omega)]
     exact hK hl _ rfl (vN hl hR hq.1 hq.2 hc)
  ·have:j=p.length:=by omega
   subst this
   exact Lq ⟨by omega,by omega,hR⟩
theorem Wt:Sound Try.prog 169 Jt:=
 Sound.Hq Ee (Ax Ng (Ax bq Bt)) mixed Try.func169 (by kernel_rfl) (by kernel_rfl) λx h=>wO x.1 h
theorem wK (p:List Int) (h:short p):fnW Gb (look [(94,Bz),(140,bR)]) Jt Try.f141 (p,()) (λ(z:Bool)=>z=Kg p):=by
 unfold short at h
 refine Eq.mp (xM p _) ⟨_,Ab trivial,_,Ab trivial,⟨λhp=>?_,λhp=>?_⟩⟩
 ·have hp:=Dk hp
  rw [Dc] at hp
  dsimp only at hp
  exact Cd λhh=>hp ⟨by omega,by omega⟩
 ·have hp:=Cv hp
  rw [Dc] at hp
  dsimp only at hp
  refine Cg p.length (λv=>v.2.1) (λj v=>v.1=(mask (p.take j):Int)/\ ∀x∈p.take j,0<=x/\x<p.length) rfl ⟨rfl,by simp⟩ ?_
  rintro j ⟨m,i,⟨⟩⟩ K hj hi ⟨hm,hR⟩ hK
  dsimp only at hi hm⊢
  subst hi hm
  refine Br.dec (λhl=>?_) λhl=>?_
  ·have hl:j<p.length:=by omega
   refine ⟨_,Cc hl,_,Ab trivial,_,Ab trivial,⟨λhq=>?_,λhq=>?_⟩⟩
   ·have hq:=Dk hq
    rw [Dc] at hq
    dsimp only at hq
    rw [Cq (by omega) (by omega)] at hq
    exact Cd λhh=>hq ⟨(hh.2.2 j hl hl).1,(hh.2.2 j hl hl).2.1⟩
   ·have hq:=Cv hq
    rw [Dc] at hq
    dsimp only at hq
    rw [Cq (by omega) (by omega)] at hq
    refine ⟨by omega,?_⟩
    rw [Cm (by omega)]
    have hb:mask (p.take j)<2^20:=VT λx hx=>by have:=hR x hx;omega
    refine hK hl _ rfl ⟨?_,?_⟩
    ·dsimp only
     rw [VY hb hq.1 (by omega),Be hl,KO]
    ·rw [Be hl]
     intro x hx
     rcases Aw.1 hx with hx|hx
     ·exact hR x hx
     ·rw [Ad.1 hx];omega
  ·have:j=p.length:=by omega
   subst this
   rw [Bp] at hR⊢
   refine ⟨by omega,?_⟩
   have hx:(2:Nat)^p.length<=2^20:=Nat.pow_le_pow_right (by omega) (by omega)
   have PR:0<(2:Nat)^p.length:=Nat.two_pow_pos _
   have e1:min (p.length:Int).toNat IntKind.i64.bits=p.length:=by show min (p.length:Int).toNat 64=_;omega
   have e2:(1:Int)*(2:Int)^p.length=((2^p.length:Nat):Int):=by rw [Int.one_mul];exact (Int.natCast_pow 2 _).symm
   rw [e1,e2,Cq (n:=((2^p.length:Nat):Int)) (by omega) (by omega),Cq (by omega) (by omega)]
   have hE:((mask p:Int)==((2^p.length:Nat):Int)-1)=decide (mask p=2^p.length-1):=by
    rw [Bool.eq_iff_iff,bZ,Jp]
    omega
   show ((mask p:Int)==((2^p.length:Nat):Int)-1)=Kg p
   rw [hE]
   by_cases hf:mask p=2^p.length-1
   ·rw [Ew hf]
    have hn:=(bE hR).1 ((uv hR).1 hf)
    refine Lq ⟨by omega,by omega,λj hj _=>?_⟩
    have:=hR _ (Ak hj)
    exact ⟨this.1,by omega,hn j hj⟩
   ·rw [Fo hf]
    refine Cd λhh=>hf ((uv hR).2 ((bE hR).2 λj hj=>(hh.2.2 j hj hj).2.2))
theorem mY:Sound Try.prog 141 Jt:=
 Sound.Hq Ee (Ax Vf (Ax rP Bt)) mixed Try.func141 (by kernel_rfl) (by kernel_rfl) λx h=>wK x.1 h
theorem wN (n:Int) (g:List (List Int)) (h:Kr g):fnW Gb (look [(65,Bz),(169,Jt)]) Pj Try.f115 (n,g,()) (λ(z:Bool)=>z=Xp n g):=by
 obtain ⟨h,h4⟩:=h
 refine Eq.mp (xQ n g _) ⟨_,Ab trivial,⟨λhp=>?_,λhp=>?_⟩⟩
 ·have hp:=Dk hp
  rw [Dc] at hp
  exact Cd λhh=>hp hh.1
 ·have hp:=Cv hp
  rw [Dc] at hp
  refine Br.dec (λhg=>?_) λhg=>?_
  ·exact Cd λhh=>by have:=hh.2.1;omega
  ·refine Cg g.length (λv=>v.1) (λj _=> ∀p∈g.take j,Ix n p=true) rfl (by simp) ?_
   rintro j ⟨i,⟨⟩⟩ K hj hi hR hK
   dsimp only at hi⊢
   subst hi
   refine Br.dec (λhl=>?_) λhl=>?_
   ·have hl:j<g.length:=by omega
    have hm:g[j]∈g:=Ak hl
    refine ⟨_,Cc hl,⟨λhe=>?_,λhe=>?_⟩⟩
    ·simp only [bne_iff_ne,ne_eq] at he
     exact Cd λhh=>he (Db.1 (hh.2.2 _ hm)).1
    ·simp only [Kl] at he
     refine ⟨_,Cc hl,_,Ab (h4 _ hm),⟨λhq=>?_,λhq=>?_⟩⟩
     ·have hq:=Dk hq
      exact Cd λhh=>hq (Db.1 (hh.2.2 _ hm)).2
     ·have hq:=Cv hq
      rw [Cm (by omega)]
      refine hK hl _ rfl ?_
      rw [Be hl]
      intro x hx
      rcases Aw.1 hx with hx|hx
      ·exact hR x hx
      ·rw [Ad.1 hx];exact Db.2 ⟨he,hq⟩
   ·have:j=g.length:=by omega
    subst this
    rw [Bp] at hR
    exact Lq ⟨hp,by omega,hR⟩
theorem nc:Sound Try.prog 115 Pj:=
 Sound.Hq Ee (Ax Ng (Ax Wt Bt)) mixed Try.func115 (by kernel_rfl) (by kernel_rfl) λx h=>wN x.1 x.2.1 h
theorem WA (p:List Int) (n:Int) (h:short p):fnW Gb (look [(140,bR),(141,Jt)]) iC Try.f206 (p,n,()) (λ(z:Bool)=>z=!Ix n p):=by
 refine Eq.mp (WQ p n _) ⟨_,Ab trivial,⟨λhe=>?_,λhe=>⟨_,Ab h,?_⟩⟩⟩
 ·simp only [bne_iff_ne,ne_eq] at he
  have:Ix n p=false:=UO.2 λhh=>he hh.1
  rw [this];rfl
 ·simp only [Kl] at he
  show (!Kg p)=_
  congr 1
  cases hp:Kg p with
  |true=>exact Lq ⟨he,hp⟩
  |false=>exact Cd λhh=>by rw [hh.2] at hp;cases hp
theorem AB:Sound Try.prog 206 iC:=
 Sound.Hq Ee (Ax rP (Ax mY Bt)) mixed Try.func206 (by kernel_rfl) (by kernel_rfl) λx h=>WA x.1 x.2.1 h
theorem gm {α:Type} (P:α->Bool): ∀(l:List α) (i:Int),0<=i->(0<=Eg P l i↔l.any P=true)
 | [],i,_=>by simp [Eg]
 |y::r,i,h=>by
  simp only [Eg,List.any_cons,Jq]
  split
  ·rename_i hy;simp [hy,h]
  ·rename_i hy;rw [gm P r (i+1) (by omega)];simp [hy]
theorem Aeu (g:List (List Int)) (n:Int×Unit) (h:Kr g):fnW Gb (look [(206,iC)]) uQ Try.f197 (g,n,()) (λ(z:Int)=>z=Eg (λp=>!Ix n.1 p) g 0):=by
 obtain ⟨h,h4⟩:=h
 refine Eq.mp (Aff g n _) ?_
 refine Cg g.length (λv=>v.1) (λj _=>Eg (λp=>!Ix n.1 p) (g.drop j) j=Eg (λp=>!Ix n.1 p) g 0) rfl (by simp) ?_
 rintro j ⟨i,⟨⟩⟩ K hj hi hR hK
 dsimp only at hi⊢
 subst hi
 refine Br.dec (λhl=>?_) λhl=>?_
 ·have hl:j<g.length:=by omega
  rw [Gt hl] at hR
  simp only [Eg] at hR
  refine ⟨_,Cc hl,_,Ab (h4 _ (Ak hl)),⟨λhe=>?_,λhe=>?_⟩⟩
  ·have he:(!Ix n.1 g[j])=true:=he
   rw [Ab he] at hR
   exact hR
  ·have he:(!Ix n.1 g[j])=false:=he
   rw [Al (by rw [he];decide)] at hR
   rw [Cm (by omega)]
   exact hK hl _ rfl (by push_cast;exact hR)
 ·have:j=g.length:=by omega
  subst this
  rw [Ww] at hR
  exact hR
theorem MA:Sound Try.prog 197 uQ:=
 Sound.Hq Ee (Ax AB Bt) mixed Try.func197 (by kernel_rfl) (by kernel_rfl) λx h=>Aeu x.1 x.2.1 h
theorem Aet (g:List (List Int)) (n:Int×Unit) (h:Kr g):fnW Gb (look [(197,uQ)]) uP Try.f205 (g,n,()) (λ(z:Bool)=>z=List.any g (λp=>!Ix n.1 p)):=by
 refine Eq.mp (Afe g n _) ⟨_,Ab h,?_⟩
 rw [Bool.eq_iff_iff,Jp]
 exact gm _ g 0 (Iz 0)
theorem LZ:Sound Try.prog 205 uP:=
 Sound.Hq Ee (Ax MA Bt) mixed Try.func205 (by kernel_rfl) (by kernel_rfl) λx h=>Aet x.1 x.2.1 h
theorem wJ (n:Int) (g:List (List Int)) (h:Kr g):fnW Gb (look [(94,Bz),(205,uP)]) Pj Try.f173 (n,g,()) (λ(z:Bool)=>z=Xp n g):=by
 refine Eq.mp (xL n g _) ⟨_,Ab trivial,⟨λhp=>?_,λhp=>?_⟩⟩
 ·have hp:Nu n 1 20=true:=hp
  rw [Dc] at hp
  refine Br.dec (λhl=>⟨_,Ab h,?_⟩) λhl=>?_
  ·show (!List.any g (λp=>!Ix n p))=Xp n g
   cases ha:List.any g (λp=>!Ix n p) with
   |true=>
    obtain ⟨p,uc,HR⟩:=Ej.1 ha
    exact Cd λhh=>by rw [hh.2.2 p uc] at HR;cases HR
   |false=>
    refine Lq ⟨hp,by omega,λp hm=>?_⟩
    have:=List.any_eq_false.1 ha p hm
    simpa using this
  ·exact Cd λhh=>by have:=hh.2.1;omega
 ·refine Cd λhh=>?_
  have:Nu n 1 20=true:=Dc.2 hh.1
  have hp:Nu n 1 20=false:=hp
  rw [this] at hp;cases hp
theorem mX:Sound Try.prog 173 Pj:=
 Sound.Hq Ee (Ax Vf (Ax LZ Bt)) mixed Try.func173 (by kernel_rfl) (by kernel_rfl) λx h=>wJ x.1 x.2.1 h
theorem Md {s:ByteArray} {k:Nat} (h:k<s.size):s[k]?=some s[k]:=getElem?_pos s k h
theorem RL (s:ByteArray) (i:Int) (h:0<=i/\i<s.size/\s.size<=4294967296):fnW Gb (look []) cI Try.f116 (s,i,()) (λ(z:Bool)=>z=ly s i):=by
 obtain ⟨h1,h2,h3⟩:=h
 have hi:i.toNat<s.size:=by omega
 refine Eq.mp (TL s i _) ⟨h1,_,Md hi,Br.dec (λhq=>?_) λhq=>⟨h1,_,Md hi,Br.dec (λhr=>?_) λhr=>?_⟩⟩
 ·refine Cd λ⟨c,hc,UX,_⟩=>?_
  rw [Md hi] at hc;cases hc;omega
 ·refine Cd λ⟨c,hc,_,UX,_⟩=>?_
  rw [Md hi] at hc;cases hc;omega
 ·refine Cg i.toNat (λv=>v.1) (λj _=> ∀k,k<j->s[k]?≠some s[i.toNat]) rfl (λk hk=>absurd hk (Gk _)) ?_
  rintro j ⟨i',⟨⟩⟩ K hj pb hR hK
  dsimp only at pb⊢
  subst pb
  refine Br.dec (λhl=>?_) λhl=>?_
  ·have hl:j<i.toNat:=by omega
   have hj:j<s.size:=by omega
   rw [Ay]
   refine ⟨by omega,_,Md hj,h1,_,Md hi,⟨λhe=>?_,λhe=>?_⟩⟩
   ·simp only [bZ,Gv] at he
    refine Cd λ⟨c,hc,_,_,UX⟩=>?_
    rw [Md hi] at hc;cases hc
    exact UX j hl (by rw [Md hj,UInt8.toNat_inj.1 he])
   ·simp only [Mq,ne_eq,Gv] at he
    rw [Cm (by omega)]
    refine hK hl _ rfl λk hk=>?_
    by_cases e:k=j
    ·subst e
     rw [Md hj]
     exact λe=>he (by rw [Ba e])
    ·exact hR k (by omega)
  ·have:j=i.toNat:=by omega
   subst this
   exact Lq ⟨_,Md hi,by omega,by omega,hR⟩
theorem xo:Sound Try.prog 116 cI:=
 Sound.Hq Ee Bt mixed Try.func116 (by kernel_rfl) (by kernel_rfl) λx h=>RL x.1 x.2.1 h
theorem KX (s:ByteArray) (h:s.size<=4294967296):fnW Gb (look [(94,Bz)]) Zr Try.f174 (s,()) (λ(z:Bool)=>z=Zn s):=by
 refine Eq.mp (MX s _) ?_
 refine Cg s.size (λv=>v.1) (λj _=> ∀k,k<j->vq s k) rfl (λk hk=>absurd hk (Gk _)) ?_
 rintro j ⟨i,⟨⟩⟩ K hj hi hR hK
 dsimp only at hi⊢
 subst hi
 refine Br.dec (λhl=>?_) λhl=>?_
 ·have hl:j<s.size:=by omega
  rw [Ay]
  have hb:=(s[j]).toNat_lt
  refine ⟨by omega,_,Md hl,_,Ab trivial,⟨λhq=>?_,λhq=>?_⟩⟩
  ·have hq:=Dk hq
   rw [Dc] at hq
   dsimp only at hq
   rw [Cq (by omega) (by omega)] at hq
   refine Cd λhh=>?_
   obtain ⟨c,hc,UX,hc2,_⟩:=hh.2 j hl
   rw [Md hl] at hc;cases hc
   exact hq ⟨by omega,by omega⟩
  ·have hq:=Cv hq
   rw [Dc] at hq
   dsimp only at hq
   rw [Cq (by omega) (by omega)] at hq
   refine Cg j (λv=>v.1) (λm _=> ∀k,k<m->s[k]?≠some s[j]) rfl (λk hk=>absurd hk (Gk _)) ?_
   rintro m ⟨i',⟨⟩⟩ K' hm pb hR' hK'
   dsimp only at pb⊢
   subst pb
   refine Br.dec (λNs=>?_) λNs=>?_
   ·have Ns:m<j:=by omega
    have hm':m<s.size:=by omega
    rw [Ay]
    refine ⟨by omega,_,Md hm',by omega,_,Md hl,⟨λhe=>?_,λhe=>?_⟩⟩
    ·simp only [bZ,Gv] at he
     refine Cd λhh=>?_
     obtain ⟨c,hc,_,_,UX⟩:=hh.2 j hl
     rw [Md hl] at hc;cases hc
     exact UX m Ns (by rw [Md hm',UInt8.toNat_inj.1 he])
    ·simp only [Mq,ne_eq,Gv] at he
     rw [Cm (by omega)]
     refine hK' Ns _ rfl λk hk=>?_
     by_cases e:k=m
     ·subst e
      rw [Md hm']
      exact λe=>he (by rw [Ba e])
     ·exact hR' k (by omega)
   ·have:m=j:=by omega
    subst this
    rw [Cm (by omega)]
    refine hK hl _ rfl λk hk=>?_
    by_cases e:k=m
    ·subst e
     exact ⟨_,Md hl,by omega,by omega,hR'⟩
    ·exact hR k (by omega)
 ·have:j=s.size:=by omega
  subst this
  refine ⟨_,Ab trivial,?_⟩
  show Nu s.size 1 8=_
  cases hr:Nu s.size 1 8 with
  |true=>rw [Dc] at hr;exact Lq ⟨by omega,hR⟩
  |false=>refine Cd λhh=>?_;rw [Dc.2 ⟨by omega,by omega⟩] at hr;cases hr
theorem td:Sound Try.prog 174 Zr:=
 Sound.Hq Ee (Ax Vf Bt) mixed Try.func174 (by kernel_rfl) (by kernel_rfl) λx h=>KX x.1 h
theorem FW {p:PP} (h:Dh p=true):1<=p.1/\p.1<=20/\1<=p.2.2.1.length/\p.2.2.1.length<=8:=by
 obtain ⟨h1,h2,h3⟩:=Db.1 h
 obtain ⟨h4,h5,_⟩:=Db.1 h1
 obtain ⟨h6,_⟩:=Db.1 h2
 omega
theorem wR (p:PP) (h:Ii p):fnW Gb (look [(115,Pj),(116,cI)]) Ma Try.f47 (p,()) (λ(z:Bool)=>z=Dh p):=by
 obtain ⟨hn,hg⟩:=h
 refine Eq.mp (xU p _) ⟨λh0=>?_,λh0=>⟨λh1=>?_,λh1=>⟨_,Ab hg,⟨λh2=>?_,λh2=>?_⟩⟩⟩⟩
 ·simp only [bZ] at h0
  exact Cd λhh=>by obtain ⟨_,h2,h3⟩:=hh;have:=(Db.1 h2).1;omega
 ·simp only [bne_iff_ne,ne_eq,Gv] at h1
  exact Cd λhh=>h1 hh.2.2
 ·have h2:=Dk h2
  exact Cd λhh=>h2 hh.1
 ·simp only [Mq,ne_eq] at h0
  simp only [Kl,Gv] at h1
  have h2:Xp p.1 p.2.2.1=true:=Cv h2
  refine Cg p.2.1.size (λv=>v.1) (λj v=>v.2=(p.1,p.2.1,p.2.2.1,())/\ ∀k,k<j->vq p.2.1 k) rfl ⟨rfl,λk hk=>absurd hk (Gk _)⟩ ?_
  rintro j ⟨i,v⟩ K hj hi ⟨hv,hR⟩ hK
  dsimp only at hi hv⊢
  subst hi hv
  dsimp only
  refine Br.dec (λhl=>?_) λhl=>?_
  ·have hl:j<p.2.1.size:=by omega
   refine ⟨_,Ab ⟨Int.natCast_nonneg j,Int.ofNat_lt.2 hl,hn⟩,⟨λhq=>?_,λhq=>?_⟩⟩
   ·have hq: ¬ly p.2.1 j=true:=Dk hq
    refine Cd λhh=>hq (Db.2 ?_)
    rw [Ay]
    exact (Db.1 hh.2.1).2 j hl
   ·have hq:ly p.2.1 j=true:=Cv hq
    have hq:=Db.1 hq
    rw [Ay] at hq
    rw [Cm (by omega)]
    refine hK hl _ rfl ⟨rfl,λk hk=>?_⟩
    by_cases e:k=j
    ·subst e;exact hq
    ·exact hR k (by omega)
  ·have:j=p.2.1.size:=by omega
   subst this
   have:=(Db.1 h2).2.1
   exact Lq ⟨h2,Db.2 ⟨⟨by omega,by omega⟩,hR⟩,h1⟩
theorem cM:Sound Try.prog 47 Ma:=
 Sound.Hq Ee (Ax nc (Ax xo Bt)) mixed Try.func47 (by kernel_rfl) (by kernel_rfl) λx h=>wR x.1 h
theorem wL (p:PP) (h:Ii p):fnW Gb (look [(173,Pj),(174,Zr)]) Ma Try.f119 (p,()) (λ(z:Bool)=>z=Dh p):=by
 obtain ⟨hn,hg⟩:=h
 refine Eq.mp (xO p _) ⟨_,Ab hg,⟨λh1=>⟨_,Ab hn,⟨λh2=>?_,λh2=>?_⟩⟩,λh1=>?_⟩⟩
 ·have h1:Xp p.1 p.2.2.1=true:=h1
  have h2:Zn p.2.1=true:=h2
  by_cases e:p.2.1.size=p.2.2.1.length
  ·rw [e,beq_self_eq_true];exact Lq ⟨h1,h2,e⟩
  ·rw [show ((p.2.1.size:Int)==(p.2.2.1.length:Int))=false from Mq.2 (by omega)];exact Cd λhh=>e hh.2.2
 ·have h2:Zn p.2.1=false:=h2
  exact Cd λhh=>by rw [hh.2.1] at h2;cases h2
 ·have h1:Xp p.1 p.2.2.1=false:=h1
  exact Cd λhh=>by rw [hh.1] at h1;cases h1
theorem mZ:Sound Try.prog 119 Ma:=
 Sound.Hq Ee (Ax mX (Ax td Bt)) mixed Try.func119 (by kernel_rfl) (by kernel_rfl) λx h=>wL x.1 h
theorem gn {α:Type} (P:α->Bool): ∀(l:List α) (i:Int),0<=i->Eg P l i<i+l.length
 | [],i,_=>by simp only [Eg,Iq];omega
 |y::r,i,h=>by
  simp only [Eg,Bg]
  split
  ·omega
  ·have:=gn P r (i+1) (by omega);omega
theorem EF (xs ys:List Int) (h:short xs):fnW Gb (look [(82,Cw)]) Wp Try.f198 (xs,ys,()) (λ(z:Bool)=>z=decide (xs=ys)):=Eq.mp (GG xs ys _) ⟨_,Ab h,rfl⟩
theorem rM:Sound Try.prog 198 Wp:=
 Sound.Hq Ee (Ax Vd Bt) mixed Try.func198 (by kernel_rfl) (by kernel_rfl) λx h=>EF x.1 x.2.1 h
theorem Aev (g:List (List Int)) (n:List Int×Unit) (h:Kr g):fnW Gb (look [(198,Wp)]) uR Try.f197 (g,n,()) (λ(z:Int)=>z=Eg (λp=>decide (p=n.1)) g 0):=by
 obtain ⟨h,h4⟩:=h
 refine Eq.mp (Afg g n _) ?_
 refine Cg g.length (λv=>v.1) (λj _=>Eg (λp=>decide (p=n.1)) (g.drop j) j=Eg (λp=>decide (p=n.1)) g 0) rfl (by simp) ?_
 rintro j ⟨i,⟨⟩⟩ K hj hi hR hK
 dsimp only at hi⊢
 subst hi
 refine Br.dec (λhl=>?_) λhl=>?_
 ·have hl:j<g.length:=by omega
  rw [Gt hl] at hR
  simp only [Eg] at hR
  refine ⟨_,Cc hl,_,Ab (h4 _ (Ak hl)),⟨λhe=>?_,λhe=>?_⟩⟩
  ·have he:decide (g[j]=n.1)=true:=he
   rw [Ab he] at hR
   exact hR
  ·have he:decide (g[j]=n.1)=false:=he
   rw [Al (by rw [he];decide)] at hR
   rw [Cm (by omega)]
   exact hK hl _ rfl (by push_cast;exact hR)
 ·have:j=g.length:=by omega
  subst this
  rw [Ww] at hR
  exact hR
theorem MB:Sound Try.prog 197 uR:=
 Sound.Hq Ee (Ax rM Bt) mixed Try.func197 (by kernel_rfl) (by kernel_rfl) λx h=>Aev x.1 x.2.1 h
theorem KW (g:List (List Int)) (xs:List Int) (h:Kr g/\short xs):fnW Gb (look [(197,uR)]) Zq Try.f161 (g,xs,()) (λ(z:Int)=>z=Eg (λp=>decide (p=xs)) g 0):=Eq.mp (MW g xs _) ⟨_,Ab h.1,rfl⟩
theorem tb:Sound Try.prog 161 Zq:=
 Sound.Hq Ee (Ax MB Bt) mixed Try.func161 (by kernel_rfl) (by kernel_rfl) λx h=>KW x.1 x.2.1 h
theorem VR (t:TT) (xs:List Int) (h:t.2.2.1.length=t.2.1.length) (hn: ¬Eg (λp=>decide (p=xs)) t.2.1 0<0):
  idx t.2.2.1 (Eg (λp=>decide (p=xs)) t.2.1 0)=some (Uu t xs):=by
 have h1:=gn (λp=>decide (p=xs)) t.2.1 0 (Iz 0)
 unfold Uu
 rw [Al hn]
 generalize Eg (λp=>decide (p=xs)) t.2.1 0=k at*
 have hk:k.toNat<t.2.2.1.length:=by omega
 rw [show k=(k.toNat:Int) by omega,Cc hk,Ay,Ah,Ac hk];rfl
theorem RK (t:TT) (xs:List Int) (h:Kv t/\short xs/\t.2.2.1.length=t.2.1.length):fnW Gb (look [(161,Zq)]) cH Try.f97 (t,xs,()) (λ(z:Int)=>z=Uu t xs):=by
 refine Eq.mp (TK t xs _) ⟨_,Ab ⟨h.1.2.1,h.2.1⟩,Br.dec (λhn=>?_) λhn=>?_⟩
 ·exact (Ab hn).symm
 ·exact ⟨_,VR t xs h.2.2 hn,rfl⟩
theorem xn:Sound Try.prog 97 cH:=
 Sound.Hq Ee (Ax tb Bt) mixed Try.func97 (by kernel_rfl) (by kernel_rfl) λx h=>RK x.1 x.2.1 h
theorem lD (t:TT) (xs:List Int) (h:Kv t/\short xs):fnW Gb (look [(36,Eu),(97,cH)]) Ih Try.f37 (t,xs,()) (λ(z:Int)=>z=Xd t xs):=by
 refine Eq.mp (lY t xs _) ⟨_,Ab h.1,⟨λhw=>?_,λhw=>?_⟩⟩
 ·exact (Al (Dk hw)).symm
 ·have hw:Gr t=true:=Cv hw
  exact ⟨_,Ab ⟨h.1,h.2,(Db.1 hw).2.2.1⟩,(Ab hw).symm⟩
theorem eX:Sound Try.prog 37 Ih:=
 Sound.Hq Ee (Ax Kj (Ax xn Bt)) mixed Try.func37 (by kernel_rfl) (by kernel_rfl) λx h=>lD x.1 x.2.1 h
noncomputable abbrev cJ:Spec:=Hq (.pair tI (.pair tL .unit)) .bool false true (λx=>short x.2.1) (λx=>Ix x.1 x.2.1)
noncomputable abbrev Re:Spec:=Hq (.pair Mw (.pair tL .unit)) .bool false true (λx=>Ii x.1/\short x.2.1) (λx=>Dh x.1&&Ix x.1.1 x.2.1)
theorem TM (n:Int) (s:List Int) (P:Bool->Prop):(Br ((↑s.length:Int)==n) (∃(y3:Bool),Jt.fn (s,())=some y3/\P y3) (P false))=fnW Gb (look [(169,Jt)]) cJ Try.f148 (n,s,()) P:=by kernel_rfl
theorem tH (p:Int×ByteArray×List (List Int)×Unit) (s:List Int) (P:Bool->Prop):(∃(y3:Bool),Ma.fn ((p.1,p.2.1,p.2.2.1,()),())=some y3/\Br y3 (∃(y4:Bool),cJ.fn (p.1,s,())=some y4/\P y4) (P false))=fnW Gb (look [(47,Ma),(148,cJ)]) Re Try.f73 (p,s,()) P:=by kernel_rfl
theorem RM (n:Int) (s:List Int) (h:short s):fnW Gb (look [(169,Jt)]) cJ Try.f148 (n,s,()) (λ(z:Bool)=>z=Ix n s):=by
 refine Eq.mp (TM n s _) ⟨λhe=>⟨_,Ab h,?_⟩,λhe=>?_⟩
 ·simp only [bZ] at he
  show Kg s=_
  cases hp:Kg s with
  |true=>exact Lq ⟨he,hp⟩
  |false=>exact Cd λhh=>by rw [hh.2] at hp;cases hp
 ·simp only [Mq,ne_eq] at he
  exact Cd λhh=>he hh.1
theorem xp:Sound Try.prog 148 cJ:=
 Sound.Hq Ee (Ax Wt Bt) mixed Try.func148 (by kernel_rfl) (by kernel_rfl) λx h=>RM x.1 x.2.1 h
theorem sU (p:PP) (s:List Int) (h:Ii p/\short s):fnW Gb (look [(47,Ma),(148,cJ)]) Re Try.f73 (p,s,()) (λ(z:Bool)=>z=(Dh p&&Ix p.1 s)):=by
 refine Eq.mp (tH p s _) ⟨_,Ab h.1,⟨λhe=>⟨_,Ab h.2,?_⟩,λhe=>?_⟩⟩
 ·have he:Dh p=true:=he
  rw [he];rfl
 ·have he:Dh p=false:=he
  rw [he];rfl
theorem bt:Sound Try.prog 73 Re:=
 Sound.Hq Ee (Ax cM (Ax xp Bt)) mixed Try.func73 (by kernel_rfl) (by kernel_rfl) λx h=>sU x.1 x.2.1 h
def Hs (xs:List Int) (i:Int):Int:=xs.getD i.toNat 0
def As (p q:List Int):List Int:=p.map (Hs q)
def aW (f:Nat->Nat) (g:Nat->Int) (m:Nat) (init:List Int):List Int:=(List.range m).foldl (λ(out:List Int) (i:Nat)=>out.set (f i) (g i)) init
def Dl (p:List Int):List Int:=aW (λi=>(Hs p (i:Int)).toNat) (λi=>(i:Int)) p.length (List.replicate p.length 0)
def Oj (n:Nat) (p:List Int):Prop:= ∀y∈p,0<=y/\y<n
noncomputable abbrev Rc:Spec:=Hq (.pair tL (.pair tL .unit)) tL false true (λx=>List.length x.1<=20/\Oj (List.length x.2.1) x.1) (λx=>As x.1 x.2.1)
noncomputable abbrev Jy:Spec:=Hq (.pair tL .unit) tL false true (λx=>List.length x.1<=20/\Oj (List.length x.1) x.1) (λx=>Dl x.1)
noncomputable abbrev Pa:Spec:=Hq (.pair tI .unit) tL false true (λx=>0<=x.1/\x.1<=20) (λx=>upto x.1.toNat)
noncomputable abbrev Pr:Spec:=Hq (.pair tL .unit) tL false true (λx=>Kg x.1=true) (λx=>Dl x.1)
def Av (g:List (List Int)) (l:Int):List Int:=if l>0 then g.getD (l-1).toNat [] else Dl (g.getD (-l-1).toNat [])
def Hj (n:Int) (l:Int):Prop:=l≠0/\ -n<=l/\l<=n
noncomputable abbrev Ku:Spec:=Hq (.pair ky (.pair tI .unit)) tL false false (λx=>Hj (List.length x.1) x.2.1/\List.length x.1<=8/\ ∀p∈x.1,Kg p=true) (λx=>Av x.1 x.2.1)
def Cu (n:Nat):List Int:=(List.range n).flatMap λ(k:Nat)=> [(k:Int)+1,-((k:Int)+1)]
noncomputable abbrev Zs:Spec:=Hq (.pair tI .unit) tL false true (λx=>0<=x.1/\x.1<=8) (λx=>Cu x.1.toNat)
noncomputable abbrev cF:Spec:=Hq (.pair Mw (.pair tL (.pair tI .unit))) tL false true (λx=>Dh x.1=true/\List.length x.2.1<=20/\(∀y∈x.2.1,0<=y/\y<x.1.1)/\Hj (List.length x.1.2.2.1) x.2.2.1) (λx=>As x.2.1 (Av x.1.2.2.1 x.2.2.1))
theorem tA (p:List Int) (P:List Int->Prop):(((0:Int)<=(↑p.length:Int)/\(↑p.length:Int)<(↑Et:Int)+(1:Int))/\(↑p.length:Int)=(↑p.length:Int)/\0=0/\(List.replicate (↑p.length:Int).toNat (Int.ofNat (nat_lit 0))).length=(List.replicate (↑p.length:Int).toNat (Int.ofNat (nat_lit 0))).length/\Em (λ(v2:Int×List Int×PUnit) (k3:Int×List Int×PUnit->Prop)=>Br (decide (v2.1<(↑p.length:Int))) (∃(y4:Int),idx p v2.1=some y4/\((0:Int)<=y4/\y4<(↑v2.2.1.length:Int))/\0+y4.toNat<v2.2.1.length/\0=0/\v2.2.1.length=(v2.2.1.set (0+y4.toNat) v2.1).length/\k3 (IntKind.i64.wrap (v2.1+(1:Int)),v2.2.1.set (0+y4.toNat) v2.1,())) (P (List.take v2.2.1.length (List.drop 0 v2.2.1)))) ((0:Int),List.replicate (↑p.length:Int).toNat (Int.ofNat (nat_lit 0)),PUnit.unit))=fnW Gb (look []) Jy Try.f143 (p,()) P:=by kernel_rfl
theorem ND (p:List Int) (P:List Int->Prop):(((0:Int)<=(↑p.length:Int)/\(↑p.length:Int)<(↑Et:Int)+(1:Int))/\(↑p.length:Int)=(↑p.length:Int)/\0=0/\(List.replicate (↑p.length:Int).toNat (Int.ofNat (nat_lit 0))).length=(List.replicate (↑p.length:Int).toNat (Int.ofNat (nat_lit 0))).length/\Em (λ(v2:Int×List Int×PUnit) (k3:Int×List Int×PUnit->Prop)=>Br (decide (v2.1<(↑p.length:Int))) (∃(y4:Int),idx p v2.1=some y4/\((0:Int)<=y4/\y4<(↑v2.2.1.length:Int))/\0+y4.toNat<v2.2.1.length/\0=0/\v2.2.1.length=(v2.2.1.set (0+y4.toNat) v2.1).length/\k3 (IntKind.i64.wrap (v2.1+(1:Int)),v2.2.1.set (0+y4.toNat) v2.1,())) (P (List.take v2.2.1.length (List.drop 0 v2.2.1)))) ((0:Int),List.replicate (↑p.length:Int).toNat (Int.ofNat (nat_lit 0)),PUnit.unit))=fnW Gb (look []) Jy Try.f190 (p,()) P:=by kernel_rfl
theorem tG (p:List Int) (P:List Int->Prop):(∃(y2:Bool),Jt.fn (p,())=some y2/\Br (!y2) (P (List.take 0 (List.drop 0 []))) (∃(y3:List Int),Jy.fn (p,())=some y3/\P y3))=fnW Gb (look [(169,Jt),(190,Jy)]) Pr Try.f187 (p,()) P:=by kernel_rfl
theorem GC (n:Int) (P:List Int->Prop):(0=0/\0=([]:List Int).length/\Em (λ(v2:Int×List Int×PUnit) (k3:Int×List Int×PUnit->Prop)=>Br (decide (v2.1<n)) (0=0/\v2.2.1.length=v2.2.1.length/\v2.2.1.length+(List.take 1 (List.drop 0 [v2.1])).length<=Et/\0=0/\(v2.2.1++List.take 1 (List.drop 0 [v2.1])).length=(v2.2.1++List.take 1 (List.drop 0 [v2.1])).length/\k3 (IntKind.i64.wrap (v2.1+(1:Int)),v2.2.1++List.take 1 (List.drop 0 [v2.1]),())) (P (List.take v2.2.1.length (List.drop 0 v2.2.1)))) ((0:Int),[],PUnit.unit))=fnW Gb (look []) Pa Try.f66 (n,()) P:=by kernel_rfl
theorem GI (g:List (List Int)) (l:Int) (P:List Int->Prop):(Br (decide (l>(0:Int))) (∃(y3:List Int),idx g (IntKind.i64.wrap (l-(1:Int)))=some y3/\P y3) (∃(y3:List Int),idx g (IntKind.i64.wrap (IntKind.i64.wrap ((0:Int)-l)-(1:Int)))=some y3/\ ∃(y4:List Int),Jy.fn (y3,())=some y4/\P y4))=fnW Gb (look [(143,Jy)]) Ku Try.f147 (g,l,()) P:=by kernel_rfl
theorem MZ (n:Int) (P:List Int->Prop):(0=0/\0=([]:List Int).length/\Em (λ(v2:Int×List Int×PUnit) (k3:Int×List Int×PUnit->Prop)=>Br (decide (v2.1<n)) (0=0/\v2.2.1.length=v2.2.1.length/\v2.2.1.length+(List.take 2 (List.drop 0 [IntKind.i64.wrap (v2.1+(1:Int)),IntKind.i64.wrap ((0:Int)-IntKind.i64.wrap (v2.1+(1:Int)))])).length<=Et/\0=0/\(v2.2.1++List.take 2 (List.drop 0 [IntKind.i64.wrap (v2.1+(1:Int)),IntKind.i64.wrap ((0:Int)-IntKind.i64.wrap (v2.1+(1:Int)))])).length=(v2.2.1++List.take 2 (List.drop 0 [IntKind.i64.wrap (v2.1+(1:Int)),IntKind.i64.wrap ((0:Int)-IntKind.i64.wrap (v2.1+(1:Int)))])).length/\k3 (IntKind.i64.wrap (v2.1+(1:Int)),v2.2.1++List.take 2 (List.drop 0 [IntKind.i64.wrap (v2.1+(1:Int)),IntKind.i64.wrap ((0:Int)-IntKind.i64.wrap (v2.1+(1:Int)))]),())) (P (List.take v2.2.1.length (List.drop 0 v2.2.1)))) ((0:Int),[],PUnit.unit))=fnW Gb (look []) Zs Try.f121 (n,()) P:=by kernel_rfl
theorem TG (p:Int×ByteArray×List (List Int)×Unit) (s:List Int) (l:Int) (P:List Int->Prop):(∃(y4:List Int),idx p.2.2.1 (IntKind.i64.wrap ((if true=true then if IntKind.i64.wrap ((0:Int)-l)>l then IntKind.i64.wrap ((0:Int)-l) else l else if IntKind.i64.wrap ((0:Int)-l)<l then IntKind.i64.wrap ((0:Int)-l) else l)-(1:Int)))=some y4/\Br (decide (l<(0:Int))) (∃(y5:List Int),Pr.fn (y4,())=some y5/\0=0/\0=([]:List Int).length/\Em (λ(v6:Int×List Int×PUnit) (k7:Int×List Int×PUnit->Prop)=>Br (decide (v6.1<(↑s.length:Int))) (∃(y8:Int),idx s v6.1=some y8/\ ∃(y9:Int),idx y5 y8=some y9/\0=0/\v6.2.1.length=v6.2.1.length/\v6.2.1.length+(List.take 1 (List.drop 0 [y9])).length<=Et/\0=0/\(v6.2.1++List.take 1 (List.drop 0 [y9])).length=(v6.2.1++List.take 1 (List.drop 0 [y9])).length/\k7 (IntKind.i64.wrap (v6.1+(1:Int)),v6.2.1++List.take 1 (List.drop 0 [y9]),())) (P (List.take v6.2.1.length (List.drop 0 v6.2.1)))) ((0:Int),[],PUnit.unit)) (0=0/\0=([]:List Int).length/\Em (λ(v5:Int×List Int×PUnit) (k6:Int×List Int×PUnit->Prop)=>Br (decide (v5.1<(↑s.length:Int))) (∃(y7:Int),idx s v5.1=some y7/\ ∃(y8:Int),idx y4 y7=some y8/\0=0/\v5.2.1.length=v5.2.1.length/\v5.2.1.length+(List.take 1 (List.drop 0 [y8])).length<=Et/\0=0/\(v5.2.1++List.take 1 (List.drop 0 [y8])).length=(v5.2.1++List.take 1 (List.drop 0 [y8])).length/\k6 (IntKind.i64.wrap (v5.1+(1:Int)),v5.2.1++List.take 1 (List.drop 0 [y8]),())) (P (List.take v5.2.1.length (List.drop 0 v5.2.1)))) ((0:Int),[],PUnit.unit)))=fnW Gb (look [(187,Pr)]) cF Try.f145 (p,s,l,()) P:=by kernel_rfl
theorem Jr {xs:List Int} {i:Nat} (h:i<xs.length):Hs xs (i:Int)=xs[i]:=by
 unfold Hs
 rw [Ay,Ah,Ac h];rfl
theorem fZ {xs:List Int} {y:Int} (h0:0<=y) (h:y<xs.length):idx xs y=some (Hs xs y):=by
 have hy:y.toNat<xs.length:=by omega
 have e:y=(y.toNat:Int):=by omega
 rw [e,Cc hy,Jr hy]
theorem Zc (f:Nat->Nat) (g:Nat->Int) (m:Nat) (init:List Int):aW f g (m+1) init=(aW f g m init).set (f m) (g m):=by simp [aW,List.range_succ]
theorem aX (f:Nat->Nat) (g:Nat->Int) (m:Nat) (init:List Int):(aW f g m init).length=init.length:=by
 induction m with
 |zero=>rfl
 |succ m ih=>rw [Zc,Ez,ih]
theorem nE (f:Nat->Nat) (g:Nat->Int) (init:List Int): ∀(m:Nat),(∀i j,i<m->j<m->f i=f j->i=j)-> ∀i,i<m->f i<init.length->(aW f g m init)[f i]?=some (g i)
 |0,_,i,h,_=>absurd h (Gk _)
 |m+1,hf,i,hi,hl=>by
  rw [Zc]
  by_cases e:i=m
  ·subst e
   exact List.getElem?_set_self (by rw [aX];exact hl)
  ·rw [List.getElem?_set_ne (λh=>e (hf i m hi (by omega) h.symm))]
   exact nE f g init m (λa b ha hb=>hf a b (by omega) (by omega)) i (by omega) hl
structure Zy (p:List Int):Prop where
 pos:1<=p.length
 len:p.length<=20
 row:Oj p.length p
 nodup:p.Nodup
theorem gy {p:List Int} (h:Kg p=true):Zy p:=by
 obtain ⟨h1,h2,h3⟩:=Db.1 h
 refine ⟨h1,h2,λy hy=>?_,gu λj hj=>(h3 j hj hj).2.2⟩
 obtain ⟨j,hj,rfl⟩:=Az.1 hy
 have:=h3 j hj hj
 omega
theorem Zy.inj {p:List Int} (h:Zy p) (i j:Nat) (hi:i<p.length) (hj:j<p.length) (e:(Hs p (i:Int)).toNat=(Hs p (j:Int)).toNat):i=j:=by
 rw [Jr hi,Jr hj] at e
 have h1:=h.row _ (Ak hi)
 have h2:=h.row _ (Ak hj)
 have e:p[i]=p[j]:=by omega
 refine Cs λJg=>?_
 rcases Nat.lt_or_gt_of_ne Jg with hl|hl
 ·exact Eb.1 h.nodup i j hi hj hl e
 ·exact Eb.1 h.nodup j i hj hi hl e.symm
theorem Zy.KR {p:List Int} (h:Zy p) (k:Nat) (hk:k<p.length): ∃i,i<p.length/\(Hs p (i:Int)).toNat=k:=by
 have hm:=(bE (xs:=p) h.row).2 (s7 h.nodup) k hk
 obtain ⟨i,hi,e⟩:=Az.1 hm
 exact ⟨i,hi,by rw [Jr hi,e];exact Ay k⟩
theorem Zy.lt {p:List Int} (h:Zy p) {i:Nat} (hi:i<p.length):(Hs p (i:Int)).toNat<p.length:=by
 rw [Jr hi]
 have:=h.row _ (Ak hi)
 omega
theorem wg (p:List Int):(Dl p).length=p.length:=by unfold Dl;rw [aX,Nk]
theorem QH {p:List Int} (h:Zy p) {i:Nat} (hi:i<p.length):(Dl p)[(Hs p (i:Int)).toNat]?=some (i:Int):=
 nE (λi=>(Hs p (i:Int)).toNat) (λi=>(i:Int)) _ p.length (λi j hi hj=>h.inj i j hi hj) i hi (by rw [Nk];exact h.lt hi)
theorem VO {p:List Int} (h:Zy p):Oj p.length (Dl p):=by
 intro y hy
 obtain ⟨k,hk,rfl⟩:=Az.1 hy
 have qs:k<p.length:=by rw [wg] at hk;exact hk
 obtain ⟨i,hi,rfl⟩:=h.KR k qs
 have:=QH h hi
 rw [Ac hk] at this
 rw [Ba this]
 omega
theorem Xj (p q:List Int):(As p q).length=p.length:=by simp [As]
theorem yy {p q:List Int} {n:Nat} (hp:Oj q.length p) (hq:Oj n q):Oj n (As p q):=by
 intro y hy
 obtain ⟨x,hx,rfl⟩:=Bo.1 hy
 have h1:=hp x hx
 rw [show x=(x.toNat:Int) by omega,Jr (by omega)]
 exact hq _ (Ak _)
theorem sO (p:List Int) (h:p.length<=20/\Oj p.length p):fnW Gb (look []) Jy Try.f143 (p,()) (λ(z:List Int)=>z=Dl p):=by
 obtain ⟨h,hr⟩:=h
 refine Eq.mp (tA p _) ?_
 refine ⟨⟨by omega,by show (p.length:Int)<(4294967296:Int)+1;omega⟩,rfl,rfl,rfl,?_⟩
 refine Cg p.length (λv=>v.1) (λj v=>v.2.1=aW (λi=>(Hs p (i:Int)).toNat) (λi=>(i:Int)) j (List.replicate p.length 0)) rfl rfl ?_
 rintro j ⟨i,ys,⟨⟩⟩ K hj hi h1 hK
 dsimp only at hi h1⊢
 subst hi
 have hlen:ys.length=p.length:=by rw [h1,aX,Nk]
 refine Br.dec (λhl=>?_) λhl=>?_
 ·have hl:j<p.length:=by omega
  have hy:=hr _ (Ak hl)
  refine ⟨_,Cc hl,⟨by omega,by omega⟩,by omega,rfl,by rw [Ez],?_⟩
  rw [Cm (by omega),Cf]
  refine hK hl _ rfl ?_
  rw [Zc,<-h1,Jr hl]
 ·have:j=p.length:=by omega
  subst this
  rw [Jo,Bp]
  exact h1
theorem lO:Sound Try.prog 143 Jy:=
 Sound.Hq Ee Bt mixed Try.func143 (by kernel_rfl) (by kernel_rfl) λx h=>sO x.1 h
theorem LG (p:List Int) (h:p.length<=20/\Oj p.length p):fnW Gb (look []) Jy Try.f190 (p,()) (λ(z:List Int)=>z=Dl p):=by
 obtain ⟨h,hr⟩:=h
 refine Eq.mp (ND p _) ?_
 refine ⟨⟨by omega,by show (p.length:Int)<(4294967296:Int)+1;omega⟩,rfl,rfl,rfl,?_⟩
 refine Cg p.length (λv=>v.1) (λj v=>v.2.1=aW (λi=>(Hs p (i:Int)).toNat) (λi=>(i:Int)) j (List.replicate p.length 0)) rfl rfl ?_
 rintro j ⟨i,ys,⟨⟩⟩ K hj hi h1 hK
 dsimp only at hi h1⊢
 subst hi
 have hlen:ys.length=p.length:=by rw [h1,aX,Nk]
 refine Br.dec (λhl=>?_) λhl=>?_
 ·have hl:j<p.length:=by omega
  have hy:=hr _ (Ak hl)
  refine ⟨_,Cc hl,⟨by omega,by omega⟩,by omega,rfl,by rw [Ez],?_⟩
  rw [Cm (by omega),Cf]
  refine hK hl _ rfl ?_
  rw [Zc,<-h1,Jr hl]
 ·have:j=p.length:=by omega
  subst this
  rw [Jo,Bp]
  exact h1
theorem jn:Sound Try.prog 190 Jy:=
 Sound.Hq Ee Bt mixed Try.func190 (by kernel_rfl) (by kernel_rfl) λx h=>LG x.1 h
theorem sT (p:List Int) (h:Kg p=true):fnW Gb (look [(169,Jt),(190,Jy)]) Pr Try.f187 (p,()) (λ(z:List Int)=>z=Dl p):=by
 have hp:=gy h
 have hs:short p:=by have:=hp.len;unfold short;omega
 refine Eq.mp (tG p _) ⟨_,Ab hs,⟨λhe=>?_,λ_=>⟨_,Ab ⟨hp.len,hp.row⟩,rfl⟩⟩⟩
 exact absurd h (Dk he)
theorem lS:Sound Try.prog 187 Pr:=
 Sound.Hq Ee (Ax Wt (Ax jn Bt)) mixed Try.func187 (by kernel_rfl) (by kernel_rfl) λx h=>sT x.1 h
theorem nj (j:Nat):upto (j+1)=upto j++ [(j:Int)]:=by simp [upto,List.range_succ]
theorem EC (n:Int) (h:0<=n/\n<=20):fnW Gb (look []) Pa Try.f66 (n,()) (λ(z:List Int)=>z=upto n.toNat):=by
 refine Eq.mp (GC n _) ⟨rfl,rfl,?_⟩
 refine Cg n.toNat (λv=>v.1) (λj v=>v.2.1=upto j) rfl rfl ?_
 rintro j ⟨i,ys,⟨⟩⟩ K hj hi h1 hK
 dsimp only at hi h1⊢
 subst hi h1
 refine Br.dec (λhl=>?_) λhl=>?_
 ·refine ⟨rfl,rfl,?_,rfl,rfl,?_⟩
  ·show (upto j).length+1<=4294967296
   rw [Vi];omega
  ·rw [Cm (by omega)]
   exact hK (by omega) _ rfl (nj j).symm
 ·have:j=n.toNat:=by omega
  subst this
  rw [Jo,Bp]
theorem gN:Sound Try.prog 66 Pa:=
 Sound.Hq Ee Bt mixed Try.func66 (by kernel_rfl) (by kernel_rfl) λx h=>EC x.1 h
theorem Ow {g:List (List Int)} {k:Nat} (h:k<g.length):Av g ((k:Int)+1)=g[k]:=by
 unfold Av
 rw [Ab (by omega),show ((k:Int)+1-1).toNat=k by omega,Ah,Ac h];rfl
theorem Ov {g:List (List Int)} {k:Nat} (h:k<g.length):Av g (-((k:Int)+1))=Dl g[k]:=by
 unfold Av
 rw [Al (by omega),show (-(-((k:Int)+1))-1).toNat=k by omega,Ah,Ac h];rfl
theorem Ou {n:Nat} {l:Int} (h:Hj n l): ∃k:Nat,k<n/\(l=(k:Int)+1\/l= -((k:Int)+1)):=by
 obtain ⟨h1,h2,h3⟩:=h
 by_cases h0:0<l
 ·exact ⟨(l-1).toNat,by omega, .inl (by omega)⟩
 ·exact ⟨(-l-1).toNat,by omega, .inr (by omega)⟩
theorem EH (g:List (List Int)) (l:Int) (h:Hj (List.length g) l/\List.length g<=8/\ ∀p∈g,Kg p=true):fnW Gb (look [(143,Jy)]) Ku Try.f147 (g,l,()) (λ(z:List Int)=>z=Av g l):=by
 obtain ⟨hl,h8,hp⟩:=h
 refine Eq.mp (GI g l _) ?_
 obtain ⟨k,hk,rfl|rfl⟩:=Ou hl
 ·refine Br.dec (λ_=>?_) λhn=>by omega
  rw [Cq (by omega) (by omega),show (k:Int)+1-1=(k:Int) by omega]
  exact ⟨_,Cc hk,(Ow hk).symm⟩
 ·refine Br.dec (λhn=>by omega) λ_=>?_
  rw [Cq (n:=0- -((k:Int)+1)) (by omega) (by omega),Cq (by omega) (by omega),show (0:Int)- -((k:Int)+1)-1=(k:Int) by omega]
  have:=gy (hp _ (Ak hk))
  exact ⟨_,Cc hk,_,Ab ⟨this.len,this.row⟩,(Ov hk).symm⟩
theorem rQ:Sound Try.prog 147 Ku:=
 Sound.Hq Ee (Ax lO Bt) mixed Try.func147 (by kernel_rfl) (by kernel_rfl) λx h=>EH x.1 x.2.1 h
theorem au (j:Nat):Cu (j+1)=Cu j++ [(j:Int)+1,-((j:Int)+1)]:=by simp [Cu,List.range_succ,List.flatMap_append]
theorem Xc (j:Nat):(Cu j).length=2*j:=by
 induction j with
 |zero=>rfl
 |succ j ih=>rw [au,Au,ih];simp only [Bg,Iq];omega
theorem Ol {n:Nat} {l:Int} (h:l∈Cu n):Hj n l:=by
 unfold Cu at h
 obtain ⟨k,hk,hl⟩:=Oe.1 h
 have hk:=Hu.1 hk
 simp only [Bb,List.not_mem_nil,or_false] at hl
 unfold Hj
 omega
theorem KZ (n:Int) (h:0<=n/\n<=8):fnW Gb (look []) Zs Try.f121 (n,()) (λ(z:List Int)=>z=Cu n.toNat):=by
 refine Eq.mp (MZ n _) ⟨rfl,rfl,?_⟩
 refine Cg n.toNat (λv=>v.1) (λj v=>v.2.1=Cu j) rfl rfl ?_
 rintro j ⟨i,ys,⟨⟩⟩ K hj hi h1 hK
 dsimp only at hi h1⊢
 subst hi h1
 refine Br.dec (λhl=>?_) λhl=>?_
 ·refine ⟨rfl,rfl,?_,rfl,rfl,?_⟩
  ·show (Cu j).length+2<=4294967296
   rw [Xc];omega
  ·have e1:IntKind.i64.wrap ((j:Int)+1)=(j:Int)+1:=Cq (by omega) (by omega)
   have e2:IntKind.i64.wrap ((0:Int)-((j:Int)+1))= -((j:Int)+1):=by rw [Cq (by omega) (by omega)];omega
   rw [e1,e2]
   exact hK (by omega) _ rfl (au j).symm
 ·have:j=n.toNat:=by omega
  subst this
  rw [Jo,Bp]
theorem tf:Sound Try.prog 121 Zs:=
 Sound.Hq Ee Bt mixed Try.func121 (by kernel_rfl) (by kernel_rfl) λx h=>KZ x.1 h
structure Valid (p:PP):Prop where
 n:1<=p.1/\p.1<=20
 oz:1<=p.2.2.1.length/\p.2.2.1.length<=8
 perm: ∀m∈p.2.2.1,Kg m=true
 len: ∀m∈p.2.2.1,(m.length:Int)=p.1
theorem valid {p:PP} (h:Dh p=true):Valid p:=by
 have h0:=FW h
 obtain ⟨h1,_,_⟩:=Db.1 h
 obtain ⟨_,_,h4⟩:=Db.1 h1
 exact ⟨⟨h0.1,h0.2.1⟩,h0.2.2,λm hm=>(Db.1 (h4 m hm)).2,λm hm=>(Db.1 (h4 m hm)).1⟩
theorem mA {p:PP} (h:Valid p) {l:Int} (hl:Hj (List.length p.2.2.1) l):((Av p.2.2.1 l).length:Int)=p.1/\Oj (Av p.2.2.1 l).length (Av p.2.2.1 l):=by
 obtain ⟨k,hk,rfl|rfl⟩:=Ou hl
 ·rw [Ow hk]
  exact ⟨h.len _ (Ak hk),(gy (h.perm _ (Ak hk))).row⟩
 ·rw [Ov hk,wg]
  exact ⟨h.len _ (Ak hk),VO (gy (h.perm _ (Ak hk)))⟩
theorem yg (s y:List Int) (P:List Int->Prop) (h1:s.length<=20) (h2:Oj y.length s) (h3:P (As s y)):
  Em
   (λ(v5:Int×List Int×PUnit) (k6:Int×List Int×PUnit->Prop)=>
    Br (decide (v5.1<(↑s.length:Int)))
     (∃(y7:Int),
      idx s v5.1=some y7/\
       ∃(y8:Int),
        idx y y7=some y8/\
         (0:Nat)=(0:Nat)/\
          v5.2.1.length=v5.2.1.length/\
           v5.2.1.length+(List.take (1:Nat) (List.drop (0:Nat) [y8])).length<=Et/\
            (0:Nat)=(0:Nat)/\
             (v5.2.1++List.take (1:Nat) (List.drop (0:Nat) [y8])).length=(v5.2.1++List.take (1:Nat) (List.drop (0:Nat) [y8])).length/\
              k6 (IntKind.i64.wrap (v5.1+(1:Int)),v5.2.1++List.take (1:Nat) (List.drop (0:Nat) [y8]),()))
     (P (List.take v5.2.1.length (List.drop (0:Nat) v5.2.1))))
   ((0:Int),([]:List Int),PUnit.unit):=by
 refine Cg s.length (λv=>v.1) (λj v=>v.2.1=(s.take j).map (Hs y)) rfl (by simp) ?_
 rintro j ⟨i,ys,⟨⟩⟩ K hj hi hR hK
 dsimp only at hi hR⊢
 subst hi hR
 refine Br.dec (λhl=>?_) λhl=>?_
 ·have hl:j<s.length:=by omega
  have hy:=h2 _ (Ak hl)
  refine ⟨_,Cc hl,_,fZ hy.1 hy.2,rfl,rfl,?_,rfl,rfl,?_⟩
  ·show ((s.take j).map (Hs y)).length+1<=4294967296
   rw [Fm,Cl];omega
  ·rw [Cm (by omega)]
   refine hK hl _ rfl ?_
   dsimp only
   rw [Be hl,Tw]
   rfl
 ·have:j=s.length:=by omega
  subst this
  rw [Jo,Bp,Bp]
  exact h3
theorem RG (p:PP) (s:List Int) (l:Int) (h:Dh p=true/\List.length s<=20/\(∀y∈s,0<=y/\y<p.1)/\Hj (List.length p.2.2.1) l):fnW Gb (look [(187,Pr)]) cF Try.f145 (p,s,l,()) (λ(z:List Int)=>z=As s (Av p.2.2.1 l)):=by
 obtain ⟨hv,hs,hr,hl⟩:=h
 have hv:=valid hv
 have hf:=hv.oz
 refine Eq.mp (TG p s l _) ?_
 have CU:=mA hv hl
 have bJ:Oj (Av p.2.2.1 l).length s:= λy hy=>by have:=hr y hy;omega
 obtain ⟨k,hk,rfl|rfl⟩:=Ou hl
 ·rw [Ab rfl,Cq (n:=0-((k:Int)+1)) (by omega) (by omega),Al (by omega),Cq (by omega) (by omega),show (k:Int)+1-1=(k:Int) by omega]
  refine ⟨_,Cc hk,Br.dec (λhn=>by omega) λ_=>⟨rfl,rfl,?_⟩⟩
  rw [Ow hk] at bJ⊢
  exact yg s _ (λz=>z=As s p.2.2.1[k]) hs bJ rfl
 ·rw [Ab rfl,Cq (n:=0- -((k:Int)+1)) (by omega) (by omega),Ab (by omega),Cq (by omega) (by omega),show (0:Int)- -((k:Int)+1)-1=(k:Int) by omega]
  refine ⟨_,Cc hk,Br.dec (λ_=>⟨_,Ab (hv.perm _ (Ak hk)),rfl,rfl,?_⟩) λhn=>by omega⟩
  rw [Ov hk] at bJ⊢
  exact yg s (Dl p.2.2.1[k]) (λz=>z=As s (Dl p.2.2.1[k])) hs bJ rfl
theorem xj:Sound Try.prog 145 cF:=
 Sound.Hq Ee (Ax lS Bt) mixed Try.func145 (by kernel_rfl) (by kernel_rfl) λx h=>RG x.1 x.2.1 x.2.2.1 h
abbrev rL:CK:= .row tI 2
abbrev xLL:CK:= .Hb tL 31
def low (k:Int):Prop:=0<=k/\k<=1099511627776
theorem Cj {α:Type} (xs:List α):List.take xs.length (List.drop 0 xs)=xs:=by rw [Jo,Bp]
def Nv (xs:List Int):Int:=xs.foldl max (xs.headD 0)
noncomputable abbrev lK:Spec:=Hq (.pair tL .unit) tI false true (λx=>1<=List.length x.1/\short x.1) (λx=>Nv x.1)
def gl (xs:List Int):List Int:=(List.range (Nv xs+1).toNat).map λ(d:Nat)=>((xs.count (d:Int):Nat):Int)
def small (xs:List Int):Prop:=1<=xs.length/\short xs/\ ∀x∈xs,0<=x/\x<=3000
noncomputable abbrev Tr:MSpec:=iw [none] [(false, .Fp tL)] false [none] [rL] (λx=>small x.1) (λx=>((gl x.1,()),()))
noncomputable def Tm (t:TT):List Int:=if Gr t=true then gl t.2.2.1 else []
noncomputable abbrev Te:MSpec:=iw [some 3] [(false, .Fp tL),(false, .Fp ky),(false, .Fp tL)] false [none] [rL] (λx=>Kv (x.1,x.2.1,x.2.2.1,())) (λx=>((Tm (x.1,x.2.1,x.2.2.1,()),()),()))
theorem Afh (xs:List Int) (P:Int->Prop):(Br (decide ((↑xs.length:Int)<(1:Int))) False (∃(y2:Int),idx xs (0:Int)=some y2/\Em (λ(v3:Int×Int×PUnit) (k4:Int×Int×PUnit->Prop)=>Br (decide (v3.2.1<(↑xs.length:Int))) (∃(y5:Int),idx xs v3.2.1=some y5/\k4 (if true=true then if y5>v3.1 then y5 else v3.1 else if y5<v3.1 then y5 else v3.1,IntKind.i64.wrap (v3.2.1+(1:Int)),())) (P v3.1)) (y2,(1:Int),PUnit.unit)))=fnW Gb (look []) lK Try.f105 (xs,()) P:=by kernel_rfl
theorem AY (xs:List Int) (P:((List Int×Unit)×Unit)->Prop):(∃(y2:Int),lK.fn (xs,())=some y2/\((0:Int)<=IntKind.i64.wrap (y2+(1:Int))/\IntKind.i64.wrap (y2+(1:Int))<(↑Et:Int)+(1:Int))/\IntKind.i64.wrap (y2+(1:Int))=IntKind.i64.wrap (y2+(1:Int))/\0=0/\(List.replicate (IntKind.i64.wrap (y2+(1:Int))).toNat (Int.ofNat (nat_lit 0))).length=(List.replicate (IntKind.i64.wrap (y2+(1:Int))).toNat (Int.ofNat (nat_lit 0))).length/\Em (λ(v3:Int×List Int×PUnit) (k4:Int×List Int×PUnit->Prop)=>Br (decide (v3.1<(↑xs.length:Int))) (∃(y5:Int),idx xs v3.1=some y5/\((0:Int)<=y5/\y5<(↑v3.2.1.length:Int))/\ ∃(y6:Int),v3.2.1[0+y5.toNat]?=some y6/\((0:Int)<=y5/\y5<(↑v3.2.1.length:Int))/\0+y5.toNat<v3.2.1.length/\0=0/\v3.2.1.length=(v3.2.1.set (0+y5.toNat) (IntKind.i64.wrap (y6+(1:Int)))).length/\k4 (IntKind.i64.wrap (v3.1+(1:Int)),v3.2.1.set (0+y5.toNat) (IntKind.i64.wrap (y6+(1:Int))),())) (P ((List.take v3.2.1.length (List.drop 0 v3.2.1),()),()))) ((0:Int),List.replicate (IntKind.i64.wrap (y2+(1:Int))).toNat (Int.ofNat (nat_lit 0)),PUnit.unit))=fnMW Pz (look [(105,lK)]) Tr Try.f103 (xs,()) P:=by kernel_rfl
theorem GF (a:List Int) (b:List (List Int)) (c:List Int) (P:((List Int×Unit)×Unit)->Prop):(∃(y4:Bool),Eu.fn ((a,b,c,()),())=some y4/\Br (!y4) (P ((List.take 0 (List.drop 0 []),()),())) (∃(y5:(List Int×PUnit)×PUnit),Tr.fn (c,())=some y5/\P ((List.take y5.1.1.length (List.drop 0 y5.1.1),()),())))=fnMW Pz (look [(36,Eu),(103,Tr)]) Te Try.f40 (a,b,c,()) P:=by kernel_rfl
theorem Aax (y v:Int):(if y>v then y else v)=max v y:=by split<;>omega
theorem lb: ∀(xs:List Int) (a:Int),a<=xs.foldl max a/\ ∀x∈xs,x<=xs.foldl max a
 | [],a=>⟨Iz a,λx hx=>by cases hx⟩
 |y::xs,a=>by
  obtain ⟨h1,h2⟩:=lb xs (max a y)
  simp only [My]
  refine ⟨by omega,λx hx=>?_⟩
  rcases Bb.1 hx with rfl|hx
  ·omega
  ·exact h2 x hx
theorem j4: ∀(xs:List Int) (a:Int),xs.foldl max a=a\/xs.foldl max a∈xs
 | [],a=> .inl rfl
 |y::xs,a=>by
  simp only [My]
  rcases j4 xs (max a y) with h|h
  ·rw [h]
   rcases Int.le_total a y with h1|h1
   ·rw [Int.max_eq_right h1];exact .inr (by simp)
   ·rw [Int.max_eq_left h1];exact .inl rfl
  ·exact .inr (An _ h)
theorem zj {xs:List Int} {x:Int} (hx:x∈xs):x<=Nv xs:=(lb xs _).2 x hx
theorem mB {xs:List Int} (h:1<=xs.length):Nv xs∈xs:=by
 cases xs with
 |nil=>simp at h
 |cons y xs=>
  rcases j4 (y::xs) ((y::xs).headD 0) with h|h
  ·show List.foldl max _ _∈_
   rw [h];simp
  ·exact h
theorem Aew (xs:List Int) (h:1<=List.length xs/\short xs):fnW Gb (look []) lK Try.f105 (xs,()) (λ(z:Int)=>z=Nv xs):=by
 obtain ⟨h1,h2⟩:=h
 unfold short at h2
 refine Eq.mp (Afh xs _) (Br.dec (λhn=>by omega) λ_=>?_)
 refine ⟨_,Cc (j:=0) (by omega),?_⟩
 refine ⟨λv=> ∃j:Nat,1<=j/\j<=xs.length/\v.2.1=j/\(xs.drop j).foldl max v.1=Nv xs,λv=>xs.length-v.2.1.toNat,⟨1,Ar _,h1,rfl,?_⟩,?_⟩
 ·cases xs with
  |nil=>simp at h1
  |cons y xs=>simp [Nv]
 ·rintro ⟨m,i,⟨⟩⟩ ⟨j,g1,g2,g3,g4⟩
  dsimp only at g3 g4⊢
  subst g3
  refine Br.dec (λhl=>?_) λhl=>?_
  ·have hl:j<xs.length:=by omega
   refine ⟨_,Cc hl,?_⟩
   rw [Cm (by omega),Ab rfl,Aax]
   refine ⟨⟨j+1,by omega,by omega,rfl,?_⟩,?_⟩
   ·rw [Gt hl] at g4
    exact g4
   ·simp only [Ay]
    omega
  ·have hj:j=xs.length:=by omega
   subst hj
   rw [Ww] at g4
   exact g4
theorem uW:Sound Try.prog 105 lK:=
 Sound.Hq Ee Bt mixed Try.func105 (by kernel_rfl) (by kernel_rfl) λx h=>Aew x.1 h
def OM (xs:List Int) (j m:Nat):List Int:=(List.range m).map λ(d:Nat)=>(((xs.take j).count (d:Int):Nat):Int)
theorem oY (xs:List Int) (j m:Nat):(OM xs j m).length=m:=by simp [OM]
theorem oX {xs:List Int} {j m d:Nat} (h:d<m):(OM xs j m)[d]?=some (((xs.take j).count (d:Int):Nat):Int):=by simp [OM,h]
theorem ON {xs:List Int} {j m:Nat} (hj:j<xs.length) {d:Nat} (hd:xs[j]=(d:Int)) (hm:d<m):(OM xs j m).set d ((((xs.take j).count (d:Int):Nat):Int)+1)=OM xs (j+1) m:=by
 apply List.ext_getElem?
 intro i
 rw [Dp,oY]
 by_cases hi:i<m
 ·rw [oX (j:=j+1) hi,Be hj,List.count_append,hd]
  by_cases e:d=i
  ·subst e
   rw [Ab rfl,Ab hm]
   simp
  ·rw [Al e,oX hi]
   have: ¬(d:Int)=(i:Int):=by omega
   simp [this]
 ·by_cases e:d=i
  ·omega
  ·rw [Al e]
   simp [OM,hi]
theorem OO (xs:List Int) (m:Nat):OM xs 0 m=List.replicate m 0:=by
 apply List.ext_getElem?
 intro i
 by_cases hi:i<m
 ·rw [oX hi];simp [hi]
 ·simp [OM,hi]
theorem LX {xs:List Int} (h:small xs):0<=Nv xs/\Nv xs<=3000:=h.2.2 _ (mB h.1)
theorem count_le (xs:List Int) (j:Nat) (d:Int):(xs.take j).count d<=xs.length:=Qu List.count_le_length (by simp;omega)
theorem zD (xs:List Int) (h:small xs):fnMW Pz (look [(105,lK)]) Tr Try.f103 (xs,()) (λ(z:(List Int×Unit)×Unit)=>z=((gl xs,()),())):=by
 have hb:=LX h
 obtain ⟨h1,h2,h3⟩:=h
 have TY:=h2
 unfold short at TY
 have hw:IntKind.i64.wrap (Nv xs+1)=Nv xs+1:=Cq (by omega) (by omega)
 refine Eq.mp (AY xs _) ⟨_,Ab ⟨h1,h2⟩,?_⟩
 dsimp only
 rw [hw]
 refine ⟨⟨by omega,by show Nv xs+1<(4294967296:Int)+1;omega⟩,rfl,rfl,rfl,?_⟩
 refine Cg xs.length (λv=>v.1) (λj v=>v.2.1=OM xs j (Nv xs+1).toNat) rfl (OO xs _).symm ?_
 rintro j ⟨i,ys,⟨⟩⟩ K hj hi hR hK
 dsimp only at hi hR⊢
 subst hi;subst hR
 refine Br.dec (λhl=>?_) λhl=>?_
 ·have hl:j<xs.length:=by omega
  have hx:=h3 _ (Ak hl)
  have hx2:=zj (Ak hl)
  obtain ⟨d,hd⟩:=Lm hx.1
  have hdm:d<(Nv xs+1).toNat:=by omega
  have hc:=count_le xs j d
  refine ⟨_,Cc hl,⟨hx.1,by rw [oY];omega⟩,?_⟩
  rw [hd,Ay,Cf]
  refine ⟨_,oX hdm,⟨by omega,by rw [oY];omega⟩,by rw [oY];exact hdm,rfl,by rw [Ez],?_⟩
  rw [Cm (by omega),Cq (by omega) (by omega)]
  exact hK hl _ rfl (ON hl hd hdm)
 ·have hj:j=xs.length:=by omega
  subst hj
  rw [Cj]
  simp [OM,gl]
theorem oL:Dx Try.prog 103 Tr:=
 Dx.iw Pb (Ax uW Bt) mixed Try.func103 (by kernel_rfl) (by kernel_rfl) λx h=>zD x.1 h
theorem se {t:TT} (hs:Kv t) (h:Gr t=true):small t.2.2.1:=by
 obtain ⟨h1,h2,h3,h4⟩:=Db.1 h
 refine ⟨by omega,hs.2.2,λx hx=>?_⟩
 obtain ⟨j,hj,rfl⟩:=Ja hx
 exact (h4 j (by omega) hj).2
theorem EE (a:List Int) (b:List (List Int)) (c:List Int) (h:Kv (a,b,c,())):fnMW Pz (look [(36,Eu),(103,Tr)]) Te Try.f40 (a,b,c,()) (λ(z:(List Int×Unit)×Unit)=>z=((Tm (a,b,c,()),()),())):=by
 refine Eq.mp (GF a b c _) ⟨_,Ab h,⟨λhn=>?_,λhn=>?_⟩⟩
 ·have hn:=Dk hn
  show ((List.take 0 (List.drop 0 []),()),())=_
  unfold Tm
  rw [Al hn];rfl
 ·have hn:=Cv hn
  refine ⟨_,Ab (se h hn),?_⟩
  simp only [Cj]
  unfold Tm
  rw [Ab hn]
theorem rK:Dx Try.prog 40 Te:=
 Dx.iw Pb (Ax Kj (Fz oL Bt)) mixed Try.func40 (by kernel_rfl) (by kernel_rfl) λx h=>EE x.1 x.2.1 x.2.2.1 h
noncomputable abbrev ry:MSpec:=iw [none] [(false, .Fp (.oslice tI))] false [none] [rL] (λx=>short (x.1.getD [])) (λx=>((x.1.getD [],()),()))
noncomputable abbrev Ny:MSpec:=iw [none] [(false, .Fp tL)] false [none] [rL] (λx=>short x.1) (λx=>((x.1,()),()))
noncomputable abbrev Je:Spec:=Hq (.pair tL .unit) tL false true (λx=>short x.1) (λx=>x.1)
def qH (t:TT):List Int:=t.2.1.getD (Mf t.2.2.1 (Nv t.2.2.1) 0).toNat []
noncomputable def kd (t:TT):List Int:=if Gr t=true then qH t else []
noncomputable abbrev Td:MSpec:=iw [some 3] [(false, .Fp tL),(false, .Fp ky),(false, .Fp tL)] false [none] [rL] (λx=>Kv (x.1,x.2.1,x.2.2.1,())) (λx=>((kd (x.1,x.2.1,x.2.2.1,()),()),()))
theorem TI (xs:Option (List Int)) (P:((List Int×Unit)×Unit)->Prop):(Br xs.isNone (P ((List.take 0 (List.drop 0 []),()),())) (0=0/\0=([]:List Int).length/\0+(xs.getD []).length<=Et/\P ((List.take ([]++xs.getD []).length (List.drop 0 ([]++xs.getD [])),()),())))=fnMW Pz (look []) ry Try.f90 (xs,()) P:=by kernel_rfl
theorem GA (xs:List Int) (P:List Int->Prop):(0=0/\0=([]:List Int).length/\0+xs.length<=Et/\P (List.take ([]++xs).length (List.drop 0 ([]++xs))))=fnW Gb (look []) Je Try.f86 (xs,()) P:=by kernel_rfl
theorem GD (a:List Int) (b:List (List Int)) (c:List Int) (P:((List Int×Unit)×Unit)->Prop):(∃(y4:Bool),Eu.fn ((a,b,c,()),())=some y4/\Br (!y4) (P ((List.take 0 (List.drop 0 []),()),())) (∃(y5:Int),lK.fn (c,())=some y5/\ ∃(y6:Int),Su.fn (c,y5,())=some y6/\ ∃(y7:List Int),idx b y6=some y7/\ ∃(y8:(List Int×PUnit)×PUnit),Ny.fn (y7,())=some y8/\P ((List.take y8.1.1.length (List.drop 0 y8.1.1),()),())))=fnMW Pz (look [(36,Eu),(105,lK),(104,Su),(90,Ny)]) Td Try.f41 (a,b,c,()) P:=by kernel_rfl
theorem RI (xs:Option (List Int)) (h:short (xs.getD [])):fnMW Pz (look []) ry Try.f90 (xs,()) (λ(z:(List Int×Unit)×Unit)=>z=((xs.getD [],()),())):=by
 unfold short at h
 refine Eq.mp (TI xs _) ⟨λhn=>?_,λ_=>⟨rfl,rfl,by show 0+(xs.getD []).length<=4294967296;omega,?_⟩⟩
 ·cases xs with
  |none=>rfl
  |some y=>cases hn
 ·simp only [Cj,List.nil_append]
theorem xl:Dx Try.prog 90 ry:=
 Dx.iw Pb Bt mixed Try.func90 (by kernel_rfl) (by kernel_rfl) λx h=>RI x.1 h
theorem Zh:Dx Try.prog 90 Ny:=Dx.ofO xl λ_ _ h=>⟨h,rfl⟩
theorem EA (xs:List Int) (h:short xs):fnW Gb (look []) Je Try.f86 (xs,()) (λ(z:List Int)=>z=xs):=by
 unfold short at h
 refine Eq.mp (GA xs _) ⟨rfl,rfl,by show 0+xs.length<=4294967296;omega,?_⟩
 simp only [Cj,List.nil_append]
theorem aF:Sound Try.prog 86 Je:=
 Sound.Hq Ee Bt mixed Try.func86 (by kernel_rfl) (by kernel_rfl) λx h=>EA x.1 h
theorem Zf: ∀(xs:List Int) (x i:Int),x∈xs-> ∃j:Nat,Mf xs x i=i+j/\xs[j]?=some x/\ ∀k,k<j->xs[k]?≠some x
 | [],x,i,h=>by cases h
 |y::r,x,i,h=>by
  simp only [Mf]
  split
  ·rename_i hy;subst hy
   exact ⟨0,by simp,rfl,λk hk=>absurd hk (Gk _)⟩
  ·rename_i hy
   have hr:x∈r:=by
    rcases Bb.1 h with h|h
    ·exact absurd h.symm hy
    ·exact h
   obtain ⟨j,h1,h2,h3⟩:=Zf r x (i+1) hr
   refine ⟨j+1,by rw [h1];omega,by simpa using h2,λk hk=>?_⟩
   rcases k with _|k
   ·simpa using hy
   ·simpa using h3 k (by omega)
theorem pY {t:TT} (hs:Kv t) (h:Gr t=true): ∃j:Nat,Mf t.2.2.1 (Nv t.2.2.1) 0=j/\j<t.2.2.1.length/\j<t.2.1.length/\t.2.2.1[j]?=some (Nv t.2.2.1)/\ ∀k,k<j->t.2.2.1[k]?≠some (Nv t.2.2.1):=by
 have hsm:=se hs h
 obtain ⟨_,_,h3,_⟩:=Db.1 h
 obtain ⟨j,h1,h2,h4⟩:=Zf t.2.2.1 _ 0 (mB hsm.1)
 have hj:=(Aj.1 h2).1
 exact ⟨j,by rw [h1];omega,hj,by omega,h2,h4⟩
theorem pX {t:TT} {j:Nat} (h:Mf t.2.2.1 (Nv t.2.2.1) 0=j) (hj:j<t.2.1.length):qH t=t.2.1[j]:=by
 unfold qH
 rw [h,Ay,Ah,Ac hj];rfl
theorem ED (a:List Int) (b:List (List Int)) (c:List Int) (h:Kv (a,b,c,())):fnMW Pz (look [(36,Eu),(105,lK),(104,Su),(90,Ny)]) Td Try.f41 (a,b,c,()) (λ(z:(List Int×Unit)×Unit)=>z=((kd (a,b,c,()),()),())):=by
 refine Eq.mp (GD a b c _) ⟨_,Ab h,⟨λhn=>?_,λhn=>?_⟩⟩
 ·have hn: ¬Gr (a,b,c,())=true:=Dk hn
  show ((List.take 0 (List.drop 0 []),()),())=_
  unfold kd
  rw [Al hn];rfl
 ·have hn:Gr (a,b,c,())=true:=Cv hn
  obtain ⟨j,h1,h2,h3,h4,h5⟩:=pY h hn
  have hsm:=se h hn
  have h1':Mf c (Nv c) 0=j:=h1
  have NL:j<b.length:=h3
  refine ⟨_,Ab ⟨hsm.1,h.2.2⟩,_,Ab h.2.2,?_⟩
  dsimp only
  rw [h1']
  refine ⟨_,Cc NL,_,Ab (h.2.1.2 _ (Ak NL)),?_⟩
  simp only [Cj]
  unfold kd
  rw [Ab hn,pX h1 h3]
theorem rJ:Dx Try.prog 41 Td:=
 Dx.iw Pb (Ax Kj (Ax uW (Ax gO (Fz Zh Bt)))) mixed Try.func41 (by kernel_rfl) (by kernel_rfl) λx h=>ED x.1 x.2.1 x.2.2.1 h
def Bc (xs is:List Int):List Int:=is.map (Hs xs)
noncomputable abbrev Rf:MSpec:=iw [none,none] [(false, .Fp tL),(false, .Fp tL)] false [none] [rL] (λx=>short x.2.1/\Oj (List.length x.1) x.2.1) (λx=>((Bc x.1 x.2.1,()),()))
noncomputable abbrev Zt:Spec:=Hq (.pair tL (.pair tL .unit)) tL false true (λx=>short x.1/\Oj (List.length x.2.1) x.1) (λx=>Bc x.2.1 x.1)
def gp (xs:List Int):ByteArray:=bytesOf (xs.map λx=>IntKind.u8.wrap x)
noncomputable abbrev Lz:Spec:=Hq (.pair tL .unit) .str false true (λx=>short x.1) (λx=>gp x.1)
abbrev RS:Type:=List (List Int)×List Int
def Sj (ps:List (List Int)) (p:List Int):Int:=Eg (λq=>decide (q=p)) ps 0
def nP (s:RS) (p:List Int) (d:Int):RS:=
 if Sj s.1 p<0 then (s.1++ [p],s.2++ [d])
 else (s.1,s.2.set (Sj s.1 p).toNat (if d<s.2.getD (Sj s.1 p).toNat 0 then d else s.2.getD (Sj s.1 p).toNat 0))
def gq (is:List Int) (t:TT) (k:Nat):RS:=(List.range k).foldl (λ(s:RS) (i:Nat)=>nP s (Bc (t.2.1.getD i []) is) (t.2.2.1.getD i 0)) ([],[])
def Yg (xs ys:List Int):List Int:=ys.map λy=>Mf xs y 0
noncomputable def QS (t:TT) (d:List Int):Bool:=dec (Gr t=true/\Gd 20 d=true/\ ∀y∈d,y∈t.1)
noncomputable def Ha (t:TT) (d:List Int):TT×Bool×Unit:=
 if QS t d=true then ((d,(gq (Yg t.1 d) t t.2.1.length).1,(gq (Yg t.1 d) t t.2.1.length).2,()),true,()) else (([],[],[],()),false,())
noncomputable abbrev Ly:MSpec:=iw [some 3,none] [(false, .Fp tL),(false, .Fp ky),(false, .Fp tL),(false, .Fp tL)] true [some 3,none] [rL,xLL,rL, .Fp .bool]
 (λx=>Kv (x.1,x.2.1,x.2.2.1,())/\short x.2.2.2.1)
 (λx=>(((Ha (x.1,x.2.1,x.2.2.1,()) x.2.2.2.1).1.1,(Ha (x.1,x.2.1,x.2.2.1,()) x.2.2.2.1).1.2.1,(Ha (x.1,x.2.1,x.2.2.1,()) x.2.2.2.1).1.2.2.1,(Ha (x.1,x.2.1,x.2.2.1,()) x.2.2.2.1).2.1,()),()))
theorem NA (xs is:List Int) (P:((List Int×Unit)×Unit)->Prop):(((0:Int)<=(↑is.length:Int)/\(↑is.length:Int)<(↑Et:Int)+(1:Int))/\(↑is.length:Int)=(↑is.length:Int)/\0=0/\(List.replicate (↑is.length:Int).toNat (Int.ofNat (nat_lit 0))).length=(List.replicate (↑is.length:Int).toNat (Int.ofNat (nat_lit 0))).length/\Em (λ(v3:Int×List Int×PUnit) (k4:Int×List Int×PUnit->Prop)=>Br (decide (v3.1<(↑is.length:Int))) (∃(y5:Int),idx is v3.1=some y5/\ ∃(y6:Int),idx xs y5=some y6/\((0:Int)<=v3.1/\v3.1<(↑v3.2.1.length:Int))/\0+v3.1.toNat<v3.2.1.length/\0=0/\v3.2.1.length=(v3.2.1.set (0+v3.1.toNat) y6).length/\k4 (IntKind.i64.wrap (v3.1+(1:Int)),v3.2.1.set (0+v3.1.toNat) y6,())) (P ((List.take v3.2.1.length (List.drop 0 v3.2.1),()),()))) ((0:Int),List.replicate (↑is.length:Int).toNat (Int.ofNat (nat_lit 0)),PUnit.unit))=fnMW Pz (look []) Rf Try.f106 (xs,is,()) P:=by kernel_rfl
theorem NB (is xs:List Int) (P:List Int->Prop):(0=0/\0=([]:List Int).length/\Em (λ(v3:Int×List Int×PUnit) (k4:Int×List Int×PUnit->Prop)=>Br (decide (v3.1<(↑is.length:Int))) (∃(y5:Int),idx is v3.1=some y5/\ ∃(y6:Int),idx xs y5=some y6/\0=0/\v3.2.1.length=v3.2.1.length/\v3.2.1.length+(List.take 1 (List.drop 0 [y6])).length<=Et/\0=0/\(v3.2.1++List.take 1 (List.drop 0 [y6])).length=(v3.2.1++List.take 1 (List.drop 0 [y6])).length/\k4 (IntKind.i64.wrap (v3.1+(1:Int)),v3.2.1++List.take 1 (List.drop 0 [y6]),())) (P (List.take v3.2.1.length (List.drop 0 v3.2.1)))) ((0:Int),[],PUnit.unit))=fnW Gb (look []) Zt Try.f99 (is,xs,()) P:=by kernel_rfl
theorem GN (xs:List Int) (P:ByteArray->Prop):(((0:Int)<=(↑xs.length:Int)/\(↑xs.length:Int)<(↑Et:Int)+(1:Int))/\(↑xs.length:Int)=(↑xs.length:Int)/\0=0/\(List.replicate (↑xs.length:Int).toNat (Int.ofNat (nat_lit 0))).length=(List.replicate (↑xs.length:Int).toNat (Int.ofNat (nat_lit 0))).length/\Em (λ(v2:Int×List Int×PUnit) (k3:Int×List Int×PUnit->Prop)=>Br (decide (v2.1<(↑xs.length:Int))) (∃(y4:Int),idx xs v2.1=some y4/\((0:Int)<=v2.1/\v2.1<(↑v2.2.1.length:Int))/\0+v2.1.toNat<v2.2.1.length/\0=0/\v2.2.1.length=(v2.2.1.set (0+v2.1.toNat) (IntKind.u8.wrap y4)).length/\k3 (IntKind.i64.wrap (v2.1+(1:Int)),v2.2.1.set (0+v2.1.toNat) (IntKind.u8.wrap y4),())) (P (bytesOf (List.take v2.2.1.length (List.drop 0 v2.2.1))))) ((0:Int),List.replicate (↑xs.length:Int).toNat (Int.ofNat (nat_lit 0)),PUnit.unit))=fnW Gb (look []) Lz Try.f107 (xs,()) P:=by kernel_rfl
abbrev eK:Type:=Int×List Int×List (List Int)×List Int×List Int×(ByteArray->Option Int)×List Int×List (List Int)×List Int×List (List Int)×List Int×List Int×PUnit
abbrev eL:Type:=Int×List Int×List (List Int)×List Int×List Int×List Int×List (List Int)×List Int×PUnit
theorem sd (a:List Int) (b:List (List Int)) (c:List Int) (d:List Int) (P:((List Int×List (List Int)×List Int×Bool×Unit)×Unit)->Prop):(∃(y5:Bool),Eu.fn ((a,b,c,()),())=some y5/\Br (!y5) (P ((List.take 0 (List.drop 0 []),List.take 0 (List.drop 0 []),List.take 0 (List.drop 0 []),false,()),())) (∃(y6:Bool),Gf.fn ((20:Int),d,())=some y6/\Br (!y6) (P ((List.take 0 (List.drop 0 []),List.take 0 (List.drop 0 []),List.take 0 (List.drop 0 []),false,()),())) (0=0/\0=([]:List Int).length/\0=0/\0=([]:List Int).length/\0=0/\0=([]:List Int).length/\0=0/\0=([]:List Int).length/\Em (λ(v7:eL) (k8:eL->Prop)=>Br (decide (v7.1<(↑d.length:Int))) (∃(y9:Int),idx d v7.1=some y9/\ ∃(dY:Int),Su.fn (v7.2.1,y9,())=some dY/\Br (decide (dY<(0:Int))) (P ((List.take 0 (List.drop 0 []),List.take 0 (List.drop 0 []),List.take 0 (List.drop 0 []),false,()),())) (0=0/\v7.2.2.2.2.1.length=v7.2.2.2.2.1.length/\v7.2.2.2.2.1.length+(List.take 1 (List.drop 0 [dY])).length<=Et/\0=0/\(v7.2.2.2.2.1++List.take 1 (List.drop 0 [dY])).length=(v7.2.2.2.2.1++List.take 1 (List.drop 0 [dY])).length/\0=0/\v7.2.2.2.2.2.1.length=v7.2.2.2.2.2.1.length/\0=0/\v7.2.2.2.2.2.2.1.length=v7.2.2.2.2.2.2.1.length/\0=0/\v7.2.2.2.2.2.2.2.1.length=v7.2.2.2.2.2.2.2.1.length/\k8 (IntKind.i64.wrap (v7.1+(1:Int)),v7.2.1,v7.2.2.1,v7.2.2.2.1,v7.2.2.2.2.1++List.take 1 (List.drop 0 [dY]),v7.2.2.2.2.2.1,v7.2.2.2.2.2.2.1,v7.2.2.2.2.2.2.2.1,()))) (∃(y9:(List Int×PUnit)×PUnit),Ny.fn (d,())=some y9/\0=0/\v7.2.2.2.2.1.length=v7.2.2.2.2.1.length/\0=0/\v7.2.2.2.2.2.1.length=v7.2.2.2.2.2.1.length/\0=0/\v7.2.2.2.2.2.2.1.length=v7.2.2.2.2.2.2.1.length/\0=0/\v7.2.2.2.2.2.2.2.1.length=v7.2.2.2.2.2.2.2.1.length/\0=0/\y9.1.1.length=y9.1.1.length/\0=0/\0=([]:List Int).length/\0=0/\0=([]:List Int).length/\Em (λ(v10:eK) (k11:eK->Prop)=>Br (decide (v10.1<(↑v7.2.2.1.length:Int))) (∃(c5:List Int),idx v7.2.2.1 v10.1=some c5/\ ∃(sf:(List Int×PUnit)×PUnit),Rf.fn (c5,List.take v10.2.2.2.2.1.length (List.drop 0 v10.2.2.2.2.1),())=some sf/\ ∃(pt:ByteArray),Lz.fn (List.take sf.1.1.length (List.drop 0 sf.1.1),())=some pt/\Br (!(v10.2.2.2.2.2.1 pt).isSome) (∃(jB:ByteArray),Lz.fn (List.take sf.1.1.length (List.drop 0 sf.1.1),())=some jB/\0=0/\v10.2.2.2.2.2.2.2.2.2.1.length=v10.2.2.2.2.2.2.2.2.2.1.length/\v10.2.2.2.2.2.2.2.2.2.1.length+(List.take 1 (List.drop 0 [List.take sf.1.1.length (List.drop 0 sf.1.1)])).length<=Et/\ ∃(np:Int),idx v10.2.2.2.1 v10.1=some np/\0=0/\v10.2.2.2.2.2.2.2.2.2.2.1.length=v10.2.2.2.2.2.2.2.2.2.2.1.length/\v10.2.2.2.2.2.2.2.2.2.2.1.length+ [np].length<=Et/\0=0/\v10.2.2.2.2.1.length=v10.2.2.2.2.1.length/\0=0/\v10.2.2.2.2.2.2.1.length=v10.2.2.2.2.2.2.1.length/\0=0/\v10.2.2.2.2.2.2.2.1.length=v10.2.2.2.2.2.2.2.1.length/\0=0/\v10.2.2.2.2.2.2.2.2.1.length=v10.2.2.2.2.2.2.2.2.1.length/\0=0/\v10.2.2.2.2.2.2.2.2.2.2.2.1.length=v10.2.2.2.2.2.2.2.2.2.2.2.1.length/\0=0/\(v10.2.2.2.2.2.2.2.2.2.1++List.take 1 (List.drop 0 [List.take sf.1.1.length (List.drop 0 sf.1.1)])).length=(v10.2.2.2.2.2.2.2.2.2.1++List.take 1 (List.drop 0 [List.take sf.1.1.length (List.drop 0 sf.1.1)])).length/\0=0/\(v10.2.2.2.2.2.2.2.2.2.2.1++ [np]).length=(v10.2.2.2.2.2.2.2.2.2.2.1++ [np]).length/\k11 (IntKind.i64.wrap (v10.1+(1:Int)),v10.2.1,v10.2.2.1,v10.2.2.2.1,v10.2.2.2.2.1,kz v10.2.2.2.2.2.1 jB (↑v10.2.2.2.2.2.2.2.2.2.1.length:Int),v10.2.2.2.2.2.2.1,v10.2.2.2.2.2.2.2.1,v10.2.2.2.2.2.2.2.2.1,v10.2.2.2.2.2.2.2.2.2.1++List.take 1 (List.drop 0 [List.take sf.1.1.length (List.drop 0 sf.1.1)]),v10.2.2.2.2.2.2.2.2.2.2.1++ [np],v10.2.2.2.2.2.2.2.2.2.2.2.1,())) (((0:Int)<=(v10.2.2.2.2.2.1 pt).getD (Int.ofNat (nat_lit 0))/\(v10.2.2.2.2.2.1 pt).getD (Int.ofNat (nat_lit 0))<(↑v10.2.2.2.2.2.2.2.2.2.2.1.length:Int))/\ ∃(jB:Int),v10.2.2.2.2.2.2.2.2.2.2.1[0+((v10.2.2.2.2.2.1 pt).getD (Int.ofNat (nat_lit 0))).toNat]?=some jB/\ ∃(np:Int),idx v10.2.2.2.1 v10.1=some np/\((0:Int)<=(v10.2.2.2.2.2.1 pt).getD (Int.ofNat (nat_lit 0))/\(v10.2.2.2.2.2.1 pt).getD (Int.ofNat (nat_lit 0))<(↑v10.2.2.2.2.2.2.2.2.2.2.1.length:Int))/\0+((v10.2.2.2.2.2.1 pt).getD (Int.ofNat (nat_lit 0))).toNat<v10.2.2.2.2.2.2.2.2.2.2.1.length/\0=0/\v10.2.2.2.2.1.length=v10.2.2.2.2.1.length/\0=0/\v10.2.2.2.2.2.2.1.length=v10.2.2.2.2.2.2.1.length/\0=0/\v10.2.2.2.2.2.2.2.1.length=v10.2.2.2.2.2.2.2.1.length/\0=0/\v10.2.2.2.2.2.2.2.2.1.length=v10.2.2.2.2.2.2.2.2.1.length/\0=0/\v10.2.2.2.2.2.2.2.2.2.2.2.1.length=v10.2.2.2.2.2.2.2.2.2.2.2.1.length/\0=0/\v10.2.2.2.2.2.2.2.2.2.1.length=v10.2.2.2.2.2.2.2.2.2.1.length/\0=0/\v10.2.2.2.2.2.2.2.2.2.2.1.length=(v10.2.2.2.2.2.2.2.2.2.2.1.set (0+((v10.2.2.2.2.2.1 pt).getD (Int.ofNat (nat_lit 0))).toNat) (if false=true then if np>jB then np else jB else if np<jB then np else jB)).length/\k11 (IntKind.i64.wrap (v10.1+(1:Int)),v10.2.1,v10.2.2.1,v10.2.2.2.1,v10.2.2.2.2.1,v10.2.2.2.2.2.1,v10.2.2.2.2.2.2.1,v10.2.2.2.2.2.2.2.1,v10.2.2.2.2.2.2.2.2.1,v10.2.2.2.2.2.2.2.2.2.1,v10.2.2.2.2.2.2.2.2.2.2.1.set (0+((v10.2.2.2.2.2.1 pt).getD (Int.ofNat (nat_lit 0))).toNat) (if false=true then if np>jB then np else jB else if np<jB then np else jB),v10.2.2.2.2.2.2.2.2.2.2.2.1,()))) (P ((List.take v10.2.2.2.2.2.2.2.2.2.2.2.1.length (List.drop 0 v10.2.2.2.2.2.2.2.2.2.2.2.1),List.take v10.2.2.2.2.2.2.2.2.2.1.length (List.drop 0 v10.2.2.2.2.2.2.2.2.2.1),List.take v10.2.2.2.2.2.2.2.2.2.2.1.length (List.drop 0 v10.2.2.2.2.2.2.2.2.2.2.1),true,()),()))) ((0:Int),v7.2.1,v7.2.2.1,v7.2.2.2.1,v7.2.2.2.2.1,λ(_:ByteArray)=>none,v7.2.2.2.2.2.1,v7.2.2.2.2.2.2.1,v7.2.2.2.2.2.2.2.1,[],[],y9.1.1,PUnit.unit))) ((0:Int),a,b,c,[],[],[],[],PUnit.unit))))=fnMW Pz (look [(36,Eu),(93,Gf),(104,Su),(90,Ny),(106,Rf),(107,Lz)]) Ly Try.f42 (a,b,c,d,()) P:=by kernel_rfl
theorem lF (xs is:List Int):(Bc xs is).length=is.length:=by simp [Bc]
theorem IH {α:Type} (y:α):List.take 1 (List.drop 0 [y])= [y]:=rfl
theorem LC (xs is:List Int) (h:short is/\Oj xs.length is):fnMW Pz (look []) Rf Try.f106 (xs,is,()) (λ(z:(List Int×Unit)×Unit)=>z=((Bc xs is,()),())):=by
 obtain ⟨h,hr⟩:=h
 unfold short at h
 refine Eq.mp (NA xs is _) ?_
 refine ⟨⟨by omega,by show (is.length:Int)<(4294967296:Int)+1;omega⟩,rfl,rfl,rfl,?_⟩
 have Qh:=lF xs is
 refine Cg is.length (λv=>v.1) (λj v=>v.2.1.length=(Bc xs is).length/\v.2.1.take j=(Bc xs is).take j) rfl ⟨by rw [Qh];simp,by simp⟩ ?_
 rintro j ⟨i,ys,⟨⟩⟩ K hj hi ⟨h1,h2⟩ hK
 dsimp only at hi h1 h2⊢
 subst hi
 refine Br.dec (λhl=>?_) λhl=>?_
 ·have hl:j<is.length:=by omega
  have hy:=hr _ (Ak hl)
  refine ⟨_,Cc hl,_,fZ hy.1 hy.2,⟨by omega,by omega⟩,by rw [Ay];omega,rfl,by rw [Ez],?_⟩
  rw [Cm (by omega),Ay,Cf]
  have Ns:j<(Bc xs is).length:=by rw [Qh];exact hl
  have e:Hs xs is[j]=(Bc xs is)[j]:=by simp [Bc]
  rw [e]
  exact hK hl _ rfl ⟨by rw [Ez];exact h1,jt Ns h1 h2⟩
 ·have:j=is.length:=by omega
  subst this
  rw [<-Qh,Bp,<-h1,Bp] at h2
  rw [Jo,Bp,h2]
theorem jm:Dx Try.prog 106 Rf:=
 Dx.iw Pb Bt mixed Try.func106 (by kernel_rfl) (by kernel_rfl) λx h=>LC x.1 x.2.1 h
theorem LD (is xs:List Int) (h:short is/\Oj xs.length is):fnW Gb (look []) Zt Try.f99 (is,xs,()) (λ(z:List Int)=>z=Bc xs is):=by
 obtain ⟨h,hr⟩:=h
 unfold short at h
 refine Eq.mp (NB is xs _) ⟨rfl,rfl,?_⟩
 have Qh:=lF xs is
 refine Cg is.length (λv=>v.1) (λj v=>v.2.1=(Bc xs is).take j) rfl rfl ?_
 rintro j ⟨i,ys,⟨⟩⟩ K hj hi h1 hK
 dsimp only at hi h1⊢
 subst hi
 refine Br.dec (λhl=>?_) λhl=>?_
 ·have hl:j<is.length:=by omega
  have hy:=hr _ (Ak hl)
  have Ns:j<(Bc xs is).length:=by rw [Qh];exact hl
  refine ⟨_,Cc hl,_,fZ hy.1 hy.2,rfl,rfl,?_,rfl,rfl,?_⟩
  ·show ys.length+1<=4294967296
   rw [h1,Cl];omega
  ·rw [Cm (by omega),IH]
   refine hK hl _ rfl ?_
   dsimp only
   rw [h1,Be Ns]
   simp [Bc]
 ·have:j=is.length:=by omega
  subst this
  rw [Cj,h1,<-Qh,Bp]
theorem th:Sound Try.prog 99 Zt:=
 Sound.Hq Ee Bt mixed Try.func99 (by kernel_rfl) (by kernel_rfl) λx h=>LD x.1 x.2.1 h
theorem EM (xs:List Int) (h:short xs):fnW Gb (look []) Lz Try.f107 (xs,()) (λ(z:ByteArray)=>z=gp xs):=by
 unfold short at h
 refine Eq.mp (GN xs _) ?_
 refine ⟨⟨by omega,by show (xs.length:Int)<(4294967296:Int)+1;omega⟩,rfl,rfl,rfl,?_⟩
 have Qh:(xs.map λx=>IntKind.u8.wrap x).length=xs.length:=by simp
 refine Cg xs.length (λv=>v.1) (λj v=>v.2.1.length=(xs.map λx=>IntKind.u8.wrap x).length/\v.2.1.take j=(xs.map λx=>IntKind.u8.wrap x).take j) rfl ⟨by rw [Qh];simp,by simp⟩ ?_
 rintro j ⟨i,ys,⟨⟩⟩ K hj hi ⟨h1,h2⟩ hK
 dsimp only at hi h1 h2⊢
 subst hi
 refine Br.dec (λhl=>?_) λhl=>?_
 ·have hl:j<xs.length:=by omega
  refine ⟨_,Cc hl,⟨by omega,by omega⟩,by rw [Ay];omega,rfl,by rw [Ez],?_⟩
  rw [Cm (by omega),Ay,Cf]
  have Ns:j<(xs.map λx=>IntKind.u8.wrap x).length:=by rw [Qh];exact hl
  have e:IntKind.u8.wrap xs[j]=(xs.map λx=>IntKind.u8.wrap x)[j]:=by simp
  rw [e]
  exact hK hl _ rfl ⟨by rw [Ez];exact h1,jt Ns h1 h2⟩
 ·have:j=xs.length:=by omega
  subst this
  rw [<-Qh,Bp,<-h1,Bp] at h2
  rw [Jo,Bp,h2];rfl
theorem gQ:Sound Try.prog 107 Lz:=
 Sound.Hq Ee Bt mixed Try.func107 (by kernel_rfl) (by kernel_rfl) λx h=>EM x.1 h
theorem YO {n:Int} {xs:List Int} (h:PL n xs xs.length): ∀(d i:Nat) (hj:i+d+1<xs.length),xs[i]<xs[i+d+1]
 |0,i,hj=>by
  have:=(h (i+1) hj hj).2.2 (by omega)
  simpa using this
 |d+1,i,hj=>by
  have h1:=YO h d i (by omega)
  have h2:=(h (i+(d+1)+1) hj hj).2.2 (by omega)
  have h3:xs[i+(d+1)+1-1]=xs[i+d+1]:=by congr 1
  omega
theorem RR {xs:List Int} (h:Gd 20 xs=true):xs.length<=20:=by
 obtain ⟨h0,h1⟩:=Db.1 h
 have h2:=wW h1 (xs.length-1) (by omega)
 have h3:=(h1 (xs.length-1) (by omega) (by omega)).2.1
 omega
theorem eA {α:Type} (P:α->Bool) (y:α): ∀(l:List α) (i:Int),0<=i->Eg P (l++ [y]) i=if Eg P l i<0 then (if P y=true then i+l.length else-1) else Eg P l i
 | [],i,_=>by simp [Eg]
 |x::r,i,h=>by
  simp only [Rj,Eg,Bg]
  split
  ·rw [Al (by omega)]
  ·rw [eA P y r (i+1) (by omega),show i+1+(r.length:Int)=i+((r.length+1:Nat):Int) by push_cast;omega]
theorem wX (ps:List (List Int)) (q p:List Int):Sj (ps++ [q]) p=if Sj ps p<0 then (if q=p then (ps.length:Int) else-1) else Sj ps p:=by
 unfold Sj
 rw [eA _ _ _ _ (Iz 0)]
 simp only [Kn,Int.zero_add]
theorem RW (ps:List (List Int)) (p:List Int):Sj ps p<ps.length:=by
 have:=gn (λq=>decide (q=p)) ps 0 (Iz 0)
 unfold Sj
 omega
theorem mE (is:List Int) (t:TT) (k:Nat):gq is t (k+1)=nP (gq is t k) (Bc (t.2.1.getD k []) is) (t.2.2.1.getD k 0):=by simp [gq,List.range_succ]
theorem qK (is:List Int) (t:TT): ∀k,(gq is t k).1.length=(gq is t k).2.length/\(gq is t k).1.length<=k/\ ∀p∈(gq is t k).1,p.length=is.length
 |0=>⟨rfl,Ar _,λp hp=>by cases hp⟩
 |k+1=>by
  obtain ⟨h1,h2,h3⟩:=qK is t k
  rw [mE]
  unfold nP
  split
  ·refine ⟨by simp [h1],by simp;omega,λp hp=>?_⟩
   rcases Aw.1 hp with hp|hp
   ·exact h3 p hp
   ·rw [Ad.1 hp,lF]
  ·exact ⟨by simp [h1],by simp;omega,h3⟩
def fq (p:List Int):Prop:= ∀x∈p,0<=x/\x<256
theorem OG {x y:Int} (hx:0<=x/\x<256) (hy:0<=y/\y<256) (h:UInt8.ofNat (IntKind.u8.wrap x).toNat=UInt8.ofNat (IntKind.u8.wrap y).toNat):x=y:=by
 have h:=Hv UInt8.toNat h
 simp only [IntKind.wrap_u8,UInt8.toNat_ofNat'] at h
 omega
theorem bytes_inj: ∀(p q:List Int),fq p->fq q->(p.map λx=>UInt8.ofNat (IntKind.u8.wrap x).toNat)=(q.map λx=>UInt8.ofNat (IntKind.u8.wrap x).toNat)->p=q
 | [],[],_,_,_=>rfl
 | [],_::_,_,_,h=>by simp at h
 |_::_,[],_,_,h=>by simp at h
 |x::p,y::q,hp,hq,h=>by
  simp only [Bh,Gi] at h
  rw [OG (hp x (by simp)) (hq y (by simp)) h.1,bytes_inj p q (λz hz=>hp z (by simp [hz])) (λz hz=>hq z (by simp [hz])) h.2]
theorem key_inj {p q:List Int} (hp:fq p) (hq:fq q) (h:gp p=gp q):p=q:=by
 refine bytes_inj p q hp hq ?_
 simp only [gp,bytesOf,ByteArray.mk.injEq,List.map_map] at h
 have h:=Hv Array.toList h
 simpa [Function.comp_def] using h
def KM (m:ByteArray->Option Int) (ps:List (List Int)):Prop:= ∀p,fq p->m (gp p)=if Sj ps p<0 then none else some (Sj ps p)
theorem KM.nil:KM (λ_=>none) []:= λp _=>by
 rw [Ab (by unfold Sj;simp [Eg])]
theorem KM.add {m:ByteArray->Option Int} {ps:List (List Int)} {q:List Int} (h:KM m ps) (hq:fq q) (hn:Sj ps q<0):KM (kz m (gp q) (ps.length:Int)) (ps++ [q]):=by
 intro p hp
 rw [wX]
 unfold kz
 by_cases e:p=q
 ·subst e
  rw [Ab rfl,Ab hn,Ab rfl,Al (by omega)]
 ·rw [Al (λhk=>e (key_inj hp hq hk)),h p hp]
  have e': ¬q=p:= λh=>e h.symm
  rw [Al e']
  by_cases JZ:Sj ps p<0
  ·rw [Ab JZ,Ab JZ,Ab (by decide)]
  ·rw [Al JZ,Al JZ,Al JZ]
theorem ZD {xs ys:List Int} (h: ∀y∈ys,y∈xs):Oj xs.length (Yg xs ys):=by
 intro y hy
 obtain ⟨z,hz,rfl⟩:=Bo.1 hy
 obtain ⟨j,h1,h2,_⟩:=Zf xs z 0 (h z hz)
 have:=(Aj.1 h2).1
 rw [h1]
 exact ⟨by omega,by omega⟩
theorem LL {xs is:List Int} (h: ∀x∈xs,0<=x/\x<=19) (hr:Oj xs.length is):fq (Bc xs is):=by
 intro y hy
 obtain ⟨i,hi,rfl⟩:=Bo.1 hy
 have hi:=hr i hi
 have e:i=(i.toNat:Int):=by omega
 rw [e,Jr (by omega)]
 have:=h _ (Ak (by omega:i.toNat<xs.length))
 omega
theorem CI {xs:List Int} {m:Int} (h:Jv 20 xs m=true):(xs.length:Int)=m/\ ∀x∈xs,0<=x/\x<=19:=by
 obtain ⟨h1,h2⟩:=Db.1 h
 refine ⟨h1,λx hx=>?_⟩
 obtain ⟨j,hj,rfl⟩:=Ja hx
 have:=h2 j hj hj
 omega
theorem vX {α:Type} {xs:List α} {j:Nat} (h:j<xs.length) (d:α):xs.getD j d=xs[j]:=by
 rw [Ah,Ac h];rfl
theorem EX {s:RS} {p:List Int} {d:Int} (h:Sj s.1 p<0):nP s p d=(s.1++ [p],s.2++ [d]):=Ab h
theorem EY {s:RS} {p:List Int} {d:Int} (h: ¬Sj s.1 p<0) (hl:s.1.length=s.2.length):
  ∃(k:Nat) (hk:k<s.2.length),Sj s.1 p=k/\nP s p d=(s.1,s.2.set k (if d<s.2[k] then d else s.2[k])):=by
 have h1:=RW s.1 p
 have hk:(Sj s.1 p).toNat<s.2.length:=by omega
 refine ⟨_,hk,by omega,?_⟩
 unfold nP
 rw [Al h,vX hk]
theorem r6 (a:List Int) (b:List (List Int)) (c:List Int) (d:List Int) (h:Kv (a,b,c,())/\short d):
  fnMW Pz (look [(36,Eu),(93,Gf),(104,Su),(90,Ny),(106,Rf),(107,Lz)]) Ly Try.f42 (a,b,c,d,()) (λ(z:(List Int×List (List Int)×List Int×Bool×Unit)×Unit)=>z=(((Ha (a,b,c,()) d).1.1,(Ha (a,b,c,()) d).1.2.1,(Ha (a,b,c,()) d).1.2.2.1,(Ha (a,b,c,()) d).2.1,()),())):=by
 obtain ⟨h,hd⟩:=h
 refine Eq.mp (sd a b c d _) ⟨_,Ab h,⟨λhn=>?_,λhn=>?_⟩⟩
 ·have hn: ¬Gr (a,b,c,())=true:=Dk hn
  have hr:Ha (a,b,c,()) d=(([],[],[],()),false,()):=Al λe=>hn (Db.1 e).1
  rw [hr];rfl
 have NP:Gr (a,b,c,())=true:=Cv hn
 refine ⟨_,Ab ⟨QW,hd⟩,⟨λhn=>?_,λhn=>?_⟩⟩
 ·have hn: ¬Gd 20 d=true:=Dk hn
  have hr:Ha (a,b,c,()) d=(([],[],[],()),false,()):=Al λe=>hn (Db.1 e).2.1
  rw [hr];rfl
 have dh:Gd 20 d=true:=Cv hn
 have hdl:=RR dh
 obtain ⟨w1,w2,w3,w4⟩:=Db.1 NP
 dsimp only at w1 w2 w3 w4
 refine ⟨rfl,rfl,rfl,rfl,rfl,rfl,rfl,rfl,?_⟩
 refine Cg d.length (λv=>v.1) (λj v=>a=v.2.1/\b=v.2.2.1/\c=v.2.2.2.1/\v.2.2.2.2.1=Yg a (d.take j)/\ ∀y∈d.take j,y∈a) rfl ⟨rfl,rfl,rfl,rfl,by simp⟩ ?_
 rintro j ⟨i,a',b',c',ind,e1,e2,e3,⟨⟩⟩ K hj hi ⟨r1,r2,r3,r4,r5⟩ hK
 dsimp only at hi r1 r2 r3 r4 r5⊢
 subst hi r1 r2 r3
 refine Br.dec (λhl=>?_) λhl=>?_
 ·have hl:j<d.length:=by omega
  refine ⟨_,Cc hl,_,Ab h.1,Br.dec (λCW=>?_) λCW=>?_⟩
  ·have CW:d[j]∉a:=(bg a d[j] 0 (Iz 0)).1 CW
   have hr:Ha (a,b,c,()) d=(([],[],[],()),false,()):=Al λe=>CW ((Db.1 e).2.2 _ (Ak hl))
   rw [hr];rfl
  ·have aL:d[j]∈a:=Classical.not_not.1 λXZ=>CW ((bg a d[j] 0 (Iz 0)).2 XZ)
   refine ⟨rfl,rfl,?_,rfl,rfl,rfl,rfl,rfl,rfl,rfl,rfl,?_⟩
   ·show ind.length+1<=4294967296
    rw [r4];simp only [Yg,Fm,Cl];omega
   ·rw [Cm (by omega),IH]
    refine hK hl _ rfl ⟨rfl,rfl,rfl,?_,?_⟩
    ·dsimp only
     rw [r4,Be hl]
     simp only [Yg,Tw,Bh,List.map_nil]
    ·intro y hy
     rw [Be hl] at hy
     rcases Aw.1 hy with hy|hy
     ·exact r5 y hy
     ·rw [Ad.1 hy];exact aL
 have hjd:j=d.length:=by omega
 subst hjd
 rw [Bp] at r4 r5
 have df:QS (a,b,c,()) d=true:=Db.2 ⟨NP,dh,r5⟩
 have fU:Ha (a,b,c,()) d=((d,(gq (Yg a d) (a,b,c,()) b.length).1,(gq (Yg a d) (a,b,c,()) b.length).2,()),true,()):=Ab df
 have bJ:=ZD r5
 have hil:(Yg a d).length=d.length:=by simp [Yg]
 subst r4
 refine ⟨_,Ab hd,rfl,rfl,rfl,rfl,rfl,rfl,rfl,rfl,rfl,rfl,rfl,rfl,rfl,rfl,?_⟩
 refine Cg b.length (λv=>v.1) (λj v=>a=v.2.1/\b=v.2.2.1/\c=v.2.2.2.1/\Yg a d=v.2.2.2.2.1/\KM v.2.2.2.2.2.1 (gq (Yg a d) (a,b,c,()) j).1/\v.2.2.2.2.2.2.2.2.2.1=(gq (Yg a d) (a,b,c,()) j).1/\v.2.2.2.2.2.2.2.2.2.2.1=(gq (Yg a d) (a,b,c,()) j).2/\d=v.2.2.2.2.2.2.2.2.2.2.2.1) rfl ⟨rfl,rfl,rfl,rfl,KM.nil,rfl,rfl,rfl⟩ ?_
 rintro j ⟨i,a',b',c',ind,m,e6,e7,e8,ps,ds,cl,⟨⟩⟩ K hj hi ⟨q1,q2,q3,q4,q5,q6,q7,q8⟩ hK
 dsimp only at hi q1 q2 q3 q4 q5 q6 q7 q8⊢
 subst hi q1 q2 q3 q4 q8
 obtain ⟨f1,f2,f3⟩:=qK (Yg a d) (a,b,c,()) j
 have fQ:=mE (Yg a d) (a,b,c,()) j
 refine Br.dec (λhl=>?_) λhl=>?_
 ·have hl:j<b.length:=by omega
  have Of:j<c.length:=by omega
  have hdj:=CI (w4 j hl Of).1
  have hrj:Oj b[j].length (Yg a d):=by
   have:b[j].length=a.length:=by omega
   rw [this];exact bJ
  dsimp only at fQ
  rw [vX hl,vX Of] at fQ
  have bI:=lF b[j] (Yg a d)
  have yQ:=LL hdj.2 hrj
  refine ⟨_,Cc hl,?_⟩
  simp only [Cj]
  refine ⟨_,Ab ⟨by show (Yg a d).length<=4294967296;omega,hrj⟩,?_⟩
  dsimp only
  generalize Bc b[j] (Yg a d)=own at*
  have hso:short own:=by unfold short;omega
  have lj:=q5 own yQ
  have hsj:gq (Yg a d) (a,b,c,()) j=(ps,ds):=Prod.ext q6.symm q7.symm
  rw [hsj] at fQ f1 f2 f3 lj q5
  dsimp only at f1 f2 f3 lj q5
  refine ⟨_,Ab hso,?_⟩
  dsimp only
  by_cases hp:Sj ps own<0
  ·rw [Ab hp] at lj
   rw [EX hp] at fQ
   refine ⟨λ_=>?_,λhy=>by rw [lj] at hy;simp at hy⟩
   refine ⟨_,Ab hso,trivial,trivial,?_,_,Cc Of,trivial,trivial,?_,trivial,trivial,trivial,trivial,trivial,trivial,trivial,trivial,trivial,trivial,trivial,trivial,trivial,trivial,?_⟩
   ·show ps.length+1<=4294967296;omega
   ·show ds.length+1<=4294967296;omega
   ·rw [Cm (by omega)]
    refine hK hl _ rfl ⟨rfl,rfl,rfl,rfl,?_,?_,?_,rfl⟩
    ·rw [fQ];exact KM.add q5 yQ hp
    ·rw [fQ];rfl
    ·rw [fQ]
  ·rw [Al hp] at lj
   obtain ⟨k,hk,VG,OX⟩:=EY (s:=(ps,ds)) (p:=own) (d:=c[j]) hp f1
   dsimp only at hk VG OX
   rw [OX] at fQ
   rw [VG] at lj
   refine ⟨λhy=>by rw [lj] at hy;simp at hy,λ_=>?_⟩
   rw [lj]
   simp only [Option.getD_some,Ay,Cf]
   refine ⟨⟨by omega,by omega⟩,_,Ac hk,_,Cc Of,⟨by omega,by omega⟩,hk,?_⟩
   simp only [Ez,true_and]
   rw [Cm (by omega)]
   refine hK hl _ rfl ⟨rfl,rfl,rfl,rfl,?_,?_,?_,rfl⟩
   ·rw [fQ];exact q5
   ·rw [fQ]
   ·rw [fQ];simp
 ·have hjb:j=b.length:=by omega
  subst hjb
  rw [fU]
  simp only [Cj,q6,q7]
theorem kx:Dx Try.prog 42 Ly:=
 Dx.iw Pb (Ax Kj (Ax Yk (Ax gO (Fz Zh (Fz jm (Ax gQ Bt)))))) mixed Try.func42 (by kernel_rfl) (by kernel_rfl) λx h=>r6 x.1 x.2.1 x.2.2.1 x.2.2.2.1 h
def IF (m l:Int):Bool:=decide (l≠0/\ -m<=l/\l<=m)
def jP (n:Int):Int:=if 8<n then 8 else n
def Lu (n:Int) (w:List Int):Bool:=decide (w.length<=200)&&!(List.any w λy=>!IF (jP n) y)
noncomputable abbrev cK:Spec:=Hq (.pair tI (.pair tL .unit)) .bool false true (λx=>short x.2.1/\0<=x.1/\x.1<=4294967296) (λx=>Lu x.1 x.2.1)
theorem GH (n:Int) (w:List Int) (P:Bool->Prop):(Br (decide ((↑w.length:Int)>(200:Int))) (P false) (Em (λ(v3:Int×PUnit) (k4:Int×PUnit->Prop)=>Br (decide (v3.1<(↑w.length:Int))) (∃(y5:Int),idx w v3.1=some y5/\Br (y5==(0:Int)) (P false) (∃(y6:Int),idx w v3.1=some y6/\ ∃(y7:Bool),Bz.fn (y6,(-8:Int),(8:Int),())=some y7/\Br (!y7) (P false) (∃(y8:Int),idx w v3.1=some y8/\Br (decide (y8>n)) (P false) (∃(y9:Int),idx w v3.1=some y9/\Br (decide (IntKind.i64.wrap ((0:Int)-y9)>n)) (P false) (k4 (IntKind.i64.wrap (v3.1+(1:Int)),())))))) (P true)) ((0:Int),PUnit.unit)))=fnW Gb (look [(65,Bz)]) cK Try.f74 (n,w,()) P:=by kernel_rfl
theorem VW {m l:Int} :IF m l=true↔l≠0/\ -m<=l/\l<=m:=Jp
theorem wI {n l:Int} (hn:0<=n):IF (jP n) l=true↔l≠0/\(-8<=l/\l<=8)/\l<=n/\ -l<=n:=by
 rw [VW];unfold jP;split<;>omega
theorem EG (n:Int) (w:List Int) (h:short w/\0<=n/\n<=4294967296):fnW Gb (look [(65,Bz)]) cK Try.f74 (n,w,()) (λ(z:Bool)=>z=Lu n w):=by
 refine Eq.mp (GH n w _) (Br.dec (λhl=>?_) λhl=>?_)
 ·unfold Lu
  rw [Fo (by omega),Bool.false_and]
 ·have e0:Lu n w=!(List.any w λy=>!IF (jP n) y):=by unfold Lu;rw [Ew (by omega),Bool.true_and]
  have bad: ∀(j:Nat) (hj:j<w.length),¬(w[j]≠0/\(-8<=w[j]/\w[j]<=8)/\w[j]<=n/\ -w[j]<=n)->false=Lu n w:= λj hj hn=>by
   rw [e0]
   have:(List.any w λy=>!IF (jP n) y)=true:=Ej.2 ⟨w[j],Ak hj,by
    have:IF (jP n) w[j]=false:=Pu.2 λht=>hn ((wI h.2.1).1 ht)
    rw [this];rfl⟩
   rw [this];rfl
  refine Cg w.length (λv=>v.1) (λj _=> ∀y∈w.take j,IF (jP n) y=true) rfl (by simp) ?_
  rintro j ⟨i,⟨⟩⟩ K hj hi hR hK
  dsimp only at hi⊢
  subst hi
  refine Br.dec (λhl=>?_) λhl=>?_
  ·have hl:j<w.length:=by omega
   refine ⟨_,Cc hl,⟨λhz=>?_,λhz=>⟨_,Cc hl,_,Ab trivial,⟨λhq=>?_,λhq=>⟨_,Cc hl,Br.dec (λhg=>?_) λhg=>⟨_,Cc hl,Br.dec (λhm=>?_) λhm=>?_⟩⟩⟩⟩⟩⟩
   ·simp only [bZ] at hz
    exact bad j hl λhh=>hh.1 hz
   ·have hq:=Dk hq
    rw [Dc] at hq
    exact bad j hl λhh=>hq hh.2.1
   ·exact bad j hl λhh=>absurd hh.2.2.1 (by omega)
   ·have hq:=Cv hq
    rw [Dc] at hq
    dsimp only at hq
    rw [Cq (by omega) (by omega)] at hm
    exact bad j hl λhh=>absurd hh.2.2.2 (by omega)
   ·have hq:=Cv hq
    rw [Dc] at hq
    dsimp only at hq
    simp only [Mq,ne_eq] at hz
    rw [Cq (by omega) (by omega)] at hm
    rw [Cm (by omega)]
    refine hK hl _ rfl ?_
    rw [Be hl]
    intro y hy
    rcases Aw.1 hy with hy|hy
    ·exact hR y hy
    ·rw [Ad.1 hy]
     exact (wI h.2.1).2 ⟨hz,hq,by omega,by omega⟩
  ·have:j=w.length:=by omega
   subst this
   rw [Bp] at hR
   rw [e0]
   have:(List.any w λy=>!IF (jP n) y)=false:=by
    refine Pu.2 λht=>?_
    obtain ⟨y,hy,h1⟩:=Ej.1 ht
    rw [hR y hy] at h1
    cases h1
   rw [this];rfl
theorem rO:Sound Try.prog 74 cK:=
 Sound.Hq Ee (Ax Ng Bt) mixed Try.func74 (by kernel_rfl) (by kernel_rfl) λx h=>EG x.1 x.2.1 h
theorem bV {n:Nat} {w:List Int} (h:Lu (n:Int) w=true):w.length<=200/\ ∀y∈w,Hj n y:=by
 unfold Lu at h
 simp only [Ag,Kn,Dn] at h
 refine ⟨h.1,λy hy=>?_⟩
 have h1:IF (jP n) y=true:=by
  cases ho:IF (jP n) y with
  |true=>rfl
  |false=>
   have h2:(List.any w λy=>!IF (jP (n:Int)) y)=true:=Ej.2 ⟨y,hy,by rw [ho];rfl⟩
   rw [h.2] at h2;cases h2
 have:=(wI (by omega)).1 h1
 unfold Hj
 omega
noncomputable abbrev Tt:Spec:=Hq (.pair Mw .unit) tL false true (λx=>List.length x.1.2.2.1<=8) (λx=>Cu (List.length x.1.2.2.1))
abbrev lT:Type:=Int×Int×ByteArray×List (List Int)×List Int×PUnit
theorem BC (p:Int×ByteArray×List (List Int)×Unit) (P:List Int->Prop):(0=0/\0=([]:List Int).length/\Em (λ(v2:lT) (k3:lT->Prop)=>Br (decide (v2.1<=(↑v2.2.2.2.1.length:Int))) (0=0/\v2.2.2.2.2.1.length=v2.2.2.2.2.1.length/\v2.2.2.2.2.1.length+(List.take 2 (List.drop 0 [v2.1,IntKind.i64.wrap ((0:Int)-v2.1)])).length<=Et/\0=0/\(v2.2.2.2.2.1++List.take 2 (List.drop 0 [v2.1,IntKind.i64.wrap ((0:Int)-v2.1)])).length=(v2.2.2.2.2.1++List.take 2 (List.drop 0 [v2.1,IntKind.i64.wrap ((0:Int)-v2.1)])).length/\k3 (IntKind.i64.wrap (v2.1+(1:Int)),v2.2.1,v2.2.2.1,v2.2.2.2.1,v2.2.2.2.2.1++List.take 2 (List.drop 0 [v2.1,IntKind.i64.wrap ((0:Int)-v2.1)]),())) (P (List.take v2.2.2.2.2.1.length (List.drop 0 v2.2.2.2.2.1)))) ((1:Int),p.1,p.2.1,p.2.2.1,[],PUnit.unit))=fnW Gb (look []) Tt Try.f144 (p,()) P:=by kernel_rfl
theorem zH (p:PP) (h:List.length p.2.2.1<=8):fnW Gb (look []) Tt Try.f144 (p,()) (λ(z:List Int)=>z=Cu (List.length p.2.2.1)):=by
 refine Eq.mp (BC p _) ⟨rfl,rfl,?_⟩
 refine Em.mk (λv=> ∃j:Nat,j<=List.length p.2.2.1/\v=((j:Int)+1,p.1,p.2.1,p.2.2.1,Cu j,())) (λv=>List.length p.2.2.1+1-v.1.toNat) ⟨0,Mz _,rfl⟩ ?_
 rintro _ ⟨j,hj,rfl⟩
 dsimp only
 refine Br.dec (λhl=>?_) λhl=>?_
 ·refine ⟨rfl,rfl,?_,rfl,rfl,⟨j+1,by omega,?_⟩,?_⟩
  ·show (Cu j).length+2<=4294967296
   rw [Xc];omega
  ·rw [au,Cq (n:=(j:Int)+1+1) (by omega) (by omega),Cq (n:=0-((j:Int)+1)) (by omega) (by omega),Int.zero_sub]
   rfl
  ·rw [Cq (by omega) (by omega)];omega
 ·have:j=List.length p.2.2.1:=by omega
  subst this
  rw [Cj]
theorem oN:Sound Try.prog 144 Tt:=
 Sound.Hq Ee Bt mixed Try.func144 (by kernel_rfl) (by kernel_rfl) λx h=>zH x.1 h
abbrev rLL:CK:= .row tL 31
def wy (v:Int):List Int->Nat
 | []=>0
 |x::r=>if x>v then wy v r+1 else 0
def VS (v:Int) (t:List Int):Option (List Int):=if wy v t=0 then none else some (Hs t ((wy v t-1:Nat):Int)::(t.set (wy v t-1) v).reverse)
def mC:List Int->Option (List Int)
 | []=>none
 |v::t=>match mC t with
  |some t'=>some (v::t')
  |none=>VS v t
theorem zt {s s':List Int} (h:mC s=some s'): ∀pre:List Int,mC (pre++s)=some (pre++s')
 | []=>h
 |v::p=>by rw [Rj,mC,zt h p];rfl
theorem WI {α:Type} (pre:List α) (v a:α) (t:List α):(pre++v::t).set pre.length a=pre++a::t:=by
 rw [List.set_append,Al (by omega)];simp
inductive TV:List Int->List (List Int)->List Int->Prop where
 |one (a:List Int):TV a [a] a
 |more {a c b:List Int} {L:List (List Int)} :mC a=some c->TV c L b->TV a (a::L) b
theorem TV.cons {a b:List Int} {L:List (List Int)} (h:TV a L b) (v:Int):TV (v::a) (L.map (v:: ·)) (v::b):=by
 induction h with
 |one a=>exact .one _
 |more h3 _ ih=>exact .more (zt h3 [v]) ih
theorem TV.head {a b:List Int} {L:List (List Int)} (h:TV a L b): ∃M,L=a::M:=by
 cases h with
 |one=>exact ⟨_,rfl⟩
 |more _ _=>exact ⟨_,rfl⟩
theorem TV.at {a b:List Int} {L:List (List Int)} (h:TV a L b): ∀j (hj:j<L.length),(∀h2:j+1<L.length,mC L[j]=some L[j+1])/\(j+1=L.length->L[j]=b):=by
 induction h with
 |one a=>
  intro j hj
  simp only [Cr] at hj
  have:j=0:=by omega
  subst this
  exact ⟨λh2=>by simp at h2,λ_=>rfl⟩
 |more h3 h4 ih=>
  intro j hj
  rcases j with _|j
  ·obtain ⟨M,hM⟩:=h4.head
   refine ⟨λh2=>?_,λh2=>?_⟩
   ·simp only [List.getElem_cons_zero,List.getElem_cons_succ]
    subst hM
    exact h3
   ·subst hM;simp at h2
  ·have:=ih j (by simpa using hj)
   refine ⟨λh2=>?_,λh2=>?_⟩
   ·simp only [List.getElem_cons_succ]
    exact this.1 (by simpa using h2)
   ·simp only [List.getElem_cons_succ]
    exact this.2 (by simpa using h2)
def Ep:List Int->List Int->Int
 | [],[]=>0
 | [],_::_=> -1
 |_::_,[]=>1
 |x::a,y::b=>if x<y then-1 else if x>y then 1 else Ep a b
def dr (a b:List Int):Bool:=decide (Ep a b<0)
noncomputable abbrev Wr:Spec:=Hq (.pair tL (.pair tL .unit)) .bool false true (λx=>short x.1/\List.length x.1=List.length x.2.1) (λx=>dr x.1 x.2.1)
theorem GK (a b:List Int) (P:Bool->Prop):(Em (λ(v3:Int×PUnit) (k4:Int×PUnit->Prop)=>Br (decide (v3.1<(↑a.length:Int))) (∃(y5:Int),idx a v3.1=some y5/\ ∃(y6:Int),idx b v3.1=some y6/\Br (y5 !=y6) (∃(y7:Int),idx a v3.1=some y7/\ ∃(y8:Int),idx b v3.1=some y8/\P (decide (y7<y8))) (k4 (IntKind.i64.wrap (v3.1+(1:Int)),()))) (P false)) ((0:Int),PUnit.unit))=fnW Gb (look []) Wr Try.f210 (a,b,()) P:=by kernel_rfl
theorem EJ (a b:List Int) (h:short a/\a.length=b.length):fnW Gb (look []) Wr Try.f210 (a,b,()) (λ(z:Bool)=>z=dr a b):=by
 obtain ⟨ha,hb⟩:=h
 unfold short at ha
 refine Eq.mp (GK a b _) ?_
 refine Cg a.length (λv=>v.1) (λj _=>Ep (a.drop j) (b.drop j)=Ep a b) rfl (by simp) ?_
 rintro j ⟨i,⟨⟩⟩ K hj hi ZN hK
 dsimp only at hi⊢
 subst hi
 refine Br.dec (λhl=>?_) λhl=>?_
 ·have hl:j<a.length:=by omega
  have hlb:j<b.length:=by omega
  rw [Gt hl,Gt hlb] at ZN
  simp only [Ep] at ZN
  refine ⟨_,Cc hl,_,Cc hlb,⟨λJg=>?_,λJg=>?_⟩⟩
  ·refine ⟨_,Cc hl,_,Cc hlb,?_⟩
   have Jg:a[j]≠b[j]:=by simpa using Jg
   unfold dr
   rw [<-ZN]
   by_cases h1:a[j]<b[j]
   ·rw [Ab h1];simp [h1]
   ·rw [Al h1,Ab (by omega)];simp [h1]
  ·have Jg:a[j]=b[j]:=by simpa using Jg
   rw [Al (by omega),Al (by omega)] at ZN
   rw [Cm (by omega)]
   exact hK hl _ rfl ZN
 ·have:j=a.length:=by omega
  subst this
  rw [Ww,List.drop_eq_nil_of_le (by omega)] at ZN
  unfold dr
  rw [<-ZN]
  rfl
theorem rS:Sound Try.prog 210 Wr:=
 Sound.Hq Ee Bt mixed Try.func210 (by kernel_rfl) (by kernel_rfl) λx h=>EJ x.1 x.2.1 h
abbrev SS:Type:=List (List Int)×List Int×List Int×Bool×Unit
abbrev rLS:CK:= .row tL 31
abbrev rN:CK:= .row tI 3
def Gc (L:List (List Int)) (Mg:List Int) (s:List Int):Nat:=(Mg.takeWhile λi=>dr (L.getD i.toNat []) s).length
structure Fy (m:Nat) (L:List (List Int)) (Mg:List Int):Prop where
 oz:L.length<=3000
 len: ∀x∈L,x.length=m
 short:m<=20
 perm:Mg.Perm (upto L.length)
 sorted:Mg.Pairwise λi j=>dr (L.getD i.toNat []) (L.getD j.toNat [])=true
def je (L:List (List Int)) (s:List Int):Int:=if s∈L then (L.idxOf s:Int) else-1
def Vp (Mg:List Int) (k:Nat) (x:Int):List Int:=Mg.take k++x::Mg.drop k
noncomputable abbrev dL:Spec:=Hq (.pair dS (.pair tL .unit)) tI false true (λx=>Fy (List.length x.2.1) x.1.1 x.1.2.2.1) (λx=>(Gc x.1.1 x.1.2.2.1 x.2.1:Int))
noncomputable abbrev Vb:Spec:=Hq (.pair dS (.pair tL .unit)) tI false true (λx=>Fy (List.length x.2.1) x.1.1 x.1.2.2.1) (λx=>je x.1.1 x.2.1)
noncomputable abbrev ku:MSpec:=iw [some 4,none,none] [(false,rLS),(false,rL),(false,rN),(false, .Fp .bool),(false, .Fp tL),(false, .Fp tI)] false [some 4] [rLS,rL,rN, .Fp .bool]
 (λx=>Fy (List.length x.2.2.2.2.1) x.1 x.2.2.1/\List.length x.2.1<=3000) (λx=>((x.1++ [x.2.2.2.2.1],x.2.1++ [x.2.2.2.2.2.1],Vp x.2.2.1 (Gc x.1 x.2.2.1 x.2.2.2.2.1) (List.length x.1),x.2.2.2.1,()),()))
def bu (L:List (List Int)):List Int:=(List.range L.length).foldl (λ(S:List Int) (i:Nat)=>Vp S (Gc (L.take i) S (L.getD i [])) (i:Int)) []
def Hz (g:List (List Int)) (x:List Int) (d:Int):List Int->List (List Int)->List Int->List (List Int)×List Int×Bool
 | [],L,D=>(L,D,true)
 |l::ls,L,D=>if As x (Av g l)∈L then Hz g x d ls L D else if L.length=3000 then (L,D,false) else Hz g x d ls (L++ [As x (Av g l)]) (D++ [d+1])
def Ky (g:List (List Int)) (ls:List Int):Nat->Nat->List (List Int)->List Int->List (List Int)×List Int×Bool
 |0,_,L,D=>(L,D,true)
 |f+1,k,L,D=>if k<L.length then (match Hz g (L.getD k []) (D.getD k 0) ls L D with
  |(L',D',true)=>Ky g ls f (k+1) L' D'
  |(L',D',false)=>(L',D',false)) else (L,D,true)
def Gp (g:List (List Int)) (s:List Int):List (List Int)×List Int×Bool:=Ky g (Cu g.length) 3001 0 [s] [0]
def Pg (g:List (List Int)) (s:List Int):SS:=((Gp g s).1,(Gp g s).2.1,bu (Gp g s).1,(Gp g s).2.2,())
noncomputable abbrev iF:Spec:=Hq (.pair Mw (.pair tL .unit)) dS false false (λx=>Dh x.1=true/\List.length x.2.1<=20/\ ∀y∈x.2.1,0<=y/\y<x.1.1) (λx=>Pg x.1.2.2.1 x.2.1)
abbrev IQ:Type:=Int×Int×List (List Int)×List Int×List Int×Bool×PUnit
theorem Abp (f:List (List Int)×List Int×List Int×Bool×Unit) (s:List Int) (P:Int->Prop):(Em (λ(v3:IQ) (k4:IQ->Prop)=>Br (decide (v3.1<v3.2.1)) ((2:Int)≠(0:Int)/\ ∃(y5:Int),idx v3.2.2.2.2.1 (IntKind.i64.wrap ((IntKind.i64.wrap (v3.1+v3.2.1)).tdiv (2:Int)))=some y5/\ ∃(y6:List Int),idx v3.2.2.1 y5=some y6/\ ∃(y7:Bool),Wr.fn (y6,s,())=some y7/\Br y7 (k4 (IntKind.i64.wrap (IntKind.i64.wrap ((IntKind.i64.wrap (v3.1+v3.2.1)).tdiv (2:Int))+(1:Int)),v3.2.1,v3.2.2.1,v3.2.2.2.1,v3.2.2.2.2.1,v3.2.2.2.2.2.1,())) (k4 (v3.1,IntKind.i64.wrap ((IntKind.i64.wrap (v3.1+v3.2.1)).tdiv (2:Int)),v3.2.2.1,v3.2.2.2.1,v3.2.2.2.2.1,v3.2.2.2.2.2.1,()))) (P v3.1)) ((0:Int),(↑f.2.2.1.length:Int),f.1,f.2.1,f.2.2.1,f.2.2.2.1,PUnit.unit))=fnW Gb (look [(210,Wr)]) dL Try.f185 (f,s,()) P:=by kernel_rfl
theorem TN (f:List (List Int)×List Int×List Int×Bool×Unit) (s:List Int) (P:Int->Prop):(∃(y3:Int),dL.fn ((f.1,f.2.1,f.2.2.1,f.2.2.2.1,()),s,())=some y3/\Br (decide (y3<(↑f.2.2.1.length:Int))) (∃(y4:Int),idx f.2.2.1 y3=some y4/\ ∃(y5:List Int),idx f.1 y4=some y5/\ ∃(y6:Bool),Cw.fn (y5,s,())=some y6/\Br y6 (∃(y7:Int),idx f.2.2.1 y3=some y7/\P y7) (P (-1:Int))) (P (-1:Int)))=fnW Gb (look [(185,dL),(80,Cw)]) Vb Try.f134 (f,s,()) P:=by kernel_rfl
theorem Abo (L:List (List Int)) (D S:List Int) (b:Bool) (s:List Int) (d:Int) (P:((List (List Int)×List Int×List Int×Bool×Unit)×Unit)->Prop):(∃(y7:Int),dL.fn ((List.take L.length (List.drop 0 L),List.take D.length (List.drop 0 D),List.take S.length (List.drop 0 S),b,()),s,())=some y7/\0=0/\S.length=S.length/\S.length+(List.take 1 (List.drop 0 [(0:Int)])).length<=Et/\((0:Int)<=IntKind.i64.wrap (y7+(1:Int))/\IntKind.i64.wrap (y7+(1:Int))<=(↑(S++List.take 1 (List.drop 0 [(0:Int)])).length:Int)/\(↑(S++List.take 1 (List.drop 0 [(0:Int)])).length:Int)<=(↑(S++List.take 1 (List.drop 0 [(0:Int)])).length:Int))/\((0:Int)<=y7/\y7<=(↑(S++List.take 1 (List.drop 0 [(0:Int)])).length:Int)/\(↑(S++List.take 1 (List.drop 0 [(0:Int)])).length:Int)<=(↑(S++List.take 1 (List.drop 0 [(0:Int)])).length:Int))/\((0:Int)<=y7/\y7<(↑(S++List.take 1 (List.drop 0 [(0:Int)])).length:Int))/\0+y7.toNat<(Dq (S++List.take 1 (List.drop 0 [(0:Int)])) (0+(IntKind.i64.wrap (y7+(1:Int))).toNat) (List.take ((↑(S++List.take 1 (List.drop 0 [(0:Int)])).length:Int).toNat-(IntKind.i64.wrap (y7+(1:Int))).toNat) (List.take ((↑(S++List.take 1 (List.drop 0 [(0:Int)])).length:Int).toNat-y7.toNat) (List.drop (0+y7.toNat) (S++List.take 1 (List.drop 0 [(0:Int)])))))).length/\0=0/\L.length=L.length/\L.length+(List.take 1 (List.drop 0 [s])).length<=Et/\0=0/\D.length=D.length/\D.length+(List.take 1 (List.drop 0 [d])).length<=Et/\P ((List.take (L++List.take 1 (List.drop 0 [s])).length (List.drop 0 (L++List.take 1 (List.drop 0 [s]))),List.take (D++List.take 1 (List.drop 0 [d])).length (List.drop 0 (D++List.take 1 (List.drop 0 [d]))),List.take (S++List.take 1 (List.drop 0 [(0:Int)])).length (List.drop 0 ((Dq (S++List.take 1 (List.drop 0 [(0:Int)])) (0+(IntKind.i64.wrap (y7+(1:Int))).toNat) (List.take ((↑(S++List.take 1 (List.drop 0 [(0:Int)])).length:Int).toNat-(IntKind.i64.wrap (y7+(1:Int))).toNat) (List.take ((↑(S++List.take 1 (List.drop 0 [(0:Int)])).length:Int).toNat-y7.toNat) (List.drop (0+y7.toNat) (S++List.take 1 (List.drop 0 [(0:Int)])))))).set (0+y7.toNat) (↑L.length:Int))),b,()),()))=fnMW Pz (look [(185,dL)]) ku Try.f192 (L,D,S,b,s,d,()) P:=by kernel_rfl
abbrev lU:Type:=Int×Int×ByteArray×List (List Int)×Bool×Bool×List (List Int)×List Int×List Int×List (List Int)×List Int×List Int×PUnit
abbrev AL:Type:=(List (List Int)×List Int×List Int×Bool×PUnit)×PUnit
theorem WV (p:Int×ByteArray×List (List Int)×Unit) (s:List Int) (P:(List (List Int)×List Int×List Int×Bool×Unit)->Prop):(∃(y3:List Int),Je.fn (s,())=some y3/\ ∃(y4:AL),ku.fn ([],[],[],false,y3,(0:Int),())=some y4/\ ∃(y5:List Int),Tt.fn ((p.1,p.2.1,p.2.2.1,()),())=some y5/\0=0/\0=([]:List Int).length/\0=0/\0=([]:List Int).length/\0=0/\0=([]:List Int).length/\0=0/\y4.1.1.length=y4.1.1.length/\0=0/\y4.1.2.1.length=y4.1.2.1.length/\0=0/\y4.1.2.2.1.length=y4.1.2.2.1.length/\Em (λ(v6:lU) (k7:lU->Prop)=>Br (decide (v6.1<(↑v6.2.2.2.2.2.2.2.2.2.1.length:Int))) (0=0/\v6.2.2.2.2.2.2.1.length=v6.2.2.2.2.2.2.1.length/\0=0/\v6.2.2.2.2.2.2.2.1.length=v6.2.2.2.2.2.2.2.1.length/\0=0/\v6.2.2.2.2.2.2.2.2.1.length=v6.2.2.2.2.2.2.2.2.1.length/\0=0/\v6.2.2.2.2.2.2.2.2.2.1.length=v6.2.2.2.2.2.2.2.2.2.1.length/\0=0/\v6.2.2.2.2.2.2.2.2.2.2.1.length=v6.2.2.2.2.2.2.2.2.2.2.1.length/\0=0/\v6.2.2.2.2.2.2.2.2.2.2.2.1.length=v6.2.2.2.2.2.2.2.2.2.2.2.1.length/\Em (λ(v8:lU) (k9:lU->Prop)=>Br (decide (v8.1<(↑y5.length:Int))) (((0:Int)<=v6.1/\v6.1<(↑v8.2.2.2.2.2.2.2.2.2.1.length:Int))/\ ∃(dY:List Int),v8.2.2.2.2.2.2.2.2.2.1[0+v6.1.toNat]?=some dY/\ ∃(bD:Int),idx y5 v8.1=some bD/\ ∃(c5:List Int),cF.fn ((v8.2.1,v8.2.2.1,v8.2.2.2.1,()),dY,bD,())=some c5/\ ∃(sf:Int),Vb.fn ((List.take v8.2.2.2.2.2.2.2.2.2.1.length (List.drop 0 v8.2.2.2.2.2.2.2.2.2.1),List.take v8.2.2.2.2.2.2.2.2.2.2.1.length (List.drop 0 v8.2.2.2.2.2.2.2.2.2.2.1),List.take v8.2.2.2.2.2.2.2.2.2.2.2.1.length (List.drop 0 v8.2.2.2.2.2.2.2.2.2.2.2.1),v8.2.2.2.2.2.1,()),c5,())=some sf/\Br (decide (sf>=(0:Int))) (0=0/\v8.2.2.2.2.2.2.1.length=v8.2.2.2.2.2.2.1.length/\0=0/\v8.2.2.2.2.2.2.2.1.length=v8.2.2.2.2.2.2.2.1.length/\0=0/\v8.2.2.2.2.2.2.2.2.1.length=v8.2.2.2.2.2.2.2.2.1.length/\0=0/\v8.2.2.2.2.2.2.2.2.2.1.length=v8.2.2.2.2.2.2.2.2.2.1.length/\0=0/\v8.2.2.2.2.2.2.2.2.2.2.1.length=v8.2.2.2.2.2.2.2.2.2.2.1.length/\0=0/\v8.2.2.2.2.2.2.2.2.2.2.2.1.length=v8.2.2.2.2.2.2.2.2.2.2.2.1.length/\k9 (IntKind.i64.wrap (v8.1+(1:Int)),v8.2.1,v8.2.2.1,v8.2.2.2.1,v8.2.2.2.2.1,v8.2.2.2.2.2.1,v8.2.2.2.2.2.2.1,v8.2.2.2.2.2.2.2.1,v8.2.2.2.2.2.2.2.2.1,v8.2.2.2.2.2.2.2.2.2.1,v8.2.2.2.2.2.2.2.2.2.2.1,v8.2.2.2.2.2.2.2.2.2.2.2.1,())) (Br ((↑v8.2.2.2.2.2.2.2.2.2.1.length:Int)==(3000:Int)) (P (List.take v8.2.2.2.2.2.2.2.2.2.1.length (List.drop 0 v8.2.2.2.2.2.2.2.2.2.1),List.take v8.2.2.2.2.2.2.2.2.2.2.1.length (List.drop 0 v8.2.2.2.2.2.2.2.2.2.2.1),List.take v8.2.2.2.2.2.2.2.2.2.2.2.1.length (List.drop 0 v8.2.2.2.2.2.2.2.2.2.2.2.1),v8.2.2.2.2.2.1,())) (((0:Int)<=v6.1/\v6.1<(↑v8.2.2.2.2.2.2.2.2.2.2.1.length:Int))/\ ∃(pt:Int),v8.2.2.2.2.2.2.2.2.2.2.1[0+v6.1.toNat]?=some pt/\0=0/\v8.2.2.2.2.2.2.2.2.2.1.length=v8.2.2.2.2.2.2.2.2.2.1.length/\0=0/\v8.2.2.2.2.2.2.2.2.2.2.1.length=v8.2.2.2.2.2.2.2.2.2.2.1.length/\0=0/\v8.2.2.2.2.2.2.2.2.2.2.2.1.length=v8.2.2.2.2.2.2.2.2.2.2.2.1.length/\ ∃(jB:AL),ku.fn (v8.2.2.2.2.2.2.2.2.2.1,v8.2.2.2.2.2.2.2.2.2.2.1,v8.2.2.2.2.2.2.2.2.2.2.2.1,v8.2.2.2.2.2.1,c5,IntKind.i64.wrap (pt+(1:Int)),())=some jB/\0=0/\v8.2.2.2.2.2.2.1.length=v8.2.2.2.2.2.2.1.length/\0=0/\v8.2.2.2.2.2.2.2.1.length=v8.2.2.2.2.2.2.2.1.length/\0=0/\v8.2.2.2.2.2.2.2.2.1.length=v8.2.2.2.2.2.2.2.2.1.length/\0=0/\jB.1.1.length=jB.1.1.length/\0=0/\jB.1.2.1.length=jB.1.2.1.length/\0=0/\jB.1.2.2.1.length=jB.1.2.2.1.length/\k9 (IntKind.i64.wrap (v8.1+(1:Int)),v8.2.1,v8.2.2.1,v8.2.2.2.1,v8.2.2.2.2.1,jB.1.2.2.2.1,v8.2.2.2.2.2.2.1,v8.2.2.2.2.2.2.2.1,v8.2.2.2.2.2.2.2.2.1,jB.1.1,jB.1.2.1,jB.1.2.2.1,())))) (0=0/\v8.2.2.2.2.2.2.1.length=v8.2.2.2.2.2.2.1.length/\0=0/\v8.2.2.2.2.2.2.2.1.length=v8.2.2.2.2.2.2.2.1.length/\0=0/\v8.2.2.2.2.2.2.2.2.1.length=v8.2.2.2.2.2.2.2.2.1.length/\0=0/\v8.2.2.2.2.2.2.2.2.2.1.length=v8.2.2.2.2.2.2.2.2.2.1.length/\0=0/\v8.2.2.2.2.2.2.2.2.2.2.1.length=v8.2.2.2.2.2.2.2.2.2.2.1.length/\0=0/\v8.2.2.2.2.2.2.2.2.2.2.2.1.length=v8.2.2.2.2.2.2.2.2.2.2.2.1.length/\k7 (IntKind.i64.wrap (v6.1+(1:Int)),v8.2.1,v8.2.2.1,v8.2.2.2.1,v8.2.2.2.2.1,v8.2.2.2.2.2.1,v8.2.2.2.2.2.2.1,v8.2.2.2.2.2.2.2.1,v8.2.2.2.2.2.2.2.2.1,v8.2.2.2.2.2.2.2.2.2.1,v8.2.2.2.2.2.2.2.2.2.2.1,v8.2.2.2.2.2.2.2.2.2.2.2.1,()))) ((0:Int),v6.2.1,v6.2.2.1,v6.2.2.2.1,v6.2.2.2.2.1,v6.2.2.2.2.2.1,v6.2.2.2.2.2.2.1,v6.2.2.2.2.2.2.2.1,v6.2.2.2.2.2.2.2.2.1,v6.2.2.2.2.2.2.2.2.2.1,v6.2.2.2.2.2.2.2.2.2.2.1,v6.2.2.2.2.2.2.2.2.2.2.2.1,PUnit.unit)) (P (List.take v6.2.2.2.2.2.2.2.2.2.1.length (List.drop 0 v6.2.2.2.2.2.2.2.2.2.1),List.take v6.2.2.2.2.2.2.2.2.2.2.1.length (List.drop 0 v6.2.2.2.2.2.2.2.2.2.2.1),List.take v6.2.2.2.2.2.2.2.2.2.2.2.1.length (List.drop 0 v6.2.2.2.2.2.2.2.2.2.2.2.1),true,()))) ((0:Int),p.1,p.2.1,p.2.2.1,false,y4.1.2.2.2.1,[],[],[],y4.1.1,y4.1.2.1,y4.1.2.2.1,PUnit.unit))=fnW Abi (look [(86,Je),(192,ku),(144,Tt),(145,cF),(134,Vb)]) iF Try.f153 (p,s,()) P:=by kernel_rfl
theorem pU: ∀ {a b:List Int},Ep a b=0↔a=b
 | [],[]=>by simp [Ep]
 | [],_::_=>by simp [Ep]
 |_::_,[]=>by simp [Ep]
 |x::a,y::b=>by
  simp only [Ep,Gi]
  by_cases h1:x<y
  ·rw [Ab h1]
   exact ⟨λh=>by omega,λh=>by omega⟩
  ·rw [Al h1]
   by_cases h2:x>y
   ·rw [Ab h2]
    exact ⟨λh=>by omega,λh=>by omega⟩
   ·rw [Al h2,pU]
    exact ⟨λh=>⟨by omega,h⟩,λh=>h.2⟩
theorem GZ: ∀(a b:List Int),Ep b a= -Ep a b
 | [],[]=>by simp [Ep]
 | [],_::_=>by simp [Ep]
 |_::_,[]=>by simp [Ep]
 |x::a,y::b=>by
  simp only [Ep]
  rcases Int.lt_trichotomy x y with h1|h1|h1
  ·simp [h1,show ¬y<x by omega]
  ·subst h1
   simp [GZ a b]
  ·simp [h1,show ¬x<y by omega]
theorem tV: ∀ {a b c:List Int},Ep a b<0->Ep b c<0->Ep a c<0
 | [],[],_,h,_=>by simp [Ep] at h
 |_::_,[],_,h,_=>by simp [Ep] at h
 |_,_::_,[],_,h=>by simp [Ep] at h
 | [],_::_,_::_,_,_=>by simp [Ep]
 |x::a,y::b,z::c,h1,h2=>by
  simp only [Ep] at h1 h2⊢
  by_cases e1:x<y
  ·by_cases e2:y<z
   ·rw [Ab (by omega)];omega
   ·rw [Al e2] at h2
    by_cases e3:y>z
    ·rw [Ab e3] at h2;omega
    ·rw [Ab (by omega)];omega
  ·rw [Al e1] at h1
   by_cases e2:x>y
   ·rw [Ab e2] at h1;omega
   ·rw [Al e2] at h1
    by_cases e3:y<z
    ·rw [Ab (by omega)];omega
    ·rw [Al e3] at h2
     by_cases e4:y>z
     ·rw [Ab e4] at h2;omega
     ·rw [Al e4] at h2
      rw [Al (by omega),Al (by omega)]
      exact tV h1 h2
theorem lt_iff {a b:List Int} :dr a b=true↔Ep a b<0:=Jp
theorem KN {a b c:List Int} (h1:dr a b=true) (h2:dr b c=true):dr a c=true:=lt_iff.2 (tV (lt_iff.1 h1) (lt_iff.1 h2))
theorem kc (a:List Int):dr a a=false:=by
 have:Ep a a=0:=pU.2 rfl
 unfold dr;rw [this];rfl
theorem QR {a b:List Int} (h:dr a b=false) (Jg:a≠b):dr b a=true:=by
 rw [lt_iff,GZ a b]
 have h1: ¬Ep a b<0:= λh'=>by rw [lt_iff.2 h'] at h;cases h
 have h2:Ep a b≠0:= λh'=>Jg (pU.1 h')
 omega
theorem js {α:Type} (q:α->Bool): ∀(l:List α),l.Pairwise (λi j=>q j=true->q i=true)-> ∀k (hk:k<l.length),k<(l.takeWhile q).length↔q l[k]=true
 | [],_,k,hk=>by simp at hk
 |a::l,h,k,hk=>by
  obtain ⟨h1,h2⟩:=List.pairwise_cons.1 h
  by_cases ha:q a=true
  ·rw [List.takeWhile_cons_of_pos ha]
   rcases k with _|k
   ·simpa using ha
   ·simp only [Bg,List.getElem_cons_succ,Nat.add_lt_add_iff_right]
    exact js q l h2 k (by simpa using hk)
  ·rw [List.takeWhile_cons_of_neg ha]
   simp only [Iq,Gk,false_iff]
   rcases k with _|k
   ·exact ha
   ·simp only [List.getElem_cons_succ]
    exact λhq=>ha (h1 _ (Ak _) hq)
theorem Fy.qE {m:Nat} {L:List (List Int)} {Mg:List Int} (h:Fy m L Mg):Mg.length=L.length:=by rw [h.perm.length_eq,Vi]
theorem Fy.idx {m:Nat} {L:List (List Int)} {Mg:List Int} (h:Fy m L Mg) {k:Nat} (hk:k<Mg.length):0<=Mg[k]/\Mg[k]<L.length:=Si.1 (h.perm.mem_iff.1 (Ak hk))
theorem Fy.cL {m:Nat} {L:List (List Int)} {Mg:List Int} (h:Fy m L Mg) (s:List Int) {k:Nat} (hk:k<Mg.length):k<Gc L Mg s↔dr (L.getD Mg[k].toNat []) s=true:=
 js _ Mg (h.sorted.imp λil hj=>KN il hj) k hk
theorem IL (L:List (List Int)) (Mg s:List Int):Gc L Mg s<=Mg.length:=(List.takeWhile_sublist _).length_le
theorem Fy.inj {m:Nat} {L:List (List Int)} {Mg:List Int} (h:Fy m L Mg) {i j:Nat} (hi:i<L.length) (hj:j<L.length) (e:L[i]=L[j]):i=j:=by
 have mem: ∀i,i<L.length->(i:Int)∈Mg:= λi hi=>h.perm.mem_iff.2 (Si.2 ⟨by omega,by omega⟩)
 obtain ⟨p,hp,ep⟩:=Az.1 (mem i hi)
 obtain ⟨q,hq,eq⟩:=Az.1 (mem j hj)
 have get: ∀i (hi:i<L.length),L.getD ((i:Int)).toNat []=L[i]:= λi hi=>by rw [Ay,Ah,Ac hi];rfl
 rcases Nat.lt_trichotomy p q with h1|h1|h1
 ·have:=Eb.1 h.sorted p q hp hq h1
  rw [ep,eq,get i hi,get j hj,e,kc] at this
  cases this
 ·subst h1
  rw [ep] at eq
  omega
 ·have:=Eb.1 h.sorted q p hq hp h1
  rw [ep,eq,get i hi,get j hj,e,kc] at this
  cases this
theorem Un {L:List (List Int)} {k:Nat} (h:k<L.length):L.getD k []=L[k]:=by rw [Ah,Ac h];rfl
theorem Fy.vC {m:Nat} {L:List (List Int)} {Mg:List Int} (h:Fy m L Mg) {s:List Int} :
  (∃hk:Gc L Mg s<Mg.length,L.getD Mg[Gc L Mg s].toNat []=s/\je L s=Mg[Gc L Mg s])\/(je L s= -1/\ ∀hk:Gc L Mg s<Mg.length,L.getD Mg[Gc L Mg s].toNat []≠s):=by
 by_cases hm:s∈L
 ·left
  obtain ⟨j,hj,rfl⟩:=Az.1 hm
  obtain ⟨p,hp,ep⟩:=Az.1 (h.perm.mem_iff.2 (Si.2 ⟨by omega,by omega⟩):(j:Int)∈Mg)
  have gj:L.getD Mg[p].toNat []=L[j]:=by rw [ep,Ay,Un hj]
  have hs:Gc L Mg L[j]=p:=by
   have h1: ¬p<Gc L Mg L[j]:= λh1=>by
    have:=(h.cL L[j] hp).1 h1
    rw [gj,kc] at this;cases this
   have h2: ¬Gc L Mg L[j]<p:= λh2=>by
    have h3:=(h.cL L[j] (k:=Gc L Mg L[j]) (by omega)).2 (by
     have:=Eb.1 h.sorted (Gc L Mg L[j]) p (by omega) hp h2
     rw [gj] at this;exact this)
    omega
   omega
  have hx:L.idxOf L[j]=j:=by
   have h1:L.idxOf L[j]<L.length:=Lo hm
   exact h.inj h1 hj (List.getElem_idxOf h1)
  refine ⟨by omega,?_,?_⟩
  ·simp only [hs];exact gj
  ·unfold je
   rw [Ab hm,hx]
   simp only [hs];exact ep.symm
 ·right
  refine ⟨by unfold je;rw [Al hm],λhk e=>hm ?_⟩
  have hi:=h.idx hk
  rw [Un (by omega)] at e
  rw [<-e]
  exact Ak _
theorem QG (Mg:List Int) (k:Nat) (x:Int):(Vp Mg k x).Perm (x::Mg):=by
 unfold Vp
 refine List.perm_middle.trans (List.Perm.cons x ?_)
 rw [Hp]
theorem Fy.add {m:Nat} {L:List (List Int)} {Mg s:List Int} (h:Fy m L Mg) (hn:s∉L) (hl:s.length=m) (hr:L.length<3000):Fy m (L++ [s]) (Vp Mg (Gc L Mg s) L.length):=by
 have yM: ∀i∈Mg,(L++ [s]).getD i.toNat []=L.getD i.toNat []:= λi hi=>by
  have:=Si.1 (h.perm.mem_iff.1 hi)
  rw [Ah,Ah,Ap (by omega)]
 have Acj:(L++ [s]).getD ((L.length:Int)).toNat []=s:=by
  rw [Ay,Ah,Ao (by omega),Nat.sub_self];rfl
 refine ⟨by rw [Au,Cr];omega,λx hx=>?_,h.short,?_,?_⟩
 ·rcases Aw.1 hx with hx|hx
  ·exact h.len x hx
  ·rw [Ad.1 hx];exact hl
 ·refine (QG _ _ _).trans ?_
  rw [Au,Cr,nj]
  exact (List.Perm.cons _ h.perm).trans (List.perm_append_singleton _ _).symm
 ·unfold Vp
  have hs:=h.sorted
  rw [<-Hp (Gc L Mg s) Mg] at hs
  obtain ⟨s1,s2,s3⟩:=List.pairwise_append.1 hs
  have mt: ∀i∈Mg.take (Gc L Mg s),i∈Mg/\dr (L.getD i.toNat []) s=true:= λi hi=>by
   obtain ⟨k,hk,rfl⟩:=Az.1 hi
   have hk2:k<Gc L Mg s:=by rw [Cl] at hk;omega
   have hk3:k<Mg.length:=by rw [Cl] at hk;omega
   rw [List.getElem_take]
   exact ⟨Ak _,(h.cL s hk3).1 hk2⟩
  have md: ∀i∈Mg.drop (Gc L Mg s),i∈Mg/\dr s (L.getD i.toNat [])=true:= λi hi=>by
   obtain ⟨k,hk,rfl⟩:=Az.1 hi
   rw [List.length_drop] at hk
   have hk3:Gc L Mg s+k<Mg.length:=by omega
   rw [List.getElem_drop]
   refine ⟨Ak _,QR ?_ λe=>hn ?_⟩
   ·exact Pu.2 λhh=>by
     have:=(h.cL s hk3).2 hh
     omega
   ·have hi:=h.idx hk3
    rw [Un (by omega)] at e
    rw [<-e];exact Ak _
  refine List.pairwise_append.2 ⟨s1.imp_of_mem λ {a b} ha hb oB=>?_,List.pairwise_cons.2 ⟨λb hb=>?_,s2.imp_of_mem λ {a b} ha hb oB=>?_⟩,λa ha b hb=>?_⟩
  ·rw [yM a (mt a ha).1,yM b (mt b hb).1];exact oB
  ·rw [Acj,yM b (md b hb).1];exact (md b hb).2
  ·rw [yM a (md a ha).1,yM b (md b hb).1];exact oB
  ·rcases Bb.1 hb with rfl|hb
   ·rw [Acj,yM a (mt a ha).1];exact (mt a ha).2
   ·rw [yM a (mt a ha).1,yM b (md b hb).1];exact s3 a ha b hb
theorem dN (L:List (List Int)) (s:List Int):bu (L++ [s])=Vp (bu L) (Gc L (bu L) s) L.length:=by
 unfold bu
 rw [Au,Cr,List.range_succ,List.foldl_append]
 have e: ∀(is:List Nat) (S:List Int),(∀i∈is,i<L.length)->is.foldl (λ(S:List Int) (i:Nat)=>Vp S (Gc ((L++ [s]).take i) S ((L++ [s]).getD i [])) (i:Int)) S=is.foldl (λ(S:List Int) (i:Nat)=>Vp S (Gc (L.take i) S (L.getD i [])) (i:Int)) S:=by
  intro is
  induction is with
  |nil=>intro S _;rfl
  |cons i is ih=>
   intro S h
   have hi:=h i (by simp)
   rw [My,My,ih _ λj hj=>h j (An _ hj)]
   congr 2
   rw [List.take_append_of_le_length (by omega),Ah,Ap hi,<-Ah]
 rw [e _ _ λi hi=>Hu.1 hi]
 simp only [My,List.foldl_nil]
 congr 2
 ·rw [List.take_append_of_le_length (Ar _),Bp]
 ·rw [Ah,Ao (by omega),Nat.sub_self];rfl
theorem lL {m:Nat} (h:m<=20):Fy m [] []:=⟨by simp,λx hx=>(by cases hx),h,by simp [upto],List.Pairwise.nil⟩
theorem QE {α:Type} {xs:List α} {y:Int} (h0:0<=y) (h:y.toNat<xs.length):idx xs y=some xs[y.toNat]:=by
 unfold idx
 rw [Ab h0,Ac h]
theorem Ab8 (f:SS) (s:List Int) (h:Fy s.length f.1 f.2.2.1):fnW Gb (look [(210,Wr)]) dL Try.f185 (f,s,()) (λ(z:Int)=>z=(Gc f.1 f.2.2.1 s:Int)):=by
 obtain ⟨L,D,Mg,b,⟨⟩⟩:=f
 dsimp only at h⊢
 have hle:=IL L Mg s
 have sA:=h.qE
 have qo:=h.oz
 refine Eq.mp (Abp (L,D,Mg,b,()) s _) ?_
 refine Em.mk (λv=>v.2.2.1=L/\v.2.2.2.2.1=Mg/\ ∃lo hi:Nat,v.1=lo/\v.2.1=hi/\lo<=hi/\hi<=Mg.length/\lo<=Gc L Mg s/\Gc L Mg s<=hi) (λv=>(v.2.1-v.1).toNat)
  ⟨rfl,rfl,0,Mg.length,rfl,rfl,by omega,by omega,by omega,hle⟩ ?_
 rintro ⟨lo',pb,L',D',MI,b',⟨⟩⟩ ⟨h1,h2,lo,hi,h3,h4,h5,h6,h7,h8⟩
 dsimp only at h1 h2 h3 h4⊢
 subst h1 h2 h3 h4
 refine Br.dec (λhl=>?_) λhl=>?_
 ·have em:IntKind.i64.wrap ((IntKind.i64.wrap ((lo:Int)+(hi:Int))).tdiv 2)=(((lo+hi)/2:Nat):Int):=by
   rw [Cq (n:=(lo:Int)+(hi:Int)) (by omega) (by omega),Int.tdiv_eq_ediv_of_nonneg (by omega),Cq (by omega) (by omega)]
   omega
  rw [em]
  have hm1:(lo+hi)/2<MI.length:=by omega
  have VA:=h.idx hm1
  have JS:MI[(lo+hi)/2].toNat<L'.length:=by omega
  have UE:=Un JS
  have hlen:=h.len _ (Ak JS)
  have oF:short L'[MI[(lo+hi)/2].toNat]:=by
   unfold short
   have:=h.short;omega
  refine ⟨by decide,_,Cc hm1,_,QE VA.1 JS,_,Ab ⟨oF,hlen⟩,⟨λhc=>?_,λhc=>?_⟩⟩
  ·have hc:dr L'[MI[(lo+hi)/2].toNat] s=true:=hc
   have hs:=(h.cL s hm1).2 (by rw [UE];exact hc)
   rw [Cm (by omega)]
   exact ⟨⟨rfl,rfl,(lo+hi)/2+1,hi,rfl,rfl,by omega,h6,by omega,h8⟩,by omega⟩
  ·have hc:dr L'[MI[(lo+hi)/2].toNat] s=false:=hc
   have hs: ¬(lo+hi)/2<Gc L' MI s:= λhh=>by
    have:=(h.cL s hm1).1 hh
    rw [UE,hc] at this;cases this
   exact ⟨⟨rfl,rfl,lo,(lo+hi)/2,rfl,rfl,by omega,by omega,h7,by omega⟩,by omega⟩
 ·show (lo:Int)=_
  omega
theorem rU:Sound Try.prog 185 dL:=
 Sound.Hq Ee (Ax rS Bt) mixed Try.func185 (by kernel_rfl) (by kernel_rfl) λx h=>Ab8 x.1 x.2.1 h
theorem RN (f:SS) (s:List Int) (h:Fy s.length f.1 f.2.2.1):fnW Gb (look [(185,dL),(80,Cw)]) Vb Try.f134 (f,s,()) (λ(z:Int)=>z=je f.1 s):=by
 obtain ⟨L,D,Mg,b,⟨⟩⟩:=f
 dsimp only at h⊢
 refine Eq.mp (TN (L,D,Mg,b,()) s _) ⟨_,Ab h,Br.dec (λhl=>?_) λhl=>?_⟩
 ·have hl:Gc L Mg s<Mg.length:=by
   have hl:((Gc L Mg s:Nat):Int)<(Mg.length:Int):=hl
   omega
  have VA:=h.idx hl
  have JS:Mg[Gc L Mg s].toNat<L.length:=by omega
  have UE:=Un JS
  have hlen:=h.len _ (Ak JS)
  have oF:short L[Mg[Gc L Mg s].toNat]:=by
   unfold short
   have:=h.short;omega
  refine ⟨_,Cc hl,_,QE VA.1 JS,_,Ab oF,⟨λhc=>⟨_,Cc hl,?_⟩,λhc=>?_⟩⟩
  ·have hc:L[Mg[Gc L Mg s].toNat]=s:=Hy hc
   rcases h.vC (s:=s) with ⟨hk,_,e⟩|⟨_,Jg⟩
   ·exact e.symm
   ·exact absurd (by rw [UE];exact hc) (Jg hl)
  ·have hc: ¬L[Mg[Gc L Mg s].toNat]=s:=of_decide_eq_false hc
   rcases h.vC (s:=s) with ⟨hk,e,_⟩|⟨e,_⟩
   ·rw [UE] at e;exact absurd e hc
   ·exact e.symm
 ·have hl: ¬Gc L Mg s<Mg.length:=by
   have hl: ¬((Gc L Mg s:Nat):Int)<(Mg.length:Int):=hl
   omega
  rcases h.vC (s:=s) with ⟨hk,e,_⟩|⟨e,_⟩
  ·exact absurd hk hl
  ·exact e.symm
theorem lR:Sound Try.prog 134 Vb:=
 Sound.Hq Ee (Ax rU (Ax eH Bt)) mixed Try.func134 (by kernel_rfl) (by kernel_rfl) λx h=>RN x.1 x.2.1 h
theorem DE {S:List Int} {k:Nat} (h:k<=S.length) (n:Int):
  (Dq (S++ [0]) (k+1) (List.take ((S++ [0]).length-(k+1)) (List.take ((S++ [0]).length-k) (List.drop k (S++ [0]))))).set k n=Vp S k n:=by
 obtain ⟨A,B,rfl,hA⟩: ∃A B,S=A++B/\A.length=k:=⟨S.take k,S.drop k,(Hp k S).symm,by rw [Cl];omega⟩
 subst hA
 have e1:List.drop A.length (A++B++ [0])=B++ [0]:=by rw [Cz,List.drop_left]
 have e2:List.take ((A++B++ [0]).length-A.length) (B++ [0])=B++ [0]:=List.take_of_length_le (by simp only [Au,Cr];omega)
 have e3:List.take ((A++B++ [0]).length-(A.length+1)) (B++ [0])=B:=by
  have:(A++B++ [(0:Int)]).length-(A.length+1)=B.length:=by simp only [Au,Cr];omega
  rw [this,List.take_left]
 rw [e1,e2,e3]
 unfold Dq Vp
 have e4:List.drop (A.length+1+B.length) (A++B++ [0])= []:=List.drop_eq_nil_of_le (by simp only [Au,Cr];omega)
 obtain ⟨c,hc⟩: ∃c,List.take (A.length+1) (A++B++ [0])=A++ [c]:=by
  rw [Cz,List.take_append,List.take_of_length_le (by omega)]
  cases B with
  |nil=>exact ⟨0,by simp⟩
  |cons b B=>exact ⟨b,by simp⟩
 rw [e4,hc,List.append_nil,Cz,List.singleton_append,WI,List.take_left,List.drop_left]
theorem Ab7 (L:List (List Int)) (D S:List Int) (b:Bool) (s:List Int) (d:Int) (h:Fy s.length L S/\D.length<=3000):
  fnMW Pz (look [(185,dL)]) ku Try.f192 (L,D,S,b,s,d,()) (λ(z:(List (List Int)×List Int×List Int×Bool×Unit)×Unit)=>z=((L++ [s],D++ [d],Vp S (Gc L S s) L.length,b,()),())):=by
 obtain ⟨h,hD⟩:=h
 have hle:=IL L S s
 have sA:=h.qE
 have qo:=h.oz
 refine Eq.mp (Abo L D S b s d _) ?_
 rw [Cj L,Cj D,Cj S]
 refine ⟨_,Ab h,?_⟩
 dsimp only
 have es:List.take 1 (List.drop 0 [(0:Int)])= [0]:=rfl
 have el:(S++ [(0:Int)]).length=S.length+1:=by simp
 rw [es,Cm (by omega),Cf,Cf,Ay,Ay,Ay]
 refine ⟨rfl,rfl,by show S.length+1<=4294967296;omega,⟨by omega,by omega,by omega⟩,⟨by omega,by omega,by omega⟩,⟨by omega,by omega⟩,?_,rfl,rfl,by show L.length+1<=4294967296;omega,rfl,rfl,by show D.length+1<=4294967296;omega,?_⟩
 ·unfold Dq
  simp only [Au,Cl,List.length_drop,Cr]
  omega
 ·rw [DE hle,Cj,Cj]
  have e5:List.take (S++ [(0:Int)]).length (List.drop 0 (Vp S (Gc L S s) (L.length:Int)))=Vp S (Gc L S s) (L.length:Int):=by
   rw [Jo,List.take_of_length_le]
   unfold Vp
   simp only [Au,Bg,Cl,List.length_drop,Iq]
   omega
  rw [e5]
  rfl
theorem FG:Dx Try.prog 192 ku:=
 Dx.iw Pb (Ax rU Bt) mixed Try.func192 (by kernel_rfl) (by kernel_rfl) λx h=>Ab7 x.1 x.2.1 x.2.2.1 x.2.2.2.1 x.2.2.2.2.1 x.2.2.2.2.2.1 h
structure Tg (p:PP) (m:Nat) (L:List (List Int)) (D:List Int):Prop where
 ok:Fy m L (bu L)
 len:D.length=L.length
 row: ∀x∈L,∀y∈x,0<=y/\y<p.1
 dep: ∀j (h:j<D.length),0<=D[j]/\D[j]<=j
theorem pj {p:PP} (hv:Valid p) {x:List Int} {l:Int} (hx: ∀y∈x,0<=y/\y<p.1) (hl:Hj (List.length p.2.2.1) l):
  (As x (Av p.2.2.1 l)).length=x.length/\ ∀y∈As x (Av p.2.2.1 l),0<=y/\y<p.1:=by
 obtain ⟨h1,h2⟩:=mA hv hl
 refine ⟨Xj _ _,λy hy=>?_⟩
 have:=yy (n:=(Av p.2.2.1 l).length) (λz hz=>by have:=hx z hz;omega) h2 y hy
 omega
theorem Tg.add {p:PP} {m:Nat} {L:List (List Int)} {D:List Int} (h:Tg p m L D) {y:List Int} {d:Int} (hn:y∉L) (hl:y.length=m) (hr:L.length<3000) (hy: ∀z∈y,0<=z/\z<p.1) (hd:0<=d/\d<=L.length):Tg p m (L++ [y]) (D++ [d]):=by
 have hlen:=h.len
 refine ⟨by rw [dN];exact h.ok.add hn hl hr,by simp [hlen],λx hx=>?_,λj hj=>?_⟩
 ·rcases Aw.1 hx with hx|hx
  ·exact h.row x hx
  ·rw [Ad.1 hx];exact hy
 ·by_cases e:j<D.length
  ·rw [Og e];exact h.dep j e
  ·simp only [Au,Cr] at hj
   have:j=D.length:=by omega
   subst this
   rw [List.getElem_append_right (by omega)]
   simp only [Nat.sub_self,List.getElem_cons_zero]
   omega
theorem ib {p:PP} {s:List Int} (hs:s.length<=20) (hr: ∀y∈s,0<=y/\y<p.1):Tg p s.length [s] [0]:=by
 refine ⟨?_,rfl,λx hx=>by rw [Ad.1 hx];exact hr,λj hj=>?_⟩
 ·have:=(lL hs).add (s:=s) (by simp) rfl (by simp)
  have e:bu [s]=Vp [] (Gc [] [] s) 0:=dN [] s
  rw [e];exact this
 ·simp only [Cr] at hj
  have:j=0:=by omega
  subst this
  simp
theorem uu {L:List (List Int)} {s:List Int} :je L s>=0↔s∈L:=by
 unfold je
 split
 ·rename_i h;exact ⟨λ_=>h,λ_=>by omega⟩
 ·rename_i h;exact ⟨λhh=>by omega,λhh=>absurd hh h⟩
theorem WE (p:PP) (s:List Int) (h:Dh p=true/\s.length<=20/\ ∀y∈s,0<=y/\y<p.1):fnW Abi (look [(86,Je),(192,ku),(144,Tt),(145,cF),(134,Vb)]) iF Try.f153 (p,s,()) (λ(z:SS)=>z=Pg p.2.2.1 s):=by
 obtain ⟨hv,hs,hr⟩:=h
 have hV:=valid hv
 have qo:=hV.oz
 have ZP:=ib hs hr
 have oF:short s:=by unfold short;omega
 obtain ⟨ls,xZ⟩: ∃ls,Cu (List.length p.2.2.1)=ls:=⟨_,rfl⟩
 refine Eq.mp (WV p s _) ⟨_,Ab oF,_,Ab ⟨lL hs,by show 0<=3000;omega⟩,ls,(Ab (by show List.length p.2.2.1<=8;exact qo.2)).trans (Hv some xZ),rfl,rfl,rfl,rfl,rfl,rfl,rfl,rfl,rfl,rfl,rfl,rfl,?_⟩
 have e0:Vp [] (Gc [] [] s) ((([]:List (List Int)).length:Nat):Int)=bu [s]:=(dN [] s).symm
 show Em _ ((0:Int),p.1,p.2.1,p.2.2.1,false,false,[],[],[],[s],[(0:Int)],Vp [] (Gc [] [] s) ((([]:List (List Int)).length:Nat):Int),PUnit.unit)
 rw [e0]
 have UG:ls.length<=16:=by rw [<-xZ,Xc];omega
 have fS: ∀l∈ls,Hj (List.length p.2.2.1) l:= λl hl=>Ol (xZ▸hl)
 have DB:Ky p.2.2.1 ls 3001 0 [s] [0]=Gp p.2.2.1 s:=by unfold Gp;rw [xZ]
 refine Em.mk (λv=>v.2.1=p.1/\v.2.2.1=p.2.1/\v.2.2.2.1=p.2.2.1/\v.2.2.2.2.2.1=false/\ ∃k:Nat,v.1=k/\k<=v.2.2.2.2.2.2.2.2.2.1.length/\
   Tg p s.length v.2.2.2.2.2.2.2.2.2.1 v.2.2.2.2.2.2.2.2.2.2.1/\v.2.2.2.2.2.2.2.2.2.2.2.1=bu v.2.2.2.2.2.2.2.2.2.1/\
   Ky p.2.2.1 ls (3001-k) k v.2.2.2.2.2.2.2.2.2.1 v.2.2.2.2.2.2.2.2.2.2.1=Gp p.2.2.1 s) (λv=>3001-v.1.toNat)
  ⟨rfl,rfl,rfl,rfl,0,rfl,by simp,ZP,rfl,DB⟩ ?_
 rintro ⟨k',n1,n2,n3,b0,wh,x1,x2,x3,L0,D0,S0,⟨⟩⟩ ⟨h1,h2,h3,h4,k,h5,h6,h7,h8,h9⟩
 dsimp only at h1 h2 h3 h4 h5 h6 h7 h8 h9
 subst h1 h2 h3 h4 h5 h8
 dsimp only
 have TZ:=h7.ok.oz
 have hD0:=h7.len
 refine Br.dec (λhl=>⟨rfl,rfl,rfl,rfl,rfl,rfl,rfl,rfl,rfl,rfl,rfl,rfl,?_⟩) λhl=>?_
 ·have hk:k<L0.length:=by omega
  have JT:k<D0.length:=by omega
  have hx: ∀y∈L0[k],0<=y/\y<p.1:=h7.row _ (Ak hk)
  have hxl:L0[k].length=s.length:=h7.ok.len _ (Ak hk)
  have hdk:=h7.dep k JT
  obtain ⟨f,hf⟩: ∃f,3001-k=f+1:=⟨3000-k,by omega⟩
  have hgo: ∀L' D' ok,Hz p.2.2.1 L0[k] D0[k] ls L0 D0=(L',D',ok)->Gp p.2.2.1 s=if ok=true then Ky p.2.2.1 ls f (k+1) L' D' else (L',D',false):=by
   intro L' D' ok he
   rw [<-h9,hf,Ky,Ab hk,Un hk,Ah,Ac JT]
   simp only [Option.getD_some]
   rw [he]
   cases ok<;>rfl
  refine Em.mk (λv=>v.2.1=p.1/\v.2.2.1=p.2.1/\v.2.2.2.1=p.2.2.1/\v.2.2.2.2.2.1=false/\ ∃i:Nat,v.1=i/\i<=ls.length/\Tg p s.length v.2.2.2.2.2.2.2.2.2.1 v.2.2.2.2.2.2.2.2.2.2.1/\
    v.2.2.2.2.2.2.2.2.2.2.2.1=bu v.2.2.2.2.2.2.2.2.2.1/\(∃A,v.2.2.2.2.2.2.2.2.2.1=L0++A)/\(∃A,v.2.2.2.2.2.2.2.2.2.2.1=D0++A)/\
    Hz p.2.2.1 L0[k] D0[k] (ls.drop i) v.2.2.2.2.2.2.2.2.2.1 v.2.2.2.2.2.2.2.2.2.2.1=Hz p.2.2.1 L0[k] D0[k] ls L0 D0) (λv=>ls.length-v.1.toNat)
   ⟨rfl,rfl,rfl,rfl,0,rfl,Mz _,h7,rfl,⟨[],by simp⟩,⟨[],by simp⟩,rfl⟩ ?_
  rintro ⟨i',m1,m2,m3,b1,wh1,y1,y2,y3,L,D,S,⟨⟩⟩ ⟨g1,g2,g3,g4,i,g5,g6,g7,g8,⟨A,g9⟩,⟨A',UQ⟩,oA⟩
  dsimp only at g1 g2 g3 g4 g5 g6 g7 g8 g9 UQ oA
  subst g1 g2 g3 g4 g5 g8
  dsimp only
  have hLf:=g7.ok.oz
  have XH:=g7.len
  rw [Cj L,Cj D,Cj (bu L)]
  refine Br.dec (λhli=>?_) λhli=>?_
  ·have hi:i<ls.length:=by omega
   have VC:k<L.length:=by rw [g9,Au];omega
   have hLk:L[k]=L0[k]:=by simp only [g9];exact Og hk
   have Aa6:k<D.length:=by rw [XH];exact VC
   have hDk:D[k]=D0[k]:=by simp only [UQ];exact Og JT
   have sB:=fS _ (Ak hi)
   obtain ⟨nl,nr⟩:=pj hV hx sB
   rw [Gt hi] at oA
   simp only [Hz] at oA
   refine ⟨⟨by omega,by omega⟩,L0[k],by rw [Ay,Cf,Ac VC,hLk],_,Cc hi,_,Ab ⟨hv,by show L0[k].length<=20;omega,hx,sB⟩,?_⟩
   dsimp only
   have hyl:(As L0[k] (Av p.2.2.1 ls[i])).length=s.length:=by rw [nl,hxl]
   refine ⟨_,Ab (by show Fy (As L0[k] (Av p.2.2.1 ls[i])).length L (bu L);rw [hyl];exact g7.ok),Br.dec (λaL=>?_) λaL=>?_⟩
   ·have aL:As L0[k] (Av p.2.2.1 ls[i])∈L:=uu.1 aL
    rw [Ab aL] at oA
    rw [Cm (by omega)]
    exact ⟨rfl,rfl,rfl,rfl,rfl,rfl,rfl,rfl,rfl,rfl,rfl,rfl,⟨rfl,rfl,rfl,rfl,i+1,rfl,hi,g7,rfl,⟨A,g9⟩,⟨A',UQ⟩,oA⟩,by omega⟩
   ·have aL:As L0[k] (Av p.2.2.1 ls[i])∉L:= λhh=>aL (uu.2 hh)
    rw [Al aL] at oA
    refine ⟨λXn=>?_,λXn=>⟨⟨by omega,by omega⟩,D0[k],by rw [Ay,Cf,Ac Aa6,hDk],rfl,rfl,rfl,rfl,rfl,rfl,?_⟩⟩
    ·have Xn:L.length=3000:=by
      have:(L.length:Int)=3000:=by simpa using Xn
      omega
     rw [Ab Xn] at oA
     have:=hgo _ _ _ oA.symm
     rw [Al (by decide)] at this
     unfold Pg
     rw [this]
    ·have Xn:L.length≠3000:=by
      have:(L.length:Int)≠3000:=by simpa using Xn
      omega
     rw [Al Xn] at oA
     rw [Cq (n:=D0[k]+1) (by omega) (by omega)]
     refine ⟨_,Ab ⟨by show Fy (As L0[k] (Av p.2.2.1 ls[i])).length L (bu L);rw [hyl];exact g7.ok,by show D.length<=3000;omega⟩,?_⟩
     dsimp only
     rw [Cm (by omega),<-dN]
     refine ⟨rfl,rfl,rfl,rfl,rfl,rfl,rfl,rfl,rfl,rfl,rfl,rfl,⟨rfl,rfl,rfl,rfl,i+1,rfl,hi,g7.add aL hyl (by omega) nr ⟨by omega,by omega⟩,rfl,⟨A++ [As L0[k] (Av p.2.2.1 ls[i])],by rw [g9,Cz]⟩,⟨A'++ [D0[k]+1],by rw [UQ,Cz]⟩,oA⟩,by omega⟩
  ·have:i=ls.length:=by omega
   subst this
   rw [Ww,Hz] at oA
   have:=hgo _ _ _ oA.symm
   rw [Ab rfl] at this
   rw [Cm (by omega)]
   refine ⟨rfl,rfl,rfl,rfl,rfl,rfl,rfl,rfl,rfl,rfl,rfl,rfl,⟨rfl,rfl,rfl,rfl,k+1,rfl,by rw [g9,Au];omega,g7,rfl,?_⟩,by omega⟩
   rw [show 3001-(k+1)=f by omega]
   exact this.symm
 ·have hk:k=L0.length:=by omega
  rw [Cj L0,Cj D0,Cj (bu L0)]
  obtain ⟨f,hf⟩: ∃f,3001-k=f+1:=⟨3000-k,by omega⟩
  rw [hf,Ky,Al (by omega)] at h9
  unfold Pg
  rw [<-h9]
theorem AF:Sound Try.prog 153 iF:=
 Sound.Hq Abj (Ax aF (Fz FG (Ax oN (Ax xj (Ax lR Bt))))) mixed Try.func153 (by kernel_rfl) (by kernel_rfl) λx h=>WE x.1 x.2.1 h
noncomputable def Bv (p:PP) (t:List Int):Bool:=Dh p&&Gd p.1 t
noncomputable def Ea (p:PP) (t:List Int):Bool:=Bv p t&&(Gp p.2.2.1 t).2.2
noncomputable abbrev Fc:Spec:=Hq (.pair Mw (.pair tL .unit)) .bool false true (λx=>Ii x.1/\short x.2.1) (λx=>Bv x.1 x.2.1)
noncomputable def Ge (p:PP) (t:List Int):SS:=if Bv p t=true then Pg p.2.2.1 t else ([],[],[],false,())
noncomputable abbrev Jk:Spec:=Hq (.pair Mw (.pair tL .unit)) (.pair dS (.pair .bool .unit)) true false (λx=>Ii x.1/\short x.2.1) (λx=>(Ge x.1 x.2.1,Ea x.1 x.2.1,()))
noncomputable abbrev Qs:Spec:=Hq (.pair ky .unit) ky false true (λx=>Kr x.1) (λx=>x.1)
noncomputable def Fg (p:PP) (t:List Int):TT:=if Ea p t=true then (t,(Gp p.2.2.1 t).1,(Gp p.2.2.1 t).2.1,()) else ([],[],[],())
noncomputable abbrev Tu:Spec:=Hq (.pair Mw (.pair tL .unit)) (.pair aH (.pair .bool .unit)) true true (λx=>Ii x.1/\short x.2.1) (λx=>(Fg x.1 x.2.1,Ea x.1 x.2.1,()))
noncomputable abbrev Wq:MSpec:=iw [some 3,none] [(false, .Fp tI),(false, .Fp .str),(false, .Fp ky),(false, .Fp tL)] true [none,none,none] [xLL,rL, .Fp .bool]
 (λx=>Bv (x.1,x.2.1,x.2.2.1,()) x.2.2.2.1=true) (λx=>(((Fg (x.1,x.2.1,x.2.2.1,()) x.2.2.2.1).2.1,(Fg (x.1,x.2.1,x.2.2.1,()) x.2.2.2.1).2.2.1,Ea (x.1,x.2.1,x.2.2.1,()) x.2.2.2.1,()),()))
noncomputable abbrev Ws:MSpec:=iw [some 3,none] [(false, .Fp tI),(false, .Fp .str),(false, .Fp ky),(false, .Fp tL)] true [none,none,none] [xLL,rL, .Fp .bool]
 (λx=>Ii (x.1,x.2.1,x.2.2.1,())/\short x.2.2.2.1) (λx=>(((Fg (x.1,x.2.1,x.2.2.1,()) x.2.2.2.1).2.1,(Fg (x.1,x.2.1,x.2.2.1,()) x.2.2.2.1).2.2.1,Ea (x.1,x.2.1,x.2.2.1,()) x.2.2.2.1,()),()))
noncomputable abbrev Li:MSpec:=iw [some 3,none] [(false, .Fp tI),(false, .Fp .str),(false, .Fp ky),(false, .Fp tL)] true [some 3,none] [rL,xLL,rL, .Fp .bool]
 (λx=>Ii (x.1,x.2.1,x.2.2.1,())/\short x.2.2.2.1) (λx=>(((Fg (x.1,x.2.1,x.2.2.1,()) x.2.2.2.1).1,(Fg (x.1,x.2.1,x.2.2.1,()) x.2.2.2.1).2.1,(Fg (x.1,x.2.1,x.2.2.1,()) x.2.2.2.1).2.2.1,Ea (x.1,x.2.1,x.2.2.1,()) x.2.2.2.1,()),()))
noncomputable def Nw (p:PP) (t:TT):Bool:=Ea p t.1&&Ut (Fg p t.1) t
noncomputable abbrev Nz:Spec:=Hq (.pair Mw (.pair aH .unit)) .bool false true (λx=>Ii x.1/\Kv x.2.1) (λx=>Nw x.1 x.2.1)
def WJ (ts:List TT):Prop:=ts.length<=4294967296/\ ∀t∈ts,Kv t
noncomputable def qL (p:PP) (ts:List TT):Bool:=Dh p&&decide (ts.length<=4)&&List.all ts (Nw p)
theorem tC (p:Int×ByteArray×List (List Int)×Unit) (t:List Int) (P:Bool->Prop):(∃(y3:Bool),Ma.fn ((p.1,p.2.1,p.2.2.1,()),())=some y3/\Br y3 (∃(y4:Bool),Gf.fn (p.1,t,())=some y4/\P y4) (P false))=fnW Gb (look [(119,Ma),(93,Gf)]) Fc Try.f156 (p,t,()) P:=by kernel_rfl
theorem tJ (p:Int×ByteArray×List (List Int)×Unit) (t:List Int) (P:Bool->Prop):(∃(y3:Bool),Ma.fn ((p.1,p.2.1,p.2.2.1,()),())=some y3/\Br y3 (∃(y4:Bool),Gf.fn (p.1,t,())=some y4/\P y4) (P false))=fnW Gb (look [(47,Ma),(162,Gf)]) Fc Try.f98 (p,t,()) P:=by kernel_rfl
theorem BD (p:Int×ByteArray×List (List Int)×Unit) (t:List Int) (P:((List (List Int)×List Int×List Int×Bool×Unit)×Bool×Unit)->Prop):(∃(y3:Bool),Fc.fn ((p.1,p.2.1,p.2.2.1,()),t,())=some y3/\Br (!y3) (P ((List.take 0 (List.drop 0 []),List.take 0 (List.drop 0 []),List.take 0 (List.drop 0 []),false,()),false,())) (∃(y4:List (List Int)×List Int×List Int×Bool×PUnit),iF.fn ((p.1,p.2.1,p.2.2.1,()),t,())=some y4/\((P ((y4.1,y4.2.1,y4.2.2.1,y4.2.2.2.1,()),y4.2.2.2.1,())/\P ((y4.1,y4.2.1,y4.2.2.1,y4.2.2.2.1,()),y4.2.2.2.1,()))/\P ((y4.1,y4.2.1,y4.2.2.1,y4.2.2.2.1,()),y4.2.2.2.1,()))/\(P ((y4.1,y4.2.1,y4.2.2.1,y4.2.2.2.1,()),y4.2.2.2.1,())/\P ((y4.1,y4.2.1,y4.2.2.1,y4.2.2.2.1,()),y4.2.2.2.1,()))/\P ((y4.1,y4.2.1,y4.2.2.1,y4.2.2.2.1,()),y4.2.2.2.1,())))=fnW Gb (look [(98,Fc),(153,iF)]) Jk Try.f100 (p,t,()) P:=by kernel_rfl
theorem AW (l:List (List Int)) (P:List (List Int)->Prop):(0=0/\0=([]:List Int).length/\Em (λ(v2:Int×List (List Int)×PUnit) (k3:Int×List (List Int)×PUnit->Prop)=>Br (decide (v2.1<(↑l.length:Int))) (∃(y4:List Int),idx l v2.1=some y4/\ ∃(y5:List Int),Je.fn (y4,())=some y5/\0=0/\v2.2.1.length=v2.2.1.length/\v2.2.1.length+(List.take 1 (List.drop 0 [y5])).length<=Et/\0=0/\(v2.2.1++List.take 1 (List.drop 0 [y5])).length=(v2.2.1++List.take 1 (List.drop 0 [y5])).length/\k3 (IntKind.i64.wrap (v2.1+(1:Int)),v2.2.1++List.take 1 (List.drop 0 [y5]),())) (P (List.take v2.2.1.length (List.drop 0 v2.2.1)))) ((0:Int),[],PUnit.unit))=fnW Gb (look [(86,Je)]) Qs Try.f85 (l,()) P:=by kernel_rfl
theorem BE (p:Int×ByteArray×List (List Int)×Unit) (t:List Int) (P:((List Int×List (List Int)×List Int×Unit)×Bool×Unit)->Prop):(∃(y3:(List (List Int)×List Int×List Int×Bool×PUnit)×Bool×PUnit),Jk.fn ((p.1,p.2.1,p.2.2.1,()),t,())=some y3/\Br (!y3.2.1) (P ((List.take 0 (List.drop 0 []),List.take 0 (List.drop 0 []),List.take 0 (List.drop 0 []),()),false,())) (∃(y4:List Int),Je.fn (t,())=some y4/\ ∃(y5:List (List Int)),Qs.fn (y3.1.1,())=some y5/\ ∃(y6:List Int),Je.fn (y3.1.2.1,())=some y6/\P ((y4,y5,y6,()),true,())))=fnW Gb (look [(100,Jk),(86,Je),(85,Qs)]) Tu Try.f58 (p,t,()) P:=by kernel_rfl
abbrev bz:Type:=Int×List (List Int)×List (List Int)×List Int×(ByteArray->Option Bool)×PUnit
abbrev o8:Type:=Int×Int×ByteArray×List (List Int)×List (List Int)×List (List Int)×List Int×(ByteArray->Option Bool)×PUnit
theorem GJ (n:Int) (str:ByteArray) (g:List (List Int)) (t:List Int) (P:((List (List Int)×List Int×Bool×Unit)×Unit)->Prop):(∃(y5:(List Int×PUnit)×PUnit),Ny.fn (t,())=some y5/\ ∃(y6:ByteArray),Lz.fn (t,())=some y6/\ ∃(y7:List Int),Zs.fn ((↑g.length:Int),())=some y7/\0=0/\1= [List.take y5.1.1.length (List.drop 0 y5.1.1)].length/\0=0/\1= [(0:Int)].length/\0=0/\0=([]:List Int).length/\Em (λ(v8:o8) (k9:o8->Prop)=>Br (decide (v8.1<(↑y7.length:Int))) (∃(dY:Int),idx y7 v8.1=some dY/\ ∃(bD:List Int),Ku.fn (v8.2.2.2.1,dY,())=some bD/\0=0/\v8.2.2.2.2.1.length=v8.2.2.2.2.1.length/\v8.2.2.2.2.1.length+(List.take 1 (List.drop 0 [bD])).length<=Et/\0=0/\v8.2.2.2.2.2.1.length=v8.2.2.2.2.2.1.length/\0=0/\v8.2.2.2.2.2.2.1.length=v8.2.2.2.2.2.2.1.length/\0=0/\(v8.2.2.2.2.1++List.take 1 (List.drop 0 [bD])).length=(v8.2.2.2.2.1++List.take 1 (List.drop 0 [bD])).length/\k9 (IntKind.i64.wrap (v8.1+(1:Int)),v8.2.1,v8.2.2.1,v8.2.2.2.1,v8.2.2.2.2.1++List.take 1 (List.drop 0 [bD]),v8.2.2.2.2.2.1,v8.2.2.2.2.2.2.1,v8.2.2.2.2.2.2.2.1,())) (0=0/\v8.2.2.2.2.2.1.length=v8.2.2.2.2.2.1.length/\0=0/\v8.2.2.2.2.2.2.1.length=v8.2.2.2.2.2.2.1.length/\0=0/\v8.2.2.2.2.1.length=v8.2.2.2.2.1.length/\Em (λ(v10:bz) (k11:bz->Prop)=>Br (decide (v10.1<(↑v10.2.2.1.length:Int))) (0=0/\v10.2.2.1.length=v10.2.2.1.length/\0=0/\v10.2.2.2.1.length=v10.2.2.2.1.length/\0=0/\v10.2.1.length=v10.2.1.length/\0=0/\v10.2.1.length=v10.2.1.length/\Em (λ(Xg:bz) (k13:bz->Prop)=>Br (decide (Xg.1<(↑v10.2.1.length:Int))) (((0:Int)<=Xg.1/\Xg.1<(↑Xg.2.1.length:Int))/\ ∃(pt:List Int),Xg.2.1[0+Xg.1.toNat]?=some pt/\((0:Int)<=v10.1/\v10.1<(↑Xg.2.2.1.length:Int))/\ ∃(jB:List Int),Xg.2.2.1[0+v10.1.toNat]?=some jB/\ ∃(np:(List Int×PUnit)×PUnit),Rf.fn (pt,jB,())=some np/\ ∃(y17:ByteArray),Lz.fn (List.take np.1.1.length (List.drop 0 np.1.1),())=some y17/\Br (!(Xg.2.2.2.2.1 y17).getD false) (Br ((↑Xg.2.2.1.length:Int)==(3000:Int)) (P ((List.take 0 (List.drop 0 []),List.take 0 (List.drop 0 []),false,()),())) (0=0/\Xg.2.2.1.length=Xg.2.2.1.length/\Xg.2.2.1.length+(List.take 1 (List.drop 0 [List.take np.1.1.length (List.drop 0 np.1.1)])).length<=Et/\((0:Int)<=v10.1/\v10.1<(↑Xg.2.2.2.1.length:Int))/\ ∃(NR:Int),Xg.2.2.2.1[0+v10.1.toNat]?=some NR/\0=0/\Xg.2.2.2.1.length=Xg.2.2.2.1.length/\Xg.2.2.2.1.length+(List.take 1 (List.drop 0 [IntKind.i64.wrap (NR+(1:Int))])).length<=Et/\0=0/\(Xg.2.2.1++List.take 1 (List.drop 0 [List.take np.1.1.length (List.drop 0 np.1.1)])).length=(Xg.2.2.1++List.take 1 (List.drop 0 [List.take np.1.1.length (List.drop 0 np.1.1)])).length/\0=0/\(Xg.2.2.2.1++List.take 1 (List.drop 0 [IntKind.i64.wrap (NR+(1:Int))])).length=(Xg.2.2.2.1++List.take 1 (List.drop 0 [IntKind.i64.wrap (NR+(1:Int))])).length/\0=0/\Xg.2.1.length=Xg.2.1.length/\0=0/\Xg.2.1.length=Xg.2.1.length/\k13 (IntKind.i64.wrap (Xg.1+(1:Int)),Xg.2.1,Xg.2.2.1++List.take 1 (List.drop 0 [List.take np.1.1.length (List.drop 0 np.1.1)]),Xg.2.2.2.1++List.take 1 (List.drop 0 [IntKind.i64.wrap (NR+(1:Int))]),kz Xg.2.2.2.2.1 y17 true,()))) (0=0/\Xg.2.2.1.length=Xg.2.2.1.length/\0=0/\Xg.2.2.2.1.length=Xg.2.2.2.1.length/\0=0/\Xg.2.1.length=Xg.2.1.length/\0=0/\Xg.2.1.length=Xg.2.1.length/\k13 (IntKind.i64.wrap (Xg.1+(1:Int)),Xg.2.1,Xg.2.2.1,Xg.2.2.2.1,Xg.2.2.2.2.1,()))) (0=0/\Xg.2.2.1.length=Xg.2.2.1.length/\0=0/\Xg.2.2.2.1.length=Xg.2.2.2.1.length/\0=0/\Xg.2.1.length=Xg.2.1.length/\k11 (IntKind.i64.wrap (v10.1+(1:Int)),Xg.2.1,Xg.2.2.1,Xg.2.2.2.1,Xg.2.2.2.2.1,()))) ((0:Int),v10.2.1,v10.2.2.1,v10.2.2.2.1,v10.2.2.2.2.1,PUnit.unit)) (P ((List.take v10.2.2.1.length (List.drop 0 v10.2.2.1),List.take v10.2.2.2.1.length (List.drop 0 v10.2.2.2.1),true,()),()))) ((0:Int),v8.2.2.2.2.1,v8.2.2.2.2.2.1,v8.2.2.2.2.2.2.1,v8.2.2.2.2.2.2.2.1,PUnit.unit))) ((0:Int),n,str,g,[],[List.take y5.1.1.length (List.drop 0 y5.1.1)],[(0:Int)],kz (λ(_:ByteArray)=>none) y6 true,PUnit.unit))=fnMW (FP [hZ+10]) (look [(90,Ny),(107,Lz),(121,Zs),(147,Ku),(106,Rf)]) Wq Try.f157 (n,str,g,t,()) P:=by kernel_rfl
theorem GL (n:Int) (str:ByteArray) (g:List (List Int)) (t:List Int) (P:((List (List Int)×List Int×Bool×Unit)×Unit)->Prop):(∃(y5:Bool),Fc.fn ((n,str,g,()),t,())=some y5/\Br (!y5) (P ((List.take 0 (List.drop 0 []),List.take 0 (List.drop 0 []),false,()),())) (∃(y6:(List (List Int)×List Int×Bool×PUnit)×PUnit),Wq.fn (n,str,g,t,())=some y6/\P ((List.take y6.1.1.length (List.drop 0 y6.1.1),List.take y6.1.2.1.length (List.drop 0 y6.1.2.1),y6.1.2.2.1,()),())))=fnMW Pz (look [(156,Fc),(157,Wq)]) Ws Try.f89 (n,str,g,t,()) P:=by kernel_rfl
theorem AZ (n:Int) (str:ByteArray) (g:List (List Int)) (t:List Int) (P:((List Int×List (List Int)×List Int×Bool×Unit)×Unit)->Prop):(∃(y5:(List (List Int)×List Int×Bool×PUnit)×PUnit),Ws.fn (n,str,g,t,())=some y5/\Br (!y5.1.2.2.1) (P ((List.take 0 (List.drop 0 []),List.take 0 (List.drop 0 []),List.take 0 (List.drop 0 []),false,()),())) (∃(y6:(List Int×PUnit)×PUnit),Ny.fn (t,())=some y6/\P ((List.take y6.1.1.length (List.drop 0 y6.1.1),List.take y5.1.1.length (List.drop 0 y5.1.1),List.take y5.1.2.1.length (List.drop 0 y5.1.2.1),true,()),())))=fnMW Pz (look [(89,Ws),(90,Ny)]) Li Try.f33 (n,str,g,t,()) P:=by kernel_rfl
theorem xP (p:Int×ByteArray×List (List Int)×Unit) (t:List Int×List (List Int)×List Int×Unit) (P:Bool->Prop):(∃(y3:(List Int×List (List Int)×List Int×Bool×PUnit)×PUnit),Li.fn (p.1,p.2.1,p.2.2.1,t.1,())=some y3/\Br y3.1.2.2.2.1 (∃(y4:Bool),Mn.fn ((List.take y3.1.1.length (List.drop 0 y3.1.1),List.take y3.1.2.1.length (List.drop 0 y3.1.2.1),List.take y3.1.2.2.1.length (List.drop 0 y3.1.2.2.1),()),(t.1,t.2.1,t.2.2.1,()),())=some y4/\P y4) (P false))=fnW Gb (look [(33,Li),(92,Mn)]) Nz Try.f35 (p,t,()) P:=by kernel_rfl
theorem xV (p:Int×ByteArray×List (List Int)×Unit) (t:List Int×List (List Int)×List Int×Unit) (P:Bool->Prop):(∃(y3:(List Int×List (List Int)×List Int×PUnit)×Bool×PUnit),Tu.fn ((p.1,p.2.1,p.2.2.1,()),t.1,())=some y3/\Br y3.2.1 (∃(y4:Bool),Mn.fn ((y3.1.1,y3.1.2.1,y3.1.2.2.1,()),(t.1,t.2.1,t.2.2.1,()),())=some y4/\P y4) (P false))=fnW Gb (look [(58,Tu),(91,Mn)]) Nz Try.f34 (p,t,()) P:=by kernel_rfl
theorem kM {p:PP} (hV:Valid p) {m:Nat} {x:List Int} {d:Int} (hx: ∀y∈x,0<=y/\y<p.1) (hxl:x.length=m): ∀(ls:List Int) (L:List (List Int)) (D:List Int),(∀l∈ls,Hj (List.length p.2.2.1) l)->
  Tg p m L D->(0<=d/\d<L.length)->Tg p m (Hz p.2.2.1 x d ls L D).1 (Hz p.2.2.1 x d ls L D).2.1/\(∃A,(Hz p.2.2.1 x d ls L D).1=L++A)/\(∃A,(Hz p.2.2.1 x d ls L D).2.1=D++A)
 | [],L,D,_,h,_=>⟨h,⟨[],by simp [Hz]⟩,⟨[],by simp [Hz]⟩⟩
 |l::ls,L,D,hl,h,hd=>by
  obtain ⟨n1,n2⟩:=pj hV hx (hl l (by simp))
  have Ns: ∀l∈ls,Hj (List.length p.2.2.1) l:= λl' h'=>hl l' (An _ h')
  simp only [Hz]
  split
  ·exact kM hV hx hxl ls L D Ns h hd
  ·rename_i hn
   split
   ·exact ⟨h,⟨[],by simp⟩,⟨[],by simp⟩⟩
   ·rename_i hf
    have qo:=h.ok.oz
    obtain ⟨k1,⟨A,k2⟩,⟨A',k3⟩⟩:=kM hV hx hxl ls (L++ [As x (Av p.2.2.1 l)]) (D++ [d+1]) Ns (h.add hn (by rw [n1,hxl]) (by omega) n2 ⟨by omega,by omega⟩) ⟨hd.1,by rw [Au];omega⟩
    exact ⟨k1,⟨_::A,by rw [k2,Cz];rfl⟩,⟨_::A',by rw [k3,Cz];rfl⟩⟩
theorem yo {p:PP} (hV:Valid p) {m:Nat} {ls:List Int} (hl: ∀l∈ls,Hj (List.length p.2.2.1) l): ∀(f k:Nat) (L:List (List Int)) (D:List Int),Tg p m L D->
  Tg p m (Ky p.2.2.1 ls f k L D).1 (Ky p.2.2.1 ls f k L D).2.1/\(∃A,(Ky p.2.2.1 ls f k L D).1=L++A)
 |0,k,L,D,h=>⟨h,⟨[],by simp [Ky]⟩⟩
 |f+1,k,L,D,h=>by
  simp only [Ky]
  split
  ·rename_i hk
   have JT:k<D.length:=by rw [h.len];exact hk
   have hd:=h.dep k JT
   have e:D.getD k 0=D[k]:=by rw [Ah,Ac JT];rfl
   rw [Un hk,e]
   obtain ⟨k1,⟨A,k2⟩,_⟩:=kM hV (h.row _ (Ak hk)) (h.ok.len _ (Ak hk)) (d:=D[k]) ls L D hl h ⟨by omega,by omega⟩
   split
   ·rename_i L' D' he
    rw [he] at k1 k2
    obtain ⟨g1,⟨B,g2⟩⟩:=yo hV hl f (k+1) L' D' k1
    have k2:L'=L++A:=k2
    exact ⟨g1,⟨A++B,by rw [g2,k2,Cz]⟩⟩
   ·rename_i L' D' he
    rw [he] at k1 k2
    exact ⟨k1,⟨A,k2⟩⟩
  ·exact ⟨h,⟨[],by simp⟩⟩
theorem vF {p:PP} {s:List Int} (hv:Dh p=true) (hs:s.length<=20) (hr: ∀y∈s,0<=y/\y<p.1):Tg p s.length (Gp p.2.2.1 s).1 (Gp p.2.2.1 s).2.1/\ ∃A,(Gp p.2.2.1 s).1=s::A:=
 yo (valid hv) (λ_ hl=>Ol hl) _ _ _ _ (ib hs hr)
theorem Iv {p:PP} {t:List Int} :Bv p t=true↔Dh p=true/\Gd p.1 t=true:=by
 unfold Bv;rw [Ag]
theorem Hm {p:PP} {t:List Int} (h:Bv p t=true):t.length<=20/\ ∀y∈t,0<=y/\y<p.1:=by
 obtain ⟨h1,h2⟩:=Iv.1 h
 have hn:=(valid h1).n
 obtain ⟨h3,h4⟩:=Db.1 h2
 have hy: ∀y∈t,0<=y/\y<p.1:= λy hy=>by
  obtain ⟨j,hj,rfl⟩:=Az.1 hy
  have:=h4 j hj hj
  omega
 refine ⟨?_,hy⟩
 have h5:=wW h4 (t.length-1) (by omega)
 have h6:=hy _ (Ak (show t.length-1<t.length by omega))
 omega
theorem bP {p:PP} {t:List Int} (h:Bv p t=true):Tg p t.length (Gp p.2.2.1 t).1 (Gp p.2.2.1 t).2.1:=(vF (Iv.1 h).1 (Hm h).1 (Hm h).2).1
theorem Wj {p:PP} {t:List Int} :Ea p t=true↔Bv p t=true/\(Gp p.2.2.1 t).2.2=true:=by
 unfold Ea;rw [Ag]
theorem tR {p:PP} {m:Nat} {L:List (List Int)} {D:List Int} (h:Tg p m L D):Kr L/\short D:=by
 have h1:=h.ok.oz
 have h2:=h.ok.short
 have h3:=h.len
 refine ⟨⟨by omega,λx hx=>?_⟩,by unfold short;omega⟩
 have:=h.ok.len x hx
 unfold short;omega
theorem fo {p:PP} {t:List Int} :Kv (Fg p t):=by
 unfold Fg
 split
 ·rename_i h
  have h1:=(Wj.1 h).1
  have h2:=tR (bP h1)
  have h3:=(Hm h1).1
  exact ⟨show t.length<=4294967296 by omega,h2.1,h2.2⟩
 ·exact ⟨by simp [short],⟨by simp,λr hr=>by cases hr⟩,by simp [short]⟩
theorem sP (p:PP) (t:List Int) (h:Ii p/\short t):fnW Gb (look [(119,Ma),(93,Gf)]) Fc Try.f156 (p,t,()) (λ(z:Bool)=>z=Bv p t):=by
 refine Eq.mp (tC p t _) ⟨_,Ab h.1,⟨λhv=>?_,λhv=>?_⟩⟩
 ·have hv:Dh p=true:=hv
  have hn:=(valid hv).n
  refine ⟨_,Ab ⟨⟨by show 0<=p.1;omega,by show p.1<=4294967296;omega⟩,h.2⟩,?_⟩
  unfold Bv;rw [hv];rfl
 ·have hv:Dh p=false:=hv
  unfold Bv;rw [hv];rfl
theorem lP:Sound Try.prog 156 Fc:=
 Sound.Hq Ee (Ax mZ (Ax Yk Bt)) mixed Try.func156 (by kernel_rfl) (by kernel_rfl) λx h=>sP x.1 x.2.1 h
theorem sV (p:PP) (t:List Int) (h:Ii p/\short t):fnW Gb (look [(47,Ma),(162,Gf)]) Fc Try.f98 (p,t,()) (λ(z:Bool)=>z=Bv p t):=by
 refine Eq.mp (tJ p t _) ⟨_,Ab h.1,⟨λhv=>?_,λhv=>?_⟩⟩
 ·have hv:Dh p=true:=hv
  have hn:=(valid hv).n
  refine ⟨_,Ab ⟨⟨by show 0<=p.1;omega,by show p.1<=4294967296;omega⟩,h.2⟩,?_⟩
  unfold Bv;rw [hv];rfl
 ·have hv:Dh p=false:=hv
  unfold Bv;rw [hv];rfl
theorem Ve:Sound Try.prog 98 Fc:=
 Sound.Hq Ee (Ax cM (Ax lQ Bt)) mixed Try.func98 (by kernel_rfl) (by kernel_rfl) λx h=>sV x.1 x.2.1 h
theorem zI (p:PP) (t:List Int) (h:Ii p/\short t):fnW Gb (look [(98,Fc),(153,iF)]) Jk Try.f100 (p,t,()) (λ(z:SS×Bool×Unit)=>z=(Ge p t,Ea p t,())):=by
 refine Eq.mp (BD p t _) ⟨_,Ab h,⟨λhn=>?_,λhn=>?_⟩⟩
 ·have hn:=Dk hn
  have e:Ea p t=false:=Pu.2 λhh=>hn (Wj.1 hh).1
  unfold Ge
  rw [Al hn,e]
  rfl
 ·have hn:Bv p t=true:=Cv hn
  have e:Ea p t=(Gp p.2.2.1 t).2.2:=by unfold Ea;rw [hn,Bool.true_and]
  refine ⟨_,Ab ⟨(Iv.1 hn).1,(Hm hn).1,(Hm hn).2⟩,?_⟩
  have key:(((Pg p.2.2.1 t).1,(Pg p.2.2.1 t).2.1,(Pg p.2.2.1 t).2.2.1,(Pg p.2.2.1 t).2.2.2.1,()),(Pg p.2.2.1 t).2.2.2.1,())=(Ge p t,Ea p t,()):=by
   unfold Ge
   rw [Ab hn,e]
   rfl
  exact ⟨⟨⟨key,key⟩,key⟩,⟨key,key⟩,key⟩
theorem Yl:Sound Try.prog 100 Jk:=
 Sound.Hq Ee (Ax Ve (Ax AF Bt)) mixed Try.func100 (by kernel_rfl) (by kernel_rfl) λx h=>zI x.1 x.2.1 h
theorem zB (l:List (List Int)) (h:Kr l):fnW Gb (look [(86,Je)]) Qs Try.f85 (l,()) (λ(z:List (List Int))=>z=l):=by
 obtain ⟨h1,h2⟩:=h
 refine Eq.mp (AW l _) ⟨rfl,rfl,?_⟩
 refine Cg l.length (λv=>v.1) (λj v=>v.2.1=l.take j) rfl (by simp) ?_
 rintro j ⟨i,ys,⟨⟩⟩ K hj hi hR hK
 dsimp only at hi hR⊢
 subst hi hR
 refine Br.dec (λhl=>?_) λhl=>?_
 ·have hl:j<l.length:=by omega
  refine ⟨_,Cc hl,_,Ab (h2 _ (Ak hl)),rfl,rfl,?_,rfl,rfl,?_⟩
  ·show (List.take j l).length+1<=4294967296
   rw [Cl];omega
  ·rw [Cm (by omega)]
   refine hK hl _ rfl ?_
   show List.take j l++ [l[j]]=_
   rw [List.take_add_one,Ac hl];rfl
 ·have:j=l.length:=by omega
  subst this
  rw [Cj,Bp]
theorem oK:Sound Try.prog 85 Qs:=
 Sound.Hq Ee (Ax aF Bt) mixed Try.func85 (by kernel_rfl) (by kernel_rfl) λx h=>zB x.1 h
theorem zJ (p:PP) (t:List Int) (h:Ii p/\short t):fnW Gb (look [(100,Jk),(86,Je),(85,Qs)]) Tu Try.f58 (p,t,()) (λ(z:TT×Bool×Unit)=>z=(Fg p t,Ea p t,())):=by
 refine Eq.mp (BE p t _) ⟨_,Ab h,⟨λhn=>?_,λhn=>?_⟩⟩
 ·have hn:=Dk hn
  have hn: ¬Ea p t=true:=hn
  unfold Fg
  rw [Al hn,Pu.2 hn]
  rfl
 ·have hn:Ea p t=true:=Cv hn
  obtain ⟨h1,h2⟩:=Wj.1 hn
  have h3:=tR (bP h1)
  have e:Ge p t=Pg p.2.2.1 t:=Ab h1
  refine ⟨_,Ab h.2,?_⟩
  show ∃y5:List (List Int),Qs.fn ((Ge p t).1,())=some y5/\ ∃y6:List Int,Je.fn ((Ge p t).2.1,())=some y6/\((t,y5,y6,()),true,())=(Fg p t,Ea p t,())
  rw [e]
  refine ⟨_,Ab h3.1,_,Ab h3.2,?_⟩
  unfold Fg
  rw [Ab hn,hn]
  rfl
theorem oO:Sound Try.prog 58 Tu:=
 Sound.Hq Ee (Ax Yl (Ax aF (Ax oK Bt))) mixed Try.func58 (by kernel_rfl) (by kernel_rfl) λx h=>zJ x.1 x.2.1 h
def m8 (m:ByteArray->Option Bool) (L:List (List Int)):Prop:= ∀q,fq q->(m (gp q)).getD false=decide (q∈L)
theorem m8.add {m:ByteArray->Option Bool} {L:List (List Int)} {y:List Int} (h:m8 m L) (hy:fq y):m8 (kz m (gp y) true) (L++ [y]):=by
 intro q hq
 unfold kz
 by_cases e:q=y
 ·subst e
  rw [Ab rfl];simp
 ·rw [Al λhk=>e (key_inj hq hy hk),h q hq]
  simp [e]
theorem EI (n:Int) (str:ByteArray) (g:List (List Int)) (t:List Int) (h:Bv (n,str,g,()) t=true):
  fnMW (FP [hZ+10]) (look [(90,Ny),(107,Lz),(121,Zs),(147,Ku),(106,Rf)]) Wq Try.f157 (n,str,g,t,()) (λ(z:(List (List Int)×List Int×Bool×Unit)×Unit)=>z=(((Fg (n,str,g,()) t).2.1,(Fg (n,str,g,()) t).2.2.1,Ea (n,str,g,()) t,()),())):=by
 obtain ⟨hv,_⟩:=Iv.1 h
 obtain ⟨ht,hr⟩:=Hm h
 have hV:=valid hv
 have qo:=hV.oz
 have hn:=hV.n
 dsimp only at qo hn hr
 have ZP:=ib (p:=(n,str,g,())) ht hr
 have oF:short t:=by unfold short;omega
 obtain ⟨ls,xZ⟩: ∃ls,Cu g.length=ls:=⟨_,rfl⟩
 have UG:ls.length<=16:=by rw [<-xZ,Xc];omega
 have fS: ∀l∈ls,Hj (List.length g) l:= λl hl=>Ol (xZ▸hl)
 have DB:Ky g ls 3001 0 [t] [0]=Gp g t:=by unfold Gp;rw [xZ]
 have yQ: ∀x:List Int,(∀y∈x,0<=y/\y<n)->fq x:= λx hx y hy=>by have:=hx y hy;omega
 have Ad6: ∀L D ok,Gp g t=(L,D,ok)->(if ok=true then ((L,D,true,()),()) else ((([]:List (List Int)),([]:List Int),false,()),()))=(((Fg (n,str,g,()) t).2.1,(Fg (n,str,g,()) t).2.2.1,Ea (n,str,g,()) t,()),()):=by
  intro L D ok he
  have e1:Ea (n,str,g,()) t=ok:=by unfold Ea;rw [h,Bool.true_and];show (Gp g t).2.2=ok;rw [he]
  unfold Fg
  rw [e1]
  cases ok with
  |true=>rw [Ab rfl,Ab rfl];show ((L,D,true,()),())=(((Gp g t).1,(Gp g t).2.1,true,()),());rw [he]
  |false=>rw [Al (by decide),Al (by decide)]
 refine Eq.mp (GJ n str g t _) ⟨_,Ab oF,_,Ab oF,ls,(Ab ⟨by show (0:Int)<=((g.length:Nat):Int);omega,by show ((g.length:Nat):Int)<=8;omega⟩).trans (Hv some (by show Cu (((g.length:Nat):Int)).toNat=ls;rw [Ay];exact xZ)),rfl,rfl,rfl,rfl,rfl,rfl,?_⟩
 rw [Cj]
 refine Cg ls.length (λv=>v.1) (λj v=>v.2.1=n/\v.2.2.1=str/\v.2.2.2.1=g/\v.2.2.2.2.1=(ls.take j).map (Av g)/\v.2.2.2.2.2.1= [t]/\v.2.2.2.2.2.2.1= [0]/\m8 v.2.2.2.2.2.2.2.1 [t]) rfl
  ⟨rfl,rfl,rfl,by simp,rfl,rfl,λq hq=>?_⟩ ?_
 ·show (kz (λ_=>none) (gp t) true (gp q)).getD false=_
  unfold kz
  by_cases e:q=t
  ·subst e;rw [Ab rfl];simp
  ·rw [Al λhk=>e (key_inj hq (yQ t hr) hk)];simp [e]
 rintro j ⟨i,n',Af9,g',mv,L1,D1,m1,⟨⟩⟩ K hj hi ⟨h1,h2,h3,h4,h5,h6,h7⟩ hK
 dsimp only at hi h1 h2 h3 h4 h5 h6 h7⊢
 subst hi h1 h2 h3 h4 h5 h6
 refine Br.dec (λhl=>?_) λhl=>⟨rfl,rfl,rfl,rfl,rfl,rfl,?_⟩
 ·have hl:j<ls.length:=by omega
  have sB:=fS _ (Ak hl)
  refine ⟨_,Cc hl,_,Ab ⟨sB,qo.2,hV.perm⟩,rfl,rfl,?_,rfl,rfl,rfl,rfl,rfl,rfl,?_⟩
  ·show (List.map (Av g') (List.take j ls)).length+1<=4294967296
   rw [Fm,Cl];omega
  ·rw [Cm (by omega)]
   refine hK hl _ rfl ⟨rfl,rfl,rfl,?_,rfl,rfl,h7⟩
   show List.map (Av g') (List.take j ls)++ [Av g' ls[j]]=_
   rw [List.take_add_one,Ac hl,Tw];rfl
 ·have:j=ls.length:=by omega
  subst this
  rw [Bp]
  obtain ⟨ms,HN⟩: ∃ms,ls.map (Av g')=ms:=⟨_,rfl⟩
  have Aoj:ms.length=ls.length:=by rw [<-HN,Fm]
  have Aj8: ∀i (h:i<ls.length),ms[i]'(by omega)=Av g' ls[i]:= λi h=>by simp only [<-HN,List.getElem_map]
  rw [HN]
  refine Em.mk (λv=>v.2.1=ms/\ ∃k:Nat,v.1=k/\k<=v.2.2.1.length/\Tg (n',Af9,g',()) t.length v.2.2.1 v.2.2.2.1/\m8 v.2.2.2.2.1 v.2.2.1/\Ky g' ls (3001-k) k v.2.2.1 v.2.2.2.1=Gp g' t) (λv=>3001-v.1.toNat)
   ⟨rfl,0,rfl,by simp,ZP,h7,DB⟩ ?_
  rintro ⟨k',mv,L0,D0,mp,⟨⟩⟩ ⟨h1,k,h5,h6,h7,h8,h9⟩
  dsimp only at h1 h5 h6 h7 h8 h9
  subst h1 h5
  dsimp only
  have TZ:=h7.ok.oz
  have hD0:=h7.len
  refine Br.dec (λhl=>⟨rfl,rfl,rfl,rfl,rfl,rfl,rfl,rfl,?_⟩) λhl=>?_
  ·have hk:k<L0.length:=by omega
   have JT:k<D0.length:=by omega
   have hx: ∀y∈L0[k],0<=y/\y<n':=h7.row _ (Ak hk)
   have hxl:L0[k].length=t.length:=h7.ok.len _ (Ak hk)
   have hdk:=h7.dep k JT
   obtain ⟨f,hf⟩: ∃f,3001-k=f+1:=⟨3000-k,by omega⟩
   have hgo: ∀L' D' ok,Hz g' L0[k] D0[k] ls L0 D0=(L',D',ok)->Gp g' t=if ok=true then Ky g' ls f (k+1) L' D' else (L',D',false):=by
    intro L' D' ok he
    rw [<-h9,hf,Ky,Ab hk,Un hk,Ah,Ac JT]
    simp only [Option.getD_some]
    rw [he]
    cases ok<;>rfl
   refine Em.mk (λv=>v.2.1=mv/\ ∃i:Nat,v.1=i/\i<=ls.length/\Tg (n',Af9,g',()) t.length v.2.2.1 v.2.2.2.1/\m8 v.2.2.2.2.1 v.2.2.1/\(∃A,v.2.2.1=L0++A)/\(∃A,v.2.2.2.1=D0++A)/\
     Hz g' L0[k] D0[k] (ls.drop i) v.2.2.1 v.2.2.2.1=Hz g' L0[k] D0[k] ls L0 D0) (λv=>ls.length-v.1.toNat)
    ⟨rfl,0,rfl,Mz _,h7,h8,⟨[],by simp⟩,⟨[],by simp⟩,rfl⟩ ?_
   rintro ⟨i',mv',L,D,mp2,⟨⟩⟩ ⟨g1,i,g5,g6,g7,g8,⟨A,g9⟩,⟨A',UQ⟩,oA⟩
   dsimp only at g1 g5 g6 g7 g8 g9 UQ oA
   subst g1 g5
   dsimp only
   have hLf:=g7.ok.oz
   have XH:=g7.len
   refine Br.dec (λhli=>?_) λhli=>?_
   ·have hi:i<ls.length:=by omega
    have VC:k<L.length:=by rw [g9,Au];omega
    have hLk:L[k]=L0[k]:=by simp only [g9];exact Og hk
    have Aa6:k<D.length:=by rw [XH];exact VC
    have hDk:D[k]=D0[k]:=by simp only [UQ];exact Og JT
    have sB:=fS _ (Ak hi)
    obtain ⟨nl,nr⟩:=pj hV hx sB
    dsimp only at nl nr
    have CU:=mA hV sB
    dsimp only at CU
    rw [Gt hi] at oA
    simp only [Hz] at oA
    have hyb:=yQ _ nr
    refine ⟨⟨by omega,by omega⟩,Av g' ls[i],by rw [Ay,Cf,Ac (by omega),Aj8 i hi],⟨by omega,by omega⟩,L0[k],by rw [Ay,Cf,Ac VC,hLk],
     _,Ab ⟨by show short L0[k];unfold short;omega,by show Oj (Av g' ls[i]).length L0[k];intro y hy;have:=hx y hy;omega⟩,?_⟩
    dsimp only
    rw [show Bc (Av g' ls[i]) L0[k]=As L0[k] (Av g' ls[i]) from rfl,Cj]
    generalize hyv:As L0[k] (Av g' ls[i])=yv at*
    refine ⟨_,Ab (by show short yv;unfold short;rw [nl];omega),?_⟩
    dsimp only
    rw [g8 _ hyb]
    refine ⟨λaL=>?_,λaL=>⟨rfl,rfl,rfl,rfl,rfl,rfl,rfl,rfl,?_⟩⟩
    ·have aL:yv∉L:=by simpa using aL
     rw [Al aL] at oA
     refine ⟨λXn=>?_,λXn=>⟨rfl,rfl,by show L.length+1<=4294967296;omega,⟨by omega,by omega⟩,D0[k],by rw [Ay,Cf,Ac Aa6,hDk],rfl,rfl,by show D.length+1<=4294967296;omega,rfl,rfl,rfl,rfl,rfl,rfl,rfl,rfl,?_⟩⟩
     ·have Xn:L.length=3000:=by
       have:(L.length:Int)=3000:=by simpa using Xn
       omega
      rw [Ab Xn] at oA
      have:=hgo _ _ _ oA.symm
      rw [Al (by decide)] at this
      have:=Ad6 _ _ _ this
      rw [Al (by decide)] at this
      exact this
     ·have Xn:L.length≠3000:=by
       have:(L.length:Int)≠3000:=by simpa using Xn
       omega
      rw [Al Xn] at oA
      rw [Cq (n:=D0[k]+1) (by omega) (by omega),Cm (by omega)]
      refine ⟨⟨rfl,i+1,rfl,hi,g7.add aL (by rw [nl,hxl]) (by omega) nr ⟨by omega,by omega⟩,g8.add hyb,⟨A++ [yv],by rw [g9,Cz];rfl⟩,⟨A'++ [D0[k]+1],by rw [UQ,Cz];rfl⟩,oA⟩,by omega⟩
    ·have aL:yv∈L:=by simpa using aL
     rw [Ab aL] at oA
     rw [Cm (by omega)]
     exact ⟨⟨rfl,i+1,rfl,hi,g7,g8,⟨A,g9⟩,⟨A',UQ⟩,oA⟩,by omega⟩
   ·have:i=ls.length:=by omega
    subst this
    rw [Ww,Hz] at oA
    have:=hgo _ _ _ oA.symm
    rw [Ab rfl] at this
    rw [Cm (by omega)]
    refine ⟨rfl,rfl,rfl,rfl,rfl,rfl,⟨rfl,k+1,rfl,by rw [g9,Au];omega,g7,g8,?_⟩,by omega⟩
    rw [show 3001-(k+1)=f by omega]
    exact this.symm
  ·have hk:k=L0.length:=by omega
   rw [Cj L0,Cj D0]
   obtain ⟨f,hf⟩: ∃f,3001-k=f+1:=⟨3000-k,by omega⟩
   rw [hf,Ky,Al (by omega)] at h9
   have:=Ad6 _ _ _ h9.symm
   rw [Ab rfl] at this
   exact this
theorem rR:Dx Try.prog 157 Wq:=
 Dx.iw (FQ [hZ+10]) (Fz Zh (Ax gQ (Ax tf (Ax rQ (Fz jm Bt))))) mixed Try.func157 (by kernel_rfl) (by kernel_rfl) λx h=>EI x.1 x.2.1 x.2.2.1 x.2.2.2.1 h
theorem pR {p:PP} {t:List Int} (h: ¬Ea p t=true):Fg p t=([],[],[],()):=Al h
theorem EK (n:Int) (str:ByteArray) (g:List (List Int)) (t:List Int) (h:Ii (n,str,g,())/\short t):
  fnMW Pz (look [(156,Fc),(157,Wq)]) Ws Try.f89 (n,str,g,t,()) (λ(z:(List (List Int)×List Int×Bool×Unit)×Unit)=>z=(((Fg (n,str,g,()) t).2.1,(Fg (n,str,g,()) t).2.2.1,Ea (n,str,g,()) t,()),())):=by
 refine Eq.mp (GL n str g t _) ⟨_,Ab h,⟨λhn=>?_,λhn=>?_⟩⟩
 ·have hn: ¬Bv (n,str,g,()) t=true:=Dk hn
  have e: ¬Ea (n,str,g,()) t=true:= λhh=>hn (Wj.1 hh).1
  rw [pR e,Pu.2 e]
  rfl
 ·have hn:Bv (n,str,g,()) t=true:=Cv hn
  refine ⟨_,Ab hn,?_⟩
  rw [Cj,Cj]
theorem rT:Dx Try.prog 89 Ws:=
 Dx.iw Pb (Ax lP (Fz rR Bt)) mixed Try.func89 (by kernel_rfl) (by kernel_rfl) λx h=>EK x.1 x.2.1 x.2.2.1 x.2.2.2.1 h
theorem zE (n:Int) (str:ByteArray) (g:List (List Int)) (t:List Int) (h:Ii (n,str,g,())/\short t):
  fnMW Pz (look [(89,Ws),(90,Ny)]) Li Try.f33 (n,str,g,t,()) (λ(z:(List Int×List (List Int)×List Int×Bool×Unit)×Unit)=>z=(((Fg (n,str,g,()) t).1,(Fg (n,str,g,()) t).2.1,(Fg (n,str,g,()) t).2.2.1,Ea (n,str,g,()) t,()),())):=by
 refine Eq.mp (AZ n str g t _) ⟨_,Ab h,⟨λhn=>?_,λhn=>?_⟩⟩
 ·have e: ¬Ea (n,str,g,()) t=true:=Dk hn
  rw [pR e,Pu.2 e]
  rfl
 ·have e:Ea (n,str,g,()) t=true:=Cv hn
  refine ⟨_,Ab h.2,?_⟩
  rw [Cj,Cj,Cj,e]
  have e2:(Fg (n,str,g,()) t).1=t:=by unfold Fg;rw [Ab e]
  rw [e2]
theorem eI:Dx Try.prog 33 Li:=
 Dx.iw Pb (Fz rT (Fz Zh Bt)) mixed Try.func33 (by kernel_rfl) (by kernel_rfl) λx h=>zE x.1 x.2.1 x.2.2.1 x.2.2.2.1 h
theorem wM (p:PP) (t:TT) (h:Ii p/\Kv t):fnW Gb (look [(33,Li),(92,Mn)]) Nz Try.f35 (p,t,()) (λ(z:Bool)=>z=Nw p t):=by
 refine Eq.mp (xP p t _) ⟨_,Ab ⟨h.1,h.2.1⟩,⟨λhn=>?_,λhn=>?_⟩⟩
 ·have e:Ea p t.1=true:=hn
  rw [Cj,Cj,Cj]
  refine ⟨_,Ab fo,?_⟩
  unfold Nw
  rw [e];rfl
 ·have e:Ea p t.1=false:=hn
  unfold Nw
  rw [e];rfl
theorem nb:Sound Try.prog 35 Nz:=
 Sound.Hq Ee (Fz eI (Ax iM Bt)) mixed Try.func35 (by kernel_rfl) (by kernel_rfl) λx h=>wM x.1 x.2.1 h
theorem wS (p:PP) (t:TT) (h:Ii p/\Kv t):fnW Gb (look [(58,Tu),(91,Mn)]) Nz Try.f34 (p,t,()) (λ(z:Bool)=>z=Nw p t):=by
 refine Eq.mp (xV p t _) ⟨_,Ab ⟨h.1,h.2.1⟩,⟨λhn=>?_,λhn=>?_⟩⟩
 ·have e:Ea p t.1=true:=hn
  refine ⟨_,Ab fo,?_⟩
  unfold Nw
  rw [e];rfl
 ·have e:Ea p t.1=false:=hn
  unfold Nw
  rw [e];rfl
theorem ng:Sound Try.prog 34 Nz:=
 Sound.Hq Ee (Ax oO (Ax iO Bt)) mixed Try.func34 (by kernel_rfl) (by kernel_rfl) λx h=>wS x.1 x.2.1 h
end Go.Proofs.Ytkkdpknjohcekaa
