/-
  Part 37 of the proof that the statement FnCommutatorMacros holds.
-/
import Derived.Test.YtfgfigkbgecfnaaCFCommutatorMacros35
import Derived.KernelRfl
namespace Go.Proofs.Ytfgfigkbgecfnaa
open Go.RowKit
def Lt (x a b:Int):Bool:=decide (a<=x/\x<=b)
def Ym (a b:List Int):Bool:=decide (a=b)
def fg (xs:List Int) (x:Int):Bool:=decide (x∈xs)
def short (xs:List Int):Prop:=xs.length<=4294967296
noncomputable abbrev Df:Spec:=Kx (.pair tI (.pair tI (.pair tI .unit))) .bool false true (λ_=>True) (λx=>Lt x.1 x.2.1 x.2.2.1)
noncomputable abbrev Ku:Spec:=Kx (.pair tL (.pair tL .unit)) .bool false true (λx=>short x.1) (λx=>Ym x.1 x.2.1)
noncomputable abbrev Nd:Spec:=Kx (.pair tL (.pair tI .unit)) .bool false true (λx=>short x.1) (λx=>fg x.1 x.2.1)
theorem zH (x a b:Int) (P:Bool->Prop):(Br (decide (x>=a)) (P (decide (x<=b))) (P false))=fnW Hi (look []) Df Try.f39 (x,a,b,()) P:=by kernel_rfl
theorem EP (x a b:Int) (P:Bool->Prop):(Br (decide (x>=a)) (P (decide (x<=b))) (P false))=fnW Hi (look []) Df Try.f49 (x,a,b,()) P:=by kernel_rfl
theorem uM (a b:List Int) (P:Bool->Prop):(Br ((↑a.length:Int) !=(↑b.length:Int)) (P false) (Gz (λ(v3:Int×PUnit) (k4:Int×PUnit->Prop)=>Br (decide (v3.1<(↑a.length:Int))) (∃(y5:Int),idx a v3.1=some y5/\ ∃(y6:Int),idx b v3.1=some y6/\Br (y5 !=y6) (P false) (k4 (IntKind.i64.wrap (v3.1+1),()))) (P true)) (0,PUnit.unit)))=fnW Hi (look []) Ku Try.f33 (a,b,()) P:=by kernel_rfl
theorem oF (xs:List Int) (x:Int) (P:Bool->Prop):(Gz (λ(v3:Int×PUnit) (k4:Int×PUnit->Prop)=>Br (decide (v3.1<(↑xs.length:Int))) (∃(y5:Int),idx xs v3.1=some y5/\Br (y5==x) (P true) (k4 (IntKind.i64.wrap (v3.1+1),()))) (P false)) (0,PUnit.unit))=fnW Hi (look []) Nd Try.f93 (xs,x,()) P:=by kernel_rfl
theorem z7 (x a b:Int) (_:True):fnW Hi (look []) Df Try.f39 (x,a,b,()) (λ(z:Bool)=>z=Lt x a b):=by
 refine Eq.mp (zH x a b _) ?_
 refine Br.dec (λh=>?_) λh=>?_
 ·have h:a<=x:=h
  simp [Lt,h]
 ·exact (La λhh=>h hh.1).symm
theorem Ua:Sound Try.prog 39 Df:=
 Sound.Kx Gc Dk mixed Try.func39 (by kernel_rfl) (by kernel_rfl) λx h=>z7 x.1 x.2.1 x.2.2.1 h
theorem DJ (x a b:Int) (_:True):fnW Hi (look []) Df Try.f49 (x,a,b,()) (λ(z:Bool)=>z=Lt x a b):=by
 refine Eq.mp (EP x a b _) ?_
 refine Br.dec (λh=>?_) λh=>?_
 ·have h:a<=x:=h
  simp [Lt,h]
 ·exact (La λhh=>h hh.1).symm
theorem bE:Sound Try.prog 49 Df:=
 Sound.Kx Gc Dk mixed Try.func49 (by kernel_rfl) (by kernel_rfl) λx h=>DJ x.1 x.2.1 x.2.2.1 h
theorem o4 (xs:List Int) (x:Int) (h:short xs):fnW Hi (look []) Nd Try.f93 (xs,x,()) (λ(z:Bool)=>z=fg xs x):=by
 refine Eq.mp (oF xs x _) ?_
 unfold short at h
 refine Cl xs.length (λv=>v.1) (λj _=>x∉xs.take j) rfl (by simp) ?_
 rintro j ⟨i,⟨⟩⟩ K hj hi hR hK
 dsimp only at hi⊢
 subst hi
 refine Br.dec (λhl=>?_) λhl=>?_
 ·have hl:j<xs.length:=by omega
  refine ⟨_,El hl,⟨λhe=>?_,λhe=>?_⟩⟩
  ·have hm:=Ar hl
   simp only [beq_iff_eq] at he
   rw [he] at hm
   exact (Ct hm).symm
  ·rw [Dr (by omega)]
   refine hK hl _ rfl ?_
   simp only [bS,ne_eq] at he
   rw [Cr hl]
   simp only [Av,Ad,not_or]
   exact ⟨hR,λhx=>he hx.symm⟩
 ·have:j=xs.length:=by omega
  subst this
  rw [Bj] at hR
  exact (La hR).symm
theorem iG:Sound Try.prog 93 Nd:=
 Sound.Kx Gc Dk mixed Try.func93 (by kernel_rfl) (by kernel_rfl) λx h=>o4 x.1 x.2.1 h
theorem FT (a b:List Int) (hlen:a.length=b.length) (h:short a):
  Gz (λ(v3:Int×PUnit) (k4:Int×PUnit->Prop)=>
   Br (decide (v3.1<(↑a.length:Int))) (∃(y5:Int),idx a v3.1=some y5/\ ∃(y6:Int),idx b v3.1=some y6/\Br (y5 !=y6) (false=Ym a b) (k4 (IntKind.i64.wrap (v3.1+1),())))
    (true=Ym a b))
  (0,PUnit.unit):=by
 unfold short at h
 refine Cl a.length (λv=>v.1) (λj _=>a.take j=b.take j) rfl (by simp) ?_
 rintro j ⟨i,⟨⟩⟩ K hj hi hR hK
 dsimp only at hi⊢
 subst hi
 refine Br.dec (λhl=>?_) λhl=>?_
 ·have zY:j<a.length:=by omega
  have p9:j<b.length:=by omega
  refine ⟨_,El zY,_,El p9,⟨λhe=>?_,λhe=>?_⟩⟩
  ·simp only [bne_iff_ne,ne_eq] at he
   refine (La λvL=>he ?_).symm
   subst vL
   rfl
  ·rw [Dr (by omega)]
   refine hK zY _ rfl ?_
   simp only [bne_eq_false_iff_eq] at he
   rw [Cr zY,Cr p9,hR,he]
 ·have iR:j=a.length:=by omega
  subst iR
  rw [Bj,hlen,Bj] at hR
  exact (Ct hR).symm
theorem u9 (a b:List Int) (h:short a):fnW Hi (look []) Ku Try.f33 (a,b,()) (λ(z:Bool)=>z=Ym a b):=by
 refine Eq.mp (uM a b _) ⟨λhl=>?_,λhl=>?_⟩
 ·simp only [bne_iff_ne,ne_eq,Vv] at hl
  exact (La λvL=>hl (by rw [vL])).symm
 ·simp only [bne_eq_false_iff_eq,Vv] at hl
  exact FT a b hl h
theorem cg:Sound Try.prog 33 Ku:=
 Sound.Kx Gc Dk mixed Try.func33 (by kernel_rfl) (by kernel_rfl) λx h=>u9 x.1 x.2.1 h
abbrev TT:Type:=List Int×List (List Int)×List Int×Unit
def Rv (xs:List (List Int)):Prop:=xs.length<=4294967296/\ ∀r∈xs,short r
def DU (t:TT):Prop:=short t.1/\Rv t.2.1/\short t.2.2.1
def RH (a b:TT):Bool:=decide (a.1=b.1)&&(decide (a.2.1=b.2.1)&&decide (a.2.2.1=b.2.2.1))
theorem fu {α:Type} {ys xs:List α} {j:Nat} (h:j<xs.length) (hl:ys.length=xs.length) (ht:ys.take j=xs.take j):(ys.set j xs[j]).take (j+1)=xs.take (j+1):=by
 have h1:j<(ys.set j xs[j]).length:=by rw [Eh];omega
 rw [Cr h1,Cr h,List.getElem_set_self,List.take_set_of_le (Ao j),ht]
def PL (n:Int) (xs:List Int) (k:Nat):Prop:= ∀j (h:j<xs.length),j<k->0<=xs[j]/\xs[j]<=n-1/\(0<j->xs[j-1]<xs[j])
def DL (n:Int) (xs:List Int) (k:Nat):Prop:= ∀j (h:j<xs.length),j<k->0<=xs[j]/\xs[j]<=n-1/\xs[j]∉xs.take j
noncomputable def dec (p:Prop):Bool:= @decide p (Classical.propDecidable p)
theorem Rg {p:Prop} (h:p):true=dec p:=(@Ct p (Classical.propDecidable p) h).symm
theorem Du {p:Prop} (h: ¬p):false=dec p:=(@La p (Classical.propDecidable p) h).symm
theorem Fz {p:Prop} :dec p=true↔p:= @Va p (Classical.propDecidable p)
theorem FP {p:Prop} :dec p=false↔ ¬p:= @decide_eq_false_iff_not p (Classical.propDecidable p)
noncomputable def tO (n:Int) (xs:List Int):Bool:=dec (0<xs.length/\PL n xs xs.length)
theorem Eg {x a b:Int} :Lt x a b=true↔a<=x/\x<=b:=Va
theorem Lo {b:Bool} (h:(!b)=true): ¬b=true:=by cases b<;>simp_all
theorem Gd {b:Bool} (h:(!b)=false):b=true:=by cases b<;>simp_all
theorem FQ {n:Int} {xs:List Int} {j:Nat} (hl:j<xs.length) (h:DL n xs j) (h1:0<=xs[j]) (h2:xs[j]<=n-1) (h3:xs[j]∉xs.take j):DL n xs (j+1):=by
 intro i hi fW
 by_cases e:i=j
 ·subst e;exact ⟨h1,h2,h3⟩
 ·exact h i hi (by omega)
theorem wK {xs:List Int} (h:short xs) (j:Nat):short (xs.take j):=by
 unfold short at*
 rw [Ed]
 omega
abbrev PP:Type:=Int×ByteArray×List (List Int)×Unit
noncomputable def Hq (p:List Int):Bool:=dec (1<=p.length/\p.length<=20/\DL p.length p p.length)
noncomputable def Lj (n:Int) (p:List Int):Bool:=dec ((p.length:Int)=n/\Hq p=true)
noncomputable def Lu (n:Int) (g:List (List Int)):Bool:=dec ((1<=n/\n<=20)/\g.length<=8/\ ∀p∈g,Lj n p=true)
def Iv {α:Type} (P:α->Bool):List α->Int->Int
 | [],_=> -1
 |y::r,i=>if P y=true then i else Iv P r (i+1)
abbrev tG1:Ty:= .clo 84 (.pair (.ptr tI) .unit)
def pY (s:ByteArray) (i:Nat):Prop:= ∃c:UInt8,s[i]?=some c/\65<=c.toNat/\c.toNat<=90/\ ∀k,k<i->s[k]?≠some c
noncomputable def iv (s:ByteArray) (i:Int):Bool:=dec (pY s i.toNat)
noncomputable def Wa (s:ByteArray):Bool:=dec ((1<=s.size/\s.size<=8)/\ ∀j,j<s.size->pY s j)
noncomputable def m_validP (p:PP):Bool:=dec (Lu p.1 p.2.2.1=true/\Wa p.2.1=true/\p.2.1.size=p.2.2.1.length)
def Zk (p:PP):Prop:=p.2.1.size<=4294967296/\Rv p.2.2.1
noncomputable abbrev Zi:Spec:=Kx (.pair tL .unit) tI false true (λ_=>True) (λx=>(List.length x.1:Int))
noncomputable abbrev Hr:Spec:=Kx (.pair tL .unit) .bool false true (λx=>short x.1) (λx=>Hq x.1)
noncomputable abbrev Jx:Spec:=Kx (.pair tI (.pair wV .unit)) .bool false true (λx=>Rv x.2.1) (λx=>Lu x.1 x.2.1)
noncomputable abbrev eB:Spec:=Kx (.pair tL (.pair (.ptr tI) .unit)) .bool false true (λx=>short x.1) (λx=>!Lj x.2.1 x.1)
noncomputable abbrev pL:Spec:=Kx (.pair wV (.pair tG1 .unit)) tI false true (λx=>Rv x.1) (λx=>Iv (λp=>!Lj x.2.1.1 p) x.1 0)
noncomputable abbrev pK:Spec:=Kx (.pair wV (.pair tG1 .unit)) .bool false true (λx=>Rv x.1) (λx=>List.any x.1 (λp=>!Lj x.2.1.1 p))
noncomputable abbrev aD:Spec:=Kx (.pair .str (.pair tI .unit)) .bool false true (λx=>0<=x.2.1/\x.2.1<x.1.size/\x.1.size<=4294967296) (λx=>iv x.1 x.2.1)
noncomputable abbrev We:Spec:=Kx (.pair .str .unit) .bool false true (λx=>x.1.size<=4294967296) (λx=>Wa x.1)
noncomputable abbrev Mu:Spec:=Kx (.pair Oq .unit) .bool false true (λx=>Zk x.1) (λx=>m_validP x.1)
theorem MY (xs:List Int) (P:Int->Prop):(P (↑xs.length:Int))=fnW Hi (look []) Zi Try.f85 (xs,()) P:=by kernel_rfl
theorem so (p:List Int) (P:Bool->Prop):(∃(y2:Bool),Df.fn ((↑p.length:Int),(1:Int),(20:Int),())=some y2/\Br (!y2) (P false) (Gz (λ(v3:Int×PUnit) (k4:Int×PUnit->Prop)=>Br (decide (v3.1<(↑p.length:Int))) (∃(y5:Int),idx p v3.1=some y5/\ ∃(y6:Bool),Df.fn (y5,(0:Int),IntKind.i64.wrap ((↑p.length:Int)-(1:Int)),())=some y6/\Br (!y6) (P false) (((0:Int)<=(0:Int)/\(0:Int)<=v3.1/\v3.1<=(↑p.length:Int))/\ ∃(y7:Int),idx p v3.1=some y7/\ ∃(y8:Bool),Nd.fn (List.drop (Int.toNat (0:Int)) (List.take v3.1.toNat p),y7,())=some y8/\Br y8 (P false) (k4 (IntKind.i64.wrap (v3.1+(1:Int)),())))) (P true)) ((0:Int),PUnit.unit)))=fnW Hi (look [(39,Df),(93,Nd)]) Hr Try.f67 (p,()) P:=by kernel_rfl
theorem sk (p:List Int) (P:Bool->Prop):(∃(y2:Int),Zi.fn (p,())=some y2/\ ∃(y3:Bool),Df.fn (y2,(1:Int),(20:Int),())=some y3/\Br (!y3) (P false) (Gz (λ(v4:Int×Int×PUnit) (k5:Int×Int×PUnit->Prop)=>Br (decide (v4.2.1<(↑p.length:Int))) (∃(y6:Int),idx p v4.2.1=some y6/\ ∃(y7:Int),Zi.fn (p,())=some y7/\ ∃(y8:Bool),Df.fn (y6,(0:Int),IntKind.i64.wrap (y7-(1:Int)),())=some y8/\Br (!y8) (P false) (¬y6<(0:Int)/\k5 (IntKind.i64.wrap (↑(BitVec.ofInt IntKind.i64.bits v4.1|||BitVec.ofInt IntKind.i64.bits (IntKind.i64.wrap ((1:Int)*(2:Int)^min y6.toNat IntKind.i64.bits))).toNat:Int),IntKind.i64.wrap (v4.2.1+(1:Int)),()))) (¬(↑p.length:Int)<(0:Int)/\P (v4.1==IntKind.i64.wrap (IntKind.i64.wrap ((1:Int)*(2:Int)^min (↑p.length:Int).toNat IntKind.i64.bits)-(1:Int))))) ((0:Int),(0:Int),PUnit.unit)))=fnW Hi (look [(49,Df),(85,Zi)]) Hr Try.f62 (p,()) P:=by kernel_rfl
theorem sn (n:Int) (g:List (List Int)) (P:Bool->Prop):(∃(y3:Bool),Df.fn (n,(1:Int),(20:Int),())=some y3/\Br (!y3) (P false) (Br (decide ((↑g.length:Int)>(8:Int))) (P false) (Gz (λ(v4:Int×PUnit) (k5:Int×PUnit->Prop)=>Br (decide (v4.1<(↑g.length:Int))) (∃(y6:List Int),idx g v4.1=some y6/\Br ((↑y6.length:Int) !=n) (P false) (∃(y7:List Int),idx g v4.1=some y7/\ ∃(y8:Bool),Hr.fn (y7,())=some y8/\Br (!y8) (P false) (k5 (IntKind.i64.wrap (v4.1+(1:Int)),())))) (P true)) ((0:Int),PUnit.unit))))=fnW Hi (look [(39,Df),(67,Hr)]) Jx Try.f34 (n,g,()) P:=by kernel_rfl
theorem HM (p:List Int) (n:Int) (P:Bool->Prop):(∃(y3:Int),Zi.fn (p,())=some y3/\Br (y3 !=n) (P true) (∃(y4:Bool),Hr.fn (p,())=some y4/\P !y4))=fnW Hi (look [(85,Zi),(62,Hr)]) eB Try.f84 (p,n,()) P:=by kernel_rfl
theorem RZ (g:List (List Int)) (n:Int×Unit) (P:Int->Prop):(Gz (λ(v3:Int×PUnit) (k4:Int×PUnit->Prop)=>Br (decide (v3.1<(↑g.length:Int))) (∃(y5:List Int),idx g v3.1=some y5/\ ∃(y6:Bool),eB.fn (y5,n.1,())=some y6/\Br y6 (P v3.1) (k4 (IntKind.i64.wrap (v3.1+(1:Int)),()))) (P (-1:Int))) ((0:Int),PUnit.unit))=fnW Hi (look [(84,eB)]) pL Try.f106 (g,n,()) P:=by kernel_rfl
theorem RY (g:List (List Int)) (n:Int×Unit) (P:Bool->Prop):(∃(y3:Int),pL.fn (g,n,())=some y3/\P (decide (y3>=(0:Int))))=fnW Hi (look [(106,pL)]) pK Try.f83 (g,n,()) P:=by kernel_rfl
theorem sj (n:Int) (g:List (List Int)) (P:Bool->Prop):(∃(y3:Bool),Df.fn (n,(1:Int),(20:Int),())=some y3/\Br y3 (Br (decide ((↑g.length:Int)<=(8:Int))) (∃(y4:Bool),pK.fn (g,(n,()),())=some y4/\P !y4) (P false)) (P false))=fnW Hi (look [(49,Df),(83,pK)]) Jx Try.f59 (n,g,()) P:=by kernel_rfl
theorem EO (s:ByteArray) (i:Int) (P:Bool->Prop):((0:Int)<=i/\ ∃(y3:UInt8),s[i.toNat]?=some y3/\Br (decide ((↑y3.toNat:Int)<(65:Int))) (P false) ((0:Int)<=i/\ ∃(y4:UInt8),s[i.toNat]?=some y4/\Br (decide ((↑y4.toNat:Int)>(90:Int))) (P false) (Gz (λ(v5:Int×PUnit) (k6:Int×PUnit->Prop)=>Br (decide (v5.1<i)) ((0:Int)<=v5.1/\ ∃(y7:UInt8),s[v5.1.toNat]?=some y7/\(0:Int)<=i/\ ∃(y8:UInt8),s[i.toNat]?=some y8/\Br ((↑y7.toNat:Int)==(↑y8.toNat:Int)) (P false) (k6 (IntKind.i64.wrap (v5.1+(1:Int)),()))) (P true)) ((0:Int),PUnit.unit))))=fnW Hi (look []) aD Try.f90 (s,i,()) P:=by kernel_rfl
theorem zJ (s:ByteArray) (P:Bool->Prop):(Gz (λ(v2:Int×PUnit) (k3:Int×PUnit->Prop)=>Br (decide (v2.1<(↑s.size:Int))) ((0:Int)<=v2.1/\ ∃(y4:UInt8),s[v2.1.toNat]?=some y4/\ ∃(y5:Bool),Df.fn (IntKind.i64.wrap (↑y4.toNat:Int),(65:Int),(90:Int),())=some y5/\Br (!y5) (P false) (Gz (λ(v6:Int×PUnit) (k7:Int×PUnit->Prop)=>Br (decide (v6.1<v2.1)) ((0:Int)<=v6.1/\ ∃(y8:UInt8),s[v6.1.toNat]?=some y8/\(0:Int)<=v2.1/\ ∃(y9:UInt8),s[v2.1.toNat]?=some y9/\Br ((↑y8.toNat:Int)==(↑y9.toNat:Int)) (P false) (k7 (IntKind.i64.wrap (v6.1+(1:Int)),()))) (k3 (IntKind.i64.wrap (v2.1+(1:Int)),()))) ((0:Int),PUnit.unit))) (∃(y4:Bool),Df.fn ((↑s.size:Int),(1:Int),(8:Int),())=some y4/\P y4)) ((0:Int),PUnit.unit))=fnW Hi (look [(49,Df)]) We Try.f60 (s,()) P:=by kernel_rfl
abbrev fo:Type:=Int×Int×ByteArray×List (List Int)×PUnit
theorem sq (p:Int×ByteArray×List (List Int)×Unit) (P:Bool->Prop):(Br ((↑p.2.2.1.length:Int)==(0:Int)) (P false) (Br ((↑p.2.1.size:Int) !=(↑p.2.2.1.length:Int)) (P false) (∃(y2:Bool),Jx.fn (p.1,p.2.2.1,())=some y2/\Br (!y2) (P false) (Gz (λ(v3:fo) (k4:fo->Prop)=>Br (decide (v3.1<(↑v3.2.2.1.size:Int))) (∃(y5:Bool),aD.fn (v3.2.2.1,v3.1,())=some y5/\Br (!y5) (P false) (k4 (IntKind.i64.wrap (v3.1+(1:Int)),v3.2.1,v3.2.2.1,v3.2.2.2.1,()))) (P true)) ((0:Int),p.1,p.2.1,p.2.2.1,PUnit.unit)))))=fnW Hi (look [(34,Jx),(90,aD)]) Mu Try.f64 (p,()) P:=by kernel_rfl
theorem sl (p:Int×ByteArray×List (List Int)×Unit) (P:Bool->Prop):(∃(y2:Bool),Jx.fn (p.1,p.2.2.1,())=some y2/\Br y2 (∃(y3:Bool),We.fn (p.2.1,())=some y3/\Br y3 (P ((↑p.2.1.size:Int)==(↑p.2.2.1.length:Int))) (P false)) (P false))=fnW Hi (look [(59,Jx),(60,We)]) Mu Try.f23 (p,()) P:=by kernel_rfl
theorem MJ (xs:List Int) (_:True):fnW Hi (look []) Zi Try.f85 (xs,()) (λ(z:Int)=>z=(xs.length:Int)):=Eq.mp (MY xs _) rfl
theorem ni:Sound Try.prog 85 Zi:=
 Sound.Kx Gc Dk mixed Try.func85 (by kernel_rfl) (by kernel_rfl) λx h=>MJ x.1 h
theorem rZ {α:Type} [DecidableEq α]: ∀(l m:List α),l.Nodup->(∀x∈l,x∈m)->l.length<=m.length
 | [],m,_,_=>Zr _
 |a::l,m,hn,hs=>by
  have ha:a∈m:=hs a (Jh ..)
  have hn:=Bw.1 hn
  have:=rZ l (m.erase a) hn.2 λx hx=>(List.mem_erase_of_ne (λ(e:x=a)=>hn.1 (by rw [<-e];exact hx))).2 (hs x (Aq _ hx))
  rw [List.length_erase_of_mem ha] at this
  have:0<m.length:=List.length_pos_of_mem ha
  simp only [Bf]
  omega
def upto (n:Nat):List Int:=(List.range n).map Int.ofNat
theorem nA (n:Nat):(upto n).Nodup:=by
 unfold upto
 exact List.Pairwise.map _ (λa b vL e=>vL (Int.ofNat.inj e)) List.nodup_range
theorem Lw {n:Nat} {x:Int} :x∈upto n↔0<=x/\x<n:=by
 unfold upto
 simp only [Bq,Ho]
 constructor
 ·rintro ⟨a,ha,rfl⟩;exact ⟨Int.natCast_nonneg _,Int.ofNat_lt.2 ha⟩
 ·rintro ⟨h1,h2⟩;exact ⟨x.toNat,by omega,by simp only [Int.ofNat_eq_natCast];omega⟩
theorem Ps (n:Nat):(upto n).length=n:=by simp [upto]
theorem dy {xs:List Int} (h: ∀j (hj:j<xs.length),xs[j]∉xs.take j):xs.Nodup:=by
 refine Fa.2 λi j hi hj fW e=>h j hj ?_
 rw [<-e]
 exact List.mem_take_iff_getElem.2 ⟨i,by omega,rfl⟩
theorem nz {xs:List Int} (h:xs.Nodup): ∀j (hj:j<xs.length),xs[j]∉xs.take j:=by
 intro j hj hm
 obtain ⟨i,hi,e⟩:=List.mem_take_iff_getElem.1 hm
 exact Fa.1 h i j (by omega) hj (by omega) e
theorem Yz {xs:List Int} (h: ∀x∈xs,0<=x/\x<xs.length):(∀k:Nat,k<xs.length->(k:Int)∈xs)↔ ∀j (hj:j<xs.length),xs[j]∉xs.take j:=by
 constructor
 ·intro ha j hj hm
  have h1:=rZ (upto xs.length) (xs.take j++xs.drop (j+1)) (nA _) λx hx=>by
   obtain ⟨h1,h2⟩:=Lw.1 hx
   have hx:=ha x.toNat (by omega)
   rw [show ((x.toNat:Nat):Int)=x by omega] at hx
   rw [<-Ir j xs,Av,List.drop_eq_getElem_cons hj,Ay] at hx
   rcases hx with hx|rfl|hx
   ·exact Bg _ hx
   ·exact Bg _ hm
   ·exact Bp _ hx
  rw [Ps,Cf,Ed,List.length_drop] at h1
  omega
 ·intro hn k hk
  refine Cd λhc=>?_
  have h1:=rZ xs ((upto xs.length).erase (k:Int)) (dy hn) λx hx=>by
   refine (List.mem_erase_of_ne λ(e:x=(k:Int))=>hc (by rw [<-e];exact hx)).2 (Lw.2 (h x hx))
  rw [List.length_erase_of_mem (Lw.2 ⟨by omega,by omega⟩),Ps] at h1
  omega
def mask (xs:List Int):Nat:=xs.foldl (λm x=>m|||2^x.toNat) 0
theorem yO (xs:List Int) (x:Int):mask (xs++ [x])=mask xs|||2^x.toNat:=by simp [mask]
theorem qX (xs:List Int) (k:Nat): ∀a:Nat,(xs.foldl (λm x=>m|||2^x.toNat) a).testBit k=(a.testBit k||xs.any λx=>decide (x.toNat=k)):=by
 induction xs with
 |nil=>simp
 |cons x xs ih=>
  intro a
  rw [Ky,ih,Nat.testBit_or,Nat.testBit_two_pow,List.any_cons,Bool.or_assoc]
theorem mz (xs:List Int) (k:Nat):(mask xs).testBit k=xs.any λx=>decide (x.toNat=k):=by
 unfold mask
 rw [qX,Nat.zero_testBit,Wj]
theorem GV {xs:List Int} {n:Nat} (h: ∀x∈xs,x.toNat<n):mask xs<2^n:=by
 refine Nat.lt_pow_two_of_testBit _ λk hk=>?_
 rw [mz]
 refine Bool.eq_false_iff.2 λht=>?_
 obtain ⟨x,hx,he⟩:=Dv.1 ht
 have:=h x hx
 have:=Dh he
 omega
theorem pt {xs:List Int} (h: ∀x∈xs,0<=x/\x<xs.length):mask xs=2^xs.length-1↔ ∀k:Nat,k<xs.length->(k:Int)∈xs:=by
 constructor
 ·intro e k hk
  have h1:=mz xs k
  rw [e,Nat.testBit_two_pow_sub_one,Ct hk] at h1
  obtain ⟨x,hx,he⟩:=Dv.1 h1.symm
  have:=(h x hx).1
  have:=Dh he
  have e:x=(k:Int):=by omega
  exact e▸hx
 ·intro ha
  refine Nat.eq_of_testBit_eq λk=>?_
  rw [mz,Nat.testBit_two_pow_sub_one]
  by_cases hk:k<xs.length
  ·rw [Ct hk]
   exact Dv.2 ⟨k,ha k hk,by simp⟩
  ·rw [La hk]
   refine Bool.eq_false_iff.2 λht=>?_
   obtain ⟨x,hx,he⟩:=Dv.1 ht
   have:=h x hx
   have:=Dh he
   omega
theorem GZ {m:Nat} {x:Int} (hm:m<2^20) (h0:0<=x) (h1:x<20):
  IntKind.i64.wrap (((BitVec.ofInt IntKind.i64.bits (m:Int)|||BitVec.ofInt IntKind.i64.bits (IntKind.i64.wrap ((1:Int)*(2:Int)^min x.toNat IntKind.i64.bits))).toNat:Nat):Int)=((m|||2^x.toNat:Nat):Int):=by
 have hx:(2:Nat)^x.toNat<2^20:=Nat.pow_lt_pow_right (by omega) (by omega)
 have e1:min x.toNat IntKind.i64.bits=x.toNat:=by show min x.toNat 64=_;omega
 have e2:(1:Int)*(2:Int)^x.toNat=((2^x.toNat:Nat):Int):=by rw [Int.one_mul];exact (Int.natCast_pow 2 _).symm
 rw [e1,e2,En (n:=((2^x.toNat:Nat):Int)) (by have:(0:Int)<=((2^x.toNat:Nat):Int):=Int.natCast_nonneg _;omega) (by omega)]
 show IntKind.i64.wrap (((BitVec.ofInt 64 (m:Int)|||BitVec.ofInt 64 ((2^x.toNat:Nat):Int)).toNat:Nat):Int)=_
 rw [BitVec.ofInt_natCast,BitVec.ofInt_natCast,BitVec.toNat_or,BitVec.toNat_ofNat,BitVec.toNat_ofNat,Nat.mod_eq_of_lt (by omega),Nat.mod_eq_of_lt (by omega)]
 have:=Nat.or_lt_two_pow hm hx
 exact En (by omega) (by omega)
theorem rh (p:List Int) (h:short p):fnW Hi (look [(39,Df),(93,Nd)]) Hr Try.f67 (p,()) (λ(z:Bool)=>z=Hq p):=by
 have hs:=h
 unfold short at h
 refine Eq.mp (so p _) ⟨_,Af trivial,⟨λhp=>?_,λhp=>?_⟩⟩
 ·have hp:=Lo hp
  rw [Eg] at hp
  dsimp only at hp
  exact Du λhh=>hp ⟨by omega,by omega⟩
 ·have hp:=Gd hp
  rw [Eg] at hp
  dsimp only at hp
  refine Cl p.length (λv=>v.1) (λj _=>DL p.length p j) rfl (λj _ hj=>absurd hj (cJ _)) ?_
  rintro j ⟨i,⟨⟩⟩ K hj hi hR hK
  dsimp only at hi⊢
  subst hi
  refine Br.dec (λhl=>?_) λhl=>?_
  ·have hl:j<p.length:=by omega
   refine ⟨_,El hl,_,Af trivial,⟨λhq=>?_,λhq=>?_⟩⟩
   ·have hq:=Lo hq
    rw [Eg,En (by omega) (by omega)] at hq
    exact Du λhh=>hq ⟨(hh.2.2 j hl hl).1,(hh.2.2 j hl hl).2.1⟩
   ·have hq:=Gd hq
    rw [Eg,En (by omega) (by omega)] at hq
    refine ⟨⟨by omega,by omega,by omega⟩,_,El hl,?_⟩
    rw [show (Int.toNat 0)=0 from rfl,Kg,Cq]
    refine ⟨_,Af (wK hs j),⟨λhc=>?_,λhc=>?_⟩⟩
    ·have hc:decide (p[j]∈p.take j)=true:=hc
     rw [Va] at hc
     exact Du λhh=>(hh.2.2 j hl hl).2.2 hc
    ·have hc:decide (p[j]∈p.take j)=false:=hc
     rw [decide_eq_false_iff_not] at hc
     rw [Dr (by omega)]
     exact hK hl _ rfl (FQ hl hR hq.1 hq.2 hc)
  ·have:j=p.length:=by omega
   subst this
   exact Rg ⟨by omega,by omega,hR⟩
theorem aG:Sound Try.prog 67 Hr:=
 Sound.Kx Gc (Cg Ua (Cg iG Dk)) mixed Try.func67 (by kernel_rfl) (by kernel_rfl) λx h=>rh x.1 h
theorem r8 (p:List Int) (h:short p):fnW Hi (look [(49,Df),(85,Zi)]) Hr Try.f62 (p,()) (λ(z:Bool)=>z=Hq p):=by
 unfold short at h
 refine Eq.mp (sk p _) ⟨_,Af trivial,_,Af trivial,⟨λhp=>?_,λhp=>?_⟩⟩
 ·have hp:=Lo hp
  rw [Eg] at hp
  dsimp only at hp
  exact Du λhh=>hp ⟨by omega,by omega⟩
 ·have hp:=Gd hp
  rw [Eg] at hp
  dsimp only at hp
  refine Cl p.length (λv=>v.2.1) (λj v=>v.1=(mask (p.take j):Int)/\ ∀x∈p.take j,0<=x/\x<p.length) rfl ⟨rfl,by simp⟩ ?_
  rintro j ⟨m,i,⟨⟩⟩ K hj hi ⟨hm,hR⟩ hK
  dsimp only at hi hm⊢
  subst hi hm
  refine Br.dec (λhl=>?_) λhl=>?_
  ·have hl:j<p.length:=by omega
   refine ⟨_,El hl,_,Af trivial,_,Af trivial,⟨λhq=>?_,λhq=>?_⟩⟩
   ·have hq:=Lo hq
    rw [Eg] at hq
    dsimp only at hq
    rw [En (by omega) (by omega)] at hq
    exact Du λhh=>hq ⟨(hh.2.2 j hl hl).1,(hh.2.2 j hl hl).2.1⟩
   ·have hq:=Gd hq
    rw [Eg] at hq
    dsimp only at hq
    rw [En (by omega) (by omega)] at hq
    refine ⟨by omega,?_⟩
    rw [Dr (by omega)]
    have hb:mask (p.take j)<2^20:=GV λx hx=>by have:=hR x hx;omega
    refine hK hl _ rfl ⟨?_,?_⟩
    ·dsimp only
     rw [GZ hb hq.1 (by omega),Cr hl,yO]
    ·rw [Cr hl]
     intro x hx
     rcases Av.1 hx with hx|hx
     ·exact hR x hx
     ·rw [Ad.1 hx];omega
  ·have:j=p.length:=by omega
   subst this
   rw [Bj] at hR⊢
   refine ⟨by omega,?_⟩
   have hx:(2:Nat)^p.length<=2^20:=Nat.pow_le_pow_right (by omega) (by omega)
   have BR:0<(2:Nat)^p.length:=Nat.two_pow_pos _
   have e1:min (p.length:Int).toNat IntKind.i64.bits=p.length:=by show min (p.length:Int).toNat 64=_;omega
   have e2:(1:Int)*(2:Int)^p.length=((2^p.length:Nat):Int):=by rw [Int.one_mul];exact (Int.natCast_pow 2 _).symm
   rw [e1,e2,En (n:=((2^p.length:Nat):Int)) (by omega) (by omega),En (by omega) (by omega)]
   have hE:((mask p:Int)==((2^p.length:Nat):Int)-1)=decide (mask p=2^p.length-1):=by
    rw [Bool.eq_iff_iff,beq_iff_eq,Va]
    omega
   show ((mask p:Int)==((2^p.length:Nat):Int)-1)=Hq p
   rw [hE]
   by_cases hf:mask p=2^p.length-1
   ·rw [Ct hf]
    have hn:=(Yz hR).1 ((pt hR).1 hf)
    refine Rg ⟨by omega,by omega,λj hj _=>?_⟩
    have:=hR _ (Ar hj)
    exact ⟨this.1,by omega,hn j hj⟩
   ·rw [La hf]
    refine Du λhh=>hf ((pt hR).2 ((Yz hR).2 λj hj=>(hh.2.2 j hj hj).2.2))
theorem aE:Sound Try.prog 62 Hr:=
 Sound.Kx Gc (Cg bE (Cg ni Dk)) mixed Try.func62 (by kernel_rfl) (by kernel_rfl) λx h=>r8 x.1 h
theorem rf (n:Int) (g:List (List Int)) (h:Rv g):fnW Hi (look [(39,Df),(67,Hr)]) Jx Try.f34 (n,g,()) (λ(z:Bool)=>z=Lu n g):=by
 obtain ⟨h,h4⟩:=h
 refine Eq.mp (sn n g _) ⟨_,Af trivial,⟨λhp=>?_,λhp=>?_⟩⟩
 ·have hp:=Lo hp
  rw [Eg] at hp
  exact Du λhh=>hp hh.1
 ·have hp:=Gd hp
  rw [Eg] at hp
  refine Br.dec (λhg=>?_) λhg=>?_
  ·exact Du λhh=>by have:=hh.2.1;omega
  ·refine Cl g.length (λv=>v.1) (λj _=> ∀p∈g.take j,Lj n p=true) rfl (by simp) ?_
   rintro j ⟨i,⟨⟩⟩ K hj hi hR hK
   dsimp only at hi⊢
   subst hi
   refine Br.dec (λhl=>?_) λhl=>?_
   ·have hl:j<g.length:=by omega
    have hm:g[j]∈g:=Ar hl
    refine ⟨_,El hl,⟨λhe=>?_,λhe=>?_⟩⟩
    ·simp only [bne_iff_ne,ne_eq] at he
     exact Du λhh=>he (Fz.1 (hh.2.2 _ hm)).1
    ·simp only [bne_eq_false_iff_eq] at he
     refine ⟨_,El hl,_,Af (h4 _ hm),⟨λhq=>?_,λhq=>?_⟩⟩
     ·have hq:=Lo hq
      exact Du λhh=>hq (Fz.1 (hh.2.2 _ hm)).2
     ·have hq:=Gd hq
      rw [Dr (by omega)]
      refine hK hl _ rfl ?_
      rw [Cr hl]
      intro x hx
      rcases Av.1 hx with hx|hx
      ·exact hR x hx
      ·rw [Ad.1 hx];exact Fz.2 ⟨he,hq⟩
   ·have:j=g.length:=by omega
    subst this
    rw [Bj] at hR
    exact Rg ⟨hp,by omega,hR⟩
theorem aF:Sound Try.prog 34 Jx:=
 Sound.Kx Gc (Cg Ua (Cg aG Dk)) mixed Try.func34 (by kernel_rfl) (by kernel_rfl) λx h=>rf x.1 x.2.1 h
theorem HC (p:List Int) (n:Int) (h:short p):fnW Hi (look [(85,Zi),(62,Hr)]) eB Try.f84 (p,n,()) (λ(z:Bool)=>z=!Lj n p):=by
 refine Eq.mp (HM p n _) ⟨_,Af trivial,⟨λhe=>?_,λhe=>⟨_,Af h,?_⟩⟩⟩
 ·simp only [bne_iff_ne,ne_eq] at he
  have:Lj n p=false:=FP.2 λhh=>he hh.1
  rw [this];rfl
 ·simp only [bne_eq_false_iff_eq] at he
  show (!Hq p)=_
  congr 1
  cases hp:Hq p with
  |true=>exact Rg ⟨he,hp⟩
  |false=>exact Du λhh=>by rw [hh.2] at hp;cases hp
theorem uu:Sound Try.prog 84 eB:=
 Sound.Kx Gc (Cg ni (Cg aE Dk)) mixed Try.func84 (by kernel_rfl) (by kernel_rfl) λx h=>HC x.1 x.2.1 h
theorem kf {α:Type} (P:α->Bool): ∀(l:List α) (i:Int),0<=i->(0<=Iv P l i↔l.any P=true)
 | [],i,_=>by simp [Iv]
 |y::r,i,h=>by
  simp only [Iv,List.any_cons,Ja]
  split
  ·rename_i hy;simp [hy,h]
  ·rename_i hy;rw [kf P r (i+1) (by omega)];simp [hy]
theorem RM (g:List (List Int)) (n:Int×Unit) (h:Rv g):fnW Hi (look [(84,eB)]) pL Try.f106 (g,n,()) (λ(z:Int)=>z=Iv (λp=>!Lj n.1 p) g 0):=by
 obtain ⟨h,h4⟩:=h
 refine Eq.mp (RZ g n _) ?_
 refine Cl g.length (λv=>v.1) (λj _=>Iv (λp=>!Lj n.1 p) (g.drop j) j=Iv (λp=>!Lj n.1 p) g 0) rfl (by simp) ?_
 rintro j ⟨i,⟨⟩⟩ K hj hi hR hK
 dsimp only at hi⊢
 subst hi
 refine Br.dec (λhl=>?_) λhl=>?_
 ·have hl:j<g.length:=by omega
  rw [List.drop_eq_getElem_cons hl] at hR
  simp only [Iv] at hR
  refine ⟨_,El hl,_,Af (h4 _ (Ar hl)),⟨λhe=>?_,λhe=>?_⟩⟩
  ·have he:(!Lj n.1 g[j])=true:=he
   rw [Af he] at hR
   exact hR
  ·have he:(!Lj n.1 g[j])=false:=he
   rw [Aj (by rw [he];decide)] at hR
   rw [Dr (by omega)]
   exact hK hl _ rfl (by push_cast;exact hR)
 ·have:j=g.length:=by omega
  subst this
  rw [List.drop_length] at hR
  exact hR
theorem zt:Sound Try.prog 106 pL:=
 Sound.Kx Gc (Cg uu Dk) mixed Try.func106 (by kernel_rfl) (by kernel_rfl) λx h=>RM x.1 x.2.1 h
theorem RL (g:List (List Int)) (n:Int×Unit) (h:Rv g):fnW Hi (look [(106,pL)]) pK Try.f83 (g,n,()) (λ(z:Bool)=>z=List.any g (λp=>!Lj n.1 p)):=by
 refine Eq.mp (RY g n _) ⟨_,Af h,?_⟩
 rw [Bool.eq_iff_iff,Va]
 exact kf _ g 0 (Int.le_refl 0)
theorem zr:Sound Try.prog 83 pK:=
 Sound.Kx Gc (Cg zt Dk) mixed Try.func83 (by kernel_rfl) (by kernel_rfl) λx h=>RL x.1 x.2.1 h
theorem r7 (n:Int) (g:List (List Int)) (h:Rv g):fnW Hi (look [(49,Df),(83,pK)]) Jx Try.f59 (n,g,()) (λ(z:Bool)=>z=Lu n g):=by
 refine Eq.mp (sj n g _) ⟨_,Af trivial,⟨λhp=>?_,λhp=>?_⟩⟩
 ·have hp:Lt n 1 20=true:=hp
  rw [Eg] at hp
  refine Br.dec (λhl=>⟨_,Af h,?_⟩) λhl=>?_
  ·show (!List.any g (λp=>!Lj n p))=Lu n g
   cases ha:List.any g (λp=>!Lj n p) with
   |true=>
    obtain ⟨p,pa,xE⟩:=Dv.1 ha
    exact Du λhh=>by rw [hh.2.2 p pa] at xE;cases xE
   |false=>
    refine Rg ⟨hp,by omega,λp hm=>?_⟩
    have:=List.any_eq_false.1 ha p hm
    simpa using this
  ·exact Du λhh=>by have:=hh.2.1;omega
 ·refine Du λhh=>?_
  have:Lt n 1 20=true:=Eg.2 hh.1
  have hp:Lt n 1 20=false:=hp
  rw [this] at hp;cases hp
theorem jy:Sound Try.prog 59 Jx:=
 Sound.Kx Gc (Cg bE (Cg zr Dk)) mixed Try.func59 (by kernel_rfl) (by kernel_rfl) λx h=>r7 x.1 x.2.1 h
theorem Ka {s:ByteArray} {k:Nat} (h:k<s.size):s[k]?=some s[k]:=getElem?_pos s k h
theorem DI (s:ByteArray) (i:Int) (h:0<=i/\i<s.size/\s.size<=4294967296):fnW Hi (look []) aD Try.f90 (s,i,()) (λ(z:Bool)=>z=iv s i):=by
 obtain ⟨h1,h2,h3⟩:=h
 have hi:i.toNat<s.size:=by omega
 refine Eq.mp (EO s i _) ⟨h1,_,Ka hi,Br.dec (λhq=>?_) λhq=>⟨h1,_,Ka hi,Br.dec (λhr=>?_) λhr=>?_⟩⟩
 ·refine Du λ⟨c,hc,FZ,_⟩=>?_
  rw [Ka hi] at hc;cases hc;omega
 ·refine Du λ⟨c,hc,_,FZ,_⟩=>?_
  rw [Ka hi] at hc;cases hc;omega
 ·refine Cl i.toNat (λv=>v.1) (λj _=> ∀k,k<j->s[k]?≠some s[i.toNat]) rfl (λk hk=>absurd hk (cJ _)) ?_
  rintro j ⟨i',⟨⟩⟩ K hj k9 hR hK
  dsimp only at k9⊢
  subst k9
  refine Br.dec (λhl=>?_) λhl=>?_
  ·have hl:j<i.toNat:=by omega
   have hj:j<s.size:=by omega
   rw [Cq]
   refine ⟨by omega,_,Ka hj,h1,_,Ka hi,⟨λhe=>?_,λhe=>?_⟩⟩
   ·simp only [beq_iff_eq,Vv] at he
    refine Du λ⟨c,hc,_,_,FZ⟩=>?_
    rw [Ka hi] at hc;cases hc
    exact FZ j hl (by rw [Ka hj,UInt8.toNat_inj.1 he])
   ·simp only [bS,ne_eq,Vv] at he
    rw [Dr (by omega)]
    refine hK hl _ rfl λk hk=>?_
    by_cases e:k=j
    ·subst e
     rw [Ka hj]
     exact λe=>he (by rw [Aw e])
    ·exact hR k (by omega)
  ·have:j=i.toNat:=by omega
   subst this
   exact Rg ⟨_,Ka hi,by omega,by omega,hR⟩
theorem rR:Sound Try.prog 90 aD:=
 Sound.Kx Gc Dk mixed Try.func90 (by kernel_rfl) (by kernel_rfl) λx h=>DI x.1 x.2.1 h
theorem za (s:ByteArray) (h:s.size<=4294967296):fnW Hi (look [(49,Df)]) We Try.f60 (s,()) (λ(z:Bool)=>z=Wa s):=by
 refine Eq.mp (zJ s _) ?_
 refine Cl s.size (λv=>v.1) (λj _=> ∀k,k<j->pY s k) rfl (λk hk=>absurd hk (cJ _)) ?_
 rintro j ⟨i,⟨⟩⟩ K hj hi hR hK
 dsimp only at hi⊢
 subst hi
 refine Br.dec (λhl=>?_) λhl=>?_
 ·have hl:j<s.size:=by omega
  rw [Cq]
  have hb:=(s[j]).toNat_lt
  refine ⟨by omega,_,Ka hl,_,Af trivial,⟨λhq=>?_,λhq=>?_⟩⟩
  ·have hq:=Lo hq
   rw [Eg] at hq
   dsimp only at hq
   rw [En (by omega) (by omega)] at hq
   refine Du λhh=>?_
   obtain ⟨c,hc,FZ,NI,_⟩:=hh.2 j hl
   rw [Ka hl] at hc;cases hc
   exact hq ⟨by omega,by omega⟩
  ·have hq:=Gd hq
   rw [Eg] at hq
   dsimp only at hq
   rw [En (by omega) (by omega)] at hq
   refine Cl j (λv=>v.1) (λm _=> ∀k,k<m->s[k]?≠some s[j]) rfl (λk hk=>absurd hk (cJ _)) ?_
   rintro m ⟨i',⟨⟩⟩ K' hm k9 ZA hK'
   dsimp only at k9⊢
   subst k9
   refine Br.dec (λTu=>?_) λTu=>?_
   ·have Tu:m<j:=by omega
    have PR:m<s.size:=by omega
    rw [Cq]
    refine ⟨by omega,_,Ka PR,by omega,_,Ka hl,⟨λhe=>?_,λhe=>?_⟩⟩
    ·simp only [beq_iff_eq,Vv] at he
     refine Du λhh=>?_
     obtain ⟨c,hc,_,_,FZ⟩:=hh.2 j hl
     rw [Ka hl] at hc;cases hc
     exact FZ m Tu (by rw [Ka PR,UInt8.toNat_inj.1 he])
    ·simp only [bS,ne_eq,Vv] at he
     rw [Dr (by omega)]
     refine hK' Tu _ rfl λk hk=>?_
     by_cases e:k=m
     ·subst e
      rw [Ka PR]
      exact λe=>he (by rw [Aw e])
     ·exact ZA k (by omega)
   ·have:m=j:=by omega
    subst this
    rw [Dr (by omega)]
    refine hK hl _ rfl λk hk=>?_
    by_cases e:k=m
    ·subst e
     exact ⟨_,Ka hl,by omega,by omega,ZA⟩
    ·exact hR k (by omega)
 ·have:j=s.size:=by omega
  subst this
  refine ⟨_,Af trivial,?_⟩
  show Lt s.size 1 8=_
  cases hr:Lt s.size 1 8 with
  |true=>rw [Eg] at hr;exact Rg ⟨by omega,hR⟩
  |false=>refine Du λhh=>?_;rw [Eg.2 ⟨by omega,by omega⟩] at hr;cases hr
theorem oo:Sound Try.prog 60 We:=
 Sound.Kx Gc (Cg bE Dk) mixed Try.func60 (by kernel_rfl) (by kernel_rfl) λx h=>za x.1 h
theorem wZ {p:PP} (h:m_validP p=true):1<=p.1/\p.1<=20/\1<=p.2.2.1.length/\p.2.2.1.length<=8:=by
 obtain ⟨h1,h2,h3⟩:=Fz.1 h
 obtain ⟨h4,h5,_⟩:=Fz.1 h1
 obtain ⟨h6,_⟩:=Fz.1 h2
 omega
theorem ri (p:PP) (h:Zk p):fnW Hi (look [(34,Jx),(90,aD)]) Mu Try.f64 (p,()) (λ(z:Bool)=>z=m_validP p):=by
 obtain ⟨hn,hg⟩:=h
 refine Eq.mp (sq p _) ⟨λh0=>?_,λh0=>⟨λh1=>?_,λh1=>⟨_,Af hg,⟨λh2=>?_,λh2=>?_⟩⟩⟩⟩
 ·simp only [beq_iff_eq] at h0
  exact Du λhh=>by obtain ⟨_,h2,h3⟩:=hh;have:=(Fz.1 h2).1;omega
 ·simp only [bne_iff_ne,ne_eq,Vv] at h1
  exact Du λhh=>h1 hh.2.2
 ·have h2:=Lo h2
  exact Du λhh=>h2 hh.1
 ·simp only [bS,ne_eq] at h0
  simp only [bne_eq_false_iff_eq,Vv] at h1
  have h2:Lu p.1 p.2.2.1=true:=Gd h2
  refine Cl p.2.1.size (λv=>v.1) (λj v=>v.2=(p.1,p.2.1,p.2.2.1,())/\ ∀k,k<j->pY p.2.1 k) rfl ⟨rfl,λk hk=>absurd hk (cJ _)⟩ ?_
  rintro j ⟨i,v⟩ K hj hi ⟨hv,hR⟩ hK
  dsimp only at hi hv⊢
  subst hi hv
  dsimp only
  refine Br.dec (λhl=>?_) λhl=>?_
  ·have hl:j<p.2.1.size:=by omega
   refine ⟨_,Af ⟨Int.natCast_nonneg j,Int.ofNat_lt.2 hl,hn⟩,⟨λhq=>?_,λhq=>?_⟩⟩
   ·have hq: ¬iv p.2.1 j=true:=Lo hq
    refine Du λhh=>hq (Fz.2 ?_)
    rw [Cq]
    exact (Fz.1 hh.2.1).2 j hl
   ·have hq:iv p.2.1 j=true:=Gd hq
    have hq:=Fz.1 hq
    rw [Cq] at hq
    rw [Dr (by omega)]
    refine hK hl _ rfl ⟨rfl,λk hk=>?_⟩
    by_cases e:k=j
    ·subst e;exact hq
    ·exact hR k (by omega)
  ·have:j=p.2.1.size:=by omega
   subst this
   have:=(Fz.1 h2).2.1
   exact Rg ⟨h2,Fz.2 ⟨⟨by omega,by omega⟩,hR⟩,h1⟩
theorem jB:Sound Try.prog 64 Mu:=
 Sound.Kx Gc (Cg aF (Cg rR Dk)) mixed Try.func64 (by kernel_rfl) (by kernel_rfl) λx h=>ri x.1 h
theorem r9 (p:PP) (h:Zk p):fnW Hi (look [(59,Jx),(60,We)]) Mu Try.f23 (p,()) (λ(z:Bool)=>z=m_validP p):=by
 obtain ⟨hn,hg⟩:=h
 refine Eq.mp (sl p _) ⟨_,Af hg,⟨λh1=>⟨_,Af hn,⟨λh2=>?_,λh2=>?_⟩⟩,λh1=>?_⟩⟩
 ·have h1:Lu p.1 p.2.2.1=true:=h1
  have h2:Wa p.2.1=true:=h2
  by_cases e:p.2.1.size=p.2.2.1.length
  ·rw [e,beq_self_eq_true];exact Rg ⟨h1,h2,e⟩
  ·rw [show ((p.2.1.size:Int)==(p.2.2.1.length:Int))=false from bS.2 (by omega)];exact Du λhh=>e hh.2.2
 ·have h2:Wa p.2.1=false:=h2
  exact Du λhh=>by rw [hh.2.1] at h2;cases h2
 ·have h1:Lu p.1 p.2.2.1=false:=h1
  exact Du λhh=>by rw [hh.1] at h1;cases h1
theorem jz:Sound Try.prog 23 Mu:=
 Sound.Kx Gc (Cg jy (Cg oo Dk)) mixed Try.func23 (by kernel_rfl) (by kernel_rfl) λx h=>r9 x.1 h
def Gr (xs:List Int) (i:Int):Int:=xs.getD i.toNat 0
def As (p q:List Int):List Int:=p.map (Gr q)
def Yd (f:Nat->Nat) (g:Nat->Int) (m:Nat) (init:List Int):List Int:=(List.range m).foldl (λ(out:List Int) (i:Nat)=>out.set (f i) (g i)) init
def Bx (p:List Int):List Int:=Yd (λi=>(Gr p (i:Int)).toNat) (λi=>(i:Int)) p.length (List.replicate p.length 0)
def Ox (n:Nat) (p:List Int):Prop:= ∀y∈p,0<=y/\y<n
noncomputable abbrev Jo:Spec:=Kx (.pair tL (.pair tL .unit)) tL false true (λx=>List.length x.1<=20/\Ox (List.length x.2.1) x.1) (λx=>As x.1 x.2.1)
noncomputable abbrev Kl:Spec:=Kx (.pair tL .unit) tL false true (λx=>List.length x.1<=20/\Ox (List.length x.1) x.1) (λx=>Bx x.1)
noncomputable abbrev Tf:Spec:=Kx (.pair tI .unit) tL false true (λx=>0<=x.1/\x.1<=20) (λx=>upto x.1.toNat)
noncomputable abbrev Nf:Spec:=Kx (.pair tL .unit) tL false true (λx=>Hq x.1=true) (λx=>Bx x.1)
def Bm (g:List (List Int)) (l:Int):List Int:=if l>0 then g.getD (l-1).toNat [] else Bx (g.getD (-l-1).toNat [])
def Cc (n:Int) (l:Int):Prop:=l≠0/\ -n<=l/\l<=n
noncomputable abbrev Th:Spec:=Kx (.pair wV (.pair tI .unit)) tL false false (λx=>Cc (List.length x.1) x.2.1/\List.length x.1<=8/\ ∀p∈x.1,Hq p=true) (λx=>Bm x.1 x.2.1)
def Be (n:Nat):List Int:=(List.range n).flatMap λ(k:Nat)=> [(k:Int)+1,-((k:Int)+1)]
noncomputable abbrev Ti:Spec:=Kx (.pair tI .unit) tL false true (λx=>0<=x.1/\x.1<=8) (λx=>Be x.1.toNat)
noncomputable abbrev aB:Spec:=Kx (.pair Oq (.pair tL (.pair tI .unit))) tL false true (λx=>m_validP x.1=true/\List.length x.2.1<=20/\(∀y∈x.2.1,0<=y/\y<x.1.1)/\Cc (List.length x.1.2.2.1) x.2.2.1) (λx=>As x.2.1 (Bm x.1.2.2.1 x.2.2.1))
theorem oG (p q:List Int) (P:List Int->Prop):(((0:Int)<=(↑p.length:Int)/\(↑p.length:Int)<(↑Ga:Int)+(1:Int))/\(↑p.length:Int)=(↑p.length:Int)/\0=0/\(List.replicate (↑p.length:Int).toNat (Int.ofNat (nat_lit 0))).length=(List.replicate (↑p.length:Int).toNat (Int.ofNat (nat_lit 0))).length/\Gz (λ(v3:Int×List Int×PUnit) (k4:Int×List Int×PUnit->Prop)=>Br (decide (v3.1<(↑p.length:Int))) (∃(y5:Int),idx p v3.1=some y5/\ ∃(y6:Int),idx q y5=some y6/\((0:Int)<=v3.1/\v3.1<(↑v3.2.1.length:Int))/\0+v3.1.toNat<v3.2.1.length/\0=0/\v3.2.1.length=(v3.2.1.set (0+v3.1.toNat) y6).length/\k4 (IntKind.i64.wrap (v3.1+(1:Int)),v3.2.1.set (0+v3.1.toNat) y6,())) (P (List.take v3.2.1.length (List.drop 0 v3.2.1)))) ((0:Int),List.replicate (↑p.length:Int).toNat (Int.ofNat (nat_lit 0)),PUnit.unit))=fnW Hi (look []) Jo Try.f86 (p,q,()) P:=by kernel_rfl
theorem oH (p:List Int) (P:List Int->Prop):(((0:Int)<=(↑p.length:Int)/\(↑p.length:Int)<(↑Ga:Int)+(1:Int))/\(↑p.length:Int)=(↑p.length:Int)/\0=0/\(List.replicate (↑p.length:Int).toNat (Int.ofNat (nat_lit 0))).length=(List.replicate (↑p.length:Int).toNat (Int.ofNat (nat_lit 0))).length/\Gz (λ(v2:Int×List Int×PUnit) (k3:Int×List Int×PUnit->Prop)=>Br (decide (v2.1<(↑p.length:Int))) (∃(y4:Int),idx p v2.1=some y4/\((0:Int)<=y4/\y4<(↑v2.2.1.length:Int))/\0+y4.toNat<v2.2.1.length/\0=0/\v2.2.1.length=(v2.2.1.set (0+y4.toNat) v2.1).length/\k3 (IntKind.i64.wrap (v2.1+(1:Int)),v2.2.1.set (0+y4.toNat) v2.1,())) (P (List.take v2.2.1.length (List.drop 0 v2.2.1)))) ((0:Int),List.replicate (↑p.length:Int).toNat (Int.ofNat (nat_lit 0)),PUnit.unit))=fnW Hi (look []) Kl Try.f107 (p,()) P:=by kernel_rfl
theorem zM (p:List Int) (P:List Int->Prop):(((0:Int)<=(↑p.length:Int)/\(↑p.length:Int)<(↑Ga:Int)+(1:Int))/\(↑p.length:Int)=(↑p.length:Int)/\0=0/\(List.replicate (↑p.length:Int).toNat (Int.ofNat (nat_lit 0))).length=(List.replicate (↑p.length:Int).toNat (Int.ofNat (nat_lit 0))).length/\Gz (λ(v2:Int×List Int×PUnit) (k3:Int×List Int×PUnit->Prop)=>Br (decide (v2.1<(↑p.length:Int))) (∃(y4:Int),idx p v2.1=some y4/\((0:Int)<=y4/\y4<(↑v2.2.1.length:Int))/\0+y4.toNat<v2.2.1.length/\0=0/\v2.2.1.length=(v2.2.1.set (0+y4.toNat) v2.1).length/\k3 (IntKind.i64.wrap (v2.1+(1:Int)),v2.2.1.set (0+y4.toNat) v2.1,())) (P (List.take v2.2.1.length (List.drop 0 v2.2.1)))) ((0:Int),List.replicate (↑p.length:Int).toNat (Int.ofNat (nat_lit 0)),PUnit.unit))=fnW Hi (look []) Kl Try.f120 (p,()) P:=by kernel_rfl
theorem oJ (p:List Int) (P:List Int->Prop):(∃(y2:Bool),Hr.fn (p,())=some y2/\Br (!y2) (P (List.take 0 (List.drop 0 []))) (∃(y3:List Int),Kl.fn (p,())=some y3/\P y3))=fnW Hi (look [(67,Hr),(120,Kl)]) Nf Try.f99 (p,()) P:=by kernel_rfl
theorem x7 (n:Int) (P:List Int->Prop):(0=0/\0=([]:List Int).length/\Gz (λ(v2:Int×List Int×PUnit) (k3:Int×List Int×PUnit->Prop)=>Br (decide (v2.1<n)) (0=0/\v2.2.1.length=v2.2.1.length/\v2.2.1.length+(List.take 1 (List.drop 0 [v2.1])).length<=Ga/\0=0/\(v2.2.1++List.take 1 (List.drop 0 [v2.1])).length=(v2.2.1++List.take 1 (List.drop 0 [v2.1])).length/\k3 (IntKind.i64.wrap (v2.1+(1:Int)),v2.2.1++List.take 1 (List.drop 0 [v2.1]),())) (P (List.take v2.2.1.length (List.drop 0 v2.2.1)))) ((0:Int),[],PUnit.unit))=fnW Hi (look []) Tf Try.f58 (n,()) P:=by kernel_rfl
theorem x9 (g:List (List Int)) (l:Int) (P:List Int->Prop):(Br (decide (l>(0:Int))) (∃(y3:List Int),idx g (IntKind.i64.wrap (l-(1:Int)))=some y3/\P y3) (∃(y3:List Int),idx g (IntKind.i64.wrap (IntKind.i64.wrap ((0:Int)-l)-(1:Int)))=some y3/\ ∃(y4:List Int),Kl.fn (y3,())=some y4/\P y4))=fnW Hi (look [(107,Kl)]) Th Try.f87 (g,l,()) P:=by kernel_rfl
theorem zK (n:Int) (P:List Int->Prop):(0=0/\0=([]:List Int).length/\Gz (λ(v2:Int×List Int×PUnit) (k3:Int×List Int×PUnit->Prop)=>Br (decide (v2.1<n)) (0=0/\v2.2.1.length=v2.2.1.length/\v2.2.1.length+(List.take 2 (List.drop 0 [IntKind.i64.wrap (v2.1+(1:Int)),IntKind.i64.wrap ((0:Int)-IntKind.i64.wrap (v2.1+(1:Int)))])).length<=Ga/\0=0/\(v2.2.1++List.take 2 (List.drop 0 [IntKind.i64.wrap (v2.1+(1:Int)),IntKind.i64.wrap ((0:Int)-IntKind.i64.wrap (v2.1+(1:Int)))])).length=(v2.2.1++List.take 2 (List.drop 0 [IntKind.i64.wrap (v2.1+(1:Int)),IntKind.i64.wrap ((0:Int)-IntKind.i64.wrap (v2.1+(1:Int)))])).length/\k3 (IntKind.i64.wrap (v2.1+(1:Int)),v2.2.1++List.take 2 (List.drop 0 [IntKind.i64.wrap (v2.1+(1:Int)),IntKind.i64.wrap ((0:Int)-IntKind.i64.wrap (v2.1+(1:Int)))]),())) (P (List.take v2.2.1.length (List.drop 0 v2.2.1)))) ((0:Int),[],PUnit.unit))=fnW Hi (look []) Ti Try.f26 (n,()) P:=by kernel_rfl
theorem EK (p:Int×ByteArray×List (List Int)×Unit) (s:List Int) (l:Int) (P:List Int->Prop):(∃(y4:List Int),idx p.2.2.1 (IntKind.i64.wrap ((if true=true then if IntKind.i64.wrap ((0:Int)-l)>l then IntKind.i64.wrap ((0:Int)-l) else l else if IntKind.i64.wrap ((0:Int)-l)<l then IntKind.i64.wrap ((0:Int)-l) else l)-(1:Int)))=some y4/\Br (decide (l<(0:Int))) (∃(y5:List Int),Nf.fn (y4,())=some y5/\0=0/\0=([]:List Int).length/\Gz (λ(v6:Int×List Int×PUnit) (k7:Int×List Int×PUnit->Prop)=>Br (decide (v6.1<(↑s.length:Int))) (∃(y8:Int),idx s v6.1=some y8/\ ∃(y9:Int),idx y5 y8=some y9/\0=0/\v6.2.1.length=v6.2.1.length/\v6.2.1.length+(List.take 1 (List.drop 0 [y9])).length<=Ga/\0=0/\(v6.2.1++List.take 1 (List.drop 0 [y9])).length=(v6.2.1++List.take 1 (List.drop 0 [y9])).length/\k7 (IntKind.i64.wrap (v6.1+(1:Int)),v6.2.1++List.take 1 (List.drop 0 [y9]),())) (P (List.take v6.2.1.length (List.drop 0 v6.2.1)))) ((0:Int),[],PUnit.unit)) (0=0/\0=([]:List Int).length/\Gz (λ(v5:Int×List Int×PUnit) (k6:Int×List Int×PUnit->Prop)=>Br (decide (v5.1<(↑s.length:Int))) (∃(y7:Int),idx s v5.1=some y7/\ ∃(y8:Int),idx y4 y7=some y8/\0=0/\v5.2.1.length=v5.2.1.length/\v5.2.1.length+(List.take 1 (List.drop 0 [y8])).length<=Ga/\0=0/\(v5.2.1++List.take 1 (List.drop 0 [y8])).length=(v5.2.1++List.take 1 (List.drop 0 [y8])).length/\k6 (IntKind.i64.wrap (v5.1+(1:Int)),v5.2.1++List.take 1 (List.drop 0 [y8]),())) (P (List.take v5.2.1.length (List.drop 0 v5.2.1)))) ((0:Int),[],PUnit.unit)))=fnW Hi (look [(99,Nf)]) aB Try.f75 (p,s,l,()) P:=by kernel_rfl
theorem Kp {xs:List Int} {i:Nat} (h:i<xs.length):Gr xs (i:Int)=xs[i]:=by
 unfold Gr
 rw [Cq,An,Ac h];rfl
theorem ic {xs:List Int} {y:Int} (h0:0<=y) (h:y<xs.length):idx xs y=some (Gr xs y):=by
 have hy:y.toNat<xs.length:=by omega
 have e:y=(y.toNat:Int):=by omega
 rw [e,El hy,Kp hy]
theorem Vo (f:Nat->Nat) (g:Nat->Int) (m:Nat) (init:List Int):Yd f g (m+1) init=(Yd f g m init).set (f m) (g m):=by simp [Yd,List.range_succ]
theorem Ye (f:Nat->Nat) (g:Nat->Int) (m:Nat) (init:List Int):(Yd f g m init).length=init.length:=by
 induction m with
 |zero=>rfl
 |succ m ih=>rw [Vo,Eh,ih]
theorem jT (f:Nat->Nat) (g:Nat->Int) (init:List Int): ∀(m:Nat),(∀i j,i<m->j<m->f i=f j->i=j)-> ∀i,i<m->f i<init.length->(Yd f g m init)[f i]?=some (g i)
 |0,_,i,h,_=>absurd h (cJ _)
 |m+1,hf,i,hi,hl=>by
  rw [Vo]
  by_cases e:i=m
  ·subst e
   exact List.getElem?_set_self (by rw [Ye];exact hl)
  ·rw [List.getElem?_set_ne (λh=>e (hf i m hi (by omega) h.symm))]
   exact jT f g init m (λa b ha hb=>hf a b (by omega) (by omega)) i (by omega) hl
structure Wk (p:List Int):Prop where
 pos:1<=p.length
 len:p.length<=20
 row:Ox p.length p
 nodup:p.Nodup
theorem bq {p:List Int} (h:Hq p=true):Wk p:=by
 obtain ⟨h1,h2,h3⟩:=Fz.1 h
 refine ⟨h1,h2,λy hy=>?_,dy λj hj=>(h3 j hj hj).2.2⟩
 obtain ⟨j,hj,rfl⟩:=Db.1 hy
 have:=h3 j hj hj
 omega
theorem Wk.inj {p:List Int} (h:Wk p) (i j:Nat) (hi:i<p.length) (hj:j<p.length) (e:(Gr p (i:Int)).toNat=(Gr p (j:Int)).toNat):i=j:=by
 rw [Kp hi,Kp hj] at e
 have h1:=h.row _ (Ar hi)
 have h2:=h.row _ (Ar hj)
 have e:p[i]=p[j]:=by omega
 refine Cd λHs=>?_
 rcases Nat.lt_or_gt_of_ne Hs with hl|hl
 ·exact Fa.1 h.nodup i j hi hj hl e
 ·exact Fa.1 h.nodup j i hj hi hl e.symm
theorem Wk.yV {p:List Int} (h:Wk p) (k:Nat) (hk:k<p.length): ∃i,i<p.length/\(Gr p (i:Int)).toNat=k:=by
 have hm:=(Yz (xs:=p) h.row).2 (nz h.nodup) k hk
 obtain ⟨i,hi,e⟩:=Db.1 hm
 exact ⟨i,hi,by rw [Kp hi,e];exact Cq k⟩
theorem Wk.lt {p:List Int} (h:Wk p) {i:Nat} (hi:i<p.length):(Gr p (i:Int)).toNat<p.length:=by
 rw [Kp hi]
 have:=h.row _ (Ar hi)
 omega
theorem qF (p:List Int):(Bx p).length=p.length:=by unfold Bx;rw [Ye,Iq]
theorem CE {p:List Int} (h:Wk p) {i:Nat} (hi:i<p.length):(Bx p)[(Gr p (i:Int)).toNat]?=some (i:Int):=
 jT (λi=>(Gr p (i:Int)).toNat) (λi=>(i:Int)) _ p.length (λi j hi hj=>h.inj i j hi hj) i hi (by rw [Iq];exact h.lt hi)
theorem GP {p:List Int} (h:Wk p):Ox p.length (Bx p):=by
 intro y hy
 obtain ⟨k,hk,rfl⟩:=Db.1 hy
 have mc:k<p.length:=by rw [qF] at hk;exact hk
 obtain ⟨i,hi,rfl⟩:=h.yV k mc
 have:=CE h hi
 rw [Ac hk] at this
 rw [Aw this]
 omega
theorem Ya (p q:List Int):(As p q).length=p.length:=by simp [As]
theorem o5 (p q:List Int) (h:p.length<=20/\Ox q.length p):fnW Hi (look []) Jo Try.f86 (p,q,()) (λ(z:List Int)=>z=As p q):=by
 obtain ⟨h,hr⟩:=h
 refine Eq.mp (oG p q _) ?_
 refine ⟨⟨by omega,by show (p.length:Int)<(4294967296:Int)+1;omega⟩,rfl,rfl,rfl,?_⟩
 have Ol:=Ya p q
 refine Cl p.length (λv=>v.1) (λj v=>v.2.1.length=(As p q).length/\v.2.1.take j=(As p q).take j) rfl ⟨by rw [Ol];simp,by simp⟩ ?_
 rintro j ⟨i,ys,⟨⟩⟩ K hj hi ⟨h1,h2⟩ hK
 dsimp only at hi h1 h2⊢
 subst hi
 refine Br.dec (λhl=>?_) λhl=>?_
 ·have hl:j<p.length:=by omega
  have hy:=hr _ (Ar hl)
  refine ⟨_,El hl,_,ic hy.1 hy.2,⟨by omega,by omega⟩,by rw [Cq];omega,rfl,by rw [Eh],?_⟩
  rw [Dr (by omega),Cq,Dp]
  have Tu:j<(As p q).length:=by rw [Ol];exact hl
  have e:Gr q p[j]=(As p q)[j]:=by simp [As]
  rw [e]
  exact hK hl _ rfl ⟨by rw [Eh];exact h1,fu Tu h1 h2⟩
 ·have:j=p.length:=by omega
  subst this
  rw [<-Ol,Bj,<-h1,Bj] at h2
  rw [Kg,Bj]
  exact h2
theorem iH:Sound Try.prog 86 Jo:=
 Sound.Kx Gc Dk mixed Try.func86 (by kernel_rfl) (by kernel_rfl) λx h=>o5 x.1 x.2.1 h
theorem o6 (p:List Int) (h:p.length<=20/\Ox p.length p):fnW Hi (look []) Kl Try.f107 (p,()) (λ(z:List Int)=>z=Bx p):=by
 obtain ⟨h,hr⟩:=h
 refine Eq.mp (oH p _) ?_
 refine ⟨⟨by omega,by show (p.length:Int)<(4294967296:Int)+1;omega⟩,rfl,rfl,rfl,?_⟩
 refine Cl p.length (λv=>v.1) (λj v=>v.2.1=Yd (λi=>(Gr p (i:Int)).toNat) (λi=>(i:Int)) j (List.replicate p.length 0)) rfl rfl ?_
 rintro j ⟨i,ys,⟨⟩⟩ K hj hi h1 hK
 dsimp only at hi h1⊢
 subst hi
 have hlen:ys.length=p.length:=by rw [h1,Ye,Iq]
 refine Br.dec (λhl=>?_) λhl=>?_
 ·have hl:j<p.length:=by omega
  have hy:=hr _ (Ar hl)
  refine ⟨_,El hl,⟨by omega,by omega⟩,by omega,rfl,by rw [Eh],?_⟩
  rw [Dr (by omega),Dp]
  refine hK hl _ rfl ?_
  rw [Vo,<-h1,Kp hl]
 ·have:j=p.length:=by omega
  subst this
  rw [Kg,Bj]
  exact h1
theorem iI:Sound Try.prog 107 Kl:=
 Sound.Kx Gc Dk mixed Try.func107 (by kernel_rfl) (by kernel_rfl) λx h=>o6 x.1 h
theorem zd (p:List Int) (h:p.length<=20/\Ox p.length p):fnW Hi (look []) Kl Try.f120 (p,()) (λ(z:List Int)=>z=Bx p):=by
 obtain ⟨h,hr⟩:=h
 refine Eq.mp (zM p _) ?_
 refine ⟨⟨by omega,by show (p.length:Int)<(4294967296:Int)+1;omega⟩,rfl,rfl,rfl,?_⟩
 refine Cl p.length (λv=>v.1) (λj v=>v.2.1=Yd (λi=>(Gr p (i:Int)).toNat) (λi=>(i:Int)) j (List.replicate p.length 0)) rfl rfl ?_
 rintro j ⟨i,ys,⟨⟩⟩ K hj hi h1 hK
 dsimp only at hi h1⊢
 subst hi
 have hlen:ys.length=p.length:=by rw [h1,Ye,Iq]
 refine Br.dec (λhl=>?_) λhl=>?_
 ·have hl:j<p.length:=by omega
  have hy:=hr _ (Ar hl)
  refine ⟨_,El hl,⟨by omega,by omega⟩,by omega,rfl,by rw [Eh],?_⟩
  rw [Dr (by omega),Dp]
  refine hK hl _ rfl ?_
  rw [Vo,<-h1,Kp hl]
 ·have:j=p.length:=by omega
  subst this
  rw [Kg,Bj]
  exact h1
theorem ov:Sound Try.prog 120 Kl:=
 Sound.Kx Gc Dk mixed Try.func120 (by kernel_rfl) (by kernel_rfl) λx h=>zd x.1 h
theorem o8 (p:List Int) (h:Hq p=true):fnW Hi (look [(67,Hr),(120,Kl)]) Nf Try.f99 (p,()) (λ(z:List Int)=>z=Bx p):=by
 have hp:=bq h
 have hs:short p:=by have:=hp.len;unfold short;omega
 refine Eq.mp (oJ p _) ⟨_,Af hs,⟨λhe=>?_,λ_=>⟨_,Af ⟨hp.len,hp.row⟩,rfl⟩⟩⟩
 exact absurd h (Lo he)
theorem iK:Sound Try.prog 99 Nf:=
 Sound.Kx Gc (Cg aG (Cg ov Dk)) mixed Try.func99 (by kernel_rfl) (by kernel_rfl) λx h=>o8 x.1 h
theorem Wi (j:Nat):upto (j+1)=upto j++ [(j:Int)]:=by simp [upto,List.range_succ]
theorem wk (n:Int) (h:0<=n/\n<=20):fnW Hi (look []) Tf Try.f58 (n,()) (λ(z:List Int)=>z=upto n.toNat):=by
 refine Eq.mp (x7 n _) ⟨rfl,rfl,?_⟩
 refine Cl n.toNat (λv=>v.1) (λj v=>v.2.1=upto j) rfl rfl ?_
 rintro j ⟨i,ys,⟨⟩⟩ K hj hi h1 hK
 dsimp only at hi h1⊢
 subst hi h1
 refine Br.dec (λhl=>?_) λhl=>?_
 ·refine ⟨rfl,rfl,?_,rfl,rfl,?_⟩
  ·show (upto j).length+1<=4294967296
   rw [Ps];omega
  ·rw [Dr (by omega)]
   exact hK (by omega) _ rfl (Wi j).symm
 ·have:j=n.toNat:=by omega
  subst this
  rw [Kg,Bj]
theorem ng:Sound Try.prog 58 Tf:=
 Sound.Kx Gc Dk mixed Try.func58 (by kernel_rfl) (by kernel_rfl) λx h=>wk x.1 h
theorem It {g:List (List Int)} {k:Nat} (h:k<g.length):Bm g ((k:Int)+1)=g[k]:=by
 unfold Bm
 rw [Af (by omega),show ((k:Int)+1-1).toNat=k by omega,An,Ac h];rfl
theorem Lf {g:List (List Int)} {k:Nat} (h:k<g.length):Bm g (-((k:Int)+1))=Bx g[k]:=by
 unfold Bm
 rw [Aj (by omega),show (-(-((k:Int)+1))-1).toNat=k by omega,An,Ac h];rfl
theorem Mk {n:Nat} {l:Int} (h:Cc n l): ∃k:Nat,k<n/\(l=(k:Int)+1\/l= -((k:Int)+1)):=by
 obtain ⟨h1,h2,h3⟩:=h
 by_cases h0:0<l
 ·exact ⟨(l-1).toNat,by omega, .inl (by omega)⟩
 ·exact ⟨(-l-1).toNat,by omega, .inr (by omega)⟩
theorem wo (g:List (List Int)) (l:Int) (h:Cc (List.length g) l/\List.length g<=8/\ ∀p∈g,Hq p=true):fnW Hi (look [(107,Kl)]) Th Try.f87 (g,l,()) (λ(z:List Int)=>z=Bm g l):=by
 obtain ⟨hl,h8,hp⟩:=h
 refine Eq.mp (x9 g l _) ?_
 obtain ⟨k,hk,rfl|rfl⟩:=Mk hl
 ·refine Br.dec (λ_=>?_) λhn=>by omega
  rw [En (by omega) (by omega),show (k:Int)+1-1=(k:Int) by omega]
  exact ⟨_,El hk,(It hk).symm⟩
 ·refine Br.dec (λhn=>by omega) λ_=>?_
  rw [En (n:=0- -((k:Int)+1)) (by omega) (by omega),En (by omega) (by omega),show (0:Int)- -((k:Int)+1)-1=(k:Int) by omega]
  have:=bq (hp _ (Ar hk))
  exact ⟨_,El hk,_,Af ⟨this.len,this.row⟩,(Lf hk).symm⟩
theorem nj:Sound Try.prog 87 Th:=
 Sound.Kx Gc (Cg iI Dk) mixed Try.func87 (by kernel_rfl) (by kernel_rfl) λx h=>wo x.1 x.2.1 h
theorem dv (j:Nat):Be (j+1)=Be j++ [(j:Int)+1,-((j:Int)+1)]:=by simp [Be,List.range_succ,List.flatMap_append]
theorem Tv (j:Nat):(Be j).length=2*j:=by
 induction j with
 |zero=>rfl
 |succ j ih=>rw [dv,Cf,ih];simp only [Bf,Jb];omega
theorem Qp {n:Nat} {l:Int} (h:l∈Be n):Cc n l:=by
 unfold Be at h
 obtain ⟨k,hk,hl⟩:=Mb.1 h
 have hk:=Ho.1 hk
 simp only [Ay,List.not_mem_nil,or_false] at hl
 unfold Cc
 omega
theorem zb (n:Int) (h:0<=n/\n<=8):fnW Hi (look []) Ti Try.f26 (n,()) (λ(z:List Int)=>z=Be n.toNat):=by
 refine Eq.mp (zK n _) ⟨rfl,rfl,?_⟩
 refine Cl n.toNat (λv=>v.1) (λj v=>v.2.1=Be j) rfl rfl ?_
 rintro j ⟨i,ys,⟨⟩⟩ K hj hi h1 hK
 dsimp only at hi h1⊢
 subst hi h1
 refine Br.dec (λhl=>?_) λhl=>?_
 ·refine ⟨rfl,rfl,?_,rfl,rfl,?_⟩
  ·show (Be j).length+2<=4294967296
   rw [Tv];omega
  ·have e1:IntKind.i64.wrap ((j:Int)+1)=(j:Int)+1:=En (by omega) (by omega)
   have e2:IntKind.i64.wrap ((0:Int)-((j:Int)+1))= -((j:Int)+1):=by rw [En (by omega) (by omega)];omega
   rw [e1,e2]
   exact hK (by omega) _ rfl (dv j).symm
 ·have:j=n.toNat:=by omega
  subst this
  rw [Kg,Bj]
theorem oq:Sound Try.prog 26 Ti:=
 Sound.Kx Gc Dk mixed Try.func26 (by kernel_rfl) (by kernel_rfl) λx h=>zb x.1 h
structure Valid (p:PP):Prop where
 n:1<=p.1/\p.1<=20
 AY:1<=p.2.2.1.length/\p.2.2.1.length<=8
 perm: ∀m∈p.2.2.1,Hq m=true
 len: ∀m∈p.2.2.1,(m.length:Int)=p.1
theorem valid {p:PP} (h:m_validP p=true):Valid p:=by
 have h0:=wZ h
 obtain ⟨h1,_,_⟩:=Fz.1 h
 obtain ⟨_,_,h4⟩:=Fz.1 h1
 exact ⟨⟨h0.1,h0.2.1⟩,h0.2.2,λm hm=>(Fz.1 (h4 m hm)).2,λm hm=>(Fz.1 (h4 m hm)).1⟩
theorem yM {p:PP} (h:Valid p) {l:Int} (hl:Cc (List.length p.2.2.1) l):((Bm p.2.2.1 l).length:Int)=p.1/\Ox (Bm p.2.2.1 l).length (Bm p.2.2.1 l):=by
 obtain ⟨k,hk,rfl|rfl⟩:=Mk hl
 ·rw [It hk]
  exact ⟨h.len _ (Ar hk),(bq (h.perm _ (Ar hk))).row⟩
 ·rw [Lf hk,qF]
  exact ⟨h.len _ (Ar hk),GP (bq (h.perm _ (Ar hk)))⟩
theorem sD (s y:List Int) (P:List Int->Prop) (h1:s.length<=20) (h2:Ox y.length s) (h3:P (As s y)):
  Gz
   (λ(v5:Int×List Int×PUnit) (k6:Int×List Int×PUnit->Prop)=>
    Br (decide (v5.1<(↑s.length:Int)))
     (∃(y7:Int),
      idx s v5.1=some y7/\
       ∃(y8:Int),
        idx y y7=some y8/\
         (0:Nat)=(0:Nat)/\
          v5.2.1.length=v5.2.1.length/\
           v5.2.1.length+(List.take (1:Nat) (List.drop (0:Nat) [y8])).length<=Ga/\
            (0:Nat)=(0:Nat)/\
             (v5.2.1++List.take (1:Nat) (List.drop (0:Nat) [y8])).length=(v5.2.1++List.take (1:Nat) (List.drop (0:Nat) [y8])).length/\
              k6 (IntKind.i64.wrap (v5.1+(1:Int)),v5.2.1++List.take (1:Nat) (List.drop (0:Nat) [y8]),()))
     (P (List.take v5.2.1.length (List.drop (0:Nat) v5.2.1))))
   ((0:Int),([]:List Int),PUnit.unit):=by
 refine Cl s.length (λv=>v.1) (λj v=>v.2.1=(s.take j).map (Gr y)) rfl (by simp) ?_
 rintro j ⟨i,ys,⟨⟩⟩ K hj hi hR hK
 dsimp only at hi hR⊢
 subst hi hR
 refine Br.dec (λhl=>?_) λhl=>?_
 ·have hl:j<s.length:=by omega
  have hy:=h2 _ (Ar hl)
  refine ⟨_,El hl,_,ic hy.1 hy.2,rfl,rfl,?_,rfl,rfl,?_⟩
  ·show ((s.take j).map (Gr y)).length+1<=4294967296
   rw [Nl,Ed];omega
  ·rw [Dr (by omega)]
   refine hK hl _ rfl ?_
   dsimp only
   rw [Cr hl,Vw]
   rfl
 ·have:j=s.length:=by omega
  subst this
  rw [Kg,Bj,Bj]
  exact h3
theorem DE (p:PP) (s:List Int) (l:Int) (h:m_validP p=true/\List.length s<=20/\(∀y∈s,0<=y/\y<p.1)/\Cc (List.length p.2.2.1) l):fnW Hi (look [(99,Nf)]) aB Try.f75 (p,s,l,()) (λ(z:List Int)=>z=As s (Bm p.2.2.1 l)):=by
 obtain ⟨hv,hs,hr,hl⟩:=h
 have hv:=valid hv
 have hf:=hv.AY
 refine Eq.mp (EK p s l _) ?_
 have BM:=yM hv hl
 have bf:Ox (Bm p.2.2.1 l).length s:= λy hy=>by have:=hr y hy;omega
 obtain ⟨k,hk,rfl|rfl⟩:=Mk hl
 ·rw [Af rfl,En (n:=0-((k:Int)+1)) (by omega) (by omega),Aj (by omega),En (by omega) (by omega),show (k:Int)+1-1=(k:Int) by omega]
  refine ⟨_,El hk,Br.dec (λhn=>by omega) λ_=>⟨rfl,rfl,?_⟩⟩
  rw [It hk] at bf⊢
  exact sD s _ (λz=>z=As s p.2.2.1[k]) hs bf rfl
 ·rw [Af rfl,En (n:=0- -((k:Int)+1)) (by omega) (by omega),Af (by omega),En (by omega) (by omega),show (0:Int)- -((k:Int)+1)-1=(k:Int) by omega]
  refine ⟨_,El hk,Br.dec (λ_=>⟨_,Af (hv.perm _ (Ar hk)),rfl,rfl,?_⟩) λhn=>by omega⟩
  rw [Lf hk] at bf⊢
  exact sD s (Bx p.2.2.1[k]) (λz=>z=As s (Bx p.2.2.1[k])) hs bf rfl
theorem rN:Sound Try.prog 75 aB:=
 Sound.Kx Gc (Cg iK Dk) mixed Try.func75 (by kernel_rfl) (by kernel_rfl) λx h=>DE x.1 x.2.1 x.2.2.1 h
abbrev rL:CK:= .row tI 2
def low (k:Int):Prop:=0<=k/\k<=1099511627776
theorem Ou {α:Type} (xs:List α):List.take xs.length (List.drop 0 xs)=xs:=by rw [Kg,Bj]
noncomputable abbrev Tc:Spec:=Kx (.pair tL .unit) tL false true (λx=>short x.1) (λx=>x.1)
theorem x5 (xs:List Int) (P:List Int->Prop):(0=0/\0=([]:List Int).length/\0+xs.length<=Ga/\P (List.take ([]++xs).length (List.drop 0 ([]++xs))))=fnW Hi (look []) Tc Try.f92 (xs,()) P:=by kernel_rfl
theorem wi (xs:List Int) (h:short xs):fnW Hi (look []) Tc Try.f92 (xs,()) (λ(z:List Int)=>z=xs):=by
 unfold short at h
 refine Eq.mp (x5 xs _) ⟨rfl,rfl,by show 0+xs.length<=4294967296;omega,?_⟩
 simp only [Ou,List.nil_append]
theorem nd:Sound Try.prog 92 Tc:=
 Sound.Kx Gc Dk mixed Try.func92 (by kernel_rfl) (by kernel_rfl) λx h=>wi x.1 h
def Jk (xs:List Int):ByteArray:=bytesOf (xs.map λx=>IntKind.u8.wrap x)
noncomputable abbrev Mo:Spec:=Kx (.pair tL .unit) .str false true (λx=>short x.1) (λx=>Jk x.1)
def iA (ps:List (List Int)) (p:List Int):Int:=Iv (λq=>decide (q=p)) ps 0
theorem xb (xs:List Int) (P:ByteArray->Prop):(((0:Int)<=(↑xs.length:Int)/\(↑xs.length:Int)<(↑Ga:Int)+(1:Int))/\(↑xs.length:Int)=(↑xs.length:Int)/\0=0/\(List.replicate (↑xs.length:Int).toNat (Int.ofNat (nat_lit 0))).length=(List.replicate (↑xs.length:Int).toNat (Int.ofNat (nat_lit 0))).length/\Gz (λ(v2:Int×List Int×PUnit) (k3:Int×List Int×PUnit->Prop)=>Br (decide (v2.1<(↑xs.length:Int))) (∃(y4:Int),idx xs v2.1=some y4/\((0:Int)<=v2.1/\v2.1<(↑v2.2.1.length:Int))/\0+v2.1.toNat<v2.2.1.length/\0=0/\v2.2.1.length=(v2.2.1.set (0+v2.1.toNat) (IntKind.u8.wrap y4)).length/\k3 (IntKind.i64.wrap (v2.1+(1:Int)),v2.2.1.set (0+v2.1.toNat) (IntKind.u8.wrap y4),())) (P (bytesOf (List.take v2.2.1.length (List.drop 0 v2.2.1))))) ((0:Int),List.replicate (↑xs.length:Int).toNat (Int.ofNat (nat_lit 0)),PUnit.unit))=fnW Hi (look []) Mo Try.f24 (xs,()) P:=by kernel_rfl
theorem wu (xs:List Int) (h:short xs):fnW Hi (look []) Mo Try.f24 (xs,()) (λ(z:ByteArray)=>z=Jk xs):=by
 unfold short at h
 refine Eq.mp (xb xs _) ?_
 refine ⟨⟨by omega,by show (xs.length:Int)<(4294967296:Int)+1;omega⟩,rfl,rfl,rfl,?_⟩
 have Ol:(xs.map λx=>IntKind.u8.wrap x).length=xs.length:=by simp
 refine Cl xs.length (λv=>v.1) (λj v=>v.2.1.length=(xs.map λx=>IntKind.u8.wrap x).length/\v.2.1.take j=(xs.map λx=>IntKind.u8.wrap x).take j) rfl ⟨by rw [Ol];simp,by simp⟩ ?_
 rintro j ⟨i,ys,⟨⟩⟩ K hj hi ⟨h1,h2⟩ hK
 dsimp only at hi h1 h2⊢
 subst hi
 refine Br.dec (λhl=>?_) λhl=>?_
 ·have hl:j<xs.length:=by omega
  refine ⟨_,El hl,⟨by omega,by omega⟩,by rw [Cq];omega,rfl,by rw [Eh],?_⟩
  rw [Dr (by omega),Cq,Dp]
  have Tu:j<(xs.map λx=>IntKind.u8.wrap x).length:=by rw [Ol];exact hl
  have e:IntKind.u8.wrap xs[j]=(xs.map λx=>IntKind.u8.wrap x)[j]:=by simp
  rw [e]
  exact hK hl _ rfl ⟨by rw [Eh];exact h1,fu Tu h1 h2⟩
 ·have:j=xs.length:=by omega
  subst this
  rw [<-Ol,Bj,<-h1,Bj] at h2
  rw [Kg,Bj,h2];rfl
theorem nm:Sound Try.prog 24 Mo:=
 Sound.Kx Gc Dk mixed Try.func24 (by kernel_rfl) (by kernel_rfl) λx h=>wu x.1 h
theorem c9 {α:Type} (P:α->Bool) (y:α): ∀(l:List α) (i:Int),0<=i->Iv P (l++ [y]) i=if Iv P l i<0 then (if P y=true then i+l.length else-1) else Iv P l i
 | [],i,_=>by simp [Iv]
 |x::r,i,h=>by
  simp only [Ov,Iv,Bf]
  split
  ·rw [Aj (by omega)]
  ·rw [c9 P y r (i+1) (by omega),show i+1+(r.length:Int)=i+((r.length+1:Nat):Int) by push_cast;omega]
theorem rm (ps:List (List Int)) (q p:List Int):iA (ps++ [q]) p=if iA ps p<0 then (if q=p then (ps.length:Int) else-1) else iA ps p:=by
 unfold iA
 rw [c9 _ _ _ _ (Int.le_refl 0)]
 simp only [Ra,Int.zero_add]
def eL (p:List Int):Prop:= ∀x∈p,0<=x/\x<256
theorem AQ {x y:Int} (hx:0<=x/\x<256) (hy:0<=y/\y<256) (h:UInt8.ofNat (IntKind.u8.wrap x).toNat=UInt8.ofNat (IntKind.u8.wrap y).toNat):x=y:=by
 have h:=Fh UInt8.toNat h
 simp only [IntKind.wrap_u8,UInt8.toNat_ofNat'] at h
 omega
theorem bytes_inj: ∀(p q:List Int),eL p->eL q->(p.map λx=>UInt8.ofNat (IntKind.u8.wrap x).toNat)=(q.map λx=>UInt8.ofNat (IntKind.u8.wrap x).toNat)->p=q
 | [],[],_,_,_=>rfl
 | [],_::_,_,_,h=>by simp at h
 |_::_,[],_,_,h=>by simp at h
 |x::p,y::q,hp,hq,h=>by
  simp only [Bl,Es] at h
  rw [AQ (hp x (by simp)) (hq y (by simp)) h.1,bytes_inj p q (λz hz=>hp z (by simp [hz])) (λz hz=>hq z (by simp [hz])) h.2]
theorem key_inj {p q:List Int} (hp:eL p) (hq:eL q) (h:Jk p=Jk q):p=q:=by
 refine bytes_inj p q hp hq ?_
 simp only [Jk,bytesOf,ByteArray.mk.injEq,List.map_map] at h
 have h:=Fh Array.toList h
 simpa [Function.comp_def] using h
def KM (m:ByteArray->Option Int) (ps:List (List Int)):Prop:= ∀p,eL p->m (Jk p)=if iA ps p<0 then none else some (iA ps p)
theorem KM.nil:KM (λ_=>none) []:= λp _=>by
 rw [Af (by unfold iA;simp [Iv])]
theorem KM.add {m:ByteArray->Option Int} {ps:List (List Int)} {q:List Int} (h:KM m ps) (hq:eL q) (hn:iA ps q<0):KM (Sb m (Jk q) (ps.length:Int)) (ps++ [q]):=by
 intro p hp
 rw [rm]
 unfold Sb
 by_cases e:p=q
 ·subst e
  rw [Af rfl,Af hn,Af rfl,Aj (by omega)]
 ·rw [Aj (λhk=>e (key_inj hp hq hk)),h p hp]
  have e': ¬q=p:= λh=>e h.symm
  rw [Aj e']
  by_cases yD:iA ps p<0
  ·rw [Af yD,Af yD,Af (by decide)]
  ·rw [Aj yD,Aj yD,Aj yD]
def yU (m l:Int):Bool:=decide (l≠0/\ -m<=l/\l<=m)
def gI (n:Int):Int:=if 8<n then 8 else n
def Fq (n:Int) (w:List Int):Bool:=decide (w.length<=200)&&!(List.any w λy=>!yU (gI n) y)
noncomputable abbrev Mv:Spec:=Kx (.pair tI (.pair tL .unit)) .bool false true (λx=>short x.2.1/\0<=x.1/\x.1<=4294967296) (λx=>Fq x.1 x.2.1)
theorem x8 (n:Int) (w:List Int) (P:Bool->Prop):(Br (decide ((↑w.length:Int)>(200:Int))) (P false) (Gz (λ(v3:Int×PUnit) (k4:Int×PUnit->Prop)=>Br (decide (v3.1<(↑w.length:Int))) (∃(y5:Int),idx w v3.1=some y5/\Br (y5==(0:Int)) (P false) (∃(y6:Int),idx w v3.1=some y6/\ ∃(y7:Bool),Df.fn (y6,(-8:Int),(8:Int),())=some y7/\Br (!y7) (P false) (∃(y8:Int),idx w v3.1=some y8/\Br (decide (y8>n)) (P false) (∃(y9:Int),idx w v3.1=some y9/\Br (decide (IntKind.i64.wrap ((0:Int)-y9)>n)) (P false) (k4 (IntKind.i64.wrap (v3.1+(1:Int)),())))))) (P true)) ((0:Int),PUnit.unit)))=fnW Hi (look [(39,Df)]) Mv Try.f91 (n,w,()) P:=by kernel_rfl
theorem sr (n:Int) (w:List Int) (P:Bool->Prop):(∃(y3:Bool),Mv.fn (n,w,())=some y3/\P y3)=fnW Hi (look [(91,Mv)]) Mv Try.f65 (n,w,()) P:=by kernel_rfl
theorem GX {m l:Int} :yU m l=true↔l≠0/\ -m<=l/\l<=m:=Va
theorem qZ {n l:Int} (hn:0<=n):yU (gI n) l=true↔l≠0/\(-8<=l/\l<=8)/\l<=n/\ -l<=n:=by
 rw [GX];unfold gI;split<;>omega
theorem wm (n:Int) (w:List Int) (h:short w/\0<=n/\n<=4294967296):fnW Hi (look [(39,Df)]) Mv Try.f91 (n,w,()) (λ(z:Bool)=>z=Fq n w):=by
 refine Eq.mp (x8 n w _) (Br.dec (λhl=>?_) λhl=>?_)
 ·unfold Fq
  rw [La (by omega),Bool.false_and]
 ·have e0:Fq n w=!(List.any w λy=>!yU (gI n) y):=by unfold Fq;rw [Ct (by omega),Bool.true_and]
  have bad: ∀(j:Nat) (hj:j<w.length),¬(w[j]≠0/\(-8<=w[j]/\w[j]<=8)/\w[j]<=n/\ -w[j]<=n)->false=Fq n w:= λj hj hn=>by
   rw [e0]
   have:(List.any w λy=>!yU (gI n) y)=true:=Dv.2 ⟨w[j],Ar hj,by
    have:yU (gI n) w[j]=false:=Bool.eq_false_iff.2 λht=>hn ((qZ h.2.1).1 ht)
    rw [this];rfl⟩
   rw [this];rfl
  refine Cl w.length (λv=>v.1) (λj _=> ∀y∈w.take j,yU (gI n) y=true) rfl (by simp) ?_
  rintro j ⟨i,⟨⟩⟩ K hj hi hR hK
  dsimp only at hi⊢
  subst hi
  refine Br.dec (λhl=>?_) λhl=>?_
  ·have hl:j<w.length:=by omega
   refine ⟨_,El hl,⟨λhz=>?_,λhz=>⟨_,El hl,_,Af trivial,⟨λhq=>?_,λhq=>⟨_,El hl,Br.dec (λhg=>?_) λhg=>⟨_,El hl,Br.dec (λhm=>?_) λhm=>?_⟩⟩⟩⟩⟩⟩
   ·simp only [beq_iff_eq] at hz
    exact bad j hl λhh=>hh.1 hz
   ·have hq:=Lo hq
    rw [Eg] at hq
    exact bad j hl λhh=>hq hh.2.1
   ·exact bad j hl λhh=>absurd hh.2.2.1 (by omega)
   ·have hq:=Gd hq
    rw [Eg] at hq
    dsimp only at hq
    rw [En (by omega) (by omega)] at hm
    exact bad j hl λhh=>absurd hh.2.2.2 (by omega)
   ·have hq:=Gd hq
    rw [Eg] at hq
    dsimp only at hq
    simp only [bS,ne_eq] at hz
    rw [En (by omega) (by omega)] at hm
    rw [Dr (by omega)]
    refine hK hl _ rfl ?_
    rw [Cr hl]
    intro y hy
    rcases Av.1 hy with hy|hy
    ·exact hR y hy
    ·rw [Ad.1 hy]
     exact (qZ h.2.1).2 ⟨hz,hq,by omega,by omega⟩
  ·have:j=w.length:=by omega
   subst this
   rw [Bj] at hR
   rw [e0]
   have:(List.any w λy=>!yU (gI n) y)=false:=by
    refine Bool.eq_false_iff.2 λht=>?_
    obtain ⟨y,hy,h1⟩:=Dv.1 ht
    rw [hR y hy] at h1
    cases h1
   rw [this];rfl
theorem nh:Sound Try.prog 91 Mv:=
 Sound.Kx Gc (Cg Ua Dk) mixed Try.func91 (by kernel_rfl) (by kernel_rfl) λx h=>wm x.1 x.2.1 h
theorem rj (n:Int) (w:List Int) (h:short w/\0<=n/\n<=4294967296):fnW Hi (look [(91,Mv)]) Mv Try.f65 (n,w,()) (λ(z:Bool)=>z=Fq n w):=Eq.mp (sr n w _) ⟨_,Af h,rfl⟩
theorem jC:Sound Try.prog 65 Mv:=
 Sound.Kx Gc (Cg nh Dk) mixed Try.func65 (by kernel_rfl) (by kernel_rfl) λx h=>rj x.1 x.2.1 h
theorem Zn {n:Nat} {w:List Int} (h:Fq (n:Int) w=true):w.length<=200/\ ∀y∈w,Cc n y:=by
 unfold Fq at h
 simp only [Ag,Ra,Ds] at h
 refine ⟨h.1,λy hy=>?_⟩
 have h1:yU (gI n) y=true:=by
  cases ho:yU (gI n) y with
  |true=>rfl
  |false=>
   have h2:(List.any w λy=>!yU (gI (n:Int)) y)=true:=Dv.2 ⟨y,hy,by rw [ho];rfl⟩
   rw [h.2] at h2;cases h2
 have:=(qZ (by omega)).1 h1
 unfold Cc
 omega
abbrev rLL:CK:= .row tL 33
def qP (v:Int):List Int->Nat
 | []=>0
 |x::r=>if x>v then qP v r+1 else 0
def GU (v:Int) (t:List Int):Option (List Int):=if qP v t=0 then none else some (Gr t ((qP v t-1:Nat):Int)::(t.set (qP v t-1) v).reverse)
def dw:List Int->Option (List Int)
 | []=>none
 |v::t=>match dw t with
  |some t'=>some (v::t')
  |none=>GU v t
theorem tX {s s':List Int} (h:dw s=some s'): ∀pre:List Int,dw (pre++s)=some (pre++s')
 | []=>h
 |v::p=>by rw [Ov,dw,tX h p];rfl
inductive xh:List Int->List (List Int)->List Int->Prop where
 |one (a:List Int):xh a [a] a
 |more {a c b:List Int} {L:List (List Int)} :dw a=some c->xh c L b->xh a (a::L) b
theorem xh.cons {a b:List Int} {L:List (List Int)} (h:xh a L b) (v:Int):xh (v::a) (L.map (v:: ·)) (v::b):=by
 induction h with
 |one a=>exact .one _
 |more h3 _ ih=>exact .more (tX h3 [v]) ih
theorem xh.head {a b:List Int} {L:List (List Int)} (h:xh a L b): ∃M,L=a::M:=by
 cases h with
 |one=>exact ⟨_,rfl⟩
 |more _ _=>exact ⟨_,rfl⟩
theorem xh.at {a b:List Int} {L:List (List Int)} (h:xh a L b): ∀j (hj:j<L.length),(∀h2:j+1<L.length,dw L[j]=some L[j+1])/\(j+1=L.length->L[j]=b):=by
 induction h with
 |one a=>
  intro j hj
  simp only [Ex] at hj
  have:j=0:=by omega
  subst this
  exact ⟨λh2=>by simp at h2,λ_=>rfl⟩
 |more h3 h4 ih=>
  intro j hj
  rcases j with _|j
  ·obtain ⟨M,hM⟩:=h4.head
   refine ⟨λh2=>?_,λh2=>?_⟩
   ·simp only [List.getElem_cons_zero,List.getElem_cons_succ]
    subst hM
    exact h3
   ·subst hM;simp at h2
  ·have:=ih j (by simpa using hj)
   refine ⟨λh2=>?_,λh2=>?_⟩
   ·simp only [List.getElem_cons_succ]
    exact this.1 (by simpa using h2)
   ·simp only [List.getElem_cons_succ]
    exact this.2 (by simpa using h2)
theorem xh.distinct {a b:List Int} {L:List (List Int)} (h:xh a L b) (hb:dw b=none): ∀k i j (hi:i<L.length) (hj:j<L.length),L.length-j=k->i<j->L[i]≠L[j]:=by
 intro k
 induction k with
 |zero=>intro i j hi hj hk;omega
 |succ k ih=>
  intro i j hi hj hk fW he
  by_cases e:j+1<L.length
  ·have h1:=(h.at i hi).1 (by omega)
   have h2:=(h.at j hj).1 e
   rw [he,h2] at h1
   exact ih (i+1) (j+1) (by omega) e (by omega) (by omega) (Aw h1).symm
  ·have h1:=(h.at i hi).1 (by omega)
   have h2:=(h.at j hj).2 (by omega)
   rw [he,h2,hb] at h1
   cases h1
theorem xh.idx {a b:List Int} {L:List (List Int)} (h:xh a L b) (hb:dw b=none) {j:Nat} (hj:j<L.length):L.idxOf L[j]=j:=by
 have h1:L.idxOf L[j]<L.length:=List.idxOf_lt_length_of_mem (Ar _)
 have h2:L[L.idxOf L[j]]=L[j]:=List.getElem_idxOf h1
 rcases Nat.lt_trichotomy (L.idxOf L[j]) j with h3|h3|h3
 ·exact absurd h2 (h.distinct hb _ _ _ h1 hj rfl h3)
 ·exact h3
 ·exact absurd h2.symm (h.distinct hb _ _ _ hj h1 rfl h3)
def Ec:List Int->List Int->Int
 | [],[]=>0
 | [],_::_=> -1
 |_::_,[]=>1
 |x::a,y::b=>if x<y then-1 else if x>y then 1 else Ec a b
def jf (a b:List Int):Bool:=decide (Ec a b<0)
def Xl (L:List (List Int)) (Yu:List Int) (s:List Int):Nat:=(Yu.takeWhile λi=>jf (L.getD i.toNat []) s).length
structure Mq (m:Nat) (L:List (List Int)) (Yu:List Int):Prop where
 AY:L.length<=3000
 len: ∀x∈L,x.length=m
 short:m<=20
 perm:Yu.Perm (upto L.length)
 sorted:Yu.Pairwise λi j=>jf (L.getD i.toNat []) (L.getD j.toNat [])=true
def kg (Yu:List Int) (k:Nat) (x:Int):List Int:=Yu.take k++x::Yu.drop k
def uw (L:List (List Int)):List Int:=(List.range L.length).foldl (λ(S:List Int) (i:Nat)=>kg S (Xl (L.take i) S (L.getD i [])) (i:Int)) []
def AP (g:List (List Int)) (x:List Int) (d:Int):List Int->List (List Int)->List Int->List (List Int)×List Int×Bool
 | [],L,D=>(L,D,true)
 |l::ls,L,D=>if As x (Bm g l)∈L then AP g x d ls L D else if L.length=3000 then (L,D,false) else AP g x d ls (L++ [As x (Bm g l)]) (D++ [d+1])
def HS (g:List (List Int)) (ls:List Int):Nat->Nat->List (List Int)->List Int->List (List Int)×List Int×Bool
 |0,_,L,D=>(L,D,true)
 |f+1,k,L,D=>if k<L.length then (match AP g (L.getD k []) (D.getD k 0) ls L D with
  |(L',D',true)=>HS g ls f (k+1) L' D'
  |(L',D',false)=>(L',D',false)) else (L,D,true)
def CQ (g:List (List Int)) (s:List Int):List (List Int)×List Int×Bool:=HS g (Be g.length) 3001 0 [s] [0]
theorem lQ: ∀ {a b:List Int},Ec a b=0↔a=b
 | [],[]=>by simp [Ec]
 | [],_::_=>by simp [Ec]
 |_::_,[]=>by simp [Ec]
 |x::a,y::b=>by
  simp only [Ec,Es]
  by_cases h1:x<y
  ·rw [Af h1]
   exact ⟨λh=>by omega,λh=>by omega⟩
  ·rw [Aj h1]
   by_cases h2:x>y
   ·rw [Af h2]
    exact ⟨λh=>by omega,λh=>by omega⟩
   ·rw [Aj h2,lQ]
    exact ⟨λh=>⟨by omega,h⟩,λh=>h.2⟩
theorem xn: ∀(a b:List Int),Ec b a= -Ec a b
 | [],[]=>by simp [Ec]
 | [],_::_=>by simp [Ec]
 |_::_,[]=>by simp [Ec]
 |x::a,y::b=>by
  simp only [Ec]
  rcases Int.lt_trichotomy x y with h1|h1|h1
  ·simp [h1,show ¬y<x by omega]
  ·subst h1
   simp [xn a b]
  ·simp [h1,show ¬x<y by omega]
theorem oT: ∀ {a b c:List Int},Ec a b<0->Ec b c<0->Ec a c<0
 | [],[],_,h,_=>by simp [Ec] at h
 |_::_,[],_,h,_=>by simp [Ec] at h
 |_,_::_,[],_,h=>by simp [Ec] at h
 | [],_::_,_::_,_,_=>by simp [Ec]
 |x::a,y::b,z::c,h1,h2=>by
  simp only [Ec] at h1 h2⊢
  by_cases e1:x<y
  ·by_cases e2:y<z
   ·rw [Af (by omega)];omega
   ·rw [Aj e2] at h2
    by_cases e3:y>z
    ·rw [Af e3] at h2;omega
    ·rw [Af (by omega)];omega
  ·rw [Aj e1] at h1
   by_cases e2:x>y
   ·rw [Af e2] at h1;omega
   ·rw [Aj e2] at h1
    by_cases e3:y<z
    ·rw [Af (by omega)];omega
    ·rw [Aj e3] at h2
     by_cases e4:y>z
     ·rw [Af e4] at h2;omega
     ·rw [Aj e4] at h2
      rw [Aj (by omega),Aj (by omega)]
      exact oT h1 h2
theorem lt_iff {a b:List Int} :jf a b=true↔Ec a b<0:=Va
theorem yN {a b c:List Int} (h1:jf a b=true) (h2:jf b c=true):jf a c=true:=lt_iff.2 (oT (lt_iff.1 h1) (lt_iff.1 h2))
theorem mu (a:List Int):jf a a=false:=by
 have:Ec a a=0:=lQ.2 rfl
 unfold jf;rw [this];rfl
theorem CP {a b:List Int} (h:jf a b=false) (Hs:a≠b):jf b a=true:=by
 rw [lt_iff,xn a b]
 have h1: ¬Ec a b<0:= λh'=>by rw [lt_iff.2 h'] at h;cases h
 have h2:Ec a b≠0:= λh'=>Hs (lQ.1 h')
 omega
theorem fq {α:Type} (q:α->Bool): ∀(l:List α),l.Pairwise (λi j=>q j=true->q i=true)-> ∀k (hk:k<l.length),k<(l.takeWhile q).length↔q l[k]=true
 | [],_,k,hk=>by simp at hk
 |a::l,h,k,hk=>by
  obtain ⟨h1,h2⟩:=List.pairwise_cons.1 h
  by_cases ha:q a=true
  ·rw [List.takeWhile_cons_of_pos ha]
   rcases k with _|k
   ·simpa using ha
   ·simp only [Bf,List.getElem_cons_succ,Nat.add_lt_add_iff_right]
    exact fq q l h2 k (by simpa using hk)
  ·rw [List.takeWhile_cons_of_neg ha]
   simp only [Jb,cJ,false_iff]
   rcases k with _|k
   ·exact ha
   ·simp only [List.getElem_cons_succ]
    exact λhq=>ha (h1 _ (Ar _) hq)
theorem Mq.qQ {m:Nat} {L:List (List Int)} {Yu:List Int} (h:Mq m L Yu):Yu.length=L.length:=by rw [h.perm.length_eq,Ps]
theorem Mq.idx {m:Nat} {L:List (List Int)} {Yu:List Int} (h:Mq m L Yu) {k:Nat} (hk:k<Yu.length):0<=Yu[k]/\Yu[k]<L.length:=Lw.1 (h.perm.mem_iff.1 (Ar hk))
theorem Mq.uq {m:Nat} {L:List (List Int)} {Yu:List Int} (h:Mq m L Yu) (s:List Int) {k:Nat} (hk:k<Yu.length):k<Xl L Yu s↔jf (L.getD Yu[k].toNat []) s=true:=
 fq _ Yu (h.sorted.imp λfW hj=>yN fW hj) k hk
theorem Mq.inj {m:Nat} {L:List (List Int)} {Yu:List Int} (h:Mq m L Yu) {i j:Nat} (hi:i<L.length) (hj:j<L.length) (e:L[i]=L[j]):i=j:=by
 have mem: ∀i,i<L.length->(i:Int)∈Yu:= λi hi=>h.perm.mem_iff.2 (Lw.2 ⟨by omega,by omega⟩)
 obtain ⟨p,hp,ep⟩:=Db.1 (mem i hi)
 obtain ⟨q,hq,eq⟩:=Db.1 (mem j hj)
 have get: ∀i (hi:i<L.length),L.getD ((i:Int)).toNat []=L[i]:= λi hi=>by rw [Cq,An,Ac hi];rfl
 rcases Nat.lt_trichotomy p q with h1|h1|h1
 ·have:=Fa.1 h.sorted p q hp hq h1
  rw [ep,eq,get i hi,get j hj,e,mu] at this
  cases this
 ·subst h1
  rw [ep] at eq
  omega
 ·have:=Fa.1 h.sorted q p hq hp h1
  rw [ep,eq,get i hi,get j hj,e,mu] at this
  cases this
theorem AZ {L:List (List Int)} {k:Nat} (h:k<L.length):L.getD k []=L[k]:=by rw [An,Ac h];rfl
theorem CD (Yu:List Int) (k:Nat) (x:Int):(kg Yu k x).Perm (x::Yu):=by
 unfold kg
 refine List.perm_middle.trans (List.Perm.cons x ?_)
 rw [Ir]
theorem Mq.add {m:Nat} {L:List (List Int)} {Yu s:List Int} (h:Mq m L Yu) (hn:s∉L) (hl:s.length=m) (hr:L.length<3000):Mq m (L++ [s]) (kg Yu (Xl L Yu s) L.length):=by
 have sZ: ∀i∈Yu,(L++ [s]).getD i.toNat []=L.getD i.toNat []:= λi hi=>by
  have:=Lw.1 (h.perm.mem_iff.1 hi)
  rw [An,An,Am (by omega)]
 have OI:(L++ [s]).getD ((L.length:Int)).toNat []=s:=by
  rw [Cq,An,Al (by omega),Nat.sub_self];rfl
 refine ⟨by rw [Cf,Ex];omega,λx hx=>?_,h.short,?_,?_⟩
 ·rcases Av.1 hx with hx|hx
  ·exact h.len x hx
  ·rw [Ad.1 hx];exact hl
 ·refine (CD _ _ _).trans ?_
  rw [Cf,Ex,Wi]
  exact (List.Perm.cons _ h.perm).trans (List.perm_append_singleton _ _).symm
 ·unfold kg
  have hs:=h.sorted
  rw [<-Ir (Xl L Yu s) Yu] at hs
  obtain ⟨s1,s2,s3⟩:=List.pairwise_append.1 hs
  have mt: ∀i∈Yu.take (Xl L Yu s),i∈Yu/\jf (L.getD i.toNat []) s=true:= λi hi=>by
   obtain ⟨k,hk,rfl⟩:=Db.1 hi
   have TB:k<Xl L Yu s:=by rw [Ed] at hk;omega
   have TC:k<Yu.length:=by rw [Ed] at hk;omega
   rw [List.getElem_take]
   exact ⟨Ar _,(h.uq s TC).1 TB⟩
  have md: ∀i∈Yu.drop (Xl L Yu s),i∈Yu/\jf s (L.getD i.toNat [])=true:= λi hi=>by
   obtain ⟨k,hk,rfl⟩:=Db.1 hi
   rw [List.length_drop] at hk
   have TC:Xl L Yu s+k<Yu.length:=by omega
   rw [List.getElem_drop]
   refine ⟨Ar _,CP ?_ λe=>hn ?_⟩
   ·exact Bool.eq_false_iff.2 λhh=>by
     have:=(h.uq s TC).2 hh
     omega
   ·have hi:=h.idx TC
    rw [AZ (by omega)] at e
    rw [<-e];exact Ar _
  refine List.pairwise_append.2 ⟨s1.imp_of_mem λ {a b} ha hb vL=>?_,List.pairwise_cons.2 ⟨λb hb=>?_,s2.imp_of_mem λ {a b} ha hb vL=>?_⟩,λa ha b hb=>?_⟩
  ·rw [sZ a (mt a ha).1,sZ b (mt b hb).1];exact vL
  ·rw [OI,sZ b (md b hb).1];exact (md b hb).2
  ·rw [sZ a (md a ha).1,sZ b (md b hb).1];exact vL
  ·rcases Ay.1 hb with rfl|hb
   ·rw [OI,sZ a (mt a ha).1];exact (mt a ha).2
   ·rw [sZ a (mt a ha).1,sZ b (md b hb).1];exact s3 a ha b hb
theorem wQ (L:List (List Int)) (s:List Int):uw (L++ [s])=kg (uw L) (Xl L (uw L) s) L.length:=by
 unfold uw
 rw [Cf,Ex,List.range_succ,List.foldl_append]
 have e: ∀(is:List Nat) (S:List Int),(∀i∈is,i<L.length)->is.foldl (λ(S:List Int) (i:Nat)=>kg S (Xl ((L++ [s]).take i) S ((L++ [s]).getD i [])) (i:Int)) S=is.foldl (λ(S:List Int) (i:Nat)=>kg S (Xl (L.take i) S (L.getD i [])) (i:Int)) S:=by
  intro is
  induction is with
  |nil=>intro S _;rfl
  |cons i is ih=>
   intro S h
   have hi:=h i (by simp)
   rw [Ky,Ky,ih _ λj hj=>h j (Aq _ hj)]
   congr 2
   rw [List.take_append_of_le_length (by omega),An,Am hi,<-An]
 rw [e _ _ λi hi=>Ho.1 hi]
 simp only [Ky,List.foldl_nil]
 congr 2
 ·rw [List.take_append_of_le_length (Ao _),Bj]
 ·rw [An,Al (by omega),Nat.sub_self];rfl
structure AB (p:PP) (m:Nat) (L:List (List Int)) (D:List Int):Prop where
 ok:Mq m L (uw L)
 len:D.length=L.length
 row: ∀x∈L,∀y∈x,0<=y/\y<p.1
 dep: ∀j (h:j<D.length),0<=D[j]/\D[j]<=j
theorem AB.add {p:PP} {m:Nat} {L:List (List Int)} {D:List Int} (h:AB p m L D) {y:List Int} {d:Int} (hn:y∉L) (hl:y.length=m) (hr:L.length<3000) (hy: ∀z∈y,0<=z/\z<p.1) (hd:0<=d/\d<=L.length):AB p m (L++ [y]) (D++ [d]):=by
 have hlen:=h.len
 refine ⟨by rw [wQ];exact h.ok.add hn hl hr,by simp [hlen],λx hx=>?_,λj hj=>?_⟩
 ·rcases Av.1 hx with hx|hx
  ·exact h.row x hx
  ·rw [Ad.1 hx];exact hy
 ·by_cases e:j<D.length
  ·rw [List.getElem_append_left e];exact h.dep j e
  ·simp only [Cf,Ex] at hj
   have:j=D.length:=by omega
   subst this
   rw [List.getElem_append_right (by omega)]
   simp only [Nat.sub_self,List.getElem_cons_zero]
   omega
noncomputable def pq (p:PP) (t:List Int):Bool:=m_validP p&&tO p.1 t
noncomputable def xO (p:PP) (t:List Int):Bool:=pq p t&&(CQ p.2.2.1 t).2.2
noncomputable def GS (p:PP) (t:List Int):TT:=if xO p t=true then (t,(CQ p.2.2.1 t).1,(CQ p.2.2.1 t).2.1,()) else ([],[],[],())
noncomputable def my (p:PP) (t:TT):Bool:=xO p t.1&&RH (GS p t.1) t
def HG (ts:List TT):Prop:=ts.length<=4294967296/\ ∀t∈ts,DU t
noncomputable def mw (p:PP) (ts:List TT):Bool:=m_validP p&&decide (ts.length<=4)&&List.all ts (my p)
def uY (m:ByteArray->Option Bool) (L:List (List Int)):Prop:= ∀q,eL q->(m (Jk q)).getD false=decide (q∈L)
theorem uY.add {m:ByteArray->Option Bool} {L:List (List Int)} {y:List Int} (h:uY m L) (hy:eL y):uY (Sb m (Jk y) true) (L++ [y]):=by
 intro q hq
 unfold Sb
 by_cases e:q=y
 ·subst e
  rw [Af rfl];simp
 ·rw [Aj λhk=>e (key_inj hq hy hk),h q hq]
  simp [e]
end Go.Proofs.Ytfgfigkbgecfnaa
