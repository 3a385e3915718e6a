/-
  Part 45 of the proof that the statement FnExactSolveTwoPhaseWithin holds.
-/
import Derived.Test.YtfgfigkbgecfnaaCSolveTwoPhaseWithin43
namespace Go.Proofs.Ytfgfigkbgecfnaa
open Go.RowKit
noncomputable abbrev Zk:Spec:=Ho (.pair Gi (.pair tL (.pair tL (.pair tI .unit)))) (.pair tL (.pair tL (.pair .bool .unit))) true false (λx=>Fo x.1/\short x.2.1/\short x.2.2.1) (λx=>Ln x.1 x.2.1 x.2.2.1 x.2.2.2.1)
noncomputable abbrev gG:MSpec:=cW [some 3,none,none,none] [(false, .Ia tI),(false, .Ia .str),(false, .Ia kh),(false, .Ia tL),(false, .Ia tL),(false, .Ia tI)] true [none,none,none] [rL,rL, .Ia .bool]
 (λx=>Fo (x.1,x.2.1,x.2.2.1,())/\short x.2.2.2.1/\short x.2.2.2.2.1)
 (λx=>(((Ln (x.1,x.2.1,x.2.2.1,()) x.2.2.2.1 x.2.2.2.2.1 x.2.2.2.2.2.1).1,(Ln (x.1,x.2.1,x.2.2.1,()) x.2.2.2.1 x.2.2.2.2.1 x.2.2.2.2.2.1).2.1,(Ln (x.1,x.2.1,x.2.2.1,()) x.2.2.2.1 x.2.2.2.2.1 x.2.2.2.2.2.1).2.2.1,()),()))
noncomputable abbrev qg:Spec:=Ho (.pair Gi (.pair tL (.pair tL (.pair tI .unit)))) .bool false true (λx=>Fo x.1/\short x.2.1/\short x.2.2.1) (λ_=>true)
abbrev dE:Type:=Int×Int×Int×ByteArray×List (List Int)×List (List Int)×List Int×List Int×Bool×List (List Int)×List Int×List Int×Bool×List Int×PUnit
abbrev rR:Type:=Int×Int×Int×ByteArray×List (List Int)×List (List Int)×List Int×List Int×Bool×List (List Int)×List Int×List Int×Bool×PUnit
theorem we (p:Int×ByteArray×List (List Int)×Unit) (t s:List Int) (k:Int) (P:(List Int×List Int×Bool×Unit)->Prop):(∃(y5:(List (List Int)×List Int×List Int×Bool×PUnit)×(List (List Int)×List Int×List Int×Bool×PUnit)×Bool×PUnit),jR.fn ((p.1,p.2.1,p.2.2.1,()),t,())=some y5/\Br (!y5.2.2.1) (P (List.take 0 (List.drop 0 []),List.take 0 (List.drop 0 []),false,())) (∃(y6:Bool),bG.fn ((p.1,p.2.1,p.2.2.1,()),(y5.1.1,y5.1.2.1,y5.1.2.2.1,y5.1.2.2.2.1,()),s,())=some y6/\Br (!y6) (P (List.take 0 (List.drop 0 []),List.take 0 (List.drop 0 []),false,())) (∃(y7:Bool),Dq.fn (k,(0:Int),(2:Int),())=some y7/\Br (!y7) (P (List.take 0 (List.drop 0 []),List.take 0 (List.drop 0 []),false,())) (∃(y8:Int),Ge.fn ((y5.1.1,y5.1.2.1,y5.1.2.2.1,y5.1.2.2.2.1,()),s,())=some y8/\ ∃(y9:List Int),rG.fn ((p.1,p.2.1,p.2.2.1,()),(y5.1.1,y5.1.2.1,y5.1.2.2.1,y5.1.2.2.2.1,()),(y5.2.1.1,y5.2.1.2.1,y5.2.1.2.2.1,y5.2.1.2.2.2.1,()),())=some y9/\ ∃(No:Int),idx y9 y8=some No/\Br (decide (No>(200:Int))) (P (List.take 0 (List.drop 0 []),List.take 0 (List.drop 0 []),false,())) (∃(Np:List (List Int)),cC.fn ((p.1,p.2.1,p.2.2.1,()),(y5.1.1,y5.1.2.1,y5.1.2.2.1,y5.1.2.2.2.1,()),())=some Np/\ ∃(gU:List (List Int)),Zl.fn ((y5.1.1,y5.1.2.1,y5.1.2.2.1,y5.1.2.2.2.1,()),(y5.2.1.1,y5.2.1.2.1,y5.2.1.2.2.1,y5.2.1.2.2.2.1,()),Np,IntKind.i64.wrap (No+k),())=some gU/\Dh (λ(Lj:rR) (k14:rR->Prop)=>Br (decide (Lj.2.1<=IntKind.i64.wrap (No+k))) (∃(Rv:List Int),idx gU Lj.2.1=some Rv/\ ∃(Pc:Int),idx Rv y8=some Pc/\Br (decide (Pc>=(0:Int))) (∃(dK:List Int),idx gU Lj.2.1=some dK/\ ∃(dL:Int),idx dK y8=some dL/\ ∃(za:List Int),idx gU Lj.1=some za/\ ∃(ph:Int),idx za y8=some ph/\Br (decide (IntKind.i64.wrap (Lj.2.1+dL)<IntKind.i64.wrap (Lj.1+ph))) (k14 (Lj.2.1,IntKind.i64.wrap (Lj.2.1+(1:Int)),Lj.2.2.1,Lj.2.2.2.1,Lj.2.2.2.2.1,Lj.2.2.2.2.2.1,Lj.2.2.2.2.2.2.1,Lj.2.2.2.2.2.2.2.1,Lj.2.2.2.2.2.2.2.2.1,Lj.2.2.2.2.2.2.2.2.2.1,Lj.2.2.2.2.2.2.2.2.2.2.1,Lj.2.2.2.2.2.2.2.2.2.2.2.1,Lj.2.2.2.2.2.2.2.2.2.2.2.2.1,())) (k14 (Lj.1,IntKind.i64.wrap (Lj.2.1+(1:Int)),Lj.2.2.1,Lj.2.2.2.1,Lj.2.2.2.2.1,Lj.2.2.2.2.2.1,Lj.2.2.2.2.2.2.1,Lj.2.2.2.2.2.2.2.1,Lj.2.2.2.2.2.2.2.2.1,Lj.2.2.2.2.2.2.2.2.2.1,Lj.2.2.2.2.2.2.2.2.2.2.1,Lj.2.2.2.2.2.2.2.2.2.2.2.1,Lj.2.2.2.2.2.2.2.2.2.2.2.2.1,()))) (k14 (Lj.1,IntKind.i64.wrap (Lj.2.1+(1:Int)),Lj.2.2.1,Lj.2.2.2.1,Lj.2.2.2.2.1,Lj.2.2.2.2.2.1,Lj.2.2.2.2.2.2.1,Lj.2.2.2.2.2.2.2.1,Lj.2.2.2.2.2.2.2.2.1,Lj.2.2.2.2.2.2.2.2.2.1,Lj.2.2.2.2.2.2.2.2.2.2.1,Lj.2.2.2.2.2.2.2.2.2.2.2.1,Lj.2.2.2.2.2.2.2.2.2.2.2.2.1,()))) (∃(Rv:List Int),Hb.fn ((Lj.2.2.1,Lj.2.2.2.1,Lj.2.2.2.2.1,()),())=some Rv/\0=0/\0=([]:List Int).length/\Dh (λ(m6:dE) (k17:dE->Prop)=>Br (decide (m6.2.1>(0:Int))) (0=0/\m6.2.2.2.2.2.2.2.2.2.2.2.2.2.1.length=m6.2.2.2.2.2.2.2.2.2.2.2.2.2.1.length/\Dh (λ(aF:dE) (k19:dE->Prop)=>Br (decide (aF.2.1<(↑Rv.length:Int))) (∃(ph:List Int),idx Np aF.1=some ph/\ ∃(wx:Int),idx ph aF.2.1=some wx/\ ∃(YX:List Int),idx gU (IntKind.i64.wrap (m6.2.1-(1:Int)))=some YX/\ ∃(YY:Int),idx YX wx=some YY/\ ∃(YZ:List Int),idx gU m6.2.1=some YZ/\ ∃(y25:Int),idx YZ aF.1=some y25/\Br (YY==y25) (∃(y26:Int),idx Rv aF.2.1=some y26/\0=0/\aF.2.2.2.2.2.2.2.2.2.2.2.2.2.1.length=aF.2.2.2.2.2.2.2.2.2.2.2.2.2.1.length/\aF.2.2.2.2.2.2.2.2.2.2.2.2.2.1.length+(List.take 1 (List.drop 0 [y26])).length<=Db/\0=0/\(aF.2.2.2.2.2.2.2.2.2.2.2.2.2.1++List.take 1 (List.drop 0 [y26])).length=(aF.2.2.2.2.2.2.2.2.2.2.2.2.2.1++List.take 1 (List.drop 0 [y26])).length/\k17 (wx,IntKind.i64.wrap (m6.2.1-(1:Int)),aF.2.2.1,aF.2.2.2.1,aF.2.2.2.2.1,aF.2.2.2.2.2.1,aF.2.2.2.2.2.2.1,aF.2.2.2.2.2.2.2.1,aF.2.2.2.2.2.2.2.2.1,aF.2.2.2.2.2.2.2.2.2.1,aF.2.2.2.2.2.2.2.2.2.2.1,aF.2.2.2.2.2.2.2.2.2.2.2.1,aF.2.2.2.2.2.2.2.2.2.2.2.2.1,aF.2.2.2.2.2.2.2.2.2.2.2.2.2.1++List.take 1 (List.drop 0 [y26]),())) (0=0/\aF.2.2.2.2.2.2.2.2.2.2.2.2.2.1.length=aF.2.2.2.2.2.2.2.2.2.2.2.2.2.1.length/\k19 (aF.1,IntKind.i64.wrap (aF.2.1+(1:Int)),aF.2.2.1,aF.2.2.2.1,aF.2.2.2.2.1,aF.2.2.2.2.2.1,aF.2.2.2.2.2.2.1,aF.2.2.2.2.2.2.2.1,aF.2.2.2.2.2.2.2.2.1,aF.2.2.2.2.2.2.2.2.2.1,aF.2.2.2.2.2.2.2.2.2.2.1,aF.2.2.2.2.2.2.2.2.2.2.2.1,aF.2.2.2.2.2.2.2.2.2.2.2.2.1,aF.2.2.2.2.2.2.2.2.2.2.2.2.2.1,()))) (0=0/\aF.2.2.2.2.2.2.2.2.2.2.2.2.2.1.length=aF.2.2.2.2.2.2.2.2.2.2.2.2.2.1.length/\k17 (aF.1,IntKind.i64.wrap (m6.2.1-(1:Int)),aF.2.2.1,aF.2.2.2.1,aF.2.2.2.2.1,aF.2.2.2.2.2.1,aF.2.2.2.2.2.2.1,aF.2.2.2.2.2.2.2.1,aF.2.2.2.2.2.2.2.2.1,aF.2.2.2.2.2.2.2.2.2.1,aF.2.2.2.2.2.2.2.2.2.2.1,aF.2.2.2.2.2.2.2.2.2.2.2.1,aF.2.2.2.2.2.2.2.2.2.2.2.2.1,aF.2.2.2.2.2.2.2.2.2.2.2.2.2.1,()))) (m6.1,(0:Int),m6.2.2.1,m6.2.2.2.1,m6.2.2.2.2.1,m6.2.2.2.2.2.1,m6.2.2.2.2.2.2.1,m6.2.2.2.2.2.2.2.1,m6.2.2.2.2.2.2.2.2.1,m6.2.2.2.2.2.2.2.2.2.1,m6.2.2.2.2.2.2.2.2.2.2.1,m6.2.2.2.2.2.2.2.2.2.2.2.1,m6.2.2.2.2.2.2.2.2.2.2.2.2.1,m6.2.2.2.2.2.2.2.2.2.2.2.2.2.1,PUnit.unit)) (∃(dL:List Int),idx m6.2.2.2.2.2.1 m6.1=some dL/\ ∃(za:(List Int×PUnit)×PUnit),cD.fn (m6.2.2.1,m6.2.2.2.1,m6.2.2.2.2.1,t,m6.2.2.2.2.2.2.2.2.2.1,m6.2.2.2.2.2.2.2.2.2.2.1,m6.2.2.2.2.2.2.2.2.2.2.2.1,m6.2.2.2.2.2.2.2.2.2.2.2.2.1,dL,())=some za/\0=0/\m6.2.2.2.2.2.2.2.2.2.2.2.2.2.1.length=m6.2.2.2.2.2.2.2.2.2.2.2.2.2.1.length/\0=0/\za.1.1.length=za.1.1.length/\ ∃(ph:(List Int×List Int×Bool×PUnit)×PUnit),gE.fn (m6.2.2.2.2.2.2.2.2.2.2.2.2.2.1,za.1.1,())=some ph/\P (List.take ph.1.1.length (List.drop 0 ph.1.1),List.take ph.1.2.1.length (List.drop 0 ph.1.2.1),ph.1.2.2.1,()))) (y8,Lj.1,Lj.2.2.1,Lj.2.2.2.1,Lj.2.2.2.2.1,Lj.2.2.2.2.2.1,Lj.2.2.2.2.2.2.1,Lj.2.2.2.2.2.2.2.1,Lj.2.2.2.2.2.2.2.2.1,Lj.2.2.2.2.2.2.2.2.2.1,Lj.2.2.2.2.2.2.2.2.2.2.1,Lj.2.2.2.2.2.2.2.2.2.2.2.1,Lj.2.2.2.2.2.2.2.2.2.2.2.2.1,[],PUnit.unit))) (No,No,p.1,p.2.1,p.2.2.1,y5.1.1,y5.1.2.1,y5.1.2.2.1,y5.1.2.2.2.1,y5.2.1.1,y5.2.1.2.1,y5.2.1.2.2.1,y5.2.1.2.2.2.1,PUnit.unit))))))=fnW Hf (look [(37,jR),(38,bG),(39,Dq),(40,Ge),(41,rG),(42,cC),(43,Zl),(44,Hb),(46,cD),(45,gE)]) Zk Try.f12 (p,t,s,k,()) P:=by kernel_rfl
abbrev fu:Type:=Option ((Int×ByteArray×List (List Int)×PUnit)×List (List Int)×List Int×(ByteArray->Option Int)×List Int×List Int×List (List Int)×PUnit)×List Int×Option ((Int×ByteArray×List (List Int)×PUnit)×List (List Int)×List Int×(ByteArray->Option Int)×List Int×List Int×List (List Int)×PUnit)×PUnit
abbrev oY:Type:=(Int×ByteArray×List (List Int)×PUnit)×List (List Int)×List Int×(ByteArray->Option Int)×List Int×List Int×List (List Int)×PUnit
abbrev p6:Type:=Int×Int×Int×Int×List (List (Int×Int×Int×PUnit))×PUnit
theorem Ahh (n:Int) (str:ByteArray) (g:List (List Int)) (t s:List Int) (k:Int) (P:((List Int×List Int×Bool×Unit)×Unit)->Prop):(∃(y7:Option (Option ((Int×ByteArray×List (List Int)×PUnit)×List (List Int)×List Int×(ByteArray->Option Int)×List Int×List Int×List (List Int)×PUnit)×List Int×Option ((Int×ByteArray×List (List Int)×PUnit)×List (List Int)×List Int×(ByteArray->Option Int)×List Int×List Int×List (List Int)×PUnit)×PUnit)×Int×Bool×PUnit),Sy.fn ((n,str,g,()),t,s,())=some y7/\Br (!y7.2.2.1) (P ((List.take 0 (List.drop 0 []),List.take 0 (List.drop 0 []),false,()),())) (∃(y8:Bool),Dq.fn (k,(0:Int),(2:Int),())=some y8/\Br (!y8) (P ((List.take 0 (List.drop 0 []),List.take 0 (List.drop 0 []),false,()),())) (∃(y9:fu),y7.1=some y9/\ ∃(No:List Int),aA.fn (y9.1,(y7.1,()),())=some No/\ ∃(Np:Int),idx No y7.2.1=some Np/\0=0/\1= [List.take 1 (List.drop 0 [(y7.2.1,Int.ofNat (nat_lit 0),Int.ofNat (nat_lit 0),())])].length/\Dh (λ(Ed:p6) (GN:p6->Prop)=>Br (decide (Ed.2.2.2.1<=IntKind.i64.wrap (Np+k))) (((0:Int)<=Ed.2.2.2.1/\Ed.2.2.2.1<(↑Ed.2.2.2.2.1.length:Int))/\ ∃(Ry:List (Int×Int×Int×PUnit)),Ed.2.2.2.2.1[0+Ed.2.2.2.1.toNat]?=some Ry/\0=0/\Ed.2.2.2.2.1.length=Ed.2.2.2.2.1.length/\Dh (λ(Ke:p6) (k16:p6->Prop)=>Br (decide (Ke.2.2.2.1<(↑Ry.length:Int))) (∃(dK:Int×Int×Int×PUnit),idx Ry Ke.2.2.2.1=some dK/\ ∃(dL:fu),y7.1=some dL/\ ∃(za:fu),y7.1=some za/\ ∃(ph:oY),za.1=some ph/\ ∃(wx:List Int),idx ph.2.1 dK.1=some wx/\ ∃(YX:Int×Bool×PUnit),Sx.fn (dL.2.2.1,wx,())=some YX/\Br (decide (Ed.2.2.2.1>=Np)) (Br YX.2.1 (Br (decide (Ke.1<(0:Int))) (∃(YY:fu),y7.1=some YY/\ ∃(YZ:oY),YY.2.2.1=some YZ/\ ∃(y25:Int),idx YZ.2.2.1 YX.1=some y25/\0=0/\Ke.2.2.2.2.1.length=Ke.2.2.2.2.1.length/\k16 (IntKind.i64.wrap (Ed.2.2.2.1+y25),Ed.2.2.2.1,Ke.2.2.2.1,IntKind.i64.wrap (Ke.2.2.2.1+(1:Int)),Ke.2.2.2.2.1,())) (∃(YY:fu),y7.1=some YY/\ ∃(YZ:oY),YY.2.2.1=some YZ/\ ∃(y25:Int),idx YZ.2.2.1 YX.1=some y25/\Br (decide (IntKind.i64.wrap (Ed.2.2.2.1+y25)<Ke.1)) (∃(y26:fu),y7.1=some y26/\ ∃(y27:oY),y26.2.2.1=some y27/\ ∃(y28:Int),idx y27.2.2.1 YX.1=some y28/\0=0/\Ke.2.2.2.2.1.length=Ke.2.2.2.2.1.length/\k16 (IntKind.i64.wrap (Ed.2.2.2.1+y28),Ed.2.2.2.1,Ke.2.2.2.1,IntKind.i64.wrap (Ke.2.2.2.1+(1:Int)),Ke.2.2.2.2.1,())) (0=0/\Ke.2.2.2.2.1.length=Ke.2.2.2.2.1.length/\k16 (Ke.1,Ke.2.1,Ke.2.2.1,IntKind.i64.wrap (Ke.2.2.2.1+(1:Int)),Ke.2.2.2.2.1,())))) (0=0/\Ke.2.2.2.2.1.length=Ke.2.2.2.2.1.length/\k16 (Ke.1,Ke.2.1,Ke.2.2.1,IntKind.i64.wrap (Ke.2.2.2.1+(1:Int)),Ke.2.2.2.2.1,()))) (0=0/\Ke.2.2.2.2.1.length=Ke.2.2.2.2.1.length/\k16 (Ke.1,Ke.2.1,Ke.2.2.1,IntKind.i64.wrap (Ke.2.2.2.1+(1:Int)),Ke.2.2.2.2.1,()))) (((0:Int)<=Ed.2.2.2.1/\Ed.2.2.2.1<(↑Ke.2.2.2.2.1.length:Int))/\ ∃(dK:List (Int×Int×Int×PUnit)),Ke.2.2.2.2.1[0+Ed.2.2.2.1.toNat]?=some dK/\ ∃(dL:List (Int×Int×Int×PUnit)),dA.fn (y7.1,dK,())=some dL/\0=0/\Ke.2.2.2.2.1.length=Ke.2.2.2.2.1.length/\Ke.2.2.2.2.1.length+(List.take 1 (List.drop 0 [dL])).length<=Db/\0=0/\(Ke.2.2.2.2.1++List.take 1 (List.drop 0 [dL])).length=(Ke.2.2.2.2.1++List.take 1 (List.drop 0 [dL])).length/\GN (Ke.1,Ke.2.1,Ke.2.2.1,IntKind.i64.wrap (Ed.2.2.2.1+(1:Int)),Ke.2.2.2.2.1++List.take 1 (List.drop 0 [dL]),()))) (Ed.1,Ed.2.1,Ed.2.2.1,(0:Int),Ed.2.2.2.2.1,PUnit.unit)) (((0:Int)<=Ed.2.1/\Ed.2.1<(↑Ed.2.2.2.2.1.length:Int))/\ ∃(Ry:List (Int×Int×Int×PUnit)),Ed.2.2.2.2.1[0+Ed.2.1.toNat]?=some Ry/\ ∃(Rv:Int×Int×Int×PUnit),idx Ry Ed.2.2.1=some Rv/\ ∃(Pc:(List Int×Bool×PUnit)×PUnit),dB.fn (y7.1,Rv.1,())=some Pc/\Br (!Pc.1.2.1) (P ((List.take 0 (List.drop 0 []),List.take 0 (List.drop 0 []),false,()),())) (Br (decide (Ed.2.1>(200:Int))) (P ((List.take 0 (List.drop 0 []),List.take 0 (List.drop 0 []),false,()),())) (((0:Int)<=(0:Int)/\(0:Int)<=IntKind.i64.wrap (Ed.2.1+(1:Int))/\IntKind.i64.wrap (Ed.2.1+(1:Int))<=(↑Ed.2.2.2.2.1.length:Int))/\ ∃(dK:(List Int×PUnit)×PUnit),cE.fn (List.take ((IntKind.i64.wrap (Ed.2.1+(1:Int))).toNat-Int.toNat (0:Int)) (List.drop (0+Int.toNat (0:Int)) Ed.2.2.2.2.1),Ed.2.2.1,())=some dK/\P ((List.take dK.1.1.length (List.drop 0 dK.1.1),List.take Pc.1.1.length (List.drop 0 Pc.1.1),true,()),()))))) ((-1:Int),(0:Int),(0:Int),(0:Int),[List.take 1 (List.drop 0 [(y7.2.1,Int.ofNat (nat_lit 0),Int.ofNat (nat_lit 0),())])],PUnit.unit))))=fnMW (Ad7 [kx+53]) (look [(48,Sy),(49,Dq),(50,aA),(52,Sx),(53,dA),(54,dB),(55,cE)]) gG Try.f15 (n,str,g,t,s,k,()) P:=by kernel_rfl
abbrev nk:Type:=(Int×ByteArray×List (List Int)×PUnit)×PUnit
abbrev vU:Type:=(List Int×List Int×Bool×PUnit)×PUnit
theorem XX (p:Int×ByteArray×List (List Int)×Unit) (a b:List Int) (k:Int) (P:Bool->Prop):(Br (decide ((↑a.length:Int)>(1048576:Int))) (P true) (Br (decide ((↑b.length:Int)>(1048576:Int))) (P true) (∃(y5:Int),yO.fn ((p.1,p.2.1,p.2.2.1,()),(1048576:Int),())=some y5/\Br (decide (y5<(0:Int))) (P true) (∃(y6:nk),Qa.fn (p.1,p.2.1,p.2.2.1,())=some y6/\ ∃(y7:(List Int×PUnit)×PUnit),Tz.fn (a,())=some y7/\ ∃(y8:(List Int×PUnit)×PUnit),Tz.fn (b,())=some y8/\ ∃(y9:List Int×List Int×Bool×PUnit),Zk.fn ((y6.1.1,y6.1.2.1,List.take y6.1.2.2.1.length (List.drop 0 y6.1.2.2.1),()),List.take y7.1.1.length (List.drop 0 y7.1.1),List.take y8.1.1.length (List.drop 0 y8.1.1),k,())=some y9/\ ∃(No:nk),Qa.fn (p.1,p.2.1,p.2.2.1,())=some No/\ ∃(Np:(List Int×PUnit)×PUnit),Tz.fn (a,())=some Np/\ ∃(gU:(List Int×PUnit)×PUnit),Tz.fn (b,())=some gU/\ ∃(Wq:vU),gG.fn (No.1.1,No.1.2.1,List.take No.1.2.2.1.length (List.drop 0 No.1.2.2.1),List.take Np.1.1.length (List.drop 0 Np.1.1),List.take gU.1.1.length (List.drop 0 gU.1.1),k,())=some Wq/\ ∃(Ry:Bool),Fh.fn (List.take Wq.1.1.length (List.drop 0 Wq.1.1),y9.1,())=some Ry/\Br (!Ry) (P false) (∃(Rv:Bool),Fh.fn (List.take Wq.1.2.1.length (List.drop 0 Wq.1.2.1),y9.2.1,())=some Rv/\Br (!Rv) (P false) (Br (!Wq.1.2.2.1==y9.2.2.1) (P false) (∃(Pc:Int×ByteArray×List (List Int)×PUnit),yP.fn ((p.1,p.2.1,p.2.2.1,()),())=some Pc/\ ∃(dK:Bool),yK.fn ((No.1.1,No.1.2.1,List.take No.1.2.2.1.length (List.drop 0 No.1.2.2.1),()),Pc,())=some dK/\Br (!dK) (P false) (∃(dL:(List Int×PUnit)×PUnit),Tz.fn (a,())=some dL/\ ∃(za:Bool),Fh.fn (List.take Np.1.1.length (List.drop 0 Np.1.1),List.take dL.1.1.length (List.drop 0 dL.1.1),())=some za/\Br (!za) (P false) (∃(ph:(List Int×PUnit)×PUnit),Tz.fn (b,())=some ph/\ ∃(wx:Bool),Fh.fn (List.take gU.1.1.length (List.drop 0 gU.1.1),List.take ph.1.1.length (List.drop 0 ph.1.1),())=some wx/\Br (!wx) (P false) (0=0/\No.1.2.2.1.length=No.1.2.2.1.length/\ ∃(YX:(Int×PUnit)×List (List Int)×PUnit),Ti.fn (No.1.1,No.1.2.1,No.1.2.2.1,(1:Int),())=some YX/\(YX.2.1.length=No.1.2.2.1.length/\No.1.2.2.1.length=No.1.2.2.1.length)/\0=0/\Np.1.1.length=Np.1.1.length/\ ∃(YY:(Int×PUnit)×List Int×PUnit),Vg.fn (Np.1.1,YX.1.1,())=some YY/\(YY.2.1.length=Np.1.1.length/\Np.1.1.length=Np.1.1.length)/\0=0/\gU.1.1.length=gU.1.1.length/\ ∃(YZ:(Int×PUnit)×List Int×PUnit),Vg.fn (gU.1.1,YY.1.1,())=some YZ/\(YZ.2.1.length=gU.1.1.length/\gU.1.1.length=gU.1.1.length)/\Br (decide (YZ.1.1<(0:Int))) (P false) (∃(y25:Bool),Fh.fn (List.take Wq.1.1.length (List.drop 0 Wq.1.1),y9.1,())=some y25/\Br (!y25) (P false) (∃(y26:Bool),Fh.fn (List.take Wq.1.2.1.length (List.drop 0 Wq.1.2.1),y9.2.1,())=some y26/\Br (!y26) (P false) (Br (!Wq.1.2.2.1==y9.2.2.1) (P false) (0=0/\Wq.1.1.length=Wq.1.1.length/\ ∃(y27:(Int×PUnit)×List Int×PUnit),Vg.fn (Wq.1.1,(1:Int),())=some y27/\(y27.2.1.length=Wq.1.1.length/\Wq.1.1.length=Wq.1.1.length)/\0=0/\Wq.1.2.1.length=Wq.1.2.1.length/\ ∃(y28:(Int×PUnit)×List Int×PUnit),Vg.fn (Wq.1.2.1,y27.1.1,())=some y28/\(y28.2.1.length=Wq.1.2.1.length/\Wq.1.2.1.length=Wq.1.2.1.length)/\ ∃(y29:Int),bq.fn (List.take Wq.1.1.length (List.drop 0 y27.2.1),(1:Int),())=some y29/\Br (decide (y29<(0:Int))) (P false) (∃(y30:Int),bq.fn (List.take Wq.1.2.1.length (List.drop 0 y28.2.1),y29,())=some y30/\Br (decide (y30<(0:Int))) (P false) (Br (y30 !=y28.1.1) (P false) (∃(y31:nk),Qa.fn (p.1,p.2.1,p.2.2.1,())=some y31/\ ∃(y32:(List Int×PUnit)×PUnit),Tz.fn (a,())=some y32/\ ∃(y33:(List Int×PUnit)×PUnit),Tz.fn (b,())=some y33/\ ∃(y34:vU),gG.fn (y31.1.1,y31.1.2.1,List.take y31.1.2.2.1.length (List.drop 0 y31.1.2.2.1),List.take y32.1.1.length (List.drop 0 y32.1.1),List.take y33.1.1.length (List.drop 0 y33.1.1),k,())=some y34/\ ∃(y35:Bool),Fh.fn (List.take y34.1.1.length (List.drop 0 y34.1.1),y9.1,())=some y35/\Br (!y35) (P false) (∃(y36:Bool),Fh.fn (List.take y34.1.2.1.length (List.drop 0 y34.1.2.1),y9.2.1,())=some y36/\Br (!y36) (P false) (Br (!y34.1.2.2.1==y9.2.2.1) (P false) (∃(y37:Int),bq.fn (List.take Wq.1.1.length (List.drop 0 y27.2.1),(1:Int),())=some y37/\Br (decide (y37<(0:Int))) (P false) (∃(y38:Int),bq.fn (List.take Wq.1.2.1.length (List.drop 0 y28.2.1),y37,())=some y38/\Br (decide (y38<(0:Int))) (P false) (Br (y38 !=y28.1.1) (P false) (P true)))))))))))))))))))))))=fnW Hf (look [(11,yO),(12,Zk),(15,gG),(13,cY.b yP Qa),(14,cY.b rH Tz),(17,yK),(16,Fh),(18,Ti),(19,Vg),(20,bq)]) qg Try.f4 (p,a,b,k,()) P:=by kernel_rfl
theorem KB {nx nx':Nat->List Int} {r r':Int->Int} {m:Nat} (hR:RowsOK nx m) (h1: ∀i,i<m->nx' i=nx i) (h2: ∀y:Int,0<=y->y<m->r' y=r y): ∀(l:Nat) (y:Int),0<=y->y<m->tl nx' r' l y=tl nx r l y
 |0,y,a,b=>h2 y a b
 |l+1,y,a,b=>by
  show LJ ((nx' y.toNat).map (tl nx' r' l)) (-1)=LJ ((nx y.toNat).map (tl nx r l)) (-1);rw [h1 _ (by omega)]
  congr 1
  refine Er λz hz=>?_;obtain ⟨z0,z1⟩:=hR _ (by omega) z hz;exact KB hR h1 h2 l z z0 z1
theorem Adi {nx:Nat->List Int} {r:Int->Int} {B:Int} (h: ∀y,-1<=r y/\r y<=B) (hB: -1<=B): ∀(l:Nat) (y:Int),-1<=tl nx r l y/\tl nx r l y<=B
 |0,y=>h y
 |l+1,y=>by
  rcases (AS ((nx y.toNat).map (tl nx r l)) (-1)).2.2 with h1|h1
  ·have h1:tl nx r (l+1) y= -1:=h1;omega
  ·obtain ⟨z,_,e⟩:=Bh.1 h1;have e:tl nx r l z=tl nx r (l+1) y:=e;rw [<-e];exact Adi h hB l z
section
variable {p:PP} {t:List Int}
theorem Am6 (cd:Dc (Bc p t)=true) (y:Int): -1<=r0 p t y/\r0 p t y<=3000:=by
 unfold r0;split
 ·rename_i h;have:=Ym cd h;unfold tB;omega
 ·exact ⟨Ku _,by decide⟩
theorem Ag3 (Pd:Dc p=true) (n:Nat):gf (Bq p.2.2.1 (upto p.1.toNat)) (Bq (Bc p t).2.2.1 (upto p.1.toNat)) (Qg p) n=dX p t n:=by
 unfold gf dX;refine Er λl _=>?_;unfold Yy;rw [pV];refine Er λk hk=>?_;have hk:k<(Ae p).length:=Ev.1 hk;refine KB (Tg Pd) (λi hi=>HT hi) (λy _ _=>?_) l _ (by omega) (by omega);show (if (Ae p).getD y.toNat []∈Ae (Bc p t) then (Bj (Bc p t)).getD ((Ae (Bc p t)).idxOf ((Ae p).getD y.toNat [])) 0 else-1)=r0 p t y;unfold r0;split
 ·rename_i h;exact (Ac h).symm
 ·rfl
theorem om {n l:Nat} (h:l<n):idx (dX p t n) (l:Int)=some (Yy p t l):=by
 unfold idx dX;rw [Ac (by omega),Ab];exact Ur h
theorem sI {l:Nat} {y:Int} (h0:0<=y) (h1:y<(Ae p).length):idx (Yy p t l) y=some (tl (Cv p) (r0 p t) l y):=by
 obtain ⟨k,rfl⟩:=Ba h0;unfold idx Yy;rw [Ac h0,Ab];exact Ur (f:= λ(k:Nat)=>tl (Cv p) (r0 p t) l (k:Int)) (by omega)
theorem Abs {y:Int} (h0:0<=y) (h1:y<(Ae p).length):idx (Qg p) y=some (Cv p y.toNat):=by
 unfold idx Qg;rw [Ac h0];exact Ur (by omega)
end
theorem OT (p:PP) (t s:List Int) (k:Int) (h:Fo p/\short t/\short s):fnW Hf (look [(37,jR),(38,bG),(39,Dq),(40,Ge),(41,rG),(42,cC),(43,Zl),(44,Hb),(46,cD),(45,gE)]) Zk Try.f12 (p,t,s,k,()) (λ(z:List Int×List Int×Bool×Unit)=>z=Ln p t s k):=by
 obtain ⟨hp,ht,hs⟩:=h;unfold Ln
 by_cases hw:Ks p t=true
 ·have he:jR.fn ((p.1,p.2.1,p.2.2.1,()),t,())=some (Bq p.2.2.1 (upto p.1.toNat),Bq (Bc p t).2.2.1 (upto p.1.toNat),true,()):=(Ac ⟨hp,ht⟩).trans (Dz some (Ac hw));obtain ⟨Pd,zO⟩:=Lq.1 hw;have hv:=(Dl Pd).1;have hV:=valid hv;have cd:=Rj Pd zO;have Aik:=Ag3 (t:=t) Pd;rw [hw,Ta]
  obtain ⟨F,hF⟩: ∃F:SS,Bq p.2.2.1 (upto p.1.toNat)=F:=⟨_,rfl⟩
  obtain ⟨G,hG⟩: ∃G:SS,Bq (Bc p t).2.2.1 (upto p.1.toNat)=G:=⟨_,rfl⟩
  have hF1:F.1=Ae p:=by rw [<-hF];rfl
  rw [hF,hG] at he Aik
  have Aw6:iI (Cv p) (λi=>decide ((Ae p).getD i []∈G.1)) (Ae p).length=Ns p t:=by rw [<-hG];rfl
  refine Eq.mp (we p t s k _) ⟨_,he,Br.of (λhb=>by cases hb) λ_=>⟨_,Ac ⟨hp,hs,hv,hF.symm⟩,Br.of (λJq=>?_) λJq=>?_⟩⟩
  ·have Jq:decide (s∈Ae p)=false:=zo Jq;rw [Jq,Zq,Ai (by decide)];rfl
  have Jq:s∈Ae p:=Cx (Iv Jq);rw [Ci Jq,Ta];refine ⟨Lc k 0 2,Ac trivial,Br.of (λhr=>?_) λhr=>?_⟩
  ·have hr:decide (0<=k/\k<=2)=false:=zo hr;rw [hr,Ai (by decide)];rfl
  have hk:0<=k/\k<=2:=Cx (Iv hr);rw [Ac (Ci hk)];obtain ⟨i1,i2,i3⟩:=GM Jq;obtain ⟨o1,o2,_⟩:=AT Pd zO Jq;have Auy:=Ym Pd Jq;have hdl:=(BH Pd zO).1.1
  have mH:Nr (Ae p) s=(Ir p s).1:=by unfold Nr Ir;rw [Ac Jq,Ac Jq]
  have e8:Ge.fn (F,s,())=some (Ir p s).1:=by
   have h1:=sIx (p:=p) hv (fo hv Jq).1;rw [hF,mH] at h1;exact h1
  have hph:rG.fn (p,F,G,())=some (Ns p t):=(Ac (show ∃t',Ks p t'=true/\F=Bq p.2.2.1 (upto p.1.toNat)/\G=Bq (Bc p t').2.2.1 (upto p.1.toNat) from ⟨t,hw,hF.symm,hG.symm⟩)).trans (Dz some Aw6)
  have LD:(Ae p).idxOf s=(Ir p s).1.toNat:=by
   unfold Ir;rw [Ac Jq,Ab]
  have hid:idx (Ns p t) (Ir p s).1=some (Nc p (Ns p t) s):=by
   have h1:=Bu (xs:=Ns p t) (j:=(Ir p s).1.toNat) (by omega);rw [Int.toNat_of_nonneg i1] at h1;refine h1.trans (Dz some ?_);show (Ns p t)[(Ir p s).1.toNat]'(by omega)=(Ns p t).getD ((Ae p).idxOf s) 0;rw [LD,Bw (by omega)]
  refine ⟨_,e8,_,hph,_,hid,Br.dec (λAju=>?_) λAju=>?_⟩
  ·rw [Ac Aju];rfl
  rw [Ai Aju];have hnx:cC.fn (p,F,())=some (Qg p):=Ac ⟨Pd,hF.symm⟩;obtain ⟨KK,hKK⟩:=Ba hk.1;obtain ⟨SH,hSH⟩:=Ba o1;have YW:=KX hw Jq hk.1 (TT:=SH+KK+1) (by omega);have hwW:dq p t s k=sp (Cv p) (r0 p t) (Aq p.2.2.1.length) (Nl p t s k) (Ir p s).1:=rfl
  have hbL:Nl p t s k=Mk (λl=>tl (Cv p) (r0 p t) l (Ir p s).1) SH (KK+1):=by
   unfold Nl;rw [hSH,hKK];rfl
  obtain ⟨i,hie⟩: ∃i,(Ir p s).1=i:=⟨_,rfl⟩
  have hTd: ∃T:Nat->Int,T= λl=>tl (Cv p) (r0 p t) l i:=⟨_,rfl⟩
  obtain ⟨T,hTd⟩:=hTd;rw [hSH,Ab] at YW;rw [hie] at i1 i2 YW hwW hbL⊢;obtain ⟨⟨g1,g2,g3,g4⟩,n0,B1,_,_,g7,g8⟩:=YW
  have hTa: ∀l,tl (Cv p) (r0 p t) l i=T l:= λl=>by rw [hTd]
  rw [<-hTd] at hbL;rw [hTa] at g1;have Aup:=Adi (nx:=Cv p) (Am6 (p:=p) (t:=t) cd) (by decide)
  have hTb: ∀l,-1<=T l/\T l<=3000:= λl=>by rw [<-hTa];exact Aup l i
  have ewk:IntKind.i64.wrap (Nc p (Ns p t) s+k)=((SH+KK:Nat):Int):=by rw [Co (by omega) (by omega)];omega
  have hle:Zl.fn (F,G,Qg p,((SH+KK:Nat):Int),())=some (dX p t (SH+KK+1)):=by
   refine (Ac ⟨p,t,hw,hF.symm,hG.symm,rfl,by show (0:Int)<=((SH+KK:Nat):Int);omega,by show ((SH+KK:Nat):Int)<=4000;omega⟩).trans (Dz some ?_);show gf F G (Qg p) (((SH+KK:Nat):Int).toNat+1)=_;rw [Ab,Aik]
  refine ⟨_,hnx,dX p t (SH+KK+1),by rw [ewk];exact hle,?_⟩;rw [ewk,hSH];refine Dh.mk (λv=> ∃j:Nat,v=((Mk T SH j:Int),((SH+j:Nat):Int),p.1,p.2.1,p.2.2.1,F.1,F.2.1,F.2.2.1,F.2.2.2.1,G.1,G.2.1,G.2.2.1,G.2.2.2.1,())/\j<=KK+1) (λv=>(((SH+KK+1:Nat):Int)-v.2.1).toNat) ⟨0,rfl,Iz _⟩ ?_;rintro v ⟨j,rfl,hj⟩;dsimp only;have hbj:=pv g1 j
  have Qt:Mk T SH (j+1)=if 0<=T (SH+j)/\((SH+j:Nat):Int)+T (SH+j)<(Mk T SH j:Int)+T (Mk T SH j) then SH+j else Mk T SH j:=rfl
  refine Br.dec (λhl=>?_) λhl=>?_
  ·have hjK:j<=KK:=by omega
   obtain ⟨b,hbe⟩: ∃b,Mk T SH j=b:=⟨_,rfl⟩
   rw [hbe] at hbj Qt⊢;obtain ⟨b1,b2,b3,_,_⟩:=hbj;have SK:idx (dX p t (SH+KK+1)) ((SH+j:Nat):Int)=some (Yy p t (SH+j)):=om (by omega);have YV:idx (dX p t (SH+KK+1)) (b:Int)=some (Yy p t b):=om (by omega)
   have FZ:idx (Yy p t (SH+j)) i=some (T (SH+j)):=by rw [<-hTa];exact sI i1 i2
   have hc2:idx (Yy p t b) i=some (T b):=by rw [<-hTa];exact sI i1 i2
   have ewj:IntKind.i64.wrap (((SH+j:Nat):Int)+1)=((SH+(j+1):Nat):Int):=by rw [Bm (by omega)];rfl
   have YN:=hTb (SH+j);have hb2:=hTb b;refine ⟨_,SK,_,FZ,?_⟩;rw [ewj];refine Br.dec (λc1=>?_) λc1=>?_
   ·refine ⟨_,SK,_,FZ,_,YV,_,hc2,?_⟩;rw [Co (n:=((SH+j:Nat):Int)+T (SH+j)) (by omega) (by omega),Co (n:=(b:Int)+T b) (by omega) (by omega)];refine Br.dec (λc2=>?_) λc2=>?_
    ·rw [Ac ⟨c1,c2⟩] at Qt;exact ⟨⟨j+1,by rw [Qt],by omega⟩,by show (((SH+KK+1:Nat):Int)-((SH+(j+1):Nat):Int)).toNat<(((SH+KK+1:Nat):Int)-((SH+j:Nat):Int)).toNat;omega⟩
    ·rw [Ai λhh=>c2 hh.2] at Qt;exact ⟨⟨j+1,by rw [Qt],by omega⟩,by show (((SH+KK+1:Nat):Int)-((SH+(j+1):Nat):Int)).toNat<(((SH+KK+1:Nat):Int)-((SH+j:Nat):Int)).toNat;omega⟩
   ·rw [Ai λhh=>c1 hh.1] at Qt;exact ⟨⟨j+1,by rw [Qt],by omega⟩,by show (((SH+KK+1:Nat):Int)-((SH+(j+1):Nat):Int)).toNat<(((SH+KK+1:Nat):Int)-((SH+j:Nat):Int)).toNat;omega⟩
  ·have:j=KK+1:=by omega
   subst this;rw [<-hbL]
   obtain ⟨b,hbe⟩: ∃b,Nl p t s k=b:=⟨_,rfl⟩
   rw [hbe] at g2 g3 g4 g7 g8 hwW⊢
   obtain ⟨ls,bD⟩: ∃ls,Aq p.2.2.1.length=ls:=⟨_,rfl⟩
   have hlf:=Sn hV;rw [bD] at hlf hwW
   obtain ⟨W,hW⟩: ∃W,dq p t s k=W:=⟨_,rfl⟩
   rw [hW] at hwW g8⊢
   have GF: ∀y,(Cv p y).length=ls.length:= λy=>by rw [Sv,bD]
   have hR:=Tg Pd;refine ⟨ls,(Ac hV.eK.2).trans (Dz some bD),rfl,rfl,?_⟩
   refine Dh.mk (λv=> ∃(l:Nat) (y:Int) (w:List Int),v=(y,(l:Int),p.1,p.2.1,p.2.2.1,F.1,F.2.1,F.2.2.1,F.2.2.2.1,G.1,G.2.1,G.2.2.1,G.2.2.2.1,w,())/\(0<=y/\y<(Ae p).length)/\0<=tl (Cv p) (r0 p t) l y/\w.length+l=b/\(w++(sp (Cv p) (r0 p t) ls l y).1,(sp (Cv p) (r0 p t) ls l y).2)=W) (λv=>v.2.1.toNat)
    ⟨b,i,[],rfl,⟨i1,i2⟩,g4,by simp,by rw [hwW];rfl⟩ ?_
   rintro v ⟨l,y,w,rfl,⟨y0,y1⟩,hy,NJ,GI⟩;dsimp only;refine Br.dec (λcU=>?_) λcU=>?_
   ·obtain ⟨l,rfl⟩: ∃l',l=l'+1:=⟨l-1,by omega⟩
    have ewl:IntKind.i64.wrap (((l+1:Nat):Int)-1)=(l:Int):=by rw [Co (by omega) (by omega)];omega
    rw [ewl];have SL:idx (Qg p) y=some (Cv p y.toNat):=Abs y0 y1;have SK:idx (dX p t (SH+KK+1)) (l:Int)=some (Yy p t l):=om (by omega);have YV:idx (dX p t (SH+KK+1)) ((l+1:Nat):Int)=some (Yy p t (l+1)):=om (by omega);have hc2:idx (Yy p t (l+1)) y=some (tl (Cv p) (r0 p t) (l+1) y):=sI y0 y1;obtain ⟨z,hz,hze⟩:=CZ (nx:=Cv p) (r0:=r0 p t) (l:=l) (y:=y) hy
    obtain ⟨row,Qd⟩: ∃row,Cv p y.toNat=row:=⟨_,rfl⟩
    have Awc:=GF y.toNat;have hRy:=hR y.toNat (by omega)
    have Aqd:sp (Cv p) (r0 p t) ls (l+1) y=(ls.getD (row.findIdx λz=>decide (tl (Cv p) (r0 p t) l z=tl (Cv p) (r0 p t) (l+1) y)) 0::(sp (Cv p) (r0 p t) ls l (row.getD (row.findIdx λz=>decide (tl (Cv p) (r0 p t) l z=tl (Cv p) (r0 p t) (l+1) y)) 0)).1,(sp (Cv p) (r0 p t) ls l (row.getD (row.findIdx λz=>decide (tl (Cv p) (r0 p t) l z=tl (Cv p) (r0 p t) (l+1) y)) 0)).2):=by rw [<-Qd];rfl
    rw [Qd] at SL hz Awc hRy;refine ⟨rfl,rfl,?_⟩;refine Bt ls.length (λv=>v.2.1) (λq v=>v=(y,(q:Int),p.1,p.2.1,p.2.2.1,F.1,F.2.1,F.2.2.1,F.2.2.2.1,G.1,G.2.1,G.2.2.1,G.2.2.2.1,w,())/\ ∀q',q'<q->decide (tl (Cv p) (r0 p t) l (row.getD q' 0)=tl (Cv p) (r0 p t) (l+1) y)=false) rfl ⟨rfl,λq' h=>absurd h (Ea _)⟩ ?_;rintro q v K hq hqi ⟨rfl,hno⟩ hK;dsimp only;refine Br.dec (λhq2=>?_) λhq2=>?_
    ·have hq2:q<ls.length:=by omega
     have hqr:q<row.length:=by omega
     obtain ⟨x,hx⟩: ∃x,row[q]=x:=⟨_,rfl⟩
     have hxb:=hRy _ (Ah hqr)
     have hgx:row.getD q 0=x:=by rw [Bw hqr,hx]
     rw [hx] at hxb;have FZ:idx (Yy p t l) x=some (tl (Cv p) (r0 p t) l x):=sI hxb.1 hxb.2;refine ⟨_,SL,x,by rw [<-hx];exact Bu hqr,_,SK,_,FZ,_,YV,_,hc2,Br.of (λhc=>?_) λhc=>?_⟩
     ·have hc:tl (Cv p) (r0 p t) l x=tl (Cv p) (r0 p t) (l+1) y:=eq_of_beq hc;have hfi:(row.findIdx λz=>decide (tl (Cv p) (r0 p t) l z=tl (Cv p) (r0 p t) (l+1) y))=q:=dR (d:=0) hqr (by rw [hgx];exact Ci hc) hno;rw [hfi,hgx] at Aqd;rw [Aqd] at GI;have hlq:ls.getD q 0=ls[q]:=Bw hq2;refine ⟨_,Bu hq2,rfl,rfl,by show w.length+1<=4294967296;omega,rfl,rfl,⟨l,x,_,rfl,hxb,by rw [hc];exact hy,by rw [Av];show w.length+1+l=b;omega,?_⟩,by show ((l:Nat):Int).toNat<((l+1:Nat):Int).toNat;omega⟩;rw [<-GI,hlq];show ((w++ [ls[q]])++_,_)=_;rw [Bn];rfl
     ·have hc: ¬tl (Cv p) (r0 p t) l x=tl (Cv p) (r0 p t) (l+1) y:= λe=>by rw [e] at hc;simp at hc
      refine ⟨rfl,rfl,?_⟩;rw [Bm (by omega)];refine hK hq2 _ rfl ⟨rfl,λq' iE=>?_⟩
      by_cases e:q'=q
      ·rw [e,hgx];exact Ey hc
      ·exact hno q' (by omega)
    ·exfalso;obtain ⟨q',iE,hqe⟩:=Bg.1 hz;have:=hno q' (by omega);rw [Bw iE,hqe,Ci hze] at this;cases this
   ·have:l=0:=by omega
    subst this
    have hW1:W.1=w:=by rw [<-GI];exact iQ w
    have hW2:W.2=y:=by rw [<-GI];rfl
    have Oy:=OZ (p:=p) (t:=t) (y:=y) hy
    obtain ⟨x,LH⟩: ∃x,(Ae p).getD y.toNat []=x:=⟨_,rfl⟩
    rw [LH] at Oy
    have hfx:idx F.1 y=some x:=by
     obtain ⟨yn,rfl⟩:=Ba y0;rw [hF1,Bu (by omega),<-LH,Ab,Bw (by omega)]
    have h2l:(Me p t x).length<=3000:=by
     unfold Me;rw [Ct];exact FF cd Oy
    have Afx:cD.fn (p.1,p.2.1,p.2.2.1,t,G.1,G.2.1,G.2.2.1,G.2.2.2.1,x,())=some ((Me p t x,()),()):=Ac ⟨hp,hw,hG.symm,Oy⟩;have Wz:gE.fn (w,Me p t x,())=some (((Yx w (Me p t x)).1,(Yx w (Me p t x)).2.1,(Yx w (Me p t x)).2.2.1,()),()):=Ac ⟨show w.length<=4294967296 by omega,show (Me p t x).length<=4294967296 by omega⟩;refine ⟨x,hfx,_,Afx,rfl,rfl,rfl,rfl,_,Wz,?_⟩;rw [hW1,hW2,LH];simp only [Cl]
 ·have he:jR.fn ((p.1,p.2.1,p.2.2.1,()),t,())=some ((Ld p).1,(Ld p).1,false,()):=(Ac ⟨hp,ht⟩).trans (Dz some (Ai hw))
  rw [Gb _|>.mp hw,Zq,Zq,Ai (by decide)]
  exact Eq.mp (we p t s k _) ⟨_,he,Br.of (λ_=>rfl) λhb=>by cases hb⟩
theorem vF:Sound Try.prog 12 Zk:=
 Sound.Ho Ez (Bf PW (Bf xg (Bf a9 (Bf Qm (Bf XC (Bf CF (Bf xo (Bf Qw (Ic CH (Ic JF Ce)))))))))) mixed Try.func12 (by kernel_rfl) (by kernel_rfl) λx h=>OT x.1 x.2.1 x.2.2.1 x.2.2.2.1 h
theorem Ago (n:Int) (str:ByteArray) (g:List (List Int)) (t s:List Int) (k:Int) (h:Fo (n,str,g,())/\short t/\short s):
  fnMW (Ad7 [kx+53]) (look [(48,Sy),(49,Dq),(50,aA),(52,Sx),(53,dA),(54,dB),(55,cE)]) gG Try.f15 (n,str,g,t,s,k,()) (λ(z:(List Int×List Int×Bool×Unit)×Unit)=>z=(((Ln (n,str,g,()) t s k).1,(Ln (n,str,g,()) t s k).2.1,(Ln (n,str,g,()) t s k).2.2.1,()),())):=by
 obtain ⟨p,wJ⟩: ∃p:PP,p=(n,str,g,()):=⟨_,rfl⟩
 refine Eq.mp (Ahh n str g t s k _) ?_;rw [<-wJ] at h⊢;unfold Ln
 by_cases hw:Ks p t=true
 ·obtain ⟨Pd,zO⟩:=Lq.1 hw;have hv:=(Dl Pd).1;have cd:=Rj Pd zO;have he:Sy.fn (p,t,s,())=some (some (Eo p t),(Ir p s).1,(Ir p s).2.1,()):=(Ac h).trans (Dz some (Ac hw));rw [hw,Ta];refine ⟨_,he,?_⟩;dsimp only;rw [SR];refine Br.of (λhb=>?_) λhb=>?_
  ·have hb:decide (s∈Ae p)=false:=zo hb;rw [hb,Zq,Ai (by decide)];rfl
  have Jq:s∈Ae p:=Cx (Iv hb);rw [Ci Jq,Ta];refine ⟨Lc k 0 2,Ac trivial,Br.of (λhr=>?_) λhr=>?_⟩
  ·have hr:decide (0<=k/\k<=2)=false:=zo hr;rw [hr,Ai (by decide)];rfl
  have hk:0<=k/\k<=2:=Cx (Iv hr);rw [Ac (Ci hk)];have hdi:=UI hw;obtain ⟨i1,i2,i3⟩:=GM Jq;have hdl:=(BH Pd zO).1.1;obtain ⟨o1,o2,_⟩:=AT Pd zO Jq;have Auy:=Ym Pd Jq;obtain ⟨KK,hKK⟩:=Ba hk.1;obtain ⟨SH,hSH⟩:=Ba o1
  obtain ⟨T,hT⟩: ∃T:Nat,SH+KK+1=T:=⟨_,rfl⟩
  have YW:=KX hw Jq hk.1 (TT:=T) (by omega);have hwW:dq p t s k=sp (Cv p) (r0 p t) (Aq p.2.2.1.length) (Nl p t s k) (Ir p s).1:=rfl
  have LD:(Ae p).idxOf s=(Ir p s).1.toNat:=by
   unfold Ir;rw [Ac Jq,Ab]
  have hid:idx (Ns p t) (Ir p s).1=some (SH:Int):=by
   have h1:=Bu (xs:=Ns p t) (j:=(Ir p s).1.toNat) (by omega);rw [Int.toNat_of_nonneg i1] at h1;refine h1.trans (Dz some (Eq.trans ?_ hSH));show (Ns p t)[(Ir p s).1.toNat]'(by omega)=(Ns p t).getD ((Ae p).idxOf s) 0;rw [LD,Bw (by omega)]
  rw [hSH] at o1 o2 YW⊢
  obtain ⟨i,hie⟩: ∃i,(Ir p s).1=i:=⟨_,rfl⟩
  rw [hie] at i1 i2 i3 YW hwW hid⊢;have hlv:=kL Pd ⟨i1,i2⟩
  obtain ⟨sh,Al6⟩: ∃sh:Int,(SH:Int)=sh:=⟨_,rfl⟩
  rw [Al6] at YW hid o1 o2⊢;have ewr:IntKind.i64.wrap (sh+k)=sh+k:=Co (by omega) (by omega);refine ⟨Eo p t,rfl,Ns p t,hdi,sh,hid,rfl,rfl,?_⟩;rw [ewr]
  have Ap1:nu (Gr p):=⟨Pd,rfl⟩
  have Av3:nu (Gr (Bc p t)):=⟨cd,rfl⟩
  have Sd:(Gr p).2.1=Ae p:=(bh Pd).1;have hsd:(Gr (Bc p t)).2.2.1=Bj (Bc p t):=(bh cd).2;refine Bt T (λv=>v.2.2.2.1) (λj v=>v=((tu p t i sh j).1,(tu p t i sh j).2.1,(tu p t i sh j).2.2,(j:Int),Jp p i (j+1),())) rfl rfl ?_;rintro j v K hj u5 rfl hK;dsimp only;have hbs:=RJ cd i sh j;have LF:=cn p i (j+1);refine Br.dec (λhl=>?_) λhl=>?_
  ·have hl:j<T:=by omega
   have Ay:(Jp p i (j+1))[0+((j:Nat):Int).toNat]?=some (Hr p i j):=by
    rw [Bl,Ab,Ad (by omega),<-Bw (d:= []) (by omega),eV p i (by omega)]
   refine ⟨⟨by omega,by rw [LF];omega⟩,Hr p i j,Ay,rfl,rfl,?_⟩;have YS:=hlv j;have Qt:=py p t i sh j
   obtain ⟨V,hV⟩: ∃V,tu p t i sh j=V:=⟨_,rfl⟩
   rw [hV] at hbs Qt⊢;refine Bt (Hr p i j).length (λv=>v.2.2.2.1) (λn v=>v=((ag p t sh (j:Int) (Hr p i j) n V).1,(ag p t sh (j:Int) (Hr p i j) n V).2.1,(ag p t sh (j:Int) (Hr p i j) n V).2.2,(n:Int),Jp p i (j+1),())) rfl rfl ?_;rintro n v K2 hn lK rfl DT;dsimp only;have hR:=hbs.row cd n hn
   have Na:ag p t sh (j:Int) (Hr p i j) (n+1) V=fK p t sh (j:Int) (Hr p i j) (ag p t sh (j:Int) (Hr p i j) n V) n:=by
    unfold ag;rw [Gc,Fz];rfl
   obtain ⟨U,hU⟩: ∃U,ag p t sh (j:Int) (Hr p i j) n V=U:=⟨_,rfl⟩
   rw [hU] at hR Na⊢;refine Br.dec (λcU=>?_) λcU=>?_
   ·have cU:n<(Hr p i j).length:=by omega
    have hx:=YS.2 _ (Ah cU)
    obtain ⟨x,LH⟩: ∃x,(Hr p i j)[n]=x:=⟨_,rfl⟩
    have hg:(Hr p i j).getD n z0=x:=by rw [Bw cU,LH]
    rw [LH] at hx
    have zR:x.1.toNat<(Ae p).length:=by omega
    obtain ⟨y,hy⟩: ∃y,(Ae p)[x.1.toNat]=y:=⟨_,rfl⟩
    have hgy:(Ae p).getD x.1.toNat []=y:=by rw [Bw zR,hy]
    have hys:y∈Ae p:=by rw [<-hy];exact Ah zR
    have Afn:idx (Gr p).2.1 x.1=some y:=by
     have h1:=Bu (xs:=Ae p) (j:=x.1.toNat) zR;rw [Int.toNat_of_nonneg hx.1,hy] at h1;rw [Sd];exact h1
    have xW:Sx.fn ((Eo p t).2.2.1,y,())=some (Ir (Bc p t) y):=(Ac ⟨⟨Gr (Bc p t),rfl,Av3⟩,uP (fo hv hys)⟩).trans rfl;unfold fK at Na;rw [hg,hgy] at Na;refine ⟨x,by rw [<-LH];exact Bu cU,Eo p t,rfl,Eo p t,rfl,Gr p,rfl,y,Afn,Ir (Bc p t) y,xW,?_⟩;have ewn:IntKind.i64.wrap ((n:Int)+1)=((n+1:Nat):Int):=Bm (by have:=YS.1;omega);rw [ewn]
    by_cases c1:sh<=(j:Int)
    ·refine Br.dec (λ_=>?_) λhh=>absurd c1 hh
     by_cases c2:y∈Ae (Bc p t)
     ·have hye:(Ir (Bc p t) y).2.1=true:=by rw [SR,Ci c2]
      have hyi:(Ir (Bc p t) y).1=(((Ae (Bc p t)).idxOf y:Nat):Int):=by unfold Ir;rw [Ac c2]
      have hyl:=Ga c2;have Ayq:(Bj (Bc p t)).length=(Ae (Bc p t)).length:=(cH (Dl cd).1).len;have hdd:Jc (Ae (Bc p t)) (Bj (Bc p t)) y=(Bj (Bc p t)).getD ((Ae (Bc p t)).idxOf y) 0:=Ac c2
      obtain ⟨d,hd⟩: ∃d,Jc (Ae (Bc p t)) (Bj (Bc p t)) y=d:=⟨_,rfl⟩
      have hdb:=Ym cd c2;rw [hd] at Na hdd hdb
      have Ak7:idx (Gr (Bc p t)).2.2.1 (Ir (Bc p t) y).1=some d:=by
       rw [hsd,hyi,Bu (by omega),hdd,Bw (by omega)]
      have ewd:IntKind.i64.wrap ((j:Int)+d)=(j:Int)+d:=Co (by omega) (by omega)
      refine Br.of (λ_=>?_) λhh=>by rw [hye] at hh;cases hh
      refine Br.dec (λc3=>?_) λc3=>?_
      ·rw [Ac ⟨⟨c1,c2⟩,Or.inl c3⟩] at Na;refine ⟨Eo p t,rfl,Gr (Bc p t),rfl,d,Ak7,rfl,rfl,?_⟩;rw [ewd];exact DT cU _ rfl (by rw [Na])
      ·refine ⟨Eo p t,rfl,Gr (Bc p t),rfl,d,Ak7,?_⟩;rw [ewd];refine Br.dec (λc4=>?_) λc4=>?_
       ·rw [Ac ⟨⟨c1,c2⟩,Or.inr c4⟩] at Na;refine ⟨Eo p t,rfl,Gr (Bc p t),rfl,d,Ak7,rfl,rfl,?_⟩;rw [ewd];exact DT cU _ rfl (by rw [Na])
       ·rw [Ai (λhh=>hh.2.elim c3 c4)] at Na;exact ⟨rfl,rfl,DT cU _ rfl (by rw [Na])⟩
     ·have hye:(Ir (Bc p t) y).2.1=false:=by rw [SR,Ey c2]
      refine Br.of (λhh=>by rw [hye] at hh;cases hh) λ_=>?_;rw [Ai (λhh=>c2 hh.1.2)] at Na;exact ⟨rfl,rfl,DT cU _ rfl (by rw [Na])⟩
    ·refine Br.dec (λhh=>absurd hh c1) λ_=>?_;rw [Ai (λhh=>c1 hh.1.1)] at Na;exact ⟨rfl,rfl,DT cU _ rfl (by rw [Na])⟩
   ·have:n=(Hr p i j).length:=by omega
    subst this;have Avt:dA.fn (some (Eo p t),Hr p i j,())=some (Hr p i (j+1)):=Ac ⟨p,t,hw,rfl,YS⟩;refine ⟨⟨by omega,by rw [LF];omega⟩,Hr p i j,Ay,Hr p i (j+1),Avt,rfl,rfl,by rw [LF];show j+1+1<=4294967296;omega,rfl,rfl,?_⟩
    have hl3:Jp p i (j+1)++ [Hr p i (j+1)]=Jp p i (j+1+1):=by
     unfold Jp;rw [Gc (n:=j+1),Hj];rfl
    rw [Bm (by omega)];refine hK hl _ rfl ?_;rw [Qt,hU];show (_,_,_,_,Jp p i (j+1)++ [Hr p i (j+1)],())=_;rw [hl3]
  ·have:j=T:=by omega
   subst this
   obtain ⟨a,hae⟩: ∃a,Nl p t s k=a:=⟨_,rfl⟩
   obtain ⟨W,hW⟩: ∃W,dq p t s k=W:=⟨_,rfl⟩
   rw [hae] at YW hwW;rw [hW] at YW hwW⊢;obtain ⟨⟨_,ha0,ha,_⟩,m,B1,hB,hm,Oy,hwd⟩:=YW
   have hW1:ao (Jp p i (a+1)) (m:Int)=W.1:=by rw [<-hwd]
   have hW2:wv p i a m=W.2:=by rw [<-hwd]
   have hWl:W.1.length=a:=by rw [hwW];exact Acs a i
   rw [hB];dsimp only
   have Ay:(Jp p i (j+1))[0+((a:Nat):Int).toNat]?=some (Hr p i a):=by
    rw [Bl,Ab,Ad (by omega),<-Bw (d:= []) (by omega),eV p i (by omega)]
   have hx:=(hlv a).2 _ (Ah hm)
   have Awo:(Ae p).getD ((Hr p i a)[m]).1.toNat []=kX p i a m:=by unfold kX;rw [Bw hm]
   have Awn:(Ae p).getD W.2.toNat []=kX p i a m:=by rw [<-hW2];rfl
   rw [Awn]
   have Afx:dB.fn (some (Eo p t),((Hr p i a)[m]).1,())=some (TA (Me p t (kX p i a m)),()):=by
    refine (Ac ⟨p,t,hw,rfl,hx.1,hx.2⟩).trans (Dz some ?_);show (kN p t ((Ae p).getD ((Hr p i a)[m]).1.toNat []),())=_;rw [Awo,Amm Pd zO Oy]
   obtain ⟨w2,hw2⟩: ∃w2,Me p t (kX p i a m)=w2:=⟨_,rfl⟩
   rw [hw2] at Afx⊢;refine ⟨⟨by omega,by omega⟩,Hr p i a,Ay,_,Bu hm,_,Afx,?_⟩;unfold TA Yx
   by_cases c2:w2.length>200
   ·rw [Ac c2]
    refine Br.of (λ_=>?_) λhh=>by cases hh
    have e:(if sh>200 then (([],[],false,()):List Int×List Int×Bool×Unit) else if W.1.length>200\/w2.length>200 then ([],[],false,()) else (W.1,w2,true,()))=([],[],false,()):=by
     split
     ·rfl
     ·rw [Ac (Or.inr c2)]
    rw [e];rfl
   rw [Ai c2];refine Br.of (λhh=>by cases hh) λ_=>Br.dec (λc3=>?_) λc3=>?_
   ·have c3:(a:Int)>200:=c3
    have e:(if sh>200 then (([],[],false,()):List Int×List Int×Bool×Unit) else if W.1.length>200\/w2.length>200 then ([],[],false,()) else (W.1,w2,true,()))=([],[],false,()):=by
     split
     ·rfl
     ·rw [Ac (Or.inl (by omega))]
    rw [e];rfl
   ·have c3: ¬(a:Int)>200:=c3;rw [Ai (show ¬sh>200 by omega),Ai (show ¬(W.1.length>200\/w2.length>200) by omega)];have ewa:IntKind.i64.wrap ((a:Int)+1)=((a+1:Nat):Int):=Bm (by omega);rw [ewa]
    have Kr:List.take (((a+1:Nat):Int).toNat-Int.toNat 0) (List.drop (0+Int.toNat 0) (Jp p i (j+1)))=Jp p i (a+1):=by
     show List.take (((a+1:Nat):Int).toNat-0) (List.drop 0 (Jp p i (j+1)))=_;rw [Ab,Cw,Nat.sub_zero,HF p i (by omega)]
    rw [Kr]
    have hwo:cE.fn (Jp p i (a+1),(m:Int),())=some ((ao (Jp p i (a+1)) (m:Int),()),()):=Ac ⟨⟨by rw [cn];omega,by rw [cn];omega⟩,by
     show LN (Jp p i (a+1)) ((Jp p i (a+1)).length-1) (m:Int);rw [cn]
     exact Ajg Pd ⟨i1,i2⟩ a m (Nat.lt_succ_self a) hm⟩
    refine ⟨⟨by omega,by omega,by rw [LF];omega⟩,_,hwo,?_⟩;rw [Cl,Cl,hW1]
 ·have he:Sy.fn (p,t,s,())=some (none,0,false,()):=(Ac h).trans (Dz some (Ai hw))
  rw [Gb _|>.mp hw,Zq,Zq,Ai (by decide)]
  exact ⟨_,he,Br.of (λ_=>rfl) λhb=>by cases hb⟩
theorem JP:Ds Try.prog 15 gG:=
 Ds.cW (Ad8 [kx+53]) (Bf vB (Bf Tn (Bf CC (Bf gH (Bf JI (Ic JM (Ic CJ Ce))))))) mixed Try.func15 (by kernel_rfl) (by kernel_rfl) λx h=>Ago x.1 x.2.1 x.2.2.1 x.2.2.2.1 x.2.2.2.2.1 x.2.2.2.2.2.1 h
theorem wg {p:PP} {t s:List Int} {k:Int} :(Ln p t s k).1.length<=200/\(Ln p t s k).2.1.length<=200:=by
 unfold Ln Yx;split
 ·split
  ·exact ⟨by simp,by simp⟩
  ·split
   ·exact ⟨by simp,by simp⟩
   ·rename_i h;exact ⟨by dsimp only;omega,by dsimp only;omega⟩
 ·exact ⟨by simp,by simp⟩
theorem wi {p:PP} {t s:List Int} {k:Int} :short (Ln p t s k).1/\short (Ln p t s k).2.1:=by
 obtain ⟨h1,h2⟩:=wg (p:=p) (t:=t) (s:=s) (k:=k);exact ⟨by unfold short;omega,by unfold short;omega⟩
theorem YE {p:PP} {t s:List Int} {k:Int} :low (1+((Ln p t s k).1.length:Nat)):=by
 obtain ⟨h1,h2⟩:=wg (p:=p) (t:=t) (s:=s) (k:=k);exact ⟨by omega,by omega⟩
theorem YF {p:PP} {t s:List Int} {k:Int} :low (1+((Ln p t s k).1.length:Nat)+((Ln p t s k).2.1.length:Nat)):=by
 obtain ⟨h1,h2⟩:=wg (p:=p) (t:=t) (s:=s) (k:=k);exact ⟨by omega,by omega⟩
theorem WE (p:PP) (a:List Int) (b:List Int) (k:Int) (h:Fo p/\short a/\short b):fnW Hf (look [(11,yO),(12,Zk),(15,gG),(13,cY.b yP Qa),(14,cY.b rH Tz),(17,yK),(16,Fh),(18,Ti),(19,Vg),(20,bq)]) qg Try.f4 (p,a,b,k,()) (λ(z:Bool)=>z=true):=by
 have h0:Fo (p.1,p.2.1,p.2.2.1,()):=h.1;have h1:short a:=h.2.1;have h2:short b:=h.2.2;refine Eq.mp (XX p a b k _) ?_;refine Br.dec (λ_=>rfl) λBbr=>?_;refine Br.dec (λ_=>rfl) λBbs=>?_;refine ⟨_,Ac ⟨h0,IX⟩,Br.dec (λ_=>rfl) λAwe=>?_⟩;have Aqn:(((Gh p.2.2.1:Nat):Nat):Int)<=(1048576)-(jA (p.1,p.2.1,p.2.2.1,()) (1048576))/\roomy (jA (p.1,p.2.1,p.2.2.1,()) (1048576)):=Ad1 IX Awe;have Bcz:=Aqn.1;have Bc5:0<=jA (p.1,p.2.1,p.2.2.1,()) (1048576)/\jA (p.1,p.2.1,p.2.2.1,()) (1048576)<=4294967296:=Aqn.2
 have l0:low (1+(Gh p.2.2.1:Nat)):=⟨by omega,by omega⟩
 have l1:low (1+(Gh p.2.2.1:Nat)+(a.length:Nat)):=⟨by omega,by omega⟩
 have l2:low (1+(Gh p.2.2.1:Nat)+(a.length:Nat)+(b.length:Nat)):=⟨by omega,by omega⟩
 refine ⟨_,Ac h0,_,Ac h1,_,Ac h2,?_⟩;simp only [Cl];refine ⟨_,Ac ⟨h0,h1,h2⟩,_,Ac h0,_,Ac h1,_,Ac h2,?_⟩;have hg0:short ((Ln p a b k).1):=wi.1;have hg1:short ((Ln p a b k).2.1):=wi.2;have Aam:low (1+(List.length ((Ln p a b k).1):Nat)):=YE;have Aan:low (1+(List.length ((Ln p a b k).1):Nat)+(List.length ((Ln p a b k).2.1):Nat)):=YF;generalize he0:(Ln p a b k).1=g0 at hg0 Aam Aan;generalize he1:(Ln p a b k).2.1=g1 at hg1 Aam Aan;generalize he2:(Ln p a b k).2.2.1=g2;refine ⟨_,Ac ⟨h0,h1,h2⟩,?_⟩;simp only [he0,he1,he2];refine ⟨_,Ac hg0,⟨λhe=>absurd (Jv _) (Gs he),λ_=>?_⟩⟩;refine ⟨_,Ac hg1,⟨λhe=>absurd (Jv _) (Gs he),λ_=>?_⟩⟩;refine ⟨λhe=>px he,λ_=>?_⟩
 refine ⟨_,Ac h0,_,Ac h0,⟨λhe=>absurd (NZ _) (Gs he),λ_=>?_⟩⟩;refine ⟨_,Ac h1,?_⟩;refine ⟨_,Ac h1,⟨λhe=>absurd (Jv _) (Gs he),λ_=>?_⟩⟩;refine ⟨_,Ac h2,?_⟩;refine ⟨_,Ac h2,⟨λhe=>absurd (Jv _) (Gs he),λ_=>?_⟩⟩;refine ⟨trivial,trivial,_,Ac ⟨h0.2,sJ,l0⟩,⟨dY _ _,trivial⟩,trivial,trivial,_,Ac ⟨h1,l0⟩,⟨Ok _ _,trivial⟩,trivial,trivial,_,Ac ⟨h2,l1⟩,⟨Ok _ _,trivial⟩,Br.dec (λhn=>absurd l2.1 (Int.not_le.2 hn)) λ_=>?_⟩;refine ⟨_,Ac hg0,⟨λhe=>absurd (Jv _) (Gs he),λ_=>?_⟩⟩;refine ⟨_,Ac hg1,⟨λhe=>absurd (Jv _) (Gs he),λ_=>?_⟩⟩;refine ⟨λhe=>px he,λ_=>?_⟩;have m0:low (1+(g0.length:Nat)):=Aam;refine ⟨trivial,trivial,_,Ac ⟨hg0,sJ⟩,⟨Ok _ _,trivial⟩,?_⟩;have m1:low (1+(g0.length:Nat)+(g1.length:Nat)):=Aan
 refine ⟨trivial,trivial,_,Ac ⟨hg1,m0⟩,⟨Ok _ _,trivial⟩,?_⟩;simp only [KW]
 have hm0: ∀k,short (Lx k g0.length):= λk=>by unfold short at*;rw [Ok];exact hg0
 have hm1: ∀k,short (Lx k g1.length):= λk=>by unfold short at*;rw [Ok];exact hg1
 refine ⟨_,Ac ⟨hm0 _,sJ⟩,?_⟩;simp only [Zz];refine Br.dec (λhn=>by omega) λ_=>?_;refine ⟨_,Ac ⟨hm1 _,m0⟩,?_⟩;simp only [Zz]
 refine Br.dec (λhn=>by omega) λ_=>⟨λhe=>by simp at he,λ_=>?_⟩
 refine ⟨_,Ac h0,_,Ac h1,_,Ac h2,?_⟩;refine ⟨_,Ac ⟨h0,h1,h2⟩,?_⟩;simp only [he0,he1,he2];refine ⟨_,Ac hg0,⟨λhe=>absurd (Jv _) (Gs he),λ_=>?_⟩⟩;refine ⟨_,Ac hg1,⟨λhe=>absurd (Jv _) (Gs he),λ_=>?_⟩⟩;refine ⟨λhe=>px he,λ_=>?_⟩;refine ⟨_,Ac ⟨hm0 _,sJ⟩,?_⟩;simp only [Zz];refine Br.dec (λhn=>by omega) λ_=>?_;refine ⟨_,Ac ⟨hm1 _,m0⟩,?_⟩;simp only [Zz]
 exact Br.dec (λhn=>by omega) λ_=>⟨λhe=>by simp at he,λ_=>trivial⟩
theorem xk:Sound Try.prog 4 qg:=
 Sound.Ho Ez (Bf XE (Bf vF (Ic JP (FH XF ss (FH yU vH (Bf WZ (Bf yT (Ic qn (Ic rJ (Bf JH Ce)))))))))) mixed Try.func4 (by kernel_rfl) (by kernel_rfl) λx h=>WE x.1 x.2.1 x.2.2.1 x.2.2.2.1 h
end Go.Proofs.Ytfgfigkbgecfnaa
