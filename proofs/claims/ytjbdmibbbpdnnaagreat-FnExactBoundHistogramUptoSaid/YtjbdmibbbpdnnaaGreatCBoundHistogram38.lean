/-
  Part 39 of the proof that the statement FnExactBoundHistogram holds.
-/
import Derived.Test.YtjbdmibbbpdnnaaGreatCBoundHistogram37
namespace Go.Proofs.YtjbdmibbbpdnnaaGreat
open Go.RowKit
noncomputable def Co (p:PP) (t:List Int):Bool:=Bf p&&Sh p.1 t
noncomputable def De (p:PP) (t:List Int):Bool:=Co p t&&(Cu p.2.2.1 t).2.2
noncomputable abbrev Ev:Spec:=Cv (.pair Dn (.pair tL .unit)) .bool false true (λx=>Cf x.1/\short x.2.1) (λx=>Co x.1 x.2.1)
noncomputable def Jt (p:PP) (t:List Int):SS:=if Co p t=true then Fe p.2.2.1 t else ([],[],[],false,())
noncomputable abbrev Oj:Spec:=Cv (.pair Dn (.pair tL .unit)) (.pair aS (.pair .bool .unit)) true false (λx=>Cf x.1/\short x.2.1) (λx=>(Jt x.1 x.2.1,De x.1 x.2.1,()))
noncomputable abbrev Lo:Spec:=Cv (.pair Zp .unit) Zp false true (λx=>Dx x.1) (λx=>x.1)
noncomputable def Du (p:PP) (t:List Int):TT:=if De p t=true then (t,(Cu p.2.2.1 t).1,(Cu p.2.2.1 t).2.1,()) else ([],[],[],())
noncomputable abbrev Ok:Spec:=Cv (.pair Dn (.pair tL .unit)) (.pair Gl (.pair .bool .unit)) true true (λx=>Cf x.1/\short x.2.1) (λx=>(Du x.1 x.2.1,De x.1 x.2.1,()))
noncomputable abbrev Rc:MSpec:=Wb [some 3,none] [(false, .Ee tI),(false, .Ee .str),(false, .Ee Zp),(false, .Ee tL)] true [none,none,none] [SY,rL, .Ee .bool]
 (λx=>Co (x.1,x.2.1,x.2.2.1,()) x.2.2.2.1=true) (λx=>(((Du (x.1,x.2.1,x.2.2.1,()) x.2.2.2.1).2.1,(Du (x.1,x.2.1,x.2.2.1,()) x.2.2.2.1).2.2.1,De (x.1,x.2.1,x.2.2.1,()) x.2.2.2.1,()),()))
noncomputable abbrev Re:MSpec:=Wb [some 3,none] [(false, .Ee tI),(false, .Ee .str),(false, .Ee Zp),(false, .Ee tL)] true [none,none,none] [SY,rL, .Ee .bool]
 (λx=>Cf (x.1,x.2.1,x.2.2.1,())/\short x.2.2.2.1) (λx=>(((Du (x.1,x.2.1,x.2.2.1,()) x.2.2.2.1).2.1,(Du (x.1,x.2.1,x.2.2.1,()) x.2.2.2.1).2.2.1,De (x.1,x.2.1,x.2.2.1,()) x.2.2.2.1,()),()))
noncomputable abbrev Og:MSpec:=Wb [some 3,none] [(false, .Ee tI),(false, .Ee .str),(false, .Ee Zp),(false, .Ee tL)] true [some 3,none] [rL,SY,rL, .Ee .bool]
 (λx=>Cf (x.1,x.2.1,x.2.2.1,())/\short x.2.2.2.1) (λx=>(((Du (x.1,x.2.1,x.2.2.1,()) x.2.2.2.1).1,(Du (x.1,x.2.1,x.2.2.1,()) x.2.2.2.1).2.1,(Du (x.1,x.2.1,x.2.2.1,()) x.2.2.2.1).2.2.1,De (x.1,x.2.1,x.2.2.1,()) x.2.2.2.1,()),()))
noncomputable def Dh (p:PP) (t:TT):Bool:=De p t.1&&Js (Du p t.1) t
noncomputable abbrev Kj:Spec:=Cv (.pair Dn (.pair Gl .unit)) .bool false true (λx=>Cf x.1/\Iv x.2.1) (λx=>Dh x.1 x.2.1)
abbrev xD:Ty:= .slice Gl
def En (ts:List TT):Prop:=ts.length<=4294967296/\ ∀t∈ts,Iv t
noncomputable def Eg (p:PP) (ts:List TT):Bool:=Bf p&&decide (ts.length<=4)&&List.all ts (Dh p)
noncomputable abbrev Gv:Spec:=Cv (.pair Dn (.pair xD .unit)) .bool false true (λx=>Cf x.1/\En x.2.1) (λx=>Eg x.1 x.2.1)
abbrev Abl:Ty:= .clo 48 (.pair (.ptr Dn) .unit)
noncomputable abbrev rH:Spec:=Cv (.pair Gl (.pair (.ptr Dn) .unit)) .bool false true (λx=>Iv x.1/\Cf x.2.1) (λx=>!Dh x.2.1 x.1)
def Lk (q:TT->Bool):List TT->Int->Int
 | [],_=> -1
 |t::ts,k=>if q t=true then k else Lk q ts (k+1)
noncomputable abbrev jH:Spec:=Cv (.pair xD (.pair Abl .unit)) tI false true (λx=>En x.1/\Cf x.2.1.1) (λx=>Lk (λt=>!Dh x.2.1.1 t) x.1 0)
noncomputable abbrev jF:Spec:=Cv (.pair xD (.pair Abl .unit)) .bool false true (λx=>En x.1/\Cf x.2.1.1) (λx=>List.any x.1 (λt=>!Dh x.2.1.1 t))
noncomputable abbrev nY:Spec:=Cv (.pair Dn (.pair xD .unit)) .bool false true (λx=>Cf x.1/\En x.2.1) (λ_=>true)
def Vx:List TT->Int->Int
 | [],room=>room
 |t::ts,room=>if Hi t room<0 then-1 else Vx ts (Hi t room)
def Vn (ts:List TT) (room:Int):Int:=if room-ts.length<0 then-1 else Vx ts (room-ts.length)
noncomputable abbrev jI:Spec:=Cv (.pair xD (.pair tI .unit)) tI false true (λx=>En x.1/\roomy x.2.1) (λx=>Vn x.1 x.2.1)
noncomputable abbrev nZ:Spec:=Cv (.pair xD .unit) xD false true (λx=>En x.1) (λx=>x.1)
noncomputable abbrev jG:Spec:=Cv (.pair xD (.pair xD .unit)) .bool false true (λx=>En x.1) (λx=>decide (x.1=x.2.1))
theorem qh (p:Int×ByteArray×List (List Int)×Unit) (t:List Int) (P:Bool->Prop):(∃(y3:Bool),Dw.fn ((p.1,p.2.1,p.2.2.1,()),())=some y3/\Br y3 (∃(y4:Bool),Fv.fn (p.1,t,())=some y4/\P y4) (P false))=fnW Cl (look [(46,Dw),(102,Fv)]) Ev Tryz.f97 (p,t,()) P:=by kernel_rfl
theorem ql (p:Int×ByteArray×List (List Int)×Unit) (t:List Int) (P:Bool->Prop):(∃(y3:Bool),Dw.fn ((p.1,p.2.1,p.2.2.1,()),())=some y3/\Br y3 (∃(y4:Bool),Fv.fn (p.1,t,())=some y4/\P y4) (P false))=fnW Cl (look [(33,Dw),(101,Fv)]) Ev Tryz.f94 (p,t,()) P:=by kernel_rfl
theorem xU (p:Int×ByteArray×List (List Int)×Unit) (t:List Int) (P:((List (List Int)×List Int×List Int×Bool×Unit)×Bool×Unit)->Prop):(∃(y3:Bool),Ev.fn ((p.1,p.2.1,p.2.2.1,()),t,())=some y3/\Br (!y3) (P ((List.take 0 (List.drop 0 []),List.take 0 (List.drop 0 []),List.take 0 (List.drop 0 []),false,()),false,())) (∃(y4:List (List Int)×List Int×List Int×Bool×PUnit),Cz.fn ((p.1,p.2.1,p.2.2.1,()),t,())=some y4/\((P ((y4.1,y4.2.1,y4.2.2.1,y4.2.2.2.1,()),y4.2.2.2.1,())/\P ((y4.1,y4.2.1,y4.2.2.1,y4.2.2.2.1,()),y4.2.2.2.1,()))/\P ((y4.1,y4.2.1,y4.2.2.1,y4.2.2.2.1,()),y4.2.2.2.1,()))/\(P ((y4.1,y4.2.1,y4.2.2.1,y4.2.2.2.1,()),y4.2.2.2.1,())/\P ((y4.1,y4.2.1,y4.2.2.1,y4.2.2.2.1,()),y4.2.2.2.1,()))/\P ((y4.1,y4.2.1,y4.2.2.1,y4.2.2.2.1,()),y4.2.2.2.1,())))=fnW Cl (look [(94,Ev),(34,Cz)]) Oj Tryz.f78 (p,t,()) P:=by kernel_rfl
theorem xL (l:List (List Int)) (P:List (List Int)->Prop):(0=0/\0=([]:List Int).length/\Bi (λ(v2:Int×List (List Int)×PUnit) (k3:Int×List (List Int)×PUnit->Prop)=>Br (decide (v2.1<(↑l.length:Int))) (∃(y4:List Int),idx l v2.1=some y4/\ ∃(y5:List Int),Fp.fn (y4,())=some y5/\0=0/\v2.2.1.length=v2.2.1.length/\v2.2.1.length+(List.take 1 (List.drop 0 [y5])).length<=Bg/\0=0/\(v2.2.1++List.take 1 (List.drop 0 [y5])).length=(v2.2.1++List.take 1 (List.drop 0 [y5])).length/\k3 (IntKind.i64.wrap (v2.1+(1:Int)),v2.2.1++List.take 1 (List.drop 0 [y5]),())) (P (List.take v2.2.1.length (List.drop 0 v2.2.1)))) ((0:Int),[],PUnit.unit))=fnW Cl (look [(55,Fp)]) Lo Tryz.f79 (l,()) P:=by kernel_rfl
theorem xV (p:Int×ByteArray×List (List Int)×Unit) (t:List Int) (P:((List Int×List (List Int)×List Int×Unit)×Bool×Unit)->Prop):(∃(y3:(List (List Int)×List Int×List Int×Bool×PUnit)×Bool×PUnit),Oj.fn ((p.1,p.2.1,p.2.2.1,()),t,())=some y3/\Br (!y3.2.1) (P ((List.take 0 (List.drop 0 []),List.take 0 (List.drop 0 []),List.take 0 (List.drop 0 []),()),false,())) (∃(y4:List Int),Fp.fn (t,())=some y4/\ ∃(y5:List (List Int)),Lo.fn (y3.1.1,())=some y5/\ ∃(y6:List Int),Fp.fn (y3.1.2.1,())=some y6/\P ((y4,y5,y6,()),true,())))=fnW Cl (look [(78,Oj),(55,Fp),(79,Lo)]) Ok Tryz.f59 (p,t,()) P:=by kernel_rfl
abbrev Wz:Type:=Int×List (List Int)×List (List Int)×List Int×(ByteArray->Option Bool)×PUnit
abbrev kW:Type:=Int×Int×ByteArray×List (List Int)×List (List Int)×List (List Int)×List Int×(ByteArray->Option Bool)×PUnit
theorem AU (n:Int) (str:ByteArray) (g:List (List Int)) (t:List Int) (P:((List (List Int)×List Int×Bool×Unit)×Unit)->Prop):(∃(y5:(List Int×PUnit)×PUnit),Vt.fn (t,())=some y5/\ ∃(y6:ByteArray),Cm.fn (t,())=some y6/\ ∃(y7:List Int),Ic.fn ((↑g.length:Int),())=some y7/\0=0/\1= [List.take y5.1.1.length (List.drop 0 y5.1.1)].length/\0=0/\1= [(0:Int)].length/\0=0/\0=([]:List Int).length/\Bi (λ(v8:kW) (k9:kW->Prop)=>Br (decide (v8.1<(↑y7.length:Int))) (∃(bC:Int),idx y7 v8.1=some bC/\ ∃(iX:List Int),Ke.fn (v8.2.2.2.1,bC,())=some iX/\0=0/\v8.2.2.2.2.1.length=v8.2.2.2.2.1.length/\v8.2.2.2.2.1.length+(List.take 1 (List.drop 0 [iX])).length<=Bg/\0=0/\v8.2.2.2.2.2.1.length=v8.2.2.2.2.2.1.length/\0=0/\v8.2.2.2.2.2.2.1.length=v8.2.2.2.2.2.2.1.length/\0=0/\(v8.2.2.2.2.1++List.take 1 (List.drop 0 [iX])).length=(v8.2.2.2.2.1++List.take 1 (List.drop 0 [iX])).length/\k9 (IntKind.i64.wrap (v8.1+(1:Int)),v8.2.1,v8.2.2.1,v8.2.2.2.1,v8.2.2.2.2.1++List.take 1 (List.drop 0 [iX]),v8.2.2.2.2.2.1,v8.2.2.2.2.2.2.1,v8.2.2.2.2.2.2.2.1,())) (0=0/\v8.2.2.2.2.2.1.length=v8.2.2.2.2.2.1.length/\0=0/\v8.2.2.2.2.2.2.1.length=v8.2.2.2.2.2.2.1.length/\0=0/\v8.2.2.2.2.1.length=v8.2.2.2.2.1.length/\Bi (λ(v10:Wz) (k11:Wz->Prop)=>Br (decide (v10.1<(↑v10.2.2.1.length:Int))) (0=0/\v10.2.2.1.length=v10.2.2.1.length/\0=0/\v10.2.2.2.1.length=v10.2.2.2.1.length/\0=0/\v10.2.1.length=v10.2.1.length/\0=0/\v10.2.1.length=v10.2.1.length/\Bi (λ(Iz:Wz) (k13:Wz->Prop)=>Br (decide (Iz.1<(↑v10.2.1.length:Int))) (((0:Int)<=Iz.1/\Iz.1<(↑Iz.2.1.length:Int))/\ ∃(aX:List Int),Iz.2.1[0+Iz.1.toNat]?=some aX/\((0:Int)<=v10.1/\v10.1<(↑Iz.2.2.1.length:Int))/\ ∃(iT:List Int),Iz.2.2.1[0+v10.1.toNat]?=some iT/\ ∃(lO:(List Int×PUnit)×PUnit),Uk.fn (aX,iT,())=some lO/\ ∃(BE:ByteArray),Cm.fn (List.take lO.1.1.length (List.drop 0 lO.1.1),())=some BE/\Br (!(Iz.2.2.2.2.1 BE).getD false) (Br ((↑Iz.2.2.1.length:Int)==(3000:Int)) (P ((List.take 0 (List.drop 0 []),List.take 0 (List.drop 0 []),false,()),())) (0=0/\Iz.2.2.1.length=Iz.2.2.1.length/\Iz.2.2.1.length+(List.take 1 (List.drop 0 [List.take lO.1.1.length (List.drop 0 lO.1.1)])).length<=Bg/\((0:Int)<=v10.1/\v10.1<(↑Iz.2.2.2.1.length:Int))/\ ∃(HM:Int),Iz.2.2.2.1[0+v10.1.toNat]?=some HM/\0=0/\Iz.2.2.2.1.length=Iz.2.2.2.1.length/\Iz.2.2.2.1.length+(List.take 1 (List.drop 0 [IntKind.i64.wrap (HM+(1:Int))])).length<=Bg/\0=0/\(Iz.2.2.1++List.take 1 (List.drop 0 [List.take lO.1.1.length (List.drop 0 lO.1.1)])).length=(Iz.2.2.1++List.take 1 (List.drop 0 [List.take lO.1.1.length (List.drop 0 lO.1.1)])).length/\0=0/\(Iz.2.2.2.1++List.take 1 (List.drop 0 [IntKind.i64.wrap (HM+(1:Int))])).length=(Iz.2.2.2.1++List.take 1 (List.drop 0 [IntKind.i64.wrap (HM+(1:Int))])).length/\0=0/\Iz.2.1.length=Iz.2.1.length/\0=0/\Iz.2.1.length=Iz.2.1.length/\k13 (IntKind.i64.wrap (Iz.1+(1:Int)),Iz.2.1,Iz.2.2.1++List.take 1 (List.drop 0 [List.take lO.1.1.length (List.drop 0 lO.1.1)]),Iz.2.2.2.1++List.take 1 (List.drop 0 [IntKind.i64.wrap (HM+(1:Int))]),Sp Iz.2.2.2.2.1 BE true,()))) (0=0/\Iz.2.2.1.length=Iz.2.2.1.length/\0=0/\Iz.2.2.2.1.length=Iz.2.2.2.1.length/\0=0/\Iz.2.1.length=Iz.2.1.length/\0=0/\Iz.2.1.length=Iz.2.1.length/\k13 (IntKind.i64.wrap (Iz.1+(1:Int)),Iz.2.1,Iz.2.2.1,Iz.2.2.2.1,Iz.2.2.2.2.1,()))) (0=0/\Iz.2.2.1.length=Iz.2.2.1.length/\0=0/\Iz.2.2.2.1.length=Iz.2.2.2.1.length/\0=0/\Iz.2.1.length=Iz.2.1.length/\k11 (IntKind.i64.wrap (v10.1+(1:Int)),Iz.2.1,Iz.2.2.1,Iz.2.2.2.1,Iz.2.2.2.2.1,()))) ((0:Int),v10.2.1,v10.2.2.1,v10.2.2.2.1,v10.2.2.2.2.1,PUnit.unit)) (P ((List.take v10.2.2.1.length (List.drop 0 v10.2.2.1),List.take v10.2.2.2.1.length (List.drop 0 v10.2.2.2.1),true,()),()))) ((0:Int),v8.2.2.2.2.1,v8.2.2.2.2.2.1,v8.2.2.2.2.2.2.1,v8.2.2.2.2.2.2.2.1,PUnit.unit))) ((0:Int),n,str,g,[],[List.take y5.1.1.length (List.drop 0 y5.1.1)],[(0:Int)],Sp (λ(_:ByteArray)=>none) y6 true,PUnit.unit))=fnMW (AL [Sq+10]) (look [(88,Vt),(42,Cm),(43,Ic),(66,Ke),(72,Uk)]) Rc Tryz.f98 (n,str,g,t,()) P:=by kernel_rfl
theorem AX (n:Int) (str:ByteArray) (g:List (List Int)) (t:List Int) (P:((List (List Int)×List Int×Bool×Unit)×Unit)->Prop):(∃(y5:Bool),Ev.fn ((n,str,g,()),t,())=some y5/\Br (!y5) (P ((List.take 0 (List.drop 0 []),List.take 0 (List.drop 0 []),false,()),())) (∃(y6:(List (List Int)×List Int×Bool×PUnit)×PUnit),Rc.fn (n,str,g,t,())=some y6/\P ((List.take y6.1.1.length (List.drop 0 y6.1.1),List.take y6.1.2.1.length (List.drop 0 y6.1.2.1),y6.1.2.2.1,()),())))=fnMW Nu (look [(97,Ev),(98,Rc)]) Re Tryz.f87 (n,str,g,t,()) P:=by kernel_rfl
theorem xP (n:Int) (str:ByteArray) (g:List (List Int)) (t:List Int) (P:((List Int×List (List Int)×List Int×Bool×Unit)×Unit)->Prop):(∃(y5:(List (List Int)×List Int×Bool×PUnit)×PUnit),Re.fn (n,str,g,t,())=some y5/\Br (!y5.1.2.2.1) (P ((List.take 0 (List.drop 0 []),List.take 0 (List.drop 0 []),List.take 0 (List.drop 0 []),false,()),())) (∃(y6:(List Int×PUnit)×PUnit),Vt.fn (t,())=some y6/\P ((List.take y6.1.1.length (List.drop 0 y6.1.1),List.take y5.1.1.length (List.drop 0 y5.1.1),List.take y5.1.2.1.length (List.drop 0 y5.1.2.1),true,()),())))=fnMW Nu (look [(87,Re),(88,Vt)]) Og Tryz.f70 (n,str,g,t,()) P:=by kernel_rfl
theorem uw (p:Int×ByteArray×List (List Int)×Unit) (t:List Int×List (List Int)×List Int×Unit) (P:Bool->Prop):(∃(y3:(List Int×List (List Int)×List Int×Bool×PUnit)×PUnit),Og.fn (p.1,p.2.1,p.2.2.1,t.1,())=some y3/\Br y3.1.2.2.2.1 (∃(y4:Bool),Er.fn ((List.take y3.1.1.length (List.drop 0 y3.1.1),List.take y3.1.2.1.length (List.drop 0 y3.1.2.1),List.take y3.1.2.2.1.length (List.drop 0 y3.1.2.2.1),()),(t.1,t.2.1,t.2.2.1,()),())=some y4/\P y4) (P false))=fnW Cl (look [(70,Og),(71,Er)]) Kj Tryz.f49 (p,t,()) P:=by kernel_rfl
theorem uD (p:Int×ByteArray×List (List Int)×Unit) (t:List Int×List (List Int)×List Int×Unit) (P:Bool->Prop):(∃(y3:(List Int×List (List Int)×List Int×PUnit)×Bool×PUnit),Ok.fn ((p.1,p.2.1,p.2.2.1,()),t.1,())=some y3/\Br y3.2.1 (∃(y4:Bool),Er.fn ((y3.1.1,y3.1.2.1,y3.1.2.2.1,()),(t.1,t.2.1,t.2.2.1,()),())=some y4/\P y4) (P false))=fnW Cl (look [(59,Ok),(60,Er)]) Kj Tryz.f36 (p,t,()) P:=by kernel_rfl
theorem Ac1 (t:List Int×List (List Int)×List Int×Unit) (p:Int×ByteArray×List (List Int)×Unit) (P:Bool->Prop):(∃(y3:Bool),Kj.fn (p,(t.1,t.2.1,t.2.2.1,()),())=some y3/\P !y3)=fnW Cl (look [(49,Kj)]) rH Tryz.f48 (t,p,()) P:=by kernel_rfl
theorem WV (ts:List (List Int×List (List Int)×List Int×Unit)) (c:(Int×ByteArray×List (List Int)×Unit)×Unit) (P:Int->Prop):(Bi (λ(v3:Int×PUnit) (k4:Int×PUnit->Prop)=>Br (decide (v3.1<(↑ts.length:Int))) (∃(y5:List Int×List (List Int)×List Int×PUnit),idx ts v3.1=some y5/\ ∃(y6:Bool),rH.fn (y5,c.1,())=some y6/\Br y6 (P v3.1) (k4 (IntKind.i64.wrap (v3.1+(1:Int)),()))) (P (-1:Int))) ((0:Int),PUnit.unit))=fnW Cl (look [(48,rH)]) jH Tryz.f69 (ts,c,()) P:=by kernel_rfl
theorem WR (ts:List (List Int×List (List Int)×List Int×Unit)) (c:(Int×ByteArray×List (List Int)×Unit)×Unit) (P:Bool->Prop):(∃(y3:Int),jH.fn (ts,c,())=some y3/\P (decide (y3>=(0:Int))))=fnW Cl (look [(69,jH)]) jF Tryz.f47 (ts,c,()) P:=by kernel_rfl
theorem oS (p:Int×ByteArray×List (List Int)×Unit) (ts:List (List Int×List (List Int)×List Int×Unit)) (P:Bool->Prop):(∃(y3:Bool),Dw.fn ((p.1,p.2.1,p.2.2.1,()),())=some y3/\Br y3 (Br (decide ((↑ts.length:Int)<=(4:Int))) (∃(y4:Bool),jF.fn (ts,((p.1,p.2.1,p.2.2.1,()),()),())=some y4/\P !y4) (P false)) (P false))=fnW Cl (look [(46,Dw),(47,jF)]) Gv Tryz.f25 (p,ts,()) P:=by kernel_rfl
abbrev bx:Type:=Int×Int×ByteArray×List (List Int)×PUnit
theorem oT (p:Int×ByteArray×List (List Int)×Unit) (ts:List (List Int×List (List Int)×List Int×Unit)) (P:Bool->Prop):(∃(y3:Bool),Dw.fn ((p.1,p.2.1,p.2.2.1,()),())=some y3/\Br (!y3) (P false) (Br (decide ((↑ts.length:Int)>(4:Int))) (P false) (Bi (λ(v4:bx) (k5:bx->Prop)=>Br (decide (v4.1<(↑ts.length:Int))) (∃(y6:List Int×List (List Int)×List Int×PUnit),idx ts v4.1=some y6/\ ∃(y7:Bool),Kj.fn ((v4.2.1,v4.2.2.1,v4.2.2.2.1,()),y6,())=some y7/\Br (!y7) (P false) (k5 (IntKind.i64.wrap (v4.1+(1:Int)),v4.2.1,v4.2.2.1,v4.2.2.2.1,()))) (P true)) ((0:Int),p.1,p.2.1,p.2.2.1,PUnit.unit))))=fnW Cl (look [(33,Dw),(36,Kj)]) Gv Tryz.f20 (p,ts,()) P:=by kernel_rfl
theorem XA (ts:List (List Int×List (List Int)×List Int×Unit)) (k:Int) (P:Int->Prop):(Br (decide (IntKind.i64.wrap (k-(↑ts.length:Int))<(0:Int))) (P (-1:Int)) (Bi (λ(v3:Int×Int×PUnit) (k4:Int×Int×PUnit->Prop)=>Br (decide (v3.2.1<(↑ts.length:Int))) (∃(y5:List Int×List (List Int)×List Int×PUnit),idx ts v3.2.1=some y5/\ ∃(y6:Int),Un.fn (y5,v3.1,())=some y6/\Br (decide (y6<(0:Int))) (P (-1:Int)) (k4 (y6,IntKind.i64.wrap (v3.2.1+(1:Int)),()))) (P v3.1)) (IntKind.i64.wrap (k-(↑ts.length:Int)),(0:Int),PUnit.unit)))=fnW Cl (look [(18,Un)]) jI Tryz.f5 (ts,k,()) P:=by kernel_rfl
abbrev DB:Type:=Int×List (List Int×List (List Int)×List Int×PUnit)×PUnit
abbrev DC:Type:=List Int×List (List Int)×List Int×PUnit
theorem XD (ts:List (List Int×List (List Int)×List Int×Unit)) (P:List (List Int×List (List Int)×List Int×Unit)->Prop):(((0:Int)<=(↑ts.length:Int)/\(↑ts.length:Int)<(↑Bg:Int)+(1:Int))/\(↑ts.length:Int)=(↑ts.length:Int)/\0=0/\(List.replicate (↑ts.length:Int).toNat (([]:List Int),([]:List (List Int)),([]:List Int),())).length=(List.replicate (↑ts.length:Int).toNat (([]:List Int),([]:List (List Int)),([]:List Int),())).length/\Bi (λ(v2:DB) (k3:DB->Prop)=>Br (decide (v2.1<(↑ts.length:Int))) (∃(y4:DC),idx ts v2.1=some y4/\ ∃(y5:DC),Uo.fn (y4,())=some y5/\((0:Int)<=v2.1/\v2.1<(↑v2.2.1.length:Int))/\0+v2.1.toNat<v2.2.1.length/\0=0/\v2.2.1.length=(v2.2.1.set (0+v2.1.toNat) y5).length/\k3 (IntKind.i64.wrap (v2.1+(1:Int)),v2.2.1.set (0+v2.1.toNat) y5,())) (P (List.take v2.2.1.length (List.drop 0 v2.2.1)))) ((0:Int),List.replicate (↑ts.length:Int).toNat (([]:List Int),([]:List (List Int)),([]:List Int),()),PUnit.unit))=fnW Cl (look [(23,Uo)]) nZ Tryz.f8 (ts,()) P:=by kernel_rfl
abbrev CZ:Type:=List Int×List (List Int)×List Int×PUnit
theorem WU (a b:List (List Int×List (List Int)×List Int×Unit)) (P:Bool->Prop):(Br ((↑a.length:Int) !=(↑b.length:Int)) (P false) (Bi (λ(v3:Int×PUnit) (k4:Int×PUnit->Prop)=>Br (decide (v3.1<(↑a.length:Int))) (∃(y5:CZ),idx a v3.1=some y5/\ ∃(y6:CZ),idx b v3.1=some y6/\ ∃(y7:Bool),Er.fn (y5,y6,())=some y7/\Br (!y7) (P false) (k4 (IntKind.i64.wrap (v3.1+(1:Int)),()))) (P true)) ((0:Int),PUnit.unit)))=fnW Cl (look [(30,Er)]) jG Tryz.f12 (a,b,()) P:=by kernel_rfl
theorem gp {p:PP} (hV:Valid p) {m:Nat} {x:List Int} {d:Int} (hx: ∀y∈x,0<=y/\y<p.1) (JQ:x.length=m): ∀(ls:List Int) (L:List (List Int)) (D:List Int),(∀l∈ls,Gx (List.length p.2.2.1) l)->
  Mr p m L D->(0<=d/\d<L.length)->Mr p m (Ec p.2.2.1 x d ls L D).1 (Ec p.2.2.1 x d ls L D).2.1/\(∃A,(Ec p.2.2.1 x d ls L D).1=L++A)/\(∃A,(Ec p.2.2.1 x d ls L D).2.1=D++A)
 | [],L,D,_,h,_=>⟨h,⟨[],by simp [Ec]⟩,⟨[],by simp [Ec]⟩⟩
 |l::ls,L,D,hl,h,hd=>by
  obtain ⟨n1,n2⟩:=m5 hV hx (hl l (by simp))
  have Gq: ∀l∈ls,Gx (List.length p.2.2.1) l:= λl' h'=>hl l' (List.mem_cons_of_mem _ h')
  simp only [Ec]
  split
  ·exact gp hV hx JQ ls L D Gq h hd
  ·rename_i hn
   split
   ·exact ⟨h,⟨[],by simp⟩,⟨[],by simp⟩⟩
   ·rename_i hf
    have lj:=h.ok.lf
    obtain ⟨k1,⟨A,k2⟩,⟨A',k3⟩⟩:=gp hV hx JQ ls (L++ [Aa x (Af p.2.2.1 l)]) (D++ [d+1]) Gq (h.add hn (by rw [n1,JQ]) (by omega) n2 ⟨by omega,by omega⟩) ⟨hd.1,by rw [List.length_append];omega⟩
    exact ⟨k1,⟨_::A,by rw [k2,List.append_assoc];rfl⟩,⟨_::A',by rw [k3,List.append_assoc];rfl⟩⟩
theorem ve {p:PP} (hV:Valid p) {m:Nat} {ls:List Int} (hl: ∀l∈ls,Gx (List.length p.2.2.1) l): ∀(f k:Nat) (L:List (List Int)) (D:List Int),Mr p m L D->
  Mr p m (Fl p.2.2.1 ls f k L D).1 (Fl p.2.2.1 ls f k L D).2.1/\(∃A,(Fl p.2.2.1 ls f k L D).1=L++A)
 |0,k,L,D,h=>⟨h,⟨[],by simp [Fl]⟩⟩
 |f+1,k,L,D,h=>by
  simp only [Fl]
  split
  ·rename_i hk
   have vY:k<D.length:=by rw [h.len];exact hk
   have hd:=h.dep k vY
   have e:D.getD k 0=D[k]:=by rw [List.getD_eq_getElem?_getD,List.getElem?_eq_getElem vY];rfl
   rw [Mv hk,e]
   obtain ⟨k1,⟨A,k2⟩,_⟩:=gp hV (h.row _ (List.getElem_mem hk)) (h.ok.len _ (List.getElem_mem hk)) (d:=D[k]) ls L D hl h ⟨by omega,by omega⟩
   split
   ·rename_i L' D' he
    rw [he] at k1 k2
    obtain ⟨g1,⟨B,g2⟩⟩:=ve hV hl f (k+1) L' D' k1
    have k2:L'=L++A:=k2
    exact ⟨g1,⟨A++B,by rw [g2,k2,List.append_assoc]⟩⟩
   ·rename_i L' D' he
    rw [he] at k1 k2
    exact ⟨k1,⟨A,k2⟩⟩
  ·exact ⟨h,⟨[],by simp⟩⟩
theorem se {p:PP} {s:List Int} (hv:Bf p=true) (hs:s.length<=20) (hr: ∀y∈s,0<=y/\y<p.1):Mr p s.length (Cu p.2.2.1 s).1 (Cu p.2.2.1 s).2.1/\ ∃A,(Cu p.2.2.1 s).1=s::A:=
 ve (valid hv) (λ_ hl=>Ju hl) _ _ _ _ (Yc hs hr)
theorem Lq {p:PP} {t:List Int} :Co p t=true↔Bf p=true/\Sh p.1 t=true:=by
 unfold Co;rw [Bool.and_eq_true]
theorem Eo {p:PP} {t:List Int} (h:Co p t=true):t.length<=20/\ ∀y∈t,0<=y/\y<p.1:=by
 obtain ⟨h1,h2⟩:=Lq.1 h
 have hn:=(valid h1).n
 obtain ⟨h3,h4⟩:=Ht.1 h2
 have hy: ∀y∈t,0<=y/\y<p.1:= λy hy=>by
  obtain ⟨j,hj,rfl⟩:=List.mem_iff_getElem.1 hy
  have:=h4 j hj hj
  omega
 refine ⟨?_,hy⟩
 have h5:=zH h4 (t.length-1) (by omega)
 have h6:=hy _ (List.getElem_mem (show t.length-1<t.length by omega))
 omega
theorem nL {p:PP} {t:List Int} (h:Co p t=true):Mr p t.length (Cu p.2.2.1 t).1 (Cu p.2.2.1 t).2.1:=(se (Lq.1 h).1 (Eo h).1 (Eo h).2).1
theorem Za {p:PP} {t:List Int} :De p t=true↔Co p t=true/\(Cu p.2.2.1 t).2.2=true:=by
 unfold De;rw [Bool.and_eq_true]
theorem qt {p:PP} {m:Nat} {L:List (List Int)} {D:List Int} (h:Mr p m L D):Dx L/\short D:=by
 have h1:=h.ok.lf
 have h2:=h.ok.short
 have h3:=h.len
 refine ⟨⟨by omega,λx hx=>?_⟩,by unfold short;omega⟩
 have:=h.ok.len x hx
 unfold short;omega
theorem kd {p:PP} {t:List Int} :Iv (Du p t):=by
 unfold Du
 split
 ·rename_i h
  have h1:=(Za.1 h).1
  have h2:=qt (nL h1)
  have h3:=(Eo h1).1
  exact ⟨show t.length<=4294967296 by omega,h2.1,h2.2⟩
 ·exact ⟨by simp [short],⟨by simp,λr hr=>by cases hr⟩,by simp [short]⟩
theorem pH (p:PP) (t:List Int) (h:Cf p/\short t):fnW Cl (look [(46,Dw),(102,Fv)]) Ev Tryz.f97 (p,t,()) (λ(z:Bool)=>z=Co p t):=by
 refine Eq.mp (qh p t _) ⟨_,if_pos h.1,⟨λhv=>?_,λhv=>?_⟩⟩
 ·have hv:Bf p=true:=hv
  have hn:=(valid hv).n
  refine ⟨_,if_pos ⟨⟨by show 0<=p.1;omega,by show p.1<=4294967296;omega⟩,h.2⟩,?_⟩
  unfold Co;rw [hv];rfl
 ·have hv:Bf p=false:=hv
  unfold Co;rw [hv];rfl
theorem iD:Sound Tryz.prog 97 Ev:=
 Sound.Cv Bk (Ae Rg (Ae lD Ak)) mixed Tryz.func97 (by kernel_rfl) (by kernel_rfl) λx h=>pH x.1 x.2.1 h
theorem pL (p:PP) (t:List Int) (h:Cf p/\short t):fnW Cl (look [(33,Dw),(101,Fv)]) Ev Tryz.f94 (p,t,()) (λ(z:Bool)=>z=Co p t):=by
 refine Eq.mp (ql p t _) ⟨_,if_pos h.1,⟨λhv=>?_,λhv=>?_⟩⟩
 ·have hv:Bf p=true:=hv
  have hn:=(valid hv).n
  refine ⟨_,if_pos ⟨⟨by show 0<=p.1;omega,by show p.1<=4294967296;omega⟩,h.2⟩,?_⟩
  unfold Co;rw [hv];rfl
 ·have hv:Bf p=false:=hv
  unfold Co;rw [hv];rfl
theorem iH:Sound Tryz.prog 94 Ev:=
 Sound.Cv Bk (Ae Rh (Ae iE Ak)) mixed Tryz.func94 (by kernel_rfl) (by kernel_rfl) λx h=>pL x.1 x.2.1 h
theorem x6 (p:PP) (t:List Int) (h:Cf p/\short t):fnW Cl (look [(94,Ev),(34,Cz)]) Oj Tryz.f78 (p,t,()) (λ(z:SS×Bool×Unit)=>z=(Jt p t,De p t,())):=by
 refine Eq.mp (xU p t _) ⟨_,if_pos h,⟨λhn=>?_,λhn=>?_⟩⟩
 ·have hn:=Ck hn
  have e:De p t=false:=Bool.eq_false_iff.2 λhh=>hn (Za.1 hh).1
  unfold Jt
  rw [if_neg hn,e]
  rfl
 ·have hn:Co p t=true:=Di hn
  have e:De p t=(Cu p.2.2.1 t).2.2:=by unfold De;rw [hn,Bool.true_and]
  refine ⟨_,if_pos ⟨(Lq.1 hn).1,(Eo hn).1,(Eo hn).2⟩,?_⟩
  have key:(((Fe p.2.2.1 t).1,(Fe p.2.2.1 t).2.1,(Fe p.2.2.1 t).2.2.1,(Fe p.2.2.1 t).2.2.2.1,()),(Fe p.2.2.1 t).2.2.2.1,())=(Jt p t,De p t,()):=by
   unfold Jt
   rw [if_pos hn,e]
   rfl
  exact ⟨⟨⟨key,key⟩,key⟩,⟨key,key⟩,key⟩
theorem lH:Sound Tryz.prog 78 Oj:=
 Sound.Cv Bk (Ae iH (Ae kQ Ak)) mixed Tryz.func78 (by kernel_rfl) (by kernel_rfl) λx h=>x6 x.1 x.2.1 h
theorem wT (l:List (List Int)) (h:Dx l):fnW Cl (look [(55,Fp)]) Lo Tryz.f79 (l,()) (λ(z:List (List Int))=>z=l):=by
 obtain ⟨h1,h2⟩:=h
 refine Eq.mp (xL l _) ⟨rfl,rfl,?_⟩
 refine Ag l.length (λv=>v.1) (λj v=>v.2.1=l.take j) rfl (by simp) ?_
 rintro j ⟨i,ys,⟨⟩⟩ K hj hi hR hK
 dsimp only at hi hR⊢
 subst hi hR
 refine Br.dec (λhl=>?_) λhl=>?_
 ·have hl:j<l.length:=by omega
  refine ⟨_,Am hl,_,if_pos (h2 _ (List.getElem_mem hl)),rfl,rfl,?_,rfl,rfl,?_⟩
  ·show (List.take j l).length+1<=4294967296
   rw [List.length_take];omega
  ·rw [Ah (by omega)]
   refine hK hl _ rfl ?_
   show List.take j l++ [l[j]]=_
   rw [List.take_add_one,List.getElem?_eq_getElem hl];rfl
 ·have:j=l.length:=by omega
  subst this
  rw [At,List.take_length]
theorem lz:Sound Tryz.prog 79 Lo:=
 Sound.Cv Bk (Ae Vv Ak) mixed Tryz.func79 (by kernel_rfl) (by kernel_rfl) λx h=>wT x.1 h
theorem x7 (p:PP) (t:List Int) (h:Cf p/\short t):fnW Cl (look [(78,Oj),(55,Fp),(79,Lo)]) Ok Tryz.f59 (p,t,()) (λ(z:TT×Bool×Unit)=>z=(Du p t,De p t,())):=by
 refine Eq.mp (xV p t _) ⟨_,if_pos h,⟨λhn=>?_,λhn=>?_⟩⟩
 ·have hn:=Ck hn
  have hn: ¬De p t=true:=hn
  unfold Du
  rw [if_neg hn,Bool.eq_false_iff.2 hn]
  rfl
 ·have hn:De p t=true:=Di hn
  obtain ⟨h1,h2⟩:=Za.1 hn
  have h3:=qt (nL h1)
  have e:Jt p t=Fe p.2.2.1 t:=if_pos h1
  refine ⟨_,if_pos h.2,?_⟩
  show ∃y5:List (List Int),Lo.fn ((Jt p t).1,())=some y5/\ ∃y6:List Int,Fp.fn ((Jt p t).2.1,())=some y6/\((t,y5,y6,()),true,())=(Du p t,De p t,())
  rw [e]
  refine ⟨_,if_pos h3.1,_,if_pos h3.2,?_⟩
  unfold Du
  rw [if_pos hn,hn]
  rfl
theorem lI:Sound Tryz.prog 59 Ok:=
 Sound.Cv Bk (Ae lH (Ae Vv (Ae lz Ak))) mixed Tryz.func59 (by kernel_rfl) (by kernel_rfl) λx h=>x7 x.1 x.2.1 h
def iZ (m:ByteArray->Option Bool) (L:List (List Int)):Prop:= ∀q,Ou q->(m (Ij q)).getD false=decide (q∈L)
theorem iZ.add {m:ByteArray->Option Bool} {L:List (List Int)} {y:List Int} (h:iZ m L) (hy:Ou y):iZ (Sp m (Ij y) true) (L++ [y]):=by
 intro q hq
 unfold Sp
 by_cases e:q=y
 ·subst e
  rw [if_pos rfl];simp
 ·rw [if_neg λhk=>e (key_inj hq hy hk),h q hq]
  simp [e]
theorem zz (n:Int) (str:ByteArray) (g:List (List Int)) (t:List Int) (h:Co (n,str,g,()) t=true):
  fnMW (AL [Sq+10]) (look [(88,Vt),(42,Cm),(43,Ic),(66,Ke),(72,Uk)]) Rc Tryz.f98 (n,str,g,t,()) (λ(z:(List (List Int)×List Int×Bool×Unit)×Unit)=>z=(((Du (n,str,g,()) t).2.1,(Du (n,str,g,()) t).2.2.1,De (n,str,g,()) t,()),())):=by
 obtain ⟨hv,_⟩:=Lq.1 h
 obtain ⟨ht,hr⟩:=Eo h
 have hV:=valid hv
 have lj:=hV.lf
 have hn:=hV.n
 dsimp only at lj hn hr
 have NY:=Yc (p:=(n,str,g,())) ht hr
 have yf:short t:=by unfold short;omega
 obtain ⟨ls,ll⟩: ∃ls,Aw g.length=ls:=⟨_,rfl⟩
 have vZ:ls.length<=16:=by rw [<-ll,Kn];omega
 have gT: ∀l∈ls,Gx (List.length g) l:= λl hl=>Ju (ll▸hl)
 have nd:Fl g ls 3001 0 [t] [0]=Cu g t:=by unfold Cu;rw [ll]
 have mS: ∀x:List Int,(∀y∈x,0<=y/\y<n)->Ou x:= λx hx y hy=>by have:=hx y hy;omega
 have ZG: ∀L D ok,Cu g t=(L,D,ok)->(if ok=true then ((L,D,true,()),()) else ((([]:List (List Int)),([]:List Int),false,()),()))=(((Du (n,str,g,()) t).2.1,(Du (n,str,g,()) t).2.2.1,De (n,str,g,()) t,()),()):=by
  intro L D ok he
  have e1:De (n,str,g,()) t=ok:=by unfold De;rw [h,Bool.true_and];show (Cu g t).2.2=ok;rw [he]
  unfold Du
  rw [e1]
  cases ok with
  |true=>rw [if_pos rfl,if_pos rfl];show ((L,D,true,()),())=(((Cu g t).1,(Cu g t).2.1,true,()),());rw [he]
  |false=>rw [if_neg (by decide),if_neg (by decide)]
 refine Eq.mp (AU n str g t _) ⟨_,if_pos yf,_,if_pos yf,ls,(if_pos ⟨by show (0:Int)<=((g.length:Nat):Int);omega,by show ((g.length:Nat):Int)<=8;omega⟩).trans (congrArg some (by show Aw (((g.length:Nat):Int)).toNat=ls;rw [Int.toNat_natCast];exact ll)),rfl,rfl,rfl,rfl,rfl,rfl,?_⟩
 rw [At]
 refine Ag ls.length (λv=>v.1) (λj v=>v.2.1=n/\v.2.2.1=str/\v.2.2.2.1=g/\v.2.2.2.2.1=(ls.take j).map (Af g)/\v.2.2.2.2.2.1= [t]/\v.2.2.2.2.2.2.1= [0]/\iZ v.2.2.2.2.2.2.2.1 [t]) rfl
  ⟨rfl,rfl,rfl,by simp,rfl,rfl,λq hq=>?_⟩ ?_
 ·show (Sp (λ_=>none) (Ij t) true (Ij q)).getD false=_
  unfold Sp
  by_cases e:q=t
  ·subst e;rw [if_pos rfl];simp
  ·rw [if_neg λhk=>e (key_inj hq (mS t hr) hk)];simp [e]
 rintro j ⟨i,n',Abi,g',mv,L1,D1,m1,⟨⟩⟩ K hj hi ⟨h1,h2,h3,h4,h5,h6,h7⟩ hK
 dsimp only at hi h1 h2 h3 h4 h5 h6 h7⊢
 subst hi h1 h2 h3 h4 h5 h6
 refine Br.dec (λhl=>?_) λhl=>⟨rfl,rfl,rfl,rfl,rfl,rfl,?_⟩
 ·have hl:j<ls.length:=by omega
  have sF:=gT _ (List.getElem_mem hl)
  refine ⟨_,Am hl,_,if_pos ⟨sF,lj.2,hV.perm⟩,rfl,rfl,?_,rfl,rfl,rfl,rfl,rfl,rfl,?_⟩
  ·show (List.map (Af g') (List.take j ls)).length+1<=4294967296
   rw [List.length_map,List.length_take];omega
  ·rw [Ah (by omega)]
   refine hK hl _ rfl ⟨rfl,rfl,rfl,?_,rfl,rfl,h7⟩
   show List.map (Af g') (List.take j ls)++ [Af g' ls[j]]=_
   rw [List.take_add_one,List.getElem?_eq_getElem hl,List.map_append];rfl
 ·have:j=ls.length:=by omega
  subst this
  rw [List.take_length]
  obtain ⟨ms,CE⟩: ∃ms,ls.map (Af g')=ms:=⟨_,rfl⟩
  have Aju:ms.length=ls.length:=by rw [<-CE,List.length_map]
  have Af8: ∀i (h:i<ls.length),ms[i]'(by omega)=Af g' ls[i]:= λi h=>by simp only [<-CE,List.getElem_map]
  rw [CE]
  refine Bi.mk (λv=>v.2.1=ms/\ ∃k:Nat,v.1=k/\k<=v.2.2.1.length/\Mr (n',Abi,g',()) t.length v.2.2.1 v.2.2.2.1/\iZ v.2.2.2.2.1 v.2.2.1/\Fl g' ls (3001-k) k v.2.2.1 v.2.2.2.1=Cu g' t) (λv=>3001-v.1.toNat)
   ⟨rfl,0,rfl,by simp,NY,h7,nd⟩ ?_
  rintro ⟨k',mv,L0,D0,mp,⟨⟩⟩ ⟨h1,k,h5,h6,h7,h8,h9⟩
  dsimp only at h1 h5 h6 h7 h8 h9
  subst h1 h5
  dsimp only
  have hL0:=h7.ok.lf
  have hD0:=h7.len
  refine Br.dec (λhl=>⟨rfl,rfl,rfl,rfl,rfl,rfl,rfl,rfl,?_⟩) λhl=>?_
  ·have hk:k<L0.length:=by omega
   have vY:k<D0.length:=by omega
   have hx: ∀y∈L0[k],0<=y/\y<n':=h7.row _ (List.getElem_mem hk)
   have JQ:L0[k].length=t.length:=h7.ok.len _ (List.getElem_mem hk)
   have hdk:=h7.dep k vY
   obtain ⟨f,hf⟩: ∃f,3001-k=f+1:=⟨3000-k,by omega⟩
   have RS: ∀L' D' ok,Ec g' L0[k] D0[k] ls L0 D0=(L',D',ok)->Cu g' t=if ok=true then Fl g' ls f (k+1) L' D' else (L',D',false):=by
    intro L' D' ok he
    rw [<-h9,hf,Fl,if_pos hk,Mv hk,List.getD_eq_getElem?_getD,List.getElem?_eq_getElem vY]
    simp only [Option.getD_some]
    rw [he]
    cases ok<;>rfl
   refine Bi.mk (λv=>v.2.1=mv/\ ∃i:Nat,v.1=i/\i<=ls.length/\Mr (n',Abi,g',()) t.length v.2.2.1 v.2.2.2.1/\iZ v.2.2.2.2.1 v.2.2.1/\(∃A,v.2.2.1=L0++A)/\(∃A,v.2.2.2.1=D0++A)/\
     Ec g' L0[k] D0[k] (ls.drop i) v.2.2.1 v.2.2.2.1=Ec g' L0[k] D0[k] ls L0 D0) (λv=>ls.length-v.1.toNat)
    ⟨rfl,0,rfl,Nat.zero_le _,h7,h8,⟨[],by simp⟩,⟨[],by simp⟩,rfl⟩ ?_
   rintro ⟨i',mv',L,D,mp2,⟨⟩⟩ ⟨g1,i,g5,g6,g7,g8,⟨A,g9⟩,⟨A',NS⟩,lg⟩
   dsimp only at g1 g5 g6 g7 g8 g9 NS lg
   subst g1 g5
   dsimp only
   have hLf:=g7.ok.lf
   have MY:=g7.len
   refine Br.dec (λZN=>?_) λZN=>?_
   ·have hi:i<ls.length:=by omega
    have JG:k<L.length:=by rw [g9,List.length_append];omega
    have hLk:L[k]=L0[k]:=by simp only [g9];exact List.getElem_append_left hk
    have JF:k<D.length:=by rw [MY];exact JG
    have YO:D[k]=D0[k]:=by simp only [NS];exact List.getElem_append_left vY
    have sF:=gT _ (List.getElem_mem hi)
    obtain ⟨nl,nr⟩:=m5 hV hx sF
    dsimp only at nl nr
    have DW:=dN hV sF
    dsimp only at DW
    rw [List.drop_eq_getElem_cons hi] at lg
    simp only [Ec] at lg
    have hyb:=mS _ nr
    refine ⟨⟨by omega,by omega⟩,Af g' ls[i],by rw [Int.toNat_natCast,Nat.zero_add,List.getElem?_eq_getElem (by omega),Af8 i hi],⟨by omega,by omega⟩,L0[k],by rw [Int.toNat_natCast,Nat.zero_add,List.getElem?_eq_getElem JG,hLk],
     _,if_pos ⟨by show short L0[k];unfold short;omega,by show Iy (Af g' ls[i]).length L0[k];intro y hy;have:=hx y hy;omega⟩,?_⟩
    dsimp only
    rw [show Bo (Af g' ls[i]) L0[k]=Aa L0[k] (Af g' ls[i]) from rfl,At]
    generalize hyv:Aa L0[k] (Af g' ls[i])=yv at*
    refine ⟨_,if_pos (by show short yv;unfold short;rw [nl];omega),?_⟩
    dsimp only
    rw [g8 _ hyb]
    refine ⟨λTs=>?_,λTs=>⟨rfl,rfl,rfl,rfl,rfl,rfl,rfl,rfl,?_⟩⟩
    ·have Ts:yv∉L:=by simpa using Ts
     rw [if_neg Ts] at lg
     refine ⟨λQb=>?_,λQb=>⟨rfl,rfl,by show L.length+1<=4294967296;omega,⟨by omega,by omega⟩,D0[k],by rw [Int.toNat_natCast,Nat.zero_add,List.getElem?_eq_getElem JF,YO],rfl,rfl,by show D.length+1<=4294967296;omega,rfl,rfl,rfl,rfl,rfl,rfl,rfl,rfl,?_⟩⟩
     ·have Qb:L.length=3000:=by
       have:(L.length:Int)=3000:=by simpa using Qb
       omega
      rw [if_pos Qb] at lg
      have:=RS _ _ _ lg.symm
      rw [if_neg (by decide)] at this
      have:=ZG _ _ _ this
      rw [if_neg (by decide)] at this
      exact this
     ·have Qb:L.length≠3000:=by
       have:(L.length:Int)≠3000:=by simpa using Qb
       omega
      rw [if_neg Qb] at lg
      rw [Ca (n:=D0[k]+1) (by omega) (by omega),Ah (by omega)]
      refine ⟨⟨rfl,i+1,rfl,hi,g7.add Ts (by rw [nl,JQ]) (by omega) nr ⟨by omega,by omega⟩,g8.add hyb,⟨A++ [yv],by rw [g9,List.append_assoc];rfl⟩,⟨A'++ [D0[k]+1],by rw [NS,List.append_assoc];rfl⟩,lg⟩,by omega⟩
    ·have Ts:yv∈L:=by simpa using Ts
     rw [if_pos Ts] at lg
     rw [Ah (by omega)]
     exact ⟨⟨rfl,i+1,rfl,hi,g7,g8,⟨A,g9⟩,⟨A',NS⟩,lg⟩,by omega⟩
   ·have:i=ls.length:=by omega
    subst this
    rw [List.drop_length,Ec] at lg
    have:=RS _ _ _ lg.symm
    rw [if_pos rfl] at this
    rw [Ah (by omega)]
    refine ⟨rfl,rfl,rfl,rfl,rfl,rfl,⟨rfl,k+1,rfl,by rw [g9,List.length_append];omega,g7,g8,?_⟩,by omega⟩
    rw [show 3001-(k+1)=f by omega]
    exact this.symm
  ·have hk:k=L0.length:=by omega
   rw [At L0,At D0]
   obtain ⟨f,hf⟩: ∃f,3001-k=f+1:=⟨3000-k,by omega⟩
   rw [hf,Fl,if_neg (by omega)] at h9
   have:=ZG _ _ _ h9.symm
   rw [if_pos rfl] at this
   exact this
theorem oe:Bh Tryz.prog 98 Rc:=
 Bh.Wb (AM [Sq+10]) (Dt iB (Ae Pu (Ae Xw (Ae dg (Dt pW Ak))))) mixed Tryz.func98 (by kernel_rfl) (by kernel_rfl) λx h=>zz x.1 x.2.1 x.2.2.1 x.2.2.2.1 h
theorem mz {p:PP} {t:List Int} (h: ¬De p t=true):Du p t=([],[],[],()):=if_neg h
theorem zB (n:Int) (str:ByteArray) (g:List (List Int)) (t:List Int) (h:Cf (n,str,g,())/\short t):
  fnMW Nu (look [(97,Ev),(98,Rc)]) Re Tryz.f87 (n,str,g,t,()) (λ(z:(List (List Int)×List Int×Bool×Unit)×Unit)=>z=(((Du (n,str,g,()) t).2.1,(Du (n,str,g,()) t).2.2.1,De (n,str,g,()) t,()),())):=by
 refine Eq.mp (AX n str g t _) ⟨_,if_pos h,⟨λhn=>?_,λhn=>?_⟩⟩
 ·have hn: ¬Co (n,str,g,()) t=true:=Ck hn
  have e: ¬De (n,str,g,()) t=true:= λhh=>hn (Za.1 hh).1
  rw [mz e,Bool.eq_false_iff.2 e]
  rfl
 ·have hn:Co (n,str,g,()) t=true:=Di hn
  refine ⟨_,if_pos hn,?_⟩
  rw [At,At]
theorem oh:Bh Tryz.prog 87 Re:=
 Bh.Wb Mo (Ae iD (Dt oe Ak)) mixed Tryz.func87 (by kernel_rfl) (by kernel_rfl) λx h=>zB x.1 x.2.1 x.2.2.1 x.2.2.2.1 h
theorem wX (n:Int) (str:ByteArray) (g:List (List Int)) (t:List Int) (h:Cf (n,str,g,())/\short t):
  fnMW Nu (look [(87,Re),(88,Vt)]) Og Tryz.f70 (n,str,g,t,()) (λ(z:(List Int×List (List Int)×List Int×Bool×Unit)×Unit)=>z=(((Du (n,str,g,()) t).1,(Du (n,str,g,()) t).2.1,(Du (n,str,g,()) t).2.2.1,De (n,str,g,()) t,()),())):=by
 refine Eq.mp (xP n str g t _) ⟨_,if_pos h,⟨λhn=>?_,λhn=>?_⟩⟩
 ·have e: ¬De (n,str,g,()) t=true:=Ck hn
  rw [mz e,Bool.eq_false_iff.2 e]
  rfl
 ·have e:De (n,str,g,()) t=true:=Di hn
  refine ⟨_,if_pos h.2,?_⟩
  rw [At,At,At,e]
  have e2:(Du (n,str,g,()) t).1=t:=by unfold Du;rw [if_pos e]
  rw [e2]
theorem lC:Bh Tryz.prog 70 Og:=
 Bh.Wb Mo (Dt oh (Dt iB Ak)) mixed Tryz.func70 (by kernel_rfl) (by kernel_rfl) λx h=>wX x.1 x.2.1 x.2.2.1 x.2.2.2.1 h
theorem tn (p:PP) (t:TT) (h:Cf p/\Iv t):fnW Cl (look [(70,Og),(71,Er)]) Kj Tryz.f49 (p,t,()) (λ(z:Bool)=>z=Dh p t):=by
 refine Eq.mp (uw p t _) ⟨_,if_pos ⟨h.1,h.2.1⟩,⟨λhn=>?_,λhn=>?_⟩⟩
 ·have e:De p t.1=true:=hn
  rw [At,At,At]
  refine ⟨_,if_pos kd,?_⟩
  unfold Dh
  rw [e];rfl
 ·have e:De p t.1=false:=hn
  unfold Dh
  rw [e];rfl
theorem jO:Sound Tryz.prog 49 Kj:=
 Sound.Cv Bk (Dt lC (Ae ec Ak)) mixed Tryz.func49 (by kernel_rfl) (by kernel_rfl) λx h=>tn x.1 x.2.1 h
theorem tv (p:PP) (t:TT) (h:Cf p/\Iv t):fnW Cl (look [(59,Ok),(60,Er)]) Kj Tryz.f36 (p,t,()) (λ(z:Bool)=>z=Dh p t):=by
 refine Eq.mp (uD p t _) ⟨_,if_pos ⟨h.1,h.2.1⟩,⟨λhn=>?_,λhn=>?_⟩⟩
 ·have e:De p t.1=true:=hn
  refine ⟨_,if_pos kd,?_⟩
  unfold Dh
  rw [e];rfl
 ·have e:De p t.1=false:=hn
  unfold Dh
  rw [e];rfl
theorem jR:Sound Tryz.prog 36 Kj:=
 Sound.Cv Bk (Ae lI (Ae ee Ak)) mixed Tryz.func36 (by kernel_rfl) (by kernel_rfl) λx h=>tv x.1 x.2.1 h
theorem Abd (t:TT) (p:PP) (h:Iv t/\Cf p):fnW Cl (look [(49,Kj)]) rH Tryz.f48 (t,p,()) (λ(z:Bool)=>z=!Dh p t):=by
 exact Eq.mp (Ac1 t p _) ⟨_,if_pos ⟨h.2,h.1⟩,rfl⟩
theorem GK:Sound Tryz.prog 48 rH:=
 Sound.Cv Bk (Ae jO Ak) mixed Tryz.func48 (by kernel_rfl) (by kernel_rfl) λx h=>Abd x.1 x.2.1 h
theorem VU (ts:List TT) (c:PP×Unit) (h:En ts/\Cf c.1):fnW Cl (look [(48,rH)]) jH Tryz.f69 (ts,c,()) (λ(z:Int)=>z=Lk (λt=>!Dh c.1 t) ts 0):=by
 obtain ⟨⟨h1,h2⟩,h3⟩:=h
 refine Eq.mp (WV ts c _) ?_
 refine Ag ts.length (λv=>v.1) (λj _=>Lk (λt=>!Dh c.1 t) (ts.drop j) j=Lk (λt=>!Dh c.1 t) ts 0) rfl (by simp) ?_
 rintro j ⟨i,⟨⟩⟩ K hj hi hR hK
 dsimp only at hi⊢
 subst hi
 refine Br.dec (λhl=>?_) λhl=>?_
 ·have hl:j<ts.length:=by omega
  rw [List.drop_eq_getElem_cons hl] at hR
  simp only [Lk] at hR
  refine ⟨_,Am hl,_,if_pos ⟨h2 _ (List.getElem_mem hl),h3⟩,⟨λhe=>?_,λhe=>?_⟩⟩
  ·have he:(!Dh c.1 ts[j])=true:=he
   rw [if_pos he] at hR
   exact hR
  ·have he:(!Dh c.1 ts[j])=false:=he
   rw [if_neg (by rw [he];decide)] at hR
   rw [Ah (by omega)]
   exact hK hl _ rfl (by push_cast;exact hR)
 ·have:j=ts.length:=by omega
  subst this
  rw [List.drop_length] at hR
  exact hR
theorem AD:Sound Tryz.prog 69 jH:=
 Sound.Cv Bk (Ae GK Ak) mixed Tryz.func69 (by kernel_rfl) (by kernel_rfl) λx h=>VU x.1 x.2.1 h
theorem ng (q:TT->Bool): ∀(ts:List TT) (k:Int),0<=k->decide (Lk q ts k>=0)=ts.any q
 | [],k,_=>by simp [Lk]
 |t::ts,k,hk=>by
  have ih:=ng q ts (k+1) (by omega)
  rw [List.any_cons]
  by_cases e:q t=true
  ·have e2:Lk q (t::ts) k=k:=if_pos e
   rw [e]
   exact decide_eq_true (by rw [e2];exact hk)
  ·have e2:Lk q (t::ts) k=Lk q ts (k+1):=if_neg e
   rw [Bool.eq_false_iff.2 e,Bool.false_or,<-ih]
   exact decide_eq_decide.2 (by rw [e2])
theorem VR (ts:List TT) (c:PP×Unit) (h:En ts/\Cf c.1):fnW Cl (look [(69,jH)]) jF Tryz.f47 (ts,c,()) (λ(z:Bool)=>z=List.any ts (λt=>!Dh c.1 t)):=by
 exact Eq.mp (WR ts c _) ⟨_,if_pos h,ng _ ts 0 (Int.le_refl 0)⟩
theorem AA:Sound Tryz.prog 47 jF:=
 Sound.Cv Bk (Ae AD Ak) mixed Tryz.func47 (by kernel_rfl) (by kernel_rfl) λx h=>VR x.1 x.2.1 h
theorem uV (q:TT->Bool) (ts:List TT):(!List.any ts λt=>!q t)=List.all ts q:=by
 induction ts with
 |nil=>rfl
 |cons t ts ih=>simp only [List.any_cons,List.all_cons,<-ih];cases q t<;>simp
theorem nI (p:PP) (ts:List TT) (h:Cf p/\En ts):fnW Cl (look [(46,Dw),(47,jF)]) Gv Tryz.f25 (p,ts,()) (λ(z:Bool)=>z=Eg p ts):=by
 refine Eq.mp (oS p ts _) ⟨_,if_pos h.1,⟨λhv=>Br.dec (λhl=>⟨_,if_pos ⟨h.2,h.1⟩,?_⟩) λhl=>?_,λhv=>?_⟩⟩
 ·have hv:Bf p=true:=hv
  have hl:ts.length<=4:=by omega
  show (!List.any ts λt=>!Dh p t)=_
  rw [uV]
  unfold Eg
  rw [hv,decide_eq_true hl];rfl
 ·unfold Eg
  rw [decide_eq_false (by omega),Bool.and_false];rfl
 ·have hv:Bf p=false:=hv
  unfold Eg
  rw [hv];rfl
theorem fV:Sound Tryz.prog 25 Gv:=
 Sound.Cv Bk (Ae Rg (Ae AA Ak)) mixed Tryz.func25 (by kernel_rfl) (by kernel_rfl) λx h=>nI x.1 x.2.1 h
theorem nJ (p:PP) (ts:List TT) (h:Cf p/\En ts):fnW Cl (look [(33,Dw),(36,Kj)]) Gv Tryz.f20 (p,ts,()) (λ(z:Bool)=>z=Eg p ts):=by
 refine Eq.mp (oT p ts _) ⟨_,if_pos h.1,⟨λhv=>?_,λhv=>Br.dec (λhl=>?_) λhl=>?_⟩⟩
 ·have hv:Bf p=false:=Bool.eq_false_iff.2 (Ck hv)
  unfold Eg
  rw [hv];rfl
 ·unfold Eg
  rw [decide_eq_false (by omega),Bool.and_false];rfl
 ·have hv:Bf p=true:=Di hv
  have hl:ts.length<=4:=by omega
  have e:Eg p ts=List.all ts (Dh p):=by
   unfold Eg
   rw [hv,decide_eq_true hl];rfl
  rw [e]
  refine Ag ts.length (λv=>v.1) (λj v=>v.2.1=p.1/\v.2.2.1=p.2.1/\v.2.2.2.1=p.2.2.1/\List.all (ts.drop j) (Dh p)=List.all ts (Dh p)) rfl ⟨rfl,rfl,rfl,by simp⟩ ?_
  rintro j ⟨i,n1,n2,n3,⟨⟩⟩ K hj hi ⟨h1,h2,h3,hR⟩ hK
  dsimp only at hi h1 h2 h3 hR⊢
  subst hi h1 h2 h3
  refine Br.dec (λhl=>?_) λhl=>?_
  ·have hl:j<ts.length:=by omega
   rw [List.drop_eq_getElem_cons hl,List.all_cons] at hR
   refine ⟨_,Am hl,_,if_pos ⟨h.1,h.2.2 _ (List.getElem_mem hl)⟩,⟨λhe=>?_,λhe=>?_⟩⟩
   ·have he:Dh p ts[j]=false:=Bool.eq_false_iff.2 (Ck he)
    rw [he,Bool.false_and] at hR
    exact hR
   ·have he:Dh p ts[j]=true:=Di he
    rw [he,Bool.true_and] at hR
    rw [Ah (by omega)]
    exact hK hl _ rfl ⟨rfl,rfl,rfl,hR⟩
  ·have:j=ts.length:=by omega
   subst this
   rw [List.drop_length] at hR
   exact hR
theorem fX:Sound Tryz.prog 20 Gv:=
 Sound.Cv Bk (Ae Rh (Ae jR Ak)) mixed Tryz.func20 (by kernel_rfl) (by kernel_rfl) λx h=>nJ x.1 x.2.1 h
theorem VZ (ts:List TT) (k:Int) (h:En ts/\roomy k):fnW Cl (look [(18,Un)]) jI Tryz.f5 (ts,k,()) (λ(z:Int)=>z=Vn ts k):=by
 obtain ⟨⟨h1,h2⟩,h3,h4⟩:=h
 refine Eq.mp (XA ts k _) ?_
 rw [Ca (by omega) (by omega)]
 refine Br.dec (λhn=>?_) λhn=>?_
 ·exact (if_pos hn).symm
 ·have e:Vn ts k=Vx ts (k-ts.length):=if_neg hn
  rw [e]
  refine Ag ts.length (λv=>v.2.1) (λj v=>roomy v.1/\Vx (ts.drop j) v.1=Vx ts (k-ts.length)) rfl ⟨⟨by omega,by omega⟩,by simp⟩ ?_
  rintro j ⟨r,i,⟨⟩⟩ K hj hi ⟨hr,hR⟩ hK
  dsimp only at hi hr hR⊢
  subst hi
  refine Br.dec (λhl=>?_) λhl=>?_
  ·have hl:j<ts.length:=by omega
   rw [List.drop_eq_getElem_cons hl] at hR
   simp only [Vx] at hR
   refine ⟨_,Am hl,_,if_pos ⟨h2 _ (List.getElem_mem hl),hr⟩,Br.dec (λhm=>?_) λhm=>?_⟩
   ·have hm:Hi ts[j] r<0:=hm
    rw [if_pos hm] at hR
    exact hR
   ·have hm: ¬Hi ts[j] r<0:=hm
    rw [if_neg hm] at hR
    rw [Ah (by omega)]
    exact hK hl _ rfl ⟨cI hr hm,hR⟩
  ·have:j=ts.length:=by omega
   subst this
   rw [List.drop_length] at hR
   exact hR
theorem AF:Sound Tryz.prog 5 jI:=
 Sound.Cv Bk (Ae q6 Ak) mixed Tryz.func5 (by kernel_rfl) (by kernel_rfl) λx h=>VZ x.1 x.2.1 h
theorem WC (ts:List TT) (h:En ts):fnW Cl (look [(23,Uo)]) nZ Tryz.f8 (ts,()) (λ(z:List TT)=>z=ts):=by
 obtain ⟨h,h4⟩:=h
 refine Eq.mp (XD ts _) ?_
 refine ⟨⟨by omega,by show (ts.length:Int)<(4294967296:Int)+1;omega⟩,rfl,rfl,rfl,?_⟩
 refine Ag ts.length (λv=>v.1) (λj v=>v.2.1.length=ts.length/\v.2.1.take j=ts.take j) rfl ⟨by simp,by simp⟩ ?_
 rintro j ⟨i,ys,⟨⟩⟩ K hj hi ⟨h1,h2⟩ hK
 dsimp only at hi h1 h2⊢
 subst hi
 refine Br.dec (λhl=>?_) λhl=>?_
 ·have hl:j<ts.length:=by omega
  refine ⟨_,Am hl,_,if_pos (h4 _ (List.getElem_mem hl)),⟨by omega,by omega⟩,by rw [Int.toNat_natCast];omega,rfl,by rw [List.length_set],?_⟩
  rw [Ah (by omega),Int.toNat_natCast,Nat.zero_add]
  exact hK hl _ rfl ⟨by rw [List.length_set];exact h1,Gg hl h1 h2⟩
 ·have:j=ts.length:=by omega
  subst this
  rw [List.take_length,<-h1,List.take_length] at h2
  rw [List.drop_zero,List.take_length]
  exact h2
theorem AG:Sound Tryz.prog 8 nZ:=
 Sound.Cv Bk (Ae q7 Ak) mixed Tryz.func8 (by kernel_rfl) (by kernel_rfl) λx h=>WC x.1 h
theorem jq {a b:TT} :Js a b=true↔a=b:=by
 obtain ⟨a1,a2,a3,⟨⟩⟩:=a
 obtain ⟨b1,b2,b3,⟨⟩⟩:=b
 simp [Js]
theorem VT (a b:List TT) (h:En a):fnW Cl (look [(30,Er)]) jG Tryz.f12 (a,b,()) (λ(z:Bool)=>z=decide (a=b)):=by
 obtain ⟨h1,h2⟩:=h
 refine Eq.mp (WU a b _) ⟨λhl=>?_,λhl=>?_⟩
 ·have hl:a.length≠b.length:=by
   have:(a.length:Int)≠b.length:=by simpa using hl
   omega
  exact (decide_eq_false λe=>hl (by rw [e])).symm
 ·have hl:a.length=b.length:=by
   have:(a.length:Int)=b.length:=by simpa using hl
   omega
  refine Ag a.length (λv=>v.1) (λj _=>(a=b↔a.drop j=b.drop j)) rfl (by simp) ?_
  rintro j ⟨i,⟨⟩⟩ K hj hi hR hK
  dsimp only at hi⊢
  subst hi
  refine Br.dec (λXO=>?_) λXO=>?_
  ·have XO:j<a.length:=by omega
   have XQ:j<b.length:=by omega
   rw [List.drop_eq_getElem_cons XO,List.drop_eq_getElem_cons XQ] at hR
   refine ⟨_,Am XO,_,Am XQ,_,if_pos (h2 _ (List.getElem_mem XO)),⟨λhe=>?_,λhe=>?_⟩⟩
   ·have he: ¬Js a[j] b[j]=true:=Ck he
    refine (decide_eq_false λe=>he (jq.2 ?_)).symm
    have:=hR.1 e
    simp only [List.cons.injEq] at this
    exact this.1
   ·have he:Js a[j] b[j]=true:=Di he
    rw [jq.1 he] at hR
    rw [Ah (by omega)]
    exact hK XO _ rfl (hR.trans ⟨λe=>(List.cons.inj e).2,λe=>by rw [e]⟩)
  ·have:j=a.length:=by omega
   subst this
   rw [List.drop_length,hl,List.drop_length] at hR
   exact (decide_eq_true (hR.2 rfl)).symm
theorem AB:Sound Tryz.prog 12 jG:=
 Sound.Cv Bk (Ae pS Ak) mixed Tryz.func12 (by kernel_rfl) (by kernel_rfl) λx h=>VT x.1 x.2.1 h
end Go.Proofs.YtjbdmibbbpdnnaaGreat
