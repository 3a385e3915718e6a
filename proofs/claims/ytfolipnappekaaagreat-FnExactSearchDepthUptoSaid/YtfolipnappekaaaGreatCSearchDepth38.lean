/-
  Part 39 of the proof that the statement FnExactSearchDepth holds.
-/
import Derived.Test.YtfolipnappekaaaGreatCSearchDepth37
namespace Go.Proofs.YtfolipnappekaaaGreat
open Go.RowKit
noncomputable def Gh (p:PP) (t:List Int):Bool:=Dy p&&Zt p.1 t
noncomputable def Gu (p:PP) (t:List Int):Bool:=Gh p t&&(Kq p.2.2.1 t).2.2
noncomputable abbrev Ja:Spec:=Ev (.pair Fl (.pair tL .unit)) .bool false true (λx=>Eh x.1/\short x.2.1) (λx=>Gh x.1 x.2.1)
noncomputable def Pl (p:PP) (t:List Int):SS:=if Gh p t=true then Rq p.2.2.1 t else ([],[],[],false,())
noncomputable abbrev Vm:Spec:=Ev (.pair Fl (.pair tL .unit)) (.pair kv (.pair .bool .unit)) true false (λx=>Eh x.1/\short x.2.1) (λx=>(Pl x.1 x.2.1,Gu x.1 x.2.1,()))
noncomputable abbrev Rw:Spec:=Ev (.pair da .unit) da false true (λx=>Hb x.1) (λx=>x.1)
noncomputable def Hr (p:PP) (t:List Int):TT:=if Gu p t=true then (t,(Kq p.2.2.1 t).1,(Kq p.2.2.1 t).2.1,()) else ([],[],[],())
noncomputable abbrev Vo:Spec:=Ev (.pair Fl (.pair tL .unit)) (.pair Kt (.pair .bool .unit)) true true (λx=>Eh x.1/\short x.2.1) (λx=>(Hr x.1 x.2.1,Gu x.1 x.2.1,()))
noncomputable abbrev Yn:MSpec:=cr [some 3,none] [(false, .Eu tI),(false, .Eu .str),(false, .Eu da),(false, .Eu tL)] true [none,none,none] [xLL,rL, .Eu .bool]
 (λx=>Gh (x.1,x.2.1,x.2.2.1,()) x.2.2.2.1=true) (λx=>(((Hr (x.1,x.2.1,x.2.2.1,()) x.2.2.2.1).2.1,(Hr (x.1,x.2.1,x.2.2.1,()) x.2.2.2.1).2.2.1,Gu (x.1,x.2.1,x.2.2.1,()) x.2.2.2.1,()),()))
noncomputable abbrev Yp:MSpec:=cr [some 3,none] [(false, .Eu tI),(false, .Eu .str),(false, .Eu da),(false, .Eu tL)] true [none,none,none] [xLL,rL, .Eu .bool]
 (λx=>Eh (x.1,x.2.1,x.2.2.1,())/\short x.2.2.2.1) (λx=>(((Hr (x.1,x.2.1,x.2.2.1,()) x.2.2.2.1).2.1,(Hr (x.1,x.2.1,x.2.2.1,()) x.2.2.2.1).2.2.1,Gu (x.1,x.2.1,x.2.2.1,()) x.2.2.2.1,()),()))
noncomputable abbrev Vk:MSpec:=cr [some 3,none] [(false, .Eu tI),(false, .Eu .str),(false, .Eu da),(false, .Eu tL)] true [some 3,none] [rL,xLL,rL, .Eu .bool]
 (λx=>Eh (x.1,x.2.1,x.2.2.1,())/\short x.2.2.2.1) (λx=>(((Hr (x.1,x.2.1,x.2.2.1,()) x.2.2.2.1).1,(Hr (x.1,x.2.1,x.2.2.1,()) x.2.2.2.1).2.1,(Hr (x.1,x.2.1,x.2.2.1,()) x.2.2.2.1).2.2.1,Gu (x.1,x.2.1,x.2.2.1,()) x.2.2.2.1,()),()))
noncomputable def Gx (p:PP) (t:TT):Bool:=Gu p t.1&&Pk (Hr p t.1) t
noncomputable abbrev Qf:Spec:=Ev (.pair Fl (.pair Kt .unit)) .bool false true (λx=>Eh x.1/\Ob x.2.1) (λx=>Gx x.1 x.2.1)
abbrev vQ:Ty:= .slice Kt
def Gv (ts:List TT):Prop:=ts.length<=4294967296/\ ∀t∈ts,Ob t
noncomputable def Gp (p:PP) (ts:List TT):Bool:=Dy p&&decide (ts.length<=4)&&List.all ts (Gx p)
noncomputable abbrev Ld:Spec:=Ev (.pair Fl (.pair vQ .unit)) .bool false true (λx=>Eh x.1/\Gv x.2.1) (λx=>Gp x.1 x.2.1)
abbrev Ap3:Ty:= .clo 86 (.pair (.ptr Fl) .unit)
noncomputable abbrev yO:Spec:=Ev (.pair Kt (.pair (.ptr Fl) .unit)) .bool false true (λx=>Ob x.1/\Eh x.2.1) (λx=>!Gx x.2.1 x.1)
def Ro (q:TT->Bool):List TT->Int->Int
 | [],_=> -1
 |t::ts,k=>if q t=true then k else Ro q ts (k+1)
noncomputable abbrev pT:Spec:=Ev (.pair vQ (.pair Ap3 .unit)) tI false true (λx=>Gv x.1/\Eh x.2.1.1) (λx=>Ro (λt=>!Gx x.2.1.1 t) x.1 0)
noncomputable abbrev pP:Spec:=Ev (.pair vQ (.pair Ap3 .unit)) .bool false true (λx=>Gv x.1/\Eh x.2.1.1) (λx=>List.any x.1 (λt=>!Gx x.2.1.1 t))
def cd:List TT->Int->Int
 | [],room=>room
 |t::ts,room=>if Lx t room<0 then-1 else cd ts (Lx t room)
def bV (ts:List TT) (room:Int):Int:=if room-ts.length<0 then-1 else cd ts (room-ts.length)
noncomputable abbrev pV:Spec:=Ev (.pair vQ (.pair tI .unit)) tI false true (λx=>Gv x.1/\roomy x.2.1) (λx=>bV x.1 x.2.1)
noncomputable abbrev uV:Spec:=Ev (.pair vQ .unit) vQ false true (λx=>Gv x.1) (λx=>x.1)
noncomputable abbrev pQ:Spec:=Ev (.pair vQ (.pair vQ .unit)) .bool false true (λx=>Gv x.1) (λx=>decide (x.1=x.2.1))
theorem xw (p:Int×ByteArray×List (List Int)×Unit) (t:List Int) (P:Bool->Prop):(∃(y3:Bool),Hv.fn ((p.1,p.2.1,p.2.2.1,()),())=some y3/\Br y3 (∃(y4:Bool),Jx.fn (p.1,t,())=some y4/\P y4) (P false))=fnW Ei (look [(84,Hv),(159,Jx)]) Ja Tryz.f151 (p,t,()) P:=by kernel_rfl
theorem xC (p:Int×ByteArray×List (List Int)×Unit) (t:List Int) (P:Bool->Prop):(∃(y3:Bool),Hv.fn ((p.1,p.2.1,p.2.2.1,()),())=some y3/\Br y3 (∃(y4:Bool),Jx.fn (p.1,t,())=some y4/\P y4) (P false))=fnW Ei (look [(93,Hv),(160,Jx)]) Ja Tryz.f155 (p,t,()) P:=by kernel_rfl
theorem JY (p:Int×ByteArray×List (List Int)×Unit) (t:List Int) (P:((List (List Int)×List Int×List Int×Bool×Unit)×Bool×Unit)->Prop):(∃(y3:Bool),Ja.fn ((p.1,p.2.1,p.2.2.1,()),t,())=some y3/\Br (!y3) (P ((List.take 0 (List.drop 0 []),List.take 0 (List.drop 0 []),List.take 0 (List.drop 0 []),false,()),false,())) (∃(y4:List (List Int)×List Int×List Int×Bool×PUnit),kq.fn ((p.1,p.2.1,p.2.2.1,()),t,())=some y4/\((P ((y4.1,y4.2.1,y4.2.2.1,y4.2.2.2.1,()),y4.2.2.2.1,())/\P ((y4.1,y4.2.1,y4.2.2.1,y4.2.2.2.1,()),y4.2.2.2.1,()))/\P ((y4.1,y4.2.1,y4.2.2.1,y4.2.2.2.1,()),y4.2.2.2.1,()))/\(P ((y4.1,y4.2.1,y4.2.2.1,y4.2.2.2.1,()),y4.2.2.2.1,())/\P ((y4.1,y4.2.1,y4.2.2.1,y4.2.2.2.1,()),y4.2.2.2.1,()))/\P ((y4.1,y4.2.1,y4.2.2.1,y4.2.2.2.1,()),y4.2.2.2.1,())))=fnW Ei (look [(155,Ja),(131,kq)]) Vm Tryz.f142 (p,t,()) P:=by kernel_rfl
theorem JP (l:List (List Int)) (P:List (List Int)->Prop):(0=0/\0=([]:List Int).length/\Df (λ(v2:Int×List (List Int)×PUnit) (k3:Int×List (List Int)×PUnit->Prop)=>Br (decide (v2.1<(↑l.length:Int))) (∃(y4:List Int),idx l v2.1=some y4/\ ∃(y5:List Int),Jr.fn (y4,())=some y5/\0=0/\v2.2.1.length=v2.2.1.length/\v2.2.1.length+(List.take 1 (List.drop 0 [y5])).length<=Cr/\0=0/\(v2.2.1++List.take 1 (List.drop 0 [y5])).length=(v2.2.1++List.take 1 (List.drop 0 [y5])).length/\k3 (IntKind.i64.wrap (v2.1+(1:Int)),v2.2.1++List.take 1 (List.drop 0 [y5]),())) (P (List.take v2.2.1.length (List.drop 0 v2.2.1)))) ((0:Int),[],PUnit.unit))=fnW Ei (look [(116,Jr)]) Rw Tryz.f143 (l,()) P:=by kernel_rfl
theorem KA (p:Int×ByteArray×List (List Int)×Unit) (t:List Int) (P:((List Int×List (List Int)×List Int×Unit)×Bool×Unit)->Prop):(∃(y3:(List (List Int)×List Int×List Int×Bool×PUnit)×Bool×PUnit),Vm.fn ((p.1,p.2.1,p.2.2.1,()),t,())=some y3/\Br (!y3.2.1) (P ((List.take 0 (List.drop 0 []),List.take 0 (List.drop 0 []),List.take 0 (List.drop 0 []),()),false,())) (∃(y4:List Int),Jr.fn (t,())=some y4/\ ∃(y5:List (List Int)),Rw.fn (y3.1.1,())=some y5/\ ∃(y6:List Int),Jr.fn (y3.1.2.1,())=some y6/\P ((y4,y5,y6,()),true,())))=fnW Ei (look [(142,Vm),(116,Jr),(143,Rw)]) Vo Tryz.f125 (p,t,()) P:=by kernel_rfl
abbrev cY:Type:=Int×List (List Int)×List (List Int)×List Int×(ByteArray->Option Bool)×PUnit
abbrev rn:Type:=Int×Int×ByteArray×List (List Int)×List (List Int)×List (List Int)×List Int×(ByteArray->Option Bool)×PUnit
theorem QG (n:Int) (str:ByteArray) (g:List (List Int)) (t:List Int) (P:((List (List Int)×List Int×Bool×Unit)×Unit)->Prop):(∃(y5:(List Int×PUnit)×PUnit),c6.fn (t,())=some y5/\ ∃(y6:ByteArray),Kh.fn (t,())=some y6/\ ∃(y7:List Int),Lz.fn ((↑g.length:Int),())=some y7/\0=0/\1= [List.take y5.1.1.length (List.drop 0 y5.1.1)].length/\0=0/\1= [(0:Int)].length/\0=0/\0=([]:List Int).length/\Df (λ(v8:rn) (k9:rn->Prop)=>Br (decide (v8.1<(↑y7.length:Int))) (∃(Md:Int),idx y7 v8.1=some Md/\ ∃(fQ:List Int),Lc.fn (v8.2.2.2.1,Md,())=some fQ/\0=0/\v8.2.2.2.2.1.length=v8.2.2.2.2.1.length/\v8.2.2.2.2.1.length+(List.take 1 (List.drop 0 [fQ])).length<=Cr/\0=0/\v8.2.2.2.2.2.1.length=v8.2.2.2.2.2.1.length/\0=0/\v8.2.2.2.2.2.2.1.length=v8.2.2.2.2.2.2.1.length/\0=0/\(v8.2.2.2.2.1++List.take 1 (List.drop 0 [fQ])).length=(v8.2.2.2.2.1++List.take 1 (List.drop 0 [fQ])).length/\k9 (IntKind.i64.wrap (v8.1+(1:Int)),v8.2.1,v8.2.2.1,v8.2.2.2.1,v8.2.2.2.2.1++List.take 1 (List.drop 0 [fQ]),v8.2.2.2.2.2.1,v8.2.2.2.2.2.2.1,v8.2.2.2.2.2.2.2.1,())) (0=0/\v8.2.2.2.2.2.1.length=v8.2.2.2.2.2.1.length/\0=0/\v8.2.2.2.2.2.2.1.length=v8.2.2.2.2.2.2.1.length/\0=0/\v8.2.2.2.2.1.length=v8.2.2.2.2.1.length/\Df (λ(v10:cY) (k11:cY->Prop)=>Br (decide (v10.1<(↑v10.2.2.1.length:Int))) (0=0/\v10.2.2.1.length=v10.2.2.1.length/\0=0/\v10.2.2.2.1.length=v10.2.2.2.1.length/\0=0/\v10.2.1.length=v10.2.1.length/\0=0/\v10.2.1.length=v10.2.1.length/\Df (λ(Od:cY) (k13:cY->Prop)=>Br (decide (Od.1<(↑v10.2.1.length:Int))) (((0:Int)<=Od.1/\Od.1<(↑Od.2.1.length:Int))/\ ∃(Jc:List Int),Od.2.1[0+Od.1.toNat]?=some Jc/\((0:Int)<=v10.1/\v10.1<(↑Od.2.2.1.length:Int))/\ ∃(Qq:List Int),Od.2.2.1[0+v10.1.toNat]?=some Qq/\ ∃(Xe:(List Int×PUnit)×PUnit),bp.fn (Jc,Qq,())=some Xe/\ ∃(ay:ByteArray),Kh.fn (List.take Xe.1.1.length (List.drop 0 Xe.1.1),())=some ay/\Br (!(Od.2.2.2.2.1 ay).getD false) (Br ((↑Od.2.2.1.length:Int)==(3000:Int)) (P ((List.take 0 (List.drop 0 []),List.take 0 (List.drop 0 []),false,()),())) (0=0/\Od.2.2.1.length=Od.2.2.1.length/\Od.2.2.1.length+(List.take 1 (List.drop 0 [List.take Xe.1.1.length (List.drop 0 Xe.1.1)])).length<=Cr/\((0:Int)<=v10.1/\v10.1<(↑Od.2.2.2.1.length:Int))/\ ∃(Xf:Int),Od.2.2.2.1[0+v10.1.toNat]?=some Xf/\0=0/\Od.2.2.2.1.length=Od.2.2.2.1.length/\Od.2.2.2.1.length+(List.take 1 (List.drop 0 [IntKind.i64.wrap (Xf+(1:Int))])).length<=Cr/\0=0/\(Od.2.2.1++List.take 1 (List.drop 0 [List.take Xe.1.1.length (List.drop 0 Xe.1.1)])).length=(Od.2.2.1++List.take 1 (List.drop 0 [List.take Xe.1.1.length (List.drop 0 Xe.1.1)])).length/\0=0/\(Od.2.2.2.1++List.take 1 (List.drop 0 [IntKind.i64.wrap (Xf+(1:Int))])).length=(Od.2.2.2.1++List.take 1 (List.drop 0 [IntKind.i64.wrap (Xf+(1:Int))])).length/\0=0/\Od.2.1.length=Od.2.1.length/\0=0/\Od.2.1.length=Od.2.1.length/\k13 (IntKind.i64.wrap (Od.1+(1:Int)),Od.2.1,Od.2.2.1++List.take 1 (List.drop 0 [List.take Xe.1.1.length (List.drop 0 Xe.1.1)]),Od.2.2.2.1++List.take 1 (List.drop 0 [IntKind.i64.wrap (Xf+(1:Int))]),jy Od.2.2.2.2.1 ay true,()))) (0=0/\Od.2.2.1.length=Od.2.2.1.length/\0=0/\Od.2.2.2.1.length=Od.2.2.2.1.length/\0=0/\Od.2.1.length=Od.2.1.length/\0=0/\Od.2.1.length=Od.2.1.length/\k13 (IntKind.i64.wrap (Od.1+(1:Int)),Od.2.1,Od.2.2.1,Od.2.2.2.1,Od.2.2.2.2.1,()))) (0=0/\Od.2.2.1.length=Od.2.2.1.length/\0=0/\Od.2.2.2.1.length=Od.2.2.2.1.length/\0=0/\Od.2.1.length=Od.2.1.length/\k11 (IntKind.i64.wrap (v10.1+(1:Int)),Od.2.1,Od.2.2.1,Od.2.2.2.1,Od.2.2.2.2.1,()))) ((0:Int),v10.2.1,v10.2.2.1,v10.2.2.2.1,v10.2.2.2.2.1,PUnit.unit)) (P ((List.take v10.2.2.1.length (List.drop 0 v10.2.2.1),List.take v10.2.2.2.1.length (List.drop 0 v10.2.2.2.1),true,()),()))) ((0:Int),v8.2.2.2.2.1,v8.2.2.2.2.2.1,v8.2.2.2.2.2.2.1,v8.2.2.2.2.2.2.2.1,PUnit.unit))) ((0:Int),n,str,g,[],[List.take y5.1.1.length (List.drop 0 y5.1.1)],[(0:Int)],jy (λ(_:ByteArray)=>none) y6 true,PUnit.unit))=fnMW (CJ [aa+10]) (look [(138,c6),(79,Kh),(106,Lz),(122,Lc),(80,bp)]) Yn Tryz.f152 (n,str,g,t,()) P:=by kernel_rfl
theorem QI (n:Int) (str:ByteArray) (g:List (List Int)) (t:List Int) (P:((List (List Int)×List Int×Bool×Unit)×Unit)->Prop):(∃(y5:Bool),Ja.fn ((n,str,g,()),t,())=some y5/\Br (!y5) (P ((List.take 0 (List.drop 0 []),List.take 0 (List.drop 0 []),false,()),())) (∃(y6:(List (List Int)×List Int×Bool×PUnit)×PUnit),Yn.fn (n,str,g,t,())=some y6/\P ((List.take y6.1.1.length (List.drop 0 y6.1.1),List.take y6.1.2.1.length (List.drop 0 y6.1.2.1),y6.1.2.2.1,()),())))=fnMW Tk (look [(151,Ja),(152,Yn)]) Yp Tryz.f137 (n,str,g,t,()) P:=by kernel_rfl
theorem JS (n:Int) (str:ByteArray) (g:List (List Int)) (t:List Int) (P:((List Int×List (List Int)×List Int×Bool×Unit)×Unit)->Prop):(∃(y5:(List (List Int)×List Int×Bool×PUnit)×PUnit),Yp.fn (n,str,g,t,())=some y5/\Br (!y5.1.2.2.1) (P ((List.take 0 (List.drop 0 []),List.take 0 (List.drop 0 []),List.take 0 (List.drop 0 []),false,()),())) (∃(y6:(List Int×PUnit)×PUnit),c6.fn (t,())=some y6/\P ((List.take y6.1.1.length (List.drop 0 y6.1.1),List.take y5.1.1.length (List.drop 0 y5.1.1),List.take y5.1.2.1.length (List.drop 0 y5.1.2.1),true,()),())))=fnMW Tk (look [(137,Yp),(138,c6)]) Vk Tryz.f113 (n,str,g,t,()) P:=by kernel_rfl
theorem CY (p:Int×ByteArray×List (List Int)×Unit) (t:List Int×List (List Int)×List Int×Unit) (P:Bool->Prop):(∃(y3:(List Int×List (List Int)×List Int×Bool×PUnit)×PUnit),Vk.fn (p.1,p.2.1,p.2.2.1,t.1,())=some y3/\Br y3.1.2.2.2.1 (∃(y4:Bool),Is.fn ((List.take y3.1.1.length (List.drop 0 y3.1.1),List.take y3.1.2.1.length (List.drop 0 y3.1.2.1),List.take y3.1.2.2.1.length (List.drop 0 y3.1.2.2.1),()),(t.1,t.2.1,t.2.2.1,()),())=some y4/\P y4) (P false))=fnW Ei (look [(113,Vk),(114,Is)]) Qf Tryz.f87 (p,t,()) P:=by kernel_rfl
theorem DD (p:Int×ByteArray×List (List Int)×Unit) (t:List Int×List (List Int)×List Int×Unit) (P:Bool->Prop):(∃(y3:(List Int×List (List Int)×List Int×PUnit)×Bool×PUnit),Vo.fn ((p.1,p.2.1,p.2.2.1,()),t.1,())=some y3/\Br y3.2.1 (∃(y4:Bool),Is.fn ((y3.1.1,y3.1.2.1,y3.1.2.2.1,()),(t.1,t.2.1,t.2.2.1,()),())=some y4/\P y4) (P false))=fnW Ei (look [(125,Vo),(126,Is)]) Qf Tryz.f94 (p,t,()) P:=by kernel_rfl
theorem Apj (t:List Int×List (List Int)×List Int×Unit) (p:Int×ByteArray×List (List Int)×Unit) (P:Bool->Prop):(∃(y3:Bool),Qf.fn (p,(t.1,t.2.1,t.2.2.1,()),())=some y3/\P !y3)=fnW Ei (look [(87,Qf)]) yO Tryz.f86 (t,p,()) P:=by kernel_rfl
theorem Akz (ts:List (List Int×List (List Int)×List Int×Unit)) (c:(Int×ByteArray×List (List Int)×Unit)×Unit) (P:Int->Prop):(Df (λ(v3:Int×PUnit) (k4:Int×PUnit->Prop)=>Br (decide (v3.1<(↑ts.length:Int))) (∃(y5:List Int×List (List Int)×List Int×PUnit),idx ts v3.1=some y5/\ ∃(y6:Bool),yO.fn (y5,c.1,())=some y6/\Br y6 (P v3.1) (k4 (IntKind.i64.wrap (v3.1+(1:Int)),()))) (P (-1:Int))) ((0:Int),PUnit.unit))=fnW Ei (look [(86,yO)]) pT Tryz.f112 (ts,c,()) P:=by kernel_rfl
theorem Akt (ts:List (List Int×List (List Int)×List Int×Unit)) (c:(Int×ByteArray×List (List Int)×Unit)×Unit) (P:Bool->Prop):(∃(y3:Int),pT.fn (ts,c,())=some y3/\P (decide (y3>=(0:Int))))=fnW Ei (look [(112,pT)]) pP Tryz.f85 (ts,c,()) P:=by kernel_rfl
theorem vZ (p:Int×ByteArray×List (List Int)×Unit) (ts:List (List Int×List (List Int)×List Int×Unit)) (P:Bool->Prop):(∃(y3:Bool),Hv.fn ((p.1,p.2.1,p.2.2.1,()),())=some y3/\Br y3 (Br (decide ((↑ts.length:Int)<=(4:Int))) (∃(y4:Bool),pP.fn (ts,((p.1,p.2.1,p.2.2.1,()),()),())=some y4/\P !y4) (P false)) (P false))=fnW Ei (look [(84,Hv),(85,pP)]) Ld Tryz.f63 (p,ts,()) P:=by kernel_rfl
abbrev gD:Type:=Int×Int×ByteArray×List (List Int)×PUnit
theorem w5 (p:Int×ByteArray×List (List Int)×Unit) (ts:List (List Int×List (List Int)×List Int×Unit)) (P:Bool->Prop):(∃(y3:Bool),Hv.fn ((p.1,p.2.1,p.2.2.1,()),())=some y3/\Br (!y3) (P false) (Br (decide ((↑ts.length:Int)>(4:Int))) (P false) (Df (λ(v4:gD) (k5:gD->Prop)=>Br (decide (v4.1<(↑ts.length:Int))) (∃(y6:List Int×List (List Int)×List Int×PUnit),idx ts v4.1=some y6/\ ∃(y7:Bool),Qf.fn ((v4.2.1,v4.2.2.1,v4.2.2.2.1,()),y6,())=some y7/\Br (!y7) (P false) (k5 (IntKind.i64.wrap (v4.1+(1:Int)),v4.2.1,v4.2.2.1,v4.2.2.2.1,()))) (P true)) ((0:Int),p.1,p.2.1,p.2.2.1,PUnit.unit))))=fnW Ei (look [(93,Hv),(94,Qf)]) Ld Tryz.f72 (p,ts,()) P:=by kernel_rfl
theorem Al5 (ts:List (List Int×List (List Int)×List Int×Unit)) (k:Int) (P:Int->Prop):(Br (decide (IntKind.i64.wrap (k-(↑ts.length:Int))<(0:Int))) (P (-1:Int)) (Df (λ(v3:Int×Int×PUnit) (k4:Int×Int×PUnit->Prop)=>Br (decide (v3.2.1<(↑ts.length:Int))) (∃(y5:List Int×List (List Int)×List Int×PUnit),idx ts v3.2.1=some y5/\ ∃(y6:Int),bt.fn (y5,v3.1,())=some y6/\Br (decide (y6<(0:Int))) (P (-1:Int)) (k4 (y6,IntKind.i64.wrap (v3.2.1+(1:Int)),()))) (P v3.1)) (IntKind.i64.wrap (k-(↑ts.length:Int)),(0:Int),PUnit.unit)))=fnW Ei (look [(46,bt)]) pV Tryz.f14 (ts,k,()) P:=by kernel_rfl
abbrev SR:Type:=Int×List (List Int×List (List Int)×List Int×PUnit)×PUnit
abbrev SU:Type:=List Int×List (List Int)×List Int×PUnit
theorem Al8 (ts:List (List Int×List (List Int)×List Int×Unit)) (P:List (List Int×List (List Int)×List Int×Unit)->Prop):(((0:Int)<=(↑ts.length:Int)/\(↑ts.length:Int)<(↑Cr:Int)+(1:Int))/\(↑ts.length:Int)=(↑ts.length:Int)/\0=0/\(List.replicate (↑ts.length:Int).toNat (([]:List Int),([]:List (List Int)),([]:List Int),())).length=(List.replicate (↑ts.length:Int).toNat (([]:List Int),([]:List (List Int)),([]:List Int),())).length/\Df (λ(v2:SR) (k3:SR->Prop)=>Br (decide (v2.1<(↑ts.length:Int))) (∃(y4:SU),idx ts v2.1=some y4/\ ∃(y5:SU),bw.fn (y4,())=some y5/\((0:Int)<=v2.1/\v2.1<(↑v2.2.1.length:Int))/\0+v2.1.toNat<v2.2.1.length/\0=0/\v2.2.1.length=(v2.2.1.set (0+v2.1.toNat) y5).length/\k3 (IntKind.i64.wrap (v2.1+(1:Int)),v2.2.1.set (0+v2.1.toNat) y5,())) (P (List.take v2.2.1.length (List.drop 0 v2.2.1)))) ((0:Int),List.replicate (↑ts.length:Int).toNat (([]:List Int),([]:List (List Int)),([]:List Int),()),PUnit.unit))=fnW Ei (look [(50,bw)]) uV Tryz.f17 (ts,()) P:=by kernel_rfl
abbrev SP:Type:=List Int×List (List Int)×List Int×PUnit
theorem Akw (a b:List (List Int×List (List Int)×List Int×Unit)) (P:Bool->Prop):(Br ((↑a.length:Int) !=(↑b.length:Int)) (P false) (Df (λ(v3:Int×PUnit) (k4:Int×PUnit->Prop)=>Br (decide (v3.1<(↑a.length:Int))) (∃(y5:SP),idx a v3.1=some y5/\ ∃(y6:SP),idx b v3.1=some y6/\ ∃(y7:Bool),Is.fn (y5,y6,())=some y7/\Br (!y7) (P false) (k4 (IntKind.i64.wrap (v3.1+(1:Int)),()))) (P true)) ((0:Int),PUnit.unit)))=fnW Ei (look [(54,Is)]) pQ Tryz.f21 (a,b,()) P:=by kernel_rfl
theorem tf {p:PP} (hV:Valid p) {m:Nat} {x:List Int} {d:Int} (hx: ∀y∈x,0<=y/\y<p.1) (ZY:x.length=m): ∀(ls:List Int) (L:List (List Int)) (D:List Int),(∀l∈ls,Iu (List.length p.2.2.1) l)->
  az p m L D->(0<=d/\d<L.length)->az p m (Me p.2.2.1 x d ls L D).1 (Me p.2.2.1 x d ls L D).2.1/\(∃A,(Me p.2.2.1 x d ls L D).1=L++A)/\(∃A,(Me p.2.2.1 x d ls L D).2.1=D++A)
 | [],L,D,_,h,_=>⟨h,⟨[],by simp [Me]⟩,⟨[],by simp [Me]⟩⟩
 |l::ls,L,D,hl,h,hd=>by
  obtain ⟨n1,n2⟩:=AG hV hx (hl l (by simp))
  have Km: ∀l∈ls,Iu (List.length p.2.2.1) l:= λl' h'=>hl l' (As _ h')
  simp only [Me]
  split
  ·exact tf hV hx ZY ls L D Km h hd
  ·rename_i hn
   split
   ·exact ⟨h,⟨[],by simp⟩,⟨[],by simp⟩⟩
   ·rename_i hf
    have kE:=h.ok.wo
    obtain ⟨k1,⟨A,k2⟩,⟨A',k3⟩⟩:=tf hV hx ZY ls (L++ [Al x (Bs p.2.2.1 l)]) (D++ [d+1]) Km (h.add hn (by rw [n1,ZY]) (by omega) n2 ⟨by omega,by omega⟩) ⟨hd.1,by rw [Ax];omega⟩
    exact ⟨k1,⟨_::A,by rw [k2,Dg];rfl⟩,⟨_::A',by rw [k3,Dg];rfl⟩⟩
theorem EC {p:PP} (hV:Valid p) {m:Nat} {ls:List Int} (hl: ∀l∈ls,Iu (List.length p.2.2.1) l): ∀(f k:Nat) (L:List (List Int)) (D:List Int),az p m L D->
  az p m (Re p.2.2.1 ls f k L D).1 (Re p.2.2.1 ls f k L D).2.1/\(∃A,(Re p.2.2.1 ls f k L D).1=L++A)
 |0,k,L,D,h=>⟨h,⟨[],by simp [Re]⟩⟩
 |f+1,k,L,D,h=>by
  simp only [Re]
  split
  ·rename_i hk
   have hkD:k<D.length:=by rw [h.len];exact hk
   have hd:=h.dep k hkD
   have e:D.getD k 0=D[k]:=by rw [Ak,Ac hkD];rfl
   rw [Zm hk,e]
   obtain ⟨k1,⟨A,k2⟩,_⟩:=tf hV (h.row _ (Aj hk)) (h.ok.len _ (Aj hk)) (d:=D[k]) ls L D hl h ⟨by omega,by omega⟩
   split
   ·rename_i L' D' he
    rw [he] at k1 k2
    obtain ⟨g1,⟨B,g2⟩⟩:=EC hV hl f (k+1) L' D' k1
    have k2:L'=L++A:=k2
    exact ⟨g1,⟨A++B,by rw [g2,k2,Dg]⟩⟩
   ·rename_i L' D' he
    rw [he] at k1 k2
    exact ⟨k1,⟨A,k2⟩⟩
  ·exact ⟨h,⟨[],by simp⟩⟩
theorem LD {p:PP} {s:List Int} (hv:Dy p=true) (hs:s.length<=20) (hr: ∀y∈s,0<=y/\y<p.1):az p s.length (Kq p.2.2.1 s).1 (Kq p.2.2.1 s).2.1/\ ∃A,(Kq p.2.2.1 s).1=s::A:=
 EC (valid hv) (λ_ hl=>Pn hl) _ _ _ _ (oZ hs hr)
theorem Ry {p:PP} {t:List Int} :Gh p t=true↔Dy p=true/\Zt p.1 t=true:=by
 unfold Gh;rw [Af]
theorem Ji {p:PP} {t:List Int} (h:Gh p t=true):t.length<=20/\ ∀y∈t,0<=y/\y<p.1:=by
 obtain ⟨h1,h2⟩:=Ry.1 h
 have hn:=(valid h1).n
 obtain ⟨h3,h4⟩:=Hq.1 h2
 have hy: ∀y∈t,0<=y/\y<p.1:= λy hy=>by
  obtain ⟨j,hj,rfl⟩:=Cl.1 hy
  have:=h4 j hj hj
  omega
 refine ⟨?_,hy⟩
 have h5:=OF h4 (t.length-1) (by omega)
 have h6:=hy _ (Aj (show t.length-1<t.length by omega))
 omega
theorem AT {p:PP} {t:List Int} (h:Gh p t=true):az p t.length (Kq p.2.2.1 t).1 (Kq p.2.2.1 t).2.1:=(LD (Ry.1 h).1 (Ji h).1 (Ji h).2).1
theorem ed {p:PP} {t:List Int} :Gu p t=true↔Gh p t=true/\(Kq p.2.2.1 t).2.2=true:=by
 unfold Gu;rw [Af]
theorem xJ {p:PP} {m:Nat} {L:List (List Int)} {D:List Int} (h:az p m L D):Hb L/\short D:=by
 have h1:=h.ok.wo
 have h2:=h.ok.short
 have h3:=h.len
 refine ⟨⟨by omega,λx hx=>?_⟩,by unfold short;omega⟩
 have:=h.ok.len x hx
 unfold short;omega
theorem qp {p:PP} {t:List Int} :Ob (Hr p t):=by
 unfold Hr
 split
 ·rename_i h
  have h1:=(ed.1 h).1
  have h2:=xJ (AT h1)
  have h3:=(Ji h1).1
  exact ⟨show t.length<=4294967296 by omega,h2.1,h2.2⟩
 ·exact ⟨by simp [short],⟨by simp,λr hr=>by cases hr⟩,by simp [short]⟩
theorem wP (p:PP) (t:List Int) (h:Eh p/\short t):fnW Ei (look [(84,Hv),(159,Jx)]) Ja Tryz.f151 (p,t,()) (λ(z:Bool)=>z=Gh p t):=by
 refine Eq.mp (xw p t _) ⟨_,Ab h.1,⟨λhv=>?_,λhv=>?_⟩⟩
 ·have hv:Dy p=true:=hv
  have hn:=(valid hv).n
  refine ⟨_,Ab ⟨⟨by show 0<=p.1;omega,by show p.1<=4294967296;omega⟩,h.2⟩,?_⟩
  unfold Gh;rw [hv];rfl
 ·have hv:Dy p=false:=hv
  unfold Gh;rw [hv];rfl
theorem om:Sound Tryz.prog 151 Ja:=
 Sound.Ev Db (Av Ys (Av sd Bh)) mixed Tryz.func151 (by kernel_rfl) (by kernel_rfl) λx h=>wP x.1 x.2.1 h
theorem wV (p:PP) (t:List Int) (h:Eh p/\short t):fnW Ei (look [(93,Hv),(160,Jx)]) Ja Tryz.f155 (p,t,()) (λ(z:Bool)=>z=Gh p t):=by
 refine Eq.mp (xC p t _) ⟨_,Ab h.1,⟨λhv=>?_,λhv=>?_⟩⟩
 ·have hv:Dy p=true:=hv
  have hn:=(valid hv).n
  refine ⟨_,Ab ⟨⟨by show 0<=p.1;omega,by show p.1<=4294967296;omega⟩,h.2⟩,?_⟩
  unfold Gh;rw [hv];rfl
 ·have hv:Dy p=false:=hv
  unfold Gh;rw [hv];rfl
theorem ow:Sound Tryz.prog 155 Ja:=
 Sound.Ev Db (Av Yt (Av oo Bh)) mixed Tryz.func155 (by kernel_rfl) (by kernel_rfl) λx h=>wV x.1 x.2.1 h
theorem HR (p:PP) (t:List Int) (h:Eh p/\short t):fnW Ei (look [(155,Ja),(131,kq)]) Vm Tryz.f142 (p,t,()) (λ(z:SS×Bool×Unit)=>z=(Pl p t,Gu p t,())):=by
 refine Eq.mp (JY p t _) ⟨_,Ab h,⟨λhn=>?_,λhn=>?_⟩⟩
 ·have hn:=Es hn
  have e:Gu p t=false:=Jm.2 λhh=>hn (ed.1 hh).1
  unfold Pl
  rw [Ag hn,e]
  rfl
 ·have hn:Gh p t=true:=Gz hn
  have e:Gu p t=(Kq p.2.2.1 t).2.2:=by unfold Gu;rw [hn,bA]
  refine ⟨_,Ab ⟨(Ry.1 hn).1,(Ji hn).1,(Ji hn).2⟩,?_⟩
  have key:(((Rq p.2.2.1 t).1,(Rq p.2.2.1 t).2.1,(Rq p.2.2.1 t).2.2.1,(Rq p.2.2.1 t).2.2.2.1,()),(Rq p.2.2.1 t).2.2.2.1,())=(Pl p t,Gu p t,()):=by
   unfold Pl
   rw [Ab hn,e]
   rfl
  exact ⟨⟨⟨key,key⟩,key⟩,⟨key,key⟩,key⟩
theorem si:Sound Tryz.prog 142 Vm:=
 Sound.Ev Db (Av ow (Av IQ Bh)) mixed Tryz.func142 (by kernel_rfl) (by kernel_rfl) λx h=>HR x.1 x.2.1 h
theorem HI (l:List (List Int)) (h:Hb l):fnW Ei (look [(116,Jr)]) Rw Tryz.f143 (l,()) (λ(z:List (List Int))=>z=l):=by
 obtain ⟨h1,h2⟩:=h
 refine Eq.mp (JP l _) ⟨rfl,rfl,?_⟩
 refine Bf l.length (λv=>v.1) (λj v=>v.2.1=l.take j) rfl (by simp) ?_
 rintro j ⟨i,ys,⟨⟩⟩ K hj hi hR hK
 dsimp only at hi hR⊢
 subst hi hR
 refine Br.dec (λhl=>?_) λhl=>?_
 ·have hl:j<l.length:=by omega
  refine ⟨_,Bp hl,_,Ab (h2 _ (Aj hl)),rfl,rfl,?_,rfl,rfl,?_⟩
  ·show (List.take j l).length+1<=4294967296
   rw [Dd];omega
  ·rw [Bg (by omega)]
   refine hK hl _ rfl ?_
   show List.take j l++ [l[j]]=_
   rw [Fv,Ac hl];rfl
 ·have:j=l.length:=by omega
  subst this
  rw [Cf,Ap]
theorem rY:Sound Tryz.prog 143 Rw:=
 Sound.Ev Db (Av Wp Bh) mixed Tryz.func143 (by kernel_rfl) (by kernel_rfl) λx h=>HI x.1 h
theorem HT (p:PP) (t:List Int) (h:Eh p/\short t):fnW Ei (look [(142,Vm),(116,Jr),(143,Rw)]) Vo Tryz.f125 (p,t,()) (λ(z:TT×Bool×Unit)=>z=(Hr p t,Gu p t,())):=by
 refine Eq.mp (KA p t _) ⟨_,Ab h,⟨λhn=>?_,λhn=>?_⟩⟩
 ·have hn:=Es hn
  have hn: ¬Gu p t=true:=hn
  unfold Hr
  rw [Ag hn,Jm.2 hn]
  rfl
 ·have hn:Gu p t=true:=Gz hn
  obtain ⟨h1,h2⟩:=ed.1 hn
  have h3:=xJ (AT h1)
  have e:Pl p t=Rq p.2.2.1 t:=Ab h1
  refine ⟨_,Ab h.2,?_⟩
  show ∃y5:List (List Int),Rw.fn ((Pl p t).1,())=some y5/\ ∃y6:List Int,Jr.fn ((Pl p t).2.1,())=some y6/\((t,y5,y6,()),true,())=(Hr p t,Gu p t,())
  rw [e]
  refine ⟨_,Ab h3.1,_,Ab h3.2,?_⟩
  unfold Hr
  rw [Ab hn,hn]
  rfl
theorem sk:Sound Tryz.prog 125 Vo:=
 Sound.Ev Db (Av si (Av Wp (Av rY Bh))) mixed Tryz.func125 (by kernel_rfl) (by kernel_rfl) λx h=>HT x.1 x.2.1 h
def oS (m:ByteArray->Option Bool) (L:List (List Int)):Prop:= ∀q,fY q->(m (Xi q)).getD false=decide (q∈L)
theorem oS.add {m:ByteArray->Option Bool} {L:List (List Int)} {y:List Int} (h:oS m L) (hy:fY y):oS (jy m (Xi y) true) (L++ [y]):=by
 intro q hq
 unfold jy
 by_cases e:q=y
 ·subst e
  rw [Ab rfl];simp
 ·rw [Ag λhk=>e (key_inj hq hy hk),h q hq]
  simp [e]
theorem NY (n:Int) (str:ByteArray) (g:List (List Int)) (t:List Int) (h:Gh (n,str,g,()) t=true):
  fnMW (CJ [aa+10]) (look [(138,c6),(79,Kh),(106,Lz),(122,Lc),(80,bp)]) Yn Tryz.f152 (n,str,g,t,()) (λ(z:(List (List Int)×List Int×Bool×Unit)×Unit)=>z=(((Hr (n,str,g,()) t).2.1,(Hr (n,str,g,()) t).2.2.1,Gu (n,str,g,()) t,()),())):=by
 obtain ⟨hv,_⟩:=Ry.1 h
 obtain ⟨ht,hr⟩:=Ji h
 have hV:=valid hv
 have kE:=hV.wo
 have hn:=hV.n
 dsimp only at kE hn hr
 have hb0:=oZ (p:=(n,str,g,())) ht hr
 have KP:short t:=by unfold short;omega
 obtain ⟨ls,qG⟩: ∃ls,Aw g.length=ls:=⟨_,rfl⟩
 have hll:ls.length<=16:=by rw [<-qG,Nz];omega
 have nA: ∀l∈ls,Iu (List.length g) l:= λl hl=>Pn (qG▸hl)
 have MK:Re g ls 3001 0 [t] [0]=Kq g t:=by unfold Kq;rw [qG]
 have Agc: ∀x:List Int,(∀y∈x,0<=y/\y<n)->fY x:= λx hx y hy=>by have:=hx y hy;omega
 have Ams: ∀L D ok,Kq g t=(L,D,ok)->(if ok=true then ((L,D,true,()),()) else ((([]:List (List Int)),([]:List Int),false,()),()))=(((Hr (n,str,g,()) t).2.1,(Hr (n,str,g,()) t).2.2.1,Gu (n,str,g,()) t,()),()):=by
  intro L D ok he
  have e1:Gu (n,str,g,()) t=ok:=by unfold Gu;rw [h,bA];show (Kq g t).2.2=ok;rw [he]
  unfold Hr
  rw [e1]
  cases ok with
  |true=>rw [Ab rfl,Ab rfl];show ((L,D,true,()),())=(((Kq g t).1,(Kq g t).2.1,true,()),());rw [he]
  |false=>rw [Ag (by decide),Ag (by decide)]
 refine Eq.mp (QG n str g t _) ⟨_,Ab KP,_,Ab KP,ls,(Ab ⟨by show (0:Int)<=((g.length:Nat):Int);omega,by show ((g.length:Nat):Int)<=8;omega⟩).trans (Mc some (by show Aw (((g.length:Nat):Int)).toNat=ls;rw [Ai];exact qG)),rfl,rfl,rfl,rfl,rfl,rfl,?_⟩
 rw [Cf]
 refine Bf ls.length (λv=>v.1) (λj v=>v.2.1=n/\v.2.2.1=str/\v.2.2.2.1=g/\v.2.2.2.2.1=(ls.take j).map (Bs g)/\v.2.2.2.2.2.1= [t]/\v.2.2.2.2.2.2.1= [0]/\oS v.2.2.2.2.2.2.2.1 [t]) rfl
  ⟨rfl,rfl,rfl,by simp,rfl,rfl,λq hq=>?_⟩ ?_
 ·show (jy (λ_=>none) (Xi t) true (Xi q)).getD false=_
  unfold jy
  by_cases e:q=t
  ·subst e;rw [Ab rfl];simp
  ·rw [Ag λhk=>e (key_inj hq (Agc t hr) hk)];simp [e]
 rintro j ⟨i,n',Ap0,g',mv,L1,D1,m1,⟨⟩⟩ K hj hi ⟨h1,h2,h3,h4,h5,h6,h7⟩ hK
 dsimp only at hi h1 h2 h3 h4 h5 h6 h7⊢
 subst hi h1 h2 h3 h4 h5 h6
 refine Br.dec (λhl=>?_) λhl=>⟨rfl,rfl,rfl,rfl,rfl,rfl,?_⟩
 ·have hl:j<ls.length:=by omega
  have pq:=nA _ (Aj hl)
  refine ⟨_,Bp hl,_,Ab ⟨pq,kE.2,hV.perm⟩,rfl,rfl,?_,rfl,rfl,rfl,rfl,rfl,rfl,?_⟩
  ·show (List.map (Bs g') (List.take j ls)).length+1<=4294967296
   rw [Di,Dd];omega
  ·rw [Bg (by omega)]
   refine hK hl _ rfl ⟨rfl,rfl,rfl,?_,rfl,rfl,h7⟩
   show List.map (Bs g') (List.take j ls)++ [Bs g' ls[j]]=_
   rw [Fv,Ac hl,Kb];rfl
 ·have:j=ls.length:=by omega
  subst this
  rw [Ap]
  obtain ⟨ms,RO⟩: ∃ms,ls.map (Bs g')=ms:=⟨_,rfl⟩
  have Ay4:ms.length=ls.length:=by rw [<-RO,Di]
  have Ass: ∀i (h:i<ls.length),ms[i]'(by omega)=Bs g' ls[i]:= λi h=>by simp only [<-RO,Sv]
  rw [RO]
  refine Df.mk (λv=>v.2.1=ms/\ ∃k:Nat,v.1=k/\k<=v.2.2.1.length/\az (n',Ap0,g',()) t.length v.2.2.1 v.2.2.2.1/\oS v.2.2.2.2.1 v.2.2.1/\Re g' ls (3001-k) k v.2.2.1 v.2.2.2.1=Kq g' t) (λv=>3001-v.1.toNat)
   ⟨rfl,0,rfl,by simp,hb0,h7,MK⟩ ?_
  rintro ⟨k',mv,L0,D0,mp,⟨⟩⟩ ⟨h1,k,h5,h6,h7,h8,h9⟩
  dsimp only at h1 h5 h6 h7 h8 h9
  subst h1 h5
  dsimp only
  have hL0:=h7.ok.wo
  have hD0:=h7.len
  refine Br.dec (λhl=>⟨rfl,rfl,rfl,rfl,rfl,rfl,rfl,rfl,?_⟩) λhl=>?_
  ·have hk:k<L0.length:=by omega
   have hkD:k<D0.length:=by omega
   have hx: ∀y∈L0[k],0<=y/\y<n':=h7.row _ (Aj hk)
   have ZY:L0[k].length=t.length:=h7.ok.len _ (Aj hk)
   have hdk:=h7.dep k hkD
   obtain ⟨f,hf⟩: ∃f,3001-k=f+1:=⟨3000-k,by omega⟩
   have hgo: ∀L' D' ok,Me g' L0[k] D0[k] ls L0 D0=(L',D',ok)->Kq g' t=if ok=true then Re g' ls f (k+1) L' D' else (L',D',false):=by
    intro L' D' ok he
    rw [<-h9,hf,Re,Ab hk,Zm hk,Ak,Ac hkD]
    simp only [Bx]
    rw [he]
    cases ok<;>rfl
   refine Df.mk (λv=>v.2.1=mv/\ ∃i:Nat,v.1=i/\i<=ls.length/\az (n',Ap0,g',()) t.length v.2.2.1 v.2.2.2.1/\oS v.2.2.2.2.1 v.2.2.1/\(∃A,v.2.2.1=L0++A)/\(∃A,v.2.2.2.1=D0++A)/\
     Me g' L0[k] D0[k] (ls.drop i) v.2.2.1 v.2.2.2.1=Me g' L0[k] D0[k] ls L0 D0) (λv=>ls.length-v.1.toNat)
    ⟨rfl,0,rfl,Iq _,h7,h8,⟨[],by simp⟩,⟨[],by simp⟩,rfl⟩ ?_
   rintro ⟨i',mv',L,D,mp2,⟨⟩⟩ ⟨g1,i,g5,g6,g7,g8,⟨A,g9⟩,⟨A',g10⟩,rI⟩
   dsimp only at g1 g5 g6 g7 g8 g9 g10 rI
   subst g1 g5
   dsimp only
   have hLf:=g7.ok.wo
   have hDl:=g7.len
   refine Br.dec (λhli=>?_) λhli=>?_
   ·have hi:i<ls.length:=by omega
    have hkL:k<L.length:=by rw [g9,Ax];omega
    have hLk:L[k]=L0[k]:=by simp only [g9];exact gP hk
    have Aio:k<D.length:=by rw [hDl];exact hkL
    have hDk:D[k]=D0[k]:=by simp only [g10];exact gP hkD
    have pq:=nA _ (Aj hi)
    obtain ⟨nl,nr⟩:=AG hV hx pq
    dsimp only at nl nr
    have TS:=k8 hV pq
    dsimp only at TS
    rw [Cn hi] at rI
    simp only [Me] at rI
    have hyb:=Agc _ nr
    refine ⟨⟨by omega,by omega⟩,Bs g' ls[i],by rw [Ai,Bv,Ac (by omega),Ass i hi],⟨by omega,by omega⟩,L0[k],by rw [Ai,Bv,Ac hkL,hLk],
     _,Ab ⟨by show short L0[k];unfold short;omega,by show Mk (Bs g' ls[i]).length L0[k];intro y hy;have:=hx y hy;omega⟩,?_⟩
    dsimp only
    rw [show Ee (Bs g' ls[i]) L0[k]=Al L0[k] (Bs g' ls[i]) from rfl,Cf]
    generalize hyv:Al L0[k] (Bs g' ls[i])=yv at*
    refine ⟨_,Ab (by show short yv;unfold short;rw [nl];omega),?_⟩
    dsimp only
    rw [g8 _ hyb]
    refine ⟨λiL=>?_,λiL=>⟨rfl,rfl,rfl,rfl,rfl,rfl,rfl,rfl,?_⟩⟩
    ·have iL:yv∉L:=by simpa using iL
     rw [Ag iL] at rI
     refine ⟨λZq=>?_,λZq=>⟨rfl,rfl,by show L.length+1<=4294967296;omega,⟨by omega,by omega⟩,D0[k],by rw [Ai,Bv,Ac Aio,hDk],rfl,rfl,by show D.length+1<=4294967296;omega,rfl,rfl,rfl,rfl,rfl,rfl,rfl,rfl,?_⟩⟩
     ·have Zq:L.length=3000:=by
       have:(L.length:Int)=3000:=by simpa using Zq
       omega
      rw [Ab Zq] at rI
      have:=hgo _ _ _ rI.symm
      rw [Ag (by decide)] at this
      have:=Ams _ _ _ this
      rw [Ag (by decide)] at this
      exact this
     ·have Zq:L.length≠3000:=by
       have:(L.length:Int)≠3000:=by simpa using Zq
       omega
      rw [Ag Zq] at rI
      rw [Dl (n:=D0[k]+1) (by omega) (by omega),Bg (by omega)]
      refine ⟨⟨rfl,i+1,rfl,hi,g7.add iL (by rw [nl,ZY]) (by omega) nr ⟨by omega,by omega⟩,g8.add hyb,⟨A++ [yv],by rw [g9,Dg];rfl⟩,⟨A'++ [D0[k]+1],by rw [g10,Dg];rfl⟩,rI⟩,by omega⟩
    ·have iL:yv∈L:=by simpa using iL
     rw [Ab iL] at rI
     rw [Bg (by omega)]
     exact ⟨⟨rfl,i+1,rfl,hi,g7,g8,⟨A,g9⟩,⟨A',g10⟩,rI⟩,by omega⟩
   ·have:i=ls.length:=by omega
    subst this
    rw [Ij,Me] at rI
    have:=hgo _ _ _ rI.symm
    rw [Ab rfl] at this
    rw [Bg (by omega)]
    refine ⟨rfl,rfl,rfl,rfl,rfl,rfl,⟨rfl,k+1,rfl,by rw [g9,Ax];omega,g7,g8,?_⟩,by omega⟩
    rw [show 3001-(k+1)=f by omega]
    exact this.symm
  ·have hk:k=L0.length:=by omega
   rw [Cf L0,Cf D0]
   obtain ⟨f,hf⟩: ∃f,3001-k=f+1:=⟨3000-k,by omega⟩
   rw [hf,Re,Ag (by omega)] at h9
   have:=Ams _ _ _ h9.symm
   rw [Ab rfl] at this
   exact this
theorem vz:By Tryz.prog 152 Yn:=
 By.cr (CL [aa+10]) (En oe (Av cb (Av lu (Av jn (En xb Bh))))) mixed Tryz.func152 (by kernel_rfl) (by kernel_rfl) λx h=>NY x.1 x.2.1 x.2.2.1 x.2.2.2.1 h
theorem th {p:PP} {t:List Int} (h: ¬Gu p t=true):Hr p t=([],[],[],()):=Ag h
theorem OA (n:Int) (str:ByteArray) (g:List (List Int)) (t:List Int) (h:Eh (n,str,g,())/\short t):
  fnMW Tk (look [(151,Ja),(152,Yn)]) Yp Tryz.f137 (n,str,g,t,()) (λ(z:(List (List Int)×List Int×Bool×Unit)×Unit)=>z=(((Hr (n,str,g,()) t).2.1,(Hr (n,str,g,()) t).2.2.1,Gu (n,str,g,()) t,()),())):=by
 refine Eq.mp (QI n str g t _) ⟨_,Ab h,⟨λhn=>?_,λhn=>?_⟩⟩
 ·have hn: ¬Gh (n,str,g,()) t=true:=Es hn
  have e: ¬Gu (n,str,g,()) t=true:= λhh=>hn (ed.1 hh).1
  rw [th e,Jm.2 e]
  rfl
 ·have hn:Gh (n,str,g,()) t=true:=Gz hn
  refine ⟨_,Ab hn,?_⟩
  rw [Cf,Cf]
theorem vB:By Tryz.prog 137 Yp:=
 By.cr Rx (Av om (En vz Bh)) mixed Tryz.func137 (by kernel_rfl) (by kernel_rfl) λx h=>OA x.1 x.2.1 x.2.2.1 x.2.2.2.1 h
theorem HL (n:Int) (str:ByteArray) (g:List (List Int)) (t:List Int) (h:Eh (n,str,g,())/\short t):
  fnMW Tk (look [(137,Yp),(138,c6)]) Vk Tryz.f113 (n,str,g,t,()) (λ(z:(List Int×List (List Int)×List Int×Bool×Unit)×Unit)=>z=(((Hr (n,str,g,()) t).1,(Hr (n,str,g,()) t).2.1,(Hr (n,str,g,()) t).2.2.1,Gu (n,str,g,()) t,()),())):=by
 refine Eq.mp (JS n str g t _) ⟨_,Ab h,⟨λhn=>?_,λhn=>?_⟩⟩
 ·have e: ¬Gu (n,str,g,()) t=true:=Es hn
  rw [th e,Jm.2 e]
  rfl
 ·have e:Gu (n,str,g,()) t=true:=Gz hn
  refine ⟨_,Ab h.2,?_⟩
  rw [Cf,Cf,Cf,e]
  have e2:(Hr (n,str,g,()) t).1=t:=by unfold Hr;rw [Ab e]
  rw [e2]
theorem s9:By Tryz.prog 113 Vk:=
 By.cr Rx (En vB (En oe Bh)) mixed Tryz.func113 (by kernel_rfl) (by kernel_rfl) λx h=>HL x.1 x.2.1 x.2.2.1 x.2.2.2.1 h
theorem AM (p:PP) (t:TT) (h:Eh p/\Ob t):fnW Ei (look [(113,Vk),(114,Is)]) Qf Tryz.f87 (p,t,()) (λ(z:Bool)=>z=Gx p t):=by
 refine Eq.mp (CY p t _) ⟨_,Ab ⟨h.1,h.2.1⟩,⟨λhn=>?_,λhn=>?_⟩⟩
 ·have e:Gu p t.1=true:=hn
  rw [Cf,Cf,Cf]
  refine ⟨_,Ab qp,?_⟩
  unfold Gx
  rw [e];rfl
 ·have e:Gu p t.1=false:=hn
  unfold Gx
  rw [e];rfl
theorem qa:Sound Tryz.prog 87 Qf:=
 Sound.Ev Db (En s9 (Av kK Bh)) mixed Tryz.func87 (by kernel_rfl) (by kernel_rfl) λx h=>AM x.1 x.2.1 h
theorem AR (p:PP) (t:TT) (h:Eh p/\Ob t):fnW Ei (look [(125,Vo),(126,Is)]) Qf Tryz.f94 (p,t,()) (λ(z:Bool)=>z=Gx p t):=by
 refine Eq.mp (DD p t _) ⟨_,Ab ⟨h.1,h.2.1⟩,⟨λhn=>?_,λhn=>?_⟩⟩
 ·have e:Gu p t.1=true:=hn
  refine ⟨_,Ab qp,?_⟩
  unfold Gx
  rw [e];rfl
 ·have e:Gu p t.1=false:=hn
  unfold Gx
  rw [e];rfl
theorem qc:Sound Tryz.prog 94 Qf:=
 Sound.Ev Db (Av sk (Av kN Bh)) mixed Tryz.func94 (by kernel_rfl) (by kernel_rfl) λx h=>AR x.1 x.2.1 h
theorem Aov (t:TT) (p:PP) (h:Ob t/\Eh p):fnW Ei (look [(87,Qf)]) yO Tryz.f86 (t,p,()) (λ(z:Bool)=>z=!Gx p t):=by
 exact Eq.mp (Apj t p _) ⟨_,Ab ⟨h.2,h.1⟩,rfl⟩
theorem WE:Sound Tryz.prog 86 yO:=
 Sound.Ev Db (Av qa Bh) mixed Tryz.func86 (by kernel_rfl) (by kernel_rfl) λx h=>Aov x.1 x.2.1 h
theorem Ak6 (ts:List TT) (c:PP×Unit) (h:Gv ts/\Eh c.1):fnW Ei (look [(86,yO)]) pT Tryz.f112 (ts,c,()) (λ(z:Int)=>z=Ro (λt=>!Gx c.1 t) ts 0):=by
 obtain ⟨⟨h1,h2⟩,h3⟩:=h
 refine Eq.mp (Akz ts c _) ?_
 refine Bf ts.length (λv=>v.1) (λj _=>Ro (λt=>!Gx c.1 t) (ts.drop j) j=Ro (λt=>!Gx c.1 t) ts 0) rfl (by simp) ?_
 rintro j ⟨i,⟨⟩⟩ K hj hi hR hK
 dsimp only at hi⊢
 subst hi
 refine Br.dec (λhl=>?_) λhl=>?_
 ·have hl:j<ts.length:=by omega
  rw [Cn hl] at hR
  simp only [Ro] at hR
  refine ⟨_,Bp hl,_,Ab ⟨h2 _ (Aj hl),h3⟩,⟨λhe=>?_,λhe=>?_⟩⟩
  ·have he:(!Gx c.1 ts[j])=true:=he
   rw [Ab he] at hR
   exact hR
  ·have he:(!Gx c.1 ts[j])=false:=he
   rw [Ag (by rw [he];decide)] at hR
   rw [Bg (by omega)]
   exact hK hl _ rfl (by push_cast;exact hR)
 ·have:j=ts.length:=by omega
  subst this
  rw [Ij] at hR
  exact hR
theorem PI:Sound Tryz.prog 112 pT:=
 Sound.Ev Db (Av WE Bh) mixed Tryz.func112 (by kernel_rfl) (by kernel_rfl) λx h=>Ak6 x.1 x.2.1 h
theorem u7 (q:TT->Bool): ∀(ts:List TT) (k:Int),0<=k->decide (Ro q ts k>=0)=ts.any q
 | [],k,_=>by simp [Ro]
 |t::ts,k,hk=>by
  have ih:=u7 q ts (k+1) (by omega)
  rw [List.any_cons]
  by_cases e:q t=true
  ·have e2:Ro q (t::ts) k=k:=Ab e
   rw [e]
   exact Fa (by rw [e2];exact hk)
  ·have e2:Ro q (t::ts) k=Ro q ts (k+1):=Ag e
   rw [Jm.2 e,Se,<-ih]
   exact decide_eq_decide.2 (by rw [e2])
theorem Ak0 (ts:List TT) (c:PP×Unit) (h:Gv ts/\Eh c.1):fnW Ei (look [(112,pT)]) pP Tryz.f85 (ts,c,()) (λ(z:Bool)=>z=List.any ts (λt=>!Gx c.1 t)):=by
 exact Eq.mp (Akt ts c _) ⟨_,Ab h,u7 _ ts 0 (Nt 0)⟩
theorem PC:Sound Tryz.prog 85 pP:=
 Sound.Ev Db (Av PI Bh) mixed Tryz.func85 (by kernel_rfl) (by kernel_rfl) λx h=>Ak0 x.1 x.2.1 h
theorem DV (q:TT->Bool) (ts:List TT):(!List.any ts λt=>!q t)=List.all ts q:=by
 induction ts with
 |nil=>rfl
 |cons t ts ih=>simp only [List.any_cons,Hx,<-ih];cases q t<;>simp
theorem uC (p:PP) (ts:List TT) (h:Eh p/\Gv ts):fnW Ei (look [(84,Hv),(85,pP)]) Ld Tryz.f63 (p,ts,()) (λ(z:Bool)=>z=Gp p ts):=by
 refine Eq.mp (vZ p ts _) ⟨_,Ab h.1,⟨λhv=>Br.dec (λhl=>⟨_,Ab ⟨h.2,h.1⟩,?_⟩) λhl=>?_,λhv=>?_⟩⟩
 ·have hv:Dy p=true:=hv
  have hl:ts.length<=4:=by omega
  show (!List.any ts λt=>!Gx p t)=_
  rw [DV]
  unfold Gp
  rw [hv,Fa hl];rfl
 ·unfold Gp
  rw [Dq (by omega),Bool.and_false];rfl
 ·have hv:Dy p=false:=hv
  unfold Gp
  rw [hv];rfl
theorem mz:Sound Tryz.prog 63 Ld:=
 Sound.Ev Db (Av Ys (Av PC Bh)) mixed Tryz.func63 (by kernel_rfl) (by kernel_rfl) λx h=>uC x.1 x.2.1 h
theorem uD (p:PP) (ts:List TT) (h:Eh p/\Gv ts):fnW Ei (look [(93,Hv),(94,Qf)]) Ld Tryz.f72 (p,ts,()) (λ(z:Bool)=>z=Gp p ts):=by
 refine Eq.mp (w5 p ts _) ⟨_,Ab h.1,⟨λhv=>?_,λhv=>Br.dec (λhl=>?_) λhl=>?_⟩⟩
 ·have hv:Dy p=false:=Jm.2 (Es hv)
  unfold Gp
  rw [hv];rfl
 ·unfold Gp
  rw [Dq (by omega),Bool.and_false];rfl
 ·have hv:Dy p=true:=Gz hv
  have hl:ts.length<=4:=by omega
  have e:Gp p ts=List.all ts (Gx p):=by
   unfold Gp
   rw [hv,Fa hl];rfl
  rw [e]
  refine Bf ts.length (λv=>v.1) (λj v=>v.2.1=p.1/\v.2.2.1=p.2.1/\v.2.2.2.1=p.2.2.1/\List.all (ts.drop j) (Gx p)=List.all ts (Gx p)) rfl ⟨rfl,rfl,rfl,by simp⟩ ?_
  rintro j ⟨i,n1,n2,n3,⟨⟩⟩ K hj hi ⟨h1,h2,h3,hR⟩ hK
  dsimp only at hi h1 h2 h3 hR⊢
  subst hi h1 h2 h3
  refine Br.dec (λhl=>?_) λhl=>?_
  ·have hl:j<ts.length:=by omega
   rw [Cn hl,Hx] at hR
   refine ⟨_,Bp hl,_,Ab ⟨h.1,h.2.2 _ (Aj hl)⟩,⟨λhe=>?_,λhe=>?_⟩⟩
   ·have he:Gx p ts[j]=false:=Jm.2 (Es he)
    rw [he,Bool.false_and] at hR
    exact hR
   ·have he:Gx p ts[j]=true:=Gz he
    rw [he,bA] at hR
    rw [Bg (by omega)]
    exact hK hl _ rfl ⟨rfl,rfl,rfl,hR⟩
  ·have:j=ts.length:=by omega
   subst this
   rw [Ij] at hR
   exact hR
theorem mA:Sound Tryz.prog 72 Ld:=
 Sound.Ev Db (Av Yt (Av qc Bh)) mixed Tryz.func72 (by kernel_rfl) (by kernel_rfl) λx h=>uD x.1 x.2.1 h
theorem Akc (ts:List TT) (k:Int) (h:Gv ts/\roomy k):fnW Ei (look [(46,bt)]) pV Tryz.f14 (ts,k,()) (λ(z:Int)=>z=bV ts k):=by
 obtain ⟨⟨h1,h2⟩,h3,h4⟩:=h
 refine Eq.mp (Al5 ts k _) ?_
 rw [Dl (by omega) (by omega)]
 refine Br.dec (λhn=>?_) λhn=>?_
 ·exact (Ab hn).symm
 ·have e:bV ts k=cd ts (k-ts.length):=Ag hn
  rw [e]
  refine Bf ts.length (λv=>v.2.1) (λj v=>roomy v.1/\cd (ts.drop j) v.1=cd ts (k-ts.length)) rfl ⟨⟨by omega,by omega⟩,by simp⟩ ?_
  rintro j ⟨r,i,⟨⟩⟩ K hj hi ⟨hr,hR⟩ hK
  dsimp only at hi hr hR⊢
  subst hi
  refine Br.dec (λhl=>?_) λhl=>?_
  ·have hl:j<ts.length:=by omega
   rw [Cn hl] at hR
   simp only [cd] at hR
   refine ⟨_,Bp hl,_,Ab ⟨h2 _ (Aj hl),hr⟩,Br.dec (λhm=>?_) λhm=>?_⟩
   ·have hm:Lx ts[j] r<0:=hm
    rw [Ab hm] at hR
    exact hR
   ·have hm: ¬Lx ts[j] r<0:=hm
    rw [Ag hm] at hR
    rw [Bg (by omega)]
    exact hK hl _ rfl ⟨iV hr hm,hR⟩
  ·have:j=ts.length:=by omega
   subst this
   rw [Ij] at hR
   exact hR
theorem PM:Sound Tryz.prog 14 pV:=
 Sound.Ev Db (Av xe Bh) mixed Tryz.func14 (by kernel_rfl) (by kernel_rfl) λx h=>Akc x.1 x.2.1 h
theorem Akf (ts:List TT) (h:Gv ts):fnW Ei (look [(50,bw)]) uV Tryz.f17 (ts,()) (λ(z:List TT)=>z=ts):=by
 obtain ⟨h,h4⟩:=h
 refine Eq.mp (Al8 ts _) ?_
 refine ⟨⟨by omega,by show (ts.length:Int)<(4294967296:Int)+1;omega⟩,rfl,rfl,rfl,?_⟩
 refine Bf ts.length (λv=>v.1) (λj v=>v.2.1.length=ts.length/\v.2.1.take j=ts.take j) rfl ⟨by simp,by simp⟩ ?_
 rintro j ⟨i,ys,⟨⟩⟩ K hj hi ⟨h1,h2⟩ hK
 dsimp only at hi h1 h2⊢
 subst hi
 refine Br.dec (λhl=>?_) λhl=>?_
 ·have hl:j<ts.length:=by omega
  refine ⟨_,Bp hl,_,Ab (h4 _ (Aj hl)),⟨by omega,by omega⟩,by rw [Ai];omega,rfl,by rw [Bi],?_⟩
  rw [Bg (by omega),Ai,Bv]
  exact hK hl _ rfl ⟨by rw [Bi];exact h1,Kl hl h1 h2⟩
 ·have:j=ts.length:=by omega
  subst this
  rw [Ap,<-h1,Ap] at h2
  rw [Dm,Ap]
  exact h2
theorem PN:Sound Tryz.prog 17 uV:=
 Sound.Ev Db (Av xg Bh) mixed Tryz.func17 (by kernel_rfl) (by kernel_rfl) λx h=>Akf x.1 h
theorem px {a b:TT} :Pk a b=true↔a=b:=by
 obtain ⟨a1,a2,a3,⟨⟩⟩:=a
 obtain ⟨b1,b2,b3,⟨⟩⟩:=b
 simp [Pk]
theorem Ak3 (a b:List TT) (h:Gv a):fnW Ei (look [(54,Is)]) pQ Tryz.f21 (a,b,()) (λ(z:Bool)=>z=decide (a=b)):=by
 obtain ⟨h1,h2⟩:=h
 refine Eq.mp (Akw a b _) ⟨λhl=>?_,λhl=>?_⟩
 ·have hl:a.length≠b.length:=by
   have:(a.length:Int)≠b.length:=by simpa using hl
   omega
  exact (Dq λe=>hl (by rw [e])).symm
 ·have hl:a.length=b.length:=by
   have:(a.length:Int)=b.length:=by simpa using hl
   omega
  refine Bf a.length (λv=>v.1) (λj _=>(a=b↔a.drop j=b.drop j)) rfl (by simp) ?_
  rintro j ⟨i,⟨⟩⟩ K hj hi hR hK
  dsimp only at hi⊢
  subst hi
  refine Br.dec (λhla=>?_) λhla=>?_
  ·have hla:j<a.length:=by omega
   have hlb:j<b.length:=by omega
   rw [Cn hla,Cn hlb] at hR
   refine ⟨_,Bp hla,_,Bp hlb,_,Ab (h2 _ (Aj hla)),⟨λhe=>?_,λhe=>?_⟩⟩
   ·have he: ¬Pk a[j] b[j]=true:=Es he
    refine (Dq λe=>he (px.2 ?_)).symm
    have:=hR.1 e
    simp only [Gb] at this
    exact this.1
   ·have he:Pk a[j] b[j]=true:=Gz he
    rw [px.1 he] at hR
    rw [Bg (by omega)]
    exact hK hla _ rfl (hR.trans ⟨λe=>(List.cons.inj e).2,λe=>by rw [e]⟩)
  ·have:j=a.length:=by omega
   subst this
   rw [Ij,hl,Ij] at hR
   exact (Fa (hR.2 rfl)).symm
theorem PE:Sound Tryz.prog 21 pQ:=
 Sound.Ev Db (Av x6 Bh) mixed Tryz.func21 (by kernel_rfl) (by kernel_rfl) λx h=>Ak3 x.1 x.2.1 h
end Go.Proofs.YtfolipnappekaaaGreat
