/-
  Part 39 of the proof that the statement FnExactIterationNodes holds.
-/
import Derived.Test.YtfolipnappekaaaGreatCIterationNodes37
namespace Go.Proofs.YtfolipnappekaaaGreat
open Go.RowKit
noncomputable def Gi (p:PP) (t:List Int):Bool:=Ea p&&a8 p.1 t
noncomputable def Gv (p:PP) (t:List Int):Bool:=Gi p t&&(Kr p.2.2.1 t).2.2
noncomputable abbrev Ja:Spec:=En (.pair Fb (.pair tL .unit)) .bool false true (λx=>Ei x.1/\short x.2.1) (λx=>Gi x.1 x.2.1)
noncomputable def Pq (p:PP) (t:List Int):SS:=if Gi p t=true then Rv p.2.2.1 t else ([],[],[],false,())
noncomputable abbrev Vp:Spec:=En (.pair Fb (.pair tL .unit)) (.pair kK (.pair .bool .unit)) true false (λx=>Ei x.1/\short x.2.1) (λx=>(Pq x.1 x.2.1,Gv x.1 x.2.1,()))
noncomputable abbrev Sa:Spec:=En (.pair dI .unit) dI false true (λx=>Hc x.1) (λx=>x.1)
noncomputable def Hr (p:PP) (t:List Int):TT:=if Gv p t=true then (t,(Kr p.2.2.1 t).1,(Kr p.2.2.1 t).2.1,()) else ([],[],[],())
noncomputable abbrev Vq:Spec:=En (.pair Fb (.pair tL .unit)) (.pair Ku (.pair .bool .unit)) true true (λx=>Ei x.1/\short x.2.1) (λx=>(Hr x.1 x.2.1,Gv x.1 x.2.1,()))
noncomputable abbrev Yv:MSpec:=cd [some 3,none] [(false, .Fm tI),(false, .Fm .str),(false, .Fm dI),(false, .Fm tL)] true [none,none,none] [xLL,rL, .Fm .bool]
 (λx=>Gi (x.1,x.2.1,x.2.2.1,()) x.2.2.2.1=true) (λx=>(((Hr (x.1,x.2.1,x.2.2.1,()) x.2.2.2.1).2.1,(Hr (x.1,x.2.1,x.2.2.1,()) x.2.2.2.1).2.2.1,Gv (x.1,x.2.1,x.2.2.1,()) x.2.2.2.1,()),()))
noncomputable abbrev Yx:MSpec:=cd [some 3,none] [(false, .Fm tI),(false, .Fm .str),(false, .Fm dI),(false, .Fm tL)] true [none,none,none] [xLL,rL, .Fm .bool]
 (λx=>Ei (x.1,x.2.1,x.2.2.1,())/\short x.2.2.2.1) (λx=>(((Hr (x.1,x.2.1,x.2.2.1,()) x.2.2.2.1).2.1,(Hr (x.1,x.2.1,x.2.2.1,()) x.2.2.2.1).2.2.1,Gv (x.1,x.2.1,x.2.2.1,()) x.2.2.2.1,()),()))
noncomputable abbrev Vn:MSpec:=cd [some 3,none] [(false, .Fm tI),(false, .Fm .str),(false, .Fm dI),(false, .Fm tL)] true [some 3,none] [rL,xLL,rL, .Fm .bool]
 (λx=>Ei (x.1,x.2.1,x.2.2.1,())/\short x.2.2.2.1) (λx=>(((Hr (x.1,x.2.1,x.2.2.1,()) x.2.2.2.1).1,(Hr (x.1,x.2.1,x.2.2.1,()) x.2.2.2.1).2.1,(Hr (x.1,x.2.1,x.2.2.1,()) x.2.2.2.1).2.2.1,Gv (x.1,x.2.1,x.2.2.1,()) x.2.2.2.1,()),()))
noncomputable def Gz (p:PP) (t:TT):Bool:=Gv p t.1&&Pp (Hr p t.1) t
noncomputable abbrev Qj:Spec:=En (.pair Fb (.pair Ku .unit)) .bool false true (λx=>Ei x.1/\Oe x.2.1) (λx=>Gz x.1 x.2.1)
abbrev tb:Ty:= .slice Ku
def Gx (ts:List TT):Prop:=ts.length<=4294967296/\ ∀t∈ts,Oe t
noncomputable def Gr (p:PP) (ts:List TT):Bool:=Ea p&&decide (ts.length<=4)&&List.all ts (Gz p)
noncomputable abbrev Lf:Spec:=En (.pair Fb (.pair tb .unit)) .bool false true (λx=>Ei x.1/\Gx x.2.1) (λx=>Gr x.1 x.2.1)
abbrev Apu:Ty:= .clo 86 (.pair (.ptr Fb) .unit)
noncomputable abbrev zi:Spec:=En (.pair Ku (.pair (.ptr Fb) .unit)) .bool false true (λx=>Oe x.1/\Ei x.2.1) (λx=>!Gz x.2.1 x.1)
def Rt (q:TT->Bool):List TT->Int->Int
 | [],_=> -1
 |t::ts,k=>if q t=true then k else Rt q ts (k+1)
noncomputable abbrev q8:Spec:=En (.pair tb (.pair Apu .unit)) tI false true (λx=>Gx x.1/\Ei x.2.1.1) (λx=>Rt (λt=>!Gz x.2.1.1 t) x.1 0)
noncomputable abbrev pX:Spec:=En (.pair tb (.pair Apu .unit)) .bool false true (λx=>Gx x.1/\Ei x.2.1.1) (λx=>List.any x.1 (λt=>!Gz x.2.1.1 t))
def cv:List TT->Int->Int
 | [],room=>room
 |t::ts,room=>if Mb t room<0 then-1 else cv ts (Mb t room)
def cc (ts:List TT) (room:Int):Int:=if room-ts.length<0 then-1 else cv ts (room-ts.length)
noncomputable abbrev qa:Spec:=En (.pair tb (.pair tI .unit)) tI false true (λx=>Gx x.1/\roomy x.2.1) (λx=>cc x.1 x.2.1)
noncomputable abbrev vD:Spec:=En (.pair tb .unit) tb false true (λx=>Gx x.1) (λx=>x.1)
noncomputable abbrev pY:Spec:=En (.pair tb (.pair tb .unit)) .bool false true (λx=>Gx x.1) (λx=>decide (x.1=x.2.1))
theorem xV (p:Int×ByteArray×List (List Int)×Unit) (t:List Int) (P:Bool->Prop):(∃(y3:Bool),Hv.fn ((p.1,p.2.1,p.2.2.1,()),())=some y3/\Br y3 (∃(y4:Bool),Jx.fn (p.1,t,())=some y4/\P y4) (P false))=fnW Ej (look [(84,Hv),(159,Jx)]) Ja Tryz.f151 (p,t,()) P:=by kernel_rfl
theorem yb (p:Int×ByteArray×List (List Int)×Unit) (t:List Int) (P:Bool->Prop):(∃(y3:Bool),Hv.fn ((p.1,p.2.1,p.2.2.1,()),())=some y3/\Br y3 (∃(y4:Bool),Jx.fn (p.1,t,())=some y4/\P y4) (P false))=fnW Ej (look [(93,Hv),(160,Jx)]) Ja Tryz.f155 (p,t,()) P:=by kernel_rfl
theorem KU (p:Int×ByteArray×List (List Int)×Unit) (t:List Int) (P:((List (List Int)×List Int×List Int×Bool×Unit)×Bool×Unit)->Prop):(∃(y3:Bool),Ja.fn ((p.1,p.2.1,p.2.2.1,()),t,())=some y3/\Br (!y3) (P ((List.take 0 (List.drop 0 []),List.take 0 (List.drop 0 []),List.take 0 (List.drop 0 []),false,()),false,())) (∃(y4:List (List Int)×List Int×List Int×Bool×PUnit),kG.fn ((p.1,p.2.1,p.2.2.1,()),t,())=some y4/\((P ((y4.1,y4.2.1,y4.2.2.1,y4.2.2.2.1,()),y4.2.2.2.1,())/\P ((y4.1,y4.2.1,y4.2.2.1,y4.2.2.2.1,()),y4.2.2.2.1,()))/\P ((y4.1,y4.2.1,y4.2.2.1,y4.2.2.2.1,()),y4.2.2.2.1,()))/\(P ((y4.1,y4.2.1,y4.2.2.1,y4.2.2.2.1,()),y4.2.2.2.1,())/\P ((y4.1,y4.2.1,y4.2.2.1,y4.2.2.2.1,()),y4.2.2.2.1,()))/\P ((y4.1,y4.2.1,y4.2.2.1,y4.2.2.2.1,()),y4.2.2.2.1,())))=fnW Ej (look [(155,Ja),(131,kG)]) Vp Tryz.f142 (p,t,()) P:=by kernel_rfl
theorem KK (l:List (List Int)) (P:List (List Int)->Prop):(0=0/\0=([]:List Int).length/\Cz (λ(v2:Int×List (List Int)×PUnit) (k3:Int×List (List Int)×PUnit->Prop)=>Br (decide (v2.1<(↑l.length:Int))) (∃(y4:List Int),idx l v2.1=some y4/\ ∃(y5:List Int),Jr.fn (y4,())=some y5/\0=0/\v2.2.1.length=v2.2.1.length/\v2.2.1.length+(List.take 1 (List.drop 0 [y5])).length<=Cq/\0=0/\(v2.2.1++List.take 1 (List.drop 0 [y5])).length=(v2.2.1++List.take 1 (List.drop 0 [y5])).length/\k3 (IntKind.i64.wrap (v2.1+(1:Int)),v2.2.1++List.take 1 (List.drop 0 [y5]),())) (P (List.take v2.2.1.length (List.drop 0 v2.2.1)))) ((0:Int),[],PUnit.unit))=fnW Ej (look [(116,Jr)]) Sa Tryz.f143 (l,()) P:=by kernel_rfl
theorem KV (p:Int×ByteArray×List (List Int)×Unit) (t:List Int) (P:((List Int×List (List Int)×List Int×Unit)×Bool×Unit)->Prop):(∃(y3:(List (List Int)×List Int×List Int×Bool×PUnit)×Bool×PUnit),Vp.fn ((p.1,p.2.1,p.2.2.1,()),t,())=some y3/\Br (!y3.2.1) (P ((List.take 0 (List.drop 0 []),List.take 0 (List.drop 0 []),List.take 0 (List.drop 0 []),()),false,())) (∃(y4:List Int),Jr.fn (t,())=some y4/\ ∃(y5:List (List Int)),Sa.fn (y3.1.1,())=some y5/\ ∃(y6:List Int),Jr.fn (y3.1.2.1,())=some y6/\P ((y4,y5,y6,()),true,())))=fnW Ej (look [(142,Vp),(116,Jr),(143,Sa)]) Vq Tryz.f125 (p,t,()) P:=by kernel_rfl
abbrev di:Type:=Int×List (List Int)×List (List Int)×List Int×(ByteArray->Option Bool)×PUnit
abbrev rP:Type:=Int×Int×ByteArray×List (List Int)×List (List Int)×List (List Int)×List Int×(ByteArray->Option Bool)×PUnit
theorem RE (n:Int) (str:ByteArray) (g:List (List Int)) (t:List Int) (P:((List (List Int)×List Int×Bool×Unit)×Unit)->Prop):(∃(y5:(List Int×PUnit)×PUnit),cm.fn (t,())=some y5/\ ∃(y6:ByteArray),Ki.fn (t,())=some y6/\ ∃(y7:List Int),Mc.fn ((↑g.length:Int),())=some y7/\0=0/\1= [List.take y5.1.1.length (List.drop 0 y5.1.1)].length/\0=0/\1= [(0:Int)].length/\0=0/\0=([]:List Int).length/\Cz (λ(v8:rP) (k9:rP->Prop)=>Br (decide (v8.1<(↑y7.length:Int))) (∃(Ly:Int),idx y7 v8.1=some Ly/\ ∃(bu:List Int),Le.fn (v8.2.2.2.1,Ly,())=some bu/\0=0/\v8.2.2.2.2.1.length=v8.2.2.2.2.1.length/\v8.2.2.2.2.1.length+(List.take 1 (List.drop 0 [bu])).length<=Cq/\0=0/\v8.2.2.2.2.2.1.length=v8.2.2.2.2.2.1.length/\0=0/\v8.2.2.2.2.2.2.1.length=v8.2.2.2.2.2.2.1.length/\0=0/\(v8.2.2.2.2.1++List.take 1 (List.drop 0 [bu])).length=(v8.2.2.2.2.1++List.take 1 (List.drop 0 [bu])).length/\k9 (IntKind.i64.wrap (v8.1+(1:Int)),v8.2.1,v8.2.2.1,v8.2.2.2.1,v8.2.2.2.2.1++List.take 1 (List.drop 0 [bu]),v8.2.2.2.2.2.1,v8.2.2.2.2.2.2.1,v8.2.2.2.2.2.2.2.1,())) (0=0/\v8.2.2.2.2.2.1.length=v8.2.2.2.2.2.1.length/\0=0/\v8.2.2.2.2.2.2.1.length=v8.2.2.2.2.2.2.1.length/\0=0/\v8.2.2.2.2.1.length=v8.2.2.2.2.1.length/\Cz (λ(v10:di) (k11:di->Prop)=>Br (decide (v10.1<(↑v10.2.2.1.length:Int))) (0=0/\v10.2.2.1.length=v10.2.2.1.length/\0=0/\v10.2.2.2.1.length=v10.2.2.2.1.length/\0=0/\v10.2.1.length=v10.2.1.length/\0=0/\v10.2.1.length=v10.2.1.length/\Cz (λ(Og:di) (k13:di->Prop)=>Br (decide (Og.1<(↑v10.2.1.length:Int))) (((0:Int)<=Og.1/\Og.1<(↑Og.2.1.length:Int))/\ ∃(Ji:List Int),Og.2.1[0+Og.1.toNat]?=some Ji/\((0:Int)<=v10.1/\v10.1<(↑Og.2.2.1.length:Int))/\ ∃(Qu:List Int),Og.2.2.1[0+v10.1.toNat]?=some Qu/\ ∃(Xj:(List Int×PUnit)×PUnit),bD.fn (Ji,Qu,())=some Xj/\ ∃(aG:ByteArray),Ki.fn (List.take Xj.1.1.length (List.drop 0 Xj.1.1),())=some aG/\Br (!(Og.2.2.2.2.1 aG).getD false) (Br ((↑Og.2.2.1.length:Int)==(3000:Int)) (P ((List.take 0 (List.drop 0 []),List.take 0 (List.drop 0 []),false,()),())) (0=0/\Og.2.2.1.length=Og.2.2.1.length/\Og.2.2.1.length+(List.take 1 (List.drop 0 [List.take Xj.1.1.length (List.drop 0 Xj.1.1)])).length<=Cq/\((0:Int)<=v10.1/\v10.1<(↑Og.2.2.2.1.length:Int))/\ ∃(Xk:Int),Og.2.2.2.1[0+v10.1.toNat]?=some Xk/\0=0/\Og.2.2.2.1.length=Og.2.2.2.1.length/\Og.2.2.2.1.length+(List.take 1 (List.drop 0 [IntKind.i64.wrap (Xk+(1:Int))])).length<=Cq/\0=0/\(Og.2.2.1++List.take 1 (List.drop 0 [List.take Xj.1.1.length (List.drop 0 Xj.1.1)])).length=(Og.2.2.1++List.take 1 (List.drop 0 [List.take Xj.1.1.length (List.drop 0 Xj.1.1)])).length/\0=0/\(Og.2.2.2.1++List.take 1 (List.drop 0 [IntKind.i64.wrap (Xk+(1:Int))])).length=(Og.2.2.2.1++List.take 1 (List.drop 0 [IntKind.i64.wrap (Xk+(1:Int))])).length/\0=0/\Og.2.1.length=Og.2.1.length/\0=0/\Og.2.1.length=Og.2.1.length/\k13 (IntKind.i64.wrap (Og.1+(1:Int)),Og.2.1,Og.2.2.1++List.take 1 (List.drop 0 [List.take Xj.1.1.length (List.drop 0 Xj.1.1)]),Og.2.2.2.1++List.take 1 (List.drop 0 [IntKind.i64.wrap (Xk+(1:Int))]),jL Og.2.2.2.2.1 aG true,()))) (0=0/\Og.2.2.1.length=Og.2.2.1.length/\0=0/\Og.2.2.2.1.length=Og.2.2.2.1.length/\0=0/\Og.2.1.length=Og.2.1.length/\0=0/\Og.2.1.length=Og.2.1.length/\k13 (IntKind.i64.wrap (Og.1+(1:Int)),Og.2.1,Og.2.2.1,Og.2.2.2.1,Og.2.2.2.2.1,()))) (0=0/\Og.2.2.1.length=Og.2.2.1.length/\0=0/\Og.2.2.2.1.length=Og.2.2.2.1.length/\0=0/\Og.2.1.length=Og.2.1.length/\k11 (IntKind.i64.wrap (v10.1+(1:Int)),Og.2.1,Og.2.2.1,Og.2.2.2.1,Og.2.2.2.2.1,()))) ((0:Int),v10.2.1,v10.2.2.1,v10.2.2.2.1,v10.2.2.2.2.1,PUnit.unit)) (P ((List.take v10.2.2.1.length (List.drop 0 v10.2.2.1),List.take v10.2.2.2.1.length (List.drop 0 v10.2.2.2.1),true,()),()))) ((0:Int),v8.2.2.2.2.1,v8.2.2.2.2.2.1,v8.2.2.2.2.2.2.1,v8.2.2.2.2.2.2.2.1,PUnit.unit))) ((0:Int),n,str,g,[],[List.take y5.1.1.length (List.drop 0 y5.1.1)],[(0:Int)],jL (λ(_:ByteArray)=>none) y6 true,PUnit.unit))=fnMW (qv [au+10]) (look [(138,cm),(79,Ki),(106,Mc),(122,Le),(80,bD)]) Yv Tryz.f152 (n,str,g,t,()) P:=by kernel_rfl
theorem RG (n:Int) (str:ByteArray) (g:List (List Int)) (t:List Int) (P:((List (List Int)×List Int×Bool×Unit)×Unit)->Prop):(∃(y5:Bool),Ja.fn ((n,str,g,()),t,())=some y5/\Br (!y5) (P ((List.take 0 (List.drop 0 []),List.take 0 (List.drop 0 []),false,()),())) (∃(y6:(List (List Int)×List Int×Bool×PUnit)×PUnit),Yv.fn (n,str,g,t,())=some y6/\P ((List.take y6.1.1.length (List.drop 0 y6.1.1),List.take y6.1.2.1.length (List.drop 0 y6.1.2.1),y6.1.2.2.1,()),())))=fnMW Va (look [(151,Ja),(152,Yv)]) Yx Tryz.f137 (n,str,g,t,()) P:=by kernel_rfl
theorem KO (n:Int) (str:ByteArray) (g:List (List Int)) (t:List Int) (P:((List Int×List (List Int)×List Int×Bool×Unit)×Unit)->Prop):(∃(y5:(List (List Int)×List Int×Bool×PUnit)×PUnit),Yx.fn (n,str,g,t,())=some y5/\Br (!y5.1.2.2.1) (P ((List.take 0 (List.drop 0 []),List.take 0 (List.drop 0 []),List.take 0 (List.drop 0 []),false,()),())) (∃(y6:(List Int×PUnit)×PUnit),cm.fn (t,())=some y6/\P ((List.take y6.1.1.length (List.drop 0 y6.1.1),List.take y5.1.1.length (List.drop 0 y5.1.1),List.take y5.1.2.1.length (List.drop 0 y5.1.2.1),true,()),())))=fnMW Va (look [(137,Yx),(138,cm)]) Vn Tryz.f113 (n,str,g,t,()) P:=by kernel_rfl
theorem DW (p:Int×ByteArray×List (List Int)×Unit) (t:List Int×List (List Int)×List Int×Unit) (P:Bool->Prop):(∃(y3:(List Int×List (List Int)×List Int×Bool×PUnit)×PUnit),Vn.fn (p.1,p.2.1,p.2.2.1,t.1,())=some y3/\Br y3.1.2.2.2.1 (∃(y4:Bool),Is.fn ((List.take y3.1.1.length (List.drop 0 y3.1.1),List.take y3.1.2.1.length (List.drop 0 y3.1.2.1),List.take y3.1.2.2.1.length (List.drop 0 y3.1.2.2.1),()),(t.1,t.2.1,t.2.2.1,()),())=some y4/\P y4) (P false))=fnW Ej (look [(113,Vn),(114,Is)]) Qj Tryz.f87 (p,t,()) P:=by kernel_rfl
theorem EB (p:Int×ByteArray×List (List Int)×Unit) (t:List Int×List (List Int)×List Int×Unit) (P:Bool->Prop):(∃(y3:(List Int×List (List Int)×List Int×PUnit)×Bool×PUnit),Vq.fn ((p.1,p.2.1,p.2.2.1,()),t.1,())=some y3/\Br y3.2.1 (∃(y4:Bool),Is.fn ((y3.1.1,y3.1.2.1,y3.1.2.2.1,()),(t.1,t.2.1,t.2.2.1,()),())=some y4/\P y4) (P false))=fnW Ej (look [(125,Vq),(126,Is)]) Qj Tryz.f94 (p,t,()) P:=by kernel_rfl
theorem Aqa (t:List Int×List (List Int)×List Int×Unit) (p:Int×ByteArray×List (List Int)×Unit) (P:Bool->Prop):(∃(y3:Bool),Qj.fn (p,(t.1,t.2.1,t.2.2.1,()),())=some y3/\P !y3)=fnW Ej (look [(87,Qj)]) zi Tryz.f86 (t,p,()) P:=by kernel_rfl
theorem Alp (ts:List (List Int×List (List Int)×List Int×Unit)) (c:(Int×ByteArray×List (List Int)×Unit)×Unit) (P:Int->Prop):(Cz (λ(v3:Int×PUnit) (k4:Int×PUnit->Prop)=>Br (decide (v3.1<(↑ts.length:Int))) (∃(y5:List Int×List (List Int)×List Int×PUnit),idx ts v3.1=some y5/\ ∃(y6:Bool),zi.fn (y5,c.1,())=some y6/\Br y6 (P v3.1) (k4 (IntKind.i64.wrap (v3.1+(1:Int)),()))) (P (-1:Int))) ((0:Int),PUnit.unit))=fnW Ej (look [(86,zi)]) q8 Tryz.f112 (ts,c,()) P:=by kernel_rfl
theorem Alj (ts:List (List Int×List (List Int)×List Int×Unit)) (c:(Int×ByteArray×List (List Int)×Unit)×Unit) (P:Bool->Prop):(∃(y3:Int),q8.fn (ts,c,())=some y3/\P (decide (y3>=(0:Int))))=fnW Ej (look [(112,q8)]) pX Tryz.f85 (ts,c,()) P:=by kernel_rfl
theorem wz (p:Int×ByteArray×List (List Int)×Unit) (ts:List (List Int×List (List Int)×List Int×Unit)) (P:Bool->Prop):(∃(y3:Bool),Hv.fn ((p.1,p.2.1,p.2.2.1,()),())=some y3/\Br y3 (Br (decide ((↑ts.length:Int)<=(4:Int))) (∃(y4:Bool),pX.fn (ts,((p.1,p.2.1,p.2.2.1,()),()),())=some y4/\P !y4) (P false)) (P false))=fnW Ej (look [(84,Hv),(85,pX)]) Lf Tryz.f63 (p,ts,()) P:=by kernel_rfl
abbrev gM:Type:=Int×Int×ByteArray×List (List Int)×PUnit
theorem wA (p:Int×ByteArray×List (List Int)×Unit) (ts:List (List Int×List (List Int)×List Int×Unit)) (P:Bool->Prop):(∃(y3:Bool),Hv.fn ((p.1,p.2.1,p.2.2.1,()),())=some y3/\Br (!y3) (P false) (Br (decide ((↑ts.length:Int)>(4:Int))) (P false) (Cz (λ(v4:gM) (k5:gM->Prop)=>Br (decide (v4.1<(↑ts.length:Int))) (∃(y6:List Int×List (List Int)×List Int×PUnit),idx ts v4.1=some y6/\ ∃(y7:Bool),Qj.fn ((v4.2.1,v4.2.2.1,v4.2.2.2.1,()),y6,())=some y7/\Br (!y7) (P false) (k5 (IntKind.i64.wrap (v4.1+(1:Int)),v4.2.1,v4.2.2.1,v4.2.2.2.1,()))) (P true)) ((0:Int),p.1,p.2.1,p.2.2.1,PUnit.unit))))=fnW Ej (look [(93,Hv),(94,Qj)]) Lf Tryz.f72 (p,ts,()) P:=by kernel_rfl
theorem Alw (ts:List (List Int×List (List Int)×List Int×Unit)) (k:Int) (P:Int->Prop):(Br (decide (IntKind.i64.wrap (k-(↑ts.length:Int))<(0:Int))) (P (-1:Int)) (Cz (λ(v3:Int×Int×PUnit) (k4:Int×Int×PUnit->Prop)=>Br (decide (v3.2.1<(↑ts.length:Int))) (∃(y5:List Int×List (List Int)×List Int×PUnit),idx ts v3.2.1=some y5/\ ∃(y6:Int),bH.fn (y5,v3.1,())=some y6/\Br (decide (y6<(0:Int))) (P (-1:Int)) (k4 (y6,IntKind.i64.wrap (v3.2.1+(1:Int)),()))) (P v3.1)) (IntKind.i64.wrap (k-(↑ts.length:Int)),(0:Int),PUnit.unit)))=fnW Ej (look [(46,bH)]) qa Tryz.f14 (ts,k,()) P:=by kernel_rfl
abbrev TR:Type:=Int×List (List Int×List (List Int)×List Int×PUnit)×PUnit
abbrev TS:Type:=List Int×List (List Int)×List Int×PUnit
theorem Alz (ts:List (List Int×List (List Int)×List Int×Unit)) (P:List (List Int×List (List Int)×List Int×Unit)->Prop):(((0:Int)<=(↑ts.length:Int)/\(↑ts.length:Int)<(↑Cq:Int)+(1:Int))/\(↑ts.length:Int)=(↑ts.length:Int)/\0=0/\(List.replicate (↑ts.length:Int).toNat (([]:List Int),([]:List (List Int)),([]:List Int),())).length=(List.replicate (↑ts.length:Int).toNat (([]:List Int),([]:List (List Int)),([]:List Int),())).length/\Cz (λ(v2:TR) (k3:TR->Prop)=>Br (decide (v2.1<(↑ts.length:Int))) (∃(y4:TS),idx ts v2.1=some y4/\ ∃(y5:TS),bJ.fn (y4,())=some y5/\((0:Int)<=v2.1/\v2.1<(↑v2.2.1.length:Int))/\0+v2.1.toNat<v2.2.1.length/\0=0/\v2.2.1.length=(v2.2.1.set (0+v2.1.toNat) y5).length/\k3 (IntKind.i64.wrap (v2.1+(1:Int)),v2.2.1.set (0+v2.1.toNat) y5,())) (P (List.take v2.2.1.length (List.drop 0 v2.2.1)))) ((0:Int),List.replicate (↑ts.length:Int).toNat (([]:List Int),([]:List (List Int)),([]:List Int),()),PUnit.unit))=fnW Ej (look [(50,bJ)]) vD Tryz.f17 (ts,()) P:=by kernel_rfl
abbrev TP:Type:=List Int×List (List Int)×List Int×PUnit
theorem Alm (a b:List (List Int×List (List Int)×List Int×Unit)) (P:Bool->Prop):(Br ((↑a.length:Int) !=(↑b.length:Int)) (P false) (Cz (λ(v3:Int×PUnit) (k4:Int×PUnit->Prop)=>Br (decide (v3.1<(↑a.length:Int))) (∃(y5:TP),idx a v3.1=some y5/\ ∃(y6:TP),idx b v3.1=some y6/\ ∃(y7:Bool),Is.fn (y5,y6,())=some y7/\Br (!y7) (P false) (k4 (IntKind.i64.wrap (v3.1+(1:Int)),()))) (P true)) ((0:Int),PUnit.unit)))=fnW Ej (look [(54,Is)]) pY Tryz.f21 (a,b,()) P:=by kernel_rfl
theorem tF {p:PP} (hV:Valid p) {m:Nat} {x:List Int} {d:Int} (hx: ∀y∈x,0<=y/\y<p.1) (hxl:x.length=m): ∀(ls:List Int) (L:List (List Int)) (D:List Int),(∀l∈ls,Iu (List.length p.2.2.1) l)->
  aH p m L D->(0<=d/\d<L.length)->aH p m (Mg p.2.2.1 x d ls L D).1 (Mg p.2.2.1 x d ls L D).2.1/\(∃A,(Mg p.2.2.1 x d ls L D).1=L++A)/\(∃A,(Mg p.2.2.1 x d ls L D).2.1=D++A)
 | [],L,D,_,h,_=>⟨h,⟨[],by simp [Mg]⟩,⟨[],by simp [Mg]⟩⟩
 |l::ls,L,D,hl,h,hd=>by
  obtain ⟨n1,n2⟩:=BH hV hx (hl l (by simp))
  have Kn: ∀l∈ls,Iu (List.length p.2.2.1) l:= λl' h'=>hl l' (At _ h')
  simp only [Mg]
  split
  ·exact tF hV hx hxl ls L D Kn h hd
  ·rename_i hn
   split
   ·exact ⟨h,⟨[],by simp⟩,⟨[],by simp⟩⟩
   ·rename_i hf
    have kR:=h.ok.wP
    obtain ⟨k1,⟨A,k2⟩,⟨A',k3⟩⟩:=tF hV hx hxl ls (L++ [Al x (Bt p.2.2.1 l)]) (D++ [d+1]) Kn (h.add hn (by rw [n1,hxl]) (by omega) n2 ⟨by omega,by omega⟩) ⟨hd.1,by rw [Ax];omega⟩
    exact ⟨k1,⟨_::A,by rw [k2,Dg];rfl⟩,⟨_::A',by rw [k3,Dg];rfl⟩⟩
theorem FA {p:PP} (hV:Valid p) {m:Nat} {ls:List Int} (hl: ∀l∈ls,Iu (List.length p.2.2.1) l): ∀(f k:Nat) (L:List (List Int)) (D:List Int),aH p m L D->
  aH p m (Ri p.2.2.1 ls f k L D).1 (Ri p.2.2.1 ls f k L D).2.1/\(∃A,(Ri p.2.2.1 ls f k L D).1=L++A)
 |0,k,L,D,h=>⟨h,⟨[],by simp [Ri]⟩⟩
 |f+1,k,L,D,h=>by
  simp only [Ri]
  split
  ·rename_i hk
   have hkD:k<D.length:=by rw [h.len];exact hk
   have hd:=h.dep k hkD
   have e:D.getD k 0=D[k]:=by rw [Ak,Ac hkD];rfl
   rw [Zv hk,e]
   obtain ⟨k1,⟨A,k2⟩,_⟩:=tF hV (h.row _ (Aj hk)) (h.ok.len _ (Aj hk)) (d:=D[k]) ls L D hl h ⟨by omega,by omega⟩
   split
   ·rename_i L' D' he
    rw [he] at k1 k2
    obtain ⟨g1,⟨B,g2⟩⟩:=FA hV hl f (k+1) L' D' k1
    have k2:L'=L++A:=k2
    exact ⟨g1,⟨A++B,by rw [g2,k2,Dg]⟩⟩
   ·rename_i L' D' he
    rw [he] at k1 k2
    exact ⟨k1,⟨A,k2⟩⟩
  ·exact ⟨h,⟨[],by simp⟩⟩
theorem LZ {p:PP} {s:List Int} (hv:Ea p=true) (hs:s.length<=20) (hr: ∀y∈s,0<=y/\y<p.1):aH p s.length (Kr p.2.2.1 s).1 (Kr p.2.2.1 s).2.1/\ ∃A,(Kr p.2.2.1 s).1=s::A:=
 FA (valid hv) (λ_ hl=>Pr hl) _ _ _ _ (pf hs hr)
theorem Sb {p:PP} {t:List Int} :Gi p t=true↔Ea p=true/\a8 p.1 t=true:=by
 unfold Gi;rw [Af]
theorem Jg {p:PP} {t:List Int} (h:Gi p t=true):t.length<=20/\ ∀y∈t,0<=y/\y<p.1:=by
 obtain ⟨h1,h2⟩:=Sb.1 h
 have hn:=(valid h1).n
 obtain ⟨h3,h4⟩:=Hq.1 h2
 have hy: ∀y∈t,0<=y/\y<p.1:= λy hy=>by
  obtain ⟨j,hj,rfl⟩:=Cl.1 hy
  have:=h4 j hj hj
  omega
 refine ⟨?_,hy⟩
 have h5:=PC h4 (t.length-1) (by omega)
 have h6:=hy _ (Aj (show t.length-1<t.length by omega))
 omega
theorem BU {p:PP} {t:List Int} (h:Gi p t=true):aH p t.length (Kr p.2.2.1 t).1 (Kr p.2.2.1 t).2.1:=(LZ (Sb.1 h).1 (Jg h).1 (Jg h).2).1
theorem ey {p:PP} {t:List Int} :Gv p t=true↔Gi p t=true/\(Kr p.2.2.1 t).2.2=true:=by
 unfold Gv;rw [Af]
theorem yi {p:PP} {m:Nat} {L:List (List Int)} {D:List Int} (h:aH p m L D):Hc L/\short D:=by
 have h1:=h.ok.wP
 have h2:=h.ok.short
 have h3:=h.len
 refine ⟨⟨by omega,λx hx=>?_⟩,by unfold short;omega⟩
 have:=h.ok.len x hx
 unfold short;omega
theorem qF {p:PP} {t:List Int} :Oe (Hr p t):=by
 unfold Hr
 split
 ·rename_i h
  have h1:=(ey.1 h).1
  have h2:=yi (BU h1)
  have h3:=(Jg h1).1
  exact ⟨show t.length<=4294967296 by omega,h2.1,h2.2⟩
 ·exact ⟨by simp [short],⟨by simp,λr hr=>by cases hr⟩,by simp [short]⟩
theorem xg (p:PP) (t:List Int) (h:Ei p/\short t):fnW Ej (look [(84,Hv),(159,Jx)]) Ja Tryz.f151 (p,t,()) (λ(z:Bool)=>z=Gi p t):=by
 refine Eq.mp (xV p t _) ⟨_,Ab h.1,⟨λhv=>?_,λhv=>?_⟩⟩
 ·have hv:Ea p=true:=hv
  have hn:=(valid hv).n
  refine ⟨_,Ab ⟨⟨by show 0<=p.1;omega,by show p.1<=4294967296;omega⟩,h.2⟩,?_⟩
  unfold Gi;rw [hv];rfl
 ·have hv:Ea p=false:=hv
  unfold Gi;rw [hv];rfl
theorem oD:Sound Tryz.prog 151 Ja:=
 Sound.En Db (Av Zb (Av sx Bg)) mixed Tryz.func151 (by kernel_rfl) (by kernel_rfl) λx h=>xg x.1 x.2.1 h
theorem xo (p:PP) (t:List Int) (h:Ei p/\short t):fnW Ej (look [(93,Hv),(160,Jx)]) Ja Tryz.f155 (p,t,()) (λ(z:Bool)=>z=Gi p t):=by
 refine Eq.mp (yb p t _) ⟨_,Ab h.1,⟨λhv=>?_,λhv=>?_⟩⟩
 ·have hv:Ea p=true:=hv
  have hn:=(valid hv).n
  refine ⟨_,Ab ⟨⟨by show 0<=p.1;omega,by show p.1<=4294967296;omega⟩,h.2⟩,?_⟩
  unfold Gi;rw [hv];rfl
 ·have hv:Ea p=false:=hv
  unfold Gi;rw [hv];rfl
theorem oI:Sound Tryz.prog 155 Ja:=
 Sound.En Db (Av Zc (Av oE Bg)) mixed Tryz.func155 (by kernel_rfl) (by kernel_rfl) λx h=>xo x.1 x.2.1 h
theorem IQ (p:PP) (t:List Int) (h:Ei p/\short t):fnW Ej (look [(155,Ja),(131,kG)]) Vp Tryz.f142 (p,t,()) (λ(z:SS×Bool×Unit)=>z=(Pq p t,Gv p t,())):=by
 refine Eq.mp (KU p t _) ⟨_,Ab h,⟨λhn=>?_,λhn=>?_⟩⟩
 ·have hn:=Eu hn
  have e:Gv p t=false:=Jm.2 λhh=>hn (ey.1 hh).1
  unfold Pq
  rw [Ag hn,e]
  rfl
 ·have hn:Gi p t=true:=Ha hn
  have e:Gv p t=(Kr p.2.2.1 t).2.2:=by unfold Gv;rw [hn,bM]
  refine ⟨_,Ab ⟨(Sb.1 hn).1,(Jg hn).1,(Jg hn).2⟩,?_⟩
  have key:(((Rv p.2.2.1 t).1,(Rv p.2.2.1 t).2.1,(Rv p.2.2.1 t).2.2.1,(Rv p.2.2.1 t).2.2.2.1,()),(Rv p.2.2.1 t).2.2.2.1,())=(Pq p t,Gv p t,()):=by
   unfold Pq
   rw [Ab hn,e]
   rfl
  exact ⟨⟨⟨key,key⟩,key⟩,⟨key,key⟩,key⟩
theorem sB:Sound Tryz.prog 142 Vp:=
 Sound.En Db (Av oI (Av JM Bg)) mixed Tryz.func142 (by kernel_rfl) (by kernel_rfl) λx h=>IQ x.1 x.2.1 h
theorem IF (l:List (List Int)) (h:Hc l):fnW Ej (look [(116,Jr)]) Sa Tryz.f143 (l,()) (λ(z:List (List Int))=>z=l):=by
 obtain ⟨h1,h2⟩:=h
 refine Eq.mp (KK l _) ⟨rfl,rfl,?_⟩
 refine Bf l.length (λv=>v.1) (λj v=>v.2.1=l.take j) rfl (by simp) ?_
 rintro j ⟨i,ys,⟨⟩⟩ K hj hi hR hK
 dsimp only at hi hR⊢
 subst hi hR
 refine Br.dec (λhl=>?_) λhl=>?_
 ·have hl:j<l.length:=by omega
  refine ⟨_,Bq hl,_,Ab (h2 _ (Aj hl)),rfl,rfl,?_,rfl,rfl,?_⟩
  ·show (List.take j l).length+1<=4294967296
   rw [De];omega
  ·rw [Bh (by omega)]
   refine hK hl _ rfl ?_
   show List.take j l++ [l[j]]=_
   rw [Fw,Ac hl];rfl
 ·have:j=l.length:=by omega
  subst this
  rw [Bx,Ap]
theorem sr:Sound Tryz.prog 143 Sa:=
 Sound.En Db (Av Wu Bg) mixed Tryz.func143 (by kernel_rfl) (by kernel_rfl) λx h=>IF x.1 h
theorem IT (p:PP) (t:List Int) (h:Ei p/\short t):fnW Ej (look [(142,Vp),(116,Jr),(143,Sa)]) Vq Tryz.f125 (p,t,()) (λ(z:TT×Bool×Unit)=>z=(Hr p t,Gv p t,())):=by
 refine Eq.mp (KV p t _) ⟨_,Ab h,⟨λhn=>?_,λhn=>?_⟩⟩
 ·have hn:=Eu hn
  have hn: ¬Gv p t=true:=hn
  unfold Hr
  rw [Ag hn,Jm.2 hn]
  rfl
 ·have hn:Gv p t=true:=Ha hn
  obtain ⟨h1,h2⟩:=ey.1 hn
  have h3:=yi (BU h1)
  have e:Pq p t=Rv p.2.2.1 t:=Ab h1
  refine ⟨_,Ab h.2,?_⟩
  show ∃y5:List (List Int),Sa.fn ((Pq p t).1,())=some y5/\ ∃y6:List Int,Jr.fn ((Pq p t).2.1,())=some y6/\((t,y5,y6,()),true,())=(Hr p t,Gv p t,())
  rw [e]
  refine ⟨_,Ab h3.1,_,Ab h3.2,?_⟩
  unfold Hr
  rw [Ab hn,hn]
  rfl
theorem sC:Sound Tryz.prog 125 Vq:=
 Sound.En Db (Av sB (Av Wu (Av sr Bg))) mixed Tryz.func125 (by kernel_rfl) (by kernel_rfl) λx h=>IT x.1 x.2.1 h
def p8 (m:ByteArray->Option Bool) (L:List (List Int)):Prop:= ∀q,gq q->(m (Xn q)).getD false=decide (q∈L)
theorem p8.add {m:ByteArray->Option Bool} {L:List (List Int)} {y:List Int} (h:p8 m L) (hy:gq y):p8 (jL m (Xn y) true) (L++ [y]):=by
 intro q hq
 unfold jL
 by_cases e:q=y
 ·subst e
  rw [Ab rfl];simp
 ·rw [Ag λhk=>e (key_inj hq hy hk),h q hq]
  simp [e]
theorem OV (n:Int) (str:ByteArray) (g:List (List Int)) (t:List Int) (h:Gi (n,str,g,()) t=true):
  fnMW (qv [au+10]) (look [(138,cm),(79,Ki),(106,Mc),(122,Le),(80,bD)]) Yv Tryz.f152 (n,str,g,t,()) (λ(z:(List (List Int)×List Int×Bool×Unit)×Unit)=>z=(((Hr (n,str,g,()) t).2.1,(Hr (n,str,g,()) t).2.2.1,Gv (n,str,g,()) t,()),())):=by
 obtain ⟨hv,_⟩:=Sb.1 h
 obtain ⟨ht,hr⟩:=Jg h
 have hV:=valid hv
 have kR:=hV.wP
 have hn:=hV.n
 dsimp only at kR hn hr
 have hb0:=pf (p:=(n,str,g,())) ht hr
 have LM:short t:=by unfold short;omega
 obtain ⟨ls,qT⟩: ∃ls,Aw g.length=ls:=⟨_,rfl⟩
 have hll:ls.length<=16:=by rw [<-qT,Od];omega
 have nL: ∀l∈ls,Iu (List.length g) l:= λl hl=>Pr (qT▸hl)
 have NH:Ri g ls 3001 0 [t] [0]=Kr g t:=by unfold Kr;rw [qT]
 have Ah3: ∀x:List Int,(∀y∈x,0<=y/\y<n)->gq x:= λx hx y hy=>by have:=hx y hy;omega
 have Anj: ∀L D ok,Kr g t=(L,D,ok)->(if ok=true then ((L,D,true,()),()) else ((([]:List (List Int)),([]:List Int),false,()),()))=(((Hr (n,str,g,()) t).2.1,(Hr (n,str,g,()) t).2.2.1,Gv (n,str,g,()) t,()),()):=by
  intro L D ok he
  have e1:Gv (n,str,g,()) t=ok:=by unfold Gv;rw [h,bM];show (Kr g t).2.2=ok;rw [he]
  unfold Hr
  rw [e1]
  cases ok with
  |true=>rw [Ab rfl,Ab rfl];show ((L,D,true,()),())=(((Kr g t).1,(Kr g t).2.1,true,()),());rw [he]
  |false=>rw [Ag (by decide),Ag (by decide)]
 refine Eq.mp (RE n str g t _) ⟨_,Ab LM,_,Ab LM,ls,(Ab ⟨by show (0:Int)<=((g.length:Nat):Int);omega,by show ((g.length:Nat):Int)<=8;omega⟩).trans (Mf some (by show Aw (((g.length:Nat):Int)).toNat=ls;rw [Ai];exact qT)),rfl,rfl,rfl,rfl,rfl,rfl,?_⟩
 rw [Bx]
 refine Bf ls.length (λv=>v.1) (λj v=>v.2.1=n/\v.2.2.1=str/\v.2.2.2.1=g/\v.2.2.2.2.1=(ls.take j).map (Bt g)/\v.2.2.2.2.2.1= [t]/\v.2.2.2.2.2.2.1= [0]/\p8 v.2.2.2.2.2.2.2.1 [t]) rfl
  ⟨rfl,rfl,rfl,by simp,rfl,rfl,λq hq=>?_⟩ ?_
 ·show (jL (λ_=>none) (Xn t) true (Xn q)).getD false=_
  unfold jL
  by_cases e:q=t
  ·subst e;rw [Ab rfl];simp
  ·rw [Ag λhk=>e (key_inj hq (Ah3 t hr) hk)];simp [e]
 rintro j ⟨i,n',Apr,g',mv,L1,D1,m1,⟨⟩⟩ K hj hi ⟨h1,h2,h3,h4,h5,h6,h7⟩ hK
 dsimp only at hi h1 h2 h3 h4 h5 h6 h7⊢
 subst hi h1 h2 h3 h4 h5 h6
 refine Br.dec (λhl=>?_) λhl=>⟨rfl,rfl,rfl,rfl,rfl,rfl,?_⟩
 ·have hl:j<ls.length:=by omega
  have pC:=nL _ (Aj hl)
  refine ⟨_,Bq hl,_,Ab ⟨pC,kR.2,hV.perm⟩,rfl,rfl,?_,rfl,rfl,rfl,rfl,rfl,rfl,?_⟩
  ·show (List.map (Bt g') (List.take j ls)).length+1<=4294967296
   rw [Dj,De];omega
  ·rw [Bh (by omega)]
   refine hK hl _ rfl ⟨rfl,rfl,rfl,?_,rfl,rfl,h7⟩
   show List.map (Bt g') (List.take j ls)++ [Bt g' ls[j]]=_
   rw [Fw,Ac hl,Kc];rfl
 ·have:j=ls.length:=by omega
  subst this
  rw [Ap]
  obtain ⟨ms,SL⟩: ∃ms,ls.map (Bt g')=ms:=⟨_,rfl⟩
  have Ayu:ms.length=ls.length:=by rw [<-SL,Dj]
  have Ath: ∀i (h:i<ls.length),ms[i]'(by omega)=Bt g' ls[i]:= λi h=>by simp only [<-SL,Sx]
  rw [SL]
  refine Cz.mk (λv=>v.2.1=ms/\ ∃k:Nat,v.1=k/\k<=v.2.2.1.length/\aH (n',Apr,g',()) t.length v.2.2.1 v.2.2.2.1/\p8 v.2.2.2.2.1 v.2.2.1/\Ri g' ls (3001-k) k v.2.2.1 v.2.2.2.1=Kr g' t) (λv=>3001-v.1.toNat)
   ⟨rfl,0,rfl,by simp,hb0,h7,NH⟩ ?_
  rintro ⟨k',mv,L0,D0,mp,⟨⟩⟩ ⟨h1,k,h5,h6,h7,h8,h9⟩
  dsimp only at h1 h5 h6 h7 h8 h9
  subst h1 h5
  dsimp only
  have hL0:=h7.ok.wP
  have hD0:=h7.len
  refine Br.dec (λhl=>⟨rfl,rfl,rfl,rfl,rfl,rfl,rfl,rfl,?_⟩) λhl=>?_
  ·have hk:k<L0.length:=by omega
   have hkD:k<D0.length:=by omega
   have hx: ∀y∈L0[k],0<=y/\y<n':=h7.row _ (Aj hk)
   have hxl:L0[k].length=t.length:=h7.ok.len _ (Aj hk)
   have hdk:=h7.dep k hkD
   obtain ⟨f,hf⟩: ∃f,3001-k=f+1:=⟨3000-k,by omega⟩
   have hgo: ∀L' D' ok,Mg g' L0[k] D0[k] ls L0 D0=(L',D',ok)->Kr g' t=if ok=true then Ri g' ls f (k+1) L' D' else (L',D',false):=by
    intro L' D' ok he
    rw [<-h9,hf,Ri,Ab hk,Zv hk,Ak,Ac hkD]
    simp only [Bz]
    rw [he]
    cases ok<;>rfl
   refine Cz.mk (λv=>v.2.1=mv/\ ∃i:Nat,v.1=i/\i<=ls.length/\aH (n',Apr,g',()) t.length v.2.2.1 v.2.2.2.1/\p8 v.2.2.2.2.1 v.2.2.1/\(∃A,v.2.2.1=L0++A)/\(∃A,v.2.2.2.1=D0++A)/\
     Mg g' L0[k] D0[k] (ls.drop i) v.2.2.1 v.2.2.2.1=Mg g' L0[k] D0[k] ls L0 D0) (λv=>ls.length-v.1.toNat)
    ⟨rfl,0,rfl,Iq _,h7,h8,⟨[],by simp⟩,⟨[],by simp⟩,rfl⟩ ?_
   rintro ⟨i',mv',L,D,mp2,⟨⟩⟩ ⟨g1,i,g5,g6,g7,g8,⟨A,g9⟩,⟨A',g10⟩,s8⟩
   dsimp only at g1 g5 g6 g7 g8 g9 g10 s8
   subst g1 g5
   dsimp only
   have hLf:=g7.ok.wP
   have hDl:=g7.len
   refine Br.dec (λhli=>?_) λhli=>?_
   ·have hi:i<ls.length:=by omega
    have hkL:k<L.length:=by rw [g9,Ax];omega
    have hLk:L[k]=L0[k]:=by simp only [g9];exact gZ hk
    have Aje:k<D.length:=by rw [hDl];exact hkL
    have hDk:D[k]=D0[k]:=by simp only [g10];exact gZ hkD
    have pC:=nL _ (Aj hi)
    obtain ⟨nl,nr⟩:=BH hV hx pC
    dsimp only at nl nr
    have US:=kr hV pC
    dsimp only at US
    rw [Cn hi] at s8
    simp only [Mg] at s8
    have hyb:=Ah3 _ nr
    refine ⟨⟨by omega,by omega⟩,Bt g' ls[i],by rw [Ai,Bv,Ac (by omega),Ath i hi],⟨by omega,by omega⟩,L0[k],by rw [Ai,Bv,Ac hkL,hLk],
     _,Ab ⟨by show short L0[k];unfold short;omega,by show Mm (Bt g' ls[i]).length L0[k];intro y hy;have:=hx y hy;omega⟩,?_⟩
    dsimp only
    rw [show Ef (Bt g' ls[i]) L0[k]=Al L0[k] (Bt g' ls[i]) from rfl,Bx]
    generalize hyv:Al L0[k] (Bt g' ls[i])=yv at*
    refine ⟨_,Ab (by show short yv;unfold short;rw [nl];omega),?_⟩
    dsimp only
    rw [g8 _ hyb]
    refine ⟨λiX=>?_,λiX=>⟨rfl,rfl,rfl,rfl,rfl,rfl,rfl,rfl,?_⟩⟩
    ·have iX:yv∉L:=by simpa using iX
     rw [Ag iX] at s8
     refine ⟨λZz=>?_,λZz=>⟨rfl,rfl,by show L.length+1<=4294967296;omega,⟨by omega,by omega⟩,D0[k],by rw [Ai,Bv,Ac Aje,hDk],rfl,rfl,by show D.length+1<=4294967296;omega,rfl,rfl,rfl,rfl,rfl,rfl,rfl,rfl,?_⟩⟩
     ·have Zz:L.length=3000:=by
       have:(L.length:Int)=3000:=by simpa using Zz
       omega
      rw [Ab Zz] at s8
      have:=hgo _ _ _ s8.symm
      rw [Ag (by decide)] at this
      have:=Anj _ _ _ this
      rw [Ag (by decide)] at this
      exact this
     ·have Zz:L.length≠3000:=by
       have:(L.length:Int)≠3000:=by simpa using Zz
       omega
      rw [Ag Zz] at s8
      rw [Dk (n:=D0[k]+1) (by omega) (by omega),Bh (by omega)]
      refine ⟨⟨rfl,i+1,rfl,hi,g7.add iX (by rw [nl,hxl]) (by omega) nr ⟨by omega,by omega⟩,g8.add hyb,⟨A++ [yv],by rw [g9,Dg];rfl⟩,⟨A'++ [D0[k]+1],by rw [g10,Dg];rfl⟩,s8⟩,by omega⟩
    ·have iX:yv∈L:=by simpa using iX
     rw [Ab iX] at s8
     rw [Bh (by omega)]
     exact ⟨⟨rfl,i+1,rfl,hi,g7,g8,⟨A,g9⟩,⟨A',g10⟩,s8⟩,by omega⟩
   ·have:i=ls.length:=by omega
    subst this
    rw [Ij,Mg] at s8
    have:=hgo _ _ _ s8.symm
    rw [Ab rfl] at this
    rw [Bh (by omega)]
    refine ⟨rfl,rfl,rfl,rfl,rfl,rfl,⟨rfl,k+1,rfl,by rw [g9,Ax];omega,g7,g8,?_⟩,by omega⟩
    rw [show 3001-(k+1)=f by omega]
    exact this.symm
  ·have hk:k=L0.length:=by omega
   rw [Bx L0,Bx D0]
   obtain ⟨f,hf⟩: ∃f,3001-k=f+1:=⟨3000-k,by omega⟩
   rw [hf,Ri,Ag (by omega)] at h9
   have:=Anj _ _ _ h9.symm
   rw [Ab rfl] at this
   exact this
theorem vW:Ca Tryz.prog 152 Yv:=
 Ca.cd (qw [au+10]) (Ep oA (Av cr (Av lJ (Av jA (Ep xD Bg))))) mixed Tryz.func152 (by kernel_rfl) (by kernel_rfl) λx h=>OV x.1 x.2.1 x.2.2.1 x.2.2.2.1 h
theorem tG {p:PP} {t:List Int} (h: ¬Gv p t=true):Hr p t=([],[],[],()):=Ag h
theorem OX (n:Int) (str:ByteArray) (g:List (List Int)) (t:List Int) (h:Ei (n,str,g,())/\short t):
  fnMW Va (look [(151,Ja),(152,Yv)]) Yx Tryz.f137 (n,str,g,t,()) (λ(z:(List (List Int)×List Int×Bool×Unit)×Unit)=>z=(((Hr (n,str,g,()) t).2.1,(Hr (n,str,g,()) t).2.2.1,Gv (n,str,g,()) t,()),())):=by
 refine Eq.mp (RG n str g t _) ⟨_,Ab h,⟨λhn=>?_,λhn=>?_⟩⟩
 ·have hn: ¬Gi (n,str,g,()) t=true:=Eu hn
  have e: ¬Gv (n,str,g,()) t=true:= λhh=>hn (ey.1 hh).1
  rw [tG e,Jm.2 e]
  rfl
 ·have hn:Gi (n,str,g,()) t=true:=Ha hn
  refine ⟨_,Ab hn,?_⟩
  rw [Bx,Bx]
theorem vY:Ca Tryz.prog 137 Yx:=
 Ca.cd Tm (Av oD (Ep vW Bg)) mixed Tryz.func137 (by kernel_rfl) (by kernel_rfl) λx h=>OX x.1 x.2.1 x.2.2.1 x.2.2.2.1 h
theorem IJ (n:Int) (str:ByteArray) (g:List (List Int)) (t:List Int) (h:Ei (n,str,g,())/\short t):
  fnMW Va (look [(137,Yx),(138,cm)]) Vn Tryz.f113 (n,str,g,t,()) (λ(z:(List Int×List (List Int)×List Int×Bool×Unit)×Unit)=>z=(((Hr (n,str,g,()) t).1,(Hr (n,str,g,()) t).2.1,(Hr (n,str,g,()) t).2.2.1,Gv (n,str,g,()) t,()),())):=by
 refine Eq.mp (KO n str g t _) ⟨_,Ab h,⟨λhn=>?_,λhn=>?_⟩⟩
 ·have e: ¬Gv (n,str,g,()) t=true:=Eu hn
  rw [tG e,Jm.2 e]
  rfl
 ·have e:Gv (n,str,g,()) t=true:=Ha hn
  refine ⟨_,Ab h.2,?_⟩
  rw [Bx,Bx,Bx,e]
  have e2:(Hr (n,str,g,()) t).1=t:=by unfold Hr;rw [Ab e]
  rw [e2]
theorem sv:Ca Tryz.prog 113 Vn:=
 Ca.cd Tm (Ep vY (Ep oA Bg)) mixed Tryz.func113 (by kernel_rfl) (by kernel_rfl) λx h=>IJ x.1 x.2.1 x.2.2.1 x.2.2.2.1 h
theorem BN (p:PP) (t:TT) (h:Ei p/\Oe t):fnW Ej (look [(113,Vn),(114,Is)]) Qj Tryz.f87 (p,t,()) (λ(z:Bool)=>z=Gz p t):=by
 refine Eq.mp (DW p t _) ⟨_,Ab ⟨h.1,h.2.1⟩,⟨λhn=>?_,λhn=>?_⟩⟩
 ·have e:Gv p t.1=true:=hn
  rw [Bx,Bx,Bx]
  refine ⟨_,Ab qF,?_⟩
  unfold Gz
  rw [e];rfl
 ·have e:Gv p t.1=false:=hn
  unfold Gz
  rw [e];rfl
theorem qi:Sound Tryz.prog 87 Qj:=
 Sound.En Db (Ep sv (Av kW Bg)) mixed Tryz.func87 (by kernel_rfl) (by kernel_rfl) λx h=>BN x.1 x.2.1 h
theorem BS (p:PP) (t:TT) (h:Ei p/\Oe t):fnW Ej (look [(125,Vq),(126,Is)]) Qj Tryz.f94 (p,t,()) (λ(z:Bool)=>z=Gz p t):=by
 refine Eq.mp (EB p t _) ⟨_,Ab ⟨h.1,h.2.1⟩,⟨λhn=>?_,λhn=>?_⟩⟩
 ·have e:Gv p t.1=true:=hn
  refine ⟨_,Ab qF,?_⟩
  unfold Gz
  rw [e];rfl
 ·have e:Gv p t.1=false:=hn
  unfold Gz
  rw [e];rfl
theorem qk:Sound Tryz.prog 94 Qj:=
 Sound.En Db (Av sC (Av kZ Bg)) mixed Tryz.func94 (by kernel_rfl) (by kernel_rfl) λx h=>BS x.1 x.2.1 h
theorem Apl (t:TT) (p:PP) (h:Oe t/\Ei p):fnW Ej (look [(87,Qj)]) zi Tryz.f86 (t,p,()) (λ(z:Bool)=>z=!Gz p t):=by
 exact Eq.mp (Aqa t p _) ⟨_,Ab ⟨h.2,h.1⟩,rfl⟩
theorem XI:Sound Tryz.prog 86 zi:=
 Sound.En Db (Av qi Bg) mixed Tryz.func86 (by kernel_rfl) (by kernel_rfl) λx h=>Apl x.1 x.2.1 h
theorem Akw (ts:List TT) (c:PP×Unit) (h:Gx ts/\Ei c.1):fnW Ej (look [(86,zi)]) q8 Tryz.f112 (ts,c,()) (λ(z:Int)=>z=Rt (λt=>!Gz c.1 t) ts 0):=by
 obtain ⟨⟨h1,h2⟩,h3⟩:=h
 refine Eq.mp (Alp ts c _) ?_
 refine Bf ts.length (λv=>v.1) (λj _=>Rt (λt=>!Gz c.1 t) (ts.drop j) j=Rt (λt=>!Gz c.1 t) ts 0) rfl (by simp) ?_
 rintro j ⟨i,⟨⟩⟩ K hj hi hR hK
 dsimp only at hi⊢
 subst hi
 refine Br.dec (λhl=>?_) λhl=>?_
 ·have hl:j<ts.length:=by omega
  rw [Cn hl] at hR
  simp only [Rt] at hR
  refine ⟨_,Bq hl,_,Ab ⟨h2 _ (Aj hl),h3⟩,⟨λhe=>?_,λhe=>?_⟩⟩
  ·have he:(!Gz c.1 ts[j])=true:=he
   rw [Ab he] at hR
   exact hR
  ·have he:(!Gz c.1 ts[j])=false:=he
   rw [Ag (by rw [he];decide)] at hR
   rw [Bh (by omega)]
   exact hK hl _ rfl (by push_cast;exact hR)
 ·have:j=ts.length:=by omega
  subst this
  rw [Ij] at hR
  exact hR
theorem QG:Sound Tryz.prog 112 q8:=
 Sound.En Db (Av XI Bg) mixed Tryz.func112 (by kernel_rfl) (by kernel_rfl) λx h=>Akw x.1 x.2.1 h
theorem ux (q:TT->Bool): ∀(ts:List TT) (k:Int),0<=k->decide (Rt q ts k>=0)=ts.any q
 | [],k,_=>by simp [Rt]
 |t::ts,k,hk=>by
  have ih:=ux q ts (k+1) (by omega)
  rw [List.any_cons]
  by_cases e:q t=true
  ·have e2:Rt q (t::ts) k=k:=Ab e
   rw [e]
   exact Fu (by rw [e2];exact hk)
  ·have e2:Rt q (t::ts) k=Rt q ts (k+1):=Ag e
   rw [Jm.2 e,Pg,<-ih]
   exact decide_eq_decide.2 (by rw [e2])
theorem Akq (ts:List TT) (c:PP×Unit) (h:Gx ts/\Ei c.1):fnW Ej (look [(112,q8)]) pX Tryz.f85 (ts,c,()) (λ(z:Bool)=>z=List.any ts (λt=>!Gz c.1 t)):=by
 exact Eq.mp (Alj ts c _) ⟨_,Ab h,ux _ ts 0 (Nx 0)⟩
theorem QC:Sound Tryz.prog 85 pX:=
 Sound.En Db (Av QG Bg) mixed Tryz.func85 (by kernel_rfl) (by kernel_rfl) λx h=>Akq x.1 x.2.1 h
theorem ET (q:TT->Bool) (ts:List TT):(!List.any ts λt=>!q t)=List.all ts q:=by
 induction ts with
 |nil=>rfl
 |cons t ts ih=>simp only [List.any_cons,Hx,<-ih];cases q t<;>simp
theorem uW (p:PP) (ts:List TT) (h:Ei p/\Gx ts):fnW Ej (look [(84,Hv),(85,pX)]) Lf Tryz.f63 (p,ts,()) (λ(z:Bool)=>z=Gr p ts):=by
 refine Eq.mp (wz p ts _) ⟨_,Ab h.1,⟨λhv=>Br.dec (λhl=>⟨_,Ab ⟨h.2,h.1⟩,?_⟩) λhl=>?_,λhv=>?_⟩⟩
 ·have hv:Ea p=true:=hv
  have hl:ts.length<=4:=by omega
  show (!List.any ts λt=>!Gz p t)=_
  rw [ET]
  unfold Gr
  rw [hv,Fu hl];rfl
 ·unfold Gr
  rw [Dr (by omega),Bool.and_false];rfl
 ·have hv:Ea p=false:=hv
  unfold Gr
  rw [hv];rfl
theorem mM:Sound Tryz.prog 63 Lf:=
 Sound.En Db (Av Zb (Av QC Bg)) mixed Tryz.func63 (by kernel_rfl) (by kernel_rfl) λx h=>uW x.1 x.2.1 h
theorem uX (p:PP) (ts:List TT) (h:Ei p/\Gx ts):fnW Ej (look [(93,Hv),(94,Qj)]) Lf Tryz.f72 (p,ts,()) (λ(z:Bool)=>z=Gr p ts):=by
 refine Eq.mp (wA p ts _) ⟨_,Ab h.1,⟨λhv=>?_,λhv=>Br.dec (λhl=>?_) λhl=>?_⟩⟩
 ·have hv:Ea p=false:=Jm.2 (Eu hv)
  unfold Gr
  rw [hv];rfl
 ·unfold Gr
  rw [Dr (by omega),Bool.and_false];rfl
 ·have hv:Ea p=true:=Ha hv
  have hl:ts.length<=4:=by omega
  have e:Gr p ts=List.all ts (Gz p):=by
   unfold Gr
   rw [hv,Fu hl];rfl
  rw [e]
  refine Bf ts.length (λv=>v.1) (λj v=>v.2.1=p.1/\v.2.2.1=p.2.1/\v.2.2.2.1=p.2.2.1/\List.all (ts.drop j) (Gz p)=List.all ts (Gz p)) rfl ⟨rfl,rfl,rfl,by simp⟩ ?_
  rintro j ⟨i,n1,n2,n3,⟨⟩⟩ K hj hi ⟨h1,h2,h3,hR⟩ hK
  dsimp only at hi h1 h2 h3 hR⊢
  subst hi h1 h2 h3
  refine Br.dec (λhl=>?_) λhl=>?_
  ·have hl:j<ts.length:=by omega
   rw [Cn hl,Hx] at hR
   refine ⟨_,Bq hl,_,Ab ⟨h.1,h.2.2 _ (Aj hl)⟩,⟨λhe=>?_,λhe=>?_⟩⟩
   ·have he:Gz p ts[j]=false:=Jm.2 (Eu he)
    rw [he,Bool.false_and] at hR
    exact hR
   ·have he:Gz p ts[j]=true:=Ha he
    rw [he,bM] at hR
    rw [Bh (by omega)]
    exact hK hl _ rfl ⟨rfl,rfl,rfl,hR⟩
  ·have:j=ts.length:=by omega
   subst this
   rw [Ij] at hR
   exact hR
theorem mN:Sound Tryz.prog 72 Lf:=
 Sound.En Db (Av Zc (Av qk Bg)) mixed Tryz.func72 (by kernel_rfl) (by kernel_rfl) λx h=>uX x.1 x.2.1 h
theorem Al2 (ts:List TT) (k:Int) (h:Gx ts/\roomy k):fnW Ej (look [(46,bH)]) qa Tryz.f14 (ts,k,()) (λ(z:Int)=>z=cc ts k):=by
 obtain ⟨⟨h1,h2⟩,h3,h4⟩:=h
 refine Eq.mp (Alw ts k _) ?_
 rw [Dk (by omega) (by omega)]
 refine Br.dec (λhn=>?_) λhn=>?_
 ·exact (Ab hn).symm
 ·have e:cc ts k=cv ts (k-ts.length):=Ag hn
  rw [e]
  refine Bf ts.length (λv=>v.2.1) (λj v=>roomy v.1/\cv (ts.drop j) v.1=cv ts (k-ts.length)) rfl ⟨⟨by omega,by omega⟩,by simp⟩ ?_
  rintro j ⟨r,i,⟨⟩⟩ K hj hi ⟨hr,hR⟩ hK
  dsimp only at hi hr hR⊢
  subst hi
  refine Br.dec (λhl=>?_) λhl=>?_
  ·have hl:j<ts.length:=by omega
   rw [Cn hl] at hR
   simp only [cv] at hR
   refine ⟨_,Bq hl,_,Ab ⟨h2 _ (Aj hl),hr⟩,Br.dec (λhm=>?_) λhm=>?_⟩
   ·have hm:Mb ts[j] r<0:=hm
    rw [Ab hm] at hR
    exact hR
   ·have hm: ¬Mb ts[j] r<0:=hm
    rw [Ag hm] at hR
    rw [Bh (by omega)]
    exact hK hl _ rfl ⟨ja hr hm,hR⟩
  ·have:j=ts.length:=by omega
   subst this
   rw [Ij] at hR
   exact hR
theorem QJ:Sound Tryz.prog 14 qa:=
 Sound.En Db (Av xH Bg) mixed Tryz.func14 (by kernel_rfl) (by kernel_rfl) λx h=>Al2 x.1 x.2.1 h
theorem Al5 (ts:List TT) (h:Gx ts):fnW Ej (look [(50,bJ)]) vD Tryz.f17 (ts,()) (λ(z:List TT)=>z=ts):=by
 obtain ⟨h,h4⟩:=h
 refine Eq.mp (Alz ts _) ?_
 refine ⟨⟨by omega,by show (ts.length:Int)<(4294967296:Int)+1;omega⟩,rfl,rfl,rfl,?_⟩
 refine Bf ts.length (λv=>v.1) (λj v=>v.2.1.length=ts.length/\v.2.1.take j=ts.take j) rfl ⟨by simp,by simp⟩ ?_
 rintro j ⟨i,ys,⟨⟩⟩ K hj hi ⟨h1,h2⟩ hK
 dsimp only at hi h1 h2⊢
 subst hi
 refine Br.dec (λhl=>?_) λhl=>?_
 ·have hl:j<ts.length:=by omega
  refine ⟨_,Bq hl,_,Ab (h4 _ (Aj hl)),⟨by omega,by omega⟩,by rw [Ai];omega,rfl,by rw [Bi],?_⟩
  rw [Bh (by omega),Ai,Bv]
  exact hK hl _ rfl ⟨by rw [Bi];exact h1,Km hl h1 h2⟩
 ·have:j=ts.length:=by omega
  subst this
  rw [Ap,<-h1,Ap] at h2
  rw [Dn,Ap]
  exact h2
theorem QK:Sound Tryz.prog 17 vD:=
 Sound.En Db (Av xJ Bg) mixed Tryz.func17 (by kernel_rfl) (by kernel_rfl) λx h=>Al5 x.1 h
theorem pG {a b:TT} :Pp a b=true↔a=b:=by
 obtain ⟨a1,a2,a3,⟨⟩⟩:=a
 obtain ⟨b1,b2,b3,⟨⟩⟩:=b
 simp [Pp]
theorem Akt (a b:List TT) (h:Gx a):fnW Ej (look [(54,Is)]) pY Tryz.f21 (a,b,()) (λ(z:Bool)=>z=decide (a=b)):=by
 obtain ⟨h1,h2⟩:=h
 refine Eq.mp (Alm a b _) ⟨λhl=>?_,λhl=>?_⟩
 ·have hl:a.length≠b.length:=by
   have:(a.length:Int)≠b.length:=by simpa using hl
   omega
  exact (Dr λe=>hl (by rw [e])).symm
 ·have hl:a.length=b.length:=by
   have:(a.length:Int)=b.length:=by simpa using hl
   omega
  refine Bf a.length (λv=>v.1) (λj _=>(a=b↔a.drop j=b.drop j)) rfl (by simp) ?_
  rintro j ⟨i,⟨⟩⟩ K hj hi hR hK
  dsimp only at hi⊢
  subst hi
  refine Br.dec (λhla=>?_) λhla=>?_
  ·have hla:j<a.length:=by omega
   have hlb:j<b.length:=by omega
   rw [Cn hla,Cn hlb] at hR
   refine ⟨_,Bq hla,_,Bq hlb,_,Ab (h2 _ (Aj hla)),⟨λhe=>?_,λhe=>?_⟩⟩
   ·have he: ¬Pp a[j] b[j]=true:=Eu he
    refine (Dr λe=>he (pG.2 ?_)).symm
    have:=hR.1 e
    simp only [Gc] at this
    exact this.1
   ·have he:Pp a[j] b[j]=true:=Ha he
    rw [pG.1 he] at hR
    rw [Bh (by omega)]
    exact hK hla _ rfl (hR.trans ⟨λe=>(List.cons.inj e).2,λe=>by rw [e]⟩)
  ·have:j=a.length:=by omega
   subst this
   rw [Ij,hl,Ij] at hR
   exact (Fu (hR.2 rfl)).symm
theorem QD:Sound Tryz.prog 21 pY:=
 Sound.En Db (Av xx Bg) mixed Tryz.func21 (by kernel_rfl) (by kernel_rfl) λx h=>Akt x.1 x.2.1 h
end Go.Proofs.YtfolipnappekaaaGreat
