/-
  Part 39 of the proof that the statement FnExactLowerBounds holds.
-/
import Derived.Test.YtfolipnappekaaaGreatCLowerBounds37
namespace Go.Proofs.YtfolipnappekaaaGreat
open Go.RowKit
noncomputable def Cx (p:PP) (t:List Int):Bool:=Bw p&&Sw p.1 t
noncomputable def De (p:PP) (t:List Int):Bool:=Cx p t&&(Gi p.2.2.1 t).2.2
noncomputable abbrev Es:Spec:=Cu (.pair Df (.pair tL .unit)) .bool false true (λx=>Cb x.1/\short x.2.1) (λx=>Cx x.1 x.2.1)
noncomputable def Jz (p:PP) (t:List Int):SS:=if Cx p t=true then Lt p.2.2.1 t else ([],[],[],false,())
noncomputable abbrev Ow:Spec:=Cu (.pair Df (.pair tL .unit)) (.pair eI (.pair .bool .unit)) true false (λx=>Cb x.1/\short x.2.1) (λx=>(Jz x.1 x.2.1,De x.1 x.2.1,()))
noncomputable abbrev Lx:Spec:=Cu (.pair an .unit) an false true (λx=>Dl x.1) (λx=>x.1)
noncomputable def Dx (p:PP) (t:List Int):TT:=if De p t=true then (t,(Gi p.2.2.1 t).1,(Gi p.2.2.1 t).2.1,()) else ([],[],[],())
noncomputable abbrev Ox:Spec:=Cu (.pair Df (.pair tL .unit)) (.pair Gl (.pair .bool .unit)) true true (λx=>Cb x.1/\short x.2.1) (λx=>(Dx x.1 x.2.1,De x.1 x.2.1,()))
noncomputable abbrev Ro:MSpec:=Wx [some 3,none] [(false, .Dh tI),(false, .Dh .str),(false, .Dh an),(false, .Dh tL)] true [none,none,none] [WW,rL, .Dh .bool]
 (λx=>Cx (x.1,x.2.1,x.2.2.1,()) x.2.2.2.1=true) (λx=>(((Dx (x.1,x.2.1,x.2.2.1,()) x.2.2.2.1).2.1,(Dx (x.1,x.2.1,x.2.2.1,()) x.2.2.2.1).2.2.1,De (x.1,x.2.1,x.2.2.1,()) x.2.2.2.1,()),()))
noncomputable abbrev Rq:MSpec:=Wx [some 3,none] [(false, .Dh tI),(false, .Dh .str),(false, .Dh an),(false, .Dh tL)] true [none,none,none] [WW,rL, .Dh .bool]
 (λx=>Cb (x.1,x.2.1,x.2.2.1,())/\short x.2.2.2.1) (λx=>(((Dx (x.1,x.2.1,x.2.2.1,()) x.2.2.2.1).2.1,(Dx (x.1,x.2.1,x.2.2.1,()) x.2.2.2.1).2.2.1,De (x.1,x.2.1,x.2.2.1,()) x.2.2.2.1,()),()))
noncomputable abbrev Ot:MSpec:=Wx [some 3,none] [(false, .Dh tI),(false, .Dh .str),(false, .Dh an),(false, .Dh tL)] true [some 3,none] [rL,WW,rL, .Dh .bool]
 (λx=>Cb (x.1,x.2.1,x.2.2.1,())/\short x.2.2.2.1) (λx=>(((Dx (x.1,x.2.1,x.2.2.1,()) x.2.2.2.1).1,(Dx (x.1,x.2.1,x.2.2.1,()) x.2.2.2.1).2.1,(Dx (x.1,x.2.1,x.2.2.1,()) x.2.2.2.1).2.2.1,De (x.1,x.2.1,x.2.2.1,()) x.2.2.2.1,()),()))
noncomputable def Di (p:PP) (t:TT):Bool:=De p t.1&&Jy (Dx p t.1) t
noncomputable abbrev Kr:Spec:=Cu (.pair Df (.pair Gl .unit)) .bool false true (λx=>Cb x.1/\Iz x.2.1) (λx=>Di x.1 x.2.1)
abbrev wy:Ty:= .slice Gl
def Dq (ts:List TT):Prop:=ts.length<=4294967296/\ ∀t∈ts,Iz t
noncomputable def Da (p:PP) (ts:List TT):Bool:=Bw p&&decide (ts.length<=4)&&List.all ts (Di p)
noncomputable abbrev Gv:Spec:=Cu (.pair Df (.pair wy .unit)) .bool false true (λx=>Cb x.1/\Dq x.2.1) (λx=>Da x.1 x.2.1)
abbrev Aek:Ty:= .clo 86 (.pair (.ptr Df) .unit)
noncomputable abbrev tj:Spec:=Cu (.pair Gl (.pair (.ptr Df) .unit)) .bool false true (λx=>Iz x.1/\Cb x.2.1) (λx=>!Di x.2.1 x.1)
def Lr (q:TT->Bool):List TT->Int->Int
 | [],_=> -1
 |t::ts,k=>if q t=true then k else Lr q ts (k+1)
noncomputable abbrev kK:Spec:=Cu (.pair wy (.pair Aek .unit)) tI false true (λx=>Dq x.1/\Cb x.2.1.1) (λx=>Lr (λt=>!Di x.2.1.1 t) x.1 0)
noncomputable abbrev kH:Spec:=Cu (.pair wy (.pair Aek .unit)) .bool false true (λx=>Dq x.1/\Cb x.2.1.1) (λx=>List.any x.1 (λt=>!Di x.2.1.1 t))
def Ws:List TT->Int->Int
 | [],room=>room
 |t::ts,room=>if Ho t room<0 then-1 else Ws ts (Ho t room)
def Wh (ts:List TT) (room:Int):Int:=if room-ts.length<0 then-1 else Ws ts (room-ts.length)
noncomputable abbrev kN:Spec:=Cu (.pair wy (.pair tI .unit)) tI false true (λx=>Dq x.1/\roomy x.2.1) (λx=>Wh x.1 x.2.1)
noncomputable abbrev pb:Spec:=Cu (.pair wy .unit) wy false true (λx=>Dq x.1) (λx=>x.1)
noncomputable abbrev kI:Spec:=Cu (.pair wy (.pair wy .unit)) .bool false true (λx=>Dq x.1) (λx=>decide (x.1=x.2.1))
theorem rP (p:Int×ByteArray×List (List Int)×Unit) (t:List Int) (P:Bool->Prop):(∃(y3:Bool),Ea.fn ((p.1,p.2.1,p.2.2.1,()),())=some y3/\Br y3 (∃(y4:Bool),Ft.fn (p.1,t,())=some y4/\P y4) (P false))=fnW Ck (look [(84,Ea),(159,Ft)]) Es Tryz.f151 (p,t,()) P:=by kernel_rfl
theorem rV (p:Int×ByteArray×List (List Int)×Unit) (t:List Int) (P:Bool->Prop):(∃(y3:Bool),Ea.fn ((p.1,p.2.1,p.2.2.1,()),())=some y3/\Br y3 (∃(y4:Bool),Ft.fn (p.1,t,())=some y4/\P y4) (P false))=fnW Ck (look [(93,Ea),(160,Ft)]) Es Tryz.f155 (p,t,()) P:=by kernel_rfl
theorem zp (p:Int×ByteArray×List (List Int)×Unit) (t:List Int) (P:((List (List Int)×List Int×List Int×Bool×Unit)×Bool×Unit)->Prop):(∃(y3:Bool),Es.fn ((p.1,p.2.1,p.2.2.1,()),t,())=some y3/\Br (!y3) (P ((List.take 0 (List.drop 0 []),List.take 0 (List.drop 0 []),List.take 0 (List.drop 0 []),false,()),false,())) (∃(y4:List (List Int)×List Int×List Int×Bool×PUnit),eD.fn ((p.1,p.2.1,p.2.2.1,()),t,())=some y4/\((P ((y4.1,y4.2.1,y4.2.2.1,y4.2.2.2.1,()),y4.2.2.2.1,())/\P ((y4.1,y4.2.1,y4.2.2.1,y4.2.2.2.1,()),y4.2.2.2.1,()))/\P ((y4.1,y4.2.1,y4.2.2.1,y4.2.2.2.1,()),y4.2.2.2.1,()))/\(P ((y4.1,y4.2.1,y4.2.2.1,y4.2.2.2.1,()),y4.2.2.2.1,())/\P ((y4.1,y4.2.1,y4.2.2.1,y4.2.2.2.1,()),y4.2.2.2.1,()))/\P ((y4.1,y4.2.1,y4.2.2.1,y4.2.2.2.1,()),y4.2.2.2.1,())))=fnW Ck (look [(155,Es),(131,eD)]) Ow Tryz.f142 (p,t,()) P:=by kernel_rfl
theorem zg (l:List (List Int)) (P:List (List Int)->Prop):(0=0/\0=([]:List Int).length/\Bk (λ(v2:Int×List (List Int)×PUnit) (k3:Int×List (List Int)×PUnit->Prop)=>Br (decide (v2.1<(↑l.length:Int))) (∃(y4:List Int),idx l v2.1=some y4/\ ∃(y5:List Int),Fh.fn (y4,())=some y5/\0=0/\v2.2.1.length=v2.2.1.length/\v2.2.1.length+(List.take 1 (List.drop 0 [y5])).length<=Bh/\0=0/\(v2.2.1++List.take 1 (List.drop 0 [y5])).length=(v2.2.1++List.take 1 (List.drop 0 [y5])).length/\k3 (IntKind.i64.wrap (v2.1+(1:Int)),v2.2.1++List.take 1 (List.drop 0 [y5]),())) (P (List.take v2.2.1.length (List.drop 0 v2.2.1)))) ((0:Int),[],PUnit.unit))=fnW Ck (look [(116,Fh)]) Lx Tryz.f143 (l,()) P:=by kernel_rfl
theorem zq (p:Int×ByteArray×List (List Int)×Unit) (t:List Int) (P:((List Int×List (List Int)×List Int×Unit)×Bool×Unit)->Prop):(∃(y3:(List (List Int)×List Int×List Int×Bool×PUnit)×Bool×PUnit),Ow.fn ((p.1,p.2.1,p.2.2.1,()),t,())=some y3/\Br (!y3.2.1) (P ((List.take 0 (List.drop 0 []),List.take 0 (List.drop 0 []),List.take 0 (List.drop 0 []),()),false,())) (∃(y4:List Int),Fh.fn (t,())=some y4/\ ∃(y5:List (List Int)),Lx.fn (y3.1.1,())=some y5/\ ∃(y6:List Int),Fh.fn (y3.1.2.1,())=some y6/\P ((y4,y5,y6,()),true,())))=fnW Ck (look [(142,Ow),(116,Fh),(143,Lx)]) Ox Tryz.f125 (p,t,()) P:=by kernel_rfl
abbrev Yc:Type:=Int×List (List Int)×List (List Int)×List Int×(ByteArray->Option Bool)×PUnit
abbrev lX:Type:=Int×Int×ByteArray×List (List Int)×List (List Int)×List (List Int)×List Int×(ByteArray->Option Bool)×PUnit
theorem EH (n:Int) (str:ByteArray) (g:List (List Int)) (t:List Int) (P:((List (List Int)×List Int×Bool×Unit)×Unit)->Prop):(∃(y5:(List Int×PUnit)×PUnit),Wm.fn (t,())=some y5/\ ∃(y6:ByteArray),Gb.fn (t,())=some y6/\ ∃(y7:List Int),Vc.fn ((↑g.length:Int),())=some y7/\0=0/\1= [List.take y5.1.1.length (List.drop 0 y5.1.1)].length/\0=0/\1= [(0:Int)].length/\0=0/\0=([]:List Int).length/\Bk (λ(v8:lX) (k9:lX->Prop)=>Br (decide (v8.1<(↑y7.length:Int))) (∃(Th:Int),idx y7 v8.1=some Th/\ ∃(m5:List Int),Rk.fn (v8.2.2.2.1,Th,())=some m5/\0=0/\v8.2.2.2.2.1.length=v8.2.2.2.2.1.length/\v8.2.2.2.2.1.length+(List.take 1 (List.drop 0 [m5])).length<=Bh/\0=0/\v8.2.2.2.2.2.1.length=v8.2.2.2.2.2.1.length/\0=0/\v8.2.2.2.2.2.2.1.length=v8.2.2.2.2.2.2.1.length/\0=0/\(v8.2.2.2.2.1++List.take 1 (List.drop 0 [m5])).length=(v8.2.2.2.2.1++List.take 1 (List.drop 0 [m5])).length/\k9 (IntKind.i64.wrap (v8.1+(1:Int)),v8.2.1,v8.2.2.1,v8.2.2.2.1,v8.2.2.2.2.1++List.take 1 (List.drop 0 [m5]),v8.2.2.2.2.2.1,v8.2.2.2.2.2.2.1,v8.2.2.2.2.2.2.2.1,())) (0=0/\v8.2.2.2.2.2.1.length=v8.2.2.2.2.2.1.length/\0=0/\v8.2.2.2.2.2.2.1.length=v8.2.2.2.2.2.2.1.length/\0=0/\v8.2.2.2.2.1.length=v8.2.2.2.2.1.length/\Bk (λ(v10:Yc) (k11:Yc->Prop)=>Br (decide (v10.1<(↑v10.2.2.1.length:Int))) (0=0/\v10.2.2.1.length=v10.2.2.1.length/\0=0/\v10.2.2.2.1.length=v10.2.2.2.1.length/\0=0/\v10.2.1.length=v10.2.1.length/\0=0/\v10.2.1.length=v10.2.1.length/\Bk (λ(Jb:Yc) (k13:Yc->Prop)=>Br (decide (Jb.1<(↑v10.2.1.length:Int))) (((0:Int)<=Jb.1/\Jb.1<(↑Jb.2.1.length:Int))/\ ∃(bx:List Int),Jb.2.1[0+Jb.1.toNat]?=some bx/\((0:Int)<=v10.1/\v10.1<(↑Jb.2.2.1.length:Int))/\ ∃(qh:List Int),Jb.2.2.1[0+v10.1.toNat]?=some qh/\ ∃(wA:(List Int×PUnit)×PUnit),Vd.fn (bx,qh,())=some wA/\ ∃(RO:ByteArray),Gb.fn (List.take wA.1.1.length (List.drop 0 wA.1.1),())=some RO/\Br (!(Jb.2.2.2.2.1 RO).getD false) (Br ((↑Jb.2.2.1.length:Int)==(3000:Int)) (P ((List.take 0 (List.drop 0 []),List.take 0 (List.drop 0 []),false,()),())) (0=0/\Jb.2.2.1.length=Jb.2.2.1.length/\Jb.2.2.1.length+(List.take 1 (List.drop 0 [List.take wA.1.1.length (List.drop 0 wA.1.1)])).length<=Bh/\((0:Int)<=v10.1/\v10.1<(↑Jb.2.2.2.1.length:Int))/\ ∃(KX:Int),Jb.2.2.2.1[0+v10.1.toNat]?=some KX/\0=0/\Jb.2.2.2.1.length=Jb.2.2.2.1.length/\Jb.2.2.2.1.length+(List.take 1 (List.drop 0 [IntKind.i64.wrap (KX+(1:Int))])).length<=Bh/\0=0/\(Jb.2.2.1++List.take 1 (List.drop 0 [List.take wA.1.1.length (List.drop 0 wA.1.1)])).length=(Jb.2.2.1++List.take 1 (List.drop 0 [List.take wA.1.1.length (List.drop 0 wA.1.1)])).length/\0=0/\(Jb.2.2.2.1++List.take 1 (List.drop 0 [IntKind.i64.wrap (KX+(1:Int))])).length=(Jb.2.2.2.1++List.take 1 (List.drop 0 [IntKind.i64.wrap (KX+(1:Int))])).length/\0=0/\Jb.2.1.length=Jb.2.1.length/\0=0/\Jb.2.1.length=Jb.2.1.length/\k13 (IntKind.i64.wrap (Jb.1+(1:Int)),Jb.2.1,Jb.2.2.1++List.take 1 (List.drop 0 [List.take wA.1.1.length (List.drop 0 wA.1.1)]),Jb.2.2.2.1++List.take 1 (List.drop 0 [IntKind.i64.wrap (KX+(1:Int))]),dQ Jb.2.2.2.2.1 RO true,()))) (0=0/\Jb.2.2.1.length=Jb.2.2.1.length/\0=0/\Jb.2.2.2.1.length=Jb.2.2.2.1.length/\0=0/\Jb.2.1.length=Jb.2.1.length/\0=0/\Jb.2.1.length=Jb.2.1.length/\k13 (IntKind.i64.wrap (Jb.1+(1:Int)),Jb.2.1,Jb.2.2.1,Jb.2.2.2.1,Jb.2.2.2.2.1,()))) (0=0/\Jb.2.2.1.length=Jb.2.2.1.length/\0=0/\Jb.2.2.2.1.length=Jb.2.2.2.1.length/\0=0/\Jb.2.1.length=Jb.2.1.length/\k11 (IntKind.i64.wrap (v10.1+(1:Int)),Jb.2.1,Jb.2.2.1,Jb.2.2.2.1,Jb.2.2.2.2.1,()))) ((0:Int),v10.2.1,v10.2.2.1,v10.2.2.2.1,v10.2.2.2.2.1,PUnit.unit)) (P ((List.take v10.2.2.1.length (List.drop 0 v10.2.2.1),List.take v10.2.2.2.1.length (List.drop 0 v10.2.2.2.1),true,()),()))) ((0:Int),v8.2.2.2.2.1,v8.2.2.2.2.2.1,v8.2.2.2.2.2.2.1,v8.2.2.2.2.2.2.2.1,PUnit.unit))) ((0:Int),n,str,g,[],[List.take y5.1.1.length (List.drop 0 y5.1.1)],[(0:Int)],dQ (λ(_:ByteArray)=>none) y6 true,PUnit.unit))=fnMW (DU [Tf+10]) (look [(138,Wm),(79,Gb),(106,Vc),(122,Rk),(80,Vd)]) Ro Tryz.f152 (n,str,g,t,()) P:=by kernel_rfl
theorem EJ (n:Int) (str:ByteArray) (g:List (List Int)) (t:List Int) (P:((List (List Int)×List Int×Bool×Unit)×Unit)->Prop):(∃(y5:Bool),Es.fn ((n,str,g,()),t,())=some y5/\Br (!y5) (P ((List.take 0 (List.drop 0 []),List.take 0 (List.drop 0 []),false,()),())) (∃(y6:(List (List Int)×List Int×Bool×PUnit)×PUnit),Ro.fn (n,str,g,t,())=some y6/\P ((List.take y6.1.1.length (List.drop 0 y6.1.1),List.take y6.1.2.1.length (List.drop 0 y6.1.2.1),y6.1.2.2.1,()),())))=fnMW Oe (look [(151,Es),(152,Ro)]) Rq Tryz.f137 (n,str,g,t,()) P:=by kernel_rfl
theorem zj (n:Int) (str:ByteArray) (g:List (List Int)) (t:List Int) (P:((List Int×List (List Int)×List Int×Bool×Unit)×Unit)->Prop):(∃(y5:(List (List Int)×List Int×Bool×PUnit)×PUnit),Rq.fn (n,str,g,t,())=some y5/\Br (!y5.1.2.2.1) (P ((List.take 0 (List.drop 0 []),List.take 0 (List.drop 0 []),List.take 0 (List.drop 0 []),false,()),())) (∃(y6:(List Int×PUnit)×PUnit),Wm.fn (t,())=some y6/\P ((List.take y6.1.1.length (List.drop 0 y6.1.1),List.take y5.1.1.length (List.drop 0 y5.1.1),List.take y5.1.2.1.length (List.drop 0 y5.1.2.1),true,()),())))=fnMW Oe (look [(137,Rq),(138,Wm)]) Ot Tryz.f113 (n,str,g,t,()) P:=by kernel_rfl
theorem we (p:Int×ByteArray×List (List Int)×Unit) (t:List Int×List (List Int)×List Int×Unit) (P:Bool->Prop):(∃(y3:(List Int×List (List Int)×List Int×Bool×PUnit)×PUnit),Ot.fn (p.1,p.2.1,p.2.2.1,t.1,())=some y3/\Br y3.1.2.2.2.1 (∃(y4:Bool),En.fn ((List.take y3.1.1.length (List.drop 0 y3.1.1),List.take y3.1.2.1.length (List.drop 0 y3.1.2.1),List.take y3.1.2.2.1.length (List.drop 0 y3.1.2.2.1),()),(t.1,t.2.1,t.2.2.1,()),())=some y4/\P y4) (P false))=fnW Ck (look [(113,Ot),(114,En)]) Kr Tryz.f87 (p,t,()) P:=by kernel_rfl
theorem wm (p:Int×ByteArray×List (List Int)×Unit) (t:List Int×List (List Int)×List Int×Unit) (P:Bool->Prop):(∃(y3:(List Int×List (List Int)×List Int×PUnit)×Bool×PUnit),Ox.fn ((p.1,p.2.1,p.2.2.1,()),t.1,())=some y3/\Br y3.2.1 (∃(y4:Bool),En.fn ((y3.1.1,y3.1.2.1,y3.1.2.2.1,()),(t.1,t.2.1,t.2.2.1,()),())=some y4/\P y4) (P false))=fnW Ck (look [(125,Ox),(126,En)]) Kr Tryz.f94 (p,t,()) P:=by kernel_rfl
theorem Af0 (t:List Int×List (List Int)×List Int×Unit) (p:Int×ByteArray×List (List Int)×Unit) (P:Bool->Prop):(∃(y3:Bool),Kr.fn (p,(t.1,t.2.1,t.2.2.1,()),())=some y3/\P !y3)=fnW Ck (look [(87,Kr)]) tj Tryz.f86 (t,p,()) P:=by kernel_rfl
theorem Aat (ts:List (List Int×List (List Int)×List Int×Unit)) (c:(Int×ByteArray×List (List Int)×Unit)×Unit) (P:Int->Prop):(Bk (λ(v3:Int×PUnit) (k4:Int×PUnit->Prop)=>Br (decide (v3.1<(↑ts.length:Int))) (∃(y5:List Int×List (List Int)×List Int×PUnit),idx ts v3.1=some y5/\ ∃(y6:Bool),tj.fn (y5,c.1,())=some y6/\Br y6 (P v3.1) (k4 (IntKind.i64.wrap (v3.1+(1:Int)),()))) (P (-1:Int))) ((0:Int),PUnit.unit))=fnW Ck (look [(86,tj)]) kK Tryz.f112 (ts,c,()) P:=by kernel_rfl
theorem Aap (ts:List (List Int×List (List Int)×List Int×Unit)) (c:(Int×ByteArray×List (List Int)×Unit)×Unit) (P:Bool->Prop):(∃(y3:Int),kK.fn (ts,c,())=some y3/\P (decide (y3>=(0:Int))))=fnW Ck (look [(112,kK)]) kH Tryz.f85 (ts,c,()) P:=by kernel_rfl
theorem q8 (p:Int×ByteArray×List (List Int)×Unit) (ts:List (List Int×List (List Int)×List Int×Unit)) (P:Bool->Prop):(∃(y3:Bool),Ea.fn ((p.1,p.2.1,p.2.2.1,()),())=some y3/\Br y3 (Br (decide ((↑ts.length:Int)<=(4:Int))) (∃(y4:Bool),kH.fn (ts,((p.1,p.2.1,p.2.2.1,()),()),())=some y4/\P !y4) (P false)) (P false))=fnW Ck (look [(84,Ea),(85,kH)]) Gv Tryz.f63 (p,ts,()) P:=by kernel_rfl
abbrev bX:Type:=Int×Int×ByteArray×List (List Int)×PUnit
theorem q9 (p:Int×ByteArray×List (List Int)×Unit) (ts:List (List Int×List (List Int)×List Int×Unit)) (P:Bool->Prop):(∃(y3:Bool),Ea.fn ((p.1,p.2.1,p.2.2.1,()),())=some y3/\Br (!y3) (P false) (Br (decide ((↑ts.length:Int)>(4:Int))) (P false) (Bk (λ(v4:bX) (k5:bX->Prop)=>Br (decide (v4.1<(↑ts.length:Int))) (∃(y6:List Int×List (List Int)×List Int×PUnit),idx ts v4.1=some y6/\ ∃(y7:Bool),Kr.fn ((v4.2.1,v4.2.2.1,v4.2.2.2.1,()),y6,())=some y7/\Br (!y7) (P false) (k5 (IntKind.i64.wrap (v4.1+(1:Int)),v4.2.1,v4.2.2.1,v4.2.2.2.1,()))) (P true)) ((0:Int),p.1,p.2.1,p.2.2.1,PUnit.unit))))=fnW Ck (look [(93,Ea),(94,Kr)]) Gv Tryz.f72 (p,ts,()) P:=by kernel_rfl
theorem Aaz (ts:List (List Int×List (List Int)×List Int×Unit)) (k:Int) (P:Int->Prop):(Br (decide (IntKind.i64.wrap (k-(↑ts.length:Int))<(0:Int))) (P (-1:Int)) (Bk (λ(v3:Int×Int×PUnit) (k4:Int×Int×PUnit->Prop)=>Br (decide (v3.2.1<(↑ts.length:Int))) (∃(y5:List Int×List (List Int)×List Int×PUnit),idx ts v3.2.1=some y5/\ ∃(y6:Int),Vh.fn (y5,v3.1,())=some y6/\Br (decide (y6<(0:Int))) (P (-1:Int)) (k4 (y6,IntKind.i64.wrap (v3.2.1+(1:Int)),()))) (P v3.1)) (IntKind.i64.wrap (k-(↑ts.length:Int)),(0:Int),PUnit.unit)))=fnW Ck (look [(46,Vh)]) kN Tryz.f14 (ts,k,()) P:=by kernel_rfl
abbrev GN:Type:=Int×List (List Int×List (List Int)×List Int×PUnit)×PUnit
abbrev GO:Type:=List Int×List (List Int)×List Int×PUnit
theorem Ab2 (ts:List (List Int×List (List Int)×List Int×Unit)) (P:List (List Int×List (List Int)×List Int×Unit)->Prop):(((0:Int)<=(↑ts.length:Int)/\(↑ts.length:Int)<(↑Bh:Int)+(1:Int))/\(↑ts.length:Int)=(↑ts.length:Int)/\0=0/\(List.replicate (↑ts.length:Int).toNat (([]:List Int),([]:List (List Int)),([]:List Int),())).length=(List.replicate (↑ts.length:Int).toNat (([]:List Int),([]:List (List Int)),([]:List Int),())).length/\Bk (λ(v2:GN) (k3:GN->Prop)=>Br (decide (v2.1<(↑ts.length:Int))) (∃(y4:GO),idx ts v2.1=some y4/\ ∃(y5:GO),Vi.fn (y4,())=some y5/\((0:Int)<=v2.1/\v2.1<(↑v2.2.1.length:Int))/\0+v2.1.toNat<v2.2.1.length/\0=0/\v2.2.1.length=(v2.2.1.set (0+v2.1.toNat) y5).length/\k3 (IntKind.i64.wrap (v2.1+(1:Int)),v2.2.1.set (0+v2.1.toNat) y5,())) (P (List.take v2.2.1.length (List.drop 0 v2.2.1)))) ((0:Int),List.replicate (↑ts.length:Int).toNat (([]:List Int),([]:List (List Int)),([]:List Int),()),PUnit.unit))=fnW Ck (look [(50,Vi)]) pb Tryz.f17 (ts,()) P:=by kernel_rfl
abbrev GL:Type:=List Int×List (List Int)×List Int×PUnit
theorem Aar (a b:List (List Int×List (List Int)×List Int×Unit)) (P:Bool->Prop):(Br ((↑a.length:Int) !=(↑b.length:Int)) (P false) (Bk (λ(v3:Int×PUnit) (k4:Int×PUnit->Prop)=>Br (decide (v3.1<(↑a.length:Int))) (∃(y5:GL),idx a v3.1=some y5/\ ∃(y6:GL),idx b v3.1=some y6/\ ∃(y7:Bool),En.fn (y5,y6,())=some y7/\Br (!y7) (P false) (k4 (IntKind.i64.wrap (v3.1+(1:Int)),()))) (P true)) ((0:Int),PUnit.unit)))=fnW Ck (look [(54,En)]) kI Tryz.f21 (a,b,()) P:=by kernel_rfl
theorem nF {p:PP} (hV:Valid p) {m:Nat} {x:List Int} {d:Int} (hx: ∀y∈x,0<=y/\y<p.1) (ZH:x.length=m): ∀(ls:List Int) (L:List (List Int)) (D:List Int),(∀l∈ls,Is (List.length p.2.2.1) l)->
  Tt p m L D->(0<=d/\d<L.length)->Tt p m (Hq p.2.2.1 x d ls L D).1 (Hq p.2.2.1 x d ls L D).2.1/\(∃A,(Hq p.2.2.1 x d ls L D).1=L++A)/\(∃A,(Hq p.2.2.1 x d ls L D).2.1=D++A)
 | [],L,D,_,h,_=>⟨h,⟨[],by simp [Hq]⟩,⟨[],by simp [Hq]⟩⟩
 |l::ls,L,D,hl,h,hd=>by
  obtain ⟨n1,n2⟩:=uL hV hx (hl l (by simp))
  have Ge: ∀l∈ls,Is (List.length p.2.2.1) l:= λl' h'=>hl l' (List.mem_cons_of_mem _ h')
  simp only [Hq]
  split
  ·exact nF hV hx ZH ls L D Ge h hd
  ·rename_i hn
   split
   ·exact ⟨h,⟨[],by simp⟩,⟨[],by simp⟩⟩
   ·rename_i hf
    have qv:=h.ok.u5
    obtain ⟨k1,⟨A,k2⟩,⟨A',k3⟩⟩:=nF hV hx ZH ls (L++ [Aa x (Ao p.2.2.1 l)]) (D++ [d+1]) Ge (h.add hn (by rw [n1,ZH]) (by omega) n2 ⟨by omega,by omega⟩) ⟨hd.1,by rw [List.length_append];omega⟩
    exact ⟨k1,⟨_::A,by rw [k2,List.append_assoc];rfl⟩,⟨_::A',by rw [k3,List.append_assoc];rfl⟩⟩
theorem wS {p:PP} (hV:Valid p) {m:Nat} {ls:List Int} (hl: ∀l∈ls,Is (List.length p.2.2.1) l): ∀(f k:Nat) (L:List (List Int)) (D:List Int),Tt p m L D->
  Tt p m (Lk p.2.2.1 ls f k L D).1 (Lk p.2.2.1 ls f k L D).2.1/\(∃A,(Lk p.2.2.1 ls f k L D).1=L++A)
 |0,k,L,D,h=>⟨h,⟨[],by simp [Lk]⟩⟩
 |f+1,k,L,D,h=>by
  simp only [Lk]
  split
  ·rename_i hk
   have RE:k<D.length:=by rw [h.len];exact hk
   have hd:=h.dep k RE
   have e:D.getD k 0=D[k]:=by rw [List.getD_eq_getElem?_getD,List.getElem?_eq_getElem RE];rfl
   rw [So hk,e]
   obtain ⟨k1,⟨A,k2⟩,_⟩:=nF hV (h.row _ (List.getElem_mem hk)) (h.ok.len _ (List.getElem_mem hk)) (d:=D[k]) ls L D hl h ⟨by omega,by omega⟩
   split
   ·rename_i L' D' he
    rw [he] at k1 k2
    obtain ⟨g1,⟨B,g2⟩⟩:=wS hV hl f (k+1) L' D' k1
    have k2:L'=L++A:=k2
    exact ⟨g1,⟨A++B,by rw [g2,k2,List.append_assoc]⟩⟩
   ·rename_i L' D' he
    rw [he] at k1 k2
    exact ⟨k1,⟨A,k2⟩⟩
  ·exact ⟨h,⟨[],by simp⟩⟩
theorem zR {p:PP} {s:List Int} (hv:Bw p=true) (hs:s.length<=20) (hr: ∀y∈s,0<=y/\y<p.1):Tt p s.length (Gi p.2.2.1 s).1 (Gi p.2.2.1 s).2.1/\ ∃A,(Gi p.2.2.1 s).1=s::A:=
 wS (valid hv) (λ_ hl=>Xr hl) _ _ _ _ (jQ hs hr)
theorem Ly {p:PP} {t:List Int} :Cx p t=true↔Bw p=true/\Sw p.1 t=true:=by
 unfold Cx;rw [Bool.and_eq_true]
theorem Ey {p:PP} {t:List Int} (h:Cx p t=true):t.length<=20/\ ∀y∈t,0<=y/\y<p.1:=by
 obtain ⟨h1,h2⟩:=Ly.1 h
 have hn:=(valid h1).n
 obtain ⟨h3,h4⟩:=Eh.1 h2
 have hy: ∀y∈t,0<=y/\y<p.1:= λy hy=>by
  obtain ⟨j,hj,rfl⟩:=List.mem_iff_getElem.1 hy
  have:=h4 j hj hj
  omega
 refine ⟨?_,hy⟩
 have h5:=CO h4 (t.length-1) (by omega)
 have h6:=hy _ (List.getElem_mem (show t.length-1<t.length by omega))
 omega
theorem uX {p:PP} {t:List Int} (h:Cx p t=true):Tt p t.length (Gi p.2.2.1 t).1 (Gi p.2.2.1 t).2.1:=(zR (Ly.1 h).1 (Ey h).1 (Ey h).2).1
theorem Zw {p:PP} {t:List Int} :De p t=true↔Cx p t=true/\(Gi p.2.2.1 t).2.2=true:=by
 unfold De;rw [Bool.and_eq_true]
theorem rZ {p:PP} {m:Nat} {L:List (List Int)} {D:List Int} (h:Tt p m L D):Dl L/\short D:=by
 have h1:=h.ok.u5
 have h2:=h.ok.short
 have h3:=h.len
 refine ⟨⟨by omega,λx hx=>?_⟩,by unfold short;omega⟩
 have:=h.ok.len x hx
 unfold short;omega
theorem lg {p:PP} {t:List Int} :Iz (Dx p t):=by
 unfold Dx
 split
 ·rename_i h
  have h1:=(Zw.1 h).1
  have h2:=rZ (uX h1)
  have h3:=(Ey h1).1
  exact ⟨show t.length<=4294967296 by omega,h2.1,h2.2⟩
 ·exact ⟨by simp [short],⟨by simp,λr hr=>by cases hr⟩,by simp [short]⟩
theorem qR (p:PP) (t:List Int) (h:Cb p/\short t):fnW Ck (look [(84,Ea),(159,Ft)]) Es Tryz.f151 (p,t,()) (λ(z:Bool)=>z=Cx p t):=by
 refine Eq.mp (rP p t _) ⟨_,if_pos h.1,⟨λhv=>?_,λhv=>?_⟩⟩
 ·have hv:Bw p=true:=hv
  have hn:=(valid hv).n
  refine ⟨_,if_pos ⟨⟨by show 0<=p.1;omega,by show p.1<=4294967296;omega⟩,h.2⟩,?_⟩
  unfold Cx;rw [hv];rfl
 ·have hv:Bw p=false:=hv
  unfold Cx;rw [hv];rfl
theorem jn:Sound Tryz.prog 151 Es:=
 Sound.Cu Bj (Ae Rt (Ae mD Ai)) mixed Tryz.func151 (by kernel_rfl) (by kernel_rfl) λx h=>qR x.1 x.2.1 h
theorem qY (p:PP) (t:List Int) (h:Cb p/\short t):fnW Ck (look [(93,Ea),(160,Ft)]) Es Tryz.f155 (p,t,()) (λ(z:Bool)=>z=Cx p t):=by
 refine Eq.mp (rV p t _) ⟨_,if_pos h.1,⟨λhv=>?_,λhv=>?_⟩⟩
 ·have hv:Bw p=true:=hv
  have hn:=(valid hv).n
  refine ⟨_,if_pos ⟨⟨by show 0<=p.1;omega,by show p.1<=4294967296;omega⟩,h.2⟩,?_⟩
  unfold Cx;rw [hv];rfl
 ·have hv:Bw p=false:=hv
  unfold Cx;rw [hv];rfl
theorem jt:Sound Tryz.prog 155 Es:=
 Sound.Cu Bj (Ae Ru (Ae jo Ai)) mixed Tryz.func155 (by kernel_rfl) (by kernel_rfl) λx h=>qY x.1 x.2.1 h
theorem yA (p:PP) (t:List Int) (h:Cb p/\short t):fnW Ck (look [(155,Es),(131,eD)]) Ow Tryz.f142 (p,t,()) (λ(z:SS×Bool×Unit)=>z=(Jz p t,De p t,())):=by
 refine Eq.mp (zp p t _) ⟨_,if_pos h,⟨λhn=>?_,λhn=>?_⟩⟩
 ·have hn:=Cl hn
  have e:De p t=false:=Bool.eq_false_iff.2 λhh=>hn (Zw.1 hh).1
  unfold Jz
  rw [if_neg hn,e]
  rfl
 ·have hn:Cx p t=true:=Dj hn
  have e:De p t=(Gi p.2.2.1 t).2.2:=by unfold De;rw [hn,Bool.true_and]
  refine ⟨_,if_pos ⟨(Ly.1 hn).1,(Ey hn).1,(Ey hn).2⟩,?_⟩
  have key:(((Lt p.2.2.1 t).1,(Lt p.2.2.1 t).2.1,(Lt p.2.2.1 t).2.2.1,(Lt p.2.2.1 t).2.2.2.1,()),(Lt p.2.2.1 t).2.2.2.1,())=(Jz p t,De p t,()):=by
   unfold Jz
   rw [if_pos hn,e]
   rfl
  exact ⟨⟨⟨key,key⟩,key⟩,⟨key,key⟩,key⟩
theorem mH:Sound Tryz.prog 142 Ow:=
 Sound.Cu Bj (Ae jt (Ae yS Ai)) mixed Tryz.func142 (by kernel_rfl) (by kernel_rfl) λx h=>yA x.1 x.2.1 h
theorem yp (l:List (List Int)) (h:Dl l):fnW Ck (look [(116,Fh)]) Lx Tryz.f143 (l,()) (λ(z:List (List Int))=>z=l):=by
 obtain ⟨h1,h2⟩:=h
 refine Eq.mp (zg l _) ⟨rfl,rfl,?_⟩
 refine Ag l.length (λv=>v.1) (λj v=>v.2.1=l.take j) rfl (by simp) ?_
 rintro j ⟨i,ys,⟨⟩⟩ K hj hi hR hK
 dsimp only at hi hR⊢
 subst hi hR
 refine Br.dec (λhl=>?_) λhl=>?_
 ·have hl:j<l.length:=by omega
  refine ⟨_,Ap hl,_,if_pos (h2 _ (List.getElem_mem hl)),rfl,rfl,?_,rfl,rfl,?_⟩
  ·show (List.take j l).length+1<=4294967296
   rw [List.length_take];omega
  ·rw [Ah (by omega)]
   refine hK hl _ rfl ?_
   show List.take j l++ [l[j]]=_
   rw [List.take_add_one,List.getElem?_eq_getElem hl];rfl
 ·have:j=l.length:=by omega
  subst this
  rw [Ay,List.take_length]
theorem my:Sound Tryz.prog 143 Lx:=
 Sound.Cu Bj (Ae Py Ai) mixed Tryz.func143 (by kernel_rfl) (by kernel_rfl) λx h=>yp x.1 h
theorem yB (p:PP) (t:List Int) (h:Cb p/\short t):fnW Ck (look [(142,Ow),(116,Fh),(143,Lx)]) Ox Tryz.f125 (p,t,()) (λ(z:TT×Bool×Unit)=>z=(Dx p t,De p t,())):=by
 refine Eq.mp (zq p t _) ⟨_,if_pos h,⟨λhn=>?_,λhn=>?_⟩⟩
 ·have hn:=Cl hn
  have hn: ¬De p t=true:=hn
  unfold Dx
  rw [if_neg hn,Bool.eq_false_iff.2 hn]
  rfl
 ·have hn:De p t=true:=Dj hn
  obtain ⟨h1,h2⟩:=Zw.1 hn
  have h3:=rZ (uX h1)
  have e:Jz p t=Lt p.2.2.1 t:=if_pos h1
  refine ⟨_,if_pos h.2,?_⟩
  show ∃y5:List (List Int),Lx.fn ((Jz p t).1,())=some y5/\ ∃y6:List Int,Fh.fn ((Jz p t).2.1,())=some y6/\((t,y5,y6,()),true,())=(Dx p t,De p t,())
  rw [e]
  refine ⟨_,if_pos h3.1,_,if_pos h3.2,?_⟩
  unfold Dx
  rw [if_pos hn,hn]
  rfl
theorem mI:Sound Tryz.prog 125 Ox:=
 Sound.Cu Bj (Ae mH (Ae Py (Ae my Ai))) mixed Tryz.func125 (by kernel_rfl) (by kernel_rfl) λx h=>yB x.1 x.2.1 h
def jK (m:ByteArray->Option Bool) (L:List (List Int)):Prop:= ∀q,bE q->(m (Qh q)).getD false=decide (q∈L)
theorem jK.add {m:ByteArray->Option Bool} {L:List (List Int)} {y:List Int} (h:jK m L) (hy:bE y):jK (dQ m (Qh y) true) (L++ [y]):=by
 intro q hq
 unfold dQ
 by_cases e:q=y
 ·subst e
  rw [if_pos rfl];simp
 ·rw [if_neg λhk=>e (key_inj hq hy hk),h q hq]
  simp [e]
theorem CH (n:Int) (str:ByteArray) (g:List (List Int)) (t:List Int) (h:Cx (n,str,g,()) t=true):
  fnMW (DU [Tf+10]) (look [(138,Wm),(79,Gb),(106,Vc),(122,Rk),(80,Vd)]) Ro Tryz.f152 (n,str,g,t,()) (λ(z:(List (List Int)×List Int×Bool×Unit)×Unit)=>z=(((Dx (n,str,g,()) t).2.1,(Dx (n,str,g,()) t).2.2.1,De (n,str,g,()) t,()),())):=by
 obtain ⟨hv,_⟩:=Ly.1 h
 obtain ⟨ht,hr⟩:=Ey h
 have hV:=valid hv
 have qv:=hV.u5
 have hn:=hV.n
 dsimp only at qv hn hr
 have XR:=jQ (p:=(n,str,g,())) ht hr
 have zF:short t:=by unfold short;omega
 obtain ⟨ls,wv⟩: ∃ls,Cm g.length=ls:=⟨_,rfl⟩
 have RI:ls.length<=16:=by rw [<-wv,Sd];omega
 have mh: ∀l∈ls,Is (List.length g) l:= λl hl=>Xr (wv▸hl)
 have AW:Lk g ls 3001 0 [t] [0]=Gi g t:=by unfold Gi;rw [wv]
 have VD: ∀x:List Int,(∀y∈x,0<=y/\y<n)->bE x:= λx hx y hy=>by have:=hx y hy;omega
 have Ach: ∀L D ok,Gi g t=(L,D,ok)->(if ok=true then ((L,D,true,()),()) else ((([]:List (List Int)),([]:List Int),false,()),()))=(((Dx (n,str,g,()) t).2.1,(Dx (n,str,g,()) t).2.2.1,De (n,str,g,()) t,()),()):=by
  intro L D ok he
  have e1:De (n,str,g,()) t=ok:=by unfold De;rw [h,Bool.true_and];show (Gi g t).2.2=ok;rw [he]
  unfold Dx
  rw [e1]
  cases ok with
  |true=>rw [if_pos rfl,if_pos rfl];show ((L,D,true,()),())=(((Gi g t).1,(Gi g t).2.1,true,()),());rw [he]
  |false=>rw [if_neg (by decide),if_neg (by decide)]
 refine Eq.mp (EH n str g t _) ⟨_,if_pos zF,_,if_pos zF,ls,(if_pos ⟨by show (0:Int)<=((g.length:Nat):Int);omega,by show ((g.length:Nat):Int)<=8;omega⟩).trans (congrArg some (by show Cm (((g.length:Nat):Int)).toNat=ls;rw [Int.toNat_natCast];exact wv)),rfl,rfl,rfl,rfl,rfl,rfl,?_⟩
 rw [Ay]
 refine Ag ls.length (λv=>v.1) (λj v=>v.2.1=n/\v.2.2.1=str/\v.2.2.2.1=g/\v.2.2.2.2.1=(ls.take j).map (Ao g)/\v.2.2.2.2.2.1= [t]/\v.2.2.2.2.2.2.1= [0]/\jK v.2.2.2.2.2.2.2.1 [t]) rfl
  ⟨rfl,rfl,rfl,by simp,rfl,rfl,λq hq=>?_⟩ ?_
 ·show (dQ (λ_=>none) (Qh t) true (Qh q)).getD false=_
  unfold dQ
  by_cases e:q=t
  ·subst e;rw [if_pos rfl];simp
  ·rw [if_neg λhk=>e (key_inj hq (VD t hr) hk)];simp [e]
 rintro j ⟨i,n',Aeh,g',mv,L1,D1,m1,⟨⟩⟩ K hj hi ⟨h1,h2,h3,h4,h5,h6,h7⟩ hK
 dsimp only at hi h1 h2 h3 h4 h5 h6 h7⊢
 subst hi h1 h2 h3 h4 h5 h6
 refine Br.dec (λhl=>?_) λhl=>⟨rfl,rfl,rfl,rfl,rfl,rfl,?_⟩
 ·have hl:j<ls.length:=by omega
  have AP:=mh _ (List.getElem_mem hl)
  refine ⟨_,Ap hl,_,if_pos ⟨AP,qv.2,hV.perm⟩,rfl,rfl,?_,rfl,rfl,rfl,rfl,rfl,rfl,?_⟩
  ·show (List.map (Ao g') (List.take j ls)).length+1<=4294967296
   rw [List.length_map,List.length_take];omega
  ·rw [Ah (by omega)]
   refine hK hl _ rfl ⟨rfl,rfl,rfl,?_,rfl,rfl,h7⟩
   show List.map (Ao g') (List.take j ls)++ [Ao g' ls[j]]=_
   rw [List.take_add_one,List.getElem?_eq_getElem hl,List.map_append];rfl
 ·have:j=ls.length:=by omega
  subst this
  rw [List.take_length]
  obtain ⟨ms,FP⟩: ∃ms,ls.map (Ao g')=ms:=⟨_,rfl⟩
  have Ana:ms.length=ls.length:=by rw [<-FP,List.length_map]
  have Ai3: ∀i (h:i<ls.length),ms[i]'(by omega)=Ao g' ls[i]:= λi h=>by simp only [<-FP,List.getElem_map]
  rw [FP]
  refine Bk.mk (λv=>v.2.1=ms/\ ∃k:Nat,v.1=k/\k<=v.2.2.1.length/\Tt (n',Aeh,g',()) t.length v.2.2.1 v.2.2.2.1/\jK v.2.2.2.2.1 v.2.2.1/\Lk g' ls (3001-k) k v.2.2.1 v.2.2.2.1=Gi g' t) (λv=>3001-v.1.toNat)
   ⟨rfl,0,rfl,by simp,XR,h7,AW⟩ ?_
  rintro ⟨k',mv,L0,D0,mp,⟨⟩⟩ ⟨h1,k,h5,h6,h7,h8,h9⟩
  dsimp only at h1 h5 h6 h7 h8 h9
  subst h1 h5
  dsimp only
  have hL0:=h7.ok.u5
  have hD0:=h7.len
  refine Br.dec (λhl=>⟨rfl,rfl,rfl,rfl,rfl,rfl,rfl,rfl,?_⟩) λhl=>?_
  ·have hk:k<L0.length:=by omega
   have RE:k<D0.length:=by omega
   have hx: ∀y∈L0[k],0<=y/\y<n':=h7.row _ (List.getElem_mem hk)
   have ZH:L0[k].length=t.length:=h7.ok.len _ (List.getElem_mem hk)
   have hdk:=h7.dep k RE
   obtain ⟨f,hf⟩: ∃f,3001-k=f+1:=⟨3000-k,by omega⟩
   have VM: ∀L' D' ok,Hq g' L0[k] D0[k] ls L0 D0=(L',D',ok)->Gi g' t=if ok=true then Lk g' ls f (k+1) L' D' else (L',D',false):=by
    intro L' D' ok he
    rw [<-h9,hf,Lk,if_pos hk,So hk,List.getD_eq_getElem?_getD,List.getElem?_eq_getElem RE]
    simp only [Option.getD_some]
    rw [he]
    cases ok<;>rfl
   refine Bk.mk (λv=>v.2.1=mv/\ ∃i:Nat,v.1=i/\i<=ls.length/\Tt (n',Aeh,g',()) t.length v.2.2.1 v.2.2.2.1/\jK v.2.2.2.2.1 v.2.2.1/\(∃A,v.2.2.1=L0++A)/\(∃A,v.2.2.2.1=D0++A)/\
     Hq g' L0[k] D0[k] (ls.drop i) v.2.2.1 v.2.2.2.1=Hq g' L0[k] D0[k] ls L0 D0) (λv=>ls.length-v.1.toNat)
    ⟨rfl,0,rfl,Nat.zero_le _,h7,h8,⟨[],by simp⟩,⟨[],by simp⟩,rfl⟩ ?_
   rintro ⟨i',mv',L,D,mp2,⟨⟩⟩ ⟨g1,i,g5,g6,g7,g8,⟨A,g9⟩,⟨A',RY⟩,mc⟩
   dsimp only at g1 g5 g6 g7 g8 g9 RY mc
   subst g1 g5
   dsimp only
   have hLf:=g7.ok.u5
   have UX:=g7.len
   refine Br.dec (λhli=>?_) λhli=>?_
   ·have hi:i<ls.length:=by omega
    have YF:k<L.length:=by rw [g9,List.length_append];omega
    have hLk:L[k]=L0[k]:=by simp only [g9];exact List.getElem_append_left hk
    have YE:k<D.length:=by rw [UX];exact YF
    have hDk:D[k]=D0[k]:=by simp only [RY];exact List.getElem_append_left RE
    have AP:=mh _ (List.getElem_mem hi)
    obtain ⟨nl,nr⟩:=uL hV hx AP
    dsimp only at nl nr
    have HJ:=km hV AP
    dsimp only at HJ
    rw [List.drop_eq_getElem_cons hi] at mc
    simp only [Hq] at mc
    have hyb:=VD _ nr
    refine ⟨⟨by omega,by omega⟩,Ao g' ls[i],by rw [Int.toNat_natCast,Nat.zero_add,List.getElem?_eq_getElem (by omega),Ai3 i hi],⟨by omega,by omega⟩,L0[k],by rw [Int.toNat_natCast,Nat.zero_add,List.getElem?_eq_getElem YF,hLk],
     _,if_pos ⟨by show short L0[k];unfold short;omega,by show Hw (Ao g' ls[i]).length L0[k];intro y hy;have:=hx y hy;omega⟩,?_⟩
    dsimp only
    rw [show By (Ao g' ls[i]) L0[k]=Aa L0[k] (Ao g' ls[i]) from rfl,Ay]
    generalize hyv:Aa L0[k] (Ao g' ls[i])=yv at*
    refine ⟨_,if_pos (by show short yv;unfold short;rw [nl];omega),?_⟩
    dsimp only
    rw [g8 _ hyb]
    refine ⟨λcT=>?_,λcT=>⟨rfl,rfl,rfl,rfl,rfl,rfl,rfl,rfl,?_⟩⟩
    ·have cT:yv∉L:=by simpa using cT
     rw [if_neg cT] at mc
     refine ⟨λVz=>?_,λVz=>⟨rfl,rfl,by show L.length+1<=4294967296;omega,⟨by omega,by omega⟩,D0[k],by rw [Int.toNat_natCast,Nat.zero_add,List.getElem?_eq_getElem YE,hDk],rfl,rfl,by show D.length+1<=4294967296;omega,rfl,rfl,rfl,rfl,rfl,rfl,rfl,rfl,?_⟩⟩
     ·have Vz:L.length=3000:=by
       have:(L.length:Int)=3000:=by simpa using Vz
       omega
      rw [if_pos Vz] at mc
      have:=VM _ _ _ mc.symm
      rw [if_neg (by decide)] at this
      have:=Ach _ _ _ this
      rw [if_neg (by decide)] at this
      exact this
     ·have Vz:L.length≠3000:=by
       have:(L.length:Int)≠3000:=by simpa using Vz
       omega
      rw [if_neg Vz] at mc
      rw [Co (n:=D0[k]+1) (by omega) (by omega),Ah (by omega)]
      refine ⟨⟨rfl,i+1,rfl,hi,g7.add cT (by rw [nl,ZH]) (by omega) nr ⟨by omega,by omega⟩,g8.add hyb,⟨A++ [yv],by rw [g9,List.append_assoc];rfl⟩,⟨A'++ [D0[k]+1],by rw [RY,List.append_assoc];rfl⟩,mc⟩,by omega⟩
    ·have cT:yv∈L:=by simpa using cT
     rw [if_pos cT] at mc
     rw [Ah (by omega)]
     exact ⟨⟨rfl,i+1,rfl,hi,g7,g8,⟨A,g9⟩,⟨A',RY⟩,mc⟩,by omega⟩
   ·have:i=ls.length:=by omega
    subst this
    rw [List.drop_length,Hq] at mc
    have:=VM _ _ _ mc.symm
    rw [if_pos rfl] at this
    rw [Ah (by omega)]
    refine ⟨rfl,rfl,rfl,rfl,rfl,rfl,⟨rfl,k+1,rfl,by rw [g9,List.length_append];omega,g7,g8,?_⟩,by omega⟩
    rw [show 3001-(k+1)=f by omega]
    exact this.symm
  ·have hk:k=L0.length:=by omega
   rw [Ay L0,Ay D0]
   obtain ⟨f,hf⟩: ∃f,3001-k=f+1:=⟨3000-k,by omega⟩
   rw [hf,Lk,if_neg (by omega)] at h9
   have:=Ach _ _ _ h9.symm
   rw [if_pos rfl] at this
   exact this
theorem pB:Au Tryz.prog 152 Ro:=
 Au.Wx (DV [Tf+10]) (Cr jk (Ae Wq (Ae rk (Ae pz (Cr rn Ai))))) mixed Tryz.func152 (by kernel_rfl) (by kernel_rfl) λx h=>CH x.1 x.2.1 x.2.2.1 x.2.2.2.1 h
theorem nH {p:PP} {t:List Int} (h: ¬De p t=true):Dx p t=([],[],[],()):=if_neg h
theorem CJ (n:Int) (str:ByteArray) (g:List (List Int)) (t:List Int) (h:Cb (n,str,g,())/\short t):
  fnMW Oe (look [(151,Es),(152,Ro)]) Rq Tryz.f137 (n,str,g,t,()) (λ(z:(List (List Int)×List Int×Bool×Unit)×Unit)=>z=(((Dx (n,str,g,()) t).2.1,(Dx (n,str,g,()) t).2.2.1,De (n,str,g,()) t,()),())):=by
 refine Eq.mp (EJ n str g t _) ⟨_,if_pos h,⟨λhn=>?_,λhn=>?_⟩⟩
 ·have hn: ¬Cx (n,str,g,()) t=true:=Cl hn
  have e: ¬De (n,str,g,()) t=true:= λhh=>hn (Zw.1 hh).1
  rw [nH e,Bool.eq_false_iff.2 e]
  rfl
 ·have hn:Cx (n,str,g,()) t=true:=Dj hn
  refine ⟨_,if_pos hn,?_⟩
  rw [Ay,Ay]
theorem pD:Au Tryz.prog 137 Rq:=
 Au.Wx Nc (Ae jn (Cr pB Ai)) mixed Tryz.func137 (by kernel_rfl) (by kernel_rfl) λx h=>CJ x.1 x.2.1 x.2.2.1 x.2.2.2.1 h
theorem yt (n:Int) (str:ByteArray) (g:List (List Int)) (t:List Int) (h:Cb (n,str,g,())/\short t):
  fnMW Oe (look [(137,Rq),(138,Wm)]) Ot Tryz.f113 (n,str,g,t,()) (λ(z:(List Int×List (List Int)×List Int×Bool×Unit)×Unit)=>z=(((Dx (n,str,g,()) t).1,(Dx (n,str,g,()) t).2.1,(Dx (n,str,g,()) t).2.2.1,De (n,str,g,()) t,()),())):=by
 refine Eq.mp (zj n str g t _) ⟨_,if_pos h,⟨λhn=>?_,λhn=>?_⟩⟩
 ·have e: ¬De (n,str,g,()) t=true:=Cl hn
  rw [nH e,Bool.eq_false_iff.2 e]
  rfl
 ·have e:De (n,str,g,()) t=true:=Dj hn
  refine ⟨_,if_pos h.2,?_⟩
  rw [Ay,Ay,Ay,e]
  have e2:(Dx (n,str,g,()) t).1=t:=by unfold Dx;rw [if_pos e]
  rw [e2]
theorem mB:Au Tryz.prog 113 Ot:=
 Au.Wx Nc (Cr pD (Cr jk Ai)) mixed Tryz.func113 (by kernel_rfl) (by kernel_rfl) λx h=>yt x.1 x.2.1 x.2.2.1 x.2.2.2.1 h
theorem uR (p:PP) (t:TT) (h:Cb p/\Iz t):fnW Ck (look [(113,Ot),(114,En)]) Kr Tryz.f87 (p,t,()) (λ(z:Bool)=>z=Di p t):=by
 refine Eq.mp (we p t _) ⟨_,if_pos ⟨h.1,h.2.1⟩,⟨λhn=>?_,λhn=>?_⟩⟩
 ·have e:De p t.1=true:=hn
  rw [Ay,Ay,Ay]
  refine ⟨_,if_pos lg,?_⟩
  unfold Di
  rw [e];rfl
 ·have e:De p t.1=false:=hn
  unfold Di
  rw [e];rfl
theorem kV:Sound Tryz.prog 87 Kr:=
 Sound.Cu Bj (Cr mB (Ae eU Ai)) mixed Tryz.func87 (by kernel_rfl) (by kernel_rfl) λx h=>uR x.1 x.2.1 h
theorem uW (p:PP) (t:TT) (h:Cb p/\Iz t):fnW Ck (look [(125,Ox),(126,En)]) Kr Tryz.f94 (p,t,()) (λ(z:Bool)=>z=Di p t):=by
 refine Eq.mp (wm p t _) ⟨_,if_pos ⟨h.1,h.2.1⟩,⟨λhn=>?_,λhn=>?_⟩⟩
 ·have e:De p t.1=true:=hn
  refine ⟨_,if_pos lg,?_⟩
  unfold Di
  rw [e];rfl
 ·have e:De p t.1=false:=hn
  unfold Di
  rw [e];rfl
theorem kX:Sound Tryz.prog 94 Kr:=
 Sound.Cu Bj (Ae mI (Ae eX Ai)) mixed Tryz.func94 (by kernel_rfl) (by kernel_rfl) λx h=>uW x.1 x.2.1 h
theorem Aec (t:TT) (p:PP) (h:Iz t/\Cb p):fnW Ck (look [(87,Kr)]) tj Tryz.f86 (t,p,()) (λ(z:Bool)=>z=!Di p t):=by
 exact Eq.mp (Af0 t p _) ⟨_,if_pos ⟨h.2,h.1⟩,rfl⟩
theorem JV:Sound Tryz.prog 86 tj:=
 Sound.Cu Bj (Ae kV Ai) mixed Tryz.func86 (by kernel_rfl) (by kernel_rfl) λx h=>Aec x.1 x.2.1 h
theorem Aa4 (ts:List TT) (c:PP×Unit) (h:Dq ts/\Cb c.1):fnW Ck (look [(86,tj)]) kK Tryz.f112 (ts,c,()) (λ(z:Int)=>z=Lr (λt=>!Di c.1 t) ts 0):=by
 obtain ⟨⟨h1,h2⟩,h3⟩:=h
 refine Eq.mp (Aat ts c _) ?_
 refine Ag ts.length (λv=>v.1) (λj _=>Lr (λt=>!Di c.1 t) (ts.drop j) j=Lr (λt=>!Di c.1 t) ts 0) rfl (by simp) ?_
 rintro j ⟨i,⟨⟩⟩ K hj hi hR hK
 dsimp only at hi⊢
 subst hi
 refine Br.dec (λhl=>?_) λhl=>?_
 ·have hl:j<ts.length:=by omega
  rw [List.drop_eq_getElem_cons hl] at hR
  simp only [Lr] at hR
  refine ⟨_,Ap hl,_,if_pos ⟨h2 _ (List.getElem_mem hl),h3⟩,⟨λhe=>?_,λhe=>?_⟩⟩
  ·have he:(!Di c.1 ts[j])=true:=he
   rw [if_pos he] at hR
   exact hR
  ·have he:(!Di c.1 ts[j])=false:=he
   rw [if_neg (by rw [he];decide)] at hR
   rw [Ah (by omega)]
   exact hK hl _ rfl (by push_cast;exact hR)
 ·have:j=ts.length:=by omega
  subst this
  rw [List.drop_length] at hR
  exact hR
theorem DK:Sound Tryz.prog 112 kK:=
 Sound.Cu Bj (Ae JV Ai) mixed Tryz.func112 (by kernel_rfl) (by kernel_rfl) λx h=>Aa4 x.1 x.2.1 h
theorem om (q:TT->Bool): ∀(ts:List TT) (k:Int),0<=k->decide (Lr q ts k>=0)=ts.any q
 | [],k,_=>by simp [Lr]
 |t::ts,k,hk=>by
  have ih:=om q ts (k+1) (by omega)
  rw [List.any_cons]
  by_cases e:q t=true
  ·have e2:Lr q (t::ts) k=k:=if_pos e
   rw [e]
   exact decide_eq_true (by rw [e2];exact hk)
  ·have e2:Lr q (t::ts) k=Lr q ts (k+1):=if_neg e
   rw [Bool.eq_false_iff.2 e,Bool.false_or,<-ih]
   exact decide_eq_decide.2 (by rw [e2])
theorem Aa0 (ts:List TT) (c:PP×Unit) (h:Dq ts/\Cb c.1):fnW Ck (look [(112,kK)]) kH Tryz.f85 (ts,c,()) (λ(z:Bool)=>z=List.any ts (λt=>!Di c.1 t)):=by
 exact Eq.mp (Aap ts c _) ⟨_,if_pos h,om _ ts 0 (Int.le_refl 0)⟩
theorem DH:Sound Tryz.prog 85 kH:=
 Sound.Cu Bj (Ae DK Ai) mixed Tryz.func85 (by kernel_rfl) (by kernel_rfl) λx h=>Aa0 x.1 x.2.1 h
theorem wL (q:TT->Bool) (ts:List TT):(!List.any ts λt=>!q t)=List.all ts q:=by
 induction ts with
 |nil=>rfl
 |cons t ts ih=>simp only [List.any_cons,List.all_cons,<-ih];cases q t<;>simp
theorem oO (p:PP) (ts:List TT) (h:Cb p/\Dq ts):fnW Ck (look [(84,Ea),(85,kH)]) Gv Tryz.f63 (p,ts,()) (λ(z:Bool)=>z=Da p ts):=by
 refine Eq.mp (q8 p ts _) ⟨_,if_pos h.1,⟨λhv=>Br.dec (λhl=>⟨_,if_pos ⟨h.2,h.1⟩,?_⟩) λhl=>?_,λhv=>?_⟩⟩
 ·have hv:Bw p=true:=hv
  have hl:ts.length<=4:=by omega
  show (!List.any ts λt=>!Di p t)=_
  rw [wL]
  unfold Da
  rw [hv,decide_eq_true hl];rfl
 ·unfold Da
  rw [decide_eq_false (by omega),Bool.and_false];rfl
 ·have hv:Bw p=false:=hv
  unfold Da
  rw [hv];rfl
theorem gQ:Sound Tryz.prog 63 Gv:=
 Sound.Cu Bj (Ae Rt (Ae DH Ai)) mixed Tryz.func63 (by kernel_rfl) (by kernel_rfl) λx h=>oO x.1 x.2.1 h
theorem oP (p:PP) (ts:List TT) (h:Cb p/\Dq ts):fnW Ck (look [(93,Ea),(94,Kr)]) Gv Tryz.f72 (p,ts,()) (λ(z:Bool)=>z=Da p ts):=by
 refine Eq.mp (q9 p ts _) ⟨_,if_pos h.1,⟨λhv=>?_,λhv=>Br.dec (λhl=>?_) λhl=>?_⟩⟩
 ·have hv:Bw p=false:=Bool.eq_false_iff.2 (Cl hv)
  unfold Da
  rw [hv];rfl
 ·unfold Da
  rw [decide_eq_false (by omega),Bool.and_false];rfl
 ·have hv:Bw p=true:=Dj hv
  have hl:ts.length<=4:=by omega
  have e:Da p ts=List.all ts (Di p):=by
   unfold Da
   rw [hv,decide_eq_true hl];rfl
  rw [e]
  refine Ag ts.length (λv=>v.1) (λj v=>v.2.1=p.1/\v.2.2.1=p.2.1/\v.2.2.2.1=p.2.2.1/\List.all (ts.drop j) (Di p)=List.all ts (Di p)) rfl ⟨rfl,rfl,rfl,by simp⟩ ?_
  rintro j ⟨i,n1,n2,n3,⟨⟩⟩ K hj hi ⟨h1,h2,h3,hR⟩ hK
  dsimp only at hi h1 h2 h3 hR⊢
  subst hi h1 h2 h3
  refine Br.dec (λhl=>?_) λhl=>?_
  ·have hl:j<ts.length:=by omega
   rw [List.drop_eq_getElem_cons hl,List.all_cons] at hR
   refine ⟨_,Ap hl,_,if_pos ⟨h.1,h.2.2 _ (List.getElem_mem hl)⟩,⟨λhe=>?_,λhe=>?_⟩⟩
   ·have he:Di p ts[j]=false:=Bool.eq_false_iff.2 (Cl he)
    rw [he,Bool.false_and] at hR
    exact hR
   ·have he:Di p ts[j]=true:=Dj he
    rw [he,Bool.true_and] at hR
    rw [Ah (by omega)]
    exact hK hl _ rfl ⟨rfl,rfl,rfl,hR⟩
  ·have:j=ts.length:=by omega
   subst this
   rw [List.drop_length] at hR
   exact hR
theorem gS:Sound Tryz.prog 72 Gv:=
 Sound.Cu Bj (Ae Ru (Ae kX Ai)) mixed Tryz.func72 (by kernel_rfl) (by kernel_rfl) λx h=>oP x.1 x.2.1 h
theorem Aaa (ts:List TT) (k:Int) (h:Dq ts/\roomy k):fnW Ck (look [(46,Vh)]) kN Tryz.f14 (ts,k,()) (λ(z:Int)=>z=Wh ts k):=by
 obtain ⟨⟨h1,h2⟩,h3,h4⟩:=h
 refine Eq.mp (Aaz ts k _) ?_
 rw [Co (by omega) (by omega)]
 refine Br.dec (λhn=>?_) λhn=>?_
 ·exact (if_pos hn).symm
 ·have e:Wh ts k=Ws ts (k-ts.length):=if_neg hn
  rw [e]
  refine Ag ts.length (λv=>v.2.1) (λj v=>roomy v.1/\Ws (ts.drop j) v.1=Ws ts (k-ts.length)) rfl ⟨⟨by omega,by omega⟩,by simp⟩ ?_
  rintro j ⟨r,i,⟨⟩⟩ K hj hi ⟨hr,hR⟩ hK
  dsimp only at hi hr hR⊢
  subst hi
  refine Br.dec (λhl=>?_) λhl=>?_
  ·have hl:j<ts.length:=by omega
   rw [List.drop_eq_getElem_cons hl] at hR
   simp only [Ws] at hR
   refine ⟨_,Ap hl,_,if_pos ⟨h2 _ (List.getElem_mem hl),hr⟩,Br.dec (λhm=>?_) λhm=>?_⟩
   ·have hm:Ho ts[j] r<0:=hm
    rw [if_pos hm] at hR
    exact hR
   ·have hm: ¬Ho ts[j] r<0:=hm
    rw [if_neg hm] at hR
    rw [Ah (by omega)]
    exact hK hl _ rfl ⟨de hr hm,hR⟩
  ·have:j=ts.length:=by omega
   subst this
   rw [List.drop_length] at hR
   exact hR
theorem DO:Sound Tryz.prog 14 kN:=
 Sound.Cu Bj (Ae ry Ai) mixed Tryz.func14 (by kernel_rfl) (by kernel_rfl) λx h=>Aaa x.1 x.2.1 h
theorem Aad (ts:List TT) (h:Dq ts):fnW Ck (look [(50,Vi)]) pb Tryz.f17 (ts,()) (λ(z:List TT)=>z=ts):=by
 obtain ⟨h,h4⟩:=h
 refine Eq.mp (Ab2 ts _) ?_
 refine ⟨⟨by omega,by show (ts.length:Int)<(4294967296:Int)+1;omega⟩,rfl,rfl,rfl,?_⟩
 refine Ag ts.length (λv=>v.1) (λj v=>v.2.1.length=ts.length/\v.2.1.take j=ts.take j) rfl ⟨by simp,by simp⟩ ?_
 rintro j ⟨i,ys,⟨⟩⟩ K hj hi ⟨h1,h2⟩ hK
 dsimp only at hi h1 h2⊢
 subst hi
 refine Br.dec (λhl=>?_) λhl=>?_
 ·have hl:j<ts.length:=by omega
  refine ⟨_,Ap hl,_,if_pos (h4 _ (List.getElem_mem hl)),⟨by omega,by omega⟩,by rw [Int.toNat_natCast];omega,rfl,by rw [List.length_set],?_⟩
  rw [Ah (by omega),Int.toNat_natCast,Nat.zero_add]
  exact hK hl _ rfl ⟨by rw [List.length_set];exact h1,Gd hl h1 h2⟩
 ·have:j=ts.length:=by omega
  subst this
  rw [List.take_length,<-h1,List.take_length] at h2
  rw [List.drop_zero,List.take_length]
  exact h2
theorem DP:Sound Tryz.prog 17 pb:=
 Sound.Cu Bj (Ae rz Ai) mixed Tryz.func17 (by kernel_rfl) (by kernel_rfl) λx h=>Aad x.1 h
theorem ko {a b:TT} :Jy a b=true↔a=b:=by
 obtain ⟨a1,a2,a3,⟨⟩⟩:=a
 obtain ⟨b1,b2,b3,⟨⟩⟩:=b
 simp [Jy]
theorem Aa2 (a b:List TT) (h:Dq a):fnW Ck (look [(54,En)]) kI Tryz.f21 (a,b,()) (λ(z:Bool)=>z=decide (a=b)):=by
 obtain ⟨h1,h2⟩:=h
 refine Eq.mp (Aar a b _) ⟨λhl=>?_,λhl=>?_⟩
 ·have hl:a.length≠b.length:=by
   have:(a.length:Int)≠b.length:=by simpa using hl
   omega
  exact (decide_eq_false λe=>hl (by rw [e])).symm
 ·have hl:a.length=b.length:=by
   have:(a.length:Int)=b.length:=by simpa using hl
   omega
  refine Ag a.length (λv=>v.1) (λj _=>(a=b↔a.drop j=b.drop j)) rfl (by simp) ?_
  rintro j ⟨i,⟨⟩⟩ K hj hi hR hK
  dsimp only at hi⊢
  subst hi
  refine Br.dec (λhla=>?_) λhla=>?_
  ·have hla:j<a.length:=by omega
   have hlb:j<b.length:=by omega
   rw [List.drop_eq_getElem_cons hla,List.drop_eq_getElem_cons hlb] at hR
   refine ⟨_,Ap hla,_,Ap hlb,_,if_pos (h2 _ (List.getElem_mem hla)),⟨λhe=>?_,λhe=>?_⟩⟩
   ·have he: ¬Jy a[j] b[j]=true:=Cl he
    refine (decide_eq_false λe=>he (ko.2 ?_)).symm
    have:=hR.1 e
    simp only [List.cons.injEq] at this
    exact this.1
   ·have he:Jy a[j] b[j]=true:=Dj he
    rw [ko.1 he] at hR
    rw [Ah (by omega)]
    exact hK hla _ rfl (hR.trans ⟨λe=>(List.cons.inj e).2,λe=>by rw [e]⟩)
  ·have:j=a.length:=by omega
   subst this
   rw [List.drop_length,hl,List.drop_length] at hR
   exact (decide_eq_true (hR.2 rfl)).symm
theorem DI:Sound Tryz.prog 21 kI:=
 Sound.Cu Bj (Ae rf Ai) mixed Tryz.func21 (by kernel_rfl) (by kernel_rfl) λx h=>Aa2 x.1 x.2.1 h
end Go.Proofs.YtfolipnappekaaaGreat
