/-
  Part 39 of the proof that the statement FnExactSolveIDAStar holds.
-/
import Derived.Test.YtfgfigkbgecfnaaGreatCSolveIDAStar37
namespace Go.Proofs.YtfgfigkbgecfnaaGreat
open Go.RowKit
noncomputable def Gf (p:PP) (t:List Int):Bool:=Ds p&&aG p.1 t
noncomputable def Ha (p:PP) (t:List Int):Bool:=Gf p t&&(Kf p.2.2.1 t).2.2
noncomputable abbrev Jh:Spec:=Fb (.pair Ga (.pair tL .unit)) .bool false true (λx=>Ek x.1/\short x.2.1) (λx=>Gf x.1 x.2.1)
noncomputable def Py (p:PP) (t:List Int):SS:=if Gf p t=true then Sn p.2.2.1 t else ([],[],[],false,())
noncomputable abbrev Wi:Spec:=Fb (.pair Ga (.pair tL .unit)) (.pair ly (.pair .bool .unit)) true false (λx=>Ek x.1/\short x.2.1) (λx=>(Py x.1 x.2.1,Ha x.1 x.2.1,()))
noncomputable abbrev Ss:Spec:=Fb (.pair dS .unit) dS false true (λx=>Hj x.1) (λx=>x.1)
noncomputable def Hw (p:PP) (t:List Int):TT:=if Ha p t=true then (t,(Kf p.2.2.1 t).1,(Kf p.2.2.1 t).2.1,()) else ([],[],[],())
noncomputable abbrev Wk:Spec:=Fb (.pair Ga (.pair tL .unit)) (.pair Ld (.pair .bool .unit)) true true (λx=>Ek x.1/\short x.2.1) (λx=>(Hw x.1 x.2.1,Ha x.1 x.2.1,()))
noncomputable abbrev Zm:MSpec:=de [some 3,none] [(false, .Em tI),(false, .Em .str),(false, .Em dS),(false, .Em tL)] true [none,none,none] [xLL,rL, .Em .bool]
 (λx=>Gf (x.1,x.2.1,x.2.2.1,()) x.2.2.2.1=true) (λx=>(((Hw (x.1,x.2.1,x.2.2.1,()) x.2.2.2.1).2.1,(Hw (x.1,x.2.1,x.2.2.1,()) x.2.2.2.1).2.2.1,Ha (x.1,x.2.1,x.2.2.1,()) x.2.2.2.1,()),()))
noncomputable abbrev Zo:MSpec:=de [some 3,none] [(false, .Em tI),(false, .Em .str),(false, .Em dS),(false, .Em tL)] true [none,none,none] [xLL,rL, .Em .bool]
 (λx=>Ek (x.1,x.2.1,x.2.2.1,())/\short x.2.2.2.1) (λx=>(((Hw (x.1,x.2.1,x.2.2.1,()) x.2.2.2.1).2.1,(Hw (x.1,x.2.1,x.2.2.1,()) x.2.2.2.1).2.2.1,Ha (x.1,x.2.1,x.2.2.1,()) x.2.2.2.1,()),()))
noncomputable abbrev Wg:MSpec:=de [some 3,none] [(false, .Em tI),(false, .Em .str),(false, .Em dS),(false, .Em tL)] true [some 3,none] [rL,xLL,rL, .Em .bool]
 (λx=>Ek (x.1,x.2.1,x.2.2.1,())/\short x.2.2.2.1) (λx=>(((Hw (x.1,x.2.1,x.2.2.1,()) x.2.2.2.1).1,(Hw (x.1,x.2.1,x.2.2.1,()) x.2.2.2.1).2.1,(Hw (x.1,x.2.1,x.2.2.1,()) x.2.2.2.1).2.2.1,Ha (x.1,x.2.1,x.2.2.1,()) x.2.2.2.1,()),()))
noncomputable def Gq (p:PP) (t:TT):Bool:=Ha p t.1&&Px (Hw p t.1) t
noncomputable abbrev Qy:Spec:=Fb (.pair Ga (.pair Ld .unit)) .bool false true (λx=>Ek x.1/\Om x.2.1) (λx=>Gq x.1 x.2.1)
abbrev ue:Ty:= .slice Ld
def Gu (ts:List TT):Prop:=ts.length<=4294967296/\ ∀t∈ts,Om t
noncomputable def Ge (p:PP) (ts:List TT):Bool:=Ds p&&decide (ts.length<=4)&&List.all ts (Gq p)
noncomputable abbrev Lq:Spec:=Fb (.pair Ga (.pair ue .unit)) .bool false true (λx=>Ek x.1/\Gu x.2.1) (λx=>Ge x.1 x.2.1)
abbrev Ase:Ty:= .clo 51 (.pair (.ptr Ga) .unit)
noncomputable abbrev AK:Spec:=Fb (.pair Ld (.pair (.ptr Ga) .unit)) .bool false true (λx=>Om x.1/\Ek x.2.1) (λx=>!Gq x.2.1 x.1)
def Sl (q:TT->Bool):List TT->Int->Int
 | [],_=> -1
 |t::ts,k=>if q t=true then k else Sl q ts (k+1)
noncomputable abbrev qY:Spec:=Fb (.pair ue (.pair Ase .unit)) tI false true (λx=>Gu x.1/\Ek x.2.1.1) (λx=>Sl (λt=>!Gq x.2.1.1 t) x.1 0)
noncomputable abbrev qT:Spec:=Fb (.pair ue (.pair Ase .unit)) .bool false true (λx=>Gu x.1/\Ek x.2.1.1) (λx=>List.any x.1 (λt=>!Gq x.2.1.1 t))
def cV:List TT->Int->Int
 | [],room=>room
 |t::ts,room=>if Ml t room<0 then-1 else cV ts (Ml t room)
def cK (ts:List TT) (room:Int):Int:=if room-ts.length<0 then-1 else cV ts (room-ts.length)
noncomputable abbrev r6:Spec:=Fb (.pair ue (.pair tI .unit)) tI false true (λx=>Gu x.1/\roomy x.2.1) (λx=>cK x.1 x.2.1)
noncomputable abbrev wI:Spec:=Fb (.pair ue .unit) ue false true (λx=>Gu x.1) (λx=>x.1)
noncomputable abbrev qU:Spec:=Fb (.pair ue (.pair ue .unit)) .bool false true (λx=>Gu x.1) (λx=>decide (x.1=x.2.1))
theorem yX (p:Int×ByteArray×List (List Int)×Unit) (t:List Int) (P:Bool->Prop):(∃(y3:Bool),Ia.fn ((p.1,p.2.1,p.2.2.1,()),())=some y3/\Br y3 (∃(y4:Bool),Kg.fn (p.1,t,())=some y4/\P y4) (P false))=fnW En (look [(49,Ia),(116,Kg)]) Jh Tryz.f108 (p,t,()) P:=by kernel_rfl
theorem z8 (p:Int×ByteArray×List (List Int)×Unit) (t:List Int) (P:Bool->Prop):(∃(y3:Bool),Ia.fn ((p.1,p.2.1,p.2.2.1,()),())=some y3/\Br y3 (∃(y4:Bool),Kg.fn (p.1,t,())=some y4/\P y4) (P false))=fnW En (look [(56,Ia),(117,Kg)]) Jh Tryz.f112 (p,t,()) P:=by kernel_rfl
theorem NN (p:Int×ByteArray×List (List Int)×Unit) (t:List Int) (P:((List (List Int)×List Int×List Int×Bool×Unit)×Bool×Unit)->Prop):(∃(y3:Bool),Jh.fn ((p.1,p.2.1,p.2.2.1,()),t,())=some y3/\Br (!y3) (P ((List.take 0 (List.drop 0 []),List.take 0 (List.drop 0 []),List.take 0 (List.drop 0 []),false,()),false,())) (∃(y4:List (List Int)×List Int×List Int×Bool×PUnit),lr.fn ((p.1,p.2.1,p.2.2.1,()),t,())=some y4/\((P ((y4.1,y4.2.1,y4.2.2.1,y4.2.2.2.1,()),y4.2.2.2.1,())/\P ((y4.1,y4.2.1,y4.2.2.1,y4.2.2.2.1,()),y4.2.2.2.1,()))/\P ((y4.1,y4.2.1,y4.2.2.1,y4.2.2.2.1,()),y4.2.2.2.1,()))/\(P ((y4.1,y4.2.1,y4.2.2.1,y4.2.2.2.1,()),y4.2.2.2.1,())/\P ((y4.1,y4.2.1,y4.2.2.1,y4.2.2.2.1,()),y4.2.2.2.1,()))/\P ((y4.1,y4.2.1,y4.2.2.1,y4.2.2.2.1,()),y4.2.2.2.1,())))=fnW En (look [(112,Jh),(113,lr)]) Wi Tryz.f100 (p,t,()) P:=by kernel_rfl
theorem ND (l:List (List Int)) (P:List (List Int)->Prop):(0=0/\0=([]:List Int).length/\Db (λ(v2:Int×List (List Int)×PUnit) (k3:Int×List (List Int)×PUnit->Prop)=>Br (decide (v2.1<(↑l.length:Int))) (∃(y4:List Int),idx l v2.1=some y4/\ ∃(y5:List Int),Jy.fn (y4,())=some y5/\0=0/\v2.2.1.length=v2.2.1.length/\v2.2.1.length+(List.take 1 (List.drop 0 [y5])).length<=Cr/\0=0/\(v2.2.1++List.take 1 (List.drop 0 [y5])).length=(v2.2.1++List.take 1 (List.drop 0 [y5])).length/\k3 (IntKind.i64.wrap (v2.1+(1:Int)),v2.2.1++List.take 1 (List.drop 0 [y5]),())) (P (List.take v2.2.1.length (List.drop 0 v2.2.1)))) ((0:Int),[],PUnit.unit))=fnW En (look [(64,Jy)]) Ss Tryz.f101 (l,()) P:=by kernel_rfl
theorem NP (p:Int×ByteArray×List (List Int)×Unit) (t:List Int) (P:((List Int×List (List Int)×List Int×Unit)×Bool×Unit)->Prop):(∃(y3:(List (List Int)×List Int×List Int×Bool×PUnit)×Bool×PUnit),Wi.fn ((p.1,p.2.1,p.2.2.1,()),t,())=some y3/\Br (!y3.2.1) (P ((List.take 0 (List.drop 0 []),List.take 0 (List.drop 0 []),List.take 0 (List.drop 0 []),()),false,())) (∃(y4:List Int),Jy.fn (t,())=some y4/\ ∃(y5:List (List Int)),Ss.fn (y3.1.1,())=some y5/\ ∃(y6:List Int),Jy.fn (y3.1.2.1,())=some y6/\P ((y4,y5,y6,()),true,())))=fnW En (look [(100,Wi),(64,Jy),(101,Ss)]) Wk Tryz.f84 (p,t,()) P:=by kernel_rfl
abbrev dQ:Type:=Int×List (List Int)×List (List Int)×List Int×(ByteArray->Option Bool)×PUnit
abbrev sI:Type:=Int×Int×ByteArray×List (List Int)×List (List Int)×List (List Int)×List Int×(ByteArray->Option Bool)×PUnit
theorem TY (n:Int) (str:ByteArray) (g:List (List Int)) (t:List Int) (P:((List (List Int)×List Int×Bool×Unit)×Unit)->Prop):(∃(y5:(List Int×PUnit)×PUnit),cO.fn (t,())=some y5/\ ∃(y6:ByteArray),Kt.fn (t,())=some y6/\ ∃(y7:List Int),Mm.fn ((↑g.length:Int),())=some y7/\0=0/\1= [List.take y5.1.1.length (List.drop 0 y5.1.1)].length/\0=0/\1= [(0:Int)].length/\0=0/\0=([]:List Int).length/\Db (λ(v8:sI) (k9:sI->Prop)=>Br (decide (v8.1<(↑y7.length:Int))) (∃(Il:Int),idx y7 v8.1=some Il/\ ∃(gZ:List Int),Lp.fn (v8.2.2.2.1,Il,())=some gZ/\0=0/\v8.2.2.2.2.1.length=v8.2.2.2.2.1.length/\v8.2.2.2.2.1.length+(List.take 1 (List.drop 0 [gZ])).length<=Cr/\0=0/\v8.2.2.2.2.2.1.length=v8.2.2.2.2.2.1.length/\0=0/\v8.2.2.2.2.2.2.1.length=v8.2.2.2.2.2.2.1.length/\0=0/\(v8.2.2.2.2.1++List.take 1 (List.drop 0 [gZ])).length=(v8.2.2.2.2.1++List.take 1 (List.drop 0 [gZ])).length/\k9 (IntKind.i64.wrap (v8.1+(1:Int)),v8.2.1,v8.2.2.1,v8.2.2.2.1,v8.2.2.2.2.1++List.take 1 (List.drop 0 [gZ]),v8.2.2.2.2.2.1,v8.2.2.2.2.2.2.1,v8.2.2.2.2.2.2.2.1,())) (0=0/\v8.2.2.2.2.2.1.length=v8.2.2.2.2.2.1.length/\0=0/\v8.2.2.2.2.2.2.1.length=v8.2.2.2.2.2.2.1.length/\0=0/\v8.2.2.2.2.1.length=v8.2.2.2.2.1.length/\Db (λ(v10:dQ) (k11:dQ->Prop)=>Br (decide (v10.1<(↑v10.2.2.1.length:Int))) (0=0/\v10.2.2.1.length=v10.2.2.1.length/\0=0/\v10.2.2.2.1.length=v10.2.2.2.1.length/\0=0/\v10.2.1.length=v10.2.1.length/\0=0/\v10.2.1.length=v10.2.1.length/\Db (λ(Oo:dQ) (k13:dQ->Prop)=>Br (decide (Oo.1<(↑v10.2.1.length:Int))) (((0:Int)<=Oo.1/\Oo.1<(↑Oo.2.1.length:Int))/\ ∃(Jj:List Int),Oo.2.1[0+Oo.1.toNat]?=some Jj/\((0:Int)<=v10.1/\v10.1<(↑Oo.2.2.1.length:Int))/\ ∃(Ri:List Int),Oo.2.2.1[0+v10.1.toNat]?=some Ri/\ ∃(Yc:(List Int×PUnit)×PUnit),c7.fn (Jj,Ri,())=some Yc/\ ∃(ba:ByteArray),Kt.fn (List.take Yc.1.1.length (List.drop 0 Yc.1.1),())=some ba/\Br (!(Oo.2.2.2.2.1 ba).getD false) (Br ((↑Oo.2.2.1.length:Int)==(3000:Int)) (P ((List.take 0 (List.drop 0 []),List.take 0 (List.drop 0 []),false,()),())) (0=0/\Oo.2.2.1.length=Oo.2.2.1.length/\Oo.2.2.1.length+(List.take 1 (List.drop 0 [List.take Yc.1.1.length (List.drop 0 Yc.1.1)])).length<=Cr/\((0:Int)<=v10.1/\v10.1<(↑Oo.2.2.2.1.length:Int))/\ ∃(Yd:Int),Oo.2.2.2.1[0+v10.1.toNat]?=some Yd/\0=0/\Oo.2.2.2.1.length=Oo.2.2.2.1.length/\Oo.2.2.2.1.length+(List.take 1 (List.drop 0 [IntKind.i64.wrap (Yd+(1:Int))])).length<=Cr/\0=0/\(Oo.2.2.1++List.take 1 (List.drop 0 [List.take Yc.1.1.length (List.drop 0 Yc.1.1)])).length=(Oo.2.2.1++List.take 1 (List.drop 0 [List.take Yc.1.1.length (List.drop 0 Yc.1.1)])).length/\0=0/\(Oo.2.2.2.1++List.take 1 (List.drop 0 [IntKind.i64.wrap (Yd+(1:Int))])).length=(Oo.2.2.2.1++List.take 1 (List.drop 0 [IntKind.i64.wrap (Yd+(1:Int))])).length/\0=0/\Oo.2.1.length=Oo.2.1.length/\0=0/\Oo.2.1.length=Oo.2.1.length/\k13 (IntKind.i64.wrap (Oo.1+(1:Int)),Oo.2.1,Oo.2.2.1++List.take 1 (List.drop 0 [List.take Yc.1.1.length (List.drop 0 Yc.1.1)]),Oo.2.2.2.1++List.take 1 (List.drop 0 [IntKind.i64.wrap (Yd+(1:Int))]),kH Oo.2.2.2.2.1 ba true,()))) (0=0/\Oo.2.2.1.length=Oo.2.2.1.length/\0=0/\Oo.2.2.2.1.length=Oo.2.2.2.1.length/\0=0/\Oo.2.1.length=Oo.2.1.length/\0=0/\Oo.2.1.length=Oo.2.1.length/\k13 (IntKind.i64.wrap (Oo.1+(1:Int)),Oo.2.1,Oo.2.2.1,Oo.2.2.2.1,Oo.2.2.2.2.1,()))) (0=0/\Oo.2.2.1.length=Oo.2.2.1.length/\0=0/\Oo.2.2.2.1.length=Oo.2.2.2.1.length/\0=0/\Oo.2.1.length=Oo.2.1.length/\k11 (IntKind.i64.wrap (v10.1+(1:Int)),Oo.2.1,Oo.2.2.1,Oo.2.2.2.1,Oo.2.2.2.2.1,()))) ((0:Int),v10.2.1,v10.2.2.1,v10.2.2.2.1,v10.2.2.2.2.1,PUnit.unit)) (P ((List.take v10.2.2.1.length (List.drop 0 v10.2.2.1),List.take v10.2.2.2.1.length (List.drop 0 v10.2.2.2.1),true,()),()))) ((0:Int),v8.2.2.2.2.1,v8.2.2.2.2.2.1,v8.2.2.2.2.2.2.1,v8.2.2.2.2.2.2.2.1,PUnit.unit))) ((0:Int),n,str,g,[],[List.take y5.1.1.length (List.drop 0 y5.1.1)],[(0:Int)],kH (λ(_:ByteArray)=>none) y6 true,PUnit.unit))=fnMW (ry [Sx+10]) (look [(97,cO),(53,Kt),(80,Mm),(81,Lp),(77,c7)]) Zm Tryz.f109 (n,str,g,t,()) P:=by kernel_rfl
theorem UA (n:Int) (str:ByteArray) (g:List (List Int)) (t:List Int) (P:((List (List Int)×List Int×Bool×Unit)×Unit)->Prop):(∃(y5:Bool),Jh.fn ((n,str,g,()),t,())=some y5/\Br (!y5) (P ((List.take 0 (List.drop 0 []),List.take 0 (List.drop 0 []),false,()),())) (∃(y6:(List (List Int)×List Int×Bool×PUnit)×PUnit),Zm.fn (n,str,g,t,())=some y6/\P ((List.take y6.1.1.length (List.drop 0 y6.1.1),List.take y6.1.2.1.length (List.drop 0 y6.1.2.1),y6.1.2.2.1,()),())))=fnMW Uf (look [(108,Jh),(109,Zm)]) Zo Tryz.f96 (n,str,g,t,()) P:=by kernel_rfl
theorem NH (n:Int) (str:ByteArray) (g:List (List Int)) (t:List Int) (P:((List Int×List (List Int)×List Int×Bool×Unit)×Unit)->Prop):(∃(y5:(List (List Int)×List Int×Bool×PUnit)×PUnit),Zo.fn (n,str,g,t,())=some y5/\Br (!y5.1.2.2.1) (P ((List.take 0 (List.drop 0 []),List.take 0 (List.drop 0 []),List.take 0 (List.drop 0 []),false,()),())) (∃(y6:(List Int×PUnit)×PUnit),cO.fn (t,())=some y6/\P ((List.take y6.1.1.length (List.drop 0 y6.1.1),List.take y5.1.1.length (List.drop 0 y5.1.1),List.take y5.1.2.1.length (List.drop 0 y5.1.2.1),true,()),())))=fnMW Uf (look [(96,Zo),(97,cO)]) Wg Tryz.f75 (n,str,g,t,()) P:=by kernel_rfl
theorem FZ (p:Int×ByteArray×List (List Int)×Unit) (t:List Int×List (List Int)×List Int×Unit) (P:Bool->Prop):(∃(y3:(List Int×List (List Int)×List Int×Bool×PUnit)×PUnit),Wg.fn (p.1,p.2.1,p.2.2.1,t.1,())=some y3/\Br y3.1.2.2.2.1 (∃(y4:Bool),Iy.fn ((List.take y3.1.1.length (List.drop 0 y3.1.1),List.take y3.1.2.1.length (List.drop 0 y3.1.2.1),List.take y3.1.2.2.1.length (List.drop 0 y3.1.2.2.1),()),(t.1,t.2.1,t.2.2.1,()),())=some y4/\P y4) (P false))=fnW En (look [(75,Wg),(76,Iy)]) Qy Tryz.f52 (p,t,()) P:=by kernel_rfl
theorem GF (p:Int×ByteArray×List (List Int)×Unit) (t:List Int×List (List Int)×List Int×Unit) (P:Bool->Prop):(∃(y3:(List Int×List (List Int)×List Int×PUnit)×Bool×PUnit),Wk.fn ((p.1,p.2.1,p.2.2.1,()),t.1,())=some y3/\Br y3.2.1 (∃(y4:Bool),Iy.fn ((y3.1.1,y3.1.2.1,y3.1.2.2.1,()),(t.1,t.2.1,t.2.2.1,()),())=some y4/\P y4) (P false))=fnW En (look [(84,Wk),(85,Iy)]) Qy Tryz.f57 (p,t,()) P:=by kernel_rfl
theorem Asv (t:List Int×List (List Int)×List Int×Unit) (p:Int×ByteArray×List (List Int)×Unit) (P:Bool->Prop):(∃(y3:Bool),Qy.fn (p,(t.1,t.2.1,t.2.2.1,()),())=some y3/\P !y3)=fnW En (look [(52,Qy)]) AK Tryz.f51 (t,p,()) P:=by kernel_rfl
theorem Aod (ts:List (List Int×List (List Int)×List Int×Unit)) (c:(Int×ByteArray×List (List Int)×Unit)×Unit) (P:Int->Prop):(Db (λ(v3:Int×PUnit) (k4:Int×PUnit->Prop)=>Br (decide (v3.1<(↑ts.length:Int))) (∃(y5:List Int×List (List Int)×List Int×PUnit),idx ts v3.1=some y5/\ ∃(y6:Bool),AK.fn (y5,c.1,())=some y6/\Br y6 (P v3.1) (k4 (IntKind.i64.wrap (v3.1+(1:Int)),()))) (P (-1:Int))) ((0:Int),PUnit.unit))=fnW En (look [(51,AK)]) qY Tryz.f74 (ts,c,()) P:=by kernel_rfl
theorem Ao7 (ts:List (List Int×List (List Int)×List Int×Unit)) (c:(Int×ByteArray×List (List Int)×Unit)×Unit) (P:Bool->Prop):(∃(y3:Int),qY.fn (ts,c,())=some y3/\P (decide (y3>=(0:Int))))=fnW En (look [(74,qY)]) qT Tryz.f50 (ts,c,()) P:=by kernel_rfl
theorem xx (p:Int×ByteArray×List (List Int)×Unit) (ts:List (List Int×List (List Int)×List Int×Unit)) (P:Bool->Prop):(∃(y3:Bool),Ia.fn ((p.1,p.2.1,p.2.2.1,()),())=some y3/\Br y3 (Br (decide ((↑ts.length:Int)<=(4:Int))) (∃(y4:Bool),qT.fn (ts,((p.1,p.2.1,p.2.2.1,()),()),())=some y4/\P !y4) (P false)) (P false))=fnW En (look [(49,Ia),(50,qT)]) Lq Tryz.f37 (p,ts,()) P:=by kernel_rfl
abbrev iH:Type:=Int×Int×ByteArray×List (List Int)×PUnit
theorem xy (p:Int×ByteArray×List (List Int)×Unit) (ts:List (List Int×List (List Int)×List Int×Unit)) (P:Bool->Prop):(∃(y3:Bool),Ia.fn ((p.1,p.2.1,p.2.2.1,()),())=some y3/\Br (!y3) (P false) (Br (decide ((↑ts.length:Int)>(4:Int))) (P false) (Db (λ(v4:iH) (k5:iH->Prop)=>Br (decide (v4.1<(↑ts.length:Int))) (∃(y6:List Int×List (List Int)×List Int×PUnit),idx ts v4.1=some y6/\ ∃(y7:Bool),Qy.fn ((v4.2.1,v4.2.2.1,v4.2.2.2.1,()),y6,())=some y7/\Br (!y7) (P false) (k5 (IntKind.i64.wrap (v4.1+(1:Int)),v4.2.1,v4.2.2.1,v4.2.2.2.1,()))) (P true)) ((0:Int),p.1,p.2.1,p.2.2.1,PUnit.unit))))=fnW En (look [(56,Ia),(57,Qy)]) Lq Tryz.f42 (p,ts,()) P:=by kernel_rfl
theorem Aoj (ts:List (List Int×List (List Int)×List Int×Unit)) (k:Int) (P:Int->Prop):(Br (decide (IntKind.i64.wrap (k-(↑ts.length:Int))<(0:Int))) (P (-1:Int)) (Db (λ(v3:Int×Int×PUnit) (k4:Int×Int×PUnit->Prop)=>Br (decide (v3.2.1<(↑ts.length:Int))) (∃(y5:List Int×List (List Int)×List Int×PUnit),idx ts v3.2.1=some y5/\ ∃(y6:Int),ca.fn (y5,v3.1,())=some y6/\Br (decide (y6<(0:Int))) (P (-1:Int)) (k4 (y6,IntKind.i64.wrap (v3.2.1+(1:Int)),()))) (P v3.1)) (IntKind.i64.wrap (k-(↑ts.length:Int)),(0:Int),PUnit.unit)))=fnW En (look [(19,ca)]) r6 Tryz.f5 (ts,k,()) P:=by kernel_rfl
abbrev WL:Type:=Int×List (List Int×List (List Int)×List Int×PUnit)×PUnit
abbrev WM:Type:=List Int×List (List Int)×List Int×PUnit
theorem Aom (ts:List (List Int×List (List Int)×List Int×Unit)) (P:List (List Int×List (List Int)×List Int×Unit)->Prop):(((0:Int)<=(↑ts.length:Int)/\(↑ts.length:Int)<(↑Cr:Int)+(1:Int))/\(↑ts.length:Int)=(↑ts.length:Int)/\0=0/\(List.replicate (↑ts.length:Int).toNat (([]:List Int),([]:List (List Int)),([]:List Int),())).length=(List.replicate (↑ts.length:Int).toNat (([]:List Int),([]:List (List Int)),([]:List Int),())).length/\Db (λ(v2:WL) (k3:WL->Prop)=>Br (decide (v2.1<(↑ts.length:Int))) (∃(y4:WM),idx ts v2.1=some y4/\ ∃(y5:WM),cc.fn (y4,())=some y5/\((0:Int)<=v2.1/\v2.1<(↑v2.2.1.length:Int))/\0+v2.1.toNat<v2.2.1.length/\0=0/\v2.2.1.length=(v2.2.1.set (0+v2.1.toNat) y5).length/\k3 (IntKind.i64.wrap (v2.1+(1:Int)),v2.2.1.set (0+v2.1.toNat) y5,())) (P (List.take v2.2.1.length (List.drop 0 v2.2.1)))) ((0:Int),List.replicate (↑ts.length:Int).toNat (([]:List Int),([]:List (List Int)),([]:List Int),()),PUnit.unit))=fnW En (look [(23,cc)]) wI Tryz.f8 (ts,()) P:=by kernel_rfl
abbrev WJ:Type:=List Int×List (List Int)×List Int×PUnit
theorem Aoa (a b:List (List Int×List (List Int)×List Int×Unit)) (P:Bool->Prop):(Br ((↑a.length:Int) !=(↑b.length:Int)) (P false) (Db (λ(v3:Int×PUnit) (k4:Int×PUnit->Prop)=>Br (decide (v3.1<(↑a.length:Int))) (∃(y5:WJ),idx a v3.1=some y5/\ ∃(y6:WJ),idx b v3.1=some y6/\ ∃(y7:Bool),Iy.fn (y5,y6,())=some y7/\Br (!y7) (P false) (k4 (IntKind.i64.wrap (v3.1+(1:Int)),()))) (P true)) ((0:Int),PUnit.unit)))=fnW En (look [(28,Iy)]) qU Tryz.f13 (a,b,()) P:=by kernel_rfl
theorem uJ {p:PP} (hV:Valid p) {m:Nat} {x:List Int} {d:Int} (hx: ∀y∈x,0<=y/\y<p.1) (hxl:x.length=m): ∀(ls:List Int) (L:List (List Int)) (D:List Int),(∀l∈ls,Iu (List.length p.2.2.1) l)->
  bb p m L D->(0<=d/\d<L.length)->bb p m (Kv p.2.2.1 x d ls L D).1 (Kv p.2.2.1 x d ls L D).2.1/\(∃A,(Kv p.2.2.1 x d ls L D).1=L++A)/\(∃A,(Kv p.2.2.1 x d ls L D).2.1=D++A)
 | [],L,D,_,h,_=>⟨h,⟨[],by simp [Kv]⟩,⟨[],by simp [Kv]⟩⟩
 |l::ls,L,D,hl,h,hd=>by
  obtain ⟨n1,n2⟩:=DJ hV hx (hl l (by simp))
  have Kp: ∀l∈ls,Iu (List.length p.2.2.1) l:= λl' h'=>hl l' (Ar _ h')
  simp only [Kv]
  split
  ·exact uJ hV hx hxl ls L D Kp h hd
  ·rename_i hn
   split
   ·exact ⟨h,⟨[],by simp⟩,⟨[],by simp⟩⟩
   ·rename_i hf
    have lF:=h.ok.uX
    obtain ⟨k1,⟨A,k2⟩,⟨A',k3⟩⟩:=uJ hV hx hxl ls (L++ [Al x (Bm p.2.2.1 l)]) (D++ [d+1]) Kp (h.add hn (by rw [n1,hxl]) (by omega) n2 ⟨by omega,by omega⟩) ⟨hd.1,by rw [Ax];omega⟩
    exact ⟨k1,⟨_::A,by rw [k2,Dh];rfl⟩,⟨_::A',by rw [k3,Dh];rfl⟩⟩
theorem HF {p:PP} (hV:Valid p) {m:Nat} {ls:List Int} (hl: ∀l∈ls,Iu (List.length p.2.2.1) l): ∀(f k:Nat) (L:List (List Int)) (D:List Int),bb p m L D->
  bb p m (Qr p.2.2.1 ls f k L D).1 (Qr p.2.2.1 ls f k L D).2.1/\(∃A,(Qr p.2.2.1 ls f k L D).1=L++A)
 |0,k,L,D,h=>⟨h,⟨[],by simp [Qr]⟩⟩
 |f+1,k,L,D,h=>by
  simp only [Qr]
  split
  ·rename_i hk
   have hkD:k<D.length:=by rw [h.len];exact hk
   have hd:=h.dep k hkD
   have e:D.getD k 0=D[k]:=by rw [Aj,Ac hkD];rfl
   rw [au hk,e]
   obtain ⟨k1,⟨A,k2⟩,_⟩:=uJ hV (h.row _ (Ak hk)) (h.ok.len _ (Ak hk)) (d:=D[k]) ls L D hl h ⟨by omega,by omega⟩
   split
   ·rename_i L' D' he
    rw [he] at k1 k2
    obtain ⟨g1,⟨B,g2⟩⟩:=HF hV hl f (k+1) L' D' k1
    have k2:L'=L++A:=k2
    exact ⟨g1,⟨A++B,by rw [g2,k2,Dh]⟩⟩
   ·rename_i L' D' he
    rw [he] at k1 k2
    exact ⟨k1,⟨A,k2⟩⟩
  ·exact ⟨h,⟨[],by simp⟩⟩
theorem OS {p:PP} {s:List Int} (hv:Ds p=true) (hs:s.length<=20) (hr: ∀y∈s,0<=y/\y<p.1):bb p s.length (Kf p.2.2.1 s).1 (Kf p.2.2.1 s).2.1/\ ∃A,(Kf p.2.2.1 s).1=s::A:=
 HF (valid hv) (λ_ hl=>Ob hl) _ _ _ _ (qc hs hr)
theorem Sv {p:PP} {t:List Int} :Gf p t=true↔Ds p=true/\aG p.1 t=true:=by
 unfold Gf;rw [Af]
theorem Jo {p:PP} {t:List Int} (h:Gf p t=true):t.length<=20/\ ∀y∈t,0<=y/\y<p.1:=by
 obtain ⟨h1,h2⟩:=Sv.1 h
 have hn:=(valid h1).n
 obtain ⟨h3,h4⟩:=Hv.1 h2
 have hy: ∀y∈t,0<=y/\y<p.1:= λy hy=>by
  obtain ⟨j,hj,rfl⟩:=Cl.1 hy
  have:=h4 j hj hj
  omega
 refine ⟨?_,hy⟩
 have h5:=RY h4 (t.length-1) (by omega)
 have h6:=hy _ (Ak (show t.length-1<t.length by omega))
 omega
theorem DY {p:PP} {t:List Int} (h:Gf p t=true):bb p t.length (Kf p.2.2.1 t).1 (Kf p.2.2.1 t).2.1:=(OS (Sv.1 h).1 (Jo h).1 (Jo h).2).1
theorem fi {p:PP} {t:List Int} :Ha p t=true↔Gf p t=true/\(Kf p.2.2.1 t).2.2=true:=by
 unfold Ha;rw [Af]
theorem zf {p:PP} {m:Nat} {L:List (List Int)} {D:List Int} (h:bb p m L D):Hj L/\short D:=by
 have h1:=h.ok.uX
 have h2:=h.ok.short
 have h3:=h.len
 refine ⟨⟨by omega,λx hx=>?_⟩,by unfold short;omega⟩
 have:=h.ok.len x hx
 unfold short;omega
theorem rJ {p:PP} {t:List Int} :Om (Hw p t):=by
 unfold Hw
 split
 ·rename_i h
  have h1:=(fi.1 h).1
  have h2:=zf (DY h1)
  have h3:=(Jo h1).1
  exact ⟨show t.length<=4294967296 by omega,h2.1,h2.2⟩
 ·exact ⟨by simp [short],⟨by simp,λr hr=>by cases hr⟩,by simp [short]⟩
theorem yk (p:PP) (t:List Int) (h:Ek p/\short t):fnW En (look [(49,Ia),(116,Kg)]) Jh Tryz.f108 (p,t,()) (λ(z:Bool)=>z=Gf p t):=by
 refine Eq.mp (yX p t _) ⟨_,Ab h.1,⟨λhv=>?_,λhv=>?_⟩⟩
 ·have hv:Ds p=true:=hv
  have hn:=(valid hv).n
  refine ⟨_,Ab ⟨⟨by show 0<=p.1;omega,by show p.1<=4294967296;omega⟩,h.2⟩,?_⟩
  unfold Gf;rw [hv];rfl
 ·have hv:Ds p=false:=hv
  unfold Gf;rw [hv];rfl
theorem pz:Sound Tryz.prog 108 Jh:=
 Sound.Fb De (Av Zr (Av tz Bh)) mixed Tryz.func108 (by kernel_rfl) (by kernel_rfl) λx h=>yk x.1 x.2.1 h
theorem yr (p:PP) (t:List Int) (h:Ek p/\short t):fnW En (look [(56,Ia),(117,Kg)]) Jh Tryz.f112 (p,t,()) (λ(z:Bool)=>z=Gf p t):=by
 refine Eq.mp (z8 p t _) ⟨_,Ab h.1,⟨λhv=>?_,λhv=>?_⟩⟩
 ·have hv:Ds p=true:=hv
  have hn:=(valid hv).n
  refine ⟨_,Ab ⟨⟨by show 0<=p.1;omega,by show p.1<=4294967296;omega⟩,h.2⟩,?_⟩
  unfold Gf;rw [hv];rfl
 ·have hv:Ds p=false:=hv
  unfold Gf;rw [hv];rfl
theorem pE:Sound Tryz.prog 112 Jh:=
 Sound.Fb De (Av Zs (Av pA Bh)) mixed Tryz.func112 (by kernel_rfl) (by kernel_rfl) λx h=>yr x.1 x.2.1 h
theorem LC (p:PP) (t:List Int) (h:Ek p/\short t):fnW En (look [(112,Jh),(113,lr)]) Wi Tryz.f100 (p,t,()) (λ(z:SS×Bool×Unit)=>z=(Py p t,Ha p t,())):=by
 refine Eq.mp (NN p t _) ⟨_,Ab h,⟨λhn=>?_,λhn=>?_⟩⟩
 ·have hn:=Fc hn
  have e:Ha p t=false:=Jt.2 λhh=>hn (fi.1 hh).1
  unfold Py
  rw [Ag hn,e]
  rfl
 ·have hn:Gf p t=true:=Hg hn
  have e:Ha p t=(Kf p.2.2.1 t).2.2:=by unfold Ha;rw [hn,cg]
  refine ⟨_,Ab ⟨(Sv.1 hn).1,(Jo hn).1,(Jo hn).2⟩,?_⟩
  have key:(((Sn p.2.2.1 t).1,(Sn p.2.2.1 t).2.1,(Sn p.2.2.1 t).2.2.1,(Sn p.2.2.1 t).2.2.2.1,()),(Sn p.2.2.1 t).2.2.2.1,())=(Py p t,Ha p t,()):=by
   unfold Py
   rw [Ab hn,e]
   rfl
  exact ⟨⟨⟨key,key⟩,key⟩,⟨key,key⟩,key⟩
theorem tC:Sound Tryz.prog 100 Wi:=
 Sound.Fb De (Av pE (Av MB Bh)) mixed Tryz.func100 (by kernel_rfl) (by kernel_rfl) λx h=>LC x.1 x.2.1 h
theorem KR (l:List (List Int)) (h:Hj l):fnW En (look [(64,Jy)]) Ss Tryz.f101 (l,()) (λ(z:List (List Int))=>z=l):=by
 obtain ⟨h1,h2⟩:=h
 refine Eq.mp (ND l _) ⟨rfl,rfl,?_⟩
 refine Bf l.length (λv=>v.1) (λj v=>v.2.1=l.take j) rfl (by simp) ?_
 rintro j ⟨i,ys,⟨⟩⟩ K hj hi hR hK
 dsimp only at hi hR⊢
 subst hi hR
 refine Br.dec (λhl=>?_) λhl=>?_
 ·have hl:j<l.length:=by omega
  refine ⟨_,Bu hl,_,Ab (h2 _ (Ak hl)),rfl,rfl,?_,rfl,rfl,?_⟩
  ·show (List.take j l).length+1<=4294967296
   rw [Cq];omega
  ·rw [Bg (by omega)]
   refine hK hl _ rfl ?_
   show List.take j l++ [l[j]]=_
   rw [Ep,Ac hl];rfl
 ·have:j=l.length:=by omega
  subst this
  rw [Bz,Ap]
theorem tq:Sound Tryz.prog 101 Ss:=
 Sound.Fb De (Av Xo Bh) mixed Tryz.func101 (by kernel_rfl) (by kernel_rfl) λx h=>KR x.1 h
theorem LF (p:PP) (t:List Int) (h:Ek p/\short t):fnW En (look [(100,Wi),(64,Jy),(101,Ss)]) Wk Tryz.f84 (p,t,()) (λ(z:TT×Bool×Unit)=>z=(Hw p t,Ha p t,())):=by
 refine Eq.mp (NP p t _) ⟨_,Ab h,⟨λhn=>?_,λhn=>?_⟩⟩
 ·have hn:=Fc hn
  have hn: ¬Ha p t=true:=hn
  unfold Hw
  rw [Ag hn,Jt.2 hn]
  rfl
 ·have hn:Ha p t=true:=Hg hn
  obtain ⟨h1,h2⟩:=fi.1 hn
  have h3:=zf (DY h1)
  have e:Py p t=Sn p.2.2.1 t:=Ab h1
  refine ⟨_,Ab h.2,?_⟩
  show ∃y5:List (List Int),Ss.fn ((Py p t).1,())=some y5/\ ∃y6:List Int,Jy.fn ((Py p t).2.1,())=some y6/\((t,y5,y6,()),true,())=(Hw p t,Ha p t,())
  rw [e]
  refine ⟨_,Ab h3.1,_,Ab h3.2,?_⟩
  unfold Hw
  rw [Ab hn,hn]
  rfl
theorem tE:Sound Tryz.prog 84 Wk:=
 Sound.Fb De (Av tC (Av Xo (Av tq Bh))) mixed Tryz.func84 (by kernel_rfl) (by kernel_rfl) λx h=>LF x.1 x.2.1 h
def pZ (m:ByteArray->Option Bool) (L:List (List Int)):Prop:= ∀q,ig q->(m (Yg q)).getD false=decide (q∈L)
theorem pZ.add {m:ByteArray->Option Bool} {L:List (List Int)} {y:List Int} (h:pZ m L) (hy:ig y):pZ (kH m (Yg y) true) (L++ [y]):=by
 intro q hq
 unfold kH
 by_cases e:q=y
 ·subst e
  rw [Ab rfl];simp
 ·rw [Ag λhk=>e (key_inj hq hy hk),h q hq]
  simp [e]
theorem RS (n:Int) (str:ByteArray) (g:List (List Int)) (t:List Int) (h:Gf (n,str,g,()) t=true):
  fnMW (ry [Sx+10]) (look [(97,cO),(53,Kt),(80,Mm),(81,Lp),(77,c7)]) Zm Tryz.f109 (n,str,g,t,()) (λ(z:(List (List Int)×List Int×Bool×Unit)×Unit)=>z=(((Hw (n,str,g,()) t).2.1,(Hw (n,str,g,()) t).2.2.1,Ha (n,str,g,()) t,()),())):=by
 obtain ⟨hv,_⟩:=Sv.1 h
 obtain ⟨ht,hr⟩:=Jo h
 have hV:=valid hv
 have lF:=hV.uX
 have hn:=hV.n
 dsimp only at lF hn hr
 have hb0:=qc (p:=(n,str,g,())) ht hr
 have OE:short t:=by unfold short;omega
 obtain ⟨ls,rX⟩: ∃ls,Ay g.length=ls:=⟨_,rfl⟩
 have hll:ls.length<=16:=by rw [<-rX,Ol];omega
 have oF: ∀l∈ls,Iu (List.length g) l:= λl hl=>Ob (rX▸hl)
 have QD:Qr g ls 3001 0 [t] [0]=Kf g t:=by unfold Kf;rw [rX]
 have Ajo: ∀x:List Int,(∀y∈x,0<=y/\y<n)->ig x:= λx hx y hy=>by have:=hx y hy;omega
 have Aq4: ∀L D ok,Kf g t=(L,D,ok)->(if ok=true then ((L,D,true,()),()) else ((([]:List (List Int)),([]:List Int),false,()),()))=(((Hw (n,str,g,()) t).2.1,(Hw (n,str,g,()) t).2.2.1,Ha (n,str,g,()) t,()),()):=by
  intro L D ok he
  have e1:Ha (n,str,g,()) t=ok:=by unfold Ha;rw [h,cg];show (Kf g t).2.2=ok;rw [he]
  unfold Hw
  rw [e1]
  cases ok with
  |true=>rw [Ab rfl,Ab rfl];show ((L,D,true,()),())=(((Kf g t).1,(Kf g t).2.1,true,()),());rw [he]
  |false=>rw [Ag (by decide),Ag (by decide)]
 refine Eq.mp (TY n str g t _) ⟨_,Ab OE,_,Ab OE,ls,(Ab ⟨by show (0:Int)<=((g.length:Nat):Int);omega,by show ((g.length:Nat):Int)<=8;omega⟩).trans (Lr some (by show Ay (((g.length:Nat):Int)).toNat=ls;rw [Ai];exact rX)),rfl,rfl,rfl,rfl,rfl,rfl,?_⟩
 rw [Bz]
 refine Bf ls.length (λv=>v.1) (λj v=>v.2.1=n/\v.2.2.1=str/\v.2.2.2.1=g/\v.2.2.2.2.1=(ls.take j).map (Bm g)/\v.2.2.2.2.2.1= [t]/\v.2.2.2.2.2.2.1= [0]/\pZ v.2.2.2.2.2.2.2.1 [t]) rfl
  ⟨rfl,rfl,rfl,by simp,rfl,rfl,λq hq=>?_⟩ ?_
 ·show (kH (λ_=>none) (Yg t) true (Yg q)).getD false=_
  unfold kH
  by_cases e:q=t
  ·subst e;rw [Ab rfl];simp
  ·rw [Ag λhk=>e (key_inj hq (Ajo t hr) hk)];simp [e]
 rintro j ⟨i,n',Asa,g',mv,L1,D1,m1,⟨⟩⟩ K hj hi ⟨h1,h2,h3,h4,h5,h6,h7⟩ hK
 dsimp only at hi h1 h2 h3 h4 h5 h6 h7⊢
 subst hi h1 h2 h3 h4 h5 h6
 refine Br.dec (λhl=>?_) λhl=>⟨rfl,rfl,rfl,rfl,rfl,rfl,?_⟩
 ·have hl:j<ls.length:=by omega
  have qx:=oF _ (Ak hl)
  refine ⟨_,Bu hl,_,Ab ⟨qx,lF.2,hV.perm⟩,rfl,rfl,?_,rfl,rfl,rfl,rfl,rfl,rfl,?_⟩
  ·show (List.map (Bm g') (List.take j ls)).length+1<=4294967296
   rw [Dl,Cq];omega
  ·rw [Bg (by omega)]
   refine hK hl _ rfl ⟨rfl,rfl,rfl,?_,rfl,rfl,h7⟩
   show List.map (Bm g') (List.take j ls)++ [Bm g' ls[j]]=_
   rw [Ep,Ac hl,Kl];rfl
 ·have:j=ls.length:=by omega
  subst this
  rw [Ap]
  obtain ⟨ms,VF⟩: ∃ms,ls.map (Bm g')=ms:=⟨_,rfl⟩
  have Bbo:ms.length=ls.length:=by rw [<-VF,Dl]
  have Aw8: ∀i (h:i<ls.length),ms[i]'(by omega)=Bm g' ls[i]:= λi h=>by simp only [<-VF,Tp]
  rw [VF]
  refine Db.mk (λv=>v.2.1=ms/\ ∃k:Nat,v.1=k/\k<=v.2.2.1.length/\bb (n',Asa,g',()) t.length v.2.2.1 v.2.2.2.1/\pZ v.2.2.2.2.1 v.2.2.1/\Qr g' ls (3001-k) k v.2.2.1 v.2.2.2.1=Kf g' t) (λv=>3001-v.1.toNat)
   ⟨rfl,0,rfl,by simp,hb0,h7,QD⟩ ?_
  rintro ⟨k',mv,L0,D0,mp,⟨⟩⟩ ⟨h1,k,h5,h6,h7,h8,h9⟩
  dsimp only at h1 h5 h6 h7 h8 h9
  subst h1 h5
  dsimp only
  have hL0:=h7.ok.uX
  have hD0:=h7.len
  refine Br.dec (λhl=>⟨rfl,rfl,rfl,rfl,rfl,rfl,rfl,rfl,?_⟩) λhl=>?_
  ·have hk:k<L0.length:=by omega
   have hkD:k<D0.length:=by omega
   have hx: ∀y∈L0[k],0<=y/\y<n':=h7.row _ (Ak hk)
   have hxl:L0[k].length=t.length:=h7.ok.len _ (Ak hk)
   have hdk:=h7.dep k hkD
   obtain ⟨f,hf⟩: ∃f,3001-k=f+1:=⟨3000-k,by omega⟩
   have hgo: ∀L' D' ok,Kv g' L0[k] D0[k] ls L0 D0=(L',D',ok)->Kf g' t=if ok=true then Qr g' ls f (k+1) L' D' else (L',D',false):=by
    intro L' D' ok he
    rw [<-h9,hf,Qr,Ab hk,au hk,Aj,Ac hkD]
    simp only [Cc]
    rw [he]
    cases ok<;>rfl
   refine Db.mk (λv=>v.2.1=mv/\ ∃i:Nat,v.1=i/\i<=ls.length/\bb (n',Asa,g',()) t.length v.2.2.1 v.2.2.2.1/\pZ v.2.2.2.2.1 v.2.2.1/\(∃A,v.2.2.1=L0++A)/\(∃A,v.2.2.2.1=D0++A)/\
     Kv g' L0[k] D0[k] (ls.drop i) v.2.2.1 v.2.2.2.1=Kv g' L0[k] D0[k] ls L0 D0) (λv=>ls.length-v.1.toNat)
    ⟨rfl,0,rfl,Ip _,h7,h8,⟨[],by simp⟩,⟨[],by simp⟩,rfl⟩ ?_
   rintro ⟨i',mv',L,D,mp2,⟨⟩⟩ ⟨g1,i,g5,g6,g7,g8,⟨A,g9⟩,⟨A',g10⟩,sV⟩
   dsimp only at g1 g5 g6 g7 g8 g9 g10 sV
   subst g1 g5
   dsimp only
   have hLf:=g7.ok.uX
   have hDl:=g7.len
   refine Br.dec (λhli=>?_) λhli=>?_
   ·have hi:i<ls.length:=by omega
    have hkL:k<L.length:=by rw [g9,Ax];omega
    have hLk:L[k]=L0[k]:=by simp only [g9];exact iU hk
    have Aly:k<D.length:=by rw [hDl];exact hkL
    have hDk:D[k]=D0[k]:=by simp only [g10];exact iU hkD
    have qx:=oF _ (Ak hi)
    obtain ⟨nl,nr⟩:=DJ hV hx qx
    dsimp only at nl nr
    have XQ:=lb hV qx
    dsimp only at XQ
    rw [Co hi] at sV
    simp only [Kv] at sV
    have hyb:=Ajo _ nr
    refine ⟨⟨by omega,by omega⟩,Bm g' ls[i],by rw [Ai,Bo,Ac (by omega),Aw8 i hi],⟨by omega,by omega⟩,L0[k],by rw [Ai,Bo,Ac hkL,hLk],
     _,Ab ⟨by show short L0[k];unfold short;omega,by show Mt (Bm g' ls[i]).length L0[k];intro y hy;have:=hx y hy;omega⟩,?_⟩
    dsimp only
    rw [show Eh (Bm g' ls[i]) L0[k]=Al L0[k] (Bm g' ls[i]) from rfl,Bz]
    generalize hyv:Al L0[k] (Bm g' ls[i])=yv at*
    refine ⟨_,Ab (by show short yv;unfold short;rw [nl];omega),?_⟩
    dsimp only
    rw [g8 _ hyb]
    refine ⟨λjD=>?_,λjD=>⟨rfl,rfl,rfl,rfl,rfl,rfl,rfl,rfl,?_⟩⟩
    ·have jD:yv∉L:=by simpa using jD
     rw [Ag jD] at sV
     refine ⟨λaA=>?_,λaA=>⟨rfl,rfl,by show L.length+1<=4294967296;omega,⟨by omega,by omega⟩,D0[k],by rw [Ai,Bo,Ac Aly,hDk],rfl,rfl,by show D.length+1<=4294967296;omega,rfl,rfl,rfl,rfl,rfl,rfl,rfl,rfl,?_⟩⟩
     ·have aA:L.length=3000:=by
       have:(L.length:Int)=3000:=by simpa using aA
       omega
      rw [Ab aA] at sV
      have:=hgo _ _ _ sV.symm
      rw [Ag (by decide)] at this
      have:=Aq4 _ _ _ this
      rw [Ag (by decide)] at this
      exact this
     ·have aA:L.length≠3000:=by
       have:(L.length:Int)≠3000:=by simpa using aA
       omega
      rw [Ag aA] at sV
      rw [Di (n:=D0[k]+1) (by omega) (by omega),Bg (by omega)]
      refine ⟨⟨rfl,i+1,rfl,hi,g7.add jD (by rw [nl,hxl]) (by omega) nr ⟨by omega,by omega⟩,g8.add hyb,⟨A++ [yv],by rw [g9,Dh];rfl⟩,⟨A'++ [D0[k]+1],by rw [g10,Dh];rfl⟩,sV⟩,by omega⟩
    ·have jD:yv∈L:=by simpa using jD
     rw [Ab jD] at sV
     rw [Bg (by omega)]
     exact ⟨⟨rfl,i+1,rfl,hi,g7,g8,⟨A,g9⟩,⟨A',g10⟩,sV⟩,by omega⟩
   ·have:i=ls.length:=by omega
    subst this
    rw [Is,Kv] at sV
    have:=hgo _ _ _ sV.symm
    rw [Ab rfl] at this
    rw [Bg (by omega)]
    refine ⟨rfl,rfl,rfl,rfl,rfl,rfl,⟨rfl,k+1,rfl,by rw [g9,Ax];omega,g7,g8,?_⟩,by omega⟩
    rw [show 3001-(k+1)=f by omega]
    exact this.symm
  ·have hk:k=L0.length:=by omega
   rw [Bz L0,Bz D0]
   obtain ⟨f,hf⟩: ∃f,3001-k=f+1:=⟨3000-k,by omega⟩
   rw [hf,Qr,Ag (by omega)] at h9
   have:=Aq4 _ _ _ h9.symm
   rw [Ab rfl] at this
   exact this
theorem wZ:Cb Tryz.prog 109 Zm:=
 Cb.de (rz [Sx+10]) (Et pw (Av cS (Av mw (Av kx (Et yG Bh))))) mixed Tryz.func109 (by kernel_rfl) (by kernel_rfl) λx h=>RS x.1 x.2.1 x.2.2.1 x.2.2.2.1 h
theorem uK {p:PP} {t:List Int} (h: ¬Ha p t=true):Hw p t=([],[],[],()):=Ag h
theorem RU (n:Int) (str:ByteArray) (g:List (List Int)) (t:List Int) (h:Ek (n,str,g,())/\short t):
  fnMW Uf (look [(108,Jh),(109,Zm)]) Zo Tryz.f96 (n,str,g,t,()) (λ(z:(List (List Int)×List Int×Bool×Unit)×Unit)=>z=(((Hw (n,str,g,()) t).2.1,(Hw (n,str,g,()) t).2.2.1,Ha (n,str,g,()) t,()),())):=by
 refine Eq.mp (UA n str g t _) ⟨_,Ab h,⟨λhn=>?_,λhn=>?_⟩⟩
 ·have hn: ¬Gf (n,str,g,()) t=true:=Fc hn
  have e: ¬Ha (n,str,g,()) t=true:= λhh=>hn (fi.1 hh).1
  rw [uK e,Jt.2 e]
  rfl
 ·have hn:Gf (n,str,g,()) t=true:=Hg hn
  refine ⟨_,Ab hn,?_⟩
  rw [Bz,Bz]
theorem x5:Cb Tryz.prog 96 Zo:=
 Cb.de Su (Av pz (Et wZ Bh)) mixed Tryz.func96 (by kernel_rfl) (by kernel_rfl) λx h=>RU x.1 x.2.1 x.2.2.1 x.2.2.2.1 h
theorem KU (n:Int) (str:ByteArray) (g:List (List Int)) (t:List Int) (h:Ek (n,str,g,())/\short t):
  fnMW Uf (look [(96,Zo),(97,cO)]) Wg Tryz.f75 (n,str,g,t,()) (λ(z:(List Int×List (List Int)×List Int×Bool×Unit)×Unit)=>z=(((Hw (n,str,g,()) t).1,(Hw (n,str,g,()) t).2.1,(Hw (n,str,g,()) t).2.2.1,Ha (n,str,g,()) t,()),())):=by
 refine Eq.mp (NH n str g t _) ⟨_,Ab h,⟨λhn=>?_,λhn=>?_⟩⟩
 ·have e: ¬Ha (n,str,g,()) t=true:=Fc hn
  rw [uK e,Jt.2 e]
  rfl
 ·have e:Ha (n,str,g,()) t=true:=Hg hn
  refine ⟨_,Ab h.2,?_⟩
  rw [Bz,Bz,Bz,e]
  have e2:(Hw (n,str,g,()) t).1=t:=by unfold Hw;rw [Ab e]
  rw [e2]
theorem tv:Cb Tryz.prog 75 Wg:=
 Cb.de Su (Et x5 (Et pw Bh)) mixed Tryz.func75 (by kernel_rfl) (by kernel_rfl) λx h=>KU x.1 x.2.1 x.2.2.1 x.2.2.2.1 h
theorem DQ (p:PP) (t:TT) (h:Ek p/\Om t):fnW En (look [(75,Wg),(76,Iy)]) Qy Tryz.f52 (p,t,()) (λ(z:Bool)=>z=Gq p t):=by
 refine Eq.mp (FZ p t _) ⟨_,Ab ⟨h.1,h.2.1⟩,⟨λhn=>?_,λhn=>?_⟩⟩
 ·have e:Ha p t.1=true:=hn
  rw [Bz,Bz,Bz]
  refine ⟨_,Ab rJ,?_⟩
  unfold Gq
  rw [e];rfl
 ·have e:Ha p t.1=false:=hn
  unfold Gq
  rw [e];rfl
theorem rj:Sound Tryz.prog 52 Qy:=
 Sound.Fb De (Et tv (Av lL Bh)) mixed Tryz.func52 (by kernel_rfl) (by kernel_rfl) λx h=>DQ x.1 x.2.1 h
theorem DW (p:PP) (t:TT) (h:Ek p/\Om t):fnW En (look [(84,Wk),(85,Iy)]) Qy Tryz.f57 (p,t,()) (λ(z:Bool)=>z=Gq p t):=by
 refine Eq.mp (GF p t _) ⟨_,Ab ⟨h.1,h.2.1⟩,⟨λhn=>?_,λhn=>?_⟩⟩
 ·have e:Ha p t.1=true:=hn
  refine ⟨_,Ab rJ,?_⟩
  unfold Gq
  rw [e];rfl
 ·have e:Ha p t.1=false:=hn
  unfold Gq
  rw [e];rfl
theorem rm:Sound Tryz.prog 57 Qy:=
 Sound.Fb De (Av tE (Av lO Bh)) mixed Tryz.func57 (by kernel_rfl) (by kernel_rfl) λx h=>DW x.1 x.2.1 h
theorem As5 (t:TT) (p:PP) (h:Om t/\Ek p):fnW En (look [(52,Qy)]) AK Tryz.f51 (t,p,()) (λ(z:Bool)=>z=!Gq p t):=by
 exact Eq.mp (Asv t p _) ⟨_,Ab ⟨h.2,h.1⟩,rfl⟩
theorem Aa4:Sound Tryz.prog 51 AK:=
 Sound.Fb De (Av rj Bh) mixed Tryz.func51 (by kernel_rfl) (by kernel_rfl) λx h=>As5 x.1 x.2.1 h
theorem Anj (ts:List TT) (c:PP×Unit) (h:Gu ts/\Ek c.1):fnW En (look [(51,AK)]) qY Tryz.f74 (ts,c,()) (λ(z:Int)=>z=Sl (λt=>!Gq c.1 t) ts 0):=by
 obtain ⟨⟨h1,h2⟩,h3⟩:=h
 refine Eq.mp (Aod ts c _) ?_
 refine Bf ts.length (λv=>v.1) (λj _=>Sl (λt=>!Gq c.1 t) (ts.drop j) j=Sl (λt=>!Gq c.1 t) ts 0) rfl (by simp) ?_
 rintro j ⟨i,⟨⟩⟩ K hj hi hR hK
 dsimp only at hi⊢
 subst hi
 refine Br.dec (λhl=>?_) λhl=>?_
 ·have hl:j<ts.length:=by omega
  rw [Co hl] at hR
  simp only [Sl] at hR
  refine ⟨_,Bu hl,_,Ab ⟨h2 _ (Ak hl),h3⟩,⟨λhe=>?_,λhe=>?_⟩⟩
  ·have he:(!Gq c.1 ts[j])=true:=he
   rw [Ab he] at hR
   exact hR
  ·have he:(!Gq c.1 ts[j])=false:=he
   rw [Ag (by rw [he];decide)] at hR
   rw [Bg (by omega)]
   exact hK hl _ rfl (by push_cast;exact hR)
 ·have:j=ts.length:=by omega
  subst this
  rw [Is] at hR
  exact hR
theorem TC:Sound Tryz.prog 74 qY:=
 Sound.Fb De (Av Aa4 Bh) mixed Tryz.func74 (by kernel_rfl) (by kernel_rfl) λx h=>Anj x.1 x.2.1 h
theorem vK (q:TT->Bool): ∀(ts:List TT) (k:Int),0<=k->decide (Sl q ts k>=0)=ts.any q
 | [],k,_=>by simp [Sl]
 |t::ts,k,hk=>by
  have ih:=vK q ts (k+1) (by omega)
  rw [List.any_cons]
  by_cases e:q t=true
  ·have e2:Sl q (t::ts) k=k:=Ab e
   rw [e]
   exact Er (by rw [e2];exact hk)
  ·have e2:Sl q (t::ts) k=Sl q ts (k+1):=Ag e
   rw [Jt.2 e,Pq,<-ih]
   exact decide_eq_decide.2 (by rw [e2])
theorem Anc (ts:List TT) (c:PP×Unit) (h:Gu ts/\Ek c.1):fnW En (look [(74,qY)]) qT Tryz.f50 (ts,c,()) (λ(z:Bool)=>z=List.any ts (λt=>!Gq c.1 t)):=by
 exact Eq.mp (Ao7 ts c _) ⟨_,Ab h,vK _ ts 0 (Oe 0)⟩
theorem SY:Sound Tryz.prog 50 qT:=
 Sound.Fb De (Av TC Bh) mixed Tryz.func50 (by kernel_rfl) (by kernel_rfl) λx h=>Anc x.1 x.2.1 h
theorem GX (q:TT->Bool) (ts:List TT):(!List.any ts λt=>!q t)=List.all ts q:=by
 induction ts with
 |nil=>rfl
 |cons t ts ih=>simp only [List.any_cons,Ie,<-ih];cases q t<;>simp
theorem wi (p:PP) (ts:List TT) (h:Ek p/\Gu ts):fnW En (look [(49,Ia),(50,qT)]) Lq Tryz.f37 (p,ts,()) (λ(z:Bool)=>z=Ge p ts):=by
 refine Eq.mp (xx p ts _) ⟨_,Ab h.1,⟨λhv=>Br.dec (λhl=>⟨_,Ab ⟨h.2,h.1⟩,?_⟩) λhl=>?_,λhv=>?_⟩⟩
 ·have hv:Ds p=true:=hv
  have hl:ts.length<=4:=by omega
  show (!List.any ts λt=>!Gq p t)=_
  rw [GX]
  unfold Ge
  rw [hv,Er hl];rfl
 ·unfold Ge
  rw [Dr (by omega),Bool.and_false];rfl
 ·have hv:Ds p=false:=hv
  unfold Ge
  rw [hv];rfl
theorem nH:Sound Tryz.prog 37 Lq:=
 Sound.Fb De (Av Zr (Av SY Bh)) mixed Tryz.func37 (by kernel_rfl) (by kernel_rfl) λx h=>wi x.1 x.2.1 h
theorem wj (p:PP) (ts:List TT) (h:Ek p/\Gu ts):fnW En (look [(56,Ia),(57,Qy)]) Lq Tryz.f42 (p,ts,()) (λ(z:Bool)=>z=Ge p ts):=by
 refine Eq.mp (xy p ts _) ⟨_,Ab h.1,⟨λhv=>?_,λhv=>Br.dec (λhl=>?_) λhl=>?_⟩⟩
 ·have hv:Ds p=false:=Jt.2 (Fc hv)
  unfold Ge
  rw [hv];rfl
 ·unfold Ge
  rw [Dr (by omega),Bool.and_false];rfl
 ·have hv:Ds p=true:=Hg hv
  have hl:ts.length<=4:=by omega
  have e:Ge p ts=List.all ts (Gq p):=by
   unfold Ge
   rw [hv,Er hl];rfl
  rw [e]
  refine Bf ts.length (λv=>v.1) (λj v=>v.2.1=p.1/\v.2.2.1=p.2.1/\v.2.2.2.1=p.2.2.1/\List.all (ts.drop j) (Gq p)=List.all ts (Gq p)) rfl ⟨rfl,rfl,rfl,by simp⟩ ?_
  rintro j ⟨i,n1,n2,n3,⟨⟩⟩ K hj hi ⟨h1,h2,h3,hR⟩ hK
  dsimp only at hi h1 h2 h3 hR⊢
  subst hi h1 h2 h3
  refine Br.dec (λhl=>?_) λhl=>?_
  ·have hl:j<ts.length:=by omega
   rw [Co hl,Ie] at hR
   refine ⟨_,Bu hl,_,Ab ⟨h.1,h.2.2 _ (Ak hl)⟩,⟨λhe=>?_,λhe=>?_⟩⟩
   ·have he:Gq p ts[j]=false:=Jt.2 (Fc he)
    rw [he,Bool.false_and] at hR
    exact hR
   ·have he:Gq p ts[j]=true:=Hg he
    rw [he,cg] at hR
    rw [Bg (by omega)]
    exact hK hl _ rfl ⟨rfl,rfl,rfl,hR⟩
  ·have:j=ts.length:=by omega
   subst this
   rw [Is] at hR
   exact hR
theorem nI:Sound Tryz.prog 42 Lq:=
 Sound.Fb De (Av Zs (Av rm Bh)) mixed Tryz.func42 (by kernel_rfl) (by kernel_rfl) λx h=>wj x.1 x.2.1 h
theorem Anp (ts:List TT) (k:Int) (h:Gu ts/\roomy k):fnW En (look [(19,ca)]) r6 Tryz.f5 (ts,k,()) (λ(z:Int)=>z=cK ts k):=by
 obtain ⟨⟨h1,h2⟩,h3,h4⟩:=h
 refine Eq.mp (Aoj ts k _) ?_
 rw [Di (by omega) (by omega)]
 refine Br.dec (λhn=>?_) λhn=>?_
 ·exact (Ab hn).symm
 ·have e:cK ts k=cV ts (k-ts.length):=Ag hn
  rw [e]
  refine Bf ts.length (λv=>v.2.1) (λj v=>roomy v.1/\cV (ts.drop j) v.1=cV ts (k-ts.length)) rfl ⟨⟨by omega,by omega⟩,by simp⟩ ?_
  rintro j ⟨r,i,⟨⟩⟩ K hj hi ⟨hr,hR⟩ hK
  dsimp only at hi hr hR⊢
  subst hi
  refine Br.dec (λhl=>?_) λhl=>?_
  ·have hl:j<ts.length:=by omega
   rw [Co hl] at hR
   simp only [cV] at hR
   refine ⟨_,Bu hl,_,Ab ⟨h2 _ (Ak hl),hr⟩,Br.dec (λhm=>?_) λhm=>?_⟩
   ·have hm:Ml ts[j] r<0:=hm
    rw [Ab hm] at hR
    exact hR
   ·have hm: ¬Ml ts[j] r<0:=hm
    rw [Ag hm] at hR
    rw [Bg (by omega)]
    exact hK hl _ rfl ⟨jO hr hm,hR⟩
  ·have:j=ts.length:=by omega
   subst this
   rw [Is] at hR
   exact hR
theorem TF:Sound Tryz.prog 5 r6:=
 Sound.Fb De (Av yK Bh) mixed Tryz.func5 (by kernel_rfl) (by kernel_rfl) λx h=>Anp x.1 x.2.1 h
theorem Ans (ts:List TT) (h:Gu ts):fnW En (look [(23,cc)]) wI Tryz.f8 (ts,()) (λ(z:List TT)=>z=ts):=by
 obtain ⟨h,h4⟩:=h
 refine Eq.mp (Aom ts _) ?_
 refine ⟨⟨by omega,by show (ts.length:Int)<(4294967296:Int)+1;omega⟩,rfl,rfl,rfl,?_⟩
 refine Bf ts.length (λv=>v.1) (λj v=>v.2.1.length=ts.length/\v.2.1.take j=ts.take j) rfl ⟨by simp,by simp⟩ ?_
 rintro j ⟨i,ys,⟨⟩⟩ K hj hi ⟨h1,h2⟩ hK
 dsimp only at hi h1 h2⊢
 subst hi
 refine Br.dec (λhl=>?_) λhl=>?_
 ·have hl:j<ts.length:=by omega
  refine ⟨_,Bu hl,_,Ab (h4 _ (Ak hl)),⟨by omega,by omega⟩,by rw [Ai];omega,rfl,by rw [Bj],?_⟩
  rw [Bg (by omega),Ai,Bo]
  exact hK hl _ rfl ⟨by rw [Bj];exact h1,Ky hl h1 h2⟩
 ·have:j=ts.length:=by omega
  subst this
  rw [Ap,<-h1,Ap] at h2
  rw [Dp,Ap]
  exact h2
theorem TG:Sound Tryz.prog 8 wI:=
 Sound.Fb De (Av yM Bh) mixed Tryz.func8 (by kernel_rfl) (by kernel_rfl) λx h=>Ans x.1 h
theorem qC {a b:TT} :Px a b=true↔a=b:=by
 obtain ⟨a1,a2,a3,⟨⟩⟩:=a
 obtain ⟨b1,b2,b3,⟨⟩⟩:=b
 simp [Px]
theorem Ang (a b:List TT) (h:Gu a):fnW En (look [(28,Iy)]) qU Tryz.f13 (a,b,()) (λ(z:Bool)=>z=decide (a=b)):=by
 obtain ⟨h1,h2⟩:=h
 refine Eq.mp (Aoa a b _) ⟨λhl=>?_,λhl=>?_⟩
 ·have hl:a.length≠b.length:=by
   have:(a.length:Int)≠b.length:=by simpa using hl
   omega
  exact (Dr λe=>hl (by rw [e])).symm
 ·have hl:a.length=b.length:=by
   have:(a.length:Int)=b.length:=by simpa using hl
   omega
  refine Bf a.length (λv=>v.1) (λj _=>(a=b↔a.drop j=b.drop j)) rfl (by simp) ?_
  rintro j ⟨i,⟨⟩⟩ K hj hi hR hK
  dsimp only at hi⊢
  subst hi
  refine Br.dec (λhla=>?_) λhla=>?_
  ·have hla:j<a.length:=by omega
   have hlb:j<b.length:=by omega
   rw [Co hla,Co hlb] at hR
   refine ⟨_,Bu hla,_,Bu hlb,_,Ab (h2 _ (Ak hla)),⟨λhe=>?_,λhe=>?_⟩⟩
   ·have he: ¬Px a[j] b[j]=true:=Fc he
    refine (Dr λe=>he (qC.2 ?_)).symm
    have:=hR.1 e
    simp only [Gj] at this
    exact this.1
   ·have he:Px a[j] b[j]=true:=Hg he
    rw [qC.1 he] at hR
    rw [Bg (by omega)]
    exact hK hla _ rfl (hR.trans ⟨λe=>(List.cons.inj e).2,λe=>by rw [e]⟩)
  ·have:j=a.length:=by omega
   subst this
   rw [Is,hl,Is] at hR
   exact (Er (hR.2 rfl)).symm
theorem SZ:Sound Tryz.prog 13 qU:=
 Sound.Fb De (Av yA Bh) mixed Tryz.func13 (by kernel_rfl) (by kernel_rfl) λx h=>Ang x.1 x.2.1 h
end Go.Proofs.YtfgfigkbgecfnaaGreat
