/-
  Part 50 of the proof that the statement FnExactStateClassCount holds.
-/
import Derived.Test.YtebabhocakedaaaCStateClassCount48
namespace Go.Proofs.Ytebabhocakedaaa
open Go.RowKit
theorem bki(p:Int×ByteArray×List(List Int)×Unit)(P:(Option(PP×List(List Int)×List Int×(ByteArray→Option Int)×List Int×List Int×List(List Int)×Unit)×Bool×Unit)→Prop):(∃(y2:Int),
 Kh.fn((p.1,p.2.1,p.2.2.1,()),())=some y2∧
 ∃(y3:Bool),
 Cc.fn(y2,(1:Int),(3000:Int),())=some y3∧
 Br(!y3)(P(none,false,()))
 (∃(y4:List Int),
 Mb.fn(p.1,())=some y4∧
 ∃(y5:ByteArray),
 Ek.fn(y4,())=some y5∧
 (∃(y6:List Int),
 Gq.fn((↑p.2.2.1.length:Int),())=some y6∧
 (0:Nat)=(0:Nat)∧
 (1:Nat)= [y4].length∧
 (0:Nat)=(0:Nat)∧
 (1:Nat)= [(0:Int)].length∧
 (0:Nat)=(0:Nat)∧
 (1:Nat)= [(0:Int)].length∧
 (0:Nat)=(0:Nat)∧
 (1:Nat)= [(0:Int)].length∧
 (0:Nat)=(0:Nat)∧
 (0:Nat)=([]:List Int).length∧
 Bo
 (fun
 (v7:
 Int×
 Int×
 ByteArray×
 List(List Int)×
 List(List Int)×List Int×(ByteArray→Option Int)×List Int×List Int×Int×ByteArray×List(List Int)×List(List Int)×PUnit)
 (k8:
 Int×
 Int×
 ByteArray×
 List(List Int)×
 List(List Int)×
 List Int×(ByteArray→Option Int)×List Int×List Int×Int×ByteArray×List(List Int)×List(List Int)×PUnit→
 Prop)=>
 Br(decide(v7.1<(↑v7.2.2.2.2.1.length:Int)))
 (((0:Int)≤v7.1∧v7.1<(↑v7.2.2.2.2.1.length:Int))∧
 ∃(y9:List Int),
 v7.2.2.2.2.1[(0:Nat)+v7.1.toNat]?=some y9∧
 ∃(y10:List(List Int)),
 aay.fn((v7.2.1,v7.2.2.1,v7.2.2.2.1,()),y9,())=some y10∧
 (0:Nat)=(0:Nat)∧
 (0:Nat)=([]:List Int).length∧
 (0:Nat)=(0:Nat)∧
 v7.2.2.2.2.1.length=v7.2.2.2.2.1.length∧
 (0:Nat)=(0:Nat)∧
 v7.2.2.2.2.2.1.length=v7.2.2.2.2.2.1.length∧
 (0:Nat)=(0:Nat)∧
 v7.2.2.2.2.2.2.2.1.length=v7.2.2.2.2.2.2.2.1.length∧
 (0:Nat)=(0:Nat)∧
 v7.2.2.2.2.2.2.2.2.1.length=v7.2.2.2.2.2.2.2.2.1.length∧
 (0:Nat)=(0:Nat)∧
 v7.2.2.2.2.2.2.2.2.2.2.2.2.1.length=v7.2.2.2.2.2.2.2.2.2.2.2.2.1.length∧
 Bo
 (fun
 (v11:
 Int×
 Int×
 ByteArray×
 List(List Int)×
 List Int×
 List(List Int)×
 List Int×
 (ByteArray→Option Int)×
 List Int×List Int×Int×ByteArray×List(List Int)×List(List Int)×PUnit)
 (k12:
 Int×
 Int×
 ByteArray×
 List(List Int)×
 List Int×
 List(List Int)×
 List Int×
 (ByteArray→Option Int)×
 List Int×List Int×Int×ByteArray×List(List Int)×List(List Int)×PUnit→
 Prop)=>
 Br(decide(v11.1<(↑y10.length:Int)))
 (∃(y13:List Int),
 idx y10 v11.1=some y13∧
 ∃(y14:ByteArray),
 Ek.fn(y13,())=some y14∧
 Br(!(v11.2.2.2.2.2.2.2.1 y14).isSome)
 (∃(y15:Int),
 aaw.fn
 (List.take v11.2.2.2.2.2.1.length(List.drop((0:Nat))v11.2.2.2.2.2.1),())=
 some y15∧
 (0:Nat)=(0:Nat)∧
 v11.2.2.2.2.2.1.length=v11.2.2.2.2.2.1.length∧
 v11.2.2.2.2.2.1.length+(List.take(1:Nat)(List.drop(0:Nat) [y13])).length≤
 Am∧
 ((0:Int)≤v7.1∧v7.1<(↑v11.2.2.2.2.2.2.1.length:Int))∧
 ∃(y16:Int),
 v11.2.2.2.2.2.2.1[(0:Nat)+v7.1.toNat]?=some y16∧
 (0:Nat)=(0:Nat)∧
 v11.2.2.2.2.2.2.1.length=v11.2.2.2.2.2.2.1.length∧
 v11.2.2.2.2.2.2.1.length+ [IntKind.i64.wrap(y16+(1:Int))].length≤
 Am∧
 (0:Nat)=(0:Nat)∧
 v11.2.2.2.2.2.2.2.2.1.length=
 v11.2.2.2.2.2.2.2.2.1.length∧
 v11.2.2.2.2.2.2.2.2.1.length+
 (List.take(1:Nat)(List.drop(0:Nat) [v7.1])).length≤
 Am∧
 ∃(y17:Int),
 idx y6 v11.1=some y17∧
 (0:Nat)=(0:Nat)∧
 v11.2.2.2.2.2.2.2.2.2.1.length=
 v11.2.2.2.2.2.2.2.2.2.1.length∧
 v11.2.2.2.2.2.2.2.2.2.1.length+ [y17].length≤
 Am∧
 (0:Nat)=(0:Nat)∧
 v11.2.2.2.2.1.length=v11.2.2.2.2.1.length∧
 v11.2.2.2.2.1.length+
 (List.take(1:Nat)
 (List.drop(0:Nat) [y15])).length≤
 Am∧
 (0:Nat)=(0:Nat)∧
 (v11.2.2.2.2.1++
 List.take(1:Nat)
 (List.drop(0:Nat) [y15])).length=
 (v11.2.2.2.2.1++
 List.take(1:Nat)
 (List.drop(0:Nat) [y15])).length∧
 (0:Nat)=(0:Nat)∧
 (v11.2.2.2.2.2.1++
 List.take(1:Nat)
 (List.drop(0:Nat) [y13])).length=
 (v11.2.2.2.2.2.1++
 List.take(1:Nat)
 (List.drop(0:Nat) [y13])).length∧
 (0:Nat)=(0:Nat)∧
 (v11.2.2.2.2.2.2.1++
 [IntKind.i64.wrap
 (y16+(1:Int))]).length=
 (v11.2.2.2.2.2.2.1++
 [IntKind.i64.wrap
 (y16+(1:Int))]).length∧
 (0:Nat)=(0:Nat)∧
 (v11.2.2.2.2.2.2.2.2.1++
 List.take(1:Nat)
 (List.drop(0:Nat)
 [v7.1])).length=
 (v11.2.2.2.2.2.2.2.2.1++
 List.take(1:Nat)
 (List.drop(0:Nat)
 [v7.1])).length∧
 (0:Nat)=(0:Nat)∧
 (v11.2.2.2.2.2.2.2.2.2.1++
 [y17]).length=
 (v11.2.2.2.2.2.2.2.2.2.1++
 [y17]).length∧
 (0:Nat)=(0:Nat)∧
 v11.2.2.2.2.2.2.2.2.2.2.2.2.2.1.length=
 v11.2.2.2.2.2.2.2.2.2.2.2.2.2.1.length∧
 k12
 (IntKind.i64.wrap
 (v11.1+(1:Int)),
 v11.2.1,v11.2.2.1,
 v11.2.2.2.1,
 v11.2.2.2.2.1++
 List.take(1:Nat)
 (List.drop(0:Nat)
 [y15]),
 v11.2.2.2.2.2.1++
 List.take(1:Nat)
 (List.drop(0:Nat)
 [y13]),
 v11.2.2.2.2.2.2.1++
 [IntKind.i64.wrap
 (y16+(1:Int))],
 Ei
 v11.2.2.2.2.2.2.2.1
 y14 y15,
 v11.2.2.2.2.2.2.2.2.1++
 List.take(1:Nat)
 (List.drop(0:Nat)
 [v7.1]),
 v11.2.2.2.2.2.2.2.2.2.1++
 [y17],
 v11.2.2.2.2.2.2.2.2.2.2.1,
 v11.2.2.2.2.2.2.2.2.2.2.2.1,
 v11.2.2.2.2.2.2.2.2.2.2.2.2.1,
 v11.2.2.2.2.2.2.2.2.2.2.2.2.2.1,
 ()))
 ((0:Nat)=(0:Nat)∧
 v11.2.2.2.2.1.length=v11.2.2.2.2.1.length∧
 v11.2.2.2.2.1.length+
 (List.take(1:Nat)
 (List.drop(0:Nat)
 [(v11.2.2.2.2.2.2.2.1 y14).getD(Int.ofNat(nat_lit 0))])).length≤
 Am∧
 (0:Nat)=(0:Nat)∧
 (v11.2.2.2.2.1++
 List.take(1:Nat)
 (List.drop(0:Nat)
 [(v11.2.2.2.2.2.2.2.1 y14).getD(Int.ofNat(nat_lit 0))])).length=
 (v11.2.2.2.2.1++
 List.take(1:Nat)
 (List.drop(0:Nat)
 [(v11.2.2.2.2.2.2.2.1 y14).getD(Int.ofNat(nat_lit 0))])).length∧
 (0:Nat)=(0:Nat)∧
 v11.2.2.2.2.2.1.length=v11.2.2.2.2.2.1.length∧
 (0:Nat)=(0:Nat)∧
 v11.2.2.2.2.2.2.1.length=v11.2.2.2.2.2.2.1.length∧
 (0:Nat)=(0:Nat)∧
 v11.2.2.2.2.2.2.2.2.1.length=
 v11.2.2.2.2.2.2.2.2.1.length∧
 (0:Nat)=(0:Nat)∧
 v11.2.2.2.2.2.2.2.2.2.1.length=
 v11.2.2.2.2.2.2.2.2.2.1.length∧
 (0:Nat)=(0:Nat)∧
 v11.2.2.2.2.2.2.2.2.2.2.2.2.2.1.length=
 v11.2.2.2.2.2.2.2.2.2.2.2.2.2.1.length∧
 k12
 (IntKind.i64.wrap(v11.1+(1:Int)),v11.2.1,v11.2.2.1,
 v11.2.2.2.1,
 v11.2.2.2.2.1++
 List.take(1:Nat)
 (List.drop(0:Nat)
 [(v11.2.2.2.2.2.2.2.1 y14).getD
 (Int.ofNat(nat_lit 0))]),
 v11.2.2.2.2.2.1,v11.2.2.2.2.2.2.1,
 v11.2.2.2.2.2.2.2.1,v11.2.2.2.2.2.2.2.2.1,
 v11.2.2.2.2.2.2.2.2.2.1,
 v11.2.2.2.2.2.2.2.2.2.2.1,
 v11.2.2.2.2.2.2.2.2.2.2.2.1,
 v11.2.2.2.2.2.2.2.2.2.2.2.2.1,
 v11.2.2.2.2.2.2.2.2.2.2.2.2.2.1,())))
 ((0:Nat)=(0:Nat)∧
 v11.2.2.2.2.2.2.2.2.2.2.2.2.2.1.length=
 v11.2.2.2.2.2.2.2.2.2.2.2.2.2.1.length∧
 v11.2.2.2.2.2.2.2.2.2.2.2.2.2.1.length+
 (List.take(1:Nat)
 (List.drop(0:Nat)
 [List.take v11.2.2.2.2.1.length(List.drop((0:Nat))v11.2.2.2.2.1)])).length≤
 Am∧
 (0:Nat)=(0:Nat)∧
 v11.2.2.2.2.2.1.length=v11.2.2.2.2.2.1.length∧
 (0:Nat)=(0:Nat)∧
 v11.2.2.2.2.2.2.1.length=v11.2.2.2.2.2.2.1.length∧
 (0:Nat)=(0:Nat)∧
 v11.2.2.2.2.2.2.2.2.1.length=v11.2.2.2.2.2.2.2.2.1.length∧
 (0:Nat)=(0:Nat)∧
 v11.2.2.2.2.2.2.2.2.2.1.length=v11.2.2.2.2.2.2.2.2.2.1.length∧
 (0:Nat)=(0:Nat)∧
 (v11.2.2.2.2.2.2.2.2.2.2.2.2.2.1++
 List.take(1:Nat)
 (List.drop(0:Nat)
 [List.take v11.2.2.2.2.1.length
 (List.drop((0:Nat))v11.2.2.2.2.1)])).length=
 (v11.2.2.2.2.2.2.2.2.2.2.2.2.2.1++
 List.take(1:Nat)
 (List.drop(0:Nat)
 [List.take v11.2.2.2.2.1.length
 (List.drop((0:Nat))v11.2.2.2.2.1)])).length∧
 k8
 (IntKind.i64.wrap(v7.1+(1:Int)),v11.2.1,v11.2.2.1,v11.2.2.2.1,
 v11.2.2.2.2.2.1,v11.2.2.2.2.2.2.1,v11.2.2.2.2.2.2.2.1,
 v11.2.2.2.2.2.2.2.2.1,v11.2.2.2.2.2.2.2.2.2.1,
 v11.2.2.2.2.2.2.2.2.2.2.1,v11.2.2.2.2.2.2.2.2.2.2.2.1,
 v11.2.2.2.2.2.2.2.2.2.2.2.2.1,
 v11.2.2.2.2.2.2.2.2.2.2.2.2.2.1++
 List.take(1:Nat)
 (List.drop(0:Nat)
 [List.take v11.2.2.2.2.1.length
 (List.drop((0:Nat))v11.2.2.2.2.1)]),
 ())))
 ((0:Int),v7.2.1,v7.2.2.1,v7.2.2.2.1,[],v7.2.2.2.2.1,v7.2.2.2.2.2.1,
 v7.2.2.2.2.2.2.1,v7.2.2.2.2.2.2.2.1,v7.2.2.2.2.2.2.2.2.1,
 v7.2.2.2.2.2.2.2.2.2.1,v7.2.2.2.2.2.2.2.2.2.2.1,v7.2.2.2.2.2.2.2.2.2.2.2.1,
 v7.2.2.2.2.2.2.2.2.2.2.2.2.1,PUnit.unit))
 (P
 (some
 ((v7.2.2.2.2.2.2.2.2.2.1,v7.2.2.2.2.2.2.2.2.2.2.1,v7.2.2.2.2.2.2.2.2.2.2.2.1,()),
 List.take v7.2.2.2.2.1.length(List.drop((0:Nat))v7.2.2.2.2.1),
 List.take v7.2.2.2.2.2.1.length(List.drop((0:Nat))v7.2.2.2.2.2.1),v7.2.2.2.2.2.2.1,
 List.take v7.2.2.2.2.2.2.2.1.length(List.drop((0:Nat))v7.2.2.2.2.2.2.2.1),
 List.take v7.2.2.2.2.2.2.2.2.1.length(List.drop((0:Nat))v7.2.2.2.2.2.2.2.2.1),
 List.take v7.2.2.2.2.2.2.2.2.2.2.2.2.1.length(List.drop((0:Nat))v7.2.2.2.2.2.2.2.2.2.2.2.2.1),()),
 true,())))
 ((0:Int),p.1,p.2.1,p.2.2.1,[y4],[(0:Int)],Ei(fun(_:ByteArray)=>none)y5(0:Int),[(0:Int)],[(0:Int)],p.1,p.2.1,
 p.2.2.1,([]:List(List Int)),PUnit.unit))∧
 ((∃(y6:ByteArray),
 Ek.fn(y4,())=some y6∧
 [((0:Nat),(1:Nat)),((0:Nat),(1:Nat)),((0:Nat),(1:Nat)),((0:Nat),(1:Nat)),((0:Nat),(1:Nat)),((0:Nat),(1:Nat)),((0:Nat),(1:Nat)),
 ((0:Nat),(1:Nat)),((0:Nat),(1:Nat)),((0:Nat),(1:Nat)),((0:Nat),(1:Nat)),((0:Nat),(1:Nat)),((0:Nat),(0:Nat))]=
 [((0:Nat),(1:Nat)),((0:Nat),(1:Nat)),((0:Nat),(1:Nat)),((0:Nat),(1:Nat)),((0:Nat),(1:Nat)),((0:Nat),(1:Nat)),((0:Nat),(1:Nat)),
 ((0:Nat),(1:Nat)),((0:Nat),(1:Nat)),((0:Nat),(1:Nat)),((0:Nat),(1:Nat)),((0:Nat),(1:Nat)),((0:Nat),(0:Nat))]∧
 (p,false,y4,p.1,p.2.1,p.2.2.1,y2,y3,!y3,p.1,y4,p.1,p.2.1,p.2.2.1,y4,y4,y6,p.1,p.2.1,p.2.2.1,p.1,p.2.1,p.2.2.1,
 [y4],[(0:Int)],Ei(fun(_:ByteArray)=>none)y6(0:Int),[(0:Int)],[(0:Int)],p.1,p.2.1,p.2.2.1,([]:List(List Int)),())=
 (p,false,y4,p.1,p.2.1,p.2.2.1,y2,y3,!y3,p.1,y4,p.1,p.2.1,p.2.2.1,y4,y4,y5,p.1,p.2.1,p.2.2.1,p.1,p.2.1,p.2.2.1,
 [y4],[(0:Int)],Ei(fun(_:ByteArray)=>none)y5(0:Int),[(0:Int)],[(0:Int)],p.1,p.2.1,p.2.2.1,([]:List(List Int)),PUnit.unit))∧
 ∃(y6:ByteArray),
 Ek.fn(y4,())=some y6∧
 ([((0:Nat),(1:Nat)),((0:Nat),(1:Nat)),((0:Nat),(1:Nat)),((0:Nat),(1:Nat)),((0:Nat),(1:Nat)),((0:Nat),(1:Nat)),((0:Nat),(1:Nat)),
 ((0:Nat),(1:Nat)),((0:Nat),(1:Nat)),((0:Nat),(1:Nat)),((0:Nat),(1:Nat)),((0:Nat),(1:Nat)),((0:Nat),(0:Nat))]=
 [((0:Nat),(1:Nat)),((0:Nat),(1:Nat)),((0:Nat),(1:Nat)),((0:Nat),(1:Nat)),((0:Nat),(1:Nat)),((0:Nat),(1:Nat)),
 ((0:Nat),(1:Nat)),((0:Nat),(1:Nat)),((0:Nat),(1:Nat)),((0:Nat),(1:Nat)),((0:Nat),(1:Nat)),((0:Nat),(1:Nat)),
 ((0:Nat),(0:Nat))]∧
 (p,false,y4,p.1,p.2.1,p.2.2.1,y2,y3,!y3,p.1,y4,p.1,p.2.1,p.2.2.1,y4,y4,y6,p.1,p.2.1,p.2.2.1,p.1,p.2.1,p.2.2.1,
 [y4],[(0:Int)],Ei(fun(_:ByteArray)=>none)y6(0:Int),[(0:Int)],[(0:Int)],p.1,p.2.1,p.2.2.1,([]:List(List Int)),())=
 (p,false,y4,p.1,p.2.1,p.2.2.1,y2,y3,!y3,p.1,y4,p.1,p.2.1,p.2.2.1,y4,y4,y5,p.1,p.2.1,p.2.2.1,p.1,p.2.1,p.2.2.1,
 [y4],[(0:Int)],Ei(fun(_:ByteArray)=>none)y5(0:Int),[(0:Int)],[(0:Int)],p.1,p.2.1,p.2.2.1,([]:List(List Int)),PUnit.unit))∧
 ([((0:Nat),(1:Nat)),((0:Nat),(1:Nat)),((0:Nat),(1:Nat)),((0:Nat),(1:Nat)),((0:Nat),(1:Nat)),((0:Nat),(1:Nat)),((0:Nat),(1:Nat)),
 ((0:Nat),(1:Nat)),((0:Nat),(1:Nat)),((0:Nat),(1:Nat)),((0:Nat),(1:Nat)),((0:Nat),(1:Nat)),((0:Nat),(0:Nat))]=
 [((0:Nat),(1:Nat)),((0:Nat),(1:Nat)),((0:Nat),(1:Nat)),((0:Nat),(1:Nat)),((0:Nat),(1:Nat)),((0:Nat),(1:Nat)),
 ((0:Nat),(1:Nat)),((0:Nat),(1:Nat)),((0:Nat),(1:Nat)),((0:Nat),(1:Nat)),((0:Nat),(1:Nat)),((0:Nat),(1:Nat)),
 ((0:Nat),(0:Nat))]∧
 (p,false,y4,p.1,p.2.1,p.2.2.1,y2,y3,!y3,p.1,y4,p.1,p.2.1,p.2.2.1,y4,y4,y6,p.1,p.2.1,p.2.2.1,p.1,p.2.1,p.2.2.1,
 [y4],[(0:Int)],Ei(fun(_:ByteArray)=>none)y6(0:Int),[(0:Int)],[(0:Int)],p.1,p.2.1,p.2.2.1,([]:List(List Int)),())=
 (p,false,y4,p.1,p.2.1,p.2.2.1,y2,y3,!y3,p.1,y4,p.1,p.2.1,p.2.2.1,y4,y4,y5,p.1,p.2.1,p.2.2.1,p.1,p.2.1,
 p.2.2.1,[y4],[(0:Int)],Ei(fun(_:ByteArray)=>none)y5(0:Int),[(0:Int)],[(0:Int)],p.1,p.2.1,p.2.2.1,([]:List(List Int)),PUnit.unit))∧
 [((0:Nat),(1:Nat)),((0:Nat),(1:Nat)),((0:Nat),(1:Nat)),((0:Nat),(1:Nat)),((0:Nat),(1:Nat)),((0:Nat),(1:Nat)),((0:Nat),(1:Nat)),
 ((0:Nat),(1:Nat)),((0:Nat),(1:Nat)),((0:Nat),(1:Nat)),((0:Nat),(1:Nat)),((0:Nat),(1:Nat)),((0:Nat),(0:Nat))]=
 [((0:Nat),(1:Nat)),((0:Nat),(1:Nat)),((0:Nat),(1:Nat)),((0:Nat),(1:Nat)),((0:Nat),(1:Nat)),((0:Nat),(1:Nat)),
 ((0:Nat),(1:Nat)),((0:Nat),(1:Nat)),((0:Nat),(1:Nat)),((0:Nat),(1:Nat)),((0:Nat),(1:Nat)),((0:Nat),(1:Nat)),
 ((0:Nat),(0:Nat))]∧
 (p,false,y4,p.1,p.2.1,p.2.2.1,y2,y3,!y3,p.1,y4,p.1,p.2.1,p.2.2.1,y4,y4,y6,p.1,p.2.1,p.2.2.1,p.1,p.2.1,p.2.2.1,
 [y4],[(0:Int)],Ei(fun(_:ByteArray)=>none)y6(0:Int),[(0:Int)],[(0:Int)],p.1,p.2.1,p.2.2.1,([]:List(List Int)),())=
 (p,false,y4,p.1,p.2.1,p.2.2.1,y2,y3,!y3,p.1,y4,p.1,p.2.1,p.2.2.1,y4,y4,y5,p.1,p.2.1,p.2.2.1,p.1,p.2.1,
 p.2.2.1,[y4],[(0:Int)],Ei(fun(_:ByteArray)=>none)y5(0:Int),[(0:Int)],[(0:Int)],p.1,p.2.1,p.2.2.1,([]:List(List Int)),PUnit.unit))∧
 ((∃(y6:ByteArray),
 Ek.fn(y4,())=some y6∧
 [((0:Nat),(1:Nat)),((0:Nat),(1:Nat)),((0:Nat),(1:Nat)),((0:Nat),(1:Nat)),((0:Nat),(1:Nat)),((0:Nat),(1:Nat)),((0:Nat),(1:Nat)),
 ((0:Nat),(1:Nat)),((0:Nat),(1:Nat)),((0:Nat),(1:Nat)),((0:Nat),(1:Nat)),((0:Nat),(1:Nat)),((0:Nat),(0:Nat))]=
 [((0:Nat),(1:Nat)),((0:Nat),(1:Nat)),((0:Nat),(1:Nat)),((0:Nat),(1:Nat)),((0:Nat),(1:Nat)),((0:Nat),(1:Nat)),
 ((0:Nat),(1:Nat)),((0:Nat),(1:Nat)),((0:Nat),(1:Nat)),((0:Nat),(1:Nat)),((0:Nat),(1:Nat)),((0:Nat),(1:Nat)),
 ((0:Nat),(0:Nat))]∧
 (p,false,y4,p.1,p.2.1,p.2.2.1,y2,y3,!y3,p.1,y4,p.1,p.2.1,p.2.2.1,y4,y4,y6,p.1,p.2.1,p.2.2.1,p.1,p.2.1,p.2.2.1,
 [y4],[(0:Int)],Ei(fun(_:ByteArray)=>none)y6(0:Int),[(0:Int)],[(0:Int)],p.1,p.2.1,p.2.2.1,([]:List(List Int)),())=
 (p,false,y4,p.1,p.2.1,p.2.2.1,y2,y3,!y3,p.1,y4,p.1,p.2.1,p.2.2.1,y4,y4,y5,p.1,p.2.1,p.2.2.1,p.1,p.2.1,p.2.2.1,
 [y4],[(0:Int)],Ei(fun(_:ByteArray)=>none)y5(0:Int),[(0:Int)],[(0:Int)],p.1,p.2.1,p.2.2.1,([]:List(List Int)),PUnit.unit))∧
 ∃(y6:ByteArray),
 Ek.fn(y4,())=some y6∧
 ([((0:Nat),(1:Nat)),((0:Nat),(1:Nat)),((0:Nat),(1:Nat)),((0:Nat),(1:Nat)),((0:Nat),(1:Nat)),((0:Nat),(1:Nat)),((0:Nat),(1:Nat)),
 ((0:Nat),(1:Nat)),((0:Nat),(1:Nat)),((0:Nat),(1:Nat)),((0:Nat),(1:Nat)),((0:Nat),(1:Nat)),((0:Nat),(0:Nat))]=
 [((0:Nat),(1:Nat)),((0:Nat),(1:Nat)),((0:Nat),(1:Nat)),((0:Nat),(1:Nat)),((0:Nat),(1:Nat)),((0:Nat),(1:Nat)),
 ((0:Nat),(1:Nat)),((0:Nat),(1:Nat)),((0:Nat),(1:Nat)),((0:Nat),(1:Nat)),((0:Nat),(1:Nat)),((0:Nat),(1:Nat)),
 ((0:Nat),(0:Nat))]∧
 (p,false,y4,p.1,p.2.1,p.2.2.1,y2,y3,!y3,p.1,y4,p.1,p.2.1,p.2.2.1,y4,y4,y6,p.1,p.2.1,p.2.2.1,p.1,p.2.1,p.2.2.1,
 [y4],[(0:Int)],Ei(fun(_:ByteArray)=>none)y6(0:Int),[(0:Int)],[(0:Int)],p.1,p.2.1,p.2.2.1,([]:List(List Int)),())=
 (p,false,y4,p.1,p.2.1,p.2.2.1,y2,y3,!y3,p.1,y4,p.1,p.2.1,p.2.2.1,y4,y4,y5,p.1,p.2.1,p.2.2.1,p.1,p.2.1,
 p.2.2.1,[y4],[(0:Int)],Ei(fun(_:ByteArray)=>none)y5(0:Int),[(0:Int)],[(0:Int)],p.1,p.2.1,p.2.2.1,([]:List(List Int)),PUnit.unit))∧
 ([((0:Nat),(1:Nat)),((0:Nat),(1:Nat)),((0:Nat),(1:Nat)),((0:Nat),(1:Nat)),((0:Nat),(1:Nat)),((0:Nat),(1:Nat)),
 ((0:Nat),(1:Nat)),((0:Nat),(1:Nat)),((0:Nat),(1:Nat)),((0:Nat),(1:Nat)),((0:Nat),(1:Nat)),((0:Nat),(1:Nat)),
 ((0:Nat),(0:Nat))]=
 [((0:Nat),(1:Nat)),((0:Nat),(1:Nat)),((0:Nat),(1:Nat)),((0:Nat),(1:Nat)),((0:Nat),(1:Nat)),((0:Nat),(1:Nat)),
 ((0:Nat),(1:Nat)),((0:Nat),(1:Nat)),((0:Nat),(1:Nat)),((0:Nat),(1:Nat)),((0:Nat),(1:Nat)),((0:Nat),(1:Nat)),
 ((0:Nat),(0:Nat))]∧
 (p,false,y4,p.1,p.2.1,p.2.2.1,y2,y3,!y3,p.1,y4,p.1,p.2.1,p.2.2.1,y4,y4,y6,p.1,p.2.1,p.2.2.1,p.1,p.2.1,
 p.2.2.1,[y4],[(0:Int)],Ei(fun(_:ByteArray)=>none)y6(0:Int),[(0:Int)],[(0:Int)],p.1,p.2.1,p.2.2.1,([]:List(List Int)),())=
 (p,false,y4,p.1,p.2.1,p.2.2.1,y2,y3,!y3,p.1,y4,p.1,p.2.1,p.2.2.1,y4,y4,y5,p.1,p.2.1,p.2.2.1,p.1,p.2.1,
 p.2.2.1,[y4],[(0:Int)],Ei(fun(_:ByteArray)=>none)y5(0:Int),[(0:Int)],[(0:Int)],p.1,p.2.1,p.2.2.1,([]:List(List Int)),PUnit.unit))∧
 [((0:Nat),(1:Nat)),((0:Nat),(1:Nat)),((0:Nat),(1:Nat)),((0:Nat),(1:Nat)),((0:Nat),(1:Nat)),((0:Nat),(1:Nat)),
 ((0:Nat),(1:Nat)),((0:Nat),(1:Nat)),((0:Nat),(1:Nat)),((0:Nat),(1:Nat)),((0:Nat),(1:Nat)),((0:Nat),(1:Nat)),
 ((0:Nat),(0:Nat))]=
 [((0:Nat),(1:Nat)),((0:Nat),(1:Nat)),((0:Nat),(1:Nat)),((0:Nat),(1:Nat)),((0:Nat),(1:Nat)),((0:Nat),(1:Nat)),
 ((0:Nat),(1:Nat)),((0:Nat),(1:Nat)),((0:Nat),(1:Nat)),((0:Nat),(1:Nat)),((0:Nat),(1:Nat)),((0:Nat),(1:Nat)),
 ((0:Nat),(0:Nat))]∧
 (p,false,y4,p.1,p.2.1,p.2.2.1,y2,y3,!y3,p.1,y4,p.1,p.2.1,p.2.2.1,y4,y4,y6,p.1,p.2.1,p.2.2.1,p.1,p.2.1,
 p.2.2.1,[y4],[(0:Int)],Ei(fun(_:ByteArray)=>none)y6(0:Int),[(0:Int)],[(0:Int)],p.1,p.2.1,p.2.2.1,([]:List(List Int)),())=
 (p,false,y4,p.1,p.2.1,p.2.2.1,y2,y3,!y3,p.1,y4,p.1,p.2.1,p.2.2.1,y4,y4,y5,p.1,p.2.1,p.2.2.1,p.1,p.2.1,
 p.2.2.1,[y4],[(0:Int)],Ei(fun(_:ByteArray)=>none)y5(0:Int),[(0:Int)],[(0:Int)],p.1,p.2.1,p.2.2.1,([]:List(List Int)),PUnit.unit))∧
 ∃(y6:ByteArray),
 Ek.fn(y4,())=some y6∧
 (([((0:Nat),(1:Nat)),((0:Nat),(1:Nat)),((0:Nat),(1:Nat)),((0:Nat),(1:Nat)),((0:Nat),(1:Nat)),((0:Nat),(1:Nat)),((0:Nat),(1:Nat)),
 ((0:Nat),(1:Nat)),((0:Nat),(1:Nat)),((0:Nat),(1:Nat)),((0:Nat),(1:Nat)),((0:Nat),(1:Nat)),((0:Nat),(0:Nat))]=
 [((0:Nat),(1:Nat)),((0:Nat),(1:Nat)),((0:Nat),(1:Nat)),((0:Nat),(1:Nat)),((0:Nat),(1:Nat)),((0:Nat),(1:Nat)),
 ((0:Nat),(1:Nat)),((0:Nat),(1:Nat)),((0:Nat),(1:Nat)),((0:Nat),(1:Nat)),((0:Nat),(1:Nat)),((0:Nat),(1:Nat)),
 ((0:Nat),(0:Nat))]∧
 (p,false,y4,p.1,p.2.1,p.2.2.1,y2,y3,!y3,p.1,y4,p.1,p.2.1,p.2.2.1,y4,y4,y6,p.1,p.2.1,p.2.2.1,p.1,p.2.1,p.2.2.1,
 [y4],[(0:Int)],Ei(fun(_:ByteArray)=>none)y6(0:Int),[(0:Int)],[(0:Int)],p.1,p.2.1,p.2.2.1,([]:List(List Int)),())=
 (p,false,y4,p.1,p.2.1,p.2.2.1,y2,y3,!y3,p.1,y4,p.1,p.2.1,p.2.2.1,y4,y4,y5,p.1,p.2.1,p.2.2.1,p.1,p.2.1,
 p.2.2.1,[y4],[(0:Int)],Ei(fun(_:ByteArray)=>none)y5(0:Int),[(0:Int)],[(0:Int)],p.1,p.2.1,p.2.2.1,([]:List(List Int)),PUnit.unit))∧
 ([((0:Nat),(1:Nat)),((0:Nat),(1:Nat)),((0:Nat),(1:Nat)),((0:Nat),(1:Nat)),((0:Nat),(1:Nat)),((0:Nat),(1:Nat)),
 ((0:Nat),(1:Nat)),((0:Nat),(1:Nat)),((0:Nat),(1:Nat)),((0:Nat),(1:Nat)),((0:Nat),(1:Nat)),((0:Nat),(1:Nat)),
 ((0:Nat),(0:Nat))]=
 [((0:Nat),(1:Nat)),((0:Nat),(1:Nat)),((0:Nat),(1:Nat)),((0:Nat),(1:Nat)),((0:Nat),(1:Nat)),((0:Nat),(1:Nat)),
 ((0:Nat),(1:Nat)),((0:Nat),(1:Nat)),((0:Nat),(1:Nat)),((0:Nat),(1:Nat)),((0:Nat),(1:Nat)),((0:Nat),(1:Nat)),
 ((0:Nat),(0:Nat))]∧
 (p,false,y4,p.1,p.2.1,p.2.2.1,y2,y3,!y3,p.1,y4,p.1,p.2.1,p.2.2.1,y4,y4,y6,p.1,p.2.1,p.2.2.1,p.1,p.2.1,
 p.2.2.1,[y4],[(0:Int)],Ei(fun(_:ByteArray)=>none)y6(0:Int),[(0:Int)],[(0:Int)],p.1,p.2.1,p.2.2.1,([]:List(List Int)),())=
 (p,false,y4,p.1,p.2.1,p.2.2.1,y2,y3,!y3,p.1,y4,p.1,p.2.1,p.2.2.1,y4,y4,y5,p.1,p.2.1,p.2.2.1,p.1,p.2.1,
 p.2.2.1,[y4],[(0:Int)],Ei(fun(_:ByteArray)=>none)y5(0:Int),[(0:Int)],[(0:Int)],p.1,p.2.1,p.2.2.1,([]:List(List Int)),PUnit.unit))∧
 [((0:Nat),(1:Nat)),((0:Nat),(1:Nat)),((0:Nat),(1:Nat)),((0:Nat),(1:Nat)),((0:Nat),(1:Nat)),((0:Nat),(1:Nat)),
 ((0:Nat),(1:Nat)),((0:Nat),(1:Nat)),((0:Nat),(1:Nat)),((0:Nat),(1:Nat)),((0:Nat),(1:Nat)),((0:Nat),(1:Nat)),
 ((0:Nat),(0:Nat))]=
 [((0:Nat),(1:Nat)),((0:Nat),(1:Nat)),((0:Nat),(1:Nat)),((0:Nat),(1:Nat)),((0:Nat),(1:Nat)),((0:Nat),(1:Nat)),
 ((0:Nat),(1:Nat)),((0:Nat),(1:Nat)),((0:Nat),(1:Nat)),((0:Nat),(1:Nat)),((0:Nat),(1:Nat)),((0:Nat),(1:Nat)),
 ((0:Nat),(0:Nat))]∧
 (p,false,y4,p.1,p.2.1,p.2.2.1,y2,y3,!y3,p.1,y4,p.1,p.2.1,p.2.2.1,y4,y4,y6,p.1,p.2.1,p.2.2.1,p.1,p.2.1,
 p.2.2.1,[y4],[(0:Int)],Ei(fun(_:ByteArray)=>none)y6(0:Int),[(0:Int)],[(0:Int)],p.1,p.2.1,p.2.2.1,([]:List(List Int)),())=
 (p,false,y4,p.1,p.2.1,p.2.2.1,y2,y3,!y3,p.1,y4,p.1,p.2.1,p.2.2.1,y4,y4,y5,p.1,p.2.1,p.2.2.1,p.1,p.2.1,
 p.2.2.1,[y4],[(0:Int)],Ei(fun(_:ByteArray)=>none)y5(0:Int),[(0:Int)],[(0:Int)],p.1,p.2.1,p.2.2.1,([]:List(List Int)),PUnit.unit))∧
 (([((0:Nat),(1:Nat)),((0:Nat),(1:Nat)),((0:Nat),(1:Nat)),((0:Nat),(1:Nat)),((0:Nat),(1:Nat)),((0:Nat),(1:Nat)),((0:Nat),(1:Nat)),
 ((0:Nat),(1:Nat)),((0:Nat),(1:Nat)),((0:Nat),(1:Nat)),((0:Nat),(1:Nat)),((0:Nat),(1:Nat)),((0:Nat),(0:Nat))]=
 [((0:Nat),(1:Nat)),((0:Nat),(1:Nat)),((0:Nat),(1:Nat)),((0:Nat),(1:Nat)),((0:Nat),(1:Nat)),((0:Nat),(1:Nat)),
 ((0:Nat),(1:Nat)),((0:Nat),(1:Nat)),((0:Nat),(1:Nat)),((0:Nat),(1:Nat)),((0:Nat),(1:Nat)),((0:Nat),(1:Nat)),
 ((0:Nat),(0:Nat))]∧
 (p,false,y4,p.1,p.2.1,p.2.2.1,y2,y3,!y3,p.1,y4,p.1,p.2.1,p.2.2.1,y4,y4,y6,p.1,p.2.1,p.2.2.1,p.1,p.2.1,
 p.2.2.1,[y4],[(0:Int)],Ei(fun(_:ByteArray)=>none)y6(0:Int),[(0:Int)],[(0:Int)],p.1,p.2.1,p.2.2.1,([]:List(List Int)),())=
 (p,false,y4,p.1,p.2.1,p.2.2.1,y2,y3,!y3,p.1,y4,p.1,p.2.1,p.2.2.1,y4,y4,y5,p.1,p.2.1,p.2.2.1,p.1,p.2.1,
 p.2.2.1,[y4],[(0:Int)],Ei(fun(_:ByteArray)=>none)y5(0:Int),[(0:Int)],[(0:Int)],p.1,p.2.1,p.2.2.1,([]:List(List Int)),PUnit.unit))∧
 ([((0:Nat),(1:Nat)),((0:Nat),(1:Nat)),((0:Nat),(1:Nat)),((0:Nat),(1:Nat)),((0:Nat),(1:Nat)),((0:Nat),(1:Nat)),
 ((0:Nat),(1:Nat)),((0:Nat),(1:Nat)),((0:Nat),(1:Nat)),((0:Nat),(1:Nat)),((0:Nat),(1:Nat)),((0:Nat),(1:Nat)),
 ((0:Nat),(0:Nat))]=
 [((0:Nat),(1:Nat)),((0:Nat),(1:Nat)),((0:Nat),(1:Nat)),((0:Nat),(1:Nat)),((0:Nat),(1:Nat)),((0:Nat),(1:Nat)),
 ((0:Nat),(1:Nat)),((0:Nat),(1:Nat)),((0:Nat),(1:Nat)),((0:Nat),(1:Nat)),((0:Nat),(1:Nat)),((0:Nat),(1:Nat)),
 ((0:Nat),(0:Nat))]∧
 (p,false,y4,p.1,p.2.1,p.2.2.1,y2,y3,!y3,p.1,y4,p.1,p.2.1,p.2.2.1,y4,y4,y6,p.1,p.2.1,p.2.2.1,p.1,p.2.1,
 p.2.2.1,[y4],[(0:Int)],Ei(fun(_:ByteArray)=>none)y6(0:Int),[(0:Int)],[(0:Int)],p.1,p.2.1,p.2.2.1,([]:List(List Int)),())=
 (p,false,y4,p.1,p.2.1,p.2.2.1,y2,y3,!y3,p.1,y4,p.1,p.2.1,p.2.2.1,y4,y4,y5,p.1,p.2.1,p.2.2.1,p.1,p.2.1,
 p.2.2.1,[y4],[(0:Int)],Ei(fun(_:ByteArray)=>none)y5(0:Int),[(0:Int)],[(0:Int)],p.1,p.2.1,p.2.2.1,([]:List(List Int)),PUnit.unit))∧
 [((0:Nat),(1:Nat)),((0:Nat),(1:Nat)),((0:Nat),(1:Nat)),((0:Nat),(1:Nat)),((0:Nat),(1:Nat)),((0:Nat),(1:Nat)),
 ((0:Nat),(1:Nat)),((0:Nat),(1:Nat)),((0:Nat),(1:Nat)),((0:Nat),(1:Nat)),((0:Nat),(1:Nat)),((0:Nat),(1:Nat)),
 ((0:Nat),(0:Nat))]=
 [((0:Nat),(1:Nat)),((0:Nat),(1:Nat)),((0:Nat),(1:Nat)),((0:Nat),(1:Nat)),((0:Nat),(1:Nat)),((0:Nat),(1:Nat)),
 ((0:Nat),(1:Nat)),((0:Nat),(1:Nat)),((0:Nat),(1:Nat)),((0:Nat),(1:Nat)),((0:Nat),(1:Nat)),((0:Nat),(1:Nat)),
 ((0:Nat),(0:Nat))]∧
 (p,false,y4,p.1,p.2.1,p.2.2.1,y2,y3,!y3,p.1,y4,p.1,p.2.1,p.2.2.1,y4,y4,y6,p.1,p.2.1,p.2.2.1,p.1,p.2.1,
 p.2.2.1,[y4],[(0:Int)],Ei(fun(_:ByteArray)=>none)y6(0:Int),[(0:Int)],[(0:Int)],p.1,p.2.1,p.2.2.1,([]:List(List Int)),())=
 (p,false,y4,p.1,p.2.1,p.2.2.1,y2,y3,!y3,p.1,y4,p.1,p.2.1,p.2.2.1,y4,y4,y5,p.1,p.2.1,p.2.2.1,p.1,p.2.1,
 p.2.2.1,[y4],[(0:Int)],Ei(fun(_:ByteArray)=>none)y5(0:Int),[(0:Int)],[(0:Int)],p.1,p.2.1,p.2.2.1,([]:List(List Int)),PUnit.unit))∧
 (([((0:Nat),(1:Nat)),((0:Nat),(1:Nat)),((0:Nat),(1:Nat)),((0:Nat),(1:Nat)),((0:Nat),(1:Nat)),((0:Nat),(1:Nat)),
 ((0:Nat),(1:Nat)),((0:Nat),(1:Nat)),((0:Nat),(1:Nat)),((0:Nat),(1:Nat)),((0:Nat),(1:Nat)),((0:Nat),(1:Nat)),
 ((0:Nat),(0:Nat))]=
 [((0:Nat),(1:Nat)),((0:Nat),(1:Nat)),((0:Nat),(1:Nat)),((0:Nat),(1:Nat)),((0:Nat),(1:Nat)),((0:Nat),(1:Nat)),
 ((0:Nat),(1:Nat)),((0:Nat),(1:Nat)),((0:Nat),(1:Nat)),((0:Nat),(1:Nat)),((0:Nat),(1:Nat)),((0:Nat),(1:Nat)),
 ((0:Nat),(0:Nat))]∧
 (p,false,y4,p.1,p.2.1,p.2.2.1,y2,y3,!y3,p.1,y4,p.1,p.2.1,p.2.2.1,y4,y4,y6,p.1,p.2.1,p.2.2.1,p.1,p.2.1,
 p.2.2.1,[y4],[(0:Int)],Ei(fun(_:ByteArray)=>none)y6(0:Int),[(0:Int)],[(0:Int)],p.1,p.2.1,p.2.2.1,([]:List(List Int)),())=
 (p,false,y4,p.1,p.2.1,p.2.2.1,y2,y3,!y3,p.1,y4,p.1,p.2.1,p.2.2.1,y4,y4,y5,p.1,p.2.1,p.2.2.1,p.1,p.2.1,
 p.2.2.1,[y4],[(0:Int)],Ei(fun(_:ByteArray)=>none)y5(0:Int),[(0:Int)],[(0:Int)],p.1,p.2.1,p.2.2.1,([]:List(List Int)),PUnit.unit))∧
 [((0:Nat),(1:Nat)),((0:Nat),(1:Nat)),((0:Nat),(1:Nat)),((0:Nat),(1:Nat)),((0:Nat),(1:Nat)),((0:Nat),(1:Nat)),
 ((0:Nat),(1:Nat)),((0:Nat),(1:Nat)),((0:Nat),(1:Nat)),((0:Nat),(1:Nat)),((0:Nat),(1:Nat)),((0:Nat),(1:Nat)),
 ((0:Nat),(0:Nat))]=
 [((0:Nat),(1:Nat)),((0:Nat),(1:Nat)),((0:Nat),(1:Nat)),((0:Nat),(1:Nat)),((0:Nat),(1:Nat)),((0:Nat),(1:Nat)),
 ((0:Nat),(1:Nat)),((0:Nat),(1:Nat)),((0:Nat),(1:Nat)),((0:Nat),(1:Nat)),((0:Nat),(1:Nat)),((0:Nat),(1:Nat)),
 ((0:Nat),(0:Nat))]∧
 (p,false,y4,p.1,p.2.1,p.2.2.1,y2,y3,!y3,p.1,y4,p.1,p.2.1,p.2.2.1,y4,y4,y6,p.1,p.2.1,p.2.2.1,p.1,p.2.1,
 p.2.2.1,[y4],[(0:Int)],Ei(fun(_:ByteArray)=>none)y6(0:Int),[(0:Int)],[(0:Int)],p.1,p.2.1,p.2.2.1,([]:List(List Int)),())=
 (p,false,y4,p.1,p.2.1,p.2.2.1,y2,y3,!y3,p.1,y4,p.1,p.2.1,p.2.2.1,y4,y4,y5,p.1,p.2.1,p.2.2.1,p.1,p.2.1,
 p.2.2.1,[y4],[(0:Int)],Ei(fun(_:ByteArray)=>none)y5(0:Int),[(0:Int)],[(0:Int)],p.1,p.2.1,p.2.2.1,([]:List(List Int)),PUnit.unit))∧
 (([((0:Nat),(1:Nat)),((0:Nat),(1:Nat)),((0:Nat),(1:Nat)),((0:Nat),(1:Nat)),((0:Nat),(1:Nat)),((0:Nat),(1:Nat)),
 ((0:Nat),(1:Nat)),((0:Nat),(1:Nat)),((0:Nat),(1:Nat)),((0:Nat),(1:Nat)),((0:Nat),(1:Nat)),((0:Nat),(1:Nat)),
 ((0:Nat),(0:Nat))]=
 [((0:Nat),(1:Nat)),((0:Nat),(1:Nat)),((0:Nat),(1:Nat)),((0:Nat),(1:Nat)),((0:Nat),(1:Nat)),((0:Nat),(1:Nat)),
 ((0:Nat),(1:Nat)),((0:Nat),(1:Nat)),((0:Nat),(1:Nat)),((0:Nat),(1:Nat)),((0:Nat),(1:Nat)),((0:Nat),(1:Nat)),
 ((0:Nat),(0:Nat))]∧
 (p,false,y4,p.1,p.2.1,p.2.2.1,y2,y3,!y3,p.1,y4,p.1,p.2.1,p.2.2.1,y4,y4,y6,p.1,p.2.1,p.2.2.1,p.1,p.2.1,
 p.2.2.1,[y4],[(0:Int)],Ei(fun(_:ByteArray)=>none)y6(0:Int),[(0:Int)],[(0:Int)],p.1,p.2.1,p.2.2.1,([]:List(List Int)),())=
 (p,false,y4,p.1,p.2.1,p.2.2.1,y2,y3,!y3,p.1,y4,p.1,p.2.1,p.2.2.1,y4,y4,y5,p.1,p.2.1,p.2.2.1,p.1,p.2.1,
 p.2.2.1,[y4],[(0:Int)],Ei(fun(_:ByteArray)=>none)y5(0:Int),[(0:Int)],[(0:Int)],p.1,p.2.1,p.2.2.1,([]:List(List Int)),PUnit.unit))∧
 [((0:Nat),(1:Nat)),((0:Nat),(1:Nat)),((0:Nat),(1:Nat)),((0:Nat),(1:Nat)),((0:Nat),(1:Nat)),((0:Nat),(1:Nat)),
 ((0:Nat),(1:Nat)),((0:Nat),(1:Nat)),((0:Nat),(1:Nat)),((0:Nat),(1:Nat)),((0:Nat),(1:Nat)),((0:Nat),(1:Nat)),
 ((0:Nat),(0:Nat))]=
 [((0:Nat),(1:Nat)),((0:Nat),(1:Nat)),((0:Nat),(1:Nat)),((0:Nat),(1:Nat)),((0:Nat),(1:Nat)),((0:Nat),(1:Nat)),
 ((0:Nat),(1:Nat)),((0:Nat),(1:Nat)),((0:Nat),(1:Nat)),((0:Nat),(1:Nat)),((0:Nat),(1:Nat)),((0:Nat),(1:Nat)),
 ((0:Nat),(0:Nat))]∧
 (p,false,y4,p.1,p.2.1,p.2.2.1,y2,y3,!y3,p.1,y4,p.1,p.2.1,p.2.2.1,y4,y4,y6,p.1,p.2.1,p.2.2.1,p.1,p.2.1,
 p.2.2.1,[y4],[(0:Int)],Ei(fun(_:ByteArray)=>none)y6(0:Int),[(0:Int)],[(0:Int)],p.1,p.2.1,p.2.2.1,([]:List(List Int)),())=
 (p,false,y4,p.1,p.2.1,p.2.2.1,y2,y3,!y3,p.1,y4,p.1,p.2.1,p.2.2.1,y4,y4,y5,p.1,p.2.1,p.2.2.1,p.1,p.2.1,
 p.2.2.1,[y4],[(0:Int)],Ei(fun(_:ByteArray)=>none)y5(0:Int),[(0:Int)],[(0:Int)],p.1,p.2.1,p.2.2.1,([]:List(List Int)),PUnit.unit))∧
 ([((0:Nat),(1:Nat)),((0:Nat),(1:Nat)),((0:Nat),(1:Nat)),((0:Nat),(1:Nat)),((0:Nat),(1:Nat)),((0:Nat),(1:Nat)),
 ((0:Nat),(1:Nat)),((0:Nat),(1:Nat)),((0:Nat),(1:Nat)),((0:Nat),(1:Nat)),((0:Nat),(1:Nat)),((0:Nat),(1:Nat)),
 ((0:Nat),(0:Nat))]=
 [((0:Nat),(1:Nat)),((0:Nat),(1:Nat)),((0:Nat),(1:Nat)),((0:Nat),(1:Nat)),((0:Nat),(1:Nat)),((0:Nat),(1:Nat)),
 ((0:Nat),(1:Nat)),((0:Nat),(1:Nat)),((0:Nat),(1:Nat)),((0:Nat),(1:Nat)),((0:Nat),(1:Nat)),((0:Nat),(1:Nat)),
 ((0:Nat),(0:Nat))]∧
 (p,false,y4,p.1,p.2.1,p.2.2.1,y2,y3,!y3,p.1,y4,p.1,p.2.1,p.2.2.1,y4,y4,y6,p.1,p.2.1,p.2.2.1,p.1,p.2.1,
 p.2.2.1,[y4],[(0:Int)],Ei(fun(_:ByteArray)=>none)y6(0:Int),[(0:Int)],[(0:Int)],p.1,p.2.1,p.2.2.1,([]:List(List Int)),())=
 (p,false,y4,p.1,p.2.1,p.2.2.1,y2,y3,!y3,p.1,y4,p.1,p.2.1,p.2.2.1,y4,y4,y5,p.1,p.2.1,p.2.2.1,p.1,p.2.1,
 p.2.2.1,[y4],[(0:Int)],Ei(fun(_:ByteArray)=>none)y5(0:Int),[(0:Int)],[(0:Int)],p.1,p.2.1,p.2.2.1,([]:List(List Int)),PUnit.unit))∧
 [((0:Nat),(1:Nat)),((0:Nat),(1:Nat)),((0:Nat),(1:Nat)),((0:Nat),(1:Nat)),((0:Nat),(1:Nat)),((0:Nat),(1:Nat)),
 ((0:Nat),(1:Nat)),((0:Nat),(1:Nat)),((0:Nat),(1:Nat)),((0:Nat),(1:Nat)),((0:Nat),(1:Nat)),((0:Nat),(1:Nat)),
 ((0:Nat),(0:Nat))]=
 [((0:Nat),(1:Nat)),((0:Nat),(1:Nat)),((0:Nat),(1:Nat)),((0:Nat),(1:Nat)),((0:Nat),(1:Nat)),((0:Nat),(1:Nat)),
 ((0:Nat),(1:Nat)),((0:Nat),(1:Nat)),((0:Nat),(1:Nat)),((0:Nat),(1:Nat)),((0:Nat),(1:Nat)),((0:Nat),(1:Nat)),
 ((0:Nat),(0:Nat))]∧
 (p,false,y4,p.1,p.2.1,p.2.2.1,y2,y3,!y3,p.1,y4,p.1,p.2.1,p.2.2.1,y4,y4,y6,p.1,p.2.1,p.2.2.1,p.1,p.2.1,
 p.2.2.1,[y4],[(0:Int)],Ei(fun(_:ByteArray)=>none)y6(0:Int),[(0:Int)],[(0:Int)],p.1,p.2.1,p.2.2.1,([]:List(List Int)),())=
 (p,false,y4,p.1,p.2.1,p.2.2.1,y2,y3,!y3,p.1,y4,p.1,p.2.1,p.2.2.1,y4,y4,y5,p.1,p.2.1,p.2.2.1,p.1,p.2.1,
 p.2.2.1,[y4],[(0:Int)],Ei(fun(_:ByteArray)=>none)y5(0:Int),[(0:Int)],[(0:Int)],p.1,p.2.1,p.2.2.1,[],PUnit.unit)))=fnW tab(look [(109,Kh),(108,Cc),(110,Mb),(111,Ek),(112,Gq),(113,aay),(67,aaw)])Ly Try.f61(p,())P:=by kernel_rfl
theorem apo {g:List(List Int)} {k:Int} {x:List Int} {d:Int} : ∀(ls:List Int)(s:EX)(row:List Int)(L':List(List Int))(D':List Int),Ge g x d ls s.1 s.2.1=(L',D',true)→
  (anu g k x d ls s row).1.1=L'∧(anu g k x d ls s row).1.2.1=D'
 | [],s,row,L',D',h=>by
  simp only [Ge,Prod.mk.injEq]at h
  exact⟨h.1,h.2.1⟩
 |l::ls,s,row,L',D',h=>by
  simp only [Ge]at h
  simp only [anu]
  by_cases hm:Aa x(Ad g l)∈s.1
  ·rw [if_pos hm]at h
   rw [if_pos hm]
   exact apo ls s _ L' D' h
  ·rw [if_neg hm]at h
   rw [if_neg hm]
   by_cases hf:s.1.length=3000
   ·rw [if_pos hf]at h
    simp at h
   ·rw [if_neg hf]at h
    exact apo ls _ _ L' D' h
theorem bae {g:List(List Int)} {ls:List Int} : ∀(f k:Nat)(s:EX)(N:List(List Int))(L':List(List Int))(D':List Int),Hj g ls f k s.1 s.2.1=(L',D',true)→
  (ari g ls f k s N).1.1=L'∧(ari g ls f k s N).1.2.1=D'
 |0,k,s,N,L',D',h=>by
  simp only [Hj,Prod.mk.injEq]at h
  exact⟨h.1,h.2.1⟩
 |f+1,k,s,N,L',D',h=>by
  simp only [Hj]at h
  simp only [ari]
  by_cases hk:k<s.1.length
  ·rw [if_pos hk]at h
   rw [if_pos hk]
   split at h
   ·rename_i L1 D1 he
    obtain⟨a1,a2⟩:=apo(k:=(k:Int))ls s []L1 D1 he
    refine bae f(k+1)_ _ L' D' ?_
    rw [a1,a2]
    exact h
   ·simp at h
  ·rw [if_neg hk]at h
   rw [if_neg hk]
   simp only [Prod.mk.injEq]at h
   exact⟨h.1,h.2.1⟩
theorem aga {key:ByteArray} {x:List Int} : ∀(L:List(List Int))(i:Nat),Zy key(L++ [x])i=if(Zy key L i).isSome=true then Zy key L i else if Lz x=key then some((i+L.length:Nat):Int)else none
 | [],i=>by simp [Zy]
 |y::L,i=>by
  simp only [List.cons_append,Zy]
  split
  ·rfl
  ·rw [aga L(i+1),List.length_cons,show i+1+L.length=i+(L.length+1)by omega]
theorem ajb {x:List Int} (hx:Ry x): ∀(L:List(List Int))(i:Nat),(∀y∈L,Ry y)→Zy(Lz x)L i=if x∈L then some((i+L.idxOf x:Nat):Int)else none
 | [],i,_=>by simp [Zy]
 |y::L,i,h=>by
  have hy:=h y(by simp)
  simp only [Zy]
  by_cases e:y=x
  ·subst e
   rw [if_pos rfl,if_pos(by simp),List.idxOf_cons_self]
   rfl
  ·rw [if_neg fun hk=>e(key_inj hy hx hk),ajb hx L(i+1)fun z hz=>h z(List.mem_cons_of_mem _ hz),show List.idxOf x(y::L)=(List.idxOf x L).succ by rw [List.idxOf_cons,beq_false_of_ne e];rfl]
   have:(x∈y::L)↔(x∈L):=by simp [Ne.symm e]
   by_cases hm:x∈L
   ·rw [if_pos hm,if_pos(this.2 hm),show i+1+List.idxOf x L=i+(List.idxOf x L).succ by omega]
   ·rw [if_neg hm,if_neg fun h=>hm(this.1 h)]
theorem bld {x:List Int} {L:List(List Int)} (hx:Ry x)(hL: ∀y∈L,Ry y):Qa L(Lz x)=if x∈L then some(L.idxOf x:Int)else none:=by
 unfold Qa
 rw [ajb hx L 0 hL,Nat.zero_add]
theorem atq {x:List Int} {L:List(List Int)} (hx:Ry x)(hL: ∀y∈L,Ry y)(hn:x∉L):Ei(Qa L)(Lz x)(L.length:Int)=Qa(L++ [x]):=by
 funext key
 unfold Ei Qa
 rw [aga,Nat.zero_add]
 by_cases e:key=Lz x
 ·subst e
  rw [if_pos rfl,ajb hx L 0 hL,if_neg hn,if_neg(by simp),if_pos rfl]
 ·rw [if_neg e,if_neg(c:=Lz x=key)fun h=>e h.symm]
  split
  ·rfl
  ·rename_i h
   cases hk:Zy key L 0 with
   |none=>rfl
   |some v=>rw [hk]at h;simp at h
theorem bco(p:PP):Fu(Mu p)1 3000=Im p:=by
 unfold Im
 by_cases hv:At p=true
 ·rw [hv,Bool.true_and,bch hv]
  rfl
 ·have hv:At p=false:=by simpa using hv
  rw [hv,Bool.false_and]
  have:Mu p=0:=by unfold Mu;rw [if_neg(by simp [hv])]
  rw [this]
  rfl
theorem bjh(p:PP)(h:Ec p):fnW tab(look [(109,Kh),(108,Cc),(110,Mb),(111,Ek),(112,Gq),(113,aay),(67,aaw)])Ly Try.f61(p,())(fun(z:Option(PP×List(List Int)×List Int×(ByteArray→Option Int)×List Int×List Int×List(List Int)×Unit)×Bool×Unit)=>z=(if Im p=true then(some(aed p),true,())else(none,false,()))):=by
 refine Eq.mp(bki p _)⟨_,if_pos h,_,if_pos trivial,?_⟩
 show Br(!Fu(Mu p)1 3000)_ _
 rw [bco p]
 refine Br.of(fun hb=>?_)fun hb=>?_
 ·rw [if_neg(by simpa using hb)]
 have hw:Im p=true:=by simpa using hb
 rw [if_pos hw]
 obtain⟨hv,hbw⟩:=Bool.and_eq_true_iff.1 hw
 have hV:=valid hv
 have hfew:=hV.few
 have hn:=hV.n
 obtain⟨pn,ps,g,⟨⟩⟩:=p
 dsimp only at hfew hn hbw⊢
 have hI:(upto pn.toNat).length≤20:=by rw [Hz];omega
 have hIr: ∀y∈upto pn.toNat,0≤y∧y<pn:=fun y hy=>by have:=Hy.1 hy;omega
 have hb0:=abd(p:=(pn,ps,g,()))hI hIr
 obtain⟨ls,hls⟩: ∃ls,Ap g.length=ls:=⟨_,rfl⟩
 have hll:ls.length≤16:=by rw [←hls,Ji];omega
 have hmem: ∀l∈ls,Ew(List.length g)l:=fun l hl=>Jx(hls▸hl)
 have hbyte: ∀x:List Int,(∀y∈x,0≤y∧y<pn)→Ry x:=fun x hx y hy=>by have:=hx y hy;omega
 have hstart:Hj g ls 3001 0 [upto pn.toNat] [0]=Fl g(upto pn.toNat):=by unfold Fl;rw [hls]
 have hk0:Ei(fun(_:ByteArray)=>(none:Option Int))(Lz(upto pn.toNat))0=Qa [upto pn.toNat]:=by
  have:=atq(L:= [])(hbyte _ hIr)(fun y hy=>by cases hy)(by simp)
  exact this
 refine⟨upto pn.toNat,if_pos⟨by show(0:Int)≤pn;omega,by show pn≤20;omega⟩,Lz(upto pn.toNat),if_pos(by show short(upto pn.toNat);unfold short;omega),⟨ls,?_,rfl,rfl,rfl,rfl,rfl,rfl,rfl,rfl,rfl,rfl,?_⟩,?_⟩
 ·refine(if_pos⟨by show(0:Int)≤((g.length:Nat):Int);omega,by show((g.length:Nat):Int)≤8;omega⟩).trans(congrArg some ?_)
  show Ap(((g.length:Nat):Int)).toNat=ls
  rw [Int.toNat_natCast];exact hls
 ·obtain⟨R,hR⟩: ∃R,ari g ls 3001 0([upto pn.toNat],[0],[0],[0]) []=R:=⟨_,rfl⟩
  have hexp:aed(pn,ps,g,())=bta(pn,ps,g,())R:=by unfold aed;rw [hls];exact congrArg _ hR
  rw [hexp]
  refine Bo.mk(fun v=> ∃(k:Nat)(s:EX)(N:List(List Int)),v=((k:Int),pn,ps,g,s.1,s.2.1,Qa s.1,s.2.2.1,s.2.2.2,pn,ps,g,N,())∧k≤s.1.length∧Ps(pn,ps,g,())(upto pn.toNat).length s.1 s.2.1∧s.2.2.1.length=s.1.length∧s.2.2.2.length=s.1.length∧N.length=k∧
    Hj g ls(3001-k)k s.1 s.2.1=Fl g(upto pn.toNat)∧ari g ls(3001-k)k s N=R)(fun v=>3001-v.1.toNat)
   ⟨0,([upto pn.toNat],[0],[0],[0]),[],?_,by simp,hb0,rfl,rfl,rfl,hstart,hR⟩?_
  ·rw [←hk0];rfl
  rintro v⟨k,s0,N,rfl,h1,h2,h3,h4,h5,h6,h7⟩
  obtain⟨L0,D0,P0,B0⟩:=s0
  dsimp only at h1 h2 h3 h4 h6 h7⊢
  have hL0:=h2.ok.few
  have hD0:=h2.len
  obtain⟨f,hf⟩: ∃f,3001-k=f+1:=⟨3000-k,by omega⟩
  refine Br.dec(fun hl=>?_)fun hl=>?_
  ·have hk:k<L0.length:=by omega
   have hkD:k<D0.length:=by omega
   have hx: ∀y∈L0[k],0≤y∧y<pn:=h2.row _(List.getElem_mem hk)
   have hxl:L0[k].length=(upto pn.toNat).length:=h2.ok.len _(List.getElem_mem hk)
   have hdk:=h2.dep k hkD
   have hxe:L0.getD k []=L0[k]:=Mq hk
   have hde:D0.getD k 0=D0[k]:=by rw [List.getD_eq_getElem?_getD,List.getElem?_eq_getElem hkD];rfl
   have hgo: ∀L' D' ok,Ge g L0[k]D0[k]ls L0 D0=(L',D',ok)→Fl g(upto pn.toNat)=if ok=true then Hj g ls f(k+1)L' D' else(L',D',false):=by
    intro L' D' ok he
    rw [←h6,hf,Hj,if_pos hk,hxe,hde,he]
    cases ok<;>rfl
   obtain⟨E,hE⟩: ∃E,anu g(k:Int)L0[k]D0[k]ls(L0,D0,P0,B0) []=E:=⟨_,rfl⟩
   have hex:R=ari g ls f(k+1)E.1(N++ [E.2]):=by
    rw [←h7,hf,ari,if_pos hk]
    dsimp only
    rw [hxe,hde,hE]
   refine⟨⟨by omega,by omega⟩,L0[k],by rw [Int.toNat_natCast,Nat.zero_add];exact List.getElem?_eq_getElem hk,ls.map(fun l=>Aa L0[k](Ad g l)),?_,?_⟩
   ·refine(if_pos⟨hv,by show L0[k].length≤20;omega,hx⟩).trans(congrArg some ?_)
    show awj g L0[k]=_
    unfold awj
    rw [hls]
   refine⟨rfl,rfl,rfl,rfl,rfl,rfl,rfl,rfl,rfl,rfl,rfl,rfl,?_⟩
   obtain⟨nb,hnb⟩: ∃nb,ls.map(fun l=>Aa L0[k](Ad g l))=nb:=⟨_,rfl⟩
   have hnl:nb.length=ls.length:=by rw [←hnb,List.length_map]
   have hni: ∀i(h:i<ls.length),nb[i]'(by omega)=Aa L0[k](Ad g ls[i]):=fun i h=>by simp only [←hnb,List.getElem_map]
   rw [hnb]
   refine Bo.mk(fun v=> ∃(i:Nat)(row:List Int)(s:EX),v=((i:Int),pn,ps,g,row,s.1,s.2.1,Qa s.1,s.2.2.1,s.2.2.2,pn,ps,g,N,())∧i≤ls.length∧row.length=i∧Ps(pn,ps,g,())(upto pn.toNat).length s.1 s.2.1∧s.2.2.1.length=s.1.length∧s.2.2.2.length=s.1.length∧
     (∃A,s.1=L0++A)∧(∃A,s.2.1=D0++A)∧Ge g L0[k]D0[k](ls.drop i)s.1 s.2.1=Ge g L0[k]D0[k]ls L0 D0∧anu g(k:Int)L0[k]D0[k](ls.drop i)s row=E)(fun v=>ls.length-v.1.toNat)
    ⟨0,[],(L0,D0,P0,B0),rfl,Nat.zero_le _,rfl,h2,h3,h4,⟨[],by simp⟩,⟨[],by simp⟩,rfl,hE⟩?_
   rintro v⟨i,row,s,rfl,g1,g2,g3,g4,g5,⟨A,g6⟩,⟨A',g7⟩,g8,g9⟩
   obtain⟨L,D,Pa,By⟩:=s
   dsimp only at g3 g4 g5 g6 g7 g8 g9⊢
   have hLf:=g3.ok.few
   have hDl:=g3.len
   refine Br.dec(fun hli=>?_)fun hli=>?_
   ·have hi:i<ls.length:=by omega
    have hkL:k<L.length:=by rw [g6,List.length_append];omega
    have hkD2:k<D.length:=by rw [hDl];exact hkL
    have hDk:D[k]=D0[k]:=by simp only [g7];exact List.getElem_append_left hkD
    have hlet:=hmem _(List.getElem_mem hi)
    obtain⟨nl,nr⟩:=aun hV hx hlet
    dsimp only at nl nr
    rw [List.drop_eq_getElem_cons hi]at g8 g9
    simp only [Ge]at g8
    simp only [anu]at g9
    have hyb:=hbyte _ nr
    refine⟨_,Bc(by omega),?_⟩
    rw [hni i hi]
    generalize hyv:Aa L0[k](Ad g ls[i])=yv at*
    refine⟨Lz yv,if_pos(by show short yv;unfold short;rw [nl];omega),?_⟩
    rw [bld hyb fun y hy=>hbyte _(g3.row y hy)]
    refine Br.of(fun hin=>?_)fun hin=>?_
    ·have hin:yv∉L:=fun hm=>by rw [if_pos hm]at hin;simp at hin
     rw [if_neg hin]at g8 g9
     by_cases hfull:L.length=3000
     ·rw [if_pos hfull]at g8
      have:=hgo _ _ _ g8.symm
      rw [if_neg(by decide)]at this
      rw [this]at hbw
      cases hbw
     rw [if_neg hfull]at g8
     refine⟨_,if_pos trivial,rfl,rfl,?_,⟨by omega,by omega⟩,D0[k],?_,rfl,rfl,?_,rfl,rfl,?_,_,Bc hi,rfl,rfl,?_,rfl,rfl,?_,rfl,rfl,rfl,rfl,rfl,rfl,rfl,rfl,rfl,rfl,rfl,rfl,?_⟩
     ·show L.length+1≤4294967296;omega
     ·rw [Int.toNat_natCast,Nat.zero_add,List.getElem?_eq_getElem hkD2,hDk]
     ·show D.length+1≤4294967296;omega
     ·show Pa.length+1≤4294967296;omega
     ·show By.length+1≤4294967296;omega
     ·show row.length+1≤4294967296;omega
     ·dsimp only
      rw [Bq L,Bp(n:=D0[k]+1)(by omega)(by omega),Ak(by omega),atq hyb(fun y hy=>hbyte _(g3.row y hy))hin]
      refine⟨⟨i+1,row++ [(L.length:Int)],(L++ [yv],D++ [D0[k]+1],Pa++ [(k:Int)],By++ [ls[i]]),rfl,hi,by rw [List.length_append,g2];rfl,g3.add hin(by rw [nl,hxl])(by omega)nr⟨by omega,by omega⟩,?_,?_,⟨A++ [yv],by rw [g6,List.append_assoc]⟩,⟨A'++ [D0[k]+1],by rw [g7,List.append_assoc]⟩,g8,g9⟩,by omega⟩
      ·simp [g4]
      ·simp [g5]
    ·have hin:yv∈L:=Classical.byContradiction fun hm=>by rw [if_neg hm]at hin;simp at hin
     rw [if_pos hin]at g8 g9
     rw [if_pos hin]
     refine⟨rfl,rfl,?_,rfl,rfl,rfl,rfl,rfl,rfl,rfl,rfl,rfl,rfl,rfl,rfl,?_⟩
     ·show row.length+1≤4294967296;omega
     ·rw [Ak(by omega)]
      exact⟨⟨i+1,row++ [(L.idxOf yv:Int)],(L,D,Pa,By),rfl,hi,by rw [List.length_append,g2];rfl,g3,g4,g5,⟨A,g6⟩,⟨A',g7⟩,g8,g9⟩,by omega⟩
   ·have:i=ls.length:=by omega
    subst this
    rw [List.drop_length,Ge]at g8
    rw [List.drop_length,anu]at g9
    have:=hgo _ _ _ g8.symm
    rw [if_pos rfl]at this
    rw [Bq row,Ak(by omega)]
    refine⟨rfl,rfl,?_,rfl,rfl,rfl,rfl,rfl,rfl,rfl,rfl,rfl,rfl,⟨k+1,(L,D,Pa,By),N++ [row],rfl,by rw [g6,List.length_append];omega,g3,g4,g5,by rw [List.length_append,h5];rfl,?_,?_⟩,by omega⟩
    ·show N.length+1≤4294967296;omega
    ·rw [show 3001-(k+1)=f by omega]
     exact this.symm
    ·rw [show 3001-(k+1)=f by omega,hex,←g9]
  ·have hk:k=L0.length:=by omega
   rw [hf,ari,if_neg(by show¬k<L0.length;omega)]at h7
   subst h7
   simp only [List.drop_zero,List.take_length]
   rfl
 ·have hkey:Ek.fn(upto pn.toNat,())=some(Lz(upto pn.toNat)):=if_pos(by show short(upto pn.toNat);unfold short;omega)
  repeat'(first|exact⟨rfl,rfl⟩|refine⟨_,hkey,?_⟩|refine⟨?_,?_⟩)
theorem aqe:Sound Try.prog 61 Ly:=
 Sound.mkS Ca(Ae ait(Ae Qf(Ae Xk(Ae anp(Ae Tp(Ae bcu(Ae bax As)))))))mixed Try.func61(by kernel_rfl)(by kernel_rfl)fun x h=>bjh x.1 h

namespace Go.Proofs.Ytebabhocakedaaa
open Go.RowKit
noncomputable def Ch(p:PP):List(List Int):=(Fl p.2.2.1(upto p.1.toNat)).1
noncomputable def anj(p:PP):List Int:=(Fl p.2.2.1(upto p.1.toNat)).2.1
noncomputable def adn(p:PP):SS×Bool×Unit:=if At p=true then(Hu p.2.2.1(upto p.1.toNat),Im p,())else(([],[],[],false,()),false,())
noncomputable abbrev Ka:Spec:=mkS(.pair Db .unit)(.pair abe(.pair .bool .unit))true false(fun x=>Ec x.1)(fun x=>adn x.1)
noncomputable def Qn(p:PP):Int:=if(Hp p&&Im p)=true then(((Ch p).countP fun s=>decide(Ee(Fp p)s=s):Nat):Int)else-1
noncomputable abbrev Gr:Spec:=mkS(.pair Db .unit)tI false true(fun x=>Ec x.1)(fun x=>Qn x.1)
theorem bfa(p:Int×ByteArray×List(List Int)×Unit)(P:((List(List Int)×List Int×List Int×Bool×Unit)×Bool×Unit)→Prop):(∃(y2:Bool),
 Dp.fn((p.1,p.2.1,p.2.2.1,()),())=some y2∧
 Br(!y2)(P((List.take(0:Nat)(List.drop(0:Nat) []),List.take(0:Nat)(List.drop(0:Nat) []),List.take(0:Nat)(List.drop(0:Nat) []),false,()),false,()))
 (((((∃(y3:List Int),
 Bv.fn(p.1,())=some y3∧
 (∃(y4:List(List Int)×List Int×List Int×Bool×PUnit),
 Cr.fn((p.1,p.2.1,p.2.2.1,()),y3,())=some y4∧
 ((P((y4.1,y4.2.1,y4.2.2.1,y4.2.2.2.1,()),y4.2.2.2.1,())∧P((y4.1,y4.2.1,y4.2.2.1,y4.2.2.2.1,()),y4.2.2.2.1,()))∧
 P((y4.1,y4.2.1,y4.2.2.1,y4.2.2.2.1,()),y4.2.2.2.1,()))∧
 (P((y4.1,y4.2.1,y4.2.2.1,y4.2.2.2.1,()),y4.2.2.2.1,())∧P((y4.1,y4.2.1,y4.2.2.1,y4.2.2.2.1,()),y4.2.2.2.1,()))∧
 P((y4.1,y4.2.1,y4.2.2.1,y4.2.2.2.1,()),y4.2.2.2.1,()))∧
 ∃(y4:List(List Int)×List Int×List Int×Bool×PUnit),
 Cr.fn((p.1,p.2.1,p.2.2.1,()),y3,())=some y4∧
 ((P((y4.1,y4.2.1,y4.2.2.1,y4.2.2.2.1,()),y4.2.2.2.1,())∧P((y4.1,y4.2.1,y4.2.2.1,y4.2.2.2.1,()),y4.2.2.2.1,()))∧
 P((y4.1,y4.2.1,y4.2.2.1,y4.2.2.2.1,()),y4.2.2.2.1,()))∧
 (P((y4.1,y4.2.1,y4.2.2.1,y4.2.2.2.1,()),y4.2.2.2.1,())∧P((y4.1,y4.2.1,y4.2.2.1,y4.2.2.2.1,()),y4.2.2.2.1,()))∧
 P((y4.1,y4.2.1,y4.2.2.1,y4.2.2.2.1,()),y4.2.2.2.1,()))∧
 ∃(y3:List Int),
 Bv.fn(p.1,())=some y3∧
 ∃(y4:List(List Int)×List Int×List Int×Bool×PUnit),
 Cr.fn((p.1,p.2.1,p.2.2.1,()),y3,())=some y4∧
 ((P((y4.1,y4.2.1,y4.2.2.1,y4.2.2.2.1,()),y4.2.2.2.1,())∧P((y4.1,y4.2.1,y4.2.2.1,y4.2.2.2.1,()),y4.2.2.2.1,()))∧
 P((y4.1,y4.2.1,y4.2.2.1,y4.2.2.2.1,()),y4.2.2.2.1,()))∧
 (P((y4.1,y4.2.1,y4.2.2.1,y4.2.2.2.1,()),y4.2.2.2.1,())∧P((y4.1,y4.2.1,y4.2.2.1,y4.2.2.2.1,()),y4.2.2.2.1,()))∧
 P((y4.1,y4.2.1,y4.2.2.1,y4.2.2.2.1,()),y4.2.2.2.1,()))∧
 ∃(y3:List Int),
 Bv.fn(p.1,())=some y3∧
 ∃(y4:List(List Int)×List Int×List Int×Bool×PUnit),
 Cr.fn((p.1,p.2.1,p.2.2.1,()),y3,())=some y4∧
 ((P((y4.1,y4.2.1,y4.2.2.1,y4.2.2.2.1,()),y4.2.2.2.1,())∧P((y4.1,y4.2.1,y4.2.2.1,y4.2.2.2.1,()),y4.2.2.2.1,()))∧
 P((y4.1,y4.2.1,y4.2.2.1,y4.2.2.2.1,()),y4.2.2.2.1,()))∧
 (P((y4.1,y4.2.1,y4.2.2.1,y4.2.2.2.1,()),y4.2.2.2.1,())∧P((y4.1,y4.2.1,y4.2.2.1,y4.2.2.2.1,()),y4.2.2.2.1,()))∧
 P((y4.1,y4.2.1,y4.2.2.1,y4.2.2.2.1,()),y4.2.2.2.1,()))∧
 ∃(y3:List Int),
 Bv.fn(p.1,())=some y3∧
 ∃(y4:List(List Int)×List Int×List Int×Bool×PUnit),
 Cr.fn((p.1,p.2.1,p.2.2.1,()),y3,())=some y4∧
 ((P((y4.1,y4.2.1,y4.2.2.1,y4.2.2.2.1,()),y4.2.2.2.1,())∧P((y4.1,y4.2.1,y4.2.2.1,y4.2.2.2.1,()),y4.2.2.2.1,()))∧
 P((y4.1,y4.2.1,y4.2.2.1,y4.2.2.2.1,()),y4.2.2.2.1,()))∧
 (P((y4.1,y4.2.1,y4.2.2.1,y4.2.2.2.1,()),y4.2.2.2.1,())∧P((y4.1,y4.2.1,y4.2.2.1,y4.2.2.2.1,()),y4.2.2.2.1,()))∧
 P((y4.1,y4.2.1,y4.2.2.1,y4.2.2.2.1,()),y4.2.2.2.1,()))∧
 ((((∃(y3:List Int),
 Bv.fn(p.1,())=some y3∧
 (∃(y4:List(List Int)×List Int×List Int×Bool×PUnit),
 Cr.fn((p.1,p.2.1,p.2.2.1,()),y3,())=some y4∧
 ((P((y4.1,y4.2.1,y4.2.2.1,y4.2.2.2.1,()),y4.2.2.2.1,())∧P((y4.1,y4.2.1,y4.2.2.1,y4.2.2.2.1,()),y4.2.2.2.1,()))∧
 P((y4.1,y4.2.1,y4.2.2.1,y4.2.2.2.1,()),y4.2.2.2.1,()))∧
 (P((y4.1,y4.2.1,y4.2.2.1,y4.2.2.2.1,()),y4.2.2.2.1,())∧P((y4.1,y4.2.1,y4.2.2.1,y4.2.2.2.1,()),y4.2.2.2.1,()))∧
 P((y4.1,y4.2.1,y4.2.2.1,y4.2.2.2.1,()),y4.2.2.2.1,()))∧
 ∃(y4:List(List Int)×List Int×List Int×Bool×PUnit),
 Cr.fn((p.1,p.2.1,p.2.2.1,()),y3,())=some y4∧
 ((P((y4.1,y4.2.1,y4.2.2.1,y4.2.2.2.1,()),y4.2.2.2.1,())∧P((y4.1,y4.2.1,y4.2.2.1,y4.2.2.2.1,()),y4.2.2.2.1,()))∧
 P((y4.1,y4.2.1,y4.2.2.1,y4.2.2.2.1,()),y4.2.2.2.1,()))∧
 (P((y4.1,y4.2.1,y4.2.2.1,y4.2.2.2.1,()),y4.2.2.2.1,())∧P((y4.1,y4.2.1,y4.2.2.1,y4.2.2.2.1,()),y4.2.2.2.1,()))∧
 P((y4.1,y4.2.1,y4.2.2.1,y4.2.2.2.1,()),y4.2.2.2.1,()))∧
 ∃(y3:List Int),
 Bv.fn(p.1,())=some y3∧
 ∃(y4:List(List Int)×List Int×List Int×Bool×PUnit),
 Cr.fn((p.1,p.2.1,p.2.2.1,()),y3,())=some y4∧
 ((P((y4.1,y4.2.1,y4.2.2.1,y4.2.2.2.1,()),y4.2.2.2.1,())∧P((y4.1,y4.2.1,y4.2.2.1,y4.2.2.2.1,()),y4.2.2.2.1,()))∧
 P((y4.1,y4.2.1,y4.2.2.1,y4.2.2.2.1,()),y4.2.2.2.1,()))∧
 (P((y4.1,y4.2.1,y4.2.2.1,y4.2.2.2.1,()),y4.2.2.2.1,())∧P((y4.1,y4.2.1,y4.2.2.1,y4.2.2.2.1,()),y4.2.2.2.1,()))∧
 P((y4.1,y4.2.1,y4.2.2.1,y4.2.2.2.1,()),y4.2.2.2.1,()))∧
 ∃(y3:List Int),
 Bv.fn(p.1,())=some y3∧
 ∃(y4:List(List Int)×List Int×List Int×Bool×PUnit),
 Cr.fn((p.1,p.2.1,p.2.2.1,()),y3,())=some y4∧
 ((P((y4.1,y4.2.1,y4.2.2.1,y4.2.2.2.1,()),y4.2.2.2.1,())∧P((y4.1,y4.2.1,y4.2.2.1,y4.2.2.2.1,()),y4.2.2.2.1,()))∧
 P((y4.1,y4.2.1,y4.2.2.1,y4.2.2.2.1,()),y4.2.2.2.1,()))∧
 (P((y4.1,y4.2.1,y4.2.2.1,y4.2.2.2.1,()),y4.2.2.2.1,())∧P((y4.1,y4.2.1,y4.2.2.1,y4.2.2.2.1,()),y4.2.2.2.1,()))∧
 P((y4.1,y4.2.1,y4.2.2.1,y4.2.2.2.1,()),y4.2.2.2.1,()))∧
 (((∃(y3:List Int),
 Bv.fn(p.1,())=some y3∧
 (∃(y4:List(List Int)×List Int×List Int×Bool×PUnit),
 Cr.fn((p.1,p.2.1,p.2.2.1,()),y3,())=some y4∧
 ((P((y4.1,y4.2.1,y4.2.2.1,y4.2.2.2.1,()),y4.2.2.2.1,())∧P((y4.1,y4.2.1,y4.2.2.1,y4.2.2.2.1,()),y4.2.2.2.1,()))∧
 P((y4.1,y4.2.1,y4.2.2.1,y4.2.2.2.1,()),y4.2.2.2.1,()))∧
 (P((y4.1,y4.2.1,y4.2.2.1,y4.2.2.2.1,()),y4.2.2.2.1,())∧P((y4.1,y4.2.1,y4.2.2.1,y4.2.2.2.1,()),y4.2.2.2.1,()))∧
 P((y4.1,y4.2.1,y4.2.2.1,y4.2.2.2.1,()),y4.2.2.2.1,()))∧
 ∃(y4:List(List Int)×List Int×List Int×Bool×PUnit),
 Cr.fn((p.1,p.2.1,p.2.2.1,()),y3,())=some y4∧
 ((P((y4.1,y4.2.1,y4.2.2.1,y4.2.2.2.1,()),y4.2.2.2.1,())∧P((y4.1,y4.2.1,y4.2.2.1,y4.2.2.2.1,()),y4.2.2.2.1,()))∧
 P((y4.1,y4.2.1,y4.2.2.1,y4.2.2.2.1,()),y4.2.2.2.1,()))∧
 (P((y4.1,y4.2.1,y4.2.2.1,y4.2.2.2.1,()),y4.2.2.2.1,())∧P((y4.1,y4.2.1,y4.2.2.1,y4.2.2.2.1,()),y4.2.2.2.1,()))∧
 P((y4.1,y4.2.1,y4.2.2.1,y4.2.2.2.1,()),y4.2.2.2.1,()))∧
 ∃(y3:List Int),
 Bv.fn(p.1,())=some y3∧
 ∃(y4:List(List Int)×List Int×List Int×Bool×PUnit),
 Cr.fn((p.1,p.2.1,p.2.2.1,()),y3,())=some y4∧
 ((P((y4.1,y4.2.1,y4.2.2.1,y4.2.2.2.1,()),y4.2.2.2.1,())∧P((y4.1,y4.2.1,y4.2.2.1,y4.2.2.2.1,()),y4.2.2.2.1,()))∧
 P((y4.1,y4.2.1,y4.2.2.1,y4.2.2.2.1,()),y4.2.2.2.1,()))∧
 (P((y4.1,y4.2.1,y4.2.2.1,y4.2.2.2.1,()),y4.2.2.2.1,())∧P((y4.1,y4.2.1,y4.2.2.1,y4.2.2.2.1,()),y4.2.2.2.1,()))∧
 P((y4.1,y4.2.1,y4.2.2.1,y4.2.2.2.1,()),y4.2.2.2.1,()))∧
 (∃(y3:List Int),
 Bv.fn(p.1,())=some y3∧
 ((∃(y4:List(List Int)×List Int×List Int×Bool×PUnit),
 Cr.fn((p.1,p.2.1,p.2.2.1,()),y3,())=some y4∧
 ((P((y4.1,y4.2.1,y4.2.2.1,y4.2.2.2.1,()),y4.2.2.2.1,())∧P((y4.1,y4.2.1,y4.2.2.1,y4.2.2.2.1,()),y4.2.2.2.1,()))∧
 P((y4.1,y4.2.1,y4.2.2.1,y4.2.2.2.1,()),y4.2.2.2.1,()))∧
 (P((y4.1,y4.2.1,y4.2.2.1,y4.2.2.2.1,()),y4.2.2.2.1,())∧P((y4.1,y4.2.1,y4.2.2.1,y4.2.2.2.1,()),y4.2.2.2.1,()))∧
 P((y4.1,y4.2.1,y4.2.2.1,y4.2.2.2.1,()),y4.2.2.2.1,()))∧
 ∃(y4:List(List Int)×List Int×List Int×Bool×PUnit),
 Cr.fn((p.1,p.2.1,p.2.2.1,()),y3,())=some y4∧
 ((P((y4.1,y4.2.1,y4.2.2.1,y4.2.2.2.1,()),y4.2.2.2.1,())∧P((y4.1,y4.2.1,y4.2.2.1,y4.2.2.2.1,()),y4.2.2.2.1,()))∧
 P((y4.1,y4.2.1,y4.2.2.1,y4.2.2.2.1,()),y4.2.2.2.1,()))∧
 (P((y4.1,y4.2.1,y4.2.2.1,y4.2.2.2.1,()),y4.2.2.2.1,())∧P((y4.1,y4.2.1,y4.2.2.1,y4.2.2.2.1,()),y4.2.2.2.1,()))∧
 P((y4.1,y4.2.1,y4.2.2.1,y4.2.2.2.1,()),y4.2.2.2.1,()))∧
 ∃(y4:List(List Int)×List Int×List Int×Bool×PUnit),
 Cr.fn((p.1,p.2.1,p.2.2.1,()),y3,())=some y4∧
 ((P((y4.1,y4.2.1,y4.2.2.1,y4.2.2.2.1,()),y4.2.2.2.1,())∧P((y4.1,y4.2.1,y4.2.2.1,y4.2.2.2.1,()),y4.2.2.2.1,()))∧
 P((y4.1,y4.2.1,y4.2.2.1,y4.2.2.2.1,()),y4.2.2.2.1,()))∧
 (P((y4.1,y4.2.1,y4.2.2.1,y4.2.2.2.1,()),y4.2.2.2.1,())∧P((y4.1,y4.2.1,y4.2.2.1,y4.2.2.2.1,()),y4.2.2.2.1,()))∧
 P((y4.1,y4.2.1,y4.2.2.1,y4.2.2.2.1,()),y4.2.2.2.1,()))∧
 (∃(y3:List Int),
 Bv.fn(p.1,())=some y3∧
 ∃(y4:List(List Int)×List Int×List Int×Bool×PUnit),
 Cr.fn((p.1,p.2.1,p.2.2.1,()),y3,())=some y4∧
 ((P((y4.1,y4.2.1,y4.2.2.1,y4.2.2.2.1,()),y4.2.2.2.1,())∧P((y4.1,y4.2.1,y4.2.2.1,y4.2.2.2.1,()),y4.2.2.2.1,()))∧
 P((y4.1,y4.2.1,y4.2.2.1,y4.2.2.2.1,()),y4.2.2.2.1,()))∧
 (P((y4.1,y4.2.1,y4.2.2.1,y4.2.2.2.1,()),y4.2.2.2.1,())∧P((y4.1,y4.2.1,y4.2.2.1,y4.2.2.2.1,()),y4.2.2.2.1,()))∧
 P((y4.1,y4.2.1,y4.2.2.1,y4.2.2.2.1,()),y4.2.2.2.1,()))∧
 ∃(y3:List Int),
 Bv.fn(p.1,())=some y3∧
 ∃(y4:List(List Int)×List Int×List Int×Bool×PUnit),
 Cr.fn((p.1,p.2.1,p.2.2.1,()),y3,())=some y4∧
 ((P((y4.1,y4.2.1,y4.2.2.1,y4.2.2.2.1,()),y4.2.2.2.1,())∧P((y4.1,y4.2.1,y4.2.2.1,y4.2.2.2.1,()),y4.2.2.2.1,()))∧
 P((y4.1,y4.2.1,y4.2.2.1,y4.2.2.2.1,()),y4.2.2.2.1,()))∧
 (P((y4.1,y4.2.1,y4.2.2.1,y4.2.2.2.1,()),y4.2.2.2.1,())∧P((y4.1,y4.2.1,y4.2.2.1,y4.2.2.2.1,()),y4.2.2.2.1,()))∧
 P((y4.1,y4.2.1,y4.2.2.1,y4.2.2.2.1,()),y4.2.2.2.1,()))∧
 (∃(y3:List Int),
 Bv.fn(p.1,())=some y3∧
 ∃(y4:List(List Int)×List Int×List Int×Bool×PUnit),
 Cr.fn((p.1,p.2.1,p.2.2.1,()),y3,())=some y4∧
 ((P((y4.1,y4.2.1,y4.2.2.1,y4.2.2.2.1,()),y4.2.2.2.1,())∧P((y4.1,y4.2.1,y4.2.2.1,y4.2.2.2.1,()),y4.2.2.2.1,()))∧
 P((y4.1,y4.2.1,y4.2.2.1,y4.2.2.2.1,()),y4.2.2.2.1,()))∧
 (P((y4.1,y4.2.1,y4.2.2.1,y4.2.2.2.1,()),y4.2.2.2.1,())∧P((y4.1,y4.2.1,y4.2.2.1,y4.2.2.2.1,()),y4.2.2.2.1,()))∧
 P((y4.1,y4.2.1,y4.2.2.1,y4.2.2.2.1,()),y4.2.2.2.1,()))∧
 (∃(y3:List Int),
 Bv.fn(p.1,())=some y3∧
 ∃(y4:List(List Int)×List Int×List Int×Bool×PUnit),
 Cr.fn((p.1,p.2.1,p.2.2.1,()),y3,())=some y4∧
 ((P((y4.1,y4.2.1,y4.2.2.1,y4.2.2.2.1,()),y4.2.2.2.1,())∧P((y4.1,y4.2.1,y4.2.2.1,y4.2.2.2.1,()),y4.2.2.2.1,()))∧
 P((y4.1,y4.2.1,y4.2.2.1,y4.2.2.2.1,()),y4.2.2.2.1,()))∧
 (P((y4.1,y4.2.1,y4.2.2.1,y4.2.2.2.1,()),y4.2.2.2.1,())∧P((y4.1,y4.2.1,y4.2.2.1,y4.2.2.2.1,()),y4.2.2.2.1,()))∧
 P((y4.1,y4.2.1,y4.2.2.1,y4.2.2.2.1,()),y4.2.2.2.1,()))∧
 ∃(y3:List Int),
 Bv.fn(p.1,())=some y3∧
 ∃(y4:List(List Int)×List Int×List Int×Bool×PUnit),
 Cr.fn((p.1,p.2.1,p.2.2.1,()),y3,())=some y4∧
 ((P((y4.1,y4.2.1,y4.2.2.1,y4.2.2.2.1,()),y4.2.2.2.1,())∧P((y4.1,y4.2.1,y4.2.2.1,y4.2.2.2.1,()),y4.2.2.2.1,()))∧
 P((y4.1,y4.2.1,y4.2.2.1,y4.2.2.2.1,()),y4.2.2.2.1,()))∧
 (P((y4.1,y4.2.1,y4.2.2.1,y4.2.2.2.1,()),y4.2.2.2.1,())∧P((y4.1,y4.2.1,y4.2.2.1,y4.2.2.2.1,()),y4.2.2.2.1,()))∧
 P((y4.1,y4.2.1,y4.2.2.1,y4.2.2.2.1,()),y4.2.2.2.1,()))∧
 (∃(y3:List Int),
 Bv.fn(p.1,())=some y3∧
 ∃(y4:List(List Int)×List Int×List Int×Bool×PUnit),
 Cr.fn((p.1,p.2.1,p.2.2.1,()),y3,())=some y4∧
 ((P((y4.1,y4.2.1,y4.2.2.1,y4.2.2.2.1,()),y4.2.2.2.1,())∧P((y4.1,y4.2.1,y4.2.2.1,y4.2.2.2.1,()),y4.2.2.2.1,()))∧
 P((y4.1,y4.2.1,y4.2.2.1,y4.2.2.2.1,()),y4.2.2.2.1,()))∧
 (P((y4.1,y4.2.1,y4.2.2.1,y4.2.2.2.1,()),y4.2.2.2.1,())∧P((y4.1,y4.2.1,y4.2.2.1,y4.2.2.2.1,()),y4.2.2.2.1,()))∧
 P((y4.1,y4.2.1,y4.2.2.1,y4.2.2.2.1,()),y4.2.2.2.1,()))∧
 (∃(y3:List Int),
 Bv.fn(p.1,())=some y3∧
 ∃(y4:List(List Int)×List Int×List Int×Bool×PUnit),
 Cr.fn((p.1,p.2.1,p.2.2.1,()),y3,())=some y4∧
 ((P((y4.1,y4.2.1,y4.2.2.1,y4.2.2.2.1,()),y4.2.2.2.1,())∧P((y4.1,y4.2.1,y4.2.2.1,y4.2.2.2.1,()),y4.2.2.2.1,()))∧
 P((y4.1,y4.2.1,y4.2.2.1,y4.2.2.2.1,()),y4.2.2.2.1,()))∧
 (P((y4.1,y4.2.1,y4.2.2.1,y4.2.2.2.1,()),y4.2.2.2.1,())∧P((y4.1,y4.2.1,y4.2.2.1,y4.2.2.2.1,()),y4.2.2.2.1,()))∧
 P((y4.1,y4.2.1,y4.2.2.1,y4.2.2.2.1,()),y4.2.2.2.1,()))∧
 (∃(y3:List Int),
 Bv.fn(p.1,())=some y3∧
 ∃(y4:List(List Int)×List Int×List Int×Bool×PUnit),
 Cr.fn((p.1,p.2.1,p.2.2.1,()),y3,())=some y4∧
 ((P((y4.1,y4.2.1,y4.2.2.1,y4.2.2.2.1,()),y4.2.2.2.1,())∧P((y4.1,y4.2.1,y4.2.2.1,y4.2.2.2.1,()),y4.2.2.2.1,()))∧
 P((y4.1,y4.2.1,y4.2.2.1,y4.2.2.2.1,()),y4.2.2.2.1,()))∧
 (P((y4.1,y4.2.1,y4.2.2.1,y4.2.2.2.1,()),y4.2.2.2.1,())∧P((y4.1,y4.2.1,y4.2.2.1,y4.2.2.2.1,()),y4.2.2.2.1,()))∧
 P((y4.1,y4.2.1,y4.2.2.1,y4.2.2.2.1,()),y4.2.2.2.1,()))∧
 ∃(y3:List Int),
 Bv.fn(p.1,())=some y3∧
 ∃(y4:List(List Int)×List Int×List Int×Bool×PUnit),
 Cr.fn((p.1,p.2.1,p.2.2.1,()),y3,())=some y4∧
 ((P((y4.1,y4.2.1,y4.2.2.1,y4.2.2.2.1,()),y4.2.2.2.1,())∧P((y4.1,y4.2.1,y4.2.2.1,y4.2.2.2.1,()),y4.2.2.2.1,()))∧
 P((y4.1,y4.2.1,y4.2.2.1,y4.2.2.2.1,()),y4.2.2.2.1,()))∧
 (P((y4.1,y4.2.1,y4.2.2.1,y4.2.2.2.1,()),y4.2.2.2.1,())∧P((y4.1,y4.2.1,y4.2.2.1,y4.2.2.2.1,()),y4.2.2.2.1,()))∧
 P((y4.1,y4.2.1,y4.2.2.1,y4.2.2.2.1,()),y4.2.2.2.1,())))=fnW tab(look [(99,Dp),(106,Bv),(105,Cr)])Ka Try.f57(p,())P:=by kernel_rfl
theorem arn(p:Int×ByteArray×List(List Int)×Unit)(P:Int→Prop):(∃(y2:Bool),
 Lk.fn((p.1,p.2.1,p.2.2.1,()),())=some y2∧
 Br(!y2)(P(-1:Int))
 (∃(y3:Option((Int×ByteArray×List(List Int)×PUnit)×List(List Int)×List Int×(ByteArray→Option Int)×List Int×List Int×List(List Int)×PUnit)×Bool×PUnit),
 Ly.fn((p.1,p.2.1,p.2.2.1,()),())=some y3∧
 Br(!y3.2.1)(P(-1:Int))
 (∃(y4:(List(List Int)×PUnit)×PUnit),
 Nq.fn(p.1,p.2.1,p.2.2.1,())=some y4∧
 ∃(y5:(Int×ByteArray×List(List Int)×PUnit)×List(List Int)×List Int×(ByteArray→Option Int)×List Int×List Int×List(List Int)×PUnit),
 y3.1=some y5∧
 (0:Nat)=(0:Nat)∧
 y4.1.1.length=y4.1.1.length∧
 Bo
 (fun(v6:Int×Int×List(List Int)×PUnit)(k7:Int×Int×List(List Int)×PUnit→Prop)=>
 Br(decide(v6.2.1<(↑y5.2.1.length:Int)))
 (∃(y8:List Int),
 idx y5.2.1 v6.2.1=some y8∧
 ∃(y9:List Int),
 Ja.fn(List.take v6.2.2.1.length(List.drop((0:Nat))v6.2.2.1),y8,())=some y9∧
 ∃(y10:Bool),
 Bd.fn(y9,y8,())=some y10∧
 Br y10
 ((0:Nat)=(0:Nat)∧
 v6.2.2.1.length=v6.2.2.1.length∧k7(IntKind.i64.wrap(v6.1+(1:Int)),IntKind.i64.wrap(v6.2.1+(1:Int)),v6.2.2.1,()))
 ((0:Nat)=(0:Nat)∧v6.2.2.1.length=v6.2.2.1.length∧k7(v6.1,IntKind.i64.wrap(v6.2.1+(1:Int)),v6.2.2.1,())))
 (P v6.1))
 ((0:Int),(0:Int),y4.1.1,PUnit.unit))))=fnW tab(look [(86,Lk),(61,Ly),(87,Nq),(88,Ja),(63,Bd)])Gr Try.f41(p,())P:=by kernel_rfl
theorem abv(p:Int×ByteArray×List(List Int)×Unit)(P:Int→Prop):(∃(y2:(List(List Int)×List Int×List Int×Bool×PUnit)×Bool×PUnit),
 Ka.fn((p.1,p.2.1,p.2.2.1,()),())=some y2∧
 Br(!y2.2.1)(P(-1:Int))
 (∃(y3:Bool),
 Lk.fn((p.1,p.2.1,p.2.2.1,()),())=some y3∧
 Br(!y3)(P(-1:Int))
 (∃(y4:List(List Int)),
 Lq.fn((p.1,p.2.1,p.2.2.1,()),())=some y4∧
 Bo
 (fun(v5:Int×Int×List(List Int)×List Int×List Int×Bool×PUnit)(k6:Int×Int×List(List Int)×List Int×List Int×Bool×PUnit→Prop)=>
 Br(decide(v5.2.1<(↑v5.2.2.1.length:Int)))
 (∃(y7:List Int),
 idx v5.2.2.1 v5.2.1=some y7∧
 ∃(y8:List Int),
 Ja.fn(y4,y7,())=some y8∧
 ∃(y9:List Int),
 idx v5.2.2.1 v5.2.1=some y9∧
 ∃(y10:Bool),
 Bd.fn(y8,y9,())=some y10∧
 Br y10
 (k6
 (IntKind.i64.wrap(v5.1+(1:Int)),IntKind.i64.wrap(v5.2.1+(1:Int)),v5.2.2.1,v5.2.2.2.1,v5.2.2.2.2.1,v5.2.2.2.2.2.1,()))
 (k6(v5.1,IntKind.i64.wrap(v5.2.1+(1:Int)),v5.2.2.1,v5.2.2.2.1,v5.2.2.2.2.1,v5.2.2.2.2.2.1,())))
 (P v5.1))
 ((0:Int),(0:Int),y2.1.1,y2.1.2.1,y2.1.2.2.1,y2.1.2.2.2.1,PUnit.unit))))=fnW tab(look [(57,Ka),(83,Lk),(84,Lq),(85,Ja),(59,Bd)])Gr Try.f40(p,())P:=by kernel_rfl
theorem awv(p:Int×ByteArray×List(List Int)×Unit)(P:Bool→Prop):(∃(y2:Int),
 aro.fn((p.1,p.2.1,p.2.2.1,()),(1048576:Int),())=some y2∧
 Br(decide(y2<(0:Int)))(P true)
 (∃(y3:Int×ByteArray×List(List Int)×PUnit),
 ajf.fn((p.1,p.2.1,p.2.2.1,()),())=some y3∧
 ∃(y4:Int),
 Gr.fn(y3,())=some y4∧
 ∃(y5:Int×ByteArray×List(List Int)×PUnit),
 ajf.fn((p.1,p.2.1,p.2.2.1,()),())=some y5∧
 ∃(y6:Int),
 Gr.fn((y5.1,y5.2.1,y5.2.2.1,()),())=some y6∧
 Br(y6 !=y4)(P false)
 (∃(y7:Int×ByteArray×List(List Int)×PUnit),
 ajf.fn((p.1,p.2.1,p.2.2.1,()),())=some y7∧ ∃(y8:Bool),atp.fn((y5.1,y5.2.1,y5.2.2.1,()),y7,())=some y8∧Br(!y8)(P false)(P true))))=fnW tab(look [(15,aro),(40,Gr),(41,Gr),(17,ajf),(20,atp)])bdu Try.f10(p,())P:=by kernel_rfl
theorem biy {p:List Int} (h:Pc p):Ey p=true:=by
 refine Dg.2⟨h.pos,h.len,fun j h1 h2=>?_⟩
 have:=h.row _(List.getElem_mem h2)
 exact⟨by omega,by omega,fun hm=>by
  obtain⟨i,hi,e⟩:=List.mem_iff_getElem.1 hm
  have hi':i<j:=by rw [List.length_take]at hi;omega
  rw [List.getElem_take]at e
  exact(List.pairwise_iff_getElem.1 h.nodup i j(by omega)h2 hi')e⟩
theorem Yr {p:PP} (hw:Im p=true):At p=true∧(Fl p.2.2.1(upto p.1.toNat)).2.2=true:=Bool.and_eq_true_iff.1 hw
theorem bsp {p:PP} (hv:At p=true):Ps p p.1.toNat(Ch p)(anj p):=(aok hv).ok
theorem bpd {p:PP} (hV:Valid p):PmS p.1.toNat fun g=>some g∈p.2.2.1.map some:=
 ⟨by have:=hV.n;omega,fun g hg'=>by obtain⟨g',e,h⟩:=aoy(afc hV).2.2 _ hg';cases e;exact h⟩
theorem bua {p:PP} (hv:At p=true) {x:List Int} (hx:x∈Ch p):Pm p.1.toNat x:=Gen.pm(bpd(valid hv))((aok hv).gen x hx)
theorem brq {p:PP} (hV:Valid p) {x:List Int} (h:Pm p.1.toNat x):Di p.1 x=true:=by
 have:=hV.n
 have:=h.1
 exact Dg.2⟨by omega,biy h.2⟩
theorem brj {p:PP} (hv:At p=true) {x:List Int} (hx:x∈Ch p):Di p.1 x=true:=brq(valid hv)(bua hv hx)
theorem bpv {p:PP} (hw:Im p=true):(aed p).2.1=Ch p∧(aed p).2.2.1=anj p:=by
 have h:=(Yr hw).2
 refine bae 3001 0([upto p.1.toNat],[0],[0],[0]) []_ _ ?_
 show Hj p.2.2.1(Ap p.2.2.1.length)3001 0 [upto p.1.toNat] [0]=(Ch p,anj p,true)
 rw [←h]
 rfl
theorem bfx(p:PP)(h:Ec p):fnW tab(look [(99,Dp),(106,Bv),(105,Cr)])Ka Try.f57(p,())(fun(z:SS×Bool×Unit)=>z=adn p):=by
 refine Eq.mp(bfa p _)⟨_,if_pos h,?_⟩
 show Br(!At p)_ _
 unfold adn
 by_cases hv:At p=true
 ·rw [if_pos hv,hv]
  refine⟨fun hb=>by simp at hb,fun _=>?_⟩
  have hn:=(valid hv).n
  have hid:Bv.fn(p.1,())=some(upto p.1.toNat):=if_pos⟨by show 0≤p.1;omega,by show p.1≤20;omega⟩
  have hup: ∀y∈upto p.1.toNat,0≤y∧y<p.1:=fun y hy=>by have:=Hy.1 hy;omega
  have hfr:Cr.fn((p.1,p.2.1,p.2.2.1,()),upto p.1.toNat,())=some(Hu p.2.2.1(upto p.1.toNat)):=if_pos⟨hv,by show(upto p.1.toNat).length≤20;rw [Hz];omega,hup⟩
  have hz:(((Hu p.2.2.1(upto p.1.toNat)).1,(Hu p.2.2.1(upto p.1.toNat)).2.1,(Hu p.2.2.1(upto p.1.toNat)).2.2.1,(Hu p.2.2.1(upto p.1.toNat)).2.2.2.1,()),(Hu p.2.2.1(upto p.1.toNat)).2.2.2.1,())=(Hu p.2.2.1(upto p.1.toNat),Im p,()):=by
   unfold Im
   rw [hv,Bool.true_and]
   rfl
  repeat'(first|exact hz|refine⟨_,hid,?_⟩|refine⟨_,hfr,?_⟩|refine⟨?_,?_⟩)
 ·rw [if_neg hv]
  refine⟨fun _=>rfl,fun hb=>?_⟩
  exact absurd(by simpa using hb)hv
theorem aog:Sound Try.prog 57 Ka:=
 Sound.mkS Ca(Ae Nn(Ae ana(Ae ayp As)))mixed Try.func57(by kernel_rfl)(by kernel_rfl)fun x h=>bfx x.1 h
theorem bsi {b:Bool} (h:(!b)=true):b=false:=by cases b<;>simp_all
theorem Wc {a b:List Int} :Dw a b=true↔a=b:=decide_eq_true_iff
theorem Sa {α:Type} (q:α→Bool)(xs:List α) {j:Nat} (h:j<xs.length):(xs.take(j+1)).countP q=(xs.take j).countP q+if q xs[j]=true then 1 else 0:=by
 rw [List.take_add_one,List.getElem?_eq_getElem h,List.countP_append]
 simp [List.countP_cons]
theorem afr {α:Type} (q:α→Bool)(xs:List α)(j:Nat):(xs.take j).countP q≤xs.length:=
 Nat.le_trans List.countP_le_length(by rw [List.length_take];omega)
theorem azp {p:PP} (hv:At p=true):(Ch p).length≤3000:=(bsp hv).ok.few
theorem alx {p:PP} (hp:Ec p)(hw:Im p=true):Ka.fn((p.1,p.2.1,p.2.2.1,()),())=some(Hu p.2.2.1(upto p.1.toNat),true,()):=
 (if_pos hp).trans(congrArg some((if_pos(Yr hw).1).trans(by rw [←hw])))
theorem axa {p:PP} (hp:Ec p)(hw: ¬Im p=true): ∃f,Ka.fn((p.1,p.2.1,p.2.2.1,()),())=some(f,false,()):=by
 by_cases hv:At p=true
 ·exact⟨_,(if_pos hp).trans(congrArg some((if_pos hv).trans(by rw [←Bool.not_eq_true _|>.mp hw])))⟩
 ·exact⟨_,(if_pos hp).trans(congrArg some(if_neg hv))⟩
theorem bbe {p:PP} (hv:At p=true) {s:List Int} (hs:s∈Ch p)(h7:Hp p=true):Vm(Fp p)s:=bep h7(brj hv hs)
theorem aqf(p:PP)(hp:Ec p):fnW tab(look [(86,Lk),(61,Ly),(87,Nq),(88,Ja),(63,Bd)])Gr Try.f41(p,())(fun(z:Int)=>z=Qn p):=by
 unfold Qn
 refine Eq.mp(arn p _)⟨_,if_pos hp,Br.of(fun hs=>?_)fun hs=>?_⟩
 ·have hs:Hp p=false:=bsi hs
  rw [hs,Bool.false_and,if_neg(by decide)]
 have hs:Hp p=true:=by simpa using hs
 rw [hs,Bool.true_and]
 obtain⟨hv,h7⟩:=Qq.1 hs
 by_cases hw:Im p=true
 ·have he:Ly.fn((p.1,p.2.1,p.2.2.1,()),())=some(some(aed p),true,()):=(if_pos hp).trans(congrArg some(if_pos hw))
  rw [if_pos hw]
  refine⟨_,he,fun hb=>by simp at hb,fun _=>⟨_,if_pos⟨hv,h7⟩,_,rfl,rfl,rfl,?_⟩⟩
  rw [(bpv hw).1]
  have hlen:=azp hv
  refine Ao(Ch p).length(fun v=>v.2.1)(fun j v=>v.1=((((Ch p).take j).countP fun s=>decide(Ee(Fp p)s=s):Nat):Int)∧v.2.2.1=Fp p)rfl⟨by simp,rfl⟩?_
  rintro j⟨c,i,L,⟨⟩⟩K hj hi⟨hR,hL⟩hK
  dsimp only at hi hR hL⊢
  subst hi hR hL
  have hb:=afr(fun s=>decide(Ee(Fp p)s=s))(Ch p)j
  rw [Bq]
  refine Br.dec(fun hl=>?_)fun hl=>?_
  ·have hl:j<(Ch p).length:=by omega
   have hok:=bbe hv(List.getElem_mem hl)hs
   have hcs:short(Ee(Fp p)(Ch p)[j]):=by have:=aka hok;have:=hok.2.1;unfold short;omega
   refine⟨_,Bc hl,_,if_pos hok,_,if_pos hcs,Br.of(fun hb=>⟨rfl,rfl,?_⟩)fun hb=>⟨rfl,rfl,?_⟩⟩
   ·have hb:Dw(Ee(Fp p)(Ch p)[j])(Ch p)[j]=true:=hb
    rw [Ak(by omega),Ak(by omega)]
    refine hK hl _ rfl⟨?_,rfl⟩
    rw [Sa _ _ hl,if_pos(decide_eq_true(Wc.1 hb))]
   ·have hb:Dw(Ee(Fp p)(Ch p)[j])(Ch p)[j]=false:=hb
    rw [Ak(by omega)]
    refine hK hl _ rfl⟨?_,rfl⟩
    rw [Sa _ _ hl,if_neg(by simp only [decide_eq_true_eq];exact fun e=>by rw [Wc.2 e]at hb;cases hb)]
    rfl
  ·have:j=(Ch p).length:=by omega
   subst this
   rw [List.take_length]
 ·have he:Ly.fn((p.1,p.2.1,p.2.2.1,()),())=some(none,false,()):=(if_pos hp).trans(congrArg some(if_neg hw))
  rw [if_neg hw]
  exact⟨_,he,fun _=>rfl,fun hb=>by simp at hb⟩
theorem agx:Sound Try.prog 41 Gr:=
 Sound.mkS Ca(Ae aky(Ae aqe(Gv ani(Ae aya(Ae Sd As)))))mixed Try.func41(by kernel_rfl)(by kernel_rfl)fun x h=>aqf x.1 h
theorem aqp(p:PP)(hp:Ec p):fnW tab(look [(57,Ka),(83,Lk),(84,Lq),(85,Ja),(59,Bd)])Gr Try.f40(p,())(fun(z:Int)=>z=Qn p):=by
 unfold Qn
 by_cases hw:Im p=true
 ·have hv:=(Yr hw).1
  rw [hw,Bool.and_true]
  refine Eq.mp(abv p _)⟨_,alx hp hw,fun hb=>by simp at hb,fun _=>⟨_,if_pos hp,Br.of(fun hm=>?_)fun hm=>?_⟩⟩
  ·rw [if_neg(Fy hm)]
  have hm:Hp p=true:=by simpa using hm
  have hsy:Lq.fn((p.1,p.2.1,p.2.2.1,()),())=some(Fp p):=(if_pos hp).trans(congrArg some(if_pos hm))
  refine⟨_,hsy,?_⟩
  obtain⟨_,h7⟩:=Qq.1 hm
  rw [if_pos hm]
  have hlen:=azp hv
  refine Ao(Ch p).length(fun v=>v.2.1)(fun j v=>v.1=((((Ch p).take j).countP fun s=>decide(Ee(Fp p)s=s):Nat):Int)∧v.2.2.1=Ch p)rfl⟨by simp,rfl⟩?_
  rintro j⟨c,i,L,x1,x2,x3,⟨⟩⟩K hj hi⟨hR,hL⟩hK
  dsimp only at hi hR hL⊢
  subst hi hR hL
  have hb:=afr(fun s=>decide(Ee(Fp p)s=s))(Ch p)j
  refine Br.dec(fun hl=>?_)fun hl=>?_
  ·have hl:j<(Ch p).length:=by omega
   have hok:=bbe hv(List.getElem_mem hl)hm
   have hcs:short(Ee(Fp p)(Ch p)[j]):=by have:=aka hok;have:=hok.2.1;unfold short;omega
   refine⟨_,Bc hl,_,if_pos hok,_,Bc hl,_,if_pos hcs,Br.of(fun hb=>?_)fun hb=>?_⟩
   ·have hb:Dw(Ee(Fp p)(Ch p)[j])(Ch p)[j]=true:=hb
    rw [Ak(by omega),Ak(by omega)]
    refine hK hl _ rfl⟨?_,rfl⟩
    rw [Sa _ _ hl,if_pos(decide_eq_true(Wc.1 hb))]
   ·have hb:Dw(Ee(Fp p)(Ch p)[j])(Ch p)[j]=false:=hb
    rw [Ak(by omega)]
    refine hK hl _ rfl⟨?_,rfl⟩
    rw [Sa _ _ hl,if_neg(by simp only [decide_eq_true_eq];exact fun e=>by rw [Wc.2 e]at hb;cases hb)]
    rfl
  ·have:j=(Ch p).length:=by omega
   subst this
   rw [List.take_length]
 ·obtain⟨f,he⟩:=axa hp hw
  rw [Bool.not_eq_true _|>.mp hw,Bool.and_false,if_neg(by decide)]
  exact Eq.mp(abv p _)⟨_,he,fun _=>rfl,fun hb=>by simp at hb⟩
theorem agr:Sound Try.prog 40 Gr:=
 Sound.mkS Ca(Ae aog(Ae akv(Ae amj(Ae aks(Ae Pk As)))))mixed Try.func40(by kernel_rfl)(by kernel_rfl)fun x h=>aqp x.1 h
theorem axu(p:PP)(h:Ec p):fnW tab(look [(15,aro),(40,Gr),(41,Gr),(17,ajf),(20,atp)])bdu Try.f10(p,())(fun(z:Bool)=>z=true):=by
 have h0:Ec(p.1,p.2.1,p.2.2.1,()):=h
 refine Eq.mp(awv p _)?_
 refine⟨_,if_pos⟨h0,bbq⟩,Br.dec(fun _=>rfl)fun hs_p=>?_⟩
 have hz_p:(((Sh p.2.2.1:Nat):Nat):Int)≤(1048576)-(Zj(p.1,p.2.1,p.2.2.1,())(1048576))∧roomy(Zj(p.1,p.2.1,p.2.2.1,())(1048576)):=bmx bbq hs_p
 have hy_p:=hz_p.1
 have hr_p:0≤Zj(p.1,p.2.1,p.2.2.1,())(1048576)∧Zj(p.1,p.2.1,p.2.2.1,())(1048576)≤4294967296:=hz_p.2
 have l0:low(1+(Sh p.2.2.1:Nat)):=⟨by omega,by omega⟩
 refine⟨_,if_pos h0,?_⟩
 try simp only [Bq]
 refine⟨_,if_pos h0,_,if_pos h0,?_⟩
 try simp only [Bq]
 generalize he0:Qn p=g0
 refine⟨_,if_pos h0,?_⟩
 simp only [Bq,he0]
 refine⟨fun he=>bnz he,fun _=>?_⟩
 refine⟨_,if_pos h0,_,if_pos h0,⟨fun he=>absurd(bdy _)(Fy he),fun _=>?_⟩⟩
 first|rfl|trivial
theorem ahk:Sound Try.prog 10 bdu:=
 Sound.mkS Ca(Ae blb(Ae agr(Ae agx(Ae bjl(Ae bkx As)))))mixed Try.func10(by kernel_rfl)(by kernel_rfl)fun x h=>axu x.1 h
