/-
  Part 49 of the proof that the statement FnExactIsMethodSolution holds.
-/
import Derived.Test.YtebabhocakedaaaCIsMethodSolution47
namespace Go.Proofs.Ytebabhocakedaaa
open Go.RowKit
theorem Bag (p:Int×ByteArray×List (List Int)×Unit) (P:(Option (PP×List (List Int)×List Int×(ByteArray→Option Int)×List Int×List Int×List (List Int)×Unit)×Bool×Unit)→Prop):(∃(y2:Int),
 Kc.fn ((p.1,p.2.1,p.2.2.1,()),())=some y2∧
 ∃(y3:Bool),
 As.fn (y2,(1:Int),(3000:Int),())=some y3∧
 Br (!y3) (P (none,false,()))
 (∃(y4:List Int),
 Hc.fn (p.1,())=some y4∧
 ∃(y5:ByteArray),
 Dp.fn (y4,())=some y5∧
 (∃(y6:List Int),
 Ka.fn ((↑p.2.2.1.length:Int),())=some y6∧
 (0:Nat)=(0:Nat)∧
 (1:Nat)= [y4].length∧
 (0:Nat)=(0:Nat)∧
 (1:Nat)= [(0:Int)].length∧
 (0:Nat)=(0:Nat)∧
 (1:Nat)= [(0:Int)].length∧
 (0:Nat)=(0:Nat)∧
 (1:Nat)= [(0:Int)].length∧
 (0:Nat)=(0:Nat)∧
 (0:Nat)=([]:List Int).length∧
 Bv
 (fun
 (v7:
 Int×
 Int×
 ByteArray×
 List (List Int)×
 List (List Int)×List Int×(ByteArray→Option Int)×List Int×List Int×Int×ByteArray×List (List Int)×List (List Int)×PUnit)
 (k8:
 Int×
 Int×
 ByteArray×
 List (List Int)×
 List (List Int)×
 List Int×(ByteArray→Option Int)×List Int×List Int×Int×ByteArray×List (List Int)×List (List Int)×PUnit→
 Prop)=>
 Br (decide (v7.1<(↑v7.2.2.2.2.1.length:Int)))
 (((0:Int)≤v7.1∧v7.1<(↑v7.2.2.2.2.1.length:Int))∧
 ∃(y9:List Int),
 v7.2.2.2.2.1[(0:Nat)+v7.1.toNat]?=some y9∧
 ∃(y10:List (List Int)),
 Aas.fn ((v7.2.1,v7.2.2.1,v7.2.2.2.1,()),y9,())=some y10∧
 (0:Nat)=(0:Nat)∧
 (0:Nat)=([]:List Int).length∧
 (0:Nat)=(0:Nat)∧
 v7.2.2.2.2.1.length=v7.2.2.2.2.1.length∧
 (0:Nat)=(0:Nat)∧
 v7.2.2.2.2.2.1.length=v7.2.2.2.2.2.1.length∧
 (0:Nat)=(0:Nat)∧
 v7.2.2.2.2.2.2.2.1.length=v7.2.2.2.2.2.2.2.1.length∧
 (0:Nat)=(0:Nat)∧
 v7.2.2.2.2.2.2.2.2.1.length=v7.2.2.2.2.2.2.2.2.1.length∧
 (0:Nat)=(0:Nat)∧
 v7.2.2.2.2.2.2.2.2.2.2.2.2.1.length=v7.2.2.2.2.2.2.2.2.2.2.2.2.1.length∧
 Bv
 (fun
 (v11:
 Int×
 Int×
 ByteArray×
 List (List Int)×
 List Int×
 List (List Int)×
 List Int×
 (ByteArray→Option Int)×
 List Int×List Int×Int×ByteArray×List (List Int)×List (List Int)×PUnit)
 (k12:
 Int×
 Int×
 ByteArray×
 List (List Int)×
 List Int×
 List (List Int)×
 List Int×
 (ByteArray→Option Int)×
 List Int×List Int×Int×ByteArray×List (List Int)×List (List Int)×PUnit→
 Prop)=>
 Br (decide (v11.1<(↑y10.length:Int)))
 (∃(y13:List Int),
 idx y10 v11.1=some y13∧
 ∃(y14:ByteArray),
 Dp.fn (y13,())=some y14∧
 Br (!(v11.2.2.2.2.2.2.2.1 y14).isSome)
 (∃(y15:Int),
 Ld.fn
 (List.take v11.2.2.2.2.2.1.length (List.drop ((0:Nat)) v11.2.2.2.2.2.1),())=
 some y15∧
 (0:Nat)=(0:Nat)∧
 v11.2.2.2.2.2.1.length=v11.2.2.2.2.2.1.length∧
 v11.2.2.2.2.2.1.length+(List.take (1:Nat) (List.drop (0:Nat) [y13])).length≤
 Az∧
 ((0:Int)≤v7.1∧v7.1<(↑v11.2.2.2.2.2.2.1.length:Int))∧
 ∃(y16:Int),
 v11.2.2.2.2.2.2.1[(0:Nat)+v7.1.toNat]?=some y16∧
 (0:Nat)=(0:Nat)∧
 v11.2.2.2.2.2.2.1.length=v11.2.2.2.2.2.2.1.length∧
 v11.2.2.2.2.2.2.1.length+ [IntKind.i64.wrap (y16+(1:Int))].length≤
 Az∧
 (0:Nat)=(0:Nat)∧
 v11.2.2.2.2.2.2.2.2.1.length=
 v11.2.2.2.2.2.2.2.2.1.length∧
 v11.2.2.2.2.2.2.2.2.1.length+
 (List.take (1:Nat) (List.drop (0:Nat) [v7.1])).length≤
 Az∧
 ∃(y17:Int),
 idx y6 v11.1=some y17∧
 (0:Nat)=(0:Nat)∧
 v11.2.2.2.2.2.2.2.2.2.1.length=
 v11.2.2.2.2.2.2.2.2.2.1.length∧
 v11.2.2.2.2.2.2.2.2.2.1.length+ [y17].length≤
 Az∧
 (0:Nat)=(0:Nat)∧
 v11.2.2.2.2.1.length=v11.2.2.2.2.1.length∧
 v11.2.2.2.2.1.length+
 (List.take (1:Nat)
 (List.drop (0:Nat) [y15])).length≤
 Az∧
 (0:Nat)=(0:Nat)∧
 (v11.2.2.2.2.1++
 List.take (1:Nat)
 (List.drop (0:Nat) [y15])).length=
 (v11.2.2.2.2.1++
 List.take (1:Nat)
 (List.drop (0:Nat) [y15])).length∧
 (0:Nat)=(0:Nat)∧
 (v11.2.2.2.2.2.1++
 List.take (1:Nat)
 (List.drop (0:Nat) [y13])).length=
 (v11.2.2.2.2.2.1++
 List.take (1:Nat)
 (List.drop (0:Nat) [y13])).length∧
 (0:Nat)=(0:Nat)∧
 (v11.2.2.2.2.2.2.1++
 [IntKind.i64.wrap
 (y16+(1:Int))]).length=
 (v11.2.2.2.2.2.2.1++
 [IntKind.i64.wrap
 (y16+(1:Int))]).length∧
 (0:Nat)=(0:Nat)∧
 (v11.2.2.2.2.2.2.2.2.1++
 List.take (1:Nat)
 (List.drop (0:Nat)
 [v7.1])).length=
 (v11.2.2.2.2.2.2.2.2.1++
 List.take (1:Nat)
 (List.drop (0:Nat)
 [v7.1])).length∧
 (0:Nat)=(0:Nat)∧
 (v11.2.2.2.2.2.2.2.2.2.1++
 [y17]).length=
 (v11.2.2.2.2.2.2.2.2.2.1++
 [y17]).length∧
 (0:Nat)=(0:Nat)∧
 v11.2.2.2.2.2.2.2.2.2.2.2.2.2.1.length=
 v11.2.2.2.2.2.2.2.2.2.2.2.2.2.1.length∧
 k12
 (IntKind.i64.wrap
 (v11.1+(1:Int)),
 v11.2.1,v11.2.2.1,
 v11.2.2.2.1,
 v11.2.2.2.2.1++
 List.take (1:Nat)
 (List.drop (0:Nat)
 [y15]),
 v11.2.2.2.2.2.1++
 List.take (1:Nat)
 (List.drop (0:Nat)
 [y13]),
 v11.2.2.2.2.2.2.1++
 [IntKind.i64.wrap
 (y16+(1:Int))],
 Ex
 v11.2.2.2.2.2.2.2.1
 y14 y15,
 v11.2.2.2.2.2.2.2.2.1++
 List.take (1:Nat)
 (List.drop (0:Nat)
 [v7.1]),
 v11.2.2.2.2.2.2.2.2.2.1++
 [y17],
 v11.2.2.2.2.2.2.2.2.2.2.1,
 v11.2.2.2.2.2.2.2.2.2.2.2.1,
 v11.2.2.2.2.2.2.2.2.2.2.2.2.1,
 v11.2.2.2.2.2.2.2.2.2.2.2.2.2.1,
 ()))
 ((0:Nat)=(0:Nat)∧
 v11.2.2.2.2.1.length=v11.2.2.2.2.1.length∧
 v11.2.2.2.2.1.length+
 (List.take (1:Nat)
 (List.drop (0:Nat)
 [(v11.2.2.2.2.2.2.2.1 y14).getD (Int.ofNat (nat_lit 0))])).length≤
 Az∧
 (0:Nat)=(0:Nat)∧
 (v11.2.2.2.2.1++
 List.take (1:Nat)
 (List.drop (0:Nat)
 [(v11.2.2.2.2.2.2.2.1 y14).getD (Int.ofNat (nat_lit 0))])).length=
 (v11.2.2.2.2.1++
 List.take (1:Nat)
 (List.drop (0:Nat)
 [(v11.2.2.2.2.2.2.2.1 y14).getD (Int.ofNat (nat_lit 0))])).length∧
 (0:Nat)=(0:Nat)∧
 v11.2.2.2.2.2.1.length=v11.2.2.2.2.2.1.length∧
 (0:Nat)=(0:Nat)∧
 v11.2.2.2.2.2.2.1.length=v11.2.2.2.2.2.2.1.length∧
 (0:Nat)=(0:Nat)∧
 v11.2.2.2.2.2.2.2.2.1.length=
 v11.2.2.2.2.2.2.2.2.1.length∧
 (0:Nat)=(0:Nat)∧
 v11.2.2.2.2.2.2.2.2.2.1.length=
 v11.2.2.2.2.2.2.2.2.2.1.length∧
 (0:Nat)=(0:Nat)∧
 v11.2.2.2.2.2.2.2.2.2.2.2.2.2.1.length=
 v11.2.2.2.2.2.2.2.2.2.2.2.2.2.1.length∧
 k12
 (IntKind.i64.wrap (v11.1+(1:Int)),v11.2.1,v11.2.2.1,
 v11.2.2.2.1,
 v11.2.2.2.2.1++
 List.take (1:Nat)
 (List.drop (0:Nat)
 [(v11.2.2.2.2.2.2.2.1 y14).getD
 (Int.ofNat (nat_lit 0))]),
 v11.2.2.2.2.2.1,v11.2.2.2.2.2.2.1,
 v11.2.2.2.2.2.2.2.1,v11.2.2.2.2.2.2.2.2.1,
 v11.2.2.2.2.2.2.2.2.2.1,
 v11.2.2.2.2.2.2.2.2.2.2.1,
 v11.2.2.2.2.2.2.2.2.2.2.2.1,
 v11.2.2.2.2.2.2.2.2.2.2.2.2.1,
 v11.2.2.2.2.2.2.2.2.2.2.2.2.2.1,())))
 ((0:Nat)=(0:Nat)∧
 v11.2.2.2.2.2.2.2.2.2.2.2.2.2.1.length=
 v11.2.2.2.2.2.2.2.2.2.2.2.2.2.1.length∧
 v11.2.2.2.2.2.2.2.2.2.2.2.2.2.1.length+
 (List.take (1:Nat)
 (List.drop (0:Nat)
 [List.take v11.2.2.2.2.1.length (List.drop ((0:Nat)) v11.2.2.2.2.1)])).length≤
 Az∧
 (0:Nat)=(0:Nat)∧
 v11.2.2.2.2.2.1.length=v11.2.2.2.2.2.1.length∧
 (0:Nat)=(0:Nat)∧
 v11.2.2.2.2.2.2.1.length=v11.2.2.2.2.2.2.1.length∧
 (0:Nat)=(0:Nat)∧
 v11.2.2.2.2.2.2.2.2.1.length=v11.2.2.2.2.2.2.2.2.1.length∧
 (0:Nat)=(0:Nat)∧
 v11.2.2.2.2.2.2.2.2.2.1.length=v11.2.2.2.2.2.2.2.2.2.1.length∧
 (0:Nat)=(0:Nat)∧
 (v11.2.2.2.2.2.2.2.2.2.2.2.2.2.1++
 List.take (1:Nat)
 (List.drop (0:Nat)
 [List.take v11.2.2.2.2.1.length
 (List.drop ((0:Nat)) v11.2.2.2.2.1)])).length=
 (v11.2.2.2.2.2.2.2.2.2.2.2.2.2.1++
 List.take (1:Nat)
 (List.drop (0:Nat)
 [List.take v11.2.2.2.2.1.length
 (List.drop ((0:Nat)) v11.2.2.2.2.1)])).length∧
 k8
 (IntKind.i64.wrap (v7.1+(1:Int)),v11.2.1,v11.2.2.1,v11.2.2.2.1,
 v11.2.2.2.2.2.1,v11.2.2.2.2.2.2.1,v11.2.2.2.2.2.2.2.1,
 v11.2.2.2.2.2.2.2.2.1,v11.2.2.2.2.2.2.2.2.2.1,
 v11.2.2.2.2.2.2.2.2.2.2.1,v11.2.2.2.2.2.2.2.2.2.2.2.1,
 v11.2.2.2.2.2.2.2.2.2.2.2.2.1,
 v11.2.2.2.2.2.2.2.2.2.2.2.2.2.1++
 List.take (1:Nat)
 (List.drop (0:Nat)
 [List.take v11.2.2.2.2.1.length
 (List.drop ((0:Nat)) v11.2.2.2.2.1)]),
 ())))
 ((0:Int),v7.2.1,v7.2.2.1,v7.2.2.2.1,[],v7.2.2.2.2.1,v7.2.2.2.2.2.1,
 v7.2.2.2.2.2.2.1,v7.2.2.2.2.2.2.2.1,v7.2.2.2.2.2.2.2.2.1,
 v7.2.2.2.2.2.2.2.2.2.1,v7.2.2.2.2.2.2.2.2.2.2.1,v7.2.2.2.2.2.2.2.2.2.2.2.1,
 v7.2.2.2.2.2.2.2.2.2.2.2.2.1,PUnit.unit))
 (P
 (some
 ((v7.2.2.2.2.2.2.2.2.2.1,v7.2.2.2.2.2.2.2.2.2.2.1,v7.2.2.2.2.2.2.2.2.2.2.2.1,()),
 List.take v7.2.2.2.2.1.length (List.drop ((0:Nat)) v7.2.2.2.2.1),
 List.take v7.2.2.2.2.2.1.length (List.drop ((0:Nat)) v7.2.2.2.2.2.1),v7.2.2.2.2.2.2.1,
 List.take v7.2.2.2.2.2.2.2.1.length (List.drop ((0:Nat)) v7.2.2.2.2.2.2.2.1),
 List.take v7.2.2.2.2.2.2.2.2.1.length (List.drop ((0:Nat)) v7.2.2.2.2.2.2.2.2.1),
 List.take v7.2.2.2.2.2.2.2.2.2.2.2.2.1.length (List.drop ((0:Nat)) v7.2.2.2.2.2.2.2.2.2.2.2.2.1),()),
 true,())))
 ((0:Int),p.1,p.2.1,p.2.2.1,[y4],[(0:Int)],Ex (fun (_:ByteArray)=>none) y5 (0:Int),[(0:Int)],[(0:Int)],p.1,p.2.1,
 p.2.2.1,([]:List (List Int)),PUnit.unit))∧
 ((∃(y6:ByteArray),
 Dp.fn (y4,())=some y6∧
 [((0:Nat),(1:Nat)),((0:Nat),(1:Nat)),((0:Nat),(1:Nat)),((0:Nat),(1:Nat)),((0:Nat),(1:Nat)),((0:Nat),(1:Nat)),((0:Nat),(1:Nat)),
 ((0:Nat),(1:Nat)),((0:Nat),(1:Nat)),((0:Nat),(1:Nat)),((0:Nat),(1:Nat)),((0:Nat),(1:Nat)),((0:Nat),(0:Nat))]=
 [((0:Nat),(1:Nat)),((0:Nat),(1:Nat)),((0:Nat),(1:Nat)),((0:Nat),(1:Nat)),((0:Nat),(1:Nat)),((0:Nat),(1:Nat)),((0:Nat),(1:Nat)),
 ((0:Nat),(1:Nat)),((0:Nat),(1:Nat)),((0:Nat),(1:Nat)),((0:Nat),(1:Nat)),((0:Nat),(1:Nat)),((0:Nat),(0:Nat))]∧
 (p,false,y4,p.1,p.2.1,p.2.2.1,y2,y3,!y3,p.1,y4,p.1,p.2.1,p.2.2.1,y4,y4,y6,p.1,p.2.1,p.2.2.1,p.1,p.2.1,p.2.2.1,
 [y4],[(0:Int)],Ex (fun (_:ByteArray)=>none) y6 (0:Int),[(0:Int)],[(0:Int)],p.1,p.2.1,p.2.2.1,([]:List (List Int)),())=
 (p,false,y4,p.1,p.2.1,p.2.2.1,y2,y3,!y3,p.1,y4,p.1,p.2.1,p.2.2.1,y4,y4,y5,p.1,p.2.1,p.2.2.1,p.1,p.2.1,p.2.2.1,
 [y4],[(0:Int)],Ex (fun (_:ByteArray)=>none) y5 (0:Int),[(0:Int)],[(0:Int)],p.1,p.2.1,p.2.2.1,([]:List (List Int)),PUnit.unit))∧
 ∃(y6:ByteArray),
 Dp.fn (y4,())=some y6∧
 ([((0:Nat),(1:Nat)),((0:Nat),(1:Nat)),((0:Nat),(1:Nat)),((0:Nat),(1:Nat)),((0:Nat),(1:Nat)),((0:Nat),(1:Nat)),((0:Nat),(1:Nat)),
 ((0:Nat),(1:Nat)),((0:Nat),(1:Nat)),((0:Nat),(1:Nat)),((0:Nat),(1:Nat)),((0:Nat),(1:Nat)),((0:Nat),(0:Nat))]=
 [((0:Nat),(1:Nat)),((0:Nat),(1:Nat)),((0:Nat),(1:Nat)),((0:Nat),(1:Nat)),((0:Nat),(1:Nat)),((0:Nat),(1:Nat)),
 ((0:Nat),(1:Nat)),((0:Nat),(1:Nat)),((0:Nat),(1:Nat)),((0:Nat),(1:Nat)),((0:Nat),(1:Nat)),((0:Nat),(1:Nat)),
 ((0:Nat),(0:Nat))]∧
 (p,false,y4,p.1,p.2.1,p.2.2.1,y2,y3,!y3,p.1,y4,p.1,p.2.1,p.2.2.1,y4,y4,y6,p.1,p.2.1,p.2.2.1,p.1,p.2.1,p.2.2.1,
 [y4],[(0:Int)],Ex (fun (_:ByteArray)=>none) y6 (0:Int),[(0:Int)],[(0:Int)],p.1,p.2.1,p.2.2.1,([]:List (List Int)),())=
 (p,false,y4,p.1,p.2.1,p.2.2.1,y2,y3,!y3,p.1,y4,p.1,p.2.1,p.2.2.1,y4,y4,y5,p.1,p.2.1,p.2.2.1,p.1,p.2.1,p.2.2.1,
 [y4],[(0:Int)],Ex (fun (_:ByteArray)=>none) y5 (0:Int),[(0:Int)],[(0:Int)],p.1,p.2.1,p.2.2.1,([]:List (List Int)),PUnit.unit))∧
 ([((0:Nat),(1:Nat)),((0:Nat),(1:Nat)),((0:Nat),(1:Nat)),((0:Nat),(1:Nat)),((0:Nat),(1:Nat)),((0:Nat),(1:Nat)),((0:Nat),(1:Nat)),
 ((0:Nat),(1:Nat)),((0:Nat),(1:Nat)),((0:Nat),(1:Nat)),((0:Nat),(1:Nat)),((0:Nat),(1:Nat)),((0:Nat),(0:Nat))]=
 [((0:Nat),(1:Nat)),((0:Nat),(1:Nat)),((0:Nat),(1:Nat)),((0:Nat),(1:Nat)),((0:Nat),(1:Nat)),((0:Nat),(1:Nat)),
 ((0:Nat),(1:Nat)),((0:Nat),(1:Nat)),((0:Nat),(1:Nat)),((0:Nat),(1:Nat)),((0:Nat),(1:Nat)),((0:Nat),(1:Nat)),
 ((0:Nat),(0:Nat))]∧
 (p,false,y4,p.1,p.2.1,p.2.2.1,y2,y3,!y3,p.1,y4,p.1,p.2.1,p.2.2.1,y4,y4,y6,p.1,p.2.1,p.2.2.1,p.1,p.2.1,p.2.2.1,
 [y4],[(0:Int)],Ex (fun (_:ByteArray)=>none) y6 (0:Int),[(0:Int)],[(0:Int)],p.1,p.2.1,p.2.2.1,([]:List (List Int)),())=
 (p,false,y4,p.1,p.2.1,p.2.2.1,y2,y3,!y3,p.1,y4,p.1,p.2.1,p.2.2.1,y4,y4,y5,p.1,p.2.1,p.2.2.1,p.1,p.2.1,
 p.2.2.1,[y4],[(0:Int)],Ex (fun (_:ByteArray)=>none) y5 (0:Int),[(0:Int)],[(0:Int)],p.1,p.2.1,p.2.2.1,([]:List (List Int)),PUnit.unit))∧
 [((0:Nat),(1:Nat)),((0:Nat),(1:Nat)),((0:Nat),(1:Nat)),((0:Nat),(1:Nat)),((0:Nat),(1:Nat)),((0:Nat),(1:Nat)),((0:Nat),(1:Nat)),
 ((0:Nat),(1:Nat)),((0:Nat),(1:Nat)),((0:Nat),(1:Nat)),((0:Nat),(1:Nat)),((0:Nat),(1:Nat)),((0:Nat),(0:Nat))]=
 [((0:Nat),(1:Nat)),((0:Nat),(1:Nat)),((0:Nat),(1:Nat)),((0:Nat),(1:Nat)),((0:Nat),(1:Nat)),((0:Nat),(1:Nat)),
 ((0:Nat),(1:Nat)),((0:Nat),(1:Nat)),((0:Nat),(1:Nat)),((0:Nat),(1:Nat)),((0:Nat),(1:Nat)),((0:Nat),(1:Nat)),
 ((0:Nat),(0:Nat))]∧
 (p,false,y4,p.1,p.2.1,p.2.2.1,y2,y3,!y3,p.1,y4,p.1,p.2.1,p.2.2.1,y4,y4,y6,p.1,p.2.1,p.2.2.1,p.1,p.2.1,p.2.2.1,
 [y4],[(0:Int)],Ex (fun (_:ByteArray)=>none) y6 (0:Int),[(0:Int)],[(0:Int)],p.1,p.2.1,p.2.2.1,([]:List (List Int)),())=
 (p,false,y4,p.1,p.2.1,p.2.2.1,y2,y3,!y3,p.1,y4,p.1,p.2.1,p.2.2.1,y4,y4,y5,p.1,p.2.1,p.2.2.1,p.1,p.2.1,
 p.2.2.1,[y4],[(0:Int)],Ex (fun (_:ByteArray)=>none) y5 (0:Int),[(0:Int)],[(0:Int)],p.1,p.2.1,p.2.2.1,([]:List (List Int)),PUnit.unit))∧
 ((∃(y6:ByteArray),
 Dp.fn (y4,())=some y6∧
 [((0:Nat),(1:Nat)),((0:Nat),(1:Nat)),((0:Nat),(1:Nat)),((0:Nat),(1:Nat)),((0:Nat),(1:Nat)),((0:Nat),(1:Nat)),((0:Nat),(1:Nat)),
 ((0:Nat),(1:Nat)),((0:Nat),(1:Nat)),((0:Nat),(1:Nat)),((0:Nat),(1:Nat)),((0:Nat),(1:Nat)),((0:Nat),(0:Nat))]=
 [((0:Nat),(1:Nat)),((0:Nat),(1:Nat)),((0:Nat),(1:Nat)),((0:Nat),(1:Nat)),((0:Nat),(1:Nat)),((0:Nat),(1:Nat)),
 ((0:Nat),(1:Nat)),((0:Nat),(1:Nat)),((0:Nat),(1:Nat)),((0:Nat),(1:Nat)),((0:Nat),(1:Nat)),((0:Nat),(1:Nat)),
 ((0:Nat),(0:Nat))]∧
 (p,false,y4,p.1,p.2.1,p.2.2.1,y2,y3,!y3,p.1,y4,p.1,p.2.1,p.2.2.1,y4,y4,y6,p.1,p.2.1,p.2.2.1,p.1,p.2.1,p.2.2.1,
 [y4],[(0:Int)],Ex (fun (_:ByteArray)=>none) y6 (0:Int),[(0:Int)],[(0:Int)],p.1,p.2.1,p.2.2.1,([]:List (List Int)),())=
 (p,false,y4,p.1,p.2.1,p.2.2.1,y2,y3,!y3,p.1,y4,p.1,p.2.1,p.2.2.1,y4,y4,y5,p.1,p.2.1,p.2.2.1,p.1,p.2.1,p.2.2.1,
 [y4],[(0:Int)],Ex (fun (_:ByteArray)=>none) y5 (0:Int),[(0:Int)],[(0:Int)],p.1,p.2.1,p.2.2.1,([]:List (List Int)),PUnit.unit))∧
 ∃(y6:ByteArray),
 Dp.fn (y4,())=some y6∧
 ([((0:Nat),(1:Nat)),((0:Nat),(1:Nat)),((0:Nat),(1:Nat)),((0:Nat),(1:Nat)),((0:Nat),(1:Nat)),((0:Nat),(1:Nat)),((0:Nat),(1:Nat)),
 ((0:Nat),(1:Nat)),((0:Nat),(1:Nat)),((0:Nat),(1:Nat)),((0:Nat),(1:Nat)),((0:Nat),(1:Nat)),((0:Nat),(0:Nat))]=
 [((0:Nat),(1:Nat)),((0:Nat),(1:Nat)),((0:Nat),(1:Nat)),((0:Nat),(1:Nat)),((0:Nat),(1:Nat)),((0:Nat),(1:Nat)),
 ((0:Nat),(1:Nat)),((0:Nat),(1:Nat)),((0:Nat),(1:Nat)),((0:Nat),(1:Nat)),((0:Nat),(1:Nat)),((0:Nat),(1:Nat)),
 ((0:Nat),(0:Nat))]∧
 (p,false,y4,p.1,p.2.1,p.2.2.1,y2,y3,!y3,p.1,y4,p.1,p.2.1,p.2.2.1,y4,y4,y6,p.1,p.2.1,p.2.2.1,p.1,p.2.1,p.2.2.1,
 [y4],[(0:Int)],Ex (fun (_:ByteArray)=>none) y6 (0:Int),[(0:Int)],[(0:Int)],p.1,p.2.1,p.2.2.1,([]:List (List Int)),())=
 (p,false,y4,p.1,p.2.1,p.2.2.1,y2,y3,!y3,p.1,y4,p.1,p.2.1,p.2.2.1,y4,y4,y5,p.1,p.2.1,p.2.2.1,p.1,p.2.1,
 p.2.2.1,[y4],[(0:Int)],Ex (fun (_:ByteArray)=>none) y5 (0:Int),[(0:Int)],[(0:Int)],p.1,p.2.1,p.2.2.1,([]:List (List Int)),PUnit.unit))∧
 ([((0:Nat),(1:Nat)),((0:Nat),(1:Nat)),((0:Nat),(1:Nat)),((0:Nat),(1:Nat)),((0:Nat),(1:Nat)),((0:Nat),(1:Nat)),
 ((0:Nat),(1:Nat)),((0:Nat),(1:Nat)),((0:Nat),(1:Nat)),((0:Nat),(1:Nat)),((0:Nat),(1:Nat)),((0:Nat),(1:Nat)),
 ((0:Nat),(0:Nat))]=
 [((0:Nat),(1:Nat)),((0:Nat),(1:Nat)),((0:Nat),(1:Nat)),((0:Nat),(1:Nat)),((0:Nat),(1:Nat)),((0:Nat),(1:Nat)),
 ((0:Nat),(1:Nat)),((0:Nat),(1:Nat)),((0:Nat),(1:Nat)),((0:Nat),(1:Nat)),((0:Nat),(1:Nat)),((0:Nat),(1:Nat)),
 ((0:Nat),(0:Nat))]∧
 (p,false,y4,p.1,p.2.1,p.2.2.1,y2,y3,!y3,p.1,y4,p.1,p.2.1,p.2.2.1,y4,y4,y6,p.1,p.2.1,p.2.2.1,p.1,p.2.1,
 p.2.2.1,[y4],[(0:Int)],Ex (fun (_:ByteArray)=>none) y6 (0:Int),[(0:Int)],[(0:Int)],p.1,p.2.1,p.2.2.1,([]:List (List Int)),())=
 (p,false,y4,p.1,p.2.1,p.2.2.1,y2,y3,!y3,p.1,y4,p.1,p.2.1,p.2.2.1,y4,y4,y5,p.1,p.2.1,p.2.2.1,p.1,p.2.1,
 p.2.2.1,[y4],[(0:Int)],Ex (fun (_:ByteArray)=>none) y5 (0:Int),[(0:Int)],[(0:Int)],p.1,p.2.1,p.2.2.1,([]:List (List Int)),PUnit.unit))∧
 [((0:Nat),(1:Nat)),((0:Nat),(1:Nat)),((0:Nat),(1:Nat)),((0:Nat),(1:Nat)),((0:Nat),(1:Nat)),((0:Nat),(1:Nat)),
 ((0:Nat),(1:Nat)),((0:Nat),(1:Nat)),((0:Nat),(1:Nat)),((0:Nat),(1:Nat)),((0:Nat),(1:Nat)),((0:Nat),(1:Nat)),
 ((0:Nat),(0:Nat))]=
 [((0:Nat),(1:Nat)),((0:Nat),(1:Nat)),((0:Nat),(1:Nat)),((0:Nat),(1:Nat)),((0:Nat),(1:Nat)),((0:Nat),(1:Nat)),
 ((0:Nat),(1:Nat)),((0:Nat),(1:Nat)),((0:Nat),(1:Nat)),((0:Nat),(1:Nat)),((0:Nat),(1:Nat)),((0:Nat),(1:Nat)),
 ((0:Nat),(0:Nat))]∧
 (p,false,y4,p.1,p.2.1,p.2.2.1,y2,y3,!y3,p.1,y4,p.1,p.2.1,p.2.2.1,y4,y4,y6,p.1,p.2.1,p.2.2.1,p.1,p.2.1,
 p.2.2.1,[y4],[(0:Int)],Ex (fun (_:ByteArray)=>none) y6 (0:Int),[(0:Int)],[(0:Int)],p.1,p.2.1,p.2.2.1,([]:List (List Int)),())=
 (p,false,y4,p.1,p.2.1,p.2.2.1,y2,y3,!y3,p.1,y4,p.1,p.2.1,p.2.2.1,y4,y4,y5,p.1,p.2.1,p.2.2.1,p.1,p.2.1,
 p.2.2.1,[y4],[(0:Int)],Ex (fun (_:ByteArray)=>none) y5 (0:Int),[(0:Int)],[(0:Int)],p.1,p.2.1,p.2.2.1,([]:List (List Int)),PUnit.unit))∧
 ∃(y6:ByteArray),
 Dp.fn (y4,())=some y6∧
 (([((0:Nat),(1:Nat)),((0:Nat),(1:Nat)),((0:Nat),(1:Nat)),((0:Nat),(1:Nat)),((0:Nat),(1:Nat)),((0:Nat),(1:Nat)),((0:Nat),(1:Nat)),
 ((0:Nat),(1:Nat)),((0:Nat),(1:Nat)),((0:Nat),(1:Nat)),((0:Nat),(1:Nat)),((0:Nat),(1:Nat)),((0:Nat),(0:Nat))]=
 [((0:Nat),(1:Nat)),((0:Nat),(1:Nat)),((0:Nat),(1:Nat)),((0:Nat),(1:Nat)),((0:Nat),(1:Nat)),((0:Nat),(1:Nat)),
 ((0:Nat),(1:Nat)),((0:Nat),(1:Nat)),((0:Nat),(1:Nat)),((0:Nat),(1:Nat)),((0:Nat),(1:Nat)),((0:Nat),(1:Nat)),
 ((0:Nat),(0:Nat))]∧
 (p,false,y4,p.1,p.2.1,p.2.2.1,y2,y3,!y3,p.1,y4,p.1,p.2.1,p.2.2.1,y4,y4,y6,p.1,p.2.1,p.2.2.1,p.1,p.2.1,p.2.2.1,
 [y4],[(0:Int)],Ex (fun (_:ByteArray)=>none) y6 (0:Int),[(0:Int)],[(0:Int)],p.1,p.2.1,p.2.2.1,([]:List (List Int)),())=
 (p,false,y4,p.1,p.2.1,p.2.2.1,y2,y3,!y3,p.1,y4,p.1,p.2.1,p.2.2.1,y4,y4,y5,p.1,p.2.1,p.2.2.1,p.1,p.2.1,
 p.2.2.1,[y4],[(0:Int)],Ex (fun (_:ByteArray)=>none) y5 (0:Int),[(0:Int)],[(0:Int)],p.1,p.2.1,p.2.2.1,([]:List (List Int)),PUnit.unit))∧
 ([((0:Nat),(1:Nat)),((0:Nat),(1:Nat)),((0:Nat),(1:Nat)),((0:Nat),(1:Nat)),((0:Nat),(1:Nat)),((0:Nat),(1:Nat)),
 ((0:Nat),(1:Nat)),((0:Nat),(1:Nat)),((0:Nat),(1:Nat)),((0:Nat),(1:Nat)),((0:Nat),(1:Nat)),((0:Nat),(1:Nat)),
 ((0:Nat),(0:Nat))]=
 [((0:Nat),(1:Nat)),((0:Nat),(1:Nat)),((0:Nat),(1:Nat)),((0:Nat),(1:Nat)),((0:Nat),(1:Nat)),((0:Nat),(1:Nat)),
 ((0:Nat),(1:Nat)),((0:Nat),(1:Nat)),((0:Nat),(1:Nat)),((0:Nat),(1:Nat)),((0:Nat),(1:Nat)),((0:Nat),(1:Nat)),
 ((0:Nat),(0:Nat))]∧
 (p,false,y4,p.1,p.2.1,p.2.2.1,y2,y3,!y3,p.1,y4,p.1,p.2.1,p.2.2.1,y4,y4,y6,p.1,p.2.1,p.2.2.1,p.1,p.2.1,
 p.2.2.1,[y4],[(0:Int)],Ex (fun (_:ByteArray)=>none) y6 (0:Int),[(0:Int)],[(0:Int)],p.1,p.2.1,p.2.2.1,([]:List (List Int)),())=
 (p,false,y4,p.1,p.2.1,p.2.2.1,y2,y3,!y3,p.1,y4,p.1,p.2.1,p.2.2.1,y4,y4,y5,p.1,p.2.1,p.2.2.1,p.1,p.2.1,
 p.2.2.1,[y4],[(0:Int)],Ex (fun (_:ByteArray)=>none) y5 (0:Int),[(0:Int)],[(0:Int)],p.1,p.2.1,p.2.2.1,([]:List (List Int)),PUnit.unit))∧
 [((0:Nat),(1:Nat)),((0:Nat),(1:Nat)),((0:Nat),(1:Nat)),((0:Nat),(1:Nat)),((0:Nat),(1:Nat)),((0:Nat),(1:Nat)),
 ((0:Nat),(1:Nat)),((0:Nat),(1:Nat)),((0:Nat),(1:Nat)),((0:Nat),(1:Nat)),((0:Nat),(1:Nat)),((0:Nat),(1:Nat)),
 ((0:Nat),(0:Nat))]=
 [((0:Nat),(1:Nat)),((0:Nat),(1:Nat)),((0:Nat),(1:Nat)),((0:Nat),(1:Nat)),((0:Nat),(1:Nat)),((0:Nat),(1:Nat)),
 ((0:Nat),(1:Nat)),((0:Nat),(1:Nat)),((0:Nat),(1:Nat)),((0:Nat),(1:Nat)),((0:Nat),(1:Nat)),((0:Nat),(1:Nat)),
 ((0:Nat),(0:Nat))]∧
 (p,false,y4,p.1,p.2.1,p.2.2.1,y2,y3,!y3,p.1,y4,p.1,p.2.1,p.2.2.1,y4,y4,y6,p.1,p.2.1,p.2.2.1,p.1,p.2.1,
 p.2.2.1,[y4],[(0:Int)],Ex (fun (_:ByteArray)=>none) y6 (0:Int),[(0:Int)],[(0:Int)],p.1,p.2.1,p.2.2.1,([]:List (List Int)),())=
 (p,false,y4,p.1,p.2.1,p.2.2.1,y2,y3,!y3,p.1,y4,p.1,p.2.1,p.2.2.1,y4,y4,y5,p.1,p.2.1,p.2.2.1,p.1,p.2.1,
 p.2.2.1,[y4],[(0:Int)],Ex (fun (_:ByteArray)=>none) y5 (0:Int),[(0:Int)],[(0:Int)],p.1,p.2.1,p.2.2.1,([]:List (List Int)),PUnit.unit))∧
 (([((0:Nat),(1:Nat)),((0:Nat),(1:Nat)),((0:Nat),(1:Nat)),((0:Nat),(1:Nat)),((0:Nat),(1:Nat)),((0:Nat),(1:Nat)),((0:Nat),(1:Nat)),
 ((0:Nat),(1:Nat)),((0:Nat),(1:Nat)),((0:Nat),(1:Nat)),((0:Nat),(1:Nat)),((0:Nat),(1:Nat)),((0:Nat),(0:Nat))]=
 [((0:Nat),(1:Nat)),((0:Nat),(1:Nat)),((0:Nat),(1:Nat)),((0:Nat),(1:Nat)),((0:Nat),(1:Nat)),((0:Nat),(1:Nat)),
 ((0:Nat),(1:Nat)),((0:Nat),(1:Nat)),((0:Nat),(1:Nat)),((0:Nat),(1:Nat)),((0:Nat),(1:Nat)),((0:Nat),(1:Nat)),
 ((0:Nat),(0:Nat))]∧
 (p,false,y4,p.1,p.2.1,p.2.2.1,y2,y3,!y3,p.1,y4,p.1,p.2.1,p.2.2.1,y4,y4,y6,p.1,p.2.1,p.2.2.1,p.1,p.2.1,
 p.2.2.1,[y4],[(0:Int)],Ex (fun (_:ByteArray)=>none) y6 (0:Int),[(0:Int)],[(0:Int)],p.1,p.2.1,p.2.2.1,([]:List (List Int)),())=
 (p,false,y4,p.1,p.2.1,p.2.2.1,y2,y3,!y3,p.1,y4,p.1,p.2.1,p.2.2.1,y4,y4,y5,p.1,p.2.1,p.2.2.1,p.1,p.2.1,
 p.2.2.1,[y4],[(0:Int)],Ex (fun (_:ByteArray)=>none) y5 (0:Int),[(0:Int)],[(0:Int)],p.1,p.2.1,p.2.2.1,([]:List (List Int)),PUnit.unit))∧
 ([((0:Nat),(1:Nat)),((0:Nat),(1:Nat)),((0:Nat),(1:Nat)),((0:Nat),(1:Nat)),((0:Nat),(1:Nat)),((0:Nat),(1:Nat)),
 ((0:Nat),(1:Nat)),((0:Nat),(1:Nat)),((0:Nat),(1:Nat)),((0:Nat),(1:Nat)),((0:Nat),(1:Nat)),((0:Nat),(1:Nat)),
 ((0:Nat),(0:Nat))]=
 [((0:Nat),(1:Nat)),((0:Nat),(1:Nat)),((0:Nat),(1:Nat)),((0:Nat),(1:Nat)),((0:Nat),(1:Nat)),((0:Nat),(1:Nat)),
 ((0:Nat),(1:Nat)),((0:Nat),(1:Nat)),((0:Nat),(1:Nat)),((0:Nat),(1:Nat)),((0:Nat),(1:Nat)),((0:Nat),(1:Nat)),
 ((0:Nat),(0:Nat))]∧
 (p,false,y4,p.1,p.2.1,p.2.2.1,y2,y3,!y3,p.1,y4,p.1,p.2.1,p.2.2.1,y4,y4,y6,p.1,p.2.1,p.2.2.1,p.1,p.2.1,
 p.2.2.1,[y4],[(0:Int)],Ex (fun (_:ByteArray)=>none) y6 (0:Int),[(0:Int)],[(0:Int)],p.1,p.2.1,p.2.2.1,([]:List (List Int)),())=
 (p,false,y4,p.1,p.2.1,p.2.2.1,y2,y3,!y3,p.1,y4,p.1,p.2.1,p.2.2.1,y4,y4,y5,p.1,p.2.1,p.2.2.1,p.1,p.2.1,
 p.2.2.1,[y4],[(0:Int)],Ex (fun (_:ByteArray)=>none) y5 (0:Int),[(0:Int)],[(0:Int)],p.1,p.2.1,p.2.2.1,([]:List (List Int)),PUnit.unit))∧
 [((0:Nat),(1:Nat)),((0:Nat),(1:Nat)),((0:Nat),(1:Nat)),((0:Nat),(1:Nat)),((0:Nat),(1:Nat)),((0:Nat),(1:Nat)),
 ((0:Nat),(1:Nat)),((0:Nat),(1:Nat)),((0:Nat),(1:Nat)),((0:Nat),(1:Nat)),((0:Nat),(1:Nat)),((0:Nat),(1:Nat)),
 ((0:Nat),(0:Nat))]=
 [((0:Nat),(1:Nat)),((0:Nat),(1:Nat)),((0:Nat),(1:Nat)),((0:Nat),(1:Nat)),((0:Nat),(1:Nat)),((0:Nat),(1:Nat)),
 ((0:Nat),(1:Nat)),((0:Nat),(1:Nat)),((0:Nat),(1:Nat)),((0:Nat),(1:Nat)),((0:Nat),(1:Nat)),((0:Nat),(1:Nat)),
 ((0:Nat),(0:Nat))]∧
 (p,false,y4,p.1,p.2.1,p.2.2.1,y2,y3,!y3,p.1,y4,p.1,p.2.1,p.2.2.1,y4,y4,y6,p.1,p.2.1,p.2.2.1,p.1,p.2.1,
 p.2.2.1,[y4],[(0:Int)],Ex (fun (_:ByteArray)=>none) y6 (0:Int),[(0:Int)],[(0:Int)],p.1,p.2.1,p.2.2.1,([]:List (List Int)),())=
 (p,false,y4,p.1,p.2.1,p.2.2.1,y2,y3,!y3,p.1,y4,p.1,p.2.1,p.2.2.1,y4,y4,y5,p.1,p.2.1,p.2.2.1,p.1,p.2.1,
 p.2.2.1,[y4],[(0:Int)],Ex (fun (_:ByteArray)=>none) y5 (0:Int),[(0:Int)],[(0:Int)],p.1,p.2.1,p.2.2.1,([]:List (List Int)),PUnit.unit))∧
 (([((0:Nat),(1:Nat)),((0:Nat),(1:Nat)),((0:Nat),(1:Nat)),((0:Nat),(1:Nat)),((0:Nat),(1:Nat)),((0:Nat),(1:Nat)),
 ((0:Nat),(1:Nat)),((0:Nat),(1:Nat)),((0:Nat),(1:Nat)),((0:Nat),(1:Nat)),((0:Nat),(1:Nat)),((0:Nat),(1:Nat)),
 ((0:Nat),(0:Nat))]=
 [((0:Nat),(1:Nat)),((0:Nat),(1:Nat)),((0:Nat),(1:Nat)),((0:Nat),(1:Nat)),((0:Nat),(1:Nat)),((0:Nat),(1:Nat)),
 ((0:Nat),(1:Nat)),((0:Nat),(1:Nat)),((0:Nat),(1:Nat)),((0:Nat),(1:Nat)),((0:Nat),(1:Nat)),((0:Nat),(1:Nat)),
 ((0:Nat),(0:Nat))]∧
 (p,false,y4,p.1,p.2.1,p.2.2.1,y2,y3,!y3,p.1,y4,p.1,p.2.1,p.2.2.1,y4,y4,y6,p.1,p.2.1,p.2.2.1,p.1,p.2.1,
 p.2.2.1,[y4],[(0:Int)],Ex (fun (_:ByteArray)=>none) y6 (0:Int),[(0:Int)],[(0:Int)],p.1,p.2.1,p.2.2.1,([]:List (List Int)),())=
 (p,false,y4,p.1,p.2.1,p.2.2.1,y2,y3,!y3,p.1,y4,p.1,p.2.1,p.2.2.1,y4,y4,y5,p.1,p.2.1,p.2.2.1,p.1,p.2.1,
 p.2.2.1,[y4],[(0:Int)],Ex (fun (_:ByteArray)=>none) y5 (0:Int),[(0:Int)],[(0:Int)],p.1,p.2.1,p.2.2.1,([]:List (List Int)),PUnit.unit))∧
 [((0:Nat),(1:Nat)),((0:Nat),(1:Nat)),((0:Nat),(1:Nat)),((0:Nat),(1:Nat)),((0:Nat),(1:Nat)),((0:Nat),(1:Nat)),
 ((0:Nat),(1:Nat)),((0:Nat),(1:Nat)),((0:Nat),(1:Nat)),((0:Nat),(1:Nat)),((0:Nat),(1:Nat)),((0:Nat),(1:Nat)),
 ((0:Nat),(0:Nat))]=
 [((0:Nat),(1:Nat)),((0:Nat),(1:Nat)),((0:Nat),(1:Nat)),((0:Nat),(1:Nat)),((0:Nat),(1:Nat)),((0:Nat),(1:Nat)),
 ((0:Nat),(1:Nat)),((0:Nat),(1:Nat)),((0:Nat),(1:Nat)),((0:Nat),(1:Nat)),((0:Nat),(1:Nat)),((0:Nat),(1:Nat)),
 ((0:Nat),(0:Nat))]∧
 (p,false,y4,p.1,p.2.1,p.2.2.1,y2,y3,!y3,p.1,y4,p.1,p.2.1,p.2.2.1,y4,y4,y6,p.1,p.2.1,p.2.2.1,p.1,p.2.1,
 p.2.2.1,[y4],[(0:Int)],Ex (fun (_:ByteArray)=>none) y6 (0:Int),[(0:Int)],[(0:Int)],p.1,p.2.1,p.2.2.1,([]:List (List Int)),())=
 (p,false,y4,p.1,p.2.1,p.2.2.1,y2,y3,!y3,p.1,y4,p.1,p.2.1,p.2.2.1,y4,y4,y5,p.1,p.2.1,p.2.2.1,p.1,p.2.1,
 p.2.2.1,[y4],[(0:Int)],Ex (fun (_:ByteArray)=>none) y5 (0:Int),[(0:Int)],[(0:Int)],p.1,p.2.1,p.2.2.1,([]:List (List Int)),PUnit.unit))∧
 (([((0:Nat),(1:Nat)),((0:Nat),(1:Nat)),((0:Nat),(1:Nat)),((0:Nat),(1:Nat)),((0:Nat),(1:Nat)),((0:Nat),(1:Nat)),
 ((0:Nat),(1:Nat)),((0:Nat),(1:Nat)),((0:Nat),(1:Nat)),((0:Nat),(1:Nat)),((0:Nat),(1:Nat)),((0:Nat),(1:Nat)),
 ((0:Nat),(0:Nat))]=
 [((0:Nat),(1:Nat)),((0:Nat),(1:Nat)),((0:Nat),(1:Nat)),((0:Nat),(1:Nat)),((0:Nat),(1:Nat)),((0:Nat),(1:Nat)),
 ((0:Nat),(1:Nat)),((0:Nat),(1:Nat)),((0:Nat),(1:Nat)),((0:Nat),(1:Nat)),((0:Nat),(1:Nat)),((0:Nat),(1:Nat)),
 ((0:Nat),(0:Nat))]∧
 (p,false,y4,p.1,p.2.1,p.2.2.1,y2,y3,!y3,p.1,y4,p.1,p.2.1,p.2.2.1,y4,y4,y6,p.1,p.2.1,p.2.2.1,p.1,p.2.1,
 p.2.2.1,[y4],[(0:Int)],Ex (fun (_:ByteArray)=>none) y6 (0:Int),[(0:Int)],[(0:Int)],p.1,p.2.1,p.2.2.1,([]:List (List Int)),())=
 (p,false,y4,p.1,p.2.1,p.2.2.1,y2,y3,!y3,p.1,y4,p.1,p.2.1,p.2.2.1,y4,y4,y5,p.1,p.2.1,p.2.2.1,p.1,p.2.1,
 p.2.2.1,[y4],[(0:Int)],Ex (fun (_:ByteArray)=>none) y5 (0:Int),[(0:Int)],[(0:Int)],p.1,p.2.1,p.2.2.1,([]:List (List Int)),PUnit.unit))∧
 [((0:Nat),(1:Nat)),((0:Nat),(1:Nat)),((0:Nat),(1:Nat)),((0:Nat),(1:Nat)),((0:Nat),(1:Nat)),((0:Nat),(1:Nat)),
 ((0:Nat),(1:Nat)),((0:Nat),(1:Nat)),((0:Nat),(1:Nat)),((0:Nat),(1:Nat)),((0:Nat),(1:Nat)),((0:Nat),(1:Nat)),
 ((0:Nat),(0:Nat))]=
 [((0:Nat),(1:Nat)),((0:Nat),(1:Nat)),((0:Nat),(1:Nat)),((0:Nat),(1:Nat)),((0:Nat),(1:Nat)),((0:Nat),(1:Nat)),
 ((0:Nat),(1:Nat)),((0:Nat),(1:Nat)),((0:Nat),(1:Nat)),((0:Nat),(1:Nat)),((0:Nat),(1:Nat)),((0:Nat),(1:Nat)),
 ((0:Nat),(0:Nat))]∧
 (p,false,y4,p.1,p.2.1,p.2.2.1,y2,y3,!y3,p.1,y4,p.1,p.2.1,p.2.2.1,y4,y4,y6,p.1,p.2.1,p.2.2.1,p.1,p.2.1,
 p.2.2.1,[y4],[(0:Int)],Ex (fun (_:ByteArray)=>none) y6 (0:Int),[(0:Int)],[(0:Int)],p.1,p.2.1,p.2.2.1,([]:List (List Int)),())=
 (p,false,y4,p.1,p.2.1,p.2.2.1,y2,y3,!y3,p.1,y4,p.1,p.2.1,p.2.2.1,y4,y4,y5,p.1,p.2.1,p.2.2.1,p.1,p.2.1,
 p.2.2.1,[y4],[(0:Int)],Ex (fun (_:ByteArray)=>none) y5 (0:Int),[(0:Int)],[(0:Int)],p.1,p.2.1,p.2.2.1,([]:List (List Int)),PUnit.unit))∧
 ([((0:Nat),(1:Nat)),((0:Nat),(1:Nat)),((0:Nat),(1:Nat)),((0:Nat),(1:Nat)),((0:Nat),(1:Nat)),((0:Nat),(1:Nat)),
 ((0:Nat),(1:Nat)),((0:Nat),(1:Nat)),((0:Nat),(1:Nat)),((0:Nat),(1:Nat)),((0:Nat),(1:Nat)),((0:Nat),(1:Nat)),
 ((0:Nat),(0:Nat))]=
 [((0:Nat),(1:Nat)),((0:Nat),(1:Nat)),((0:Nat),(1:Nat)),((0:Nat),(1:Nat)),((0:Nat),(1:Nat)),((0:Nat),(1:Nat)),
 ((0:Nat),(1:Nat)),((0:Nat),(1:Nat)),((0:Nat),(1:Nat)),((0:Nat),(1:Nat)),((0:Nat),(1:Nat)),((0:Nat),(1:Nat)),
 ((0:Nat),(0:Nat))]∧
 (p,false,y4,p.1,p.2.1,p.2.2.1,y2,y3,!y3,p.1,y4,p.1,p.2.1,p.2.2.1,y4,y4,y6,p.1,p.2.1,p.2.2.1,p.1,p.2.1,
 p.2.2.1,[y4],[(0:Int)],Ex (fun (_:ByteArray)=>none) y6 (0:Int),[(0:Int)],[(0:Int)],p.1,p.2.1,p.2.2.1,([]:List (List Int)),())=
 (p,false,y4,p.1,p.2.1,p.2.2.1,y2,y3,!y3,p.1,y4,p.1,p.2.1,p.2.2.1,y4,y4,y5,p.1,p.2.1,p.2.2.1,p.1,p.2.1,
 p.2.2.1,[y4],[(0:Int)],Ex (fun (_:ByteArray)=>none) y5 (0:Int),[(0:Int)],[(0:Int)],p.1,p.2.1,p.2.2.1,([]:List (List Int)),PUnit.unit))∧
 [((0:Nat),(1:Nat)),((0:Nat),(1:Nat)),((0:Nat),(1:Nat)),((0:Nat),(1:Nat)),((0:Nat),(1:Nat)),((0:Nat),(1:Nat)),
 ((0:Nat),(1:Nat)),((0:Nat),(1:Nat)),((0:Nat),(1:Nat)),((0:Nat),(1:Nat)),((0:Nat),(1:Nat)),((0:Nat),(1:Nat)),
 ((0:Nat),(0:Nat))]=
 [((0:Nat),(1:Nat)),((0:Nat),(1:Nat)),((0:Nat),(1:Nat)),((0:Nat),(1:Nat)),((0:Nat),(1:Nat)),((0:Nat),(1:Nat)),
 ((0:Nat),(1:Nat)),((0:Nat),(1:Nat)),((0:Nat),(1:Nat)),((0:Nat),(1:Nat)),((0:Nat),(1:Nat)),((0:Nat),(1:Nat)),
 ((0:Nat),(0:Nat))]∧
 (p,false,y4,p.1,p.2.1,p.2.2.1,y2,y3,!y3,p.1,y4,p.1,p.2.1,p.2.2.1,y4,y4,y6,p.1,p.2.1,p.2.2.1,p.1,p.2.1,
 p.2.2.1,[y4],[(0:Int)],Ex (fun (_:ByteArray)=>none) y6 (0:Int),[(0:Int)],[(0:Int)],p.1,p.2.1,p.2.2.1,([]:List (List Int)),())=
 (p,false,y4,p.1,p.2.1,p.2.2.1,y2,y3,!y3,p.1,y4,p.1,p.2.1,p.2.2.1,y4,y4,y5,p.1,p.2.1,p.2.2.1,p.1,p.2.1,
 p.2.2.1,[y4],[(0:Int)],Ex (fun (_:ByteArray)=>none) y5 (0:Int),[(0:Int)],[(0:Int)],p.1,p.2.1,p.2.2.1,[],PUnit.unit)))=fnW tab (look [(109,Kc),(108,As),(110,Hc),(111,Dp),(112,Ka),(113,Aas),(67,Ld)]) Lx Try.f61 (p,()) P:=by kernel_rfl
theorem Aix {g:List (List Int)} {k:Int} {x:List Int} {d:Int} : ∀(ls:List Int) (s:EX) (row:List Int) (L':List (List Int)) (D':List Int),Ga g x d ls s.1 s.2.1=(L',D',true)→
  (Aiw g k x d ls s row).1.1=L'∧(Aiw g k x d ls s row).1.2.1=D'
 | [],s,row,L',D',h=>by
  simp only [Ga,Prod.mk.injEq] at h
  exact ⟨h.1,h.2.1⟩
 |l::ls,s,row,L',D',h=>by
  simp only [Ga] at h
  simp only [Aiw]
  by_cases hm:Aa x (Ae g l)∈s.1
  ·rw [if_pos hm] at h
   rw [if_pos hm]
   exact Aix ls s _ L' D' h
  ·rw [if_neg hm] at h
   rw [if_neg hm]
   by_cases hf:s.1.length=3000
   ·rw [if_pos hf] at h
    simp at h
   ·rw [if_neg hf] at h
    exact Aix ls _ _ L' D' h
theorem As1 {g:List (List Int)} {ls:List Int} : ∀(f k:Nat) (s:EX) (N:List (List Int)) (L':List (List Int)) (D':List Int),Hm g ls f k s.1 s.2.1=(L',D',true)→
  (Al8 g ls f k s N).1.1=L'∧(Al8 g ls f k s N).1.2.1=D'
 |0,k,s,N,L',D',h=>by
  simp only [Hm,Prod.mk.injEq] at h
  exact ⟨h.1,h.2.1⟩
 |f+1,k,s,N,L',D',h=>by
  simp only [Hm] at h
  simp only [Al8]
  by_cases hk:k<s.1.length
  ·rw [if_pos hk] at h
   rw [if_pos hk]
   split at h
   ·rename_i L1 D1 he
    obtain ⟨a1,a2⟩:=Aix (k:=(k:Int)) ls s [] L1 D1 he
    refine As1 f (k+1) _ _ L' D' ?_
    rw [a1,a2]
    exact h
   ·simp at h
  ·rw [if_neg hk] at h
   rw [if_neg hk]
   simp only [Prod.mk.injEq] at h
   exact ⟨h.1,h.2.1⟩
theorem Ae4 {key:ByteArray} {x:List Int} : ∀(L:List (List Int)) (i:Nat),Yx key (L++ [x]) i=if (Yx key L i).isSome=true then Yx key L i else if Ke x=key then some ((i+L.length:Nat):Int) else none
 | [],i=>by simp [Yx]
 |y::L,i=>by
  simp only [List.cons_append,Yx]
  split
  ·rfl
  ·rw [Ae4 L (i+1),List.length_cons,show i+1+L.length=i+(L.length+1) by omega]
theorem Afh {x:List Int} (hx:Ms x): ∀(L:List (List Int)) (i:Nat),(∀y∈L,Ms y)→Yx (Ke x) L i=if x∈L then some ((i+L.idxOf x:Nat):Int) else none
 | [],i,_=>by simp [Yx]
 |y::L,i,h=>by
  have hy:=h y (by simp)
  simp only [Yx]
  by_cases e:y=x
  ·subst e
   rw [if_pos rfl,if_pos (by simp),List.idxOf_cons_self]
   rfl
  ·rw [if_neg fun hk=>e (key_inj hy hx hk),Afh hx L (i+1) fun z hz=>h z (List.mem_cons_of_mem _ hz),show List.idxOf x (y::L)=(List.idxOf x L).succ by rw [List.idxOf_cons,beq_false_of_ne e];rfl]
   have:(x∈y::L)↔(x∈L):=by simp [Ne.symm e]
   by_cases hm:x∈L
   ·rw [if_pos hm,if_pos (this.2 hm),show i+1+List.idxOf x L=i+(List.idxOf x L).succ by omega]
   ·rw [if_neg hm,if_neg fun h=>hm (this.1 h)]
theorem An6 {x:List Int} {L:List (List Int)} (hx:Ms x) (hL: ∀y∈L,Ms y):Ob L (Ke x)=if x∈L then some (L.idxOf x:Int) else none:=by
 unfold Ob
 rw [Afh hx L 0 hL,Nat.zero_add]
theorem An5 {x:List Int} {L:List (List Int)} (hx:Ms x) (hL: ∀y∈L,Ms y) (hn:x∉L):Ex (Ob L) (Ke x) (L.length:Int)=Ob (L++ [x]):=by
 funext key
 unfold Ex Ob
 rw [Ae4,Nat.zero_add]
 by_cases e:key=Ke x
 ·subst e
  rw [if_pos rfl,Afh hx L 0 hL,if_neg hn,if_neg (by simp),if_pos rfl]
 ·rw [if_neg e,if_neg (c:=Ke x=key) fun h=>e h.symm]
  split
  ·rfl
  ·rename_i h
   cases hk:Yx key L 0 with
   |none=>rfl
   |some v=>rw [hk] at h;simp at h
theorem Aus (p:PP):Fz (Mg p) 1 3000=Fk p:=by
 unfold Fk
 by_cases hv:Ay p=true
 ·rw [hv,Bool.true_and,Arw hv]
  rfl
 ·have hv:Ay p=false:=by simpa using hv
  rw [hv,Bool.false_and]
  have:Mg p=0:=by unfold Mg;rw [if_neg (by simp [hv])]
  rw [this]
  rfl
theorem Azb (p:PP) (h:Dk p):fnW tab (look [(109,Kc),(108,As),(110,Hc),(111,Dp),(112,Ka),(113,Aas),(67,Ld)]) Lx Try.f61 (p,()) (fun (z:Option (PP×List (List Int)×List Int×(ByteArray→Option Int)×List Int×List Int×List (List Int)×Unit)×Bool×Unit)=>z=(if Fk p=true then (some (Ni p),true,()) else (none,false,()))):=by
 refine Eq.mp (Bag p _) ⟨_,if_pos h,_,if_pos trivial,?_⟩
 show Br (!Fz (Mg p) 1 3000) _ _
 rw [Aus p]
 refine Br.of (fun hb=>?_) fun hb=>?_
 ·rw [if_neg (by simpa using hb)]
 have hw:Fk p=true:=by simpa using hb
 rw [if_pos hw]
 obtain ⟨hv,hbw⟩:=Bool.and_eq_true_iff.1 hw
 have hV:=valid hv
 have hfew:=hV.few
 have hn:=hV.n
 obtain ⟨pn,ps,g,⟨⟩⟩:=p
 dsimp only at hfew hn hbw⊢
 have hI:(upto pn.toNat).length≤20:=by rw [Ru];omega
 have hIr: ∀y∈upto pn.toNat,0≤y∧y<pn:=fun y hy=>by have:=Ix.1 hy;omega
 have hb0:=Aaa (p:=(pn,ps,g,())) hI hIr
 obtain ⟨ls,hls⟩: ∃ls,Be g.length=ls:=⟨_,rfl⟩
 have hll:ls.length≤16:=by rw [←hls,Kt];omega
 have hmem: ∀l∈ls,Ef (List.length g) l:=fun l hl=>Ls (hls▸hl)
 have hbyte: ∀x:List Int,(∀y∈x,0≤y∧y<pn)→Ms x:=fun x hx y hy=>by have:=hx y hy;omega
 have hstart:Hm g ls 3001 0 [upto pn.toNat] [0]=Fq g (upto pn.toNat):=by unfold Fq;rw [hls]
 have hk0:Ex (fun (_:ByteArray)=>(none:Option Int)) (Ke (upto pn.toNat)) 0=Ob [upto pn.toNat]:=by
  have:=An5 (L:= []) (hbyte _ hIr) (fun y hy=>by cases hy) (by simp)
  exact this
 refine ⟨upto pn.toNat,if_pos ⟨by show (0:Int)≤pn;omega,by show pn≤20;omega⟩,Ke (upto pn.toNat),if_pos (by show short (upto pn.toNat);unfold short;omega),⟨ls,?_,rfl,rfl,rfl,rfl,rfl,rfl,rfl,rfl,rfl,rfl,?_⟩,?_⟩
 ·refine (if_pos ⟨by show (0:Int)≤((g.length:Nat):Int);omega,by show ((g.length:Nat):Int)≤8;omega⟩).trans (congrArg some ?_)
  show Be (((g.length:Nat):Int)).toNat=ls
  rw [Int.toNat_natCast];exact hls
 ·obtain ⟨R,hR⟩: ∃R,Al8 g ls 3001 0 ([upto pn.toNat],[0],[0],[0]) []=R:=⟨_,rfl⟩
  have hexp:Ni (pn,ps,g,())=Bfs (pn,ps,g,()) R:=by unfold Ni;rw [hls];exact congrArg _ hR
  rw [hexp]
  refine Bv.mk (fun v=> ∃(k:Nat) (s:EX) (N:List (List Int)),v=((k:Int),pn,ps,g,s.1,s.2.1,Ob s.1,s.2.2.1,s.2.2.2,pn,ps,g,N,())∧k≤s.1.length∧Pj (pn,ps,g,()) (upto pn.toNat).length s.1 s.2.1∧s.2.2.1.length=s.1.length∧s.2.2.2.length=s.1.length∧N.length=k∧
    Hm g ls (3001-k) k s.1 s.2.1=Fq g (upto pn.toNat)∧Al8 g ls (3001-k) k s N=R) (fun v=>3001-v.1.toNat)
   ⟨0,([upto pn.toNat],[0],[0],[0]),[],?_,by simp,hb0,rfl,rfl,rfl,hstart,hR⟩ ?_
  ·rw [←hk0];rfl
  rintro v ⟨k,s0,N,rfl,h1,h2,h3,h4,h5,h6,h7⟩
  obtain ⟨L0,D0,P0,B0⟩:=s0
  dsimp only at h1 h2 h3 h4 h6 h7⊢
  have hL0:=h2.ok.few
  have hD0:=h2.len
  obtain ⟨f,hf⟩: ∃f,3001-k=f+1:=⟨3000-k,by omega⟩
  refine Br.dec (fun hl=>?_) fun hl=>?_
  ·have hk:k<L0.length:=by omega
   have hkD:k<D0.length:=by omega
   have hx: ∀y∈L0[k],0≤y∧y<pn:=h2.row _ (List.getElem_mem hk)
   have hxl:L0[k].length=(upto pn.toNat).length:=h2.ok.len _ (List.getElem_mem hk)
   have hdk:=h2.dep k hkD
   have hxe:L0.getD k []=L0[k]:=Mc hk
   have hde:D0.getD k 0=D0[k]:=by rw [List.getD_eq_getElem?_getD,List.getElem?_eq_getElem hkD];rfl
   have hgo: ∀L' D' ok,Ga g L0[k] D0[k] ls L0 D0=(L',D',ok)→Fq g (upto pn.toNat)=if ok=true then Hm g ls f (k+1) L' D' else (L',D',false):=by
    intro L' D' ok he
    rw [←h6,hf,Hm,if_pos hk,hxe,hde,he]
    cases ok<;>rfl
   obtain ⟨E,hE⟩: ∃E,Aiw g (k:Int) L0[k] D0[k] ls (L0,D0,P0,B0) []=E:=⟨_,rfl⟩
   have hex:R=Al8 g ls f (k+1) E.1 (N++ [E.2]):=by
    rw [←h7,hf,Al8,if_pos hk]
    dsimp only
    rw [hxe,hde,hE]
   refine ⟨⟨by omega,by omega⟩,L0[k],by rw [Int.toNat_natCast,Nat.zero_add];exact List.getElem?_eq_getElem hk,ls.map (fun l=>Aa L0[k] (Ae g l)),?_,?_⟩
   ·refine (if_pos ⟨hv,by show L0[k].length≤20;omega,hx⟩).trans (congrArg some ?_)
    show Apf g L0[k]=_
    unfold Apf
    rw [hls]
   refine ⟨rfl,rfl,rfl,rfl,rfl,rfl,rfl,rfl,rfl,rfl,rfl,rfl,?_⟩
   obtain ⟨nb,hnb⟩: ∃nb,ls.map (fun l=>Aa L0[k] (Ae g l))=nb:=⟨_,rfl⟩
   have hnl:nb.length=ls.length:=by rw [←hnb,List.length_map]
   have hni: ∀i (h:i<ls.length),nb[i]'(by omega)=Aa L0[k] (Ae g ls[i]):=fun i h=>by simp only [←hnb,List.getElem_map]
   rw [hnb]
   refine Bv.mk (fun v=> ∃(i:Nat) (row:List Int) (s:EX),v=((i:Int),pn,ps,g,row,s.1,s.2.1,Ob s.1,s.2.2.1,s.2.2.2,pn,ps,g,N,())∧i≤ls.length∧row.length=i∧Pj (pn,ps,g,()) (upto pn.toNat).length s.1 s.2.1∧s.2.2.1.length=s.1.length∧s.2.2.2.length=s.1.length∧
     (∃A,s.1=L0++A)∧(∃A,s.2.1=D0++A)∧Ga g L0[k] D0[k] (ls.drop i) s.1 s.2.1=Ga g L0[k] D0[k] ls L0 D0∧Aiw g (k:Int) L0[k] D0[k] (ls.drop i) s row=E) (fun v=>ls.length-v.1.toNat)
    ⟨0,[],(L0,D0,P0,B0),rfl,Nat.zero_le _,rfl,h2,h3,h4,⟨[],by simp⟩,⟨[],by simp⟩,rfl,hE⟩ ?_
   rintro v ⟨i,row,s,rfl,g1,g2,g3,g4,g5,⟨A,g6⟩,⟨A',g7⟩,g8,g9⟩
   obtain ⟨L,D,Pa,By⟩:=s
   dsimp only at g3 g4 g5 g6 g7 g8 g9⊢
   have hLf:=g3.ok.few
   have hDl:=g3.len
   refine Br.dec (fun hli=>?_) fun hli=>?_
   ·have hi:i<ls.length:=by omega
    have hkL:k<L.length:=by rw [g6,List.length_append];omega
    have hkD2:k<D.length:=by rw [hDl];exact hkL
    have hDk:D[k]=D0[k]:=by simp only [g7];exact List.getElem_append_left hkD
    have hlet:=hmem _ (List.getElem_mem hi)
    obtain ⟨nl,nr⟩:=Api hV hx hlet
    dsimp only at nl nr
    rw [List.drop_eq_getElem_cons hi] at g8 g9
    simp only [Ga] at g8
    simp only [Aiw] at g9
    have hyb:=hbyte _ nr
    refine ⟨_,Aj (by omega),?_⟩
    rw [hni i hi]
    generalize hyv:Aa L0[k] (Ae g ls[i])=yv at*
    refine ⟨Ke yv,if_pos (by show short yv;unfold short;rw [nl];omega),?_⟩
    rw [An6 hyb fun y hy=>hbyte _ (g3.row y hy)]
    refine Br.of (fun hin=>?_) fun hin=>?_
    ·have hin:yv∉L:=fun hm=>by rw [if_pos hm] at hin;simp at hin
     rw [if_neg hin] at g8 g9
     by_cases hfull:L.length=3000
     ·rw [if_pos hfull] at g8
      have:=hgo _ _ _ g8.symm
      rw [if_neg (by decide)] at this
      rw [this] at hbw
      cases hbw
     rw [if_neg hfull] at g8
     refine ⟨_,if_pos trivial,rfl,rfl,?_,⟨by omega,by omega⟩,D0[k],?_,rfl,rfl,?_,rfl,rfl,?_,_,Aj hi,rfl,rfl,?_,rfl,rfl,?_,rfl,rfl,rfl,rfl,rfl,rfl,rfl,rfl,rfl,rfl,rfl,rfl,?_⟩
     ·show L.length+1≤4294967296;omega
     ·rw [Int.toNat_natCast,Nat.zero_add,List.getElem?_eq_getElem hkD2,hDk]
     ·show D.length+1≤4294967296;omega
     ·show Pa.length+1≤4294967296;omega
     ·show By.length+1≤4294967296;omega
     ·show row.length+1≤4294967296;omega
     ·dsimp only
      rw [Cz L,Bq (n:=D0[k]+1) (by omega) (by omega),Al (by omega),An5 hyb (fun y hy=>hbyte _ (g3.row y hy)) hin]
      refine ⟨⟨i+1,row++ [(L.length:Int)],(L++ [yv],D++ [D0[k]+1],Pa++ [(k:Int)],By++ [ls[i]]),rfl,hi,by rw [List.length_append,g2];rfl,g3.add hin (by rw [nl,hxl]) (by omega) nr ⟨by omega,by omega⟩,?_,?_,⟨A++ [yv],by rw [g6,List.append_assoc]⟩,⟨A'++ [D0[k]+1],by rw [g7,List.append_assoc]⟩,g8,g9⟩,by omega⟩
      ·simp [g4]
      ·simp [g5]
    ·have hin:yv∈L:=Classical.byContradiction fun hm=>by rw [if_neg hm] at hin;simp at hin
     rw [if_pos hin] at g8 g9
     rw [if_pos hin]
     refine ⟨rfl,rfl,?_,rfl,rfl,rfl,rfl,rfl,rfl,rfl,rfl,rfl,rfl,rfl,rfl,?_⟩
     ·show row.length+1≤4294967296;omega
     ·rw [Al (by omega)]
      exact ⟨⟨i+1,row++ [(L.idxOf yv:Int)],(L,D,Pa,By),rfl,hi,by rw [List.length_append,g2];rfl,g3,g4,g5,⟨A,g6⟩,⟨A',g7⟩,g8,g9⟩,by omega⟩
   ·have:i=ls.length:=by omega
    subst this
    rw [List.drop_length,Ga] at g8
    rw [List.drop_length,Aiw] at g9
    have:=hgo _ _ _ g8.symm
    rw [if_pos rfl] at this
    rw [Cz row,Al (by omega)]
    refine ⟨rfl,rfl,?_,rfl,rfl,rfl,rfl,rfl,rfl,rfl,rfl,rfl,rfl,⟨k+1,(L,D,Pa,By),N++ [row],rfl,by rw [g6,List.length_append];omega,g3,g4,g5,by rw [List.length_append,h5];rfl,?_,?_⟩,by omega⟩
    ·show N.length+1≤4294967296;omega
    ·rw [show 3001-(k+1)=f by omega]
     exact this.symm
    ·rw [show 3001-(k+1)=f by omega,hex,←g9]
  ·have hk:k=L0.length:=by omega
   rw [hf,Al8,if_neg (by show ¬k<L0.length;omega)] at h7
   subst h7
   simp only [List.drop_zero,List.take_length]
   rfl
 ·have hkey:Dp.fn (upto pn.toNat,())=some (Ke (upto pn.toNat)):=if_pos (by show short (upto pn.toNat);unfold short;omega)
  repeat' (first|exact ⟨rfl,rfl⟩|refine ⟨_,hkey,?_⟩|refine ⟨?_,?_⟩)
theorem Am0:Sound Try.prog 61 Lx:=
 Sound.mkS Bi (Ad Ag9 (Ad Is (Ad Pg (Ad Zv (Ad Abj (Ad Au2 (Ad Zt Ao))))))) mixed Try.func61 (by kernel_rfl) (by kernel_rfl) fun x h=>Azb x.1 h
end Go.Proofs.Ytebabhocakedaaa

namespace Go.Proofs.Ytebabhocakedaaa
open Go.RowKit
abbrev XP:Type:=PP×List (List Int)×List Int×(ByteArray→Option Int)×List Int×List Int×List (List Int)×Unit
noncomputable def Et (p:PP):List (List Int):=(Fq p.2.2.1 (upto p.1.toNat)).1
noncomputable def Aje (p:PP):List Int:=(Fq p.2.2.1 (upto p.1.toNat)).2.1
def Bfp (e:XP):Prop:=Fk e.1=true∧e=Ni e.1
noncomputable def Asv (p:PP) (s:List Int):Int×Bool×Unit:=if s∈Et p then ((List.idxOf s (Et p):Nat),true,()) else (0,false,())
noncomputable def Lb (p:PP) (s:List Int):Bool:=Fk p&&decide (s∈Et p)
noncomputable def Bbn (e:Option XP) (s:List Int):Int×Bool×Unit:=match e with|some e=>Asv e.1 s|none=>(0,false,())
noncomputable abbrev Afz:Spec:=mkS (.pair (.optr Aeu) (.pair tL .unit)) (.pair tI (.pair .bool .unit)) true true (fun x=>(∃e:XP,x.1=some e∧Bfp e)∧short x.2.1) (fun x=>Bbn x.1 x.2.1)
noncomputable def Qh (p:PP) (s:List Int):Option XP×Int×Bool×Unit:=if Fk p=true then (some (Ni p),(Asv p s).1,(Asv p s).2.1,()) else (none,0,false,())
noncomputable abbrev Qk:Spec:=mkS (.pair Ct (.pair tL .unit)) (.pair (.optr Aeu) (.pair tI (.pair .bool .unit))) true false (fun x=>Dk x.1∧short x.2.1) (fun x=>Qh x.1 x.2.1)
abbrev Bgc:Ty:= .clo 104 (.pair (.ptr tL) .unit)
def Uk (goal s:List Int):Bool:=List.all goal fun x=>decide (Gk s x=x)
noncomputable abbrev Ag0:Spec:=mkS (.pair tI (.pair (.ptr tL) .unit)) .bool false true (fun x=>short x.2.1∧0≤x.1∧x.1<List.length x.2.1) (fun x=>!decide (Gk x.2.1 x.1=x.1))
noncomputable abbrev Ao0:Spec:=mkS (.pair tL (.pair Bgc .unit)) tI false true (fun x=>short x.1∧short x.2.1.1∧Hp (List.length x.2.1.1) x.1) (fun x=>Cd (fun y=>!decide (Gk x.2.1.1 y=y)) x.1 0)
noncomputable abbrev Ant:Spec:=mkS (.pair tL (.pair Bgc .unit)) .bool false true (fun x=>short x.1∧short x.2.1.1∧Hp (List.length x.2.1.1) x.1) (fun x=>List.any x.1 (fun y=>!decide (Gk x.2.1.1 y=y)))
noncomputable abbrev Eo:Spec:=mkS (.pair tL (.pair tL .unit)) .bool false true (fun x=>short x.1∧short x.2.1∧Hp (List.length x.2.1) x.1) (fun x=>Uk x.1 x.2.1)
noncomputable def Vt (p:PP):SS×Bool×Unit:=if Ay p=true then (Ha p.2.2.1 (upto p.1.toNat),Fk p,()) else (([],[],[],false,()),false,())
noncomputable abbrev Nr:Spec:=mkS (.pair Ct .unit) (.pair Wq (.pair .bool .unit)) true false (fun x=>Dk x.1) (fun x=>Vt x.1)
noncomputable abbrev Ql:Spec:=mkS (.pair Ct (.pair Wq (.pair tL .unit))) .bool false true (fun x=>Dk x.1∧short x.2.2.1∧Ay x.1=true∧x.2.1=Ha x.1.2.2.1 (upto x.1.1.toNat)) (fun x=>decide (x.2.2.1∈Et x.1))
noncomputable abbrev Kb:Spec:=mkS (.pair Ct (.pair tL .unit)) .bool false true (fun x=>Dk x.1∧short x.2.1) (fun x=>Lb x.1 x.2.1)
theorem Bfh (e:Option (PP×List (List Int)×List Int×(ByteArray→Option Int)×List Int×List Int×List (List Int)×Unit)) (s:List Int) (P:(Int×Bool×Unit)→Prop):(∃(y3:(Int×ByteArray×List (List Int)×PUnit)×List (List Int)×List Int×(ByteArray→Option Int)×List Int×List Int×List (List Int)×PUnit),
 e=some y3∧
 ∃(y4:Bool),
 No.fn (y3.1,s,())=some y4∧
 Br (!y4) (P ((0:Int),false,()))
 (∃(y5:(Int×ByteArray×List (List Int)×PUnit)×List (List Int)×List Int×(ByteArray→Option Int)×List Int×List Int×List (List Int)×PUnit),
 e=some y5∧ ∃(y6:ByteArray),Dp.fn (s,())=some y6∧P ((y5.2.2.2.1 y6).getD (Int.ofNat (nat_lit 0)),(y5.2.2.2.1 y6).isSome,())))=fnW tab (look [(150,No),(111,Dp)]) Afz Try.f101 (e,s,()) P:=by kernel_rfl
theorem Aob (p:Int×ByteArray×List (List Int)×Unit) (s:List Int) (P:(Option (PP×List (List Int)×List Int×(ByteArray→Option Int)×List Int×List Int×List (List Int)×Unit)×Int×Bool×Unit)→Prop):(∃(y3:Option ((Int×ByteArray×List (List Int)×PUnit)×List (List Int)×List Int×(ByteArray→Option Int)×List Int×List Int×List (List Int)×PUnit)×Bool×PUnit),
 Lx.fn ((p.1,p.2.1,p.2.2.1,()),())=some y3∧
 Br (!y3.2.1) (P (none,(0:Int),false,())) (∃(y4:Int×Bool×PUnit),Afz.fn (y3.1,s,())=some y4∧P (y3.1,y4.1,y4.2.1,())))=fnW tab (look [(61,Lx),(101,Afz)]) Qk Try.f54 (p,s,()) P:=by kernel_rfl
theorem Bfk (x:Int) (s:List Int) (P:Bool→Prop):(∃(y3:Int),idx s x=some y3∧P (y3 !=x))=fnW tab (look []) Ag0 Try.f104 (x,s,()) P:=by kernel_rfl
theorem Bgp (xs:List Int) (c:List Int×Unit) (P:Int→Prop):(Bv
 (fun (v3:Int×PUnit) (k4:Int×PUnit→Prop)=>
 Br (decide (v3.1<(↑xs.length:Int)))
 (∃(y5:Int),idx xs v3.1=some y5∧ ∃(y6:Bool),Ag0.fn (y5,c.1,())=some y6∧Br y6 (P v3.1) (k4 (IntKind.i64.wrap (v3.1+(1:Int)),()))) (P (-1:Int)))
 ((0:Int),PUnit.unit))=fnW tab (look [(104,Ag0)]) Ao0 Try.f144 (xs,c,()) P:=by kernel_rfl
theorem Bgi (xs:List Int) (c:List Int×Unit) (P:Bool→Prop):(∃(y3:Int),Ao0.fn (xs,c,())=some y3∧P (decide (y3≥(0:Int))))=fnW tab (look [(144,Ao0)]) Ant Try.f103 (xs,c,()) P:=by kernel_rfl
theorem Auo (g s:List Int) (P:Bool→Prop):(∃(y3:Bool),Ant.fn (g,(s,()),())=some y3∧P !y3)=fnW tab (look [(103,Ant)]) Eo Try.f56 (g,s,()) P:=by kernel_rfl
theorem Axh (p:Int×ByteArray×List (List Int)×Unit) (P:((List (List Int)×List Int×List Int×Bool×Unit)×Bool×Unit)→Prop):(∃(y2:Bool),
 Dw.fn ((p.1,p.2.1,p.2.2.1,()),())=some y2∧
 Br (!y2) (P ((List.take (0:Nat) (List.drop (0:Nat) []),List.take (0:Nat) (List.drop (0:Nat) []),List.take (0:Nat) (List.drop (0:Nat) []),false,()),false,()))
 (((((∃(y3:List Int),
 Bu.fn (p.1,())=some y3∧
 (∃(y4:List (List Int)×List Int×List Int×Bool×PUnit),
 Cw.fn ((p.1,p.2.1,p.2.2.1,()),y3,())=some y4∧
 ((P ((y4.1,y4.2.1,y4.2.2.1,y4.2.2.2.1,()),y4.2.2.2.1,())∧P ((y4.1,y4.2.1,y4.2.2.1,y4.2.2.2.1,()),y4.2.2.2.1,()))∧
 P ((y4.1,y4.2.1,y4.2.2.1,y4.2.2.2.1,()),y4.2.2.2.1,()))∧
 (P ((y4.1,y4.2.1,y4.2.2.1,y4.2.2.2.1,()),y4.2.2.2.1,())∧P ((y4.1,y4.2.1,y4.2.2.1,y4.2.2.2.1,()),y4.2.2.2.1,()))∧
 P ((y4.1,y4.2.1,y4.2.2.1,y4.2.2.2.1,()),y4.2.2.2.1,()))∧
 ∃(y4:List (List Int)×List Int×List Int×Bool×PUnit),
 Cw.fn ((p.1,p.2.1,p.2.2.1,()),y3,())=some y4∧
 ((P ((y4.1,y4.2.1,y4.2.2.1,y4.2.2.2.1,()),y4.2.2.2.1,())∧P ((y4.1,y4.2.1,y4.2.2.1,y4.2.2.2.1,()),y4.2.2.2.1,()))∧
 P ((y4.1,y4.2.1,y4.2.2.1,y4.2.2.2.1,()),y4.2.2.2.1,()))∧
 (P ((y4.1,y4.2.1,y4.2.2.1,y4.2.2.2.1,()),y4.2.2.2.1,())∧P ((y4.1,y4.2.1,y4.2.2.1,y4.2.2.2.1,()),y4.2.2.2.1,()))∧
 P ((y4.1,y4.2.1,y4.2.2.1,y4.2.2.2.1,()),y4.2.2.2.1,()))∧
 ∃(y3:List Int),
 Bu.fn (p.1,())=some y3∧
 ∃(y4:List (List Int)×List Int×List Int×Bool×PUnit),
 Cw.fn ((p.1,p.2.1,p.2.2.1,()),y3,())=some y4∧
 ((P ((y4.1,y4.2.1,y4.2.2.1,y4.2.2.2.1,()),y4.2.2.2.1,())∧P ((y4.1,y4.2.1,y4.2.2.1,y4.2.2.2.1,()),y4.2.2.2.1,()))∧
 P ((y4.1,y4.2.1,y4.2.2.1,y4.2.2.2.1,()),y4.2.2.2.1,()))∧
 (P ((y4.1,y4.2.1,y4.2.2.1,y4.2.2.2.1,()),y4.2.2.2.1,())∧P ((y4.1,y4.2.1,y4.2.2.1,y4.2.2.2.1,()),y4.2.2.2.1,()))∧
 P ((y4.1,y4.2.1,y4.2.2.1,y4.2.2.2.1,()),y4.2.2.2.1,()))∧
 ∃(y3:List Int),
 Bu.fn (p.1,())=some y3∧
 ∃(y4:List (List Int)×List Int×List Int×Bool×PUnit),
 Cw.fn ((p.1,p.2.1,p.2.2.1,()),y3,())=some y4∧
 ((P ((y4.1,y4.2.1,y4.2.2.1,y4.2.2.2.1,()),y4.2.2.2.1,())∧P ((y4.1,y4.2.1,y4.2.2.1,y4.2.2.2.1,()),y4.2.2.2.1,()))∧
 P ((y4.1,y4.2.1,y4.2.2.1,y4.2.2.2.1,()),y4.2.2.2.1,()))∧
 (P ((y4.1,y4.2.1,y4.2.2.1,y4.2.2.2.1,()),y4.2.2.2.1,())∧P ((y4.1,y4.2.1,y4.2.2.1,y4.2.2.2.1,()),y4.2.2.2.1,()))∧
 P ((y4.1,y4.2.1,y4.2.2.1,y4.2.2.2.1,()),y4.2.2.2.1,()))∧
 ∃(y3:List Int),
 Bu.fn (p.1,())=some y3∧
 ∃(y4:List (List Int)×List Int×List Int×Bool×PUnit),
 Cw.fn ((p.1,p.2.1,p.2.2.1,()),y3,())=some y4∧
 ((P ((y4.1,y4.2.1,y4.2.2.1,y4.2.2.2.1,()),y4.2.2.2.1,())∧P ((y4.1,y4.2.1,y4.2.2.1,y4.2.2.2.1,()),y4.2.2.2.1,()))∧
 P ((y4.1,y4.2.1,y4.2.2.1,y4.2.2.2.1,()),y4.2.2.2.1,()))∧
 (P ((y4.1,y4.2.1,y4.2.2.1,y4.2.2.2.1,()),y4.2.2.2.1,())∧P ((y4.1,y4.2.1,y4.2.2.1,y4.2.2.2.1,()),y4.2.2.2.1,()))∧
 P ((y4.1,y4.2.1,y4.2.2.1,y4.2.2.2.1,()),y4.2.2.2.1,()))∧
 ((((∃(y3:List Int),
 Bu.fn (p.1,())=some y3∧
 (∃(y4:List (List Int)×List Int×List Int×Bool×PUnit),
 Cw.fn ((p.1,p.2.1,p.2.2.1,()),y3,())=some y4∧
 ((P ((y4.1,y4.2.1,y4.2.2.1,y4.2.2.2.1,()),y4.2.2.2.1,())∧P ((y4.1,y4.2.1,y4.2.2.1,y4.2.2.2.1,()),y4.2.2.2.1,()))∧
 P ((y4.1,y4.2.1,y4.2.2.1,y4.2.2.2.1,()),y4.2.2.2.1,()))∧
 (P ((y4.1,y4.2.1,y4.2.2.1,y4.2.2.2.1,()),y4.2.2.2.1,())∧P ((y4.1,y4.2.1,y4.2.2.1,y4.2.2.2.1,()),y4.2.2.2.1,()))∧
 P ((y4.1,y4.2.1,y4.2.2.1,y4.2.2.2.1,()),y4.2.2.2.1,()))∧
 ∃(y4:List (List Int)×List Int×List Int×Bool×PUnit),
 Cw.fn ((p.1,p.2.1,p.2.2.1,()),y3,())=some y4∧
 ((P ((y4.1,y4.2.1,y4.2.2.1,y4.2.2.2.1,()),y4.2.2.2.1,())∧P ((y4.1,y4.2.1,y4.2.2.1,y4.2.2.2.1,()),y4.2.2.2.1,()))∧
 P ((y4.1,y4.2.1,y4.2.2.1,y4.2.2.2.1,()),y4.2.2.2.1,()))∧
 (P ((y4.1,y4.2.1,y4.2.2.1,y4.2.2.2.1,()),y4.2.2.2.1,())∧P ((y4.1,y4.2.1,y4.2.2.1,y4.2.2.2.1,()),y4.2.2.2.1,()))∧
 P ((y4.1,y4.2.1,y4.2.2.1,y4.2.2.2.1,()),y4.2.2.2.1,()))∧
 ∃(y3:List Int),
 Bu.fn (p.1,())=some y3∧
 ∃(y4:List (List Int)×List Int×List Int×Bool×PUnit),
 Cw.fn ((p.1,p.2.1,p.2.2.1,()),y3,())=some y4∧
 ((P ((y4.1,y4.2.1,y4.2.2.1,y4.2.2.2.1,()),y4.2.2.2.1,())∧P ((y4.1,y4.2.1,y4.2.2.1,y4.2.2.2.1,()),y4.2.2.2.1,()))∧
 P ((y4.1,y4.2.1,y4.2.2.1,y4.2.2.2.1,()),y4.2.2.2.1,()))∧
 (P ((y4.1,y4.2.1,y4.2.2.1,y4.2.2.2.1,()),y4.2.2.2.1,())∧P ((y4.1,y4.2.1,y4.2.2.1,y4.2.2.2.1,()),y4.2.2.2.1,()))∧
 P ((y4.1,y4.2.1,y4.2.2.1,y4.2.2.2.1,()),y4.2.2.2.1,()))∧
 ∃(y3:List Int),
 Bu.fn (p.1,())=some y3∧
 ∃(y4:List (List Int)×List Int×List Int×Bool×PUnit),
 Cw.fn ((p.1,p.2.1,p.2.2.1,()),y3,())=some y4∧
 ((P ((y4.1,y4.2.1,y4.2.2.1,y4.2.2.2.1,()),y4.2.2.2.1,())∧P ((y4.1,y4.2.1,y4.2.2.1,y4.2.2.2.1,()),y4.2.2.2.1,()))∧
 P ((y4.1,y4.2.1,y4.2.2.1,y4.2.2.2.1,()),y4.2.2.2.1,()))∧
 (P ((y4.1,y4.2.1,y4.2.2.1,y4.2.2.2.1,()),y4.2.2.2.1,())∧P ((y4.1,y4.2.1,y4.2.2.1,y4.2.2.2.1,()),y4.2.2.2.1,()))∧
 P ((y4.1,y4.2.1,y4.2.2.1,y4.2.2.2.1,()),y4.2.2.2.1,()))∧
 (((∃(y3:List Int),
 Bu.fn (p.1,())=some y3∧
 (∃(y4:List (List Int)×List Int×List Int×Bool×PUnit),
 Cw.fn ((p.1,p.2.1,p.2.2.1,()),y3,())=some y4∧
 ((P ((y4.1,y4.2.1,y4.2.2.1,y4.2.2.2.1,()),y4.2.2.2.1,())∧P ((y4.1,y4.2.1,y4.2.2.1,y4.2.2.2.1,()),y4.2.2.2.1,()))∧
 P ((y4.1,y4.2.1,y4.2.2.1,y4.2.2.2.1,()),y4.2.2.2.1,()))∧
 (P ((y4.1,y4.2.1,y4.2.2.1,y4.2.2.2.1,()),y4.2.2.2.1,())∧P ((y4.1,y4.2.1,y4.2.2.1,y4.2.2.2.1,()),y4.2.2.2.1,()))∧
 P ((y4.1,y4.2.1,y4.2.2.1,y4.2.2.2.1,()),y4.2.2.2.1,()))∧
 ∃(y4:List (List Int)×List Int×List Int×Bool×PUnit),
 Cw.fn ((p.1,p.2.1,p.2.2.1,()),y3,())=some y4∧
 ((P ((y4.1,y4.2.1,y4.2.2.1,y4.2.2.2.1,()),y4.2.2.2.1,())∧P ((y4.1,y4.2.1,y4.2.2.1,y4.2.2.2.1,()),y4.2.2.2.1,()))∧
 P ((y4.1,y4.2.1,y4.2.2.1,y4.2.2.2.1,()),y4.2.2.2.1,()))∧
 (P ((y4.1,y4.2.1,y4.2.2.1,y4.2.2.2.1,()),y4.2.2.2.1,())∧P ((y4.1,y4.2.1,y4.2.2.1,y4.2.2.2.1,()),y4.2.2.2.1,()))∧
 P ((y4.1,y4.2.1,y4.2.2.1,y4.2.2.2.1,()),y4.2.2.2.1,()))∧
 ∃(y3:List Int),
 Bu.fn (p.1,())=some y3∧
 ∃(y4:List (List Int)×List Int×List Int×Bool×PUnit),
 Cw.fn ((p.1,p.2.1,p.2.2.1,()),y3,())=some y4∧
 ((P ((y4.1,y4.2.1,y4.2.2.1,y4.2.2.2.1,()),y4.2.2.2.1,())∧P ((y4.1,y4.2.1,y4.2.2.1,y4.2.2.2.1,()),y4.2.2.2.1,()))∧
 P ((y4.1,y4.2.1,y4.2.2.1,y4.2.2.2.1,()),y4.2.2.2.1,()))∧
 (P ((y4.1,y4.2.1,y4.2.2.1,y4.2.2.2.1,()),y4.2.2.2.1,())∧P ((y4.1,y4.2.1,y4.2.2.1,y4.2.2.2.1,()),y4.2.2.2.1,()))∧
 P ((y4.1,y4.2.1,y4.2.2.1,y4.2.2.2.1,()),y4.2.2.2.1,()))∧
 (∃(y3:List Int),
 Bu.fn (p.1,())=some y3∧
 ((∃(y4:List (List Int)×List Int×List Int×Bool×PUnit),
 Cw.fn ((p.1,p.2.1,p.2.2.1,()),y3,())=some y4∧
 ((P ((y4.1,y4.2.1,y4.2.2.1,y4.2.2.2.1,()),y4.2.2.2.1,())∧P ((y4.1,y4.2.1,y4.2.2.1,y4.2.2.2.1,()),y4.2.2.2.1,()))∧
 P ((y4.1,y4.2.1,y4.2.2.1,y4.2.2.2.1,()),y4.2.2.2.1,()))∧
 (P ((y4.1,y4.2.1,y4.2.2.1,y4.2.2.2.1,()),y4.2.2.2.1,())∧P ((y4.1,y4.2.1,y4.2.2.1,y4.2.2.2.1,()),y4.2.2.2.1,()))∧
 P ((y4.1,y4.2.1,y4.2.2.1,y4.2.2.2.1,()),y4.2.2.2.1,()))∧
 ∃(y4:List (List Int)×List Int×List Int×Bool×PUnit),
 Cw.fn ((p.1,p.2.1,p.2.2.1,()),y3,())=some y4∧
 ((P ((y4.1,y4.2.1,y4.2.2.1,y4.2.2.2.1,()),y4.2.2.2.1,())∧P ((y4.1,y4.2.1,y4.2.2.1,y4.2.2.2.1,()),y4.2.2.2.1,()))∧
 P ((y4.1,y4.2.1,y4.2.2.1,y4.2.2.2.1,()),y4.2.2.2.1,()))∧
 (P ((y4.1,y4.2.1,y4.2.2.1,y4.2.2.2.1,()),y4.2.2.2.1,())∧P ((y4.1,y4.2.1,y4.2.2.1,y4.2.2.2.1,()),y4.2.2.2.1,()))∧
 P ((y4.1,y4.2.1,y4.2.2.1,y4.2.2.2.1,()),y4.2.2.2.1,()))∧
 ∃(y4:List (List Int)×List Int×List Int×Bool×PUnit),
 Cw.fn ((p.1,p.2.1,p.2.2.1,()),y3,())=some y4∧
 ((P ((y4.1,y4.2.1,y4.2.2.1,y4.2.2.2.1,()),y4.2.2.2.1,())∧P ((y4.1,y4.2.1,y4.2.2.1,y4.2.2.2.1,()),y4.2.2.2.1,()))∧
 P ((y4.1,y4.2.1,y4.2.2.1,y4.2.2.2.1,()),y4.2.2.2.1,()))∧
 (P ((y4.1,y4.2.1,y4.2.2.1,y4.2.2.2.1,()),y4.2.2.2.1,())∧P ((y4.1,y4.2.1,y4.2.2.1,y4.2.2.2.1,()),y4.2.2.2.1,()))∧
 P ((y4.1,y4.2.1,y4.2.2.1,y4.2.2.2.1,()),y4.2.2.2.1,()))∧
 (∃(y3:List Int),
 Bu.fn (p.1,())=some y3∧
 ∃(y4:List (List Int)×List Int×List Int×Bool×PUnit),
 Cw.fn ((p.1,p.2.1,p.2.2.1,()),y3,())=some y4∧
 ((P ((y4.1,y4.2.1,y4.2.2.1,y4.2.2.2.1,()),y4.2.2.2.1,())∧P ((y4.1,y4.2.1,y4.2.2.1,y4.2.2.2.1,()),y4.2.2.2.1,()))∧
 P ((y4.1,y4.2.1,y4.2.2.1,y4.2.2.2.1,()),y4.2.2.2.1,()))∧
 (P ((y4.1,y4.2.1,y4.2.2.1,y4.2.2.2.1,()),y4.2.2.2.1,())∧P ((y4.1,y4.2.1,y4.2.2.1,y4.2.2.2.1,()),y4.2.2.2.1,()))∧
 P ((y4.1,y4.2.1,y4.2.2.1,y4.2.2.2.1,()),y4.2.2.2.1,()))∧
 ∃(y3:List Int),
 Bu.fn (p.1,())=some y3∧
 ∃(y4:List (List Int)×List Int×List Int×Bool×PUnit),
 Cw.fn ((p.1,p.2.1,p.2.2.1,()),y3,())=some y4∧
 ((P ((y4.1,y4.2.1,y4.2.2.1,y4.2.2.2.1,()),y4.2.2.2.1,())∧P ((y4.1,y4.2.1,y4.2.2.1,y4.2.2.2.1,()),y4.2.2.2.1,()))∧
 P ((y4.1,y4.2.1,y4.2.2.1,y4.2.2.2.1,()),y4.2.2.2.1,()))∧
 (P ((y4.1,y4.2.1,y4.2.2.1,y4.2.2.2.1,()),y4.2.2.2.1,())∧P ((y4.1,y4.2.1,y4.2.2.1,y4.2.2.2.1,()),y4.2.2.2.1,()))∧
 P ((y4.1,y4.2.1,y4.2.2.1,y4.2.2.2.1,()),y4.2.2.2.1,()))∧
 (∃(y3:List Int),
 Bu.fn (p.1,())=some y3∧
 ∃(y4:List (List Int)×List Int×List Int×Bool×PUnit),
 Cw.fn ((p.1,p.2.1,p.2.2.1,()),y3,())=some y4∧
 ((P ((y4.1,y4.2.1,y4.2.2.1,y4.2.2.2.1,()),y4.2.2.2.1,())∧P ((y4.1,y4.2.1,y4.2.2.1,y4.2.2.2.1,()),y4.2.2.2.1,()))∧
 P ((y4.1,y4.2.1,y4.2.2.1,y4.2.2.2.1,()),y4.2.2.2.1,()))∧
 (P ((y4.1,y4.2.1,y4.2.2.1,y4.2.2.2.1,()),y4.2.2.2.1,())∧P ((y4.1,y4.2.1,y4.2.2.1,y4.2.2.2.1,()),y4.2.2.2.1,()))∧
 P ((y4.1,y4.2.1,y4.2.2.1,y4.2.2.2.1,()),y4.2.2.2.1,()))∧
 (∃(y3:List Int),
 Bu.fn (p.1,())=some y3∧
 ∃(y4:List (List Int)×List Int×List Int×Bool×PUnit),
 Cw.fn ((p.1,p.2.1,p.2.2.1,()),y3,())=some y4∧
 ((P ((y4.1,y4.2.1,y4.2.2.1,y4.2.2.2.1,()),y4.2.2.2.1,())∧P ((y4.1,y4.2.1,y4.2.2.1,y4.2.2.2.1,()),y4.2.2.2.1,()))∧
 P ((y4.1,y4.2.1,y4.2.2.1,y4.2.2.2.1,()),y4.2.2.2.1,()))∧
 (P ((y4.1,y4.2.1,y4.2.2.1,y4.2.2.2.1,()),y4.2.2.2.1,())∧P ((y4.1,y4.2.1,y4.2.2.1,y4.2.2.2.1,()),y4.2.2.2.1,()))∧
 P ((y4.1,y4.2.1,y4.2.2.1,y4.2.2.2.1,()),y4.2.2.2.1,()))∧
 ∃(y3:List Int),
 Bu.fn (p.1,())=some y3∧
 ∃(y4:List (List Int)×List Int×List Int×Bool×PUnit),
 Cw.fn ((p.1,p.2.1,p.2.2.1,()),y3,())=some y4∧
 ((P ((y4.1,y4.2.1,y4.2.2.1,y4.2.2.2.1,()),y4.2.2.2.1,())∧P ((y4.1,y4.2.1,y4.2.2.1,y4.2.2.2.1,()),y4.2.2.2.1,()))∧
 P ((y4.1,y4.2.1,y4.2.2.1,y4.2.2.2.1,()),y4.2.2.2.1,()))∧
 (P ((y4.1,y4.2.1,y4.2.2.1,y4.2.2.2.1,()),y4.2.2.2.1,())∧P ((y4.1,y4.2.1,y4.2.2.1,y4.2.2.2.1,()),y4.2.2.2.1,()))∧
 P ((y4.1,y4.2.1,y4.2.2.1,y4.2.2.2.1,()),y4.2.2.2.1,()))∧
 (∃(y3:List Int),
 Bu.fn (p.1,())=some y3∧
 ∃(y4:List (List Int)×List Int×List Int×Bool×PUnit),
 Cw.fn ((p.1,p.2.1,p.2.2.1,()),y3,())=some y4∧
 ((P ((y4.1,y4.2.1,y4.2.2.1,y4.2.2.2.1,()),y4.2.2.2.1,())∧P ((y4.1,y4.2.1,y4.2.2.1,y4.2.2.2.1,()),y4.2.2.2.1,()))∧
 P ((y4.1,y4.2.1,y4.2.2.1,y4.2.2.2.1,()),y4.2.2.2.1,()))∧
 (P ((y4.1,y4.2.1,y4.2.2.1,y4.2.2.2.1,()),y4.2.2.2.1,())∧P ((y4.1,y4.2.1,y4.2.2.1,y4.2.2.2.1,()),y4.2.2.2.1,()))∧
 P ((y4.1,y4.2.1,y4.2.2.1,y4.2.2.2.1,()),y4.2.2.2.1,()))∧
 (∃(y3:List Int),
 Bu.fn (p.1,())=some y3∧
 ∃(y4:List (List Int)×List Int×List Int×Bool×PUnit),
 Cw.fn ((p.1,p.2.1,p.2.2.1,()),y3,())=some y4∧
 ((P ((y4.1,y4.2.1,y4.2.2.1,y4.2.2.2.1,()),y4.2.2.2.1,())∧P ((y4.1,y4.2.1,y4.2.2.1,y4.2.2.2.1,()),y4.2.2.2.1,()))∧
 P ((y4.1,y4.2.1,y4.2.2.1,y4.2.2.2.1,()),y4.2.2.2.1,()))∧
 (P ((y4.1,y4.2.1,y4.2.2.1,y4.2.2.2.1,()),y4.2.2.2.1,())∧P ((y4.1,y4.2.1,y4.2.2.1,y4.2.2.2.1,()),y4.2.2.2.1,()))∧
 P ((y4.1,y4.2.1,y4.2.2.1,y4.2.2.2.1,()),y4.2.2.2.1,()))∧
 (∃(y3:List Int),
 Bu.fn (p.1,())=some y3∧
 ∃(y4:List (List Int)×List Int×List Int×Bool×PUnit),
 Cw.fn ((p.1,p.2.1,p.2.2.1,()),y3,())=some y4∧
 ((P ((y4.1,y4.2.1,y4.2.2.1,y4.2.2.2.1,()),y4.2.2.2.1,())∧P ((y4.1,y4.2.1,y4.2.2.1,y4.2.2.2.1,()),y4.2.2.2.1,()))∧
 P ((y4.1,y4.2.1,y4.2.2.1,y4.2.2.2.1,()),y4.2.2.2.1,()))∧
 (P ((y4.1,y4.2.1,y4.2.2.1,y4.2.2.2.1,()),y4.2.2.2.1,())∧P ((y4.1,y4.2.1,y4.2.2.1,y4.2.2.2.1,()),y4.2.2.2.1,()))∧
 P ((y4.1,y4.2.1,y4.2.2.1,y4.2.2.2.1,()),y4.2.2.2.1,()))∧
 ∃(y3:List Int),
 Bu.fn (p.1,())=some y3∧
 ∃(y4:List (List Int)×List Int×List Int×Bool×PUnit),
 Cw.fn ((p.1,p.2.1,p.2.2.1,()),y3,())=some y4∧
 ((P ((y4.1,y4.2.1,y4.2.2.1,y4.2.2.2.1,()),y4.2.2.2.1,())∧P ((y4.1,y4.2.1,y4.2.2.1,y4.2.2.2.1,()),y4.2.2.2.1,()))∧
 P ((y4.1,y4.2.1,y4.2.2.1,y4.2.2.2.1,()),y4.2.2.2.1,()))∧
 (P ((y4.1,y4.2.1,y4.2.2.1,y4.2.2.2.1,()),y4.2.2.2.1,())∧P ((y4.1,y4.2.1,y4.2.2.1,y4.2.2.2.1,()),y4.2.2.2.1,()))∧
 P ((y4.1,y4.2.1,y4.2.2.1,y4.2.2.2.1,()),y4.2.2.2.1,())))=fnW tab (look [(99,Dw),(106,Bu),(105,Cw)]) Nr Try.f57 (p,()) P:=by kernel_rfl
theorem Bah (p:Int×ByteArray×List (List Int)×Unit) (f:List (List Int)×List Int×List Int×Bool×Unit) (s:List Int) (P:Bool→Prop):(∃(y4:Bool),
 Qo.fn ((p.1,p.2.1,p.2.2.1,()),s,())=some y4∧
 Br y4 (∃(y5:Int),Mn.fn ((f.1,f.2.1,f.2.2.1,f.2.2.2.1,()),s,())=some y5∧P (decide (y5≥(0:Int)))) (P false))=fnW tab (look [(118,Qo),(69,Mn)]) Ql Try.f68 (p,f,s,()) P:=by kernel_rfl
theorem Ar1 (p:Int×ByteArray×List (List Int)×Unit) (s:List Int) (P:Bool→Prop):(∃(y3:(List (List Int)×List Int×List Int×Bool×PUnit)×Bool×PUnit),
 Nr.fn ((p.1,p.2.1,p.2.2.1,()),())=some y3∧
 Br y3.2.1 (∃(y4:Bool),Ql.fn ((p.1,p.2.1,p.2.2.1,()),(y3.1.1,y3.1.2.1,y3.1.2.2.1,y3.1.2.2.2.1,()),s,())=some y4∧P y4) (P false))=fnW tab (look [(57,Nr),(68,Ql)]) Kb Try.f52 (p,s,()) P:=by kernel_rfl
theorem Aum (g s:List Int) (P:Bool→Prop):(Bv
 (fun (v3:Int×PUnit) (k4:Int×PUnit→Prop)=>
 Br (decide (v3.1<(↑g.length:Int)))
 (∃(y5:Int),idx g v3.1=some y5∧ ∃(y6:Int),idx s y5=some y6∧ ∃(y7:Int),idx g v3.1=some y7∧Br (y6 !=y7) (P false) (k4 (IntKind.i64.wrap (v3.1+(1:Int)),())))
 (P true))
 ((0:Int),PUnit.unit))=fnW tab (look []) Eo Try.f53 (g,s,()) P:=by kernel_rfl
theorem Ayv {p:List Int} (h:Qt p):Es p=true:=by
 refine Er.2 ⟨h.pos,h.len,fun j h1 h2=>?_⟩
 have:=h.row _ (List.getElem_mem h2)
 exact ⟨by omega,by omega,fun hm=>by
  obtain ⟨i,hi,e⟩:=List.mem_iff_getElem.1 hm
  have hi':i<j:=by rw [List.length_take] at hi;omega
  rw [List.getElem_take] at e
  exact (List.pairwise_iff_getElem.1 h.nodup i j (by omega) h2 hi') e⟩
theorem Oz {p:PP} (hw:Fk p=true):Ay p=true∧(Fq p.2.2.1 (upto p.1.toNat)).2.2=true:=Bool.and_eq_true_iff.1 hw
theorem Bce {p:PP} (hv:Ay p=true):Pj p p.1.toNat (Et p) (Aje p):=(Ak1 hv).ok
theorem Bb5 {p:PP} (hV:Valid p):PmS p.1.toNat fun g=>some g∈p.2.2.1.map some:=
 ⟨by have:=hV.n;omega,fun g hg'=>by obtain ⟨g',e,h⟩:=Ajy (Adf hV).2.2 _ hg';cases e;exact h⟩
theorem Bcf {p:PP} (hv:Ay p=true) {x:List Int} (hx:x∈Et p):Pm p.1.toNat x:=Gen.pm (Bb5 (valid hv)) ((Ak1 hv).gen x hx)
theorem Bf9 {p:PP} (hV:Valid p) {x:List Int} (h:Pm p.1.toNat x):Dr p.1 x=true:=by
 have:=hV.n
 have:=h.1
 exact Er.2 ⟨by omega,Ayv h.2⟩
theorem Bb4 {p:PP} (_hV:Valid p) {x:List Int} (h:Dr p.1 x=true):Pm p.1.toNat x:=by
 obtain ⟨h1,h2⟩:=Er.1 h
 exact ⟨by omega,Acq h2⟩
theorem Bcd {p:PP} (hv:Ay p=true) {x:List Int} (hx:x∈Et p):Dr p.1 x=true:=Bf9 (valid hv) (Bcf hv hx)
theorem Bdu {p:PP} (hv:Ay p=true) {x:List Int} (hx:x∈Et p):Ms x:=fun y hy=>by
 have h1:=(Bce hv).row x hx y hy
 have:=(valid hv).n
 omega
theorem Bdr {n:Nat} {x:List Int} (h:Pm n x):Ms x:=fun y hy=>by
 have h1:=h.row y hy
 have:=h.n2
 omega
theorem Ajx {n:Nat} {x:List Int} (h:Pm n x):short x:=by
 have h1:=h.1
 have:=h.n2
 unfold short;omega
theorem Bda {p:PP} (hw:Fk p=true):(Ni p).2.1=Et p∧(Ni p).2.2.1=Aje p:=by
 have h:=(Oz hw).2
 refine As1 3001 0 ([upto p.1.toNat],[0],[0],[0]) [] _ _ ?_
 show Hm p.2.2.1 (Be p.2.2.1.length) 3001 0 [upto p.1.toNat] [0]=(Et p,Aje p,true)
 rw [←h]
 rfl
theorem Bd9 {p:PP} (hw:Fk p=true) {s:List Int} (hs:Ms s):(Ni p).2.2.2.1 (Ke s)=if s∈Et p then some (((Et p).idxOf s:Nat):Int) else none:=by
 show Ob (Ni p).2.1 (Ke s)=_
 rw [(Bda hw).1,An6 hs fun y hy=>Bdu (Oz hw).1 hy]
theorem Bf2 (e:Option XP) (s:List Int) (h:(∃e':XP,e=some e'∧Bfp e')∧short s):fnW tab (look [(150,No),(111,Dp)]) Afz Try.f101 (e,s,()) (fun (z:Int×Bool×Unit)=>z=Bbn e s):=by
 obtain ⟨⟨e',rfl,h1,h2⟩,hs⟩:=h
 have hv:=(Oz h1).1
 refine Eq.mp (Bfh (some e') s _) ⟨e',rfl,_,if_pos hs,Br.of (fun hb=>?_) fun hb=>⟨e',rfl,_,if_pos hs,?_⟩⟩
 ·have hb:=Cc hb
  show (0,false,())=Asv e'.1 s
  unfold Asv
  rw [if_neg fun hm=>hb (Bcd hv hm)]
 ·have hb:Dr e'.1.1 s=true:=by simpa using hb
  have hp:=Bb4 (valid hv) hb
  dsimp only
  have e3:e'.2.2.2.1=(Ni e'.1).2.2.2.1:=by rw [←h2]
  rw [e3,Bd9 h1 (Bdr hp)]
  show _=Asv e'.1 s
  unfold Asv
  split<;>rfl
theorem Ax1:Sound Try.prog 101 Afz:=
 Sound.mkS Bi (Ad Acy (Ad Zv Ao)) mixed Try.func101 (by kernel_rfl) (by kernel_rfl) fun x h=>Bf2 x.1 x.2.1 h
theorem Aza (p:PP) (s:List Int) (h:Dk p∧short s):fnW tab (look [(61,Lx),(101,Afz)]) Qk Try.f54 (p,s,()) (fun (z:Option XP×Int×Bool×Unit)=>z=Qh p s):=by
 unfold Qh
 by_cases hw:Fk p=true
 ·rw [if_pos hw]
  have he:Lx.fn ((p.1,p.2.1,p.2.2.1,()),())=some (some (Ni p),true,()):=(if_pos h.1).trans (congrArg some (if_pos hw))
  refine Eq.mp (Aob p s _) ⟨_,he,fun hb=>by simp at hb,fun _=>⟨_,if_pos ⟨⟨Ni p,rfl,hw,rfl⟩,h.2⟩,?_⟩⟩
  rfl
 ·rw [if_neg hw]
  have he:Lx.fn ((p.1,p.2.1,p.2.2.1,()),())=some (none,false,()):=(if_pos h.1).trans (congrArg some (if_neg hw))
  exact Eq.mp (Aob p s _) ⟨_,he,fun _=>rfl,fun hb=>by simp at hb⟩
theorem Alz:Sound Try.prog 54 Qk:=
 Sound.mkS Bi (Ad Am0 (Ad Ax1 Ao)) mixed Try.func54 (by kernel_rfl) (by kernel_rfl) fun x h=>Aza x.1 x.2.1 h
theorem Bbh {s goal:List Int} (h:Hp s.length goal) {j:Nat} (hj:j<goal.length):0≤goal[j]∧goal[j]<s.length:=h _ (List.getElem_mem hj)
theorem Bf5 (x:Int) (s:List Int) (h:short s∧0≤x∧x<(s.length:Int)):fnW tab (look []) Ag0 Try.f104 (x,s,()) (fun (z:Bool)=>z=!decide (Gk s x=x)):=by
 obtain ⟨_,h1,h2⟩:=h
 obtain ⟨xn,rfl⟩:=Int.eq_ofNat_of_zero_le h1
 refine Eq.mp (Bfk (xn:Int) s _) ⟨_,Aj (by omega),?_⟩
 have e:Gk s (xn:Int)=s[xn]'(by omega):=by unfold Gk;rw [Int.toNat_natCast,Axz]
 rw [e,Bool.eq_iff_iff]
 simp
theorem Ax3:Sound Try.prog 104 Ag0:=
 Sound.mkS Bi Ao mixed Try.func104 (by kernel_rfl) (by kernel_rfl) fun x h=>Bf5 x.1 x.2.1 h
theorem Bg5 (xs:List Int) (c:List Int×Unit) (h:short xs∧short c.1∧Hp (List.length c.1) xs):fnW tab (look [(104,Ag0)]) Ao0 Try.f144 (xs,c,()) (fun (z:Int)=>z=Cd (fun y=>!decide (Gk c.1 y=y)) xs 0):=by
 obtain ⟨h,h4,h5⟩:=h
 unfold short at h
 refine Eq.mp (Bgp xs c _) ?_
 refine Am xs.length (fun v=>v.1) (fun j _=>Cd (fun y=>!decide (Gk c.1 y=y)) (xs.drop j) j=Cd (fun y=>!decide (Gk c.1 y=y)) xs 0) rfl (by simp) ?_
 rintro j ⟨i,⟨⟩⟩ K hj hi hR hK
 dsimp only at hi⊢
 subst hi
 refine Br.dec (fun hl=>?_) fun hl=>?_
 ·have hl:j<xs.length:=by omega
  rw [List.drop_eq_getElem_cons hl] at hR
  simp only [Cd] at hR
  refine ⟨_,Aj hl,_,if_pos ⟨h4,Bbh h5 hl⟩,⟨fun he=>?_,fun he=>?_⟩⟩
  ·have he:(!decide (Gk c.1 xs[j]=xs[j]))=true:=he
   rw [if_pos he] at hR
   exact hR
  ·have he:(!decide (Gk c.1 xs[j]=xs[j]))=false:=he
   rw [if_neg (by rw [he];decide)] at hR
   rw [Al (by omega)]
   exact hK hl _ rfl (by push_cast;exact hR)
 ·have:j=xs.length:=by omega
  subst this
  rw [List.drop_length] at hR
  exact hR
theorem Ba3:Sound Try.prog 144 Ao0:=
 Sound.mkS Bi (Ad Ax3 Ao) mixed Try.func144 (by kernel_rfl) (by kernel_rfl) fun x h=>Bg5 x.1 x.2.1 h
theorem Bfy (xs:List Int) (c:List Int×Unit) (h:short xs∧short c.1∧Hp (List.length c.1) xs):fnW tab (look [(144,Ao0)]) Ant Try.f103 (xs,c,()) (fun (z:Bool)=>z=List.any xs (fun y=>!decide (Gk c.1 y=y))):=by
 refine Eq.mp (Bgi xs c _) ⟨_,if_pos h,?_⟩
 rw [Bool.eq_iff_iff,decide_eq_true_iff]
 exact Oo _ xs 0 (Int.le_refl 0)
theorem Azx:Sound Try.prog 103 Ant:=
 Sound.mkS Bi (Ad Ba3 Ao) mixed Try.func103 (by kernel_rfl) (by kernel_rfl) fun x h=>Bfy x.1 x.2.1 h
theorem Atl (g s:List Int) (h:short g∧short s∧Hp s.length g):fnW tab (look [(103,Ant)]) Eo Try.f56 (g,s,()) (fun (z:Bool)=>z=Uk g s):=by
 refine Eq.mp (Auo g s _) ⟨_,if_pos h,?_⟩
 dsimp only
 unfold Uk
 rw [List.any_eq_not_all_not,Bool.not_not]
 simp only [Bool.not_not]
theorem Aht:Sound Try.prog 56 Eo:=
 Sound.mkS Bi (Ad Azx Ao) mixed Try.func56 (by kernel_rfl) (by kernel_rfl) fun x h=>Atl x.1 x.2.1 h
theorem Ams {p:PP} {s:List Int} :Lb p s=true↔Fk p=true∧s∈Et p:=by
 unfold Lb;rw [Bool.and_eq_true,decide_eq_true_iff]
theorem Avj {p:PP} {s:List Int} :(Qh p s).2.2.1=Lb p s:=by
 unfold Qh Asv Lb
 by_cases hw:Fk p=true
 ·rw [if_pos hw,hw,Bool.true_and]
  by_cases hm:s∈Et p
  ·rw [if_pos hm,decide_eq_true hm]
  ·rw [if_neg hm,decide_eq_false hm]
 ·rw [if_neg hw,Bool.not_eq_true _|>.mp hw,Bool.false_and]
theorem Awf (p:PP) (h:Dk p):fnW tab (look [(99,Dw),(106,Bu),(105,Cw)]) Nr Try.f57 (p,()) (fun (z:SS×Bool×Unit)=>z=Vt p):=by
 refine Eq.mp (Axh p _) ⟨_,if_pos h,?_⟩
 show Br (!Ay p) _ _
 unfold Vt
 by_cases hv:Ay p=true
 ·rw [if_pos hv,hv]
  refine ⟨fun hb=>by simp at hb,fun _=>?_⟩
  have hn:=(valid hv).n
  have hid:Bu.fn (p.1,())=some (upto p.1.toNat):=if_pos ⟨by show 0≤p.1;omega,by show p.1≤20;omega⟩
  have hup: ∀y∈upto p.1.toNat,0≤y∧y<p.1:=fun y hy=>by have:=Ix.1 hy;omega
  have hfr:Cw.fn ((p.1,p.2.1,p.2.2.1,()),upto p.1.toNat,())=some (Ha p.2.2.1 (upto p.1.toNat)):=if_pos ⟨hv,by show (upto p.1.toNat).length≤20;rw [Ru];omega,hup⟩
  have hz:(((Ha p.2.2.1 (upto p.1.toNat)).1,(Ha p.2.2.1 (upto p.1.toNat)).2.1,(Ha p.2.2.1 (upto p.1.toNat)).2.2.1,(Ha p.2.2.1 (upto p.1.toNat)).2.2.2.1,()),(Ha p.2.2.1 (upto p.1.toNat)).2.2.2.1,())=(Ha p.2.2.1 (upto p.1.toNat),Fk p,()):=by
   unfold Fk
   rw [hv,Bool.true_and]
   rfl
  repeat' (first|exact hz|refine ⟨_,hid,?_⟩|refine ⟨_,hfr,?_⟩|refine ⟨?_,?_⟩)
 ·rw [if_neg hv]
  refine ⟨fun _=>rfl,fun hb=>?_⟩
  exact absurd (by simpa using hb) hv
theorem Akl:Sound Try.prog 57 Nr:=
 Sound.mkS Bi (Ad Nt (Ad Akg (Ad Au4 Ao))) mixed Try.func57 (by kernel_rfl) (by kernel_rfl) fun x h=>Awf x.1 h
theorem Azc (p:PP) (f:SS) (s:List Int) (h:Dk p∧short s∧Ay p=true∧f=Ha p.2.2.1 (upto p.1.toNat)):fnW tab (look [(118,Qo),(69,Mn)]) Ql Try.f68 (p,f,s,()) (fun (z:Bool)=>z=decide (s∈Et p)):=by
 obtain ⟨hp,hs,hv,rfl⟩:=h
 refine Eq.mp (Bah p _ s _) ⟨_,if_pos ⟨hp,hs⟩,?_⟩
 show Br (Ay p&&Dr p.1 s) _ _
 rw [hv,Bool.true_and]
 refine Br.of (fun hb=>?_) fun hb=>?_
 ·have hpm:=Bb4 (valid hv) hb
  refine ⟨_,if_pos (by show Cr s.length (Et p) (Rr (Et p));rw [hpm.1];exact (Bce hv).ok),?_⟩
  show decide (Abe (Et p) s≥0)=_
  unfold Abe
  split
  ·rename_i hm
   rw [decide_eq_true hm]
   exact decide_eq_true (by omega)
  ·rename_i hm
   rw [decide_eq_false hm]
   rfl
 ·exact (decide_eq_false fun hm=>by rw [Bcd hv hm] at hb;cases hb).symm
theorem Am1:Sound Try.prog 68 Ql:=
 Sound.mkS Bi (Ad Aer (Ad Aep Ao)) mixed Try.func68 (by kernel_rfl) (by kernel_rfl) fun x h=>Azc x.1 x.2.1 x.2.2.1 h
theorem Apr (p:PP) (s:List Int) (h:Dk p∧short s):fnW tab (look [(57,Nr),(68,Ql)]) Kb Try.f52 (p,s,()) (fun (z:Bool)=>z=Lb p s):=by
 refine Eq.mp (Ar1 p s _) ⟨_,if_pos h.1,?_⟩
 dsimp only
 unfold Lb Vt
 by_cases hv:Ay p=true
 ·rw [if_pos hv]
  show Br (Fk p) _ _
  refine Br.of (fun hw=>?_) fun hw=>by rw [hw,Bool.false_and]
  rw [hw,Bool.true_and]
  exact ⟨_,if_pos ⟨h.1,h.2,hv,rfl⟩,rfl⟩
 ·rw [if_neg hv]
  refine ⟨fun hb=>by simp at hb,fun _=>?_⟩
  have:Fk p=false:=by unfold Fk;rw [Bool.not_eq_true _|>.mp hv,Bool.false_and]
  rw [this,Bool.false_and]
theorem Ag6:Sound Try.prog 52 Kb:=
 Sound.mkS Bi (Ad Akl (Ad Am1 Ao)) mixed Try.func52 (by kernel_rfl) (by kernel_rfl) fun x h=>Apr x.1 x.2.1 h
theorem Atj (g s:List Int) (h:short g∧short s∧Hp s.length g):fnW tab (look []) Eo Try.f53 (g,s,()) (fun (z:Bool)=>z=Uk g s):=by
 obtain ⟨hg,hs,hr⟩:=h
 unfold short at hg
 refine Eq.mp (Aum g s _) ?_
 refine Am g.length (fun v=>v.1) (fun j _=>Uk (g.drop j) s=Uk g s) rfl (by simp) ?_
 rintro j ⟨i,⟨⟩⟩ K hj hi hR hK
 dsimp only at hi⊢
 subst hi
 refine Br.dec (fun hl=>?_) fun hl=>?_
 ·have hl:j<g.length:=by omega
  have h1:=Bbh hr hl
  obtain ⟨xn,hx⟩:=Int.eq_ofNat_of_zero_le h1.1
  rw [List.drop_eq_getElem_cons hl] at hR
  unfold Uk at hR
  rw [List.all_cons] at hR
  have e:Gk s g[j]=s[xn]'(by omega):=by unfold Gk;rw [hx,Int.toNat_natCast,Axz]
  refine ⟨_,Aj hl,s[xn]'(by omega),by rw [hx];exact Aj (by omega),_,Aj hl,Br.of (fun hb=>?_) fun hb=>?_⟩
  ·have hb:s[xn]'(by omega)≠g[j]:=by simpa using hb
   rw [e,decide_eq_false hb,Bool.false_and] at hR
   exact hR
  ·have hb:s[xn]'(by omega)=g[j]:=by simpa using hb
   rw [e,decide_eq_true hb,Bool.true_and] at hR
   rw [Al (by omega)]
   exact hK hl _ rfl hR
 ·have:j=g.length:=by omega
  subst this
  rw [List.drop_length] at hR
  exact hR
theorem Ahr:Sound Try.prog 53 Eo:=
 Sound.mkS Bi Ao mixed Try.func53 (by kernel_rfl) (by kernel_rfl) fun x h=>Atj x.1 x.2.1 h
theorem Ao9 {xs:List (List Int)} {room:Int} (hr:roomy room) (h: ¬Ej xs room<0):(Gh xs:Int)≤room-Ej xs room∧roomy (Ej xs room):=by
 have e2:=Au9 h
 have:=Asw hr h
 exact ⟨by omega,this⟩
theorem Xx {b:Bool} (h:(!b)=true):b=false:=by cases b<;>simp_all
theorem Agz {p:PP} {gs:List (List Int)} (h:Ik p gs=true) {j:Nat} (hj:j<gs.length):Em p.1 gs[j]=true:=by
 obtain ⟨_,_,h3,_⟩:=Er.1 h
 exact (h3 j hj hj).1
end Go.Proofs.Ytebabhocakedaaa

namespace Go.Proofs.Ytebabhocakedaaa
open Go.RowKit
def Dd (g:List (List Int)) (s w:List Int):List Int:=w.foldl (fun q l=>Aa q (Ae g l)) s
noncomputable abbrev Nn:Spec:=mkS (.pair tI (.pair tLL (.pair tL .unit))) tL false true (fun x=> ∃p:PP,Ay p=true∧p.1=x.1∧p.2.2.1=x.2.1∧Cu (List.length x.2.1:Nat) x.2.2.1=true) (fun x=>Dd x.2.1 (upto x.1.toNat) x.2.2.1)
noncomputable abbrev Iy:Spec:=mkS (.pair Ct (.pair tL (.pair tL .unit))) tL false false (fun x=>Ay x.1=true∧Pm x.1.1.toNat x.2.1∧Cu (List.length x.1.2.2.1:Nat) x.2.2.1=true) (fun x=>Dd x.1.2.2.1 x.2.1 x.2.2.1)
def Yz (g:List (List Int)):List (List Int)→List (List Int)→List Int→Bool
 |goal::gs,w::ws,s=>Cu (List.length g:Nat) w&&(Uk goal (Dd g s w)&&Yz g gs ws (Dd g s w))
 |_,_,_=>true
noncomputable def Qi (p:PP) (goals:List (List Int)) (s:List Int) (words:List (List Int)):Bool:=
 Lb p s&&Ik p goals&&decide (words.length=goals.length)&&Yz p.2.2.1 goals words s
noncomputable abbrev Gt:Spec:=mkS (.pair Ct (.pair tLL (.pair tL (.pair tLL .unit)))) .bool false true (fun x=>Dk x.1∧Cx x.2.1∧short x.2.2.1∧Cx x.2.2.2.1) (fun x=>Qi x.1 x.2.1 x.2.2.1 x.2.2.2.1)
noncomputable abbrev Wl:Spec:=mkS (.pair Ct (.pair tLL (.pair tL (.pair tLL .unit)))) .bool false true (fun x=>Dk x.1∧Cx x.2.1∧short x.2.2.1∧Cx x.2.2.2.1) (fun _=>true)
theorem Axc (n:Int) (g:List (List Int)) (w:List Int) (P:List Int→Prop):(∃(y4:List Int),
 Hc.fn (n,())=some y4∧
 Bv
 (fun (v5:List Int×Int×PUnit) (k6:List Int×Int×PUnit→Prop)=>
 Br (decide (v5.2.1<(↑w.length:Int)))
 (∃(y7:Int),
 idx w v5.2.1=some y7∧
 ∃(y8:List Int),Ir.fn (g,y7,())=some y8∧ ∃(y9:List Int),Gs.fn (v5.1,y8,())=some y9∧k6 (y9,IntKind.i64.wrap (v5.2.1+(1:Int)),()))
 (P v5.1))
 (y4,(0:Int),PUnit.unit))=fnW tab (look [(110,Hc),(131,Gs),(155,Ir)]) Nn Try.f132 (n,g,w,()) P:=by kernel_rfl
theorem Bcu (p:Int×ByteArray×List (List Int)×Unit) (s w:List Int) (P:List Int→Prop):(∃(y4:List Int),Nn.fn (p.1,p.2.2.1,w,())=some y4∧ ∃(y5:List Int),Gs.fn (s,y4,())=some y5∧P y5)=fnW tab (look [(131,Gs),(132,Nn)]) Iy Try.f82 (p,s,w,()) P:=by kernel_rfl
theorem Baf (p:Int×ByteArray×List (List Int)×Unit) (s w:List Int) (P:List Int→Prop):(∃(y4:List Int),
 Ip.fn (s,())=some y4∧
 Bv
 (fun (v5:List Int×Int×Int×ByteArray×List (List Int)×PUnit) (k6:List Int×Int×Int×ByteArray×List (List Int)×PUnit→Prop)=>
 Br (decide (v5.2.1<(↑w.length:Int)))
 (∃(y7:Int),
 idx w v5.2.1=some y7∧
 ∃(y8:List Int),
 Mm.fn ((v5.2.2.1,v5.2.2.2.1,v5.2.2.2.2.1,()),v5.1,y7,())=some y8∧
 k6 (y8,IntKind.i64.wrap (v5.2.1+(1:Int)),v5.2.2.1,v5.2.2.2.1,v5.2.2.2.2.1,()))
 (P v5.1))
 (y4,(0:Int),p.1,p.2.1,p.2.2.1,PUnit.unit))=fnW tab (look [(120,Ip),(129,Mm)]) Iy Try.f80 (p,s,w,()) P:=by kernel_rfl
theorem Amd (p:Int×ByteArray×List (List Int)×Unit) (gs:List (List Int)) (s:List Int) (ws:List (List Int)) (P:Bool→Prop):(∃(y5:Option ((Int×ByteArray×List (List Int)×PUnit)×List (List Int)×List Int×(ByteArray→Option Int)×List Int×List Int×List (List Int)×PUnit)×Int×Bool×PUnit),
 Qk.fn ((p.1,p.2.1,p.2.2.1,()),s,())=some y5∧
 Br (!y5.2.2.1) (P false)
 (∃(y6:Bool),
 Fo.fn ((p.1,p.2.1,p.2.2.1,()),gs,())=some y6∧
 Br (!y6) (P false)
 (Br ((↑ws.length:Int) !=(↑gs.length:Int)) (P false)
 (Bv
 (fun (v7:List Int×Int×Int×ByteArray×List (List Int)×PUnit) (k8:List Int×Int×Int×ByteArray×List (List Int)×PUnit→Prop)=>
 Br (decide (v7.2.1<(↑ws.length:Int)))
 (∃(y9:List Int),
 idx ws v7.2.1=some y9∧
 ∃(y10:Bool),
 Qp.fn ((v7.2.2.1,v7.2.2.2.1,v7.2.2.2.2.1,()),y9,())=some y10∧
 Br (!y10) (P false)
 (∃(y11:List Int),
 Iy.fn ((v7.2.2.1,v7.2.2.2.1,v7.2.2.2.2.1,()),v7.1,y9,())=some y11∧
 ∃(y12:List Int),
 idx gs v7.2.1=some y12∧
 ∃(y13:Bool),
 Eo.fn (y12,y11,())=some y13∧
 Br (!y13) (P false) (k8 (y11,IntKind.i64.wrap (v7.2.1+(1:Int)),v7.2.2.1,v7.2.2.2.1,v7.2.2.2.2.1,()))))
 (P true))
 (s,(0:Int),p.1,p.2.1,p.2.2.1,PUnit.unit)))))=fnW tab (look [(54,Qk),(78,Fo),(81,Qp),(82,Iy),(56,Eo)]) Gt Try.f39 (p,gs,s,ws,()) P:=by kernel_rfl
theorem Amh (p:Int×ByteArray×List (List Int)×Unit) (gs:List (List Int)) (s:List Int) (ws:List (List Int)) (P:Bool→Prop):(∃(y5:Bool),
 Fo.fn ((p.1,p.2.1,p.2.2.1,()),gs,())=some y5∧
 Br (!y5) (P false)
 (∃(y6:Bool),
 Kb.fn ((p.1,p.2.1,p.2.2.1,()),s,())=some y6∧
 Br (!y6) (P false)
 (Br ((↑ws.length:Int) !=(↑gs.length:Int)) (P false)
 (Bv
 (fun (v7:List Int×Int×Int×ByteArray×List (List Int)×PUnit) (k8:List Int×Int×Int×ByteArray×List (List Int)×PUnit→Prop)=>
 Br (decide (v7.2.1<(↑ws.length:Int)))
 (∃(y9:List Int),
 idx ws v7.2.1=some y9∧
 ∃(y10:Bool),
 Eu.fn ((↑v7.2.2.2.2.1.length:Int),y9,())=some y10∧
 Br (!y10) (P false)
 (∃(y11:List Int),
 idx ws v7.2.1=some y11∧
 ∃(y12:List Int),
 Iy.fn ((v7.2.2.1,v7.2.2.2.1,v7.2.2.2.2.1,()),v7.1,y11,())=some y12∧
 ∃(y13:List Int),
 idx gs v7.2.1=some y13∧
 ∃(y14:Bool),
 Eo.fn (y13,y12,())=some y14∧
 Br (!y14) (P false) (k8 (y12,IntKind.i64.wrap (v7.2.1+(1:Int)),v7.2.2.1,v7.2.2.2.1,v7.2.2.2.2.1,()))))
 (P true))
 (s,(0:Int),p.1,p.2.1,p.2.2.1,PUnit.unit)))))=fnW tab (look [(77,Fo),(52,Kb),(79,Eu),(80,Iy),(53,Eo)]) Gt Try.f38 (p,gs,s,ws,()) P:=by kernel_rfl
theorem Ar0 (p:Int×ByteArray×List (List Int)×Unit) (a:List (List Int)) (b:List Int) (c:List (List Int)) (P:Bool→Prop):(Br (decide ((↑b.length:Int)>(1048576:Int))) (P true)
 (∃(y5:Int),
 Ao3.fn ((p.1,p.2.1,p.2.2.1,()),(1048576:Int),())=some y5∧
 Br (decide (y5<(0:Int))) (P true)
 (∃(y6:Int),
 Ti.fn (a,y5,())=some y6∧
 Br (decide (y6<(0:Int))) (P true)
 (∃(y7:Int),
 Ti.fn (c,y6,())=some y7∧
 Br (decide (y7<(0:Int))) (P true)
 (∃(y8:Int×ByteArray×List (List Int)×PUnit),
 Ah8.fn ((p.1,p.2.1,p.2.2.1,()),())=some y8∧
 ∃(y9:List (List Int)),
 Mo.fn (a,())=some y9∧
 ∃(y10:List Int),
 Zq.fn (b,())=some y10∧
 ∃(y11:List (List Int)),
 Mo.fn (c,())=some y11∧
 ∃(y12:Bool),
 Gt.fn (y8,y9,y10,y11,())=some y12∧
 ∃(y13:Int×ByteArray×List (List Int)×PUnit),
 Ah8.fn ((p.1,p.2.1,p.2.2.1,()),())=some y13∧
 ∃(y14:List (List Int)),
 Mo.fn (a,())=some y14∧
 ∃(y15:List Int),
 Zq.fn (b,())=some y15∧
 ∃(y16:List (List Int)),
 Mo.fn (c,())=some y16∧
 ∃(y17:Bool),
 Gt.fn ((y13.1,y13.2.1,y13.2.2.1,()),y14,y15,y16,())=some y17∧
 Br (!y17==y12) (P false)
 (∃(y18:Int×ByteArray×List (List Int)×PUnit),
 Ah8.fn ((p.1,p.2.1,p.2.2.1,()),())=some y18∧
 ∃(y19:Bool),
 Anv.fn ((y13.1,y13.2.1,y13.2.2.1,()),y18,())=some y19∧
 Br (!y19) (P false)
 (∃(y20:List (List Int)),
 Mo.fn (a,())=some y20∧
 ∃(y21:Bool),
 Th.fn (y14,y20,())=some y21∧
 Br (!y21) (P false)
 (∃(y22:List Int),
 Zq.fn (b,())=some y22∧
 ∃(y23:Bool),
 Dj.fn (y15,y22,())=some y23∧
 Br (!y23) (P false)
 (∃(y24:List (List Int)),
 Mo.fn (c,())=some y24∧
 ∃(y25:Bool),Th.fn (y16,y24,())=some y25∧Br (!y25) (P false) (P true))))))))))=fnW tab (look [(15,Ao3),(33,Ti),(38,Gt),(39,Gt),(17,Ah8),(35,Mo),(18,Zq),(20,Anv),(37,Th),(21,Dj)]) Wl Try.f9 (p,a,b,c,()) P:=by kernel_rfl
theorem Afj {p:PP} (hV:Valid p) {l:Int} (hl:Ef (List.length p.2.2.1) l):Pm p.1.toNat (Ae p.2.2.1 l):=by
 have hn:=hV.n
 obtain ⟨k,hk,hkl⟩:=Mf hl
 have hp:Pm p.1.toNat (p.2.2.1[k]):=⟨by have:=hV.len _ (List.getElem_mem hk);omega,Acq (hV.perm _ (List.getElem_mem hk))⟩
 rcases hkl with rfl|rfl
 ·rw [Nh hk];exact hp
 ·rw [Ng hk];exact hp.inv
theorem Tn {p:PP} (hV:Valid p): ∀(w s:List Int),(∀l∈w,Ef (List.length p.2.2.1) l)→Pm p.1.toNat s→Pm p.1.toNat (Dd p.2.2.1 s w)
 | [],s,_,hs=>hs
 |l::w,s,hl,hs=>by
  have h1:=Afj hV (hl l (by simp))
  exact Tn hV w _ (fun l' h=>hl l' (List.mem_cons_of_mem _ h)) (hs.comp h1)
theorem Agg {p:PP} (hV:Valid p) {s:List Int} (hs:Pm p.1.toNat s): ∀(w q:List Int),(∀l∈w,Ef (List.length p.2.2.1) l)→Pm p.1.toNat q→Aa s (Dd p.2.2.1 q w)=Dd p.2.2.1 (Aa s q) w
 | [],q,_,_=>rfl
 |l::w,q,hl,hq=>by
  have h1:=Afj hV (hl l (by simp))
  have h2:=Agg hV hs w _ (fun l' h=>hl l' (List.mem_cons_of_mem _ h)) (hq.comp h1)
  show Aa s (Dd p.2.2.1 (Aa q (Ae p.2.2.1 l)) w)=Dd p.2.2.1 (Aa (Aa s q) (Ae p.2.2.1 l)) w
  rw [h2,Dc hs hq h1]
theorem Aii {g:List (List Int)} {s w:List Int} {j:Nat} (h:j<w.length):Dd g s (w.take (j+1))=Aa (Dd g s (w.take j)) (Ae g w[j]):=by
 unfold Dd
 rw [List.take_add_one,List.getElem?_eq_getElem h,Option.toList_some,List.foldl_append]
 rfl
theorem Awi {n:Nat} {q:List Int} (h:Pm n q):q.length≤20:=by have:=h.1;have:=h.n2;omega
theorem Atn {n:Nat} {p q:List Int} (hp:Pm n p) (hq:Pm n q):Hp q.length p:=by rw [hq.1];exact hp.row
theorem Awa (n:Int) (g:List (List Int)) (w:List Int) (h: ∃p:PP,Ay p=true∧p.1=n∧p.2.2.1=g∧Cu (List.length g:Nat) w=true):fnW tab (look [(110,Hc),(131,Gs),(155,Ir)]) Nn Try.f132 (n,g,w,()) (fun (z:List Int)=>z=Dd g (upto n.toNat) w):=by
 obtain ⟨p,hv,rfl,rfl,hw⟩:=h
 have hV:=valid hv
 have hn:=hV.n
 have hf:=hV.few
 obtain ⟨w1,w2⟩:=Ky hw
 refine Eq.mp (Axc p.1 p.2.2.1 w _) ⟨upto p.1.toNat,if_pos ⟨by show 0≤p.1;omega,by show p.1≤20;omega⟩,?_⟩
 refine Am w.length (fun v=>v.2.1) (fun j v=>v.1=Dd p.2.2.1 (upto p.1.toNat) (w.take j)) rfl rfl ?_
 rintro j ⟨q,i,⟨⟩⟩ K hj hi hR hK
 dsimp only at hi hR⊢
 subst hi hR
 have hq:=Tn hV (w.take j) _ (fun l hl=>w2 l (List.mem_of_mem_take hl)) (Pm.id (n:=p.1.toNat) (by omega) (by omega))
 refine Br.dec (fun hl=>?_) fun hl=>?_
 ·have hl:j<w.length:=by omega
  have hlet:=w2 _ (List.getElem_mem hl)
  have hlp:=Afj hV hlet
  refine ⟨_,Aj hl,_,if_pos ⟨hlet,hf.2,hV.perm⟩,_,if_pos ⟨Awi hq,Atn hq hlp⟩,?_⟩
  rw [Al (by omega)]
  exact hK hl _ rfl (Aii hl).symm
 ·have:j=w.length:=by omega
  subst this
  rw [List.take_length]
theorem Akf:Sound Try.prog 132 Nn:=
 Sound.mkS Bi (Ad Pg (Ad Hd (Ad Zu Ao))) mixed Try.func132 (by kernel_rfl) (by kernel_rfl) fun x h=>Awa x.1 x.2.1 x.2.2.1 h
theorem Bbw (p:PP) (s w:List Int) (h:Ay p=true∧Pm p.1.toNat s∧Cu (List.length p.2.2.1:Nat) w=true):fnW tab (look [(131,Gs),(132,Nn)]) Iy Try.f82 (p,s,w,()) (fun (z:List Int)=>z=Dd p.2.2.1 s w):=by
 obtain ⟨hv,hs,hw⟩:=h
 have hV:=valid hv
 have hn:=hV.n
 obtain ⟨w1,w2⟩:=Ky hw
 have hid:=Pm.id (n:=p.1.toNat) (by omega) (by omega)
 have hq:=Tn hV w _ w2 hid
 refine Eq.mp (Bcu p s w _) ⟨_,if_pos ⟨p,hv,rfl,rfl,hw⟩,_,if_pos ⟨Awi hs,Atn hs hq⟩,?_⟩
 show Aa s (Dd p.2.2.1 (upto p.1.toNat) w)=_
 rw [Agg hV hs w _ w2 hid,comp_id hs]
theorem Aqe:Sound Try.prog 82 Iy:=
 Sound.mkS Bi (Ad Hd (Ad Akf Ao)) mixed Try.func82 (by kernel_rfl) (by kernel_rfl) fun x h=>Bbw x.1 x.2.1 x.2.2.1 h
theorem Bc2 {p:PP} (hV:Valid p) {q:List Int} (h:Pm p.1.toNat q): ∀y∈q,0≤y∧y<p.1:=fun y hy=>by
 have:=h.row y hy
 have:=hV.n
 omega
theorem Az9 (p:PP) (s w:List Int) (h:Ay p=true∧Pm p.1.toNat s∧Cu (List.length p.2.2.1:Nat) w=true):fnW tab (look [(120,Ip),(129,Mm)]) Iy Try.f80 (p,s,w,()) (fun (z:List Int)=>z=Dd p.2.2.1 s w):=by
 obtain ⟨hv,hs,hw⟩:=h
 have hV:=valid hv
 obtain ⟨w1,w2⟩:=Ky hw
 refine Eq.mp (Baf p s w _) ⟨_,if_pos (Ajx hs),?_⟩
 refine Am w.length (fun v=>v.2.1) (fun j v=>v=(Dd p.2.2.1 s (w.take j),(j:Int),p.1,p.2.1,p.2.2.1,())) rfl rfl ?_
 rintro j v K hj hi hR hK
 subst hR
 dsimp only
 have hq:=Tn hV (w.take j) _ (fun l hl=>w2 l (List.mem_of_mem_take hl)) hs
 refine Br.dec (fun hl=>?_) fun hl=>?_
 ·have hl:j<w.length:=by omega
  have hlet:=w2 _ (List.getElem_mem hl)
  refine ⟨_,Aj hl,_,if_pos ⟨hv,Awi hq,Bc2 hV hq,hlet⟩,?_⟩
  rw [Al (by omega)]
  refine hK hl _ rfl ?_
  rw [Aii hl]
 ·have:j=w.length:=by omega
  subst this
  rw [List.take_length]
theorem Aly:Sound Try.prog 80 Iy:=
 Sound.mkS Bi (Ad Zs (Ad Aem Ao)) mixed Try.func80 (by kernel_rfl) (by kernel_rfl) fun x h=>Az9 x.1 x.2.1 x.2.2.1 h
theorem Anb {g gs ws:List (List Int)} {j:Nat} (h1:j<gs.length) (h2:j<ws.length) {s:List Int} :Yz g (gs.drop j) (ws.drop j) s=(Cu (List.length g:Nat) ws[j]&&(Uk gs[j] (Dd g s ws[j])&&Yz g (gs.drop (j+1)) (ws.drop (j+1)) (Dd g s ws[j]))):=by
 rw [List.drop_eq_getElem_cons h1,List.drop_eq_getElem_cons h2]
 rfl
theorem Ay0 {p:PP} (hv:Ay p=true) {g s:List Int} (hs:Pm p.1.toNat s) (hg:Em p.1 g=true):Hp s.length g:=by
 have h1:=hs.1
 have hn:=(valid hv).n
 have h2:=Aud (p:=p) (t:=g) (Ahd.2 ⟨hv,hg⟩)
 intro y hy
 have:=h2.2 y hy
 omega
theorem All (p:PP) (gs:List (List Int)) (s:List Int) (ws:List (List Int)) (h:Dk p∧Cx gs∧short s∧Cx ws):fnW tab (look [(54,Qk),(78,Fo),(81,Qp),(82,Iy),(56,Eo)]) Gt Try.f39 (p,gs,s,ws,()) (fun (z:Bool)=>z=Qi p gs s ws):=by
 obtain ⟨hp,hg,hs,hw⟩:=h
 refine Eq.mp (Amd p gs s ws _) ⟨_,if_pos ⟨hp,hs⟩,?_⟩
 rw [show (Qh (p.1,p.2.1,p.2.2.1,()) s).2.2.1=Lb p s from Avj]
 unfold Qi
 refine Br.of (fun hf=>?_) fun hf=>?_
 ·rw [Xx hf,Bool.false_and,Bool.false_and,Bool.false_and]
 have hf:Lb p s=true:=by simpa using hf
 rw [hf,Bool.true_and]
 obtain ⟨hwh,hst⟩:=Ams.1 hf
 have hv:=(Oz hwh).1
 have hV:=valid hv
 refine ⟨_,if_pos ⟨hp,hg⟩,Br.of (fun hm=>?_) fun hm=>?_⟩
 ·have hm:Ik p gs=false:=Xx hm
  rw [hm,Bool.false_and,Bool.false_and]
 have hm:Ik p gs=true:=by simpa using hm
 rw [hm,Bool.true_and]
 refine ⟨fun hl=>?_,fun hl=>?_⟩
 ·have hl:ws.length≠gs.length:=by have:(ws.length:Int)≠gs.length:=by simpa using hl
                                  omega
  rw [decide_eq_false hl,Bool.false_and]
 have hl:ws.length=gs.length:=by have:(ws.length:Int)=gs.length:=by simpa using hl
                                 omega
 rw [decide_eq_true hl,Bool.true_and]
 have hlen:=hg.1
 refine Am ws.length (fun v=>v.2.1) (fun j v=> ∃x,v=(x,(j:Int),p.1,p.2.1,p.2.2.1,())∧Pm p.1.toNat x∧Yz p.2.2.1 (gs.drop j) (ws.drop j) x=Yz p.2.2.1 gs ws s) rfl ⟨s,rfl,Bcf hv hst,rfl⟩ ?_
 rintro j v K hj hi ⟨x,rfl,hx,hR⟩ hK
 dsimp only
 refine Br.dec (fun hl2=>?_) fun hl2=>?_
 ·have hjw:j<ws.length:=by omega
  have hjg:j<gs.length:=by omega
  rw [Anb hjg hjw] at hR
  refine ⟨_,Aj hjw,_,if_pos ⟨hp,hw.2 _ (List.getElem_mem hjw)⟩,Br.of (fun hb=>?_) fun hb=>?_⟩
  ·have hb:Cu (List.length p.2.2.1:Nat) ws[j]=false:=Xx hb
   rw [hb,Bool.false_and] at hR
   exact hR
  have hb:Cu (List.length p.2.2.1:Nat) ws[j]=true:=by simpa using hb
  rw [hb,Bool.true_and] at hR
  have hx':=Tn hV ws[j] x (Ky hb).2 hx
  refine ⟨_,if_pos ⟨hv,hx,hb⟩,_,Aj hjg,_,if_pos ⟨hg.2 _ (List.getElem_mem hjg),Ajx hx',Ay0 hv hx' (Agz hm hjg)⟩,Br.of (fun hc=>?_) fun hc=>?_⟩
  ·have hc:Uk gs[j] (Dd p.2.2.1 x ws[j])=false:=Xx hc
   rw [hc,Bool.false_and] at hR
   exact hR
  ·have hc:Uk gs[j] (Dd p.2.2.1 x ws[j])=true:=by simpa using hc
   rw [hc,Bool.true_and] at hR
   rw [Al (by omega)]
   exact hK hjw _ rfl ⟨_,rfl,hx',hR⟩
 ·have:j=ws.length:=by omega
  subst this
  rw [List.drop_length,hl,List.drop_length] at hR
  exact hR
theorem Aen:Sound Try.prog 39 Gt:=
 Sound.mkS Bi (Ad Alz (Ad Acx (Ad Am4 (Ad Aqe (Ad Aht Ao))))) mixed Try.func39 (by kernel_rfl) (by kernel_rfl) fun x h=>All x.1 x.2.1 x.2.2.1 x.2.2.2.1 h
theorem Alp (p:PP) (gs:List (List Int)) (s:List Int) (ws:List (List Int)) (h:Dk p∧Cx gs∧short s∧Cx ws):fnW tab (look [(77,Fo),(52,Kb),(79,Eu),(80,Iy),(53,Eo)]) Gt Try.f38 (p,gs,s,ws,()) (fun (z:Bool)=>z=Qi p gs s ws):=by
 obtain ⟨hp,hg,hs,hw⟩:=h
 refine Eq.mp (Amh p gs s ws _) ⟨_,if_pos ⟨hp,hg⟩,?_⟩
 unfold Qi
 refine Br.of (fun hm=>?_) fun hm=>?_
 ·have hm:Ik p gs=false:=Xx hm
  rw [hm,Bool.and_false,Bool.false_and,Bool.false_and]
 have hm:Ik p gs=true:=by simpa using hm
 rw [hm,Bool.and_true]
 refine ⟨_,if_pos ⟨hp,hs⟩,Br.of (fun hf=>?_) fun hf=>?_⟩
 ·have hf:Lb p s=false:=Xx hf
  rw [hf,Bool.false_and,Bool.false_and]
 have hf:Lb p s=true:=by simpa using hf
 rw [hf,Bool.true_and]
 obtain ⟨hwh,hst⟩:=Ams.1 hf
 have hv:=(Oz hwh).1
 have hV:=valid hv
 have hfew:=hV.few
 refine ⟨fun hl=>?_,fun hl=>?_⟩
 ·have hl:ws.length≠gs.length:=by have:(ws.length:Int)≠gs.length:=by simpa using hl
                                  omega
  rw [decide_eq_false hl,Bool.false_and]
 have hl:ws.length=gs.length:=by have:(ws.length:Int)=gs.length:=by simpa using hl
                                 omega
 rw [decide_eq_true hl,Bool.true_and]
 have hlen:=hg.1
 refine Am ws.length (fun v=>v.2.1) (fun j v=> ∃x,v=(x,(j:Int),p.1,p.2.1,p.2.2.1,())∧Pm p.1.toNat x∧Yz p.2.2.1 (gs.drop j) (ws.drop j) x=Yz p.2.2.1 gs ws s) rfl ⟨s,rfl,Bcf hv hst,rfl⟩ ?_
 rintro j v K hj hi ⟨x,rfl,hx,hR⟩ hK
 dsimp only
 refine Br.dec (fun hl2=>?_) fun hl2=>?_
 ·have hjw:j<ws.length:=by omega
  have hjg:j<gs.length:=by omega
  rw [Anb hjg hjw] at hR
  refine ⟨_,Aj hjw,_,if_pos ⟨hw.2 _ (List.getElem_mem hjw),by show (0:Int)≤((p.2.2.1.length:Nat):Int);omega,by show ((p.2.2.1.length:Nat):Int)≤4294967296;omega⟩,Br.of (fun hb=>?_) fun hb=>?_⟩
  ·have hb:Cu (List.length p.2.2.1:Nat) ws[j]=false:=Xx hb
   rw [hb,Bool.false_and] at hR
   exact hR
  have hb:Cu (List.length p.2.2.1:Nat) ws[j]=true:=by simpa using hb
  rw [hb,Bool.true_and] at hR
  have hx':=Tn hV ws[j] x (Ky hb).2 hx
  refine ⟨_,Aj hjw,_,if_pos ⟨hv,hx,hb⟩,_,Aj hjg,_,if_pos ⟨hg.2 _ (List.getElem_mem hjg),Ajx hx',Ay0 hv hx' (Agz hm hjg)⟩,Br.of (fun hc=>?_) fun hc=>?_⟩
  ·have hc:Uk gs[j] (Dd p.2.2.1 x ws[j])=false:=Xx hc
   rw [hc,Bool.false_and] at hR
   exact hR
  ·have hc:Uk gs[j] (Dd p.2.2.1 x ws[j])=true:=by simpa using hc
   rw [hc,Bool.true_and] at hR
   rw [Al (by omega)]
   exact hK hjw _ rfl ⟨_,rfl,hx',hR⟩
 ·have:j=ws.length:=by omega
  subst this
  rw [List.drop_length,hl,List.drop_length] at hR
  exact hR
theorem Aes:Sound Try.prog 38 Gt:=
 Sound.mkS Bi (Ad Acz (Ad Ag6 (Ad Ag8 (Ad Aly (Ad Ahr Ao))))) mixed Try.func38 (by kernel_rfl) (by kernel_rfl) fun x h=>Alp x.1 x.2.1 x.2.2.1 x.2.2.2.1 h
theorem Apq (p:PP) (a:List (List Int)) (b:List Int) (c:List (List Int)) (h:Dk p∧Cx a∧short b∧Cx c):fnW tab (look [(15,Ao3),(33,Ti),(38,Gt),(39,Gt),(17,Ah8),(35,Mo),(18,Zq),(20,Anv),(37,Th),(21,Dj)]) Wl Try.f9 (p,a,b,c,()) (fun (z:Bool)=>z=true):=by
 have h0:Dk (p.1,p.2.1,p.2.2.1,()):=h.1
 have h1:Cx a:=h.2.1
 have h2:short b:=h.2.2.1
 have h3:Cx c:=h.2.2.2
 refine Eq.mp (Ar0 p a b c _) ?_
 refine Br.dec (fun _=>rfl) fun hl_b=>?_
 refine ⟨_,if_pos ⟨h0,Atr⟩,Br.dec (fun _=>rfl) fun hs_p=>?_⟩
 have hz_p:(((Gh p.2.2.1:Nat):Nat):Int)≤(1048576)-(Ku (p.1,p.2.1,p.2.2.1,()) (1048576))∧roomy (Ku (p.1,p.2.1,p.2.2.1,()) (1048576)):=Bch Atr hs_p
 have hy_p:=hz_p.1
 have hr_p:0≤Ku (p.1,p.2.1,p.2.2.1,()) (1048576)∧Ku (p.1,p.2.1,p.2.2.1,()) (1048576)≤4294967296:=hz_p.2
 refine ⟨_,if_pos ⟨h1,hz_p.2⟩,Br.dec (fun _=>rfl) fun hs_a=>?_⟩
 have hz_a:(((Gh a:Nat):Nat):Int)≤(Ku (p.1,p.2.1,p.2.2.1,()) (1048576))-(Ej a (Ku (p.1,p.2.1,p.2.2.1,()) (1048576)))∧roomy (Ej a (Ku (p.1,p.2.1,p.2.2.1,()) (1048576))):=Ao9 hz_p.2 hs_a
 have hy_a:=hz_a.1
 have hr_a:0≤Ej a (Ku (p.1,p.2.1,p.2.2.1,()) (1048576))∧Ej a (Ku (p.1,p.2.1,p.2.2.1,()) (1048576))≤4294967296:=hz_a.2
 refine ⟨_,if_pos ⟨h3,hz_a.2⟩,Br.dec (fun _=>rfl) fun hs_c=>?_⟩
 have hz_c:(((Gh c:Nat):Nat):Int)≤(Ej a (Ku (p.1,p.2.1,p.2.2.1,()) (1048576)))-(Ej c (Ej a (Ku (p.1,p.2.1,p.2.2.1,()) (1048576))))∧roomy (Ej c (Ej a (Ku (p.1,p.2.1,p.2.2.1,()) (1048576)))):=Ao9 hz_a.2 hs_c
 have hy_c:=hz_c.1
 have hr_c:0≤Ej c (Ej a (Ku (p.1,p.2.1,p.2.2.1,()) (1048576)))∧Ej c (Ej a (Ku (p.1,p.2.1,p.2.2.1,()) (1048576)))≤4294967296:=hz_c.2
 have l0:low (1+(Gh p.2.2.1:Nat)):=⟨by omega,by omega⟩
 have l1:low (1+(Gh p.2.2.1:Nat)+(Gh a:Nat)):=⟨by omega,by omega⟩
 have l2:low (1+(Gh p.2.2.1:Nat)+(Gh a:Nat)+(b.length:Nat)):=⟨by omega,by omega⟩
 have l3:low (1+(Gh p.2.2.1:Nat)+(Gh a:Nat)+(b.length:Nat)+(Gh c:Nat)):=⟨by omega,by omega⟩
 refine ⟨_,if_pos h0,_,if_pos h1,_,if_pos h2,_,if_pos h3,?_⟩
 try simp only [Cz]
 refine ⟨_,if_pos ⟨h0,h1,h2,h3⟩,_,if_pos h0,_,if_pos h1,_,if_pos h2,_,if_pos h3,?_⟩
 try simp only [Cz]
 generalize he0:Qi p a b c=g0
 refine ⟨_,if_pos ⟨h0,h1,h2,h3⟩,?_⟩
 simp only [Cz,he0]
 refine ⟨fun he=>Ayl he,fun _=>?_⟩
 refine ⟨_,if_pos h0,_,if_pos h0,⟨fun he=>absurd (Avx _) (Cc he),fun _=>?_⟩⟩
 refine ⟨_,if_pos h1,?_⟩
 try simp only [Cz]
 refine ⟨_,if_pos h1,⟨fun he=>absurd (Agv _) (Cc he),fun _=>?_⟩⟩
 refine ⟨_,if_pos h2,?_⟩
 try simp only [Cz]
 refine ⟨_,if_pos h2,⟨fun he=>absurd (Afk _) (Cc he),fun _=>?_⟩⟩
 refine ⟨_,if_pos h3,?_⟩
 try simp only [Cz]
 refine ⟨_,if_pos h3,⟨fun he=>absurd (Agv _) (Cc he),fun _=>?_⟩⟩
 first|rfl|trivial
theorem Ag5:Sound Try.prog 9 Wl:=
 Sound.mkS Bi (Ad Ba6 (Ad Akm (Ad Aes (Ad Aen (Ad Ba7 (Ad Akn (Ad Ao7 (Ad Azz (Ad Ake (Ad Ao6 Ao)))))))))) mixed Try.func9 (by kernel_rfl) (by kernel_rfl) fun x h=>Apq x.1 x.2.1 x.2.2.1 x.2.2.2.1 h
end Go.Proofs.Ytebabhocakedaaa
