/-
  Part 49 of the proof that the statement FnExactSatisfiedGoals holds.
-/
import Derived.Test.YtebabhocakedaaaCSatisfiedGoals47
namespace Go.Proofs.Ytebabhocakedaaa
open Go.RowKit
theorem Az9 (p:Int×ByteArray×List (List Int)×Unit) (P:(Option (PP×List (List Int)×List Int×(ByteArray→Option Int)×List Int×List Int×List (List Int)×Unit)×Bool×Unit)→Prop):(∃(y2:Int),
 Jr.fn ((p.1,p.2.1,p.2.2.1,()),())=some y2∧
 ∃(y3:Bool),
 Bc.fn (y2,(1:Int),(3000:Int),())=some y3∧
 Br (!y3) (P (none,false,()))
 (∃(y4:List Int),
 Lk.fn (p.1,())=some y4∧
 ∃(y5:ByteArray),
 Dk.fn (y4,())=some y5∧
 (∃(y6:List Int),
 Jp.fn ((↑p.2.2.1.length:Int),())=some y6∧
 (0:Nat)=(0:Nat)∧
 (1:Nat)= [y4].length∧
 (0:Nat)=(0:Nat)∧
 (1:Nat)= [(0:Int)].length∧
 (0:Nat)=(0:Nat)∧
 (1:Nat)= [(0:Int)].length∧
 (0:Nat)=(0:Nat)∧
 (1:Nat)= [(0:Int)].length∧
 (0:Nat)=(0:Nat)∧
 (0:Nat)=([]:List Int).length∧
 Cc
 (fun
 (v7:
 Int×
 Int×
 ByteArray×
 List (List Int)×
 List (List Int)×List Int×(ByteArray→Option Int)×List Int×List Int×Int×ByteArray×List (List Int)×List (List Int)×PUnit)
 (k8:
 Int×
 Int×
 ByteArray×
 List (List Int)×
 List (List Int)×
 List Int×(ByteArray→Option Int)×List Int×List Int×Int×ByteArray×List (List Int)×List (List Int)×PUnit→
 Prop)=>
 Br (decide (v7.1<(↑v7.2.2.2.2.1.length:Int)))
 (((0:Int)≤v7.1∧v7.1<(↑v7.2.2.2.2.1.length:Int))∧
 ∃(y9:List Int),
 v7.2.2.2.2.1[(0:Nat)+v7.1.toNat]?=some y9∧
 ∃(y10:List (List Int)),
 Aae.fn ((v7.2.1,v7.2.2.1,v7.2.2.2.1,()),y9,())=some y10∧
 (0:Nat)=(0:Nat)∧
 (0:Nat)=([]:List Int).length∧
 (0:Nat)=(0:Nat)∧
 v7.2.2.2.2.1.length=v7.2.2.2.2.1.length∧
 (0:Nat)=(0:Nat)∧
 v7.2.2.2.2.2.1.length=v7.2.2.2.2.2.1.length∧
 (0:Nat)=(0:Nat)∧
 v7.2.2.2.2.2.2.2.1.length=v7.2.2.2.2.2.2.2.1.length∧
 (0:Nat)=(0:Nat)∧
 v7.2.2.2.2.2.2.2.2.1.length=v7.2.2.2.2.2.2.2.2.1.length∧
 (0:Nat)=(0:Nat)∧
 v7.2.2.2.2.2.2.2.2.2.2.2.2.1.length=v7.2.2.2.2.2.2.2.2.2.2.2.2.1.length∧
 Cc
 (fun
 (v11:
 Int×
 Int×
 ByteArray×
 List (List Int)×
 List Int×
 List (List Int)×
 List Int×
 (ByteArray→Option Int)×
 List Int×List Int×Int×ByteArray×List (List Int)×List (List Int)×PUnit)
 (k12:
 Int×
 Int×
 ByteArray×
 List (List Int)×
 List Int×
 List (List Int)×
 List Int×
 (ByteArray→Option Int)×
 List Int×List Int×Int×ByteArray×List (List Int)×List (List Int)×PUnit→
 Prop)=>
 Br (decide (v11.1<(↑y10.length:Int)))
 (∃(y13:List Int),
 idx y10 v11.1=some y13∧
 ∃(y14:ByteArray),
 Dk.fn (y13,())=some y14∧
 Br (!(v11.2.2.2.2.2.2.2.1 y14).isSome)
 (∃(y15:Int),
 Pp.fn
 (List.take v11.2.2.2.2.2.1.length (List.drop ((0:Nat)) v11.2.2.2.2.2.1),())=
 some y15∧
 (0:Nat)=(0:Nat)∧
 v11.2.2.2.2.2.1.length=v11.2.2.2.2.2.1.length∧
 v11.2.2.2.2.2.1.length+(List.take (1:Nat) (List.drop (0:Nat) [y13])).length≤
 Ax∧
 ((0:Int)≤v7.1∧v7.1<(↑v11.2.2.2.2.2.2.1.length:Int))∧
 ∃(y16:Int),
 v11.2.2.2.2.2.2.1[(0:Nat)+v7.1.toNat]?=some y16∧
 (0:Nat)=(0:Nat)∧
 v11.2.2.2.2.2.2.1.length=v11.2.2.2.2.2.2.1.length∧
 v11.2.2.2.2.2.2.1.length+ [IntKind.i64.wrap (y16+(1:Int))].length≤
 Ax∧
 (0:Nat)=(0:Nat)∧
 v11.2.2.2.2.2.2.2.2.1.length=
 v11.2.2.2.2.2.2.2.2.1.length∧
 v11.2.2.2.2.2.2.2.2.1.length+
 (List.take (1:Nat) (List.drop (0:Nat) [v7.1])).length≤
 Ax∧
 ∃(y17:Int),
 idx y6 v11.1=some y17∧
 (0:Nat)=(0:Nat)∧
 v11.2.2.2.2.2.2.2.2.2.1.length=
 v11.2.2.2.2.2.2.2.2.2.1.length∧
 v11.2.2.2.2.2.2.2.2.2.1.length+ [y17].length≤
 Ax∧
 (0:Nat)=(0:Nat)∧
 v11.2.2.2.2.1.length=v11.2.2.2.2.1.length∧
 v11.2.2.2.2.1.length+
 (List.take (1:Nat)
 (List.drop (0:Nat) [y15])).length≤
 Ax∧
 (0:Nat)=(0:Nat)∧
 (v11.2.2.2.2.1++
 List.take (1:Nat)
 (List.drop (0:Nat) [y15])).length=
 (v11.2.2.2.2.1++
 List.take (1:Nat)
 (List.drop (0:Nat) [y15])).length∧
 (0:Nat)=(0:Nat)∧
 (v11.2.2.2.2.2.1++
 List.take (1:Nat)
 (List.drop (0:Nat) [y13])).length=
 (v11.2.2.2.2.2.1++
 List.take (1:Nat)
 (List.drop (0:Nat) [y13])).length∧
 (0:Nat)=(0:Nat)∧
 (v11.2.2.2.2.2.2.1++
 [IntKind.i64.wrap
 (y16+(1:Int))]).length=
 (v11.2.2.2.2.2.2.1++
 [IntKind.i64.wrap
 (y16+(1:Int))]).length∧
 (0:Nat)=(0:Nat)∧
 (v11.2.2.2.2.2.2.2.2.1++
 List.take (1:Nat)
 (List.drop (0:Nat)
 [v7.1])).length=
 (v11.2.2.2.2.2.2.2.2.1++
 List.take (1:Nat)
 (List.drop (0:Nat)
 [v7.1])).length∧
 (0:Nat)=(0:Nat)∧
 (v11.2.2.2.2.2.2.2.2.2.1++
 [y17]).length=
 (v11.2.2.2.2.2.2.2.2.2.1++
 [y17]).length∧
 (0:Nat)=(0:Nat)∧
 v11.2.2.2.2.2.2.2.2.2.2.2.2.2.1.length=
 v11.2.2.2.2.2.2.2.2.2.2.2.2.2.1.length∧
 k12
 (IntKind.i64.wrap
 (v11.1+(1:Int)),
 v11.2.1,v11.2.2.1,
 v11.2.2.2.1,
 v11.2.2.2.2.1++
 List.take (1:Nat)
 (List.drop (0:Nat)
 [y15]),
 v11.2.2.2.2.2.1++
 List.take (1:Nat)
 (List.drop (0:Nat)
 [y13]),
 v11.2.2.2.2.2.2.1++
 [IntKind.i64.wrap
 (y16+(1:Int))],
 Es
 v11.2.2.2.2.2.2.2.1
 y14 y15,
 v11.2.2.2.2.2.2.2.2.1++
 List.take (1:Nat)
 (List.drop (0:Nat)
 [v7.1]),
 v11.2.2.2.2.2.2.2.2.2.1++
 [y17],
 v11.2.2.2.2.2.2.2.2.2.2.1,
 v11.2.2.2.2.2.2.2.2.2.2.2.1,
 v11.2.2.2.2.2.2.2.2.2.2.2.2.1,
 v11.2.2.2.2.2.2.2.2.2.2.2.2.2.1,
 ()))
 ((0:Nat)=(0:Nat)∧
 v11.2.2.2.2.1.length=v11.2.2.2.2.1.length∧
 v11.2.2.2.2.1.length+
 (List.take (1:Nat)
 (List.drop (0:Nat)
 [(v11.2.2.2.2.2.2.2.1 y14).getD (Int.ofNat (nat_lit 0))])).length≤
 Ax∧
 (0:Nat)=(0:Nat)∧
 (v11.2.2.2.2.1++
 List.take (1:Nat)
 (List.drop (0:Nat)
 [(v11.2.2.2.2.2.2.2.1 y14).getD (Int.ofNat (nat_lit 0))])).length=
 (v11.2.2.2.2.1++
 List.take (1:Nat)
 (List.drop (0:Nat)
 [(v11.2.2.2.2.2.2.2.1 y14).getD (Int.ofNat (nat_lit 0))])).length∧
 (0:Nat)=(0:Nat)∧
 v11.2.2.2.2.2.1.length=v11.2.2.2.2.2.1.length∧
 (0:Nat)=(0:Nat)∧
 v11.2.2.2.2.2.2.1.length=v11.2.2.2.2.2.2.1.length∧
 (0:Nat)=(0:Nat)∧
 v11.2.2.2.2.2.2.2.2.1.length=
 v11.2.2.2.2.2.2.2.2.1.length∧
 (0:Nat)=(0:Nat)∧
 v11.2.2.2.2.2.2.2.2.2.1.length=
 v11.2.2.2.2.2.2.2.2.2.1.length∧
 (0:Nat)=(0:Nat)∧
 v11.2.2.2.2.2.2.2.2.2.2.2.2.2.1.length=
 v11.2.2.2.2.2.2.2.2.2.2.2.2.2.1.length∧
 k12
 (IntKind.i64.wrap (v11.1+(1:Int)),v11.2.1,v11.2.2.1,
 v11.2.2.2.1,
 v11.2.2.2.2.1++
 List.take (1:Nat)
 (List.drop (0:Nat)
 [(v11.2.2.2.2.2.2.2.1 y14).getD
 (Int.ofNat (nat_lit 0))]),
 v11.2.2.2.2.2.1,v11.2.2.2.2.2.2.1,
 v11.2.2.2.2.2.2.2.1,v11.2.2.2.2.2.2.2.2.1,
 v11.2.2.2.2.2.2.2.2.2.1,
 v11.2.2.2.2.2.2.2.2.2.2.1,
 v11.2.2.2.2.2.2.2.2.2.2.2.1,
 v11.2.2.2.2.2.2.2.2.2.2.2.2.1,
 v11.2.2.2.2.2.2.2.2.2.2.2.2.2.1,())))
 ((0:Nat)=(0:Nat)∧
 v11.2.2.2.2.2.2.2.2.2.2.2.2.2.1.length=
 v11.2.2.2.2.2.2.2.2.2.2.2.2.2.1.length∧
 v11.2.2.2.2.2.2.2.2.2.2.2.2.2.1.length+
 (List.take (1:Nat)
 (List.drop (0:Nat)
 [List.take v11.2.2.2.2.1.length (List.drop ((0:Nat)) v11.2.2.2.2.1)])).length≤
 Ax∧
 (0:Nat)=(0:Nat)∧
 v11.2.2.2.2.2.1.length=v11.2.2.2.2.2.1.length∧
 (0:Nat)=(0:Nat)∧
 v11.2.2.2.2.2.2.1.length=v11.2.2.2.2.2.2.1.length∧
 (0:Nat)=(0:Nat)∧
 v11.2.2.2.2.2.2.2.2.1.length=v11.2.2.2.2.2.2.2.2.1.length∧
 (0:Nat)=(0:Nat)∧
 v11.2.2.2.2.2.2.2.2.2.1.length=v11.2.2.2.2.2.2.2.2.2.1.length∧
 (0:Nat)=(0:Nat)∧
 (v11.2.2.2.2.2.2.2.2.2.2.2.2.2.1++
 List.take (1:Nat)
 (List.drop (0:Nat)
 [List.take v11.2.2.2.2.1.length
 (List.drop ((0:Nat)) v11.2.2.2.2.1)])).length=
 (v11.2.2.2.2.2.2.2.2.2.2.2.2.2.1++
 List.take (1:Nat)
 (List.drop (0:Nat)
 [List.take v11.2.2.2.2.1.length
 (List.drop ((0:Nat)) v11.2.2.2.2.1)])).length∧
 k8
 (IntKind.i64.wrap (v7.1+(1:Int)),v11.2.1,v11.2.2.1,v11.2.2.2.1,
 v11.2.2.2.2.2.1,v11.2.2.2.2.2.2.1,v11.2.2.2.2.2.2.2.1,
 v11.2.2.2.2.2.2.2.2.1,v11.2.2.2.2.2.2.2.2.2.1,
 v11.2.2.2.2.2.2.2.2.2.2.1,v11.2.2.2.2.2.2.2.2.2.2.2.1,
 v11.2.2.2.2.2.2.2.2.2.2.2.2.1,
 v11.2.2.2.2.2.2.2.2.2.2.2.2.2.1++
 List.take (1:Nat)
 (List.drop (0:Nat)
 [List.take v11.2.2.2.2.1.length
 (List.drop ((0:Nat)) v11.2.2.2.2.1)]),
 ())))
 ((0:Int),v7.2.1,v7.2.2.1,v7.2.2.2.1,[],v7.2.2.2.2.1,v7.2.2.2.2.2.1,
 v7.2.2.2.2.2.2.1,v7.2.2.2.2.2.2.2.1,v7.2.2.2.2.2.2.2.2.1,
 v7.2.2.2.2.2.2.2.2.2.1,v7.2.2.2.2.2.2.2.2.2.2.1,v7.2.2.2.2.2.2.2.2.2.2.2.1,
 v7.2.2.2.2.2.2.2.2.2.2.2.2.1,PUnit.unit))
 (P
 (some
 ((v7.2.2.2.2.2.2.2.2.2.1,v7.2.2.2.2.2.2.2.2.2.2.1,v7.2.2.2.2.2.2.2.2.2.2.2.1,()),
 List.take v7.2.2.2.2.1.length (List.drop ((0:Nat)) v7.2.2.2.2.1),
 List.take v7.2.2.2.2.2.1.length (List.drop ((0:Nat)) v7.2.2.2.2.2.1),v7.2.2.2.2.2.2.1,
 List.take v7.2.2.2.2.2.2.2.1.length (List.drop ((0:Nat)) v7.2.2.2.2.2.2.2.1),
 List.take v7.2.2.2.2.2.2.2.2.1.length (List.drop ((0:Nat)) v7.2.2.2.2.2.2.2.2.1),
 List.take v7.2.2.2.2.2.2.2.2.2.2.2.2.1.length (List.drop ((0:Nat)) v7.2.2.2.2.2.2.2.2.2.2.2.2.1),()),
 true,())))
 ((0:Int),p.1,p.2.1,p.2.2.1,[y4],[(0:Int)],Es (fun (_:ByteArray)=>none) y5 (0:Int),[(0:Int)],[(0:Int)],p.1,p.2.1,
 p.2.2.1,([]:List (List Int)),PUnit.unit))∧
 ((∃(y6:ByteArray),
 Dk.fn (y4,())=some y6∧
 [((0:Nat),(1:Nat)),((0:Nat),(1:Nat)),((0:Nat),(1:Nat)),((0:Nat),(1:Nat)),((0:Nat),(1:Nat)),((0:Nat),(1:Nat)),((0:Nat),(1:Nat)),
 ((0:Nat),(1:Nat)),((0:Nat),(1:Nat)),((0:Nat),(1:Nat)),((0:Nat),(1:Nat)),((0:Nat),(1:Nat)),((0:Nat),(0:Nat))]=
 [((0:Nat),(1:Nat)),((0:Nat),(1:Nat)),((0:Nat),(1:Nat)),((0:Nat),(1:Nat)),((0:Nat),(1:Nat)),((0:Nat),(1:Nat)),((0:Nat),(1:Nat)),
 ((0:Nat),(1:Nat)),((0:Nat),(1:Nat)),((0:Nat),(1:Nat)),((0:Nat),(1:Nat)),((0:Nat),(1:Nat)),((0:Nat),(0:Nat))]∧
 (p,false,y4,p.1,p.2.1,p.2.2.1,y2,y3,!y3,p.1,y4,p.1,p.2.1,p.2.2.1,y4,y4,y6,p.1,p.2.1,p.2.2.1,p.1,p.2.1,p.2.2.1,
 [y4],[(0:Int)],Es (fun (_:ByteArray)=>none) y6 (0:Int),[(0:Int)],[(0:Int)],p.1,p.2.1,p.2.2.1,([]:List (List Int)),())=
 (p,false,y4,p.1,p.2.1,p.2.2.1,y2,y3,!y3,p.1,y4,p.1,p.2.1,p.2.2.1,y4,y4,y5,p.1,p.2.1,p.2.2.1,p.1,p.2.1,p.2.2.1,
 [y4],[(0:Int)],Es (fun (_:ByteArray)=>none) y5 (0:Int),[(0:Int)],[(0:Int)],p.1,p.2.1,p.2.2.1,([]:List (List Int)),PUnit.unit))∧
 ∃(y6:ByteArray),
 Dk.fn (y4,())=some y6∧
 ([((0:Nat),(1:Nat)),((0:Nat),(1:Nat)),((0:Nat),(1:Nat)),((0:Nat),(1:Nat)),((0:Nat),(1:Nat)),((0:Nat),(1:Nat)),((0:Nat),(1:Nat)),
 ((0:Nat),(1:Nat)),((0:Nat),(1:Nat)),((0:Nat),(1:Nat)),((0:Nat),(1:Nat)),((0:Nat),(1:Nat)),((0:Nat),(0:Nat))]=
 [((0:Nat),(1:Nat)),((0:Nat),(1:Nat)),((0:Nat),(1:Nat)),((0:Nat),(1:Nat)),((0:Nat),(1:Nat)),((0:Nat),(1:Nat)),
 ((0:Nat),(1:Nat)),((0:Nat),(1:Nat)),((0:Nat),(1:Nat)),((0:Nat),(1:Nat)),((0:Nat),(1:Nat)),((0:Nat),(1:Nat)),
 ((0:Nat),(0:Nat))]∧
 (p,false,y4,p.1,p.2.1,p.2.2.1,y2,y3,!y3,p.1,y4,p.1,p.2.1,p.2.2.1,y4,y4,y6,p.1,p.2.1,p.2.2.1,p.1,p.2.1,p.2.2.1,
 [y4],[(0:Int)],Es (fun (_:ByteArray)=>none) y6 (0:Int),[(0:Int)],[(0:Int)],p.1,p.2.1,p.2.2.1,([]:List (List Int)),())=
 (p,false,y4,p.1,p.2.1,p.2.2.1,y2,y3,!y3,p.1,y4,p.1,p.2.1,p.2.2.1,y4,y4,y5,p.1,p.2.1,p.2.2.1,p.1,p.2.1,p.2.2.1,
 [y4],[(0:Int)],Es (fun (_:ByteArray)=>none) y5 (0:Int),[(0:Int)],[(0:Int)],p.1,p.2.1,p.2.2.1,([]:List (List Int)),PUnit.unit))∧
 ([((0:Nat),(1:Nat)),((0:Nat),(1:Nat)),((0:Nat),(1:Nat)),((0:Nat),(1:Nat)),((0:Nat),(1:Nat)),((0:Nat),(1:Nat)),((0:Nat),(1:Nat)),
 ((0:Nat),(1:Nat)),((0:Nat),(1:Nat)),((0:Nat),(1:Nat)),((0:Nat),(1:Nat)),((0:Nat),(1:Nat)),((0:Nat),(0:Nat))]=
 [((0:Nat),(1:Nat)),((0:Nat),(1:Nat)),((0:Nat),(1:Nat)),((0:Nat),(1:Nat)),((0:Nat),(1:Nat)),((0:Nat),(1:Nat)),
 ((0:Nat),(1:Nat)),((0:Nat),(1:Nat)),((0:Nat),(1:Nat)),((0:Nat),(1:Nat)),((0:Nat),(1:Nat)),((0:Nat),(1:Nat)),
 ((0:Nat),(0:Nat))]∧
 (p,false,y4,p.1,p.2.1,p.2.2.1,y2,y3,!y3,p.1,y4,p.1,p.2.1,p.2.2.1,y4,y4,y6,p.1,p.2.1,p.2.2.1,p.1,p.2.1,p.2.2.1,
 [y4],[(0:Int)],Es (fun (_:ByteArray)=>none) y6 (0:Int),[(0:Int)],[(0:Int)],p.1,p.2.1,p.2.2.1,([]:List (List Int)),())=
 (p,false,y4,p.1,p.2.1,p.2.2.1,y2,y3,!y3,p.1,y4,p.1,p.2.1,p.2.2.1,y4,y4,y5,p.1,p.2.1,p.2.2.1,p.1,p.2.1,
 p.2.2.1,[y4],[(0:Int)],Es (fun (_:ByteArray)=>none) y5 (0:Int),[(0:Int)],[(0:Int)],p.1,p.2.1,p.2.2.1,([]:List (List Int)),PUnit.unit))∧
 [((0:Nat),(1:Nat)),((0:Nat),(1:Nat)),((0:Nat),(1:Nat)),((0:Nat),(1:Nat)),((0:Nat),(1:Nat)),((0:Nat),(1:Nat)),((0:Nat),(1:Nat)),
 ((0:Nat),(1:Nat)),((0:Nat),(1:Nat)),((0:Nat),(1:Nat)),((0:Nat),(1:Nat)),((0:Nat),(1:Nat)),((0:Nat),(0:Nat))]=
 [((0:Nat),(1:Nat)),((0:Nat),(1:Nat)),((0:Nat),(1:Nat)),((0:Nat),(1:Nat)),((0:Nat),(1:Nat)),((0:Nat),(1:Nat)),
 ((0:Nat),(1:Nat)),((0:Nat),(1:Nat)),((0:Nat),(1:Nat)),((0:Nat),(1:Nat)),((0:Nat),(1:Nat)),((0:Nat),(1:Nat)),
 ((0:Nat),(0:Nat))]∧
 (p,false,y4,p.1,p.2.1,p.2.2.1,y2,y3,!y3,p.1,y4,p.1,p.2.1,p.2.2.1,y4,y4,y6,p.1,p.2.1,p.2.2.1,p.1,p.2.1,p.2.2.1,
 [y4],[(0:Int)],Es (fun (_:ByteArray)=>none) y6 (0:Int),[(0:Int)],[(0:Int)],p.1,p.2.1,p.2.2.1,([]:List (List Int)),())=
 (p,false,y4,p.1,p.2.1,p.2.2.1,y2,y3,!y3,p.1,y4,p.1,p.2.1,p.2.2.1,y4,y4,y5,p.1,p.2.1,p.2.2.1,p.1,p.2.1,
 p.2.2.1,[y4],[(0:Int)],Es (fun (_:ByteArray)=>none) y5 (0:Int),[(0:Int)],[(0:Int)],p.1,p.2.1,p.2.2.1,([]:List (List Int)),PUnit.unit))∧
 ((∃(y6:ByteArray),
 Dk.fn (y4,())=some y6∧
 [((0:Nat),(1:Nat)),((0:Nat),(1:Nat)),((0:Nat),(1:Nat)),((0:Nat),(1:Nat)),((0:Nat),(1:Nat)),((0:Nat),(1:Nat)),((0:Nat),(1:Nat)),
 ((0:Nat),(1:Nat)),((0:Nat),(1:Nat)),((0:Nat),(1:Nat)),((0:Nat),(1:Nat)),((0:Nat),(1:Nat)),((0:Nat),(0:Nat))]=
 [((0:Nat),(1:Nat)),((0:Nat),(1:Nat)),((0:Nat),(1:Nat)),((0:Nat),(1:Nat)),((0:Nat),(1:Nat)),((0:Nat),(1:Nat)),
 ((0:Nat),(1:Nat)),((0:Nat),(1:Nat)),((0:Nat),(1:Nat)),((0:Nat),(1:Nat)),((0:Nat),(1:Nat)),((0:Nat),(1:Nat)),
 ((0:Nat),(0:Nat))]∧
 (p,false,y4,p.1,p.2.1,p.2.2.1,y2,y3,!y3,p.1,y4,p.1,p.2.1,p.2.2.1,y4,y4,y6,p.1,p.2.1,p.2.2.1,p.1,p.2.1,p.2.2.1,
 [y4],[(0:Int)],Es (fun (_:ByteArray)=>none) y6 (0:Int),[(0:Int)],[(0:Int)],p.1,p.2.1,p.2.2.1,([]:List (List Int)),())=
 (p,false,y4,p.1,p.2.1,p.2.2.1,y2,y3,!y3,p.1,y4,p.1,p.2.1,p.2.2.1,y4,y4,y5,p.1,p.2.1,p.2.2.1,p.1,p.2.1,p.2.2.1,
 [y4],[(0:Int)],Es (fun (_:ByteArray)=>none) y5 (0:Int),[(0:Int)],[(0:Int)],p.1,p.2.1,p.2.2.1,([]:List (List Int)),PUnit.unit))∧
 ∃(y6:ByteArray),
 Dk.fn (y4,())=some y6∧
 ([((0:Nat),(1:Nat)),((0:Nat),(1:Nat)),((0:Nat),(1:Nat)),((0:Nat),(1:Nat)),((0:Nat),(1:Nat)),((0:Nat),(1:Nat)),((0:Nat),(1:Nat)),
 ((0:Nat),(1:Nat)),((0:Nat),(1:Nat)),((0:Nat),(1:Nat)),((0:Nat),(1:Nat)),((0:Nat),(1:Nat)),((0:Nat),(0:Nat))]=
 [((0:Nat),(1:Nat)),((0:Nat),(1:Nat)),((0:Nat),(1:Nat)),((0:Nat),(1:Nat)),((0:Nat),(1:Nat)),((0:Nat),(1:Nat)),
 ((0:Nat),(1:Nat)),((0:Nat),(1:Nat)),((0:Nat),(1:Nat)),((0:Nat),(1:Nat)),((0:Nat),(1:Nat)),((0:Nat),(1:Nat)),
 ((0:Nat),(0:Nat))]∧
 (p,false,y4,p.1,p.2.1,p.2.2.1,y2,y3,!y3,p.1,y4,p.1,p.2.1,p.2.2.1,y4,y4,y6,p.1,p.2.1,p.2.2.1,p.1,p.2.1,p.2.2.1,
 [y4],[(0:Int)],Es (fun (_:ByteArray)=>none) y6 (0:Int),[(0:Int)],[(0:Int)],p.1,p.2.1,p.2.2.1,([]:List (List Int)),())=
 (p,false,y4,p.1,p.2.1,p.2.2.1,y2,y3,!y3,p.1,y4,p.1,p.2.1,p.2.2.1,y4,y4,y5,p.1,p.2.1,p.2.2.1,p.1,p.2.1,
 p.2.2.1,[y4],[(0:Int)],Es (fun (_:ByteArray)=>none) y5 (0:Int),[(0:Int)],[(0:Int)],p.1,p.2.1,p.2.2.1,([]:List (List Int)),PUnit.unit))∧
 ([((0:Nat),(1:Nat)),((0:Nat),(1:Nat)),((0:Nat),(1:Nat)),((0:Nat),(1:Nat)),((0:Nat),(1:Nat)),((0:Nat),(1:Nat)),
 ((0:Nat),(1:Nat)),((0:Nat),(1:Nat)),((0:Nat),(1:Nat)),((0:Nat),(1:Nat)),((0:Nat),(1:Nat)),((0:Nat),(1:Nat)),
 ((0:Nat),(0:Nat))]=
 [((0:Nat),(1:Nat)),((0:Nat),(1:Nat)),((0:Nat),(1:Nat)),((0:Nat),(1:Nat)),((0:Nat),(1:Nat)),((0:Nat),(1:Nat)),
 ((0:Nat),(1:Nat)),((0:Nat),(1:Nat)),((0:Nat),(1:Nat)),((0:Nat),(1:Nat)),((0:Nat),(1:Nat)),((0:Nat),(1:Nat)),
 ((0:Nat),(0:Nat))]∧
 (p,false,y4,p.1,p.2.1,p.2.2.1,y2,y3,!y3,p.1,y4,p.1,p.2.1,p.2.2.1,y4,y4,y6,p.1,p.2.1,p.2.2.1,p.1,p.2.1,
 p.2.2.1,[y4],[(0:Int)],Es (fun (_:ByteArray)=>none) y6 (0:Int),[(0:Int)],[(0:Int)],p.1,p.2.1,p.2.2.1,([]:List (List Int)),())=
 (p,false,y4,p.1,p.2.1,p.2.2.1,y2,y3,!y3,p.1,y4,p.1,p.2.1,p.2.2.1,y4,y4,y5,p.1,p.2.1,p.2.2.1,p.1,p.2.1,
 p.2.2.1,[y4],[(0:Int)],Es (fun (_:ByteArray)=>none) y5 (0:Int),[(0:Int)],[(0:Int)],p.1,p.2.1,p.2.2.1,([]:List (List Int)),PUnit.unit))∧
 [((0:Nat),(1:Nat)),((0:Nat),(1:Nat)),((0:Nat),(1:Nat)),((0:Nat),(1:Nat)),((0:Nat),(1:Nat)),((0:Nat),(1:Nat)),
 ((0:Nat),(1:Nat)),((0:Nat),(1:Nat)),((0:Nat),(1:Nat)),((0:Nat),(1:Nat)),((0:Nat),(1:Nat)),((0:Nat),(1:Nat)),
 ((0:Nat),(0:Nat))]=
 [((0:Nat),(1:Nat)),((0:Nat),(1:Nat)),((0:Nat),(1:Nat)),((0:Nat),(1:Nat)),((0:Nat),(1:Nat)),((0:Nat),(1:Nat)),
 ((0:Nat),(1:Nat)),((0:Nat),(1:Nat)),((0:Nat),(1:Nat)),((0:Nat),(1:Nat)),((0:Nat),(1:Nat)),((0:Nat),(1:Nat)),
 ((0:Nat),(0:Nat))]∧
 (p,false,y4,p.1,p.2.1,p.2.2.1,y2,y3,!y3,p.1,y4,p.1,p.2.1,p.2.2.1,y4,y4,y6,p.1,p.2.1,p.2.2.1,p.1,p.2.1,
 p.2.2.1,[y4],[(0:Int)],Es (fun (_:ByteArray)=>none) y6 (0:Int),[(0:Int)],[(0:Int)],p.1,p.2.1,p.2.2.1,([]:List (List Int)),())=
 (p,false,y4,p.1,p.2.1,p.2.2.1,y2,y3,!y3,p.1,y4,p.1,p.2.1,p.2.2.1,y4,y4,y5,p.1,p.2.1,p.2.2.1,p.1,p.2.1,
 p.2.2.1,[y4],[(0:Int)],Es (fun (_:ByteArray)=>none) y5 (0:Int),[(0:Int)],[(0:Int)],p.1,p.2.1,p.2.2.1,([]:List (List Int)),PUnit.unit))∧
 ∃(y6:ByteArray),
 Dk.fn (y4,())=some y6∧
 (([((0:Nat),(1:Nat)),((0:Nat),(1:Nat)),((0:Nat),(1:Nat)),((0:Nat),(1:Nat)),((0:Nat),(1:Nat)),((0:Nat),(1:Nat)),((0:Nat),(1:Nat)),
 ((0:Nat),(1:Nat)),((0:Nat),(1:Nat)),((0:Nat),(1:Nat)),((0:Nat),(1:Nat)),((0:Nat),(1:Nat)),((0:Nat),(0:Nat))]=
 [((0:Nat),(1:Nat)),((0:Nat),(1:Nat)),((0:Nat),(1:Nat)),((0:Nat),(1:Nat)),((0:Nat),(1:Nat)),((0:Nat),(1:Nat)),
 ((0:Nat),(1:Nat)),((0:Nat),(1:Nat)),((0:Nat),(1:Nat)),((0:Nat),(1:Nat)),((0:Nat),(1:Nat)),((0:Nat),(1:Nat)),
 ((0:Nat),(0:Nat))]∧
 (p,false,y4,p.1,p.2.1,p.2.2.1,y2,y3,!y3,p.1,y4,p.1,p.2.1,p.2.2.1,y4,y4,y6,p.1,p.2.1,p.2.2.1,p.1,p.2.1,p.2.2.1,
 [y4],[(0:Int)],Es (fun (_:ByteArray)=>none) y6 (0:Int),[(0:Int)],[(0:Int)],p.1,p.2.1,p.2.2.1,([]:List (List Int)),())=
 (p,false,y4,p.1,p.2.1,p.2.2.1,y2,y3,!y3,p.1,y4,p.1,p.2.1,p.2.2.1,y4,y4,y5,p.1,p.2.1,p.2.2.1,p.1,p.2.1,
 p.2.2.1,[y4],[(0:Int)],Es (fun (_:ByteArray)=>none) y5 (0:Int),[(0:Int)],[(0:Int)],p.1,p.2.1,p.2.2.1,([]:List (List Int)),PUnit.unit))∧
 ([((0:Nat),(1:Nat)),((0:Nat),(1:Nat)),((0:Nat),(1:Nat)),((0:Nat),(1:Nat)),((0:Nat),(1:Nat)),((0:Nat),(1:Nat)),
 ((0:Nat),(1:Nat)),((0:Nat),(1:Nat)),((0:Nat),(1:Nat)),((0:Nat),(1:Nat)),((0:Nat),(1:Nat)),((0:Nat),(1:Nat)),
 ((0:Nat),(0:Nat))]=
 [((0:Nat),(1:Nat)),((0:Nat),(1:Nat)),((0:Nat),(1:Nat)),((0:Nat),(1:Nat)),((0:Nat),(1:Nat)),((0:Nat),(1:Nat)),
 ((0:Nat),(1:Nat)),((0:Nat),(1:Nat)),((0:Nat),(1:Nat)),((0:Nat),(1:Nat)),((0:Nat),(1:Nat)),((0:Nat),(1:Nat)),
 ((0:Nat),(0:Nat))]∧
 (p,false,y4,p.1,p.2.1,p.2.2.1,y2,y3,!y3,p.1,y4,p.1,p.2.1,p.2.2.1,y4,y4,y6,p.1,p.2.1,p.2.2.1,p.1,p.2.1,
 p.2.2.1,[y4],[(0:Int)],Es (fun (_:ByteArray)=>none) y6 (0:Int),[(0:Int)],[(0:Int)],p.1,p.2.1,p.2.2.1,([]:List (List Int)),())=
 (p,false,y4,p.1,p.2.1,p.2.2.1,y2,y3,!y3,p.1,y4,p.1,p.2.1,p.2.2.1,y4,y4,y5,p.1,p.2.1,p.2.2.1,p.1,p.2.1,
 p.2.2.1,[y4],[(0:Int)],Es (fun (_:ByteArray)=>none) y5 (0:Int),[(0:Int)],[(0:Int)],p.1,p.2.1,p.2.2.1,([]:List (List Int)),PUnit.unit))∧
 [((0:Nat),(1:Nat)),((0:Nat),(1:Nat)),((0:Nat),(1:Nat)),((0:Nat),(1:Nat)),((0:Nat),(1:Nat)),((0:Nat),(1:Nat)),
 ((0:Nat),(1:Nat)),((0:Nat),(1:Nat)),((0:Nat),(1:Nat)),((0:Nat),(1:Nat)),((0:Nat),(1:Nat)),((0:Nat),(1:Nat)),
 ((0:Nat),(0:Nat))]=
 [((0:Nat),(1:Nat)),((0:Nat),(1:Nat)),((0:Nat),(1:Nat)),((0:Nat),(1:Nat)),((0:Nat),(1:Nat)),((0:Nat),(1:Nat)),
 ((0:Nat),(1:Nat)),((0:Nat),(1:Nat)),((0:Nat),(1:Nat)),((0:Nat),(1:Nat)),((0:Nat),(1:Nat)),((0:Nat),(1:Nat)),
 ((0:Nat),(0:Nat))]∧
 (p,false,y4,p.1,p.2.1,p.2.2.1,y2,y3,!y3,p.1,y4,p.1,p.2.1,p.2.2.1,y4,y4,y6,p.1,p.2.1,p.2.2.1,p.1,p.2.1,
 p.2.2.1,[y4],[(0:Int)],Es (fun (_:ByteArray)=>none) y6 (0:Int),[(0:Int)],[(0:Int)],p.1,p.2.1,p.2.2.1,([]:List (List Int)),())=
 (p,false,y4,p.1,p.2.1,p.2.2.1,y2,y3,!y3,p.1,y4,p.1,p.2.1,p.2.2.1,y4,y4,y5,p.1,p.2.1,p.2.2.1,p.1,p.2.1,
 p.2.2.1,[y4],[(0:Int)],Es (fun (_:ByteArray)=>none) y5 (0:Int),[(0:Int)],[(0:Int)],p.1,p.2.1,p.2.2.1,([]:List (List Int)),PUnit.unit))∧
 (([((0:Nat),(1:Nat)),((0:Nat),(1:Nat)),((0:Nat),(1:Nat)),((0:Nat),(1:Nat)),((0:Nat),(1:Nat)),((0:Nat),(1:Nat)),((0:Nat),(1:Nat)),
 ((0:Nat),(1:Nat)),((0:Nat),(1:Nat)),((0:Nat),(1:Nat)),((0:Nat),(1:Nat)),((0:Nat),(1:Nat)),((0:Nat),(0:Nat))]=
 [((0:Nat),(1:Nat)),((0:Nat),(1:Nat)),((0:Nat),(1:Nat)),((0:Nat),(1:Nat)),((0:Nat),(1:Nat)),((0:Nat),(1:Nat)),
 ((0:Nat),(1:Nat)),((0:Nat),(1:Nat)),((0:Nat),(1:Nat)),((0:Nat),(1:Nat)),((0:Nat),(1:Nat)),((0:Nat),(1:Nat)),
 ((0:Nat),(0:Nat))]∧
 (p,false,y4,p.1,p.2.1,p.2.2.1,y2,y3,!y3,p.1,y4,p.1,p.2.1,p.2.2.1,y4,y4,y6,p.1,p.2.1,p.2.2.1,p.1,p.2.1,
 p.2.2.1,[y4],[(0:Int)],Es (fun (_:ByteArray)=>none) y6 (0:Int),[(0:Int)],[(0:Int)],p.1,p.2.1,p.2.2.1,([]:List (List Int)),())=
 (p,false,y4,p.1,p.2.1,p.2.2.1,y2,y3,!y3,p.1,y4,p.1,p.2.1,p.2.2.1,y4,y4,y5,p.1,p.2.1,p.2.2.1,p.1,p.2.1,
 p.2.2.1,[y4],[(0:Int)],Es (fun (_:ByteArray)=>none) y5 (0:Int),[(0:Int)],[(0:Int)],p.1,p.2.1,p.2.2.1,([]:List (List Int)),PUnit.unit))∧
 ([((0:Nat),(1:Nat)),((0:Nat),(1:Nat)),((0:Nat),(1:Nat)),((0:Nat),(1:Nat)),((0:Nat),(1:Nat)),((0:Nat),(1:Nat)),
 ((0:Nat),(1:Nat)),((0:Nat),(1:Nat)),((0:Nat),(1:Nat)),((0:Nat),(1:Nat)),((0:Nat),(1:Nat)),((0:Nat),(1:Nat)),
 ((0:Nat),(0:Nat))]=
 [((0:Nat),(1:Nat)),((0:Nat),(1:Nat)),((0:Nat),(1:Nat)),((0:Nat),(1:Nat)),((0:Nat),(1:Nat)),((0:Nat),(1:Nat)),
 ((0:Nat),(1:Nat)),((0:Nat),(1:Nat)),((0:Nat),(1:Nat)),((0:Nat),(1:Nat)),((0:Nat),(1:Nat)),((0:Nat),(1:Nat)),
 ((0:Nat),(0:Nat))]∧
 (p,false,y4,p.1,p.2.1,p.2.2.1,y2,y3,!y3,p.1,y4,p.1,p.2.1,p.2.2.1,y4,y4,y6,p.1,p.2.1,p.2.2.1,p.1,p.2.1,
 p.2.2.1,[y4],[(0:Int)],Es (fun (_:ByteArray)=>none) y6 (0:Int),[(0:Int)],[(0:Int)],p.1,p.2.1,p.2.2.1,([]:List (List Int)),())=
 (p,false,y4,p.1,p.2.1,p.2.2.1,y2,y3,!y3,p.1,y4,p.1,p.2.1,p.2.2.1,y4,y4,y5,p.1,p.2.1,p.2.2.1,p.1,p.2.1,
 p.2.2.1,[y4],[(0:Int)],Es (fun (_:ByteArray)=>none) y5 (0:Int),[(0:Int)],[(0:Int)],p.1,p.2.1,p.2.2.1,([]:List (List Int)),PUnit.unit))∧
 [((0:Nat),(1:Nat)),((0:Nat),(1:Nat)),((0:Nat),(1:Nat)),((0:Nat),(1:Nat)),((0:Nat),(1:Nat)),((0:Nat),(1:Nat)),
 ((0:Nat),(1:Nat)),((0:Nat),(1:Nat)),((0:Nat),(1:Nat)),((0:Nat),(1:Nat)),((0:Nat),(1:Nat)),((0:Nat),(1:Nat)),
 ((0:Nat),(0:Nat))]=
 [((0:Nat),(1:Nat)),((0:Nat),(1:Nat)),((0:Nat),(1:Nat)),((0:Nat),(1:Nat)),((0:Nat),(1:Nat)),((0:Nat),(1:Nat)),
 ((0:Nat),(1:Nat)),((0:Nat),(1:Nat)),((0:Nat),(1:Nat)),((0:Nat),(1:Nat)),((0:Nat),(1:Nat)),((0:Nat),(1:Nat)),
 ((0:Nat),(0:Nat))]∧
 (p,false,y4,p.1,p.2.1,p.2.2.1,y2,y3,!y3,p.1,y4,p.1,p.2.1,p.2.2.1,y4,y4,y6,p.1,p.2.1,p.2.2.1,p.1,p.2.1,
 p.2.2.1,[y4],[(0:Int)],Es (fun (_:ByteArray)=>none) y6 (0:Int),[(0:Int)],[(0:Int)],p.1,p.2.1,p.2.2.1,([]:List (List Int)),())=
 (p,false,y4,p.1,p.2.1,p.2.2.1,y2,y3,!y3,p.1,y4,p.1,p.2.1,p.2.2.1,y4,y4,y5,p.1,p.2.1,p.2.2.1,p.1,p.2.1,
 p.2.2.1,[y4],[(0:Int)],Es (fun (_:ByteArray)=>none) y5 (0:Int),[(0:Int)],[(0:Int)],p.1,p.2.1,p.2.2.1,([]:List (List Int)),PUnit.unit))∧
 (([((0:Nat),(1:Nat)),((0:Nat),(1:Nat)),((0:Nat),(1:Nat)),((0:Nat),(1:Nat)),((0:Nat),(1:Nat)),((0:Nat),(1:Nat)),
 ((0:Nat),(1:Nat)),((0:Nat),(1:Nat)),((0:Nat),(1:Nat)),((0:Nat),(1:Nat)),((0:Nat),(1:Nat)),((0:Nat),(1:Nat)),
 ((0:Nat),(0:Nat))]=
 [((0:Nat),(1:Nat)),((0:Nat),(1:Nat)),((0:Nat),(1:Nat)),((0:Nat),(1:Nat)),((0:Nat),(1:Nat)),((0:Nat),(1:Nat)),
 ((0:Nat),(1:Nat)),((0:Nat),(1:Nat)),((0:Nat),(1:Nat)),((0:Nat),(1:Nat)),((0:Nat),(1:Nat)),((0:Nat),(1:Nat)),
 ((0:Nat),(0:Nat))]∧
 (p,false,y4,p.1,p.2.1,p.2.2.1,y2,y3,!y3,p.1,y4,p.1,p.2.1,p.2.2.1,y4,y4,y6,p.1,p.2.1,p.2.2.1,p.1,p.2.1,
 p.2.2.1,[y4],[(0:Int)],Es (fun (_:ByteArray)=>none) y6 (0:Int),[(0:Int)],[(0:Int)],p.1,p.2.1,p.2.2.1,([]:List (List Int)),())=
 (p,false,y4,p.1,p.2.1,p.2.2.1,y2,y3,!y3,p.1,y4,p.1,p.2.1,p.2.2.1,y4,y4,y5,p.1,p.2.1,p.2.2.1,p.1,p.2.1,
 p.2.2.1,[y4],[(0:Int)],Es (fun (_:ByteArray)=>none) y5 (0:Int),[(0:Int)],[(0:Int)],p.1,p.2.1,p.2.2.1,([]:List (List Int)),PUnit.unit))∧
 [((0:Nat),(1:Nat)),((0:Nat),(1:Nat)),((0:Nat),(1:Nat)),((0:Nat),(1:Nat)),((0:Nat),(1:Nat)),((0:Nat),(1:Nat)),
 ((0:Nat),(1:Nat)),((0:Nat),(1:Nat)),((0:Nat),(1:Nat)),((0:Nat),(1:Nat)),((0:Nat),(1:Nat)),((0:Nat),(1:Nat)),
 ((0:Nat),(0:Nat))]=
 [((0:Nat),(1:Nat)),((0:Nat),(1:Nat)),((0:Nat),(1:Nat)),((0:Nat),(1:Nat)),((0:Nat),(1:Nat)),((0:Nat),(1:Nat)),
 ((0:Nat),(1:Nat)),((0:Nat),(1:Nat)),((0:Nat),(1:Nat)),((0:Nat),(1:Nat)),((0:Nat),(1:Nat)),((0:Nat),(1:Nat)),
 ((0:Nat),(0:Nat))]∧
 (p,false,y4,p.1,p.2.1,p.2.2.1,y2,y3,!y3,p.1,y4,p.1,p.2.1,p.2.2.1,y4,y4,y6,p.1,p.2.1,p.2.2.1,p.1,p.2.1,
 p.2.2.1,[y4],[(0:Int)],Es (fun (_:ByteArray)=>none) y6 (0:Int),[(0:Int)],[(0:Int)],p.1,p.2.1,p.2.2.1,([]:List (List Int)),())=
 (p,false,y4,p.1,p.2.1,p.2.2.1,y2,y3,!y3,p.1,y4,p.1,p.2.1,p.2.2.1,y4,y4,y5,p.1,p.2.1,p.2.2.1,p.1,p.2.1,
 p.2.2.1,[y4],[(0:Int)],Es (fun (_:ByteArray)=>none) y5 (0:Int),[(0:Int)],[(0:Int)],p.1,p.2.1,p.2.2.1,([]:List (List Int)),PUnit.unit))∧
 (([((0:Nat),(1:Nat)),((0:Nat),(1:Nat)),((0:Nat),(1:Nat)),((0:Nat),(1:Nat)),((0:Nat),(1:Nat)),((0:Nat),(1:Nat)),
 ((0:Nat),(1:Nat)),((0:Nat),(1:Nat)),((0:Nat),(1:Nat)),((0:Nat),(1:Nat)),((0:Nat),(1:Nat)),((0:Nat),(1:Nat)),
 ((0:Nat),(0:Nat))]=
 [((0:Nat),(1:Nat)),((0:Nat),(1:Nat)),((0:Nat),(1:Nat)),((0:Nat),(1:Nat)),((0:Nat),(1:Nat)),((0:Nat),(1:Nat)),
 ((0:Nat),(1:Nat)),((0:Nat),(1:Nat)),((0:Nat),(1:Nat)),((0:Nat),(1:Nat)),((0:Nat),(1:Nat)),((0:Nat),(1:Nat)),
 ((0:Nat),(0:Nat))]∧
 (p,false,y4,p.1,p.2.1,p.2.2.1,y2,y3,!y3,p.1,y4,p.1,p.2.1,p.2.2.1,y4,y4,y6,p.1,p.2.1,p.2.2.1,p.1,p.2.1,
 p.2.2.1,[y4],[(0:Int)],Es (fun (_:ByteArray)=>none) y6 (0:Int),[(0:Int)],[(0:Int)],p.1,p.2.1,p.2.2.1,([]:List (List Int)),())=
 (p,false,y4,p.1,p.2.1,p.2.2.1,y2,y3,!y3,p.1,y4,p.1,p.2.1,p.2.2.1,y4,y4,y5,p.1,p.2.1,p.2.2.1,p.1,p.2.1,
 p.2.2.1,[y4],[(0:Int)],Es (fun (_:ByteArray)=>none) y5 (0:Int),[(0:Int)],[(0:Int)],p.1,p.2.1,p.2.2.1,([]:List (List Int)),PUnit.unit))∧
 [((0:Nat),(1:Nat)),((0:Nat),(1:Nat)),((0:Nat),(1:Nat)),((0:Nat),(1:Nat)),((0:Nat),(1:Nat)),((0:Nat),(1:Nat)),
 ((0:Nat),(1:Nat)),((0:Nat),(1:Nat)),((0:Nat),(1:Nat)),((0:Nat),(1:Nat)),((0:Nat),(1:Nat)),((0:Nat),(1:Nat)),
 ((0:Nat),(0:Nat))]=
 [((0:Nat),(1:Nat)),((0:Nat),(1:Nat)),((0:Nat),(1:Nat)),((0:Nat),(1:Nat)),((0:Nat),(1:Nat)),((0:Nat),(1:Nat)),
 ((0:Nat),(1:Nat)),((0:Nat),(1:Nat)),((0:Nat),(1:Nat)),((0:Nat),(1:Nat)),((0:Nat),(1:Nat)),((0:Nat),(1:Nat)),
 ((0:Nat),(0:Nat))]∧
 (p,false,y4,p.1,p.2.1,p.2.2.1,y2,y3,!y3,p.1,y4,p.1,p.2.1,p.2.2.1,y4,y4,y6,p.1,p.2.1,p.2.2.1,p.1,p.2.1,
 p.2.2.1,[y4],[(0:Int)],Es (fun (_:ByteArray)=>none) y6 (0:Int),[(0:Int)],[(0:Int)],p.1,p.2.1,p.2.2.1,([]:List (List Int)),())=
 (p,false,y4,p.1,p.2.1,p.2.2.1,y2,y3,!y3,p.1,y4,p.1,p.2.1,p.2.2.1,y4,y4,y5,p.1,p.2.1,p.2.2.1,p.1,p.2.1,
 p.2.2.1,[y4],[(0:Int)],Es (fun (_:ByteArray)=>none) y5 (0:Int),[(0:Int)],[(0:Int)],p.1,p.2.1,p.2.2.1,([]:List (List Int)),PUnit.unit))∧
 ([((0:Nat),(1:Nat)),((0:Nat),(1:Nat)),((0:Nat),(1:Nat)),((0:Nat),(1:Nat)),((0:Nat),(1:Nat)),((0:Nat),(1:Nat)),
 ((0:Nat),(1:Nat)),((0:Nat),(1:Nat)),((0:Nat),(1:Nat)),((0:Nat),(1:Nat)),((0:Nat),(1:Nat)),((0:Nat),(1:Nat)),
 ((0:Nat),(0:Nat))]=
 [((0:Nat),(1:Nat)),((0:Nat),(1:Nat)),((0:Nat),(1:Nat)),((0:Nat),(1:Nat)),((0:Nat),(1:Nat)),((0:Nat),(1:Nat)),
 ((0:Nat),(1:Nat)),((0:Nat),(1:Nat)),((0:Nat),(1:Nat)),((0:Nat),(1:Nat)),((0:Nat),(1:Nat)),((0:Nat),(1:Nat)),
 ((0:Nat),(0:Nat))]∧
 (p,false,y4,p.1,p.2.1,p.2.2.1,y2,y3,!y3,p.1,y4,p.1,p.2.1,p.2.2.1,y4,y4,y6,p.1,p.2.1,p.2.2.1,p.1,p.2.1,
 p.2.2.1,[y4],[(0:Int)],Es (fun (_:ByteArray)=>none) y6 (0:Int),[(0:Int)],[(0:Int)],p.1,p.2.1,p.2.2.1,([]:List (List Int)),())=
 (p,false,y4,p.1,p.2.1,p.2.2.1,y2,y3,!y3,p.1,y4,p.1,p.2.1,p.2.2.1,y4,y4,y5,p.1,p.2.1,p.2.2.1,p.1,p.2.1,
 p.2.2.1,[y4],[(0:Int)],Es (fun (_:ByteArray)=>none) y5 (0:Int),[(0:Int)],[(0:Int)],p.1,p.2.1,p.2.2.1,([]:List (List Int)),PUnit.unit))∧
 [((0:Nat),(1:Nat)),((0:Nat),(1:Nat)),((0:Nat),(1:Nat)),((0:Nat),(1:Nat)),((0:Nat),(1:Nat)),((0:Nat),(1:Nat)),
 ((0:Nat),(1:Nat)),((0:Nat),(1:Nat)),((0:Nat),(1:Nat)),((0:Nat),(1:Nat)),((0:Nat),(1:Nat)),((0:Nat),(1:Nat)),
 ((0:Nat),(0:Nat))]=
 [((0:Nat),(1:Nat)),((0:Nat),(1:Nat)),((0:Nat),(1:Nat)),((0:Nat),(1:Nat)),((0:Nat),(1:Nat)),((0:Nat),(1:Nat)),
 ((0:Nat),(1:Nat)),((0:Nat),(1:Nat)),((0:Nat),(1:Nat)),((0:Nat),(1:Nat)),((0:Nat),(1:Nat)),((0:Nat),(1:Nat)),
 ((0:Nat),(0:Nat))]∧
 (p,false,y4,p.1,p.2.1,p.2.2.1,y2,y3,!y3,p.1,y4,p.1,p.2.1,p.2.2.1,y4,y4,y6,p.1,p.2.1,p.2.2.1,p.1,p.2.1,
 p.2.2.1,[y4],[(0:Int)],Es (fun (_:ByteArray)=>none) y6 (0:Int),[(0:Int)],[(0:Int)],p.1,p.2.1,p.2.2.1,([]:List (List Int)),())=
 (p,false,y4,p.1,p.2.1,p.2.2.1,y2,y3,!y3,p.1,y4,p.1,p.2.1,p.2.2.1,y4,y4,y5,p.1,p.2.1,p.2.2.1,p.1,p.2.1,
 p.2.2.1,[y4],[(0:Int)],Es (fun (_:ByteArray)=>none) y5 (0:Int),[(0:Int)],[(0:Int)],p.1,p.2.1,p.2.2.1,[],PUnit.unit)))=fnW tab (look [(109,Jr),(108,Bc),(110,Lk),(111,Dk),(112,Jp),(113,Aae),(67,Pp)]) Lj Try.f61 (p,()) P:=by kernel_rfl
theorem Aid {g:List (List Int)} {k:Int} {x:List Int} {d:Int} : ∀(ls:List Int) (s:EX) (row:List Int) (L':List (List Int)) (D':List Int),Fv g x d ls s.1 s.2.1=(L',D',true)→
  (Aic g k x d ls s row).1.1=L'∧(Aic g k x d ls s row).1.2.1=D'
 | [],s,row,L',D',h=>by
  simp only [Fv,Prod.mk.injEq] at h
  exact ⟨h.1,h.2.1⟩
 |l::ls,s,row,L',D',h=>by
  simp only [Fv] at h
  simp only [Aic]
  by_cases hm:Aa x (Af g l)∈s.1
  ·rw [if_pos hm] at h
   rw [if_pos hm]
   exact Aid ls s _ L' D' h
  ·rw [if_neg hm] at h
   rw [if_neg hm]
   by_cases hf:s.1.length=3000
   ·rw [if_pos hf] at h
    simp at h
   ·rw [if_neg hf] at h
    exact Aid ls _ _ L' D' h
theorem Ar4 {g:List (List Int)} {ls:List Int} : ∀(f k:Nat) (s:EX) (N:List (List Int)) (L':List (List Int)) (D':List Int),Hd g ls f k s.1 s.2.1=(L',D',true)→
  (Aks g ls f k s N).1.1=L'∧(Aks g ls f k s N).1.2.1=D'
 |0,k,s,N,L',D',h=>by
  simp only [Hd,Prod.mk.injEq] at h
  exact ⟨h.1,h.2.1⟩
 |f+1,k,s,N,L',D',h=>by
  simp only [Hd] at h
  simp only [Aks]
  by_cases hk:k<s.1.length
  ·rw [if_pos hk] at h
   rw [if_pos hk]
   split at h
   ·rename_i L1 D1 he
    obtain ⟨a1,a2⟩:=Aid (k:=(k:Int)) ls s [] L1 D1 he
    refine Ar4 f (k+1) _ _ L' D' ?_
    rw [a1,a2]
    exact h
   ·simp at h
  ·rw [if_neg hk] at h
   rw [if_neg hk]
   simp only [Prod.mk.injEq] at h
   exact ⟨h.1,h.2.1⟩
theorem Adp {key:ByteArray} {x:List Int} : ∀(L:List (List Int)) (i:Nat),Ym key (L++ [x]) i=if (Ym key L i).isSome=true then Ym key L i else if Ju x=key then some ((i+L.length:Nat):Int) else none
 | [],i=>by simp [Ym]
 |y::L,i=>by
  simp only [List.cons_append,Ym]
  split
  ·rfl
  ·rw [Adp L (i+1),List.length_cons,show i+1+L.length=i+(L.length+1) by omega]
theorem Af1 {x:List Int} (hx:Me x): ∀(L:List (List Int)) (i:Nat),(∀y∈L,Me y)→Ym (Ju x) L i=if x∈L then some ((i+L.idxOf x:Nat):Int) else none
 | [],i,_=>by simp [Ym]
 |y::L,i,h=>by
  have hy:=h y (by simp)
  simp only [Ym]
  by_cases e:y=x
  ·subst e
   rw [if_pos rfl,if_pos (by simp),List.idxOf_cons_self]
   rfl
  ·rw [if_neg fun hk=>e (key_inj hy hx hk),Af1 hx L (i+1) fun z hz=>h z (List.mem_cons_of_mem _ hz),show List.idxOf x (y::L)=(List.idxOf x L).succ by rw [List.idxOf_cons,beq_false_of_ne e];rfl]
   have:(x∈y::L)↔(x∈L):=by simp [Ne.symm e]
   by_cases hm:x∈L
   ·rw [if_pos hm,if_pos (this.2 hm),show i+1+List.idxOf x L=i+(List.idxOf x L).succ by omega]
   ·rw [if_neg hm,if_neg fun h=>hm (this.1 h)]
theorem Aml {x:List Int} {L:List (List Int)} (hx:Me x) (hL: ∀y∈L,Me y):Nn L (Ju x)=if x∈L then some (L.idxOf x:Int) else none:=by
 unfold Nn
 rw [Af1 hx L 0 hL,Nat.zero_add]
theorem Amk {x:List Int} {L:List (List Int)} (hx:Me x) (hL: ∀y∈L,Me y) (hn:x∉L):Es (Nn L) (Ju x) (L.length:Int)=Nn (L++ [x]):=by
 funext key
 unfold Es Nn
 rw [Adp,Nat.zero_add]
 by_cases e:key=Ju x
 ·subst e
  rw [if_pos rfl,Af1 hx L 0 hL,if_neg hn,if_neg (by simp),if_pos rfl]
 ·rw [if_neg e,if_neg (c:=Ju x=key) fun h=>e h.symm]
  split
  ·rfl
  ·rename_i h
   cases hk:Ym key L 0 with
   |none=>rfl
   |some v=>rw [hk] at h;simp at h
theorem Atw (p:PP):Fu (Ls p) 1 3000=Fc p:=by
 unfold Fc
 by_cases hv:Be p=true
 ·rw [hv,Bool.true_and,Aqz hv]
  rfl
 ·have hv:Be p=false:=by simpa using hv
  rw [hv,Bool.false_and]
  have:Ls p=0:=by unfold Ls;rw [if_neg (by simp [hv])]
  rw [this]
  rfl
theorem Ay7 (p:PP) (h:Dl p):fnW tab (look [(109,Jr),(108,Bc),(110,Lk),(111,Dk),(112,Jp),(113,Aae),(67,Pp)]) Lj Try.f61 (p,()) (fun (z:Option (PP×List (List Int)×List Int×(ByteArray→Option Int)×List Int×List Int×List (List Int)×Unit)×Bool×Unit)=>z=(if Fc p=true then (some (Mr p),true,()) else (none,false,()))):=by
 refine Eq.mp (Az9 p _) ⟨_,if_pos h,_,if_pos trivial,?_⟩
 show Br (!Fu (Ls p) 1 3000) _ _
 rw [Atw p]
 refine Br.of (fun hb=>?_) fun hb=>?_
 ·rw [if_neg (by simpa using hb)]
 have hw:Fc p=true:=by simpa using hb
 rw [if_pos hw]
 obtain ⟨hv,hbw⟩:=Bool.and_eq_true_iff.1 hw
 have hV:=valid hv
 have hfew:=hV.few
 have hn:=hV.n
 obtain ⟨pn,ps,g,⟨⟩⟩:=p
 dsimp only at hfew hn hbw⊢
 have hI:(upto pn.toNat).length≤20:=by rw [Ri];omega
 have hIr: ∀y∈upto pn.toNat,0≤y∧y<pn:=fun y hy=>by have:=Il.1 hy;omega
 have hb0:=Zw (p:=(pn,ps,g,())) hI hIr
 obtain ⟨ls,hls⟩: ∃ls,Bd g.length=ls:=⟨_,rfl⟩
 have hll:ls.length≤16:=by rw [←hls,Kk];omega
 have hmem: ∀l∈ls,Gb (List.length g) l:=fun l hl=>Lf (hls▸hl)
 have hbyte: ∀x:List Int,(∀y∈x,0≤y∧y<pn)→Me x:=fun x hx y hy=>by have:=hx y hy;omega
 have hstart:Hd g ls 3001 0 [upto pn.toNat] [0]=Fl g (upto pn.toNat):=by unfold Fl;rw [hls]
 have hk0:Es (fun (_:ByteArray)=>(none:Option Int)) (Ju (upto pn.toNat)) 0=Nn [upto pn.toNat]:=by
  have:=Amk (L:= []) (hbyte _ hIr) (fun y hy=>by cases hy) (by simp)
  exact this
 refine ⟨upto pn.toNat,if_pos ⟨by show (0:Int)≤pn;omega,by show pn≤20;omega⟩,Ju (upto pn.toNat),if_pos (by show short (upto pn.toNat);unfold short;omega),⟨ls,?_,rfl,rfl,rfl,rfl,rfl,rfl,rfl,rfl,rfl,rfl,?_⟩,?_⟩
 ·refine (if_pos ⟨by show (0:Int)≤((g.length:Nat):Int);omega,by show ((g.length:Nat):Int)≤8;omega⟩).trans (congrArg some ?_)
  show Bd (((g.length:Nat):Int)).toNat=ls
  rw [Int.toNat_natCast];exact hls
 ·obtain ⟨R,hR⟩: ∃R,Aks g ls 3001 0 ([upto pn.toNat],[0],[0],[0]) []=R:=⟨_,rfl⟩
  have hexp:Mr (pn,ps,g,())=Beg (pn,ps,g,()) R:=by unfold Mr;rw [hls];exact congrArg _ hR
  rw [hexp]
  refine Cc.mk (fun v=> ∃(k:Nat) (s:EX) (N:List (List Int)),v=((k:Int),pn,ps,g,s.1,s.2.1,Nn s.1,s.2.2.1,s.2.2.2,pn,ps,g,N,())∧k≤s.1.length∧Oo (pn,ps,g,()) (upto pn.toNat).length s.1 s.2.1∧s.2.2.1.length=s.1.length∧s.2.2.2.length=s.1.length∧N.length=k∧
    Hd g ls (3001-k) k s.1 s.2.1=Fl g (upto pn.toNat)∧Aks g ls (3001-k) k s N=R) (fun v=>3001-v.1.toNat)
   ⟨0,([upto pn.toNat],[0],[0],[0]),[],?_,by simp,hb0,rfl,rfl,rfl,hstart,hR⟩ ?_
  ·rw [←hk0];rfl
  rintro v ⟨k,s0,N,rfl,h1,h2,h3,h4,h5,h6,h7⟩
  obtain ⟨L0,D0,P0,B0⟩:=s0
  dsimp only at h1 h2 h3 h4 h6 h7⊢
  have hL0:=h2.ok.few
  have hD0:=h2.len
  obtain ⟨f,hf⟩: ∃f,3001-k=f+1:=⟨3000-k,by omega⟩
  refine Br.dec (fun hl=>?_) fun hl=>?_
  ·have hk:k<L0.length:=by omega
   have hkD:k<D0.length:=by omega
   have hx: ∀y∈L0[k],0≤y∧y<pn:=h2.row _ (List.getElem_mem hk)
   have hxl:L0[k].length=(upto pn.toNat).length:=h2.ok.len _ (List.getElem_mem hk)
   have hdk:=h2.dep k hkD
   have hxe:L0.getD k []=L0[k]:=Lp hk
   have hde:D0.getD k 0=D0[k]:=by rw [List.getD_eq_getElem?_getD,List.getElem?_eq_getElem hkD];rfl
   have hgo: ∀L' D' ok,Fv g L0[k] D0[k] ls L0 D0=(L',D',ok)→Fl g (upto pn.toNat)=if ok=true then Hd g ls f (k+1) L' D' else (L',D',false):=by
    intro L' D' ok he
    rw [←h6,hf,Hd,if_pos hk,hxe,hde,he]
    cases ok<;>rfl
   obtain ⟨E,hE⟩: ∃E,Aic g (k:Int) L0[k] D0[k] ls (L0,D0,P0,B0) []=E:=⟨_,rfl⟩
   have hex:R=Aks g ls f (k+1) E.1 (N++ [E.2]):=by
    rw [←h7,hf,Aks,if_pos hk]
    dsimp only
    rw [hxe,hde,hE]
   refine ⟨⟨by omega,by omega⟩,L0[k],by rw [Int.toNat_natCast,Nat.zero_add];exact List.getElem?_eq_getElem hk,ls.map (fun l=>Aa L0[k] (Af g l)),?_,?_⟩
   ·refine (if_pos ⟨hv,by show L0[k].length≤20;omega,hx⟩).trans (congrArg some ?_)
    show Aoq g L0[k]=_
    unfold Aoq
    rw [hls]
   refine ⟨rfl,rfl,rfl,rfl,rfl,rfl,rfl,rfl,rfl,rfl,rfl,rfl,?_⟩
   obtain ⟨nb,hnb⟩: ∃nb,ls.map (fun l=>Aa L0[k] (Af g l))=nb:=⟨_,rfl⟩
   have hnl:nb.length=ls.length:=by rw [←hnb,List.length_map]
   have hni: ∀i (h:i<ls.length),nb[i]'(by omega)=Aa L0[k] (Af g ls[i]):=fun i h=>by simp only [←hnb,List.getElem_map]
   rw [hnb]
   refine Cc.mk (fun v=> ∃(i:Nat) (row:List Int) (s:EX),v=((i:Int),pn,ps,g,row,s.1,s.2.1,Nn s.1,s.2.2.1,s.2.2.2,pn,ps,g,N,())∧i≤ls.length∧row.length=i∧Oo (pn,ps,g,()) (upto pn.toNat).length s.1 s.2.1∧s.2.2.1.length=s.1.length∧s.2.2.2.length=s.1.length∧
     (∃A,s.1=L0++A)∧(∃A,s.2.1=D0++A)∧Fv g L0[k] D0[k] (ls.drop i) s.1 s.2.1=Fv g L0[k] D0[k] ls L0 D0∧Aic g (k:Int) L0[k] D0[k] (ls.drop i) s row=E) (fun v=>ls.length-v.1.toNat)
    ⟨0,[],(L0,D0,P0,B0),rfl,Nat.zero_le _,rfl,h2,h3,h4,⟨[],by simp⟩,⟨[],by simp⟩,rfl,hE⟩ ?_
   rintro v ⟨i,row,s,rfl,g1,g2,g3,g4,g5,⟨A,g6⟩,⟨A',g7⟩,g8,g9⟩
   obtain ⟨L,D,Pa,By⟩:=s
   dsimp only at g3 g4 g5 g6 g7 g8 g9⊢
   have hLf:=g3.ok.few
   have hDl:=g3.len
   refine Br.dec (fun hli=>?_) fun hli=>?_
   ·have hi:i<ls.length:=by omega
    have hkL:k<L.length:=by rw [g6,List.length_append];omega
    have hkD2:k<D.length:=by rw [hDl];exact hkL
    have hDk:D[k]=D0[k]:=by simp only [g7];exact List.getElem_append_left hkD
    have hlet:=hmem _ (List.getElem_mem hi)
    obtain ⟨nl,nr⟩:=Aot hV hx hlet
    dsimp only at nl nr
    rw [List.drop_eq_getElem_cons hi] at g8 g9
    simp only [Fv] at g8
    simp only [Aic] at g9
    have hyb:=hbyte _ nr
    refine ⟨_,Aq (by omega),?_⟩
    rw [hni i hi]
    generalize hyv:Aa L0[k] (Af g ls[i])=yv at*
    refine ⟨Ju yv,if_pos (by show short yv;unfold short;rw [nl];omega),?_⟩
    rw [Aml hyb fun y hy=>hbyte _ (g3.row y hy)]
    refine Br.of (fun hin=>?_) fun hin=>?_
    ·have hin:yv∉L:=fun hm=>by rw [if_pos hm] at hin;simp at hin
     rw [if_neg hin] at g8 g9
     by_cases hfull:L.length=3000
     ·rw [if_pos hfull] at g8
      have:=hgo _ _ _ g8.symm
      rw [if_neg (by decide)] at this
      rw [this] at hbw
      cases hbw
     rw [if_neg hfull] at g8
     refine ⟨_,if_pos trivial,rfl,rfl,?_,⟨by omega,by omega⟩,D0[k],?_,rfl,rfl,?_,rfl,rfl,?_,_,Aq hi,rfl,rfl,?_,rfl,rfl,?_,rfl,rfl,rfl,rfl,rfl,rfl,rfl,rfl,rfl,rfl,rfl,rfl,?_⟩
     ·show L.length+1≤4294967296;omega
     ·rw [Int.toNat_natCast,Nat.zero_add,List.getElem?_eq_getElem hkD2,hDk]
     ·show D.length+1≤4294967296;omega
     ·show Pa.length+1≤4294967296;omega
     ·show By.length+1≤4294967296;omega
     ·show row.length+1≤4294967296;omega
     ·dsimp only
      rw [Db L,Bu (n:=D0[k]+1) (by omega) (by omega),Ak (by omega),Amk hyb (fun y hy=>hbyte _ (g3.row y hy)) hin]
      refine ⟨⟨i+1,row++ [(L.length:Int)],(L++ [yv],D++ [D0[k]+1],Pa++ [(k:Int)],By++ [ls[i]]),rfl,hi,by rw [List.length_append,g2];rfl,g3.add hin (by rw [nl,hxl]) (by omega) nr ⟨by omega,by omega⟩,?_,?_,⟨A++ [yv],by rw [g6,List.append_assoc]⟩,⟨A'++ [D0[k]+1],by rw [g7,List.append_assoc]⟩,g8,g9⟩,by omega⟩
      ·simp [g4]
      ·simp [g5]
    ·have hin:yv∈L:=Classical.byContradiction fun hm=>by rw [if_neg hm] at hin;simp at hin
     rw [if_pos hin] at g8 g9
     rw [if_pos hin]
     refine ⟨rfl,rfl,?_,rfl,rfl,rfl,rfl,rfl,rfl,rfl,rfl,rfl,rfl,rfl,rfl,?_⟩
     ·show row.length+1≤4294967296;omega
     ·rw [Ak (by omega)]
      exact ⟨⟨i+1,row++ [(L.idxOf yv:Int)],(L,D,Pa,By),rfl,hi,by rw [List.length_append,g2];rfl,g3,g4,g5,⟨A,g6⟩,⟨A',g7⟩,g8,g9⟩,by omega⟩
   ·have:i=ls.length:=by omega
    subst this
    rw [List.drop_length,Fv] at g8
    rw [List.drop_length,Aic] at g9
    have:=hgo _ _ _ g8.symm
    rw [if_pos rfl] at this
    rw [Db row,Ak (by omega)]
    refine ⟨rfl,rfl,?_,rfl,rfl,rfl,rfl,rfl,rfl,rfl,rfl,rfl,rfl,⟨k+1,(L,D,Pa,By),N++ [row],rfl,by rw [g6,List.length_append];omega,g3,g4,g5,by rw [List.length_append,h5];rfl,?_,?_⟩,by omega⟩
    ·show N.length+1≤4294967296;omega
    ·rw [show 3001-(k+1)=f by omega]
     exact this.symm
    ·rw [show 3001-(k+1)=f by omega,hex,←g9]
  ·have hk:k=L0.length:=by omega
   rw [hf,Aks,if_neg (by show ¬k<L0.length;omega)] at h7
   subst h7
   simp only [List.drop_zero,List.take_length]
   rfl
 ·have hkey:Dk.fn (upto pn.toNat,())=some (Ju (upto pn.toNat)):=if_pos (by show short (upto pn.toNat);unfold short;omega)
  repeat' (first|exact ⟨rfl,rfl⟩|refine ⟨_,hkey,?_⟩|refine ⟨?_,?_⟩)
theorem Alh:Sound Try.prog 61 Lj:=
 Sound.mkS Bp (Ad Afr (Ad Js (Ad Xa (Ad Zh (Ad Ab3 (Ad At7 (Ad Agp As))))))) mixed Try.func61 (by kernel_rfl) (by kernel_rfl) fun x h=>Ay7 x.1 h
end Go.Proofs.Ytebabhocakedaaa

namespace Go.Proofs.Ytebabhocakedaaa
open Go.RowKit
abbrev XP:Type:=PP×List (List Int)×List Int×(ByteArray→Option Int)×List Int×List Int×List (List Int)×Unit
noncomputable def Eo (p:PP):List (List Int):=(Fl p.2.2.1 (upto p.1.toNat)).1
noncomputable def Aiu (p:PP):List Int:=(Fl p.2.2.1 (upto p.1.toNat)).2.1
def Bed (e:XP):Prop:=Fc e.1=true∧e=Mr e.1
noncomputable def As0 (p:PP) (s:List Int):Int×Bool×Unit:=if s∈Eo p then ((List.idxOf s (Eo p):Nat),true,()) else (0,false,())
noncomputable def Kp (p:PP) (s:List Int):Bool:=Fc p&&decide (s∈Eo p)
noncomputable def Bah (e:Option XP) (s:List Int):Int×Bool×Unit:=match e with|some e=>As0 e.1 s|none=>(0,false,())
noncomputable abbrev Afj:Spec:=mkS (.pair (.optr Aee) (.pair tL .unit)) (.pair tI (.pair .bool .unit)) true true (fun x=>(∃e:XP,x.1=some e∧Bed e)∧short x.2.1) (fun x=>Bah x.1 x.2.1)
noncomputable def Pv (p:PP) (s:List Int):Option XP×Int×Bool×Unit:=if Fc p=true then (some (Mr p),(As0 p s).1,(As0 p s).2.1,()) else (none,0,false,())
noncomputable abbrev Py:Spec:=mkS (.pair Cy (.pair tL .unit)) (.pair (.optr Aee) (.pair tI (.pair .bool .unit))) true false (fun x=>Dl x.1∧short x.2.1) (fun x=>Pv x.1 x.2.1)
abbrev Bey:Ty:= .clo 104 (.pair (.ptr tL) .unit)
def Ow (goal s:List Int):Bool:=List.all goal fun x=>decide (Gg s x=x)
noncomputable abbrev Afl:Spec:=mkS (.pair tI (.pair (.ptr tL) .unit)) .bool false true (fun x=>short x.2.1∧0≤x.1∧x.1<List.length x.2.1) (fun x=>!decide (Gg x.2.1 x.1=x.1))
noncomputable abbrev Anb:Spec:=mkS (.pair tL (.pair Bey .unit)) tI false true (fun x=>short x.1∧short x.2.1.1∧Ho (List.length x.2.1.1) x.1) (fun x=>Cr (fun y=>!decide (Gg x.2.1.1 y=y)) x.1 0)
noncomputable abbrev An6:Spec:=mkS (.pair tL (.pair Bey .unit)) .bool false true (fun x=>short x.1∧short x.2.1.1∧Ho (List.length x.2.1.1) x.1) (fun x=>List.any x.1 (fun y=>!decide (Gg x.2.1.1 y=y)))
noncomputable abbrev Ek:Spec:=mkS (.pair tL (.pair tL .unit)) .bool false true (fun x=>short x.1∧short x.2.1∧Ho (List.length x.2.1) x.1) (fun x=>Ow x.1 x.2.1)
noncomputable def Vi (p:PP):SS×Bool×Unit:=if Be p=true then (Gu p.2.2.1 (upto p.1.toNat),Fc p,()) else (([],[],[],false,()),false,())
noncomputable abbrev Nc:Spec:=mkS (.pair Cy .unit) (.pair Wf (.pair .bool .unit)) true false (fun x=>Dl x.1) (fun x=>Vi x.1)
noncomputable abbrev Pz:Spec:=mkS (.pair Cy (.pair Wf (.pair tL .unit))) .bool false true (fun x=>Dl x.1∧short x.2.2.1∧Be x.1=true∧x.2.1=Gu x.1.2.2.1 (upto x.1.1.toNat)) (fun x=>decide (x.2.2.1∈Eo x.1))
noncomputable abbrev Jq:Spec:=mkS (.pair Cy (.pair tL .unit)) .bool false true (fun x=>Dl x.1∧short x.2.1) (fun x=>Kp x.1 x.2.1)
noncomputable def Ms (p:PP) (goals:List (List Int)) (s:List Int):Int:=if (Kp p s&&Jg p goals)=true then ((goals.countP fun g=>Ow g s:Nat):Int) else-1
noncomputable abbrev Fh:Spec:=mkS (.pair Cy (.pair tLL (.pair tL .unit))) tI false true (fun x=>Dl x.1∧Ee x.2.1∧short x.2.2.1) (fun x=>Ms x.1 x.2.1 x.2.2.1)
noncomputable abbrev Afk:Spec:=mkS (.pair Cy (.pair tLL (.pair tL .unit))) .bool false true (fun x=>Dl x.1∧Ee x.2.1∧short x.2.2.1) (fun _=>true)
theorem Be5 (e:Option (PP×List (List Int)×List Int×(ByteArray→Option Int)×List Int×List Int×List (List Int)×Unit)) (s:List Int) (P:(Int×Bool×Unit)→Prop):(∃(y3:(Int×ByteArray×List (List Int)×PUnit)×List (List Int)×List Int×(ByteArray→Option Int)×List Int×List Int×List (List Int)×PUnit),
 e=some y3∧
 ∃(y4:Bool),
 My.fn (y3.1,s,())=some y4∧
 Br (!y4) (P ((0:Int),false,()))
 (∃(y5:(Int×ByteArray×List (List Int)×PUnit)×List (List Int)×List Int×(ByteArray→Option Int)×List Int×List Int×List (List Int)×PUnit),
 e=some y5∧ ∃(y6:ByteArray),Dk.fn (s,())=some y6∧P ((y5.2.2.2.1 y6).getD (Int.ofNat (nat_lit 0)),(y5.2.2.2.1 y6).isSome,())))=fnW tab (look [(150,My),(111,Dk)]) Afj Try.f101 (e,s,()) P:=by kernel_rfl
theorem Anl (p:Int×ByteArray×List (List Int)×Unit) (s:List Int) (P:(Option (PP×List (List Int)×List Int×(ByteArray→Option Int)×List Int×List Int×List (List Int)×Unit)×Int×Bool×Unit)→Prop):(∃(y3:Option ((Int×ByteArray×List (List Int)×PUnit)×List (List Int)×List Int×(ByteArray→Option Int)×List Int×List Int×List (List Int)×PUnit)×Bool×PUnit),
 Lj.fn ((p.1,p.2.1,p.2.2.1,()),())=some y3∧
 Br (!y3.2.1) (P (none,(0:Int),false,())) (∃(y4:Int×Bool×PUnit),Afj.fn (y3.1,s,())=some y4∧P (y3.1,y4.1,y4.2.1,())))=fnW tab (look [(61,Lj),(101,Afj)]) Py Try.f54 (p,s,()) P:=by kernel_rfl
theorem Be8 (x:Int) (s:List Int) (P:Bool→Prop):(∃(y3:Int),idx s x=some y3∧P (y3 !=x))=fnW tab (look []) Afl Try.f104 (x,s,()) P:=by kernel_rfl
theorem Bfa (xs:List Int) (c:List Int×Unit) (P:Int→Prop):(Cc
 (fun (v3:Int×PUnit) (k4:Int×PUnit→Prop)=>
 Br (decide (v3.1<(↑xs.length:Int)))
 (∃(y5:Int),idx xs v3.1=some y5∧ ∃(y6:Bool),Afl.fn (y5,c.1,())=some y6∧Br y6 (P v3.1) (k4 (IntKind.i64.wrap (v3.1+(1:Int)),()))) (P (-1:Int)))
 ((0:Int),PUnit.unit))=fnW tab (look [(104,Afl)]) Anb Try.f144 (xs,c,()) P:=by kernel_rfl
theorem Bf4 (xs:List Int) (c:List Int×Unit) (P:Bool→Prop):(∃(y3:Int),Anb.fn (xs,c,())=some y3∧P (decide (y3≥(0:Int))))=fnW tab (look [(144,Anb)]) An6 Try.f103 (xs,c,()) P:=by kernel_rfl
theorem Ats (g s:List Int) (P:Bool→Prop):(∃(y3:Bool),An6.fn (g,(s,()),())=some y3∧P !y3)=fnW tab (look [(103,An6)]) Ek Try.f56 (g,s,()) P:=by kernel_rfl
theorem Awg (p:Int×ByteArray×List (List Int)×Unit) (P:((List (List Int)×List Int×List Int×Bool×Unit)×Bool×Unit)→Prop):(∃(y2:Bool),
 Dt.fn ((p.1,p.2.1,p.2.2.1,()),())=some y2∧
 Br (!y2) (P ((List.take (0:Nat) (List.drop (0:Nat) []),List.take (0:Nat) (List.drop (0:Nat) []),List.take (0:Nat) (List.drop (0:Nat) []),false,()),false,()))
 (((((∃(y3:List Int),
 Bt.fn (p.1,())=some y3∧
 (∃(y4:List (List Int)×List Int×List Int×Bool×PUnit),
 Cu.fn ((p.1,p.2.1,p.2.2.1,()),y3,())=some y4∧
 ((P ((y4.1,y4.2.1,y4.2.2.1,y4.2.2.2.1,()),y4.2.2.2.1,())∧P ((y4.1,y4.2.1,y4.2.2.1,y4.2.2.2.1,()),y4.2.2.2.1,()))∧
 P ((y4.1,y4.2.1,y4.2.2.1,y4.2.2.2.1,()),y4.2.2.2.1,()))∧
 (P ((y4.1,y4.2.1,y4.2.2.1,y4.2.2.2.1,()),y4.2.2.2.1,())∧P ((y4.1,y4.2.1,y4.2.2.1,y4.2.2.2.1,()),y4.2.2.2.1,()))∧
 P ((y4.1,y4.2.1,y4.2.2.1,y4.2.2.2.1,()),y4.2.2.2.1,()))∧
 ∃(y4:List (List Int)×List Int×List Int×Bool×PUnit),
 Cu.fn ((p.1,p.2.1,p.2.2.1,()),y3,())=some y4∧
 ((P ((y4.1,y4.2.1,y4.2.2.1,y4.2.2.2.1,()),y4.2.2.2.1,())∧P ((y4.1,y4.2.1,y4.2.2.1,y4.2.2.2.1,()),y4.2.2.2.1,()))∧
 P ((y4.1,y4.2.1,y4.2.2.1,y4.2.2.2.1,()),y4.2.2.2.1,()))∧
 (P ((y4.1,y4.2.1,y4.2.2.1,y4.2.2.2.1,()),y4.2.2.2.1,())∧P ((y4.1,y4.2.1,y4.2.2.1,y4.2.2.2.1,()),y4.2.2.2.1,()))∧
 P ((y4.1,y4.2.1,y4.2.2.1,y4.2.2.2.1,()),y4.2.2.2.1,()))∧
 ∃(y3:List Int),
 Bt.fn (p.1,())=some y3∧
 ∃(y4:List (List Int)×List Int×List Int×Bool×PUnit),
 Cu.fn ((p.1,p.2.1,p.2.2.1,()),y3,())=some y4∧
 ((P ((y4.1,y4.2.1,y4.2.2.1,y4.2.2.2.1,()),y4.2.2.2.1,())∧P ((y4.1,y4.2.1,y4.2.2.1,y4.2.2.2.1,()),y4.2.2.2.1,()))∧
 P ((y4.1,y4.2.1,y4.2.2.1,y4.2.2.2.1,()),y4.2.2.2.1,()))∧
 (P ((y4.1,y4.2.1,y4.2.2.1,y4.2.2.2.1,()),y4.2.2.2.1,())∧P ((y4.1,y4.2.1,y4.2.2.1,y4.2.2.2.1,()),y4.2.2.2.1,()))∧
 P ((y4.1,y4.2.1,y4.2.2.1,y4.2.2.2.1,()),y4.2.2.2.1,()))∧
 ∃(y3:List Int),
 Bt.fn (p.1,())=some y3∧
 ∃(y4:List (List Int)×List Int×List Int×Bool×PUnit),
 Cu.fn ((p.1,p.2.1,p.2.2.1,()),y3,())=some y4∧
 ((P ((y4.1,y4.2.1,y4.2.2.1,y4.2.2.2.1,()),y4.2.2.2.1,())∧P ((y4.1,y4.2.1,y4.2.2.1,y4.2.2.2.1,()),y4.2.2.2.1,()))∧
 P ((y4.1,y4.2.1,y4.2.2.1,y4.2.2.2.1,()),y4.2.2.2.1,()))∧
 (P ((y4.1,y4.2.1,y4.2.2.1,y4.2.2.2.1,()),y4.2.2.2.1,())∧P ((y4.1,y4.2.1,y4.2.2.1,y4.2.2.2.1,()),y4.2.2.2.1,()))∧
 P ((y4.1,y4.2.1,y4.2.2.1,y4.2.2.2.1,()),y4.2.2.2.1,()))∧
 ∃(y3:List Int),
 Bt.fn (p.1,())=some y3∧
 ∃(y4:List (List Int)×List Int×List Int×Bool×PUnit),
 Cu.fn ((p.1,p.2.1,p.2.2.1,()),y3,())=some y4∧
 ((P ((y4.1,y4.2.1,y4.2.2.1,y4.2.2.2.1,()),y4.2.2.2.1,())∧P ((y4.1,y4.2.1,y4.2.2.1,y4.2.2.2.1,()),y4.2.2.2.1,()))∧
 P ((y4.1,y4.2.1,y4.2.2.1,y4.2.2.2.1,()),y4.2.2.2.1,()))∧
 (P ((y4.1,y4.2.1,y4.2.2.1,y4.2.2.2.1,()),y4.2.2.2.1,())∧P ((y4.1,y4.2.1,y4.2.2.1,y4.2.2.2.1,()),y4.2.2.2.1,()))∧
 P ((y4.1,y4.2.1,y4.2.2.1,y4.2.2.2.1,()),y4.2.2.2.1,()))∧
 ((((∃(y3:List Int),
 Bt.fn (p.1,())=some y3∧
 (∃(y4:List (List Int)×List Int×List Int×Bool×PUnit),
 Cu.fn ((p.1,p.2.1,p.2.2.1,()),y3,())=some y4∧
 ((P ((y4.1,y4.2.1,y4.2.2.1,y4.2.2.2.1,()),y4.2.2.2.1,())∧P ((y4.1,y4.2.1,y4.2.2.1,y4.2.2.2.1,()),y4.2.2.2.1,()))∧
 P ((y4.1,y4.2.1,y4.2.2.1,y4.2.2.2.1,()),y4.2.2.2.1,()))∧
 (P ((y4.1,y4.2.1,y4.2.2.1,y4.2.2.2.1,()),y4.2.2.2.1,())∧P ((y4.1,y4.2.1,y4.2.2.1,y4.2.2.2.1,()),y4.2.2.2.1,()))∧
 P ((y4.1,y4.2.1,y4.2.2.1,y4.2.2.2.1,()),y4.2.2.2.1,()))∧
 ∃(y4:List (List Int)×List Int×List Int×Bool×PUnit),
 Cu.fn ((p.1,p.2.1,p.2.2.1,()),y3,())=some y4∧
 ((P ((y4.1,y4.2.1,y4.2.2.1,y4.2.2.2.1,()),y4.2.2.2.1,())∧P ((y4.1,y4.2.1,y4.2.2.1,y4.2.2.2.1,()),y4.2.2.2.1,()))∧
 P ((y4.1,y4.2.1,y4.2.2.1,y4.2.2.2.1,()),y4.2.2.2.1,()))∧
 (P ((y4.1,y4.2.1,y4.2.2.1,y4.2.2.2.1,()),y4.2.2.2.1,())∧P ((y4.1,y4.2.1,y4.2.2.1,y4.2.2.2.1,()),y4.2.2.2.1,()))∧
 P ((y4.1,y4.2.1,y4.2.2.1,y4.2.2.2.1,()),y4.2.2.2.1,()))∧
 ∃(y3:List Int),
 Bt.fn (p.1,())=some y3∧
 ∃(y4:List (List Int)×List Int×List Int×Bool×PUnit),
 Cu.fn ((p.1,p.2.1,p.2.2.1,()),y3,())=some y4∧
 ((P ((y4.1,y4.2.1,y4.2.2.1,y4.2.2.2.1,()),y4.2.2.2.1,())∧P ((y4.1,y4.2.1,y4.2.2.1,y4.2.2.2.1,()),y4.2.2.2.1,()))∧
 P ((y4.1,y4.2.1,y4.2.2.1,y4.2.2.2.1,()),y4.2.2.2.1,()))∧
 (P ((y4.1,y4.2.1,y4.2.2.1,y4.2.2.2.1,()),y4.2.2.2.1,())∧P ((y4.1,y4.2.1,y4.2.2.1,y4.2.2.2.1,()),y4.2.2.2.1,()))∧
 P ((y4.1,y4.2.1,y4.2.2.1,y4.2.2.2.1,()),y4.2.2.2.1,()))∧
 ∃(y3:List Int),
 Bt.fn (p.1,())=some y3∧
 ∃(y4:List (List Int)×List Int×List Int×Bool×PUnit),
 Cu.fn ((p.1,p.2.1,p.2.2.1,()),y3,())=some y4∧
 ((P ((y4.1,y4.2.1,y4.2.2.1,y4.2.2.2.1,()),y4.2.2.2.1,())∧P ((y4.1,y4.2.1,y4.2.2.1,y4.2.2.2.1,()),y4.2.2.2.1,()))∧
 P ((y4.1,y4.2.1,y4.2.2.1,y4.2.2.2.1,()),y4.2.2.2.1,()))∧
 (P ((y4.1,y4.2.1,y4.2.2.1,y4.2.2.2.1,()),y4.2.2.2.1,())∧P ((y4.1,y4.2.1,y4.2.2.1,y4.2.2.2.1,()),y4.2.2.2.1,()))∧
 P ((y4.1,y4.2.1,y4.2.2.1,y4.2.2.2.1,()),y4.2.2.2.1,()))∧
 (((∃(y3:List Int),
 Bt.fn (p.1,())=some y3∧
 (∃(y4:List (List Int)×List Int×List Int×Bool×PUnit),
 Cu.fn ((p.1,p.2.1,p.2.2.1,()),y3,())=some y4∧
 ((P ((y4.1,y4.2.1,y4.2.2.1,y4.2.2.2.1,()),y4.2.2.2.1,())∧P ((y4.1,y4.2.1,y4.2.2.1,y4.2.2.2.1,()),y4.2.2.2.1,()))∧
 P ((y4.1,y4.2.1,y4.2.2.1,y4.2.2.2.1,()),y4.2.2.2.1,()))∧
 (P ((y4.1,y4.2.1,y4.2.2.1,y4.2.2.2.1,()),y4.2.2.2.1,())∧P ((y4.1,y4.2.1,y4.2.2.1,y4.2.2.2.1,()),y4.2.2.2.1,()))∧
 P ((y4.1,y4.2.1,y4.2.2.1,y4.2.2.2.1,()),y4.2.2.2.1,()))∧
 ∃(y4:List (List Int)×List Int×List Int×Bool×PUnit),
 Cu.fn ((p.1,p.2.1,p.2.2.1,()),y3,())=some y4∧
 ((P ((y4.1,y4.2.1,y4.2.2.1,y4.2.2.2.1,()),y4.2.2.2.1,())∧P ((y4.1,y4.2.1,y4.2.2.1,y4.2.2.2.1,()),y4.2.2.2.1,()))∧
 P ((y4.1,y4.2.1,y4.2.2.1,y4.2.2.2.1,()),y4.2.2.2.1,()))∧
 (P ((y4.1,y4.2.1,y4.2.2.1,y4.2.2.2.1,()),y4.2.2.2.1,())∧P ((y4.1,y4.2.1,y4.2.2.1,y4.2.2.2.1,()),y4.2.2.2.1,()))∧
 P ((y4.1,y4.2.1,y4.2.2.1,y4.2.2.2.1,()),y4.2.2.2.1,()))∧
 ∃(y3:List Int),
 Bt.fn (p.1,())=some y3∧
 ∃(y4:List (List Int)×List Int×List Int×Bool×PUnit),
 Cu.fn ((p.1,p.2.1,p.2.2.1,()),y3,())=some y4∧
 ((P ((y4.1,y4.2.1,y4.2.2.1,y4.2.2.2.1,()),y4.2.2.2.1,())∧P ((y4.1,y4.2.1,y4.2.2.1,y4.2.2.2.1,()),y4.2.2.2.1,()))∧
 P ((y4.1,y4.2.1,y4.2.2.1,y4.2.2.2.1,()),y4.2.2.2.1,()))∧
 (P ((y4.1,y4.2.1,y4.2.2.1,y4.2.2.2.1,()),y4.2.2.2.1,())∧P ((y4.1,y4.2.1,y4.2.2.1,y4.2.2.2.1,()),y4.2.2.2.1,()))∧
 P ((y4.1,y4.2.1,y4.2.2.1,y4.2.2.2.1,()),y4.2.2.2.1,()))∧
 (∃(y3:List Int),
 Bt.fn (p.1,())=some y3∧
 ((∃(y4:List (List Int)×List Int×List Int×Bool×PUnit),
 Cu.fn ((p.1,p.2.1,p.2.2.1,()),y3,())=some y4∧
 ((P ((y4.1,y4.2.1,y4.2.2.1,y4.2.2.2.1,()),y4.2.2.2.1,())∧P ((y4.1,y4.2.1,y4.2.2.1,y4.2.2.2.1,()),y4.2.2.2.1,()))∧
 P ((y4.1,y4.2.1,y4.2.2.1,y4.2.2.2.1,()),y4.2.2.2.1,()))∧
 (P ((y4.1,y4.2.1,y4.2.2.1,y4.2.2.2.1,()),y4.2.2.2.1,())∧P ((y4.1,y4.2.1,y4.2.2.1,y4.2.2.2.1,()),y4.2.2.2.1,()))∧
 P ((y4.1,y4.2.1,y4.2.2.1,y4.2.2.2.1,()),y4.2.2.2.1,()))∧
 ∃(y4:List (List Int)×List Int×List Int×Bool×PUnit),
 Cu.fn ((p.1,p.2.1,p.2.2.1,()),y3,())=some y4∧
 ((P ((y4.1,y4.2.1,y4.2.2.1,y4.2.2.2.1,()),y4.2.2.2.1,())∧P ((y4.1,y4.2.1,y4.2.2.1,y4.2.2.2.1,()),y4.2.2.2.1,()))∧
 P ((y4.1,y4.2.1,y4.2.2.1,y4.2.2.2.1,()),y4.2.2.2.1,()))∧
 (P ((y4.1,y4.2.1,y4.2.2.1,y4.2.2.2.1,()),y4.2.2.2.1,())∧P ((y4.1,y4.2.1,y4.2.2.1,y4.2.2.2.1,()),y4.2.2.2.1,()))∧
 P ((y4.1,y4.2.1,y4.2.2.1,y4.2.2.2.1,()),y4.2.2.2.1,()))∧
 ∃(y4:List (List Int)×List Int×List Int×Bool×PUnit),
 Cu.fn ((p.1,p.2.1,p.2.2.1,()),y3,())=some y4∧
 ((P ((y4.1,y4.2.1,y4.2.2.1,y4.2.2.2.1,()),y4.2.2.2.1,())∧P ((y4.1,y4.2.1,y4.2.2.1,y4.2.2.2.1,()),y4.2.2.2.1,()))∧
 P ((y4.1,y4.2.1,y4.2.2.1,y4.2.2.2.1,()),y4.2.2.2.1,()))∧
 (P ((y4.1,y4.2.1,y4.2.2.1,y4.2.2.2.1,()),y4.2.2.2.1,())∧P ((y4.1,y4.2.1,y4.2.2.1,y4.2.2.2.1,()),y4.2.2.2.1,()))∧
 P ((y4.1,y4.2.1,y4.2.2.1,y4.2.2.2.1,()),y4.2.2.2.1,()))∧
 (∃(y3:List Int),
 Bt.fn (p.1,())=some y3∧
 ∃(y4:List (List Int)×List Int×List Int×Bool×PUnit),
 Cu.fn ((p.1,p.2.1,p.2.2.1,()),y3,())=some y4∧
 ((P ((y4.1,y4.2.1,y4.2.2.1,y4.2.2.2.1,()),y4.2.2.2.1,())∧P ((y4.1,y4.2.1,y4.2.2.1,y4.2.2.2.1,()),y4.2.2.2.1,()))∧
 P ((y4.1,y4.2.1,y4.2.2.1,y4.2.2.2.1,()),y4.2.2.2.1,()))∧
 (P ((y4.1,y4.2.1,y4.2.2.1,y4.2.2.2.1,()),y4.2.2.2.1,())∧P ((y4.1,y4.2.1,y4.2.2.1,y4.2.2.2.1,()),y4.2.2.2.1,()))∧
 P ((y4.1,y4.2.1,y4.2.2.1,y4.2.2.2.1,()),y4.2.2.2.1,()))∧
 ∃(y3:List Int),
 Bt.fn (p.1,())=some y3∧
 ∃(y4:List (List Int)×List Int×List Int×Bool×PUnit),
 Cu.fn ((p.1,p.2.1,p.2.2.1,()),y3,())=some y4∧
 ((P ((y4.1,y4.2.1,y4.2.2.1,y4.2.2.2.1,()),y4.2.2.2.1,())∧P ((y4.1,y4.2.1,y4.2.2.1,y4.2.2.2.1,()),y4.2.2.2.1,()))∧
 P ((y4.1,y4.2.1,y4.2.2.1,y4.2.2.2.1,()),y4.2.2.2.1,()))∧
 (P ((y4.1,y4.2.1,y4.2.2.1,y4.2.2.2.1,()),y4.2.2.2.1,())∧P ((y4.1,y4.2.1,y4.2.2.1,y4.2.2.2.1,()),y4.2.2.2.1,()))∧
 P ((y4.1,y4.2.1,y4.2.2.1,y4.2.2.2.1,()),y4.2.2.2.1,()))∧
 (∃(y3:List Int),
 Bt.fn (p.1,())=some y3∧
 ∃(y4:List (List Int)×List Int×List Int×Bool×PUnit),
 Cu.fn ((p.1,p.2.1,p.2.2.1,()),y3,())=some y4∧
 ((P ((y4.1,y4.2.1,y4.2.2.1,y4.2.2.2.1,()),y4.2.2.2.1,())∧P ((y4.1,y4.2.1,y4.2.2.1,y4.2.2.2.1,()),y4.2.2.2.1,()))∧
 P ((y4.1,y4.2.1,y4.2.2.1,y4.2.2.2.1,()),y4.2.2.2.1,()))∧
 (P ((y4.1,y4.2.1,y4.2.2.1,y4.2.2.2.1,()),y4.2.2.2.1,())∧P ((y4.1,y4.2.1,y4.2.2.1,y4.2.2.2.1,()),y4.2.2.2.1,()))∧
 P ((y4.1,y4.2.1,y4.2.2.1,y4.2.2.2.1,()),y4.2.2.2.1,()))∧
 (∃(y3:List Int),
 Bt.fn (p.1,())=some y3∧
 ∃(y4:List (List Int)×List Int×List Int×Bool×PUnit),
 Cu.fn ((p.1,p.2.1,p.2.2.1,()),y3,())=some y4∧
 ((P ((y4.1,y4.2.1,y4.2.2.1,y4.2.2.2.1,()),y4.2.2.2.1,())∧P ((y4.1,y4.2.1,y4.2.2.1,y4.2.2.2.1,()),y4.2.2.2.1,()))∧
 P ((y4.1,y4.2.1,y4.2.2.1,y4.2.2.2.1,()),y4.2.2.2.1,()))∧
 (P ((y4.1,y4.2.1,y4.2.2.1,y4.2.2.2.1,()),y4.2.2.2.1,())∧P ((y4.1,y4.2.1,y4.2.2.1,y4.2.2.2.1,()),y4.2.2.2.1,()))∧
 P ((y4.1,y4.2.1,y4.2.2.1,y4.2.2.2.1,()),y4.2.2.2.1,()))∧
 ∃(y3:List Int),
 Bt.fn (p.1,())=some y3∧
 ∃(y4:List (List Int)×List Int×List Int×Bool×PUnit),
 Cu.fn ((p.1,p.2.1,p.2.2.1,()),y3,())=some y4∧
 ((P ((y4.1,y4.2.1,y4.2.2.1,y4.2.2.2.1,()),y4.2.2.2.1,())∧P ((y4.1,y4.2.1,y4.2.2.1,y4.2.2.2.1,()),y4.2.2.2.1,()))∧
 P ((y4.1,y4.2.1,y4.2.2.1,y4.2.2.2.1,()),y4.2.2.2.1,()))∧
 (P ((y4.1,y4.2.1,y4.2.2.1,y4.2.2.2.1,()),y4.2.2.2.1,())∧P ((y4.1,y4.2.1,y4.2.2.1,y4.2.2.2.1,()),y4.2.2.2.1,()))∧
 P ((y4.1,y4.2.1,y4.2.2.1,y4.2.2.2.1,()),y4.2.2.2.1,()))∧
 (∃(y3:List Int),
 Bt.fn (p.1,())=some y3∧
 ∃(y4:List (List Int)×List Int×List Int×Bool×PUnit),
 Cu.fn ((p.1,p.2.1,p.2.2.1,()),y3,())=some y4∧
 ((P ((y4.1,y4.2.1,y4.2.2.1,y4.2.2.2.1,()),y4.2.2.2.1,())∧P ((y4.1,y4.2.1,y4.2.2.1,y4.2.2.2.1,()),y4.2.2.2.1,()))∧
 P ((y4.1,y4.2.1,y4.2.2.1,y4.2.2.2.1,()),y4.2.2.2.1,()))∧
 (P ((y4.1,y4.2.1,y4.2.2.1,y4.2.2.2.1,()),y4.2.2.2.1,())∧P ((y4.1,y4.2.1,y4.2.2.1,y4.2.2.2.1,()),y4.2.2.2.1,()))∧
 P ((y4.1,y4.2.1,y4.2.2.1,y4.2.2.2.1,()),y4.2.2.2.1,()))∧
 (∃(y3:List Int),
 Bt.fn (p.1,())=some y3∧
 ∃(y4:List (List Int)×List Int×List Int×Bool×PUnit),
 Cu.fn ((p.1,p.2.1,p.2.2.1,()),y3,())=some y4∧
 ((P ((y4.1,y4.2.1,y4.2.2.1,y4.2.2.2.1,()),y4.2.2.2.1,())∧P ((y4.1,y4.2.1,y4.2.2.1,y4.2.2.2.1,()),y4.2.2.2.1,()))∧
 P ((y4.1,y4.2.1,y4.2.2.1,y4.2.2.2.1,()),y4.2.2.2.1,()))∧
 (P ((y4.1,y4.2.1,y4.2.2.1,y4.2.2.2.1,()),y4.2.2.2.1,())∧P ((y4.1,y4.2.1,y4.2.2.1,y4.2.2.2.1,()),y4.2.2.2.1,()))∧
 P ((y4.1,y4.2.1,y4.2.2.1,y4.2.2.2.1,()),y4.2.2.2.1,()))∧
 (∃(y3:List Int),
 Bt.fn (p.1,())=some y3∧
 ∃(y4:List (List Int)×List Int×List Int×Bool×PUnit),
 Cu.fn ((p.1,p.2.1,p.2.2.1,()),y3,())=some y4∧
 ((P ((y4.1,y4.2.1,y4.2.2.1,y4.2.2.2.1,()),y4.2.2.2.1,())∧P ((y4.1,y4.2.1,y4.2.2.1,y4.2.2.2.1,()),y4.2.2.2.1,()))∧
 P ((y4.1,y4.2.1,y4.2.2.1,y4.2.2.2.1,()),y4.2.2.2.1,()))∧
 (P ((y4.1,y4.2.1,y4.2.2.1,y4.2.2.2.1,()),y4.2.2.2.1,())∧P ((y4.1,y4.2.1,y4.2.2.1,y4.2.2.2.1,()),y4.2.2.2.1,()))∧
 P ((y4.1,y4.2.1,y4.2.2.1,y4.2.2.2.1,()),y4.2.2.2.1,()))∧
 ∃(y3:List Int),
 Bt.fn (p.1,())=some y3∧
 ∃(y4:List (List Int)×List Int×List Int×Bool×PUnit),
 Cu.fn ((p.1,p.2.1,p.2.2.1,()),y3,())=some y4∧
 ((P ((y4.1,y4.2.1,y4.2.2.1,y4.2.2.2.1,()),y4.2.2.2.1,())∧P ((y4.1,y4.2.1,y4.2.2.1,y4.2.2.2.1,()),y4.2.2.2.1,()))∧
 P ((y4.1,y4.2.1,y4.2.2.1,y4.2.2.2.1,()),y4.2.2.2.1,()))∧
 (P ((y4.1,y4.2.1,y4.2.2.1,y4.2.2.2.1,()),y4.2.2.2.1,())∧P ((y4.1,y4.2.1,y4.2.2.1,y4.2.2.2.1,()),y4.2.2.2.1,()))∧
 P ((y4.1,y4.2.1,y4.2.2.1,y4.2.2.2.1,()),y4.2.2.2.1,())))=fnW tab (look [(99,Dt),(106,Bt),(105,Cu)]) Nc Try.f57 (p,()) P:=by kernel_rfl
theorem Aza (p:Int×ByteArray×List (List Int)×Unit) (f:List (List Int)×List Int×List Int×Bool×Unit) (s:List Int) (P:Bool→Prop):(∃(y4:Bool),
 Qc.fn ((p.1,p.2.1,p.2.2.1,()),s,())=some y4∧
 Br y4 (∃(y5:Int),Lz.fn ((f.1,f.2.1,f.2.2.1,f.2.2.2.1,()),s,())=some y5∧P (decide (y5≥(0:Int)))) (P false))=fnW tab (look [(118,Qc),(69,Lz)]) Pz Try.f68 (p,f,s,()) P:=by kernel_rfl
theorem Aq6 (p:Int×ByteArray×List (List Int)×Unit) (s:List Int) (P:Bool→Prop):(∃(y3:(List (List Int)×List Int×List Int×Bool×PUnit)×Bool×PUnit),
 Nc.fn ((p.1,p.2.1,p.2.2.1,()),())=some y3∧
 Br y3.2.1 (∃(y4:Bool),Pz.fn ((p.1,p.2.1,p.2.2.1,()),(y3.1.1,y3.1.2.1,y3.1.2.2.1,y3.1.2.2.2.1,()),s,())=some y4∧P y4) (P false))=fnW tab (look [(57,Nc),(68,Pz)]) Jq Try.f52 (p,s,()) P:=by kernel_rfl
theorem Atq (g s:List Int) (P:Bool→Prop):(Cc
 (fun (v3:Int×PUnit) (k4:Int×PUnit→Prop)=>
 Br (decide (v3.1<(↑g.length:Int)))
 (∃(y5:Int),idx g v3.1=some y5∧ ∃(y6:Int),idx s y5=some y6∧ ∃(y7:Int),idx g v3.1=some y7∧Br (y6 !=y7) (P false) (k4 (IntKind.i64.wrap (v3.1+(1:Int)),())))
 (P true))
 ((0:Int),PUnit.unit))=fnW tab (look []) Ek Try.f53 (g,s,()) P:=by kernel_rfl
theorem Akj (p:Int×ByteArray×List (List Int)×Unit) (gs:List (List Int)) (s:List Int) (P:Int→Prop):(∃(y4:Option ((Int×ByteArray×List (List Int)×PUnit)×List (List Int)×List Int×(ByteArray→Option Int)×List Int×List Int×List (List Int)×PUnit)×Int×Bool×PUnit),
 Py.fn ((p.1,p.2.1,p.2.2.1,()),s,())=some y4∧
 Br (!y4.2.2.1) (P (-1:Int))
 (∃(y5:Bool),
 Fg.fn ((p.1,p.2.1,p.2.2.1,()),gs,())=some y5∧
 Br (!y5) (P (-1:Int))
 (Cc
 (fun (v6:Int×Int×PUnit) (k7:Int×Int×PUnit→Prop)=>
 Br (decide (v6.2.1<(↑gs.length:Int)))
 (∃(y8:List Int),
 idx gs v6.2.1=some y8∧
 ∃(y9:Bool),
 Ek.fn (y8,s,())=some y9∧
 Br y9 (k7 (IntKind.i64.wrap (v6.1+(1:Int)),IntKind.i64.wrap (v6.2.1+(1:Int)),())) (k7 (v6.1,IntKind.i64.wrap (v6.2.1+(1:Int)),())))
 (P v6.1))
 ((0:Int),(0:Int),PUnit.unit))))=fnW tab (look [(54,Py),(78,Fg),(56,Ek)]) Fh Try.f36 (p,gs,s,()) P:=by kernel_rfl
theorem Akl (p:Int×ByteArray×List (List Int)×Unit) (gs:List (List Int)) (s:List Int) (P:Int→Prop):(∃(y4:Bool),
 Fg.fn ((p.1,p.2.1,p.2.2.1,()),gs,())=some y4∧
 Br (!y4) (P (-1:Int))
 (∃(y5:Bool),
 Jq.fn ((p.1,p.2.1,p.2.2.1,()),s,())=some y5∧
 Br (!y5) (P (-1:Int))
 (Cc
 (fun (v6:Int×Int×PUnit) (k7:Int×Int×PUnit→Prop)=>
 Br (decide (v6.2.1<(↑gs.length:Int)))
 (∃(y8:List Int),
 idx gs v6.2.1=some y8∧
 ∃(y9:Bool),
 Ek.fn (y8,s,())=some y9∧
 Br y9 (k7 (IntKind.i64.wrap (v6.1+(1:Int)),IntKind.i64.wrap (v6.2.1+(1:Int)),())) (k7 (v6.1,IntKind.i64.wrap (v6.2.1+(1:Int)),())))
 (P v6.1))
 ((0:Int),(0:Int),PUnit.unit))))=fnW tab (look [(77,Fg),(52,Jq),(53,Ek)]) Fh Try.f34 (p,gs,s,()) P:=by kernel_rfl
theorem Alv (p:Int×ByteArray×List (List Int)×Unit) (a:List (List Int)) (b:List Int) (P:Bool→Prop):(Br (decide ((↑b.length:Int)>(1048576:Int))) (P true)
 (∃(y4:Int),
 Ane.fn ((p.1,p.2.1,p.2.2.1,()),(1048576:Int),())=some y4∧
 Br (decide (y4<(0:Int))) (P true)
 (∃(y5:Int),
 Wb.fn (a,y4,())=some y5∧
 Br (decide (y5<(0:Int))) (P true)
 (∃(y6:Int×ByteArray×List (List Int)×PUnit),
 Ago.fn ((p.1,p.2.1,p.2.2.1,()),())=some y6∧
 ∃(y7:List (List Int)),
 Rd.fn (a,())=some y7∧
 ∃(y8:List Int),
 Zf.fn (b,())=some y8∧
 ∃(y9:Int),
 Fh.fn (y6,y7,y8,())=some y9∧
 ∃(y10:Int×ByteArray×List (List Int)×PUnit),
 Ago.fn ((p.1,p.2.1,p.2.2.1,()),())=some y10∧
 ∃(y11:List (List Int)),
 Rd.fn (a,())=some y11∧
 ∃(y12:List Int),
 Zf.fn (b,())=some y12∧
 ∃(y13:Int),
 Fh.fn ((y10.1,y10.2.1,y10.2.2.1,()),y11,y12,())=some y13∧
 Br (y13 !=y9) (P false)
 (∃(y14:Int×ByteArray×List (List Int)×PUnit),
 Ago.fn ((p.1,p.2.1,p.2.2.1,()),())=some y14∧
 ∃(y15:Bool),
 An7.fn ((y10.1,y10.2.1,y10.2.2.1,()),y14,())=some y15∧
 Br (!y15) (P false)
 (∃(y16:List (List Int)),
 Rd.fn (a,())=some y16∧
 ∃(y17:Bool),
 Vz.fn (y11,y16,())=some y17∧
 Br (!y17) (P false)
 (∃(y18:List Int),
 Zf.fn (b,())=some y18∧ ∃(y19:Bool),Dg.fn (y12,y18,())=some y19∧Br (!y19) (P false) (P true))))))))=fnW tab (look [(15,Ane),(33,Wb),(34,Fh),(36,Fh),(17,Ago),(35,Rd),(18,Zf),(20,An7),(37,Vz),(21,Dg)]) Afk Try.f8 (p,a,b,()) P:=by kernel_rfl
theorem Axs {p:List Int} (h:Qg p):En p=true:=by
 refine Em.2 ⟨h.pos,h.len,fun j h1 h2=>?_⟩
 have:=h.row _ (List.getElem_mem h2)
 exact ⟨by omega,by omega,fun hm=>by
  obtain ⟨i,hi,e⟩:=List.mem_iff_getElem.1 hm
  have hi':i<j:=by rw [List.length_take] at hi;omega
  rw [List.getElem_take] at e
  exact (List.pairwise_iff_getElem.1 h.nodup i j (by omega) h2 hi') e⟩
theorem So {p:PP} (hw:Fc p=true):Be p=true∧(Fl p.2.2.1 (upto p.1.toNat)).2.2=true:=Bool.and_eq_true_iff.1 hw
theorem Bb6 {p:PP} (hv:Be p=true):Oo p p.1.toNat (Eo p) (Aiu p):=(Aji hv).ok
theorem Azy {p:PP} (hV:Valid p):PmS p.1.toNat fun g=>some g∈p.2.2.1.map some:=
 ⟨by have:=hV.n;omega,fun g hg'=>by obtain ⟨g',e,h⟩:=Ajf (Acy hV).2.2 _ hg';cases e;exact h⟩
theorem Bd7 {p:PP} (hv:Be p=true) {x:List Int} (hx:x∈Eo p):Pm p.1.toNat x:=Gen.pm (Azy (valid hv)) ((Aji hv).gen x hx)
theorem Bdx {p:PP} (hV:Valid p) {x:List Int} (h:Pm p.1.toNat x):Dn p.1 x=true:=by
 have:=hV.n
 have:=h.1
 exact Em.2 ⟨by omega,Axs h.2⟩
theorem Azx {p:PP} (_hV:Valid p) {x:List Int} (h:Dn p.1 x=true):Pm p.1.toNat x:=by
 obtain ⟨h1,h2⟩:=Em.1 h
 exact ⟨by omega,Aff h2⟩
theorem Bb5 {p:PP} (hv:Be p=true) {x:List Int} (hx:x∈Eo p):Dn p.1 x=true:=Bdx (valid hv) (Bd7 hv hx)
theorem Bci {p:PP} (hv:Be p=true) {x:List Int} (hx:x∈Eo p):Me x:=fun y hy=>by
 have h1:=(Bb6 hv).row x hx y hy
 have:=(valid hv).n
 omega
theorem Bcf {n:Nat} {x:List Int} (h:Pm n x):Me x:=fun y hy=>by
 have h1:=h.row y hy
 have:=h.n2
 omega
theorem Bbz {p:PP} (hw:Fc p=true):(Mr p).2.1=Eo p∧(Mr p).2.2.1=Aiu p:=by
 have h:=(So hw).2
 refine Ar4 3001 0 ([upto p.1.toNat],[0],[0],[0]) [] _ _ ?_
 show Hd p.2.2.1 (Bd p.2.2.1.length) 3001 0 [upto p.1.toNat] [0]=(Eo p,Aiu p,true)
 rw [←h]
 rfl
theorem Bby {p:PP} (hw:Fc p=true) {s:List Int} (hs:Me s):(Mr p).2.2.2.1 (Ju s)=if s∈Eo p then some (((Eo p).idxOf s:Nat):Int) else none:=by
 show Nn (Mr p).2.1 (Ju s)=_
 rw [(Bbz hw).1,Aml hs fun y hy=>Bci (So hw).1 hy]
theorem Bdq (e:Option XP) (s:List Int) (h:(∃e':XP,e=some e'∧Bed e')∧short s):fnW tab (look [(150,My),(111,Dk)]) Afj Try.f101 (e,s,()) (fun (z:Int×Bool×Unit)=>z=Bah e s):=by
 obtain ⟨⟨e',rfl,h1,h2⟩,hs⟩:=h
 have hv:=(So h1).1
 refine Eq.mp (Be5 (some e') s _) ⟨e',rfl,_,if_pos hs,Br.of (fun hb=>?_) fun hb=>⟨e',rfl,_,if_pos hs,?_⟩⟩
 ·have hb:=Cb hb
  show (0,false,())=As0 e'.1 s
  unfold As0
  rw [if_neg fun hm=>hb (Bb5 hv hm)]
 ·have hb:Dn e'.1.1 s=true:=by simpa using hb
  have hp:=Azx (valid hv) hb
  dsimp only
  have e3:e'.2.2.2.1=(Mr e'.1).2.2.2.1:=by rw [←h2]
  rw [e3,Bby h1 (Bcf hp)]
  show _=As0 e'.1 s
  unfold As0
  split<;>rfl
theorem Aw2:Sound Try.prog 101 Afj:=
 Sound.mkS Bp (Ad Acf (Ad Zh As)) mixed Try.func101 (by kernel_rfl) (by kernel_rfl) fun x h=>Bdq x.1 x.2.1 h
theorem Ay6 (p:PP) (s:List Int) (h:Dl p∧short s):fnW tab (look [(61,Lj),(101,Afj)]) Py Try.f54 (p,s,()) (fun (z:Option XP×Int×Bool×Unit)=>z=Pv p s):=by
 unfold Pv
 by_cases hw:Fc p=true
 ·rw [if_pos hw]
  have he:Lj.fn ((p.1,p.2.1,p.2.2.1,()),())=some (some (Mr p),true,()):=(if_pos h.1).trans (congrArg some (if_pos hw))
  refine Eq.mp (Anl p s _) ⟨_,he,fun hb=>by simp at hb,fun _=>⟨_,if_pos ⟨⟨Mr p,rfl,hw,rfl⟩,h.2⟩,?_⟩⟩
  rfl
 ·rw [if_neg hw]
  have he:Lj.fn ((p.1,p.2.1,p.2.2.1,()),())=some (none,false,()):=(if_pos h.1).trans (congrArg some (if_neg hw))
  exact Eq.mp (Anl p s _) ⟨_,he,fun _=>rfl,fun hb=>by simp at hb⟩
theorem Alg:Sound Try.prog 54 Py:=
 Sound.mkS Bp (Ad Alh (Ad Aw2 As)) mixed Try.func54 (by kernel_rfl) (by kernel_rfl) fun x h=>Ay6 x.1 x.2.1 h
theorem Bab {s goal:List Int} (h:Ho s.length goal) {j:Nat} (hj:j<goal.length):0≤goal[j]∧goal[j]<s.length:=h _ (List.getElem_mem hj)
theorem Bdt (x:Int) (s:List Int) (h:short s∧0≤x∧x<(s.length:Int)):fnW tab (look []) Afl Try.f104 (x,s,()) (fun (z:Bool)=>z=!decide (Gg s x=x)):=by
 obtain ⟨_,h1,h2⟩:=h
 obtain ⟨xn,rfl⟩:=Int.eq_ofNat_of_zero_le h1
 refine Eq.mp (Be8 (xn:Int) s _) ⟨_,Aq (by omega),?_⟩
 have e:Gg s (xn:Int)=s[xn]'(by omega):=by unfold Gg;rw [Int.toNat_natCast,Awy]
 rw [e,Bool.eq_iff_iff]
 simp
theorem Aw4:Sound Try.prog 104 Afl:=
 Sound.mkS Bp As mixed Try.func104 (by kernel_rfl) (by kernel_rfl) fun x h=>Bdt x.1 x.2.1 h
theorem Bes (xs:List Int) (c:List Int×Unit) (h:short xs∧short c.1∧Ho (List.length c.1) xs):fnW tab (look [(104,Afl)]) Anb Try.f144 (xs,c,()) (fun (z:Int)=>z=Cr (fun y=>!decide (Gg c.1 y=y)) xs 0):=by
 obtain ⟨h,h4,h5⟩:=h
 unfold short at h
 refine Eq.mp (Bfa xs c _) ?_
 refine Ao xs.length (fun v=>v.1) (fun j _=>Cr (fun y=>!decide (Gg c.1 y=y)) (xs.drop j) j=Cr (fun y=>!decide (Gg c.1 y=y)) xs 0) rfl (by simp) ?_
 rintro j ⟨i,⟨⟩⟩ K hj hi hR hK
 dsimp only at hi⊢
 subst hi
 refine Br.dec (fun hl=>?_) fun hl=>?_
 ·have hl:j<xs.length:=by omega
  rw [List.drop_eq_getElem_cons hl] at hR
  simp only [Cr] at hR
  refine ⟨_,Aq hl,_,if_pos ⟨h4,Bab h5 hl⟩,⟨fun he=>?_,fun he=>?_⟩⟩
  ·have he:(!decide (Gg c.1 xs[j]=xs[j]))=true:=he
   rw [if_pos he] at hR
   exact hR
  ·have he:(!decide (Gg c.1 xs[j]=xs[j]))=false:=he
   rw [if_neg (by rw [he];decide)] at hR
   rw [Ak (by omega)]
   exact hK hl _ rfl (by push_cast;exact hR)
 ·have:j=xs.length:=by omega
  subst this
  rw [List.drop_length] at hR
  exact hR
theorem Ayx:Sound Try.prog 144 Anb:=
 Sound.mkS Bp (Ad Aw4 As) mixed Try.func144 (by kernel_rfl) (by kernel_rfl) fun x h=>Bes x.1 x.2.1 h
theorem Bem (xs:List Int) (c:List Int×Unit) (h:short xs∧short c.1∧Ho (List.length c.1) xs):fnW tab (look [(144,Anb)]) An6 Try.f103 (xs,c,()) (fun (z:Bool)=>z=List.any xs (fun y=>!decide (Gg c.1 y=y))):=by
 refine Eq.mp (Bf4 xs c _) ⟨_,if_pos h,?_⟩
 rw [Bool.eq_iff_iff,decide_eq_true_iff]
 exact Rz _ xs 0 (Int.le_refl 0)
theorem Ays:Sound Try.prog 103 An6:=
 Sound.mkS Bp (Ad Ayx As) mixed Try.func103 (by kernel_rfl) (by kernel_rfl) fun x h=>Bem x.1 x.2.1 h
theorem Asr (g s:List Int) (h:short g∧short s∧Ho s.length g):fnW tab (look [(103,An6)]) Ek Try.f56 (g,s,()) (fun (z:Bool)=>z=Ow g s):=by
 refine Eq.mp (Ats g s _) ⟨_,if_pos h,?_⟩
 dsimp only
 unfold Ow
 rw [List.any_eq_not_all_not,Bool.not_not]
 simp only [Bool.not_not]
theorem Aha:Sound Try.prog 56 Ek:=
 Sound.mkS Bp (Ad Ays As) mixed Try.func56 (by kernel_rfl) (by kernel_rfl) fun x h=>Asr x.1 x.2.1 h
theorem Axp {p:PP} {s:List Int} :Kp p s=true↔Fc p=true∧s∈Eo p:=by
 unfold Kp;rw [Bool.and_eq_true,decide_eq_true_iff]
theorem Aun {p:PP} {s:List Int} :(Pv p s).2.2.1=Kp p s:=by
 unfold Pv As0 Kp
 by_cases hw:Fc p=true
 ·rw [if_pos hw,hw,Bool.true_and]
  by_cases hm:s∈Eo p
  ·rw [if_pos hm,decide_eq_true hm]
  ·rw [if_neg hm,decide_eq_false hm]
 ·rw [if_neg hw,Bool.not_eq_true _|>.mp hw,Bool.false_and]
theorem Are {p:PP} {g s:List Int} (hf:Kp p s=true) (hg:Ei p.1 g=true):Ho s.length g:=by
 obtain ⟨hw,hm⟩:=Axp.1 hf
 have hv:=(So hw).1
 have h1:=(Bd7 hv hm).1
 have hn:=(valid hv).n
 have h2:=Ath (p:=p) (t:=g) (Agu.2 ⟨hv,hg⟩)
 intro y hy
 have:=h2.2 y hy
 omega
theorem Avh (p:PP) (h:Dl p):fnW tab (look [(99,Dt),(106,Bt),(105,Cu)]) Nc Try.f57 (p,()) (fun (z:SS×Bool×Unit)=>z=Vi p):=by
 refine Eq.mp (Awg p _) ⟨_,if_pos h,?_⟩
 show Br (!Be p) _ _
 unfold Vi
 by_cases hv:Be p=true
 ·rw [if_pos hv,hv]
  refine ⟨fun hb=>by simp at hb,fun _=>?_⟩
  have hn:=(valid hv).n
  have hid:Bt.fn (p.1,())=some (upto p.1.toNat):=if_pos ⟨by show 0≤p.1;omega,by show p.1≤20;omega⟩
  have hup: ∀y∈upto p.1.toNat,0≤y∧y<p.1:=fun y hy=>by have:=Il.1 hy;omega
  have hfr:Cu.fn ((p.1,p.2.1,p.2.2.1,()),upto p.1.toNat,())=some (Gu p.2.2.1 (upto p.1.toNat)):=if_pos ⟨hv,by show (upto p.1.toNat).length≤20;rw [Ri];omega,hup⟩
  have hz:(((Gu p.2.2.1 (upto p.1.toNat)).1,(Gu p.2.2.1 (upto p.1.toNat)).2.1,(Gu p.2.2.1 (upto p.1.toNat)).2.2.1,(Gu p.2.2.1 (upto p.1.toNat)).2.2.2.1,()),(Gu p.2.2.1 (upto p.1.toNat)).2.2.2.1,())=(Gu p.2.2.1 (upto p.1.toNat),Fc p,()):=by
   unfold Fc
   rw [hv,Bool.true_and]
   rfl
  repeat' (first|exact hz|refine ⟨_,hid,?_⟩|refine ⟨_,hfr,?_⟩|refine ⟨?_,?_⟩)
 ·rw [if_neg hv]
  refine ⟨fun _=>rfl,fun hb=>?_⟩
  exact absurd (by simpa using hb) hv
theorem Ak3:Sound Try.prog 57 Nc:=
 Sound.mkS Bp (Ad Nf (Ad Ajy (Ad At9 As))) mixed Try.func57 (by kernel_rfl) (by kernel_rfl) fun x h=>Avh x.1 h
theorem Ay8 (p:PP) (f:SS) (s:List Int) (h:Dl p∧short s∧Be p=true∧f=Gu p.2.2.1 (upto p.1.toNat)):fnW tab (look [(118,Qc),(69,Lz)]) Pz Try.f68 (p,f,s,()) (fun (z:Bool)=>z=decide (s∈Eo p)):=by
 obtain ⟨hp,hs,hv,rfl⟩:=h
 refine Eq.mp (Aza p _ s _) ⟨_,if_pos ⟨hp,hs⟩,?_⟩
 show Br (Be p&&Dn p.1 s) _ _
 rw [hv,Bool.true_and]
 refine Br.of (fun hb=>?_) fun hb=>?_
 ·have hpm:=Azx (valid hv) hb
  refine ⟨_,if_pos (by show Cq s.length (Eo p) (Rg (Eo p));rw [hpm.1];exact (Bb6 hv).ok),?_⟩
  show decide (Aay (Eo p) s≥0)=_
  unfold Aay
  split
  ·rename_i hm
   rw [decide_eq_true hm]
   exact decide_eq_true (by omega)
  ·rename_i hm
   rw [decide_eq_false hm]
   rfl
 ·exact (decide_eq_false fun hm=>by rw [Bb5 hv hm] at hb;cases hb).symm
theorem Ali:Sound Try.prog 68 Pz:=
 Sound.mkS Bp (Ad Aec (Ad Aea As)) mixed Try.func68 (by kernel_rfl) (by kernel_rfl) fun x h=>Ay8 x.1 x.2.1 x.2.2.1 h
theorem Aoy (p:PP) (s:List Int) (h:Dl p∧short s):fnW tab (look [(57,Nc),(68,Pz)]) Jq Try.f52 (p,s,()) (fun (z:Bool)=>z=Kp p s):=by
 refine Eq.mp (Aq6 p s _) ⟨_,if_pos h.1,?_⟩
 dsimp only
 unfold Kp Vi
 by_cases hv:Be p=true
 ·rw [if_pos hv]
  show Br (Fc p) _ _
  refine Br.of (fun hw=>?_) fun hw=>by rw [hw,Bool.false_and]
  rw [hw,Bool.true_and]
  exact ⟨_,if_pos ⟨h.1,h.2,hv,rfl⟩,rfl⟩
 ·rw [if_neg hv]
  refine ⟨fun hb=>by simp at hb,fun _=>?_⟩
  have:Fc p=false:=by unfold Fc;rw [Bool.not_eq_true _|>.mp hv,Bool.false_and]
  rw [this,Bool.false_and]
theorem Afp:Sound Try.prog 52 Jq:=
 Sound.mkS Bp (Ad Ak3 (Ad Ali As)) mixed Try.func52 (by kernel_rfl) (by kernel_rfl) fun x h=>Aoy x.1 x.2.1 h
theorem Asp (g s:List Int) (h:short g∧short s∧Ho s.length g):fnW tab (look []) Ek Try.f53 (g,s,()) (fun (z:Bool)=>z=Ow g s):=by
 obtain ⟨hg,hs,hr⟩:=h
 unfold short at hg
 refine Eq.mp (Atq g s _) ?_
 refine Ao g.length (fun v=>v.1) (fun j _=>Ow (g.drop j) s=Ow g s) rfl (by simp) ?_
 rintro j ⟨i,⟨⟩⟩ K hj hi hR hK
 dsimp only at hi⊢
 subst hi
 refine Br.dec (fun hl=>?_) fun hl=>?_
 ·have hl:j<g.length:=by omega
  have h1:=Bab hr hl
  obtain ⟨xn,hx⟩:=Int.eq_ofNat_of_zero_le h1.1
  rw [List.drop_eq_getElem_cons hl] at hR
  unfold Ow at hR
  rw [List.all_cons] at hR
  have e:Gg s g[j]=s[xn]'(by omega):=by unfold Gg;rw [hx,Int.toNat_natCast,Awy]
  refine ⟨_,Aq hl,s[xn]'(by omega),by rw [hx];exact Aq (by omega),_,Aq hl,Br.of (fun hb=>?_) fun hb=>?_⟩
  ·have hb:s[xn]'(by omega)≠g[j]:=by simpa using hb
   rw [e,decide_eq_false hb,Bool.false_and] at hR
   exact hR
  ·have hb:s[xn]'(by omega)=g[j]:=by simpa using hb
   rw [e,decide_eq_true hb,Bool.true_and] at hR
   rw [Ak (by omega)]
   exact hK hl _ rfl hR
 ·have:j=g.length:=by omega
  subst this
  rw [List.drop_length] at hR
  exact hR
theorem Ah8:Sound Try.prog 53 Ek:=
 Sound.mkS Bp As mixed Try.func53 (by kernel_rfl) (by kernel_rfl) fun x h=>Asp x.1 x.2.1 h
theorem Az2 {xs:List (List Int)} {room:Int} (hr:roomy room) (h: ¬Hp xs room<0):(Ja xs:Int)≤room-Hp xs room∧roomy (Hp xs room):=by
 have e2:=Atd h
 have:=As1 hr h
 exact ⟨by omega,this⟩
theorem Azs {b:Bool} (h:(!b)=true):b=false:=by cases b<;>simp_all
theorem Rp {α:Type} (q:α→Bool) (xs:List α) {j:Nat} (h:j<xs.length):(xs.take (j+1)).countP q=(xs.take j).countP q+if q xs[j]=true then 1 else 0:=by
 rw [List.take_add_one,List.getElem?_eq_getElem h,List.countP_append]
 simp [List.countP_cons]
theorem Ad2 {α:Type} (q:α→Bool) (xs:List α) (j:Nat):(xs.take j).countP q≤xs.length:=
 Nat.le_trans List.countP_le_length (by rw [List.length_take];omega)
theorem Agf {p:PP} {gs:List (List Int)} (h:Jg p gs=true) {j:Nat} (hj:j<gs.length):Ei p.1 gs[j]=true:=by
 obtain ⟨_,_,h3,_⟩:=Em.1 h
 exact (h3 j hj hj).1
theorem Aja (p:PP) (gs:List (List Int)) (s:List Int) (h:Dl p∧Ee gs∧short s):fnW tab (look [(54,Py),(78,Fg),(56,Ek)]) Fh Try.f36 (p,gs,s,()) (fun (z:Int)=>z=Ms p gs s):=by
 obtain ⟨hp,hg,hs⟩:=h
 refine Eq.mp (Akj p gs s _) ⟨_,if_pos ⟨hp,hs⟩,?_⟩
 rw [show (Pv (p.1,p.2.1,p.2.2.1,()) s).2.2.1=Kp p s from Aun]
 unfold Ms
 refine Br.of (fun hf=>?_) fun hf=>?_
 ·rw [Azs hf,Bool.false_and,if_neg (by decide)]
 have hf:Kp p s=true:=by simpa using hf
 rw [hf,Bool.true_and]
 refine ⟨_,if_pos ⟨hp,hg⟩,Br.of (fun hm=>?_) fun hm=>?_⟩
 ·rw [if_neg (Cb hm)]
 have hm:Jg p gs=true:=by simpa using hm
 rw [if_pos hm]
 have hlen:=hg.1
 refine Ao gs.length (fun v=>v.2.1) (fun j v=>v.1=(((gs.take j).countP fun g=>Ow g s:Nat):Int)) rfl (by simp) ?_
 rintro j ⟨c,i,⟨⟩⟩ K hj hi hR hK
 dsimp only at hi hR⊢
 subst hi hR
 have hb:=Ad2 (fun g=>Ow g s) gs j
 refine Br.dec (fun hl=>?_) fun hl=>?_
 ·have hl:j<gs.length:=by omega
  refine ⟨_,Aq hl,_,if_pos ⟨hg.2 _ (List.getElem_mem hl),hs,Are hf (Agf hm hl)⟩,Br.of (fun hb=>?_) fun hb=>?_⟩
  ·have hb:Ow gs[j] s=true:=hb
   rw [Ak (by omega),Ak (by omega)]
   refine hK hl _ rfl ?_
   rw [Rp _ gs hl,if_pos hb]
  ·have hb:Ow gs[j] s=false:=hb
   rw [Ak (by omega)]
   refine hK hl _ rfl ?_
   rw [Rp _ gs hl,if_neg (by rw [hb];decide)]
   rfl
 ·have:j=gs.length:=by omega
  subst this
  rw [List.take_length]
theorem Acg:Sound Try.prog 36 Fh:=
 Sound.mkS Bp (Ad Alg (Ad Ace (Ad Aha As))) mixed Try.func36 (by kernel_rfl) (by kernel_rfl) fun x h=>Aja x.1 x.2.1 x.2.2.1 h
theorem Ajc (p:PP) (gs:List (List Int)) (s:List Int) (h:Dl p∧Ee gs∧short s):fnW tab (look [(77,Fg),(52,Jq),(53,Ek)]) Fh Try.f34 (p,gs,s,()) (fun (z:Int)=>z=Ms p gs s):=by
 obtain ⟨hp,hg,hs⟩:=h
 refine Eq.mp (Akl p gs s _) ⟨_,if_pos ⟨hp,hg⟩,?_⟩
 unfold Ms
 refine Br.of (fun hm=>?_) fun hm=>?_
 ·have hm:Jg p gs=false:=Azs hm
  rw [hm,Bool.and_false,if_neg (by decide)]
 have hm:Jg p gs=true:=by simpa using hm
 rw [hm,Bool.and_true]
 refine ⟨_,if_pos ⟨hp,hs⟩,Br.of (fun hf=>?_) fun hf=>?_⟩
 ·rw [if_neg (Cb hf)]
 have hf:Kp p s=true:=by simpa using hf
 rw [if_pos hf]
 have hlen:=hg.1
 refine Ao gs.length (fun v=>v.2.1) (fun j v=>v.1=(((gs.take j).countP fun g=>Ow g s:Nat):Int)) rfl (by simp) ?_
 rintro j ⟨c,i,⟨⟩⟩ K hj hi hR hK
 dsimp only at hi hR⊢
 subst hi hR
 have hb:=Ad2 (fun g=>Ow g s) gs j
 refine Br.dec (fun hl=>?_) fun hl=>?_
 ·have hl:j<gs.length:=by omega
  refine ⟨_,Aq hl,_,if_pos ⟨hg.2 _ (List.getElem_mem hl),hs,Are hf (Agf hm hl)⟩,Br.of (fun hb=>?_) fun hb=>?_⟩
  ·have hb:Ow gs[j] s=true:=hb
   rw [Ak (by omega),Ak (by omega)]
   refine hK hl _ rfl ?_
   rw [Rp _ gs hl,if_pos hb]
  ·have hb:Ow gs[j] s=false:=hb
   rw [Ak (by omega)]
   refine hK hl _ rfl ?_
   rw [Rp _ gs hl,if_neg (by rw [hb];decide)]
   rfl
 ·have:j=gs.length:=by omega
  subst this
  rw [List.take_length]
theorem Aci:Sound Try.prog 34 Fh:=
 Sound.mkS Bp (Ad Ach (Ad Afp (Ad Ah8 As))) mixed Try.func34 (by kernel_rfl) (by kernel_rfl) fun x h=>Ajc x.1 x.2.1 x.2.2.1 h
theorem Al6 (p:PP) (a:List (List Int)) (b:List Int) (h:Dl p∧Ee a∧short b):fnW tab (look [(15,Ane),(33,Wb),(34,Fh),(36,Fh),(17,Ago),(35,Rd),(18,Zf),(20,An7),(37,Vz),(21,Dg)]) Afk Try.f8 (p,a,b,()) (fun (z:Bool)=>z=true):=by
 have h0:Dl (p.1,p.2.1,p.2.2.1,()):=h.1
 have h1:Ee a:=h.2.1
 have h2:short b:=h.2.2
 refine Eq.mp (Alv p a b _) ?_
 refine Br.dec (fun _=>rfl) fun hl_b=>?_
 refine ⟨_,if_pos ⟨h0,Asw⟩,Br.dec (fun _=>rfl) fun hs_p=>?_⟩
 have hz_p:(((Ja p.2.2.1:Nat):Nat):Int)≤(1048576)-(Ox (p.1,p.2.1,p.2.2.1,()) (1048576))∧roomy (Ox (p.1,p.2.1,p.2.2.1,()) (1048576)):=Bb8 Asw hs_p
 have hy_p:=hz_p.1
 have hr_p:0≤Ox (p.1,p.2.1,p.2.2.1,()) (1048576)∧Ox (p.1,p.2.1,p.2.2.1,()) (1048576)≤4294967296:=hz_p.2
 refine ⟨_,if_pos ⟨h1,hz_p.2⟩,Br.dec (fun _=>rfl) fun hs_a=>?_⟩
 have hz_a:(((Ja a:Nat):Nat):Int)≤(Ox (p.1,p.2.1,p.2.2.1,()) (1048576))-(Hp a (Ox (p.1,p.2.1,p.2.2.1,()) (1048576)))∧roomy (Hp a (Ox (p.1,p.2.1,p.2.2.1,()) (1048576))):=Az2 hz_p.2 hs_a
 have hy_a:=hz_a.1
 have hr_a:0≤Hp a (Ox (p.1,p.2.1,p.2.2.1,()) (1048576))∧Hp a (Ox (p.1,p.2.1,p.2.2.1,()) (1048576))≤4294967296:=hz_a.2
 have l0:low (1+(Ja p.2.2.1:Nat)):=⟨by omega,by omega⟩
 have l1:low (1+(Ja p.2.2.1:Nat)+(Ja a:Nat)):=⟨by omega,by omega⟩
 have l2:low (1+(Ja p.2.2.1:Nat)+(Ja a:Nat)+(b.length:Nat)):=⟨by omega,by omega⟩
 refine ⟨_,if_pos h0,_,if_pos h1,_,if_pos h2,?_⟩
 try simp only [Db]
 refine ⟨_,if_pos ⟨h0,h1,h2⟩,_,if_pos h0,_,if_pos h1,_,if_pos h2,?_⟩
 try simp only [Db]
 generalize he0:Ms p a b=g0
 refine ⟨_,if_pos ⟨h0,h1,h2⟩,?_⟩
 simp only [Db,he0]
 refine ⟨fun he=>Ba6 he,fun _=>?_⟩
 refine ⟨_,if_pos h0,_,if_pos h0,⟨fun he=>absurd (Av1 _) (Cb he),fun _=>?_⟩⟩
 refine ⟨_,if_pos h1,?_⟩
 try simp only [Db]
 refine ⟨_,if_pos h1,⟨fun he=>absurd (Arz _) (Cb he),fun _=>?_⟩⟩
 refine ⟨_,if_pos h2,?_⟩
 try simp only [Db]
 refine ⟨_,if_pos h2,⟨fun he=>absurd (Af3 _) (Cb he),fun _=>?_⟩⟩
 first|rfl|trivial
theorem Ae9:Sound Try.prog 8 Afk:=
 Sound.mkS Bp (Ad Ayz (Ad Ak4 (Ad Aci (Ad Acg (Ad Az0 (Ad Ak5 (Ad Ani (Ad Ayt (Ad Ajx (Ad Anh As)))))))))) mixed Try.func8 (by kernel_rfl) (by kernel_rfl) fun x h=>Al6 x.1 x.2.1 x.2.2.1 h
end Go.Proofs.Ytebabhocakedaaa
