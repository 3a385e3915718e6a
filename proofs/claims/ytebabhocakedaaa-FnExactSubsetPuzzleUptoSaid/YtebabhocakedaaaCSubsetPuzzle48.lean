/-
  Part 49 of the proof that the statement FnExactSubsetPuzzle holds.
-/
import Derived.Test.YtebabhocakedaaaCSubsetPuzzle47
namespace Go.Proofs.Ytebabhocakedaaa
open Go.RowKit
theorem Azt (p:Int×ByteArray×List (List Int)×Unit) (P:(Option (PP×List (List Int)×List Int×(ByteArray→Option Int)×List Int×List Int×List (List Int)×Unit)×Bool×Unit)→Prop):(∃(y2:Int),
 Jy.fn ((p.1,p.2.1,p.2.2.1,()),())=some y2∧
 ∃(y3:Bool),
 Bi.fn (y2,(1:Int),(3000:Int),())=some y3∧
 Br (!y3) (P (none,false,()))
 (∃(y4:List Int),
 Ly.fn (p.1,())=some y4∧
 ∃(y5:ByteArray),
 Em.fn (y4,())=some y5∧
 (∃(y6:List Int),
 Jx.fn ((↑p.2.2.1.length:Int),())=some y6∧
 (0:Nat)=(0:Nat)∧
 (1:Nat)= [y4].length∧
 (0:Nat)=(0:Nat)∧
 (1:Nat)= [(0:Int)].length∧
 (0:Nat)=(0:Nat)∧
 (1:Nat)= [(0:Int)].length∧
 (0:Nat)=(0:Nat)∧
 (1:Nat)= [(0:Int)].length∧
 (0:Nat)=(0:Nat)∧
 (0:Nat)=([]:List Int).length∧
 Cc
 (fun
 (v7:
 Int×
 Int×
 ByteArray×
 List (List Int)×
 List (List Int)×List Int×(ByteArray→Option Int)×List Int×List Int×Int×ByteArray×List (List Int)×List (List Int)×PUnit)
 (k8:
 Int×
 Int×
 ByteArray×
 List (List Int)×
 List (List Int)×
 List Int×(ByteArray→Option Int)×List Int×List Int×Int×ByteArray×List (List Int)×List (List Int)×PUnit→
 Prop)=>
 Br (decide (v7.1<(↑v7.2.2.2.2.1.length:Int)))
 (((0:Int)≤v7.1∧v7.1<(↑v7.2.2.2.2.1.length:Int))∧
 ∃(y9:List Int),
 v7.2.2.2.2.1[(0:Nat)+v7.1.toNat]?=some y9∧
 ∃(y10:List (List Int)),
 Aau.fn ((v7.2.1,v7.2.2.1,v7.2.2.2.1,()),y9,())=some y10∧
 (0:Nat)=(0:Nat)∧
 (0:Nat)=([]:List Int).length∧
 (0:Nat)=(0:Nat)∧
 v7.2.2.2.2.1.length=v7.2.2.2.2.1.length∧
 (0:Nat)=(0:Nat)∧
 v7.2.2.2.2.2.1.length=v7.2.2.2.2.2.1.length∧
 (0:Nat)=(0:Nat)∧
 v7.2.2.2.2.2.2.2.1.length=v7.2.2.2.2.2.2.2.1.length∧
 (0:Nat)=(0:Nat)∧
 v7.2.2.2.2.2.2.2.2.1.length=v7.2.2.2.2.2.2.2.2.1.length∧
 (0:Nat)=(0:Nat)∧
 v7.2.2.2.2.2.2.2.2.2.2.2.2.1.length=v7.2.2.2.2.2.2.2.2.2.2.2.2.1.length∧
 Cc
 (fun
 (v11:
 Int×
 Int×
 ByteArray×
 List (List Int)×
 List Int×
 List (List Int)×
 List Int×
 (ByteArray→Option Int)×
 List Int×List Int×Int×ByteArray×List (List Int)×List (List Int)×PUnit)
 (k12:
 Int×
 Int×
 ByteArray×
 List (List Int)×
 List Int×
 List (List Int)×
 List Int×
 (ByteArray→Option Int)×
 List Int×List Int×Int×ByteArray×List (List Int)×List (List Int)×PUnit→
 Prop)=>
 Br (decide (v11.1<(↑y10.length:Int)))
 (∃(y13:List Int),
 idx y10 v11.1=some y13∧
 ∃(y14:ByteArray),
 Em.fn (y13,())=some y14∧
 Br (!(v11.2.2.2.2.2.2.2.1 y14).isSome)
 (∃(y15:Int),
 Px.fn
 (List.take v11.2.2.2.2.2.1.length (List.drop ((0:Nat)) v11.2.2.2.2.2.1),())=
 some y15∧
 (0:Nat)=(0:Nat)∧
 v11.2.2.2.2.2.1.length=v11.2.2.2.2.2.1.length∧
 v11.2.2.2.2.2.1.length+(List.take (1:Nat) (List.drop (0:Nat) [y13])).length≤
 Am∧
 ((0:Int)≤v7.1∧v7.1<(↑v11.2.2.2.2.2.2.1.length:Int))∧
 ∃(y16:Int),
 v11.2.2.2.2.2.2.1[(0:Nat)+v7.1.toNat]?=some y16∧
 (0:Nat)=(0:Nat)∧
 v11.2.2.2.2.2.2.1.length=v11.2.2.2.2.2.2.1.length∧
 v11.2.2.2.2.2.2.1.length+ [IntKind.i64.wrap (y16+(1:Int))].length≤
 Am∧
 (0:Nat)=(0:Nat)∧
 v11.2.2.2.2.2.2.2.2.1.length=
 v11.2.2.2.2.2.2.2.2.1.length∧
 v11.2.2.2.2.2.2.2.2.1.length+
 (List.take (1:Nat) (List.drop (0:Nat) [v7.1])).length≤
 Am∧
 ∃(y17:Int),
 idx y6 v11.1=some y17∧
 (0:Nat)=(0:Nat)∧
 v11.2.2.2.2.2.2.2.2.2.1.length=
 v11.2.2.2.2.2.2.2.2.2.1.length∧
 v11.2.2.2.2.2.2.2.2.2.1.length+ [y17].length≤
 Am∧
 (0:Nat)=(0:Nat)∧
 v11.2.2.2.2.1.length=v11.2.2.2.2.1.length∧
 v11.2.2.2.2.1.length+
 (List.take (1:Nat)
 (List.drop (0:Nat) [y15])).length≤
 Am∧
 (0:Nat)=(0:Nat)∧
 (v11.2.2.2.2.1++
 List.take (1:Nat)
 (List.drop (0:Nat) [y15])).length=
 (v11.2.2.2.2.1++
 List.take (1:Nat)
 (List.drop (0:Nat) [y15])).length∧
 (0:Nat)=(0:Nat)∧
 (v11.2.2.2.2.2.1++
 List.take (1:Nat)
 (List.drop (0:Nat) [y13])).length=
 (v11.2.2.2.2.2.1++
 List.take (1:Nat)
 (List.drop (0:Nat) [y13])).length∧
 (0:Nat)=(0:Nat)∧
 (v11.2.2.2.2.2.2.1++
 [IntKind.i64.wrap
 (y16+(1:Int))]).length=
 (v11.2.2.2.2.2.2.1++
 [IntKind.i64.wrap
 (y16+(1:Int))]).length∧
 (0:Nat)=(0:Nat)∧
 (v11.2.2.2.2.2.2.2.2.1++
 List.take (1:Nat)
 (List.drop (0:Nat)
 [v7.1])).length=
 (v11.2.2.2.2.2.2.2.2.1++
 List.take (1:Nat)
 (List.drop (0:Nat)
 [v7.1])).length∧
 (0:Nat)=(0:Nat)∧
 (v11.2.2.2.2.2.2.2.2.2.1++
 [y17]).length=
 (v11.2.2.2.2.2.2.2.2.2.1++
 [y17]).length∧
 (0:Nat)=(0:Nat)∧
 v11.2.2.2.2.2.2.2.2.2.2.2.2.2.1.length=
 v11.2.2.2.2.2.2.2.2.2.2.2.2.2.1.length∧
 k12
 (IntKind.i64.wrap
 (v11.1+(1:Int)),
 v11.2.1,v11.2.2.1,
 v11.2.2.2.1,
 v11.2.2.2.2.1++
 List.take (1:Nat)
 (List.drop (0:Nat)
 [y15]),
 v11.2.2.2.2.2.1++
 List.take (1:Nat)
 (List.drop (0:Nat)
 [y13]),
 v11.2.2.2.2.2.2.1++
 [IntKind.i64.wrap
 (y16+(1:Int))],
 Eo
 v11.2.2.2.2.2.2.2.1
 y14 y15,
 v11.2.2.2.2.2.2.2.2.1++
 List.take (1:Nat)
 (List.drop (0:Nat)
 [v7.1]),
 v11.2.2.2.2.2.2.2.2.2.1++
 [y17],
 v11.2.2.2.2.2.2.2.2.2.2.1,
 v11.2.2.2.2.2.2.2.2.2.2.2.1,
 v11.2.2.2.2.2.2.2.2.2.2.2.2.1,
 v11.2.2.2.2.2.2.2.2.2.2.2.2.2.1,
 ()))
 ((0:Nat)=(0:Nat)∧
 v11.2.2.2.2.1.length=v11.2.2.2.2.1.length∧
 v11.2.2.2.2.1.length+
 (List.take (1:Nat)
 (List.drop (0:Nat)
 [(v11.2.2.2.2.2.2.2.1 y14).getD (Int.ofNat (nat_lit 0))])).length≤
 Am∧
 (0:Nat)=(0:Nat)∧
 (v11.2.2.2.2.1++
 List.take (1:Nat)
 (List.drop (0:Nat)
 [(v11.2.2.2.2.2.2.2.1 y14).getD (Int.ofNat (nat_lit 0))])).length=
 (v11.2.2.2.2.1++
 List.take (1:Nat)
 (List.drop (0:Nat)
 [(v11.2.2.2.2.2.2.2.1 y14).getD (Int.ofNat (nat_lit 0))])).length∧
 (0:Nat)=(0:Nat)∧
 v11.2.2.2.2.2.1.length=v11.2.2.2.2.2.1.length∧
 (0:Nat)=(0:Nat)∧
 v11.2.2.2.2.2.2.1.length=v11.2.2.2.2.2.2.1.length∧
 (0:Nat)=(0:Nat)∧
 v11.2.2.2.2.2.2.2.2.1.length=
 v11.2.2.2.2.2.2.2.2.1.length∧
 (0:Nat)=(0:Nat)∧
 v11.2.2.2.2.2.2.2.2.2.1.length=
 v11.2.2.2.2.2.2.2.2.2.1.length∧
 (0:Nat)=(0:Nat)∧
 v11.2.2.2.2.2.2.2.2.2.2.2.2.2.1.length=
 v11.2.2.2.2.2.2.2.2.2.2.2.2.2.1.length∧
 k12
 (IntKind.i64.wrap (v11.1+(1:Int)),v11.2.1,v11.2.2.1,
 v11.2.2.2.1,
 v11.2.2.2.2.1++
 List.take (1:Nat)
 (List.drop (0:Nat)
 [(v11.2.2.2.2.2.2.2.1 y14).getD
 (Int.ofNat (nat_lit 0))]),
 v11.2.2.2.2.2.1,v11.2.2.2.2.2.2.1,
 v11.2.2.2.2.2.2.2.1,v11.2.2.2.2.2.2.2.2.1,
 v11.2.2.2.2.2.2.2.2.2.1,
 v11.2.2.2.2.2.2.2.2.2.2.1,
 v11.2.2.2.2.2.2.2.2.2.2.2.1,
 v11.2.2.2.2.2.2.2.2.2.2.2.2.1,
 v11.2.2.2.2.2.2.2.2.2.2.2.2.2.1,())))
 ((0:Nat)=(0:Nat)∧
 v11.2.2.2.2.2.2.2.2.2.2.2.2.2.1.length=
 v11.2.2.2.2.2.2.2.2.2.2.2.2.2.1.length∧
 v11.2.2.2.2.2.2.2.2.2.2.2.2.2.1.length+
 (List.take (1:Nat)
 (List.drop (0:Nat)
 [List.take v11.2.2.2.2.1.length (List.drop ((0:Nat)) v11.2.2.2.2.1)])).length≤
 Am∧
 (0:Nat)=(0:Nat)∧
 v11.2.2.2.2.2.1.length=v11.2.2.2.2.2.1.length∧
 (0:Nat)=(0:Nat)∧
 v11.2.2.2.2.2.2.1.length=v11.2.2.2.2.2.2.1.length∧
 (0:Nat)=(0:Nat)∧
 v11.2.2.2.2.2.2.2.2.1.length=v11.2.2.2.2.2.2.2.2.1.length∧
 (0:Nat)=(0:Nat)∧
 v11.2.2.2.2.2.2.2.2.2.1.length=v11.2.2.2.2.2.2.2.2.2.1.length∧
 (0:Nat)=(0:Nat)∧
 (v11.2.2.2.2.2.2.2.2.2.2.2.2.2.1++
 List.take (1:Nat)
 (List.drop (0:Nat)
 [List.take v11.2.2.2.2.1.length
 (List.drop ((0:Nat)) v11.2.2.2.2.1)])).length=
 (v11.2.2.2.2.2.2.2.2.2.2.2.2.2.1++
 List.take (1:Nat)
 (List.drop (0:Nat)
 [List.take v11.2.2.2.2.1.length
 (List.drop ((0:Nat)) v11.2.2.2.2.1)])).length∧
 k8
 (IntKind.i64.wrap (v7.1+(1:Int)),v11.2.1,v11.2.2.1,v11.2.2.2.1,
 v11.2.2.2.2.2.1,v11.2.2.2.2.2.2.1,v11.2.2.2.2.2.2.2.1,
 v11.2.2.2.2.2.2.2.2.1,v11.2.2.2.2.2.2.2.2.2.1,
 v11.2.2.2.2.2.2.2.2.2.2.1,v11.2.2.2.2.2.2.2.2.2.2.2.1,
 v11.2.2.2.2.2.2.2.2.2.2.2.2.1,
 v11.2.2.2.2.2.2.2.2.2.2.2.2.2.1++
 List.take (1:Nat)
 (List.drop (0:Nat)
 [List.take v11.2.2.2.2.1.length
 (List.drop ((0:Nat)) v11.2.2.2.2.1)]),
 ())))
 ((0:Int),v7.2.1,v7.2.2.1,v7.2.2.2.1,[],v7.2.2.2.2.1,v7.2.2.2.2.2.1,
 v7.2.2.2.2.2.2.1,v7.2.2.2.2.2.2.2.1,v7.2.2.2.2.2.2.2.2.1,
 v7.2.2.2.2.2.2.2.2.2.1,v7.2.2.2.2.2.2.2.2.2.2.1,v7.2.2.2.2.2.2.2.2.2.2.2.1,
 v7.2.2.2.2.2.2.2.2.2.2.2.2.1,PUnit.unit))
 (P
 (some
 ((v7.2.2.2.2.2.2.2.2.2.1,v7.2.2.2.2.2.2.2.2.2.2.1,v7.2.2.2.2.2.2.2.2.2.2.2.1,()),
 List.take v7.2.2.2.2.1.length (List.drop ((0:Nat)) v7.2.2.2.2.1),
 List.take v7.2.2.2.2.2.1.length (List.drop ((0:Nat)) v7.2.2.2.2.2.1),v7.2.2.2.2.2.2.1,
 List.take v7.2.2.2.2.2.2.2.1.length (List.drop ((0:Nat)) v7.2.2.2.2.2.2.2.1),
 List.take v7.2.2.2.2.2.2.2.2.1.length (List.drop ((0:Nat)) v7.2.2.2.2.2.2.2.2.1),
 List.take v7.2.2.2.2.2.2.2.2.2.2.2.2.1.length (List.drop ((0:Nat)) v7.2.2.2.2.2.2.2.2.2.2.2.2.1),()),
 true,())))
 ((0:Int),p.1,p.2.1,p.2.2.1,[y4],[(0:Int)],Eo (fun (_:ByteArray)=>none) y5 (0:Int),[(0:Int)],[(0:Int)],p.1,p.2.1,
 p.2.2.1,([]:List (List Int)),PUnit.unit))∧
 ((∃(y6:ByteArray),
 Em.fn (y4,())=some y6∧
 [((0:Nat),(1:Nat)),((0:Nat),(1:Nat)),((0:Nat),(1:Nat)),((0:Nat),(1:Nat)),((0:Nat),(1:Nat)),((0:Nat),(1:Nat)),((0:Nat),(1:Nat)),
 ((0:Nat),(1:Nat)),((0:Nat),(1:Nat)),((0:Nat),(1:Nat)),((0:Nat),(1:Nat)),((0:Nat),(1:Nat)),((0:Nat),(0:Nat))]=
 [((0:Nat),(1:Nat)),((0:Nat),(1:Nat)),((0:Nat),(1:Nat)),((0:Nat),(1:Nat)),((0:Nat),(1:Nat)),((0:Nat),(1:Nat)),((0:Nat),(1:Nat)),
 ((0:Nat),(1:Nat)),((0:Nat),(1:Nat)),((0:Nat),(1:Nat)),((0:Nat),(1:Nat)),((0:Nat),(1:Nat)),((0:Nat),(0:Nat))]∧
 (p,false,y4,p.1,p.2.1,p.2.2.1,y2,y3,!y3,p.1,y4,p.1,p.2.1,p.2.2.1,y4,y4,y6,p.1,p.2.1,p.2.2.1,p.1,p.2.1,p.2.2.1,
 [y4],[(0:Int)],Eo (fun (_:ByteArray)=>none) y6 (0:Int),[(0:Int)],[(0:Int)],p.1,p.2.1,p.2.2.1,([]:List (List Int)),())=
 (p,false,y4,p.1,p.2.1,p.2.2.1,y2,y3,!y3,p.1,y4,p.1,p.2.1,p.2.2.1,y4,y4,y5,p.1,p.2.1,p.2.2.1,p.1,p.2.1,p.2.2.1,
 [y4],[(0:Int)],Eo (fun (_:ByteArray)=>none) y5 (0:Int),[(0:Int)],[(0:Int)],p.1,p.2.1,p.2.2.1,([]:List (List Int)),PUnit.unit))∧
 ∃(y6:ByteArray),
 Em.fn (y4,())=some y6∧
 ([((0:Nat),(1:Nat)),((0:Nat),(1:Nat)),((0:Nat),(1:Nat)),((0:Nat),(1:Nat)),((0:Nat),(1:Nat)),((0:Nat),(1:Nat)),((0:Nat),(1:Nat)),
 ((0:Nat),(1:Nat)),((0:Nat),(1:Nat)),((0:Nat),(1:Nat)),((0:Nat),(1:Nat)),((0:Nat),(1:Nat)),((0:Nat),(0:Nat))]=
 [((0:Nat),(1:Nat)),((0:Nat),(1:Nat)),((0:Nat),(1:Nat)),((0:Nat),(1:Nat)),((0:Nat),(1:Nat)),((0:Nat),(1:Nat)),
 ((0:Nat),(1:Nat)),((0:Nat),(1:Nat)),((0:Nat),(1:Nat)),((0:Nat),(1:Nat)),((0:Nat),(1:Nat)),((0:Nat),(1:Nat)),
 ((0:Nat),(0:Nat))]∧
 (p,false,y4,p.1,p.2.1,p.2.2.1,y2,y3,!y3,p.1,y4,p.1,p.2.1,p.2.2.1,y4,y4,y6,p.1,p.2.1,p.2.2.1,p.1,p.2.1,p.2.2.1,
 [y4],[(0:Int)],Eo (fun (_:ByteArray)=>none) y6 (0:Int),[(0:Int)],[(0:Int)],p.1,p.2.1,p.2.2.1,([]:List (List Int)),())=
 (p,false,y4,p.1,p.2.1,p.2.2.1,y2,y3,!y3,p.1,y4,p.1,p.2.1,p.2.2.1,y4,y4,y5,p.1,p.2.1,p.2.2.1,p.1,p.2.1,p.2.2.1,
 [y4],[(0:Int)],Eo (fun (_:ByteArray)=>none) y5 (0:Int),[(0:Int)],[(0:Int)],p.1,p.2.1,p.2.2.1,([]:List (List Int)),PUnit.unit))∧
 ([((0:Nat),(1:Nat)),((0:Nat),(1:Nat)),((0:Nat),(1:Nat)),((0:Nat),(1:Nat)),((0:Nat),(1:Nat)),((0:Nat),(1:Nat)),((0:Nat),(1:Nat)),
 ((0:Nat),(1:Nat)),((0:Nat),(1:Nat)),((0:Nat),(1:Nat)),((0:Nat),(1:Nat)),((0:Nat),(1:Nat)),((0:Nat),(0:Nat))]=
 [((0:Nat),(1:Nat)),((0:Nat),(1:Nat)),((0:Nat),(1:Nat)),((0:Nat),(1:Nat)),((0:Nat),(1:Nat)),((0:Nat),(1:Nat)),
 ((0:Nat),(1:Nat)),((0:Nat),(1:Nat)),((0:Nat),(1:Nat)),((0:Nat),(1:Nat)),((0:Nat),(1:Nat)),((0:Nat),(1:Nat)),
 ((0:Nat),(0:Nat))]∧
 (p,false,y4,p.1,p.2.1,p.2.2.1,y2,y3,!y3,p.1,y4,p.1,p.2.1,p.2.2.1,y4,y4,y6,p.1,p.2.1,p.2.2.1,p.1,p.2.1,p.2.2.1,
 [y4],[(0:Int)],Eo (fun (_:ByteArray)=>none) y6 (0:Int),[(0:Int)],[(0:Int)],p.1,p.2.1,p.2.2.1,([]:List (List Int)),())=
 (p,false,y4,p.1,p.2.1,p.2.2.1,y2,y3,!y3,p.1,y4,p.1,p.2.1,p.2.2.1,y4,y4,y5,p.1,p.2.1,p.2.2.1,p.1,p.2.1,
 p.2.2.1,[y4],[(0:Int)],Eo (fun (_:ByteArray)=>none) y5 (0:Int),[(0:Int)],[(0:Int)],p.1,p.2.1,p.2.2.1,([]:List (List Int)),PUnit.unit))∧
 [((0:Nat),(1:Nat)),((0:Nat),(1:Nat)),((0:Nat),(1:Nat)),((0:Nat),(1:Nat)),((0:Nat),(1:Nat)),((0:Nat),(1:Nat)),((0:Nat),(1:Nat)),
 ((0:Nat),(1:Nat)),((0:Nat),(1:Nat)),((0:Nat),(1:Nat)),((0:Nat),(1:Nat)),((0:Nat),(1:Nat)),((0:Nat),(0:Nat))]=
 [((0:Nat),(1:Nat)),((0:Nat),(1:Nat)),((0:Nat),(1:Nat)),((0:Nat),(1:Nat)),((0:Nat),(1:Nat)),((0:Nat),(1:Nat)),
 ((0:Nat),(1:Nat)),((0:Nat),(1:Nat)),((0:Nat),(1:Nat)),((0:Nat),(1:Nat)),((0:Nat),(1:Nat)),((0:Nat),(1:Nat)),
 ((0:Nat),(0:Nat))]∧
 (p,false,y4,p.1,p.2.1,p.2.2.1,y2,y3,!y3,p.1,y4,p.1,p.2.1,p.2.2.1,y4,y4,y6,p.1,p.2.1,p.2.2.1,p.1,p.2.1,p.2.2.1,
 [y4],[(0:Int)],Eo (fun (_:ByteArray)=>none) y6 (0:Int),[(0:Int)],[(0:Int)],p.1,p.2.1,p.2.2.1,([]:List (List Int)),())=
 (p,false,y4,p.1,p.2.1,p.2.2.1,y2,y3,!y3,p.1,y4,p.1,p.2.1,p.2.2.1,y4,y4,y5,p.1,p.2.1,p.2.2.1,p.1,p.2.1,
 p.2.2.1,[y4],[(0:Int)],Eo (fun (_:ByteArray)=>none) y5 (0:Int),[(0:Int)],[(0:Int)],p.1,p.2.1,p.2.2.1,([]:List (List Int)),PUnit.unit))∧
 ((∃(y6:ByteArray),
 Em.fn (y4,())=some y6∧
 [((0:Nat),(1:Nat)),((0:Nat),(1:Nat)),((0:Nat),(1:Nat)),((0:Nat),(1:Nat)),((0:Nat),(1:Nat)),((0:Nat),(1:Nat)),((0:Nat),(1:Nat)),
 ((0:Nat),(1:Nat)),((0:Nat),(1:Nat)),((0:Nat),(1:Nat)),((0:Nat),(1:Nat)),((0:Nat),(1:Nat)),((0:Nat),(0:Nat))]=
 [((0:Nat),(1:Nat)),((0:Nat),(1:Nat)),((0:Nat),(1:Nat)),((0:Nat),(1:Nat)),((0:Nat),(1:Nat)),((0:Nat),(1:Nat)),
 ((0:Nat),(1:Nat)),((0:Nat),(1:Nat)),((0:Nat),(1:Nat)),((0:Nat),(1:Nat)),((0:Nat),(1:Nat)),((0:Nat),(1:Nat)),
 ((0:Nat),(0:Nat))]∧
 (p,false,y4,p.1,p.2.1,p.2.2.1,y2,y3,!y3,p.1,y4,p.1,p.2.1,p.2.2.1,y4,y4,y6,p.1,p.2.1,p.2.2.1,p.1,p.2.1,p.2.2.1,
 [y4],[(0:Int)],Eo (fun (_:ByteArray)=>none) y6 (0:Int),[(0:Int)],[(0:Int)],p.1,p.2.1,p.2.2.1,([]:List (List Int)),())=
 (p,false,y4,p.1,p.2.1,p.2.2.1,y2,y3,!y3,p.1,y4,p.1,p.2.1,p.2.2.1,y4,y4,y5,p.1,p.2.1,p.2.2.1,p.1,p.2.1,p.2.2.1,
 [y4],[(0:Int)],Eo (fun (_:ByteArray)=>none) y5 (0:Int),[(0:Int)],[(0:Int)],p.1,p.2.1,p.2.2.1,([]:List (List Int)),PUnit.unit))∧
 ∃(y6:ByteArray),
 Em.fn (y4,())=some y6∧
 ([((0:Nat),(1:Nat)),((0:Nat),(1:Nat)),((0:Nat),(1:Nat)),((0:Nat),(1:Nat)),((0:Nat),(1:Nat)),((0:Nat),(1:Nat)),((0:Nat),(1:Nat)),
 ((0:Nat),(1:Nat)),((0:Nat),(1:Nat)),((0:Nat),(1:Nat)),((0:Nat),(1:Nat)),((0:Nat),(1:Nat)),((0:Nat),(0:Nat))]=
 [((0:Nat),(1:Nat)),((0:Nat),(1:Nat)),((0:Nat),(1:Nat)),((0:Nat),(1:Nat)),((0:Nat),(1:Nat)),((0:Nat),(1:Nat)),
 ((0:Nat),(1:Nat)),((0:Nat),(1:Nat)),((0:Nat),(1:Nat)),((0:Nat),(1:Nat)),((0:Nat),(1:Nat)),((0:Nat),(1:Nat)),
 ((0:Nat),(0:Nat))]∧
 (p,false,y4,p.1,p.2.1,p.2.2.1,y2,y3,!y3,p.1,y4,p.1,p.2.1,p.2.2.1,y4,y4,y6,p.1,p.2.1,p.2.2.1,p.1,p.2.1,p.2.2.1,
 [y4],[(0:Int)],Eo (fun (_:ByteArray)=>none) y6 (0:Int),[(0:Int)],[(0:Int)],p.1,p.2.1,p.2.2.1,([]:List (List Int)),())=
 (p,false,y4,p.1,p.2.1,p.2.2.1,y2,y3,!y3,p.1,y4,p.1,p.2.1,p.2.2.1,y4,y4,y5,p.1,p.2.1,p.2.2.1,p.1,p.2.1,
 p.2.2.1,[y4],[(0:Int)],Eo (fun (_:ByteArray)=>none) y5 (0:Int),[(0:Int)],[(0:Int)],p.1,p.2.1,p.2.2.1,([]:List (List Int)),PUnit.unit))∧
 ([((0:Nat),(1:Nat)),((0:Nat),(1:Nat)),((0:Nat),(1:Nat)),((0:Nat),(1:Nat)),((0:Nat),(1:Nat)),((0:Nat),(1:Nat)),
 ((0:Nat),(1:Nat)),((0:Nat),(1:Nat)),((0:Nat),(1:Nat)),((0:Nat),(1:Nat)),((0:Nat),(1:Nat)),((0:Nat),(1:Nat)),
 ((0:Nat),(0:Nat))]=
 [((0:Nat),(1:Nat)),((0:Nat),(1:Nat)),((0:Nat),(1:Nat)),((0:Nat),(1:Nat)),((0:Nat),(1:Nat)),((0:Nat),(1:Nat)),
 ((0:Nat),(1:Nat)),((0:Nat),(1:Nat)),((0:Nat),(1:Nat)),((0:Nat),(1:Nat)),((0:Nat),(1:Nat)),((0:Nat),(1:Nat)),
 ((0:Nat),(0:Nat))]∧
 (p,false,y4,p.1,p.2.1,p.2.2.1,y2,y3,!y3,p.1,y4,p.1,p.2.1,p.2.2.1,y4,y4,y6,p.1,p.2.1,p.2.2.1,p.1,p.2.1,
 p.2.2.1,[y4],[(0:Int)],Eo (fun (_:ByteArray)=>none) y6 (0:Int),[(0:Int)],[(0:Int)],p.1,p.2.1,p.2.2.1,([]:List (List Int)),())=
 (p,false,y4,p.1,p.2.1,p.2.2.1,y2,y3,!y3,p.1,y4,p.1,p.2.1,p.2.2.1,y4,y4,y5,p.1,p.2.1,p.2.2.1,p.1,p.2.1,
 p.2.2.1,[y4],[(0:Int)],Eo (fun (_:ByteArray)=>none) y5 (0:Int),[(0:Int)],[(0:Int)],p.1,p.2.1,p.2.2.1,([]:List (List Int)),PUnit.unit))∧
 [((0:Nat),(1:Nat)),((0:Nat),(1:Nat)),((0:Nat),(1:Nat)),((0:Nat),(1:Nat)),((0:Nat),(1:Nat)),((0:Nat),(1:Nat)),
 ((0:Nat),(1:Nat)),((0:Nat),(1:Nat)),((0:Nat),(1:Nat)),((0:Nat),(1:Nat)),((0:Nat),(1:Nat)),((0:Nat),(1:Nat)),
 ((0:Nat),(0:Nat))]=
 [((0:Nat),(1:Nat)),((0:Nat),(1:Nat)),((0:Nat),(1:Nat)),((0:Nat),(1:Nat)),((0:Nat),(1:Nat)),((0:Nat),(1:Nat)),
 ((0:Nat),(1:Nat)),((0:Nat),(1:Nat)),((0:Nat),(1:Nat)),((0:Nat),(1:Nat)),((0:Nat),(1:Nat)),((0:Nat),(1:Nat)),
 ((0:Nat),(0:Nat))]∧
 (p,false,y4,p.1,p.2.1,p.2.2.1,y2,y3,!y3,p.1,y4,p.1,p.2.1,p.2.2.1,y4,y4,y6,p.1,p.2.1,p.2.2.1,p.1,p.2.1,
 p.2.2.1,[y4],[(0:Int)],Eo (fun (_:ByteArray)=>none) y6 (0:Int),[(0:Int)],[(0:Int)],p.1,p.2.1,p.2.2.1,([]:List (List Int)),())=
 (p,false,y4,p.1,p.2.1,p.2.2.1,y2,y3,!y3,p.1,y4,p.1,p.2.1,p.2.2.1,y4,y4,y5,p.1,p.2.1,p.2.2.1,p.1,p.2.1,
 p.2.2.1,[y4],[(0:Int)],Eo (fun (_:ByteArray)=>none) y5 (0:Int),[(0:Int)],[(0:Int)],p.1,p.2.1,p.2.2.1,([]:List (List Int)),PUnit.unit))∧
 ∃(y6:ByteArray),
 Em.fn (y4,())=some y6∧
 (([((0:Nat),(1:Nat)),((0:Nat),(1:Nat)),((0:Nat),(1:Nat)),((0:Nat),(1:Nat)),((0:Nat),(1:Nat)),((0:Nat),(1:Nat)),((0:Nat),(1:Nat)),
 ((0:Nat),(1:Nat)),((0:Nat),(1:Nat)),((0:Nat),(1:Nat)),((0:Nat),(1:Nat)),((0:Nat),(1:Nat)),((0:Nat),(0:Nat))]=
 [((0:Nat),(1:Nat)),((0:Nat),(1:Nat)),((0:Nat),(1:Nat)),((0:Nat),(1:Nat)),((0:Nat),(1:Nat)),((0:Nat),(1:Nat)),
 ((0:Nat),(1:Nat)),((0:Nat),(1:Nat)),((0:Nat),(1:Nat)),((0:Nat),(1:Nat)),((0:Nat),(1:Nat)),((0:Nat),(1:Nat)),
 ((0:Nat),(0:Nat))]∧
 (p,false,y4,p.1,p.2.1,p.2.2.1,y2,y3,!y3,p.1,y4,p.1,p.2.1,p.2.2.1,y4,y4,y6,p.1,p.2.1,p.2.2.1,p.1,p.2.1,p.2.2.1,
 [y4],[(0:Int)],Eo (fun (_:ByteArray)=>none) y6 (0:Int),[(0:Int)],[(0:Int)],p.1,p.2.1,p.2.2.1,([]:List (List Int)),())=
 (p,false,y4,p.1,p.2.1,p.2.2.1,y2,y3,!y3,p.1,y4,p.1,p.2.1,p.2.2.1,y4,y4,y5,p.1,p.2.1,p.2.2.1,p.1,p.2.1,
 p.2.2.1,[y4],[(0:Int)],Eo (fun (_:ByteArray)=>none) y5 (0:Int),[(0:Int)],[(0:Int)],p.1,p.2.1,p.2.2.1,([]:List (List Int)),PUnit.unit))∧
 ([((0:Nat),(1:Nat)),((0:Nat),(1:Nat)),((0:Nat),(1:Nat)),((0:Nat),(1:Nat)),((0:Nat),(1:Nat)),((0:Nat),(1:Nat)),
 ((0:Nat),(1:Nat)),((0:Nat),(1:Nat)),((0:Nat),(1:Nat)),((0:Nat),(1:Nat)),((0:Nat),(1:Nat)),((0:Nat),(1:Nat)),
 ((0:Nat),(0:Nat))]=
 [((0:Nat),(1:Nat)),((0:Nat),(1:Nat)),((0:Nat),(1:Nat)),((0:Nat),(1:Nat)),((0:Nat),(1:Nat)),((0:Nat),(1:Nat)),
 ((0:Nat),(1:Nat)),((0:Nat),(1:Nat)),((0:Nat),(1:Nat)),((0:Nat),(1:Nat)),((0:Nat),(1:Nat)),((0:Nat),(1:Nat)),
 ((0:Nat),(0:Nat))]∧
 (p,false,y4,p.1,p.2.1,p.2.2.1,y2,y3,!y3,p.1,y4,p.1,p.2.1,p.2.2.1,y4,y4,y6,p.1,p.2.1,p.2.2.1,p.1,p.2.1,
 p.2.2.1,[y4],[(0:Int)],Eo (fun (_:ByteArray)=>none) y6 (0:Int),[(0:Int)],[(0:Int)],p.1,p.2.1,p.2.2.1,([]:List (List Int)),())=
 (p,false,y4,p.1,p.2.1,p.2.2.1,y2,y3,!y3,p.1,y4,p.1,p.2.1,p.2.2.1,y4,y4,y5,p.1,p.2.1,p.2.2.1,p.1,p.2.1,
 p.2.2.1,[y4],[(0:Int)],Eo (fun (_:ByteArray)=>none) y5 (0:Int),[(0:Int)],[(0:Int)],p.1,p.2.1,p.2.2.1,([]:List (List Int)),PUnit.unit))∧
 [((0:Nat),(1:Nat)),((0:Nat),(1:Nat)),((0:Nat),(1:Nat)),((0:Nat),(1:Nat)),((0:Nat),(1:Nat)),((0:Nat),(1:Nat)),
 ((0:Nat),(1:Nat)),((0:Nat),(1:Nat)),((0:Nat),(1:Nat)),((0:Nat),(1:Nat)),((0:Nat),(1:Nat)),((0:Nat),(1:Nat)),
 ((0:Nat),(0:Nat))]=
 [((0:Nat),(1:Nat)),((0:Nat),(1:Nat)),((0:Nat),(1:Nat)),((0:Nat),(1:Nat)),((0:Nat),(1:Nat)),((0:Nat),(1:Nat)),
 ((0:Nat),(1:Nat)),((0:Nat),(1:Nat)),((0:Nat),(1:Nat)),((0:Nat),(1:Nat)),((0:Nat),(1:Nat)),((0:Nat),(1:Nat)),
 ((0:Nat),(0:Nat))]∧
 (p,false,y4,p.1,p.2.1,p.2.2.1,y2,y3,!y3,p.1,y4,p.1,p.2.1,p.2.2.1,y4,y4,y6,p.1,p.2.1,p.2.2.1,p.1,p.2.1,
 p.2.2.1,[y4],[(0:Int)],Eo (fun (_:ByteArray)=>none) y6 (0:Int),[(0:Int)],[(0:Int)],p.1,p.2.1,p.2.2.1,([]:List (List Int)),())=
 (p,false,y4,p.1,p.2.1,p.2.2.1,y2,y3,!y3,p.1,y4,p.1,p.2.1,p.2.2.1,y4,y4,y5,p.1,p.2.1,p.2.2.1,p.1,p.2.1,
 p.2.2.1,[y4],[(0:Int)],Eo (fun (_:ByteArray)=>none) y5 (0:Int),[(0:Int)],[(0:Int)],p.1,p.2.1,p.2.2.1,([]:List (List Int)),PUnit.unit))∧
 (([((0:Nat),(1:Nat)),((0:Nat),(1:Nat)),((0:Nat),(1:Nat)),((0:Nat),(1:Nat)),((0:Nat),(1:Nat)),((0:Nat),(1:Nat)),((0:Nat),(1:Nat)),
 ((0:Nat),(1:Nat)),((0:Nat),(1:Nat)),((0:Nat),(1:Nat)),((0:Nat),(1:Nat)),((0:Nat),(1:Nat)),((0:Nat),(0:Nat))]=
 [((0:Nat),(1:Nat)),((0:Nat),(1:Nat)),((0:Nat),(1:Nat)),((0:Nat),(1:Nat)),((0:Nat),(1:Nat)),((0:Nat),(1:Nat)),
 ((0:Nat),(1:Nat)),((0:Nat),(1:Nat)),((0:Nat),(1:Nat)),((0:Nat),(1:Nat)),((0:Nat),(1:Nat)),((0:Nat),(1:Nat)),
 ((0:Nat),(0:Nat))]∧
 (p,false,y4,p.1,p.2.1,p.2.2.1,y2,y3,!y3,p.1,y4,p.1,p.2.1,p.2.2.1,y4,y4,y6,p.1,p.2.1,p.2.2.1,p.1,p.2.1,
 p.2.2.1,[y4],[(0:Int)],Eo (fun (_:ByteArray)=>none) y6 (0:Int),[(0:Int)],[(0:Int)],p.1,p.2.1,p.2.2.1,([]:List (List Int)),())=
 (p,false,y4,p.1,p.2.1,p.2.2.1,y2,y3,!y3,p.1,y4,p.1,p.2.1,p.2.2.1,y4,y4,y5,p.1,p.2.1,p.2.2.1,p.1,p.2.1,
 p.2.2.1,[y4],[(0:Int)],Eo (fun (_:ByteArray)=>none) y5 (0:Int),[(0:Int)],[(0:Int)],p.1,p.2.1,p.2.2.1,([]:List (List Int)),PUnit.unit))∧
 ([((0:Nat),(1:Nat)),((0:Nat),(1:Nat)),((0:Nat),(1:Nat)),((0:Nat),(1:Nat)),((0:Nat),(1:Nat)),((0:Nat),(1:Nat)),
 ((0:Nat),(1:Nat)),((0:Nat),(1:Nat)),((0:Nat),(1:Nat)),((0:Nat),(1:Nat)),((0:Nat),(1:Nat)),((0:Nat),(1:Nat)),
 ((0:Nat),(0:Nat))]=
 [((0:Nat),(1:Nat)),((0:Nat),(1:Nat)),((0:Nat),(1:Nat)),((0:Nat),(1:Nat)),((0:Nat),(1:Nat)),((0:Nat),(1:Nat)),
 ((0:Nat),(1:Nat)),((0:Nat),(1:Nat)),((0:Nat),(1:Nat)),((0:Nat),(1:Nat)),((0:Nat),(1:Nat)),((0:Nat),(1:Nat)),
 ((0:Nat),(0:Nat))]∧
 (p,false,y4,p.1,p.2.1,p.2.2.1,y2,y3,!y3,p.1,y4,p.1,p.2.1,p.2.2.1,y4,y4,y6,p.1,p.2.1,p.2.2.1,p.1,p.2.1,
 p.2.2.1,[y4],[(0:Int)],Eo (fun (_:ByteArray)=>none) y6 (0:Int),[(0:Int)],[(0:Int)],p.1,p.2.1,p.2.2.1,([]:List (List Int)),())=
 (p,false,y4,p.1,p.2.1,p.2.2.1,y2,y3,!y3,p.1,y4,p.1,p.2.1,p.2.2.1,y4,y4,y5,p.1,p.2.1,p.2.2.1,p.1,p.2.1,
 p.2.2.1,[y4],[(0:Int)],Eo (fun (_:ByteArray)=>none) y5 (0:Int),[(0:Int)],[(0:Int)],p.1,p.2.1,p.2.2.1,([]:List (List Int)),PUnit.unit))∧
 [((0:Nat),(1:Nat)),((0:Nat),(1:Nat)),((0:Nat),(1:Nat)),((0:Nat),(1:Nat)),((0:Nat),(1:Nat)),((0:Nat),(1:Nat)),
 ((0:Nat),(1:Nat)),((0:Nat),(1:Nat)),((0:Nat),(1:Nat)),((0:Nat),(1:Nat)),((0:Nat),(1:Nat)),((0:Nat),(1:Nat)),
 ((0:Nat),(0:Nat))]=
 [((0:Nat),(1:Nat)),((0:Nat),(1:Nat)),((0:Nat),(1:Nat)),((0:Nat),(1:Nat)),((0:Nat),(1:Nat)),((0:Nat),(1:Nat)),
 ((0:Nat),(1:Nat)),((0:Nat),(1:Nat)),((0:Nat),(1:Nat)),((0:Nat),(1:Nat)),((0:Nat),(1:Nat)),((0:Nat),(1:Nat)),
 ((0:Nat),(0:Nat))]∧
 (p,false,y4,p.1,p.2.1,p.2.2.1,y2,y3,!y3,p.1,y4,p.1,p.2.1,p.2.2.1,y4,y4,y6,p.1,p.2.1,p.2.2.1,p.1,p.2.1,
 p.2.2.1,[y4],[(0:Int)],Eo (fun (_:ByteArray)=>none) y6 (0:Int),[(0:Int)],[(0:Int)],p.1,p.2.1,p.2.2.1,([]:List (List Int)),())=
 (p,false,y4,p.1,p.2.1,p.2.2.1,y2,y3,!y3,p.1,y4,p.1,p.2.1,p.2.2.1,y4,y4,y5,p.1,p.2.1,p.2.2.1,p.1,p.2.1,
 p.2.2.1,[y4],[(0:Int)],Eo (fun (_:ByteArray)=>none) y5 (0:Int),[(0:Int)],[(0:Int)],p.1,p.2.1,p.2.2.1,([]:List (List Int)),PUnit.unit))∧
 (([((0:Nat),(1:Nat)),((0:Nat),(1:Nat)),((0:Nat),(1:Nat)),((0:Nat),(1:Nat)),((0:Nat),(1:Nat)),((0:Nat),(1:Nat)),
 ((0:Nat),(1:Nat)),((0:Nat),(1:Nat)),((0:Nat),(1:Nat)),((0:Nat),(1:Nat)),((0:Nat),(1:Nat)),((0:Nat),(1:Nat)),
 ((0:Nat),(0:Nat))]=
 [((0:Nat),(1:Nat)),((0:Nat),(1:Nat)),((0:Nat),(1:Nat)),((0:Nat),(1:Nat)),((0:Nat),(1:Nat)),((0:Nat),(1:Nat)),
 ((0:Nat),(1:Nat)),((0:Nat),(1:Nat)),((0:Nat),(1:Nat)),((0:Nat),(1:Nat)),((0:Nat),(1:Nat)),((0:Nat),(1:Nat)),
 ((0:Nat),(0:Nat))]∧
 (p,false,y4,p.1,p.2.1,p.2.2.1,y2,y3,!y3,p.1,y4,p.1,p.2.1,p.2.2.1,y4,y4,y6,p.1,p.2.1,p.2.2.1,p.1,p.2.1,
 p.2.2.1,[y4],[(0:Int)],Eo (fun (_:ByteArray)=>none) y6 (0:Int),[(0:Int)],[(0:Int)],p.1,p.2.1,p.2.2.1,([]:List (List Int)),())=
 (p,false,y4,p.1,p.2.1,p.2.2.1,y2,y3,!y3,p.1,y4,p.1,p.2.1,p.2.2.1,y4,y4,y5,p.1,p.2.1,p.2.2.1,p.1,p.2.1,
 p.2.2.1,[y4],[(0:Int)],Eo (fun (_:ByteArray)=>none) y5 (0:Int),[(0:Int)],[(0:Int)],p.1,p.2.1,p.2.2.1,([]:List (List Int)),PUnit.unit))∧
 [((0:Nat),(1:Nat)),((0:Nat),(1:Nat)),((0:Nat),(1:Nat)),((0:Nat),(1:Nat)),((0:Nat),(1:Nat)),((0:Nat),(1:Nat)),
 ((0:Nat),(1:Nat)),((0:Nat),(1:Nat)),((0:Nat),(1:Nat)),((0:Nat),(1:Nat)),((0:Nat),(1:Nat)),((0:Nat),(1:Nat)),
 ((0:Nat),(0:Nat))]=
 [((0:Nat),(1:Nat)),((0:Nat),(1:Nat)),((0:Nat),(1:Nat)),((0:Nat),(1:Nat)),((0:Nat),(1:Nat)),((0:Nat),(1:Nat)),
 ((0:Nat),(1:Nat)),((0:Nat),(1:Nat)),((0:Nat),(1:Nat)),((0:Nat),(1:Nat)),((0:Nat),(1:Nat)),((0:Nat),(1:Nat)),
 ((0:Nat),(0:Nat))]∧
 (p,false,y4,p.1,p.2.1,p.2.2.1,y2,y3,!y3,p.1,y4,p.1,p.2.1,p.2.2.1,y4,y4,y6,p.1,p.2.1,p.2.2.1,p.1,p.2.1,
 p.2.2.1,[y4],[(0:Int)],Eo (fun (_:ByteArray)=>none) y6 (0:Int),[(0:Int)],[(0:Int)],p.1,p.2.1,p.2.2.1,([]:List (List Int)),())=
 (p,false,y4,p.1,p.2.1,p.2.2.1,y2,y3,!y3,p.1,y4,p.1,p.2.1,p.2.2.1,y4,y4,y5,p.1,p.2.1,p.2.2.1,p.1,p.2.1,
 p.2.2.1,[y4],[(0:Int)],Eo (fun (_:ByteArray)=>none) y5 (0:Int),[(0:Int)],[(0:Int)],p.1,p.2.1,p.2.2.1,([]:List (List Int)),PUnit.unit))∧
 (([((0:Nat),(1:Nat)),((0:Nat),(1:Nat)),((0:Nat),(1:Nat)),((0:Nat),(1:Nat)),((0:Nat),(1:Nat)),((0:Nat),(1:Nat)),
 ((0:Nat),(1:Nat)),((0:Nat),(1:Nat)),((0:Nat),(1:Nat)),((0:Nat),(1:Nat)),((0:Nat),(1:Nat)),((0:Nat),(1:Nat)),
 ((0:Nat),(0:Nat))]=
 [((0:Nat),(1:Nat)),((0:Nat),(1:Nat)),((0:Nat),(1:Nat)),((0:Nat),(1:Nat)),((0:Nat),(1:Nat)),((0:Nat),(1:Nat)),
 ((0:Nat),(1:Nat)),((0:Nat),(1:Nat)),((0:Nat),(1:Nat)),((0:Nat),(1:Nat)),((0:Nat),(1:Nat)),((0:Nat),(1:Nat)),
 ((0:Nat),(0:Nat))]∧
 (p,false,y4,p.1,p.2.1,p.2.2.1,y2,y3,!y3,p.1,y4,p.1,p.2.1,p.2.2.1,y4,y4,y6,p.1,p.2.1,p.2.2.1,p.1,p.2.1,
 p.2.2.1,[y4],[(0:Int)],Eo (fun (_:ByteArray)=>none) y6 (0:Int),[(0:Int)],[(0:Int)],p.1,p.2.1,p.2.2.1,([]:List (List Int)),())=
 (p,false,y4,p.1,p.2.1,p.2.2.1,y2,y3,!y3,p.1,y4,p.1,p.2.1,p.2.2.1,y4,y4,y5,p.1,p.2.1,p.2.2.1,p.1,p.2.1,
 p.2.2.1,[y4],[(0:Int)],Eo (fun (_:ByteArray)=>none) y5 (0:Int),[(0:Int)],[(0:Int)],p.1,p.2.1,p.2.2.1,([]:List (List Int)),PUnit.unit))∧
 [((0:Nat),(1:Nat)),((0:Nat),(1:Nat)),((0:Nat),(1:Nat)),((0:Nat),(1:Nat)),((0:Nat),(1:Nat)),((0:Nat),(1:Nat)),
 ((0:Nat),(1:Nat)),((0:Nat),(1:Nat)),((0:Nat),(1:Nat)),((0:Nat),(1:Nat)),((0:Nat),(1:Nat)),((0:Nat),(1:Nat)),
 ((0:Nat),(0:Nat))]=
 [((0:Nat),(1:Nat)),((0:Nat),(1:Nat)),((0:Nat),(1:Nat)),((0:Nat),(1:Nat)),((0:Nat),(1:Nat)),((0:Nat),(1:Nat)),
 ((0:Nat),(1:Nat)),((0:Nat),(1:Nat)),((0:Nat),(1:Nat)),((0:Nat),(1:Nat)),((0:Nat),(1:Nat)),((0:Nat),(1:Nat)),
 ((0:Nat),(0:Nat))]∧
 (p,false,y4,p.1,p.2.1,p.2.2.1,y2,y3,!y3,p.1,y4,p.1,p.2.1,p.2.2.1,y4,y4,y6,p.1,p.2.1,p.2.2.1,p.1,p.2.1,
 p.2.2.1,[y4],[(0:Int)],Eo (fun (_:ByteArray)=>none) y6 (0:Int),[(0:Int)],[(0:Int)],p.1,p.2.1,p.2.2.1,([]:List (List Int)),())=
 (p,false,y4,p.1,p.2.1,p.2.2.1,y2,y3,!y3,p.1,y4,p.1,p.2.1,p.2.2.1,y4,y4,y5,p.1,p.2.1,p.2.2.1,p.1,p.2.1,
 p.2.2.1,[y4],[(0:Int)],Eo (fun (_:ByteArray)=>none) y5 (0:Int),[(0:Int)],[(0:Int)],p.1,p.2.1,p.2.2.1,([]:List (List Int)),PUnit.unit))∧
 ([((0:Nat),(1:Nat)),((0:Nat),(1:Nat)),((0:Nat),(1:Nat)),((0:Nat),(1:Nat)),((0:Nat),(1:Nat)),((0:Nat),(1:Nat)),
 ((0:Nat),(1:Nat)),((0:Nat),(1:Nat)),((0:Nat),(1:Nat)),((0:Nat),(1:Nat)),((0:Nat),(1:Nat)),((0:Nat),(1:Nat)),
 ((0:Nat),(0:Nat))]=
 [((0:Nat),(1:Nat)),((0:Nat),(1:Nat)),((0:Nat),(1:Nat)),((0:Nat),(1:Nat)),((0:Nat),(1:Nat)),((0:Nat),(1:Nat)),
 ((0:Nat),(1:Nat)),((0:Nat),(1:Nat)),((0:Nat),(1:Nat)),((0:Nat),(1:Nat)),((0:Nat),(1:Nat)),((0:Nat),(1:Nat)),
 ((0:Nat),(0:Nat))]∧
 (p,false,y4,p.1,p.2.1,p.2.2.1,y2,y3,!y3,p.1,y4,p.1,p.2.1,p.2.2.1,y4,y4,y6,p.1,p.2.1,p.2.2.1,p.1,p.2.1,
 p.2.2.1,[y4],[(0:Int)],Eo (fun (_:ByteArray)=>none) y6 (0:Int),[(0:Int)],[(0:Int)],p.1,p.2.1,p.2.2.1,([]:List (List Int)),())=
 (p,false,y4,p.1,p.2.1,p.2.2.1,y2,y3,!y3,p.1,y4,p.1,p.2.1,p.2.2.1,y4,y4,y5,p.1,p.2.1,p.2.2.1,p.1,p.2.1,
 p.2.2.1,[y4],[(0:Int)],Eo (fun (_:ByteArray)=>none) y5 (0:Int),[(0:Int)],[(0:Int)],p.1,p.2.1,p.2.2.1,([]:List (List Int)),PUnit.unit))∧
 [((0:Nat),(1:Nat)),((0:Nat),(1:Nat)),((0:Nat),(1:Nat)),((0:Nat),(1:Nat)),((0:Nat),(1:Nat)),((0:Nat),(1:Nat)),
 ((0:Nat),(1:Nat)),((0:Nat),(1:Nat)),((0:Nat),(1:Nat)),((0:Nat),(1:Nat)),((0:Nat),(1:Nat)),((0:Nat),(1:Nat)),
 ((0:Nat),(0:Nat))]=
 [((0:Nat),(1:Nat)),((0:Nat),(1:Nat)),((0:Nat),(1:Nat)),((0:Nat),(1:Nat)),((0:Nat),(1:Nat)),((0:Nat),(1:Nat)),
 ((0:Nat),(1:Nat)),((0:Nat),(1:Nat)),((0:Nat),(1:Nat)),((0:Nat),(1:Nat)),((0:Nat),(1:Nat)),((0:Nat),(1:Nat)),
 ((0:Nat),(0:Nat))]∧
 (p,false,y4,p.1,p.2.1,p.2.2.1,y2,y3,!y3,p.1,y4,p.1,p.2.1,p.2.2.1,y4,y4,y6,p.1,p.2.1,p.2.2.1,p.1,p.2.1,
 p.2.2.1,[y4],[(0:Int)],Eo (fun (_:ByteArray)=>none) y6 (0:Int),[(0:Int)],[(0:Int)],p.1,p.2.1,p.2.2.1,([]:List (List Int)),())=
 (p,false,y4,p.1,p.2.1,p.2.2.1,y2,y3,!y3,p.1,y4,p.1,p.2.1,p.2.2.1,y4,y4,y5,p.1,p.2.1,p.2.2.1,p.1,p.2.1,
 p.2.2.1,[y4],[(0:Int)],Eo (fun (_:ByteArray)=>none) y5 (0:Int),[(0:Int)],[(0:Int)],p.1,p.2.1,p.2.2.1,[],PUnit.unit)))=fnW tab (look [(109,Jy),(108,Bi),(110,Ly),(111,Em),(112,Jx),(113,Aau),(67,Px)]) Iy Try.f61 (p,()) P:=by kernel_rfl
theorem Ae0 {key:ByteArray} {x:List Int} : ∀(L:List (List Int)) (i:Nat),Yw key (L++ [x]) i=if (Yw key L i).isSome=true then Yw key L i else if Lq x=key then some ((i+L.length:Nat):Int) else none
 | [],i=>by simp [Yw]
 |y::L,i=>by
  simp only [List.cons_append,Yw]
  split
  ·rfl
  ·rw [Ae0 L (i+1),List.length_cons,show i+1+L.length=i+(L.length+1) by omega]
theorem Afc {x:List Int} (hx:Qp x): ∀(L:List (List Int)) (i:Nat),(∀y∈L,Qp y)→Yw (Lq x) L i=if x∈L then some ((i+L.idxOf x:Nat):Int) else none
 | [],i,_=>by simp [Yw]
 |y::L,i,h=>by
  have hy:=h y (by simp)
  simp only [Yw]
  by_cases e:y=x
  ·subst e
   rw [if_pos rfl,if_pos (by simp),List.idxOf_cons_self]
   rfl
  ·rw [if_neg fun hk=>e (key_inj hy hx hk),Afc hx L (i+1) fun z hz=>h z (List.mem_cons_of_mem _ hz),show List.idxOf x (y::L)=(List.idxOf x L).succ by rw [List.idxOf_cons,beq_false_of_ne e];rfl]
   have:(x∈y::L)↔(x∈L):=by simp [Ne.symm e]
   by_cases hm:x∈L
   ·rw [if_pos hm,if_pos (this.2 hm),show i+1+List.idxOf x L=i+(List.idxOf x L).succ by omega]
   ·rw [if_neg hm,if_neg fun h=>hm (this.1 h)]
theorem Aye {x:List Int} {L:List (List Int)} (hx:Qp x) (hL: ∀y∈L,Qp y):Pu L (Lq x)=if x∈L then some (L.idxOf x:Int) else none:=by
 unfold Pu
 rw [Afc hx L 0 hL,Nat.zero_add]
theorem Amv {x:List Int} {L:List (List Int)} (hx:Qp x) (hL: ∀y∈L,Qp y) (hn:x∉L):Eo (Pu L) (Lq x) (L.length:Int)=Pu (L++ [x]):=by
 funext key
 unfold Eo Pu
 rw [Ae0,Nat.zero_add]
 by_cases e:key=Lq x
 ·subst e
  rw [if_pos rfl,Afc hx L 0 hL,if_neg hn,if_neg (by simp),if_pos rfl]
 ·rw [if_neg e,if_neg (c:=Lq x=key) fun h=>e h.symm]
  split
  ·rfl
  ·rename_i h
   cases hk:Yw key L 0 with
   |none=>rfl
   |some v=>rw [hk] at h;simp at h
theorem Auh (p:PP):Fq (Mg p) 1 3000=Gq p:=by
 unfold Gq
 by_cases hv:Bq p=true
 ·rw [hv,Bool.true_and,Arn hv]
  rfl
 ·have hv:Bq p=false:=by simpa using hv
  rw [hv,Bool.false_and]
  have:Mg p=0:=by unfold Mg;rw [if_neg (by simp [hv])]
  rw [this]
  rfl
theorem Ayu (p:PP) (h:Cd p):fnW tab (look [(109,Jy),(108,Bi),(110,Ly),(111,Em),(112,Jx),(113,Aau),(67,Px)]) Iy Try.f61 (p,()) (fun (z:Option (PP×List (List Int)×List Int×(ByteArray→Option Int)×List Int×List Int×List (List Int)×Unit)×Bool×Unit)=>z=(if Gq p=true then (some (Yy p),true,()) else (none,false,()))):=by
 refine Eq.mp (Azt p _) ⟨_,if_pos h,_,if_pos trivial,?_⟩
 show Br (!Fq (Mg p) 1 3000) _ _
 rw [Auh p]
 refine Br.of (fun hb=>?_) fun hb=>?_
 ·rw [if_neg (by simpa using hb)]
 have hw:Gq p=true:=by simpa using hb
 rw [if_pos hw]
 obtain ⟨hv,hbw⟩:=Bool.and_eq_true_iff.1 hw
 have hV:=valid hv
 have hfew:=hV.few
 have hn:=hV.n
 obtain ⟨pn,ps,g,⟨⟩⟩:=p
 dsimp only at hfew hn hbw⊢
 have hI:(upto pn.toNat).length≤20:=by rw [Rn];omega
 have hIr: ∀y∈upto pn.toNat,0≤y∧y<pn:=fun y hy=>by have:=Iq.1 hy;omega
 have hb0:=Aac (p:=(pn,ps,g,())) hI hIr
 obtain ⟨ls,hls⟩: ∃ls,Bc g.length=ls:=⟨_,rfl⟩
 have hll:ls.length≤16:=by rw [←hls,Kr];omega
 have hmem: ∀l∈ls,Fz (List.length g) l:=fun l hl=>Lt (hls▸hl)
 have hbyte: ∀x:List Int,(∀y∈x,0≤y∧y<pn)→Qp x:=fun x hx y hy=>by have:=hx y hy;omega
 have hstart:Je g ls 3001 0 [upto pn.toNat] [0]=Eu g (upto pn.toNat):=by unfold Eu;rw [hls]
 have hk0:Eo (fun (_:ByteArray)=>(none:Option Int)) (Lq (upto pn.toNat)) 0=Pu [upto pn.toNat]:=by
  have:=Amv (L:= []) (hbyte _ hIr) (fun y hy=>by cases hy) (by simp)
  exact this
 refine ⟨upto pn.toNat,if_pos ⟨by show (0:Int)≤pn;omega,by show pn≤20;omega⟩,Lq (upto pn.toNat),if_pos (by show short (upto pn.toNat);unfold short;omega),⟨ls,?_,rfl,rfl,rfl,rfl,rfl,rfl,rfl,rfl,rfl,rfl,?_⟩,?_⟩
 ·refine (if_pos ⟨by show (0:Int)≤((g.length:Nat):Int);omega,by show ((g.length:Nat):Int)≤8;omega⟩).trans (congrArg some ?_)
  show Bc (((g.length:Nat):Int)).toNat=ls
  rw [Int.toNat_natCast];exact hls
 ·obtain ⟨R,hR⟩: ∃R,Av8 g ls 3001 0 ([upto pn.toNat],[0],[0],[0]) []=R:=⟨_,rfl⟩
  have hexp:Yy (pn,ps,g,())=Bew (pn,ps,g,()) R:=by unfold Yy;rw [hls];exact congrArg _ hR
  rw [hexp]
  refine Cc.mk (fun v=> ∃(k:Nat) (s:EX) (N:List (List Int)),v=((k:Int),pn,ps,g,s.1,s.2.1,Pu s.1,s.2.2.1,s.2.2.2,pn,ps,g,N,())∧k≤s.1.length∧Oz (pn,ps,g,()) (upto pn.toNat).length s.1 s.2.1∧s.2.2.1.length=s.1.length∧s.2.2.2.length=s.1.length∧N.length=k∧
    Je g ls (3001-k) k s.1 s.2.1=Eu g (upto pn.toNat)∧Av8 g ls (3001-k) k s N=R) (fun v=>3001-v.1.toNat)
   ⟨0,([upto pn.toNat],[0],[0],[0]),[],?_,by simp,hb0,rfl,rfl,rfl,hstart,hR⟩ ?_
  ·rw [←hk0];rfl
  rintro v ⟨k,s0,N,rfl,h1,h2,h3,h4,h5,h6,h7⟩
  obtain ⟨L0,D0,P0,B0⟩:=s0
  dsimp only at h1 h2 h3 h4 h6 h7⊢
  have hL0:=h2.ok.few
  have hD0:=h2.len
  obtain ⟨f,hf⟩: ∃f,3001-k=f+1:=⟨3000-k,by omega⟩
  refine Br.dec (fun hl=>?_) fun hl=>?_
  ·have hk:k<L0.length:=by omega
   have hkD:k<D0.length:=by omega
   have hx: ∀y∈L0[k],0≤y∧y<pn:=h2.row _ (List.getElem_mem hk)
   have hxl:L0[k].length=(upto pn.toNat).length:=h2.ok.len _ (List.getElem_mem hk)
   have hdk:=h2.dep k hkD
   have hxe:L0.getD k []=L0[k]:=Md hk
   have hde:D0.getD k 0=D0[k]:=by rw [List.getD_eq_getElem?_getD,List.getElem?_eq_getElem hkD];rfl
   have hgo: ∀L' D' ok,Gz g L0[k] D0[k] ls L0 D0=(L',D',ok)→Eu g (upto pn.toNat)=if ok=true then Je g ls f (k+1) L' D' else (L',D',false):=by
    intro L' D' ok he
    rw [←h6,hf,Je,if_pos hk,hxe,hde,he]
    cases ok<;>rfl
   obtain ⟨E,hE⟩: ∃E,Art g (k:Int) L0[k] D0[k] ls (L0,D0,P0,B0) []=E:=⟨_,rfl⟩
   have hex:R=Av8 g ls f (k+1) E.1 (N++ [E.2]):=by
    rw [←h7,hf,Av8,if_pos hk]
    dsimp only
    rw [hxe,hde,hE]
   refine ⟨⟨by omega,by omega⟩,L0[k],by rw [Int.toNat_natCast,Nat.zero_add];exact List.getElem?_eq_getElem hk,ls.map (fun l=>Aa L0[k] (Af g l)),?_,?_⟩
   ·refine (if_pos ⟨hv,by show L0[k].length≤20;omega,hx⟩).trans (congrArg some ?_)
    show Aox g L0[k]=_
    unfold Aox
    rw [hls]
   refine ⟨rfl,rfl,rfl,rfl,rfl,rfl,rfl,rfl,rfl,rfl,rfl,rfl,?_⟩
   obtain ⟨nb,hnb⟩: ∃nb,ls.map (fun l=>Aa L0[k] (Af g l))=nb:=⟨_,rfl⟩
   have hnl:nb.length=ls.length:=by rw [←hnb,List.length_map]
   have hni: ∀i (h:i<ls.length),nb[i]'(by omega)=Aa L0[k] (Af g ls[i]):=fun i h=>by simp only [←hnb,List.getElem_map]
   rw [hnb]
   refine Cc.mk (fun v=> ∃(i:Nat) (row:List Int) (s:EX),v=((i:Int),pn,ps,g,row,s.1,s.2.1,Pu s.1,s.2.2.1,s.2.2.2,pn,ps,g,N,())∧i≤ls.length∧row.length=i∧Oz (pn,ps,g,()) (upto pn.toNat).length s.1 s.2.1∧s.2.2.1.length=s.1.length∧s.2.2.2.length=s.1.length∧
     (∃A,s.1=L0++A)∧(∃A,s.2.1=D0++A)∧Gz g L0[k] D0[k] (ls.drop i) s.1 s.2.1=Gz g L0[k] D0[k] ls L0 D0∧Art g (k:Int) L0[k] D0[k] (ls.drop i) s row=E) (fun v=>ls.length-v.1.toNat)
    ⟨0,[],(L0,D0,P0,B0),rfl,Nat.zero_le _,rfl,h2,h3,h4,⟨[],by simp⟩,⟨[],by simp⟩,rfl,hE⟩ ?_
   rintro v ⟨i,row,s,rfl,g1,g2,g3,g4,g5,⟨A,g6⟩,⟨A',g7⟩,g8,g9⟩
   obtain ⟨L,D,Pa,By⟩:=s
   dsimp only at g3 g4 g5 g6 g7 g8 g9⊢
   have hLf:=g3.ok.few
   have hDl:=g3.len
   refine Br.dec (fun hli=>?_) fun hli=>?_
   ·have hi:i<ls.length:=by omega
    have hkL:k<L.length:=by rw [g6,List.length_append];omega
    have hkD2:k<D.length:=by rw [hDl];exact hkL
    have hDk:D[k]=D0[k]:=by simp only [g7];exact List.getElem_append_left hkD
    have hlet:=hmem _ (List.getElem_mem hi)
    obtain ⟨nl,nr⟩:=Ap1 hV hx hlet
    dsimp only at nl nr
    rw [List.drop_eq_getElem_cons hi] at g8 g9
    simp only [Gz] at g8
    simp only [Art] at g9
    have hyb:=hbyte _ nr
    refine ⟨_,Az (by omega),?_⟩
    rw [hni i hi]
    generalize hyv:Aa L0[k] (Af g ls[i])=yv at*
    refine ⟨Lq yv,if_pos (by show short yv;unfold short;rw [nl];omega),?_⟩
    rw [Aye hyb fun y hy=>hbyte _ (g3.row y hy)]
    refine Br.of (fun hin=>?_) fun hin=>?_
    ·have hin:yv∉L:=fun hm=>by rw [if_pos hm] at hin;simp at hin
     rw [if_neg hin] at g8 g9
     by_cases hfull:L.length=3000
     ·rw [if_pos hfull] at g8
      have:=hgo _ _ _ g8.symm
      rw [if_neg (by decide)] at this
      rw [this] at hbw
      cases hbw
     rw [if_neg hfull] at g8
     refine ⟨_,if_pos trivial,rfl,rfl,?_,⟨by omega,by omega⟩,D0[k],?_,rfl,rfl,?_,rfl,rfl,?_,_,Az hi,rfl,rfl,?_,rfl,rfl,?_,rfl,rfl,rfl,rfl,rfl,rfl,rfl,rfl,rfl,rfl,rfl,rfl,?_⟩
     ·show L.length+1≤4294967296;omega
     ·rw [Int.toNat_natCast,Nat.zero_add,List.getElem?_eq_getElem hkD2,hDk]
     ·show D.length+1≤4294967296;omega
     ·show Pa.length+1≤4294967296;omega
     ·show By.length+1≤4294967296;omega
     ·show row.length+1≤4294967296;omega
     ·dsimp only
      rw [Bn L,Bu (n:=D0[k]+1) (by omega) (by omega),Ap (by omega),Amv hyb (fun y hy=>hbyte _ (g3.row y hy)) hin]
      refine ⟨⟨i+1,row++ [(L.length:Int)],(L++ [yv],D++ [D0[k]+1],Pa++ [(k:Int)],By++ [ls[i]]),rfl,hi,by rw [List.length_append,g2];rfl,g3.add hin (by rw [nl,hxl]) (by omega) nr ⟨by omega,by omega⟩,?_,?_,⟨A++ [yv],by rw [g6,List.append_assoc]⟩,⟨A'++ [D0[k]+1],by rw [g7,List.append_assoc]⟩,g8,g9⟩,by omega⟩
      ·simp [g4]
      ·simp [g5]
    ·have hin:yv∈L:=Classical.byContradiction fun hm=>by rw [if_neg hm] at hin;simp at hin
     rw [if_pos hin] at g8 g9
     rw [if_pos hin]
     refine ⟨rfl,rfl,?_,rfl,rfl,rfl,rfl,rfl,rfl,rfl,rfl,rfl,rfl,rfl,rfl,?_⟩
     ·show row.length+1≤4294967296;omega
     ·rw [Ap (by omega)]
      exact ⟨⟨i+1,row++ [(L.idxOf yv:Int)],(L,D,Pa,By),rfl,hi,by rw [List.length_append,g2];rfl,g3,g4,g5,⟨A,g6⟩,⟨A',g7⟩,g8,g9⟩,by omega⟩
   ·have:i=ls.length:=by omega
    subst this
    rw [List.drop_length,Gz] at g8
    rw [List.drop_length,Art] at g9
    have:=hgo _ _ _ g8.symm
    rw [if_pos rfl] at this
    rw [Bn row,Ap (by omega)]
    refine ⟨rfl,rfl,?_,rfl,rfl,rfl,rfl,rfl,rfl,rfl,rfl,rfl,rfl,⟨k+1,(L,D,Pa,By),N++ [row],rfl,by rw [g6,List.length_append];omega,g3,g4,g5,by rw [List.length_append,h5];rfl,?_,?_⟩,by omega⟩
    ·show N.length+1≤4294967296;omega
    ·rw [show 3001-(k+1)=f by omega]
     exact this.symm
    ·rw [show 3001-(k+1)=f by omega,hex,←g9]
  ·have hk:k=L0.length:=by omega
   rw [hf,Av8,if_neg (by show ¬k<L0.length;omega)] at h7
   subst h7
   simp only [List.drop_zero,List.take_length]
   rfl
 ·have hkey:Em.fn (upto pn.toNat,())=some (Lq (upto pn.toNat)):=if_pos (by show short (upto pn.toNat);unfold short;omega)
  repeat' (first|exact ⟨rfl,rfl⟩|refine ⟨_,hkey,?_⟩|refine ⟨?_,?_⟩)
theorem Als:Sound Try.prog 61 Iy:=
 Sound.mkS Ch (Ag Ag6 (Ag Mq (Ag Xj (Ag Aki (Ag Abk (Ag Ats (Ag Ah9 Ar))))))) mixed Try.func61 (by kernel_rfl) (by kernel_rfl) fun x h=>Ayu x.1 h
end Go.Proofs.Ytebabhocakedaaa

namespace Go.Proofs.Ytebabhocakedaaa
open Go.RowKit
abbrev XP:Type:=PP×List (List Int)×List Int×(ByteArray→Option Int)×List Int×List Int×List (List Int)×Unit
noncomputable def Ae5 (p:PP):List (List Int):=(Eu p.2.2.1 (upto p.1.toNat)).1
noncomputable def Asn (p:PP):List Int:=(Eu p.2.2.1 (upto p.1.toNat)).2.1
noncomputable def El (p:PP):SS×Bool×Unit:=if Bq p=true then (Dr p.2.2.1 (upto p.1.toNat),Gq p,()) else (([],[],[],false,()),false,())
noncomputable abbrev Ij:Spec:=mkS (.pair Cr .unit) (.pair Sn (.pair .bool .unit)) true false (fun x=>Cd x.1) (fun x=>El x.1)
theorem Ax5 (p:Int×ByteArray×List (List Int)×Unit) (P:((List (List Int)×List Int×List Int×Bool×Unit)×Bool×Unit)→Prop):(∃(y2:Bool),
 Ej.fn ((p.1,p.2.1,p.2.2.1,()),())=some y2∧
 Br (!y2) (P ((List.take (0:Nat) (List.drop (0:Nat) []),List.take (0:Nat) (List.drop (0:Nat) []),List.take (0:Nat) (List.drop (0:Nat) []),false,()),false,()))
 (((((∃(y3:List Int),
 Bv.fn (p.1,())=some y3∧
 (∃(y4:List (List Int)×List Int×List Int×Bool×PUnit),
 Cw.fn ((p.1,p.2.1,p.2.2.1,()),y3,())=some y4∧
 ((P ((y4.1,y4.2.1,y4.2.2.1,y4.2.2.2.1,()),y4.2.2.2.1,())∧P ((y4.1,y4.2.1,y4.2.2.1,y4.2.2.2.1,()),y4.2.2.2.1,()))∧
 P ((y4.1,y4.2.1,y4.2.2.1,y4.2.2.2.1,()),y4.2.2.2.1,()))∧
 (P ((y4.1,y4.2.1,y4.2.2.1,y4.2.2.2.1,()),y4.2.2.2.1,())∧P ((y4.1,y4.2.1,y4.2.2.1,y4.2.2.2.1,()),y4.2.2.2.1,()))∧
 P ((y4.1,y4.2.1,y4.2.2.1,y4.2.2.2.1,()),y4.2.2.2.1,()))∧
 ∃(y4:List (List Int)×List Int×List Int×Bool×PUnit),
 Cw.fn ((p.1,p.2.1,p.2.2.1,()),y3,())=some y4∧
 ((P ((y4.1,y4.2.1,y4.2.2.1,y4.2.2.2.1,()),y4.2.2.2.1,())∧P ((y4.1,y4.2.1,y4.2.2.1,y4.2.2.2.1,()),y4.2.2.2.1,()))∧
 P ((y4.1,y4.2.1,y4.2.2.1,y4.2.2.2.1,()),y4.2.2.2.1,()))∧
 (P ((y4.1,y4.2.1,y4.2.2.1,y4.2.2.2.1,()),y4.2.2.2.1,())∧P ((y4.1,y4.2.1,y4.2.2.1,y4.2.2.2.1,()),y4.2.2.2.1,()))∧
 P ((y4.1,y4.2.1,y4.2.2.1,y4.2.2.2.1,()),y4.2.2.2.1,()))∧
 ∃(y3:List Int),
 Bv.fn (p.1,())=some y3∧
 ∃(y4:List (List Int)×List Int×List Int×Bool×PUnit),
 Cw.fn ((p.1,p.2.1,p.2.2.1,()),y3,())=some y4∧
 ((P ((y4.1,y4.2.1,y4.2.2.1,y4.2.2.2.1,()),y4.2.2.2.1,())∧P ((y4.1,y4.2.1,y4.2.2.1,y4.2.2.2.1,()),y4.2.2.2.1,()))∧
 P ((y4.1,y4.2.1,y4.2.2.1,y4.2.2.2.1,()),y4.2.2.2.1,()))∧
 (P ((y4.1,y4.2.1,y4.2.2.1,y4.2.2.2.1,()),y4.2.2.2.1,())∧P ((y4.1,y4.2.1,y4.2.2.1,y4.2.2.2.1,()),y4.2.2.2.1,()))∧
 P ((y4.1,y4.2.1,y4.2.2.1,y4.2.2.2.1,()),y4.2.2.2.1,()))∧
 ∃(y3:List Int),
 Bv.fn (p.1,())=some y3∧
 ∃(y4:List (List Int)×List Int×List Int×Bool×PUnit),
 Cw.fn ((p.1,p.2.1,p.2.2.1,()),y3,())=some y4∧
 ((P ((y4.1,y4.2.1,y4.2.2.1,y4.2.2.2.1,()),y4.2.2.2.1,())∧P ((y4.1,y4.2.1,y4.2.2.1,y4.2.2.2.1,()),y4.2.2.2.1,()))∧
 P ((y4.1,y4.2.1,y4.2.2.1,y4.2.2.2.1,()),y4.2.2.2.1,()))∧
 (P ((y4.1,y4.2.1,y4.2.2.1,y4.2.2.2.1,()),y4.2.2.2.1,())∧P ((y4.1,y4.2.1,y4.2.2.1,y4.2.2.2.1,()),y4.2.2.2.1,()))∧
 P ((y4.1,y4.2.1,y4.2.2.1,y4.2.2.2.1,()),y4.2.2.2.1,()))∧
 ∃(y3:List Int),
 Bv.fn (p.1,())=some y3∧
 ∃(y4:List (List Int)×List Int×List Int×Bool×PUnit),
 Cw.fn ((p.1,p.2.1,p.2.2.1,()),y3,())=some y4∧
 ((P ((y4.1,y4.2.1,y4.2.2.1,y4.2.2.2.1,()),y4.2.2.2.1,())∧P ((y4.1,y4.2.1,y4.2.2.1,y4.2.2.2.1,()),y4.2.2.2.1,()))∧
 P ((y4.1,y4.2.1,y4.2.2.1,y4.2.2.2.1,()),y4.2.2.2.1,()))∧
 (P ((y4.1,y4.2.1,y4.2.2.1,y4.2.2.2.1,()),y4.2.2.2.1,())∧P ((y4.1,y4.2.1,y4.2.2.1,y4.2.2.2.1,()),y4.2.2.2.1,()))∧
 P ((y4.1,y4.2.1,y4.2.2.1,y4.2.2.2.1,()),y4.2.2.2.1,()))∧
 ((((∃(y3:List Int),
 Bv.fn (p.1,())=some y3∧
 (∃(y4:List (List Int)×List Int×List Int×Bool×PUnit),
 Cw.fn ((p.1,p.2.1,p.2.2.1,()),y3,())=some y4∧
 ((P ((y4.1,y4.2.1,y4.2.2.1,y4.2.2.2.1,()),y4.2.2.2.1,())∧P ((y4.1,y4.2.1,y4.2.2.1,y4.2.2.2.1,()),y4.2.2.2.1,()))∧
 P ((y4.1,y4.2.1,y4.2.2.1,y4.2.2.2.1,()),y4.2.2.2.1,()))∧
 (P ((y4.1,y4.2.1,y4.2.2.1,y4.2.2.2.1,()),y4.2.2.2.1,())∧P ((y4.1,y4.2.1,y4.2.2.1,y4.2.2.2.1,()),y4.2.2.2.1,()))∧
 P ((y4.1,y4.2.1,y4.2.2.1,y4.2.2.2.1,()),y4.2.2.2.1,()))∧
 ∃(y4:List (List Int)×List Int×List Int×Bool×PUnit),
 Cw.fn ((p.1,p.2.1,p.2.2.1,()),y3,())=some y4∧
 ((P ((y4.1,y4.2.1,y4.2.2.1,y4.2.2.2.1,()),y4.2.2.2.1,())∧P ((y4.1,y4.2.1,y4.2.2.1,y4.2.2.2.1,()),y4.2.2.2.1,()))∧
 P ((y4.1,y4.2.1,y4.2.2.1,y4.2.2.2.1,()),y4.2.2.2.1,()))∧
 (P ((y4.1,y4.2.1,y4.2.2.1,y4.2.2.2.1,()),y4.2.2.2.1,())∧P ((y4.1,y4.2.1,y4.2.2.1,y4.2.2.2.1,()),y4.2.2.2.1,()))∧
 P ((y4.1,y4.2.1,y4.2.2.1,y4.2.2.2.1,()),y4.2.2.2.1,()))∧
 ∃(y3:List Int),
 Bv.fn (p.1,())=some y3∧
 ∃(y4:List (List Int)×List Int×List Int×Bool×PUnit),
 Cw.fn ((p.1,p.2.1,p.2.2.1,()),y3,())=some y4∧
 ((P ((y4.1,y4.2.1,y4.2.2.1,y4.2.2.2.1,()),y4.2.2.2.1,())∧P ((y4.1,y4.2.1,y4.2.2.1,y4.2.2.2.1,()),y4.2.2.2.1,()))∧
 P ((y4.1,y4.2.1,y4.2.2.1,y4.2.2.2.1,()),y4.2.2.2.1,()))∧
 (P ((y4.1,y4.2.1,y4.2.2.1,y4.2.2.2.1,()),y4.2.2.2.1,())∧P ((y4.1,y4.2.1,y4.2.2.1,y4.2.2.2.1,()),y4.2.2.2.1,()))∧
 P ((y4.1,y4.2.1,y4.2.2.1,y4.2.2.2.1,()),y4.2.2.2.1,()))∧
 ∃(y3:List Int),
 Bv.fn (p.1,())=some y3∧
 ∃(y4:List (List Int)×List Int×List Int×Bool×PUnit),
 Cw.fn ((p.1,p.2.1,p.2.2.1,()),y3,())=some y4∧
 ((P ((y4.1,y4.2.1,y4.2.2.1,y4.2.2.2.1,()),y4.2.2.2.1,())∧P ((y4.1,y4.2.1,y4.2.2.1,y4.2.2.2.1,()),y4.2.2.2.1,()))∧
 P ((y4.1,y4.2.1,y4.2.2.1,y4.2.2.2.1,()),y4.2.2.2.1,()))∧
 (P ((y4.1,y4.2.1,y4.2.2.1,y4.2.2.2.1,()),y4.2.2.2.1,())∧P ((y4.1,y4.2.1,y4.2.2.1,y4.2.2.2.1,()),y4.2.2.2.1,()))∧
 P ((y4.1,y4.2.1,y4.2.2.1,y4.2.2.2.1,()),y4.2.2.2.1,()))∧
 (((∃(y3:List Int),
 Bv.fn (p.1,())=some y3∧
 (∃(y4:List (List Int)×List Int×List Int×Bool×PUnit),
 Cw.fn ((p.1,p.2.1,p.2.2.1,()),y3,())=some y4∧
 ((P ((y4.1,y4.2.1,y4.2.2.1,y4.2.2.2.1,()),y4.2.2.2.1,())∧P ((y4.1,y4.2.1,y4.2.2.1,y4.2.2.2.1,()),y4.2.2.2.1,()))∧
 P ((y4.1,y4.2.1,y4.2.2.1,y4.2.2.2.1,()),y4.2.2.2.1,()))∧
 (P ((y4.1,y4.2.1,y4.2.2.1,y4.2.2.2.1,()),y4.2.2.2.1,())∧P ((y4.1,y4.2.1,y4.2.2.1,y4.2.2.2.1,()),y4.2.2.2.1,()))∧
 P ((y4.1,y4.2.1,y4.2.2.1,y4.2.2.2.1,()),y4.2.2.2.1,()))∧
 ∃(y4:List (List Int)×List Int×List Int×Bool×PUnit),
 Cw.fn ((p.1,p.2.1,p.2.2.1,()),y3,())=some y4∧
 ((P ((y4.1,y4.2.1,y4.2.2.1,y4.2.2.2.1,()),y4.2.2.2.1,())∧P ((y4.1,y4.2.1,y4.2.2.1,y4.2.2.2.1,()),y4.2.2.2.1,()))∧
 P ((y4.1,y4.2.1,y4.2.2.1,y4.2.2.2.1,()),y4.2.2.2.1,()))∧
 (P ((y4.1,y4.2.1,y4.2.2.1,y4.2.2.2.1,()),y4.2.2.2.1,())∧P ((y4.1,y4.2.1,y4.2.2.1,y4.2.2.2.1,()),y4.2.2.2.1,()))∧
 P ((y4.1,y4.2.1,y4.2.2.1,y4.2.2.2.1,()),y4.2.2.2.1,()))∧
 ∃(y3:List Int),
 Bv.fn (p.1,())=some y3∧
 ∃(y4:List (List Int)×List Int×List Int×Bool×PUnit),
 Cw.fn ((p.1,p.2.1,p.2.2.1,()),y3,())=some y4∧
 ((P ((y4.1,y4.2.1,y4.2.2.1,y4.2.2.2.1,()),y4.2.2.2.1,())∧P ((y4.1,y4.2.1,y4.2.2.1,y4.2.2.2.1,()),y4.2.2.2.1,()))∧
 P ((y4.1,y4.2.1,y4.2.2.1,y4.2.2.2.1,()),y4.2.2.2.1,()))∧
 (P ((y4.1,y4.2.1,y4.2.2.1,y4.2.2.2.1,()),y4.2.2.2.1,())∧P ((y4.1,y4.2.1,y4.2.2.1,y4.2.2.2.1,()),y4.2.2.2.1,()))∧
 P ((y4.1,y4.2.1,y4.2.2.1,y4.2.2.2.1,()),y4.2.2.2.1,()))∧
 (∃(y3:List Int),
 Bv.fn (p.1,())=some y3∧
 ((∃(y4:List (List Int)×List Int×List Int×Bool×PUnit),
 Cw.fn ((p.1,p.2.1,p.2.2.1,()),y3,())=some y4∧
 ((P ((y4.1,y4.2.1,y4.2.2.1,y4.2.2.2.1,()),y4.2.2.2.1,())∧P ((y4.1,y4.2.1,y4.2.2.1,y4.2.2.2.1,()),y4.2.2.2.1,()))∧
 P ((y4.1,y4.2.1,y4.2.2.1,y4.2.2.2.1,()),y4.2.2.2.1,()))∧
 (P ((y4.1,y4.2.1,y4.2.2.1,y4.2.2.2.1,()),y4.2.2.2.1,())∧P ((y4.1,y4.2.1,y4.2.2.1,y4.2.2.2.1,()),y4.2.2.2.1,()))∧
 P ((y4.1,y4.2.1,y4.2.2.1,y4.2.2.2.1,()),y4.2.2.2.1,()))∧
 ∃(y4:List (List Int)×List Int×List Int×Bool×PUnit),
 Cw.fn ((p.1,p.2.1,p.2.2.1,()),y3,())=some y4∧
 ((P ((y4.1,y4.2.1,y4.2.2.1,y4.2.2.2.1,()),y4.2.2.2.1,())∧P ((y4.1,y4.2.1,y4.2.2.1,y4.2.2.2.1,()),y4.2.2.2.1,()))∧
 P ((y4.1,y4.2.1,y4.2.2.1,y4.2.2.2.1,()),y4.2.2.2.1,()))∧
 (P ((y4.1,y4.2.1,y4.2.2.1,y4.2.2.2.1,()),y4.2.2.2.1,())∧P ((y4.1,y4.2.1,y4.2.2.1,y4.2.2.2.1,()),y4.2.2.2.1,()))∧
 P ((y4.1,y4.2.1,y4.2.2.1,y4.2.2.2.1,()),y4.2.2.2.1,()))∧
 ∃(y4:List (List Int)×List Int×List Int×Bool×PUnit),
 Cw.fn ((p.1,p.2.1,p.2.2.1,()),y3,())=some y4∧
 ((P ((y4.1,y4.2.1,y4.2.2.1,y4.2.2.2.1,()),y4.2.2.2.1,())∧P ((y4.1,y4.2.1,y4.2.2.1,y4.2.2.2.1,()),y4.2.2.2.1,()))∧
 P ((y4.1,y4.2.1,y4.2.2.1,y4.2.2.2.1,()),y4.2.2.2.1,()))∧
 (P ((y4.1,y4.2.1,y4.2.2.1,y4.2.2.2.1,()),y4.2.2.2.1,())∧P ((y4.1,y4.2.1,y4.2.2.1,y4.2.2.2.1,()),y4.2.2.2.1,()))∧
 P ((y4.1,y4.2.1,y4.2.2.1,y4.2.2.2.1,()),y4.2.2.2.1,()))∧
 (∃(y3:List Int),
 Bv.fn (p.1,())=some y3∧
 ∃(y4:List (List Int)×List Int×List Int×Bool×PUnit),
 Cw.fn ((p.1,p.2.1,p.2.2.1,()),y3,())=some y4∧
 ((P ((y4.1,y4.2.1,y4.2.2.1,y4.2.2.2.1,()),y4.2.2.2.1,())∧P ((y4.1,y4.2.1,y4.2.2.1,y4.2.2.2.1,()),y4.2.2.2.1,()))∧
 P ((y4.1,y4.2.1,y4.2.2.1,y4.2.2.2.1,()),y4.2.2.2.1,()))∧
 (P ((y4.1,y4.2.1,y4.2.2.1,y4.2.2.2.1,()),y4.2.2.2.1,())∧P ((y4.1,y4.2.1,y4.2.2.1,y4.2.2.2.1,()),y4.2.2.2.1,()))∧
 P ((y4.1,y4.2.1,y4.2.2.1,y4.2.2.2.1,()),y4.2.2.2.1,()))∧
 ∃(y3:List Int),
 Bv.fn (p.1,())=some y3∧
 ∃(y4:List (List Int)×List Int×List Int×Bool×PUnit),
 Cw.fn ((p.1,p.2.1,p.2.2.1,()),y3,())=some y4∧
 ((P ((y4.1,y4.2.1,y4.2.2.1,y4.2.2.2.1,()),y4.2.2.2.1,())∧P ((y4.1,y4.2.1,y4.2.2.1,y4.2.2.2.1,()),y4.2.2.2.1,()))∧
 P ((y4.1,y4.2.1,y4.2.2.1,y4.2.2.2.1,()),y4.2.2.2.1,()))∧
 (P ((y4.1,y4.2.1,y4.2.2.1,y4.2.2.2.1,()),y4.2.2.2.1,())∧P ((y4.1,y4.2.1,y4.2.2.1,y4.2.2.2.1,()),y4.2.2.2.1,()))∧
 P ((y4.1,y4.2.1,y4.2.2.1,y4.2.2.2.1,()),y4.2.2.2.1,()))∧
 (∃(y3:List Int),
 Bv.fn (p.1,())=some y3∧
 ∃(y4:List (List Int)×List Int×List Int×Bool×PUnit),
 Cw.fn ((p.1,p.2.1,p.2.2.1,()),y3,())=some y4∧
 ((P ((y4.1,y4.2.1,y4.2.2.1,y4.2.2.2.1,()),y4.2.2.2.1,())∧P ((y4.1,y4.2.1,y4.2.2.1,y4.2.2.2.1,()),y4.2.2.2.1,()))∧
 P ((y4.1,y4.2.1,y4.2.2.1,y4.2.2.2.1,()),y4.2.2.2.1,()))∧
 (P ((y4.1,y4.2.1,y4.2.2.1,y4.2.2.2.1,()),y4.2.2.2.1,())∧P ((y4.1,y4.2.1,y4.2.2.1,y4.2.2.2.1,()),y4.2.2.2.1,()))∧
 P ((y4.1,y4.2.1,y4.2.2.1,y4.2.2.2.1,()),y4.2.2.2.1,()))∧
 (∃(y3:List Int),
 Bv.fn (p.1,())=some y3∧
 ∃(y4:List (List Int)×List Int×List Int×Bool×PUnit),
 Cw.fn ((p.1,p.2.1,p.2.2.1,()),y3,())=some y4∧
 ((P ((y4.1,y4.2.1,y4.2.2.1,y4.2.2.2.1,()),y4.2.2.2.1,())∧P ((y4.1,y4.2.1,y4.2.2.1,y4.2.2.2.1,()),y4.2.2.2.1,()))∧
 P ((y4.1,y4.2.1,y4.2.2.1,y4.2.2.2.1,()),y4.2.2.2.1,()))∧
 (P ((y4.1,y4.2.1,y4.2.2.1,y4.2.2.2.1,()),y4.2.2.2.1,())∧P ((y4.1,y4.2.1,y4.2.2.1,y4.2.2.2.1,()),y4.2.2.2.1,()))∧
 P ((y4.1,y4.2.1,y4.2.2.1,y4.2.2.2.1,()),y4.2.2.2.1,()))∧
 ∃(y3:List Int),
 Bv.fn (p.1,())=some y3∧
 ∃(y4:List (List Int)×List Int×List Int×Bool×PUnit),
 Cw.fn ((p.1,p.2.1,p.2.2.1,()),y3,())=some y4∧
 ((P ((y4.1,y4.2.1,y4.2.2.1,y4.2.2.2.1,()),y4.2.2.2.1,())∧P ((y4.1,y4.2.1,y4.2.2.1,y4.2.2.2.1,()),y4.2.2.2.1,()))∧
 P ((y4.1,y4.2.1,y4.2.2.1,y4.2.2.2.1,()),y4.2.2.2.1,()))∧
 (P ((y4.1,y4.2.1,y4.2.2.1,y4.2.2.2.1,()),y4.2.2.2.1,())∧P ((y4.1,y4.2.1,y4.2.2.1,y4.2.2.2.1,()),y4.2.2.2.1,()))∧
 P ((y4.1,y4.2.1,y4.2.2.1,y4.2.2.2.1,()),y4.2.2.2.1,()))∧
 (∃(y3:List Int),
 Bv.fn (p.1,())=some y3∧
 ∃(y4:List (List Int)×List Int×List Int×Bool×PUnit),
 Cw.fn ((p.1,p.2.1,p.2.2.1,()),y3,())=some y4∧
 ((P ((y4.1,y4.2.1,y4.2.2.1,y4.2.2.2.1,()),y4.2.2.2.1,())∧P ((y4.1,y4.2.1,y4.2.2.1,y4.2.2.2.1,()),y4.2.2.2.1,()))∧
 P ((y4.1,y4.2.1,y4.2.2.1,y4.2.2.2.1,()),y4.2.2.2.1,()))∧
 (P ((y4.1,y4.2.1,y4.2.2.1,y4.2.2.2.1,()),y4.2.2.2.1,())∧P ((y4.1,y4.2.1,y4.2.2.1,y4.2.2.2.1,()),y4.2.2.2.1,()))∧
 P ((y4.1,y4.2.1,y4.2.2.1,y4.2.2.2.1,()),y4.2.2.2.1,()))∧
 (∃(y3:List Int),
 Bv.fn (p.1,())=some y3∧
 ∃(y4:List (List Int)×List Int×List Int×Bool×PUnit),
 Cw.fn ((p.1,p.2.1,p.2.2.1,()),y3,())=some y4∧
 ((P ((y4.1,y4.2.1,y4.2.2.1,y4.2.2.2.1,()),y4.2.2.2.1,())∧P ((y4.1,y4.2.1,y4.2.2.1,y4.2.2.2.1,()),y4.2.2.2.1,()))∧
 P ((y4.1,y4.2.1,y4.2.2.1,y4.2.2.2.1,()),y4.2.2.2.1,()))∧
 (P ((y4.1,y4.2.1,y4.2.2.1,y4.2.2.2.1,()),y4.2.2.2.1,())∧P ((y4.1,y4.2.1,y4.2.2.1,y4.2.2.2.1,()),y4.2.2.2.1,()))∧
 P ((y4.1,y4.2.1,y4.2.2.1,y4.2.2.2.1,()),y4.2.2.2.1,()))∧
 (∃(y3:List Int),
 Bv.fn (p.1,())=some y3∧
 ∃(y4:List (List Int)×List Int×List Int×Bool×PUnit),
 Cw.fn ((p.1,p.2.1,p.2.2.1,()),y3,())=some y4∧
 ((P ((y4.1,y4.2.1,y4.2.2.1,y4.2.2.2.1,()),y4.2.2.2.1,())∧P ((y4.1,y4.2.1,y4.2.2.1,y4.2.2.2.1,()),y4.2.2.2.1,()))∧
 P ((y4.1,y4.2.1,y4.2.2.1,y4.2.2.2.1,()),y4.2.2.2.1,()))∧
 (P ((y4.1,y4.2.1,y4.2.2.1,y4.2.2.2.1,()),y4.2.2.2.1,())∧P ((y4.1,y4.2.1,y4.2.2.1,y4.2.2.2.1,()),y4.2.2.2.1,()))∧
 P ((y4.1,y4.2.1,y4.2.2.1,y4.2.2.2.1,()),y4.2.2.2.1,()))∧
 ∃(y3:List Int),
 Bv.fn (p.1,())=some y3∧
 ∃(y4:List (List Int)×List Int×List Int×Bool×PUnit),
 Cw.fn ((p.1,p.2.1,p.2.2.1,()),y3,())=some y4∧
 ((P ((y4.1,y4.2.1,y4.2.2.1,y4.2.2.2.1,()),y4.2.2.2.1,())∧P ((y4.1,y4.2.1,y4.2.2.1,y4.2.2.2.1,()),y4.2.2.2.1,()))∧
 P ((y4.1,y4.2.1,y4.2.2.1,y4.2.2.2.1,()),y4.2.2.2.1,()))∧
 (P ((y4.1,y4.2.1,y4.2.2.1,y4.2.2.2.1,()),y4.2.2.2.1,())∧P ((y4.1,y4.2.1,y4.2.2.1,y4.2.2.2.1,()),y4.2.2.2.1,()))∧
 P ((y4.1,y4.2.1,y4.2.2.1,y4.2.2.2.1,()),y4.2.2.2.1,())))=fnW tab (look [(99,Ej),(106,Bv),(105,Cw)]) Ij Try.f57 (p,()) P:=by kernel_rfl
theorem Oo {p:PP} (hw:Gq p=true):Bq p=true∧(Eu p.2.2.1 (upto p.1.toNat)).2.2=true:=Bool.and_eq_true_iff.1 hw
theorem Bdn {p:PP} (hw:Gq p=true):Reach p (Ae5 p) (Asn p) true:=by
 have h:=Aed (Oo hw).1
 rw [(Oo hw).2] at h
 exact h
theorem Bef {p:PP} (hv:Bq p=true):Oz p p.1.toNat (Ae5 p) (Asn p):=(Aed hv).ok
theorem Aw1 (p:PP) (h:Cd p):fnW tab (look [(99,Ej),(106,Bv),(105,Cw)]) Ij Try.f57 (p,()) (fun (z:SS×Bool×Unit)=>z=El p):=by
 refine Eq.mp (Ax5 p _) ⟨_,if_pos h,?_⟩
 show Br (!Bq p) _ _
 unfold El
 by_cases hv:Bq p=true
 ·rw [if_pos hv,hv]
  refine ⟨fun hb=>by simp at hb,fun _=>?_⟩
  have hn:=(valid hv).n
  have hid:Bv.fn (p.1,())=some (upto p.1.toNat):=if_pos ⟨by show 0≤p.1;omega,by show p.1≤20;omega⟩
  have hup: ∀y∈upto p.1.toNat,0≤y∧y<p.1:=fun y hy=>by have:=Iq.1 hy;omega
  have hfr:Cw.fn ((p.1,p.2.1,p.2.2.1,()),upto p.1.toNat,())=some (Dr p.2.2.1 (upto p.1.toNat)):=if_pos ⟨hv,by show (upto p.1.toNat).length≤20;rw [Rn];omega,hup⟩
  have hz:(((Dr p.2.2.1 (upto p.1.toNat)).1,(Dr p.2.2.1 (upto p.1.toNat)).2.1,(Dr p.2.2.1 (upto p.1.toNat)).2.2.1,(Dr p.2.2.1 (upto p.1.toNat)).2.2.2.1,()),(Dr p.2.2.1 (upto p.1.toNat)).2.2.2.1,())=(Dr p.2.2.1 (upto p.1.toNat),Gq p,()):=by
   unfold Gq
   rw [hv,Bool.true_and]
   rfl
  repeat' (first|exact hz|refine ⟨_,hid,?_⟩|refine ⟨_,hfr,?_⟩|refine ⟨?_,?_⟩)
 ·rw [if_neg hv]
  refine ⟨fun _=>rfl,fun hb=>?_⟩
  exact absurd (by simpa using hb) hv
theorem Akh:Sound Try.prog 57 Ij:=
 Sound.mkS Ch (Ag Ut (Ag Akc (Ag Atu Ar))) mixed Try.func57 (by kernel_rfl) (by kernel_rfl) fun x h=>Aw1 x.1 h
theorem Bbn {p:PP} (hv:Bq p=true):(Ae5 p).length≤3000:=(Bef hv).ok.few
theorem Akl {p:PP} (hp:Cd p) (hw:Gq p=true):Ij.fn ((p.1,p.2.1,p.2.2.1,()),())=some (Dr p.2.2.1 (upto p.1.toNat),true,()):=
 (if_pos hp).trans (congrArg some ((if_pos (Oo hw).1).trans (by rw [←hw])))
end Go.Proofs.Ytebabhocakedaaa

namespace Go.Proofs.Ytebabhocakedaaa
open Go.RowKit
def Li (b:ByteArray) (t:List Int):ByteArray:=t.foldl (fun a k=>a++b.extract k.toNat (k+1).toNat) ByteArray.empty
def Ee (p:PP) (t:List Int):PP:=(p.1,Li p.2.1 t,t.map fun k=>p.2.2.1.getD k.toNat [],())
noncomputable abbrev Ii:Spec:=mkS (.pair Cr (.pair tL .unit)) Cr false true (fun x=>Cd x.1∧Bg x.1 x.2.1=true) (fun x=>Ee x.1 x.2.1)
noncomputable abbrev Ka:Spec:=mkS (.pair Cr (.pair tL .unit)) Cr false true (fun x=>Cd x.1∧Bg x.1 x.2.1=true) (fun x=>Ee x.1 x.2.1)
noncomputable abbrev Jz:Be:=mkM [some 3,none] [(false, .dat tI),(false, .dat .str),(false, .dat tLL),(false, .dat tL)] false [some 3] [.dat tI, .dat .str,xLL]
 (fun x=>Cd (x.1,x.2.1,x.2.2.1,())∧Bg (x.1,x.2.1,x.2.2.1,()) x.2.2.2.1=true) (fun x=>(((Ee (x.1,x.2.1,x.2.2.1,()) x.2.2.2.1).1,(Ee (x.1,x.2.1,x.2.2.1,()) x.2.2.2.1).2.1,(Ee (x.1,x.2.1,x.2.2.1,()) x.2.2.2.1).2.2.1,()),()))
abbrev HP:Type:=Option XP×List Int×Option XP×Unit
noncomputable def Mh (p:PP) (t:List Int):Bool:=Gq p&&Bg p t
noncomputable def Ajg (p:PP) (t:List Int):HP:=(some (Yy p),t,some (Yy (Ee p t)),())
noncomputable abbrev Hu:Spec:=mkS (.pair Cr (.pair tL .unit)) (.pair (.optr Aqf) (.pair .bool .unit)) true false (fun x=>Cd x.1∧short x.2.1) (fun x=>if Mh x.1 x.2.1=true then (some (Ajg x.1 x.2.1),true,()) else (none,false,()))
noncomputable def Jo (p:PP) (t:List Int):PP:=if Mh p t=true then Ee p t else (0,ByteArray.empty,[],())
noncomputable abbrev Qh:Spec:=mkS (.pair Cr (.pair tL .unit)) (.pair Cr (.pair .bool .unit)) true true (fun x=>Cd x.1∧short x.2.1) (fun x=>(Jo x.1 x.2.1,Mh x.1 x.2.1,()))
noncomputable abbrev Nk:Be:=mkM [some 3,none] [(false, .dat tI),(false, .dat .str),(false, .dat tLL),(false, .dat tL)] true [some 3,none] [.dat tI, .dat .str,xLL, .dat .bool]
 (fun x=>Cd (x.1,x.2.1,x.2.2.1,())∧short x.2.2.2.1) (fun x=>(((Jo (x.1,x.2.1,x.2.2.1,()) x.2.2.2.1).1,(Jo (x.1,x.2.1,x.2.2.1,()) x.2.2.2.1).2.1,(Jo (x.1,x.2.1,x.2.2.1,()) x.2.2.2.1).2.2.1,Mh (x.1,x.2.1,x.2.2.1,()) x.2.2.2.1,()),()))
noncomputable abbrev Zr:Spec:=mkS (.pair Cr (.pair tL .unit)) (.pair Sn (.pair Sn (.pair .bool .unit))) true false (fun x=>Cd x.1∧short x.2.1)
 (fun x=>(if Mh x.1 x.2.1=true then (Dr x.1.2.2.1 (upto x.1.1.toNat),Dr (Ee x.1 x.2.1).2.2.1 (upto x.1.1.toNat),true,()) else ((El x.1).1,(El x.1).1,false,())))
noncomputable abbrev Afw:Spec:=mkS (.pair Cr (.pair tL .unit)) .bool false true (fun x=>Cd x.1∧short x.2.1) (fun _=>true)
theorem Ax4 (p:Int×ByteArray×List (List Int)×Unit) (t:List Int) (P:(Int×ByteArray×List (List Int)×Unit)→Prop):((0:Nat)=(0:Nat)∧
 (0:Nat)=([]:List Int).length∧
 (0:Nat)=(0:Nat)∧
 (0:Nat)=([]:List Int).length∧
 Cc
 (fun (v3:Int×Int×ByteArray×List (List Int)×Int×ByteArray×Int×ByteArray×List (List Int)×List (List Int)×PUnit)
 (k4:Int×Int×ByteArray×List (List Int)×Int×ByteArray×Int×ByteArray×List (List Int)×List (List Int)×PUnit→Prop)=>
 Br (decide (v3.1<(↑t.length:Int)))
 (∃(y5:Int),
 idx t v3.1=some y5∧
 ((0:Int)≤y5∧y5≤IntKind.i64.wrap (y5+(1:Int))∧IntKind.i64.wrap (y5+(1:Int))≤(↑v3.2.2.1.size:Int))∧
 v3.2.2.2.2.2.2.2.1.size+(v3.2.2.1.extract y5.toNat (IntKind.i64.wrap (y5+(1:Int))).toNat).size≤(4294967296:Nat)∧
 ∃(y6:List Int),
 idx v3.2.2.2.1 y5=some y6∧
 ∃(y7:List Int),
 Ie.fn (y6,())=some y7∧
 (0:Nat)=(0:Nat)∧
 v3.2.2.2.2.2.2.2.2.2.1.length=v3.2.2.2.2.2.2.2.2.2.1.length∧
 v3.2.2.2.2.2.2.2.2.2.1.length+ [y7].length≤Am∧
 (0:Nat)=(0:Nat)∧
 v3.2.2.2.2.2.2.2.2.1.length=v3.2.2.2.2.2.2.2.2.1.length∧
 (0:Nat)=(0:Nat)∧
 (v3.2.2.2.2.2.2.2.2.2.1++ [y7]).length=(v3.2.2.2.2.2.2.2.2.2.1++ [y7]).length∧
 k4
 (IntKind.i64.wrap (v3.1+(1:Int)),v3.2.1,v3.2.2.1,v3.2.2.2.1,v3.2.2.2.2.1,v3.2.2.2.2.2.1,v3.2.2.2.2.2.2.1,
 v3.2.2.2.2.2.2.2.1++v3.2.2.1.extract y5.toNat (IntKind.i64.wrap (y5+(1:Int))).toNat,v3.2.2.2.2.2.2.2.2.1,
 v3.2.2.2.2.2.2.2.2.2.1++ [y7],()))
 (P (v3.2.2.2.2.2.2.1,v3.2.2.2.2.2.2.2.1,List.take v3.2.2.2.2.2.2.2.2.2.1.length (List.drop ((0:Nat)) v3.2.2.2.2.2.2.2.2.2.1),())))
 ((0:Int),p.1,p.2.1,p.2.2.1,Int.ofNat (nat_lit 0), {data:= #[]},p.1, {data:= #[]},[],[],PUnit.unit))=fnW tab (look [(120,Ie)]) Ii Try.f72 (p,t,()) P:=by kernel_rfl
theorem Aqx (p:Int×ByteArray×List (List Int)×Unit) (t:List Int) (P:(Int×ByteArray×List (List Int)×Unit)→Prop):((0:Nat)=(0:Nat)∧
 (0:Nat)=([]:List Int).length∧
 (0:Nat)=(0:Nat)∧
 (0:Nat)=([]:List Int).length∧
 Cc
 (fun (v3:Int×Int×ByteArray×List (List Int)×Int×ByteArray×Int×ByteArray×List (List Int)×List (List Int)×PUnit)
 (k4:Int×Int×ByteArray×List (List Int)×Int×ByteArray×Int×ByteArray×List (List Int)×List (List Int)×PUnit→Prop)=>
 Br (decide (v3.1<(↑t.length:Int)))
 (∃(y5:Int),
 idx t v3.1=some y5∧
 ((0:Int)≤y5∧y5≤IntKind.i64.wrap (y5+(1:Int))∧IntKind.i64.wrap (y5+(1:Int))≤(↑v3.2.2.1.size:Int))∧
 v3.2.2.2.2.2.2.2.1.size+(v3.2.2.1.extract y5.toNat (IntKind.i64.wrap (y5+(1:Int))).toNat).size≤(4294967296:Nat)∧
 ∃(y6:List Int),
 idx v3.2.2.2.1 y5=some y6∧
 ∃(y7:List Int),
 Aei.fn (y6,())=some y7∧
 (0:Nat)=(0:Nat)∧
 v3.2.2.2.2.2.2.2.2.2.1.length=v3.2.2.2.2.2.2.2.2.2.1.length∧
 v3.2.2.2.2.2.2.2.2.2.1.length+ [y7].length≤Am∧
 (0:Nat)=(0:Nat)∧
 v3.2.2.2.2.2.2.2.2.1.length=v3.2.2.2.2.2.2.2.2.1.length∧
 (0:Nat)=(0:Nat)∧
 (v3.2.2.2.2.2.2.2.2.2.1++ [y7]).length=(v3.2.2.2.2.2.2.2.2.2.1++ [y7]).length∧
 k4
 (IntKind.i64.wrap (v3.1+(1:Int)),v3.2.1,v3.2.2.1,v3.2.2.2.1,v3.2.2.2.2.1,v3.2.2.2.2.2.1,v3.2.2.2.2.2.2.1,
 v3.2.2.2.2.2.2.2.1++v3.2.2.1.extract y5.toNat (IntKind.i64.wrap (y5+(1:Int))).toNat,v3.2.2.2.2.2.2.2.2.1,
 v3.2.2.2.2.2.2.2.2.2.1++ [y7],()))
 (P (v3.2.2.2.2.2.2.1,v3.2.2.2.2.2.2.2.1,List.take v3.2.2.2.2.2.2.2.2.2.1.length (List.drop ((0:Nat)) v3.2.2.2.2.2.2.2.2.2.1),())))
 ((0:Int),p.1,p.2.1,p.2.2.1,Int.ofNat (nat_lit 0), {data:= #[]},p.1, {data:= #[]},[],[],PUnit.unit))=fnW tab (look [(121,Aei)]) Ka Try.f73 (p,t,()) P:=by kernel_rfl
theorem Aqw (n:Int) (str:ByteArray) (g:List (List Int)) (t:List Int) (P:((Int×ByteArray×List (List Int)×Unit)×Unit)→Prop):((0:Nat)=(0:Nat)∧
 (0:Nat)=([]:List Int).length∧
 (0:Nat)=(0:Nat)∧
 (0:Nat)=([]:List Int).length∧
 Cc
 (fun (v5:Int×Int×ByteArray×List (List Int)×Int×ByteArray×Int×ByteArray×List (List Int)×List (List Int)×PUnit)
 (k6:Int×Int×ByteArray×List (List Int)×Int×ByteArray×Int×ByteArray×List (List Int)×List (List Int)×PUnit→Prop)=>
 Br (decide (v5.1<(↑t.length:Int)))
 (∃(y7:Int),
 idx t v5.1=some y7∧
 ((0:Int)≤y7∧y7≤IntKind.i64.wrap (y7+(1:Int))∧IntKind.i64.wrap (y7+(1:Int))≤(↑v5.2.2.1.size:Int))∧
 v5.2.2.2.2.2.2.2.1.size+(v5.2.2.1.extract y7.toNat (IntKind.i64.wrap (y7+(1:Int))).toNat).size≤(4294967296:Nat)∧
 ∃(y8:List Int),
 idx v5.2.2.2.1 y7=some y8∧
 ∃(y9:(List Int×PUnit)×PUnit),
 Ku.fn (y8,())=some y9∧
 (0:Nat)=(0:Nat)∧
 v5.2.2.2.2.2.2.2.2.2.1.length=v5.2.2.2.2.2.2.2.2.2.1.length∧
 v5.2.2.2.2.2.2.2.2.2.1.length+(List.take (1:Nat) (List.drop (0:Nat) [List.take y9.1.1.length (List.drop (0:Nat) y9.1.1)])).length≤Am∧
 ((0:Nat)=(0:Nat)∧
 v5.2.2.2.2.2.2.2.2.1.length=v5.2.2.2.2.2.2.2.2.1.length∧
 (0:Nat)=(0:Nat)∧
 (v5.2.2.2.2.2.2.2.2.2.1++List.take (1:Nat) (List.drop (0:Nat) [List.take y9.1.1.length (List.drop (0:Nat) y9.1.1)])).length=
 (v5.2.2.2.2.2.2.2.2.2.1++List.take (1:Nat) (List.drop (0:Nat) [List.take y9.1.1.length (List.drop (0:Nat) y9.1.1)])).length∧
 k6
 (IntKind.i64.wrap (v5.1+(1:Int)),v5.2.1,v5.2.2.1,v5.2.2.2.1,v5.2.2.2.2.1,v5.2.2.2.2.2.1,v5.2.2.2.2.2.2.1,
 v5.2.2.2.2.2.2.2.1++v5.2.2.1.extract y7.toNat (IntKind.i64.wrap (y7+(1:Int))).toNat,v5.2.2.2.2.2.2.2.2.1,
 v5.2.2.2.2.2.2.2.2.2.1++List.take (1:Nat) (List.drop (0:Nat) [List.take y9.1.1.length (List.drop (0:Nat) y9.1.1)]),()))∧
 (∃(y10:List Int),
 idx v5.2.2.2.1 y7=some y10∧
 ∃(y11:(List Int×PUnit)×PUnit),
 Ku.fn (y10,())=some y11∧
 (0:Nat)=(0:Nat)∧
 v5.2.2.2.2.2.2.2.2.2.1.length=v5.2.2.2.2.2.2.2.2.2.1.length∧
 v5.2.2.2.2.2.2.2.2.2.1.length+
 (List.take (1:Nat) (List.drop (0:Nat) [List.take y11.1.1.length (List.drop (0:Nat) y11.1.1)])).length≤
 Am∧
 [((0:Nat),
 (v5.2.2.2.2.2.2.2.2.2.1++
 List.take (1:Nat) (List.drop (0:Nat) [List.take y11.1.1.length (List.drop (0:Nat) y11.1.1)])).length),
 ((0:Nat),v5.2.2.2.2.2.2.2.2.1.length),
 ((0:Nat),
 (v5.2.2.2.2.2.2.2.2.2.1++
 List.take (1:Nat) (List.drop (0:Nat) [List.take y11.1.1.length (List.drop (0:Nat) y11.1.1)])).length)]=
 [((0:Nat),
 (v5.2.2.2.2.2.2.2.2.2.1++
 List.take (1:Nat) (List.drop (0:Nat) [List.take y9.1.1.length (List.drop (0:Nat) y9.1.1)])).length),
 ((0:Nat),v5.2.2.2.2.2.2.2.2.1.length),
 ((0:Nat),
 (v5.2.2.2.2.2.2.2.2.2.1++
 List.take (1:Nat) (List.drop (0:Nat) [List.take y9.1.1.length (List.drop (0:Nat) y9.1.1)])).length)]∧
 (y7,t,(↑t.length:Int),v5.1,decide (v5.1<(↑t.length:Int)),y7,y7,v5.2.2.2.2.2.2.2.1,v5.2.2.1,y7,y7,
 IntKind.i64.wrap (y7+(1:Int)),v5.2.2.1.extract y7.toNat (IntKind.i64.wrap (y7+(1:Int))).toNat,
 v5.2.2.2.2.2.2.2.1++v5.2.2.1.extract y7.toNat (IntKind.i64.wrap (y7+(1:Int))).toNat,v5.2.2.2.1,y7,y10,y10,
 List.take y11.1.1.length (List.drop (0:Nat) y11.1.1),
 List.take (1:Nat) (List.drop (0:Nat) [List.take y11.1.1.length (List.drop (0:Nat) y11.1.1)]),v5.2.1,v5.2.2.1,
 v5.2.2.2.1,v5.2.2.2.2.1,v5.2.2.2.2.2.1,v5.2.2.2.2.2.2.1,
 v5.2.2.2.2.2.2.2.1++v5.2.2.1.extract y7.toNat (IntKind.i64.wrap (y7+(1:Int))).toNat,v5.2.2.2.2.2.2.2.2.1,
 v5.2.2.2.2.2.2.2.2.2.1++List.take (1:Nat) (List.drop (0:Nat) [List.take y11.1.1.length (List.drop (0:Nat) y11.1.1)]),
 ())=
 (y7,t,(↑t.length:Int),v5.1,decide (v5.1<(↑t.length:Int)),y7,y7,v5.2.2.2.2.2.2.2.1,v5.2.2.1,y7,y7,
 IntKind.i64.wrap (y7+(1:Int)),v5.2.2.1.extract y7.toNat (IntKind.i64.wrap (y7+(1:Int))).toNat,
 v5.2.2.2.2.2.2.2.1++v5.2.2.1.extract y7.toNat (IntKind.i64.wrap (y7+(1:Int))).toNat,v5.2.2.2.1,y7,y8,y8,
 List.take y9.1.1.length (List.drop (0:Nat) y9.1.1),
 List.take (1:Nat) (List.drop (0:Nat) [List.take y9.1.1.length (List.drop (0:Nat) y9.1.1)]),v5.2.1,v5.2.2.1,
 v5.2.2.2.1,v5.2.2.2.2.1,v5.2.2.2.2.2.1,v5.2.2.2.2.2.2.1,
 v5.2.2.2.2.2.2.2.1++v5.2.2.1.extract y7.toNat (IntKind.i64.wrap (y7+(1:Int))).toNat,v5.2.2.2.2.2.2.2.2.1,
 v5.2.2.2.2.2.2.2.2.2.1++List.take (1:Nat) (List.drop (0:Nat) [List.take y9.1.1.length (List.drop (0:Nat) y9.1.1)]),
 PUnit.unit))∧
 (∃(y10:List Int),
 idx v5.2.2.2.1 y7=some y10∧
 ∃(y11:(List Int×PUnit)×PUnit),
 Ku.fn (y10,())=some y11∧
 (0:Nat)=(0:Nat)∧
 v5.2.2.2.2.2.2.2.2.2.1.length=v5.2.2.2.2.2.2.2.2.2.1.length∧
 v5.2.2.2.2.2.2.2.2.2.1.length+
 (List.take (1:Nat) (List.drop (0:Nat) [List.take y11.1.1.length (List.drop (0:Nat) y11.1.1)])).length≤
 Am∧
 [((0:Nat),
 (v5.2.2.2.2.2.2.2.2.2.1++
 List.take (1:Nat) (List.drop (0:Nat) [List.take y11.1.1.length (List.drop (0:Nat) y11.1.1)])).length),
 ((0:Nat),v5.2.2.2.2.2.2.2.2.1.length),
 ((0:Nat),
 (v5.2.2.2.2.2.2.2.2.2.1++
 List.take (1:Nat) (List.drop (0:Nat) [List.take y11.1.1.length (List.drop (0:Nat) y11.1.1)])).length)]=
 [((0:Nat),
 (v5.2.2.2.2.2.2.2.2.2.1++
 List.take (1:Nat) (List.drop (0:Nat) [List.take y9.1.1.length (List.drop (0:Nat) y9.1.1)])).length),
 ((0:Nat),v5.2.2.2.2.2.2.2.2.1.length),
 ((0:Nat),
 (v5.2.2.2.2.2.2.2.2.2.1++
 List.take (1:Nat) (List.drop (0:Nat) [List.take y9.1.1.length (List.drop (0:Nat) y9.1.1)])).length)]∧
 (y7,t,(↑t.length:Int),v5.1,decide (v5.1<(↑t.length:Int)),y7,y7,v5.2.2.2.2.2.2.2.1,v5.2.2.1,y7,y7,
 IntKind.i64.wrap (y7+(1:Int)),v5.2.2.1.extract y7.toNat (IntKind.i64.wrap (y7+(1:Int))).toNat,
 v5.2.2.2.2.2.2.2.1++v5.2.2.1.extract y7.toNat (IntKind.i64.wrap (y7+(1:Int))).toNat,v5.2.2.2.1,y7,y10,y10,
 List.take y11.1.1.length (List.drop (0:Nat) y11.1.1),
 List.take (1:Nat) (List.drop (0:Nat) [List.take y11.1.1.length (List.drop (0:Nat) y11.1.1)]),v5.2.1,v5.2.2.1,
 v5.2.2.2.1,v5.2.2.2.2.1,v5.2.2.2.2.2.1,v5.2.2.2.2.2.2.1,
 v5.2.2.2.2.2.2.2.1++v5.2.2.1.extract y7.toNat (IntKind.i64.wrap (y7+(1:Int))).toNat,v5.2.2.2.2.2.2.2.2.1,
 v5.2.2.2.2.2.2.2.2.2.1++
 List.take (1:Nat) (List.drop (0:Nat) [List.take y11.1.1.length (List.drop (0:Nat) y11.1.1)]),
 ())=
 (y7,t,(↑t.length:Int),v5.1,decide (v5.1<(↑t.length:Int)),y7,y7,v5.2.2.2.2.2.2.2.1,v5.2.2.1,y7,y7,
 IntKind.i64.wrap (y7+(1:Int)),v5.2.2.1.extract y7.toNat (IntKind.i64.wrap (y7+(1:Int))).toNat,
 v5.2.2.2.2.2.2.2.1++v5.2.2.1.extract y7.toNat (IntKind.i64.wrap (y7+(1:Int))).toNat,v5.2.2.2.1,y7,y8,y8,
 List.take y9.1.1.length (List.drop (0:Nat) y9.1.1),
 List.take (1:Nat) (List.drop (0:Nat) [List.take y9.1.1.length (List.drop (0:Nat) y9.1.1)]),v5.2.1,v5.2.2.1,
 v5.2.2.2.1,v5.2.2.2.2.1,v5.2.2.2.2.2.1,v5.2.2.2.2.2.2.1,
 v5.2.2.2.2.2.2.2.1++v5.2.2.1.extract y7.toNat (IntKind.i64.wrap (y7+(1:Int))).toNat,v5.2.2.2.2.2.2.2.2.1,
 v5.2.2.2.2.2.2.2.2.2.1++List.take (1:Nat) (List.drop (0:Nat) [List.take y9.1.1.length (List.drop (0:Nat) y9.1.1)]),
 PUnit.unit))∧
 ∃(y10:List Int),
 idx v5.2.2.2.1 y7=some y10∧
 (∃(y11:(List Int×PUnit)×PUnit),
 Ku.fn (y10,())=some y11∧
 (0:Nat)=(0:Nat)∧
 v5.2.2.2.2.2.2.2.2.2.1.length=v5.2.2.2.2.2.2.2.2.2.1.length∧
 v5.2.2.2.2.2.2.2.2.2.1.length+
 (List.take (1:Nat) (List.drop (0:Nat) [List.take y11.1.1.length (List.drop (0:Nat) y11.1.1)])).length≤
 Am∧
 [((0:Nat),
 (v5.2.2.2.2.2.2.2.2.2.1++
 List.take (1:Nat) (List.drop (0:Nat) [List.take y11.1.1.length (List.drop (0:Nat) y11.1.1)])).length),
 ((0:Nat),v5.2.2.2.2.2.2.2.2.1.length),
 ((0:Nat),
 (v5.2.2.2.2.2.2.2.2.2.1++
 List.take (1:Nat) (List.drop (0:Nat) [List.take y11.1.1.length (List.drop (0:Nat) y11.1.1)])).length)]=
 [((0:Nat),
 (v5.2.2.2.2.2.2.2.2.2.1++
 List.take (1:Nat) (List.drop (0:Nat) [List.take y9.1.1.length (List.drop (0:Nat) y9.1.1)])).length),
 ((0:Nat),v5.2.2.2.2.2.2.2.2.1.length),
 ((0:Nat),
 (v5.2.2.2.2.2.2.2.2.2.1++
 List.take (1:Nat) (List.drop (0:Nat) [List.take y9.1.1.length (List.drop (0:Nat) y9.1.1)])).length)]∧
 (y7,t,(↑t.length:Int),v5.1,decide (v5.1<(↑t.length:Int)),y7,y7,v5.2.2.2.2.2.2.2.1,v5.2.2.1,y7,y7,
 IntKind.i64.wrap (y7+(1:Int)),v5.2.2.1.extract y7.toNat (IntKind.i64.wrap (y7+(1:Int))).toNat,
 v5.2.2.2.2.2.2.2.1++v5.2.2.1.extract y7.toNat (IntKind.i64.wrap (y7+(1:Int))).toNat,v5.2.2.2.1,y7,y10,y10,
 List.take y11.1.1.length (List.drop (0:Nat) y11.1.1),
 List.take (1:Nat) (List.drop (0:Nat) [List.take y11.1.1.length (List.drop (0:Nat) y11.1.1)]),v5.2.1,v5.2.2.1,
 v5.2.2.2.1,v5.2.2.2.2.1,v5.2.2.2.2.2.1,v5.2.2.2.2.2.2.1,
 v5.2.2.2.2.2.2.2.1++v5.2.2.1.extract y7.toNat (IntKind.i64.wrap (y7+(1:Int))).toNat,v5.2.2.2.2.2.2.2.2.1,
 v5.2.2.2.2.2.2.2.2.2.1++
 List.take (1:Nat) (List.drop (0:Nat) [List.take y11.1.1.length (List.drop (0:Nat) y11.1.1)]),
 ())=
 (y7,t,(↑t.length:Int),v5.1,decide (v5.1<(↑t.length:Int)),y7,y7,v5.2.2.2.2.2.2.2.1,v5.2.2.1,y7,y7,
 IntKind.i64.wrap (y7+(1:Int)),v5.2.2.1.extract y7.toNat (IntKind.i64.wrap (y7+(1:Int))).toNat,
 v5.2.2.2.2.2.2.2.1++v5.2.2.1.extract y7.toNat (IntKind.i64.wrap (y7+(1:Int))).toNat,v5.2.2.2.1,y7,y8,y8,
 List.take y9.1.1.length (List.drop (0:Nat) y9.1.1),
 List.take (1:Nat) (List.drop (0:Nat) [List.take y9.1.1.length (List.drop (0:Nat) y9.1.1)]),v5.2.1,v5.2.2.1,
 v5.2.2.2.1,v5.2.2.2.2.1,v5.2.2.2.2.2.1,v5.2.2.2.2.2.2.1,
 v5.2.2.2.2.2.2.2.1++v5.2.2.1.extract y7.toNat (IntKind.i64.wrap (y7+(1:Int))).toNat,v5.2.2.2.2.2.2.2.2.1,
 v5.2.2.2.2.2.2.2.2.2.1++
 List.take (1:Nat) (List.drop (0:Nat) [List.take y9.1.1.length (List.drop (0:Nat) y9.1.1)]),
 PUnit.unit))∧
 (∃(y11:(List Int×PUnit)×PUnit),
 Ku.fn (y10,())=some y11∧
 (0:Nat)=(0:Nat)∧
 v5.2.2.2.2.2.2.2.2.2.1.length=v5.2.2.2.2.2.2.2.2.2.1.length∧
 v5.2.2.2.2.2.2.2.2.2.1.length+
 (List.take (1:Nat) (List.drop (0:Nat) [List.take y11.1.1.length (List.drop (0:Nat) y11.1.1)])).length≤
 Am∧
 [((0:Nat),
 (v5.2.2.2.2.2.2.2.2.2.1++
 List.take (1:Nat) (List.drop (0:Nat) [List.take y11.1.1.length (List.drop (0:Nat) y11.1.1)])).length),
 ((0:Nat),v5.2.2.2.2.2.2.2.2.1.length),
 ((0:Nat),
 (v5.2.2.2.2.2.2.2.2.2.1++
 List.take (1:Nat) (List.drop (0:Nat) [List.take y11.1.1.length (List.drop (0:Nat) y11.1.1)])).length)]=
 [((0:Nat),
 (v5.2.2.2.2.2.2.2.2.2.1++
 List.take (1:Nat) (List.drop (0:Nat) [List.take y9.1.1.length (List.drop (0:Nat) y9.1.1)])).length),
 ((0:Nat),v5.2.2.2.2.2.2.2.2.1.length),
 ((0:Nat),
 (v5.2.2.2.2.2.2.2.2.2.1++
 List.take (1:Nat) (List.drop (0:Nat) [List.take y9.1.1.length (List.drop (0:Nat) y9.1.1)])).length)]∧
 (y7,t,(↑t.length:Int),v5.1,decide (v5.1<(↑t.length:Int)),y7,y7,v5.2.2.2.2.2.2.2.1,v5.2.2.1,y7,y7,
 IntKind.i64.wrap (y7+(1:Int)),v5.2.2.1.extract y7.toNat (IntKind.i64.wrap (y7+(1:Int))).toNat,
 v5.2.2.2.2.2.2.2.1++v5.2.2.1.extract y7.toNat (IntKind.i64.wrap (y7+(1:Int))).toNat,v5.2.2.2.1,y7,y10,y10,
 List.take y11.1.1.length (List.drop (0:Nat) y11.1.1),
 List.take (1:Nat) (List.drop (0:Nat) [List.take y11.1.1.length (List.drop (0:Nat) y11.1.1)]),v5.2.1,v5.2.2.1,
 v5.2.2.2.1,v5.2.2.2.2.1,v5.2.2.2.2.2.1,v5.2.2.2.2.2.2.1,
 v5.2.2.2.2.2.2.2.1++v5.2.2.1.extract y7.toNat (IntKind.i64.wrap (y7+(1:Int))).toNat,v5.2.2.2.2.2.2.2.2.1,
 v5.2.2.2.2.2.2.2.2.2.1++
 List.take (1:Nat) (List.drop (0:Nat) [List.take y11.1.1.length (List.drop (0:Nat) y11.1.1)]),
 ())=
 (y7,t,(↑t.length:Int),v5.1,decide (v5.1<(↑t.length:Int)),y7,y7,v5.2.2.2.2.2.2.2.1,v5.2.2.1,y7,y7,
 IntKind.i64.wrap (y7+(1:Int)),v5.2.2.1.extract y7.toNat (IntKind.i64.wrap (y7+(1:Int))).toNat,
 v5.2.2.2.2.2.2.2.1++v5.2.2.1.extract y7.toNat (IntKind.i64.wrap (y7+(1:Int))).toNat,v5.2.2.2.1,y7,y8,y8,
 List.take y9.1.1.length (List.drop (0:Nat) y9.1.1),
 List.take (1:Nat) (List.drop (0:Nat) [List.take y9.1.1.length (List.drop (0:Nat) y9.1.1)]),v5.2.1,v5.2.2.1,
 v5.2.2.2.1,v5.2.2.2.2.1,v5.2.2.2.2.2.1,v5.2.2.2.2.2.2.1,
 v5.2.2.2.2.2.2.2.1++v5.2.2.1.extract y7.toNat (IntKind.i64.wrap (y7+(1:Int))).toNat,v5.2.2.2.2.2.2.2.2.1,
 v5.2.2.2.2.2.2.2.2.2.1++
 List.take (1:Nat) (List.drop (0:Nat) [List.take y9.1.1.length (List.drop (0:Nat) y9.1.1)]),
 PUnit.unit))∧
 ∃(y11:(List Int×PUnit)×PUnit),
 Ku.fn (y10,())=some y11∧
 ((0:Nat)=(0:Nat)∧
 v5.2.2.2.2.2.2.2.2.2.1.length=v5.2.2.2.2.2.2.2.2.2.1.length∧
 v5.2.2.2.2.2.2.2.2.2.1.length+
 (List.take (1:Nat) (List.drop (0:Nat) [List.take y11.1.1.length (List.drop (0:Nat) y11.1.1)])).length≤
 Am∧
 [((0:Nat),
 (v5.2.2.2.2.2.2.2.2.2.1++
 List.take (1:Nat) (List.drop (0:Nat) [List.take y11.1.1.length (List.drop (0:Nat) y11.1.1)])).length),
 ((0:Nat),v5.2.2.2.2.2.2.2.2.1.length),
 ((0:Nat),
 (v5.2.2.2.2.2.2.2.2.2.1++
 List.take (1:Nat) (List.drop (0:Nat) [List.take y11.1.1.length (List.drop (0:Nat) y11.1.1)])).length)]=
 [((0:Nat),
 (v5.2.2.2.2.2.2.2.2.2.1++
 List.take (1:Nat) (List.drop (0:Nat) [List.take y9.1.1.length (List.drop (0:Nat) y9.1.1)])).length),
 ((0:Nat),v5.2.2.2.2.2.2.2.2.1.length),
 ((0:Nat),
 (v5.2.2.2.2.2.2.2.2.2.1++
 List.take (1:Nat) (List.drop (0:Nat) [List.take y9.1.1.length (List.drop (0:Nat) y9.1.1)])).length)]∧
 (y7,t,(↑t.length:Int),v5.1,decide (v5.1<(↑t.length:Int)),y7,y7,v5.2.2.2.2.2.2.2.1,v5.2.2.1,y7,y7,
 IntKind.i64.wrap (y7+(1:Int)),v5.2.2.1.extract y7.toNat (IntKind.i64.wrap (y7+(1:Int))).toNat,
 v5.2.2.2.2.2.2.2.1++v5.2.2.1.extract y7.toNat (IntKind.i64.wrap (y7+(1:Int))).toNat,v5.2.2.2.1,y7,y10,y10,
 List.take y11.1.1.length (List.drop (0:Nat) y11.1.1),
 List.take (1:Nat) (List.drop (0:Nat) [List.take y11.1.1.length (List.drop (0:Nat) y11.1.1)]),v5.2.1,v5.2.2.1,
 v5.2.2.2.1,v5.2.2.2.2.1,v5.2.2.2.2.2.1,v5.2.2.2.2.2.2.1,
 v5.2.2.2.2.2.2.2.1++v5.2.2.1.extract y7.toNat (IntKind.i64.wrap (y7+(1:Int))).toNat,
 v5.2.2.2.2.2.2.2.2.1,
 v5.2.2.2.2.2.2.2.2.2.1++
 List.take (1:Nat) (List.drop (0:Nat) [List.take y11.1.1.length (List.drop (0:Nat) y11.1.1)]),
 ())=
 (y7,t,(↑t.length:Int),v5.1,decide (v5.1<(↑t.length:Int)),y7,y7,v5.2.2.2.2.2.2.2.1,v5.2.2.1,y7,y7,
 IntKind.i64.wrap (y7+(1:Int)),v5.2.2.1.extract y7.toNat (IntKind.i64.wrap (y7+(1:Int))).toNat,
 v5.2.2.2.2.2.2.2.1++v5.2.2.1.extract y7.toNat (IntKind.i64.wrap (y7+(1:Int))).toNat,v5.2.2.2.1,y7,y8,y8,
 List.take y9.1.1.length (List.drop (0:Nat) y9.1.1),
 List.take (1:Nat) (List.drop (0:Nat) [List.take y9.1.1.length (List.drop (0:Nat) y9.1.1)]),v5.2.1,v5.2.2.1,
 v5.2.2.2.1,v5.2.2.2.2.1,v5.2.2.2.2.2.1,v5.2.2.2.2.2.2.1,
 v5.2.2.2.2.2.2.2.1++v5.2.2.1.extract y7.toNat (IntKind.i64.wrap (y7+(1:Int))).toNat,
 v5.2.2.2.2.2.2.2.2.1,
 v5.2.2.2.2.2.2.2.2.2.1++
 List.take (1:Nat) (List.drop (0:Nat) [List.take y9.1.1.length (List.drop (0:Nat) y9.1.1)]),
 PUnit.unit))∧
 (0:Nat)=(0:Nat)∧
 v5.2.2.2.2.2.2.2.2.2.1.length=v5.2.2.2.2.2.2.2.2.2.1.length∧
 v5.2.2.2.2.2.2.2.2.2.1.length+
 (List.take (1:Nat) (List.drop (0:Nat) [List.take y11.1.1.length (List.drop (0:Nat) y11.1.1)])).length≤
 Am∧
 [((0:Nat),
 (v5.2.2.2.2.2.2.2.2.2.1++
 List.take (1:Nat) (List.drop (0:Nat) [List.take y11.1.1.length (List.drop (0:Nat) y11.1.1)])).length),
 ((0:Nat),v5.2.2.2.2.2.2.2.2.1.length),
 ((0:Nat),
 (v5.2.2.2.2.2.2.2.2.2.1++
 List.take (1:Nat) (List.drop (0:Nat) [List.take y11.1.1.length (List.drop (0:Nat) y11.1.1)])).length)]=
 [((0:Nat),
 (v5.2.2.2.2.2.2.2.2.2.1++
 List.take (1:Nat) (List.drop (0:Nat) [List.take y9.1.1.length (List.drop (0:Nat) y9.1.1)])).length),
 ((0:Nat),v5.2.2.2.2.2.2.2.2.1.length),
 ((0:Nat),
 (v5.2.2.2.2.2.2.2.2.2.1++
 List.take (1:Nat) (List.drop (0:Nat) [List.take y9.1.1.length (List.drop (0:Nat) y9.1.1)])).length)]∧
 (y7,t,(↑t.length:Int),v5.1,decide (v5.1<(↑t.length:Int)),y7,y7,v5.2.2.2.2.2.2.2.1,v5.2.2.1,y7,y7,
 IntKind.i64.wrap (y7+(1:Int)),v5.2.2.1.extract y7.toNat (IntKind.i64.wrap (y7+(1:Int))).toNat,
 v5.2.2.2.2.2.2.2.1++v5.2.2.1.extract y7.toNat (IntKind.i64.wrap (y7+(1:Int))).toNat,v5.2.2.2.1,y7,y10,y10,
 List.take y11.1.1.length (List.drop (0:Nat) y11.1.1),
 List.take (1:Nat) (List.drop (0:Nat) [List.take y11.1.1.length (List.drop (0:Nat) y11.1.1)]),v5.2.1,v5.2.2.1,
 v5.2.2.2.1,v5.2.2.2.2.1,v5.2.2.2.2.2.1,v5.2.2.2.2.2.2.1,
 v5.2.2.2.2.2.2.2.1++v5.2.2.1.extract y7.toNat (IntKind.i64.wrap (y7+(1:Int))).toNat,
 v5.2.2.2.2.2.2.2.2.1,
 v5.2.2.2.2.2.2.2.2.2.1++
 List.take (1:Nat) (List.drop (0:Nat) [List.take y11.1.1.length (List.drop (0:Nat) y11.1.1)]),
 ())=
 (y7,t,(↑t.length:Int),v5.1,decide (v5.1<(↑t.length:Int)),y7,y7,v5.2.2.2.2.2.2.2.1,v5.2.2.1,y7,y7,
 IntKind.i64.wrap (y7+(1:Int)),v5.2.2.1.extract y7.toNat (IntKind.i64.wrap (y7+(1:Int))).toNat,
 v5.2.2.2.2.2.2.2.1++v5.2.2.1.extract y7.toNat (IntKind.i64.wrap (y7+(1:Int))).toNat,v5.2.2.2.1,y7,y8,y8,
 List.take y9.1.1.length (List.drop (0:Nat) y9.1.1),
 List.take (1:Nat) (List.drop (0:Nat) [List.take y9.1.1.length (List.drop (0:Nat) y9.1.1)]),v5.2.1,v5.2.2.1,
 v5.2.2.2.1,v5.2.2.2.2.1,v5.2.2.2.2.2.1,v5.2.2.2.2.2.2.1,
 v5.2.2.2.2.2.2.2.1++v5.2.2.1.extract y7.toNat (IntKind.i64.wrap (y7+(1:Int))).toNat,
 v5.2.2.2.2.2.2.2.2.1,
 v5.2.2.2.2.2.2.2.2.2.1++
 List.take (1:Nat) (List.drop (0:Nat) [List.take y9.1.1.length (List.drop (0:Nat) y9.1.1)]),
 PUnit.unit))
 (P ((v5.2.2.2.2.2.2.1,v5.2.2.2.2.2.2.2.1,List.take v5.2.2.2.2.2.2.2.2.2.1.length (List.drop ((0:Nat)) v5.2.2.2.2.2.2.2.2.2.1),()),())))
 ((0:Int),n,str,g,Int.ofNat (nat_lit 0), {data:= #[]},n, {data:= #[]},[],[],PUnit.unit))=Lf Rr (look [(121,Ku)]) Jz Try.f73 (n,str,g,t,()) P:=by kernel_rfl
theorem Ahg (p:Int×ByteArray×List (List Int)×Unit) (t:List Int) (P:(Option (Option XP×List Int×Option XP×Unit)×Bool×Unit)→Prop):(∃(y3:Option ((Int×ByteArray×List (List Int)×PUnit)×List (List Int)×List Int×(ByteArray→Option Int)×List Int×List Int×List (List Int)×PUnit)×Bool×PUnit),
 Iy.fn ((p.1,p.2.1,p.2.2.1,()),())=some y3∧
 Br (!y3.2.1) (P (none,false,()))
 (∃(y4:Bool),
 Du.fn ((p.1,p.2.1,p.2.2.1,()),t,())=some y4∧
 Br (!y4) (P (none,false,()))
 (∃(y5:Int×ByteArray×List (List Int)×PUnit),
 Ka.fn ((p.1,p.2.1,p.2.2.1,()),t,())=some y5∧
 ∃(y6:Option ((Int×ByteArray×List (List Int)×PUnit)×List (List Int)×List Int×(ByteArray→Option Int)×List Int×List Int×List (List Int)×PUnit)×Bool×PUnit),
 Iy.fn (y5,())=some y6∧P (some (y3.1,t,y6.1,()),true,()))))=fnW tab (look [(61,Iy),(117,Du),(73,Ka)]) Hu Try.f66 (p,t,()) P:=by kernel_rfl
theorem Bel (p:Int×ByteArray×List (List Int)×Unit) (t:List Int) (P:(SS×SS×Bool×Unit)→Prop):(∃(y3:(List (List Int)×List Int×List Int×Bool×PUnit)×Bool×PUnit),
 Ij.fn ((p.1,p.2.1,p.2.2.1,()),())=some y3∧
 Br (!y3.2.1)
 ((P ((y3.1.1,y3.1.2.1,y3.1.2.2.1,y3.1.2.2.2.1,()),(y3.1.1,y3.1.2.1,y3.1.2.2.1,y3.1.2.2.2.1,()),false,())∧
 P ((y3.1.1,y3.1.2.1,y3.1.2.2.1,y3.1.2.2.2.1,()),(y3.1.1,y3.1.2.1,y3.1.2.2.1,y3.1.2.2.2.1,()),false,()))∧
 P ((y3.1.1,y3.1.2.1,y3.1.2.2.1,y3.1.2.2.2.1,()),(y3.1.1,y3.1.2.1,y3.1.2.2.1,y3.1.2.2.2.1,()),false,()))
 (∃(y4:Bool),
 Du.fn ((p.1,p.2.1,p.2.2.1,()),t,())=some y4∧
 Br (!y4)
 ((P ((y3.1.1,y3.1.2.1,y3.1.2.2.1,y3.1.2.2.2.1,()),(y3.1.1,y3.1.2.1,y3.1.2.2.1,y3.1.2.2.2.1,()),false,())∧
 P ((y3.1.1,y3.1.2.1,y3.1.2.2.1,y3.1.2.2.2.1,()),(y3.1.1,y3.1.2.1,y3.1.2.2.1,y3.1.2.2.2.1,()),false,()))∧
 P ((y3.1.1,y3.1.2.1,y3.1.2.2.1,y3.1.2.2.2.1,()),(y3.1.1,y3.1.2.1,y3.1.2.2.1,y3.1.2.2.2.1,()),false,()))
 (∃(y5:Int×ByteArray×List (List Int)×PUnit),
 Ii.fn ((p.1,p.2.1,p.2.2.1,()),t,())=some y5∧
 ∃(y6:(List (List Int)×List Int×List Int×Bool×PUnit)×Bool×PUnit),
 Ij.fn (y5,())=some y6∧
 (P ((y3.1.1,y3.1.2.1,y3.1.2.2.1,y3.1.2.2.2.1,()),(y6.1.1,y6.1.2.1,y6.1.2.2.1,y6.1.2.2.2.1,()),true,())∧
 P ((y3.1.1,y3.1.2.1,y3.1.2.2.1,y3.1.2.2.2.1,()),(y6.1.1,y6.1.2.1,y6.1.2.2.1,y6.1.2.2.2.1,()),true,()))∧
 P ((y3.1.1,y3.1.2.1,y3.1.2.2.1,y3.1.2.2.2.1,()),(y6.1.1,y6.1.2.1,y6.1.2.2.1,y6.1.2.2.2.1,()),true,()))))=fnW tab (look [(57,Ij),(116,Du),(72,Ii)]) Zr Try.f65 (p,t,()) P:=by kernel_rfl
theorem Anr (n:Int) (str:ByteArray) (g:List (List Int)) (t:List Int) (P:((Int×ByteArray×List (List Int)×Bool×Unit)×Unit)→Prop):(∃(y5:
 Option
 (Option ((Int×ByteArray×List (List Int)×PUnit)×List (List Int)×List Int×(ByteArray→Option Int)×List Int×List Int×List (List Int)×PUnit)×
 List Int×Option ((Int×ByteArray×List (List Int)×PUnit)×List (List Int)×List Int×(ByteArray→Option Int)×List Int×List Int×List (List Int)×PUnit)×PUnit)×
 Bool×PUnit),
 Hu.fn ((n,str,g,()),t,())=some y5∧
 Br (!y5.2.1) (P ((Int.ofNat (nat_lit 0), {data:= #[]},List.take (0:Nat) (List.drop (0:Nat) []),false,()),()))
 (∃(y6:(Int×ByteArray×List (List Int)×PUnit)×PUnit),
 Jz.fn (n,str,g,t,())=some y6∧P ((y6.1.1,y6.1.2.1,List.take y6.1.2.2.1.length (List.drop (0:Nat) y6.1.2.2.1),true,()),())))=Lf Rr (look [(66,Hu),(73,Jz)]) Nk Try.f29 (n,str,g,t,()) P:=by kernel_rfl
theorem Ans (p:Int×ByteArray×List (List Int)×Unit) (t:List Int) (P:((Int×ByteArray×List (List Int)×Unit)×Bool×Unit)→Prop):(∃(y3:(List (List Int)×List Int×List Int×Bool×PUnit)×(List (List Int)×List Int×List Int×Bool×PUnit)×Bool×PUnit),
 Zr.fn ((p.1,p.2.1,p.2.2.1,()),t,())=some y3∧
 Br (!y3.2.2.1) (P ((Int.ofNat (nat_lit 0), {data:= #[]},List.take (0:Nat) (List.drop (0:Nat) []),()),false,()))
 (∃(y4:Int×ByteArray×List (List Int)×PUnit),Ii.fn ((p.1,p.2.1,p.2.2.1,()),t,())=some y4∧P ((y4.1,y4.2.1,y4.2.2.1,()),true,())))=fnW tab (look [(65,Zr),(72,Ii)]) Qh Try.f28 (p,t,()) P:=by kernel_rfl
theorem Aus (b:ByteArray) (i:Nat):b[i]?=b.data[i]?:=by
 by_cases h:i<b.size
 ·rw [getElem?_pos b i h,getElem?_pos b.data i h];rfl
 ·rw [getElem?_neg b i h,getElem?_neg b.data i h]
theorem Bds (a b:ByteArray) (k j:Nat) (hk:k<b.size):(a++b.extract k (k+1))[j]?=if j<a.size then a[j]? else if j=a.size then b[k]? else none:=by
 rw [Aus,ByteArray.data_append,ByteArray.data_extract,Array.getElem?_append]
 by_cases h:j<a.size
 ·rw [if_pos h,if_pos (show j<a.data.size from h),Aus]
 ·rw [if_neg h,if_neg (show ¬j<a.data.size from h)]
  have hk':k<b.data.size:=hk
  by_cases e:j=a.size
  ·rw [if_pos e,Aus]
   have:j-a.data.size=0:=by have:a.data.size=a.size:=rfl
                            omega
   rw [this,Array.getElem?_extract,if_pos (by omega),Nat.add_zero]
  ·rw [if_neg e,Array.getElem?_extract,if_neg]
   have:a.data.size=a.size:=rfl
   omega
theorem Aqc {b:ByteArray} : ∀(t:List Int) (a:ByteArray),(∀k∈t,0≤k∧k<b.size)→
  (t.foldl (fun (a:ByteArray) (k:Int)=>a++b.extract k.toNat (k+1).toNat) a).size=a.size+t.length∧
  ∀j,(t.foldl (fun (a:ByteArray) (k:Int)=>a++b.extract k.toNat (k+1).toNat) a)[j]?=if j<a.size then a[j]? else (t[j-a.size]?).bind fun k=>b[k.toNat]?
 | [],a,_=>by
  refine ⟨rfl,fun j=>?_⟩
  by_cases h:j<a.size
  ·rw [if_pos h];rfl
  ·rw [if_neg h]
   simp only [List.foldl_nil,List.getElem?_nil,Option.bind_none]
   exact getElem?_neg a j h
 |k::t,a,h=>by
  obtain ⟨h1,h2⟩:=h k (by simp)
  obtain ⟨kn,rfl⟩:=Int.eq_ofNat_of_zero_le h1
  have hkb:kn<b.size:=by omega
  have hsz:(a++b.extract kn (kn+1)).size=a.size+1:=by rw [ByteArray.size_append,ByteArray.size_extract];omega
  obtain ⟨g1,g2⟩:=Aqc t (a++b.extract kn (kn+1)) fun k' hk'=>h k' (List.mem_cons_of_mem _ hk')
  simp only [List.foldl_cons]
  rw [show ((kn:Nat):Int).toNat=kn from Int.toNat_natCast kn,show (((kn:Nat):Int)+1).toNat=kn+1 by omega]
  refine ⟨by rw [g1,hsz,List.length_cons];omega,fun j=>?_⟩
  rw [g2 j,hsz,Bds a b kn j hkb]
  by_cases e1:j<a.size
  ·rw [if_pos (by omega),if_pos e1,if_pos e1]
  ·rw [if_neg e1]
   by_cases e2:j=a.size
   ·subst e2
    rw [if_pos (by omega),if_pos rfl,if_neg (by omega),Nat.sub_self]
    simp
   ·rw [if_neg (by omega),if_neg e1,show j-a.size=(j-(a.size+1))+1 by omega,List.getElem?_cons_succ]
theorem Uv {b:ByteArray} (t:List Int) (h: ∀k∈t,0≤k∧k<b.size):(Li b t).size=t.length:=by
 have:=(Aqc t ByteArray.empty h).1
 rw [ByteArray.size_empty,Nat.zero_add] at this
 exact this
theorem Atx {b:ByteArray} (t:List Int) (h: ∀k∈t,0≤k∧k<b.size) (j:Nat):(Li b t)[j]?=(t[j]?).bind fun k=>b[k.toNat]?:=by
 have:=(Aqc t ByteArray.empty h).2 j
 rw [ByteArray.size_empty,if_neg (Nat.not_lt_zero _),Nat.sub_zero] at this
 exact this
theorem Aga (b:ByteArray) {t:List Int} {j:Nat} (hl:j<t.length):Li b (t.take (j+1))=Li b (t.take j)++b.extract (t[j]).toNat (t[j]+1).toNat:=by
 unfold Li
 rw [List.take_add_one,List.getElem?_eq_getElem hl,Option.toList_some,List.foldl_append]
 rfl
structure Ba8 (p:PP) (t:List Int):Prop where
 valid:Bq p=true
 pos:0<t.length
 few:t.length≤p.2.2.1.length
 g8:p.2.2.1.length≤8
 size:p.2.1.size=p.2.2.1.length
 at': ∀ {j:Nat} (h:j<t.length),∃k:Nat,t[j]=(k:Int)∧k<p.2.2.1.length
 inc: ∀ {i j:Nat} (hi:i<t.length) (hj:j<t.length),i<j→t[i]<t[j]
theorem Bbc {n:Int} {xs:List Int} (h:PL n xs xs.length): ∀(j i:Nat) (hi:i<xs.length) (hj:j<xs.length),i<j→xs[i]<xs[j]
 |0,_,_,_,hij=>absurd hij (Nat.not_lt_zero _)
 |j+1,i,hi,hj,hij=>by
  have h1:=(h (j+1) hj hj).2.2 (by omega)
  simp only [Nat.add_sub_cancel] at h1
  by_cases e:i=j
  ·subst e;exact h1
  ·have:=Bbc h j i hi (by omega) (by omega)
   omega
theorem Acz {p:PP} {t:List Int} (h:Bg p t=true):Ba8 p t:=by
 obtain ⟨hv,hp⟩:=Dl.1 h
 obtain ⟨h1,h2⟩:=Dl.1 hp
 have hV:=valid hv
 obtain ⟨_,_,hsz⟩:=Dl.1 hv
 have hat: ∀ {j:Nat} (h:j<t.length),∃k:Nat,t[j]=(k:Int)∧k<p.2.2.1.length:=fun {j} hj=>by
  have:=h2 j hj hj
  obtain ⟨k,hk⟩:=Int.eq_ofNat_of_zero_le this.1
  exact ⟨k,hk,by omega⟩
 refine ⟨hv,h1,?_,hV.few.2,hsz,hat,fun hi hj hij=>Bbc h2 _ _ hi hj hij⟩
 have h5:=Aw3 h2 (t.length-1) (by omega)
 obtain ⟨k,e,hk⟩:=hat (show t.length-1<t.length by omega)
 omega
theorem Ba8.in' {p:PP} {t:List Int} (h:Ba8 p t): ∀k∈t,0≤k∧k<p.2.1.size:=fun k hk=>by
 obtain ⟨j,hj,rfl⟩:=List.mem_iff_getElem.1 hk
 obtain ⟨kn,e,hkn⟩:=h.at' hj
 rw [h.size,e]
 omega
theorem Akn {p:PP} {t:List Int} (h:Bg p t=true):Bq (Ee p t)=true:=by
 have hs:=Acz h
 have hV:=valid hs.valid
 obtain ⟨hg,hnm,_⟩:=Dl.1 hs.valid
 obtain ⟨g1,g2,g3⟩:=Dl.1 hg
 obtain ⟨n1,n2⟩:=Dl.1 hnm
 have hsz:=Uv t hs.in'
 refine Dl.2 ⟨Dl.2 ⟨g1,?_,fun q hq=>?_⟩,Dl.2 ⟨⟨?_,?_⟩,fun j hj=>?_⟩,?_⟩
 ·show (t.map _).length≤8
  rw [List.length_map]
  have:=hs.few
  have:=hs.g8
  omega
 ·obtain ⟨k,hk,rfl⟩:=List.mem_map.1 hq
  obtain ⟨j,hj,rfl⟩:=List.mem_iff_getElem.1 hk
  obtain ⟨kn,e,hkn⟩:=hs.at' hj
  rw [e,Int.toNat_natCast,Aah hkn]
  exact g3 _ (List.getElem_mem hkn)
 ·show 1≤(Li p.2.1 t).size
  rw [hsz];exact hs.pos
 ·show (Li p.2.1 t).size≤8
  rw [hsz];have:=hs.few;have:=hs.g8;omega
 ·have hj:j<t.length:=by rw [←hsz];exact hj
  obtain ⟨kn,e,hkn⟩:=hs.at' hj
  obtain ⟨c,c1,c2,c3,c4⟩:=n2 kn (by rw [hs.size];exact hkn)
  refine ⟨c,?_,c2,c3,fun i hi=>?_⟩
  ·show (Li p.2.1 t)[j]?=some c
   rw [Atx t hs.in',List.getElem?_eq_getElem hj,e,Option.bind_some,Int.toNat_natCast,c1]
  ·show (Li p.2.1 t)[i]?≠some c
   have hi':i<t.length:=by omega
   obtain ⟨k2,e2,hk2⟩:=hs.at' hi'
   have:=hs.inc hi' hj hi
   rw [Atx t hs.in',List.getElem?_eq_getElem hi',e2,Option.bind_some,Int.toNat_natCast]
   exact c4 k2 (by omega)
 ·show (Li p.2.1 t).size=(t.map _).length
  rw [hsz,List.length_map]
theorem Acy {p:PP} {t:List Int} (hp:Cd p) (h:Bg p t=true):Cd (Ee p t):=by
 have hs:=Acz h
 have h1:=hs.few
 have h2:=hs.g8
 refine ⟨?_,?_,fun q hq=>?_⟩
 ·show (Li p.2.1 t).size≤4294967296
  rw [Uv t hs.in'];omega
 ·show (t.map _).length≤4294967296
  rw [List.length_map];omega
 ·obtain ⟨k,hk,rfl⟩:=List.mem_map.1 hq
  obtain ⟨j,hj,rfl⟩:=List.mem_iff_getElem.1 hk
  obtain ⟨kn,e,hkn⟩:=hs.at' hj
  rw [e,Int.toNat_natCast,Aah hkn]
  exact hp.2.2 _ (List.getElem_mem hkn)
theorem Axz {p:PP} {t:List Int} (h:Bg p t=true) {x:List Int} (hx:Gn p.1.toNat ((Ee p t).2.2.1.map some) x):Gn p.1.toNat (p.2.2.1.map some) x:=by
 refine Gen.mono (fun g hg=>?_) hx
 have hg:=Uq.1 hg
 obtain ⟨k,hk,rfl⟩:=List.mem_map.1 hg
 obtain ⟨j,hj,rfl⟩:=List.mem_iff_getElem.1 hk
 obtain ⟨kn,e,hkn⟩:=(Acz h).at' hj
 rw [e,Int.toNat_natCast,Aah hkn]
 exact Uq.2 (List.getElem_mem hkn)
theorem Anp {p:PP} {t:List Int} (hw:Gq p=true) (h:Bg p t=true):Gq (Ee p t)=true:=by
 have hv':=Akn h
 have hr:=Aed hv'
 refine Bool.and_eq_true_iff.2 ⟨hv',Classical.byContradiction fun hn=>?_⟩
 have hn:(Eu (Ee p t).2.2.1 (upto (Ee p t).1.toNat)).2.2=false:=by simpa using hn
 obtain ⟨h1,z,h2,h3⟩:=hr.big hn
 have h5:=Zc (l1:=z::(Eu (Ee p t).2.2.1 (upto (Ee p t).1.toNat)).1) (l2:=Ae5 p) (List.nodup_cons.2 ⟨h3,hr.nodup⟩) fun x hx=>by
  rcases List.mem_cons.1 hx with rfl|hx
  ·exact (Bdn hw).all rfl _ (Axz h h2)
  ·exact (Bdn hw).all rfl _ (Axz h (hr.gen x hx))
 have h6:=Bbn (Oo hw).1
 simp only [List.length_cons] at h5
 omega
theorem map_take {α β:Type} (f:α→β) {xs:List α} {j:Nat} (h:j<xs.length):(xs.take (j+1)).map f=(xs.take j).map f++ [f xs[j]]:=by
 rw [List.take_add_one,List.getElem?_eq_getElem h,List.map_append];rfl
theorem Aw0 (p:PP) (t:List Int) (h:Cd p∧Bg p t=true):fnW tab (look [(120,Ie)]) Ii Try.f72 (p,t,()) (fun (z:PP)=>z=Ee p t):=by
 obtain ⟨hp,hsub⟩:=h
 have hs:=Acz hsub
 refine Eq.mp (Ax4 p t _) ⟨rfl,rfl,rfl,rfl,?_⟩
 refine Ao t.length (fun v=>v.1) (fun j v=>v=((j:Int),p.1,p.2.1,p.2.2.1,0,ByteArray.empty,p.1,Li p.2.1 (t.take j),[],(t.take j).map fun k=>p.2.2.1.getD k.toNat [],())) rfl rfl ?_
 rintro j v K hj hi hR hK
 subst hR
 dsimp only
 have hlen:=hs.few
 have hg8:=hs.g8
 refine Br.dec (fun hl=>?_) fun hl=>?_
 ·have hl:j<t.length:=by omega
  obtain ⟨kn,hk,hkn⟩:=hs.at' hl
  have hkb:kn<p.2.1.size:=by rw [hs.size];exact hkn
  have hw:IntKind.i64.wrap ((kn:Int)+1)=(kn:Int)+1:=Bu (by have:=hs.g8;omega) (by have:=hs.g8;omega)
  have hsz:=Uv (b:=p.2.1) (t.take j) fun k hk'=>hs.in' k (List.mem_of_mem_take hk')
  have hex:(p.2.1.extract kn (kn+1)).size=1:=by rw [ByteArray.size_extract];omega
  refine ⟨_,Az hl,?_⟩
  rw [hk,hw]
  refine ⟨⟨by omega,by omega,by omega⟩,by rw [show ((kn:Int)+1).toNat=kn+1 by omega,Int.toNat_natCast,hex,hsz];have:=List.length_take_le j t;omega,_,Az hkn,_,if_pos (hp.2.2 _ (List.getElem_mem hkn)),rfl,rfl,?_,rfl,rfl,rfl,rfl,?_⟩
  ·show ((t.take j).map _).length+1≤4294967296
   rw [List.length_map];have:=List.length_take_le j t;have:=hs.g8;omega
  ·rw [Ap (by omega),show ((kn:Int)+1).toNat=kn+1 by omega,Int.toNat_natCast]
   refine hK hl _ rfl ?_
   rw [Aga _ hl,map_take _ hl,hk,Int.toNat_natCast,show ((kn:Int)+1).toNat=kn+1 by omega,Aah hkn]
 ·have:j=t.length:=by omega
  subst this
  rw [List.take_length,Bn]
  rfl
theorem Zw:Sound Try.prog 72 Ii:=
 Sound.mkS Ch (Ag Zu Ar) mixed Try.func72 (by kernel_rfl) (by kernel_rfl) fun x h=>Aw0 x.1 x.2.1 h
theorem Apd (p:PP) (t:List Int) (h:Cd p∧Bg p t=true):fnW tab (look [(121,Aei)]) Ka Try.f73 (p,t,()) (fun (z:PP)=>z=Ee p t):=by
 obtain ⟨hp,hsub⟩:=h
 have hs:=Acz hsub
 refine Eq.mp (Aqx p t _) ⟨rfl,rfl,rfl,rfl,?_⟩
 refine Ao t.length (fun v=>v.1) (fun j v=>v=((j:Int),p.1,p.2.1,p.2.2.1,0,ByteArray.empty,p.1,Li p.2.1 (t.take j),[],(t.take j).map fun k=>p.2.2.1.getD k.toNat [],())) rfl rfl ?_
 rintro j v K hj hi hR hK
 subst hR
 dsimp only
 have hlen:=hs.few
 have hg8:=hs.g8
 refine Br.dec (fun hl=>?_) fun hl=>?_
 ·have hl:j<t.length:=by omega
  obtain ⟨kn,hk,hkn⟩:=hs.at' hl
  have hkb:kn<p.2.1.size:=by rw [hs.size];exact hkn
  have hw:IntKind.i64.wrap ((kn:Int)+1)=(kn:Int)+1:=Bu (by have:=hs.g8;omega) (by have:=hs.g8;omega)
  have hsz:=Uv (b:=p.2.1) (t.take j) fun k hk'=>hs.in' k (List.mem_of_mem_take hk')
  have hex:(p.2.1.extract kn (kn+1)).size=1:=by rw [ByteArray.size_extract];omega
  refine ⟨_,Az hl,?_⟩
  rw [hk,hw]
  refine ⟨⟨by omega,by omega,by omega⟩,by rw [show ((kn:Int)+1).toNat=kn+1 by omega,Int.toNat_natCast,hex,hsz];have:=List.length_take_le j t;omega,_,Az hkn,_,if_pos (hp.2.2 _ (List.getElem_mem hkn)),rfl,rfl,?_,rfl,rfl,rfl,rfl,?_⟩
  ·show ((t.take j).map _).length+1≤4294967296
   rw [List.length_map];have:=List.length_take_le j t;have:=hs.g8;omega
  ·rw [Ap (by omega),show ((kn:Int)+1).toNat=kn+1 by omega,Int.toNat_natCast]
   refine hK hl _ rfl ?_
   rw [Aga _ hl,map_take _ hl,hk,Int.toNat_natCast,show ((kn:Int)+1).toNat=kn+1 by omega,Aah hkn]
 ·have:j=t.length:=by omega
  subst this
  rw [List.take_length,Bn]
  rfl
theorem Ag8:Sound Try.prog 73 Ka:=
 Sound.mkS Ch (Ag Aq0 Ar) mixed Try.func73 (by kernel_rfl) (by kernel_rfl) fun x h=>Apd x.1 x.2.1 h
theorem Apc (n:Int) (str:ByteArray) (g:List (List Int)) (t:List Int) (h:Cd (n,str,g,())∧Bg (n,str,g,()) t=true):
  Lf Rr (look [(121,Ku)]) Jz Try.f73 (n,str,g,t,()) (fun (z:(Int×ByteArray×List (List Int)×Unit)×Unit)=>z=(((Ee (n,str,g,()) t).1,(Ee (n,str,g,()) t).2.1,(Ee (n,str,g,()) t).2.2.1,()),())):=by
 obtain ⟨hp,hsub⟩:=h
 have hs:=Acz hsub
 have hsize:=hs.size
 dsimp only at hsize
 refine Eq.mp (Aqw n str g t _) ⟨rfl,rfl,rfl,rfl,?_⟩
 refine Ao t.length (fun v=>v.1) (fun j v=>v=((j:Int),n,str,g,0,ByteArray.empty,n,Li str (t.take j),[],(t.take j).map fun k=>g.getD k.toNat [],())) rfl rfl ?_
 rintro j v K hj hi hR hK
 subst hR
 dsimp only
 have hlen:=hs.few
 have hg8:=hs.g8
 dsimp only at hlen hg8
 refine Br.dec (fun hl=>?_) fun hl=>?_
 ·have hl:j<t.length:=by omega
  obtain ⟨kn,hk,hkn⟩:=hs.at' hl
  dsimp only at hkn
  have hkb:kn<str.size:=by omega
  have hw:IntKind.i64.wrap ((kn:Int)+1)=(kn:Int)+1:=Bu (by omega) (by omega)
  have hsz:=Uv (b:=str) (t.take j) fun k hk'=>hs.in' k (List.mem_of_mem_take hk')
  have hex:(str.extract kn (kn+1)).size=1:=by rw [ByteArray.size_extract];omega
  have hsh:short g[kn]:=hp.2.2 _ (List.getElem_mem hkn)
  have hidx:idx g (kn:Int)=some g[kn]:=Az hkn
  have hcl:Ku.fn (g[kn],())=some ((g[kn],()),()):=if_pos hsh
  have hmax:((t.take j).map fun k=>g.getD k.toNat []).length+(List.take 1 (List.drop 0 [List.take (g[kn]).length (List.drop 0 g[kn])])).length≤4294967296:=by
   show ((t.take j).map _).length+1≤4294967296
   rw [List.length_map];have:=List.length_take_le j t;omega
  refine ⟨_,Az hl,?_⟩
  rw [hk,hw]
  refine ⟨⟨by omega,by omega,by omega⟩,by rw [show ((kn:Int)+1).toNat=kn+1 by omega,Int.toNat_natCast,hex,hsz];have:=List.length_take_le j t;omega,_,hidx,_,hcl,rfl,rfl,hmax,⟨rfl,rfl,rfl,rfl,?_⟩,?_⟩
  ·rw [Ap (by omega),show ((kn:Int)+1).toNat=kn+1 by omega,Int.toNat_natCast]
   refine hK hl _ rfl ?_
   rw [Aga _ hl,map_take _ hl,hk,Int.toNat_natCast,show ((kn:Int)+1).toNat=kn+1 by omega,Aah hkn,Bn]
   rfl
  ·repeat' (first|exact ⟨rfl,rfl⟩|exact rfl|exact hmax|refine ⟨_,hidx,?_⟩|refine ⟨_,hcl,?_⟩|refine ⟨?_,?_⟩)
 ·have:j=t.length:=by omega
  subst this
  rw [List.take_length,Bn]
  rfl
theorem Ag7:Bp Try.prog 73 Jz:=
 Bp.mkM Rl (Fu Apy Ar) mixed Try.func73 (by kernel_rfl) (by kernel_rfl) fun x h=>Apc x.1 x.2.1 x.2.2.1 x.2.2.2.1 h
theorem Kt {p:PP} {t:List Int} :Mh p t=true↔Gq p=true∧Bg p t=true:=by unfold Mh;rw [Bool.and_eq_true]
theorem Atc (p:PP) (t:List Int) (h:Cd p∧short t):fnW tab (look [(61,Iy),(117,Du),(73,Ka)]) Hu Try.f66 (p,t,()) (fun (z:Option (Option XP×List Int×Option XP×Unit)×Bool×Unit)=>z=(if Mh p t=true then (some (Ajg p t),true,()) else (none,false,()))):=by
 obtain ⟨hp,ht⟩:=h
 by_cases hw:Gq p=true
 ·have he:Iy.fn ((p.1,p.2.1,p.2.2.1,()),())=some (some (Yy p),true,()):=(if_pos hp).trans (congrArg some (if_pos hw))
  refine Eq.mp (Ahg p t _) ⟨_,he,fun hb=>by simp at hb,fun _=>⟨_,if_pos ⟨hp,ht⟩,Br.of (fun hm=>?_) fun hm=>?_⟩⟩
  ·have hm: ¬Bg p t=true:=Dc hm
   rw [if_neg fun h=>hm (Kt.1 h).2]
  have hm:Bg p t=true:=by simpa using hm
  have hws:=Anp hw hm
  have hes:Iy.fn (Ee p t,())=some (some (Yy (Ee p t)),true,()):=(if_pos (Acy hp hm)).trans (congrArg some (if_pos hws))
  rw [if_pos (Kt.2 ⟨hw,hm⟩)]
  exact ⟨_,if_pos ⟨hp,hm⟩,_,hes,rfl⟩
 ·have he:Iy.fn ((p.1,p.2.1,p.2.2.1,()),())=some (none,false,()):=(if_pos hp).trans (congrArg some (if_neg hw))
  rw [if_neg fun h=>hw (Kt.1 h).1]
  exact Eq.mp (Ahg p t _) ⟨_,he,fun _=>rfl,fun hb=>by simp at hb⟩
theorem Ahu:Sound Try.prog 66 Hu:=
 Sound.mkS Ch (Ag Als (Ag Zv (Ag Ag8 Ar))) mixed Try.func66 (by kernel_rfl) (by kernel_rfl) fun x h=>Atc x.1 x.2.1 h
theorem Be6 (p:PP) (t:List Int) (h:Cd p∧short t):fnW tab (look [(57,Ij),(116,Du),(72,Ii)]) Zr Try.f65 (p,t,()) (fun (z:SS×SS×Bool×Unit)=>z=(if Mh p t=true then (Dr p.2.2.1 (upto p.1.toNat),Dr (Ee p t).2.2.1 (upto p.1.toNat),true,()) else ((El p).1,(El p).1,false,()))):=by
 obtain ⟨hp,ht⟩:=h
 refine Eq.mp (Bel p t _) ⟨_,if_pos hp,?_⟩
 have hz: ∀(x:SS),((x.1,x.2.1,x.2.2.1,x.2.2.2.1,()),(x.1,x.2.1,x.2.2.1,x.2.2.2.1,()),false,())=(x,x,false,()):=fun x=>rfl
 dsimp only
 by_cases hw:Gq p=true
 ·have hv:=(Oo hw).1
  have e1:El (p.1,p.2.1,p.2.2.1,())=(Dr p.2.2.1 (upto p.1.toNat),true,()):=(if_pos hv).trans (by rw [←hw])
  rw [e1]
  refine ⟨fun hb=>by simp at hb,fun _=>⟨_,if_pos ⟨hp,ht⟩,Br.of (fun hm=>?_) fun hm=>?_⟩⟩
  ·have hm: ¬Bg p t=true:=Dc hm
   rw [if_neg fun h=>hm (Kt.1 h).2]
   exact ⟨⟨rfl,rfl⟩,rfl⟩
  have hm:Bg p t=true:=by simpa using hm
  rw [if_pos (Kt.2 ⟨hw,hm⟩)]
  have hes:Ij.fn (Ee p t,())=some (Dr (Ee p t).2.2.1 (upto p.1.toNat),true,()):=Akl (p:=Ee p t) (Acy hp hm) (Anp hw hm)
  exact ⟨_,if_pos ⟨hp,hm⟩,_,hes,⟨rfl,rfl⟩,rfl⟩
 ·have hwf:(El (p.1,p.2.1,p.2.2.1,())).2.1=false:=by
   show (El p).2.1=false
   unfold El
   split
   ·exact Bool.not_eq_true _|>.mp hw
   ·rfl
  rw [hwf,if_neg fun h=>hw (Kt.1 h).1]
  exact ⟨fun _=>⟨⟨rfl,rfl⟩,rfl⟩,fun hb=>by simp at hb⟩
theorem Awn:Sound Try.prog 65 Zr:=
 Sound.mkS Ch (Ag Akh (Ag Zx (Ag Zw Ar))) mixed Try.func65 (by kernel_rfl) (by kernel_rfl) fun x h=>Be6 x.1 x.2.1 h
theorem Ayv (n:Int) (str:ByteArray) (g:List (List Int)) (t:List Int) (h:Cd (n,str,g,())∧short t):
  Lf Rr (look [(66,Hu),(73,Jz)]) Nk Try.f29 (n,str,g,t,()) (fun (z:(Int×ByteArray×List (List Int)×Bool×Unit)×Unit)=>z=(((Jo (n,str,g,()) t).1,(Jo (n,str,g,()) t).2.1,(Jo (n,str,g,()) t).2.2.1,Mh (n,str,g,()) t,()),())):=by
 unfold Jo
 by_cases hw:Mh (n,str,g,()) t=true
 ·have he:Hu.fn ((n,str,g,()),t,())=some (some (Ajg (n,str,g,()) t),true,()):=(if_pos h).trans (congrArg some (if_pos hw))
  rw [if_pos hw,hw]
  refine Eq.mp (Anr n str g t _) ⟨_,he,fun hb=>by simp at hb,fun _=>⟨_,if_pos ⟨h.1,(Kt.1 hw).2⟩,?_⟩⟩
  dsimp only
  rw [Bn]
 ·have he:Hu.fn ((n,str,g,()),t,())=some (none,false,()):=(if_pos h).trans (congrArg some (if_neg hw))
  rw [if_neg hw,Bool.not_eq_true _|>.mp hw]
  exact Eq.mp (Anr n str g t _) ⟨_,he,fun _=>rfl,fun hb=>by simp at hb⟩
theorem Alu:Bp Try.prog 29 Nk:=
 Bp.mkM Rl (Ag Ahu (Fu Ag7 Ar)) mixed Try.func29 (by kernel_rfl) (by kernel_rfl) fun x h=>Ayv x.1 x.2.1 x.2.2.1 x.2.2.2.1 h
theorem Az2 (p:PP) (t:List Int) (h:Cd p∧short t):fnW tab (look [(65,Zr),(72,Ii)]) Qh Try.f28 (p,t,()) (fun (z:(Int×ByteArray×List (List Int)×Unit)×Bool×Unit)=>z=(Jo p t,Mh p t,())):=by
 unfold Jo
 by_cases hw:Mh p t=true
 ·have he:Zr.fn ((p.1,p.2.1,p.2.2.1,()),t,())=some (Dr p.2.2.1 (upto p.1.toNat),Dr (Ee p t).2.2.1 (upto p.1.toNat),true,()):=(if_pos h).trans (congrArg some (if_pos hw))
  rw [if_pos hw,hw]
  exact Eq.mp (Ans p t _) ⟨_,he,fun hb=>by simp at hb,fun _=>⟨_,if_pos ⟨h.1,(Kt.1 hw).2⟩,rfl⟩⟩
 ·have he:Zr.fn ((p.1,p.2.1,p.2.2.1,()),t,())=some ((El p).1,(El p).1,false,()):=(if_pos h).trans (congrArg some (if_neg hw))
  rw [if_neg hw,Bool.not_eq_true _|>.mp hw]
  exact Eq.mp (Ans p t _) ⟨_,he,fun _=>rfl,fun hb=>by simp at hb⟩
theorem Aly:Sound Try.prog 28 Qh:=
 Sound.mkS Ch (Ag Awn (Ag Zw Ar)) mixed Try.func28 (by kernel_rfl) (by kernel_rfl) fun x h=>Az2 x.1 x.2.1 h
end Go.Proofs.Ytebabhocakedaaa

namespace Go.Proofs.Ytebabhocakedaaa
open Go.RowKit
noncomputable abbrev Ig:Spec:=mkS (.pair Cr (.pair tI .unit)) tI false true (fun x=>Cd x.1∧low x.2.1∧low (x.2.1+Ba x.1.2.2.1)) (fun x=>Ff x.1.2.2.1 x.2.1)
theorem Aqn (p:Int×ByteArray×List (List Int)×Unit) (k:Int) (P:Int→Prop):(∃(y3:Int),Ul.fn (p.2.2.1,k,())=some y3∧Br (decide (y3<(0:Int))) (P (-1:Int)) (P y3))=fnW tab (look [(75,Ul)]) Ig Try.f32 (p,k,()) P:=by kernel_rfl
theorem Bc5 (p:Int×ByteArray×List (List Int)×Unit) (a:List Int) (P:Bool→Prop):(Br (decide ((↑a.length:Int)>(1048576:Int))) (P true)
 (∃(y3:Int),
 Anj.fn ((p.1,p.2.1,p.2.2.1,()),(1048576:Int),())=some y3∧
 Br (decide (y3<(0:Int))) (P true)
 (∃(y4:(Int×ByteArray×List (List Int)×PUnit)×PUnit),
 Hv.fn (p.1,p.2.1,p.2.2.1,())=some y4∧
 ∃(y5:(List Int×PUnit)×PUnit),
 Ox.fn (a,())=some y5∧
 ∃(y6:(Int×ByteArray×List (List Int)×PUnit)×Bool×PUnit),
 Qh.fn ((y4.1.1,y4.1.2.1,List.take y4.1.2.2.1.length (List.drop (0:Nat) y4.1.2.2.1),()),List.take y5.1.1.length (List.drop (0:Nat) y5.1.1),())=
 some y6∧
 ∃(y7:(Int×ByteArray×List (List Int)×PUnit)×PUnit),
 Hv.fn (p.1,p.2.1,p.2.2.1,())=some y7∧
 ∃(y8:(List Int×PUnit)×PUnit),
 Ox.fn (a,())=some y8∧
 ∃(y9:(Int×ByteArray×List (List Int)×Bool×PUnit)×PUnit),
 Nk.fn
 (y7.1.1,y7.1.2.1,List.take y7.1.2.2.1.length (List.drop (0:Nat) y7.1.2.2.1),List.take y8.1.1.length (List.drop (0:Nat) y8.1.1),())=
 some y9∧
 ∃(y10:Bool),
 Aej.fn ((y9.1.1,y9.1.2.1,List.take y9.1.2.2.1.length (List.drop (0:Nat) y9.1.2.2.1),()),(y6.1.1,y6.1.2.1,y6.1.2.2.1,()),())=
 some y10∧
 Br (!y10) (P false)
 (Br (!y9.1.2.2.2.1==y6.2.1) (P false)
 (∃(y11:Int×ByteArray×List (List Int)×PUnit),
 Ank.fn ((p.1,p.2.1,p.2.2.1,()),())=some y11∧
 ∃(y12:Bool),
 Aej.fn ((y7.1.1,y7.1.2.1,List.take y7.1.2.2.1.length (List.drop (0:Nat) y7.1.2.2.1),()),y11,())=some y12∧
 Br (!y12) (P false)
 (∃(y13:(List Int×PUnit)×PUnit),
 Ox.fn (a,())=some y13∧
 ∃(y14:Bool),
 Dh.fn (List.take y8.1.1.length (List.drop (0:Nat) y8.1.1),List.take y13.1.1.length (List.drop (0:Nat) y13.1.1),())=
 some y14∧
 Br (!y14) (P false)
 ((0:Nat)=(0:Nat)∧
 y7.1.2.2.1.length=y7.1.2.2.1.length∧
 ∃(y15:(Int×PUnit)×List (List Int)×PUnit),
 Ih.fn (y7.1.1,y7.1.2.1,y7.1.2.2.1,(1:Int),())=some y15∧
 (y15.2.1.length=y7.1.2.2.1.length∧y7.1.2.2.1.length=y7.1.2.2.1.length)∧
 (0:Nat)=(0:Nat)∧
 y8.1.1.length=y8.1.1.length∧
 ∃(y16:(Int×PUnit)×List Int×PUnit),
 Py.fn (y8.1.1,y15.1.1,())=some y16∧
 (y16.2.1.length=y8.1.1.length∧y8.1.1.length=y8.1.1.length)∧
 Br (decide (y16.1.1<(0:Int))) (P false)
 (∃(y17:Bool),
 Aej.fn
 ((y9.1.1,y9.1.2.1,List.take y9.1.2.2.1.length (List.drop (0:Nat) y9.1.2.2.1),()),
 (y6.1.1,y6.1.2.1,y6.1.2.2.1,()),())=
 some y17∧
 Br (!y17) (P false)
 (Br (!y9.1.2.2.2.1==y6.2.1) (P false)
 ((0:Nat)=(0:Nat)∧
 y9.1.2.2.1.length=y9.1.2.2.1.length∧
 ∃(y18:(Int×PUnit)×List (List Int)×PUnit),
 Ih.fn (y9.1.1,y9.1.2.1,y9.1.2.2.1,(1:Int),())=some y18∧
 (y18.2.1.length=y9.1.2.2.1.length∧y9.1.2.2.1.length=y9.1.2.2.1.length)∧
 ∃(y19:Int),
 Ig.fn
 ((y9.1.1,y9.1.2.1,List.take y9.1.2.2.1.length (List.drop (0:Nat) y18.2.1),
 ()),
 (1:Int),())=
 some y19∧
 Br (decide (y19<(0:Int))) (P false)
 (Br (y19 !=y18.1.1) (P false)
 (∃(y20:(Int×ByteArray×List (List Int)×PUnit)×PUnit),
 Hv.fn (p.1,p.2.1,p.2.2.1,())=some y20∧
 ∃(y21:(List Int×PUnit)×PUnit),
 Ox.fn (a,())=some y21∧
 ∃(y22:(Int×ByteArray×List (List Int)×Bool×PUnit)×PUnit),
 Nk.fn
 (y20.1.1,y20.1.2.1,
 List.take y20.1.2.2.1.length (List.drop (0:Nat) y20.1.2.2.1),
 List.take y21.1.1.length (List.drop (0:Nat) y21.1.1),())=
 some y22∧
 ∃(y23:Bool),
 Aej.fn
 ((y22.1.1,y22.1.2.1,
 List.take y22.1.2.2.1.length
 (List.drop (0:Nat) y22.1.2.2.1),
 ()),
 (y6.1.1,y6.1.2.1,y6.1.2.2.1,()),())=
 some y23∧
 Br (!y23) (P false)
 (Br (!y22.1.2.2.2.1==y6.2.1) (P false)
 (∃(y24:Int),
 Ig.fn
 ((y9.1.1,y9.1.2.1,
 List.take y9.1.2.2.1.length
 (List.drop (0:Nat) y18.2.1),
 ()),
 (1:Int),())=
 some y24∧
 Br (decide (y24<(0:Int))) (P false)
 (Br (y24 !=y18.1.1) (P false) (P true))))))))))))))))=fnW tab (look [(15,Anj),(28,Qh),(29,Nk),(17,Rt.b Ank Hv),(18,Rt.b Ah8 Ox),(20,Aej),(21,Dh),(30,Ih),(31,Py),(32,Ig)]) Afw Try.f7 (p,a,()) P:=by kernel_rfl
theorem Aj6: ∀(xs:List (List Int)) (k:Int),0≤k→Ff xs k<0→Ff xs k= -1
 | [],k,h0,h=>by simp only [Ff] at h;omega
 |r::rs,k,h0,h=>by
  simp only [Ff] at h⊢
  split
  ·rfl
  ·rename_i h1
   rw [if_neg h1] at h
   exact Aj6 rs _ (by omega) h
theorem Ap3 (p:PP) (k:Int) (h:Cd p∧low k∧low (k+Ba p.2.2.1)):fnW tab (look [(75,Ul)]) Ig Try.f32 (p,k,()) (fun (z:Int)=>z=Ff p.2.2.1 k):=by
 refine Eq.mp (Aqn p k _) ⟨_,if_pos ⟨h.1.2,h.2⟩,Br.dec (fun hn=>?_) fun hn=>?_⟩
 ·have hn:Ff p.2.2.1 k<0:=hn
  exact (Aj6 _ _ h.2.1.1 hn).symm
 ·rfl
theorem Ag1:Sound Try.prog 32 Ig:=
 Sound.mkS Ch (Ag Aq1 Ar) mixed Try.func32 (by kernel_rfl) (by kernel_rfl) fun x h=>Ap3 x.1 x.2.1 h
theorem Aww {p:PP} {t:List Int} (hp:Cd p):Cd (Jo p t):=by
 unfold Jo
 split
 ·rename_i h;exact Acy hp (Kt.1 h).2
 ·exact ⟨by simp [ByteArray.size_empty],by simp,fun r hr=>by cases hr⟩
theorem Bbp {p:PP} {t:List Int} :low (1+(Ba (Jo p t).2.2.1:Nat)):=by
 unfold Jo
 split
 ·rename_i h
  have hm:=(Kt.1 h).2
  have hs:=Acz hm
  have hV:=valid (Akn hm)
  have h1:=Ajh (n:=20) (Ee p t).2.2.1 fun q hq=>by have:=hV.len q hq;have:=hV.n;omega
  have h2:=hV.few
  have h3:Ba (Ee p t).2.2.1≤160:=Nat.le_trans h1 (by omega)
  exact ⟨by omega,by omega⟩
 ·exact ⟨by simp [Ba],by simp [Ba]⟩
theorem Bb6 (p:PP) (a:List Int) (h:Cd p∧short a):fnW tab (look [(15,Anj),(28,Qh),(29,Nk),(17,Rt.b Ank Hv),(18,Rt.b Ah8 Ox),(20,Aej),(21,Dh),(30,Ih),(31,Py),(32,Ig)]) Afw Try.f7 (p,a,()) (fun (z:Bool)=>z=true):=by
 have h0:Cd (p.1,p.2.1,p.2.2.1,()):=h.1
 have h1:short a:=h.2
 refine Eq.mp (Bc5 p a _) ?_
 refine Br.dec (fun _=>rfl) fun hl_a=>?_
 refine ⟨_,if_pos ⟨h0,Atj⟩,Br.dec (fun _=>rfl) fun hs_p=>?_⟩
 have hz_p:(((Ba p.2.2.1:Nat):Nat):Int)≤(1048576)-(Za (p.1,p.2.1,p.2.2.1,()) (1048576))∧roomy (Za (p.1,p.2.1,p.2.2.1,()) (1048576)):=Bbr Atj hs_p
 have hy_p:=hz_p.1
 have hr_p:0≤Za (p.1,p.2.1,p.2.2.1,()) (1048576)∧Za (p.1,p.2.1,p.2.2.1,()) (1048576)≤4294967296:=hz_p.2
 have l0:low (1+(Ba p.2.2.1:Nat)):=⟨by omega,by omega⟩
 have l1:low (1+(Ba p.2.2.1:Nat)+(a.length:Nat)):=⟨by omega,by omega⟩
 refine ⟨_,if_pos h0,_,if_pos h1,?_⟩
 try simp only [Bn]
 refine ⟨_,if_pos ⟨h0,h1⟩,_,if_pos h0,_,if_pos h1,?_⟩
 try simp only [Bn]
 have hg0:Cd (Jo p a):=Aww h0
 have hlow0:low (1+(Ba (Jo p a).2.2.1:Nat)):=Bbp
 generalize he0:Jo p a=g0 at hg0 hlow0
 generalize he1:Mh p a=g1
 obtain ⟨g0a,g0b,g0c,⟨⟩⟩:=g0
 refine ⟨_,if_pos ⟨h0,h1⟩,?_⟩
 simp only [Bn,he0,he1]
 refine ⟨_,if_pos hg0,⟨fun he=>absurd (Vt _) (Dc he),fun _=>?_⟩⟩
 refine ⟨fun he=>Aey he,fun _=>?_⟩
 refine ⟨_,if_pos h0,_,if_pos h0,⟨fun he=>absurd (Vt _) (Dc he),fun _=>?_⟩⟩
 refine ⟨_,if_pos h1,?_⟩
 try simp only [Bn]
 refine ⟨_,if_pos h1,⟨fun he=>absurd (Aff _) (Dc he),fun _=>?_⟩⟩
 refine ⟨trivial,trivial,_,if_pos ⟨h0.2,Aan,l0⟩,⟨Iv _ _,trivial⟩,trivial,trivial,_,if_pos ⟨h1,l0⟩,⟨Oh _ _,trivial⟩,Br.dec (fun hn=>absurd l1.1 (Int.not_le.2 hn)) fun _=>?_⟩
 refine ⟨_,if_pos hg0,⟨fun he=>absurd (Vt _) (Dc he),fun _=>?_⟩⟩
 refine ⟨fun he=>Aey he,fun _=>?_⟩
 have m0:low (1+(Ba g0c:Nat)):=hlow0
 refine ⟨trivial,trivial,_,if_pos ⟨hg0.2,Aan,m0⟩,⟨Iv _ _,trivial⟩,?_⟩
 simp only [Am8]
 have hm0: ∀k,Cd (g0a,g0b,Ck k g0c,()):=fun k=>⟨hg0.1,Alq hg0.2 k⟩
 refine ⟨_,if_pos ⟨hm0 _,Aan,by rw [Tc];exact m0⟩,?_⟩
 simp only [Rc _ _ (Aan).1]
 refine Br.dec (fun hn=>by omega) fun _=>⟨fun he=>by simp at he,fun _=>?_⟩
 refine ⟨_,if_pos h0,_,if_pos h1,?_⟩
 try simp only [Bn]
 refine ⟨_,if_pos ⟨h0,h1⟩,?_⟩
 simp only [Bn,he0,he1]
 refine ⟨_,if_pos hg0,⟨fun he=>absurd (Vt _) (Dc he),fun _=>?_⟩⟩
 refine ⟨fun he=>Aey he,fun _=>?_⟩
 refine ⟨_,if_pos ⟨hm0 _,Aan,by rw [Tc];exact m0⟩,?_⟩
 simp only [Rc _ _ (Aan).1]
 exact Br.dec (fun hn=>by omega) fun _=>⟨fun he=>by simp at he,fun _=>trivial⟩
theorem Aq2:Sound Try.prog 7 Afw:=
 Sound.mkS Ch (Ag Azj (Ag Aly (Fu Alu (Arp Azk Ahv (Arp Ano Akj (Ag Azf (Ag Ann (Fu Ag4 (Fu Aha (Ag Ag1 Ar)))))))))) mixed Try.func7 (by kernel_rfl) (by kernel_rfl) fun x h=>Bb6 x.1 x.2.1 h
end Go.Proofs.Ytebabhocakedaaa
