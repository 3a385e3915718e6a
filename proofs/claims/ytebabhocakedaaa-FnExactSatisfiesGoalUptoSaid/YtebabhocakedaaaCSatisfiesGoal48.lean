/-
  Part 49 of the proof that the statement FnExactSatisfiesGoal holds.
-/
import Derived.Test.YtebabhocakedaaaCSatisfiesGoal47
namespace Go.Proofs.Ytebabhocakedaaa
open Go.RowKit
theorem Ayh (p:Int×ByteArray×List (List Int)×Unit) (P:(Option (PP×List (List Int)×List Int×(ByteArray→Option Int)×List Int×List Int×List (List Int)×Unit)×Bool×Unit)→Prop):(∃(y2:Int),
 Jn.fn ((p.1,p.2.1,p.2.2.1,()),())=some y2∧
 ∃(y3:Bool),
 Bg.fn (y2,(1:Int),(3000:Int),())=some y3∧
 Br (!y3) (P (none,false,()))
 (∃(y4:List Int),
 Lg.fn (p.1,())=some y4∧
 ∃(y5:ByteArray),
 Df.fn (y4,())=some y5∧
 (∃(y6:List Int),
 Jl.fn ((↑p.2.2.1.length:Int),())=some y6∧
 (0:Nat)=(0:Nat)∧
 (1:Nat)= [y4].length∧
 (0:Nat)=(0:Nat)∧
 (1:Nat)= [(0:Int)].length∧
 (0:Nat)=(0:Nat)∧
 (1:Nat)= [(0:Int)].length∧
 (0:Nat)=(0:Nat)∧
 (1:Nat)= [(0:Int)].length∧
 (0:Nat)=(0:Nat)∧
 (0:Nat)=([]:List Int).length∧
 Ch
 (fun
 (v7:
 Int×
 Int×
 ByteArray×
 List (List Int)×
 List (List Int)×List Int×(ByteArray→Option Int)×List Int×List Int×Int×ByteArray×List (List Int)×List (List Int)×PUnit)
 (k8:
 Int×
 Int×
 ByteArray×
 List (List Int)×
 List (List Int)×
 List Int×(ByteArray→Option Int)×List Int×List Int×Int×ByteArray×List (List Int)×List (List Int)×PUnit→
 Prop)=>
 Br (decide (v7.1<(↑v7.2.2.2.2.1.length:Int)))
 (((0:Int)≤v7.1∧v7.1<(↑v7.2.2.2.2.1.length:Int))∧
 ∃(y9:List Int),
 v7.2.2.2.2.1[(0:Nat)+v7.1.toNat]?=some y9∧
 ∃(y10:List (List Int)),
 Aa3.fn ((v7.2.1,v7.2.2.1,v7.2.2.2.1,()),y9,())=some y10∧
 (0:Nat)=(0:Nat)∧
 (0:Nat)=([]:List Int).length∧
 (0:Nat)=(0:Nat)∧
 v7.2.2.2.2.1.length=v7.2.2.2.2.1.length∧
 (0:Nat)=(0:Nat)∧
 v7.2.2.2.2.2.1.length=v7.2.2.2.2.2.1.length∧
 (0:Nat)=(0:Nat)∧
 v7.2.2.2.2.2.2.2.1.length=v7.2.2.2.2.2.2.2.1.length∧
 (0:Nat)=(0:Nat)∧
 v7.2.2.2.2.2.2.2.2.1.length=v7.2.2.2.2.2.2.2.2.1.length∧
 (0:Nat)=(0:Nat)∧
 v7.2.2.2.2.2.2.2.2.2.2.2.2.1.length=v7.2.2.2.2.2.2.2.2.2.2.2.2.1.length∧
 Ch
 (fun
 (v11:
 Int×
 Int×
 ByteArray×
 List (List Int)×
 List Int×
 List (List Int)×
 List Int×
 (ByteArray→Option Int)×
 List Int×List Int×Int×ByteArray×List (List Int)×List (List Int)×PUnit)
 (k12:
 Int×
 Int×
 ByteArray×
 List (List Int)×
 List Int×
 List (List Int)×
 List Int×
 (ByteArray→Option Int)×
 List Int×List Int×Int×ByteArray×List (List Int)×List (List Int)×PUnit→
 Prop)=>
 Br (decide (v11.1<(↑y10.length:Int)))
 (∃(y13:List Int),
 idx y10 v11.1=some y13∧
 ∃(y14:ByteArray),
 Df.fn (y13,())=some y14∧
 Br (!(v11.2.2.2.2.2.2.2.1 y14).isSome)
 (∃(y15:Int),
 Aa2.fn
 (List.take v11.2.2.2.2.2.1.length (List.drop ((0:Nat)) v11.2.2.2.2.2.1),())=
 some y15∧
 (0:Nat)=(0:Nat)∧
 v11.2.2.2.2.2.1.length=v11.2.2.2.2.2.1.length∧
 v11.2.2.2.2.2.1.length+(List.take (1:Nat) (List.drop (0:Nat) [y13])).length≤
 As∧
 ((0:Int)≤v7.1∧v7.1<(↑v11.2.2.2.2.2.2.1.length:Int))∧
 ∃(y16:Int),
 v11.2.2.2.2.2.2.1[(0:Nat)+v7.1.toNat]?=some y16∧
 (0:Nat)=(0:Nat)∧
 v11.2.2.2.2.2.2.1.length=v11.2.2.2.2.2.2.1.length∧
 v11.2.2.2.2.2.2.1.length+ [IntKind.i64.wrap (y16+(1:Int))].length≤
 As∧
 (0:Nat)=(0:Nat)∧
 v11.2.2.2.2.2.2.2.2.1.length=
 v11.2.2.2.2.2.2.2.2.1.length∧
 v11.2.2.2.2.2.2.2.2.1.length+
 (List.take (1:Nat) (List.drop (0:Nat) [v7.1])).length≤
 As∧
 ∃(y17:Int),
 idx y6 v11.1=some y17∧
 (0:Nat)=(0:Nat)∧
 v11.2.2.2.2.2.2.2.2.2.1.length=
 v11.2.2.2.2.2.2.2.2.2.1.length∧
 v11.2.2.2.2.2.2.2.2.2.1.length+ [y17].length≤
 As∧
 (0:Nat)=(0:Nat)∧
 v11.2.2.2.2.1.length=v11.2.2.2.2.1.length∧
 v11.2.2.2.2.1.length+
 (List.take (1:Nat)
 (List.drop (0:Nat) [y15])).length≤
 As∧
 (0:Nat)=(0:Nat)∧
 (v11.2.2.2.2.1++
 List.take (1:Nat)
 (List.drop (0:Nat) [y15])).length=
 (v11.2.2.2.2.1++
 List.take (1:Nat)
 (List.drop (0:Nat) [y15])).length∧
 (0:Nat)=(0:Nat)∧
 (v11.2.2.2.2.2.1++
 List.take (1:Nat)
 (List.drop (0:Nat) [y13])).length=
 (v11.2.2.2.2.2.1++
 List.take (1:Nat)
 (List.drop (0:Nat) [y13])).length∧
 (0:Nat)=(0:Nat)∧
 (v11.2.2.2.2.2.2.1++
 [IntKind.i64.wrap
 (y16+(1:Int))]).length=
 (v11.2.2.2.2.2.2.1++
 [IntKind.i64.wrap
 (y16+(1:Int))]).length∧
 (0:Nat)=(0:Nat)∧
 (v11.2.2.2.2.2.2.2.2.1++
 List.take (1:Nat)
 (List.drop (0:Nat)
 [v7.1])).length=
 (v11.2.2.2.2.2.2.2.2.1++
 List.take (1:Nat)
 (List.drop (0:Nat)
 [v7.1])).length∧
 (0:Nat)=(0:Nat)∧
 (v11.2.2.2.2.2.2.2.2.2.1++
 [y17]).length=
 (v11.2.2.2.2.2.2.2.2.2.1++
 [y17]).length∧
 (0:Nat)=(0:Nat)∧
 v11.2.2.2.2.2.2.2.2.2.2.2.2.2.1.length=
 v11.2.2.2.2.2.2.2.2.2.2.2.2.2.1.length∧
 k12
 (IntKind.i64.wrap
 (v11.1+(1:Int)),
 v11.2.1,v11.2.2.1,
 v11.2.2.2.1,
 v11.2.2.2.2.1++
 List.take (1:Nat)
 (List.drop (0:Nat)
 [y15]),
 v11.2.2.2.2.2.1++
 List.take (1:Nat)
 (List.drop (0:Nat)
 [y13]),
 v11.2.2.2.2.2.2.1++
 [IntKind.i64.wrap
 (y16+(1:Int))],
 El
 v11.2.2.2.2.2.2.2.1
 y14 y15,
 v11.2.2.2.2.2.2.2.2.1++
 List.take (1:Nat)
 (List.drop (0:Nat)
 [v7.1]),
 v11.2.2.2.2.2.2.2.2.2.1++
 [y17],
 v11.2.2.2.2.2.2.2.2.2.2.1,
 v11.2.2.2.2.2.2.2.2.2.2.2.1,
 v11.2.2.2.2.2.2.2.2.2.2.2.2.1,
 v11.2.2.2.2.2.2.2.2.2.2.2.2.2.1,
 ()))
 ((0:Nat)=(0:Nat)∧
 v11.2.2.2.2.1.length=v11.2.2.2.2.1.length∧
 v11.2.2.2.2.1.length+
 (List.take (1:Nat)
 (List.drop (0:Nat)
 [(v11.2.2.2.2.2.2.2.1 y14).getD (Int.ofNat (nat_lit 0))])).length≤
 As∧
 (0:Nat)=(0:Nat)∧
 (v11.2.2.2.2.1++
 List.take (1:Nat)
 (List.drop (0:Nat)
 [(v11.2.2.2.2.2.2.2.1 y14).getD (Int.ofNat (nat_lit 0))])).length=
 (v11.2.2.2.2.1++
 List.take (1:Nat)
 (List.drop (0:Nat)
 [(v11.2.2.2.2.2.2.2.1 y14).getD (Int.ofNat (nat_lit 0))])).length∧
 (0:Nat)=(0:Nat)∧
 v11.2.2.2.2.2.1.length=v11.2.2.2.2.2.1.length∧
 (0:Nat)=(0:Nat)∧
 v11.2.2.2.2.2.2.1.length=v11.2.2.2.2.2.2.1.length∧
 (0:Nat)=(0:Nat)∧
 v11.2.2.2.2.2.2.2.2.1.length=
 v11.2.2.2.2.2.2.2.2.1.length∧
 (0:Nat)=(0:Nat)∧
 v11.2.2.2.2.2.2.2.2.2.1.length=
 v11.2.2.2.2.2.2.2.2.2.1.length∧
 (0:Nat)=(0:Nat)∧
 v11.2.2.2.2.2.2.2.2.2.2.2.2.2.1.length=
 v11.2.2.2.2.2.2.2.2.2.2.2.2.2.1.length∧
 k12
 (IntKind.i64.wrap (v11.1+(1:Int)),v11.2.1,v11.2.2.1,
 v11.2.2.2.1,
 v11.2.2.2.2.1++
 List.take (1:Nat)
 (List.drop (0:Nat)
 [(v11.2.2.2.2.2.2.2.1 y14).getD
 (Int.ofNat (nat_lit 0))]),
 v11.2.2.2.2.2.1,v11.2.2.2.2.2.2.1,
 v11.2.2.2.2.2.2.2.1,v11.2.2.2.2.2.2.2.2.1,
 v11.2.2.2.2.2.2.2.2.2.1,
 v11.2.2.2.2.2.2.2.2.2.2.1,
 v11.2.2.2.2.2.2.2.2.2.2.2.1,
 v11.2.2.2.2.2.2.2.2.2.2.2.2.1,
 v11.2.2.2.2.2.2.2.2.2.2.2.2.2.1,())))
 ((0:Nat)=(0:Nat)∧
 v11.2.2.2.2.2.2.2.2.2.2.2.2.2.1.length=
 v11.2.2.2.2.2.2.2.2.2.2.2.2.2.1.length∧
 v11.2.2.2.2.2.2.2.2.2.2.2.2.2.1.length+
 (List.take (1:Nat)
 (List.drop (0:Nat)
 [List.take v11.2.2.2.2.1.length (List.drop ((0:Nat)) v11.2.2.2.2.1)])).length≤
 As∧
 (0:Nat)=(0:Nat)∧
 v11.2.2.2.2.2.1.length=v11.2.2.2.2.2.1.length∧
 (0:Nat)=(0:Nat)∧
 v11.2.2.2.2.2.2.1.length=v11.2.2.2.2.2.2.1.length∧
 (0:Nat)=(0:Nat)∧
 v11.2.2.2.2.2.2.2.2.1.length=v11.2.2.2.2.2.2.2.2.1.length∧
 (0:Nat)=(0:Nat)∧
 v11.2.2.2.2.2.2.2.2.2.1.length=v11.2.2.2.2.2.2.2.2.2.1.length∧
 (0:Nat)=(0:Nat)∧
 (v11.2.2.2.2.2.2.2.2.2.2.2.2.2.1++
 List.take (1:Nat)
 (List.drop (0:Nat)
 [List.take v11.2.2.2.2.1.length
 (List.drop ((0:Nat)) v11.2.2.2.2.1)])).length=
 (v11.2.2.2.2.2.2.2.2.2.2.2.2.2.1++
 List.take (1:Nat)
 (List.drop (0:Nat)
 [List.take v11.2.2.2.2.1.length
 (List.drop ((0:Nat)) v11.2.2.2.2.1)])).length∧
 k8
 (IntKind.i64.wrap (v7.1+(1:Int)),v11.2.1,v11.2.2.1,v11.2.2.2.1,
 v11.2.2.2.2.2.1,v11.2.2.2.2.2.2.1,v11.2.2.2.2.2.2.2.1,
 v11.2.2.2.2.2.2.2.2.1,v11.2.2.2.2.2.2.2.2.2.1,
 v11.2.2.2.2.2.2.2.2.2.2.1,v11.2.2.2.2.2.2.2.2.2.2.2.1,
 v11.2.2.2.2.2.2.2.2.2.2.2.2.1,
 v11.2.2.2.2.2.2.2.2.2.2.2.2.2.1++
 List.take (1:Nat)
 (List.drop (0:Nat)
 [List.take v11.2.2.2.2.1.length
 (List.drop ((0:Nat)) v11.2.2.2.2.1)]),
 ())))
 ((0:Int),v7.2.1,v7.2.2.1,v7.2.2.2.1,[],v7.2.2.2.2.1,v7.2.2.2.2.2.1,
 v7.2.2.2.2.2.2.1,v7.2.2.2.2.2.2.2.1,v7.2.2.2.2.2.2.2.2.1,
 v7.2.2.2.2.2.2.2.2.2.1,v7.2.2.2.2.2.2.2.2.2.2.1,v7.2.2.2.2.2.2.2.2.2.2.2.1,
 v7.2.2.2.2.2.2.2.2.2.2.2.2.1,PUnit.unit))
 (P
 (some
 ((v7.2.2.2.2.2.2.2.2.2.1,v7.2.2.2.2.2.2.2.2.2.2.1,v7.2.2.2.2.2.2.2.2.2.2.2.1,()),
 List.take v7.2.2.2.2.1.length (List.drop ((0:Nat)) v7.2.2.2.2.1),
 List.take v7.2.2.2.2.2.1.length (List.drop ((0:Nat)) v7.2.2.2.2.2.1),v7.2.2.2.2.2.2.1,
 List.take v7.2.2.2.2.2.2.2.1.length (List.drop ((0:Nat)) v7.2.2.2.2.2.2.2.1),
 List.take v7.2.2.2.2.2.2.2.2.1.length (List.drop ((0:Nat)) v7.2.2.2.2.2.2.2.2.1),
 List.take v7.2.2.2.2.2.2.2.2.2.2.2.2.1.length (List.drop ((0:Nat)) v7.2.2.2.2.2.2.2.2.2.2.2.2.1),()),
 true,())))
 ((0:Int),p.1,p.2.1,p.2.2.1,[y4],[(0:Int)],El (fun (_:ByteArray)=>none) y5 (0:Int),[(0:Int)],[(0:Int)],p.1,p.2.1,
 p.2.2.1,([]:List (List Int)),PUnit.unit))∧
 ((∃(y6:ByteArray),
 Df.fn (y4,())=some y6∧
 [((0:Nat),(1:Nat)),((0:Nat),(1:Nat)),((0:Nat),(1:Nat)),((0:Nat),(1:Nat)),((0:Nat),(1:Nat)),((0:Nat),(1:Nat)),((0:Nat),(1:Nat)),
 ((0:Nat),(1:Nat)),((0:Nat),(1:Nat)),((0:Nat),(1:Nat)),((0:Nat),(1:Nat)),((0:Nat),(1:Nat)),((0:Nat),(0:Nat))]=
 [((0:Nat),(1:Nat)),((0:Nat),(1:Nat)),((0:Nat),(1:Nat)),((0:Nat),(1:Nat)),((0:Nat),(1:Nat)),((0:Nat),(1:Nat)),((0:Nat),(1:Nat)),
 ((0:Nat),(1:Nat)),((0:Nat),(1:Nat)),((0:Nat),(1:Nat)),((0:Nat),(1:Nat)),((0:Nat),(1:Nat)),((0:Nat),(0:Nat))]∧
 (p,false,y4,p.1,p.2.1,p.2.2.1,y2,y3,!y3,p.1,y4,p.1,p.2.1,p.2.2.1,y4,y4,y6,p.1,p.2.1,p.2.2.1,p.1,p.2.1,p.2.2.1,
 [y4],[(0:Int)],El (fun (_:ByteArray)=>none) y6 (0:Int),[(0:Int)],[(0:Int)],p.1,p.2.1,p.2.2.1,([]:List (List Int)),())=
 (p,false,y4,p.1,p.2.1,p.2.2.1,y2,y3,!y3,p.1,y4,p.1,p.2.1,p.2.2.1,y4,y4,y5,p.1,p.2.1,p.2.2.1,p.1,p.2.1,p.2.2.1,
 [y4],[(0:Int)],El (fun (_:ByteArray)=>none) y5 (0:Int),[(0:Int)],[(0:Int)],p.1,p.2.1,p.2.2.1,([]:List (List Int)),PUnit.unit))∧
 ∃(y6:ByteArray),
 Df.fn (y4,())=some y6∧
 ([((0:Nat),(1:Nat)),((0:Nat),(1:Nat)),((0:Nat),(1:Nat)),((0:Nat),(1:Nat)),((0:Nat),(1:Nat)),((0:Nat),(1:Nat)),((0:Nat),(1:Nat)),
 ((0:Nat),(1:Nat)),((0:Nat),(1:Nat)),((0:Nat),(1:Nat)),((0:Nat),(1:Nat)),((0:Nat),(1:Nat)),((0:Nat),(0:Nat))]=
 [((0:Nat),(1:Nat)),((0:Nat),(1:Nat)),((0:Nat),(1:Nat)),((0:Nat),(1:Nat)),((0:Nat),(1:Nat)),((0:Nat),(1:Nat)),
 ((0:Nat),(1:Nat)),((0:Nat),(1:Nat)),((0:Nat),(1:Nat)),((0:Nat),(1:Nat)),((0:Nat),(1:Nat)),((0:Nat),(1:Nat)),
 ((0:Nat),(0:Nat))]∧
 (p,false,y4,p.1,p.2.1,p.2.2.1,y2,y3,!y3,p.1,y4,p.1,p.2.1,p.2.2.1,y4,y4,y6,p.1,p.2.1,p.2.2.1,p.1,p.2.1,p.2.2.1,
 [y4],[(0:Int)],El (fun (_:ByteArray)=>none) y6 (0:Int),[(0:Int)],[(0:Int)],p.1,p.2.1,p.2.2.1,([]:List (List Int)),())=
 (p,false,y4,p.1,p.2.1,p.2.2.1,y2,y3,!y3,p.1,y4,p.1,p.2.1,p.2.2.1,y4,y4,y5,p.1,p.2.1,p.2.2.1,p.1,p.2.1,p.2.2.1,
 [y4],[(0:Int)],El (fun (_:ByteArray)=>none) y5 (0:Int),[(0:Int)],[(0:Int)],p.1,p.2.1,p.2.2.1,([]:List (List Int)),PUnit.unit))∧
 ([((0:Nat),(1:Nat)),((0:Nat),(1:Nat)),((0:Nat),(1:Nat)),((0:Nat),(1:Nat)),((0:Nat),(1:Nat)),((0:Nat),(1:Nat)),((0:Nat),(1:Nat)),
 ((0:Nat),(1:Nat)),((0:Nat),(1:Nat)),((0:Nat),(1:Nat)),((0:Nat),(1:Nat)),((0:Nat),(1:Nat)),((0:Nat),(0:Nat))]=
 [((0:Nat),(1:Nat)),((0:Nat),(1:Nat)),((0:Nat),(1:Nat)),((0:Nat),(1:Nat)),((0:Nat),(1:Nat)),((0:Nat),(1:Nat)),
 ((0:Nat),(1:Nat)),((0:Nat),(1:Nat)),((0:Nat),(1:Nat)),((0:Nat),(1:Nat)),((0:Nat),(1:Nat)),((0:Nat),(1:Nat)),
 ((0:Nat),(0:Nat))]∧
 (p,false,y4,p.1,p.2.1,p.2.2.1,y2,y3,!y3,p.1,y4,p.1,p.2.1,p.2.2.1,y4,y4,y6,p.1,p.2.1,p.2.2.1,p.1,p.2.1,p.2.2.1,
 [y4],[(0:Int)],El (fun (_:ByteArray)=>none) y6 (0:Int),[(0:Int)],[(0:Int)],p.1,p.2.1,p.2.2.1,([]:List (List Int)),())=
 (p,false,y4,p.1,p.2.1,p.2.2.1,y2,y3,!y3,p.1,y4,p.1,p.2.1,p.2.2.1,y4,y4,y5,p.1,p.2.1,p.2.2.1,p.1,p.2.1,
 p.2.2.1,[y4],[(0:Int)],El (fun (_:ByteArray)=>none) y5 (0:Int),[(0:Int)],[(0:Int)],p.1,p.2.1,p.2.2.1,([]:List (List Int)),PUnit.unit))∧
 [((0:Nat),(1:Nat)),((0:Nat),(1:Nat)),((0:Nat),(1:Nat)),((0:Nat),(1:Nat)),((0:Nat),(1:Nat)),((0:Nat),(1:Nat)),((0:Nat),(1:Nat)),
 ((0:Nat),(1:Nat)),((0:Nat),(1:Nat)),((0:Nat),(1:Nat)),((0:Nat),(1:Nat)),((0:Nat),(1:Nat)),((0:Nat),(0:Nat))]=
 [((0:Nat),(1:Nat)),((0:Nat),(1:Nat)),((0:Nat),(1:Nat)),((0:Nat),(1:Nat)),((0:Nat),(1:Nat)),((0:Nat),(1:Nat)),
 ((0:Nat),(1:Nat)),((0:Nat),(1:Nat)),((0:Nat),(1:Nat)),((0:Nat),(1:Nat)),((0:Nat),(1:Nat)),((0:Nat),(1:Nat)),
 ((0:Nat),(0:Nat))]∧
 (p,false,y4,p.1,p.2.1,p.2.2.1,y2,y3,!y3,p.1,y4,p.1,p.2.1,p.2.2.1,y4,y4,y6,p.1,p.2.1,p.2.2.1,p.1,p.2.1,p.2.2.1,
 [y4],[(0:Int)],El (fun (_:ByteArray)=>none) y6 (0:Int),[(0:Int)],[(0:Int)],p.1,p.2.1,p.2.2.1,([]:List (List Int)),())=
 (p,false,y4,p.1,p.2.1,p.2.2.1,y2,y3,!y3,p.1,y4,p.1,p.2.1,p.2.2.1,y4,y4,y5,p.1,p.2.1,p.2.2.1,p.1,p.2.1,
 p.2.2.1,[y4],[(0:Int)],El (fun (_:ByteArray)=>none) y5 (0:Int),[(0:Int)],[(0:Int)],p.1,p.2.1,p.2.2.1,([]:List (List Int)),PUnit.unit))∧
 ((∃(y6:ByteArray),
 Df.fn (y4,())=some y6∧
 [((0:Nat),(1:Nat)),((0:Nat),(1:Nat)),((0:Nat),(1:Nat)),((0:Nat),(1:Nat)),((0:Nat),(1:Nat)),((0:Nat),(1:Nat)),((0:Nat),(1:Nat)),
 ((0:Nat),(1:Nat)),((0:Nat),(1:Nat)),((0:Nat),(1:Nat)),((0:Nat),(1:Nat)),((0:Nat),(1:Nat)),((0:Nat),(0:Nat))]=
 [((0:Nat),(1:Nat)),((0:Nat),(1:Nat)),((0:Nat),(1:Nat)),((0:Nat),(1:Nat)),((0:Nat),(1:Nat)),((0:Nat),(1:Nat)),
 ((0:Nat),(1:Nat)),((0:Nat),(1:Nat)),((0:Nat),(1:Nat)),((0:Nat),(1:Nat)),((0:Nat),(1:Nat)),((0:Nat),(1:Nat)),
 ((0:Nat),(0:Nat))]∧
 (p,false,y4,p.1,p.2.1,p.2.2.1,y2,y3,!y3,p.1,y4,p.1,p.2.1,p.2.2.1,y4,y4,y6,p.1,p.2.1,p.2.2.1,p.1,p.2.1,p.2.2.1,
 [y4],[(0:Int)],El (fun (_:ByteArray)=>none) y6 (0:Int),[(0:Int)],[(0:Int)],p.1,p.2.1,p.2.2.1,([]:List (List Int)),())=
 (p,false,y4,p.1,p.2.1,p.2.2.1,y2,y3,!y3,p.1,y4,p.1,p.2.1,p.2.2.1,y4,y4,y5,p.1,p.2.1,p.2.2.1,p.1,p.2.1,p.2.2.1,
 [y4],[(0:Int)],El (fun (_:ByteArray)=>none) y5 (0:Int),[(0:Int)],[(0:Int)],p.1,p.2.1,p.2.2.1,([]:List (List Int)),PUnit.unit))∧
 ∃(y6:ByteArray),
 Df.fn (y4,())=some y6∧
 ([((0:Nat),(1:Nat)),((0:Nat),(1:Nat)),((0:Nat),(1:Nat)),((0:Nat),(1:Nat)),((0:Nat),(1:Nat)),((0:Nat),(1:Nat)),((0:Nat),(1:Nat)),
 ((0:Nat),(1:Nat)),((0:Nat),(1:Nat)),((0:Nat),(1:Nat)),((0:Nat),(1:Nat)),((0:Nat),(1:Nat)),((0:Nat),(0:Nat))]=
 [((0:Nat),(1:Nat)),((0:Nat),(1:Nat)),((0:Nat),(1:Nat)),((0:Nat),(1:Nat)),((0:Nat),(1:Nat)),((0:Nat),(1:Nat)),
 ((0:Nat),(1:Nat)),((0:Nat),(1:Nat)),((0:Nat),(1:Nat)),((0:Nat),(1:Nat)),((0:Nat),(1:Nat)),((0:Nat),(1:Nat)),
 ((0:Nat),(0:Nat))]∧
 (p,false,y4,p.1,p.2.1,p.2.2.1,y2,y3,!y3,p.1,y4,p.1,p.2.1,p.2.2.1,y4,y4,y6,p.1,p.2.1,p.2.2.1,p.1,p.2.1,p.2.2.1,
 [y4],[(0:Int)],El (fun (_:ByteArray)=>none) y6 (0:Int),[(0:Int)],[(0:Int)],p.1,p.2.1,p.2.2.1,([]:List (List Int)),())=
 (p,false,y4,p.1,p.2.1,p.2.2.1,y2,y3,!y3,p.1,y4,p.1,p.2.1,p.2.2.1,y4,y4,y5,p.1,p.2.1,p.2.2.1,p.1,p.2.1,
 p.2.2.1,[y4],[(0:Int)],El (fun (_:ByteArray)=>none) y5 (0:Int),[(0:Int)],[(0:Int)],p.1,p.2.1,p.2.2.1,([]:List (List Int)),PUnit.unit))∧
 ([((0:Nat),(1:Nat)),((0:Nat),(1:Nat)),((0:Nat),(1:Nat)),((0:Nat),(1:Nat)),((0:Nat),(1:Nat)),((0:Nat),(1:Nat)),
 ((0:Nat),(1:Nat)),((0:Nat),(1:Nat)),((0:Nat),(1:Nat)),((0:Nat),(1:Nat)),((0:Nat),(1:Nat)),((0:Nat),(1:Nat)),
 ((0:Nat),(0:Nat))]=
 [((0:Nat),(1:Nat)),((0:Nat),(1:Nat)),((0:Nat),(1:Nat)),((0:Nat),(1:Nat)),((0:Nat),(1:Nat)),((0:Nat),(1:Nat)),
 ((0:Nat),(1:Nat)),((0:Nat),(1:Nat)),((0:Nat),(1:Nat)),((0:Nat),(1:Nat)),((0:Nat),(1:Nat)),((0:Nat),(1:Nat)),
 ((0:Nat),(0:Nat))]∧
 (p,false,y4,p.1,p.2.1,p.2.2.1,y2,y3,!y3,p.1,y4,p.1,p.2.1,p.2.2.1,y4,y4,y6,p.1,p.2.1,p.2.2.1,p.1,p.2.1,
 p.2.2.1,[y4],[(0:Int)],El (fun (_:ByteArray)=>none) y6 (0:Int),[(0:Int)],[(0:Int)],p.1,p.2.1,p.2.2.1,([]:List (List Int)),())=
 (p,false,y4,p.1,p.2.1,p.2.2.1,y2,y3,!y3,p.1,y4,p.1,p.2.1,p.2.2.1,y4,y4,y5,p.1,p.2.1,p.2.2.1,p.1,p.2.1,
 p.2.2.1,[y4],[(0:Int)],El (fun (_:ByteArray)=>none) y5 (0:Int),[(0:Int)],[(0:Int)],p.1,p.2.1,p.2.2.1,([]:List (List Int)),PUnit.unit))∧
 [((0:Nat),(1:Nat)),((0:Nat),(1:Nat)),((0:Nat),(1:Nat)),((0:Nat),(1:Nat)),((0:Nat),(1:Nat)),((0:Nat),(1:Nat)),
 ((0:Nat),(1:Nat)),((0:Nat),(1:Nat)),((0:Nat),(1:Nat)),((0:Nat),(1:Nat)),((0:Nat),(1:Nat)),((0:Nat),(1:Nat)),
 ((0:Nat),(0:Nat))]=
 [((0:Nat),(1:Nat)),((0:Nat),(1:Nat)),((0:Nat),(1:Nat)),((0:Nat),(1:Nat)),((0:Nat),(1:Nat)),((0:Nat),(1:Nat)),
 ((0:Nat),(1:Nat)),((0:Nat),(1:Nat)),((0:Nat),(1:Nat)),((0:Nat),(1:Nat)),((0:Nat),(1:Nat)),((0:Nat),(1:Nat)),
 ((0:Nat),(0:Nat))]∧
 (p,false,y4,p.1,p.2.1,p.2.2.1,y2,y3,!y3,p.1,y4,p.1,p.2.1,p.2.2.1,y4,y4,y6,p.1,p.2.1,p.2.2.1,p.1,p.2.1,
 p.2.2.1,[y4],[(0:Int)],El (fun (_:ByteArray)=>none) y6 (0:Int),[(0:Int)],[(0:Int)],p.1,p.2.1,p.2.2.1,([]:List (List Int)),())=
 (p,false,y4,p.1,p.2.1,p.2.2.1,y2,y3,!y3,p.1,y4,p.1,p.2.1,p.2.2.1,y4,y4,y5,p.1,p.2.1,p.2.2.1,p.1,p.2.1,
 p.2.2.1,[y4],[(0:Int)],El (fun (_:ByteArray)=>none) y5 (0:Int),[(0:Int)],[(0:Int)],p.1,p.2.1,p.2.2.1,([]:List (List Int)),PUnit.unit))∧
 ∃(y6:ByteArray),
 Df.fn (y4,())=some y6∧
 (([((0:Nat),(1:Nat)),((0:Nat),(1:Nat)),((0:Nat),(1:Nat)),((0:Nat),(1:Nat)),((0:Nat),(1:Nat)),((0:Nat),(1:Nat)),((0:Nat),(1:Nat)),
 ((0:Nat),(1:Nat)),((0:Nat),(1:Nat)),((0:Nat),(1:Nat)),((0:Nat),(1:Nat)),((0:Nat),(1:Nat)),((0:Nat),(0:Nat))]=
 [((0:Nat),(1:Nat)),((0:Nat),(1:Nat)),((0:Nat),(1:Nat)),((0:Nat),(1:Nat)),((0:Nat),(1:Nat)),((0:Nat),(1:Nat)),
 ((0:Nat),(1:Nat)),((0:Nat),(1:Nat)),((0:Nat),(1:Nat)),((0:Nat),(1:Nat)),((0:Nat),(1:Nat)),((0:Nat),(1:Nat)),
 ((0:Nat),(0:Nat))]∧
 (p,false,y4,p.1,p.2.1,p.2.2.1,y2,y3,!y3,p.1,y4,p.1,p.2.1,p.2.2.1,y4,y4,y6,p.1,p.2.1,p.2.2.1,p.1,p.2.1,p.2.2.1,
 [y4],[(0:Int)],El (fun (_:ByteArray)=>none) y6 (0:Int),[(0:Int)],[(0:Int)],p.1,p.2.1,p.2.2.1,([]:List (List Int)),())=
 (p,false,y4,p.1,p.2.1,p.2.2.1,y2,y3,!y3,p.1,y4,p.1,p.2.1,p.2.2.1,y4,y4,y5,p.1,p.2.1,p.2.2.1,p.1,p.2.1,
 p.2.2.1,[y4],[(0:Int)],El (fun (_:ByteArray)=>none) y5 (0:Int),[(0:Int)],[(0:Int)],p.1,p.2.1,p.2.2.1,([]:List (List Int)),PUnit.unit))∧
 ([((0:Nat),(1:Nat)),((0:Nat),(1:Nat)),((0:Nat),(1:Nat)),((0:Nat),(1:Nat)),((0:Nat),(1:Nat)),((0:Nat),(1:Nat)),
 ((0:Nat),(1:Nat)),((0:Nat),(1:Nat)),((0:Nat),(1:Nat)),((0:Nat),(1:Nat)),((0:Nat),(1:Nat)),((0:Nat),(1:Nat)),
 ((0:Nat),(0:Nat))]=
 [((0:Nat),(1:Nat)),((0:Nat),(1:Nat)),((0:Nat),(1:Nat)),((0:Nat),(1:Nat)),((0:Nat),(1:Nat)),((0:Nat),(1:Nat)),
 ((0:Nat),(1:Nat)),((0:Nat),(1:Nat)),((0:Nat),(1:Nat)),((0:Nat),(1:Nat)),((0:Nat),(1:Nat)),((0:Nat),(1:Nat)),
 ((0:Nat),(0:Nat))]∧
 (p,false,y4,p.1,p.2.1,p.2.2.1,y2,y3,!y3,p.1,y4,p.1,p.2.1,p.2.2.1,y4,y4,y6,p.1,p.2.1,p.2.2.1,p.1,p.2.1,
 p.2.2.1,[y4],[(0:Int)],El (fun (_:ByteArray)=>none) y6 (0:Int),[(0:Int)],[(0:Int)],p.1,p.2.1,p.2.2.1,([]:List (List Int)),())=
 (p,false,y4,p.1,p.2.1,p.2.2.1,y2,y3,!y3,p.1,y4,p.1,p.2.1,p.2.2.1,y4,y4,y5,p.1,p.2.1,p.2.2.1,p.1,p.2.1,
 p.2.2.1,[y4],[(0:Int)],El (fun (_:ByteArray)=>none) y5 (0:Int),[(0:Int)],[(0:Int)],p.1,p.2.1,p.2.2.1,([]:List (List Int)),PUnit.unit))∧
 [((0:Nat),(1:Nat)),((0:Nat),(1:Nat)),((0:Nat),(1:Nat)),((0:Nat),(1:Nat)),((0:Nat),(1:Nat)),((0:Nat),(1:Nat)),
 ((0:Nat),(1:Nat)),((0:Nat),(1:Nat)),((0:Nat),(1:Nat)),((0:Nat),(1:Nat)),((0:Nat),(1:Nat)),((0:Nat),(1:Nat)),
 ((0:Nat),(0:Nat))]=
 [((0:Nat),(1:Nat)),((0:Nat),(1:Nat)),((0:Nat),(1:Nat)),((0:Nat),(1:Nat)),((0:Nat),(1:Nat)),((0:Nat),(1:Nat)),
 ((0:Nat),(1:Nat)),((0:Nat),(1:Nat)),((0:Nat),(1:Nat)),((0:Nat),(1:Nat)),((0:Nat),(1:Nat)),((0:Nat),(1:Nat)),
 ((0:Nat),(0:Nat))]∧
 (p,false,y4,p.1,p.2.1,p.2.2.1,y2,y3,!y3,p.1,y4,p.1,p.2.1,p.2.2.1,y4,y4,y6,p.1,p.2.1,p.2.2.1,p.1,p.2.1,
 p.2.2.1,[y4],[(0:Int)],El (fun (_:ByteArray)=>none) y6 (0:Int),[(0:Int)],[(0:Int)],p.1,p.2.1,p.2.2.1,([]:List (List Int)),())=
 (p,false,y4,p.1,p.2.1,p.2.2.1,y2,y3,!y3,p.1,y4,p.1,p.2.1,p.2.2.1,y4,y4,y5,p.1,p.2.1,p.2.2.1,p.1,p.2.1,
 p.2.2.1,[y4],[(0:Int)],El (fun (_:ByteArray)=>none) y5 (0:Int),[(0:Int)],[(0:Int)],p.1,p.2.1,p.2.2.1,([]:List (List Int)),PUnit.unit))∧
 (([((0:Nat),(1:Nat)),((0:Nat),(1:Nat)),((0:Nat),(1:Nat)),((0:Nat),(1:Nat)),((0:Nat),(1:Nat)),((0:Nat),(1:Nat)),((0:Nat),(1:Nat)),
 ((0:Nat),(1:Nat)),((0:Nat),(1:Nat)),((0:Nat),(1:Nat)),((0:Nat),(1:Nat)),((0:Nat),(1:Nat)),((0:Nat),(0:Nat))]=
 [((0:Nat),(1:Nat)),((0:Nat),(1:Nat)),((0:Nat),(1:Nat)),((0:Nat),(1:Nat)),((0:Nat),(1:Nat)),((0:Nat),(1:Nat)),
 ((0:Nat),(1:Nat)),((0:Nat),(1:Nat)),((0:Nat),(1:Nat)),((0:Nat),(1:Nat)),((0:Nat),(1:Nat)),((0:Nat),(1:Nat)),
 ((0:Nat),(0:Nat))]∧
 (p,false,y4,p.1,p.2.1,p.2.2.1,y2,y3,!y3,p.1,y4,p.1,p.2.1,p.2.2.1,y4,y4,y6,p.1,p.2.1,p.2.2.1,p.1,p.2.1,
 p.2.2.1,[y4],[(0:Int)],El (fun (_:ByteArray)=>none) y6 (0:Int),[(0:Int)],[(0:Int)],p.1,p.2.1,p.2.2.1,([]:List (List Int)),())=
 (p,false,y4,p.1,p.2.1,p.2.2.1,y2,y3,!y3,p.1,y4,p.1,p.2.1,p.2.2.1,y4,y4,y5,p.1,p.2.1,p.2.2.1,p.1,p.2.1,
 p.2.2.1,[y4],[(0:Int)],El (fun (_:ByteArray)=>none) y5 (0:Int),[(0:Int)],[(0:Int)],p.1,p.2.1,p.2.2.1,([]:List (List Int)),PUnit.unit))∧
 ([((0:Nat),(1:Nat)),((0:Nat),(1:Nat)),((0:Nat),(1:Nat)),((0:Nat),(1:Nat)),((0:Nat),(1:Nat)),((0:Nat),(1:Nat)),
 ((0:Nat),(1:Nat)),((0:Nat),(1:Nat)),((0:Nat),(1:Nat)),((0:Nat),(1:Nat)),((0:Nat),(1:Nat)),((0:Nat),(1:Nat)),
 ((0:Nat),(0:Nat))]=
 [((0:Nat),(1:Nat)),((0:Nat),(1:Nat)),((0:Nat),(1:Nat)),((0:Nat),(1:Nat)),((0:Nat),(1:Nat)),((0:Nat),(1:Nat)),
 ((0:Nat),(1:Nat)),((0:Nat),(1:Nat)),((0:Nat),(1:Nat)),((0:Nat),(1:Nat)),((0:Nat),(1:Nat)),((0:Nat),(1:Nat)),
 ((0:Nat),(0:Nat))]∧
 (p,false,y4,p.1,p.2.1,p.2.2.1,y2,y3,!y3,p.1,y4,p.1,p.2.1,p.2.2.1,y4,y4,y6,p.1,p.2.1,p.2.2.1,p.1,p.2.1,
 p.2.2.1,[y4],[(0:Int)],El (fun (_:ByteArray)=>none) y6 (0:Int),[(0:Int)],[(0:Int)],p.1,p.2.1,p.2.2.1,([]:List (List Int)),())=
 (p,false,y4,p.1,p.2.1,p.2.2.1,y2,y3,!y3,p.1,y4,p.1,p.2.1,p.2.2.1,y4,y4,y5,p.1,p.2.1,p.2.2.1,p.1,p.2.1,
 p.2.2.1,[y4],[(0:Int)],El (fun (_:ByteArray)=>none) y5 (0:Int),[(0:Int)],[(0:Int)],p.1,p.2.1,p.2.2.1,([]:List (List Int)),PUnit.unit))∧
 [((0:Nat),(1:Nat)),((0:Nat),(1:Nat)),((0:Nat),(1:Nat)),((0:Nat),(1:Nat)),((0:Nat),(1:Nat)),((0:Nat),(1:Nat)),
 ((0:Nat),(1:Nat)),((0:Nat),(1:Nat)),((0:Nat),(1:Nat)),((0:Nat),(1:Nat)),((0:Nat),(1:Nat)),((0:Nat),(1:Nat)),
 ((0:Nat),(0:Nat))]=
 [((0:Nat),(1:Nat)),((0:Nat),(1:Nat)),((0:Nat),(1:Nat)),((0:Nat),(1:Nat)),((0:Nat),(1:Nat)),((0:Nat),(1:Nat)),
 ((0:Nat),(1:Nat)),((0:Nat),(1:Nat)),((0:Nat),(1:Nat)),((0:Nat),(1:Nat)),((0:Nat),(1:Nat)),((0:Nat),(1:Nat)),
 ((0:Nat),(0:Nat))]∧
 (p,false,y4,p.1,p.2.1,p.2.2.1,y2,y3,!y3,p.1,y4,p.1,p.2.1,p.2.2.1,y4,y4,y6,p.1,p.2.1,p.2.2.1,p.1,p.2.1,
 p.2.2.1,[y4],[(0:Int)],El (fun (_:ByteArray)=>none) y6 (0:Int),[(0:Int)],[(0:Int)],p.1,p.2.1,p.2.2.1,([]:List (List Int)),())=
 (p,false,y4,p.1,p.2.1,p.2.2.1,y2,y3,!y3,p.1,y4,p.1,p.2.1,p.2.2.1,y4,y4,y5,p.1,p.2.1,p.2.2.1,p.1,p.2.1,
 p.2.2.1,[y4],[(0:Int)],El (fun (_:ByteArray)=>none) y5 (0:Int),[(0:Int)],[(0:Int)],p.1,p.2.1,p.2.2.1,([]:List (List Int)),PUnit.unit))∧
 (([((0:Nat),(1:Nat)),((0:Nat),(1:Nat)),((0:Nat),(1:Nat)),((0:Nat),(1:Nat)),((0:Nat),(1:Nat)),((0:Nat),(1:Nat)),
 ((0:Nat),(1:Nat)),((0:Nat),(1:Nat)),((0:Nat),(1:Nat)),((0:Nat),(1:Nat)),((0:Nat),(1:Nat)),((0:Nat),(1:Nat)),
 ((0:Nat),(0:Nat))]=
 [((0:Nat),(1:Nat)),((0:Nat),(1:Nat)),((0:Nat),(1:Nat)),((0:Nat),(1:Nat)),((0:Nat),(1:Nat)),((0:Nat),(1:Nat)),
 ((0:Nat),(1:Nat)),((0:Nat),(1:Nat)),((0:Nat),(1:Nat)),((0:Nat),(1:Nat)),((0:Nat),(1:Nat)),((0:Nat),(1:Nat)),
 ((0:Nat),(0:Nat))]∧
 (p,false,y4,p.1,p.2.1,p.2.2.1,y2,y3,!y3,p.1,y4,p.1,p.2.1,p.2.2.1,y4,y4,y6,p.1,p.2.1,p.2.2.1,p.1,p.2.1,
 p.2.2.1,[y4],[(0:Int)],El (fun (_:ByteArray)=>none) y6 (0:Int),[(0:Int)],[(0:Int)],p.1,p.2.1,p.2.2.1,([]:List (List Int)),())=
 (p,false,y4,p.1,p.2.1,p.2.2.1,y2,y3,!y3,p.1,y4,p.1,p.2.1,p.2.2.1,y4,y4,y5,p.1,p.2.1,p.2.2.1,p.1,p.2.1,
 p.2.2.1,[y4],[(0:Int)],El (fun (_:ByteArray)=>none) y5 (0:Int),[(0:Int)],[(0:Int)],p.1,p.2.1,p.2.2.1,([]:List (List Int)),PUnit.unit))∧
 [((0:Nat),(1:Nat)),((0:Nat),(1:Nat)),((0:Nat),(1:Nat)),((0:Nat),(1:Nat)),((0:Nat),(1:Nat)),((0:Nat),(1:Nat)),
 ((0:Nat),(1:Nat)),((0:Nat),(1:Nat)),((0:Nat),(1:Nat)),((0:Nat),(1:Nat)),((0:Nat),(1:Nat)),((0:Nat),(1:Nat)),
 ((0:Nat),(0:Nat))]=
 [((0:Nat),(1:Nat)),((0:Nat),(1:Nat)),((0:Nat),(1:Nat)),((0:Nat),(1:Nat)),((0:Nat),(1:Nat)),((0:Nat),(1:Nat)),
 ((0:Nat),(1:Nat)),((0:Nat),(1:Nat)),((0:Nat),(1:Nat)),((0:Nat),(1:Nat)),((0:Nat),(1:Nat)),((0:Nat),(1:Nat)),
 ((0:Nat),(0:Nat))]∧
 (p,false,y4,p.1,p.2.1,p.2.2.1,y2,y3,!y3,p.1,y4,p.1,p.2.1,p.2.2.1,y4,y4,y6,p.1,p.2.1,p.2.2.1,p.1,p.2.1,
 p.2.2.1,[y4],[(0:Int)],El (fun (_:ByteArray)=>none) y6 (0:Int),[(0:Int)],[(0:Int)],p.1,p.2.1,p.2.2.1,([]:List (List Int)),())=
 (p,false,y4,p.1,p.2.1,p.2.2.1,y2,y3,!y3,p.1,y4,p.1,p.2.1,p.2.2.1,y4,y4,y5,p.1,p.2.1,p.2.2.1,p.1,p.2.1,
 p.2.2.1,[y4],[(0:Int)],El (fun (_:ByteArray)=>none) y5 (0:Int),[(0:Int)],[(0:Int)],p.1,p.2.1,p.2.2.1,([]:List (List Int)),PUnit.unit))∧
 (([((0:Nat),(1:Nat)),((0:Nat),(1:Nat)),((0:Nat),(1:Nat)),((0:Nat),(1:Nat)),((0:Nat),(1:Nat)),((0:Nat),(1:Nat)),
 ((0:Nat),(1:Nat)),((0:Nat),(1:Nat)),((0:Nat),(1:Nat)),((0:Nat),(1:Nat)),((0:Nat),(1:Nat)),((0:Nat),(1:Nat)),
 ((0:Nat),(0:Nat))]=
 [((0:Nat),(1:Nat)),((0:Nat),(1:Nat)),((0:Nat),(1:Nat)),((0:Nat),(1:Nat)),((0:Nat),(1:Nat)),((0:Nat),(1:Nat)),
 ((0:Nat),(1:Nat)),((0:Nat),(1:Nat)),((0:Nat),(1:Nat)),((0:Nat),(1:Nat)),((0:Nat),(1:Nat)),((0:Nat),(1:Nat)),
 ((0:Nat),(0:Nat))]∧
 (p,false,y4,p.1,p.2.1,p.2.2.1,y2,y3,!y3,p.1,y4,p.1,p.2.1,p.2.2.1,y4,y4,y6,p.1,p.2.1,p.2.2.1,p.1,p.2.1,
 p.2.2.1,[y4],[(0:Int)],El (fun (_:ByteArray)=>none) y6 (0:Int),[(0:Int)],[(0:Int)],p.1,p.2.1,p.2.2.1,([]:List (List Int)),())=
 (p,false,y4,p.1,p.2.1,p.2.2.1,y2,y3,!y3,p.1,y4,p.1,p.2.1,p.2.2.1,y4,y4,y5,p.1,p.2.1,p.2.2.1,p.1,p.2.1,
 p.2.2.1,[y4],[(0:Int)],El (fun (_:ByteArray)=>none) y5 (0:Int),[(0:Int)],[(0:Int)],p.1,p.2.1,p.2.2.1,([]:List (List Int)),PUnit.unit))∧
 [((0:Nat),(1:Nat)),((0:Nat),(1:Nat)),((0:Nat),(1:Nat)),((0:Nat),(1:Nat)),((0:Nat),(1:Nat)),((0:Nat),(1:Nat)),
 ((0:Nat),(1:Nat)),((0:Nat),(1:Nat)),((0:Nat),(1:Nat)),((0:Nat),(1:Nat)),((0:Nat),(1:Nat)),((0:Nat),(1:Nat)),
 ((0:Nat),(0:Nat))]=
 [((0:Nat),(1:Nat)),((0:Nat),(1:Nat)),((0:Nat),(1:Nat)),((0:Nat),(1:Nat)),((0:Nat),(1:Nat)),((0:Nat),(1:Nat)),
 ((0:Nat),(1:Nat)),((0:Nat),(1:Nat)),((0:Nat),(1:Nat)),((0:Nat),(1:Nat)),((0:Nat),(1:Nat)),((0:Nat),(1:Nat)),
 ((0:Nat),(0:Nat))]∧
 (p,false,y4,p.1,p.2.1,p.2.2.1,y2,y3,!y3,p.1,y4,p.1,p.2.1,p.2.2.1,y4,y4,y6,p.1,p.2.1,p.2.2.1,p.1,p.2.1,
 p.2.2.1,[y4],[(0:Int)],El (fun (_:ByteArray)=>none) y6 (0:Int),[(0:Int)],[(0:Int)],p.1,p.2.1,p.2.2.1,([]:List (List Int)),())=
 (p,false,y4,p.1,p.2.1,p.2.2.1,y2,y3,!y3,p.1,y4,p.1,p.2.1,p.2.2.1,y4,y4,y5,p.1,p.2.1,p.2.2.1,p.1,p.2.1,
 p.2.2.1,[y4],[(0:Int)],El (fun (_:ByteArray)=>none) y5 (0:Int),[(0:Int)],[(0:Int)],p.1,p.2.1,p.2.2.1,([]:List (List Int)),PUnit.unit))∧
 ([((0:Nat),(1:Nat)),((0:Nat),(1:Nat)),((0:Nat),(1:Nat)),((0:Nat),(1:Nat)),((0:Nat),(1:Nat)),((0:Nat),(1:Nat)),
 ((0:Nat),(1:Nat)),((0:Nat),(1:Nat)),((0:Nat),(1:Nat)),((0:Nat),(1:Nat)),((0:Nat),(1:Nat)),((0:Nat),(1:Nat)),
 ((0:Nat),(0:Nat))]=
 [((0:Nat),(1:Nat)),((0:Nat),(1:Nat)),((0:Nat),(1:Nat)),((0:Nat),(1:Nat)),((0:Nat),(1:Nat)),((0:Nat),(1:Nat)),
 ((0:Nat),(1:Nat)),((0:Nat),(1:Nat)),((0:Nat),(1:Nat)),((0:Nat),(1:Nat)),((0:Nat),(1:Nat)),((0:Nat),(1:Nat)),
 ((0:Nat),(0:Nat))]∧
 (p,false,y4,p.1,p.2.1,p.2.2.1,y2,y3,!y3,p.1,y4,p.1,p.2.1,p.2.2.1,y4,y4,y6,p.1,p.2.1,p.2.2.1,p.1,p.2.1,
 p.2.2.1,[y4],[(0:Int)],El (fun (_:ByteArray)=>none) y6 (0:Int),[(0:Int)],[(0:Int)],p.1,p.2.1,p.2.2.1,([]:List (List Int)),())=
 (p,false,y4,p.1,p.2.1,p.2.2.1,y2,y3,!y3,p.1,y4,p.1,p.2.1,p.2.2.1,y4,y4,y5,p.1,p.2.1,p.2.2.1,p.1,p.2.1,
 p.2.2.1,[y4],[(0:Int)],El (fun (_:ByteArray)=>none) y5 (0:Int),[(0:Int)],[(0:Int)],p.1,p.2.1,p.2.2.1,([]:List (List Int)),PUnit.unit))∧
 [((0:Nat),(1:Nat)),((0:Nat),(1:Nat)),((0:Nat),(1:Nat)),((0:Nat),(1:Nat)),((0:Nat),(1:Nat)),((0:Nat),(1:Nat)),
 ((0:Nat),(1:Nat)),((0:Nat),(1:Nat)),((0:Nat),(1:Nat)),((0:Nat),(1:Nat)),((0:Nat),(1:Nat)),((0:Nat),(1:Nat)),
 ((0:Nat),(0:Nat))]=
 [((0:Nat),(1:Nat)),((0:Nat),(1:Nat)),((0:Nat),(1:Nat)),((0:Nat),(1:Nat)),((0:Nat),(1:Nat)),((0:Nat),(1:Nat)),
 ((0:Nat),(1:Nat)),((0:Nat),(1:Nat)),((0:Nat),(1:Nat)),((0:Nat),(1:Nat)),((0:Nat),(1:Nat)),((0:Nat),(1:Nat)),
 ((0:Nat),(0:Nat))]∧
 (p,false,y4,p.1,p.2.1,p.2.2.1,y2,y3,!y3,p.1,y4,p.1,p.2.1,p.2.2.1,y4,y4,y6,p.1,p.2.1,p.2.2.1,p.1,p.2.1,
 p.2.2.1,[y4],[(0:Int)],El (fun (_:ByteArray)=>none) y6 (0:Int),[(0:Int)],[(0:Int)],p.1,p.2.1,p.2.2.1,([]:List (List Int)),())=
 (p,false,y4,p.1,p.2.1,p.2.2.1,y2,y3,!y3,p.1,y4,p.1,p.2.1,p.2.2.1,y4,y4,y5,p.1,p.2.1,p.2.2.1,p.1,p.2.1,
 p.2.2.1,[y4],[(0:Int)],El (fun (_:ByteArray)=>none) y5 (0:Int),[(0:Int)],[(0:Int)],p.1,p.2.1,p.2.2.1,[],PUnit.unit)))=fnW tab (look [(109,Jn),(108,Bg),(110,Lg),(111,Df),(112,Jl),(113,Aa3),(67,Aa2)]) Lf Try.f61 (p,()) P:=by kernel_rfl
theorem Ai1 {g:List (List Int)} {k:Int} {x:List Int} {d:Int} : ∀(ls:List Int) (s:EX) (row:List Int) (L':List (List Int)) (D':List Int),Fm g x d ls s.1 s.2.1=(L',D',true)→
  (Ai0 g k x d ls s row).1.1=L'∧(Ai0 g k x d ls s row).1.2.1=D'
 | [],s,row,L',D',h=>by
  simp only [Fm,Prod.mk.injEq] at h
  exact ⟨h.1,h.2.1⟩
 |l::ls,s,row,L',D',h=>by
  simp only [Fm] at h
  simp only [Ai0]
  by_cases hm:Aa x (Af g l)∈s.1
  ·rw [if_pos hm] at h
   rw [if_pos hm]
   exact Ai1 ls s _ L' D' h
  ·rw [if_neg hm] at h
   rw [if_neg hm]
   by_cases hf:s.1.length=3000
   ·rw [if_pos hf] at h
    simp at h
   ·rw [if_neg hf] at h
    exact Ai1 ls _ _ L' D' h
theorem Aqi {g:List (List Int)} {ls:List Int} : ∀(f k:Nat) (s:EX) (N:List (List Int)) (L':List (List Int)) (D':List Int),Gy g ls f k s.1 s.2.1=(L',D',true)→
  (Ak2 g ls f k s N).1.1=L'∧(Ak2 g ls f k s N).1.2.1=D'
 |0,k,s,N,L',D',h=>by
  simp only [Gy,Prod.mk.injEq] at h
  exact ⟨h.1,h.2.1⟩
 |f+1,k,s,N,L',D',h=>by
  simp only [Gy] at h
  simp only [Ak2]
  by_cases hk:k<s.1.length
  ·rw [if_pos hk] at h
   rw [if_pos hk]
   split at h
   ·rename_i L1 D1 he
    obtain ⟨a1,a2⟩:=Ai1 (k:=(k:Int)) ls s [] L1 D1 he
    refine Aqi f (k+1) _ _ L' D' ?_
    rw [a1,a2]
    exact h
   ·simp at h
  ·rw [if_neg hk] at h
   rw [if_neg hk]
   simp only [Prod.mk.injEq] at h
   exact ⟨h.1,h.2.1⟩
theorem Ad8 {key:ByteArray} {x:List Int} : ∀(L:List (List Int)) (i:Nat),Yc key (L++ [x]) i=if (Yc key L i).isSome=true then Yc key L i else if Jq x=key then some ((i+L.length:Nat):Int) else none
 | [],i=>by simp [Yc]
 |y::L,i=>by
  simp only [List.cons_append,Yc]
  split
  ·rfl
  ·rw [Ad8 L (i+1),List.length_cons,show i+1+L.length=i+(L.length+1) by omega]
theorem Aeq {x:List Int} (hx:Mc x): ∀(L:List (List Int)) (i:Nat),(∀y∈L,Mc y)→Yc (Jq x) L i=if x∈L then some ((i+L.idxOf x:Nat):Int) else none
 | [],i,_=>by simp [Yc]
 |y::L,i,h=>by
  have hy:=h y (by simp)
  simp only [Yc]
  by_cases e:y=x
  ·subst e
   rw [if_pos rfl,if_pos (by simp),List.idxOf_cons_self]
   rfl
  ·rw [if_neg fun hk=>e (key_inj hy hx hk),Aeq hx L (i+1) fun z hz=>h z (List.mem_cons_of_mem _ hz),show List.idxOf x (y::L)=(List.idxOf x L).succ by rw [List.idxOf_cons,beq_false_of_ne e];rfl]
   have:(x∈y::L)↔(x∈L):=by simp [Ne.symm e]
   by_cases hm:x∈L
   ·rw [if_pos hm,if_pos (this.2 hm),show i+1+List.idxOf x L=i+(List.idxOf x L).succ by omega]
   ·rw [if_neg hm,if_neg fun h=>hm (this.1 h)]
theorem Alz {x:List Int} {L:List (List Int)} (hx:Mc x) (hL: ∀y∈L,Mc y):Nk L (Jq x)=if x∈L then some (L.idxOf x:Int) else none:=by
 unfold Nk
 rw [Aeq hx L 0 hL,Nat.zero_add]
theorem Aly {x:List Int} {L:List (List Int)} (hx:Mc x) (hL: ∀y∈L,Mc y) (hn:x∉L):El (Nk L) (Jq x) (L.length:Int)=Nk (L++ [x]):=by
 funext key
 unfold El Nk
 rw [Ad8,Nat.zero_add]
 by_cases e:key=Jq x
 ·subst e
  rw [if_pos rfl,Aeq hx L 0 hL,if_neg hn,if_neg (by simp),if_pos rfl]
 ·rw [if_neg e,if_neg (c:=Jq x=key) fun h=>e h.symm]
  split
  ·rfl
  ·rename_i h
   cases hk:Yc key L 0 with
   |none=>rfl
   |some v=>rw [hk] at h;simp at h
theorem At6 (p:PP):Fl (Lp p) 1 3000=Ex p:=by
 unfold Ex
 by_cases hv:Bd p=true
 ·rw [hv,Bool.true_and,Aqd hv]
  rfl
 ·have hv:Bd p=false:=by simpa using hv
  rw [hv,Bool.false_and]
  have:Lp p=0:=by unfold Lp;rw [if_neg (by simp [hv])]
  rw [this]
  rfl
theorem Axj (p:PP) (h:Dn p):fnW tab (look [(109,Jn),(108,Bg),(110,Lg),(111,Df),(112,Jl),(113,Aa3),(67,Aa2)]) Lf Try.f61 (p,()) (fun (z:Option (PP×List (List Int)×List Int×(ByteArray→Option Int)×List Int×List Int×List (List Int)×Unit)×Bool×Unit)=>z=(if Ex p=true then (some (Mp p),true,()) else (none,false,()))):=by
 refine Eq.mp (Ayh p _) ⟨_,if_pos h,_,if_pos trivial,?_⟩
 show Br (!Fl (Lp p) 1 3000) _ _
 rw [At6 p]
 refine Br.of (fun hb=>?_) fun hb=>?_
 ·rw [if_neg (by simpa using hb)]
 have hw:Ex p=true:=by simpa using hb
 rw [if_pos hw]
 obtain ⟨hv,hbw⟩:=Bool.and_eq_true_iff.1 hw
 have hV:=valid hv
 have hfew:=hV.few
 have hn:=hV.n
 obtain ⟨pn,ps,g,⟨⟩⟩:=p
 dsimp only at hfew hn hbw⊢
 have hI:(upto pn.toNat).length≤20:=by rw [Ra];omega
 have hIr: ∀y∈upto pn.toNat,0≤y∧y<pn:=fun y hy=>by have:=Ih.1 hy;omega
 have hb0:=Zn (p:=(pn,ps,g,())) hI hIr
 obtain ⟨ls,hls⟩: ∃ls,Ba g.length=ls:=⟨_,rfl⟩
 have hll:ls.length≤16:=by rw [←hls,Kh];omega
 have hmem: ∀l∈ls,Fu (List.length g) l:=fun l hl=>Lb (hls▸hl)
 have hbyte: ∀x:List Int,(∀y∈x,0≤y∧y<pn)→Mc x:=fun x hx y hy=>by have:=hx y hy;omega
 have hstart:Gy g ls 3001 0 [upto pn.toNat] [0]=Fc g (upto pn.toNat):=by unfold Fc;rw [hls]
 have hk0:El (fun (_:ByteArray)=>(none:Option Int)) (Jq (upto pn.toNat)) 0=Nk [upto pn.toNat]:=by
  have:=Aly (L:= []) (hbyte _ hIr) (fun y hy=>by cases hy) (by simp)
  exact this
 refine ⟨upto pn.toNat,if_pos ⟨by show (0:Int)≤pn;omega,by show pn≤20;omega⟩,Jq (upto pn.toNat),if_pos (by show short (upto pn.toNat);unfold short;omega),⟨ls,?_,rfl,rfl,rfl,rfl,rfl,rfl,rfl,rfl,rfl,rfl,?_⟩,?_⟩
 ·refine (if_pos ⟨by show (0:Int)≤((g.length:Nat):Int);omega,by show ((g.length:Nat):Int)≤8;omega⟩).trans (congrArg some ?_)
  show Ba (((g.length:Nat):Int)).toNat=ls
  rw [Int.toNat_natCast];exact hls
 ·obtain ⟨R,hR⟩: ∃R,Ak2 g ls 3001 0 ([upto pn.toNat],[0],[0],[0]) []=R:=⟨_,rfl⟩
  have hexp:Mp (pn,ps,g,())=Bdh (pn,ps,g,()) R:=by unfold Mp;rw [hls];exact congrArg _ hR
  rw [hexp]
  refine Ch.mk (fun v=> ∃(k:Nat) (s:EX) (N:List (List Int)),v=((k:Int),pn,ps,g,s.1,s.2.1,Nk s.1,s.2.2.1,s.2.2.2,pn,ps,g,N,())∧k≤s.1.length∧Ol (pn,ps,g,()) (upto pn.toNat).length s.1 s.2.1∧s.2.2.1.length=s.1.length∧s.2.2.2.length=s.1.length∧N.length=k∧
    Gy g ls (3001-k) k s.1 s.2.1=Fc g (upto pn.toNat)∧Ak2 g ls (3001-k) k s N=R) (fun v=>3001-v.1.toNat)
   ⟨0,([upto pn.toNat],[0],[0],[0]),[],?_,by simp,hb0,rfl,rfl,rfl,hstart,hR⟩ ?_
  ·rw [←hk0];rfl
  rintro v ⟨k,s0,N,rfl,h1,h2,h3,h4,h5,h6,h7⟩
  obtain ⟨L0,D0,P0,B0⟩:=s0
  dsimp only at h1 h2 h3 h4 h6 h7⊢
  have hL0:=h2.ok.few
  have hD0:=h2.len
  obtain ⟨f,hf⟩: ∃f,3001-k=f+1:=⟨3000-k,by omega⟩
  refine Br.dec (fun hl=>?_) fun hl=>?_
  ·have hk:k<L0.length:=by omega
   have hkD:k<D0.length:=by omega
   have hx: ∀y∈L0[k],0≤y∧y<pn:=h2.row _ (List.getElem_mem hk)
   have hxl:L0[k].length=(upto pn.toNat).length:=h2.ok.len _ (List.getElem_mem hk)
   have hdk:=h2.dep k hkD
   have hxe:L0.getD k []=L0[k]:=Lm hk
   have hde:D0.getD k 0=D0[k]:=by rw [List.getD_eq_getElem?_getD,List.getElem?_eq_getElem hkD];rfl
   have hgo: ∀L' D' ok,Fm g L0[k] D0[k] ls L0 D0=(L',D',ok)→Fc g (upto pn.toNat)=if ok=true then Gy g ls f (k+1) L' D' else (L',D',false):=by
    intro L' D' ok he
    rw [←h6,hf,Gy,if_pos hk,hxe,hde,he]
    cases ok<;>rfl
   obtain ⟨E,hE⟩: ∃E,Ai0 g (k:Int) L0[k] D0[k] ls (L0,D0,P0,B0) []=E:=⟨_,rfl⟩
   have hex:R=Ak2 g ls f (k+1) E.1 (N++ [E.2]):=by
    rw [←h7,hf,Ak2,if_pos hk]
    dsimp only
    rw [hxe,hde,hE]
   refine ⟨⟨by omega,by omega⟩,L0[k],by rw [Int.toNat_natCast,Nat.zero_add];exact List.getElem?_eq_getElem hk,ls.map (fun l=>Aa L0[k] (Af g l)),?_,?_⟩
   ·refine (if_pos ⟨hv,by show L0[k].length≤20;omega,hx⟩).trans (congrArg some ?_)
    show Ao2 g L0[k]=_
    unfold Ao2
    rw [hls]
   refine ⟨rfl,rfl,rfl,rfl,rfl,rfl,rfl,rfl,rfl,rfl,rfl,rfl,?_⟩
   obtain ⟨nb,hnb⟩: ∃nb,ls.map (fun l=>Aa L0[k] (Af g l))=nb:=⟨_,rfl⟩
   have hnl:nb.length=ls.length:=by rw [←hnb,List.length_map]
   have hni: ∀i (h:i<ls.length),nb[i]'(by omega)=Aa L0[k] (Af g ls[i]):=fun i h=>by simp only [←hnb,List.getElem_map]
   rw [hnb]
   refine Ch.mk (fun v=> ∃(i:Nat) (row:List Int) (s:EX),v=((i:Int),pn,ps,g,row,s.1,s.2.1,Nk s.1,s.2.2.1,s.2.2.2,pn,ps,g,N,())∧i≤ls.length∧row.length=i∧Ol (pn,ps,g,()) (upto pn.toNat).length s.1 s.2.1∧s.2.2.1.length=s.1.length∧s.2.2.2.length=s.1.length∧
     (∃A,s.1=L0++A)∧(∃A,s.2.1=D0++A)∧Fm g L0[k] D0[k] (ls.drop i) s.1 s.2.1=Fm g L0[k] D0[k] ls L0 D0∧Ai0 g (k:Int) L0[k] D0[k] (ls.drop i) s row=E) (fun v=>ls.length-v.1.toNat)
    ⟨0,[],(L0,D0,P0,B0),rfl,Nat.zero_le _,rfl,h2,h3,h4,⟨[],by simp⟩,⟨[],by simp⟩,rfl,hE⟩ ?_
   rintro v ⟨i,row,s,rfl,g1,g2,g3,g4,g5,⟨A,g6⟩,⟨A',g7⟩,g8,g9⟩
   obtain ⟨L,D,Pa,By⟩:=s
   dsimp only at g3 g4 g5 g6 g7 g8 g9⊢
   have hLf:=g3.ok.few
   have hDl:=g3.len
   refine Br.dec (fun hli=>?_) fun hli=>?_
   ·have hi:i<ls.length:=by omega
    have hkL:k<L.length:=by rw [g6,List.length_append];omega
    have hkD2:k<D.length:=by rw [hDl];exact hkL
    have hDk:D[k]=D0[k]:=by simp only [g7];exact List.getElem_append_left hkD
    have hlet:=hmem _ (List.getElem_mem hi)
    obtain ⟨nl,nr⟩:=Ao5 hV hx hlet
    dsimp only at nl nr
    rw [List.drop_eq_getElem_cons hi] at g8 g9
    simp only [Fm] at g8
    simp only [Ai0] at g9
    have hyb:=hbyte _ nr
    refine ⟨_,Bc (by omega),?_⟩
    rw [hni i hi]
    generalize hyv:Aa L0[k] (Af g ls[i])=yv at*
    refine ⟨Jq yv,if_pos (by show short yv;unfold short;rw [nl];omega),?_⟩
    rw [Alz hyb fun y hy=>hbyte _ (g3.row y hy)]
    refine Br.of (fun hin=>?_) fun hin=>?_
    ·have hin:yv∉L:=fun hm=>by rw [if_pos hm] at hin;simp at hin
     rw [if_neg hin] at g8 g9
     by_cases hfull:L.length=3000
     ·rw [if_pos hfull] at g8
      have:=hgo _ _ _ g8.symm
      rw [if_neg (by decide)] at this
      rw [this] at hbw
      cases hbw
     rw [if_neg hfull] at g8
     refine ⟨_,if_pos trivial,rfl,rfl,?_,⟨by omega,by omega⟩,D0[k],?_,rfl,rfl,?_,rfl,rfl,?_,_,Bc hi,rfl,rfl,?_,rfl,rfl,?_,rfl,rfl,rfl,rfl,rfl,rfl,rfl,rfl,rfl,rfl,rfl,rfl,?_⟩
     ·show L.length+1≤4294967296;omega
     ·rw [Int.toNat_natCast,Nat.zero_add,List.getElem?_eq_getElem hkD2,hDk]
     ·show D.length+1≤4294967296;omega
     ·show Pa.length+1≤4294967296;omega
     ·show By.length+1≤4294967296;omega
     ·show row.length+1≤4294967296;omega
     ·dsimp only
      rw [Cx L,Cb (n:=D0[k]+1) (by omega) (by omega),At (by omega),Aly hyb (fun y hy=>hbyte _ (g3.row y hy)) hin]
      refine ⟨⟨i+1,row++ [(L.length:Int)],(L++ [yv],D++ [D0[k]+1],Pa++ [(k:Int)],By++ [ls[i]]),rfl,hi,by rw [List.length_append,g2];rfl,g3.add hin (by rw [nl,hxl]) (by omega) nr ⟨by omega,by omega⟩,?_,?_,⟨A++ [yv],by rw [g6,List.append_assoc]⟩,⟨A'++ [D0[k]+1],by rw [g7,List.append_assoc]⟩,g8,g9⟩,by omega⟩
      ·simp [g4]
      ·simp [g5]
    ·have hin:yv∈L:=Classical.byContradiction fun hm=>by rw [if_neg hm] at hin;simp at hin
     rw [if_pos hin] at g8 g9
     rw [if_pos hin]
     refine ⟨rfl,rfl,?_,rfl,rfl,rfl,rfl,rfl,rfl,rfl,rfl,rfl,rfl,rfl,rfl,?_⟩
     ·show row.length+1≤4294967296;omega
     ·rw [At (by omega)]
      exact ⟨⟨i+1,row++ [(L.idxOf yv:Int)],(L,D,Pa,By),rfl,hi,by rw [List.length_append,g2];rfl,g3,g4,g5,⟨A,g6⟩,⟨A',g7⟩,g8,g9⟩,by omega⟩
   ·have:i=ls.length:=by omega
    subst this
    rw [List.drop_length,Fm] at g8
    rw [List.drop_length,Ai0] at g9
    have:=hgo _ _ _ g8.symm
    rw [if_pos rfl] at this
    rw [Cx row,At (by omega)]
    refine ⟨rfl,rfl,?_,rfl,rfl,rfl,rfl,rfl,rfl,rfl,rfl,rfl,rfl,⟨k+1,(L,D,Pa,By),N++ [row],rfl,by rw [g6,List.length_append];omega,g3,g4,g5,by rw [List.length_append,h5];rfl,?_,?_⟩,by omega⟩
    ·show N.length+1≤4294967296;omega
    ·rw [show 3001-(k+1)=f by omega]
     exact this.symm
    ·rw [show 3001-(k+1)=f by omega,hex,←g9]
  ·have hk:k=L0.length:=by omega
   rw [hf,Ak2,if_neg (by show ¬k<L0.length;omega)] at h7
   subst h7
   simp only [List.drop_zero,List.take_length]
   rfl
 ·have hkey:Df.fn (upto pn.toNat,())=some (Jq (upto pn.toNat)):=if_pos (by show short (upto pn.toNat);unfold short;omega)
  repeat' (first|exact ⟨rfl,rfl⟩|refine ⟨_,hkey,?_⟩|refine ⟨?_,?_⟩)
theorem Akt:Sound Try.prog 61 Lf:=
 Sound.mkS Bw (Ad Afj (Ad Ma (Ad Wp (Ad Yx (Ad Aau (Ad Asg (Ad Asf Ax))))))) mixed Try.func61 (by kernel_rfl) (by kernel_rfl) fun x h=>Axj x.1 h
end Go.Proofs.Ytebabhocakedaaa

namespace Go.Proofs.Ytebabhocakedaaa
open Go.RowKit
abbrev XP:Type:=PP×List (List Int)×List Int×(ByteArray→Option Int)×List Int×List Int×List (List Int)×Unit
noncomputable def Eh (p:PP):List (List Int):=(Fc p.2.2.1 (upto p.1.toNat)).1
noncomputable def Aii (p:PP):List Int:=(Fc p.2.2.1 (upto p.1.toNat)).2.1
def Bde (e:XP):Prop:=Ex e.1=true∧e=Mp e.1
noncomputable def Arc (p:PP) (s:List Int):Int×Bool×Unit:=if s∈Eh p then ((List.idxOf s (Eh p):Nat),true,()) else (0,false,())
noncomputable def Ix (p:PP) (s:List Int):Bool:=Ex p&&decide (s∈Eh p)
noncomputable def Azn (e:Option XP) (s:List Int):Int×Bool×Unit:=match e with|some e=>Arc e.1 s|none=>(0,false,())
noncomputable abbrev Af7:Spec:=mkS (.pair (.optr Ae2) (.pair tL .unit)) (.pair tI (.pair .bool .unit)) true true (fun x=>(∃e:XP,x.1=some e∧Bde e)∧short x.2.1) (fun x=>Azn x.1 x.2.1)
noncomputable def Po (p:PP) (s:List Int):Option XP×Int×Bool×Unit:=if Ex p=true then (some (Mp p),(Arc p s).1,(Arc p s).2.1,()) else (none,0,false,())
noncomputable abbrev Pr:Spec:=mkS (.pair Cu (.pair tL .unit)) (.pair (.optr Ae2) (.pair tI (.pair .bool .unit))) true false (fun x=>Dn x.1∧short x.2.1) (fun x=>Po x.1 x.2.1)
abbrev Bdx:Ty:= .clo 104 (.pair (.ptr tL) .unit)
def Adc (goal s:List Int):Bool:=List.all goal fun x=>decide (Ga s x=x)
noncomputable abbrev Af9:Spec:=mkS (.pair tI (.pair (.ptr tL) .unit)) .bool false true (fun x=>short x.2.1∧0≤x.1∧x.1<List.length x.2.1) (fun x=>!decide (Ga x.2.1 x.1=x.1))
noncomputable abbrev Amn:Spec:=mkS (.pair tL (.pair Bdx .unit)) tI false true (fun x=>short x.1∧short x.2.1.1∧Hj (List.length x.2.1.1) x.1) (fun x=>Dl (fun y=>!decide (Ga x.2.1.1 y=y)) x.1 0)
noncomputable abbrev Amj:Spec:=mkS (.pair tL (.pair Bdx .unit)) .bool false true (fun x=>short x.1∧short x.2.1.1∧Hj (List.length x.2.1.1) x.1) (fun x=>List.any x.1 (fun y=>!decide (Ga x.2.1.1 y=y)))
noncomputable abbrev Ee:Spec:=mkS (.pair tL (.pair tL .unit)) .bool false true (fun x=>short x.1∧short x.2.1∧Hj (List.length x.2.1) x.1) (fun x=>Adc x.1 x.2.1)
noncomputable def Mq (p:PP) (goal s:List Int):Bool:=Ix p s&&Gm p.1 goal&&Adc goal s
noncomputable abbrev Gg:Spec:=mkS (.pair Cu (.pair tL (.pair tL .unit))) .bool false true (fun x=>Dn x.1∧short x.2.1∧short x.2.2.1) (fun x=>Mq x.1 x.2.1 x.2.2.1)
noncomputable def Uy (p:PP):SS×Bool×Unit:=if Bd p=true then (Gp p.2.2.1 (upto p.1.toNat),Ex p,()) else (([],[],[],false,()),false,())
noncomputable abbrev Na:Spec:=mkS (.pair Cu .unit) (.pair Vu (.pair .bool .unit)) true false (fun x=>Dn x.1) (fun x=>Uy x.1)
noncomputable abbrev Ps:Spec:=mkS (.pair Cu (.pair Vu (.pair tL .unit))) .bool false true (fun x=>Dn x.1∧short x.2.2.1∧Bd x.1=true∧x.2.1=Gp x.1.2.2.1 (upto x.1.1.toNat)) (fun x=>decide (x.2.2.1∈Eh x.1))
noncomputable abbrev Jm:Spec:=mkS (.pair Cu (.pair tL .unit)) .bool false true (fun x=>Dn x.1∧short x.2.1) (fun x=>Ix x.1 x.2.1)
noncomputable abbrev Af8:Spec:=mkS (.pair Cu (.pair tL (.pair tL .unit))) .bool false true (fun x=>Dn x.1∧short x.2.1∧short x.2.2.1) (fun _=>true)
theorem Bd6 (e:Option (PP×List (List Int)×List Int×(ByteArray→Option Int)×List Int×List Int×List (List Int)×Unit)) (s:List Int) (P:(Int×Bool×Unit)→Prop):(∃(y3:(Int×ByteArray×List (List Int)×PUnit)×List (List Int)×List Int×(ByteArray→Option Int)×List Int×List Int×List (List Int)×PUnit),
 e=some y3∧
 ∃(y4:Bool),
 Mw.fn (y3.1,s,())=some y4∧
 Br (!y4) (P ((0:Int),false,()))
 (∃(y5:(Int×ByteArray×List (List Int)×PUnit)×List (List Int)×List Int×(ByteArray→Option Int)×List Int×List Int×List (List Int)×PUnit),
 e=some y5∧ ∃(y6:ByteArray),Df.fn (s,())=some y6∧P ((y5.2.2.2.1 y6).getD (Int.ofNat (nat_lit 0)),(y5.2.2.2.1 y6).isSome,())))=fnW tab (look [(150,Mw),(111,Df)]) Af7 Try.f101 (e,s,()) P:=by kernel_rfl
theorem Amw (p:Int×ByteArray×List (List Int)×Unit) (s:List Int) (P:(Option (PP×List (List Int)×List Int×(ByteArray→Option Int)×List Int×List Int×List (List Int)×Unit)×Int×Bool×Unit)→Prop):(∃(y3:Option ((Int×ByteArray×List (List Int)×PUnit)×List (List Int)×List Int×(ByteArray→Option Int)×List Int×List Int×List (List Int)×PUnit)×Bool×PUnit),
 Lf.fn ((p.1,p.2.1,p.2.2.1,()),())=some y3∧
 Br (!y3.2.1) (P (none,(0:Int),false,())) (∃(y4:Int×Bool×PUnit),Af7.fn (y3.1,s,())=some y4∧P (y3.1,y4.1,y4.2.1,())))=fnW tab (look [(61,Lf),(101,Af7)]) Pr Try.f54 (p,s,()) P:=by kernel_rfl
theorem Bd9 (x:Int) (s:List Int) (P:Bool→Prop):(∃(y3:Int),idx s x=some y3∧P (y3 !=x))=fnW tab (look []) Af9 Try.f104 (x,s,()) P:=by kernel_rfl
theorem Be7 (xs:List Int) (c:List Int×Unit) (P:Int→Prop):(Ch
 (fun (v3:Int×PUnit) (k4:Int×PUnit→Prop)=>
 Br (decide (v3.1<(↑xs.length:Int)))
 (∃(y5:Int),idx xs v3.1=some y5∧ ∃(y6:Bool),Af9.fn (y5,c.1,())=some y6∧Br y6 (P v3.1) (k4 (IntKind.i64.wrap (v3.1+(1:Int)),()))) (P (-1:Int)))
 ((0:Int),PUnit.unit))=fnW tab (look [(104,Af9)]) Amn Try.f144 (xs,c,()) P:=by kernel_rfl
theorem Be2 (xs:List Int) (c:List Int×Unit) (P:Bool→Prop):(∃(y3:Int),Amn.fn (xs,c,())=some y3∧P (decide (y3≥(0:Int))))=fnW tab (look [(144,Amn)]) Amj Try.f103 (xs,c,()) P:=by kernel_rfl
theorem At2 (g s:List Int) (P:Bool→Prop):(∃(y3:Bool),Amj.fn (g,(s,()),())=some y3∧P !y3)=fnW tab (look [(103,Amj)]) Ee Try.f56 (g,s,()) P:=by kernel_rfl
theorem Al5 (p:Int×ByteArray×List (List Int)×Unit) (g s:List Int) (P:Bool→Prop):(∃(y4:Option ((Int×ByteArray×List (List Int)×PUnit)×List (List Int)×List Int×(ByteArray→Option Int)×List Int×List Int×List (List Int)×PUnit)×Int×Bool×PUnit),
 Pr.fn ((p.1,p.2.1,p.2.2.1,()),s,())=some y4∧
 Br y4.2.2.1 (∃(y5:Bool),Ed.fn (p.1,g,())=some y5∧Br y5 (∃(y6:Bool),Ee.fn (g,s,())=some y6∧P y6) (P false)) (P false))=fnW tab (look [(54,Pr),(55,Ed),(56,Ee)]) Gg Try.f19 (p,g,s,()) P:=by kernel_rfl
theorem Avs (p:Int×ByteArray×List (List Int)×Unit) (P:((List (List Int)×List Int×List Int×Bool×Unit)×Bool×Unit)→Prop):(∃(y2:Bool),
 Ei.fn ((p.1,p.2.1,p.2.2.1,()),())=some y2∧
 Br (!y2) (P ((List.take (0:Nat) (List.drop (0:Nat) []),List.take (0:Nat) (List.drop (0:Nat) []),List.take (0:Nat) (List.drop (0:Nat) []),false,()),false,()))
 (((((∃(y3:List Int),
 Bp.fn (p.1,())=some y3∧
 (∃(y4:List (List Int)×List Int×List Int×Bool×PUnit),
 Cp.fn ((p.1,p.2.1,p.2.2.1,()),y3,())=some y4∧
 ((P ((y4.1,y4.2.1,y4.2.2.1,y4.2.2.2.1,()),y4.2.2.2.1,())∧P ((y4.1,y4.2.1,y4.2.2.1,y4.2.2.2.1,()),y4.2.2.2.1,()))∧
 P ((y4.1,y4.2.1,y4.2.2.1,y4.2.2.2.1,()),y4.2.2.2.1,()))∧
 (P ((y4.1,y4.2.1,y4.2.2.1,y4.2.2.2.1,()),y4.2.2.2.1,())∧P ((y4.1,y4.2.1,y4.2.2.1,y4.2.2.2.1,()),y4.2.2.2.1,()))∧
 P ((y4.1,y4.2.1,y4.2.2.1,y4.2.2.2.1,()),y4.2.2.2.1,()))∧
 ∃(y4:List (List Int)×List Int×List Int×Bool×PUnit),
 Cp.fn ((p.1,p.2.1,p.2.2.1,()),y3,())=some y4∧
 ((P ((y4.1,y4.2.1,y4.2.2.1,y4.2.2.2.1,()),y4.2.2.2.1,())∧P ((y4.1,y4.2.1,y4.2.2.1,y4.2.2.2.1,()),y4.2.2.2.1,()))∧
 P ((y4.1,y4.2.1,y4.2.2.1,y4.2.2.2.1,()),y4.2.2.2.1,()))∧
 (P ((y4.1,y4.2.1,y4.2.2.1,y4.2.2.2.1,()),y4.2.2.2.1,())∧P ((y4.1,y4.2.1,y4.2.2.1,y4.2.2.2.1,()),y4.2.2.2.1,()))∧
 P ((y4.1,y4.2.1,y4.2.2.1,y4.2.2.2.1,()),y4.2.2.2.1,()))∧
 ∃(y3:List Int),
 Bp.fn (p.1,())=some y3∧
 ∃(y4:List (List Int)×List Int×List Int×Bool×PUnit),
 Cp.fn ((p.1,p.2.1,p.2.2.1,()),y3,())=some y4∧
 ((P ((y4.1,y4.2.1,y4.2.2.1,y4.2.2.2.1,()),y4.2.2.2.1,())∧P ((y4.1,y4.2.1,y4.2.2.1,y4.2.2.2.1,()),y4.2.2.2.1,()))∧
 P ((y4.1,y4.2.1,y4.2.2.1,y4.2.2.2.1,()),y4.2.2.2.1,()))∧
 (P ((y4.1,y4.2.1,y4.2.2.1,y4.2.2.2.1,()),y4.2.2.2.1,())∧P ((y4.1,y4.2.1,y4.2.2.1,y4.2.2.2.1,()),y4.2.2.2.1,()))∧
 P ((y4.1,y4.2.1,y4.2.2.1,y4.2.2.2.1,()),y4.2.2.2.1,()))∧
 ∃(y3:List Int),
 Bp.fn (p.1,())=some y3∧
 ∃(y4:List (List Int)×List Int×List Int×Bool×PUnit),
 Cp.fn ((p.1,p.2.1,p.2.2.1,()),y3,())=some y4∧
 ((P ((y4.1,y4.2.1,y4.2.2.1,y4.2.2.2.1,()),y4.2.2.2.1,())∧P ((y4.1,y4.2.1,y4.2.2.1,y4.2.2.2.1,()),y4.2.2.2.1,()))∧
 P ((y4.1,y4.2.1,y4.2.2.1,y4.2.2.2.1,()),y4.2.2.2.1,()))∧
 (P ((y4.1,y4.2.1,y4.2.2.1,y4.2.2.2.1,()),y4.2.2.2.1,())∧P ((y4.1,y4.2.1,y4.2.2.1,y4.2.2.2.1,()),y4.2.2.2.1,()))∧
 P ((y4.1,y4.2.1,y4.2.2.1,y4.2.2.2.1,()),y4.2.2.2.1,()))∧
 ∃(y3:List Int),
 Bp.fn (p.1,())=some y3∧
 ∃(y4:List (List Int)×List Int×List Int×Bool×PUnit),
 Cp.fn ((p.1,p.2.1,p.2.2.1,()),y3,())=some y4∧
 ((P ((y4.1,y4.2.1,y4.2.2.1,y4.2.2.2.1,()),y4.2.2.2.1,())∧P ((y4.1,y4.2.1,y4.2.2.1,y4.2.2.2.1,()),y4.2.2.2.1,()))∧
 P ((y4.1,y4.2.1,y4.2.2.1,y4.2.2.2.1,()),y4.2.2.2.1,()))∧
 (P ((y4.1,y4.2.1,y4.2.2.1,y4.2.2.2.1,()),y4.2.2.2.1,())∧P ((y4.1,y4.2.1,y4.2.2.1,y4.2.2.2.1,()),y4.2.2.2.1,()))∧
 P ((y4.1,y4.2.1,y4.2.2.1,y4.2.2.2.1,()),y4.2.2.2.1,()))∧
 ((((∃(y3:List Int),
 Bp.fn (p.1,())=some y3∧
 (∃(y4:List (List Int)×List Int×List Int×Bool×PUnit),
 Cp.fn ((p.1,p.2.1,p.2.2.1,()),y3,())=some y4∧
 ((P ((y4.1,y4.2.1,y4.2.2.1,y4.2.2.2.1,()),y4.2.2.2.1,())∧P ((y4.1,y4.2.1,y4.2.2.1,y4.2.2.2.1,()),y4.2.2.2.1,()))∧
 P ((y4.1,y4.2.1,y4.2.2.1,y4.2.2.2.1,()),y4.2.2.2.1,()))∧
 (P ((y4.1,y4.2.1,y4.2.2.1,y4.2.2.2.1,()),y4.2.2.2.1,())∧P ((y4.1,y4.2.1,y4.2.2.1,y4.2.2.2.1,()),y4.2.2.2.1,()))∧
 P ((y4.1,y4.2.1,y4.2.2.1,y4.2.2.2.1,()),y4.2.2.2.1,()))∧
 ∃(y4:List (List Int)×List Int×List Int×Bool×PUnit),
 Cp.fn ((p.1,p.2.1,p.2.2.1,()),y3,())=some y4∧
 ((P ((y4.1,y4.2.1,y4.2.2.1,y4.2.2.2.1,()),y4.2.2.2.1,())∧P ((y4.1,y4.2.1,y4.2.2.1,y4.2.2.2.1,()),y4.2.2.2.1,()))∧
 P ((y4.1,y4.2.1,y4.2.2.1,y4.2.2.2.1,()),y4.2.2.2.1,()))∧
 (P ((y4.1,y4.2.1,y4.2.2.1,y4.2.2.2.1,()),y4.2.2.2.1,())∧P ((y4.1,y4.2.1,y4.2.2.1,y4.2.2.2.1,()),y4.2.2.2.1,()))∧
 P ((y4.1,y4.2.1,y4.2.2.1,y4.2.2.2.1,()),y4.2.2.2.1,()))∧
 ∃(y3:List Int),
 Bp.fn (p.1,())=some y3∧
 ∃(y4:List (List Int)×List Int×List Int×Bool×PUnit),
 Cp.fn ((p.1,p.2.1,p.2.2.1,()),y3,())=some y4∧
 ((P ((y4.1,y4.2.1,y4.2.2.1,y4.2.2.2.1,()),y4.2.2.2.1,())∧P ((y4.1,y4.2.1,y4.2.2.1,y4.2.2.2.1,()),y4.2.2.2.1,()))∧
 P ((y4.1,y4.2.1,y4.2.2.1,y4.2.2.2.1,()),y4.2.2.2.1,()))∧
 (P ((y4.1,y4.2.1,y4.2.2.1,y4.2.2.2.1,()),y4.2.2.2.1,())∧P ((y4.1,y4.2.1,y4.2.2.1,y4.2.2.2.1,()),y4.2.2.2.1,()))∧
 P ((y4.1,y4.2.1,y4.2.2.1,y4.2.2.2.1,()),y4.2.2.2.1,()))∧
 ∃(y3:List Int),
 Bp.fn (p.1,())=some y3∧
 ∃(y4:List (List Int)×List Int×List Int×Bool×PUnit),
 Cp.fn ((p.1,p.2.1,p.2.2.1,()),y3,())=some y4∧
 ((P ((y4.1,y4.2.1,y4.2.2.1,y4.2.2.2.1,()),y4.2.2.2.1,())∧P ((y4.1,y4.2.1,y4.2.2.1,y4.2.2.2.1,()),y4.2.2.2.1,()))∧
 P ((y4.1,y4.2.1,y4.2.2.1,y4.2.2.2.1,()),y4.2.2.2.1,()))∧
 (P ((y4.1,y4.2.1,y4.2.2.1,y4.2.2.2.1,()),y4.2.2.2.1,())∧P ((y4.1,y4.2.1,y4.2.2.1,y4.2.2.2.1,()),y4.2.2.2.1,()))∧
 P ((y4.1,y4.2.1,y4.2.2.1,y4.2.2.2.1,()),y4.2.2.2.1,()))∧
 (((∃(y3:List Int),
 Bp.fn (p.1,())=some y3∧
 (∃(y4:List (List Int)×List Int×List Int×Bool×PUnit),
 Cp.fn ((p.1,p.2.1,p.2.2.1,()),y3,())=some y4∧
 ((P ((y4.1,y4.2.1,y4.2.2.1,y4.2.2.2.1,()),y4.2.2.2.1,())∧P ((y4.1,y4.2.1,y4.2.2.1,y4.2.2.2.1,()),y4.2.2.2.1,()))∧
 P ((y4.1,y4.2.1,y4.2.2.1,y4.2.2.2.1,()),y4.2.2.2.1,()))∧
 (P ((y4.1,y4.2.1,y4.2.2.1,y4.2.2.2.1,()),y4.2.2.2.1,())∧P ((y4.1,y4.2.1,y4.2.2.1,y4.2.2.2.1,()),y4.2.2.2.1,()))∧
 P ((y4.1,y4.2.1,y4.2.2.1,y4.2.2.2.1,()),y4.2.2.2.1,()))∧
 ∃(y4:List (List Int)×List Int×List Int×Bool×PUnit),
 Cp.fn ((p.1,p.2.1,p.2.2.1,()),y3,())=some y4∧
 ((P ((y4.1,y4.2.1,y4.2.2.1,y4.2.2.2.1,()),y4.2.2.2.1,())∧P ((y4.1,y4.2.1,y4.2.2.1,y4.2.2.2.1,()),y4.2.2.2.1,()))∧
 P ((y4.1,y4.2.1,y4.2.2.1,y4.2.2.2.1,()),y4.2.2.2.1,()))∧
 (P ((y4.1,y4.2.1,y4.2.2.1,y4.2.2.2.1,()),y4.2.2.2.1,())∧P ((y4.1,y4.2.1,y4.2.2.1,y4.2.2.2.1,()),y4.2.2.2.1,()))∧
 P ((y4.1,y4.2.1,y4.2.2.1,y4.2.2.2.1,()),y4.2.2.2.1,()))∧
 ∃(y3:List Int),
 Bp.fn (p.1,())=some y3∧
 ∃(y4:List (List Int)×List Int×List Int×Bool×PUnit),
 Cp.fn ((p.1,p.2.1,p.2.2.1,()),y3,())=some y4∧
 ((P ((y4.1,y4.2.1,y4.2.2.1,y4.2.2.2.1,()),y4.2.2.2.1,())∧P ((y4.1,y4.2.1,y4.2.2.1,y4.2.2.2.1,()),y4.2.2.2.1,()))∧
 P ((y4.1,y4.2.1,y4.2.2.1,y4.2.2.2.1,()),y4.2.2.2.1,()))∧
 (P ((y4.1,y4.2.1,y4.2.2.1,y4.2.2.2.1,()),y4.2.2.2.1,())∧P ((y4.1,y4.2.1,y4.2.2.1,y4.2.2.2.1,()),y4.2.2.2.1,()))∧
 P ((y4.1,y4.2.1,y4.2.2.1,y4.2.2.2.1,()),y4.2.2.2.1,()))∧
 (∃(y3:List Int),
 Bp.fn (p.1,())=some y3∧
 ((∃(y4:List (List Int)×List Int×List Int×Bool×PUnit),
 Cp.fn ((p.1,p.2.1,p.2.2.1,()),y3,())=some y4∧
 ((P ((y4.1,y4.2.1,y4.2.2.1,y4.2.2.2.1,()),y4.2.2.2.1,())∧P ((y4.1,y4.2.1,y4.2.2.1,y4.2.2.2.1,()),y4.2.2.2.1,()))∧
 P ((y4.1,y4.2.1,y4.2.2.1,y4.2.2.2.1,()),y4.2.2.2.1,()))∧
 (P ((y4.1,y4.2.1,y4.2.2.1,y4.2.2.2.1,()),y4.2.2.2.1,())∧P ((y4.1,y4.2.1,y4.2.2.1,y4.2.2.2.1,()),y4.2.2.2.1,()))∧
 P ((y4.1,y4.2.1,y4.2.2.1,y4.2.2.2.1,()),y4.2.2.2.1,()))∧
 ∃(y4:List (List Int)×List Int×List Int×Bool×PUnit),
 Cp.fn ((p.1,p.2.1,p.2.2.1,()),y3,())=some y4∧
 ((P ((y4.1,y4.2.1,y4.2.2.1,y4.2.2.2.1,()),y4.2.2.2.1,())∧P ((y4.1,y4.2.1,y4.2.2.1,y4.2.2.2.1,()),y4.2.2.2.1,()))∧
 P ((y4.1,y4.2.1,y4.2.2.1,y4.2.2.2.1,()),y4.2.2.2.1,()))∧
 (P ((y4.1,y4.2.1,y4.2.2.1,y4.2.2.2.1,()),y4.2.2.2.1,())∧P ((y4.1,y4.2.1,y4.2.2.1,y4.2.2.2.1,()),y4.2.2.2.1,()))∧
 P ((y4.1,y4.2.1,y4.2.2.1,y4.2.2.2.1,()),y4.2.2.2.1,()))∧
 ∃(y4:List (List Int)×List Int×List Int×Bool×PUnit),
 Cp.fn ((p.1,p.2.1,p.2.2.1,()),y3,())=some y4∧
 ((P ((y4.1,y4.2.1,y4.2.2.1,y4.2.2.2.1,()),y4.2.2.2.1,())∧P ((y4.1,y4.2.1,y4.2.2.1,y4.2.2.2.1,()),y4.2.2.2.1,()))∧
 P ((y4.1,y4.2.1,y4.2.2.1,y4.2.2.2.1,()),y4.2.2.2.1,()))∧
 (P ((y4.1,y4.2.1,y4.2.2.1,y4.2.2.2.1,()),y4.2.2.2.1,())∧P ((y4.1,y4.2.1,y4.2.2.1,y4.2.2.2.1,()),y4.2.2.2.1,()))∧
 P ((y4.1,y4.2.1,y4.2.2.1,y4.2.2.2.1,()),y4.2.2.2.1,()))∧
 (∃(y3:List Int),
 Bp.fn (p.1,())=some y3∧
 ∃(y4:List (List Int)×List Int×List Int×Bool×PUnit),
 Cp.fn ((p.1,p.2.1,p.2.2.1,()),y3,())=some y4∧
 ((P ((y4.1,y4.2.1,y4.2.2.1,y4.2.2.2.1,()),y4.2.2.2.1,())∧P ((y4.1,y4.2.1,y4.2.2.1,y4.2.2.2.1,()),y4.2.2.2.1,()))∧
 P ((y4.1,y4.2.1,y4.2.2.1,y4.2.2.2.1,()),y4.2.2.2.1,()))∧
 (P ((y4.1,y4.2.1,y4.2.2.1,y4.2.2.2.1,()),y4.2.2.2.1,())∧P ((y4.1,y4.2.1,y4.2.2.1,y4.2.2.2.1,()),y4.2.2.2.1,()))∧
 P ((y4.1,y4.2.1,y4.2.2.1,y4.2.2.2.1,()),y4.2.2.2.1,()))∧
 ∃(y3:List Int),
 Bp.fn (p.1,())=some y3∧
 ∃(y4:List (List Int)×List Int×List Int×Bool×PUnit),
 Cp.fn ((p.1,p.2.1,p.2.2.1,()),y3,())=some y4∧
 ((P ((y4.1,y4.2.1,y4.2.2.1,y4.2.2.2.1,()),y4.2.2.2.1,())∧P ((y4.1,y4.2.1,y4.2.2.1,y4.2.2.2.1,()),y4.2.2.2.1,()))∧
 P ((y4.1,y4.2.1,y4.2.2.1,y4.2.2.2.1,()),y4.2.2.2.1,()))∧
 (P ((y4.1,y4.2.1,y4.2.2.1,y4.2.2.2.1,()),y4.2.2.2.1,())∧P ((y4.1,y4.2.1,y4.2.2.1,y4.2.2.2.1,()),y4.2.2.2.1,()))∧
 P ((y4.1,y4.2.1,y4.2.2.1,y4.2.2.2.1,()),y4.2.2.2.1,()))∧
 (∃(y3:List Int),
 Bp.fn (p.1,())=some y3∧
 ∃(y4:List (List Int)×List Int×List Int×Bool×PUnit),
 Cp.fn ((p.1,p.2.1,p.2.2.1,()),y3,())=some y4∧
 ((P ((y4.1,y4.2.1,y4.2.2.1,y4.2.2.2.1,()),y4.2.2.2.1,())∧P ((y4.1,y4.2.1,y4.2.2.1,y4.2.2.2.1,()),y4.2.2.2.1,()))∧
 P ((y4.1,y4.2.1,y4.2.2.1,y4.2.2.2.1,()),y4.2.2.2.1,()))∧
 (P ((y4.1,y4.2.1,y4.2.2.1,y4.2.2.2.1,()),y4.2.2.2.1,())∧P ((y4.1,y4.2.1,y4.2.2.1,y4.2.2.2.1,()),y4.2.2.2.1,()))∧
 P ((y4.1,y4.2.1,y4.2.2.1,y4.2.2.2.1,()),y4.2.2.2.1,()))∧
 (∃(y3:List Int),
 Bp.fn (p.1,())=some y3∧
 ∃(y4:List (List Int)×List Int×List Int×Bool×PUnit),
 Cp.fn ((p.1,p.2.1,p.2.2.1,()),y3,())=some y4∧
 ((P ((y4.1,y4.2.1,y4.2.2.1,y4.2.2.2.1,()),y4.2.2.2.1,())∧P ((y4.1,y4.2.1,y4.2.2.1,y4.2.2.2.1,()),y4.2.2.2.1,()))∧
 P ((y4.1,y4.2.1,y4.2.2.1,y4.2.2.2.1,()),y4.2.2.2.1,()))∧
 (P ((y4.1,y4.2.1,y4.2.2.1,y4.2.2.2.1,()),y4.2.2.2.1,())∧P ((y4.1,y4.2.1,y4.2.2.1,y4.2.2.2.1,()),y4.2.2.2.1,()))∧
 P ((y4.1,y4.2.1,y4.2.2.1,y4.2.2.2.1,()),y4.2.2.2.1,()))∧
 ∃(y3:List Int),
 Bp.fn (p.1,())=some y3∧
 ∃(y4:List (List Int)×List Int×List Int×Bool×PUnit),
 Cp.fn ((p.1,p.2.1,p.2.2.1,()),y3,())=some y4∧
 ((P ((y4.1,y4.2.1,y4.2.2.1,y4.2.2.2.1,()),y4.2.2.2.1,())∧P ((y4.1,y4.2.1,y4.2.2.1,y4.2.2.2.1,()),y4.2.2.2.1,()))∧
 P ((y4.1,y4.2.1,y4.2.2.1,y4.2.2.2.1,()),y4.2.2.2.1,()))∧
 (P ((y4.1,y4.2.1,y4.2.2.1,y4.2.2.2.1,()),y4.2.2.2.1,())∧P ((y4.1,y4.2.1,y4.2.2.1,y4.2.2.2.1,()),y4.2.2.2.1,()))∧
 P ((y4.1,y4.2.1,y4.2.2.1,y4.2.2.2.1,()),y4.2.2.2.1,()))∧
 (∃(y3:List Int),
 Bp.fn (p.1,())=some y3∧
 ∃(y4:List (List Int)×List Int×List Int×Bool×PUnit),
 Cp.fn ((p.1,p.2.1,p.2.2.1,()),y3,())=some y4∧
 ((P ((y4.1,y4.2.1,y4.2.2.1,y4.2.2.2.1,()),y4.2.2.2.1,())∧P ((y4.1,y4.2.1,y4.2.2.1,y4.2.2.2.1,()),y4.2.2.2.1,()))∧
 P ((y4.1,y4.2.1,y4.2.2.1,y4.2.2.2.1,()),y4.2.2.2.1,()))∧
 (P ((y4.1,y4.2.1,y4.2.2.1,y4.2.2.2.1,()),y4.2.2.2.1,())∧P ((y4.1,y4.2.1,y4.2.2.1,y4.2.2.2.1,()),y4.2.2.2.1,()))∧
 P ((y4.1,y4.2.1,y4.2.2.1,y4.2.2.2.1,()),y4.2.2.2.1,()))∧
 (∃(y3:List Int),
 Bp.fn (p.1,())=some y3∧
 ∃(y4:List (List Int)×List Int×List Int×Bool×PUnit),
 Cp.fn ((p.1,p.2.1,p.2.2.1,()),y3,())=some y4∧
 ((P ((y4.1,y4.2.1,y4.2.2.1,y4.2.2.2.1,()),y4.2.2.2.1,())∧P ((y4.1,y4.2.1,y4.2.2.1,y4.2.2.2.1,()),y4.2.2.2.1,()))∧
 P ((y4.1,y4.2.1,y4.2.2.1,y4.2.2.2.1,()),y4.2.2.2.1,()))∧
 (P ((y4.1,y4.2.1,y4.2.2.1,y4.2.2.2.1,()),y4.2.2.2.1,())∧P ((y4.1,y4.2.1,y4.2.2.1,y4.2.2.2.1,()),y4.2.2.2.1,()))∧
 P ((y4.1,y4.2.1,y4.2.2.1,y4.2.2.2.1,()),y4.2.2.2.1,()))∧
 (∃(y3:List Int),
 Bp.fn (p.1,())=some y3∧
 ∃(y4:List (List Int)×List Int×List Int×Bool×PUnit),
 Cp.fn ((p.1,p.2.1,p.2.2.1,()),y3,())=some y4∧
 ((P ((y4.1,y4.2.1,y4.2.2.1,y4.2.2.2.1,()),y4.2.2.2.1,())∧P ((y4.1,y4.2.1,y4.2.2.1,y4.2.2.2.1,()),y4.2.2.2.1,()))∧
 P ((y4.1,y4.2.1,y4.2.2.1,y4.2.2.2.1,()),y4.2.2.2.1,()))∧
 (P ((y4.1,y4.2.1,y4.2.2.1,y4.2.2.2.1,()),y4.2.2.2.1,())∧P ((y4.1,y4.2.1,y4.2.2.1,y4.2.2.2.1,()),y4.2.2.2.1,()))∧
 P ((y4.1,y4.2.1,y4.2.2.1,y4.2.2.2.1,()),y4.2.2.2.1,()))∧
 ∃(y3:List Int),
 Bp.fn (p.1,())=some y3∧
 ∃(y4:List (List Int)×List Int×List Int×Bool×PUnit),
 Cp.fn ((p.1,p.2.1,p.2.2.1,()),y3,())=some y4∧
 ((P ((y4.1,y4.2.1,y4.2.2.1,y4.2.2.2.1,()),y4.2.2.2.1,())∧P ((y4.1,y4.2.1,y4.2.2.1,y4.2.2.2.1,()),y4.2.2.2.1,()))∧
 P ((y4.1,y4.2.1,y4.2.2.1,y4.2.2.2.1,()),y4.2.2.2.1,()))∧
 (P ((y4.1,y4.2.1,y4.2.2.1,y4.2.2.2.1,()),y4.2.2.2.1,())∧P ((y4.1,y4.2.1,y4.2.2.1,y4.2.2.2.1,()),y4.2.2.2.1,()))∧
 P ((y4.1,y4.2.1,y4.2.2.1,y4.2.2.2.1,()),y4.2.2.2.1,())))=fnW tab (look [(99,Ei),(106,Bp),(105,Cp)]) Na Try.f57 (p,()) P:=by kernel_rfl
theorem Ayi (p:Int×ByteArray×List (List Int)×Unit) (f:List (List Int)×List Int×List Int×Bool×Unit) (s:List Int) (P:Bool→Prop):(∃(y4:Bool),
 Pw.fn ((p.1,p.2.1,p.2.2.1,()),s,())=some y4∧
 Br y4 (∃(y5:Int),Lw.fn ((f.1,f.2.1,f.2.2.1,f.2.2.2.1,()),s,())=some y5∧P (decide (y5≥(0:Int)))) (P false))=fnW tab (look [(118,Pw),(69,Lw)]) Ps Try.f68 (p,f,s,()) P:=by kernel_rfl
theorem Apj (p:Int×ByteArray×List (List Int)×Unit) (s:List Int) (P:Bool→Prop):(∃(y3:(List (List Int)×List Int×List Int×Bool×PUnit)×Bool×PUnit),
 Na.fn ((p.1,p.2.1,p.2.2.1,()),())=some y3∧
 Br y3.2.1 (∃(y4:Bool),Ps.fn ((p.1,p.2.1,p.2.2.1,()),(y3.1.1,y3.1.2.1,y3.1.2.2.1,y3.1.2.2.2.1,()),s,())=some y4∧P y4) (P false))=fnW tab (look [(57,Na),(68,Ps)]) Jm Try.f52 (p,s,()) P:=by kernel_rfl
theorem At0 (g s:List Int) (P:Bool→Prop):(Ch
 (fun (v3:Int×PUnit) (k4:Int×PUnit→Prop)=>
 Br (decide (v3.1<(↑g.length:Int)))
 (∃(y5:Int),idx g v3.1=some y5∧ ∃(y6:Int),idx s y5=some y6∧ ∃(y7:Int),idx g v3.1=some y7∧Br (y6 !=y7) (P false) (k4 (IntKind.i64.wrap (v3.1+(1:Int)),())))
 (P true))
 ((0:Int),PUnit.unit))=fnW tab (look []) Ee Try.f53 (g,s,()) P:=by kernel_rfl
theorem Al9 (p:Int×ByteArray×List (List Int)×Unit) (g s:List Int) (P:Bool→Prop):(∃(y4:Bool),
 Jo.fn ((p.1,p.2.1,p.2.2.1,()),g,())=some y4∧
 Br y4 (∃(y5:Bool),Jm.fn ((p.1,p.2.1,p.2.2.1,()),s,())=some y5∧Br y5 (∃(y6:Bool),Ee.fn (g,s,())=some y6∧P y6) (P false)) (P false))=fnW tab (look [(51,Jo),(52,Jm),(53,Ee)]) Gg Try.f16 (p,g,s,()) P:=by kernel_rfl
theorem Api (p:Int×ByteArray×List (List Int)×Unit) (a b:List Int) (P:Bool→Prop):(Br (decide ((↑a.length:Int)>(1048576:Int))) (P true)
 (Br (decide ((↑b.length:Int)>(1048576:Int))) (P true)
 (∃(y4:Int),
 Amp.fn ((p.1,p.2.1,p.2.2.1,()),(1048576:Int),())=some y4∧
 Br (decide (y4<(0:Int))) (P true)
 (∃(y5:Int×ByteArray×List (List Int)×PUnit),
 Age.fn ((p.1,p.2.1,p.2.2.1,()),())=some y5∧
 ∃(y6:List Int),
 Ru.fn (a,())=some y6∧
 ∃(y7:List Int),
 Ru.fn (b,())=some y7∧
 ∃(y8:Bool),
 Gg.fn (y5,y6,y7,())=some y8∧
 ∃(y9:Int×ByteArray×List (List Int)×PUnit),
 Age.fn ((p.1,p.2.1,p.2.2.1,()),())=some y9∧
 ∃(y10:List Int),
 Ru.fn (a,())=some y10∧
 ∃(y11:List Int),
 Ru.fn (b,())=some y11∧
 ∃(y12:Bool),
 Gg.fn ((y9.1,y9.2.1,y9.2.2.1,()),y10,y11,())=some y12∧
 Br (!y12==y8) (P false)
 (∃(y13:Int×ByteArray×List (List Int)×PUnit),
 Age.fn ((p.1,p.2.1,p.2.2.1,()),())=some y13∧
 ∃(y14:Bool),
 Amk.fn ((y9.1,y9.2.1,y9.2.2.1,()),y13,())=some y14∧
 Br (!y14) (P false)
 (∃(y15:List Int),
 Ru.fn (a,())=some y15∧
 ∃(y16:Bool),
 Cr.fn (y10,y15,())=some y16∧
 Br (!y16) (P false)
 (∃(y17:List Int),
 Ru.fn (b,())=some y17∧ ∃(y18:Bool),Cr.fn (y11,y17,())=some y18∧Br (!y18) (P false) (P true))))))))=fnW tab (look [(15,Amp),(16,Gg),(19,Gg),(17,Age),(18,Ru),(20,Amk),(21,Cr)]) Af8 Try.f3 (p,a,b,()) P:=by kernel_rfl
theorem Ax3 {p:List Int} (h:Qa p):Eg p=true:=by
 refine En.2 ⟨h.pos,h.len,fun j h1 h2=>?_⟩
 have:=h.row _ (List.getElem_mem h2)
 exact ⟨by omega,by omega,fun hm=>by
  obtain ⟨i,hi,e⟩:=List.mem_iff_getElem.1 hm
  have hi':i<j:=by rw [List.length_take] at hi;omega
  rw [List.getElem_take] at e
  exact (List.pairwise_iff_getElem.1 h.nodup i j (by omega) h2 hi') e⟩
theorem Lj {p:PP} (hw:Ex p=true):Bd p=true∧(Fc p.2.2.1 (upto p.1.toNat)).2.2=true:=Bool.and_eq_true_iff.1 hw
theorem Bac {p:PP} (hv:Bd p=true):Ol p p.1.toNat (Eh p) (Aii p):=(Aj2 hv).ok
theorem Az5 {p:PP} (hV:Valid p):PmS p.1.toNat fun g=>some g∈p.2.2.1.map some:=
 ⟨by have:=hV.n;omega,fun g hg'=>by obtain ⟨g',e,h⟩:=Aiz (Aci hV).2.2 _ hg';cases e;exact h⟩
theorem Bc8 {p:PP} (hv:Bd p=true) {x:List Int} (hx:x∈Eh p):Pm p.1.toNat x:=Gen.pm (Az5 (valid hv)) ((Aj2 hv).gen x hx)
theorem Bcy {p:PP} (hV:Valid p) {x:List Int} (h:Pm p.1.toNat x):Dh p.1 x=true:=by
 have:=hV.n
 have:=h.1
 exact En.2 ⟨by omega,Ax3 h.2⟩
theorem Az4 {p:PP} (_hV:Valid p) {x:List Int} (h:Dh p.1 x=true):Pm p.1.toNat x:=by
 obtain ⟨h1,h2⟩:=En.1 h
 exact ⟨by omega,Af2 h2⟩
theorem Bab {p:PP} (hv:Bd p=true) {x:List Int} (hx:x∈Eh p):Dh p.1 x=true:=Bcy (valid hv) (Bc8 hv hx)
theorem Bbm {p:PP} (hv:Bd p=true) {x:List Int} (hx:x∈Eh p):Mc x:=fun y hy=>by
 have h1:=(Bac hv).row x hx y hy
 have:=(valid hv).n
 omega
theorem Bbj {n:Nat} {x:List Int} (h:Pm n x):Mc x:=fun y hy=>by
 have h1:=h.row y hy
 have:=h.n2
 omega
theorem Bb6 {p:PP} (hw:Ex p=true):(Mp p).2.1=Eh p∧(Mp p).2.2.1=Aii p:=by
 have h:=(Lj hw).2
 refine Aqi 3001 0 ([upto p.1.toNat],[0],[0],[0]) [] _ _ ?_
 show Gy p.2.2.1 (Ba p.2.2.1.length) 3001 0 [upto p.1.toNat] [0]=(Eh p,Aii p,true)
 rw [←h]
 rfl
theorem Bb5 {p:PP} (hw:Ex p=true) {s:List Int} (hs:Mc s):(Mp p).2.2.2.1 (Jq s)=if s∈Eh p then some (((Eh p).idxOf s:Nat):Int) else none:=by
 show Nk (Mp p).2.1 (Jq s)=_
 rw [(Bb6 hw).1,Alz hs fun y hy=>Bbm (Lj hw).1 hy]
theorem Bcr (e:Option XP) (s:List Int) (h:(∃e':XP,e=some e'∧Bde e')∧short s):fnW tab (look [(150,Mw),(111,Df)]) Af7 Try.f101 (e,s,()) (fun (z:Int×Bool×Unit)=>z=Azn e s):=by
 obtain ⟨⟨e',rfl,h1,h2⟩,hs⟩:=h
 have hv:=(Lj h1).1
 refine Eq.mp (Bd6 (some e') s _) ⟨e',rfl,_,if_pos hs,Br.of (fun hb=>?_) fun hb=>⟨e',rfl,_,if_pos hs,?_⟩⟩
 ·have hb:=Dx hb
  show (0,false,())=Arc e'.1 s
  unfold Arc
  rw [if_neg fun hm=>hb (Bab hv hm)]
 ·have hb:Dh e'.1.1 s=true:=by simpa using hb
  have hp:=Az4 (valid hv) hb
  dsimp only
  have e3:e'.2.2.2.1=(Mp e'.1).2.2.2.1:=by rw [←h2]
  rw [e3,Bb5 h1 (Bbj hp)]
  show _=Arc e'.1 s
  unfold Arc
  split<;>rfl
theorem Avc:Sound Try.prog 101 Af7:=
 Sound.mkS Bw (Ad Ac3 (Ad Yx Ax)) mixed Try.func101 (by kernel_rfl) (by kernel_rfl) fun x h=>Bcr x.1 x.2.1 h
theorem Axi (p:PP) (s:List Int) (h:Dn p∧short s):fnW tab (look [(61,Lf),(101,Af7)]) Pr Try.f54 (p,s,()) (fun (z:Option XP×Int×Bool×Unit)=>z=Po p s):=by
 unfold Po
 by_cases hw:Ex p=true
 ·rw [if_pos hw]
  have he:Lf.fn ((p.1,p.2.1,p.2.2.1,()),())=some (some (Mp p),true,()):=(if_pos h.1).trans (congrArg some (if_pos hw))
  refine Eq.mp (Amw p s _) ⟨_,he,fun hb=>by simp at hb,fun _=>⟨_,if_pos ⟨⟨Mp p,rfl,hw,rfl⟩,h.2⟩,?_⟩⟩
  rfl
 ·rw [if_neg hw]
  have he:Lf.fn ((p.1,p.2.1,p.2.2.1,()),())=some (none,false,()):=(if_pos h.1).trans (congrArg some (if_neg hw))
  exact Eq.mp (Amw p s _) ⟨_,he,fun _=>rfl,fun hb=>by simp at hb⟩
theorem Aks:Sound Try.prog 54 Pr:=
 Sound.mkS Bw (Ad Akt (Ad Avc Ax)) mixed Try.func54 (by kernel_rfl) (by kernel_rfl) fun x h=>Axi x.1 x.2.1 h
theorem Azh {s goal:List Int} (h:Hj s.length goal) {j:Nat} (hj:j<goal.length):0≤goal[j]∧goal[j]<s.length:=h _ (List.getElem_mem hj)
theorem Bcu (x:Int) (s:List Int) (h:short s∧0≤x∧x<(s.length:Int)):fnW tab (look []) Af9 Try.f104 (x,s,()) (fun (z:Bool)=>z=!decide (Ga s x=x)):=by
 obtain ⟨_,h1,h2⟩:=h
 obtain ⟨xn,rfl⟩:=Int.eq_ofNat_of_zero_le h1
 refine Eq.mp (Bd9 (xn:Int) s _) ⟨_,Bc (by omega),?_⟩
 have e:Ga s (xn:Int)=s[xn]'(by omega):=by unfold Ga;rw [Int.toNat_natCast,Aw9]
 rw [e,Bool.eq_iff_iff]
 simp
theorem Ave:Sound Try.prog 104 Af9:=
 Sound.mkS Bw Ax mixed Try.func104 (by kernel_rfl) (by kernel_rfl) fun x h=>Bcu x.1 x.2.1 h
theorem Bdr (xs:List Int) (c:List Int×Unit) (h:short xs∧short c.1∧Hj (List.length c.1) xs):fnW tab (look [(104,Af9)]) Amn Try.f144 (xs,c,()) (fun (z:Int)=>z=Dl (fun y=>!decide (Ga c.1 y=y)) xs 0):=by
 obtain ⟨h,h4,h5⟩:=h
 unfold short at h
 refine Eq.mp (Be7 xs c _) ?_
 refine Az xs.length (fun v=>v.1) (fun j _=>Dl (fun y=>!decide (Ga c.1 y=y)) (xs.drop j) j=Dl (fun y=>!decide (Ga c.1 y=y)) xs 0) rfl (by simp) ?_
 rintro j ⟨i,⟨⟩⟩ K hj hi hR hK
 dsimp only at hi⊢
 subst hi
 refine Br.dec (fun hl=>?_) fun hl=>?_
 ·have hl:j<xs.length:=by omega
  rw [List.drop_eq_getElem_cons hl] at hR
  simp only [Dl] at hR
  refine ⟨_,Bc hl,_,if_pos ⟨h4,Azh h5 hl⟩,⟨fun he=>?_,fun he=>?_⟩⟩
  ·have he:(!decide (Ga c.1 xs[j]=xs[j]))=true:=he
   rw [if_pos he] at hR
   exact hR
  ·have he:(!decide (Ga c.1 xs[j]=xs[j]))=false:=he
   rw [if_neg (by rw [he];decide)] at hR
   rw [At (by omega)]
   exact hK hl _ rfl (by push_cast;exact hR)
 ·have:j=xs.length:=by omega
  subst this
  rw [List.drop_length] at hR
  exact hR
theorem Ay6:Sound Try.prog 144 Amn:=
 Sound.mkS Bw (Ad Ave Ax) mixed Try.func144 (by kernel_rfl) (by kernel_rfl) fun x h=>Bdr x.1 x.2.1 h
theorem Bdm (xs:List Int) (c:List Int×Unit) (h:short xs∧short c.1∧Hj (List.length c.1) xs):fnW tab (look [(144,Amn)]) Amj Try.f103 (xs,c,()) (fun (z:Bool)=>z=List.any xs (fun y=>!decide (Ga c.1 y=y))):=by
 refine Eq.mp (Be2 xs c _) ⟨_,if_pos h,?_⟩
 rw [Bool.eq_iff_iff,decide_eq_true_iff]
 exact Ye _ xs 0 (Int.le_refl 0)
theorem Ay2:Sound Try.prog 103 Amj:=
 Sound.mkS Bw (Ad Ay6 Ax) mixed Try.func103 (by kernel_rfl) (by kernel_rfl) fun x h=>Bdm x.1 x.2.1 h
theorem As2 (g s:List Int) (h:short g∧short s∧Hj s.length g):fnW tab (look [(103,Amj)]) Ee Try.f56 (g,s,()) (fun (z:Bool)=>z=Adc g s):=by
 refine Eq.mp (At2 g s _) ⟨_,if_pos h,?_⟩
 dsimp only
 unfold Adc
 rw [List.any_eq_not_all_not,Bool.not_not]
 simp only [Bool.not_not]
theorem Agy:Sound Try.prog 56 Ee:=
 Sound.mkS Bw (Ad Ay2 Ax) mixed Try.func56 (by kernel_rfl) (by kernel_rfl) fun x h=>As2 x.1 x.2.1 h
theorem Aem {p:PP} {s:List Int} :Ix p s=true↔Ex p=true∧s∈Eh p:=by
 unfold Ix;rw [Bool.and_eq_true,decide_eq_true_iff]
theorem Atw {p:PP} {s:List Int} :(Po p s).2.2.1=Ix p s:=by
 unfold Po Arc Ix
 by_cases hw:Ex p=true
 ·rw [if_pos hw,hw,Bool.true_and]
  by_cases hm:s∈Eh p
  ·rw [if_pos hm,decide_eq_true hm]
  ·rw [if_neg hm,decide_eq_false hm]
 ·rw [if_neg hw,Bool.not_eq_true _|>.mp hw,Bool.false_and]
theorem Aqs {p:PP} {g s:List Int} (hf:Ix p s=true) (hg:Gm p.1 g=true):Hj s.length g:=by
 obtain ⟨hw,hm⟩:=Aem.1 hf
 have hv:=(Lj hw).1
 have h1:=(Bc8 hv hm).1
 have hn:=(valid hv).n
 have h2:=Asr (p:=p) (t:=g) (Zd.2 ⟨hv,hg⟩)
 intro y hy
 have:=h2.2 y hy
 omega
theorem Akf (p:PP) (g s:List Int) (h:Dn p∧short g∧short s):fnW tab (look [(54,Pr),(55,Ed),(56,Ee)]) Gg Try.f19 (p,g,s,()) (fun (z:Bool)=>z=Mq p g s):=by
 refine Eq.mp (Al5 p g s _) ⟨_,if_pos ⟨h.1,h.2.2⟩,?_⟩
 rw [show (Po (p.1,p.2.1,p.2.2.1,()) s).2.2.1=Ix p s from Atw]
 unfold Mq
 refine Br.of (fun hf=>?_) fun hf=>by rw [hf,Bool.false_and,Bool.false_and]
 have hn:=(valid (Lj (Aem.1 hf).1).1).n
 rw [hf,Bool.true_and]
 refine ⟨_,if_pos ⟨by show nOK p.1;unfold nOK;omega,h.2.1⟩,Br.of (fun hg=>?_) fun hg=>?_⟩
 ·have hg:Gm p.1 g=true:=hg
  rw [hg,Bool.true_and]
  exact ⟨_,if_pos ⟨h.2.1,h.2.2,Aqs hf hg⟩,rfl⟩
 ·have hg:Gm p.1 g=false:=hg
  rw [hg,Bool.false_and]
theorem Adu:Sound Try.prog 19 Gg:=
 Sound.mkS Bw (Ad Aks (Ad Agu (Ad Agy Ax))) mixed Try.func19 (by kernel_rfl) (by kernel_rfl) fun x h=>Akf x.1 x.2.1 x.2.2.1 h
theorem Aup (p:PP) (h:Dn p):fnW tab (look [(99,Ei),(106,Bp),(105,Cp)]) Na Try.f57 (p,()) (fun (z:SS×Bool×Unit)=>z=Uy p):=by
 refine Eq.mp (Avs p _) ⟨_,if_pos h,?_⟩
 show Br (!Bd p) _ _
 unfold Uy
 by_cases hv:Bd p=true
 ·rw [if_pos hv,hv]
  refine ⟨fun hb=>by simp at hb,fun _=>?_⟩
  have hn:=(valid hv).n
  have hid:Bp.fn (p.1,())=some (upto p.1.toNat):=if_pos ⟨by show 0≤p.1;omega,by show p.1≤20;omega⟩
  have hup: ∀y∈upto p.1.toNat,0≤y∧y<p.1:=fun y hy=>by have:=Ih.1 hy;omega
  have hfr:Cp.fn ((p.1,p.2.1,p.2.2.1,()),upto p.1.toNat,())=some (Gp p.2.2.1 (upto p.1.toNat)):=if_pos ⟨hv,by show (upto p.1.toNat).length≤20;rw [Ra];omega,hup⟩
  have hz:(((Gp p.2.2.1 (upto p.1.toNat)).1,(Gp p.2.2.1 (upto p.1.toNat)).2.1,(Gp p.2.2.1 (upto p.1.toNat)).2.2.1,(Gp p.2.2.1 (upto p.1.toNat)).2.2.2.1,()),(Gp p.2.2.1 (upto p.1.toNat)).2.2.2.1,())=(Gp p.2.2.1 (upto p.1.toNat),Ex p,()):=by
   unfold Ex
   rw [hv,Bool.true_and]
   rfl
  repeat' (first|exact hz|refine ⟨_,hid,?_⟩|refine ⟨_,hfr,?_⟩|refine ⟨?_,?_⟩)
 ·rw [if_neg hv]
  refine ⟨fun _=>rfl,fun hb=>?_⟩
  exact absurd (by simpa using hb) hv
theorem Ajk:Sound Try.prog 57 Na:=
 Sound.mkS Bw (Ad Nc (Ad Ajf (Ad Asi Ax))) mixed Try.func57 (by kernel_rfl) (by kernel_rfl) fun x h=>Aup x.1 h
theorem Axk (p:PP) (f:SS) (s:List Int) (h:Dn p∧short s∧Bd p=true∧f=Gp p.2.2.1 (upto p.1.toNat)):fnW tab (look [(118,Pw),(69,Lw)]) Ps Try.f68 (p,f,s,()) (fun (z:Bool)=>z=decide (s∈Eh p)):=by
 obtain ⟨hp,hs,hv,rfl⟩:=h
 refine Eq.mp (Ayi p _ s _) ⟨_,if_pos ⟨hp,hs⟩,?_⟩
 show Br (Bd p&&Dh p.1 s) _ _
 rw [hv,Bool.true_and]
 refine Br.of (fun hb=>?_) fun hb=>?_
 ·have hpm:=Az4 (valid hv) hb
  refine ⟨_,if_pos (by show Cm s.length (Eh p) (Qy (Eh p));rw [hpm.1];exact (Bac hv).ok),?_⟩
  show decide (Aap (Eh p) s≥0)=_
  unfold Aap
  split
  ·rename_i hm
   rw [decide_eq_true hm]
   exact decide_eq_true (by omega)
  ·rename_i hm
   rw [decide_eq_false hm]
   rfl
 ·exact (decide_eq_false fun hm=>by rw [Bab hv hm] at hb;cases hb).symm
theorem Aku:Sound Try.prog 68 Ps:=
 Sound.mkS Bw (Ad Ady (Ad Adw Ax)) mixed Try.func68 (by kernel_rfl) (by kernel_rfl) fun x h=>Axk x.1 x.2.1 x.2.2.1 h
theorem Aob (p:PP) (s:List Int) (h:Dn p∧short s):fnW tab (look [(57,Na),(68,Ps)]) Jm Try.f52 (p,s,()) (fun (z:Bool)=>z=Ix p s):=by
 refine Eq.mp (Apj p s _) ⟨_,if_pos h.1,?_⟩
 dsimp only
 unfold Ix Uy
 by_cases hv:Bd p=true
 ·rw [if_pos hv]
  show Br (Ex p) _ _
  refine Br.of (fun hw=>?_) fun hw=>by rw [hw,Bool.false_and]
  rw [hw,Bool.true_and]
  exact ⟨_,if_pos ⟨h.1,h.2,hv,rfl⟩,rfl⟩
 ·rw [if_neg hv]
  refine ⟨fun hb=>by simp at hb,fun _=>?_⟩
  have:Ex p=false:=by unfold Ex;rw [Bool.not_eq_true _|>.mp hv,Bool.false_and]
  rw [this,Bool.false_and]
theorem Afh:Sound Try.prog 52 Jm:=
 Sound.mkS Bw (Ad Ajk (Ad Aku Ax)) mixed Try.func52 (by kernel_rfl) (by kernel_rfl) fun x h=>Aob x.1 x.2.1 h
theorem As0 (g s:List Int) (h:short g∧short s∧Hj s.length g):fnW tab (look []) Ee Try.f53 (g,s,()) (fun (z:Bool)=>z=Adc g s):=by
 obtain ⟨hg,hs,hr⟩:=h
 unfold short at hg
 refine Eq.mp (At0 g s _) ?_
 refine Az g.length (fun v=>v.1) (fun j _=>Adc (g.drop j) s=Adc g s) rfl (by simp) ?_
 rintro j ⟨i,⟨⟩⟩ K hj hi hR hK
 dsimp only at hi⊢
 subst hi
 refine Br.dec (fun hl=>?_) fun hl=>?_
 ·have hl:j<g.length:=by omega
  have h1:=Azh hr hl
  obtain ⟨xn,hx⟩:=Int.eq_ofNat_of_zero_le h1.1
  rw [List.drop_eq_getElem_cons hl] at hR
  unfold Adc at hR
  rw [List.all_cons] at hR
  have e:Ga s g[j]=s[xn]'(by omega):=by unfold Ga;rw [hx,Int.toNat_natCast,Aw9]
  refine ⟨_,Bc hl,s[xn]'(by omega),by rw [hx];exact Bc (by omega),_,Bc hl,Br.of (fun hb=>?_) fun hb=>?_⟩
  ·have hb:s[xn]'(by omega)≠g[j]:=by simpa using hb
   rw [e,decide_eq_false hb,Bool.false_and] at hR
   exact hR
  ·have hb:s[xn]'(by omega)=g[j]:=by simpa using hb
   rw [e,decide_eq_true hb,Bool.true_and] at hR
   rw [At (by omega)]
   exact hK hl _ rfl hR
 ·have:j=g.length:=by omega
  subst this
  rw [List.drop_length] at hR
  exact hR
theorem Agw:Sound Try.prog 53 Ee:=
 Sound.mkS Bw Ax mixed Try.func53 (by kernel_rfl) (by kernel_rfl) fun x h=>As0 x.1 x.2.1 h
theorem Akj (p:PP) (g s:List Int) (h:Dn p∧short g∧short s):fnW tab (look [(51,Jo),(52,Jm),(53,Ee)]) Gg Try.f16 (p,g,s,()) (fun (z:Bool)=>z=Mq p g s):=by
 have e:Mq p g s=(Hk p g&&(Ix p s&&Adc g s)):=by
  unfold Mq Hk
  cases hf:Ix p s with
  |false=>simp
  |true=>
   rw [(Lj (Aem.1 hf).1).1]
   simp
 refine Eq.mp (Al9 p g s _) ⟨_,if_pos ⟨h.1,h.2.1⟩,?_⟩
 rw [e]
 refine Br.of (fun ht=>?_) fun ht=>?_
 ·have ht:Hk p g=true:=ht
  rw [ht,Bool.true_and]
  refine ⟨_,if_pos ⟨h.1,h.2.2⟩,Br.of (fun hf=>?_) fun hf=>?_⟩
  ·have hf:Ix p s=true:=hf
   rw [hf,Bool.true_and]
   exact ⟨_,if_pos ⟨h.2.1,h.2.2,Aqs hf (Zd.1 ht).2⟩,rfl⟩
  ·have hf:Ix p s=false:=hf
   rw [hf,Bool.false_and]
 ·have ht:Hk p g=false:=ht
  rw [ht,Bool.false_and]
theorem Adz:Sound Try.prog 16 Gg:=
 Sound.mkS Bw (Ad Ae0 (Ad Afh (Ad Agw Ax))) mixed Try.func16 (by kernel_rfl) (by kernel_rfl) fun x h=>Akj x.1 x.2.1 x.2.2.1 h
theorem Aoa (p:PP) (a:List Int) (b:List Int) (h:Dn p∧short a∧short b):fnW tab (look [(15,Amp),(16,Gg),(19,Gg),(17,Age),(18,Ru),(20,Amk),(21,Cr)]) Af8 Try.f3 (p,a,b,()) (fun (z:Bool)=>z=true):=by
 have h0:Dn (p.1,p.2.1,p.2.2.1,()):=h.1
 have h1:short a:=h.2.1
 have h2:short b:=h.2.2
 refine Eq.mp (Api p a b _) ?_
 refine Br.dec (fun _=>rfl) fun hl_a=>?_
 refine Br.dec (fun _=>rfl) fun hl_b=>?_
 refine ⟨_,if_pos ⟨h0,As7⟩,Br.dec (fun _=>rfl) fun hs_p=>?_⟩
 have hz_p:(((Nm p.2.2.1:Nat):Nat):Int)≤(1048576)-(Yg (p.1,p.2.1,p.2.2.1,()) (1048576))∧roomy (Yg (p.1,p.2.1,p.2.2.1,()) (1048576)):=Baf As7 hs_p
 have hy_p:=hz_p.1
 have hr_p:0≤Yg (p.1,p.2.1,p.2.2.1,()) (1048576)∧Yg (p.1,p.2.1,p.2.2.1,()) (1048576)≤4294967296:=hz_p.2
 have l0:low (1+(Nm p.2.2.1:Nat)):=⟨by omega,by omega⟩
 have l1:low (1+(Nm p.2.2.1:Nat)+(a.length:Nat)):=⟨by omega,by omega⟩
 have l2:low (1+(Nm p.2.2.1:Nat)+(a.length:Nat)+(b.length:Nat)):=⟨by omega,by omega⟩
 refine ⟨_,if_pos h0,_,if_pos h1,_,if_pos h2,?_⟩
 try simp only [Cx]
 refine ⟨_,if_pos ⟨h0,h1,h2⟩,_,if_pos h0,_,if_pos h1,_,if_pos h2,?_⟩
 try simp only [Cx]
 generalize he0:Mq p a b=g0
 refine ⟨_,if_pos ⟨h0,h1,h2⟩,?_⟩
 simp only [Cx,he0]
 refine ⟨fun he=>Awt he,fun _=>?_⟩
 refine ⟨_,if_pos h0,_,if_pos h0,⟨fun he=>absurd (Aua _) (Dx he),fun _=>?_⟩⟩
 refine ⟨_,if_pos h1,?_⟩
 try simp only [Cx]
 refine ⟨_,if_pos h1,⟨fun he=>absurd (To _) (Dx he),fun _=>?_⟩⟩
 refine ⟨_,if_pos h2,?_⟩
 try simp only [Cx]
 refine ⟨_,if_pos h2,⟨fun he=>absurd (To _) (Dx he),fun _=>?_⟩⟩
 first|rfl|trivial
theorem Afg:Sound Try.prog 3 Af8:=
 Sound.mkS Bw (Ad Ay8 (Ad Adz (Ad Adu (Ad Ay9 (Ad Amu (Ad Ay3 (Ad Amt Ax))))))) mixed Try.func3 (by kernel_rfl) (by kernel_rfl) fun x h=>Aoa x.1 x.2.1 x.2.2.1 h
end Go.Proofs.Ytebabhocakedaaa
